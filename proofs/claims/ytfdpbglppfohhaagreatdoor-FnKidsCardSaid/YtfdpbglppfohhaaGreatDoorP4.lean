/-
  Part of a proof: Go functions read by values, trees of functions, their contracts.
-/
import Derived.Test.YtfdpbglppfohhaaGreatDoorP3
import Derived.Shelf.Lays
import Derived.Shelf.LaysM
import Derived.Shelf.Strconv.Itoa3
import Derived.Shelf.Strconv.Atoi
import Derived.Shelf.Strings.SlTrimAscii
import Derived.Shelf.Strings.Search3
import Derived.Test.YtfdpbglppfohhaaGreatDoorProg
set_option linter.unusedVariables false
set_option linter.unusedSimpArgs false
open And renaming intro→aI
open ByteArray renaming extract→ck,size→ae,toList→af
open Int renaming tmod→dG,toNat→bI
namespace Go.Proofs
open Go.Shelf
def Tryz.vw:Go.Shelf.Ren:=⟨fun|160=>184|232=>197|231=>196|227=>198|234=>200|233=>199|236=>202|235=>201|228=>208|271=>211|151=>210|197=>209|120=>221|152=>220|260=>219|137=>231|119=>232|224=>229|225=>228|217=>227|266=>235|n=>n,fun|9=>9|4=>4|3=>3|5=>5|117=>228|116=>227|0=>0|124=>231|21=>21|105=>242|46=>235|119=>263|139=>266|138=>265|n=>n,fun|3=>4|4=>5|n=>n⟩
theorem Tryz.CF:Go.Proofs.Lays.n160 Tryz.prog Tryz.vw:={
 mixed:=by kernel_rfl,
 f119:=Tryz.func232.trans (congrArg some (by kernel_rfl)),
 f120:=Tryz.func221.trans (congrArg some (by kernel_rfl)),
 f137:=Tryz.func231.trans (congrArg some (by kernel_rfl)),
 f151:=Tryz.func210.trans (congrArg some (by kernel_rfl)),
 f152:=Tryz.func220.trans (congrArg some (by kernel_rfl)),
 f160:=Tryz.func184.trans (congrArg some (by kernel_rfl)),
 f197:=Tryz.func209.trans (congrArg some (by kernel_rfl)),
 f217:=Tryz.func227.trans (congrArg some (by kernel_rfl)),
 f224:=Tryz.func229.trans (congrArg some (by kernel_rfl)),
 f225:=Tryz.func228.trans (congrArg some (by kernel_rfl)),
 f227:=Tryz.func198.trans (congrArg some (by kernel_rfl)),
 f228:=Tryz.func208.trans (congrArg some (by kernel_rfl)),
 f231:=Tryz.func196.trans (congrArg some (by kernel_rfl)),
 f232:=Tryz.func197.trans (congrArg some (by kernel_rfl)),
 f233:=Tryz.func199.trans (congrArg some (by kernel_rfl)),
 f234:=Tryz.func200.trans (congrArg some (by kernel_rfl)),
 f235:=Tryz.func201.trans (congrArg some (by kernel_rfl)),
 f236:=Tryz.func202.trans (congrArg some (by kernel_rfl)),
 f260:=Tryz.func219.trans (congrArg some (by kernel_rfl)),
 f266:=Tryz.func235.trans (congrArg some (by kernel_rfl)),
 f271:=Tryz.func211.trans (congrArg some (by kernel_rfl)),
 t0:=Tryz.underlying0,
 a0:=Tryz.isAgg0,
 z0:=Tryz.sizeOf0,
 v0:=Tryz.zeroValue0,
 t3:=Tryz.underlying3,
 a3:=Tryz.isAgg3,
 z3:=Tryz.sizeOf3,
 v3:=Tryz.zeroValue3,
 t4:=Tryz.underlying4,
 a4:=Tryz.isAgg4,
 z4:=Tryz.sizeOf4,
 v4:=Tryz.zeroValue4,
 t5:=Tryz.underlying5,
 a5:=Tryz.isAgg5,
 z5:=Tryz.sizeOf5,
 v5:=Tryz.zeroValue5,
 t9:=Tryz.underlying9,
 a9:=Tryz.isAgg9,
 z9:=Tryz.sizeOf9,
 v9:=Tryz.zeroValue9,
 t21:=Tryz.underlying21,
 a21:=Tryz.isAgg21,
 z21:=Tryz.sizeOf21,
 v21:=Tryz.zeroValue21,
 t46:=Tryz.underlying235,
 a46:=Tryz.isAgg235,
 z46:=Tryz.sizeOf235,
 v46:=Tryz.zeroValue235,
 t105:=Tryz.underlying242,
 a105:=Tryz.isAgg242,
 z105:=Tryz.sizeOf242,
 v105:=Tryz.zeroValue242,
 t116:=Tryz.underlying227,
 a116:=Tryz.isAgg227,
 z116:=Tryz.sizeOf227,
 t117:=Tryz.underlying228,
 a117:=Tryz.isAgg228,
 z117:=Tryz.sizeOf228,
 v117:=Tryz.zeroValue228,
 t119:=Tryz.underlying263,
 a119:=Tryz.isAgg263,
 z119:=Tryz.sizeOf263,
 t124:=Tryz.underlying231,
 a124:=Tryz.isAgg231,
 z124:=Tryz.sizeOf231,
 v124:=Tryz.zeroValue231,
 t138:=Tryz.underlying265,
 a138:=Tryz.isAgg265,
 z138:=Tryz.sizeOf265,
 v138:=Tryz.zeroValue265,
 t139:=Tryz.underlying266,
 a139:=Tryz.isAgg266,
 z139:=Tryz.sizeOf266,
 v139:=Tryz.zeroValue266,
 g3:=by kernel_rfl,
 g4:=by kernel_rfl}
def Tryz.u4:Go.Shelf.Ren:=⟨fun|144=>195|143=>207|219=>218|217=>227|225=>228|224=>229|267=>230|266=>235|314=>236|n=>n,fun|9=>9|4=>4|3=>3|5=>5|46=>235|146=>269|51=>258|n=>n,fun|1=>3|n=>n⟩
theorem Tryz.DN:Go.Proofs.Lays.n144 Tryz.prog Tryz.u4:={
 mixed:=by kernel_rfl,
 f143:=Tryz.func207.trans (congrArg some (by kernel_rfl)),
 f144:=Tryz.func195.trans (congrArg some (by kernel_rfl)),
 f217:=Tryz.func227.trans (congrArg some (by kernel_rfl)),
 f219:=Tryz.func218.trans (congrArg some (by kernel_rfl)),
 f224:=Tryz.func229.trans (congrArg some (by kernel_rfl)),
 f225:=Tryz.func228.trans (congrArg some (by kernel_rfl)),
 f266:=Tryz.func235.trans (congrArg some (by kernel_rfl)),
 f267:=Tryz.func230.trans (congrArg some (by kernel_rfl)),
 f314:=Tryz.func236.trans (congrArg some (by kernel_rfl)),
 t3:=Tryz.underlying3,
 a3:=Tryz.isAgg3,
 z3:=Tryz.sizeOf3,
 v3:=Tryz.zeroValue3,
 t4:=Tryz.underlying4,
 a4:=Tryz.isAgg4,
 z4:=Tryz.sizeOf4,
 v4:=Tryz.zeroValue4,
 t5:=Tryz.underlying5,
 a5:=Tryz.isAgg5,
 z5:=Tryz.sizeOf5,
 v5:=Tryz.zeroValue5,
 t9:=Tryz.underlying9,
 a9:=Tryz.isAgg9,
 z9:=Tryz.sizeOf9,
 v9:=Tryz.zeroValue9,
 t46:=Tryz.underlying235,
 a46:=Tryz.isAgg235,
 z46:=Tryz.sizeOf235,
 v46:=Tryz.zeroValue235,
 t51:=Tryz.underlying258,
 a51:=Tryz.isAgg258,
 z51:=Tryz.sizeOf258,
 v51:=Tryz.zeroValue258,
 t146:=Tryz.underlying269,
 a146:=Tryz.isAgg269,
 z146:=Tryz.sizeOf269,
 v146:=Tryz.zeroValue269,
 g1:=by kernel_rfl}
def Tryz.u5:Go.Shelf.Ren:=⟨fun|172=>130|244=>163|245=>164|247=>185|279=>186|280=>187|281=>188|282=>189|287=>203|316=>204|171=>174|205=>205|321=>212|322=>213|243=>193|246=>206|283=>214|284=>215|285=>216|286=>217|129=>223|317=>222|318=>224|319=>225|320=>226|337=>233|338=>234|n=>n,fun|9=>9|3=>3|75=>164|76=>165|4=>4|5=>5|167=>217|37=>48|0=>0|85=>218|2=>2|168=>220|53=>232|175=>233|46=>235|210=>238|127=>246|145=>249|143=>247|21=>21|171=>250|173=>253|212=>257|51=>258|20=>20|213=>259|232=>271|233=>272|80=>81|n=>n,fun|15=>0|16=>1|17=>2|18=>6|19=>7|n=>n⟩
theorem Tryz.CB:Go.Proofs.Lays.n172 Tryz.prog Tryz.u5:={
 mixed:=by kernel_rfl,
 f129:=Tryz.func223.trans (congrArg some (by kernel_rfl)),
 f171:=Tryz.func174.trans (congrArg some (by kernel_rfl)),
 f172:=Tryz.func130.trans (congrArg some (by kernel_rfl)),
 f205:=Tryz.func205.trans (congrArg some (by kernel_rfl)),
 f243:=Tryz.func193.trans (congrArg some (by kernel_rfl)),
 f244:=Tryz.func163.trans (congrArg some (by kernel_rfl)),
 f245:=Tryz.func164.trans (congrArg some (by kernel_rfl)),
 f246:=Tryz.func206.trans (congrArg some (by kernel_rfl)),
 f247:=Tryz.func185.trans (congrArg some (by kernel_rfl)),
 f279:=Tryz.func186.trans (congrArg some (by kernel_rfl)),
 f280:=Tryz.func187.trans (congrArg some (by kernel_rfl)),
 f281:=Tryz.func188.trans (congrArg some (by kernel_rfl)),
 f282:=Tryz.func189.trans (congrArg some (by kernel_rfl)),
 f283:=Tryz.func214.trans (congrArg some (by kernel_rfl)),
 f284:=Tryz.func215.trans (congrArg some (by kernel_rfl)),
 f285:=Tryz.func216.trans (congrArg some (by kernel_rfl)),
 f286:=Tryz.func217.trans (congrArg some (by kernel_rfl)),
 f287:=Tryz.func203.trans (congrArg some (by kernel_rfl)),
 f316:=Tryz.func204.trans (congrArg some (by kernel_rfl)),
 f317:=Tryz.func222.trans (congrArg some (by kernel_rfl)),
 f318:=Tryz.func224.trans (congrArg some (by kernel_rfl)),
 f319:=Tryz.func225.trans (congrArg some (by kernel_rfl)),
 f320:=Tryz.func226.trans (congrArg some (by kernel_rfl)),
 f321:=Tryz.func212.trans (congrArg some (by kernel_rfl)),
 f322:=Tryz.func213.trans (congrArg some (by kernel_rfl)),
 f337:=Tryz.func233.trans (congrArg some (by kernel_rfl)),
 f338:=Tryz.func234.trans (congrArg some (by kernel_rfl)),
 t0:=Tryz.underlying0,
 a0:=Tryz.isAgg0,
 z0:=Tryz.sizeOf0,
 v0:=Tryz.zeroValue0,
 t2:=Tryz.underlying2,
 a2:=Tryz.isAgg2,
 z2:=Tryz.sizeOf2,
 v2:=Tryz.zeroValue2,
 t3:=Tryz.underlying3,
 a3:=Tryz.isAgg3,
 z3:=Tryz.sizeOf3,
 v3:=Tryz.zeroValue3,
 t4:=Tryz.underlying4,
 a4:=Tryz.isAgg4,
 z4:=Tryz.sizeOf4,
 v4:=Tryz.zeroValue4,
 t5:=Tryz.underlying5,
 a5:=Tryz.isAgg5,
 z5:=Tryz.sizeOf5,
 v5:=Tryz.zeroValue5,
 t9:=Tryz.underlying9,
 a9:=Tryz.isAgg9,
 z9:=Tryz.sizeOf9,
 v9:=Tryz.zeroValue9,
 t20:=Tryz.underlying20,
 a20:=Tryz.isAgg20,
 z20:=Tryz.sizeOf20,
 v20:=Tryz.zeroValue20,
 t21:=Tryz.underlying21,
 a21:=Tryz.isAgg21,
 z21:=Tryz.sizeOf21,
 v21:=Tryz.zeroValue21,
 t37:=Tryz.underlying48,
 a37:=Tryz.isAgg48,
 z37:=Tryz.sizeOf48,
 v37:=Tryz.zeroValue48,
 t46:=Tryz.underlying235,
 a46:=Tryz.isAgg235,
 z46:=Tryz.sizeOf235,
 v46:=Tryz.zeroValue235,
 t51:=Tryz.underlying258,
 a51:=Tryz.isAgg258,
 z51:=Tryz.sizeOf258,
 v51:=Tryz.zeroValue258,
 t53:=Tryz.underlying232,
 a53:=Tryz.isAgg232,
 z53:=Tryz.sizeOf232,
 v53:=Tryz.zeroValue232,
 t75:=Tryz.underlying164,
 a75:=Tryz.isAgg164,
 z75:=Tryz.sizeOf164,
 v75:=Tryz.zeroValue164,
 t76:=Tryz.underlying165,
 a76:=Tryz.isAgg165,
 z76:=Tryz.sizeOf165,
 v76:=Tryz.zeroValue165,
 t85:=Tryz.underlying218,
 a85:=Tryz.isAgg218,
 z85:=Tryz.sizeOf218,
 v85:=Tryz.zeroValue218,
 t127:=Tryz.underlying246,
 a127:=Tryz.isAgg246,
 z127:=Tryz.sizeOf246,
 v127:=Tryz.zeroValue246,
 t143:=Tryz.underlying247,
 a143:=Tryz.isAgg247,
 z143:=Tryz.sizeOf247,
 v143:=Tryz.zeroValue247,
 t145:=Tryz.underlying249,
 a145:=Tryz.isAgg249,
 z145:=Tryz.sizeOf249,
 v145:=Tryz.zeroValue249,
 t167:=Tryz.underlying217,
 a167:=Tryz.isAgg217,
 z167:=Tryz.sizeOf217,
 v167:=Tryz.zeroValue217,
 t168:=Tryz.underlying220,
 a168:=Tryz.isAgg220,
 z168:=Tryz.sizeOf220,
 v168:=Tryz.zeroValue220,
 t171:=Tryz.underlying250,
 a171:=Tryz.isAgg250,
 z171:=Tryz.sizeOf250,
 v171:=Tryz.zeroValue250,
 t173:=Tryz.underlying253,
 a173:=Tryz.isAgg253,
 z173:=Tryz.sizeOf253,
 v173:=Tryz.zeroValue253,
 t175:=Tryz.underlying233,
 a175:=Tryz.isAgg233,
 z175:=Tryz.sizeOf233,
 v175:=Tryz.zeroValue233,
 t210:=Tryz.underlying238,
 a210:=Tryz.isAgg238,
 z210:=Tryz.sizeOf238,
 v210:=Tryz.zeroValue238,
 t212:=Tryz.underlying257,
 a212:=Tryz.isAgg257,
 z212:=Tryz.sizeOf257,
 v212:=Tryz.zeroValue257,
 t213:=Tryz.underlying259,
 a213:=Tryz.isAgg259,
 z213:=Tryz.sizeOf259,
 t232:=Tryz.underlying271,
 a232:=Tryz.isAgg271,
 z232:=Tryz.sizeOf271,
 v232:=Tryz.zeroValue271,
 t233:=Tryz.underlying272,
 a233:=Tryz.isAgg272,
 z233:=Tryz.sizeOf272,
 v233:=Tryz.zeroValue272,
 g15:=by kernel_rfl,
 g16:=by kernel_rfl,
 g17:=by kernel_rfl,
 g18:=by kernel_rfl,
 g19:=by kernel_rfl}
def Tryz.uA:Go.Shelf.Ren:=⟨fun|171=>174|243=>193|246=>206|283=>214|284=>215|285=>216|286=>217|129=>223|317=>222|318=>224|319=>225|320=>226|337=>233|338=>234|n=>n,fun|3=>3|9=>9|2=>2|4=>4|171=>250|0=>0|53=>232|37=>48|5=>5|173=>253|212=>257|51=>258|20=>20|213=>259|46=>235|232=>271|233=>272|n=>n,fun|17=>2|18=>6|19=>7|n=>n⟩
theorem Tryz.Bp:Go.Proofs.LaysM.n171 Tryz.prog Tryz.uA:={
 mixed:=by kernel_rfl,
 f129:=Tryz.func223.trans (congrArg some (by kernel_rfl)),
 f171:=Tryz.func174.trans (congrArg some (by kernel_rfl)),
 f243:=Tryz.func193.trans (congrArg some (by kernel_rfl)),
 f246:=Tryz.func206.trans (congrArg some (by kernel_rfl)),
 f283:=Tryz.func214.trans (congrArg some (by kernel_rfl)),
 f284:=Tryz.func215.trans (congrArg some (by kernel_rfl)),
 f285:=Tryz.func216.trans (congrArg some (by kernel_rfl)),
 f286:=Tryz.func217.trans (congrArg some (by kernel_rfl)),
 f317:=Tryz.func222.trans (congrArg some (by kernel_rfl)),
 f318:=Tryz.func224.trans (congrArg some (by kernel_rfl)),
 f319:=Tryz.func225.trans (congrArg some (by kernel_rfl)),
 f320:=Tryz.func226.trans (congrArg some (by kernel_rfl)),
 f337:=Tryz.func233.trans (congrArg some (by kernel_rfl)),
 f338:=Tryz.func234.trans (congrArg some (by kernel_rfl)),
 t0:=Tryz.underlying0,
 a0:=Tryz.isAgg0,
 z0:=Tryz.sizeOf0,
 v0:=Tryz.zeroValue0,
 t2:=Tryz.underlying2,
 a2:=Tryz.isAgg2,
 z2:=Tryz.sizeOf2,
 v2:=Tryz.zeroValue2,
 t3:=Tryz.underlying3,
 a3:=Tryz.isAgg3,
 z3:=Tryz.sizeOf3,
 v3:=Tryz.zeroValue3,
 t4:=Tryz.underlying4,
 a4:=Tryz.isAgg4,
 z4:=Tryz.sizeOf4,
 v4:=Tryz.zeroValue4,
 t5:=Tryz.underlying5,
 a5:=Tryz.isAgg5,
 z5:=Tryz.sizeOf5,
 v5:=Tryz.zeroValue5,
 t9:=Tryz.underlying9,
 a9:=Tryz.isAgg9,
 z9:=Tryz.sizeOf9,
 v9:=Tryz.zeroValue9,
 t20:=Tryz.underlying20,
 a20:=Tryz.isAgg20,
 z20:=Tryz.sizeOf20,
 v20:=Tryz.zeroValue20,
 t37:=Tryz.underlying48,
 a37:=Tryz.isAgg48,
 z37:=Tryz.sizeOf48,
 v37:=Tryz.zeroValue48,
 t46:=Tryz.underlying235,
 a46:=Tryz.isAgg235,
 z46:=Tryz.sizeOf235,
 v46:=Tryz.zeroValue235,
 t51:=Tryz.underlying258,
 a51:=Tryz.isAgg258,
 z51:=Tryz.sizeOf258,
 v51:=Tryz.zeroValue258,
 t53:=Tryz.underlying232,
 a53:=Tryz.isAgg232,
 z53:=Tryz.sizeOf232,
 v53:=Tryz.zeroValue232,
 t171:=Tryz.underlying250,
 a171:=Tryz.isAgg250,
 z171:=Tryz.sizeOf250,
 v171:=Tryz.zeroValue250,
 t173:=Tryz.underlying253,
 a173:=Tryz.isAgg253,
 z173:=Tryz.sizeOf253,
 v173:=Tryz.zeroValue253,
 t212:=Tryz.underlying257,
 a212:=Tryz.isAgg257,
 z212:=Tryz.sizeOf257,
 v212:=Tryz.zeroValue257,
 t213:=Tryz.underlying259,
 a213:=Tryz.isAgg259,
 z213:=Tryz.sizeOf259,
 t232:=Tryz.underlying271,
 a232:=Tryz.isAgg271,
 z232:=Tryz.sizeOf271,
 v232:=Tryz.zeroValue271,
 t233:=Tryz.underlying272,
 a233:=Tryz.isAgg272,
 z233:=Tryz.sizeOf272,
 v233:=Tryz.zeroValue272,
 g17:=by kernel_rfl,
 g18:=by kernel_rfl,
 g19:=by kernel_rfl,
 i0:=by kernel_rfl,
 i2:=by kernel_rfl,
 i3:=by kernel_rfl,
 i4:=by kernel_rfl,
 i5:=by kernel_rfl,
 i9:=by kernel_rfl,
 i20:=by kernel_rfl,
 i37:=by kernel_rfl,
 i46:=by kernel_rfl,
 i51:=by kernel_rfl,
 i53:=by kernel_rfl,
 i171:=by kernel_rfl,
 i173:=by kernel_rfl,
 i212:=by kernel_rfl,
 i232:=by kernel_rfl,
 i233:=by kernel_rfl,
 m17:=by kernel_rfl,
 m18:=by kernel_rfl,
 m19:=by kernel_rfl}
end Go.Proofs
namespace Go.Proofs.Trees
open Go Go.VL
noncomputable section
def Md:List (Nat×TI):=[
 (0,⟨false,[],false,0,.tuple [],false⟩),
 (2,⟨true,[.int .i64],false,8,.num .i64,false⟩),
 (3,⟨true,[.int .i64],false,8,.num .i64,false⟩),
 (4,⟨true,[.bool],false,1,.bl,false⟩),
 (5,⟨true,[.int .u8],false,1,.num .u8,false⟩),
 (9,⟨true,[.str],false,16,.str,false⟩),
 (20,⟨true,[.ky],false,16,.other,false⟩),
 (21,⟨true,[.int .i32],false,4,.num .i32,false⟩),
 (22,⟨true,[.sl],false,24,.slice 9,false⟩),
 (24,⟨true,[.str,.sl,.str],true,56,.struct [(0,9),(1,22),(2,9)],false⟩),
 (26,⟨true,[.sl],false,24,.slice 3,false⟩),
 (27,⟨false,[],false,0,.tuple [26,4],false⟩),
 (29,⟨true,[.str,.sl,.str],true,56,.struct [(0,9),(1,22),(2,9)],false⟩),
 (37,⟨true,[.sl,.str,.str],true,56,.struct [(0,26),(1,9),(2,9)],false⟩),
 (39,⟨false,[],false,0,.tuple [9,4],false⟩),
 (41,⟨true,[.sl,.str,.str],true,56,.struct [(0,26),(1,9),(2,9)],false⟩),
 (45,⟨false,[],false,0,.tuple [29,4],false⟩),
 (48,⟨true,[.sl],false,24,.slice 5,false⟩),
 (49,⟨false,[],false,0,.tuple [9,9],false⟩),
 (62,⟨true,[.ptr],false,8,.pt,true⟩),
 (64,⟨true,[.ptr],false,8,.pt,true⟩),
 (65,⟨true,[.sl],false,24,.slice 66,false⟩),
 (66,⟨true,[.ptr],false,8,.pt,true⟩),
 (68,⟨true,[.str,.ptr,.sl,.ptr],true,56,.struct [(0,9),(1,64),(2,65),(3,66)],false⟩),
 (79,⟨true,[.ptr],false,8,.pt,true⟩),
 (83,⟨true,[.sl],false,24,.slice 97,false⟩),
 (85,⟨true,[.sl],false,24,.slice 91,false⟩),
 (86,⟨false,[],false,0,.tuple [85,4],false⟩),
 (88,⟨false,[],false,0,.tuple [64,66],false⟩),
 (91,⟨true,[.str,.str],true,32,.struct [(0,9),(1,9)],false⟩),
 (97,⟨true,[.ptr,.ptr],true,16,.struct [(0,66),(1,66)],false⟩),
 (98,⟨true,[.ky],false,8,.other,false⟩),
 (105,⟨true,[.sl,.int .i64],true,32,.struct [(0,48),(1,3)],false⟩),
 (109,⟨true,[.int .u8,.str,.ptr,.ptr],true,40,.struct [(0,5),(1,9),(2,66),(3,66)],false⟩),
 (110,⟨true,[.ptr],false,8,.pt,true⟩),
 (112,⟨true,[.ptr,.ptr],true,16,.struct [(0,64),(1,110)],false⟩),
 (113,⟨true,[.ptr],false,8,.pt,true⟩),
 (114,⟨false,[],false,0,.tuple [112,113],false⟩),
 (118,⟨true,[.str,.ptr],true,24,.struct [(0,9),(1,113)],false⟩),
 (119,⟨true,[.sl],false,24,.slice 121,false⟩),
 (121,⟨true,[.str,.sl],true,40,.struct [(0,9),(1,119)],false⟩),
 (122,⟨false,[],false,0,.tuple [121,4],false⟩),
 (125,⟨true,[.sl],false,24,.slice 157,false⟩),
 (139,⟨true,[.int .u8,.str,.int .i64,.ptr,.ptr],true,48,.struct [(0,5),(1,9),(2,3),(3,64),(4,64)],false⟩),
 (140,⟨false,[],false,0,.tuple [64,4],false⟩),
 (144,⟨true,[.ptr,.ptr],true,16,.struct [(0,112)],false⟩),
 (146,⟨true,[.ptr,.ptr],true,16,.struct [(0,113),(1,110)],false⟩),
 (148,⟨true,[.ky],false,8,.other,false⟩),
 (149,⟨true,[.ky],false,8,.other,false⟩),
 (155,⟨true,[.sl],false,24,.slice 211,false⟩),
 (157,⟨true,[.str,.sl,.str,.sl],true,80,.struct [(0,121),(2,121)],false⟩),
 (160,⟨true,[.ptr],false,8,.pt,true⟩),
 (164,⟨true,[.ky],false,16,.other,false⟩),
 (165,⟨false,[],false,0,.tuple [3,164],false⟩),
 (172,⟨true,[.ky],false,8,.other,false⟩),
 (175,⟨true,[.ptr],false,8,.pt,true⟩),
 (177,⟨true,[.sl,.int .i64],true,32,.struct [(0,22),(1,3)],false⟩),
 (179,⟨true,[.ptr],false,8,.pt,true⟩),
 (181,⟨true,[.int .i64,.bool],true,16,.struct [(0,3),(1,4)],false⟩),
 (187,⟨false,[],false,0,.tuple [121,3],false⟩),
 (190,⟨false,[],false,0,.tuple [121,155],false⟩),
 (194,⟨false,[],false,0,.tuple [160,9],false⟩),
 (196,⟨true,[.sl],false,24,.slice 160,false⟩),
 (198,⟨true,[.str,.sl],true,40,.struct [(0,9),(1,196)],false⟩),
 (208,⟨true,[.ky],false,8,.other,false⟩),
 (211,⟨true,[.str,.str,.sl,.sl],true,80,.struct [(0,9),(1,121),(3,155)],false⟩),
 (214,⟨true,[.ky],false,8,.other,false⟩),
 (218,⟨false,[],false,0,.tuple [2,164],false⟩),
 (220,⟨true,[.ptr],false,8,.pt,true⟩),
 (228,⟨false,[],false,0,.tuple [227,4],false⟩),
 (231,⟨true,[.ptr],false,8,.pt,true⟩),
 (232,⟨true,[.int .u64],false,8,.num .u64,false⟩),
 (233,⟨false,[],false,0,.tuple [232,164],false⟩),
 (235,⟨true,[.int .u64],false,8,.num .u64,false⟩),
 (238,⟨true,[.str,.str,.ky],true,48,.struct [(0,9),(1,9),(2,164)],false⟩),
 (242,⟨false,[],false,0,.tuple [21,3],false⟩),
 (246,⟨true,[.ptr],false,8,.pt,true⟩),
 (247,⟨true,[.ptr],false,8,.pt,true⟩),
 (249,⟨true,[.str],true,16,.struct [(0,9)],false⟩),
 (250,⟨true,[.int .u8,.int .u8,.int .u8,.int .u8,.int .u8,.int .u8,.int .u8,.int .u8,.int .u8,.int .u8,.int .u8,.int .u8,.int .u8,.int .u8,.int .u8,.int .u8,.int .u8,.int .u8,.int .u8,.int .u8,.int .u8,.int .u8,.int .u8,.int .u8],true,24,.array 24 5,false⟩),
 (253,⟨false,[],false,0,.tuple [48,9],false⟩),
 (257,⟨true,[.int .u64,.int .u64,.int .u64,.int .u64,.int .u64,.int .u64,.int .u64,.int .u64,.int .u64,.int .u64,.int .u64,.int .u64,.int .u64,.int .u64,.int .u64,.int .u64,.int .u64,.int .u64,.int .u64,.int .u64],true,160,.array 20 232,false⟩),
 (258,⟨true,[.int .u32],false,4,.num .u32,false⟩),
 (265,⟨true,[.int .u8,.int .u8],true,2,.struct [(0,5),(1,5)],false⟩),
 (266,⟨true,[.int .u8,.int .u8,.int .u8,.int .u8,.int .u8,.int .u8,.int .u8,.int .u8,.int .u8,.int .u8,.int .u8,.int .u8,.int .u8,.int .u8,.int .u8,.int .u8,.int .u8,.int .u8,.int .u8,.int .u8,.int .u8,.int .u8,.int .u8,.int .u8,.int .u8,.int .u8,.int .u8,.int .u8,.int .u8,.int .u8,.int .u8,.int .u8],true,32,.array 16 265,false⟩),
 (269,⟨false,[],false,0,.tuple [258,258],false⟩),
 (271,⟨true,[.int .u8,.int .u8,.int .u8,.int .u8,.int .u8,.int .u8,.int .u8,.int .u8,.int .u8,.int .u8,.int .u8,.int .u8,.int .u8,.int .u8,.int .u8,.int .u8,.int .u8,.int .u8,.int .u8,.int .u8,.int .u8,.int .u8,.int .u8,.int .u8,.int .u8,.int .u8,.int .u8,.int .u8,.int .u8,.int .u8,.int .u8,.int .u8],true,32,.array 32 5,false⟩)]
def Jt(t:Nat):TI:=xI Md t
abbrev eu:Func:=Tryz.f86
abbrev qx:Func:=Tryz.f130
abbrev qz:Func:=Tryz.f174
abbrev qu:Func:=Tryz.f184
abbrev ns:Func:=Tryz.f195
def Q4:List (Nat×FC):=[(181,{mu:=[(1,.one (.obj [.vec 1]))],own:=[]}),(137,{mu:=[(2,.one (.vec))],own:=[0]}),(18200180,{mu:=[(1,.fn [some (.obj [.vec 1])])],own:=[]}),(112,{mu:=[(2,.one (.obj [.vec 2]))],own:=[]}),(11600112,{mu:=[(1,.fn [some (.obj [.lk .ptr])]),(2,.one (.obj [.vec 2]))],own:=[]}),(11700112,{mu:=[(1,.fn [some (.obj [.lk .ptr])]),(2,.one (.obj [.vec 2]))],own:=[]}),(11900112,{mu:=[(1,.fn [some (.obj [.lk .ptr])]),(2,.one (.obj [.vec 2]))],own:=[]}),(12100112,{mu:=[(1,.fn [some (.obj [.lk .ptr,.lk .ptr])]),(2,.one (.obj [.vec 2]))],own:=[]}),(115,{mu:=[(1,.one (.obj [.lk .ptr]))],own:=[]}),(116,{mu:=[(1,.one (.obj [.lk .ptr]))],own:=[]}),(118,{mu:=[(1,.one (.obj [.lk .ptr]))],own:=[]}),(120,{mu:=[(1,.one (.obj [.lk .ptr,.lk .ptr]))],own:=[]}),(176,{mu:=[(2,.sr 176 [none,some 0,some 1]),(3,.one (.obj [.lk .sl])),(4,.one (.obj [.lk (.int .i64)]))],own:=[]}),(126,{mu:=[(2,.one (.vec))],own:=[0]}),(81,{mu:=[(0,.one (.obj [.lk .sl,.lk (.int .i64)]))],own:=[]}),(143,{mu:=[(3,.one (.obj [.vec 1,.lk (.int .i64)]))],own:=[]}),(102,{mu:=[(0,.one (.obj [.lk .sl,.lk (.int .i64)]))],own:=[]}),(62,{mu:=[],own:=[0],ow:=[.sl,.int .i64]}),(16,{mu:=[(0,.one (.cE false [.vec 1]))],own:=[]}),(50,{mu:=[(0,.one (.cE false [.vec 1]))],own:=[]}),(146,{mu:=[(0,.one (.obj [.lk (.int .i64),.lk .bool]))],own:=[]}),(147,{mu:=[(0,.one (.obj [.lk (.int .i64),.lk .bool]))],own:=[]}),(148,{mu:=[(0,.one (.obj [.lk (.int .i64),.lk .bool]))],own:=[]}),(136,{mu:=[(0,.one (.obj [.lk .sl,.lk (.int .i64)]))],own:=[]}),(80,{mu:=[(0,.one (.obj [.lk .sl,.lk (.int .i64)]))],own:=[]}),(135,{mu:=[(0,.one (.obj [.lk .sl,.lk (.int .i64)]))],own:=[]}),(105,{mu:=[(0,.one (.obj [.lk .sl,.lk (.int .i64)]))],own:=[]}),(83,{mu:=[(0,.one (.obj [.lk .sl,.lk (.int .i64)]))],own:=[]}),(103,{mu:=[(0,.one (.obj [.lk .sl,.lk (.int .i64)]))],own:=[]}),(82,{mu:=[(0,.one (.obj [.lk .sl,.lk (.int .i64)]))],own:=[]}),(61,{mu:=[(0,.one (.obj [.lk .sl,.lk (.int .i64)]))],own:=[]}),(67,{mu:=[(0,.one (.obj [.lk .sl,.lk (.int .i64)]))],own:=[0],oa:=[.lk .str,.vec 1,.lk .str]}),(15,{mu:=[(0,.one (.cE true [.lk .str,.vec 1,.lk .str]))],own:=[]}),(27,{mu:=[],own:=[0],oa:=[.lk .str,.vec 1,.lk .str]}),(31,{mu:=[],own:=[0],oa:=[.lk .str,.vec 1,.lk .str]}),(55,{mu:=[],own:=[0],oa:=[.lk .str,.vec 1,.lk .str]}),(35,{mu:=[],own:=[0],oa:=[.lk .str,.vec 1,.lk .str]}),(24,{mu:=[],own:=[0],oa:=[.lk .str,.vec 1,.lk .str]}),(38,{mu:=[],own:=[0],oa:=[.lk .str,.vec 1,.lk .str]}),(58,{mu:=[],own:=[0],oa:=[.lk .str,.vec 1,.lk .str]}),(12,{mu:=[],own:=[0]}),(44,{mu:=[],own:=[0]}),(11,{mu:=[],own:=[0],oa:=[.lk .str,.vec 1,.lk .str]}),(54,{mu:=[],own:=[0]}),(20,{mu:=[],own:=[0],oa:=[.vec 1,.lk .str,.lk .str]}),(77,{mu:=[(1,.one (.obj [.lk .str]))],own:=[]}),(7800076,{mu:=[(1,.fn [some (.obj [.lk .str])])],own:=[]}),(48,{mu:=[(0,.one (.cE false [.vec 1]))],own:=[]}),(79,{mu:=[],own:=[0]}),(64,{mu:=[(0,.one (.ub [.lk .str,.vec 1,.lk .str]))],own:=[0],oa:=[.lk .str,.vec 1,.lk .str]}),(28,{mu:=[],own:=[0],oa:=[.lk .str,.vec 1,.lk .str]}),(57,{mu:=[],own:=[0],oa:=[.lk .str,.vec 1,.lk .str]}),(53,{mu:=[],own:=[0],oa:=[.lk .str,.vec 1,.lk .str]})]
def cI(f:Nat):FC:=Bs Q4 f
theorem CH:(Md.all fun p=>!p.2.kn||p.2.nv Tryz.prog p.1)=true:=by kernel_rfl
theorem tC:dj Tryz.prog Jt:=vU CH
theorem mixed:Tryz.prog.follows .mixedOrders=true:=by kernel_rfl
abbrev NZ(r:AV)(k:Tree):Tree:=.aj (LK.has .ptr r/\r.isNil=false) k
abbrev NP(r:AV)(k:Tree):Tree:=.aj (LK.has .ptr r) k
abbrev NS(r:AV)(k:Tree):Tree:=.aj (LK.has .str r) k
abbrev NB(r:AV)(k:Tree):Tree:=.aj (LK.has .bool r) k
abbrev NL(r:AV)(k:Tree):Tree:=.aj (LK.has .sl r) k
abbrev NI(r:AV)(k:Tree):Tree:=.aj (LK.has (.int .i64) r) k
abbrev dT(l:List AV)(k:Tree):Tree:=.aj (LK.has .ptr (l.headD .any)/\1<=l.length) k
abbrev lg(l:List AV)(k:Tree):Tree:=.aj (LK.has .str (l.headD .any)/\1<=l.length) k
abbrev ot(l:List AV)(k:Tree):Tree:=.aj (LK.has .sl (l.headD .any)/\1<=l.length) k
abbrev NT(r:AV)(k:Tree):Tree:=.aj (r=.cD [r.comp 0,r.comp 1]) k
abbrev NA(r:AV)(k:Tree):Tree:=.aj (r=.agg r.cs/\r.cs.length=2/\bH [.str,.sl] r.cs 0) k
abbrev NE(l:List AV)(k:Tree):Tree:=.aj (bH [.str,.sl] l 0/\2<=l.length) k
abbrev NG(r:AV)(i:Int)(z:Nat)(k:Tree):Tree:=.aj (LK.has .sl r/\0<=i/\i<r.aP.length/\(r.aP.getD i.toNat []).length=z) k
abbrev RL:Type:=Nat->List AV->List Ob->Prop
abbrev VS(x:ByteArray):AV:=.v (.string x)
abbrev VI(x:Int):AV:=.v (.int .i64 x)
abbrev VB(x:Bool):AV:=.v (.bool x)
abbrev _root_.List.hA(l:List AV):AV:=l.headD .any
abbrev _root_.List.hO(l:List Ob):Ob:=l.headD .dead
abbrev _root_.Go.VL.AV.ix(a:AV)(i:Int):List AV:=a.aP.getD i.toNat []
abbrev du(n:Nat)(t:Tree)(R:AV->List Ob->Prop):Prop:=eT Tryz.prog n t fun _ xs obs=>R (xs.headD .any) obs
abbrev kE(n:Nat)(t:Tree)(S:List AV->List Ob->RL->Prop)(R:RL):Prop:=eT Tryz.prog n t (Dm (fun ys o=>S ys o R) R)
theorem gQ{n:Nat}{c:Code}{li:LI}{xs:List AV}{obs:List Ob}{R:RL}{t:Tree}(lis:List (Nat×LI))(h:eT Tryz.prog n t (Dm (fun ys o=>cy Tryz.prog n c li ys o R) R))(e:round Jt cI n lis c li xs obs=t:=by kernel_rfl):cy Tryz.prog n c li xs obs R:=cy.Oc (cI:=cI) (lis:=lis) tC mixed e h
theorem RB(n:Nat)(t:Tree)(R:AV->List Ob->Prop):du n t R=eT Tryz.prog n t fun _ xs obs=>R (xs.headD .any) obs:=rfl
theorem QK(n:Nat)(t:Tree)(S:List AV->List Ob->RL->Prop)(R:RL):kE n t S R=eT Tryz.prog n t (Dm (fun ys o=>S ys o R) R):=rfl
theorem RU(x:ByteArray):VS x=.v (.string x):=rfl
theorem RW(x:Int):VI x=.v (.int .i64 x):=rfl
theorem Sf(x:Bool):VB x=.v (.bool x):=rfl
theorem R9(l:List AV):l.hA=l.headD .any:=rfl
theorem RX(l:List Ob):l.hO=l.headD .dead:=rfl
theorem R5(a:AV)(i:Int):a.ix i=a.aP.getD i.toNat []:=rfl
theorem oQ{f:Nat}{asq:List AV}{ins:List Ob}{R:AV->List Ob->Prop}{t:Tree}(lis:List (Nat×LI))(F:Func)(h:eT Tryz.prog F.ntmps t fun _ xs obs=>R (xs.headD .any) obs)(hf:Tryz.prog.funcs[f]?=some F:=by kernel_rfl)(hnm:(F.name=="runtime.NumGoroutine")=false:=by kernel_rfl)(e:main Jt cI lis {} F asq ins=t:=by kernel_rfl):aq Tryz.prog f asq ins R:=aq.Oc (cI:=cI) (lis:=lis) (fc:={}) tC mixed hf hnm e h
theorem oF{f:Nat}{asq:List AV}{ins:List Ob}{R:AV->List Ob->Prop}{t:Tree}(lis:List (Nat×LI))(fc:FC)(F:Func)(h:eT Tryz.prog F.ntmps t fun _ xs obs=>R (xs.headD .any) obs)(hf:Tryz.prog.funcs[f]?=some F:=by kernel_rfl)(hnm:(F.name=="runtime.NumGoroutine")=false:=by kernel_rfl)(e:main Jt cI lis fc F asq ins=t:=by kernel_rfl):aq Tryz.prog f asq ins R:=aq.Oc (cI:=cI) (lis:=lis) (fc:=fc) tC mixed hf hnm e h
theorem uQ{P:Program}{f:Nat}{asq bs:List AV}{R:AV->List Ob->Prop}(h:wv asq bs)(hf:aq P f bs [] R):aq P f asq [] R:=aq.nK cw (aq.up h hf)
theorem RZ(r:AV)(k:Tree):NZ r k=.aj (LK.has .ptr r/\r.isNil=false) k:=rfl
theorem RY(r:AV)(k:Tree):NP r k=.aj (LK.has .ptr r) k:=rfl
theorem Sc(r:AV)(k:Tree):NS r k=.aj (LK.has .str r) k:=rfl
theorem RV(r:AV)(k:Tree):NB r k=.aj (LK.has .bool r) k:=rfl
theorem R2(r:AV)(k:Tree):NL r k=.aj (LK.has .sl r) k:=rfl
theorem Si(r:AV)(k:Tree):NI r k=.aj (LK.has (.int .i64) r) k:=rfl
theorem QZ(l:List AV)(k:Tree):dT l k=.aj (LK.has .ptr (l.headD .any)/\1<=l.length) k:=rfl
theorem Q3(l:List AV)(k:Tree):lg l k=.aj (LK.has .str (l.headD .any)/\1<=l.length) k:=rfl
theorem QL(l:List AV)(k:Tree):ot l k=.aj (LK.has .sl (l.headD .any)/\1<=l.length) k:=rfl
theorem R3(r:AV)(k:Tree):NT r k=.aj (r=.cD [r.comp 0,r.comp 1]) k:=rfl
theorem Sa(r:AV)(k:Tree):NA r k=.aj (r=.agg r.cs/\r.cs.length=2/\bH [.str,.sl] r.cs 0) k:=rfl
theorem R8(l:List AV)(k:Tree):NE l k=.aj (bH [.str,.sl] l 0/\2<=l.length) k:=rfl
theorem R7(r:AV)(i:Int)(z:Nat)(k:Tree):NG r i z k=.aj (LK.has .sl r/\0<=i/\i<r.aP.length/\(r.aP.getD i.toNat []).length=z) k:=rfl
set_option linter.defProp false in
def zq:=aI @RZ (aI @RY (aI @Sc (aI @RV (aI @R2 (aI @Si (aI @QZ (aI @Q3 (aI @QL (aI @R3 (aI @Sa (aI @R8 (aI @R7 (aI @RB (aI @QK (aI @RU (aI @RW (aI @Sf ((aI @R9 (aI @RX (aI @R5 @zp)))))))))))))))))))))
variable {R:AV->List Ob->Prop} {U:RL}
def Gm:LI:={hd:={bX:=[(4,.k (.int .i64)),(7,.k .bool),(8,.k (.int .i64))],refs:=[(3,3)],co:=[(3,[.lk .str,.lk .sl,.lk .str])]},xs:={bX:=[(7,.k .bool)]},rt:={bX:=[(2,.k .bool)]},ex:=0}
def LH:Code:=cP (cH Tryz.f7) 10
def LW:List (Nat×LI):=[(10,Gm)]
def KE(a0:AV):Tree :=
 NL a0<|.test (decide ((a0.aP.length:Int)>(1048576:Int))) (.done 0 [VB true] []) (.call 32 [a0] [] fun r1 o1=>.aj (r1=.agg r1.cs/\r1.cs.length=3/\bH [.str,.sl,.str] r1.cs 0)<|.call 33 [.agg [VS ((r1.cs.getD 0 .any).ag),(r1.cs.getD 1 .any),VS ((r1.cs.getD 2 .any).ag)]] [] fun r2 o2=>NI r2<|.call 34 [.agg [VS ((r1.cs.getD 0 .any).ag),(r1.cs.getD 1 .any),VS ((r1.cs.getD 2 .any).ag)]] [] fun r3 o3=>NI r3<|.test (r2.toInt != r3.toInt) (.done 0 [VB (r2.toInt==r3.toInt)] []) (.test (decide (r2.toInt<(0:Int))) (.done 0 [VB (r2.toInt==r3.toInt)] []) (.call 35 [.agg [VS ((r1.cs.getD 0 .any).ag),(r1.cs.getD 1 .any),VS ((r1.cs.getD 2 .any).ag)],VI r2.toInt] [] fun r4 o4=>NT r4<|.aj ((r4.comp 0)=.agg (r4.comp 0).cs/\aM [.lk .str,.vec 1,.lk .str] ((r4.comp 0).cs) 0 0 o4)<|NB (r4.comp 1)<|.aj (∀x,x∈o4->fA x)<|.loop LH Gm [VI r2.toInt,VB ((r4.comp 1).toBool),VI 0] [.cells [VS ((r1.cs.getD 0 .any).ag),(r1.cs.getD 1 .any),VS ((r1.cs.getD 2 .any).ag)]] (fun y6 q6=>NB (y6.hA)<|.done 0 [VB (!((y6.hA).toBool))] []) (fun y6 q6=>NB (y6.hA)<|.done 0 [VB ((y6.hA).toBool)] []))))
theorem QJ(a0:AV)(ha0:LK.has .sl a0)(h:du 66 (KE a0) R):aq Tryz.prog 7 [a0] [] R :=
 uQ (ah (bT ha0) aD) (oQ LW Tryz.f7 h)
def Fi(x4:Int)(x7:Bool)(x8:Int)(o3_0:ByteArray)(o3_1:AV)(o3_2:ByteArray):Tree :=
 NI (VI x4)<|NB (VB x7)<|NI (VI x8)<|.aj (Ob.cells [VS o3_0,o3_1,VS o3_2]=.cells [VS o3_0,o3_1,VS o3_2])<|.aj (ac [.lk .str,.lk .sl,.lk .str] [VS o3_0,o3_1,VS o3_2] 0 [])<|.test (decide (x8<x4)) (NL o3_1<|.test (decide ((o3_1.aP.length:Int)<(50:Int))) (.call 35 [.agg [VS o3_0,o3_1,VS o3_2],VI x8] [] fun r1 o1=>NT r1<|.aj ((r1.comp 0)=.agg (r1.comp 0).cs/\aM [.lk .str,.vec 1,.lk .str] ((r1.comp 0).cs) 0 0 o1)<|NB (r1.comp 1)<|.aj (∀x,x∈o1->fA x)<|.test ((r1.comp 1).toBool) (NL o3_1<|.test ((((o1.hO).es).length:Int) != (IntKind.wrap .i64 ((o3_1.aP.length:Int)+1))) (.done 2 [VB false] []) (.done 0 [VI x4,VB x7,VI (IntKind.wrap .i64 (x8+1))] [.cells [VS o3_0,o3_1,VS o3_2]])) (.done 0 [VI x4,VB x7,VI (IntKind.wrap .i64 (x8+1))] [.cells [VS o3_0,o3_1,VS o3_2]])) (.done 1 [VB x7] [])) (.done 1 [VB x7] [])
abbrev Fb:=cy Tryz.prog 66 LH Gm
theorem Jh(x4:Int)(x7:Bool)(x8:Int)(o3_0:ByteArray)(o3_1:AV)(o3_2:ByteArray)(h:kE 66 (Fi x4 x7 x8 o3_0 o3_1 o3_2) Fb U):Fb [VI x4,VB x7,VI x8] [.cells [VS o3_0,o3_1,VS o3_2]] U :=
 gQ LW h
def Lv(a0:ByteArray)(a1:ByteArray):Tree :=
 .call 64 [.agg [VS a0,.vec 0,VS a1]] [.vec 1 []] fun r1 o1=>NT r1<|.aj ((r1.comp 0)=.agg (r1.comp 0).cs/\aM [.lk .str,.vec 1,.lk .str] ((r1.comp 0).cs) 0 1 o1.tail)<|NB (r1.comp 1)<|.done 0 [.cD [.agg [VS (((r1.comp 0).cs.getD 0 .any).ag),.vec 0,VS (((r1.comp 0).cs.getD 2 .any).ag)],VB ((r1.comp 1).toBool)]] [.vec 1 ((o1.tail.hO).es)]
theorem OR(a0:ByteArray)(a1:ByteArray)(h:du 13 (Lv a0 a1) R):aq Tryz.prog 28 [VS a0,VS a1] [] R :=
 uQ (ah (aA _) (ah (aA _) aD)) (oF [] {mu:=[],own:=[0],oa:=[.lk .str,.vec 1,.lk .str]} Tryz.f28 h)
def LX(a0:AV):Tree :=
 .call 62 [a0] [] fun r1 o1=>.aj (r1=.ref 0 0/\(o1.hO)=.cells (o1.hO).cs/\(o1.hO).cs.length=2/\bH [.sl,.int .i64] ((o1.hO).cs) 0)<|.call 67 [.ref 0 0] [.cells [((o1.hO).cs.getD 0 .any),VI (((o1.hO).cs.getD 1 .any).toInt)]] fun r2 o2=>.aj ((o2.hO)=.cells (o2.hO).cs)<|.aj (aM [.lk .sl,.lk (.int .i64)] ((o2.hO).cs) 0 1 o2.tail)<|.aj (r2=.agg r2.cs/\aM [.lk .str,.vec 1,.lk .str] r2.cs 0 1 o2.tail)<|.done 0 [.agg [VS ((r2.cs.getD 0 .any).ag),.sl ((o2.tail.hO).es),VS ((r2.cs.getD 2 .any).ag)]] []
theorem Om(a0:AV)(ha0:LK.has .sl a0)(h:du 6 (LX a0) R):aq Tryz.prog 32 [a0] [] R :=
 uQ (ah (bT ha0) aD) (oQ [] Tryz.f32 h)
def NV(a0_0:ByteArray)(a0_1:AV)(a0_2:ByteArray):Tree :=
 .call 45 [.agg [VS a0_0,a0_1,VS a0_2]] [] fun r1 o1=>NP r1<|NP r1<|.test r1.isNil (.done 0 [VI (-1)] []) (NZ r1<|NZ r1<|dT (r1.deref.drop 1)<|NZ r1<|NZ r1<|dT (r1.deref.drop 3)<|.call 68 [((r1.deref.drop 1).hA),((r1.deref.drop 3).hA)] [] fun r2 o2=>NL r2<|NL r2<|.done 0 [VI (r2.aP.length:Int)] [])
theorem QH(a0_0:ByteArray)(a0_1:AV)(a0_2:ByteArray)(ha0_1:LK.has .sl a0_1)(h:du 18 (NV a0_0 a0_1 a0_2) R):aq Tryz.prog 33 [.agg [VS a0_0,a0_1,VS a0_2]] [] R :=
 uQ (ah (ci (ah (aA _) (ah (bT ha0_1) (ah (aA _) aD)))) aD) (oQ [] Tryz.f33 h)
def Jb(a0_0:ByteArray)(a0_1:AV)(a0_2:ByteArray):Tree :=
 .call 41 [.agg [VS a0_0,a0_1,VS a0_2]] [] fun r1 o1=>NB r1<|.test (!r1.toBool) (.done 0 [VI (-1)] []) (.call 69 [VS a0_0,VS a0_2] [] fun r2 o2=>NT r2<|NL (r2.comp 0)<|NB (r2.comp 1)<|NL (r2.comp 0)<|.done 0 [VI (((r2.comp 0).aP).length:Int)] [])
theorem QV(a0_0:ByteArray)(a0_1:AV)(a0_2:ByteArray)(ha0_1:LK.has .sl a0_1)(h:du 18 (Jb a0_0 a0_1 a0_2) R):aq Tryz.prog 34 [.agg [VS a0_0,a0_1,VS a0_2]] [] R :=
 uQ (ah (ci (ah (aA _) (ah (bT ha0_1) (ah (aA _) aD)))) aD) (oQ [] Tryz.f34 h)
def JZ(a0_0:ByteArray)(a0_1:AV)(a0_2:ByteArray)(a1:Int):Tree :=
 .call 45 [.agg [VS a0_0,a0_1,VS a0_2]] [] fun r1 o1=>NP r1<|.call 59 [r1,VI a1] [] fun r2 o2=>NP r2<|.call 58 [r2] [] fun r3 o3=>NT r3<|.aj ((r3.comp 0)=.agg (r3.comp 0).cs/\aM [.lk .str,.vec 1,.lk .str] ((r3.comp 0).cs) 0 0 o3)<|NB (r3.comp 1)<|.aj (∀x,x∈o3->fA x)<|.done 0 [.cD [.agg [VS (((r3.comp 0).cs.getD 0 .any).ag),.vec 0,VS (((r3.comp 0).cs.getD 2 .any).ag)],VB ((r3.comp 1).toBool)]] [.vec 1 ((o3.hO).es)]
theorem Rv(a0_0:ByteArray)(a0_1:AV)(a0_2:ByteArray)(a1:Int)(ha0_1:LK.has .sl a0_1)(h:du 13 (JZ a0_0 a0_1 a0_2 a1) R):aq Tryz.prog 35 [.agg [VS a0_0,a0_1,VS a0_2],VI a1] [] R :=
 uQ (ah (ci (ah (aA _) (ah (bT ha0_1) (ah (aA _) aD)))) (ah (aA _) aD)) (oF [] {mu:=[],own:=[0],oa:=[.lk .str,.vec 1,.lk .str]} Tryz.f35 h)
def Kx(a0_0:ByteArray)(a0_1:AV)(a0_2:ByteArray):Tree :=
 .call 72 [.agg [VS a0_0,a0_1,VS a0_2]] [] fun r1 o1=>NB r1<|.test (!r1.toBool) (.done 0 [VB false] []) (.call 70 [.agg [VS a0_0,a0_1,VS a0_2]] [] fun r2 o2=>NT r2<|.aj ((r2.comp 0)=.agg (r2.comp 0).cs/\(r2.comp 0).cs.length=3/\bH [.str,.sl,.str] ((r2.comp 0).cs) 0)<|NB (r2.comp 1)<|.done 0 [VB ((r2.comp 1).toBool)] [])
theorem QB(a0_0:ByteArray)(a0_1:AV)(a0_2:ByteArray)(ha0_1:LK.has .sl a0_1)(h:du 14 (Kx a0_0 a0_1 a0_2) R):aq Tryz.prog 41 [.agg [VS a0_0,a0_1,VS a0_2]] [] R :=
 uQ (ah (ci (ah (aA _) (ah (bT ha0_1) (ah (aA _) aD)))) aD) (oQ [] Tryz.f41 h)
def ME(a0_0:ByteArray)(a0_1:AV)(a0_2:ByteArray):Tree :=
 NL a0_1<|.test ((a0_1.aP.length:Int)==(0:Int)) (.done 0 [.cD [.agg [VS a0_0,a0_1,VS a0_2],VB false]] []) (.aj (LK.has .sl a0_1/\0<=(IntKind.wrap .i64 ((a0_1.aP.length:Int)-1))/\(IntKind.wrap .i64 ((a0_1.aP.length:Int)-1))<a0_1.aP.length/\(a0_1.ix (IntKind.wrap .i64 ((a0_1.aP.length:Int)-1))).length=1)<|lg (a0_1.ix (IntKind.wrap .i64 ((a0_1.aP.length:Int)-1)))<|.call 73 [VS a0_0,VS (((a0_1.ix (IntKind.wrap .i64 ((a0_1.aP.length:Int)-1))).hA).ag),VS a0_2] [] fun r1 o1=>NT r1<|NS (r1.comp 0)<|NB (r1.comp 1)<|.aj (LK.has .sl a0_1/\0<=(0:Int)/\(0:Int)<=(IntKind.wrap .i64 ((a0_1.aP.length:Int)-1))/\(IntKind.wrap .i64 ((a0_1.aP.length:Int)-1))<=(a0_1.aP.length:Int))<|.aj (cv 1 ((a0_1.aP.take (bI (IntKind.wrap .i64 ((a0_1.aP.length:Int)-1)))).drop (bI 0))/\((([]:List (List AV)).length)+((a0_1.aP.take (bI (IntKind.wrap .i64 ((a0_1.aP.length:Int)-1)))).drop (bI 0)).length)*16<=140737488355328)<|.done 0 [.cD [.agg [VS a0_0,.sl (([]:List (List AV))++((a0_1.aP.take (bI (IntKind.wrap .i64 ((a0_1.aP.length:Int)-1)))).drop (bI 0))),VS ((r1.comp 0).ag)],VB ((r1.comp 1).toBool)]] [])
theorem Oy(a0_0:ByteArray)(a0_1:AV)(a0_2:ByteArray)(ha0_1:LK.has .sl a0_1)(h:du 39 (ME a0_0 a0_1 a0_2) R):aq Tryz.prog 43 [.agg [VS a0_0,a0_1,VS a0_2]] [] R :=
 uQ (ah (ci (ah (aA _) (ah (bT ha0_1) (ah (aA _) aD)))) aD) (oQ [] Tryz.f43 h)
def Ho:LI:={hd:={bX:=[(3,.k .ptr),(4,.k .ptr)]},xs:={bX:=[(3,.k .ptr)]},rt:={bX:=[(2,.k .ptr)]},ex:=0}
def M6:Code:=cP (cH Tryz.f45) 5
def Jc:List (Nat×LI):=[(5,Ho)]
def Mx(a0_0:ByteArray)(a0_1:AV)(a0_2:ByteArray):Tree :=
 .call 63 [.agg [VS a0_0,a0_1,VS a0_2]] [] fun r1 o1=>NP r1<|NP r1<|.test r1.isNil (.done 0 [.v (.pointer none)] []) (.loop M6 Ho [r1,r1] [] (fun y3 q3=>NP (y3.hA)<|.done 0 [(y3.hA)] []) (fun y3 q3=>NP (y3.hA)<|.done 0 [(y3.hA)] []))
theorem Qt(a0_0:ByteArray)(a0_1:AV)(a0_2:ByteArray)(ha0_1:LK.has .sl a0_1)(h:du 21 (Mx a0_0 a0_1 a0_2) R):aq Tryz.prog 45 [.agg [VS a0_0,a0_1,VS a0_2]] [] R :=
 uQ (ah (ci (ah (aA _) (ah (bT ha0_1) (ah (aA _) aD)))) aD) (oQ Jc Tryz.f45 h)
def Ia(x3:AV)(x4:AV):Tree :=
 NP x3<|NP x4<|NZ x4<|NZ x4<|ot (x4.deref.drop 2)<|NL ((x4.deref.drop 2).hA)<|.test (decide (((((x4.deref.drop 2).hA).aP).length:Int)>(0:Int))) (.call 46 [x4] [] fun r1 o1=>NP r1<|NP r1<|.test r1.isNil (.done 2 [.v (.pointer none)] []) (.done 0 [x3,r1] [])) (.done 1 [x3] [])
abbrev Gw:=cy Tryz.prog 21 M6 Ho
theorem Mw(x3:AV)(x4:AV)(h:kE 21 (Ia x3 x4) Gw U):Gw [x3,x4] [] U :=
 gQ Jc h
def LA(a0:AV):Tree :=
 NP a0<|.test a0.isNil (.done 0 [.v (.pointer none)] []) (NZ a0<|NZ a0<|ot (a0.deref.drop 2)<|NL ((a0.deref.drop 2).hA)<|.test (((((a0.deref.drop 2).hA).aP).length:Int)==(0:Int)) (.done 0 [.v (.pointer none)] []) (NZ a0<|NZ a0<|ot (a0.deref.drop 2)<|NL ((a0.deref.drop 2).hA)<|NZ a0<|NZ a0<|dT (a0.deref.drop 1)<|NZ a0<|NZ a0<|ot (a0.deref.drop 2)<|.aj (LK.has .sl ((a0.deref.drop 2).hA)/\0<=(IntKind.wrap .i64 (((((a0.deref.drop 2).hA).aP).length:Int)-1))/\(IntKind.wrap .i64 (((((a0.deref.drop 2).hA).aP).length:Int)-1))<((a0.deref.drop 2).hA).aP.length/\(((a0.deref.drop 2).hA).ix (IntKind.wrap .i64 (((((a0.deref.drop 2).hA).aP).length:Int)-1))).length=1)<|.aj (LK.has .ptr ((((a0.deref.drop 2).hA).ix (IntKind.wrap .i64 (((((a0.deref.drop 2).hA).aP).length:Int)-1))).hA)/\1<=(((a0.deref.drop 2).hA).ix (IntKind.wrap .i64 (((((a0.deref.drop 2).hA).aP).length:Int)-1))).length)<|NZ a0<|NZ a0<|dT (a0.deref.drop 3)<|.call 74 [((a0.deref.drop 1).hA),((((a0.deref.drop 2).hA).ix (IntKind.wrap .i64 (((((a0.deref.drop 2).hA).aP).length:Int)-1))).hA),((a0.deref.drop 3).hA)] [] fun r1 o1=>NP r1<|.call 75 [r1] [] fun r2 o2=>NI r2<|.test (decide (r2.toInt>(200:Int))) (.done 0 [.v (.pointer none)] []) (NZ a0<|NZ a0<|.aj (LK.has .str (a0.deref.hA)/\1<=a0.deref.length)<|NZ a0<|NZ a0<|dT (a0.deref.drop 1)<|NZ a0<|NZ a0<|ot (a0.deref.drop 2)<|.aj (LK.has .sl ((a0.deref.drop 2).hA)/\0<=(0:Int)/\(0:Int)<=(IntKind.wrap .i64 (((((a0.deref.drop 2).hA).aP).length:Int)-1))/\(IntKind.wrap .i64 (((((a0.deref.drop 2).hA).aP).length:Int)-1))<=((((a0.deref.drop 2).hA).aP).length:Int))<|.done 0 [.ptr [VS ((a0.deref.hA).ag),((a0.deref.drop 1).hA),.sl (((((a0.deref.drop 2).hA).aP).take (bI (IntKind.wrap .i64 (((((a0.deref.drop 2).hA).aP).length:Int)-1)))).drop (bI 0)),r1]] [])))
theorem RC(a0:AV)(ha0:LK.has .ptr a0)(h:du 57 (LA a0) R):aq Tryz.prog 46 [a0] [] R :=
 uQ (ah (bE ha0) aD) (oQ [] Tryz.f46 h)
def J8(a0:Int)(a1:Int)(a2:Int):Tree :=
 .test (decide (a0≥a1)) (.done 0 [VB (decide (a0<=a2))] []) (.done 0 [VB false] [])
theorem PV(a0:Int)(a1:Int)(a2:Int)(h:du 15 (J8 a0 a1 a2) R):aq Tryz.prog 56 [VI a0,VI a1,VI a2] [] R :=
 uQ (ah (aA _) (ah (aA _) (ah (aA _) aD))) (oQ [] Tryz.f56 h)
def I9(a0_0:ByteArray)(a0_1:AV)(a0_2:ByteArray)(a1:Int):Tree :=
 .call 41 [.agg [VS a0_0,a0_1,VS a0_2]] [] fun r1 o1=>NB r1<|.test (!r1.toBool) (.done 0 [.cD [.agg [VS (mk []),.vec 0,VS (mk [])],VB false]] [.vec 1 []]) (.call 69 [VS a0_0,VS a0_2] [] fun r2 o2=>NT r2<|NL (r2.comp 0)<|NB (r2.comp 1)<|NL (r2.comp 0)<|.call 56 [VI a1,VI 0,VI (IntKind.wrap .i64 ((((r2.comp 0).aP).length:Int)-1))] [] fun r3 o3=>NB r3<|.test (!r3.toBool) (.done 0 [.cD [.agg [VS (mk []),.vec 0,VS (mk [])],VB false]] [.vec 1 []]) (NG (r2.comp 0) a1 2<|lg ((r2.comp 0).ix a1)<|.call 79 [a0_1,VS ((((r2.comp 0).ix a1).hA).ag)] [] fun r4 o4=>.aj (r4=.vec 0/\(o4.hO)=.vec 1 (o4.hO).es)<|.aj (∀x,x∈o4->fA x)<|NG (r2.comp 0) a1 2<|lg (((r2.comp 0).ix a1).drop 1)<|.call 64 [.agg [VS a0_0,.vec 0,VS (((((r2.comp 0).ix a1).drop 1).hA).ag)]] [.vec 1 ((o4.hO).es)] fun r5 o5=>NT r5<|.aj ((r5.comp 0)=.agg (r5.comp 0).cs/\aM [.lk .str,.vec 1,.lk .str] ((r5.comp 0).cs) 0 1 o5.tail)<|NB (r5.comp 1)<|.done 0 [.cD [.agg [VS (((r5.comp 0).cs.getD 0 .any).ag),.vec 0,VS (((r5.comp 0).cs.getD 2 .any).ag)],VB ((r5.comp 1).toBool)]] [.vec 1 ((o5.tail.hO).es)]))
theorem PB(a0_0:ByteArray)(a0_1:AV)(a0_2:ByteArray)(a1:Int)(ha0_1:LK.has .sl a0_1)(h:du 46 (I9 a0_0 a0_1 a0_2 a1) R):aq Tryz.prog 57 [.agg [VS a0_0,a0_1,VS a0_2],VI a1] [] R :=
 uQ (ah (ci (ah (aA _) (ah (bT ha0_1) (ah (aA _) aD)))) (ah (aA _) aD)) (oF [] {mu:=[],own:=[0],oa:=[.lk .str,.vec 1,.lk .str]} Tryz.f57 h)
def Fs:LI:={hd:={bX:=[(23,.k .sl),(24,.k (.int .i64)),(25,.k (.int .i64))],refs:=[(2,2),(4,4)],co:=[(2,[.lk .str,.lk .sl,.lk .str]),(4,[.lk .str,.vec 1,.lk .str])]},xs:={refs:=[(2,2),(4,4)],co:=[(2,[.lk .str,.lk .sl,.lk .str]),(4,[.lk .str,.vec 1,.lk .str])]},rt:={},ex:=0}
def JQ:Code:=cP (cH Tryz.f58) 5
def NM:List (Nat×LI):=[(5,Fs)]
def Kp(a0:AV):Tree :=
 NP a0<|.test a0.isNil (.done 0 [.cD [.agg [VS (mk []),.vec 0,VS (mk [])],VB false]] [.vec 1 []]) (NZ a0<|NZ a0<|.aj (LK.has .str (a0.deref.hA)/\1<=a0.deref.length)<|NZ a0<|NZ a0<|dT (a0.deref.drop 3)<|.call 66 [((a0.deref.drop 3).hA)] [] fun r1 o1=>NS r1<|NZ a0<|NZ a0<|ot (a0.deref.drop 2)<|NL ((a0.deref.drop 2).hA)<|.loop JQ Fs [((a0.deref.drop 2).hA),VI ((((a0.deref.drop 2).hA).aP).length:Int),VI 0] [.cells [VS (mk []),.v (.slice none 0 0),VS (mk [])],.cells [VS ((a0.deref.hA).ag),.any,VS r1.ag],.vec 1 []] (fun y4 q4=>.aj ((q4.hO)=.cells (q4.hO).cs)<|.aj (ac [.lk .str,.lk .sl,.lk .str] ((q4.hO).cs) 0 q4.tail)<|.aj (((q4.tail.drop 0).hO)=.cells ((q4.tail.drop 0).hO).cs)<|.aj (ac [.lk .str,.vec 1,.lk .str] (((q4.tail.drop 0).hO).cs) 0 ((q4.tail.drop 0).tail))<|.done 0 [.cD [.agg [VS (((q4.tail.hO).cs.getD 0 .any).ag),.vec 0,VS (((q4.tail.hO).cs.getD 2 .any).ag)],VB true]] [.vec 1 ((q4.tail.tail.hO).es)]) (fun y4 q4=>.fail))
theorem Rm(a0:AV)(ha0:LK.has .ptr a0)(h:du 38 (Kp a0) R):aq Tryz.prog 58 [a0] [] R :=
 uQ (ah (bE ha0) aD) (oF NM {mu:=[],own:=[0],oa:=[.lk .str,.vec 1,.lk .str]} Tryz.f58 h)
def EX(x23:AV)(x24:Int)(x25:Int)(o2_0:ByteArray)(o2_1:AV)(o2_2:ByteArray)(o4_0:ByteArray)(o4_1:List (List AV))(o4_2:ByteArray):Tree :=
 NL x23<|NI (VI x24)<|NI (VI x25)<|.aj (Ob.cells [VS o2_0,o2_1,VS o2_2]=.cells [VS o2_0,o2_1,VS o2_2])<|.aj (ac [.lk .str,.lk .sl,.lk .str] [VS o2_0,o2_1,VS o2_2] 0 [.cells [VS o4_0,.any,VS o4_2],.vec 1 o4_1])<|.aj (Ob.cells [VS o4_0,.any,VS o4_2]=.cells [VS o4_0,.any,VS o4_2])<|.aj (ac [.lk .str,.vec 1,.lk .str] [VS o4_0,.any,VS o4_2] 0 [.vec 1 o4_1])<|.test (decide (x25<x24)) (NG x23 x25 1<|dT (x23.ix x25)<|.call 66 [((x23.ix x25).hA)] [] fun r1 o1=>NS r1<|.aj (cv 1 [[VS r1.ag]]/\((o4_1.length)+([[VS r1.ag]]:List (List AV)).length)*16<=140737488355328)<|.done 0 [x23,VI x24,VI (IntKind.wrap .i64 (x25+1))] [.cells [VS o2_0,o2_1,VS o2_2],.cells [VS o4_0,.any,VS o4_2],.vec 1 (o4_1++([[VS r1.ag]]:List (List AV)))]) (.done 1 [] [.cells [VS o2_0,o2_1,VS o2_2],.cells [VS o4_0,.any,VS o4_2],.vec 1 o4_1])
abbrev FD:=cy Tryz.prog 38 JQ Fs
theorem NH(x23:AV)(x24:Int)(x25:Int)(o2_0:ByteArray)(o2_1:AV)(o2_2:ByteArray)(o4_0:ByteArray)(o4_1:List (List AV))(o4_2:ByteArray)(h:kE 38 (EX x23 x24 x25 o2_0 o2_1 o2_2 o4_0 o4_1 o4_2) FD U):FD [x23,VI x24,VI x25] [.cells [VS o2_0,o2_1,VS o2_2],.cells [VS o4_0,.any,VS o4_2],.vec 1 o4_1] U :=
 gQ NM h
def Ha(a0:AV)(a1:Int):Tree :=
 NP a0<|.test a0.isNil (.done 0 [.v (.pointer none)] []) (NZ a0<|NZ a0<|ot (a0.deref.drop 2)<|NL ((a0.deref.drop 2).hA)<|.test (((((a0.deref.drop 2).hA).aP).length:Int)==(50:Int)) (.done 0 [.v (.pointer none)] []) (NZ a0<|NZ a0<|dT (a0.deref.drop 1)<|NZ a0<|NZ a0<|dT (a0.deref.drop 3)<|.call 68 [((a0.deref.drop 1).hA),((a0.deref.drop 3).hA)] [] fun r1 o1=>NL r1<|.test (decide (a1<(0:Int))) (.done 0 [.v (.pointer none)] []) (NL r1<|.test (decide (a1≥(r1.aP.length:Int))) (.done 0 [.v (.pointer none)] []) (NG r1 a1 2<|dT (r1.ix a1)<|.call 75 [((r1.ix a1).hA)] [] fun r2 o2=>NI r2<|.test (decide (r2.toInt>(200:Int))) (.done 0 [.v (.pointer none)] []) (NZ a0<|NZ a0<|ot (a0.deref.drop 2)<|.aj (LK.has .sl ((a0.deref.drop 2).hA)/\cv 1 (((a0.deref.drop 2).hA).aP)/\((([]:List (List AV)).length)+(((a0.deref.drop 2).hA).aP).length)*8<=140737488355328)<|NG r1 a1 2<|dT (r1.ix a1)<|.aj (cv 1 [[((r1.ix a1).hA)]]/\(((([]:List (List AV))++(((a0.deref.drop 2).hA).aP)).length)+([[((r1.ix a1).hA)]]:List (List AV)).length)*8<=140737488355328)<|NZ a0<|NZ a0<|.aj (LK.has .str (a0.deref.hA)/\1<=a0.deref.length)<|NZ a0<|NZ a0<|dT (a0.deref.drop 1)<|NG r1 a1 2<|dT ((r1.ix a1).drop 1)<|.done 0 [.ptr [VS ((a0.deref.hA).ag),((a0.deref.drop 1).hA),.sl ((([]:List (List AV))++(((a0.deref.drop 2).hA).aP))++([[((r1.ix a1).hA)]]:List (List AV))),(((r1.ix a1).drop 1).hA)]] [])))))
theorem IL(a0:AV)(a1:Int)(ha0:LK.has .ptr a0)(h:du 72 (Ha a0 a1) R):aq Tryz.prog 59 [a0,VI a1] [] R :=
 uQ (ah (bE ha0) (ah (aA _) aD)) (oQ [] Tryz.f59 h)
def JD(a0_0:AV)(a0_1:Int):Tree :=
 .call 80 [.ref 0 0] [.cells [a0_0,VI a0_1]] fun r1 o1=>.aj ((o1.hO)=.cells (o1.hO).cs)<|.aj (aM [.lk .sl,.lk (.int .i64)] ((o1.hO).cs) 0 1 o1.tail)<|NS r1<|.call 81 [.ref 0 0,VI 12] [.cells [((o1.hO).cs.getD 0 .any),VI (((o1.hO).cs.getD 1 .any).toInt)]] fun r2 o2=>.aj ((o2.hO)=.cells (o2.hO).cs)<|.aj (aM [.lk .sl,.lk (.int .i64)] ((o2.hO).cs) 0 1 o2.tail)<|NI r2<|.test (r2.toInt==(0:Int)) (.call 82 [.ref 0 0] [.cells [((o2.hO).cs.getD 0 .any),VI (((o2.hO).cs.getD 1 .any).toInt)]] fun r3 o3=>.aj ((o3.hO)=.cells (o3.hO).cs)<|.aj (aM [.lk .sl,.lk (.int .i64)] ((o3.hO).cs) 0 1 o3.tail)<|NT r3<|NS (r3.comp 0)<|NS (r3.comp 1)<|.done 0 [.cD [VS ((r3.comp 0).ag),VS ((r3.comp 1).ag)]] [.cells [((o3.hO).cs.getD 0 .any),VI (((o3.hO).cs.getD 1 .any).toInt)]]) (.call 83 [.ref 0 0,VS r1.ag] [.cells [((o2.hO).cs.getD 0 .any),VI (((o2.hO).cs.getD 1 .any).toInt)]] fun r4 o4=>.aj ((o4.hO)=.cells (o4.hO).cs)<|.aj (aM [.lk .sl,.lk (.int .i64)] ((o4.hO).cs) 0 1 o4.tail)<|NS r4<|.done 0 [.cD [VS r1.ag,VS r4.ag]] [.cells [((o4.hO).cs.getD 0 .any),VI (((o4.hO).cs.getD 1 .any).toInt)]])
theorem Rw(a0_0:AV)(a0_1:Int)(ha0_0:LK.has .sl a0_0)(h:du 18 (JD a0_0 a0_1) R):aq Tryz.prog 61 [.ref 0 0] [.cells [a0_0,VI a0_1]] R :=
 aq.nK (bB (cc (ah (bT ha0_0) (ah (aA _) aD))) cw) (aq.up (ah (aA _) aD) (oF [] {mu:=[(0,.one (.obj [.lk .sl,.lk (.int .i64)]))],own:=[]} Tryz.f61 h))
def Lu(a0:AV):Tree :=
 NL a0<|.test (decide ((a0.aP.length:Int)>(2000:Int))) (.aj (LK.has .sl a0/\0<=(0:Int)/\(0:Int)<=(2000:Int)/\(2000:Int)<=(a0.aP.length:Int))<|.done 0 [.ref 0 0] [.cells [.sl ((a0.aP.take (bI 2000)).drop (bI 0)),VI 0]]) (.done 0 [.ref 0 0] [.cells [a0,VI 0]])
theorem Oi(a0:AV)(ha0:LK.has .sl a0)(h:du 11 (Lu a0) R):aq Tryz.prog 62 [a0] [] R :=
 uQ (ah (bT ha0) aD) (oF [] {mu:=[],own:=[0],ow:=[.sl,.int .i64]} Tryz.f62 h)
def E6:LI:={hd:={bX:=[(5,.k .str),(45,.k .sl),(46,.k (.int .i64)),(47,.k (.int .i64))],refs:=[(7,43)],co:=[(43,[.lk .str,.lk .ptr,.vec 1,.lk .ptr])]},xs:={refs:=[(7,43)],co:=[(43,[.lk .str,.lk .ptr,.vec 1,.lk .ptr])]},rt:={bX:=[(2,.k .ptr)]},ex:=0}
def Ll:Code:=cP (cH Tryz.f63) 7
def IG:List (Nat×LI):=[(7,E6)]
def M5(a0_0:ByteArray)(a0_1:AV)(a0_2:ByteArray):Tree :=
 .call 84 [VS a0_0,VS a0_2] [] fun r1 o1=>NT r1<|NP (r1.comp 0)<|NP (r1.comp 1)<|.call 85 [VS a0_0] [] fun r2 o2=>NT r2<|NS (r2.comp 0)<|NB (r2.comp 1)<|NP (r1.comp 1)<|.test ((r1.comp 1).isNil) (.done 0 [.v (.pointer none)] []) (.test (!((r2.comp 1).toBool)) (.done 0 [.v (.pointer none)] []) (NL a0_1<|.test (decide ((a0_1.aP.length:Int)>(50:Int))) (.done 0 [.v (.pointer none)] []) (NL a0_1<|.loop Ll E6 [VS ((r2.comp 0).ag),a0_1,VI (a0_1.aP.length:Int),VI 0] [.cells [VS a0_0,(r1.comp 0),.any,(r1.comp 1)],.vec 1 []] (fun y5 q5=>.aj ((q5.hO)=.cells (q5.hO).cs)<|.aj (ac [.lk .str,.lk .ptr,.vec 1,.lk .ptr] ((q5.hO).cs) 0 q5.tail)<|.done 0 [.ptr [VS (((q5.hO).cs.getD 0 .any).ag),((q5.hO).cs.getD 1 .any),.sl ((q5.tail.hO).es),((q5.hO).cs.getD 3 .any)]] []) (fun y5 q5=>NP (y5.hA)<|.done 0 [(y5.hA)] []))))
theorem PG(a0_0:ByteArray)(a0_1:AV)(a0_2:ByteArray)(ha0_1:LK.has .sl a0_1)(h:du 71 (M5 a0_0 a0_1 a0_2) R):aq Tryz.prog 63 [.agg [VS a0_0,a0_1,VS a0_2]] [] R :=
 uQ (ah (ci (ah (aA _) (ah (bT ha0_1) (ah (aA _) aD)))) aD) (oQ IG Tryz.f63 h)
def EZ(x5:ByteArray)(x45:AV)(x46:Int)(x47:Int)(o43_0:ByteArray)(o43_1:AV)(o43_2:List (List AV))(o43_3:AV):Tree :=
 NS (VS x5)<|NL x45<|NI (VI x46)<|NI (VI x47)<|.aj (Ob.cells [VS o43_0,o43_1,.any,o43_3]=.cells [VS o43_0,o43_1,.any,o43_3])<|.aj (ac [.lk .str,.lk .ptr,.vec 1,.lk .ptr] [VS o43_0,o43_1,.any,o43_3] 0 [.vec 1 o43_2])<|.test (decide (x47<x46)) (NG x45 x47 1<|lg (x45.ix x47)<|.call 71 [VS x5,VS (((x45.ix x47).hA).ag),VI 100] [] fun r1 o1=>NT r1<|NP (r1.comp 0)<|NP (r1.comp 1)<|NP (r1.comp 1)<|.test ((r1.comp 1).isNil) (.done 2 [.v (.pointer none)] []) (.aj (cv 1 [[(r1.comp 1)]]/\((o43_2.length)+([[(r1.comp 1)]]:List (List AV)).length)*8<=140737488355328)<|.done 0 [VS x5,x45,VI x46,VI (IntKind.wrap .i64 (x47+1))] [.cells [VS o43_0,o43_1,.any,o43_3],.vec 1 (o43_2++([[(r1.comp 1)]]:List (List AV)))])) (.done 1 [] [.cells [VS o43_0,o43_1,.any,o43_3],.vec 1 o43_2])
abbrev Gl:=cy Tryz.prog 71 Ll E6
theorem Nt(x5:ByteArray)(x45:AV)(x46:Int)(x47:Int)(o43_0:ByteArray)(o43_1:AV)(o43_2:List (List AV))(o43_3:AV)(h:kE 71 (EZ x5 x45 x46 x47 o43_0 o43_1 o43_2 o43_3) Gl U):Gl [VS x5,x45,VI x46,VI x47] [.cells [VS o43_0,o43_1,.any,o43_3],.vec 1 o43_2] U :=
 gQ IG h
def Jo(a0_0:ByteArray)(e0:List (List AV))(a0_2:ByteArray):Tree :=
 .call 41 [.agg [VS a0_0,.sl e0,VS a0_2]] [] fun r1 o1=>NB r1<|.test (!r1.toBool) (.done 0 [.cD [.agg [VS (mk []),.vec 1,VS (mk [])],VB false]] [.dead,.vec 1 []]) (.done 0 [.cD [.agg [VS a0_0,.vec 1,VS a0_2],VB true]] [.dead,.vec 1 e0])
theorem Og(a0_0:ByteArray)(e0:List (List AV))(a0_2:ByteArray)(h:du 9 (Jo a0_0 e0 a0_2) R):aq Tryz.prog 64 [.agg [VS a0_0,.vec 0,VS a0_2]] [.vec 1 e0] R :=
 aq.nK (bB (fW _) cw) (aq.up (ah (aA _) aD) (oF [] {mu:=[(0,.one (.ub [.lk .str,.vec 1,.lk .str]))],own:=[0],oa:=[.lk .str,.vec 1,.lk .str]} Tryz.f64 h))
def wu(a0:AV):Tree :=
 NZ a0<|NZ a0<|.aj (LK.has (.int .u8) (a0.deref.hA)/\1<=a0.deref.length)<|.test (((a0.deref.hA).toInt)==(117:Int)) (.done 0 [VS (mk [117])] []) (.test (((a0.deref.hA).toInt)==(101:Int)) (NZ a0<|NZ a0<|lg (a0.deref.drop 1)<|.done 0 [VS (((a0.deref.drop 1).hA).ag)] []) (.test (((a0.deref.hA).toInt)==(112:Int)) (NZ a0<|NZ a0<|dT (a0.deref.drop 2)<|.call 66 [((a0.deref.drop 2).hA)] [] fun r1 o1=>NS r1<|.aj (ae (mk [40,112,32])+ae r1.ag<=9223372036854775807)<|.aj (ae (((mk [40,112,32]):ByteArray)++r1.ag)+ae (mk [32])<=9223372036854775807)<|NZ a0<|NZ a0<|dT (a0.deref.drop 3)<|.call 66 [((a0.deref.drop 3).hA)] [] fun r2 o2=>NS r2<|.aj (ae (((((mk [40,112,32]):ByteArray)++r1.ag):ByteArray)++(mk [32]))+ae r2.ag<=9223372036854775807)<|.aj (ae (((((((mk [40,112,32]):ByteArray)++r1.ag):ByteArray)++(mk [32])):ByteArray)++r2.ag)+ae (mk [41])<=9223372036854775807)<|.done 0 [VS (((((((((mk [40,112,32]):ByteArray)++r1.ag):ByteArray)++(mk [32])):ByteArray)++r2.ag):ByteArray)++(mk [41]))] []) (NZ a0<|NZ a0<|.aj (LK.has (.int .u8) (a0.deref.hA)/\1<=a0.deref.length)<|.aj (jw [[.v (.int .u8 ((a0.deref.hA).toInt))]])<|.aj (ae (mk [40])+ae (⟨(bytesOf [[.v (.int .u8 ((a0.deref.hA).toInt))]]).toArray⟩)<=9223372036854775807)<|.aj (ae (((mk [40]):ByteArray)++(⟨(bytesOf [[.v (.int .u8 ((a0.deref.hA).toInt))]]).toArray⟩))+ae (mk [32])<=9223372036854775807)<|NZ a0<|NZ a0<|dT (a0.deref.drop 2)<|.call 66 [((a0.deref.drop 2).hA)] [] fun r3 o3=>NS r3<|.aj (ae (((((mk [40]):ByteArray)++(⟨(bytesOf [[.v (.int .u8 ((a0.deref.hA).toInt))]]).toArray⟩)):ByteArray)++(mk [32]))+ae r3.ag<=9223372036854775807)<|.aj (ae (((((((mk [40]):ByteArray)++(⟨(bytesOf [[.v (.int .u8 ((a0.deref.hA).toInt))]]).toArray⟩)):ByteArray)++(mk [32])):ByteArray)++r3.ag)+ae (mk [41])<=9223372036854775807)<|.done 0 [VS (((((((((mk [40]):ByteArray)++(⟨(bytesOf [[.v (.int .u8 ((a0.deref.hA).toInt))]]).toArray⟩)):ByteArray)++(mk [32])):ByteArray)++r3.ag):ByteArray)++(mk [41]))] [])))
theorem z7(a0:AV)(ha0:LK.has .ptr a0)(h:du 46 (wu a0) R):aq Tryz.prog 66 [a0] [] R :=
 uQ (ah (bE ha0) aD) (oQ [] Tryz.f66 h)
def F7:LI:={hd:={bX:=[(6,.k .bool),(7,.k (.int .i64)),(8,.k (.int .i64))],refs:=[(0,0),(2,2),(5,5)],co:=[(0,[.lk .sl,.lk (.int .i64)]),(2,[.lk .str,.lk .sl,.lk .str]),(5,[.lk .str,.vec 1,.lk .str])]},xs:={refs:=[(0,0),(2,2),(5,5)],co:=[(0,[.lk .sl,.lk (.int .i64)]),(2,[.lk .str,.lk .sl,.lk .str]),(5,[.lk .str,.vec 1,.lk .str])]},rt:={co:=[(0,[.lk .sl,.lk (.int .i64)])]},ex:=0,fx:=[0]}
def I4:Code:=cP (cH Tryz.f67) 5
def JG:List (Nat×LI):=[(5,F7)]
def NY(a0_0:AV)(a0_1:Int):Tree :=
 .call 61 [.ref 0 0] [.cells [a0_0,VI a0_1]] fun r1 o1=>.aj ((o1.hO)=.cells (o1.hO).cs)<|.aj (aM [.lk .sl,.lk (.int .i64)] ((o1.hO).cs) 0 1 o1.tail)<|NT r1<|NS (r1.comp 0)<|NS (r1.comp 1)<|.call 28 [VS ((r1.comp 0).ag),VS ((r1.comp 1).ag)] [] fun r2 o2=>NT r2<|.aj ((r2.comp 0)=.agg (r2.comp 0).cs/\aM [.lk .str,.vec 1,.lk .str] ((r2.comp 0).cs) 0 0 o2)<|NB (r2.comp 1)<|.aj (∀x,x∈o2->fA x)<|.call 81 [.ref 0 0,VI 4] [.cells [((o1.hO).cs.getD 0 .any),VI (((o1.hO).cs.getD 1 .any).toInt)]] fun r3 o3=>.aj ((o3.hO)=.cells (o3.hO).cs)<|.aj (aM [.lk .sl,.lk (.int .i64)] ((o3.hO).cs) 0 1 o3.tail)<|NI r3<|.loop I4 F7 [VB ((r2.comp 1).toBool),VI r3.toInt,VI 0] [.cells [((o3.hO).cs.getD 0 .any),VI (((o3.hO).cs.getD 1 .any).toInt)],.cells [VS (mk []),.v (.slice none 0 0),VS (mk [])],.cells [VS (((r2.comp 0).cs.getD 0 .any).ag),.any,VS (((r2.comp 0).cs.getD 2 .any).ag)],.vec 1 ((o2.hO).es)] (fun y7 q7=>.aj ((q7.hO)=.cells (q7.hO).cs)<|.aj (ac [.lk .sl,.lk (.int .i64)] ((q7.hO).cs) 0 q7.tail)<|.aj (((q7.tail.drop 0).hO)=.cells ((q7.tail.drop 0).hO).cs)<|.aj (ac [.lk .str,.lk .sl,.lk .str] (((q7.tail.drop 0).hO).cs) 0 ((q7.tail.drop 0).tail))<|.aj ((((q7.tail.drop 0).tail.drop 0).hO)=.cells (((q7.tail.drop 0).tail.drop 0).hO).cs)<|.aj (ac [.lk .str,.vec 1,.lk .str] ((((q7.tail.drop 0).tail.drop 0).hO).cs) 0 (((q7.tail.drop 0).tail.drop 0).tail))<|.call 81 [.ref 0 0,VI 20] [.cells [((q7.hO).cs.getD 0 .any),VI (((q7.hO).cs.getD 1 .any).toInt)]] fun r8 o8=>.aj ((o8.hO)=.cells (o8.hO).cs)<|.aj (aM [.lk .sl,.lk (.int .i64)] ((o8.hO).cs) 0 1 o8.tail)<|NI r8<|.test (r8.toInt==(0:Int)) (.aj (cv 1 [[VS (mk [117])]]/\((((q7.tail.tail.tail.hO).es).length)+([[VS (mk [117])]]:List (List AV)).length)*16<=140737488355328)<|.done 0 [.agg [VS (((q7.tail.tail.hO).cs.getD 0 .any).ag),.vec 1,VS (((q7.tail.tail.hO).cs.getD 2 .any).ag)]] [.cells [((o8.hO).cs.getD 0 .any),VI (((o8.hO).cs.getD 1 .any).toInt)],.vec 1 (((q7.tail.tail.tail.hO).es)++([[VS (mk [117])]]:List (List AV)))]) (.test (r8.toInt==(1:Int)) (.done 0 [.agg [VS (((q7.tail.tail.hO).cs.getD 0 .any).ag),.vec 1,VS (mk [101,48])]] [.cells [((o8.hO).cs.getD 0 .any),VI (((o8.hO).cs.getD 1 .any).toInt)],.vec 1 ((q7.tail.tail.tail.hO).es)]) (.test (r8.toInt==(2:Int)) (.done 0 [.agg [VS (mk [120]),.vec 1,VS (((q7.tail.tail.hO).cs.getD 2 .any).ag)]] [.cells [((o8.hO).cs.getD 0 .any),VI (((o8.hO).cs.getD 1 .any).toInt)],.vec 1 ((q7.tail.tail.tail.hO).es)]) (.done 0 [.agg [VS (((q7.tail.tail.hO).cs.getD 0 .any).ag),.vec 1,VS (((q7.tail.tail.hO).cs.getD 2 .any).ag)]] [.cells [((o8.hO).cs.getD 0 .any),VI (((o8.hO).cs.getD 1 .any).toInt)],.vec 1 ((q7.tail.tail.tail.hO).es)])))) (fun y7 q7=>.aj ((q7.hO)=.cells (q7.hO).cs)<|.aj (ac [.lk .sl,.lk (.int .i64)] ((q7.hO).cs) 0 q7.tail)<|.fail)
theorem O5(a0_0:AV)(a0_1:Int)(ha0_0:LK.has .sl a0_0)(h:du 60 (NY a0_0 a0_1) R):aq Tryz.prog 67 [.ref 0 0] [.cells [a0_0,VI a0_1]] R :=
 aq.nK (bB (cc (ah (bT ha0_0) (ah (aA _) aD))) cw) (aq.up (ah (aA _) aD) (oF JG {mu:=[(0,.one (.obj [.lk .sl,.lk (.int .i64)]))],own:=[0],oa:=[.lk .str,.vec 1,.lk .str]} Tryz.f67 h))
def Hh(x6:Bool)(x7:Int)(x8:Int)(o0_0:AV)(o0_1:Int)(o2_0:ByteArray)(o2_1:AV)(o2_2:ByteArray)(o5_0:ByteArray)(o5_1:List (List AV))(o5_2:ByteArray):Tree :=
 NB (VB x6)<|NI (VI x7)<|NI (VI x8)<|.aj (Ob.cells [o0_0,VI o0_1]=.cells [o0_0,VI o0_1])<|.aj (ac [.lk .sl,.lk (.int .i64)] [o0_0,VI o0_1] 0 [.cells [VS o2_0,o2_1,VS o2_2],.cells [VS o5_0,.any,VS o5_2],.vec 1 o5_1])<|.aj (Ob.cells [VS o2_0,o2_1,VS o2_2]=.cells [VS o2_0,o2_1,VS o2_2])<|.aj (ac [.lk .str,.lk .sl,.lk .str] [VS o2_0,o2_1,VS o2_2] 0 [.cells [VS o5_0,.any,VS o5_2],.vec 1 o5_1])<|.aj (Ob.cells [VS o5_0,.any,VS o5_2]=.cells [VS o5_0,.any,VS o5_2])<|.aj (ac [.lk .str,.vec 1,.lk .str] [VS o5_0,.any,VS o5_2] 0 [.vec 1 o5_1])<|.test (decide (x8<x7)) (.test x6 (.call 34 [.agg [VS o5_0,.sl o5_1,VS o5_2]] [] fun r1 o1=>NI r1<|.call 81 [.ref 0 0,VI (if r1.toInt>1 then r1.toInt else 1)] [.cells [o0_0,VI o0_1]] fun r2 o2=>.aj ((o2.hO)=.cells (o2.hO).cs)<|.aj (aM [.lk .sl,.lk (.int .i64)] ((o2.hO).cs) 0 1 o2.tail)<|NI r2<|.call 57 [.agg [VS o5_0,.sl o5_1,VS o5_2],VI r2.toInt] [] fun r3 o3=>NT r3<|.aj ((r3.comp 0)=.agg (r3.comp 0).cs/\aM [.lk .str,.vec 1,.lk .str] ((r3.comp 0).cs) 0 0 o3)<|NB (r3.comp 1)<|.aj (∀x,x∈o3->fA x)<|.test ((r3.comp 1).toBool) (.done 0 [VB x6,VI x7,VI (IntKind.wrap .i64 (x8+1))] [.cells [((o2.hO).cs.getD 0 .any),VI (((o2.hO).cs.getD 1 .any).toInt)],.cells [VS o2_0,o2_1,VS o2_2],.cells [VS (((r3.comp 0).cs.getD 0 .any).ag),.any,VS (((r3.comp 0).cs.getD 2 .any).ag)],.vec 1 ((o3.hO).es)]) (.done 0 [VB x6,VI x7,VI (IntKind.wrap .i64 (x8+1))] [.cells [((o2.hO).cs.getD 0 .any),VI (((o2.hO).cs.getD 1 .any).toInt)],.cells [VS o2_0,o2_1,VS o2_2],.cells [VS o5_0,.any,VS o5_2],.vec 1 o5_1])) (.done 1 [] [.cells [o0_0,VI o0_1],.cells [VS o2_0,o2_1,VS o2_2],.cells [VS o5_0,.any,VS o5_2],.vec 1 o5_1])) (.done 1 [] [.cells [o0_0,VI o0_1],.cells [VS o2_0,o2_1,VS o2_2],.cells [VS o5_0,.any,VS o5_2],.vec 1 o5_1])
abbrev H0:=cy Tryz.prog 60 I4 F7
theorem KX(x6:Bool)(x7:Int)(x8:Int)(o0_0:AV)(o0_1:Int)(o2_0:ByteArray)(o2_1:AV)(o2_2:ByteArray)(o5_0:ByteArray)(o5_1:List (List AV))(o5_2:ByteArray)(h:kE 60 (Hh x6 x7 x8 o0_0 o0_1 o2_0 o2_1 o2_2 o5_0 o5_1 o5_2) H0 U):H0 [VB x6,VI x7,VI x8] [.cells [o0_0,VI o0_1],.cells [VS o2_0,o2_1,VS o2_2],.cells [VS o5_0,.any,VS o5_2],.vec 1 o5_1] U :=
 gQ JG h
def Iq(a0:AV)(a1:AV):Tree :=
 .call 86 [.agg [a0,.v (.pointer none)]] [] fun r1 o1=>NT r1<|.aj ((r1.comp 0)=.agg (r1.comp 0).cs/\(r1.comp 0).cs.length=2/\bH [.ptr,.ptr] ((r1.comp 0).cs) 0)<|NP (r1.comp 1)<|NZ a1<|NZ a1<|dT (a1.deref.drop 2)<|.call 87 [.agg [((r1.comp 0).cs.getD 0 .any),((r1.comp 0).cs.getD 1 .any)],((a1.deref.drop 2).hA),.agg [VS (mk []),(r1.comp 1)]] [] fun r2 o2=>NL r2<|.done 0 [r2] []
theorem P9(a0:AV)(a1:AV)(ha0:LK.has .ptr a0)(ha1:LK.has .ptr a1)(h:du 21 (Iq a0 a1) R):aq Tryz.prog 68 [a0,a1] [] R :=
 uQ (ah (bE ha0) (ah (bE ha1) aD)) (oQ [] Tryz.f68 h)
def Mt(a0:ByteArray)(a1:ByteArray):Tree :=
 .call 88 [VS a0] [] fun r1 o1=>NT r1<|.aj ((r1.comp 0)=.agg (r1.comp 0).cs/\(r1.comp 0).cs.length=2/\bH [.str,.sl] ((r1.comp 0).cs) 0)<|NB (r1.comp 1)<|.call 89 [VS a1] [] fun r2 o2=>NT r2<|.aj ((r2.comp 0)=.agg (r2.comp 0).cs/\(r2.comp 0).cs.length=2/\bH [.str,.sl] ((r2.comp 0).cs) 0)<|NB (r2.comp 1)<|.test (!((r1.comp 1).toBool)) (.done 0 [.cD [.sl [],VB false]] []) (.call 90 [VS a0,VS a1,VI 100] [] fun r3 o3=>NB r3<|.test (!r3.toBool) (.done 0 [.cD [.sl [],VB false]] []) (NG ((r1.comp 0).cs.getD 1 .any) 2 2<|NE (((r1.comp 0).cs.getD 1 .any).ix (2:Int))<|NG ((r1.comp 0).cs.getD 1 .any) 1 2<|lg (((r1.comp 0).cs.getD 1 .any).ix (1:Int))<|NG ((r2.comp 0).cs.getD 1 .any) 1 2<|NE (((r2.comp 0).cs.getD 1 .any).ix (1:Int))<|.call 92 [.agg [VS (((((r1.comp 0).cs.getD 1 .any).ix (2:Int)).getD 0 .any).ag),((((r1.comp 0).cs.getD 1 .any).ix (2:Int)).getD 1 .any)],VS (((((r1.comp 0).cs.getD 1 .any).ix (1:Int)).hA).ag),.agg [VS (((((r2.comp 0).cs.getD 1 .any).ix (1:Int)).getD 0 .any).ag),((((r2.comp 0).cs.getD 1 .any).ix (1:Int)).getD 1 .any)]] [] fun r4 o4=>NL r4<|.call 91 [r4] [] fun r5 o5=>NL r5<|.done 0 [.cD [r5,VB true]] []))
theorem RG(a0:ByteArray)(a1:ByteArray)(h:du 44 (Mt a0 a1) R):aq Tryz.prog 69 [VS a0,VS a1] [] R :=
 uQ (ah (aA _) (ah (aA _) aD)) (oQ [] Tryz.f69 h)
def E3:LI:={hd:={refs:=[(1,1),(2,2)],co:=[(1,[.lk .str,.lk .sl,.lk .str]),(2,[.lk .str,.lk .sl,.lk .str])]},xs:={refs:=[(1,1),(2,2)],co:=[(1,[.lk .str,.lk .sl,.lk .str]),(2,[.lk .str,.lk .sl,.lk .str])]},rt:={bX:=[(3,.k .bool)],refs:=[(2,2)],co:=[(2,[.lk .str,.lk .sl,.lk .str])]},ex:=0}
def Ln:Code:=cP (cH Tryz.f70) 1
def IZ:List (Nat×LI):=[(1,E3)]
def Jl(a0_0:ByteArray)(a0_1:AV)(a0_2:ByteArray):Tree :=
 .loop Ln E3 [] [.cells [VS a0_0,a0_1,VS a0_2],.cells [VS (mk []),.v (.slice none 0 0),VS (mk [])]] (fun y2 q2=>.aj ((q2.hO)=.cells (q2.hO).cs)<|.aj (ac [.lk .str,.lk .sl,.lk .str] ((q2.hO).cs) 0 q2.tail)<|.aj (((q2.tail.drop 0).hO)=.cells ((q2.tail.drop 0).hO).cs)<|.aj (ac [.lk .str,.lk .sl,.lk .str] (((q2.tail.drop 0).hO).cs) 0 ((q2.tail.drop 0).tail))<|.done 0 [.cD [.agg [VS (((q2.hO).cs.getD 0 .any).ag),((q2.hO).cs.getD 1 .any),VS (((q2.hO).cs.getD 2 .any).ag)],VB true]] []) (fun y2 q2=>NB (y2.hA)<|.aj ((q2.hO)=.cells (q2.hO).cs)<|.aj (ac [.lk .str,.lk .sl,.lk .str] ((q2.hO).cs) 0 q2.tail)<|.done 0 [.cD [.agg [VS (((q2.hO).cs.getD 0 .any).ag),((q2.hO).cs.getD 1 .any),VS (((q2.hO).cs.getD 2 .any).ag)],VB ((y2.hA).toBool)]] [])
theorem QT(a0_0:ByteArray)(a0_1:AV)(a0_2:ByteArray)(ha0_1:LK.has .sl a0_1)(h:du 20 (Jl a0_0 a0_1 a0_2) R):aq Tryz.prog 70 [.agg [VS a0_0,a0_1,VS a0_2]] [] R :=
 uQ (ah (ci (ah (aA _) (ah (bT ha0_1) (ah (aA _) aD)))) aD) (oQ IZ Tryz.f70 h)
def Fh(o1_0:ByteArray)(o1_1:AV)(o1_2:ByteArray)(o2_0:ByteArray)(o2_1:AV)(o2_2:ByteArray):Tree :=
 .aj (Ob.cells [VS o1_0,o1_1,VS o1_2]=.cells [VS o1_0,o1_1,VS o1_2])<|.aj (ac [.lk .str,.lk .sl,.lk .str] [VS o1_0,o1_1,VS o1_2] 0 [.cells [VS o2_0,o2_1,VS o2_2]])<|.aj (Ob.cells [VS o2_0,o2_1,VS o2_2]=.cells [VS o2_0,o2_1,VS o2_2])<|.aj (ac [.lk .str,.lk .sl,.lk .str] [VS o2_0,o2_1,VS o2_2] 0 [])<|NL o1_1<|.test (decide ((o1_1.aP.length:Int)>(0:Int))) (.call 43 [.agg [VS o1_0,o1_1,VS o1_2]] [] fun r1 o1=>NT r1<|.aj ((r1.comp 0)=.agg (r1.comp 0).cs/\(r1.comp 0).cs.length=3/\bH [.str,.sl,.str] ((r1.comp 0).cs) 0)<|NB (r1.comp 1)<|.test (!((r1.comp 1).toBool)) (.done 2 [VB false] [.cells [VS o1_0,o1_1,VS o1_2]]) (.done 0 [] [.cells [VS (((r1.comp 0).cs.getD 0 .any).ag),((r1.comp 0).cs.getD 1 .any),VS (((r1.comp 0).cs.getD 2 .any).ag)],.cells [VS o2_0,o2_1,VS o2_2]])) (.done 1 [] [.cells [VS o1_0,o1_1,VS o1_2],.cells [VS o2_0,o2_1,VS o2_2]])
abbrev HU:=cy Tryz.prog 20 Ln E3
theorem MV(o1_0:ByteArray)(o1_1:AV)(o1_2:ByteArray)(o2_0:ByteArray)(o2_1:AV)(o2_2:ByteArray)(h:kE 20 (Fh o1_0 o1_1 o1_2 o2_0 o2_1 o2_2) HU U):HU [] [.cells [VS o1_0,o1_1,VS o1_2],.cells [VS o2_0,o2_1,VS o2_2]] U :=
 gQ IZ h
def K7(a0:ByteArray)(a1:ByteArray)(a2:Int):Tree :=
 .call 93 [VS a0] [] fun r1 o1=>NP r1<|.call 94 [VS a1] [] fun r2 o2=>NP r2<|NP r1<|.test r1.isNil (.done 0 [.cD [r1,.v (.pointer none)]] []) (NP r2<|.test r2.isNil (.done 0 [.cD [r1,.v (.pointer none)]] []) (.test (decide (a2<(0:Int))) (.done 0 [.cD [r1,.v (.pointer none)]] []) (.test (decide (a2>(100:Int))) (.done 0 [.cD [r1,.v (.pointer none)]] []) (.call 95 [.agg [r1,.v (.pointer none)],r2,VI a2] [] fun r3 o3=>NB r3<|.test (!r3.toBool) (.done 0 [.cD [r1,.v (.pointer none)]] []) (.done 0 [.cD [r1,r2]] [])))))
theorem P1(a0:ByteArray)(a1:ByteArray)(a2:Int)(h:du 39 (K7 a0 a1 a2) R):aq Tryz.prog 71 [VS a0,VS a1,VI a2] [] R :=
 uQ (ah (aA _) (ah (aA _) (ah (aA _) aD))) (oQ [] Tryz.f71 h)
def HR:LI:={hd:={bX:=[(3,.k .str),(7,.k (.int .i64))],refs:=[(1,1)],co:=[(1,[.lk .str,.lk .sl,.lk .str])]},xs:={},rt:={bX:=[(2,.k .bool)]},ex:=0}
def NC:Code:=cP (cH Tryz.f72) 6
def KM:List (Nat×LI):=[(6,HR)]
def Nn(a0_0:ByteArray)(a0_1:AV)(a0_2:ByteArray):Tree :=
 .call 96 [VS a0_0] [] fun r1 o1=>NT r1<|NS (r1.comp 0)<|NB (r1.comp 1)<|.call 88 [VS a0_0] [] fun r2 o2=>NT r2<|.aj ((r2.comp 0)=.agg (r2.comp 0).cs/\(r2.comp 0).cs.length=2/\bH [.str,.sl] ((r2.comp 0).cs) 0)<|NB (r2.comp 1)<|.test (!((r1.comp 1).toBool)) (.done 0 [VB false] []) (.test (!((r2.comp 1).toBool)) (.done 0 [VB false] []) (NL a0_1<|.test (decide ((a0_1.aP.length:Int)>(50:Int))) (.done 0 [VB false] []) (.call 90 [VS a0_0,VS a0_2,VI 100] [] fun r3 o3=>NB r3<|.test (!r3.toBool) (.done 0 [VB false] []) (.loop NC HR [VS ((r1.comp 0).ag),VI 0] [.cells [VS a0_0,a0_1,VS a0_2]] (fun y5 q5=>.done 0 [VB true] []) (fun y5 q5=>NB (y5.hA)<|.done 0 [VB ((y5.hA).toBool)] [])))))
theorem Q8(a0_0:ByteArray)(a0_1:AV)(a0_2:ByteArray)(ha0_1:LK.has .sl a0_1)(h:du 55 (Nn a0_0 a0_1 a0_2) R):aq Tryz.prog 72 [.agg [VS a0_0,a0_1,VS a0_2]] [] R :=
 uQ (ah (ci (ah (aA _) (ah (bT ha0_1) (ah (aA _) aD)))) aD) (oQ KM Tryz.f72 h)
def HC(x3:ByteArray)(x7:Int)(o1_0:ByteArray)(o1_1:AV)(o1_2:ByteArray):Tree :=
 NS (VS x3)<|NI (VI x7)<|.aj (Ob.cells [VS o1_0,o1_1,VS o1_2]=.cells [VS o1_0,o1_1,VS o1_2])<|.aj (ac [.lk .str,.lk .sl,.lk .str] [VS o1_0,o1_1,VS o1_2] 0 [])<|NL o1_1<|.test (decide (x7<(o1_1.aP.length:Int))) (NG o1_1 x7 1<|lg (o1_1.ix x7)<|.call 90 [VS x3,VS (((o1_1.ix x7).hA).ag),VI 100] [] fun r1 o1=>NB r1<|.test (!r1.toBool) (.done 2 [VB false] []) (.done 0 [VS x3,VI (IntKind.wrap .i64 (x7+1))] [.cells [VS o1_0,o1_1,VS o1_2]])) (.done 1 [] [])
abbrev HJ:=cy Tryz.prog 55 NC HR
theorem JA(x3:ByteArray)(x7:Int)(o1_0:ByteArray)(o1_1:AV)(o1_2:ByteArray)(h:kE 55 (HC x3 x7 o1_0 o1_1 o1_2) HJ U):HJ [VS x3,VI x7] [.cells [VS o1_0,o1_1,VS o1_2]] U :=
 gQ KM h
def NW(a0:ByteArray)(a1:ByteArray)(a2:ByteArray):Tree :=
 .call 88 [VS a0] [] fun r1 o1=>NT r1<|.aj ((r1.comp 0)=.agg (r1.comp 0).cs/\(r1.comp 0).cs.length=2/\bH [.str,.sl] ((r1.comp 0).cs) 0)<|NB (r1.comp 1)<|.call 96 [VS a0] [] fun r2 o2=>NT r2<|NS (r2.comp 0)<|NB (r2.comp 1)<|.test (!((r1.comp 1).toBool)) (.done 0 [.cD [VS (mk []),VB false]] []) (.test (!((r2.comp 1).toBool)) (.done 0 [.cD [VS (mk []),VB false]] []) (.call 90 [VS ((r2.comp 0).ag),VS a1,VI 100] [] fun r3 o3=>NB r3<|.test (!r3.toBool) (.done 0 [.cD [VS (mk []),VB false]] []) (.call 90 [VS a0,VS a2,VI 100] [] fun r4 o4=>NB r4<|.test (!r4.toBool) (.done 0 [.cD [VS (mk []),VB false]] []) (.call 89 [VS a1] [] fun r5 o5=>NT r5<|.aj ((r5.comp 0)=.agg (r5.comp 0).cs/\(r5.comp 0).cs.length=2/\bH [.str,.sl] ((r5.comp 0).cs) 0)<|NB (r5.comp 1)<|.call 89 [VS a2] [] fun r6 o6=>NT r6<|.aj ((r6.comp 0)=.agg (r6.comp 0).cs/\(r6.comp 0).cs.length=2/\bH [.str,.sl] ((r6.comp 0).cs) 0)<|NB (r6.comp 1)<|NG ((r1.comp 0).cs.getD 1 .any) 2 2<|NE (((r1.comp 0).cs.getD 1 .any).ix (2:Int))<|NG ((r1.comp 0).cs.getD 1 .any) 1 2<|lg (((r1.comp 0).cs.getD 1 .any).ix (1:Int))<|.call 99 [.agg [VS (((((r1.comp 0).cs.getD 1 .any).ix (2:Int)).getD 0 .any).ag),((((r1.comp 0).cs.getD 1 .any).ix (2:Int)).getD 1 .any)],VS (((((r1.comp 0).cs.getD 1 .any).ix (1:Int)).hA).ag),.agg [VS (((r5.comp 0).cs.getD 0 .any).ag),((r5.comp 0).cs.getD 1 .any)],.agg [VS (((r6.comp 0).cs.getD 0 .any).ag),((r6.comp 0).cs.getD 1 .any)]] [] fun r7 o7=>NA r7<|.call 98 [VS (mk [102]),.sl [[VS ((r7.cs.getD 0 .any).ag),(r7.cs.getD 1 .any)]]] [] fun r8 o8=>NA r8<|.call 97 [.agg [VS ((r8.cs.getD 0 .any).ag),(r8.cs.getD 1 .any)]] [] fun r9 o9=>NS r9<|.call 90 [VS a0,VS r9.ag,VI 100] [] fun r10 o10=>NB r10<|.test (!r10.toBool) (.done 0 [.cD [VS (mk []),VB false]] []) (.done 0 [.cD [VS r9.ag,VB true]] [])))))
theorem Qf(a0:ByteArray)(a1:ByteArray)(a2:ByteArray)(h:du 75 (NW a0 a1 a2) R):aq Tryz.prog 73 [VS a0,VS a1,VS a2] [] R :=
 uQ (ah (aA _) (ah (aA _) (ah (aA _) aD))) (oQ [] Tryz.f73 h)
def Mv(a0:AV)(a1:AV)(a2:AV):Tree :=
 .call 86 [.agg [a0,.v (.pointer none)]] [] fun r1 o1=>NT r1<|.aj ((r1.comp 0)=.agg (r1.comp 0).cs/\(r1.comp 0).cs.length=2/\bH [.ptr,.ptr] ((r1.comp 0).cs) 0)<|NP (r1.comp 1)<|.call 101 [.agg [((r1.comp 0).cs.getD 0 .any),((r1.comp 0).cs.getD 1 .any)],a1,.agg [VS (mk []),(r1.comp 1)],a2] [] fun r2 o2=>NP r2<|.call 100 [.v (.int .u8 102),r2] [] fun r3 o3=>NP r3<|.done 0 [r3] []
theorem Ql(a0:AV)(a1:AV)(a2:AV)(ha0:LK.has .ptr a0)(ha1:LK.has .ptr a1)(ha2:LK.has .ptr a2)(h:du 22 (Mv a0 a1 a2) R):aq Tryz.prog 74 [a0,a1,a2] [] R :=
 uQ (ah (bE ha0) (ah (bE ha1) (ah (bE ha2) aD))) (oQ [] Tryz.f74 h)
def xm(a0:AV):Tree :=
 NZ a0<|NZ a0<|dT (a0.deref.drop 2)<|NP ((a0.deref.drop 2).hA)<|.test (!((a0.deref.drop 2).hA).isNil) (NZ a0<|NZ a0<|dT (a0.deref.drop 2)<|.call 75 [((a0.deref.drop 2).hA)] [] fun r1 o1=>NI r1<|NZ a0<|NZ a0<|dT (a0.deref.drop 3)<|NP ((a0.deref.drop 3).hA)<|.test (!((a0.deref.drop 3).hA).isNil) (NZ a0<|NZ a0<|dT (a0.deref.drop 3)<|.call 75 [((a0.deref.drop 3).hA)] [] fun r2 o2=>NI r2<|.done 0 [VI (IntKind.wrap .i64 ((IntKind.wrap .i64 (1+r1.toInt))+r2.toInt))] []) (.done 0 [VI (IntKind.wrap .i64 (1+r1.toInt))] [])) (NZ a0<|NZ a0<|dT (a0.deref.drop 3)<|NP ((a0.deref.drop 3).hA)<|.test (!((a0.deref.drop 3).hA).isNil) (NZ a0<|NZ a0<|dT (a0.deref.drop 3)<|.call 75 [((a0.deref.drop 3).hA)] [] fun r3 o3=>NI r3<|.done 0 [VI (IntKind.wrap .i64 (1+r3.toInt))] []) (.done 0 [VI 1] []))
theorem zo(a0:AV)(ha0:LK.has .ptr a0)(h:du 29 (xm a0) R):aq Tryz.prog 75 [a0] [] R :=
 uQ (ah (bE ha0) aD) (oQ [] Tryz.f75 h)
def I8(a0:AV)(a1:ByteArray):Tree :=
 .aj (LK.has .sl a0/\cv 1 a0.aP/\((([]:List (List AV)).length)+a0.aP.length)*16<=140737488355328)<|.aj (cv 1 [[VS a1]]/\(((([]:List (List AV))++a0.aP).length)+([[VS a1]]:List (List AV)).length)*16<=140737488355328)<|.done 0 [.vec 0] [.vec 1 ((([]:List (List AV))++a0.aP)++([[VS a1]]:List (List AV)))]
theorem Pv(a0:AV)(a1:ByteArray)(ha0:LK.has .sl a0)(h:du 11 (I8 a0 a1) R):aq Tryz.prog 79 [a0,VS a1] [] R :=
 uQ (ah (bT ha0) (ah (aA _) aD)) (oF [] {mu:=[],own:=[0]} Tryz.f79 h)
def Nq(a0_0:AV)(a0_1:Int):Tree :=
 .call 102 [.ref 0 0,.sl [[VS (mk [40,114,101,99,32,116,32,40,43,32,49,32,40,42,32,120,32,116,41,41,41])],[VS (mk [40,114,101,99,32,116,32,40,43,32,120,32,40,42,32,116,32,116,41,41,41])],[VS (mk [40,114,101,99,32,116,32,40,43,32,49,32,40,42,32,116,32,40,42,32,120,32,116,41,41,41,41])],[VS (mk [40,114,101,99,32,116,32,40,43,32,49,32,116,41,41])],[VS (mk [40,114,101,99,32,116,32,40,42,32,120,32,40,114,101,99,32,116,49,32,40,43,32,49,32,40,42,32,116,32,116,49,41,41,41,41,41])],[VS (mk [40,114,101,99,32,116,48,32,40,43,32,40,42,32,120,32,121,41,32,40,43,32,116,48,32,40,42,32,116,48,32,116,48,41,41,41,41])],[VS (mk [40,114,101,99,32,116,32,40,43,32,121,32,40,42,32,116,32,40,42,32,116,32,116,41,41,41,41])]]] [.cells [a0_0,VI a0_1]] fun r1 o1=>.aj ((o1.hO)=.cells (o1.hO).cs)<|.aj (aM [.lk .sl,.lk (.int .i64)] ((o1.hO).cs) 0 1 o1.tail)<|NS r1<|.done 0 [VS r1.ag] [.cells [((o1.hO).cs.getD 0 .any),VI (((o1.hO).cs.getD 1 .any).toInt)]]
theorem O9(a0_0:AV)(a0_1:Int)(ha0_0:LK.has .sl a0_0)(h:du 6 (Nq a0_0 a0_1) R):aq Tryz.prog 80 [.ref 0 0] [.cells [a0_0,VI a0_1]] R :=
 aq.nK (bB (cc (ah (bT ha0_0) (ah (aA _) aD))) cw) (aq.up (ah (aA _) aD) (oF [] {mu:=[(0,.one (.obj [.lk .sl,.lk (.int .i64)]))],own:=[]} Tryz.f80 h))
def Mq(a0_0:AV)(a0_1:Int)(a1:Int):Tree :=
 .test (decide (a1<(1:Int))) (.done 0 [VI 0] [.cells [a0_0,VI (IntKind.wrap .i64 (a0_1+1))]]) (NL a0_0<|.test ((a0_0.aP.length:Int)==(0:Int)) (.done 0 [VI 0] [.cells [a0_0,VI (IntKind.wrap .i64 (a0_1+1))]]) (NL a0_0<|.test (decide ((IntKind.wrap .i64 ((IntKind.wrap .i64 (a0_1+1))-1))<(a0_0.aP.length:Int))) (.aj (LK.has .sl a0_0/\0<=(IntKind.wrap .i64 ((IntKind.wrap .i64 (a0_1+1))-1))/\(IntKind.wrap .i64 ((IntKind.wrap .i64 (a0_1+1))-1))<a0_0.aP.length/\(a0_0.ix (IntKind.wrap .i64 ((IntKind.wrap .i64 (a0_1+1))-1))).length=1)<|.aj (LK.has (.int .u8) ((a0_0.ix (IntKind.wrap .i64 ((IntKind.wrap .i64 (a0_1+1))-1))).hA)/\1<=(a0_0.ix (IntKind.wrap .i64 ((IntKind.wrap .i64 (a0_1+1))-1))).length)<|.aj (¬a1=0)<|.done 0 [VI (dG (IntKind.wrap .i64 (((a0_0.ix (IntKind.wrap .i64 ((IntKind.wrap .i64 (a0_1+1))-1))).hA).toInt)) a1)] [.cells [a0_0,VI (IntKind.wrap .i64 (a0_1+1))]]) (NL a0_0<|.aj (¬(a0_0.aP.length:Int)=0)<|.aj (LK.has .sl a0_0/\0<=(dG (IntKind.wrap .i64 ((IntKind.wrap .i64 (a0_1+1))-1)) (a0_0.aP.length:Int))/\(dG (IntKind.wrap .i64 ((IntKind.wrap .i64 (a0_1+1))-1)) (a0_0.aP.length:Int))<a0_0.aP.length/\(a0_0.ix (dG (IntKind.wrap .i64 ((IntKind.wrap .i64 (a0_1+1))-1)) (a0_0.aP.length:Int))).length=1)<|.aj (LK.has (.int .u8) ((a0_0.ix (dG (IntKind.wrap .i64 ((IntKind.wrap .i64 (a0_1+1))-1)) (a0_0.aP.length:Int))).hA)/\1<=(a0_0.ix (dG (IntKind.wrap .i64 ((IntKind.wrap .i64 (a0_1+1))-1)) (a0_0.aP.length:Int))).length)<|NL a0_0<|.aj (¬(a0_0.aP.length:Int)=0)<|.aj (LK.has .sl a0_0/\0<=(dG (IntKind.wrap .i64 ((IntKind.wrap .i64 ((IntKind.wrap .i64 ((IntKind.wrap .i64 (a0_1+1))-1))*7))+3)) (a0_0.aP.length:Int))/\(dG (IntKind.wrap .i64 ((IntKind.wrap .i64 ((IntKind.wrap .i64 ((IntKind.wrap .i64 (a0_1+1))-1))*7))+3)) (a0_0.aP.length:Int))<a0_0.aP.length/\(a0_0.ix (dG (IntKind.wrap .i64 ((IntKind.wrap .i64 ((IntKind.wrap .i64 ((IntKind.wrap .i64 (a0_1+1))-1))*7))+3)) (a0_0.aP.length:Int))).length=1)<|.aj (LK.has (.int .u8) ((a0_0.ix (dG (IntKind.wrap .i64 ((IntKind.wrap .i64 ((IntKind.wrap .i64 ((IntKind.wrap .i64 (a0_1+1))-1))*7))+3)) (a0_0.aP.length:Int))).hA)/\1<=(a0_0.ix (dG (IntKind.wrap .i64 ((IntKind.wrap .i64 ((IntKind.wrap .i64 ((IntKind.wrap .i64 (a0_1+1))-1))*7))+3)) (a0_0.aP.length:Int))).length)<|NL a0_0<|.aj (¬(a0_0.aP.length:Int)=0)<|.aj (¬(64:Int)=0)<|.aj (¬a1=0)<|.done 0 [VI (dG (Av .i64 (IntKind.wrap .i64 ((IntKind.wrap .i64 ((IntKind.wrap .i64 ((IntKind.wrap .i64 ((IntKind.wrap .i64 (((a0_0.ix (dG (IntKind.wrap .i64 ((IntKind.wrap .i64 (a0_1+1))-1)) (a0_0.aP.length:Int))).hA).toInt))*131))+(IntKind.wrap .i64 ((IntKind.wrap .i64 (((a0_0.ix (dG (IntKind.wrap .i64 ((IntKind.wrap .i64 ((IntKind.wrap .i64 ((IntKind.wrap .i64 (a0_1+1))-1))*7))+3)) (a0_0.aP.length:Int))).hA).toInt))*1117))))+(IntKind.wrap .i64 ((IntKind.wrap .i64 ((IntKind.wrap .i64 (a0_1+1))-1))*29))))+(IntKind.wrap .i64 ((IntKind.wrap .i64 (Int.tdiv (IntKind.wrap .i64 ((IntKind.wrap .i64 (a0_1+1))-1)) (a0_0.aP.length:Int)))*53)))) (IntKind.wrap .i64 (Int.tdiv (IntKind.wrap .i64 ((IntKind.wrap .i64 ((IntKind.wrap .i64 ((IntKind.wrap .i64 ((IntKind.wrap .i64 (((a0_0.ix (dG (IntKind.wrap .i64 ((IntKind.wrap .i64 (a0_1+1))-1)) (a0_0.aP.length:Int))).hA).toInt))*131))+(IntKind.wrap .i64 ((IntKind.wrap .i64 (((a0_0.ix (dG (IntKind.wrap .i64 ((IntKind.wrap .i64 ((IntKind.wrap .i64 ((IntKind.wrap .i64 (a0_1+1))-1))*7))+3)) (a0_0.aP.length:Int))).hA).toInt))*1117))))+(IntKind.wrap .i64 ((IntKind.wrap .i64 ((IntKind.wrap .i64 (a0_1+1))-1))*29))))+(IntKind.wrap .i64 ((IntKind.wrap .i64 (Int.tdiv (IntKind.wrap .i64 ((IntKind.wrap .i64 (a0_1+1))-1)) (a0_0.aP.length:Int)))*53)))) 64))) a1)] [.cells [a0_0,VI (IntKind.wrap .i64 (a0_1+1))]])))
theorem QW(a0_0:AV)(a0_1:Int)(a1:Int)(ha0_0:LK.has .sl a0_0)(h:du 99 (Mq a0_0 a0_1 a1) R):aq Tryz.prog 81 [.ref 0 0,VI a1] [.cells [a0_0,VI a0_1]] R :=
 aq.nK (bB (cc (ah (bT ha0_0) (ah (aA _) aD))) cw) (aq.up (ah (aA _) (ah (aA _) aD)) (oF [] {mu:=[(0,.one (.obj [.lk .sl,.lk (.int .i64)]))],own:=[]} Tryz.f81 h))
def JC(a0_0:AV)(a0_1:Int):Tree :=
 .call 103 [.ref 0 0] [.cells [a0_0,VI a0_1]] fun r1 o1=>.aj ((o1.hO)=.cells (o1.hO).cs)<|.aj (aM [.lk .sl,.lk (.int .i64)] ((o1.hO).cs) 0 1 o1.tail)<|NS r1<|.call 83 [.ref 0 0,VS r1.ag] [.cells [((o1.hO).cs.getD 0 .any),VI (((o1.hO).cs.getD 1 .any).toInt)]] fun r2 o2=>.aj ((o2.hO)=.cells (o2.hO).cs)<|.aj (aM [.lk .sl,.lk (.int .i64)] ((o2.hO).cs) 0 1 o2.tail)<|NS r2<|.done 0 [.cD [VS r1.ag,VS r2.ag]] [.cells [((o2.hO).cs.getD 0 .any),VI (((o2.hO).cs.getD 1 .any).toInt)]]
theorem OG(a0_0:AV)(a0_1:Int)(ha0_0:LK.has .sl a0_0)(h:du 11 (JC a0_0 a0_1) R):aq Tryz.prog 82 [.ref 0 0] [.cells [a0_0,VI a0_1]] R :=
 aq.nK (bB (cc (ah (bT ha0_0) (ah (aA _) aD))) cw) (aq.up (ah (aA _) aD) (oF [] {mu:=[(0,.one (.obj [.lk .sl,.lk (.int .i64)]))],own:=[]} Tryz.f82 h))
def Io(a0_0:AV)(a0_1:Int)(a1:ByteArray):Tree :=
 .call 104 [VS a1] [] fun r1 o1=>NT r1<|.aj ((r1.comp 0)=.agg (r1.comp 0).cs/\(r1.comp 0).cs.length=2/\bH [.str,.sl] ((r1.comp 0).cs) 0)<|NB (r1.comp 1)<|.test (!((r1.comp 1).toBool)) (.call 102 [.ref 0 0,.sl [[VS (mk [])],[VS (mk [117])],[VS (mk [101,48])],[VS (mk [101,48,48])],[VS (mk [101,49,48,48])],[VS (mk [40,108,32,117,41])],[VS (mk [40,112,32,117,41])],[VS (mk [40,102,32,40,108,32,117,41,41])],[VS (mk [40,120,32,117,41])],[VS (mk [40,108,32,32,117,41])]]] [.cells [a0_0,VI a0_1]] fun r2 o2=>.aj ((o2.hO)=.cells (o2.hO).cs)<|.aj (aM [.lk .sl,.lk (.int .i64)] ((o2.hO).cs) 0 1 o2.tail)<|NS r2<|.done 0 [VS r2.ag] [.cells [((o2.hO).cs.getD 0 .any),VI (((o2.hO).cs.getD 1 .any).toInt)]]) (.call 81 [.ref 0 0,VI 16] [.cells [a0_0,VI a0_1]] fun r3 o3=>.aj ((o3.hO)=.cells (o3.hO).cs)<|.aj (aM [.lk .sl,.lk (.int .i64)] ((o3.hO).cs) 0 1 o3.tail)<|NI r3<|.test (r3.toInt==(0:Int)) (.call 102 [.ref 0 0,.sl [[VS (mk [])],[VS (mk [117])],[VS (mk [101,48])],[VS (mk [101,48,48])],[VS (mk [101,49,48,48])],[VS (mk [40,108,32,117,41])],[VS (mk [40,112,32,117,41])],[VS (mk [40,102,32,40,108,32,117,41,41])],[VS (mk [40,120,32,117,41])],[VS (mk [40,108,32,32,117,41])]]] [.cells [((o3.hO).cs.getD 0 .any),VI (((o3.hO).cs.getD 1 .any).toInt)]] fun r4 o4=>.aj ((o4.hO)=.cells (o4.hO).cs)<|.aj (aM [.lk .sl,.lk (.int .i64)] ((o4.hO).cs) 0 1 o4.tail)<|NS r4<|.done 0 [VS r4.ag] [.cells [((o4.hO).cs.getD 0 .any),VI (((o4.hO).cs.getD 1 .any).toInt)]]) (.call 106 [.agg [VS (((r1.comp 0).cs.getD 0 .any).ag),((r1.comp 0).cs.getD 1 .any)],.v (.slice none 0 0)] [] fun r5 o5=>NA r5<|.call 81 [.ref 0 0,VI 5] [.cells [((o3.hO).cs.getD 0 .any),VI (((o3.hO).cs.getD 1 .any).toInt)]] fun r6 o6=>.aj ((o6.hO)=.cells (o6.hO).cs)<|.aj (aM [.lk .sl,.lk (.int .i64)] ((o6.hO).cs) 0 1 o6.tail)<|NI r6<|.call 105 [.ref 0 0,.agg [VS ((r5.cs.getD 0 .any).ag),(r5.cs.getD 1 .any)],VI (IntKind.wrap .i64 (5+r6.toInt))] [.cells [((o6.hO).cs.getD 0 .any),VI (((o6.hO).cs.getD 1 .any).toInt)]] fun r7 o7=>.aj ((o7.hO)=.cells (o7.hO).cs)<|.aj (aM [.lk .sl,.lk (.int .i64)] ((o7.hO).cs) 0 1 o7.tail)<|NA r7<|.call 97 [.agg [VS ((r7.cs.getD 0 .any).ag),(r7.cs.getD 1 .any)]] [] fun r8 o8=>NS r8<|.done 0 [VS r8.ag] [.cells [((o7.hO).cs.getD 0 .any),VI (((o7.hO).cs.getD 1 .any).toInt)]]))
theorem Qr(a0_0:AV)(a0_1:Int)(a1:ByteArray)(ha0_0:LK.has .sl a0_0)(h:du 30 (Io a0_0 a0_1 a1) R):aq Tryz.prog 83 [.ref 0 0,VS a1] [.cells [a0_0,VI a0_1]] R :=
 aq.nK (bB (cc (ah (bT ha0_0) (ah (aA _) aD))) cw) (aq.up (ah (aA _) (ah (aA _) aD)) (oF [] {mu:=[(0,.one (.obj [.lk .sl,.lk (.int .i64)]))],own:=[]} Tryz.f83 h))
def Jm(a0:ByteArray)(a1:ByteArray):Tree :=
 .call 107 [VS a0] [] fun r1 o1=>NP r1<|NP r1<|.test r1.isNil (.done 0 [.cD [.v (.pointer none),.v (.pointer none)]] []) (.call 71 [VS a0,VS a1,VI 100] [] fun r2 o2=>NT r2<|NP (r2.comp 0)<|NP (r2.comp 1)<|.done 0 [.cD [(r2.comp 0),(r2.comp 1)]] [])
theorem Pr(a0:ByteArray)(a1:ByteArray)(h:du 14 (Jm a0 a1) R):aq Tryz.prog 84 [VS a0,VS a1] [] R :=
 uQ (ah (aA _) (ah (aA _) aD)) (oQ [] Tryz.f84 h)
def JP(a0:ByteArray):Tree :=
 .call 108 [VS a0] [] fun r1 o1=>NP r1<|NP r1<|.test r1.isNil (.done 0 [.cD [VS (mk []),VB false]] []) (NZ r1<|NZ r1<|.aj (LK.has (.int .u8) (r1.deref.hA)/\1<=r1.deref.length)<|.test (((r1.deref.hA).toInt) != (114:Int)) (.done 0 [.cD [VS (mk []),VB false]] []) (.call 109 [r1] [] fun r2 o2=>NT r2<|NP (r2.comp 0)<|NB (r2.comp 1)<|.test (!((r2.comp 1).toBool)) (.done 0 [.cD [VS (mk []),VB false]] []) (.call 110 [(r2.comp 0)] [] fun r3 o3=>NT r3<|NS (r3.comp 0)<|NB (r3.comp 1)<|.done 0 [.cD [VS ((r3.comp 0).ag),VB ((r3.comp 1).toBool)]] [])))
theorem Pg(a0:ByteArray)(h:du 29 (JP a0) R):aq Tryz.prog 85 [VS a0] [] R :=
 uQ (ah (aA _) aD) (oQ [] Tryz.f85 h)
def MZ(a0_0:AV)(a0_1:AV):Tree :=
 NZ a0_0<|NZ a0_0<|dT (a0_0.deref.drop 3)<|.done 0 [.cD [.agg [((a0_0.deref.drop 3).hA),.ptr [.ptr [a0_0,a0_1],a0_1]],.ptr [a0_0,a0_1]]] []
theorem On(a0_0:AV)(a0_1:AV)(ha0_0:LK.has .ptr a0_0)(ha0_1:LK.has .ptr a0_1)(h:du 20 (MZ a0_0 a0_1) R):aq Tryz.prog 86 [.agg [a0_0,a0_1]] [] R :=
 uQ (ah (ci (ah (bE ha0_0) (ah (bE ha0_1) aD))) aD) (oQ [] Tryz.f86 h)
def HN:LI:={hd:={bX:=[(97,.k .sl),(98,.k (.int .i64)),(99,.k (.int .i64))],refs:=[(3,3),(5,5),(7,7)],co:=[(3,[.lk .ptr,.lk .ptr]),(5,[.lk .str,.lk .ptr]),(7,[.vec 2])],B9:=[(8,112,[7])]},xs:={refs:=[(7,7)],co:=[(7,[.vec 2])]},rt:={},ex:=1}
def N1:Code:=cP (cH Tryz.f87) 18
def Nr:List (Nat×LI):=[(18,HN)]
def KO(a0_0:AV)(a0_1:AV)(a1:AV)(a2_0:ByteArray)(a2_1:AV):Tree :=
 .call 111 [.agg [VS a2_0,a2_1],.agg [a0_0,a0_1]] [] fun r1 o1=>NB r1<|.test r1.toBool (.done 0 [.sl [[.ptr [.v (.int .u8 117),VS (mk []),.v (.pointer none),.v (.pointer none)],a1]]] []) (NZ a0_0<|NZ a0_0<|.aj (LK.has (.int .u8) (a0_0.deref.hA)/\1<=a0_0.deref.length)<|.test (((a0_0.deref.hA).toInt)==(43:Int)) (.call 113 [.agg [a0_0,a0_1]] [] fun r2 o2=>.aj (r2=.agg r2.cs/\r2.cs.length=2/\bH [.ptr,.ptr] r2.cs 0)<|NZ a1<|NZ a1<|.aj (LK.has (.int .u8) (a1.deref.hA)/\1<=a1.deref.length)<|.test (((a1.deref.hA).toInt)==(114:Int)) (.call 114 [.agg [a0_0,a0_1]] [] fun r3 o3=>.aj (r3=.agg r3.cs/\r3.cs.length=2/\bH [.ptr,.ptr] r3.cs 0)<|NZ a1<|NZ a1<|dT (a1.deref.drop 2)<|.call 87 [.agg [(r3.cs.getD 0 .any),(r3.cs.getD 1 .any)],((a1.deref.drop 2).hA),.agg [VS a2_0,a2_1]] [] fun r4 o4=>NL r4<|.call 112 [r4,.fn 115 [.ref 0 0],.ref 1 0] [.cells [a1],.cells [.vec 2],.vec 2 []] fun r5 o5=>.aj ((o5.hO)=.cells (o5.hO).cs)<|.aj (aM [.lk .ptr] ((o5.hO).cs) 0 1 o5.tail)<|.aj ((o5.tail.hO)=.cells (o5.tail.hO).cs)<|.aj (aM [.vec 2] ((o5.tail.hO).cs) 0 2 o5.tail.tail)<|.done 0 [.sl ((o5.tail.tail.hO).es)] []) (NZ a1<|NZ a1<|dT (a1.deref.drop 2)<|.call 87 [.agg [(r2.cs.getD 0 .any),(r2.cs.getD 1 .any)],((a1.deref.drop 2).hA),.agg [VS a2_0,a2_1]] [] fun r6 o6=>NL r6<|.call 112 [r6,.fn 115 [.ref 0 0],.ref 1 0] [.cells [a1],.cells [.vec 2],.vec 2 []] fun r7 o7=>.aj ((o7.hO)=.cells (o7.hO).cs)<|.aj (aM [.lk .ptr] ((o7.hO).cs) 0 1 o7.tail)<|.aj ((o7.tail.hO)=.cells (o7.tail.hO).cs)<|.aj (aM [.vec 2] ((o7.tail.hO).cs) 0 2 o7.tail.tail)<|.done 0 [.sl ((o7.tail.tail.hO).es)] [])) (.test (((a0_0.deref.hA).toInt)==(42:Int)) (.call 113 [.agg [a0_0,a0_1]] [] fun r8 o8=>.aj (r8=.agg r8.cs/\r8.cs.length=2/\bH [.ptr,.ptr] r8.cs 0)<|NZ a1<|NZ a1<|dT (a1.deref.drop 2)<|.call 87 [.agg [(r8.cs.getD 0 .any),(r8.cs.getD 1 .any)],((a1.deref.drop 2).hA),.agg [VS a2_0,a2_1]] [] fun r9 o9=>NL r9<|.call 112 [r9,.fn 116 [.ref 0 0],.ref 1 0] [.cells [a1],.cells [.vec 2],.vec 2 []] fun r10 o10=>.aj ((o10.hO)=.cells (o10.hO).cs)<|.aj (aM [.lk .ptr] ((o10.hO).cs) 0 1 o10.tail)<|.aj ((o10.tail.hO)=.cells (o10.tail.hO).cs)<|.aj (aM [.vec 2] ((o10.tail.hO).cs) 0 2 o10.tail.tail)<|.call 114 [.agg [a0_0,a0_1]] [] fun r11 o11=>.aj (r11=.agg r11.cs/\r11.cs.length=2/\bH [.ptr,.ptr] r11.cs 0)<|NZ ((o10.hO).cs.getD 0 .any)<|NZ ((o10.hO).cs.getD 0 .any)<|dT (((o10.hO).cs.getD 0 .any).deref.drop 3)<|.call 87 [.agg [(r11.cs.getD 0 .any),(r11.cs.getD 1 .any)],((((o10.hO).cs.getD 0 .any).deref.drop 3).hA),.agg [VS a2_0,a2_1]] [] fun r12 o12=>NL r12<|.call 112 [r12,.fn 118 [.ref 0 0],.ref 1 0] [.cells [((o10.hO).cs.getD 0 .any)],.cells [.vec 2],.vec 2 ((o10.tail.tail.hO).es)] fun r13 o13=>.aj ((o13.hO)=.cells (o13.hO).cs)<|.aj (aM [.lk .ptr] ((o13.hO).cs) 0 1 o13.tail)<|.aj ((o13.tail.hO)=.cells (o13.tail.hO).cs)<|.aj (aM [.vec 2] ((o13.tail.hO).cs) 0 2 o13.tail.tail)<|.done 0 [.sl ((o13.tail.tail.hO).es)] []) (.test (((a0_0.deref.hA).toInt)==(114:Int)) (.call 86 [.agg [a0_0,a0_1]] [] fun r14 o14=>NT r14<|.aj ((r14.comp 0)=.agg (r14.comp 0).cs/\(r14.comp 0).cs.length=2/\bH [.ptr,.ptr] ((r14.comp 0).cs) 0)<|NP (r14.comp 1)<|NZ a1<|NZ a1<|dT (a1.deref.drop 2)<|.call 87 [.agg [((r14.comp 0).cs.getD 0 .any),((r14.comp 0).cs.getD 1 .any)],((a1.deref.drop 2).hA),.agg [VS a2_0,a2_1]] [] fun r15 o15=>NL r15<|.call 112 [r15,.v (.func (.func 119) #[] #[]),.ref 0 0] [.cells [.vec 1],.vec 2 []] fun r16 o16=>.aj ((o16.hO)=.cells (o16.hO).cs)<|.aj (aM [.vec 2] ((o16.hO).cs) 0 1 o16.tail)<|NZ a1<|NZ a1<|dT (a1.deref.drop 2)<|.call 87 [.agg [((r14.comp 0).cs.getD 0 .any),((r14.comp 0).cs.getD 1 .any)],((a1.deref.drop 2).hA),.agg [VS (mk []),(r14.comp 1)]] [] fun r17 o17=>NL r17<|NL r17<|.loop N1 HN [r17,VI (r17.aP.length:Int),VI 0] [.cells [a0_0,a0_1],.cells [VS a2_0,a2_1],.cells [.any],.vec 2 ((o16.tail.hO).es)] (fun y20 q20=>.aj ((q20.hO)=.cells (q20.hO).cs)<|.aj (ac [.vec 2] ((q20.hO).cs) 0 q20.tail)<|.done 0 [.sl ((q20.tail.hO).es)] []) (fun y20 q20=>.done 0 [.any] [])) (.done 0 [.sl []] []))))
theorem RF(a0_0:AV)(a0_1:AV)(a1:AV)(a2_0:ByteArray)(a2_1:AV)(ha0_0:LK.has .ptr a0_0)(ha0_1:LK.has .ptr a0_1)(ha1:LK.has .ptr a1)(ha2_1:LK.has .ptr a2_1)(h:du 113 (KO a0_0 a0_1 a1 a2_0 a2_1) R):aq Tryz.prog 87 [.agg [a0_0,a0_1],a1,.agg [VS a2_0,a2_1]] [] R :=
 uQ (ah (ci (ah (bE ha0_0) (ah (bE ha0_1) aD))) (ah (bE ha1) (ah (ci (ah (aA _) (ah (bE ha2_1) aD))) aD))) (oQ Nr Tryz.f87 h)
def F0(x97:AV)(x98:Int)(x99:Int)(o3_0:AV)(o3_1:AV)(o5_0:ByteArray)(o5_1:AV)(o7_0:List (List AV)):Tree :=
 NL x97<|NI (VI x98)<|NI (VI x99)<|.aj (Ob.cells [o3_0,o3_1]=.cells [o3_0,o3_1])<|.aj (ac [.lk .ptr,.lk .ptr] [o3_0,o3_1] 0 [.cells [VS o5_0,o5_1],.cells [.any],.vec 2 o7_0])<|.aj (Ob.cells [VS o5_0,o5_1]=.cells [VS o5_0,o5_1])<|.aj (ac [.lk .str,.lk .ptr] [VS o5_0,o5_1] 0 [.cells [.any],.vec 2 o7_0])<|.aj (Ob.cells [.any]=.cells [.any])<|.aj (ac [.vec 2] [.any] 0 [.vec 2 o7_0])<|.test (decide (x99<x98)) (NG x97 x99 2<|.aj (bH [.ptr,.ptr] (x97.ix x99) 0/\2<=(x97.ix x99).length)<|.call 87 [.agg [o3_0,o3_1],((x97.ix x99).getD 1 .any),.agg [VS o5_0,o5_1]] [] fun r1 o1=>NL r1<|.call 112 [r1,.fn 120 [.ref 0 0],.ref 1 0] [.cells [((x97.ix x99).getD 0 .any),((x97.ix x99).getD 1 .any)],.cells [.vec 2],.vec 2 o7_0] fun r2 o2=>.aj ((o2.hO)=.cells (o2.hO).cs)<|.aj (aM [.lk .ptr,.lk .ptr] ((o2.hO).cs) 0 1 o2.tail)<|.aj ((o2.tail.hO)=.cells (o2.tail.hO).cs)<|.aj (aM [.vec 2] ((o2.tail.hO).cs) 0 2 o2.tail.tail)<|.done 0 [x97,VI x98,VI (IntKind.wrap .i64 (x99+1))] [.cells [o3_0,o3_1],.cells [VS o5_0,o5_1],.cells [.any],.vec 2 ((o2.tail.tail.hO).es)]) (.done 1 [] [.cells [.any],.vec 2 o7_0])
abbrev EY:=cy Tryz.prog 113 N1 HN
theorem IK(x97:AV)(x98:Int)(x99:Int)(o3_0:AV)(o3_1:AV)(o5_0:ByteArray)(o5_1:AV)(o7_0:List (List AV))(h:kE 113 (F0 x97 x98 x99 o3_0 o3_1 o5_0 o5_1 o7_0) EY U):EY [x97,VI x98,VI x99] [.cells [o3_0,o3_1],.cells [VS o5_0,o5_1],.cells [.any],.vec 2 o7_0] U :=
 gQ Nr h
def IP(a0:ByteArray):Tree :=
 .call 104 [VS a0] [] fun r1 o1=>NT r1<|.aj ((r1.comp 0)=.agg (r1.comp 0).cs/\(r1.comp 0).cs.length=2/\bH [.str,.sl] ((r1.comp 0).cs) 0)<|NB (r1.comp 1)<|.test ((r1.comp 1).toBool) (.call 121 [.agg [VS (((r1.comp 0).cs.getD 0 .any).ag),((r1.comp 0).cs.getD 1 .any)]] [] fun r2 o2=>NS r2<|.done 0 [.cD [.agg [VS (((r1.comp 0).cs.getD 0 .any).ag),((r1.comp 0).cs.getD 1 .any)],VB (af r2.ag==af (mk [114,101,99]))]] []) (.done 0 [.cD [.agg [VS (((r1.comp 0).cs.getD 0 .any).ag),((r1.comp 0).cs.getD 1 .any)],VB false]] [])
theorem O2(a0:ByteArray)(h:du 18 (IP a0) R):aq Tryz.prog 88 [VS a0] [] R :=
 uQ (ah (aA _) aD) (oQ [] Tryz.f88 h)
def LQ(a0:ByteArray):Tree :=
 .call 122 [VS a0] [] fun r1 o1=>NT r1<|.aj ((r1.comp 0)=.agg (r1.comp 0).cs/\(r1.comp 0).cs.length=2/\bH [.str,.sl] ((r1.comp 0).cs) 0)<|NB (r1.comp 1)<|.test ((r1.comp 1).toBool) (.call 123 [.agg [VS (((r1.comp 0).cs.getD 0 .any).ag),((r1.comp 0).cs.getD 1 .any)]] [] fun r2 o2=>NB r2<|.test r2.toBool (.call 124 [.agg [VS (((r1.comp 0).cs.getD 0 .any).ag),((r1.comp 0).cs.getD 1 .any)]] [] fun r3 o3=>NI r3<|.done 0 [.cD [.agg [VS (((r1.comp 0).cs.getD 0 .any).ag),((r1.comp 0).cs.getD 1 .any)],VB (decide (r3.toInt<=(200:Int)))]] []) (.done 0 [.cD [.agg [VS (((r1.comp 0).cs.getD 0 .any).ag),((r1.comp 0).cs.getD 1 .any)],VB false]] [])) (.done 0 [.cD [.agg [VS (((r1.comp 0).cs.getD 0 .any).ag),((r1.comp 0).cs.getD 1 .any)],VB false]] [])
theorem PO(a0:ByteArray)(h:du 22 (LQ a0) R):aq Tryz.prog 89 [VS a0] [] R :=
 uQ (ah (aA _) aD) (oQ [] Tryz.f89 h)
def JX(a0:ByteArray)(a1:ByteArray)(a2:Int):Tree :=
 .call 104 [VS a0] [] fun r1 o1=>NT r1<|.aj ((r1.comp 0)=.agg (r1.comp 0).cs/\(r1.comp 0).cs.length=2/\bH [.str,.sl] ((r1.comp 0).cs) 0)<|NB (r1.comp 1)<|.call 89 [VS a1] [] fun r2 o2=>NT r2<|.aj ((r2.comp 0)=.agg (r2.comp 0).cs/\(r2.comp 0).cs.length=2/\bH [.str,.sl] ((r2.comp 0).cs) 0)<|NB (r2.comp 1)<|.test ((r1.comp 1).toBool) (.test ((r2.comp 1).toBool) (.call 56 [VI a2,VI 0,VI 100] [] fun r3 o3=>NB r3<|.test r3.toBool (.call 125 [.agg [VS (((r1.comp 0).cs.getD 0 .any).ag),((r1.comp 0).cs.getD 1 .any)],.sl [],.agg [VS (((r2.comp 0).cs.getD 0 .any).ag),((r2.comp 0).cs.getD 1 .any)],VI a2] [] fun r4 o4=>NB r4<|.done 0 [VB r4.toBool] []) (.done 0 [VB false] [])) (.done 0 [VB false] [])) (.done 0 [VB false] [])
theorem Rq(a0:ByteArray)(a1:ByteArray)(a2:Int)(h:du 36 (JX a0 a1 a2) R):aq Tryz.prog 90 [VS a0,VS a1,VI a2] [] R :=
 uQ (ah (aA _) (ah (aA _) (ah (aA _) aD))) (oQ [] Tryz.f90 h)
def G3:LI:={hd:={bX:=[(0,.k .sl),(4,.k (.int .i64))],eZ:=[(3,2)]},xs:={eZ:=[(3,2)]},rt:={},ex:=0}
def LS:Code:=cP (cH Tryz.f91) 3
def MT:List (Nat×LI):=[(3,G3)]
def K4(a0:AV):Tree :=
 .loop LS G3 [a0,VI 0] [.vec 2 []] (fun y3 q3=>.aj (((q3.drop 0).hO)=.vec 2 ((q3.drop 0).hO).es)<|.done 0 [.sl ((q3.hO).es)] []) (fun y3 q3=>.done 0 [.any] [])
theorem OE(a0:AV)(ha0:LK.has .sl a0)(h:du 29 (K4 a0) R):aq Tryz.prog 91 [a0] [] R :=
 uQ (ah (bT ha0) aD) (oQ MT Tryz.f91 h)
def Gv(x0:AV)(x4:Int)(e3:List (List AV)):Tree :=
 NL x0<|NI (VI x4)<|.aj (Ob.vec 2 e3=.vec 2 e3)<|NL x0<|.test (decide (x4<(x0.aP.length:Int))) (NG x0 x4 4<|NE (x0.ix x4)<|.call 97 [.agg [VS (((x0.ix x4).getD 0 .any).ag),((x0.ix x4).getD 1 .any)]] [] fun r1 o1=>NS r1<|NG x0 x4 4<|NE ((x0.ix x4).drop 2)<|.call 97 [.agg [VS ((((x0.ix x4).drop 2).getD 0 .any).ag),(((x0.ix x4).drop 2).getD 1 .any)]] [] fun r2 o2=>NS r2<|.aj (cv 2 [[VS r1.ag,VS r2.ag]]/\((e3.length)+([[VS r1.ag,VS r2.ag]]:List (List AV)).length)*32<=140737488355328)<|.done 0 [x0,VI (IntKind.wrap .i64 (x4+1))] [.vec 2 (e3++([[VS r1.ag,VS r2.ag]]:List (List AV)))]) (.done 1 [] [.vec 2 e3])
abbrev HM:=cy Tryz.prog 29 LS G3
theorem IC(x0:AV)(x4:Int)(e3:List (List AV))(h:kE 29 (Gv x0 x4 e3) HM U):HM [x0,VI x4] [.vec 2 e3] U :=
 gQ MT h
def HG:LI:={hd:={bX:=[(1,.k .str),(8,.k .sl),(9,.k (.int .i64))],refs:=[(3,3),(5,5)],co:=[(3,[.lk .str,.lk .sl]),(5,[.lk .str,.lk .sl])],eZ:=[(7,4)]},xs:={bX:=[(1,.k .str)],refs:=[(3,3),(5,5)],co:=[(3,[.lk .str,.lk .sl]),(5,[.lk .str,.lk .sl])],eZ:=[(7,4)]},rt:={},ex:=1}
def MO:Code:=cP (cH Tryz.f92) 14
def EP:LI:={hd:={bX:=[(10,.k .sl),(11,.k (.int .i64))],refs:=[(5,5)],co:=[(5,[.lk .str,.lk .sl])],eZ:=[(7,4)]},xs:={eZ:=[(7,4)]},rt:={},ex:=3}
def MJ:Code:=cP (cH Tryz.f92) 19
def Hy:LI:={hd:={bX:=[(1,.k .str),(12,.k .str),(13,.k .sl),(14,.k (.int .i64))],refs:=[(3,3),(5,5)],co:=[(3,[.lk .str,.lk .sl]),(5,[.lk .str,.lk .sl])],eZ:=[(7,4)]},xs:={bX:=[(1,.k .str),(12,.k .str)],refs:=[(3,3),(5,5)],co:=[(3,[.lk .str,.lk .sl]),(5,[.lk .str,.lk .sl])],eZ:=[(7,4)]},rt:={},ex:=5}
def NR:Code:=cP (cH Tryz.f92) 28
def Fq:LI:={hd:={bX:=[(1,.k .str),(15,.k .sl),(16,.k (.int .i64))],refs:=[(3,3)],co:=[(3,[.lk .str,.lk .sl])],eZ:=[(7,4)]},xs:={eZ:=[(7,4)]},rt:={},ex:=7}
def IA:Code:=cP (cH Tryz.f92) 33
def HD:LI:={hd:={bX:=[(1,.k .str),(15,.k .sl),(16,.k (.int .i64)),(17,.k .sl),(18,.k (.int .i64))],refs:=[(3,3)],co:=[(3,[.lk .str,.lk .sl])],eZ:=[(7,4)]},xs:={bX:=[(1,.k .str),(15,.k .sl),(16,.k (.int .i64))],refs:=[(3,3)],co:=[(3,[.lk .str,.lk .sl])],eZ:=[(7,4)]},rt:={},ex:=9}
def Ij:Code:=cP (cH Tryz.f92) 37
def zk:List (Nat×LI):=[(14,HG),(19,EP),(28,Hy),(33,Fq),(37,HD)]
def wo(a0_0:ByteArray)(a0_1:AV)(a1:ByteArray)(a2_0:ByteArray)(a2_1:AV):Tree :=
 .test (!(af a0_0==af (mk []))) (.test (af a0_0==af a1) (.aj (cv 4 [[VS (mk [117]),.v (.slice none 0 0),VS a2_0,a2_1]]/\((([]:List (List AV)).length)+([[VS (mk [117]),.v (.slice none 0 0),VS a2_0,a2_1]]:List (List AV)).length)*80<=140737488355328)<|.done 0 [.sl [[VS (mk [117]),.v (.slice none 0 0),VS a2_0,a2_1]]] []) (.done 0 [.sl []] [])) (.call 121 [.agg [VS a2_0,a2_1]] [] fun r1 o1=>NS r1<|.test (af r1.ag==af (mk [108])) (NG a0_1 1 2<|NE (a0_1.ix (1:Int))<|NG a2_1 1 2<|NE (a2_1.ix (1:Int))<|.call 92 [.agg [VS (((a0_1.ix (1:Int)).getD 0 .any).ag),((a0_1.ix (1:Int)).getD 1 .any)],VS a1,.agg [VS (((a2_1.ix (1:Int)).getD 0 .any).ag),((a2_1.ix (1:Int)).getD 1 .any)]] [] fun r2 o2=>NL r2<|.call 126 [r2,VS (mk [108]),.vec 0] [.vec 4 []] fun r3 o3=>.aj (r3=.vec 1/\(o3.tail.hO)=.vec 4 (o3.tail.hO).es)<|.done 0 [.sl ((o3.tail.hO).es)] []) (.test (af r1.ag==af (mk [114])) (NG a0_1 2 2<|NE (a0_1.ix (2:Int))<|NG a2_1 1 2<|NE (a2_1.ix (1:Int))<|.call 92 [.agg [VS (((a0_1.ix (2:Int)).getD 0 .any).ag),((a0_1.ix (2:Int)).getD 1 .any)],VS a1,.agg [VS (((a2_1.ix (1:Int)).getD 0 .any).ag),((a2_1.ix (1:Int)).getD 1 .any)]] [] fun r4 o4=>NL r4<|.call 126 [r4,VS (mk [114]),.vec 0] [.vec 4 []] fun r5 o5=>.aj (r5=.vec 1/\(o5.tail.hO)=.vec 4 (o5.tail.hO).es)<|.done 0 [.sl ((o5.tail.hO).es)] []) (.test (af r1.ag==af (mk [112])) (NG a0_1 1 2<|NE (a0_1.ix (1:Int))<|NG a2_1 1 2<|NE (a2_1.ix (1:Int))<|.call 92 [.agg [VS (((a0_1.ix (1:Int)).getD 0 .any).ag),((a0_1.ix (1:Int)).getD 1 .any)],VS a1,.agg [VS (((a2_1.ix (1:Int)).getD 0 .any).ag),((a2_1.ix (1:Int)).getD 1 .any)]] [] fun r6 o6=>NL r6<|.loop MO HG [VS a1,r6,VI 0] [.cells [VS a0_0,a0_1],.cells [VS a2_0,a2_1],.vec 4 []] (fun y9 q9=>NS (y9.hA)<|.aj ((q9.hO)=.cells (q9.hO).cs)<|.aj (ac [.lk .str,.lk .sl] ((q9.hO).cs) 0 q9.tail)<|.aj (((q9.tail.drop 0).hO)=.cells ((q9.tail.drop 0).hO).cs)<|.aj (ac [.lk .str,.lk .sl] (((q9.tail.drop 0).hO).cs) 0 ((q9.tail.drop 0).tail))<|.aj (((q9.drop 2).hO)=.vec 4 ((q9.drop 2).hO).es)<|NG ((q9.hO).cs.getD 1 .any) 2 2<|NE (((q9.hO).cs.getD 1 .any).ix (2:Int))<|NG ((q9.tail.hO).cs.getD 1 .any) 2 2<|NE (((q9.tail.hO).cs.getD 1 .any).ix (2:Int))<|.call 92 [.agg [VS (((((q9.hO).cs.getD 1 .any).ix (2:Int)).getD 0 .any).ag),((((q9.hO).cs.getD 1 .any).ix (2:Int)).getD 1 .any)],VS ((y9.hA).ag),.agg [VS (((((q9.tail.hO).cs.getD 1 .any).ix (2:Int)).getD 0 .any).ag),((((q9.tail.hO).cs.getD 1 .any).ix (2:Int)).getD 1 .any)]] [] fun r10 o10=>NL r10<|.loop MJ EP [r10,VI 0] [.cells [VS (((q9.tail.hO).cs.getD 0 .any).ag),((q9.tail.hO).cs.getD 1 .any)],.vec 4 ((q9.tail.tail.hO).es)] (fun y13 q13=>.aj (((q13.drop 0).hO)=.vec 4 ((q13.drop 0).hO).es)<|.done 0 [.sl ((q13.hO).es)] []) (fun y13 q13=>.done 0 [.any] [])) (fun y9 q9=>.done 0 [.any] [])) (NG a0_1 1 2<|lg (a0_1.ix (1:Int))<|.test (af (((a0_1.ix (1:Int)).hA).ag)==af a1) (.done 0 [.sl []] []) (NG a0_1 2 2<|NE (a0_1.ix (2:Int))<|NG a2_1 1 2<|NE (a2_1.ix (1:Int))<|.call 92 [.agg [VS (((a0_1.ix (2:Int)).getD 0 .any).ag),((a0_1.ix (2:Int)).getD 1 .any)],VS a1,.agg [VS (((a2_1.ix (1:Int)).getD 0 .any).ag),((a2_1.ix (1:Int)).getD 1 .any)]] [] fun r14 o14=>NL r14<|.loop NR Hy [VS a1,VS (((a0_1.ix (1:Int)).hA).ag),r14,VI 0] [.cells [VS a0_0,a0_1],.cells [VS a2_0,a2_1],.vec 4 []] (fun y17 q17=>NS (y17.hA)<|NS (y17.tail.hA)<|.aj ((q17.hO)=.cells (q17.hO).cs)<|.aj (ac [.lk .str,.lk .sl] ((q17.hO).cs) 0 q17.tail)<|.aj (((q17.tail.drop 0).hO)=.cells ((q17.tail.drop 0).hO).cs)<|.aj (ac [.lk .str,.lk .sl] (((q17.tail.drop 0).hO).cs) 0 ((q17.tail.drop 0).tail))<|.aj (((q17.drop 2).hO)=.vec 4 ((q17.drop 2).hO).es)<|NG ((q17.hO).cs.getD 1 .any) 2 2<|NE (((q17.hO).cs.getD 1 .any).ix (2:Int))<|NG ((q17.tail.hO).cs.getD 1 .any) 1 2<|NE (((q17.tail.hO).cs.getD 1 .any).ix (1:Int))<|.call 92 [.agg [VS (((((q17.hO).cs.getD 1 .any).ix (2:Int)).getD 0 .any).ag),((((q17.hO).cs.getD 1 .any).ix (2:Int)).getD 1 .any)],VS ((y17.tail.hA).ag),.agg [VS (((((q17.tail.hO).cs.getD 1 .any).ix (1:Int)).getD 0 .any).ag),((((q17.tail.hO).cs.getD 1 .any).ix (1:Int)).getD 1 .any)]] [] fun r18 o18=>NL r18<|.loop IA Fq [VS ((y17.hA).ag),r18,VI 0] [.cells [VS (((q17.hO).cs.getD 0 .any).ag),((q17.hO).cs.getD 1 .any)],.vec 4 ((q17.tail.tail.hO).es)] (fun y24 q24=>.aj (((q24.drop 0).hO)=.vec 4 ((q24.drop 0).hO).es)<|.done 0 [.sl ((q24.hO).es)] []) (fun y24 q24=>.done 0 [.any] [])) (fun y17 q17=>.done 0 [.any] []))))))
theorem Pk(a0_0:ByteArray)(a0_1:AV)(a1:ByteArray)(a2_0:ByteArray)(a2_1:AV)(ha0_1:LK.has .sl a0_1)(ha2_1:LK.has .sl a2_1)(h:du 244 (wo a0_0 a0_1 a1 a2_0 a2_1) R):aq Tryz.prog 92 [.agg [VS a0_0,a0_1],VS a1,.agg [VS a2_0,a2_1]] [] R :=
 uQ (ah (ci (ah (aA _) (ah (bT ha0_1) aD))) (ah (aA _) (ah (ci (ah (aA _) (ah (bT ha2_1) aD))) aD))) (oQ zk Tryz.f92 h)
def FP(x1:ByteArray)(x8:AV)(x9:Int)(o3_0:ByteArray)(o3_1:AV)(o5_0:ByteArray)(o5_1:AV)(e7:List (List AV)):Tree :=
 NS (VS x1)<|NL x8<|NI (VI x9)<|.aj (Ob.cells [VS o3_0,o3_1]=.cells [VS o3_0,o3_1])<|.aj (ac [.lk .str,.lk .sl] [VS o3_0,o3_1] 0 [.cells [VS o5_0,o5_1],.vec 4 e7])<|.aj (Ob.cells [VS o5_0,o5_1]=.cells [VS o5_0,o5_1])<|.aj (ac [.lk .str,.lk .sl] [VS o5_0,o5_1] 0 [.vec 4 e7])<|.aj (Ob.vec 4 e7=.vec 4 e7)<|NL x8<|.test (decide (x9<(x8.aP.length:Int))) (NG x8 x9 4<|NE (x8.ix x9)<|NG o5_1 2 2<|NE (o5_1.ix (2:Int))<|.call 98 [VS (mk [112]),.sl [[VS (((x8.ix x9).getD 0 .any).ag),((x8.ix x9).getD 1 .any)],[VS (((o5_1.ix (2:Int)).getD 0 .any).ag),((o5_1.ix (2:Int)).getD 1 .any)]]] [] fun r1 o1=>NA r1<|.call 98 [VS (mk [108]),.sl [[VS ((r1.cs.getD 0 .any).ag),(r1.cs.getD 1 .any)]]] [] fun r2 o2=>NA r2<|NG x8 x9 4<|NE ((x8.ix x9).drop 2)<|.aj (cv 4 [[VS ((r2.cs.getD 0 .any).ag),(r2.cs.getD 1 .any),VS ((((x8.ix x9).drop 2).getD 0 .any).ag),(((x8.ix x9).drop 2).getD 1 .any)]]/\((e7.length)+([[VS ((r2.cs.getD 0 .any).ag),(r2.cs.getD 1 .any),VS ((((x8.ix x9).drop 2).getD 0 .any).ag),(((x8.ix x9).drop 2).getD 1 .any)]]:List (List AV)).length)*80<=140737488355328)<|.done 0 [VS x1,x8,VI (IntKind.wrap .i64 (x9+1))] [.cells [VS o3_0,o3_1],.cells [VS o5_0,o5_1],.vec 4 (e7++([[VS ((r2.cs.getD 0 .any).ag),(r2.cs.getD 1 .any),VS ((((x8.ix x9).drop 2).getD 0 .any).ag),(((x8.ix x9).drop 2).getD 1 .any)]]:List (List AV)))]) (.done 1 [VS x1] [.cells [VS o3_0,o3_1],.cells [VS o5_0,o5_1],.vec 4 e7])
abbrev GL:=cy Tryz.prog 244 MO HG
theorem KN(x1:ByteArray)(x8:AV)(x9:Int)(o3_0:ByteArray)(o3_1:AV)(o5_0:ByteArray)(o5_1:AV)(e7:List (List AV))(h:kE 244 (FP x1 x8 x9 o3_0 o3_1 o5_0 o5_1 e7) GL U):GL [VS x1,x8,VI x9] [.cells [VS o3_0,o3_1],.cells [VS o5_0,o5_1],.vec 4 e7] U :=
 gQ zk h
def F8(x10:AV)(x11:Int)(o5_0:ByteArray)(o5_1:AV)(e7:List (List AV)):Tree :=
 NL x10<|NI (VI x11)<|.aj (Ob.cells [VS o5_0,o5_1]=.cells [VS o5_0,o5_1])<|.aj (ac [.lk .str,.lk .sl] [VS o5_0,o5_1] 0 [.vec 4 e7])<|.aj (Ob.vec 4 e7=.vec 4 e7)<|NL x10<|.test (decide (x11<(x10.aP.length:Int))) (NG o5_1 1 2<|NE (o5_1.ix (1:Int))<|NG x10 x11 4<|NE (x10.ix x11)<|.call 98 [VS (mk [112]),.sl [[VS (((o5_1.ix (1:Int)).getD 0 .any).ag),((o5_1.ix (1:Int)).getD 1 .any)],[VS (((x10.ix x11).getD 0 .any).ag),((x10.ix x11).getD 1 .any)]]] [] fun r1 o1=>NA r1<|.call 98 [VS (mk [114]),.sl [[VS ((r1.cs.getD 0 .any).ag),(r1.cs.getD 1 .any)]]] [] fun r2 o2=>NA r2<|NG x10 x11 4<|NE ((x10.ix x11).drop 2)<|.aj (cv 4 [[VS ((r2.cs.getD 0 .any).ag),(r2.cs.getD 1 .any),VS ((((x10.ix x11).drop 2).getD 0 .any).ag),(((x10.ix x11).drop 2).getD 1 .any)]]/\((e7.length)+([[VS ((r2.cs.getD 0 .any).ag),(r2.cs.getD 1 .any),VS ((((x10.ix x11).drop 2).getD 0 .any).ag),(((x10.ix x11).drop 2).getD 1 .any)]]:List (List AV)).length)*80<=140737488355328)<|.done 0 [x10,VI (IntKind.wrap .i64 (x11+1))] [.cells [VS o5_0,o5_1],.vec 4 (e7++([[VS ((r2.cs.getD 0 .any).ag),(r2.cs.getD 1 .any),VS ((((x10.ix x11).drop 2).getD 0 .any).ag),(((x10.ix x11).drop 2).getD 1 .any)]]:List (List AV)))]) (.done 1 [] [.vec 4 e7])
abbrev G2:=cy Tryz.prog 244 MJ EP
theorem Ji(x10:AV)(x11:Int)(o5_0:ByteArray)(o5_1:AV)(e7:List (List AV))(h:kE 244 (F8 x10 x11 o5_0 o5_1 e7) G2 U):G2 [x10,VI x11] [.cells [VS o5_0,o5_1],.vec 4 e7] U :=
 gQ zk h
def E4(x1:ByteArray)(x12:ByteArray)(x13:AV)(x14:Int)(o3_0:ByteArray)(o3_1:AV)(o5_0:ByteArray)(o5_1:AV)(e7:List (List AV)):Tree :=
 NS (VS x1)<|NS (VS x12)<|NL x13<|NI (VI x14)<|.aj (Ob.cells [VS o3_0,o3_1]=.cells [VS o3_0,o3_1])<|.aj (ac [.lk .str,.lk .sl] [VS o3_0,o3_1] 0 [.cells [VS o5_0,o5_1],.vec 4 e7])<|.aj (Ob.cells [VS o5_0,o5_1]=.cells [VS o5_0,o5_1])<|.aj (ac [.lk .str,.lk .sl] [VS o5_0,o5_1] 0 [.vec 4 e7])<|.aj (Ob.vec 4 e7=.vec 4 e7)<|NL x13<|.test (decide (x14<(x13.aP.length:Int))) (NG x13 x14 4<|NE (x13.ix x14)<|.call 98 [VS (mk [108]),.sl [[VS (((x13.ix x14).getD 0 .any).ag),((x13.ix x14).getD 1 .any)]]] [] fun r1 o1=>NA r1<|.call 98 [VS (mk [102]),.sl [[VS ((r1.cs.getD 0 .any).ag),(r1.cs.getD 1 .any)]]] [] fun r2 o2=>NA r2<|NG x13 x14 4<|NE ((x13.ix x14).drop 2)<|.aj (cv 4 [[VS ((r2.cs.getD 0 .any).ag),(r2.cs.getD 1 .any),VS ((((x13.ix x14).drop 2).getD 0 .any).ag),(((x13.ix x14).drop 2).getD 1 .any)]]/\((e7.length)+([[VS ((r2.cs.getD 0 .any).ag),(r2.cs.getD 1 .any),VS ((((x13.ix x14).drop 2).getD 0 .any).ag),(((x13.ix x14).drop 2).getD 1 .any)]]:List (List AV)).length)*80<=140737488355328)<|.done 0 [VS x1,VS x12,x13,VI (IntKind.wrap .i64 (x14+1))] [.cells [VS o3_0,o3_1],.cells [VS o5_0,o5_1],.vec 4 (e7++([[VS ((r2.cs.getD 0 .any).ag),(r2.cs.getD 1 .any),VS ((((x13.ix x14).drop 2).getD 0 .any).ag),(((x13.ix x14).drop 2).getD 1 .any)]]:List (List AV)))]) (.done 1 [VS x1,VS x12] [.cells [VS o3_0,o3_1],.cells [VS o5_0,o5_1],.vec 4 e7])
abbrev Hx:=cy Tryz.prog 244 NR Hy
theorem Il(x1:ByteArray)(x12:ByteArray)(x13:AV)(x14:Int)(o3_0:ByteArray)(o3_1:AV)(o5_0:ByteArray)(o5_1:AV)(e7:List (List AV))(h:kE 244 (E4 x1 x12 x13 x14 o3_0 o3_1 o5_0 o5_1 e7) Hx U):Hx [VS x1,VS x12,x13,VI x14] [.cells [VS o3_0,o3_1],.cells [VS o5_0,o5_1],.vec 4 e7] U :=
 gQ zk h
def Gh(x1:ByteArray)(x15:AV)(x16:Int)(o3_0:ByteArray)(o3_1:AV)(e7:List (List AV)):Tree :=
 NS (VS x1)<|NL x15<|NI (VI x16)<|.aj (Ob.cells [VS o3_0,o3_1]=.cells [VS o3_0,o3_1])<|.aj (ac [.lk .str,.lk .sl] [VS o3_0,o3_1] 0 [.vec 4 e7])<|.aj (Ob.vec 4 e7=.vec 4 e7)<|NL x15<|.test (decide (x16<(x15.aP.length:Int))) (NG x15 x16 4<|NE ((x15.ix x16).drop 2)<|.call 92 [.agg [VS o3_0,o3_1],VS x1,.agg [VS ((((x15.ix x16).drop 2).getD 0 .any).ag),(((x15.ix x16).drop 2).getD 1 .any)]] [] fun r1 o1=>NL r1<|.loop Ij HD [VS x1,x15,VI x16,r1,VI 0] [.cells [VS o3_0,o3_1],.vec 4 e7] (fun y2 q2=>NS (y2.hA)<|NL (y2.tail.hA)<|NI (y2.tail.tail.hA)<|.aj ((q2.hO)=.cells (q2.hO).cs)<|.aj (ac [.lk .str,.lk .sl] ((q2.hO).cs) 0 q2.tail)<|.aj (((q2.drop 1).hO)=.vec 4 ((q2.drop 1).hO).es)<|.done 0 [VS ((y2.hA).ag),(y2.tail.hA),VI (IntKind.wrap .i64 (((y2.tail.tail.hA).toInt)+1))] [.cells [VS (((q2.hO).cs.getD 0 .any).ag),((q2.hO).cs.getD 1 .any)],.vec 4 ((q2.tail.hO).es)]) (fun y2 q2=>.done 2 [] [])) (.done 1 [] [.vec 4 e7])
abbrev GO:=cy Tryz.prog 244 IA Fq
theorem JS(x1:ByteArray)(x15:AV)(x16:Int)(o3_0:ByteArray)(o3_1:AV)(e7:List (List AV))(h:kE 244 (Gh x1 x15 x16 o3_0 o3_1 e7) GO U):GO [VS x1,x15,VI x16] [.cells [VS o3_0,o3_1],.vec 4 e7] U :=
 gQ zk h
def Hd(x1:ByteArray)(x15:AV)(x16:Int)(x17:AV)(x18:Int)(o3_0:ByteArray)(o3_1:AV)(e7:List (List AV)):Tree :=
 NS (VS x1)<|NL x15<|NI (VI x16)<|NL x17<|NI (VI x18)<|.aj (Ob.cells [VS o3_0,o3_1]=.cells [VS o3_0,o3_1])<|.aj (ac [.lk .str,.lk .sl] [VS o3_0,o3_1] 0 [.vec 4 e7])<|.aj (Ob.vec 4 e7=.vec 4 e7)<|NL x17<|.test (decide (x18<(x17.aP.length:Int))) (NG x15 x16 4<|NE (x15.ix x16)<|NG x17 x18 4<|NE (x17.ix x18)<|.call 98 [VS (mk [112]),.sl [[VS (((x15.ix x16).getD 0 .any).ag),((x15.ix x16).getD 1 .any)],[VS (((x17.ix x18).getD 0 .any).ag),((x17.ix x18).getD 1 .any)]]] [] fun r1 o1=>NA r1<|.call 98 [VS (mk [114]),.sl [[VS ((r1.cs.getD 0 .any).ag),(r1.cs.getD 1 .any)]]] [] fun r2 o2=>NA r2<|.call 98 [VS (mk [102]),.sl [[VS ((r2.cs.getD 0 .any).ag),(r2.cs.getD 1 .any)]]] [] fun r3 o3=>NA r3<|NG x17 x18 4<|NE ((x17.ix x18).drop 2)<|.aj (cv 4 [[VS ((r3.cs.getD 0 .any).ag),(r3.cs.getD 1 .any),VS ((((x17.ix x18).drop 2).getD 0 .any).ag),(((x17.ix x18).drop 2).getD 1 .any)]]/\((e7.length)+([[VS ((r3.cs.getD 0 .any).ag),(r3.cs.getD 1 .any),VS ((((x17.ix x18).drop 2).getD 0 .any).ag),(((x17.ix x18).drop 2).getD 1 .any)]]:List (List AV)).length)*80<=140737488355328)<|.done 0 [VS x1,x15,VI x16,x17,VI (IntKind.wrap .i64 (x18+1))] [.cells [VS o3_0,o3_1],.vec 4 (e7++([[VS ((r3.cs.getD 0 .any).ag),(r3.cs.getD 1 .any),VS ((((x17.ix x18).drop 2).getD 0 .any).ag),(((x17.ix x18).drop 2).getD 1 .any)]]:List (List AV)))]) (.done 1 [VS x1,x15,VI x16] [.cells [VS o3_0,o3_1],.vec 4 e7])
abbrev Ge:=cy Tryz.prog 244 Ij HD
theorem Kb(x1:ByteArray)(x15:AV)(x16:Int)(x17:AV)(x18:Int)(o3_0:ByteArray)(o3_1:AV)(e7:List (List AV))(h:kE 244 (Hd x1 x15 x16 x17 x18 o3_0 o3_1 e7) Ge U):Ge [VS x1,x15,VI x16,x17,VI x18] [.cells [VS o3_0,o3_1],.vec 4 e7] U :=
 gQ zk h
def JM(a0:ByteArray):Tree :=
 .call 108 [VS a0] [] fun r1 o1=>NP r1<|NP r1<|.test r1.isNil (.done 0 [.v (.pointer none)] []) (.call 127 [r1] [] fun r2 o2=>NB r2<|.test (!r2.toBool) (.done 0 [.v (.pointer none)] []) (.done 0 [r1] []))
theorem Ph(a0:ByteArray)(h:du 14 (JM a0) R):aq Tryz.prog 93 [VS a0] [] R :=
 uQ (ah (aA _) aD) (oQ [] Tryz.f93 h)
def LD(a0:ByteArray):Tree :=
 .call 128 [VS a0] [] fun r1 o1=>NP r1<|NP r1<|.test r1.isNil (.done 0 [.v (.pointer none)] []) (.call 129 [r1] [] fun r2 o2=>NP r2<|NP r2<|.test r2.isNil (.done 0 [.v (.pointer none)] []) (.call 75 [r2] [] fun r3 o3=>NI r3<|.test (decide (r3.toInt>(200:Int))) (.done 0 [.v (.pointer none)] []) (.done 0 [r2] [])))
theorem OA(a0:ByteArray)(h:du 19 (LD a0) R):aq Tryz.prog 94 [VS a0] [] R :=
 uQ (ah (aA _) aD) (oQ [] Tryz.f94 h)
def Am(a0_0:AV)(a0_1:AV)(a1:AV)(a2:Int):Tree :=
 NZ a0_0<|NZ a0_0<|.aj (LK.has (.int .u8) (a0_0.deref.hA)/\1<=a0_0.deref.length)<|.test (((a0_0.deref.hA).toInt)==(49:Int)) (NZ a1<|NZ a1<|.aj (LK.has (.int .u8) (a1.deref.hA)/\1<=a1.deref.length)<|.done 0 [VB (((a1.deref.hA).toInt)==(117:Int))] []) (.test (((a0_0.deref.hA).toInt)==(110:Int)) (NZ a1<|NZ a1<|.aj (LK.has (.int .u8) (a1.deref.hA)/\1<=a1.deref.length)<|.test (((a1.deref.hA).toInt) != (101:Int)) (.done 0 [VB false] []) (NZ a1<|NZ a1<|lg (a1.deref.drop 1)<|.aj (0<=(1:Int)/\(1:Int)<=(ae (((a1.deref.drop 1).hA).ag):Int)/\(ae (((a1.deref.drop 1).hA).ag):Int)<=(ae (((a1.deref.drop 1).hA).ag):Int))<|.call 130 [VS (ck (((a1.deref.drop 1).hA).ag) (bI 1) (bI (ae (((a1.deref.drop 1).hA).ag):Int)))] [] fun r1 o1=>NT r1<|NI (r1.comp 0)<|.aj (LK.has .ky (r1.comp 1))<|.done 0 [VB (decide (((r1.comp 0).toInt)<a2))] [])) (.test (((a0_0.deref.hA).toInt)==(98:Int)) (.call 131 [.agg [a0_0,a0_1]] [] fun r2 o2=>NP r2<|NZ r2<|NZ r2<|.aj (bH [.ptr,.ptr] r2.deref 0/\2<=r2.deref.length)<|.call 95 [.agg [(r2.deref.getD 0 .any),(r2.deref.getD 1 .any)],a1,VI a2] [] fun r3 o3=>NB r3<|.done 0 [VB r3.toBool] []) (.test (((a0_0.deref.hA).toInt)==(43:Int)) (NZ a1<|NZ a1<|.aj (LK.has (.int .u8) (a1.deref.hA)/\1<=a1.deref.length)<|.test (((a1.deref.hA).toInt)==(108:Int)) (.call 113 [.agg [a0_0,a0_1]] [] fun r4 o4=>.aj (r4=.agg r4.cs/\r4.cs.length=2/\bH [.ptr,.ptr] r4.cs 0)<|NZ a1<|NZ a1<|dT (a1.deref.drop 2)<|.call 95 [.agg [(r4.cs.getD 0 .any),(r4.cs.getD 1 .any)],((a1.deref.drop 2).hA),VI a2] [] fun r5 o5=>NB r5<|.test r5.toBool (.done 0 [VB true] []) (NZ a1<|NZ a1<|.aj (LK.has (.int .u8) (a1.deref.hA)/\1<=a1.deref.length)<|.test (((a1.deref.hA).toInt)==(114:Int)) (.call 114 [.agg [a0_0,a0_1]] [] fun r6 o6=>.aj (r6=.agg r6.cs/\r6.cs.length=2/\bH [.ptr,.ptr] r6.cs 0)<|NZ a1<|NZ a1<|dT (a1.deref.drop 2)<|.call 95 [.agg [(r6.cs.getD 0 .any),(r6.cs.getD 1 .any)],((a1.deref.drop 2).hA),VI a2] [] fun r7 o7=>NB r7<|.done 0 [VB r7.toBool] []) (.done 0 [VB false] []))) (NZ a1<|NZ a1<|.aj (LK.has (.int .u8) (a1.deref.hA)/\1<=a1.deref.length)<|.test (((a1.deref.hA).toInt)==(114:Int)) (.call 114 [.agg [a0_0,a0_1]] [] fun r8 o8=>.aj (r8=.agg r8.cs/\r8.cs.length=2/\bH [.ptr,.ptr] r8.cs 0)<|NZ a1<|NZ a1<|dT (a1.deref.drop 2)<|.call 95 [.agg [(r8.cs.getD 0 .any),(r8.cs.getD 1 .any)],((a1.deref.drop 2).hA),VI a2] [] fun r9 o9=>NB r9<|.done 0 [VB r9.toBool] []) (.done 0 [VB false] []))) (.test (((a0_0.deref.hA).toInt)==(42:Int)) (NZ a1<|NZ a1<|.aj (LK.has (.int .u8) (a1.deref.hA)/\1<=a1.deref.length)<|.test (((a1.deref.hA).toInt)==(112:Int)) (.call 113 [.agg [a0_0,a0_1]] [] fun r10 o10=>.aj (r10=.agg r10.cs/\r10.cs.length=2/\bH [.ptr,.ptr] r10.cs 0)<|NZ a1<|NZ a1<|dT (a1.deref.drop 2)<|.call 95 [.agg [(r10.cs.getD 0 .any),(r10.cs.getD 1 .any)],((a1.deref.drop 2).hA),VI a2] [] fun r11 o11=>NB r11<|.test r11.toBool (.call 114 [.agg [a0_0,a0_1]] [] fun r12 o12=>.aj (r12=.agg r12.cs/\r12.cs.length=2/\bH [.ptr,.ptr] r12.cs 0)<|NZ a1<|NZ a1<|dT (a1.deref.drop 3)<|.call 95 [.agg [(r12.cs.getD 0 .any),(r12.cs.getD 1 .any)],((a1.deref.drop 3).hA),VI a2] [] fun r13 o13=>NB r13<|.done 0 [VB r13.toBool] []) (.done 0 [VB false] [])) (.done 0 [VB false] [])) (.test (((a0_0.deref.hA).toInt)==(114:Int)) (.call 86 [.agg [a0_0,a0_1]] [] fun r14 o14=>NT r14<|.aj ((r14.comp 0)=.agg (r14.comp 0).cs/\(r14.comp 0).cs.length=2/\bH [.ptr,.ptr] ((r14.comp 0).cs) 0)<|NP (r14.comp 1)<|NZ a1<|NZ a1<|.aj (LK.has (.int .u8) (a1.deref.hA)/\1<=a1.deref.length)<|.test (((a1.deref.hA).toInt)==(102:Int)) (NZ a1<|NZ a1<|dT (a1.deref.drop 2)<|.call 95 [.agg [((r14.comp 0).cs.getD 0 .any),((r14.comp 0).cs.getD 1 .any)],((a1.deref.drop 2).hA),VI a2] [] fun r15 o15=>NB r15<|.done 0 [VB r15.toBool] []) (.done 0 [VB false] [])) (.done 0 [VB false] []))))))
theorem My(a0_0:AV)(a0_1:AV)(a1:AV)(a2:Int)(ha0_0:LK.has .ptr a0_0)(ha0_1:LK.has .ptr a0_1)(ha1:LK.has .ptr a1)(h:du 134 (Am a0_0 a0_1 a1 a2) R):aq Tryz.prog 95 [.agg [a0_0,a0_1],a1,VI a2] [] R :=
 uQ (ah (ci (ah (bE ha0_0) (ah (bE ha0_1) aD))) (ah (bE ha1) (ah (aA _) aD))) (oQ [] Tryz.f95 h)
def Iz(a0:ByteArray):Tree :=
 .call 132 [VS a0] [] fun r1 o1=>NT r1<|.aj ((r1.comp 0)=.agg (r1.comp 0).cs/\(r1.comp 0).cs.length=2/\bH [.str,.sl] ((r1.comp 0).cs) 0)<|NB (r1.comp 1)<|.test (!((r1.comp 1).toBool)) (.done 0 [.cD [VS (mk []),VB false]] []) (.call 121 [.agg [VS (((r1.comp 0).cs.getD 0 .any).ag),((r1.comp 0).cs.getD 1 .any)]] [] fun r2 o2=>NS r2<|.test (!(af r2.ag==af (mk [114,101,99]))) (.done 0 [.cD [VS (mk []),VB false]] []) (.call 133 [.agg [VS (((r1.comp 0).cs.getD 0 .any).ag),((r1.comp 0).cs.getD 1 .any)]] [] fun r3 o3=>NT r3<|.aj ((r3.comp 0)=.agg (r3.comp 0).cs/\(r3.comp 0).cs.length=2/\bH [.str,.sl] ((r3.comp 0).cs) 0)<|NB (r3.comp 1)<|.test (!((r3.comp 1).toBool)) (.done 0 [.cD [VS (mk []),VB false]] []) (.call 134 [.agg [VS (((r3.comp 0).cs.getD 0 .any).ag),((r3.comp 0).cs.getD 1 .any)]] [] fun r4 o4=>NT r4<|NS (r4.comp 0)<|NB (r4.comp 1)<|.done 0 [.cD [VS ((r4.comp 0).ag),VB ((r4.comp 1).toBool)]] [])))
theorem Qv(a0:ByteArray)(h:du 31 (Iz a0) R):aq Tryz.prog 96 [VS a0] [] R :=
 uQ (ah (aA _) aD) (oQ [] Tryz.f96 h)
def Gu:LI:={hd:={bX:=[(3,.k .str),(4,.k (.int .i64))],refs:=[(1,1)],co:=[(1,[.lk .str,.lk .sl])]},xs:={bX:=[(3,.k .str)]},rt:={},ex:=0}
def Mh:Code:=cP (cH Tryz.f97) 5
def Ku:List (Nat×LI):=[(5,Gu)]
def DU(a0_0:ByteArray)(a0_1:AV):Tree :=
 .test (!(af a0_0==af (mk []))) (.done 0 [VS a0_0] []) (.loop Mh Gu [VS (mk [40]),VI 0] [.cells [VS a0_0,a0_1]] (fun y3 q3=>NS (y3.hA)<|.aj (ae ((y3.hA).ag)+ae (mk [41])<=9223372036854775807)<|.done 0 [VS ((((y3.hA).ag):ByteArray)++(mk [41]))] []) (fun y3 q3=>.done 0 [.any] []))
theorem GV(a0_0:ByteArray)(a0_1:AV)(ha0_1:LK.has .sl a0_1)(h:du 31 (DU a0_0 a0_1) R):aq Tryz.prog 97 [.agg [VS a0_0,a0_1]] [] R :=
 uQ (ah (ci (ah (aA _) (ah (bT ha0_1) aD))) aD) (oQ Ku Tryz.f97 h)
def Bf(x3:ByteArray)(x4:Int)(o1_0:ByteArray)(o1_1:AV):Tree :=
 NS (VS x3)<|NI (VI x4)<|.aj (Ob.cells [VS o1_0,o1_1]=.cells [VS o1_0,o1_1])<|.aj (ac [.lk .str,.lk .sl] [VS o1_0,o1_1] 0 [])<|NL o1_1<|.test (decide (x4<(o1_1.aP.length:Int))) (.test (decide (x4>(0:Int))) (.aj (ae x3+ae (mk [32])<=9223372036854775807)<|NG o1_1 x4 2<|NE (o1_1.ix x4)<|.call 97 [.agg [VS (((o1_1.ix x4).getD 0 .any).ag),((o1_1.ix x4).getD 1 .any)]] [] fun r1 o1=>NS r1<|.aj (ae ((x3:ByteArray)++(mk [32]))+ae r1.ag<=9223372036854775807)<|.done 0 [VS ((((x3:ByteArray)++(mk [32])):ByteArray)++r1.ag),VI (IntKind.wrap .i64 (x4+1))] [.cells [VS o1_0,o1_1]]) (NG o1_1 x4 2<|NE (o1_1.ix x4)<|.call 97 [.agg [VS (((o1_1.ix x4).getD 0 .any).ag),((o1_1.ix x4).getD 1 .any)]] [] fun r2 o2=>NS r2<|.aj (ae x3+ae r2.ag<=9223372036854775807)<|.done 0 [VS ((x3:ByteArray)++r2.ag),VI (IntKind.wrap .i64 (x4+1))] [.cells [VS o1_0,o1_1]])) (.done 1 [VS x3] [])
abbrev Cj:=cy Tryz.prog 31 Mh Gu
theorem DV(x3:ByteArray)(x4:Int)(o1_0:ByteArray)(o1_1:AV)(h:kE 31 (Bf x3 x4 o1_0 o1_1) Cj U):Cj [VS x3,VI x4] [.cells [VS o1_0,o1_1]] U :=
 gQ Ku h
def Gx(a0:ByteArray)(a1:AV):Tree :=
 .aj (LK.has .sl a1/\cv 2 a1.aP/\((([[VS a0,.v (.slice none 0 0)]]:List (List AV)).length)+a1.aP.length)*40<=140737488355328)<|.done 0 [.agg [VS (mk []),.sl (([[VS a0,.v (.slice none 0 0)]]:List (List AV))++a1.aP)]] []
theorem Ma(a0:ByteArray)(a1:AV)(ha1:LK.has .sl a1)(h:du 11 (Gx a0 a1) R):aq Tryz.prog 98 [VS a0,a1] [] R :=
 uQ (ah (aA _) (ah (bT ha1) aD)) (oQ [] Tryz.f98 h)
def CM(a0_0:ByteArray)(a0_1:AV)(a1:ByteArray)(a2_0:ByteArray)(a2_1:AV)(a3_0:ByteArray)(a3_1:AV):Tree :=
 .test (!(af a0_0==af (mk []))) (.done 0 [.agg [VS a3_0,a3_1]] []) (NG a2_1 1 2<|NE (a2_1.ix (1:Int))<|.call 121 [.agg [VS a0_0,a0_1]] [] fun r1 o1=>NS r1<|.call 121 [.agg [VS a2_0,a2_1]] [] fun r2 o2=>NS r2<|.aj (ae r1.ag+ae r2.ag<=9223372036854775807)<|.test (af ((r1.ag:ByteArray)++r2.ag)==af (mk [43,108])) (NG a0_1 1 2<|NE (a0_1.ix (1:Int))<|.call 99 [.agg [VS (((a0_1.ix (1:Int)).getD 0 .any).ag),((a0_1.ix (1:Int)).getD 1 .any)],VS a1,.agg [VS (((a2_1.ix (1:Int)).getD 0 .any).ag),((a2_1.ix (1:Int)).getD 1 .any)],.agg [VS a3_0,a3_1]] [] fun r3 o3=>NA r3<|.call 98 [VS (mk [108]),.sl [[VS ((r3.cs.getD 0 .any).ag),(r3.cs.getD 1 .any)]]] [] fun r4 o4=>NA r4<|.done 0 [.agg [VS ((r4.cs.getD 0 .any).ag),(r4.cs.getD 1 .any)]] []) (.test (af ((r1.ag:ByteArray)++r2.ag)==af (mk [43,114])) (NG a0_1 2 2<|NE (a0_1.ix (2:Int))<|.call 99 [.agg [VS (((a0_1.ix (2:Int)).getD 0 .any).ag),((a0_1.ix (2:Int)).getD 1 .any)],VS a1,.agg [VS (((a2_1.ix (1:Int)).getD 0 .any).ag),((a2_1.ix (1:Int)).getD 1 .any)],.agg [VS a3_0,a3_1]] [] fun r5 o5=>NA r5<|.call 98 [VS (mk [114]),.sl [[VS ((r5.cs.getD 0 .any).ag),(r5.cs.getD 1 .any)]]] [] fun r6 o6=>NA r6<|.done 0 [.agg [VS ((r6.cs.getD 0 .any).ag),(r6.cs.getD 1 .any)]] []) (.test (af ((r1.ag:ByteArray)++r2.ag)==af (mk [42,108])) (NG a0_1 1 2<|NE (a0_1.ix (1:Int))<|NG ((a2_1.ix (1:Int)).getD 1 .any) 1 2<|NE (((a2_1.ix (1:Int)).getD 1 .any).ix (1:Int))<|.call 99 [.agg [VS (((a0_1.ix (1:Int)).getD 0 .any).ag),((a0_1.ix (1:Int)).getD 1 .any)],VS a1,.agg [VS (((((a2_1.ix (1:Int)).getD 1 .any).ix (1:Int)).getD 0 .any).ag),((((a2_1.ix (1:Int)).getD 1 .any).ix (1:Int)).getD 1 .any)],.agg [VS a3_0,a3_1]] [] fun r7 o7=>NA r7<|NG ((a2_1.ix (1:Int)).getD 1 .any) 2 2<|NE (((a2_1.ix (1:Int)).getD 1 .any).ix (2:Int))<|.call 98 [VS (mk [112]),.sl [[VS ((r7.cs.getD 0 .any).ag),(r7.cs.getD 1 .any)],[VS (((((a2_1.ix (1:Int)).getD 1 .any).ix (2:Int)).getD 0 .any).ag),((((a2_1.ix (1:Int)).getD 1 .any).ix (2:Int)).getD 1 .any)]]] [] fun r8 o8=>NA r8<|.done 0 [.agg [VS ((r8.cs.getD 0 .any).ag),(r8.cs.getD 1 .any)]] []) (.test (af ((r1.ag:ByteArray)++r2.ag)==af (mk [42,114])) (NG ((a2_1.ix (1:Int)).getD 1 .any) 1 2<|NE (((a2_1.ix (1:Int)).getD 1 .any).ix (1:Int))<|NG a0_1 2 2<|NE (a0_1.ix (2:Int))<|NG ((a2_1.ix (1:Int)).getD 1 .any) 2 2<|NE (((a2_1.ix (1:Int)).getD 1 .any).ix (2:Int))<|.call 99 [.agg [VS (((a0_1.ix (2:Int)).getD 0 .any).ag),((a0_1.ix (2:Int)).getD 1 .any)],VS a1,.agg [VS (((((a2_1.ix (1:Int)).getD 1 .any).ix (2:Int)).getD 0 .any).ag),((((a2_1.ix (1:Int)).getD 1 .any).ix (2:Int)).getD 1 .any)],.agg [VS a3_0,a3_1]] [] fun r9 o9=>NA r9<|.call 98 [VS (mk [112]),.sl [[VS (((((a2_1.ix (1:Int)).getD 1 .any).ix (1:Int)).getD 0 .any).ag),((((a2_1.ix (1:Int)).getD 1 .any).ix (1:Int)).getD 1 .any)],[VS ((r9.cs.getD 0 .any).ag),(r9.cs.getD 1 .any)]]] [] fun r10 o10=>NA r10<|.done 0 [.agg [VS ((r10.cs.getD 0 .any).ag),(r10.cs.getD 1 .any)]] []) (.call 121 [.agg [VS (((a2_1.ix (1:Int)).getD 0 .any).ag),((a2_1.ix (1:Int)).getD 1 .any)]] [] fun r11 o11=>NS r11<|.test (af r11.ag==af (mk [108])) (NG a0_1 2 2<|NE (a0_1.ix (2:Int))<|NG ((a2_1.ix (1:Int)).getD 1 .any) 1 2<|NE (((a2_1.ix (1:Int)).getD 1 .any).ix (1:Int))<|.call 99 [.agg [VS (((a0_1.ix (2:Int)).getD 0 .any).ag),((a0_1.ix (2:Int)).getD 1 .any)],VS a1,.agg [VS (((((a2_1.ix (1:Int)).getD 1 .any).ix (1:Int)).getD 0 .any).ag),((((a2_1.ix (1:Int)).getD 1 .any).ix (1:Int)).getD 1 .any)],.agg [VS a3_0,a3_1]] [] fun r12 o12=>NA r12<|.call 98 [VS (mk [102]),.sl [[VS ((r12.cs.getD 0 .any).ag),(r12.cs.getD 1 .any)]]] [] fun r13 o13=>NA r13<|.done 0 [.agg [VS ((r13.cs.getD 0 .any).ag),(r13.cs.getD 1 .any)]] []) (NG ((a2_1.ix (1:Int)).getD 1 .any) 1 2<|NE (((a2_1.ix (1:Int)).getD 1 .any).ix (1:Int))<|NG ((((a2_1.ix (1:Int)).getD 1 .any).ix (1:Int)).getD 1 .any) 2 2<|NE (((((a2_1.ix (1:Int)).getD 1 .any).ix (1:Int)).getD 1 .any).ix (2:Int))<|.call 99 [.agg [VS a0_0,a0_1],VS a1,.agg [VS (((((((a2_1.ix (1:Int)).getD 1 .any).ix (1:Int)).getD 1 .any).ix (2:Int)).getD 0 .any).ag),((((((a2_1.ix (1:Int)).getD 1 .any).ix (1:Int)).getD 1 .any).ix (2:Int)).getD 1 .any)],.agg [VS a3_0,a3_1]] [] fun r14 o14=>NA r14<|NG a0_1 2 2<|NE (a0_1.ix (2:Int))<|NG a0_1 1 2<|lg (a0_1.ix (1:Int))<|NG ((((a2_1.ix (1:Int)).getD 1 .any).ix (1:Int)).getD 1 .any) 1 2<|NE (((((a2_1.ix (1:Int)).getD 1 .any).ix (1:Int)).getD 1 .any).ix (1:Int))<|.call 99 [.agg [VS (((a0_1.ix (2:Int)).getD 0 .any).ag),((a0_1.ix (2:Int)).getD 1 .any)],VS (((a0_1.ix (1:Int)).hA).ag),.agg [VS (((((((a2_1.ix (1:Int)).getD 1 .any).ix (1:Int)).getD 1 .any).ix (1:Int)).getD 0 .any).ag),((((((a2_1.ix (1:Int)).getD 1 .any).ix (1:Int)).getD 1 .any).ix (1:Int)).getD 1 .any)],.agg [VS ((r14.cs.getD 0 .any).ag),(r14.cs.getD 1 .any)]] [] fun r15 o15=>NA r15<|.call 98 [VS (mk [102]),.sl [[VS ((r15.cs.getD 0 .any).ag),(r15.cs.getD 1 .any)]]] [] fun r16 o16=>NA r16<|.done 0 [.agg [VS ((r16.cs.getD 0 .any).ag),(r16.cs.getD 1 .any)]] []))))))
theorem Pm(a0_0:ByteArray)(a0_1:AV)(a1:ByteArray)(a2_0:ByteArray)(a2_1:AV)(a3_0:ByteArray)(a3_1:AV)(ha0_1:LK.has .sl a0_1)(ha2_1:LK.has .sl a2_1)(ha3_1:LK.has .sl a3_1)(h:du 132 (CM a0_0 a0_1 a1 a2_0 a2_1 a3_0 a3_1) R):aq Tryz.prog 99 [.agg [VS a0_0,a0_1],VS a1,.agg [VS a2_0,a2_1],.agg [VS a3_0,a3_1]] [] R :=
 uQ (ah (ci (ah (aA _) (ah (bT ha0_1) aD))) (ah (aA _) (ah (ci (ah (aA _) (ah (bT ha2_1) aD))) (ah (ci (ah (aA _) (ah (bT ha3_1) aD))) aD)))) (oQ [] Tryz.f99 h)
def Kh(a0:Int)(a1:AV):Tree :=
 .done 0 [.ptr [.v (.int .u8 a0),VS (mk []),a1,.v (.pointer none)]] []
theorem O6(a0:Int)(a1:AV)(ha1:LK.has .ptr a1)(h:du 9 (Kh a0 a1) R):aq Tryz.prog 100 [.v (.int .u8 a0),a1] [] R :=
 uQ (ah (aA _) (ah (bE ha1) aD)) (oQ [] Tryz.f100 h)
def AN(a0_0:AV)(a0_1:AV)(a1:AV)(a2_0:ByteArray)(a2_1:AV)(a3:AV):Tree :=
 NZ a0_0<|NZ a0_0<|.aj (LK.has (.int .u8) (a0_0.deref.hA)/\1<=a0_0.deref.length)<|.test (((a0_0.deref.hA).toInt)==(43:Int)) (.call 113 [.agg [a0_0,a0_1]] [] fun r1 o1=>.aj (r1=.agg r1.cs/\r1.cs.length=2/\bH [.ptr,.ptr] r1.cs 0)<|NZ a1<|NZ a1<|.aj (LK.has (.int .u8) (a1.deref.hA)/\1<=a1.deref.length)<|.test (((a1.deref.hA).toInt)==(114:Int)) (.call 114 [.agg [a0_0,a0_1]] [] fun r2 o2=>.aj (r2=.agg r2.cs/\r2.cs.length=2/\bH [.ptr,.ptr] r2.cs 0)<|NZ a1<|NZ a1<|.aj (LK.has (.int .u8) (a1.deref.hA)/\1<=a1.deref.length)<|NZ a1<|NZ a1<|dT (a1.deref.drop 2)<|.call 101 [.agg [(r2.cs.getD 0 .any),(r2.cs.getD 1 .any)],((a1.deref.drop 2).hA),.agg [VS a2_0,a2_1],a3] [] fun r3 o3=>NP r3<|.call 100 [.v (.int .u8 ((a1.deref.hA).toInt)),r3] [] fun r4 o4=>NP r4<|.done 0 [r4] []) (NZ a1<|NZ a1<|.aj (LK.has (.int .u8) (a1.deref.hA)/\1<=a1.deref.length)<|NZ a1<|NZ a1<|dT (a1.deref.drop 2)<|.call 101 [.agg [(r1.cs.getD 0 .any),(r1.cs.getD 1 .any)],((a1.deref.drop 2).hA),.agg [VS a2_0,a2_1],a3] [] fun r5 o5=>NP r5<|.call 100 [.v (.int .u8 ((a1.deref.hA).toInt)),r5] [] fun r6 o6=>NP r6<|.done 0 [r6] [])) (.test (((a0_0.deref.hA).toInt)==(42:Int)) (NZ a1<|NZ a1<|.aj (LK.has (.int .u8) (a1.deref.hA)/\1<=a1.deref.length)<|.test (((a1.deref.hA).toInt)==(108:Int)) (.call 113 [.agg [a0_0,a0_1]] [] fun r7 o7=>.aj (r7=.agg r7.cs/\r7.cs.length=2/\bH [.ptr,.ptr] r7.cs 0)<|NZ a1<|NZ a1<|dT (a1.deref.drop 2)<|NZ ((a1.deref.drop 2).hA)<|NZ ((a1.deref.drop 2).hA)<|dT (((a1.deref.drop 2).hA).deref.drop 2)<|.call 101 [.agg [(r7.cs.getD 0 .any),(r7.cs.getD 1 .any)],((((a1.deref.drop 2).hA).deref.drop 2).hA),.agg [VS a2_0,a2_1],a3] [] fun r8 o8=>NP r8<|NZ a1<|NZ a1<|dT (a1.deref.drop 2)<|NZ ((a1.deref.drop 2).hA)<|NZ ((a1.deref.drop 2).hA)<|dT (((a1.deref.drop 2).hA).deref.drop 3)<|.call 117 [r8,((((a1.deref.drop 2).hA).deref.drop 3).hA)] [] fun r9 o9=>NP r9<|.done 0 [r9] []) (NZ a1<|NZ a1<|dT (a1.deref.drop 2)<|NZ ((a1.deref.drop 2).hA)<|NZ ((a1.deref.drop 2).hA)<|dT (((a1.deref.drop 2).hA).deref.drop 2)<|.call 114 [.agg [a0_0,a0_1]] [] fun r10 o10=>.aj (r10=.agg r10.cs/\r10.cs.length=2/\bH [.ptr,.ptr] r10.cs 0)<|NZ a1<|NZ a1<|dT (a1.deref.drop 2)<|NZ ((a1.deref.drop 2).hA)<|NZ ((a1.deref.drop 2).hA)<|dT (((a1.deref.drop 2).hA).deref.drop 3)<|.call 101 [.agg [(r10.cs.getD 0 .any),(r10.cs.getD 1 .any)],((((a1.deref.drop 2).hA).deref.drop 3).hA),.agg [VS a2_0,a2_1],a3] [] fun r11 o11=>NP r11<|.call 117 [((((a1.deref.drop 2).hA).deref.drop 2).hA),r11] [] fun r12 o12=>NP r12<|.done 0 [r12] [])) (.test (((a0_0.deref.hA).toInt)==(114:Int)) (.call 86 [.agg [a0_0,a0_1]] [] fun r13 o13=>NT r13<|.aj ((r13.comp 0)=.agg (r13.comp 0).cs/\(r13.comp 0).cs.length=2/\bH [.ptr,.ptr] ((r13.comp 0).cs) 0)<|NP (r13.comp 1)<|NZ a1<|NZ a1<|dT (a1.deref.drop 2)<|NZ ((a1.deref.drop 2).hA)<|NZ ((a1.deref.drop 2).hA)<|.aj (LK.has (.int .u8) (((a1.deref.drop 2).hA).deref.hA)/\1<=(((a1.deref.drop 2).hA).deref).length)<|.test (((((a1.deref.drop 2).hA).deref.hA).toInt)==(108:Int)) (NZ a1<|NZ a1<|dT (a1.deref.drop 2)<|NZ ((a1.deref.drop 2).hA)<|NZ ((a1.deref.drop 2).hA)<|dT (((a1.deref.drop 2).hA).deref.drop 2)<|.call 101 [.agg [((r13.comp 0).cs.getD 0 .any),((r13.comp 0).cs.getD 1 .any)],((((a1.deref.drop 2).hA).deref.drop 2).hA),.agg [VS a2_0,a2_1],a3] [] fun r14 o14=>NP r14<|.call 100 [.v (.int .u8 102),r14] [] fun r15 o15=>NP r15<|.done 0 [r15] []) (NZ a1<|NZ a1<|dT (a1.deref.drop 2)<|NZ ((a1.deref.drop 2).hA)<|NZ ((a1.deref.drop 2).hA)<|dT (((a1.deref.drop 2).hA).deref.drop 2)<|NZ ((((a1.deref.drop 2).hA).deref.drop 2).hA)<|NZ ((((a1.deref.drop 2).hA).deref.drop 2).hA)<|dT (((((a1.deref.drop 2).hA).deref.drop 2).hA).deref.drop 3)<|.call 101 [.agg [a0_0,a0_1],((((((a1.deref.drop 2).hA).deref.drop 2).hA).deref.drop 3).hA),.agg [VS a2_0,a2_1],a3] [] fun r16 o16=>NP r16<|NZ a1<|NZ a1<|dT (a1.deref.drop 2)<|NZ ((a1.deref.drop 2).hA)<|NZ ((a1.deref.drop 2).hA)<|dT (((a1.deref.drop 2).hA).deref.drop 2)<|NZ ((((a1.deref.drop 2).hA).deref.drop 2).hA)<|NZ ((((a1.deref.drop 2).hA).deref.drop 2).hA)<|dT (((((a1.deref.drop 2).hA).deref.drop 2).hA).deref.drop 2)<|.call 101 [.agg [((r13.comp 0).cs.getD 0 .any),((r13.comp 0).cs.getD 1 .any)],((((((a1.deref.drop 2).hA).deref.drop 2).hA).deref.drop 2).hA),.agg [VS (mk []),(r13.comp 1)],r16] [] fun r17 o17=>NP r17<|.call 100 [.v (.int .u8 102),r17] [] fun r18 o18=>NP r18<|.done 0 [r18] [])) (.done 0 [a3] [])))
theorem Qs(a0_0:AV)(a0_1:AV)(a1:AV)(a2_0:ByteArray)(a2_1:AV)(a3:AV)(ha0_0:LK.has .ptr a0_0)(ha0_1:LK.has .ptr a0_1)(ha1:LK.has .ptr a1)(ha2_1:LK.has .ptr a2_1)(ha3:LK.has .ptr a3)(h:du 147 (AN a0_0 a0_1 a1 a2_0 a2_1 a3) R):aq Tryz.prog 101 [.agg [a0_0,a0_1],a1,.agg [VS a2_0,a2_1],a3] [] R :=
 uQ (ah (ci (ah (bE ha0_0) (ah (bE ha0_1) aD))) (ah (bE ha1) (ah (ci (ah (aA _) (ah (bE ha2_1) aD))) (ah (bE ha3) aD)))) (oQ [] Tryz.f101 h)
def Lj(a0_0:AV)(a0_1:Int)(a1:AV):Tree :=
 NL a1<|.call 81 [.ref 0 0,VI (a1.aP.length:Int)] [.cells [a0_0,VI a0_1]] fun r1 o1=>.aj ((o1.hO)=.cells (o1.hO).cs)<|.aj (aM [.lk .sl,.lk (.int .i64)] ((o1.hO).cs) 0 1 o1.tail)<|NI r1<|.aj (LK.has .sl a1/\0<=r1.toInt/\r1.toInt<a1.aP.length/\(a1.aP.getD r1.toInt.toNat []).length=1)<|lg (a1.aP.getD r1.toInt.toNat [])<|.done 0 [VS (((a1.aP.getD r1.toInt.toNat []).hA).ag)] [.cells [((o1.hO).cs.getD 0 .any),VI (((o1.hO).cs.getD 1 .any).toInt)]]
theorem O0(a0_0:AV)(a0_1:Int)(a1:AV)(ha1:LK.has .sl a1)(ha0_0:LK.has .sl a0_0)(h:du 12 (Lj a0_0 a0_1 a1) R):aq Tryz.prog 102 [.ref 0 0,a1] [.cells [a0_0,VI a0_1]] R :=
 aq.nK (bB (cc (ah (bT ha0_0) (ah (aA _) aD))) cw) (aq.up (ah (aA _) (ah (bT ha1) aD)) (oF [] {mu:=[(0,.one (.obj [.lk .sl,.lk (.int .i64)]))],own:=[]} Tryz.f102 h))
def KH(a0_0:AV)(a0_1:Int):Tree :=
 .call 81 [.ref 0 0,VI 8] [.cells [a0_0,VI a0_1]] fun r1 o1=>.aj ((o1.hO)=.cells (o1.hO).cs)<|.aj (aM [.lk .sl,.lk (.int .i64)] ((o1.hO).cs) 0 1 o1.tail)<|NI r1<|.test (r1.toInt==(0:Int)) (.call 135 [.ref 0 0] [.cells [((o1.hO).cs.getD 0 .any),VI (((o1.hO).cs.getD 1 .any).toInt)]] fun r2 o2=>.aj ((o2.hO)=.cells (o2.hO).cs)<|.aj (aM [.lk .sl,.lk (.int .i64)] ((o2.hO).cs) 0 1 o2.tail)<|NS r2<|.done 0 [VS r2.ag] [.cells [((o2.hO).cs.getD 0 .any),VI (((o2.hO).cs.getD 1 .any).toInt)]]) (.test (r1.toInt==(1:Int)) (.call 136 [.ref 0 0,.sl [],VI 3] [.cells [((o1.hO).cs.getD 0 .any),VI (((o1.hO).cs.getD 1 .any).toInt)]] fun r3 o3=>.aj ((o3.hO)=.cells (o3.hO).cs)<|.aj (aM [.lk .sl,.lk (.int .i64)] ((o3.hO).cs) 0 1 o3.tail)<|NS r3<|.done 0 [VS r3.ag] [.cells [((o3.hO).cs.getD 0 .any),VI (((o3.hO).cs.getD 1 .any).toInt)]]) (.test (r1.toInt==(2:Int)) (.call 136 [.ref 0 0,.sl [],VI 3] [.cells [((o1.hO).cs.getD 0 .any),VI (((o1.hO).cs.getD 1 .any).toInt)]] fun r4 o4=>.aj ((o4.hO)=.cells (o4.hO).cs)<|.aj (aM [.lk .sl,.lk (.int .i64)] ((o4.hO).cs) 0 1 o4.tail)<|NS r4<|.done 0 [VS r4.ag] [.cells [((o4.hO).cs.getD 0 .any),VI (((o4.hO).cs.getD 1 .any).toInt)]]) (.test (r1.toInt==(3:Int)) (.call 136 [.ref 0 0,.sl [],VI 3] [.cells [((o1.hO).cs.getD 0 .any),VI (((o1.hO).cs.getD 1 .any).toInt)]] fun r5 o5=>.aj ((o5.hO)=.cells (o5.hO).cs)<|.aj (aM [.lk .sl,.lk (.int .i64)] ((o5.hO).cs) 0 1 o5.tail)<|NS r5<|.done 0 [VS r5.ag] [.cells [((o5.hO).cs.getD 0 .any),VI (((o5.hO).cs.getD 1 .any).toInt)]]) (.call 80 [.ref 0 0] [.cells [((o1.hO).cs.getD 0 .any),VI (((o1.hO).cs.getD 1 .any).toInt)]] fun r6 o6=>.aj ((o6.hO)=.cells (o6.hO).cs)<|.aj (aM [.lk .sl,.lk (.int .i64)] ((o6.hO).cs) 0 1 o6.tail)<|NS r6<|.done 0 [VS r6.ag] [.cells [((o6.hO).cs.getD 0 .any),VI (((o6.hO).cs.getD 1 .any).toInt)]]))))
theorem QP(a0_0:AV)(a0_1:Int)(ha0_0:LK.has .sl a0_0)(h:du 18 (KH a0_0 a0_1) R):aq Tryz.prog 103 [.ref 0 0] [.cells [a0_0,VI a0_1]] R :=
 aq.nK (bB (cc (ah (bT ha0_0) (ah (aA _) aD))) cw) (aq.up (ah (aA _) aD) (oF [] {mu:=[(0,.one (.obj [.lk .sl,.lk (.int .i64)]))],own:=[]} Tryz.f103 h))
def GG:LI:={hd:={bX:=[(7,.k (.int .i64))],refs:=[(2,2),(4,4)],co:=[(2,[.lk .str,.lk .sl]),(4,[.lk .str,.lk .sl])],eZ:=[(6,1)]},xs:={refs:=[(2,2),(4,4)],co:=[(2,[.lk .str,.lk .sl]),(4,[.lk .str,.lk .sl])]},rt:={bX:=[(3,.k .bool)],refs:=[(2,2)],co:=[(2,[.lk .str,.lk .sl])]},ex:=0}
def LM:Code:=cP (cH Tryz.f104) 6
def M3:List (Nat×LI):=[(6,GG)]
def Nv(a0:ByteArray):Tree :=
 .call 132 [VS a0] [] fun r1 o1=>NT r1<|.aj ((r1.comp 0)=.agg (r1.comp 0).cs/\(r1.comp 0).cs.length=2/\bH [.str,.sl] ((r1.comp 0).cs) 0)<|NB (r1.comp 1)<|.test (!((r1.comp 1).toBool)) (.done 0 [.cD [.agg [VS (((r1.comp 0).cs.getD 0 .any).ag),((r1.comp 0).cs.getD 1 .any)],VB false]] []) (.call 137 [.agg [VS (((r1.comp 0).cs.getD 0 .any).ag),((r1.comp 0).cs.getD 1 .any)],.sl [],.vec 0] [.vec 1 []] fun r2 o2=>.aj (r2=.vec 1/\(o2.tail.hO)=.vec 1 (o2.tail.hO).es)<|.loop LM GG [VI 0] [.cells [VS (mk []),.v (.slice none 0 0)],.cells [VS (((r1.comp 0).cs.getD 0 .any).ag),((r1.comp 0).cs.getD 1 .any)],.vec 1 ((o2.tail.hO).es)] (fun y4 q4=>.aj ((q4.hO)=.cells (q4.hO).cs)<|.aj (ac [.lk .str,.lk .sl] ((q4.hO).cs) 0 q4.tail)<|.aj (((q4.tail.drop 0).hO)=.cells ((q4.tail.drop 0).hO).cs)<|.aj (ac [.lk .str,.lk .sl] (((q4.tail.drop 0).hO).cs) 0 ((q4.tail.drop 0).tail))<|.done 0 [.cD [.agg [VS (((q4.tail.hO).cs.getD 0 .any).ag),((q4.tail.hO).cs.getD 1 .any)],VB true]] []) (fun y4 q4=>NB (y4.hA)<|.aj ((q4.hO)=.cells (q4.hO).cs)<|.aj (ac [.lk .str,.lk .sl] ((q4.hO).cs) 0 q4.tail)<|.done 0 [.cD [.agg [VS (((q4.hO).cs.getD 0 .any).ag),((q4.hO).cs.getD 1 .any)],VB ((y4.hA).toBool)]] []))
theorem Oo(a0:ByteArray)(h:du 33 (Nv a0) R):aq Tryz.prog 104 [VS a0] [] R :=
 uQ (ah (aA _) aD) (oQ M3 Tryz.f104 h)
def ES(x7:Int)(o2_0:ByteArray)(o2_1:AV)(o4_0:ByteArray)(o4_1:AV)(e6:List (List AV)):Tree :=
 NI (VI x7)<|.aj (Ob.cells [VS o2_0,o2_1]=.cells [VS o2_0,o2_1])<|.aj (ac [.lk .str,.lk .sl] [VS o2_0,o2_1] 0 [.cells [VS o4_0,o4_1],.vec 1 e6])<|.aj (Ob.cells [VS o4_0,o4_1]=.cells [VS o4_0,o4_1])<|.aj (ac [.lk .str,.lk .sl] [VS o4_0,o4_1] 0 [.vec 1 e6])<|.aj (Ob.vec 1 e6=.vec 1 e6)<|.test (decide (x7<(e6.length:Int))) (.aj (0<=x7/\x7<e6.length)<|.aj (x7.toNat<e6.length/\0<(e6.getD x7.toNat []).length/\LK.has .str ((e6.getD x7.toNat []).getD 0 .any))<|.call 138 [VS (((e6.getD x7.toNat []).getD 0 .any).ag)] [] fun r1 o1=>NB r1<|.test r1.toBool (.done 2 [VB false] [.cells [VS o4_0,o4_1]]) (.done 0 [VI (IntKind.wrap .i64 (x7+1))] [.cells [VS o2_0,o2_1],.cells [VS o4_0,o4_1],.vec 1 e6])) (.done 1 [] [.cells [VS o2_0,o2_1],.cells [VS o4_0,o4_1]])
abbrev Hf:=cy Tryz.prog 33 LM GG
theorem Jj(x7:Int)(o2_0:ByteArray)(o2_1:AV)(o4_0:ByteArray)(o4_1:AV)(e6:List (List AV))(h:kE 33 (ES x7 o2_0 o2_1 o4_0 o4_1 e6) Hf U):Hf [VI x7] [.cells [VS o2_0,o2_1],.cells [VS o4_0,o4_1],.vec 1 e6] U :=
 gQ M3 h
def Bu(a0_0:AV)(a0_1:Int)(a1_0:ByteArray)(a1_1:AV)(a2:Int):Tree :=
 .call 121 [.agg [VS a1_0,a1_1]] [] fun r1 o1=>NS r1<|.test (af r1.ag==af (mk [43])) (.call 81 [.ref 0 0,VI 2] [.cells [a0_0,VI a0_1]] fun r2 o2=>.aj ((o2.hO)=.cells (o2.hO).cs)<|.aj (aM [.lk .sl,.lk (.int .i64)] ((o2.hO).cs) 0 1 o2.tail)<|NI r2<|NG a1_1 1 2<|NE (a1_1.ix (1:Int))<|.call 139 [.agg [VS (((a1_1.ix (1:Int)).getD 0 .any).ag),((a1_1.ix (1:Int)).getD 1 .any)],.sl []] [] fun r3 o3=>NB r3<|.test r3.toBool (.test ((1:Int)==(0:Int)) (NG a1_1 1 2<|NE (a1_1.ix (1:Int))<|.call 105 [.ref 0 0,.agg [VS (((a1_1.ix (1:Int)).getD 0 .any).ag),((a1_1.ix (1:Int)).getD 1 .any)],VI (IntKind.wrap .i64 (a2-1))] [.cells [((o2.hO).cs.getD 0 .any),VI (((o2.hO).cs.getD 1 .any).toInt)]] fun r4 o4=>.aj ((o4.hO)=.cells (o4.hO).cs)<|.aj (aM [.lk .sl,.lk (.int .i64)] ((o4.hO).cs) 0 1 o4.tail)<|NA r4<|.call 98 [VS (mk [108]),.sl [[VS ((r4.cs.getD 0 .any).ag),(r4.cs.getD 1 .any)]]] [] fun r5 o5=>NA r5<|.done 0 [.agg [VS ((r5.cs.getD 0 .any).ag),(r5.cs.getD 1 .any)]] [.cells [((o4.hO).cs.getD 0 .any),VI (((o4.hO).cs.getD 1 .any).toInt)]]) (NG a1_1 2 2<|NE (a1_1.ix (2:Int))<|.call 105 [.ref 0 0,.agg [VS (((a1_1.ix (2:Int)).getD 0 .any).ag),((a1_1.ix (2:Int)).getD 1 .any)],VI (IntKind.wrap .i64 (a2-1))] [.cells [((o2.hO).cs.getD 0 .any),VI (((o2.hO).cs.getD 1 .any).toInt)]] fun r6 o6=>.aj ((o6.hO)=.cells (o6.hO).cs)<|.aj (aM [.lk .sl,.lk (.int .i64)] ((o6.hO).cs) 0 1 o6.tail)<|NA r6<|.call 98 [VS (mk [114]),.sl [[VS ((r6.cs.getD 0 .any).ag),(r6.cs.getD 1 .any)]]] [] fun r7 o7=>NA r7<|.done 0 [.agg [VS ((r7.cs.getD 0 .any).ag),(r7.cs.getD 1 .any)]] [.cells [((o6.hO).cs.getD 0 .any),VI (((o6.hO).cs.getD 1 .any).toInt)]])) (.test (decide (a2<=(0:Int))) (NG a1_1 1 2<|NE (a1_1.ix (1:Int))<|.call 140 [.agg [VS (((a1_1.ix (1:Int)).getD 0 .any).ag),((a1_1.ix (1:Int)).getD 1 .any)]] [] fun r8 o8=>NI r8<|NG a1_1 2 2<|NE (a1_1.ix (2:Int))<|.call 140 [.agg [VS (((a1_1.ix (2:Int)).getD 0 .any).ag),((a1_1.ix (2:Int)).getD 1 .any)]] [] fun r9 o9=>NI r9<|.test (decide (r8.toInt>r9.toInt)) (NG a1_1 2 2<|NE (a1_1.ix (2:Int))<|.call 139 [.agg [VS (((a1_1.ix (2:Int)).getD 0 .any).ag),((a1_1.ix (2:Int)).getD 1 .any)],.sl []] [] fun r10 o10=>NB r10<|.test (!r10.toBool) (.test ((1:Int)==(0:Int)) (NG a1_1 1 2<|NE (a1_1.ix (1:Int))<|.call 105 [.ref 0 0,.agg [VS (((a1_1.ix (1:Int)).getD 0 .any).ag),((a1_1.ix (1:Int)).getD 1 .any)],VI (IntKind.wrap .i64 (a2-1))] [.cells [((o2.hO).cs.getD 0 .any),VI (((o2.hO).cs.getD 1 .any).toInt)]] fun r11 o11=>.aj ((o11.hO)=.cells (o11.hO).cs)<|.aj (aM [.lk .sl,.lk (.int .i64)] ((o11.hO).cs) 0 1 o11.tail)<|NA r11<|.call 98 [VS (mk [108]),.sl [[VS ((r11.cs.getD 0 .any).ag),(r11.cs.getD 1 .any)]]] [] fun r12 o12=>NA r12<|.done 0 [.agg [VS ((r12.cs.getD 0 .any).ag),(r12.cs.getD 1 .any)]] [.cells [((o11.hO).cs.getD 0 .any),VI (((o11.hO).cs.getD 1 .any).toInt)]]) (NG a1_1 2 2<|NE (a1_1.ix (2:Int))<|.call 105 [.ref 0 0,.agg [VS (((a1_1.ix (2:Int)).getD 0 .any).ag),((a1_1.ix (2:Int)).getD 1 .any)],VI (IntKind.wrap .i64 (a2-1))] [.cells [((o2.hO).cs.getD 0 .any),VI (((o2.hO).cs.getD 1 .any).toInt)]] fun r13 o13=>.aj ((o13.hO)=.cells (o13.hO).cs)<|.aj (aM [.lk .sl,.lk (.int .i64)] ((o13.hO).cs) 0 1 o13.tail)<|NA r13<|.call 98 [VS (mk [114]),.sl [[VS ((r13.cs.getD 0 .any).ag),(r13.cs.getD 1 .any)]]] [] fun r14 o14=>NA r14<|.done 0 [.agg [VS ((r14.cs.getD 0 .any).ag),(r14.cs.getD 1 .any)]] [.cells [((o13.hO).cs.getD 0 .any),VI (((o13.hO).cs.getD 1 .any).toInt)]])) (NG a1_1 2 2<|NE (a1_1.ix (2:Int))<|.call 139 [.agg [VS (((a1_1.ix (2:Int)).getD 0 .any).ag),((a1_1.ix (2:Int)).getD 1 .any)],.sl []] [] fun r15 o15=>NB r15<|.test r15.toBool (.test ((0:Int)==(0:Int)) (NG a1_1 1 2<|NE (a1_1.ix (1:Int))<|.call 105 [.ref 0 0,.agg [VS (((a1_1.ix (1:Int)).getD 0 .any).ag),((a1_1.ix (1:Int)).getD 1 .any)],VI (IntKind.wrap .i64 (a2-1))] [.cells [((o2.hO).cs.getD 0 .any),VI (((o2.hO).cs.getD 1 .any).toInt)]] fun r16 o16=>.aj ((o16.hO)=.cells (o16.hO).cs)<|.aj (aM [.lk .sl,.lk (.int .i64)] ((o16.hO).cs) 0 1 o16.tail)<|NA r16<|.call 98 [VS (mk [108]),.sl [[VS ((r16.cs.getD 0 .any).ag),(r16.cs.getD 1 .any)]]] [] fun r17 o17=>NA r17<|.done 0 [.agg [VS ((r17.cs.getD 0 .any).ag),(r17.cs.getD 1 .any)]] [.cells [((o16.hO).cs.getD 0 .any),VI (((o16.hO).cs.getD 1 .any).toInt)]]) (NG a1_1 2 2<|NE (a1_1.ix (2:Int))<|.call 105 [.ref 0 0,.agg [VS (((a1_1.ix (2:Int)).getD 0 .any).ag),((a1_1.ix (2:Int)).getD 1 .any)],VI (IntKind.wrap .i64 (a2-1))] [.cells [((o2.hO).cs.getD 0 .any),VI (((o2.hO).cs.getD 1 .any).toInt)]] fun r18 o18=>.aj ((o18.hO)=.cells (o18.hO).cs)<|.aj (aM [.lk .sl,.lk (.int .i64)] ((o18.hO).cs) 0 1 o18.tail)<|NA r18<|.call 98 [VS (mk [114]),.sl [[VS ((r18.cs.getD 0 .any).ag),(r18.cs.getD 1 .any)]]] [] fun r19 o19=>NA r19<|.done 0 [.agg [VS ((r19.cs.getD 0 .any).ag),(r19.cs.getD 1 .any)]] [.cells [((o18.hO).cs.getD 0 .any),VI (((o18.hO).cs.getD 1 .any).toInt)]])) (.test (decide (a2<=(0:Int))) (.test ((0:Int)==(0:Int)) (NG a1_1 1 2<|NE (a1_1.ix (1:Int))<|.call 105 [.ref 0 0,.agg [VS (((a1_1.ix (1:Int)).getD 0 .any).ag),((a1_1.ix (1:Int)).getD 1 .any)],VI (IntKind.wrap .i64 (a2-1))] [.cells [((o2.hO).cs.getD 0 .any),VI (((o2.hO).cs.getD 1 .any).toInt)]] fun r20 o20=>.aj ((o20.hO)=.cells (o20.hO).cs)<|.aj (aM [.lk .sl,.lk (.int .i64)] ((o20.hO).cs) 0 1 o20.tail)<|NA r20<|.call 98 [VS (mk [108]),.sl [[VS ((r20.cs.getD 0 .any).ag),(r20.cs.getD 1 .any)]]] [] fun r21 o21=>NA r21<|.done 0 [.agg [VS ((r21.cs.getD 0 .any).ag),(r21.cs.getD 1 .any)]] [.cells [((o20.hO).cs.getD 0 .any),VI (((o20.hO).cs.getD 1 .any).toInt)]]) (NG a1_1 2 2<|NE (a1_1.ix (2:Int))<|.call 105 [.ref 0 0,.agg [VS (((a1_1.ix (2:Int)).getD 0 .any).ag),((a1_1.ix (2:Int)).getD 1 .any)],VI (IntKind.wrap .i64 (a2-1))] [.cells [((o2.hO).cs.getD 0 .any),VI (((o2.hO).cs.getD 1 .any).toInt)]] fun r22 o22=>.aj ((o22.hO)=.cells (o22.hO).cs)<|.aj (aM [.lk .sl,.lk (.int .i64)] ((o22.hO).cs) 0 1 o22.tail)<|NA r22<|.call 98 [VS (mk [114]),.sl [[VS ((r22.cs.getD 0 .any).ag),(r22.cs.getD 1 .any)]]] [] fun r23 o23=>NA r23<|.done 0 [.agg [VS ((r23.cs.getD 0 .any).ag),(r23.cs.getD 1 .any)]] [.cells [((o22.hO).cs.getD 0 .any),VI (((o22.hO).cs.getD 1 .any).toInt)]])) (.test (r2.toInt==(0:Int)) (NG a1_1 1 2<|NE (a1_1.ix (1:Int))<|.call 105 [.ref 0 0,.agg [VS (((a1_1.ix (1:Int)).getD 0 .any).ag),((a1_1.ix (1:Int)).getD 1 .any)],VI (IntKind.wrap .i64 (a2-1))] [.cells [((o2.hO).cs.getD 0 .any),VI (((o2.hO).cs.getD 1 .any).toInt)]] fun r24 o24=>.aj ((o24.hO)=.cells (o24.hO).cs)<|.aj (aM [.lk .sl,.lk (.int .i64)] ((o24.hO).cs) 0 1 o24.tail)<|NA r24<|.call 98 [VS (mk [108]),.sl [[VS ((r24.cs.getD 0 .any).ag),(r24.cs.getD 1 .any)]]] [] fun r25 o25=>NA r25<|.done 0 [.agg [VS ((r25.cs.getD 0 .any).ag),(r25.cs.getD 1 .any)]] [.cells [((o24.hO).cs.getD 0 .any),VI (((o24.hO).cs.getD 1 .any).toInt)]]) (NG a1_1 2 2<|NE (a1_1.ix (2:Int))<|.call 105 [.ref 0 0,.agg [VS (((a1_1.ix (2:Int)).getD 0 .any).ag),((a1_1.ix (2:Int)).getD 1 .any)],VI (IntKind.wrap .i64 (a2-1))] [.cells [((o2.hO).cs.getD 0 .any),VI (((o2.hO).cs.getD 1 .any).toInt)]] fun r26 o26=>.aj ((o26.hO)=.cells (o26.hO).cs)<|.aj (aM [.lk .sl,.lk (.int .i64)] ((o26.hO).cs) 0 1 o26.tail)<|NA r26<|.call 98 [VS (mk [114]),.sl [[VS ((r26.cs.getD 0 .any).ag),(r26.cs.getD 1 .any)]]] [] fun r27 o27=>NA r27<|.done 0 [.agg [VS ((r27.cs.getD 0 .any).ag),(r27.cs.getD 1 .any)]] [.cells [((o26.hO).cs.getD 0 .any),VI (((o26.hO).cs.getD 1 .any).toInt)]]))))) (NG a1_1 2 2<|NE (a1_1.ix (2:Int))<|.call 139 [.agg [VS (((a1_1.ix (2:Int)).getD 0 .any).ag),((a1_1.ix (2:Int)).getD 1 .any)],.sl []] [] fun r28 o28=>NB r28<|.test r28.toBool (.test ((0:Int)==(0:Int)) (NG a1_1 1 2<|NE (a1_1.ix (1:Int))<|.call 105 [.ref 0 0,.agg [VS (((a1_1.ix (1:Int)).getD 0 .any).ag),((a1_1.ix (1:Int)).getD 1 .any)],VI (IntKind.wrap .i64 (a2-1))] [.cells [((o2.hO).cs.getD 0 .any),VI (((o2.hO).cs.getD 1 .any).toInt)]] fun r29 o29=>.aj ((o29.hO)=.cells (o29.hO).cs)<|.aj (aM [.lk .sl,.lk (.int .i64)] ((o29.hO).cs) 0 1 o29.tail)<|NA r29<|.call 98 [VS (mk [108]),.sl [[VS ((r29.cs.getD 0 .any).ag),(r29.cs.getD 1 .any)]]] [] fun r30 o30=>NA r30<|.done 0 [.agg [VS ((r30.cs.getD 0 .any).ag),(r30.cs.getD 1 .any)]] [.cells [((o29.hO).cs.getD 0 .any),VI (((o29.hO).cs.getD 1 .any).toInt)]]) (NG a1_1 2 2<|NE (a1_1.ix (2:Int))<|.call 105 [.ref 0 0,.agg [VS (((a1_1.ix (2:Int)).getD 0 .any).ag),((a1_1.ix (2:Int)).getD 1 .any)],VI (IntKind.wrap .i64 (a2-1))] [.cells [((o2.hO).cs.getD 0 .any),VI (((o2.hO).cs.getD 1 .any).toInt)]] fun r31 o31=>.aj ((o31.hO)=.cells (o31.hO).cs)<|.aj (aM [.lk .sl,.lk (.int .i64)] ((o31.hO).cs) 0 1 o31.tail)<|NA r31<|.call 98 [VS (mk [114]),.sl [[VS ((r31.cs.getD 0 .any).ag),(r31.cs.getD 1 .any)]]] [] fun r32 o32=>NA r32<|.done 0 [.agg [VS ((r32.cs.getD 0 .any).ag),(r32.cs.getD 1 .any)]] [.cells [((o31.hO).cs.getD 0 .any),VI (((o31.hO).cs.getD 1 .any).toInt)]])) (.test (decide (a2<=(0:Int))) (.test ((0:Int)==(0:Int)) (NG a1_1 1 2<|NE (a1_1.ix (1:Int))<|.call 105 [.ref 0 0,.agg [VS (((a1_1.ix (1:Int)).getD 0 .any).ag),((a1_1.ix (1:Int)).getD 1 .any)],VI (IntKind.wrap .i64 (a2-1))] [.cells [((o2.hO).cs.getD 0 .any),VI (((o2.hO).cs.getD 1 .any).toInt)]] fun r33 o33=>.aj ((o33.hO)=.cells (o33.hO).cs)<|.aj (aM [.lk .sl,.lk (.int .i64)] ((o33.hO).cs) 0 1 o33.tail)<|NA r33<|.call 98 [VS (mk [108]),.sl [[VS ((r33.cs.getD 0 .any).ag),(r33.cs.getD 1 .any)]]] [] fun r34 o34=>NA r34<|.done 0 [.agg [VS ((r34.cs.getD 0 .any).ag),(r34.cs.getD 1 .any)]] [.cells [((o33.hO).cs.getD 0 .any),VI (((o33.hO).cs.getD 1 .any).toInt)]]) (NG a1_1 2 2<|NE (a1_1.ix (2:Int))<|.call 105 [.ref 0 0,.agg [VS (((a1_1.ix (2:Int)).getD 0 .any).ag),((a1_1.ix (2:Int)).getD 1 .any)],VI (IntKind.wrap .i64 (a2-1))] [.cells [((o2.hO).cs.getD 0 .any),VI (((o2.hO).cs.getD 1 .any).toInt)]] fun r35 o35=>.aj ((o35.hO)=.cells (o35.hO).cs)<|.aj (aM [.lk .sl,.lk (.int .i64)] ((o35.hO).cs) 0 1 o35.tail)<|NA r35<|.call 98 [VS (mk [114]),.sl [[VS ((r35.cs.getD 0 .any).ag),(r35.cs.getD 1 .any)]]] [] fun r36 o36=>NA r36<|.done 0 [.agg [VS ((r36.cs.getD 0 .any).ag),(r36.cs.getD 1 .any)]] [.cells [((o35.hO).cs.getD 0 .any),VI (((o35.hO).cs.getD 1 .any).toInt)]])) (.test (r2.toInt==(0:Int)) (NG a1_1 1 2<|NE (a1_1.ix (1:Int))<|.call 105 [.ref 0 0,.agg [VS (((a1_1.ix (1:Int)).getD 0 .any).ag),((a1_1.ix (1:Int)).getD 1 .any)],VI (IntKind.wrap .i64 (a2-1))] [.cells [((o2.hO).cs.getD 0 .any),VI (((o2.hO).cs.getD 1 .any).toInt)]] fun r37 o37=>.aj ((o37.hO)=.cells (o37.hO).cs)<|.aj (aM [.lk .sl,.lk (.int .i64)] ((o37.hO).cs) 0 1 o37.tail)<|NA r37<|.call 98 [VS (mk [108]),.sl [[VS ((r37.cs.getD 0 .any).ag),(r37.cs.getD 1 .any)]]] [] fun r38 o38=>NA r38<|.done 0 [.agg [VS ((r38.cs.getD 0 .any).ag),(r38.cs.getD 1 .any)]] [.cells [((o37.hO).cs.getD 0 .any),VI (((o37.hO).cs.getD 1 .any).toInt)]]) (NG a1_1 2 2<|NE (a1_1.ix (2:Int))<|.call 105 [.ref 0 0,.agg [VS (((a1_1.ix (2:Int)).getD 0 .any).ag),((a1_1.ix (2:Int)).getD 1 .any)],VI (IntKind.wrap .i64 (a2-1))] [.cells [((o2.hO).cs.getD 0 .any),VI (((o2.hO).cs.getD 1 .any).toInt)]] fun r39 o39=>.aj ((o39.hO)=.cells (o39.hO).cs)<|.aj (aM [.lk .sl,.lk (.int .i64)] ((o39.hO).cs) 0 1 o39.tail)<|NA r39<|.call 98 [VS (mk [114]),.sl [[VS ((r39.cs.getD 0 .any).ag),(r39.cs.getD 1 .any)]]] [] fun r40 o40=>NA r40<|.done 0 [.agg [VS ((r40.cs.getD 0 .any).ag),(r40.cs.getD 1 .any)]] [.cells [((o39.hO).cs.getD 0 .any),VI (((o39.hO).cs.getD 1 .any).toInt)]]))))) (NG a1_1 2 2<|NE (a1_1.ix (2:Int))<|.call 139 [.agg [VS (((a1_1.ix (2:Int)).getD 0 .any).ag),((a1_1.ix (2:Int)).getD 1 .any)],.sl []] [] fun r41 o41=>NB r41<|.test r41.toBool (.test ((0:Int)==(0:Int)) (NG a1_1 1 2<|NE (a1_1.ix (1:Int))<|.call 105 [.ref 0 0,.agg [VS (((a1_1.ix (1:Int)).getD 0 .any).ag),((a1_1.ix (1:Int)).getD 1 .any)],VI (IntKind.wrap .i64 (a2-1))] [.cells [((o2.hO).cs.getD 0 .any),VI (((o2.hO).cs.getD 1 .any).toInt)]] fun r42 o42=>.aj ((o42.hO)=.cells (o42.hO).cs)<|.aj (aM [.lk .sl,.lk (.int .i64)] ((o42.hO).cs) 0 1 o42.tail)<|NA r42<|.call 98 [VS (mk [108]),.sl [[VS ((r42.cs.getD 0 .any).ag),(r42.cs.getD 1 .any)]]] [] fun r43 o43=>NA r43<|.done 0 [.agg [VS ((r43.cs.getD 0 .any).ag),(r43.cs.getD 1 .any)]] [.cells [((o42.hO).cs.getD 0 .any),VI (((o42.hO).cs.getD 1 .any).toInt)]]) (NG a1_1 2 2<|NE (a1_1.ix (2:Int))<|.call 105 [.ref 0 0,.agg [VS (((a1_1.ix (2:Int)).getD 0 .any).ag),((a1_1.ix (2:Int)).getD 1 .any)],VI (IntKind.wrap .i64 (a2-1))] [.cells [((o2.hO).cs.getD 0 .any),VI (((o2.hO).cs.getD 1 .any).toInt)]] fun r44 o44=>.aj ((o44.hO)=.cells (o44.hO).cs)<|.aj (aM [.lk .sl,.lk (.int .i64)] ((o44.hO).cs) 0 1 o44.tail)<|NA r44<|.call 98 [VS (mk [114]),.sl [[VS ((r44.cs.getD 0 .any).ag),(r44.cs.getD 1 .any)]]] [] fun r45 o45=>NA r45<|.done 0 [.agg [VS ((r45.cs.getD 0 .any).ag),(r45.cs.getD 1 .any)]] [.cells [((o44.hO).cs.getD 0 .any),VI (((o44.hO).cs.getD 1 .any).toInt)]])) (.test (decide (a2<=(0:Int))) (.test ((0:Int)==(0:Int)) (NG a1_1 1 2<|NE (a1_1.ix (1:Int))<|.call 105 [.ref 0 0,.agg [VS (((a1_1.ix (1:Int)).getD 0 .any).ag),((a1_1.ix (1:Int)).getD 1 .any)],VI (IntKind.wrap .i64 (a2-1))] [.cells [((o2.hO).cs.getD 0 .any),VI (((o2.hO).cs.getD 1 .any).toInt)]] fun r46 o46=>.aj ((o46.hO)=.cells (o46.hO).cs)<|.aj (aM [.lk .sl,.lk (.int .i64)] ((o46.hO).cs) 0 1 o46.tail)<|NA r46<|.call 98 [VS (mk [108]),.sl [[VS ((r46.cs.getD 0 .any).ag),(r46.cs.getD 1 .any)]]] [] fun r47 o47=>NA r47<|.done 0 [.agg [VS ((r47.cs.getD 0 .any).ag),(r47.cs.getD 1 .any)]] [.cells [((o46.hO).cs.getD 0 .any),VI (((o46.hO).cs.getD 1 .any).toInt)]]) (NG a1_1 2 2<|NE (a1_1.ix (2:Int))<|.call 105 [.ref 0 0,.agg [VS (((a1_1.ix (2:Int)).getD 0 .any).ag),((a1_1.ix (2:Int)).getD 1 .any)],VI (IntKind.wrap .i64 (a2-1))] [.cells [((o2.hO).cs.getD 0 .any),VI (((o2.hO).cs.getD 1 .any).toInt)]] fun r48 o48=>.aj ((o48.hO)=.cells (o48.hO).cs)<|.aj (aM [.lk .sl,.lk (.int .i64)] ((o48.hO).cs) 0 1 o48.tail)<|NA r48<|.call 98 [VS (mk [114]),.sl [[VS ((r48.cs.getD 0 .any).ag),(r48.cs.getD 1 .any)]]] [] fun r49 o49=>NA r49<|.done 0 [.agg [VS ((r49.cs.getD 0 .any).ag),(r49.cs.getD 1 .any)]] [.cells [((o48.hO).cs.getD 0 .any),VI (((o48.hO).cs.getD 1 .any).toInt)]])) (.test (r2.toInt==(0:Int)) (NG a1_1 1 2<|NE (a1_1.ix (1:Int))<|.call 105 [.ref 0 0,.agg [VS (((a1_1.ix (1:Int)).getD 0 .any).ag),((a1_1.ix (1:Int)).getD 1 .any)],VI (IntKind.wrap .i64 (a2-1))] [.cells [((o2.hO).cs.getD 0 .any),VI (((o2.hO).cs.getD 1 .any).toInt)]] fun r50 o50=>.aj ((o50.hO)=.cells (o50.hO).cs)<|.aj (aM [.lk .sl,.lk (.int .i64)] ((o50.hO).cs) 0 1 o50.tail)<|NA r50<|.call 98 [VS (mk [108]),.sl [[VS ((r50.cs.getD 0 .any).ag),(r50.cs.getD 1 .any)]]] [] fun r51 o51=>NA r51<|.done 0 [.agg [VS ((r51.cs.getD 0 .any).ag),(r51.cs.getD 1 .any)]] [.cells [((o50.hO).cs.getD 0 .any),VI (((o50.hO).cs.getD 1 .any).toInt)]]) (NG a1_1 2 2<|NE (a1_1.ix (2:Int))<|.call 105 [.ref 0 0,.agg [VS (((a1_1.ix (2:Int)).getD 0 .any).ag),((a1_1.ix (2:Int)).getD 1 .any)],VI (IntKind.wrap .i64 (a2-1))] [.cells [((o2.hO).cs.getD 0 .any),VI (((o2.hO).cs.getD 1 .any).toInt)]] fun r52 o52=>.aj ((o52.hO)=.cells (o52.hO).cs)<|.aj (aM [.lk .sl,.lk (.int .i64)] ((o52.hO).cs) 0 1 o52.tail)<|NA r52<|.call 98 [VS (mk [114]),.sl [[VS ((r52.cs.getD 0 .any).ag),(r52.cs.getD 1 .any)]]] [] fun r53 o53=>NA r53<|.done 0 [.agg [VS ((r53.cs.getD 0 .any).ag),(r53.cs.getD 1 .any)]] [.cells [((o52.hO).cs.getD 0 .any),VI (((o52.hO).cs.getD 1 .any).toInt)]])))))) (.test (af r1.ag==af (mk [42])) (NG a1_1 1 2<|NE (a1_1.ix (1:Int))<|.call 105 [.ref 0 0,.agg [VS (((a1_1.ix (1:Int)).getD 0 .any).ag),((a1_1.ix (1:Int)).getD 1 .any)],VI (IntKind.wrap .i64 (a2-1))] [.cells [a0_0,VI a0_1]] fun r54 o54=>.aj ((o54.hO)=.cells (o54.hO).cs)<|.aj (aM [.lk .sl,.lk (.int .i64)] ((o54.hO).cs) 0 1 o54.tail)<|NA r54<|NG a1_1 2 2<|NE (a1_1.ix (2:Int))<|.call 105 [.ref 0 0,.agg [VS (((a1_1.ix (2:Int)).getD 0 .any).ag),((a1_1.ix (2:Int)).getD 1 .any)],VI (IntKind.wrap .i64 (a2-1))] [.cells [((o54.hO).cs.getD 0 .any),VI (((o54.hO).cs.getD 1 .any).toInt)]] fun r55 o55=>.aj ((o55.hO)=.cells (o55.hO).cs)<|.aj (aM [.lk .sl,.lk (.int .i64)] ((o55.hO).cs) 0 1 o55.tail)<|NA r55<|.call 98 [VS (mk [112]),.sl [[VS ((r54.cs.getD 0 .any).ag),(r54.cs.getD 1 .any)],[VS ((r55.cs.getD 0 .any).ag),(r55.cs.getD 1 .any)]]] [] fun r56 o56=>NA r56<|.done 0 [.agg [VS ((r56.cs.getD 0 .any).ag),(r56.cs.getD 1 .any)]] [.cells [((o55.hO).cs.getD 0 .any),VI (((o55.hO).cs.getD 1 .any).toInt)]]) (.test (af r1.ag==af (mk [114,101,99])) (.call 141 [.agg [VS a1_0,a1_1]] [] fun r57 o57=>NT r57<|.aj ((r57.comp 0)=.agg (r57.comp 0).cs/\(r57.comp 0).cs.length=2/\bH [.str,.sl] ((r57.comp 0).cs) 0)<|NB (r57.comp 1)<|.test (!((r57.comp 1).toBool)) (.done 0 [.agg [VS (mk [117]),.v (.slice none 0 0)]] [.cells [a0_0,VI a0_1]]) (.test (decide (a2<((-12):Int))) (.done 0 [.agg [VS (mk [117]),.v (.slice none 0 0)]] [.cells [a0_0,VI a0_1]]) (.call 105 [.ref 0 0,.agg [VS (((r57.comp 0).cs.getD 0 .any).ag),((r57.comp 0).cs.getD 1 .any)],VI (IntKind.wrap .i64 (a2-1))] [.cells [a0_0,VI a0_1]] fun r58 o58=>.aj ((o58.hO)=.cells (o58.hO).cs)<|.aj (aM [.lk .sl,.lk (.int .i64)] ((o58.hO).cs) 0 1 o58.tail)<|NA r58<|.call 98 [VS (mk [102]),.sl [[VS ((r58.cs.getD 0 .any).ag),(r58.cs.getD 1 .any)]]] [] fun r59 o59=>NA r59<|.done 0 [.agg [VS ((r59.cs.getD 0 .any).ag),(r59.cs.getD 1 .any)]] [.cells [((o58.hO).cs.getD 0 .any),VI (((o58.hO).cs.getD 1 .any).toInt)]]))) (.test (af a1_0==af (mk [49])) (.done 0 [.agg [VS (mk [117]),.v (.slice none 0 0)]] [.cells [a0_0,VI a0_1]]) (.call 81 [.ref 0 0,VI 3] [.cells [a0_0,VI a0_1]] fun r60 o60=>.aj ((o60.hO)=.cells (o60.hO).cs)<|.aj (aM [.lk .sl,.lk (.int .i64)] ((o60.hO).cs) 0 1 o60.tail)<|NI r60<|.call 142 [VI r60.toInt] [] fun r61 o61=>NS r61<|.aj (ae (mk [101])+ae r61.ag<=9223372036854775807)<|.done 0 [.agg [VS (((mk [101]):ByteArray)++r61.ag),.v (.slice none 0 0)]] [.cells [((o60.hO).cs.getD 0 .any),VI (((o60.hO).cs.getD 1 .any).toInt)]]))))
theorem Dj(a0_0:AV)(a0_1:Int)(a1_0:ByteArray)(a1_1:AV)(a2:Int)(ha1_1:LK.has .sl a1_1)(ha0_0:LK.has .sl a0_0)(h:du 132 (Bu a0_0 a0_1 a1_0 a1_1 a2) R):aq Tryz.prog 105 [.ref 0 0,.agg [VS a1_0,a1_1],VI a2] [.cells [a0_0,VI a0_1]] R :=
 aq.nK (bB (cc (ah (bT ha0_0) (ah (aA _) aD))) cw) (aq.up (ah (aA _) (ah (ci (ah (aA _) (ah (bT ha1_1) aD))) (ah (aA _) aD))) (oF [] {mu:=[(0,.one (.obj [.lk .sl,.lk (.int .i64)]))],own:=[]} Tryz.f105 h))
def HO:LI:={hd:={bX:=[(1,.k .sl),(6,.k (.int .i64))],refs:=[(2,2),(4,4)],co:=[(2,[.lk .str,.lk .sl]),(4,[.lk .str,.lk .sl])],eZ:=[(5,1)]},xs:={refs:=[(2,2),(4,4)],co:=[(2,[.lk .str,.lk .sl]),(4,[.lk .str,.lk .sl])],eZ:=[(5,1)]},rt:={},ex:=0}
def KR:Code:=cP (cH Tryz.f106) 3
def LG:List (Nat×LI):=[(3,HO)]
def Jk(a0_0:ByteArray)(a0_1:AV)(a1:AV):Tree :=
 .call 137 [.agg [VS a0_0,a0_1],.sl [],.vec 0] [.vec 1 []] fun r1 o1=>.aj (r1=.vec 1/\(o1.tail.hO)=.vec 1 (o1.tail.hO).es)<|.loop KR HO [a1,VI 0] [.cells [VS a0_0,a0_1],.cells [VS (mk []),.v (.slice none 0 0)],.vec 1 ((o1.tail.hO).es)] (fun y3 q3=>.aj ((q3.hO)=.cells (q3.hO).cs)<|.aj (ac [.lk .str,.lk .sl] ((q3.hO).cs) 0 q3.tail)<|.aj (((q3.tail.drop 0).hO)=.cells ((q3.tail.drop 0).hO).cs)<|.aj (ac [.lk .str,.lk .sl] (((q3.tail.drop 0).hO).cs) 0 ((q3.tail.drop 0).tail))<|.aj (((q3.drop 2).hO)=.vec 1 ((q3.drop 2).hO).es)<|.call 143 [.agg [VS (((q3.hO).cs.getD 0 .any).ag),((q3.hO).cs.getD 1 .any)],.sl [],.sl [],.ref 0 0] [.cells [.vec 1,VI 0],.vec 1 ((q3.tail.tail.hO).es)] fun r4 o4=>.aj ((o4.hO)=.cells (o4.hO).cs)<|.aj (aM [.vec 1,.lk (.int .i64)] ((o4.hO).cs) 0 1 o4.tail)<|NA r4<|.done 0 [.agg [VS ((r4.cs.getD 0 .any).ag),(r4.cs.getD 1 .any)]] []) (fun y3 q3=>.fail)
theorem OQ(a0_0:ByteArray)(a0_1:AV)(a1:AV)(ha0_1:LK.has .sl a0_1)(ha1:LK.has .sl a1)(h:du 33 (Jk a0_0 a0_1 a1) R):aq Tryz.prog 106 [.agg [VS a0_0,a0_1],a1] [] R :=
 uQ (ah (ci (ah (aA _) (ah (bT ha0_1) aD))) (ah (bT ha1) aD)) (oQ LG Tryz.f106 h)
def Hu(x1:AV)(x6:Int)(o2_0:ByteArray)(o2_1:AV)(o4_0:ByteArray)(o4_1:AV)(e5:List (List AV)):Tree :=
 NL x1<|NI (VI x6)<|.aj (Ob.cells [VS o2_0,o2_1]=.cells [VS o2_0,o2_1])<|.aj (ac [.lk .str,.lk .sl] [VS o2_0,o2_1] 0 [.cells [VS o4_0,o4_1],.vec 1 e5])<|.aj (Ob.cells [VS o4_0,o4_1]=.cells [VS o4_0,o4_1])<|.aj (ac [.lk .str,.lk .sl] [VS o4_0,o4_1] 0 [.vec 1 e5])<|.aj (Ob.vec 1 e5=.vec 1 e5)<|NL x1<|.test (decide (x6<(x1.aP.length:Int))) (NG x1 x6 2<|NE (x1.ix x6)<|.call 137 [.agg [VS (((x1.ix x6).getD 0 .any).ag),((x1.ix x6).getD 1 .any)],.sl [],.vec 0] [.vec 1 []] fun r1 o1=>.aj (r1=.vec 1/\(o1.tail.hO)=.vec 1 (o1.tail.hO).es)<|.aj (cv 1 ((o1.tail.hO).es)/\((e5.length)+((o1.tail.hO).es).length)*16<=140737488355328)<|.done 0 [x1,VI (IntKind.wrap .i64 (x6+1))] [.cells [VS o2_0,o2_1],.cells [VS o4_0,o4_1],.vec 1 (e5++((o1.tail.hO).es))]) (.done 1 [] [.cells [VS o2_0,o2_1],.cells [VS o4_0,o4_1],.vec 1 e5])
abbrev GN:=cy Tryz.prog 33 KR HO
theorem Nf(x1:AV)(x6:Int)(o2_0:ByteArray)(o2_1:AV)(o4_0:ByteArray)(o4_1:AV)(e5:List (List AV))(h:kE 33 (Hu x1 x6 o2_0 o2_1 o4_0 o4_1 e5) GN U):GN [x1,VI x6] [.cells [VS o2_0,o2_1],.cells [VS o4_0,o4_1],.vec 1 e5] U :=
 gQ LG h
def Ky(a0:ByteArray):Tree :=
 .call 93 [VS a0] [] fun r1 o1=>NP r1<|NP r1<|.test r1.isNil (.done 0 [.v (.pointer none)] []) (NZ r1<|NZ r1<|.aj (LK.has (.int .u8) (r1.deref.hA)/\1<=r1.deref.length)<|.test (((r1.deref.hA).toInt) != (114:Int)) (.done 0 [.v (.pointer none)] []) (.done 0 [r1] []))
theorem Qg(a0:ByteArray)(h:du 16 (Ky a0) R):aq Tryz.prog 107 [VS a0] [] R :=
 uQ (ah (aA _) aD) (oQ [] Tryz.f107 h)
def JO(a0:ByteArray):Tree :=
 .call 128 [VS a0] [] fun r1 o1=>NP r1<|NP r1<|.test r1.isNil (.done 0 [.v (.pointer none)] []) (.call 144 [r1,.v (.slice none 0 0)] [] fun r2 o2=>NP r2<|NP r2<|.test r2.isNil (.done 0 [.v (.pointer none)] []) (.call 145 [r2] [] fun r3 o3=>NI r3<|.test (decide (r3.toInt>(400:Int))) (.done 0 [.v (.pointer none)] []) (.done 0 [r2] [])))
theorem Rh(a0:ByteArray)(h:du 19 (JO a0) R):aq Tryz.prog 108 [VS a0] [] R :=
 uQ (ah (aA _) aD) (oQ [] Tryz.f108 h)
def Lr(a0:AV):Tree :=
 .call 146 [.ref 0 0] [.cells [VI 0,VB false]] fun r1 o1=>.aj ((o1.hO)=.cells (o1.hO).cs)<|.aj (aM [.lk (.int .i64),.lk .bool] ((o1.hO).cs) 0 1 o1.tail)<|NS r1<|NZ a0<|NZ a0<|dT (a0.deref.drop 3)<|.call 149 [((a0.deref.drop 3).hA),.ptr [.v (.int .u8 110),VS r1.ag,VI 0,.v (.pointer none),.v (.pointer none)],VI 0] [] fun r2 o2=>NP r2<|.call 148 [.ref 0 0,r2,VS r1.ag] [.cells [VI (((o1.hO).cs.getD 0 .any).toInt),VB (((o1.hO).cs.getD 1 .any).toBool)]] fun r3 o3=>.aj ((o3.hO)=.cells (o3.hO).cs)<|.aj (aM [.lk (.int .i64),.lk .bool] ((o3.hO).cs) 0 1 o3.tail)<|NP r3<|.call 147 [.ref 0 0,r3] [.cells [VI (((o3.hO).cs.getD 0 .any).toInt),VB (((o3.hO).cs.getD 1 .any).toBool)]] fun r4 o4=>.aj ((o4.hO)=.cells (o4.hO).cs)<|.aj (aM [.lk (.int .i64),.lk .bool] ((o4.hO).cs) 0 1 o4.tail)<|NP r4<|.test (((o4.hO).cs.getD 1 .any).toBool) (.done 0 [.cD [.v (.pointer none),VB false]] []) (.call 150 [r4,VS r1.ag,a0] [] fun r5 o5=>NP r5<|.call 147 [.ref 0 0,r5] [.cells [VI (((o4.hO).cs.getD 0 .any).toInt),VB (((o4.hO).cs.getD 1 .any).toBool)]] fun r6 o6=>.aj ((o6.hO)=.cells (o6.hO).cs)<|.aj (aM [.lk (.int .i64),.lk .bool] ((o6.hO).cs) 0 1 o6.tail)<|NP r6<|.done 0 [.cD [r6,VB (!(((o6.hO).cs.getD 1 .any).toBool))]] [])
theorem OK(a0:AV)(ha0:LK.has .ptr a0)(h:du 40 (Lr a0) R):aq Tryz.prog 109 [a0] [] R :=
 uQ (ah (bE ha0) aD) (oQ [] Tryz.f109 h)
def I0(a0:AV):Tree :=
 .call 145 [a0] [] fun r1 o1=>NI r1<|.test (decide (r1.toInt>(400:Int))) (.done 0 [.cD [VS (mk []),VB false]] []) (.call 151 [a0] [] fun r2 o2=>NS r2<|.call 108 [VS r2.ag] [] fun r3 o3=>NP r3<|NP r3<|.test r3.isNil (.done 0 [.cD [VS (mk []),VB false]] []) (.done 0 [.cD [VS r2.ag,VB true]] []))
theorem Pt(a0:AV)(ha0:LK.has .ptr a0)(h:du 14 (I0 a0) R):aq Tryz.prog 110 [a0] [] R :=
 uQ (ah (bE ha0) aD) (oQ [] Tryz.f110 h)
def CE(a0_0:ByteArray)(a0_1:AV)(a1_0:AV)(a1_1:AV):Tree :=
 NP a0_1<|.test (!a0_1.isNil) (NZ a1_0<|NZ a1_0<|.aj (LK.has (.int .u8) (a1_0.deref.hA)/\1<=a1_0.deref.length)<|.test (((a1_0.deref.hA).toInt)==(98:Int)) (.call 131 [.agg [a1_0,a1_1]] [] fun r1 o1=>NP r1<|.aj (AV.rR r1/\AV.rR a0_1)<|.done 0 [VB (AV.AP r1 a0_1)] []) (.done 0 [VB false] [])) (NZ a1_0<|NZ a1_0<|.aj (LK.has (.int .u8) (a1_0.deref.hA)/\1<=a1_0.deref.length)<|.test (((a1_0.deref.hA).toInt)==(110:Int)) (NZ a1_0<|NZ a1_0<|lg (a1_0.deref.drop 1)<|.done 0 [VB (af (((a1_0.deref.drop 1).hA).ag)==af a0_0)] []) (.done 0 [VB false] []))
theorem PR(a0_0:ByteArray)(a0_1:AV)(a1_0:AV)(a1_1:AV)(ha0_1:LK.has .ptr a0_1)(ha1_0:LK.has .ptr a1_0)(ha1_1:LK.has .ptr a1_1)(h:du 37 (CE a0_0 a0_1 a1_0 a1_1) R):aq Tryz.prog 111 [.agg [VS a0_0,a0_1],.agg [a1_0,a1_1]] [] R :=
 uQ (ah (ci (ah (aA _) (ah (bE ha0_1) aD))) (ah (ci (ah (bE ha1_0) (ah (bE ha1_1) aD))) aD)) (oQ [] Tryz.f111 h)
def Fm:LI:={hd:={bX:=[(7,.k .sl),(8,.k (.int .i64)),(9,.k (.int .i64))],refs:=[(2,1)],co:=[(0,[.lk .ptr]),(1,[.vec 2])],B9:=[(1,115,[0])]},xs:={co:=[(0,[.lk .ptr]),(1,[.vec 2])]},rt:={co:=[(0,[.lk .ptr]),(1,[.vec 2])]},ex:=0,fx:=[0,1]}
def Mz:Code:=cP (cH Tryz.f112) 1
def MH:List (Nat×LI):=[(1,Fm)]
def L3(a0:AV)(a1_0_0:AV)(e2_0:List (List AV)):Tree :=
 NL a0<|.loop Mz Fm [a0,VI (a0.aP.length:Int),VI 0] [.cells [a1_0_0],.cells [.any],.vec 2 e2_0] (fun y2 q2=>.aj ((q2.hO)=.cells (q2.hO).cs)<|.aj (ac [.lk .ptr] ((q2.hO).cs) 0 q2.tail)<|.aj (((q2.tail.drop 0).hO)=.cells ((q2.tail.drop 0).hO).cs)<|.aj (ac [.vec 2] (((q2.tail.drop 0).hO).cs) 0 ((q2.tail.drop 0).tail))<|.done 0 [.any] [.cells [((q2.hO).cs.getD 0 .any)],.cells [.vec 2],.vec 2 ((q2.tail.tail.hO).es)]) (fun y2 q2=>.aj ((q2.hO)=.cells (q2.hO).cs)<|.aj (ac [.lk .ptr] ((q2.hO).cs) 0 q2.tail)<|.aj (((q2.tail.drop 0).hO)=.cells ((q2.tail.drop 0).hO).cs)<|.aj (ac [.vec 2] (((q2.tail.drop 0).hO).cs) 0 ((q2.tail.drop 0).tail))<|.done 0 [.any] [.cells [((q2.hO).cs.getD 0 .any)],.cells [.vec 2],.vec 2 ((q2.tail.tail.hO).es)])
theorem QI(a0:AV)(a1_0_0:AV)(e2_0:List (List AV))(ha0:LK.has .sl a0)(ha1_0_0:LK.has .ptr a1_0_0)(h:du 24 (L3 a0 a1_0_0 e2_0) R):aq Tryz.prog 112 [a0,.fn 115 [.ref 0 0],.ref 1 0] [.cells [a1_0_0],.cells [.vec 2],.vec 2 e2_0] R :=
 aq.nK (bB (cc (ah (bE ha1_0_0) aD)) (bB (cc (ah (aA _) aD)) (bB (fW _) cw))) (aq.up (ah (bT ha0) (ah (aA _) (ah (aA _) aD))) (oF MH {mu:=[(1,.fn [some (.obj [.lk .ptr])]),(2,.one (.obj [.vec 2]))],own:=[]} Tryz.f112 h))
def FO(x7:AV)(x8:Int)(x9:Int)(o0_0:AV)(o1_0:List (List AV)):Tree :=
 NL x7<|NI (VI x8)<|NI (VI x9)<|.aj (Ob.cells [o0_0]=.cells [o0_0])<|.aj (ac [.lk .ptr] [o0_0] 0 [.cells [.any],.vec 2 o1_0])<|.aj (Ob.cells [.any]=.cells [.any])<|.aj (ac [.vec 2] [.any] 0 [.vec 2 o1_0])<|.test (decide (x9<x8)) (NG x7 x9 2<|.aj (bH [.ptr,.ptr] (x7.ix x9) 0/\2<=(x7.ix x9).length)<|.call 115 [((x7.ix x9).getD 0 .any),.ref 0 0] [.cells [o0_0]] fun r1 o1=>.aj ((o1.hO)=.cells (o1.hO).cs)<|.aj (aM [.lk .ptr] ((o1.hO).cs) 0 1 o1.tail)<|NP r1<|.aj (cv 2 [[r1,((x7.ix x9).getD 1 .any)]]/\((o1_0.length)+([[r1,((x7.ix x9).getD 1 .any)]]:List (List AV)).length)*16<=140737488355328)<|.done 0 [x7,VI x8,VI (IntKind.wrap .i64 (x9+1))] [.cells [((o1.hO).cs.getD 0 .any)],.cells [.any],.vec 2 (o1_0++([[r1,((x7.ix x9).getD 1 .any)]]:List (List AV)))]) (.done 1 [] [.cells [o0_0],.cells [.any],.vec 2 o1_0])
abbrev E0:=cy Tryz.prog 24 Mz Fm
theorem L9(x7:AV)(x8:Int)(x9:Int)(o0_0:AV)(o1_0:List (List AV))(h:kE 24 (FO x7 x8 x9 o0_0 o1_0) E0 U):E0 [x7,VI x8,VI x9] [.cells [o0_0],.cells [.any],.vec 2 o1_0] U :=
 gQ MH h
def Hm:LI:={hd:={bX:=[(7,.k .sl),(8,.k (.int .i64)),(9,.k (.int .i64))],refs:=[(2,1)],co:=[(0,[.lk .ptr]),(1,[.vec 2])],B9:=[(1,116,[0])]},xs:={co:=[(0,[.lk .ptr]),(1,[.vec 2])]},rt:={co:=[(0,[.lk .ptr]),(1,[.vec 2])]},ex:=0,fx:=[0,1]}
def Jx:Code:=cP (cH Tryz.f112) 1
def Ii:List (Nat×LI):=[(1,Hm)]
def NU(a0:AV)(a1_0_0:AV)(e2_0:List (List AV)):Tree :=
 NL a0<|.loop Jx Hm [a0,VI (a0.aP.length:Int),VI 0] [.cells [a1_0_0],.cells [.any],.vec 2 e2_0] (fun y2 q2=>.aj ((q2.hO)=.cells (q2.hO).cs)<|.aj (ac [.lk .ptr] ((q2.hO).cs) 0 q2.tail)<|.aj (((q2.tail.drop 0).hO)=.cells ((q2.tail.drop 0).hO).cs)<|.aj (ac [.vec 2] (((q2.tail.drop 0).hO).cs) 0 ((q2.tail.drop 0).tail))<|.done 0 [.any] [.cells [((q2.hO).cs.getD 0 .any)],.cells [.vec 2],.vec 2 ((q2.tail.tail.hO).es)]) (fun y2 q2=>.aj ((q2.hO)=.cells (q2.hO).cs)<|.aj (ac [.lk .ptr] ((q2.hO).cs) 0 q2.tail)<|.aj (((q2.tail.drop 0).hO)=.cells ((q2.tail.drop 0).hO).cs)<|.aj (ac [.vec 2] (((q2.tail.drop 0).hO).cs) 0 ((q2.tail.drop 0).tail))<|.done 0 [.any] [.cells [((q2.hO).cs.getD 0 .any)],.cells [.vec 2],.vec 2 ((q2.tail.tail.hO).es)])
theorem Ri(a0:AV)(a1_0_0:AV)(e2_0:List (List AV))(ha0:LK.has .sl a0)(ha1_0_0:LK.has .ptr a1_0_0)(h:du 24 (NU a0 a1_0_0 e2_0) R):aq Tryz.prog 112 [a0,.fn 116 [.ref 0 0],.ref 1 0] [.cells [a1_0_0],.cells [.vec 2],.vec 2 e2_0] R :=
 aq.nK (bB (cc (ah (bE ha1_0_0) aD)) (bB (cc (ah (aA _) aD)) (bB (fW _) cw))) (aq.up (ah (bT ha0) (ah (aA _) (ah (aA _) aD))) (oF Ii {mu:=[(1,.fn [some (.obj [.lk .ptr])]),(2,.one (.obj [.vec 2]))],own:=[]} Tryz.f112 h))
def H3(x7:AV)(x8:Int)(x9:Int)(o0_0:AV)(o1_0:List (List AV)):Tree :=
 NL x7<|NI (VI x8)<|NI (VI x9)<|.aj (Ob.cells [o0_0]=.cells [o0_0])<|.aj (ac [.lk .ptr] [o0_0] 0 [.cells [.any],.vec 2 o1_0])<|.aj (Ob.cells [.any]=.cells [.any])<|.aj (ac [.vec 2] [.any] 0 [.vec 2 o1_0])<|.test (decide (x9<x8)) (NG x7 x9 2<|.aj (bH [.ptr,.ptr] (x7.ix x9) 0/\2<=(x7.ix x9).length)<|.call 116 [((x7.ix x9).getD 0 .any),.ref 0 0] [.cells [o0_0]] fun r1 o1=>.aj ((o1.hO)=.cells (o1.hO).cs)<|.aj (aM [.lk .ptr] ((o1.hO).cs) 0 1 o1.tail)<|NP r1<|.aj (cv 2 [[r1,((x7.ix x9).getD 1 .any)]]/\((o1_0.length)+([[r1,((x7.ix x9).getD 1 .any)]]:List (List AV)).length)*16<=140737488355328)<|.done 0 [x7,VI x8,VI (IntKind.wrap .i64 (x9+1))] [.cells [((o1.hO).cs.getD 0 .any)],.cells [.any],.vec 2 (o1_0++([[r1,((x7.ix x9).getD 1 .any)]]:List (List AV)))]) (.done 1 [] [.cells [o0_0],.cells [.any],.vec 2 o1_0])
abbrev G4:=cy Tryz.prog 24 Jx Hm
theorem JU(x7:AV)(x8:Int)(x9:Int)(o0_0:AV)(o1_0:List (List AV))(h:kE 24 (H3 x7 x8 x9 o0_0 o1_0) G4 U):G4 [x7,VI x8,VI x9] [.cells [o0_0],.cells [.any],.vec 2 o1_0] U :=
 gQ Ii h
def GP:LI:={hd:={bX:=[(7,.k .sl),(8,.k (.int .i64)),(9,.k (.int .i64))],refs:=[(2,1)],co:=[(0,[.lk .ptr]),(1,[.vec 2])],B9:=[(1,118,[0])]},xs:={co:=[(0,[.lk .ptr]),(1,[.vec 2])]},rt:={co:=[(0,[.lk .ptr]),(1,[.vec 2])]},ex:=0,fx:=[0,1]}
def Li:Code:=cP (cH Tryz.f112) 1
def Na:List (Nat×LI):=[(1,GP)]
def I2(a0:AV)(a1_0_0:AV)(e2_0:List (List AV)):Tree :=
 NL a0<|.loop Li GP [a0,VI (a0.aP.length:Int),VI 0] [.cells [a1_0_0],.cells [.any],.vec 2 e2_0] (fun y2 q2=>.aj ((q2.hO)=.cells (q2.hO).cs)<|.aj (ac [.lk .ptr] ((q2.hO).cs) 0 q2.tail)<|.aj (((q2.tail.drop 0).hO)=.cells ((q2.tail.drop 0).hO).cs)<|.aj (ac [.vec 2] (((q2.tail.drop 0).hO).cs) 0 ((q2.tail.drop 0).tail))<|.done 0 [.any] [.cells [((q2.hO).cs.getD 0 .any)],.cells [.vec 2],.vec 2 ((q2.tail.tail.hO).es)]) (fun y2 q2=>.aj ((q2.hO)=.cells (q2.hO).cs)<|.aj (ac [.lk .ptr] ((q2.hO).cs) 0 q2.tail)<|.aj (((q2.tail.drop 0).hO)=.cells ((q2.tail.drop 0).hO).cs)<|.aj (ac [.vec 2] (((q2.tail.drop 0).hO).cs) 0 ((q2.tail.drop 0).tail))<|.done 0 [.any] [.cells [((q2.hO).cs.getD 0 .any)],.cells [.vec 2],.vec 2 ((q2.tail.tail.hO).es)])
theorem Ol(a0:AV)(a1_0_0:AV)(e2_0:List (List AV))(ha0:LK.has .sl a0)(ha1_0_0:LK.has .ptr a1_0_0)(h:du 24 (I2 a0 a1_0_0 e2_0) R):aq Tryz.prog 112 [a0,.fn 118 [.ref 0 0],.ref 1 0] [.cells [a1_0_0],.cells [.vec 2],.vec 2 e2_0] R :=
 aq.nK (bB (cc (ah (bE ha1_0_0) aD)) (bB (cc (ah (aA _) aD)) (bB (fW _) cw))) (aq.up (ah (bT ha0) (ah (aA _) (ah (aA _) aD))) (oF Na {mu:=[(1,.fn [some (.obj [.lk .ptr])]),(2,.one (.obj [.vec 2]))],own:=[]} Tryz.f112 h))
def EV(x7:AV)(x8:Int)(x9:Int)(o0_0:AV)(o1_0:List (List AV)):Tree :=
 NL x7<|NI (VI x8)<|NI (VI x9)<|.aj (Ob.cells [o0_0]=.cells [o0_0])<|.aj (ac [.lk .ptr] [o0_0] 0 [.cells [.any],.vec 2 o1_0])<|.aj (Ob.cells [.any]=.cells [.any])<|.aj (ac [.vec 2] [.any] 0 [.vec 2 o1_0])<|.test (decide (x9<x8)) (NG x7 x9 2<|.aj (bH [.ptr,.ptr] (x7.ix x9) 0/\2<=(x7.ix x9).length)<|.call 118 [((x7.ix x9).getD 0 .any),.ref 0 0] [.cells [o0_0]] fun r1 o1=>.aj ((o1.hO)=.cells (o1.hO).cs)<|.aj (aM [.lk .ptr] ((o1.hO).cs) 0 1 o1.tail)<|NP r1<|.aj (cv 2 [[r1,((x7.ix x9).getD 1 .any)]]/\((o1_0.length)+([[r1,((x7.ix x9).getD 1 .any)]]:List (List AV)).length)*16<=140737488355328)<|.done 0 [x7,VI x8,VI (IntKind.wrap .i64 (x9+1))] [.cells [((o1.hO).cs.getD 0 .any)],.cells [.any],.vec 2 (o1_0++([[r1,((x7.ix x9).getD 1 .any)]]:List (List AV)))]) (.done 1 [] [.cells [o0_0],.cells [.any],.vec 2 o1_0])
abbrev Fx:=cy Tryz.prog 24 Li GP
theorem NF(x7:AV)(x8:Int)(x9:Int)(o0_0:AV)(o1_0:List (List AV))(h:kE 24 (EV x7 x8 x9 o0_0 o1_0) Fx U):Fx [x7,VI x8,VI x9] [.cells [o0_0],.cells [.any],.vec 2 o1_0] U :=
 gQ Na h
def FY:LI:={hd:={bX:=[(1,.c (.func (.func 119) #[] #[])),(7,.k .sl),(8,.k (.int .i64)),(9,.k (.int .i64))],refs:=[(2,0)],co:=[(0,[.vec 2])]},xs:={co:=[(0,[.vec 2])]},rt:={co:=[(0,[.vec 2])]},ex:=0,fx:=[0]}
def KF:Code:=cP (cH Tryz.f112) 1
def MI:List (Nat×LI):=[(1,FY)]
def Mm(a0:AV)(e2_0:List (List AV)):Tree :=
 NL a0<|.loop KF FY [.v (.func (.func 119) #[] #[]),a0,VI (a0.aP.length:Int),VI 0] [.cells [.any],.vec 2 e2_0] (fun y2 q2=>.aj ((q2.hO)=.cells (q2.hO).cs)<|.aj (ac [.vec 2] ((q2.hO).cs) 0 q2.tail)<|.done 0 [.any] [.cells [.vec 1],.vec 2 ((q2.tail.hO).es)]) (fun y2 q2=>.aj ((q2.hO)=.cells (q2.hO).cs)<|.aj (ac [.vec 2] ((q2.hO).cs) 0 q2.tail)<|.done 0 [.any] [.cells [.vec 1],.vec 2 ((q2.tail.hO).es)])
theorem P6(a0:AV)(e2_0:List (List AV))(ha0:LK.has .sl a0)(h:du 24 (Mm a0 e2_0) R):aq Tryz.prog 112 [a0,.v (.func (.func 119) #[] #[]),.ref 0 0] [.cells [.vec 1],.vec 2 e2_0] R :=
 aq.nK (bB (cc (ah (aA _) aD)) (bB (fW _) cw)) (aq.up (ah (bT ha0) (ah (aA _) (ah (aA _) aD))) (oF MI {mu:=[(2,.one (.obj [.vec 2]))],own:=[]} Tryz.f112 h))
def FX(x7:AV)(x8:Int)(x9:Int)(o0_0:List (List AV)):Tree :=
 .aj (AV.v (.func (.func 119) #[] #[])=.v (.func (.func 119) #[] #[]))<|NL x7<|NI (VI x8)<|NI (VI x9)<|.aj (Ob.cells [.any]=.cells [.any])<|.aj (ac [.vec 2] [.any] 0 [.vec 2 o0_0])<|.test (decide (x9<x8)) (NG x7 x9 2<|.aj (bH [.ptr,.ptr] (x7.ix x9) 0/\2<=(x7.ix x9).length)<|.call 119 [((x7.ix x9).getD 0 .any)] [] fun r1 o1=>NP r1<|.aj (cv 2 [[r1,((x7.ix x9).getD 1 .any)]]/\((o0_0.length)+([[r1,((x7.ix x9).getD 1 .any)]]:List (List AV)).length)*16<=140737488355328)<|.done 0 [.v (.func (.func 119) #[] #[]),x7,VI x8,VI (IntKind.wrap .i64 (x9+1))] [.cells [.any],.vec 2 (o0_0++([[r1,((x7.ix x9).getD 1 .any)]]:List (List AV)))]) (.done 1 [] [.cells [.any],.vec 2 o0_0])
abbrev Hg:=cy Tryz.prog 24 KF FY
theorem Je(x7:AV)(x8:Int)(x9:Int)(o0_0:List (List AV))(h:kE 24 (FX x7 x8 x9 o0_0) Hg U):Hg [.v (.func (.func 119) #[] #[]),x7,VI x8,VI x9] [.cells [.any],.vec 2 o0_0] U :=
 gQ MI h
def Fp:LI:={hd:={bX:=[(7,.k .sl),(8,.k (.int .i64)),(9,.k (.int .i64))],refs:=[(2,1)],co:=[(0,[.lk .ptr,.lk .ptr]),(1,[.vec 2])],B9:=[(1,120,[0])]},xs:={co:=[(0,[.lk .ptr,.lk .ptr]),(1,[.vec 2])]},rt:={co:=[(0,[.lk .ptr,.lk .ptr]),(1,[.vec 2])]},ex:=0,fx:=[0,1]}
def Kl:Code:=cP (cH Tryz.f112) 1
def NX:List (Nat×LI):=[(1,Fp)]
def Ki(a0:AV)(a1_0_0:AV)(a1_0_1:AV)(e2_0:List (List AV)):Tree :=
 NL a0<|.loop Kl Fp [a0,VI (a0.aP.length:Int),VI 0] [.cells [a1_0_0,a1_0_1],.cells [.any],.vec 2 e2_0] (fun y2 q2=>.aj ((q2.hO)=.cells (q2.hO).cs)<|.aj (ac [.lk .ptr,.lk .ptr] ((q2.hO).cs) 0 q2.tail)<|.aj (((q2.tail.drop 0).hO)=.cells ((q2.tail.drop 0).hO).cs)<|.aj (ac [.vec 2] (((q2.tail.drop 0).hO).cs) 0 ((q2.tail.drop 0).tail))<|.done 0 [.any] [.cells [((q2.hO).cs.getD 0 .any),((q2.hO).cs.getD 1 .any)],.cells [.vec 2],.vec 2 ((q2.tail.tail.hO).es)]) (fun y2 q2=>.aj ((q2.hO)=.cells (q2.hO).cs)<|.aj (ac [.lk .ptr,.lk .ptr] ((q2.hO).cs) 0 q2.tail)<|.aj (((q2.tail.drop 0).hO)=.cells ((q2.tail.drop 0).hO).cs)<|.aj (ac [.vec 2] (((q2.tail.drop 0).hO).cs) 0 ((q2.tail.drop 0).tail))<|.done 0 [.any] [.cells [((q2.hO).cs.getD 0 .any),((q2.hO).cs.getD 1 .any)],.cells [.vec 2],.vec 2 ((q2.tail.tail.hO).es)])
theorem Rs(a0:AV)(a1_0_0:AV)(a1_0_1:AV)(e2_0:List (List AV))(ha0:LK.has .sl a0)(ha1_0_0:LK.has .ptr a1_0_0)(ha1_0_1:LK.has .ptr a1_0_1)(h:du 24 (Ki a0 a1_0_0 a1_0_1 e2_0) R):aq Tryz.prog 112 [a0,.fn 120 [.ref 0 0],.ref 1 0] [.cells [a1_0_0,a1_0_1],.cells [.vec 2],.vec 2 e2_0] R :=
 aq.nK (bB (cc (ah (bE ha1_0_0) (ah (bE ha1_0_1) aD))) (bB (cc (ah (aA _) aD)) (bB (fW _) cw))) (aq.up (ah (bT ha0) (ah (aA _) (ah (aA _) aD))) (oF NX {mu:=[(1,.fn [some (.obj [.lk .ptr,.lk .ptr])]),(2,.one (.obj [.vec 2]))],own:=[]} Tryz.f112 h))
def Ib(x7:AV)(x8:Int)(x9:Int)(o0_0:AV)(o0_1:AV)(o1_0:List (List AV)):Tree :=
 NL x7<|NI (VI x8)<|NI (VI x9)<|.aj (Ob.cells [o0_0,o0_1]=.cells [o0_0,o0_1])<|.aj (ac [.lk .ptr,.lk .ptr] [o0_0,o0_1] 0 [.cells [.any],.vec 2 o1_0])<|.aj (Ob.cells [.any]=.cells [.any])<|.aj (ac [.vec 2] [.any] 0 [.vec 2 o1_0])<|.test (decide (x9<x8)) (NG x7 x9 2<|.aj (bH [.ptr,.ptr] (x7.ix x9) 0/\2<=(x7.ix x9).length)<|.call 120 [((x7.ix x9).getD 0 .any),.ref 0 0] [.cells [o0_0,o0_1]] fun r1 o1=>.aj ((o1.hO)=.cells (o1.hO).cs)<|.aj (aM [.lk .ptr,.lk .ptr] ((o1.hO).cs) 0 1 o1.tail)<|NP r1<|.aj (cv 2 [[r1,((x7.ix x9).getD 1 .any)]]/\((o1_0.length)+([[r1,((x7.ix x9).getD 1 .any)]]:List (List AV)).length)*16<=140737488355328)<|.done 0 [x7,VI x8,VI (IntKind.wrap .i64 (x9+1))] [.cells [((o1.hO).cs.getD 0 .any),((o1.hO).cs.getD 1 .any)],.cells [.any],.vec 2 (o1_0++([[r1,((x7.ix x9).getD 1 .any)]]:List (List AV)))]) (.done 1 [] [.cells [o0_0,o0_1],.cells [.any],.vec 2 o1_0])
abbrev Fu:=cy Tryz.prog 24 Kl Fp
theorem Km(x7:AV)(x8:Int)(x9:Int)(o0_0:AV)(o0_1:AV)(o1_0:List (List AV))(h:kE 24 (Ib x7 x8 x9 o0_0 o0_1 o1_0) Fu U):Fu [x7,VI x8,VI x9] [.cells [o0_0,o0_1],.cells [.any],.vec 2 o1_0] U :=
 gQ NX h
def Kr(a0_0:AV)(a0_1:AV):Tree :=
 NZ a0_0<|NZ a0_0<|dT (a0_0.deref.drop 3)<|.done 0 [.agg [((a0_0.deref.drop 3).hA),a0_1]] []
theorem Ov(a0_0:AV)(a0_1:AV)(ha0_0:LK.has .ptr a0_0)(ha0_1:LK.has .ptr a0_1)(h:du 11 (Kr a0_0 a0_1) R):aq Tryz.prog 113 [.agg [a0_0,a0_1]] [] R :=
 uQ (ah (ci (ah (bE ha0_0) (ah (bE ha0_1) aD))) aD) (oQ [] Tryz.f113 h)
def MB(a0_0:AV)(a0_1:AV):Tree :=
 NZ a0_0<|NZ a0_0<|dT (a0_0.deref.drop 4)<|.done 0 [.agg [((a0_0.deref.drop 4).hA),a0_1]] []
theorem OB(a0_0:AV)(a0_1:AV)(ha0_0:LK.has .ptr a0_0)(ha0_1:LK.has .ptr a0_1)(h:du 11 (MB a0_0 a0_1) R):aq Tryz.prog 114 [.agg [a0_0,a0_1]] [] R :=
 uQ (ah (ci (ah (bE ha0_0) (ah (bE ha0_1) aD))) aD) (oQ [] Tryz.f114 h)
def FV(a0:AV)(a1_0:AV):Tree :=
 NZ a1_0<|NZ a1_0<|.aj (LK.has (.int .u8) (a1_0.deref.hA)/\1<=a1_0.deref.length)<|.call 100 [.v (.int .u8 ((a1_0.deref.hA).toInt)),a0] [] fun r1 o1=>NP r1<|.done 0 [r1] [.cells [a1_0]]
theorem LR(a0:AV)(a1_0:AV)(ha0:LK.has .ptr a0)(ha1_0:LK.has .ptr a1_0)(h:du 10 (FV a0 a1_0) R):aq Tryz.prog 115 [a0,.ref 0 0] [.cells [a1_0]] R :=
 aq.nK (bB (cc (ah (bE ha1_0) aD)) cw) (aq.up (ah (bE ha0) (ah (aA _) aD)) (oF [] {mu:=[(1,.one (.obj [.lk .ptr]))],own:=[]} Tryz.f115 h))
def IF(a0:AV)(a1_0:AV):Tree :=
 NZ a1_0<|NZ a1_0<|dT (a1_0.deref.drop 3)<|.call 117 [a0,((a1_0.deref.drop 3).hA)] [] fun r1 o1=>NP r1<|.call 100 [.v (.int .u8 108),r1] [] fun r2 o2=>NP r2<|.done 0 [r2] [.cells [a1_0]]
theorem OY(a0:AV)(a1_0:AV)(ha0:LK.has .ptr a0)(ha1_0:LK.has .ptr a1_0)(h:du 11 (IF a0 a1_0) R):aq Tryz.prog 116 [a0,.ref 0 0] [.cells [a1_0]] R :=
 aq.nK (bB (cc (ah (bE ha1_0) aD)) cw) (aq.up (ah (bE ha0) (ah (aA _) aD)) (oF [] {mu:=[(1,.one (.obj [.lk .ptr]))],own:=[]} Tryz.f116 h))
def IS(a0:AV)(a1:AV):Tree :=
 .done 0 [.ptr [.v (.int .u8 112),VS (mk []),a0,a1]] []
theorem Qz(a0:AV)(a1:AV)(ha0:LK.has .ptr a0)(ha1:LK.has .ptr a1)(h:du 9 (IS a0 a1) R):aq Tryz.prog 117 [a0,a1] [] R :=
 uQ (ah (bE ha0) (ah (bE ha1) aD)) (oQ [] Tryz.f117 h)
def JN(a0:AV)(a1_0:AV):Tree :=
 NZ a1_0<|NZ a1_0<|dT (a1_0.deref.drop 2)<|.call 117 [((a1_0.deref.drop 2).hA),a0] [] fun r1 o1=>NP r1<|.call 100 [.v (.int .u8 114),r1] [] fun r2 o2=>NP r2<|.done 0 [r2] [.cells [a1_0]]
theorem Pj(a0:AV)(a1_0:AV)(ha0:LK.has .ptr a0)(ha1_0:LK.has .ptr a1_0)(h:du 11 (JN a0 a1_0) R):aq Tryz.prog 118 [a0,.ref 0 0] [.cells [a1_0]] R :=
 aq.nK (bB (cc (ah (bE ha1_0) aD)) cw) (aq.up (ah (bE ha0) (ah (aA _) aD)) (oF [] {mu:=[(1,.one (.obj [.lk .ptr]))],own:=[]} Tryz.f118 h))
def K6(a0:AV):Tree :=
 .call 100 [.v (.int .u8 108),a0] [] fun r1 o1=>NP r1<|.call 100 [.v (.int .u8 102),r1] [] fun r2 o2=>NP r2<|.done 0 [r2] []
theorem Rn(a0:AV)(ha0:LK.has .ptr a0)(h:du 6 (K6 a0) R):aq Tryz.prog 119 [a0] [] R :=
 uQ (ah (bE ha0) aD) (oQ [] Tryz.f119 h)
def M9(a0:AV)(a1_0:AV)(a1_1:AV):Tree :=
 .call 117 [a1_0,a0] [] fun r1 o1=>NP r1<|.call 100 [.v (.int .u8 114),r1] [] fun r2 o2=>NP r2<|.call 100 [.v (.int .u8 102),r2] [] fun r3 o3=>NP r3<|.done 0 [r3] [.cells [a1_0,a1_1]]
theorem QY(a0:AV)(a1_0:AV)(a1_1:AV)(ha0:LK.has .ptr a0)(ha1_0:LK.has .ptr a1_0)(ha1_1:LK.has .ptr a1_1)(h:du 10 (M9 a0 a1_0 a1_1) R):aq Tryz.prog 120 [a0,.ref 0 0] [.cells [a1_0,a1_1]] R :=
 aq.nK (bB (cc (ah (bE ha1_0) (ah (bE ha1_1) aD))) cw) (aq.up (ah (bE ha0) (ah (aA _) aD)) (oF [] {mu:=[(1,.one (.obj [.lk .ptr,.lk .ptr]))],own:=[]} Tryz.f120 h))
def Dh(a0_0:ByteArray)(a0_1:AV):Tree :=
 .test (!(af a0_0==af (mk []))) (.done 0 [VS (mk [])] []) (NL a0_1<|.test ((a0_1.aP.length:Int)==(0:Int)) (.done 0 [VS (mk [])] []) (NG a0_1 0 2<|lg (a0_1.ix (0:Int))<|.done 0 [VS (((a0_1.ix (0:Int)).hA).ag)] []))
theorem H2(a0_0:ByteArray)(a0_1:AV)(ha0_1:LK.has .sl a0_1)(h:du 17 (Dh a0_0 a0_1) R):aq Tryz.prog 121 [.agg [VS a0_0,a0_1]] [] R :=
 uQ (ah (ci (ah (aA _) (ah (bT ha0_1) aD))) aD) (oQ [] Tryz.f121 h)
def Lc(a0:ByteArray):Tree :=
 .test (decide ((ae a0:Int)>(8000:Int))) (.done 0 [.cD [.agg [VS (mk []),.v (.slice none 0 0)],VB false]] []) (.call 152 [VS a0,VI 0,VI 0] [] fun r1 o1=>NT r1<|.aj ((r1.comp 0)=.agg (r1.comp 0).cs/\(r1.comp 0).cs.length=2/\bH [.str,.sl] ((r1.comp 0).cs) 0)<|NI (r1.comp 1)<|.done 0 [.cD [.agg [VS (((r1.comp 0).cs.getD 0 .any).ag),((r1.comp 0).cs.getD 1 .any)],VB (((r1.comp 1).toInt)==(ae a0:Int))]] [])
theorem Q1(a0:ByteArray)(h:du 20 (Lc a0) R):aq Tryz.prog 122 [VS a0] [] R :=
 uQ (ah (aA _) aD) (oQ [] Tryz.f122 h)
def HT(a0_0:ByteArray)(a0_1:AV):Tree :=
 .test (!(af a0_0==af (mk []))) (.test (af a0_0==af (mk [117])) (.done 0 [VB true] []) (.call 153 [VS a0_0] [] fun r1 o1=>NI r1<|.done 0 [VB (decide (r1.toInt≥(0:Int)))] [])) (.call 121 [.agg [VS a0_0,a0_1]] [] fun r2 o2=>NS r2<|.test (af r2.ag==af (mk [108])) (NL a0_1<|.test ((a0_1.aP.length:Int)==(2:Int)) (NG a0_1 1 2<|NE (a0_1.ix (1:Int))<|.call 123 [.agg [VS (((a0_1.ix (1:Int)).getD 0 .any).ag),((a0_1.ix (1:Int)).getD 1 .any)]] [] fun r3 o3=>NB r3<|.done 0 [VB r3.toBool] []) (.done 0 [VB false] [])) (.test (af r2.ag==af (mk [114])) (NL a0_1<|.test ((a0_1.aP.length:Int)==(2:Int)) (NG a0_1 1 2<|NE (a0_1.ix (1:Int))<|.call 123 [.agg [VS (((a0_1.ix (1:Int)).getD 0 .any).ag),((a0_1.ix (1:Int)).getD 1 .any)]] [] fun r4 o4=>NB r4<|.done 0 [VB r4.toBool] []) (.done 0 [VB false] [])) (.test (af r2.ag==af (mk [102])) (NL a0_1<|.test ((a0_1.aP.length:Int)==(2:Int)) (NG a0_1 1 2<|NE (a0_1.ix (1:Int))<|.call 123 [.agg [VS (((a0_1.ix (1:Int)).getD 0 .any).ag),((a0_1.ix (1:Int)).getD 1 .any)]] [] fun r5 o5=>NB r5<|.done 0 [VB r5.toBool] []) (.done 0 [VB false] [])) (.test (af r2.ag==af (mk [112])) (NL a0_1<|.test ((a0_1.aP.length:Int)==(3:Int)) (NG a0_1 1 2<|NE (a0_1.ix (1:Int))<|.call 123 [.agg [VS (((a0_1.ix (1:Int)).getD 0 .any).ag),((a0_1.ix (1:Int)).getD 1 .any)]] [] fun r6 o6=>NB r6<|.test r6.toBool (NG a0_1 2 2<|NE (a0_1.ix (2:Int))<|.call 123 [.agg [VS (((a0_1.ix (2:Int)).getD 0 .any).ag),((a0_1.ix (2:Int)).getD 1 .any)]] [] fun r7 o7=>NB r7<|.done 0 [VB r7.toBool] []) (.done 0 [VB false] [])) (.done 0 [VB false] [])) (.done 0 [VB false] [])))))
theorem Ac(a0_0:ByteArray)(a0_1:AV)(ha0_1:LK.has .sl a0_1)(h:du 52 (HT a0_0 a0_1) R):aq Tryz.prog 123 [.agg [VS a0_0,a0_1]] [] R :=
 uQ (ah (ci (ah (aA _) (ah (bT ha0_1) aD))) aD) (oQ [] Tryz.f123 h)
def FK:LI:={hd:={bX:=[(3,.k (.int .i64)),(4,.k (.int .i64))],refs:=[(1,1)],co:=[(1,[.lk .str,.lk .sl])]},xs:={bX:=[(3,.k (.int .i64))]},rt:={},ex:=0}
def KG:Code:=cP (cH Tryz.f124) 3
def Lb:List (Nat×LI):=[(3,FK)]
def Fc(a0_0:ByteArray)(a0_1:AV):Tree :=
 .loop KG FK [VI 1,VI 1] [.cells [VS a0_0,a0_1]] (fun y2 q2=>NI (y2.hA)<|.done 0 [VI ((y2.hA).toInt)] []) (fun y2 q2=>.done 0 [.any] [])
theorem Me(a0_0:ByteArray)(a0_1:AV)(ha0_1:LK.has .sl a0_1)(h:du 21 (Fc a0_0 a0_1) R):aq Tryz.prog 124 [.agg [VS a0_0,a0_1]] [] R :=
 uQ (ah (ci (ah (aA _) (ah (bT ha0_1) aD))) aD) (oQ Lb Tryz.f124 h)
def Bd(x3:Int)(x4:Int)(o1_0:ByteArray)(o1_1:AV):Tree :=
 NI (VI x3)<|NI (VI x4)<|.aj (Ob.cells [VS o1_0,o1_1]=.cells [VS o1_0,o1_1])<|.aj (ac [.lk .str,.lk .sl] [VS o1_0,o1_1] 0 [])<|NL o1_1<|.test (decide (x4<(o1_1.aP.length:Int))) (NG o1_1 x4 2<|NE (o1_1.ix x4)<|.call 124 [.agg [VS (((o1_1.ix x4).getD 0 .any).ag),((o1_1.ix x4).getD 1 .any)]] [] fun r1 o1=>NI r1<|.done 0 [VI (IntKind.wrap .i64 (x3+r1.toInt)),VI (IntKind.wrap .i64 (x4+1))] [.cells [VS o1_0,o1_1]]) (.done 1 [VI x3] [])
abbrev AJ:=cy Tryz.prog 21 KG FK
theorem DS(x3:Int)(x4:Int)(o1_0:ByteArray)(o1_1:AV)(h:kE 21 (Bd x3 x4 o1_0 o1_1) AJ U):AJ [VI x3,VI x4] [.cells [VS o1_0,o1_1]] U :=
 gQ Lb h
def Jv(a0_0:ByteArray)(a0_1:AV)(a1:AV)(a2_0:ByteArray)(a2_1:AV)(a3:Int):Tree :=
 .call 154 [.agg [VS a0_0,a0_1],a1] [] fun r1 o1=>NT r1<|.aj ((r1.comp 0)=.agg (r1.comp 0).cs/\(r1.comp 0).cs.length=2/\bH [.str,.sl] ((r1.comp 0).cs) 0)<|NL (r1.comp 1)<|.test (!(af (((r1.comp 0).cs.getD 0 .any).ag)==af (mk []))) (.test (af (((r1.comp 0).cs.getD 0 .any).ag)==af (mk [49])) (.done 0 [VB (af a2_0==af (mk [117]))] []) (.call 155 [VS (((r1.comp 0).cs.getD 0 .any).ag)] [] fun r2 o2=>NB r2<|.test r2.toBool (.call 153 [VS a2_0] [] fun r3 o3=>NI r3<|.call 56 [VI r3.toInt,VI 0,VI (IntKind.wrap .i64 (a3-1))] [] fun r4 o4=>NB r4<|.done 0 [VB r4.toBool] []) (.done 0 [VB false] []))) (.call 121 [.agg [VS (((r1.comp 0).cs.getD 0 .any).ag),((r1.comp 0).cs.getD 1 .any)]] [] fun r5 o5=>NS r5<|.call 121 [.agg [VS a2_0,a2_1]] [] fun r6 o6=>NS r6<|.aj (ae r5.ag+ae r6.ag<=9223372036854775807)<|.test (af ((r5.ag:ByteArray)++r6.ag)==af (mk [43,108])) (NG ((r1.comp 0).cs.getD 1 .any) 1 2<|NE (((r1.comp 0).cs.getD 1 .any).ix (1:Int))<|NG a2_1 1 2<|NE (a2_1.ix (1:Int))<|.call 125 [.agg [VS (((((r1.comp 0).cs.getD 1 .any).ix (1:Int)).getD 0 .any).ag),((((r1.comp 0).cs.getD 1 .any).ix (1:Int)).getD 1 .any)],(r1.comp 1),.agg [VS (((a2_1.ix (1:Int)).getD 0 .any).ag),((a2_1.ix (1:Int)).getD 1 .any)],VI a3] [] fun r7 o7=>NB r7<|.done 0 [VB r7.toBool] []) (.test (af ((r5.ag:ByteArray)++r6.ag)==af (mk [43,114])) (NG ((r1.comp 0).cs.getD 1 .any) 2 2<|NE (((r1.comp 0).cs.getD 1 .any).ix (2:Int))<|NG a2_1 1 2<|NE (a2_1.ix (1:Int))<|.call 125 [.agg [VS (((((r1.comp 0).cs.getD 1 .any).ix (2:Int)).getD 0 .any).ag),((((r1.comp 0).cs.getD 1 .any).ix (2:Int)).getD 1 .any)],(r1.comp 1),.agg [VS (((a2_1.ix (1:Int)).getD 0 .any).ag),((a2_1.ix (1:Int)).getD 1 .any)],VI a3] [] fun r8 o8=>NB r8<|.done 0 [VB r8.toBool] []) (.test (af ((r5.ag:ByteArray)++r6.ag)==af (mk [42,112])) (NG ((r1.comp 0).cs.getD 1 .any) 1 2<|NE (((r1.comp 0).cs.getD 1 .any).ix (1:Int))<|NG a2_1 1 2<|NE (a2_1.ix (1:Int))<|.call 125 [.agg [VS (((((r1.comp 0).cs.getD 1 .any).ix (1:Int)).getD 0 .any).ag),((((r1.comp 0).cs.getD 1 .any).ix (1:Int)).getD 1 .any)],(r1.comp 1),.agg [VS (((a2_1.ix (1:Int)).getD 0 .any).ag),((a2_1.ix (1:Int)).getD 1 .any)],VI a3] [] fun r9 o9=>NB r9<|.test r9.toBool (NG ((r1.comp 0).cs.getD 1 .any) 2 2<|NE (((r1.comp 0).cs.getD 1 .any).ix (2:Int))<|NG a2_1 2 2<|NE (a2_1.ix (2:Int))<|.call 125 [.agg [VS (((((r1.comp 0).cs.getD 1 .any).ix (2:Int)).getD 0 .any).ag),((((r1.comp 0).cs.getD 1 .any).ix (2:Int)).getD 1 .any)],(r1.comp 1),.agg [VS (((a2_1.ix (2:Int)).getD 0 .any).ag),((a2_1.ix (2:Int)).getD 1 .any)],VI a3] [] fun r10 o10=>NB r10<|.done 0 [VB r10.toBool] []) (.done 0 [VB false] [])) (.test (af ((r5.ag:ByteArray)++r6.ag)==af (mk [114,101,99,102])) (.call 156 [.agg [VS (((r1.comp 0).cs.getD 0 .any).ag),((r1.comp 0).cs.getD 1 .any)],(r1.comp 1)] [] fun r11 o11=>NT r11<|.aj ((r11.comp 0)=.agg (r11.comp 0).cs/\(r11.comp 0).cs.length=2/\bH [.str,.sl] ((r11.comp 0).cs) 0)<|NL (r11.comp 1)<|NG a2_1 1 2<|NE (a2_1.ix (1:Int))<|.call 125 [.agg [VS (((r11.comp 0).cs.getD 0 .any).ag),((r11.comp 0).cs.getD 1 .any)],(r11.comp 1),.agg [VS (((a2_1.ix (1:Int)).getD 0 .any).ag),((a2_1.ix (1:Int)).getD 1 .any)],VI a3] [] fun r12 o12=>NB r12<|.done 0 [VB r12.toBool] []) (.done 0 [VB false] [])))))
theorem Qn(a0_0:ByteArray)(a0_1:AV)(a1:AV)(a2_0:ByteArray)(a2_1:AV)(a3:Int)(ha0_1:LK.has .sl a0_1)(ha1:LK.has .sl a1)(ha2_1:LK.has .sl a2_1)(h:du 110 (Jv a0_0 a0_1 a1 a2_0 a2_1 a3) R):aq Tryz.prog 125 [.agg [VS a0_0,a0_1],a1,.agg [VS a2_0,a2_1],VI a3] [] R :=
 uQ (ah (ci (ah (aA _) (ah (bT ha0_1) aD))) (ah (bT ha1) (ah (ci (ah (aA _) (ah (bT ha2_1) aD))) (ah (aA _) aD)))) (oQ [] Tryz.f125 h)
def Fe:LI:={hd:={bX:=[(0,.k .sl),(1,.k .str),(7,.k (.int .i64))],eZ:=[(2,4)]},xs:={eZ:=[(2,4)]},rt:={},ex:=0}
def Ko:Code:=cP (cH Tryz.f126) 2
def Ju:List (Nat×LI):=[(2,Fe)]
def Np(a0:AV)(a1:ByteArray)(e2:List (List AV)):Tree :=
 .loop Ko Fe [a0,VS a1,VI 0] [.vec 4 e2] (fun y2 q2=>.aj (((q2.drop 0).hO)=.vec 4 ((q2.drop 0).hO).es)<|.done 0 [.vec 1] [.dead,.vec 4 ((q2.hO).es)]) (fun y2 q2=>.fail)
theorem Rp(a0:AV)(a1:ByteArray)(e2:List (List AV))(ha0:LK.has .sl a0)(h:du 32 (Np a0 a1 e2) R):aq Tryz.prog 126 [a0,VS a1,.vec 0] [.vec 4 e2] R :=
 aq.nK (bB (fW _) cw) (aq.up (ah (bT ha0) (ah (aA _) (ah (aA _) aD))) (oF Ju {mu:=[(2,.one (.vec))],own:=[0]} Tryz.f126 h))
def Fy(x0:AV)(x1:ByteArray)(x7:Int)(e2:List (List AV)):Tree :=
 NL x0<|NS (VS x1)<|NI (VI x7)<|.aj (Ob.vec 4 e2=.vec 4 e2)<|NL x0<|.test (decide (x7<(x0.aP.length:Int))) (NG x0 x7 4<|NE (x0.ix x7)<|.call 98 [VS x1,.sl [[VS (((x0.ix x7).getD 0 .any).ag),((x0.ix x7).getD 1 .any)]]] [] fun r1 o1=>NA r1<|NG x0 x7 4<|NE ((x0.ix x7).drop 2)<|.aj (cv 4 [[VS ((r1.cs.getD 0 .any).ag),(r1.cs.getD 1 .any),VS ((((x0.ix x7).drop 2).getD 0 .any).ag),(((x0.ix x7).drop 2).getD 1 .any)]]/\((e2.length)+([[VS ((r1.cs.getD 0 .any).ag),(r1.cs.getD 1 .any),VS ((((x0.ix x7).drop 2).getD 0 .any).ag),(((x0.ix x7).drop 2).getD 1 .any)]]:List (List AV)).length)*80<=140737488355328)<|.done 0 [x0,VS x1,VI (IntKind.wrap .i64 (x7+1))] [.vec 4 (e2++([[VS ((r1.cs.getD 0 .any).ag),(r1.cs.getD 1 .any),VS ((((x0.ix x7).drop 2).getD 0 .any).ag),(((x0.ix x7).drop 2).getD 1 .any)]]:List (List AV)))]) (.done 1 [] [.vec 4 e2])
abbrev FM:=cy Tryz.prog 32 Ko Fe
theorem KC(x0:AV)(x1:ByteArray)(x7:Int)(e2:List (List AV))(h:kE 32 (Fy x0 x1 x7 e2) FM U):FM [x0,VS x1,VI x7] [.vec 4 e2] U :=
 gQ Ju h
def Im(a0:AV):Tree :=
 .call 158 [a0] [] fun r1 o1=>NL r1<|.call 157 [r1,.v (.func (.func 159) #[] #[])] [] fun r2 o2=>NB r2<|.done 0 [VB (!r2.toBool)] []
theorem Pp(a0:AV)(ha0:LK.has .ptr a0)(h:du 7 (Im a0) R):aq Tryz.prog 127 [a0] [] R :=
 uQ (ah (bE ha0) aD) (oQ [] Tryz.f127 h)
def LC(a0:ByteArray):Tree :=
 .test (decide ((ae a0:Int)>(8000:Int))) (.done 0 [.v (.pointer none)] []) (.call 160 [VS a0,VI 0] [] fun r1 o1=>NT r1<|NP (r1.comp 0)<|NS (r1.comp 1)<|.test (!(af ((r1.comp 1).ag)==af (mk []))) (.done 0 [.v (.pointer none)] []) (.done 0 [(r1.comp 0)] []))
theorem PA(a0:ByteArray)(h:du 16 (LC a0) R):aq Tryz.prog 128 [VS a0] [] R :=
 uQ (ah (aA _) aD) (oQ [] Tryz.f128 h)
def F2(a0:AV):Tree :=
 NZ a0<|NZ a0<|.aj (LK.has .str (a0.deref.hA)/\1<=a0.deref.length)<|.test (af ((a0.deref.hA).ag)==af (mk [117])) (.done 0 [.ptr [.v (.int .u8 117),VS (mk []),.v (.pointer none),.v (.pointer none)]] []) (NZ a0<|NZ a0<|.aj (LK.has .str (a0.deref.hA)/\1<=a0.deref.length)<|.call 161 [VS ((a0.deref.hA).ag)] [] fun r1 o1=>NB r1<|.test r1.toBool (NZ a0<|NZ a0<|.aj (LK.has .str (a0.deref.hA)/\1<=a0.deref.length)<|.done 0 [.ptr [.v (.int .u8 101),VS ((a0.deref.hA).ag),.v (.pointer none),.v (.pointer none)]] []) (.call 162 [a0,VS (mk [108]),VI 2] [] fun r2 o2=>NB r2<|.test r2.toBool (NZ a0<|NZ a0<|ot (a0.deref.drop 1)<|NG ((a0.deref.drop 1).hA) 1 1<|dT (((a0.deref.drop 1).hA).ix (1:Int))<|.call 129 [((((a0.deref.drop 1).hA).ix (1:Int)).hA)] [] fun r3 o3=>NP r3<|NP r3<|.test r3.isNil (.done 0 [.v (.pointer none)] []) (NZ a0<|NZ a0<|ot (a0.deref.drop 1)<|NG ((a0.deref.drop 1).hA) 0 1<|dT (((a0.deref.drop 1).hA).ix (0:Int))<|NZ ((((a0.deref.drop 1).hA).ix (0:Int)).hA)<|NZ ((((a0.deref.drop 1).hA).ix (0:Int)).hA)<|.aj (LK.has .str (((((a0.deref.drop 1).hA).ix (0:Int)).hA).deref.hA)/\1<=(((((a0.deref.drop 1).hA).ix (0:Int)).hA).deref).length)<|.aj (0<=(0:Int)/\(0:Int)<ae ((((((a0.deref.drop 1).hA).ix (0:Int)).hA).deref.hA).ag))<|.done 0 [.ptr [.v (.int .u8 (bt ((((((a0.deref.drop 1).hA).ix (0:Int)).hA).deref.hA).ag) 0)),VS (mk []),r3,.v (.pointer none)]] [])) (.call 162 [a0,VS (mk [114]),VI 2] [] fun r4 o4=>NB r4<|.test r4.toBool (NZ a0<|NZ a0<|ot (a0.deref.drop 1)<|NG ((a0.deref.drop 1).hA) 1 1<|dT (((a0.deref.drop 1).hA).ix (1:Int))<|.call 129 [((((a0.deref.drop 1).hA).ix (1:Int)).hA)] [] fun r5 o5=>NP r5<|NP r5<|.test r5.isNil (.done 0 [.v (.pointer none)] []) (NZ a0<|NZ a0<|ot (a0.deref.drop 1)<|NG ((a0.deref.drop 1).hA) 0 1<|dT (((a0.deref.drop 1).hA).ix (0:Int))<|NZ ((((a0.deref.drop 1).hA).ix (0:Int)).hA)<|NZ ((((a0.deref.drop 1).hA).ix (0:Int)).hA)<|.aj (LK.has .str (((((a0.deref.drop 1).hA).ix (0:Int)).hA).deref.hA)/\1<=(((((a0.deref.drop 1).hA).ix (0:Int)).hA).deref).length)<|.aj (0<=(0:Int)/\(0:Int)<ae ((((((a0.deref.drop 1).hA).ix (0:Int)).hA).deref.hA).ag))<|.done 0 [.ptr [.v (.int .u8 (bt ((((((a0.deref.drop 1).hA).ix (0:Int)).hA).deref.hA).ag) 0)),VS (mk []),r5,.v (.pointer none)]] [])) (.call 162 [a0,VS (mk [102]),VI 2] [] fun r6 o6=>NB r6<|.test r6.toBool (NZ a0<|NZ a0<|ot (a0.deref.drop 1)<|NG ((a0.deref.drop 1).hA) 1 1<|dT (((a0.deref.drop 1).hA).ix (1:Int))<|.call 129 [((((a0.deref.drop 1).hA).ix (1:Int)).hA)] [] fun r7 o7=>NP r7<|NP r7<|.test r7.isNil (.done 0 [.v (.pointer none)] []) (NZ a0<|NZ a0<|ot (a0.deref.drop 1)<|NG ((a0.deref.drop 1).hA) 0 1<|dT (((a0.deref.drop 1).hA).ix (0:Int))<|NZ ((((a0.deref.drop 1).hA).ix (0:Int)).hA)<|NZ ((((a0.deref.drop 1).hA).ix (0:Int)).hA)<|.aj (LK.has .str (((((a0.deref.drop 1).hA).ix (0:Int)).hA).deref.hA)/\1<=(((((a0.deref.drop 1).hA).ix (0:Int)).hA).deref).length)<|.aj (0<=(0:Int)/\(0:Int)<ae ((((((a0.deref.drop 1).hA).ix (0:Int)).hA).deref.hA).ag))<|.done 0 [.ptr [.v (.int .u8 (bt ((((((a0.deref.drop 1).hA).ix (0:Int)).hA).deref.hA).ag) 0)),VS (mk []),r7,.v (.pointer none)]] [])) (.call 162 [a0,VS (mk [112]),VI 3] [] fun r8 o8=>NB r8<|.test r8.toBool (NZ a0<|NZ a0<|ot (a0.deref.drop 1)<|NG ((a0.deref.drop 1).hA) 1 1<|dT (((a0.deref.drop 1).hA).ix (1:Int))<|.call 129 [((((a0.deref.drop 1).hA).ix (1:Int)).hA)] [] fun r9 o9=>NP r9<|NZ a0<|NZ a0<|ot (a0.deref.drop 1)<|NG ((a0.deref.drop 1).hA) 2 1<|dT (((a0.deref.drop 1).hA).ix (2:Int))<|.call 129 [((((a0.deref.drop 1).hA).ix (2:Int)).hA)] [] fun r10 o10=>NP r10<|NP r9<|.test r9.isNil (.done 0 [.v (.pointer none)] []) (NP r10<|.test r10.isNil (.done 0 [.v (.pointer none)] []) (.call 117 [r9,r10] [] fun r11 o11=>NP r11<|.done 0 [r11] []))) (.done 0 [.v (.pointer none)] []))))))
theorem Nd(a0:AV)(ha0:LK.has .ptr a0)(h:du 85 (F2 a0) R):aq Tryz.prog 129 [a0] [] R :=
 uQ (ah (bE ha0) aD) (oQ [] Tryz.f129 h)
def Gg:LI:={hd:={bX:=[(3,.k .ptr),(10,.k (.int .i64)),(11,.k (.int .i64))]},xs:={bX:=[(3,.k .ptr)]},rt:={},ex:=0}
def K2:Code:=cP (cH Tryz.f131) 3
def KA:List (Nat×LI):=[(3,Gg)]
def Hp(a0_0:AV)(a0_1:AV):Tree :=
 NZ a0_0<|NZ a0_0<|.aj (LK.has (.int .i64) ((a0_0.deref.drop 2).hA)/\1<=(a0_0.deref.drop 2).length)<|.loop K2 Gg [a0_1,VI (((a0_0.deref.drop 2).hA).toInt),VI 0] [] (fun y1 q1=>NP (y1.hA)<|NZ (y1.hA)<|NZ (y1.hA)<|.aj (LK.has .ptr ((y1.hA).deref.hA)/\1<=((y1.hA).deref).length)<|.done 0 [((y1.hA).deref.hA)] []) (fun y1 q1=>.done 0 [.any] [])
theorem LL(a0_0:AV)(a0_1:AV)(ha0_0:LK.has .ptr a0_0)(ha0_1:LK.has .ptr a0_1)(h:du 22 (Hp a0_0 a0_1) R):aq Tryz.prog 131 [.agg [a0_0,a0_1]] [] R :=
 uQ (ah (ci (ah (bE ha0_0) (ah (bE ha0_1) aD))) aD) (oQ KA Tryz.f131 h)
def Cp(x3:AV)(x10:Int)(x11:Int):Tree :=
 NP x3<|NI (VI x10)<|NI (VI x11)<|.test (decide (x11<x10)) (NZ x3<|NZ x3<|dT (x3.deref.drop 1)<|.done 0 [((x3.deref.drop 1).hA),VI x10,VI (IntKind.wrap .i64 (x11+1))] []) (.done 1 [x3] [])
abbrev Dk:=cy Tryz.prog 22 K2 Gg
theorem DZ(x3:AV)(x10:Int)(x11:Int)(h:kE 22 (Cp x3 x10 x11) Dk U):Dk [x3,VI x10,VI x11] [] U :=
 gQ KA h
def J5(a0:ByteArray):Tree :=
 .call 122 [VS a0] [] fun r1 o1=>NT r1<|.aj ((r1.comp 0)=.agg (r1.comp 0).cs/\(r1.comp 0).cs.length=2/\bH [.str,.sl] ((r1.comp 0).cs) 0)<|NB (r1.comp 1)<|.test ((r1.comp 1).toBool) (.call 165 [.agg [VS (((r1.comp 0).cs.getD 0 .any).ag),((r1.comp 0).cs.getD 1 .any)]] [] fun r2 o2=>NB r2<|.test r2.toBool (.call 140 [.agg [VS (((r1.comp 0).cs.getD 0 .any).ag),((r1.comp 0).cs.getD 1 .any)]] [] fun r3 o3=>NI r3<|.done 0 [.cD [.agg [VS (((r1.comp 0).cs.getD 0 .any).ag),((r1.comp 0).cs.getD 1 .any)],VB (decide (r3.toInt<=(400:Int)))]] []) (.done 0 [.cD [.agg [VS (((r1.comp 0).cs.getD 0 .any).ag),((r1.comp 0).cs.getD 1 .any)],VB false]] [])) (.done 0 [.cD [.agg [VS (((r1.comp 0).cs.getD 0 .any).ag),((r1.comp 0).cs.getD 1 .any)],VB false]] [])
theorem OH(a0:ByteArray)(h:du 22 (J5 a0) R):aq Tryz.prog 132 [VS a0] [] R :=
 uQ (ah (aA _) aD) (oQ [] Tryz.f132 h)
def L5(a0_0:ByteArray)(a0_1:AV):Tree :=
 NG a0_1 1 2<|lg (a0_1.ix (1:Int))<|NG a0_1 2 2<|NE (a0_1.ix (2:Int))<|.call 166 [.agg [VS (((a0_1.ix (2:Int)).getD 0 .any).ag),((a0_1.ix (2:Int)).getD 1 .any)],VS (((a0_1.ix (1:Int)).hA).ag)] [] fun r1 o1=>NT r1<|.aj ((r1.comp 0)=.agg (r1.comp 0).cs/\(r1.comp 0).cs.length=2/\bH [.str,.sl] ((r1.comp 0).cs) 0)<|NB (r1.comp 1)<|.test (!((r1.comp 1).toBool)) (.done 0 [.cD [.agg [VS a0_0,a0_1],VB false]] []) (.call 167 [.agg [VS (((r1.comp 0).cs.getD 0 .any).ag),((r1.comp 0).cs.getD 1 .any)],VS (((a0_1.ix (1:Int)).hA).ag),.agg [VS a0_0,a0_1]] [] fun r2 o2=>NT r2<|.aj ((r2.comp 0)=.agg (r2.comp 0).cs/\(r2.comp 0).cs.length=2/\bH [.str,.sl] ((r2.comp 0).cs) 0)<|NB (r2.comp 1)<|.done 0 [.cD [.agg [VS (((r2.comp 0).cs.getD 0 .any).ag),((r2.comp 0).cs.getD 1 .any)],VB ((r2.comp 1).toBool)]] [])
theorem Qy(a0_0:ByteArray)(a0_1:AV)(ha0_1:LK.has .sl a0_1)(h:du 30 (L5 a0_0 a0_1) R):aq Tryz.prog 133 [.agg [VS a0_0,a0_1]] [] R :=
 uQ (ah (ci (ah (aA _) (ah (bT ha0_1) aD))) aD) (oQ [] Tryz.f133 h)
def Js(a0_0:ByteArray)(a0_1:AV):Tree :=
 .call 140 [.agg [VS a0_0,a0_1]] [] fun r1 o1=>NI r1<|.test (decide (r1.toInt>(400:Int))) (.done 0 [.cD [VS (mk []),VB false]] []) (.call 106 [.agg [VS a0_0,a0_1],.v (.slice none 0 0)] [] fun r2 o2=>NA r2<|.call 97 [.agg [VS ((r2.cs.getD 0 .any).ag),(r2.cs.getD 1 .any)]] [] fun r3 o3=>NS r3<|.call 168 [VS r3.ag] [] fun r4 o4=>NB r4<|.test (!r4.toBool) (.done 0 [.cD [VS (mk []),VB false]] []) (.done 0 [.cD [VS r3.ag,VB true]] []))
theorem Qu(a0_0:ByteArray)(a0_1:AV)(ha0_1:LK.has .sl a0_1)(h:du 15 (Js a0_0 a0_1) R):aq Tryz.prog 134 [.agg [VS a0_0,a0_1]] [] R :=
 uQ (ah (ci (ah (aA _) (ah (bT ha0_1) aD))) aD) (oQ [] Tryz.f134 h)
def MA(a0_0:AV)(a0_1:Int):Tree :=
 .call 81 [.ref 0 0,VI 12] [.cells [a0_0,VI a0_1]] fun r1 o1=>.aj ((o1.hO)=.cells (o1.hO).cs)<|.aj (aM [.lk .sl,.lk (.int .i64)] ((o1.hO).cs) 0 1 o1.tail)<|NI r1<|.test (r1.toInt==(0:Int)) (.call 102 [.ref 0 0,.sl [[VS (mk [])],[VS (mk [97])],[VS (mk [40,43,32,49,41])],[VS (mk [40,114,101,99,32,120,32,49,41])],[VS (mk [40,114,101,99,32,116,41])],[VS (mk [40,43,32,32,49,32,49,41])],[VS (mk [40,42,32,49,32,49,32,49,41])],[VS (mk [116,49,48,48])],[VS (mk [120,32,49])]]] [.cells [((o1.hO).cs.getD 0 .any),VI (((o1.hO).cs.getD 1 .any).toInt)]] fun r2 o2=>.aj ((o2.hO)=.cells (o2.hO).cs)<|.aj (aM [.lk .sl,.lk (.int .i64)] ((o2.hO).cs) 0 1 o2.tail)<|NS r2<|.done 0 [VS r2.ag] [.cells [((o2.hO).cs.getD 0 .any),VI (((o2.hO).cs.getD 1 .any).toInt)]]) (.test (r1.toInt==(1:Int)) (.call 80 [.ref 0 0] [.cells [((o1.hO).cs.getD 0 .any),VI (((o1.hO).cs.getD 1 .any).toInt)]] fun r3 o3=>.aj ((o3.hO)=.cells (o3.hO).cs)<|.aj (aM [.lk .sl,.lk (.int .i64)] ((o3.hO).cs) 0 1 o3.tail)<|NS r3<|.done 0 [VS r3.ag] [.cells [((o3.hO).cs.getD 0 .any),VI (((o3.hO).cs.getD 1 .any).toInt)]]) (.test (r1.toInt==(2:Int)) (.call 80 [.ref 0 0] [.cells [((o1.hO).cs.getD 0 .any),VI (((o1.hO).cs.getD 1 .any).toInt)]] fun r4 o4=>.aj ((o4.hO)=.cells (o4.hO).cs)<|.aj (aM [.lk .sl,.lk (.int .i64)] ((o4.hO).cs) 0 1 o4.tail)<|NS r4<|.done 0 [VS r4.ag] [.cells [((o4.hO).cs.getD 0 .any),VI (((o4.hO).cs.getD 1 .any).toInt)]]) (.test (r1.toInt==(3:Int)) (.call 80 [.ref 0 0] [.cells [((o1.hO).cs.getD 0 .any),VI (((o1.hO).cs.getD 1 .any).toInt)]] fun r5 o5=>.aj ((o5.hO)=.cells (o5.hO).cs)<|.aj (aM [.lk .sl,.lk (.int .i64)] ((o5.hO).cs) 0 1 o5.tail)<|NS r5<|.done 0 [VS r5.ag] [.cells [((o5.hO).cs.getD 0 .any),VI (((o5.hO).cs.getD 1 .any).toInt)]]) (.test (r1.toInt==(4:Int)) (.call 136 [.ref 0 0,.sl [[VS (mk [116])],[VS (mk [116,49])]],VI 2] [.cells [((o1.hO).cs.getD 0 .any),VI (((o1.hO).cs.getD 1 .any).toInt)]] fun r6 o6=>.aj ((o6.hO)=.cells (o6.hO).cs)<|.aj (aM [.lk .sl,.lk (.int .i64)] ((o6.hO).cs) 0 1 o6.tail)<|NS r6<|.done 0 [VS r6.ag] [.cells [((o6.hO).cs.getD 0 .any),VI (((o6.hO).cs.getD 1 .any).toInt)]]) (.call 136 [.ref 0 0,.sl [],VI 3] [.cells [((o1.hO).cs.getD 0 .any),VI (((o1.hO).cs.getD 1 .any).toInt)]] fun r7 o7=>.aj ((o7.hO)=.cells (o7.hO).cs)<|.aj (aM [.lk .sl,.lk (.int .i64)] ((o7.hO).cs) 0 1 o7.tail)<|NS r7<|.done 0 [VS r7.ag] [.cells [((o7.hO).cs.getD 0 .any),VI (((o7.hO).cs.getD 1 .any).toInt)]])))))
theorem QU(a0_0:AV)(a0_1:Int)(ha0_0:LK.has .sl a0_0)(h:du 24 (MA a0_0 a0_1) R):aq Tryz.prog 135 [.ref 0 0] [.cells [a0_0,VI a0_1]] R :=
 aq.nK (bB (cc (ah (bT ha0_0) (ah (aA _) aD))) cw) (aq.up (ah (aA _) aD) (oF [] {mu:=[(0,.one (.obj [.lk .sl,.lk (.int .i64)]))],own:=[]} Tryz.f135 h))
def Gt(a0_0:AV)(a0_1:Int)(a1:AV)(a2:Int):Tree :=
 .test (decide (a2<=(0:Int))) (NL a1<|.test (decide ((a1.aP.length:Int)>(0:Int))) (.call 81 [.ref 0 0,VI 3] [.cells [a0_0,VI a0_1]] fun r1 o1=>.aj ((o1.hO)=.cells (o1.hO).cs)<|.aj (aM [.lk .sl,.lk (.int .i64)] ((o1.hO).cs) 0 1 o1.tail)<|NI r1<|.test (r1.toInt==(0:Int)) (NL a1<|.call 81 [.ref 0 0,VI (a1.aP.length:Int)] [.cells [((o1.hO).cs.getD 0 .any),VI (((o1.hO).cs.getD 1 .any).toInt)]] fun r2 o2=>.aj ((o2.hO)=.cells (o2.hO).cs)<|.aj (aM [.lk .sl,.lk (.int .i64)] ((o2.hO).cs) 0 1 o2.tail)<|NI r2<|.aj (LK.has .sl a1/\0<=r2.toInt/\r2.toInt<a1.aP.length/\(a1.aP.getD r2.toInt.toNat []).length=1)<|lg (a1.aP.getD r2.toInt.toNat [])<|.done 0 [VS (((a1.aP.getD r2.toInt.toNat []).hA).ag)] [.cells [((o2.hO).cs.getD 0 .any),VI (((o2.hO).cs.getD 1 .any).toInt)]]) (.call 102 [.ref 0 0,.sl [[VS (mk [120])],[VS (mk [49])],[VS (mk [120])],[VS (mk [121])],[VS (mk [48])],[VS (mk [49])]]] [.cells [((o1.hO).cs.getD 0 .any),VI (((o1.hO).cs.getD 1 .any).toInt)]] fun r3 o3=>.aj ((o3.hO)=.cells (o3.hO).cs)<|.aj (aM [.lk .sl,.lk (.int .i64)] ((o3.hO).cs) 0 1 o3.tail)<|NS r3<|.done 0 [VS r3.ag] [.cells [((o3.hO).cs.getD 0 .any),VI (((o3.hO).cs.getD 1 .any).toInt)]])) (.call 102 [.ref 0 0,.sl [[VS (mk [120])],[VS (mk [49])],[VS (mk [120])],[VS (mk [121])],[VS (mk [48])],[VS (mk [49])]]] [.cells [a0_0,VI a0_1]] fun r4 o4=>.aj ((o4.hO)=.cells (o4.hO).cs)<|.aj (aM [.lk .sl,.lk (.int .i64)] ((o4.hO).cs) 0 1 o4.tail)<|NS r4<|.done 0 [VS r4.ag] [.cells [((o4.hO).cs.getD 0 .any),VI (((o4.hO).cs.getD 1 .any).toInt)]])) (.call 81 [.ref 0 0,VI 4] [.cells [a0_0,VI a0_1]] fun r5 o5=>.aj ((o5.hO)=.cells (o5.hO).cs)<|.aj (aM [.lk .sl,.lk (.int .i64)] ((o5.hO).cs) 0 1 o5.tail)<|NI r5<|.test (r5.toInt==(0:Int)) (NL a1<|.test (decide ((a1.aP.length:Int)>(0:Int))) (.call 81 [.ref 0 0,VI 3] [.cells [((o5.hO).cs.getD 0 .any),VI (((o5.hO).cs.getD 1 .any).toInt)]] fun r6 o6=>.aj ((o6.hO)=.cells (o6.hO).cs)<|.aj (aM [.lk .sl,.lk (.int .i64)] ((o6.hO).cs) 0 1 o6.tail)<|NI r6<|.test (r6.toInt==(0:Int)) (NL a1<|.call 81 [.ref 0 0,VI (a1.aP.length:Int)] [.cells [((o6.hO).cs.getD 0 .any),VI (((o6.hO).cs.getD 1 .any).toInt)]] fun r7 o7=>.aj ((o7.hO)=.cells (o7.hO).cs)<|.aj (aM [.lk .sl,.lk (.int .i64)] ((o7.hO).cs) 0 1 o7.tail)<|NI r7<|.aj (LK.has .sl a1/\0<=r7.toInt/\r7.toInt<a1.aP.length/\(a1.aP.getD r7.toInt.toNat []).length=1)<|lg (a1.aP.getD r7.toInt.toNat [])<|.done 0 [VS (((a1.aP.getD r7.toInt.toNat []).hA).ag)] [.cells [((o7.hO).cs.getD 0 .any),VI (((o7.hO).cs.getD 1 .any).toInt)]]) (.call 102 [.ref 0 0,.sl [[VS (mk [120])],[VS (mk [49])],[VS (mk [120])],[VS (mk [121])],[VS (mk [48])],[VS (mk [49])]]] [.cells [((o6.hO).cs.getD 0 .any),VI (((o6.hO).cs.getD 1 .any).toInt)]] fun r8 o8=>.aj ((o8.hO)=.cells (o8.hO).cs)<|.aj (aM [.lk .sl,.lk (.int .i64)] ((o8.hO).cs) 0 1 o8.tail)<|NS r8<|.done 0 [VS r8.ag] [.cells [((o8.hO).cs.getD 0 .any),VI (((o8.hO).cs.getD 1 .any).toInt)]])) (.call 102 [.ref 0 0,.sl [[VS (mk [120])],[VS (mk [49])],[VS (mk [120])],[VS (mk [121])],[VS (mk [48])],[VS (mk [49])]]] [.cells [((o5.hO).cs.getD 0 .any),VI (((o5.hO).cs.getD 1 .any).toInt)]] fun r9 o9=>.aj ((o9.hO)=.cells (o9.hO).cs)<|.aj (aM [.lk .sl,.lk (.int .i64)] ((o9.hO).cs) 0 1 o9.tail)<|NS r9<|.done 0 [VS r9.ag] [.cells [((o9.hO).cs.getD 0 .any),VI (((o9.hO).cs.getD 1 .any).toInt)]])) (.call 81 [.ref 0 0,VI 5] [.cells [((o5.hO).cs.getD 0 .any),VI (((o5.hO).cs.getD 1 .any).toInt)]] fun r10 o10=>.aj ((o10.hO)=.cells (o10.hO).cs)<|.aj (aM [.lk .sl,.lk (.int .i64)] ((o10.hO).cs) 0 1 o10.tail)<|NI r10<|.test (r10.toInt==(0:Int)) (.call 136 [.ref 0 0,a1,VI (IntKind.wrap .i64 (a2-1))] [.cells [((o10.hO).cs.getD 0 .any),VI (((o10.hO).cs.getD 1 .any).toInt)]] fun r11 o11=>.aj ((o11.hO)=.cells (o11.hO).cs)<|.aj (aM [.lk .sl,.lk (.int .i64)] ((o11.hO).cs) 0 1 o11.tail)<|NS r11<|.aj (ae (mk [40,43,32])+ae r11.ag<=9223372036854775807)<|.aj (ae (((mk [40,43,32]):ByteArray)++r11.ag)+ae (mk [32])<=9223372036854775807)<|.call 136 [.ref 0 0,a1,VI (IntKind.wrap .i64 (a2-1))] [.cells [((o11.hO).cs.getD 0 .any),VI (((o11.hO).cs.getD 1 .any).toInt)]] fun r12 o12=>.aj ((o12.hO)=.cells (o12.hO).cs)<|.aj (aM [.lk .sl,.lk (.int .i64)] ((o12.hO).cs) 0 1 o12.tail)<|NS r12<|.aj (ae (((((mk [40,43,32]):ByteArray)++r11.ag):ByteArray)++(mk [32]))+ae r12.ag<=9223372036854775807)<|.aj (ae (((((((mk [40,43,32]):ByteArray)++r11.ag):ByteArray)++(mk [32])):ByteArray)++r12.ag)+ae (mk [41])<=9223372036854775807)<|.done 0 [VS (((((((((mk [40,43,32]):ByteArray)++r11.ag):ByteArray)++(mk [32])):ByteArray)++r12.ag):ByteArray)++(mk [41]))] [.cells [((o12.hO).cs.getD 0 .any),VI (((o12.hO).cs.getD 1 .any).toInt)]]) (.test (r10.toInt==(1:Int)) (.call 136 [.ref 0 0,a1,VI (IntKind.wrap .i64 (a2-1))] [.cells [((o10.hO).cs.getD 0 .any),VI (((o10.hO).cs.getD 1 .any).toInt)]] fun r13 o13=>.aj ((o13.hO)=.cells (o13.hO).cs)<|.aj (aM [.lk .sl,.lk (.int .i64)] ((o13.hO).cs) 0 1 o13.tail)<|NS r13<|.aj (ae (mk [40,43,32])+ae r13.ag<=9223372036854775807)<|.aj (ae (((mk [40,43,32]):ByteArray)++r13.ag)+ae (mk [32])<=9223372036854775807)<|.call 136 [.ref 0 0,a1,VI (IntKind.wrap .i64 (a2-1))] [.cells [((o13.hO).cs.getD 0 .any),VI (((o13.hO).cs.getD 1 .any).toInt)]] fun r14 o14=>.aj ((o14.hO)=.cells (o14.hO).cs)<|.aj (aM [.lk .sl,.lk (.int .i64)] ((o14.hO).cs) 0 1 o14.tail)<|NS r14<|.aj (ae (((((mk [40,43,32]):ByteArray)++r13.ag):ByteArray)++(mk [32]))+ae r14.ag<=9223372036854775807)<|.aj (ae (((((((mk [40,43,32]):ByteArray)++r13.ag):ByteArray)++(mk [32])):ByteArray)++r14.ag)+ae (mk [41])<=9223372036854775807)<|.done 0 [VS (((((((((mk [40,43,32]):ByteArray)++r13.ag):ByteArray)++(mk [32])):ByteArray)++r14.ag):ByteArray)++(mk [41]))] [.cells [((o14.hO).cs.getD 0 .any),VI (((o14.hO).cs.getD 1 .any).toInt)]]) (.test (r10.toInt==(2:Int)) (.call 136 [.ref 0 0,a1,VI (IntKind.wrap .i64 (a2-1))] [.cells [((o10.hO).cs.getD 0 .any),VI (((o10.hO).cs.getD 1 .any).toInt)]] fun r15 o15=>.aj ((o15.hO)=.cells (o15.hO).cs)<|.aj (aM [.lk .sl,.lk (.int .i64)] ((o15.hO).cs) 0 1 o15.tail)<|NS r15<|.aj (ae (mk [40,42,32])+ae r15.ag<=9223372036854775807)<|.aj (ae (((mk [40,42,32]):ByteArray)++r15.ag)+ae (mk [32])<=9223372036854775807)<|.call 136 [.ref 0 0,a1,VI (IntKind.wrap .i64 (a2-1))] [.cells [((o15.hO).cs.getD 0 .any),VI (((o15.hO).cs.getD 1 .any).toInt)]] fun r16 o16=>.aj ((o16.hO)=.cells (o16.hO).cs)<|.aj (aM [.lk .sl,.lk (.int .i64)] ((o16.hO).cs) 0 1 o16.tail)<|NS r16<|.aj (ae (((((mk [40,42,32]):ByteArray)++r15.ag):ByteArray)++(mk [32]))+ae r16.ag<=9223372036854775807)<|.aj (ae (((((((mk [40,42,32]):ByteArray)++r15.ag):ByteArray)++(mk [32])):ByteArray)++r16.ag)+ae (mk [41])<=9223372036854775807)<|.done 0 [VS (((((((((mk [40,42,32]):ByteArray)++r15.ag):ByteArray)++(mk [32])):ByteArray)++r16.ag):ByteArray)++(mk [41]))] [.cells [((o16.hO).cs.getD 0 .any),VI (((o16.hO).cs.getD 1 .any).toInt)]]) (.test (r10.toInt==(3:Int)) (.call 136 [.ref 0 0,a1,VI (IntKind.wrap .i64 (a2-1))] [.cells [((o10.hO).cs.getD 0 .any),VI (((o10.hO).cs.getD 1 .any).toInt)]] fun r17 o17=>.aj ((o17.hO)=.cells (o17.hO).cs)<|.aj (aM [.lk .sl,.lk (.int .i64)] ((o17.hO).cs) 0 1 o17.tail)<|NS r17<|.aj (ae (mk [40,42,32])+ae r17.ag<=9223372036854775807)<|.aj (ae (((mk [40,42,32]):ByteArray)++r17.ag)+ae (mk [32])<=9223372036854775807)<|.call 136 [.ref 0 0,a1,VI (IntKind.wrap .i64 (a2-1))] [.cells [((o17.hO).cs.getD 0 .any),VI (((o17.hO).cs.getD 1 .any).toInt)]] fun r18 o18=>.aj ((o18.hO)=.cells (o18.hO).cs)<|.aj (aM [.lk .sl,.lk (.int .i64)] ((o18.hO).cs) 0 1 o18.tail)<|NS r18<|.aj (ae (((((mk [40,42,32]):ByteArray)++r17.ag):ByteArray)++(mk [32]))+ae r18.ag<=9223372036854775807)<|.aj (ae (((((((mk [40,42,32]):ByteArray)++r17.ag):ByteArray)++(mk [32])):ByteArray)++r18.ag)+ae (mk [41])<=9223372036854775807)<|.done 0 [VS (((((((((mk [40,42,32]):ByteArray)++r17.ag):ByteArray)++(mk [32])):ByteArray)++r18.ag):ByteArray)++(mk [41]))] [.cells [((o18.hO).cs.getD 0 .any),VI (((o18.hO).cs.getD 1 .any).toInt)]]) (.call 102 [.ref 0 0,.sl [[VS (mk [116])],[VS (mk [116,49])],[VS (mk [116,48])]]] [.cells [((o10.hO).cs.getD 0 .any),VI (((o10.hO).cs.getD 1 .any).toInt)]] fun r19 o19=>.aj ((o19.hO)=.cells (o19.hO).cs)<|.aj (aM [.lk .sl,.lk (.int .i64)] ((o19.hO).cs) 0 1 o19.tail)<|NS r19<|.aj (ae (mk [40,114,101,99,32])+ae r19.ag<=9223372036854775807)<|.aj (ae (((mk [40,114,101,99,32]):ByteArray)++r19.ag)+ae (mk [32,40,43,32,49,32])<=9223372036854775807)<|.call 79 [a1,VS r19.ag] [] fun r20 o20=>.aj (r20=.vec 0/\(o20.hO)=.vec 1 (o20.hO).es)<|.aj (∀x,x∈o20->fA x)<|.call 136 [.ref 0 0,.sl ((o20.hO).es),VI (IntKind.wrap .i64 (a2-1))] [.cells [((o19.hO).cs.getD 0 .any),VI (((o19.hO).cs.getD 1 .any).toInt)]] fun r21 o21=>.aj ((o21.hO)=.cells (o21.hO).cs)<|.aj (aM [.lk .sl,.lk (.int .i64)] ((o21.hO).cs) 0 1 o21.tail)<|NS r21<|.aj (ae (((((mk [40,114,101,99,32]):ByteArray)++r19.ag):ByteArray)++(mk [32,40,43,32,49,32]))+ae r21.ag<=9223372036854775807)<|.aj (ae (((((((mk [40,114,101,99,32]):ByteArray)++r19.ag):ByteArray)++(mk [32,40,43,32,49,32])):ByteArray)++r21.ag)+ae (mk [41,41])<=9223372036854775807)<|.done 0 [VS (((((((((mk [40,114,101,99,32]):ByteArray)++r19.ag):ByteArray)++(mk [32,40,43,32,49,32])):ByteArray)++r21.ag):ByteArray)++(mk [41,41]))] [.cells [((o21.hO).cs.getD 0 .any),VI (((o21.hO).cs.getD 1 .any).toInt)]]))))))
theorem Kk(a0_0:AV)(a0_1:Int)(a1:AV)(a2:Int)(ha1:LK.has .sl a1)(ha0_0:LK.has .sl a0_0)(h:du 82 (Gt a0_0 a0_1 a1 a2) R):aq Tryz.prog 136 [.ref 0 0,a1,VI a2] [.cells [a0_0,VI a0_1]] R :=
 aq.nK (bB (cc (ah (bT ha0_0) (ah (aA _) aD))) cw) (aq.up (ah (aA _) (ah (bT ha1) (ah (aA _) aD))) (oF [] {mu:=[(0,.one (.obj [.lk .sl,.lk (.int .i64)]))],own:=[]} Tryz.f136 h))
def Hs(a0_0:ByteArray)(a0_1:AV)(a1:AV)(e2:List (List AV)):Tree :=
 .test (!(af a0_0==af (mk []))) (.test (af a0_0==af (mk [48])) (.done 0 [.vec 1] [.dead,.vec 1 e2]) (.test (af a0_0==af (mk [49])) (.done 0 [.vec 1] [.dead,.vec 1 e2]) (.call 169 [a1,VS a0_0] [] fun r1 o1=>NB r1<|.test r1.toBool (.done 0 [.vec 1] [.dead,.vec 1 e2]) (.call 169 [.sl e2,VS a0_0] [] fun r2 o2=>NB r2<|.test r2.toBool (.done 0 [.vec 1] [.dead,.vec 1 e2]) (.aj (cv 1 [[VS a0_0]]/\((e2.length)+([[VS a0_0]]:List (List AV)).length)*16<=140737488355328)<|.done 0 [.vec 1] [.dead,.vec 1 (e2++([[VS a0_0]]:List (List AV)))]))))) (.call 121 [.agg [VS a0_0,a0_1]] [] fun r3 o3=>NS r3<|.test (af r3.ag==af (mk [114,101,99])) (NG a0_1 2 2<|NE (a0_1.ix (2:Int))<|NG a0_1 1 2<|lg (a0_1.ix (1:Int))<|.call 79 [a1,VS (((a0_1.ix (1:Int)).hA).ag)] [] fun r4 o4=>.aj (r4=.vec 0/\(o4.hO)=.vec 1 (o4.hO).es)<|.aj (∀x,x∈o4->fA x)<|.call 137 [.agg [VS (((a0_1.ix (2:Int)).getD 0 .any).ag),((a0_1.ix (2:Int)).getD 1 .any)],.sl ((o4.hO).es),.vec 0] [.vec 1 e2] fun r5 o5=>.aj (r5=.vec 1/\(o5.tail.hO)=.vec 1 (o5.tail.hO).es)<|.done 0 [.vec 1] [.dead,.vec 1 ((o5.tail.hO).es)]) (NG a0_1 2 2<|NE (a0_1.ix (2:Int))<|NG a0_1 1 2<|NE (a0_1.ix (1:Int))<|.call 137 [.agg [VS (((a0_1.ix (1:Int)).getD 0 .any).ag),((a0_1.ix (1:Int)).getD 1 .any)],a1,.vec 0] [.vec 1 e2] fun r6 o6=>.aj (r6=.vec 1/\(o6.tail.hO)=.vec 1 (o6.tail.hO).es)<|.call 137 [.agg [VS (((a0_1.ix (2:Int)).getD 0 .any).ag),((a0_1.ix (2:Int)).getD 1 .any)],a1,.vec 0] [.vec 1 ((o6.tail.hO).es)] fun r7 o7=>.aj (r7=.vec 1/\(o7.tail.hO)=.vec 1 (o7.tail.hO).es)<|.done 0 [.vec 1] [.dead,.vec 1 ((o7.tail.hO).es)]))
theorem zT(a0_0:ByteArray)(a0_1:AV)(a1:AV)(e2:List (List AV))(ha0_1:LK.has .sl a0_1)(ha1:LK.has .sl a1)(h:du 65 (Hs a0_0 a0_1 a1 e2) R):aq Tryz.prog 137 [.agg [VS a0_0,a0_1],a1,.vec 0] [.vec 1 e2] R :=
 aq.nK (bB (fW _) cw) (aq.up (ah (ci (ah (aA _) (ah (bT ha0_1) aD))) (ah (bT ha1) (ah (aA _) aD))) (oF [] {mu:=[(2,.one (.vec))],own:=[0]} Tryz.f137 h))
def Nj(a0:ByteArray):Tree :=
 .call 170 [VS a0,.v (.int .u8 116),.v (.int .u8 116)] [] fun r1 o1=>NB r1<|.done 0 [VB r1.toBool] []
theorem PX(a0:ByteArray)(h:du 5 (Nj a0) R):aq Tryz.prog 138 [VS a0] [] R :=
 uQ (ah (aA _) aD) (oQ [] Tryz.f138 h)
def Cn(a0_0:ByteArray)(a0_1:AV)(a1:AV):Tree :=
 .call 121 [.agg [VS a0_0,a0_1]] [] fun r1 o1=>NS r1<|.test (af r1.ag==af (mk [43])) (NG a0_1 1 2<|NE (a0_1.ix (1:Int))<|.call 139 [.agg [VS (((a0_1.ix (1:Int)).getD 0 .any).ag),((a0_1.ix (1:Int)).getD 1 .any)],a1] [] fun r2 o2=>NB r2<|.test r2.toBool (NG a0_1 2 2<|NE (a0_1.ix (2:Int))<|.call 139 [.agg [VS (((a0_1.ix (2:Int)).getD 0 .any).ag),((a0_1.ix (2:Int)).getD 1 .any)],a1] [] fun r3 o3=>NB r3<|.done 0 [VB r3.toBool] []) (.done 0 [VB false] [])) (.test (af r1.ag==af (mk [42])) (NG a0_1 1 2<|NE (a0_1.ix (1:Int))<|.call 139 [.agg [VS (((a0_1.ix (1:Int)).getD 0 .any).ag),((a0_1.ix (1:Int)).getD 1 .any)],a1] [] fun r4 o4=>NB r4<|.test r4.toBool (.done 0 [VB true] []) (NG a0_1 2 2<|NE (a0_1.ix (2:Int))<|.call 139 [.agg [VS (((a0_1.ix (2:Int)).getD 0 .any).ag),((a0_1.ix (2:Int)).getD 1 .any)],a1] [] fun r5 o5=>NB r5<|.done 0 [VB r5.toBool] [])) (.test (af r1.ag==af (mk [114,101,99])) (NG a0_1 2 2<|NE (a0_1.ix (2:Int))<|NG a0_1 1 2<|lg (a0_1.ix (1:Int))<|.call 79 [a1,VS (((a0_1.ix (1:Int)).hA).ag)] [] fun r6 o6=>.aj (r6=.vec 0/\(o6.hO)=.vec 1 (o6.hO).es)<|.aj (∀x,x∈o6->fA x)<|.call 139 [.agg [VS (((a0_1.ix (2:Int)).getD 0 .any).ag),((a0_1.ix (2:Int)).getD 1 .any)],.sl ((o6.hO).es)] [] fun r7 o7=>NB r7<|.done 0 [VB r7.toBool] []) (.test (af a0_0==af (mk [48])) (.done 0 [VB true] []) (.call 169 [a1,VS a0_0] [] fun r8 o8=>NB r8<|.done 0 [VB r8.toBool] []))))
theorem Ee(a0_0:ByteArray)(a0_1:AV)(a1:AV)(ha0_1:LK.has .sl a0_1)(ha1:LK.has .sl a1)(h:du 62 (Cn a0_0 a0_1 a1) R):aq Tryz.prog 139 [.agg [VS a0_0,a0_1],a1] [] R :=
 uQ (ah (ci (ah (aA _) (ah (bT ha0_1) aD))) (ah (bT ha1) aD)) (oQ [] Tryz.f139 h)
def HB:LI:={hd:={bX:=[(3,.k (.int .i64)),(4,.k (.int .i64))],refs:=[(1,1)],co:=[(1,[.lk .str,.lk .sl])]},xs:={bX:=[(3,.k (.int .i64))]},rt:={},ex:=0}
def Ni:Code:=cP (cH Tryz.f140) 5
def No:List (Nat×LI):=[(5,HB)]
def GH(a0_0:ByteArray)(a0_1:AV):Tree :=
 .test (!(af a0_0==af (mk []))) (.done 0 [VI 1] []) (.loop Ni HB [VI 0,VI 0] [.cells [VS a0_0,a0_1]] (fun y2 q2=>NI (y2.hA)<|.done 0 [VI ((y2.hA).toInt)] []) (fun y2 q2=>.done 0 [.any] []))
theorem IY(a0_0:ByteArray)(a0_1:AV)(ha0_1:LK.has .sl a0_1)(h:du 24 (GH a0_0 a0_1) R):aq Tryz.prog 140 [.agg [VS a0_0,a0_1]] [] R :=
 uQ (ah (ci (ah (aA _) (ah (bT ha0_1) aD))) aD) (oQ No Tryz.f140 h)
def Ff(x3:Int)(x4:Int)(o1_0:ByteArray)(o1_1:AV):Tree :=
 NI (VI x3)<|NI (VI x4)<|.aj (Ob.cells [VS o1_0,o1_1]=.cells [VS o1_0,o1_1])<|.aj (ac [.lk .str,.lk .sl] [VS o1_0,o1_1] 0 [])<|NL o1_1<|.test (decide (x4<(o1_1.aP.length:Int))) (NG o1_1 x4 2<|NE (o1_1.ix x4)<|.call 140 [.agg [VS (((o1_1.ix x4).getD 0 .any).ag),((o1_1.ix x4).getD 1 .any)]] [] fun r1 o1=>NI r1<|.done 0 [VI (IntKind.wrap .i64 (x3+r1.toInt)),VI (IntKind.wrap .i64 (x4+1))] [.cells [VS o1_0,o1_1]]) (.done 1 [VI x3] [])
abbrev F6:=cy Tryz.prog 24 Ni HB
theorem I5(x3:Int)(x4:Int)(o1_0:ByteArray)(o1_1:AV)(h:kE 24 (Ff x3 x4 o1_0 o1_1) F6 U):F6 [VI x3,VI x4] [.cells [VS o1_0,o1_1]] U :=
 gQ No h
def ML(a0_0:ByteArray)(a0_1:AV):Tree :=
 NG a0_1 1 2<|lg (a0_1.ix (1:Int))<|NG a0_1 2 2<|NE (a0_1.ix (2:Int))<|.call 171 [.agg [VS (((a0_1.ix (2:Int)).getD 0 .any).ag),((a0_1.ix (2:Int)).getD 1 .any)],VS (((a0_1.ix (1:Int)).hA).ag),.agg [VS a0_0,a0_1]] [] fun r1 o1=>NB r1<|.test (!r1.toBool) (.done 0 [.cD [.agg [VS a0_0,a0_1],VB false]] []) (NG a0_1 2 2<|NE (a0_1.ix (2:Int))<|.call 172 [.agg [VS (((a0_1.ix (2:Int)).getD 0 .any).ag),((a0_1.ix (2:Int)).getD 1 .any)],VS (((a0_1.ix (1:Int)).hA).ag),.agg [VS a0_0,a0_1]] [] fun r2 o2=>NA r2<|.done 0 [.cD [.agg [VS ((r2.cs.getD 0 .any).ag),(r2.cs.getD 1 .any)],VB true]] [])
theorem OU(a0_0:ByteArray)(a0_1:AV)(ha0_1:LK.has .sl a0_1)(h:du 26 (ML a0_0 a0_1) R):aq Tryz.prog 141 [.agg [VS a0_0,a0_1]] [] R :=
 uQ (ah (ci (ah (aA _) (ah (bT ha0_1) aD))) aD) (oQ [] Tryz.f141 h)
def I6(a0:Int):Tree :=
 .test (decide (a0<((-9223372036854775807):Int))) (.done 0 [VS (mk [45,57,50,50,51,51,55,50,48,51,54,56,53,52,55,55,53,56,48,56])] []) (.test (decide (a0<(0:Int))) (.call 142 [VI (IntKind.wrap .i64 (0-a0))] [] fun r1 o1=>NS r1<|.aj (ae (mk [45])+ae r1.ag<=9223372036854775807)<|.done 0 [VS (((mk [45]):ByteArray)++r1.ag)] []) (.test (decide (a0<(10:Int))) (.aj (jw [[.v (.int .u8 (IntKind.wrap .u8 (IntKind.wrap .i64 (48+a0))))]])<|.done 0 [VS (⟨(bytesOf [[.v (.int .u8 (IntKind.wrap .u8 (IntKind.wrap .i64 (48+a0))))]]).toArray⟩)] []) (.aj (¬(10:Int)=0)<|.call 142 [VI (IntKind.wrap .i64 (Int.tdiv a0 10))] [] fun r2 o2=>NS r2<|.aj (¬(10:Int)=0)<|.aj (jw [[.v (.int .u8 (IntKind.wrap .u8 (IntKind.wrap .i64 (48+(dG a0 10)))))]])<|.aj (ae r2.ag+ae (⟨(bytesOf [[.v (.int .u8 (IntKind.wrap .u8 (IntKind.wrap .i64 (48+(dG a0 10)))))]]).toArray⟩)<=9223372036854775807)<|.done 0 [VS ((r2.ag:ByteArray)++(⟨(bytesOf [[.v (.int .u8 (IntKind.wrap .u8 (IntKind.wrap .i64 (48+(dG a0 10)))))]]).toArray⟩))] [])))
theorem Q5(a0:Int)(h:du 28 (I6 a0) R):aq Tryz.prog 142 [VI a0] [] R :=
 uQ (ah (aA _) aD) (oQ [] Tryz.f142 h)
def Hi:LI:={hd:={bX:=[(1,.k .sl),(2,.k .sl),(9,.k (.int .i64))],refs:=[(4,4),(8,8)],co:=[(4,[.lk .str,.lk .sl]),(8,[.lk .str,.lk .sl]),(0,[.vec 1,.lk (.int .i64)])]},xs:={refs:=[(4,4),(8,8)],co:=[(4,[.lk .str,.lk .sl]),(8,[.lk .str,.lk .sl]),(0,[.vec 1,.lk (.int .i64)])]},rt:={refs:=[(8,8)],co:=[(8,[.lk .str,.lk .sl]),(0,[.vec 1,.lk (.int .i64)])]},ex:=0,fx:=[0]}
def Jy:Code:=cP (cH Tryz.f143) 3
def G5:LI:={hd:={bX:=[(1,.k .sl),(2,.k .sl),(10,.k .str)],refs:=[(3,0),(4,4),(8,8)],co:=[(0,[.vec 1,.lk (.int .i64)]),(4,[.lk .str,.lk .sl]),(8,[.lk .str,.lk .sl])]},xs:={bX:=[(1,.k .sl),(2,.k .sl),(10,.k .str)],refs:=[(3,0),(4,4),(8,8)],co:=[(0,[.vec 1,.lk (.int .i64)]),(4,[.lk .str,.lk .sl]),(8,[.lk .str,.lk .sl])]},rt:={co:=[(0,[.vec 1,.lk (.int .i64)])]},ex:=2,fx:=[0]}
def KB:Code:=cP (cH Tryz.f143) 10
def Hz:List (Nat×LI):=[(3,Hi),(10,G5)]
def Cc(a0_0:ByteArray)(a0_1:AV)(a1:AV)(a2:AV)(e3_0:List (List AV))(a3_1:Int):Tree :=
 .test (!(af a0_0==af (mk []))) (NL a1<|.loop Jy Hi [a1,a2,VI (IntKind.wrap .i64 ((a1.aP.length:Int)-1))] [.cells [VS a0_0,a0_1],.cells [VS (mk []),.v (.slice none 0 0)],.cells [.any,VI a3_1],.vec 1 e3_0] (fun y1 q1=>.aj ((q1.hO)=.cells (q1.hO).cs)<|.aj (ac [.lk .str,.lk .sl] ((q1.hO).cs) 0 q1.tail)<|.aj (((q1.tail.drop 0).hO)=.cells ((q1.tail.drop 0).hO).cs)<|.aj (ac [.lk .str,.lk .sl] (((q1.tail.drop 0).hO).cs) 0 ((q1.tail.drop 0).tail))<|.aj ((((q1.tail.drop 0).tail.drop 0).hO)=.cells (((q1.tail.drop 0).tail.drop 0).hO).cs)<|.aj (ac [.vec 1,.lk (.int .i64)] ((((q1.tail.drop 0).tail.drop 0).hO).cs) 0 (((q1.tail.drop 0).tail.drop 0).tail))<|.done 0 [.agg [VS (((q1.hO).cs.getD 0 .any).ag),((q1.hO).cs.getD 1 .any)]] [.cells [.vec 1,VI (((q1.tail.tail.hO).cs.getD 1 .any).toInt)],.vec 1 ((q1.tail.tail.tail.hO).es)]) (fun y1 q1=>.aj ((q1.hO)=.cells (q1.hO).cs)<|.aj (ac [.lk .str,.lk .sl] ((q1.hO).cs) 0 q1.tail)<|.aj (((q1.tail.drop 0).hO)=.cells ((q1.tail.drop 0).hO).cs)<|.aj (ac [.vec 1,.lk (.int .i64)] (((q1.tail.drop 0).hO).cs) 0 ((q1.tail.drop 0).tail))<|.done 0 [.agg [VS (((q1.hO).cs.getD 0 .any).ag),((q1.hO).cs.getD 1 .any)]] [.cells [.vec 1,VI (((q1.tail.hO).cs.getD 1 .any).toInt)],.vec 1 ((q1.tail.tail.hO).es)])) (.call 121 [.agg [VS a0_0,a0_1]] [] fun r2 o2=>NS r2<|.test (af r2.ag==af (mk [114,101,99])) (.call 142 [VI a3_1] [] fun r3 o3=>NS r3<|.aj (ae (mk [116])+ae r3.ag<=9223372036854775807)<|.loop KB G5 [a1,a2,VS (((mk [116]):ByteArray)++r3.ag)] [.cells [.any,VI a3_1],.vec 1 e3_0,.cells [VS a0_0,a0_1],.cells [VS (mk []),.v (.slice none 0 0)]] (fun y6 q6=>NL (y6.hA)<|NL (y6.tail.hA)<|NS (y6.tail.tail.hA)<|.aj ((q6.hO)=.cells (q6.hO).cs)<|.aj (ac [.vec 1,.lk (.int .i64)] ((q6.hO).cs) 0 q6.tail)<|.aj (((q6.tail.drop 1).hO)=.cells ((q6.tail.drop 1).hO).cs)<|.aj (ac [.lk .str,.lk .sl] (((q6.tail.drop 1).hO).cs) 0 ((q6.tail.drop 1).tail))<|.aj ((((q6.tail.drop 1).tail.drop 0).hO)=.cells (((q6.tail.drop 1).tail.drop 0).hO).cs)<|.aj (ac [.lk .str,.lk .sl] ((((q6.tail.drop 1).tail.drop 0).hO).cs) 0 (((q6.tail.drop 1).tail.drop 0).tail))<|NG ((q6.tail.tail.hO).cs.getD 1 .any) 2 2<|NE (((q6.tail.tail.hO).cs.getD 1 .any).ix (2:Int))<|NG ((q6.tail.tail.hO).cs.getD 1 .any) 1 2<|lg (((q6.tail.tail.hO).cs.getD 1 .any).ix (1:Int))<|.call 79 [(y6.hA),VS (((((q6.tail.tail.hO).cs.getD 1 .any).ix (1:Int)).hA).ag)] [] fun r7 o7=>.aj (r7=.vec 0/\(o7.hO)=.vec 1 (o7.hO).es)<|.aj (∀x,x∈o7->fA x)<|.call 79 [(y6.tail.hA),VS ((y6.tail.tail.hA).ag)] [] fun r8 o8=>.aj (r8=.vec 0/\(o8.hO)=.vec 1 (o8.hO).es)<|.aj (∀x,x∈o8->fA x)<|.call 143 [.agg [VS (((((q6.tail.tail.hO).cs.getD 1 .any).ix (2:Int)).getD 0 .any).ag),((((q6.tail.tail.hO).cs.getD 1 .any).ix (2:Int)).getD 1 .any)],.sl ((o7.hO).es),.sl ((o8.hO).es),.ref 0 0] [.cells [.vec 1,VI (IntKind.wrap .i64 ((((q6.hO).cs.getD 1 .any).toInt)+1))],.vec 1 ((q6.tail.hO).es)] fun r9 o9=>.aj ((o9.hO)=.cells (o9.hO).cs)<|.aj (aM [.vec 1,.lk (.int .i64)] ((o9.hO).cs) 0 1 o9.tail)<|NA r9<|.call 98 [VS (mk [114,101,99]),.sl [[VS ((y6.tail.tail.hA).ag),.v (.slice none 0 0)],[VS ((r9.cs.getD 0 .any).ag),(r9.cs.getD 1 .any)]]] [] fun r10 o10=>NA r10<|.done 0 [.agg [VS ((r10.cs.getD 0 .any).ag),(r10.cs.getD 1 .any)]] [.cells [.vec 1,VI (((o9.hO).cs.getD 1 .any).toInt)],.vec 1 ((o9.tail.hO).es)]) (fun y6 q6=>.aj ((q6.hO)=.cells (q6.hO).cs)<|.aj (ac [.vec 1,.lk (.int .i64)] ((q6.hO).cs) 0 q6.tail)<|.fail)) (NG a0_1 1 2<|NE (a0_1.ix (1:Int))<|.call 143 [.agg [VS (((a0_1.ix (1:Int)).getD 0 .any).ag),((a0_1.ix (1:Int)).getD 1 .any)],a1,a2,.ref 0 0] [.cells [.vec 1,VI a3_1],.vec 1 e3_0] fun r11 o11=>.aj ((o11.hO)=.cells (o11.hO).cs)<|.aj (aM [.vec 1,.lk (.int .i64)] ((o11.hO).cs) 0 1 o11.tail)<|NA r11<|.call 121 [.agg [VS a0_0,a0_1]] [] fun r12 o12=>NS r12<|NG a0_1 2 2<|NE (a0_1.ix (2:Int))<|.call 143 [.agg [VS (((a0_1.ix (2:Int)).getD 0 .any).ag),((a0_1.ix (2:Int)).getD 1 .any)],a1,a2,.ref 0 0] [.cells [.vec 1,VI (((o11.hO).cs.getD 1 .any).toInt)],.vec 1 ((o11.tail.hO).es)] fun r13 o13=>.aj ((o13.hO)=.cells (o13.hO).cs)<|.aj (aM [.vec 1,.lk (.int .i64)] ((o13.hO).cs) 0 1 o13.tail)<|NA r13<|.call 98 [VS r12.ag,.sl [[VS ((r11.cs.getD 0 .any).ag),(r11.cs.getD 1 .any)],[VS ((r13.cs.getD 0 .any).ag),(r13.cs.getD 1 .any)]]] [] fun r14 o14=>NA r14<|.done 0 [.agg [VS ((r14.cs.getD 0 .any).ag),(r14.cs.getD 1 .any)]] [.cells [.vec 1,VI (((o13.hO).cs.getD 1 .any).toInt)],.vec 1 ((o13.tail.hO).es)]))
theorem DW(a0_0:ByteArray)(a0_1:AV)(a1:AV)(a2:AV)(e3_0:List (List AV))(a3_1:Int)(ha0_1:LK.has .sl a0_1)(ha1:LK.has .sl a1)(ha2:LK.has .sl a2)(h:du 113 (Cc a0_0 a0_1 a1 a2 e3_0 a3_1) R):aq Tryz.prog 143 [.agg [VS a0_0,a0_1],a1,a2,.ref 0 0] [.cells [.vec 1,VI a3_1],.vec 1 e3_0] R :=
 aq.nK (bB (cc (ah (aA _) (ah (aA _) aD))) (bB (fW _) cw)) (aq.up (ah (ci (ah (aA _) (ah (bT ha0_1) aD))) (ah (bT ha1) (ah (bT ha2) (ah (aA _) aD)))) (oF Hz {mu:=[(3,.one (.obj [.vec 1,.lk (.int .i64)]))],own:=[]} Tryz.f143 h))
def F1(x1:AV)(x2:AV)(x9:Int)(o4_0:ByteArray)(o4_1:AV)(o8_0:ByteArray)(o8_1:AV)(o0_0:List (List AV))(o0_1:Int):Tree :=
 NL x1<|NL x2<|NI (VI x9)<|.aj (Ob.cells [VS o4_0,o4_1]=.cells [VS o4_0,o4_1])<|.aj (ac [.lk .str,.lk .sl] [VS o4_0,o4_1] 0 [.cells [VS o8_0,o8_1],.cells [.any,VI o0_1],.vec 1 o0_0])<|.aj (Ob.cells [VS o8_0,o8_1]=.cells [VS o8_0,o8_1])<|.aj (ac [.lk .str,.lk .sl] [VS o8_0,o8_1] 0 [.cells [.any,VI o0_1],.vec 1 o0_0])<|.aj (Ob.cells [.any,VI o0_1]=.cells [.any,VI o0_1])<|.aj (ac [.vec 1,.lk (.int .i64)] [.any,VI o0_1] 0 [.vec 1 o0_0])<|.test (decide (x9≥(0:Int))) (NG x1 x9 1<|lg (x1.ix x9)<|.test (af (((x1.ix x9).hA).ag)==af o4_0) (NG x2 x9 1<|lg (x2.ix x9)<|.done 2 [] [.cells [VS (((x2.ix x9).hA).ag),.v (.slice none 0 0)],.cells [.any,VI o0_1],.vec 1 o0_0]) (.done 0 [x1,x2,VI (IntKind.wrap .i64 (x9-1))] [.cells [VS o4_0,o4_1],.cells [VS o8_0,o8_1],.cells [.any,VI o0_1],.vec 1 o0_0])) (.done 1 [] [.cells [VS o4_0,o4_1],.cells [VS o8_0,o8_1],.cells [.any,VI o0_1],.vec 1 o0_0])
abbrev GF:=cy Tryz.prog 113 Jy Hi
theorem M4(x1:AV)(x2:AV)(x9:Int)(o4_0:ByteArray)(o4_1:AV)(o8_0:ByteArray)(o8_1:AV)(o0_0:List (List AV))(o0_1:Int)(h:kE 113 (F1 x1 x2 x9 o4_0 o4_1 o8_0 o8_1 o0_0 o0_1) GF U):GF [x1,x2,VI x9] [.cells [VS o4_0,o4_1],.cells [VS o8_0,o8_1],.cells [.any,VI o0_1],.vec 1 o0_0] U :=
 gQ Hz h
def KP(x1:AV)(x2:AV)(x10:ByteArray)(o0_0:List (List AV))(o0_1:Int)(o4_0:ByteArray)(o4_1:AV)(o8_0:ByteArray)(o8_1:AV):Tree :=
 NL x1<|NL x2<|NS (VS x10)<|.aj (Ob.cells [.any,VI o0_1]=.cells [.any,VI o0_1])<|.aj (ac [.vec 1,.lk (.int .i64)] [.any,VI o0_1] 0 [.vec 1 o0_0,.cells [VS o4_0,o4_1],.cells [VS o8_0,o8_1]])<|.aj (Ob.cells [VS o4_0,o4_1]=.cells [VS o4_0,o4_1])<|.aj (ac [.lk .str,.lk .sl] [VS o4_0,o4_1] 0 [.cells [VS o8_0,o8_1]])<|.aj (Ob.cells [VS o8_0,o8_1]=.cells [VS o8_0,o8_1])<|.aj (ac [.lk .str,.lk .sl] [VS o8_0,o8_1] 0 [])<|.call 169 [.sl o0_0,VS x10] [] fun r1 o1=>NB r1<|.test r1.toBool (.call 142 [VI (IntKind.wrap .i64 (o0_1+1))] [] fun r2 o2=>NS r2<|.aj (ae (mk [116])+ae r2.ag<=9223372036854775807)<|.done 0 [x1,x2,VS (((mk [116]):ByteArray)++r2.ag)] [.cells [.any,VI (IntKind.wrap .i64 (o0_1+1))],.vec 1 o0_0,.cells [VS o4_0,o4_1],.cells [VS o8_0,o8_1]]) (.done 1 [x1,x2,VS x10] [.cells [.any,VI o0_1],.vec 1 o0_0,.cells [VS o4_0,o4_1],.cells [VS o8_0,o8_1]])
abbrev Hq:=cy Tryz.prog 113 KB G5
theorem Ra(x1:AV)(x2:AV)(x10:ByteArray)(o0_0:List (List AV))(o0_1:Int)(o4_0:ByteArray)(o4_1:AV)(o8_0:ByteArray)(o8_1:AV)(h:kE 113 (KP x1 x2 x10 o0_0 o0_1 o4_0 o4_1 o8_0 o8_1) Hq U):Hq [x1,x2,VS x10] [.cells [.any,VI o0_1],.vec 1 o0_0,.cells [VS o4_0,o4_1],.cells [VS o8_0,o8_1]] U :=
 gQ Hz h
def Hj:LI:={hd:={bX:=[(0,.k .ptr),(1,.k .sl),(5,.k (.int .i64))]},xs:={bX:=[(0,.k .ptr)]},rt:={refs:=[(4,69)],co:=[(69,[.lk (.int .u8),.lk .str,.lk (.int .i64),.lk .ptr,.lk .ptr])]},ex:=1}
def Iw:Code:=cP (cH Tryz.f144) 7
def K8:List (Nat×LI):=[(7,Hj)]
def FA(a0:AV)(a1:AV):Tree :=
 NZ a0<|NZ a0<|.aj (LK.has .str (a0.deref.hA)/\1<=a0.deref.length)<|.test (af ((a0.deref.hA).ag)==af (mk [48])) (NZ a0<|NZ a0<|.aj (LK.has .str (a0.deref.hA)/\1<=a0.deref.length)<|.aj (0<=(0:Int)/\(0:Int)<ae ((a0.deref.hA).ag))<|.done 0 [.ptr [.v (.int .u8 (bt ((a0.deref.hA).ag) 0)),VS (mk []),VI 0,.v (.pointer none),.v (.pointer none)]] []) (NZ a0<|NZ a0<|.aj (LK.has .str (a0.deref.hA)/\1<=a0.deref.length)<|.test (af ((a0.deref.hA).ag)==af (mk [49])) (NZ a0<|NZ a0<|.aj (LK.has .str (a0.deref.hA)/\1<=a0.deref.length)<|.aj (0<=(0:Int)/\(0:Int)<ae ((a0.deref.hA).ag))<|.done 0 [.ptr [.v (.int .u8 (bt ((a0.deref.hA).ag) 0)),VS (mk []),VI 0,.v (.pointer none),.v (.pointer none)]] []) (NZ a0<|NZ a0<|.aj (LK.has .str (a0.deref.hA)/\1<=a0.deref.length)<|.call 173 [VS ((a0.deref.hA).ag)] [] fun r1 o1=>NB r1<|.test r1.toBool (NZ a0<|NZ a0<|.aj (LK.has .str (a0.deref.hA)/\1<=a0.deref.length)<|.done 0 [.ptr [.v (.int .u8 110),VS ((a0.deref.hA).ag),VI 0,.v (.pointer none),.v (.pointer none)]] []) (NZ a0<|NZ a0<|.aj (LK.has .str (a0.deref.hA)/\1<=a0.deref.length)<|.call 159 [VS ((a0.deref.hA).ag)] [] fun r2 o2=>NB r2<|.test r2.toBool (NL a1<|.loop Iw Hj [a0,a1,VI (IntKind.wrap .i64 ((a1.aP.length:Int)-1))] [] (fun y3 q3=>NP (y3.hA)<|NZ (y3.hA)<|NZ (y3.hA)<|.aj (LK.has .str ((y3.hA).deref.hA)/\1<=((y3.hA).deref).length)<|.done 0 [.ptr [.v (.int .u8 110),VS (((y3.hA).deref.hA).ag),VI 0,.v (.pointer none),.v (.pointer none)]] []) (fun y3 q3=>.aj ((q3.hO)=.cells (q3.hO).cs)<|.aj (ac [.lk (.int .u8),.lk .str,.lk (.int .i64),.lk .ptr,.lk .ptr] ((q3.hO).cs) 0 q3.tail)<|.done 0 [.ptr [.v (.int .u8 (((q3.hO).cs.getD 0 .any).toInt)),VS (((q3.hO).cs.getD 1 .any).ag),VI (((q3.hO).cs.getD 2 .any).toInt),((q3.hO).cs.getD 3 .any),((q3.hO).cs.getD 4 .any)]] [])) (.call 162 [a0,VS (mk [43]),VI 3] [] fun r4 o4=>NB r4<|.test r4.toBool (NZ a0<|NZ a0<|ot (a0.deref.drop 1)<|NG ((a0.deref.drop 1).hA) 1 1<|dT (((a0.deref.drop 1).hA).ix (1:Int))<|.call 144 [((((a0.deref.drop 1).hA).ix (1:Int)).hA),a1] [] fun r5 o5=>NP r5<|NZ a0<|NZ a0<|ot (a0.deref.drop 1)<|NG ((a0.deref.drop 1).hA) 2 1<|dT (((a0.deref.drop 1).hA).ix (2:Int))<|.call 144 [((((a0.deref.drop 1).hA).ix (2:Int)).hA),a1] [] fun r6 o6=>NP r6<|NP r5<|.test r5.isNil (.done 0 [.v (.pointer none)] []) (NP r6<|.test r6.isNil (.done 0 [.v (.pointer none)] []) (NZ a0<|NZ a0<|ot (a0.deref.drop 1)<|NG ((a0.deref.drop 1).hA) 0 1<|dT (((a0.deref.drop 1).hA).ix (0:Int))<|NZ ((((a0.deref.drop 1).hA).ix (0:Int)).hA)<|NZ ((((a0.deref.drop 1).hA).ix (0:Int)).hA)<|.aj (LK.has .str (((((a0.deref.drop 1).hA).ix (0:Int)).hA).deref.hA)/\1<=(((((a0.deref.drop 1).hA).ix (0:Int)).hA).deref).length)<|.aj (0<=(0:Int)/\(0:Int)<ae ((((((a0.deref.drop 1).hA).ix (0:Int)).hA).deref.hA).ag))<|.done 0 [.ptr [.v (.int .u8 (bt ((((((a0.deref.drop 1).hA).ix (0:Int)).hA).deref.hA).ag) 0)),VS (mk []),VI 0,r5,r6]] []))) (.call 162 [a0,VS (mk [42]),VI 3] [] fun r7 o7=>NB r7<|.test r7.toBool (NZ a0<|NZ a0<|ot (a0.deref.drop 1)<|NG ((a0.deref.drop 1).hA) 1 1<|dT (((a0.deref.drop 1).hA).ix (1:Int))<|.call 144 [((((a0.deref.drop 1).hA).ix (1:Int)).hA),a1] [] fun r8 o8=>NP r8<|NZ a0<|NZ a0<|ot (a0.deref.drop 1)<|NG ((a0.deref.drop 1).hA) 2 1<|dT (((a0.deref.drop 1).hA).ix (2:Int))<|.call 144 [((((a0.deref.drop 1).hA).ix (2:Int)).hA),a1] [] fun r9 o9=>NP r9<|NP r8<|.test r8.isNil (.done 0 [.v (.pointer none)] []) (NP r9<|.test r9.isNil (.done 0 [.v (.pointer none)] []) (NZ a0<|NZ a0<|ot (a0.deref.drop 1)<|NG ((a0.deref.drop 1).hA) 0 1<|dT (((a0.deref.drop 1).hA).ix (0:Int))<|NZ ((((a0.deref.drop 1).hA).ix (0:Int)).hA)<|NZ ((((a0.deref.drop 1).hA).ix (0:Int)).hA)<|.aj (LK.has .str (((((a0.deref.drop 1).hA).ix (0:Int)).hA).deref.hA)/\1<=(((((a0.deref.drop 1).hA).ix (0:Int)).hA).deref).length)<|.aj (0<=(0:Int)/\(0:Int)<ae ((((((a0.deref.drop 1).hA).ix (0:Int)).hA).deref.hA).ag))<|.done 0 [.ptr [.v (.int .u8 (bt ((((((a0.deref.drop 1).hA).ix (0:Int)).hA).deref.hA).ag) 0)),VS (mk []),VI 0,r8,r9]] []))) (.call 162 [a0,VS (mk [114,101,99]),VI 3] [] fun r10 o10=>NB r10<|.test r10.toBool (NZ a0<|NZ a0<|ot (a0.deref.drop 1)<|NG ((a0.deref.drop 1).hA) 1 1<|dT (((a0.deref.drop 1).hA).ix (1:Int))<|NZ ((((a0.deref.drop 1).hA).ix (1:Int)).hA)<|NZ ((((a0.deref.drop 1).hA).ix (1:Int)).hA)<|.aj (LK.has .str (((((a0.deref.drop 1).hA).ix (1:Int)).hA).deref.hA)/\1<=(((((a0.deref.drop 1).hA).ix (1:Int)).hA).deref).length)<|.call 159 [VS ((((((a0.deref.drop 1).hA).ix (1:Int)).hA).deref.hA).ag)] [] fun r11 o11=>NB r11<|.test r11.toBool (NZ a0<|NZ a0<|ot (a0.deref.drop 1)<|NG ((a0.deref.drop 1).hA) 2 1<|dT (((a0.deref.drop 1).hA).ix (2:Int))<|.aj (LK.has .sl a1/\cv 1 a1.aP/\((([]:List (List AV)).length)+a1.aP.length)*16<=140737488355328)<|NZ a0<|NZ a0<|ot (a0.deref.drop 1)<|NG ((a0.deref.drop 1).hA) 1 1<|dT (((a0.deref.drop 1).hA).ix (1:Int))<|NZ ((((a0.deref.drop 1).hA).ix (1:Int)).hA)<|NZ ((((a0.deref.drop 1).hA).ix (1:Int)).hA)<|.aj (LK.has .str (((((a0.deref.drop 1).hA).ix (1:Int)).hA).deref.hA)/\1<=(((((a0.deref.drop 1).hA).ix (1:Int)).hA).deref).length)<|.aj (cv 1 [[VS ((((((a0.deref.drop 1).hA).ix (1:Int)).hA).deref.hA).ag)]]/\(((([]:List (List AV))++a1.aP).length)+([[VS ((((((a0.deref.drop 1).hA).ix (1:Int)).hA).deref.hA).ag)]]:List (List AV)).length)*16<=140737488355328)<|.call 144 [((((a0.deref.drop 1).hA).ix (2:Int)).hA),.sl ((([]:List (List AV))++a1.aP)++([[VS ((((((a0.deref.drop 1).hA).ix (1:Int)).hA).deref.hA).ag)]]:List (List AV)))] [] fun r12 o12=>NP r12<|NP r12<|.test r12.isNil (.done 0 [.v (.pointer none)] []) (.done 0 [.ptr [.v (.int .u8 114),VS (mk []),VI 0,r12,.v (.pointer none)]] [])) (.done 0 [.v (.pointer none)] [])) (.done 0 [.v (.pointer none)] [])))))))
theorem JR(a0:AV)(a1:AV)(ha0:LK.has .ptr a0)(ha1:LK.has .sl a1)(h:du 160 (FA a0 a1) R):aq Tryz.prog 144 [a0,a1] [] R :=
 uQ (ah (bE ha0) (ah (bT ha1) aD)) (oQ K8 Tryz.f144 h)
def HA(x0:AV)(x1:AV)(x5:Int):Tree :=
 NP x0<|NL x1<|NI (VI x5)<|.test (decide (x5≥(0:Int))) (NG x1 x5 1<|lg (x1.ix x5)<|NZ x0<|NZ x0<|.aj (LK.has .str (x0.deref.hA)/\1<=x0.deref.length)<|.test (af (((x1.ix x5).hA).ag)==af ((x0.deref.hA).ag)) (NL x1<|.done 2 [] [.cells [.v (.int .u8 98),VS (mk []),VI (IntKind.wrap .i64 ((IntKind.wrap .i64 ((x1.aP.length:Int)-1))-x5)),.v (.pointer none),.v (.pointer none)]]) (.done 0 [x0,x1,VI (IntKind.wrap .i64 (x5-1))] [])) (.done 1 [x0] [])
abbrev HQ:=cy Tryz.prog 160 Iw Hj
theorem JI(x0:AV)(x1:AV)(x5:Int)(h:kE 160 (HA x0 x1 x5) HQ U):HQ [x0,x1,VI x5] [] U :=
 gQ K8 h
def En(a0:AV):Tree :=
 NZ a0<|NZ a0<|.aj (LK.has (.int .u8) (a0.deref.hA)/\1<=a0.deref.length)<|.test (((a0.deref.hA).toInt)==(43:Int)) (NZ a0<|NZ a0<|dT (a0.deref.drop 3)<|.call 145 [((a0.deref.drop 3).hA)] [] fun r1 o1=>NI r1<|NZ a0<|NZ a0<|dT (a0.deref.drop 4)<|.call 145 [((a0.deref.drop 4).hA)] [] fun r2 o2=>NI r2<|.done 0 [VI (IntKind.wrap .i64 ((IntKind.wrap .i64 (1+r1.toInt))+r2.toInt))] []) (.test (((a0.deref.hA).toInt)==(42:Int)) (NZ a0<|NZ a0<|dT (a0.deref.drop 3)<|.call 145 [((a0.deref.drop 3).hA)] [] fun r3 o3=>NI r3<|NZ a0<|NZ a0<|dT (a0.deref.drop 4)<|.call 145 [((a0.deref.drop 4).hA)] [] fun r4 o4=>NI r4<|.done 0 [VI (IntKind.wrap .i64 ((IntKind.wrap .i64 (1+r3.toInt))+r4.toInt))] []) (.test (((a0.deref.hA).toInt)==(114:Int)) (NZ a0<|NZ a0<|dT (a0.deref.drop 3)<|.call 145 [((a0.deref.drop 3).hA)] [] fun r5 o5=>NI r5<|.done 0 [VI (IntKind.wrap .i64 (2+r5.toInt))] []) (.done 0 [VI 1] [])))
theorem w6(a0:AV)(ha0:LK.has .ptr a0)(h:du 30 (En a0) R):aq Tryz.prog 145 [a0] [] R :=
 uQ (ah (bE ha0) aD) (oQ [] Tryz.f145 h)
def Ja(a0_0:Int)(a0_1:Bool):Tree :=
 .call 174 [VI (IntKind.wrap .i64 (a0_0+1))] [] fun r1 o1=>NS r1<|.aj (ae (mk [35])+ae r1.ag<=9223372036854775807)<|.done 0 [VS (((mk [35]):ByteArray)++r1.ag)] [.cells [VI (IntKind.wrap .i64 (a0_0+1)),VB a0_1]]
theorem O4(a0_0:Int)(a0_1:Bool)(h:du 16 (Ja a0_0 a0_1) R):aq Tryz.prog 146 [.ref 0 0] [.cells [VI a0_0,VB a0_1]] R :=
 aq.nK (bB (cc (ah (aA _) (ah (Gb _) aD))) cw) (aq.up (ah (aA _) aD) (oF [] {mu:=[(0,.one (.obj [.lk (.int .i64),.lk .bool]))],own:=[]} Tryz.f146 h))
def IR(a0_0:Int)(a0_1:Bool)(a1:AV):Tree :=
 .test a0_1 (.done 0 [.ptr [.v (.int .u8 48),VS (mk []),VI 0,.v (.pointer none),.v (.pointer none)]] [.cells [VI a0_0,VB true]]) (.call 145 [a1] [] fun r1 o1=>NI r1<|.test (decide (r1.toInt>(400:Int))) (.done 0 [.ptr [.v (.int .u8 48),VS (mk []),VI 0,.v (.pointer none),.v (.pointer none)]] [.cells [VI a0_0,VB true]]) (.done 0 [a1] [.cells [VI a0_0,VB a0_1]]))
theorem PF(a0_0:Int)(a0_1:Bool)(a1:AV)(ha1:LK.has .ptr a1)(h:du 20 (IR a0_0 a0_1 a1) R):aq Tryz.prog 147 [.ref 0 0,a1] [.cells [VI a0_0,VB a0_1]] R :=
 aq.nK (bB (cc (ah (aA _) (ah (Gb _) aD))) cw) (aq.up (ah (aA _) (ah (bE ha1) aD)) (oF [] {mu:=[(0,.one (.obj [.lk (.int .i64),.lk .bool]))],own:=[]} Tryz.f147 h))
def DK(a0_0:Int)(a0_1:Bool)(a1:AV)(a2:ByteArray):Tree :=
 .test a0_1 (.done 0 [.ptr [.v (.int .u8 48),VS (mk []),VI 0,.v (.pointer none),.v (.pointer none)]] [.cells [VI a0_0,VB a0_1]]) (NZ a1<|NZ a1<|.aj (LK.has (.int .u8) (a1.deref.hA)/\1<=a1.deref.length)<|.test (((a1.deref.hA).toInt)==(110:Int)) (NZ a1<|NZ a1<|lg (a1.deref.drop 1)<|.test (af (((a1.deref.drop 1).hA).ag)==af a2) (.done 0 [.ptr [.v (.int .u8 49),VS (mk []),VI 0,.v (.pointer none),.v (.pointer none)]] [.cells [VI a0_0,VB a0_1]]) (.done 0 [.ptr [.v (.int .u8 48),VS (mk []),VI 0,.v (.pointer none),.v (.pointer none)]] [.cells [VI a0_0,VB a0_1]])) (.test (((a1.deref.hA).toInt)==(43:Int)) (NZ a1<|NZ a1<|dT (a1.deref.drop 3)<|.call 148 [.ref 0 0,((a1.deref.drop 3).hA),VS a2] [.cells [VI a0_0,VB a0_1]] fun r1 o1=>.aj ((o1.hO)=.cells (o1.hO).cs)<|.aj (aM [.lk (.int .i64),.lk .bool] ((o1.hO).cs) 0 1 o1.tail)<|NP r1<|NZ a1<|NZ a1<|dT (a1.deref.drop 4)<|.call 148 [.ref 0 0,((a1.deref.drop 4).hA),VS a2] [.cells [VI (((o1.hO).cs.getD 0 .any).toInt),VB (((o1.hO).cs.getD 1 .any).toBool)]] fun r2 o2=>.aj ((o2.hO)=.cells (o2.hO).cs)<|.aj (aM [.lk (.int .i64),.lk .bool] ((o2.hO).cs) 0 1 o2.tail)<|NP r2<|.call 175 [.v (.int .u8 43),r1,r2] [] fun r3 o3=>NP r3<|.call 147 [.ref 0 0,r3] [.cells [VI (((o2.hO).cs.getD 0 .any).toInt),VB (((o2.hO).cs.getD 1 .any).toBool)]] fun r4 o4=>.aj ((o4.hO)=.cells (o4.hO).cs)<|.aj (aM [.lk (.int .i64),.lk .bool] ((o4.hO).cs) 0 1 o4.tail)<|NP r4<|.done 0 [r4] [.cells [VI (((o4.hO).cs.getD 0 .any).toInt),VB (((o4.hO).cs.getD 1 .any).toBool)]]) (.test (((a1.deref.hA).toInt)==(42:Int)) (NZ a1<|NZ a1<|dT (a1.deref.drop 3)<|.call 148 [.ref 0 0,((a1.deref.drop 3).hA),VS a2] [.cells [VI a0_0,VB a0_1]] fun r5 o5=>.aj ((o5.hO)=.cells (o5.hO).cs)<|.aj (aM [.lk (.int .i64),.lk .bool] ((o5.hO).cs) 0 1 o5.tail)<|NP r5<|NZ a1<|NZ a1<|dT (a1.deref.drop 4)<|.call 175 [.v (.int .u8 42),r5,((a1.deref.drop 4).hA)] [] fun r6 o6=>NP r6<|NZ a1<|NZ a1<|dT (a1.deref.drop 3)<|NZ a1<|NZ a1<|dT (a1.deref.drop 4)<|.call 148 [.ref 0 0,((a1.deref.drop 4).hA),VS a2] [.cells [VI (((o5.hO).cs.getD 0 .any).toInt),VB (((o5.hO).cs.getD 1 .any).toBool)]] fun r7 o7=>.aj ((o7.hO)=.cells (o7.hO).cs)<|.aj (aM [.lk (.int .i64),.lk .bool] ((o7.hO).cs) 0 1 o7.tail)<|NP r7<|.call 175 [.v (.int .u8 42),((a1.deref.drop 3).hA),r7] [] fun r8 o8=>NP r8<|.call 175 [.v (.int .u8 43),r6,r8] [] fun r9 o9=>NP r9<|.call 147 [.ref 0 0,r9] [.cells [VI (((o7.hO).cs.getD 0 .any).toInt),VB (((o7.hO).cs.getD 1 .any).toBool)]] fun r10 o10=>.aj ((o10.hO)=.cells (o10.hO).cs)<|.aj (aM [.lk (.int .i64),.lk .bool] ((o10.hO).cs) 0 1 o10.tail)<|NP r10<|.done 0 [r10] [.cells [VI (((o10.hO).cs.getD 0 .any).toInt),VB (((o10.hO).cs.getD 1 .any).toBool)]]) (.test (((a1.deref.hA).toInt)==(114:Int)) (.call 146 [.ref 0 0] [.cells [VI a0_0,VB a0_1]] fun r11 o11=>.aj ((o11.hO)=.cells (o11.hO).cs)<|.aj (aM [.lk (.int .i64),.lk .bool] ((o11.hO).cs) 0 1 o11.tail)<|NS r11<|NZ a1<|NZ a1<|dT (a1.deref.drop 3)<|.call 149 [((a1.deref.drop 3).hA),.ptr [.v (.int .u8 110),VS r11.ag,VI 0,.v (.pointer none),.v (.pointer none)],VI 0] [] fun r12 o12=>NP r12<|.call 148 [.ref 0 0,r12,VS a2] [.cells [VI (((o11.hO).cs.getD 0 .any).toInt),VB (((o11.hO).cs.getD 1 .any).toBool)]] fun r13 o13=>.aj ((o13.hO)=.cells (o13.hO).cs)<|.aj (aM [.lk (.int .i64),.lk .bool] ((o13.hO).cs) 0 1 o13.tail)<|NP r13<|.call 147 [.ref 0 0,r13] [.cells [VI (((o13.hO).cs.getD 0 .any).toInt),VB (((o13.hO).cs.getD 1 .any).toBool)]] fun r14 o14=>.aj ((o14.hO)=.cells (o14.hO).cs)<|.aj (aM [.lk (.int .i64),.lk .bool] ((o14.hO).cs) 0 1 o14.tail)<|NP r14<|.call 150 [r14,VS r11.ag,a1] [] fun r15 o15=>NP r15<|.call 148 [.ref 0 0,r12,VS r11.ag] [.cells [VI (((o14.hO).cs.getD 0 .any).toInt),VB (((o14.hO).cs.getD 1 .any).toBool)]] fun r16 o16=>.aj ((o16.hO)=.cells (o16.hO).cs)<|.aj (aM [.lk (.int .i64),.lk .bool] ((o16.hO).cs) 0 1 o16.tail)<|NP r16<|.call 147 [.ref 0 0,r16] [.cells [VI (((o16.hO).cs.getD 0 .any).toInt),VB (((o16.hO).cs.getD 1 .any).toBool)]] fun r17 o17=>.aj ((o17.hO)=.cells (o17.hO).cs)<|.aj (aM [.lk (.int .i64),.lk .bool] ((o17.hO).cs) 0 1 o17.tail)<|NP r17<|.call 150 [r17,VS r11.ag,a1] [] fun r18 o18=>NP r18<|.call 175 [.v (.int .u8 42),r18,.ptr [.v (.int .u8 98),VS (mk []),VI 0,.v (.pointer none),.v (.pointer none)]] [] fun r19 o19=>NP r19<|.call 175 [.v (.int .u8 43),r15,r19] [] fun r20 o20=>NP r20<|.call 147 [.ref 0 0,.ptr [.v (.int .u8 114),VS (mk []),VI 0,r20,.v (.pointer none)]] [.cells [VI (((o17.hO).cs.getD 0 .any).toInt),VB (((o17.hO).cs.getD 1 .any).toBool)]] fun r21 o21=>.aj ((o21.hO)=.cells (o21.hO).cs)<|.aj (aM [.lk (.int .i64),.lk .bool] ((o21.hO).cs) 0 1 o21.tail)<|NP r21<|.done 0 [r21] [.cells [VI (((o21.hO).cs.getD 0 .any).toInt),VB (((o21.hO).cs.getD 1 .any).toBool)]]) (.done 0 [.ptr [.v (.int .u8 48),VS (mk []),VI 0,.v (.pointer none),.v (.pointer none)]] [.cells [VI a0_0,VB a0_1]])))))
theorem NO(a0_0:Int)(a0_1:Bool)(a1:AV)(a2:ByteArray)(ha1:LK.has .ptr a1)(h:du 121 (DK a0_0 a0_1 a1 a2) R):aq Tryz.prog 148 [.ref 0 0,a1,VS a2] [.cells [VI a0_0,VB a0_1]] R :=
 aq.nK (bB (cc (ah (aA _) (ah (Gb _) aD))) cw) (aq.up (ah (aA _) (ah (bE ha1) (ah (aA _) aD))) (oF [] {mu:=[(0,.one (.obj [.lk (.int .i64),.lk .bool]))],own:=[]} Tryz.f148 h))
def EJ(a0:AV)(a1:AV)(a2:Int):Tree :=
 NZ a0<|NZ a0<|.aj (LK.has (.int .u8) (a0.deref.hA)/\1<=a0.deref.length)<|.test (((a0.deref.hA).toInt)==(98:Int)) (NZ a0<|NZ a0<|.aj (LK.has (.int .i64) ((a0.deref.drop 2).hA)/\1<=(a0.deref.drop 2).length)<|.test ((((a0.deref.drop 2).hA).toInt)==a2) (.done 0 [a1] []) (.done 0 [a0] [])) (.test (((a0.deref.hA).toInt)==(43:Int)) (NZ a0<|NZ a0<|.aj (LK.has (.int .u8) (a0.deref.hA)/\1<=a0.deref.length)<|NZ a0<|NZ a0<|dT (a0.deref.drop 3)<|.call 149 [((a0.deref.drop 3).hA),a1,VI a2] [] fun r1 o1=>NP r1<|NZ a0<|NZ a0<|dT (a0.deref.drop 4)<|.call 149 [((a0.deref.drop 4).hA),a1,VI a2] [] fun r2 o2=>NP r2<|.done 0 [.ptr [.v (.int .u8 ((a0.deref.hA).toInt)),VS (mk []),VI 0,r1,r2]] []) (.test (((a0.deref.hA).toInt)==(42:Int)) (NZ a0<|NZ a0<|.aj (LK.has (.int .u8) (a0.deref.hA)/\1<=a0.deref.length)<|NZ a0<|NZ a0<|dT (a0.deref.drop 3)<|.call 149 [((a0.deref.drop 3).hA),a1,VI a2] [] fun r3 o3=>NP r3<|NZ a0<|NZ a0<|dT (a0.deref.drop 4)<|.call 149 [((a0.deref.drop 4).hA),a1,VI a2] [] fun r4 o4=>NP r4<|.done 0 [.ptr [.v (.int .u8 ((a0.deref.hA).toInt)),VS (mk []),VI 0,r3,r4]] []) (.test (((a0.deref.hA).toInt)==(114:Int)) (NZ a0<|NZ a0<|dT (a0.deref.drop 3)<|.call 149 [((a0.deref.drop 3).hA),a1,VI (IntKind.wrap .i64 (a2+1))] [] fun r5 o5=>NP r5<|.done 0 [.ptr [.v (.int .u8 114),VS (mk []),VI 0,r5,.v (.pointer none)]] []) (.done 0 [a0] []))))
theorem wJ(a0:AV)(a1:AV)(a2:Int)(ha0:LK.has .ptr a0)(ha1:LK.has .ptr a1)(h:du 56 (EJ a0 a1 a2) R):aq Tryz.prog 149 [a0,a1,VI a2] [] R :=
 uQ (ah (bE ha0) (ah (bE ha1) (ah (aA _) aD))) (oQ [] Tryz.f149 h)
def EL(a0:AV)(a1:ByteArray)(a2:AV):Tree :=
 NZ a0<|NZ a0<|.aj (LK.has (.int .u8) (a0.deref.hA)/\1<=a0.deref.length)<|.test (((a0.deref.hA).toInt)==(110:Int)) (NZ a0<|NZ a0<|lg (a0.deref.drop 1)<|.test (af (((a0.deref.drop 1).hA).ag)==af a1) (.done 0 [a2] []) (.done 0 [a0] [])) (.test (((a0.deref.hA).toInt)==(43:Int)) (NZ a0<|NZ a0<|.aj (LK.has (.int .u8) (a0.deref.hA)/\1<=a0.deref.length)<|NZ a0<|NZ a0<|dT (a0.deref.drop 3)<|.call 150 [((a0.deref.drop 3).hA),VS a1,a2] [] fun r1 o1=>NP r1<|NZ a0<|NZ a0<|dT (a0.deref.drop 4)<|.call 150 [((a0.deref.drop 4).hA),VS a1,a2] [] fun r2 o2=>NP r2<|.done 0 [.ptr [.v (.int .u8 ((a0.deref.hA).toInt)),VS (mk []),VI 0,r1,r2]] []) (.test (((a0.deref.hA).toInt)==(42:Int)) (NZ a0<|NZ a0<|.aj (LK.has (.int .u8) (a0.deref.hA)/\1<=a0.deref.length)<|NZ a0<|NZ a0<|dT (a0.deref.drop 3)<|.call 150 [((a0.deref.drop 3).hA),VS a1,a2] [] fun r3 o3=>NP r3<|NZ a0<|NZ a0<|dT (a0.deref.drop 4)<|.call 150 [((a0.deref.drop 4).hA),VS a1,a2] [] fun r4 o4=>NP r4<|.done 0 [.ptr [.v (.int .u8 ((a0.deref.hA).toInt)),VS (mk []),VI 0,r3,r4]] []) (.test (((a0.deref.hA).toInt)==(114:Int)) (NZ a0<|NZ a0<|dT (a0.deref.drop 3)<|.call 150 [((a0.deref.drop 3).hA),VS a1,a2] [] fun r5 o5=>NP r5<|.done 0 [.ptr [.v (.int .u8 114),VS (mk []),VI 0,r5,.v (.pointer none)]] []) (.done 0 [a0] []))))
theorem wQ(a0:AV)(a1:ByteArray)(a2:AV)(ha0:LK.has .ptr a0)(ha2:LK.has .ptr a2)(h:du 55 (EL a0 a1 a2) R):aq Tryz.prog 150 [a0,VS a1,a2] [] R :=
 uQ (ah (bE ha0) (ah (aA _) (ah (bE ha2) aD))) (oQ [] Tryz.f150 h)
def M7(a0:AV):Tree :=
 .call 158 [a0] [] fun r1 o1=>NL r1<|.call 176 [a0,.v (.slice none 0 0),.gH 176 [none,some 0,some 1],.ref 0 0,.ref 1 0] [.cells [r1],.cells [VI 0]] fun r2 o2=>.aj ((o2.hO)=.cells (o2.hO).cs)<|.aj (aM [.lk .sl] ((o2.hO).cs) 0 1 o2.tail)<|.aj ((o2.tail.hO)=.cells (o2.tail.hO).cs)<|.aj (aM [.lk (.int .i64)] ((o2.tail.hO).cs) 0 2 o2.tail.tail)<|NS r2<|.done 0 [VS r2.ag] []
theorem Ou(a0:AV)(ha0:LK.has .ptr a0)(h:du 12 (M7 a0) R):aq Tryz.prog 151 [a0] [] R :=
 uQ (ah (bE ha0) aD) (oQ [] Tryz.f151 h)
def He:LI:={hd:={bX:=[(0,.k .str),(1,.k (.int .i64)),(9,.k (.int .i64))],refs:=[(6,6),(8,8)],co:=[(6,[.lk .str,.lk .sl]),(8,[.lk .str,.lk .sl])]},xs:={bX:=[(0,.k .str),(1,.k (.int .i64)),(9,.k (.int .i64))],refs:=[(6,6),(8,8)],co:=[(6,[.lk .str,.lk .sl]),(8,[.lk .str,.lk .sl])]},rt:={},ex:=0}
def K5:Code:=cP (cH Tryz.f152) 6
def Hw:LI:={hd:={bX:=[(0,.k .str),(1,.k (.int .i64)),(2,.k (.int .i64))],refs:=[(6,6),(8,8)],co:=[(6,[.lk .str,.lk .sl]),(8,[.lk .str,.vec 2])]},xs:={},rt:={bX:=[(7,.k (.int .i64))],refs:=[(6,6)],co:=[(6,[.lk .str,.vec 2])]},ex:=999}
def Ke:Code:=cP (cH Tryz.f152) 12
def FU:List (Nat×LI):=[(6,He),(12,Hw)]
def GC(a0:ByteArray)(a1:Int)(a2:Int):Tree :=
 .test (decide (a2>(300:Int))) (.done 0 [.cD [.agg [VS (mk []),.v (.slice none 0 0)],VI (-1)]] []) (.test (decide (a1≥(ae a0:Int))) (.done 0 [.cD [.agg [VS (mk []),.v (.slice none 0 0)],VI (-1)]] []) (.aj (0<=a1/\a1<ae a0)<|.test ((bt a0 a1) != (40:Int)) (.loop K5 He [VS a0,VI a1,VI a1] [.cells [VS (mk []),.v (.slice none 0 0)],.cells [VS (mk []),.v (.slice none 0 0)]] (fun y2 q2=>NS (y2.hA)<|NI (y2.tail.hA)<|NI (y2.tail.tail.hA)<|.aj ((q2.hO)=.cells (q2.hO).cs)<|.aj (ac [.lk .str,.lk .sl] ((q2.hO).cs) 0 q2.tail)<|.aj (((q2.tail.drop 0).hO)=.cells ((q2.tail.drop 0).hO).cs)<|.aj (ac [.lk .str,.lk .sl] (((q2.tail.drop 0).hO).cs) 0 ((q2.tail.drop 0).tail))<|.aj (0<=((y2.tail.tail.hA).toInt)/\((y2.tail.tail.hA).toInt)<=((y2.tail.hA).toInt)/\((y2.tail.hA).toInt)<=(ae ((y2.hA).ag):Int))<|.test (af (ck ((y2.hA).ag) (bI ((y2.tail.tail.hA).toInt)) (bI ((y2.tail.hA).toInt)))==af (mk [])) (.done 0 [.cD [.agg [VS (ck ((y2.hA).ag) (bI ((y2.tail.tail.hA).toInt)) (bI ((y2.tail.hA).toInt))),((q2.tail.hO).cs.getD 1 .any)],VI (-1)]] []) (.done 0 [.cD [.agg [VS (ck ((y2.hA).ag) (bI ((y2.tail.tail.hA).toInt)) (bI ((y2.tail.hA).toInt))),((q2.tail.hO).cs.getD 1 .any)],VI ((y2.tail.hA).toInt)]] [])) (fun y2 q2=>.fail)) (.loop Ke Hw [VS a0,VI a1,VI a2] [.cells [VS (mk []),.v (.slice none 0 0)],.cells [VS (mk []),.any],.vec 2 []] (fun y5 q5=>.fail) (fun y5 q5=>NI (y5.hA)<|.aj ((q5.hO)=.cells (q5.hO).cs)<|.aj (ac [.lk .str,.vec 2] ((q5.hO).cs) 0 q5.tail)<|.done 0 [.cD [.agg [VS (((q5.hO).cs.getD 0 .any).ag),.sl ((q5.tail.hO).es)],VI ((y5.hA).toInt)]] []))))
theorem JT(a0:ByteArray)(a1:Int)(a2:Int)(h:du 87 (GC a0 a1 a2) R):aq Tryz.prog 152 [VS a0,VI a1,VI a2] [] R :=
 uQ (ah (aA _) (ah (aA _) (ah (aA _) aD))) (oQ FU Tryz.f152 h)
def Gj(x0:ByteArray)(x1:Int)(x9:Int)(o6_0:ByteArray)(o6_1:AV)(o8_0:ByteArray)(o8_1:AV):Tree :=
 NS (VS x0)<|NI (VI x1)<|NI (VI x9)<|.aj (Ob.cells [VS o6_0,o6_1]=.cells [VS o6_0,o6_1])<|.aj (ac [.lk .str,.lk .sl] [VS o6_0,o6_1] 0 [.cells [VS o8_0,o8_1]])<|.aj (Ob.cells [VS o8_0,o8_1]=.cells [VS o8_0,o8_1])<|.aj (ac [.lk .str,.lk .sl] [VS o8_0,o8_1] 0 [])<|.test (decide (x1<(ae x0:Int))) (.aj (0<=x1/\x1<ae x0)<|.call 178 [.v (.int .u8 (bt x0 x1))] [] fun r1 o1=>NB r1<|.test r1.toBool (.done 0 [VS x0,VI (IntKind.wrap .i64 (x1+1)),VI x9] [.cells [VS o6_0,o6_1],.cells [VS o8_0,o8_1]]) (.done 1 [VS x0,VI x1,VI x9] [.cells [VS o6_0,o6_1],.cells [VS o8_0,o8_1]])) (.done 1 [VS x0,VI x1,VI x9] [.cells [VS o6_0,o6_1],.cells [VS o8_0,o8_1]])
abbrev FW:=cy Tryz.prog 87 K5 He
theorem MF(x0:ByteArray)(x1:Int)(x9:Int)(o6_0:ByteArray)(o6_1:AV)(o8_0:ByteArray)(o8_1:AV)(h:kE 87 (Gj x0 x1 x9 o6_0 o6_1 o8_0 o8_1) FW U):FW [VS x0,VI x1,VI x9] [.cells [VS o6_0,o6_1],.cells [VS o8_0,o8_1]] U :=
 gQ FU h
def KT(x0:ByteArray)(x1:Int)(x2:Int)(o6_0:ByteArray)(o6_1:AV)(o8_0:ByteArray)(o8_1:List (List AV)):Tree :=
 NS (VS x0)<|NI (VI x1)<|NI (VI x2)<|.aj (Ob.cells [VS o6_0,o6_1]=.cells [VS o6_0,o6_1])<|.aj (ac [.lk .str,.lk .sl] [VS o6_0,o6_1] 0 [.cells [VS o8_0,.any],.vec 2 o8_1])<|.aj (Ob.cells [VS o8_0,.any]=.cells [VS o8_0,.any])<|.aj (ac [.lk .str,.vec 2] [VS o8_0,.any] 0 [.vec 2 o8_1])<|.call 152 [VS x0,VI (IntKind.wrap .i64 (x1+1)),VI (IntKind.wrap .i64 (x2+1))] [] fun r1 o1=>NT r1<|.aj ((r1.comp 0)=.agg (r1.comp 0).cs/\(r1.comp 0).cs.length=2/\bH [.str,.sl] ((r1.comp 0).cs) 0)<|NI (r1.comp 1)<|.test (decide (((r1.comp 1).toInt)<(0:Int))) (.done 2 [VI (-1)] [.cells [VS o8_0,.any],.vec 2 o8_1]) (.test (decide (((r1.comp 1).toInt)≥(ae x0:Int))) (.done 2 [VI (-1)] [.cells [VS o8_0,.any],.vec 2 o8_1]) (.aj (cv 2 [[VS (((r1.comp 0).cs.getD 0 .any).ag),((r1.comp 0).cs.getD 1 .any)]]/\((o8_1.length)+([[VS (((r1.comp 0).cs.getD 0 .any).ag),((r1.comp 0).cs.getD 1 .any)]]:List (List AV)).length)*40<=140737488355328)<|.aj (0<=((r1.comp 1).toInt)/\((r1.comp 1).toInt)<ae x0)<|.test ((bt x0 ((r1.comp 1).toInt))==(41:Int)) (.done 2 [VI (IntKind.wrap .i64 (((r1.comp 1).toInt)+1))] [.cells [VS o8_0,.any],.vec 2 (o8_1++([[VS (((r1.comp 0).cs.getD 0 .any).ag),((r1.comp 0).cs.getD 1 .any)]]:List (List AV)))]) (.aj (0<=((r1.comp 1).toInt)/\((r1.comp 1).toInt)<ae x0)<|.test ((bt x0 ((r1.comp 1).toInt)) != (32:Int)) (.done 2 [VI (-1)] [.cells [VS o8_0,.any],.vec 2 (o8_1++([[VS (((r1.comp 0).cs.getD 0 .any).ag),((r1.comp 0).cs.getD 1 .any)]]:List (List AV)))]) (.done 0 [VS x0,VI ((r1.comp 1).toInt),VI x2] [.cells [VS o6_0,o6_1],.cells [VS o8_0,.any],.vec 2 (o8_1++([[VS (((r1.comp 0).cs.getD 0 .any).ag),((r1.comp 0).cs.getD 1 .any)]]:List (List AV)))]))))
abbrev G8:=cy Tryz.prog 87 Ke Hw
theorem QD(x0:ByteArray)(x1:Int)(x2:Int)(o6_0:ByteArray)(o6_1:AV)(o8_0:ByteArray)(o8_1:List (List AV))(h:kE 87 (KT x0 x1 x2 o6_0 o6_1 o8_0 o8_1) G8 U):G8 [VS x0,VI x1,VI x2] [.cells [VS o6_0,o6_1],.cells [VS o8_0,.any],.vec 2 o8_1] U :=
 gQ FU h
def B4:LI:={hd:={bX:=[(0,.k .str),(3,.k (.int .i64)),(4,.k (.int .i64))]},xs:={bX:=[(3,.k (.int .i64))]},rt:={bX:=[(2,.k (.int .i64))]},ex:=0}
def D6:Code:=cP (cH Tryz.f153) 5
def JK:List (Nat×LI):=[(5,B4)]
def M8(a0:ByteArray):Tree :=
 .call 56 [VI (ae a0:Int),VI 2,VI 3] [] fun r1 o1=>NB r1<|.test (!r1.toBool) (.done 0 [VI (-1)] []) (.aj (0<=(0:Int)/\(0:Int)<ae a0)<|.test ((bt a0 0) != (101:Int)) (.done 0 [VI (-1)] []) (.test ((ae a0:Int)==(3:Int)) (.aj (0<=(1:Int)/\(1:Int)<ae a0)<|.test ((bt a0 1)==(48:Int)) (.done 0 [VI (-1)] []) (.loop D6 B4 [VS a0,VI 0,VI 1] [] (fun y2 q2=>NI (y2.hA)<|.done 0 [VI ((y2.hA).toInt)] []) (fun y2 q2=>NI (y2.hA)<|.done 0 [VI ((y2.hA).toInt)] []))) (.loop D6 B4 [VS a0,VI 0,VI 1] [] (fun y3 q3=>NI (y3.hA)<|.done 0 [VI ((y3.hA).toInt)] []) (fun y3 q3=>NI (y3.hA)<|.done 0 [VI ((y3.hA).toInt)] []))))
theorem PS(a0:ByteArray)(h:du 49 (M8 a0) R):aq Tryz.prog 153 [VS a0] [] R :=
 uQ (ah (aA _) aD) (oQ JK Tryz.f153 h)
def Fj(x0:ByteArray)(x3:Int)(x4:Int):Tree :=
 NS (VS x0)<|NI (VI x3)<|NI (VI x4)<|.test (decide (x4<(ae x0:Int))) (.aj (0<=x4/\x4<ae x0)<|.test (decide ((bt x0 x4)<(48:Int))) (.done 2 [VI (-1)] []) (.aj (0<=x4/\x4<ae x0)<|.test (decide ((bt x0 x4)>(57:Int))) (.done 2 [VI (-1)] []) (.aj (0<=x4/\x4<ae x0)<|.done 0 [VS x0,VI (IntKind.wrap .i64 ((IntKind.wrap .i64 (10*x3))+(IntKind.wrap .i64 (IntKind.wrap .u8 ((bt x0 x4)-48))))),VI (IntKind.wrap .i64 (x4+1))] []))) (.done 1 [VI x3] [])
abbrev H5:=cy Tryz.prog 49 D6 B4
theorem MP(x0:ByteArray)(x3:Int)(x4:Int)(h:kE 49 (Fj x0 x3 x4) H5 U):H5 [VS x0,VI x3,VI x4] [] U :=
 gQ JK h
def GX:LI:={hd:={bX:=[(1,.k .sl),(6,.k (.int .i64))],refs:=[(2,2),(4,4)],co:=[(2,[.lk .str,.lk .sl]),(4,[.lk .str,.lk .sl])]},xs:={bX:=[(1,.k .sl)],refs:=[(2,2),(4,4)],co:=[(2,[.lk .str,.lk .sl]),(4,[.lk .str,.lk .sl])]},rt:={bX:=[(5,.k .sl)],refs:=[(4,4)],co:=[(4,[.lk .str,.lk .sl])]},ex:=0}
def Jp:Code:=cP (cH Tryz.f154) 2
def Mp:List (Nat×LI):=[(2,GX)]
def JH(a0_0:ByteArray)(a0_1:AV)(a1:AV):Tree :=
 NL a1<|.loop Jp GX [a1,VI (IntKind.wrap .i64 ((a1.aP.length:Int)-1))] [.cells [VS a0_0,a0_1],.cells [VS (mk []),.v (.slice none 0 0)]] (fun y1 q1=>NL (y1.hA)<|.aj ((q1.hO)=.cells (q1.hO).cs)<|.aj (ac [.lk .str,.lk .sl] ((q1.hO).cs) 0 q1.tail)<|.aj (((q1.tail.drop 0).hO)=.cells ((q1.tail.drop 0).hO).cs)<|.aj (ac [.lk .str,.lk .sl] (((q1.tail.drop 0).hO).cs) 0 ((q1.tail.drop 0).tail))<|.done 0 [.cD [.agg [VS (((q1.hO).cs.getD 0 .any).ag),((q1.hO).cs.getD 1 .any)],(y1.hA)]] []) (fun y1 q1=>NL (y1.hA)<|.aj ((q1.hO)=.cells (q1.hO).cs)<|.aj (ac [.lk .str,.lk .sl] ((q1.hO).cs) 0 q1.tail)<|.done 0 [.cD [.agg [VS (((q1.hO).cs.getD 0 .any).ag),((q1.hO).cs.getD 1 .any)],(y1.hA)]] [])
theorem RH(a0_0:ByteArray)(a0_1:AV)(a1:AV)(ha0_1:LK.has .sl a0_1)(ha1:LK.has .sl a1)(h:du 34 (JH a0_0 a0_1 a1) R):aq Tryz.prog 154 [.agg [VS a0_0,a0_1],a1] [] R :=
 uQ (ah (ci (ah (aA _) (ah (bT ha0_1) aD))) (ah (bT ha1) aD)) (oQ Mp Tryz.f154 h)
def GI(x1:AV)(x6:Int)(o2_0:ByteArray)(o2_1:AV)(o4_0:ByteArray)(o4_1:AV):Tree :=
 NL x1<|NI (VI x6)<|.aj (Ob.cells [VS o2_0,o2_1]=.cells [VS o2_0,o2_1])<|.aj (ac [.lk .str,.lk .sl] [VS o2_0,o2_1] 0 [.cells [VS o4_0,o4_1]])<|.aj (Ob.cells [VS o4_0,o4_1]=.cells [VS o4_0,o4_1])<|.aj (ac [.lk .str,.lk .sl] [VS o4_0,o4_1] 0 [])<|.test (decide (x6≥(0:Int))) (NG x1 x6 4<|lg (x1.ix x6)<|.test (af (((x1.ix x6).hA).ag)==af o2_0) (NG x1 x6 4<|NE ((x1.ix x6).drop 1)<|NG x1 x6 4<|ot ((x1.ix x6).drop 3)<|.done 2 [(((x1.ix x6).drop 3).hA)] [.cells [VS ((((x1.ix x6).drop 1).getD 0 .any).ag),(((x1.ix x6).drop 1).getD 1 .any)]]) (.done 0 [x1,VI (IntKind.wrap .i64 (x6-1))] [.cells [VS o2_0,o2_1],.cells [VS o4_0,o4_1]])) (.done 1 [x1] [.cells [VS o2_0,o2_1],.cells [VS o4_0,o4_1]])
abbrev FR:=cy Tryz.prog 34 Jp GX
theorem IT(x1:AV)(x6:Int)(o2_0:ByteArray)(o2_1:AV)(o4_0:ByteArray)(o4_1:AV)(h:kE 34 (GI x1 x6 o2_0 o2_1 o4_0 o4_1) FR U):FR [x1,VI x6] [.cells [VS o2_0,o2_1],.cells [VS o4_0,o4_1]] U :=
 gQ Mp h
def NN(a0:ByteArray):Tree :=
 .call 170 [VS a0,.v (.int .u8 120),.v (.int .u8 122)] [] fun r1 o1=>NB r1<|.done 0 [VB r1.toBool] []
theorem Pq(a0:ByteArray)(h:du 5 (NN a0) R):aq Tryz.prog 155 [VS a0] [] R :=
 uQ (ah (aA _) aD) (oQ [] Tryz.f155 h)
def Ly(a0_0:ByteArray)(a0_1:AV)(a1:AV):Tree :=
 NG a0_1 2 2<|NE (a0_1.ix (2:Int))<|.aj (LK.has .sl a1/\cv 4 a1.aP/\((([]:List (List AV)).length)+a1.aP.length)*80<=140737488355328)<|NG a0_1 1 2<|lg (a0_1.ix (1:Int))<|.aj (cv 4 [[VS (((a0_1.ix (1:Int)).hA).ag),VS a0_0,a0_1,a1]]/\(((([]:List (List AV))++a1.aP).length)+([[VS (((a0_1.ix (1:Int)).hA).ag),VS a0_0,a0_1,a1]]:List (List AV)).length)*80<=140737488355328)<|.done 0 [.cD [.agg [VS (((a0_1.ix (2:Int)).getD 0 .any).ag),((a0_1.ix (2:Int)).getD 1 .any)],.sl ((([]:List (List AV))++a1.aP)++([[VS (((a0_1.ix (1:Int)).hA).ag),VS a0_0,a0_1,a1]]:List (List AV)))]] []
theorem ON(a0_0:ByteArray)(a0_1:AV)(a1:AV)(ha0_1:LK.has .sl a0_1)(ha1:LK.has .sl a1)(h:du 23 (Ly a0_0 a0_1 a1) R):aq Tryz.prog 156 [.agg [VS a0_0,a0_1],a1] [] R :=
 uQ (ah (ci (ah (aA _) (ah (bT ha0_1) aD))) (ah (bT ha1) aD)) (oQ [] Tryz.f156 h)
def Iv(a0:AV):Tree :=
 .call 179 [a0,.v (.func (.func 159) #[] #[])] [] fun r1 o1=>NI r1<|.done 0 [VB (decide (r1.toInt≥(0:Int)))] []
theorem Rc(a0:AV)(ha0:LK.has .sl a0)(h:du 9 (Iv a0) R):aq Tryz.prog 157 [a0,.v (.func (.func 159) #[] #[])] [] R :=
 uQ (ah (bT ha0) (ah (aA _) aD)) (oQ [] Tryz.f157 h)
def II(a0:AV):Tree :=
 .call 180 [a0,.fn 181 [.ref 0 0]] [.cells [.vec 1],.vec 1 []] fun r1 o1=>.aj ((o1.hO)=.cells (o1.hO).cs)<|.aj (aM [.vec 1] ((o1.hO).cs) 0 1 o1.tail)<|.done 0 [.sl ((o1.tail.hO).es)] []
theorem QO(a0:AV)(ha0:LK.has .ptr a0)(h:du 9 (II a0) R):aq Tryz.prog 158 [a0] [] R :=
 uQ (ah (bE ha0) aD) (oQ [] Tryz.f158 h)
def Lx(a0:ByteArray):Tree :=
 .call 182 [VS a0,VS (mk [116])] [] fun r1 o1=>NB r1<|.done 0 [VB r1.toBool] []
theorem Ps(a0:ByteArray)(h:du 5 (Lx a0) R):aq Tryz.prog 159 [VS a0] [] R :=
 uQ (ah (aA _) aD) (oQ [] Tryz.f159 h)
def Hc:LI:={hd:={bX:=[(0,.k .str),(1,.k (.int .i64)),(6,.k (.int .i64))]},xs:={bX:=[(0,.k .str),(1,.k (.int .i64)),(6,.k (.int .i64))]},rt:={},ex:=0}
def Lz:Code:=cP (cH Tryz.f160) 2
def HF:LI:={hd:={bX:=[(0,.k .str),(1,.k (.int .i64)),(7,.k .str)],refs:=[(8,48)],co:=[(48,[.lk .str,.vec 1])]},xs:={},rt:={bX:=[(4,.k .ptr),(5,.k .str)]},ex:=999}
def JL:Code:=cP (cH Tryz.f160) 10
def EQ:List (Nat×LI):=[(2,Hc),(10,HF)]
def HS(a0:ByteArray)(a1:Int):Tree :=
 .loop Lz Hc [VS a0,VI a1,VI 0] [] (fun y2 q2=>NS (y2.hA)<|NI (y2.tail.hA)<|NI (y2.tail.tail.hA)<|.test (decide (((y2.tail.tail.hA).toInt)>(0:Int))) (.aj (0<=(0:Int)/\(0:Int)<=((y2.tail.tail.hA).toInt)/\((y2.tail.tail.hA).toInt)<=(ae ((y2.hA).ag):Int))<|.aj (0<=((y2.tail.tail.hA).toInt)/\((y2.tail.tail.hA).toInt)<=(ae ((y2.hA).ag):Int)/\(ae ((y2.hA).ag):Int)<=(ae ((y2.hA).ag):Int))<|.done 0 [.cD [.ptr [VS (ck ((y2.hA).ag) (bI 0) (bI ((y2.tail.tail.hA).toInt))),.v (.slice none 0 0)],VS (ck ((y2.hA).ag) (bI ((y2.tail.tail.hA).toInt)) (bI (ae ((y2.hA).ag):Int)))]] []) (.test (af ((y2.hA).ag)==af (mk [])) (.done 0 [.cD [.v (.pointer none),VS ((y2.hA).ag)]] []) (.aj (0<=(0:Int)/\(0:Int)<ae ((y2.hA).ag))<|.test ((bt ((y2.hA).ag) 0) != (40:Int)) (.done 0 [.cD [.v (.pointer none),VS ((y2.hA).ag)]] []) (.test (((y2.tail.hA).toInt)==(300:Int)) (.done 0 [.cD [.v (.pointer none),VS ((y2.hA).ag)]] []) (.aj (0<=(1:Int)/\(1:Int)<=(ae ((y2.hA).ag):Int)/\(ae ((y2.hA).ag):Int)<=(ae ((y2.hA).ag):Int))<|.loop JL HF [VS ((y2.hA).ag),VI ((y2.tail.hA).toInt),VS (ck ((y2.hA).ag) (bI 1) (bI (ae ((y2.hA).ag):Int)))] [.cells [VS (mk []),.any],.vec 1 []] (fun y5 q5=>.fail) (fun y5 q5=>NP (y5.hA)<|NS (y5.tail.hA)<|.done 0 [.cD [(y5.hA),VS ((y5.tail.hA).ag)]] [])))))) (fun y2 q2=>.done 0 [.cD [.any,.any]] [])
theorem LB(a0:ByteArray)(a1:Int)(h:du 84 (HS a0 a1) R):aq Tryz.prog 160 [VS a0,VI a1] [] R :=
 uQ (ah (aA _) (ah (aA _) aD)) (oQ EQ Tryz.f160 h)
def Ga(x0:ByteArray)(x1:Int)(x6:Int):Tree :=
 NS (VS x0)<|NI (VI x1)<|NI (VI x6)<|.test (decide (x6<(ae x0:Int))) (.aj (0<=x6/\x6<ae x0)<|.call 183 [.v (.int .u8 (bt x0 x6))] [] fun r1 o1=>NB r1<|.test r1.toBool (.done 0 [VS x0,VI x1,VI (IntKind.wrap .i64 (x6+1))] []) (.done 1 [VS x0,VI x1,VI x6] [])) (.done 1 [VS x0,VI x1,VI x6] [])
abbrev GY:=cy Tryz.prog 84 Lz Hc
theorem L8(x0:ByteArray)(x1:Int)(x6:Int)(h:kE 84 (Ga x0 x1 x6) GY U):GY [VS x0,VI x1,VI x6] [] U :=
 gQ EQ h
def KJ(x0:ByteArray)(x1:Int)(x7:ByteArray)(o48_0:ByteArray)(o48_1:List (List AV)):Tree :=
 NS (VS x0)<|NI (VI x1)<|NS (VS x7)<|.aj (Ob.cells [VS o48_0,.any]=.cells [VS o48_0,.any])<|.aj (ac [.lk .str,.vec 1] [VS o48_0,.any] 0 [.vec 1 o48_1])<|.call 160 [VS x7,VI (IntKind.wrap .i64 (x1+1))] [] fun r1 o1=>NT r1<|NP (r1.comp 0)<|NS (r1.comp 1)<|NP (r1.comp 0)<|.test ((r1.comp 0).isNil) (.done 2 [.v (.pointer none),VS x0] []) (.test (af ((r1.comp 1).ag)==af (mk [])) (.done 2 [.v (.pointer none),VS x0] []) (.aj (cv 1 [[(r1.comp 0)]]/\((o48_1.length)+([[(r1.comp 0)]]:List (List AV)).length)*8<=140737488355328)<|.aj (0<=(1:Int)/\(1:Int)<=(ae ((r1.comp 1).ag):Int)/\(ae ((r1.comp 1).ag):Int)<=(ae ((r1.comp 1).ag):Int))<|.aj (0<=(0:Int)/\(0:Int)<ae ((r1.comp 1).ag))<|.test ((bt ((r1.comp 1).ag) 0)==(41:Int)) (.done 2 [.ptr [VS o48_0,.sl (o48_1++([[(r1.comp 0)]]:List (List AV)))],VS (ck ((r1.comp 1).ag) (bI 1) (bI (ae ((r1.comp 1).ag):Int)))] []) (.aj (0<=(0:Int)/\(0:Int)<ae ((r1.comp 1).ag))<|.test ((bt ((r1.comp 1).ag) 0) != (32:Int)) (.done 2 [.v (.pointer none),VS x0] []) (.done 0 [VS x0,VI x1,VS (ck ((r1.comp 1).ag) (bI 1) (bI (ae ((r1.comp 1).ag):Int)))] [.cells [VS o48_0,.any],.vec 1 (o48_1++([[(r1.comp 0)]]:List (List AV)))]))))
abbrev FN:=cy Tryz.prog 84 JL HF
theorem O7(x0:ByteArray)(x1:Int)(x7:ByteArray)(o48_0:ByteArray)(o48_1:List (List AV))(h:kE 84 (KJ x0 x1 x7 o48_0 o48_1) FN U):FN [VS x0,VI x1,VS x7] [.cells [VS o48_0,.any],.vec 1 o48_1] U :=
 gQ EQ h
def Kz(a0:ByteArray):Tree :=
 .test (decide ((ae a0:Int)<(2:Int))) (.done 0 [VB false] []) (.test (decide ((ae a0:Int)>(3:Int))) (.done 0 [VB false] []) (.aj (0<=(0:Int)/\(0:Int)<ae a0)<|.test ((bt a0 0) != (101:Int)) (.done 0 [VB false] []) (.aj (0<=(1:Int)/\(1:Int)<=(ae a0:Int)/\(ae a0:Int)<=(ae a0:Int))<|.call 184 [VS (ck a0 (bI 1) (bI (ae a0:Int))),VS (mk [48,49,50,51,52,53,54,55,56,57])] [] fun r1 o1=>NS r1<|.test (!(af r1.ag==af (mk []))) (.done 0 [VB false] []) (.test ((ae a0:Int)==(2:Int)) (.done 0 [VB true] []) (.aj (0<=(1:Int)/\(1:Int)<ae a0)<|.done 0 [VB ((bt a0 1) != (48:Int))] [])))))
theorem Rx(a0:ByteArray)(h:du 30 (Kz a0) R):aq Tryz.prog 161 [VS a0] [] R :=
 uQ (ah (aA _) aD) (oQ [] Tryz.f161 h)
def AT(a0:AV)(a1:ByteArray)(a2:Int):Tree :=
 NZ a0<|NZ a0<|ot (a0.deref.drop 1)<|NL ((a0.deref.drop 1).hA)<|.test (((((a0.deref.drop 1).hA).aP).length:Int)==a2) (NZ a0<|NZ a0<|ot (a0.deref.drop 1)<|NG ((a0.deref.drop 1).hA) 0 1<|dT (((a0.deref.drop 1).hA).ix (0:Int))<|NZ ((((a0.deref.drop 1).hA).ix (0:Int)).hA)<|NZ ((((a0.deref.drop 1).hA).ix (0:Int)).hA)<|.aj (LK.has .str (((((a0.deref.drop 1).hA).ix (0:Int)).hA).deref.hA)/\1<=(((((a0.deref.drop 1).hA).ix (0:Int)).hA).deref).length)<|.done 0 [VB (af ((((((a0.deref.drop 1).hA).ix (0:Int)).hA).deref.hA).ag)==af a1)] []) (.done 0 [VB false] [])
theorem Jr(a0:AV)(a1:ByteArray)(a2:Int)(ha0:LK.has .ptr a0)(h:du 27 (AT a0 a1 a2) R):aq Tryz.prog 162 [a0,VS a1,VI a2] [] R :=
 uQ (ah (bE ha0) (ah (aA _) (ah (aA _) aD))) (oQ [] Tryz.f162 h)
def wH(a0_0:ByteArray)(a0_1:AV):Tree :=
 .test (!(af a0_0==af (mk []))) (.test (af a0_0==af (mk [48])) (.done 0 [VB true] []) (.test (af a0_0==af (mk [49])) (.done 0 [VB true] []) (.call 155 [VS a0_0] [] fun r1 o1=>NB r1<|.test r1.toBool (.done 0 [VB true] []) (.call 138 [VS a0_0] [] fun r2 o2=>NB r2<|.done 0 [VB r2.toBool] [])))) (NL a0_1<|.test ((a0_1.aP.length:Int) != (3:Int)) (.done 0 [VB false] []) (.call 121 [.agg [VS a0_0,a0_1]] [] fun r3 o3=>NS r3<|.test (af r3.ag==af (mk [43])) (NG a0_1 1 2<|NE (a0_1.ix (1:Int))<|.call 165 [.agg [VS (((a0_1.ix (1:Int)).getD 0 .any).ag),((a0_1.ix (1:Int)).getD 1 .any)]] [] fun r4 o4=>NB r4<|.test r4.toBool (NG a0_1 2 2<|NE (a0_1.ix (2:Int))<|.call 165 [.agg [VS (((a0_1.ix (2:Int)).getD 0 .any).ag),((a0_1.ix (2:Int)).getD 1 .any)]] [] fun r5 o5=>NB r5<|.done 0 [VB r5.toBool] []) (.done 0 [VB false] [])) (.test (af r3.ag==af (mk [42])) (NG a0_1 1 2<|NE (a0_1.ix (1:Int))<|.call 165 [.agg [VS (((a0_1.ix (1:Int)).getD 0 .any).ag),((a0_1.ix (1:Int)).getD 1 .any)]] [] fun r6 o6=>NB r6<|.test r6.toBool (NG a0_1 2 2<|NE (a0_1.ix (2:Int))<|.call 165 [.agg [VS (((a0_1.ix (2:Int)).getD 0 .any).ag),((a0_1.ix (2:Int)).getD 1 .any)]] [] fun r7 o7=>NB r7<|.done 0 [VB r7.toBool] []) (.done 0 [VB false] [])) (.test (af r3.ag==af (mk [114,101,99])) (NG a0_1 1 2<|lg (a0_1.ix (1:Int))<|.call 138 [VS (((a0_1.ix (1:Int)).hA).ag)] [] fun r8 o8=>NB r8<|.test r8.toBool (NG a0_1 2 2<|NE (a0_1.ix (2:Int))<|.call 165 [.agg [VS (((a0_1.ix (2:Int)).getD 0 .any).ag),((a0_1.ix (2:Int)).getD 1 .any)]] [] fun r9 o9=>NB r9<|.done 0 [VB r9.toBool] []) (.done 0 [VB false] [])) (.done 0 [VB false] [])))))
theorem IW(a0_0:ByteArray)(a0_1:AV)(ha0_1:LK.has .sl a0_1)(h:du 60 (wH a0_0 a0_1) R):aq Tryz.prog 165 [.agg [VS a0_0,a0_1]] [] R :=
 uQ (ah (ci (ah (aA _) (ah (bT ha0_1) aD))) aD) (oQ [] Tryz.f165 h)
def BZ(a0_0:ByteArray)(a0_1:AV)(a1:ByteArray):Tree :=
 .test (!(af a0_0==af (mk []))) (.test (af a0_0==af a1) (.done 0 [.cD [.agg [VS (mk [49]),.v (.slice none 0 0)],VB true]] []) (.done 0 [.cD [.agg [VS (mk [48]),.v (.slice none 0 0)],VB true]] [])) (.call 121 [.agg [VS a0_0,a0_1]] [] fun r1 o1=>NS r1<|.test (af r1.ag==af (mk [114,101,99])) (.call 190 [.agg [VS a0_0,a0_1],VS a1] [] fun r2 o2=>NT r2<|.aj ((r2.comp 0)=.agg (r2.comp 0).cs/\(r2.comp 0).cs.length=2/\bH [.str,.sl] ((r2.comp 0).cs) 0)<|NB (r2.comp 1)<|.done 0 [.cD [.agg [VS (((r2.comp 0).cs.getD 0 .any).ag),((r2.comp 0).cs.getD 1 .any)],VB ((r2.comp 1).toBool)]] []) (NG a0_1 1 2<|NE (a0_1.ix (1:Int))<|.call 166 [.agg [VS (((a0_1.ix (1:Int)).getD 0 .any).ag),((a0_1.ix (1:Int)).getD 1 .any)],VS a1] [] fun r3 o3=>NT r3<|.aj ((r3.comp 0)=.agg (r3.comp 0).cs/\(r3.comp 0).cs.length=2/\bH [.str,.sl] ((r3.comp 0).cs) 0)<|NB (r3.comp 1)<|NG a0_1 2 2<|NE (a0_1.ix (2:Int))<|.call 166 [.agg [VS (((a0_1.ix (2:Int)).getD 0 .any).ag),((a0_1.ix (2:Int)).getD 1 .any)],VS a1] [] fun r4 o4=>NT r4<|.aj ((r4.comp 0)=.agg (r4.comp 0).cs/\(r4.comp 0).cs.length=2/\bH [.str,.sl] ((r4.comp 0).cs) 0)<|NB (r4.comp 1)<|.call 98 [VS (mk [43]),.sl [[VS (((r3.comp 0).cs.getD 0 .any).ag),((r3.comp 0).cs.getD 1 .any)],[VS (((r4.comp 0).cs.getD 0 .any).ag),((r4.comp 0).cs.getD 1 .any)]]] [] fun r5 o5=>NA r5<|.call 121 [.agg [VS a0_0,a0_1]] [] fun r6 o6=>NS r6<|.test (af r6.ag==af (mk [42])) (NG a0_1 2 2<|NE (a0_1.ix (2:Int))<|.call 98 [VS (mk [42]),.sl [[VS (((r3.comp 0).cs.getD 0 .any).ag),((r3.comp 0).cs.getD 1 .any)],[VS (((a0_1.ix (2:Int)).getD 0 .any).ag),((a0_1.ix (2:Int)).getD 1 .any)]]] [] fun r7 o7=>NA r7<|NG a0_1 1 2<|NE (a0_1.ix (1:Int))<|.call 98 [VS (mk [42]),.sl [[VS (((a0_1.ix (1:Int)).getD 0 .any).ag),((a0_1.ix (1:Int)).getD 1 .any)],[VS (((r4.comp 0).cs.getD 0 .any).ag),((r4.comp 0).cs.getD 1 .any)]]] [] fun r8 o8=>NA r8<|.call 98 [VS (mk [43]),.sl [[VS ((r7.cs.getD 0 .any).ag),(r7.cs.getD 1 .any)],[VS ((r8.cs.getD 0 .any).ag),(r8.cs.getD 1 .any)]]] [] fun r9 o9=>NA r9<|.test ((r3.comp 1).toBool) (.test ((r4.comp 1).toBool) (.call 140 [.agg [VS ((r9.cs.getD 0 .any).ag),(r9.cs.getD 1 .any)]] [] fun r10 o10=>NI r10<|.done 0 [.cD [.agg [VS ((r9.cs.getD 0 .any).ag),(r9.cs.getD 1 .any)],VB (decide (r10.toInt<=(400:Int)))]] []) (.done 0 [.cD [.agg [VS ((r9.cs.getD 0 .any).ag),(r9.cs.getD 1 .any)],VB false]] [])) (.done 0 [.cD [.agg [VS ((r9.cs.getD 0 .any).ag),(r9.cs.getD 1 .any)],VB false]] [])) (.test ((r3.comp 1).toBool) (.test ((r4.comp 1).toBool) (.call 140 [.agg [VS ((r5.cs.getD 0 .any).ag),(r5.cs.getD 1 .any)]] [] fun r11 o11=>NI r11<|.done 0 [.cD [.agg [VS ((r5.cs.getD 0 .any).ag),(r5.cs.getD 1 .any)],VB (decide (r11.toInt<=(400:Int)))]] []) (.done 0 [.cD [.agg [VS ((r5.cs.getD 0 .any).ag),(r5.cs.getD 1 .any)],VB false]] [])) (.done 0 [.cD [.agg [VS ((r5.cs.getD 0 .any).ag),(r5.cs.getD 1 .any)],VB false]] []))))
theorem DA(a0_0:ByteArray)(a0_1:AV)(a1:ByteArray)(ha0_1:LK.has .sl a0_1)(h:du 79 (BZ a0_0 a0_1 a1) R):aq Tryz.prog 166 [.agg [VS a0_0,a0_1],VS a1] [] R :=
 uQ (ah (ci (ah (aA _) (ah (bT ha0_1) aD))) (ah (aA _) aD)) (oQ [] Tryz.f166 h)
def Jg(a0_0:ByteArray)(a0_1:AV)(a1:ByteArray)(a2_0:ByteArray)(a2_1:AV):Tree :=
 .call 171 [.agg [VS a0_0,a0_1],VS a1,.agg [VS a2_0,a2_1]] [] fun r1 o1=>NB r1<|.test (!r1.toBool) (.done 0 [.cD [.agg [VS a0_0,a0_1],VB false]] []) (.call 172 [.agg [VS a0_0,a0_1],VS a1,.agg [VS a2_0,a2_1]] [] fun r2 o2=>NA r2<|.done 0 [.cD [.agg [VS ((r2.cs.getD 0 .any).ag),(r2.cs.getD 1 .any)],VB true]] [])
theorem Pw(a0_0:ByteArray)(a0_1:AV)(a1:ByteArray)(a2_0:ByteArray)(a2_1:AV)(ha0_1:LK.has .sl a0_1)(ha2_1:LK.has .sl a2_1)(h:du 18 (Jg a0_0 a0_1 a1 a2_0 a2_1) R):aq Tryz.prog 167 [.agg [VS a0_0,a0_1],VS a1,.agg [VS a2_0,a2_1]] [] R :=
 uQ (ah (ci (ah (aA _) (ah (bT ha0_1) aD))) (ah (aA _) (ah (ci (ah (aA _) (ah (bT ha2_1) aD))) aD))) (oQ [] Tryz.f167 h)
def Kn(a0:ByteArray):Tree :=
 .call 132 [VS a0] [] fun r1 o1=>NT r1<|.aj ((r1.comp 0)=.agg (r1.comp 0).cs/\(r1.comp 0).cs.length=2/\bH [.str,.sl] ((r1.comp 0).cs) 0)<|NB (r1.comp 1)<|.done 0 [VB ((r1.comp 1).toBool)] []
theorem Pb(a0:ByteArray)(h:du 11 (Kn a0) R):aq Tryz.prog 168 [VS a0] [] R :=
 uQ (ah (aA _) aD) (oQ [] Tryz.f168 h)
def GB:LI:={hd:={bX:=[(0,.k .sl),(1,.k .str),(5,.k (.int .i64))]},xs:={},rt:={bX:=[(4,.k .bool)]},ex:=0}
def Lm:Code:=cP (cH Tryz.f169) 2
def Jd:List (Nat×LI):=[(2,GB)]
def J3(a0:AV)(a1:ByteArray):Tree :=
 .loop Lm GB [a0,VS a1,VI 0] [] (fun y1 q1=>.done 0 [VB false] []) (fun y1 q1=>NB (y1.hA)<|.done 0 [VB ((y1.hA).toBool)] [])
theorem PI(a0:AV)(a1:ByteArray)(ha0:LK.has .sl a0)(h:du 18 (J3 a0 a1) R):aq Tryz.prog 169 [a0,VS a1] [] R :=
 uQ (ah (bT ha0) (ah (aA _) aD)) (oQ Jd Tryz.f169 h)
def HI(x0:AV)(x1:ByteArray)(x5:Int):Tree :=
 NL x0<|NS (VS x1)<|NI (VI x5)<|NL x0<|.test (decide (x5<(x0.aP.length:Int))) (NG x0 x5 1<|lg (x0.ix x5)<|.test (af (((x0.ix x5).hA).ag)==af x1) (.done 2 [VB true] []) (.done 0 [x0,VS x1,VI (IntKind.wrap .i64 (x5+1))] [])) (.done 1 [] [])
abbrev G6:=cy Tryz.prog 18 Lm GB
theorem Nk(x0:AV)(x1:ByteArray)(x5:Int)(h:kE 18 (HI x0 x1 x5) G6 U):G6 [x0,VS x1,VI x5] [] U :=
 gQ Jd h
def Gk:LI:={hd:={bX:=[(0,.k .str),(7,.k (.int .i64))]},xs:={},rt:={bX:=[(6,.k .bool)]},ex:=0}
def Mk:Code:=cP (cH Tryz.f170) 4
def Mf:List (Nat×LI):=[(4,Gk)]
def KQ(a0:ByteArray)(a1:Int)(a2:Int):Tree :=
 .call 56 [VI (ae a0:Int),VI 1,VI 3] [] fun r1 o1=>NB r1<|.test (!r1.toBool) (.done 0 [VB false] []) (.aj (0<=(0:Int)/\(0:Int)<ae a0)<|.test (decide ((bt a0 0)<a1)) (.done 0 [VB false] []) (.aj (0<=(0:Int)/\(0:Int)<ae a0)<|.test (decide ((bt a0 0)>a2)) (.done 0 [VB false] []) (.loop Mk Gk [VS a0,VI 1] [] (fun y2 q2=>.done 0 [VB true] []) (fun y2 q2=>NB (y2.hA)<|.done 0 [VB ((y2.hA).toBool)] []))))
theorem P5(a0:ByteArray)(a1:Int)(a2:Int)(h:du 40 (KQ a0 a1 a2) R):aq Tryz.prog 170 [VS a0,.v (.int .u8 a1),.v (.int .u8 a2)] [] R :=
 uQ (ah (aA _) (ah (aA _) (ah (aA _) aD))) (oQ Mf Tryz.f170 h)
def EW(x0:ByteArray)(x7:Int):Tree :=
 NS (VS x0)<|NI (VI x7)<|.test (decide (x7<(ae x0:Int))) (.aj (0<=x7/\x7<ae x0)<|.test (decide ((bt x0 x7)<(48:Int))) (.done 2 [VB false] []) (.aj (0<=x7/\x7<ae x0)<|.test (decide ((bt x0 x7)>(57:Int))) (.done 2 [VB false] []) (.done 0 [VS x0,VI (IntKind.wrap .i64 (x7+1))] []))) (.done 1 [] [])
abbrev Ht:=cy Tryz.prog 40 Mk Gk
theorem Jw(x0:ByteArray)(x7:Int)(h:kE 40 (EW x0 x7) Ht U):Ht [VS x0,VI x7] [] U :=
 gQ Mf h
def Ny(a0_0:ByteArray)(a0_1:AV)(a1:ByteArray)(a2_0:ByteArray)(a2_1:AV):Tree :=
 .call 140 [.agg [VS a0_0,a0_1]] [] fun r1 o1=>NI r1<|.call 191 [.agg [VS a0_0,a0_1],VS a1] [] fun r2 o2=>NI r2<|.call 140 [.agg [VS a2_0,a2_1]] [] fun r3 o3=>NI r3<|.done 0 [VB (decide ((IntKind.wrap .i64 (r1.toInt+(IntKind.wrap .i64 (r2.toInt*(IntKind.wrap .i64 (r3.toInt-1))))))<=(400:Int)))] []
theorem Pn(a0_0:ByteArray)(a0_1:AV)(a1:ByteArray)(a2_0:ByteArray)(a2_1:AV)(ha0_1:LK.has .sl a0_1)(ha2_1:LK.has .sl a2_1)(h:du 18 (Ny a0_0 a0_1 a1 a2_0 a2_1) R):aq Tryz.prog 171 [.agg [VS a0_0,a0_1],VS a1,.agg [VS a2_0,a2_1]] [] R :=
 uQ (ah (ci (ah (aA _) (ah (bT ha0_1) aD))) (ah (aA _) (ah (ci (ah (aA _) (ah (bT ha2_1) aD))) aD))) (oQ [] Tryz.f171 h)
def I1(a0_0:ByteArray)(a0_1:AV)(a1:ByteArray)(a2_0:ByteArray)(a2_1:AV):Tree :=
 .call 106 [.agg [VS a0_0,a0_1],.sl [[VS a2_0,a2_1],[VS a1,.v (.slice none 0 0)]]] [] fun r1 o1=>NA r1<|.call 192 [.agg [VS ((r1.cs.getD 0 .any).ag),(r1.cs.getD 1 .any)],VS a1,.agg [VS a2_0,a2_1]] [] fun r2 o2=>NA r2<|.done 0 [.agg [VS ((r2.cs.getD 0 .any).ag),(r2.cs.getD 1 .any)]] []
theorem P7(a0_0:ByteArray)(a0_1:AV)(a1:ByteArray)(a2_0:ByteArray)(a2_1:AV)(ha0_1:LK.has .sl a0_1)(ha2_1:LK.has .sl a2_1)(h:du 16 (I1 a0_0 a0_1 a1 a2_0 a2_1) R):aq Tryz.prog 172 [.agg [VS a0_0,a0_1],VS a1,.agg [VS a2_0,a2_1]] [] R :=
 uQ (ah (ci (ah (aA _) (ah (bT ha0_1) aD))) (ah (aA _) (ah (ci (ah (aA _) (ah (bT ha2_1) aD))) aD))) (oQ [] Tryz.f172 h)
def LZ(a0:ByteArray):Tree :=
 .call 182 [VS a0,VS (mk [120,121,122])] [] fun r1 o1=>NB r1<|.done 0 [VB r1.toBool] []
theorem Qd(a0:ByteArray)(h:du 5 (LZ a0) R):aq Tryz.prog 173 [VS a0] [] R :=
 uQ (ah (aA _) aD) (oQ [] Tryz.f173 h)
def KZ(a0:Int)(a1:AV)(a2:AV):Tree :=
 .done 0 [.ptr [.v (.int .u8 a0),VS (mk []),VI 0,a1,a2]] []
theorem PC(a0:Int)(a1:AV)(a2:AV)(ha1:LK.has .ptr a1)(ha2:LK.has .ptr a2)(h:du 12 (KZ a0 a1 a2) R):aq Tryz.prog 175 [.v (.int .u8 a0),a1,a2] [] R :=
 uQ (ah (aA _) (ah (bE ha1) (ah (bE ha2) aD))) (oQ [] Tryz.f175 h)
def GD:LI:={hd:={bX:=[(0,.k .ptr),(1,.k .sl),(9,.k .str)],refs:=[(3,0),(4,1)],co:=[(0,[.lk .sl]),(1,[.lk (.int .i64)])],uW:=[(2,176,[none,some 0,some 1])]},xs:={bX:=[(0,.k .ptr),(1,.k .sl),(9,.k .str)],co:=[(0,[.lk .sl]),(1,[.lk (.int .i64)])],uW:=[(2,176,[none,some 0,some 1])]},rt:={co:=[(0,[.lk .sl]),(1,[.lk (.int .i64)])]},ex:=1,fx:=[0,1]}
def Lq:Code:=cP (cH Tryz.f176) 12
def Nl:List (Nat×LI):=[(12,GD)]
def Ey(a0:AV)(a1:AV)(a3_0:AV)(a4_0:Int):Tree :=
 NZ a0<|NZ a0<|.aj (LK.has (.int .u8) (a0.deref.hA)/\1<=a0.deref.length)<|.test (((a0.deref.hA).toInt)==(110:Int)) (NZ a0<|NZ a0<|lg (a0.deref.drop 1)<|.done 0 [VS (((a0.deref.drop 1).hA).ag)] [.cells [a3_0],.cells [VI a4_0]]) (.test (((a0.deref.hA).toInt)==(98:Int)) (NL a1<|NZ a0<|NZ a0<|.aj (LK.has (.int .i64) ((a0.deref.drop 2).hA)/\1<=(a0.deref.drop 2).length)<|.aj (LK.has .sl a1/\0<=(IntKind.wrap .i64 ((IntKind.wrap .i64 ((a1.aP.length:Int)-1))-(((a0.deref.drop 2).hA).toInt)))/\(IntKind.wrap .i64 ((IntKind.wrap .i64 ((a1.aP.length:Int)-1))-(((a0.deref.drop 2).hA).toInt)))<a1.aP.length/\(a1.ix (IntKind.wrap .i64 ((IntKind.wrap .i64 ((a1.aP.length:Int)-1))-(((a0.deref.drop 2).hA).toInt)))).length=1)<|lg (a1.ix (IntKind.wrap .i64 ((IntKind.wrap .i64 ((a1.aP.length:Int)-1))-(((a0.deref.drop 2).hA).toInt))))<|.done 0 [VS (((a1.ix (IntKind.wrap .i64 ((IntKind.wrap .i64 ((a1.aP.length:Int)-1))-(((a0.deref.drop 2).hA).toInt)))).hA).ag)] [.cells [a3_0],.cells [VI a4_0]]) (.test (((a0.deref.hA).toInt)==(43:Int)) (NZ a0<|NZ a0<|dT (a0.deref.drop 3)<|.call 176 [((a0.deref.drop 3).hA),a1,.gH 176 [none,some 0,some 1],.ref 0 0,.ref 1 0] [.cells [a3_0],.cells [VI a4_0]] fun r1 o1=>.aj ((o1.hO)=.cells (o1.hO).cs)<|.aj (aM [.lk .sl] ((o1.hO).cs) 0 1 o1.tail)<|.aj ((o1.tail.hO)=.cells (o1.tail.hO).cs)<|.aj (aM [.lk (.int .i64)] ((o1.tail.hO).cs) 0 2 o1.tail.tail)<|NS r1<|NZ a0<|NZ a0<|.aj (LK.has (.int .u8) (a0.deref.hA)/\1<=a0.deref.length)<|.aj (jw [[.v (.int .u8 ((a0.deref.hA).toInt))]])<|.aj (ae (mk [40])+ae (⟨(bytesOf [[.v (.int .u8 ((a0.deref.hA).toInt))]]).toArray⟩)<=9223372036854775807)<|.aj (ae (((mk [40]):ByteArray)++(⟨(bytesOf [[.v (.int .u8 ((a0.deref.hA).toInt))]]).toArray⟩))+ae (mk [32])<=9223372036854775807)<|.aj (ae (((((mk [40]):ByteArray)++(⟨(bytesOf [[.v (.int .u8 ((a0.deref.hA).toInt))]]).toArray⟩)):ByteArray)++(mk [32]))+ae r1.ag<=9223372036854775807)<|.aj (ae (((((((mk [40]):ByteArray)++(⟨(bytesOf [[.v (.int .u8 ((a0.deref.hA).toInt))]]).toArray⟩)):ByteArray)++(mk [32])):ByteArray)++r1.ag)+ae (mk [32])<=9223372036854775807)<|NZ a0<|NZ a0<|dT (a0.deref.drop 4)<|.call 176 [((a0.deref.drop 4).hA),a1,.gH 176 [none,some 0,some 1],.ref 0 0,.ref 1 0] [.cells [((o1.hO).cs.getD 0 .any)],.cells [VI (((o1.tail.hO).cs.getD 0 .any).toInt)]] fun r2 o2=>.aj ((o2.hO)=.cells (o2.hO).cs)<|.aj (aM [.lk .sl] ((o2.hO).cs) 0 1 o2.tail)<|.aj ((o2.tail.hO)=.cells (o2.tail.hO).cs)<|.aj (aM [.lk (.int .i64)] ((o2.tail.hO).cs) 0 2 o2.tail.tail)<|NS r2<|.aj (ae (((((((((mk [40]):ByteArray)++(⟨(bytesOf [[.v (.int .u8 ((a0.deref.hA).toInt))]]).toArray⟩)):ByteArray)++(mk [32])):ByteArray)++r1.ag):ByteArray)++(mk [32]))+ae r2.ag<=9223372036854775807)<|.aj (ae (((((((((((mk [40]):ByteArray)++(⟨(bytesOf [[.v (.int .u8 ((a0.deref.hA).toInt))]]).toArray⟩)):ByteArray)++(mk [32])):ByteArray)++r1.ag):ByteArray)++(mk [32])):ByteArray)++r2.ag)+ae (mk [41])<=9223372036854775807)<|.done 0 [VS (((((((((((((mk [40]):ByteArray)++(⟨(bytesOf [[.v (.int .u8 ((a0.deref.hA).toInt))]]).toArray⟩)):ByteArray)++(mk [32])):ByteArray)++r1.ag):ByteArray)++(mk [32])):ByteArray)++r2.ag):ByteArray)++(mk [41]))] [.cells [((o2.hO).cs.getD 0 .any)],.cells [VI (((o2.tail.hO).cs.getD 0 .any).toInt)]]) (.test (((a0.deref.hA).toInt)==(42:Int)) (NZ a0<|NZ a0<|dT (a0.deref.drop 3)<|.call 176 [((a0.deref.drop 3).hA),a1,.gH 176 [none,some 0,some 1],.ref 0 0,.ref 1 0] [.cells [a3_0],.cells [VI a4_0]] fun r3 o3=>.aj ((o3.hO)=.cells (o3.hO).cs)<|.aj (aM [.lk .sl] ((o3.hO).cs) 0 1 o3.tail)<|.aj ((o3.tail.hO)=.cells (o3.tail.hO).cs)<|.aj (aM [.lk (.int .i64)] ((o3.tail.hO).cs) 0 2 o3.tail.tail)<|NS r3<|NZ a0<|NZ a0<|.aj (LK.has (.int .u8) (a0.deref.hA)/\1<=a0.deref.length)<|.aj (jw [[.v (.int .u8 ((a0.deref.hA).toInt))]])<|.aj (ae (mk [40])+ae (⟨(bytesOf [[.v (.int .u8 ((a0.deref.hA).toInt))]]).toArray⟩)<=9223372036854775807)<|.aj (ae (((mk [40]):ByteArray)++(⟨(bytesOf [[.v (.int .u8 ((a0.deref.hA).toInt))]]).toArray⟩))+ae (mk [32])<=9223372036854775807)<|.aj (ae (((((mk [40]):ByteArray)++(⟨(bytesOf [[.v (.int .u8 ((a0.deref.hA).toInt))]]).toArray⟩)):ByteArray)++(mk [32]))+ae r3.ag<=9223372036854775807)<|.aj (ae (((((((mk [40]):ByteArray)++(⟨(bytesOf [[.v (.int .u8 ((a0.deref.hA).toInt))]]).toArray⟩)):ByteArray)++(mk [32])):ByteArray)++r3.ag)+ae (mk [32])<=9223372036854775807)<|NZ a0<|NZ a0<|dT (a0.deref.drop 4)<|.call 176 [((a0.deref.drop 4).hA),a1,.gH 176 [none,some 0,some 1],.ref 0 0,.ref 1 0] [.cells [((o3.hO).cs.getD 0 .any)],.cells [VI (((o3.tail.hO).cs.getD 0 .any).toInt)]] fun r4 o4=>.aj ((o4.hO)=.cells (o4.hO).cs)<|.aj (aM [.lk .sl] ((o4.hO).cs) 0 1 o4.tail)<|.aj ((o4.tail.hO)=.cells (o4.tail.hO).cs)<|.aj (aM [.lk (.int .i64)] ((o4.tail.hO).cs) 0 2 o4.tail.tail)<|NS r4<|.aj (ae (((((((((mk [40]):ByteArray)++(⟨(bytesOf [[.v (.int .u8 ((a0.deref.hA).toInt))]]).toArray⟩)):ByteArray)++(mk [32])):ByteArray)++r3.ag):ByteArray)++(mk [32]))+ae r4.ag<=9223372036854775807)<|.aj (ae (((((((((((mk [40]):ByteArray)++(⟨(bytesOf [[.v (.int .u8 ((a0.deref.hA).toInt))]]).toArray⟩)):ByteArray)++(mk [32])):ByteArray)++r3.ag):ByteArray)++(mk [32])):ByteArray)++r4.ag)+ae (mk [41])<=9223372036854775807)<|.done 0 [VS (((((((((((((mk [40]):ByteArray)++(⟨(bytesOf [[.v (.int .u8 ((a0.deref.hA).toInt))]]).toArray⟩)):ByteArray)++(mk [32])):ByteArray)++r3.ag):ByteArray)++(mk [32])):ByteArray)++r4.ag):ByteArray)++(mk [41]))] [.cells [((o4.hO).cs.getD 0 .any)],.cells [VI (((o4.tail.hO).cs.getD 0 .any).toInt)]]) (.test (((a0.deref.hA).toInt)==(114:Int)) (.loop Lq GD [a0,a1,VS (mk [])] [.cells [a3_0],.cells [VI a4_0]] (fun y8 q8=>NP (y8.hA)<|NL (y8.tail.hA)<|NS (y8.tail.tail.hA)<|.aj ((q8.hO)=.cells (q8.hO).cs)<|.aj (ac [.lk .sl] ((q8.hO).cs) 0 q8.tail)<|.aj (((q8.tail.drop 0).hO)=.cells ((q8.tail.drop 0).hO).cs)<|.aj (ac [.lk (.int .i64)] (((q8.tail.drop 0).hO).cs) 0 ((q8.tail.drop 0).tail))<|.aj (ae (mk [40,114,101,99,32])+ae ((y8.tail.tail.hA).ag)<=9223372036854775807)<|.aj (ae (((mk [40,114,101,99,32]):ByteArray)++((y8.tail.tail.hA).ag))+ae (mk [32])<=9223372036854775807)<|NZ (y8.hA)<|NZ (y8.hA)<|dT ((y8.hA).deref.drop 3)<|.aj (LK.has .sl (y8.tail.hA)/\cv 1 ((y8.tail.hA).aP)/\((([]:List (List AV)).length)+((y8.tail.hA).aP).length)*16<=140737488355328)<|.aj (cv 1 [[VS ((y8.tail.tail.hA).ag)]]/\(((([]:List (List AV))++((y8.tail.hA).aP)).length)+([[VS ((y8.tail.tail.hA).ag)]]:List (List AV)).length)*16<=140737488355328)<|.call 176 [(((y8.hA).deref.drop 3).hA),.sl ((([]:List (List AV))++((y8.tail.hA).aP))++([[VS ((y8.tail.tail.hA).ag)]]:List (List AV))),.gH 176 [none,some 0,some 1],.ref 0 0,.ref 1 0] [.cells [((q8.hO).cs.getD 0 .any)],.cells [VI (((q8.tail.hO).cs.getD 0 .any).toInt)]] fun r9 o9=>.aj ((o9.hO)=.cells (o9.hO).cs)<|.aj (aM [.lk .sl] ((o9.hO).cs) 0 1 o9.tail)<|.aj ((o9.tail.hO)=.cells (o9.tail.hO).cs)<|.aj (aM [.lk (.int .i64)] ((o9.tail.hO).cs) 0 2 o9.tail.tail)<|NS r9<|.aj (ae (((((mk [40,114,101,99,32]):ByteArray)++((y8.tail.tail.hA).ag)):ByteArray)++(mk [32]))+ae r9.ag<=9223372036854775807)<|.aj (ae (((((((mk [40,114,101,99,32]):ByteArray)++((y8.tail.tail.hA).ag)):ByteArray)++(mk [32])):ByteArray)++r9.ag)+ae (mk [41])<=9223372036854775807)<|.done 0 [VS (((((((((mk [40,114,101,99,32]):ByteArray)++((y8.tail.tail.hA).ag)):ByteArray)++(mk [32])):ByteArray)++r9.ag):ByteArray)++(mk [41]))] [.cells [((o9.hO).cs.getD 0 .any)],.cells [VI (((o9.tail.hO).cs.getD 0 .any).toInt)]]) (fun y8 q8=>.aj ((q8.hO)=.cells (q8.hO).cs)<|.aj (ac [.lk .sl] ((q8.hO).cs) 0 q8.tail)<|.aj (((q8.tail.drop 0).hO)=.cells ((q8.tail.drop 0).hO).cs)<|.aj (ac [.lk (.int .i64)] (((q8.tail.drop 0).hO).cs) 0 ((q8.tail.drop 0).tail))<|.done 0 [.any] [.cells [((q8.hO).cs.getD 0 .any)],.cells [VI (((q8.tail.hO).cs.getD 0 .any).toInt)]])) (NZ a0<|NZ a0<|.aj (LK.has (.int .u8) (a0.deref.hA)/\1<=a0.deref.length)<|.aj (jw [[.v (.int .u8 ((a0.deref.hA).toInt))]])<|.done 0 [VS (⟨(bytesOf [[.v (.int .u8 ((a0.deref.hA).toInt))]]).toArray⟩)] [.cells [a3_0],.cells [VI a4_0]])))))
theorem Gq(a0:AV)(a1:AV)(a3_0:AV)(a4_0:Int)(ha0:LK.has .ptr a0)(ha1:LK.has .sl a1)(ha3_0:LK.has .sl a3_0)(h:du 100 (Ey a0 a1 a3_0 a4_0) R):aq Tryz.prog 176 [a0,a1,.gH 176 [none,some 0,some 1],.ref 0 0,.ref 1 0] [.cells [a3_0],.cells [VI a4_0]] R :=
 aq.nK (bB (cc (ah (bT ha3_0) aD)) (bB (cc (ah (aA _) aD)) cw)) (aq.up (ah (bE ha0) (ah (bT ha1) (ah (aA _) (ah (aA _) (ah (aA _) aD))))) (oF Nl {mu:=[(2,.sr 176 [none,some 0,some 1]),(3,.one (.obj [.lk .sl])),(4,.one (.obj [.lk (.int .i64)]))],own:=[]} Tryz.f176 h))
end
end Go.Proofs.Trees
