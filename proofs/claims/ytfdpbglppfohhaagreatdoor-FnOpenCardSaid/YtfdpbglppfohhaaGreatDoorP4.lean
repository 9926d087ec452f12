/-
  Part of a proof: Go functions read by values, trees of functions, their contracts.
-/
import Derived.Test.YtfdpbglppfohhaaGreatDoorP3
import Derived.Shelf.Lays
import Derived.Shelf.LaysM
import Derived.Shelf.Strconv.Itoa3
import Derived.Shelf.Strconv.Atoi
import Derived.Shelf.Strings.SlTrimAscii
import Derived.Shelf.Strings.Search3
import Derived.Test.YtfdpbglppfohhaaGreatDoorProg
set_option linter.unusedVariables false
set_option linter.unusedSimpArgs false
open And renaming intro→aH
open ByteArray renaming extract→cd,size→ac,toList→af
open Int renaming tmod→dC,toNat→bA
namespace Go.Proofs
open Go.Shelf
def Tryz.uG:Go.Shelf.Ren:=⟨fun|160=>184|232=>197|231=>196|227=>198|234=>200|233=>199|236=>202|235=>201|228=>208|271=>211|151=>210|197=>209|120=>221|152=>220|260=>219|137=>231|119=>232|224=>229|225=>228|217=>227|266=>235|n=>n,fun|9=>9|4=>4|3=>3|5=>5|117=>228|116=>227|0=>0|124=>231|21=>21|105=>242|46=>235|119=>263|139=>266|138=>265|n=>n,fun|3=>4|4=>5|n=>n⟩
theorem Tryz.CM:Go.Proofs.Lays.n160 Tryz.prog Tryz.uG:={
 mixed:=by kernel_rfl,
 f119:=Tryz.func232.trans (congrArg some (by kernel_rfl)),
 f120:=Tryz.func221.trans (congrArg some (by kernel_rfl)),
 f137:=Tryz.func231.trans (congrArg some (by kernel_rfl)),
 f151:=Tryz.func210.trans (congrArg some (by kernel_rfl)),
 f152:=Tryz.func220.trans (congrArg some (by kernel_rfl)),
 f160:=Tryz.func184.trans (congrArg some (by kernel_rfl)),
 f197:=Tryz.func209.trans (congrArg some (by kernel_rfl)),
 f217:=Tryz.func227.trans (congrArg some (by kernel_rfl)),
 f224:=Tryz.func229.trans (congrArg some (by kernel_rfl)),
 f225:=Tryz.func228.trans (congrArg some (by kernel_rfl)),
 f227:=Tryz.func198.trans (congrArg some (by kernel_rfl)),
 f228:=Tryz.func208.trans (congrArg some (by kernel_rfl)),
 f231:=Tryz.func196.trans (congrArg some (by kernel_rfl)),
 f232:=Tryz.func197.trans (congrArg some (by kernel_rfl)),
 f233:=Tryz.func199.trans (congrArg some (by kernel_rfl)),
 f234:=Tryz.func200.trans (congrArg some (by kernel_rfl)),
 f235:=Tryz.func201.trans (congrArg some (by kernel_rfl)),
 f236:=Tryz.func202.trans (congrArg some (by kernel_rfl)),
 f260:=Tryz.func219.trans (congrArg some (by kernel_rfl)),
 f266:=Tryz.func235.trans (congrArg some (by kernel_rfl)),
 f271:=Tryz.func211.trans (congrArg some (by kernel_rfl)),
 t0:=Tryz.underlying0,
 a0:=Tryz.isAgg0,
 z0:=Tryz.sizeOf0,
 v0:=Tryz.zeroValue0,
 t3:=Tryz.underlying3,
 a3:=Tryz.isAgg3,
 z3:=Tryz.sizeOf3,
 v3:=Tryz.zeroValue3,
 t4:=Tryz.underlying4,
 a4:=Tryz.isAgg4,
 z4:=Tryz.sizeOf4,
 v4:=Tryz.zeroValue4,
 t5:=Tryz.underlying5,
 a5:=Tryz.isAgg5,
 z5:=Tryz.sizeOf5,
 v5:=Tryz.zeroValue5,
 t9:=Tryz.underlying9,
 a9:=Tryz.isAgg9,
 z9:=Tryz.sizeOf9,
 v9:=Tryz.zeroValue9,
 t21:=Tryz.underlying21,
 a21:=Tryz.isAgg21,
 z21:=Tryz.sizeOf21,
 v21:=Tryz.zeroValue21,
 t46:=Tryz.underlying235,
 a46:=Tryz.isAgg235,
 z46:=Tryz.sizeOf235,
 v46:=Tryz.zeroValue235,
 t105:=Tryz.underlying242,
 a105:=Tryz.isAgg242,
 z105:=Tryz.sizeOf242,
 v105:=Tryz.zeroValue242,
 t116:=Tryz.underlying227,
 a116:=Tryz.isAgg227,
 z116:=Tryz.sizeOf227,
 t117:=Tryz.underlying228,
 a117:=Tryz.isAgg228,
 z117:=Tryz.sizeOf228,
 v117:=Tryz.zeroValue228,
 t119:=Tryz.underlying263,
 a119:=Tryz.isAgg263,
 z119:=Tryz.sizeOf263,
 t124:=Tryz.underlying231,
 a124:=Tryz.isAgg231,
 z124:=Tryz.sizeOf231,
 v124:=Tryz.zeroValue231,
 t138:=Tryz.underlying265,
 a138:=Tryz.isAgg265,
 z138:=Tryz.sizeOf265,
 v138:=Tryz.zeroValue265,
 t139:=Tryz.underlying266,
 a139:=Tryz.isAgg266,
 z139:=Tryz.sizeOf266,
 v139:=Tryz.zeroValue266,
 g3:=by kernel_rfl,
 g4:=by kernel_rfl}
def Tryz.vy:Go.Shelf.Ren:=⟨fun|144=>195|143=>207|219=>218|217=>227|225=>228|224=>229|267=>230|266=>235|314=>236|n=>n,fun|9=>9|4=>4|3=>3|5=>5|46=>235|146=>269|51=>258|n=>n,fun|1=>3|n=>n⟩
theorem Tryz.Dl:Go.Proofs.Lays.n144 Tryz.prog Tryz.vy:={
 mixed:=by kernel_rfl,
 f143:=Tryz.func207.trans (congrArg some (by kernel_rfl)),
 f144:=Tryz.func195.trans (congrArg some (by kernel_rfl)),
 f217:=Tryz.func227.trans (congrArg some (by kernel_rfl)),
 f219:=Tryz.func218.trans (congrArg some (by kernel_rfl)),
 f224:=Tryz.func229.trans (congrArg some (by kernel_rfl)),
 f225:=Tryz.func228.trans (congrArg some (by kernel_rfl)),
 f266:=Tryz.func235.trans (congrArg some (by kernel_rfl)),
 f267:=Tryz.func230.trans (congrArg some (by kernel_rfl)),
 f314:=Tryz.func236.trans (congrArg some (by kernel_rfl)),
 t3:=Tryz.underlying3,
 a3:=Tryz.isAgg3,
 z3:=Tryz.sizeOf3,
 v3:=Tryz.zeroValue3,
 t4:=Tryz.underlying4,
 a4:=Tryz.isAgg4,
 z4:=Tryz.sizeOf4,
 v4:=Tryz.zeroValue4,
 t5:=Tryz.underlying5,
 a5:=Tryz.isAgg5,
 z5:=Tryz.sizeOf5,
 v5:=Tryz.zeroValue5,
 t9:=Tryz.underlying9,
 a9:=Tryz.isAgg9,
 z9:=Tryz.sizeOf9,
 v9:=Tryz.zeroValue9,
 t46:=Tryz.underlying235,
 a46:=Tryz.isAgg235,
 z46:=Tryz.sizeOf235,
 v46:=Tryz.zeroValue235,
 t51:=Tryz.underlying258,
 a51:=Tryz.isAgg258,
 z51:=Tryz.sizeOf258,
 v51:=Tryz.zeroValue258,
 t146:=Tryz.underlying269,
 a146:=Tryz.isAgg269,
 z146:=Tryz.sizeOf269,
 v146:=Tryz.zeroValue269,
 g1:=by kernel_rfl}
def Tryz.u5:Go.Shelf.Ren:=⟨fun|172=>130|244=>163|245=>164|247=>185|279=>186|280=>187|281=>188|282=>189|287=>203|316=>204|171=>174|205=>205|321=>212|322=>213|243=>193|246=>206|283=>214|284=>215|285=>216|286=>217|129=>223|317=>222|318=>224|319=>225|320=>226|337=>233|338=>234|n=>n,fun|9=>9|3=>3|75=>164|76=>165|4=>4|5=>5|167=>217|37=>48|0=>0|85=>218|2=>2|168=>220|53=>232|175=>233|46=>235|210=>238|127=>246|145=>249|143=>247|21=>21|171=>250|173=>253|212=>257|51=>258|20=>20|213=>259|232=>271|233=>272|80=>81|n=>n,fun|15=>0|16=>1|17=>2|18=>6|19=>7|n=>n⟩
theorem Tryz.BL:Go.Proofs.Lays.n172 Tryz.prog Tryz.u5:={
 mixed:=by kernel_rfl,
 f129:=Tryz.func223.trans (congrArg some (by kernel_rfl)),
 f171:=Tryz.func174.trans (congrArg some (by kernel_rfl)),
 f172:=Tryz.func130.trans (congrArg some (by kernel_rfl)),
 f205:=Tryz.func205.trans (congrArg some (by kernel_rfl)),
 f243:=Tryz.func193.trans (congrArg some (by kernel_rfl)),
 f244:=Tryz.func163.trans (congrArg some (by kernel_rfl)),
 f245:=Tryz.func164.trans (congrArg some (by kernel_rfl)),
 f246:=Tryz.func206.trans (congrArg some (by kernel_rfl)),
 f247:=Tryz.func185.trans (congrArg some (by kernel_rfl)),
 f279:=Tryz.func186.trans (congrArg some (by kernel_rfl)),
 f280:=Tryz.func187.trans (congrArg some (by kernel_rfl)),
 f281:=Tryz.func188.trans (congrArg some (by kernel_rfl)),
 f282:=Tryz.func189.trans (congrArg some (by kernel_rfl)),
 f283:=Tryz.func214.trans (congrArg some (by kernel_rfl)),
 f284:=Tryz.func215.trans (congrArg some (by kernel_rfl)),
 f285:=Tryz.func216.trans (congrArg some (by kernel_rfl)),
 f286:=Tryz.func217.trans (congrArg some (by kernel_rfl)),
 f287:=Tryz.func203.trans (congrArg some (by kernel_rfl)),
 f316:=Tryz.func204.trans (congrArg some (by kernel_rfl)),
 f317:=Tryz.func222.trans (congrArg some (by kernel_rfl)),
 f318:=Tryz.func224.trans (congrArg some (by kernel_rfl)),
 f319:=Tryz.func225.trans (congrArg some (by kernel_rfl)),
 f320:=Tryz.func226.trans (congrArg some (by kernel_rfl)),
 f321:=Tryz.func212.trans (congrArg some (by kernel_rfl)),
 f322:=Tryz.func213.trans (congrArg some (by kernel_rfl)),
 f337:=Tryz.func233.trans (congrArg some (by kernel_rfl)),
 f338:=Tryz.func234.trans (congrArg some (by kernel_rfl)),
 t0:=Tryz.underlying0,
 a0:=Tryz.isAgg0,
 z0:=Tryz.sizeOf0,
 v0:=Tryz.zeroValue0,
 t2:=Tryz.underlying2,
 a2:=Tryz.isAgg2,
 z2:=Tryz.sizeOf2,
 v2:=Tryz.zeroValue2,
 t3:=Tryz.underlying3,
 a3:=Tryz.isAgg3,
 z3:=Tryz.sizeOf3,
 v3:=Tryz.zeroValue3,
 t4:=Tryz.underlying4,
 a4:=Tryz.isAgg4,
 z4:=Tryz.sizeOf4,
 v4:=Tryz.zeroValue4,
 t5:=Tryz.underlying5,
 a5:=Tryz.isAgg5,
 z5:=Tryz.sizeOf5,
 v5:=Tryz.zeroValue5,
 t9:=Tryz.underlying9,
 a9:=Tryz.isAgg9,
 z9:=Tryz.sizeOf9,
 v9:=Tryz.zeroValue9,
 t20:=Tryz.underlying20,
 a20:=Tryz.isAgg20,
 z20:=Tryz.sizeOf20,
 v20:=Tryz.zeroValue20,
 t21:=Tryz.underlying21,
 a21:=Tryz.isAgg21,
 z21:=Tryz.sizeOf21,
 v21:=Tryz.zeroValue21,
 t37:=Tryz.underlying48,
 a37:=Tryz.isAgg48,
 z37:=Tryz.sizeOf48,
 v37:=Tryz.zeroValue48,
 t46:=Tryz.underlying235,
 a46:=Tryz.isAgg235,
 z46:=Tryz.sizeOf235,
 v46:=Tryz.zeroValue235,
 t51:=Tryz.underlying258,
 a51:=Tryz.isAgg258,
 z51:=Tryz.sizeOf258,
 v51:=Tryz.zeroValue258,
 t53:=Tryz.underlying232,
 a53:=Tryz.isAgg232,
 z53:=Tryz.sizeOf232,
 v53:=Tryz.zeroValue232,
 t75:=Tryz.underlying164,
 a75:=Tryz.isAgg164,
 z75:=Tryz.sizeOf164,
 v75:=Tryz.zeroValue164,
 t76:=Tryz.underlying165,
 a76:=Tryz.isAgg165,
 z76:=Tryz.sizeOf165,
 v76:=Tryz.zeroValue165,
 t85:=Tryz.underlying218,
 a85:=Tryz.isAgg218,
 z85:=Tryz.sizeOf218,
 v85:=Tryz.zeroValue218,
 t127:=Tryz.underlying246,
 a127:=Tryz.isAgg246,
 z127:=Tryz.sizeOf246,
 v127:=Tryz.zeroValue246,
 t143:=Tryz.underlying247,
 a143:=Tryz.isAgg247,
 z143:=Tryz.sizeOf247,
 v143:=Tryz.zeroValue247,
 t145:=Tryz.underlying249,
 a145:=Tryz.isAgg249,
 z145:=Tryz.sizeOf249,
 v145:=Tryz.zeroValue249,
 t167:=Tryz.underlying217,
 a167:=Tryz.isAgg217,
 z167:=Tryz.sizeOf217,
 v167:=Tryz.zeroValue217,
 t168:=Tryz.underlying220,
 a168:=Tryz.isAgg220,
 z168:=Tryz.sizeOf220,
 v168:=Tryz.zeroValue220,
 t171:=Tryz.underlying250,
 a171:=Tryz.isAgg250,
 z171:=Tryz.sizeOf250,
 v171:=Tryz.zeroValue250,
 t173:=Tryz.underlying253,
 a173:=Tryz.isAgg253,
 z173:=Tryz.sizeOf253,
 v173:=Tryz.zeroValue253,
 t175:=Tryz.underlying233,
 a175:=Tryz.isAgg233,
 z175:=Tryz.sizeOf233,
 v175:=Tryz.zeroValue233,
 t210:=Tryz.underlying238,
 a210:=Tryz.isAgg238,
 z210:=Tryz.sizeOf238,
 v210:=Tryz.zeroValue238,
 t212:=Tryz.underlying257,
 a212:=Tryz.isAgg257,
 z212:=Tryz.sizeOf257,
 v212:=Tryz.zeroValue257,
 t213:=Tryz.underlying259,
 a213:=Tryz.isAgg259,
 z213:=Tryz.sizeOf259,
 t232:=Tryz.underlying271,
 a232:=Tryz.isAgg271,
 z232:=Tryz.sizeOf271,
 v232:=Tryz.zeroValue271,
 t233:=Tryz.underlying272,
 a233:=Tryz.isAgg272,
 z233:=Tryz.sizeOf272,
 v233:=Tryz.zeroValue272,
 g15:=by kernel_rfl,
 g16:=by kernel_rfl,
 g17:=by kernel_rfl,
 g18:=by kernel_rfl,
 g19:=by kernel_rfl}
def Tryz.tu:Go.Shelf.Ren:=⟨fun|171=>174|243=>193|246=>206|283=>214|284=>215|285=>216|286=>217|129=>223|317=>222|318=>224|319=>225|320=>226|337=>233|338=>234|n=>n,fun|3=>3|9=>9|2=>2|4=>4|171=>250|0=>0|53=>232|37=>48|5=>5|173=>253|212=>257|51=>258|20=>20|213=>259|46=>235|232=>271|233=>272|n=>n,fun|17=>2|18=>6|19=>7|n=>n⟩
theorem Tryz.zZ:Go.Proofs.LaysM.n171 Tryz.prog Tryz.tu:={
 mixed:=by kernel_rfl,
 f129:=Tryz.func223.trans (congrArg some (by kernel_rfl)),
 f171:=Tryz.func174.trans (congrArg some (by kernel_rfl)),
 f243:=Tryz.func193.trans (congrArg some (by kernel_rfl)),
 f246:=Tryz.func206.trans (congrArg some (by kernel_rfl)),
 f283:=Tryz.func214.trans (congrArg some (by kernel_rfl)),
 f284:=Tryz.func215.trans (congrArg some (by kernel_rfl)),
 f285:=Tryz.func216.trans (congrArg some (by kernel_rfl)),
 f286:=Tryz.func217.trans (congrArg some (by kernel_rfl)),
 f317:=Tryz.func222.trans (congrArg some (by kernel_rfl)),
 f318:=Tryz.func224.trans (congrArg some (by kernel_rfl)),
 f319:=Tryz.func225.trans (congrArg some (by kernel_rfl)),
 f320:=Tryz.func226.trans (congrArg some (by kernel_rfl)),
 f337:=Tryz.func233.trans (congrArg some (by kernel_rfl)),
 f338:=Tryz.func234.trans (congrArg some (by kernel_rfl)),
 t0:=Tryz.underlying0,
 a0:=Tryz.isAgg0,
 z0:=Tryz.sizeOf0,
 v0:=Tryz.zeroValue0,
 t2:=Tryz.underlying2,
 a2:=Tryz.isAgg2,
 z2:=Tryz.sizeOf2,
 v2:=Tryz.zeroValue2,
 t3:=Tryz.underlying3,
 a3:=Tryz.isAgg3,
 z3:=Tryz.sizeOf3,
 v3:=Tryz.zeroValue3,
 t4:=Tryz.underlying4,
 a4:=Tryz.isAgg4,
 z4:=Tryz.sizeOf4,
 v4:=Tryz.zeroValue4,
 t5:=Tryz.underlying5,
 a5:=Tryz.isAgg5,
 z5:=Tryz.sizeOf5,
 v5:=Tryz.zeroValue5,
 t9:=Tryz.underlying9,
 a9:=Tryz.isAgg9,
 z9:=Tryz.sizeOf9,
 v9:=Tryz.zeroValue9,
 t20:=Tryz.underlying20,
 a20:=Tryz.isAgg20,
 z20:=Tryz.sizeOf20,
 v20:=Tryz.zeroValue20,
 t37:=Tryz.underlying48,
 a37:=Tryz.isAgg48,
 z37:=Tryz.sizeOf48,
 v37:=Tryz.zeroValue48,
 t46:=Tryz.underlying235,
 a46:=Tryz.isAgg235,
 z46:=Tryz.sizeOf235,
 v46:=Tryz.zeroValue235,
 t51:=Tryz.underlying258,
 a51:=Tryz.isAgg258,
 z51:=Tryz.sizeOf258,
 v51:=Tryz.zeroValue258,
 t53:=Tryz.underlying232,
 a53:=Tryz.isAgg232,
 z53:=Tryz.sizeOf232,
 v53:=Tryz.zeroValue232,
 t171:=Tryz.underlying250,
 a171:=Tryz.isAgg250,
 z171:=Tryz.sizeOf250,
 v171:=Tryz.zeroValue250,
 t173:=Tryz.underlying253,
 a173:=Tryz.isAgg253,
 z173:=Tryz.sizeOf253,
 v173:=Tryz.zeroValue253,
 t212:=Tryz.underlying257,
 a212:=Tryz.isAgg257,
 z212:=Tryz.sizeOf257,
 v212:=Tryz.zeroValue257,
 t213:=Tryz.underlying259,
 a213:=Tryz.isAgg259,
 z213:=Tryz.sizeOf259,
 t232:=Tryz.underlying271,
 a232:=Tryz.isAgg271,
 z232:=Tryz.sizeOf271,
 v232:=Tryz.zeroValue271,
 t233:=Tryz.underlying272,
 a233:=Tryz.isAgg272,
 z233:=Tryz.sizeOf272,
 v233:=Tryz.zeroValue272,
 g17:=by kernel_rfl,
 g18:=by kernel_rfl,
 g19:=by kernel_rfl,
 i0:=by kernel_rfl,
 i2:=by kernel_rfl,
 i3:=by kernel_rfl,
 i4:=by kernel_rfl,
 i5:=by kernel_rfl,
 i9:=by kernel_rfl,
 i20:=by kernel_rfl,
 i37:=by kernel_rfl,
 i46:=by kernel_rfl,
 i51:=by kernel_rfl,
 i53:=by kernel_rfl,
 i171:=by kernel_rfl,
 i173:=by kernel_rfl,
 i212:=by kernel_rfl,
 i232:=by kernel_rfl,
 i233:=by kernel_rfl,
 m17:=by kernel_rfl,
 m18:=by kernel_rfl,
 m19:=by kernel_rfl}
end Go.Proofs
namespace Go.Proofs.Trees
open Go Go.VL
noncomputable section
def IG:List (Nat×TI):=[
 (0,⟨false,[],false,0,.tuple [],false⟩),
 (2,⟨true,[.int .i64],false,8,.num .i64,false⟩),
 (3,⟨true,[.int .i64],false,8,.num .i64,false⟩),
 (4,⟨true,[.bool],false,1,.bl,false⟩),
 (5,⟨true,[.int .u8],false,1,.num .u8,false⟩),
 (9,⟨true,[.str],false,16,.str,false⟩),
 (20,⟨true,[.ka],false,16,.other,false⟩),
 (21,⟨true,[.int .i32],false,4,.num .i32,false⟩),
 (22,⟨true,[.sl],false,24,.slice 9,false⟩),
 (24,⟨true,[.str,.sl,.str],true,56,.struct [(0,9),(1,22),(2,9)],false⟩),
 (26,⟨true,[.sl],false,24,.slice 3,false⟩),
 (27,⟨false,[],false,0,.tuple [26,4],false⟩),
 (29,⟨true,[.str,.sl,.str],true,56,.struct [(0,9),(1,22),(2,9)],false⟩),
 (37,⟨true,[.sl,.str,.str],true,56,.struct [(0,26),(1,9),(2,9)],false⟩),
 (39,⟨false,[],false,0,.tuple [9,4],false⟩),
 (41,⟨true,[.sl,.str,.str],true,56,.struct [(0,26),(1,9),(2,9)],false⟩),
 (45,⟨false,[],false,0,.tuple [29,4],false⟩),
 (48,⟨true,[.sl],false,24,.slice 5,false⟩),
 (49,⟨false,[],false,0,.tuple [9,9],false⟩),
 (62,⟨true,[.ptr],false,8,.pt,true⟩),
 (64,⟨true,[.ptr],false,8,.pt,true⟩),
 (65,⟨true,[.sl],false,24,.slice 66,false⟩),
 (66,⟨true,[.ptr],false,8,.pt,true⟩),
 (68,⟨true,[.str,.ptr,.sl,.ptr],true,56,.struct [(0,9),(1,64),(2,65),(3,66)],false⟩),
 (79,⟨true,[.ptr],false,8,.pt,true⟩),
 (83,⟨true,[.sl],false,24,.slice 97,false⟩),
 (85,⟨true,[.sl],false,24,.slice 91,false⟩),
 (86,⟨false,[],false,0,.tuple [85,4],false⟩),
 (88,⟨false,[],false,0,.tuple [64,66],false⟩),
 (91,⟨true,[.str,.str],true,32,.struct [(0,9),(1,9)],false⟩),
 (97,⟨true,[.ptr,.ptr],true,16,.struct [(0,66),(1,66)],false⟩),
 (98,⟨true,[.ka],false,8,.other,false⟩),
 (105,⟨true,[.sl,.int .i64],true,32,.struct [(0,48),(1,3)],false⟩),
 (109,⟨true,[.int .u8,.str,.ptr,.ptr],true,40,.struct [(0,5),(1,9),(2,66),(3,66)],false⟩),
 (110,⟨true,[.ptr],false,8,.pt,true⟩),
 (112,⟨true,[.ptr,.ptr],true,16,.struct [(0,64),(1,110)],false⟩),
 (113,⟨true,[.ptr],false,8,.pt,true⟩),
 (114,⟨false,[],false,0,.tuple [112,113],false⟩),
 (118,⟨true,[.str,.ptr],true,24,.struct [(0,9),(1,113)],false⟩),
 (119,⟨true,[.sl],false,24,.slice 121,false⟩),
 (121,⟨true,[.str,.sl],true,40,.struct [(0,9),(1,119)],false⟩),
 (122,⟨false,[],false,0,.tuple [121,4],false⟩),
 (125,⟨true,[.sl],false,24,.slice 157,false⟩),
 (139,⟨true,[.int .u8,.str,.int .i64,.ptr,.ptr],true,48,.struct [(0,5),(1,9),(2,3),(3,64),(4,64)],false⟩),
 (140,⟨false,[],false,0,.tuple [64,4],false⟩),
 (144,⟨true,[.ptr,.ptr],true,16,.struct [(0,112)],false⟩),
 (146,⟨true,[.ptr,.ptr],true,16,.struct [(0,113),(1,110)],false⟩),
 (148,⟨true,[.ka],false,8,.other,false⟩),
 (149,⟨true,[.ka],false,8,.other,false⟩),
 (155,⟨true,[.sl],false,24,.slice 211,false⟩),
 (157,⟨true,[.str,.sl,.str,.sl],true,80,.struct [(0,121),(2,121)],false⟩),
 (160,⟨true,[.ptr],false,8,.pt,true⟩),
 (164,⟨true,[.ka],false,16,.other,false⟩),
 (165,⟨false,[],false,0,.tuple [3,164],false⟩),
 (172,⟨true,[.ka],false,8,.other,false⟩),
 (175,⟨true,[.ptr],false,8,.pt,true⟩),
 (177,⟨true,[.sl,.int .i64],true,32,.struct [(0,22),(1,3)],false⟩),
 (179,⟨true,[.ptr],false,8,.pt,true⟩),
 (181,⟨true,[.int .i64,.bool],true,16,.struct [(0,3),(1,4)],false⟩),
 (187,⟨false,[],false,0,.tuple [121,3],false⟩),
 (190,⟨false,[],false,0,.tuple [121,155],false⟩),
 (194,⟨false,[],false,0,.tuple [160,9],false⟩),
 (196,⟨true,[.sl],false,24,.slice 160,false⟩),
 (198,⟨true,[.str,.sl],true,40,.struct [(0,9),(1,196)],false⟩),
 (208,⟨true,[.ka],false,8,.other,false⟩),
 (211,⟨true,[.str,.str,.sl,.sl],true,80,.struct [(0,9),(1,121),(3,155)],false⟩),
 (214,⟨true,[.ka],false,8,.other,false⟩),
 (218,⟨false,[],false,0,.tuple [2,164],false⟩),
 (220,⟨true,[.ptr],false,8,.pt,true⟩),
 (228,⟨false,[],false,0,.tuple [227,4],false⟩),
 (231,⟨true,[.ptr],false,8,.pt,true⟩),
 (232,⟨true,[.int .u64],false,8,.num .u64,false⟩),
 (233,⟨false,[],false,0,.tuple [232,164],false⟩),
 (235,⟨true,[.int .u64],false,8,.num .u64,false⟩),
 (238,⟨true,[.str,.str,.ka],true,48,.struct [(0,9),(1,9),(2,164)],false⟩),
 (242,⟨false,[],false,0,.tuple [21,3],false⟩),
 (246,⟨true,[.ptr],false,8,.pt,true⟩),
 (247,⟨true,[.ptr],false,8,.pt,true⟩),
 (249,⟨true,[.str],true,16,.struct [(0,9)],false⟩),
 (250,⟨true,[.int .u8,.int .u8,.int .u8,.int .u8,.int .u8,.int .u8,.int .u8,.int .u8,.int .u8,.int .u8,.int .u8,.int .u8,.int .u8,.int .u8,.int .u8,.int .u8,.int .u8,.int .u8,.int .u8,.int .u8,.int .u8,.int .u8,.int .u8,.int .u8],true,24,.array 24 5,false⟩),
 (253,⟨false,[],false,0,.tuple [48,9],false⟩),
 (257,⟨true,[.int .u64,.int .u64,.int .u64,.int .u64,.int .u64,.int .u64,.int .u64,.int .u64,.int .u64,.int .u64,.int .u64,.int .u64,.int .u64,.int .u64,.int .u64,.int .u64,.int .u64,.int .u64,.int .u64,.int .u64],true,160,.array 20 232,false⟩),
 (258,⟨true,[.int .u32],false,4,.num .u32,false⟩),
 (265,⟨true,[.int .u8,.int .u8],true,2,.struct [(0,5),(1,5)],false⟩),
 (266,⟨true,[.int .u8,.int .u8,.int .u8,.int .u8,.int .u8,.int .u8,.int .u8,.int .u8,.int .u8,.int .u8,.int .u8,.int .u8,.int .u8,.int .u8,.int .u8,.int .u8,.int .u8,.int .u8,.int .u8,.int .u8,.int .u8,.int .u8,.int .u8,.int .u8,.int .u8,.int .u8,.int .u8,.int .u8,.int .u8,.int .u8,.int .u8,.int .u8],true,32,.array 16 265,false⟩),
 (269,⟨false,[],false,0,.tuple [258,258],false⟩),
 (271,⟨true,[.int .u8,.int .u8,.int .u8,.int .u8,.int .u8,.int .u8,.int .u8,.int .u8,.int .u8,.int .u8,.int .u8,.int .u8,.int .u8,.int .u8,.int .u8,.int .u8,.int .u8,.int .u8,.int .u8,.int .u8,.int .u8,.int .u8,.int .u8,.int .u8,.int .u8,.int .u8,.int .u8,.int .u8,.int .u8,.int .u8,.int .u8,.int .u8],true,32,.array 32 5,false⟩)]
def LA(t:Nat):TI:=wV IG t
abbrev ez:Func:=Tryz.f86
abbrev p6:Func:=Tryz.f130
abbrev pP:Func:=Tryz.f174
abbrev pT:Func:=Tryz.f184
abbrev mS:Func:=Tryz.f195
def Pa:List (Nat×FC):=[(181,{mu:=[(1,.one (.obj [.vec 1]))],own:=[]}),(137,{mu:=[(2,.one (.vec))],own:=[0]}),(18200180,{mu:=[(1,.fn [some (.obj [.vec 1])])],own:=[]}),(112,{mu:=[(2,.one (.obj [.vec 2]))],own:=[]}),(11600112,{mu:=[(1,.fn [some (.obj [.lk .ptr])]),(2,.one (.obj [.vec 2]))],own:=[]}),(11700112,{mu:=[(1,.fn [some (.obj [.lk .ptr])]),(2,.one (.obj [.vec 2]))],own:=[]}),(11900112,{mu:=[(1,.fn [some (.obj [.lk .ptr])]),(2,.one (.obj [.vec 2]))],own:=[]}),(12100112,{mu:=[(1,.fn [some (.obj [.lk .ptr,.lk .ptr])]),(2,.one (.obj [.vec 2]))],own:=[]}),(115,{mu:=[(1,.one (.obj [.lk .ptr]))],own:=[]}),(116,{mu:=[(1,.one (.obj [.lk .ptr]))],own:=[]}),(118,{mu:=[(1,.one (.obj [.lk .ptr]))],own:=[]}),(120,{mu:=[(1,.one (.obj [.lk .ptr,.lk .ptr]))],own:=[]}),(176,{mu:=[(2,.ub 176 [none,some 0,some 1]),(3,.one (.obj [.lk .sl])),(4,.one (.obj [.lk (.int .i64)]))],own:=[]}),(126,{mu:=[(2,.one (.vec))],own:=[0]}),(81,{mu:=[(0,.one (.obj [.lk .sl,.lk (.int .i64)]))],own:=[]}),(143,{mu:=[(3,.one (.obj [.vec 1,.lk (.int .i64)]))],own:=[]}),(102,{mu:=[(0,.one (.obj [.lk .sl,.lk (.int .i64)]))],own:=[]}),(62,{mu:=[],own:=[0],ow:=[.sl,.int .i64]}),(16,{mu:=[(0,.one (.cy false [.vec 1]))],own:=[]}),(50,{mu:=[(0,.one (.cy false [.vec 1]))],own:=[]}),(146,{mu:=[(0,.one (.obj [.lk (.int .i64),.lk .bool]))],own:=[]}),(147,{mu:=[(0,.one (.obj [.lk (.int .i64),.lk .bool]))],own:=[]}),(148,{mu:=[(0,.one (.obj [.lk (.int .i64),.lk .bool]))],own:=[]}),(136,{mu:=[(0,.one (.obj [.lk .sl,.lk (.int .i64)]))],own:=[]}),(80,{mu:=[(0,.one (.obj [.lk .sl,.lk (.int .i64)]))],own:=[]}),(135,{mu:=[(0,.one (.obj [.lk .sl,.lk (.int .i64)]))],own:=[]}),(105,{mu:=[(0,.one (.obj [.lk .sl,.lk (.int .i64)]))],own:=[]}),(83,{mu:=[(0,.one (.obj [.lk .sl,.lk (.int .i64)]))],own:=[]}),(103,{mu:=[(0,.one (.obj [.lk .sl,.lk (.int .i64)]))],own:=[]}),(82,{mu:=[(0,.one (.obj [.lk .sl,.lk (.int .i64)]))],own:=[]}),(61,{mu:=[(0,.one (.obj [.lk .sl,.lk (.int .i64)]))],own:=[]}),(67,{mu:=[(0,.one (.obj [.lk .sl,.lk (.int .i64)]))],own:=[]}),(15,{mu:=[(0,.one (.cy true [.lk .str,.vec 1,.lk .str]))],own:=[]}),(27,{mu:=[],own:=[0],oa:=[.lk .str,.vec 1,.lk .str]}),(31,{mu:=[],own:=[0],oa:=[.lk .str,.vec 1,.lk .str]}),(55,{mu:=[],own:=[0],oa:=[.lk .str,.vec 1,.lk .str]}),(35,{mu:=[],own:=[0],oa:=[.lk .str,.vec 1,.lk .str]}),(24,{mu:=[],own:=[0],oa:=[.lk .str,.vec 1,.lk .str]}),(38,{mu:=[],own:=[0],oa:=[.lk .str,.vec 1,.lk .str]}),(58,{mu:=[],own:=[0],oa:=[.lk .str,.vec 1,.lk .str]}),(12,{mu:=[],own:=[0]}),(44,{mu:=[],own:=[0]}),(11,{mu:=[],own:=[0],oa:=[.lk .str,.vec 1,.lk .str]}),(54,{mu:=[],own:=[0]}),(20,{mu:=[],own:=[0],oa:=[.vec 1,.lk .str,.lk .str]}),(77,{mu:=[(1,.one (.obj [.lk .str]))],own:=[]}),(7800076,{mu:=[(1,.fn [some (.obj [.lk .str])])],own:=[]}),(48,{mu:=[(0,.one (.cy false [.vec 1]))],own:=[]})]
def cC(f:Nat):FC:=Be Pa f
theorem Cu:(IG.all fun p=>!p.2.kn||p.2.mV Tryz.prog p.1)=true:=by kernel_rfl
theorem tM:dc Tryz.prog LA:=vq Cu
theorem mixed:Tryz.prog.follows .mixedOrders=true:=by kernel_rfl
abbrev NZ(r:AV)(k:Tree):Tree:=.ak (LK.has .ptr r/\r.isNil=false) k
abbrev NP(r:AV)(k:Tree):Tree:=.ak (LK.has .ptr r) k
abbrev NS(r:AV)(k:Tree):Tree:=.ak (LK.has .str r) k
abbrev NB(r:AV)(k:Tree):Tree:=.ak (LK.has .bool r) k
abbrev NL(r:AV)(k:Tree):Tree:=.ak (LK.has .sl r) k
abbrev NI(r:AV)(k:Tree):Tree:=.ak (LK.has (.int .i64) r) k
abbrev dX(l:List AV)(k:Tree):Tree:=.ak (LK.has .ptr (l.headD .any)/\1<=l.length) k
abbrev lQ(l:List AV)(k:Tree):Tree:=.ak (LK.has .str (l.headD .any)/\1<=l.length) k
abbrev nl(l:List AV)(k:Tree):Tree:=.ak (LK.has .sl (l.headD .any)/\1<=l.length) k
abbrev NT(r:AV)(k:Tree):Tree:=.ak (r=.cA [r.comp 0,r.comp 1]) k
abbrev NA(r:AV)(k:Tree):Tree:=.ak (r=.agg r.cs/\r.cs.length=2/\bw [.str,.sl] r.cs 0) k
abbrev NE(l:List AV)(k:Tree):Tree:=.ak (bw [.str,.sl] l 0/\2<=l.length) k
abbrev NG(r:AV)(i:Int)(z:Nat)(k:Tree):Tree:=.ak (LK.has .sl r/\0<=i/\i<r.aN.length/\(r.aN.getD i.toNat []).length=z) k
abbrev RL:Type:=Nat->List AV->List Ob->Prop
abbrev VS(x:ByteArray):AV:=.v (.string x)
abbrev VI(x:Int):AV:=.v (.int .i64 x)
abbrev VB(x:Bool):AV:=.v (.bool x)
abbrev _root_.List.hA(l:List AV):AV:=l.headD .any
abbrev _root_.List.hO(l:List Ob):Ob:=l.headD .dead
abbrev _root_.Go.VL.AV.ix(a:AV)(i:Int):List AV:=a.aN.getD i.toNat []
abbrev dk(n:Nat)(t:Tree)(R:AV->List Ob->Prop):Prop:=eQ Tryz.prog n t fun _ xs obs=>R (xs.headD .any) obs
abbrev lJ(n:Nat)(t:Tree)(S:List AV->List Ob->RL->Prop)(R:RL):Prop:=eQ Tryz.prog n t (Cd (fun ys o=>S ys o R) R)
theorem gQ{n:Nat}{c:Code}{li:LI}{xs:List AV}{obs:List Ob}{R:RL}{t:Tree}(lis:List (Nat×LI))(h:eQ Tryz.prog n t (Cd (fun ys o=>cF Tryz.prog n c li ys o R) R))(e:round LA cC n lis c li xs obs=t:=by kernel_rfl):cF Tryz.prog n c li xs obs R:=cF.MM (cC:=cC) (lis:=lis) tM mixed e h
theorem MP(n:Nat)(t:Tree)(R:AV->List Ob->Prop):dk n t R=eQ Tryz.prog n t fun _ xs obs=>R (xs.headD .any) obs:=rfl
theorem OM(n:Nat)(t:Tree)(S:List AV->List Ob->RL->Prop)(R:RL):lJ n t S R=eQ Tryz.prog n t (Cd (fun ys o=>S ys o R) R):=rfl
theorem QZ(x:ByteArray):VS x=.v (.string x):=rfl
theorem QU(x:Int):VI x=.v (.int .i64 x):=rfl
theorem Q0(x:Bool):VB x=.v (.bool x):=rfl
theorem QO(l:List AV):l.hA=l.headD .any:=rfl
theorem QY(l:List Ob):l.hO=l.headD .dead:=rfl
theorem Q2(a:AV)(i:Int):a.ix i=a.aN.getD i.toNat []:=rfl
theorem oQ{f:Nat}{asq:List AV}{ins:List Ob}{R:AV->List Ob->Prop}{t:Tree}(lis:List (Nat×LI))(F:Func)(h:eQ Tryz.prog F.ntmps t fun _ xs obs=>R (xs.headD .any) obs)(hf:Tryz.prog.funcs[f]?=some F:=by kernel_rfl)(hnm:(F.name=="runtime.NumGoroutine")=false:=by kernel_rfl)(e:main LA cC lis {} F asq ins=t:=by kernel_rfl):an Tryz.prog f asq ins R:=an.MM (cC:=cC) (lis:=lis) (fc:={}) tM mixed hf hnm e h
theorem oF{f:Nat}{asq:List AV}{ins:List Ob}{R:AV->List Ob->Prop}{t:Tree}(lis:List (Nat×LI))(fc:FC)(F:Func)(h:eQ Tryz.prog F.ntmps t fun _ xs obs=>R (xs.headD .any) obs)(hf:Tryz.prog.funcs[f]?=some F:=by kernel_rfl)(hnm:(F.name=="runtime.NumGoroutine")=false:=by kernel_rfl)(e:main LA cC lis fc F asq ins=t:=by kernel_rfl):an Tryz.prog f asq ins R:=an.MM (cC:=cC) (lis:=lis) (fc:=fc) tM mixed hf hnm e h
theorem uQ{P:Program}{f:Nat}{asq bs:List AV}{R:AV->List Ob->Prop}(h:wA asq bs)(hf:an P f bs [] R):an P f asq [] R:=an.ni ct (an.up h hf)
theorem QV(r:AV)(k:Tree):NZ r k=.ak (LK.has .ptr r/\r.isNil=false) k:=rfl
theorem QF(r:AV)(k:Tree):NP r k=.ak (LK.has .ptr r) k:=rfl
theorem Q1(r:AV)(k:Tree):NS r k=.ak (LK.has .str r) k:=rfl
theorem QH(r:AV)(k:Tree):NB r k=.ak (LK.has .bool r) k:=rfl
theorem QW(r:AV)(k:Tree):NL r k=.ak (LK.has .sl r) k:=rfl
theorem QG(r:AV)(k:Tree):NI r k=.ak (LK.has (.int .i64) r) k:=rfl
theorem Pq(l:List AV)(k:Tree):dX l k=.ak (LK.has .ptr (l.headD .any)/\1<=l.length) k:=rfl
theorem PZ(l:List AV)(k:Tree):lQ l k=.ak (LK.has .str (l.headD .any)/\1<=l.length) k:=rfl
theorem N6(l:List AV)(k:Tree):nl l k=.ak (LK.has .sl (l.headD .any)/\1<=l.length) k:=rfl
theorem Q3(r:AV)(k:Tree):NT r k=.ak (r=.cA [r.comp 0,r.comp 1]) k:=rfl
theorem QM(r:AV)(k:Tree):NA r k=.ak (r=.agg r.cs/\r.cs.length=2/\bw [.str,.sl] r.cs 0) k:=rfl
theorem QK(l:List AV)(k:Tree):NE l k=.ak (bw [.str,.sl] l 0/\2<=l.length) k:=rfl
theorem QI(r:AV)(i:Int)(z:Nat)(k:Tree):NG r i z k=.ak (LK.has .sl r/\0<=i/\i<r.aN.length/\(r.aN.getD i.toNat []).length=z) k:=rfl
set_option linter.defProp false in
def zq:=aH @QV (aH @QF (aH @Q1 (aH @QH (aH @QW (aH @QG (aH @Pq (aH @PZ (aH @N6 (aH @Q3 (aH @QM (aH @QK (aH @QI (aH @MP (aH @OM (aH @QZ (aH @QU (aH @Q0 ((aH @QO (aH @QY (aH @Q2 @zp)))))))))))))))))))))
variable {R:AV->List Ob->Prop} {U:RL}
def L7(a0:AV):Tree :=
 NL a0<|.test (decide ((a0.aN.length:Int)>(1048576:Int))) (.done 0 [VB true] []) (.call 26 [a0] [] fun r1 o1=>NT r1<|NS (r1.comp 0)<|NS (r1.comp 1)<|.call 27 [VS ((r1.comp 0).ah),VS ((r1.comp 1).ah)] [] fun r2 o2=>NT r2<|.ak ((r2.comp 0)=.agg (r2.comp 0).cs/\aL [.lk .str,.vec 1,.lk .str] ((r2.comp 0).cs) 0 0 o2)<|NB (r2.comp 1)<|.ak (∀x,x∈o2->iL x)<|.call 28 [VS ((r1.comp 0).ah),VS ((r1.comp 1).ah)] [] fun r3 o3=>NT r3<|.ak ((r3.comp 0)=.agg (r3.comp 0).cs/\(r3.comp 0).cs.length=3/\bw [.str,.sl,.str] ((r3.comp 0).cs) 0)<|NB (r3.comp 1)<|.test (!(((r2.comp 1).toBool)==((r3.comp 1).toBool))) (.test (((r2.comp 1).toBool)==((r3.comp 1).toBool)) (.call 29 [.agg [VS (((r2.comp 0).cs.getD 0 .any).ah),.sl ((o2.hO).es),VS (((r2.comp 0).cs.getD 2 .any).ah)],.agg [VS (((r3.comp 0).cs.getD 0 .any).ah),((r3.comp 0).cs.getD 1 .any),VS (((r3.comp 0).cs.getD 2 .any).ah)]] [] fun r4 o4=>NB r4<|.done 0 [VB r4.toBool] []) (.done 0 [VB false] [])) (.call 29 [.agg [VS (((r2.comp 0).cs.getD 0 .any).ah),.sl ((o2.hO).es),VS (((r2.comp 0).cs.getD 2 .any).ah)],.agg [VS (((r3.comp 0).cs.getD 0 .any).ah),((r3.comp 0).cs.getD 1 .any),VS (((r3.comp 0).cs.getD 2 .any).ah)]] [] fun r5 o5=>NB r5<|.test (!r5.toBool) (.test (((r2.comp 1).toBool)==((r3.comp 1).toBool)) (.call 29 [.agg [VS (((r2.comp 0).cs.getD 0 .any).ah),.sl ((o2.hO).es),VS (((r2.comp 0).cs.getD 2 .any).ah)],.agg [VS (((r3.comp 0).cs.getD 0 .any).ah),((r3.comp 0).cs.getD 1 .any),VS (((r3.comp 0).cs.getD 2 .any).ah)]] [] fun r6 o6=>NB r6<|.done 0 [VB r6.toBool] []) (.done 0 [VB false] [])) (.test (!((r2.comp 1).toBool)) (.test (((r2.comp 1).toBool)==((r3.comp 1).toBool)) (.call 29 [.agg [VS (((r2.comp 0).cs.getD 0 .any).ah),.sl ((o2.hO).es),VS (((r2.comp 0).cs.getD 2 .any).ah)],.agg [VS (((r3.comp 0).cs.getD 0 .any).ah),((r3.comp 0).cs.getD 1 .any),VS (((r3.comp 0).cs.getD 2 .any).ah)]] [] fun r7 o7=>NB r7<|.done 0 [VB r7.toBool] []) (.done 0 [VB false] [])) (.call 30 [.agg [VS (((r2.comp 0).cs.getD 0 .any).ah),.sl ((o2.hO).es),VS (((r2.comp 0).cs.getD 2 .any).ah)]] [] fun r8 o8=>NT r8<|NS (r8.comp 0)<|NB (r8.comp 1)<|.call 12 [.agg [VS (((r2.comp 0).cs.getD 0 .any).ah),.sl ((o2.hO).es),VS (((r2.comp 0).cs.getD 2 .any).ah)]] [] fun r9 o9=>NT r9<|.ak (r9.comp 0=.vec 0/\(o9.hO)=.vec 1 (o9.hO).es)<|NB (r9.comp 1)<|.ak (∀x,x∈o9->iL x)<|.call 31 [.agg [VS (((r2.comp 0).cs.getD 0 .any).ah),.sl ((o2.hO).es),VS (((r2.comp 0).cs.getD 2 .any).ah)]] [] fun r10 o10=>NT r10<|.ak ((r10.comp 0)=.agg (r10.comp 0).cs/\aL [.lk .str,.vec 1,.lk .str] ((r10.comp 0).cs) 0 0 o10)<|NB (r10.comp 1)<|.ak (∀x,x∈o10->iL x)<|.test ((r8.comp 1).toBool) (.test ((r9.comp 1).toBool) (.test (!((r10.comp 1).toBool)) (.test (af ((r8.comp 0).ah)==af ((r1.comp 1).ah)) (.done 0 [VB ((((o9.hO).es).length:Int)==(0:Int))] []) (.done 0 [VB false] [])) (.done 0 [VB false] [])) (.done 0 [VB false] [])) (.done 0 [VB false] [])))))
theorem OX(a0:AV)(ha0:LK.has .sl a0)(h:dk 89 (L7 a0) R):an Tryz.prog 6 [a0] [] R :=
 uQ (ag (bQ ha0) aB) (oQ [] Tryz.f6 h)
def Gr:LI:={hd:={ca:=[(4,.k .ptr)],gU:=[(5,1)]},xs:={gU:=[(5,1)]},rt:={},ex:=0}
def Lg:Code:=cW (cN Tryz.f12) 5
def JJ:List (Nat×LI):=[(5,Gr)]
def Lf(a0_0:ByteArray)(a0_1:AV)(a0_2:ByteArray):Tree :=
 .call 45 [.agg [VS a0_0,a0_1,VS a0_2]] [] fun r1 o1=>NP r1<|NP r1<|.test r1.isNil (.done 0 [.cA [.vec 0,VB false]] [.vec 1 []]) (.loop Lg Gr [r1] [.vec 1 []] (fun y4 q4=>.ak (((q4.drop 0).hO)=.vec 1 ((q4.drop 0).hO).es)<|.call 48 [.vec 0] [.vec 1 ((q4.hO).es)] fun r5 o5=>.ak ((o5.hO)=.ke 1 (o5.hO).es)<|.done 0 [.cA [.vec 0,VB true]] [.vec 1 ((o5.hO).es)]) (fun y4 q4=>.fail))
theorem Ng(a0_0:ByteArray)(a0_1:AV)(a0_2:ByteArray)(ha0_1:LK.has .sl a0_1)(h:dk 30 (Lf a0_0 a0_1 a0_2) R):an Tryz.prog 12 [.agg [VS a0_0,a0_1,VS a0_2]] [] R :=
 uQ (ag (bY (ag (az _) (ag (bQ ha0_1) (ag (az _) aB)))) aB) (oF JJ {mu:=[],own:=[0]} Tryz.f12 h)
def GY(x4:AV)(e5:List (List AV)):Tree :=
 NP x4<|.ak (Ob.vec 1 e5=.vec 1 e5)<|NZ x4<|NZ x4<|nl (x4.deref.drop 2)<|NL ((x4.deref.drop 2).hA)<|.test (decide (((((x4.deref.drop 2).hA).aN).length:Int)>(0:Int))) (.call 46 [x4] [] fun r1 o1=>NP r1<|.call 47 [x4,r1] [] fun r2 o2=>NI r2<|.ak (cV 1 [[VI r2.toInt]]/\((e5.length)+([[VI r2.toInt]]:List (List AV)).length)*8<=140737488355328)<|.done 0 [r1] [.vec 1 (e5++([[VI r2.toInt]]:List (List AV)))]) (.done 1 [] [.vec 1 e5])
abbrev Gh:=cF Tryz.prog 30 Lg Gr
theorem HL(x4:AV)(e5:List (List AV))(h:lJ 30 (GY x4 e5) Gh U):Gh [x4] [.vec 1 e5] U :=
 gQ JJ h
def KW(a0:AV):Tree :=
 .call 62 [a0] [] fun r1 o1=>.ak (r1=.ref 0 0/\(o1.hO)=.cells (o1.hO).cs/\(o1.hO).cs.length=2/\bw [.sl,.int .i64] ((o1.hO).cs) 0)<|.call 61 [.ref 0 0] [.cells [((o1.hO).cs.getD 0 .any),VI (((o1.hO).cs.getD 1 .any).toInt)]] fun r2 o2=>.ak ((o2.hO)=.cells (o2.hO).cs)<|.ak (aL [.lk .sl,.lk (.int .i64)] ((o2.hO).cs) 0 1 o2.tail)<|NT r2<|NS (r2.comp 0)<|NS (r2.comp 1)<|.done 0 [.cA [VS ((r2.comp 0).ah),VS ((r2.comp 1).ah)]] []
theorem MT(a0:AV)(ha0:LK.has .sl a0)(h:dk 9 (KW a0) R):an Tryz.prog 26 [a0] [] R :=
 uQ (ag (bQ ha0) aB) (oQ [] Tryz.f26 h)
def Ip(a0:ByteArray)(a1:ByteArray):Tree :=
 .call 63 [.agg [VS a0,.v (.slice none 0 0),VS a1]] [] fun r1 o1=>NP r1<|.call 58 [r1] [] fun r2 o2=>NT r2<|.ak ((r2.comp 0)=.agg (r2.comp 0).cs/\aL [.lk .str,.vec 1,.lk .str] ((r2.comp 0).cs) 0 0 o2)<|NB (r2.comp 1)<|.ak (∀x,x∈o2->iL x)<|.done 0 [.cA [.agg [VS (((r2.comp 0).cs.getD 0 .any).ah),.vec 0,VS (((r2.comp 0).cs.getD 2 .any).ah)],VB ((r2.comp 1).toBool)]] [.vec 1 ((o2.hO).es)]
theorem MO(a0:ByteArray)(a1:ByteArray)(h:dk 13 (Ip a0 a1) R):an Tryz.prog 27 [VS a0,VS a1] [] R :=
 uQ (ag (az _) (ag (az _) aB)) (oF [] {mu:=[],own:=[0],oa:=[.lk .str,.vec 1,.lk .str]} Tryz.f27 h)
def Ln(a0:ByteArray)(a1:ByteArray):Tree :=
 .call 64 [.agg [VS a0,.sl [],VS a1]] [] fun r1 o1=>NT r1<|.ak ((r1.comp 0)=.agg (r1.comp 0).cs/\(r1.comp 0).cs.length=3/\bw [.str,.sl,.str] ((r1.comp 0).cs) 0)<|NB (r1.comp 1)<|.done 0 [.cA [.agg [VS (((r1.comp 0).cs.getD 0 .any).ah),((r1.comp 0).cs.getD 1 .any),VS (((r1.comp 0).cs.getD 2 .any).ah)],VB ((r1.comp 1).toBool)]] []
theorem M3(a0:ByteArray)(a1:ByteArray)(h:dk 13 (Ln a0 a1) R):an Tryz.prog 28 [VS a0,VS a1] [] R :=
 uQ (ag (az _) (ag (az _) aB)) (oQ [] Tryz.f28 h)
def KY(a0_0:ByteArray)(a0_1:AV)(a0_2:ByteArray)(a1_0:ByteArray)(a1_1:AV)(a1_2:ByteArray):Tree :=
 .test (af a0_0==af a1_0) (.test (af a0_2==af a1_2) (.call 65 [a0_1,a1_1] [] fun r1 o1=>NB r1<|.done 0 [VB r1.toBool] []) (.done 0 [VB false] [])) (.done 0 [VB false] [])
theorem OB(a0_0:ByteArray)(a0_1:AV)(a0_2:ByteArray)(a1_0:ByteArray)(a1_1:AV)(a1_2:ByteArray)(ha0_1:LK.has .sl a0_1)(ha1_1:LK.has .sl a1_1)(h:dk 24 (KY a0_0 a0_1 a0_2 a1_0 a1_1 a1_2) R):an Tryz.prog 29 [.agg [VS a0_0,a0_1,VS a0_2],.agg [VS a1_0,a1_1,VS a1_2]] [] R :=
 uQ (ag (bY (ag (az _) (ag (bQ ha0_1) (ag (az _) aB)))) (ag (bY (ag (az _) (ag (bQ ha1_1) (ag (az _) aB)))) aB)) (oQ [] Tryz.f29 h)
def G0:LI:={hd:={ca:=[(4,.k .ptr)]},xs:={ca:=[(4,.k .ptr)]},rt:={},ex:=0}
def Iz:Code:=cW (cN Tryz.f30) 4
def KR:List (Nat×LI):=[(4,G0)]
def HY(a0_0:ByteArray)(a0_1:AV)(a0_2:ByteArray):Tree :=
 .call 45 [.agg [VS a0_0,a0_1,VS a0_2]] [] fun r1 o1=>NP r1<|NP r1<|.test r1.isNil (.done 0 [.cA [VS (mk []),VB false]] []) (.loop Iz G0 [r1] [] (fun y3 q3=>NP (y3.hA)<|NZ (y3.hA)<|NZ (y3.hA)<|dX ((y3.hA).deref.drop 3)<|.call 66 [(((y3.hA).deref.drop 3).hA)] [] fun r4 o4=>NS r4<|.done 0 [.cA [VS r4.ah,VB true]] []) (fun y3 q3=>.done 0 [.cA [.any,.any]] []))
theorem Oz(a0_0:ByteArray)(a0_1:AV)(a0_2:ByteArray)(ha0_1:LK.has .sl a0_1)(h:dk 22 (HY a0_0 a0_1 a0_2) R):an Tryz.prog 30 [.agg [VS a0_0,a0_1,VS a0_2]] [] R :=
 uQ (ag (bY (ag (az _) (ag (bQ ha0_1) (ag (az _) aB)))) aB) (oQ KR Tryz.f30 h)
def GF(x4:AV):Tree :=
 NP x4<|NZ x4<|NZ x4<|nl (x4.deref.drop 2)<|NL ((x4.deref.drop 2).hA)<|.test (decide (((((x4.deref.drop 2).hA).aN).length:Int)>(0:Int))) (.call 46 [x4] [] fun r1 o1=>NP r1<|.done 0 [r1] []) (.done 1 [x4] [])
abbrev GG:=cF Tryz.prog 22 Iz G0
theorem J1(x4:AV)(h:lJ 22 (GF x4) GG U):GG [x4] [] U :=
 gQ KR h
def Kh(a0_0:ByteArray)(a0_1:AV)(a0_2:ByteArray):Tree :=
 .call 45 [.agg [VS a0_0,a0_1,VS a0_2]] [] fun r1 o1=>NP r1<|.call 46 [r1] [] fun r2 o2=>NP r2<|.call 58 [r2] [] fun r3 o3=>NT r3<|.ak ((r3.comp 0)=.agg (r3.comp 0).cs/\aL [.lk .str,.vec 1,.lk .str] ((r3.comp 0).cs) 0 0 o3)<|NB (r3.comp 1)<|.ak (∀x,x∈o3->iL x)<|.done 0 [.cA [.agg [VS (((r3.comp 0).cs.getD 0 .any).ah),.vec 0,VS (((r3.comp 0).cs.getD 2 .any).ah)],VB ((r3.comp 1).toBool)]] [.vec 1 ((o3.hO).es)]
theorem O4(a0_0:ByteArray)(a0_1:AV)(a0_2:ByteArray)(ha0_1:LK.has .sl a0_1)(h:dk 10 (Kh a0_0 a0_1 a0_2) R):an Tryz.prog 31 [.agg [VS a0_0,a0_1,VS a0_2]] [] R :=
 uQ (ag (bY (ag (az _) (ag (bQ ha0_1) (ag (az _) aB)))) aB) (oF [] {mu:=[],own:=[0],oa:=[.lk .str,.vec 1,.lk .str]} Tryz.f31 h)
def Ks(a0_0:ByteArray)(a0_1:AV)(a0_2:ByteArray):Tree :=
 .call 72 [.agg [VS a0_0,a0_1,VS a0_2]] [] fun r1 o1=>NB r1<|.test (!r1.toBool) (.done 0 [VB false] []) (.call 70 [.agg [VS a0_0,a0_1,VS a0_2]] [] fun r2 o2=>NT r2<|.ak ((r2.comp 0)=.agg (r2.comp 0).cs/\(r2.comp 0).cs.length=3/\bw [.str,.sl,.str] ((r2.comp 0).cs) 0)<|NB (r2.comp 1)<|.done 0 [VB ((r2.comp 1).toBool)] [])
theorem OZ(a0_0:ByteArray)(a0_1:AV)(a0_2:ByteArray)(ha0_1:LK.has .sl a0_1)(h:dk 14 (Ks a0_0 a0_1 a0_2) R):an Tryz.prog 41 [.agg [VS a0_0,a0_1,VS a0_2]] [] R :=
 uQ (ag (bY (ag (az _) (ag (bQ ha0_1) (ag (az _) aB)))) aB) (oQ [] Tryz.f41 h)
def L4(a0_0:ByteArray)(a0_1:AV)(a0_2:ByteArray):Tree :=
 NL a0_1<|.test ((a0_1.aN.length:Int)==(0:Int)) (.done 0 [.cA [.agg [VS a0_0,a0_1,VS a0_2],VB false]] []) (.ak (LK.has .sl a0_1/\0<=(IntKind.wrap .i64 ((a0_1.aN.length:Int)-1))/\(IntKind.wrap .i64 ((a0_1.aN.length:Int)-1))<a0_1.aN.length/\(a0_1.ix (IntKind.wrap .i64 ((a0_1.aN.length:Int)-1))).length=1)<|lQ (a0_1.ix (IntKind.wrap .i64 ((a0_1.aN.length:Int)-1)))<|.call 73 [VS a0_0,VS (((a0_1.ix (IntKind.wrap .i64 ((a0_1.aN.length:Int)-1))).hA).ah),VS a0_2] [] fun r1 o1=>NT r1<|NS (r1.comp 0)<|NB (r1.comp 1)<|.ak (LK.has .sl a0_1/\0<=(0:Int)/\(0:Int)<=(IntKind.wrap .i64 ((a0_1.aN.length:Int)-1))/\(IntKind.wrap .i64 ((a0_1.aN.length:Int)-1))<=(a0_1.aN.length:Int))<|.ak (cV 1 ((a0_1.aN.take (bA (IntKind.wrap .i64 ((a0_1.aN.length:Int)-1)))).drop (bA 0))/\((([]:List (List AV)).length)+((a0_1.aN.take (bA (IntKind.wrap .i64 ((a0_1.aN.length:Int)-1)))).drop (bA 0)).length)*16<=140737488355328)<|.done 0 [.cA [.agg [VS a0_0,.sl (([]:List (List AV))++((a0_1.aN.take (bA (IntKind.wrap .i64 ((a0_1.aN.length:Int)-1)))).drop (bA 0))),VS ((r1.comp 0).ah)],VB ((r1.comp 1).toBool)]] [])
theorem Nx(a0_0:ByteArray)(a0_1:AV)(a0_2:ByteArray)(ha0_1:LK.has .sl a0_1)(h:dk 39 (L4 a0_0 a0_1 a0_2) R):an Tryz.prog 43 [.agg [VS a0_0,a0_1,VS a0_2]] [] R :=
 uQ (ag (bY (ag (az _) (ag (bQ ha0_1) (ag (az _) aB)))) aB) (oQ [] Tryz.f43 h)
def D2:LI:={hd:={ca:=[(3,.k .ptr),(4,.k .ptr)]},xs:={ca:=[(3,.k .ptr)]},rt:={ca:=[(2,.k .ptr)]},ex:=0}
def JP:Code:=cW (cN Tryz.f45) 5
def H8:List (Nat×LI):=[(5,D2)]
def Mk(a0_0:ByteArray)(a0_1:AV)(a0_2:ByteArray):Tree :=
 .call 63 [.agg [VS a0_0,a0_1,VS a0_2]] [] fun r1 o1=>NP r1<|NP r1<|.test r1.isNil (.done 0 [.v (.pointer none)] []) (.loop JP D2 [r1,r1] [] (fun y3 q3=>NP (y3.hA)<|.done 0 [(y3.hA)] []) (fun y3 q3=>NP (y3.hA)<|.done 0 [(y3.hA)] []))
theorem Oa(a0_0:ByteArray)(a0_1:AV)(a0_2:ByteArray)(ha0_1:LK.has .sl a0_1)(h:dk 21 (Mk a0_0 a0_1 a0_2) R):an Tryz.prog 45 [.agg [VS a0_0,a0_1,VS a0_2]] [] R :=
 uQ (ag (bY (ag (az _) (ag (bQ ha0_1) (ag (az _) aB)))) aB) (oQ H8 Tryz.f45 h)
def Gf(x3:AV)(x4:AV):Tree :=
 NP x3<|NP x4<|NZ x4<|NZ x4<|nl (x4.deref.drop 2)<|NL ((x4.deref.drop 2).hA)<|.test (decide (((((x4.deref.drop 2).hA).aN).length:Int)>(0:Int))) (.call 46 [x4] [] fun r1 o1=>NP r1<|NP r1<|.test r1.isNil (.done 2 [.v (.pointer none)] []) (.done 0 [x3,r1] [])) (.done 1 [x3] [])
abbrev EG:=cF Tryz.prog 21 JP D2
theorem HB(x3:AV)(x4:AV)(h:lJ 21 (Gf x3 x4) EG U):EG [x3,x4] [] U :=
 gQ H8 h
def E8(a0:AV):Tree :=
 NP a0<|.test a0.isNil (.done 0 [.v (.pointer none)] []) (NZ a0<|NZ a0<|nl (a0.deref.drop 2)<|NL ((a0.deref.drop 2).hA)<|.test (((((a0.deref.drop 2).hA).aN).length:Int)==(0:Int)) (.done 0 [.v (.pointer none)] []) (NZ a0<|NZ a0<|nl (a0.deref.drop 2)<|NL ((a0.deref.drop 2).hA)<|NZ a0<|NZ a0<|dX (a0.deref.drop 1)<|NZ a0<|NZ a0<|nl (a0.deref.drop 2)<|.ak (LK.has .sl ((a0.deref.drop 2).hA)/\0<=(IntKind.wrap .i64 (((((a0.deref.drop 2).hA).aN).length:Int)-1))/\(IntKind.wrap .i64 (((((a0.deref.drop 2).hA).aN).length:Int)-1))<((a0.deref.drop 2).hA).aN.length/\(((a0.deref.drop 2).hA).ix (IntKind.wrap .i64 (((((a0.deref.drop 2).hA).aN).length:Int)-1))).length=1)<|.ak (LK.has .ptr ((((a0.deref.drop 2).hA).ix (IntKind.wrap .i64 (((((a0.deref.drop 2).hA).aN).length:Int)-1))).hA)/\1<=(((a0.deref.drop 2).hA).ix (IntKind.wrap .i64 (((((a0.deref.drop 2).hA).aN).length:Int)-1))).length)<|NZ a0<|NZ a0<|dX (a0.deref.drop 3)<|.call 74 [((a0.deref.drop 1).hA),((((a0.deref.drop 2).hA).ix (IntKind.wrap .i64 (((((a0.deref.drop 2).hA).aN).length:Int)-1))).hA),((a0.deref.drop 3).hA)] [] fun r1 o1=>NP r1<|.call 75 [r1] [] fun r2 o2=>NI r2<|.test (decide (r2.toInt>(200:Int))) (.done 0 [.v (.pointer none)] []) (NZ a0<|NZ a0<|.ak (LK.has .str (a0.deref.hA)/\1<=a0.deref.length)<|NZ a0<|NZ a0<|dX (a0.deref.drop 1)<|NZ a0<|NZ a0<|nl (a0.deref.drop 2)<|.ak (LK.has .sl ((a0.deref.drop 2).hA)/\0<=(0:Int)/\(0:Int)<=(IntKind.wrap .i64 (((((a0.deref.drop 2).hA).aN).length:Int)-1))/\(IntKind.wrap .i64 (((((a0.deref.drop 2).hA).aN).length:Int)-1))<=((((a0.deref.drop 2).hA).aN).length:Int))<|.done 0 [.ptr [VS ((a0.deref.hA).ah),((a0.deref.drop 1).hA),.sl (((((a0.deref.drop 2).hA).aN).take (bA (IntKind.wrap .i64 (((((a0.deref.drop 2).hA).aN).length:Int)-1)))).drop (bA 0)),r1]] [])))
theorem LC(a0:AV)(ha0:LK.has .ptr a0)(h:dk 57 (E8 a0) R):an Tryz.prog 46 [a0] [] R :=
 uQ (ag (bp ha0) aB) (oQ [] Tryz.f46 h)
def JI(a0:AV)(a1:AV):Tree :=
 NZ a0<|NZ a0<|nl (a0.deref.drop 2)<|NZ a0<|NZ a0<|nl (a0.deref.drop 2)<|NL ((a0.deref.drop 2).hA)<|.ak (LK.has .sl ((a0.deref.drop 2).hA)/\0<=(IntKind.wrap .i64 (((((a0.deref.drop 2).hA).aN).length:Int)-1))/\(IntKind.wrap .i64 (((((a0.deref.drop 2).hA).aN).length:Int)-1))<((a0.deref.drop 2).hA).aN.length/\(((a0.deref.drop 2).hA).ix (IntKind.wrap .i64 (((((a0.deref.drop 2).hA).aN).length:Int)-1))).length=1)<|.ak (LK.has .ptr ((((a0.deref.drop 2).hA).ix (IntKind.wrap .i64 (((((a0.deref.drop 2).hA).aN).length:Int)-1))).hA)/\1<=(((a0.deref.drop 2).hA).ix (IntKind.wrap .i64 (((((a0.deref.drop 2).hA).aN).length:Int)-1))).length)<|.call 66 [((((a0.deref.drop 2).hA).ix (IntKind.wrap .i64 (((((a0.deref.drop 2).hA).aN).length:Int)-1))).hA)] [] fun r1 o1=>NS r1<|NZ a1<|NZ a1<|dX (a1.deref.drop 1)<|NZ a1<|NZ a1<|dX (a1.deref.drop 3)<|.call 68 [((a1.deref.drop 1).hA),((a1.deref.drop 3).hA)] [] fun r2 o2=>NL r2<|.call 76 [r2,.fn 77 [.ref 0 0]] [.cells [VS r1.ah]] fun r3 o3=>.ak ((o3.hO)=.cells (o3.hO).cs)<|.ak (aL [.lk .str] ((o3.hO).cs) 0 1 o3.tail)<|NI r3<|.done 0 [VI r3.toInt] []
theorem Of(a0:AV)(a1:AV)(ha0:LK.has .ptr a0)(ha1:LK.has .ptr a1)(h:dk 30 (JI a0 a1) R):an Tryz.prog 47 [a0,a1] [] R :=
 uQ (ag (bp ha0) (ag (bp ha1) aB)) (oQ [] Tryz.f47 h)
def Et:LI:={hd:={ca:=[(2,.k (.int .i64)),(3,.k (.int .i64))],kv:=[(0,0,1)]},xs:={kv:=[(0,0,1)]},rt:={kv:=[(0,0,1)]},ex:=0,fx:=[0]}
def I8:Code:=cW (cN Tryz.f48) 1
def Me:List (Nat×LI):=[(1,Et)]
def Ix(e0:List (List AV)):Tree :=
 .loop I8 Et [VI 0,VI (IntKind.wrap .i64 ((e0.length:Int)-1))] [.vec 1 e0] (fun y1 q1=>.ak (((((q1.drop 0).drop 0).drop 0).hO)=.vec 1 ((((q1.drop 0).drop 0).drop 0).hO).es)<|.done 0 [.any] [.ke 1 ((((q1.drop 0).drop 0).hO).es)]) (fun y1 q1=>.ak (((((q1.drop 0).drop 0).drop 0).hO)=.vec 1 ((((q1.drop 0).drop 0).drop 0).hO).es)<|.done 0 [.any] [.ke 1 ((((q1.drop 0).drop 0).hO).es)])
theorem PH(e0:List (List AV))(h:dk 28 (Ix e0) R):an Tryz.prog 48 [.vec 0] [.vec 1 e0] R :=
 an.ni (bq (gd _) ct) (an.up (ag (az _) aB) (oF Me {mu:=[(0,.one (.cy false [.vec 1]))],own:=[]} Tryz.f48 h))
def EV(x2:Int)(x3:Int)(k0:List (List AV)):Tree :=
 NI (VI x2)<|NI (VI x3)<|.ak (Ob.vec 1 k0=.vec 1 k0)<|.test (decide (x2<x3)) (.ak (0<=x3/\x3<k0.length)<|.ak (x3.toNat<k0.length/\0<(k0.getD x3.toNat []).length/\LK.has (.int .i64) ((k0.getD x3.toNat []).getD 0 .any))<|.ak (0<=x2/\x2<k0.length)<|.ak (x2.toNat<k0.length/\0<(k0.getD x2.toNat []).length/\LK.has (.int .i64) ((k0.getD x2.toNat []).getD 0 .any))<|.ak (0<=x2/\x2<k0.length)<|.ak (x2.toNat<k0.length/\0+1<=1)<|.ak (0<=x3/\x3<(k0.set x2.toNat ((k0.getD x2.toNat []).set 0 (VI (((k0.getD x3.toNat []).getD 0 .any).toInt)))).length)<|.ak (x3.toNat<(k0.set x2.toNat ((k0.getD x2.toNat []).set 0 (VI (((k0.getD x3.toNat []).getD 0 .any).toInt)))).length/\0+1<=1)<|.done 0 [VI (IntKind.wrap .i64 (x2+1)),VI (IntKind.wrap .i64 (x3-1))] [.vec 1 ((k0.set x2.toNat ((k0.getD x2.toNat []).set 0 (VI (((k0.getD x3.toNat []).getD 0 .any).toInt)))).set x3.toNat (((k0.set x2.toNat ((k0.getD x2.toNat []).set 0 (VI (((k0.getD x3.toNat []).getD 0 .any).toInt)))).getD x3.toNat []).set 0 (VI (((k0.getD x2.toNat []).getD 0 .any).toInt))))]) (.done 1 [] [.vec 1 k0])
abbrev E1:=cF Tryz.prog 28 I8 Et
theorem MZ(x2:Int)(x3:Int)(k0:List (List AV))(h:lJ 28 (EV x2 x3 k0) E1 U):E1 [VI x2,VI x3] [.vec 1 k0] U :=
 gQ Me h
def K6(a0:Int)(a1:Int)(a2:Int):Tree :=
 .test (decide (a0≥a1)) (.done 0 [VB (decide (a0<=a2))] []) (.done 0 [VB false] [])
theorem Ok(a0:Int)(a1:Int)(a2:Int)(h:dk 15 (K6 a0 a1 a2) R):an Tryz.prog 56 [VI a0,VI a1,VI a2] [] R :=
 uQ (ag (az _) (ag (az _) (ag (az _) aB))) (oQ [] Tryz.f56 h)
def FF:LI:={hd:={ca:=[(23,.k .sl),(24,.k (.int .i64)),(25,.k (.int .i64))],refs:=[(2,2),(4,4)],cq:=[(2,[.lk .str,.lk .sl,.lk .str]),(4,[.lk .str,.vec 1,.lk .str])]},xs:={refs:=[(2,2),(4,4)],cq:=[(2,[.lk .str,.lk .sl,.lk .str]),(4,[.lk .str,.vec 1,.lk .str])]},rt:={},ex:=0}
def HX:Code:=cW (cN Tryz.f58) 5
def IB:List (Nat×LI):=[(5,FF)]
def HU(a0:AV):Tree :=
 NP a0<|.test a0.isNil (.done 0 [.cA [.agg [VS (mk []),.vec 0,VS (mk [])],VB false]] [.vec 1 []]) (NZ a0<|NZ a0<|.ak (LK.has .str (a0.deref.hA)/\1<=a0.deref.length)<|NZ a0<|NZ a0<|dX (a0.deref.drop 3)<|.call 66 [((a0.deref.drop 3).hA)] [] fun r1 o1=>NS r1<|NZ a0<|NZ a0<|nl (a0.deref.drop 2)<|NL ((a0.deref.drop 2).hA)<|.loop HX FF [((a0.deref.drop 2).hA),VI ((((a0.deref.drop 2).hA).aN).length:Int),VI 0] [.cells [VS (mk []),.v (.slice none 0 0),VS (mk [])],.cells [VS ((a0.deref.hA).ah),.any,VS r1.ah],.vec 1 []] (fun y4 q4=>.ak ((q4.hO)=.cells (q4.hO).cs)<|.ak (ae [.lk .str,.lk .sl,.lk .str] ((q4.hO).cs) 0 q4.tail)<|.ak (((q4.tail.drop 0).hO)=.cells ((q4.tail.drop 0).hO).cs)<|.ak (ae [.lk .str,.vec 1,.lk .str] (((q4.tail.drop 0).hO).cs) 0 ((q4.tail.drop 0).tail))<|.done 0 [.cA [.agg [VS (((q4.tail.hO).cs.getD 0 .any).ah),.vec 0,VS (((q4.tail.hO).cs.getD 2 .any).ah)],VB true]] [.vec 1 ((q4.tail.tail.hO).es)]) (fun y4 q4=>.fail))
theorem Qi(a0:AV)(ha0:LK.has .ptr a0)(h:dk 38 (HU a0) R):an Tryz.prog 58 [a0] [] R :=
 uQ (ag (bp ha0) aB) (oF IB {mu:=[],own:=[0],oa:=[.lk .str,.vec 1,.lk .str]} Tryz.f58 h)
def FB(x23:AV)(x24:Int)(x25:Int)(o2_0:ByteArray)(o2_1:AV)(o2_2:ByteArray)(o4_0:ByteArray)(o4_1:List (List AV))(o4_2:ByteArray):Tree :=
 NL x23<|NI (VI x24)<|NI (VI x25)<|.ak (Ob.cells [VS o2_0,o2_1,VS o2_2]=.cells [VS o2_0,o2_1,VS o2_2])<|.ak (ae [.lk .str,.lk .sl,.lk .str] [VS o2_0,o2_1,VS o2_2] 0 [.cells [VS o4_0,.any,VS o4_2],.vec 1 o4_1])<|.ak (Ob.cells [VS o4_0,.any,VS o4_2]=.cells [VS o4_0,.any,VS o4_2])<|.ak (ae [.lk .str,.vec 1,.lk .str] [VS o4_0,.any,VS o4_2] 0 [.vec 1 o4_1])<|.test (decide (x25<x24)) (NG x23 x25 1<|dX (x23.ix x25)<|.call 66 [((x23.ix x25).hA)] [] fun r1 o1=>NS r1<|.ak (cV 1 [[VS r1.ah]]/\((o4_1.length)+([[VS r1.ah]]:List (List AV)).length)*16<=140737488355328)<|.done 0 [x23,VI x24,VI (IntKind.wrap .i64 (x25+1))] [.cells [VS o2_0,o2_1,VS o2_2],.cells [VS o4_0,.any,VS o4_2],.vec 1 (o4_1++([[VS r1.ah]]:List (List AV)))]) (.done 1 [] [.cells [VS o2_0,o2_1,VS o2_2],.cells [VS o4_0,.any,VS o4_2],.vec 1 o4_1])
abbrev Gk:=cF Tryz.prog 38 HX FF
theorem Lq(x23:AV)(x24:Int)(x25:Int)(o2_0:ByteArray)(o2_1:AV)(o2_2:ByteArray)(o4_0:ByteArray)(o4_1:List (List AV))(o4_2:ByteArray)(h:lJ 38 (FB x23 x24 x25 o2_0 o2_1 o2_2 o4_0 o4_1 o4_2) Gk U):Gk [x23,VI x24,VI x25] [.cells [VS o2_0,o2_1,VS o2_2],.cells [VS o4_0,.any,VS o4_2],.vec 1 o4_1] U :=
 gQ IB h
def LM(a0_0:AV)(a0_1:Int):Tree :=
 .call 80 [.ref 0 0] [.cells [a0_0,VI a0_1]] fun r1 o1=>.ak ((o1.hO)=.cells (o1.hO).cs)<|.ak (aL [.lk .sl,.lk (.int .i64)] ((o1.hO).cs) 0 1 o1.tail)<|NS r1<|.call 81 [.ref 0 0,VI 12] [.cells [((o1.hO).cs.getD 0 .any),VI (((o1.hO).cs.getD 1 .any).toInt)]] fun r2 o2=>.ak ((o2.hO)=.cells (o2.hO).cs)<|.ak (aL [.lk .sl,.lk (.int .i64)] ((o2.hO).cs) 0 1 o2.tail)<|NI r2<|.test (r2.toInt==(0:Int)) (.call 82 [.ref 0 0] [.cells [((o2.hO).cs.getD 0 .any),VI (((o2.hO).cs.getD 1 .any).toInt)]] fun r3 o3=>.ak ((o3.hO)=.cells (o3.hO).cs)<|.ak (aL [.lk .sl,.lk (.int .i64)] ((o3.hO).cs) 0 1 o3.tail)<|NT r3<|NS (r3.comp 0)<|NS (r3.comp 1)<|.done 0 [.cA [VS ((r3.comp 0).ah),VS ((r3.comp 1).ah)]] [.cells [((o3.hO).cs.getD 0 .any),VI (((o3.hO).cs.getD 1 .any).toInt)]]) (.call 83 [.ref 0 0,VS r1.ah] [.cells [((o2.hO).cs.getD 0 .any),VI (((o2.hO).cs.getD 1 .any).toInt)]] fun r4 o4=>.ak ((o4.hO)=.cells (o4.hO).cs)<|.ak (aL [.lk .sl,.lk (.int .i64)] ((o4.hO).cs) 0 1 o4.tail)<|NS r4<|.done 0 [.cA [VS r1.ah,VS r4.ah]] [.cells [((o4.hO).cs.getD 0 .any),VI (((o4.hO).cs.getD 1 .any).toInt)]])
theorem P5(a0_0:AV)(a0_1:Int)(ha0_0:LK.has .sl a0_0)(h:dk 18 (LM a0_0 a0_1) R):an Tryz.prog 61 [.ref 0 0] [.cells [a0_0,VI a0_1]] R :=
 an.ni (bq (bW (ag (bQ ha0_0) (ag (az _) aB))) ct) (an.up (ag (az _) aB) (oF [] {mu:=[(0,.one (.obj [.lk .sl,.lk (.int .i64)]))],own:=[]} Tryz.f61 h))
def Ia(a0:AV):Tree :=
 NL a0<|.test (decide ((a0.aN.length:Int)>(2000:Int))) (.ak (LK.has .sl a0/\0<=(0:Int)/\(0:Int)<=(2000:Int)/\(2000:Int)<=(a0.aN.length:Int))<|.done 0 [.ref 0 0] [.cells [.sl ((a0.aN.take (bA 2000)).drop (bA 0)),VI 0]]) (.done 0 [.ref 0 0] [.cells [a0,VI 0]])
theorem MW(a0:AV)(ha0:LK.has .sl a0)(h:dk 11 (Ia a0) R):an Tryz.prog 62 [a0] [] R :=
 uQ (ag (bQ ha0) aB) (oF [] {mu:=[],own:=[0],ow:=[.sl,.int .i64]} Tryz.f62 h)
def Ek:LI:={hd:={ca:=[(5,.k .str),(45,.k .sl),(46,.k (.int .i64)),(47,.k (.int .i64))],refs:=[(7,43)],cq:=[(43,[.lk .str,.lk .ptr,.vec 1,.lk .ptr])]},xs:={refs:=[(7,43)],cq:=[(43,[.lk .str,.lk .ptr,.vec 1,.lk .ptr])]},rt:={ca:=[(2,.k .ptr)]},ex:=0}
def KB:Code:=cW (cN Tryz.f63) 7
def H0:List (Nat×LI):=[(7,Ek)]
def LB(a0_0:ByteArray)(a0_1:AV)(a0_2:ByteArray):Tree :=
 .call 84 [VS a0_0,VS a0_2] [] fun r1 o1=>NT r1<|NP (r1.comp 0)<|NP (r1.comp 1)<|.call 85 [VS a0_0] [] fun r2 o2=>NT r2<|NS (r2.comp 0)<|NB (r2.comp 1)<|NP (r1.comp 1)<|.test ((r1.comp 1).isNil) (.done 0 [.v (.pointer none)] []) (.test (!((r2.comp 1).toBool)) (.done 0 [.v (.pointer none)] []) (NL a0_1<|.test (decide ((a0_1.aN.length:Int)>(50:Int))) (.done 0 [.v (.pointer none)] []) (NL a0_1<|.loop KB Ek [VS ((r2.comp 0).ah),a0_1,VI (a0_1.aN.length:Int),VI 0] [.cells [VS a0_0,(r1.comp 0),.any,(r1.comp 1)],.vec 1 []] (fun y5 q5=>.ak ((q5.hO)=.cells (q5.hO).cs)<|.ak (ae [.lk .str,.lk .ptr,.vec 1,.lk .ptr] ((q5.hO).cs) 0 q5.tail)<|.done 0 [.ptr [VS (((q5.hO).cs.getD 0 .any).ah),((q5.hO).cs.getD 1 .any),.sl ((q5.tail.hO).es),((q5.hO).cs.getD 3 .any)]] []) (fun y5 q5=>NP (y5.hA)<|.done 0 [(y5.hA)] []))))
theorem NJ(a0_0:ByteArray)(a0_1:AV)(a0_2:ByteArray)(ha0_1:LK.has .sl a0_1)(h:dk 71 (LB a0_0 a0_1 a0_2) R):an Tryz.prog 63 [.agg [VS a0_0,a0_1,VS a0_2]] [] R :=
 uQ (ag (bY (ag (az _) (ag (bQ ha0_1) (ag (az _) aB)))) aB) (oQ H0 Tryz.f63 h)
def GH(x5:ByteArray)(x45:AV)(x46:Int)(x47:Int)(o43_0:ByteArray)(o43_1:AV)(o43_2:List (List AV))(o43_3:AV):Tree :=
 NS (VS x5)<|NL x45<|NI (VI x46)<|NI (VI x47)<|.ak (Ob.cells [VS o43_0,o43_1,.any,o43_3]=.cells [VS o43_0,o43_1,.any,o43_3])<|.ak (ae [.lk .str,.lk .ptr,.vec 1,.lk .ptr] [VS o43_0,o43_1,.any,o43_3] 0 [.vec 1 o43_2])<|.test (decide (x47<x46)) (NG x45 x47 1<|lQ (x45.ix x47)<|.call 71 [VS x5,VS (((x45.ix x47).hA).ah),VI 100] [] fun r1 o1=>NT r1<|NP (r1.comp 0)<|NP (r1.comp 1)<|NP (r1.comp 1)<|.test ((r1.comp 1).isNil) (.done 2 [.v (.pointer none)] []) (.ak (cV 1 [[(r1.comp 1)]]/\((o43_2.length)+([[(r1.comp 1)]]:List (List AV)).length)*8<=140737488355328)<|.done 0 [VS x5,x45,VI x46,VI (IntKind.wrap .i64 (x47+1))] [.cells [VS o43_0,o43_1,.any,o43_3],.vec 1 (o43_2++([[(r1.comp 1)]]:List (List AV)))])) (.done 1 [] [.cells [VS o43_0,o43_1,.any,o43_3],.vec 1 o43_2])
abbrev FO:=cF Tryz.prog 71 KB Ek
theorem If(x5:ByteArray)(x45:AV)(x46:Int)(x47:Int)(o43_0:ByteArray)(o43_1:AV)(o43_2:List (List AV))(o43_3:AV)(h:lJ 71 (GH x5 x45 x46 x47 o43_0 o43_1 o43_2 o43_3) FO U):FO [VS x5,x45,VI x46,VI x47] [.cells [VS o43_0,o43_1,.any,o43_3],.vec 1 o43_2] U :=
 gQ H0 h
def Hz(a0_0:ByteArray)(a0_1:AV)(a0_2:ByteArray):Tree :=
 .call 41 [.agg [VS a0_0,a0_1,VS a0_2]] [] fun r1 o1=>NB r1<|.test (!r1.toBool) (.done 0 [.cA [.agg [VS (mk []),.v (.slice none 0 0),VS (mk [])],VB false]] []) (.done 0 [.cA [.agg [VS a0_0,a0_1,VS a0_2],VB true]] [])
theorem NO(a0_0:ByteArray)(a0_1:AV)(a0_2:ByteArray)(ha0_1:LK.has .sl a0_1)(h:dk 9 (Hz a0_0 a0_1 a0_2) R):an Tryz.prog 64 [.agg [VS a0_0,a0_1,VS a0_2]] [] R :=
 uQ (ag (bY (ag (az _) (ag (bQ ha0_1) (ag (az _) aB)))) aB) (oQ [] Tryz.f64 h)
def EN:LI:={hd:={ca:=[(0,.k .sl),(1,.k .sl),(5,.k (.int .i64))]},xs:={},rt:={ca:=[(4,.k .bool)]},ex:=0}
def Lx:Code:=cW (cN Tryz.f65) 4
def KU:List (Nat×LI):=[(4,EN)]
def J2(a0:AV)(a1:AV):Tree :=
 NL a0<|NL a1<|.test ((a0.aN.length:Int) != (a1.aN.length:Int)) (.done 0 [VB false] []) (.loop Lx EN [a0,a1,VI 0] [] (fun y1 q1=>.done 0 [VB true] []) (fun y1 q1=>NB (y1.hA)<|.done 0 [VB ((y1.hA).toBool)] []))
theorem Qk(a0:AV)(a1:AV)(ha0:LK.has .sl a0)(ha1:LK.has .sl a1)(h:dk 26 (J2 a0 a1) R):an Tryz.prog 65 [a0,a1] [] R :=
 uQ (ag (bQ ha0) (ag (bQ ha1) aB)) (oQ KU Tryz.f65 h)
def Ge(x0:AV)(x1:AV)(x5:Int):Tree :=
 NL x0<|NL x1<|NI (VI x5)<|NL x0<|.test (decide (x5<(x0.aN.length:Int))) (NG x0 x5 1<|lQ (x0.ix x5)<|NG x1 x5 1<|lQ (x1.ix x5)<|.test (!(af (((x0.ix x5).hA).ah)==af (((x1.ix x5).hA).ah))) (.done 2 [VB false] []) (.done 0 [x0,x1,VI (IntKind.wrap .i64 (x5+1))] [])) (.done 1 [] [])
abbrev F7:=cF Tryz.prog 26 Lx EN
theorem ME(x0:AV)(x1:AV)(x5:Int)(h:lJ 26 (Ge x0 x1 x5) F7 U):F7 [x0,x1,VI x5] [] U :=
 gQ KU h
def wm(a0:AV):Tree :=
 NZ a0<|NZ a0<|.ak (LK.has (.int .u8) (a0.deref.hA)/\1<=a0.deref.length)<|.test (((a0.deref.hA).toInt)==(117:Int)) (.done 0 [VS (mk [117])] []) (.test (((a0.deref.hA).toInt)==(101:Int)) (NZ a0<|NZ a0<|lQ (a0.deref.drop 1)<|.done 0 [VS (((a0.deref.drop 1).hA).ah)] []) (.test (((a0.deref.hA).toInt)==(112:Int)) (NZ a0<|NZ a0<|dX (a0.deref.drop 2)<|.call 66 [((a0.deref.drop 2).hA)] [] fun r1 o1=>NS r1<|.ak (ac (mk [40,112,32])+ac r1.ah<=9223372036854775807)<|.ak (ac (((mk [40,112,32]):ByteArray)++r1.ah)+ac (mk [32])<=9223372036854775807)<|NZ a0<|NZ a0<|dX (a0.deref.drop 3)<|.call 66 [((a0.deref.drop 3).hA)] [] fun r2 o2=>NS r2<|.ak (ac (((((mk [40,112,32]):ByteArray)++r1.ah):ByteArray)++(mk [32]))+ac r2.ah<=9223372036854775807)<|.ak (ac (((((((mk [40,112,32]):ByteArray)++r1.ah):ByteArray)++(mk [32])):ByteArray)++r2.ah)+ac (mk [41])<=9223372036854775807)<|.done 0 [VS (((((((((mk [40,112,32]):ByteArray)++r1.ah):ByteArray)++(mk [32])):ByteArray)++r2.ah):ByteArray)++(mk [41]))] []) (NZ a0<|NZ a0<|.ak (LK.has (.int .u8) (a0.deref.hA)/\1<=a0.deref.length)<|.ak (jd [[.v (.int .u8 ((a0.deref.hA).toInt))]])<|.ak (ac (mk [40])+ac (⟨(bytesOf [[.v (.int .u8 ((a0.deref.hA).toInt))]]).toArray⟩)<=9223372036854775807)<|.ak (ac (((mk [40]):ByteArray)++(⟨(bytesOf [[.v (.int .u8 ((a0.deref.hA).toInt))]]).toArray⟩))+ac (mk [32])<=9223372036854775807)<|NZ a0<|NZ a0<|dX (a0.deref.drop 2)<|.call 66 [((a0.deref.drop 2).hA)] [] fun r3 o3=>NS r3<|.ak (ac (((((mk [40]):ByteArray)++(⟨(bytesOf [[.v (.int .u8 ((a0.deref.hA).toInt))]]).toArray⟩)):ByteArray)++(mk [32]))+ac r3.ah<=9223372036854775807)<|.ak (ac (((((((mk [40]):ByteArray)++(⟨(bytesOf [[.v (.int .u8 ((a0.deref.hA).toInt))]]).toArray⟩)):ByteArray)++(mk [32])):ByteArray)++r3.ah)+ac (mk [41])<=9223372036854775807)<|.done 0 [VS (((((((((mk [40]):ByteArray)++(⟨(bytesOf [[.v (.int .u8 ((a0.deref.hA).toInt))]]).toArray⟩)):ByteArray)++(mk [32])):ByteArray)++r3.ah):ByteArray)++(mk [41]))] [])))
theorem zr(a0:AV)(ha0:LK.has .ptr a0)(h:dk 46 (wm a0) R):an Tryz.prog 66 [a0] [] R :=
 uQ (ag (bp ha0) aB) (oQ [] Tryz.f66 h)
def Mf(a0:AV)(a1:AV):Tree :=
 .call 86 [.agg [a0,.v (.pointer none)]] [] fun r1 o1=>NT r1<|.ak ((r1.comp 0)=.agg (r1.comp 0).cs/\(r1.comp 0).cs.length=2/\bw [.ptr,.ptr] ((r1.comp 0).cs) 0)<|NP (r1.comp 1)<|NZ a1<|NZ a1<|dX (a1.deref.drop 2)<|.call 87 [.agg [((r1.comp 0).cs.getD 0 .any),((r1.comp 0).cs.getD 1 .any)],((a1.deref.drop 2).hA),.agg [VS (mk []),(r1.comp 1)]] [] fun r2 o2=>NL r2<|.done 0 [r2] []
theorem Nc(a0:AV)(a1:AV)(ha0:LK.has .ptr a0)(ha1:LK.has .ptr a1)(h:dk 21 (Mf a0 a1) R):an Tryz.prog 68 [a0,a1] [] R :=
 uQ (ag (bp ha0) (ag (bp ha1) aB)) (oQ [] Tryz.f68 h)
def GX:LI:={hd:={refs:=[(1,1),(2,2)],cq:=[(1,[.lk .str,.lk .sl,.lk .str]),(2,[.lk .str,.lk .sl,.lk .str])]},xs:={refs:=[(1,1),(2,2)],cq:=[(1,[.lk .str,.lk .sl,.lk .str]),(2,[.lk .str,.lk .sl,.lk .str])]},rt:={ca:=[(3,.k .bool)],refs:=[(2,2)],cq:=[(2,[.lk .str,.lk .sl,.lk .str])]},ex:=0}
def IT:Code:=cW (cN Tryz.f70) 1
def MC:List (Nat×LI):=[(1,GX)]
def Ja(a0_0:ByteArray)(a0_1:AV)(a0_2:ByteArray):Tree :=
 .loop IT GX [] [.cells [VS a0_0,a0_1,VS a0_2],.cells [VS (mk []),.v (.slice none 0 0),VS (mk [])]] (fun y2 q2=>.ak ((q2.hO)=.cells (q2.hO).cs)<|.ak (ae [.lk .str,.lk .sl,.lk .str] ((q2.hO).cs) 0 q2.tail)<|.ak (((q2.tail.drop 0).hO)=.cells ((q2.tail.drop 0).hO).cs)<|.ak (ae [.lk .str,.lk .sl,.lk .str] (((q2.tail.drop 0).hO).cs) 0 ((q2.tail.drop 0).tail))<|.done 0 [.cA [.agg [VS (((q2.hO).cs.getD 0 .any).ah),((q2.hO).cs.getD 1 .any),VS (((q2.hO).cs.getD 2 .any).ah)],VB true]] []) (fun y2 q2=>NB (y2.hA)<|.ak ((q2.hO)=.cells (q2.hO).cs)<|.ak (ae [.lk .str,.lk .sl,.lk .str] ((q2.hO).cs) 0 q2.tail)<|.done 0 [.cA [.agg [VS (((q2.hO).cs.getD 0 .any).ah),((q2.hO).cs.getD 1 .any),VS (((q2.hO).cs.getD 2 .any).ah)],VB ((y2.hA).toBool)]] [])
theorem Px(a0_0:ByteArray)(a0_1:AV)(a0_2:ByteArray)(ha0_1:LK.has .sl a0_1)(h:dk 20 (Ja a0_0 a0_1 a0_2) R):an Tryz.prog 70 [.agg [VS a0_0,a0_1,VS a0_2]] [] R :=
 uQ (ag (bY (ag (az _) (ag (bQ ha0_1) (ag (az _) aB)))) aB) (oQ MC Tryz.f70 h)
def F4(o1_0:ByteArray)(o1_1:AV)(o1_2:ByteArray)(o2_0:ByteArray)(o2_1:AV)(o2_2:ByteArray):Tree :=
 .ak (Ob.cells [VS o1_0,o1_1,VS o1_2]=.cells [VS o1_0,o1_1,VS o1_2])<|.ak (ae [.lk .str,.lk .sl,.lk .str] [VS o1_0,o1_1,VS o1_2] 0 [.cells [VS o2_0,o2_1,VS o2_2]])<|.ak (Ob.cells [VS o2_0,o2_1,VS o2_2]=.cells [VS o2_0,o2_1,VS o2_2])<|.ak (ae [.lk .str,.lk .sl,.lk .str] [VS o2_0,o2_1,VS o2_2] 0 [])<|NL o1_1<|.test (decide ((o1_1.aN.length:Int)>(0:Int))) (.call 43 [.agg [VS o1_0,o1_1,VS o1_2]] [] fun r1 o1=>NT r1<|.ak ((r1.comp 0)=.agg (r1.comp 0).cs/\(r1.comp 0).cs.length=3/\bw [.str,.sl,.str] ((r1.comp 0).cs) 0)<|NB (r1.comp 1)<|.test (!((r1.comp 1).toBool)) (.done 2 [VB false] [.cells [VS o1_0,o1_1,VS o1_2]]) (.done 0 [] [.cells [VS (((r1.comp 0).cs.getD 0 .any).ah),((r1.comp 0).cs.getD 1 .any),VS (((r1.comp 0).cs.getD 2 .any).ah)],.cells [VS o2_0,o2_1,VS o2_2]])) (.done 1 [] [.cells [VS o1_0,o1_1,VS o1_2],.cells [VS o2_0,o2_1,VS o2_2]])
abbrev Eb:=cF Tryz.prog 20 IT GX
theorem Js(o1_0:ByteArray)(o1_1:AV)(o1_2:ByteArray)(o2_0:ByteArray)(o2_1:AV)(o2_2:ByteArray)(h:lJ 20 (F4 o1_0 o1_1 o1_2 o2_0 o2_1 o2_2) Eb U):Eb [] [.cells [VS o1_0,o1_1,VS o1_2],.cells [VS o2_0,o2_1,VS o2_2]] U :=
 gQ MC h
def Kq(a0:ByteArray)(a1:ByteArray)(a2:Int):Tree :=
 .call 93 [VS a0] [] fun r1 o1=>NP r1<|.call 94 [VS a1] [] fun r2 o2=>NP r2<|NP r1<|.test r1.isNil (.done 0 [.cA [r1,.v (.pointer none)]] []) (NP r2<|.test r2.isNil (.done 0 [.cA [r1,.v (.pointer none)]] []) (.test (decide (a2<(0:Int))) (.done 0 [.cA [r1,.v (.pointer none)]] []) (.test (decide (a2>(100:Int))) (.done 0 [.cA [r1,.v (.pointer none)]] []) (.call 95 [.agg [r1,.v (.pointer none)],r2,VI a2] [] fun r3 o3=>NB r3<|.test (!r3.toBool) (.done 0 [.cA [r1,.v (.pointer none)]] []) (.done 0 [.cA [r1,r2]] [])))))
theorem Ou(a0:ByteArray)(a1:ByteArray)(a2:Int)(h:dk 39 (Kq a0 a1 a2) R):an Tryz.prog 71 [VS a0,VS a1,VI a2] [] R :=
 uQ (ag (az _) (ag (az _) (ag (az _) aB))) (oQ [] Tryz.f71 h)
def EE:LI:={hd:={ca:=[(3,.k .str),(7,.k (.int .i64))],refs:=[(1,1)],cq:=[(1,[.lk .str,.lk .sl,.lk .str])]},xs:={},rt:={ca:=[(2,.k .bool)]},ex:=0}
def I3:Code:=cW (cN Tryz.f72) 6
def Mj:List (Nat×LI):=[(6,EE)]
def II(a0_0:ByteArray)(a0_1:AV)(a0_2:ByteArray):Tree :=
 .call 96 [VS a0_0] [] fun r1 o1=>NT r1<|NS (r1.comp 0)<|NB (r1.comp 1)<|.call 88 [VS a0_0] [] fun r2 o2=>NT r2<|.ak ((r2.comp 0)=.agg (r2.comp 0).cs/\(r2.comp 0).cs.length=2/\bw [.str,.sl] ((r2.comp 0).cs) 0)<|NB (r2.comp 1)<|.test (!((r1.comp 1).toBool)) (.done 0 [VB false] []) (.test (!((r2.comp 1).toBool)) (.done 0 [VB false] []) (NL a0_1<|.test (decide ((a0_1.aN.length:Int)>(50:Int))) (.done 0 [VB false] []) (.call 90 [VS a0_0,VS a0_2,VI 100] [] fun r3 o3=>NB r3<|.test (!r3.toBool) (.done 0 [VB false] []) (.loop I3 EE [VS ((r1.comp 0).ah),VI 0] [.cells [VS a0_0,a0_1,VS a0_2]] (fun y5 q5=>.done 0 [VB true] []) (fun y5 q5=>NB (y5.hA)<|.done 0 [VB ((y5.hA).toBool)] [])))))
theorem MU(a0_0:ByteArray)(a0_1:AV)(a0_2:ByteArray)(ha0_1:LK.has .sl a0_1)(h:dk 55 (II a0_0 a0_1 a0_2) R):an Tryz.prog 72 [.agg [VS a0_0,a0_1,VS a0_2]] [] R :=
 uQ (ag (bY (ag (az _) (ag (bQ ha0_1) (ag (az _) aB)))) aB) (oQ Mj Tryz.f72 h)
def GU(x3:ByteArray)(x7:Int)(o1_0:ByteArray)(o1_1:AV)(o1_2:ByteArray):Tree :=
 NS (VS x3)<|NI (VI x7)<|.ak (Ob.cells [VS o1_0,o1_1,VS o1_2]=.cells [VS o1_0,o1_1,VS o1_2])<|.ak (ae [.lk .str,.lk .sl,.lk .str] [VS o1_0,o1_1,VS o1_2] 0 [])<|NL o1_1<|.test (decide (x7<(o1_1.aN.length:Int))) (NG o1_1 x7 1<|lQ (o1_1.ix x7)<|.call 90 [VS x3,VS (((o1_1.ix x7).hA).ah),VI 100] [] fun r1 o1=>NB r1<|.test (!r1.toBool) (.done 2 [VB false] []) (.done 0 [VS x3,VI (IntKind.wrap .i64 (x7+1))] [.cells [VS o1_0,o1_1,VS o1_2]])) (.done 1 [] [])
abbrev E7:=cF Tryz.prog 55 I3 EE
theorem Lk(x3:ByteArray)(x7:Int)(o1_0:ByteArray)(o1_1:AV)(o1_2:ByteArray)(h:lJ 55 (GU x3 x7 o1_0 o1_1 o1_2) E7 U):E7 [VS x3,VI x7] [.cells [VS o1_0,o1_1,VS o1_2]] U :=
 gQ Mj h
def Mb(a0:ByteArray)(a1:ByteArray)(a2:ByteArray):Tree :=
 .call 88 [VS a0] [] fun r1 o1=>NT r1<|.ak ((r1.comp 0)=.agg (r1.comp 0).cs/\(r1.comp 0).cs.length=2/\bw [.str,.sl] ((r1.comp 0).cs) 0)<|NB (r1.comp 1)<|.call 96 [VS a0] [] fun r2 o2=>NT r2<|NS (r2.comp 0)<|NB (r2.comp 1)<|.test (!((r1.comp 1).toBool)) (.done 0 [.cA [VS (mk []),VB false]] []) (.test (!((r2.comp 1).toBool)) (.done 0 [.cA [VS (mk []),VB false]] []) (.call 90 [VS ((r2.comp 0).ah),VS a1,VI 100] [] fun r3 o3=>NB r3<|.test (!r3.toBool) (.done 0 [.cA [VS (mk []),VB false]] []) (.call 90 [VS a0,VS a2,VI 100] [] fun r4 o4=>NB r4<|.test (!r4.toBool) (.done 0 [.cA [VS (mk []),VB false]] []) (.call 89 [VS a1] [] fun r5 o5=>NT r5<|.ak ((r5.comp 0)=.agg (r5.comp 0).cs/\(r5.comp 0).cs.length=2/\bw [.str,.sl] ((r5.comp 0).cs) 0)<|NB (r5.comp 1)<|.call 89 [VS a2] [] fun r6 o6=>NT r6<|.ak ((r6.comp 0)=.agg (r6.comp 0).cs/\(r6.comp 0).cs.length=2/\bw [.str,.sl] ((r6.comp 0).cs) 0)<|NB (r6.comp 1)<|NG ((r1.comp 0).cs.getD 1 .any) 2 2<|NE (((r1.comp 0).cs.getD 1 .any).ix (2:Int))<|NG ((r1.comp 0).cs.getD 1 .any) 1 2<|lQ (((r1.comp 0).cs.getD 1 .any).ix (1:Int))<|.call 99 [.agg [VS (((((r1.comp 0).cs.getD 1 .any).ix (2:Int)).getD 0 .any).ah),((((r1.comp 0).cs.getD 1 .any).ix (2:Int)).getD 1 .any)],VS (((((r1.comp 0).cs.getD 1 .any).ix (1:Int)).hA).ah),.agg [VS (((r5.comp 0).cs.getD 0 .any).ah),((r5.comp 0).cs.getD 1 .any)],.agg [VS (((r6.comp 0).cs.getD 0 .any).ah),((r6.comp 0).cs.getD 1 .any)]] [] fun r7 o7=>NA r7<|.call 98 [VS (mk [102]),.sl [[VS ((r7.cs.getD 0 .any).ah),(r7.cs.getD 1 .any)]]] [] fun r8 o8=>NA r8<|.call 97 [.agg [VS ((r8.cs.getD 0 .any).ah),(r8.cs.getD 1 .any)]] [] fun r9 o9=>NS r9<|.call 90 [VS a0,VS r9.ah,VI 100] [] fun r10 o10=>NB r10<|.test (!r10.toBool) (.done 0 [.cA [VS (mk []),VB false]] []) (.done 0 [.cA [VS r9.ah,VB true]] [])))))
theorem OP(a0:ByteArray)(a1:ByteArray)(a2:ByteArray)(h:dk 75 (Mb a0 a1 a2) R):an Tryz.prog 73 [VS a0,VS a1,VS a2] [] R :=
 uQ (ag (az _) (ag (az _) (ag (az _) aB))) (oQ [] Tryz.f73 h)
def JY(a0:AV)(a1:AV)(a2:AV):Tree :=
 .call 86 [.agg [a0,.v (.pointer none)]] [] fun r1 o1=>NT r1<|.ak ((r1.comp 0)=.agg (r1.comp 0).cs/\(r1.comp 0).cs.length=2/\bw [.ptr,.ptr] ((r1.comp 0).cs) 0)<|NP (r1.comp 1)<|.call 101 [.agg [((r1.comp 0).cs.getD 0 .any),((r1.comp 0).cs.getD 1 .any)],a1,.agg [VS (mk []),(r1.comp 1)],a2] [] fun r2 o2=>NP r2<|.call 100 [.v (.int .u8 102),r2] [] fun r3 o3=>NP r3<|.done 0 [r3] []
theorem OU(a0:AV)(a1:AV)(a2:AV)(ha0:LK.has .ptr a0)(ha1:LK.has .ptr a1)(ha2:LK.has .ptr a2)(h:dk 22 (JY a0 a1 a2) R):an Tryz.prog 74 [a0,a1,a2] [] R :=
 uQ (ag (bp ha0) (ag (bp ha1) (ag (bp ha2) aB))) (oQ [] Tryz.f74 h)
def wh(a0:AV):Tree :=
 NZ a0<|NZ a0<|dX (a0.deref.drop 2)<|NP ((a0.deref.drop 2).hA)<|.test (!((a0.deref.drop 2).hA).isNil) (NZ a0<|NZ a0<|dX (a0.deref.drop 2)<|.call 75 [((a0.deref.drop 2).hA)] [] fun r1 o1=>NI r1<|NZ a0<|NZ a0<|dX (a0.deref.drop 3)<|NP ((a0.deref.drop 3).hA)<|.test (!((a0.deref.drop 3).hA).isNil) (NZ a0<|NZ a0<|dX (a0.deref.drop 3)<|.call 75 [((a0.deref.drop 3).hA)] [] fun r2 o2=>NI r2<|.done 0 [VI (IntKind.wrap .i64 ((IntKind.wrap .i64 (1+r1.toInt))+r2.toInt))] []) (.done 0 [VI (IntKind.wrap .i64 (1+r1.toInt))] [])) (NZ a0<|NZ a0<|dX (a0.deref.drop 3)<|NP ((a0.deref.drop 3).hA)<|.test (!((a0.deref.drop 3).hA).isNil) (NZ a0<|NZ a0<|dX (a0.deref.drop 3)<|.call 75 [((a0.deref.drop 3).hA)] [] fun r3 o3=>NI r3<|.done 0 [VI (IntKind.wrap .i64 (1+r3.toInt))] []) (.done 0 [VI 1] []))
theorem y7(a0:AV)(ha0:LK.has .ptr a0)(h:dk 29 (wh a0) R):an Tryz.prog 75 [a0] [] R :=
 uQ (ag (bp ha0) aB) (oQ [] Tryz.f75 h)
def FQ:LI:={hd:={ca:=[(0,.k .sl),(7,.k (.int .i64)),(8,.k (.int .i64))],cq:=[(0,[.lk .str])],zB:=[(1,77,[0])]},xs:={cq:=[(0,[.lk .str])]},rt:={ca:=[(4,.k (.int .i64))],cq:=[(0,[.lk .str])]},ex:=0,fx:=[0]}
def HN:Code:=cW (cN Tryz.f76) 2
def Mw:List (Nat×LI):=[(2,FQ)]
def IQ(a0:AV)(a1_0_0:ByteArray):Tree :=
 NL a0<|.loop HN FQ [a0,VI (a0.aN.length:Int),VI 0] [.cells [VS a1_0_0]] (fun y2 q2=>.ak ((q2.hO)=.cells (q2.hO).cs)<|.ak (ae [.lk .str] ((q2.hO).cs) 0 q2.tail)<|.done 0 [VI (-1)] [.cells [VS (((q2.hO).cs.getD 0 .any).ah)]]) (fun y2 q2=>NI (y2.hA)<|.ak ((q2.hO)=.cells (q2.hO).cs)<|.ak (ae [.lk .str] ((q2.hO).cs) 0 q2.tail)<|.done 0 [VI ((y2.hA).toInt)] [.cells [VS (((q2.hO).cs.getD 0 .any).ah)]])
theorem No(a0:AV)(a1_0_0:ByteArray)(ha0:LK.has .sl a0)(h:dk 19 (IQ a0 a1_0_0) R):an Tryz.prog 76 [a0,.fn 77 [.ref 0 0]] [.cells [VS a1_0_0]] R :=
 an.ni (bq (bW (ag (az _) aB)) ct) (an.up (ag (bQ ha0) (ag (az _) aB)) (oF Mw {mu:=[(1,.fn [some (.obj [.lk .str])])],own:=[]} Tryz.f76 h))
def Gm(x0:AV)(x7:Int)(x8:Int)(o0_0:ByteArray):Tree :=
 NL x0<|NI (VI x7)<|NI (VI x8)<|.ak (Ob.cells [VS o0_0]=.cells [VS o0_0])<|.ak (ae [.lk .str] [VS o0_0] 0 [])<|.test (decide (x8<x7)) (NG x0 x8 2<|.ak (bw [.ptr,.ptr] (x0.ix x8) 0/\2<=(x0.ix x8).length)<|.call 77 [.agg [((x0.ix x8).getD 0 .any),((x0.ix x8).getD 1 .any)],.ref 0 0] [.cells [VS o0_0]] fun r1 o1=>.ak ((o1.hO)=.cells (o1.hO).cs)<|.ak (aL [.lk .str] ((o1.hO).cs) 0 1 o1.tail)<|NB r1<|.test r1.toBool (.done 2 [VI x8] [.cells [VS (((o1.hO).cs.getD 0 .any).ah)]]) (.done 0 [x0,VI x7,VI (IntKind.wrap .i64 (x8+1))] [.cells [VS (((o1.hO).cs.getD 0 .any).ah)]])) (.done 1 [] [.cells [VS o0_0]])
abbrev Ga:=cF Tryz.prog 19 HN FQ
theorem IV(x0:AV)(x7:Int)(x8:Int)(o0_0:ByteArray)(h:lJ 19 (Gm x0 x7 x8 o0_0) Ga U):Ga [x0,VI x7,VI x8] [.cells [VS o0_0]] U :=
 gQ Mw h
def Ig(a0_0:AV)(a0_1:AV)(a1_0:ByteArray):Tree :=
 .call 66 [a0_0] [] fun r1 o1=>NS r1<|.done 0 [VB (af r1.ah==af a1_0)] [.cells [VS a1_0]]
theorem NQ(a0_0:AV)(a0_1:AV)(a1_0:ByteArray)(ha0_0:LK.has .ptr a0_0)(ha0_1:LK.has .ptr a0_1)(h:dk 9 (Ig a0_0 a0_1 a1_0) R):an Tryz.prog 77 [.agg [a0_0,a0_1],.ref 0 0] [.cells [VS a1_0]] R :=
 an.ni (bq (bW (ag (az _) aB)) ct) (an.up (ag (bY (ag (bp ha0_0) (ag (bp ha0_1) aB))) (ag (az _) aB)) (oF [] {mu:=[(1,.one (.obj [.lk .str]))],own:=[]} Tryz.f77 h))
def KT(a0:AV)(a1:ByteArray):Tree :=
 .ak (LK.has .sl a0/\cV 1 a0.aN/\((([]:List (List AV)).length)+a0.aN.length)*16<=140737488355328)<|.ak (cV 1 [[VS a1]]/\(((([]:List (List AV))++a0.aN).length)+([[VS a1]]:List (List AV)).length)*16<=140737488355328)<|.done 0 [.sl ((([]:List (List AV))++a0.aN)++([[VS a1]]:List (List AV)))] []
theorem OJ(a0:AV)(a1:ByteArray)(ha0:LK.has .sl a0)(h:dk 11 (KT a0 a1) R):an Tryz.prog 79 [a0,VS a1] [] R :=
 uQ (ag (bQ ha0) (ag (az _) aB)) (oQ [] Tryz.f79 h)
def JD(a0_0:AV)(a0_1:Int):Tree :=
 .call 102 [.ref 0 0,.sl [[VS (mk [40,114,101,99,32,116,32,40,43,32,49,32,40,42,32,120,32,116,41,41,41])],[VS (mk [40,114,101,99,32,116,32,40,43,32,120,32,40,42,32,116,32,116,41,41,41])],[VS (mk [40,114,101,99,32,116,32,40,43,32,49,32,40,42,32,116,32,40,42,32,120,32,116,41,41,41,41])],[VS (mk [40,114,101,99,32,116,32,40,43,32,49,32,116,41,41])],[VS (mk [40,114,101,99,32,116,32,40,42,32,120,32,40,114,101,99,32,116,49,32,40,43,32,49,32,40,42,32,116,32,116,49,41,41,41,41,41])],[VS (mk [40,114,101,99,32,116,48,32,40,43,32,40,42,32,120,32,121,41,32,40,43,32,116,48,32,40,42,32,116,48,32,116,48,41,41,41,41])],[VS (mk [40,114,101,99,32,116,32,40,43,32,121,32,40,42,32,116,32,40,42,32,116,32,116,41,41,41,41])]]] [.cells [a0_0,VI a0_1]] fun r1 o1=>.ak ((o1.hO)=.cells (o1.hO).cs)<|.ak (aL [.lk .sl,.lk (.int .i64)] ((o1.hO).cs) 0 1 o1.tail)<|NS r1<|.done 0 [VS r1.ah] [.cells [((o1.hO).cs.getD 0 .any),VI (((o1.hO).cs.getD 1 .any).toInt)]]
theorem PQ(a0_0:AV)(a0_1:Int)(ha0_0:LK.has .sl a0_0)(h:dk 6 (JD a0_0 a0_1) R):an Tryz.prog 80 [.ref 0 0] [.cells [a0_0,VI a0_1]] R :=
 an.ni (bq (bW (ag (bQ ha0_0) (ag (az _) aB))) ct) (an.up (ag (az _) aB) (oF [] {mu:=[(0,.one (.obj [.lk .sl,.lk (.int .i64)]))],own:=[]} Tryz.f80 h))
def Iw(a0_0:AV)(a0_1:Int)(a1:Int):Tree :=
 .test (decide (a1<(1:Int))) (.done 0 [VI 0] [.cells [a0_0,VI (IntKind.wrap .i64 (a0_1+1))]]) (NL a0_0<|.test ((a0_0.aN.length:Int)==(0:Int)) (.done 0 [VI 0] [.cells [a0_0,VI (IntKind.wrap .i64 (a0_1+1))]]) (NL a0_0<|.test (decide ((IntKind.wrap .i64 ((IntKind.wrap .i64 (a0_1+1))-1))<(a0_0.aN.length:Int))) (.ak (LK.has .sl a0_0/\0<=(IntKind.wrap .i64 ((IntKind.wrap .i64 (a0_1+1))-1))/\(IntKind.wrap .i64 ((IntKind.wrap .i64 (a0_1+1))-1))<a0_0.aN.length/\(a0_0.ix (IntKind.wrap .i64 ((IntKind.wrap .i64 (a0_1+1))-1))).length=1)<|.ak (LK.has (.int .u8) ((a0_0.ix (IntKind.wrap .i64 ((IntKind.wrap .i64 (a0_1+1))-1))).hA)/\1<=(a0_0.ix (IntKind.wrap .i64 ((IntKind.wrap .i64 (a0_1+1))-1))).length)<|.ak (¬a1=0)<|.done 0 [VI (dC (IntKind.wrap .i64 (((a0_0.ix (IntKind.wrap .i64 ((IntKind.wrap .i64 (a0_1+1))-1))).hA).toInt)) a1)] [.cells [a0_0,VI (IntKind.wrap .i64 (a0_1+1))]]) (NL a0_0<|.ak (¬(a0_0.aN.length:Int)=0)<|.ak (LK.has .sl a0_0/\0<=(dC (IntKind.wrap .i64 ((IntKind.wrap .i64 (a0_1+1))-1)) (a0_0.aN.length:Int))/\(dC (IntKind.wrap .i64 ((IntKind.wrap .i64 (a0_1+1))-1)) (a0_0.aN.length:Int))<a0_0.aN.length/\(a0_0.ix (dC (IntKind.wrap .i64 ((IntKind.wrap .i64 (a0_1+1))-1)) (a0_0.aN.length:Int))).length=1)<|.ak (LK.has (.int .u8) ((a0_0.ix (dC (IntKind.wrap .i64 ((IntKind.wrap .i64 (a0_1+1))-1)) (a0_0.aN.length:Int))).hA)/\1<=(a0_0.ix (dC (IntKind.wrap .i64 ((IntKind.wrap .i64 (a0_1+1))-1)) (a0_0.aN.length:Int))).length)<|NL a0_0<|.ak (¬(a0_0.aN.length:Int)=0)<|.ak (LK.has .sl a0_0/\0<=(dC (IntKind.wrap .i64 ((IntKind.wrap .i64 ((IntKind.wrap .i64 ((IntKind.wrap .i64 (a0_1+1))-1))*7))+3)) (a0_0.aN.length:Int))/\(dC (IntKind.wrap .i64 ((IntKind.wrap .i64 ((IntKind.wrap .i64 ((IntKind.wrap .i64 (a0_1+1))-1))*7))+3)) (a0_0.aN.length:Int))<a0_0.aN.length/\(a0_0.ix (dC (IntKind.wrap .i64 ((IntKind.wrap .i64 ((IntKind.wrap .i64 ((IntKind.wrap .i64 (a0_1+1))-1))*7))+3)) (a0_0.aN.length:Int))).length=1)<|.ak (LK.has (.int .u8) ((a0_0.ix (dC (IntKind.wrap .i64 ((IntKind.wrap .i64 ((IntKind.wrap .i64 ((IntKind.wrap .i64 (a0_1+1))-1))*7))+3)) (a0_0.aN.length:Int))).hA)/\1<=(a0_0.ix (dC (IntKind.wrap .i64 ((IntKind.wrap .i64 ((IntKind.wrap .i64 ((IntKind.wrap .i64 (a0_1+1))-1))*7))+3)) (a0_0.aN.length:Int))).length)<|NL a0_0<|.ak (¬(a0_0.aN.length:Int)=0)<|.ak (¬(64:Int)=0)<|.ak (¬a1=0)<|.done 0 [VI (dC (zK .i64 (IntKind.wrap .i64 ((IntKind.wrap .i64 ((IntKind.wrap .i64 ((IntKind.wrap .i64 ((IntKind.wrap .i64 (((a0_0.ix (dC (IntKind.wrap .i64 ((IntKind.wrap .i64 (a0_1+1))-1)) (a0_0.aN.length:Int))).hA).toInt))*131))+(IntKind.wrap .i64 ((IntKind.wrap .i64 (((a0_0.ix (dC (IntKind.wrap .i64 ((IntKind.wrap .i64 ((IntKind.wrap .i64 ((IntKind.wrap .i64 (a0_1+1))-1))*7))+3)) (a0_0.aN.length:Int))).hA).toInt))*1117))))+(IntKind.wrap .i64 ((IntKind.wrap .i64 ((IntKind.wrap .i64 (a0_1+1))-1))*29))))+(IntKind.wrap .i64 ((IntKind.wrap .i64 (Int.tdiv (IntKind.wrap .i64 ((IntKind.wrap .i64 (a0_1+1))-1)) (a0_0.aN.length:Int)))*53)))) (IntKind.wrap .i64 (Int.tdiv (IntKind.wrap .i64 ((IntKind.wrap .i64 ((IntKind.wrap .i64 ((IntKind.wrap .i64 ((IntKind.wrap .i64 (((a0_0.ix (dC (IntKind.wrap .i64 ((IntKind.wrap .i64 (a0_1+1))-1)) (a0_0.aN.length:Int))).hA).toInt))*131))+(IntKind.wrap .i64 ((IntKind.wrap .i64 (((a0_0.ix (dC (IntKind.wrap .i64 ((IntKind.wrap .i64 ((IntKind.wrap .i64 ((IntKind.wrap .i64 (a0_1+1))-1))*7))+3)) (a0_0.aN.length:Int))).hA).toInt))*1117))))+(IntKind.wrap .i64 ((IntKind.wrap .i64 ((IntKind.wrap .i64 (a0_1+1))-1))*29))))+(IntKind.wrap .i64 ((IntKind.wrap .i64 (Int.tdiv (IntKind.wrap .i64 ((IntKind.wrap .i64 (a0_1+1))-1)) (a0_0.aN.length:Int)))*53)))) 64))) a1)] [.cells [a0_0,VI (IntKind.wrap .i64 (a0_1+1))]])))
theorem On(a0_0:AV)(a0_1:Int)(a1:Int)(ha0_0:LK.has .sl a0_0)(h:dk 99 (Iw a0_0 a0_1 a1) R):an Tryz.prog 81 [.ref 0 0,VI a1] [.cells [a0_0,VI a0_1]] R :=
 an.ni (bq (bW (ag (bQ ha0_0) (ag (az _) aB))) ct) (an.up (ag (az _) (ag (az _) aB)) (oF [] {mu:=[(0,.one (.obj [.lk .sl,.lk (.int .i64)]))],own:=[]} Tryz.f81 h))
def HV(a0_0:AV)(a0_1:Int):Tree :=
 .call 103 [.ref 0 0] [.cells [a0_0,VI a0_1]] fun r1 o1=>.ak ((o1.hO)=.cells (o1.hO).cs)<|.ak (aL [.lk .sl,.lk (.int .i64)] ((o1.hO).cs) 0 1 o1.tail)<|NS r1<|.call 83 [.ref 0 0,VS r1.ah] [.cells [((o1.hO).cs.getD 0 .any),VI (((o1.hO).cs.getD 1 .any).toInt)]] fun r2 o2=>.ak ((o2.hO)=.cells (o2.hO).cs)<|.ak (aL [.lk .sl,.lk (.int .i64)] ((o2.hO).cs) 0 1 o2.tail)<|NS r2<|.done 0 [.cA [VS r1.ah,VS r2.ah]] [.cells [((o2.hO).cs.getD 0 .any),VI (((o2.hO).cs.getD 1 .any).toInt)]]
theorem PV(a0_0:AV)(a0_1:Int)(ha0_0:LK.has .sl a0_0)(h:dk 11 (HV a0_0 a0_1) R):an Tryz.prog 82 [.ref 0 0] [.cells [a0_0,VI a0_1]] R :=
 an.ni (bq (bW (ag (bQ ha0_0) (ag (az _) aB))) ct) (an.up (ag (az _) aB) (oF [] {mu:=[(0,.one (.obj [.lk .sl,.lk (.int .i64)]))],own:=[]} Tryz.f82 h))
def Kx(a0_0:AV)(a0_1:Int)(a1:ByteArray):Tree :=
 .call 104 [VS a1] [] fun r1 o1=>NT r1<|.ak ((r1.comp 0)=.agg (r1.comp 0).cs/\(r1.comp 0).cs.length=2/\bw [.str,.sl] ((r1.comp 0).cs) 0)<|NB (r1.comp 1)<|.test (!((r1.comp 1).toBool)) (.call 102 [.ref 0 0,.sl [[VS (mk [])],[VS (mk [117])],[VS (mk [101,48])],[VS (mk [101,48,48])],[VS (mk [101,49,48,48])],[VS (mk [40,108,32,117,41])],[VS (mk [40,112,32,117,41])],[VS (mk [40,102,32,40,108,32,117,41,41])],[VS (mk [40,120,32,117,41])],[VS (mk [40,108,32,32,117,41])]]] [.cells [a0_0,VI a0_1]] fun r2 o2=>.ak ((o2.hO)=.cells (o2.hO).cs)<|.ak (aL [.lk .sl,.lk (.int .i64)] ((o2.hO).cs) 0 1 o2.tail)<|NS r2<|.done 0 [VS r2.ah] [.cells [((o2.hO).cs.getD 0 .any),VI (((o2.hO).cs.getD 1 .any).toInt)]]) (.call 81 [.ref 0 0,VI 16] [.cells [a0_0,VI a0_1]] fun r3 o3=>.ak ((o3.hO)=.cells (o3.hO).cs)<|.ak (aL [.lk .sl,.lk (.int .i64)] ((o3.hO).cs) 0 1 o3.tail)<|NI r3<|.test (r3.toInt==(0:Int)) (.call 102 [.ref 0 0,.sl [[VS (mk [])],[VS (mk [117])],[VS (mk [101,48])],[VS (mk [101,48,48])],[VS (mk [101,49,48,48])],[VS (mk [40,108,32,117,41])],[VS (mk [40,112,32,117,41])],[VS (mk [40,102,32,40,108,32,117,41,41])],[VS (mk [40,120,32,117,41])],[VS (mk [40,108,32,32,117,41])]]] [.cells [((o3.hO).cs.getD 0 .any),VI (((o3.hO).cs.getD 1 .any).toInt)]] fun r4 o4=>.ak ((o4.hO)=.cells (o4.hO).cs)<|.ak (aL [.lk .sl,.lk (.int .i64)] ((o4.hO).cs) 0 1 o4.tail)<|NS r4<|.done 0 [VS r4.ah] [.cells [((o4.hO).cs.getD 0 .any),VI (((o4.hO).cs.getD 1 .any).toInt)]]) (.call 106 [.agg [VS (((r1.comp 0).cs.getD 0 .any).ah),((r1.comp 0).cs.getD 1 .any)],.v (.slice none 0 0)] [] fun r5 o5=>NA r5<|.call 81 [.ref 0 0,VI 5] [.cells [((o3.hO).cs.getD 0 .any),VI (((o3.hO).cs.getD 1 .any).toInt)]] fun r6 o6=>.ak ((o6.hO)=.cells (o6.hO).cs)<|.ak (aL [.lk .sl,.lk (.int .i64)] ((o6.hO).cs) 0 1 o6.tail)<|NI r6<|.call 105 [.ref 0 0,.agg [VS ((r5.cs.getD 0 .any).ah),(r5.cs.getD 1 .any)],VI (IntKind.wrap .i64 (5+r6.toInt))] [.cells [((o6.hO).cs.getD 0 .any),VI (((o6.hO).cs.getD 1 .any).toInt)]] fun r7 o7=>.ak ((o7.hO)=.cells (o7.hO).cs)<|.ak (aL [.lk .sl,.lk (.int .i64)] ((o7.hO).cs) 0 1 o7.tail)<|NA r7<|.call 97 [.agg [VS ((r7.cs.getD 0 .any).ah),(r7.cs.getD 1 .any)]] [] fun r8 o8=>NS r8<|.done 0 [VS r8.ah] [.cells [((o7.hO).cs.getD 0 .any),VI (((o7.hO).cs.getD 1 .any).toInt)]]))
theorem Nr(a0_0:AV)(a0_1:Int)(a1:ByteArray)(ha0_0:LK.has .sl a0_0)(h:dk 30 (Kx a0_0 a0_1 a1) R):an Tryz.prog 83 [.ref 0 0,VS a1] [.cells [a0_0,VI a0_1]] R :=
 an.ni (bq (bW (ag (bQ ha0_0) (ag (az _) aB))) ct) (an.up (ag (az _) (ag (az _) aB)) (oF [] {mu:=[(0,.one (.obj [.lk .sl,.lk (.int .i64)]))],own:=[]} Tryz.f83 h))
def HZ(a0:ByteArray)(a1:ByteArray):Tree :=
 .call 107 [VS a0] [] fun r1 o1=>NP r1<|NP r1<|.test r1.isNil (.done 0 [.cA [.v (.pointer none),.v (.pointer none)]] []) (.call 71 [VS a0,VS a1,VI 100] [] fun r2 o2=>NT r2<|NP (r2.comp 0)<|NP (r2.comp 1)<|.done 0 [.cA [(r2.comp 0),(r2.comp 1)]] [])
theorem OQ(a0:ByteArray)(a1:ByteArray)(h:dk 14 (HZ a0 a1) R):an Tryz.prog 84 [VS a0,VS a1] [] R :=
 uQ (ag (az _) (ag (az _) aB)) (oQ [] Tryz.f84 h)
def I4(a0:ByteArray):Tree :=
 .call 108 [VS a0] [] fun r1 o1=>NP r1<|NP r1<|.test r1.isNil (.done 0 [.cA [VS (mk []),VB false]] []) (NZ r1<|NZ r1<|.ak (LK.has (.int .u8) (r1.deref.hA)/\1<=r1.deref.length)<|.test (((r1.deref.hA).toInt) != (114:Int)) (.done 0 [.cA [VS (mk []),VB false]] []) (.call 109 [r1] [] fun r2 o2=>NT r2<|NP (r2.comp 0)<|NB (r2.comp 1)<|.test (!((r2.comp 1).toBool)) (.done 0 [.cA [VS (mk []),VB false]] []) (.call 110 [(r2.comp 0)] [] fun r3 o3=>NT r3<|NS (r3.comp 0)<|NB (r3.comp 1)<|.done 0 [.cA [VS ((r3.comp 0).ah),VB ((r3.comp 1).toBool)]] [])))
theorem Qu(a0:ByteArray)(h:dk 29 (I4 a0) R):an Tryz.prog 85 [VS a0] [] R :=
 uQ (ag (az _) aB) (oQ [] Tryz.f85 h)
def J7(a0_0:AV)(a0_1:AV):Tree :=
 NZ a0_0<|NZ a0_0<|dX (a0_0.deref.drop 3)<|.done 0 [.cA [.agg [((a0_0.deref.drop 3).hA),.ptr [.ptr [a0_0,a0_1],a0_1]],.ptr [a0_0,a0_1]]] []
theorem Qg(a0_0:AV)(a0_1:AV)(ha0_0:LK.has .ptr a0_0)(ha0_1:LK.has .ptr a0_1)(h:dk 20 (J7 a0_0 a0_1) R):an Tryz.prog 86 [.agg [a0_0,a0_1]] [] R :=
 uQ (ag (bY (ag (bp ha0_0) (ag (bp ha0_1) aB))) aB) (oQ [] Tryz.f86 h)
def EO:LI:={hd:={ca:=[(97,.k .sl),(98,.k (.int .i64)),(99,.k (.int .i64))],refs:=[(3,3),(5,5),(7,7)],cq:=[(3,[.lk .ptr,.lk .ptr]),(5,[.lk .str,.lk .ptr]),(7,[.vec 2])],zB:=[(8,112,[7])]},xs:={refs:=[(7,7)],cq:=[(7,[.vec 2])]},rt:={},ex:=1}
def L5:Code:=cW (cN Tryz.f87) 18
def KM:List (Nat×LI):=[(18,EO)]
def Mq(a0_0:AV)(a0_1:AV)(a1:AV)(a2_0:ByteArray)(a2_1:AV):Tree :=
 .call 111 [.agg [VS a2_0,a2_1],.agg [a0_0,a0_1]] [] fun r1 o1=>NB r1<|.test r1.toBool (.done 0 [.sl [[.ptr [.v (.int .u8 117),VS (mk []),.v (.pointer none),.v (.pointer none)],a1]]] []) (NZ a0_0<|NZ a0_0<|.ak (LK.has (.int .u8) (a0_0.deref.hA)/\1<=a0_0.deref.length)<|.test (((a0_0.deref.hA).toInt)==(43:Int)) (.call 113 [.agg [a0_0,a0_1]] [] fun r2 o2=>.ak (r2=.agg r2.cs/\r2.cs.length=2/\bw [.ptr,.ptr] r2.cs 0)<|NZ a1<|NZ a1<|.ak (LK.has (.int .u8) (a1.deref.hA)/\1<=a1.deref.length)<|.test (((a1.deref.hA).toInt)==(114:Int)) (.call 114 [.agg [a0_0,a0_1]] [] fun r3 o3=>.ak (r3=.agg r3.cs/\r3.cs.length=2/\bw [.ptr,.ptr] r3.cs 0)<|NZ a1<|NZ a1<|dX (a1.deref.drop 2)<|.call 87 [.agg [(r3.cs.getD 0 .any),(r3.cs.getD 1 .any)],((a1.deref.drop 2).hA),.agg [VS a2_0,a2_1]] [] fun r4 o4=>NL r4<|.call 112 [r4,.fn 115 [.ref 0 0],.ref 1 0] [.cells [a1],.cells [.vec 2],.vec 2 []] fun r5 o5=>.ak ((o5.hO)=.cells (o5.hO).cs)<|.ak (aL [.lk .ptr] ((o5.hO).cs) 0 1 o5.tail)<|.ak ((o5.tail.hO)=.cells (o5.tail.hO).cs)<|.ak (aL [.vec 2] ((o5.tail.hO).cs) 0 2 o5.tail.tail)<|.done 0 [.sl ((o5.tail.tail.hO).es)] []) (NZ a1<|NZ a1<|dX (a1.deref.drop 2)<|.call 87 [.agg [(r2.cs.getD 0 .any),(r2.cs.getD 1 .any)],((a1.deref.drop 2).hA),.agg [VS a2_0,a2_1]] [] fun r6 o6=>NL r6<|.call 112 [r6,.fn 115 [.ref 0 0],.ref 1 0] [.cells [a1],.cells [.vec 2],.vec 2 []] fun r7 o7=>.ak ((o7.hO)=.cells (o7.hO).cs)<|.ak (aL [.lk .ptr] ((o7.hO).cs) 0 1 o7.tail)<|.ak ((o7.tail.hO)=.cells (o7.tail.hO).cs)<|.ak (aL [.vec 2] ((o7.tail.hO).cs) 0 2 o7.tail.tail)<|.done 0 [.sl ((o7.tail.tail.hO).es)] [])) (.test (((a0_0.deref.hA).toInt)==(42:Int)) (.call 113 [.agg [a0_0,a0_1]] [] fun r8 o8=>.ak (r8=.agg r8.cs/\r8.cs.length=2/\bw [.ptr,.ptr] r8.cs 0)<|NZ a1<|NZ a1<|dX (a1.deref.drop 2)<|.call 87 [.agg [(r8.cs.getD 0 .any),(r8.cs.getD 1 .any)],((a1.deref.drop 2).hA),.agg [VS a2_0,a2_1]] [] fun r9 o9=>NL r9<|.call 112 [r9,.fn 116 [.ref 0 0],.ref 1 0] [.cells [a1],.cells [.vec 2],.vec 2 []] fun r10 o10=>.ak ((o10.hO)=.cells (o10.hO).cs)<|.ak (aL [.lk .ptr] ((o10.hO).cs) 0 1 o10.tail)<|.ak ((o10.tail.hO)=.cells (o10.tail.hO).cs)<|.ak (aL [.vec 2] ((o10.tail.hO).cs) 0 2 o10.tail.tail)<|.call 114 [.agg [a0_0,a0_1]] [] fun r11 o11=>.ak (r11=.agg r11.cs/\r11.cs.length=2/\bw [.ptr,.ptr] r11.cs 0)<|NZ ((o10.hO).cs.getD 0 .any)<|NZ ((o10.hO).cs.getD 0 .any)<|dX (((o10.hO).cs.getD 0 .any).deref.drop 3)<|.call 87 [.agg [(r11.cs.getD 0 .any),(r11.cs.getD 1 .any)],((((o10.hO).cs.getD 0 .any).deref.drop 3).hA),.agg [VS a2_0,a2_1]] [] fun r12 o12=>NL r12<|.call 112 [r12,.fn 118 [.ref 0 0],.ref 1 0] [.cells [((o10.hO).cs.getD 0 .any)],.cells [.vec 2],.vec 2 ((o10.tail.tail.hO).es)] fun r13 o13=>.ak ((o13.hO)=.cells (o13.hO).cs)<|.ak (aL [.lk .ptr] ((o13.hO).cs) 0 1 o13.tail)<|.ak ((o13.tail.hO)=.cells (o13.tail.hO).cs)<|.ak (aL [.vec 2] ((o13.tail.hO).cs) 0 2 o13.tail.tail)<|.done 0 [.sl ((o13.tail.tail.hO).es)] []) (.test (((a0_0.deref.hA).toInt)==(114:Int)) (.call 86 [.agg [a0_0,a0_1]] [] fun r14 o14=>NT r14<|.ak ((r14.comp 0)=.agg (r14.comp 0).cs/\(r14.comp 0).cs.length=2/\bw [.ptr,.ptr] ((r14.comp 0).cs) 0)<|NP (r14.comp 1)<|NZ a1<|NZ a1<|dX (a1.deref.drop 2)<|.call 87 [.agg [((r14.comp 0).cs.getD 0 .any),((r14.comp 0).cs.getD 1 .any)],((a1.deref.drop 2).hA),.agg [VS a2_0,a2_1]] [] fun r15 o15=>NL r15<|.call 112 [r15,.v (.func (.func 119) #[] #[]),.ref 0 0] [.cells [.vec 1],.vec 2 []] fun r16 o16=>.ak ((o16.hO)=.cells (o16.hO).cs)<|.ak (aL [.vec 2] ((o16.hO).cs) 0 1 o16.tail)<|NZ a1<|NZ a1<|dX (a1.deref.drop 2)<|.call 87 [.agg [((r14.comp 0).cs.getD 0 .any),((r14.comp 0).cs.getD 1 .any)],((a1.deref.drop 2).hA),.agg [VS (mk []),(r14.comp 1)]] [] fun r17 o17=>NL r17<|NL r17<|.loop L5 EO [r17,VI (r17.aN.length:Int),VI 0] [.cells [a0_0,a0_1],.cells [VS a2_0,a2_1],.cells [.any],.vec 2 ((o16.tail.hO).es)] (fun y20 q20=>.ak ((q20.hO)=.cells (q20.hO).cs)<|.ak (ae [.vec 2] ((q20.hO).cs) 0 q20.tail)<|.done 0 [.sl ((q20.tail.hO).es)] []) (fun y20 q20=>.done 0 [.any] [])) (.done 0 [.sl []] []))))
theorem Pe(a0_0:AV)(a0_1:AV)(a1:AV)(a2_0:ByteArray)(a2_1:AV)(ha0_0:LK.has .ptr a0_0)(ha0_1:LK.has .ptr a0_1)(ha1:LK.has .ptr a1)(ha2_1:LK.has .ptr a2_1)(h:dk 113 (Mq a0_0 a0_1 a1 a2_0 a2_1) R):an Tryz.prog 87 [.agg [a0_0,a0_1],a1,.agg [VS a2_0,a2_1]] [] R :=
 uQ (ag (bY (ag (bp ha0_0) (ag (bp ha0_1) aB))) (ag (bp ha1) (ag (bY (ag (az _) (ag (bp ha2_1) aB))) aB))) (oQ KM Tryz.f87 h)
def D4(x97:AV)(x98:Int)(x99:Int)(o3_0:AV)(o3_1:AV)(o5_0:ByteArray)(o5_1:AV)(o7_0:List (List AV)):Tree :=
 NL x97<|NI (VI x98)<|NI (VI x99)<|.ak (Ob.cells [o3_0,o3_1]=.cells [o3_0,o3_1])<|.ak (ae [.lk .ptr,.lk .ptr] [o3_0,o3_1] 0 [.cells [VS o5_0,o5_1],.cells [.any],.vec 2 o7_0])<|.ak (Ob.cells [VS o5_0,o5_1]=.cells [VS o5_0,o5_1])<|.ak (ae [.lk .str,.lk .ptr] [VS o5_0,o5_1] 0 [.cells [.any],.vec 2 o7_0])<|.ak (Ob.cells [.any]=.cells [.any])<|.ak (ae [.vec 2] [.any] 0 [.vec 2 o7_0])<|.test (decide (x99<x98)) (NG x97 x99 2<|.ak (bw [.ptr,.ptr] (x97.ix x99) 0/\2<=(x97.ix x99).length)<|.call 87 [.agg [o3_0,o3_1],((x97.ix x99).getD 1 .any),.agg [VS o5_0,o5_1]] [] fun r1 o1=>NL r1<|.call 112 [r1,.fn 120 [.ref 0 0],.ref 1 0] [.cells [((x97.ix x99).getD 0 .any),((x97.ix x99).getD 1 .any)],.cells [.vec 2],.vec 2 o7_0] fun r2 o2=>.ak ((o2.hO)=.cells (o2.hO).cs)<|.ak (aL [.lk .ptr,.lk .ptr] ((o2.hO).cs) 0 1 o2.tail)<|.ak ((o2.tail.hO)=.cells (o2.tail.hO).cs)<|.ak (aL [.vec 2] ((o2.tail.hO).cs) 0 2 o2.tail.tail)<|.done 0 [x97,VI x98,VI (IntKind.wrap .i64 (x99+1))] [.cells [o3_0,o3_1],.cells [VS o5_0,o5_1],.cells [.any],.vec 2 ((o2.tail.tail.hO).es)]) (.done 1 [] [.cells [.any],.vec 2 o7_0])
abbrev G9:=cF Tryz.prog 113 L5 EO
theorem JV(x97:AV)(x98:Int)(x99:Int)(o3_0:AV)(o3_1:AV)(o5_0:ByteArray)(o5_1:AV)(o7_0:List (List AV))(h:lJ 113 (D4 x97 x98 x99 o3_0 o3_1 o5_0 o5_1 o7_0) G9 U):G9 [x97,VI x98,VI x99] [.cells [o3_0,o3_1],.cells [VS o5_0,o5_1],.cells [.any],.vec 2 o7_0] U :=
 gQ KM h
def HH(a0:ByteArray):Tree :=
 .call 104 [VS a0] [] fun r1 o1=>NT r1<|.ak ((r1.comp 0)=.agg (r1.comp 0).cs/\(r1.comp 0).cs.length=2/\bw [.str,.sl] ((r1.comp 0).cs) 0)<|NB (r1.comp 1)<|.test ((r1.comp 1).toBool) (.call 121 [.agg [VS (((r1.comp 0).cs.getD 0 .any).ah),((r1.comp 0).cs.getD 1 .any)]] [] fun r2 o2=>NS r2<|.done 0 [.cA [.agg [VS (((r1.comp 0).cs.getD 0 .any).ah),((r1.comp 0).cs.getD 1 .any)],VB (af r2.ah==af (mk [114,101,99]))]] []) (.done 0 [.cA [.agg [VS (((r1.comp 0).cs.getD 0 .any).ah),((r1.comp 0).cs.getD 1 .any)],VB false]] [])
theorem Ny(a0:ByteArray)(h:dk 18 (HH a0) R):an Tryz.prog 88 [VS a0] [] R :=
 uQ (ag (az _) aB) (oQ [] Tryz.f88 h)
def Lu(a0:ByteArray):Tree :=
 .call 122 [VS a0] [] fun r1 o1=>NT r1<|.ak ((r1.comp 0)=.agg (r1.comp 0).cs/\(r1.comp 0).cs.length=2/\bw [.str,.sl] ((r1.comp 0).cs) 0)<|NB (r1.comp 1)<|.test ((r1.comp 1).toBool) (.call 123 [.agg [VS (((r1.comp 0).cs.getD 0 .any).ah),((r1.comp 0).cs.getD 1 .any)]] [] fun r2 o2=>NB r2<|.test r2.toBool (.call 124 [.agg [VS (((r1.comp 0).cs.getD 0 .any).ah),((r1.comp 0).cs.getD 1 .any)]] [] fun r3 o3=>NI r3<|.done 0 [.cA [.agg [VS (((r1.comp 0).cs.getD 0 .any).ah),((r1.comp 0).cs.getD 1 .any)],VB (decide (r3.toInt<=(200:Int)))]] []) (.done 0 [.cA [.agg [VS (((r1.comp 0).cs.getD 0 .any).ah),((r1.comp 0).cs.getD 1 .any)],VB false]] [])) (.done 0 [.cA [.agg [VS (((r1.comp 0).cs.getD 0 .any).ah),((r1.comp 0).cs.getD 1 .any)],VB false]] [])
theorem O1(a0:ByteArray)(h:dk 22 (Lu a0) R):an Tryz.prog 89 [VS a0] [] R :=
 uQ (ag (az _) aB) (oQ [] Tryz.f89 h)
def Jf(a0:ByteArray)(a1:ByteArray)(a2:Int):Tree :=
 .call 104 [VS a0] [] fun r1 o1=>NT r1<|.ak ((r1.comp 0)=.agg (r1.comp 0).cs/\(r1.comp 0).cs.length=2/\bw [.str,.sl] ((r1.comp 0).cs) 0)<|NB (r1.comp 1)<|.call 89 [VS a1] [] fun r2 o2=>NT r2<|.ak ((r2.comp 0)=.agg (r2.comp 0).cs/\(r2.comp 0).cs.length=2/\bw [.str,.sl] ((r2.comp 0).cs) 0)<|NB (r2.comp 1)<|.test ((r1.comp 1).toBool) (.test ((r2.comp 1).toBool) (.call 56 [VI a2,VI 0,VI 100] [] fun r3 o3=>NB r3<|.test r3.toBool (.call 125 [.agg [VS (((r1.comp 0).cs.getD 0 .any).ah),((r1.comp 0).cs.getD 1 .any)],.sl [],.agg [VS (((r2.comp 0).cs.getD 0 .any).ah),((r2.comp 0).cs.getD 1 .any)],VI a2] [] fun r4 o4=>NB r4<|.done 0 [VB r4.toBool] []) (.done 0 [VB false] [])) (.done 0 [VB false] [])) (.done 0 [VB false] [])
theorem PU(a0:ByteArray)(a1:ByteArray)(a2:Int)(h:dk 36 (Jf a0 a1 a2) R):an Tryz.prog 90 [VS a0,VS a1,VI a2] [] R :=
 uQ (ag (az _) (ag (az _) (ag (az _) aB))) (oQ [] Tryz.f90 h)
def L3(a0:ByteArray):Tree :=
 .call 108 [VS a0] [] fun r1 o1=>NP r1<|NP r1<|.test r1.isNil (.done 0 [.v (.pointer none)] []) (.call 127 [r1] [] fun r2 o2=>NB r2<|.test (!r2.toBool) (.done 0 [.v (.pointer none)] []) (.done 0 [r1] []))
theorem NY(a0:ByteArray)(h:dk 14 (L3 a0) R):an Tryz.prog 93 [VS a0] [] R :=
 uQ (ag (az _) aB) (oQ [] Tryz.f93 h)
def HK(a0:ByteArray):Tree :=
 .call 128 [VS a0] [] fun r1 o1=>NP r1<|NP r1<|.test r1.isNil (.done 0 [.v (.pointer none)] []) (.call 129 [r1] [] fun r2 o2=>NP r2<|NP r2<|.test r2.isNil (.done 0 [.v (.pointer none)] []) (.call 75 [r2] [] fun r3 o3=>NI r3<|.test (decide (r3.toInt>(200:Int))) (.done 0 [.v (.pointer none)] []) (.done 0 [r2] [])))
theorem O8(a0:ByteArray)(h:dk 19 (HK a0) R):an Tryz.prog 94 [VS a0] [] R :=
 uQ (ag (az _) aB) (oQ [] Tryz.f94 h)
def zy(a0_0:AV)(a0_1:AV)(a1:AV)(a2:Int):Tree :=
 NZ a0_0<|NZ a0_0<|.ak (LK.has (.int .u8) (a0_0.deref.hA)/\1<=a0_0.deref.length)<|.test (((a0_0.deref.hA).toInt)==(49:Int)) (NZ a1<|NZ a1<|.ak (LK.has (.int .u8) (a1.deref.hA)/\1<=a1.deref.length)<|.done 0 [VB (((a1.deref.hA).toInt)==(117:Int))] []) (.test (((a0_0.deref.hA).toInt)==(110:Int)) (NZ a1<|NZ a1<|.ak (LK.has (.int .u8) (a1.deref.hA)/\1<=a1.deref.length)<|.test (((a1.deref.hA).toInt) != (101:Int)) (.done 0 [VB false] []) (NZ a1<|NZ a1<|lQ (a1.deref.drop 1)<|.ak (0<=(1:Int)/\(1:Int)<=(ac (((a1.deref.drop 1).hA).ah):Int)/\(ac (((a1.deref.drop 1).hA).ah):Int)<=(ac (((a1.deref.drop 1).hA).ah):Int))<|.call 130 [VS (cd (((a1.deref.drop 1).hA).ah) (bA 1) (bA (ac (((a1.deref.drop 1).hA).ah):Int)))] [] fun r1 o1=>NT r1<|NI (r1.comp 0)<|.ak (LK.has .ka (r1.comp 1))<|.done 0 [VB (decide (((r1.comp 0).toInt)<a2))] [])) (.test (((a0_0.deref.hA).toInt)==(98:Int)) (.call 131 [.agg [a0_0,a0_1]] [] fun r2 o2=>NP r2<|NZ r2<|NZ r2<|.ak (bw [.ptr,.ptr] r2.deref 0/\2<=r2.deref.length)<|.call 95 [.agg [(r2.deref.getD 0 .any),(r2.deref.getD 1 .any)],a1,VI a2] [] fun r3 o3=>NB r3<|.done 0 [VB r3.toBool] []) (.test (((a0_0.deref.hA).toInt)==(43:Int)) (NZ a1<|NZ a1<|.ak (LK.has (.int .u8) (a1.deref.hA)/\1<=a1.deref.length)<|.test (((a1.deref.hA).toInt)==(108:Int)) (.call 113 [.agg [a0_0,a0_1]] [] fun r4 o4=>.ak (r4=.agg r4.cs/\r4.cs.length=2/\bw [.ptr,.ptr] r4.cs 0)<|NZ a1<|NZ a1<|dX (a1.deref.drop 2)<|.call 95 [.agg [(r4.cs.getD 0 .any),(r4.cs.getD 1 .any)],((a1.deref.drop 2).hA),VI a2] [] fun r5 o5=>NB r5<|.test r5.toBool (.done 0 [VB true] []) (NZ a1<|NZ a1<|.ak (LK.has (.int .u8) (a1.deref.hA)/\1<=a1.deref.length)<|.test (((a1.deref.hA).toInt)==(114:Int)) (.call 114 [.agg [a0_0,a0_1]] [] fun r6 o6=>.ak (r6=.agg r6.cs/\r6.cs.length=2/\bw [.ptr,.ptr] r6.cs 0)<|NZ a1<|NZ a1<|dX (a1.deref.drop 2)<|.call 95 [.agg [(r6.cs.getD 0 .any),(r6.cs.getD 1 .any)],((a1.deref.drop 2).hA),VI a2] [] fun r7 o7=>NB r7<|.done 0 [VB r7.toBool] []) (.done 0 [VB false] []))) (NZ a1<|NZ a1<|.ak (LK.has (.int .u8) (a1.deref.hA)/\1<=a1.deref.length)<|.test (((a1.deref.hA).toInt)==(114:Int)) (.call 114 [.agg [a0_0,a0_1]] [] fun r8 o8=>.ak (r8=.agg r8.cs/\r8.cs.length=2/\bw [.ptr,.ptr] r8.cs 0)<|NZ a1<|NZ a1<|dX (a1.deref.drop 2)<|.call 95 [.agg [(r8.cs.getD 0 .any),(r8.cs.getD 1 .any)],((a1.deref.drop 2).hA),VI a2] [] fun r9 o9=>NB r9<|.done 0 [VB r9.toBool] []) (.done 0 [VB false] []))) (.test (((a0_0.deref.hA).toInt)==(42:Int)) (NZ a1<|NZ a1<|.ak (LK.has (.int .u8) (a1.deref.hA)/\1<=a1.deref.length)<|.test (((a1.deref.hA).toInt)==(112:Int)) (.call 113 [.agg [a0_0,a0_1]] [] fun r10 o10=>.ak (r10=.agg r10.cs/\r10.cs.length=2/\bw [.ptr,.ptr] r10.cs 0)<|NZ a1<|NZ a1<|dX (a1.deref.drop 2)<|.call 95 [.agg [(r10.cs.getD 0 .any),(r10.cs.getD 1 .any)],((a1.deref.drop 2).hA),VI a2] [] fun r11 o11=>NB r11<|.test r11.toBool (.call 114 [.agg [a0_0,a0_1]] [] fun r12 o12=>.ak (r12=.agg r12.cs/\r12.cs.length=2/\bw [.ptr,.ptr] r12.cs 0)<|NZ a1<|NZ a1<|dX (a1.deref.drop 3)<|.call 95 [.agg [(r12.cs.getD 0 .any),(r12.cs.getD 1 .any)],((a1.deref.drop 3).hA),VI a2] [] fun r13 o13=>NB r13<|.done 0 [VB r13.toBool] []) (.done 0 [VB false] [])) (.done 0 [VB false] [])) (.test (((a0_0.deref.hA).toInt)==(114:Int)) (.call 86 [.agg [a0_0,a0_1]] [] fun r14 o14=>NT r14<|.ak ((r14.comp 0)=.agg (r14.comp 0).cs/\(r14.comp 0).cs.length=2/\bw [.ptr,.ptr] ((r14.comp 0).cs) 0)<|NP (r14.comp 1)<|NZ a1<|NZ a1<|.ak (LK.has (.int .u8) (a1.deref.hA)/\1<=a1.deref.length)<|.test (((a1.deref.hA).toInt)==(102:Int)) (NZ a1<|NZ a1<|dX (a1.deref.drop 2)<|.call 95 [.agg [((r14.comp 0).cs.getD 0 .any),((r14.comp 0).cs.getD 1 .any)],((a1.deref.drop 2).hA),VI a2] [] fun r15 o15=>NB r15<|.done 0 [VB r15.toBool] []) (.done 0 [VB false] [])) (.done 0 [VB false] []))))))
theorem KK(a0_0:AV)(a0_1:AV)(a1:AV)(a2:Int)(ha0_0:LK.has .ptr a0_0)(ha0_1:LK.has .ptr a0_1)(ha1:LK.has .ptr a1)(h:dk 134 (zy a0_0 a0_1 a1 a2) R):an Tryz.prog 95 [.agg [a0_0,a0_1],a1,VI a2] [] R :=
 uQ (ag (bY (ag (bp ha0_0) (ag (bp ha0_1) aB))) (ag (bp ha1) (ag (az _) aB))) (oQ [] Tryz.f95 h)
def Kd(a0:ByteArray):Tree :=
 .call 132 [VS a0] [] fun r1 o1=>NT r1<|.ak ((r1.comp 0)=.agg (r1.comp 0).cs/\(r1.comp 0).cs.length=2/\bw [.str,.sl] ((r1.comp 0).cs) 0)<|NB (r1.comp 1)<|.test (!((r1.comp 1).toBool)) (.done 0 [.cA [VS (mk []),VB false]] []) (.call 121 [.agg [VS (((r1.comp 0).cs.getD 0 .any).ah),((r1.comp 0).cs.getD 1 .any)]] [] fun r2 o2=>NS r2<|.test (!(af r2.ah==af (mk [114,101,99]))) (.done 0 [.cA [VS (mk []),VB false]] []) (.call 133 [.agg [VS (((r1.comp 0).cs.getD 0 .any).ah),((r1.comp 0).cs.getD 1 .any)]] [] fun r3 o3=>NT r3<|.ak ((r3.comp 0)=.agg (r3.comp 0).cs/\(r3.comp 0).cs.length=2/\bw [.str,.sl] ((r3.comp 0).cs) 0)<|NB (r3.comp 1)<|.test (!((r3.comp 1).toBool)) (.done 0 [.cA [VS (mk []),VB false]] []) (.call 134 [.agg [VS (((r3.comp 0).cs.getD 0 .any).ah),((r3.comp 0).cs.getD 1 .any)]] [] fun r4 o4=>NT r4<|NS (r4.comp 0)<|NB (r4.comp 1)<|.done 0 [.cA [VS ((r4.comp 0).ah),VB ((r4.comp 1).toBool)]] [])))
theorem P9(a0:ByteArray)(h:dk 31 (Kd a0) R):an Tryz.prog 96 [VS a0] [] R :=
 uQ (ag (az _) aB) (oQ [] Tryz.f96 h)
def EP:LI:={hd:={ca:=[(3,.k .str),(4,.k (.int .i64))],refs:=[(1,1)],cq:=[(1,[.lk .str,.lk .sl])]},xs:={ca:=[(3,.k .str)]},rt:={},ex:=0}
def Lt:Code:=cW (cN Tryz.f97) 5
def Jz:List (Nat×LI):=[(5,EP)]
def Dx(a0_0:ByteArray)(a0_1:AV):Tree :=
 .test (!(af a0_0==af (mk []))) (.done 0 [VS a0_0] []) (.loop Lt EP [VS (mk [40]),VI 0] [.cells [VS a0_0,a0_1]] (fun y3 q3=>NS (y3.hA)<|.ak (ac ((y3.hA).ah)+ac (mk [41])<=9223372036854775807)<|.done 0 [VS ((((y3.hA).ah):ByteArray)++(mk [41]))] []) (fun y3 q3=>.done 0 [.any] []))
theorem Ed(a0_0:ByteArray)(a0_1:AV)(ha0_1:LK.has .sl a0_1)(h:dk 31 (Dx a0_0 a0_1) R):an Tryz.prog 97 [.agg [VS a0_0,a0_1]] [] R :=
 uQ (ag (bY (ag (az _) (ag (bQ ha0_1) aB))) aB) (oQ Jz Tryz.f97 h)
def zH(x3:ByteArray)(x4:Int)(o1_0:ByteArray)(o1_1:AV):Tree :=
 NS (VS x3)<|NI (VI x4)<|.ak (Ob.cells [VS o1_0,o1_1]=.cells [VS o1_0,o1_1])<|.ak (ae [.lk .str,.lk .sl] [VS o1_0,o1_1] 0 [])<|NL o1_1<|.test (decide (x4<(o1_1.aN.length:Int))) (.test (decide (x4>(0:Int))) (.ak (ac x3+ac (mk [32])<=9223372036854775807)<|NG o1_1 x4 2<|NE (o1_1.ix x4)<|.call 97 [.agg [VS (((o1_1.ix x4).getD 0 .any).ah),((o1_1.ix x4).getD 1 .any)]] [] fun r1 o1=>NS r1<|.ak (ac ((x3:ByteArray)++(mk [32]))+ac r1.ah<=9223372036854775807)<|.done 0 [VS ((((x3:ByteArray)++(mk [32])):ByteArray)++r1.ah),VI (IntKind.wrap .i64 (x4+1))] [.cells [VS o1_0,o1_1]]) (NG o1_1 x4 2<|NE (o1_1.ix x4)<|.call 97 [.agg [VS (((o1_1.ix x4).getD 0 .any).ah),((o1_1.ix x4).getD 1 .any)]] [] fun r2 o2=>NS r2<|.ak (ac x3+ac r2.ah<=9223372036854775807)<|.done 0 [VS ((x3:ByteArray)++r2.ah),VI (IntKind.wrap .i64 (x4+1))] [.cells [VS o1_0,o1_1]])) (.done 1 [VS x3] [])
abbrev A0:=cF Tryz.prog 31 Lt EP
theorem BY(x3:ByteArray)(x4:Int)(o1_0:ByteArray)(o1_1:AV)(h:lJ 31 (zH x3 x4 o1_0 o1_1) A0 U):A0 [VS x3,VI x4] [.cells [VS o1_0,o1_1]] U :=
 gQ Jz h
def GM(a0:ByteArray)(a1:AV):Tree :=
 .ak (LK.has .sl a1/\cV 2 a1.aN/\((([[VS a0,.v (.slice none 0 0)]]:List (List AV)).length)+a1.aN.length)*40<=140737488355328)<|.done 0 [.agg [VS (mk []),.sl (([[VS a0,.v (.slice none 0 0)]]:List (List AV))++a1.aN)]] []
theorem Km(a0:ByteArray)(a1:AV)(ha1:LK.has .sl a1)(h:dk 11 (GM a0 a1) R):an Tryz.prog 98 [VS a0,a1] [] R :=
 uQ (ag (az _) (ag (bQ ha1) aB)) (oQ [] Tryz.f98 h)
def CH(a0_0:ByteArray)(a0_1:AV)(a1:ByteArray)(a2_0:ByteArray)(a2_1:AV)(a3_0:ByteArray)(a3_1:AV):Tree :=
 .test (!(af a0_0==af (mk []))) (.done 0 [.agg [VS a3_0,a3_1]] []) (NG a2_1 1 2<|NE (a2_1.ix (1:Int))<|.call 121 [.agg [VS a0_0,a0_1]] [] fun r1 o1=>NS r1<|.call 121 [.agg [VS a2_0,a2_1]] [] fun r2 o2=>NS r2<|.ak (ac r1.ah+ac r2.ah<=9223372036854775807)<|.test (af ((r1.ah:ByteArray)++r2.ah)==af (mk [43,108])) (NG a0_1 1 2<|NE (a0_1.ix (1:Int))<|.call 99 [.agg [VS (((a0_1.ix (1:Int)).getD 0 .any).ah),((a0_1.ix (1:Int)).getD 1 .any)],VS a1,.agg [VS (((a2_1.ix (1:Int)).getD 0 .any).ah),((a2_1.ix (1:Int)).getD 1 .any)],.agg [VS a3_0,a3_1]] [] fun r3 o3=>NA r3<|.call 98 [VS (mk [108]),.sl [[VS ((r3.cs.getD 0 .any).ah),(r3.cs.getD 1 .any)]]] [] fun r4 o4=>NA r4<|.done 0 [.agg [VS ((r4.cs.getD 0 .any).ah),(r4.cs.getD 1 .any)]] []) (.test (af ((r1.ah:ByteArray)++r2.ah)==af (mk [43,114])) (NG a0_1 2 2<|NE (a0_1.ix (2:Int))<|.call 99 [.agg [VS (((a0_1.ix (2:Int)).getD 0 .any).ah),((a0_1.ix (2:Int)).getD 1 .any)],VS a1,.agg [VS (((a2_1.ix (1:Int)).getD 0 .any).ah),((a2_1.ix (1:Int)).getD 1 .any)],.agg [VS a3_0,a3_1]] [] fun r5 o5=>NA r5<|.call 98 [VS (mk [114]),.sl [[VS ((r5.cs.getD 0 .any).ah),(r5.cs.getD 1 .any)]]] [] fun r6 o6=>NA r6<|.done 0 [.agg [VS ((r6.cs.getD 0 .any).ah),(r6.cs.getD 1 .any)]] []) (.test (af ((r1.ah:ByteArray)++r2.ah)==af (mk [42,108])) (NG a0_1 1 2<|NE (a0_1.ix (1:Int))<|NG ((a2_1.ix (1:Int)).getD 1 .any) 1 2<|NE (((a2_1.ix (1:Int)).getD 1 .any).ix (1:Int))<|.call 99 [.agg [VS (((a0_1.ix (1:Int)).getD 0 .any).ah),((a0_1.ix (1:Int)).getD 1 .any)],VS a1,.agg [VS (((((a2_1.ix (1:Int)).getD 1 .any).ix (1:Int)).getD 0 .any).ah),((((a2_1.ix (1:Int)).getD 1 .any).ix (1:Int)).getD 1 .any)],.agg [VS a3_0,a3_1]] [] fun r7 o7=>NA r7<|NG ((a2_1.ix (1:Int)).getD 1 .any) 2 2<|NE (((a2_1.ix (1:Int)).getD 1 .any).ix (2:Int))<|.call 98 [VS (mk [112]),.sl [[VS ((r7.cs.getD 0 .any).ah),(r7.cs.getD 1 .any)],[VS (((((a2_1.ix (1:Int)).getD 1 .any).ix (2:Int)).getD 0 .any).ah),((((a2_1.ix (1:Int)).getD 1 .any).ix (2:Int)).getD 1 .any)]]] [] fun r8 o8=>NA r8<|.done 0 [.agg [VS ((r8.cs.getD 0 .any).ah),(r8.cs.getD 1 .any)]] []) (.test (af ((r1.ah:ByteArray)++r2.ah)==af (mk [42,114])) (NG ((a2_1.ix (1:Int)).getD 1 .any) 1 2<|NE (((a2_1.ix (1:Int)).getD 1 .any).ix (1:Int))<|NG a0_1 2 2<|NE (a0_1.ix (2:Int))<|NG ((a2_1.ix (1:Int)).getD 1 .any) 2 2<|NE (((a2_1.ix (1:Int)).getD 1 .any).ix (2:Int))<|.call 99 [.agg [VS (((a0_1.ix (2:Int)).getD 0 .any).ah),((a0_1.ix (2:Int)).getD 1 .any)],VS a1,.agg [VS (((((a2_1.ix (1:Int)).getD 1 .any).ix (2:Int)).getD 0 .any).ah),((((a2_1.ix (1:Int)).getD 1 .any).ix (2:Int)).getD 1 .any)],.agg [VS a3_0,a3_1]] [] fun r9 o9=>NA r9<|.call 98 [VS (mk [112]),.sl [[VS (((((a2_1.ix (1:Int)).getD 1 .any).ix (1:Int)).getD 0 .any).ah),((((a2_1.ix (1:Int)).getD 1 .any).ix (1:Int)).getD 1 .any)],[VS ((r9.cs.getD 0 .any).ah),(r9.cs.getD 1 .any)]]] [] fun r10 o10=>NA r10<|.done 0 [.agg [VS ((r10.cs.getD 0 .any).ah),(r10.cs.getD 1 .any)]] []) (.call 121 [.agg [VS (((a2_1.ix (1:Int)).getD 0 .any).ah),((a2_1.ix (1:Int)).getD 1 .any)]] [] fun r11 o11=>NS r11<|.test (af r11.ah==af (mk [108])) (NG a0_1 2 2<|NE (a0_1.ix (2:Int))<|NG ((a2_1.ix (1:Int)).getD 1 .any) 1 2<|NE (((a2_1.ix (1:Int)).getD 1 .any).ix (1:Int))<|.call 99 [.agg [VS (((a0_1.ix (2:Int)).getD 0 .any).ah),((a0_1.ix (2:Int)).getD 1 .any)],VS a1,.agg [VS (((((a2_1.ix (1:Int)).getD 1 .any).ix (1:Int)).getD 0 .any).ah),((((a2_1.ix (1:Int)).getD 1 .any).ix (1:Int)).getD 1 .any)],.agg [VS a3_0,a3_1]] [] fun r12 o12=>NA r12<|.call 98 [VS (mk [102]),.sl [[VS ((r12.cs.getD 0 .any).ah),(r12.cs.getD 1 .any)]]] [] fun r13 o13=>NA r13<|.done 0 [.agg [VS ((r13.cs.getD 0 .any).ah),(r13.cs.getD 1 .any)]] []) (NG ((a2_1.ix (1:Int)).getD 1 .any) 1 2<|NE (((a2_1.ix (1:Int)).getD 1 .any).ix (1:Int))<|NG ((((a2_1.ix (1:Int)).getD 1 .any).ix (1:Int)).getD 1 .any) 2 2<|NE (((((a2_1.ix (1:Int)).getD 1 .any).ix (1:Int)).getD 1 .any).ix (2:Int))<|.call 99 [.agg [VS a0_0,a0_1],VS a1,.agg [VS (((((((a2_1.ix (1:Int)).getD 1 .any).ix (1:Int)).getD 1 .any).ix (2:Int)).getD 0 .any).ah),((((((a2_1.ix (1:Int)).getD 1 .any).ix (1:Int)).getD 1 .any).ix (2:Int)).getD 1 .any)],.agg [VS a3_0,a3_1]] [] fun r14 o14=>NA r14<|NG a0_1 2 2<|NE (a0_1.ix (2:Int))<|NG a0_1 1 2<|lQ (a0_1.ix (1:Int))<|NG ((((a2_1.ix (1:Int)).getD 1 .any).ix (1:Int)).getD 1 .any) 1 2<|NE (((((a2_1.ix (1:Int)).getD 1 .any).ix (1:Int)).getD 1 .any).ix (1:Int))<|.call 99 [.agg [VS (((a0_1.ix (2:Int)).getD 0 .any).ah),((a0_1.ix (2:Int)).getD 1 .any)],VS (((a0_1.ix (1:Int)).hA).ah),.agg [VS (((((((a2_1.ix (1:Int)).getD 1 .any).ix (1:Int)).getD 1 .any).ix (1:Int)).getD 0 .any).ah),((((((a2_1.ix (1:Int)).getD 1 .any).ix (1:Int)).getD 1 .any).ix (1:Int)).getD 1 .any)],.agg [VS ((r14.cs.getD 0 .any).ah),(r14.cs.getD 1 .any)]] [] fun r15 o15=>NA r15<|.call 98 [VS (mk [102]),.sl [[VS ((r15.cs.getD 0 .any).ah),(r15.cs.getD 1 .any)]]] [] fun r16 o16=>NA r16<|.done 0 [.agg [VS ((r16.cs.getD 0 .any).ah),(r16.cs.getD 1 .any)]] []))))))
theorem NM(a0_0:ByteArray)(a0_1:AV)(a1:ByteArray)(a2_0:ByteArray)(a2_1:AV)(a3_0:ByteArray)(a3_1:AV)(ha0_1:LK.has .sl a0_1)(ha2_1:LK.has .sl a2_1)(ha3_1:LK.has .sl a3_1)(h:dk 132 (CH a0_0 a0_1 a1 a2_0 a2_1 a3_0 a3_1) R):an Tryz.prog 99 [.agg [VS a0_0,a0_1],VS a1,.agg [VS a2_0,a2_1],.agg [VS a3_0,a3_1]] [] R :=
 uQ (ag (bY (ag (az _) (ag (bQ ha0_1) aB))) (ag (az _) (ag (bY (ag (az _) (ag (bQ ha2_1) aB))) (ag (bY (ag (az _) (ag (bQ ha3_1) aB))) aB)))) (oQ [] Tryz.f99 h)
def Hi(a0:Int)(a1:AV):Tree :=
 .done 0 [.ptr [.v (.int .u8 a0),VS (mk []),a1,.v (.pointer none)]] []
theorem MX(a0:Int)(a1:AV)(ha1:LK.has .ptr a1)(h:dk 9 (Hi a0 a1) R):an Tryz.prog 100 [.v (.int .u8 a0),a1] [] R :=
 uQ (ag (az _) (ag (bp ha1) aB)) (oQ [] Tryz.f100 h)
def AG(a0_0:AV)(a0_1:AV)(a1:AV)(a2_0:ByteArray)(a2_1:AV)(a3:AV):Tree :=
 NZ a0_0<|NZ a0_0<|.ak (LK.has (.int .u8) (a0_0.deref.hA)/\1<=a0_0.deref.length)<|.test (((a0_0.deref.hA).toInt)==(43:Int)) (.call 113 [.agg [a0_0,a0_1]] [] fun r1 o1=>.ak (r1=.agg r1.cs/\r1.cs.length=2/\bw [.ptr,.ptr] r1.cs 0)<|NZ a1<|NZ a1<|.ak (LK.has (.int .u8) (a1.deref.hA)/\1<=a1.deref.length)<|.test (((a1.deref.hA).toInt)==(114:Int)) (.call 114 [.agg [a0_0,a0_1]] [] fun r2 o2=>.ak (r2=.agg r2.cs/\r2.cs.length=2/\bw [.ptr,.ptr] r2.cs 0)<|NZ a1<|NZ a1<|.ak (LK.has (.int .u8) (a1.deref.hA)/\1<=a1.deref.length)<|NZ a1<|NZ a1<|dX (a1.deref.drop 2)<|.call 101 [.agg [(r2.cs.getD 0 .any),(r2.cs.getD 1 .any)],((a1.deref.drop 2).hA),.agg [VS a2_0,a2_1],a3] [] fun r3 o3=>NP r3<|.call 100 [.v (.int .u8 ((a1.deref.hA).toInt)),r3] [] fun r4 o4=>NP r4<|.done 0 [r4] []) (NZ a1<|NZ a1<|.ak (LK.has (.int .u8) (a1.deref.hA)/\1<=a1.deref.length)<|NZ a1<|NZ a1<|dX (a1.deref.drop 2)<|.call 101 [.agg [(r1.cs.getD 0 .any),(r1.cs.getD 1 .any)],((a1.deref.drop 2).hA),.agg [VS a2_0,a2_1],a3] [] fun r5 o5=>NP r5<|.call 100 [.v (.int .u8 ((a1.deref.hA).toInt)),r5] [] fun r6 o6=>NP r6<|.done 0 [r6] [])) (.test (((a0_0.deref.hA).toInt)==(42:Int)) (NZ a1<|NZ a1<|.ak (LK.has (.int .u8) (a1.deref.hA)/\1<=a1.deref.length)<|.test (((a1.deref.hA).toInt)==(108:Int)) (.call 113 [.agg [a0_0,a0_1]] [] fun r7 o7=>.ak (r7=.agg r7.cs/\r7.cs.length=2/\bw [.ptr,.ptr] r7.cs 0)<|NZ a1<|NZ a1<|dX (a1.deref.drop 2)<|NZ ((a1.deref.drop 2).hA)<|NZ ((a1.deref.drop 2).hA)<|dX (((a1.deref.drop 2).hA).deref.drop 2)<|.call 101 [.agg [(r7.cs.getD 0 .any),(r7.cs.getD 1 .any)],((((a1.deref.drop 2).hA).deref.drop 2).hA),.agg [VS a2_0,a2_1],a3] [] fun r8 o8=>NP r8<|NZ a1<|NZ a1<|dX (a1.deref.drop 2)<|NZ ((a1.deref.drop 2).hA)<|NZ ((a1.deref.drop 2).hA)<|dX (((a1.deref.drop 2).hA).deref.drop 3)<|.call 117 [r8,((((a1.deref.drop 2).hA).deref.drop 3).hA)] [] fun r9 o9=>NP r9<|.done 0 [r9] []) (NZ a1<|NZ a1<|dX (a1.deref.drop 2)<|NZ ((a1.deref.drop 2).hA)<|NZ ((a1.deref.drop 2).hA)<|dX (((a1.deref.drop 2).hA).deref.drop 2)<|.call 114 [.agg [a0_0,a0_1]] [] fun r10 o10=>.ak (r10=.agg r10.cs/\r10.cs.length=2/\bw [.ptr,.ptr] r10.cs 0)<|NZ a1<|NZ a1<|dX (a1.deref.drop 2)<|NZ ((a1.deref.drop 2).hA)<|NZ ((a1.deref.drop 2).hA)<|dX (((a1.deref.drop 2).hA).deref.drop 3)<|.call 101 [.agg [(r10.cs.getD 0 .any),(r10.cs.getD 1 .any)],((((a1.deref.drop 2).hA).deref.drop 3).hA),.agg [VS a2_0,a2_1],a3] [] fun r11 o11=>NP r11<|.call 117 [((((a1.deref.drop 2).hA).deref.drop 2).hA),r11] [] fun r12 o12=>NP r12<|.done 0 [r12] [])) (.test (((a0_0.deref.hA).toInt)==(114:Int)) (.call 86 [.agg [a0_0,a0_1]] [] fun r13 o13=>NT r13<|.ak ((r13.comp 0)=.agg (r13.comp 0).cs/\(r13.comp 0).cs.length=2/\bw [.ptr,.ptr] ((r13.comp 0).cs) 0)<|NP (r13.comp 1)<|NZ a1<|NZ a1<|dX (a1.deref.drop 2)<|NZ ((a1.deref.drop 2).hA)<|NZ ((a1.deref.drop 2).hA)<|.ak (LK.has (.int .u8) (((a1.deref.drop 2).hA).deref.hA)/\1<=(((a1.deref.drop 2).hA).deref).length)<|.test (((((a1.deref.drop 2).hA).deref.hA).toInt)==(108:Int)) (NZ a1<|NZ a1<|dX (a1.deref.drop 2)<|NZ ((a1.deref.drop 2).hA)<|NZ ((a1.deref.drop 2).hA)<|dX (((a1.deref.drop 2).hA).deref.drop 2)<|.call 101 [.agg [((r13.comp 0).cs.getD 0 .any),((r13.comp 0).cs.getD 1 .any)],((((a1.deref.drop 2).hA).deref.drop 2).hA),.agg [VS a2_0,a2_1],a3] [] fun r14 o14=>NP r14<|.call 100 [.v (.int .u8 102),r14] [] fun r15 o15=>NP r15<|.done 0 [r15] []) (NZ a1<|NZ a1<|dX (a1.deref.drop 2)<|NZ ((a1.deref.drop 2).hA)<|NZ ((a1.deref.drop 2).hA)<|dX (((a1.deref.drop 2).hA).deref.drop 2)<|NZ ((((a1.deref.drop 2).hA).deref.drop 2).hA)<|NZ ((((a1.deref.drop 2).hA).deref.drop 2).hA)<|dX (((((a1.deref.drop 2).hA).deref.drop 2).hA).deref.drop 3)<|.call 101 [.agg [a0_0,a0_1],((((((a1.deref.drop 2).hA).deref.drop 2).hA).deref.drop 3).hA),.agg [VS a2_0,a2_1],a3] [] fun r16 o16=>NP r16<|NZ a1<|NZ a1<|dX (a1.deref.drop 2)<|NZ ((a1.deref.drop 2).hA)<|NZ ((a1.deref.drop 2).hA)<|dX (((a1.deref.drop 2).hA).deref.drop 2)<|NZ ((((a1.deref.drop 2).hA).deref.drop 2).hA)<|NZ ((((a1.deref.drop 2).hA).deref.drop 2).hA)<|dX (((((a1.deref.drop 2).hA).deref.drop 2).hA).deref.drop 2)<|.call 101 [.agg [((r13.comp 0).cs.getD 0 .any),((r13.comp 0).cs.getD 1 .any)],((((((a1.deref.drop 2).hA).deref.drop 2).hA).deref.drop 2).hA),.agg [VS (mk []),(r13.comp 1)],r16] [] fun r17 o17=>NP r17<|.call 100 [.v (.int .u8 102),r17] [] fun r18 o18=>NP r18<|.done 0 [r18] [])) (.done 0 [a3] [])))
theorem Ph(a0_0:AV)(a0_1:AV)(a1:AV)(a2_0:ByteArray)(a2_1:AV)(a3:AV)(ha0_0:LK.has .ptr a0_0)(ha0_1:LK.has .ptr a0_1)(ha1:LK.has .ptr a1)(ha2_1:LK.has .ptr a2_1)(ha3:LK.has .ptr a3)(h:dk 147 (AG a0_0 a0_1 a1 a2_0 a2_1 a3) R):an Tryz.prog 101 [.agg [a0_0,a0_1],a1,.agg [VS a2_0,a2_1],a3] [] R :=
 uQ (ag (bY (ag (bp ha0_0) (ag (bp ha0_1) aB))) (ag (bp ha1) (ag (bY (ag (az _) (ag (bp ha2_1) aB))) (ag (bp ha3) aB)))) (oQ [] Tryz.f101 h)
def KX(a0_0:AV)(a0_1:Int)(a1:AV):Tree :=
 NL a1<|.call 81 [.ref 0 0,VI (a1.aN.length:Int)] [.cells [a0_0,VI a0_1]] fun r1 o1=>.ak ((o1.hO)=.cells (o1.hO).cs)<|.ak (aL [.lk .sl,.lk (.int .i64)] ((o1.hO).cs) 0 1 o1.tail)<|NI r1<|.ak (LK.has .sl a1/\0<=r1.toInt/\r1.toInt<a1.aN.length/\(a1.aN.getD r1.toInt.toNat []).length=1)<|lQ (a1.aN.getD r1.toInt.toNat [])<|.done 0 [VS (((a1.aN.getD r1.toInt.toNat []).hA).ah)] [.cells [((o1.hO).cs.getD 0 .any),VI (((o1.hO).cs.getD 1 .any).toInt)]]
theorem OK(a0_0:AV)(a0_1:Int)(a1:AV)(ha1:LK.has .sl a1)(ha0_0:LK.has .sl a0_0)(h:dk 12 (KX a0_0 a0_1 a1) R):an Tryz.prog 102 [.ref 0 0,a1] [.cells [a0_0,VI a0_1]] R :=
 an.ni (bq (bW (ag (bQ ha0_0) (ag (az _) aB))) ct) (an.up (ag (az _) (ag (bQ ha1) aB)) (oF [] {mu:=[(0,.one (.obj [.lk .sl,.lk (.int .i64)]))],own:=[]} Tryz.f102 h))
def IM(a0_0:AV)(a0_1:Int):Tree :=
 .call 81 [.ref 0 0,VI 8] [.cells [a0_0,VI a0_1]] fun r1 o1=>.ak ((o1.hO)=.cells (o1.hO).cs)<|.ak (aL [.lk .sl,.lk (.int .i64)] ((o1.hO).cs) 0 1 o1.tail)<|NI r1<|.test (r1.toInt==(0:Int)) (.call 135 [.ref 0 0] [.cells [((o1.hO).cs.getD 0 .any),VI (((o1.hO).cs.getD 1 .any).toInt)]] fun r2 o2=>.ak ((o2.hO)=.cells (o2.hO).cs)<|.ak (aL [.lk .sl,.lk (.int .i64)] ((o2.hO).cs) 0 1 o2.tail)<|NS r2<|.done 0 [VS r2.ah] [.cells [((o2.hO).cs.getD 0 .any),VI (((o2.hO).cs.getD 1 .any).toInt)]]) (.test (r1.toInt==(1:Int)) (.call 136 [.ref 0 0,.sl [],VI 3] [.cells [((o1.hO).cs.getD 0 .any),VI (((o1.hO).cs.getD 1 .any).toInt)]] fun r3 o3=>.ak ((o3.hO)=.cells (o3.hO).cs)<|.ak (aL [.lk .sl,.lk (.int .i64)] ((o3.hO).cs) 0 1 o3.tail)<|NS r3<|.done 0 [VS r3.ah] [.cells [((o3.hO).cs.getD 0 .any),VI (((o3.hO).cs.getD 1 .any).toInt)]]) (.test (r1.toInt==(2:Int)) (.call 136 [.ref 0 0,.sl [],VI 3] [.cells [((o1.hO).cs.getD 0 .any),VI (((o1.hO).cs.getD 1 .any).toInt)]] fun r4 o4=>.ak ((o4.hO)=.cells (o4.hO).cs)<|.ak (aL [.lk .sl,.lk (.int .i64)] ((o4.hO).cs) 0 1 o4.tail)<|NS r4<|.done 0 [VS r4.ah] [.cells [((o4.hO).cs.getD 0 .any),VI (((o4.hO).cs.getD 1 .any).toInt)]]) (.test (r1.toInt==(3:Int)) (.call 136 [.ref 0 0,.sl [],VI 3] [.cells [((o1.hO).cs.getD 0 .any),VI (((o1.hO).cs.getD 1 .any).toInt)]] fun r5 o5=>.ak ((o5.hO)=.cells (o5.hO).cs)<|.ak (aL [.lk .sl,.lk (.int .i64)] ((o5.hO).cs) 0 1 o5.tail)<|NS r5<|.done 0 [VS r5.ah] [.cells [((o5.hO).cs.getD 0 .any),VI (((o5.hO).cs.getD 1 .any).toInt)]]) (.call 80 [.ref 0 0] [.cells [((o1.hO).cs.getD 0 .any),VI (((o1.hO).cs.getD 1 .any).toInt)]] fun r6 o6=>.ak ((o6.hO)=.cells (o6.hO).cs)<|.ak (aL [.lk .sl,.lk (.int .i64)] ((o6.hO).cs) 0 1 o6.tail)<|NS r6<|.done 0 [VS r6.ah] [.cells [((o6.hO).cs.getD 0 .any),VI (((o6.hO).cs.getD 1 .any).toInt)]]))))
theorem Oy(a0_0:AV)(a0_1:Int)(ha0_0:LK.has .sl a0_0)(h:dk 18 (IM a0_0 a0_1) R):an Tryz.prog 103 [.ref 0 0] [.cells [a0_0,VI a0_1]] R :=
 an.ni (bq (bW (ag (bQ ha0_0) (ag (az _) aB))) ct) (an.up (ag (az _) aB) (oF [] {mu:=[(0,.one (.obj [.lk .sl,.lk (.int .i64)]))],own:=[]} Tryz.f103 h))
def FW:LI:={hd:={ca:=[(7,.k (.int .i64))],refs:=[(2,2),(4,4)],cq:=[(2,[.lk .str,.lk .sl]),(4,[.lk .str,.lk .sl])],gU:=[(6,1)]},xs:={refs:=[(2,2),(4,4)],cq:=[(2,[.lk .str,.lk .sl]),(4,[.lk .str,.lk .sl])]},rt:={ca:=[(3,.k .bool)],refs:=[(2,2)],cq:=[(2,[.lk .str,.lk .sl])]},ex:=0}
def I7:Code:=cW (cN Tryz.f104) 6
def JB:List (Nat×LI):=[(6,FW)]
def MD(a0:ByteArray):Tree :=
 .call 132 [VS a0] [] fun r1 o1=>NT r1<|.ak ((r1.comp 0)=.agg (r1.comp 0).cs/\(r1.comp 0).cs.length=2/\bw [.str,.sl] ((r1.comp 0).cs) 0)<|NB (r1.comp 1)<|.test (!((r1.comp 1).toBool)) (.done 0 [.cA [.agg [VS (((r1.comp 0).cs.getD 0 .any).ah),((r1.comp 0).cs.getD 1 .any)],VB false]] []) (.call 137 [.agg [VS (((r1.comp 0).cs.getD 0 .any).ah),((r1.comp 0).cs.getD 1 .any)],.sl [],.vec 0] [.vec 1 []] fun r2 o2=>.ak (r2=.vec 1/\(o2.tail.hO)=.vec 1 (o2.tail.hO).es)<|.loop I7 FW [VI 0] [.cells [VS (mk []),.v (.slice none 0 0)],.cells [VS (((r1.comp 0).cs.getD 0 .any).ah),((r1.comp 0).cs.getD 1 .any)],.vec 1 ((o2.tail.hO).es)] (fun y4 q4=>.ak ((q4.hO)=.cells (q4.hO).cs)<|.ak (ae [.lk .str,.lk .sl] ((q4.hO).cs) 0 q4.tail)<|.ak (((q4.tail.drop 0).hO)=.cells ((q4.tail.drop 0).hO).cs)<|.ak (ae [.lk .str,.lk .sl] (((q4.tail.drop 0).hO).cs) 0 ((q4.tail.drop 0).tail))<|.done 0 [.cA [.agg [VS (((q4.tail.hO).cs.getD 0 .any).ah),((q4.tail.hO).cs.getD 1 .any)],VB true]] []) (fun y4 q4=>NB (y4.hA)<|.ak ((q4.hO)=.cells (q4.hO).cs)<|.ak (ae [.lk .str,.lk .sl] ((q4.hO).cs) 0 q4.tail)<|.done 0 [.cA [.agg [VS (((q4.hO).cs.getD 0 .any).ah),((q4.hO).cs.getD 1 .any)],VB ((y4.hA).toBool)]] []))
theorem OT(a0:ByteArray)(h:dk 33 (MD a0) R):an Tryz.prog 104 [VS a0] [] R :=
 uQ (ag (az _) aB) (oQ JB Tryz.f104 h)
def FL(x7:Int)(o2_0:ByteArray)(o2_1:AV)(o4_0:ByteArray)(o4_1:AV)(e6:List (List AV)):Tree :=
 NI (VI x7)<|.ak (Ob.cells [VS o2_0,o2_1]=.cells [VS o2_0,o2_1])<|.ak (ae [.lk .str,.lk .sl] [VS o2_0,o2_1] 0 [.cells [VS o4_0,o4_1],.vec 1 e6])<|.ak (Ob.cells [VS o4_0,o4_1]=.cells [VS o4_0,o4_1])<|.ak (ae [.lk .str,.lk .sl] [VS o4_0,o4_1] 0 [.vec 1 e6])<|.ak (Ob.vec 1 e6=.vec 1 e6)<|.test (decide (x7<(e6.length:Int))) (.ak (0<=x7/\x7<e6.length)<|.ak (x7.toNat<e6.length/\0<(e6.getD x7.toNat []).length/\LK.has .str ((e6.getD x7.toNat []).getD 0 .any))<|.call 138 [VS (((e6.getD x7.toNat []).getD 0 .any).ah)] [] fun r1 o1=>NB r1<|.test r1.toBool (.done 2 [VB false] [.cells [VS o4_0,o4_1]]) (.done 0 [VI (IntKind.wrap .i64 (x7+1))] [.cells [VS o2_0,o2_1],.cells [VS o4_0,o4_1],.vec 1 e6])) (.done 1 [] [.cells [VS o2_0,o2_1],.cells [VS o4_0,o4_1]])
abbrev Fm:=cF Tryz.prog 33 I7 FW
theorem J5(x7:Int)(o2_0:ByteArray)(o2_1:AV)(o4_0:ByteArray)(o4_1:AV)(e6:List (List AV))(h:lJ 33 (FL x7 o2_0 o2_1 o4_0 o4_1 e6) Fm U):Fm [VI x7] [.cells [VS o2_0,o2_1],.cells [VS o4_0,o4_1],.vec 1 e6] U :=
 gQ JB h
def AK(a0_0:AV)(a0_1:Int)(a1_0:ByteArray)(a1_1:AV)(a2:Int):Tree :=
 .call 121 [.agg [VS a1_0,a1_1]] [] fun r1 o1=>NS r1<|.test (af r1.ah==af (mk [43])) (.call 81 [.ref 0 0,VI 2] [.cells [a0_0,VI a0_1]] fun r2 o2=>.ak ((o2.hO)=.cells (o2.hO).cs)<|.ak (aL [.lk .sl,.lk (.int .i64)] ((o2.hO).cs) 0 1 o2.tail)<|NI r2<|NG a1_1 1 2<|NE (a1_1.ix (1:Int))<|.call 139 [.agg [VS (((a1_1.ix (1:Int)).getD 0 .any).ah),((a1_1.ix (1:Int)).getD 1 .any)],.sl []] [] fun r3 o3=>NB r3<|.test r3.toBool (.test ((1:Int)==(0:Int)) (NG a1_1 1 2<|NE (a1_1.ix (1:Int))<|.call 105 [.ref 0 0,.agg [VS (((a1_1.ix (1:Int)).getD 0 .any).ah),((a1_1.ix (1:Int)).getD 1 .any)],VI (IntKind.wrap .i64 (a2-1))] [.cells [((o2.hO).cs.getD 0 .any),VI (((o2.hO).cs.getD 1 .any).toInt)]] fun r4 o4=>.ak ((o4.hO)=.cells (o4.hO).cs)<|.ak (aL [.lk .sl,.lk (.int .i64)] ((o4.hO).cs) 0 1 o4.tail)<|NA r4<|.call 98 [VS (mk [108]),.sl [[VS ((r4.cs.getD 0 .any).ah),(r4.cs.getD 1 .any)]]] [] fun r5 o5=>NA r5<|.done 0 [.agg [VS ((r5.cs.getD 0 .any).ah),(r5.cs.getD 1 .any)]] [.cells [((o4.hO).cs.getD 0 .any),VI (((o4.hO).cs.getD 1 .any).toInt)]]) (NG a1_1 2 2<|NE (a1_1.ix (2:Int))<|.call 105 [.ref 0 0,.agg [VS (((a1_1.ix (2:Int)).getD 0 .any).ah),((a1_1.ix (2:Int)).getD 1 .any)],VI (IntKind.wrap .i64 (a2-1))] [.cells [((o2.hO).cs.getD 0 .any),VI (((o2.hO).cs.getD 1 .any).toInt)]] fun r6 o6=>.ak ((o6.hO)=.cells (o6.hO).cs)<|.ak (aL [.lk .sl,.lk (.int .i64)] ((o6.hO).cs) 0 1 o6.tail)<|NA r6<|.call 98 [VS (mk [114]),.sl [[VS ((r6.cs.getD 0 .any).ah),(r6.cs.getD 1 .any)]]] [] fun r7 o7=>NA r7<|.done 0 [.agg [VS ((r7.cs.getD 0 .any).ah),(r7.cs.getD 1 .any)]] [.cells [((o6.hO).cs.getD 0 .any),VI (((o6.hO).cs.getD 1 .any).toInt)]])) (.test (decide (a2<=(0:Int))) (NG a1_1 1 2<|NE (a1_1.ix (1:Int))<|.call 140 [.agg [VS (((a1_1.ix (1:Int)).getD 0 .any).ah),((a1_1.ix (1:Int)).getD 1 .any)]] [] fun r8 o8=>NI r8<|NG a1_1 2 2<|NE (a1_1.ix (2:Int))<|.call 140 [.agg [VS (((a1_1.ix (2:Int)).getD 0 .any).ah),((a1_1.ix (2:Int)).getD 1 .any)]] [] fun r9 o9=>NI r9<|.test (decide (r8.toInt>r9.toInt)) (NG a1_1 2 2<|NE (a1_1.ix (2:Int))<|.call 139 [.agg [VS (((a1_1.ix (2:Int)).getD 0 .any).ah),((a1_1.ix (2:Int)).getD 1 .any)],.sl []] [] fun r10 o10=>NB r10<|.test (!r10.toBool) (.test ((1:Int)==(0:Int)) (NG a1_1 1 2<|NE (a1_1.ix (1:Int))<|.call 105 [.ref 0 0,.agg [VS (((a1_1.ix (1:Int)).getD 0 .any).ah),((a1_1.ix (1:Int)).getD 1 .any)],VI (IntKind.wrap .i64 (a2-1))] [.cells [((o2.hO).cs.getD 0 .any),VI (((o2.hO).cs.getD 1 .any).toInt)]] fun r11 o11=>.ak ((o11.hO)=.cells (o11.hO).cs)<|.ak (aL [.lk .sl,.lk (.int .i64)] ((o11.hO).cs) 0 1 o11.tail)<|NA r11<|.call 98 [VS (mk [108]),.sl [[VS ((r11.cs.getD 0 .any).ah),(r11.cs.getD 1 .any)]]] [] fun r12 o12=>NA r12<|.done 0 [.agg [VS ((r12.cs.getD 0 .any).ah),(r12.cs.getD 1 .any)]] [.cells [((o11.hO).cs.getD 0 .any),VI (((o11.hO).cs.getD 1 .any).toInt)]]) (NG a1_1 2 2<|NE (a1_1.ix (2:Int))<|.call 105 [.ref 0 0,.agg [VS (((a1_1.ix (2:Int)).getD 0 .any).ah),((a1_1.ix (2:Int)).getD 1 .any)],VI (IntKind.wrap .i64 (a2-1))] [.cells [((o2.hO).cs.getD 0 .any),VI (((o2.hO).cs.getD 1 .any).toInt)]] fun r13 o13=>.ak ((o13.hO)=.cells (o13.hO).cs)<|.ak (aL [.lk .sl,.lk (.int .i64)] ((o13.hO).cs) 0 1 o13.tail)<|NA r13<|.call 98 [VS (mk [114]),.sl [[VS ((r13.cs.getD 0 .any).ah),(r13.cs.getD 1 .any)]]] [] fun r14 o14=>NA r14<|.done 0 [.agg [VS ((r14.cs.getD 0 .any).ah),(r14.cs.getD 1 .any)]] [.cells [((o13.hO).cs.getD 0 .any),VI (((o13.hO).cs.getD 1 .any).toInt)]])) (NG a1_1 2 2<|NE (a1_1.ix (2:Int))<|.call 139 [.agg [VS (((a1_1.ix (2:Int)).getD 0 .any).ah),((a1_1.ix (2:Int)).getD 1 .any)],.sl []] [] fun r15 o15=>NB r15<|.test r15.toBool (.test ((0:Int)==(0:Int)) (NG a1_1 1 2<|NE (a1_1.ix (1:Int))<|.call 105 [.ref 0 0,.agg [VS (((a1_1.ix (1:Int)).getD 0 .any).ah),((a1_1.ix (1:Int)).getD 1 .any)],VI (IntKind.wrap .i64 (a2-1))] [.cells [((o2.hO).cs.getD 0 .any),VI (((o2.hO).cs.getD 1 .any).toInt)]] fun r16 o16=>.ak ((o16.hO)=.cells (o16.hO).cs)<|.ak (aL [.lk .sl,.lk (.int .i64)] ((o16.hO).cs) 0 1 o16.tail)<|NA r16<|.call 98 [VS (mk [108]),.sl [[VS ((r16.cs.getD 0 .any).ah),(r16.cs.getD 1 .any)]]] [] fun r17 o17=>NA r17<|.done 0 [.agg [VS ((r17.cs.getD 0 .any).ah),(r17.cs.getD 1 .any)]] [.cells [((o16.hO).cs.getD 0 .any),VI (((o16.hO).cs.getD 1 .any).toInt)]]) (NG a1_1 2 2<|NE (a1_1.ix (2:Int))<|.call 105 [.ref 0 0,.agg [VS (((a1_1.ix (2:Int)).getD 0 .any).ah),((a1_1.ix (2:Int)).getD 1 .any)],VI (IntKind.wrap .i64 (a2-1))] [.cells [((o2.hO).cs.getD 0 .any),VI (((o2.hO).cs.getD 1 .any).toInt)]] fun r18 o18=>.ak ((o18.hO)=.cells (o18.hO).cs)<|.ak (aL [.lk .sl,.lk (.int .i64)] ((o18.hO).cs) 0 1 o18.tail)<|NA r18<|.call 98 [VS (mk [114]),.sl [[VS ((r18.cs.getD 0 .any).ah),(r18.cs.getD 1 .any)]]] [] fun r19 o19=>NA r19<|.done 0 [.agg [VS ((r19.cs.getD 0 .any).ah),(r19.cs.getD 1 .any)]] [.cells [((o18.hO).cs.getD 0 .any),VI (((o18.hO).cs.getD 1 .any).toInt)]])) (.test (decide (a2<=(0:Int))) (.test ((0:Int)==(0:Int)) (NG a1_1 1 2<|NE (a1_1.ix (1:Int))<|.call 105 [.ref 0 0,.agg [VS (((a1_1.ix (1:Int)).getD 0 .any).ah),((a1_1.ix (1:Int)).getD 1 .any)],VI (IntKind.wrap .i64 (a2-1))] [.cells [((o2.hO).cs.getD 0 .any),VI (((o2.hO).cs.getD 1 .any).toInt)]] fun r20 o20=>.ak ((o20.hO)=.cells (o20.hO).cs)<|.ak (aL [.lk .sl,.lk (.int .i64)] ((o20.hO).cs) 0 1 o20.tail)<|NA r20<|.call 98 [VS (mk [108]),.sl [[VS ((r20.cs.getD 0 .any).ah),(r20.cs.getD 1 .any)]]] [] fun r21 o21=>NA r21<|.done 0 [.agg [VS ((r21.cs.getD 0 .any).ah),(r21.cs.getD 1 .any)]] [.cells [((o20.hO).cs.getD 0 .any),VI (((o20.hO).cs.getD 1 .any).toInt)]]) (NG a1_1 2 2<|NE (a1_1.ix (2:Int))<|.call 105 [.ref 0 0,.agg [VS (((a1_1.ix (2:Int)).getD 0 .any).ah),((a1_1.ix (2:Int)).getD 1 .any)],VI (IntKind.wrap .i64 (a2-1))] [.cells [((o2.hO).cs.getD 0 .any),VI (((o2.hO).cs.getD 1 .any).toInt)]] fun r22 o22=>.ak ((o22.hO)=.cells (o22.hO).cs)<|.ak (aL [.lk .sl,.lk (.int .i64)] ((o22.hO).cs) 0 1 o22.tail)<|NA r22<|.call 98 [VS (mk [114]),.sl [[VS ((r22.cs.getD 0 .any).ah),(r22.cs.getD 1 .any)]]] [] fun r23 o23=>NA r23<|.done 0 [.agg [VS ((r23.cs.getD 0 .any).ah),(r23.cs.getD 1 .any)]] [.cells [((o22.hO).cs.getD 0 .any),VI (((o22.hO).cs.getD 1 .any).toInt)]])) (.test (r2.toInt==(0:Int)) (NG a1_1 1 2<|NE (a1_1.ix (1:Int))<|.call 105 [.ref 0 0,.agg [VS (((a1_1.ix (1:Int)).getD 0 .any).ah),((a1_1.ix (1:Int)).getD 1 .any)],VI (IntKind.wrap .i64 (a2-1))] [.cells [((o2.hO).cs.getD 0 .any),VI (((o2.hO).cs.getD 1 .any).toInt)]] fun r24 o24=>.ak ((o24.hO)=.cells (o24.hO).cs)<|.ak (aL [.lk .sl,.lk (.int .i64)] ((o24.hO).cs) 0 1 o24.tail)<|NA r24<|.call 98 [VS (mk [108]),.sl [[VS ((r24.cs.getD 0 .any).ah),(r24.cs.getD 1 .any)]]] [] fun r25 o25=>NA r25<|.done 0 [.agg [VS ((r25.cs.getD 0 .any).ah),(r25.cs.getD 1 .any)]] [.cells [((o24.hO).cs.getD 0 .any),VI (((o24.hO).cs.getD 1 .any).toInt)]]) (NG a1_1 2 2<|NE (a1_1.ix (2:Int))<|.call 105 [.ref 0 0,.agg [VS (((a1_1.ix (2:Int)).getD 0 .any).ah),((a1_1.ix (2:Int)).getD 1 .any)],VI (IntKind.wrap .i64 (a2-1))] [.cells [((o2.hO).cs.getD 0 .any),VI (((o2.hO).cs.getD 1 .any).toInt)]] fun r26 o26=>.ak ((o26.hO)=.cells (o26.hO).cs)<|.ak (aL [.lk .sl,.lk (.int .i64)] ((o26.hO).cs) 0 1 o26.tail)<|NA r26<|.call 98 [VS (mk [114]),.sl [[VS ((r26.cs.getD 0 .any).ah),(r26.cs.getD 1 .any)]]] [] fun r27 o27=>NA r27<|.done 0 [.agg [VS ((r27.cs.getD 0 .any).ah),(r27.cs.getD 1 .any)]] [.cells [((o26.hO).cs.getD 0 .any),VI (((o26.hO).cs.getD 1 .any).toInt)]]))))) (NG a1_1 2 2<|NE (a1_1.ix (2:Int))<|.call 139 [.agg [VS (((a1_1.ix (2:Int)).getD 0 .any).ah),((a1_1.ix (2:Int)).getD 1 .any)],.sl []] [] fun r28 o28=>NB r28<|.test r28.toBool (.test ((0:Int)==(0:Int)) (NG a1_1 1 2<|NE (a1_1.ix (1:Int))<|.call 105 [.ref 0 0,.agg [VS (((a1_1.ix (1:Int)).getD 0 .any).ah),((a1_1.ix (1:Int)).getD 1 .any)],VI (IntKind.wrap .i64 (a2-1))] [.cells [((o2.hO).cs.getD 0 .any),VI (((o2.hO).cs.getD 1 .any).toInt)]] fun r29 o29=>.ak ((o29.hO)=.cells (o29.hO).cs)<|.ak (aL [.lk .sl,.lk (.int .i64)] ((o29.hO).cs) 0 1 o29.tail)<|NA r29<|.call 98 [VS (mk [108]),.sl [[VS ((r29.cs.getD 0 .any).ah),(r29.cs.getD 1 .any)]]] [] fun r30 o30=>NA r30<|.done 0 [.agg [VS ((r30.cs.getD 0 .any).ah),(r30.cs.getD 1 .any)]] [.cells [((o29.hO).cs.getD 0 .any),VI (((o29.hO).cs.getD 1 .any).toInt)]]) (NG a1_1 2 2<|NE (a1_1.ix (2:Int))<|.call 105 [.ref 0 0,.agg [VS (((a1_1.ix (2:Int)).getD 0 .any).ah),((a1_1.ix (2:Int)).getD 1 .any)],VI (IntKind.wrap .i64 (a2-1))] [.cells [((o2.hO).cs.getD 0 .any),VI (((o2.hO).cs.getD 1 .any).toInt)]] fun r31 o31=>.ak ((o31.hO)=.cells (o31.hO).cs)<|.ak (aL [.lk .sl,.lk (.int .i64)] ((o31.hO).cs) 0 1 o31.tail)<|NA r31<|.call 98 [VS (mk [114]),.sl [[VS ((r31.cs.getD 0 .any).ah),(r31.cs.getD 1 .any)]]] [] fun r32 o32=>NA r32<|.done 0 [.agg [VS ((r32.cs.getD 0 .any).ah),(r32.cs.getD 1 .any)]] [.cells [((o31.hO).cs.getD 0 .any),VI (((o31.hO).cs.getD 1 .any).toInt)]])) (.test (decide (a2<=(0:Int))) (.test ((0:Int)==(0:Int)) (NG a1_1 1 2<|NE (a1_1.ix (1:Int))<|.call 105 [.ref 0 0,.agg [VS (((a1_1.ix (1:Int)).getD 0 .any).ah),((a1_1.ix (1:Int)).getD 1 .any)],VI (IntKind.wrap .i64 (a2-1))] [.cells [((o2.hO).cs.getD 0 .any),VI (((o2.hO).cs.getD 1 .any).toInt)]] fun r33 o33=>.ak ((o33.hO)=.cells (o33.hO).cs)<|.ak (aL [.lk .sl,.lk (.int .i64)] ((o33.hO).cs) 0 1 o33.tail)<|NA r33<|.call 98 [VS (mk [108]),.sl [[VS ((r33.cs.getD 0 .any).ah),(r33.cs.getD 1 .any)]]] [] fun r34 o34=>NA r34<|.done 0 [.agg [VS ((r34.cs.getD 0 .any).ah),(r34.cs.getD 1 .any)]] [.cells [((o33.hO).cs.getD 0 .any),VI (((o33.hO).cs.getD 1 .any).toInt)]]) (NG a1_1 2 2<|NE (a1_1.ix (2:Int))<|.call 105 [.ref 0 0,.agg [VS (((a1_1.ix (2:Int)).getD 0 .any).ah),((a1_1.ix (2:Int)).getD 1 .any)],VI (IntKind.wrap .i64 (a2-1))] [.cells [((o2.hO).cs.getD 0 .any),VI (((o2.hO).cs.getD 1 .any).toInt)]] fun r35 o35=>.ak ((o35.hO)=.cells (o35.hO).cs)<|.ak (aL [.lk .sl,.lk (.int .i64)] ((o35.hO).cs) 0 1 o35.tail)<|NA r35<|.call 98 [VS (mk [114]),.sl [[VS ((r35.cs.getD 0 .any).ah),(r35.cs.getD 1 .any)]]] [] fun r36 o36=>NA r36<|.done 0 [.agg [VS ((r36.cs.getD 0 .any).ah),(r36.cs.getD 1 .any)]] [.cells [((o35.hO).cs.getD 0 .any),VI (((o35.hO).cs.getD 1 .any).toInt)]])) (.test (r2.toInt==(0:Int)) (NG a1_1 1 2<|NE (a1_1.ix (1:Int))<|.call 105 [.ref 0 0,.agg [VS (((a1_1.ix (1:Int)).getD 0 .any).ah),((a1_1.ix (1:Int)).getD 1 .any)],VI (IntKind.wrap .i64 (a2-1))] [.cells [((o2.hO).cs.getD 0 .any),VI (((o2.hO).cs.getD 1 .any).toInt)]] fun r37 o37=>.ak ((o37.hO)=.cells (o37.hO).cs)<|.ak (aL [.lk .sl,.lk (.int .i64)] ((o37.hO).cs) 0 1 o37.tail)<|NA r37<|.call 98 [VS (mk [108]),.sl [[VS ((r37.cs.getD 0 .any).ah),(r37.cs.getD 1 .any)]]] [] fun r38 o38=>NA r38<|.done 0 [.agg [VS ((r38.cs.getD 0 .any).ah),(r38.cs.getD 1 .any)]] [.cells [((o37.hO).cs.getD 0 .any),VI (((o37.hO).cs.getD 1 .any).toInt)]]) (NG a1_1 2 2<|NE (a1_1.ix (2:Int))<|.call 105 [.ref 0 0,.agg [VS (((a1_1.ix (2:Int)).getD 0 .any).ah),((a1_1.ix (2:Int)).getD 1 .any)],VI (IntKind.wrap .i64 (a2-1))] [.cells [((o2.hO).cs.getD 0 .any),VI (((o2.hO).cs.getD 1 .any).toInt)]] fun r39 o39=>.ak ((o39.hO)=.cells (o39.hO).cs)<|.ak (aL [.lk .sl,.lk (.int .i64)] ((o39.hO).cs) 0 1 o39.tail)<|NA r39<|.call 98 [VS (mk [114]),.sl [[VS ((r39.cs.getD 0 .any).ah),(r39.cs.getD 1 .any)]]] [] fun r40 o40=>NA r40<|.done 0 [.agg [VS ((r40.cs.getD 0 .any).ah),(r40.cs.getD 1 .any)]] [.cells [((o39.hO).cs.getD 0 .any),VI (((o39.hO).cs.getD 1 .any).toInt)]]))))) (NG a1_1 2 2<|NE (a1_1.ix (2:Int))<|.call 139 [.agg [VS (((a1_1.ix (2:Int)).getD 0 .any).ah),((a1_1.ix (2:Int)).getD 1 .any)],.sl []] [] fun r41 o41=>NB r41<|.test r41.toBool (.test ((0:Int)==(0:Int)) (NG a1_1 1 2<|NE (a1_1.ix (1:Int))<|.call 105 [.ref 0 0,.agg [VS (((a1_1.ix (1:Int)).getD 0 .any).ah),((a1_1.ix (1:Int)).getD 1 .any)],VI (IntKind.wrap .i64 (a2-1))] [.cells [((o2.hO).cs.getD 0 .any),VI (((o2.hO).cs.getD 1 .any).toInt)]] fun r42 o42=>.ak ((o42.hO)=.cells (o42.hO).cs)<|.ak (aL [.lk .sl,.lk (.int .i64)] ((o42.hO).cs) 0 1 o42.tail)<|NA r42<|.call 98 [VS (mk [108]),.sl [[VS ((r42.cs.getD 0 .any).ah),(r42.cs.getD 1 .any)]]] [] fun r43 o43=>NA r43<|.done 0 [.agg [VS ((r43.cs.getD 0 .any).ah),(r43.cs.getD 1 .any)]] [.cells [((o42.hO).cs.getD 0 .any),VI (((o42.hO).cs.getD 1 .any).toInt)]]) (NG a1_1 2 2<|NE (a1_1.ix (2:Int))<|.call 105 [.ref 0 0,.agg [VS (((a1_1.ix (2:Int)).getD 0 .any).ah),((a1_1.ix (2:Int)).getD 1 .any)],VI (IntKind.wrap .i64 (a2-1))] [.cells [((o2.hO).cs.getD 0 .any),VI (((o2.hO).cs.getD 1 .any).toInt)]] fun r44 o44=>.ak ((o44.hO)=.cells (o44.hO).cs)<|.ak (aL [.lk .sl,.lk (.int .i64)] ((o44.hO).cs) 0 1 o44.tail)<|NA r44<|.call 98 [VS (mk [114]),.sl [[VS ((r44.cs.getD 0 .any).ah),(r44.cs.getD 1 .any)]]] [] fun r45 o45=>NA r45<|.done 0 [.agg [VS ((r45.cs.getD 0 .any).ah),(r45.cs.getD 1 .any)]] [.cells [((o44.hO).cs.getD 0 .any),VI (((o44.hO).cs.getD 1 .any).toInt)]])) (.test (decide (a2<=(0:Int))) (.test ((0:Int)==(0:Int)) (NG a1_1 1 2<|NE (a1_1.ix (1:Int))<|.call 105 [.ref 0 0,.agg [VS (((a1_1.ix (1:Int)).getD 0 .any).ah),((a1_1.ix (1:Int)).getD 1 .any)],VI (IntKind.wrap .i64 (a2-1))] [.cells [((o2.hO).cs.getD 0 .any),VI (((o2.hO).cs.getD 1 .any).toInt)]] fun r46 o46=>.ak ((o46.hO)=.cells (o46.hO).cs)<|.ak (aL [.lk .sl,.lk (.int .i64)] ((o46.hO).cs) 0 1 o46.tail)<|NA r46<|.call 98 [VS (mk [108]),.sl [[VS ((r46.cs.getD 0 .any).ah),(r46.cs.getD 1 .any)]]] [] fun r47 o47=>NA r47<|.done 0 [.agg [VS ((r47.cs.getD 0 .any).ah),(r47.cs.getD 1 .any)]] [.cells [((o46.hO).cs.getD 0 .any),VI (((o46.hO).cs.getD 1 .any).toInt)]]) (NG a1_1 2 2<|NE (a1_1.ix (2:Int))<|.call 105 [.ref 0 0,.agg [VS (((a1_1.ix (2:Int)).getD 0 .any).ah),((a1_1.ix (2:Int)).getD 1 .any)],VI (IntKind.wrap .i64 (a2-1))] [.cells [((o2.hO).cs.getD 0 .any),VI (((o2.hO).cs.getD 1 .any).toInt)]] fun r48 o48=>.ak ((o48.hO)=.cells (o48.hO).cs)<|.ak (aL [.lk .sl,.lk (.int .i64)] ((o48.hO).cs) 0 1 o48.tail)<|NA r48<|.call 98 [VS (mk [114]),.sl [[VS ((r48.cs.getD 0 .any).ah),(r48.cs.getD 1 .any)]]] [] fun r49 o49=>NA r49<|.done 0 [.agg [VS ((r49.cs.getD 0 .any).ah),(r49.cs.getD 1 .any)]] [.cells [((o48.hO).cs.getD 0 .any),VI (((o48.hO).cs.getD 1 .any).toInt)]])) (.test (r2.toInt==(0:Int)) (NG a1_1 1 2<|NE (a1_1.ix (1:Int))<|.call 105 [.ref 0 0,.agg [VS (((a1_1.ix (1:Int)).getD 0 .any).ah),((a1_1.ix (1:Int)).getD 1 .any)],VI (IntKind.wrap .i64 (a2-1))] [.cells [((o2.hO).cs.getD 0 .any),VI (((o2.hO).cs.getD 1 .any).toInt)]] fun r50 o50=>.ak ((o50.hO)=.cells (o50.hO).cs)<|.ak (aL [.lk .sl,.lk (.int .i64)] ((o50.hO).cs) 0 1 o50.tail)<|NA r50<|.call 98 [VS (mk [108]),.sl [[VS ((r50.cs.getD 0 .any).ah),(r50.cs.getD 1 .any)]]] [] fun r51 o51=>NA r51<|.done 0 [.agg [VS ((r51.cs.getD 0 .any).ah),(r51.cs.getD 1 .any)]] [.cells [((o50.hO).cs.getD 0 .any),VI (((o50.hO).cs.getD 1 .any).toInt)]]) (NG a1_1 2 2<|NE (a1_1.ix (2:Int))<|.call 105 [.ref 0 0,.agg [VS (((a1_1.ix (2:Int)).getD 0 .any).ah),((a1_1.ix (2:Int)).getD 1 .any)],VI (IntKind.wrap .i64 (a2-1))] [.cells [((o2.hO).cs.getD 0 .any),VI (((o2.hO).cs.getD 1 .any).toInt)]] fun r52 o52=>.ak ((o52.hO)=.cells (o52.hO).cs)<|.ak (aL [.lk .sl,.lk (.int .i64)] ((o52.hO).cs) 0 1 o52.tail)<|NA r52<|.call 98 [VS (mk [114]),.sl [[VS ((r52.cs.getD 0 .any).ah),(r52.cs.getD 1 .any)]]] [] fun r53 o53=>NA r53<|.done 0 [.agg [VS ((r53.cs.getD 0 .any).ah),(r53.cs.getD 1 .any)]] [.cells [((o52.hO).cs.getD 0 .any),VI (((o52.hO).cs.getD 1 .any).toInt)]])))))) (.test (af r1.ah==af (mk [42])) (NG a1_1 1 2<|NE (a1_1.ix (1:Int))<|.call 105 [.ref 0 0,.agg [VS (((a1_1.ix (1:Int)).getD 0 .any).ah),((a1_1.ix (1:Int)).getD 1 .any)],VI (IntKind.wrap .i64 (a2-1))] [.cells [a0_0,VI a0_1]] fun r54 o54=>.ak ((o54.hO)=.cells (o54.hO).cs)<|.ak (aL [.lk .sl,.lk (.int .i64)] ((o54.hO).cs) 0 1 o54.tail)<|NA r54<|NG a1_1 2 2<|NE (a1_1.ix (2:Int))<|.call 105 [.ref 0 0,.agg [VS (((a1_1.ix (2:Int)).getD 0 .any).ah),((a1_1.ix (2:Int)).getD 1 .any)],VI (IntKind.wrap .i64 (a2-1))] [.cells [((o54.hO).cs.getD 0 .any),VI (((o54.hO).cs.getD 1 .any).toInt)]] fun r55 o55=>.ak ((o55.hO)=.cells (o55.hO).cs)<|.ak (aL [.lk .sl,.lk (.int .i64)] ((o55.hO).cs) 0 1 o55.tail)<|NA r55<|.call 98 [VS (mk [112]),.sl [[VS ((r54.cs.getD 0 .any).ah),(r54.cs.getD 1 .any)],[VS ((r55.cs.getD 0 .any).ah),(r55.cs.getD 1 .any)]]] [] fun r56 o56=>NA r56<|.done 0 [.agg [VS ((r56.cs.getD 0 .any).ah),(r56.cs.getD 1 .any)]] [.cells [((o55.hO).cs.getD 0 .any),VI (((o55.hO).cs.getD 1 .any).toInt)]]) (.test (af r1.ah==af (mk [114,101,99])) (.call 141 [.agg [VS a1_0,a1_1]] [] fun r57 o57=>NT r57<|.ak ((r57.comp 0)=.agg (r57.comp 0).cs/\(r57.comp 0).cs.length=2/\bw [.str,.sl] ((r57.comp 0).cs) 0)<|NB (r57.comp 1)<|.test (!((r57.comp 1).toBool)) (.done 0 [.agg [VS (mk [117]),.v (.slice none 0 0)]] [.cells [a0_0,VI a0_1]]) (.test (decide (a2<((-12):Int))) (.done 0 [.agg [VS (mk [117]),.v (.slice none 0 0)]] [.cells [a0_0,VI a0_1]]) (.call 105 [.ref 0 0,.agg [VS (((r57.comp 0).cs.getD 0 .any).ah),((r57.comp 0).cs.getD 1 .any)],VI (IntKind.wrap .i64 (a2-1))] [.cells [a0_0,VI a0_1]] fun r58 o58=>.ak ((o58.hO)=.cells (o58.hO).cs)<|.ak (aL [.lk .sl,.lk (.int .i64)] ((o58.hO).cs) 0 1 o58.tail)<|NA r58<|.call 98 [VS (mk [102]),.sl [[VS ((r58.cs.getD 0 .any).ah),(r58.cs.getD 1 .any)]]] [] fun r59 o59=>NA r59<|.done 0 [.agg [VS ((r59.cs.getD 0 .any).ah),(r59.cs.getD 1 .any)]] [.cells [((o58.hO).cs.getD 0 .any),VI (((o58.hO).cs.getD 1 .any).toInt)]]))) (.test (af a1_0==af (mk [49])) (.done 0 [.agg [VS (mk [117]),.v (.slice none 0 0)]] [.cells [a0_0,VI a0_1]]) (.call 81 [.ref 0 0,VI 3] [.cells [a0_0,VI a0_1]] fun r60 o60=>.ak ((o60.hO)=.cells (o60.hO).cs)<|.ak (aL [.lk .sl,.lk (.int .i64)] ((o60.hO).cs) 0 1 o60.tail)<|NI r60<|.call 142 [VI r60.toInt] [] fun r61 o61=>NS r61<|.ak (ac (mk [101])+ac r61.ah<=9223372036854775807)<|.done 0 [.agg [VS (((mk [101]):ByteArray)++r61.ah),.v (.slice none 0 0)]] [.cells [((o60.hO).cs.getD 0 .any),VI (((o60.hO).cs.getD 1 .any).toInt)]]))))
theorem Dh(a0_0:AV)(a0_1:Int)(a1_0:ByteArray)(a1_1:AV)(a2:Int)(ha1_1:LK.has .sl a1_1)(ha0_0:LK.has .sl a0_0)(h:dk 132 (AK a0_0 a0_1 a1_0 a1_1 a2) R):an Tryz.prog 105 [.ref 0 0,.agg [VS a1_0,a1_1],VI a2] [.cells [a0_0,VI a0_1]] R :=
 an.ni (bq (bW (ag (bQ ha0_0) (ag (az _) aB))) ct) (an.up (ag (az _) (ag (bY (ag (az _) (ag (bQ ha1_1) aB))) (ag (az _) aB))) (oF [] {mu:=[(0,.one (.obj [.lk .sl,.lk (.int .i64)]))],own:=[]} Tryz.f105 h))
def G3:LI:={hd:={ca:=[(1,.k .sl),(6,.k (.int .i64))],refs:=[(2,2),(4,4)],cq:=[(2,[.lk .str,.lk .sl]),(4,[.lk .str,.lk .sl])],gU:=[(5,1)]},xs:={refs:=[(2,2),(4,4)],cq:=[(2,[.lk .str,.lk .sl]),(4,[.lk .str,.lk .sl])],gU:=[(5,1)]},rt:={},ex:=0}
def Mu:Code:=cW (cN Tryz.f106) 3
def HJ:List (Nat×LI):=[(3,G3)]
def HS(a0_0:ByteArray)(a0_1:AV)(a1:AV):Tree :=
 .call 137 [.agg [VS a0_0,a0_1],.sl [],.vec 0] [.vec 1 []] fun r1 o1=>.ak (r1=.vec 1/\(o1.tail.hO)=.vec 1 (o1.tail.hO).es)<|.loop Mu G3 [a1,VI 0] [.cells [VS a0_0,a0_1],.cells [VS (mk []),.v (.slice none 0 0)],.vec 1 ((o1.tail.hO).es)] (fun y3 q3=>.ak ((q3.hO)=.cells (q3.hO).cs)<|.ak (ae [.lk .str,.lk .sl] ((q3.hO).cs) 0 q3.tail)<|.ak (((q3.tail.drop 0).hO)=.cells ((q3.tail.drop 0).hO).cs)<|.ak (ae [.lk .str,.lk .sl] (((q3.tail.drop 0).hO).cs) 0 ((q3.tail.drop 0).tail))<|.ak (((q3.drop 2).hO)=.vec 1 ((q3.drop 2).hO).es)<|.call 143 [.agg [VS (((q3.hO).cs.getD 0 .any).ah),((q3.hO).cs.getD 1 .any)],.sl [],.sl [],.ref 0 0] [.cells [.vec 1,VI 0],.vec 1 ((q3.tail.tail.hO).es)] fun r4 o4=>.ak ((o4.hO)=.cells (o4.hO).cs)<|.ak (aL [.vec 1,.lk (.int .i64)] ((o4.hO).cs) 0 1 o4.tail)<|NA r4<|.done 0 [.agg [VS ((r4.cs.getD 0 .any).ah),(r4.cs.getD 1 .any)]] []) (fun y3 q3=>.fail)
theorem Ov(a0_0:ByteArray)(a0_1:AV)(a1:AV)(ha0_1:LK.has .sl a0_1)(ha1:LK.has .sl a1)(h:dk 33 (HS a0_0 a0_1 a1) R):an Tryz.prog 106 [.agg [VS a0_0,a0_1],a1] [] R :=
 uQ (ag (bY (ag (az _) (ag (bQ ha0_1) aB))) (ag (bQ ha1) aB)) (oQ HJ Tryz.f106 h)
def Gs(x1:AV)(x6:Int)(o2_0:ByteArray)(o2_1:AV)(o4_0:ByteArray)(o4_1:AV)(e5:List (List AV)):Tree :=
 NL x1<|NI (VI x6)<|.ak (Ob.cells [VS o2_0,o2_1]=.cells [VS o2_0,o2_1])<|.ak (ae [.lk .str,.lk .sl] [VS o2_0,o2_1] 0 [.cells [VS o4_0,o4_1],.vec 1 e5])<|.ak (Ob.cells [VS o4_0,o4_1]=.cells [VS o4_0,o4_1])<|.ak (ae [.lk .str,.lk .sl] [VS o4_0,o4_1] 0 [.vec 1 e5])<|.ak (Ob.vec 1 e5=.vec 1 e5)<|NL x1<|.test (decide (x6<(x1.aN.length:Int))) (NG x1 x6 2<|NE (x1.ix x6)<|.call 137 [.agg [VS (((x1.ix x6).getD 0 .any).ah),((x1.ix x6).getD 1 .any)],.sl [],.vec 0] [.vec 1 []] fun r1 o1=>.ak (r1=.vec 1/\(o1.tail.hO)=.vec 1 (o1.tail.hO).es)<|.ak (cV 1 ((o1.tail.hO).es)/\((e5.length)+((o1.tail.hO).es).length)*16<=140737488355328)<|.done 0 [x1,VI (IntKind.wrap .i64 (x6+1))] [.cells [VS o2_0,o2_1],.cells [VS o4_0,o4_1],.vec 1 (e5++((o1.tail.hO).es))]) (.done 1 [] [.cells [VS o2_0,o2_1],.cells [VS o4_0,o4_1],.vec 1 e5])
abbrev GW:=cF Tryz.prog 33 Mu G3
theorem JH(x1:AV)(x6:Int)(o2_0:ByteArray)(o2_1:AV)(o4_0:ByteArray)(o4_1:AV)(e5:List (List AV))(h:lJ 33 (Gs x1 x6 o2_0 o2_1 o4_0 o4_1 e5) GW U):GW [x1,VI x6] [.cells [VS o2_0,o2_1],.cells [VS o4_0,o4_1],.vec 1 e5] U :=
 gQ HJ h
def JG(a0:ByteArray):Tree :=
 .call 93 [VS a0] [] fun r1 o1=>NP r1<|NP r1<|.test r1.isNil (.done 0 [.v (.pointer none)] []) (NZ r1<|NZ r1<|.ak (LK.has (.int .u8) (r1.deref.hA)/\1<=r1.deref.length)<|.test (((r1.deref.hA).toInt) != (114:Int)) (.done 0 [.v (.pointer none)] []) (.done 0 [r1] []))
theorem Po(a0:ByteArray)(h:dk 16 (JG a0) R):an Tryz.prog 107 [VS a0] [] R :=
 uQ (ag (az _) aB) (oQ [] Tryz.f107 h)
def Ie(a0:ByteArray):Tree :=
 .call 128 [VS a0] [] fun r1 o1=>NP r1<|NP r1<|.test r1.isNil (.done 0 [.v (.pointer none)] []) (.call 144 [r1,.v (.slice none 0 0)] [] fun r2 o2=>NP r2<|NP r2<|.test r2.isNil (.done 0 [.v (.pointer none)] []) (.call 145 [r2] [] fun r3 o3=>NI r3<|.test (decide (r3.toInt>(400:Int))) (.done 0 [.v (.pointer none)] []) (.done 0 [r2] [])))
theorem OL(a0:ByteArray)(h:dk 19 (Ie a0) R):an Tryz.prog 108 [VS a0] [] R :=
 uQ (ag (az _) aB) (oQ [] Tryz.f108 h)
def Ly(a0:AV):Tree :=
 .call 146 [.ref 0 0] [.cells [VI 0,VB false]] fun r1 o1=>.ak ((o1.hO)=.cells (o1.hO).cs)<|.ak (aL [.lk (.int .i64),.lk .bool] ((o1.hO).cs) 0 1 o1.tail)<|NS r1<|NZ a0<|NZ a0<|dX (a0.deref.drop 3)<|.call 149 [((a0.deref.drop 3).hA),.ptr [.v (.int .u8 110),VS r1.ah,VI 0,.v (.pointer none),.v (.pointer none)],VI 0] [] fun r2 o2=>NP r2<|.call 148 [.ref 0 0,r2,VS r1.ah] [.cells [VI (((o1.hO).cs.getD 0 .any).toInt),VB (((o1.hO).cs.getD 1 .any).toBool)]] fun r3 o3=>.ak ((o3.hO)=.cells (o3.hO).cs)<|.ak (aL [.lk (.int .i64),.lk .bool] ((o3.hO).cs) 0 1 o3.tail)<|NP r3<|.call 147 [.ref 0 0,r3] [.cells [VI (((o3.hO).cs.getD 0 .any).toInt),VB (((o3.hO).cs.getD 1 .any).toBool)]] fun r4 o4=>.ak ((o4.hO)=.cells (o4.hO).cs)<|.ak (aL [.lk (.int .i64),.lk .bool] ((o4.hO).cs) 0 1 o4.tail)<|NP r4<|.test (((o4.hO).cs.getD 1 .any).toBool) (.done 0 [.cA [.v (.pointer none),VB false]] []) (.call 150 [r4,VS r1.ah,a0] [] fun r5 o5=>NP r5<|.call 147 [.ref 0 0,r5] [.cells [VI (((o4.hO).cs.getD 0 .any).toInt),VB (((o4.hO).cs.getD 1 .any).toBool)]] fun r6 o6=>.ak ((o6.hO)=.cells (o6.hO).cs)<|.ak (aL [.lk (.int .i64),.lk .bool] ((o6.hO).cs) 0 1 o6.tail)<|NP r6<|.done 0 [.cA [r6,VB (!(((o6.hO).cs.getD 1 .any).toBool))]] [])
theorem Pd(a0:AV)(ha0:LK.has .ptr a0)(h:dk 40 (Ly a0) R):an Tryz.prog 109 [a0] [] R :=
 uQ (ag (bp ha0) aB) (oQ [] Tryz.f109 h)
def HT(a0:AV):Tree :=
 .call 145 [a0] [] fun r1 o1=>NI r1<|.test (decide (r1.toInt>(400:Int))) (.done 0 [.cA [VS (mk []),VB false]] []) (.call 151 [a0] [] fun r2 o2=>NS r2<|.call 108 [VS r2.ah] [] fun r3 o3=>NP r3<|NP r3<|.test r3.isNil (.done 0 [.cA [VS (mk []),VB false]] []) (.done 0 [.cA [VS r2.ah,VB true]] []))
theorem Nj(a0:AV)(ha0:LK.has .ptr a0)(h:dk 14 (HT a0) R):an Tryz.prog 110 [a0] [] R :=
 uQ (ag (bp ha0) aB) (oQ [] Tryz.f110 h)
def Dd(a0_0:ByteArray)(a0_1:AV)(a1_0:AV)(a1_1:AV):Tree :=
 NP a0_1<|.test (!a0_1.isNil) (NZ a1_0<|NZ a1_0<|.ak (LK.has (.int .u8) (a1_0.deref.hA)/\1<=a1_0.deref.length)<|.test (((a1_0.deref.hA).toInt)==(98:Int)) (.call 131 [.agg [a1_0,a1_1]] [] fun r1 o1=>NP r1<|.ak (AV.ry r1/\AV.ry a0_1)<|.done 0 [VB (AV.zY r1 a0_1)] []) (.done 0 [VB false] [])) (NZ a1_0<|NZ a1_0<|.ak (LK.has (.int .u8) (a1_0.deref.hA)/\1<=a1_0.deref.length)<|.test (((a1_0.deref.hA).toInt)==(110:Int)) (NZ a1_0<|NZ a1_0<|lQ (a1_0.deref.drop 1)<|.done 0 [VB (af (((a1_0.deref.drop 1).hA).ah)==af a0_0)] []) (.done 0 [VB false] []))
theorem O0(a0_0:ByteArray)(a0_1:AV)(a1_0:AV)(a1_1:AV)(ha0_1:LK.has .ptr a0_1)(ha1_0:LK.has .ptr a1_0)(ha1_1:LK.has .ptr a1_1)(h:dk 37 (Dd a0_0 a0_1 a1_0 a1_1) R):an Tryz.prog 111 [.agg [VS a0_0,a0_1],.agg [a1_0,a1_1]] [] R :=
 uQ (ag (bY (ag (az _) (ag (bp ha0_1) aB))) (ag (bY (ag (bp ha1_0) (ag (bp ha1_1) aB))) aB)) (oQ [] Tryz.f111 h)
def Gp:LI:={hd:={ca:=[(7,.k .sl),(8,.k (.int .i64)),(9,.k (.int .i64))],refs:=[(2,1)],cq:=[(0,[.lk .ptr]),(1,[.vec 2])],zB:=[(1,115,[0])]},xs:={cq:=[(0,[.lk .ptr]),(1,[.vec 2])]},rt:={cq:=[(0,[.lk .ptr]),(1,[.vec 2])]},ex:=0,fx:=[0,1]}
def HF:Code:=cW (cN Tryz.f112) 1
def K8:List (Nat×LI):=[(1,Gp)]
def JA(a0:AV)(a1_0_0:AV)(e2_0:List (List AV)):Tree :=
 NL a0<|.loop HF Gp [a0,VI (a0.aN.length:Int),VI 0] [.cells [a1_0_0],.cells [.any],.vec 2 e2_0] (fun y2 q2=>.ak ((q2.hO)=.cells (q2.hO).cs)<|.ak (ae [.lk .ptr] ((q2.hO).cs) 0 q2.tail)<|.ak (((q2.tail.drop 0).hO)=.cells ((q2.tail.drop 0).hO).cs)<|.ak (ae [.vec 2] (((q2.tail.drop 0).hO).cs) 0 ((q2.tail.drop 0).tail))<|.done 0 [.any] [.cells [((q2.hO).cs.getD 0 .any)],.cells [.vec 2],.vec 2 ((q2.tail.tail.hO).es)]) (fun y2 q2=>.ak ((q2.hO)=.cells (q2.hO).cs)<|.ak (ae [.lk .ptr] ((q2.hO).cs) 0 q2.tail)<|.ak (((q2.tail.drop 0).hO)=.cells ((q2.tail.drop 0).hO).cs)<|.ak (ae [.vec 2] (((q2.tail.drop 0).hO).cs) 0 ((q2.tail.drop 0).tail))<|.done 0 [.any] [.cells [((q2.hO).cs.getD 0 .any)],.cells [.vec 2],.vec 2 ((q2.tail.tail.hO).es)])
theorem MV(a0:AV)(a1_0_0:AV)(e2_0:List (List AV))(ha0:LK.has .sl a0)(ha1_0_0:LK.has .ptr a1_0_0)(h:dk 24 (JA a0 a1_0_0 e2_0) R):an Tryz.prog 112 [a0,.fn 115 [.ref 0 0],.ref 1 0] [.cells [a1_0_0],.cells [.vec 2],.vec 2 e2_0] R :=
 an.ni (bq (bW (ag (bp ha1_0_0) aB)) (bq (bW (ag (az _) aB)) (bq (gd _) ct))) (an.up (ag (bQ ha0) (ag (az _) (ag (az _) aB))) (oF K8 {mu:=[(1,.fn [some (.obj [.lk .ptr])]),(2,.one (.obj [.vec 2]))],own:=[]} Tryz.f112 h))
def EJ(x7:AV)(x8:Int)(x9:Int)(o0_0:AV)(o1_0:List (List AV)):Tree :=
 NL x7<|NI (VI x8)<|NI (VI x9)<|.ak (Ob.cells [o0_0]=.cells [o0_0])<|.ak (ae [.lk .ptr] [o0_0] 0 [.cells [.any],.vec 2 o1_0])<|.ak (Ob.cells [.any]=.cells [.any])<|.ak (ae [.vec 2] [.any] 0 [.vec 2 o1_0])<|.test (decide (x9<x8)) (NG x7 x9 2<|.ak (bw [.ptr,.ptr] (x7.ix x9) 0/\2<=(x7.ix x9).length)<|.call 115 [((x7.ix x9).getD 0 .any),.ref 0 0] [.cells [o0_0]] fun r1 o1=>.ak ((o1.hO)=.cells (o1.hO).cs)<|.ak (aL [.lk .ptr] ((o1.hO).cs) 0 1 o1.tail)<|NP r1<|.ak (cV 2 [[r1,((x7.ix x9).getD 1 .any)]]/\((o1_0.length)+([[r1,((x7.ix x9).getD 1 .any)]]:List (List AV)).length)*16<=140737488355328)<|.done 0 [x7,VI x8,VI (IntKind.wrap .i64 (x9+1))] [.cells [((o1.hO).cs.getD 0 .any)],.cells [.any],.vec 2 (o1_0++([[r1,((x7.ix x9).getD 1 .any)]]:List (List AV)))]) (.done 1 [] [.cells [o0_0],.cells [.any],.vec 2 o1_0])
abbrev Fu:=cF Tryz.prog 24 HF Gp
theorem Kz(x7:AV)(x8:Int)(x9:Int)(o0_0:AV)(o1_0:List (List AV))(h:lJ 24 (EJ x7 x8 x9 o0_0 o1_0) Fu U):Fu [x7,VI x8,VI x9] [.cells [o0_0],.cells [.any],.vec 2 o1_0] U :=
 gQ K8 h
def Fi:LI:={hd:={ca:=[(7,.k .sl),(8,.k (.int .i64)),(9,.k (.int .i64))],refs:=[(2,1)],cq:=[(0,[.lk .ptr]),(1,[.vec 2])],zB:=[(1,116,[0])]},xs:={cq:=[(0,[.lk .ptr]),(1,[.vec 2])]},rt:={cq:=[(0,[.lk .ptr]),(1,[.vec 2])]},ex:=0,fx:=[0,1]}
def Li:Code:=cW (cN Tryz.f112) 1
def Mp:List (Nat×LI):=[(1,Fi)]
def KZ(a0:AV)(a1_0_0:AV)(e2_0:List (List AV)):Tree :=
 NL a0<|.loop Li Fi [a0,VI (a0.aN.length:Int),VI 0] [.cells [a1_0_0],.cells [.any],.vec 2 e2_0] (fun y2 q2=>.ak ((q2.hO)=.cells (q2.hO).cs)<|.ak (ae [.lk .ptr] ((q2.hO).cs) 0 q2.tail)<|.ak (((q2.tail.drop 0).hO)=.cells ((q2.tail.drop 0).hO).cs)<|.ak (ae [.vec 2] (((q2.tail.drop 0).hO).cs) 0 ((q2.tail.drop 0).tail))<|.done 0 [.any] [.cells [((q2.hO).cs.getD 0 .any)],.cells [.vec 2],.vec 2 ((q2.tail.tail.hO).es)]) (fun y2 q2=>.ak ((q2.hO)=.cells (q2.hO).cs)<|.ak (ae [.lk .ptr] ((q2.hO).cs) 0 q2.tail)<|.ak (((q2.tail.drop 0).hO)=.cells ((q2.tail.drop 0).hO).cs)<|.ak (ae [.vec 2] (((q2.tail.drop 0).hO).cs) 0 ((q2.tail.drop 0).tail))<|.done 0 [.any] [.cells [((q2.hO).cs.getD 0 .any)],.cells [.vec 2],.vec 2 ((q2.tail.tail.hO).es)])
theorem M7(a0:AV)(a1_0_0:AV)(e2_0:List (List AV))(ha0:LK.has .sl a0)(ha1_0_0:LK.has .ptr a1_0_0)(h:dk 24 (KZ a0 a1_0_0 e2_0) R):an Tryz.prog 112 [a0,.fn 116 [.ref 0 0],.ref 1 0] [.cells [a1_0_0],.cells [.vec 2],.vec 2 e2_0] R :=
 an.ni (bq (bW (ag (bp ha1_0_0) aB)) (bq (bW (ag (az _) aB)) (bq (gd _) ct))) (an.up (ag (bQ ha0) (ag (az _) (ag (az _) aB))) (oF Mp {mu:=[(1,.fn [some (.obj [.lk .ptr])]),(2,.one (.obj [.vec 2]))],own:=[]} Tryz.f112 h))
def FU(x7:AV)(x8:Int)(x9:Int)(o0_0:AV)(o1_0:List (List AV)):Tree :=
 NL x7<|NI (VI x8)<|NI (VI x9)<|.ak (Ob.cells [o0_0]=.cells [o0_0])<|.ak (ae [.lk .ptr] [o0_0] 0 [.cells [.any],.vec 2 o1_0])<|.ak (Ob.cells [.any]=.cells [.any])<|.ak (ae [.vec 2] [.any] 0 [.vec 2 o1_0])<|.test (decide (x9<x8)) (NG x7 x9 2<|.ak (bw [.ptr,.ptr] (x7.ix x9) 0/\2<=(x7.ix x9).length)<|.call 116 [((x7.ix x9).getD 0 .any),.ref 0 0] [.cells [o0_0]] fun r1 o1=>.ak ((o1.hO)=.cells (o1.hO).cs)<|.ak (aL [.lk .ptr] ((o1.hO).cs) 0 1 o1.tail)<|NP r1<|.ak (cV 2 [[r1,((x7.ix x9).getD 1 .any)]]/\((o1_0.length)+([[r1,((x7.ix x9).getD 1 .any)]]:List (List AV)).length)*16<=140737488355328)<|.done 0 [x7,VI x8,VI (IntKind.wrap .i64 (x9+1))] [.cells [((o1.hO).cs.getD 0 .any)],.cells [.any],.vec 2 (o1_0++([[r1,((x7.ix x9).getD 1 .any)]]:List (List AV)))]) (.done 1 [] [.cells [o0_0],.cells [.any],.vec 2 o1_0])
abbrev FA:=cF Tryz.prog 24 Li Fi
theorem JX(x7:AV)(x8:Int)(x9:Int)(o0_0:AV)(o1_0:List (List AV))(h:lJ 24 (FU x7 x8 x9 o0_0 o1_0) FA U):FA [x7,VI x8,VI x9] [.cells [o0_0],.cells [.any],.vec 2 o1_0] U :=
 gQ Mp h
def FI:LI:={hd:={ca:=[(7,.k .sl),(8,.k (.int .i64)),(9,.k (.int .i64))],refs:=[(2,1)],cq:=[(0,[.lk .ptr]),(1,[.vec 2])],zB:=[(1,118,[0])]},xs:={cq:=[(0,[.lk .ptr]),(1,[.vec 2])]},rt:={cq:=[(0,[.lk .ptr]),(1,[.vec 2])]},ex:=0,fx:=[0,1]}
def LX:Code:=cW (cN Tryz.f112) 1
def H3:List (Nat×LI):=[(1,FI)]
def Jj(a0:AV)(a1_0_0:AV)(e2_0:List (List AV)):Tree :=
 NL a0<|.loop LX FI [a0,VI (a0.aN.length:Int),VI 0] [.cells [a1_0_0],.cells [.any],.vec 2 e2_0] (fun y2 q2=>.ak ((q2.hO)=.cells (q2.hO).cs)<|.ak (ae [.lk .ptr] ((q2.hO).cs) 0 q2.tail)<|.ak (((q2.tail.drop 0).hO)=.cells ((q2.tail.drop 0).hO).cs)<|.ak (ae [.vec 2] (((q2.tail.drop 0).hO).cs) 0 ((q2.tail.drop 0).tail))<|.done 0 [.any] [.cells [((q2.hO).cs.getD 0 .any)],.cells [.vec 2],.vec 2 ((q2.tail.tail.hO).es)]) (fun y2 q2=>.ak ((q2.hO)=.cells (q2.hO).cs)<|.ak (ae [.lk .ptr] ((q2.hO).cs) 0 q2.tail)<|.ak (((q2.tail.drop 0).hO)=.cells ((q2.tail.drop 0).hO).cs)<|.ak (ae [.vec 2] (((q2.tail.drop 0).hO).cs) 0 ((q2.tail.drop 0).tail))<|.done 0 [.any] [.cells [((q2.hO).cs.getD 0 .any)],.cells [.vec 2],.vec 2 ((q2.tail.tail.hO).es)])
theorem Qo(a0:AV)(a1_0_0:AV)(e2_0:List (List AV))(ha0:LK.has .sl a0)(ha1_0_0:LK.has .ptr a1_0_0)(h:dk 24 (Jj a0 a1_0_0 e2_0) R):an Tryz.prog 112 [a0,.fn 118 [.ref 0 0],.ref 1 0] [.cells [a1_0_0],.cells [.vec 2],.vec 2 e2_0] R :=
 an.ni (bq (bW (ag (bp ha1_0_0) aB)) (bq (bW (ag (az _) aB)) (bq (gd _) ct))) (an.up (ag (bQ ha0) (ag (az _) (ag (az _) aB))) (oF H3 {mu:=[(1,.fn [some (.obj [.lk .ptr])]),(2,.one (.obj [.vec 2]))],own:=[]} Tryz.f112 h))
def Fp(x7:AV)(x8:Int)(x9:Int)(o0_0:AV)(o1_0:List (List AV)):Tree :=
 NL x7<|NI (VI x8)<|NI (VI x9)<|.ak (Ob.cells [o0_0]=.cells [o0_0])<|.ak (ae [.lk .ptr] [o0_0] 0 [.cells [.any],.vec 2 o1_0])<|.ak (Ob.cells [.any]=.cells [.any])<|.ak (ae [.vec 2] [.any] 0 [.vec 2 o1_0])<|.test (decide (x9<x8)) (NG x7 x9 2<|.ak (bw [.ptr,.ptr] (x7.ix x9) 0/\2<=(x7.ix x9).length)<|.call 118 [((x7.ix x9).getD 0 .any),.ref 0 0] [.cells [o0_0]] fun r1 o1=>.ak ((o1.hO)=.cells (o1.hO).cs)<|.ak (aL [.lk .ptr] ((o1.hO).cs) 0 1 o1.tail)<|NP r1<|.ak (cV 2 [[r1,((x7.ix x9).getD 1 .any)]]/\((o1_0.length)+([[r1,((x7.ix x9).getD 1 .any)]]:List (List AV)).length)*16<=140737488355328)<|.done 0 [x7,VI x8,VI (IntKind.wrap .i64 (x9+1))] [.cells [((o1.hO).cs.getD 0 .any)],.cells [.any],.vec 2 (o1_0++([[r1,((x7.ix x9).getD 1 .any)]]:List (List AV)))]) (.done 1 [] [.cells [o0_0],.cells [.any],.vec 2 o1_0])
abbrev Gl:=cF Tryz.prog 24 LX FI
theorem Ma(x7:AV)(x8:Int)(x9:Int)(o0_0:AV)(o1_0:List (List AV))(h:lJ 24 (Fp x7 x8 x9 o0_0 o1_0) Gl U):Gl [x7,VI x8,VI x9] [.cells [o0_0],.cells [.any],.vec 2 o1_0] U :=
 gQ H3 h
def FD:LI:={hd:={ca:=[(1,.c (.func (.func 119) #[] #[])),(7,.k .sl),(8,.k (.int .i64)),(9,.k (.int .i64))],refs:=[(2,0)],cq:=[(0,[.vec 2])]},xs:={cq:=[(0,[.vec 2])]},rt:={cq:=[(0,[.vec 2])]},ex:=0,fx:=[0]}
def LD:Code:=cW (cN Tryz.f112) 1
def HW:List (Nat×LI):=[(1,FD)]
def Ls(a0:AV)(e2_0:List (List AV)):Tree :=
 NL a0<|.loop LD FD [.v (.func (.func 119) #[] #[]),a0,VI (a0.aN.length:Int),VI 0] [.cells [.any],.vec 2 e2_0] (fun y2 q2=>.ak ((q2.hO)=.cells (q2.hO).cs)<|.ak (ae [.vec 2] ((q2.hO).cs) 0 q2.tail)<|.done 0 [.any] [.cells [.vec 1],.vec 2 ((q2.tail.hO).es)]) (fun y2 q2=>.ak ((q2.hO)=.cells (q2.hO).cs)<|.ak (ae [.vec 2] ((q2.hO).cs) 0 q2.tail)<|.done 0 [.any] [.cells [.vec 1],.vec 2 ((q2.tail.hO).es)])
theorem Oo(a0:AV)(e2_0:List (List AV))(ha0:LK.has .sl a0)(h:dk 24 (Ls a0 e2_0) R):an Tryz.prog 112 [a0,.v (.func (.func 119) #[] #[]),.ref 0 0] [.cells [.vec 1],.vec 2 e2_0] R :=
 an.ni (bq (bW (ag (az _) aB)) (bq (gd _) ct)) (an.up (ag (bQ ha0) (ag (az _) (ag (az _) aB))) (oF HW {mu:=[(2,.one (.obj [.vec 2]))],own:=[]} Tryz.f112 h))
def Ey(x7:AV)(x8:Int)(x9:Int)(o0_0:List (List AV)):Tree :=
 .ak (AV.v (.func (.func 119) #[] #[])=.v (.func (.func 119) #[] #[]))<|NL x7<|NI (VI x8)<|NI (VI x9)<|.ak (Ob.cells [.any]=.cells [.any])<|.ak (ae [.vec 2] [.any] 0 [.vec 2 o0_0])<|.test (decide (x9<x8)) (NG x7 x9 2<|.ak (bw [.ptr,.ptr] (x7.ix x9) 0/\2<=(x7.ix x9).length)<|.call 119 [((x7.ix x9).getD 0 .any)] [] fun r1 o1=>NP r1<|.ak (cV 2 [[r1,((x7.ix x9).getD 1 .any)]]/\((o0_0.length)+([[r1,((x7.ix x9).getD 1 .any)]]:List (List AV)).length)*16<=140737488355328)<|.done 0 [.v (.func (.func 119) #[] #[]),x7,VI x8,VI (IntKind.wrap .i64 (x9+1))] [.cells [.any],.vec 2 (o0_0++([[r1,((x7.ix x9).getD 1 .any)]]:List (List AV)))]) (.done 1 [] [.cells [.any],.vec 2 o0_0])
abbrev Fw:=cF Tryz.prog 24 LD FD
theorem KA(x7:AV)(x8:Int)(x9:Int)(o0_0:List (List AV))(h:lJ 24 (Ey x7 x8 x9 o0_0) Fw U):Fw [.v (.func (.func 119) #[] #[]),x7,VI x8,VI x9] [.cells [.any],.vec 2 o0_0] U :=
 gQ HW h
def FR:LI:={hd:={ca:=[(7,.k .sl),(8,.k (.int .i64)),(9,.k (.int .i64))],refs:=[(2,1)],cq:=[(0,[.lk .ptr,.lk .ptr]),(1,[.vec 2])],zB:=[(1,120,[0])]},xs:={cq:=[(0,[.lk .ptr,.lk .ptr]),(1,[.vec 2])]},rt:={cq:=[(0,[.lk .ptr,.lk .ptr]),(1,[.vec 2])]},ex:=0,fx:=[0,1]}
def H9:Code:=cW (cN Tryz.f112) 1
def JE:List (Nat×LI):=[(1,FR)]
def Le(a0:AV)(a1_0_0:AV)(a1_0_1:AV)(e2_0:List (List AV)):Tree :=
 NL a0<|.loop H9 FR [a0,VI (a0.aN.length:Int),VI 0] [.cells [a1_0_0,a1_0_1],.cells [.any],.vec 2 e2_0] (fun y2 q2=>.ak ((q2.hO)=.cells (q2.hO).cs)<|.ak (ae [.lk .ptr,.lk .ptr] ((q2.hO).cs) 0 q2.tail)<|.ak (((q2.tail.drop 0).hO)=.cells ((q2.tail.drop 0).hO).cs)<|.ak (ae [.vec 2] (((q2.tail.drop 0).hO).cs) 0 ((q2.tail.drop 0).tail))<|.done 0 [.any] [.cells [((q2.hO).cs.getD 0 .any),((q2.hO).cs.getD 1 .any)],.cells [.vec 2],.vec 2 ((q2.tail.tail.hO).es)]) (fun y2 q2=>.ak ((q2.hO)=.cells (q2.hO).cs)<|.ak (ae [.lk .ptr,.lk .ptr] ((q2.hO).cs) 0 q2.tail)<|.ak (((q2.tail.drop 0).hO)=.cells ((q2.tail.drop 0).hO).cs)<|.ak (ae [.vec 2] (((q2.tail.drop 0).hO).cs) 0 ((q2.tail.drop 0).tail))<|.done 0 [.any] [.cells [((q2.hO).cs.getD 0 .any),((q2.hO).cs.getD 1 .any)],.cells [.vec 2],.vec 2 ((q2.tail.tail.hO).es)])
theorem P0(a0:AV)(a1_0_0:AV)(a1_0_1:AV)(e2_0:List (List AV))(ha0:LK.has .sl a0)(ha1_0_0:LK.has .ptr a1_0_0)(ha1_0_1:LK.has .ptr a1_0_1)(h:dk 24 (Le a0 a1_0_0 a1_0_1 e2_0) R):an Tryz.prog 112 [a0,.fn 120 [.ref 0 0],.ref 1 0] [.cells [a1_0_0,a1_0_1],.cells [.vec 2],.vec 2 e2_0] R :=
 an.ni (bq (bW (ag (bp ha1_0_0) (ag (bp ha1_0_1) aB))) (bq (bW (ag (az _) aB)) (bq (gd _) ct))) (an.up (ag (bQ ha0) (ag (az _) (ag (az _) aB))) (oF JE {mu:=[(1,.fn [some (.obj [.lk .ptr,.lk .ptr])]),(2,.one (.obj [.vec 2]))],own:=[]} Tryz.f112 h))
def E9(x7:AV)(x8:Int)(x9:Int)(o0_0:AV)(o0_1:AV)(o1_0:List (List AV)):Tree :=
 NL x7<|NI (VI x8)<|NI (VI x9)<|.ak (Ob.cells [o0_0,o0_1]=.cells [o0_0,o0_1])<|.ak (ae [.lk .ptr,.lk .ptr] [o0_0,o0_1] 0 [.cells [.any],.vec 2 o1_0])<|.ak (Ob.cells [.any]=.cells [.any])<|.ak (ae [.vec 2] [.any] 0 [.vec 2 o1_0])<|.test (decide (x9<x8)) (NG x7 x9 2<|.ak (bw [.ptr,.ptr] (x7.ix x9) 0/\2<=(x7.ix x9).length)<|.call 120 [((x7.ix x9).getD 0 .any),.ref 0 0] [.cells [o0_0,o0_1]] fun r1 o1=>.ak ((o1.hO)=.cells (o1.hO).cs)<|.ak (aL [.lk .ptr,.lk .ptr] ((o1.hO).cs) 0 1 o1.tail)<|NP r1<|.ak (cV 2 [[r1,((x7.ix x9).getD 1 .any)]]/\((o1_0.length)+([[r1,((x7.ix x9).getD 1 .any)]]:List (List AV)).length)*16<=140737488355328)<|.done 0 [x7,VI x8,VI (IntKind.wrap .i64 (x9+1))] [.cells [((o1.hO).cs.getD 0 .any),((o1.hO).cs.getD 1 .any)],.cells [.any],.vec 2 (o1_0++([[r1,((x7.ix x9).getD 1 .any)]]:List (List AV)))]) (.done 1 [] [.cells [o0_0,o0_1],.cells [.any],.vec 2 o1_0])
abbrev ER:=cF Tryz.prog 24 H9 FR
theorem Jm(x7:AV)(x8:Int)(x9:Int)(o0_0:AV)(o0_1:AV)(o1_0:List (List AV))(h:lJ 24 (E9 x7 x8 x9 o0_0 o0_1 o1_0) ER U):ER [x7,VI x8,VI x9] [.cells [o0_0,o0_1],.cells [.any],.vec 2 o1_0] U :=
 gQ JE h
def Hh(a0_0:AV)(a0_1:AV):Tree :=
 NZ a0_0<|NZ a0_0<|dX (a0_0.deref.drop 3)<|.done 0 [.agg [((a0_0.deref.drop 3).hA),a0_1]] []
theorem OW(a0_0:AV)(a0_1:AV)(ha0_0:LK.has .ptr a0_0)(ha0_1:LK.has .ptr a0_1)(h:dk 11 (Hh a0_0 a0_1) R):an Tryz.prog 113 [.agg [a0_0,a0_1]] [] R :=
 uQ (ag (bY (ag (bp ha0_0) (ag (bp ha0_1) aB))) aB) (oQ [] Tryz.f113 h)
def Ij(a0_0:AV)(a0_1:AV):Tree :=
 NZ a0_0<|NZ a0_0<|dX (a0_0.deref.drop 4)<|.done 0 [.agg [((a0_0.deref.drop 4).hA),a0_1]] []
theorem OE(a0_0:AV)(a0_1:AV)(ha0_0:LK.has .ptr a0_0)(ha0_1:LK.has .ptr a0_1)(h:dk 11 (Ij a0_0 a0_1) R):an Tryz.prog 114 [.agg [a0_0,a0_1]] [] R :=
 uQ (ag (bY (ag (bp ha0_0) (ag (bp ha0_1) aB))) aB) (oQ [] Tryz.f114 h)
def FY(a0:AV)(a1_0:AV):Tree :=
 NZ a1_0<|NZ a1_0<|.ak (LK.has (.int .u8) (a1_0.deref.hA)/\1<=a1_0.deref.length)<|.call 100 [.v (.int .u8 ((a1_0.deref.hA).toInt)),a0] [] fun r1 o1=>NP r1<|.done 0 [r1] [.cells [a1_0]]
theorem Ik(a0:AV)(a1_0:AV)(ha0:LK.has .ptr a0)(ha1_0:LK.has .ptr a1_0)(h:dk 10 (FY a0 a1_0) R):an Tryz.prog 115 [a0,.ref 0 0] [.cells [a1_0]] R :=
 an.ni (bq (bW (ag (bp ha1_0) aB)) ct) (an.up (ag (bp ha0) (ag (az _) aB)) (oF [] {mu:=[(1,.one (.obj [.lk .ptr]))],own:=[]} Tryz.f115 h))
def Ku(a0:AV)(a1_0:AV):Tree :=
 NZ a1_0<|NZ a1_0<|dX (a1_0.deref.drop 3)<|.call 117 [a0,((a1_0.deref.drop 3).hA)] [] fun r1 o1=>NP r1<|.call 100 [.v (.int .u8 108),r1] [] fun r2 o2=>NP r2<|.done 0 [r2] [.cells [a1_0]]
theorem M5(a0:AV)(a1_0:AV)(ha0:LK.has .ptr a0)(ha1_0:LK.has .ptr a1_0)(h:dk 11 (Ku a0 a1_0) R):an Tryz.prog 116 [a0,.ref 0 0] [.cells [a1_0]] R :=
 an.ni (bq (bW (ag (bp ha1_0) aB)) ct) (an.up (ag (bp ha0) (ag (az _) aB)) (oF [] {mu:=[(1,.one (.obj [.lk .ptr]))],own:=[]} Tryz.f116 h))
def Jk(a0:AV)(a1:AV):Tree :=
 .done 0 [.ptr [.v (.int .u8 112),VS (mk []),a0,a1]] []
theorem O7(a0:AV)(a1:AV)(ha0:LK.has .ptr a0)(ha1:LK.has .ptr a1)(h:dk 9 (Jk a0 a1) R):an Tryz.prog 117 [a0,a1] [] R :=
 uQ (ag (bp ha0) (ag (bp ha1) aB)) (oQ [] Tryz.f117 h)
def Ll(a0:AV)(a1_0:AV):Tree :=
 NZ a1_0<|NZ a1_0<|dX (a1_0.deref.drop 2)<|.call 117 [((a1_0.deref.drop 2).hA),a0] [] fun r1 o1=>NP r1<|.call 100 [.v (.int .u8 114),r1] [] fun r2 o2=>NP r2<|.done 0 [r2] [.cells [a1_0]]
theorem Oe(a0:AV)(a1_0:AV)(ha0:LK.has .ptr a0)(ha1_0:LK.has .ptr a1_0)(h:dk 11 (Ll a0 a1_0) R):an Tryz.prog 118 [a0,.ref 0 0] [.cells [a1_0]] R :=
 an.ni (bq (bW (ag (bp ha1_0) aB)) ct) (an.up (ag (bp ha0) (ag (az _) aB)) (oF [] {mu:=[(1,.one (.obj [.lk .ptr]))],own:=[]} Tryz.f118 h))
def K1(a0:AV):Tree :=
 .call 100 [.v (.int .u8 108),a0] [] fun r1 o1=>NP r1<|.call 100 [.v (.int .u8 102),r1] [] fun r2 o2=>NP r2<|.done 0 [r2] []
theorem Nz(a0:AV)(ha0:LK.has .ptr a0)(h:dk 6 (K1 a0) R):an Tryz.prog 119 [a0] [] R :=
 uQ (ag (bp ha0) aB) (oQ [] Tryz.f119 h)
def LU(a0:AV)(a1_0:AV)(a1_1:AV):Tree :=
 .call 117 [a1_0,a0] [] fun r1 o1=>NP r1<|.call 100 [.v (.int .u8 114),r1] [] fun r2 o2=>NP r2<|.call 100 [.v (.int .u8 102),r2] [] fun r3 o3=>NP r3<|.done 0 [r3] [.cells [a1_0,a1_1]]
theorem PF(a0:AV)(a1_0:AV)(a1_1:AV)(ha0:LK.has .ptr a0)(ha1_0:LK.has .ptr a1_0)(ha1_1:LK.has .ptr a1_1)(h:dk 10 (LU a0 a1_0 a1_1) R):an Tryz.prog 120 [a0,.ref 0 0] [.cells [a1_0,a1_1]] R :=
 an.ni (bq (bW (ag (bp ha1_0) (ag (bp ha1_1) aB))) ct) (an.up (ag (bp ha0) (ag (az _) aB)) (oF [] {mu:=[(1,.one (.obj [.lk .ptr,.lk .ptr]))],own:=[]} Tryz.f120 h))
def C6(a0_0:ByteArray)(a0_1:AV):Tree :=
 .test (!(af a0_0==af (mk []))) (.done 0 [VS (mk [])] []) (NL a0_1<|.test ((a0_1.aN.length:Int)==(0:Int)) (.done 0 [VS (mk [])] []) (NG a0_1 0 2<|lQ (a0_1.ix (0:Int))<|.done 0 [VS (((a0_1.ix (0:Int)).hA).ah)] []))
theorem Eh(a0_0:ByteArray)(a0_1:AV)(ha0_1:LK.has .sl a0_1)(h:dk 17 (C6 a0_0 a0_1) R):an Tryz.prog 121 [.agg [VS a0_0,a0_1]] [] R :=
 uQ (ag (bY (ag (az _) (ag (bQ ha0_1) aB))) aB) (oQ [] Tryz.f121 h)
def H6(a0:ByteArray):Tree :=
 .test (decide ((ac a0:Int)>(8000:Int))) (.done 0 [.cA [.agg [VS (mk []),.v (.slice none 0 0)],VB false]] []) (.call 152 [VS a0,VI 0,VI 0] [] fun r1 o1=>NT r1<|.ak ((r1.comp 0)=.agg (r1.comp 0).cs/\(r1.comp 0).cs.length=2/\bw [.str,.sl] ((r1.comp 0).cs) 0)<|NI (r1.comp 1)<|.done 0 [.cA [.agg [VS (((r1.comp 0).cs.getD 0 .any).ah),((r1.comp 0).cs.getD 1 .any)],VB (((r1.comp 1).toInt)==(ac a0:Int))]] [])
theorem NH(a0:ByteArray)(h:dk 20 (H6 a0) R):an Tryz.prog 122 [VS a0] [] R :=
 uQ (ag (az _) aB) (oQ [] Tryz.f122 h)
def Fk(a0_0:ByteArray)(a0_1:AV):Tree :=
 .test (!(af a0_0==af (mk []))) (.test (af a0_0==af (mk [117])) (.done 0 [VB true] []) (.call 153 [VS a0_0] [] fun r1 o1=>NI r1<|.done 0 [VB (decide (r1.toInt≥(0:Int)))] [])) (.call 121 [.agg [VS a0_0,a0_1]] [] fun r2 o2=>NS r2<|.test (af r2.ah==af (mk [108])) (NL a0_1<|.test ((a0_1.aN.length:Int)==(2:Int)) (NG a0_1 1 2<|NE (a0_1.ix (1:Int))<|.call 123 [.agg [VS (((a0_1.ix (1:Int)).getD 0 .any).ah),((a0_1.ix (1:Int)).getD 1 .any)]] [] fun r3 o3=>NB r3<|.done 0 [VB r3.toBool] []) (.done 0 [VB false] [])) (.test (af r2.ah==af (mk [114])) (NL a0_1<|.test ((a0_1.aN.length:Int)==(2:Int)) (NG a0_1 1 2<|NE (a0_1.ix (1:Int))<|.call 123 [.agg [VS (((a0_1.ix (1:Int)).getD 0 .any).ah),((a0_1.ix (1:Int)).getD 1 .any)]] [] fun r4 o4=>NB r4<|.done 0 [VB r4.toBool] []) (.done 0 [VB false] [])) (.test (af r2.ah==af (mk [102])) (NL a0_1<|.test ((a0_1.aN.length:Int)==(2:Int)) (NG a0_1 1 2<|NE (a0_1.ix (1:Int))<|.call 123 [.agg [VS (((a0_1.ix (1:Int)).getD 0 .any).ah),((a0_1.ix (1:Int)).getD 1 .any)]] [] fun r5 o5=>NB r5<|.done 0 [VB r5.toBool] []) (.done 0 [VB false] [])) (.test (af r2.ah==af (mk [112])) (NL a0_1<|.test ((a0_1.aN.length:Int)==(3:Int)) (NG a0_1 1 2<|NE (a0_1.ix (1:Int))<|.call 123 [.agg [VS (((a0_1.ix (1:Int)).getD 0 .any).ah),((a0_1.ix (1:Int)).getD 1 .any)]] [] fun r6 o6=>NB r6<|.test r6.toBool (NG a0_1 2 2<|NE (a0_1.ix (2:Int))<|.call 123 [.agg [VS (((a0_1.ix (2:Int)).getD 0 .any).ah),((a0_1.ix (2:Int)).getD 1 .any)]] [] fun r7 o7=>NB r7<|.done 0 [VB r7.toBool] []) (.done 0 [VB false] [])) (.done 0 [VB false] [])) (.done 0 [VB false] [])))))
theorem yU(a0_0:ByteArray)(a0_1:AV)(ha0_1:LK.has .sl a0_1)(h:dk 52 (Fk a0_0 a0_1) R):an Tryz.prog 123 [.agg [VS a0_0,a0_1]] [] R :=
 uQ (ag (bY (ag (az _) (ag (bQ ha0_1) aB))) aB) (oQ [] Tryz.f123 h)
def Eo:LI:={hd:={ca:=[(3,.k (.int .i64)),(4,.k (.int .i64))],refs:=[(1,1)],cq:=[(1,[.lk .str,.lk .sl])]},xs:={ca:=[(3,.k (.int .i64))]},rt:={},ex:=0}
def Mz:Code:=cW (cN Tryz.f124) 3
def K5:List (Nat×LI):=[(3,Eo)]
def Ec(a0_0:ByteArray)(a0_1:AV):Tree :=
 .loop Mz Eo [VI 1,VI 1] [.cells [VS a0_0,a0_1]] (fun y2 q2=>NI (y2.hA)<|.done 0 [VI ((y2.hA).toInt)] []) (fun y2 q2=>.done 0 [.any] [])
theorem Mm(a0_0:ByteArray)(a0_1:AV)(ha0_1:LK.has .sl a0_1)(h:dk 21 (Ec a0_0 a0_1) R):an Tryz.prog 124 [.agg [VS a0_0,a0_1]] [] R :=
 uQ (ag (bY (ag (az _) (ag (bQ ha0_1) aB))) aB) (oQ K5 Tryz.f124 h)
def zF(x3:Int)(x4:Int)(o1_0:ByteArray)(o1_1:AV):Tree :=
 NI (VI x3)<|NI (VI x4)<|.ak (Ob.cells [VS o1_0,o1_1]=.cells [VS o1_0,o1_1])<|.ak (ae [.lk .str,.lk .sl] [VS o1_0,o1_1] 0 [])<|NL o1_1<|.test (decide (x4<(o1_1.aN.length:Int))) (NG o1_1 x4 2<|NE (o1_1.ix x4)<|.call 124 [.agg [VS (((o1_1.ix x4).getD 0 .any).ah),((o1_1.ix x4).getD 1 .any)]] [] fun r1 o1=>NI r1<|.done 0 [VI (IntKind.wrap .i64 (x3+r1.toInt)),VI (IntKind.wrap .i64 (x4+1))] [.cells [VS o1_0,o1_1]]) (.done 1 [VI x3] [])
abbrev Bc:=cF Tryz.prog 21 Mz Eo
theorem Ca(x3:Int)(x4:Int)(o1_0:ByteArray)(o1_1:AV)(h:lJ 21 (zF x3 x4 o1_0 o1_1) Bc U):Bc [VI x3,VI x4] [.cells [VS o1_0,o1_1]] U :=
 gQ K5 h
def HR(a0_0:ByteArray)(a0_1:AV)(a1:AV)(a2_0:ByteArray)(a2_1:AV)(a3:Int):Tree :=
 .call 154 [.agg [VS a0_0,a0_1],a1] [] fun r1 o1=>NT r1<|.ak ((r1.comp 0)=.agg (r1.comp 0).cs/\(r1.comp 0).cs.length=2/\bw [.str,.sl] ((r1.comp 0).cs) 0)<|NL (r1.comp 1)<|.test (!(af (((r1.comp 0).cs.getD 0 .any).ah)==af (mk []))) (.test (af (((r1.comp 0).cs.getD 0 .any).ah)==af (mk [49])) (.done 0 [VB (af a2_0==af (mk [117]))] []) (.call 155 [VS (((r1.comp 0).cs.getD 0 .any).ah)] [] fun r2 o2=>NB r2<|.test r2.toBool (.call 153 [VS a2_0] [] fun r3 o3=>NI r3<|.call 56 [VI r3.toInt,VI 0,VI (IntKind.wrap .i64 (a3-1))] [] fun r4 o4=>NB r4<|.done 0 [VB r4.toBool] []) (.done 0 [VB false] []))) (.call 121 [.agg [VS (((r1.comp 0).cs.getD 0 .any).ah),((r1.comp 0).cs.getD 1 .any)]] [] fun r5 o5=>NS r5<|.call 121 [.agg [VS a2_0,a2_1]] [] fun r6 o6=>NS r6<|.ak (ac r5.ah+ac r6.ah<=9223372036854775807)<|.test (af ((r5.ah:ByteArray)++r6.ah)==af (mk [43,108])) (NG ((r1.comp 0).cs.getD 1 .any) 1 2<|NE (((r1.comp 0).cs.getD 1 .any).ix (1:Int))<|NG a2_1 1 2<|NE (a2_1.ix (1:Int))<|.call 125 [.agg [VS (((((r1.comp 0).cs.getD 1 .any).ix (1:Int)).getD 0 .any).ah),((((r1.comp 0).cs.getD 1 .any).ix (1:Int)).getD 1 .any)],(r1.comp 1),.agg [VS (((a2_1.ix (1:Int)).getD 0 .any).ah),((a2_1.ix (1:Int)).getD 1 .any)],VI a3] [] fun r7 o7=>NB r7<|.done 0 [VB r7.toBool] []) (.test (af ((r5.ah:ByteArray)++r6.ah)==af (mk [43,114])) (NG ((r1.comp 0).cs.getD 1 .any) 2 2<|NE (((r1.comp 0).cs.getD 1 .any).ix (2:Int))<|NG a2_1 1 2<|NE (a2_1.ix (1:Int))<|.call 125 [.agg [VS (((((r1.comp 0).cs.getD 1 .any).ix (2:Int)).getD 0 .any).ah),((((r1.comp 0).cs.getD 1 .any).ix (2:Int)).getD 1 .any)],(r1.comp 1),.agg [VS (((a2_1.ix (1:Int)).getD 0 .any).ah),((a2_1.ix (1:Int)).getD 1 .any)],VI a3] [] fun r8 o8=>NB r8<|.done 0 [VB r8.toBool] []) (.test (af ((r5.ah:ByteArray)++r6.ah)==af (mk [42,112])) (NG ((r1.comp 0).cs.getD 1 .any) 1 2<|NE (((r1.comp 0).cs.getD 1 .any).ix (1:Int))<|NG a2_1 1 2<|NE (a2_1.ix (1:Int))<|.call 125 [.agg [VS (((((r1.comp 0).cs.getD 1 .any).ix (1:Int)).getD 0 .any).ah),((((r1.comp 0).cs.getD 1 .any).ix (1:Int)).getD 1 .any)],(r1.comp 1),.agg [VS (((a2_1.ix (1:Int)).getD 0 .any).ah),((a2_1.ix (1:Int)).getD 1 .any)],VI a3] [] fun r9 o9=>NB r9<|.test r9.toBool (NG ((r1.comp 0).cs.getD 1 .any) 2 2<|NE (((r1.comp 0).cs.getD 1 .any).ix (2:Int))<|NG a2_1 2 2<|NE (a2_1.ix (2:Int))<|.call 125 [.agg [VS (((((r1.comp 0).cs.getD 1 .any).ix (2:Int)).getD 0 .any).ah),((((r1.comp 0).cs.getD 1 .any).ix (2:Int)).getD 1 .any)],(r1.comp 1),.agg [VS (((a2_1.ix (2:Int)).getD 0 .any).ah),((a2_1.ix (2:Int)).getD 1 .any)],VI a3] [] fun r10 o10=>NB r10<|.done 0 [VB r10.toBool] []) (.done 0 [VB false] [])) (.test (af ((r5.ah:ByteArray)++r6.ah)==af (mk [114,101,99,102])) (.call 156 [.agg [VS (((r1.comp 0).cs.getD 0 .any).ah),((r1.comp 0).cs.getD 1 .any)],(r1.comp 1)] [] fun r11 o11=>NT r11<|.ak ((r11.comp 0)=.agg (r11.comp 0).cs/\(r11.comp 0).cs.length=2/\bw [.str,.sl] ((r11.comp 0).cs) 0)<|NL (r11.comp 1)<|NG a2_1 1 2<|NE (a2_1.ix (1:Int))<|.call 125 [.agg [VS (((r11.comp 0).cs.getD 0 .any).ah),((r11.comp 0).cs.getD 1 .any)],(r11.comp 1),.agg [VS (((a2_1.ix (1:Int)).getD 0 .any).ah),((a2_1.ix (1:Int)).getD 1 .any)],VI a3] [] fun r12 o12=>NB r12<|.done 0 [VB r12.toBool] []) (.done 0 [VB false] [])))))
theorem Nw(a0_0:ByteArray)(a0_1:AV)(a1:AV)(a2_0:ByteArray)(a2_1:AV)(a3:Int)(ha0_1:LK.has .sl a0_1)(ha1:LK.has .sl a1)(ha2_1:LK.has .sl a2_1)(h:dk 110 (HR a0_0 a0_1 a1 a2_0 a2_1 a3) R):an Tryz.prog 125 [.agg [VS a0_0,a0_1],a1,.agg [VS a2_0,a2_1],VI a3] [] R :=
 uQ (ag (bY (ag (az _) (ag (bQ ha0_1) aB))) (ag (bQ ha1) (ag (bY (ag (az _) (ag (bQ ha2_1) aB))) (ag (az _) aB)))) (oQ [] Tryz.f125 h)
def Hm(a0:AV):Tree :=
 .call 158 [a0] [] fun r1 o1=>NL r1<|.call 157 [r1,.v (.func (.func 159) #[] #[])] [] fun r2 o2=>NB r2<|.done 0 [VB (!r2.toBool)] []
theorem Pr(a0:AV)(ha0:LK.has .ptr a0)(h:dk 7 (Hm a0) R):an Tryz.prog 127 [a0] [] R :=
 uQ (ag (bp ha0) aB) (oQ [] Tryz.f127 h)
def Iu(a0:ByteArray):Tree :=
 .test (decide ((ac a0:Int)>(8000:Int))) (.done 0 [.v (.pointer none)] []) (.call 160 [VS a0,VI 0] [] fun r1 o1=>NT r1<|NP (r1.comp 0)<|NS (r1.comp 1)<|.test (!(af ((r1.comp 1).ah)==af (mk []))) (.done 0 [.v (.pointer none)] []) (.done 0 [(r1.comp 0)] []))
theorem NW(a0:ByteArray)(h:dk 16 (Iu a0) R):an Tryz.prog 128 [VS a0] [] R :=
 uQ (ag (az _) aB) (oQ [] Tryz.f128 h)
def G4(a0:AV):Tree :=
 NZ a0<|NZ a0<|.ak (LK.has .str (a0.deref.hA)/\1<=a0.deref.length)<|.test (af ((a0.deref.hA).ah)==af (mk [117])) (.done 0 [.ptr [.v (.int .u8 117),VS (mk []),.v (.pointer none),.v (.pointer none)]] []) (NZ a0<|NZ a0<|.ak (LK.has .str (a0.deref.hA)/\1<=a0.deref.length)<|.call 161 [VS ((a0.deref.hA).ah)] [] fun r1 o1=>NB r1<|.test r1.toBool (NZ a0<|NZ a0<|.ak (LK.has .str (a0.deref.hA)/\1<=a0.deref.length)<|.done 0 [.ptr [.v (.int .u8 101),VS ((a0.deref.hA).ah),.v (.pointer none),.v (.pointer none)]] []) (.call 162 [a0,VS (mk [108]),VI 2] [] fun r2 o2=>NB r2<|.test r2.toBool (NZ a0<|NZ a0<|nl (a0.deref.drop 1)<|NG ((a0.deref.drop 1).hA) 1 1<|dX (((a0.deref.drop 1).hA).ix (1:Int))<|.call 129 [((((a0.deref.drop 1).hA).ix (1:Int)).hA)] [] fun r3 o3=>NP r3<|NP r3<|.test r3.isNil (.done 0 [.v (.pointer none)] []) (NZ a0<|NZ a0<|nl (a0.deref.drop 1)<|NG ((a0.deref.drop 1).hA) 0 1<|dX (((a0.deref.drop 1).hA).ix (0:Int))<|NZ ((((a0.deref.drop 1).hA).ix (0:Int)).hA)<|NZ ((((a0.deref.drop 1).hA).ix (0:Int)).hA)<|.ak (LK.has .str (((((a0.deref.drop 1).hA).ix (0:Int)).hA).deref.hA)/\1<=(((((a0.deref.drop 1).hA).ix (0:Int)).hA).deref).length)<|.ak (0<=(0:Int)/\(0:Int)<ac ((((((a0.deref.drop 1).hA).ix (0:Int)).hA).deref.hA).ah))<|.done 0 [.ptr [.v (.int .u8 (bt ((((((a0.deref.drop 1).hA).ix (0:Int)).hA).deref.hA).ah) 0)),VS (mk []),r3,.v (.pointer none)]] [])) (.call 162 [a0,VS (mk [114]),VI 2] [] fun r4 o4=>NB r4<|.test r4.toBool (NZ a0<|NZ a0<|nl (a0.deref.drop 1)<|NG ((a0.deref.drop 1).hA) 1 1<|dX (((a0.deref.drop 1).hA).ix (1:Int))<|.call 129 [((((a0.deref.drop 1).hA).ix (1:Int)).hA)] [] fun r5 o5=>NP r5<|NP r5<|.test r5.isNil (.done 0 [.v (.pointer none)] []) (NZ a0<|NZ a0<|nl (a0.deref.drop 1)<|NG ((a0.deref.drop 1).hA) 0 1<|dX (((a0.deref.drop 1).hA).ix (0:Int))<|NZ ((((a0.deref.drop 1).hA).ix (0:Int)).hA)<|NZ ((((a0.deref.drop 1).hA).ix (0:Int)).hA)<|.ak (LK.has .str (((((a0.deref.drop 1).hA).ix (0:Int)).hA).deref.hA)/\1<=(((((a0.deref.drop 1).hA).ix (0:Int)).hA).deref).length)<|.ak (0<=(0:Int)/\(0:Int)<ac ((((((a0.deref.drop 1).hA).ix (0:Int)).hA).deref.hA).ah))<|.done 0 [.ptr [.v (.int .u8 (bt ((((((a0.deref.drop 1).hA).ix (0:Int)).hA).deref.hA).ah) 0)),VS (mk []),r5,.v (.pointer none)]] [])) (.call 162 [a0,VS (mk [102]),VI 2] [] fun r6 o6=>NB r6<|.test r6.toBool (NZ a0<|NZ a0<|nl (a0.deref.drop 1)<|NG ((a0.deref.drop 1).hA) 1 1<|dX (((a0.deref.drop 1).hA).ix (1:Int))<|.call 129 [((((a0.deref.drop 1).hA).ix (1:Int)).hA)] [] fun r7 o7=>NP r7<|NP r7<|.test r7.isNil (.done 0 [.v (.pointer none)] []) (NZ a0<|NZ a0<|nl (a0.deref.drop 1)<|NG ((a0.deref.drop 1).hA) 0 1<|dX (((a0.deref.drop 1).hA).ix (0:Int))<|NZ ((((a0.deref.drop 1).hA).ix (0:Int)).hA)<|NZ ((((a0.deref.drop 1).hA).ix (0:Int)).hA)<|.ak (LK.has .str (((((a0.deref.drop 1).hA).ix (0:Int)).hA).deref.hA)/\1<=(((((a0.deref.drop 1).hA).ix (0:Int)).hA).deref).length)<|.ak (0<=(0:Int)/\(0:Int)<ac ((((((a0.deref.drop 1).hA).ix (0:Int)).hA).deref.hA).ah))<|.done 0 [.ptr [.v (.int .u8 (bt ((((((a0.deref.drop 1).hA).ix (0:Int)).hA).deref.hA).ah) 0)),VS (mk []),r7,.v (.pointer none)]] [])) (.call 162 [a0,VS (mk [112]),VI 3] [] fun r8 o8=>NB r8<|.test r8.toBool (NZ a0<|NZ a0<|nl (a0.deref.drop 1)<|NG ((a0.deref.drop 1).hA) 1 1<|dX (((a0.deref.drop 1).hA).ix (1:Int))<|.call 129 [((((a0.deref.drop 1).hA).ix (1:Int)).hA)] [] fun r9 o9=>NP r9<|NZ a0<|NZ a0<|nl (a0.deref.drop 1)<|NG ((a0.deref.drop 1).hA) 2 1<|dX (((a0.deref.drop 1).hA).ix (2:Int))<|.call 129 [((((a0.deref.drop 1).hA).ix (2:Int)).hA)] [] fun r10 o10=>NP r10<|NP r9<|.test r9.isNil (.done 0 [.v (.pointer none)] []) (NP r10<|.test r10.isNil (.done 0 [.v (.pointer none)] []) (.call 117 [r9,r10] [] fun r11 o11=>NP r11<|.done 0 [r11] []))) (.done 0 [.v (.pointer none)] []))))))
theorem JR(a0:AV)(ha0:LK.has .ptr a0)(h:dk 85 (G4 a0) R):an Tryz.prog 129 [a0] [] R :=
 uQ (ag (bp ha0) aB) (oQ [] Tryz.f129 h)
def FV:LI:={hd:={ca:=[(3,.k .ptr),(10,.k (.int .i64)),(11,.k (.int .i64))]},xs:={ca:=[(3,.k .ptr)]},rt:={},ex:=0}
def Il:Code:=cW (cN Tryz.f131) 3
def Hk:List (Nat×LI):=[(3,FV)]
def D3(a0_0:AV)(a0_1:AV):Tree :=
 NZ a0_0<|NZ a0_0<|.ak (LK.has (.int .i64) ((a0_0.deref.drop 2).hA)/\1<=(a0_0.deref.drop 2).length)<|.loop Il FV [a0_1,VI (((a0_0.deref.drop 2).hA).toInt),VI 0] [] (fun y1 q1=>NP (y1.hA)<|NZ (y1.hA)<|NZ (y1.hA)<|.ak (LK.has .ptr ((y1.hA).deref.hA)/\1<=((y1.hA).deref).length)<|.done 0 [((y1.hA).deref.hA)] []) (fun y1 q1=>.done 0 [.any] [])
theorem Jq(a0_0:AV)(a0_1:AV)(ha0_0:LK.has .ptr a0_0)(ha0_1:LK.has .ptr a0_1)(h:dk 22 (D3 a0_0 a0_1) R):an Tryz.prog 131 [.agg [a0_0,a0_1]] [] R :=
 uQ (ag (bY (ag (bp ha0_0) (ag (bp ha0_1) aB))) aB) (oQ Hk Tryz.f131 h)
def AD(x3:AV)(x10:Int)(x11:Int):Tree :=
 NP x3<|NI (VI x10)<|NI (VI x11)<|.test (decide (x11<x10)) (NZ x3<|NZ x3<|dX (x3.deref.drop 1)<|.done 0 [((x3.deref.drop 1).hA),VI x10,VI (IntKind.wrap .i64 (x11+1))] []) (.done 1 [x3] [])
abbrev Cl:=cF Tryz.prog 22 Il FV
theorem C7(x3:AV)(x10:Int)(x11:Int)(h:lJ 22 (AD x3 x10 x11) Cl U):Cl [x3,VI x10,VI x11] [] U :=
 gQ Hk h
def LH(a0:ByteArray):Tree :=
 .call 122 [VS a0] [] fun r1 o1=>NT r1<|.ak ((r1.comp 0)=.agg (r1.comp 0).cs/\(r1.comp 0).cs.length=2/\bw [.str,.sl] ((r1.comp 0).cs) 0)<|NB (r1.comp 1)<|.test ((r1.comp 1).toBool) (.call 165 [.agg [VS (((r1.comp 0).cs.getD 0 .any).ah),((r1.comp 0).cs.getD 1 .any)]] [] fun r2 o2=>NB r2<|.test r2.toBool (.call 140 [.agg [VS (((r1.comp 0).cs.getD 0 .any).ah),((r1.comp 0).cs.getD 1 .any)]] [] fun r3 o3=>NI r3<|.done 0 [.cA [.agg [VS (((r1.comp 0).cs.getD 0 .any).ah),((r1.comp 0).cs.getD 1 .any)],VB (decide (r3.toInt<=(400:Int)))]] []) (.done 0 [.cA [.agg [VS (((r1.comp 0).cs.getD 0 .any).ah),((r1.comp 0).cs.getD 1 .any)],VB false]] [])) (.done 0 [.cA [.agg [VS (((r1.comp 0).cs.getD 0 .any).ah),((r1.comp 0).cs.getD 1 .any)],VB false]] [])
theorem Og(a0:ByteArray)(h:dk 22 (LH a0) R):an Tryz.prog 132 [VS a0] [] R :=
 uQ (ag (az _) aB) (oQ [] Tryz.f132 h)
def LR(a0_0:ByteArray)(a0_1:AV):Tree :=
 NG a0_1 1 2<|lQ (a0_1.ix (1:Int))<|NG a0_1 2 2<|NE (a0_1.ix (2:Int))<|.call 166 [.agg [VS (((a0_1.ix (2:Int)).getD 0 .any).ah),((a0_1.ix (2:Int)).getD 1 .any)],VS (((a0_1.ix (1:Int)).hA).ah)] [] fun r1 o1=>NT r1<|.ak ((r1.comp 0)=.agg (r1.comp 0).cs/\(r1.comp 0).cs.length=2/\bw [.str,.sl] ((r1.comp 0).cs) 0)<|NB (r1.comp 1)<|.test (!((r1.comp 1).toBool)) (.done 0 [.cA [.agg [VS a0_0,a0_1],VB false]] []) (.call 167 [.agg [VS (((r1.comp 0).cs.getD 0 .any).ah),((r1.comp 0).cs.getD 1 .any)],VS (((a0_1.ix (1:Int)).hA).ah),.agg [VS a0_0,a0_1]] [] fun r2 o2=>NT r2<|.ak ((r2.comp 0)=.agg (r2.comp 0).cs/\(r2.comp 0).cs.length=2/\bw [.str,.sl] ((r2.comp 0).cs) 0)<|NB (r2.comp 1)<|.done 0 [.cA [.agg [VS (((r2.comp 0).cs.getD 0 .any).ah),((r2.comp 0).cs.getD 1 .any)],VB ((r2.comp 1).toBool)]] [])
theorem MQ(a0_0:ByteArray)(a0_1:AV)(ha0_1:LK.has .sl a0_1)(h:dk 30 (LR a0_0 a0_1) R):an Tryz.prog 133 [.agg [VS a0_0,a0_1]] [] R :=
 uQ (ag (bY (ag (az _) (ag (bQ ha0_1) aB))) aB) (oQ [] Tryz.f133 h)
def Ii(a0_0:ByteArray)(a0_1:AV):Tree :=
 .call 140 [.agg [VS a0_0,a0_1]] [] fun r1 o1=>NI r1<|.test (decide (r1.toInt>(400:Int))) (.done 0 [.cA [VS (mk []),VB false]] []) (.call 106 [.agg [VS a0_0,a0_1],.v (.slice none 0 0)] [] fun r2 o2=>NA r2<|.call 97 [.agg [VS ((r2.cs.getD 0 .any).ah),(r2.cs.getD 1 .any)]] [] fun r3 o3=>NS r3<|.call 168 [VS r3.ah] [] fun r4 o4=>NB r4<|.test (!r4.toBool) (.done 0 [.cA [VS (mk []),VB false]] []) (.done 0 [.cA [VS r3.ah,VB true]] []))
theorem P6(a0_0:ByteArray)(a0_1:AV)(ha0_1:LK.has .sl a0_1)(h:dk 15 (Ii a0_0 a0_1) R):an Tryz.prog 134 [.agg [VS a0_0,a0_1]] [] R :=
 uQ (ag (bY (ag (az _) (ag (bQ ha0_1) aB))) aB) (oQ [] Tryz.f134 h)
def Jc(a0_0:AV)(a0_1:Int):Tree :=
 .call 81 [.ref 0 0,VI 12] [.cells [a0_0,VI a0_1]] fun r1 o1=>.ak ((o1.hO)=.cells (o1.hO).cs)<|.ak (aL [.lk .sl,.lk (.int .i64)] ((o1.hO).cs) 0 1 o1.tail)<|NI r1<|.test (r1.toInt==(0:Int)) (.call 102 [.ref 0 0,.sl [[VS (mk [])],[VS (mk [97])],[VS (mk [40,43,32,49,41])],[VS (mk [40,114,101,99,32,120,32,49,41])],[VS (mk [40,114,101,99,32,116,41])],[VS (mk [40,43,32,32,49,32,49,41])],[VS (mk [40,42,32,49,32,49,32,49,41])],[VS (mk [116,49,48,48])],[VS (mk [120,32,49])]]] [.cells [((o1.hO).cs.getD 0 .any),VI (((o1.hO).cs.getD 1 .any).toInt)]] fun r2 o2=>.ak ((o2.hO)=.cells (o2.hO).cs)<|.ak (aL [.lk .sl,.lk (.int .i64)] ((o2.hO).cs) 0 1 o2.tail)<|NS r2<|.done 0 [VS r2.ah] [.cells [((o2.hO).cs.getD 0 .any),VI (((o2.hO).cs.getD 1 .any).toInt)]]) (.test (r1.toInt==(1:Int)) (.call 80 [.ref 0 0] [.cells [((o1.hO).cs.getD 0 .any),VI (((o1.hO).cs.getD 1 .any).toInt)]] fun r3 o3=>.ak ((o3.hO)=.cells (o3.hO).cs)<|.ak (aL [.lk .sl,.lk (.int .i64)] ((o3.hO).cs) 0 1 o3.tail)<|NS r3<|.done 0 [VS r3.ah] [.cells [((o3.hO).cs.getD 0 .any),VI (((o3.hO).cs.getD 1 .any).toInt)]]) (.test (r1.toInt==(2:Int)) (.call 80 [.ref 0 0] [.cells [((o1.hO).cs.getD 0 .any),VI (((o1.hO).cs.getD 1 .any).toInt)]] fun r4 o4=>.ak ((o4.hO)=.cells (o4.hO).cs)<|.ak (aL [.lk .sl,.lk (.int .i64)] ((o4.hO).cs) 0 1 o4.tail)<|NS r4<|.done 0 [VS r4.ah] [.cells [((o4.hO).cs.getD 0 .any),VI (((o4.hO).cs.getD 1 .any).toInt)]]) (.test (r1.toInt==(3:Int)) (.call 80 [.ref 0 0] [.cells [((o1.hO).cs.getD 0 .any),VI (((o1.hO).cs.getD 1 .any).toInt)]] fun r5 o5=>.ak ((o5.hO)=.cells (o5.hO).cs)<|.ak (aL [.lk .sl,.lk (.int .i64)] ((o5.hO).cs) 0 1 o5.tail)<|NS r5<|.done 0 [VS r5.ah] [.cells [((o5.hO).cs.getD 0 .any),VI (((o5.hO).cs.getD 1 .any).toInt)]]) (.test (r1.toInt==(4:Int)) (.call 136 [.ref 0 0,.sl [[VS (mk [116])],[VS (mk [116,49])]],VI 2] [.cells [((o1.hO).cs.getD 0 .any),VI (((o1.hO).cs.getD 1 .any).toInt)]] fun r6 o6=>.ak ((o6.hO)=.cells (o6.hO).cs)<|.ak (aL [.lk .sl,.lk (.int .i64)] ((o6.hO).cs) 0 1 o6.tail)<|NS r6<|.done 0 [VS r6.ah] [.cells [((o6.hO).cs.getD 0 .any),VI (((o6.hO).cs.getD 1 .any).toInt)]]) (.call 136 [.ref 0 0,.sl [],VI 3] [.cells [((o1.hO).cs.getD 0 .any),VI (((o1.hO).cs.getD 1 .any).toInt)]] fun r7 o7=>.ak ((o7.hO)=.cells (o7.hO).cs)<|.ak (aL [.lk .sl,.lk (.int .i64)] ((o7.hO).cs) 0 1 o7.tail)<|NS r7<|.done 0 [VS r7.ah] [.cells [((o7.hO).cs.getD 0 .any),VI (((o7.hO).cs.getD 1 .any).toInt)]])))))
theorem Nl(a0_0:AV)(a0_1:Int)(ha0_0:LK.has .sl a0_0)(h:dk 24 (Jc a0_0 a0_1) R):an Tryz.prog 135 [.ref 0 0] [.cells [a0_0,VI a0_1]] R :=
 an.ni (bq (bW (ag (bQ ha0_0) (ag (az _) aB))) ct) (an.up (ag (az _) aB) (oF [] {mu:=[(0,.one (.obj [.lk .sl,.lk (.int .i64)]))],own:=[]} Tryz.f135 h))
def El(a0_0:AV)(a0_1:Int)(a1:AV)(a2:Int):Tree :=
 .test (decide (a2<=(0:Int))) (NL a1<|.test (decide ((a1.aN.length:Int)>(0:Int))) (.call 81 [.ref 0 0,VI 3] [.cells [a0_0,VI a0_1]] fun r1 o1=>.ak ((o1.hO)=.cells (o1.hO).cs)<|.ak (aL [.lk .sl,.lk (.int .i64)] ((o1.hO).cs) 0 1 o1.tail)<|NI r1<|.test (r1.toInt==(0:Int)) (NL a1<|.call 81 [.ref 0 0,VI (a1.aN.length:Int)] [.cells [((o1.hO).cs.getD 0 .any),VI (((o1.hO).cs.getD 1 .any).toInt)]] fun r2 o2=>.ak ((o2.hO)=.cells (o2.hO).cs)<|.ak (aL [.lk .sl,.lk (.int .i64)] ((o2.hO).cs) 0 1 o2.tail)<|NI r2<|.ak (LK.has .sl a1/\0<=r2.toInt/\r2.toInt<a1.aN.length/\(a1.aN.getD r2.toInt.toNat []).length=1)<|lQ (a1.aN.getD r2.toInt.toNat [])<|.done 0 [VS (((a1.aN.getD r2.toInt.toNat []).hA).ah)] [.cells [((o2.hO).cs.getD 0 .any),VI (((o2.hO).cs.getD 1 .any).toInt)]]) (.call 102 [.ref 0 0,.sl [[VS (mk [120])],[VS (mk [49])],[VS (mk [120])],[VS (mk [121])],[VS (mk [48])],[VS (mk [49])]]] [.cells [((o1.hO).cs.getD 0 .any),VI (((o1.hO).cs.getD 1 .any).toInt)]] fun r3 o3=>.ak ((o3.hO)=.cells (o3.hO).cs)<|.ak (aL [.lk .sl,.lk (.int .i64)] ((o3.hO).cs) 0 1 o3.tail)<|NS r3<|.done 0 [VS r3.ah] [.cells [((o3.hO).cs.getD 0 .any),VI (((o3.hO).cs.getD 1 .any).toInt)]])) (.call 102 [.ref 0 0,.sl [[VS (mk [120])],[VS (mk [49])],[VS (mk [120])],[VS (mk [121])],[VS (mk [48])],[VS (mk [49])]]] [.cells [a0_0,VI a0_1]] fun r4 o4=>.ak ((o4.hO)=.cells (o4.hO).cs)<|.ak (aL [.lk .sl,.lk (.int .i64)] ((o4.hO).cs) 0 1 o4.tail)<|NS r4<|.done 0 [VS r4.ah] [.cells [((o4.hO).cs.getD 0 .any),VI (((o4.hO).cs.getD 1 .any).toInt)]])) (.call 81 [.ref 0 0,VI 4] [.cells [a0_0,VI a0_1]] fun r5 o5=>.ak ((o5.hO)=.cells (o5.hO).cs)<|.ak (aL [.lk .sl,.lk (.int .i64)] ((o5.hO).cs) 0 1 o5.tail)<|NI r5<|.test (r5.toInt==(0:Int)) (NL a1<|.test (decide ((a1.aN.length:Int)>(0:Int))) (.call 81 [.ref 0 0,VI 3] [.cells [((o5.hO).cs.getD 0 .any),VI (((o5.hO).cs.getD 1 .any).toInt)]] fun r6 o6=>.ak ((o6.hO)=.cells (o6.hO).cs)<|.ak (aL [.lk .sl,.lk (.int .i64)] ((o6.hO).cs) 0 1 o6.tail)<|NI r6<|.test (r6.toInt==(0:Int)) (NL a1<|.call 81 [.ref 0 0,VI (a1.aN.length:Int)] [.cells [((o6.hO).cs.getD 0 .any),VI (((o6.hO).cs.getD 1 .any).toInt)]] fun r7 o7=>.ak ((o7.hO)=.cells (o7.hO).cs)<|.ak (aL [.lk .sl,.lk (.int .i64)] ((o7.hO).cs) 0 1 o7.tail)<|NI r7<|.ak (LK.has .sl a1/\0<=r7.toInt/\r7.toInt<a1.aN.length/\(a1.aN.getD r7.toInt.toNat []).length=1)<|lQ (a1.aN.getD r7.toInt.toNat [])<|.done 0 [VS (((a1.aN.getD r7.toInt.toNat []).hA).ah)] [.cells [((o7.hO).cs.getD 0 .any),VI (((o7.hO).cs.getD 1 .any).toInt)]]) (.call 102 [.ref 0 0,.sl [[VS (mk [120])],[VS (mk [49])],[VS (mk [120])],[VS (mk [121])],[VS (mk [48])],[VS (mk [49])]]] [.cells [((o6.hO).cs.getD 0 .any),VI (((o6.hO).cs.getD 1 .any).toInt)]] fun r8 o8=>.ak ((o8.hO)=.cells (o8.hO).cs)<|.ak (aL [.lk .sl,.lk (.int .i64)] ((o8.hO).cs) 0 1 o8.tail)<|NS r8<|.done 0 [VS r8.ah] [.cells [((o8.hO).cs.getD 0 .any),VI (((o8.hO).cs.getD 1 .any).toInt)]])) (.call 102 [.ref 0 0,.sl [[VS (mk [120])],[VS (mk [49])],[VS (mk [120])],[VS (mk [121])],[VS (mk [48])],[VS (mk [49])]]] [.cells [((o5.hO).cs.getD 0 .any),VI (((o5.hO).cs.getD 1 .any).toInt)]] fun r9 o9=>.ak ((o9.hO)=.cells (o9.hO).cs)<|.ak (aL [.lk .sl,.lk (.int .i64)] ((o9.hO).cs) 0 1 o9.tail)<|NS r9<|.done 0 [VS r9.ah] [.cells [((o9.hO).cs.getD 0 .any),VI (((o9.hO).cs.getD 1 .any).toInt)]])) (.call 81 [.ref 0 0,VI 5] [.cells [((o5.hO).cs.getD 0 .any),VI (((o5.hO).cs.getD 1 .any).toInt)]] fun r10 o10=>.ak ((o10.hO)=.cells (o10.hO).cs)<|.ak (aL [.lk .sl,.lk (.int .i64)] ((o10.hO).cs) 0 1 o10.tail)<|NI r10<|.test (r10.toInt==(0:Int)) (.call 136 [.ref 0 0,a1,VI (IntKind.wrap .i64 (a2-1))] [.cells [((o10.hO).cs.getD 0 .any),VI (((o10.hO).cs.getD 1 .any).toInt)]] fun r11 o11=>.ak ((o11.hO)=.cells (o11.hO).cs)<|.ak (aL [.lk .sl,.lk (.int .i64)] ((o11.hO).cs) 0 1 o11.tail)<|NS r11<|.ak (ac (mk [40,43,32])+ac r11.ah<=9223372036854775807)<|.ak (ac (((mk [40,43,32]):ByteArray)++r11.ah)+ac (mk [32])<=9223372036854775807)<|.call 136 [.ref 0 0,a1,VI (IntKind.wrap .i64 (a2-1))] [.cells [((o11.hO).cs.getD 0 .any),VI (((o11.hO).cs.getD 1 .any).toInt)]] fun r12 o12=>.ak ((o12.hO)=.cells (o12.hO).cs)<|.ak (aL [.lk .sl,.lk (.int .i64)] ((o12.hO).cs) 0 1 o12.tail)<|NS r12<|.ak (ac (((((mk [40,43,32]):ByteArray)++r11.ah):ByteArray)++(mk [32]))+ac r12.ah<=9223372036854775807)<|.ak (ac (((((((mk [40,43,32]):ByteArray)++r11.ah):ByteArray)++(mk [32])):ByteArray)++r12.ah)+ac (mk [41])<=9223372036854775807)<|.done 0 [VS (((((((((mk [40,43,32]):ByteArray)++r11.ah):ByteArray)++(mk [32])):ByteArray)++r12.ah):ByteArray)++(mk [41]))] [.cells [((o12.hO).cs.getD 0 .any),VI (((o12.hO).cs.getD 1 .any).toInt)]]) (.test (r10.toInt==(1:Int)) (.call 136 [.ref 0 0,a1,VI (IntKind.wrap .i64 (a2-1))] [.cells [((o10.hO).cs.getD 0 .any),VI (((o10.hO).cs.getD 1 .any).toInt)]] fun r13 o13=>.ak ((o13.hO)=.cells (o13.hO).cs)<|.ak (aL [.lk .sl,.lk (.int .i64)] ((o13.hO).cs) 0 1 o13.tail)<|NS r13<|.ak (ac (mk [40,43,32])+ac r13.ah<=9223372036854775807)<|.ak (ac (((mk [40,43,32]):ByteArray)++r13.ah)+ac (mk [32])<=9223372036854775807)<|.call 136 [.ref 0 0,a1,VI (IntKind.wrap .i64 (a2-1))] [.cells [((o13.hO).cs.getD 0 .any),VI (((o13.hO).cs.getD 1 .any).toInt)]] fun r14 o14=>.ak ((o14.hO)=.cells (o14.hO).cs)<|.ak (aL [.lk .sl,.lk (.int .i64)] ((o14.hO).cs) 0 1 o14.tail)<|NS r14<|.ak (ac (((((mk [40,43,32]):ByteArray)++r13.ah):ByteArray)++(mk [32]))+ac r14.ah<=9223372036854775807)<|.ak (ac (((((((mk [40,43,32]):ByteArray)++r13.ah):ByteArray)++(mk [32])):ByteArray)++r14.ah)+ac (mk [41])<=9223372036854775807)<|.done 0 [VS (((((((((mk [40,43,32]):ByteArray)++r13.ah):ByteArray)++(mk [32])):ByteArray)++r14.ah):ByteArray)++(mk [41]))] [.cells [((o14.hO).cs.getD 0 .any),VI (((o14.hO).cs.getD 1 .any).toInt)]]) (.test (r10.toInt==(2:Int)) (.call 136 [.ref 0 0,a1,VI (IntKind.wrap .i64 (a2-1))] [.cells [((o10.hO).cs.getD 0 .any),VI (((o10.hO).cs.getD 1 .any).toInt)]] fun r15 o15=>.ak ((o15.hO)=.cells (o15.hO).cs)<|.ak (aL [.lk .sl,.lk (.int .i64)] ((o15.hO).cs) 0 1 o15.tail)<|NS r15<|.ak (ac (mk [40,42,32])+ac r15.ah<=9223372036854775807)<|.ak (ac (((mk [40,42,32]):ByteArray)++r15.ah)+ac (mk [32])<=9223372036854775807)<|.call 136 [.ref 0 0,a1,VI (IntKind.wrap .i64 (a2-1))] [.cells [((o15.hO).cs.getD 0 .any),VI (((o15.hO).cs.getD 1 .any).toInt)]] fun r16 o16=>.ak ((o16.hO)=.cells (o16.hO).cs)<|.ak (aL [.lk .sl,.lk (.int .i64)] ((o16.hO).cs) 0 1 o16.tail)<|NS r16<|.ak (ac (((((mk [40,42,32]):ByteArray)++r15.ah):ByteArray)++(mk [32]))+ac r16.ah<=9223372036854775807)<|.ak (ac (((((((mk [40,42,32]):ByteArray)++r15.ah):ByteArray)++(mk [32])):ByteArray)++r16.ah)+ac (mk [41])<=9223372036854775807)<|.done 0 [VS (((((((((mk [40,42,32]):ByteArray)++r15.ah):ByteArray)++(mk [32])):ByteArray)++r16.ah):ByteArray)++(mk [41]))] [.cells [((o16.hO).cs.getD 0 .any),VI (((o16.hO).cs.getD 1 .any).toInt)]]) (.test (r10.toInt==(3:Int)) (.call 136 [.ref 0 0,a1,VI (IntKind.wrap .i64 (a2-1))] [.cells [((o10.hO).cs.getD 0 .any),VI (((o10.hO).cs.getD 1 .any).toInt)]] fun r17 o17=>.ak ((o17.hO)=.cells (o17.hO).cs)<|.ak (aL [.lk .sl,.lk (.int .i64)] ((o17.hO).cs) 0 1 o17.tail)<|NS r17<|.ak (ac (mk [40,42,32])+ac r17.ah<=9223372036854775807)<|.ak (ac (((mk [40,42,32]):ByteArray)++r17.ah)+ac (mk [32])<=9223372036854775807)<|.call 136 [.ref 0 0,a1,VI (IntKind.wrap .i64 (a2-1))] [.cells [((o17.hO).cs.getD 0 .any),VI (((o17.hO).cs.getD 1 .any).toInt)]] fun r18 o18=>.ak ((o18.hO)=.cells (o18.hO).cs)<|.ak (aL [.lk .sl,.lk (.int .i64)] ((o18.hO).cs) 0 1 o18.tail)<|NS r18<|.ak (ac (((((mk [40,42,32]):ByteArray)++r17.ah):ByteArray)++(mk [32]))+ac r18.ah<=9223372036854775807)<|.ak (ac (((((((mk [40,42,32]):ByteArray)++r17.ah):ByteArray)++(mk [32])):ByteArray)++r18.ah)+ac (mk [41])<=9223372036854775807)<|.done 0 [VS (((((((((mk [40,42,32]):ByteArray)++r17.ah):ByteArray)++(mk [32])):ByteArray)++r18.ah):ByteArray)++(mk [41]))] [.cells [((o18.hO).cs.getD 0 .any),VI (((o18.hO).cs.getD 1 .any).toInt)]]) (.call 102 [.ref 0 0,.sl [[VS (mk [116])],[VS (mk [116,49])],[VS (mk [116,48])]]] [.cells [((o10.hO).cs.getD 0 .any),VI (((o10.hO).cs.getD 1 .any).toInt)]] fun r19 o19=>.ak ((o19.hO)=.cells (o19.hO).cs)<|.ak (aL [.lk .sl,.lk (.int .i64)] ((o19.hO).cs) 0 1 o19.tail)<|NS r19<|.ak (ac (mk [40,114,101,99,32])+ac r19.ah<=9223372036854775807)<|.ak (ac (((mk [40,114,101,99,32]):ByteArray)++r19.ah)+ac (mk [32,40,43,32,49,32])<=9223372036854775807)<|.call 79 [a1,VS r19.ah] [] fun r20 o20=>NL r20<|.call 136 [.ref 0 0,r20,VI (IntKind.wrap .i64 (a2-1))] [.cells [((o19.hO).cs.getD 0 .any),VI (((o19.hO).cs.getD 1 .any).toInt)]] fun r21 o21=>.ak ((o21.hO)=.cells (o21.hO).cs)<|.ak (aL [.lk .sl,.lk (.int .i64)] ((o21.hO).cs) 0 1 o21.tail)<|NS r21<|.ak (ac (((((mk [40,114,101,99,32]):ByteArray)++r19.ah):ByteArray)++(mk [32,40,43,32,49,32]))+ac r21.ah<=9223372036854775807)<|.ak (ac (((((((mk [40,114,101,99,32]):ByteArray)++r19.ah):ByteArray)++(mk [32,40,43,32,49,32])):ByteArray)++r21.ah)+ac (mk [41,41])<=9223372036854775807)<|.done 0 [VS (((((((((mk [40,114,101,99,32]):ByteArray)++r19.ah):ByteArray)++(mk [32,40,43,32,49,32])):ByteArray)++r21.ah):ByteArray)++(mk [41,41]))] [.cells [((o21.hO).cs.getD 0 .any),VI (((o21.hO).cs.getD 1 .any).toInt)]]))))))
theorem Ml(a0_0:AV)(a0_1:Int)(a1:AV)(a2:Int)(ha1:LK.has .sl a1)(ha0_0:LK.has .sl a0_0)(h:dk 82 (El a0_0 a0_1 a1 a2) R):an Tryz.prog 136 [.ref 0 0,a1,VI a2] [.cells [a0_0,VI a0_1]] R :=
 an.ni (bq (bW (ag (bQ ha0_0) (ag (az _) aB))) ct) (an.up (ag (az _) (ag (bQ ha1) (ag (az _) aB))) (oF [] {mu:=[(0,.one (.obj [.lk .sl,.lk (.int .i64)]))],own:=[]} Tryz.f136 h))
def Eg(a0_0:ByteArray)(a0_1:AV)(a1:AV)(e2:List (List AV)):Tree :=
 .test (!(af a0_0==af (mk []))) (.test (af a0_0==af (mk [48])) (.done 0 [.vec 1] [.dead,.vec 1 e2]) (.test (af a0_0==af (mk [49])) (.done 0 [.vec 1] [.dead,.vec 1 e2]) (.call 169 [a1,VS a0_0] [] fun r1 o1=>NB r1<|.test r1.toBool (.done 0 [.vec 1] [.dead,.vec 1 e2]) (.call 169 [.sl e2,VS a0_0] [] fun r2 o2=>NB r2<|.test r2.toBool (.done 0 [.vec 1] [.dead,.vec 1 e2]) (.ak (cV 1 [[VS a0_0]]/\((e2.length)+([[VS a0_0]]:List (List AV)).length)*16<=140737488355328)<|.done 0 [.vec 1] [.dead,.vec 1 (e2++([[VS a0_0]]:List (List AV)))]))))) (.call 121 [.agg [VS a0_0,a0_1]] [] fun r3 o3=>NS r3<|.test (af r3.ah==af (mk [114,101,99])) (NG a0_1 2 2<|NE (a0_1.ix (2:Int))<|NG a0_1 1 2<|lQ (a0_1.ix (1:Int))<|.call 79 [a1,VS (((a0_1.ix (1:Int)).hA).ah)] [] fun r4 o4=>NL r4<|.call 137 [.agg [VS (((a0_1.ix (2:Int)).getD 0 .any).ah),((a0_1.ix (2:Int)).getD 1 .any)],r4,.vec 0] [.vec 1 e2] fun r5 o5=>.ak (r5=.vec 1/\(o5.tail.hO)=.vec 1 (o5.tail.hO).es)<|.done 0 [.vec 1] [.dead,.vec 1 ((o5.tail.hO).es)]) (NG a0_1 2 2<|NE (a0_1.ix (2:Int))<|NG a0_1 1 2<|NE (a0_1.ix (1:Int))<|.call 137 [.agg [VS (((a0_1.ix (1:Int)).getD 0 .any).ah),((a0_1.ix (1:Int)).getD 1 .any)],a1,.vec 0] [.vec 1 e2] fun r6 o6=>.ak (r6=.vec 1/\(o6.tail.hO)=.vec 1 (o6.tail.hO).es)<|.call 137 [.agg [VS (((a0_1.ix (2:Int)).getD 0 .any).ah),((a0_1.ix (2:Int)).getD 1 .any)],a1,.vec 0] [.vec 1 ((o6.tail.hO).es)] fun r7 o7=>.ak (r7=.vec 1/\(o7.tail.hO)=.vec 1 (o7.tail.hO).es)<|.done 0 [.vec 1] [.dead,.vec 1 ((o7.tail.hO).es)]))
theorem yW(a0_0:ByteArray)(a0_1:AV)(a1:AV)(e2:List (List AV))(ha0_1:LK.has .sl a0_1)(ha1:LK.has .sl a1)(h:dk 65 (Eg a0_0 a0_1 a1 e2) R):an Tryz.prog 137 [.agg [VS a0_0,a0_1],a1,.vec 0] [.vec 1 e2] R :=
 an.ni (bq (gd _) ct) (an.up (ag (bY (ag (az _) (ag (bQ ha0_1) aB))) (ag (bQ ha1) (ag (az _) aB))) (oF [] {mu:=[(2,.one (.vec))],own:=[0]} Tryz.f137 h))
def Mt(a0:ByteArray):Tree :=
 .call 170 [VS a0,.v (.int .u8 116),.v (.int .u8 116)] [] fun r1 o1=>NB r1<|.done 0 [VB r1.toBool] []
theorem PM(a0:ByteArray)(h:dk 5 (Mt a0) R):an Tryz.prog 138 [VS a0] [] R :=
 uQ (ag (az _) aB) (oQ [] Tryz.f138 h)
def zI(a0_0:ByteArray)(a0_1:AV)(a1:AV):Tree :=
 .call 121 [.agg [VS a0_0,a0_1]] [] fun r1 o1=>NS r1<|.test (af r1.ah==af (mk [43])) (NG a0_1 1 2<|NE (a0_1.ix (1:Int))<|.call 139 [.agg [VS (((a0_1.ix (1:Int)).getD 0 .any).ah),((a0_1.ix (1:Int)).getD 1 .any)],a1] [] fun r2 o2=>NB r2<|.test r2.toBool (NG a0_1 2 2<|NE (a0_1.ix (2:Int))<|.call 139 [.agg [VS (((a0_1.ix (2:Int)).getD 0 .any).ah),((a0_1.ix (2:Int)).getD 1 .any)],a1] [] fun r3 o3=>NB r3<|.done 0 [VB r3.toBool] []) (.done 0 [VB false] [])) (.test (af r1.ah==af (mk [42])) (NG a0_1 1 2<|NE (a0_1.ix (1:Int))<|.call 139 [.agg [VS (((a0_1.ix (1:Int)).getD 0 .any).ah),((a0_1.ix (1:Int)).getD 1 .any)],a1] [] fun r4 o4=>NB r4<|.test r4.toBool (.done 0 [VB true] []) (NG a0_1 2 2<|NE (a0_1.ix (2:Int))<|.call 139 [.agg [VS (((a0_1.ix (2:Int)).getD 0 .any).ah),((a0_1.ix (2:Int)).getD 1 .any)],a1] [] fun r5 o5=>NB r5<|.done 0 [VB r5.toBool] [])) (.test (af r1.ah==af (mk [114,101,99])) (NG a0_1 2 2<|NE (a0_1.ix (2:Int))<|NG a0_1 1 2<|lQ (a0_1.ix (1:Int))<|.call 79 [a1,VS (((a0_1.ix (1:Int)).hA).ah)] [] fun r6 o6=>NL r6<|.call 139 [.agg [VS (((a0_1.ix (2:Int)).getD 0 .any).ah),((a0_1.ix (2:Int)).getD 1 .any)],r6] [] fun r7 o7=>NB r7<|.done 0 [VB r7.toBool] []) (.test (af a0_0==af (mk [48])) (.done 0 [VB true] []) (.call 169 [a1,VS a0_0] [] fun r8 o8=>NB r8<|.done 0 [VB r8.toBool] []))))
theorem Cp(a0_0:ByteArray)(a0_1:AV)(a1:AV)(ha0_1:LK.has .sl a0_1)(ha1:LK.has .sl a1)(h:dk 62 (zI a0_0 a0_1 a1) R):an Tryz.prog 139 [.agg [VS a0_0,a0_1],a1] [] R :=
 uQ (ag (bY (ag (az _) (ag (bQ ha0_1) aB))) (ag (bQ ha1) aB)) (oQ [] Tryz.f139 h)
def Er:LI:={hd:={ca:=[(3,.k (.int .i64)),(4,.k (.int .i64))],refs:=[(1,1)],cq:=[(1,[.lk .str,.lk .sl])]},xs:={ca:=[(3,.k (.int .i64))]},rt:={},ex:=0}
def KV:Code:=cW (cN Tryz.f140) 5
def Kg:List (Nat×LI):=[(5,Er)]
def EK(a0_0:ByteArray)(a0_1:AV):Tree :=
 .test (!(af a0_0==af (mk []))) (.done 0 [VI 1] []) (.loop KV Er [VI 0,VI 0] [.cells [VS a0_0,a0_1]] (fun y2 q2=>NI (y2.hA)<|.done 0 [VI ((y2.hA).toInt)] []) (fun y2 q2=>.done 0 [.any] []))
theorem Mh(a0_0:ByteArray)(a0_1:AV)(ha0_1:LK.has .sl a0_1)(h:dk 24 (EK a0_0 a0_1) R):an Tryz.prog 140 [.agg [VS a0_0,a0_1]] [] R :=
 uQ (ag (bY (ag (az _) (ag (bQ ha0_1) aB))) aB) (oQ Kg Tryz.f140 h)
def FJ(x3:Int)(x4:Int)(o1_0:ByteArray)(o1_1:AV):Tree :=
 NI (VI x3)<|NI (VI x4)<|.ak (Ob.cells [VS o1_0,o1_1]=.cells [VS o1_0,o1_1])<|.ak (ae [.lk .str,.lk .sl] [VS o1_0,o1_1] 0 [])<|NL o1_1<|.test (decide (x4<(o1_1.aN.length:Int))) (NG o1_1 x4 2<|NE (o1_1.ix x4)<|.call 140 [.agg [VS (((o1_1.ix x4).getD 0 .any).ah),((o1_1.ix x4).getD 1 .any)]] [] fun r1 o1=>NI r1<|.done 0 [VI (IntKind.wrap .i64 (x3+r1.toInt)),VI (IntKind.wrap .i64 (x4+1))] [.cells [VS o1_0,o1_1]]) (.done 1 [VI x3] [])
abbrev EB:=cF Tryz.prog 24 KV Er
theorem Lb(x3:Int)(x4:Int)(o1_0:ByteArray)(o1_1:AV)(h:lJ 24 (FJ x3 x4 o1_0 o1_1) EB U):EB [VI x3,VI x4] [.cells [VS o1_0,o1_1]] U :=
 gQ Kg h
def IY(a0_0:ByteArray)(a0_1:AV):Tree :=
 NG a0_1 1 2<|lQ (a0_1.ix (1:Int))<|NG a0_1 2 2<|NE (a0_1.ix (2:Int))<|.call 171 [.agg [VS (((a0_1.ix (2:Int)).getD 0 .any).ah),((a0_1.ix (2:Int)).getD 1 .any)],VS (((a0_1.ix (1:Int)).hA).ah),.agg [VS a0_0,a0_1]] [] fun r1 o1=>NB r1<|.test (!r1.toBool) (.done 0 [.cA [.agg [VS a0_0,a0_1],VB false]] []) (NG a0_1 2 2<|NE (a0_1.ix (2:Int))<|.call 172 [.agg [VS (((a0_1.ix (2:Int)).getD 0 .any).ah),((a0_1.ix (2:Int)).getD 1 .any)],VS (((a0_1.ix (1:Int)).hA).ah),.agg [VS a0_0,a0_1]] [] fun r2 o2=>NA r2<|.done 0 [.cA [.agg [VS ((r2.cs.getD 0 .any).ah),(r2.cs.getD 1 .any)],VB true]] [])
theorem PN(a0_0:ByteArray)(a0_1:AV)(ha0_1:LK.has .sl a0_1)(h:dk 26 (IY a0_0 a0_1) R):an Tryz.prog 141 [.agg [VS a0_0,a0_1]] [] R :=
 uQ (ag (bY (ag (az _) (ag (bQ ha0_1) aB))) aB) (oQ [] Tryz.f141 h)
def KJ(a0:Int):Tree :=
 .test (decide (a0<((-9223372036854775807):Int))) (.done 0 [VS (mk [45,57,50,50,51,51,55,50,48,51,54,56,53,52,55,55,53,56,48,56])] []) (.test (decide (a0<(0:Int))) (.call 142 [VI (IntKind.wrap .i64 (0-a0))] [] fun r1 o1=>NS r1<|.ak (ac (mk [45])+ac r1.ah<=9223372036854775807)<|.done 0 [VS (((mk [45]):ByteArray)++r1.ah)] []) (.test (decide (a0<(10:Int))) (.ak (jd [[.v (.int .u8 (IntKind.wrap .u8 (IntKind.wrap .i64 (48+a0))))]])<|.done 0 [VS (⟨(bytesOf [[.v (.int .u8 (IntKind.wrap .u8 (IntKind.wrap .i64 (48+a0))))]]).toArray⟩)] []) (.ak (¬(10:Int)=0)<|.call 142 [VI (IntKind.wrap .i64 (Int.tdiv a0 10))] [] fun r2 o2=>NS r2<|.ak (¬(10:Int)=0)<|.ak (jd [[.v (.int .u8 (IntKind.wrap .u8 (IntKind.wrap .i64 (48+(dC a0 10)))))]])<|.ak (ac r2.ah+ac (⟨(bytesOf [[.v (.int .u8 (IntKind.wrap .u8 (IntKind.wrap .i64 (48+(dC a0 10)))))]]).toArray⟩)<=9223372036854775807)<|.done 0 [VS ((r2.ah:ByteArray)++(⟨(bytesOf [[.v (.int .u8 (IntKind.wrap .u8 (IntKind.wrap .i64 (48+(dC a0 10)))))]]).toArray⟩))] [])))
theorem Oc(a0:Int)(h:dk 28 (KJ a0) R):an Tryz.prog 142 [VI a0] [] R :=
 uQ (ag (az _) aB) (oQ [] Tryz.f142 h)
def Fa:LI:={hd:={ca:=[(1,.k .sl),(2,.k .sl),(9,.k (.int .i64))],refs:=[(4,4),(8,8)],cq:=[(4,[.lk .str,.lk .sl]),(8,[.lk .str,.lk .sl]),(0,[.vec 1,.lk (.int .i64)])]},xs:={refs:=[(4,4),(8,8)],cq:=[(4,[.lk .str,.lk .sl]),(8,[.lk .str,.lk .sl]),(0,[.vec 1,.lk (.int .i64)])]},rt:={refs:=[(8,8)],cq:=[(8,[.lk .str,.lk .sl]),(0,[.vec 1,.lk (.int .i64)])]},ex:=0,fx:=[0]}
def Hv:Code:=cW (cN Tryz.f143) 3
def E4:LI:={hd:={ca:=[(1,.k .sl),(2,.k .sl),(10,.k .str)],refs:=[(3,0),(4,4),(8,8)],cq:=[(0,[.vec 1,.lk (.int .i64)]),(4,[.lk .str,.lk .sl]),(8,[.lk .str,.lk .sl])]},xs:={ca:=[(1,.k .sl),(2,.k .sl),(10,.k .str)],refs:=[(3,0),(4,4),(8,8)],cq:=[(0,[.vec 1,.lk (.int .i64)]),(4,[.lk .str,.lk .sl]),(8,[.lk .str,.lk .sl])]},rt:={cq:=[(0,[.vec 1,.lk (.int .i64)])]},ex:=2,fx:=[0]}
def MB:Code:=cW (cN Tryz.f143) 10
def Em:List (Nat×LI):=[(3,Fa),(10,E4)]
def Ai(a0_0:ByteArray)(a0_1:AV)(a1:AV)(a2:AV)(e3_0:List (List AV))(a3_1:Int):Tree :=
 .test (!(af a0_0==af (mk []))) (NL a1<|.loop Hv Fa [a1,a2,VI (IntKind.wrap .i64 ((a1.aN.length:Int)-1))] [.cells [VS a0_0,a0_1],.cells [VS (mk []),.v (.slice none 0 0)],.cells [.any,VI a3_1],.vec 1 e3_0] (fun y1 q1=>.ak ((q1.hO)=.cells (q1.hO).cs)<|.ak (ae [.lk .str,.lk .sl] ((q1.hO).cs) 0 q1.tail)<|.ak (((q1.tail.drop 0).hO)=.cells ((q1.tail.drop 0).hO).cs)<|.ak (ae [.lk .str,.lk .sl] (((q1.tail.drop 0).hO).cs) 0 ((q1.tail.drop 0).tail))<|.ak ((((q1.tail.drop 0).tail.drop 0).hO)=.cells (((q1.tail.drop 0).tail.drop 0).hO).cs)<|.ak (ae [.vec 1,.lk (.int .i64)] ((((q1.tail.drop 0).tail.drop 0).hO).cs) 0 (((q1.tail.drop 0).tail.drop 0).tail))<|.done 0 [.agg [VS (((q1.hO).cs.getD 0 .any).ah),((q1.hO).cs.getD 1 .any)]] [.cells [.vec 1,VI (((q1.tail.tail.hO).cs.getD 1 .any).toInt)],.vec 1 ((q1.tail.tail.tail.hO).es)]) (fun y1 q1=>.ak ((q1.hO)=.cells (q1.hO).cs)<|.ak (ae [.lk .str,.lk .sl] ((q1.hO).cs) 0 q1.tail)<|.ak (((q1.tail.drop 0).hO)=.cells ((q1.tail.drop 0).hO).cs)<|.ak (ae [.vec 1,.lk (.int .i64)] (((q1.tail.drop 0).hO).cs) 0 ((q1.tail.drop 0).tail))<|.done 0 [.agg [VS (((q1.hO).cs.getD 0 .any).ah),((q1.hO).cs.getD 1 .any)]] [.cells [.vec 1,VI (((q1.tail.hO).cs.getD 1 .any).toInt)],.vec 1 ((q1.tail.tail.hO).es)])) (.call 121 [.agg [VS a0_0,a0_1]] [] fun r2 o2=>NS r2<|.test (af r2.ah==af (mk [114,101,99])) (.call 142 [VI a3_1] [] fun r3 o3=>NS r3<|.ak (ac (mk [116])+ac r3.ah<=9223372036854775807)<|.loop MB E4 [a1,a2,VS (((mk [116]):ByteArray)++r3.ah)] [.cells [.any,VI a3_1],.vec 1 e3_0,.cells [VS a0_0,a0_1],.cells [VS (mk []),.v (.slice none 0 0)]] (fun y6 q6=>NL (y6.hA)<|NL (y6.tail.hA)<|NS (y6.tail.tail.hA)<|.ak ((q6.hO)=.cells (q6.hO).cs)<|.ak (ae [.vec 1,.lk (.int .i64)] ((q6.hO).cs) 0 q6.tail)<|.ak (((q6.tail.drop 1).hO)=.cells ((q6.tail.drop 1).hO).cs)<|.ak (ae [.lk .str,.lk .sl] (((q6.tail.drop 1).hO).cs) 0 ((q6.tail.drop 1).tail))<|.ak ((((q6.tail.drop 1).tail.drop 0).hO)=.cells (((q6.tail.drop 1).tail.drop 0).hO).cs)<|.ak (ae [.lk .str,.lk .sl] ((((q6.tail.drop 1).tail.drop 0).hO).cs) 0 (((q6.tail.drop 1).tail.drop 0).tail))<|NG ((q6.tail.tail.hO).cs.getD 1 .any) 2 2<|NE (((q6.tail.tail.hO).cs.getD 1 .any).ix (2:Int))<|NG ((q6.tail.tail.hO).cs.getD 1 .any) 1 2<|lQ (((q6.tail.tail.hO).cs.getD 1 .any).ix (1:Int))<|.call 79 [(y6.hA),VS (((((q6.tail.tail.hO).cs.getD 1 .any).ix (1:Int)).hA).ah)] [] fun r7 o7=>NL r7<|.call 79 [(y6.tail.hA),VS ((y6.tail.tail.hA).ah)] [] fun r8 o8=>NL r8<|.call 143 [.agg [VS (((((q6.tail.tail.hO).cs.getD 1 .any).ix (2:Int)).getD 0 .any).ah),((((q6.tail.tail.hO).cs.getD 1 .any).ix (2:Int)).getD 1 .any)],r7,r8,.ref 0 0] [.cells [.vec 1,VI (IntKind.wrap .i64 ((((q6.hO).cs.getD 1 .any).toInt)+1))],.vec 1 ((q6.tail.hO).es)] fun r9 o9=>.ak ((o9.hO)=.cells (o9.hO).cs)<|.ak (aL [.vec 1,.lk (.int .i64)] ((o9.hO).cs) 0 1 o9.tail)<|NA r9<|.call 98 [VS (mk [114,101,99]),.sl [[VS ((y6.tail.tail.hA).ah),.v (.slice none 0 0)],[VS ((r9.cs.getD 0 .any).ah),(r9.cs.getD 1 .any)]]] [] fun r10 o10=>NA r10<|.done 0 [.agg [VS ((r10.cs.getD 0 .any).ah),(r10.cs.getD 1 .any)]] [.cells [.vec 1,VI (((o9.hO).cs.getD 1 .any).toInt)],.vec 1 ((o9.tail.hO).es)]) (fun y6 q6=>.ak ((q6.hO)=.cells (q6.hO).cs)<|.ak (ae [.vec 1,.lk (.int .i64)] ((q6.hO).cs) 0 q6.tail)<|.fail)) (NG a0_1 1 2<|NE (a0_1.ix (1:Int))<|.call 143 [.agg [VS (((a0_1.ix (1:Int)).getD 0 .any).ah),((a0_1.ix (1:Int)).getD 1 .any)],a1,a2,.ref 0 0] [.cells [.vec 1,VI a3_1],.vec 1 e3_0] fun r11 o11=>.ak ((o11.hO)=.cells (o11.hO).cs)<|.ak (aL [.vec 1,.lk (.int .i64)] ((o11.hO).cs) 0 1 o11.tail)<|NA r11<|.call 121 [.agg [VS a0_0,a0_1]] [] fun r12 o12=>NS r12<|NG a0_1 2 2<|NE (a0_1.ix (2:Int))<|.call 143 [.agg [VS (((a0_1.ix (2:Int)).getD 0 .any).ah),((a0_1.ix (2:Int)).getD 1 .any)],a1,a2,.ref 0 0] [.cells [.vec 1,VI (((o11.hO).cs.getD 1 .any).toInt)],.vec 1 ((o11.tail.hO).es)] fun r13 o13=>.ak ((o13.hO)=.cells (o13.hO).cs)<|.ak (aL [.vec 1,.lk (.int .i64)] ((o13.hO).cs) 0 1 o13.tail)<|NA r13<|.call 98 [VS r12.ah,.sl [[VS ((r11.cs.getD 0 .any).ah),(r11.cs.getD 1 .any)],[VS ((r13.cs.getD 0 .any).ah),(r13.cs.getD 1 .any)]]] [] fun r14 o14=>NA r14<|.done 0 [.agg [VS ((r14.cs.getD 0 .any).ah),(r14.cs.getD 1 .any)]] [.cells [.vec 1,VI (((o13.hO).cs.getD 1 .any).toInt)],.vec 1 ((o13.tail.hO).es)]))
theorem Cy(a0_0:ByteArray)(a0_1:AV)(a1:AV)(a2:AV)(e3_0:List (List AV))(a3_1:Int)(ha0_1:LK.has .sl a0_1)(ha1:LK.has .sl a1)(ha2:LK.has .sl a2)(h:dk 113 (Ai a0_0 a0_1 a1 a2 e3_0 a3_1) R):an Tryz.prog 143 [.agg [VS a0_0,a0_1],a1,a2,.ref 0 0] [.cells [.vec 1,VI a3_1],.vec 1 e3_0] R :=
 an.ni (bq (bW (ag (az _) (ag (az _) aB))) (bq (gd _) ct)) (an.up (ag (bY (ag (az _) (ag (bQ ha0_1) aB))) (ag (bQ ha1) (ag (bQ ha2) (ag (az _) aB)))) (oF Em {mu:=[(3,.one (.obj [.vec 1,.lk (.int .i64)]))],own:=[]} Tryz.f143 h))
def Eu(x1:AV)(x2:AV)(x9:Int)(o4_0:ByteArray)(o4_1:AV)(o8_0:ByteArray)(o8_1:AV)(o0_0:List (List AV))(o0_1:Int):Tree :=
 NL x1<|NL x2<|NI (VI x9)<|.ak (Ob.cells [VS o4_0,o4_1]=.cells [VS o4_0,o4_1])<|.ak (ae [.lk .str,.lk .sl] [VS o4_0,o4_1] 0 [.cells [VS o8_0,o8_1],.cells [.any,VI o0_1],.vec 1 o0_0])<|.ak (Ob.cells [VS o8_0,o8_1]=.cells [VS o8_0,o8_1])<|.ak (ae [.lk .str,.lk .sl] [VS o8_0,o8_1] 0 [.cells [.any,VI o0_1],.vec 1 o0_0])<|.ak (Ob.cells [.any,VI o0_1]=.cells [.any,VI o0_1])<|.ak (ae [.vec 1,.lk (.int .i64)] [.any,VI o0_1] 0 [.vec 1 o0_0])<|.test (decide (x9≥(0:Int))) (NG x1 x9 1<|lQ (x1.ix x9)<|.test (af (((x1.ix x9).hA).ah)==af o4_0) (NG x2 x9 1<|lQ (x2.ix x9)<|.done 2 [] [.cells [VS (((x2.ix x9).hA).ah),.v (.slice none 0 0)],.cells [.any,VI o0_1],.vec 1 o0_0]) (.done 0 [x1,x2,VI (IntKind.wrap .i64 (x9-1))] [.cells [VS o4_0,o4_1],.cells [VS o8_0,o8_1],.cells [.any,VI o0_1],.vec 1 o0_0])) (.done 1 [] [.cells [VS o4_0,o4_1],.cells [VS o8_0,o8_1],.cells [.any,VI o0_1],.vec 1 o0_0])
abbrev Ff:=cF Tryz.prog 113 Hv Fa
theorem Ju(x1:AV)(x2:AV)(x9:Int)(o4_0:ByteArray)(o4_1:AV)(o8_0:ByteArray)(o8_1:AV)(o0_0:List (List AV))(o0_1:Int)(h:lJ 113 (Eu x1 x2 x9 o4_0 o4_1 o8_0 o8_1 o0_0 o0_1) Ff U):Ff [x1,x2,VI x9] [.cells [VS o4_0,o4_1],.cells [VS o8_0,o8_1],.cells [.any,VI o0_1],.vec 1 o0_0] U :=
 gQ Em h
def My(x1:AV)(x2:AV)(x10:ByteArray)(o0_0:List (List AV))(o0_1:Int)(o4_0:ByteArray)(o4_1:AV)(o8_0:ByteArray)(o8_1:AV):Tree :=
 NL x1<|NL x2<|NS (VS x10)<|.ak (Ob.cells [.any,VI o0_1]=.cells [.any,VI o0_1])<|.ak (ae [.vec 1,.lk (.int .i64)] [.any,VI o0_1] 0 [.vec 1 o0_0,.cells [VS o4_0,o4_1],.cells [VS o8_0,o8_1]])<|.ak (Ob.cells [VS o4_0,o4_1]=.cells [VS o4_0,o4_1])<|.ak (ae [.lk .str,.lk .sl] [VS o4_0,o4_1] 0 [.cells [VS o8_0,o8_1]])<|.ak (Ob.cells [VS o8_0,o8_1]=.cells [VS o8_0,o8_1])<|.ak (ae [.lk .str,.lk .sl] [VS o8_0,o8_1] 0 [])<|.call 169 [.sl o0_0,VS x10] [] fun r1 o1=>NB r1<|.test r1.toBool (.call 142 [VI (IntKind.wrap .i64 (o0_1+1))] [] fun r2 o2=>NS r2<|.ak (ac (mk [116])+ac r2.ah<=9223372036854775807)<|.done 0 [x1,x2,VS (((mk [116]):ByteArray)++r2.ah)] [.cells [.any,VI (IntKind.wrap .i64 (o0_1+1))],.vec 1 o0_0,.cells [VS o4_0,o4_1],.cells [VS o8_0,o8_1]]) (.done 1 [x1,x2,VS x10] [.cells [.any,VI o0_1],.vec 1 o0_0,.cells [VS o4_0,o4_1],.cells [VS o8_0,o8_1]])
abbrev EU:=cF Tryz.prog 113 MB E4
theorem Ol(x1:AV)(x2:AV)(x10:ByteArray)(o0_0:List (List AV))(o0_1:Int)(o4_0:ByteArray)(o4_1:AV)(o8_0:ByteArray)(o8_1:AV)(h:lJ 113 (My x1 x2 x10 o0_0 o0_1 o4_0 o4_1 o8_0 o8_1) EU U):EU [x1,x2,VS x10] [.cells [.any,VI o0_1],.vec 1 o0_0,.cells [VS o4_0,o4_1],.cells [VS o8_0,o8_1]] U :=
 gQ Em h
def ED:LI:={hd:={ca:=[(0,.k .ptr),(1,.k .sl),(5,.k (.int .i64))]},xs:={ca:=[(0,.k .ptr)]},rt:={refs:=[(4,69)],cq:=[(69,[.lk (.int .u8),.lk .str,.lk (.int .i64),.lk .ptr,.lk .ptr])]},ex:=1}
def Ih:Code:=cW (cN Tryz.f144) 7
def IR:List (Nat×LI):=[(7,ED)]
def G5(a0:AV)(a1:AV):Tree :=
 NZ a0<|NZ a0<|.ak (LK.has .str (a0.deref.hA)/\1<=a0.deref.length)<|.test (af ((a0.deref.hA).ah)==af (mk [48])) (NZ a0<|NZ a0<|.ak (LK.has .str (a0.deref.hA)/\1<=a0.deref.length)<|.ak (0<=(0:Int)/\(0:Int)<ac ((a0.deref.hA).ah))<|.done 0 [.ptr [.v (.int .u8 (bt ((a0.deref.hA).ah) 0)),VS (mk []),VI 0,.v (.pointer none),.v (.pointer none)]] []) (NZ a0<|NZ a0<|.ak (LK.has .str (a0.deref.hA)/\1<=a0.deref.length)<|.test (af ((a0.deref.hA).ah)==af (mk [49])) (NZ a0<|NZ a0<|.ak (LK.has .str (a0.deref.hA)/\1<=a0.deref.length)<|.ak (0<=(0:Int)/\(0:Int)<ac ((a0.deref.hA).ah))<|.done 0 [.ptr [.v (.int .u8 (bt ((a0.deref.hA).ah) 0)),VS (mk []),VI 0,.v (.pointer none),.v (.pointer none)]] []) (NZ a0<|NZ a0<|.ak (LK.has .str (a0.deref.hA)/\1<=a0.deref.length)<|.call 173 [VS ((a0.deref.hA).ah)] [] fun r1 o1=>NB r1<|.test r1.toBool (NZ a0<|NZ a0<|.ak (LK.has .str (a0.deref.hA)/\1<=a0.deref.length)<|.done 0 [.ptr [.v (.int .u8 110),VS ((a0.deref.hA).ah),VI 0,.v (.pointer none),.v (.pointer none)]] []) (NZ a0<|NZ a0<|.ak (LK.has .str (a0.deref.hA)/\1<=a0.deref.length)<|.call 159 [VS ((a0.deref.hA).ah)] [] fun r2 o2=>NB r2<|.test r2.toBool (NL a1<|.loop Ih ED [a0,a1,VI (IntKind.wrap .i64 ((a1.aN.length:Int)-1))] [] (fun y3 q3=>NP (y3.hA)<|NZ (y3.hA)<|NZ (y3.hA)<|.ak (LK.has .str ((y3.hA).deref.hA)/\1<=((y3.hA).deref).length)<|.done 0 [.ptr [.v (.int .u8 110),VS (((y3.hA).deref.hA).ah),VI 0,.v (.pointer none),.v (.pointer none)]] []) (fun y3 q3=>.ak ((q3.hO)=.cells (q3.hO).cs)<|.ak (ae [.lk (.int .u8),.lk .str,.lk (.int .i64),.lk .ptr,.lk .ptr] ((q3.hO).cs) 0 q3.tail)<|.done 0 [.ptr [.v (.int .u8 (((q3.hO).cs.getD 0 .any).toInt)),VS (((q3.hO).cs.getD 1 .any).ah),VI (((q3.hO).cs.getD 2 .any).toInt),((q3.hO).cs.getD 3 .any),((q3.hO).cs.getD 4 .any)]] [])) (.call 162 [a0,VS (mk [43]),VI 3] [] fun r4 o4=>NB r4<|.test r4.toBool (NZ a0<|NZ a0<|nl (a0.deref.drop 1)<|NG ((a0.deref.drop 1).hA) 1 1<|dX (((a0.deref.drop 1).hA).ix (1:Int))<|.call 144 [((((a0.deref.drop 1).hA).ix (1:Int)).hA),a1] [] fun r5 o5=>NP r5<|NZ a0<|NZ a0<|nl (a0.deref.drop 1)<|NG ((a0.deref.drop 1).hA) 2 1<|dX (((a0.deref.drop 1).hA).ix (2:Int))<|.call 144 [((((a0.deref.drop 1).hA).ix (2:Int)).hA),a1] [] fun r6 o6=>NP r6<|NP r5<|.test r5.isNil (.done 0 [.v (.pointer none)] []) (NP r6<|.test r6.isNil (.done 0 [.v (.pointer none)] []) (NZ a0<|NZ a0<|nl (a0.deref.drop 1)<|NG ((a0.deref.drop 1).hA) 0 1<|dX (((a0.deref.drop 1).hA).ix (0:Int))<|NZ ((((a0.deref.drop 1).hA).ix (0:Int)).hA)<|NZ ((((a0.deref.drop 1).hA).ix (0:Int)).hA)<|.ak (LK.has .str (((((a0.deref.drop 1).hA).ix (0:Int)).hA).deref.hA)/\1<=(((((a0.deref.drop 1).hA).ix (0:Int)).hA).deref).length)<|.ak (0<=(0:Int)/\(0:Int)<ac ((((((a0.deref.drop 1).hA).ix (0:Int)).hA).deref.hA).ah))<|.done 0 [.ptr [.v (.int .u8 (bt ((((((a0.deref.drop 1).hA).ix (0:Int)).hA).deref.hA).ah) 0)),VS (mk []),VI 0,r5,r6]] []))) (.call 162 [a0,VS (mk [42]),VI 3] [] fun r7 o7=>NB r7<|.test r7.toBool (NZ a0<|NZ a0<|nl (a0.deref.drop 1)<|NG ((a0.deref.drop 1).hA) 1 1<|dX (((a0.deref.drop 1).hA).ix (1:Int))<|.call 144 [((((a0.deref.drop 1).hA).ix (1:Int)).hA),a1] [] fun r8 o8=>NP r8<|NZ a0<|NZ a0<|nl (a0.deref.drop 1)<|NG ((a0.deref.drop 1).hA) 2 1<|dX (((a0.deref.drop 1).hA).ix (2:Int))<|.call 144 [((((a0.deref.drop 1).hA).ix (2:Int)).hA),a1] [] fun r9 o9=>NP r9<|NP r8<|.test r8.isNil (.done 0 [.v (.pointer none)] []) (NP r9<|.test r9.isNil (.done 0 [.v (.pointer none)] []) (NZ a0<|NZ a0<|nl (a0.deref.drop 1)<|NG ((a0.deref.drop 1).hA) 0 1<|dX (((a0.deref.drop 1).hA).ix (0:Int))<|NZ ((((a0.deref.drop 1).hA).ix (0:Int)).hA)<|NZ ((((a0.deref.drop 1).hA).ix (0:Int)).hA)<|.ak (LK.has .str (((((a0.deref.drop 1).hA).ix (0:Int)).hA).deref.hA)/\1<=(((((a0.deref.drop 1).hA).ix (0:Int)).hA).deref).length)<|.ak (0<=(0:Int)/\(0:Int)<ac ((((((a0.deref.drop 1).hA).ix (0:Int)).hA).deref.hA).ah))<|.done 0 [.ptr [.v (.int .u8 (bt ((((((a0.deref.drop 1).hA).ix (0:Int)).hA).deref.hA).ah) 0)),VS (mk []),VI 0,r8,r9]] []))) (.call 162 [a0,VS (mk [114,101,99]),VI 3] [] fun r10 o10=>NB r10<|.test r10.toBool (NZ a0<|NZ a0<|nl (a0.deref.drop 1)<|NG ((a0.deref.drop 1).hA) 1 1<|dX (((a0.deref.drop 1).hA).ix (1:Int))<|NZ ((((a0.deref.drop 1).hA).ix (1:Int)).hA)<|NZ ((((a0.deref.drop 1).hA).ix (1:Int)).hA)<|.ak (LK.has .str (((((a0.deref.drop 1).hA).ix (1:Int)).hA).deref.hA)/\1<=(((((a0.deref.drop 1).hA).ix (1:Int)).hA).deref).length)<|.call 159 [VS ((((((a0.deref.drop 1).hA).ix (1:Int)).hA).deref.hA).ah)] [] fun r11 o11=>NB r11<|.test r11.toBool (NZ a0<|NZ a0<|nl (a0.deref.drop 1)<|NG ((a0.deref.drop 1).hA) 2 1<|dX (((a0.deref.drop 1).hA).ix (2:Int))<|.ak (LK.has .sl a1/\cV 1 a1.aN/\((([]:List (List AV)).length)+a1.aN.length)*16<=140737488355328)<|NZ a0<|NZ a0<|nl (a0.deref.drop 1)<|NG ((a0.deref.drop 1).hA) 1 1<|dX (((a0.deref.drop 1).hA).ix (1:Int))<|NZ ((((a0.deref.drop 1).hA).ix (1:Int)).hA)<|NZ ((((a0.deref.drop 1).hA).ix (1:Int)).hA)<|.ak (LK.has .str (((((a0.deref.drop 1).hA).ix (1:Int)).hA).deref.hA)/\1<=(((((a0.deref.drop 1).hA).ix (1:Int)).hA).deref).length)<|.ak (cV 1 [[VS ((((((a0.deref.drop 1).hA).ix (1:Int)).hA).deref.hA).ah)]]/\(((([]:List (List AV))++a1.aN).length)+([[VS ((((((a0.deref.drop 1).hA).ix (1:Int)).hA).deref.hA).ah)]]:List (List AV)).length)*16<=140737488355328)<|.call 144 [((((a0.deref.drop 1).hA).ix (2:Int)).hA),.sl ((([]:List (List AV))++a1.aN)++([[VS ((((((a0.deref.drop 1).hA).ix (1:Int)).hA).deref.hA).ah)]]:List (List AV)))] [] fun r12 o12=>NP r12<|NP r12<|.test r12.isNil (.done 0 [.v (.pointer none)] []) (.done 0 [.ptr [.v (.int .u8 114),VS (mk []),VI 0,r12,.v (.pointer none)]] [])) (.done 0 [.v (.pointer none)] [])) (.done 0 [.v (.pointer none)] [])))))))
theorem Jt(a0:AV)(a1:AV)(ha0:LK.has .ptr a0)(ha1:LK.has .sl a1)(h:dk 160 (G5 a0 a1) R):an Tryz.prog 144 [a0,a1] [] R :=
 uQ (ag (bp ha0) (ag (bQ ha1) aB)) (oQ IR Tryz.f144 h)
def Ef(x0:AV)(x1:AV)(x5:Int):Tree :=
 NP x0<|NL x1<|NI (VI x5)<|.test (decide (x5≥(0:Int))) (NG x1 x5 1<|lQ (x1.ix x5)<|NZ x0<|NZ x0<|.ak (LK.has .str (x0.deref.hA)/\1<=x0.deref.length)<|.test (af (((x1.ix x5).hA).ah)==af ((x0.deref.hA).ah)) (NL x1<|.done 2 [] [.cells [.v (.int .u8 98),VS (mk []),VI (IntKind.wrap .i64 ((IntKind.wrap .i64 ((x1.aN.length:Int)-1))-x5)),.v (.pointer none),.v (.pointer none)]]) (.done 0 [x0,x1,VI (IntKind.wrap .i64 (x5-1))] [])) (.done 1 [x0] [])
abbrev EC:=cF Tryz.prog 160 Ih ED
theorem Jo(x0:AV)(x1:AV)(x5:Int)(h:lJ 160 (Ef x0 x1 x5) EC U):EC [x0,x1,VI x5] [] U :=
 gQ IR h
def DE(a0:AV):Tree :=
 NZ a0<|NZ a0<|.ak (LK.has (.int .u8) (a0.deref.hA)/\1<=a0.deref.length)<|.test (((a0.deref.hA).toInt)==(43:Int)) (NZ a0<|NZ a0<|dX (a0.deref.drop 3)<|.call 145 [((a0.deref.drop 3).hA)] [] fun r1 o1=>NI r1<|NZ a0<|NZ a0<|dX (a0.deref.drop 4)<|.call 145 [((a0.deref.drop 4).hA)] [] fun r2 o2=>NI r2<|.done 0 [VI (IntKind.wrap .i64 ((IntKind.wrap .i64 (1+r1.toInt))+r2.toInt))] []) (.test (((a0.deref.hA).toInt)==(42:Int)) (NZ a0<|NZ a0<|dX (a0.deref.drop 3)<|.call 145 [((a0.deref.drop 3).hA)] [] fun r3 o3=>NI r3<|NZ a0<|NZ a0<|dX (a0.deref.drop 4)<|.call 145 [((a0.deref.drop 4).hA)] [] fun r4 o4=>NI r4<|.done 0 [VI (IntKind.wrap .i64 ((IntKind.wrap .i64 (1+r3.toInt))+r4.toInt))] []) (.test (((a0.deref.hA).toInt)==(114:Int)) (NZ a0<|NZ a0<|dX (a0.deref.drop 3)<|.call 145 [((a0.deref.drop 3).hA)] [] fun r5 o5=>NI r5<|.done 0 [VI (IntKind.wrap .i64 (2+r5.toInt))] []) (.done 0 [VI 1] [])))
theorem wP(a0:AV)(ha0:LK.has .ptr a0)(h:dk 30 (DE a0) R):an Tryz.prog 145 [a0] [] R :=
 uQ (ag (bp ha0) aB) (oQ [] Tryz.f145 h)
def JM(a0_0:Int)(a0_1:Bool):Tree :=
 .call 174 [VI (IntKind.wrap .i64 (a0_0+1))] [] fun r1 o1=>NS r1<|.ak (ac (mk [35])+ac r1.ah<=9223372036854775807)<|.done 0 [VS (((mk [35]):ByteArray)++r1.ah)] [.cells [VI (IntKind.wrap .i64 (a0_0+1)),VB a0_1]]
theorem Pf(a0_0:Int)(a0_1:Bool)(h:dk 16 (JM a0_0 a0_1) R):an Tryz.prog 146 [.ref 0 0] [.cells [VI a0_0,VB a0_1]] R :=
 an.ni (bq (bW (ag (az _) (ag (Fq _) aB))) ct) (an.up (ag (az _) aB) (oF [] {mu:=[(0,.one (.obj [.lk (.int .i64),.lk .bool]))],own:=[]} Tryz.f146 h))
def IU(a0_0:Int)(a0_1:Bool)(a1:AV):Tree :=
 .test a0_1 (.done 0 [.ptr [.v (.int .u8 48),VS (mk []),VI 0,.v (.pointer none),.v (.pointer none)]] [.cells [VI a0_0,VB true]]) (.call 145 [a1] [] fun r1 o1=>NI r1<|.test (decide (r1.toInt>(400:Int))) (.done 0 [.ptr [.v (.int .u8 48),VS (mk []),VI 0,.v (.pointer none),.v (.pointer none)]] [.cells [VI a0_0,VB true]]) (.done 0 [a1] [.cells [VI a0_0,VB a0_1]]))
theorem OY(a0_0:Int)(a0_1:Bool)(a1:AV)(ha1:LK.has .ptr a1)(h:dk 20 (IU a0_0 a0_1 a1) R):an Tryz.prog 147 [.ref 0 0,a1] [.cells [VI a0_0,VB a0_1]] R :=
 an.ni (bq (bW (ag (az _) (ag (Fq _) aB))) ct) (an.up (ag (az _) (ag (bp ha1) aB)) (oF [] {mu:=[(0,.one (.obj [.lk (.int .i64),.lk .bool]))],own:=[]} Tryz.f147 h))
def Cm(a0_0:Int)(a0_1:Bool)(a1:AV)(a2:ByteArray):Tree :=
 .test a0_1 (.done 0 [.ptr [.v (.int .u8 48),VS (mk []),VI 0,.v (.pointer none),.v (.pointer none)]] [.cells [VI a0_0,VB a0_1]]) (NZ a1<|NZ a1<|.ak (LK.has (.int .u8) (a1.deref.hA)/\1<=a1.deref.length)<|.test (((a1.deref.hA).toInt)==(110:Int)) (NZ a1<|NZ a1<|lQ (a1.deref.drop 1)<|.test (af (((a1.deref.drop 1).hA).ah)==af a2) (.done 0 [.ptr [.v (.int .u8 49),VS (mk []),VI 0,.v (.pointer none),.v (.pointer none)]] [.cells [VI a0_0,VB a0_1]]) (.done 0 [.ptr [.v (.int .u8 48),VS (mk []),VI 0,.v (.pointer none),.v (.pointer none)]] [.cells [VI a0_0,VB a0_1]])) (.test (((a1.deref.hA).toInt)==(43:Int)) (NZ a1<|NZ a1<|dX (a1.deref.drop 3)<|.call 148 [.ref 0 0,((a1.deref.drop 3).hA),VS a2] [.cells [VI a0_0,VB a0_1]] fun r1 o1=>.ak ((o1.hO)=.cells (o1.hO).cs)<|.ak (aL [.lk (.int .i64),.lk .bool] ((o1.hO).cs) 0 1 o1.tail)<|NP r1<|NZ a1<|NZ a1<|dX (a1.deref.drop 4)<|.call 148 [.ref 0 0,((a1.deref.drop 4).hA),VS a2] [.cells [VI (((o1.hO).cs.getD 0 .any).toInt),VB (((o1.hO).cs.getD 1 .any).toBool)]] fun r2 o2=>.ak ((o2.hO)=.cells (o2.hO).cs)<|.ak (aL [.lk (.int .i64),.lk .bool] ((o2.hO).cs) 0 1 o2.tail)<|NP r2<|.call 175 [.v (.int .u8 43),r1,r2] [] fun r3 o3=>NP r3<|.call 147 [.ref 0 0,r3] [.cells [VI (((o2.hO).cs.getD 0 .any).toInt),VB (((o2.hO).cs.getD 1 .any).toBool)]] fun r4 o4=>.ak ((o4.hO)=.cells (o4.hO).cs)<|.ak (aL [.lk (.int .i64),.lk .bool] ((o4.hO).cs) 0 1 o4.tail)<|NP r4<|.done 0 [r4] [.cells [VI (((o4.hO).cs.getD 0 .any).toInt),VB (((o4.hO).cs.getD 1 .any).toBool)]]) (.test (((a1.deref.hA).toInt)==(42:Int)) (NZ a1<|NZ a1<|dX (a1.deref.drop 3)<|.call 148 [.ref 0 0,((a1.deref.drop 3).hA),VS a2] [.cells [VI a0_0,VB a0_1]] fun r5 o5=>.ak ((o5.hO)=.cells (o5.hO).cs)<|.ak (aL [.lk (.int .i64),.lk .bool] ((o5.hO).cs) 0 1 o5.tail)<|NP r5<|NZ a1<|NZ a1<|dX (a1.deref.drop 4)<|.call 175 [.v (.int .u8 42),r5,((a1.deref.drop 4).hA)] [] fun r6 o6=>NP r6<|NZ a1<|NZ a1<|dX (a1.deref.drop 3)<|NZ a1<|NZ a1<|dX (a1.deref.drop 4)<|.call 148 [.ref 0 0,((a1.deref.drop 4).hA),VS a2] [.cells [VI (((o5.hO).cs.getD 0 .any).toInt),VB (((o5.hO).cs.getD 1 .any).toBool)]] fun r7 o7=>.ak ((o7.hO)=.cells (o7.hO).cs)<|.ak (aL [.lk (.int .i64),.lk .bool] ((o7.hO).cs) 0 1 o7.tail)<|NP r7<|.call 175 [.v (.int .u8 42),((a1.deref.drop 3).hA),r7] [] fun r8 o8=>NP r8<|.call 175 [.v (.int .u8 43),r6,r8] [] fun r9 o9=>NP r9<|.call 147 [.ref 0 0,r9] [.cells [VI (((o7.hO).cs.getD 0 .any).toInt),VB (((o7.hO).cs.getD 1 .any).toBool)]] fun r10 o10=>.ak ((o10.hO)=.cells (o10.hO).cs)<|.ak (aL [.lk (.int .i64),.lk .bool] ((o10.hO).cs) 0 1 o10.tail)<|NP r10<|.done 0 [r10] [.cells [VI (((o10.hO).cs.getD 0 .any).toInt),VB (((o10.hO).cs.getD 1 .any).toBool)]]) (.test (((a1.deref.hA).toInt)==(114:Int)) (.call 146 [.ref 0 0] [.cells [VI a0_0,VB a0_1]] fun r11 o11=>.ak ((o11.hO)=.cells (o11.hO).cs)<|.ak (aL [.lk (.int .i64),.lk .bool] ((o11.hO).cs) 0 1 o11.tail)<|NS r11<|NZ a1<|NZ a1<|dX (a1.deref.drop 3)<|.call 149 [((a1.deref.drop 3).hA),.ptr [.v (.int .u8 110),VS r11.ah,VI 0,.v (.pointer none),.v (.pointer none)],VI 0] [] fun r12 o12=>NP r12<|.call 148 [.ref 0 0,r12,VS a2] [.cells [VI (((o11.hO).cs.getD 0 .any).toInt),VB (((o11.hO).cs.getD 1 .any).toBool)]] fun r13 o13=>.ak ((o13.hO)=.cells (o13.hO).cs)<|.ak (aL [.lk (.int .i64),.lk .bool] ((o13.hO).cs) 0 1 o13.tail)<|NP r13<|.call 147 [.ref 0 0,r13] [.cells [VI (((o13.hO).cs.getD 0 .any).toInt),VB (((o13.hO).cs.getD 1 .any).toBool)]] fun r14 o14=>.ak ((o14.hO)=.cells (o14.hO).cs)<|.ak (aL [.lk (.int .i64),.lk .bool] ((o14.hO).cs) 0 1 o14.tail)<|NP r14<|.call 150 [r14,VS r11.ah,a1] [] fun r15 o15=>NP r15<|.call 148 [.ref 0 0,r12,VS r11.ah] [.cells [VI (((o14.hO).cs.getD 0 .any).toInt),VB (((o14.hO).cs.getD 1 .any).toBool)]] fun r16 o16=>.ak ((o16.hO)=.cells (o16.hO).cs)<|.ak (aL [.lk (.int .i64),.lk .bool] ((o16.hO).cs) 0 1 o16.tail)<|NP r16<|.call 147 [.ref 0 0,r16] [.cells [VI (((o16.hO).cs.getD 0 .any).toInt),VB (((o16.hO).cs.getD 1 .any).toBool)]] fun r17 o17=>.ak ((o17.hO)=.cells (o17.hO).cs)<|.ak (aL [.lk (.int .i64),.lk .bool] ((o17.hO).cs) 0 1 o17.tail)<|NP r17<|.call 150 [r17,VS r11.ah,a1] [] fun r18 o18=>NP r18<|.call 175 [.v (.int .u8 42),r18,.ptr [.v (.int .u8 98),VS (mk []),VI 0,.v (.pointer none),.v (.pointer none)]] [] fun r19 o19=>NP r19<|.call 175 [.v (.int .u8 43),r15,r19] [] fun r20 o20=>NP r20<|.call 147 [.ref 0 0,.ptr [.v (.int .u8 114),VS (mk []),VI 0,r20,.v (.pointer none)]] [.cells [VI (((o17.hO).cs.getD 0 .any).toInt),VB (((o17.hO).cs.getD 1 .any).toBool)]] fun r21 o21=>.ak ((o21.hO)=.cells (o21.hO).cs)<|.ak (aL [.lk (.int .i64),.lk .bool] ((o21.hO).cs) 0 1 o21.tail)<|NP r21<|.done 0 [r21] [.cells [VI (((o21.hO).cs.getD 0 .any).toInt),VB (((o21.hO).cs.getD 1 .any).toBool)]]) (.done 0 [.ptr [.v (.int .u8 48),VS (mk []),VI 0,.v (.pointer none),.v (.pointer none)]] [.cells [VI a0_0,VB a0_1]])))))
theorem KO(a0_0:Int)(a0_1:Bool)(a1:AV)(a2:ByteArray)(ha1:LK.has .ptr a1)(h:dk 121 (Cm a0_0 a0_1 a1 a2) R):an Tryz.prog 148 [.ref 0 0,a1,VS a2] [.cells [VI a0_0,VB a0_1]] R :=
 an.ni (bq (bW (ag (az _) (ag (Fq _) aB))) ct) (an.up (ag (az _) (ag (bp ha1) (ag (az _) aB))) (oF [] {mu:=[(0,.one (.obj [.lk (.int .i64),.lk .bool]))],own:=[]} Tryz.f148 h))
def DN(a0:AV)(a1:AV)(a2:Int):Tree :=
 NZ a0<|NZ a0<|.ak (LK.has (.int .u8) (a0.deref.hA)/\1<=a0.deref.length)<|.test (((a0.deref.hA).toInt)==(98:Int)) (NZ a0<|NZ a0<|.ak (LK.has (.int .i64) ((a0.deref.drop 2).hA)/\1<=(a0.deref.drop 2).length)<|.test ((((a0.deref.drop 2).hA).toInt)==a2) (.done 0 [a1] []) (.done 0 [a0] [])) (.test (((a0.deref.hA).toInt)==(43:Int)) (NZ a0<|NZ a0<|.ak (LK.has (.int .u8) (a0.deref.hA)/\1<=a0.deref.length)<|NZ a0<|NZ a0<|dX (a0.deref.drop 3)<|.call 149 [((a0.deref.drop 3).hA),a1,VI a2] [] fun r1 o1=>NP r1<|NZ a0<|NZ a0<|dX (a0.deref.drop 4)<|.call 149 [((a0.deref.drop 4).hA),a1,VI a2] [] fun r2 o2=>NP r2<|.done 0 [.ptr [.v (.int .u8 ((a0.deref.hA).toInt)),VS (mk []),VI 0,r1,r2]] []) (.test (((a0.deref.hA).toInt)==(42:Int)) (NZ a0<|NZ a0<|.ak (LK.has (.int .u8) (a0.deref.hA)/\1<=a0.deref.length)<|NZ a0<|NZ a0<|dX (a0.deref.drop 3)<|.call 149 [((a0.deref.drop 3).hA),a1,VI a2] [] fun r3 o3=>NP r3<|NZ a0<|NZ a0<|dX (a0.deref.drop 4)<|.call 149 [((a0.deref.drop 4).hA),a1,VI a2] [] fun r4 o4=>NP r4<|.done 0 [.ptr [.v (.int .u8 ((a0.deref.hA).toInt)),VS (mk []),VI 0,r3,r4]] []) (.test (((a0.deref.hA).toInt)==(114:Int)) (NZ a0<|NZ a0<|dX (a0.deref.drop 3)<|.call 149 [((a0.deref.drop 3).hA),a1,VI (IntKind.wrap .i64 (a2+1))] [] fun r5 o5=>NP r5<|.done 0 [.ptr [.v (.int .u8 114),VS (mk []),VI 0,r5,.v (.pointer none)]] []) (.done 0 [a0] []))))
theorem Gv(a0:AV)(a1:AV)(a2:Int)(ha0:LK.has .ptr a0)(ha1:LK.has .ptr a1)(h:dk 56 (DN a0 a1 a2) R):an Tryz.prog 149 [a0,a1,VI a2] [] R :=
 uQ (ag (bp ha0) (ag (bp ha1) (ag (az _) aB))) (oQ [] Tryz.f149 h)
def DV(a0:AV)(a1:ByteArray)(a2:AV):Tree :=
 NZ a0<|NZ a0<|.ak (LK.has (.int .u8) (a0.deref.hA)/\1<=a0.deref.length)<|.test (((a0.deref.hA).toInt)==(110:Int)) (NZ a0<|NZ a0<|lQ (a0.deref.drop 1)<|.test (af (((a0.deref.drop 1).hA).ah)==af a1) (.done 0 [a2] []) (.done 0 [a0] [])) (.test (((a0.deref.hA).toInt)==(43:Int)) (NZ a0<|NZ a0<|.ak (LK.has (.int .u8) (a0.deref.hA)/\1<=a0.deref.length)<|NZ a0<|NZ a0<|dX (a0.deref.drop 3)<|.call 150 [((a0.deref.drop 3).hA),VS a1,a2] [] fun r1 o1=>NP r1<|NZ a0<|NZ a0<|dX (a0.deref.drop 4)<|.call 150 [((a0.deref.drop 4).hA),VS a1,a2] [] fun r2 o2=>NP r2<|.done 0 [.ptr [.v (.int .u8 ((a0.deref.hA).toInt)),VS (mk []),VI 0,r1,r2]] []) (.test (((a0.deref.hA).toInt)==(42:Int)) (NZ a0<|NZ a0<|.ak (LK.has (.int .u8) (a0.deref.hA)/\1<=a0.deref.length)<|NZ a0<|NZ a0<|dX (a0.deref.drop 3)<|.call 150 [((a0.deref.drop 3).hA),VS a1,a2] [] fun r3 o3=>NP r3<|NZ a0<|NZ a0<|dX (a0.deref.drop 4)<|.call 150 [((a0.deref.drop 4).hA),VS a1,a2] [] fun r4 o4=>NP r4<|.done 0 [.ptr [.v (.int .u8 ((a0.deref.hA).toInt)),VS (mk []),VI 0,r3,r4]] []) (.test (((a0.deref.hA).toInt)==(114:Int)) (NZ a0<|NZ a0<|dX (a0.deref.drop 3)<|.call 150 [((a0.deref.drop 3).hA),VS a1,a2] [] fun r5 o5=>NP r5<|.done 0 [.ptr [.v (.int .u8 114),VS (mk []),VI 0,r5,.v (.pointer none)]] []) (.done 0 [a0] []))))
theorem wD(a0:AV)(a1:ByteArray)(a2:AV)(ha0:LK.has .ptr a0)(ha2:LK.has .ptr a2)(h:dk 55 (DV a0 a1 a2) R):an Tryz.prog 150 [a0,VS a1,a2] [] R :=
 uQ (ag (bp ha0) (ag (az _) (ag (bp ha2) aB))) (oQ [] Tryz.f150 h)
def JF(a0:AV):Tree :=
 .call 158 [a0] [] fun r1 o1=>NL r1<|.call 176 [a0,.v (.slice none 0 0),.gv 176 [none,some 0,some 1],.ref 0 0,.ref 1 0] [.cells [r1],.cells [VI 0]] fun r2 o2=>.ak ((o2.hO)=.cells (o2.hO).cs)<|.ak (aL [.lk .sl] ((o2.hO).cs) 0 1 o2.tail)<|.ak ((o2.tail.hO)=.cells (o2.tail.hO).cs)<|.ak (aL [.lk (.int .i64)] ((o2.tail.hO).cs) 0 2 o2.tail.tail)<|NS r2<|.done 0 [VS r2.ah] []
theorem Ql(a0:AV)(ha0:LK.has .ptr a0)(h:dk 12 (JF a0) R):an Tryz.prog 151 [a0] [] R :=
 uQ (ag (bp ha0) aB) (oQ [] Tryz.f151 h)
def E0:LI:={hd:={ca:=[(0,.k .str),(1,.k (.int .i64)),(9,.k (.int .i64))],refs:=[(6,6),(8,8)],cq:=[(6,[.lk .str,.lk .sl]),(8,[.lk .str,.lk .sl])]},xs:={ca:=[(0,.k .str),(1,.k (.int .i64)),(9,.k (.int .i64))],refs:=[(6,6),(8,8)],cq:=[(6,[.lk .str,.lk .sl]),(8,[.lk .str,.lk .sl])]},rt:={},ex:=0}
def MA:Code:=cW (cN Tryz.f152) 6
def GS:LI:={hd:={ca:=[(0,.k .str),(1,.k (.int .i64)),(2,.k (.int .i64))],refs:=[(6,6),(8,8)],cq:=[(6,[.lk .str,.lk .sl]),(8,[.lk .str,.vec 2])]},xs:={},rt:={ca:=[(7,.k (.int .i64))],refs:=[(6,6)],cq:=[(6,[.lk .str,.vec 2])]},ex:=999}
def Iv:Code:=cW (cN Tryz.f152) 12
def EZ:List (Nat×LI):=[(6,E0),(12,GS)]
def F5(a0:ByteArray)(a1:Int)(a2:Int):Tree :=
 .test (decide (a2>(300:Int))) (.done 0 [.cA [.agg [VS (mk []),.v (.slice none 0 0)],VI (-1)]] []) (.test (decide (a1≥(ac a0:Int))) (.done 0 [.cA [.agg [VS (mk []),.v (.slice none 0 0)],VI (-1)]] []) (.ak (0<=a1/\a1<ac a0)<|.test ((bt a0 a1) != (40:Int)) (.loop MA E0 [VS a0,VI a1,VI a1] [.cells [VS (mk []),.v (.slice none 0 0)],.cells [VS (mk []),.v (.slice none 0 0)]] (fun y2 q2=>NS (y2.hA)<|NI (y2.tail.hA)<|NI (y2.tail.tail.hA)<|.ak ((q2.hO)=.cells (q2.hO).cs)<|.ak (ae [.lk .str,.lk .sl] ((q2.hO).cs) 0 q2.tail)<|.ak (((q2.tail.drop 0).hO)=.cells ((q2.tail.drop 0).hO).cs)<|.ak (ae [.lk .str,.lk .sl] (((q2.tail.drop 0).hO).cs) 0 ((q2.tail.drop 0).tail))<|.ak (0<=((y2.tail.tail.hA).toInt)/\((y2.tail.tail.hA).toInt)<=((y2.tail.hA).toInt)/\((y2.tail.hA).toInt)<=(ac ((y2.hA).ah):Int))<|.test (af (cd ((y2.hA).ah) (bA ((y2.tail.tail.hA).toInt)) (bA ((y2.tail.hA).toInt)))==af (mk [])) (.done 0 [.cA [.agg [VS (cd ((y2.hA).ah) (bA ((y2.tail.tail.hA).toInt)) (bA ((y2.tail.hA).toInt))),((q2.tail.hO).cs.getD 1 .any)],VI (-1)]] []) (.done 0 [.cA [.agg [VS (cd ((y2.hA).ah) (bA ((y2.tail.tail.hA).toInt)) (bA ((y2.tail.hA).toInt))),((q2.tail.hO).cs.getD 1 .any)],VI ((y2.tail.hA).toInt)]] [])) (fun y2 q2=>.fail)) (.loop Iv GS [VS a0,VI a1,VI a2] [.cells [VS (mk []),.v (.slice none 0 0)],.cells [VS (mk []),.any],.vec 2 []] (fun y5 q5=>.fail) (fun y5 q5=>NI (y5.hA)<|.ak ((q5.hO)=.cells (q5.hO).cs)<|.ak (ae [.lk .str,.vec 2] ((q5.hO).cs) 0 q5.tail)<|.done 0 [.cA [.agg [VS (((q5.hO).cs.getD 0 .any).ah),.sl ((q5.tail.hO).es)],VI ((y5.hA).toInt)]] []))))
theorem IF(a0:ByteArray)(a1:Int)(a2:Int)(h:dk 87 (F5 a0 a1 a2) R):an Tryz.prog 152 [VS a0,VI a1,VI a2] [] R :=
 uQ (ag (az _) (ag (az _) (ag (az _) aB))) (oQ EZ Tryz.f152 h)
def G6(x0:ByteArray)(x1:Int)(x9:Int)(o6_0:ByteArray)(o6_1:AV)(o8_0:ByteArray)(o8_1:AV):Tree :=
 NS (VS x0)<|NI (VI x1)<|NI (VI x9)<|.ak (Ob.cells [VS o6_0,o6_1]=.cells [VS o6_0,o6_1])<|.ak (ae [.lk .str,.lk .sl] [VS o6_0,o6_1] 0 [.cells [VS o8_0,o8_1]])<|.ak (Ob.cells [VS o8_0,o8_1]=.cells [VS o8_0,o8_1])<|.ak (ae [.lk .str,.lk .sl] [VS o8_0,o8_1] 0 [])<|.test (decide (x1<(ac x0:Int))) (.ak (0<=x1/\x1<ac x0)<|.call 178 [.v (.int .u8 (bt x0 x1))] [] fun r1 o1=>NB r1<|.test r1.toBool (.done 0 [VS x0,VI (IntKind.wrap .i64 (x1+1)),VI x9] [.cells [VS o6_0,o6_1],.cells [VS o8_0,o8_1]]) (.done 1 [VS x0,VI x1,VI x9] [.cells [VS o6_0,o6_1],.cells [VS o8_0,o8_1]])) (.done 1 [VS x0,VI x1,VI x9] [.cells [VS o6_0,o6_1],.cells [VS o8_0,o8_1]])
abbrev FE:=cF Tryz.prog 87 MA E0
theorem Jb(x0:ByteArray)(x1:Int)(x9:Int)(o6_0:ByteArray)(o6_1:AV)(o8_0:ByteArray)(o8_1:AV)(h:lJ 87 (G6 x0 x1 x9 o6_0 o6_1 o8_0 o8_1) FE U):FE [VS x0,VI x1,VI x9] [.cells [VS o6_0,o6_1],.cells [VS o8_0,o8_1]] U :=
 gQ EZ h
def LY(x0:ByteArray)(x1:Int)(x2:Int)(o6_0:ByteArray)(o6_1:AV)(o8_0:ByteArray)(o8_1:List (List AV)):Tree :=
 NS (VS x0)<|NI (VI x1)<|NI (VI x2)<|.ak (Ob.cells [VS o6_0,o6_1]=.cells [VS o6_0,o6_1])<|.ak (ae [.lk .str,.lk .sl] [VS o6_0,o6_1] 0 [.cells [VS o8_0,.any],.vec 2 o8_1])<|.ak (Ob.cells [VS o8_0,.any]=.cells [VS o8_0,.any])<|.ak (ae [.lk .str,.vec 2] [VS o8_0,.any] 0 [.vec 2 o8_1])<|.call 152 [VS x0,VI (IntKind.wrap .i64 (x1+1)),VI (IntKind.wrap .i64 (x2+1))] [] fun r1 o1=>NT r1<|.ak ((r1.comp 0)=.agg (r1.comp 0).cs/\(r1.comp 0).cs.length=2/\bw [.str,.sl] ((r1.comp 0).cs) 0)<|NI (r1.comp 1)<|.test (decide (((r1.comp 1).toInt)<(0:Int))) (.done 2 [VI (-1)] [.cells [VS o8_0,.any],.vec 2 o8_1]) (.test (decide (((r1.comp 1).toInt)≥(ac x0:Int))) (.done 2 [VI (-1)] [.cells [VS o8_0,.any],.vec 2 o8_1]) (.ak (cV 2 [[VS (((r1.comp 0).cs.getD 0 .any).ah),((r1.comp 0).cs.getD 1 .any)]]/\((o8_1.length)+([[VS (((r1.comp 0).cs.getD 0 .any).ah),((r1.comp 0).cs.getD 1 .any)]]:List (List AV)).length)*40<=140737488355328)<|.ak (0<=((r1.comp 1).toInt)/\((r1.comp 1).toInt)<ac x0)<|.test ((bt x0 ((r1.comp 1).toInt))==(41:Int)) (.done 2 [VI (IntKind.wrap .i64 (((r1.comp 1).toInt)+1))] [.cells [VS o8_0,.any],.vec 2 (o8_1++([[VS (((r1.comp 0).cs.getD 0 .any).ah),((r1.comp 0).cs.getD 1 .any)]]:List (List AV)))]) (.ak (0<=((r1.comp 1).toInt)/\((r1.comp 1).toInt)<ac x0)<|.test ((bt x0 ((r1.comp 1).toInt)) != (32:Int)) (.done 2 [VI (-1)] [.cells [VS o8_0,.any],.vec 2 (o8_1++([[VS (((r1.comp 0).cs.getD 0 .any).ah),((r1.comp 0).cs.getD 1 .any)]]:List (List AV)))]) (.done 0 [VS x0,VI ((r1.comp 1).toInt),VI x2] [.cells [VS o6_0,o6_1],.cells [VS o8_0,.any],.vec 2 (o8_1++([[VS (((r1.comp 0).cs.getD 0 .any).ah),((r1.comp 0).cs.getD 1 .any)]]:List (List AV)))]))))
abbrev Ha:=cF Tryz.prog 87 Iv GS
theorem Pm(x0:ByteArray)(x1:Int)(x2:Int)(o6_0:ByteArray)(o6_1:AV)(o8_0:ByteArray)(o8_1:List (List AV))(h:lJ 87 (LY x0 x1 x2 o6_0 o6_1 o8_0 o8_1) Ha U):Ha [VS x0,VI x1,VI x2] [.cells [VS o6_0,o6_1],.cells [VS o8_0,.any],.vec 2 o8_1] U :=
 gQ EZ h
def Ax:LI:={hd:={ca:=[(0,.k .str),(3,.k (.int .i64)),(4,.k (.int .i64))]},xs:={ca:=[(3,.k (.int .i64))]},rt:={ca:=[(2,.k (.int .i64))]},ex:=0}
def BS:Code:=cW (cN Tryz.f153) 5
def Kb:List (Nat×LI):=[(5,Ax)]
def Jy(a0:ByteArray):Tree :=
 .call 56 [VI (ac a0:Int),VI 2,VI 3] [] fun r1 o1=>NB r1<|.test (!r1.toBool) (.done 0 [VI (-1)] []) (.ak (0<=(0:Int)/\(0:Int)<ac a0)<|.test ((bt a0 0) != (101:Int)) (.done 0 [VI (-1)] []) (.test ((ac a0:Int)==(3:Int)) (.ak (0<=(1:Int)/\(1:Int)<ac a0)<|.test ((bt a0 1)==(48:Int)) (.done 0 [VI (-1)] []) (.loop BS Ax [VS a0,VI 0,VI 1] [] (fun y2 q2=>NI (y2.hA)<|.done 0 [VI ((y2.hA).toInt)] []) (fun y2 q2=>NI (y2.hA)<|.done 0 [VI ((y2.hA).toInt)] []))) (.loop BS Ax [VS a0,VI 0,VI 1] [] (fun y3 q3=>NI (y3.hA)<|.done 0 [VI ((y3.hA).toInt)] []) (fun y3 q3=>NI (y3.hA)<|.done 0 [VI ((y3.hA).toInt)] []))))
theorem Nv(a0:ByteArray)(h:dk 49 (Jy a0) R):an Tryz.prog 153 [VS a0] [] R :=
 uQ (ag (az _) aB) (oQ Kb Tryz.f153 h)
def Gd(x0:ByteArray)(x3:Int)(x4:Int):Tree :=
 NS (VS x0)<|NI (VI x3)<|NI (VI x4)<|.test (decide (x4<(ac x0:Int))) (.ak (0<=x4/\x4<ac x0)<|.test (decide ((bt x0 x4)<(48:Int))) (.done 2 [VI (-1)] []) (.ak (0<=x4/\x4<ac x0)<|.test (decide ((bt x0 x4)>(57:Int))) (.done 2 [VI (-1)] []) (.ak (0<=x4/\x4<ac x0)<|.done 0 [VS x0,VI (IntKind.wrap .i64 ((IntKind.wrap .i64 (10*x3))+(IntKind.wrap .i64 (IntKind.wrap .u8 ((bt x0 x4)-48))))),VI (IntKind.wrap .i64 (x4+1))] []))) (.done 1 [VI x3] [])
abbrev D8:=cF Tryz.prog 49 BS Ax
theorem Iq(x0:ByteArray)(x3:Int)(x4:Int)(h:lJ 49 (Gd x0 x3 x4) D8 U):D8 [VS x0,VI x3,VI x4] [] U :=
 gQ Kb h
def Gx:LI:={hd:={ca:=[(1,.k .sl),(6,.k (.int .i64))],refs:=[(2,2),(4,4)],cq:=[(2,[.lk .str,.lk .sl]),(4,[.lk .str,.lk .sl])]},xs:={ca:=[(1,.k .sl)],refs:=[(2,2),(4,4)],cq:=[(2,[.lk .str,.lk .sl]),(4,[.lk .str,.lk .sl])]},rt:={ca:=[(5,.k .sl)],refs:=[(4,4)],cq:=[(4,[.lk .str,.lk .sl])]},ex:=0}
def Kj:Code:=cW (cN Tryz.f154) 2
def Hy:List (Nat×LI):=[(2,Gx)]
def Jv(a0_0:ByteArray)(a0_1:AV)(a1:AV):Tree :=
 NL a1<|.loop Kj Gx [a1,VI (IntKind.wrap .i64 ((a1.aN.length:Int)-1))] [.cells [VS a0_0,a0_1],.cells [VS (mk []),.v (.slice none 0 0)]] (fun y1 q1=>NL (y1.hA)<|.ak ((q1.hO)=.cells (q1.hO).cs)<|.ak (ae [.lk .str,.lk .sl] ((q1.hO).cs) 0 q1.tail)<|.ak (((q1.tail.drop 0).hO)=.cells ((q1.tail.drop 0).hO).cs)<|.ak (ae [.lk .str,.lk .sl] (((q1.tail.drop 0).hO).cs) 0 ((q1.tail.drop 0).tail))<|.done 0 [.cA [.agg [VS (((q1.hO).cs.getD 0 .any).ah),((q1.hO).cs.getD 1 .any)],(y1.hA)]] []) (fun y1 q1=>NL (y1.hA)<|.ak ((q1.hO)=.cells (q1.hO).cs)<|.ak (ae [.lk .str,.lk .sl] ((q1.hO).cs) 0 q1.tail)<|.done 0 [.cA [.agg [VS (((q1.hO).cs.getD 0 .any).ah),((q1.hO).cs.getD 1 .any)],(y1.hA)]] [])
theorem PO(a0_0:ByteArray)(a0_1:AV)(a1:AV)(ha0_1:LK.has .sl a0_1)(ha1:LK.has .sl a1)(h:dk 34 (Jv a0_0 a0_1 a1) R):an Tryz.prog 154 [.agg [VS a0_0,a0_1],a1] [] R :=
 uQ (ag (bY (ag (az _) (ag (bQ ha0_1) aB))) (ag (bQ ha1) aB)) (oQ Hy Tryz.f154 h)
def G7(x1:AV)(x6:Int)(o2_0:ByteArray)(o2_1:AV)(o4_0:ByteArray)(o4_1:AV):Tree :=
 NL x1<|NI (VI x6)<|.ak (Ob.cells [VS o2_0,o2_1]=.cells [VS o2_0,o2_1])<|.ak (ae [.lk .str,.lk .sl] [VS o2_0,o2_1] 0 [.cells [VS o4_0,o4_1]])<|.ak (Ob.cells [VS o4_0,o4_1]=.cells [VS o4_0,o4_1])<|.ak (ae [.lk .str,.lk .sl] [VS o4_0,o4_1] 0 [])<|.test (decide (x6≥(0:Int))) (NG x1 x6 4<|lQ (x1.ix x6)<|.test (af (((x1.ix x6).hA).ah)==af o2_0) (NG x1 x6 4<|NE ((x1.ix x6).drop 1)<|NG x1 x6 4<|nl ((x1.ix x6).drop 3)<|.done 2 [(((x1.ix x6).drop 3).hA)] [.cells [VS ((((x1.ix x6).drop 1).getD 0 .any).ah),(((x1.ix x6).drop 1).getD 1 .any)]]) (.done 0 [x1,VI (IntKind.wrap .i64 (x6-1))] [.cells [VS o2_0,o2_1],.cells [VS o4_0,o4_1]])) (.done 1 [x1] [.cells [VS o2_0,o2_1],.cells [VS o4_0,o4_1]])
abbrev GD:=cF Tryz.prog 34 Kj Gx
theorem I0(x1:AV)(x6:Int)(o2_0:ByteArray)(o2_1:AV)(o4_0:ByteArray)(o4_1:AV)(h:lJ 34 (G7 x1 x6 o2_0 o2_1 o4_0 o4_1) GD U):GD [x1,VI x6] [.cells [VS o2_0,o2_1],.cells [VS o4_0,o4_1]] U :=
 gQ Hy h
def LJ(a0:ByteArray):Tree :=
 .call 170 [VS a0,.v (.int .u8 120),.v (.int .u8 122)] [] fun r1 o1=>NB r1<|.done 0 [VB r1.toBool] []
theorem M9(a0:ByteArray)(h:dk 5 (LJ a0) R):an Tryz.prog 155 [VS a0] [] R :=
 uQ (ag (az _) aB) (oQ [] Tryz.f155 h)
def I6(a0_0:ByteArray)(a0_1:AV)(a1:AV):Tree :=
 NG a0_1 2 2<|NE (a0_1.ix (2:Int))<|.ak (LK.has .sl a1/\cV 4 a1.aN/\((([]:List (List AV)).length)+a1.aN.length)*80<=140737488355328)<|NG a0_1 1 2<|lQ (a0_1.ix (1:Int))<|.ak (cV 4 [[VS (((a0_1.ix (1:Int)).hA).ah),VS a0_0,a0_1,a1]]/\(((([]:List (List AV))++a1.aN).length)+([[VS (((a0_1.ix (1:Int)).hA).ah),VS a0_0,a0_1,a1]]:List (List AV)).length)*80<=140737488355328)<|.done 0 [.cA [.agg [VS (((a0_1.ix (2:Int)).getD 0 .any).ah),((a0_1.ix (2:Int)).getD 1 .any)],.sl ((([]:List (List AV))++a1.aN)++([[VS (((a0_1.ix (1:Int)).hA).ah),VS a0_0,a0_1,a1]]:List (List AV)))]] []
theorem Pw(a0_0:ByteArray)(a0_1:AV)(a1:AV)(ha0_1:LK.has .sl a0_1)(ha1:LK.has .sl a1)(h:dk 23 (I6 a0_0 a0_1 a1) R):an Tryz.prog 156 [.agg [VS a0_0,a0_1],a1] [] R :=
 uQ (ag (bY (ag (az _) (ag (bQ ha0_1) aB))) (ag (bQ ha1) aB)) (oQ [] Tryz.f156 h)
def Jd(a0:AV):Tree :=
 .call 179 [a0,.v (.func (.func 159) #[] #[])] [] fun r1 o1=>NI r1<|.done 0 [VB (decide (r1.toInt≥(0:Int)))] []
theorem PS(a0:AV)(ha0:LK.has .sl a0)(h:dk 9 (Jd a0) R):an Tryz.prog 157 [a0,.v (.func (.func 159) #[] #[])] [] R :=
 uQ (ag (bQ ha0) (ag (az _) aB)) (oQ [] Tryz.f157 h)
def IW(a0:AV):Tree :=
 .call 180 [a0,.fn 181 [.ref 0 0]] [.cells [.vec 1],.vec 1 []] fun r1 o1=>.ak ((o1.hO)=.cells (o1.hO).cs)<|.ak (aL [.vec 1] ((o1.hO).cs) 0 1 o1.tail)<|.done 0 [.sl ((o1.tail.hO).es)] []
theorem Pt(a0:AV)(ha0:LK.has .ptr a0)(h:dk 9 (IW a0) R):an Tryz.prog 158 [a0] [] R :=
 uQ (ag (bp ha0) aB) (oQ [] Tryz.f158 h)
def IN(a0:ByteArray):Tree :=
 .call 182 [VS a0,VS (mk [116])] [] fun r1 o1=>NB r1<|.done 0 [VB r1.toBool] []
theorem Qj(a0:ByteArray)(h:dk 5 (IN a0) R):an Tryz.prog 159 [VS a0] [] R :=
 uQ (ag (az _) aB) (oQ [] Tryz.f159 h)
def Fy:LI:={hd:={ca:=[(0,.k .str),(1,.k (.int .i64)),(6,.k (.int .i64))]},xs:={ca:=[(0,.k .str),(1,.k (.int .i64)),(6,.k (.int .i64))]},rt:={},ex:=0}
def KI:Code:=cW (cN Tryz.f160) 2
def Ei:LI:={hd:={ca:=[(0,.k .str),(1,.k (.int .i64)),(7,.k .str)],refs:=[(8,48)],cq:=[(48,[.lk .str,.vec 1])]},xs:={},rt:={ca:=[(4,.k .ptr),(5,.k .str)]},ex:=999}
def H4:Code:=cW (cN Tryz.f160) 10
def Es:List (Nat×LI):=[(2,Fy),(10,Ei)]
def GP(a0:ByteArray)(a1:Int):Tree :=
 .loop KI Fy [VS a0,VI a1,VI 0] [] (fun y2 q2=>NS (y2.hA)<|NI (y2.tail.hA)<|NI (y2.tail.tail.hA)<|.test (decide (((y2.tail.tail.hA).toInt)>(0:Int))) (.ak (0<=(0:Int)/\(0:Int)<=((y2.tail.tail.hA).toInt)/\((y2.tail.tail.hA).toInt)<=(ac ((y2.hA).ah):Int))<|.ak (0<=((y2.tail.tail.hA).toInt)/\((y2.tail.tail.hA).toInt)<=(ac ((y2.hA).ah):Int)/\(ac ((y2.hA).ah):Int)<=(ac ((y2.hA).ah):Int))<|.done 0 [.cA [.ptr [VS (cd ((y2.hA).ah) (bA 0) (bA ((y2.tail.tail.hA).toInt))),.v (.slice none 0 0)],VS (cd ((y2.hA).ah) (bA ((y2.tail.tail.hA).toInt)) (bA (ac ((y2.hA).ah):Int)))]] []) (.test (af ((y2.hA).ah)==af (mk [])) (.done 0 [.cA [.v (.pointer none),VS ((y2.hA).ah)]] []) (.ak (0<=(0:Int)/\(0:Int)<ac ((y2.hA).ah))<|.test ((bt ((y2.hA).ah) 0) != (40:Int)) (.done 0 [.cA [.v (.pointer none),VS ((y2.hA).ah)]] []) (.test (((y2.tail.hA).toInt)==(300:Int)) (.done 0 [.cA [.v (.pointer none),VS ((y2.hA).ah)]] []) (.ak (0<=(1:Int)/\(1:Int)<=(ac ((y2.hA).ah):Int)/\(ac ((y2.hA).ah):Int)<=(ac ((y2.hA).ah):Int))<|.loop H4 Ei [VS ((y2.hA).ah),VI ((y2.tail.hA).toInt),VS (cd ((y2.hA).ah) (bA 1) (bA (ac ((y2.hA).ah):Int)))] [.cells [VS (mk []),.any],.vec 1 []] (fun y5 q5=>.fail) (fun y5 q5=>NP (y5.hA)<|NS (y5.tail.hA)<|.done 0 [.cA [(y5.hA),VS ((y5.tail.hA).ah)]] [])))))) (fun y2 q2=>.done 0 [.cA [.any,.any]] [])
theorem JT(a0:ByteArray)(a1:Int)(h:dk 84 (GP a0 a1) R):an Tryz.prog 160 [VS a0,VI a1] [] R :=
 uQ (ag (az _) (ag (az _) aB)) (oQ Es Tryz.f160 h)
def EM(x0:ByteArray)(x1:Int)(x6:Int):Tree :=
 NS (VS x0)<|NI (VI x1)<|NI (VI x6)<|.test (decide (x6<(ac x0:Int))) (.ak (0<=x6/\x6<ac x0)<|.call 183 [.v (.int .u8 (bt x0 x6))] [] fun r1 o1=>NB r1<|.test r1.toBool (.done 0 [VS x0,VI x1,VI (IntKind.wrap .i64 (x6+1))] []) (.done 1 [VS x0,VI x1,VI x6] [])) (.done 1 [VS x0,VI x1,VI x6] [])
abbrev EI:=cF Tryz.prog 84 KI Fy
theorem Lc(x0:ByteArray)(x1:Int)(x6:Int)(h:lJ 84 (EM x0 x1 x6) EI U):EI [VS x0,VI x1,VI x6] [] U :=
 gQ Es h
def IC(x0:ByteArray)(x1:Int)(x7:ByteArray)(o48_0:ByteArray)(o48_1:List (List AV)):Tree :=
 NS (VS x0)<|NI (VI x1)<|NS (VS x7)<|.ak (Ob.cells [VS o48_0,.any]=.cells [VS o48_0,.any])<|.ak (ae [.lk .str,.vec 1] [VS o48_0,.any] 0 [.vec 1 o48_1])<|.call 160 [VS x7,VI (IntKind.wrap .i64 (x1+1))] [] fun r1 o1=>NT r1<|NP (r1.comp 0)<|NS (r1.comp 1)<|NP (r1.comp 0)<|.test ((r1.comp 0).isNil) (.done 2 [.v (.pointer none),VS x0] []) (.test (af ((r1.comp 1).ah)==af (mk [])) (.done 2 [.v (.pointer none),VS x0] []) (.ak (cV 1 [[(r1.comp 0)]]/\((o48_1.length)+([[(r1.comp 0)]]:List (List AV)).length)*8<=140737488355328)<|.ak (0<=(1:Int)/\(1:Int)<=(ac ((r1.comp 1).ah):Int)/\(ac ((r1.comp 1).ah):Int)<=(ac ((r1.comp 1).ah):Int))<|.ak (0<=(0:Int)/\(0:Int)<ac ((r1.comp 1).ah))<|.test ((bt ((r1.comp 1).ah) 0)==(41:Int)) (.done 2 [.ptr [VS o48_0,.sl (o48_1++([[(r1.comp 0)]]:List (List AV)))],VS (cd ((r1.comp 1).ah) (bA 1) (bA (ac ((r1.comp 1).ah):Int)))] []) (.ak (0<=(0:Int)/\(0:Int)<ac ((r1.comp 1).ah))<|.test ((bt ((r1.comp 1).ah) 0) != (32:Int)) (.done 2 [.v (.pointer none),VS x0] []) (.done 0 [VS x0,VI x1,VS (cd ((r1.comp 1).ah) (bA 1) (bA (ac ((r1.comp 1).ah):Int)))] [.cells [VS o48_0,.any],.vec 1 (o48_1++([[(r1.comp 0)]]:List (List AV)))]))))
abbrev Gj:=cF Tryz.prog 84 H4 Ei
theorem Na(x0:ByteArray)(x1:Int)(x7:ByteArray)(o48_0:ByteArray)(o48_1:List (List AV))(h:lJ 84 (IC x0 x1 x7 o48_0 o48_1) Gj U):Gj [VS x0,VI x1,VS x7] [.cells [VS o48_0,.any],.vec 1 o48_1] U :=
 gQ Es h
def KL(a0:ByteArray):Tree :=
 .test (decide ((ac a0:Int)<(2:Int))) (.done 0 [VB false] []) (.test (decide ((ac a0:Int)>(3:Int))) (.done 0 [VB false] []) (.ak (0<=(0:Int)/\(0:Int)<ac a0)<|.test ((bt a0 0) != (101:Int)) (.done 0 [VB false] []) (.ak (0<=(1:Int)/\(1:Int)<=(ac a0:Int)/\(ac a0:Int)<=(ac a0:Int))<|.call 184 [VS (cd a0 (bA 1) (bA (ac a0:Int))),VS (mk [48,49,50,51,52,53,54,55,56,57])] [] fun r1 o1=>NS r1<|.test (!(af r1.ah==af (mk []))) (.done 0 [VB false] []) (.test ((ac a0:Int)==(2:Int)) (.done 0 [VB true] []) (.ak (0<=(1:Int)/\(1:Int)<ac a0)<|.done 0 [VB ((bt a0 1) != (48:Int))] [])))))
theorem Ni(a0:ByteArray)(h:dk 30 (KL a0) R):an Tryz.prog 161 [VS a0] [] R :=
 uQ (ag (az _) aB) (oQ [] Tryz.f161 h)
def AZ(a0:AV)(a1:ByteArray)(a2:Int):Tree :=
 NZ a0<|NZ a0<|nl (a0.deref.drop 1)<|NL ((a0.deref.drop 1).hA)<|.test (((((a0.deref.drop 1).hA).aN).length:Int)==a2) (NZ a0<|NZ a0<|nl (a0.deref.drop 1)<|NG ((a0.deref.drop 1).hA) 0 1<|dX (((a0.deref.drop 1).hA).ix (0:Int))<|NZ ((((a0.deref.drop 1).hA).ix (0:Int)).hA)<|NZ ((((a0.deref.drop 1).hA).ix (0:Int)).hA)<|.ak (LK.has .str (((((a0.deref.drop 1).hA).ix (0:Int)).hA).deref.hA)/\1<=(((((a0.deref.drop 1).hA).ix (0:Int)).hA).deref).length)<|.done 0 [VB (af ((((((a0.deref.drop 1).hA).ix (0:Int)).hA).deref.hA).ah)==af a1)] []) (.done 0 [VB false] [])
theorem HD(a0:AV)(a1:ByteArray)(a2:Int)(ha0:LK.has .ptr a0)(h:dk 27 (AZ a0 a1 a2) R):an Tryz.prog 162 [a0,VS a1,VI a2] [] R :=
 uQ (ag (bp ha0) (ag (az _) (ag (az _) aB))) (oQ [] Tryz.f162 h)
def wt(a0_0:ByteArray)(a0_1:AV):Tree :=
 .test (!(af a0_0==af (mk []))) (.test (af a0_0==af (mk [48])) (.done 0 [VB true] []) (.test (af a0_0==af (mk [49])) (.done 0 [VB true] []) (.call 155 [VS a0_0] [] fun r1 o1=>NB r1<|.test r1.toBool (.done 0 [VB true] []) (.call 138 [VS a0_0] [] fun r2 o2=>NB r2<|.done 0 [VB r2.toBool] [])))) (NL a0_1<|.test ((a0_1.aN.length:Int) != (3:Int)) (.done 0 [VB false] []) (.call 121 [.agg [VS a0_0,a0_1]] [] fun r3 o3=>NS r3<|.test (af r3.ah==af (mk [43])) (NG a0_1 1 2<|NE (a0_1.ix (1:Int))<|.call 165 [.agg [VS (((a0_1.ix (1:Int)).getD 0 .any).ah),((a0_1.ix (1:Int)).getD 1 .any)]] [] fun r4 o4=>NB r4<|.test r4.toBool (NG a0_1 2 2<|NE (a0_1.ix (2:Int))<|.call 165 [.agg [VS (((a0_1.ix (2:Int)).getD 0 .any).ah),((a0_1.ix (2:Int)).getD 1 .any)]] [] fun r5 o5=>NB r5<|.done 0 [VB r5.toBool] []) (.done 0 [VB false] [])) (.test (af r3.ah==af (mk [42])) (NG a0_1 1 2<|NE (a0_1.ix (1:Int))<|.call 165 [.agg [VS (((a0_1.ix (1:Int)).getD 0 .any).ah),((a0_1.ix (1:Int)).getD 1 .any)]] [] fun r6 o6=>NB r6<|.test r6.toBool (NG a0_1 2 2<|NE (a0_1.ix (2:Int))<|.call 165 [.agg [VS (((a0_1.ix (2:Int)).getD 0 .any).ah),((a0_1.ix (2:Int)).getD 1 .any)]] [] fun r7 o7=>NB r7<|.done 0 [VB r7.toBool] []) (.done 0 [VB false] [])) (.test (af r3.ah==af (mk [114,101,99])) (NG a0_1 1 2<|lQ (a0_1.ix (1:Int))<|.call 138 [VS (((a0_1.ix (1:Int)).hA).ah)] [] fun r8 o8=>NB r8<|.test r8.toBool (NG a0_1 2 2<|NE (a0_1.ix (2:Int))<|.call 165 [.agg [VS (((a0_1.ix (2:Int)).getD 0 .any).ah),((a0_1.ix (2:Int)).getD 1 .any)]] [] fun r9 o9=>NB r9<|.done 0 [VB r9.toBool] []) (.done 0 [VB false] [])) (.done 0 [VB false] [])))))
theorem HA(a0_0:ByteArray)(a0_1:AV)(ha0_1:LK.has .sl a0_1)(h:dk 60 (wt a0_0 a0_1) R):an Tryz.prog 165 [.agg [VS a0_0,a0_1]] [] R :=
 uQ (ag (bY (ag (az _) (ag (bQ ha0_1) aB))) aB) (oQ [] Tryz.f165 h)
def An(a0_0:ByteArray)(a0_1:AV)(a1:ByteArray):Tree :=
 .test (!(af a0_0==af (mk []))) (.test (af a0_0==af a1) (.done 0 [.cA [.agg [VS (mk [49]),.v (.slice none 0 0)],VB true]] []) (.done 0 [.cA [.agg [VS (mk [48]),.v (.slice none 0 0)],VB true]] [])) (.call 121 [.agg [VS a0_0,a0_1]] [] fun r1 o1=>NS r1<|.test (af r1.ah==af (mk [114,101,99])) (.call 190 [.agg [VS a0_0,a0_1],VS a1] [] fun r2 o2=>NT r2<|.ak ((r2.comp 0)=.agg (r2.comp 0).cs/\(r2.comp 0).cs.length=2/\bw [.str,.sl] ((r2.comp 0).cs) 0)<|NB (r2.comp 1)<|.done 0 [.cA [.agg [VS (((r2.comp 0).cs.getD 0 .any).ah),((r2.comp 0).cs.getD 1 .any)],VB ((r2.comp 1).toBool)]] []) (NG a0_1 1 2<|NE (a0_1.ix (1:Int))<|.call 166 [.agg [VS (((a0_1.ix (1:Int)).getD 0 .any).ah),((a0_1.ix (1:Int)).getD 1 .any)],VS a1] [] fun r3 o3=>NT r3<|.ak ((r3.comp 0)=.agg (r3.comp 0).cs/\(r3.comp 0).cs.length=2/\bw [.str,.sl] ((r3.comp 0).cs) 0)<|NB (r3.comp 1)<|NG a0_1 2 2<|NE (a0_1.ix (2:Int))<|.call 166 [.agg [VS (((a0_1.ix (2:Int)).getD 0 .any).ah),((a0_1.ix (2:Int)).getD 1 .any)],VS a1] [] fun r4 o4=>NT r4<|.ak ((r4.comp 0)=.agg (r4.comp 0).cs/\(r4.comp 0).cs.length=2/\bw [.str,.sl] ((r4.comp 0).cs) 0)<|NB (r4.comp 1)<|.call 98 [VS (mk [43]),.sl [[VS (((r3.comp 0).cs.getD 0 .any).ah),((r3.comp 0).cs.getD 1 .any)],[VS (((r4.comp 0).cs.getD 0 .any).ah),((r4.comp 0).cs.getD 1 .any)]]] [] fun r5 o5=>NA r5<|.call 121 [.agg [VS a0_0,a0_1]] [] fun r6 o6=>NS r6<|.test (af r6.ah==af (mk [42])) (NG a0_1 2 2<|NE (a0_1.ix (2:Int))<|.call 98 [VS (mk [42]),.sl [[VS (((r3.comp 0).cs.getD 0 .any).ah),((r3.comp 0).cs.getD 1 .any)],[VS (((a0_1.ix (2:Int)).getD 0 .any).ah),((a0_1.ix (2:Int)).getD 1 .any)]]] [] fun r7 o7=>NA r7<|NG a0_1 1 2<|NE (a0_1.ix (1:Int))<|.call 98 [VS (mk [42]),.sl [[VS (((a0_1.ix (1:Int)).getD 0 .any).ah),((a0_1.ix (1:Int)).getD 1 .any)],[VS (((r4.comp 0).cs.getD 0 .any).ah),((r4.comp 0).cs.getD 1 .any)]]] [] fun r8 o8=>NA r8<|.call 98 [VS (mk [43]),.sl [[VS ((r7.cs.getD 0 .any).ah),(r7.cs.getD 1 .any)],[VS ((r8.cs.getD 0 .any).ah),(r8.cs.getD 1 .any)]]] [] fun r9 o9=>NA r9<|.test ((r3.comp 1).toBool) (.test ((r4.comp 1).toBool) (.call 140 [.agg [VS ((r9.cs.getD 0 .any).ah),(r9.cs.getD 1 .any)]] [] fun r10 o10=>NI r10<|.done 0 [.cA [.agg [VS ((r9.cs.getD 0 .any).ah),(r9.cs.getD 1 .any)],VB (decide (r10.toInt<=(400:Int)))]] []) (.done 0 [.cA [.agg [VS ((r9.cs.getD 0 .any).ah),(r9.cs.getD 1 .any)],VB false]] [])) (.done 0 [.cA [.agg [VS ((r9.cs.getD 0 .any).ah),(r9.cs.getD 1 .any)],VB false]] [])) (.test ((r3.comp 1).toBool) (.test ((r4.comp 1).toBool) (.call 140 [.agg [VS ((r5.cs.getD 0 .any).ah),(r5.cs.getD 1 .any)]] [] fun r11 o11=>NI r11<|.done 0 [.cA [.agg [VS ((r5.cs.getD 0 .any).ah),(r5.cs.getD 1 .any)],VB (decide (r11.toInt<=(400:Int)))]] []) (.done 0 [.cA [.agg [VS ((r5.cs.getD 0 .any).ah),(r5.cs.getD 1 .any)],VB false]] [])) (.done 0 [.cA [.agg [VS ((r5.cs.getD 0 .any).ah),(r5.cs.getD 1 .any)],VB false]] []))))
theorem CI(a0_0:ByteArray)(a0_1:AV)(a1:ByteArray)(ha0_1:LK.has .sl a0_1)(h:dk 79 (An a0_0 a0_1 a1) R):an Tryz.prog 166 [.agg [VS a0_0,a0_1],VS a1] [] R :=
 uQ (ag (bY (ag (az _) (ag (bQ ha0_1) aB))) (ag (az _) aB)) (oQ [] Tryz.f166 h)
def Jh(a0_0:ByteArray)(a0_1:AV)(a1:ByteArray)(a2_0:ByteArray)(a2_1:AV):Tree :=
 .call 171 [.agg [VS a0_0,a0_1],VS a1,.agg [VS a2_0,a2_1]] [] fun r1 o1=>NB r1<|.test (!r1.toBool) (.done 0 [.cA [.agg [VS a0_0,a0_1],VB false]] []) (.call 172 [.agg [VS a0_0,a0_1],VS a1,.agg [VS a2_0,a2_1]] [] fun r2 o2=>NA r2<|.done 0 [.cA [.agg [VS ((r2.cs.getD 0 .any).ah),(r2.cs.getD 1 .any)],VB true]] [])
theorem N1(a0_0:ByteArray)(a0_1:AV)(a1:ByteArray)(a2_0:ByteArray)(a2_1:AV)(ha0_1:LK.has .sl a0_1)(ha2_1:LK.has .sl a2_1)(h:dk 18 (Jh a0_0 a0_1 a1 a2_0 a2_1) R):an Tryz.prog 167 [.agg [VS a0_0,a0_1],VS a1,.agg [VS a2_0,a2_1]] [] R :=
 uQ (ag (bY (ag (az _) (ag (bQ ha0_1) aB))) (ag (az _) (ag (bY (ag (az _) (ag (bQ ha2_1) aB))) aB))) (oQ [] Tryz.f167 h)
def HM(a0:ByteArray):Tree :=
 .call 132 [VS a0] [] fun r1 o1=>NT r1<|.ak ((r1.comp 0)=.agg (r1.comp 0).cs/\(r1.comp 0).cs.length=2/\bw [.str,.sl] ((r1.comp 0).cs) 0)<|NB (r1.comp 1)<|.done 0 [VB ((r1.comp 1).toBool)] []
theorem Qh(a0:ByteArray)(h:dk 11 (HM a0) R):an Tryz.prog 168 [VS a0] [] R :=
 uQ (ag (az _) aB) (oQ [] Tryz.f168 h)
def D5:LI:={hd:={ca:=[(0,.k .sl),(1,.k .str),(5,.k (.int .i64))]},xs:={},rt:={ca:=[(4,.k .bool)]},ex:=0}
def Ko:Code:=cW (cN Tryz.f169) 2
def KE:List (Nat×LI):=[(2,D5)]
def JQ(a0:AV)(a1:ByteArray):Tree :=
 .loop Ko D5 [a0,VS a1,VI 0] [] (fun y1 q1=>.done 0 [VB false] []) (fun y1 q1=>NB (y1.hA)<|.done 0 [VB ((y1.hA).toBool)] [])
theorem OR(a0:AV)(a1:ByteArray)(ha0:LK.has .sl a0)(h:dk 18 (JQ a0 a1) R):an Tryz.prog 169 [a0,VS a1] [] R :=
 uQ (ag (bQ ha0) (ag (az _) aB)) (oQ KE Tryz.f169 h)
def GO(x0:AV)(x1:ByteArray)(x5:Int):Tree :=
 NL x0<|NS (VS x1)<|NI (VI x5)<|NL x0<|.test (decide (x5<(x0.aN.length:Int))) (NG x0 x5 1<|lQ (x0.ix x5)<|.test (af (((x0.ix x5).hA).ah)==af x1) (.done 2 [VB true] []) (.done 0 [x0,VS x1,VI (IntKind.wrap .i64 (x5+1))] [])) (.done 1 [] [])
abbrev Gz:=cF Tryz.prog 18 Ko D5
theorem JO(x0:AV)(x1:ByteArray)(x5:Int)(h:lJ 18 (GO x0 x1 x5) Gz U):Gz [x0,VS x1,VI x5] [] U :=
 gQ KE h
def EF:LI:={hd:={ca:=[(0,.k .str),(7,.k (.int .i64))]},xs:={},rt:={ca:=[(6,.k .bool)]},ex:=0}
def IE:Code:=cW (cN Tryz.f170) 4
def Im:List (Nat×LI):=[(4,EF)]
def KN(a0:ByteArray)(a1:Int)(a2:Int):Tree :=
 .call 56 [VI (ac a0:Int),VI 1,VI 3] [] fun r1 o1=>NB r1<|.test (!r1.toBool) (.done 0 [VB false] []) (.ak (0<=(0:Int)/\(0:Int)<ac a0)<|.test (decide ((bt a0 0)<a1)) (.done 0 [VB false] []) (.ak (0<=(0:Int)/\(0:Int)<ac a0)<|.test (decide ((bt a0 0)>a2)) (.done 0 [VB false] []) (.loop IE EF [VS a0,VI 1] [] (fun y2 q2=>.done 0 [VB true] []) (fun y2 q2=>NB (y2.hA)<|.done 0 [VB ((y2.hA).toBool)] []))))
theorem O3(a0:ByteArray)(a1:Int)(a2:Int)(h:dk 40 (KN a0 a1 a2) R):an Tryz.prog 170 [VS a0,.v (.int .u8 a1),.v (.int .u8 a2)] [] R :=
 uQ (ag (az _) (ag (az _) (ag (az _) aB))) (oQ Im Tryz.f170 h)
def Fl(x0:ByteArray)(x7:Int):Tree :=
 NS (VS x0)<|NI (VI x7)<|.test (decide (x7<(ac x0:Int))) (.ak (0<=x7/\x7<ac x0)<|.test (decide ((bt x0 x7)<(48:Int))) (.done 2 [VB false] []) (.ak (0<=x7/\x7<ac x0)<|.test (decide ((bt x0 x7)>(57:Int))) (.done 2 [VB false] []) (.done 0 [VS x0,VI (IntKind.wrap .i64 (x7+1))] []))) (.done 1 [] [])
abbrev Fg:=cF Tryz.prog 40 IE EF
theorem Hq(x0:ByteArray)(x7:Int)(h:lJ 40 (Fl x0 x7) Fg U):Fg [VS x0,VI x7] [] U :=
 gQ Im h
def Jw(a0_0:ByteArray)(a0_1:AV)(a1:ByteArray)(a2_0:ByteArray)(a2_1:AV):Tree :=
 .call 140 [.agg [VS a0_0,a0_1]] [] fun r1 o1=>NI r1<|.call 191 [.agg [VS a0_0,a0_1],VS a1] [] fun r2 o2=>NI r2<|.call 140 [.agg [VS a2_0,a2_1]] [] fun r3 o3=>NI r3<|.done 0 [VB (decide ((IntKind.wrap .i64 (r1.toInt+(IntKind.wrap .i64 (r2.toInt*(IntKind.wrap .i64 (r3.toInt-1))))))<=(400:Int)))] []
theorem OD(a0_0:ByteArray)(a0_1:AV)(a1:ByteArray)(a2_0:ByteArray)(a2_1:AV)(ha0_1:LK.has .sl a0_1)(ha2_1:LK.has .sl a2_1)(h:dk 18 (Jw a0_0 a0_1 a1 a2_0 a2_1) R):an Tryz.prog 171 [.agg [VS a0_0,a0_1],VS a1,.agg [VS a2_0,a2_1]] [] R :=
 uQ (ag (bY (ag (az _) (ag (bQ ha0_1) aB))) (ag (az _) (ag (bY (ag (az _) (ag (bQ ha2_1) aB))) aB))) (oQ [] Tryz.f171 h)
def Ka(a0_0:ByteArray)(a0_1:AV)(a1:ByteArray)(a2_0:ByteArray)(a2_1:AV):Tree :=
 .call 106 [.agg [VS a0_0,a0_1],.sl [[VS a2_0,a2_1],[VS a1,.v (.slice none 0 0)]]] [] fun r1 o1=>NA r1<|.call 192 [.agg [VS ((r1.cs.getD 0 .any).ah),(r1.cs.getD 1 .any)],VS a1,.agg [VS a2_0,a2_1]] [] fun r2 o2=>NA r2<|.done 0 [.agg [VS ((r2.cs.getD 0 .any).ah),(r2.cs.getD 1 .any)]] []
theorem Qp(a0_0:ByteArray)(a0_1:AV)(a1:ByteArray)(a2_0:ByteArray)(a2_1:AV)(ha0_1:LK.has .sl a0_1)(ha2_1:LK.has .sl a2_1)(h:dk 16 (Ka a0_0 a0_1 a1 a2_0 a2_1) R):an Tryz.prog 172 [.agg [VS a0_0,a0_1],VS a1,.agg [VS a2_0,a2_1]] [] R :=
 uQ (ag (bY (ag (az _) (ag (bQ ha0_1) aB))) (ag (az _) (ag (bY (ag (az _) (ag (bQ ha2_1) aB))) aB))) (oQ [] Tryz.f172 h)
def Is(a0:ByteArray):Tree :=
 .call 182 [VS a0,VS (mk [120,121,122])] [] fun r1 o1=>NB r1<|.done 0 [VB r1.toBool] []
theorem OH(a0:ByteArray)(h:dk 5 (Is a0) R):an Tryz.prog 173 [VS a0] [] R :=
 uQ (ag (az _) aB) (oQ [] Tryz.f173 h)
def Kc(a0:Int)(a1:AV)(a2:AV):Tree :=
 .done 0 [.ptr [.v (.int .u8 a0),VS (mk []),VI 0,a1,a2]] []
theorem N3(a0:Int)(a1:AV)(a2:AV)(ha1:LK.has .ptr a1)(ha2:LK.has .ptr a2)(h:dk 12 (Kc a0 a1 a2) R):an Tryz.prog 175 [.v (.int .u8 a0),a1,a2] [] R :=
 uQ (ag (az _) (ag (bp ha1) (ag (bp ha2) aB))) (oQ [] Tryz.f175 h)
def ES:LI:={hd:={ca:=[(0,.k .ptr),(1,.k .sl),(9,.k .str)],refs:=[(3,0),(4,1)],cq:=[(0,[.lk .sl]),(1,[.lk (.int .i64)])],vo:=[(2,176,[none,some 0,some 1])]},xs:={ca:=[(0,.k .ptr),(1,.k .sl),(9,.k .str)],cq:=[(0,[.lk .sl]),(1,[.lk (.int .i64)])],vo:=[(2,176,[none,some 0,some 1])]},rt:={cq:=[(0,[.lk .sl]),(1,[.lk (.int .i64)])]},ex:=1,fx:=[0,1]}
def LF:Code:=cW (cN Tryz.f176) 12
def H7:List (Nat×LI):=[(12,ES)]
def DO(a0:AV)(a1:AV)(a3_0:AV)(a4_0:Int):Tree :=
 NZ a0<|NZ a0<|.ak (LK.has (.int .u8) (a0.deref.hA)/\1<=a0.deref.length)<|.test (((a0.deref.hA).toInt)==(110:Int)) (NZ a0<|NZ a0<|lQ (a0.deref.drop 1)<|.done 0 [VS (((a0.deref.drop 1).hA).ah)] [.cells [a3_0],.cells [VI a4_0]]) (.test (((a0.deref.hA).toInt)==(98:Int)) (NL a1<|NZ a0<|NZ a0<|.ak (LK.has (.int .i64) ((a0.deref.drop 2).hA)/\1<=(a0.deref.drop 2).length)<|.ak (LK.has .sl a1/\0<=(IntKind.wrap .i64 ((IntKind.wrap .i64 ((a1.aN.length:Int)-1))-(((a0.deref.drop 2).hA).toInt)))/\(IntKind.wrap .i64 ((IntKind.wrap .i64 ((a1.aN.length:Int)-1))-(((a0.deref.drop 2).hA).toInt)))<a1.aN.length/\(a1.ix (IntKind.wrap .i64 ((IntKind.wrap .i64 ((a1.aN.length:Int)-1))-(((a0.deref.drop 2).hA).toInt)))).length=1)<|lQ (a1.ix (IntKind.wrap .i64 ((IntKind.wrap .i64 ((a1.aN.length:Int)-1))-(((a0.deref.drop 2).hA).toInt))))<|.done 0 [VS (((a1.ix (IntKind.wrap .i64 ((IntKind.wrap .i64 ((a1.aN.length:Int)-1))-(((a0.deref.drop 2).hA).toInt)))).hA).ah)] [.cells [a3_0],.cells [VI a4_0]]) (.test (((a0.deref.hA).toInt)==(43:Int)) (NZ a0<|NZ a0<|dX (a0.deref.drop 3)<|.call 176 [((a0.deref.drop 3).hA),a1,.gv 176 [none,some 0,some 1],.ref 0 0,.ref 1 0] [.cells [a3_0],.cells [VI a4_0]] fun r1 o1=>.ak ((o1.hO)=.cells (o1.hO).cs)<|.ak (aL [.lk .sl] ((o1.hO).cs) 0 1 o1.tail)<|.ak ((o1.tail.hO)=.cells (o1.tail.hO).cs)<|.ak (aL [.lk (.int .i64)] ((o1.tail.hO).cs) 0 2 o1.tail.tail)<|NS r1<|NZ a0<|NZ a0<|.ak (LK.has (.int .u8) (a0.deref.hA)/\1<=a0.deref.length)<|.ak (jd [[.v (.int .u8 ((a0.deref.hA).toInt))]])<|.ak (ac (mk [40])+ac (⟨(bytesOf [[.v (.int .u8 ((a0.deref.hA).toInt))]]).toArray⟩)<=9223372036854775807)<|.ak (ac (((mk [40]):ByteArray)++(⟨(bytesOf [[.v (.int .u8 ((a0.deref.hA).toInt))]]).toArray⟩))+ac (mk [32])<=9223372036854775807)<|.ak (ac (((((mk [40]):ByteArray)++(⟨(bytesOf [[.v (.int .u8 ((a0.deref.hA).toInt))]]).toArray⟩)):ByteArray)++(mk [32]))+ac r1.ah<=9223372036854775807)<|.ak (ac (((((((mk [40]):ByteArray)++(⟨(bytesOf [[.v (.int .u8 ((a0.deref.hA).toInt))]]).toArray⟩)):ByteArray)++(mk [32])):ByteArray)++r1.ah)+ac (mk [32])<=9223372036854775807)<|NZ a0<|NZ a0<|dX (a0.deref.drop 4)<|.call 176 [((a0.deref.drop 4).hA),a1,.gv 176 [none,some 0,some 1],.ref 0 0,.ref 1 0] [.cells [((o1.hO).cs.getD 0 .any)],.cells [VI (((o1.tail.hO).cs.getD 0 .any).toInt)]] fun r2 o2=>.ak ((o2.hO)=.cells (o2.hO).cs)<|.ak (aL [.lk .sl] ((o2.hO).cs) 0 1 o2.tail)<|.ak ((o2.tail.hO)=.cells (o2.tail.hO).cs)<|.ak (aL [.lk (.int .i64)] ((o2.tail.hO).cs) 0 2 o2.tail.tail)<|NS r2<|.ak (ac (((((((((mk [40]):ByteArray)++(⟨(bytesOf [[.v (.int .u8 ((a0.deref.hA).toInt))]]).toArray⟩)):ByteArray)++(mk [32])):ByteArray)++r1.ah):ByteArray)++(mk [32]))+ac r2.ah<=9223372036854775807)<|.ak (ac (((((((((((mk [40]):ByteArray)++(⟨(bytesOf [[.v (.int .u8 ((a0.deref.hA).toInt))]]).toArray⟩)):ByteArray)++(mk [32])):ByteArray)++r1.ah):ByteArray)++(mk [32])):ByteArray)++r2.ah)+ac (mk [41])<=9223372036854775807)<|.done 0 [VS (((((((((((((mk [40]):ByteArray)++(⟨(bytesOf [[.v (.int .u8 ((a0.deref.hA).toInt))]]).toArray⟩)):ByteArray)++(mk [32])):ByteArray)++r1.ah):ByteArray)++(mk [32])):ByteArray)++r2.ah):ByteArray)++(mk [41]))] [.cells [((o2.hO).cs.getD 0 .any)],.cells [VI (((o2.tail.hO).cs.getD 0 .any).toInt)]]) (.test (((a0.deref.hA).toInt)==(42:Int)) (NZ a0<|NZ a0<|dX (a0.deref.drop 3)<|.call 176 [((a0.deref.drop 3).hA),a1,.gv 176 [none,some 0,some 1],.ref 0 0,.ref 1 0] [.cells [a3_0],.cells [VI a4_0]] fun r3 o3=>.ak ((o3.hO)=.cells (o3.hO).cs)<|.ak (aL [.lk .sl] ((o3.hO).cs) 0 1 o3.tail)<|.ak ((o3.tail.hO)=.cells (o3.tail.hO).cs)<|.ak (aL [.lk (.int .i64)] ((o3.tail.hO).cs) 0 2 o3.tail.tail)<|NS r3<|NZ a0<|NZ a0<|.ak (LK.has (.int .u8) (a0.deref.hA)/\1<=a0.deref.length)<|.ak (jd [[.v (.int .u8 ((a0.deref.hA).toInt))]])<|.ak (ac (mk [40])+ac (⟨(bytesOf [[.v (.int .u8 ((a0.deref.hA).toInt))]]).toArray⟩)<=9223372036854775807)<|.ak (ac (((mk [40]):ByteArray)++(⟨(bytesOf [[.v (.int .u8 ((a0.deref.hA).toInt))]]).toArray⟩))+ac (mk [32])<=9223372036854775807)<|.ak (ac (((((mk [40]):ByteArray)++(⟨(bytesOf [[.v (.int .u8 ((a0.deref.hA).toInt))]]).toArray⟩)):ByteArray)++(mk [32]))+ac r3.ah<=9223372036854775807)<|.ak (ac (((((((mk [40]):ByteArray)++(⟨(bytesOf [[.v (.int .u8 ((a0.deref.hA).toInt))]]).toArray⟩)):ByteArray)++(mk [32])):ByteArray)++r3.ah)+ac (mk [32])<=9223372036854775807)<|NZ a0<|NZ a0<|dX (a0.deref.drop 4)<|.call 176 [((a0.deref.drop 4).hA),a1,.gv 176 [none,some 0,some 1],.ref 0 0,.ref 1 0] [.cells [((o3.hO).cs.getD 0 .any)],.cells [VI (((o3.tail.hO).cs.getD 0 .any).toInt)]] fun r4 o4=>.ak ((o4.hO)=.cells (o4.hO).cs)<|.ak (aL [.lk .sl] ((o4.hO).cs) 0 1 o4.tail)<|.ak ((o4.tail.hO)=.cells (o4.tail.hO).cs)<|.ak (aL [.lk (.int .i64)] ((o4.tail.hO).cs) 0 2 o4.tail.tail)<|NS r4<|.ak (ac (((((((((mk [40]):ByteArray)++(⟨(bytesOf [[.v (.int .u8 ((a0.deref.hA).toInt))]]).toArray⟩)):ByteArray)++(mk [32])):ByteArray)++r3.ah):ByteArray)++(mk [32]))+ac r4.ah<=9223372036854775807)<|.ak (ac (((((((((((mk [40]):ByteArray)++(⟨(bytesOf [[.v (.int .u8 ((a0.deref.hA).toInt))]]).toArray⟩)):ByteArray)++(mk [32])):ByteArray)++r3.ah):ByteArray)++(mk [32])):ByteArray)++r4.ah)+ac (mk [41])<=9223372036854775807)<|.done 0 [VS (((((((((((((mk [40]):ByteArray)++(⟨(bytesOf [[.v (.int .u8 ((a0.deref.hA).toInt))]]).toArray⟩)):ByteArray)++(mk [32])):ByteArray)++r3.ah):ByteArray)++(mk [32])):ByteArray)++r4.ah):ByteArray)++(mk [41]))] [.cells [((o4.hO).cs.getD 0 .any)],.cells [VI (((o4.tail.hO).cs.getD 0 .any).toInt)]]) (.test (((a0.deref.hA).toInt)==(114:Int)) (.loop LF ES [a0,a1,VS (mk [])] [.cells [a3_0],.cells [VI a4_0]] (fun y8 q8=>NP (y8.hA)<|NL (y8.tail.hA)<|NS (y8.tail.tail.hA)<|.ak ((q8.hO)=.cells (q8.hO).cs)<|.ak (ae [.lk .sl] ((q8.hO).cs) 0 q8.tail)<|.ak (((q8.tail.drop 0).hO)=.cells ((q8.tail.drop 0).hO).cs)<|.ak (ae [.lk (.int .i64)] (((q8.tail.drop 0).hO).cs) 0 ((q8.tail.drop 0).tail))<|.ak (ac (mk [40,114,101,99,32])+ac ((y8.tail.tail.hA).ah)<=9223372036854775807)<|.ak (ac (((mk [40,114,101,99,32]):ByteArray)++((y8.tail.tail.hA).ah))+ac (mk [32])<=9223372036854775807)<|NZ (y8.hA)<|NZ (y8.hA)<|dX ((y8.hA).deref.drop 3)<|.ak (LK.has .sl (y8.tail.hA)/\cV 1 ((y8.tail.hA).aN)/\((([]:List (List AV)).length)+((y8.tail.hA).aN).length)*16<=140737488355328)<|.ak (cV 1 [[VS ((y8.tail.tail.hA).ah)]]/\(((([]:List (List AV))++((y8.tail.hA).aN)).length)+([[VS ((y8.tail.tail.hA).ah)]]:List (List AV)).length)*16<=140737488355328)<|.call 176 [(((y8.hA).deref.drop 3).hA),.sl ((([]:List (List AV))++((y8.tail.hA).aN))++([[VS ((y8.tail.tail.hA).ah)]]:List (List AV))),.gv 176 [none,some 0,some 1],.ref 0 0,.ref 1 0] [.cells [((q8.hO).cs.getD 0 .any)],.cells [VI (((q8.tail.hO).cs.getD 0 .any).toInt)]] fun r9 o9=>.ak ((o9.hO)=.cells (o9.hO).cs)<|.ak (aL [.lk .sl] ((o9.hO).cs) 0 1 o9.tail)<|.ak ((o9.tail.hO)=.cells (o9.tail.hO).cs)<|.ak (aL [.lk (.int .i64)] ((o9.tail.hO).cs) 0 2 o9.tail.tail)<|NS r9<|.ak (ac (((((mk [40,114,101,99,32]):ByteArray)++((y8.tail.tail.hA).ah)):ByteArray)++(mk [32]))+ac r9.ah<=9223372036854775807)<|.ak (ac (((((((mk [40,114,101,99,32]):ByteArray)++((y8.tail.tail.hA).ah)):ByteArray)++(mk [32])):ByteArray)++r9.ah)+ac (mk [41])<=9223372036854775807)<|.done 0 [VS (((((((((mk [40,114,101,99,32]):ByteArray)++((y8.tail.tail.hA).ah)):ByteArray)++(mk [32])):ByteArray)++r9.ah):ByteArray)++(mk [41]))] [.cells [((o9.hO).cs.getD 0 .any)],.cells [VI (((o9.tail.hO).cs.getD 0 .any).toInt)]]) (fun y8 q8=>.ak ((q8.hO)=.cells (q8.hO).cs)<|.ak (ae [.lk .sl] ((q8.hO).cs) 0 q8.tail)<|.ak (((q8.tail.drop 0).hO)=.cells ((q8.tail.drop 0).hO).cs)<|.ak (ae [.lk (.int .i64)] (((q8.tail.drop 0).hO).cs) 0 ((q8.tail.drop 0).tail))<|.done 0 [.any] [.cells [((q8.hO).cs.getD 0 .any)],.cells [VI (((q8.tail.hO).cs.getD 0 .any).toInt)]])) (NZ a0<|NZ a0<|.ak (LK.has (.int .u8) (a0.deref.hA)/\1<=a0.deref.length)<|.ak (jd [[.v (.int .u8 ((a0.deref.hA).toInt))]])<|.done 0 [VS (⟨(bytesOf [[.v (.int .u8 ((a0.deref.hA).toInt))]]).toArray⟩)] [.cells [a3_0],.cells [VI a4_0]])))))
theorem wu(a0:AV)(a1:AV)(a3_0:AV)(a4_0:Int)(ha0:LK.has .ptr a0)(ha1:LK.has .sl a1)(ha3_0:LK.has .sl a3_0)(h:dk 100 (DO a0 a1 a3_0 a4_0) R):an Tryz.prog 176 [a0,a1,.gv 176 [none,some 0,some 1],.ref 0 0,.ref 1 0] [.cells [a3_0],.cells [VI a4_0]] R :=
 an.ni (bq (bW (ag (bQ ha3_0) aB)) (bq (bW (ag (az _) aB)) ct)) (an.up (ag (bp ha0) (ag (bQ ha1) (ag (az _) (ag (az _) (ag (az _) aB))))) (oF H7 {mu:=[(2,.ub 176 [none,some 0,some 1]),(3,.one (.obj [.lk .sl])),(4,.one (.obj [.lk (.int .i64)]))],own:=[]} Tryz.f176 h))
def Ej(x0:AV)(x1:AV)(x9:ByteArray)(o0_0:AV)(o1_0:Int):Tree :=
 NP x0<|NL x1<|NS (VS x9)<|.ak (Ob.cells [o0_0]=.cells [o0_0])<|.ak (ae [.lk .sl] [o0_0] 0 [.cells [VI o1_0]])<|.ak (Ob.cells [VI o1_0]=.cells [VI o1_0])<|.ak (ae [.lk (.int .i64)] [VI o1_0] 0 [])<|.test (af x9==af (mk [])) (.call 174 [VI o1_0] [] fun r1 o1=>NS r1<|.ak (ac (mk [116])+ac r1.ah<=9223372036854775807)<|.done 0 [x0,x1,VS (((mk [116]):ByteArray)++r1.ah)] [.cells [o0_0],.cells [VI (IntKind.wrap .i64 (o1_0+1))]]) (.call 177 [o0_0,VS x9] [] fun r2 o2=>NB r2<|.test r2.toBool (.call 174 [VI o1_0] [] fun r3 o3=>NS r3<|.ak (ac (mk [116])+ac r3.ah<=9223372036854775807)<|.done 0 [x0,x1,VS (((mk [116]):ByteArray)++r3.ah)] [.cells [o0_0],.cells [VI (IntKind.wrap .i64 (o1_0+1))]]) (.done 1 [x0,x1,VS x9] [.cells [o0_0],.cells [VI o1_0]]))
abbrev BK:=cF Tryz.prog 100 LF ES
theorem Jn(x0:AV)(x1:AV)(x9:ByteArray)(o0_0:AV)(o1_0:Int)(h:lJ 100 (Ej x0 x1 x9 o0_0 o1_0) BK U):BK [x0,x1,VS x9] [.cells [o0_0],.cells [VI o1_0]] U :=
 gQ H7 h
def H5(a0:AV)(a1:ByteArray):Tree :=
 .call 194 [a0,VS a1] [] fun r1 o1=>NI r1<|.done 0 [VB (decide (r1.toInt≥(0:Int)))] []
theorem Nd(a0:AV)(a1:ByteArray)(ha0:LK.has .sl a0)(h:dk 9 (H5 a0 a1) R):an Tryz.prog 177 [a0,VS a1] [] R :=
 uQ (ag (bQ ha0) (ag (az _) aB)) (oQ [] Tryz.f177 h)
def IZ(a0:Int):Tree :=
 .test (decide (a0≥(97:Int))) (.test (decide (a0<=(122:Int))) (.done 0 [VB true] []) (.test (decide (a0≥(48:Int))) (.test (decide (a0<=(57:Int))) (.done 0 [VB true] []) (.test (a0==(42:Int)) (.done 0 [VB true] []) (.done 0 [VB (a0==(43:Int))] []))) (.test (a0==(42:Int)) (.done 0 [VB true] []) (.done 0 [VB (a0==(43:Int))] [])))) (.test (decide (a0≥(48:Int))) (.test (decide (a0<=(57:Int))) (.done 0 [VB true] []) (.test (a0==(42:Int)) (.done 0 [VB true] []) (.done 0 [VB (a0==(43:Int))] []))) (.test (a0==(42:Int)) (.done 0 [VB true] []) (.done 0 [VB (a0==(43:Int))] [])))
theorem PP(a0:Int)(h:dk 25 (IZ a0) R):an Tryz.prog 178 [.v (.int .u8 a0)] [] R :=
 uQ (ag (az _) aB) (oQ [] Tryz.f178 h)
def ET:LI:={hd:={ca:=[(0,.k .sl),(1,.c (.func (.func 159) #[] #[])),(7,.k (.int .i64)),(8,.k (.int .i64))]},xs:={},rt:={ca:=[(4,.k (.int .i64))]},ex:=0}
def Kn:Code:=cW (cN Tryz.f179) 2
def Mo:List (Nat×LI):=[(2,ET)]
def Ms(a0:AV):Tree :=
 NL a0<|.loop Kn ET [a0,.v (.func (.func 159) #[] #[]),VI (a0.aN.length:Int),VI 0] [] (fun y2 q2=>.done 0 [VI (-1)] []) (fun y2 q2=>NI (y2.hA)<|.done 0 [VI ((y2.hA).toInt)] [])
theorem Oh(a0:AV)(ha0:LK.has .sl a0)(h:dk 19 (Ms a0) R):an Tryz.prog 179 [a0,.v (.func (.func 159) #[] #[])] [] R :=
 uQ (ag (bQ ha0) (ag (az _) aB)) (oQ Mo Tryz.f179 h)
def F0(x0:AV)(x7:Int)(x8:Int):Tree :=
 NL x0<|.ak (AV.v (.func (.func 159) #[] #[])=.v (.func (.func 159) #[] #[]))<|NI (VI x7)<|NI (VI x8)<|.test (decide (x8<x7)) (NG x0 x8 1<|lQ (x0.ix x8)<|.call 159 [VS (((x0.ix x8).hA).ah)] [] fun r1 o1=>NB r1<|.test r1.toBool (.done 2 [VI x8] []) (.done 0 [x0,.v (.func (.func 159) #[] #[]),VI x7,VI (IntKind.wrap .i64 (x8+1))] [])) (.done 1 [] [])
abbrev GQ:=cF Tryz.prog 19 Kn ET
theorem JZ(x0:AV)(x7:Int)(x8:Int)(h:lJ 19 (F0 x0 x7 x8) GQ U):GQ [x0,.v (.func (.func 159) #[] #[]),VI x7,VI x8] [] U :=
 gQ Mo h
def D0(a0:AV)(e1_0_0:List (List AV)):Tree :=
 .call 181 [a0,.ref 0 0] [.cells [.vec 1],.vec 1 e1_0_0] fun r1 o1=>.ak ((o1.hO)=.cells (o1.hO).cs)<|.ak (aL [.vec 1] ((o1.hO).cs) 0 1 o1.tail)<|NZ a0<|NZ a0<|dX (a0.deref.drop 3)<|NP ((a0.deref.drop 3).hA)<|.test (!((a0.deref.drop 3).hA).isNil) (NZ a0<|NZ a0<|dX (a0.deref.drop 3)<|.call 180 [((a0.deref.drop 3).hA),.fn 181 [.ref 0 0]] [.cells [.vec 1],.vec 1 ((o1.tail.hO).es)] fun r2 o2=>.ak ((o2.hO)=.cells (o2.hO).cs)<|.ak (aL [.vec 1] ((o2.hO).cs) 0 1 o2.tail)<|NZ a0<|NZ a0<|dX (a0.deref.drop 4)<|NP ((a0.deref.drop 4).hA)<|.test (!((a0.deref.drop 4).hA).isNil) (NZ a0<|NZ a0<|dX (a0.deref.drop 4)<|.call 180 [((a0.deref.drop 4).hA),.fn 181 [.ref 0 0]] [.cells [.vec 1],.vec 1 ((o2.tail.hO).es)] fun r3 o3=>.ak ((o3.hO)=.cells (o3.hO).cs)<|.ak (aL [.vec 1] ((o3.hO).cs) 0 1 o3.tail)<|.done 0 [.any] [.cells [.vec 1],.vec 1 ((o3.tail.hO).es)]) (.done 0 [.any] [.cells [.vec 1],.vec 1 ((o2.tail.hO).es)])) (NZ a0<|NZ a0<|dX (a0.deref.drop 4)<|NP ((a0.deref.drop 4).hA)<|.test (!((a0.deref.drop 4).hA).isNil) (NZ a0<|NZ a0<|dX (a0.deref.drop 4)<|.call 180 [((a0.deref.drop 4).hA),.fn 181 [.ref 0 0]] [.cells [.vec 1],.vec 1 ((o1.tail.hO).es)] fun r4 o4=>.ak ((o4.hO)=.cells (o4.hO).cs)<|.ak (aL [.vec 1] ((o4.hO).cs) 0 1 o4.tail)<|.done 0 [.any] [.cells [.vec 1],.vec 1 ((o4.tail.hO).es)]) (.done 0 [.any] [.cells [.vec 1],.vec 1 ((o1.tail.hO).es)]))
theorem wN(a0:AV)(e1_0_0:List (List AV))(ha0:LK.has .ptr a0)(h:dk 29 (D0 a0 e1_0_0) R):an Tryz.prog 180 [a0,.fn 181 [.ref 0 0]] [.cells [.vec 1],.vec 1 e1_0_0] R :=
 an.ni (bq (bW (ag (az _) aB)) (bq (gd _) ct)) (an.up (ag (bp ha0) (ag (az _) aB)) (oF [] {mu:=[(1,.fn [some (.obj [.vec 1])])],own:=[]} Tryz.f180 h))
def Fx(a0:AV)(e1_0:List (List AV)):Tree :=
 NZ a0<|NZ a0<|.ak (LK.has (.int .u8) (a0.deref.hA)/\1<=a0.deref.length)<|.test (((a0.deref.hA).toInt)==(110:Int)) (NZ a0<|NZ a0<|lQ (a0.deref.drop 1)<|.call 177 [.sl e1_0,VS (((a0.deref.drop 1).hA).ah)] [] fun r1 o1=>NB r1<|.test (!r1.toBool) (NZ a0<|NZ a0<|lQ (a0.deref.drop 1)<|.ak (cV 1 [[VS (((a0.deref.drop 1).hA).ah)]]/\((e1_0.length)+([[VS (((a0.deref.drop 1).hA).ah)]]:List (List AV)).length)*16<=140737488355328)<|.done 0 [.any] [.cells [.vec 1],.vec 1 (e1_0++([[VS (((a0.deref.drop 1).hA).ah)]]:List (List AV)))]) (.done 0 [.any] [.cells [.vec 1],.vec 1 e1_0])) (.done 0 [.any] [.cells [.vec 1],.vec 1 e1_0])
theorem PJ(a0:AV)(e1_0:List (List AV))(ha0:LK.has .ptr a0)(h:dk 24 (Fx a0 e1_0) R):an Tryz.prog 181 [a0,.ref 0 0] [.cells [.vec 1],.vec 1 e1_0] R :=
 an.ni (bq (bW (ag (az _) aB)) (bq (gd _) ct)) (an.up (ag (bp ha0) (ag (az _) aB)) (oF [] {mu:=[(1,.one (.obj [.vec 1]))],own:=[]} Tryz.f181 h))
def L9(a0:ByteArray)(a1:ByteArray):Tree :=
 .test (decide ((ac a0:Int)≥(1:Int))) (.test (decide ((ac a0:Int)<=(3:Int))) (.ak (0<=(0:Int)/\(0:Int)<=(1:Int)/\(1:Int)<=(ac a0:Int))<|.call 195 [VS a1,VS (cd a0 (bA 0) (bA 1))] [] fun r1 o1=>NB r1<|.test r1.toBool (.ak (0<=(1:Int)/\(1:Int)<=(ac a0:Int)/\(ac a0:Int)<=(ac a0:Int))<|.call 184 [VS (cd a0 (bA 1) (bA (ac a0:Int))),VS (mk [48,49,50,51,52,53,54,55,56,57])] [] fun r2 o2=>NS r2<|.done 0 [VB (af r2.ah==af (mk []))] []) (.done 0 [VB false] [])) (.done 0 [VB false] [])) (.done 0 [VB false] [])
theorem N8(a0:ByteArray)(a1:ByteArray)(h:dk 25 (L9 a0 a1) R):an Tryz.prog 182 [VS a0,VS a1] [] R :=
 uQ (ag (az _) (ag (az _) aB)) (oQ [] Tryz.f182 h)
def I9(a0:Int):Tree :=
 .test (decide (a0≥(97:Int))) (.test (decide (a0<=(122:Int))) (.done 0 [VB true] []) (.test (decide (a0≥(48:Int))) (.test (decide (a0<=(57:Int))) (.done 0 [VB true] []) (.test (a0==(43:Int)) (.done 0 [VB true] []) (.done 0 [VB (a0==(42:Int))] []))) (.test (a0==(43:Int)) (.done 0 [VB true] []) (.done 0 [VB (a0==(42:Int))] [])))) (.test (decide (a0≥(48:Int))) (.test (decide (a0<=(57:Int))) (.done 0 [VB true] []) (.test (a0==(43:Int)) (.done 0 [VB true] []) (.done 0 [VB (a0==(42:Int))] []))) (.test (a0==(43:Int)) (.done 0 [VB true] []) (.done 0 [VB (a0==(42:Int))] [])))
theorem OV(a0:Int)(h:dk 25 (I9 a0) R):an Tryz.prog 183 [.v (.int .u8 a0)] [] R :=
 uQ (ag (az _) aB) (oQ [] Tryz.f183 h)
def GL:LI:={hd:={ca:=[(17,.k (.int .i64))],refs:=[(4,4),(12,12),(14,14)],cq:=[(4,[.lk .str,.lk .sl]),(12,[.lk .str,.lk .sl]),(14,[.lk .str,.lk .sl])],gU:=[(16,1)]},xs:={ca:=[(17,.k (.int .i64))],refs:=[(4,4),(12,12),(14,14)],cq:=[(4,[.lk .str,.lk .sl]),(12,[.lk .str,.lk .sl]),(14,[.lk .str,.lk .sl])]},rt:={},ex:=0}
def Ki:Code:=cW (cN Tryz.f190) 13
def Je:List (Nat×LI):=[(13,GL)]
def Ib(a0_0:ByteArray)(a0_1:AV)(a1:ByteArray):Tree :=
 .call 106 [.agg [VS a0_0,a0_1],.sl [[VS a1,.v (.slice none 0 0)]]] [] fun r1 o1=>NA r1<|NG (r1.cs.getD 1 .any) 1 2<|lQ ((r1.cs.getD 1 .any).ix (1:Int))<|NG (r1.cs.getD 1 .any) 2 2<|NE ((r1.cs.getD 1 .any).ix (2:Int))<|.call 166 [.agg [VS ((((r1.cs.getD 1 .any).ix (2:Int)).getD 0 .any).ah),(((r1.cs.getD 1 .any).ix (2:Int)).getD 1 .any)],VS a1] [] fun r2 o2=>NT r2<|.ak ((r2.comp 0)=.agg (r2.comp 0).cs/\(r2.comp 0).cs.length=2/\bw [.str,.sl] ((r2.comp 0).cs) 0)<|NB (r2.comp 1)<|NG (r1.cs.getD 1 .any) 2 2<|NE ((r1.cs.getD 1 .any).ix (2:Int))<|.call 166 [.agg [VS ((((r1.cs.getD 1 .any).ix (2:Int)).getD 0 .any).ah),(((r1.cs.getD 1 .any).ix (2:Int)).getD 1 .any)],VS ((((r1.cs.getD 1 .any).ix (1:Int)).hA).ah)] [] fun r3 o3=>NT r3<|.ak ((r3.comp 0)=.agg (r3.comp 0).cs/\(r3.comp 0).cs.length=2/\bw [.str,.sl] ((r3.comp 0).cs) 0)<|NB (r3.comp 1)<|.test (!((r2.comp 1).toBool)) (.done 0 [.cA [.agg [VS ((r1.cs.getD 0 .any).ah),(r1.cs.getD 1 .any)],VB false]] []) (.test (!((r3.comp 1).toBool)) (.done 0 [.cA [.agg [VS ((r1.cs.getD 0 .any).ah),(r1.cs.getD 1 .any)],VB false]] []) (.call 167 [.agg [VS (((r2.comp 0).cs.getD 0 .any).ah),((r2.comp 0).cs.getD 1 .any)],VS ((((r1.cs.getD 1 .any).ix (1:Int)).hA).ah),.agg [VS ((r1.cs.getD 0 .any).ah),(r1.cs.getD 1 .any)]] [] fun r4 o4=>NT r4<|.ak ((r4.comp 0)=.agg (r4.comp 0).cs/\(r4.comp 0).cs.length=2/\bw [.str,.sl] ((r4.comp 0).cs) 0)<|NB (r4.comp 1)<|.call 167 [.agg [VS (((r3.comp 0).cs.getD 0 .any).ah),((r3.comp 0).cs.getD 1 .any)],VS ((((r1.cs.getD 1 .any).ix (1:Int)).hA).ah),.agg [VS ((r1.cs.getD 0 .any).ah),(r1.cs.getD 1 .any)]] [] fun r5 o5=>NT r5<|.ak ((r5.comp 0)=.agg (r5.comp 0).cs/\(r5.comp 0).cs.length=2/\bw [.str,.sl] ((r5.comp 0).cs) 0)<|NB (r5.comp 1)<|.test (!((r4.comp 1).toBool)) (.done 0 [.cA [.agg [VS ((r1.cs.getD 0 .any).ah),(r1.cs.getD 1 .any)],VB false]] []) (.test (!((r5.comp 1).toBool)) (.done 0 [.cA [.agg [VS ((r1.cs.getD 0 .any).ah),(r1.cs.getD 1 .any)],VB false]] []) (.call 137 [.agg [VS (((r5.comp 0).cs.getD 0 .any).ah),((r5.comp 0).cs.getD 1 .any)],.sl [],.vec 0] [.vec 1 []] fun r6 o6=>.ak (r6=.vec 1/\(o6.tail.hO)=.vec 1 (o6.tail.hO).es)<|.call 137 [.agg [VS (((r4.comp 0).cs.getD 0 .any).ah),((r4.comp 0).cs.getD 1 .any)],.sl [],.vec 0] [.vec 1 ((o6.tail.hO).es)] fun r7 o7=>.ak (r7=.vec 1/\(o7.tail.hO)=.vec 1 (o7.tail.hO).es)<|.loop Ki GL [VI 0] [.cells [VS (mk []),.v (.slice none 0 0)],.cells [VS (((r4.comp 0).cs.getD 0 .any).ah),((r4.comp 0).cs.getD 1 .any)],.cells [VS (((r5.comp 0).cs.getD 0 .any).ah),((r5.comp 0).cs.getD 1 .any)],.vec 1 ((o7.tail.hO).es)] (fun y10 q10=>NI (y10.hA)<|.ak ((q10.hO)=.cells (q10.hO).cs)<|.ak (ae [.lk .str,.lk .sl] ((q10.hO).cs) 0 q10.tail)<|.ak (((q10.tail.drop 0).hO)=.cells ((q10.tail.drop 0).hO).cs)<|.ak (ae [.lk .str,.lk .sl] (((q10.tail.drop 0).hO).cs) 0 ((q10.tail.drop 0).tail))<|.ak ((((q10.tail.drop 0).tail.drop 0).hO)=.cells (((q10.tail.drop 0).tail.drop 0).hO).cs)<|.ak (ae [.lk .str,.lk .sl] ((((q10.tail.drop 0).tail.drop 0).hO).cs) 0 (((q10.tail.drop 0).tail.drop 0).tail))<|.call 142 [VI ((y10.hA).toInt)] [] fun r11 o11=>NS r11<|.ak (ac (mk [116])+ac r11.ah<=9223372036854775807)<|.call 98 [VS (mk [42]),.sl [[VS (((q10.tail.tail.hO).cs.getD 0 .any).ah),((q10.tail.tail.hO).cs.getD 1 .any)],[VS (((mk [116]):ByteArray)++r11.ah),.v (.slice none 0 0)]]] [] fun r12 o12=>NA r12<|.call 98 [VS (mk [43]),.sl [[VS (((q10.tail.hO).cs.getD 0 .any).ah),((q10.tail.hO).cs.getD 1 .any)],[VS ((r12.cs.getD 0 .any).ah),(r12.cs.getD 1 .any)]]] [] fun r13 o13=>NA r13<|.call 98 [VS (mk [114,101,99]),.sl [[VS (((mk [116]):ByteArray)++r11.ah),.v (.slice none 0 0)],[VS ((r13.cs.getD 0 .any).ah),(r13.cs.getD 1 .any)]]] [] fun r14 o14=>NA r14<|.call 140 [.agg [VS ((r14.cs.getD 0 .any).ah),(r14.cs.getD 1 .any)]] [] fun r15 o15=>NI r15<|.done 0 [.cA [.agg [VS ((r14.cs.getD 0 .any).ah),(r14.cs.getD 1 .any)],VB (decide (r15.toInt<=(400:Int)))]] []) (fun y10 q10=>.fail)))))
theorem N2(a0_0:ByteArray)(a0_1:AV)(a1:ByteArray)(ha0_1:LK.has .sl a0_1)(h:dk 108 (Ib a0_0 a0_1 a1) R):an Tryz.prog 190 [.agg [VS a0_0,a0_1],VS a1] [] R :=
 uQ (ag (bY (ag (az _) (ag (bQ ha0_1) aB))) (ag (az _) aB)) (oQ Je Tryz.f190 h)
def Jx(x17:Int)(o4_0:ByteArray)(o4_1:AV)(o12_0:ByteArray)(o12_1:AV)(o14_0:ByteArray)(o14_1:AV)(e16:List (List AV)):Tree :=
 NI (VI x17)<|.ak (Ob.cells [VS o4_0,o4_1]=.cells [VS o4_0,o4_1])<|.ak (ae [.lk .str,.lk .sl] [VS o4_0,o4_1] 0 [.cells [VS o12_0,o12_1],.cells [VS o14_0,o14_1],.vec 1 e16])<|.ak (Ob.cells [VS o12_0,o12_1]=.cells [VS o12_0,o12_1])<|.ak (ae [.lk .str,.lk .sl] [VS o12_0,o12_1] 0 [.cells [VS o14_0,o14_1],.vec 1 e16])<|.ak (Ob.cells [VS o14_0,o14_1]=.cells [VS o14_0,o14_1])<|.ak (ae [.lk .str,.lk .sl] [VS o14_0,o14_1] 0 [.vec 1 e16])<|.ak (Ob.vec 1 e16=.vec 1 e16)<|.call 142 [VI x17] [] fun r1 o1=>NS r1<|.ak (ac (mk [116])+ac r1.ah<=9223372036854775807)<|.call 169 [.sl e16,VS (((mk [116]):ByteArray)++r1.ah)] [] fun r2 o2=>NB r2<|.test r2.toBool (.done 0 [VI (IntKind.wrap .i64 (x17+1))] [.cells [VS o4_0,o4_1],.cells [VS o12_0,o12_1],.cells [VS o14_0,o14_1],.vec 1 e16]) (.done 1 [VI x17] [.cells [VS o4_0,o4_1],.cells [VS o12_0,o12_1],.cells [VS o14_0,o14_1]])
abbrev GI:=cF Tryz.prog 108 Ki GL
theorem M8(x17:Int)(o4_0:ByteArray)(o4_1:AV)(o12_0:ByteArray)(o12_1:AV)(o14_0:ByteArray)(o14_1:AV)(e16:List (List AV))(h:lJ 108 (Jx x17 o4_0 o4_1 o12_0 o12_1 o14_0 o14_1 e16) GI U):GI [VI x17] [.cells [VS o4_0,o4_1],.cells [VS o12_0,o12_1],.cells [VS o14_0,o14_1],.vec 1 e16] U :=
 gQ Je h
def Ag(a0_0:ByteArray)(a0_1:AV)(a1:ByteArray):Tree :=
 .test (!(af a0_0==af (mk []))) (.test (af a0_0==af a1) (.done 0 [VI 1] []) (.done 0 [VI 0] [])) (.call 121 [.agg [VS a0_0,a0_1]] [] fun r1 o1=>NS r1<|.test (af r1.ah==af (mk [114,101,99])) (NG a0_1 1 2<|lQ (a0_1.ix (1:Int))<|.test (af (((a0_1.ix (1:Int)).hA).ah)==af a1) (.done 0 [VI 0] []) (NG a0_1 2 2<|NE (a0_1.ix (2:Int))<|.call 191 [.agg [VS (((a0_1.ix (2:Int)).getD 0 .any).ah),((a0_1.ix (2:Int)).getD 1 .any)],VS a1] [] fun r2 o2=>NI r2<|.done 0 [VI r2.toInt] [])) (NG a0_1 1 2<|NE (a0_1.ix (1:Int))<|.call 191 [.agg [VS (((a0_1.ix (1:Int)).getD 0 .any).ah),((a0_1.ix (1:Int)).getD 1 .any)],VS a1] [] fun r3 o3=>NI r3<|NG a0_1 2 2<|NE (a0_1.ix (2:Int))<|.call 191 [.agg [VS (((a0_1.ix (2:Int)).getD 0 .any).ah),((a0_1.ix (2:Int)).getD 1 .any)],VS a1] [] fun r4 o4=>NI r4<|.done 0 [VI (IntKind.wrap .i64 (r3.toInt+r4.toInt))] []))
theorem BN(a0_0:ByteArray)(a0_1:AV)(a1:ByteArray)(ha0_1:LK.has .sl a0_1)(h:dk 41 (Ag a0_0 a0_1 a1) R):an Tryz.prog 191 [.agg [VS a0_0,a0_1],VS a1] [] R :=
 uQ (ag (bY (ag (az _) (ag (bQ ha0_1) aB))) (ag (az _) aB)) (oQ [] Tryz.f191 h)
def Bv(a0_0:ByteArray)(a0_1:AV)(a1:ByteArray)(a2_0:ByteArray)(a2_1:AV):Tree :=
 .test (!(af a0_0==af (mk []))) (.test (af a0_0==af a1) (.done 0 [.agg [VS a2_0,a2_1]] []) (.done 0 [.agg [VS a0_0,a0_1]] [])) (.call 121 [.agg [VS a0_0,a0_1]] [] fun r1 o1=>NS r1<|.test (af r1.ah==af (mk [114,101,99])) (NG a0_1 1 2<|lQ (a0_1.ix (1:Int))<|.test (af (((a0_1.ix (1:Int)).hA).ah)==af a1) (.done 0 [.agg [VS a0_0,a0_1]] []) (NG a0_1 1 2<|NE (a0_1.ix (1:Int))<|NG a0_1 2 2<|NE (a0_1.ix (2:Int))<|.call 192 [.agg [VS (((a0_1.ix (2:Int)).getD 0 .any).ah),((a0_1.ix (2:Int)).getD 1 .any)],VS a1,.agg [VS a2_0,a2_1]] [] fun r2 o2=>NA r2<|.call 98 [VS (mk [114,101,99]),.sl [[VS (((a0_1.ix (1:Int)).getD 0 .any).ah),((a0_1.ix (1:Int)).getD 1 .any)],[VS ((r2.cs.getD 0 .any).ah),(r2.cs.getD 1 .any)]]] [] fun r3 o3=>NA r3<|.done 0 [.agg [VS ((r3.cs.getD 0 .any).ah),(r3.cs.getD 1 .any)]] [])) (.call 121 [.agg [VS a0_0,a0_1]] [] fun r4 o4=>NS r4<|NG a0_1 1 2<|NE (a0_1.ix (1:Int))<|.call 192 [.agg [VS (((a0_1.ix (1:Int)).getD 0 .any).ah),((a0_1.ix (1:Int)).getD 1 .any)],VS a1,.agg [VS a2_0,a2_1]] [] fun r5 o5=>NA r5<|NG a0_1 2 2<|NE (a0_1.ix (2:Int))<|.call 192 [.agg [VS (((a0_1.ix (2:Int)).getD 0 .any).ah),((a0_1.ix (2:Int)).getD 1 .any)],VS a1,.agg [VS a2_0,a2_1]] [] fun r6 o6=>NA r6<|.call 98 [VS r4.ah,.sl [[VS ((r5.cs.getD 0 .any).ah),(r5.cs.getD 1 .any)],[VS ((r6.cs.getD 0 .any).ah),(r6.cs.getD 1 .any)]]] [] fun r7 o7=>NA r7<|.done 0 [.agg [VS ((r7.cs.getD 0 .any).ah),(r7.cs.getD 1 .any)]] []))
theorem Cr(a0_0:ByteArray)(a0_1:AV)(a1:ByteArray)(a2_0:ByteArray)(a2_1:AV)(ha0_1:LK.has .sl a0_1)(ha2_1:LK.has .sl a2_1)(h:dk 58 (Bv a0_0 a0_1 a1 a2_0 a2_1) R):an Tryz.prog 192 [.agg [VS a0_0,a0_1],VS a1,.agg [VS a2_0,a2_1]] [] R :=
 uQ (ag (bY (ag (az _) (ag (bQ ha0_1) aB))) (ag (az _) (ag (bY (ag (az _) (ag (bQ ha2_1) aB))) aB))) (oQ [] Tryz.f192 h)
def GB:LI:={hd:={ca:=[(0,.k .sl),(1,.k .str),(7,.k (.int .i64)),(8,.k (.int .i64))]},xs:={},rt:={ca:=[(4,.k (.int .i64))]},ex:=0}
def Hs:Code:=cW (cN Tryz.f194) 2
def K7:List (Nat×LI):=[(2,GB)]
def Lr(a0:AV)(a1:ByteArray):Tree :=
 NL a0<|.loop Hs GB [a0,VS a1,VI (a0.aN.length:Int),VI 0] [] (fun y1 q1=>.done 0 [VI (-1)] []) (fun y1 q1=>NI (y1.hA)<|.done 0 [VI ((y1.hA).toInt)] [])
theorem MY(a0:AV)(a1:ByteArray)(ha0:LK.has .sl a0)(h:dk 19 (Lr a0 a1) R):an Tryz.prog 194 [a0,VS a1] [] R :=
 uQ (ag (bQ ha0) (ag (az _) aB)) (oQ K7 Tryz.f194 h)
def Gi(x0:AV)(x1:ByteArray)(x7:Int)(x8:Int):Tree :=
 NL x0<|NS (VS x1)<|NI (VI x7)<|NI (VI x8)<|.test (decide (x8<x7)) (NG x0 x8 1<|lQ (x0.ix x8)<|.test (af x1==af (((x0.ix x8).hA).ah)) (.done 2 [VI x8] []) (.done 0 [x0,VS x1,VI x7,VI (IntKind.wrap .i64 (x8+1))] [])) (.done 1 [] [])
abbrev F6:=cF Tryz.prog 19 Hs GB
theorem Iy(x0:AV)(x1:ByteArray)(x7:Int)(x8:Int)(h:lJ 19 (Gi x0 x1 x7 x8) F6 U):F6 [x0,VS x1,VI x7,VI x8] [] U :=
 gQ K7 h
end
end Go.Proofs.Trees
namespace Go.Proofs.Trees
open Go Go.VL
theorem bN(i:Nat)(h:i<1000000000000):IntKind.wrap .i64 ((i:Int)+1)=((i+1:Nat):Int):=by rw[wrap64]<;>omega
inductive E where
 |atom (s:List UInt8)
 |list (l:List E)
mutual
def E.cr:E->AV
 | .atom s=>.ptr [.v (.string (mk s)),.v (.slice none 0 0)]
 | .list l=>.ptr [.v (.string (mk [])),.sl (E.lV l)]
def E.lV:List E->List (List AV)
 |[]=>[]
 |e::l=>[e.cr]::E.lV l
end
mutual
def E.gX:E->List AV
 | .atom s=>[.v (.string (mk s)),.v (.slice none 0 0)]
 | .list l=>[.v (.string (mk [])),.sl (E.bm l)]
def E.bm:List E->List (List AV)
 |[]=>[]
 |e::l=>e.gX::E.bm l
end
def E.j5(e:E):AV:=.agg e.gX
theorem uL(l r:List E):E.lV (l++r)=E.lV l++E.lV r:=by
 induction l with
 |nil=>rfl
 |cons e l ih=>simp[E.lV,ih]
theorem pF(l r:List E):E.bm (l++r)=E.bm l++E.bm r:=by
 induction l with
 |nil=>rfl
 |cons e l ih=>simp[E.bm,ih]
theorem rz(l:List E):(E.lV l).length=l.length:=by
 induction l with
 |nil=>rfl
 |cons e l ih=>simp[E.lV,ih]
end Go.Proofs.Trees
