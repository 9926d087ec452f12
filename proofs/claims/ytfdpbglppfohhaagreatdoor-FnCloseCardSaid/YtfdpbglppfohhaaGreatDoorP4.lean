/-
  Part of a proof: Go functions read by values, trees of functions, their contracts.
-/
import Derived.Test.YtfdpbglppfohhaaGreatDoorP3
import Derived.Shelf.Lays
import Derived.Shelf.LaysM
import Derived.Shelf.Strconv.Itoa3
import Derived.Shelf.Strconv.Atoi
import Derived.Shelf.Strings.SlTrimAscii
import Derived.Shelf.Strings.Search3
import Derived.Test.YtfdpbglppfohhaaGreatDoorProg
set_option linter.unusedVariables false
set_option linter.unusedSimpArgs false
open And renaming intro→aI
open ByteArray renaming extract→cn,size→af,toList→ae
open Int renaming tmod→dH,toNat→bJ
namespace Go.Proofs
open Go.Shelf
def Tryz.vy:Go.Shelf.Ren:=⟨fun|160=>184|232=>197|231=>196|227=>198|234=>200|233=>199|236=>202|235=>201|228=>208|271=>211|151=>210|197=>209|120=>221|152=>220|260=>219|137=>231|119=>232|224=>229|225=>228|217=>227|266=>235|n=>n,fun|9=>9|4=>4|3=>3|5=>5|117=>228|116=>227|0=>0|124=>231|21=>21|105=>242|46=>235|119=>263|139=>266|138=>265|n=>n,fun|3=>4|4=>5|n=>n⟩
theorem Tryz.DD:Go.Proofs.Lays.n160 Tryz.prog Tryz.vy:={
 mixed:=by kernel_rfl,
 f119:=Tryz.func232.trans (congrArg some (by kernel_rfl)),
 f120:=Tryz.func221.trans (congrArg some (by kernel_rfl)),
 f137:=Tryz.func231.trans (congrArg some (by kernel_rfl)),
 f151:=Tryz.func210.trans (congrArg some (by kernel_rfl)),
 f152:=Tryz.func220.trans (congrArg some (by kernel_rfl)),
 f160:=Tryz.func184.trans (congrArg some (by kernel_rfl)),
 f197:=Tryz.func209.trans (congrArg some (by kernel_rfl)),
 f217:=Tryz.func227.trans (congrArg some (by kernel_rfl)),
 f224:=Tryz.func229.trans (congrArg some (by kernel_rfl)),
 f225:=Tryz.func228.trans (congrArg some (by kernel_rfl)),
 f227:=Tryz.func198.trans (congrArg some (by kernel_rfl)),
 f228:=Tryz.func208.trans (congrArg some (by kernel_rfl)),
 f231:=Tryz.func196.trans (congrArg some (by kernel_rfl)),
 f232:=Tryz.func197.trans (congrArg some (by kernel_rfl)),
 f233:=Tryz.func199.trans (congrArg some (by kernel_rfl)),
 f234:=Tryz.func200.trans (congrArg some (by kernel_rfl)),
 f235:=Tryz.func201.trans (congrArg some (by kernel_rfl)),
 f236:=Tryz.func202.trans (congrArg some (by kernel_rfl)),
 f260:=Tryz.func219.trans (congrArg some (by kernel_rfl)),
 f266:=Tryz.func235.trans (congrArg some (by kernel_rfl)),
 f271:=Tryz.func211.trans (congrArg some (by kernel_rfl)),
 t0:=Tryz.underlying0,
 a0:=Tryz.isAgg0,
 z0:=Tryz.sizeOf0,
 v0:=Tryz.zeroValue0,
 t3:=Tryz.underlying3,
 a3:=Tryz.isAgg3,
 z3:=Tryz.sizeOf3,
 v3:=Tryz.zeroValue3,
 t4:=Tryz.underlying4,
 a4:=Tryz.isAgg4,
 z4:=Tryz.sizeOf4,
 v4:=Tryz.zeroValue4,
 t5:=Tryz.underlying5,
 a5:=Tryz.isAgg5,
 z5:=Tryz.sizeOf5,
 v5:=Tryz.zeroValue5,
 t9:=Tryz.underlying9,
 a9:=Tryz.isAgg9,
 z9:=Tryz.sizeOf9,
 v9:=Tryz.zeroValue9,
 t21:=Tryz.underlying21,
 a21:=Tryz.isAgg21,
 z21:=Tryz.sizeOf21,
 v21:=Tryz.zeroValue21,
 t46:=Tryz.underlying235,
 a46:=Tryz.isAgg235,
 z46:=Tryz.sizeOf235,
 v46:=Tryz.zeroValue235,
 t105:=Tryz.underlying242,
 a105:=Tryz.isAgg242,
 z105:=Tryz.sizeOf242,
 v105:=Tryz.zeroValue242,
 t116:=Tryz.underlying227,
 a116:=Tryz.isAgg227,
 z116:=Tryz.sizeOf227,
 t117:=Tryz.underlying228,
 a117:=Tryz.isAgg228,
 z117:=Tryz.sizeOf228,
 v117:=Tryz.zeroValue228,
 t119:=Tryz.underlying263,
 a119:=Tryz.isAgg263,
 z119:=Tryz.sizeOf263,
 t124:=Tryz.underlying231,
 a124:=Tryz.isAgg231,
 z124:=Tryz.sizeOf231,
 v124:=Tryz.zeroValue231,
 t138:=Tryz.underlying265,
 a138:=Tryz.isAgg265,
 z138:=Tryz.sizeOf265,
 v138:=Tryz.zeroValue265,
 t139:=Tryz.underlying266,
 a139:=Tryz.isAgg266,
 z139:=Tryz.sizeOf266,
 v139:=Tryz.zeroValue266,
 g3:=by kernel_rfl,
 g4:=by kernel_rfl}
def Tryz.vg:Go.Shelf.Ren:=⟨fun|144=>195|143=>207|219=>218|217=>227|225=>228|224=>229|267=>230|266=>235|314=>236|n=>n,fun|9=>9|4=>4|3=>3|5=>5|46=>235|146=>269|51=>258|n=>n,fun|1=>3|n=>n⟩
theorem Tryz.DB:Go.Proofs.Lays.n144 Tryz.prog Tryz.vg:={
 mixed:=by kernel_rfl,
 f143:=Tryz.func207.trans (congrArg some (by kernel_rfl)),
 f144:=Tryz.func195.trans (congrArg some (by kernel_rfl)),
 f217:=Tryz.func227.trans (congrArg some (by kernel_rfl)),
 f219:=Tryz.func218.trans (congrArg some (by kernel_rfl)),
 f224:=Tryz.func229.trans (congrArg some (by kernel_rfl)),
 f225:=Tryz.func228.trans (congrArg some (by kernel_rfl)),
 f266:=Tryz.func235.trans (congrArg some (by kernel_rfl)),
 f267:=Tryz.func230.trans (congrArg some (by kernel_rfl)),
 f314:=Tryz.func236.trans (congrArg some (by kernel_rfl)),
 t3:=Tryz.underlying3,
 a3:=Tryz.isAgg3,
 z3:=Tryz.sizeOf3,
 v3:=Tryz.zeroValue3,
 t4:=Tryz.underlying4,
 a4:=Tryz.isAgg4,
 z4:=Tryz.sizeOf4,
 v4:=Tryz.zeroValue4,
 t5:=Tryz.underlying5,
 a5:=Tryz.isAgg5,
 z5:=Tryz.sizeOf5,
 v5:=Tryz.zeroValue5,
 t9:=Tryz.underlying9,
 a9:=Tryz.isAgg9,
 z9:=Tryz.sizeOf9,
 v9:=Tryz.zeroValue9,
 t46:=Tryz.underlying235,
 a46:=Tryz.isAgg235,
 z46:=Tryz.sizeOf235,
 v46:=Tryz.zeroValue235,
 t51:=Tryz.underlying258,
 a51:=Tryz.isAgg258,
 z51:=Tryz.sizeOf258,
 v51:=Tryz.zeroValue258,
 t146:=Tryz.underlying269,
 a146:=Tryz.isAgg269,
 z146:=Tryz.sizeOf269,
 v146:=Tryz.zeroValue269,
 g1:=by kernel_rfl}
def Tryz.vV:Go.Shelf.Ren:=⟨fun|172=>130|244=>163|245=>164|247=>185|279=>186|280=>187|281=>188|282=>189|287=>203|316=>204|171=>174|205=>205|321=>212|322=>213|243=>193|246=>206|283=>214|284=>215|285=>216|286=>217|129=>223|317=>222|318=>224|319=>225|320=>226|337=>233|338=>234|n=>n,fun|9=>9|3=>3|75=>164|76=>165|4=>4|5=>5|167=>217|37=>48|0=>0|85=>218|2=>2|168=>220|53=>232|175=>233|46=>235|210=>238|127=>246|145=>249|143=>247|21=>21|171=>250|173=>253|212=>257|51=>258|20=>20|213=>259|232=>271|233=>272|80=>81|n=>n,fun|15=>0|16=>1|17=>2|18=>6|19=>7|n=>n⟩
theorem Tryz.CQ:Go.Proofs.Lays.n172 Tryz.prog Tryz.vV:={
 mixed:=by kernel_rfl,
 f129:=Tryz.func223.trans (congrArg some (by kernel_rfl)),
 f171:=Tryz.func174.trans (congrArg some (by kernel_rfl)),
 f172:=Tryz.func130.trans (congrArg some (by kernel_rfl)),
 f205:=Tryz.func205.trans (congrArg some (by kernel_rfl)),
 f243:=Tryz.func193.trans (congrArg some (by kernel_rfl)),
 f244:=Tryz.func163.trans (congrArg some (by kernel_rfl)),
 f245:=Tryz.func164.trans (congrArg some (by kernel_rfl)),
 f246:=Tryz.func206.trans (congrArg some (by kernel_rfl)),
 f247:=Tryz.func185.trans (congrArg some (by kernel_rfl)),
 f279:=Tryz.func186.trans (congrArg some (by kernel_rfl)),
 f280:=Tryz.func187.trans (congrArg some (by kernel_rfl)),
 f281:=Tryz.func188.trans (congrArg some (by kernel_rfl)),
 f282:=Tryz.func189.trans (congrArg some (by kernel_rfl)),
 f283:=Tryz.func214.trans (congrArg some (by kernel_rfl)),
 f284:=Tryz.func215.trans (congrArg some (by kernel_rfl)),
 f285:=Tryz.func216.trans (congrArg some (by kernel_rfl)),
 f286:=Tryz.func217.trans (congrArg some (by kernel_rfl)),
 f287:=Tryz.func203.trans (congrArg some (by kernel_rfl)),
 f316:=Tryz.func204.trans (congrArg some (by kernel_rfl)),
 f317:=Tryz.func222.trans (congrArg some (by kernel_rfl)),
 f318:=Tryz.func224.trans (congrArg some (by kernel_rfl)),
 f319:=Tryz.func225.trans (congrArg some (by kernel_rfl)),
 f320:=Tryz.func226.trans (congrArg some (by kernel_rfl)),
 f321:=Tryz.func212.trans (congrArg some (by kernel_rfl)),
 f322:=Tryz.func213.trans (congrArg some (by kernel_rfl)),
 f337:=Tryz.func233.trans (congrArg some (by kernel_rfl)),
 f338:=Tryz.func234.trans (congrArg some (by kernel_rfl)),
 t0:=Tryz.underlying0,
 a0:=Tryz.isAgg0,
 z0:=Tryz.sizeOf0,
 v0:=Tryz.zeroValue0,
 t2:=Tryz.underlying2,
 a2:=Tryz.isAgg2,
 z2:=Tryz.sizeOf2,
 v2:=Tryz.zeroValue2,
 t3:=Tryz.underlying3,
 a3:=Tryz.isAgg3,
 z3:=Tryz.sizeOf3,
 v3:=Tryz.zeroValue3,
 t4:=Tryz.underlying4,
 a4:=Tryz.isAgg4,
 z4:=Tryz.sizeOf4,
 v4:=Tryz.zeroValue4,
 t5:=Tryz.underlying5,
 a5:=Tryz.isAgg5,
 z5:=Tryz.sizeOf5,
 v5:=Tryz.zeroValue5,
 t9:=Tryz.underlying9,
 a9:=Tryz.isAgg9,
 z9:=Tryz.sizeOf9,
 v9:=Tryz.zeroValue9,
 t20:=Tryz.underlying20,
 a20:=Tryz.isAgg20,
 z20:=Tryz.sizeOf20,
 v20:=Tryz.zeroValue20,
 t21:=Tryz.underlying21,
 a21:=Tryz.isAgg21,
 z21:=Tryz.sizeOf21,
 v21:=Tryz.zeroValue21,
 t37:=Tryz.underlying48,
 a37:=Tryz.isAgg48,
 z37:=Tryz.sizeOf48,
 v37:=Tryz.zeroValue48,
 t46:=Tryz.underlying235,
 a46:=Tryz.isAgg235,
 z46:=Tryz.sizeOf235,
 v46:=Tryz.zeroValue235,
 t51:=Tryz.underlying258,
 a51:=Tryz.isAgg258,
 z51:=Tryz.sizeOf258,
 v51:=Tryz.zeroValue258,
 t53:=Tryz.underlying232,
 a53:=Tryz.isAgg232,
 z53:=Tryz.sizeOf232,
 v53:=Tryz.zeroValue232,
 t75:=Tryz.underlying164,
 a75:=Tryz.isAgg164,
 z75:=Tryz.sizeOf164,
 v75:=Tryz.zeroValue164,
 t76:=Tryz.underlying165,
 a76:=Tryz.isAgg165,
 z76:=Tryz.sizeOf165,
 v76:=Tryz.zeroValue165,
 t85:=Tryz.underlying218,
 a85:=Tryz.isAgg218,
 z85:=Tryz.sizeOf218,
 v85:=Tryz.zeroValue218,
 t127:=Tryz.underlying246,
 a127:=Tryz.isAgg246,
 z127:=Tryz.sizeOf246,
 v127:=Tryz.zeroValue246,
 t143:=Tryz.underlying247,
 a143:=Tryz.isAgg247,
 z143:=Tryz.sizeOf247,
 v143:=Tryz.zeroValue247,
 t145:=Tryz.underlying249,
 a145:=Tryz.isAgg249,
 z145:=Tryz.sizeOf249,
 v145:=Tryz.zeroValue249,
 t167:=Tryz.underlying217,
 a167:=Tryz.isAgg217,
 z167:=Tryz.sizeOf217,
 v167:=Tryz.zeroValue217,
 t168:=Tryz.underlying220,
 a168:=Tryz.isAgg220,
 z168:=Tryz.sizeOf220,
 v168:=Tryz.zeroValue220,
 t171:=Tryz.underlying250,
 a171:=Tryz.isAgg250,
 z171:=Tryz.sizeOf250,
 v171:=Tryz.zeroValue250,
 t173:=Tryz.underlying253,
 a173:=Tryz.isAgg253,
 z173:=Tryz.sizeOf253,
 v173:=Tryz.zeroValue253,
 t175:=Tryz.underlying233,
 a175:=Tryz.isAgg233,
 z175:=Tryz.sizeOf233,
 v175:=Tryz.zeroValue233,
 t210:=Tryz.underlying238,
 a210:=Tryz.isAgg238,
 z210:=Tryz.sizeOf238,
 v210:=Tryz.zeroValue238,
 t212:=Tryz.underlying257,
 a212:=Tryz.isAgg257,
 z212:=Tryz.sizeOf257,
 v212:=Tryz.zeroValue257,
 t213:=Tryz.underlying259,
 a213:=Tryz.isAgg259,
 z213:=Tryz.sizeOf259,
 t232:=Tryz.underlying271,
 a232:=Tryz.isAgg271,
 z232:=Tryz.sizeOf271,
 v232:=Tryz.zeroValue271,
 t233:=Tryz.underlying272,
 a233:=Tryz.isAgg272,
 z233:=Tryz.sizeOf272,
 v233:=Tryz.zeroValue272,
 g15:=by kernel_rfl,
 g16:=by kernel_rfl,
 g17:=by kernel_rfl,
 g18:=by kernel_rfl,
 g19:=by kernel_rfl}
def Tryz.uv:Go.Shelf.Ren:=⟨fun|171=>174|243=>193|246=>206|283=>214|284=>215|285=>216|286=>217|129=>223|317=>222|318=>224|319=>225|320=>226|337=>233|338=>234|n=>n,fun|3=>3|9=>9|2=>2|4=>4|171=>250|0=>0|53=>232|37=>48|5=>5|173=>253|212=>257|51=>258|20=>20|213=>259|46=>235|232=>271|233=>272|n=>n,fun|17=>2|18=>6|19=>7|n=>n⟩
theorem Tryz.Bi:Go.Proofs.LaysM.n171 Tryz.prog Tryz.uv:={
 mixed:=by kernel_rfl,
 f129:=Tryz.func223.trans (congrArg some (by kernel_rfl)),
 f171:=Tryz.func174.trans (congrArg some (by kernel_rfl)),
 f243:=Tryz.func193.trans (congrArg some (by kernel_rfl)),
 f246:=Tryz.func206.trans (congrArg some (by kernel_rfl)),
 f283:=Tryz.func214.trans (congrArg some (by kernel_rfl)),
 f284:=Tryz.func215.trans (congrArg some (by kernel_rfl)),
 f285:=Tryz.func216.trans (congrArg some (by kernel_rfl)),
 f286:=Tryz.func217.trans (congrArg some (by kernel_rfl)),
 f317:=Tryz.func222.trans (congrArg some (by kernel_rfl)),
 f318:=Tryz.func224.trans (congrArg some (by kernel_rfl)),
 f319:=Tryz.func225.trans (congrArg some (by kernel_rfl)),
 f320:=Tryz.func226.trans (congrArg some (by kernel_rfl)),
 f337:=Tryz.func233.trans (congrArg some (by kernel_rfl)),
 f338:=Tryz.func234.trans (congrArg some (by kernel_rfl)),
 t0:=Tryz.underlying0,
 a0:=Tryz.isAgg0,
 z0:=Tryz.sizeOf0,
 v0:=Tryz.zeroValue0,
 t2:=Tryz.underlying2,
 a2:=Tryz.isAgg2,
 z2:=Tryz.sizeOf2,
 v2:=Tryz.zeroValue2,
 t3:=Tryz.underlying3,
 a3:=Tryz.isAgg3,
 z3:=Tryz.sizeOf3,
 v3:=Tryz.zeroValue3,
 t4:=Tryz.underlying4,
 a4:=Tryz.isAgg4,
 z4:=Tryz.sizeOf4,
 v4:=Tryz.zeroValue4,
 t5:=Tryz.underlying5,
 a5:=Tryz.isAgg5,
 z5:=Tryz.sizeOf5,
 v5:=Tryz.zeroValue5,
 t9:=Tryz.underlying9,
 a9:=Tryz.isAgg9,
 z9:=Tryz.sizeOf9,
 v9:=Tryz.zeroValue9,
 t20:=Tryz.underlying20,
 a20:=Tryz.isAgg20,
 z20:=Tryz.sizeOf20,
 v20:=Tryz.zeroValue20,
 t37:=Tryz.underlying48,
 a37:=Tryz.isAgg48,
 z37:=Tryz.sizeOf48,
 v37:=Tryz.zeroValue48,
 t46:=Tryz.underlying235,
 a46:=Tryz.isAgg235,
 z46:=Tryz.sizeOf235,
 v46:=Tryz.zeroValue235,
 t51:=Tryz.underlying258,
 a51:=Tryz.isAgg258,
 z51:=Tryz.sizeOf258,
 v51:=Tryz.zeroValue258,
 t53:=Tryz.underlying232,
 a53:=Tryz.isAgg232,
 z53:=Tryz.sizeOf232,
 v53:=Tryz.zeroValue232,
 t171:=Tryz.underlying250,
 a171:=Tryz.isAgg250,
 z171:=Tryz.sizeOf250,
 v171:=Tryz.zeroValue250,
 t173:=Tryz.underlying253,
 a173:=Tryz.isAgg253,
 z173:=Tryz.sizeOf253,
 v173:=Tryz.zeroValue253,
 t212:=Tryz.underlying257,
 a212:=Tryz.isAgg257,
 z212:=Tryz.sizeOf257,
 v212:=Tryz.zeroValue257,
 t213:=Tryz.underlying259,
 a213:=Tryz.isAgg259,
 z213:=Tryz.sizeOf259,
 t232:=Tryz.underlying271,
 a232:=Tryz.isAgg271,
 z232:=Tryz.sizeOf271,
 v232:=Tryz.zeroValue271,
 t233:=Tryz.underlying272,
 a233:=Tryz.isAgg272,
 z233:=Tryz.sizeOf272,
 v233:=Tryz.zeroValue272,
 g17:=by kernel_rfl,
 g18:=by kernel_rfl,
 g19:=by kernel_rfl,
 i0:=by kernel_rfl,
 i2:=by kernel_rfl,
 i3:=by kernel_rfl,
 i4:=by kernel_rfl,
 i5:=by kernel_rfl,
 i9:=by kernel_rfl,
 i20:=by kernel_rfl,
 i37:=by kernel_rfl,
 i46:=by kernel_rfl,
 i51:=by kernel_rfl,
 i53:=by kernel_rfl,
 i171:=by kernel_rfl,
 i173:=by kernel_rfl,
 i212:=by kernel_rfl,
 i232:=by kernel_rfl,
 i233:=by kernel_rfl,
 m17:=by kernel_rfl,
 m18:=by kernel_rfl,
 m19:=by kernel_rfl}
end Go.Proofs
namespace Go.Proofs.Trees
open Go Go.VL
noncomputable section
def Jm:List (Nat×TI):=[
 (0,⟨false,[],false,0,.tuple [],false⟩),
 (2,⟨true,[.int .i64],false,8,.num .i64,false⟩),
 (3,⟨true,[.int .i64],false,8,.num .i64,false⟩),
 (4,⟨true,[.bool],false,1,.bl,false⟩),
 (5,⟨true,[.int .u8],false,1,.num .u8,false⟩),
 (9,⟨true,[.str],false,16,.str,false⟩),
 (20,⟨true,[.kK],false,16,.other,false⟩),
 (21,⟨true,[.int .i32],false,4,.num .i32,false⟩),
 (22,⟨true,[.sl],false,24,.slice 9,false⟩),
 (24,⟨true,[.str,.sl,.str],true,56,.struct [(0,9),(1,22),(2,9)],false⟩),
 (26,⟨true,[.sl],false,24,.slice 3,false⟩),
 (27,⟨false,[],false,0,.tuple [26,4],false⟩),
 (29,⟨true,[.str,.sl,.str],true,56,.struct [(0,9),(1,22),(2,9)],false⟩),
 (37,⟨true,[.sl,.str,.str],true,56,.struct [(0,26),(1,9),(2,9)],false⟩),
 (39,⟨false,[],false,0,.tuple [9,4],false⟩),
 (41,⟨true,[.sl,.str,.str],true,56,.struct [(0,26),(1,9),(2,9)],false⟩),
 (45,⟨false,[],false,0,.tuple [29,4],false⟩),
 (48,⟨true,[.sl],false,24,.slice 5,false⟩),
 (49,⟨false,[],false,0,.tuple [9,9],false⟩),
 (62,⟨true,[.ptr],false,8,.pt,true⟩),
 (64,⟨true,[.ptr],false,8,.pt,true⟩),
 (65,⟨true,[.sl],false,24,.slice 66,false⟩),
 (66,⟨true,[.ptr],false,8,.pt,true⟩),
 (68,⟨true,[.str,.ptr,.sl,.ptr],true,56,.struct [(0,9),(1,64),(2,65),(3,66)],false⟩),
 (79,⟨true,[.ptr],false,8,.pt,true⟩),
 (83,⟨true,[.sl],false,24,.slice 97,false⟩),
 (85,⟨true,[.sl],false,24,.slice 91,false⟩),
 (86,⟨false,[],false,0,.tuple [85,4],false⟩),
 (88,⟨false,[],false,0,.tuple [64,66],false⟩),
 (91,⟨true,[.str,.str],true,32,.struct [(0,9),(1,9)],false⟩),
 (97,⟨true,[.ptr,.ptr],true,16,.struct [(0,66),(1,66)],false⟩),
 (98,⟨true,[.kK],false,8,.other,false⟩),
 (105,⟨true,[.sl,.int .i64],true,32,.struct [(0,48),(1,3)],false⟩),
 (109,⟨true,[.int .u8,.str,.ptr,.ptr],true,40,.struct [(0,5),(1,9),(2,66),(3,66)],false⟩),
 (110,⟨true,[.ptr],false,8,.pt,true⟩),
 (112,⟨true,[.ptr,.ptr],true,16,.struct [(0,64),(1,110)],false⟩),
 (113,⟨true,[.ptr],false,8,.pt,true⟩),
 (114,⟨false,[],false,0,.tuple [112,113],false⟩),
 (118,⟨true,[.str,.ptr],true,24,.struct [(0,9),(1,113)],false⟩),
 (119,⟨true,[.sl],false,24,.slice 121,false⟩),
 (121,⟨true,[.str,.sl],true,40,.struct [(0,9),(1,119)],false⟩),
 (122,⟨false,[],false,0,.tuple [121,4],false⟩),
 (125,⟨true,[.sl],false,24,.slice 157,false⟩),
 (139,⟨true,[.int .u8,.str,.int .i64,.ptr,.ptr],true,48,.struct [(0,5),(1,9),(2,3),(3,64),(4,64)],false⟩),
 (140,⟨false,[],false,0,.tuple [64,4],false⟩),
 (144,⟨true,[.ptr,.ptr],true,16,.struct [(0,112)],false⟩),
 (146,⟨true,[.ptr,.ptr],true,16,.struct [(0,113),(1,110)],false⟩),
 (148,⟨true,[.kK],false,8,.other,false⟩),
 (149,⟨true,[.kK],false,8,.other,false⟩),
 (155,⟨true,[.sl],false,24,.slice 211,false⟩),
 (157,⟨true,[.str,.sl,.str,.sl],true,80,.struct [(0,121),(2,121)],false⟩),
 (160,⟨true,[.ptr],false,8,.pt,true⟩),
 (164,⟨true,[.kK],false,16,.other,false⟩),
 (165,⟨false,[],false,0,.tuple [3,164],false⟩),
 (172,⟨true,[.kK],false,8,.other,false⟩),
 (175,⟨true,[.ptr],false,8,.pt,true⟩),
 (177,⟨true,[.sl,.int .i64],true,32,.struct [(0,22),(1,3)],false⟩),
 (179,⟨true,[.ptr],false,8,.pt,true⟩),
 (181,⟨true,[.int .i64,.bool],true,16,.struct [(0,3),(1,4)],false⟩),
 (187,⟨false,[],false,0,.tuple [121,3],false⟩),
 (190,⟨false,[],false,0,.tuple [121,155],false⟩),
 (194,⟨false,[],false,0,.tuple [160,9],false⟩),
 (196,⟨true,[.sl],false,24,.slice 160,false⟩),
 (198,⟨true,[.str,.sl],true,40,.struct [(0,9),(1,196)],false⟩),
 (208,⟨true,[.kK],false,8,.other,false⟩),
 (211,⟨true,[.str,.str,.sl,.sl],true,80,.struct [(0,9),(1,121),(3,155)],false⟩),
 (214,⟨true,[.kK],false,8,.other,false⟩),
 (218,⟨false,[],false,0,.tuple [2,164],false⟩),
 (220,⟨true,[.ptr],false,8,.pt,true⟩),
 (228,⟨false,[],false,0,.tuple [227,4],false⟩),
 (231,⟨true,[.ptr],false,8,.pt,true⟩),
 (232,⟨true,[.int .u64],false,8,.num .u64,false⟩),
 (233,⟨false,[],false,0,.tuple [232,164],false⟩),
 (235,⟨true,[.int .u64],false,8,.num .u64,false⟩),
 (238,⟨true,[.str,.str,.kK],true,48,.struct [(0,9),(1,9),(2,164)],false⟩),
 (242,⟨false,[],false,0,.tuple [21,3],false⟩),
 (246,⟨true,[.ptr],false,8,.pt,true⟩),
 (247,⟨true,[.ptr],false,8,.pt,true⟩),
 (249,⟨true,[.str],true,16,.struct [(0,9)],false⟩),
 (250,⟨true,[.int .u8,.int .u8,.int .u8,.int .u8,.int .u8,.int .u8,.int .u8,.int .u8,.int .u8,.int .u8,.int .u8,.int .u8,.int .u8,.int .u8,.int .u8,.int .u8,.int .u8,.int .u8,.int .u8,.int .u8,.int .u8,.int .u8,.int .u8,.int .u8],true,24,.array 24 5,false⟩),
 (253,⟨false,[],false,0,.tuple [48,9],false⟩),
 (257,⟨true,[.int .u64,.int .u64,.int .u64,.int .u64,.int .u64,.int .u64,.int .u64,.int .u64,.int .u64,.int .u64,.int .u64,.int .u64,.int .u64,.int .u64,.int .u64,.int .u64,.int .u64,.int .u64,.int .u64,.int .u64],true,160,.array 20 232,false⟩),
 (258,⟨true,[.int .u32],false,4,.num .u32,false⟩),
 (265,⟨true,[.int .u8,.int .u8],true,2,.struct [(0,5),(1,5)],false⟩),
 (266,⟨true,[.int .u8,.int .u8,.int .u8,.int .u8,.int .u8,.int .u8,.int .u8,.int .u8,.int .u8,.int .u8,.int .u8,.int .u8,.int .u8,.int .u8,.int .u8,.int .u8,.int .u8,.int .u8,.int .u8,.int .u8,.int .u8,.int .u8,.int .u8,.int .u8,.int .u8,.int .u8,.int .u8,.int .u8,.int .u8,.int .u8,.int .u8,.int .u8],true,32,.array 16 265,false⟩),
 (269,⟨false,[],false,0,.tuple [258,258],false⟩),
 (271,⟨true,[.int .u8,.int .u8,.int .u8,.int .u8,.int .u8,.int .u8,.int .u8,.int .u8,.int .u8,.int .u8,.int .u8,.int .u8,.int .u8,.int .u8,.int .u8,.int .u8,.int .u8,.int .u8,.int .u8,.int .u8,.int .u8,.int .u8,.int .u8,.int .u8,.int .u8,.int .u8,.int .u8,.int .u8,.int .u8,.int .u8,.int .u8,.int .u8],true,32,.array 32 5,false⟩)]
def OL(t:Nat):TI:=yV Jm t
abbrev ez:Func:=Tryz.f86
abbrev qz:Func:=Tryz.f130
abbrev qH:Func:=Tryz.f174
abbrev qx:Func:=Tryz.f184
abbrev nG:Func:=Tryz.f195
def Qp:List (Nat×FC):=[(181,{mu:=[(1,.one (.obj [.vec 1]))],own:=[]}),(137,{mu:=[(2,.one (.vec))],own:=[0]}),(18200180,{mu:=[(1,.fn [some (.obj [.vec 1])])],own:=[]}),(112,{mu:=[(2,.one (.obj [.vec 2]))],own:=[]}),(11600112,{mu:=[(1,.fn [some (.obj [.lk .ptr])]),(2,.one (.obj [.vec 2]))],own:=[]}),(11700112,{mu:=[(1,.fn [some (.obj [.lk .ptr])]),(2,.one (.obj [.vec 2]))],own:=[]}),(11900112,{mu:=[(1,.fn [some (.obj [.lk .ptr])]),(2,.one (.obj [.vec 2]))],own:=[]}),(12100112,{mu:=[(1,.fn [some (.obj [.lk .ptr,.lk .ptr])]),(2,.one (.obj [.vec 2]))],own:=[]}),(115,{mu:=[(1,.one (.obj [.lk .ptr]))],own:=[]}),(116,{mu:=[(1,.one (.obj [.lk .ptr]))],own:=[]}),(118,{mu:=[(1,.one (.obj [.lk .ptr]))],own:=[]}),(120,{mu:=[(1,.one (.obj [.lk .ptr,.lk .ptr]))],own:=[]}),(176,{mu:=[(2,.sG 176 [none,some 0,some 1]),(3,.one (.obj [.lk .sl])),(4,.one (.obj [.lk (.int .i64)]))],own:=[]}),(126,{mu:=[(2,.one (.vec))],own:=[0]}),(81,{mu:=[(0,.one (.obj [.lk .sl,.lk (.int .i64)]))],own:=[]}),(143,{mu:=[(3,.one (.obj [.vec 1,.lk (.int .i64)]))],own:=[]}),(102,{mu:=[(0,.one (.obj [.lk .sl,.lk (.int .i64)]))],own:=[]}),(62,{mu:=[],own:=[0],ow:=[.sl,.int .i64]}),(16,{mu:=[(0,.one (.cJ false [.vec 1]))],own:=[]}),(50,{mu:=[(0,.one (.cJ false [.vec 1]))],own:=[]}),(146,{mu:=[(0,.one (.obj [.lk (.int .i64),.lk .bool]))],own:=[]}),(147,{mu:=[(0,.one (.obj [.lk (.int .i64),.lk .bool]))],own:=[]}),(148,{mu:=[(0,.one (.obj [.lk (.int .i64),.lk .bool]))],own:=[]}),(136,{mu:=[(0,.one (.obj [.lk .sl,.lk (.int .i64)]))],own:=[]}),(80,{mu:=[(0,.one (.obj [.lk .sl,.lk (.int .i64)]))],own:=[]}),(135,{mu:=[(0,.one (.obj [.lk .sl,.lk (.int .i64)]))],own:=[]}),(105,{mu:=[(0,.one (.obj [.lk .sl,.lk (.int .i64)]))],own:=[]}),(83,{mu:=[(0,.one (.obj [.lk .sl,.lk (.int .i64)]))],own:=[]}),(103,{mu:=[(0,.one (.obj [.lk .sl,.lk (.int .i64)]))],own:=[]}),(82,{mu:=[(0,.one (.obj [.lk .sl,.lk (.int .i64)]))],own:=[]}),(61,{mu:=[(0,.one (.obj [.lk .sl,.lk (.int .i64)]))],own:=[]}),(67,{mu:=[(0,.one (.obj [.lk .sl,.lk (.int .i64)]))],own:=[0],oa:=[.lk .str,.vec 1,.lk .str]}),(15,{mu:=[(0,.one (.cJ true [.lk .str,.vec 1,.lk .str]))],own:=[]}),(27,{mu:=[],own:=[0],oa:=[.lk .str,.vec 1,.lk .str]}),(31,{mu:=[],own:=[0],oa:=[.lk .str,.vec 1,.lk .str]}),(55,{mu:=[],own:=[0],oa:=[.lk .str,.vec 1,.lk .str]}),(35,{mu:=[],own:=[0],oa:=[.lk .str,.vec 1,.lk .str]}),(24,{mu:=[],own:=[0],oa:=[.lk .str,.vec 1,.lk .str]}),(38,{mu:=[],own:=[0],oa:=[.lk .str,.vec 1,.lk .str]}),(58,{mu:=[],own:=[0],oa:=[.lk .str,.vec 1,.lk .str]}),(12,{mu:=[],own:=[0]}),(44,{mu:=[],own:=[0]}),(11,{mu:=[],own:=[0],oa:=[.lk .str,.vec 1,.lk .str]}),(54,{mu:=[],own:=[0]}),(20,{mu:=[],own:=[0],oa:=[.vec 1,.lk .str,.lk .str]}),(77,{mu:=[(1,.one (.obj [.lk .str]))],own:=[]}),(7800076,{mu:=[(1,.fn [some (.obj [.lk .str])])],own:=[]}),(48,{mu:=[(0,.one (.cJ false [.vec 1]))],own:=[]}),(79,{mu:=[],own:=[0]}),(64,{mu:=[(0,.one (.uO [.lk .str,.vec 1,.lk .str]))],own:=[0],oa:=[.lk .str,.vec 1,.lk .str]}),(28,{mu:=[],own:=[0],oa:=[.lk .str,.vec 1,.lk .str]}),(57,{mu:=[],own:=[0],oa:=[.lk .str,.vec 1,.lk .str]}),(53,{mu:=[],own:=[0],oa:=[.lk .str,.vec 1,.lk .str]})]
def cM(f:Nat):FC:=BL Qp f
theorem EA:(Jm.all fun p=>!p.2.kn||p.2.nJ Tryz.prog p.1)=true:=by kernel_rfl
theorem uj:dm Tryz.prog OL:=wj EA
theorem mixed:Tryz.prog.follows .mixedOrders=true:=by kernel_rfl
abbrev NZ(r:AV)(k:Tree):Tree:=.ai (LK.has .ptr r/\r.isNil=false) k
abbrev NP(r:AV)(k:Tree):Tree:=.ai (LK.has .ptr r) k
abbrev NS(r:AV)(k:Tree):Tree:=.ai (LK.has .str r) k
abbrev NB(r:AV)(k:Tree):Tree:=.ai (LK.has .bool r) k
abbrev NL(r:AV)(k:Tree):Tree:=.ai (LK.has .sl r) k
abbrev NI(r:AV)(k:Tree):Tree:=.ai (LK.has (.int .i64) r) k
abbrev dR(l:List AV)(k:Tree):Tree:=.ai (LK.has .ptr (l.headD .any)/\1<=l.length) k
abbrev lB(l:List AV)(k:Tree):Tree:=.ai (LK.has .str (l.headD .any)/\1<=l.length) k
abbrev nF(l:List AV)(k:Tree):Tree:=.ai (LK.has .sl (l.headD .any)/\1<=l.length) k
abbrev NT(r:AV)(k:Tree):Tree:=.ai (r=.cD [r.comp 0,r.comp 1]) k
abbrev NA(r:AV)(k:Tree):Tree:=.ai (r=.agg r.cs/\r.cs.length=2/\bF [.str,.sl] r.cs 0) k
abbrev NE(l:List AV)(k:Tree):Tree:=.ai (bF [.str,.sl] l 0/\2<=l.length) k
abbrev NG(r:AV)(i:Int)(z:Nat)(k:Tree):Tree:=.ai (LK.has .sl r/\0<=i/\i<r.aP.length/\(r.aP.getD i.toNat []).length=z) k
abbrev RL:Type:=Nat->List AV->List Ob->Prop
abbrev VS(x:ByteArray):AV:=.v (.string x)
abbrev VI(x:Int):AV:=.v (.int .i64 x)
abbrev VB(x:Bool):AV:=.v (.bool x)
abbrev _root_.List.hA(l:List AV):AV:=l.headD .any
abbrev _root_.List.hO(l:List Ob):Ob:=l.headD .dead
abbrev _root_.Go.VL.AV.ix(a:AV)(i:Int):List AV:=a.aP.getD i.toNat []
abbrev di(n:Nat)(t:Tree)(R:AV->List Ob->Prop):Prop:=eX Tryz.prog n t fun _ xs obs=>R (xs.headD .any) obs
abbrev ka(n:Nat)(t:Tree)(S:List AV->List Ob->RL->Prop)(R:RL):Prop:=eX Tryz.prog n t (CW (fun ys o=>S ys o R) R)
theorem gQ{n:Nat}{c:Code}{li:LI}{xs:List AV}{obs:List Ob}{R:RL}{t:Tree}(lis:List (Nat×LI))(h:eX Tryz.prog n t (CW (fun ys o=>cB Tryz.prog n c li ys o R) R))(e:round OL cM n lis c li xs obs=t:=by kernel_rfl):cB Tryz.prog n c li xs obs R:=cB.OZ (cM:=cM) (lis:=lis) uj mixed e h
theorem PB(n:Nat)(t:Tree)(R:AV->List Ob->Prop):di n t R=eX Tryz.prog n t fun _ xs obs=>R (xs.headD .any) obs:=rfl
theorem PV(n:Nat)(t:Tree)(S:List AV->List Ob->RL->Prop)(R:RL):ka n t S R=eX Tryz.prog n t (CW (fun ys o=>S ys o R) R):=rfl
theorem SY(x:ByteArray):VS x=.v (.string x):=rfl
theorem S9(x:Int):VI x=.v (.int .i64 x):=rfl
theorem S8(x:Bool):VB x=.v (.bool x):=rfl
theorem S2(l:List AV):l.hA=l.headD .any:=rfl
theorem S3(l:List Ob):l.hO=l.headD .dead:=rfl
theorem Tn(a:AV)(i:Int):a.ix i=a.aP.getD i.toNat []:=rfl
theorem oQ{f:Nat}{asq:List AV}{ins:List Ob}{R:AV->List Ob->Prop}{t:Tree}(lis:List (Nat×LI))(F:Func)(h:eX Tryz.prog F.ntmps t fun _ xs obs=>R (xs.headD .any) obs)(hf:Tryz.prog.funcs[f]?=some F:=by kernel_rfl)(hnm:(F.name=="runtime.NumGoroutine")=false:=by kernel_rfl)(e:main OL cM lis {} F asq ins=t:=by kernel_rfl):an Tryz.prog f asq ins R:=an.OZ (cM:=cM) (lis:=lis) (fc:={}) uj mixed hf hnm e h
theorem oF{f:Nat}{asq:List AV}{ins:List Ob}{R:AV->List Ob->Prop}{t:Tree}(lis:List (Nat×LI))(fc:FC)(F:Func)(h:eX Tryz.prog F.ntmps t fun _ xs obs=>R (xs.headD .any) obs)(hf:Tryz.prog.funcs[f]?=some F:=by kernel_rfl)(hnm:(F.name=="runtime.NumGoroutine")=false:=by kernel_rfl)(e:main OL cM lis fc F asq ins=t:=by kernel_rfl):an Tryz.prog f asq ins R:=an.OZ (cM:=cM) (lis:=lis) (fc:=fc) uj mixed hf hnm e h
theorem uQ{P:Program}{f:Nat}{asq bs:List AV}{R:AV->List Ob->Prop}(h:xD asq bs)(hf:an P f bs [] R):an P f asq [] R:=an.mX ct (an.up h hf)
theorem Td(r:AV)(k:Tree):NZ r k=.ai (LK.has .ptr r/\r.isNil=false) k:=rfl
theorem Th(r:AV)(k:Tree):NP r k=.ai (LK.has .ptr r) k:=rfl
theorem Te(r:AV)(k:Tree):NS r k=.ai (LK.has .str r) k:=rfl
theorem Tc(r:AV)(k:Tree):NB r k=.ai (LK.has .bool r) k:=rfl
theorem S0(r:AV)(k:Tree):NL r k=.ai (LK.has .sl r) k:=rfl
theorem S7(r:AV)(k:Tree):NI r k=.ai (LK.has (.int .i64) r) k:=rfl
theorem Ql(l:List AV)(k:Tree):dR l k=.ai (LK.has .ptr (l.headD .any)/\1<=l.length) k:=rfl
theorem SM(l:List AV)(k:Tree):lB l k=.ai (LK.has .str (l.headD .any)/\1<=l.length) k:=rfl
theorem SB(l:List AV)(k:Tree):nF l k=.ai (LK.has .sl (l.headD .any)/\1<=l.length) k:=rfl
theorem S5(r:AV)(k:Tree):NT r k=.ai (r=.cD [r.comp 0,r.comp 1]) k:=rfl
theorem S6(r:AV)(k:Tree):NA r k=.ai (r=.agg r.cs/\r.cs.length=2/\bF [.str,.sl] r.cs 0) k:=rfl
theorem Tl(l:List AV)(k:Tree):NE l k=.ai (bF [.str,.sl] l 0/\2<=l.length) k:=rfl
theorem S4(r:AV)(i:Int)(z:Nat)(k:Tree):NG r i z k=.ai (LK.has .sl r/\0<=i/\i<r.aP.length/\(r.aP.getD i.toNat []).length=z) k:=rfl
set_option linter.defProp false in
def zq:=aI @Td (aI @Th (aI @Te (aI @Tc (aI @S0 (aI @S7 (aI @Ql (aI @SM (aI @SB (aI @S5 (aI @S6 (aI @Tl (aI @S4 (aI @PB (aI @PV (aI @SY (aI @S9 (aI @S8 ((aI @S2 (aI @S3 (aI @Tn @zp)))))))))))))))))))))
variable {R:AV->List Ob->Prop} {U:RL}
def MM(a0:AV):Tree :=
 NL a0<|.test (decide ((a0.aP.length:Int)>(1048576:Int))) (.done 0 [VB true] []) (.call 36 [a0] [] fun r1 o1=>.ai (r1=.agg r1.cs/\r1.cs.length=3/\bF [.str,.sl,.str] r1.cs 0)<|.call 30 [.agg [VS ((r1.cs.getD 0 .any).ah),(r1.cs.getD 1 .any),VS ((r1.cs.getD 2 .any).ah)]] [] fun r2 o2=>NT r2<|NS (r2.comp 0)<|NB (r2.comp 1)<|.call 37 [.agg [VS ((r1.cs.getD 0 .any).ah),(r1.cs.getD 1 .any),VS ((r1.cs.getD 2 .any).ah)]] [] fun r3 o3=>NT r3<|NS (r3.comp 0)<|NB (r3.comp 1)<|.test (!(((r2.comp 1).toBool)==((r3.comp 1).toBool))) (.test (((r2.comp 1).toBool)==((r3.comp 1).toBool)) (.done 0 [VB (ae ((r2.comp 0).ah)==ae ((r3.comp 0).ah))] []) (.done 0 [VB false] [])) (.test (!(ae ((r2.comp 0).ah)==ae ((r3.comp 0).ah))) (.test (((r2.comp 1).toBool)==((r3.comp 1).toBool)) (.done 0 [VB (ae ((r2.comp 0).ah)==ae ((r3.comp 0).ah))] []) (.done 0 [VB false] [])) (.test (!((r2.comp 1).toBool)) (.test (((r2.comp 1).toBool)==((r3.comp 1).toBool)) (.done 0 [VB (ae ((r2.comp 0).ah)==ae ((r3.comp 0).ah))] []) (.done 0 [VB false] [])) (.call 12 [.agg [VS ((r1.cs.getD 0 .any).ah),(r1.cs.getD 1 .any),VS ((r1.cs.getD 2 .any).ah)]] [] fun r4 o4=>NT r4<|.ai (r4.comp 0=.vec 0/\(o4.hO)=.vec 1 (o4.hO).es)<|NB (r4.comp 1)<|.ai (∀x,x∈o4->fj x)<|.call 38 [VS ((r1.cs.getD 0 .any).ah),VS ((r2.comp 0).ah),.sl ((o4.hO).es)] [] fun r5 o5=>NT r5<|.ai ((r5.comp 0)=.agg (r5.comp 0).cs/\aL [.lk .str,.vec 1,.lk .str] ((r5.comp 0).cs) 0 0 o5)<|NB (r5.comp 1)<|.ai (∀x,x∈o5->fj x)<|.test ((r4.comp 1).toBool) (.test ((r5.comp 1).toBool) (.call 39 [VS ((r1.cs.getD 0 .any).ah),VS ((r2.comp 0).ah),VI 100] [] fun r6 o6=>NB r6<|.test r6.toBool (.done 0 [VB (ae (((r5.comp 0).cs.getD 2 .any).ah)==ae ((r1.cs.getD 2 .any).ah))] []) (.done 0 [VB false] [])) (.done 0 [VB false] [])) (.done 0 [VB false] [])))))
theorem QF(a0:AV)(ha0:LK.has .sl a0)(h:di 77 (MM a0) R):an Tryz.prog 8 [a0] [] R :=
 uQ (ag (bU ha0) aC) (oQ [] Tryz.f8 h)
def Gq:LI:={hd:={bV:=[(4,.k .ptr)],eV:=[(5,1)]},xs:={eV:=[(5,1)]},rt:={},ex:=0}
def I4:Code:=cF (cC Tryz.f12) 5
def M6:List (Nat×LI):=[(5,Gq)]
def Ll(a0_0:ByteArray)(a0_1:AV)(a0_2:ByteArray):Tree :=
 .call 45 [.agg [VS a0_0,a0_1,VS a0_2]] [] fun r1 o1=>NP r1<|NP r1<|.test r1.isNil (.done 0 [.cD [.vec 0,VB false]] [.vec 1 []]) (.loop I4 Gq [r1] [.vec 1 []] (fun y4 q4=>.ai (((q4.drop 0).hO)=.vec 1 ((q4.drop 0).hO).es)<|.call 48 [.vec 0] [.vec 1 ((q4.hO).es)] fun r5 o5=>.ai ((o5.hO)=.kH 1 (o5.hO).es)<|.done 0 [.cD [.vec 0,VB true]] [.vec 1 ((o5.hO).es)]) (fun y4 q4=>.fail))
theorem QI(a0_0:ByteArray)(a0_1:AV)(a0_2:ByteArray)(ha0_1:LK.has .sl a0_1)(h:di 30 (Ll a0_0 a0_1 a0_2) R):an Tryz.prog 12 [.agg [VS a0_0,a0_1,VS a0_2]] [] R :=
 uQ (ag (cf (ag (aw _) (ag (bU ha0_1) (ag (aw _) aC)))) aC) (oF M6 {mu:=[],own:=[0]} Tryz.f12 h)
def If(x4:AV)(e5:List (List AV)):Tree :=
 NP x4<|.ai (Ob.vec 1 e5=.vec 1 e5)<|NZ x4<|NZ x4<|nF (x4.deref.drop 2)<|NL ((x4.deref.drop 2).hA)<|.test (decide (((((x4.deref.drop 2).hA).aP).length:Int)>(0:Int))) (.call 46 [x4] [] fun r1 o1=>NP r1<|.call 47 [x4,r1] [] fun r2 o2=>NI r2<|.ai (cy 1 [[VI r2.toInt]]/\((e5.length)+([[VI r2.toInt]]:List (List AV)).length)*8<=140737488355328)<|.done 0 [r1] [.vec 1 (e5++([[VI r2.toInt]]:List (List AV)))]) (.done 1 [] [.vec 1 e5])
abbrev Fe:=cB Tryz.prog 30 I4 Gq
theorem MY(x4:AV)(e5:List (List AV))(h:ka 30 (If x4 e5) Fe U):Fe [x4] [.vec 1 e5] U :=
 gQ M6 h
def LM(a0:ByteArray)(a1:ByteArray):Tree :=
 .call 64 [.agg [VS a0,.vec 0,VS a1]] [.vec 1 []] fun r1 o1=>NT r1<|.ai ((r1.comp 0)=.agg (r1.comp 0).cs/\aL [.lk .str,.vec 1,.lk .str] ((r1.comp 0).cs) 0 1 o1.tail)<|NB (r1.comp 1)<|.done 0 [.cD [.agg [VS (((r1.comp 0).cs.getD 0 .any).ah),.vec 0,VS (((r1.comp 0).cs.getD 2 .any).ah)],VB ((r1.comp 1).toBool)]] [.vec 1 ((o1.tail.hO).es)]
theorem Pu(a0:ByteArray)(a1:ByteArray)(h:di 13 (LM a0 a1) R):an Tryz.prog 28 [VS a0,VS a1] [] R :=
 uQ (ag (aw _) (ag (aw _) aC)) (oF [] {mu:=[],own:=[0],oa:=[.lk .str,.vec 1,.lk .str]} Tryz.f28 h)
def H6:LI:={hd:={bV:=[(4,.k .ptr)]},xs:={bV:=[(4,.k .ptr)]},rt:={},ex:=0}
def Ni:Code:=cF (cC Tryz.f30) 4
def Ke:List (Nat×LI):=[(4,H6)]
def OH(a0_0:ByteArray)(a0_1:AV)(a0_2:ByteArray):Tree :=
 .call 45 [.agg [VS a0_0,a0_1,VS a0_2]] [] fun r1 o1=>NP r1<|NP r1<|.test r1.isNil (.done 0 [.cD [VS (mk []),VB false]] []) (.loop Ni H6 [r1] [] (fun y3 q3=>NP (y3.hA)<|NZ (y3.hA)<|NZ (y3.hA)<|dR ((y3.hA).deref.drop 3)<|.call 66 [(((y3.hA).deref.drop 3).hA)] [] fun r4 o4=>NS r4<|.done 0 [.cD [VS r4.ah,VB true]] []) (fun y3 q3=>.done 0 [.cD [.any,.any]] []))
theorem Qf(a0_0:ByteArray)(a0_1:AV)(a0_2:ByteArray)(ha0_1:LK.has .sl a0_1)(h:di 22 (OH a0_0 a0_1 a0_2) R):an Tryz.prog 30 [.agg [VS a0_0,a0_1,VS a0_2]] [] R :=
 uQ (ag (cf (ag (aw _) (ag (bU ha0_1) (ag (aw _) aC)))) aC) (oQ Ke Tryz.f30 h)
def H7(x4:AV):Tree :=
 NP x4<|NZ x4<|NZ x4<|nF (x4.deref.drop 2)<|NL ((x4.deref.drop 2).hA)<|.test (decide (((((x4.deref.drop 2).hA).aP).length:Int)>(0:Int))) (.call 46 [x4] [] fun r1 o1=>NP r1<|.done 0 [r1] []) (.done 1 [x4] [])
abbrev GG:=cB Tryz.prog 22 Ni H6
theorem LC(x4:AV)(h:ka 22 (H7 x4) GG U):GG [x4] [] U :=
 gQ Ke h
def Nl(a0_0:ByteArray)(a0_1:AV)(a0_2:ByteArray):Tree :=
 .call 41 [.agg [VS a0_0,a0_1,VS a0_2]] [] fun r1 o1=>NB r1<|.test (!r1.toBool) (.done 0 [VI (-1)] []) (.call 69 [VS a0_0,VS a0_2] [] fun r2 o2=>NT r2<|NL (r2.comp 0)<|NB (r2.comp 1)<|NL (r2.comp 0)<|.done 0 [VI (((r2.comp 0).aP).length:Int)] [])
theorem Sx(a0_0:ByteArray)(a0_1:AV)(a0_2:ByteArray)(ha0_1:LK.has .sl a0_1)(h:di 18 (Nl a0_0 a0_1 a0_2) R):an Tryz.prog 34 [.agg [VS a0_0,a0_1,VS a0_2]] [] R :=
 uQ (ag (cf (ag (aw _) (ag (bU ha0_1) (ag (aw _) aC)))) aC) (oQ [] Tryz.f34 h)
def LB(a0:AV):Tree :=
 .call 62 [a0] [] fun r1 o1=>.ai (r1=.ref 0 0/\(o1.hO)=.cells (o1.hO).cs/\(o1.hO).cs.length=2/\bF [.sl,.int .i64] ((o1.hO).cs) 0)<|.call 67 [.ref 0 0] [.cells [((o1.hO).cs.getD 0 .any),VI (((o1.hO).cs.getD 1 .any).toInt)]] fun r2 o2=>.ai ((o2.hO)=.cells (o2.hO).cs)<|.ai (aL [.lk .sl,.lk (.int .i64)] ((o2.hO).cs) 0 1 o2.tail)<|.ai (r2=.agg r2.cs/\aL [.lk .str,.vec 1,.lk .str] r2.cs 0 1 o2.tail)<|.done 0 [.agg [VS ((r2.cs.getD 0 .any).ah),.sl ((o2.tail.hO).es),VS ((r2.cs.getD 2 .any).ah)]] []
theorem QC(a0:AV)(ha0:LK.has .sl a0)(h:di 6 (LB a0) R):an Tryz.prog 36 [a0] [] R :=
 uQ (ag (bU ha0) aC) (oQ [] Tryz.f36 h)
def Ly(a0_0:ByteArray)(a0_1:AV)(a0_2:ByteArray):Tree :=
 .call 41 [.agg [VS a0_0,a0_1,VS a0_2]] [] fun r1 o1=>NB r1<|.test (!r1.toBool) (.done 0 [.cD [VS (mk []),VB false]] []) (.call 70 [.agg [VS a0_0,a0_1,VS a0_2]] [] fun r2 o2=>NT r2<|.ai ((r2.comp 0)=.agg (r2.comp 0).cs/\(r2.comp 0).cs.length=3/\bF [.str,.sl,.str] ((r2.comp 0).cs) 0)<|NB (r2.comp 1)<|.done 0 [.cD [VS (((r2.comp 0).cs.getD 2 .any).ah),VB true]] [])
theorem RU(a0_0:ByteArray)(a0_1:AV)(a0_2:ByteArray)(ha0_1:LK.has .sl a0_1)(h:di 16 (Ly a0_0 a0_1 a0_2) R):an Tryz.prog 37 [.agg [VS a0_0,a0_1,VS a0_2]] [] R :=
 uQ (ag (cf (ag (aw _) (ag (bU ha0_1) (ag (aw _) aC)))) aC) (oQ [] Tryz.f37 h)
def FE:LI:={hd:={bV:=[(8,.k .ptr),(15,.k .sl),(16,.k (.int .i64)),(17,.k (.int .i64))],refs:=[(6,6)],co:=[(6,[.lk .str,.lk .sl,.lk .str])]},xs:={bV:=[(8,.k .ptr)],refs:=[(6,6)],co:=[(6,[.lk .str,.lk .sl,.lk .str])]},rt:={},ex:=0}
def Lr:Code:=cF (cC Tryz.f38) 3
def Jp:List (Nat×LI):=[(3,FE)]
def NM(a0:ByteArray)(a1:ByteArray)(a2:AV):Tree :=
 .call 63 [.agg [VS a0,.v (.slice none 0 0),VS a1]] [] fun r1 o1=>NP r1<|NL a2<|.loop Lr FE [r1,a2,VI (a2.aP.length:Int),VI 0] [.cells [VS (mk []),.v (.slice none 0 0),VS (mk [])]] (fun y3 q3=>NP (y3.hA)<|.ai ((q3.hO)=.cells (q3.hO).cs)<|.ai (ac [.lk .str,.lk .sl,.lk .str] ((q3.hO).cs) 0 q3.tail)<|.call 58 [(y3.hA)] [] fun r4 o4=>NT r4<|.ai ((r4.comp 0)=.agg (r4.comp 0).cs/\aL [.lk .str,.vec 1,.lk .str] ((r4.comp 0).cs) 0 0 o4)<|NB (r4.comp 1)<|.ai (∀x,x∈o4->fj x)<|.done 0 [.cD [.agg [VS (((r4.comp 0).cs.getD 0 .any).ah),.vec 0,VS (((r4.comp 0).cs.getD 2 .any).ah)],VB ((r4.comp 1).toBool)]] [.vec 1 ((o4.hO).es)]) (fun y3 q3=>.fail)
theorem P6(a0:ByteArray)(a1:ByteArray)(a2:AV)(ha2:LK.has .sl a2)(h:di 29 (NM a0 a1 a2) R):an Tryz.prog 38 [VS a0,VS a1,a2] [] R :=
 uQ (ag (aw _) (ag (aw _) (ag (bU ha2) aC))) (oF Jp {mu:=[],own:=[0],oa:=[.lk .str,.vec 1,.lk .str]} Tryz.f38 h)
def Hr(x8:AV)(x15:AV)(x16:Int)(x17:Int)(o6_0:ByteArray)(o6_1:AV)(o6_2:ByteArray):Tree :=
 NP x8<|NL x15<|NI (VI x16)<|NI (VI x17)<|.ai (Ob.cells [VS o6_0,o6_1,VS o6_2]=.cells [VS o6_0,o6_1,VS o6_2])<|.ai (ac [.lk .str,.lk .sl,.lk .str] [VS o6_0,o6_1,VS o6_2] 0 [])<|.test (decide (x17<x16)) (NG x15 x17 1<|.ai (LK.has (.int .i64) ((x15.ix x17).hA)/\1<=(x15.ix x17).length)<|.call 59 [x8,VI (((x15.ix x17).hA).toInt)] [] fun r1 o1=>NP r1<|.done 0 [r1,x15,VI x16,VI (IntKind.wrap .i64 (x17+1))] [.cells [VS o6_0,o6_1,VS o6_2]]) (.done 1 [x8] [.cells [VS o6_0,o6_1,VS o6_2]])
abbrev Gr:=cB Tryz.prog 29 Lr FE
theorem IY(x8:AV)(x15:AV)(x16:Int)(x17:Int)(o6_0:ByteArray)(o6_1:AV)(o6_2:ByteArray)(h:ka 29 (Hr x8 x15 x16 x17 o6_0 o6_1 o6_2) Gr U):Gr [x8,x15,VI x16,VI x17] [.cells [VS o6_0,o6_1,VS o6_2]] U :=
 gQ Jp h
def ND(a0:ByteArray)(a1:ByteArray)(a2:Int):Tree :=
 .call 71 [VS a0,VS a1,VI a2] [] fun r1 o1=>NT r1<|NP (r1.comp 0)<|NP (r1.comp 1)<|NP (r1.comp 1)<|.done 0 [VB (!(r1.comp 1).isNil)] []
theorem Pt(a0:ByteArray)(a1:ByteArray)(a2:Int)(h:di 18 (ND a0 a1 a2) R):an Tryz.prog 39 [VS a0,VS a1,VI a2] [] R :=
 uQ (ag (aw _) (ag (aw _) (ag (aw _) aC))) (oQ [] Tryz.f39 h)
def Kd(a0_0:ByteArray)(a0_1:AV)(a0_2:ByteArray):Tree :=
 .call 72 [.agg [VS a0_0,a0_1,VS a0_2]] [] fun r1 o1=>NB r1<|.test (!r1.toBool) (.done 0 [VB false] []) (.call 70 [.agg [VS a0_0,a0_1,VS a0_2]] [] fun r2 o2=>NT r2<|.ai ((r2.comp 0)=.agg (r2.comp 0).cs/\(r2.comp 0).cs.length=3/\bF [.str,.sl,.str] ((r2.comp 0).cs) 0)<|NB (r2.comp 1)<|.done 0 [VB ((r2.comp 1).toBool)] [])
theorem Ra(a0_0:ByteArray)(a0_1:AV)(a0_2:ByteArray)(ha0_1:LK.has .sl a0_1)(h:di 14 (Kd a0_0 a0_1 a0_2) R):an Tryz.prog 41 [.agg [VS a0_0,a0_1,VS a0_2]] [] R :=
 uQ (ag (cf (ag (aw _) (ag (bU ha0_1) (ag (aw _) aC)))) aC) (oQ [] Tryz.f41 h)
def MN(a0_0:ByteArray)(a0_1:AV)(a0_2:ByteArray):Tree :=
 NL a0_1<|.test ((a0_1.aP.length:Int)==(0:Int)) (.done 0 [.cD [.agg [VS a0_0,a0_1,VS a0_2],VB false]] []) (.ai (LK.has .sl a0_1/\0<=(IntKind.wrap .i64 ((a0_1.aP.length:Int)-1))/\(IntKind.wrap .i64 ((a0_1.aP.length:Int)-1))<a0_1.aP.length/\(a0_1.ix (IntKind.wrap .i64 ((a0_1.aP.length:Int)-1))).length=1)<|lB (a0_1.ix (IntKind.wrap .i64 ((a0_1.aP.length:Int)-1)))<|.call 73 [VS a0_0,VS (((a0_1.ix (IntKind.wrap .i64 ((a0_1.aP.length:Int)-1))).hA).ah),VS a0_2] [] fun r1 o1=>NT r1<|NS (r1.comp 0)<|NB (r1.comp 1)<|.ai (LK.has .sl a0_1/\0<=(0:Int)/\(0:Int)<=(IntKind.wrap .i64 ((a0_1.aP.length:Int)-1))/\(IntKind.wrap .i64 ((a0_1.aP.length:Int)-1))<=(a0_1.aP.length:Int))<|.ai (cy 1 ((a0_1.aP.take (bJ (IntKind.wrap .i64 ((a0_1.aP.length:Int)-1)))).drop (bJ 0))/\((([]:List (List AV)).length)+((a0_1.aP.take (bJ (IntKind.wrap .i64 ((a0_1.aP.length:Int)-1)))).drop (bJ 0)).length)*16<=140737488355328)<|.done 0 [.cD [.agg [VS a0_0,.sl (([]:List (List AV))++((a0_1.aP.take (bJ (IntKind.wrap .i64 ((a0_1.aP.length:Int)-1)))).drop (bJ 0))),VS ((r1.comp 0).ah)],VB ((r1.comp 1).toBool)]] [])
theorem PH(a0_0:ByteArray)(a0_1:AV)(a0_2:ByteArray)(ha0_1:LK.has .sl a0_1)(h:di 39 (MN a0_0 a0_1 a0_2) R):an Tryz.prog 43 [.agg [VS a0_0,a0_1,VS a0_2]] [] R :=
 uQ (ag (cf (ag (aw _) (ag (bU ha0_1) (ag (aw _) aC)))) aC) (oQ [] Tryz.f43 h)
def Hf:LI:={hd:={bV:=[(3,.k .ptr),(4,.k .ptr)]},xs:={bV:=[(3,.k .ptr)]},rt:={bV:=[(2,.k .ptr)]},ex:=0}
def Mn:Code:=cF (cC Tryz.f45) 5
def Mh:List (Nat×LI):=[(5,Hf)]
def MV(a0_0:ByteArray)(a0_1:AV)(a0_2:ByteArray):Tree :=
 .call 63 [.agg [VS a0_0,a0_1,VS a0_2]] [] fun r1 o1=>NP r1<|NP r1<|.test r1.isNil (.done 0 [.v (.pointer none)] []) (.loop Mn Hf [r1,r1] [] (fun y3 q3=>NP (y3.hA)<|.done 0 [(y3.hA)] []) (fun y3 q3=>NP (y3.hA)<|.done 0 [(y3.hA)] []))
theorem Rj(a0_0:ByteArray)(a0_1:AV)(a0_2:ByteArray)(ha0_1:LK.has .sl a0_1)(h:di 21 (MV a0_0 a0_1 a0_2) R):an Tryz.prog 45 [.agg [VS a0_0,a0_1,VS a0_2]] [] R :=
 uQ (ag (cf (ag (aw _) (ag (bU ha0_1) (ag (aw _) aC)))) aC) (oQ Mh Tryz.f45 h)
def FX(x3:AV)(x4:AV):Tree :=
 NP x3<|NP x4<|NZ x4<|NZ x4<|nF (x4.deref.drop 2)<|NL ((x4.deref.drop 2).hA)<|.test (decide (((((x4.deref.drop 2).hA).aP).length:Int)>(0:Int))) (.call 46 [x4] [] fun r1 o1=>NP r1<|NP r1<|.test r1.isNil (.done 2 [.v (.pointer none)] []) (.done 0 [x3,r1] [])) (.done 1 [x3] [])
abbrev Hg:=cB Tryz.prog 21 Mn Hf
theorem LJ(x3:AV)(x4:AV)(h:ka 21 (FX x3 x4) Hg U):Hg [x3,x4] [] U :=
 gQ Mh h
def MU(a0:AV):Tree :=
 NP a0<|.test a0.isNil (.done 0 [.v (.pointer none)] []) (NZ a0<|NZ a0<|nF (a0.deref.drop 2)<|NL ((a0.deref.drop 2).hA)<|.test (((((a0.deref.drop 2).hA).aP).length:Int)==(0:Int)) (.done 0 [.v (.pointer none)] []) (NZ a0<|NZ a0<|nF (a0.deref.drop 2)<|NL ((a0.deref.drop 2).hA)<|NZ a0<|NZ a0<|dR (a0.deref.drop 1)<|NZ a0<|NZ a0<|nF (a0.deref.drop 2)<|.ai (LK.has .sl ((a0.deref.drop 2).hA)/\0<=(IntKind.wrap .i64 (((((a0.deref.drop 2).hA).aP).length:Int)-1))/\(IntKind.wrap .i64 (((((a0.deref.drop 2).hA).aP).length:Int)-1))<((a0.deref.drop 2).hA).aP.length/\(((a0.deref.drop 2).hA).ix (IntKind.wrap .i64 (((((a0.deref.drop 2).hA).aP).length:Int)-1))).length=1)<|.ai (LK.has .ptr ((((a0.deref.drop 2).hA).ix (IntKind.wrap .i64 (((((a0.deref.drop 2).hA).aP).length:Int)-1))).hA)/\1<=(((a0.deref.drop 2).hA).ix (IntKind.wrap .i64 (((((a0.deref.drop 2).hA).aP).length:Int)-1))).length)<|NZ a0<|NZ a0<|dR (a0.deref.drop 3)<|.call 74 [((a0.deref.drop 1).hA),((((a0.deref.drop 2).hA).ix (IntKind.wrap .i64 (((((a0.deref.drop 2).hA).aP).length:Int)-1))).hA),((a0.deref.drop 3).hA)] [] fun r1 o1=>NP r1<|.call 75 [r1] [] fun r2 o2=>NI r2<|.test (decide (r2.toInt>(200:Int))) (.done 0 [.v (.pointer none)] []) (NZ a0<|NZ a0<|.ai (LK.has .str (a0.deref.hA)/\1<=a0.deref.length)<|NZ a0<|NZ a0<|dR (a0.deref.drop 1)<|NZ a0<|NZ a0<|nF (a0.deref.drop 2)<|.ai (LK.has .sl ((a0.deref.drop 2).hA)/\0<=(0:Int)/\(0:Int)<=(IntKind.wrap .i64 (((((a0.deref.drop 2).hA).aP).length:Int)-1))/\(IntKind.wrap .i64 (((((a0.deref.drop 2).hA).aP).length:Int)-1))<=((((a0.deref.drop 2).hA).aP).length:Int))<|.done 0 [.ptr [VS ((a0.deref.hA).ah),((a0.deref.drop 1).hA),.sl (((((a0.deref.drop 2).hA).aP).take (bJ (IntKind.wrap .i64 (((((a0.deref.drop 2).hA).aP).length:Int)-1)))).drop (bJ 0)),r1]] [])))
theorem QP(a0:AV)(ha0:LK.has .ptr a0)(h:di 57 (MU a0) R):an Tryz.prog 46 [a0] [] R :=
 uQ (ag (bB ha0) aC) (oQ [] Tryz.f46 h)
def ME(a0:AV)(a1:AV):Tree :=
 NZ a0<|NZ a0<|nF (a0.deref.drop 2)<|NZ a0<|NZ a0<|nF (a0.deref.drop 2)<|NL ((a0.deref.drop 2).hA)<|.ai (LK.has .sl ((a0.deref.drop 2).hA)/\0<=(IntKind.wrap .i64 (((((a0.deref.drop 2).hA).aP).length:Int)-1))/\(IntKind.wrap .i64 (((((a0.deref.drop 2).hA).aP).length:Int)-1))<((a0.deref.drop 2).hA).aP.length/\(((a0.deref.drop 2).hA).ix (IntKind.wrap .i64 (((((a0.deref.drop 2).hA).aP).length:Int)-1))).length=1)<|.ai (LK.has .ptr ((((a0.deref.drop 2).hA).ix (IntKind.wrap .i64 (((((a0.deref.drop 2).hA).aP).length:Int)-1))).hA)/\1<=(((a0.deref.drop 2).hA).ix (IntKind.wrap .i64 (((((a0.deref.drop 2).hA).aP).length:Int)-1))).length)<|.call 66 [((((a0.deref.drop 2).hA).ix (IntKind.wrap .i64 (((((a0.deref.drop 2).hA).aP).length:Int)-1))).hA)] [] fun r1 o1=>NS r1<|NZ a1<|NZ a1<|dR (a1.deref.drop 1)<|NZ a1<|NZ a1<|dR (a1.deref.drop 3)<|.call 68 [((a1.deref.drop 1).hA),((a1.deref.drop 3).hA)] [] fun r2 o2=>NL r2<|.call 76 [r2,.fn 77 [.ref 0 0]] [.cells [VS r1.ah]] fun r3 o3=>.ai ((o3.hO)=.cells (o3.hO).cs)<|.ai (aL [.lk .str] ((o3.hO).cs) 0 1 o3.tail)<|NI r3<|.done 0 [VI r3.toInt] []
theorem QM(a0:AV)(a1:AV)(ha0:LK.has .ptr a0)(ha1:LK.has .ptr a1)(h:di 30 (ME a0 a1) R):an Tryz.prog 47 [a0,a1] [] R :=
 uQ (ag (bB ha0) (ag (bB ha1) aC)) (oQ [] Tryz.f47 h)
def Hb:LI:={hd:={bV:=[(2,.k (.int .i64)),(3,.k (.int .i64))],kv:=[(0,0,1)]},xs:={kv:=[(0,0,1)]},rt:={kv:=[(0,0,1)]},ex:=0,fx:=[0]}
def Jl:Code:=cF (cC Tryz.f48) 1
def LZ:List (Nat×LI):=[(1,Hb)]
def K0(e0:List (List AV)):Tree :=
 .loop Jl Hb [VI 0,VI (IntKind.wrap .i64 ((e0.length:Int)-1))] [.vec 1 e0] (fun y1 q1=>.ai (((((q1.drop 0).drop 0).drop 0).hO)=.vec 1 ((((q1.drop 0).drop 0).drop 0).hO).es)<|.done 0 [.any] [.kH 1 ((((q1.drop 0).drop 0).hO).es)]) (fun y1 q1=>.ai (((((q1.drop 0).drop 0).drop 0).hO)=.vec 1 ((((q1.drop 0).drop 0).drop 0).hO).es)<|.done 0 [.any] [.kH 1 ((((q1.drop 0).drop 0).hO).es)])
theorem Sc(e0:List (List AV))(h:di 28 (K0 e0) R):an Tryz.prog 48 [.vec 0] [.vec 1 e0] R :=
 an.mX (bx (fK _) ct) (an.up (ag (aw _) aC) (oF LZ {mu:=[(0,.one (.cJ false [.vec 1]))],own:=[]} Tryz.f48 h))
def Gk(x2:Int)(x3:Int)(k0:List (List AV)):Tree :=
 NI (VI x2)<|NI (VI x3)<|.ai (Ob.vec 1 k0=.vec 1 k0)<|.test (decide (x2<x3)) (.ai (0<=x3/\x3<k0.length)<|.ai (x3.toNat<k0.length/\0<(k0.getD x3.toNat []).length/\LK.has (.int .i64) ((k0.getD x3.toNat []).getD 0 .any))<|.ai (0<=x2/\x2<k0.length)<|.ai (x2.toNat<k0.length/\0<(k0.getD x2.toNat []).length/\LK.has (.int .i64) ((k0.getD x2.toNat []).getD 0 .any))<|.ai (0<=x2/\x2<k0.length)<|.ai (x2.toNat<k0.length/\0+1<=1)<|.ai (0<=x3/\x3<(k0.set x2.toNat ((k0.getD x2.toNat []).set 0 (VI (((k0.getD x3.toNat []).getD 0 .any).toInt)))).length)<|.ai (x3.toNat<(k0.set x2.toNat ((k0.getD x2.toNat []).set 0 (VI (((k0.getD x3.toNat []).getD 0 .any).toInt)))).length/\0+1<=1)<|.done 0 [VI (IntKind.wrap .i64 (x2+1)),VI (IntKind.wrap .i64 (x3-1))] [.vec 1 ((k0.set x2.toNat ((k0.getD x2.toNat []).set 0 (VI (((k0.getD x3.toNat []).getD 0 .any).toInt)))).set x3.toNat (((k0.set x2.toNat ((k0.getD x2.toNat []).set 0 (VI (((k0.getD x3.toNat []).getD 0 .any).toInt)))).getD x3.toNat []).set 0 (VI (((k0.getD x2.toNat []).getD 0 .any).toInt))))]) (.done 1 [] [.vec 1 k0])
abbrev Hp:=cB Tryz.prog 28 Jl Hb
theorem RJ(x2:Int)(x3:Int)(k0:List (List AV))(h:ka 28 (Gk x2 x3 k0) Hp U):Hp [VI x2,VI x3] [.vec 1 k0] U :=
 gQ LZ h
def J8(a0:Int)(a1:Int)(a2:Int):Tree :=
 .test (decide (a0≥a1)) (.done 0 [VB (decide (a0<=a2))] []) (.done 0 [VB false] [])
theorem Pf(a0:Int)(a1:Int)(a2:Int)(h:di 15 (J8 a0 a1 a2) R):an Tryz.prog 56 [VI a0,VI a1,VI a2] [] R :=
 uQ (ag (aw _) (ag (aw _) (ag (aw _) aC))) (oQ [] Tryz.f56 h)
def Lg(a0_0:ByteArray)(a0_1:AV)(a0_2:ByteArray)(a1:Int):Tree :=
 .call 41 [.agg [VS a0_0,a0_1,VS a0_2]] [] fun r1 o1=>NB r1<|.test (!r1.toBool) (.done 0 [.cD [.agg [VS (mk []),.vec 0,VS (mk [])],VB false]] [.vec 1 []]) (.call 69 [VS a0_0,VS a0_2] [] fun r2 o2=>NT r2<|NL (r2.comp 0)<|NB (r2.comp 1)<|NL (r2.comp 0)<|.call 56 [VI a1,VI 0,VI (IntKind.wrap .i64 ((((r2.comp 0).aP).length:Int)-1))] [] fun r3 o3=>NB r3<|.test (!r3.toBool) (.done 0 [.cD [.agg [VS (mk []),.vec 0,VS (mk [])],VB false]] [.vec 1 []]) (NG (r2.comp 0) a1 2<|lB ((r2.comp 0).ix a1)<|.call 79 [a0_1,VS ((((r2.comp 0).ix a1).hA).ah)] [] fun r4 o4=>.ai (r4=.vec 0/\(o4.hO)=.vec 1 (o4.hO).es)<|.ai (∀x,x∈o4->fj x)<|NG (r2.comp 0) a1 2<|lB (((r2.comp 0).ix a1).drop 1)<|.call 64 [.agg [VS a0_0,.vec 0,VS (((((r2.comp 0).ix a1).drop 1).hA).ah)]] [.vec 1 ((o4.hO).es)] fun r5 o5=>NT r5<|.ai ((r5.comp 0)=.agg (r5.comp 0).cs/\aL [.lk .str,.vec 1,.lk .str] ((r5.comp 0).cs) 0 1 o5.tail)<|NB (r5.comp 1)<|.done 0 [.cD [.agg [VS (((r5.comp 0).cs.getD 0 .any).ah),.vec 0,VS (((r5.comp 0).cs.getD 2 .any).ah)],VB ((r5.comp 1).toBool)]] [.vec 1 ((o5.tail.hO).es)]))
theorem Sp(a0_0:ByteArray)(a0_1:AV)(a0_2:ByteArray)(a1:Int)(ha0_1:LK.has .sl a0_1)(h:di 46 (Lg a0_0 a0_1 a0_2 a1) R):an Tryz.prog 57 [.agg [VS a0_0,a0_1,VS a0_2],VI a1] [] R :=
 uQ (ag (cf (ag (aw _) (ag (bU ha0_1) (ag (aw _) aC)))) (ag (aw _) aC)) (oF [] {mu:=[],own:=[0],oa:=[.lk .str,.vec 1,.lk .str]} Tryz.f57 h)
def Iw:LI:={hd:={bV:=[(23,.k .sl),(24,.k (.int .i64)),(25,.k (.int .i64))],refs:=[(2,2),(4,4)],co:=[(2,[.lk .str,.lk .sl,.lk .str]),(4,[.lk .str,.vec 1,.lk .str])]},xs:={refs:=[(2,2),(4,4)],co:=[(2,[.lk .str,.lk .sl,.lk .str]),(4,[.lk .str,.vec 1,.lk .str])]},rt:={},ex:=0}
def Ji:Code:=cF (cC Tryz.f58) 5
def N6:List (Nat×LI):=[(5,Iw)]
def MB(a0:AV):Tree :=
 NP a0<|.test a0.isNil (.done 0 [.cD [.agg [VS (mk []),.vec 0,VS (mk [])],VB false]] [.vec 1 []]) (NZ a0<|NZ a0<|.ai (LK.has .str (a0.deref.hA)/\1<=a0.deref.length)<|NZ a0<|NZ a0<|dR (a0.deref.drop 3)<|.call 66 [((a0.deref.drop 3).hA)] [] fun r1 o1=>NS r1<|NZ a0<|NZ a0<|nF (a0.deref.drop 2)<|NL ((a0.deref.drop 2).hA)<|.loop Ji Iw [((a0.deref.drop 2).hA),VI ((((a0.deref.drop 2).hA).aP).length:Int),VI 0] [.cells [VS (mk []),.v (.slice none 0 0),VS (mk [])],.cells [VS ((a0.deref.hA).ah),.any,VS r1.ah],.vec 1 []] (fun y4 q4=>.ai ((q4.hO)=.cells (q4.hO).cs)<|.ai (ac [.lk .str,.lk .sl,.lk .str] ((q4.hO).cs) 0 q4.tail)<|.ai (((q4.tail.drop 0).hO)=.cells ((q4.tail.drop 0).hO).cs)<|.ai (ac [.lk .str,.vec 1,.lk .str] (((q4.tail.drop 0).hO).cs) 0 ((q4.tail.drop 0).tail))<|.done 0 [.cD [.agg [VS (((q4.tail.hO).cs.getD 0 .any).ah),.vec 0,VS (((q4.tail.hO).cs.getD 2 .any).ah)],VB true]] [.vec 1 ((q4.tail.tail.hO).es)]) (fun y4 q4=>.fail))
theorem Qx(a0:AV)(ha0:LK.has .ptr a0)(h:di 38 (MB a0) R):an Tryz.prog 58 [a0] [] R :=
 uQ (ag (bB ha0) aC) (oF N6 {mu:=[],own:=[0],oa:=[.lk .str,.vec 1,.lk .str]} Tryz.f58 h)
def Gp(x23:AV)(x24:Int)(x25:Int)(o2_0:ByteArray)(o2_1:AV)(o2_2:ByteArray)(o4_0:ByteArray)(o4_1:List (List AV))(o4_2:ByteArray):Tree :=
 NL x23<|NI (VI x24)<|NI (VI x25)<|.ai (Ob.cells [VS o2_0,o2_1,VS o2_2]=.cells [VS o2_0,o2_1,VS o2_2])<|.ai (ac [.lk .str,.lk .sl,.lk .str] [VS o2_0,o2_1,VS o2_2] 0 [.cells [VS o4_0,.any,VS o4_2],.vec 1 o4_1])<|.ai (Ob.cells [VS o4_0,.any,VS o4_2]=.cells [VS o4_0,.any,VS o4_2])<|.ai (ac [.lk .str,.vec 1,.lk .str] [VS o4_0,.any,VS o4_2] 0 [.vec 1 o4_1])<|.test (decide (x25<x24)) (NG x23 x25 1<|dR (x23.ix x25)<|.call 66 [((x23.ix x25).hA)] [] fun r1 o1=>NS r1<|.ai (cy 1 [[VS r1.ah]]/\((o4_1.length)+([[VS r1.ah]]:List (List AV)).length)*16<=140737488355328)<|.done 0 [x23,VI x24,VI (IntKind.wrap .i64 (x25+1))] [.cells [VS o2_0,o2_1,VS o2_2],.cells [VS o4_0,.any,VS o4_2],.vec 1 (o4_1++([[VS r1.ah]]:List (List AV)))]) (.done 1 [] [.cells [VS o2_0,o2_1,VS o2_2],.cells [VS o4_0,.any,VS o4_2],.vec 1 o4_1])
abbrev Hu:=cB Tryz.prog 38 Ji Iw
theorem Ot(x23:AV)(x24:Int)(x25:Int)(o2_0:ByteArray)(o2_1:AV)(o2_2:ByteArray)(o4_0:ByteArray)(o4_1:List (List AV))(o4_2:ByteArray)(h:ka 38 (Gp x23 x24 x25 o2_0 o2_1 o2_2 o4_0 o4_1 o4_2) Hu U):Hu [x23,VI x24,VI x25] [.cells [VS o2_0,o2_1,VS o2_2],.cells [VS o4_0,.any,VS o4_2],.vec 1 o4_1] U :=
 gQ N6 h
def FZ(a0:AV)(a1:Int):Tree :=
 NP a0<|.test a0.isNil (.done 0 [.v (.pointer none)] []) (NZ a0<|NZ a0<|nF (a0.deref.drop 2)<|NL ((a0.deref.drop 2).hA)<|.test (((((a0.deref.drop 2).hA).aP).length:Int)==(50:Int)) (.done 0 [.v (.pointer none)] []) (NZ a0<|NZ a0<|dR (a0.deref.drop 1)<|NZ a0<|NZ a0<|dR (a0.deref.drop 3)<|.call 68 [((a0.deref.drop 1).hA),((a0.deref.drop 3).hA)] [] fun r1 o1=>NL r1<|.test (decide (a1<(0:Int))) (.done 0 [.v (.pointer none)] []) (NL r1<|.test (decide (a1≥(r1.aP.length:Int))) (.done 0 [.v (.pointer none)] []) (NG r1 a1 2<|dR (r1.ix a1)<|.call 75 [((r1.ix a1).hA)] [] fun r2 o2=>NI r2<|.test (decide (r2.toInt>(200:Int))) (.done 0 [.v (.pointer none)] []) (NZ a0<|NZ a0<|nF (a0.deref.drop 2)<|.ai (LK.has .sl ((a0.deref.drop 2).hA)/\cy 1 (((a0.deref.drop 2).hA).aP)/\((([]:List (List AV)).length)+(((a0.deref.drop 2).hA).aP).length)*8<=140737488355328)<|NG r1 a1 2<|dR (r1.ix a1)<|.ai (cy 1 [[((r1.ix a1).hA)]]/\(((([]:List (List AV))++(((a0.deref.drop 2).hA).aP)).length)+([[((r1.ix a1).hA)]]:List (List AV)).length)*8<=140737488355328)<|NZ a0<|NZ a0<|.ai (LK.has .str (a0.deref.hA)/\1<=a0.deref.length)<|NZ a0<|NZ a0<|dR (a0.deref.drop 1)<|NG r1 a1 2<|dR ((r1.ix a1).drop 1)<|.done 0 [.ptr [VS ((a0.deref.hA).ah),((a0.deref.drop 1).hA),.sl ((([]:List (List AV))++(((a0.deref.drop 2).hA).aP))++([[((r1.ix a1).hA)]]:List (List AV))),(((r1.ix a1).drop 1).hA)]] [])))))
theorem NF(a0:AV)(a1:Int)(ha0:LK.has .ptr a0)(h:di 72 (FZ a0 a1) R):an Tryz.prog 59 [a0,VI a1] [] R :=
 uQ (ag (bB ha0) (ag (aw _) aC)) (oQ [] Tryz.f59 h)
def Oh(a0_0:AV)(a0_1:Int):Tree :=
 .call 80 [.ref 0 0] [.cells [a0_0,VI a0_1]] fun r1 o1=>.ai ((o1.hO)=.cells (o1.hO).cs)<|.ai (aL [.lk .sl,.lk (.int .i64)] ((o1.hO).cs) 0 1 o1.tail)<|NS r1<|.call 81 [.ref 0 0,VI 12] [.cells [((o1.hO).cs.getD 0 .any),VI (((o1.hO).cs.getD 1 .any).toInt)]] fun r2 o2=>.ai ((o2.hO)=.cells (o2.hO).cs)<|.ai (aL [.lk .sl,.lk (.int .i64)] ((o2.hO).cs) 0 1 o2.tail)<|NI r2<|.test (r2.toInt==(0:Int)) (.call 82 [.ref 0 0] [.cells [((o2.hO).cs.getD 0 .any),VI (((o2.hO).cs.getD 1 .any).toInt)]] fun r3 o3=>.ai ((o3.hO)=.cells (o3.hO).cs)<|.ai (aL [.lk .sl,.lk (.int .i64)] ((o3.hO).cs) 0 1 o3.tail)<|NT r3<|NS (r3.comp 0)<|NS (r3.comp 1)<|.done 0 [.cD [VS ((r3.comp 0).ah),VS ((r3.comp 1).ah)]] [.cells [((o3.hO).cs.getD 0 .any),VI (((o3.hO).cs.getD 1 .any).toInt)]]) (.call 83 [.ref 0 0,VS r1.ah] [.cells [((o2.hO).cs.getD 0 .any),VI (((o2.hO).cs.getD 1 .any).toInt)]] fun r4 o4=>.ai ((o4.hO)=.cells (o4.hO).cs)<|.ai (aL [.lk .sl,.lk (.int .i64)] ((o4.hO).cs) 0 1 o4.tail)<|NS r4<|.done 0 [.cD [VS r1.ah,VS r4.ah]] [.cells [((o4.hO).cs.getD 0 .any),VI (((o4.hO).cs.getD 1 .any).toInt)]])
theorem PP(a0_0:AV)(a0_1:Int)(ha0_0:LK.has .sl a0_0)(h:di 18 (Oh a0_0 a0_1) R):an Tryz.prog 61 [.ref 0 0] [.cells [a0_0,VI a0_1]] R :=
 an.mX (bx (ca (ag (bU ha0_0) (ag (aw _) aC))) ct) (an.up (ag (aw _) aC) (oF [] {mu:=[(0,.one (.obj [.lk .sl,.lk (.int .i64)]))],own:=[]} Tryz.f61 h))
def JN(a0:AV):Tree :=
 NL a0<|.test (decide ((a0.aP.length:Int)>(2000:Int))) (.ai (LK.has .sl a0/\0<=(0:Int)/\(0:Int)<=(2000:Int)/\(2000:Int)<=(a0.aP.length:Int))<|.done 0 [.ref 0 0] [.cells [.sl ((a0.aP.take (bJ 2000)).drop (bJ 0)),VI 0]]) (.done 0 [.ref 0 0] [.cells [a0,VI 0]])
theorem O8(a0:AV)(ha0:LK.has .sl a0)(h:di 11 (JN a0) R):an Tryz.prog 62 [a0] [] R :=
 uQ (ag (bU ha0) aC) (oF [] {mu:=[],own:=[0],ow:=[.sl,.int .i64]} Tryz.f62 h)
def Fq:LI:={hd:={bV:=[(5,.k .str),(45,.k .sl),(46,.k (.int .i64)),(47,.k (.int .i64))],refs:=[(7,43)],co:=[(43,[.lk .str,.lk .ptr,.vec 1,.lk .ptr])]},xs:={refs:=[(7,43)],co:=[(43,[.lk .str,.lk .ptr,.vec 1,.lk .ptr])]},rt:={bV:=[(2,.k .ptr)]},ex:=0}
def Ko:Code:=cF (cC Tryz.f63) 7
def NU:List (Nat×LI):=[(7,Fq)]
def Lk(a0_0:ByteArray)(a0_1:AV)(a0_2:ByteArray):Tree :=
 .call 84 [VS a0_0,VS a0_2] [] fun r1 o1=>NT r1<|NP (r1.comp 0)<|NP (r1.comp 1)<|.call 85 [VS a0_0] [] fun r2 o2=>NT r2<|NS (r2.comp 0)<|NB (r2.comp 1)<|NP (r1.comp 1)<|.test ((r1.comp 1).isNil) (.done 0 [.v (.pointer none)] []) (.test (!((r2.comp 1).toBool)) (.done 0 [.v (.pointer none)] []) (NL a0_1<|.test (decide ((a0_1.aP.length:Int)>(50:Int))) (.done 0 [.v (.pointer none)] []) (NL a0_1<|.loop Ko Fq [VS ((r2.comp 0).ah),a0_1,VI (a0_1.aP.length:Int),VI 0] [.cells [VS a0_0,(r1.comp 0),.any,(r1.comp 1)],.vec 1 []] (fun y5 q5=>.ai ((q5.hO)=.cells (q5.hO).cs)<|.ai (ac [.lk .str,.lk .ptr,.vec 1,.lk .ptr] ((q5.hO).cs) 0 q5.tail)<|.done 0 [.ptr [VS (((q5.hO).cs.getD 0 .any).ah),((q5.hO).cs.getD 1 .any),.sl ((q5.tail.hO).es),((q5.hO).cs.getD 3 .any)]] []) (fun y5 q5=>NP (y5.hA)<|.done 0 [(y5.hA)] []))))
theorem PT(a0_0:ByteArray)(a0_1:AV)(a0_2:ByteArray)(ha0_1:LK.has .sl a0_1)(h:di 71 (Lk a0_0 a0_1 a0_2) R):an Tryz.prog 63 [.agg [VS a0_0,a0_1,VS a0_2]] [] R :=
 uQ (ag (cf (ag (aw _) (ag (bU ha0_1) (ag (aw _) aC)))) aC) (oQ NU Tryz.f63 h)
def HZ(x5:ByteArray)(x45:AV)(x46:Int)(x47:Int)(o43_0:ByteArray)(o43_1:AV)(o43_2:List (List AV))(o43_3:AV):Tree :=
 NS (VS x5)<|NL x45<|NI (VI x46)<|NI (VI x47)<|.ai (Ob.cells [VS o43_0,o43_1,.any,o43_3]=.cells [VS o43_0,o43_1,.any,o43_3])<|.ai (ac [.lk .str,.lk .ptr,.vec 1,.lk .ptr] [VS o43_0,o43_1,.any,o43_3] 0 [.vec 1 o43_2])<|.test (decide (x47<x46)) (NG x45 x47 1<|lB (x45.ix x47)<|.call 71 [VS x5,VS (((x45.ix x47).hA).ah),VI 100] [] fun r1 o1=>NT r1<|NP (r1.comp 0)<|NP (r1.comp 1)<|NP (r1.comp 1)<|.test ((r1.comp 1).isNil) (.done 2 [.v (.pointer none)] []) (.ai (cy 1 [[(r1.comp 1)]]/\((o43_2.length)+([[(r1.comp 1)]]:List (List AV)).length)*8<=140737488355328)<|.done 0 [VS x5,x45,VI x46,VI (IntKind.wrap .i64 (x47+1))] [.cells [VS o43_0,o43_1,.any,o43_3],.vec 1 (o43_2++([[(r1.comp 1)]]:List (List AV)))])) (.done 1 [] [.cells [VS o43_0,o43_1,.any,o43_3],.vec 1 o43_2])
abbrev GS:=cB Tryz.prog 71 Ko Fq
theorem My(x5:ByteArray)(x45:AV)(x46:Int)(x47:Int)(o43_0:ByteArray)(o43_1:AV)(o43_2:List (List AV))(o43_3:AV)(h:ka 71 (HZ x5 x45 x46 x47 o43_0 o43_1 o43_2 o43_3) GS U):GS [VS x5,x45,VI x46,VI x47] [.cells [VS o43_0,o43_1,.any,o43_3],.vec 1 o43_2] U :=
 gQ NU h
def MZ(a0_0:ByteArray)(e0:List (List AV))(a0_2:ByteArray):Tree :=
 .call 41 [.agg [VS a0_0,.sl e0,VS a0_2]] [] fun r1 o1=>NB r1<|.test (!r1.toBool) (.done 0 [.cD [.agg [VS (mk []),.vec 1,VS (mk [])],VB false]] [.dead,.vec 1 []]) (.done 0 [.cD [.agg [VS a0_0,.vec 1,VS a0_2],VB true]] [.dead,.vec 1 e0])
theorem Rt(a0_0:ByteArray)(e0:List (List AV))(a0_2:ByteArray)(h:di 9 (MZ a0_0 e0 a0_2) R):an Tryz.prog 64 [.agg [VS a0_0,.vec 0,VS a0_2]] [.vec 1 e0] R :=
 an.mX (bx (fK _) ct) (an.up (ag (aw _) aC) (oF [] {mu:=[(0,.one (.uO [.lk .str,.vec 1,.lk .str]))],own:=[0],oa:=[.lk .str,.vec 1,.lk .str]} Tryz.f64 h))
def wX(a0:AV):Tree :=
 NZ a0<|NZ a0<|.ai (LK.has (.int .u8) (a0.deref.hA)/\1<=a0.deref.length)<|.test (((a0.deref.hA).toInt)==(117:Int)) (.done 0 [VS (mk [117])] []) (.test (((a0.deref.hA).toInt)==(101:Int)) (NZ a0<|NZ a0<|lB (a0.deref.drop 1)<|.done 0 [VS (((a0.deref.drop 1).hA).ah)] []) (.test (((a0.deref.hA).toInt)==(112:Int)) (NZ a0<|NZ a0<|dR (a0.deref.drop 2)<|.call 66 [((a0.deref.drop 2).hA)] [] fun r1 o1=>NS r1<|.ai (af (mk [40,112,32])+af r1.ah<=9223372036854775807)<|.ai (af (((mk [40,112,32]):ByteArray)++r1.ah)+af (mk [32])<=9223372036854775807)<|NZ a0<|NZ a0<|dR (a0.deref.drop 3)<|.call 66 [((a0.deref.drop 3).hA)] [] fun r2 o2=>NS r2<|.ai (af (((((mk [40,112,32]):ByteArray)++r1.ah):ByteArray)++(mk [32]))+af r2.ah<=9223372036854775807)<|.ai (af (((((((mk [40,112,32]):ByteArray)++r1.ah):ByteArray)++(mk [32])):ByteArray)++r2.ah)+af (mk [41])<=9223372036854775807)<|.done 0 [VS (((((((((mk [40,112,32]):ByteArray)++r1.ah):ByteArray)++(mk [32])):ByteArray)++r2.ah):ByteArray)++(mk [41]))] []) (NZ a0<|NZ a0<|.ai (LK.has (.int .u8) (a0.deref.hA)/\1<=a0.deref.length)<|.ai (jE [[.v (.int .u8 ((a0.deref.hA).toInt))]])<|.ai (af (mk [40])+af (⟨(bytesOf [[.v (.int .u8 ((a0.deref.hA).toInt))]]).toArray⟩)<=9223372036854775807)<|.ai (af (((mk [40]):ByteArray)++(⟨(bytesOf [[.v (.int .u8 ((a0.deref.hA).toInt))]]).toArray⟩))+af (mk [32])<=9223372036854775807)<|NZ a0<|NZ a0<|dR (a0.deref.drop 2)<|.call 66 [((a0.deref.drop 2).hA)] [] fun r3 o3=>NS r3<|.ai (af (((((mk [40]):ByteArray)++(⟨(bytesOf [[.v (.int .u8 ((a0.deref.hA).toInt))]]).toArray⟩)):ByteArray)++(mk [32]))+af r3.ah<=9223372036854775807)<|.ai (af (((((((mk [40]):ByteArray)++(⟨(bytesOf [[.v (.int .u8 ((a0.deref.hA).toInt))]]).toArray⟩)):ByteArray)++(mk [32])):ByteArray)++r3.ah)+af (mk [41])<=9223372036854775807)<|.done 0 [VS (((((((((mk [40]):ByteArray)++(⟨(bytesOf [[.v (.int .u8 ((a0.deref.hA).toInt))]]).toArray⟩)):ByteArray)++(mk [32])):ByteArray)++r3.ah):ByteArray)++(mk [41]))] [])))
theorem Aj(a0:AV)(ha0:LK.has .ptr a0)(h:di 46 (wX a0) R):an Tryz.prog 66 [a0] [] R :=
 uQ (ag (bB ha0) aC) (oQ [] Tryz.f66 h)
def Hs:LI:={hd:={bV:=[(6,.k .bool),(7,.k (.int .i64)),(8,.k (.int .i64))],refs:=[(0,0),(2,2),(5,5)],co:=[(0,[.lk .sl,.lk (.int .i64)]),(2,[.lk .str,.lk .sl,.lk .str]),(5,[.lk .str,.vec 1,.lk .str])]},xs:={refs:=[(0,0),(2,2),(5,5)],co:=[(0,[.lk .sl,.lk (.int .i64)]),(2,[.lk .str,.lk .sl,.lk .str]),(5,[.lk .str,.vec 1,.lk .str])]},rt:={co:=[(0,[.lk .sl,.lk (.int .i64)])]},ex:=0,fx:=[0]}
def Oq:Code:=cF (cC Tryz.f67) 5
def LS:List (Nat×LI):=[(5,Hs)]
def LY(a0_0:AV)(a0_1:Int):Tree :=
 .call 61 [.ref 0 0] [.cells [a0_0,VI a0_1]] fun r1 o1=>.ai ((o1.hO)=.cells (o1.hO).cs)<|.ai (aL [.lk .sl,.lk (.int .i64)] ((o1.hO).cs) 0 1 o1.tail)<|NT r1<|NS (r1.comp 0)<|NS (r1.comp 1)<|.call 28 [VS ((r1.comp 0).ah),VS ((r1.comp 1).ah)] [] fun r2 o2=>NT r2<|.ai ((r2.comp 0)=.agg (r2.comp 0).cs/\aL [.lk .str,.vec 1,.lk .str] ((r2.comp 0).cs) 0 0 o2)<|NB (r2.comp 1)<|.ai (∀x,x∈o2->fj x)<|.call 81 [.ref 0 0,VI 4] [.cells [((o1.hO).cs.getD 0 .any),VI (((o1.hO).cs.getD 1 .any).toInt)]] fun r3 o3=>.ai ((o3.hO)=.cells (o3.hO).cs)<|.ai (aL [.lk .sl,.lk (.int .i64)] ((o3.hO).cs) 0 1 o3.tail)<|NI r3<|.loop Oq Hs [VB ((r2.comp 1).toBool),VI r3.toInt,VI 0] [.cells [((o3.hO).cs.getD 0 .any),VI (((o3.hO).cs.getD 1 .any).toInt)],.cells [VS (mk []),.v (.slice none 0 0),VS (mk [])],.cells [VS (((r2.comp 0).cs.getD 0 .any).ah),.any,VS (((r2.comp 0).cs.getD 2 .any).ah)],.vec 1 ((o2.hO).es)] (fun y7 q7=>.ai ((q7.hO)=.cells (q7.hO).cs)<|.ai (ac [.lk .sl,.lk (.int .i64)] ((q7.hO).cs) 0 q7.tail)<|.ai (((q7.tail.drop 0).hO)=.cells ((q7.tail.drop 0).hO).cs)<|.ai (ac [.lk .str,.lk .sl,.lk .str] (((q7.tail.drop 0).hO).cs) 0 ((q7.tail.drop 0).tail))<|.ai ((((q7.tail.drop 0).tail.drop 0).hO)=.cells (((q7.tail.drop 0).tail.drop 0).hO).cs)<|.ai (ac [.lk .str,.vec 1,.lk .str] ((((q7.tail.drop 0).tail.drop 0).hO).cs) 0 (((q7.tail.drop 0).tail.drop 0).tail))<|.call 81 [.ref 0 0,VI 20] [.cells [((q7.hO).cs.getD 0 .any),VI (((q7.hO).cs.getD 1 .any).toInt)]] fun r8 o8=>.ai ((o8.hO)=.cells (o8.hO).cs)<|.ai (aL [.lk .sl,.lk (.int .i64)] ((o8.hO).cs) 0 1 o8.tail)<|NI r8<|.test (r8.toInt==(0:Int)) (.ai (cy 1 [[VS (mk [117])]]/\((((q7.tail.tail.tail.hO).es).length)+([[VS (mk [117])]]:List (List AV)).length)*16<=140737488355328)<|.done 0 [.agg [VS (((q7.tail.tail.hO).cs.getD 0 .any).ah),.vec 1,VS (((q7.tail.tail.hO).cs.getD 2 .any).ah)]] [.cells [((o8.hO).cs.getD 0 .any),VI (((o8.hO).cs.getD 1 .any).toInt)],.vec 1 (((q7.tail.tail.tail.hO).es)++([[VS (mk [117])]]:List (List AV)))]) (.test (r8.toInt==(1:Int)) (.done 0 [.agg [VS (((q7.tail.tail.hO).cs.getD 0 .any).ah),.vec 1,VS (mk [101,48])]] [.cells [((o8.hO).cs.getD 0 .any),VI (((o8.hO).cs.getD 1 .any).toInt)],.vec 1 ((q7.tail.tail.tail.hO).es)]) (.test (r8.toInt==(2:Int)) (.done 0 [.agg [VS (mk [120]),.vec 1,VS (((q7.tail.tail.hO).cs.getD 2 .any).ah)]] [.cells [((o8.hO).cs.getD 0 .any),VI (((o8.hO).cs.getD 1 .any).toInt)],.vec 1 ((q7.tail.tail.tail.hO).es)]) (.done 0 [.agg [VS (((q7.tail.tail.hO).cs.getD 0 .any).ah),.vec 1,VS (((q7.tail.tail.hO).cs.getD 2 .any).ah)]] [.cells [((o8.hO).cs.getD 0 .any),VI (((o8.hO).cs.getD 1 .any).toInt)],.vec 1 ((q7.tail.tail.tail.hO).es)])))) (fun y7 q7=>.ai ((q7.hO)=.cells (q7.hO).cs)<|.ai (ac [.lk .sl,.lk (.int .i64)] ((q7.hO).cs) 0 q7.tail)<|.fail)
theorem Sd(a0_0:AV)(a0_1:Int)(ha0_0:LK.has .sl a0_0)(h:di 60 (LY a0_0 a0_1) R):an Tryz.prog 67 [.ref 0 0] [.cells [a0_0,VI a0_1]] R :=
 an.mX (bx (ca (ag (bU ha0_0) (ag (aw _) aC))) ct) (an.up (ag (aw _) aC) (oF LS {mu:=[(0,.one (.obj [.lk .sl,.lk (.int .i64)]))],own:=[0],oa:=[.lk .str,.vec 1,.lk .str]} Tryz.f67 h))
def Iu(x6:Bool)(x7:Int)(x8:Int)(o0_0:AV)(o0_1:Int)(o2_0:ByteArray)(o2_1:AV)(o2_2:ByteArray)(o5_0:ByteArray)(o5_1:List (List AV))(o5_2:ByteArray):Tree :=
 NB (VB x6)<|NI (VI x7)<|NI (VI x8)<|.ai (Ob.cells [o0_0,VI o0_1]=.cells [o0_0,VI o0_1])<|.ai (ac [.lk .sl,.lk (.int .i64)] [o0_0,VI o0_1] 0 [.cells [VS o2_0,o2_1,VS o2_2],.cells [VS o5_0,.any,VS o5_2],.vec 1 o5_1])<|.ai (Ob.cells [VS o2_0,o2_1,VS o2_2]=.cells [VS o2_0,o2_1,VS o2_2])<|.ai (ac [.lk .str,.lk .sl,.lk .str] [VS o2_0,o2_1,VS o2_2] 0 [.cells [VS o5_0,.any,VS o5_2],.vec 1 o5_1])<|.ai (Ob.cells [VS o5_0,.any,VS o5_2]=.cells [VS o5_0,.any,VS o5_2])<|.ai (ac [.lk .str,.vec 1,.lk .str] [VS o5_0,.any,VS o5_2] 0 [.vec 1 o5_1])<|.test (decide (x8<x7)) (.test x6 (.call 34 [.agg [VS o5_0,.sl o5_1,VS o5_2]] [] fun r1 o1=>NI r1<|.call 81 [.ref 0 0,VI (if r1.toInt>1 then r1.toInt else 1)] [.cells [o0_0,VI o0_1]] fun r2 o2=>.ai ((o2.hO)=.cells (o2.hO).cs)<|.ai (aL [.lk .sl,.lk (.int .i64)] ((o2.hO).cs) 0 1 o2.tail)<|NI r2<|.call 57 [.agg [VS o5_0,.sl o5_1,VS o5_2],VI r2.toInt] [] fun r3 o3=>NT r3<|.ai ((r3.comp 0)=.agg (r3.comp 0).cs/\aL [.lk .str,.vec 1,.lk .str] ((r3.comp 0).cs) 0 0 o3)<|NB (r3.comp 1)<|.ai (∀x,x∈o3->fj x)<|.test ((r3.comp 1).toBool) (.done 0 [VB x6,VI x7,VI (IntKind.wrap .i64 (x8+1))] [.cells [((o2.hO).cs.getD 0 .any),VI (((o2.hO).cs.getD 1 .any).toInt)],.cells [VS o2_0,o2_1,VS o2_2],.cells [VS (((r3.comp 0).cs.getD 0 .any).ah),.any,VS (((r3.comp 0).cs.getD 2 .any).ah)],.vec 1 ((o3.hO).es)]) (.done 0 [VB x6,VI x7,VI (IntKind.wrap .i64 (x8+1))] [.cells [((o2.hO).cs.getD 0 .any),VI (((o2.hO).cs.getD 1 .any).toInt)],.cells [VS o2_0,o2_1,VS o2_2],.cells [VS o5_0,.any,VS o5_2],.vec 1 o5_1])) (.done 1 [] [.cells [o0_0,VI o0_1],.cells [VS o2_0,o2_1,VS o2_2],.cells [VS o5_0,.any,VS o5_2],.vec 1 o5_1])) (.done 1 [] [.cells [o0_0,VI o0_1],.cells [VS o2_0,o2_1,VS o2_2],.cells [VS o5_0,.any,VS o5_2],.vec 1 o5_1])
abbrev Gj:=cB Tryz.prog 60 Oq Hs
theorem Jd(x6:Bool)(x7:Int)(x8:Int)(o0_0:AV)(o0_1:Int)(o2_0:ByteArray)(o2_1:AV)(o2_2:ByteArray)(o5_0:ByteArray)(o5_1:List (List AV))(o5_2:ByteArray)(h:ka 60 (Iu x6 x7 x8 o0_0 o0_1 o2_0 o2_1 o2_2 o5_0 o5_1 o5_2) Gj U):Gj [VB x6,VI x7,VI x8] [.cells [o0_0,VI o0_1],.cells [VS o2_0,o2_1,VS o2_2],.cells [VS o5_0,.any,VS o5_2],.vec 1 o5_1] U :=
 gQ LS h
def Ls(a0:AV)(a1:AV):Tree :=
 .call 86 [.agg [a0,.v (.pointer none)]] [] fun r1 o1=>NT r1<|.ai ((r1.comp 0)=.agg (r1.comp 0).cs/\(r1.comp 0).cs.length=2/\bF [.ptr,.ptr] ((r1.comp 0).cs) 0)<|NP (r1.comp 1)<|NZ a1<|NZ a1<|dR (a1.deref.drop 2)<|.call 87 [.agg [((r1.comp 0).cs.getD 0 .any),((r1.comp 0).cs.getD 1 .any)],((a1.deref.drop 2).hA),.agg [VS (mk []),(r1.comp 1)]] [] fun r2 o2=>NL r2<|.done 0 [r2] []
theorem Si(a0:AV)(a1:AV)(ha0:LK.has .ptr a0)(ha1:LK.has .ptr a1)(h:di 21 (Ls a0 a1) R):an Tryz.prog 68 [a0,a1] [] R :=
 uQ (ag (bB ha0) (ag (bB ha1) aC)) (oQ [] Tryz.f68 h)
def Jf(a0:ByteArray)(a1:ByteArray):Tree :=
 .call 88 [VS a0] [] fun r1 o1=>NT r1<|.ai ((r1.comp 0)=.agg (r1.comp 0).cs/\(r1.comp 0).cs.length=2/\bF [.str,.sl] ((r1.comp 0).cs) 0)<|NB (r1.comp 1)<|.call 89 [VS a1] [] fun r2 o2=>NT r2<|.ai ((r2.comp 0)=.agg (r2.comp 0).cs/\(r2.comp 0).cs.length=2/\bF [.str,.sl] ((r2.comp 0).cs) 0)<|NB (r2.comp 1)<|.test (!((r1.comp 1).toBool)) (.done 0 [.cD [.sl [],VB false]] []) (.call 90 [VS a0,VS a1,VI 100] [] fun r3 o3=>NB r3<|.test (!r3.toBool) (.done 0 [.cD [.sl [],VB false]] []) (NG ((r1.comp 0).cs.getD 1 .any) 2 2<|NE (((r1.comp 0).cs.getD 1 .any).ix (2:Int))<|NG ((r1.comp 0).cs.getD 1 .any) 1 2<|lB (((r1.comp 0).cs.getD 1 .any).ix (1:Int))<|NG ((r2.comp 0).cs.getD 1 .any) 1 2<|NE (((r2.comp 0).cs.getD 1 .any).ix (1:Int))<|.call 92 [.agg [VS (((((r1.comp 0).cs.getD 1 .any).ix (2:Int)).getD 0 .any).ah),((((r1.comp 0).cs.getD 1 .any).ix (2:Int)).getD 1 .any)],VS (((((r1.comp 0).cs.getD 1 .any).ix (1:Int)).hA).ah),.agg [VS (((((r2.comp 0).cs.getD 1 .any).ix (1:Int)).getD 0 .any).ah),((((r2.comp 0).cs.getD 1 .any).ix (1:Int)).getD 1 .any)]] [] fun r4 o4=>NL r4<|.call 91 [r4] [] fun r5 o5=>NL r5<|.done 0 [.cD [r5,VB true]] []))
theorem Re(a0:ByteArray)(a1:ByteArray)(h:di 44 (Jf a0 a1) R):an Tryz.prog 69 [VS a0,VS a1] [] R :=
 uQ (ag (aw _) (ag (aw _) aC)) (oQ [] Tryz.f69 h)
def G5:LI:={hd:={refs:=[(1,1),(2,2)],co:=[(1,[.lk .str,.lk .sl,.lk .str]),(2,[.lk .str,.lk .sl,.lk .str])]},xs:={refs:=[(1,1),(2,2)],co:=[(1,[.lk .str,.lk .sl,.lk .str]),(2,[.lk .str,.lk .sl,.lk .str])]},rt:={bV:=[(3,.k .bool)],refs:=[(2,2)],co:=[(2,[.lk .str,.lk .sl,.lk .str])]},ex:=0}
def Kl:Code:=cF (cC Tryz.f70) 1
def Nb:List (Nat×LI):=[(1,G5)]
def LU(a0_0:ByteArray)(a0_1:AV)(a0_2:ByteArray):Tree :=
 .loop Kl G5 [] [.cells [VS a0_0,a0_1,VS a0_2],.cells [VS (mk []),.v (.slice none 0 0),VS (mk [])]] (fun y2 q2=>.ai ((q2.hO)=.cells (q2.hO).cs)<|.ai (ac [.lk .str,.lk .sl,.lk .str] ((q2.hO).cs) 0 q2.tail)<|.ai (((q2.tail.drop 0).hO)=.cells ((q2.tail.drop 0).hO).cs)<|.ai (ac [.lk .str,.lk .sl,.lk .str] (((q2.tail.drop 0).hO).cs) 0 ((q2.tail.drop 0).tail))<|.done 0 [.cD [.agg [VS (((q2.hO).cs.getD 0 .any).ah),((q2.hO).cs.getD 1 .any),VS (((q2.hO).cs.getD 2 .any).ah)],VB true]] []) (fun y2 q2=>NB (y2.hA)<|.ai ((q2.hO)=.cells (q2.hO).cs)<|.ai (ac [.lk .str,.lk .sl,.lk .str] ((q2.hO).cs) 0 q2.tail)<|.done 0 [.cD [.agg [VS (((q2.hO).cs.getD 0 .any).ah),((q2.hO).cs.getD 1 .any),VS (((q2.hO).cs.getD 2 .any).ah)],VB ((y2.hA).toBool)]] [])
theorem Sn(a0_0:ByteArray)(a0_1:AV)(a0_2:ByteArray)(ha0_1:LK.has .sl a0_1)(h:di 20 (LU a0_0 a0_1 a0_2) R):an Tryz.prog 70 [.agg [VS a0_0,a0_1,VS a0_2]] [] R :=
 uQ (ag (cf (ag (aw _) (ag (bU ha0_1) (ag (aw _) aC)))) aC) (oQ Nb Tryz.f70 h)
def Gg(o1_0:ByteArray)(o1_1:AV)(o1_2:ByteArray)(o2_0:ByteArray)(o2_1:AV)(o2_2:ByteArray):Tree :=
 .ai (Ob.cells [VS o1_0,o1_1,VS o1_2]=.cells [VS o1_0,o1_1,VS o1_2])<|.ai (ac [.lk .str,.lk .sl,.lk .str] [VS o1_0,o1_1,VS o1_2] 0 [.cells [VS o2_0,o2_1,VS o2_2]])<|.ai (Ob.cells [VS o2_0,o2_1,VS o2_2]=.cells [VS o2_0,o2_1,VS o2_2])<|.ai (ac [.lk .str,.lk .sl,.lk .str] [VS o2_0,o2_1,VS o2_2] 0 [])<|NL o1_1<|.test (decide ((o1_1.aP.length:Int)>(0:Int))) (.call 43 [.agg [VS o1_0,o1_1,VS o1_2]] [] fun r1 o1=>NT r1<|.ai ((r1.comp 0)=.agg (r1.comp 0).cs/\(r1.comp 0).cs.length=3/\bF [.str,.sl,.str] ((r1.comp 0).cs) 0)<|NB (r1.comp 1)<|.test (!((r1.comp 1).toBool)) (.done 2 [VB false] [.cells [VS o1_0,o1_1,VS o1_2]]) (.done 0 [] [.cells [VS (((r1.comp 0).cs.getD 0 .any).ah),((r1.comp 0).cs.getD 1 .any),VS (((r1.comp 0).cs.getD 2 .any).ah)],.cells [VS o2_0,o2_1,VS o2_2]])) (.done 1 [] [.cells [VS o1_0,o1_1,VS o1_2],.cells [VS o2_0,o2_1,VS o2_2]])
abbrev FK:=cB Tryz.prog 20 Kl G5
theorem N5(o1_0:ByteArray)(o1_1:AV)(o1_2:ByteArray)(o2_0:ByteArray)(o2_1:AV)(o2_2:ByteArray)(h:ka 20 (Gg o1_0 o1_1 o1_2 o2_0 o2_1 o2_2) FK U):FK [] [.cells [VS o1_0,o1_1,VS o1_2],.cells [VS o2_0,o2_1,VS o2_2]] U :=
 gQ Nb h
def Mo(a0:ByteArray)(a1:ByteArray)(a2:Int):Tree :=
 .call 93 [VS a0] [] fun r1 o1=>NP r1<|.call 94 [VS a1] [] fun r2 o2=>NP r2<|NP r1<|.test r1.isNil (.done 0 [.cD [r1,.v (.pointer none)]] []) (NP r2<|.test r2.isNil (.done 0 [.cD [r1,.v (.pointer none)]] []) (.test (decide (a2<(0:Int))) (.done 0 [.cD [r1,.v (.pointer none)]] []) (.test (decide (a2>(100:Int))) (.done 0 [.cD [r1,.v (.pointer none)]] []) (.call 95 [.agg [r1,.v (.pointer none)],r2,VI a2] [] fun r3 o3=>NB r3<|.test (!r3.toBool) (.done 0 [.cD [r1,.v (.pointer none)]] []) (.done 0 [.cD [r1,r2]] [])))))
theorem Pa(a0:ByteArray)(a1:ByteArray)(a2:Int)(h:di 39 (Mo a0 a1 a2) R):an Tryz.prog 71 [VS a0,VS a1,VI a2] [] R :=
 uQ (ag (aw _) (ag (aw _) (ag (aw _) aC))) (oQ [] Tryz.f71 h)
def Gf:LI:={hd:={bV:=[(3,.k .str),(7,.k (.int .i64))],refs:=[(1,1)],co:=[(1,[.lk .str,.lk .sl,.lk .str])]},xs:={},rt:={bV:=[(2,.k .bool)]},ex:=0}
def I0:Code:=cF (cC Tryz.f72) 6
def OK:List (Nat×LI):=[(6,Gf)]
def K6(a0_0:ByteArray)(a0_1:AV)(a0_2:ByteArray):Tree :=
 .call 96 [VS a0_0] [] fun r1 o1=>NT r1<|NS (r1.comp 0)<|NB (r1.comp 1)<|.call 88 [VS a0_0] [] fun r2 o2=>NT r2<|.ai ((r2.comp 0)=.agg (r2.comp 0).cs/\(r2.comp 0).cs.length=2/\bF [.str,.sl] ((r2.comp 0).cs) 0)<|NB (r2.comp 1)<|.test (!((r1.comp 1).toBool)) (.done 0 [VB false] []) (.test (!((r2.comp 1).toBool)) (.done 0 [VB false] []) (NL a0_1<|.test (decide ((a0_1.aP.length:Int)>(50:Int))) (.done 0 [VB false] []) (.call 90 [VS a0_0,VS a0_2,VI 100] [] fun r3 o3=>NB r3<|.test (!r3.toBool) (.done 0 [VB false] []) (.loop I0 Gf [VS ((r1.comp 0).ah),VI 0] [.cells [VS a0_0,a0_1,VS a0_2]] (fun y5 q5=>.done 0 [VB true] []) (fun y5 q5=>NB (y5.hA)<|.done 0 [VB ((y5.hA).toBool)] [])))))
theorem Sg(a0_0:ByteArray)(a0_1:AV)(a0_2:ByteArray)(ha0_1:LK.has .sl a0_1)(h:di 55 (K6 a0_0 a0_1 a0_2) R):an Tryz.prog 72 [.agg [VS a0_0,a0_1,VS a0_2]] [] R :=
 uQ (ag (cf (ag (aw _) (ag (bU ha0_1) (ag (aw _) aC)))) aC) (oQ OK Tryz.f72 h)
def HL(x3:ByteArray)(x7:Int)(o1_0:ByteArray)(o1_1:AV)(o1_2:ByteArray):Tree :=
 NS (VS x3)<|NI (VI x7)<|.ai (Ob.cells [VS o1_0,o1_1,VS o1_2]=.cells [VS o1_0,o1_1,VS o1_2])<|.ai (ac [.lk .str,.lk .sl,.lk .str] [VS o1_0,o1_1,VS o1_2] 0 [])<|NL o1_1<|.test (decide (x7<(o1_1.aP.length:Int))) (NG o1_1 x7 1<|lB (o1_1.ix x7)<|.call 90 [VS x3,VS (((o1_1.ix x7).hA).ah),VI 100] [] fun r1 o1=>NB r1<|.test (!r1.toBool) (.done 2 [VB false] []) (.done 0 [VS x3,VI (IntKind.wrap .i64 (x7+1))] [.cells [VS o1_0,o1_1,VS o1_2]])) (.done 1 [] [])
abbrev II:=cB Tryz.prog 55 I0 Gf
theorem KF(x3:ByteArray)(x7:Int)(o1_0:ByteArray)(o1_1:AV)(o1_2:ByteArray)(h:ka 55 (HL x3 x7 o1_0 o1_1 o1_2) II U):II [VS x3,VI x7] [.cells [VS o1_0,o1_1,VS o1_2]] U :=
 gQ OK h
def Og(a0:ByteArray)(a1:ByteArray)(a2:ByteArray):Tree :=
 .call 88 [VS a0] [] fun r1 o1=>NT r1<|.ai ((r1.comp 0)=.agg (r1.comp 0).cs/\(r1.comp 0).cs.length=2/\bF [.str,.sl] ((r1.comp 0).cs) 0)<|NB (r1.comp 1)<|.call 96 [VS a0] [] fun r2 o2=>NT r2<|NS (r2.comp 0)<|NB (r2.comp 1)<|.test (!((r1.comp 1).toBool)) (.done 0 [.cD [VS (mk []),VB false]] []) (.test (!((r2.comp 1).toBool)) (.done 0 [.cD [VS (mk []),VB false]] []) (.call 90 [VS ((r2.comp 0).ah),VS a1,VI 100] [] fun r3 o3=>NB r3<|.test (!r3.toBool) (.done 0 [.cD [VS (mk []),VB false]] []) (.call 90 [VS a0,VS a2,VI 100] [] fun r4 o4=>NB r4<|.test (!r4.toBool) (.done 0 [.cD [VS (mk []),VB false]] []) (.call 89 [VS a1] [] fun r5 o5=>NT r5<|.ai ((r5.comp 0)=.agg (r5.comp 0).cs/\(r5.comp 0).cs.length=2/\bF [.str,.sl] ((r5.comp 0).cs) 0)<|NB (r5.comp 1)<|.call 89 [VS a2] [] fun r6 o6=>NT r6<|.ai ((r6.comp 0)=.agg (r6.comp 0).cs/\(r6.comp 0).cs.length=2/\bF [.str,.sl] ((r6.comp 0).cs) 0)<|NB (r6.comp 1)<|NG ((r1.comp 0).cs.getD 1 .any) 2 2<|NE (((r1.comp 0).cs.getD 1 .any).ix (2:Int))<|NG ((r1.comp 0).cs.getD 1 .any) 1 2<|lB (((r1.comp 0).cs.getD 1 .any).ix (1:Int))<|.call 99 [.agg [VS (((((r1.comp 0).cs.getD 1 .any).ix (2:Int)).getD 0 .any).ah),((((r1.comp 0).cs.getD 1 .any).ix (2:Int)).getD 1 .any)],VS (((((r1.comp 0).cs.getD 1 .any).ix (1:Int)).hA).ah),.agg [VS (((r5.comp 0).cs.getD 0 .any).ah),((r5.comp 0).cs.getD 1 .any)],.agg [VS (((r6.comp 0).cs.getD 0 .any).ah),((r6.comp 0).cs.getD 1 .any)]] [] fun r7 o7=>NA r7<|.call 98 [VS (mk [102]),.sl [[VS ((r7.cs.getD 0 .any).ah),(r7.cs.getD 1 .any)]]] [] fun r8 o8=>NA r8<|.call 97 [.agg [VS ((r8.cs.getD 0 .any).ah),(r8.cs.getD 1 .any)]] [] fun r9 o9=>NS r9<|.call 90 [VS a0,VS r9.ah,VI 100] [] fun r10 o10=>NB r10<|.test (!r10.toBool) (.done 0 [.cD [VS (mk []),VB false]] []) (.done 0 [.cD [VS r9.ah,VB true]] [])))))
theorem QE(a0:ByteArray)(a1:ByteArray)(a2:ByteArray)(h:di 75 (Og a0 a1 a2) R):an Tryz.prog 73 [VS a0,VS a1,VS a2] [] R :=
 uQ (ag (aw _) (ag (aw _) (ag (aw _) aC))) (oQ [] Tryz.f73 h)
def Mg(a0:AV)(a1:AV)(a2:AV):Tree :=
 .call 86 [.agg [a0,.v (.pointer none)]] [] fun r1 o1=>NT r1<|.ai ((r1.comp 0)=.agg (r1.comp 0).cs/\(r1.comp 0).cs.length=2/\bF [.ptr,.ptr] ((r1.comp 0).cs) 0)<|NP (r1.comp 1)<|.call 101 [.agg [((r1.comp 0).cs.getD 0 .any),((r1.comp 0).cs.getD 1 .any)],a1,.agg [VS (mk []),(r1.comp 1)],a2] [] fun r2 o2=>NP r2<|.call 100 [.v (.int .u8 102),r2] [] fun r3 o3=>NP r3<|.done 0 [r3] []
theorem Pc(a0:AV)(a1:AV)(a2:AV)(ha0:LK.has .ptr a0)(ha1:LK.has .ptr a1)(ha2:LK.has .ptr a2)(h:di 22 (Mg a0 a1 a2) R):an Tryz.prog 74 [a0,a1,a2] [] R :=
 uQ (ag (bB ha0) (ag (bB ha1) (ag (bB ha2) aC))) (oQ [] Tryz.f74 h)
def xB(a0:AV):Tree :=
 NZ a0<|NZ a0<|dR (a0.deref.drop 2)<|NP ((a0.deref.drop 2).hA)<|.test (!((a0.deref.drop 2).hA).isNil) (NZ a0<|NZ a0<|dR (a0.deref.drop 2)<|.call 75 [((a0.deref.drop 2).hA)] [] fun r1 o1=>NI r1<|NZ a0<|NZ a0<|dR (a0.deref.drop 3)<|NP ((a0.deref.drop 3).hA)<|.test (!((a0.deref.drop 3).hA).isNil) (NZ a0<|NZ a0<|dR (a0.deref.drop 3)<|.call 75 [((a0.deref.drop 3).hA)] [] fun r2 o2=>NI r2<|.done 0 [VI (IntKind.wrap .i64 ((IntKind.wrap .i64 (1+r1.toInt))+r2.toInt))] []) (.done 0 [VI (IntKind.wrap .i64 (1+r1.toInt))] [])) (NZ a0<|NZ a0<|dR (a0.deref.drop 3)<|NP ((a0.deref.drop 3).hA)<|.test (!((a0.deref.drop 3).hA).isNil) (NZ a0<|NZ a0<|dR (a0.deref.drop 3)<|.call 75 [((a0.deref.drop 3).hA)] [] fun r3 o3=>NI r3<|.done 0 [VI (IntKind.wrap .i64 (1+r3.toInt))] []) (.done 0 [VI 1] []))
theorem zz(a0:AV)(ha0:LK.has .ptr a0)(h:di 29 (xB a0) R):an Tryz.prog 75 [a0] [] R :=
 uQ (ag (bB ha0) aC) (oQ [] Tryz.f75 h)
def Io:LI:={hd:={bV:=[(0,.k .sl),(7,.k (.int .i64)),(8,.k (.int .i64))],co:=[(0,[.lk .str])],At:=[(1,77,[0])]},xs:={co:=[(0,[.lk .str])]},rt:={bV:=[(4,.k (.int .i64))],co:=[(0,[.lk .str])]},ex:=0,fx:=[0]}
def MG:Code:=cF (cC Tryz.f76) 2
def Lw:List (Nat×LI):=[(2,Io)]
def MR(a0:AV)(a1_0_0:ByteArray):Tree :=
 NL a0<|.loop MG Io [a0,VI (a0.aP.length:Int),VI 0] [.cells [VS a1_0_0]] (fun y2 q2=>.ai ((q2.hO)=.cells (q2.hO).cs)<|.ai (ac [.lk .str] ((q2.hO).cs) 0 q2.tail)<|.done 0 [VI (-1)] [.cells [VS (((q2.hO).cs.getD 0 .any).ah)]]) (fun y2 q2=>NI (y2.hA)<|.ai ((q2.hO)=.cells (q2.hO).cs)<|.ai (ac [.lk .str] ((q2.hO).cs) 0 q2.tail)<|.done 0 [VI ((y2.hA).toInt)] [.cells [VS (((q2.hO).cs.getD 0 .any).ah)]])
theorem RV(a0:AV)(a1_0_0:ByteArray)(ha0:LK.has .sl a0)(h:di 19 (MR a0 a1_0_0) R):an Tryz.prog 76 [a0,.fn 77 [.ref 0 0]] [.cells [VS a1_0_0]] R :=
 an.mX (bx (ca (ag (aw _) aC)) ct) (an.up (ag (bU ha0) (ag (aw _) aC)) (oF Lw {mu:=[(1,.fn [some (.obj [.lk .str])])],own:=[]} Tryz.f76 h))
def F8(x0:AV)(x7:Int)(x8:Int)(o0_0:ByteArray):Tree :=
 NL x0<|NI (VI x7)<|NI (VI x8)<|.ai (Ob.cells [VS o0_0]=.cells [VS o0_0])<|.ai (ac [.lk .str] [VS o0_0] 0 [])<|.test (decide (x8<x7)) (NG x0 x8 2<|.ai (bF [.ptr,.ptr] (x0.ix x8) 0/\2<=(x0.ix x8).length)<|.call 77 [.agg [((x0.ix x8).getD 0 .any),((x0.ix x8).getD 1 .any)],.ref 0 0] [.cells [VS o0_0]] fun r1 o1=>.ai ((o1.hO)=.cells (o1.hO).cs)<|.ai (aL [.lk .str] ((o1.hO).cs) 0 1 o1.tail)<|NB r1<|.test r1.toBool (.done 2 [VI x8] [.cells [VS (((o1.hO).cs.getD 0 .any).ah)]]) (.done 0 [x0,VI x7,VI (IntKind.wrap .i64 (x8+1))] [.cells [VS (((o1.hO).cs.getD 0 .any).ah)]])) (.done 1 [] [.cells [VS o0_0]])
abbrev Gh:=cB Tryz.prog 19 MG Io
theorem I6(x0:AV)(x7:Int)(x8:Int)(o0_0:ByteArray)(h:ka 19 (F8 x0 x7 x8 o0_0) Gh U):Gh [x0,VI x7,VI x8] [.cells [VS o0_0]] U :=
 gQ Lw h
def Oi(a0_0:AV)(a0_1:AV)(a1_0:ByteArray):Tree :=
 .call 66 [a0_0] [] fun r1 o1=>NS r1<|.done 0 [VB (ae r1.ah==ae a1_0)] [.cells [VS a1_0]]
theorem RG(a0_0:AV)(a0_1:AV)(a1_0:ByteArray)(ha0_0:LK.has .ptr a0_0)(ha0_1:LK.has .ptr a0_1)(h:di 9 (Oi a0_0 a0_1 a1_0) R):an Tryz.prog 77 [.agg [a0_0,a0_1],.ref 0 0] [.cells [VS a1_0]] R :=
 an.mX (bx (ca (ag (aw _) aC)) ct) (an.up (ag (cf (ag (bB ha0_0) (ag (bB ha0_1) aC))) (ag (aw _) aC)) (oF [] {mu:=[(1,.one (.obj [.lk .str]))],own:=[]} Tryz.f77 h))
def Lz(a0:AV)(a1:ByteArray):Tree :=
 .ai (LK.has .sl a0/\cy 1 a0.aP/\((([]:List (List AV)).length)+a0.aP.length)*16<=140737488355328)<|.ai (cy 1 [[VS a1]]/\(((([]:List (List AV))++a0.aP).length)+([[VS a1]]:List (List AV)).length)*16<=140737488355328)<|.done 0 [.vec 0] [.vec 1 ((([]:List (List AV))++a0.aP)++([[VS a1]]:List (List AV)))]
theorem Pn(a0:AV)(a1:ByteArray)(ha0:LK.has .sl a0)(h:di 11 (Lz a0 a1) R):an Tryz.prog 79 [a0,VS a1] [] R :=
 uQ (ag (bU ha0) (ag (aw _) aC)) (oF [] {mu:=[],own:=[0]} Tryz.f79 h)
def Md(a0_0:AV)(a0_1:Int):Tree :=
 .call 102 [.ref 0 0,.sl [[VS (mk [40,114,101,99,32,116,32,40,43,32,49,32,40,42,32,120,32,116,41,41,41])],[VS (mk [40,114,101,99,32,116,32,40,43,32,120,32,40,42,32,116,32,116,41,41,41])],[VS (mk [40,114,101,99,32,116,32,40,43,32,49,32,40,42,32,116,32,40,42,32,120,32,116,41,41,41,41])],[VS (mk [40,114,101,99,32,116,32,40,43,32,49,32,116,41,41])],[VS (mk [40,114,101,99,32,116,32,40,42,32,120,32,40,114,101,99,32,116,49,32,40,43,32,49,32,40,42,32,116,32,116,49,41,41,41,41,41])],[VS (mk [40,114,101,99,32,116,48,32,40,43,32,40,42,32,120,32,121,41,32,40,43,32,116,48,32,40,42,32,116,48,32,116,48,41,41,41,41])],[VS (mk [40,114,101,99,32,116,32,40,43,32,121,32,40,42,32,116,32,40,42,32,116,32,116,41,41,41,41])]]] [.cells [a0_0,VI a0_1]] fun r1 o1=>.ai ((o1.hO)=.cells (o1.hO).cs)<|.ai (aL [.lk .sl,.lk (.int .i64)] ((o1.hO).cs) 0 1 o1.tail)<|NS r1<|.done 0 [VS r1.ah] [.cells [((o1.hO).cs.getD 0 .any),VI (((o1.hO).cs.getD 1 .any).toInt)]]
theorem Se(a0_0:AV)(a0_1:Int)(ha0_0:LK.has .sl a0_0)(h:di 6 (Md a0_0 a0_1) R):an Tryz.prog 80 [.ref 0 0] [.cells [a0_0,VI a0_1]] R :=
 an.mX (bx (ca (ag (bU ha0_0) (ag (aw _) aC))) ct) (an.up (ag (aw _) aC) (oF [] {mu:=[(0,.one (.obj [.lk .sl,.lk (.int .i64)]))],own:=[]} Tryz.f80 h))
def J3(a0_0:AV)(a0_1:Int)(a1:Int):Tree :=
 .test (decide (a1<(1:Int))) (.done 0 [VI 0] [.cells [a0_0,VI (IntKind.wrap .i64 (a0_1+1))]]) (NL a0_0<|.test ((a0_0.aP.length:Int)==(0:Int)) (.done 0 [VI 0] [.cells [a0_0,VI (IntKind.wrap .i64 (a0_1+1))]]) (NL a0_0<|.test (decide ((IntKind.wrap .i64 ((IntKind.wrap .i64 (a0_1+1))-1))<(a0_0.aP.length:Int))) (.ai (LK.has .sl a0_0/\0<=(IntKind.wrap .i64 ((IntKind.wrap .i64 (a0_1+1))-1))/\(IntKind.wrap .i64 ((IntKind.wrap .i64 (a0_1+1))-1))<a0_0.aP.length/\(a0_0.ix (IntKind.wrap .i64 ((IntKind.wrap .i64 (a0_1+1))-1))).length=1)<|.ai (LK.has (.int .u8) ((a0_0.ix (IntKind.wrap .i64 ((IntKind.wrap .i64 (a0_1+1))-1))).hA)/\1<=(a0_0.ix (IntKind.wrap .i64 ((IntKind.wrap .i64 (a0_1+1))-1))).length)<|.ai (¬a1=0)<|.done 0 [VI (dH (IntKind.wrap .i64 (((a0_0.ix (IntKind.wrap .i64 ((IntKind.wrap .i64 (a0_1+1))-1))).hA).toInt)) a1)] [.cells [a0_0,VI (IntKind.wrap .i64 (a0_1+1))]]) (NL a0_0<|.ai (¬(a0_0.aP.length:Int)=0)<|.ai (LK.has .sl a0_0/\0<=(dH (IntKind.wrap .i64 ((IntKind.wrap .i64 (a0_1+1))-1)) (a0_0.aP.length:Int))/\(dH (IntKind.wrap .i64 ((IntKind.wrap .i64 (a0_1+1))-1)) (a0_0.aP.length:Int))<a0_0.aP.length/\(a0_0.ix (dH (IntKind.wrap .i64 ((IntKind.wrap .i64 (a0_1+1))-1)) (a0_0.aP.length:Int))).length=1)<|.ai (LK.has (.int .u8) ((a0_0.ix (dH (IntKind.wrap .i64 ((IntKind.wrap .i64 (a0_1+1))-1)) (a0_0.aP.length:Int))).hA)/\1<=(a0_0.ix (dH (IntKind.wrap .i64 ((IntKind.wrap .i64 (a0_1+1))-1)) (a0_0.aP.length:Int))).length)<|NL a0_0<|.ai (¬(a0_0.aP.length:Int)=0)<|.ai (LK.has .sl a0_0/\0<=(dH (IntKind.wrap .i64 ((IntKind.wrap .i64 ((IntKind.wrap .i64 ((IntKind.wrap .i64 (a0_1+1))-1))*7))+3)) (a0_0.aP.length:Int))/\(dH (IntKind.wrap .i64 ((IntKind.wrap .i64 ((IntKind.wrap .i64 ((IntKind.wrap .i64 (a0_1+1))-1))*7))+3)) (a0_0.aP.length:Int))<a0_0.aP.length/\(a0_0.ix (dH (IntKind.wrap .i64 ((IntKind.wrap .i64 ((IntKind.wrap .i64 ((IntKind.wrap .i64 (a0_1+1))-1))*7))+3)) (a0_0.aP.length:Int))).length=1)<|.ai (LK.has (.int .u8) ((a0_0.ix (dH (IntKind.wrap .i64 ((IntKind.wrap .i64 ((IntKind.wrap .i64 ((IntKind.wrap .i64 (a0_1+1))-1))*7))+3)) (a0_0.aP.length:Int))).hA)/\1<=(a0_0.ix (dH (IntKind.wrap .i64 ((IntKind.wrap .i64 ((IntKind.wrap .i64 ((IntKind.wrap .i64 (a0_1+1))-1))*7))+3)) (a0_0.aP.length:Int))).length)<|NL a0_0<|.ai (¬(a0_0.aP.length:Int)=0)<|.ai (¬(64:Int)=0)<|.ai (¬a1=0)<|.done 0 [VI (dH (Bl .i64 (IntKind.wrap .i64 ((IntKind.wrap .i64 ((IntKind.wrap .i64 ((IntKind.wrap .i64 ((IntKind.wrap .i64 (((a0_0.ix (dH (IntKind.wrap .i64 ((IntKind.wrap .i64 (a0_1+1))-1)) (a0_0.aP.length:Int))).hA).toInt))*131))+(IntKind.wrap .i64 ((IntKind.wrap .i64 (((a0_0.ix (dH (IntKind.wrap .i64 ((IntKind.wrap .i64 ((IntKind.wrap .i64 ((IntKind.wrap .i64 (a0_1+1))-1))*7))+3)) (a0_0.aP.length:Int))).hA).toInt))*1117))))+(IntKind.wrap .i64 ((IntKind.wrap .i64 ((IntKind.wrap .i64 (a0_1+1))-1))*29))))+(IntKind.wrap .i64 ((IntKind.wrap .i64 (Int.tdiv (IntKind.wrap .i64 ((IntKind.wrap .i64 (a0_1+1))-1)) (a0_0.aP.length:Int)))*53)))) (IntKind.wrap .i64 (Int.tdiv (IntKind.wrap .i64 ((IntKind.wrap .i64 ((IntKind.wrap .i64 ((IntKind.wrap .i64 ((IntKind.wrap .i64 (((a0_0.ix (dH (IntKind.wrap .i64 ((IntKind.wrap .i64 (a0_1+1))-1)) (a0_0.aP.length:Int))).hA).toInt))*131))+(IntKind.wrap .i64 ((IntKind.wrap .i64 (((a0_0.ix (dH (IntKind.wrap .i64 ((IntKind.wrap .i64 ((IntKind.wrap .i64 ((IntKind.wrap .i64 (a0_1+1))-1))*7))+3)) (a0_0.aP.length:Int))).hA).toInt))*1117))))+(IntKind.wrap .i64 ((IntKind.wrap .i64 ((IntKind.wrap .i64 (a0_1+1))-1))*29))))+(IntKind.wrap .i64 ((IntKind.wrap .i64 (Int.tdiv (IntKind.wrap .i64 ((IntKind.wrap .i64 (a0_1+1))-1)) (a0_0.aP.length:Int)))*53)))) 64))) a1)] [.cells [a0_0,VI (IntKind.wrap .i64 (a0_1+1))]])))
theorem O9(a0_0:AV)(a0_1:Int)(a1:Int)(ha0_0:LK.has .sl a0_0)(h:di 99 (J3 a0_0 a0_1 a1) R):an Tryz.prog 81 [.ref 0 0,VI a1] [.cells [a0_0,VI a0_1]] R :=
 an.mX (bx (ca (ag (bU ha0_0) (ag (aw _) aC))) ct) (an.up (ag (aw _) (ag (aw _) aC)) (oF [] {mu:=[(0,.one (.obj [.lk .sl,.lk (.int .i64)]))],own:=[]} Tryz.f81 h))
def OI(a0_0:AV)(a0_1:Int):Tree :=
 .call 103 [.ref 0 0] [.cells [a0_0,VI a0_1]] fun r1 o1=>.ai ((o1.hO)=.cells (o1.hO).cs)<|.ai (aL [.lk .sl,.lk (.int .i64)] ((o1.hO).cs) 0 1 o1.tail)<|NS r1<|.call 83 [.ref 0 0,VS r1.ah] [.cells [((o1.hO).cs.getD 0 .any),VI (((o1.hO).cs.getD 1 .any).toInt)]] fun r2 o2=>.ai ((o2.hO)=.cells (o2.hO).cs)<|.ai (aL [.lk .sl,.lk (.int .i64)] ((o2.hO).cs) 0 1 o2.tail)<|NS r2<|.done 0 [.cD [VS r1.ah,VS r2.ah]] [.cells [((o2.hO).cs.getD 0 .any),VI (((o2.hO).cs.getD 1 .any).toInt)]]
theorem Qh(a0_0:AV)(a0_1:Int)(ha0_0:LK.has .sl a0_0)(h:di 11 (OI a0_0 a0_1) R):an Tryz.prog 82 [.ref 0 0] [.cells [a0_0,VI a0_1]] R :=
 an.mX (bx (ca (ag (bU ha0_0) (ag (aw _) aC))) ct) (an.up (ag (aw _) aC) (oF [] {mu:=[(0,.one (.obj [.lk .sl,.lk (.int .i64)]))],own:=[]} Tryz.f82 h))
def IP(a0_0:AV)(a0_1:Int)(a1:ByteArray):Tree :=
 .call 104 [VS a1] [] fun r1 o1=>NT r1<|.ai ((r1.comp 0)=.agg (r1.comp 0).cs/\(r1.comp 0).cs.length=2/\bF [.str,.sl] ((r1.comp 0).cs) 0)<|NB (r1.comp 1)<|.test (!((r1.comp 1).toBool)) (.call 102 [.ref 0 0,.sl [[VS (mk [])],[VS (mk [117])],[VS (mk [101,48])],[VS (mk [101,48,48])],[VS (mk [101,49,48,48])],[VS (mk [40,108,32,117,41])],[VS (mk [40,112,32,117,41])],[VS (mk [40,102,32,40,108,32,117,41,41])],[VS (mk [40,120,32,117,41])],[VS (mk [40,108,32,32,117,41])]]] [.cells [a0_0,VI a0_1]] fun r2 o2=>.ai ((o2.hO)=.cells (o2.hO).cs)<|.ai (aL [.lk .sl,.lk (.int .i64)] ((o2.hO).cs) 0 1 o2.tail)<|NS r2<|.done 0 [VS r2.ah] [.cells [((o2.hO).cs.getD 0 .any),VI (((o2.hO).cs.getD 1 .any).toInt)]]) (.call 81 [.ref 0 0,VI 16] [.cells [a0_0,VI a0_1]] fun r3 o3=>.ai ((o3.hO)=.cells (o3.hO).cs)<|.ai (aL [.lk .sl,.lk (.int .i64)] ((o3.hO).cs) 0 1 o3.tail)<|NI r3<|.test (r3.toInt==(0:Int)) (.call 102 [.ref 0 0,.sl [[VS (mk [])],[VS (mk [117])],[VS (mk [101,48])],[VS (mk [101,48,48])],[VS (mk [101,49,48,48])],[VS (mk [40,108,32,117,41])],[VS (mk [40,112,32,117,41])],[VS (mk [40,102,32,40,108,32,117,41,41])],[VS (mk [40,120,32,117,41])],[VS (mk [40,108,32,32,117,41])]]] [.cells [((o3.hO).cs.getD 0 .any),VI (((o3.hO).cs.getD 1 .any).toInt)]] fun r4 o4=>.ai ((o4.hO)=.cells (o4.hO).cs)<|.ai (aL [.lk .sl,.lk (.int .i64)] ((o4.hO).cs) 0 1 o4.tail)<|NS r4<|.done 0 [VS r4.ah] [.cells [((o4.hO).cs.getD 0 .any),VI (((o4.hO).cs.getD 1 .any).toInt)]]) (.call 106 [.agg [VS (((r1.comp 0).cs.getD 0 .any).ah),((r1.comp 0).cs.getD 1 .any)],.v (.slice none 0 0)] [] fun r5 o5=>NA r5<|.call 81 [.ref 0 0,VI 5] [.cells [((o3.hO).cs.getD 0 .any),VI (((o3.hO).cs.getD 1 .any).toInt)]] fun r6 o6=>.ai ((o6.hO)=.cells (o6.hO).cs)<|.ai (aL [.lk .sl,.lk (.int .i64)] ((o6.hO).cs) 0 1 o6.tail)<|NI r6<|.call 105 [.ref 0 0,.agg [VS ((r5.cs.getD 0 .any).ah),(r5.cs.getD 1 .any)],VI (IntKind.wrap .i64 (5+r6.toInt))] [.cells [((o6.hO).cs.getD 0 .any),VI (((o6.hO).cs.getD 1 .any).toInt)]] fun r7 o7=>.ai ((o7.hO)=.cells (o7.hO).cs)<|.ai (aL [.lk .sl,.lk (.int .i64)] ((o7.hO).cs) 0 1 o7.tail)<|NA r7<|.call 97 [.agg [VS ((r7.cs.getD 0 .any).ah),(r7.cs.getD 1 .any)]] [] fun r8 o8=>NS r8<|.done 0 [VS r8.ah] [.cells [((o7.hO).cs.getD 0 .any),VI (((o7.hO).cs.getD 1 .any).toInt)]]))
theorem PO(a0_0:AV)(a0_1:Int)(a1:ByteArray)(ha0_0:LK.has .sl a0_0)(h:di 30 (IP a0_0 a0_1 a1) R):an Tryz.prog 83 [.ref 0 0,VS a1] [.cells [a0_0,VI a0_1]] R :=
 an.mX (bx (ca (ag (bU ha0_0) (ag (aw _) aC))) ct) (an.up (ag (aw _) (ag (aw _) aC)) (oF [] {mu:=[(0,.one (.obj [.lk .sl,.lk (.int .i64)]))],own:=[]} Tryz.f83 h))
def Oa(a0:ByteArray)(a1:ByteArray):Tree :=
 .call 107 [VS a0] [] fun r1 o1=>NP r1<|NP r1<|.test r1.isNil (.done 0 [.cD [.v (.pointer none),.v (.pointer none)]] []) (.call 71 [VS a0,VS a1,VI 100] [] fun r2 o2=>NT r2<|NP (r2.comp 0)<|NP (r2.comp 1)<|.done 0 [.cD [(r2.comp 0),(r2.comp 1)]] [])
theorem Qv(a0:ByteArray)(a1:ByteArray)(h:di 14 (Oa a0 a1) R):an Tryz.prog 84 [VS a0,VS a1] [] R :=
 uQ (ag (aw _) (ag (aw _) aC)) (oQ [] Tryz.f84 h)
def Nc(a0:ByteArray):Tree :=
 .call 108 [VS a0] [] fun r1 o1=>NP r1<|NP r1<|.test r1.isNil (.done 0 [.cD [VS (mk []),VB false]] []) (NZ r1<|NZ r1<|.ai (LK.has (.int .u8) (r1.deref.hA)/\1<=r1.deref.length)<|.test (((r1.deref.hA).toInt) != (114:Int)) (.done 0 [.cD [VS (mk []),VB false]] []) (.call 109 [r1] [] fun r2 o2=>NT r2<|NP (r2.comp 0)<|NB (r2.comp 1)<|.test (!((r2.comp 1).toBool)) (.done 0 [.cD [VS (mk []),VB false]] []) (.call 110 [(r2.comp 0)] [] fun r3 o3=>NT r3<|NS (r3.comp 0)<|NB (r3.comp 1)<|.done 0 [.cD [VS ((r3.comp 0).ah),VB ((r3.comp 1).toBool)]] [])))
theorem Pg(a0:ByteArray)(h:di 29 (Nc a0) R):an Tryz.prog 85 [VS a0] [] R :=
 uQ (ag (aw _) aC) (oQ [] Tryz.f85 h)
def NH(a0_0:AV)(a0_1:AV):Tree :=
 NZ a0_0<|NZ a0_0<|dR (a0_0.deref.drop 3)<|.done 0 [.cD [.agg [((a0_0.deref.drop 3).hA),.ptr [.ptr [a0_0,a0_1],a0_1]],.ptr [a0_0,a0_1]]] []
theorem Qi(a0_0:AV)(a0_1:AV)(ha0_0:LK.has .ptr a0_0)(ha0_1:LK.has .ptr a0_1)(h:di 20 (NH a0_0 a0_1) R):an Tryz.prog 86 [.agg [a0_0,a0_1]] [] R :=
 uQ (ag (cf (ag (bB ha0_0) (ag (bB ha0_1) aC))) aC) (oQ [] Tryz.f86 h)
def HW:LI:={hd:={bV:=[(97,.k .sl),(98,.k (.int .i64)),(99,.k (.int .i64))],refs:=[(3,3),(5,5),(7,7)],co:=[(3,[.lk .ptr,.lk .ptr]),(5,[.lk .str,.lk .ptr]),(7,[.vec 2])],At:=[(8,112,[7])]},xs:={refs:=[(7,7)],co:=[(7,[.vec 2])]},rt:={},ex:=1}
def Ki:Code:=cF (cC Tryz.f87) 18
def LL:List (Nat×LI):=[(18,HW)]
def Mt(a0_0:AV)(a0_1:AV)(a1:AV)(a2_0:ByteArray)(a2_1:AV):Tree :=
 .call 111 [.agg [VS a2_0,a2_1],.agg [a0_0,a0_1]] [] fun r1 o1=>NB r1<|.test r1.toBool (.done 0 [.sl [[.ptr [.v (.int .u8 117),VS (mk []),.v (.pointer none),.v (.pointer none)],a1]]] []) (NZ a0_0<|NZ a0_0<|.ai (LK.has (.int .u8) (a0_0.deref.hA)/\1<=a0_0.deref.length)<|.test (((a0_0.deref.hA).toInt)==(43:Int)) (.call 113 [.agg [a0_0,a0_1]] [] fun r2 o2=>.ai (r2=.agg r2.cs/\r2.cs.length=2/\bF [.ptr,.ptr] r2.cs 0)<|NZ a1<|NZ a1<|.ai (LK.has (.int .u8) (a1.deref.hA)/\1<=a1.deref.length)<|.test (((a1.deref.hA).toInt)==(114:Int)) (.call 114 [.agg [a0_0,a0_1]] [] fun r3 o3=>.ai (r3=.agg r3.cs/\r3.cs.length=2/\bF [.ptr,.ptr] r3.cs 0)<|NZ a1<|NZ a1<|dR (a1.deref.drop 2)<|.call 87 [.agg [(r3.cs.getD 0 .any),(r3.cs.getD 1 .any)],((a1.deref.drop 2).hA),.agg [VS a2_0,a2_1]] [] fun r4 o4=>NL r4<|.call 112 [r4,.fn 115 [.ref 0 0],.ref 1 0] [.cells [a1],.cells [.vec 2],.vec 2 []] fun r5 o5=>.ai ((o5.hO)=.cells (o5.hO).cs)<|.ai (aL [.lk .ptr] ((o5.hO).cs) 0 1 o5.tail)<|.ai ((o5.tail.hO)=.cells (o5.tail.hO).cs)<|.ai (aL [.vec 2] ((o5.tail.hO).cs) 0 2 o5.tail.tail)<|.done 0 [.sl ((o5.tail.tail.hO).es)] []) (NZ a1<|NZ a1<|dR (a1.deref.drop 2)<|.call 87 [.agg [(r2.cs.getD 0 .any),(r2.cs.getD 1 .any)],((a1.deref.drop 2).hA),.agg [VS a2_0,a2_1]] [] fun r6 o6=>NL r6<|.call 112 [r6,.fn 115 [.ref 0 0],.ref 1 0] [.cells [a1],.cells [.vec 2],.vec 2 []] fun r7 o7=>.ai ((o7.hO)=.cells (o7.hO).cs)<|.ai (aL [.lk .ptr] ((o7.hO).cs) 0 1 o7.tail)<|.ai ((o7.tail.hO)=.cells (o7.tail.hO).cs)<|.ai (aL [.vec 2] ((o7.tail.hO).cs) 0 2 o7.tail.tail)<|.done 0 [.sl ((o7.tail.tail.hO).es)] [])) (.test (((a0_0.deref.hA).toInt)==(42:Int)) (.call 113 [.agg [a0_0,a0_1]] [] fun r8 o8=>.ai (r8=.agg r8.cs/\r8.cs.length=2/\bF [.ptr,.ptr] r8.cs 0)<|NZ a1<|NZ a1<|dR (a1.deref.drop 2)<|.call 87 [.agg [(r8.cs.getD 0 .any),(r8.cs.getD 1 .any)],((a1.deref.drop 2).hA),.agg [VS a2_0,a2_1]] [] fun r9 o9=>NL r9<|.call 112 [r9,.fn 116 [.ref 0 0],.ref 1 0] [.cells [a1],.cells [.vec 2],.vec 2 []] fun r10 o10=>.ai ((o10.hO)=.cells (o10.hO).cs)<|.ai (aL [.lk .ptr] ((o10.hO).cs) 0 1 o10.tail)<|.ai ((o10.tail.hO)=.cells (o10.tail.hO).cs)<|.ai (aL [.vec 2] ((o10.tail.hO).cs) 0 2 o10.tail.tail)<|.call 114 [.agg [a0_0,a0_1]] [] fun r11 o11=>.ai (r11=.agg r11.cs/\r11.cs.length=2/\bF [.ptr,.ptr] r11.cs 0)<|NZ ((o10.hO).cs.getD 0 .any)<|NZ ((o10.hO).cs.getD 0 .any)<|dR (((o10.hO).cs.getD 0 .any).deref.drop 3)<|.call 87 [.agg [(r11.cs.getD 0 .any),(r11.cs.getD 1 .any)],((((o10.hO).cs.getD 0 .any).deref.drop 3).hA),.agg [VS a2_0,a2_1]] [] fun r12 o12=>NL r12<|.call 112 [r12,.fn 118 [.ref 0 0],.ref 1 0] [.cells [((o10.hO).cs.getD 0 .any)],.cells [.vec 2],.vec 2 ((o10.tail.tail.hO).es)] fun r13 o13=>.ai ((o13.hO)=.cells (o13.hO).cs)<|.ai (aL [.lk .ptr] ((o13.hO).cs) 0 1 o13.tail)<|.ai ((o13.tail.hO)=.cells (o13.tail.hO).cs)<|.ai (aL [.vec 2] ((o13.tail.hO).cs) 0 2 o13.tail.tail)<|.done 0 [.sl ((o13.tail.tail.hO).es)] []) (.test (((a0_0.deref.hA).toInt)==(114:Int)) (.call 86 [.agg [a0_0,a0_1]] [] fun r14 o14=>NT r14<|.ai ((r14.comp 0)=.agg (r14.comp 0).cs/\(r14.comp 0).cs.length=2/\bF [.ptr,.ptr] ((r14.comp 0).cs) 0)<|NP (r14.comp 1)<|NZ a1<|NZ a1<|dR (a1.deref.drop 2)<|.call 87 [.agg [((r14.comp 0).cs.getD 0 .any),((r14.comp 0).cs.getD 1 .any)],((a1.deref.drop 2).hA),.agg [VS a2_0,a2_1]] [] fun r15 o15=>NL r15<|.call 112 [r15,.v (.func (.func 119) #[] #[]),.ref 0 0] [.cells [.vec 1],.vec 2 []] fun r16 o16=>.ai ((o16.hO)=.cells (o16.hO).cs)<|.ai (aL [.vec 2] ((o16.hO).cs) 0 1 o16.tail)<|NZ a1<|NZ a1<|dR (a1.deref.drop 2)<|.call 87 [.agg [((r14.comp 0).cs.getD 0 .any),((r14.comp 0).cs.getD 1 .any)],((a1.deref.drop 2).hA),.agg [VS (mk []),(r14.comp 1)]] [] fun r17 o17=>NL r17<|NL r17<|.loop Ki HW [r17,VI (r17.aP.length:Int),VI 0] [.cells [a0_0,a0_1],.cells [VS a2_0,a2_1],.cells [.any],.vec 2 ((o16.tail.hO).es)] (fun y20 q20=>.ai ((q20.hO)=.cells (q20.hO).cs)<|.ai (ac [.vec 2] ((q20.hO).cs) 0 q20.tail)<|.done 0 [.sl ((q20.tail.hO).es)] []) (fun y20 q20=>.done 0 [.any] [])) (.done 0 [.sl []] []))))
theorem SF(a0_0:AV)(a0_1:AV)(a1:AV)(a2_0:ByteArray)(a2_1:AV)(ha0_0:LK.has .ptr a0_0)(ha0_1:LK.has .ptr a0_1)(ha1:LK.has .ptr a1)(ha2_1:LK.has .ptr a2_1)(h:di 113 (Mt a0_0 a0_1 a1 a2_0 a2_1) R):an Tryz.prog 87 [.agg [a0_0,a0_1],a1,.agg [VS a2_0,a2_1]] [] R :=
 uQ (ag (cf (ag (bB ha0_0) (ag (bB ha0_1) aC))) (ag (bB ha1) (ag (cf (ag (aw _) (ag (bB ha2_1) aC))) aC))) (oQ LL Tryz.f87 h)
def FG(x97:AV)(x98:Int)(x99:Int)(o3_0:AV)(o3_1:AV)(o5_0:ByteArray)(o5_1:AV)(o7_0:List (List AV)):Tree :=
 NL x97<|NI (VI x98)<|NI (VI x99)<|.ai (Ob.cells [o3_0,o3_1]=.cells [o3_0,o3_1])<|.ai (ac [.lk .ptr,.lk .ptr] [o3_0,o3_1] 0 [.cells [VS o5_0,o5_1],.cells [.any],.vec 2 o7_0])<|.ai (Ob.cells [VS o5_0,o5_1]=.cells [VS o5_0,o5_1])<|.ai (ac [.lk .str,.lk .ptr] [VS o5_0,o5_1] 0 [.cells [.any],.vec 2 o7_0])<|.ai (Ob.cells [.any]=.cells [.any])<|.ai (ac [.vec 2] [.any] 0 [.vec 2 o7_0])<|.test (decide (x99<x98)) (NG x97 x99 2<|.ai (bF [.ptr,.ptr] (x97.ix x99) 0/\2<=(x97.ix x99).length)<|.call 87 [.agg [o3_0,o3_1],((x97.ix x99).getD 1 .any),.agg [VS o5_0,o5_1]] [] fun r1 o1=>NL r1<|.call 112 [r1,.fn 120 [.ref 0 0],.ref 1 0] [.cells [((x97.ix x99).getD 0 .any),((x97.ix x99).getD 1 .any)],.cells [.vec 2],.vec 2 o7_0] fun r2 o2=>.ai ((o2.hO)=.cells (o2.hO).cs)<|.ai (aL [.lk .ptr,.lk .ptr] ((o2.hO).cs) 0 1 o2.tail)<|.ai ((o2.tail.hO)=.cells (o2.tail.hO).cs)<|.ai (aL [.vec 2] ((o2.tail.hO).cs) 0 2 o2.tail.tail)<|.done 0 [x97,VI x98,VI (IntKind.wrap .i64 (x99+1))] [.cells [o3_0,o3_1],.cells [VS o5_0,o5_1],.cells [.any],.vec 2 ((o2.tail.tail.hO).es)]) (.done 1 [] [.cells [.any],.vec 2 o7_0])
abbrev HM:=cB Tryz.prog 113 Ki HW
theorem Jb(x97:AV)(x98:Int)(x99:Int)(o3_0:AV)(o3_1:AV)(o5_0:ByteArray)(o5_1:AV)(o7_0:List (List AV))(h:ka 113 (FG x97 x98 x99 o3_0 o3_1 o5_0 o5_1 o7_0) HM U):HM [x97,VI x98,VI x99] [.cells [o3_0,o3_1],.cells [VS o5_0,o5_1],.cells [.any],.vec 2 o7_0] U :=
 gQ LL h
def LR(a0:ByteArray):Tree :=
 .call 104 [VS a0] [] fun r1 o1=>NT r1<|.ai ((r1.comp 0)=.agg (r1.comp 0).cs/\(r1.comp 0).cs.length=2/\bF [.str,.sl] ((r1.comp 0).cs) 0)<|NB (r1.comp 1)<|.test ((r1.comp 1).toBool) (.call 121 [.agg [VS (((r1.comp 0).cs.getD 0 .any).ah),((r1.comp 0).cs.getD 1 .any)]] [] fun r2 o2=>NS r2<|.done 0 [.cD [.agg [VS (((r1.comp 0).cs.getD 0 .any).ah),((r1.comp 0).cs.getD 1 .any)],VB (ae r2.ah==ae (mk [114,101,99]))]] []) (.done 0 [.cD [.agg [VS (((r1.comp 0).cs.getD 0 .any).ah),((r1.comp 0).cs.getD 1 .any)],VB false]] [])
theorem Sq(a0:ByteArray)(h:di 18 (LR a0) R):an Tryz.prog 88 [VS a0] [] R :=
 uQ (ag (aw _) aC) (oQ [] Tryz.f88 h)
def No(a0:ByteArray):Tree :=
 .call 122 [VS a0] [] fun r1 o1=>NT r1<|.ai ((r1.comp 0)=.agg (r1.comp 0).cs/\(r1.comp 0).cs.length=2/\bF [.str,.sl] ((r1.comp 0).cs) 0)<|NB (r1.comp 1)<|.test ((r1.comp 1).toBool) (.call 123 [.agg [VS (((r1.comp 0).cs.getD 0 .any).ah),((r1.comp 0).cs.getD 1 .any)]] [] fun r2 o2=>NB r2<|.test r2.toBool (.call 124 [.agg [VS (((r1.comp 0).cs.getD 0 .any).ah),((r1.comp 0).cs.getD 1 .any)]] [] fun r3 o3=>NI r3<|.done 0 [.cD [.agg [VS (((r1.comp 0).cs.getD 0 .any).ah),((r1.comp 0).cs.getD 1 .any)],VB (decide (r3.toInt<=(200:Int)))]] []) (.done 0 [.cD [.agg [VS (((r1.comp 0).cs.getD 0 .any).ah),((r1.comp 0).cs.getD 1 .any)],VB false]] [])) (.done 0 [.cD [.agg [VS (((r1.comp 0).cs.getD 0 .any).ah),((r1.comp 0).cs.getD 1 .any)],VB false]] [])
theorem Rc(a0:ByteArray)(h:di 22 (No a0) R):an Tryz.prog 89 [VS a0] [] R :=
 uQ (ag (aw _) aC) (oQ [] Tryz.f89 h)
def JV(a0:ByteArray)(a1:ByteArray)(a2:Int):Tree :=
 .call 104 [VS a0] [] fun r1 o1=>NT r1<|.ai ((r1.comp 0)=.agg (r1.comp 0).cs/\(r1.comp 0).cs.length=2/\bF [.str,.sl] ((r1.comp 0).cs) 0)<|NB (r1.comp 1)<|.call 89 [VS a1] [] fun r2 o2=>NT r2<|.ai ((r2.comp 0)=.agg (r2.comp 0).cs/\(r2.comp 0).cs.length=2/\bF [.str,.sl] ((r2.comp 0).cs) 0)<|NB (r2.comp 1)<|.test ((r1.comp 1).toBool) (.test ((r2.comp 1).toBool) (.call 56 [VI a2,VI 0,VI 100] [] fun r3 o3=>NB r3<|.test r3.toBool (.call 125 [.agg [VS (((r1.comp 0).cs.getD 0 .any).ah),((r1.comp 0).cs.getD 1 .any)],.sl [],.agg [VS (((r2.comp 0).cs.getD 0 .any).ah),((r2.comp 0).cs.getD 1 .any)],VI a2] [] fun r4 o4=>NB r4<|.done 0 [VB r4.toBool] []) (.done 0 [VB false] [])) (.done 0 [VB false] [])) (.done 0 [VB false] [])
theorem QS(a0:ByteArray)(a1:ByteArray)(a2:Int)(h:di 36 (JV a0 a1 a2) R):an Tryz.prog 90 [VS a0,VS a1,VI a2] [] R :=
 uQ (ag (aw _) (ag (aw _) (ag (aw _) aC))) (oQ [] Tryz.f90 h)
def Ij:LI:={hd:={bV:=[(0,.k .sl),(4,.k (.int .i64))],eV:=[(3,2)]},xs:={eV:=[(3,2)]},rt:={},ex:=0}
def Mx:Code:=cF (cC Tryz.f91) 3
def Np:List (Nat×LI):=[(3,Ij)]
def OB(a0:AV):Tree :=
 .loop Mx Ij [a0,VI 0] [.vec 2 []] (fun y3 q3=>.ai (((q3.drop 0).hO)=.vec 2 ((q3.drop 0).hO).es)<|.done 0 [.sl ((q3.hO).es)] []) (fun y3 q3=>.done 0 [.any] [])
theorem Sr(a0:AV)(ha0:LK.has .sl a0)(h:di 29 (OB a0) R):an Tryz.prog 91 [a0] [] R :=
 uQ (ag (bU ha0) aC) (oQ Np Tryz.f91 h)
def HJ(x0:AV)(x4:Int)(e3:List (List AV)):Tree :=
 NL x0<|NI (VI x4)<|.ai (Ob.vec 2 e3=.vec 2 e3)<|NL x0<|.test (decide (x4<(x0.aP.length:Int))) (NG x0 x4 4<|NE (x0.ix x4)<|.call 97 [.agg [VS (((x0.ix x4).getD 0 .any).ah),((x0.ix x4).getD 1 .any)]] [] fun r1 o1=>NS r1<|NG x0 x4 4<|NE ((x0.ix x4).drop 2)<|.call 97 [.agg [VS ((((x0.ix x4).drop 2).getD 0 .any).ah),(((x0.ix x4).drop 2).getD 1 .any)]] [] fun r2 o2=>NS r2<|.ai (cy 2 [[VS r1.ah,VS r2.ah]]/\((e3.length)+([[VS r1.ah,VS r2.ah]]:List (List AV)).length)*32<=140737488355328)<|.done 0 [x0,VI (IntKind.wrap .i64 (x4+1))] [.vec 2 (e3++([[VS r1.ah,VS r2.ah]]:List (List AV)))]) (.done 1 [] [.vec 2 e3])
abbrev Is:=cB Tryz.prog 29 Mx Ij
theorem I8(x0:AV)(x4:Int)(e3:List (List AV))(h:ka 29 (HJ x0 x4 e3) Is U):Is [x0,VI x4] [.vec 2 e3] U :=
 gQ Np h
def HC:LI:={hd:={bV:=[(1,.k .str),(8,.k .sl),(9,.k (.int .i64))],refs:=[(3,3),(5,5)],co:=[(3,[.lk .str,.lk .sl]),(5,[.lk .str,.lk .sl])],eV:=[(7,4)]},xs:={bV:=[(1,.k .str)],refs:=[(3,3),(5,5)],co:=[(3,[.lk .str,.lk .sl]),(5,[.lk .str,.lk .sl])],eV:=[(7,4)]},rt:={},ex:=1}
def NK:Code:=cF (cC Tryz.f92) 14
def F0:LI:={hd:={bV:=[(10,.k .sl),(11,.k (.int .i64))],refs:=[(5,5)],co:=[(5,[.lk .str,.lk .sl])],eV:=[(7,4)]},xs:={eV:=[(7,4)]},rt:={},ex:=3}
def IW:Code:=cF (cC Tryz.f92) 19
def FT:LI:={hd:={bV:=[(1,.k .str),(12,.k .str),(13,.k .sl),(14,.k (.int .i64))],refs:=[(3,3),(5,5)],co:=[(3,[.lk .str,.lk .sl]),(5,[.lk .str,.lk .sl])],eV:=[(7,4)]},xs:={bV:=[(1,.k .str),(12,.k .str)],refs:=[(3,3),(5,5)],co:=[(3,[.lk .str,.lk .sl]),(5,[.lk .str,.lk .sl])],eV:=[(7,4)]},rt:={},ex:=5}
def Lh:Code:=cF (cC Tryz.f92) 28
def Fb:LI:={hd:={bV:=[(1,.k .str),(15,.k .sl),(16,.k (.int .i64))],refs:=[(3,3)],co:=[(3,[.lk .str,.lk .sl])],eV:=[(7,4)]},xs:={eV:=[(7,4)]},rt:={},ex:=7}
def Nv:Code:=cF (cC Tryz.f92) 33
def Il:LI:={hd:={bV:=[(1,.k .str),(15,.k .sl),(16,.k (.int .i64)),(17,.k .sl),(18,.k (.int .i64))],refs:=[(3,3)],co:=[(3,[.lk .str,.lk .sl])],eV:=[(7,4)]},xs:={bV:=[(1,.k .str),(15,.k .sl),(16,.k (.int .i64))],refs:=[(3,3)],co:=[(3,[.lk .str,.lk .sl])],eV:=[(7,4)]},rt:={},ex:=9}
def Nk:Code:=cF (cC Tryz.f92) 37
def Af:List (Nat×LI):=[(14,HC),(19,F0),(28,FT),(33,Fb),(37,Il)]
def wP(a0_0:ByteArray)(a0_1:AV)(a1:ByteArray)(a2_0:ByteArray)(a2_1:AV):Tree :=
 .test (!(ae a0_0==ae (mk []))) (.test (ae a0_0==ae a1) (.ai (cy 4 [[VS (mk [117]),.v (.slice none 0 0),VS a2_0,a2_1]]/\((([]:List (List AV)).length)+([[VS (mk [117]),.v (.slice none 0 0),VS a2_0,a2_1]]:List (List AV)).length)*80<=140737488355328)<|.done 0 [.sl [[VS (mk [117]),.v (.slice none 0 0),VS a2_0,a2_1]]] []) (.done 0 [.sl []] [])) (.call 121 [.agg [VS a2_0,a2_1]] [] fun r1 o1=>NS r1<|.test (ae r1.ah==ae (mk [108])) (NG a0_1 1 2<|NE (a0_1.ix (1:Int))<|NG a2_1 1 2<|NE (a2_1.ix (1:Int))<|.call 92 [.agg [VS (((a0_1.ix (1:Int)).getD 0 .any).ah),((a0_1.ix (1:Int)).getD 1 .any)],VS a1,.agg [VS (((a2_1.ix (1:Int)).getD 0 .any).ah),((a2_1.ix (1:Int)).getD 1 .any)]] [] fun r2 o2=>NL r2<|.call 126 [r2,VS (mk [108]),.vec 0] [.vec 4 []] fun r3 o3=>.ai (r3=.vec 1/\(o3.tail.hO)=.vec 4 (o3.tail.hO).es)<|.done 0 [.sl ((o3.tail.hO).es)] []) (.test (ae r1.ah==ae (mk [114])) (NG a0_1 2 2<|NE (a0_1.ix (2:Int))<|NG a2_1 1 2<|NE (a2_1.ix (1:Int))<|.call 92 [.agg [VS (((a0_1.ix (2:Int)).getD 0 .any).ah),((a0_1.ix (2:Int)).getD 1 .any)],VS a1,.agg [VS (((a2_1.ix (1:Int)).getD 0 .any).ah),((a2_1.ix (1:Int)).getD 1 .any)]] [] fun r4 o4=>NL r4<|.call 126 [r4,VS (mk [114]),.vec 0] [.vec 4 []] fun r5 o5=>.ai (r5=.vec 1/\(o5.tail.hO)=.vec 4 (o5.tail.hO).es)<|.done 0 [.sl ((o5.tail.hO).es)] []) (.test (ae r1.ah==ae (mk [112])) (NG a0_1 1 2<|NE (a0_1.ix (1:Int))<|NG a2_1 1 2<|NE (a2_1.ix (1:Int))<|.call 92 [.agg [VS (((a0_1.ix (1:Int)).getD 0 .any).ah),((a0_1.ix (1:Int)).getD 1 .any)],VS a1,.agg [VS (((a2_1.ix (1:Int)).getD 0 .any).ah),((a2_1.ix (1:Int)).getD 1 .any)]] [] fun r6 o6=>NL r6<|.loop NK HC [VS a1,r6,VI 0] [.cells [VS a0_0,a0_1],.cells [VS a2_0,a2_1],.vec 4 []] (fun y9 q9=>NS (y9.hA)<|.ai ((q9.hO)=.cells (q9.hO).cs)<|.ai (ac [.lk .str,.lk .sl] ((q9.hO).cs) 0 q9.tail)<|.ai (((q9.tail.drop 0).hO)=.cells ((q9.tail.drop 0).hO).cs)<|.ai (ac [.lk .str,.lk .sl] (((q9.tail.drop 0).hO).cs) 0 ((q9.tail.drop 0).tail))<|.ai (((q9.drop 2).hO)=.vec 4 ((q9.drop 2).hO).es)<|NG ((q9.hO).cs.getD 1 .any) 2 2<|NE (((q9.hO).cs.getD 1 .any).ix (2:Int))<|NG ((q9.tail.hO).cs.getD 1 .any) 2 2<|NE (((q9.tail.hO).cs.getD 1 .any).ix (2:Int))<|.call 92 [.agg [VS (((((q9.hO).cs.getD 1 .any).ix (2:Int)).getD 0 .any).ah),((((q9.hO).cs.getD 1 .any).ix (2:Int)).getD 1 .any)],VS ((y9.hA).ah),.agg [VS (((((q9.tail.hO).cs.getD 1 .any).ix (2:Int)).getD 0 .any).ah),((((q9.tail.hO).cs.getD 1 .any).ix (2:Int)).getD 1 .any)]] [] fun r10 o10=>NL r10<|.loop IW F0 [r10,VI 0] [.cells [VS (((q9.tail.hO).cs.getD 0 .any).ah),((q9.tail.hO).cs.getD 1 .any)],.vec 4 ((q9.tail.tail.hO).es)] (fun y13 q13=>.ai (((q13.drop 0).hO)=.vec 4 ((q13.drop 0).hO).es)<|.done 0 [.sl ((q13.hO).es)] []) (fun y13 q13=>.done 0 [.any] [])) (fun y9 q9=>.done 0 [.any] [])) (NG a0_1 1 2<|lB (a0_1.ix (1:Int))<|.test (ae (((a0_1.ix (1:Int)).hA).ah)==ae a1) (.done 0 [.sl []] []) (NG a0_1 2 2<|NE (a0_1.ix (2:Int))<|NG a2_1 1 2<|NE (a2_1.ix (1:Int))<|.call 92 [.agg [VS (((a0_1.ix (2:Int)).getD 0 .any).ah),((a0_1.ix (2:Int)).getD 1 .any)],VS a1,.agg [VS (((a2_1.ix (1:Int)).getD 0 .any).ah),((a2_1.ix (1:Int)).getD 1 .any)]] [] fun r14 o14=>NL r14<|.loop Lh FT [VS a1,VS (((a0_1.ix (1:Int)).hA).ah),r14,VI 0] [.cells [VS a0_0,a0_1],.cells [VS a2_0,a2_1],.vec 4 []] (fun y17 q17=>NS (y17.hA)<|NS (y17.tail.hA)<|.ai ((q17.hO)=.cells (q17.hO).cs)<|.ai (ac [.lk .str,.lk .sl] ((q17.hO).cs) 0 q17.tail)<|.ai (((q17.tail.drop 0).hO)=.cells ((q17.tail.drop 0).hO).cs)<|.ai (ac [.lk .str,.lk .sl] (((q17.tail.drop 0).hO).cs) 0 ((q17.tail.drop 0).tail))<|.ai (((q17.drop 2).hO)=.vec 4 ((q17.drop 2).hO).es)<|NG ((q17.hO).cs.getD 1 .any) 2 2<|NE (((q17.hO).cs.getD 1 .any).ix (2:Int))<|NG ((q17.tail.hO).cs.getD 1 .any) 1 2<|NE (((q17.tail.hO).cs.getD 1 .any).ix (1:Int))<|.call 92 [.agg [VS (((((q17.hO).cs.getD 1 .any).ix (2:Int)).getD 0 .any).ah),((((q17.hO).cs.getD 1 .any).ix (2:Int)).getD 1 .any)],VS ((y17.tail.hA).ah),.agg [VS (((((q17.tail.hO).cs.getD 1 .any).ix (1:Int)).getD 0 .any).ah),((((q17.tail.hO).cs.getD 1 .any).ix (1:Int)).getD 1 .any)]] [] fun r18 o18=>NL r18<|.loop Nv Fb [VS ((y17.hA).ah),r18,VI 0] [.cells [VS (((q17.hO).cs.getD 0 .any).ah),((q17.hO).cs.getD 1 .any)],.vec 4 ((q17.tail.tail.hO).es)] (fun y24 q24=>.ai (((q24.drop 0).hO)=.vec 4 ((q24.drop 0).hO).es)<|.done 0 [.sl ((q24.hO).es)] []) (fun y24 q24=>.done 0 [.any] [])) (fun y17 q17=>.done 0 [.any] []))))))
theorem QA(a0_0:ByteArray)(a0_1:AV)(a1:ByteArray)(a2_0:ByteArray)(a2_1:AV)(ha0_1:LK.has .sl a0_1)(ha2_1:LK.has .sl a2_1)(h:di 244 (wP a0_0 a0_1 a1 a2_0 a2_1) R):an Tryz.prog 92 [.agg [VS a0_0,a0_1],VS a1,.agg [VS a2_0,a2_1]] [] R :=
 uQ (ag (cf (ag (aw _) (ag (bU ha0_1) aC))) (ag (aw _) (ag (cf (ag (aw _) (ag (bU ha2_1) aC))) aC))) (oQ Af Tryz.f92 h)
def HV(x1:ByteArray)(x8:AV)(x9:Int)(o3_0:ByteArray)(o3_1:AV)(o5_0:ByteArray)(o5_1:AV)(e7:List (List AV)):Tree :=
 NS (VS x1)<|NL x8<|NI (VI x9)<|.ai (Ob.cells [VS o3_0,o3_1]=.cells [VS o3_0,o3_1])<|.ai (ac [.lk .str,.lk .sl] [VS o3_0,o3_1] 0 [.cells [VS o5_0,o5_1],.vec 4 e7])<|.ai (Ob.cells [VS o5_0,o5_1]=.cells [VS o5_0,o5_1])<|.ai (ac [.lk .str,.lk .sl] [VS o5_0,o5_1] 0 [.vec 4 e7])<|.ai (Ob.vec 4 e7=.vec 4 e7)<|NL x8<|.test (decide (x9<(x8.aP.length:Int))) (NG x8 x9 4<|NE (x8.ix x9)<|NG o5_1 2 2<|NE (o5_1.ix (2:Int))<|.call 98 [VS (mk [112]),.sl [[VS (((x8.ix x9).getD 0 .any).ah),((x8.ix x9).getD 1 .any)],[VS (((o5_1.ix (2:Int)).getD 0 .any).ah),((o5_1.ix (2:Int)).getD 1 .any)]]] [] fun r1 o1=>NA r1<|.call 98 [VS (mk [108]),.sl [[VS ((r1.cs.getD 0 .any).ah),(r1.cs.getD 1 .any)]]] [] fun r2 o2=>NA r2<|NG x8 x9 4<|NE ((x8.ix x9).drop 2)<|.ai (cy 4 [[VS ((r2.cs.getD 0 .any).ah),(r2.cs.getD 1 .any),VS ((((x8.ix x9).drop 2).getD 0 .any).ah),(((x8.ix x9).drop 2).getD 1 .any)]]/\((e7.length)+([[VS ((r2.cs.getD 0 .any).ah),(r2.cs.getD 1 .any),VS ((((x8.ix x9).drop 2).getD 0 .any).ah),(((x8.ix x9).drop 2).getD 1 .any)]]:List (List AV)).length)*80<=140737488355328)<|.done 0 [VS x1,x8,VI (IntKind.wrap .i64 (x9+1))] [.cells [VS o3_0,o3_1],.cells [VS o5_0,o5_1],.vec 4 (e7++([[VS ((r2.cs.getD 0 .any).ah),(r2.cs.getD 1 .any),VS ((((x8.ix x9).drop 2).getD 0 .any).ah),(((x8.ix x9).drop 2).getD 1 .any)]]:List (List AV)))]) (.done 1 [VS x1] [.cells [VS o3_0,o3_1],.cells [VS o5_0,o5_1],.vec 4 e7])
abbrev FI:=cB Tryz.prog 244 NK HC
theorem Ky(x1:ByteArray)(x8:AV)(x9:Int)(o3_0:ByteArray)(o3_1:AV)(o5_0:ByteArray)(o5_1:AV)(e7:List (List AV))(h:ka 244 (HV x1 x8 x9 o3_0 o3_1 o5_0 o5_1 e7) FI U):FI [VS x1,x8,VI x9] [.cells [VS o3_0,o3_1],.cells [VS o5_0,o5_1],.vec 4 e7] U :=
 gQ Af h
def IF(x10:AV)(x11:Int)(o5_0:ByteArray)(o5_1:AV)(e7:List (List AV)):Tree :=
 NL x10<|NI (VI x11)<|.ai (Ob.cells [VS o5_0,o5_1]=.cells [VS o5_0,o5_1])<|.ai (ac [.lk .str,.lk .sl] [VS o5_0,o5_1] 0 [.vec 4 e7])<|.ai (Ob.vec 4 e7=.vec 4 e7)<|NL x10<|.test (decide (x11<(x10.aP.length:Int))) (NG o5_1 1 2<|NE (o5_1.ix (1:Int))<|NG x10 x11 4<|NE (x10.ix x11)<|.call 98 [VS (mk [112]),.sl [[VS (((o5_1.ix (1:Int)).getD 0 .any).ah),((o5_1.ix (1:Int)).getD 1 .any)],[VS (((x10.ix x11).getD 0 .any).ah),((x10.ix x11).getD 1 .any)]]] [] fun r1 o1=>NA r1<|.call 98 [VS (mk [114]),.sl [[VS ((r1.cs.getD 0 .any).ah),(r1.cs.getD 1 .any)]]] [] fun r2 o2=>NA r2<|NG x10 x11 4<|NE ((x10.ix x11).drop 2)<|.ai (cy 4 [[VS ((r2.cs.getD 0 .any).ah),(r2.cs.getD 1 .any),VS ((((x10.ix x11).drop 2).getD 0 .any).ah),(((x10.ix x11).drop 2).getD 1 .any)]]/\((e7.length)+([[VS ((r2.cs.getD 0 .any).ah),(r2.cs.getD 1 .any),VS ((((x10.ix x11).drop 2).getD 0 .any).ah),(((x10.ix x11).drop 2).getD 1 .any)]]:List (List AV)).length)*80<=140737488355328)<|.done 0 [x10,VI (IntKind.wrap .i64 (x11+1))] [.cells [VS o5_0,o5_1],.vec 4 (e7++([[VS ((r2.cs.getD 0 .any).ah),(r2.cs.getD 1 .any),VS ((((x10.ix x11).drop 2).getD 0 .any).ah),(((x10.ix x11).drop 2).getD 1 .any)]]:List (List AV)))]) (.done 1 [] [.vec 4 e7])
abbrev Hz:=cB Tryz.prog 244 IW F0
theorem M7(x10:AV)(x11:Int)(o5_0:ByteArray)(o5_1:AV)(e7:List (List AV))(h:ka 244 (IF x10 x11 o5_0 o5_1 e7) Hz U):Hz [x10,VI x11] [.cells [VS o5_0,o5_1],.vec 4 e7] U :=
 gQ Af h
def Hv(x1:ByteArray)(x12:ByteArray)(x13:AV)(x14:Int)(o3_0:ByteArray)(o3_1:AV)(o5_0:ByteArray)(o5_1:AV)(e7:List (List AV)):Tree :=
 NS (VS x1)<|NS (VS x12)<|NL x13<|NI (VI x14)<|.ai (Ob.cells [VS o3_0,o3_1]=.cells [VS o3_0,o3_1])<|.ai (ac [.lk .str,.lk .sl] [VS o3_0,o3_1] 0 [.cells [VS o5_0,o5_1],.vec 4 e7])<|.ai (Ob.cells [VS o5_0,o5_1]=.cells [VS o5_0,o5_1])<|.ai (ac [.lk .str,.lk .sl] [VS o5_0,o5_1] 0 [.vec 4 e7])<|.ai (Ob.vec 4 e7=.vec 4 e7)<|NL x13<|.test (decide (x14<(x13.aP.length:Int))) (NG x13 x14 4<|NE (x13.ix x14)<|.call 98 [VS (mk [108]),.sl [[VS (((x13.ix x14).getD 0 .any).ah),((x13.ix x14).getD 1 .any)]]] [] fun r1 o1=>NA r1<|.call 98 [VS (mk [102]),.sl [[VS ((r1.cs.getD 0 .any).ah),(r1.cs.getD 1 .any)]]] [] fun r2 o2=>NA r2<|NG x13 x14 4<|NE ((x13.ix x14).drop 2)<|.ai (cy 4 [[VS ((r2.cs.getD 0 .any).ah),(r2.cs.getD 1 .any),VS ((((x13.ix x14).drop 2).getD 0 .any).ah),(((x13.ix x14).drop 2).getD 1 .any)]]/\((e7.length)+([[VS ((r2.cs.getD 0 .any).ah),(r2.cs.getD 1 .any),VS ((((x13.ix x14).drop 2).getD 0 .any).ah),(((x13.ix x14).drop 2).getD 1 .any)]]:List (List AV)).length)*80<=140737488355328)<|.done 0 [VS x1,VS x12,x13,VI (IntKind.wrap .i64 (x14+1))] [.cells [VS o3_0,o3_1],.cells [VS o5_0,o5_1],.vec 4 (e7++([[VS ((r2.cs.getD 0 .any).ah),(r2.cs.getD 1 .any),VS ((((x13.ix x14).drop 2).getD 0 .any).ah),(((x13.ix x14).drop 2).getD 1 .any)]]:List (List AV)))]) (.done 1 [VS x1,VS x12] [.cells [VS o3_0,o3_1],.cells [VS o5_0,o5_1],.vec 4 e7])
abbrev Iy:=cB Tryz.prog 244 Lh FT
theorem KM(x1:ByteArray)(x12:ByteArray)(x13:AV)(x14:Int)(o3_0:ByteArray)(o3_1:AV)(o5_0:ByteArray)(o5_1:AV)(e7:List (List AV))(h:ka 244 (Hv x1 x12 x13 x14 o3_0 o3_1 o5_0 o5_1 e7) Iy U):Iy [VS x1,VS x12,x13,VI x14] [.cells [VS o3_0,o3_1],.cells [VS o5_0,o5_1],.vec 4 e7] U :=
 gQ Af h
def F7(x1:ByteArray)(x15:AV)(x16:Int)(o3_0:ByteArray)(o3_1:AV)(e7:List (List AV)):Tree :=
 NS (VS x1)<|NL x15<|NI (VI x16)<|.ai (Ob.cells [VS o3_0,o3_1]=.cells [VS o3_0,o3_1])<|.ai (ac [.lk .str,.lk .sl] [VS o3_0,o3_1] 0 [.vec 4 e7])<|.ai (Ob.vec 4 e7=.vec 4 e7)<|NL x15<|.test (decide (x16<(x15.aP.length:Int))) (NG x15 x16 4<|NE ((x15.ix x16).drop 2)<|.call 92 [.agg [VS o3_0,o3_1],VS x1,.agg [VS ((((x15.ix x16).drop 2).getD 0 .any).ah),(((x15.ix x16).drop 2).getD 1 .any)]] [] fun r1 o1=>NL r1<|.loop Nk Il [VS x1,x15,VI x16,r1,VI 0] [.cells [VS o3_0,o3_1],.vec 4 e7] (fun y2 q2=>NS (y2.hA)<|NL (y2.tail.hA)<|NI (y2.tail.tail.hA)<|.ai ((q2.hO)=.cells (q2.hO).cs)<|.ai (ac [.lk .str,.lk .sl] ((q2.hO).cs) 0 q2.tail)<|.ai (((q2.drop 1).hO)=.vec 4 ((q2.drop 1).hO).es)<|.done 0 [VS ((y2.hA).ah),(y2.tail.hA),VI (IntKind.wrap .i64 (((y2.tail.tail.hA).toInt)+1))] [.cells [VS (((q2.hO).cs.getD 0 .any).ah),((q2.hO).cs.getD 1 .any)],.vec 4 ((q2.tail.hO).es)]) (fun y2 q2=>.done 2 [] [])) (.done 1 [] [.vec 4 e7])
abbrev Hn:=cB Tryz.prog 244 Nv Fb
theorem Ma(x1:ByteArray)(x15:AV)(x16:Int)(o3_0:ByteArray)(o3_1:AV)(e7:List (List AV))(h:ka 244 (F7 x1 x15 x16 o3_0 o3_1 e7) Hn U):Hn [VS x1,x15,VI x16] [.cells [VS o3_0,o3_1],.vec 4 e7] U :=
 gQ Af h
def F9(x1:ByteArray)(x15:AV)(x16:Int)(x17:AV)(x18:Int)(o3_0:ByteArray)(o3_1:AV)(e7:List (List AV)):Tree :=
 NS (VS x1)<|NL x15<|NI (VI x16)<|NL x17<|NI (VI x18)<|.ai (Ob.cells [VS o3_0,o3_1]=.cells [VS o3_0,o3_1])<|.ai (ac [.lk .str,.lk .sl] [VS o3_0,o3_1] 0 [.vec 4 e7])<|.ai (Ob.vec 4 e7=.vec 4 e7)<|NL x17<|.test (decide (x18<(x17.aP.length:Int))) (NG x15 x16 4<|NE (x15.ix x16)<|NG x17 x18 4<|NE (x17.ix x18)<|.call 98 [VS (mk [112]),.sl [[VS (((x15.ix x16).getD 0 .any).ah),((x15.ix x16).getD 1 .any)],[VS (((x17.ix x18).getD 0 .any).ah),((x17.ix x18).getD 1 .any)]]] [] fun r1 o1=>NA r1<|.call 98 [VS (mk [114]),.sl [[VS ((r1.cs.getD 0 .any).ah),(r1.cs.getD 1 .any)]]] [] fun r2 o2=>NA r2<|.call 98 [VS (mk [102]),.sl [[VS ((r2.cs.getD 0 .any).ah),(r2.cs.getD 1 .any)]]] [] fun r3 o3=>NA r3<|NG x17 x18 4<|NE ((x17.ix x18).drop 2)<|.ai (cy 4 [[VS ((r3.cs.getD 0 .any).ah),(r3.cs.getD 1 .any),VS ((((x17.ix x18).drop 2).getD 0 .any).ah),(((x17.ix x18).drop 2).getD 1 .any)]]/\((e7.length)+([[VS ((r3.cs.getD 0 .any).ah),(r3.cs.getD 1 .any),VS ((((x17.ix x18).drop 2).getD 0 .any).ah),(((x17.ix x18).drop 2).getD 1 .any)]]:List (List AV)).length)*80<=140737488355328)<|.done 0 [VS x1,x15,VI x16,x17,VI (IntKind.wrap .i64 (x18+1))] [.cells [VS o3_0,o3_1],.vec 4 (e7++([[VS ((r3.cs.getD 0 .any).ah),(r3.cs.getD 1 .any),VS ((((x17.ix x18).drop 2).getD 0 .any).ah),(((x17.ix x18).drop 2).getD 1 .any)]]:List (List AV)))]) (.done 1 [VS x1,x15,VI x16] [.cells [VS o3_0,o3_1],.vec 4 e7])
abbrev H9:=cB Tryz.prog 244 Nk Il
theorem J1(x1:ByteArray)(x15:AV)(x16:Int)(x17:AV)(x18:Int)(o3_0:ByteArray)(o3_1:AV)(e7:List (List AV))(h:ka 244 (F9 x1 x15 x16 x17 x18 o3_0 o3_1 e7) H9 U):H9 [VS x1,x15,VI x16,x17,VI x18] [.cells [VS o3_0,o3_1],.vec 4 e7] U :=
 gQ Af h
def JL(a0:ByteArray):Tree :=
 .call 108 [VS a0] [] fun r1 o1=>NP r1<|NP r1<|.test r1.isNil (.done 0 [.v (.pointer none)] []) (.call 127 [r1] [] fun r2 o2=>NB r2<|.test (!r2.toBool) (.done 0 [.v (.pointer none)] []) (.done 0 [r1] []))
theorem Qn(a0:ByteArray)(h:di 14 (JL a0) R):an Tryz.prog 93 [VS a0] [] R :=
 uQ (ag (aw _) aC) (oQ [] Tryz.f93 h)
def MI(a0:ByteArray):Tree :=
 .call 128 [VS a0] [] fun r1 o1=>NP r1<|NP r1<|.test r1.isNil (.done 0 [.v (.pointer none)] []) (.call 129 [r1] [] fun r2 o2=>NP r2<|NP r2<|.test r2.isNil (.done 0 [.v (.pointer none)] []) (.call 75 [r2] [] fun r3 o3=>NI r3<|.test (decide (r3.toInt>(200:Int))) (.done 0 [.v (.pointer none)] []) (.done 0 [r2] [])))
theorem Qc(a0:ByteArray)(h:di 19 (MI a0) R):an Tryz.prog 94 [VS a0] [] R :=
 uQ (ag (aw _) aC) (oQ [] Tryz.f94 h)
def Av(a0_0:AV)(a0_1:AV)(a1:AV)(a2:Int):Tree :=
 NZ a0_0<|NZ a0_0<|.ai (LK.has (.int .u8) (a0_0.deref.hA)/\1<=a0_0.deref.length)<|.test (((a0_0.deref.hA).toInt)==(49:Int)) (NZ a1<|NZ a1<|.ai (LK.has (.int .u8) (a1.deref.hA)/\1<=a1.deref.length)<|.done 0 [VB (((a1.deref.hA).toInt)==(117:Int))] []) (.test (((a0_0.deref.hA).toInt)==(110:Int)) (NZ a1<|NZ a1<|.ai (LK.has (.int .u8) (a1.deref.hA)/\1<=a1.deref.length)<|.test (((a1.deref.hA).toInt) != (101:Int)) (.done 0 [VB false] []) (NZ a1<|NZ a1<|lB (a1.deref.drop 1)<|.ai (0<=(1:Int)/\(1:Int)<=(af (((a1.deref.drop 1).hA).ah):Int)/\(af (((a1.deref.drop 1).hA).ah):Int)<=(af (((a1.deref.drop 1).hA).ah):Int))<|.call 130 [VS (cn (((a1.deref.drop 1).hA).ah) (bJ 1) (bJ (af (((a1.deref.drop 1).hA).ah):Int)))] [] fun r1 o1=>NT r1<|NI (r1.comp 0)<|.ai (LK.has .kK (r1.comp 1))<|.done 0 [VB (decide (((r1.comp 0).toInt)<a2))] [])) (.test (((a0_0.deref.hA).toInt)==(98:Int)) (.call 131 [.agg [a0_0,a0_1]] [] fun r2 o2=>NP r2<|NZ r2<|NZ r2<|.ai (bF [.ptr,.ptr] r2.deref 0/\2<=r2.deref.length)<|.call 95 [.agg [(r2.deref.getD 0 .any),(r2.deref.getD 1 .any)],a1,VI a2] [] fun r3 o3=>NB r3<|.done 0 [VB r3.toBool] []) (.test (((a0_0.deref.hA).toInt)==(43:Int)) (NZ a1<|NZ a1<|.ai (LK.has (.int .u8) (a1.deref.hA)/\1<=a1.deref.length)<|.test (((a1.deref.hA).toInt)==(108:Int)) (.call 113 [.agg [a0_0,a0_1]] [] fun r4 o4=>.ai (r4=.agg r4.cs/\r4.cs.length=2/\bF [.ptr,.ptr] r4.cs 0)<|NZ a1<|NZ a1<|dR (a1.deref.drop 2)<|.call 95 [.agg [(r4.cs.getD 0 .any),(r4.cs.getD 1 .any)],((a1.deref.drop 2).hA),VI a2] [] fun r5 o5=>NB r5<|.test r5.toBool (.done 0 [VB true] []) (NZ a1<|NZ a1<|.ai (LK.has (.int .u8) (a1.deref.hA)/\1<=a1.deref.length)<|.test (((a1.deref.hA).toInt)==(114:Int)) (.call 114 [.agg [a0_0,a0_1]] [] fun r6 o6=>.ai (r6=.agg r6.cs/\r6.cs.length=2/\bF [.ptr,.ptr] r6.cs 0)<|NZ a1<|NZ a1<|dR (a1.deref.drop 2)<|.call 95 [.agg [(r6.cs.getD 0 .any),(r6.cs.getD 1 .any)],((a1.deref.drop 2).hA),VI a2] [] fun r7 o7=>NB r7<|.done 0 [VB r7.toBool] []) (.done 0 [VB false] []))) (NZ a1<|NZ a1<|.ai (LK.has (.int .u8) (a1.deref.hA)/\1<=a1.deref.length)<|.test (((a1.deref.hA).toInt)==(114:Int)) (.call 114 [.agg [a0_0,a0_1]] [] fun r8 o8=>.ai (r8=.agg r8.cs/\r8.cs.length=2/\bF [.ptr,.ptr] r8.cs 0)<|NZ a1<|NZ a1<|dR (a1.deref.drop 2)<|.call 95 [.agg [(r8.cs.getD 0 .any),(r8.cs.getD 1 .any)],((a1.deref.drop 2).hA),VI a2] [] fun r9 o9=>NB r9<|.done 0 [VB r9.toBool] []) (.done 0 [VB false] []))) (.test (((a0_0.deref.hA).toInt)==(42:Int)) (NZ a1<|NZ a1<|.ai (LK.has (.int .u8) (a1.deref.hA)/\1<=a1.deref.length)<|.test (((a1.deref.hA).toInt)==(112:Int)) (.call 113 [.agg [a0_0,a0_1]] [] fun r10 o10=>.ai (r10=.agg r10.cs/\r10.cs.length=2/\bF [.ptr,.ptr] r10.cs 0)<|NZ a1<|NZ a1<|dR (a1.deref.drop 2)<|.call 95 [.agg [(r10.cs.getD 0 .any),(r10.cs.getD 1 .any)],((a1.deref.drop 2).hA),VI a2] [] fun r11 o11=>NB r11<|.test r11.toBool (.call 114 [.agg [a0_0,a0_1]] [] fun r12 o12=>.ai (r12=.agg r12.cs/\r12.cs.length=2/\bF [.ptr,.ptr] r12.cs 0)<|NZ a1<|NZ a1<|dR (a1.deref.drop 3)<|.call 95 [.agg [(r12.cs.getD 0 .any),(r12.cs.getD 1 .any)],((a1.deref.drop 3).hA),VI a2] [] fun r13 o13=>NB r13<|.done 0 [VB r13.toBool] []) (.done 0 [VB false] [])) (.done 0 [VB false] [])) (.test (((a0_0.deref.hA).toInt)==(114:Int)) (.call 86 [.agg [a0_0,a0_1]] [] fun r14 o14=>NT r14<|.ai ((r14.comp 0)=.agg (r14.comp 0).cs/\(r14.comp 0).cs.length=2/\bF [.ptr,.ptr] ((r14.comp 0).cs) 0)<|NP (r14.comp 1)<|NZ a1<|NZ a1<|.ai (LK.has (.int .u8) (a1.deref.hA)/\1<=a1.deref.length)<|.test (((a1.deref.hA).toInt)==(102:Int)) (NZ a1<|NZ a1<|dR (a1.deref.drop 2)<|.call 95 [.agg [((r14.comp 0).cs.getD 0 .any),((r14.comp 0).cs.getD 1 .any)],((a1.deref.drop 2).hA),VI a2] [] fun r15 o15=>NB r15<|.done 0 [VB r15.toBool] []) (.done 0 [VB false] [])) (.done 0 [VB false] []))))))
theorem Mw(a0_0:AV)(a0_1:AV)(a1:AV)(a2:Int)(ha0_0:LK.has .ptr a0_0)(ha0_1:LK.has .ptr a0_1)(ha1:LK.has .ptr a1)(h:di 134 (Av a0_0 a0_1 a1 a2) R):an Tryz.prog 95 [.agg [a0_0,a0_1],a1,VI a2] [] R :=
 uQ (ag (cf (ag (bB ha0_0) (ag (bB ha0_1) aC))) (ag (bB ha1) (ag (aw _) aC))) (oQ [] Tryz.f95 h)
def Lp(a0:ByteArray):Tree :=
 .call 132 [VS a0] [] fun r1 o1=>NT r1<|.ai ((r1.comp 0)=.agg (r1.comp 0).cs/\(r1.comp 0).cs.length=2/\bF [.str,.sl] ((r1.comp 0).cs) 0)<|NB (r1.comp 1)<|.test (!((r1.comp 1).toBool)) (.done 0 [.cD [VS (mk []),VB false]] []) (.call 121 [.agg [VS (((r1.comp 0).cs.getD 0 .any).ah),((r1.comp 0).cs.getD 1 .any)]] [] fun r2 o2=>NS r2<|.test (!(ae r2.ah==ae (mk [114,101,99]))) (.done 0 [.cD [VS (mk []),VB false]] []) (.call 133 [.agg [VS (((r1.comp 0).cs.getD 0 .any).ah),((r1.comp 0).cs.getD 1 .any)]] [] fun r3 o3=>NT r3<|.ai ((r3.comp 0)=.agg (r3.comp 0).cs/\(r3.comp 0).cs.length=2/\bF [.str,.sl] ((r3.comp 0).cs) 0)<|NB (r3.comp 1)<|.test (!((r3.comp 1).toBool)) (.done 0 [.cD [VS (mk []),VB false]] []) (.call 134 [.agg [VS (((r3.comp 0).cs.getD 0 .any).ah),((r3.comp 0).cs.getD 1 .any)]] [] fun r4 o4=>NT r4<|NS (r4.comp 0)<|NB (r4.comp 1)<|.done 0 [.cD [VS ((r4.comp 0).ah),VB ((r4.comp 1).toBool)]] [])))
theorem QU(a0:ByteArray)(h:di 31 (Lp a0) R):an Tryz.prog 96 [VS a0] [] R :=
 uQ (ag (aw _) aC) (oQ [] Tryz.f96 h)
def FJ:LI:={hd:={bV:=[(3,.k .str),(4,.k (.int .i64))],refs:=[(1,1)],co:=[(1,[.lk .str,.lk .sl])]},xs:={bV:=[(3,.k .str)]},rt:={},ex:=0}
def Mc:Code:=cF (cC Tryz.f97) 5
def Ow:List (Nat×LI):=[(5,FJ)]
def Ef(a0_0:ByteArray)(a0_1:AV):Tree :=
 .test (!(ae a0_0==ae (mk []))) (.done 0 [VS a0_0] []) (.loop Mc FJ [VS (mk [40]),VI 0] [.cells [VS a0_0,a0_1]] (fun y3 q3=>NS (y3.hA)<|.ai (af ((y3.hA).ah)+af (mk [41])<=9223372036854775807)<|.done 0 [VS ((((y3.hA).ah):ByteArray)++(mk [41]))] []) (fun y3 q3=>.done 0 [.any] []))
theorem Iv(a0_0:ByteArray)(a0_1:AV)(ha0_1:LK.has .sl a0_1)(h:di 31 (Ef a0_0 a0_1) R):an Tryz.prog 97 [.agg [VS a0_0,a0_1]] [] R :=
 uQ (ag (cf (ag (aw _) (ag (bU ha0_1) aC))) aC) (oQ Ow Tryz.f97 h)
def Bh(x3:ByteArray)(x4:Int)(o1_0:ByteArray)(o1_1:AV):Tree :=
 NS (VS x3)<|NI (VI x4)<|.ai (Ob.cells [VS o1_0,o1_1]=.cells [VS o1_0,o1_1])<|.ai (ac [.lk .str,.lk .sl] [VS o1_0,o1_1] 0 [])<|NL o1_1<|.test (decide (x4<(o1_1.aP.length:Int))) (.test (decide (x4>(0:Int))) (.ai (af x3+af (mk [32])<=9223372036854775807)<|NG o1_1 x4 2<|NE (o1_1.ix x4)<|.call 97 [.agg [VS (((o1_1.ix x4).getD 0 .any).ah),((o1_1.ix x4).getD 1 .any)]] [] fun r1 o1=>NS r1<|.ai (af ((x3:ByteArray)++(mk [32]))+af r1.ah<=9223372036854775807)<|.done 0 [VS ((((x3:ByteArray)++(mk [32])):ByteArray)++r1.ah),VI (IntKind.wrap .i64 (x4+1))] [.cells [VS o1_0,o1_1]]) (NG o1_1 x4 2<|NE (o1_1.ix x4)<|.call 97 [.agg [VS (((o1_1.ix x4).getD 0 .any).ah),((o1_1.ix x4).getD 1 .any)]] [] fun r2 o2=>NS r2<|.ai (af x3+af r2.ah<=9223372036854775807)<|.done 0 [VS ((x3:ByteArray)++r2.ah),VI (IntKind.wrap .i64 (x4+1))] [.cells [VS o1_0,o1_1]])) (.done 1 [VS x3] [])
abbrev AH:=cB Tryz.prog 31 Mc FJ
theorem Eo(x3:ByteArray)(x4:Int)(o1_0:ByteArray)(o1_1:AV)(h:ka 31 (Bh x3 x4 o1_0 o1_1) AH U):AH [VS x3,VI x4] [.cells [VS o1_0,o1_1]] U :=
 gQ Ow h
def GO(a0:ByteArray)(a1:AV):Tree :=
 .ai (LK.has .sl a1/\cy 2 a1.aP/\((([[VS a0,.v (.slice none 0 0)]]:List (List AV)).length)+a1.aP.length)*40<=140737488355328)<|.done 0 [.agg [VS (mk []),.sl (([[VS a0,.v (.slice none 0 0)]]:List (List AV))++a1.aP)]] []
theorem Ol(a0:ByteArray)(a1:AV)(ha1:LK.has .sl a1)(h:di 11 (GO a0 a1) R):an Tryz.prog 98 [VS a0,a1] [] R :=
 uQ (ag (aw _) (ag (bU ha1) aC)) (oQ [] Tryz.f98 h)
def DH(a0_0:ByteArray)(a0_1:AV)(a1:ByteArray)(a2_0:ByteArray)(a2_1:AV)(a3_0:ByteArray)(a3_1:AV):Tree :=
 .test (!(ae a0_0==ae (mk []))) (.done 0 [.agg [VS a3_0,a3_1]] []) (NG a2_1 1 2<|NE (a2_1.ix (1:Int))<|.call 121 [.agg [VS a0_0,a0_1]] [] fun r1 o1=>NS r1<|.call 121 [.agg [VS a2_0,a2_1]] [] fun r2 o2=>NS r2<|.ai (af r1.ah+af r2.ah<=9223372036854775807)<|.test (ae ((r1.ah:ByteArray)++r2.ah)==ae (mk [43,108])) (NG a0_1 1 2<|NE (a0_1.ix (1:Int))<|.call 99 [.agg [VS (((a0_1.ix (1:Int)).getD 0 .any).ah),((a0_1.ix (1:Int)).getD 1 .any)],VS a1,.agg [VS (((a2_1.ix (1:Int)).getD 0 .any).ah),((a2_1.ix (1:Int)).getD 1 .any)],.agg [VS a3_0,a3_1]] [] fun r3 o3=>NA r3<|.call 98 [VS (mk [108]),.sl [[VS ((r3.cs.getD 0 .any).ah),(r3.cs.getD 1 .any)]]] [] fun r4 o4=>NA r4<|.done 0 [.agg [VS ((r4.cs.getD 0 .any).ah),(r4.cs.getD 1 .any)]] []) (.test (ae ((r1.ah:ByteArray)++r2.ah)==ae (mk [43,114])) (NG a0_1 2 2<|NE (a0_1.ix (2:Int))<|.call 99 [.agg [VS (((a0_1.ix (2:Int)).getD 0 .any).ah),((a0_1.ix (2:Int)).getD 1 .any)],VS a1,.agg [VS (((a2_1.ix (1:Int)).getD 0 .any).ah),((a2_1.ix (1:Int)).getD 1 .any)],.agg [VS a3_0,a3_1]] [] fun r5 o5=>NA r5<|.call 98 [VS (mk [114]),.sl [[VS ((r5.cs.getD 0 .any).ah),(r5.cs.getD 1 .any)]]] [] fun r6 o6=>NA r6<|.done 0 [.agg [VS ((r6.cs.getD 0 .any).ah),(r6.cs.getD 1 .any)]] []) (.test (ae ((r1.ah:ByteArray)++r2.ah)==ae (mk [42,108])) (NG a0_1 1 2<|NE (a0_1.ix (1:Int))<|NG ((a2_1.ix (1:Int)).getD 1 .any) 1 2<|NE (((a2_1.ix (1:Int)).getD 1 .any).ix (1:Int))<|.call 99 [.agg [VS (((a0_1.ix (1:Int)).getD 0 .any).ah),((a0_1.ix (1:Int)).getD 1 .any)],VS a1,.agg [VS (((((a2_1.ix (1:Int)).getD 1 .any).ix (1:Int)).getD 0 .any).ah),((((a2_1.ix (1:Int)).getD 1 .any).ix (1:Int)).getD 1 .any)],.agg [VS a3_0,a3_1]] [] fun r7 o7=>NA r7<|NG ((a2_1.ix (1:Int)).getD 1 .any) 2 2<|NE (((a2_1.ix (1:Int)).getD 1 .any).ix (2:Int))<|.call 98 [VS (mk [112]),.sl [[VS ((r7.cs.getD 0 .any).ah),(r7.cs.getD 1 .any)],[VS (((((a2_1.ix (1:Int)).getD 1 .any).ix (2:Int)).getD 0 .any).ah),((((a2_1.ix (1:Int)).getD 1 .any).ix (2:Int)).getD 1 .any)]]] [] fun r8 o8=>NA r8<|.done 0 [.agg [VS ((r8.cs.getD 0 .any).ah),(r8.cs.getD 1 .any)]] []) (.test (ae ((r1.ah:ByteArray)++r2.ah)==ae (mk [42,114])) (NG ((a2_1.ix (1:Int)).getD 1 .any) 1 2<|NE (((a2_1.ix (1:Int)).getD 1 .any).ix (1:Int))<|NG a0_1 2 2<|NE (a0_1.ix (2:Int))<|NG ((a2_1.ix (1:Int)).getD 1 .any) 2 2<|NE (((a2_1.ix (1:Int)).getD 1 .any).ix (2:Int))<|.call 99 [.agg [VS (((a0_1.ix (2:Int)).getD 0 .any).ah),((a0_1.ix (2:Int)).getD 1 .any)],VS a1,.agg [VS (((((a2_1.ix (1:Int)).getD 1 .any).ix (2:Int)).getD 0 .any).ah),((((a2_1.ix (1:Int)).getD 1 .any).ix (2:Int)).getD 1 .any)],.agg [VS a3_0,a3_1]] [] fun r9 o9=>NA r9<|.call 98 [VS (mk [112]),.sl [[VS (((((a2_1.ix (1:Int)).getD 1 .any).ix (1:Int)).getD 0 .any).ah),((((a2_1.ix (1:Int)).getD 1 .any).ix (1:Int)).getD 1 .any)],[VS ((r9.cs.getD 0 .any).ah),(r9.cs.getD 1 .any)]]] [] fun r10 o10=>NA r10<|.done 0 [.agg [VS ((r10.cs.getD 0 .any).ah),(r10.cs.getD 1 .any)]] []) (.call 121 [.agg [VS (((a2_1.ix (1:Int)).getD 0 .any).ah),((a2_1.ix (1:Int)).getD 1 .any)]] [] fun r11 o11=>NS r11<|.test (ae r11.ah==ae (mk [108])) (NG a0_1 2 2<|NE (a0_1.ix (2:Int))<|NG ((a2_1.ix (1:Int)).getD 1 .any) 1 2<|NE (((a2_1.ix (1:Int)).getD 1 .any).ix (1:Int))<|.call 99 [.agg [VS (((a0_1.ix (2:Int)).getD 0 .any).ah),((a0_1.ix (2:Int)).getD 1 .any)],VS a1,.agg [VS (((((a2_1.ix (1:Int)).getD 1 .any).ix (1:Int)).getD 0 .any).ah),((((a2_1.ix (1:Int)).getD 1 .any).ix (1:Int)).getD 1 .any)],.agg [VS a3_0,a3_1]] [] fun r12 o12=>NA r12<|.call 98 [VS (mk [102]),.sl [[VS ((r12.cs.getD 0 .any).ah),(r12.cs.getD 1 .any)]]] [] fun r13 o13=>NA r13<|.done 0 [.agg [VS ((r13.cs.getD 0 .any).ah),(r13.cs.getD 1 .any)]] []) (NG ((a2_1.ix (1:Int)).getD 1 .any) 1 2<|NE (((a2_1.ix (1:Int)).getD 1 .any).ix (1:Int))<|NG ((((a2_1.ix (1:Int)).getD 1 .any).ix (1:Int)).getD 1 .any) 2 2<|NE (((((a2_1.ix (1:Int)).getD 1 .any).ix (1:Int)).getD 1 .any).ix (2:Int))<|.call 99 [.agg [VS a0_0,a0_1],VS a1,.agg [VS (((((((a2_1.ix (1:Int)).getD 1 .any).ix (1:Int)).getD 1 .any).ix (2:Int)).getD 0 .any).ah),((((((a2_1.ix (1:Int)).getD 1 .any).ix (1:Int)).getD 1 .any).ix (2:Int)).getD 1 .any)],.agg [VS a3_0,a3_1]] [] fun r14 o14=>NA r14<|NG a0_1 2 2<|NE (a0_1.ix (2:Int))<|NG a0_1 1 2<|lB (a0_1.ix (1:Int))<|NG ((((a2_1.ix (1:Int)).getD 1 .any).ix (1:Int)).getD 1 .any) 1 2<|NE (((((a2_1.ix (1:Int)).getD 1 .any).ix (1:Int)).getD 1 .any).ix (1:Int))<|.call 99 [.agg [VS (((a0_1.ix (2:Int)).getD 0 .any).ah),((a0_1.ix (2:Int)).getD 1 .any)],VS (((a0_1.ix (1:Int)).hA).ah),.agg [VS (((((((a2_1.ix (1:Int)).getD 1 .any).ix (1:Int)).getD 1 .any).ix (1:Int)).getD 0 .any).ah),((((((a2_1.ix (1:Int)).getD 1 .any).ix (1:Int)).getD 1 .any).ix (1:Int)).getD 1 .any)],.agg [VS ((r14.cs.getD 0 .any).ah),(r14.cs.getD 1 .any)]] [] fun r15 o15=>NA r15<|.call 98 [VS (mk [102]),.sl [[VS ((r15.cs.getD 0 .any).ah),(r15.cs.getD 1 .any)]]] [] fun r16 o16=>NA r16<|.done 0 [.agg [VS ((r16.cs.getD 0 .any).ah),(r16.cs.getD 1 .any)]] []))))))
theorem Rd(a0_0:ByteArray)(a0_1:AV)(a1:ByteArray)(a2_0:ByteArray)(a2_1:AV)(a3_0:ByteArray)(a3_1:AV)(ha0_1:LK.has .sl a0_1)(ha2_1:LK.has .sl a2_1)(ha3_1:LK.has .sl a3_1)(h:di 132 (DH a0_0 a0_1 a1 a2_0 a2_1 a3_0 a3_1) R):an Tryz.prog 99 [.agg [VS a0_0,a0_1],VS a1,.agg [VS a2_0,a2_1],.agg [VS a3_0,a3_1]] [] R :=
 uQ (ag (cf (ag (aw _) (ag (bU ha0_1) aC))) (ag (aw _) (ag (cf (ag (aw _) (ag (bU ha2_1) aC))) (ag (cf (ag (aw _) (ag (bU ha3_1) aC))) aC)))) (oQ [] Tryz.f99 h)
def J9(a0:Int)(a1:AV):Tree :=
 .done 0 [.ptr [.v (.int .u8 a0),VS (mk []),a1,.v (.pointer none)]] []
theorem PR(a0:Int)(a1:AV)(ha1:LK.has .ptr a1)(h:di 9 (J9 a0 a1) R):an Tryz.prog 100 [.v (.int .u8 a0),a1] [] R :=
 uQ (ag (aw _) (ag (bB ha1) aC)) (oQ [] Tryz.f100 h)
def AM(a0_0:AV)(a0_1:AV)(a1:AV)(a2_0:ByteArray)(a2_1:AV)(a3:AV):Tree :=
 NZ a0_0<|NZ a0_0<|.ai (LK.has (.int .u8) (a0_0.deref.hA)/\1<=a0_0.deref.length)<|.test (((a0_0.deref.hA).toInt)==(43:Int)) (.call 113 [.agg [a0_0,a0_1]] [] fun r1 o1=>.ai (r1=.agg r1.cs/\r1.cs.length=2/\bF [.ptr,.ptr] r1.cs 0)<|NZ a1<|NZ a1<|.ai (LK.has (.int .u8) (a1.deref.hA)/\1<=a1.deref.length)<|.test (((a1.deref.hA).toInt)==(114:Int)) (.call 114 [.agg [a0_0,a0_1]] [] fun r2 o2=>.ai (r2=.agg r2.cs/\r2.cs.length=2/\bF [.ptr,.ptr] r2.cs 0)<|NZ a1<|NZ a1<|.ai (LK.has (.int .u8) (a1.deref.hA)/\1<=a1.deref.length)<|NZ a1<|NZ a1<|dR (a1.deref.drop 2)<|.call 101 [.agg [(r2.cs.getD 0 .any),(r2.cs.getD 1 .any)],((a1.deref.drop 2).hA),.agg [VS a2_0,a2_1],a3] [] fun r3 o3=>NP r3<|.call 100 [.v (.int .u8 ((a1.deref.hA).toInt)),r3] [] fun r4 o4=>NP r4<|.done 0 [r4] []) (NZ a1<|NZ a1<|.ai (LK.has (.int .u8) (a1.deref.hA)/\1<=a1.deref.length)<|NZ a1<|NZ a1<|dR (a1.deref.drop 2)<|.call 101 [.agg [(r1.cs.getD 0 .any),(r1.cs.getD 1 .any)],((a1.deref.drop 2).hA),.agg [VS a2_0,a2_1],a3] [] fun r5 o5=>NP r5<|.call 100 [.v (.int .u8 ((a1.deref.hA).toInt)),r5] [] fun r6 o6=>NP r6<|.done 0 [r6] [])) (.test (((a0_0.deref.hA).toInt)==(42:Int)) (NZ a1<|NZ a1<|.ai (LK.has (.int .u8) (a1.deref.hA)/\1<=a1.deref.length)<|.test (((a1.deref.hA).toInt)==(108:Int)) (.call 113 [.agg [a0_0,a0_1]] [] fun r7 o7=>.ai (r7=.agg r7.cs/\r7.cs.length=2/\bF [.ptr,.ptr] r7.cs 0)<|NZ a1<|NZ a1<|dR (a1.deref.drop 2)<|NZ ((a1.deref.drop 2).hA)<|NZ ((a1.deref.drop 2).hA)<|dR (((a1.deref.drop 2).hA).deref.drop 2)<|.call 101 [.agg [(r7.cs.getD 0 .any),(r7.cs.getD 1 .any)],((((a1.deref.drop 2).hA).deref.drop 2).hA),.agg [VS a2_0,a2_1],a3] [] fun r8 o8=>NP r8<|NZ a1<|NZ a1<|dR (a1.deref.drop 2)<|NZ ((a1.deref.drop 2).hA)<|NZ ((a1.deref.drop 2).hA)<|dR (((a1.deref.drop 2).hA).deref.drop 3)<|.call 117 [r8,((((a1.deref.drop 2).hA).deref.drop 3).hA)] [] fun r9 o9=>NP r9<|.done 0 [r9] []) (NZ a1<|NZ a1<|dR (a1.deref.drop 2)<|NZ ((a1.deref.drop 2).hA)<|NZ ((a1.deref.drop 2).hA)<|dR (((a1.deref.drop 2).hA).deref.drop 2)<|.call 114 [.agg [a0_0,a0_1]] [] fun r10 o10=>.ai (r10=.agg r10.cs/\r10.cs.length=2/\bF [.ptr,.ptr] r10.cs 0)<|NZ a1<|NZ a1<|dR (a1.deref.drop 2)<|NZ ((a1.deref.drop 2).hA)<|NZ ((a1.deref.drop 2).hA)<|dR (((a1.deref.drop 2).hA).deref.drop 3)<|.call 101 [.agg [(r10.cs.getD 0 .any),(r10.cs.getD 1 .any)],((((a1.deref.drop 2).hA).deref.drop 3).hA),.agg [VS a2_0,a2_1],a3] [] fun r11 o11=>NP r11<|.call 117 [((((a1.deref.drop 2).hA).deref.drop 2).hA),r11] [] fun r12 o12=>NP r12<|.done 0 [r12] [])) (.test (((a0_0.deref.hA).toInt)==(114:Int)) (.call 86 [.agg [a0_0,a0_1]] [] fun r13 o13=>NT r13<|.ai ((r13.comp 0)=.agg (r13.comp 0).cs/\(r13.comp 0).cs.length=2/\bF [.ptr,.ptr] ((r13.comp 0).cs) 0)<|NP (r13.comp 1)<|NZ a1<|NZ a1<|dR (a1.deref.drop 2)<|NZ ((a1.deref.drop 2).hA)<|NZ ((a1.deref.drop 2).hA)<|.ai (LK.has (.int .u8) (((a1.deref.drop 2).hA).deref.hA)/\1<=(((a1.deref.drop 2).hA).deref).length)<|.test (((((a1.deref.drop 2).hA).deref.hA).toInt)==(108:Int)) (NZ a1<|NZ a1<|dR (a1.deref.drop 2)<|NZ ((a1.deref.drop 2).hA)<|NZ ((a1.deref.drop 2).hA)<|dR (((a1.deref.drop 2).hA).deref.drop 2)<|.call 101 [.agg [((r13.comp 0).cs.getD 0 .any),((r13.comp 0).cs.getD 1 .any)],((((a1.deref.drop 2).hA).deref.drop 2).hA),.agg [VS a2_0,a2_1],a3] [] fun r14 o14=>NP r14<|.call 100 [.v (.int .u8 102),r14] [] fun r15 o15=>NP r15<|.done 0 [r15] []) (NZ a1<|NZ a1<|dR (a1.deref.drop 2)<|NZ ((a1.deref.drop 2).hA)<|NZ ((a1.deref.drop 2).hA)<|dR (((a1.deref.drop 2).hA).deref.drop 2)<|NZ ((((a1.deref.drop 2).hA).deref.drop 2).hA)<|NZ ((((a1.deref.drop 2).hA).deref.drop 2).hA)<|dR (((((a1.deref.drop 2).hA).deref.drop 2).hA).deref.drop 3)<|.call 101 [.agg [a0_0,a0_1],((((((a1.deref.drop 2).hA).deref.drop 2).hA).deref.drop 3).hA),.agg [VS a2_0,a2_1],a3] [] fun r16 o16=>NP r16<|NZ a1<|NZ a1<|dR (a1.deref.drop 2)<|NZ ((a1.deref.drop 2).hA)<|NZ ((a1.deref.drop 2).hA)<|dR (((a1.deref.drop 2).hA).deref.drop 2)<|NZ ((((a1.deref.drop 2).hA).deref.drop 2).hA)<|NZ ((((a1.deref.drop 2).hA).deref.drop 2).hA)<|dR (((((a1.deref.drop 2).hA).deref.drop 2).hA).deref.drop 2)<|.call 101 [.agg [((r13.comp 0).cs.getD 0 .any),((r13.comp 0).cs.getD 1 .any)],((((((a1.deref.drop 2).hA).deref.drop 2).hA).deref.drop 2).hA),.agg [VS (mk []),(r13.comp 1)],r16] [] fun r17 o17=>NP r17<|.call 100 [.v (.int .u8 102),r17] [] fun r18 o18=>NP r18<|.done 0 [r18] [])) (.done 0 [a3] [])))
theorem PE(a0_0:AV)(a0_1:AV)(a1:AV)(a2_0:ByteArray)(a2_1:AV)(a3:AV)(ha0_0:LK.has .ptr a0_0)(ha0_1:LK.has .ptr a0_1)(ha1:LK.has .ptr a1)(ha2_1:LK.has .ptr a2_1)(ha3:LK.has .ptr a3)(h:di 147 (AM a0_0 a0_1 a1 a2_0 a2_1 a3) R):an Tryz.prog 101 [.agg [a0_0,a0_1],a1,.agg [VS a2_0,a2_1],a3] [] R :=
 uQ (ag (cf (ag (bB ha0_0) (ag (bB ha0_1) aC))) (ag (bB ha1) (ag (cf (ag (aw _) (ag (bB ha2_1) aC))) (ag (bB ha3) aC)))) (oQ [] Tryz.f101 h)
def Mr(a0_0:AV)(a0_1:Int)(a1:AV):Tree :=
 NL a1<|.call 81 [.ref 0 0,VI (a1.aP.length:Int)] [.cells [a0_0,VI a0_1]] fun r1 o1=>.ai ((o1.hO)=.cells (o1.hO).cs)<|.ai (aL [.lk .sl,.lk (.int .i64)] ((o1.hO).cs) 0 1 o1.tail)<|NI r1<|.ai (LK.has .sl a1/\0<=r1.toInt/\r1.toInt<a1.aP.length/\(a1.aP.getD r1.toInt.toNat []).length=1)<|lB (a1.aP.getD r1.toInt.toNat [])<|.done 0 [VS (((a1.aP.getD r1.toInt.toNat []).hA).ah)] [.cells [((o1.hO).cs.getD 0 .any),VI (((o1.hO).cs.getD 1 .any).toInt)]]
theorem QK(a0_0:AV)(a0_1:Int)(a1:AV)(ha1:LK.has .sl a1)(ha0_0:LK.has .sl a0_0)(h:di 12 (Mr a0_0 a0_1 a1) R):an Tryz.prog 102 [.ref 0 0,a1] [.cells [a0_0,VI a0_1]] R :=
 an.mX (bx (ca (ag (bU ha0_0) (ag (aw _) aC))) ct) (an.up (ag (aw _) (ag (bU ha1) aC)) (oF [] {mu:=[(0,.one (.obj [.lk .sl,.lk (.int .i64)]))],own:=[]} Tryz.f102 h))
def IX(a0_0:AV)(a0_1:Int):Tree :=
 .call 81 [.ref 0 0,VI 8] [.cells [a0_0,VI a0_1]] fun r1 o1=>.ai ((o1.hO)=.cells (o1.hO).cs)<|.ai (aL [.lk .sl,.lk (.int .i64)] ((o1.hO).cs) 0 1 o1.tail)<|NI r1<|.test (r1.toInt==(0:Int)) (.call 135 [.ref 0 0] [.cells [((o1.hO).cs.getD 0 .any),VI (((o1.hO).cs.getD 1 .any).toInt)]] fun r2 o2=>.ai ((o2.hO)=.cells (o2.hO).cs)<|.ai (aL [.lk .sl,.lk (.int .i64)] ((o2.hO).cs) 0 1 o2.tail)<|NS r2<|.done 0 [VS r2.ah] [.cells [((o2.hO).cs.getD 0 .any),VI (((o2.hO).cs.getD 1 .any).toInt)]]) (.test (r1.toInt==(1:Int)) (.call 136 [.ref 0 0,.sl [],VI 3] [.cells [((o1.hO).cs.getD 0 .any),VI (((o1.hO).cs.getD 1 .any).toInt)]] fun r3 o3=>.ai ((o3.hO)=.cells (o3.hO).cs)<|.ai (aL [.lk .sl,.lk (.int .i64)] ((o3.hO).cs) 0 1 o3.tail)<|NS r3<|.done 0 [VS r3.ah] [.cells [((o3.hO).cs.getD 0 .any),VI (((o3.hO).cs.getD 1 .any).toInt)]]) (.test (r1.toInt==(2:Int)) (.call 136 [.ref 0 0,.sl [],VI 3] [.cells [((o1.hO).cs.getD 0 .any),VI (((o1.hO).cs.getD 1 .any).toInt)]] fun r4 o4=>.ai ((o4.hO)=.cells (o4.hO).cs)<|.ai (aL [.lk .sl,.lk (.int .i64)] ((o4.hO).cs) 0 1 o4.tail)<|NS r4<|.done 0 [VS r4.ah] [.cells [((o4.hO).cs.getD 0 .any),VI (((o4.hO).cs.getD 1 .any).toInt)]]) (.test (r1.toInt==(3:Int)) (.call 136 [.ref 0 0,.sl [],VI 3] [.cells [((o1.hO).cs.getD 0 .any),VI (((o1.hO).cs.getD 1 .any).toInt)]] fun r5 o5=>.ai ((o5.hO)=.cells (o5.hO).cs)<|.ai (aL [.lk .sl,.lk (.int .i64)] ((o5.hO).cs) 0 1 o5.tail)<|NS r5<|.done 0 [VS r5.ah] [.cells [((o5.hO).cs.getD 0 .any),VI (((o5.hO).cs.getD 1 .any).toInt)]]) (.call 80 [.ref 0 0] [.cells [((o1.hO).cs.getD 0 .any),VI (((o1.hO).cs.getD 1 .any).toInt)]] fun r6 o6=>.ai ((o6.hO)=.cells (o6.hO).cs)<|.ai (aL [.lk .sl,.lk (.int .i64)] ((o6.hO).cs) 0 1 o6.tail)<|NS r6<|.done 0 [VS r6.ah] [.cells [((o6.hO).cs.getD 0 .any),VI (((o6.hO).cs.getD 1 .any).toInt)]]))))
theorem RD(a0_0:AV)(a0_1:Int)(ha0_0:LK.has .sl a0_0)(h:di 18 (IX a0_0 a0_1) R):an Tryz.prog 103 [.ref 0 0] [.cells [a0_0,VI a0_1]] R :=
 an.mX (bx (ca (ag (bU ha0_0) (ag (aw _) aC))) ct) (an.up (ag (aw _) aC) (oF [] {mu:=[(0,.one (.obj [.lk .sl,.lk (.int .i64)]))],own:=[]} Tryz.f103 h))
def HB:LI:={hd:={bV:=[(7,.k (.int .i64))],refs:=[(2,2),(4,4)],co:=[(2,[.lk .str,.lk .sl]),(4,[.lk .str,.lk .sl])],eV:=[(6,1)]},xs:={refs:=[(2,2),(4,4)],co:=[(2,[.lk .str,.lk .sl]),(4,[.lk .str,.lk .sl])]},rt:={bV:=[(3,.k .bool)],refs:=[(2,2)],co:=[(2,[.lk .str,.lk .sl])]},ex:=0}
def M8:Code:=cF (cC Tryz.f104) 6
def Jt:List (Nat×LI):=[(6,HB)]
def KX(a0:ByteArray):Tree :=
 .call 132 [VS a0] [] fun r1 o1=>NT r1<|.ai ((r1.comp 0)=.agg (r1.comp 0).cs/\(r1.comp 0).cs.length=2/\bF [.str,.sl] ((r1.comp 0).cs) 0)<|NB (r1.comp 1)<|.test (!((r1.comp 1).toBool)) (.done 0 [.cD [.agg [VS (((r1.comp 0).cs.getD 0 .any).ah),((r1.comp 0).cs.getD 1 .any)],VB false]] []) (.call 137 [.agg [VS (((r1.comp 0).cs.getD 0 .any).ah),((r1.comp 0).cs.getD 1 .any)],.sl [],.vec 0] [.vec 1 []] fun r2 o2=>.ai (r2=.vec 1/\(o2.tail.hO)=.vec 1 (o2.tail.hO).es)<|.loop M8 HB [VI 0] [.cells [VS (mk []),.v (.slice none 0 0)],.cells [VS (((r1.comp 0).cs.getD 0 .any).ah),((r1.comp 0).cs.getD 1 .any)],.vec 1 ((o2.tail.hO).es)] (fun y4 q4=>.ai ((q4.hO)=.cells (q4.hO).cs)<|.ai (ac [.lk .str,.lk .sl] ((q4.hO).cs) 0 q4.tail)<|.ai (((q4.tail.drop 0).hO)=.cells ((q4.tail.drop 0).hO).cs)<|.ai (ac [.lk .str,.lk .sl] (((q4.tail.drop 0).hO).cs) 0 ((q4.tail.drop 0).tail))<|.done 0 [.cD [.agg [VS (((q4.tail.hO).cs.getD 0 .any).ah),((q4.tail.hO).cs.getD 1 .any)],VB true]] []) (fun y4 q4=>NB (y4.hA)<|.ai ((q4.hO)=.cells (q4.hO).cs)<|.ai (ac [.lk .str,.lk .sl] ((q4.hO).cs) 0 q4.tail)<|.done 0 [.cD [.agg [VS (((q4.hO).cs.getD 0 .any).ah),((q4.hO).cs.getD 1 .any)],VB ((y4.hA).toBool)]] []))
theorem Sl(a0:ByteArray)(h:di 33 (KX a0) R):an Tryz.prog 104 [VS a0] [] R :=
 uQ (ag (aw _) aC) (oQ Jt Tryz.f104 h)
def F5(x7:Int)(o2_0:ByteArray)(o2_1:AV)(o4_0:ByteArray)(o4_1:AV)(e6:List (List AV)):Tree :=
 NI (VI x7)<|.ai (Ob.cells [VS o2_0,o2_1]=.cells [VS o2_0,o2_1])<|.ai (ac [.lk .str,.lk .sl] [VS o2_0,o2_1] 0 [.cells [VS o4_0,o4_1],.vec 1 e6])<|.ai (Ob.cells [VS o4_0,o4_1]=.cells [VS o4_0,o4_1])<|.ai (ac [.lk .str,.lk .sl] [VS o4_0,o4_1] 0 [.vec 1 e6])<|.ai (Ob.vec 1 e6=.vec 1 e6)<|.test (decide (x7<(e6.length:Int))) (.ai (0<=x7/\x7<e6.length)<|.ai (x7.toNat<e6.length/\0<(e6.getD x7.toNat []).length/\LK.has .str ((e6.getD x7.toNat []).getD 0 .any))<|.call 138 [VS (((e6.getD x7.toNat []).getD 0 .any).ah)] [] fun r1 o1=>NB r1<|.test r1.toBool (.done 2 [VB false] [.cells [VS o4_0,o4_1]]) (.done 0 [VI (IntKind.wrap .i64 (x7+1))] [.cells [VS o2_0,o2_1],.cells [VS o4_0,o4_1],.vec 1 e6])) (.done 1 [] [.cells [VS o2_0,o2_1],.cells [VS o4_0,o4_1]])
abbrev GK:=cB Tryz.prog 33 M8 HB
theorem JC(x7:Int)(o2_0:ByteArray)(o2_1:AV)(o4_0:ByteArray)(o4_1:AV)(e6:List (List AV))(h:ka 33 (F5 x7 o2_0 o2_1 o4_0 o4_1 e6) GK U):GK [VI x7] [.cells [VS o2_0,o2_1],.cells [VS o4_0,o4_1],.vec 1 e6] U :=
 gQ Jt h
def AT(a0_0:AV)(a0_1:Int)(a1_0:ByteArray)(a1_1:AV)(a2:Int):Tree :=
 .call 121 [.agg [VS a1_0,a1_1]] [] fun r1 o1=>NS r1<|.test (ae r1.ah==ae (mk [43])) (.call 81 [.ref 0 0,VI 2] [.cells [a0_0,VI a0_1]] fun r2 o2=>.ai ((o2.hO)=.cells (o2.hO).cs)<|.ai (aL [.lk .sl,.lk (.int .i64)] ((o2.hO).cs) 0 1 o2.tail)<|NI r2<|NG a1_1 1 2<|NE (a1_1.ix (1:Int))<|.call 139 [.agg [VS (((a1_1.ix (1:Int)).getD 0 .any).ah),((a1_1.ix (1:Int)).getD 1 .any)],.sl []] [] fun r3 o3=>NB r3<|.test r3.toBool (.test ((1:Int)==(0:Int)) (NG a1_1 1 2<|NE (a1_1.ix (1:Int))<|.call 105 [.ref 0 0,.agg [VS (((a1_1.ix (1:Int)).getD 0 .any).ah),((a1_1.ix (1:Int)).getD 1 .any)],VI (IntKind.wrap .i64 (a2-1))] [.cells [((o2.hO).cs.getD 0 .any),VI (((o2.hO).cs.getD 1 .any).toInt)]] fun r4 o4=>.ai ((o4.hO)=.cells (o4.hO).cs)<|.ai (aL [.lk .sl,.lk (.int .i64)] ((o4.hO).cs) 0 1 o4.tail)<|NA r4<|.call 98 [VS (mk [108]),.sl [[VS ((r4.cs.getD 0 .any).ah),(r4.cs.getD 1 .any)]]] [] fun r5 o5=>NA r5<|.done 0 [.agg [VS ((r5.cs.getD 0 .any).ah),(r5.cs.getD 1 .any)]] [.cells [((o4.hO).cs.getD 0 .any),VI (((o4.hO).cs.getD 1 .any).toInt)]]) (NG a1_1 2 2<|NE (a1_1.ix (2:Int))<|.call 105 [.ref 0 0,.agg [VS (((a1_1.ix (2:Int)).getD 0 .any).ah),((a1_1.ix (2:Int)).getD 1 .any)],VI (IntKind.wrap .i64 (a2-1))] [.cells [((o2.hO).cs.getD 0 .any),VI (((o2.hO).cs.getD 1 .any).toInt)]] fun r6 o6=>.ai ((o6.hO)=.cells (o6.hO).cs)<|.ai (aL [.lk .sl,.lk (.int .i64)] ((o6.hO).cs) 0 1 o6.tail)<|NA r6<|.call 98 [VS (mk [114]),.sl [[VS ((r6.cs.getD 0 .any).ah),(r6.cs.getD 1 .any)]]] [] fun r7 o7=>NA r7<|.done 0 [.agg [VS ((r7.cs.getD 0 .any).ah),(r7.cs.getD 1 .any)]] [.cells [((o6.hO).cs.getD 0 .any),VI (((o6.hO).cs.getD 1 .any).toInt)]])) (.test (decide (a2<=(0:Int))) (NG a1_1 1 2<|NE (a1_1.ix (1:Int))<|.call 140 [.agg [VS (((a1_1.ix (1:Int)).getD 0 .any).ah),((a1_1.ix (1:Int)).getD 1 .any)]] [] fun r8 o8=>NI r8<|NG a1_1 2 2<|NE (a1_1.ix (2:Int))<|.call 140 [.agg [VS (((a1_1.ix (2:Int)).getD 0 .any).ah),((a1_1.ix (2:Int)).getD 1 .any)]] [] fun r9 o9=>NI r9<|.test (decide (r8.toInt>r9.toInt)) (NG a1_1 2 2<|NE (a1_1.ix (2:Int))<|.call 139 [.agg [VS (((a1_1.ix (2:Int)).getD 0 .any).ah),((a1_1.ix (2:Int)).getD 1 .any)],.sl []] [] fun r10 o10=>NB r10<|.test (!r10.toBool) (.test ((1:Int)==(0:Int)) (NG a1_1 1 2<|NE (a1_1.ix (1:Int))<|.call 105 [.ref 0 0,.agg [VS (((a1_1.ix (1:Int)).getD 0 .any).ah),((a1_1.ix (1:Int)).getD 1 .any)],VI (IntKind.wrap .i64 (a2-1))] [.cells [((o2.hO).cs.getD 0 .any),VI (((o2.hO).cs.getD 1 .any).toInt)]] fun r11 o11=>.ai ((o11.hO)=.cells (o11.hO).cs)<|.ai (aL [.lk .sl,.lk (.int .i64)] ((o11.hO).cs) 0 1 o11.tail)<|NA r11<|.call 98 [VS (mk [108]),.sl [[VS ((r11.cs.getD 0 .any).ah),(r11.cs.getD 1 .any)]]] [] fun r12 o12=>NA r12<|.done 0 [.agg [VS ((r12.cs.getD 0 .any).ah),(r12.cs.getD 1 .any)]] [.cells [((o11.hO).cs.getD 0 .any),VI (((o11.hO).cs.getD 1 .any).toInt)]]) (NG a1_1 2 2<|NE (a1_1.ix (2:Int))<|.call 105 [.ref 0 0,.agg [VS (((a1_1.ix (2:Int)).getD 0 .any).ah),((a1_1.ix (2:Int)).getD 1 .any)],VI (IntKind.wrap .i64 (a2-1))] [.cells [((o2.hO).cs.getD 0 .any),VI (((o2.hO).cs.getD 1 .any).toInt)]] fun r13 o13=>.ai ((o13.hO)=.cells (o13.hO).cs)<|.ai (aL [.lk .sl,.lk (.int .i64)] ((o13.hO).cs) 0 1 o13.tail)<|NA r13<|.call 98 [VS (mk [114]),.sl [[VS ((r13.cs.getD 0 .any).ah),(r13.cs.getD 1 .any)]]] [] fun r14 o14=>NA r14<|.done 0 [.agg [VS ((r14.cs.getD 0 .any).ah),(r14.cs.getD 1 .any)]] [.cells [((o13.hO).cs.getD 0 .any),VI (((o13.hO).cs.getD 1 .any).toInt)]])) (NG a1_1 2 2<|NE (a1_1.ix (2:Int))<|.call 139 [.agg [VS (((a1_1.ix (2:Int)).getD 0 .any).ah),((a1_1.ix (2:Int)).getD 1 .any)],.sl []] [] fun r15 o15=>NB r15<|.test r15.toBool (.test ((0:Int)==(0:Int)) (NG a1_1 1 2<|NE (a1_1.ix (1:Int))<|.call 105 [.ref 0 0,.agg [VS (((a1_1.ix (1:Int)).getD 0 .any).ah),((a1_1.ix (1:Int)).getD 1 .any)],VI (IntKind.wrap .i64 (a2-1))] [.cells [((o2.hO).cs.getD 0 .any),VI (((o2.hO).cs.getD 1 .any).toInt)]] fun r16 o16=>.ai ((o16.hO)=.cells (o16.hO).cs)<|.ai (aL [.lk .sl,.lk (.int .i64)] ((o16.hO).cs) 0 1 o16.tail)<|NA r16<|.call 98 [VS (mk [108]),.sl [[VS ((r16.cs.getD 0 .any).ah),(r16.cs.getD 1 .any)]]] [] fun r17 o17=>NA r17<|.done 0 [.agg [VS ((r17.cs.getD 0 .any).ah),(r17.cs.getD 1 .any)]] [.cells [((o16.hO).cs.getD 0 .any),VI (((o16.hO).cs.getD 1 .any).toInt)]]) (NG a1_1 2 2<|NE (a1_1.ix (2:Int))<|.call 105 [.ref 0 0,.agg [VS (((a1_1.ix (2:Int)).getD 0 .any).ah),((a1_1.ix (2:Int)).getD 1 .any)],VI (IntKind.wrap .i64 (a2-1))] [.cells [((o2.hO).cs.getD 0 .any),VI (((o2.hO).cs.getD 1 .any).toInt)]] fun r18 o18=>.ai ((o18.hO)=.cells (o18.hO).cs)<|.ai (aL [.lk .sl,.lk (.int .i64)] ((o18.hO).cs) 0 1 o18.tail)<|NA r18<|.call 98 [VS (mk [114]),.sl [[VS ((r18.cs.getD 0 .any).ah),(r18.cs.getD 1 .any)]]] [] fun r19 o19=>NA r19<|.done 0 [.agg [VS ((r19.cs.getD 0 .any).ah),(r19.cs.getD 1 .any)]] [.cells [((o18.hO).cs.getD 0 .any),VI (((o18.hO).cs.getD 1 .any).toInt)]])) (.test (decide (a2<=(0:Int))) (.test ((0:Int)==(0:Int)) (NG a1_1 1 2<|NE (a1_1.ix (1:Int))<|.call 105 [.ref 0 0,.agg [VS (((a1_1.ix (1:Int)).getD 0 .any).ah),((a1_1.ix (1:Int)).getD 1 .any)],VI (IntKind.wrap .i64 (a2-1))] [.cells [((o2.hO).cs.getD 0 .any),VI (((o2.hO).cs.getD 1 .any).toInt)]] fun r20 o20=>.ai ((o20.hO)=.cells (o20.hO).cs)<|.ai (aL [.lk .sl,.lk (.int .i64)] ((o20.hO).cs) 0 1 o20.tail)<|NA r20<|.call 98 [VS (mk [108]),.sl [[VS ((r20.cs.getD 0 .any).ah),(r20.cs.getD 1 .any)]]] [] fun r21 o21=>NA r21<|.done 0 [.agg [VS ((r21.cs.getD 0 .any).ah),(r21.cs.getD 1 .any)]] [.cells [((o20.hO).cs.getD 0 .any),VI (((o20.hO).cs.getD 1 .any).toInt)]]) (NG a1_1 2 2<|NE (a1_1.ix (2:Int))<|.call 105 [.ref 0 0,.agg [VS (((a1_1.ix (2:Int)).getD 0 .any).ah),((a1_1.ix (2:Int)).getD 1 .any)],VI (IntKind.wrap .i64 (a2-1))] [.cells [((o2.hO).cs.getD 0 .any),VI (((o2.hO).cs.getD 1 .any).toInt)]] fun r22 o22=>.ai ((o22.hO)=.cells (o22.hO).cs)<|.ai (aL [.lk .sl,.lk (.int .i64)] ((o22.hO).cs) 0 1 o22.tail)<|NA r22<|.call 98 [VS (mk [114]),.sl [[VS ((r22.cs.getD 0 .any).ah),(r22.cs.getD 1 .any)]]] [] fun r23 o23=>NA r23<|.done 0 [.agg [VS ((r23.cs.getD 0 .any).ah),(r23.cs.getD 1 .any)]] [.cells [((o22.hO).cs.getD 0 .any),VI (((o22.hO).cs.getD 1 .any).toInt)]])) (.test (r2.toInt==(0:Int)) (NG a1_1 1 2<|NE (a1_1.ix (1:Int))<|.call 105 [.ref 0 0,.agg [VS (((a1_1.ix (1:Int)).getD 0 .any).ah),((a1_1.ix (1:Int)).getD 1 .any)],VI (IntKind.wrap .i64 (a2-1))] [.cells [((o2.hO).cs.getD 0 .any),VI (((o2.hO).cs.getD 1 .any).toInt)]] fun r24 o24=>.ai ((o24.hO)=.cells (o24.hO).cs)<|.ai (aL [.lk .sl,.lk (.int .i64)] ((o24.hO).cs) 0 1 o24.tail)<|NA r24<|.call 98 [VS (mk [108]),.sl [[VS ((r24.cs.getD 0 .any).ah),(r24.cs.getD 1 .any)]]] [] fun r25 o25=>NA r25<|.done 0 [.agg [VS ((r25.cs.getD 0 .any).ah),(r25.cs.getD 1 .any)]] [.cells [((o24.hO).cs.getD 0 .any),VI (((o24.hO).cs.getD 1 .any).toInt)]]) (NG a1_1 2 2<|NE (a1_1.ix (2:Int))<|.call 105 [.ref 0 0,.agg [VS (((a1_1.ix (2:Int)).getD 0 .any).ah),((a1_1.ix (2:Int)).getD 1 .any)],VI (IntKind.wrap .i64 (a2-1))] [.cells [((o2.hO).cs.getD 0 .any),VI (((o2.hO).cs.getD 1 .any).toInt)]] fun r26 o26=>.ai ((o26.hO)=.cells (o26.hO).cs)<|.ai (aL [.lk .sl,.lk (.int .i64)] ((o26.hO).cs) 0 1 o26.tail)<|NA r26<|.call 98 [VS (mk [114]),.sl [[VS ((r26.cs.getD 0 .any).ah),(r26.cs.getD 1 .any)]]] [] fun r27 o27=>NA r27<|.done 0 [.agg [VS ((r27.cs.getD 0 .any).ah),(r27.cs.getD 1 .any)]] [.cells [((o26.hO).cs.getD 0 .any),VI (((o26.hO).cs.getD 1 .any).toInt)]]))))) (NG a1_1 2 2<|NE (a1_1.ix (2:Int))<|.call 139 [.agg [VS (((a1_1.ix (2:Int)).getD 0 .any).ah),((a1_1.ix (2:Int)).getD 1 .any)],.sl []] [] fun r28 o28=>NB r28<|.test r28.toBool (.test ((0:Int)==(0:Int)) (NG a1_1 1 2<|NE (a1_1.ix (1:Int))<|.call 105 [.ref 0 0,.agg [VS (((a1_1.ix (1:Int)).getD 0 .any).ah),((a1_1.ix (1:Int)).getD 1 .any)],VI (IntKind.wrap .i64 (a2-1))] [.cells [((o2.hO).cs.getD 0 .any),VI (((o2.hO).cs.getD 1 .any).toInt)]] fun r29 o29=>.ai ((o29.hO)=.cells (o29.hO).cs)<|.ai (aL [.lk .sl,.lk (.int .i64)] ((o29.hO).cs) 0 1 o29.tail)<|NA r29<|.call 98 [VS (mk [108]),.sl [[VS ((r29.cs.getD 0 .any).ah),(r29.cs.getD 1 .any)]]] [] fun r30 o30=>NA r30<|.done 0 [.agg [VS ((r30.cs.getD 0 .any).ah),(r30.cs.getD 1 .any)]] [.cells [((o29.hO).cs.getD 0 .any),VI (((o29.hO).cs.getD 1 .any).toInt)]]) (NG a1_1 2 2<|NE (a1_1.ix (2:Int))<|.call 105 [.ref 0 0,.agg [VS (((a1_1.ix (2:Int)).getD 0 .any).ah),((a1_1.ix (2:Int)).getD 1 .any)],VI (IntKind.wrap .i64 (a2-1))] [.cells [((o2.hO).cs.getD 0 .any),VI (((o2.hO).cs.getD 1 .any).toInt)]] fun r31 o31=>.ai ((o31.hO)=.cells (o31.hO).cs)<|.ai (aL [.lk .sl,.lk (.int .i64)] ((o31.hO).cs) 0 1 o31.tail)<|NA r31<|.call 98 [VS (mk [114]),.sl [[VS ((r31.cs.getD 0 .any).ah),(r31.cs.getD 1 .any)]]] [] fun r32 o32=>NA r32<|.done 0 [.agg [VS ((r32.cs.getD 0 .any).ah),(r32.cs.getD 1 .any)]] [.cells [((o31.hO).cs.getD 0 .any),VI (((o31.hO).cs.getD 1 .any).toInt)]])) (.test (decide (a2<=(0:Int))) (.test ((0:Int)==(0:Int)) (NG a1_1 1 2<|NE (a1_1.ix (1:Int))<|.call 105 [.ref 0 0,.agg [VS (((a1_1.ix (1:Int)).getD 0 .any).ah),((a1_1.ix (1:Int)).getD 1 .any)],VI (IntKind.wrap .i64 (a2-1))] [.cells [((o2.hO).cs.getD 0 .any),VI (((o2.hO).cs.getD 1 .any).toInt)]] fun r33 o33=>.ai ((o33.hO)=.cells (o33.hO).cs)<|.ai (aL [.lk .sl,.lk (.int .i64)] ((o33.hO).cs) 0 1 o33.tail)<|NA r33<|.call 98 [VS (mk [108]),.sl [[VS ((r33.cs.getD 0 .any).ah),(r33.cs.getD 1 .any)]]] [] fun r34 o34=>NA r34<|.done 0 [.agg [VS ((r34.cs.getD 0 .any).ah),(r34.cs.getD 1 .any)]] [.cells [((o33.hO).cs.getD 0 .any),VI (((o33.hO).cs.getD 1 .any).toInt)]]) (NG a1_1 2 2<|NE (a1_1.ix (2:Int))<|.call 105 [.ref 0 0,.agg [VS (((a1_1.ix (2:Int)).getD 0 .any).ah),((a1_1.ix (2:Int)).getD 1 .any)],VI (IntKind.wrap .i64 (a2-1))] [.cells [((o2.hO).cs.getD 0 .any),VI (((o2.hO).cs.getD 1 .any).toInt)]] fun r35 o35=>.ai ((o35.hO)=.cells (o35.hO).cs)<|.ai (aL [.lk .sl,.lk (.int .i64)] ((o35.hO).cs) 0 1 o35.tail)<|NA r35<|.call 98 [VS (mk [114]),.sl [[VS ((r35.cs.getD 0 .any).ah),(r35.cs.getD 1 .any)]]] [] fun r36 o36=>NA r36<|.done 0 [.agg [VS ((r36.cs.getD 0 .any).ah),(r36.cs.getD 1 .any)]] [.cells [((o35.hO).cs.getD 0 .any),VI (((o35.hO).cs.getD 1 .any).toInt)]])) (.test (r2.toInt==(0:Int)) (NG a1_1 1 2<|NE (a1_1.ix (1:Int))<|.call 105 [.ref 0 0,.agg [VS (((a1_1.ix (1:Int)).getD 0 .any).ah),((a1_1.ix (1:Int)).getD 1 .any)],VI (IntKind.wrap .i64 (a2-1))] [.cells [((o2.hO).cs.getD 0 .any),VI (((o2.hO).cs.getD 1 .any).toInt)]] fun r37 o37=>.ai ((o37.hO)=.cells (o37.hO).cs)<|.ai (aL [.lk .sl,.lk (.int .i64)] ((o37.hO).cs) 0 1 o37.tail)<|NA r37<|.call 98 [VS (mk [108]),.sl [[VS ((r37.cs.getD 0 .any).ah),(r37.cs.getD 1 .any)]]] [] fun r38 o38=>NA r38<|.done 0 [.agg [VS ((r38.cs.getD 0 .any).ah),(r38.cs.getD 1 .any)]] [.cells [((o37.hO).cs.getD 0 .any),VI (((o37.hO).cs.getD 1 .any).toInt)]]) (NG a1_1 2 2<|NE (a1_1.ix (2:Int))<|.call 105 [.ref 0 0,.agg [VS (((a1_1.ix (2:Int)).getD 0 .any).ah),((a1_1.ix (2:Int)).getD 1 .any)],VI (IntKind.wrap .i64 (a2-1))] [.cells [((o2.hO).cs.getD 0 .any),VI (((o2.hO).cs.getD 1 .any).toInt)]] fun r39 o39=>.ai ((o39.hO)=.cells (o39.hO).cs)<|.ai (aL [.lk .sl,.lk (.int .i64)] ((o39.hO).cs) 0 1 o39.tail)<|NA r39<|.call 98 [VS (mk [114]),.sl [[VS ((r39.cs.getD 0 .any).ah),(r39.cs.getD 1 .any)]]] [] fun r40 o40=>NA r40<|.done 0 [.agg [VS ((r40.cs.getD 0 .any).ah),(r40.cs.getD 1 .any)]] [.cells [((o39.hO).cs.getD 0 .any),VI (((o39.hO).cs.getD 1 .any).toInt)]]))))) (NG a1_1 2 2<|NE (a1_1.ix (2:Int))<|.call 139 [.agg [VS (((a1_1.ix (2:Int)).getD 0 .any).ah),((a1_1.ix (2:Int)).getD 1 .any)],.sl []] [] fun r41 o41=>NB r41<|.test r41.toBool (.test ((0:Int)==(0:Int)) (NG a1_1 1 2<|NE (a1_1.ix (1:Int))<|.call 105 [.ref 0 0,.agg [VS (((a1_1.ix (1:Int)).getD 0 .any).ah),((a1_1.ix (1:Int)).getD 1 .any)],VI (IntKind.wrap .i64 (a2-1))] [.cells [((o2.hO).cs.getD 0 .any),VI (((o2.hO).cs.getD 1 .any).toInt)]] fun r42 o42=>.ai ((o42.hO)=.cells (o42.hO).cs)<|.ai (aL [.lk .sl,.lk (.int .i64)] ((o42.hO).cs) 0 1 o42.tail)<|NA r42<|.call 98 [VS (mk [108]),.sl [[VS ((r42.cs.getD 0 .any).ah),(r42.cs.getD 1 .any)]]] [] fun r43 o43=>NA r43<|.done 0 [.agg [VS ((r43.cs.getD 0 .any).ah),(r43.cs.getD 1 .any)]] [.cells [((o42.hO).cs.getD 0 .any),VI (((o42.hO).cs.getD 1 .any).toInt)]]) (NG a1_1 2 2<|NE (a1_1.ix (2:Int))<|.call 105 [.ref 0 0,.agg [VS (((a1_1.ix (2:Int)).getD 0 .any).ah),((a1_1.ix (2:Int)).getD 1 .any)],VI (IntKind.wrap .i64 (a2-1))] [.cells [((o2.hO).cs.getD 0 .any),VI (((o2.hO).cs.getD 1 .any).toInt)]] fun r44 o44=>.ai ((o44.hO)=.cells (o44.hO).cs)<|.ai (aL [.lk .sl,.lk (.int .i64)] ((o44.hO).cs) 0 1 o44.tail)<|NA r44<|.call 98 [VS (mk [114]),.sl [[VS ((r44.cs.getD 0 .any).ah),(r44.cs.getD 1 .any)]]] [] fun r45 o45=>NA r45<|.done 0 [.agg [VS ((r45.cs.getD 0 .any).ah),(r45.cs.getD 1 .any)]] [.cells [((o44.hO).cs.getD 0 .any),VI (((o44.hO).cs.getD 1 .any).toInt)]])) (.test (decide (a2<=(0:Int))) (.test ((0:Int)==(0:Int)) (NG a1_1 1 2<|NE (a1_1.ix (1:Int))<|.call 105 [.ref 0 0,.agg [VS (((a1_1.ix (1:Int)).getD 0 .any).ah),((a1_1.ix (1:Int)).getD 1 .any)],VI (IntKind.wrap .i64 (a2-1))] [.cells [((o2.hO).cs.getD 0 .any),VI (((o2.hO).cs.getD 1 .any).toInt)]] fun r46 o46=>.ai ((o46.hO)=.cells (o46.hO).cs)<|.ai (aL [.lk .sl,.lk (.int .i64)] ((o46.hO).cs) 0 1 o46.tail)<|NA r46<|.call 98 [VS (mk [108]),.sl [[VS ((r46.cs.getD 0 .any).ah),(r46.cs.getD 1 .any)]]] [] fun r47 o47=>NA r47<|.done 0 [.agg [VS ((r47.cs.getD 0 .any).ah),(r47.cs.getD 1 .any)]] [.cells [((o46.hO).cs.getD 0 .any),VI (((o46.hO).cs.getD 1 .any).toInt)]]) (NG a1_1 2 2<|NE (a1_1.ix (2:Int))<|.call 105 [.ref 0 0,.agg [VS (((a1_1.ix (2:Int)).getD 0 .any).ah),((a1_1.ix (2:Int)).getD 1 .any)],VI (IntKind.wrap .i64 (a2-1))] [.cells [((o2.hO).cs.getD 0 .any),VI (((o2.hO).cs.getD 1 .any).toInt)]] fun r48 o48=>.ai ((o48.hO)=.cells (o48.hO).cs)<|.ai (aL [.lk .sl,.lk (.int .i64)] ((o48.hO).cs) 0 1 o48.tail)<|NA r48<|.call 98 [VS (mk [114]),.sl [[VS ((r48.cs.getD 0 .any).ah),(r48.cs.getD 1 .any)]]] [] fun r49 o49=>NA r49<|.done 0 [.agg [VS ((r49.cs.getD 0 .any).ah),(r49.cs.getD 1 .any)]] [.cells [((o48.hO).cs.getD 0 .any),VI (((o48.hO).cs.getD 1 .any).toInt)]])) (.test (r2.toInt==(0:Int)) (NG a1_1 1 2<|NE (a1_1.ix (1:Int))<|.call 105 [.ref 0 0,.agg [VS (((a1_1.ix (1:Int)).getD 0 .any).ah),((a1_1.ix (1:Int)).getD 1 .any)],VI (IntKind.wrap .i64 (a2-1))] [.cells [((o2.hO).cs.getD 0 .any),VI (((o2.hO).cs.getD 1 .any).toInt)]] fun r50 o50=>.ai ((o50.hO)=.cells (o50.hO).cs)<|.ai (aL [.lk .sl,.lk (.int .i64)] ((o50.hO).cs) 0 1 o50.tail)<|NA r50<|.call 98 [VS (mk [108]),.sl [[VS ((r50.cs.getD 0 .any).ah),(r50.cs.getD 1 .any)]]] [] fun r51 o51=>NA r51<|.done 0 [.agg [VS ((r51.cs.getD 0 .any).ah),(r51.cs.getD 1 .any)]] [.cells [((o50.hO).cs.getD 0 .any),VI (((o50.hO).cs.getD 1 .any).toInt)]]) (NG a1_1 2 2<|NE (a1_1.ix (2:Int))<|.call 105 [.ref 0 0,.agg [VS (((a1_1.ix (2:Int)).getD 0 .any).ah),((a1_1.ix (2:Int)).getD 1 .any)],VI (IntKind.wrap .i64 (a2-1))] [.cells [((o2.hO).cs.getD 0 .any),VI (((o2.hO).cs.getD 1 .any).toInt)]] fun r52 o52=>.ai ((o52.hO)=.cells (o52.hO).cs)<|.ai (aL [.lk .sl,.lk (.int .i64)] ((o52.hO).cs) 0 1 o52.tail)<|NA r52<|.call 98 [VS (mk [114]),.sl [[VS ((r52.cs.getD 0 .any).ah),(r52.cs.getD 1 .any)]]] [] fun r53 o53=>NA r53<|.done 0 [.agg [VS ((r53.cs.getD 0 .any).ah),(r53.cs.getD 1 .any)]] [.cells [((o52.hO).cs.getD 0 .any),VI (((o52.hO).cs.getD 1 .any).toInt)]])))))) (.test (ae r1.ah==ae (mk [42])) (NG a1_1 1 2<|NE (a1_1.ix (1:Int))<|.call 105 [.ref 0 0,.agg [VS (((a1_1.ix (1:Int)).getD 0 .any).ah),((a1_1.ix (1:Int)).getD 1 .any)],VI (IntKind.wrap .i64 (a2-1))] [.cells [a0_0,VI a0_1]] fun r54 o54=>.ai ((o54.hO)=.cells (o54.hO).cs)<|.ai (aL [.lk .sl,.lk (.int .i64)] ((o54.hO).cs) 0 1 o54.tail)<|NA r54<|NG a1_1 2 2<|NE (a1_1.ix (2:Int))<|.call 105 [.ref 0 0,.agg [VS (((a1_1.ix (2:Int)).getD 0 .any).ah),((a1_1.ix (2:Int)).getD 1 .any)],VI (IntKind.wrap .i64 (a2-1))] [.cells [((o54.hO).cs.getD 0 .any),VI (((o54.hO).cs.getD 1 .any).toInt)]] fun r55 o55=>.ai ((o55.hO)=.cells (o55.hO).cs)<|.ai (aL [.lk .sl,.lk (.int .i64)] ((o55.hO).cs) 0 1 o55.tail)<|NA r55<|.call 98 [VS (mk [112]),.sl [[VS ((r54.cs.getD 0 .any).ah),(r54.cs.getD 1 .any)],[VS ((r55.cs.getD 0 .any).ah),(r55.cs.getD 1 .any)]]] [] fun r56 o56=>NA r56<|.done 0 [.agg [VS ((r56.cs.getD 0 .any).ah),(r56.cs.getD 1 .any)]] [.cells [((o55.hO).cs.getD 0 .any),VI (((o55.hO).cs.getD 1 .any).toInt)]]) (.test (ae r1.ah==ae (mk [114,101,99])) (.call 141 [.agg [VS a1_0,a1_1]] [] fun r57 o57=>NT r57<|.ai ((r57.comp 0)=.agg (r57.comp 0).cs/\(r57.comp 0).cs.length=2/\bF [.str,.sl] ((r57.comp 0).cs) 0)<|NB (r57.comp 1)<|.test (!((r57.comp 1).toBool)) (.done 0 [.agg [VS (mk [117]),.v (.slice none 0 0)]] [.cells [a0_0,VI a0_1]]) (.test (decide (a2<((-12):Int))) (.done 0 [.agg [VS (mk [117]),.v (.slice none 0 0)]] [.cells [a0_0,VI a0_1]]) (.call 105 [.ref 0 0,.agg [VS (((r57.comp 0).cs.getD 0 .any).ah),((r57.comp 0).cs.getD 1 .any)],VI (IntKind.wrap .i64 (a2-1))] [.cells [a0_0,VI a0_1]] fun r58 o58=>.ai ((o58.hO)=.cells (o58.hO).cs)<|.ai (aL [.lk .sl,.lk (.int .i64)] ((o58.hO).cs) 0 1 o58.tail)<|NA r58<|.call 98 [VS (mk [102]),.sl [[VS ((r58.cs.getD 0 .any).ah),(r58.cs.getD 1 .any)]]] [] fun r59 o59=>NA r59<|.done 0 [.agg [VS ((r59.cs.getD 0 .any).ah),(r59.cs.getD 1 .any)]] [.cells [((o58.hO).cs.getD 0 .any),VI (((o58.hO).cs.getD 1 .any).toInt)]]))) (.test (ae a1_0==ae (mk [49])) (.done 0 [.agg [VS (mk [117]),.v (.slice none 0 0)]] [.cells [a0_0,VI a0_1]]) (.call 81 [.ref 0 0,VI 3] [.cells [a0_0,VI a0_1]] fun r60 o60=>.ai ((o60.hO)=.cells (o60.hO).cs)<|.ai (aL [.lk .sl,.lk (.int .i64)] ((o60.hO).cs) 0 1 o60.tail)<|NI r60<|.call 142 [VI r60.toInt] [] fun r61 o61=>NS r61<|.ai (af (mk [101])+af r61.ah<=9223372036854775807)<|.done 0 [.agg [VS (((mk [101]):ByteArray)++r61.ah),.v (.slice none 0 0)]] [.cells [((o60.hO).cs.getD 0 .any),VI (((o60.hO).cs.getD 1 .any).toInt)]]))))
theorem D5(a0_0:AV)(a0_1:Int)(a1_0:ByteArray)(a1_1:AV)(a2:Int)(ha1_1:LK.has .sl a1_1)(ha0_0:LK.has .sl a0_0)(h:di 132 (AT a0_0 a0_1 a1_0 a1_1 a2) R):an Tryz.prog 105 [.ref 0 0,.agg [VS a1_0,a1_1],VI a2] [.cells [a0_0,VI a0_1]] R :=
 an.mX (bx (ca (ag (bU ha0_0) (ag (aw _) aC))) ct) (an.up (ag (aw _) (ag (cf (ag (aw _) (ag (bU ha1_1) aC))) (ag (aw _) aC))) (oF [] {mu:=[(0,.one (.obj [.lk .sl,.lk (.int .i64)]))],own:=[]} Tryz.f105 h))
def HF:LI:={hd:={bV:=[(1,.k .sl),(6,.k (.int .i64))],refs:=[(2,2),(4,4)],co:=[(2,[.lk .str,.lk .sl]),(4,[.lk .str,.lk .sl])],eV:=[(5,1)]},xs:={refs:=[(2,2),(4,4)],co:=[(2,[.lk .str,.lk .sl]),(4,[.lk .str,.lk .sl])],eV:=[(5,1)]},rt:={},ex:=0}
def Li:Code:=cF (cC Tryz.f106) 3
def KT:List (Nat×LI):=[(3,HF)]
def KV(a0_0:ByteArray)(a0_1:AV)(a1:AV):Tree :=
 .call 137 [.agg [VS a0_0,a0_1],.sl [],.vec 0] [.vec 1 []] fun r1 o1=>.ai (r1=.vec 1/\(o1.tail.hO)=.vec 1 (o1.tail.hO).es)<|.loop Li HF [a1,VI 0] [.cells [VS a0_0,a0_1],.cells [VS (mk []),.v (.slice none 0 0)],.vec 1 ((o1.tail.hO).es)] (fun y3 q3=>.ai ((q3.hO)=.cells (q3.hO).cs)<|.ai (ac [.lk .str,.lk .sl] ((q3.hO).cs) 0 q3.tail)<|.ai (((q3.tail.drop 0).hO)=.cells ((q3.tail.drop 0).hO).cs)<|.ai (ac [.lk .str,.lk .sl] (((q3.tail.drop 0).hO).cs) 0 ((q3.tail.drop 0).tail))<|.ai (((q3.drop 2).hO)=.vec 1 ((q3.drop 2).hO).es)<|.call 143 [.agg [VS (((q3.hO).cs.getD 0 .any).ah),((q3.hO).cs.getD 1 .any)],.sl [],.sl [],.ref 0 0] [.cells [.vec 1,VI 0],.vec 1 ((q3.tail.tail.hO).es)] fun r4 o4=>.ai ((o4.hO)=.cells (o4.hO).cs)<|.ai (aL [.vec 1,.lk (.int .i64)] ((o4.hO).cs) 0 1 o4.tail)<|NA r4<|.done 0 [.agg [VS ((r4.cs.getD 0 .any).ah),(r4.cs.getD 1 .any)]] []) (fun y3 q3=>.fail)
theorem P4(a0_0:ByteArray)(a0_1:AV)(a1:AV)(ha0_1:LK.has .sl a0_1)(ha1:LK.has .sl a1)(h:di 33 (KV a0_0 a0_1 a1) R):an Tryz.prog 106 [.agg [VS a0_0,a0_1],a1] [] R :=
 uQ (ag (cf (ag (aw _) (ag (bU ha0_1) aC))) (ag (bU ha1) aC)) (oQ KT Tryz.f106 h)
def F1(x1:AV)(x6:Int)(o2_0:ByteArray)(o2_1:AV)(o4_0:ByteArray)(o4_1:AV)(e5:List (List AV)):Tree :=
 NL x1<|NI (VI x6)<|.ai (Ob.cells [VS o2_0,o2_1]=.cells [VS o2_0,o2_1])<|.ai (ac [.lk .str,.lk .sl] [VS o2_0,o2_1] 0 [.cells [VS o4_0,o4_1],.vec 1 e5])<|.ai (Ob.cells [VS o4_0,o4_1]=.cells [VS o4_0,o4_1])<|.ai (ac [.lk .str,.lk .sl] [VS o4_0,o4_1] 0 [.vec 1 e5])<|.ai (Ob.vec 1 e5=.vec 1 e5)<|NL x1<|.test (decide (x6<(x1.aP.length:Int))) (NG x1 x6 2<|NE (x1.ix x6)<|.call 137 [.agg [VS (((x1.ix x6).getD 0 .any).ah),((x1.ix x6).getD 1 .any)],.sl [],.vec 0] [.vec 1 []] fun r1 o1=>.ai (r1=.vec 1/\(o1.tail.hO)=.vec 1 (o1.tail.hO).es)<|.ai (cy 1 ((o1.tail.hO).es)/\((e5.length)+((o1.tail.hO).es).length)*16<=140737488355328)<|.done 0 [x1,VI (IntKind.wrap .i64 (x6+1))] [.cells [VS o2_0,o2_1],.cells [VS o4_0,o4_1],.vec 1 (e5++((o1.tail.hO).es))]) (.done 1 [] [.cells [VS o2_0,o2_1],.cells [VS o4_0,o4_1],.vec 1 e5])
abbrev Hh:=cB Tryz.prog 33 Li HF
theorem LA(x1:AV)(x6:Int)(o2_0:ByteArray)(o2_1:AV)(o4_0:ByteArray)(o4_1:AV)(e5:List (List AV))(h:ka 33 (F1 x1 x6 o2_0 o2_1 o4_0 o4_1 e5) Hh U):Hh [x1,VI x6] [.cells [VS o2_0,o2_1],.cells [VS o4_0,o4_1],.vec 1 e5] U :=
 gQ KT h
def M9(a0:ByteArray):Tree :=
 .call 93 [VS a0] [] fun r1 o1=>NP r1<|NP r1<|.test r1.isNil (.done 0 [.v (.pointer none)] []) (NZ r1<|NZ r1<|.ai (LK.has (.int .u8) (r1.deref.hA)/\1<=r1.deref.length)<|.test (((r1.deref.hA).toInt) != (114:Int)) (.done 0 [.v (.pointer none)] []) (.done 0 [r1] []))
theorem Pw(a0:ByteArray)(h:di 16 (M9 a0) R):an Tryz.prog 107 [VS a0] [] R :=
 uQ (ag (aw _) aC) (oQ [] Tryz.f107 h)
def Kx(a0:ByteArray):Tree :=
 .call 128 [VS a0] [] fun r1 o1=>NP r1<|NP r1<|.test r1.isNil (.done 0 [.v (.pointer none)] []) (.call 144 [r1,.v (.slice none 0 0)] [] fun r2 o2=>NP r2<|NP r2<|.test r2.isNil (.done 0 [.v (.pointer none)] []) (.call 145 [r2] [] fun r3 o3=>NI r3<|.test (decide (r3.toInt>(400:Int))) (.done 0 [.v (.pointer none)] []) (.done 0 [r2] [])))
theorem Rm(a0:ByteArray)(h:di 19 (Kx a0) R):an Tryz.prog 108 [VS a0] [] R :=
 uQ (ag (aw _) aC) (oQ [] Tryz.f108 h)
def J7(a0:AV):Tree :=
 .call 146 [.ref 0 0] [.cells [VI 0,VB false]] fun r1 o1=>.ai ((o1.hO)=.cells (o1.hO).cs)<|.ai (aL [.lk (.int .i64),.lk .bool] ((o1.hO).cs) 0 1 o1.tail)<|NS r1<|NZ a0<|NZ a0<|dR (a0.deref.drop 3)<|.call 149 [((a0.deref.drop 3).hA),.ptr [.v (.int .u8 110),VS r1.ah,VI 0,.v (.pointer none),.v (.pointer none)],VI 0] [] fun r2 o2=>NP r2<|.call 148 [.ref 0 0,r2,VS r1.ah] [.cells [VI (((o1.hO).cs.getD 0 .any).toInt),VB (((o1.hO).cs.getD 1 .any).toBool)]] fun r3 o3=>.ai ((o3.hO)=.cells (o3.hO).cs)<|.ai (aL [.lk (.int .i64),.lk .bool] ((o3.hO).cs) 0 1 o3.tail)<|NP r3<|.call 147 [.ref 0 0,r3] [.cells [VI (((o3.hO).cs.getD 0 .any).toInt),VB (((o3.hO).cs.getD 1 .any).toBool)]] fun r4 o4=>.ai ((o4.hO)=.cells (o4.hO).cs)<|.ai (aL [.lk (.int .i64),.lk .bool] ((o4.hO).cs) 0 1 o4.tail)<|NP r4<|.test (((o4.hO).cs.getD 1 .any).toBool) (.done 0 [.cD [.v (.pointer none),VB false]] []) (.call 150 [r4,VS r1.ah,a0] [] fun r5 o5=>NP r5<|.call 147 [.ref 0 0,r5] [.cells [VI (((o4.hO).cs.getD 0 .any).toInt),VB (((o4.hO).cs.getD 1 .any).toBool)]] fun r6 o6=>.ai ((o6.hO)=.cells (o6.hO).cs)<|.ai (aL [.lk (.int .i64),.lk .bool] ((o6.hO).cs) 0 1 o6.tail)<|NP r6<|.done 0 [.cD [r6,VB (!(((o6.hO).cs.getD 1 .any).toBool))]] [])
theorem Rh(a0:AV)(ha0:LK.has .ptr a0)(h:di 40 (J7 a0) R):an Tryz.prog 109 [a0] [] R :=
 uQ (ag (bB ha0) aC) (oQ [] Tryz.f109 h)
def N1(a0:AV):Tree :=
 .call 145 [a0] [] fun r1 o1=>NI r1<|.test (decide (r1.toInt>(400:Int))) (.done 0 [.cD [VS (mk []),VB false]] []) (.call 151 [a0] [] fun r2 o2=>NS r2<|.call 108 [VS r2.ah] [] fun r3 o3=>NP r3<|NP r3<|.test r3.isNil (.done 0 [.cD [VS (mk []),VB false]] []) (.done 0 [.cD [VS r2.ah,VB true]] []))
theorem Qr(a0:AV)(ha0:LK.has .ptr a0)(h:di 14 (N1 a0) R):an Tryz.prog 110 [a0] [] R :=
 uQ (ag (bB ha0) aC) (oQ [] Tryz.f110 h)
def Ew(a0_0:ByteArray)(a0_1:AV)(a1_0:AV)(a1_1:AV):Tree :=
 NP a0_1<|.test (!a0_1.isNil) (NZ a1_0<|NZ a1_0<|.ai (LK.has (.int .u8) (a1_0.deref.hA)/\1<=a1_0.deref.length)<|.test (((a1_0.deref.hA).toInt)==(98:Int)) (.call 131 [.agg [a1_0,a1_1]] [] fun r1 o1=>NP r1<|.ai (AV.rL r1/\AV.rL a0_1)<|.done 0 [VB (AV.Bw r1 a0_1)] []) (.done 0 [VB false] [])) (NZ a1_0<|NZ a1_0<|.ai (LK.has (.int .u8) (a1_0.deref.hA)/\1<=a1_0.deref.length)<|.test (((a1_0.deref.hA).toInt)==(110:Int)) (NZ a1_0<|NZ a1_0<|lB (a1_0.deref.drop 1)<|.done 0 [VB (ae (((a1_0.deref.drop 1).hA).ah)==ae a0_0)] []) (.done 0 [VB false] []))
theorem SD(a0_0:ByteArray)(a0_1:AV)(a1_0:AV)(a1_1:AV)(ha0_1:LK.has .ptr a0_1)(ha1_0:LK.has .ptr a1_0)(ha1_1:LK.has .ptr a1_1)(h:di 37 (Ew a0_0 a0_1 a1_0 a1_1) R):an Tryz.prog 111 [.agg [VS a0_0,a0_1],.agg [a1_0,a1_1]] [] R :=
 uQ (ag (cf (ag (aw _) (ag (bB ha0_1) aC))) (ag (cf (ag (bB ha1_0) (ag (bB ha1_1) aC))) aC)) (oQ [] Tryz.f111 h)
def Fy:LI:={hd:={bV:=[(7,.k .sl),(8,.k (.int .i64)),(9,.k (.int .i64))],refs:=[(2,1)],co:=[(0,[.lk .ptr]),(1,[.vec 2])],At:=[(1,115,[0])]},xs:={co:=[(0,[.lk .ptr]),(1,[.vec 2])]},rt:={co:=[(0,[.lk .ptr]),(1,[.vec 2])]},ex:=0,fx:=[0,1]}
def KU:Code:=cF (cC Tryz.f112) 1
def MQ:List (Nat×LI):=[(1,Fy)]
def OM(a0:AV)(a1_0_0:AV)(e2_0:List (List AV)):Tree :=
 NL a0<|.loop KU Fy [a0,VI (a0.aP.length:Int),VI 0] [.cells [a1_0_0],.cells [.any],.vec 2 e2_0] (fun y2 q2=>.ai ((q2.hO)=.cells (q2.hO).cs)<|.ai (ac [.lk .ptr] ((q2.hO).cs) 0 q2.tail)<|.ai (((q2.tail.drop 0).hO)=.cells ((q2.tail.drop 0).hO).cs)<|.ai (ac [.vec 2] (((q2.tail.drop 0).hO).cs) 0 ((q2.tail.drop 0).tail))<|.done 0 [.any] [.cells [((q2.hO).cs.getD 0 .any)],.cells [.vec 2],.vec 2 ((q2.tail.tail.hO).es)]) (fun y2 q2=>.ai ((q2.hO)=.cells (q2.hO).cs)<|.ai (ac [.lk .ptr] ((q2.hO).cs) 0 q2.tail)<|.ai (((q2.tail.drop 0).hO)=.cells ((q2.tail.drop 0).hO).cs)<|.ai (ac [.vec 2] (((q2.tail.drop 0).hO).cs) 0 ((q2.tail.drop 0).tail))<|.done 0 [.any] [.cells [((q2.hO).cs.getD 0 .any)],.cells [.vec 2],.vec 2 ((q2.tail.tail.hO).es)])
theorem PD(a0:AV)(a1_0_0:AV)(e2_0:List (List AV))(ha0:LK.has .sl a0)(ha1_0_0:LK.has .ptr a1_0_0)(h:di 24 (OM a0 a1_0_0 e2_0) R):an Tryz.prog 112 [a0,.fn 115 [.ref 0 0],.ref 1 0] [.cells [a1_0_0],.cells [.vec 2],.vec 2 e2_0] R :=
 an.mX (bx (ca (ag (bB ha1_0_0) aC)) (bx (ca (ag (aw _) aC)) (bx (fK _) ct))) (an.up (ag (bU ha0) (ag (aw _) (ag (aw _) aC))) (oF MQ {mu:=[(1,.fn [some (.obj [.lk .ptr])]),(2,.one (.obj [.vec 2]))],own:=[]} Tryz.f112 h))
def Fk(x7:AV)(x8:Int)(x9:Int)(o0_0:AV)(o1_0:List (List AV)):Tree :=
 NL x7<|NI (VI x8)<|NI (VI x9)<|.ai (Ob.cells [o0_0]=.cells [o0_0])<|.ai (ac [.lk .ptr] [o0_0] 0 [.cells [.any],.vec 2 o1_0])<|.ai (Ob.cells [.any]=.cells [.any])<|.ai (ac [.vec 2] [.any] 0 [.vec 2 o1_0])<|.test (decide (x9<x8)) (NG x7 x9 2<|.ai (bF [.ptr,.ptr] (x7.ix x9) 0/\2<=(x7.ix x9).length)<|.call 115 [((x7.ix x9).getD 0 .any),.ref 0 0] [.cells [o0_0]] fun r1 o1=>.ai ((o1.hO)=.cells (o1.hO).cs)<|.ai (aL [.lk .ptr] ((o1.hO).cs) 0 1 o1.tail)<|NP r1<|.ai (cy 2 [[r1,((x7.ix x9).getD 1 .any)]]/\((o1_0.length)+([[r1,((x7.ix x9).getD 1 .any)]]:List (List AV)).length)*16<=140737488355328)<|.done 0 [x7,VI x8,VI (IntKind.wrap .i64 (x9+1))] [.cells [((o1.hO).cs.getD 0 .any)],.cells [.any],.vec 2 (o1_0++([[r1,((x7.ix x9).getD 1 .any)]]:List (List AV)))]) (.done 1 [] [.cells [o0_0],.cells [.any],.vec 2 o1_0])
abbrev G9:=cB Tryz.prog 24 KU Fy
theorem Lj(x7:AV)(x8:Int)(x9:Int)(o0_0:AV)(o1_0:List (List AV))(h:ka 24 (Fk x7 x8 x9 o0_0 o1_0) G9 U):G9 [x7,VI x8,VI x9] [.cells [o0_0],.cells [.any],.vec 2 o1_0] U :=
 gQ MQ h
def Gc:LI:={hd:={bV:=[(7,.k .sl),(8,.k (.int .i64)),(9,.k (.int .i64))],refs:=[(2,1)],co:=[(0,[.lk .ptr]),(1,[.vec 2])],At:=[(1,116,[0])]},xs:={co:=[(0,[.lk .ptr]),(1,[.vec 2])]},rt:={co:=[(0,[.lk .ptr]),(1,[.vec 2])]},ex:=0,fx:=[0,1]}
def K8:Code:=cF (cC Tryz.f112) 1
def Ju:List (Nat×LI):=[(1,Gc)]
def KO(a0:AV)(a1_0_0:AV)(e2_0:List (List AV)):Tree :=
 NL a0<|.loop K8 Gc [a0,VI (a0.aP.length:Int),VI 0] [.cells [a1_0_0],.cells [.any],.vec 2 e2_0] (fun y2 q2=>.ai ((q2.hO)=.cells (q2.hO).cs)<|.ai (ac [.lk .ptr] ((q2.hO).cs) 0 q2.tail)<|.ai (((q2.tail.drop 0).hO)=.cells ((q2.tail.drop 0).hO).cs)<|.ai (ac [.vec 2] (((q2.tail.drop 0).hO).cs) 0 ((q2.tail.drop 0).tail))<|.done 0 [.any] [.cells [((q2.hO).cs.getD 0 .any)],.cells [.vec 2],.vec 2 ((q2.tail.tail.hO).es)]) (fun y2 q2=>.ai ((q2.hO)=.cells (q2.hO).cs)<|.ai (ac [.lk .ptr] ((q2.hO).cs) 0 q2.tail)<|.ai (((q2.tail.drop 0).hO)=.cells ((q2.tail.drop 0).hO).cs)<|.ai (ac [.vec 2] (((q2.tail.drop 0).hO).cs) 0 ((q2.tail.drop 0).tail))<|.done 0 [.any] [.cells [((q2.hO).cs.getD 0 .any)],.cells [.vec 2],.vec 2 ((q2.tail.tail.hO).es)])
theorem SL(a0:AV)(a1_0_0:AV)(e2_0:List (List AV))(ha0:LK.has .sl a0)(ha1_0_0:LK.has .ptr a1_0_0)(h:di 24 (KO a0 a1_0_0 e2_0) R):an Tryz.prog 112 [a0,.fn 116 [.ref 0 0],.ref 1 0] [.cells [a1_0_0],.cells [.vec 2],.vec 2 e2_0] R :=
 an.mX (bx (ca (ag (bB ha1_0_0) aC)) (bx (ca (ag (aw _) aC)) (bx (fK _) ct))) (an.up (ag (bU ha0) (ag (aw _) (ag (aw _) aC))) (oF Ju {mu:=[(1,.fn [some (.obj [.lk .ptr])]),(2,.one (.obj [.vec 2]))],own:=[]} Tryz.f112 h))
def GU(x7:AV)(x8:Int)(x9:Int)(o0_0:AV)(o1_0:List (List AV)):Tree :=
 NL x7<|NI (VI x8)<|NI (VI x9)<|.ai (Ob.cells [o0_0]=.cells [o0_0])<|.ai (ac [.lk .ptr] [o0_0] 0 [.cells [.any],.vec 2 o1_0])<|.ai (Ob.cells [.any]=.cells [.any])<|.ai (ac [.vec 2] [.any] 0 [.vec 2 o1_0])<|.test (decide (x9<x8)) (NG x7 x9 2<|.ai (bF [.ptr,.ptr] (x7.ix x9) 0/\2<=(x7.ix x9).length)<|.call 116 [((x7.ix x9).getD 0 .any),.ref 0 0] [.cells [o0_0]] fun r1 o1=>.ai ((o1.hO)=.cells (o1.hO).cs)<|.ai (aL [.lk .ptr] ((o1.hO).cs) 0 1 o1.tail)<|NP r1<|.ai (cy 2 [[r1,((x7.ix x9).getD 1 .any)]]/\((o1_0.length)+([[r1,((x7.ix x9).getD 1 .any)]]:List (List AV)).length)*16<=140737488355328)<|.done 0 [x7,VI x8,VI (IntKind.wrap .i64 (x9+1))] [.cells [((o1.hO).cs.getD 0 .any)],.cells [.any],.vec 2 (o1_0++([[r1,((x7.ix x9).getD 1 .any)]]:List (List AV)))]) (.done 1 [] [.cells [o0_0],.cells [.any],.vec 2 o1_0])
abbrev E7:=cB Tryz.prog 24 K8 Gc
theorem KB(x7:AV)(x8:Int)(x9:Int)(o0_0:AV)(o1_0:List (List AV))(h:ka 24 (GU x7 x8 x9 o0_0 o1_0) E7 U):E7 [x7,VI x8,VI x9] [.cells [o0_0],.cells [.any],.vec 2 o1_0] U :=
 gQ Ju h
def GW:LI:={hd:={bV:=[(7,.k .sl),(8,.k (.int .i64)),(9,.k (.int .i64))],refs:=[(2,1)],co:=[(0,[.lk .ptr]),(1,[.vec 2])],At:=[(1,118,[0])]},xs:={co:=[(0,[.lk .ptr]),(1,[.vec 2])]},rt:={co:=[(0,[.lk .ptr]),(1,[.vec 2])]},ex:=0,fx:=[0,1]}
def Mv:Code:=cF (cC Tryz.f112) 1
def I9:List (Nat×LI):=[(1,GW)]
def Kt(a0:AV)(a1_0_0:AV)(e2_0:List (List AV)):Tree :=
 NL a0<|.loop Mv GW [a0,VI (a0.aP.length:Int),VI 0] [.cells [a1_0_0],.cells [.any],.vec 2 e2_0] (fun y2 q2=>.ai ((q2.hO)=.cells (q2.hO).cs)<|.ai (ac [.lk .ptr] ((q2.hO).cs) 0 q2.tail)<|.ai (((q2.tail.drop 0).hO)=.cells ((q2.tail.drop 0).hO).cs)<|.ai (ac [.vec 2] (((q2.tail.drop 0).hO).cs) 0 ((q2.tail.drop 0).tail))<|.done 0 [.any] [.cells [((q2.hO).cs.getD 0 .any)],.cells [.vec 2],.vec 2 ((q2.tail.tail.hO).es)]) (fun y2 q2=>.ai ((q2.hO)=.cells (q2.hO).cs)<|.ai (ac [.lk .ptr] ((q2.hO).cs) 0 q2.tail)<|.ai (((q2.tail.drop 0).hO)=.cells ((q2.tail.drop 0).hO).cs)<|.ai (ac [.vec 2] (((q2.tail.drop 0).hO).cs) 0 ((q2.tail.drop 0).tail))<|.done 0 [.any] [.cells [((q2.hO).cs.getD 0 .any)],.cells [.vec 2],.vec 2 ((q2.tail.tail.hO).es)])
theorem Qk(a0:AV)(a1_0_0:AV)(e2_0:List (List AV))(ha0:LK.has .sl a0)(ha1_0_0:LK.has .ptr a1_0_0)(h:di 24 (Kt a0 a1_0_0 e2_0) R):an Tryz.prog 112 [a0,.fn 118 [.ref 0 0],.ref 1 0] [.cells [a1_0_0],.cells [.vec 2],.vec 2 e2_0] R :=
 an.mX (bx (ca (ag (bB ha1_0_0) aC)) (bx (ca (ag (aw _) aC)) (bx (fK _) ct))) (an.up (ag (bU ha0) (ag (aw _) (ag (aw _) aC))) (oF I9 {mu:=[(1,.fn [some (.obj [.lk .ptr])]),(2,.one (.obj [.vec 2]))],own:=[]} Tryz.f112 h))
def Fm(x7:AV)(x8:Int)(x9:Int)(o0_0:AV)(o1_0:List (List AV)):Tree :=
 NL x7<|NI (VI x8)<|NI (VI x9)<|.ai (Ob.cells [o0_0]=.cells [o0_0])<|.ai (ac [.lk .ptr] [o0_0] 0 [.cells [.any],.vec 2 o1_0])<|.ai (Ob.cells [.any]=.cells [.any])<|.ai (ac [.vec 2] [.any] 0 [.vec 2 o1_0])<|.test (decide (x9<x8)) (NG x7 x9 2<|.ai (bF [.ptr,.ptr] (x7.ix x9) 0/\2<=(x7.ix x9).length)<|.call 118 [((x7.ix x9).getD 0 .any),.ref 0 0] [.cells [o0_0]] fun r1 o1=>.ai ((o1.hO)=.cells (o1.hO).cs)<|.ai (aL [.lk .ptr] ((o1.hO).cs) 0 1 o1.tail)<|NP r1<|.ai (cy 2 [[r1,((x7.ix x9).getD 1 .any)]]/\((o1_0.length)+([[r1,((x7.ix x9).getD 1 .any)]]:List (List AV)).length)*16<=140737488355328)<|.done 0 [x7,VI x8,VI (IntKind.wrap .i64 (x9+1))] [.cells [((o1.hO).cs.getD 0 .any)],.cells [.any],.vec 2 (o1_0++([[r1,((x7.ix x9).getD 1 .any)]]:List (List AV)))]) (.done 1 [] [.cells [o0_0],.cells [.any],.vec 2 o1_0])
abbrev GN:=cB Tryz.prog 24 Mv GW
theorem Jw(x7:AV)(x8:Int)(x9:Int)(o0_0:AV)(o1_0:List (List AV))(h:ka 24 (Fm x7 x8 x9 o0_0 o1_0) GN U):GN [x7,VI x8,VI x9] [.cells [o0_0],.cells [.any],.vec 2 o1_0] U :=
 gQ I9 h
def GD:LI:={hd:={bV:=[(1,.c (.func (.func 119) #[] #[])),(7,.k .sl),(8,.k (.int .i64)),(9,.k (.int .i64))],refs:=[(2,0)],co:=[(0,[.vec 2])]},xs:={co:=[(0,[.vec 2])]},rt:={co:=[(0,[.vec 2])]},ex:=0,fx:=[0]}
def KY:Code:=cF (cC Tryz.f112) 1
def LN:List (Nat×LI):=[(1,GD)]
def I3(a0:AV)(e2_0:List (List AV)):Tree :=
 NL a0<|.loop KY GD [.v (.func (.func 119) #[] #[]),a0,VI (a0.aP.length:Int),VI 0] [.cells [.any],.vec 2 e2_0] (fun y2 q2=>.ai ((q2.hO)=.cells (q2.hO).cs)<|.ai (ac [.vec 2] ((q2.hO).cs) 0 q2.tail)<|.done 0 [.any] [.cells [.vec 1],.vec 2 ((q2.tail.hO).es)]) (fun y2 q2=>.ai ((q2.hO)=.cells (q2.hO).cs)<|.ai (ac [.vec 2] ((q2.hO).cs) 0 q2.tail)<|.done 0 [.any] [.cells [.vec 1],.vec 2 ((q2.tail.hO).es)])
theorem SP(a0:AV)(e2_0:List (List AV))(ha0:LK.has .sl a0)(h:di 24 (I3 a0 e2_0) R):an Tryz.prog 112 [a0,.v (.func (.func 119) #[] #[]),.ref 0 0] [.cells [.vec 1],.vec 2 e2_0] R :=
 an.mX (bx (ca (ag (aw _) aC)) (bx (fK _) ct)) (an.up (ag (bU ha0) (ag (aw _) (ag (aw _) aC))) (oF LN {mu:=[(2,.one (.obj [.vec 2]))],own:=[]} Tryz.f112 h))
def Gs(x7:AV)(x8:Int)(x9:Int)(o0_0:List (List AV)):Tree :=
 .ai (AV.v (.func (.func 119) #[] #[])=.v (.func (.func 119) #[] #[]))<|NL x7<|NI (VI x8)<|NI (VI x9)<|.ai (Ob.cells [.any]=.cells [.any])<|.ai (ac [.vec 2] [.any] 0 [.vec 2 o0_0])<|.test (decide (x9<x8)) (NG x7 x9 2<|.ai (bF [.ptr,.ptr] (x7.ix x9) 0/\2<=(x7.ix x9).length)<|.call 119 [((x7.ix x9).getD 0 .any)] [] fun r1 o1=>NP r1<|.ai (cy 2 [[r1,((x7.ix x9).getD 1 .any)]]/\((o0_0.length)+([[r1,((x7.ix x9).getD 1 .any)]]:List (List AV)).length)*16<=140737488355328)<|.done 0 [.v (.func (.func 119) #[] #[]),x7,VI x8,VI (IntKind.wrap .i64 (x9+1))] [.cells [.any],.vec 2 (o0_0++([[r1,((x7.ix x9).getD 1 .any)]]:List (List AV)))]) (.done 1 [] [.cells [.any],.vec 2 o0_0])
abbrev GY:=cB Tryz.prog 24 KY GD
theorem IV(x7:AV)(x8:Int)(x9:Int)(o0_0:List (List AV))(h:ka 24 (Gs x7 x8 x9 o0_0) GY U):GY [.v (.func (.func 119) #[] #[]),x7,VI x8,VI x9] [.cells [.any],.vec 2 o0_0] U :=
 gQ LN h
def Iq:LI:={hd:={bV:=[(7,.k .sl),(8,.k (.int .i64)),(9,.k (.int .i64))],refs:=[(2,1)],co:=[(0,[.lk .ptr,.lk .ptr]),(1,[.vec 2])],At:=[(1,120,[0])]},xs:={co:=[(0,[.lk .ptr,.lk .ptr]),(1,[.vec 2])]},rt:={co:=[(0,[.lk .ptr,.lk .ptr]),(1,[.vec 2])]},ex:=0,fx:=[0,1]}
def IQ:Code:=cF (cC Tryz.f112) 1
def Lf:List (Nat×LI):=[(1,Iq)]
def MS(a0:AV)(a1_0_0:AV)(a1_0_1:AV)(e2_0:List (List AV)):Tree :=
 NL a0<|.loop IQ Iq [a0,VI (a0.aP.length:Int),VI 0] [.cells [a1_0_0,a1_0_1],.cells [.any],.vec 2 e2_0] (fun y2 q2=>.ai ((q2.hO)=.cells (q2.hO).cs)<|.ai (ac [.lk .ptr,.lk .ptr] ((q2.hO).cs) 0 q2.tail)<|.ai (((q2.tail.drop 0).hO)=.cells ((q2.tail.drop 0).hO).cs)<|.ai (ac [.vec 2] (((q2.tail.drop 0).hO).cs) 0 ((q2.tail.drop 0).tail))<|.done 0 [.any] [.cells [((q2.hO).cs.getD 0 .any),((q2.hO).cs.getD 1 .any)],.cells [.vec 2],.vec 2 ((q2.tail.tail.hO).es)]) (fun y2 q2=>.ai ((q2.hO)=.cells (q2.hO).cs)<|.ai (ac [.lk .ptr,.lk .ptr] ((q2.hO).cs) 0 q2.tail)<|.ai (((q2.tail.drop 0).hO)=.cells ((q2.tail.drop 0).hO).cs)<|.ai (ac [.vec 2] (((q2.tail.drop 0).hO).cs) 0 ((q2.tail.drop 0).tail))<|.done 0 [.any] [.cells [((q2.hO).cs.getD 0 .any),((q2.hO).cs.getD 1 .any)],.cells [.vec 2],.vec 2 ((q2.tail.tail.hO).es)])
theorem Qa(a0:AV)(a1_0_0:AV)(a1_0_1:AV)(e2_0:List (List AV))(ha0:LK.has .sl a0)(ha1_0_0:LK.has .ptr a1_0_0)(ha1_0_1:LK.has .ptr a1_0_1)(h:di 24 (MS a0 a1_0_0 a1_0_1 e2_0) R):an Tryz.prog 112 [a0,.fn 120 [.ref 0 0],.ref 1 0] [.cells [a1_0_0,a1_0_1],.cells [.vec 2],.vec 2 e2_0] R :=
 an.mX (bx (ca (ag (bB ha1_0_0) (ag (bB ha1_0_1) aC))) (bx (ca (ag (aw _) aC)) (bx (fK _) ct))) (an.up (ag (bU ha0) (ag (aw _) (ag (aw _) aC))) (oF Lf {mu:=[(1,.fn [some (.obj [.lk .ptr,.lk .ptr])]),(2,.one (.obj [.vec 2]))],own:=[]} Tryz.f112 h))
def Hc(x7:AV)(x8:Int)(x9:Int)(o0_0:AV)(o0_1:AV)(o1_0:List (List AV)):Tree :=
 NL x7<|NI (VI x8)<|NI (VI x9)<|.ai (Ob.cells [o0_0,o0_1]=.cells [o0_0,o0_1])<|.ai (ac [.lk .ptr,.lk .ptr] [o0_0,o0_1] 0 [.cells [.any],.vec 2 o1_0])<|.ai (Ob.cells [.any]=.cells [.any])<|.ai (ac [.vec 2] [.any] 0 [.vec 2 o1_0])<|.test (decide (x9<x8)) (NG x7 x9 2<|.ai (bF [.ptr,.ptr] (x7.ix x9) 0/\2<=(x7.ix x9).length)<|.call 120 [((x7.ix x9).getD 0 .any),.ref 0 0] [.cells [o0_0,o0_1]] fun r1 o1=>.ai ((o1.hO)=.cells (o1.hO).cs)<|.ai (aL [.lk .ptr,.lk .ptr] ((o1.hO).cs) 0 1 o1.tail)<|NP r1<|.ai (cy 2 [[r1,((x7.ix x9).getD 1 .any)]]/\((o1_0.length)+([[r1,((x7.ix x9).getD 1 .any)]]:List (List AV)).length)*16<=140737488355328)<|.done 0 [x7,VI x8,VI (IntKind.wrap .i64 (x9+1))] [.cells [((o1.hO).cs.getD 0 .any),((o1.hO).cs.getD 1 .any)],.cells [.any],.vec 2 (o1_0++([[r1,((x7.ix x9).getD 1 .any)]]:List (List AV)))]) (.done 1 [] [.cells [o0_0,o0_1],.cells [.any],.vec 2 o1_0])
abbrev IC:=cB Tryz.prog 24 IQ Iq
theorem Ou(x7:AV)(x8:Int)(x9:Int)(o0_0:AV)(o0_1:AV)(o1_0:List (List AV))(h:ka 24 (Hc x7 x8 x9 o0_0 o0_1 o1_0) IC U):IC [x7,VI x8,VI x9] [.cells [o0_0,o0_1],.cells [.any],.vec 2 o1_0] U :=
 gQ Lf h
def MD(a0_0:AV)(a0_1:AV):Tree :=
 NZ a0_0<|NZ a0_0<|dR (a0_0.deref.drop 3)<|.done 0 [.agg [((a0_0.deref.drop 3).hA),a0_1]] []
theorem Q1(a0_0:AV)(a0_1:AV)(ha0_0:LK.has .ptr a0_0)(ha0_1:LK.has .ptr a0_1)(h:di 11 (MD a0_0 a0_1) R):an Tryz.prog 113 [.agg [a0_0,a0_1]] [] R :=
 uQ (ag (cf (ag (bB ha0_0) (ag (bB ha0_1) aC))) aC) (oQ [] Tryz.f113 h)
def Nn(a0_0:AV)(a0_1:AV):Tree :=
 NZ a0_0<|NZ a0_0<|dR (a0_0.deref.drop 4)<|.done 0 [.agg [((a0_0.deref.drop 4).hA),a0_1]] []
theorem Pq(a0_0:AV)(a0_1:AV)(ha0_0:LK.has .ptr a0_0)(ha0_1:LK.has .ptr a0_1)(h:di 11 (Nn a0_0 a0_1) R):an Tryz.prog 114 [.agg [a0_0,a0_1]] [] R :=
 uQ (ag (cf (ag (bB ha0_0) (ag (bB ha0_1) aC))) aC) (oQ [] Tryz.f114 h)
def Hm(a0:AV)(a1_0:AV):Tree :=
 NZ a1_0<|NZ a1_0<|.ai (LK.has (.int .u8) (a1_0.deref.hA)/\1<=a1_0.deref.length)<|.call 100 [.v (.int .u8 ((a1_0.deref.hA).toInt)),a0] [] fun r1 o1=>NP r1<|.done 0 [r1] [.cells [a1_0]]
theorem N7(a0:AV)(a1_0:AV)(ha0:LK.has .ptr a0)(ha1_0:LK.has .ptr a1_0)(h:di 10 (Hm a0 a1_0) R):an Tryz.prog 115 [a0,.ref 0 0] [.cells [a1_0]] R :=
 an.mX (bx (ca (ag (bB ha1_0) aC)) ct) (an.up (ag (bB ha0) (ag (aw _) aC)) (oF [] {mu:=[(1,.one (.obj [.lk .ptr]))],own:=[]} Tryz.f115 h))
def KZ(a0:AV)(a1_0:AV):Tree :=
 NZ a1_0<|NZ a1_0<|dR (a1_0.deref.drop 3)<|.call 117 [a0,((a1_0.deref.drop 3).hA)] [] fun r1 o1=>NP r1<|.call 100 [.v (.int .u8 108),r1] [] fun r2 o2=>NP r2<|.done 0 [r2] [.cells [a1_0]]
theorem RC(a0:AV)(a1_0:AV)(ha0:LK.has .ptr a0)(ha1_0:LK.has .ptr a1_0)(h:di 11 (KZ a0 a1_0) R):an Tryz.prog 116 [a0,.ref 0 0] [.cells [a1_0]] R :=
 an.mX (bx (ca (ag (bB ha1_0) aC)) ct) (an.up (ag (bB ha0) (ag (aw _) aC)) (oF [] {mu:=[(1,.one (.obj [.lk .ptr]))],own:=[]} Tryz.f116 h))
def Ln(a0:AV)(a1:AV):Tree :=
 .done 0 [.ptr [.v (.int .u8 112),VS (mk []),a0,a1]] []
theorem Qb(a0:AV)(a1:AV)(ha0:LK.has .ptr a0)(ha1:LK.has .ptr a1)(h:di 9 (Ln a0 a1) R):an Tryz.prog 117 [a0,a1] [] R :=
 uQ (ag (bB ha0) (ag (bB ha1) aC)) (oQ [] Tryz.f117 h)
def NR(a0:AV)(a1_0:AV):Tree :=
 NZ a1_0<|NZ a1_0<|dR (a1_0.deref.drop 2)<|.call 117 [((a1_0.deref.drop 2).hA),a0] [] fun r1 o1=>NP r1<|.call 100 [.v (.int .u8 114),r1] [] fun r2 o2=>NP r2<|.done 0 [r2] [.cells [a1_0]]
theorem Rn(a0:AV)(a1_0:AV)(ha0:LK.has .ptr a0)(ha1_0:LK.has .ptr a1_0)(h:di 11 (NR a0 a1_0) R):an Tryz.prog 118 [a0,.ref 0 0] [.cells [a1_0]] R :=
 an.mX (bx (ca (ag (bB ha1_0) aC)) ct) (an.up (ag (bB ha0) (ag (aw _) aC)) (oF [] {mu:=[(1,.one (.obj [.lk .ptr]))],own:=[]} Tryz.f118 h))
def ML(a0:AV):Tree :=
 .call 100 [.v (.int .u8 108),a0] [] fun r1 o1=>NP r1<|.call 100 [.v (.int .u8 102),r1] [] fun r2 o2=>NP r2<|.done 0 [r2] []
theorem O7(a0:AV)(ha0:LK.has .ptr a0)(h:di 6 (ML a0) R):an Tryz.prog 119 [a0] [] R :=
 uQ (ag (bB ha0) aC) (oQ [] Tryz.f119 h)
def L9(a0:AV)(a1_0:AV)(a1_1:AV):Tree :=
 .call 117 [a1_0,a0] [] fun r1 o1=>NP r1<|.call 100 [.v (.int .u8 114),r1] [] fun r2 o2=>NP r2<|.call 100 [.v (.int .u8 102),r2] [] fun r3 o3=>NP r3<|.done 0 [r3] [.cells [a1_0,a1_1]]
theorem RZ(a0:AV)(a1_0:AV)(a1_1:AV)(ha0:LK.has .ptr a0)(ha1_0:LK.has .ptr a1_0)(ha1_1:LK.has .ptr a1_1)(h:di 10 (L9 a0 a1_0 a1_1) R):an Tryz.prog 120 [a0,.ref 0 0] [.cells [a1_0,a1_1]] R :=
 an.mX (bx (ca (ag (bB ha1_0) (ag (bB ha1_1) aC))) ct) (an.up (ag (bB ha0) (ag (aw _) aC)) (oF [] {mu:=[(1,.one (.obj [.lk .ptr,.lk .ptr]))],own:=[]} Tryz.f120 h))
def D1(a0_0:ByteArray)(a0_1:AV):Tree :=
 .test (!(ae a0_0==ae (mk []))) (.done 0 [VS (mk [])] []) (NL a0_1<|.test ((a0_1.aP.length:Int)==(0:Int)) (.done 0 [VS (mk [])] []) (NG a0_1 0 2<|lB (a0_1.ix (0:Int))<|.done 0 [VS (((a0_1.ix (0:Int)).hA).ah)] []))
theorem HI(a0_0:ByteArray)(a0_1:AV)(ha0_1:LK.has .sl a0_1)(h:di 17 (D1 a0_0 a0_1) R):an Tryz.prog 121 [.agg [VS a0_0,a0_1]] [] R :=
 uQ (ag (cf (ag (aw _) (ag (bU ha0_1) aC))) aC) (oQ [] Tryz.f121 h)
def KN(a0:ByteArray):Tree :=
 .test (decide ((af a0:Int)>(8000:Int))) (.done 0 [.cD [.agg [VS (mk []),.v (.slice none 0 0)],VB false]] []) (.call 152 [VS a0,VI 0,VI 0] [] fun r1 o1=>NT r1<|.ai ((r1.comp 0)=.agg (r1.comp 0).cs/\(r1.comp 0).cs.length=2/\bF [.str,.sl] ((r1.comp 0).cs) 0)<|NI (r1.comp 1)<|.done 0 [.cD [.agg [VS (((r1.comp 0).cs.getD 0 .any).ah),((r1.comp 0).cs.getD 1 .any)],VB (((r1.comp 1).toInt)==(af a0:Int))]] [])
theorem Qs(a0:ByteArray)(h:di 20 (KN a0) R):an Tryz.prog 122 [VS a0] [] R :=
 uQ (ag (aw _) aC) (oQ [] Tryz.f122 h)
def xw(a0_0:ByteArray)(a0_1:AV):Tree :=
 .test (!(ae a0_0==ae (mk []))) (.test (ae a0_0==ae (mk [117])) (.done 0 [VB true] []) (.call 153 [VS a0_0] [] fun r1 o1=>NI r1<|.done 0 [VB (decide (r1.toInt≥(0:Int)))] [])) (.call 121 [.agg [VS a0_0,a0_1]] [] fun r2 o2=>NS r2<|.test (ae r2.ah==ae (mk [108])) (NL a0_1<|.test ((a0_1.aP.length:Int)==(2:Int)) (NG a0_1 1 2<|NE (a0_1.ix (1:Int))<|.call 123 [.agg [VS (((a0_1.ix (1:Int)).getD 0 .any).ah),((a0_1.ix (1:Int)).getD 1 .any)]] [] fun r3 o3=>NB r3<|.done 0 [VB r3.toBool] []) (.done 0 [VB false] [])) (.test (ae r2.ah==ae (mk [114])) (NL a0_1<|.test ((a0_1.aP.length:Int)==(2:Int)) (NG a0_1 1 2<|NE (a0_1.ix (1:Int))<|.call 123 [.agg [VS (((a0_1.ix (1:Int)).getD 0 .any).ah),((a0_1.ix (1:Int)).getD 1 .any)]] [] fun r4 o4=>NB r4<|.done 0 [VB r4.toBool] []) (.done 0 [VB false] [])) (.test (ae r2.ah==ae (mk [102])) (NL a0_1<|.test ((a0_1.aP.length:Int)==(2:Int)) (NG a0_1 1 2<|NE (a0_1.ix (1:Int))<|.call 123 [.agg [VS (((a0_1.ix (1:Int)).getD 0 .any).ah),((a0_1.ix (1:Int)).getD 1 .any)]] [] fun r5 o5=>NB r5<|.done 0 [VB r5.toBool] []) (.done 0 [VB false] [])) (.test (ae r2.ah==ae (mk [112])) (NL a0_1<|.test ((a0_1.aP.length:Int)==(3:Int)) (NG a0_1 1 2<|NE (a0_1.ix (1:Int))<|.call 123 [.agg [VS (((a0_1.ix (1:Int)).getD 0 .any).ah),((a0_1.ix (1:Int)).getD 1 .any)]] [] fun r6 o6=>NB r6<|.test r6.toBool (NG a0_1 2 2<|NE (a0_1.ix (2:Int))<|.call 123 [.agg [VS (((a0_1.ix (2:Int)).getD 0 .any).ah),((a0_1.ix (2:Int)).getD 1 .any)]] [] fun r7 o7=>NB r7<|.done 0 [VB r7.toBool] []) (.done 0 [VB false] [])) (.done 0 [VB false] [])) (.done 0 [VB false] [])))))
theorem zj(a0_0:ByteArray)(a0_1:AV)(ha0_1:LK.has .sl a0_1)(h:di 52 (xw a0_0 a0_1) R):an Tryz.prog 123 [.agg [VS a0_0,a0_1]] [] R :=
 uQ (ag (cf (ag (aw _) (ag (bU ha0_1) aC))) aC) (oQ [] Tryz.f123 h)
def FP:LI:={hd:={bV:=[(3,.k (.int .i64)),(4,.k (.int .i64))],refs:=[(1,1)],co:=[(1,[.lk .str,.lk .sl])]},xs:={bV:=[(3,.k (.int .i64))]},rt:={},ex:=0}
def LH:Code:=cF (cC Tryz.f124) 3
def Kv:List (Nat×LI):=[(3,FP)]
def H2(a0_0:ByteArray)(a0_1:AV):Tree :=
 .loop LH FP [VI 1,VI 1] [.cells [VS a0_0,a0_1]] (fun y2 q2=>NI (y2.hA)<|.done 0 [VI ((y2.hA).toInt)] []) (fun y2 q2=>.done 0 [.any] [])
theorem JI(a0_0:ByteArray)(a0_1:AV)(ha0_1:LK.has .sl a0_1)(h:di 21 (H2 a0_0 a0_1) R):an Tryz.prog 124 [.agg [VS a0_0,a0_1]] [] R :=
 uQ (ag (cf (ag (aw _) (ag (bU ha0_1) aC))) aC) (oQ Kv Tryz.f124 h)
def Ca(x3:Int)(x4:Int)(o1_0:ByteArray)(o1_1:AV):Tree :=
 NI (VI x3)<|NI (VI x4)<|.ai (Ob.cells [VS o1_0,o1_1]=.cells [VS o1_0,o1_1])<|.ai (ac [.lk .str,.lk .sl] [VS o1_0,o1_1] 0 [])<|NL o1_1<|.test (decide (x4<(o1_1.aP.length:Int))) (NG o1_1 x4 2<|NE (o1_1.ix x4)<|.call 124 [.agg [VS (((o1_1.ix x4).getD 0 .any).ah),((o1_1.ix x4).getD 1 .any)]] [] fun r1 o1=>NI r1<|.done 0 [VI (IntKind.wrap .i64 (x3+r1.toInt)),VI (IntKind.wrap .i64 (x4+1))] [.cells [VS o1_0,o1_1]]) (.done 1 [VI x3] [])
abbrev Br:=cB Tryz.prog 21 LH FP
theorem CV(x3:Int)(x4:Int)(o1_0:ByteArray)(o1_1:AV)(h:ka 21 (Ca x3 x4 o1_0 o1_1) Br U):Br [VI x3,VI x4] [.cells [VS o1_0,o1_1]] U :=
 gQ Kv h
def LQ(a0_0:ByteArray)(a0_1:AV)(a1:AV)(a2_0:ByteArray)(a2_1:AV)(a3:Int):Tree :=
 .call 154 [.agg [VS a0_0,a0_1],a1] [] fun r1 o1=>NT r1<|.ai ((r1.comp 0)=.agg (r1.comp 0).cs/\(r1.comp 0).cs.length=2/\bF [.str,.sl] ((r1.comp 0).cs) 0)<|NL (r1.comp 1)<|.test (!(ae (((r1.comp 0).cs.getD 0 .any).ah)==ae (mk []))) (.test (ae (((r1.comp 0).cs.getD 0 .any).ah)==ae (mk [49])) (.done 0 [VB (ae a2_0==ae (mk [117]))] []) (.call 155 [VS (((r1.comp 0).cs.getD 0 .any).ah)] [] fun r2 o2=>NB r2<|.test r2.toBool (.call 153 [VS a2_0] [] fun r3 o3=>NI r3<|.call 56 [VI r3.toInt,VI 0,VI (IntKind.wrap .i64 (a3-1))] [] fun r4 o4=>NB r4<|.done 0 [VB r4.toBool] []) (.done 0 [VB false] []))) (.call 121 [.agg [VS (((r1.comp 0).cs.getD 0 .any).ah),((r1.comp 0).cs.getD 1 .any)]] [] fun r5 o5=>NS r5<|.call 121 [.agg [VS a2_0,a2_1]] [] fun r6 o6=>NS r6<|.ai (af r5.ah+af r6.ah<=9223372036854775807)<|.test (ae ((r5.ah:ByteArray)++r6.ah)==ae (mk [43,108])) (NG ((r1.comp 0).cs.getD 1 .any) 1 2<|NE (((r1.comp 0).cs.getD 1 .any).ix (1:Int))<|NG a2_1 1 2<|NE (a2_1.ix (1:Int))<|.call 125 [.agg [VS (((((r1.comp 0).cs.getD 1 .any).ix (1:Int)).getD 0 .any).ah),((((r1.comp 0).cs.getD 1 .any).ix (1:Int)).getD 1 .any)],(r1.comp 1),.agg [VS (((a2_1.ix (1:Int)).getD 0 .any).ah),((a2_1.ix (1:Int)).getD 1 .any)],VI a3] [] fun r7 o7=>NB r7<|.done 0 [VB r7.toBool] []) (.test (ae ((r5.ah:ByteArray)++r6.ah)==ae (mk [43,114])) (NG ((r1.comp 0).cs.getD 1 .any) 2 2<|NE (((r1.comp 0).cs.getD 1 .any).ix (2:Int))<|NG a2_1 1 2<|NE (a2_1.ix (1:Int))<|.call 125 [.agg [VS (((((r1.comp 0).cs.getD 1 .any).ix (2:Int)).getD 0 .any).ah),((((r1.comp 0).cs.getD 1 .any).ix (2:Int)).getD 1 .any)],(r1.comp 1),.agg [VS (((a2_1.ix (1:Int)).getD 0 .any).ah),((a2_1.ix (1:Int)).getD 1 .any)],VI a3] [] fun r8 o8=>NB r8<|.done 0 [VB r8.toBool] []) (.test (ae ((r5.ah:ByteArray)++r6.ah)==ae (mk [42,112])) (NG ((r1.comp 0).cs.getD 1 .any) 1 2<|NE (((r1.comp 0).cs.getD 1 .any).ix (1:Int))<|NG a2_1 1 2<|NE (a2_1.ix (1:Int))<|.call 125 [.agg [VS (((((r1.comp 0).cs.getD 1 .any).ix (1:Int)).getD 0 .any).ah),((((r1.comp 0).cs.getD 1 .any).ix (1:Int)).getD 1 .any)],(r1.comp 1),.agg [VS (((a2_1.ix (1:Int)).getD 0 .any).ah),((a2_1.ix (1:Int)).getD 1 .any)],VI a3] [] fun r9 o9=>NB r9<|.test r9.toBool (NG ((r1.comp 0).cs.getD 1 .any) 2 2<|NE (((r1.comp 0).cs.getD 1 .any).ix (2:Int))<|NG a2_1 2 2<|NE (a2_1.ix (2:Int))<|.call 125 [.agg [VS (((((r1.comp 0).cs.getD 1 .any).ix (2:Int)).getD 0 .any).ah),((((r1.comp 0).cs.getD 1 .any).ix (2:Int)).getD 1 .any)],(r1.comp 1),.agg [VS (((a2_1.ix (2:Int)).getD 0 .any).ah),((a2_1.ix (2:Int)).getD 1 .any)],VI a3] [] fun r10 o10=>NB r10<|.done 0 [VB r10.toBool] []) (.done 0 [VB false] [])) (.test (ae ((r5.ah:ByteArray)++r6.ah)==ae (mk [114,101,99,102])) (.call 156 [.agg [VS (((r1.comp 0).cs.getD 0 .any).ah),((r1.comp 0).cs.getD 1 .any)],(r1.comp 1)] [] fun r11 o11=>NT r11<|.ai ((r11.comp 0)=.agg (r11.comp 0).cs/\(r11.comp 0).cs.length=2/\bF [.str,.sl] ((r11.comp 0).cs) 0)<|NL (r11.comp 1)<|NG a2_1 1 2<|NE (a2_1.ix (1:Int))<|.call 125 [.agg [VS (((r11.comp 0).cs.getD 0 .any).ah),((r11.comp 0).cs.getD 1 .any)],(r11.comp 1),.agg [VS (((a2_1.ix (1:Int)).getD 0 .any).ah),((a2_1.ix (1:Int)).getD 1 .any)],VI a3] [] fun r12 o12=>NB r12<|.done 0 [VB r12.toBool] []) (.done 0 [VB false] [])))))
theorem PJ(a0_0:ByteArray)(a0_1:AV)(a1:AV)(a2_0:ByteArray)(a2_1:AV)(a3:Int)(ha0_1:LK.has .sl a0_1)(ha1:LK.has .sl a1)(ha2_1:LK.has .sl a2_1)(h:di 110 (LQ a0_0 a0_1 a1 a2_0 a2_1 a3) R):an Tryz.prog 125 [.agg [VS a0_0,a0_1],a1,.agg [VS a2_0,a2_1],VI a3] [] R :=
 uQ (ag (cf (ag (aw _) (ag (bU ha0_1) aC))) (ag (bU ha1) (ag (cf (ag (aw _) (ag (bU ha2_1) aC))) (ag (aw _) aC)))) (oQ [] Tryz.f125 h)
def H3:LI:={hd:={bV:=[(0,.k .sl),(1,.k .str),(7,.k (.int .i64))],eV:=[(2,4)]},xs:={eV:=[(2,4)]},rt:={},ex:=0}
def OP:Code:=cF (cC Tryz.f126) 2
def Jn:List (Nat×LI):=[(2,H3)]
def KG(a0:AV)(a1:ByteArray)(e2:List (List AV)):Tree :=
 .loop OP H3 [a0,VS a1,VI 0] [.vec 4 e2] (fun y2 q2=>.ai (((q2.drop 0).hO)=.vec 4 ((q2.drop 0).hO).es)<|.done 0 [.vec 1] [.dead,.vec 4 ((q2.hO).es)]) (fun y2 q2=>.fail)
theorem Q7(a0:AV)(a1:ByteArray)(e2:List (List AV))(ha0:LK.has .sl a0)(h:di 32 (KG a0 a1 e2) R):an Tryz.prog 126 [a0,VS a1,.vec 0] [.vec 4 e2] R :=
 an.mX (bx (fK _) ct) (an.up (ag (bU ha0) (ag (aw _) (ag (aw _) aC))) (oF Jn {mu:=[(2,.one (.vec))],own:=[0]} Tryz.f126 h))
def H5(x0:AV)(x1:ByteArray)(x7:Int)(e2:List (List AV)):Tree :=
 NL x0<|NS (VS x1)<|NI (VI x7)<|.ai (Ob.vec 4 e2=.vec 4 e2)<|NL x0<|.test (decide (x7<(x0.aP.length:Int))) (NG x0 x7 4<|NE (x0.ix x7)<|.call 98 [VS x1,.sl [[VS (((x0.ix x7).getD 0 .any).ah),((x0.ix x7).getD 1 .any)]]] [] fun r1 o1=>NA r1<|NG x0 x7 4<|NE ((x0.ix x7).drop 2)<|.ai (cy 4 [[VS ((r1.cs.getD 0 .any).ah),(r1.cs.getD 1 .any),VS ((((x0.ix x7).drop 2).getD 0 .any).ah),(((x0.ix x7).drop 2).getD 1 .any)]]/\((e2.length)+([[VS ((r1.cs.getD 0 .any).ah),(r1.cs.getD 1 .any),VS ((((x0.ix x7).drop 2).getD 0 .any).ah),(((x0.ix x7).drop 2).getD 1 .any)]]:List (List AV)).length)*80<=140737488355328)<|.done 0 [x0,VS x1,VI (IntKind.wrap .i64 (x7+1))] [.vec 4 (e2++([[VS ((r1.cs.getD 0 .any).ah),(r1.cs.getD 1 .any),VS ((((x0.ix x7).drop 2).getD 0 .any).ah),(((x0.ix x7).drop 2).getD 1 .any)]]:List (List AV)))]) (.done 1 [] [.vec 4 e2])
abbrev E9:=cB Tryz.prog 32 OP H3
theorem Jy(x0:AV)(x1:ByteArray)(x7:Int)(e2:List (List AV))(h:ka 32 (H5 x0 x1 x7 e2) E9 U):E9 [x0,VS x1,VI x7] [.vec 4 e2] U :=
 gQ Jn h
def L4(a0:AV):Tree :=
 .call 158 [a0] [] fun r1 o1=>NL r1<|.call 157 [r1,.v (.func (.func 159) #[] #[])] [] fun r2 o2=>NB r2<|.done 0 [VB (!r2.toBool)] []
theorem R3(a0:AV)(ha0:LK.has .ptr a0)(h:di 7 (L4 a0) R):an Tryz.prog 127 [a0] [] R :=
 uQ (ag (bB ha0) aC) (oQ [] Tryz.f127 h)
def KP(a0:ByteArray):Tree :=
 .test (decide ((af a0:Int)>(8000:Int))) (.done 0 [.v (.pointer none)] []) (.call 160 [VS a0,VI 0] [] fun r1 o1=>NT r1<|NP (r1.comp 0)<|NS (r1.comp 1)<|.test (!(ae ((r1.comp 1).ah)==ae (mk []))) (.done 0 [.v (.pointer none)] []) (.done 0 [(r1.comp 0)] []))
theorem SG(a0:ByteArray)(h:di 16 (KP a0) R):an Tryz.prog 128 [VS a0] [] R :=
 uQ (ag (aw _) aC) (oQ [] Tryz.f128 h)
def HK(a0:AV):Tree :=
 NZ a0<|NZ a0<|.ai (LK.has .str (a0.deref.hA)/\1<=a0.deref.length)<|.test (ae ((a0.deref.hA).ah)==ae (mk [117])) (.done 0 [.ptr [.v (.int .u8 117),VS (mk []),.v (.pointer none),.v (.pointer none)]] []) (NZ a0<|NZ a0<|.ai (LK.has .str (a0.deref.hA)/\1<=a0.deref.length)<|.call 161 [VS ((a0.deref.hA).ah)] [] fun r1 o1=>NB r1<|.test r1.toBool (NZ a0<|NZ a0<|.ai (LK.has .str (a0.deref.hA)/\1<=a0.deref.length)<|.done 0 [.ptr [.v (.int .u8 101),VS ((a0.deref.hA).ah),.v (.pointer none),.v (.pointer none)]] []) (.call 162 [a0,VS (mk [108]),VI 2] [] fun r2 o2=>NB r2<|.test r2.toBool (NZ a0<|NZ a0<|nF (a0.deref.drop 1)<|NG ((a0.deref.drop 1).hA) 1 1<|dR (((a0.deref.drop 1).hA).ix (1:Int))<|.call 129 [((((a0.deref.drop 1).hA).ix (1:Int)).hA)] [] fun r3 o3=>NP r3<|NP r3<|.test r3.isNil (.done 0 [.v (.pointer none)] []) (NZ a0<|NZ a0<|nF (a0.deref.drop 1)<|NG ((a0.deref.drop 1).hA) 0 1<|dR (((a0.deref.drop 1).hA).ix (0:Int))<|NZ ((((a0.deref.drop 1).hA).ix (0:Int)).hA)<|NZ ((((a0.deref.drop 1).hA).ix (0:Int)).hA)<|.ai (LK.has .str (((((a0.deref.drop 1).hA).ix (0:Int)).hA).deref.hA)/\1<=(((((a0.deref.drop 1).hA).ix (0:Int)).hA).deref).length)<|.ai (0<=(0:Int)/\(0:Int)<af ((((((a0.deref.drop 1).hA).ix (0:Int)).hA).deref.hA).ah))<|.done 0 [.ptr [.v (.int .u8 (bt ((((((a0.deref.drop 1).hA).ix (0:Int)).hA).deref.hA).ah) 0)),VS (mk []),r3,.v (.pointer none)]] [])) (.call 162 [a0,VS (mk [114]),VI 2] [] fun r4 o4=>NB r4<|.test r4.toBool (NZ a0<|NZ a0<|nF (a0.deref.drop 1)<|NG ((a0.deref.drop 1).hA) 1 1<|dR (((a0.deref.drop 1).hA).ix (1:Int))<|.call 129 [((((a0.deref.drop 1).hA).ix (1:Int)).hA)] [] fun r5 o5=>NP r5<|NP r5<|.test r5.isNil (.done 0 [.v (.pointer none)] []) (NZ a0<|NZ a0<|nF (a0.deref.drop 1)<|NG ((a0.deref.drop 1).hA) 0 1<|dR (((a0.deref.drop 1).hA).ix (0:Int))<|NZ ((((a0.deref.drop 1).hA).ix (0:Int)).hA)<|NZ ((((a0.deref.drop 1).hA).ix (0:Int)).hA)<|.ai (LK.has .str (((((a0.deref.drop 1).hA).ix (0:Int)).hA).deref.hA)/\1<=(((((a0.deref.drop 1).hA).ix (0:Int)).hA).deref).length)<|.ai (0<=(0:Int)/\(0:Int)<af ((((((a0.deref.drop 1).hA).ix (0:Int)).hA).deref.hA).ah))<|.done 0 [.ptr [.v (.int .u8 (bt ((((((a0.deref.drop 1).hA).ix (0:Int)).hA).deref.hA).ah) 0)),VS (mk []),r5,.v (.pointer none)]] [])) (.call 162 [a0,VS (mk [102]),VI 2] [] fun r6 o6=>NB r6<|.test r6.toBool (NZ a0<|NZ a0<|nF (a0.deref.drop 1)<|NG ((a0.deref.drop 1).hA) 1 1<|dR (((a0.deref.drop 1).hA).ix (1:Int))<|.call 129 [((((a0.deref.drop 1).hA).ix (1:Int)).hA)] [] fun r7 o7=>NP r7<|NP r7<|.test r7.isNil (.done 0 [.v (.pointer none)] []) (NZ a0<|NZ a0<|nF (a0.deref.drop 1)<|NG ((a0.deref.drop 1).hA) 0 1<|dR (((a0.deref.drop 1).hA).ix (0:Int))<|NZ ((((a0.deref.drop 1).hA).ix (0:Int)).hA)<|NZ ((((a0.deref.drop 1).hA).ix (0:Int)).hA)<|.ai (LK.has .str (((((a0.deref.drop 1).hA).ix (0:Int)).hA).deref.hA)/\1<=(((((a0.deref.drop 1).hA).ix (0:Int)).hA).deref).length)<|.ai (0<=(0:Int)/\(0:Int)<af ((((((a0.deref.drop 1).hA).ix (0:Int)).hA).deref.hA).ah))<|.done 0 [.ptr [.v (.int .u8 (bt ((((((a0.deref.drop 1).hA).ix (0:Int)).hA).deref.hA).ah) 0)),VS (mk []),r7,.v (.pointer none)]] [])) (.call 162 [a0,VS (mk [112]),VI 3] [] fun r8 o8=>NB r8<|.test r8.toBool (NZ a0<|NZ a0<|nF (a0.deref.drop 1)<|NG ((a0.deref.drop 1).hA) 1 1<|dR (((a0.deref.drop 1).hA).ix (1:Int))<|.call 129 [((((a0.deref.drop 1).hA).ix (1:Int)).hA)] [] fun r9 o9=>NP r9<|NZ a0<|NZ a0<|nF (a0.deref.drop 1)<|NG ((a0.deref.drop 1).hA) 2 1<|dR (((a0.deref.drop 1).hA).ix (2:Int))<|.call 129 [((((a0.deref.drop 1).hA).ix (2:Int)).hA)] [] fun r10 o10=>NP r10<|NP r9<|.test r9.isNil (.done 0 [.v (.pointer none)] []) (NP r10<|.test r10.isNil (.done 0 [.v (.pointer none)] []) (.call 117 [r9,r10] [] fun r11 o11=>NP r11<|.done 0 [r11] []))) (.done 0 [.v (.pointer none)] []))))))
theorem IT(a0:AV)(ha0:LK.has .ptr a0)(h:di 85 (HK a0) R):an Tryz.prog 129 [a0] [] R :=
 uQ (ag (bB ha0) aC) (oQ [] Tryz.f129 h)
def GH:LI:={hd:={bV:=[(3,.k .ptr),(10,.k (.int .i64)),(11,.k (.int .i64))]},xs:={bV:=[(3,.k .ptr)]},rt:={},ex:=0}
def OR:Code:=cF (cC Tryz.f131) 3
def Nz:List (Nat×LI):=[(3,GH)]
def Ib(a0_0:AV)(a0_1:AV):Tree :=
 NZ a0_0<|NZ a0_0<|.ai (LK.has (.int .i64) ((a0_0.deref.drop 2).hA)/\1<=(a0_0.deref.drop 2).length)<|.loop OR GH [a0_1,VI (((a0_0.deref.drop 2).hA).toInt),VI 0] [] (fun y1 q1=>NP (y1.hA)<|NZ (y1.hA)<|NZ (y1.hA)<|.ai (LK.has .ptr ((y1.hA).deref.hA)/\1<=((y1.hA).deref).length)<|.done 0 [((y1.hA).deref.hA)] []) (fun y1 q1=>.done 0 [.any] [])
theorem K9(a0_0:AV)(a0_1:AV)(ha0_0:LK.has .ptr a0_0)(ha0_1:LK.has .ptr a0_1)(h:di 22 (Ib a0_0 a0_1) R):an Tryz.prog 131 [.agg [a0_0,a0_1]] [] R :=
 uQ (ag (cf (ag (bB ha0_0) (ag (bB ha0_1) aC))) aC) (oQ Nz Tryz.f131 h)
def A0(x3:AV)(x10:Int)(x11:Int):Tree :=
 NP x3<|NI (VI x10)<|NI (VI x11)<|.test (decide (x11<x10)) (NZ x3<|NZ x3<|dR (x3.deref.drop 1)<|.done 0 [((x3.deref.drop 1).hA),VI x10,VI (IntKind.wrap .i64 (x11+1))] []) (.done 1 [x3] [])
abbrev CP:=cB Tryz.prog 22 OR GH
theorem Dn(x3:AV)(x10:Int)(x11:Int)(h:ka 22 (A0 x3 x10 x11) CP U):CP [x3,VI x10,VI x11] [] U :=
 gQ Nz h
def Lt(a0:ByteArray):Tree :=
 .call 122 [VS a0] [] fun r1 o1=>NT r1<|.ai ((r1.comp 0)=.agg (r1.comp 0).cs/\(r1.comp 0).cs.length=2/\bF [.str,.sl] ((r1.comp 0).cs) 0)<|NB (r1.comp 1)<|.test ((r1.comp 1).toBool) (.call 165 [.agg [VS (((r1.comp 0).cs.getD 0 .any).ah),((r1.comp 0).cs.getD 1 .any)]] [] fun r2 o2=>NB r2<|.test r2.toBool (.call 140 [.agg [VS (((r1.comp 0).cs.getD 0 .any).ah),((r1.comp 0).cs.getD 1 .any)]] [] fun r3 o3=>NI r3<|.done 0 [.cD [.agg [VS (((r1.comp 0).cs.getD 0 .any).ah),((r1.comp 0).cs.getD 1 .any)],VB (decide (r3.toInt<=(400:Int)))]] []) (.done 0 [.cD [.agg [VS (((r1.comp 0).cs.getD 0 .any).ah),((r1.comp 0).cs.getD 1 .any)],VB false]] [])) (.done 0 [.cD [.agg [VS (((r1.comp 0).cs.getD 0 .any).ah),((r1.comp 0).cs.getD 1 .any)],VB false]] [])
theorem Sk(a0:ByteArray)(h:di 22 (Lt a0) R):an Tryz.prog 132 [VS a0] [] R :=
 uQ (ag (aw _) aC) (oQ [] Tryz.f132 h)
def JP(a0_0:ByteArray)(a0_1:AV):Tree :=
 NG a0_1 1 2<|lB (a0_1.ix (1:Int))<|NG a0_1 2 2<|NE (a0_1.ix (2:Int))<|.call 166 [.agg [VS (((a0_1.ix (2:Int)).getD 0 .any).ah),((a0_1.ix (2:Int)).getD 1 .any)],VS (((a0_1.ix (1:Int)).hA).ah)] [] fun r1 o1=>NT r1<|.ai ((r1.comp 0)=.agg (r1.comp 0).cs/\(r1.comp 0).cs.length=2/\bF [.str,.sl] ((r1.comp 0).cs) 0)<|NB (r1.comp 1)<|.test (!((r1.comp 1).toBool)) (.done 0 [.cD [.agg [VS a0_0,a0_1],VB false]] []) (.call 167 [.agg [VS (((r1.comp 0).cs.getD 0 .any).ah),((r1.comp 0).cs.getD 1 .any)],VS (((a0_1.ix (1:Int)).hA).ah),.agg [VS a0_0,a0_1]] [] fun r2 o2=>NT r2<|.ai ((r2.comp 0)=.agg (r2.comp 0).cs/\(r2.comp 0).cs.length=2/\bF [.str,.sl] ((r2.comp 0).cs) 0)<|NB (r2.comp 1)<|.done 0 [.cD [.agg [VS (((r2.comp 0).cs.getD 0 .any).ah),((r2.comp 0).cs.getD 1 .any)],VB ((r2.comp 1).toBool)]] [])
theorem Pz(a0_0:ByteArray)(a0_1:AV)(ha0_1:LK.has .sl a0_1)(h:di 30 (JP a0_0 a0_1) R):an Tryz.prog 133 [.agg [VS a0_0,a0_1]] [] R :=
 uQ (ag (cf (ag (aw _) (ag (bU ha0_1) aC))) aC) (oQ [] Tryz.f133 h)
def LX(a0_0:ByteArray)(a0_1:AV):Tree :=
 .call 140 [.agg [VS a0_0,a0_1]] [] fun r1 o1=>NI r1<|.test (decide (r1.toInt>(400:Int))) (.done 0 [.cD [VS (mk []),VB false]] []) (.call 106 [.agg [VS a0_0,a0_1],.v (.slice none 0 0)] [] fun r2 o2=>NA r2<|.call 97 [.agg [VS ((r2.cs.getD 0 .any).ah),(r2.cs.getD 1 .any)]] [] fun r3 o3=>NS r3<|.call 168 [VS r3.ah] [] fun r4 o4=>NB r4<|.test (!r4.toBool) (.done 0 [.cD [VS (mk []),VB false]] []) (.done 0 [.cD [VS r3.ah,VB true]] []))
theorem Rs(a0_0:ByteArray)(a0_1:AV)(ha0_1:LK.has .sl a0_1)(h:di 15 (LX a0_0 a0_1) R):an Tryz.prog 134 [.agg [VS a0_0,a0_1]] [] R :=
 uQ (ag (cf (ag (aw _) (ag (bU ha0_1) aC))) aC) (oQ [] Tryz.f134 h)
def Mu(a0_0:AV)(a0_1:Int):Tree :=
 .call 81 [.ref 0 0,VI 12] [.cells [a0_0,VI a0_1]] fun r1 o1=>.ai ((o1.hO)=.cells (o1.hO).cs)<|.ai (aL [.lk .sl,.lk (.int .i64)] ((o1.hO).cs) 0 1 o1.tail)<|NI r1<|.test (r1.toInt==(0:Int)) (.call 102 [.ref 0 0,.sl [[VS (mk [])],[VS (mk [97])],[VS (mk [40,43,32,49,41])],[VS (mk [40,114,101,99,32,120,32,49,41])],[VS (mk [40,114,101,99,32,116,41])],[VS (mk [40,43,32,32,49,32,49,41])],[VS (mk [40,42,32,49,32,49,32,49,41])],[VS (mk [116,49,48,48])],[VS (mk [120,32,49])]]] [.cells [((o1.hO).cs.getD 0 .any),VI (((o1.hO).cs.getD 1 .any).toInt)]] fun r2 o2=>.ai ((o2.hO)=.cells (o2.hO).cs)<|.ai (aL [.lk .sl,.lk (.int .i64)] ((o2.hO).cs) 0 1 o2.tail)<|NS r2<|.done 0 [VS r2.ah] [.cells [((o2.hO).cs.getD 0 .any),VI (((o2.hO).cs.getD 1 .any).toInt)]]) (.test (r1.toInt==(1:Int)) (.call 80 [.ref 0 0] [.cells [((o1.hO).cs.getD 0 .any),VI (((o1.hO).cs.getD 1 .any).toInt)]] fun r3 o3=>.ai ((o3.hO)=.cells (o3.hO).cs)<|.ai (aL [.lk .sl,.lk (.int .i64)] ((o3.hO).cs) 0 1 o3.tail)<|NS r3<|.done 0 [VS r3.ah] [.cells [((o3.hO).cs.getD 0 .any),VI (((o3.hO).cs.getD 1 .any).toInt)]]) (.test (r1.toInt==(2:Int)) (.call 80 [.ref 0 0] [.cells [((o1.hO).cs.getD 0 .any),VI (((o1.hO).cs.getD 1 .any).toInt)]] fun r4 o4=>.ai ((o4.hO)=.cells (o4.hO).cs)<|.ai (aL [.lk .sl,.lk (.int .i64)] ((o4.hO).cs) 0 1 o4.tail)<|NS r4<|.done 0 [VS r4.ah] [.cells [((o4.hO).cs.getD 0 .any),VI (((o4.hO).cs.getD 1 .any).toInt)]]) (.test (r1.toInt==(3:Int)) (.call 80 [.ref 0 0] [.cells [((o1.hO).cs.getD 0 .any),VI (((o1.hO).cs.getD 1 .any).toInt)]] fun r5 o5=>.ai ((o5.hO)=.cells (o5.hO).cs)<|.ai (aL [.lk .sl,.lk (.int .i64)] ((o5.hO).cs) 0 1 o5.tail)<|NS r5<|.done 0 [VS r5.ah] [.cells [((o5.hO).cs.getD 0 .any),VI (((o5.hO).cs.getD 1 .any).toInt)]]) (.test (r1.toInt==(4:Int)) (.call 136 [.ref 0 0,.sl [[VS (mk [116])],[VS (mk [116,49])]],VI 2] [.cells [((o1.hO).cs.getD 0 .any),VI (((o1.hO).cs.getD 1 .any).toInt)]] fun r6 o6=>.ai ((o6.hO)=.cells (o6.hO).cs)<|.ai (aL [.lk .sl,.lk (.int .i64)] ((o6.hO).cs) 0 1 o6.tail)<|NS r6<|.done 0 [VS r6.ah] [.cells [((o6.hO).cs.getD 0 .any),VI (((o6.hO).cs.getD 1 .any).toInt)]]) (.call 136 [.ref 0 0,.sl [],VI 3] [.cells [((o1.hO).cs.getD 0 .any),VI (((o1.hO).cs.getD 1 .any).toInt)]] fun r7 o7=>.ai ((o7.hO)=.cells (o7.hO).cs)<|.ai (aL [.lk .sl,.lk (.int .i64)] ((o7.hO).cs) 0 1 o7.tail)<|NS r7<|.done 0 [VS r7.ah] [.cells [((o7.hO).cs.getD 0 .any),VI (((o7.hO).cs.getD 1 .any).toInt)]])))))
theorem Po(a0_0:AV)(a0_1:Int)(ha0_0:LK.has .sl a0_0)(h:di 24 (Mu a0_0 a0_1) R):an Tryz.prog 135 [.ref 0 0] [.cells [a0_0,VI a0_1]] R :=
 an.mX (bx (ca (ag (bU ha0_0) (ag (aw _) aC))) ct) (an.up (ag (aw _) aC) (oF [] {mu:=[(0,.one (.obj [.lk .sl,.lk (.int .i64)]))],own:=[]} Tryz.f135 h))
def G1(a0_0:AV)(a0_1:Int)(a1:AV)(a2:Int):Tree :=
 .test (decide (a2<=(0:Int))) (NL a1<|.test (decide ((a1.aP.length:Int)>(0:Int))) (.call 81 [.ref 0 0,VI 3] [.cells [a0_0,VI a0_1]] fun r1 o1=>.ai ((o1.hO)=.cells (o1.hO).cs)<|.ai (aL [.lk .sl,.lk (.int .i64)] ((o1.hO).cs) 0 1 o1.tail)<|NI r1<|.test (r1.toInt==(0:Int)) (NL a1<|.call 81 [.ref 0 0,VI (a1.aP.length:Int)] [.cells [((o1.hO).cs.getD 0 .any),VI (((o1.hO).cs.getD 1 .any).toInt)]] fun r2 o2=>.ai ((o2.hO)=.cells (o2.hO).cs)<|.ai (aL [.lk .sl,.lk (.int .i64)] ((o2.hO).cs) 0 1 o2.tail)<|NI r2<|.ai (LK.has .sl a1/\0<=r2.toInt/\r2.toInt<a1.aP.length/\(a1.aP.getD r2.toInt.toNat []).length=1)<|lB (a1.aP.getD r2.toInt.toNat [])<|.done 0 [VS (((a1.aP.getD r2.toInt.toNat []).hA).ah)] [.cells [((o2.hO).cs.getD 0 .any),VI (((o2.hO).cs.getD 1 .any).toInt)]]) (.call 102 [.ref 0 0,.sl [[VS (mk [120])],[VS (mk [49])],[VS (mk [120])],[VS (mk [121])],[VS (mk [48])],[VS (mk [49])]]] [.cells [((o1.hO).cs.getD 0 .any),VI (((o1.hO).cs.getD 1 .any).toInt)]] fun r3 o3=>.ai ((o3.hO)=.cells (o3.hO).cs)<|.ai (aL [.lk .sl,.lk (.int .i64)] ((o3.hO).cs) 0 1 o3.tail)<|NS r3<|.done 0 [VS r3.ah] [.cells [((o3.hO).cs.getD 0 .any),VI (((o3.hO).cs.getD 1 .any).toInt)]])) (.call 102 [.ref 0 0,.sl [[VS (mk [120])],[VS (mk [49])],[VS (mk [120])],[VS (mk [121])],[VS (mk [48])],[VS (mk [49])]]] [.cells [a0_0,VI a0_1]] fun r4 o4=>.ai ((o4.hO)=.cells (o4.hO).cs)<|.ai (aL [.lk .sl,.lk (.int .i64)] ((o4.hO).cs) 0 1 o4.tail)<|NS r4<|.done 0 [VS r4.ah] [.cells [((o4.hO).cs.getD 0 .any),VI (((o4.hO).cs.getD 1 .any).toInt)]])) (.call 81 [.ref 0 0,VI 4] [.cells [a0_0,VI a0_1]] fun r5 o5=>.ai ((o5.hO)=.cells (o5.hO).cs)<|.ai (aL [.lk .sl,.lk (.int .i64)] ((o5.hO).cs) 0 1 o5.tail)<|NI r5<|.test (r5.toInt==(0:Int)) (NL a1<|.test (decide ((a1.aP.length:Int)>(0:Int))) (.call 81 [.ref 0 0,VI 3] [.cells [((o5.hO).cs.getD 0 .any),VI (((o5.hO).cs.getD 1 .any).toInt)]] fun r6 o6=>.ai ((o6.hO)=.cells (o6.hO).cs)<|.ai (aL [.lk .sl,.lk (.int .i64)] ((o6.hO).cs) 0 1 o6.tail)<|NI r6<|.test (r6.toInt==(0:Int)) (NL a1<|.call 81 [.ref 0 0,VI (a1.aP.length:Int)] [.cells [((o6.hO).cs.getD 0 .any),VI (((o6.hO).cs.getD 1 .any).toInt)]] fun r7 o7=>.ai ((o7.hO)=.cells (o7.hO).cs)<|.ai (aL [.lk .sl,.lk (.int .i64)] ((o7.hO).cs) 0 1 o7.tail)<|NI r7<|.ai (LK.has .sl a1/\0<=r7.toInt/\r7.toInt<a1.aP.length/\(a1.aP.getD r7.toInt.toNat []).length=1)<|lB (a1.aP.getD r7.toInt.toNat [])<|.done 0 [VS (((a1.aP.getD r7.toInt.toNat []).hA).ah)] [.cells [((o7.hO).cs.getD 0 .any),VI (((o7.hO).cs.getD 1 .any).toInt)]]) (.call 102 [.ref 0 0,.sl [[VS (mk [120])],[VS (mk [49])],[VS (mk [120])],[VS (mk [121])],[VS (mk [48])],[VS (mk [49])]]] [.cells [((o6.hO).cs.getD 0 .any),VI (((o6.hO).cs.getD 1 .any).toInt)]] fun r8 o8=>.ai ((o8.hO)=.cells (o8.hO).cs)<|.ai (aL [.lk .sl,.lk (.int .i64)] ((o8.hO).cs) 0 1 o8.tail)<|NS r8<|.done 0 [VS r8.ah] [.cells [((o8.hO).cs.getD 0 .any),VI (((o8.hO).cs.getD 1 .any).toInt)]])) (.call 102 [.ref 0 0,.sl [[VS (mk [120])],[VS (mk [49])],[VS (mk [120])],[VS (mk [121])],[VS (mk [48])],[VS (mk [49])]]] [.cells [((o5.hO).cs.getD 0 .any),VI (((o5.hO).cs.getD 1 .any).toInt)]] fun r9 o9=>.ai ((o9.hO)=.cells (o9.hO).cs)<|.ai (aL [.lk .sl,.lk (.int .i64)] ((o9.hO).cs) 0 1 o9.tail)<|NS r9<|.done 0 [VS r9.ah] [.cells [((o9.hO).cs.getD 0 .any),VI (((o9.hO).cs.getD 1 .any).toInt)]])) (.call 81 [.ref 0 0,VI 5] [.cells [((o5.hO).cs.getD 0 .any),VI (((o5.hO).cs.getD 1 .any).toInt)]] fun r10 o10=>.ai ((o10.hO)=.cells (o10.hO).cs)<|.ai (aL [.lk .sl,.lk (.int .i64)] ((o10.hO).cs) 0 1 o10.tail)<|NI r10<|.test (r10.toInt==(0:Int)) (.call 136 [.ref 0 0,a1,VI (IntKind.wrap .i64 (a2-1))] [.cells [((o10.hO).cs.getD 0 .any),VI (((o10.hO).cs.getD 1 .any).toInt)]] fun r11 o11=>.ai ((o11.hO)=.cells (o11.hO).cs)<|.ai (aL [.lk .sl,.lk (.int .i64)] ((o11.hO).cs) 0 1 o11.tail)<|NS r11<|.ai (af (mk [40,43,32])+af r11.ah<=9223372036854775807)<|.ai (af (((mk [40,43,32]):ByteArray)++r11.ah)+af (mk [32])<=9223372036854775807)<|.call 136 [.ref 0 0,a1,VI (IntKind.wrap .i64 (a2-1))] [.cells [((o11.hO).cs.getD 0 .any),VI (((o11.hO).cs.getD 1 .any).toInt)]] fun r12 o12=>.ai ((o12.hO)=.cells (o12.hO).cs)<|.ai (aL [.lk .sl,.lk (.int .i64)] ((o12.hO).cs) 0 1 o12.tail)<|NS r12<|.ai (af (((((mk [40,43,32]):ByteArray)++r11.ah):ByteArray)++(mk [32]))+af r12.ah<=9223372036854775807)<|.ai (af (((((((mk [40,43,32]):ByteArray)++r11.ah):ByteArray)++(mk [32])):ByteArray)++r12.ah)+af (mk [41])<=9223372036854775807)<|.done 0 [VS (((((((((mk [40,43,32]):ByteArray)++r11.ah):ByteArray)++(mk [32])):ByteArray)++r12.ah):ByteArray)++(mk [41]))] [.cells [((o12.hO).cs.getD 0 .any),VI (((o12.hO).cs.getD 1 .any).toInt)]]) (.test (r10.toInt==(1:Int)) (.call 136 [.ref 0 0,a1,VI (IntKind.wrap .i64 (a2-1))] [.cells [((o10.hO).cs.getD 0 .any),VI (((o10.hO).cs.getD 1 .any).toInt)]] fun r13 o13=>.ai ((o13.hO)=.cells (o13.hO).cs)<|.ai (aL [.lk .sl,.lk (.int .i64)] ((o13.hO).cs) 0 1 o13.tail)<|NS r13<|.ai (af (mk [40,43,32])+af r13.ah<=9223372036854775807)<|.ai (af (((mk [40,43,32]):ByteArray)++r13.ah)+af (mk [32])<=9223372036854775807)<|.call 136 [.ref 0 0,a1,VI (IntKind.wrap .i64 (a2-1))] [.cells [((o13.hO).cs.getD 0 .any),VI (((o13.hO).cs.getD 1 .any).toInt)]] fun r14 o14=>.ai ((o14.hO)=.cells (o14.hO).cs)<|.ai (aL [.lk .sl,.lk (.int .i64)] ((o14.hO).cs) 0 1 o14.tail)<|NS r14<|.ai (af (((((mk [40,43,32]):ByteArray)++r13.ah):ByteArray)++(mk [32]))+af r14.ah<=9223372036854775807)<|.ai (af (((((((mk [40,43,32]):ByteArray)++r13.ah):ByteArray)++(mk [32])):ByteArray)++r14.ah)+af (mk [41])<=9223372036854775807)<|.done 0 [VS (((((((((mk [40,43,32]):ByteArray)++r13.ah):ByteArray)++(mk [32])):ByteArray)++r14.ah):ByteArray)++(mk [41]))] [.cells [((o14.hO).cs.getD 0 .any),VI (((o14.hO).cs.getD 1 .any).toInt)]]) (.test (r10.toInt==(2:Int)) (.call 136 [.ref 0 0,a1,VI (IntKind.wrap .i64 (a2-1))] [.cells [((o10.hO).cs.getD 0 .any),VI (((o10.hO).cs.getD 1 .any).toInt)]] fun r15 o15=>.ai ((o15.hO)=.cells (o15.hO).cs)<|.ai (aL [.lk .sl,.lk (.int .i64)] ((o15.hO).cs) 0 1 o15.tail)<|NS r15<|.ai (af (mk [40,42,32])+af r15.ah<=9223372036854775807)<|.ai (af (((mk [40,42,32]):ByteArray)++r15.ah)+af (mk [32])<=9223372036854775807)<|.call 136 [.ref 0 0,a1,VI (IntKind.wrap .i64 (a2-1))] [.cells [((o15.hO).cs.getD 0 .any),VI (((o15.hO).cs.getD 1 .any).toInt)]] fun r16 o16=>.ai ((o16.hO)=.cells (o16.hO).cs)<|.ai (aL [.lk .sl,.lk (.int .i64)] ((o16.hO).cs) 0 1 o16.tail)<|NS r16<|.ai (af (((((mk [40,42,32]):ByteArray)++r15.ah):ByteArray)++(mk [32]))+af r16.ah<=9223372036854775807)<|.ai (af (((((((mk [40,42,32]):ByteArray)++r15.ah):ByteArray)++(mk [32])):ByteArray)++r16.ah)+af (mk [41])<=9223372036854775807)<|.done 0 [VS (((((((((mk [40,42,32]):ByteArray)++r15.ah):ByteArray)++(mk [32])):ByteArray)++r16.ah):ByteArray)++(mk [41]))] [.cells [((o16.hO).cs.getD 0 .any),VI (((o16.hO).cs.getD 1 .any).toInt)]]) (.test (r10.toInt==(3:Int)) (.call 136 [.ref 0 0,a1,VI (IntKind.wrap .i64 (a2-1))] [.cells [((o10.hO).cs.getD 0 .any),VI (((o10.hO).cs.getD 1 .any).toInt)]] fun r17 o17=>.ai ((o17.hO)=.cells (o17.hO).cs)<|.ai (aL [.lk .sl,.lk (.int .i64)] ((o17.hO).cs) 0 1 o17.tail)<|NS r17<|.ai (af (mk [40,42,32])+af r17.ah<=9223372036854775807)<|.ai (af (((mk [40,42,32]):ByteArray)++r17.ah)+af (mk [32])<=9223372036854775807)<|.call 136 [.ref 0 0,a1,VI (IntKind.wrap .i64 (a2-1))] [.cells [((o17.hO).cs.getD 0 .any),VI (((o17.hO).cs.getD 1 .any).toInt)]] fun r18 o18=>.ai ((o18.hO)=.cells (o18.hO).cs)<|.ai (aL [.lk .sl,.lk (.int .i64)] ((o18.hO).cs) 0 1 o18.tail)<|NS r18<|.ai (af (((((mk [40,42,32]):ByteArray)++r17.ah):ByteArray)++(mk [32]))+af r18.ah<=9223372036854775807)<|.ai (af (((((((mk [40,42,32]):ByteArray)++r17.ah):ByteArray)++(mk [32])):ByteArray)++r18.ah)+af (mk [41])<=9223372036854775807)<|.done 0 [VS (((((((((mk [40,42,32]):ByteArray)++r17.ah):ByteArray)++(mk [32])):ByteArray)++r18.ah):ByteArray)++(mk [41]))] [.cells [((o18.hO).cs.getD 0 .any),VI (((o18.hO).cs.getD 1 .any).toInt)]]) (.call 102 [.ref 0 0,.sl [[VS (mk [116])],[VS (mk [116,49])],[VS (mk [116,48])]]] [.cells [((o10.hO).cs.getD 0 .any),VI (((o10.hO).cs.getD 1 .any).toInt)]] fun r19 o19=>.ai ((o19.hO)=.cells (o19.hO).cs)<|.ai (aL [.lk .sl,.lk (.int .i64)] ((o19.hO).cs) 0 1 o19.tail)<|NS r19<|.ai (af (mk [40,114,101,99,32])+af r19.ah<=9223372036854775807)<|.ai (af (((mk [40,114,101,99,32]):ByteArray)++r19.ah)+af (mk [32,40,43,32,49,32])<=9223372036854775807)<|.call 79 [a1,VS r19.ah] [] fun r20 o20=>.ai (r20=.vec 0/\(o20.hO)=.vec 1 (o20.hO).es)<|.ai (∀x,x∈o20->fj x)<|.call 136 [.ref 0 0,.sl ((o20.hO).es),VI (IntKind.wrap .i64 (a2-1))] [.cells [((o19.hO).cs.getD 0 .any),VI (((o19.hO).cs.getD 1 .any).toInt)]] fun r21 o21=>.ai ((o21.hO)=.cells (o21.hO).cs)<|.ai (aL [.lk .sl,.lk (.int .i64)] ((o21.hO).cs) 0 1 o21.tail)<|NS r21<|.ai (af (((((mk [40,114,101,99,32]):ByteArray)++r19.ah):ByteArray)++(mk [32,40,43,32,49,32]))+af r21.ah<=9223372036854775807)<|.ai (af (((((((mk [40,114,101,99,32]):ByteArray)++r19.ah):ByteArray)++(mk [32,40,43,32,49,32])):ByteArray)++r21.ah)+af (mk [41,41])<=9223372036854775807)<|.done 0 [VS (((((((((mk [40,114,101,99,32]):ByteArray)++r19.ah):ByteArray)++(mk [32,40,43,32,49,32])):ByteArray)++r21.ah):ByteArray)++(mk [41,41]))] [.cells [((o21.hO).cs.getD 0 .any),VI (((o21.hO).cs.getD 1 .any).toInt)]]))))))
theorem NQ(a0_0:AV)(a0_1:Int)(a1:AV)(a2:Int)(ha1:LK.has .sl a1)(ha0_0:LK.has .sl a0_0)(h:di 82 (G1 a0_0 a0_1 a1 a2) R):an Tryz.prog 136 [.ref 0 0,a1,VI a2] [.cells [a0_0,VI a0_1]] R :=
 an.mX (bx (ca (ag (bU ha0_0) (ag (aw _) aC))) ct) (an.up (ag (aw _) (ag (bU ha1) (ag (aw _) aC))) (oF [] {mu:=[(0,.one (.obj [.lk .sl,.lk (.int .i64)]))],own:=[]} Tryz.f136 h))
def w4(a0_0:ByteArray)(a0_1:AV)(a1:AV)(e2:List (List AV)):Tree :=
 .test (!(ae a0_0==ae (mk []))) (.test (ae a0_0==ae (mk [48])) (.done 0 [.vec 1] [.dead,.vec 1 e2]) (.test (ae a0_0==ae (mk [49])) (.done 0 [.vec 1] [.dead,.vec 1 e2]) (.call 169 [a1,VS a0_0] [] fun r1 o1=>NB r1<|.test r1.toBool (.done 0 [.vec 1] [.dead,.vec 1 e2]) (.call 169 [.sl e2,VS a0_0] [] fun r2 o2=>NB r2<|.test r2.toBool (.done 0 [.vec 1] [.dead,.vec 1 e2]) (.ai (cy 1 [[VS a0_0]]/\((e2.length)+([[VS a0_0]]:List (List AV)).length)*16<=140737488355328)<|.done 0 [.vec 1] [.dead,.vec 1 (e2++([[VS a0_0]]:List (List AV)))]))))) (.call 121 [.agg [VS a0_0,a0_1]] [] fun r3 o3=>NS r3<|.test (ae r3.ah==ae (mk [114,101,99])) (NG a0_1 2 2<|NE (a0_1.ix (2:Int))<|NG a0_1 1 2<|lB (a0_1.ix (1:Int))<|.call 79 [a1,VS (((a0_1.ix (1:Int)).hA).ah)] [] fun r4 o4=>.ai (r4=.vec 0/\(o4.hO)=.vec 1 (o4.hO).es)<|.ai (∀x,x∈o4->fj x)<|.call 137 [.agg [VS (((a0_1.ix (2:Int)).getD 0 .any).ah),((a0_1.ix (2:Int)).getD 1 .any)],.sl ((o4.hO).es),.vec 0] [.vec 1 e2] fun r5 o5=>.ai (r5=.vec 1/\(o5.tail.hO)=.vec 1 (o5.tail.hO).es)<|.done 0 [.vec 1] [.dead,.vec 1 ((o5.tail.hO).es)]) (NG a0_1 2 2<|NE (a0_1.ix (2:Int))<|NG a0_1 1 2<|NE (a0_1.ix (1:Int))<|.call 137 [.agg [VS (((a0_1.ix (1:Int)).getD 0 .any).ah),((a0_1.ix (1:Int)).getD 1 .any)],a1,.vec 0] [.vec 1 e2] fun r6 o6=>.ai (r6=.vec 1/\(o6.tail.hO)=.vec 1 (o6.tail.hO).es)<|.call 137 [.agg [VS (((a0_1.ix (2:Int)).getD 0 .any).ah),((a0_1.ix (2:Int)).getD 1 .any)],a1,.vec 0] [.vec 1 ((o6.tail.hO).es)] fun r7 o7=>.ai (r7=.vec 1/\(o7.tail.hO)=.vec 1 (o7.tail.hO).es)<|.done 0 [.vec 1] [.dead,.vec 1 ((o7.tail.hO).es)]))
theorem zl(a0_0:ByteArray)(a0_1:AV)(a1:AV)(e2:List (List AV))(ha0_1:LK.has .sl a0_1)(ha1:LK.has .sl a1)(h:di 65 (w4 a0_0 a0_1 a1 e2) R):an Tryz.prog 137 [.agg [VS a0_0,a0_1],a1,.vec 0] [.vec 1 e2] R :=
 an.mX (bx (fK _) ct) (an.up (ag (cf (ag (aw _) (ag (bU ha0_1) aC))) (ag (bU ha1) (ag (aw _) aC))) (oF [] {mu:=[(2,.one (.vec))],own:=[0]} Tryz.f137 h))
def Jq(a0:ByteArray):Tree :=
 .call 170 [VS a0,.v (.int .u8 116),.v (.int .u8 116)] [] fun r1 o1=>NB r1<|.done 0 [VB r1.toBool] []
theorem RT(a0:ByteArray)(h:di 5 (Jq a0) R):an Tryz.prog 138 [VS a0] [] R :=
 uQ (ag (aw _) aC) (oQ [] Tryz.f138 h)
def AR(a0_0:ByteArray)(a0_1:AV)(a1:AV):Tree :=
 .call 121 [.agg [VS a0_0,a0_1]] [] fun r1 o1=>NS r1<|.test (ae r1.ah==ae (mk [43])) (NG a0_1 1 2<|NE (a0_1.ix (1:Int))<|.call 139 [.agg [VS (((a0_1.ix (1:Int)).getD 0 .any).ah),((a0_1.ix (1:Int)).getD 1 .any)],a1] [] fun r2 o2=>NB r2<|.test r2.toBool (NG a0_1 2 2<|NE (a0_1.ix (2:Int))<|.call 139 [.agg [VS (((a0_1.ix (2:Int)).getD 0 .any).ah),((a0_1.ix (2:Int)).getD 1 .any)],a1] [] fun r3 o3=>NB r3<|.done 0 [VB r3.toBool] []) (.done 0 [VB false] [])) (.test (ae r1.ah==ae (mk [42])) (NG a0_1 1 2<|NE (a0_1.ix (1:Int))<|.call 139 [.agg [VS (((a0_1.ix (1:Int)).getD 0 .any).ah),((a0_1.ix (1:Int)).getD 1 .any)],a1] [] fun r4 o4=>NB r4<|.test r4.toBool (.done 0 [VB true] []) (NG a0_1 2 2<|NE (a0_1.ix (2:Int))<|.call 139 [.agg [VS (((a0_1.ix (2:Int)).getD 0 .any).ah),((a0_1.ix (2:Int)).getD 1 .any)],a1] [] fun r5 o5=>NB r5<|.done 0 [VB r5.toBool] [])) (.test (ae r1.ah==ae (mk [114,101,99])) (NG a0_1 2 2<|NE (a0_1.ix (2:Int))<|NG a0_1 1 2<|lB (a0_1.ix (1:Int))<|.call 79 [a1,VS (((a0_1.ix (1:Int)).hA).ah)] [] fun r6 o6=>.ai (r6=.vec 0/\(o6.hO)=.vec 1 (o6.hO).es)<|.ai (∀x,x∈o6->fj x)<|.call 139 [.agg [VS (((a0_1.ix (2:Int)).getD 0 .any).ah),((a0_1.ix (2:Int)).getD 1 .any)],.sl ((o6.hO).es)] [] fun r7 o7=>NB r7<|.done 0 [VB r7.toBool] []) (.test (ae a0_0==ae (mk [48])) (.done 0 [VB true] []) (.call 169 [a1,VS a0_0] [] fun r8 o8=>NB r8<|.done 0 [VB r8.toBool] []))))
theorem DN(a0_0:ByteArray)(a0_1:AV)(a1:AV)(ha0_1:LK.has .sl a0_1)(ha1:LK.has .sl a1)(h:di 62 (AR a0_0 a0_1 a1) R):an Tryz.prog 139 [.agg [VS a0_0,a0_1],a1] [] R :=
 uQ (ag (cf (ag (aw _) (ag (bU ha0_1) aC))) (ag (bU ha1) aC)) (oQ [] Tryz.f139 h)
def GM:LI:={hd:={bV:=[(3,.k (.int .i64)),(4,.k (.int .i64))],refs:=[(1,1)],co:=[(1,[.lk .str,.lk .sl])]},xs:={bV:=[(3,.k (.int .i64))]},rt:={},ex:=0}
def KJ:Code:=cF (cC Tryz.f140) 5
def OO:List (Nat×LI):=[(5,GM)]
def G3(a0_0:ByteArray)(a0_1:AV):Tree :=
 .test (!(ae a0_0==ae (mk []))) (.done 0 [VI 1] []) (.loop KJ GM [VI 0,VI 0] [.cells [VS a0_0,a0_1]] (fun y2 q2=>NI (y2.hA)<|.done 0 [VI ((y2.hA).toInt)] []) (fun y2 q2=>.done 0 [.any] []))
theorem MP(a0_0:ByteArray)(a0_1:AV)(ha0_1:LK.has .sl a0_1)(h:di 24 (G3 a0_0 a0_1) R):an Tryz.prog 140 [.agg [VS a0_0,a0_1]] [] R :=
 uQ (ag (cf (ag (aw _) (ag (bU ha0_1) aC))) aC) (oQ OO Tryz.f140 h)
def GI(x3:Int)(x4:Int)(o1_0:ByteArray)(o1_1:AV):Tree :=
 NI (VI x3)<|NI (VI x4)<|.ai (Ob.cells [VS o1_0,o1_1]=.cells [VS o1_0,o1_1])<|.ai (ac [.lk .str,.lk .sl] [VS o1_0,o1_1] 0 [])<|NL o1_1<|.test (decide (x4<(o1_1.aP.length:Int))) (NG o1_1 x4 2<|NE (o1_1.ix x4)<|.call 140 [.agg [VS (((o1_1.ix x4).getD 0 .any).ah),((o1_1.ix x4).getD 1 .any)]] [] fun r1 o1=>NI r1<|.done 0 [VI (IntKind.wrap .i64 (x3+r1.toInt)),VI (IntKind.wrap .i64 (x4+1))] [.cells [VS o1_0,o1_1]]) (.done 1 [VI x3] [])
abbrev Hi:=cB Tryz.prog 24 KJ GM
theorem OC(x3:Int)(x4:Int)(o1_0:ByteArray)(o1_1:AV)(h:ka 24 (GI x3 x4 o1_0 o1_1) Hi U):Hi [VI x3,VI x4] [.cells [VS o1_0,o1_1]] U :=
 gQ OO h
def L8(a0_0:ByteArray)(a0_1:AV):Tree :=
 NG a0_1 1 2<|lB (a0_1.ix (1:Int))<|NG a0_1 2 2<|NE (a0_1.ix (2:Int))<|.call 171 [.agg [VS (((a0_1.ix (2:Int)).getD 0 .any).ah),((a0_1.ix (2:Int)).getD 1 .any)],VS (((a0_1.ix (1:Int)).hA).ah),.agg [VS a0_0,a0_1]] [] fun r1 o1=>NB r1<|.test (!r1.toBool) (.done 0 [.cD [.agg [VS a0_0,a0_1],VB false]] []) (NG a0_1 2 2<|NE (a0_1.ix (2:Int))<|.call 172 [.agg [VS (((a0_1.ix (2:Int)).getD 0 .any).ah),((a0_1.ix (2:Int)).getD 1 .any)],VS (((a0_1.ix (1:Int)).hA).ah),.agg [VS a0_0,a0_1]] [] fun r2 o2=>NA r2<|.done 0 [.cD [.agg [VS ((r2.cs.getD 0 .any).ah),(r2.cs.getD 1 .any)],VB true]] [])
theorem PI(a0_0:ByteArray)(a0_1:AV)(ha0_1:LK.has .sl a0_1)(h:di 26 (L8 a0_0 a0_1) R):an Tryz.prog 141 [.agg [VS a0_0,a0_1]] [] R :=
 uQ (ag (cf (ag (aw _) (ag (bU ha0_1) aC))) aC) (oQ [] Tryz.f141 h)
def Oy(a0:Int):Tree :=
 .test (decide (a0<((-9223372036854775807):Int))) (.done 0 [VS (mk [45,57,50,50,51,51,55,50,48,51,54,56,53,52,55,55,53,56,48,56])] []) (.test (decide (a0<(0:Int))) (.call 142 [VI (IntKind.wrap .i64 (0-a0))] [] fun r1 o1=>NS r1<|.ai (af (mk [45])+af r1.ah<=9223372036854775807)<|.done 0 [VS (((mk [45]):ByteArray)++r1.ah)] []) (.test (decide (a0<(10:Int))) (.ai (jE [[.v (.int .u8 (IntKind.wrap .u8 (IntKind.wrap .i64 (48+a0))))]])<|.done 0 [VS (⟨(bytesOf [[.v (.int .u8 (IntKind.wrap .u8 (IntKind.wrap .i64 (48+a0))))]]).toArray⟩)] []) (.ai (¬(10:Int)=0)<|.call 142 [VI (IntKind.wrap .i64 (Int.tdiv a0 10))] [] fun r2 o2=>NS r2<|.ai (¬(10:Int)=0)<|.ai (jE [[.v (.int .u8 (IntKind.wrap .u8 (IntKind.wrap .i64 (48+(dH a0 10)))))]])<|.ai (af r2.ah+af (⟨(bytesOf [[.v (.int .u8 (IntKind.wrap .u8 (IntKind.wrap .i64 (48+(dH a0 10)))))]]).toArray⟩)<=9223372036854775807)<|.done 0 [VS ((r2.ah:ByteArray)++(⟨(bytesOf [[.v (.int .u8 (IntKind.wrap .u8 (IntKind.wrap .i64 (48+(dH a0 10)))))]]).toArray⟩))] [])))
theorem RN(a0:Int)(h:di 28 (Oy a0) R):an Tryz.prog 142 [VI a0] [] R :=
 uQ (ag (aw _) aC) (oQ [] Tryz.f142 h)
def Fp:LI:={hd:={bV:=[(1,.k .sl),(2,.k .sl),(9,.k (.int .i64))],refs:=[(4,4),(8,8)],co:=[(4,[.lk .str,.lk .sl]),(8,[.lk .str,.lk .sl]),(0,[.vec 1,.lk (.int .i64)])]},xs:={refs:=[(4,4),(8,8)],co:=[(4,[.lk .str,.lk .sl]),(8,[.lk .str,.lk .sl]),(0,[.vec 1,.lk (.int .i64)])]},rt:={refs:=[(8,8)],co:=[(8,[.lk .str,.lk .sl]),(0,[.vec 1,.lk (.int .i64)])]},ex:=0,fx:=[0]}
def KR:Code:=cF (cC Tryz.f143) 3
def F6:LI:={hd:={bV:=[(1,.k .sl),(2,.k .sl),(10,.k .str)],refs:=[(3,0),(4,4),(8,8)],co:=[(0,[.vec 1,.lk (.int .i64)]),(4,[.lk .str,.lk .sl]),(8,[.lk .str,.lk .sl])]},xs:={bV:=[(1,.k .sl),(2,.k .sl),(10,.k .str)],refs:=[(3,0),(4,4),(8,8)],co:=[(0,[.vec 1,.lk (.int .i64)]),(4,[.lk .str,.lk .sl]),(8,[.lk .str,.lk .sl])]},rt:={co:=[(0,[.vec 1,.lk (.int .i64)])]},ex:=2,fx:=[0]}
def OD:Code:=cF (cC Tryz.f143) 10
def HS:List (Nat×LI):=[(3,Fp),(10,F6)]
def A2(a0_0:ByteArray)(a0_1:AV)(a1:AV)(a2:AV)(e3_0:List (List AV))(a3_1:Int):Tree :=
 .test (!(ae a0_0==ae (mk []))) (NL a1<|.loop KR Fp [a1,a2,VI (IntKind.wrap .i64 ((a1.aP.length:Int)-1))] [.cells [VS a0_0,a0_1],.cells [VS (mk []),.v (.slice none 0 0)],.cells [.any,VI a3_1],.vec 1 e3_0] (fun y1 q1=>.ai ((q1.hO)=.cells (q1.hO).cs)<|.ai (ac [.lk .str,.lk .sl] ((q1.hO).cs) 0 q1.tail)<|.ai (((q1.tail.drop 0).hO)=.cells ((q1.tail.drop 0).hO).cs)<|.ai (ac [.lk .str,.lk .sl] (((q1.tail.drop 0).hO).cs) 0 ((q1.tail.drop 0).tail))<|.ai ((((q1.tail.drop 0).tail.drop 0).hO)=.cells (((q1.tail.drop 0).tail.drop 0).hO).cs)<|.ai (ac [.vec 1,.lk (.int .i64)] ((((q1.tail.drop 0).tail.drop 0).hO).cs) 0 (((q1.tail.drop 0).tail.drop 0).tail))<|.done 0 [.agg [VS (((q1.hO).cs.getD 0 .any).ah),((q1.hO).cs.getD 1 .any)]] [.cells [.vec 1,VI (((q1.tail.tail.hO).cs.getD 1 .any).toInt)],.vec 1 ((q1.tail.tail.tail.hO).es)]) (fun y1 q1=>.ai ((q1.hO)=.cells (q1.hO).cs)<|.ai (ac [.lk .str,.lk .sl] ((q1.hO).cs) 0 q1.tail)<|.ai (((q1.tail.drop 0).hO)=.cells ((q1.tail.drop 0).hO).cs)<|.ai (ac [.vec 1,.lk (.int .i64)] (((q1.tail.drop 0).hO).cs) 0 ((q1.tail.drop 0).tail))<|.done 0 [.agg [VS (((q1.hO).cs.getD 0 .any).ah),((q1.hO).cs.getD 1 .any)]] [.cells [.vec 1,VI (((q1.tail.hO).cs.getD 1 .any).toInt)],.vec 1 ((q1.tail.tail.hO).es)])) (.call 121 [.agg [VS a0_0,a0_1]] [] fun r2 o2=>NS r2<|.test (ae r2.ah==ae (mk [114,101,99])) (.call 142 [VI a3_1] [] fun r3 o3=>NS r3<|.ai (af (mk [116])+af r3.ah<=9223372036854775807)<|.loop OD F6 [a1,a2,VS (((mk [116]):ByteArray)++r3.ah)] [.cells [.any,VI a3_1],.vec 1 e3_0,.cells [VS a0_0,a0_1],.cells [VS (mk []),.v (.slice none 0 0)]] (fun y6 q6=>NL (y6.hA)<|NL (y6.tail.hA)<|NS (y6.tail.tail.hA)<|.ai ((q6.hO)=.cells (q6.hO).cs)<|.ai (ac [.vec 1,.lk (.int .i64)] ((q6.hO).cs) 0 q6.tail)<|.ai (((q6.tail.drop 1).hO)=.cells ((q6.tail.drop 1).hO).cs)<|.ai (ac [.lk .str,.lk .sl] (((q6.tail.drop 1).hO).cs) 0 ((q6.tail.drop 1).tail))<|.ai ((((q6.tail.drop 1).tail.drop 0).hO)=.cells (((q6.tail.drop 1).tail.drop 0).hO).cs)<|.ai (ac [.lk .str,.lk .sl] ((((q6.tail.drop 1).tail.drop 0).hO).cs) 0 (((q6.tail.drop 1).tail.drop 0).tail))<|NG ((q6.tail.tail.hO).cs.getD 1 .any) 2 2<|NE (((q6.tail.tail.hO).cs.getD 1 .any).ix (2:Int))<|NG ((q6.tail.tail.hO).cs.getD 1 .any) 1 2<|lB (((q6.tail.tail.hO).cs.getD 1 .any).ix (1:Int))<|.call 79 [(y6.hA),VS (((((q6.tail.tail.hO).cs.getD 1 .any).ix (1:Int)).hA).ah)] [] fun r7 o7=>.ai (r7=.vec 0/\(o7.hO)=.vec 1 (o7.hO).es)<|.ai (∀x,x∈o7->fj x)<|.call 79 [(y6.tail.hA),VS ((y6.tail.tail.hA).ah)] [] fun r8 o8=>.ai (r8=.vec 0/\(o8.hO)=.vec 1 (o8.hO).es)<|.ai (∀x,x∈o8->fj x)<|.call 143 [.agg [VS (((((q6.tail.tail.hO).cs.getD 1 .any).ix (2:Int)).getD 0 .any).ah),((((q6.tail.tail.hO).cs.getD 1 .any).ix (2:Int)).getD 1 .any)],.sl ((o7.hO).es),.sl ((o8.hO).es),.ref 0 0] [.cells [.vec 1,VI (IntKind.wrap .i64 ((((q6.hO).cs.getD 1 .any).toInt)+1))],.vec 1 ((q6.tail.hO).es)] fun r9 o9=>.ai ((o9.hO)=.cells (o9.hO).cs)<|.ai (aL [.vec 1,.lk (.int .i64)] ((o9.hO).cs) 0 1 o9.tail)<|NA r9<|.call 98 [VS (mk [114,101,99]),.sl [[VS ((y6.tail.tail.hA).ah),.v (.slice none 0 0)],[VS ((r9.cs.getD 0 .any).ah),(r9.cs.getD 1 .any)]]] [] fun r10 o10=>NA r10<|.done 0 [.agg [VS ((r10.cs.getD 0 .any).ah),(r10.cs.getD 1 .any)]] [.cells [.vec 1,VI (((o9.hO).cs.getD 1 .any).toInt)],.vec 1 ((o9.tail.hO).es)]) (fun y6 q6=>.ai ((q6.hO)=.cells (q6.hO).cs)<|.ai (ac [.vec 1,.lk (.int .i64)] ((q6.hO).cs) 0 q6.tail)<|.fail)) (NG a0_1 1 2<|NE (a0_1.ix (1:Int))<|.call 143 [.agg [VS (((a0_1.ix (1:Int)).getD 0 .any).ah),((a0_1.ix (1:Int)).getD 1 .any)],a1,a2,.ref 0 0] [.cells [.vec 1,VI a3_1],.vec 1 e3_0] fun r11 o11=>.ai ((o11.hO)=.cells (o11.hO).cs)<|.ai (aL [.vec 1,.lk (.int .i64)] ((o11.hO).cs) 0 1 o11.tail)<|NA r11<|.call 121 [.agg [VS a0_0,a0_1]] [] fun r12 o12=>NS r12<|NG a0_1 2 2<|NE (a0_1.ix (2:Int))<|.call 143 [.agg [VS (((a0_1.ix (2:Int)).getD 0 .any).ah),((a0_1.ix (2:Int)).getD 1 .any)],a1,a2,.ref 0 0] [.cells [.vec 1,VI (((o11.hO).cs.getD 1 .any).toInt)],.vec 1 ((o11.tail.hO).es)] fun r13 o13=>.ai ((o13.hO)=.cells (o13.hO).cs)<|.ai (aL [.vec 1,.lk (.int .i64)] ((o13.hO).cs) 0 1 o13.tail)<|NA r13<|.call 98 [VS r12.ah,.sl [[VS ((r11.cs.getD 0 .any).ah),(r11.cs.getD 1 .any)],[VS ((r13.cs.getD 0 .any).ah),(r13.cs.getD 1 .any)]]] [] fun r14 o14=>NA r14<|.done 0 [.agg [VS ((r14.cs.getD 0 .any).ah),(r14.cs.getD 1 .any)]] [.cells [.vec 1,VI (((o13.hO).cs.getD 1 .any).toInt)],.vec 1 ((o13.tail.hO).es)]))
theorem D3(a0_0:ByteArray)(a0_1:AV)(a1:AV)(a2:AV)(e3_0:List (List AV))(a3_1:Int)(ha0_1:LK.has .sl a0_1)(ha1:LK.has .sl a1)(ha2:LK.has .sl a2)(h:di 113 (A2 a0_0 a0_1 a1 a2 e3_0 a3_1) R):an Tryz.prog 143 [.agg [VS a0_0,a0_1],a1,a2,.ref 0 0] [.cells [.vec 1,VI a3_1],.vec 1 e3_0] R :=
 an.mX (bx (ca (ag (aw _) (ag (aw _) aC))) (bx (fK _) ct)) (an.up (ag (cf (ag (aw _) (ag (bU ha0_1) aC))) (ag (bU ha1) (ag (bU ha2) (ag (aw _) aC)))) (oF HS {mu:=[(3,.one (.obj [.vec 1,.lk (.int .i64)]))],own:=[]} Tryz.f143 h))
def Gw(x1:AV)(x2:AV)(x9:Int)(o4_0:ByteArray)(o4_1:AV)(o8_0:ByteArray)(o8_1:AV)(o0_0:List (List AV))(o0_1:Int):Tree :=
 NL x1<|NL x2<|NI (VI x9)<|.ai (Ob.cells [VS o4_0,o4_1]=.cells [VS o4_0,o4_1])<|.ai (ac [.lk .str,.lk .sl] [VS o4_0,o4_1] 0 [.cells [VS o8_0,o8_1],.cells [.any,VI o0_1],.vec 1 o0_0])<|.ai (Ob.cells [VS o8_0,o8_1]=.cells [VS o8_0,o8_1])<|.ai (ac [.lk .str,.lk .sl] [VS o8_0,o8_1] 0 [.cells [.any,VI o0_1],.vec 1 o0_0])<|.ai (Ob.cells [.any,VI o0_1]=.cells [.any,VI o0_1])<|.ai (ac [.vec 1,.lk (.int .i64)] [.any,VI o0_1] 0 [.vec 1 o0_0])<|.test (decide (x9≥(0:Int))) (NG x1 x9 1<|lB (x1.ix x9)<|.test (ae (((x1.ix x9).hA).ah)==ae o4_0) (NG x2 x9 1<|lB (x2.ix x9)<|.done 2 [] [.cells [VS (((x2.ix x9).hA).ah),.v (.slice none 0 0)],.cells [.any,VI o0_1],.vec 1 o0_0]) (.done 0 [x1,x2,VI (IntKind.wrap .i64 (x9-1))] [.cells [VS o4_0,o4_1],.cells [VS o8_0,o8_1],.cells [.any,VI o0_1],.vec 1 o0_0])) (.done 1 [] [.cells [VS o4_0,o4_1],.cells [VS o8_0,o8_1],.cells [.any,VI o0_1],.vec 1 o0_0])
abbrev Ht:=cB Tryz.prog 113 KR Fp
theorem Kq(x1:AV)(x2:AV)(x9:Int)(o4_0:ByteArray)(o4_1:AV)(o8_0:ByteArray)(o8_1:AV)(o0_0:List (List AV))(o0_1:Int)(h:ka 113 (Gw x1 x2 x9 o4_0 o4_1 o8_0 o8_1 o0_0 o0_1) Ht U):Ht [x1,x2,VI x9] [.cells [VS o4_0,o4_1],.cells [VS o8_0,o8_1],.cells [.any,VI o0_1],.vec 1 o0_0] U :=
 gQ HS h
def I5(x1:AV)(x2:AV)(x10:ByteArray)(o0_0:List (List AV))(o0_1:Int)(o4_0:ByteArray)(o4_1:AV)(o8_0:ByteArray)(o8_1:AV):Tree :=
 NL x1<|NL x2<|NS (VS x10)<|.ai (Ob.cells [.any,VI o0_1]=.cells [.any,VI o0_1])<|.ai (ac [.vec 1,.lk (.int .i64)] [.any,VI o0_1] 0 [.vec 1 o0_0,.cells [VS o4_0,o4_1],.cells [VS o8_0,o8_1]])<|.ai (Ob.cells [VS o4_0,o4_1]=.cells [VS o4_0,o4_1])<|.ai (ac [.lk .str,.lk .sl] [VS o4_0,o4_1] 0 [.cells [VS o8_0,o8_1]])<|.ai (Ob.cells [VS o8_0,o8_1]=.cells [VS o8_0,o8_1])<|.ai (ac [.lk .str,.lk .sl] [VS o8_0,o8_1] 0 [])<|.call 169 [.sl o0_0,VS x10] [] fun r1 o1=>NB r1<|.test r1.toBool (.call 142 [VI (IntKind.wrap .i64 (o0_1+1))] [] fun r2 o2=>NS r2<|.ai (af (mk [116])+af r2.ah<=9223372036854775807)<|.done 0 [x1,x2,VS (((mk [116]):ByteArray)++r2.ah)] [.cells [.any,VI (IntKind.wrap .i64 (o0_1+1))],.vec 1 o0_0,.cells [VS o4_0,o4_1],.cells [VS o8_0,o8_1]]) (.done 1 [x1,x2,VS x10] [.cells [.any,VI o0_1],.vec 1 o0_0,.cells [VS o4_0,o4_1],.cells [VS o8_0,o8_1]])
abbrev IA:=cB Tryz.prog 113 OD F6
theorem RE(x1:AV)(x2:AV)(x10:ByteArray)(o0_0:List (List AV))(o0_1:Int)(o4_0:ByteArray)(o4_1:AV)(o8_0:ByteArray)(o8_1:AV)(h:ka 113 (I5 x1 x2 x10 o0_0 o0_1 o4_0 o4_1 o8_0 o8_1) IA U):IA [x1,x2,VS x10] [.cells [.any,VI o0_1],.vec 1 o0_0,.cells [VS o4_0,o4_1],.cells [VS o8_0,o8_1]] U :=
 gQ HS h
def GL:LI:={hd:={bV:=[(0,.k .ptr),(1,.k .sl),(5,.k (.int .i64))]},xs:={bV:=[(0,.k .ptr)]},rt:={refs:=[(4,69)],co:=[(69,[.lk (.int .u8),.lk .str,.lk (.int .i64),.lk .ptr,.lk .ptr])]},ex:=1}
def JQ:Code:=cF (cC Tryz.f144) 7
def Kk:List (Nat×LI):=[(7,GL)]
def HH(a0:AV)(a1:AV):Tree :=
 NZ a0<|NZ a0<|.ai (LK.has .str (a0.deref.hA)/\1<=a0.deref.length)<|.test (ae ((a0.deref.hA).ah)==ae (mk [48])) (NZ a0<|NZ a0<|.ai (LK.has .str (a0.deref.hA)/\1<=a0.deref.length)<|.ai (0<=(0:Int)/\(0:Int)<af ((a0.deref.hA).ah))<|.done 0 [.ptr [.v (.int .u8 (bt ((a0.deref.hA).ah) 0)),VS (mk []),VI 0,.v (.pointer none),.v (.pointer none)]] []) (NZ a0<|NZ a0<|.ai (LK.has .str (a0.deref.hA)/\1<=a0.deref.length)<|.test (ae ((a0.deref.hA).ah)==ae (mk [49])) (NZ a0<|NZ a0<|.ai (LK.has .str (a0.deref.hA)/\1<=a0.deref.length)<|.ai (0<=(0:Int)/\(0:Int)<af ((a0.deref.hA).ah))<|.done 0 [.ptr [.v (.int .u8 (bt ((a0.deref.hA).ah) 0)),VS (mk []),VI 0,.v (.pointer none),.v (.pointer none)]] []) (NZ a0<|NZ a0<|.ai (LK.has .str (a0.deref.hA)/\1<=a0.deref.length)<|.call 173 [VS ((a0.deref.hA).ah)] [] fun r1 o1=>NB r1<|.test r1.toBool (NZ a0<|NZ a0<|.ai (LK.has .str (a0.deref.hA)/\1<=a0.deref.length)<|.done 0 [.ptr [.v (.int .u8 110),VS ((a0.deref.hA).ah),VI 0,.v (.pointer none),.v (.pointer none)]] []) (NZ a0<|NZ a0<|.ai (LK.has .str (a0.deref.hA)/\1<=a0.deref.length)<|.call 159 [VS ((a0.deref.hA).ah)] [] fun r2 o2=>NB r2<|.test r2.toBool (NL a1<|.loop JQ GL [a0,a1,VI (IntKind.wrap .i64 ((a1.aP.length:Int)-1))] [] (fun y3 q3=>NP (y3.hA)<|NZ (y3.hA)<|NZ (y3.hA)<|.ai (LK.has .str ((y3.hA).deref.hA)/\1<=((y3.hA).deref).length)<|.done 0 [.ptr [.v (.int .u8 110),VS (((y3.hA).deref.hA).ah),VI 0,.v (.pointer none),.v (.pointer none)]] []) (fun y3 q3=>.ai ((q3.hO)=.cells (q3.hO).cs)<|.ai (ac [.lk (.int .u8),.lk .str,.lk (.int .i64),.lk .ptr,.lk .ptr] ((q3.hO).cs) 0 q3.tail)<|.done 0 [.ptr [.v (.int .u8 (((q3.hO).cs.getD 0 .any).toInt)),VS (((q3.hO).cs.getD 1 .any).ah),VI (((q3.hO).cs.getD 2 .any).toInt),((q3.hO).cs.getD 3 .any),((q3.hO).cs.getD 4 .any)]] [])) (.call 162 [a0,VS (mk [43]),VI 3] [] fun r4 o4=>NB r4<|.test r4.toBool (NZ a0<|NZ a0<|nF (a0.deref.drop 1)<|NG ((a0.deref.drop 1).hA) 1 1<|dR (((a0.deref.drop 1).hA).ix (1:Int))<|.call 144 [((((a0.deref.drop 1).hA).ix (1:Int)).hA),a1] [] fun r5 o5=>NP r5<|NZ a0<|NZ a0<|nF (a0.deref.drop 1)<|NG ((a0.deref.drop 1).hA) 2 1<|dR (((a0.deref.drop 1).hA).ix (2:Int))<|.call 144 [((((a0.deref.drop 1).hA).ix (2:Int)).hA),a1] [] fun r6 o6=>NP r6<|NP r5<|.test r5.isNil (.done 0 [.v (.pointer none)] []) (NP r6<|.test r6.isNil (.done 0 [.v (.pointer none)] []) (NZ a0<|NZ a0<|nF (a0.deref.drop 1)<|NG ((a0.deref.drop 1).hA) 0 1<|dR (((a0.deref.drop 1).hA).ix (0:Int))<|NZ ((((a0.deref.drop 1).hA).ix (0:Int)).hA)<|NZ ((((a0.deref.drop 1).hA).ix (0:Int)).hA)<|.ai (LK.has .str (((((a0.deref.drop 1).hA).ix (0:Int)).hA).deref.hA)/\1<=(((((a0.deref.drop 1).hA).ix (0:Int)).hA).deref).length)<|.ai (0<=(0:Int)/\(0:Int)<af ((((((a0.deref.drop 1).hA).ix (0:Int)).hA).deref.hA).ah))<|.done 0 [.ptr [.v (.int .u8 (bt ((((((a0.deref.drop 1).hA).ix (0:Int)).hA).deref.hA).ah) 0)),VS (mk []),VI 0,r5,r6]] []))) (.call 162 [a0,VS (mk [42]),VI 3] [] fun r7 o7=>NB r7<|.test r7.toBool (NZ a0<|NZ a0<|nF (a0.deref.drop 1)<|NG ((a0.deref.drop 1).hA) 1 1<|dR (((a0.deref.drop 1).hA).ix (1:Int))<|.call 144 [((((a0.deref.drop 1).hA).ix (1:Int)).hA),a1] [] fun r8 o8=>NP r8<|NZ a0<|NZ a0<|nF (a0.deref.drop 1)<|NG ((a0.deref.drop 1).hA) 2 1<|dR (((a0.deref.drop 1).hA).ix (2:Int))<|.call 144 [((((a0.deref.drop 1).hA).ix (2:Int)).hA),a1] [] fun r9 o9=>NP r9<|NP r8<|.test r8.isNil (.done 0 [.v (.pointer none)] []) (NP r9<|.test r9.isNil (.done 0 [.v (.pointer none)] []) (NZ a0<|NZ a0<|nF (a0.deref.drop 1)<|NG ((a0.deref.drop 1).hA) 0 1<|dR (((a0.deref.drop 1).hA).ix (0:Int))<|NZ ((((a0.deref.drop 1).hA).ix (0:Int)).hA)<|NZ ((((a0.deref.drop 1).hA).ix (0:Int)).hA)<|.ai (LK.has .str (((((a0.deref.drop 1).hA).ix (0:Int)).hA).deref.hA)/\1<=(((((a0.deref.drop 1).hA).ix (0:Int)).hA).deref).length)<|.ai (0<=(0:Int)/\(0:Int)<af ((((((a0.deref.drop 1).hA).ix (0:Int)).hA).deref.hA).ah))<|.done 0 [.ptr [.v (.int .u8 (bt ((((((a0.deref.drop 1).hA).ix (0:Int)).hA).deref.hA).ah) 0)),VS (mk []),VI 0,r8,r9]] []))) (.call 162 [a0,VS (mk [114,101,99]),VI 3] [] fun r10 o10=>NB r10<|.test r10.toBool (NZ a0<|NZ a0<|nF (a0.deref.drop 1)<|NG ((a0.deref.drop 1).hA) 1 1<|dR (((a0.deref.drop 1).hA).ix (1:Int))<|NZ ((((a0.deref.drop 1).hA).ix (1:Int)).hA)<|NZ ((((a0.deref.drop 1).hA).ix (1:Int)).hA)<|.ai (LK.has .str (((((a0.deref.drop 1).hA).ix (1:Int)).hA).deref.hA)/\1<=(((((a0.deref.drop 1).hA).ix (1:Int)).hA).deref).length)<|.call 159 [VS ((((((a0.deref.drop 1).hA).ix (1:Int)).hA).deref.hA).ah)] [] fun r11 o11=>NB r11<|.test r11.toBool (NZ a0<|NZ a0<|nF (a0.deref.drop 1)<|NG ((a0.deref.drop 1).hA) 2 1<|dR (((a0.deref.drop 1).hA).ix (2:Int))<|.ai (LK.has .sl a1/\cy 1 a1.aP/\((([]:List (List AV)).length)+a1.aP.length)*16<=140737488355328)<|NZ a0<|NZ a0<|nF (a0.deref.drop 1)<|NG ((a0.deref.drop 1).hA) 1 1<|dR (((a0.deref.drop 1).hA).ix (1:Int))<|NZ ((((a0.deref.drop 1).hA).ix (1:Int)).hA)<|NZ ((((a0.deref.drop 1).hA).ix (1:Int)).hA)<|.ai (LK.has .str (((((a0.deref.drop 1).hA).ix (1:Int)).hA).deref.hA)/\1<=(((((a0.deref.drop 1).hA).ix (1:Int)).hA).deref).length)<|.ai (cy 1 [[VS ((((((a0.deref.drop 1).hA).ix (1:Int)).hA).deref.hA).ah)]]/\(((([]:List (List AV))++a1.aP).length)+([[VS ((((((a0.deref.drop 1).hA).ix (1:Int)).hA).deref.hA).ah)]]:List (List AV)).length)*16<=140737488355328)<|.call 144 [((((a0.deref.drop 1).hA).ix (2:Int)).hA),.sl ((([]:List (List AV))++a1.aP)++([[VS ((((((a0.deref.drop 1).hA).ix (1:Int)).hA).deref.hA).ah)]]:List (List AV)))] [] fun r12 o12=>NP r12<|NP r12<|.test r12.isNil (.done 0 [.v (.pointer none)] []) (.done 0 [.ptr [.v (.int .u8 114),VS (mk []),VI 0,r12,.v (.pointer none)]] [])) (.done 0 [.v (.pointer none)] [])) (.done 0 [.v (.pointer none)] [])))))))
theorem OU(a0:AV)(a1:AV)(ha0:LK.has .ptr a0)(ha1:LK.has .sl a1)(h:di 160 (HH a0 a1) R):an Tryz.prog 144 [a0,a1] [] R :=
 uQ (ag (bB ha0) (ag (bU ha1) aC)) (oQ Kk Tryz.f144 h)
def Fl(x0:AV)(x1:AV)(x5:Int):Tree :=
 NP x0<|NL x1<|NI (VI x5)<|.test (decide (x5≥(0:Int))) (NG x1 x5 1<|lB (x1.ix x5)<|NZ x0<|NZ x0<|.ai (LK.has .str (x0.deref.hA)/\1<=x0.deref.length)<|.test (ae (((x1.ix x5).hA).ah)==ae ((x0.deref.hA).ah)) (NL x1<|.done 2 [] [.cells [.v (.int .u8 98),VS (mk []),VI (IntKind.wrap .i64 ((IntKind.wrap .i64 ((x1.aP.length:Int)-1))-x5)),.v (.pointer none),.v (.pointer none)]]) (.done 0 [x0,x1,VI (IntKind.wrap .i64 (x5-1))] [])) (.done 1 [x0] [])
abbrev Fi:=cB Tryz.prog 160 JQ GL
theorem Ny(x0:AV)(x1:AV)(x5:Int)(h:ka 160 (Fl x0 x1 x5) Fi U):Fi [x0,x1,VI x5] [] U :=
 gQ Kk h
def ET(a0:AV):Tree :=
 NZ a0<|NZ a0<|.ai (LK.has (.int .u8) (a0.deref.hA)/\1<=a0.deref.length)<|.test (((a0.deref.hA).toInt)==(43:Int)) (NZ a0<|NZ a0<|dR (a0.deref.drop 3)<|.call 145 [((a0.deref.drop 3).hA)] [] fun r1 o1=>NI r1<|NZ a0<|NZ a0<|dR (a0.deref.drop 4)<|.call 145 [((a0.deref.drop 4).hA)] [] fun r2 o2=>NI r2<|.done 0 [VI (IntKind.wrap .i64 ((IntKind.wrap .i64 (1+r1.toInt))+r2.toInt))] []) (.test (((a0.deref.hA).toInt)==(42:Int)) (NZ a0<|NZ a0<|dR (a0.deref.drop 3)<|.call 145 [((a0.deref.drop 3).hA)] [] fun r3 o3=>NI r3<|NZ a0<|NZ a0<|dR (a0.deref.drop 4)<|.call 145 [((a0.deref.drop 4).hA)] [] fun r4 o4=>NI r4<|.done 0 [VI (IntKind.wrap .i64 ((IntKind.wrap .i64 (1+r3.toInt))+r4.toInt))] []) (.test (((a0.deref.hA).toInt)==(114:Int)) (NZ a0<|NZ a0<|dR (a0.deref.drop 3)<|.call 145 [((a0.deref.drop 3).hA)] [] fun r5 o5=>NI r5<|.done 0 [VI (IntKind.wrap .i64 (2+r5.toInt))] []) (.done 0 [VI 1] [])))
theorem FV(a0:AV)(ha0:LK.has .ptr a0)(h:di 30 (ET a0) R):an Tryz.prog 145 [a0] [] R :=
 uQ (ag (bB ha0) aC) (oQ [] Tryz.f145 h)
def K2(a0_0:Int)(a0_1:Bool):Tree :=
 .call 174 [VI (IntKind.wrap .i64 (a0_0+1))] [] fun r1 o1=>NS r1<|.ai (af (mk [35])+af r1.ah<=9223372036854775807)<|.done 0 [VS (((mk [35]):ByteArray)++r1.ah)] [.cells [VI (IntKind.wrap .i64 (a0_0+1)),VB a0_1]]
theorem QY(a0_0:Int)(a0_1:Bool)(h:di 16 (K2 a0_0 a0_1) R):an Tryz.prog 146 [.ref 0 0] [.cells [VI a0_0,VB a0_1]] R :=
 an.mX (bx (ca (ag (aw _) (ag (Gd _) aC))) ct) (an.up (ag (aw _) aC) (oF [] {mu:=[(0,.one (.obj [.lk (.int .i64),.lk .bool]))],own:=[]} Tryz.f146 h))
def JK(a0_0:Int)(a0_1:Bool)(a1:AV):Tree :=
 .test a0_1 (.done 0 [.ptr [.v (.int .u8 48),VS (mk []),VI 0,.v (.pointer none),.v (.pointer none)]] [.cells [VI a0_0,VB true]]) (.call 145 [a1] [] fun r1 o1=>NI r1<|.test (decide (r1.toInt>(400:Int))) (.done 0 [.ptr [.v (.int .u8 48),VS (mk []),VI 0,.v (.pointer none),.v (.pointer none)]] [.cells [VI a0_0,VB true]]) (.done 0 [a1] [.cells [VI a0_0,VB a0_1]]))
theorem Pv(a0_0:Int)(a0_1:Bool)(a1:AV)(ha1:LK.has .ptr a1)(h:di 20 (JK a0_0 a0_1 a1) R):an Tryz.prog 147 [.ref 0 0,a1] [.cells [VI a0_0,VB a0_1]] R :=
 an.mX (bx (ca (ag (aw _) (ag (Gd _) aC))) ct) (an.up (ag (aw _) (ag (bB ha1) aC)) (oF [] {mu:=[(0,.one (.obj [.lk (.int .i64),.lk .bool]))],own:=[]} Tryz.f147 h))
def Ed(a0_0:Int)(a0_1:Bool)(a1:AV)(a2:ByteArray):Tree :=
 .test a0_1 (.done 0 [.ptr [.v (.int .u8 48),VS (mk []),VI 0,.v (.pointer none),.v (.pointer none)]] [.cells [VI a0_0,VB a0_1]]) (NZ a1<|NZ a1<|.ai (LK.has (.int .u8) (a1.deref.hA)/\1<=a1.deref.length)<|.test (((a1.deref.hA).toInt)==(110:Int)) (NZ a1<|NZ a1<|lB (a1.deref.drop 1)<|.test (ae (((a1.deref.drop 1).hA).ah)==ae a2) (.done 0 [.ptr [.v (.int .u8 49),VS (mk []),VI 0,.v (.pointer none),.v (.pointer none)]] [.cells [VI a0_0,VB a0_1]]) (.done 0 [.ptr [.v (.int .u8 48),VS (mk []),VI 0,.v (.pointer none),.v (.pointer none)]] [.cells [VI a0_0,VB a0_1]])) (.test (((a1.deref.hA).toInt)==(43:Int)) (NZ a1<|NZ a1<|dR (a1.deref.drop 3)<|.call 148 [.ref 0 0,((a1.deref.drop 3).hA),VS a2] [.cells [VI a0_0,VB a0_1]] fun r1 o1=>.ai ((o1.hO)=.cells (o1.hO).cs)<|.ai (aL [.lk (.int .i64),.lk .bool] ((o1.hO).cs) 0 1 o1.tail)<|NP r1<|NZ a1<|NZ a1<|dR (a1.deref.drop 4)<|.call 148 [.ref 0 0,((a1.deref.drop 4).hA),VS a2] [.cells [VI (((o1.hO).cs.getD 0 .any).toInt),VB (((o1.hO).cs.getD 1 .any).toBool)]] fun r2 o2=>.ai ((o2.hO)=.cells (o2.hO).cs)<|.ai (aL [.lk (.int .i64),.lk .bool] ((o2.hO).cs) 0 1 o2.tail)<|NP r2<|.call 175 [.v (.int .u8 43),r1,r2] [] fun r3 o3=>NP r3<|.call 147 [.ref 0 0,r3] [.cells [VI (((o2.hO).cs.getD 0 .any).toInt),VB (((o2.hO).cs.getD 1 .any).toBool)]] fun r4 o4=>.ai ((o4.hO)=.cells (o4.hO).cs)<|.ai (aL [.lk (.int .i64),.lk .bool] ((o4.hO).cs) 0 1 o4.tail)<|NP r4<|.done 0 [r4] [.cells [VI (((o4.hO).cs.getD 0 .any).toInt),VB (((o4.hO).cs.getD 1 .any).toBool)]]) (.test (((a1.deref.hA).toInt)==(42:Int)) (NZ a1<|NZ a1<|dR (a1.deref.drop 3)<|.call 148 [.ref 0 0,((a1.deref.drop 3).hA),VS a2] [.cells [VI a0_0,VB a0_1]] fun r5 o5=>.ai ((o5.hO)=.cells (o5.hO).cs)<|.ai (aL [.lk (.int .i64),.lk .bool] ((o5.hO).cs) 0 1 o5.tail)<|NP r5<|NZ a1<|NZ a1<|dR (a1.deref.drop 4)<|.call 175 [.v (.int .u8 42),r5,((a1.deref.drop 4).hA)] [] fun r6 o6=>NP r6<|NZ a1<|NZ a1<|dR (a1.deref.drop 3)<|NZ a1<|NZ a1<|dR (a1.deref.drop 4)<|.call 148 [.ref 0 0,((a1.deref.drop 4).hA),VS a2] [.cells [VI (((o5.hO).cs.getD 0 .any).toInt),VB (((o5.hO).cs.getD 1 .any).toBool)]] fun r7 o7=>.ai ((o7.hO)=.cells (o7.hO).cs)<|.ai (aL [.lk (.int .i64),.lk .bool] ((o7.hO).cs) 0 1 o7.tail)<|NP r7<|.call 175 [.v (.int .u8 42),((a1.deref.drop 3).hA),r7] [] fun r8 o8=>NP r8<|.call 175 [.v (.int .u8 43),r6,r8] [] fun r9 o9=>NP r9<|.call 147 [.ref 0 0,r9] [.cells [VI (((o7.hO).cs.getD 0 .any).toInt),VB (((o7.hO).cs.getD 1 .any).toBool)]] fun r10 o10=>.ai ((o10.hO)=.cells (o10.hO).cs)<|.ai (aL [.lk (.int .i64),.lk .bool] ((o10.hO).cs) 0 1 o10.tail)<|NP r10<|.done 0 [r10] [.cells [VI (((o10.hO).cs.getD 0 .any).toInt),VB (((o10.hO).cs.getD 1 .any).toBool)]]) (.test (((a1.deref.hA).toInt)==(114:Int)) (.call 146 [.ref 0 0] [.cells [VI a0_0,VB a0_1]] fun r11 o11=>.ai ((o11.hO)=.cells (o11.hO).cs)<|.ai (aL [.lk (.int .i64),.lk .bool] ((o11.hO).cs) 0 1 o11.tail)<|NS r11<|NZ a1<|NZ a1<|dR (a1.deref.drop 3)<|.call 149 [((a1.deref.drop 3).hA),.ptr [.v (.int .u8 110),VS r11.ah,VI 0,.v (.pointer none),.v (.pointer none)],VI 0] [] fun r12 o12=>NP r12<|.call 148 [.ref 0 0,r12,VS a2] [.cells [VI (((o11.hO).cs.getD 0 .any).toInt),VB (((o11.hO).cs.getD 1 .any).toBool)]] fun r13 o13=>.ai ((o13.hO)=.cells (o13.hO).cs)<|.ai (aL [.lk (.int .i64),.lk .bool] ((o13.hO).cs) 0 1 o13.tail)<|NP r13<|.call 147 [.ref 0 0,r13] [.cells [VI (((o13.hO).cs.getD 0 .any).toInt),VB (((o13.hO).cs.getD 1 .any).toBool)]] fun r14 o14=>.ai ((o14.hO)=.cells (o14.hO).cs)<|.ai (aL [.lk (.int .i64),.lk .bool] ((o14.hO).cs) 0 1 o14.tail)<|NP r14<|.call 150 [r14,VS r11.ah,a1] [] fun r15 o15=>NP r15<|.call 148 [.ref 0 0,r12,VS r11.ah] [.cells [VI (((o14.hO).cs.getD 0 .any).toInt),VB (((o14.hO).cs.getD 1 .any).toBool)]] fun r16 o16=>.ai ((o16.hO)=.cells (o16.hO).cs)<|.ai (aL [.lk (.int .i64),.lk .bool] ((o16.hO).cs) 0 1 o16.tail)<|NP r16<|.call 147 [.ref 0 0,r16] [.cells [VI (((o16.hO).cs.getD 0 .any).toInt),VB (((o16.hO).cs.getD 1 .any).toBool)]] fun r17 o17=>.ai ((o17.hO)=.cells (o17.hO).cs)<|.ai (aL [.lk (.int .i64),.lk .bool] ((o17.hO).cs) 0 1 o17.tail)<|NP r17<|.call 150 [r17,VS r11.ah,a1] [] fun r18 o18=>NP r18<|.call 175 [.v (.int .u8 42),r18,.ptr [.v (.int .u8 98),VS (mk []),VI 0,.v (.pointer none),.v (.pointer none)]] [] fun r19 o19=>NP r19<|.call 175 [.v (.int .u8 43),r15,r19] [] fun r20 o20=>NP r20<|.call 147 [.ref 0 0,.ptr [.v (.int .u8 114),VS (mk []),VI 0,r20,.v (.pointer none)]] [.cells [VI (((o17.hO).cs.getD 0 .any).toInt),VB (((o17.hO).cs.getD 1 .any).toBool)]] fun r21 o21=>.ai ((o21.hO)=.cells (o21.hO).cs)<|.ai (aL [.lk (.int .i64),.lk .bool] ((o21.hO).cs) 0 1 o21.tail)<|NP r21<|.done 0 [r21] [.cells [VI (((o21.hO).cs.getD 0 .any).toInt),VB (((o21.hO).cs.getD 1 .any).toBool)]]) (.done 0 [.ptr [.v (.int .u8 48),VS (mk []),VI 0,.v (.pointer none),.v (.pointer none)]] [.cells [VI a0_0,VB a0_1]])))))
theorem Jc(a0_0:Int)(a0_1:Bool)(a1:AV)(a2:ByteArray)(ha1:LK.has .ptr a1)(h:di 121 (Ed a0_0 a0_1 a1 a2) R):an Tryz.prog 148 [.ref 0 0,a1,VS a2] [.cells [VI a0_0,VB a0_1]] R :=
 an.mX (bx (ca (ag (aw _) (ag (Gd _) aC))) ct) (an.up (ag (aw _) (ag (bB ha1) (ag (aw _) aC))) (oF [] {mu:=[(0,.one (.obj [.lk (.int .i64),.lk .bool]))],own:=[]} Tryz.f148 h))
def EG(a0:AV)(a1:AV)(a2:Int):Tree :=
 NZ a0<|NZ a0<|.ai (LK.has (.int .u8) (a0.deref.hA)/\1<=a0.deref.length)<|.test (((a0.deref.hA).toInt)==(98:Int)) (NZ a0<|NZ a0<|.ai (LK.has (.int .i64) ((a0.deref.drop 2).hA)/\1<=(a0.deref.drop 2).length)<|.test ((((a0.deref.drop 2).hA).toInt)==a2) (.done 0 [a1] []) (.done 0 [a0] [])) (.test (((a0.deref.hA).toInt)==(43:Int)) (NZ a0<|NZ a0<|.ai (LK.has (.int .u8) (a0.deref.hA)/\1<=a0.deref.length)<|NZ a0<|NZ a0<|dR (a0.deref.drop 3)<|.call 149 [((a0.deref.drop 3).hA),a1,VI a2] [] fun r1 o1=>NP r1<|NZ a0<|NZ a0<|dR (a0.deref.drop 4)<|.call 149 [((a0.deref.drop 4).hA),a1,VI a2] [] fun r2 o2=>NP r2<|.done 0 [.ptr [.v (.int .u8 ((a0.deref.hA).toInt)),VS (mk []),VI 0,r1,r2]] []) (.test (((a0.deref.hA).toInt)==(42:Int)) (NZ a0<|NZ a0<|.ai (LK.has (.int .u8) (a0.deref.hA)/\1<=a0.deref.length)<|NZ a0<|NZ a0<|dR (a0.deref.drop 3)<|.call 149 [((a0.deref.drop 3).hA),a1,VI a2] [] fun r3 o3=>NP r3<|NZ a0<|NZ a0<|dR (a0.deref.drop 4)<|.call 149 [((a0.deref.drop 4).hA),a1,VI a2] [] fun r4 o4=>NP r4<|.done 0 [.ptr [.v (.int .u8 ((a0.deref.hA).toInt)),VS (mk []),VI 0,r3,r4]] []) (.test (((a0.deref.hA).toInt)==(114:Int)) (NZ a0<|NZ a0<|dR (a0.deref.drop 3)<|.call 149 [((a0.deref.drop 3).hA),a1,VI (IntKind.wrap .i64 (a2+1))] [] fun r5 o5=>NP r5<|.done 0 [.ptr [.v (.int .u8 114),VS (mk []),VI 0,r5,.v (.pointer none)]] []) (.done 0 [a0] []))))
theorem wF(a0:AV)(a1:AV)(a2:Int)(ha0:LK.has .ptr a0)(ha1:LK.has .ptr a1)(h:di 56 (EG a0 a1 a2) R):an Tryz.prog 149 [a0,a1,VI a2] [] R :=
 uQ (ag (bB ha0) (ag (bB ha1) (ag (aw _) aC))) (oQ [] Tryz.f149 h)
def EJ(a0:AV)(a1:ByteArray)(a2:AV):Tree :=
 NZ a0<|NZ a0<|.ai (LK.has (.int .u8) (a0.deref.hA)/\1<=a0.deref.length)<|.test (((a0.deref.hA).toInt)==(110:Int)) (NZ a0<|NZ a0<|lB (a0.deref.drop 1)<|.test (ae (((a0.deref.drop 1).hA).ah)==ae a1) (.done 0 [a2] []) (.done 0 [a0] [])) (.test (((a0.deref.hA).toInt)==(43:Int)) (NZ a0<|NZ a0<|.ai (LK.has (.int .u8) (a0.deref.hA)/\1<=a0.deref.length)<|NZ a0<|NZ a0<|dR (a0.deref.drop 3)<|.call 150 [((a0.deref.drop 3).hA),VS a1,a2] [] fun r1 o1=>NP r1<|NZ a0<|NZ a0<|dR (a0.deref.drop 4)<|.call 150 [((a0.deref.drop 4).hA),VS a1,a2] [] fun r2 o2=>NP r2<|.done 0 [.ptr [.v (.int .u8 ((a0.deref.hA).toInt)),VS (mk []),VI 0,r1,r2]] []) (.test (((a0.deref.hA).toInt)==(42:Int)) (NZ a0<|NZ a0<|.ai (LK.has (.int .u8) (a0.deref.hA)/\1<=a0.deref.length)<|NZ a0<|NZ a0<|dR (a0.deref.drop 3)<|.call 150 [((a0.deref.drop 3).hA),VS a1,a2] [] fun r3 o3=>NP r3<|NZ a0<|NZ a0<|dR (a0.deref.drop 4)<|.call 150 [((a0.deref.drop 4).hA),VS a1,a2] [] fun r4 o4=>NP r4<|.done 0 [.ptr [.v (.int .u8 ((a0.deref.hA).toInt)),VS (mk []),VI 0,r3,r4]] []) (.test (((a0.deref.hA).toInt)==(114:Int)) (NZ a0<|NZ a0<|dR (a0.deref.drop 3)<|.call 150 [((a0.deref.drop 3).hA),VS a1,a2] [] fun r5 o5=>NP r5<|.done 0 [.ptr [.v (.int .u8 114),VS (mk []),VI 0,r5,.v (.pointer none)]] []) (.done 0 [a0] []))))
theorem FU(a0:AV)(a1:ByteArray)(a2:AV)(ha0:LK.has .ptr a0)(ha2:LK.has .ptr a2)(h:di 55 (EJ a0 a1 a2) R):an Tryz.prog 150 [a0,VS a1,a2] [] R :=
 uQ (ag (bB ha0) (ag (aw _) (ag (bB ha2) aC))) (oQ [] Tryz.f150 h)
def KW(a0:AV):Tree :=
 .call 158 [a0] [] fun r1 o1=>NL r1<|.call 176 [a0,.v (.slice none 0 0),.gT 176 [none,some 0,some 1],.ref 0 0,.ref 1 0] [.cells [r1],.cells [VI 0]] fun r2 o2=>.ai ((o2.hO)=.cells (o2.hO).cs)<|.ai (aL [.lk .sl] ((o2.hO).cs) 0 1 o2.tail)<|.ai ((o2.tail.hO)=.cells (o2.tail.hO).cs)<|.ai (aL [.lk (.int .i64)] ((o2.tail.hO).cs) 0 2 o2.tail.tail)<|NS r2<|.done 0 [VS r2.ah] []
theorem QD(a0:AV)(ha0:LK.has .ptr a0)(h:di 12 (KW a0) R):an Tryz.prog 151 [a0] [] R :=
 uQ (ag (bB ha0) aC) (oQ [] Tryz.f151 h)
def FL:LI:={hd:={bV:=[(0,.k .str),(1,.k (.int .i64)),(9,.k (.int .i64))],refs:=[(6,6),(8,8)],co:=[(6,[.lk .str,.lk .sl]),(8,[.lk .str,.lk .sl])]},xs:={bV:=[(0,.k .str),(1,.k (.int .i64)),(9,.k (.int .i64))],refs:=[(6,6),(8,8)],co:=[(6,[.lk .str,.lk .sl]),(8,[.lk .str,.lk .sl])]},rt:={},ex:=0}
def KS:Code:=cF (cC Tryz.f152) 6
def FO:LI:={hd:={bV:=[(0,.k .str),(1,.k (.int .i64)),(2,.k (.int .i64))],refs:=[(6,6),(8,8)],co:=[(6,[.lk .str,.lk .sl]),(8,[.lk .str,.vec 2])]},xs:={},rt:={bV:=[(7,.k (.int .i64))],refs:=[(6,6)],co:=[(6,[.lk .str,.vec 2])]},ex:=999}
def NO:Code:=cF (cC Tryz.f152) 12
def G6:List (Nat×LI):=[(6,FL),(12,FO)]
def Ii(a0:ByteArray)(a1:Int)(a2:Int):Tree :=
 .test (decide (a2>(300:Int))) (.done 0 [.cD [.agg [VS (mk []),.v (.slice none 0 0)],VI (-1)]] []) (.test (decide (a1≥(af a0:Int))) (.done 0 [.cD [.agg [VS (mk []),.v (.slice none 0 0)],VI (-1)]] []) (.ai (0<=a1/\a1<af a0)<|.test ((bt a0 a1) != (40:Int)) (.loop KS FL [VS a0,VI a1,VI a1] [.cells [VS (mk []),.v (.slice none 0 0)],.cells [VS (mk []),.v (.slice none 0 0)]] (fun y2 q2=>NS (y2.hA)<|NI (y2.tail.hA)<|NI (y2.tail.tail.hA)<|.ai ((q2.hO)=.cells (q2.hO).cs)<|.ai (ac [.lk .str,.lk .sl] ((q2.hO).cs) 0 q2.tail)<|.ai (((q2.tail.drop 0).hO)=.cells ((q2.tail.drop 0).hO).cs)<|.ai (ac [.lk .str,.lk .sl] (((q2.tail.drop 0).hO).cs) 0 ((q2.tail.drop 0).tail))<|.ai (0<=((y2.tail.tail.hA).toInt)/\((y2.tail.tail.hA).toInt)<=((y2.tail.hA).toInt)/\((y2.tail.hA).toInt)<=(af ((y2.hA).ah):Int))<|.test (ae (cn ((y2.hA).ah) (bJ ((y2.tail.tail.hA).toInt)) (bJ ((y2.tail.hA).toInt)))==ae (mk [])) (.done 0 [.cD [.agg [VS (cn ((y2.hA).ah) (bJ ((y2.tail.tail.hA).toInt)) (bJ ((y2.tail.hA).toInt))),((q2.tail.hO).cs.getD 1 .any)],VI (-1)]] []) (.done 0 [.cD [.agg [VS (cn ((y2.hA).ah) (bJ ((y2.tail.tail.hA).toInt)) (bJ ((y2.tail.hA).toInt))),((q2.tail.hO).cs.getD 1 .any)],VI ((y2.tail.hA).toInt)]] [])) (fun y2 q2=>.fail)) (.loop NO FO [VS a0,VI a1,VI a2] [.cells [VS (mk []),.v (.slice none 0 0)],.cells [VS (mk []),.any],.vec 2 []] (fun y5 q5=>.fail) (fun y5 q5=>NI (y5.hA)<|.ai ((q5.hO)=.cells (q5.hO).cs)<|.ai (ac [.lk .str,.vec 2] ((q5.hO).cs) 0 q5.tail)<|.done 0 [.cD [.agg [VS (((q5.hO).cs.getD 0 .any).ah),.sl ((q5.tail.hO).es)],VI ((y5.hA).toInt)]] []))))
theorem NX(a0:ByteArray)(a1:Int)(a2:Int)(h:di 87 (Ii a0 a1 a2) R):an Tryz.prog 152 [VS a0,VI a1,VI a2] [] R :=
 uQ (ag (aw _) (ag (aw _) (ag (aw _) aC))) (oQ G6 Tryz.f152 h)
def Ix(x0:ByteArray)(x1:Int)(x9:Int)(o6_0:ByteArray)(o6_1:AV)(o8_0:ByteArray)(o8_1:AV):Tree :=
 NS (VS x0)<|NI (VI x1)<|NI (VI x9)<|.ai (Ob.cells [VS o6_0,o6_1]=.cells [VS o6_0,o6_1])<|.ai (ac [.lk .str,.lk .sl] [VS o6_0,o6_1] 0 [.cells [VS o8_0,o8_1]])<|.ai (Ob.cells [VS o8_0,o8_1]=.cells [VS o8_0,o8_1])<|.ai (ac [.lk .str,.lk .sl] [VS o8_0,o8_1] 0 [])<|.test (decide (x1<(af x0:Int))) (.ai (0<=x1/\x1<af x0)<|.call 178 [.v (.int .u8 (bt x0 x1))] [] fun r1 o1=>NB r1<|.test r1.toBool (.done 0 [VS x0,VI (IntKind.wrap .i64 (x1+1)),VI x9] [.cells [VS o6_0,o6_1],.cells [VS o8_0,o8_1]]) (.done 1 [VS x0,VI x1,VI x9] [.cells [VS o6_0,o6_1],.cells [VS o8_0,o8_1]])) (.done 1 [VS x0,VI x1,VI x9] [.cells [VS o6_0,o6_1],.cells [VS o8_0,o8_1]])
abbrev Ig:=cB Tryz.prog 87 KS FL
theorem MT(x0:ByteArray)(x1:Int)(x9:Int)(o6_0:ByteArray)(o6_1:AV)(o8_0:ByteArray)(o8_1:AV)(h:ka 87 (Ix x0 x1 x9 o6_0 o6_1 o8_0 o8_1) Ig U):Ig [VS x0,VI x1,VI x9] [.cells [VS o6_0,o6_1],.cells [VS o8_0,o8_1]] U :=
 gQ G6 h
def Kj(x0:ByteArray)(x1:Int)(x2:Int)(o6_0:ByteArray)(o6_1:AV)(o8_0:ByteArray)(o8_1:List (List AV)):Tree :=
 NS (VS x0)<|NI (VI x1)<|NI (VI x2)<|.ai (Ob.cells [VS o6_0,o6_1]=.cells [VS o6_0,o6_1])<|.ai (ac [.lk .str,.lk .sl] [VS o6_0,o6_1] 0 [.cells [VS o8_0,.any],.vec 2 o8_1])<|.ai (Ob.cells [VS o8_0,.any]=.cells [VS o8_0,.any])<|.ai (ac [.lk .str,.vec 2] [VS o8_0,.any] 0 [.vec 2 o8_1])<|.call 152 [VS x0,VI (IntKind.wrap .i64 (x1+1)),VI (IntKind.wrap .i64 (x2+1))] [] fun r1 o1=>NT r1<|.ai ((r1.comp 0)=.agg (r1.comp 0).cs/\(r1.comp 0).cs.length=2/\bF [.str,.sl] ((r1.comp 0).cs) 0)<|NI (r1.comp 1)<|.test (decide (((r1.comp 1).toInt)<(0:Int))) (.done 2 [VI (-1)] [.cells [VS o8_0,.any],.vec 2 o8_1]) (.test (decide (((r1.comp 1).toInt)≥(af x0:Int))) (.done 2 [VI (-1)] [.cells [VS o8_0,.any],.vec 2 o8_1]) (.ai (cy 2 [[VS (((r1.comp 0).cs.getD 0 .any).ah),((r1.comp 0).cs.getD 1 .any)]]/\((o8_1.length)+([[VS (((r1.comp 0).cs.getD 0 .any).ah),((r1.comp 0).cs.getD 1 .any)]]:List (List AV)).length)*40<=140737488355328)<|.ai (0<=((r1.comp 1).toInt)/\((r1.comp 1).toInt)<af x0)<|.test ((bt x0 ((r1.comp 1).toInt))==(41:Int)) (.done 2 [VI (IntKind.wrap .i64 (((r1.comp 1).toInt)+1))] [.cells [VS o8_0,.any],.vec 2 (o8_1++([[VS (((r1.comp 0).cs.getD 0 .any).ah),((r1.comp 0).cs.getD 1 .any)]]:List (List AV)))]) (.ai (0<=((r1.comp 1).toInt)/\((r1.comp 1).toInt)<af x0)<|.test ((bt x0 ((r1.comp 1).toInt)) != (32:Int)) (.done 2 [VI (-1)] [.cells [VS o8_0,.any],.vec 2 (o8_1++([[VS (((r1.comp 0).cs.getD 0 .any).ah),((r1.comp 0).cs.getD 1 .any)]]:List (List AV)))]) (.done 0 [VS x0,VI ((r1.comp 1).toInt),VI x2] [.cells [VS o6_0,o6_1],.cells [VS o8_0,.any],.vec 2 (o8_1++([[VS (((r1.comp 0).cs.getD 0 .any).ah),((r1.comp 0).cs.getD 1 .any)]]:List (List AV)))]))))
abbrev Iz:=cB Tryz.prog 87 NO FO
theorem R8(x0:ByteArray)(x1:Int)(x2:Int)(o6_0:ByteArray)(o6_1:AV)(o8_0:ByteArray)(o8_1:List (List AV))(h:ka 87 (Kj x0 x1 x2 o6_0 o6_1 o8_0 o8_1) Iz U):Iz [VS x0,VI x1,VI x2] [.cells [VS o6_0,o6_1],.cells [VS o8_0,.any],.vec 2 o8_1] U :=
 gQ G6 h
def BV:LI:={hd:={bV:=[(0,.k .str),(3,.k (.int .i64)),(4,.k (.int .i64))]},xs:={bV:=[(3,.k (.int .i64))]},rt:={bV:=[(2,.k (.int .i64))]},ex:=0}
def Eg:Code:=cF (cC Tryz.f153) 5
def K3:List (Nat×LI):=[(5,BV)]
def Ns(a0:ByteArray):Tree :=
 .call 56 [VI (af a0:Int),VI 2,VI 3] [] fun r1 o1=>NB r1<|.test (!r1.toBool) (.done 0 [VI (-1)] []) (.ai (0<=(0:Int)/\(0:Int)<af a0)<|.test ((bt a0 0) != (101:Int)) (.done 0 [VI (-1)] []) (.test ((af a0:Int)==(3:Int)) (.ai (0<=(1:Int)/\(1:Int)<af a0)<|.test ((bt a0 1)==(48:Int)) (.done 0 [VI (-1)] []) (.loop Eg BV [VS a0,VI 0,VI 1] [] (fun y2 q2=>NI (y2.hA)<|.done 0 [VI ((y2.hA).toInt)] []) (fun y2 q2=>NI (y2.hA)<|.done 0 [VI ((y2.hA).toInt)] []))) (.loop Eg BV [VS a0,VI 0,VI 1] [] (fun y3 q3=>NI (y3.hA)<|.done 0 [VI ((y3.hA).toInt)] []) (fun y3 q3=>NI (y3.hA)<|.done 0 [VI ((y3.hA).toInt)] []))))
theorem RO(a0:ByteArray)(h:di 49 (Ns a0) R):an Tryz.prog 153 [VS a0] [] R :=
 uQ (ag (aw _) aC) (oQ K3 Tryz.f153 h)
def FR(x0:ByteArray)(x3:Int)(x4:Int):Tree :=
 NS (VS x0)<|NI (VI x3)<|NI (VI x4)<|.test (decide (x4<(af x0:Int))) (.ai (0<=x4/\x4<af x0)<|.test (decide ((bt x0 x4)<(48:Int))) (.done 2 [VI (-1)] []) (.ai (0<=x4/\x4<af x0)<|.test (decide ((bt x0 x4)>(57:Int))) (.done 2 [VI (-1)] []) (.ai (0<=x4/\x4<af x0)<|.done 0 [VS x0,VI (IntKind.wrap .i64 ((IntKind.wrap .i64 (10*x3))+(IntKind.wrap .i64 (IntKind.wrap .u8 ((bt x0 x4)-48))))),VI (IntKind.wrap .i64 (x4+1))] []))) (.done 1 [VI x3] [])
abbrev FY:=cB Tryz.prog 49 Eg BV
theorem JT(x0:ByteArray)(x3:Int)(x4:Int)(h:ka 49 (FR x0 x3 x4) FY U):FY [VS x0,VI x3,VI x4] [] U :=
 gQ K3 h
def He:LI:={hd:={bV:=[(1,.k .sl),(6,.k (.int .i64))],refs:=[(2,2),(4,4)],co:=[(2,[.lk .str,.lk .sl]),(4,[.lk .str,.lk .sl])]},xs:={bV:=[(1,.k .sl)],refs:=[(2,2),(4,4)],co:=[(2,[.lk .str,.lk .sl]),(4,[.lk .str,.lk .sl])]},rt:={bV:=[(5,.k .sl)],refs:=[(4,4)],co:=[(4,[.lk .str,.lk .sl])]},ex:=0}
def Km:Code:=cF (cC Tryz.f154) 2
def Nx:List (Nat×LI):=[(2,He)]
def JU(a0_0:ByteArray)(a0_1:AV)(a1:AV):Tree :=
 NL a1<|.loop Km He [a1,VI (IntKind.wrap .i64 ((a1.aP.length:Int)-1))] [.cells [VS a0_0,a0_1],.cells [VS (mk []),.v (.slice none 0 0)]] (fun y1 q1=>NL (y1.hA)<|.ai ((q1.hO)=.cells (q1.hO).cs)<|.ai (ac [.lk .str,.lk .sl] ((q1.hO).cs) 0 q1.tail)<|.ai (((q1.tail.drop 0).hO)=.cells ((q1.tail.drop 0).hO).cs)<|.ai (ac [.lk .str,.lk .sl] (((q1.tail.drop 0).hO).cs) 0 ((q1.tail.drop 0).tail))<|.done 0 [.cD [.agg [VS (((q1.hO).cs.getD 0 .any).ah),((q1.hO).cs.getD 1 .any)],(y1.hA)]] []) (fun y1 q1=>NL (y1.hA)<|.ai ((q1.hO)=.cells (q1.hO).cs)<|.ai (ac [.lk .str,.lk .sl] ((q1.hO).cs) 0 q1.tail)<|.done 0 [.cD [.agg [VS (((q1.hO).cs.getD 0 .any).ah),((q1.hO).cs.getD 1 .any)],(y1.hA)]] [])
theorem Ph(a0_0:ByteArray)(a0_1:AV)(a1:AV)(ha0_1:LK.has .sl a0_1)(ha1:LK.has .sl a1)(h:di 34 (JU a0_0 a0_1 a1) R):an Tryz.prog 154 [.agg [VS a0_0,a0_1],a1] [] R :=
 uQ (ag (cf (ag (aw _) (ag (bU ha0_1) aC))) (ag (bU ha1) aC)) (oQ Nx Tryz.f154 h)
def Ih(x1:AV)(x6:Int)(o2_0:ByteArray)(o2_1:AV)(o4_0:ByteArray)(o4_1:AV):Tree :=
 NL x1<|NI (VI x6)<|.ai (Ob.cells [VS o2_0,o2_1]=.cells [VS o2_0,o2_1])<|.ai (ac [.lk .str,.lk .sl] [VS o2_0,o2_1] 0 [.cells [VS o4_0,o4_1]])<|.ai (Ob.cells [VS o4_0,o4_1]=.cells [VS o4_0,o4_1])<|.ai (ac [.lk .str,.lk .sl] [VS o4_0,o4_1] 0 [])<|.test (decide (x6≥(0:Int))) (NG x1 x6 4<|lB (x1.ix x6)<|.test (ae (((x1.ix x6).hA).ah)==ae o2_0) (NG x1 x6 4<|NE ((x1.ix x6).drop 1)<|NG x1 x6 4<|nF ((x1.ix x6).drop 3)<|.done 2 [(((x1.ix x6).drop 3).hA)] [.cells [VS ((((x1.ix x6).drop 1).getD 0 .any).ah),(((x1.ix x6).drop 1).getD 1 .any)]]) (.done 0 [x1,VI (IntKind.wrap .i64 (x6-1))] [.cells [VS o2_0,o2_1],.cells [VS o4_0,o4_1]])) (.done 1 [x1] [.cells [VS o2_0,o2_1],.cells [VS o4_0,o4_1]])
abbrev G7:=cB Tryz.prog 34 Km He
theorem Nj(x1:AV)(x6:Int)(o2_0:ByteArray)(o2_1:AV)(o4_0:ByteArray)(o4_1:AV)(h:ka 34 (Ih x1 x6 o2_0 o2_1 o4_0 o4_1) G7 U):G7 [x1,VI x6] [.cells [VS o2_0,o2_1],.cells [VS o4_0,o4_1]] U :=
 gQ Nx h
def Lq(a0:ByteArray):Tree :=
 .call 170 [VS a0,.v (.int .u8 120),.v (.int .u8 122)] [] fun r1 o1=>NB r1<|.done 0 [VB r1.toBool] []
theorem SI(a0:ByteArray)(h:di 5 (Lq a0) R):an Tryz.prog 155 [VS a0] [] R :=
 uQ (ag (aw _) aC) (oQ [] Tryz.f155 h)
def Lb(a0_0:ByteArray)(a0_1:AV)(a1:AV):Tree :=
 NG a0_1 2 2<|NE (a0_1.ix (2:Int))<|.ai (LK.has .sl a1/\cy 4 a1.aP/\((([]:List (List AV)).length)+a1.aP.length)*80<=140737488355328)<|NG a0_1 1 2<|lB (a0_1.ix (1:Int))<|.ai (cy 4 [[VS (((a0_1.ix (1:Int)).hA).ah),VS a0_0,a0_1,a1]]/\(((([]:List (List AV))++a1.aP).length)+([[VS (((a0_1.ix (1:Int)).hA).ah),VS a0_0,a0_1,a1]]:List (List AV)).length)*80<=140737488355328)<|.done 0 [.cD [.agg [VS (((a0_1.ix (2:Int)).getD 0 .any).ah),((a0_1.ix (2:Int)).getD 1 .any)],.sl ((([]:List (List AV))++a1.aP)++([[VS (((a0_1.ix (1:Int)).hA).ah),VS a0_0,a0_1,a1]]:List (List AV)))]] []
theorem QB(a0_0:ByteArray)(a0_1:AV)(a1:AV)(ha0_1:LK.has .sl a0_1)(ha1:LK.has .sl a1)(h:di 23 (Lb a0_0 a0_1 a1) R):an Tryz.prog 156 [.agg [VS a0_0,a0_1],a1] [] R :=
 uQ (ag (cf (ag (aw _) (ag (bU ha0_1) aC))) (ag (bU ha1) aC)) (oQ [] Tryz.f156 h)
def JB(a0:AV):Tree :=
 .call 179 [a0,.v (.func (.func 159) #[] #[])] [] fun r1 o1=>NI r1<|.done 0 [VB (decide (r1.toInt≥(0:Int)))] []
theorem Qu(a0:AV)(ha0:LK.has .sl a0)(h:di 9 (JB a0) R):an Tryz.prog 157 [a0,.v (.func (.func 159) #[] #[])] [] R :=
 uQ (ag (bU ha0) (ag (aw _) aC)) (oQ [] Tryz.f157 h)
def MF(a0:AV):Tree :=
 .call 180 [a0,.fn 181 [.ref 0 0]] [.cells [.vec 1],.vec 1 []] fun r1 o1=>.ai ((o1.hO)=.cells (o1.hO).cs)<|.ai (aL [.vec 1] ((o1.hO).cs) 0 1 o1.tail)<|.done 0 [.sl ((o1.tail.hO).es)] []
theorem Sz(a0:AV)(ha0:LK.has .ptr a0)(h:di 9 (MF a0) R):an Tryz.prog 158 [a0] [] R :=
 uQ (ag (bB ha0) aC) (oQ [] Tryz.f158 h)
def JW(a0:ByteArray):Tree :=
 .call 182 [VS a0,VS (mk [116])] [] fun r1 o1=>NB r1<|.done 0 [VB r1.toBool] []
theorem R7(a0:ByteArray)(h:di 5 (JW a0) R):an Tryz.prog 159 [VS a0] [] R :=
 uQ (ag (aw _) aC) (oQ [] Tryz.f159 h)
def Ip:LI:={hd:={bV:=[(0,.k .str),(1,.k (.int .i64)),(6,.k (.int .i64))]},xs:={bV:=[(0,.k .str),(1,.k (.int .i64)),(6,.k (.int .i64))]},rt:={},ex:=0}
def JS:Code:=cF (cC Tryz.f160) 2
def Im:LI:={hd:={bV:=[(0,.k .str),(1,.k (.int .i64)),(7,.k .str)],refs:=[(8,48)],co:=[(48,[.lk .str,.vec 1])]},xs:={},rt:={bV:=[(4,.k .ptr),(5,.k .str)]},ex:=999}
def Mf:Code:=cF (cC Tryz.f160) 10
def Ff:List (Nat×LI):=[(2,Ip),(10,Im)]
def Gv(a0:ByteArray)(a1:Int):Tree :=
 .loop JS Ip [VS a0,VI a1,VI 0] [] (fun y2 q2=>NS (y2.hA)<|NI (y2.tail.hA)<|NI (y2.tail.tail.hA)<|.test (decide (((y2.tail.tail.hA).toInt)>(0:Int))) (.ai (0<=(0:Int)/\(0:Int)<=((y2.tail.tail.hA).toInt)/\((y2.tail.tail.hA).toInt)<=(af ((y2.hA).ah):Int))<|.ai (0<=((y2.tail.tail.hA).toInt)/\((y2.tail.tail.hA).toInt)<=(af ((y2.hA).ah):Int)/\(af ((y2.hA).ah):Int)<=(af ((y2.hA).ah):Int))<|.done 0 [.cD [.ptr [VS (cn ((y2.hA).ah) (bJ 0) (bJ ((y2.tail.tail.hA).toInt))),.v (.slice none 0 0)],VS (cn ((y2.hA).ah) (bJ ((y2.tail.tail.hA).toInt)) (bJ (af ((y2.hA).ah):Int)))]] []) (.test (ae ((y2.hA).ah)==ae (mk [])) (.done 0 [.cD [.v (.pointer none),VS ((y2.hA).ah)]] []) (.ai (0<=(0:Int)/\(0:Int)<af ((y2.hA).ah))<|.test ((bt ((y2.hA).ah) 0) != (40:Int)) (.done 0 [.cD [.v (.pointer none),VS ((y2.hA).ah)]] []) (.test (((y2.tail.hA).toInt)==(300:Int)) (.done 0 [.cD [.v (.pointer none),VS ((y2.hA).ah)]] []) (.ai (0<=(1:Int)/\(1:Int)<=(af ((y2.hA).ah):Int)/\(af ((y2.hA).ah):Int)<=(af ((y2.hA).ah):Int))<|.loop Mf Im [VS ((y2.hA).ah),VI ((y2.tail.hA).toInt),VS (cn ((y2.hA).ah) (bJ 1) (bJ (af ((y2.hA).ah):Int)))] [.cells [VS (mk []),.any],.vec 1 []] (fun y5 q5=>.fail) (fun y5 q5=>NP (y5.hA)<|NS (y5.tail.hA)<|.done 0 [.cD [(y5.hA),VS ((y5.tail.hA).ah)]] [])))))) (fun y2 q2=>.done 0 [.cD [.any,.any]] [])
theorem N2(a0:ByteArray)(a1:Int)(h:di 84 (Gv a0 a1) R):an Tryz.prog 160 [VS a0,VI a1] [] R :=
 uQ (ag (aw _) (ag (aw _) aC)) (oQ Ff Tryz.f160 h)
def Fa(x0:ByteArray)(x1:Int)(x6:Int):Tree :=
 NS (VS x0)<|NI (VI x1)<|NI (VI x6)<|.test (decide (x6<(af x0:Int))) (.ai (0<=x6/\x6<af x0)<|.call 183 [.v (.int .u8 (bt x0 x6))] [] fun r1 o1=>NB r1<|.test r1.toBool (.done 0 [VS x0,VI x1,VI (IntKind.wrap .i64 (x6+1))] []) (.done 1 [VS x0,VI x1,VI x6] [])) (.done 1 [VS x0,VI x1,VI x6] [])
abbrev Fc:=cB Tryz.prog 84 JS Ip
theorem Jo(x0:ByteArray)(x1:Int)(x6:Int)(h:ka 84 (Fa x0 x1 x6) Fc U):Fc [VS x0,VI x1,VI x6] [] U :=
 gQ Ff h
def Ox(x0:ByteArray)(x1:Int)(x7:ByteArray)(o48_0:ByteArray)(o48_1:List (List AV)):Tree :=
 NS (VS x0)<|NI (VI x1)<|NS (VS x7)<|.ai (Ob.cells [VS o48_0,.any]=.cells [VS o48_0,.any])<|.ai (ac [.lk .str,.vec 1] [VS o48_0,.any] 0 [.vec 1 o48_1])<|.call 160 [VS x7,VI (IntKind.wrap .i64 (x1+1))] [] fun r1 o1=>NT r1<|NP (r1.comp 0)<|NS (r1.comp 1)<|NP (r1.comp 0)<|.test ((r1.comp 0).isNil) (.done 2 [.v (.pointer none),VS x0] []) (.test (ae ((r1.comp 1).ah)==ae (mk [])) (.done 2 [.v (.pointer none),VS x0] []) (.ai (cy 1 [[(r1.comp 0)]]/\((o48_1.length)+([[(r1.comp 0)]]:List (List AV)).length)*8<=140737488355328)<|.ai (0<=(1:Int)/\(1:Int)<=(af ((r1.comp 1).ah):Int)/\(af ((r1.comp 1).ah):Int)<=(af ((r1.comp 1).ah):Int))<|.ai (0<=(0:Int)/\(0:Int)<af ((r1.comp 1).ah))<|.test ((bt ((r1.comp 1).ah) 0)==(41:Int)) (.done 2 [.ptr [VS o48_0,.sl (o48_1++([[(r1.comp 0)]]:List (List AV)))],VS (cn ((r1.comp 1).ah) (bJ 1) (bJ (af ((r1.comp 1).ah):Int)))] []) (.ai (0<=(0:Int)/\(0:Int)<af ((r1.comp 1).ah))<|.test ((bt ((r1.comp 1).ah) 0) != (32:Int)) (.done 2 [.v (.pointer none),VS x0] []) (.done 0 [VS x0,VI x1,VS (cn ((r1.comp 1).ah) (bJ 1) (bJ (af ((r1.comp 1).ah):Int)))] [.cells [VS o48_0,.any],.vec 1 (o48_1++([[(r1.comp 0)]]:List (List AV)))]))))
abbrev G4:=cB Tryz.prog 84 Mf Im
theorem Rg(x0:ByteArray)(x1:Int)(x7:ByteArray)(o48_0:ByteArray)(o48_1:List (List AV))(h:ka 84 (Ox x0 x1 x7 o48_0 o48_1) G4 U):G4 [VS x0,VI x1,VS x7] [.cells [VS o48_0,.any],.vec 1 o48_1] U :=
 gQ Ff h
def Jx(a0:ByteArray):Tree :=
 .test (decide ((af a0:Int)<(2:Int))) (.done 0 [VB false] []) (.test (decide ((af a0:Int)>(3:Int))) (.done 0 [VB false] []) (.ai (0<=(0:Int)/\(0:Int)<af a0)<|.test ((bt a0 0) != (101:Int)) (.done 0 [VB false] []) (.ai (0<=(1:Int)/\(1:Int)<=(af a0:Int)/\(af a0:Int)<=(af a0:Int))<|.call 184 [VS (cn a0 (bJ 1) (bJ (af a0:Int))),VS (mk [48,49,50,51,52,53,54,55,56,57])] [] fun r1 o1=>NS r1<|.test (!(ae r1.ah==ae (mk []))) (.done 0 [VB false] []) (.test ((af a0:Int)==(2:Int)) (.done 0 [VB true] []) (.ai (0<=(1:Int)/\(1:Int)<af a0)<|.done 0 [VB ((bt a0 1) != (48:Int))] [])))))
theorem Qm(a0:ByteArray)(h:di 30 (Jx a0) R):an Tryz.prog 161 [VS a0] [] R :=
 uQ (ag (aw _) aC) (oQ [] Tryz.f161 h)
def AL(a0:AV)(a1:ByteArray)(a2:Int):Tree :=
 NZ a0<|NZ a0<|nF (a0.deref.drop 1)<|NL ((a0.deref.drop 1).hA)<|.test (((((a0.deref.drop 1).hA).aP).length:Int)==a2) (NZ a0<|NZ a0<|nF (a0.deref.drop 1)<|NG ((a0.deref.drop 1).hA) 0 1<|dR (((a0.deref.drop 1).hA).ix (0:Int))<|NZ ((((a0.deref.drop 1).hA).ix (0:Int)).hA)<|NZ ((((a0.deref.drop 1).hA).ix (0:Int)).hA)<|.ai (LK.has .str (((((a0.deref.drop 1).hA).ix (0:Int)).hA).deref.hA)/\1<=(((((a0.deref.drop 1).hA).ix (0:Int)).hA).deref).length)<|.done 0 [VB (ae ((((((a0.deref.drop 1).hA).ix (0:Int)).hA).deref.hA).ah)==ae a1)] []) (.done 0 [VB false] [])
theorem I1(a0:AV)(a1:ByteArray)(a2:Int)(ha0:LK.has .ptr a0)(h:di 27 (AL a0 a1 a2) R):an Tryz.prog 162 [a0,VS a1,VI a2] [] R :=
 uQ (ag (bB ha0) (ag (aw _) (ag (aw _) aC))) (oQ [] Tryz.f162 h)
def xd(a0_0:ByteArray)(a0_1:AV):Tree :=
 .test (!(ae a0_0==ae (mk []))) (.test (ae a0_0==ae (mk [48])) (.done 0 [VB true] []) (.test (ae a0_0==ae (mk [49])) (.done 0 [VB true] []) (.call 155 [VS a0_0] [] fun r1 o1=>NB r1<|.test r1.toBool (.done 0 [VB true] []) (.call 138 [VS a0_0] [] fun r2 o2=>NB r2<|.done 0 [VB r2.toBool] [])))) (NL a0_1<|.test ((a0_1.aP.length:Int) != (3:Int)) (.done 0 [VB false] []) (.call 121 [.agg [VS a0_0,a0_1]] [] fun r3 o3=>NS r3<|.test (ae r3.ah==ae (mk [43])) (NG a0_1 1 2<|NE (a0_1.ix (1:Int))<|.call 165 [.agg [VS (((a0_1.ix (1:Int)).getD 0 .any).ah),((a0_1.ix (1:Int)).getD 1 .any)]] [] fun r4 o4=>NB r4<|.test r4.toBool (NG a0_1 2 2<|NE (a0_1.ix (2:Int))<|.call 165 [.agg [VS (((a0_1.ix (2:Int)).getD 0 .any).ah),((a0_1.ix (2:Int)).getD 1 .any)]] [] fun r5 o5=>NB r5<|.done 0 [VB r5.toBool] []) (.done 0 [VB false] [])) (.test (ae r3.ah==ae (mk [42])) (NG a0_1 1 2<|NE (a0_1.ix (1:Int))<|.call 165 [.agg [VS (((a0_1.ix (1:Int)).getD 0 .any).ah),((a0_1.ix (1:Int)).getD 1 .any)]] [] fun r6 o6=>NB r6<|.test r6.toBool (NG a0_1 2 2<|NE (a0_1.ix (2:Int))<|.call 165 [.agg [VS (((a0_1.ix (2:Int)).getD 0 .any).ah),((a0_1.ix (2:Int)).getD 1 .any)]] [] fun r7 o7=>NB r7<|.done 0 [VB r7.toBool] []) (.done 0 [VB false] [])) (.test (ae r3.ah==ae (mk [114,101,99])) (NG a0_1 1 2<|lB (a0_1.ix (1:Int))<|.call 138 [VS (((a0_1.ix (1:Int)).hA).ah)] [] fun r8 o8=>NB r8<|.test r8.toBool (NG a0_1 2 2<|NE (a0_1.ix (2:Int))<|.call 165 [.agg [VS (((a0_1.ix (2:Int)).getD 0 .any).ah),((a0_1.ix (2:Int)).getD 1 .any)]] [] fun r9 o9=>NB r9<|.done 0 [VB r9.toBool] []) (.done 0 [VB false] [])) (.done 0 [VB false] [])))))
theorem Nq(a0_0:ByteArray)(a0_1:AV)(ha0_1:LK.has .sl a0_1)(h:di 60 (xd a0_0 a0_1) R):an Tryz.prog 165 [.agg [VS a0_0,a0_1]] [] R :=
 uQ (ag (cf (ag (aw _) (ag (bU ha0_1) aC))) aC) (oQ [] Tryz.f165 h)
def AJ(a0_0:ByteArray)(a0_1:AV)(a1:ByteArray):Tree :=
 .test (!(ae a0_0==ae (mk []))) (.test (ae a0_0==ae a1) (.done 0 [.cD [.agg [VS (mk [49]),.v (.slice none 0 0)],VB true]] []) (.done 0 [.cD [.agg [VS (mk [48]),.v (.slice none 0 0)],VB true]] [])) (.call 121 [.agg [VS a0_0,a0_1]] [] fun r1 o1=>NS r1<|.test (ae r1.ah==ae (mk [114,101,99])) (.call 190 [.agg [VS a0_0,a0_1],VS a1] [] fun r2 o2=>NT r2<|.ai ((r2.comp 0)=.agg (r2.comp 0).cs/\(r2.comp 0).cs.length=2/\bF [.str,.sl] ((r2.comp 0).cs) 0)<|NB (r2.comp 1)<|.done 0 [.cD [.agg [VS (((r2.comp 0).cs.getD 0 .any).ah),((r2.comp 0).cs.getD 1 .any)],VB ((r2.comp 1).toBool)]] []) (NG a0_1 1 2<|NE (a0_1.ix (1:Int))<|.call 166 [.agg [VS (((a0_1.ix (1:Int)).getD 0 .any).ah),((a0_1.ix (1:Int)).getD 1 .any)],VS a1] [] fun r3 o3=>NT r3<|.ai ((r3.comp 0)=.agg (r3.comp 0).cs/\(r3.comp 0).cs.length=2/\bF [.str,.sl] ((r3.comp 0).cs) 0)<|NB (r3.comp 1)<|NG a0_1 2 2<|NE (a0_1.ix (2:Int))<|.call 166 [.agg [VS (((a0_1.ix (2:Int)).getD 0 .any).ah),((a0_1.ix (2:Int)).getD 1 .any)],VS a1] [] fun r4 o4=>NT r4<|.ai ((r4.comp 0)=.agg (r4.comp 0).cs/\(r4.comp 0).cs.length=2/\bF [.str,.sl] ((r4.comp 0).cs) 0)<|NB (r4.comp 1)<|.call 98 [VS (mk [43]),.sl [[VS (((r3.comp 0).cs.getD 0 .any).ah),((r3.comp 0).cs.getD 1 .any)],[VS (((r4.comp 0).cs.getD 0 .any).ah),((r4.comp 0).cs.getD 1 .any)]]] [] fun r5 o5=>NA r5<|.call 121 [.agg [VS a0_0,a0_1]] [] fun r6 o6=>NS r6<|.test (ae r6.ah==ae (mk [42])) (NG a0_1 2 2<|NE (a0_1.ix (2:Int))<|.call 98 [VS (mk [42]),.sl [[VS (((r3.comp 0).cs.getD 0 .any).ah),((r3.comp 0).cs.getD 1 .any)],[VS (((a0_1.ix (2:Int)).getD 0 .any).ah),((a0_1.ix (2:Int)).getD 1 .any)]]] [] fun r7 o7=>NA r7<|NG a0_1 1 2<|NE (a0_1.ix (1:Int))<|.call 98 [VS (mk [42]),.sl [[VS (((a0_1.ix (1:Int)).getD 0 .any).ah),((a0_1.ix (1:Int)).getD 1 .any)],[VS (((r4.comp 0).cs.getD 0 .any).ah),((r4.comp 0).cs.getD 1 .any)]]] [] fun r8 o8=>NA r8<|.call 98 [VS (mk [43]),.sl [[VS ((r7.cs.getD 0 .any).ah),(r7.cs.getD 1 .any)],[VS ((r8.cs.getD 0 .any).ah),(r8.cs.getD 1 .any)]]] [] fun r9 o9=>NA r9<|.test ((r3.comp 1).toBool) (.test ((r4.comp 1).toBool) (.call 140 [.agg [VS ((r9.cs.getD 0 .any).ah),(r9.cs.getD 1 .any)]] [] fun r10 o10=>NI r10<|.done 0 [.cD [.agg [VS ((r9.cs.getD 0 .any).ah),(r9.cs.getD 1 .any)],VB (decide (r10.toInt<=(400:Int)))]] []) (.done 0 [.cD [.agg [VS ((r9.cs.getD 0 .any).ah),(r9.cs.getD 1 .any)],VB false]] [])) (.done 0 [.cD [.agg [VS ((r9.cs.getD 0 .any).ah),(r9.cs.getD 1 .any)],VB false]] [])) (.test ((r3.comp 1).toBool) (.test ((r4.comp 1).toBool) (.call 140 [.agg [VS ((r5.cs.getD 0 .any).ah),(r5.cs.getD 1 .any)]] [] fun r11 o11=>NI r11<|.done 0 [.cD [.agg [VS ((r5.cs.getD 0 .any).ah),(r5.cs.getD 1 .any)],VB (decide (r11.toInt<=(400:Int)))]] []) (.done 0 [.cD [.agg [VS ((r5.cs.getD 0 .any).ah),(r5.cs.getD 1 .any)],VB false]] [])) (.done 0 [.cD [.agg [VS ((r5.cs.getD 0 .any).ah),(r5.cs.getD 1 .any)],VB false]] []))))
theorem Dx(a0_0:ByteArray)(a0_1:AV)(a1:ByteArray)(ha0_1:LK.has .sl a0_1)(h:di 79 (AJ a0_0 a0_1 a1) R):an Tryz.prog 166 [.agg [VS a0_0,a0_1],VS a1] [] R :=
 uQ (ag (cf (ag (aw _) (ag (bU ha0_1) aC))) (ag (aw _) aC)) (oQ [] Tryz.f166 h)
def J2(a0_0:ByteArray)(a0_1:AV)(a1:ByteArray)(a2_0:ByteArray)(a2_1:AV):Tree :=
 .call 171 [.agg [VS a0_0,a0_1],VS a1,.agg [VS a2_0,a2_1]] [] fun r1 o1=>NB r1<|.test (!r1.toBool) (.done 0 [.cD [.agg [VS a0_0,a0_1],VB false]] []) (.call 172 [.agg [VS a0_0,a0_1],VS a1,.agg [VS a2_0,a2_1]] [] fun r2 o2=>NA r2<|.done 0 [.cD [.agg [VS ((r2.cs.getD 0 .any).ah),(r2.cs.getD 1 .any)],VB true]] [])
theorem Pk(a0_0:ByteArray)(a0_1:AV)(a1:ByteArray)(a2_0:ByteArray)(a2_1:AV)(ha0_1:LK.has .sl a0_1)(ha2_1:LK.has .sl a2_1)(h:di 18 (J2 a0_0 a0_1 a1 a2_0 a2_1) R):an Tryz.prog 167 [.agg [VS a0_0,a0_1],VS a1,.agg [VS a2_0,a2_1]] [] R :=
 uQ (ag (cf (ag (aw _) (ag (bU ha0_1) aC))) (ag (aw _) (ag (cf (ag (aw _) (ag (bU ha2_1) aC))) aC))) (oQ [] Tryz.f167 h)
def Mk(a0:ByteArray):Tree :=
 .call 132 [VS a0] [] fun r1 o1=>NT r1<|.ai ((r1.comp 0)=.agg (r1.comp 0).cs/\(r1.comp 0).cs.length=2/\bF [.str,.sl] ((r1.comp 0).cs) 0)<|NB (r1.comp 1)<|.done 0 [VB ((r1.comp 1).toBool)] []
theorem Qg(a0:ByteArray)(h:di 11 (Mk a0) R):an Tryz.prog 168 [VS a0] [] R :=
 uQ (ag (aw _) aC) (oQ [] Tryz.f168 h)
def H4:LI:={hd:={bV:=[(0,.k .sl),(1,.k .str),(5,.k (.int .i64))]},xs:={},rt:={bV:=[(4,.k .bool)]},ex:=0}
def Od:Code:=cF (cC Tryz.f169) 2
def Nr:List (Nat×LI):=[(2,H4)]
def Mp(a0:AV)(a1:ByteArray):Tree :=
 .loop Od H4 [a0,VS a1,VI 0] [] (fun y1 q1=>.done 0 [VB false] []) (fun y1 q1=>NB (y1.hA)<|.done 0 [VB ((y1.hA).toBool)] [])
theorem RP(a0:AV)(a1:ByteArray)(ha0:LK.has .sl a0)(h:di 18 (Mp a0 a1) R):an Tryz.prog 169 [a0,VS a1] [] R :=
 uQ (ag (bU ha0) (ag (aw _) aC)) (oQ Nr Tryz.f169 h)
def Fv(x0:AV)(x1:ByteArray)(x5:Int):Tree :=
 NL x0<|NS (VS x1)<|NI (VI x5)<|NL x0<|.test (decide (x5<(x0.aP.length:Int))) (NG x0 x5 1<|lB (x0.ix x5)<|.test (ae (((x0.ix x5).hA).ah)==ae x1) (.done 2 [VB true] []) (.done 0 [x0,VS x1,VI (IntKind.wrap .i64 (x5+1))] [])) (.done 1 [] [])
abbrev Ia:=cB Tryz.prog 18 Od H4
theorem MA(x0:AV)(x1:ByteArray)(x5:Int)(h:ka 18 (Fv x0 x1 x5) Ia U):Ia [x0,VS x1,VI x5] [] U :=
 gQ Nr h
def Gb:LI:={hd:={bV:=[(0,.k .str),(7,.k (.int .i64))]},xs:={},rt:={bV:=[(6,.k .bool)]},ex:=0}
def KK:Code:=cF (cC Tryz.f170) 4
def K1:List (Nat×LI):=[(4,Gb)]
def J5(a0:ByteArray)(a1:Int)(a2:Int):Tree :=
 .call 56 [VI (af a0:Int),VI 1,VI 3] [] fun r1 o1=>NB r1<|.test (!r1.toBool) (.done 0 [VB false] []) (.ai (0<=(0:Int)/\(0:Int)<af a0)<|.test (decide ((bt a0 0)<a1)) (.done 0 [VB false] []) (.ai (0<=(0:Int)/\(0:Int)<af a0)<|.test (decide ((bt a0 0)>a2)) (.done 0 [VB false] []) (.loop KK Gb [VS a0,VI 1] [] (fun y2 q2=>.done 0 [VB true] []) (fun y2 q2=>NB (y2.hA)<|.done 0 [VB ((y2.hA).toBool)] []))))
theorem Q2(a0:ByteArray)(a1:Int)(a2:Int)(h:di 40 (J5 a0 a1 a2) R):an Tryz.prog 170 [VS a0,.v (.int .u8 a1),.v (.int .u8 a2)] [] R :=
 uQ (ag (aw _) (ag (aw _) (ag (aw _) aC))) (oQ K1 Tryz.f170 h)
def Gm(x0:ByteArray)(x7:Int):Tree :=
 NS (VS x0)<|NI (VI x7)<|.test (decide (x7<(af x0:Int))) (.ai (0<=x7/\x7<af x0)<|.test (decide ((bt x0 x7)<(48:Int))) (.done 2 [VB false] []) (.ai (0<=x7/\x7<af x0)<|.test (decide ((bt x0 x7)>(57:Int))) (.done 2 [VB false] []) (.done 0 [VS x0,VI (IntKind.wrap .i64 (x7+1))] []))) (.done 1 [] [])
abbrev HA:=cB Tryz.prog 40 KK Gb
theorem Lv(x0:ByteArray)(x7:Int)(h:ka 40 (Gm x0 x7) HA U):HA [VS x0,VI x7] [] U :=
 gQ K1 h
def Mi(a0_0:ByteArray)(a0_1:AV)(a1:ByteArray)(a2_0:ByteArray)(a2_1:AV):Tree :=
 .call 140 [.agg [VS a0_0,a0_1]] [] fun r1 o1=>NI r1<|.call 191 [.agg [VS a0_0,a0_1],VS a1] [] fun r2 o2=>NI r2<|.call 140 [.agg [VS a2_0,a2_1]] [] fun r3 o3=>NI r3<|.done 0 [VB (decide ((IntKind.wrap .i64 (r1.toInt+(IntKind.wrap .i64 (r2.toInt*(IntKind.wrap .i64 (r3.toInt-1))))))<=(400:Int)))] []
theorem Sw(a0_0:ByteArray)(a0_1:AV)(a1:ByteArray)(a2_0:ByteArray)(a2_1:AV)(ha0_1:LK.has .sl a0_1)(ha2_1:LK.has .sl a2_1)(h:di 18 (Mi a0_0 a0_1 a1 a2_0 a2_1) R):an Tryz.prog 171 [.agg [VS a0_0,a0_1],VS a1,.agg [VS a2_0,a2_1]] [] R :=
 uQ (ag (cf (ag (aw _) (ag (bU ha0_1) aC))) (ag (aw _) (ag (cf (ag (aw _) (ag (bU ha2_1) aC))) aC))) (oQ [] Tryz.f171 h)
def Jh(a0_0:ByteArray)(a0_1:AV)(a1:ByteArray)(a2_0:ByteArray)(a2_1:AV):Tree :=
 .call 106 [.agg [VS a0_0,a0_1],.sl [[VS a2_0,a2_1],[VS a1,.v (.slice none 0 0)]]] [] fun r1 o1=>NA r1<|.call 192 [.agg [VS ((r1.cs.getD 0 .any).ah),(r1.cs.getD 1 .any)],VS a1,.agg [VS a2_0,a2_1]] [] fun r2 o2=>NA r2<|.done 0 [.agg [VS ((r2.cs.getD 0 .any).ah),(r2.cs.getD 1 .any)]] []
theorem Q4(a0_0:ByteArray)(a0_1:AV)(a1:ByteArray)(a2_0:ByteArray)(a2_1:AV)(ha0_1:LK.has .sl a0_1)(ha2_1:LK.has .sl a2_1)(h:di 16 (Jh a0_0 a0_1 a1 a2_0 a2_1) R):an Tryz.prog 172 [.agg [VS a0_0,a0_1],VS a1,.agg [VS a2_0,a2_1]] [] R :=
 uQ (ag (cf (ag (aw _) (ag (bU ha0_1) aC))) (ag (aw _) (ag (cf (ag (aw _) (ag (bU ha2_1) aC))) aC))) (oQ [] Tryz.f172 h)
def NJ(a0:ByteArray):Tree :=
 .call 182 [VS a0,VS (mk [120,121,122])] [] fun r1 o1=>NB r1<|.done 0 [VB r1.toBool] []
theorem R5(a0:ByteArray)(h:di 5 (NJ a0) R):an Tryz.prog 173 [VS a0] [] R :=
 uQ (ag (aw _) aC) (oQ [] Tryz.f173 h)
def JH(a0:Int)(a1:AV)(a2:AV):Tree :=
 .done 0 [.ptr [.v (.int .u8 a0),VS (mk []),VI 0,a1,a2]] []
theorem QV(a0:Int)(a1:AV)(a2:AV)(ha1:LK.has .ptr a1)(ha2:LK.has .ptr a2)(h:di 12 (JH a0 a1 a2) R):an Tryz.prog 175 [.v (.int .u8 a0),a1,a2] [] R :=
 uQ (ag (aw _) (ag (bB ha1) (ag (bB ha2) aC))) (oQ [] Tryz.f175 h)
end
end Go.Proofs.Trees
