/-
  Part of a proof: Go functions read by values, trees of functions, their contracts.
-/
import Derived.Test.YthcjhageibaepaaGreatDoorP3
import Derived.Shelf.Lays
import Derived.Shelf.LaysM
import Derived.Shelf.Strconv.Itoa3
import Derived.Shelf.Strconv.Atoi
import Derived.Shelf.Strings.SlTrimAscii
import Derived.Shelf.Strings.Search3
import Derived.Test.YthcjhageibaepaaGreatDoorProg
set_option linter.unusedVariables false
set_option linter.unusedSimpArgs false
open And renaming intro→aH
open ByteArray renaming extract→cn,size→ag,toList→af
open Int renaming tmod→dF,toNat→bL
namespace Go.Proofs
open Go.Shelf
def Tryz.wA:Go.Shelf.Ren:=⟨fun|160=>169|232=>178|231=>177|227=>179|234=>181|233=>180|236=>183|235=>182|228=>192|271=>195|151=>194|197=>193|120=>206|152=>205|260=>204|137=>213|119=>214|224=>209|225=>208|217=>207|266=>215|n=>n,fun|9=>9|4=>4|3=>3|5=>5|117=>214|116=>213|0=>0|124=>217|21=>21|105=>232|46=>221|119=>249|139=>252|138=>251|n=>n,fun|3=>4|4=>5|n=>n⟩
theorem Tryz.DF:Go.Proofs.Lays.n160 Tryz.prog Tryz.wA:={
 mixed:=by kernel_rfl,
 f119:=Tryz.func214.trans (congrArg some (by kernel_rfl)),
 f120:=Tryz.func206.trans (congrArg some (by kernel_rfl)),
 f137:=Tryz.func213.trans (congrArg some (by kernel_rfl)),
 f151:=Tryz.func194.trans (congrArg some (by kernel_rfl)),
 f152:=Tryz.func205.trans (congrArg some (by kernel_rfl)),
 f160:=Tryz.func169.trans (congrArg some (by kernel_rfl)),
 f197:=Tryz.func193.trans (congrArg some (by kernel_rfl)),
 f217:=Tryz.func207.trans (congrArg some (by kernel_rfl)),
 f224:=Tryz.func209.trans (congrArg some (by kernel_rfl)),
 f225:=Tryz.func208.trans (congrArg some (by kernel_rfl)),
 f227:=Tryz.func179.trans (congrArg some (by kernel_rfl)),
 f228:=Tryz.func192.trans (congrArg some (by kernel_rfl)),
 f231:=Tryz.func177.trans (congrArg some (by kernel_rfl)),
 f232:=Tryz.func178.trans (congrArg some (by kernel_rfl)),
 f233:=Tryz.func180.trans (congrArg some (by kernel_rfl)),
 f234:=Tryz.func181.trans (congrArg some (by kernel_rfl)),
 f235:=Tryz.func182.trans (congrArg some (by kernel_rfl)),
 f236:=Tryz.func183.trans (congrArg some (by kernel_rfl)),
 f260:=Tryz.func204.trans (congrArg some (by kernel_rfl)),
 f266:=Tryz.func215.trans (congrArg some (by kernel_rfl)),
 f271:=Tryz.func195.trans (congrArg some (by kernel_rfl)),
 t0:=Tryz.underlying0,
 a0:=Tryz.isAgg0,
 z0:=Tryz.sizeOf0,
 v0:=Tryz.zeroValue0,
 t3:=Tryz.underlying3,
 a3:=Tryz.isAgg3,
 z3:=Tryz.sizeOf3,
 v3:=Tryz.zeroValue3,
 t4:=Tryz.underlying4,
 a4:=Tryz.isAgg4,
 z4:=Tryz.sizeOf4,
 v4:=Tryz.zeroValue4,
 t5:=Tryz.underlying5,
 a5:=Tryz.isAgg5,
 z5:=Tryz.sizeOf5,
 v5:=Tryz.zeroValue5,
 t9:=Tryz.underlying9,
 a9:=Tryz.isAgg9,
 z9:=Tryz.sizeOf9,
 v9:=Tryz.zeroValue9,
 t21:=Tryz.underlying21,
 a21:=Tryz.isAgg21,
 z21:=Tryz.sizeOf21,
 v21:=Tryz.zeroValue21,
 t46:=Tryz.underlying221,
 a46:=Tryz.isAgg221,
 z46:=Tryz.sizeOf221,
 v46:=Tryz.zeroValue221,
 t105:=Tryz.underlying232,
 a105:=Tryz.isAgg232,
 z105:=Tryz.sizeOf232,
 v105:=Tryz.zeroValue232,
 t116:=Tryz.underlying213,
 a116:=Tryz.isAgg213,
 z116:=Tryz.sizeOf213,
 t117:=Tryz.underlying214,
 a117:=Tryz.isAgg214,
 z117:=Tryz.sizeOf214,
 v117:=Tryz.zeroValue214,
 t119:=Tryz.underlying249,
 a119:=Tryz.isAgg249,
 z119:=Tryz.sizeOf249,
 t124:=Tryz.underlying217,
 a124:=Tryz.isAgg217,
 z124:=Tryz.sizeOf217,
 v124:=Tryz.zeroValue217,
 t138:=Tryz.underlying251,
 a138:=Tryz.isAgg251,
 z138:=Tryz.sizeOf251,
 v138:=Tryz.zeroValue251,
 t139:=Tryz.underlying252,
 a139:=Tryz.isAgg252,
 z139:=Tryz.sizeOf252,
 v139:=Tryz.zeroValue252,
 g3:=by kernel_rfl,
 g4:=by kernel_rfl}
def Tryz.vJ:Go.Shelf.Ren:=⟨fun|144=>175|143=>187|219=>198|217=>207|225=>208|224=>209|267=>210|266=>215|314=>216|n=>n,fun|9=>9|4=>4|3=>3|5=>5|46=>221|146=>254|51=>242|n=>n,fun|1=>3|n=>n⟩
theorem Tryz.D1:Go.Proofs.Lays.n144 Tryz.prog Tryz.vJ:={
 mixed:=by kernel_rfl,
 f143:=Tryz.func187.trans (congrArg some (by kernel_rfl)),
 f144:=Tryz.func175.trans (congrArg some (by kernel_rfl)),
 f217:=Tryz.func207.trans (congrArg some (by kernel_rfl)),
 f219:=Tryz.func198.trans (congrArg some (by kernel_rfl)),
 f224:=Tryz.func209.trans (congrArg some (by kernel_rfl)),
 f225:=Tryz.func208.trans (congrArg some (by kernel_rfl)),
 f266:=Tryz.func215.trans (congrArg some (by kernel_rfl)),
 f267:=Tryz.func210.trans (congrArg some (by kernel_rfl)),
 f314:=Tryz.func216.trans (congrArg some (by kernel_rfl)),
 t3:=Tryz.underlying3,
 a3:=Tryz.isAgg3,
 z3:=Tryz.sizeOf3,
 v3:=Tryz.zeroValue3,
 t4:=Tryz.underlying4,
 a4:=Tryz.isAgg4,
 z4:=Tryz.sizeOf4,
 v4:=Tryz.zeroValue4,
 t5:=Tryz.underlying5,
 a5:=Tryz.isAgg5,
 z5:=Tryz.sizeOf5,
 v5:=Tryz.zeroValue5,
 t9:=Tryz.underlying9,
 a9:=Tryz.isAgg9,
 z9:=Tryz.sizeOf9,
 v9:=Tryz.zeroValue9,
 t46:=Tryz.underlying221,
 a46:=Tryz.isAgg221,
 z46:=Tryz.sizeOf221,
 v46:=Tryz.zeroValue221,
 t51:=Tryz.underlying242,
 a51:=Tryz.isAgg242,
 z51:=Tryz.sizeOf242,
 v51:=Tryz.zeroValue242,
 t146:=Tryz.underlying254,
 a146:=Tryz.isAgg254,
 z146:=Tryz.sizeOf254,
 v146:=Tryz.zeroValue254,
 g1:=by kernel_rfl}
def Tryz.vU:Go.Shelf.Ren:=⟨fun|172=>140|244=>159|245=>160|247=>170|279=>171|280=>172|281=>173|282=>174|287=>184|316=>185|171=>152|205=>186|321=>196|322=>197|243=>164|246=>176|283=>188|284=>189|285=>190|286=>191|129=>200|317=>199|318=>201|319=>202|320=>203|337=>211|338=>212|n=>n,fun|9=>9|3=>3|75=>176|76=>177|4=>4|5=>5|167=>204|37=>22|0=>0|85=>205|2=>2|168=>207|53=>218|175=>219|46=>221|210=>224|127=>236|145=>239|143=>237|21=>21|171=>227|173=>230|212=>241|51=>242|20=>20|213=>243|232=>256|233=>257|80=>65|n=>n,fun|15=>0|16=>1|17=>2|18=>6|19=>7|n=>n⟩
theorem Tryz.Dn:Go.Proofs.Lays.n172 Tryz.prog Tryz.vU:={
 mixed:=by kernel_rfl,
 f129:=Tryz.func200.trans (congrArg some (by kernel_rfl)),
 f171:=Tryz.func152.trans (congrArg some (by kernel_rfl)),
 f172:=Tryz.func140.trans (congrArg some (by kernel_rfl)),
 f205:=Tryz.func186.trans (congrArg some (by kernel_rfl)),
 f243:=Tryz.func164.trans (congrArg some (by kernel_rfl)),
 f244:=Tryz.func159.trans (congrArg some (by kernel_rfl)),
 f245:=Tryz.func160.trans (congrArg some (by kernel_rfl)),
 f246:=Tryz.func176.trans (congrArg some (by kernel_rfl)),
 f247:=Tryz.func170.trans (congrArg some (by kernel_rfl)),
 f279:=Tryz.func171.trans (congrArg some (by kernel_rfl)),
 f280:=Tryz.func172.trans (congrArg some (by kernel_rfl)),
 f281:=Tryz.func173.trans (congrArg some (by kernel_rfl)),
 f282:=Tryz.func174.trans (congrArg some (by kernel_rfl)),
 f283:=Tryz.func188.trans (congrArg some (by kernel_rfl)),
 f284:=Tryz.func189.trans (congrArg some (by kernel_rfl)),
 f285:=Tryz.func190.trans (congrArg some (by kernel_rfl)),
 f286:=Tryz.func191.trans (congrArg some (by kernel_rfl)),
 f287:=Tryz.func184.trans (congrArg some (by kernel_rfl)),
 f316:=Tryz.func185.trans (congrArg some (by kernel_rfl)),
 f317:=Tryz.func199.trans (congrArg some (by kernel_rfl)),
 f318:=Tryz.func201.trans (congrArg some (by kernel_rfl)),
 f319:=Tryz.func202.trans (congrArg some (by kernel_rfl)),
 f320:=Tryz.func203.trans (congrArg some (by kernel_rfl)),
 f321:=Tryz.func196.trans (congrArg some (by kernel_rfl)),
 f322:=Tryz.func197.trans (congrArg some (by kernel_rfl)),
 f337:=Tryz.func211.trans (congrArg some (by kernel_rfl)),
 f338:=Tryz.func212.trans (congrArg some (by kernel_rfl)),
 t0:=Tryz.underlying0,
 a0:=Tryz.isAgg0,
 z0:=Tryz.sizeOf0,
 v0:=Tryz.zeroValue0,
 t2:=Tryz.underlying2,
 a2:=Tryz.isAgg2,
 z2:=Tryz.sizeOf2,
 v2:=Tryz.zeroValue2,
 t3:=Tryz.underlying3,
 a3:=Tryz.isAgg3,
 z3:=Tryz.sizeOf3,
 v3:=Tryz.zeroValue3,
 t4:=Tryz.underlying4,
 a4:=Tryz.isAgg4,
 z4:=Tryz.sizeOf4,
 v4:=Tryz.zeroValue4,
 t5:=Tryz.underlying5,
 a5:=Tryz.isAgg5,
 z5:=Tryz.sizeOf5,
 v5:=Tryz.zeroValue5,
 t9:=Tryz.underlying9,
 a9:=Tryz.isAgg9,
 z9:=Tryz.sizeOf9,
 v9:=Tryz.zeroValue9,
 t20:=Tryz.underlying20,
 a20:=Tryz.isAgg20,
 z20:=Tryz.sizeOf20,
 v20:=Tryz.zeroValue20,
 t21:=Tryz.underlying21,
 a21:=Tryz.isAgg21,
 z21:=Tryz.sizeOf21,
 v21:=Tryz.zeroValue21,
 t37:=Tryz.underlying22,
 a37:=Tryz.isAgg22,
 z37:=Tryz.sizeOf22,
 v37:=Tryz.zeroValue22,
 t46:=Tryz.underlying221,
 a46:=Tryz.isAgg221,
 z46:=Tryz.sizeOf221,
 v46:=Tryz.zeroValue221,
 t51:=Tryz.underlying242,
 a51:=Tryz.isAgg242,
 z51:=Tryz.sizeOf242,
 v51:=Tryz.zeroValue242,
 t53:=Tryz.underlying218,
 a53:=Tryz.isAgg218,
 z53:=Tryz.sizeOf218,
 v53:=Tryz.zeroValue218,
 t75:=Tryz.underlying176,
 a75:=Tryz.isAgg176,
 z75:=Tryz.sizeOf176,
 v75:=Tryz.zeroValue176,
 t76:=Tryz.underlying177,
 a76:=Tryz.isAgg177,
 z76:=Tryz.sizeOf177,
 v76:=Tryz.zeroValue177,
 t85:=Tryz.underlying205,
 a85:=Tryz.isAgg205,
 z85:=Tryz.sizeOf205,
 v85:=Tryz.zeroValue205,
 t127:=Tryz.underlying236,
 a127:=Tryz.isAgg236,
 z127:=Tryz.sizeOf236,
 v127:=Tryz.zeroValue236,
 t143:=Tryz.underlying237,
 a143:=Tryz.isAgg237,
 z143:=Tryz.sizeOf237,
 v143:=Tryz.zeroValue237,
 t145:=Tryz.underlying239,
 a145:=Tryz.isAgg239,
 z145:=Tryz.sizeOf239,
 v145:=Tryz.zeroValue239,
 t167:=Tryz.underlying204,
 a167:=Tryz.isAgg204,
 z167:=Tryz.sizeOf204,
 v167:=Tryz.zeroValue204,
 t168:=Tryz.underlying207,
 a168:=Tryz.isAgg207,
 z168:=Tryz.sizeOf207,
 v168:=Tryz.zeroValue207,
 t171:=Tryz.underlying227,
 a171:=Tryz.isAgg227,
 z171:=Tryz.sizeOf227,
 v171:=Tryz.zeroValue227,
 t173:=Tryz.underlying230,
 a173:=Tryz.isAgg230,
 z173:=Tryz.sizeOf230,
 v173:=Tryz.zeroValue230,
 t175:=Tryz.underlying219,
 a175:=Tryz.isAgg219,
 z175:=Tryz.sizeOf219,
 v175:=Tryz.zeroValue219,
 t210:=Tryz.underlying224,
 a210:=Tryz.isAgg224,
 z210:=Tryz.sizeOf224,
 v210:=Tryz.zeroValue224,
 t212:=Tryz.underlying241,
 a212:=Tryz.isAgg241,
 z212:=Tryz.sizeOf241,
 v212:=Tryz.zeroValue241,
 t213:=Tryz.underlying243,
 a213:=Tryz.isAgg243,
 z213:=Tryz.sizeOf243,
 t232:=Tryz.underlying256,
 a232:=Tryz.isAgg256,
 z232:=Tryz.sizeOf256,
 v232:=Tryz.zeroValue256,
 t233:=Tryz.underlying257,
 a233:=Tryz.isAgg257,
 z233:=Tryz.sizeOf257,
 v233:=Tryz.zeroValue257,
 g15:=by kernel_rfl,
 g16:=by kernel_rfl,
 g17:=by kernel_rfl,
 g18:=by kernel_rfl,
 g19:=by kernel_rfl}
def Tryz.uc:Go.Shelf.Ren:=⟨fun|171=>152|243=>164|246=>176|283=>188|284=>189|285=>190|286=>191|129=>200|317=>199|318=>201|319=>202|320=>203|337=>211|338=>212|n=>n,fun|3=>3|9=>9|2=>2|4=>4|171=>227|0=>0|53=>218|37=>22|5=>5|173=>230|212=>241|51=>242|20=>20|213=>243|46=>221|232=>256|233=>257|n=>n,fun|17=>2|18=>6|19=>7|n=>n⟩
theorem Tryz.BK:Go.Proofs.LaysM.n171 Tryz.prog Tryz.uc:={
 mixed:=by kernel_rfl,
 f129:=Tryz.func200.trans (congrArg some (by kernel_rfl)),
 f171:=Tryz.func152.trans (congrArg some (by kernel_rfl)),
 f243:=Tryz.func164.trans (congrArg some (by kernel_rfl)),
 f246:=Tryz.func176.trans (congrArg some (by kernel_rfl)),
 f283:=Tryz.func188.trans (congrArg some (by kernel_rfl)),
 f284:=Tryz.func189.trans (congrArg some (by kernel_rfl)),
 f285:=Tryz.func190.trans (congrArg some (by kernel_rfl)),
 f286:=Tryz.func191.trans (congrArg some (by kernel_rfl)),
 f317:=Tryz.func199.trans (congrArg some (by kernel_rfl)),
 f318:=Tryz.func201.trans (congrArg some (by kernel_rfl)),
 f319:=Tryz.func202.trans (congrArg some (by kernel_rfl)),
 f320:=Tryz.func203.trans (congrArg some (by kernel_rfl)),
 f337:=Tryz.func211.trans (congrArg some (by kernel_rfl)),
 f338:=Tryz.func212.trans (congrArg some (by kernel_rfl)),
 t0:=Tryz.underlying0,
 a0:=Tryz.isAgg0,
 z0:=Tryz.sizeOf0,
 v0:=Tryz.zeroValue0,
 t2:=Tryz.underlying2,
 a2:=Tryz.isAgg2,
 z2:=Tryz.sizeOf2,
 v2:=Tryz.zeroValue2,
 t3:=Tryz.underlying3,
 a3:=Tryz.isAgg3,
 z3:=Tryz.sizeOf3,
 v3:=Tryz.zeroValue3,
 t4:=Tryz.underlying4,
 a4:=Tryz.isAgg4,
 z4:=Tryz.sizeOf4,
 v4:=Tryz.zeroValue4,
 t5:=Tryz.underlying5,
 a5:=Tryz.isAgg5,
 z5:=Tryz.sizeOf5,
 v5:=Tryz.zeroValue5,
 t9:=Tryz.underlying9,
 a9:=Tryz.isAgg9,
 z9:=Tryz.sizeOf9,
 v9:=Tryz.zeroValue9,
 t20:=Tryz.underlying20,
 a20:=Tryz.isAgg20,
 z20:=Tryz.sizeOf20,
 v20:=Tryz.zeroValue20,
 t37:=Tryz.underlying22,
 a37:=Tryz.isAgg22,
 z37:=Tryz.sizeOf22,
 v37:=Tryz.zeroValue22,
 t46:=Tryz.underlying221,
 a46:=Tryz.isAgg221,
 z46:=Tryz.sizeOf221,
 v46:=Tryz.zeroValue221,
 t51:=Tryz.underlying242,
 a51:=Tryz.isAgg242,
 z51:=Tryz.sizeOf242,
 v51:=Tryz.zeroValue242,
 t53:=Tryz.underlying218,
 a53:=Tryz.isAgg218,
 z53:=Tryz.sizeOf218,
 v53:=Tryz.zeroValue218,
 t171:=Tryz.underlying227,
 a171:=Tryz.isAgg227,
 z171:=Tryz.sizeOf227,
 v171:=Tryz.zeroValue227,
 t173:=Tryz.underlying230,
 a173:=Tryz.isAgg230,
 z173:=Tryz.sizeOf230,
 v173:=Tryz.zeroValue230,
 t212:=Tryz.underlying241,
 a212:=Tryz.isAgg241,
 z212:=Tryz.sizeOf241,
 v212:=Tryz.zeroValue241,
 t213:=Tryz.underlying243,
 a213:=Tryz.isAgg243,
 z213:=Tryz.sizeOf243,
 t232:=Tryz.underlying256,
 a232:=Tryz.isAgg256,
 z232:=Tryz.sizeOf256,
 v232:=Tryz.zeroValue256,
 t233:=Tryz.underlying257,
 a233:=Tryz.isAgg257,
 z233:=Tryz.sizeOf257,
 v233:=Tryz.zeroValue257,
 g17:=by kernel_rfl,
 g18:=by kernel_rfl,
 g19:=by kernel_rfl,
 i0:=by kernel_rfl,
 i2:=by kernel_rfl,
 i3:=by kernel_rfl,
 i4:=by kernel_rfl,
 i5:=by kernel_rfl,
 i9:=by kernel_rfl,
 i20:=by kernel_rfl,
 i37:=by kernel_rfl,
 i46:=by kernel_rfl,
 i51:=by kernel_rfl,
 i53:=by kernel_rfl,
 i171:=by kernel_rfl,
 i173:=by kernel_rfl,
 i212:=by kernel_rfl,
 i232:=by kernel_rfl,
 i233:=by kernel_rfl,
 m17:=by kernel_rfl,
 m18:=by kernel_rfl,
 m19:=by kernel_rfl}
end Go.Proofs
namespace Go.Proofs.Trees
open Go Go.VL
noncomputable section
def Kj:List (Nat×TI):=[
 (0,⟨false,[],false,0,.tuple [],false⟩),
 (2,⟨true,[.int .i64],false,8,.num .i64,false⟩),
 (3,⟨true,[.int .i64],false,8,.num .i64,false⟩),
 (4,⟨true,[.bool],false,1,.bl,false⟩),
 (5,⟨true,[.int .u8],false,1,.num .u8,false⟩),
 (9,⟨true,[.str],false,16,.str,false⟩),
 (20,⟨true,[.kJ],false,16,.other,false⟩),
 (21,⟨true,[.int .i32],false,4,.num .i32,false⟩),
 (22,⟨true,[.sl],false,24,.slice 5,false⟩),
 (23,⟨true,[.sl],false,24,.slice 9,false⟩),
 (25,⟨true,[.str,.sl,.str],true,56,.struct [(0,9),(1,23),(2,9)],false⟩),
 (27,⟨true,[.sl],false,24,.slice 3,false⟩),
 (28,⟨false,[],false,0,.tuple [27,4],false⟩),
 (32,⟨false,[],false,0,.tuple [25,9],false⟩),
 (34,⟨false,[],false,0,.tuple [25,4],false⟩),
 (37,⟨false,[],false,0,.tuple [25,3],false⟩),
 (42,⟨false,[],false,0,.tuple [9,4],false⟩),
 (46,⟨true,[.ptr],false,8,.pt,true⟩),
 (48,⟨true,[.ptr],false,8,.pt,true⟩),
 (50,⟨true,[.ptr],false,8,.pt,true⟩),
 (51,⟨true,[.sl],false,24,.slice 52,false⟩),
 (52,⟨true,[.ptr],false,8,.pt,true⟩),
 (54,⟨true,[.str,.ptr,.sl,.ptr],true,56,.struct [(0,9),(1,50),(2,51),(3,52)],false⟩),
 (66,⟨true,[.sl],false,24,.slice 71,false⟩),
 (67,⟨false,[],false,0,.tuple [66,4],false⟩),
 (71,⟨true,[.str,.str],true,32,.struct [(0,9),(1,9)],true⟩),
 (72,⟨false,[],false,0,.tuple [9,9],false⟩),
 (76,⟨true,[.sl,.int .i64],true,32,.struct [(0,22),(1,3)],false⟩),
 (80,⟨true,[.sl],false,24,.slice 82,false⟩),
 (82,⟨true,[.ptr,.ptr],true,16,.struct [(0,52),(1,52)],false⟩),
 (84,⟨true,[.kJ],false,8,.other,false⟩),
 (86,⟨true,[.sl],false,24,.slice 88,false⟩),
 (88,⟨true,[.str,.sl],true,40,.struct [(0,9),(1,86)],false⟩),
 (89,⟨false,[],false,0,.tuple [88,4],false⟩),
 (98,⟨true,[.int .u8,.str,.ptr,.ptr],true,40,.struct [(0,5),(1,9),(2,52),(3,52)],false⟩),
 (99,⟨false,[],false,0,.tuple [50,52],false⟩),
 (103,⟨true,[.sl],false,24,.slice 142,false⟩),
 (106,⟨true,[.ptr],false,8,.pt,true⟩),
 (108,⟨true,[.ptr,.ptr],true,16,.struct [(0,50),(1,106)],false⟩),
 (109,⟨true,[.ptr],false,8,.pt,true⟩),
 (110,⟨false,[],false,0,.tuple [108,109],false⟩),
 (115,⟨true,[.str,.ptr],true,24,.struct [(0,9),(1,109)],false⟩),
 (120,⟨true,[.kJ],false,8,.other,false⟩),
 (126,⟨true,[.ptr],false,8,.pt,true⟩),
 (128,⟨true,[.sl,.int .i64],true,32,.struct [(0,23),(1,3)],false⟩),
 (131,⟨true,[.sl],false,24,.slice 185,false⟩),
 (134,⟨true,[.int .u8,.str,.int .i64,.ptr,.ptr],true,48,.struct [(0,5),(1,9),(2,3),(3,50),(4,50)],false⟩),
 (135,⟨false,[],false,0,.tuple [50,4],false⟩),
 (142,⟨true,[.str,.sl,.str,.sl],true,80,.struct [(0,88),(2,88)],false⟩),
 (145,⟨true,[.ptr,.ptr],true,16,.struct [(0,108)],false⟩),
 (147,⟨true,[.ptr,.ptr],true,16,.struct [(0,109),(1,106)],false⟩),
 (151,⟨true,[.kJ],false,8,.other,false⟩),
 (152,⟨true,[.kJ],false,8,.other,false⟩),
 (159,⟨false,[],false,0,.tuple [88,131],false⟩),
 (162,⟨true,[.ptr],false,8,.pt,true⟩),
 (165,⟨true,[.ptr],false,8,.pt,true⟩),
 (167,⟨true,[.int .i64,.bool],true,16,.struct [(0,3),(1,4)],false⟩),
 (176,⟨true,[.kJ],false,16,.other,false⟩),
 (177,⟨false,[],false,0,.tuple [3,176],false⟩),
 (180,⟨false,[],false,0,.tuple [88,3],false⟩),
 (185,⟨true,[.str,.str,.sl,.sl],true,80,.struct [(0,9),(1,88),(3,131)],false⟩),
 (186,⟨false,[],false,0,.tuple [162,9],false⟩),
 (188,⟨true,[.sl],false,24,.slice 162,false⟩),
 (190,⟨true,[.str,.sl],true,40,.struct [(0,9),(1,188)],false⟩),
 (194,⟨true,[.kJ],false,8,.other,false⟩),
 (200,⟨true,[.kJ],false,8,.other,false⟩),
 (205,⟨false,[],false,0,.tuple [2,176],false⟩),
 (207,⟨true,[.ptr],false,8,.pt,true⟩),
 (214,⟨false,[],false,0,.tuple [213,4],false⟩),
 (217,⟨true,[.ptr],false,8,.pt,true⟩),
 (218,⟨true,[.int .u64],false,8,.num .u64,false⟩),
 (219,⟨false,[],false,0,.tuple [218,176],false⟩),
 (221,⟨true,[.int .u64],false,8,.num .u64,false⟩),
 (224,⟨true,[.str,.str,.kJ],true,48,.struct [(0,9),(1,9),(2,176)],false⟩),
 (227,⟨true,[.int .u8,.int .u8,.int .u8,.int .u8,.int .u8,.int .u8,.int .u8,.int .u8,.int .u8,.int .u8,.int .u8,.int .u8,.int .u8,.int .u8,.int .u8,.int .u8,.int .u8,.int .u8,.int .u8,.int .u8,.int .u8,.int .u8,.int .u8,.int .u8],true,24,.array 24 5,false⟩),
 (230,⟨false,[],false,0,.tuple [22,9],false⟩),
 (232,⟨false,[],false,0,.tuple [21,3],false⟩),
 (236,⟨true,[.ptr],false,8,.pt,true⟩),
 (237,⟨true,[.ptr],false,8,.pt,true⟩),
 (239,⟨true,[.str],true,16,.struct [(0,9)],false⟩),
 (241,⟨true,[.int .u64,.int .u64,.int .u64,.int .u64,.int .u64,.int .u64,.int .u64,.int .u64,.int .u64,.int .u64,.int .u64,.int .u64,.int .u64,.int .u64,.int .u64,.int .u64,.int .u64,.int .u64,.int .u64,.int .u64],true,160,.array 20 218,false⟩),
 (242,⟨true,[.int .u32],false,4,.num .u32,false⟩),
 (251,⟨true,[.int .u8,.int .u8],true,2,.struct [(0,5),(1,5)],false⟩),
 (252,⟨true,[.int .u8,.int .u8,.int .u8,.int .u8,.int .u8,.int .u8,.int .u8,.int .u8,.int .u8,.int .u8,.int .u8,.int .u8,.int .u8,.int .u8,.int .u8,.int .u8,.int .u8,.int .u8,.int .u8,.int .u8,.int .u8,.int .u8,.int .u8,.int .u8,.int .u8,.int .u8,.int .u8,.int .u8,.int .u8,.int .u8,.int .u8,.int .u8],true,32,.array 16 251,false⟩),
 (254,⟨false,[],false,0,.tuple [242,242],false⟩),
 (256,⟨true,[.int .u8,.int .u8,.int .u8,.int .u8,.int .u8,.int .u8,.int .u8,.int .u8,.int .u8,.int .u8,.int .u8,.int .u8,.int .u8,.int .u8,.int .u8,.int .u8,.int .u8,.int .u8,.int .u8,.int .u8,.int .u8,.int .u8,.int .u8,.int .u8,.int .u8,.int .u8,.int .u8,.int .u8,.int .u8,.int .u8,.int .u8,.int .u8],true,32,.array 32 5,false⟩)]
def I5(t:Nat):TI:=yO Kj t
abbrev eu:Func:=Tryz.f77
abbrev qA:Func:=Tryz.f140
abbrev qC:Func:=Tryz.f152
abbrev qu:Func:=Tryz.f169
abbrev nv:Func:=Tryz.f175
def Sq:List (Nat×FC):=[(166,{mu:=[(1,.one (.obj [.vec 1]))],own:=[]}),(84,{mu:=[(2,.one (.vec))],own:=[0]}),(16700165,{mu:=[(1,.fn [some (.obj [.vec 1])])],own:=[]}),(111,{mu:=[(2,.one (.obj [.vec 2]))],own:=[]}),(11300111,{mu:=[(1,.fn [some (.obj [.lk .ptr])]),(2,.one (.obj [.vec 2]))],own:=[]}),(11400111,{mu:=[(1,.fn [some (.obj [.lk .ptr])]),(2,.one (.obj [.vec 2]))],own:=[]}),(11500111,{mu:=[(1,.fn [some (.obj [.lk .ptr])]),(2,.one (.obj [.vec 2]))],own:=[]}),(11700111,{mu:=[(1,.fn [some (.obj [.lk .ptr,.lk .ptr])]),(2,.one (.obj [.vec 2]))],own:=[]}),(112,{mu:=[(1,.one (.obj [.lk .ptr]))],own:=[]}),(113,{mu:=[(1,.one (.obj [.lk .ptr]))],own:=[]}),(114,{mu:=[(1,.one (.obj [.lk .ptr]))],own:=[]}),(116,{mu:=[(1,.one (.obj [.lk .ptr,.lk .ptr]))],own:=[]}),(155,{mu:=[(2,.sG 155 [none,some 0,some 1]),(3,.one (.obj [.lk .sl])),(4,.one (.obj [.lk (.int .i64)]))],own:=[]}),(105,{mu:=[(2,.one (.vec))],own:=[0]}),(43,{mu:=[(0,.one (.obj [.lk .sl,.lk (.int .i64)]))],own:=[]}),(91,{mu:=[(3,.one (.obj [.vec 1,.lk (.int .i64)]))],own:=[]}),(62,{mu:=[(0,.one (.obj [.lk .sl,.lk (.int .i64)]))],own:=[]}),(32,{mu:=[],own:=[0],ow:=[.sl,.int .i64]}),(132,{mu:=[(0,.one (.obj [.lk (.int .i64),.lk .bool]))],own:=[]}),(133,{mu:=[(0,.one (.obj [.lk (.int .i64),.lk .bool]))],own:=[]}),(134,{mu:=[(0,.one (.obj [.lk (.int .i64),.lk .bool]))],own:=[]}),(144,{mu:=[(0,.one (.obj [.lk .sl,.lk (.int .i64)]))],own:=[]}),(75,{mu:=[(0,.one (.obj [.lk .sl,.lk (.int .i64)]))],own:=[]}),(143,{mu:=[(0,.one (.obj [.lk .sl,.lk (.int .i64)]))],own:=[]}),(64,{mu:=[(0,.one (.obj [.lk .sl,.lk (.int .i64)]))],own:=[]}),(39,{mu:=[(0,.one (.obj [.lk .sl,.lk (.int .i64)]))],own:=[]}),(106,{mu:=[(0,.one (.obj [.lk .sl,.lk (.int .i64)]))],own:=[]}),(76,{mu:=[(0,.one (.obj [.lk .sl,.lk (.int .i64)]))],own:=[]}),(53,{mu:=[(0,.one (.obj [.lk .sl,.lk (.int .i64)]))],own:=[]}),(31,{mu:=[(0,.one (.obj [.lk .sl,.lk (.int .i64)]))],own:=[0],oa:=[.lk .str,.vec 1,.lk .str]}),(20,{mu:=[],own:=[0],oa:=[.lk .str,.vec 1,.lk .str]}),(14,{mu:=[],own:=[0],oa:=[.lk .str,.vec 1,.lk .str]}),(28,{mu:=[],own:=[0],oa:=[.lk .str,.vec 1,.lk .str]}),(18,{mu:=[],own:=[0],oa:=[.lk .str,.vec 1,.lk .str]}),(25,{mu:=[],own:=[0],oa:=[.lk .str,.vec 1,.lk .str]}),(40,{mu:=[],own:=[0],oa:=[.lk .str,.vec 1,.lk .str]}),(10,{mu:=[],own:=[0]}),(59,{mu:=[(1,.one (.obj [.lk .str]))],own:=[]}),(6000057,{mu:=[(1,.fn [some (.obj [.lk .str])])],own:=[]}),(36,{mu:=[(0,.one (.cO false [.vec 1]))],own:=[]}),(52,{mu:=[],own:=[0]}),(41,{mu:=[(0,.one (.uS [.lk .str,.vec 1,.lk .str]))],own:=[0],oa:=[.lk .str,.vec 1,.lk .str]}),(54,{mu:=[],own:=[0],oa:=[.lk .str,.vec 1,.lk .str]}),(30,{mu:=[],own:=[0],oa:=[.lk .str,.vec 1,.lk .str]}),(15,{mu:=[],own:=[0],oa:=[.lk .str,.vec 1,.lk .str]})]
def cfg(f:Nat):FC:=Bd Sq f
theorem DH:(Kj.all fun p=>!p.2.kn||p.2.nE Tryz.prog p.1)=true:=by kernel_rfl
theorem uy:dh Tryz.prog I5:=vo DH
theorem mixed:Tryz.prog.follows .mixedOrders=true:=by kernel_rfl
abbrev NZ(r:AV)(k:Tree):Tree:=.ai (LK.has .ptr r/\r.isNil=false) k
abbrev NP(r:AV)(k:Tree):Tree:=.ai (LK.has .ptr r) k
abbrev NS(r:AV)(k:Tree):Tree:=.ai (LK.has .str r) k
abbrev NB(r:AV)(k:Tree):Tree:=.ai (LK.has .bool r) k
abbrev NL(r:AV)(k:Tree):Tree:=.ai (LK.has .sl r) k
abbrev NI(r:AV)(k:Tree):Tree:=.ai (LK.has (.int .i64) r) k
abbrev dP(l:List AV)(k:Tree):Tree:=.ai (LK.has .ptr (l.headD .any)/\1<=l.length) k
abbrev kK(l:List AV)(k:Tree):Tree:=.ai (LK.has .str (l.headD .any)/\1<=l.length) k
abbrev nA(l:List AV)(k:Tree):Tree:=.ai (LK.has .sl (l.headD .any)/\1<=l.length) k
abbrev NT(r:AV)(k:Tree):Tree:=.ai (r=.cH [r.comp 0,r.comp 1]) k
abbrev NA(r:AV)(k:Tree):Tree:=.ai (r=.agg r.cs/\r.cs.length=2/\bI [.str,.sl] r.cs 0) k
abbrev NE(l:List AV)(k:Tree):Tree:=.ai (bI [.str,.sl] l 0/\2<=l.length) k
abbrev NG(r:AV)(i:Int)(z:Nat)(k:Tree):Tree:=.ai (LK.has .sl r/\0<=i/\i<r.elems.length/\(r.elems.getD i.toNat []).length=z) k
abbrev RL:Type:=Nat->List AV->List Ob->Prop
abbrev VS(x:ByteArray):AV:=.v (.string x)
abbrev VI(x:Int):AV:=.v (.int .i64 x)
abbrev VB(x:Bool):AV:=.v (.bool x)
abbrev _root_.List.hA(l:List AV):AV:=l.headD .any
abbrev _root_.List.hO(l:List Ob):Ob:=l.headD .dead
abbrev _root_.Go.VL.AV.ix(a:AV)(i:Int):List AV:=a.elems.getD i.toNat []
abbrev di(n:Nat)(t:Tree)(R:AV->List Ob->Prop):Prop:=eZ Tryz.prog n t fun _ xs obs=>R (xs.headD .any) obs
abbrev ka(n:Nat)(t:Tree)(S:List AV->List Ob->RL->Prop)(R:RL):Prop:=eZ Tryz.prog n t (E2 (fun ys o=>S ys o R) R)
theorem gQ{n:Nat}{c:Code}{li:LI}{xs:List AV}{obs:List Ob}{R:RL}{t:Tree}(lis:List (Nat×LI))(h:eZ Tryz.prog n t (E2 (fun ys o=>cA Tryz.prog n c li ys o R) R))(e:round I5 cfg n lis c li xs obs=t:=by kernel_rfl):cA Tryz.prog n c li xs obs R:=cA.Pc (cfg:=cfg) (lis:=lis) uy mixed e h
theorem Td(x:ByteArray):VS x=.v (.string x):=rfl
theorem Th(x:Int):VI x=.v (.int .i64 x):=rfl
theorem TA(x:Bool):VB x=.v (.bool x):=rfl
theorem Tl(l:List AV):l.hA=l.headD .any:=rfl
theorem To(l:List Ob):l.hO=l.headD .dead:=rfl
theorem Tn(a:AV)(i:Int):a.ix i=a.elems.getD i.toNat []:=rfl
theorem oQ{f:Nat}{asq:List AV}{ins:List Ob}{R:AV->List Ob->Prop}{t:Tree}(lis:List (Nat×LI))(F:Func)(h:eZ Tryz.prog F.ntmps t fun _ xs obs=>R (xs.headD .any) obs)(hf:Tryz.prog.funcs[f]?=some F:=by kernel_rfl)(hnm:(F.name=="runtime.NumGoroutine")=false:=by kernel_rfl)(e:main I5 cfg lis {} F asq ins=t:=by kernel_rfl):an Tryz.prog f asq ins R:=an.Pc (cfg:=cfg) (lis:=lis) (fc:={}) uy mixed hf hnm e h
theorem oF{f:Nat}{asq:List AV}{ins:List Ob}{R:AV->List Ob->Prop}{t:Tree}(lis:List (Nat×LI))(fc:FC)(F:Func)(h:eZ Tryz.prog F.ntmps t fun _ xs obs=>R (xs.headD .any) obs)(hf:Tryz.prog.funcs[f]?=some F:=by kernel_rfl)(hnm:(F.name=="runtime.NumGoroutine")=false:=by kernel_rfl)(e:main I5 cfg lis fc F asq ins=t:=by kernel_rfl):an Tryz.prog f asq ins R:=an.Pc (cfg:=cfg) (lis:=lis) (fc:=fc) uy mixed hf hnm e h
theorem uQ{P:Program}{f:Nat}{asq bs:List AV}{R:AV->List Ob->Prop}(h:xD asq bs)(hf:an P f bs [] R):an P f asq [] R:=an.mY cv (an.up h hf)
theorem Tw(r:AV)(k:Tree):NZ r k=.ai (LK.has .ptr r/\r.isNil=false) k:=rfl
theorem TC(r:AV)(k:Tree):NP r k=.ai (LK.has .ptr r) k:=rfl
theorem TE(r:AV)(k:Tree):NS r k=.ai (LK.has .str r) k:=rfl
theorem Ts(r:AV)(k:Tree):NB r k=.ai (LK.has .bool r) k:=rfl
theorem Tk(r:AV)(k:Tree):NL r k=.ai (LK.has .sl r) k:=rfl
theorem Tm(r:AV)(k:Tree):NI r k=.ai (LK.has (.int .i64) r) k:=rfl
theorem Py(l:List AV)(k:Tree):dP l k=.ai (LK.has .ptr (l.headD .any)/\1<=l.length) k:=rfl
theorem RX(l:List AV)(k:Tree):kK l k=.ai (LK.has .str (l.headD .any)/\1<=l.length) k:=rfl
theorem PV(l:List AV)(k:Tree):nA l k=.ai (LK.has .sl (l.headD .any)/\1<=l.length) k:=rfl
theorem Tf(r:AV)(k:Tree):NT r k=.ai (r=.cH [r.comp 0,r.comp 1]) k:=rfl
theorem Tp(r:AV)(k:Tree):NA r k=.ai (r=.agg r.cs/\r.cs.length=2/\bI [.str,.sl] r.cs 0) k:=rfl
theorem Tt(l:List AV)(k:Tree):NE l k=.ai (bI [.str,.sl] l 0/\2<=l.length) k:=rfl
theorem Tq(r:AV)(i:Int)(z:Nat)(k:Tree):NG r i z k=.ai (LK.has .sl r/\0<=i/\i<r.elems.length/\(r.elems.getD i.toNat []).length=z) k:=rfl
set_option linter.defProp false in
def zq:=aH @Tw (aH @TC (aH @TE (aH @Ts (aH @Tk (aH @Tm (aH @Py (aH @RX (aH @PV (aH @Tf (aH @Tp (aH @Tt (aH @Tq (aH @Td (aH @Th (aH @TA (aH @Tl (aH @To (aH @Tn @zp))))))))))))))))))
variable {R:AV->List Ob->Prop} {U:RL}
def M9(a0:AV):Tree :=
 NL a0<|.test (decide ((a0.elems.length:Int)>(1048576:Int))) (.done 0 [VB true] []) (.call 21 [a0] [] fun r1 o1=>.ai (r1=.agg r1.cs/\r1.cs.length=3/\bI [.str,.sl,.str] r1.cs 0)<|.call 22 [.agg [VS ((r1.cs.getD 0 .any).toStr),(r1.cs.getD 1 .any),VS ((r1.cs.getD 2 .any).toStr)]] [] fun r2 o2=>NB r2<|.call 23 [.agg [VS ((r1.cs.getD 0 .any).toStr),(r1.cs.getD 1 .any),VS ((r1.cs.getD 2 .any).toStr)]] [] fun r3 o3=>NB r3<|.test (!(r2.toBool==r3.toBool)) (.done 0 [VB (r2.toBool==r3.toBool)] []) (.test (!r2.toBool) (.done 0 [VB (r2.toBool==r3.toBool)] []) (.call 24 [.agg [VS ((r1.cs.getD 0 .any).toStr),(r1.cs.getD 1 .any),VS ((r1.cs.getD 2 .any).toStr)]] [] fun r4 o4=>NT r4<|NS (r4.comp 0)<|NB (r4.comp 1)<|.call 10 [.agg [VS ((r1.cs.getD 0 .any).toStr),(r1.cs.getD 1 .any),VS ((r1.cs.getD 2 .any).toStr)]] [] fun r5 o5=>NT r5<|.ai (r5.comp 0=.vec 0/\(o5.hO)=.vec 1 (o5.hO).es)<|NB (r5.comp 1)<|.ai (∀x,x∈o5->fg x)<|.call 25 [VS ((r1.cs.getD 0 .any).toStr),VS ((r4.comp 0).toStr),.sl ((o5.hO).es)] [] fun r6 o6=>NT r6<|.ai ((r6.comp 0)=.agg (r6.comp 0).cs/\aK [.lk .str,.vec 1,.lk .str] ((r6.comp 0).cs) 0 0 o6)<|NB (r6.comp 1)<|.ai (∀x,x∈o6->fg x)<|.test ((r4.comp 1).toBool) (.test ((r5.comp 1).toBool) (.test ((r6.comp 1).toBool) (.call 16 [.agg [VS (((r6.comp 0).cs.getD 0 .any).toStr),.sl ((o6.hO).es),VS (((r6.comp 0).cs.getD 2 .any).toStr)],.agg [VS ((r1.cs.getD 0 .any).toStr),(r1.cs.getD 1 .any),VS ((r1.cs.getD 2 .any).toStr)]] [] fun r7 o7=>NB r7<|.done 0 [VB r7.toBool] []) (.done 0 [VB false] [])) (.done 0 [VB false] [])) (.done 0 [VB false] []))))
theorem P1(a0:AV)(ha0:LK.has .sl a0)(h:di 61 (M9 a0) R):an Tryz.prog 6 [a0] [] R :=
 uQ (ah (bP ha0) aC) (oQ [] Tryz.f6 h)
def HI:LI:={hd:={bS:=[(4,.k .ptr)],eM:=[(5,1)]},xs:={eM:=[(5,1)]},rt:={},ex:=0}
def ON:Code:=cG (cB Tryz.f10) 5
def KK:List (Nat×LI):=[(5,HI)]
def LD(a0_0:ByteArray)(a0_1:AV)(a0_2:ByteArray):Tree :=
 .call 33 [.agg [VS a0_0,a0_1,VS a0_2]] [] fun r1 o1=>NP r1<|NP r1<|.test r1.isNil (.done 0 [.cH [.vec 0,VB false]] [.vec 1 []]) (.loop ON HI [r1] [.vec 1 []] (fun y4 q4=>.ai (((q4.drop 0).hO)=.vec 1 ((q4.drop 0).hO).es)<|.call 36 [.vec 0] [.vec 1 ((q4.hO).es)] fun r5 o5=>.ai ((o5.hO)=.kI 1 (o5.hO).es)<|.done 0 [.cH [.vec 0,VB true]] [.vec 1 ((o5.hO).es)]) (fun y4 q4=>.fail))
theorem Re(a0_0:ByteArray)(a0_1:AV)(a0_2:ByteArray)(ha0_1:LK.has .sl a0_1)(h:di 30 (LD a0_0 a0_1 a0_2) R):an Tryz.prog 10 [.agg [VS a0_0,a0_1,VS a0_2]] [] R :=
 uQ (ah (cb (ah (aA _) (ah (bP ha0_1) (ah (aA _) aC)))) aC) (oF KK {mu:=[],own:=[0]} Tryz.f10 h)
def Hi(x4:AV)(e5:List (List AV)):Tree :=
 NP x4<|.ai (Ob.vec 1 e5=.vec 1 e5)<|NZ x4<|NZ x4<|nA (x4.deref.drop 2)<|NL ((x4.deref.drop 2).hA)<|.test (decide (((((x4.deref.drop 2).hA).elems).length:Int)>(0:Int))) (.call 34 [x4] [] fun r1 o1=>NP r1<|.call 35 [x4,r1] [] fun r2 o2=>NI r2<|.ai (cC 1 [[VI r2.toInt]]/\((e5.length)+([[VI r2.toInt]]:List (List AV)).length)*8<=140737488355328)<|.done 0 [r1] [.vec 1 (e5++([[VI r2.toInt]]:List (List AV)))]) (.done 1 [] [.vec 1 e5])
abbrev FQ:=cA Tryz.prog 30 ON HI
theorem NC(x4:AV)(e5:List (List AV))(h:ka 30 (Hi x4 e5) FQ U):FQ [x4] [.vec 1 e5] U :=
 gQ KK h
def Mb(a0_0:ByteArray)(a0_1:AV)(a0_2:ByteArray)(a1_0:ByteArray)(a1_1:AV)(a1_2:ByteArray):Tree :=
 .test (af a0_0==af a1_0) (.test (af a0_2==af a1_2) (.call 42 [a0_1,a1_1] [] fun r1 o1=>NB r1<|.done 0 [VB r1.toBool] []) (.done 0 [VB false] [])) (.done 0 [VB false] [])
theorem RF(a0_0:ByteArray)(a0_1:AV)(a0_2:ByteArray)(a1_0:ByteArray)(a1_1:AV)(a1_2:ByteArray)(ha0_1:LK.has .sl a0_1)(ha1_1:LK.has .sl a1_1)(h:di 24 (Mb a0_0 a0_1 a0_2 a1_0 a1_1 a1_2) R):an Tryz.prog 16 [.agg [VS a0_0,a0_1,VS a0_2],.agg [VS a1_0,a1_1,VS a1_2]] [] R :=
 uQ (ah (cb (ah (aA _) (ah (bP ha0_1) (ah (aA _) aC)))) (ah (cb (ah (aA _) (ah (bP ha1_1) (ah (aA _) aC)))) aC)) (oQ [] Tryz.f16 h)
def Ll(a0:AV):Tree :=
 .call 32 [a0] [] fun r1 o1=>.ai (r1=.ref 0 0/\(o1.hO)=.cells (o1.hO).cs/\(o1.hO).cs.length=2/\bI [.sl,.int .i64] ((o1.hO).cs) 0)<|.call 31 [.ref 0 0] [.cells [((o1.hO).cs.getD 0 .any),VI (((o1.hO).cs.getD 1 .any).toInt)]] fun r2 o2=>.ai ((o2.hO)=.cells (o2.hO).cs)<|.ai (aK [.lk .sl,.lk (.int .i64)] ((o2.hO).cs) 0 1 o2.tail)<|.ai (r2=.agg r2.cs/\aK [.lk .str,.vec 1,.lk .str] r2.cs 0 1 o2.tail)<|.done 0 [.agg [VS ((r2.cs.getD 0 .any).toStr),.sl ((o2.tail.hO).es),VS ((r2.cs.getD 2 .any).toStr)]] []
theorem SV(a0:AV)(ha0:LK.has .sl a0)(h:di 6 (Ll a0) R):an Tryz.prog 21 [a0] [] R :=
 uQ (ah (bP ha0) aC) (oQ [] Tryz.f21 h)
def Kr(a0_0:ByteArray)(a0_1:AV)(a0_2:ByteArray):Tree :=
 .call 33 [.agg [VS a0_0,a0_1,VS a0_2]] [] fun r1 o1=>NP r1<|NP r1<|.done 0 [VB (!r1.isNil)] []
theorem Rd(a0_0:ByteArray)(a0_1:AV)(a0_2:ByteArray)(ha0_1:LK.has .sl a0_1)(h:di 6 (Kr a0_0 a0_1 a0_2) R):an Tryz.prog 22 [.agg [VS a0_0,a0_1,VS a0_2]] [] R :=
 uQ (ah (cb (ah (aA _) (ah (bP ha0_1) (ah (aA _) aC)))) aC) (oQ [] Tryz.f22 h)
def Ly(a0_0:ByteArray)(a0_1:AV)(a0_2:ByteArray):Tree :=
 .call 46 [.agg [VS a0_0,a0_1,VS a0_2]] [] fun r1 o1=>NB r1<|.test (!r1.toBool) (.done 0 [VB false] []) (.call 47 [.agg [VS a0_0,a0_1,VS a0_2]] [] fun r2 o2=>NT r2<|.ai ((r2.comp 0)=.agg (r2.comp 0).cs/\(r2.comp 0).cs.length=3/\bI [.str,.sl,.str] ((r2.comp 0).cs) 0)<|NB (r2.comp 1)<|.done 0 [VB ((r2.comp 1).toBool)] [])
theorem QS(a0_0:ByteArray)(a0_1:AV)(a0_2:ByteArray)(ha0_1:LK.has .sl a0_1)(h:di 14 (Ly a0_0 a0_1 a0_2) R):an Tryz.prog 23 [.agg [VS a0_0,a0_1,VS a0_2]] [] R :=
 uQ (ah (cb (ah (aA _) (ah (bP ha0_1) (ah (aA _) aC)))) aC) (oQ [] Tryz.f23 h)
def GW:LI:={hd:={bS:=[(4,.k .ptr)]},xs:={bS:=[(4,.k .ptr)]},rt:={},ex:=0}
def MS:Code:=cG (cB Tryz.f24) 4
def Le:List (Nat×LI):=[(4,GW)]
def JW(a0_0:ByteArray)(a0_1:AV)(a0_2:ByteArray):Tree :=
 .call 33 [.agg [VS a0_0,a0_1,VS a0_2]] [] fun r1 o1=>NP r1<|NP r1<|.test r1.isNil (.done 0 [.cH [VS (mk []),VB false]] []) (.loop MS GW [r1] [] (fun y3 q3=>NP (y3.hA)<|NZ (y3.hA)<|NZ (y3.hA)<|dP ((y3.hA).deref.drop 3)<|.call 48 [(((y3.hA).deref.drop 3).hA)] [] fun r4 o4=>NS r4<|.done 0 [.cH [VS r4.toStr,VB true]] []) (fun y3 q3=>.done 0 [.cH [.any,.any]] []))
theorem Pv(a0_0:ByteArray)(a0_1:AV)(a0_2:ByteArray)(ha0_1:LK.has .sl a0_1)(h:di 22 (JW a0_0 a0_1 a0_2) R):an Tryz.prog 24 [.agg [VS a0_0,a0_1,VS a0_2]] [] R :=
 uQ (ah (cb (ah (aA _) (ah (bP ha0_1) (ah (aA _) aC)))) aC) (oQ Le Tryz.f24 h)
def Gv(x4:AV):Tree :=
 NP x4<|NZ x4<|NZ x4<|nA (x4.deref.drop 2)<|NL ((x4.deref.drop 2).hA)<|.test (decide (((((x4.deref.drop 2).hA).elems).length:Int)>(0:Int))) (.call 34 [x4] [] fun r1 o1=>NP r1<|.done 0 [r1] []) (.done 1 [x4] [])
abbrev Iv:=cA Tryz.prog 22 MS GW
theorem MD(x4:AV)(h:ka 22 (Gv x4) Iv U):Iv [x4] [] U :=
 gQ Le h
def GC:LI:={hd:={bS:=[(8,.k .ptr),(15,.k .sl),(16,.k (.int .i64)),(17,.k (.int .i64))],refs:=[(6,6)],cq:=[(6,[.lk .str,.lk .sl,.lk .str])]},xs:={bS:=[(8,.k .ptr)],refs:=[(6,6)],cq:=[(6,[.lk .str,.lk .sl,.lk .str])]},rt:={},ex:=0}
def MT:Code:=cG (cB Tryz.f25) 3
def Li:List (Nat×LI):=[(3,GC)]
def Ni(a0:ByteArray)(a1:ByteArray)(a2:AV):Tree :=
 .call 49 [.agg [VS a0,.v (.slice none 0 0),VS a1]] [] fun r1 o1=>NP r1<|NL a2<|.loop MT GC [r1,a2,VI (a2.elems.length:Int),VI 0] [.cells [VS (mk []),.v (.slice none 0 0),VS (mk [])]] (fun y3 q3=>NP (y3.hA)<|.ai ((q3.hO)=.cells (q3.hO).cs)<|.ai (ae [.lk .str,.lk .sl,.lk .str] ((q3.hO).cs) 0 q3.tail)<|.call 40 [(y3.hA)] [] fun r4 o4=>NT r4<|.ai ((r4.comp 0)=.agg (r4.comp 0).cs/\aK [.lk .str,.vec 1,.lk .str] ((r4.comp 0).cs) 0 0 o4)<|NB (r4.comp 1)<|.ai (∀x,x∈o4->fg x)<|.done 0 [.cH [.agg [VS (((r4.comp 0).cs.getD 0 .any).toStr),.vec 0,VS (((r4.comp 0).cs.getD 2 .any).toStr)],VB ((r4.comp 1).toBool)]] [.vec 1 ((o4.hO).es)]) (fun y3 q3=>.fail)
theorem Sk(a0:ByteArray)(a1:ByteArray)(a2:AV)(ha2:LK.has .sl a2)(h:di 29 (Ni a0 a1 a2) R):an Tryz.prog 25 [VS a0,VS a1,a2] [] R :=
 uQ (ah (aA _) (ah (aA _) (ah (bP ha2) aC))) (oF Li {mu:=[],own:=[0],oa:=[.lk .str,.vec 1,.lk .str]} Tryz.f25 h)
def HC(x8:AV)(x15:AV)(x16:Int)(x17:Int)(o6_0:ByteArray)(o6_1:AV)(o6_2:ByteArray):Tree :=
 NP x8<|NL x15<|NI (VI x16)<|NI (VI x17)<|.ai (Ob.cells [VS o6_0,o6_1,VS o6_2]=.cells [VS o6_0,o6_1,VS o6_2])<|.ai (ae [.lk .str,.lk .sl,.lk .str] [VS o6_0,o6_1,VS o6_2] 0 [])<|.test (decide (x17<x16)) (NG x15 x17 1<|.ai (LK.has (.int .i64) ((x15.ix x17).hA)/\1<=(x15.ix x17).length)<|.call 44 [x8,VI (((x15.ix x17).hA).toInt)] [] fun r1 o1=>NP r1<|.done 0 [r1,x15,VI x16,VI (IntKind.wrap .i64 (x17+1))] [.cells [VS o6_0,o6_1,VS o6_2]]) (.done 1 [x8] [.cells [VS o6_0,o6_1,VS o6_2]])
abbrev HT:=cA Tryz.prog 29 MT GC
theorem K7(x8:AV)(x15:AV)(x16:Int)(x17:Int)(o6_0:ByteArray)(o6_1:AV)(o6_2:ByteArray)(h:ka 29 (HC x8 x15 x16 x17 o6_0 o6_1 o6_2) HT U):HT [x8,x15,VI x16,VI x17] [.cells [VS o6_0,o6_1,VS o6_2]] U :=
 gQ Li h
def OA(a0_0:ByteArray)(a0_1:AV)(a0_2:ByteArray)(a1:Int):Tree :=
 .call 23 [.agg [VS a0_0,a0_1,VS a0_2]] [] fun r1 o1=>NB r1<|.test (!r1.toBool) (.done 0 [.cH [.agg [VS (mk []),.vec 0,VS (mk [])],VB false]] [.vec 1 []]) (.call 51 [VS a0_0,VS a0_2] [] fun r2 o2=>NT r2<|NL (r2.comp 0)<|NB (r2.comp 1)<|NL (r2.comp 0)<|.call 45 [VI a1,VI 0,VI (IntKind.wrap .i64 ((((r2.comp 0).elems).length:Int)-1))] [] fun r3 o3=>NB r3<|.test (!r3.toBool) (.done 0 [.cH [.agg [VS (mk []),.vec 0,VS (mk [])],VB false]] [.vec 1 []]) (NG (r2.comp 0) a1 2<|kK ((r2.comp 0).ix a1)<|.call 52 [a0_1,VS ((((r2.comp 0).ix a1).hA).toStr)] [] fun r4 o4=>.ai (r4=.vec 0/\(o4.hO)=.vec 1 (o4.hO).es)<|.ai (∀x,x∈o4->fg x)<|NG (r2.comp 0) a1 2<|kK (((r2.comp 0).ix a1).drop 1)<|.call 41 [.agg [VS a0_0,.vec 0,VS (((((r2.comp 0).ix a1).drop 1).hA).toStr)]] [.vec 1 ((o4.hO).es)] fun r5 o5=>NT r5<|.ai ((r5.comp 0)=.agg (r5.comp 0).cs/\aK [.lk .str,.vec 1,.lk .str] ((r5.comp 0).cs) 0 1 o5.tail)<|NB (r5.comp 1)<|.done 0 [.cH [.agg [VS (((r5.comp 0).cs.getD 0 .any).toStr),.vec 0,VS (((r5.comp 0).cs.getD 2 .any).toStr)],VB ((r5.comp 1).toBool)]] [.vec 1 ((o5.tail.hO).es)]))
theorem Qz(a0_0:ByteArray)(a0_1:AV)(a0_2:ByteArray)(a1:Int)(ha0_1:LK.has .sl a0_1)(h:di 46 (OA a0_0 a0_1 a0_2 a1) R):an Tryz.prog 30 [.agg [VS a0_0,a0_1,VS a0_2],VI a1] [] R :=
 uQ (ah (cb (ah (aA _) (ah (bP ha0_1) (ah (aA _) aC)))) (ah (aA _) aC)) (oF [] {mu:=[],own:=[0],oa:=[.lk .str,.vec 1,.lk .str]} Tryz.f30 h)
def IE:LI:={hd:={bS:=[(6,.k .bool),(7,.k (.int .i64)),(8,.k (.int .i64))],refs:=[(0,0),(2,2),(5,5)],cq:=[(0,[.lk .sl,.lk (.int .i64)]),(2,[.lk .str,.lk .sl,.lk .str]),(5,[.lk .str,.vec 1,.lk .str])]},xs:={refs:=[(0,0),(2,2),(5,5)],cq:=[(0,[.lk .sl,.lk (.int .i64)]),(2,[.lk .str,.lk .sl,.lk .str]),(5,[.lk .str,.vec 1,.lk .str])]},rt:={cq:=[(0,[.lk .sl,.lk (.int .i64)])]},ex:=0,fx:=[0]}
def KR:Code:=cG (cB Tryz.f31) 5
def Jr:List (Nat×LI):=[(5,IE)]
def LR(a0_0:AV)(a0_1:Int):Tree :=
 .call 53 [.ref 0 0] [.cells [a0_0,VI a0_1]] fun r1 o1=>.ai ((o1.hO)=.cells (o1.hO).cs)<|.ai (aK [.lk .sl,.lk (.int .i64)] ((o1.hO).cs) 0 1 o1.tail)<|NT r1<|NS (r1.comp 0)<|NS (r1.comp 1)<|.call 54 [VS ((r1.comp 0).toStr),VS ((r1.comp 1).toStr)] [] fun r2 o2=>NT r2<|.ai ((r2.comp 0)=.agg (r2.comp 0).cs/\aK [.lk .str,.vec 1,.lk .str] ((r2.comp 0).cs) 0 0 o2)<|NB (r2.comp 1)<|.ai (∀x,x∈o2->fg x)<|.call 43 [.ref 0 0,VI 4] [.cells [((o1.hO).cs.getD 0 .any),VI (((o1.hO).cs.getD 1 .any).toInt)]] fun r3 o3=>.ai ((o3.hO)=.cells (o3.hO).cs)<|.ai (aK [.lk .sl,.lk (.int .i64)] ((o3.hO).cs) 0 1 o3.tail)<|NI r3<|.loop KR IE [VB ((r2.comp 1).toBool),VI r3.toInt,VI 0] [.cells [((o3.hO).cs.getD 0 .any),VI (((o3.hO).cs.getD 1 .any).toInt)],.cells [VS (mk []),.v (.slice none 0 0),VS (mk [])],.cells [VS (((r2.comp 0).cs.getD 0 .any).toStr),.any,VS (((r2.comp 0).cs.getD 2 .any).toStr)],.vec 1 ((o2.hO).es)] (fun y7 q7=>.ai ((q7.hO)=.cells (q7.hO).cs)<|.ai (ae [.lk .sl,.lk (.int .i64)] ((q7.hO).cs) 0 q7.tail)<|.ai (((q7.tail.drop 0).hO)=.cells ((q7.tail.drop 0).hO).cs)<|.ai (ae [.lk .str,.lk .sl,.lk .str] (((q7.tail.drop 0).hO).cs) 0 ((q7.tail.drop 0).tail))<|.ai ((((q7.tail.drop 0).tail.drop 0).hO)=.cells (((q7.tail.drop 0).tail.drop 0).hO).cs)<|.ai (ae [.lk .str,.vec 1,.lk .str] ((((q7.tail.drop 0).tail.drop 0).hO).cs) 0 (((q7.tail.drop 0).tail.drop 0).tail))<|.call 43 [.ref 0 0,VI 20] [.cells [((q7.hO).cs.getD 0 .any),VI (((q7.hO).cs.getD 1 .any).toInt)]] fun r8 o8=>.ai ((o8.hO)=.cells (o8.hO).cs)<|.ai (aK [.lk .sl,.lk (.int .i64)] ((o8.hO).cs) 0 1 o8.tail)<|NI r8<|.test (r8.toInt==(0:Int)) (.ai (cC 1 [[VS (mk [117])]]/\((((q7.tail.tail.tail.hO).es).length)+([[VS (mk [117])]]:List (List AV)).length)*16<=140737488355328)<|.done 0 [.agg [VS (((q7.tail.tail.hO).cs.getD 0 .any).toStr),.vec 1,VS (((q7.tail.tail.hO).cs.getD 2 .any).toStr)]] [.cells [((o8.hO).cs.getD 0 .any),VI (((o8.hO).cs.getD 1 .any).toInt)],.vec 1 (((q7.tail.tail.tail.hO).es)++([[VS (mk [117])]]:List (List AV)))]) (.test (r8.toInt==(1:Int)) (.done 0 [.agg [VS (((q7.tail.tail.hO).cs.getD 0 .any).toStr),.vec 1,VS (mk [101,48])]] [.cells [((o8.hO).cs.getD 0 .any),VI (((o8.hO).cs.getD 1 .any).toInt)],.vec 1 ((q7.tail.tail.tail.hO).es)]) (.test (r8.toInt==(2:Int)) (.done 0 [.agg [VS (mk [120]),.vec 1,VS (((q7.tail.tail.hO).cs.getD 2 .any).toStr)]] [.cells [((o8.hO).cs.getD 0 .any),VI (((o8.hO).cs.getD 1 .any).toInt)],.vec 1 ((q7.tail.tail.tail.hO).es)]) (.done 0 [.agg [VS (((q7.tail.tail.hO).cs.getD 0 .any).toStr),.vec 1,VS (((q7.tail.tail.hO).cs.getD 2 .any).toStr)]] [.cells [((o8.hO).cs.getD 0 .any),VI (((o8.hO).cs.getD 1 .any).toInt)],.vec 1 ((q7.tail.tail.tail.hO).es)])))) (fun y7 q7=>.ai ((q7.hO)=.cells (q7.hO).cs)<|.ai (ae [.lk .sl,.lk (.int .i64)] ((q7.hO).cs) 0 q7.tail)<|.fail)
theorem Sa(a0_0:AV)(a0_1:Int)(ha0_0:LK.has .sl a0_0)(h:di 60 (LR a0_0 a0_1) R):an Tryz.prog 31 [.ref 0 0] [.cells [a0_0,VI a0_1]] R :=
 an.mY (bw (ca (ah (bP ha0_0) (ah (aA _) aC))) cv) (an.up (ah (aA _) aC) (oF Jr {mu:=[(0,.one (.obj [.lk .sl,.lk (.int .i64)]))],own:=[0],oa:=[.lk .str,.vec 1,.lk .str]} Tryz.f31 h))
def HL(x6:Bool)(x7:Int)(x8:Int)(o0_0:AV)(o0_1:Int)(o2_0:ByteArray)(o2_1:AV)(o2_2:ByteArray)(o5_0:ByteArray)(o5_1:List (List AV))(o5_2:ByteArray):Tree :=
 NB (VB x6)<|NI (VI x7)<|NI (VI x8)<|.ai (Ob.cells [o0_0,VI o0_1]=.cells [o0_0,VI o0_1])<|.ai (ae [.lk .sl,.lk (.int .i64)] [o0_0,VI o0_1] 0 [.cells [VS o2_0,o2_1,VS o2_2],.cells [VS o5_0,.any,VS o5_2],.vec 1 o5_1])<|.ai (Ob.cells [VS o2_0,o2_1,VS o2_2]=.cells [VS o2_0,o2_1,VS o2_2])<|.ai (ae [.lk .str,.lk .sl,.lk .str] [VS o2_0,o2_1,VS o2_2] 0 [.cells [VS o5_0,.any,VS o5_2],.vec 1 o5_1])<|.ai (Ob.cells [VS o5_0,.any,VS o5_2]=.cells [VS o5_0,.any,VS o5_2])<|.ai (ae [.lk .str,.vec 1,.lk .str] [VS o5_0,.any,VS o5_2] 0 [.vec 1 o5_1])<|.test (decide (x8<x7)) (.test x6 (.call 50 [.agg [VS o5_0,.sl o5_1,VS o5_2]] [] fun r1 o1=>NI r1<|.call 43 [.ref 0 0,VI (if r1.toInt>1 then r1.toInt else 1)] [.cells [o0_0,VI o0_1]] fun r2 o2=>.ai ((o2.hO)=.cells (o2.hO).cs)<|.ai (aK [.lk .sl,.lk (.int .i64)] ((o2.hO).cs) 0 1 o2.tail)<|NI r2<|.call 30 [.agg [VS o5_0,.sl o5_1,VS o5_2],VI r2.toInt] [] fun r3 o3=>NT r3<|.ai ((r3.comp 0)=.agg (r3.comp 0).cs/\aK [.lk .str,.vec 1,.lk .str] ((r3.comp 0).cs) 0 0 o3)<|NB (r3.comp 1)<|.ai (∀x,x∈o3->fg x)<|.test ((r3.comp 1).toBool) (.done 0 [VB x6,VI x7,VI (IntKind.wrap .i64 (x8+1))] [.cells [((o2.hO).cs.getD 0 .any),VI (((o2.hO).cs.getD 1 .any).toInt)],.cells [VS o2_0,o2_1,VS o2_2],.cells [VS (((r3.comp 0).cs.getD 0 .any).toStr),.any,VS (((r3.comp 0).cs.getD 2 .any).toStr)],.vec 1 ((o3.hO).es)]) (.done 0 [VB x6,VI x7,VI (IntKind.wrap .i64 (x8+1))] [.cells [((o2.hO).cs.getD 0 .any),VI (((o2.hO).cs.getD 1 .any).toInt)],.cells [VS o2_0,o2_1,VS o2_2],.cells [VS o5_0,.any,VS o5_2],.vec 1 o5_1])) (.done 1 [] [.cells [o0_0,VI o0_1],.cells [VS o2_0,o2_1,VS o2_2],.cells [VS o5_0,.any,VS o5_2],.vec 1 o5_1])) (.done 1 [] [.cells [o0_0,VI o0_1],.cells [VS o2_0,o2_1,VS o2_2],.cells [VS o5_0,.any,VS o5_2],.vec 1 o5_1])
abbrev HU:=cA Tryz.prog 60 KR IE
theorem JS(x6:Bool)(x7:Int)(x8:Int)(o0_0:AV)(o0_1:Int)(o2_0:ByteArray)(o2_1:AV)(o2_2:ByteArray)(o5_0:ByteArray)(o5_1:List (List AV))(o5_2:ByteArray)(h:ka 60 (HL x6 x7 x8 o0_0 o0_1 o2_0 o2_1 o2_2 o5_0 o5_1 o5_2) HU U):HU [VB x6,VI x7,VI x8] [.cells [o0_0,VI o0_1],.cells [VS o2_0,o2_1,VS o2_2],.cells [VS o5_0,.any,VS o5_2],.vec 1 o5_1] U :=
 gQ Jr h
def Jg(a0:AV):Tree :=
 NL a0<|.test (decide ((a0.elems.length:Int)>(2000:Int))) (.ai (LK.has .sl a0/\0<=(0:Int)/\(0:Int)<=(2000:Int)/\(2000:Int)<=(a0.elems.length:Int))<|.done 0 [.ref 0 0] [.cells [.sl ((a0.elems.take (bL 2000)).drop (bL 0)),VI 0]]) (.done 0 [.ref 0 0] [.cells [a0,VI 0]])
theorem Rz(a0:AV)(ha0:LK.has .sl a0)(h:di 11 (Jg a0) R):an Tryz.prog 32 [a0] [] R :=
 uQ (ah (bP ha0) aC) (oF [] {mu:=[],own:=[0],ow:=[.sl,.int .i64]} Tryz.f32 h)
def Gz:LI:={hd:={bS:=[(3,.k .ptr),(4,.k .ptr)]},xs:={bS:=[(3,.k .ptr)]},rt:={bS:=[(2,.k .ptr)]},ex:=0}
def Mh:Code:=cG (cB Tryz.f33) 5
def KL:List (Nat×LI):=[(5,Gz)]
def KA(a0_0:ByteArray)(a0_1:AV)(a0_2:ByteArray):Tree :=
 .call 49 [.agg [VS a0_0,a0_1,VS a0_2]] [] fun r1 o1=>NP r1<|NP r1<|.test r1.isNil (.done 0 [.v (.pointer none)] []) (.loop Mh Gz [r1,r1] [] (fun y3 q3=>NP (y3.hA)<|.done 0 [(y3.hA)] []) (fun y3 q3=>NP (y3.hA)<|.done 0 [(y3.hA)] []))
theorem Ss(a0_0:ByteArray)(a0_1:AV)(a0_2:ByteArray)(ha0_1:LK.has .sl a0_1)(h:di 21 (KA a0_0 a0_1 a0_2) R):an Tryz.prog 33 [.agg [VS a0_0,a0_1,VS a0_2]] [] R :=
 uQ (ah (cb (ah (aA _) (ah (bP ha0_1) (ah (aA _) aC)))) aC) (oQ KL Tryz.f33 h)
def Hs(x3:AV)(x4:AV):Tree :=
 NP x3<|NP x4<|NZ x4<|NZ x4<|nA (x4.deref.drop 2)<|NL ((x4.deref.drop 2).hA)<|.test (decide (((((x4.deref.drop 2).hA).elems).length:Int)>(0:Int))) (.call 34 [x4] [] fun r1 o1=>NP r1<|NP r1<|.test r1.isNil (.done 2 [.v (.pointer none)] []) (.done 0 [x3,r1] [])) (.done 1 [x3] [])
abbrev GX:=cA Tryz.prog 21 Mh Gz
theorem L4(x3:AV)(x4:AV)(h:ka 21 (Hs x3 x4) GX U):GX [x3,x4] [] U :=
 gQ KL h
def OW(a0:AV):Tree :=
 NP a0<|.test a0.isNil (.done 0 [.v (.pointer none)] []) (NZ a0<|NZ a0<|nA (a0.deref.drop 2)<|NL ((a0.deref.drop 2).hA)<|.test (((((a0.deref.drop 2).hA).elems).length:Int)==(0:Int)) (.done 0 [.v (.pointer none)] []) (NZ a0<|NZ a0<|nA (a0.deref.drop 2)<|NL ((a0.deref.drop 2).hA)<|NZ a0<|NZ a0<|dP (a0.deref.drop 1)<|NZ a0<|NZ a0<|nA (a0.deref.drop 2)<|.ai (LK.has .sl ((a0.deref.drop 2).hA)/\0<=(IntKind.wrap .i64 (((((a0.deref.drop 2).hA).elems).length:Int)-1))/\(IntKind.wrap .i64 (((((a0.deref.drop 2).hA).elems).length:Int)-1))<((a0.deref.drop 2).hA).elems.length/\(((a0.deref.drop 2).hA).ix (IntKind.wrap .i64 (((((a0.deref.drop 2).hA).elems).length:Int)-1))).length=1)<|.ai (LK.has .ptr ((((a0.deref.drop 2).hA).ix (IntKind.wrap .i64 (((((a0.deref.drop 2).hA).elems).length:Int)-1))).hA)/\1<=(((a0.deref.drop 2).hA).ix (IntKind.wrap .i64 (((((a0.deref.drop 2).hA).elems).length:Int)-1))).length)<|NZ a0<|NZ a0<|dP (a0.deref.drop 3)<|.call 55 [((a0.deref.drop 1).hA),((((a0.deref.drop 2).hA).ix (IntKind.wrap .i64 (((((a0.deref.drop 2).hA).elems).length:Int)-1))).hA),((a0.deref.drop 3).hA)] [] fun r1 o1=>NP r1<|.call 56 [r1] [] fun r2 o2=>NI r2<|.test (decide (r2.toInt>(200:Int))) (.done 0 [.v (.pointer none)] []) (NZ a0<|NZ a0<|.ai (LK.has .str (a0.deref.hA)/\1<=a0.deref.length)<|NZ a0<|NZ a0<|dP (a0.deref.drop 1)<|NZ a0<|NZ a0<|nA (a0.deref.drop 2)<|.ai (LK.has .sl ((a0.deref.drop 2).hA)/\0<=(0:Int)/\(0:Int)<=(IntKind.wrap .i64 (((((a0.deref.drop 2).hA).elems).length:Int)-1))/\(IntKind.wrap .i64 (((((a0.deref.drop 2).hA).elems).length:Int)-1))<=((((a0.deref.drop 2).hA).elems).length:Int))<|.done 0 [.ptr [VS ((a0.deref.hA).toStr),((a0.deref.drop 1).hA),.sl (((((a0.deref.drop 2).hA).elems).take (bL (IntKind.wrap .i64 (((((a0.deref.drop 2).hA).elems).length:Int)-1)))).drop (bL 0)),r1]] [])))
theorem R2(a0:AV)(ha0:LK.has .ptr a0)(h:di 57 (OW a0) R):an Tryz.prog 34 [a0] [] R :=
 uQ (ah (bB ha0) aC) (oQ [] Tryz.f34 h)
def IZ(a0:AV)(a1:AV):Tree :=
 NZ a0<|NZ a0<|nA (a0.deref.drop 2)<|NZ a0<|NZ a0<|nA (a0.deref.drop 2)<|NL ((a0.deref.drop 2).hA)<|.ai (LK.has .sl ((a0.deref.drop 2).hA)/\0<=(IntKind.wrap .i64 (((((a0.deref.drop 2).hA).elems).length:Int)-1))/\(IntKind.wrap .i64 (((((a0.deref.drop 2).hA).elems).length:Int)-1))<((a0.deref.drop 2).hA).elems.length/\(((a0.deref.drop 2).hA).ix (IntKind.wrap .i64 (((((a0.deref.drop 2).hA).elems).length:Int)-1))).length=1)<|.ai (LK.has .ptr ((((a0.deref.drop 2).hA).ix (IntKind.wrap .i64 (((((a0.deref.drop 2).hA).elems).length:Int)-1))).hA)/\1<=(((a0.deref.drop 2).hA).ix (IntKind.wrap .i64 (((((a0.deref.drop 2).hA).elems).length:Int)-1))).length)<|.call 48 [((((a0.deref.drop 2).hA).ix (IntKind.wrap .i64 (((((a0.deref.drop 2).hA).elems).length:Int)-1))).hA)] [] fun r1 o1=>NS r1<|NZ a1<|NZ a1<|dP (a1.deref.drop 1)<|NZ a1<|NZ a1<|dP (a1.deref.drop 3)<|.call 58 [((a1.deref.drop 1).hA),((a1.deref.drop 3).hA)] [] fun r2 o2=>NL r2<|.call 57 [r2,.fn 59 [.ref 0 0]] [.cells [VS r1.toStr]] fun r3 o3=>.ai ((o3.hO)=.cells (o3.hO).cs)<|.ai (aK [.lk .str] ((o3.hO).cs) 0 1 o3.tail)<|NI r3<|.done 0 [VI r3.toInt] []
theorem PZ(a0:AV)(a1:AV)(ha0:LK.has .ptr a0)(ha1:LK.has .ptr a1)(h:di 30 (IZ a0 a1) R):an Tryz.prog 35 [a0,a1] [] R :=
 uQ (ah (bB ha0) (ah (bB ha1) aC)) (oQ [] Tryz.f35 h)
def Ic:LI:={hd:={bS:=[(2,.k (.int .i64)),(3,.k (.int .i64))],kv:=[(0,0,1)]},xs:={kv:=[(0,0,1)]},rt:={kv:=[(0,0,1)]},ex:=0,fx:=[0]}
def Kg:Code:=cG (cB Tryz.f36) 1
def L0:List (Nat×LI):=[(1,Ic)]
def OP(e0:List (List AV)):Tree :=
 .loop Kg Ic [VI 0,VI (IntKind.wrap .i64 ((e0.length:Int)-1))] [.vec 1 e0] (fun y1 q1=>.ai (((((q1.drop 0).drop 0).drop 0).hO)=.vec 1 ((((q1.drop 0).drop 0).drop 0).hO).es)<|.done 0 [.any] [.kI 1 ((((q1.drop 0).drop 0).hO).es)]) (fun y1 q1=>.ai (((((q1.drop 0).drop 0).drop 0).hO)=.vec 1 ((((q1.drop 0).drop 0).drop 0).hO).es)<|.done 0 [.any] [.kI 1 ((((q1.drop 0).drop 0).hO).es)])
theorem RH(e0:List (List AV))(h:di 28 (OP e0) R):an Tryz.prog 36 [.vec 0] [.vec 1 e0] R :=
 an.mY (bw (fH _) cv) (an.up (ah (aA _) aC) (oF L0 {mu:=[(0,.one (.cO false [.vec 1]))],own:=[]} Tryz.f36 h))
def Hy(x2:Int)(x3:Int)(k0:List (List AV)):Tree :=
 NI (VI x2)<|NI (VI x3)<|.ai (Ob.vec 1 k0=.vec 1 k0)<|.test (decide (x2<x3)) (.ai (0<=x3/\x3<k0.length)<|.ai (x3.toNat<k0.length/\0<(k0.getD x3.toNat []).length/\LK.has (.int .i64) ((k0.getD x3.toNat []).getD 0 .any))<|.ai (0<=x2/\x2<k0.length)<|.ai (x2.toNat<k0.length/\0<(k0.getD x2.toNat []).length/\LK.has (.int .i64) ((k0.getD x2.toNat []).getD 0 .any))<|.ai (0<=x2/\x2<k0.length)<|.ai (x2.toNat<k0.length/\0+1<=1)<|.ai (0<=x3/\x3<(k0.set x2.toNat ((k0.getD x2.toNat []).set 0 (VI (((k0.getD x3.toNat []).getD 0 .any).toInt)))).length)<|.ai (x3.toNat<(k0.set x2.toNat ((k0.getD x2.toNat []).set 0 (VI (((k0.getD x3.toNat []).getD 0 .any).toInt)))).length/\0+1<=1)<|.done 0 [VI (IntKind.wrap .i64 (x2+1)),VI (IntKind.wrap .i64 (x3-1))] [.vec 1 ((k0.set x2.toNat ((k0.getD x2.toNat []).set 0 (VI (((k0.getD x3.toNat []).getD 0 .any).toInt)))).set x3.toNat (((k0.set x2.toNat ((k0.getD x2.toNat []).set 0 (VI (((k0.getD x3.toNat []).getD 0 .any).toInt)))).getD x3.toNat []).set 0 (VI (((k0.getD x2.toNat []).getD 0 .any).toInt))))]) (.done 1 [] [.vec 1 k0])
abbrev FV:=cA Tryz.prog 28 Kg Ic
theorem Qk(x2:Int)(x3:Int)(k0:List (List AV))(h:ka 28 (Hy x2 x3 k0) FV U):FV [VI x2,VI x3] [.vec 1 k0] U :=
 gQ L0 h
def Kq(a0_0:ByteArray)(a0_1:AV)(a0_2:ByteArray):Tree :=
 NL a0_1<|.test ((a0_1.elems.length:Int)==(0:Int)) (.done 0 [.cH [.agg [VS a0_0,a0_1,VS a0_2],VB false]] []) (.ai (LK.has .sl a0_1/\0<=(IntKind.wrap .i64 ((a0_1.elems.length:Int)-1))/\(IntKind.wrap .i64 ((a0_1.elems.length:Int)-1))<a0_1.elems.length/\(a0_1.ix (IntKind.wrap .i64 ((a0_1.elems.length:Int)-1))).length=1)<|kK (a0_1.ix (IntKind.wrap .i64 ((a0_1.elems.length:Int)-1)))<|.call 60 [VS a0_0,VS (((a0_1.ix (IntKind.wrap .i64 ((a0_1.elems.length:Int)-1))).hA).toStr),VS a0_2] [] fun r1 o1=>NT r1<|NS (r1.comp 0)<|NB (r1.comp 1)<|.ai (LK.has .sl a0_1/\0<=(0:Int)/\(0:Int)<=(IntKind.wrap .i64 ((a0_1.elems.length:Int)-1))/\(IntKind.wrap .i64 ((a0_1.elems.length:Int)-1))<=(a0_1.elems.length:Int))<|.ai (cC 1 ((a0_1.elems.take (bL (IntKind.wrap .i64 ((a0_1.elems.length:Int)-1)))).drop (bL 0))/\((([]:List (List AV)).length)+((a0_1.elems.take (bL (IntKind.wrap .i64 ((a0_1.elems.length:Int)-1)))).drop (bL 0)).length)*16<=140737488355328)<|.done 0 [.cH [.agg [VS a0_0,.sl (([]:List (List AV))++((a0_1.elems.take (bL (IntKind.wrap .i64 ((a0_1.elems.length:Int)-1)))).drop (bL 0))),VS ((r1.comp 0).toStr)],VB ((r1.comp 1).toBool)]] [])
theorem QB(a0_0:ByteArray)(a0_1:AV)(a0_2:ByteArray)(ha0_1:LK.has .sl a0_1)(h:di 39 (Kq a0_0 a0_1 a0_2) R):an Tryz.prog 38 [.agg [VS a0_0,a0_1,VS a0_2]] [] R :=
 uQ (ah (cb (ah (aA _) (ah (bP ha0_1) (ah (aA _) aC)))) aC) (oQ [] Tryz.f38 h)
def KT(a0_0:AV)(a0_1:Int)(a1:ByteArray):Tree :=
 .call 61 [VS a1] [] fun r1 o1=>NT r1<|.ai ((r1.comp 0)=.agg (r1.comp 0).cs/\(r1.comp 0).cs.length=2/\bI [.str,.sl] ((r1.comp 0).cs) 0)<|NB (r1.comp 1)<|.test (!((r1.comp 1).toBool)) (.call 62 [.ref 0 0,.sl [[VS (mk [])],[VS (mk [117])],[VS (mk [101,48])],[VS (mk [101,48,48])],[VS (mk [101,49,48,48])],[VS (mk [40,108,32,117,41])],[VS (mk [40,112,32,117,41])],[VS (mk [40,102,32,40,108,32,117,41,41])],[VS (mk [40,120,32,117,41])],[VS (mk [40,108,32,32,117,41])]]] [.cells [a0_0,VI a0_1]] fun r2 o2=>.ai ((o2.hO)=.cells (o2.hO).cs)<|.ai (aK [.lk .sl,.lk (.int .i64)] ((o2.hO).cs) 0 1 o2.tail)<|NS r2<|.done 0 [VS r2.toStr] [.cells [((o2.hO).cs.getD 0 .any),VI (((o2.hO).cs.getD 1 .any).toInt)]]) (.call 43 [.ref 0 0,VI 16] [.cells [a0_0,VI a0_1]] fun r3 o3=>.ai ((o3.hO)=.cells (o3.hO).cs)<|.ai (aK [.lk .sl,.lk (.int .i64)] ((o3.hO).cs) 0 1 o3.tail)<|NI r3<|.test (r3.toInt==(0:Int)) (.call 62 [.ref 0 0,.sl [[VS (mk [])],[VS (mk [117])],[VS (mk [101,48])],[VS (mk [101,48,48])],[VS (mk [101,49,48,48])],[VS (mk [40,108,32,117,41])],[VS (mk [40,112,32,117,41])],[VS (mk [40,102,32,40,108,32,117,41,41])],[VS (mk [40,120,32,117,41])],[VS (mk [40,108,32,32,117,41])]]] [.cells [((o3.hO).cs.getD 0 .any),VI (((o3.hO).cs.getD 1 .any).toInt)]] fun r4 o4=>.ai ((o4.hO)=.cells (o4.hO).cs)<|.ai (aK [.lk .sl,.lk (.int .i64)] ((o4.hO).cs) 0 1 o4.tail)<|NS r4<|.done 0 [VS r4.toStr] [.cells [((o4.hO).cs.getD 0 .any),VI (((o4.hO).cs.getD 1 .any).toInt)]]) (.call 65 [.agg [VS (((r1.comp 0).cs.getD 0 .any).toStr),((r1.comp 0).cs.getD 1 .any)],.v (.slice none 0 0)] [] fun r5 o5=>NA r5<|.call 43 [.ref 0 0,VI 5] [.cells [((o3.hO).cs.getD 0 .any),VI (((o3.hO).cs.getD 1 .any).toInt)]] fun r6 o6=>.ai ((o6.hO)=.cells (o6.hO).cs)<|.ai (aK [.lk .sl,.lk (.int .i64)] ((o6.hO).cs) 0 1 o6.tail)<|NI r6<|.call 64 [.ref 0 0,.agg [VS ((r5.cs.getD 0 .any).toStr),(r5.cs.getD 1 .any)],VI (IntKind.wrap .i64 (5+r6.toInt))] [.cells [((o6.hO).cs.getD 0 .any),VI (((o6.hO).cs.getD 1 .any).toInt)]] fun r7 o7=>.ai ((o7.hO)=.cells (o7.hO).cs)<|.ai (aK [.lk .sl,.lk (.int .i64)] ((o7.hO).cs) 0 1 o7.tail)<|NA r7<|.call 63 [.agg [VS ((r7.cs.getD 0 .any).toStr),(r7.cs.getD 1 .any)]] [] fun r8 o8=>NS r8<|.done 0 [VS r8.toStr] [.cells [((o7.hO).cs.getD 0 .any),VI (((o7.hO).cs.getD 1 .any).toInt)]]))
theorem Pr(a0_0:AV)(a0_1:Int)(a1:ByteArray)(ha0_0:LK.has .sl a0_0)(h:di 30 (KT a0_0 a0_1 a1) R):an Tryz.prog 39 [.ref 0 0,VS a1] [.cells [a0_0,VI a0_1]] R :=
 an.mY (bw (ca (ah (bP ha0_0) (ah (aA _) aC))) cv) (an.up (ah (aA _) (ah (aA _) aC)) (oF [] {mu:=[(0,.one (.obj [.lk .sl,.lk (.int .i64)]))],own:=[]} Tryz.f39 h))
def H8:LI:={hd:={bS:=[(23,.k .sl),(24,.k (.int .i64)),(25,.k (.int .i64))],refs:=[(2,2),(4,4)],cq:=[(2,[.lk .str,.lk .sl,.lk .str]),(4,[.lk .str,.vec 1,.lk .str])]},xs:={refs:=[(2,2),(4,4)],cq:=[(2,[.lk .str,.lk .sl,.lk .str]),(4,[.lk .str,.vec 1,.lk .str])]},rt:={},ex:=0}
def KI:Code:=cG (cB Tryz.f40) 5
def MZ:List (Nat×LI):=[(5,H8)]
def LU(a0:AV):Tree :=
 NP a0<|.test a0.isNil (.done 0 [.cH [.agg [VS (mk []),.vec 0,VS (mk [])],VB false]] [.vec 1 []]) (NZ a0<|NZ a0<|.ai (LK.has .str (a0.deref.hA)/\1<=a0.deref.length)<|NZ a0<|NZ a0<|dP (a0.deref.drop 3)<|.call 48 [((a0.deref.drop 3).hA)] [] fun r1 o1=>NS r1<|NZ a0<|NZ a0<|nA (a0.deref.drop 2)<|NL ((a0.deref.drop 2).hA)<|.loop KI H8 [((a0.deref.drop 2).hA),VI ((((a0.deref.drop 2).hA).elems).length:Int),VI 0] [.cells [VS (mk []),.v (.slice none 0 0),VS (mk [])],.cells [VS ((a0.deref.hA).toStr),.any,VS r1.toStr],.vec 1 []] (fun y4 q4=>.ai ((q4.hO)=.cells (q4.hO).cs)<|.ai (ae [.lk .str,.lk .sl,.lk .str] ((q4.hO).cs) 0 q4.tail)<|.ai (((q4.tail.drop 0).hO)=.cells ((q4.tail.drop 0).hO).cs)<|.ai (ae [.lk .str,.vec 1,.lk .str] (((q4.tail.drop 0).hO).cs) 0 ((q4.tail.drop 0).tail))<|.done 0 [.cH [.agg [VS (((q4.tail.hO).cs.getD 0 .any).toStr),.vec 0,VS (((q4.tail.hO).cs.getD 2 .any).toStr)],VB true]] [.vec 1 ((q4.tail.tail.hO).es)]) (fun y4 q4=>.fail))
theorem QR(a0:AV)(ha0:LK.has .ptr a0)(h:di 38 (LU a0) R):an Tryz.prog 40 [a0] [] R :=
 uQ (ah (bB ha0) aC) (oF MZ {mu:=[],own:=[0],oa:=[.lk .str,.vec 1,.lk .str]} Tryz.f40 h)
def Hq(x23:AV)(x24:Int)(x25:Int)(o2_0:ByteArray)(o2_1:AV)(o2_2:ByteArray)(o4_0:ByteArray)(o4_1:List (List AV))(o4_2:ByteArray):Tree :=
 NL x23<|NI (VI x24)<|NI (VI x25)<|.ai (Ob.cells [VS o2_0,o2_1,VS o2_2]=.cells [VS o2_0,o2_1,VS o2_2])<|.ai (ae [.lk .str,.lk .sl,.lk .str] [VS o2_0,o2_1,VS o2_2] 0 [.cells [VS o4_0,.any,VS o4_2],.vec 1 o4_1])<|.ai (Ob.cells [VS o4_0,.any,VS o4_2]=.cells [VS o4_0,.any,VS o4_2])<|.ai (ae [.lk .str,.vec 1,.lk .str] [VS o4_0,.any,VS o4_2] 0 [.vec 1 o4_1])<|.test (decide (x25<x24)) (NG x23 x25 1<|dP (x23.ix x25)<|.call 48 [((x23.ix x25).hA)] [] fun r1 o1=>NS r1<|.ai (cC 1 [[VS r1.toStr]]/\((o4_1.length)+([[VS r1.toStr]]:List (List AV)).length)*16<=140737488355328)<|.done 0 [x23,VI x24,VI (IntKind.wrap .i64 (x25+1))] [.cells [VS o2_0,o2_1,VS o2_2],.cells [VS o4_0,.any,VS o4_2],.vec 1 (o4_1++([[VS r1.toStr]]:List (List AV)))]) (.done 1 [] [.cells [VS o2_0,o2_1,VS o2_2],.cells [VS o4_0,.any,VS o4_2],.vec 1 o4_1])
abbrev Hk:=cA Tryz.prog 38 KI H8
theorem M8(x23:AV)(x24:Int)(x25:Int)(o2_0:ByteArray)(o2_1:AV)(o2_2:ByteArray)(o4_0:ByteArray)(o4_1:List (List AV))(o4_2:ByteArray)(h:ka 38 (Hq x23 x24 x25 o2_0 o2_1 o2_2 o4_0 o4_1 o4_2) Hk U):Hk [x23,VI x24,VI x25] [.cells [VS o2_0,o2_1,VS o2_2],.cells [VS o4_0,.any,VS o4_2],.vec 1 o4_1] U :=
 gQ MZ h
def Lv(a0_0:ByteArray)(e0:List (List AV))(a0_2:ByteArray):Tree :=
 .call 23 [.agg [VS a0_0,.sl e0,VS a0_2]] [] fun r1 o1=>NB r1<|.test (!r1.toBool) (.done 0 [.cH [.agg [VS (mk []),.vec 1,VS (mk [])],VB false]] [.dead,.vec 1 []]) (.done 0 [.cH [.agg [VS a0_0,.vec 1,VS a0_2],VB true]] [.dead,.vec 1 e0])
theorem RP(a0_0:ByteArray)(e0:List (List AV))(a0_2:ByteArray)(h:di 9 (Lv a0_0 e0 a0_2) R):an Tryz.prog 41 [.agg [VS a0_0,.vec 0,VS a0_2]] [.vec 1 e0] R :=
 an.mY (bw (fH _) cv) (an.up (ah (aA _) aC) (oF [] {mu:=[(0,.one (.uS [.lk .str,.vec 1,.lk .str]))],own:=[0],oa:=[.lk .str,.vec 1,.lk .str]} Tryz.f41 h))
def HK:LI:={hd:={bS:=[(0,.k .sl),(1,.k .sl),(5,.k (.int .i64))]},xs:={},rt:={bS:=[(4,.k .bool)]},ex:=0}
def Mw:Code:=cG (cB Tryz.f42) 4
def JA:List (Nat×LI):=[(4,HK)]
def Ot(a0:AV)(a1:AV):Tree :=
 NL a0<|NL a1<|.test ((a0.elems.length:Int) != (a1.elems.length:Int)) (.done 0 [VB false] []) (.loop Mw HK [a0,a1,VI 0] [] (fun y1 q1=>.done 0 [VB true] []) (fun y1 q1=>NB (y1.hA)<|.done 0 [VB ((y1.hA).toBool)] []))
theorem SP(a0:AV)(a1:AV)(ha0:LK.has .sl a0)(ha1:LK.has .sl a1)(h:di 26 (Ot a0 a1) R):an Tryz.prog 42 [a0,a1] [] R :=
 uQ (ah (bP ha0) (ah (bP ha1) aC)) (oQ JA Tryz.f42 h)
def Ha(x0:AV)(x1:AV)(x5:Int):Tree :=
 NL x0<|NL x1<|NI (VI x5)<|NL x0<|.test (decide (x5<(x0.elems.length:Int))) (NG x0 x5 1<|kK (x0.ix x5)<|NG x1 x5 1<|kK (x1.ix x5)<|.test (!(af (((x0.ix x5).hA).toStr)==af (((x1.ix x5).hA).toStr))) (.done 2 [VB false] []) (.done 0 [x0,x1,VI (IntKind.wrap .i64 (x5+1))] [])) (.done 1 [] [])
abbrev Gg:=cA Tryz.prog 26 Mw HK
theorem Jh(x0:AV)(x1:AV)(x5:Int)(h:ka 26 (Ha x0 x1 x5) Gg U):Gg [x0,x1,VI x5] [] U :=
 gQ JA h
def Lf(a0_0:AV)(a0_1:Int)(a1:Int):Tree :=
 .test (decide (a1<(1:Int))) (.done 0 [VI 0] [.cells [a0_0,VI (IntKind.wrap .i64 (a0_1+1))]]) (NL a0_0<|.test ((a0_0.elems.length:Int)==(0:Int)) (.done 0 [VI 0] [.cells [a0_0,VI (IntKind.wrap .i64 (a0_1+1))]]) (NL a0_0<|.test (decide ((IntKind.wrap .i64 ((IntKind.wrap .i64 (a0_1+1))-1))<(a0_0.elems.length:Int))) (.ai (LK.has .sl a0_0/\0<=(IntKind.wrap .i64 ((IntKind.wrap .i64 (a0_1+1))-1))/\(IntKind.wrap .i64 ((IntKind.wrap .i64 (a0_1+1))-1))<a0_0.elems.length/\(a0_0.ix (IntKind.wrap .i64 ((IntKind.wrap .i64 (a0_1+1))-1))).length=1)<|.ai (LK.has (.int .u8) ((a0_0.ix (IntKind.wrap .i64 ((IntKind.wrap .i64 (a0_1+1))-1))).hA)/\1<=(a0_0.ix (IntKind.wrap .i64 ((IntKind.wrap .i64 (a0_1+1))-1))).length)<|.ai (¬a1=0)<|.done 0 [VI (dF (IntKind.wrap .i64 (((a0_0.ix (IntKind.wrap .i64 ((IntKind.wrap .i64 (a0_1+1))-1))).hA).toInt)) a1)] [.cells [a0_0,VI (IntKind.wrap .i64 (a0_1+1))]]) (NL a0_0<|.ai (¬(a0_0.elems.length:Int)=0)<|.ai (LK.has .sl a0_0/\0<=(dF (IntKind.wrap .i64 ((IntKind.wrap .i64 (a0_1+1))-1)) (a0_0.elems.length:Int))/\(dF (IntKind.wrap .i64 ((IntKind.wrap .i64 (a0_1+1))-1)) (a0_0.elems.length:Int))<a0_0.elems.length/\(a0_0.ix (dF (IntKind.wrap .i64 ((IntKind.wrap .i64 (a0_1+1))-1)) (a0_0.elems.length:Int))).length=1)<|.ai (LK.has (.int .u8) ((a0_0.ix (dF (IntKind.wrap .i64 ((IntKind.wrap .i64 (a0_1+1))-1)) (a0_0.elems.length:Int))).hA)/\1<=(a0_0.ix (dF (IntKind.wrap .i64 ((IntKind.wrap .i64 (a0_1+1))-1)) (a0_0.elems.length:Int))).length)<|NL a0_0<|.ai (¬(a0_0.elems.length:Int)=0)<|.ai (LK.has .sl a0_0/\0<=(dF (IntKind.wrap .i64 ((IntKind.wrap .i64 ((IntKind.wrap .i64 ((IntKind.wrap .i64 (a0_1+1))-1))*7))+3)) (a0_0.elems.length:Int))/\(dF (IntKind.wrap .i64 ((IntKind.wrap .i64 ((IntKind.wrap .i64 ((IntKind.wrap .i64 (a0_1+1))-1))*7))+3)) (a0_0.elems.length:Int))<a0_0.elems.length/\(a0_0.ix (dF (IntKind.wrap .i64 ((IntKind.wrap .i64 ((IntKind.wrap .i64 ((IntKind.wrap .i64 (a0_1+1))-1))*7))+3)) (a0_0.elems.length:Int))).length=1)<|.ai (LK.has (.int .u8) ((a0_0.ix (dF (IntKind.wrap .i64 ((IntKind.wrap .i64 ((IntKind.wrap .i64 ((IntKind.wrap .i64 (a0_1+1))-1))*7))+3)) (a0_0.elems.length:Int))).hA)/\1<=(a0_0.ix (dF (IntKind.wrap .i64 ((IntKind.wrap .i64 ((IntKind.wrap .i64 ((IntKind.wrap .i64 (a0_1+1))-1))*7))+3)) (a0_0.elems.length:Int))).length)<|NL a0_0<|.ai (¬(a0_0.elems.length:Int)=0)<|.ai (¬(64:Int)=0)<|.ai (¬a1=0)<|.done 0 [VI (dF (BU .i64 (IntKind.wrap .i64 ((IntKind.wrap .i64 ((IntKind.wrap .i64 ((IntKind.wrap .i64 ((IntKind.wrap .i64 (((a0_0.ix (dF (IntKind.wrap .i64 ((IntKind.wrap .i64 (a0_1+1))-1)) (a0_0.elems.length:Int))).hA).toInt))*131))+(IntKind.wrap .i64 ((IntKind.wrap .i64 (((a0_0.ix (dF (IntKind.wrap .i64 ((IntKind.wrap .i64 ((IntKind.wrap .i64 ((IntKind.wrap .i64 (a0_1+1))-1))*7))+3)) (a0_0.elems.length:Int))).hA).toInt))*1117))))+(IntKind.wrap .i64 ((IntKind.wrap .i64 ((IntKind.wrap .i64 (a0_1+1))-1))*29))))+(IntKind.wrap .i64 ((IntKind.wrap .i64 (Int.tdiv (IntKind.wrap .i64 ((IntKind.wrap .i64 (a0_1+1))-1)) (a0_0.elems.length:Int)))*53)))) (IntKind.wrap .i64 (Int.tdiv (IntKind.wrap .i64 ((IntKind.wrap .i64 ((IntKind.wrap .i64 ((IntKind.wrap .i64 ((IntKind.wrap .i64 (((a0_0.ix (dF (IntKind.wrap .i64 ((IntKind.wrap .i64 (a0_1+1))-1)) (a0_0.elems.length:Int))).hA).toInt))*131))+(IntKind.wrap .i64 ((IntKind.wrap .i64 (((a0_0.ix (dF (IntKind.wrap .i64 ((IntKind.wrap .i64 ((IntKind.wrap .i64 ((IntKind.wrap .i64 (a0_1+1))-1))*7))+3)) (a0_0.elems.length:Int))).hA).toInt))*1117))))+(IntKind.wrap .i64 ((IntKind.wrap .i64 ((IntKind.wrap .i64 (a0_1+1))-1))*29))))+(IntKind.wrap .i64 ((IntKind.wrap .i64 (Int.tdiv (IntKind.wrap .i64 ((IntKind.wrap .i64 (a0_1+1))-1)) (a0_0.elems.length:Int)))*53)))) 64))) a1)] [.cells [a0_0,VI (IntKind.wrap .i64 (a0_1+1))]])))
theorem RC(a0_0:AV)(a0_1:Int)(a1:Int)(ha0_0:LK.has .sl a0_0)(h:di 99 (Lf a0_0 a0_1 a1) R):an Tryz.prog 43 [.ref 0 0,VI a1] [.cells [a0_0,VI a0_1]] R :=
 an.mY (bw (ca (ah (bP ha0_0) (ah (aA _) aC))) cv) (an.up (ah (aA _) (ah (aA _) aC)) (oF [] {mu:=[(0,.one (.obj [.lk .sl,.lk (.int .i64)]))],own:=[]} Tryz.f43 h))
def H4(a0:AV)(a1:Int):Tree :=
 NP a0<|.test a0.isNil (.done 0 [.v (.pointer none)] []) (NZ a0<|NZ a0<|nA (a0.deref.drop 2)<|NL ((a0.deref.drop 2).hA)<|.test (((((a0.deref.drop 2).hA).elems).length:Int)==(50:Int)) (.done 0 [.v (.pointer none)] []) (NZ a0<|NZ a0<|dP (a0.deref.drop 1)<|NZ a0<|NZ a0<|dP (a0.deref.drop 3)<|.call 58 [((a0.deref.drop 1).hA),((a0.deref.drop 3).hA)] [] fun r1 o1=>NL r1<|.test (decide (a1<(0:Int))) (.done 0 [.v (.pointer none)] []) (NL r1<|.test (decide (a1≥(r1.elems.length:Int))) (.done 0 [.v (.pointer none)] []) (NG r1 a1 2<|dP (r1.ix a1)<|.call 56 [((r1.ix a1).hA)] [] fun r2 o2=>NI r2<|.test (decide (r2.toInt>(200:Int))) (.done 0 [.v (.pointer none)] []) (NZ a0<|NZ a0<|nA (a0.deref.drop 2)<|.ai (LK.has .sl ((a0.deref.drop 2).hA)/\cC 1 (((a0.deref.drop 2).hA).elems)/\((([]:List (List AV)).length)+(((a0.deref.drop 2).hA).elems).length)*8<=140737488355328)<|NG r1 a1 2<|dP (r1.ix a1)<|.ai (cC 1 [[((r1.ix a1).hA)]]/\(((([]:List (List AV))++(((a0.deref.drop 2).hA).elems)).length)+([[((r1.ix a1).hA)]]:List (List AV)).length)*8<=140737488355328)<|NZ a0<|NZ a0<|.ai (LK.has .str (a0.deref.hA)/\1<=a0.deref.length)<|NZ a0<|NZ a0<|dP (a0.deref.drop 1)<|NG r1 a1 2<|dP ((r1.ix a1).drop 1)<|.done 0 [.ptr [VS ((a0.deref.hA).toStr),((a0.deref.drop 1).hA),.sl ((([]:List (List AV))++(((a0.deref.drop 2).hA).elems))++([[((r1.ix a1).hA)]]:List (List AV))),(((r1.ix a1).drop 1).hA)]] [])))))
theorem Ox(a0:AV)(a1:Int)(ha0:LK.has .ptr a0)(h:di 72 (H4 a0 a1) R):an Tryz.prog 44 [a0,VI a1] [] R :=
 uQ (ah (bB ha0) (ah (aA _) aC)) (oQ [] Tryz.f44 h)
def KD(a0:Int)(a1:Int)(a2:Int):Tree :=
 .test (decide (a0≥a1)) (.done 0 [VB (decide (a0<=a2))] []) (.done 0 [VB false] [])
theorem P4(a0:Int)(a1:Int)(a2:Int)(h:di 15 (KD a0 a1 a2) R):an Tryz.prog 45 [VI a0,VI a1,VI a2] [] R :=
 uQ (ah (aA _) (ah (aA _) (ah (aA _) aC))) (oQ [] Tryz.f45 h)
def Hj:LI:={hd:={bS:=[(3,.k .str),(7,.k (.int .i64))],refs:=[(1,1)],cq:=[(1,[.lk .str,.lk .sl,.lk .str])]},xs:={},rt:={bS:=[(2,.k .bool)]},ex:=0}
def Lh:Code:=cG (cB Tryz.f46) 6
def Nt:List (Nat×LI):=[(6,Hj)]
def Lp(a0_0:ByteArray)(a0_1:AV)(a0_2:ByteArray):Tree :=
 .call 66 [VS a0_0] [] fun r1 o1=>NT r1<|NS (r1.comp 0)<|NB (r1.comp 1)<|.call 67 [VS a0_0] [] fun r2 o2=>NT r2<|.ai ((r2.comp 0)=.agg (r2.comp 0).cs/\(r2.comp 0).cs.length=2/\bI [.str,.sl] ((r2.comp 0).cs) 0)<|NB (r2.comp 1)<|.test (!((r1.comp 1).toBool)) (.done 0 [VB false] []) (.test (!((r2.comp 1).toBool)) (.done 0 [VB false] []) (NL a0_1<|.test (decide ((a0_1.elems.length:Int)>(50:Int))) (.done 0 [VB false] []) (.call 68 [VS a0_0,VS a0_2,VI 100] [] fun r3 o3=>NB r3<|.test (!r3.toBool) (.done 0 [VB false] []) (.loop Lh Hj [VS ((r1.comp 0).toStr),VI 0] [.cells [VS a0_0,a0_1,VS a0_2]] (fun y5 q5=>.done 0 [VB true] []) (fun y5 q5=>NB (y5.hA)<|.done 0 [VB ((y5.hA).toBool)] [])))))
theorem QG(a0_0:ByteArray)(a0_1:AV)(a0_2:ByteArray)(ha0_1:LK.has .sl a0_1)(h:di 55 (Lp a0_0 a0_1 a0_2) R):an Tryz.prog 46 [.agg [VS a0_0,a0_1,VS a0_2]] [] R :=
 uQ (ah (cb (ah (aA _) (ah (bP ha0_1) (ah (aA _) aC)))) aC) (oQ Nt Tryz.f46 h)
def HN(x3:ByteArray)(x7:Int)(o1_0:ByteArray)(o1_1:AV)(o1_2:ByteArray):Tree :=
 NS (VS x3)<|NI (VI x7)<|.ai (Ob.cells [VS o1_0,o1_1,VS o1_2]=.cells [VS o1_0,o1_1,VS o1_2])<|.ai (ae [.lk .str,.lk .sl,.lk .str] [VS o1_0,o1_1,VS o1_2] 0 [])<|NL o1_1<|.test (decide (x7<(o1_1.elems.length:Int))) (NG o1_1 x7 1<|kK (o1_1.ix x7)<|.call 68 [VS x3,VS (((o1_1.ix x7).hA).toStr),VI 100] [] fun r1 o1=>NB r1<|.test (!r1.toBool) (.done 2 [VB false] []) (.done 0 [VS x3,VI (IntKind.wrap .i64 (x7+1))] [.cells [VS o1_0,o1_1,VS o1_2]])) (.done 1 [] [])
abbrev GQ:=cA Tryz.prog 55 Lh Hj
theorem Kp(x3:ByteArray)(x7:Int)(o1_0:ByteArray)(o1_1:AV)(o1_2:ByteArray)(h:ka 55 (HN x3 x7 o1_0 o1_1 o1_2) GQ U):GQ [VS x3,VI x7] [.cells [VS o1_0,o1_1,VS o1_2]] U :=
 gQ Nt h
def GM:LI:={hd:={refs:=[(1,1),(2,2)],cq:=[(1,[.lk .str,.lk .sl,.lk .str]),(2,[.lk .str,.lk .sl,.lk .str])]},xs:={refs:=[(1,1),(2,2)],cq:=[(1,[.lk .str,.lk .sl,.lk .str]),(2,[.lk .str,.lk .sl,.lk .str])]},rt:={bS:=[(3,.k .bool)],refs:=[(2,2)],cq:=[(2,[.lk .str,.lk .sl,.lk .str])]},ex:=0}
def Oe:Code:=cG (cB Tryz.f47) 1
def ME:List (Nat×LI):=[(1,GM)]
def Lx(a0_0:ByteArray)(a0_1:AV)(a0_2:ByteArray):Tree :=
 .loop Oe GM [] [.cells [VS a0_0,a0_1,VS a0_2],.cells [VS (mk []),.v (.slice none 0 0),VS (mk [])]] (fun y2 q2=>.ai ((q2.hO)=.cells (q2.hO).cs)<|.ai (ae [.lk .str,.lk .sl,.lk .str] ((q2.hO).cs) 0 q2.tail)<|.ai (((q2.tail.drop 0).hO)=.cells ((q2.tail.drop 0).hO).cs)<|.ai (ae [.lk .str,.lk .sl,.lk .str] (((q2.tail.drop 0).hO).cs) 0 ((q2.tail.drop 0).tail))<|.done 0 [.cH [.agg [VS (((q2.hO).cs.getD 0 .any).toStr),((q2.hO).cs.getD 1 .any),VS (((q2.hO).cs.getD 2 .any).toStr)],VB true]] []) (fun y2 q2=>NB (y2.hA)<|.ai ((q2.hO)=.cells (q2.hO).cs)<|.ai (ae [.lk .str,.lk .sl,.lk .str] ((q2.hO).cs) 0 q2.tail)<|.done 0 [.cH [.agg [VS (((q2.hO).cs.getD 0 .any).toStr),((q2.hO).cs.getD 1 .any),VS (((q2.hO).cs.getD 2 .any).toStr)],VB ((y2.hA).toBool)]] [])
theorem RU(a0_0:ByteArray)(a0_1:AV)(a0_2:ByteArray)(ha0_1:LK.has .sl a0_1)(h:di 20 (Lx a0_0 a0_1 a0_2) R):an Tryz.prog 47 [.agg [VS a0_0,a0_1,VS a0_2]] [] R :=
 uQ (ah (cb (ah (aA _) (ah (bP ha0_1) (ah (aA _) aC)))) aC) (oQ ME Tryz.f47 h)
def Hu(o1_0:ByteArray)(o1_1:AV)(o1_2:ByteArray)(o2_0:ByteArray)(o2_1:AV)(o2_2:ByteArray):Tree :=
 .ai (Ob.cells [VS o1_0,o1_1,VS o1_2]=.cells [VS o1_0,o1_1,VS o1_2])<|.ai (ae [.lk .str,.lk .sl,.lk .str] [VS o1_0,o1_1,VS o1_2] 0 [.cells [VS o2_0,o2_1,VS o2_2]])<|.ai (Ob.cells [VS o2_0,o2_1,VS o2_2]=.cells [VS o2_0,o2_1,VS o2_2])<|.ai (ae [.lk .str,.lk .sl,.lk .str] [VS o2_0,o2_1,VS o2_2] 0 [])<|NL o1_1<|.test (decide ((o1_1.elems.length:Int)>(0:Int))) (.call 38 [.agg [VS o1_0,o1_1,VS o1_2]] [] fun r1 o1=>NT r1<|.ai ((r1.comp 0)=.agg (r1.comp 0).cs/\(r1.comp 0).cs.length=3/\bI [.str,.sl,.str] ((r1.comp 0).cs) 0)<|NB (r1.comp 1)<|.test (!((r1.comp 1).toBool)) (.done 2 [VB false] [.cells [VS o1_0,o1_1,VS o1_2]]) (.done 0 [] [.cells [VS (((r1.comp 0).cs.getD 0 .any).toStr),((r1.comp 0).cs.getD 1 .any),VS (((r1.comp 0).cs.getD 2 .any).toStr)],.cells [VS o2_0,o2_1,VS o2_2]])) (.done 1 [] [.cells [VS o1_0,o1_1,VS o1_2],.cells [VS o2_0,o2_1,VS o2_2]])
abbrev Ia:=cA Tryz.prog 20 Oe GM
theorem Jf(o1_0:ByteArray)(o1_1:AV)(o1_2:ByteArray)(o2_0:ByteArray)(o2_1:AV)(o2_2:ByteArray)(h:ka 20 (Hu o1_0 o1_1 o1_2 o2_0 o2_1 o2_2) Ia U):Ia [] [.cells [VS o1_0,o1_1,VS o1_2],.cells [VS o2_0,o2_1,VS o2_2]] U :=
 gQ ME h
def xF(a0:AV):Tree :=
 NZ a0<|NZ a0<|.ai (LK.has (.int .u8) (a0.deref.hA)/\1<=a0.deref.length)<|.test (((a0.deref.hA).toInt)==(117:Int)) (.done 0 [VS (mk [117])] []) (.test (((a0.deref.hA).toInt)==(101:Int)) (NZ a0<|NZ a0<|kK (a0.deref.drop 1)<|.done 0 [VS (((a0.deref.drop 1).hA).toStr)] []) (.test (((a0.deref.hA).toInt)==(112:Int)) (NZ a0<|NZ a0<|dP (a0.deref.drop 2)<|.call 48 [((a0.deref.drop 2).hA)] [] fun r1 o1=>NS r1<|.ai (ag (mk [40,112,32])+ag r1.toStr<=9223372036854775807)<|.ai (ag (((mk [40,112,32]):ByteArray)++r1.toStr)+ag (mk [32])<=9223372036854775807)<|NZ a0<|NZ a0<|dP (a0.deref.drop 3)<|.call 48 [((a0.deref.drop 3).hA)] [] fun r2 o2=>NS r2<|.ai (ag (((((mk [40,112,32]):ByteArray)++r1.toStr):ByteArray)++(mk [32]))+ag r2.toStr<=9223372036854775807)<|.ai (ag (((((((mk [40,112,32]):ByteArray)++r1.toStr):ByteArray)++(mk [32])):ByteArray)++r2.toStr)+ag (mk [41])<=9223372036854775807)<|.done 0 [VS (((((((((mk [40,112,32]):ByteArray)++r1.toStr):ByteArray)++(mk [32])):ByteArray)++r2.toStr):ByteArray)++(mk [41]))] []) (NZ a0<|NZ a0<|.ai (LK.has (.int .u8) (a0.deref.hA)/\1<=a0.deref.length)<|.ai (jA [[.v (.int .u8 ((a0.deref.hA).toInt))]])<|.ai (ag (mk [40])+ag (⟨(bytesOf [[.v (.int .u8 ((a0.deref.hA).toInt))]]).toArray⟩)<=9223372036854775807)<|.ai (ag (((mk [40]):ByteArray)++(⟨(bytesOf [[.v (.int .u8 ((a0.deref.hA).toInt))]]).toArray⟩))+ag (mk [32])<=9223372036854775807)<|NZ a0<|NZ a0<|dP (a0.deref.drop 2)<|.call 48 [((a0.deref.drop 2).hA)] [] fun r3 o3=>NS r3<|.ai (ag (((((mk [40]):ByteArray)++(⟨(bytesOf [[.v (.int .u8 ((a0.deref.hA).toInt))]]).toArray⟩)):ByteArray)++(mk [32]))+ag r3.toStr<=9223372036854775807)<|.ai (ag (((((((mk [40]):ByteArray)++(⟨(bytesOf [[.v (.int .u8 ((a0.deref.hA).toInt))]]).toArray⟩)):ByteArray)++(mk [32])):ByteArray)++r3.toStr)+ag (mk [41])<=9223372036854775807)<|.done 0 [VS (((((((((mk [40]):ByteArray)++(⟨(bytesOf [[.v (.int .u8 ((a0.deref.hA).toInt))]]).toArray⟩)):ByteArray)++(mk [32])):ByteArray)++r3.toStr):ByteArray)++(mk [41]))] [])))
theorem zV(a0:AV)(ha0:LK.has .ptr a0)(h:di 46 (xF a0) R):an Tryz.prog 48 [a0] [] R :=
 uQ (ah (bB ha0) aC) (oQ [] Tryz.f48 h)
def ID:LI:={hd:={bS:=[(5,.k .str),(45,.k .sl),(46,.k (.int .i64)),(47,.k (.int .i64))],refs:=[(7,43)],cq:=[(43,[.lk .str,.lk .ptr,.vec 1,.lk .ptr])]},xs:={refs:=[(7,43)],cq:=[(43,[.lk .str,.lk .ptr,.vec 1,.lk .ptr])]},rt:={bS:=[(2,.k .ptr)]},ex:=0}
def L7:Code:=cG (cB Tryz.f49) 7
def KO:List (Nat×LI):=[(7,ID)]
def JR(a0_0:ByteArray)(a0_1:AV)(a0_2:ByteArray):Tree :=
 .call 69 [VS a0_0,VS a0_2] [] fun r1 o1=>NT r1<|NP (r1.comp 0)<|NP (r1.comp 1)<|.call 70 [VS a0_0] [] fun r2 o2=>NT r2<|NS (r2.comp 0)<|NB (r2.comp 1)<|NP (r1.comp 1)<|.test ((r1.comp 1).isNil) (.done 0 [.v (.pointer none)] []) (.test (!((r2.comp 1).toBool)) (.done 0 [.v (.pointer none)] []) (NL a0_1<|.test (decide ((a0_1.elems.length:Int)>(50:Int))) (.done 0 [.v (.pointer none)] []) (NL a0_1<|.loop L7 ID [VS ((r2.comp 0).toStr),a0_1,VI (a0_1.elems.length:Int),VI 0] [.cells [VS a0_0,(r1.comp 0),.any,(r1.comp 1)],.vec 1 []] (fun y5 q5=>.ai ((q5.hO)=.cells (q5.hO).cs)<|.ai (ae [.lk .str,.lk .ptr,.vec 1,.lk .ptr] ((q5.hO).cs) 0 q5.tail)<|.done 0 [.ptr [VS (((q5.hO).cs.getD 0 .any).toStr),((q5.hO).cs.getD 1 .any),.sl ((q5.tail.hO).es),((q5.hO).cs.getD 3 .any)]] []) (fun y5 q5=>NP (y5.hA)<|.done 0 [(y5.hA)] []))))
theorem PU(a0_0:ByteArray)(a0_1:AV)(a0_2:ByteArray)(ha0_1:LK.has .sl a0_1)(h:di 71 (JR a0_0 a0_1 a0_2) R):an Tryz.prog 49 [.agg [VS a0_0,a0_1,VS a0_2]] [] R :=
 uQ (ah (cb (ah (aA _) (ah (bP ha0_1) (ah (aA _) aC)))) aC) (oQ KO Tryz.f49 h)
def Gw(x5:ByteArray)(x45:AV)(x46:Int)(x47:Int)(o43_0:ByteArray)(o43_1:AV)(o43_2:List (List AV))(o43_3:AV):Tree :=
 NS (VS x5)<|NL x45<|NI (VI x46)<|NI (VI x47)<|.ai (Ob.cells [VS o43_0,o43_1,.any,o43_3]=.cells [VS o43_0,o43_1,.any,o43_3])<|.ai (ae [.lk .str,.lk .ptr,.vec 1,.lk .ptr] [VS o43_0,o43_1,.any,o43_3] 0 [.vec 1 o43_2])<|.test (decide (x47<x46)) (NG x45 x47 1<|kK (x45.ix x47)<|.call 71 [VS x5,VS (((x45.ix x47).hA).toStr),VI 100] [] fun r1 o1=>NT r1<|NP (r1.comp 0)<|NP (r1.comp 1)<|NP (r1.comp 1)<|.test ((r1.comp 1).isNil) (.done 2 [.v (.pointer none)] []) (.ai (cC 1 [[(r1.comp 1)]]/\((o43_2.length)+([[(r1.comp 1)]]:List (List AV)).length)*8<=140737488355328)<|.done 0 [VS x5,x45,VI x46,VI (IntKind.wrap .i64 (x47+1))] [.cells [VS o43_0,o43_1,.any,o43_3],.vec 1 (o43_2++([[(r1.comp 1)]]:List (List AV)))])) (.done 1 [] [.cells [VS o43_0,o43_1,.any,o43_3],.vec 1 o43_2])
abbrev HS:=cA Tryz.prog 71 L7 ID
theorem Mz(x5:ByteArray)(x45:AV)(x46:Int)(x47:Int)(o43_0:ByteArray)(o43_1:AV)(o43_2:List (List AV))(o43_3:AV)(h:ka 71 (Gw x5 x45 x46 x47 o43_0 o43_1 o43_2 o43_3) HS U):HS [VS x5,x45,VI x46,VI x47] [.cells [VS o43_0,o43_1,.any,o43_3],.vec 1 o43_2] U :=
 gQ KO h
def Ow(a0_0:ByteArray)(a0_1:AV)(a0_2:ByteArray):Tree :=
 .call 23 [.agg [VS a0_0,a0_1,VS a0_2]] [] fun r1 o1=>NB r1<|.test (!r1.toBool) (.done 0 [VI (-1)] []) (.call 51 [VS a0_0,VS a0_2] [] fun r2 o2=>NT r2<|NL (r2.comp 0)<|NB (r2.comp 1)<|NL (r2.comp 0)<|.done 0 [VI (((r2.comp 0).elems).length:Int)] [])
theorem Sc(a0_0:ByteArray)(a0_1:AV)(a0_2:ByteArray)(ha0_1:LK.has .sl a0_1)(h:di 18 (Ow a0_0 a0_1 a0_2) R):an Tryz.prog 50 [.agg [VS a0_0,a0_1,VS a0_2]] [] R :=
 uQ (ah (cb (ah (aA _) (ah (bP ha0_1) (ah (aA _) aC)))) aC) (oQ [] Tryz.f50 h)
def K0(a0:ByteArray)(a1:ByteArray):Tree :=
 .call 67 [VS a0] [] fun r1 o1=>NT r1<|.ai ((r1.comp 0)=.agg (r1.comp 0).cs/\(r1.comp 0).cs.length=2/\bI [.str,.sl] ((r1.comp 0).cs) 0)<|NB (r1.comp 1)<|.call 72 [VS a1] [] fun r2 o2=>NT r2<|.ai ((r2.comp 0)=.agg (r2.comp 0).cs/\(r2.comp 0).cs.length=2/\bI [.str,.sl] ((r2.comp 0).cs) 0)<|NB (r2.comp 1)<|.test (!((r1.comp 1).toBool)) (.done 0 [.cH [.sl [],VB false]] []) (.call 68 [VS a0,VS a1,VI 100] [] fun r3 o3=>NB r3<|.test (!r3.toBool) (.done 0 [.cH [.sl [],VB false]] []) (NG ((r1.comp 0).cs.getD 1 .any) 2 2<|NE (((r1.comp 0).cs.getD 1 .any).ix (2:Int))<|NG ((r1.comp 0).cs.getD 1 .any) 1 2<|kK (((r1.comp 0).cs.getD 1 .any).ix (1:Int))<|NG ((r2.comp 0).cs.getD 1 .any) 1 2<|NE (((r2.comp 0).cs.getD 1 .any).ix (1:Int))<|.call 74 [.agg [VS (((((r1.comp 0).cs.getD 1 .any).ix (2:Int)).getD 0 .any).toStr),((((r1.comp 0).cs.getD 1 .any).ix (2:Int)).getD 1 .any)],VS (((((r1.comp 0).cs.getD 1 .any).ix (1:Int)).hA).toStr),.agg [VS (((((r2.comp 0).cs.getD 1 .any).ix (1:Int)).getD 0 .any).toStr),((((r2.comp 0).cs.getD 1 .any).ix (1:Int)).getD 1 .any)]] [] fun r4 o4=>NL r4<|.call 73 [r4] [] fun r5 o5=>NL r5<|.done 0 [.cH [r5,VB true]] []))
theorem SM(a0:ByteArray)(a1:ByteArray)(h:di 44 (K0 a0 a1) R):an Tryz.prog 51 [VS a0,VS a1] [] R :=
 uQ (ah (aA _) (ah (aA _) aC)) (oQ [] Tryz.f51 h)
def Ns(a0:AV)(a1:ByteArray):Tree :=
 .ai (LK.has .sl a0/\cC 1 a0.elems/\((([]:List (List AV)).length)+a0.elems.length)*16<=140737488355328)<|.ai (cC 1 [[VS a1]]/\(((([]:List (List AV))++a0.elems).length)+([[VS a1]]:List (List AV)).length)*16<=140737488355328)<|.done 0 [.vec 0] [.vec 1 ((([]:List (List AV))++a0.elems)++([[VS a1]]:List (List AV)))]
theorem Sb(a0:AV)(a1:ByteArray)(ha0:LK.has .sl a0)(h:di 11 (Ns a0 a1) R):an Tryz.prog 52 [a0,VS a1] [] R :=
 uQ (ah (bP ha0) (ah (aA _) aC)) (oF [] {mu:=[],own:=[0]} Tryz.f52 h)
def ND(a0_0:AV)(a0_1:Int):Tree :=
 .call 75 [.ref 0 0] [.cells [a0_0,VI a0_1]] fun r1 o1=>.ai ((o1.hO)=.cells (o1.hO).cs)<|.ai (aK [.lk .sl,.lk (.int .i64)] ((o1.hO).cs) 0 1 o1.tail)<|NS r1<|.call 43 [.ref 0 0,VI 12] [.cells [((o1.hO).cs.getD 0 .any),VI (((o1.hO).cs.getD 1 .any).toInt)]] fun r2 o2=>.ai ((o2.hO)=.cells (o2.hO).cs)<|.ai (aK [.lk .sl,.lk (.int .i64)] ((o2.hO).cs) 0 1 o2.tail)<|NI r2<|.test (r2.toInt==(0:Int)) (.call 76 [.ref 0 0] [.cells [((o2.hO).cs.getD 0 .any),VI (((o2.hO).cs.getD 1 .any).toInt)]] fun r3 o3=>.ai ((o3.hO)=.cells (o3.hO).cs)<|.ai (aK [.lk .sl,.lk (.int .i64)] ((o3.hO).cs) 0 1 o3.tail)<|NT r3<|NS (r3.comp 0)<|NS (r3.comp 1)<|.done 0 [.cH [VS ((r3.comp 0).toStr),VS ((r3.comp 1).toStr)]] [.cells [((o3.hO).cs.getD 0 .any),VI (((o3.hO).cs.getD 1 .any).toInt)]]) (.call 39 [.ref 0 0,VS r1.toStr] [.cells [((o2.hO).cs.getD 0 .any),VI (((o2.hO).cs.getD 1 .any).toInt)]] fun r4 o4=>.ai ((o4.hO)=.cells (o4.hO).cs)<|.ai (aK [.lk .sl,.lk (.int .i64)] ((o4.hO).cs) 0 1 o4.tail)<|NS r4<|.done 0 [.cH [VS r1.toStr,VS r4.toStr]] [.cells [((o4.hO).cs.getD 0 .any),VI (((o4.hO).cs.getD 1 .any).toInt)]])
theorem Rr(a0_0:AV)(a0_1:Int)(ha0_0:LK.has .sl a0_0)(h:di 18 (ND a0_0 a0_1) R):an Tryz.prog 53 [.ref 0 0] [.cells [a0_0,VI a0_1]] R :=
 an.mY (bw (ca (ah (bP ha0_0) (ah (aA _) aC))) cv) (an.up (ah (aA _) aC) (oF [] {mu:=[(0,.one (.obj [.lk .sl,.lk (.int .i64)]))],own:=[]} Tryz.f53 h))
def Ms(a0:ByteArray)(a1:ByteArray):Tree :=
 .call 41 [.agg [VS a0,.vec 0,VS a1]] [.vec 1 []] fun r1 o1=>NT r1<|.ai ((r1.comp 0)=.agg (r1.comp 0).cs/\aK [.lk .str,.vec 1,.lk .str] ((r1.comp 0).cs) 0 1 o1.tail)<|NB (r1.comp 1)<|.done 0 [.cH [.agg [VS (((r1.comp 0).cs.getD 0 .any).toStr),.vec 0,VS (((r1.comp 0).cs.getD 2 .any).toStr)],VB ((r1.comp 1).toBool)]] [.vec 1 ((o1.tail.hO).es)]
theorem Rh(a0:ByteArray)(a1:ByteArray)(h:di 13 (Ms a0 a1) R):an Tryz.prog 54 [VS a0,VS a1] [] R :=
 uQ (ah (aA _) (ah (aA _) aC)) (oF [] {mu:=[],own:=[0],oa:=[.lk .str,.vec 1,.lk .str]} Tryz.f54 h)
def Nj(a0:AV)(a1:AV)(a2:AV):Tree :=
 .call 77 [.agg [a0,.v (.pointer none)]] [] fun r1 o1=>NT r1<|.ai ((r1.comp 0)=.agg (r1.comp 0).cs/\(r1.comp 0).cs.length=2/\bI [.ptr,.ptr] ((r1.comp 0).cs) 0)<|NP (r1.comp 1)<|.call 79 [.agg [((r1.comp 0).cs.getD 0 .any),((r1.comp 0).cs.getD 1 .any)],a1,.agg [VS (mk []),(r1.comp 1)],a2] [] fun r2 o2=>NP r2<|.call 78 [.v (.int .u8 102),r2] [] fun r3 o3=>NP r3<|.done 0 [r3] []
theorem P6(a0:AV)(a1:AV)(a2:AV)(ha0:LK.has .ptr a0)(ha1:LK.has .ptr a1)(ha2:LK.has .ptr a2)(h:di 22 (Nj a0 a1 a2) R):an Tryz.prog 55 [a0,a1,a2] [] R :=
 uQ (ah (bB ha0) (ah (bB ha1) (ah (bB ha2) aC))) (oQ [] Tryz.f55 h)
def Iq(a0:AV):Tree :=
 NZ a0<|NZ a0<|dP (a0.deref.drop 2)<|NP ((a0.deref.drop 2).hA)<|.test (!((a0.deref.drop 2).hA).isNil) (NZ a0<|NZ a0<|dP (a0.deref.drop 2)<|.call 56 [((a0.deref.drop 2).hA)] [] fun r1 o1=>NI r1<|NZ a0<|NZ a0<|dP (a0.deref.drop 3)<|NP ((a0.deref.drop 3).hA)<|.test (!((a0.deref.drop 3).hA).isNil) (NZ a0<|NZ a0<|dP (a0.deref.drop 3)<|.call 56 [((a0.deref.drop 3).hA)] [] fun r2 o2=>NI r2<|.done 0 [VI (IntKind.wrap .i64 ((IntKind.wrap .i64 (1+r1.toInt))+r2.toInt))] []) (.done 0 [VI (IntKind.wrap .i64 (1+r1.toInt))] [])) (NZ a0<|NZ a0<|dP (a0.deref.drop 3)<|NP ((a0.deref.drop 3).hA)<|.test (!((a0.deref.drop 3).hA).isNil) (NZ a0<|NZ a0<|dP (a0.deref.drop 3)<|.call 56 [((a0.deref.drop 3).hA)] [] fun r3 o3=>NI r3<|.done 0 [VI (IntKind.wrap .i64 (1+r3.toInt))] []) (.done 0 [VI 1] []))
theorem Aq(a0:AV)(ha0:LK.has .ptr a0)(h:di 29 (Iq a0) R):an Tryz.prog 56 [a0] [] R :=
 uQ (ah (bB ha0) aC) (oQ [] Tryz.f56 h)
def GF:LI:={hd:={bS:=[(0,.k .sl),(7,.k (.int .i64)),(8,.k (.int .i64))],cq:=[(0,[.lk .str])],fns:=[(1,59,[0])]},xs:={cq:=[(0,[.lk .str])]},rt:={bS:=[(4,.k (.int .i64))],cq:=[(0,[.lk .str])]},ex:=0,fx:=[0]}
def N5:Code:=cG (cB Tryz.f57) 2
def O3:List (Nat×LI):=[(2,GF)]
def I4(a0:AV)(a1_0_0:ByteArray):Tree :=
 NL a0<|.loop N5 GF [a0,VI (a0.elems.length:Int),VI 0] [.cells [VS a1_0_0]] (fun y2 q2=>.ai ((q2.hO)=.cells (q2.hO).cs)<|.ai (ae [.lk .str] ((q2.hO).cs) 0 q2.tail)<|.done 0 [VI (-1)] [.cells [VS (((q2.hO).cs.getD 0 .any).toStr)]]) (fun y2 q2=>NI (y2.hA)<|.ai ((q2.hO)=.cells (q2.hO).cs)<|.ai (ae [.lk .str] ((q2.hO).cs) 0 q2.tail)<|.done 0 [VI ((y2.hA).toInt)] [.cells [VS (((q2.hO).cs.getD 0 .any).toStr)]])
theorem Q1(a0:AV)(a1_0_0:ByteArray)(ha0:LK.has .sl a0)(h:di 19 (I4 a0 a1_0_0) R):an Tryz.prog 57 [a0,.fn 59 [.ref 0 0]] [.cells [VS a1_0_0]] R :=
 an.mY (bw (ca (ah (aA _) aC)) cv) (an.up (ah (bP ha0) (ah (aA _) aC)) (oF O3 {mu:=[(1,.fn [some (.obj [.lk .str])])],own:=[]} Tryz.f57 h))
def G9(x0:AV)(x7:Int)(x8:Int)(o0_0:ByteArray):Tree :=
 NL x0<|NI (VI x7)<|NI (VI x8)<|.ai (Ob.cells [VS o0_0]=.cells [VS o0_0])<|.ai (ae [.lk .str] [VS o0_0] 0 [])<|.test (decide (x8<x7)) (NG x0 x8 2<|.ai (bI [.ptr,.ptr] (x0.ix x8) 0/\2<=(x0.ix x8).length)<|.call 59 [.agg [((x0.ix x8).getD 0 .any),((x0.ix x8).getD 1 .any)],.ref 0 0] [.cells [VS o0_0]] fun r1 o1=>.ai ((o1.hO)=.cells (o1.hO).cs)<|.ai (aK [.lk .str] ((o1.hO).cs) 0 1 o1.tail)<|NB r1<|.test r1.toBool (.done 2 [VI x8] [.cells [VS (((o1.hO).cs.getD 0 .any).toStr)]]) (.done 0 [x0,VI x7,VI (IntKind.wrap .i64 (x8+1))] [.cells [VS (((o1.hO).cs.getD 0 .any).toStr)]])) (.done 1 [] [.cells [VS o0_0]])
abbrev FZ:=cA Tryz.prog 19 N5 GF
theorem Ji(x0:AV)(x7:Int)(x8:Int)(o0_0:ByteArray)(h:ka 19 (G9 x0 x7 x8 o0_0) FZ U):FZ [x0,VI x7,VI x8] [.cells [VS o0_0]] U :=
 gQ O3 h
def Oh(a0:AV)(a1:AV):Tree :=
 .call 77 [.agg [a0,.v (.pointer none)]] [] fun r1 o1=>NT r1<|.ai ((r1.comp 0)=.agg (r1.comp 0).cs/\(r1.comp 0).cs.length=2/\bI [.ptr,.ptr] ((r1.comp 0).cs) 0)<|NP (r1.comp 1)<|NZ a1<|NZ a1<|dP (a1.deref.drop 2)<|.call 80 [.agg [((r1.comp 0).cs.getD 0 .any),((r1.comp 0).cs.getD 1 .any)],((a1.deref.drop 2).hA),.agg [VS (mk []),(r1.comp 1)]] [] fun r2 o2=>NL r2<|.done 0 [r2] []
theorem PR(a0:AV)(a1:AV)(ha0:LK.has .ptr a0)(ha1:LK.has .ptr a1)(h:di 21 (Oh a0 a1) R):an Tryz.prog 58 [a0,a1] [] R :=
 uQ (ah (bB ha0) (ah (bB ha1) aC)) (oQ [] Tryz.f58 h)
def Nx(a0_0:AV)(a0_1:AV)(a1_0:ByteArray):Tree :=
 .call 48 [a0_0] [] fun r1 o1=>NS r1<|.done 0 [VB (af r1.toStr==af a1_0)] [.cells [VS a1_0]]
theorem Qs(a0_0:AV)(a0_1:AV)(a1_0:ByteArray)(ha0_0:LK.has .ptr a0_0)(ha0_1:LK.has .ptr a0_1)(h:di 9 (Nx a0_0 a0_1 a1_0) R):an Tryz.prog 59 [.agg [a0_0,a0_1],.ref 0 0] [.cells [VS a1_0]] R :=
 an.mY (bw (ca (ah (aA _) aC)) cv) (an.up (ah (cb (ah (bB ha0_0) (ah (bB ha0_1) aC))) (ah (aA _) aC)) (oF [] {mu:=[(1,.one (.obj [.lk .str]))],own:=[]} Tryz.f59 h))
def J7(a0:ByteArray)(a1:ByteArray)(a2:ByteArray):Tree :=
 .call 67 [VS a0] [] fun r1 o1=>NT r1<|.ai ((r1.comp 0)=.agg (r1.comp 0).cs/\(r1.comp 0).cs.length=2/\bI [.str,.sl] ((r1.comp 0).cs) 0)<|NB (r1.comp 1)<|.call 66 [VS a0] [] fun r2 o2=>NT r2<|NS (r2.comp 0)<|NB (r2.comp 1)<|.test (!((r1.comp 1).toBool)) (.done 0 [.cH [VS (mk []),VB false]] []) (.test (!((r2.comp 1).toBool)) (.done 0 [.cH [VS (mk []),VB false]] []) (.call 68 [VS ((r2.comp 0).toStr),VS a1,VI 100] [] fun r3 o3=>NB r3<|.test (!r3.toBool) (.done 0 [.cH [VS (mk []),VB false]] []) (.call 68 [VS a0,VS a2,VI 100] [] fun r4 o4=>NB r4<|.test (!r4.toBool) (.done 0 [.cH [VS (mk []),VB false]] []) (.call 72 [VS a1] [] fun r5 o5=>NT r5<|.ai ((r5.comp 0)=.agg (r5.comp 0).cs/\(r5.comp 0).cs.length=2/\bI [.str,.sl] ((r5.comp 0).cs) 0)<|NB (r5.comp 1)<|.call 72 [VS a2] [] fun r6 o6=>NT r6<|.ai ((r6.comp 0)=.agg (r6.comp 0).cs/\(r6.comp 0).cs.length=2/\bI [.str,.sl] ((r6.comp 0).cs) 0)<|NB (r6.comp 1)<|NG ((r1.comp 0).cs.getD 1 .any) 2 2<|NE (((r1.comp 0).cs.getD 1 .any).ix (2:Int))<|NG ((r1.comp 0).cs.getD 1 .any) 1 2<|kK (((r1.comp 0).cs.getD 1 .any).ix (1:Int))<|.call 82 [.agg [VS (((((r1.comp 0).cs.getD 1 .any).ix (2:Int)).getD 0 .any).toStr),((((r1.comp 0).cs.getD 1 .any).ix (2:Int)).getD 1 .any)],VS (((((r1.comp 0).cs.getD 1 .any).ix (1:Int)).hA).toStr),.agg [VS (((r5.comp 0).cs.getD 0 .any).toStr),((r5.comp 0).cs.getD 1 .any)],.agg [VS (((r6.comp 0).cs.getD 0 .any).toStr),((r6.comp 0).cs.getD 1 .any)]] [] fun r7 o7=>NA r7<|.call 81 [VS (mk [102]),.sl [[VS ((r7.cs.getD 0 .any).toStr),(r7.cs.getD 1 .any)]]] [] fun r8 o8=>NA r8<|.call 63 [.agg [VS ((r8.cs.getD 0 .any).toStr),(r8.cs.getD 1 .any)]] [] fun r9 o9=>NS r9<|.call 68 [VS a0,VS r9.toStr,VI 100] [] fun r10 o10=>NB r10<|.test (!r10.toBool) (.done 0 [.cH [VS (mk []),VB false]] []) (.done 0 [.cH [VS r9.toStr,VB true]] [])))))
theorem RD(a0:ByteArray)(a1:ByteArray)(a2:ByteArray)(h:di 75 (J7 a0 a1 a2) R):an Tryz.prog 60 [VS a0,VS a1,VS a2] [] R :=
 uQ (ah (aA _) (ah (aA _) (ah (aA _) aC))) (oQ [] Tryz.f60 h)
def FY:LI:={hd:={bS:=[(7,.k (.int .i64))],refs:=[(2,2),(4,4)],cq:=[(2,[.lk .str,.lk .sl]),(4,[.lk .str,.lk .sl])],eM:=[(6,1)]},xs:={refs:=[(2,2),(4,4)],cq:=[(2,[.lk .str,.lk .sl]),(4,[.lk .str,.lk .sl])]},rt:={bS:=[(3,.k .bool)],refs:=[(2,2)],cq:=[(2,[.lk .str,.lk .sl])]},ex:=0}
def JV:Code:=cG (cB Tryz.f61) 6
def Ok:List (Nat×LI):=[(6,FY)]
def OH(a0:ByteArray):Tree :=
 .call 83 [VS a0] [] fun r1 o1=>NT r1<|.ai ((r1.comp 0)=.agg (r1.comp 0).cs/\(r1.comp 0).cs.length=2/\bI [.str,.sl] ((r1.comp 0).cs) 0)<|NB (r1.comp 1)<|.test (!((r1.comp 1).toBool)) (.done 0 [.cH [.agg [VS (((r1.comp 0).cs.getD 0 .any).toStr),((r1.comp 0).cs.getD 1 .any)],VB false]] []) (.call 84 [.agg [VS (((r1.comp 0).cs.getD 0 .any).toStr),((r1.comp 0).cs.getD 1 .any)],.sl [],.vec 0] [.vec 1 []] fun r2 o2=>.ai (r2=.vec 1/\(o2.tail.hO)=.vec 1 (o2.tail.hO).es)<|.loop JV FY [VI 0] [.cells [VS (mk []),.v (.slice none 0 0)],.cells [VS (((r1.comp 0).cs.getD 0 .any).toStr),((r1.comp 0).cs.getD 1 .any)],.vec 1 ((o2.tail.hO).es)] (fun y4 q4=>.ai ((q4.hO)=.cells (q4.hO).cs)<|.ai (ae [.lk .str,.lk .sl] ((q4.hO).cs) 0 q4.tail)<|.ai (((q4.tail.drop 0).hO)=.cells ((q4.tail.drop 0).hO).cs)<|.ai (ae [.lk .str,.lk .sl] (((q4.tail.drop 0).hO).cs) 0 ((q4.tail.drop 0).tail))<|.done 0 [.cH [.agg [VS (((q4.tail.hO).cs.getD 0 .any).toStr),((q4.tail.hO).cs.getD 1 .any)],VB true]] []) (fun y4 q4=>NB (y4.hA)<|.ai ((q4.hO)=.cells (q4.hO).cs)<|.ai (ae [.lk .str,.lk .sl] ((q4.hO).cs) 0 q4.tail)<|.done 0 [.cH [.agg [VS (((q4.hO).cs.getD 0 .any).toStr),((q4.hO).cs.getD 1 .any)],VB ((y4.hA).toBool)]] []))
theorem PO(a0:ByteArray)(h:di 33 (OH a0) R):an Tryz.prog 61 [VS a0] [] R :=
 uQ (ah (aA _) aC) (oQ Ok Tryz.f61 h)
def GN(x7:Int)(o2_0:ByteArray)(o2_1:AV)(o4_0:ByteArray)(o4_1:AV)(e6:List (List AV)):Tree :=
 NI (VI x7)<|.ai (Ob.cells [VS o2_0,o2_1]=.cells [VS o2_0,o2_1])<|.ai (ae [.lk .str,.lk .sl] [VS o2_0,o2_1] 0 [.cells [VS o4_0,o4_1],.vec 1 e6])<|.ai (Ob.cells [VS o4_0,o4_1]=.cells [VS o4_0,o4_1])<|.ai (ae [.lk .str,.lk .sl] [VS o4_0,o4_1] 0 [.vec 1 e6])<|.ai (Ob.vec 1 e6=.vec 1 e6)<|.test (decide (x7<(e6.length:Int))) (.ai (0<=x7/\x7<e6.length)<|.ai (x7.toNat<e6.length/\0<(e6.getD x7.toNat []).length/\LK.has .str ((e6.getD x7.toNat []).getD 0 .any))<|.call 85 [VS (((e6.getD x7.toNat []).getD 0 .any).toStr)] [] fun r1 o1=>NB r1<|.test r1.toBool (.done 2 [VB false] [.cells [VS o4_0,o4_1]]) (.done 0 [VI (IntKind.wrap .i64 (x7+1))] [.cells [VS o2_0,o2_1],.cells [VS o4_0,o4_1],.vec 1 e6])) (.done 1 [] [.cells [VS o2_0,o2_1],.cells [VS o4_0,o4_1]])
abbrev IB:=cA Tryz.prog 33 JV FY
theorem Nl(x7:Int)(o2_0:ByteArray)(o2_1:AV)(o4_0:ByteArray)(o4_1:AV)(e6:List (List AV))(h:ka 33 (GN x7 o2_0 o2_1 o4_0 o4_1 e6) IB U):IB [VI x7] [.cells [VS o2_0,o2_1],.cells [VS o4_0,o4_1],.vec 1 e6] U :=
 gQ Ok h
def NU(a0_0:AV)(a0_1:Int)(a1:AV):Tree :=
 NL a1<|.call 43 [.ref 0 0,VI (a1.elems.length:Int)] [.cells [a0_0,VI a0_1]] fun r1 o1=>.ai ((o1.hO)=.cells (o1.hO).cs)<|.ai (aK [.lk .sl,.lk (.int .i64)] ((o1.hO).cs) 0 1 o1.tail)<|NI r1<|.ai (LK.has .sl a1/\0<=r1.toInt/\r1.toInt<a1.elems.length/\(a1.elems.getD r1.toInt.toNat []).length=1)<|kK (a1.elems.getD r1.toInt.toNat [])<|.done 0 [VS (((a1.elems.getD r1.toInt.toNat []).hA).toStr)] [.cells [((o1.hO).cs.getD 0 .any),VI (((o1.hO).cs.getD 1 .any).toInt)]]
theorem PE(a0_0:AV)(a0_1:Int)(a1:AV)(ha1:LK.has .sl a1)(ha0_0:LK.has .sl a0_0)(h:di 12 (NU a0_0 a0_1 a1) R):an Tryz.prog 62 [.ref 0 0,a1] [.cells [a0_0,VI a0_1]] R :=
 an.mY (bw (ca (ah (bP ha0_0) (ah (aA _) aC))) cv) (an.up (ah (aA _) (ah (bP ha1) aC)) (oF [] {mu:=[(0,.one (.obj [.lk .sl,.lk (.int .i64)]))],own:=[]} Tryz.f62 h))
def HR:LI:={hd:={bS:=[(3,.k .str),(4,.k (.int .i64))],refs:=[(1,1)],cq:=[(1,[.lk .str,.lk .sl])]},xs:={bS:=[(3,.k .str)]},rt:={},ex:=0}
def MB:Code:=cG (cB Tryz.f63) 5
def L9:List (Nat×LI):=[(5,HR)]
def Ef(a0_0:ByteArray)(a0_1:AV):Tree :=
 .test (!(af a0_0==af (mk []))) (.done 0 [VS a0_0] []) (.loop MB HR [VS (mk [40]),VI 0] [.cells [VS a0_0,a0_1]] (fun y3 q3=>NS (y3.hA)<|.ai (ag ((y3.hA).toStr)+ag (mk [41])<=9223372036854775807)<|.done 0 [VS ((((y3.hA).toStr):ByteArray)++(mk [41]))] []) (fun y3 q3=>.done 0 [.any] []))
theorem Hc(a0_0:ByteArray)(a0_1:AV)(ha0_1:LK.has .sl a0_1)(h:di 31 (Ef a0_0 a0_1) R):an Tryz.prog 63 [.agg [VS a0_0,a0_1]] [] R :=
 uQ (ah (cb (ah (aA _) (ah (bP ha0_1) aC))) aC) (oQ L9 Tryz.f63 h)
def Cr(x3:ByteArray)(x4:Int)(o1_0:ByteArray)(o1_1:AV):Tree :=
 NS (VS x3)<|NI (VI x4)<|.ai (Ob.cells [VS o1_0,o1_1]=.cells [VS o1_0,o1_1])<|.ai (ae [.lk .str,.lk .sl] [VS o1_0,o1_1] 0 [])<|NL o1_1<|.test (decide (x4<(o1_1.elems.length:Int))) (.test (decide (x4>(0:Int))) (.ai (ag x3+ag (mk [32])<=9223372036854775807)<|NG o1_1 x4 2<|NE (o1_1.ix x4)<|.call 63 [.agg [VS (((o1_1.ix x4).getD 0 .any).toStr),((o1_1.ix x4).getD 1 .any)]] [] fun r1 o1=>NS r1<|.ai (ag ((x3:ByteArray)++(mk [32]))+ag r1.toStr<=9223372036854775807)<|.done 0 [VS ((((x3:ByteArray)++(mk [32])):ByteArray)++r1.toStr),VI (IntKind.wrap .i64 (x4+1))] [.cells [VS o1_0,o1_1]]) (NG o1_1 x4 2<|NE (o1_1.ix x4)<|.call 63 [.agg [VS (((o1_1.ix x4).getD 0 .any).toStr),((o1_1.ix x4).getD 1 .any)]] [] fun r2 o2=>NS r2<|.ai (ag x3+ag r2.toStr<=9223372036854775807)<|.done 0 [VS ((x3:ByteArray)++r2.toStr),VI (IntKind.wrap .i64 (x4+1))] [.cells [VS o1_0,o1_1]])) (.done 1 [VS x3] [])
abbrev AG:=cA Tryz.prog 31 MB HR
theorem C0(x3:ByteArray)(x4:Int)(o1_0:ByteArray)(o1_1:AV)(h:ka 31 (Cr x3 x4 o1_0 o1_1) AG U):AG [VS x3,VI x4] [.cells [VS o1_0,o1_1]] U :=
 gQ L9 h
def AU(a0_0:AV)(a0_1:Int)(a1_0:ByteArray)(a1_1:AV)(a2:Int):Tree :=
 .call 86 [.agg [VS a1_0,a1_1]] [] fun r1 o1=>NS r1<|.test (af r1.toStr==af (mk [43])) (.call 43 [.ref 0 0,VI 2] [.cells [a0_0,VI a0_1]] fun r2 o2=>.ai ((o2.hO)=.cells (o2.hO).cs)<|.ai (aK [.lk .sl,.lk (.int .i64)] ((o2.hO).cs) 0 1 o2.tail)<|NI r2<|NG a1_1 1 2<|NE (a1_1.ix (1:Int))<|.call 87 [.agg [VS (((a1_1.ix (1:Int)).getD 0 .any).toStr),((a1_1.ix (1:Int)).getD 1 .any)],.sl []] [] fun r3 o3=>NB r3<|.test r3.toBool (.test ((1:Int)==(0:Int)) (NG a1_1 1 2<|NE (a1_1.ix (1:Int))<|.call 64 [.ref 0 0,.agg [VS (((a1_1.ix (1:Int)).getD 0 .any).toStr),((a1_1.ix (1:Int)).getD 1 .any)],VI (IntKind.wrap .i64 (a2-1))] [.cells [((o2.hO).cs.getD 0 .any),VI (((o2.hO).cs.getD 1 .any).toInt)]] fun r4 o4=>.ai ((o4.hO)=.cells (o4.hO).cs)<|.ai (aK [.lk .sl,.lk (.int .i64)] ((o4.hO).cs) 0 1 o4.tail)<|NA r4<|.call 81 [VS (mk [108]),.sl [[VS ((r4.cs.getD 0 .any).toStr),(r4.cs.getD 1 .any)]]] [] fun r5 o5=>NA r5<|.done 0 [.agg [VS ((r5.cs.getD 0 .any).toStr),(r5.cs.getD 1 .any)]] [.cells [((o4.hO).cs.getD 0 .any),VI (((o4.hO).cs.getD 1 .any).toInt)]]) (NG a1_1 2 2<|NE (a1_1.ix (2:Int))<|.call 64 [.ref 0 0,.agg [VS (((a1_1.ix (2:Int)).getD 0 .any).toStr),((a1_1.ix (2:Int)).getD 1 .any)],VI (IntKind.wrap .i64 (a2-1))] [.cells [((o2.hO).cs.getD 0 .any),VI (((o2.hO).cs.getD 1 .any).toInt)]] fun r6 o6=>.ai ((o6.hO)=.cells (o6.hO).cs)<|.ai (aK [.lk .sl,.lk (.int .i64)] ((o6.hO).cs) 0 1 o6.tail)<|NA r6<|.call 81 [VS (mk [114]),.sl [[VS ((r6.cs.getD 0 .any).toStr),(r6.cs.getD 1 .any)]]] [] fun r7 o7=>NA r7<|.done 0 [.agg [VS ((r7.cs.getD 0 .any).toStr),(r7.cs.getD 1 .any)]] [.cells [((o6.hO).cs.getD 0 .any),VI (((o6.hO).cs.getD 1 .any).toInt)]])) (.test (decide (a2<=(0:Int))) (NG a1_1 1 2<|NE (a1_1.ix (1:Int))<|.call 88 [.agg [VS (((a1_1.ix (1:Int)).getD 0 .any).toStr),((a1_1.ix (1:Int)).getD 1 .any)]] [] fun r8 o8=>NI r8<|NG a1_1 2 2<|NE (a1_1.ix (2:Int))<|.call 88 [.agg [VS (((a1_1.ix (2:Int)).getD 0 .any).toStr),((a1_1.ix (2:Int)).getD 1 .any)]] [] fun r9 o9=>NI r9<|.test (decide (r8.toInt>r9.toInt)) (NG a1_1 2 2<|NE (a1_1.ix (2:Int))<|.call 87 [.agg [VS (((a1_1.ix (2:Int)).getD 0 .any).toStr),((a1_1.ix (2:Int)).getD 1 .any)],.sl []] [] fun r10 o10=>NB r10<|.test (!r10.toBool) (.test ((1:Int)==(0:Int)) (NG a1_1 1 2<|NE (a1_1.ix (1:Int))<|.call 64 [.ref 0 0,.agg [VS (((a1_1.ix (1:Int)).getD 0 .any).toStr),((a1_1.ix (1:Int)).getD 1 .any)],VI (IntKind.wrap .i64 (a2-1))] [.cells [((o2.hO).cs.getD 0 .any),VI (((o2.hO).cs.getD 1 .any).toInt)]] fun r11 o11=>.ai ((o11.hO)=.cells (o11.hO).cs)<|.ai (aK [.lk .sl,.lk (.int .i64)] ((o11.hO).cs) 0 1 o11.tail)<|NA r11<|.call 81 [VS (mk [108]),.sl [[VS ((r11.cs.getD 0 .any).toStr),(r11.cs.getD 1 .any)]]] [] fun r12 o12=>NA r12<|.done 0 [.agg [VS ((r12.cs.getD 0 .any).toStr),(r12.cs.getD 1 .any)]] [.cells [((o11.hO).cs.getD 0 .any),VI (((o11.hO).cs.getD 1 .any).toInt)]]) (NG a1_1 2 2<|NE (a1_1.ix (2:Int))<|.call 64 [.ref 0 0,.agg [VS (((a1_1.ix (2:Int)).getD 0 .any).toStr),((a1_1.ix (2:Int)).getD 1 .any)],VI (IntKind.wrap .i64 (a2-1))] [.cells [((o2.hO).cs.getD 0 .any),VI (((o2.hO).cs.getD 1 .any).toInt)]] fun r13 o13=>.ai ((o13.hO)=.cells (o13.hO).cs)<|.ai (aK [.lk .sl,.lk (.int .i64)] ((o13.hO).cs) 0 1 o13.tail)<|NA r13<|.call 81 [VS (mk [114]),.sl [[VS ((r13.cs.getD 0 .any).toStr),(r13.cs.getD 1 .any)]]] [] fun r14 o14=>NA r14<|.done 0 [.agg [VS ((r14.cs.getD 0 .any).toStr),(r14.cs.getD 1 .any)]] [.cells [((o13.hO).cs.getD 0 .any),VI (((o13.hO).cs.getD 1 .any).toInt)]])) (NG a1_1 2 2<|NE (a1_1.ix (2:Int))<|.call 87 [.agg [VS (((a1_1.ix (2:Int)).getD 0 .any).toStr),((a1_1.ix (2:Int)).getD 1 .any)],.sl []] [] fun r15 o15=>NB r15<|.test r15.toBool (.test ((0:Int)==(0:Int)) (NG a1_1 1 2<|NE (a1_1.ix (1:Int))<|.call 64 [.ref 0 0,.agg [VS (((a1_1.ix (1:Int)).getD 0 .any).toStr),((a1_1.ix (1:Int)).getD 1 .any)],VI (IntKind.wrap .i64 (a2-1))] [.cells [((o2.hO).cs.getD 0 .any),VI (((o2.hO).cs.getD 1 .any).toInt)]] fun r16 o16=>.ai ((o16.hO)=.cells (o16.hO).cs)<|.ai (aK [.lk .sl,.lk (.int .i64)] ((o16.hO).cs) 0 1 o16.tail)<|NA r16<|.call 81 [VS (mk [108]),.sl [[VS ((r16.cs.getD 0 .any).toStr),(r16.cs.getD 1 .any)]]] [] fun r17 o17=>NA r17<|.done 0 [.agg [VS ((r17.cs.getD 0 .any).toStr),(r17.cs.getD 1 .any)]] [.cells [((o16.hO).cs.getD 0 .any),VI (((o16.hO).cs.getD 1 .any).toInt)]]) (NG a1_1 2 2<|NE (a1_1.ix (2:Int))<|.call 64 [.ref 0 0,.agg [VS (((a1_1.ix (2:Int)).getD 0 .any).toStr),((a1_1.ix (2:Int)).getD 1 .any)],VI (IntKind.wrap .i64 (a2-1))] [.cells [((o2.hO).cs.getD 0 .any),VI (((o2.hO).cs.getD 1 .any).toInt)]] fun r18 o18=>.ai ((o18.hO)=.cells (o18.hO).cs)<|.ai (aK [.lk .sl,.lk (.int .i64)] ((o18.hO).cs) 0 1 o18.tail)<|NA r18<|.call 81 [VS (mk [114]),.sl [[VS ((r18.cs.getD 0 .any).toStr),(r18.cs.getD 1 .any)]]] [] fun r19 o19=>NA r19<|.done 0 [.agg [VS ((r19.cs.getD 0 .any).toStr),(r19.cs.getD 1 .any)]] [.cells [((o18.hO).cs.getD 0 .any),VI (((o18.hO).cs.getD 1 .any).toInt)]])) (.test (decide (a2<=(0:Int))) (.test ((0:Int)==(0:Int)) (NG a1_1 1 2<|NE (a1_1.ix (1:Int))<|.call 64 [.ref 0 0,.agg [VS (((a1_1.ix (1:Int)).getD 0 .any).toStr),((a1_1.ix (1:Int)).getD 1 .any)],VI (IntKind.wrap .i64 (a2-1))] [.cells [((o2.hO).cs.getD 0 .any),VI (((o2.hO).cs.getD 1 .any).toInt)]] fun r20 o20=>.ai ((o20.hO)=.cells (o20.hO).cs)<|.ai (aK [.lk .sl,.lk (.int .i64)] ((o20.hO).cs) 0 1 o20.tail)<|NA r20<|.call 81 [VS (mk [108]),.sl [[VS ((r20.cs.getD 0 .any).toStr),(r20.cs.getD 1 .any)]]] [] fun r21 o21=>NA r21<|.done 0 [.agg [VS ((r21.cs.getD 0 .any).toStr),(r21.cs.getD 1 .any)]] [.cells [((o20.hO).cs.getD 0 .any),VI (((o20.hO).cs.getD 1 .any).toInt)]]) (NG a1_1 2 2<|NE (a1_1.ix (2:Int))<|.call 64 [.ref 0 0,.agg [VS (((a1_1.ix (2:Int)).getD 0 .any).toStr),((a1_1.ix (2:Int)).getD 1 .any)],VI (IntKind.wrap .i64 (a2-1))] [.cells [((o2.hO).cs.getD 0 .any),VI (((o2.hO).cs.getD 1 .any).toInt)]] fun r22 o22=>.ai ((o22.hO)=.cells (o22.hO).cs)<|.ai (aK [.lk .sl,.lk (.int .i64)] ((o22.hO).cs) 0 1 o22.tail)<|NA r22<|.call 81 [VS (mk [114]),.sl [[VS ((r22.cs.getD 0 .any).toStr),(r22.cs.getD 1 .any)]]] [] fun r23 o23=>NA r23<|.done 0 [.agg [VS ((r23.cs.getD 0 .any).toStr),(r23.cs.getD 1 .any)]] [.cells [((o22.hO).cs.getD 0 .any),VI (((o22.hO).cs.getD 1 .any).toInt)]])) (.test (r2.toInt==(0:Int)) (NG a1_1 1 2<|NE (a1_1.ix (1:Int))<|.call 64 [.ref 0 0,.agg [VS (((a1_1.ix (1:Int)).getD 0 .any).toStr),((a1_1.ix (1:Int)).getD 1 .any)],VI (IntKind.wrap .i64 (a2-1))] [.cells [((o2.hO).cs.getD 0 .any),VI (((o2.hO).cs.getD 1 .any).toInt)]] fun r24 o24=>.ai ((o24.hO)=.cells (o24.hO).cs)<|.ai (aK [.lk .sl,.lk (.int .i64)] ((o24.hO).cs) 0 1 o24.tail)<|NA r24<|.call 81 [VS (mk [108]),.sl [[VS ((r24.cs.getD 0 .any).toStr),(r24.cs.getD 1 .any)]]] [] fun r25 o25=>NA r25<|.done 0 [.agg [VS ((r25.cs.getD 0 .any).toStr),(r25.cs.getD 1 .any)]] [.cells [((o24.hO).cs.getD 0 .any),VI (((o24.hO).cs.getD 1 .any).toInt)]]) (NG a1_1 2 2<|NE (a1_1.ix (2:Int))<|.call 64 [.ref 0 0,.agg [VS (((a1_1.ix (2:Int)).getD 0 .any).toStr),((a1_1.ix (2:Int)).getD 1 .any)],VI (IntKind.wrap .i64 (a2-1))] [.cells [((o2.hO).cs.getD 0 .any),VI (((o2.hO).cs.getD 1 .any).toInt)]] fun r26 o26=>.ai ((o26.hO)=.cells (o26.hO).cs)<|.ai (aK [.lk .sl,.lk (.int .i64)] ((o26.hO).cs) 0 1 o26.tail)<|NA r26<|.call 81 [VS (mk [114]),.sl [[VS ((r26.cs.getD 0 .any).toStr),(r26.cs.getD 1 .any)]]] [] fun r27 o27=>NA r27<|.done 0 [.agg [VS ((r27.cs.getD 0 .any).toStr),(r27.cs.getD 1 .any)]] [.cells [((o26.hO).cs.getD 0 .any),VI (((o26.hO).cs.getD 1 .any).toInt)]]))))) (NG a1_1 2 2<|NE (a1_1.ix (2:Int))<|.call 87 [.agg [VS (((a1_1.ix (2:Int)).getD 0 .any).toStr),((a1_1.ix (2:Int)).getD 1 .any)],.sl []] [] fun r28 o28=>NB r28<|.test r28.toBool (.test ((0:Int)==(0:Int)) (NG a1_1 1 2<|NE (a1_1.ix (1:Int))<|.call 64 [.ref 0 0,.agg [VS (((a1_1.ix (1:Int)).getD 0 .any).toStr),((a1_1.ix (1:Int)).getD 1 .any)],VI (IntKind.wrap .i64 (a2-1))] [.cells [((o2.hO).cs.getD 0 .any),VI (((o2.hO).cs.getD 1 .any).toInt)]] fun r29 o29=>.ai ((o29.hO)=.cells (o29.hO).cs)<|.ai (aK [.lk .sl,.lk (.int .i64)] ((o29.hO).cs) 0 1 o29.tail)<|NA r29<|.call 81 [VS (mk [108]),.sl [[VS ((r29.cs.getD 0 .any).toStr),(r29.cs.getD 1 .any)]]] [] fun r30 o30=>NA r30<|.done 0 [.agg [VS ((r30.cs.getD 0 .any).toStr),(r30.cs.getD 1 .any)]] [.cells [((o29.hO).cs.getD 0 .any),VI (((o29.hO).cs.getD 1 .any).toInt)]]) (NG a1_1 2 2<|NE (a1_1.ix (2:Int))<|.call 64 [.ref 0 0,.agg [VS (((a1_1.ix (2:Int)).getD 0 .any).toStr),((a1_1.ix (2:Int)).getD 1 .any)],VI (IntKind.wrap .i64 (a2-1))] [.cells [((o2.hO).cs.getD 0 .any),VI (((o2.hO).cs.getD 1 .any).toInt)]] fun r31 o31=>.ai ((o31.hO)=.cells (o31.hO).cs)<|.ai (aK [.lk .sl,.lk (.int .i64)] ((o31.hO).cs) 0 1 o31.tail)<|NA r31<|.call 81 [VS (mk [114]),.sl [[VS ((r31.cs.getD 0 .any).toStr),(r31.cs.getD 1 .any)]]] [] fun r32 o32=>NA r32<|.done 0 [.agg [VS ((r32.cs.getD 0 .any).toStr),(r32.cs.getD 1 .any)]] [.cells [((o31.hO).cs.getD 0 .any),VI (((o31.hO).cs.getD 1 .any).toInt)]])) (.test (decide (a2<=(0:Int))) (.test ((0:Int)==(0:Int)) (NG a1_1 1 2<|NE (a1_1.ix (1:Int))<|.call 64 [.ref 0 0,.agg [VS (((a1_1.ix (1:Int)).getD 0 .any).toStr),((a1_1.ix (1:Int)).getD 1 .any)],VI (IntKind.wrap .i64 (a2-1))] [.cells [((o2.hO).cs.getD 0 .any),VI (((o2.hO).cs.getD 1 .any).toInt)]] fun r33 o33=>.ai ((o33.hO)=.cells (o33.hO).cs)<|.ai (aK [.lk .sl,.lk (.int .i64)] ((o33.hO).cs) 0 1 o33.tail)<|NA r33<|.call 81 [VS (mk [108]),.sl [[VS ((r33.cs.getD 0 .any).toStr),(r33.cs.getD 1 .any)]]] [] fun r34 o34=>NA r34<|.done 0 [.agg [VS ((r34.cs.getD 0 .any).toStr),(r34.cs.getD 1 .any)]] [.cells [((o33.hO).cs.getD 0 .any),VI (((o33.hO).cs.getD 1 .any).toInt)]]) (NG a1_1 2 2<|NE (a1_1.ix (2:Int))<|.call 64 [.ref 0 0,.agg [VS (((a1_1.ix (2:Int)).getD 0 .any).toStr),((a1_1.ix (2:Int)).getD 1 .any)],VI (IntKind.wrap .i64 (a2-1))] [.cells [((o2.hO).cs.getD 0 .any),VI (((o2.hO).cs.getD 1 .any).toInt)]] fun r35 o35=>.ai ((o35.hO)=.cells (o35.hO).cs)<|.ai (aK [.lk .sl,.lk (.int .i64)] ((o35.hO).cs) 0 1 o35.tail)<|NA r35<|.call 81 [VS (mk [114]),.sl [[VS ((r35.cs.getD 0 .any).toStr),(r35.cs.getD 1 .any)]]] [] fun r36 o36=>NA r36<|.done 0 [.agg [VS ((r36.cs.getD 0 .any).toStr),(r36.cs.getD 1 .any)]] [.cells [((o35.hO).cs.getD 0 .any),VI (((o35.hO).cs.getD 1 .any).toInt)]])) (.test (r2.toInt==(0:Int)) (NG a1_1 1 2<|NE (a1_1.ix (1:Int))<|.call 64 [.ref 0 0,.agg [VS (((a1_1.ix (1:Int)).getD 0 .any).toStr),((a1_1.ix (1:Int)).getD 1 .any)],VI (IntKind.wrap .i64 (a2-1))] [.cells [((o2.hO).cs.getD 0 .any),VI (((o2.hO).cs.getD 1 .any).toInt)]] fun r37 o37=>.ai ((o37.hO)=.cells (o37.hO).cs)<|.ai (aK [.lk .sl,.lk (.int .i64)] ((o37.hO).cs) 0 1 o37.tail)<|NA r37<|.call 81 [VS (mk [108]),.sl [[VS ((r37.cs.getD 0 .any).toStr),(r37.cs.getD 1 .any)]]] [] fun r38 o38=>NA r38<|.done 0 [.agg [VS ((r38.cs.getD 0 .any).toStr),(r38.cs.getD 1 .any)]] [.cells [((o37.hO).cs.getD 0 .any),VI (((o37.hO).cs.getD 1 .any).toInt)]]) (NG a1_1 2 2<|NE (a1_1.ix (2:Int))<|.call 64 [.ref 0 0,.agg [VS (((a1_1.ix (2:Int)).getD 0 .any).toStr),((a1_1.ix (2:Int)).getD 1 .any)],VI (IntKind.wrap .i64 (a2-1))] [.cells [((o2.hO).cs.getD 0 .any),VI (((o2.hO).cs.getD 1 .any).toInt)]] fun r39 o39=>.ai ((o39.hO)=.cells (o39.hO).cs)<|.ai (aK [.lk .sl,.lk (.int .i64)] ((o39.hO).cs) 0 1 o39.tail)<|NA r39<|.call 81 [VS (mk [114]),.sl [[VS ((r39.cs.getD 0 .any).toStr),(r39.cs.getD 1 .any)]]] [] fun r40 o40=>NA r40<|.done 0 [.agg [VS ((r40.cs.getD 0 .any).toStr),(r40.cs.getD 1 .any)]] [.cells [((o39.hO).cs.getD 0 .any),VI (((o39.hO).cs.getD 1 .any).toInt)]]))))) (NG a1_1 2 2<|NE (a1_1.ix (2:Int))<|.call 87 [.agg [VS (((a1_1.ix (2:Int)).getD 0 .any).toStr),((a1_1.ix (2:Int)).getD 1 .any)],.sl []] [] fun r41 o41=>NB r41<|.test r41.toBool (.test ((0:Int)==(0:Int)) (NG a1_1 1 2<|NE (a1_1.ix (1:Int))<|.call 64 [.ref 0 0,.agg [VS (((a1_1.ix (1:Int)).getD 0 .any).toStr),((a1_1.ix (1:Int)).getD 1 .any)],VI (IntKind.wrap .i64 (a2-1))] [.cells [((o2.hO).cs.getD 0 .any),VI (((o2.hO).cs.getD 1 .any).toInt)]] fun r42 o42=>.ai ((o42.hO)=.cells (o42.hO).cs)<|.ai (aK [.lk .sl,.lk (.int .i64)] ((o42.hO).cs) 0 1 o42.tail)<|NA r42<|.call 81 [VS (mk [108]),.sl [[VS ((r42.cs.getD 0 .any).toStr),(r42.cs.getD 1 .any)]]] [] fun r43 o43=>NA r43<|.done 0 [.agg [VS ((r43.cs.getD 0 .any).toStr),(r43.cs.getD 1 .any)]] [.cells [((o42.hO).cs.getD 0 .any),VI (((o42.hO).cs.getD 1 .any).toInt)]]) (NG a1_1 2 2<|NE (a1_1.ix (2:Int))<|.call 64 [.ref 0 0,.agg [VS (((a1_1.ix (2:Int)).getD 0 .any).toStr),((a1_1.ix (2:Int)).getD 1 .any)],VI (IntKind.wrap .i64 (a2-1))] [.cells [((o2.hO).cs.getD 0 .any),VI (((o2.hO).cs.getD 1 .any).toInt)]] fun r44 o44=>.ai ((o44.hO)=.cells (o44.hO).cs)<|.ai (aK [.lk .sl,.lk (.int .i64)] ((o44.hO).cs) 0 1 o44.tail)<|NA r44<|.call 81 [VS (mk [114]),.sl [[VS ((r44.cs.getD 0 .any).toStr),(r44.cs.getD 1 .any)]]] [] fun r45 o45=>NA r45<|.done 0 [.agg [VS ((r45.cs.getD 0 .any).toStr),(r45.cs.getD 1 .any)]] [.cells [((o44.hO).cs.getD 0 .any),VI (((o44.hO).cs.getD 1 .any).toInt)]])) (.test (decide (a2<=(0:Int))) (.test ((0:Int)==(0:Int)) (NG a1_1 1 2<|NE (a1_1.ix (1:Int))<|.call 64 [.ref 0 0,.agg [VS (((a1_1.ix (1:Int)).getD 0 .any).toStr),((a1_1.ix (1:Int)).getD 1 .any)],VI (IntKind.wrap .i64 (a2-1))] [.cells [((o2.hO).cs.getD 0 .any),VI (((o2.hO).cs.getD 1 .any).toInt)]] fun r46 o46=>.ai ((o46.hO)=.cells (o46.hO).cs)<|.ai (aK [.lk .sl,.lk (.int .i64)] ((o46.hO).cs) 0 1 o46.tail)<|NA r46<|.call 81 [VS (mk [108]),.sl [[VS ((r46.cs.getD 0 .any).toStr),(r46.cs.getD 1 .any)]]] [] fun r47 o47=>NA r47<|.done 0 [.agg [VS ((r47.cs.getD 0 .any).toStr),(r47.cs.getD 1 .any)]] [.cells [((o46.hO).cs.getD 0 .any),VI (((o46.hO).cs.getD 1 .any).toInt)]]) (NG a1_1 2 2<|NE (a1_1.ix (2:Int))<|.call 64 [.ref 0 0,.agg [VS (((a1_1.ix (2:Int)).getD 0 .any).toStr),((a1_1.ix (2:Int)).getD 1 .any)],VI (IntKind.wrap .i64 (a2-1))] [.cells [((o2.hO).cs.getD 0 .any),VI (((o2.hO).cs.getD 1 .any).toInt)]] fun r48 o48=>.ai ((o48.hO)=.cells (o48.hO).cs)<|.ai (aK [.lk .sl,.lk (.int .i64)] ((o48.hO).cs) 0 1 o48.tail)<|NA r48<|.call 81 [VS (mk [114]),.sl [[VS ((r48.cs.getD 0 .any).toStr),(r48.cs.getD 1 .any)]]] [] fun r49 o49=>NA r49<|.done 0 [.agg [VS ((r49.cs.getD 0 .any).toStr),(r49.cs.getD 1 .any)]] [.cells [((o48.hO).cs.getD 0 .any),VI (((o48.hO).cs.getD 1 .any).toInt)]])) (.test (r2.toInt==(0:Int)) (NG a1_1 1 2<|NE (a1_1.ix (1:Int))<|.call 64 [.ref 0 0,.agg [VS (((a1_1.ix (1:Int)).getD 0 .any).toStr),((a1_1.ix (1:Int)).getD 1 .any)],VI (IntKind.wrap .i64 (a2-1))] [.cells [((o2.hO).cs.getD 0 .any),VI (((o2.hO).cs.getD 1 .any).toInt)]] fun r50 o50=>.ai ((o50.hO)=.cells (o50.hO).cs)<|.ai (aK [.lk .sl,.lk (.int .i64)] ((o50.hO).cs) 0 1 o50.tail)<|NA r50<|.call 81 [VS (mk [108]),.sl [[VS ((r50.cs.getD 0 .any).toStr),(r50.cs.getD 1 .any)]]] [] fun r51 o51=>NA r51<|.done 0 [.agg [VS ((r51.cs.getD 0 .any).toStr),(r51.cs.getD 1 .any)]] [.cells [((o50.hO).cs.getD 0 .any),VI (((o50.hO).cs.getD 1 .any).toInt)]]) (NG a1_1 2 2<|NE (a1_1.ix (2:Int))<|.call 64 [.ref 0 0,.agg [VS (((a1_1.ix (2:Int)).getD 0 .any).toStr),((a1_1.ix (2:Int)).getD 1 .any)],VI (IntKind.wrap .i64 (a2-1))] [.cells [((o2.hO).cs.getD 0 .any),VI (((o2.hO).cs.getD 1 .any).toInt)]] fun r52 o52=>.ai ((o52.hO)=.cells (o52.hO).cs)<|.ai (aK [.lk .sl,.lk (.int .i64)] ((o52.hO).cs) 0 1 o52.tail)<|NA r52<|.call 81 [VS (mk [114]),.sl [[VS ((r52.cs.getD 0 .any).toStr),(r52.cs.getD 1 .any)]]] [] fun r53 o53=>NA r53<|.done 0 [.agg [VS ((r53.cs.getD 0 .any).toStr),(r53.cs.getD 1 .any)]] [.cells [((o52.hO).cs.getD 0 .any),VI (((o52.hO).cs.getD 1 .any).toInt)]])))))) (.test (af r1.toStr==af (mk [42])) (NG a1_1 1 2<|NE (a1_1.ix (1:Int))<|.call 64 [.ref 0 0,.agg [VS (((a1_1.ix (1:Int)).getD 0 .any).toStr),((a1_1.ix (1:Int)).getD 1 .any)],VI (IntKind.wrap .i64 (a2-1))] [.cells [a0_0,VI a0_1]] fun r54 o54=>.ai ((o54.hO)=.cells (o54.hO).cs)<|.ai (aK [.lk .sl,.lk (.int .i64)] ((o54.hO).cs) 0 1 o54.tail)<|NA r54<|NG a1_1 2 2<|NE (a1_1.ix (2:Int))<|.call 64 [.ref 0 0,.agg [VS (((a1_1.ix (2:Int)).getD 0 .any).toStr),((a1_1.ix (2:Int)).getD 1 .any)],VI (IntKind.wrap .i64 (a2-1))] [.cells [((o54.hO).cs.getD 0 .any),VI (((o54.hO).cs.getD 1 .any).toInt)]] fun r55 o55=>.ai ((o55.hO)=.cells (o55.hO).cs)<|.ai (aK [.lk .sl,.lk (.int .i64)] ((o55.hO).cs) 0 1 o55.tail)<|NA r55<|.call 81 [VS (mk [112]),.sl [[VS ((r54.cs.getD 0 .any).toStr),(r54.cs.getD 1 .any)],[VS ((r55.cs.getD 0 .any).toStr),(r55.cs.getD 1 .any)]]] [] fun r56 o56=>NA r56<|.done 0 [.agg [VS ((r56.cs.getD 0 .any).toStr),(r56.cs.getD 1 .any)]] [.cells [((o55.hO).cs.getD 0 .any),VI (((o55.hO).cs.getD 1 .any).toInt)]]) (.test (af r1.toStr==af (mk [114,101,99])) (.call 89 [.agg [VS a1_0,a1_1]] [] fun r57 o57=>NT r57<|.ai ((r57.comp 0)=.agg (r57.comp 0).cs/\(r57.comp 0).cs.length=2/\bI [.str,.sl] ((r57.comp 0).cs) 0)<|NB (r57.comp 1)<|.test (!((r57.comp 1).toBool)) (.done 0 [.agg [VS (mk [117]),.v (.slice none 0 0)]] [.cells [a0_0,VI a0_1]]) (.test (decide (a2<((-12):Int))) (.done 0 [.agg [VS (mk [117]),.v (.slice none 0 0)]] [.cells [a0_0,VI a0_1]]) (.call 64 [.ref 0 0,.agg [VS (((r57.comp 0).cs.getD 0 .any).toStr),((r57.comp 0).cs.getD 1 .any)],VI (IntKind.wrap .i64 (a2-1))] [.cells [a0_0,VI a0_1]] fun r58 o58=>.ai ((o58.hO)=.cells (o58.hO).cs)<|.ai (aK [.lk .sl,.lk (.int .i64)] ((o58.hO).cs) 0 1 o58.tail)<|NA r58<|.call 81 [VS (mk [102]),.sl [[VS ((r58.cs.getD 0 .any).toStr),(r58.cs.getD 1 .any)]]] [] fun r59 o59=>NA r59<|.done 0 [.agg [VS ((r59.cs.getD 0 .any).toStr),(r59.cs.getD 1 .any)]] [.cells [((o58.hO).cs.getD 0 .any),VI (((o58.hO).cs.getD 1 .any).toInt)]]))) (.test (af a1_0==af (mk [49])) (.done 0 [.agg [VS (mk [117]),.v (.slice none 0 0)]] [.cells [a0_0,VI a0_1]]) (.call 43 [.ref 0 0,VI 3] [.cells [a0_0,VI a0_1]] fun r60 o60=>.ai ((o60.hO)=.cells (o60.hO).cs)<|.ai (aK [.lk .sl,.lk (.int .i64)] ((o60.hO).cs) 0 1 o60.tail)<|NI r60<|.call 90 [VI r60.toInt] [] fun r61 o61=>NS r61<|.ai (ag (mk [101])+ag r61.toStr<=9223372036854775807)<|.done 0 [.agg [VS (((mk [101]):ByteArray)++r61.toStr),.v (.slice none 0 0)]] [.cells [((o60.hO).cs.getD 0 .any),VI (((o60.hO).cs.getD 1 .any).toInt)]]))))
theorem C7(a0_0:AV)(a0_1:Int)(a1_0:ByteArray)(a1_1:AV)(a2:Int)(ha1_1:LK.has .sl a1_1)(ha0_0:LK.has .sl a0_0)(h:di 132 (AU a0_0 a0_1 a1_0 a1_1 a2) R):an Tryz.prog 64 [.ref 0 0,.agg [VS a1_0,a1_1],VI a2] [.cells [a0_0,VI a0_1]] R :=
 an.mY (bw (ca (ah (bP ha0_0) (ah (aA _) aC))) cv) (an.up (ah (aA _) (ah (cb (ah (aA _) (ah (bP ha1_1) aC))) (ah (aA _) aC))) (oF [] {mu:=[(0,.one (.obj [.lk .sl,.lk (.int .i64)]))],own:=[]} Tryz.f64 h))
def IK:LI:={hd:={bS:=[(1,.k .sl),(6,.k (.int .i64))],refs:=[(2,2),(4,4)],cq:=[(2,[.lk .str,.lk .sl]),(4,[.lk .str,.lk .sl])],eM:=[(5,1)]},xs:={refs:=[(2,2),(4,4)],cq:=[(2,[.lk .str,.lk .sl]),(4,[.lk .str,.lk .sl])],eM:=[(5,1)]},rt:={},ex:=0}
def M7:Code:=cG (cB Tryz.f65) 3
def N0:List (Nat×LI):=[(3,IK)]
def Ma(a0_0:ByteArray)(a0_1:AV)(a1:AV):Tree :=
 .call 84 [.agg [VS a0_0,a0_1],.sl [],.vec 0] [.vec 1 []] fun r1 o1=>.ai (r1=.vec 1/\(o1.tail.hO)=.vec 1 (o1.tail.hO).es)<|.loop M7 IK [a1,VI 0] [.cells [VS a0_0,a0_1],.cells [VS (mk []),.v (.slice none 0 0)],.vec 1 ((o1.tail.hO).es)] (fun y3 q3=>.ai ((q3.hO)=.cells (q3.hO).cs)<|.ai (ae [.lk .str,.lk .sl] ((q3.hO).cs) 0 q3.tail)<|.ai (((q3.tail.drop 0).hO)=.cells ((q3.tail.drop 0).hO).cs)<|.ai (ae [.lk .str,.lk .sl] (((q3.tail.drop 0).hO).cs) 0 ((q3.tail.drop 0).tail))<|.ai (((q3.drop 2).hO)=.vec 1 ((q3.drop 2).hO).es)<|.call 91 [.agg [VS (((q3.hO).cs.getD 0 .any).toStr),((q3.hO).cs.getD 1 .any)],.sl [],.sl [],.ref 0 0] [.cells [.vec 1,VI 0],.vec 1 ((q3.tail.tail.hO).es)] fun r4 o4=>.ai ((o4.hO)=.cells (o4.hO).cs)<|.ai (aK [.vec 1,.lk (.int .i64)] ((o4.hO).cs) 0 1 o4.tail)<|NA r4<|.done 0 [.agg [VS ((r4.cs.getD 0 .any).toStr),(r4.cs.getD 1 .any)]] []) (fun y3 q3=>.fail)
theorem Q3(a0_0:ByteArray)(a0_1:AV)(a1:AV)(ha0_1:LK.has .sl a0_1)(ha1:LK.has .sl a1)(h:di 33 (Ma a0_0 a0_1 a1) R):an Tryz.prog 65 [.agg [VS a0_0,a0_1],a1] [] R :=
 uQ (ah (cb (ah (aA _) (ah (bP ha0_1) aC))) (ah (bP ha1) aC)) (oQ N0 Tryz.f65 h)
def GA(x1:AV)(x6:Int)(o2_0:ByteArray)(o2_1:AV)(o4_0:ByteArray)(o4_1:AV)(e5:List (List AV)):Tree :=
 NL x1<|NI (VI x6)<|.ai (Ob.cells [VS o2_0,o2_1]=.cells [VS o2_0,o2_1])<|.ai (ae [.lk .str,.lk .sl] [VS o2_0,o2_1] 0 [.cells [VS o4_0,o4_1],.vec 1 e5])<|.ai (Ob.cells [VS o4_0,o4_1]=.cells [VS o4_0,o4_1])<|.ai (ae [.lk .str,.lk .sl] [VS o4_0,o4_1] 0 [.vec 1 e5])<|.ai (Ob.vec 1 e5=.vec 1 e5)<|NL x1<|.test (decide (x6<(x1.elems.length:Int))) (NG x1 x6 2<|NE (x1.ix x6)<|.call 84 [.agg [VS (((x1.ix x6).getD 0 .any).toStr),((x1.ix x6).getD 1 .any)],.sl [],.vec 0] [.vec 1 []] fun r1 o1=>.ai (r1=.vec 1/\(o1.tail.hO)=.vec 1 (o1.tail.hO).es)<|.ai (cC 1 ((o1.tail.hO).es)/\((e5.length)+((o1.tail.hO).es).length)*16<=140737488355328)<|.done 0 [x1,VI (IntKind.wrap .i64 (x6+1))] [.cells [VS o2_0,o2_1],.cells [VS o4_0,o4_1],.vec 1 (e5++((o1.tail.hO).es))]) (.done 1 [] [.cells [VS o2_0,o2_1],.cells [VS o4_0,o4_1],.vec 1 e5])
abbrev Hm:=cA Tryz.prog 33 M7 IK
theorem M4(x1:AV)(x6:Int)(o2_0:ByteArray)(o2_1:AV)(o4_0:ByteArray)(o4_1:AV)(e5:List (List AV))(h:ka 33 (GA x1 x6 o2_0 o2_1 o4_0 o4_1 e5) Hm U):Hm [x1,VI x6] [.cells [VS o2_0,o2_1],.cells [VS o4_0,o4_1],.vec 1 e5] U :=
 gQ N0 h
def Kf(a0:ByteArray):Tree :=
 .call 83 [VS a0] [] fun r1 o1=>NT r1<|.ai ((r1.comp 0)=.agg (r1.comp 0).cs/\(r1.comp 0).cs.length=2/\bI [.str,.sl] ((r1.comp 0).cs) 0)<|NB (r1.comp 1)<|.test (!((r1.comp 1).toBool)) (.done 0 [.cH [VS (mk []),VB false]] []) (.call 86 [.agg [VS (((r1.comp 0).cs.getD 0 .any).toStr),((r1.comp 0).cs.getD 1 .any)]] [] fun r2 o2=>NS r2<|.test (!(af r2.toStr==af (mk [114,101,99]))) (.done 0 [.cH [VS (mk []),VB false]] []) (.call 92 [.agg [VS (((r1.comp 0).cs.getD 0 .any).toStr),((r1.comp 0).cs.getD 1 .any)]] [] fun r3 o3=>NT r3<|.ai ((r3.comp 0)=.agg (r3.comp 0).cs/\(r3.comp 0).cs.length=2/\bI [.str,.sl] ((r3.comp 0).cs) 0)<|NB (r3.comp 1)<|.test (!((r3.comp 1).toBool)) (.done 0 [.cH [VS (mk []),VB false]] []) (.call 93 [.agg [VS (((r3.comp 0).cs.getD 0 .any).toStr),((r3.comp 0).cs.getD 1 .any)]] [] fun r4 o4=>NT r4<|NS (r4.comp 0)<|NB (r4.comp 1)<|.done 0 [.cH [VS ((r4.comp 0).toStr),VB ((r4.comp 1).toBool)]] [])))
theorem R1(a0:ByteArray)(h:di 31 (Kf a0) R):an Tryz.prog 66 [VS a0] [] R :=
 uQ (ah (aA _) aC) (oQ [] Tryz.f66 h)
def OE(a0:ByteArray):Tree :=
 .call 61 [VS a0] [] fun r1 o1=>NT r1<|.ai ((r1.comp 0)=.agg (r1.comp 0).cs/\(r1.comp 0).cs.length=2/\bI [.str,.sl] ((r1.comp 0).cs) 0)<|NB (r1.comp 1)<|.test ((r1.comp 1).toBool) (.call 86 [.agg [VS (((r1.comp 0).cs.getD 0 .any).toStr),((r1.comp 0).cs.getD 1 .any)]] [] fun r2 o2=>NS r2<|.done 0 [.cH [.agg [VS (((r1.comp 0).cs.getD 0 .any).toStr),((r1.comp 0).cs.getD 1 .any)],VB (af r2.toStr==af (mk [114,101,99]))]] []) (.done 0 [.cH [.agg [VS (((r1.comp 0).cs.getD 0 .any).toStr),((r1.comp 0).cs.getD 1 .any)],VB false]] [])
theorem SD(a0:ByteArray)(h:di 18 (OE a0) R):an Tryz.prog 67 [VS a0] [] R :=
 uQ (ah (aA _) aC) (oQ [] Tryz.f67 h)
def Ke(a0:ByteArray)(a1:ByteArray)(a2:Int):Tree :=
 .call 61 [VS a0] [] fun r1 o1=>NT r1<|.ai ((r1.comp 0)=.agg (r1.comp 0).cs/\(r1.comp 0).cs.length=2/\bI [.str,.sl] ((r1.comp 0).cs) 0)<|NB (r1.comp 1)<|.call 72 [VS a1] [] fun r2 o2=>NT r2<|.ai ((r2.comp 0)=.agg (r2.comp 0).cs/\(r2.comp 0).cs.length=2/\bI [.str,.sl] ((r2.comp 0).cs) 0)<|NB (r2.comp 1)<|.test ((r1.comp 1).toBool) (.test ((r2.comp 1).toBool) (.call 45 [VI a2,VI 0,VI 100] [] fun r3 o3=>NB r3<|.test r3.toBool (.call 94 [.agg [VS (((r1.comp 0).cs.getD 0 .any).toStr),((r1.comp 0).cs.getD 1 .any)],.sl [],.agg [VS (((r2.comp 0).cs.getD 0 .any).toStr),((r2.comp 0).cs.getD 1 .any)],VI a2] [] fun r4 o4=>NB r4<|.done 0 [VB r4.toBool] []) (.done 0 [VB false] [])) (.done 0 [VB false] [])) (.done 0 [VB false] [])
theorem Rw(a0:ByteArray)(a1:ByteArray)(a2:Int)(h:di 36 (Ke a0 a1 a2) R):an Tryz.prog 68 [VS a0,VS a1,VI a2] [] R :=
 uQ (ah (aA _) (ah (aA _) (ah (aA _) aC))) (oQ [] Tryz.f68 h)
def Mg(a0:ByteArray)(a1:ByteArray):Tree :=
 .call 95 [VS a0] [] fun r1 o1=>NP r1<|NP r1<|.test r1.isNil (.done 0 [.cH [.v (.pointer none),.v (.pointer none)]] []) (.call 71 [VS a0,VS a1,VI 100] [] fun r2 o2=>NT r2<|NP (r2.comp 0)<|NP (r2.comp 1)<|.done 0 [.cH [(r2.comp 0),(r2.comp 1)]] [])
theorem S2(a0:ByteArray)(a1:ByteArray)(h:di 14 (Mg a0 a1) R):an Tryz.prog 69 [VS a0,VS a1] [] R :=
 uQ (ah (aA _) (ah (aA _) aC)) (oQ [] Tryz.f69 h)
def MR(a0:ByteArray):Tree :=
 .call 96 [VS a0] [] fun r1 o1=>NP r1<|NP r1<|.test r1.isNil (.done 0 [.cH [VS (mk []),VB false]] []) (NZ r1<|NZ r1<|.ai (LK.has (.int .u8) (r1.deref.hA)/\1<=r1.deref.length)<|.test (((r1.deref.hA).toInt) != (114:Int)) (.done 0 [.cH [VS (mk []),VB false]] []) (.call 97 [r1] [] fun r2 o2=>NT r2<|NP (r2.comp 0)<|NB (r2.comp 1)<|.test (!((r2.comp 1).toBool)) (.done 0 [.cH [VS (mk []),VB false]] []) (.call 98 [(r2.comp 0)] [] fun r3 o3=>NT r3<|NS (r3.comp 0)<|NB (r3.comp 1)<|.done 0 [.cH [VS ((r3.comp 0).toStr),VB ((r3.comp 1).toBool)]] [])))
theorem P5(a0:ByteArray)(h:di 29 (MR a0) R):an Tryz.prog 70 [VS a0] [] R :=
 uQ (ah (aA _) aC) (oQ [] Tryz.f70 h)
def Kn(a0:ByteArray)(a1:ByteArray)(a2:Int):Tree :=
 .call 99 [VS a0] [] fun r1 o1=>NP r1<|.call 100 [VS a1] [] fun r2 o2=>NP r2<|NP r1<|.test r1.isNil (.done 0 [.cH [r1,.v (.pointer none)]] []) (NP r2<|.test r2.isNil (.done 0 [.cH [r1,.v (.pointer none)]] []) (.test (decide (a2<(0:Int))) (.done 0 [.cH [r1,.v (.pointer none)]] []) (.test (decide (a2>(100:Int))) (.done 0 [.cH [r1,.v (.pointer none)]] []) (.call 101 [.agg [r1,.v (.pointer none)],r2,VI a2] [] fun r3 o3=>NB r3<|.test (!r3.toBool) (.done 0 [.cH [r1,.v (.pointer none)]] []) (.done 0 [.cH [r1,r2]] [])))))
theorem P9(a0:ByteArray)(a1:ByteArray)(a2:Int)(h:di 39 (Kn a0 a1 a2) R):an Tryz.prog 71 [VS a0,VS a1,VI a2] [] R :=
 uQ (ah (aA _) (ah (aA _) (ah (aA _) aC))) (oQ [] Tryz.f71 h)
def Of(a0:ByteArray):Tree :=
 .call 102 [VS a0] [] fun r1 o1=>NT r1<|.ai ((r1.comp 0)=.agg (r1.comp 0).cs/\(r1.comp 0).cs.length=2/\bI [.str,.sl] ((r1.comp 0).cs) 0)<|NB (r1.comp 1)<|.test ((r1.comp 1).toBool) (.call 103 [.agg [VS (((r1.comp 0).cs.getD 0 .any).toStr),((r1.comp 0).cs.getD 1 .any)]] [] fun r2 o2=>NB r2<|.test r2.toBool (.call 104 [.agg [VS (((r1.comp 0).cs.getD 0 .any).toStr),((r1.comp 0).cs.getD 1 .any)]] [] fun r3 o3=>NI r3<|.done 0 [.cH [.agg [VS (((r1.comp 0).cs.getD 0 .any).toStr),((r1.comp 0).cs.getD 1 .any)],VB (decide (r3.toInt<=(200:Int)))]] []) (.done 0 [.cH [.agg [VS (((r1.comp 0).cs.getD 0 .any).toStr),((r1.comp 0).cs.getD 1 .any)],VB false]] [])) (.done 0 [.cH [.agg [VS (((r1.comp 0).cs.getD 0 .any).toStr),((r1.comp 0).cs.getD 1 .any)],VB false]] [])
theorem SA(a0:ByteArray)(h:di 22 (Of a0) R):an Tryz.prog 72 [VS a0] [] R :=
 uQ (ah (aA _) aC) (oQ [] Tryz.f72 h)
def Ij:LI:={hd:={bS:=[(0,.k .sl),(4,.k (.int .i64))],eM:=[(3,2)]},xs:={eM:=[(3,2)]},rt:={},ex:=0}
def J0:Code:=cG (cB Tryz.f73) 3
def OY:List (Nat×LI):=[(3,Ij)]
def LA(a0:AV):Tree :=
 .loop J0 Ij [a0,VI 0] [.vec 2 []] (fun y3 q3=>.ai (((q3.drop 0).hO)=.vec 2 ((q3.drop 0).hO).es)<|.done 0 [.sl ((q3.hO).es)] []) (fun y3 q3=>.done 0 [.any] [])
theorem SB(a0:AV)(ha0:LK.has .sl a0)(h:di 29 (LA a0) R):an Tryz.prog 73 [a0] [] R :=
 uQ (ah (bP ha0) aC) (oQ OY Tryz.f73 h)
def Fw(x0:AV)(x4:Int)(e3:List (List AV)):Tree :=
 NL x0<|NI (VI x4)<|.ai (Ob.vec 2 e3=.vec 2 e3)<|NL x0<|.test (decide (x4<(x0.elems.length:Int))) (NG x0 x4 4<|NE (x0.ix x4)<|.call 63 [.agg [VS (((x0.ix x4).getD 0 .any).toStr),((x0.ix x4).getD 1 .any)]] [] fun r1 o1=>NS r1<|NG x0 x4 4<|NE ((x0.ix x4).drop 2)<|.call 63 [.agg [VS ((((x0.ix x4).drop 2).getD 0 .any).toStr),(((x0.ix x4).drop 2).getD 1 .any)]] [] fun r2 o2=>NS r2<|.ai (cC 2 [[VS r1.toStr,VS r2.toStr]]/\((e3.length)+([[VS r1.toStr,VS r2.toStr]]:List (List AV)).length)*32<=140737488355328)<|.done 0 [x0,VI (IntKind.wrap .i64 (x4+1))] [.vec 2 (e3++([[VS r1.toStr,VS r2.toStr]]:List (List AV)))]) (.done 1 [] [.vec 2 e3])
abbrev FF:=cA Tryz.prog 29 J0 Ij
theorem KW(x0:AV)(x4:Int)(e3:List (List AV))(h:ka 29 (Fw x0 x4 e3) FF U):FF [x0,VI x4] [.vec 2 e3] U :=
 gQ OY h
def IA:LI:={hd:={bS:=[(1,.k .str),(8,.k .sl),(9,.k (.int .i64))],refs:=[(3,3),(5,5)],cq:=[(3,[.lk .str,.lk .sl]),(5,[.lk .str,.lk .sl])],eM:=[(7,4)]},xs:={bS:=[(1,.k .str)],refs:=[(3,3),(5,5)],cq:=[(3,[.lk .str,.lk .sl]),(5,[.lk .str,.lk .sl])],eM:=[(7,4)]},rt:={},ex:=1}
def K5:Code:=cG (cB Tryz.f74) 14
def H9:LI:={hd:={bS:=[(10,.k .sl),(11,.k (.int .i64))],refs:=[(5,5)],cq:=[(5,[.lk .str,.lk .sl])],eM:=[(7,4)]},xs:={eM:=[(7,4)]},rt:={},ex:=3}
def J1:Code:=cG (cB Tryz.f74) 19
def IC:LI:={hd:={bS:=[(1,.k .str),(12,.k .str),(13,.k .sl),(14,.k (.int .i64))],refs:=[(3,3),(5,5)],cq:=[(3,[.lk .str,.lk .sl]),(5,[.lk .str,.lk .sl])],eM:=[(7,4)]},xs:={bS:=[(1,.k .str),(12,.k .str)],refs:=[(3,3),(5,5)],cq:=[(3,[.lk .str,.lk .sl]),(5,[.lk .str,.lk .sl])],eM:=[(7,4)]},rt:={},ex:=5}
def Nd:Code:=cG (cB Tryz.f74) 28
def GI:LI:={hd:={bS:=[(1,.k .str),(15,.k .sl),(16,.k (.int .i64))],refs:=[(3,3)],cq:=[(3,[.lk .str,.lk .sl])],eM:=[(7,4)]},xs:={eM:=[(7,4)]},rt:={},ex:=7}
def NN:Code:=cG (cB Tryz.f74) 33
def Fu:LI:={hd:={bS:=[(1,.k .str),(15,.k .sl),(16,.k (.int .i64)),(17,.k .sl),(18,.k (.int .i64))],refs:=[(3,3)],cq:=[(3,[.lk .str,.lk .sl])],eM:=[(7,4)]},xs:={bS:=[(1,.k .str),(15,.k .sl),(16,.k (.int .i64))],refs:=[(3,3)],cq:=[(3,[.lk .str,.lk .sl])],eM:=[(7,4)]},rt:={},ex:=9}
def NH:Code:=cG (cB Tryz.f74) 37
def zP:List (Nat×LI):=[(14,IA),(19,H9),(28,IC),(33,GI),(37,Fu)]
def xr(a0_0:ByteArray)(a0_1:AV)(a1:ByteArray)(a2_0:ByteArray)(a2_1:AV):Tree :=
 .test (!(af a0_0==af (mk []))) (.test (af a0_0==af a1) (.ai (cC 4 [[VS (mk [117]),.v (.slice none 0 0),VS a2_0,a2_1]]/\((([]:List (List AV)).length)+([[VS (mk [117]),.v (.slice none 0 0),VS a2_0,a2_1]]:List (List AV)).length)*80<=140737488355328)<|.done 0 [.sl [[VS (mk [117]),.v (.slice none 0 0),VS a2_0,a2_1]]] []) (.done 0 [.sl []] [])) (.call 86 [.agg [VS a2_0,a2_1]] [] fun r1 o1=>NS r1<|.test (af r1.toStr==af (mk [108])) (NG a0_1 1 2<|NE (a0_1.ix (1:Int))<|NG a2_1 1 2<|NE (a2_1.ix (1:Int))<|.call 74 [.agg [VS (((a0_1.ix (1:Int)).getD 0 .any).toStr),((a0_1.ix (1:Int)).getD 1 .any)],VS a1,.agg [VS (((a2_1.ix (1:Int)).getD 0 .any).toStr),((a2_1.ix (1:Int)).getD 1 .any)]] [] fun r2 o2=>NL r2<|.call 105 [r2,VS (mk [108]),.vec 0] [.vec 4 []] fun r3 o3=>.ai (r3=.vec 1/\(o3.tail.hO)=.vec 4 (o3.tail.hO).es)<|.done 0 [.sl ((o3.tail.hO).es)] []) (.test (af r1.toStr==af (mk [114])) (NG a0_1 2 2<|NE (a0_1.ix (2:Int))<|NG a2_1 1 2<|NE (a2_1.ix (1:Int))<|.call 74 [.agg [VS (((a0_1.ix (2:Int)).getD 0 .any).toStr),((a0_1.ix (2:Int)).getD 1 .any)],VS a1,.agg [VS (((a2_1.ix (1:Int)).getD 0 .any).toStr),((a2_1.ix (1:Int)).getD 1 .any)]] [] fun r4 o4=>NL r4<|.call 105 [r4,VS (mk [114]),.vec 0] [.vec 4 []] fun r5 o5=>.ai (r5=.vec 1/\(o5.tail.hO)=.vec 4 (o5.tail.hO).es)<|.done 0 [.sl ((o5.tail.hO).es)] []) (.test (af r1.toStr==af (mk [112])) (NG a0_1 1 2<|NE (a0_1.ix (1:Int))<|NG a2_1 1 2<|NE (a2_1.ix (1:Int))<|.call 74 [.agg [VS (((a0_1.ix (1:Int)).getD 0 .any).toStr),((a0_1.ix (1:Int)).getD 1 .any)],VS a1,.agg [VS (((a2_1.ix (1:Int)).getD 0 .any).toStr),((a2_1.ix (1:Int)).getD 1 .any)]] [] fun r6 o6=>NL r6<|.loop K5 IA [VS a1,r6,VI 0] [.cells [VS a0_0,a0_1],.cells [VS a2_0,a2_1],.vec 4 []] (fun y9 q9=>NS (y9.hA)<|.ai ((q9.hO)=.cells (q9.hO).cs)<|.ai (ae [.lk .str,.lk .sl] ((q9.hO).cs) 0 q9.tail)<|.ai (((q9.tail.drop 0).hO)=.cells ((q9.tail.drop 0).hO).cs)<|.ai (ae [.lk .str,.lk .sl] (((q9.tail.drop 0).hO).cs) 0 ((q9.tail.drop 0).tail))<|.ai (((q9.drop 2).hO)=.vec 4 ((q9.drop 2).hO).es)<|NG ((q9.hO).cs.getD 1 .any) 2 2<|NE (((q9.hO).cs.getD 1 .any).ix (2:Int))<|NG ((q9.tail.hO).cs.getD 1 .any) 2 2<|NE (((q9.tail.hO).cs.getD 1 .any).ix (2:Int))<|.call 74 [.agg [VS (((((q9.hO).cs.getD 1 .any).ix (2:Int)).getD 0 .any).toStr),((((q9.hO).cs.getD 1 .any).ix (2:Int)).getD 1 .any)],VS ((y9.hA).toStr),.agg [VS (((((q9.tail.hO).cs.getD 1 .any).ix (2:Int)).getD 0 .any).toStr),((((q9.tail.hO).cs.getD 1 .any).ix (2:Int)).getD 1 .any)]] [] fun r10 o10=>NL r10<|.loop J1 H9 [r10,VI 0] [.cells [VS (((q9.tail.hO).cs.getD 0 .any).toStr),((q9.tail.hO).cs.getD 1 .any)],.vec 4 ((q9.tail.tail.hO).es)] (fun y13 q13=>.ai (((q13.drop 0).hO)=.vec 4 ((q13.drop 0).hO).es)<|.done 0 [.sl ((q13.hO).es)] []) (fun y13 q13=>.done 0 [.any] [])) (fun y9 q9=>.done 0 [.any] [])) (NG a0_1 1 2<|kK (a0_1.ix (1:Int))<|.test (af (((a0_1.ix (1:Int)).hA).toStr)==af a1) (.done 0 [.sl []] []) (NG a0_1 2 2<|NE (a0_1.ix (2:Int))<|NG a2_1 1 2<|NE (a2_1.ix (1:Int))<|.call 74 [.agg [VS (((a0_1.ix (2:Int)).getD 0 .any).toStr),((a0_1.ix (2:Int)).getD 1 .any)],VS a1,.agg [VS (((a2_1.ix (1:Int)).getD 0 .any).toStr),((a2_1.ix (1:Int)).getD 1 .any)]] [] fun r14 o14=>NL r14<|.loop Nd IC [VS a1,VS (((a0_1.ix (1:Int)).hA).toStr),r14,VI 0] [.cells [VS a0_0,a0_1],.cells [VS a2_0,a2_1],.vec 4 []] (fun y17 q17=>NS (y17.hA)<|NS (y17.tail.hA)<|.ai ((q17.hO)=.cells (q17.hO).cs)<|.ai (ae [.lk .str,.lk .sl] ((q17.hO).cs) 0 q17.tail)<|.ai (((q17.tail.drop 0).hO)=.cells ((q17.tail.drop 0).hO).cs)<|.ai (ae [.lk .str,.lk .sl] (((q17.tail.drop 0).hO).cs) 0 ((q17.tail.drop 0).tail))<|.ai (((q17.drop 2).hO)=.vec 4 ((q17.drop 2).hO).es)<|NG ((q17.hO).cs.getD 1 .any) 2 2<|NE (((q17.hO).cs.getD 1 .any).ix (2:Int))<|NG ((q17.tail.hO).cs.getD 1 .any) 1 2<|NE (((q17.tail.hO).cs.getD 1 .any).ix (1:Int))<|.call 74 [.agg [VS (((((q17.hO).cs.getD 1 .any).ix (2:Int)).getD 0 .any).toStr),((((q17.hO).cs.getD 1 .any).ix (2:Int)).getD 1 .any)],VS ((y17.tail.hA).toStr),.agg [VS (((((q17.tail.hO).cs.getD 1 .any).ix (1:Int)).getD 0 .any).toStr),((((q17.tail.hO).cs.getD 1 .any).ix (1:Int)).getD 1 .any)]] [] fun r18 o18=>NL r18<|.loop NN GI [VS ((y17.hA).toStr),r18,VI 0] [.cells [VS (((q17.hO).cs.getD 0 .any).toStr),((q17.hO).cs.getD 1 .any)],.vec 4 ((q17.tail.tail.hO).es)] (fun y24 q24=>.ai (((q24.drop 0).hO)=.vec 4 ((q24.drop 0).hO).es)<|.done 0 [.sl ((q24.hO).es)] []) (fun y24 q24=>.done 0 [.any] [])) (fun y17 q17=>.done 0 [.any] []))))))
theorem Sx(a0_0:ByteArray)(a0_1:AV)(a1:ByteArray)(a2_0:ByteArray)(a2_1:AV)(ha0_1:LK.has .sl a0_1)(ha2_1:LK.has .sl a2_1)(h:di 244 (xr a0_0 a0_1 a1 a2_0 a2_1) R):an Tryz.prog 74 [.agg [VS a0_0,a0_1],VS a1,.agg [VS a2_0,a2_1]] [] R :=
 uQ (ah (cb (ah (aA _) (ah (bP ha0_1) aC))) (ah (aA _) (ah (cb (ah (aA _) (ah (bP ha2_1) aC))) aC))) (oQ zP Tryz.f74 h)
def HW(x1:ByteArray)(x8:AV)(x9:Int)(o3_0:ByteArray)(o3_1:AV)(o5_0:ByteArray)(o5_1:AV)(e7:List (List AV)):Tree :=
 NS (VS x1)<|NL x8<|NI (VI x9)<|.ai (Ob.cells [VS o3_0,o3_1]=.cells [VS o3_0,o3_1])<|.ai (ae [.lk .str,.lk .sl] [VS o3_0,o3_1] 0 [.cells [VS o5_0,o5_1],.vec 4 e7])<|.ai (Ob.cells [VS o5_0,o5_1]=.cells [VS o5_0,o5_1])<|.ai (ae [.lk .str,.lk .sl] [VS o5_0,o5_1] 0 [.vec 4 e7])<|.ai (Ob.vec 4 e7=.vec 4 e7)<|NL x8<|.test (decide (x9<(x8.elems.length:Int))) (NG x8 x9 4<|NE (x8.ix x9)<|NG o5_1 2 2<|NE (o5_1.ix (2:Int))<|.call 81 [VS (mk [112]),.sl [[VS (((x8.ix x9).getD 0 .any).toStr),((x8.ix x9).getD 1 .any)],[VS (((o5_1.ix (2:Int)).getD 0 .any).toStr),((o5_1.ix (2:Int)).getD 1 .any)]]] [] fun r1 o1=>NA r1<|.call 81 [VS (mk [108]),.sl [[VS ((r1.cs.getD 0 .any).toStr),(r1.cs.getD 1 .any)]]] [] fun r2 o2=>NA r2<|NG x8 x9 4<|NE ((x8.ix x9).drop 2)<|.ai (cC 4 [[VS ((r2.cs.getD 0 .any).toStr),(r2.cs.getD 1 .any),VS ((((x8.ix x9).drop 2).getD 0 .any).toStr),(((x8.ix x9).drop 2).getD 1 .any)]]/\((e7.length)+([[VS ((r2.cs.getD 0 .any).toStr),(r2.cs.getD 1 .any),VS ((((x8.ix x9).drop 2).getD 0 .any).toStr),(((x8.ix x9).drop 2).getD 1 .any)]]:List (List AV)).length)*80<=140737488355328)<|.done 0 [VS x1,x8,VI (IntKind.wrap .i64 (x9+1))] [.cells [VS o3_0,o3_1],.cells [VS o5_0,o5_1],.vec 4 (e7++([[VS ((r2.cs.getD 0 .any).toStr),(r2.cs.getD 1 .any),VS ((((x8.ix x9).drop 2).getD 0 .any).toStr),(((x8.ix x9).drop 2).getD 1 .any)]]:List (List AV)))]) (.done 1 [VS x1] [.cells [VS o3_0,o3_1],.cells [VS o5_0,o5_1],.vec 4 e7])
abbrev F5:=cA Tryz.prog 244 K5 IA
theorem LH(x1:ByteArray)(x8:AV)(x9:Int)(o3_0:ByteArray)(o3_1:AV)(o5_0:ByteArray)(o5_1:AV)(e7:List (List AV))(h:ka 244 (HW x1 x8 x9 o3_0 o3_1 o5_0 o5_1 e7) F5 U):F5 [VS x1,x8,VI x9] [.cells [VS o3_0,o3_1],.cells [VS o5_0,o5_1],.vec 4 e7] U :=
 gQ zP h
def G0(x10:AV)(x11:Int)(o5_0:ByteArray)(o5_1:AV)(e7:List (List AV)):Tree :=
 NL x10<|NI (VI x11)<|.ai (Ob.cells [VS o5_0,o5_1]=.cells [VS o5_0,o5_1])<|.ai (ae [.lk .str,.lk .sl] [VS o5_0,o5_1] 0 [.vec 4 e7])<|.ai (Ob.vec 4 e7=.vec 4 e7)<|NL x10<|.test (decide (x11<(x10.elems.length:Int))) (NG o5_1 1 2<|NE (o5_1.ix (1:Int))<|NG x10 x11 4<|NE (x10.ix x11)<|.call 81 [VS (mk [112]),.sl [[VS (((o5_1.ix (1:Int)).getD 0 .any).toStr),((o5_1.ix (1:Int)).getD 1 .any)],[VS (((x10.ix x11).getD 0 .any).toStr),((x10.ix x11).getD 1 .any)]]] [] fun r1 o1=>NA r1<|.call 81 [VS (mk [114]),.sl [[VS ((r1.cs.getD 0 .any).toStr),(r1.cs.getD 1 .any)]]] [] fun r2 o2=>NA r2<|NG x10 x11 4<|NE ((x10.ix x11).drop 2)<|.ai (cC 4 [[VS ((r2.cs.getD 0 .any).toStr),(r2.cs.getD 1 .any),VS ((((x10.ix x11).drop 2).getD 0 .any).toStr),(((x10.ix x11).drop 2).getD 1 .any)]]/\((e7.length)+([[VS ((r2.cs.getD 0 .any).toStr),(r2.cs.getD 1 .any),VS ((((x10.ix x11).drop 2).getD 0 .any).toStr),(((x10.ix x11).drop 2).getD 1 .any)]]:List (List AV)).length)*80<=140737488355328)<|.done 0 [x10,VI (IntKind.wrap .i64 (x11+1))] [.cells [VS o5_0,o5_1],.vec 4 (e7++([[VS ((r2.cs.getD 0 .any).toStr),(r2.cs.getD 1 .any),VS ((((x10.ix x11).drop 2).getD 0 .any).toStr),(((x10.ix x11).drop 2).getD 1 .any)]]:List (List AV)))]) (.done 1 [] [.vec 4 e7])
abbrev IQ:=cA Tryz.prog 244 J1 H9
theorem O6(x10:AV)(x11:Int)(o5_0:ByteArray)(o5_1:AV)(e7:List (List AV))(h:ka 244 (G0 x10 x11 o5_0 o5_1 e7) IQ U):IQ [x10,VI x11] [.cells [VS o5_0,o5_1],.vec 4 e7] U :=
 gQ zP h
def HD(x1:ByteArray)(x12:ByteArray)(x13:AV)(x14:Int)(o3_0:ByteArray)(o3_1:AV)(o5_0:ByteArray)(o5_1:AV)(e7:List (List AV)):Tree :=
 NS (VS x1)<|NS (VS x12)<|NL x13<|NI (VI x14)<|.ai (Ob.cells [VS o3_0,o3_1]=.cells [VS o3_0,o3_1])<|.ai (ae [.lk .str,.lk .sl] [VS o3_0,o3_1] 0 [.cells [VS o5_0,o5_1],.vec 4 e7])<|.ai (Ob.cells [VS o5_0,o5_1]=.cells [VS o5_0,o5_1])<|.ai (ae [.lk .str,.lk .sl] [VS o5_0,o5_1] 0 [.vec 4 e7])<|.ai (Ob.vec 4 e7=.vec 4 e7)<|NL x13<|.test (decide (x14<(x13.elems.length:Int))) (NG x13 x14 4<|NE (x13.ix x14)<|.call 81 [VS (mk [108]),.sl [[VS (((x13.ix x14).getD 0 .any).toStr),((x13.ix x14).getD 1 .any)]]] [] fun r1 o1=>NA r1<|.call 81 [VS (mk [102]),.sl [[VS ((r1.cs.getD 0 .any).toStr),(r1.cs.getD 1 .any)]]] [] fun r2 o2=>NA r2<|NG x13 x14 4<|NE ((x13.ix x14).drop 2)<|.ai (cC 4 [[VS ((r2.cs.getD 0 .any).toStr),(r2.cs.getD 1 .any),VS ((((x13.ix x14).drop 2).getD 0 .any).toStr),(((x13.ix x14).drop 2).getD 1 .any)]]/\((e7.length)+([[VS ((r2.cs.getD 0 .any).toStr),(r2.cs.getD 1 .any),VS ((((x13.ix x14).drop 2).getD 0 .any).toStr),(((x13.ix x14).drop 2).getD 1 .any)]]:List (List AV)).length)*80<=140737488355328)<|.done 0 [VS x1,VS x12,x13,VI (IntKind.wrap .i64 (x14+1))] [.cells [VS o3_0,o3_1],.cells [VS o5_0,o5_1],.vec 4 (e7++([[VS ((r2.cs.getD 0 .any).toStr),(r2.cs.getD 1 .any),VS ((((x13.ix x14).drop 2).getD 0 .any).toStr),(((x13.ix x14).drop 2).getD 1 .any)]]:List (List AV)))]) (.done 1 [VS x1,VS x12] [.cells [VS o3_0,o3_1],.cells [VS o5_0,o5_1],.vec 4 e7])
abbrev Fj:=cA Tryz.prog 244 Nd IC
theorem Oc(x1:ByteArray)(x12:ByteArray)(x13:AV)(x14:Int)(o3_0:ByteArray)(o3_1:AV)(o5_0:ByteArray)(o5_1:AV)(e7:List (List AV))(h:ka 244 (HD x1 x12 x13 x14 o3_0 o3_1 o5_0 o5_1 e7) Fj U):Fj [VS x1,VS x12,x13,VI x14] [.cells [VS o3_0,o3_1],.cells [VS o5_0,o5_1],.vec 4 e7] U :=
 gQ zP h
def Fp(x1:ByteArray)(x15:AV)(x16:Int)(o3_0:ByteArray)(o3_1:AV)(e7:List (List AV)):Tree :=
 NS (VS x1)<|NL x15<|NI (VI x16)<|.ai (Ob.cells [VS o3_0,o3_1]=.cells [VS o3_0,o3_1])<|.ai (ae [.lk .str,.lk .sl] [VS o3_0,o3_1] 0 [.vec 4 e7])<|.ai (Ob.vec 4 e7=.vec 4 e7)<|NL x15<|.test (decide (x16<(x15.elems.length:Int))) (NG x15 x16 4<|NE ((x15.ix x16).drop 2)<|.call 74 [.agg [VS o3_0,o3_1],VS x1,.agg [VS ((((x15.ix x16).drop 2).getD 0 .any).toStr),(((x15.ix x16).drop 2).getD 1 .any)]] [] fun r1 o1=>NL r1<|.loop NH Fu [VS x1,x15,VI x16,r1,VI 0] [.cells [VS o3_0,o3_1],.vec 4 e7] (fun y2 q2=>NS (y2.hA)<|NL (y2.tail.hA)<|NI (y2.tail.tail.hA)<|.ai ((q2.hO)=.cells (q2.hO).cs)<|.ai (ae [.lk .str,.lk .sl] ((q2.hO).cs) 0 q2.tail)<|.ai (((q2.drop 1).hO)=.vec 4 ((q2.drop 1).hO).es)<|.done 0 [VS ((y2.hA).toStr),(y2.tail.hA),VI (IntKind.wrap .i64 (((y2.tail.tail.hA).toInt)+1))] [.cells [VS (((q2.hO).cs.getD 0 .any).toStr),((q2.hO).cs.getD 1 .any)],.vec 4 ((q2.tail.hO).es)]) (fun y2 q2=>.done 2 [] [])) (.done 1 [] [.vec 4 e7])
abbrev FD:=cA Tryz.prog 244 NN GI
theorem OZ(x1:ByteArray)(x15:AV)(x16:Int)(o3_0:ByteArray)(o3_1:AV)(e7:List (List AV))(h:ka 244 (Fp x1 x15 x16 o3_0 o3_1 e7) FD U):FD [VS x1,x15,VI x16] [.cells [VS o3_0,o3_1],.vec 4 e7] U :=
 gQ zP h
def F4(x1:ByteArray)(x15:AV)(x16:Int)(x17:AV)(x18:Int)(o3_0:ByteArray)(o3_1:AV)(e7:List (List AV)):Tree :=
 NS (VS x1)<|NL x15<|NI (VI x16)<|NL x17<|NI (VI x18)<|.ai (Ob.cells [VS o3_0,o3_1]=.cells [VS o3_0,o3_1])<|.ai (ae [.lk .str,.lk .sl] [VS o3_0,o3_1] 0 [.vec 4 e7])<|.ai (Ob.vec 4 e7=.vec 4 e7)<|NL x17<|.test (decide (x18<(x17.elems.length:Int))) (NG x15 x16 4<|NE (x15.ix x16)<|NG x17 x18 4<|NE (x17.ix x18)<|.call 81 [VS (mk [112]),.sl [[VS (((x15.ix x16).getD 0 .any).toStr),((x15.ix x16).getD 1 .any)],[VS (((x17.ix x18).getD 0 .any).toStr),((x17.ix x18).getD 1 .any)]]] [] fun r1 o1=>NA r1<|.call 81 [VS (mk [114]),.sl [[VS ((r1.cs.getD 0 .any).toStr),(r1.cs.getD 1 .any)]]] [] fun r2 o2=>NA r2<|.call 81 [VS (mk [102]),.sl [[VS ((r2.cs.getD 0 .any).toStr),(r2.cs.getD 1 .any)]]] [] fun r3 o3=>NA r3<|NG x17 x18 4<|NE ((x17.ix x18).drop 2)<|.ai (cC 4 [[VS ((r3.cs.getD 0 .any).toStr),(r3.cs.getD 1 .any),VS ((((x17.ix x18).drop 2).getD 0 .any).toStr),(((x17.ix x18).drop 2).getD 1 .any)]]/\((e7.length)+([[VS ((r3.cs.getD 0 .any).toStr),(r3.cs.getD 1 .any),VS ((((x17.ix x18).drop 2).getD 0 .any).toStr),(((x17.ix x18).drop 2).getD 1 .any)]]:List (List AV)).length)*80<=140737488355328)<|.done 0 [VS x1,x15,VI x16,x17,VI (IntKind.wrap .i64 (x18+1))] [.cells [VS o3_0,o3_1],.vec 4 (e7++([[VS ((r3.cs.getD 0 .any).toStr),(r3.cs.getD 1 .any),VS ((((x17.ix x18).drop 2).getD 0 .any).toStr),(((x17.ix x18).drop 2).getD 1 .any)]]:List (List AV)))]) (.done 1 [VS x1,x15,VI x16] [.cells [VS o3_0,o3_1],.vec 4 e7])
abbrev Ih:=cA Tryz.prog 244 NH Fu
theorem Mo(x1:ByteArray)(x15:AV)(x16:Int)(x17:AV)(x18:Int)(o3_0:ByteArray)(o3_1:AV)(e7:List (List AV))(h:ka 244 (F4 x1 x15 x16 x17 x18 o3_0 o3_1 e7) Ih U):Ih [VS x1,x15,VI x16,x17,VI x18] [.cells [VS o3_0,o3_1],.vec 4 e7] U :=
 gQ zP h
def MY(a0_0:AV)(a0_1:Int):Tree :=
 .call 62 [.ref 0 0,.sl [[VS (mk [40,114,101,99,32,116,32,40,43,32,49,32,40,42,32,120,32,116,41,41,41])],[VS (mk [40,114,101,99,32,116,32,40,43,32,120,32,40,42,32,116,32,116,41,41,41])],[VS (mk [40,114,101,99,32,116,32,40,43,32,49,32,40,42,32,116,32,40,42,32,120,32,116,41,41,41,41])],[VS (mk [40,114,101,99,32,116,32,40,43,32,49,32,116,41,41])],[VS (mk [40,114,101,99,32,116,32,40,42,32,120,32,40,114,101,99,32,116,49,32,40,43,32,49,32,40,42,32,116,32,116,49,41,41,41,41,41])],[VS (mk [40,114,101,99,32,116,48,32,40,43,32,40,42,32,120,32,121,41,32,40,43,32,116,48,32,40,42,32,116,48,32,116,48,41,41,41,41])],[VS (mk [40,114,101,99,32,116,32,40,43,32,121,32,40,42,32,116,32,40,42,32,116,32,116,41,41,41,41])]]] [.cells [a0_0,VI a0_1]] fun r1 o1=>.ai ((o1.hO)=.cells (o1.hO).cs)<|.ai (aK [.lk .sl,.lk (.int .i64)] ((o1.hO).cs) 0 1 o1.tail)<|NS r1<|.done 0 [VS r1.toStr] [.cells [((o1.hO).cs.getD 0 .any),VI (((o1.hO).cs.getD 1 .any).toInt)]]
theorem Pp(a0_0:AV)(a0_1:Int)(ha0_0:LK.has .sl a0_0)(h:di 6 (MY a0_0 a0_1) R):an Tryz.prog 75 [.ref 0 0] [.cells [a0_0,VI a0_1]] R :=
 an.mY (bw (ca (ah (bP ha0_0) (ah (aA _) aC))) cv) (an.up (ah (aA _) aC) (oF [] {mu:=[(0,.one (.obj [.lk .sl,.lk (.int .i64)]))],own:=[]} Tryz.f75 h))
def JK(a0_0:AV)(a0_1:Int):Tree :=
 .call 106 [.ref 0 0] [.cells [a0_0,VI a0_1]] fun r1 o1=>.ai ((o1.hO)=.cells (o1.hO).cs)<|.ai (aK [.lk .sl,.lk (.int .i64)] ((o1.hO).cs) 0 1 o1.tail)<|NS r1<|.call 39 [.ref 0 0,VS r1.toStr] [.cells [((o1.hO).cs.getD 0 .any),VI (((o1.hO).cs.getD 1 .any).toInt)]] fun r2 o2=>.ai ((o2.hO)=.cells (o2.hO).cs)<|.ai (aK [.lk .sl,.lk (.int .i64)] ((o2.hO).cs) 0 1 o2.tail)<|NS r2<|.done 0 [.cH [VS r1.toStr,VS r2.toStr]] [.cells [((o2.hO).cs.getD 0 .any),VI (((o2.hO).cs.getD 1 .any).toInt)]]
theorem QE(a0_0:AV)(a0_1:Int)(ha0_0:LK.has .sl a0_0)(h:di 11 (JK a0_0 a0_1) R):an Tryz.prog 76 [.ref 0 0] [.cells [a0_0,VI a0_1]] R :=
 an.mY (bw (ca (ah (bP ha0_0) (ah (aA _) aC))) cv) (an.up (ah (aA _) aC) (oF [] {mu:=[(0,.one (.obj [.lk .sl,.lk (.int .i64)]))],own:=[]} Tryz.f76 h))
def I6(a0_0:AV)(a0_1:AV):Tree :=
 NZ a0_0<|NZ a0_0<|dP (a0_0.deref.drop 3)<|.done 0 [.cH [.agg [((a0_0.deref.drop 3).hA),.ptr [.ptr [a0_0,a0_1],a0_1]],.ptr [a0_0,a0_1]]] []
theorem Ri(a0_0:AV)(a0_1:AV)(ha0_0:LK.has .ptr a0_0)(ha0_1:LK.has .ptr a0_1)(h:di 20 (I6 a0_0 a0_1) R):an Tryz.prog 77 [.agg [a0_0,a0_1]] [] R :=
 uQ (ah (cb (ah (bB ha0_0) (ah (bB ha0_1) aC))) aC) (oQ [] Tryz.f77 h)
def JX(a0:Int)(a1:AV):Tree :=
 .done 0 [.ptr [.v (.int .u8 a0),VS (mk []),a1,.v (.pointer none)]] []
theorem RB(a0:Int)(a1:AV)(ha1:LK.has .ptr a1)(h:di 9 (JX a0 a1) R):an Tryz.prog 78 [.v (.int .u8 a0),a1] [] R :=
 uQ (ah (aA _) (ah (bB ha1) aC)) (oQ [] Tryz.f78 h)
def Ce(a0_0:AV)(a0_1:AV)(a1:AV)(a2_0:ByteArray)(a2_1:AV)(a3:AV):Tree :=
 NZ a0_0<|NZ a0_0<|.ai (LK.has (.int .u8) (a0_0.deref.hA)/\1<=a0_0.deref.length)<|.test (((a0_0.deref.hA).toInt)==(43:Int)) (.call 107 [.agg [a0_0,a0_1]] [] fun r1 o1=>.ai (r1=.agg r1.cs/\r1.cs.length=2/\bI [.ptr,.ptr] r1.cs 0)<|NZ a1<|NZ a1<|.ai (LK.has (.int .u8) (a1.deref.hA)/\1<=a1.deref.length)<|.test (((a1.deref.hA).toInt)==(114:Int)) (.call 108 [.agg [a0_0,a0_1]] [] fun r2 o2=>.ai (r2=.agg r2.cs/\r2.cs.length=2/\bI [.ptr,.ptr] r2.cs 0)<|NZ a1<|NZ a1<|.ai (LK.has (.int .u8) (a1.deref.hA)/\1<=a1.deref.length)<|NZ a1<|NZ a1<|dP (a1.deref.drop 2)<|.call 79 [.agg [(r2.cs.getD 0 .any),(r2.cs.getD 1 .any)],((a1.deref.drop 2).hA),.agg [VS a2_0,a2_1],a3] [] fun r3 o3=>NP r3<|.call 78 [.v (.int .u8 ((a1.deref.hA).toInt)),r3] [] fun r4 o4=>NP r4<|.done 0 [r4] []) (NZ a1<|NZ a1<|.ai (LK.has (.int .u8) (a1.deref.hA)/\1<=a1.deref.length)<|NZ a1<|NZ a1<|dP (a1.deref.drop 2)<|.call 79 [.agg [(r1.cs.getD 0 .any),(r1.cs.getD 1 .any)],((a1.deref.drop 2).hA),.agg [VS a2_0,a2_1],a3] [] fun r5 o5=>NP r5<|.call 78 [.v (.int .u8 ((a1.deref.hA).toInt)),r5] [] fun r6 o6=>NP r6<|.done 0 [r6] [])) (.test (((a0_0.deref.hA).toInt)==(42:Int)) (NZ a1<|NZ a1<|.ai (LK.has (.int .u8) (a1.deref.hA)/\1<=a1.deref.length)<|.test (((a1.deref.hA).toInt)==(108:Int)) (.call 107 [.agg [a0_0,a0_1]] [] fun r7 o7=>.ai (r7=.agg r7.cs/\r7.cs.length=2/\bI [.ptr,.ptr] r7.cs 0)<|NZ a1<|NZ a1<|dP (a1.deref.drop 2)<|NZ ((a1.deref.drop 2).hA)<|NZ ((a1.deref.drop 2).hA)<|dP (((a1.deref.drop 2).hA).deref.drop 2)<|.call 79 [.agg [(r7.cs.getD 0 .any),(r7.cs.getD 1 .any)],((((a1.deref.drop 2).hA).deref.drop 2).hA),.agg [VS a2_0,a2_1],a3] [] fun r8 o8=>NP r8<|NZ a1<|NZ a1<|dP (a1.deref.drop 2)<|NZ ((a1.deref.drop 2).hA)<|NZ ((a1.deref.drop 2).hA)<|dP (((a1.deref.drop 2).hA).deref.drop 3)<|.call 109 [r8,((((a1.deref.drop 2).hA).deref.drop 3).hA)] [] fun r9 o9=>NP r9<|.done 0 [r9] []) (NZ a1<|NZ a1<|dP (a1.deref.drop 2)<|NZ ((a1.deref.drop 2).hA)<|NZ ((a1.deref.drop 2).hA)<|dP (((a1.deref.drop 2).hA).deref.drop 2)<|.call 108 [.agg [a0_0,a0_1]] [] fun r10 o10=>.ai (r10=.agg r10.cs/\r10.cs.length=2/\bI [.ptr,.ptr] r10.cs 0)<|NZ a1<|NZ a1<|dP (a1.deref.drop 2)<|NZ ((a1.deref.drop 2).hA)<|NZ ((a1.deref.drop 2).hA)<|dP (((a1.deref.drop 2).hA).deref.drop 3)<|.call 79 [.agg [(r10.cs.getD 0 .any),(r10.cs.getD 1 .any)],((((a1.deref.drop 2).hA).deref.drop 3).hA),.agg [VS a2_0,a2_1],a3] [] fun r11 o11=>NP r11<|.call 109 [((((a1.deref.drop 2).hA).deref.drop 2).hA),r11] [] fun r12 o12=>NP r12<|.done 0 [r12] [])) (.test (((a0_0.deref.hA).toInt)==(114:Int)) (.call 77 [.agg [a0_0,a0_1]] [] fun r13 o13=>NT r13<|.ai ((r13.comp 0)=.agg (r13.comp 0).cs/\(r13.comp 0).cs.length=2/\bI [.ptr,.ptr] ((r13.comp 0).cs) 0)<|NP (r13.comp 1)<|NZ a1<|NZ a1<|dP (a1.deref.drop 2)<|NZ ((a1.deref.drop 2).hA)<|NZ ((a1.deref.drop 2).hA)<|.ai (LK.has (.int .u8) (((a1.deref.drop 2).hA).deref.hA)/\1<=(((a1.deref.drop 2).hA).deref).length)<|.test (((((a1.deref.drop 2).hA).deref.hA).toInt)==(108:Int)) (NZ a1<|NZ a1<|dP (a1.deref.drop 2)<|NZ ((a1.deref.drop 2).hA)<|NZ ((a1.deref.drop 2).hA)<|dP (((a1.deref.drop 2).hA).deref.drop 2)<|.call 79 [.agg [((r13.comp 0).cs.getD 0 .any),((r13.comp 0).cs.getD 1 .any)],((((a1.deref.drop 2).hA).deref.drop 2).hA),.agg [VS a2_0,a2_1],a3] [] fun r14 o14=>NP r14<|.call 78 [.v (.int .u8 102),r14] [] fun r15 o15=>NP r15<|.done 0 [r15] []) (NZ a1<|NZ a1<|dP (a1.deref.drop 2)<|NZ ((a1.deref.drop 2).hA)<|NZ ((a1.deref.drop 2).hA)<|dP (((a1.deref.drop 2).hA).deref.drop 2)<|NZ ((((a1.deref.drop 2).hA).deref.drop 2).hA)<|NZ ((((a1.deref.drop 2).hA).deref.drop 2).hA)<|dP (((((a1.deref.drop 2).hA).deref.drop 2).hA).deref.drop 3)<|.call 79 [.agg [a0_0,a0_1],((((((a1.deref.drop 2).hA).deref.drop 2).hA).deref.drop 3).hA),.agg [VS a2_0,a2_1],a3] [] fun r16 o16=>NP r16<|NZ a1<|NZ a1<|dP (a1.deref.drop 2)<|NZ ((a1.deref.drop 2).hA)<|NZ ((a1.deref.drop 2).hA)<|dP (((a1.deref.drop 2).hA).deref.drop 2)<|NZ ((((a1.deref.drop 2).hA).deref.drop 2).hA)<|NZ ((((a1.deref.drop 2).hA).deref.drop 2).hA)<|dP (((((a1.deref.drop 2).hA).deref.drop 2).hA).deref.drop 2)<|.call 79 [.agg [((r13.comp 0).cs.getD 0 .any),((r13.comp 0).cs.getD 1 .any)],((((((a1.deref.drop 2).hA).deref.drop 2).hA).deref.drop 2).hA),.agg [VS (mk []),(r13.comp 1)],r16] [] fun r17 o17=>NP r17<|.call 78 [.v (.int .u8 102),r17] [] fun r18 o18=>NP r18<|.done 0 [r18] [])) (.done 0 [a3] [])))
theorem Q8(a0_0:AV)(a0_1:AV)(a1:AV)(a2_0:ByteArray)(a2_1:AV)(a3:AV)(ha0_0:LK.has .ptr a0_0)(ha0_1:LK.has .ptr a0_1)(ha1:LK.has .ptr a1)(ha2_1:LK.has .ptr a2_1)(ha3:LK.has .ptr a3)(h:di 147 (Ce a0_0 a0_1 a1 a2_0 a2_1 a3) R):an Tryz.prog 79 [.agg [a0_0,a0_1],a1,.agg [VS a2_0,a2_1],a3] [] R :=
 uQ (ah (cb (ah (bB ha0_0) (ah (bB ha0_1) aC))) (ah (bB ha1) (ah (cb (ah (aA _) (ah (bB ha2_1) aC))) (ah (bB ha3) aC)))) (oQ [] Tryz.f79 h)
def Ge:LI:={hd:={bS:=[(97,.k .sl),(98,.k (.int .i64)),(99,.k (.int .i64))],refs:=[(3,3),(5,5),(7,7)],cq:=[(3,[.lk .ptr,.lk .ptr]),(5,[.lk .str,.lk .ptr]),(7,[.vec 2])],fns:=[(8,111,[7])]},xs:={refs:=[(7,7)],cq:=[(7,[.vec 2])]},rt:={},ex:=1}
def OQ:Code:=cG (cB Tryz.f80) 18
def Np:List (Nat×LI):=[(18,Ge)]
def OU(a0_0:AV)(a0_1:AV)(a1:AV)(a2_0:ByteArray)(a2_1:AV):Tree :=
 .call 110 [.agg [VS a2_0,a2_1],.agg [a0_0,a0_1]] [] fun r1 o1=>NB r1<|.test r1.toBool (.done 0 [.sl [[.ptr [.v (.int .u8 117),VS (mk []),.v (.pointer none),.v (.pointer none)],a1]]] []) (NZ a0_0<|NZ a0_0<|.ai (LK.has (.int .u8) (a0_0.deref.hA)/\1<=a0_0.deref.length)<|.test (((a0_0.deref.hA).toInt)==(43:Int)) (.call 107 [.agg [a0_0,a0_1]] [] fun r2 o2=>.ai (r2=.agg r2.cs/\r2.cs.length=2/\bI [.ptr,.ptr] r2.cs 0)<|NZ a1<|NZ a1<|.ai (LK.has (.int .u8) (a1.deref.hA)/\1<=a1.deref.length)<|.test (((a1.deref.hA).toInt)==(114:Int)) (.call 108 [.agg [a0_0,a0_1]] [] fun r3 o3=>.ai (r3=.agg r3.cs/\r3.cs.length=2/\bI [.ptr,.ptr] r3.cs 0)<|NZ a1<|NZ a1<|dP (a1.deref.drop 2)<|.call 80 [.agg [(r3.cs.getD 0 .any),(r3.cs.getD 1 .any)],((a1.deref.drop 2).hA),.agg [VS a2_0,a2_1]] [] fun r4 o4=>NL r4<|.call 111 [r4,.fn 112 [.ref 0 0],.ref 1 0] [.cells [a1],.cells [.vec 2],.vec 2 []] fun r5 o5=>.ai ((o5.hO)=.cells (o5.hO).cs)<|.ai (aK [.lk .ptr] ((o5.hO).cs) 0 1 o5.tail)<|.ai ((o5.tail.hO)=.cells (o5.tail.hO).cs)<|.ai (aK [.vec 2] ((o5.tail.hO).cs) 0 2 o5.tail.tail)<|.done 0 [.sl ((o5.tail.tail.hO).es)] []) (NZ a1<|NZ a1<|dP (a1.deref.drop 2)<|.call 80 [.agg [(r2.cs.getD 0 .any),(r2.cs.getD 1 .any)],((a1.deref.drop 2).hA),.agg [VS a2_0,a2_1]] [] fun r6 o6=>NL r6<|.call 111 [r6,.fn 112 [.ref 0 0],.ref 1 0] [.cells [a1],.cells [.vec 2],.vec 2 []] fun r7 o7=>.ai ((o7.hO)=.cells (o7.hO).cs)<|.ai (aK [.lk .ptr] ((o7.hO).cs) 0 1 o7.tail)<|.ai ((o7.tail.hO)=.cells (o7.tail.hO).cs)<|.ai (aK [.vec 2] ((o7.tail.hO).cs) 0 2 o7.tail.tail)<|.done 0 [.sl ((o7.tail.tail.hO).es)] [])) (.test (((a0_0.deref.hA).toInt)==(42:Int)) (.call 107 [.agg [a0_0,a0_1]] [] fun r8 o8=>.ai (r8=.agg r8.cs/\r8.cs.length=2/\bI [.ptr,.ptr] r8.cs 0)<|NZ a1<|NZ a1<|dP (a1.deref.drop 2)<|.call 80 [.agg [(r8.cs.getD 0 .any),(r8.cs.getD 1 .any)],((a1.deref.drop 2).hA),.agg [VS a2_0,a2_1]] [] fun r9 o9=>NL r9<|.call 111 [r9,.fn 113 [.ref 0 0],.ref 1 0] [.cells [a1],.cells [.vec 2],.vec 2 []] fun r10 o10=>.ai ((o10.hO)=.cells (o10.hO).cs)<|.ai (aK [.lk .ptr] ((o10.hO).cs) 0 1 o10.tail)<|.ai ((o10.tail.hO)=.cells (o10.tail.hO).cs)<|.ai (aK [.vec 2] ((o10.tail.hO).cs) 0 2 o10.tail.tail)<|.call 108 [.agg [a0_0,a0_1]] [] fun r11 o11=>.ai (r11=.agg r11.cs/\r11.cs.length=2/\bI [.ptr,.ptr] r11.cs 0)<|NZ ((o10.hO).cs.getD 0 .any)<|NZ ((o10.hO).cs.getD 0 .any)<|dP (((o10.hO).cs.getD 0 .any).deref.drop 3)<|.call 80 [.agg [(r11.cs.getD 0 .any),(r11.cs.getD 1 .any)],((((o10.hO).cs.getD 0 .any).deref.drop 3).hA),.agg [VS a2_0,a2_1]] [] fun r12 o12=>NL r12<|.call 111 [r12,.fn 114 [.ref 0 0],.ref 1 0] [.cells [((o10.hO).cs.getD 0 .any)],.cells [.vec 2],.vec 2 ((o10.tail.tail.hO).es)] fun r13 o13=>.ai ((o13.hO)=.cells (o13.hO).cs)<|.ai (aK [.lk .ptr] ((o13.hO).cs) 0 1 o13.tail)<|.ai ((o13.tail.hO)=.cells (o13.tail.hO).cs)<|.ai (aK [.vec 2] ((o13.tail.hO).cs) 0 2 o13.tail.tail)<|.done 0 [.sl ((o13.tail.tail.hO).es)] []) (.test (((a0_0.deref.hA).toInt)==(114:Int)) (.call 77 [.agg [a0_0,a0_1]] [] fun r14 o14=>NT r14<|.ai ((r14.comp 0)=.agg (r14.comp 0).cs/\(r14.comp 0).cs.length=2/\bI [.ptr,.ptr] ((r14.comp 0).cs) 0)<|NP (r14.comp 1)<|NZ a1<|NZ a1<|dP (a1.deref.drop 2)<|.call 80 [.agg [((r14.comp 0).cs.getD 0 .any),((r14.comp 0).cs.getD 1 .any)],((a1.deref.drop 2).hA),.agg [VS a2_0,a2_1]] [] fun r15 o15=>NL r15<|.call 111 [r15,.v (.func (.func 115) #[] #[]),.ref 0 0] [.cells [.vec 1],.vec 2 []] fun r16 o16=>.ai ((o16.hO)=.cells (o16.hO).cs)<|.ai (aK [.vec 2] ((o16.hO).cs) 0 1 o16.tail)<|NZ a1<|NZ a1<|dP (a1.deref.drop 2)<|.call 80 [.agg [((r14.comp 0).cs.getD 0 .any),((r14.comp 0).cs.getD 1 .any)],((a1.deref.drop 2).hA),.agg [VS (mk []),(r14.comp 1)]] [] fun r17 o17=>NL r17<|NL r17<|.loop OQ Ge [r17,VI (r17.elems.length:Int),VI 0] [.cells [a0_0,a0_1],.cells [VS a2_0,a2_1],.cells [.any],.vec 2 ((o16.tail.hO).es)] (fun y20 q20=>.ai ((q20.hO)=.cells (q20.hO).cs)<|.ai (ae [.vec 2] ((q20.hO).cs) 0 q20.tail)<|.done 0 [.sl ((q20.tail.hO).es)] []) (fun y20 q20=>.done 0 [.any] [])) (.done 0 [.sl []] []))))
theorem SZ(a0_0:AV)(a0_1:AV)(a1:AV)(a2_0:ByteArray)(a2_1:AV)(ha0_0:LK.has .ptr a0_0)(ha0_1:LK.has .ptr a0_1)(ha1:LK.has .ptr a1)(ha2_1:LK.has .ptr a2_1)(h:di 113 (OU a0_0 a0_1 a1 a2_0 a2_1) R):an Tryz.prog 80 [.agg [a0_0,a0_1],a1,.agg [VS a2_0,a2_1]] [] R :=
 uQ (ah (cb (ah (bB ha0_0) (ah (bB ha0_1) aC))) (ah (bB ha1) (ah (cb (ah (aA _) (ah (bB ha2_1) aC))) aC))) (oQ Np Tryz.f80 h)
def H7(x97:AV)(x98:Int)(x99:Int)(o3_0:AV)(o3_1:AV)(o5_0:ByteArray)(o5_1:AV)(o7_0:List (List AV)):Tree :=
 NL x97<|NI (VI x98)<|NI (VI x99)<|.ai (Ob.cells [o3_0,o3_1]=.cells [o3_0,o3_1])<|.ai (ae [.lk .ptr,.lk .ptr] [o3_0,o3_1] 0 [.cells [VS o5_0,o5_1],.cells [.any],.vec 2 o7_0])<|.ai (Ob.cells [VS o5_0,o5_1]=.cells [VS o5_0,o5_1])<|.ai (ae [.lk .str,.lk .ptr] [VS o5_0,o5_1] 0 [.cells [.any],.vec 2 o7_0])<|.ai (Ob.cells [.any]=.cells [.any])<|.ai (ae [.vec 2] [.any] 0 [.vec 2 o7_0])<|.test (decide (x99<x98)) (NG x97 x99 2<|.ai (bI [.ptr,.ptr] (x97.ix x99) 0/\2<=(x97.ix x99).length)<|.call 80 [.agg [o3_0,o3_1],((x97.ix x99).getD 1 .any),.agg [VS o5_0,o5_1]] [] fun r1 o1=>NL r1<|.call 111 [r1,.fn 116 [.ref 0 0],.ref 1 0] [.cells [((x97.ix x99).getD 0 .any),((x97.ix x99).getD 1 .any)],.cells [.vec 2],.vec 2 o7_0] fun r2 o2=>.ai ((o2.hO)=.cells (o2.hO).cs)<|.ai (aK [.lk .ptr,.lk .ptr] ((o2.hO).cs) 0 1 o2.tail)<|.ai ((o2.tail.hO)=.cells (o2.tail.hO).cs)<|.ai (aK [.vec 2] ((o2.tail.hO).cs) 0 2 o2.tail.tail)<|.done 0 [x97,VI x98,VI (IntKind.wrap .i64 (x99+1))] [.cells [o3_0,o3_1],.cells [VS o5_0,o5_1],.cells [.any],.vec 2 ((o2.tail.tail.hO).es)]) (.done 1 [] [.cells [.any],.vec 2 o7_0])
abbrev F9:=cA Tryz.prog 113 OQ Ge
theorem J9(x97:AV)(x98:Int)(x99:Int)(o3_0:AV)(o3_1:AV)(o5_0:ByteArray)(o5_1:AV)(o7_0:List (List AV))(h:ka 113 (H7 x97 x98 x99 o3_0 o3_1 o5_0 o5_1 o7_0) F9 U):F9 [x97,VI x98,VI x99] [.cells [o3_0,o3_1],.cells [VS o5_0,o5_1],.cells [.any],.vec 2 o7_0] U :=
 gQ Np h
def F2(a0:ByteArray)(a1:AV):Tree :=
 .ai (LK.has .sl a1/\cC 2 a1.elems/\((([[VS a0,.v (.slice none 0 0)]]:List (List AV)).length)+a1.elems.length)*40<=140737488355328)<|.done 0 [.agg [VS (mk []),.sl (([[VS a0,.v (.slice none 0 0)]]:List (List AV))++a1.elems)]] []
theorem JJ(a0:ByteArray)(a1:AV)(ha1:LK.has .sl a1)(h:di 11 (F2 a0 a1) R):an Tryz.prog 81 [VS a0,a1] [] R :=
 uQ (ah (aA _) (ah (bP ha1) aC)) (oQ [] Tryz.f81 h)
def CW(a0_0:ByteArray)(a0_1:AV)(a1:ByteArray)(a2_0:ByteArray)(a2_1:AV)(a3_0:ByteArray)(a3_1:AV):Tree :=
 .test (!(af a0_0==af (mk []))) (.done 0 [.agg [VS a3_0,a3_1]] []) (NG a2_1 1 2<|NE (a2_1.ix (1:Int))<|.call 86 [.agg [VS a0_0,a0_1]] [] fun r1 o1=>NS r1<|.call 86 [.agg [VS a2_0,a2_1]] [] fun r2 o2=>NS r2<|.ai (ag r1.toStr+ag r2.toStr<=9223372036854775807)<|.test (af ((r1.toStr:ByteArray)++r2.toStr)==af (mk [43,108])) (NG a0_1 1 2<|NE (a0_1.ix (1:Int))<|.call 82 [.agg [VS (((a0_1.ix (1:Int)).getD 0 .any).toStr),((a0_1.ix (1:Int)).getD 1 .any)],VS a1,.agg [VS (((a2_1.ix (1:Int)).getD 0 .any).toStr),((a2_1.ix (1:Int)).getD 1 .any)],.agg [VS a3_0,a3_1]] [] fun r3 o3=>NA r3<|.call 81 [VS (mk [108]),.sl [[VS ((r3.cs.getD 0 .any).toStr),(r3.cs.getD 1 .any)]]] [] fun r4 o4=>NA r4<|.done 0 [.agg [VS ((r4.cs.getD 0 .any).toStr),(r4.cs.getD 1 .any)]] []) (.test (af ((r1.toStr:ByteArray)++r2.toStr)==af (mk [43,114])) (NG a0_1 2 2<|NE (a0_1.ix (2:Int))<|.call 82 [.agg [VS (((a0_1.ix (2:Int)).getD 0 .any).toStr),((a0_1.ix (2:Int)).getD 1 .any)],VS a1,.agg [VS (((a2_1.ix (1:Int)).getD 0 .any).toStr),((a2_1.ix (1:Int)).getD 1 .any)],.agg [VS a3_0,a3_1]] [] fun r5 o5=>NA r5<|.call 81 [VS (mk [114]),.sl [[VS ((r5.cs.getD 0 .any).toStr),(r5.cs.getD 1 .any)]]] [] fun r6 o6=>NA r6<|.done 0 [.agg [VS ((r6.cs.getD 0 .any).toStr),(r6.cs.getD 1 .any)]] []) (.test (af ((r1.toStr:ByteArray)++r2.toStr)==af (mk [42,108])) (NG a0_1 1 2<|NE (a0_1.ix (1:Int))<|NG ((a2_1.ix (1:Int)).getD 1 .any) 1 2<|NE (((a2_1.ix (1:Int)).getD 1 .any).ix (1:Int))<|.call 82 [.agg [VS (((a0_1.ix (1:Int)).getD 0 .any).toStr),((a0_1.ix (1:Int)).getD 1 .any)],VS a1,.agg [VS (((((a2_1.ix (1:Int)).getD 1 .any).ix (1:Int)).getD 0 .any).toStr),((((a2_1.ix (1:Int)).getD 1 .any).ix (1:Int)).getD 1 .any)],.agg [VS a3_0,a3_1]] [] fun r7 o7=>NA r7<|NG ((a2_1.ix (1:Int)).getD 1 .any) 2 2<|NE (((a2_1.ix (1:Int)).getD 1 .any).ix (2:Int))<|.call 81 [VS (mk [112]),.sl [[VS ((r7.cs.getD 0 .any).toStr),(r7.cs.getD 1 .any)],[VS (((((a2_1.ix (1:Int)).getD 1 .any).ix (2:Int)).getD 0 .any).toStr),((((a2_1.ix (1:Int)).getD 1 .any).ix (2:Int)).getD 1 .any)]]] [] fun r8 o8=>NA r8<|.done 0 [.agg [VS ((r8.cs.getD 0 .any).toStr),(r8.cs.getD 1 .any)]] []) (.test (af ((r1.toStr:ByteArray)++r2.toStr)==af (mk [42,114])) (NG ((a2_1.ix (1:Int)).getD 1 .any) 1 2<|NE (((a2_1.ix (1:Int)).getD 1 .any).ix (1:Int))<|NG a0_1 2 2<|NE (a0_1.ix (2:Int))<|NG ((a2_1.ix (1:Int)).getD 1 .any) 2 2<|NE (((a2_1.ix (1:Int)).getD 1 .any).ix (2:Int))<|.call 82 [.agg [VS (((a0_1.ix (2:Int)).getD 0 .any).toStr),((a0_1.ix (2:Int)).getD 1 .any)],VS a1,.agg [VS (((((a2_1.ix (1:Int)).getD 1 .any).ix (2:Int)).getD 0 .any).toStr),((((a2_1.ix (1:Int)).getD 1 .any).ix (2:Int)).getD 1 .any)],.agg [VS a3_0,a3_1]] [] fun r9 o9=>NA r9<|.call 81 [VS (mk [112]),.sl [[VS (((((a2_1.ix (1:Int)).getD 1 .any).ix (1:Int)).getD 0 .any).toStr),((((a2_1.ix (1:Int)).getD 1 .any).ix (1:Int)).getD 1 .any)],[VS ((r9.cs.getD 0 .any).toStr),(r9.cs.getD 1 .any)]]] [] fun r10 o10=>NA r10<|.done 0 [.agg [VS ((r10.cs.getD 0 .any).toStr),(r10.cs.getD 1 .any)]] []) (.call 86 [.agg [VS (((a2_1.ix (1:Int)).getD 0 .any).toStr),((a2_1.ix (1:Int)).getD 1 .any)]] [] fun r11 o11=>NS r11<|.test (af r11.toStr==af (mk [108])) (NG a0_1 2 2<|NE (a0_1.ix (2:Int))<|NG ((a2_1.ix (1:Int)).getD 1 .any) 1 2<|NE (((a2_1.ix (1:Int)).getD 1 .any).ix (1:Int))<|.call 82 [.agg [VS (((a0_1.ix (2:Int)).getD 0 .any).toStr),((a0_1.ix (2:Int)).getD 1 .any)],VS a1,.agg [VS (((((a2_1.ix (1:Int)).getD 1 .any).ix (1:Int)).getD 0 .any).toStr),((((a2_1.ix (1:Int)).getD 1 .any).ix (1:Int)).getD 1 .any)],.agg [VS a3_0,a3_1]] [] fun r12 o12=>NA r12<|.call 81 [VS (mk [102]),.sl [[VS ((r12.cs.getD 0 .any).toStr),(r12.cs.getD 1 .any)]]] [] fun r13 o13=>NA r13<|.done 0 [.agg [VS ((r13.cs.getD 0 .any).toStr),(r13.cs.getD 1 .any)]] []) (NG ((a2_1.ix (1:Int)).getD 1 .any) 1 2<|NE (((a2_1.ix (1:Int)).getD 1 .any).ix (1:Int))<|NG ((((a2_1.ix (1:Int)).getD 1 .any).ix (1:Int)).getD 1 .any) 2 2<|NE (((((a2_1.ix (1:Int)).getD 1 .any).ix (1:Int)).getD 1 .any).ix (2:Int))<|.call 82 [.agg [VS a0_0,a0_1],VS a1,.agg [VS (((((((a2_1.ix (1:Int)).getD 1 .any).ix (1:Int)).getD 1 .any).ix (2:Int)).getD 0 .any).toStr),((((((a2_1.ix (1:Int)).getD 1 .any).ix (1:Int)).getD 1 .any).ix (2:Int)).getD 1 .any)],.agg [VS a3_0,a3_1]] [] fun r14 o14=>NA r14<|NG a0_1 2 2<|NE (a0_1.ix (2:Int))<|NG a0_1 1 2<|kK (a0_1.ix (1:Int))<|NG ((((a2_1.ix (1:Int)).getD 1 .any).ix (1:Int)).getD 1 .any) 1 2<|NE (((((a2_1.ix (1:Int)).getD 1 .any).ix (1:Int)).getD 1 .any).ix (1:Int))<|.call 82 [.agg [VS (((a0_1.ix (2:Int)).getD 0 .any).toStr),((a0_1.ix (2:Int)).getD 1 .any)],VS (((a0_1.ix (1:Int)).hA).toStr),.agg [VS (((((((a2_1.ix (1:Int)).getD 1 .any).ix (1:Int)).getD 1 .any).ix (1:Int)).getD 0 .any).toStr),((((((a2_1.ix (1:Int)).getD 1 .any).ix (1:Int)).getD 1 .any).ix (1:Int)).getD 1 .any)],.agg [VS ((r14.cs.getD 0 .any).toStr),(r14.cs.getD 1 .any)]] [] fun r15 o15=>NA r15<|.call 81 [VS (mk [102]),.sl [[VS ((r15.cs.getD 0 .any).toStr),(r15.cs.getD 1 .any)]]] [] fun r16 o16=>NA r16<|.done 0 [.agg [VS ((r16.cs.getD 0 .any).toStr),(r16.cs.getD 1 .any)]] []))))))
theorem RM(a0_0:ByteArray)(a0_1:AV)(a1:ByteArray)(a2_0:ByteArray)(a2_1:AV)(a3_0:ByteArray)(a3_1:AV)(ha0_1:LK.has .sl a0_1)(ha2_1:LK.has .sl a2_1)(ha3_1:LK.has .sl a3_1)(h:di 132 (CW a0_0 a0_1 a1 a2_0 a2_1 a3_0 a3_1) R):an Tryz.prog 82 [.agg [VS a0_0,a0_1],VS a1,.agg [VS a2_0,a2_1],.agg [VS a3_0,a3_1]] [] R :=
 uQ (ah (cb (ah (aA _) (ah (bP ha0_1) aC))) (ah (aA _) (ah (cb (ah (aA _) (ah (bP ha2_1) aC))) (ah (cb (ah (aA _) (ah (bP ha3_1) aC))) aC)))) (oQ [] Tryz.f82 h)
def JZ(a0:ByteArray):Tree :=
 .call 102 [VS a0] [] fun r1 o1=>NT r1<|.ai ((r1.comp 0)=.agg (r1.comp 0).cs/\(r1.comp 0).cs.length=2/\bI [.str,.sl] ((r1.comp 0).cs) 0)<|NB (r1.comp 1)<|.test ((r1.comp 1).toBool) (.call 117 [.agg [VS (((r1.comp 0).cs.getD 0 .any).toStr),((r1.comp 0).cs.getD 1 .any)]] [] fun r2 o2=>NB r2<|.test r2.toBool (.call 88 [.agg [VS (((r1.comp 0).cs.getD 0 .any).toStr),((r1.comp 0).cs.getD 1 .any)]] [] fun r3 o3=>NI r3<|.done 0 [.cH [.agg [VS (((r1.comp 0).cs.getD 0 .any).toStr),((r1.comp 0).cs.getD 1 .any)],VB (decide (r3.toInt<=(400:Int)))]] []) (.done 0 [.cH [.agg [VS (((r1.comp 0).cs.getD 0 .any).toStr),((r1.comp 0).cs.getD 1 .any)],VB false]] [])) (.done 0 [.cH [.agg [VS (((r1.comp 0).cs.getD 0 .any).toStr),((r1.comp 0).cs.getD 1 .any)],VB false]] [])
theorem RI(a0:ByteArray)(h:di 22 (JZ a0) R):an Tryz.prog 83 [VS a0] [] R :=
 uQ (ah (aA _) aC) (oQ [] Tryz.f83 h)
def xl(a0_0:ByteArray)(a0_1:AV)(a1:AV)(e2:List (List AV)):Tree :=
 .test (!(af a0_0==af (mk []))) (.test (af a0_0==af (mk [48])) (.done 0 [.vec 1] [.dead,.vec 1 e2]) (.test (af a0_0==af (mk [49])) (.done 0 [.vec 1] [.dead,.vec 1 e2]) (.call 118 [a1,VS a0_0] [] fun r1 o1=>NB r1<|.test r1.toBool (.done 0 [.vec 1] [.dead,.vec 1 e2]) (.call 118 [.sl e2,VS a0_0] [] fun r2 o2=>NB r2<|.test r2.toBool (.done 0 [.vec 1] [.dead,.vec 1 e2]) (.ai (cC 1 [[VS a0_0]]/\((e2.length)+([[VS a0_0]]:List (List AV)).length)*16<=140737488355328)<|.done 0 [.vec 1] [.dead,.vec 1 (e2++([[VS a0_0]]:List (List AV)))]))))) (.call 86 [.agg [VS a0_0,a0_1]] [] fun r3 o3=>NS r3<|.test (af r3.toStr==af (mk [114,101,99])) (NG a0_1 2 2<|NE (a0_1.ix (2:Int))<|NG a0_1 1 2<|kK (a0_1.ix (1:Int))<|.call 52 [a1,VS (((a0_1.ix (1:Int)).hA).toStr)] [] fun r4 o4=>.ai (r4=.vec 0/\(o4.hO)=.vec 1 (o4.hO).es)<|.ai (∀x,x∈o4->fg x)<|.call 84 [.agg [VS (((a0_1.ix (2:Int)).getD 0 .any).toStr),((a0_1.ix (2:Int)).getD 1 .any)],.sl ((o4.hO).es),.vec 0] [.vec 1 e2] fun r5 o5=>.ai (r5=.vec 1/\(o5.tail.hO)=.vec 1 (o5.tail.hO).es)<|.done 0 [.vec 1] [.dead,.vec 1 ((o5.tail.hO).es)]) (NG a0_1 2 2<|NE (a0_1.ix (2:Int))<|NG a0_1 1 2<|NE (a0_1.ix (1:Int))<|.call 84 [.agg [VS (((a0_1.ix (1:Int)).getD 0 .any).toStr),((a0_1.ix (1:Int)).getD 1 .any)],a1,.vec 0] [.vec 1 e2] fun r6 o6=>.ai (r6=.vec 1/\(o6.tail.hO)=.vec 1 (o6.tail.hO).es)<|.call 84 [.agg [VS (((a0_1.ix (2:Int)).getD 0 .any).toStr),((a0_1.ix (2:Int)).getD 1 .any)],a1,.vec 0] [.vec 1 ((o6.tail.hO).es)] fun r7 o7=>.ai (r7=.vec 1/\(o7.tail.hO)=.vec 1 (o7.tail.hO).es)<|.done 0 [.vec 1] [.dead,.vec 1 ((o7.tail.hO).es)]))
theorem Ai(a0_0:ByteArray)(a0_1:AV)(a1:AV)(e2:List (List AV))(ha0_1:LK.has .sl a0_1)(ha1:LK.has .sl a1)(h:di 65 (xl a0_0 a0_1 a1 e2) R):an Tryz.prog 84 [.agg [VS a0_0,a0_1],a1,.vec 0] [.vec 1 e2] R :=
 an.mY (bw (fH _) cv) (an.up (ah (cb (ah (aA _) (ah (bP ha0_1) aC))) (ah (bP ha1) (ah (aA _) aC))) (oF [] {mu:=[(2,.one (.vec))],own:=[0]} Tryz.f84 h))
def K1(a0:ByteArray):Tree :=
 .call 119 [VS a0,.v (.int .u8 116),.v (.int .u8 116)] [] fun r1 o1=>NB r1<|.done 0 [VB r1.toBool] []
theorem Sy(a0:ByteArray)(h:di 5 (K1 a0) R):an Tryz.prog 85 [VS a0] [] R :=
 uQ (ah (aA _) aC) (oQ [] Tryz.f85 h)
def EB(a0_0:ByteArray)(a0_1:AV):Tree :=
 .test (!(af a0_0==af (mk []))) (.done 0 [VS (mk [])] []) (NL a0_1<|.test ((a0_1.elems.length:Int)==(0:Int)) (.done 0 [VS (mk [])] []) (NG a0_1 0 2<|kK (a0_1.ix (0:Int))<|.done 0 [VS (((a0_1.ix (0:Int)).hA).toStr)] []))
theorem Gk(a0_0:ByteArray)(a0_1:AV)(ha0_1:LK.has .sl a0_1)(h:di 17 (EB a0_0 a0_1) R):an Tryz.prog 86 [.agg [VS a0_0,a0_1]] [] R :=
 uQ (ah (cb (ah (aA _) (ah (bP ha0_1) aC))) aC) (oQ [] Tryz.f86 h)
def Bl(a0_0:ByteArray)(a0_1:AV)(a1:AV):Tree :=
 .call 86 [.agg [VS a0_0,a0_1]] [] fun r1 o1=>NS r1<|.test (af r1.toStr==af (mk [43])) (NG a0_1 1 2<|NE (a0_1.ix (1:Int))<|.call 87 [.agg [VS (((a0_1.ix (1:Int)).getD 0 .any).toStr),((a0_1.ix (1:Int)).getD 1 .any)],a1] [] fun r2 o2=>NB r2<|.test r2.toBool (NG a0_1 2 2<|NE (a0_1.ix (2:Int))<|.call 87 [.agg [VS (((a0_1.ix (2:Int)).getD 0 .any).toStr),((a0_1.ix (2:Int)).getD 1 .any)],a1] [] fun r3 o3=>NB r3<|.done 0 [VB r3.toBool] []) (.done 0 [VB false] [])) (.test (af r1.toStr==af (mk [42])) (NG a0_1 1 2<|NE (a0_1.ix (1:Int))<|.call 87 [.agg [VS (((a0_1.ix (1:Int)).getD 0 .any).toStr),((a0_1.ix (1:Int)).getD 1 .any)],a1] [] fun r4 o4=>NB r4<|.test r4.toBool (.done 0 [VB true] []) (NG a0_1 2 2<|NE (a0_1.ix (2:Int))<|.call 87 [.agg [VS (((a0_1.ix (2:Int)).getD 0 .any).toStr),((a0_1.ix (2:Int)).getD 1 .any)],a1] [] fun r5 o5=>NB r5<|.done 0 [VB r5.toBool] [])) (.test (af r1.toStr==af (mk [114,101,99])) (NG a0_1 2 2<|NE (a0_1.ix (2:Int))<|NG a0_1 1 2<|kK (a0_1.ix (1:Int))<|.call 52 [a1,VS (((a0_1.ix (1:Int)).hA).toStr)] [] fun r6 o6=>.ai (r6=.vec 0/\(o6.hO)=.vec 1 (o6.hO).es)<|.ai (∀x,x∈o6->fg x)<|.call 87 [.agg [VS (((a0_1.ix (2:Int)).getD 0 .any).toStr),((a0_1.ix (2:Int)).getD 1 .any)],.sl ((o6.hO).es)] [] fun r7 o7=>NB r7<|.done 0 [VB r7.toBool] []) (.test (af a0_0==af (mk [48])) (.done 0 [VB true] []) (.call 118 [a1,VS a0_0] [] fun r8 o8=>NB r8<|.done 0 [VB r8.toBool] []))))
theorem EF(a0_0:ByteArray)(a0_1:AV)(a1:AV)(ha0_1:LK.has .sl a0_1)(ha1:LK.has .sl a1)(h:di 62 (Bl a0_0 a0_1 a1) R):an Tryz.prog 87 [.agg [VS a0_0,a0_1],a1] [] R :=
 uQ (ah (cb (ah (aA _) (ah (bP ha0_1) aC))) (ah (bP ha1) aC)) (oQ [] Tryz.f87 h)
def FJ:LI:={hd:={bS:=[(3,.k (.int .i64)),(4,.k (.int .i64))],refs:=[(1,1)],cq:=[(1,[.lk .str,.lk .sl])]},xs:={bS:=[(3,.k (.int .i64))]},rt:={},ex:=0}
def I7:Code:=cG (cB Tryz.f88) 5
def O4:List (Nat×LI):=[(5,FJ)]
def FI(a0_0:ByteArray)(a0_1:AV):Tree :=
 .test (!(af a0_0==af (mk []))) (.done 0 [VI 1] []) (.loop I7 FJ [VI 0,VI 0] [.cells [VS a0_0,a0_1]] (fun y2 q2=>NI (y2.hA)<|.done 0 [VI ((y2.hA).toInt)] []) (fun y2 q2=>.done 0 [.any] []))
theorem NV(a0_0:ByteArray)(a0_1:AV)(ha0_1:LK.has .sl a0_1)(h:di 24 (FI a0_0 a0_1) R):an Tryz.prog 88 [.agg [VS a0_0,a0_1]] [] R :=
 uQ (ah (cb (ah (aA _) (ah (bP ha0_1) aC))) aC) (oQ O4 Tryz.f88 h)
def Iu(x3:Int)(x4:Int)(o1_0:ByteArray)(o1_1:AV):Tree :=
 NI (VI x3)<|NI (VI x4)<|.ai (Ob.cells [VS o1_0,o1_1]=.cells [VS o1_0,o1_1])<|.ai (ae [.lk .str,.lk .sl] [VS o1_0,o1_1] 0 [])<|NL o1_1<|.test (decide (x4<(o1_1.elems.length:Int))) (NG o1_1 x4 2<|NE (o1_1.ix x4)<|.call 88 [.agg [VS (((o1_1.ix x4).getD 0 .any).toStr),((o1_1.ix x4).getD 1 .any)]] [] fun r1 o1=>NI r1<|.done 0 [VI (IntKind.wrap .i64 (x3+r1.toInt)),VI (IntKind.wrap .i64 (x4+1))] [.cells [VS o1_0,o1_1]]) (.done 1 [VI x3] [])
abbrev G2:=cA Tryz.prog 24 I7 FJ
theorem MC(x3:Int)(x4:Int)(o1_0:ByteArray)(o1_1:AV)(h:ka 24 (Iu x3 x4 o1_0 o1_1) G2 U):G2 [VI x3,VI x4] [.cells [VS o1_0,o1_1]] U :=
 gQ O4 h
def Lc(a0_0:ByteArray)(a0_1:AV):Tree :=
 NG a0_1 1 2<|kK (a0_1.ix (1:Int))<|NG a0_1 2 2<|NE (a0_1.ix (2:Int))<|.call 120 [.agg [VS (((a0_1.ix (2:Int)).getD 0 .any).toStr),((a0_1.ix (2:Int)).getD 1 .any)],VS (((a0_1.ix (1:Int)).hA).toStr),.agg [VS a0_0,a0_1]] [] fun r1 o1=>NB r1<|.test (!r1.toBool) (.done 0 [.cH [.agg [VS a0_0,a0_1],VB false]] []) (NG a0_1 2 2<|NE (a0_1.ix (2:Int))<|.call 121 [.agg [VS (((a0_1.ix (2:Int)).getD 0 .any).toStr),((a0_1.ix (2:Int)).getD 1 .any)],VS (((a0_1.ix (1:Int)).hA).toStr),.agg [VS a0_0,a0_1]] [] fun r2 o2=>NA r2<|.done 0 [.cH [.agg [VS ((r2.cs.getD 0 .any).toStr),(r2.cs.getD 1 .any)],VB true]] [])
theorem R3(a0_0:ByteArray)(a0_1:AV)(ha0_1:LK.has .sl a0_1)(h:di 26 (Lc a0_0 a0_1) R):an Tryz.prog 89 [.agg [VS a0_0,a0_1]] [] R :=
 uQ (ah (cb (ah (aA _) (ah (bP ha0_1) aC))) aC) (oQ [] Tryz.f89 h)
def MX(a0:Int):Tree :=
 .test (decide (a0<((-9223372036854775807):Int))) (.done 0 [VS (mk [45,57,50,50,51,51,55,50,48,51,54,56,53,52,55,55,53,56,48,56])] []) (.test (decide (a0<(0:Int))) (.call 90 [VI (IntKind.wrap .i64 (0-a0))] [] fun r1 o1=>NS r1<|.ai (ag (mk [45])+ag r1.toStr<=9223372036854775807)<|.done 0 [VS (((mk [45]):ByteArray)++r1.toStr)] []) (.test (decide (a0<(10:Int))) (.ai (jA [[.v (.int .u8 (IntKind.wrap .u8 (IntKind.wrap .i64 (48+a0))))]])<|.done 0 [VS (⟨(bytesOf [[.v (.int .u8 (IntKind.wrap .u8 (IntKind.wrap .i64 (48+a0))))]]).toArray⟩)] []) (.ai (¬(10:Int)=0)<|.call 90 [VI (IntKind.wrap .i64 (Int.tdiv a0 10))] [] fun r2 o2=>NS r2<|.ai (¬(10:Int)=0)<|.ai (jA [[.v (.int .u8 (IntKind.wrap .u8 (IntKind.wrap .i64 (48+(dF a0 10)))))]])<|.ai (ag r2.toStr+ag (⟨(bytesOf [[.v (.int .u8 (IntKind.wrap .u8 (IntKind.wrap .i64 (48+(dF a0 10)))))]]).toArray⟩)<=9223372036854775807)<|.done 0 [VS ((r2.toStr:ByteArray)++(⟨(bytesOf [[.v (.int .u8 (IntKind.wrap .u8 (IntKind.wrap .i64 (48+(dF a0 10)))))]]).toArray⟩))] [])))
theorem Qm(a0:Int)(h:di 28 (MX a0) R):an Tryz.prog 90 [VI a0] [] R :=
 uQ (ah (aA _) aC) (oQ [] Tryz.f90 h)
def HH:LI:={hd:={bS:=[(1,.k .sl),(2,.k .sl),(9,.k (.int .i64))],refs:=[(4,4),(8,8)],cq:=[(4,[.lk .str,.lk .sl]),(8,[.lk .str,.lk .sl]),(0,[.vec 1,.lk (.int .i64)])]},xs:={refs:=[(4,4),(8,8)],cq:=[(4,[.lk .str,.lk .sl]),(8,[.lk .str,.lk .sl]),(0,[.vec 1,.lk (.int .i64)])]},rt:={refs:=[(8,8)],cq:=[(8,[.lk .str,.lk .sl]),(0,[.vec 1,.lk (.int .i64)])]},ex:=0,fx:=[0]}
def KM:Code:=cG (cB Tryz.f91) 3
def G8:LI:={hd:={bS:=[(1,.k .sl),(2,.k .sl),(10,.k .str)],refs:=[(3,0),(4,4),(8,8)],cq:=[(0,[.vec 1,.lk (.int .i64)]),(4,[.lk .str,.lk .sl]),(8,[.lk .str,.lk .sl])]},xs:={bS:=[(1,.k .sl),(2,.k .sl),(10,.k .str)],refs:=[(3,0),(4,4),(8,8)],cq:=[(0,[.vec 1,.lk (.int .i64)]),(4,[.lk .str,.lk .sl]),(8,[.lk .str,.lk .sl])]},rt:={cq:=[(0,[.vec 1,.lk (.int .i64)])]},ex:=2,fx:=[0]}
def OG:Code:=cG (cB Tryz.f91) 10
def GR:List (Nat×LI):=[(3,HH),(10,G8)]
def BS(a0_0:ByteArray)(a0_1:AV)(a1:AV)(a2:AV)(e3_0:List (List AV))(a3_1:Int):Tree :=
 .test (!(af a0_0==af (mk []))) (NL a1<|.loop KM HH [a1,a2,VI (IntKind.wrap .i64 ((a1.elems.length:Int)-1))] [.cells [VS a0_0,a0_1],.cells [VS (mk []),.v (.slice none 0 0)],.cells [.any,VI a3_1],.vec 1 e3_0] (fun y1 q1=>.ai ((q1.hO)=.cells (q1.hO).cs)<|.ai (ae [.lk .str,.lk .sl] ((q1.hO).cs) 0 q1.tail)<|.ai (((q1.tail.drop 0).hO)=.cells ((q1.tail.drop 0).hO).cs)<|.ai (ae [.lk .str,.lk .sl] (((q1.tail.drop 0).hO).cs) 0 ((q1.tail.drop 0).tail))<|.ai ((((q1.tail.drop 0).tail.drop 0).hO)=.cells (((q1.tail.drop 0).tail.drop 0).hO).cs)<|.ai (ae [.vec 1,.lk (.int .i64)] ((((q1.tail.drop 0).tail.drop 0).hO).cs) 0 (((q1.tail.drop 0).tail.drop 0).tail))<|.done 0 [.agg [VS (((q1.hO).cs.getD 0 .any).toStr),((q1.hO).cs.getD 1 .any)]] [.cells [.vec 1,VI (((q1.tail.tail.hO).cs.getD 1 .any).toInt)],.vec 1 ((q1.tail.tail.tail.hO).es)]) (fun y1 q1=>.ai ((q1.hO)=.cells (q1.hO).cs)<|.ai (ae [.lk .str,.lk .sl] ((q1.hO).cs) 0 q1.tail)<|.ai (((q1.tail.drop 0).hO)=.cells ((q1.tail.drop 0).hO).cs)<|.ai (ae [.vec 1,.lk (.int .i64)] (((q1.tail.drop 0).hO).cs) 0 ((q1.tail.drop 0).tail))<|.done 0 [.agg [VS (((q1.hO).cs.getD 0 .any).toStr),((q1.hO).cs.getD 1 .any)]] [.cells [.vec 1,VI (((q1.tail.hO).cs.getD 1 .any).toInt)],.vec 1 ((q1.tail.tail.hO).es)])) (.call 86 [.agg [VS a0_0,a0_1]] [] fun r2 o2=>NS r2<|.test (af r2.toStr==af (mk [114,101,99])) (.call 90 [VI a3_1] [] fun r3 o3=>NS r3<|.ai (ag (mk [116])+ag r3.toStr<=9223372036854775807)<|.loop OG G8 [a1,a2,VS (((mk [116]):ByteArray)++r3.toStr)] [.cells [.any,VI a3_1],.vec 1 e3_0,.cells [VS a0_0,a0_1],.cells [VS (mk []),.v (.slice none 0 0)]] (fun y6 q6=>NL (y6.hA)<|NL (y6.tail.hA)<|NS (y6.tail.tail.hA)<|.ai ((q6.hO)=.cells (q6.hO).cs)<|.ai (ae [.vec 1,.lk (.int .i64)] ((q6.hO).cs) 0 q6.tail)<|.ai (((q6.tail.drop 1).hO)=.cells ((q6.tail.drop 1).hO).cs)<|.ai (ae [.lk .str,.lk .sl] (((q6.tail.drop 1).hO).cs) 0 ((q6.tail.drop 1).tail))<|.ai ((((q6.tail.drop 1).tail.drop 0).hO)=.cells (((q6.tail.drop 1).tail.drop 0).hO).cs)<|.ai (ae [.lk .str,.lk .sl] ((((q6.tail.drop 1).tail.drop 0).hO).cs) 0 (((q6.tail.drop 1).tail.drop 0).tail))<|NG ((q6.tail.tail.hO).cs.getD 1 .any) 2 2<|NE (((q6.tail.tail.hO).cs.getD 1 .any).ix (2:Int))<|NG ((q6.tail.tail.hO).cs.getD 1 .any) 1 2<|kK (((q6.tail.tail.hO).cs.getD 1 .any).ix (1:Int))<|.call 52 [(y6.hA),VS (((((q6.tail.tail.hO).cs.getD 1 .any).ix (1:Int)).hA).toStr)] [] fun r7 o7=>.ai (r7=.vec 0/\(o7.hO)=.vec 1 (o7.hO).es)<|.ai (∀x,x∈o7->fg x)<|.call 52 [(y6.tail.hA),VS ((y6.tail.tail.hA).toStr)] [] fun r8 o8=>.ai (r8=.vec 0/\(o8.hO)=.vec 1 (o8.hO).es)<|.ai (∀x,x∈o8->fg x)<|.call 91 [.agg [VS (((((q6.tail.tail.hO).cs.getD 1 .any).ix (2:Int)).getD 0 .any).toStr),((((q6.tail.tail.hO).cs.getD 1 .any).ix (2:Int)).getD 1 .any)],.sl ((o7.hO).es),.sl ((o8.hO).es),.ref 0 0] [.cells [.vec 1,VI (IntKind.wrap .i64 ((((q6.hO).cs.getD 1 .any).toInt)+1))],.vec 1 ((q6.tail.hO).es)] fun r9 o9=>.ai ((o9.hO)=.cells (o9.hO).cs)<|.ai (aK [.vec 1,.lk (.int .i64)] ((o9.hO).cs) 0 1 o9.tail)<|NA r9<|.call 81 [VS (mk [114,101,99]),.sl [[VS ((y6.tail.tail.hA).toStr),.v (.slice none 0 0)],[VS ((r9.cs.getD 0 .any).toStr),(r9.cs.getD 1 .any)]]] [] fun r10 o10=>NA r10<|.done 0 [.agg [VS ((r10.cs.getD 0 .any).toStr),(r10.cs.getD 1 .any)]] [.cells [.vec 1,VI (((o9.hO).cs.getD 1 .any).toInt)],.vec 1 ((o9.tail.hO).es)]) (fun y6 q6=>.ai ((q6.hO)=.cells (q6.hO).cs)<|.ai (ae [.vec 1,.lk (.int .i64)] ((q6.hO).cs) 0 q6.tail)<|.fail)) (NG a0_1 1 2<|NE (a0_1.ix (1:Int))<|.call 91 [.agg [VS (((a0_1.ix (1:Int)).getD 0 .any).toStr),((a0_1.ix (1:Int)).getD 1 .any)],a1,a2,.ref 0 0] [.cells [.vec 1,VI a3_1],.vec 1 e3_0] fun r11 o11=>.ai ((o11.hO)=.cells (o11.hO).cs)<|.ai (aK [.vec 1,.lk (.int .i64)] ((o11.hO).cs) 0 1 o11.tail)<|NA r11<|.call 86 [.agg [VS a0_0,a0_1]] [] fun r12 o12=>NS r12<|NG a0_1 2 2<|NE (a0_1.ix (2:Int))<|.call 91 [.agg [VS (((a0_1.ix (2:Int)).getD 0 .any).toStr),((a0_1.ix (2:Int)).getD 1 .any)],a1,a2,.ref 0 0] [.cells [.vec 1,VI (((o11.hO).cs.getD 1 .any).toInt)],.vec 1 ((o11.tail.hO).es)] fun r13 o13=>.ai ((o13.hO)=.cells (o13.hO).cs)<|.ai (aK [.vec 1,.lk (.int .i64)] ((o13.hO).cs) 0 1 o13.tail)<|NA r13<|.call 81 [VS r12.toStr,.sl [[VS ((r11.cs.getD 0 .any).toStr),(r11.cs.getD 1 .any)],[VS ((r13.cs.getD 0 .any).toStr),(r13.cs.getD 1 .any)]]] [] fun r14 o14=>NA r14<|.done 0 [.agg [VS ((r14.cs.getD 0 .any).toStr),(r14.cs.getD 1 .any)]] [.cells [.vec 1,VI (((o13.hO).cs.getD 1 .any).toInt)],.vec 1 ((o13.tail.hO).es)]))
theorem El(a0_0:ByteArray)(a0_1:AV)(a1:AV)(a2:AV)(e3_0:List (List AV))(a3_1:Int)(ha0_1:LK.has .sl a0_1)(ha1:LK.has .sl a1)(ha2:LK.has .sl a2)(h:di 113 (BS a0_0 a0_1 a1 a2 e3_0 a3_1) R):an Tryz.prog 91 [.agg [VS a0_0,a0_1],a1,a2,.ref 0 0] [.cells [.vec 1,VI a3_1],.vec 1 e3_0] R :=
 an.mY (bw (ca (ah (aA _) (ah (aA _) aC))) (bw (fH _) cv)) (an.up (ah (cb (ah (aA _) (ah (bP ha0_1) aC))) (ah (bP ha1) (ah (bP ha2) (ah (aA _) aC)))) (oF GR {mu:=[(3,.one (.obj [.vec 1,.lk (.int .i64)]))],own:=[]} Tryz.f91 h))
def Fy(x1:AV)(x2:AV)(x9:Int)(o4_0:ByteArray)(o4_1:AV)(o8_0:ByteArray)(o8_1:AV)(o0_0:List (List AV))(o0_1:Int):Tree :=
 NL x1<|NL x2<|NI (VI x9)<|.ai (Ob.cells [VS o4_0,o4_1]=.cells [VS o4_0,o4_1])<|.ai (ae [.lk .str,.lk .sl] [VS o4_0,o4_1] 0 [.cells [VS o8_0,o8_1],.cells [.any,VI o0_1],.vec 1 o0_0])<|.ai (Ob.cells [VS o8_0,o8_1]=.cells [VS o8_0,o8_1])<|.ai (ae [.lk .str,.lk .sl] [VS o8_0,o8_1] 0 [.cells [.any,VI o0_1],.vec 1 o0_0])<|.ai (Ob.cells [.any,VI o0_1]=.cells [.any,VI o0_1])<|.ai (ae [.vec 1,.lk (.int .i64)] [.any,VI o0_1] 0 [.vec 1 o0_0])<|.test (decide (x9≥(0:Int))) (NG x1 x9 1<|kK (x1.ix x9)<|.test (af (((x1.ix x9).hA).toStr)==af o4_0) (NG x2 x9 1<|kK (x2.ix x9)<|.done 2 [] [.cells [VS (((x2.ix x9).hA).toStr),.v (.slice none 0 0)],.cells [.any,VI o0_1],.vec 1 o0_0]) (.done 0 [x1,x2,VI (IntKind.wrap .i64 (x9-1))] [.cells [VS o4_0,o4_1],.cells [VS o8_0,o8_1],.cells [.any,VI o0_1],.vec 1 o0_0])) (.done 1 [] [.cells [VS o4_0,o4_1],.cells [VS o8_0,o8_1],.cells [.any,VI o0_1],.vec 1 o0_0])
abbrev Ga:=cA Tryz.prog 113 KM HH
theorem LF(x1:AV)(x2:AV)(x9:Int)(o4_0:ByteArray)(o4_1:AV)(o8_0:ByteArray)(o8_1:AV)(o0_0:List (List AV))(o0_1:Int)(h:ka 113 (Fy x1 x2 x9 o4_0 o4_1 o8_0 o8_1 o0_0 o0_1) Ga U):Ga [x1,x2,VI x9] [.cells [VS o4_0,o4_1],.cells [VS o8_0,o8_1],.cells [.any,VI o0_1],.vec 1 o0_0] U :=
 gQ GR h
def Mt(x1:AV)(x2:AV)(x10:ByteArray)(o0_0:List (List AV))(o0_1:Int)(o4_0:ByteArray)(o4_1:AV)(o8_0:ByteArray)(o8_1:AV):Tree :=
 NL x1<|NL x2<|NS (VS x10)<|.ai (Ob.cells [.any,VI o0_1]=.cells [.any,VI o0_1])<|.ai (ae [.vec 1,.lk (.int .i64)] [.any,VI o0_1] 0 [.vec 1 o0_0,.cells [VS o4_0,o4_1],.cells [VS o8_0,o8_1]])<|.ai (Ob.cells [VS o4_0,o4_1]=.cells [VS o4_0,o4_1])<|.ai (ae [.lk .str,.lk .sl] [VS o4_0,o4_1] 0 [.cells [VS o8_0,o8_1]])<|.ai (Ob.cells [VS o8_0,o8_1]=.cells [VS o8_0,o8_1])<|.ai (ae [.lk .str,.lk .sl] [VS o8_0,o8_1] 0 [])<|.call 118 [.sl o0_0,VS x10] [] fun r1 o1=>NB r1<|.test r1.toBool (.call 90 [VI (IntKind.wrap .i64 (o0_1+1))] [] fun r2 o2=>NS r2<|.ai (ag (mk [116])+ag r2.toStr<=9223372036854775807)<|.done 0 [x1,x2,VS (((mk [116]):ByteArray)++r2.toStr)] [.cells [.any,VI (IntKind.wrap .i64 (o0_1+1))],.vec 1 o0_0,.cells [VS o4_0,o4_1],.cells [VS o8_0,o8_1]]) (.done 1 [x1,x2,VS x10] [.cells [.any,VI o0_1],.vec 1 o0_0,.cells [VS o4_0,o4_1],.cells [VS o8_0,o8_1]])
abbrev Io:=cA Tryz.prog 113 OG G8
theorem Ra(x1:AV)(x2:AV)(x10:ByteArray)(o0_0:List (List AV))(o0_1:Int)(o4_0:ByteArray)(o4_1:AV)(o8_0:ByteArray)(o8_1:AV)(h:ka 113 (Mt x1 x2 x10 o0_0 o0_1 o4_0 o4_1 o8_0 o8_1) Io U):Io [x1,x2,VS x10] [.cells [.any,VI o0_1],.vec 1 o0_0,.cells [VS o4_0,o4_1],.cells [VS o8_0,o8_1]] U :=
 gQ GR h
def Nq(a0_0:ByteArray)(a0_1:AV):Tree :=
 NG a0_1 1 2<|kK (a0_1.ix (1:Int))<|NG a0_1 2 2<|NE (a0_1.ix (2:Int))<|.call 122 [.agg [VS (((a0_1.ix (2:Int)).getD 0 .any).toStr),((a0_1.ix (2:Int)).getD 1 .any)],VS (((a0_1.ix (1:Int)).hA).toStr)] [] fun r1 o1=>NT r1<|.ai ((r1.comp 0)=.agg (r1.comp 0).cs/\(r1.comp 0).cs.length=2/\bI [.str,.sl] ((r1.comp 0).cs) 0)<|NB (r1.comp 1)<|.test (!((r1.comp 1).toBool)) (.done 0 [.cH [.agg [VS a0_0,a0_1],VB false]] []) (.call 123 [.agg [VS (((r1.comp 0).cs.getD 0 .any).toStr),((r1.comp 0).cs.getD 1 .any)],VS (((a0_1.ix (1:Int)).hA).toStr),.agg [VS a0_0,a0_1]] [] fun r2 o2=>NT r2<|.ai ((r2.comp 0)=.agg (r2.comp 0).cs/\(r2.comp 0).cs.length=2/\bI [.str,.sl] ((r2.comp 0).cs) 0)<|NB (r2.comp 1)<|.done 0 [.cH [.agg [VS (((r2.comp 0).cs.getD 0 .any).toStr),((r2.comp 0).cs.getD 1 .any)],VB ((r2.comp 1).toBool)]] [])
theorem SO(a0_0:ByteArray)(a0_1:AV)(ha0_1:LK.has .sl a0_1)(h:di 30 (Nq a0_0 a0_1) R):an Tryz.prog 92 [.agg [VS a0_0,a0_1]] [] R :=
 uQ (ah (cb (ah (aA _) (ah (bP ha0_1) aC))) aC) (oQ [] Tryz.f92 h)
def NX(a0_0:ByteArray)(a0_1:AV):Tree :=
 .call 88 [.agg [VS a0_0,a0_1]] [] fun r1 o1=>NI r1<|.test (decide (r1.toInt>(400:Int))) (.done 0 [.cH [VS (mk []),VB false]] []) (.call 65 [.agg [VS a0_0,a0_1],.v (.slice none 0 0)] [] fun r2 o2=>NA r2<|.call 63 [.agg [VS ((r2.cs.getD 0 .any).toStr),(r2.cs.getD 1 .any)]] [] fun r3 o3=>NS r3<|.call 124 [VS r3.toStr] [] fun r4 o4=>NB r4<|.test (!r4.toBool) (.done 0 [.cH [VS (mk []),VB false]] []) (.done 0 [.cH [VS r3.toStr,VB true]] []))
theorem PW(a0_0:ByteArray)(a0_1:AV)(ha0_1:LK.has .sl a0_1)(h:di 15 (NX a0_0 a0_1) R):an Tryz.prog 93 [.agg [VS a0_0,a0_1]] [] R :=
 uQ (ah (cb (ah (aA _) (ah (bP ha0_1) aC))) aC) (oQ [] Tryz.f93 h)
def K2(a0_0:ByteArray)(a0_1:AV)(a1:AV)(a2_0:ByteArray)(a2_1:AV)(a3:Int):Tree :=
 .call 125 [.agg [VS a0_0,a0_1],a1] [] fun r1 o1=>NT r1<|.ai ((r1.comp 0)=.agg (r1.comp 0).cs/\(r1.comp 0).cs.length=2/\bI [.str,.sl] ((r1.comp 0).cs) 0)<|NL (r1.comp 1)<|.test (!(af (((r1.comp 0).cs.getD 0 .any).toStr)==af (mk []))) (.test (af (((r1.comp 0).cs.getD 0 .any).toStr)==af (mk [49])) (.done 0 [VB (af a2_0==af (mk [117]))] []) (.call 126 [VS (((r1.comp 0).cs.getD 0 .any).toStr)] [] fun r2 o2=>NB r2<|.test r2.toBool (.call 127 [VS a2_0] [] fun r3 o3=>NI r3<|.call 45 [VI r3.toInt,VI 0,VI (IntKind.wrap .i64 (a3-1))] [] fun r4 o4=>NB r4<|.done 0 [VB r4.toBool] []) (.done 0 [VB false] []))) (.call 86 [.agg [VS (((r1.comp 0).cs.getD 0 .any).toStr),((r1.comp 0).cs.getD 1 .any)]] [] fun r5 o5=>NS r5<|.call 86 [.agg [VS a2_0,a2_1]] [] fun r6 o6=>NS r6<|.ai (ag r5.toStr+ag r6.toStr<=9223372036854775807)<|.test (af ((r5.toStr:ByteArray)++r6.toStr)==af (mk [43,108])) (NG ((r1.comp 0).cs.getD 1 .any) 1 2<|NE (((r1.comp 0).cs.getD 1 .any).ix (1:Int))<|NG a2_1 1 2<|NE (a2_1.ix (1:Int))<|.call 94 [.agg [VS (((((r1.comp 0).cs.getD 1 .any).ix (1:Int)).getD 0 .any).toStr),((((r1.comp 0).cs.getD 1 .any).ix (1:Int)).getD 1 .any)],(r1.comp 1),.agg [VS (((a2_1.ix (1:Int)).getD 0 .any).toStr),((a2_1.ix (1:Int)).getD 1 .any)],VI a3] [] fun r7 o7=>NB r7<|.done 0 [VB r7.toBool] []) (.test (af ((r5.toStr:ByteArray)++r6.toStr)==af (mk [43,114])) (NG ((r1.comp 0).cs.getD 1 .any) 2 2<|NE (((r1.comp 0).cs.getD 1 .any).ix (2:Int))<|NG a2_1 1 2<|NE (a2_1.ix (1:Int))<|.call 94 [.agg [VS (((((r1.comp 0).cs.getD 1 .any).ix (2:Int)).getD 0 .any).toStr),((((r1.comp 0).cs.getD 1 .any).ix (2:Int)).getD 1 .any)],(r1.comp 1),.agg [VS (((a2_1.ix (1:Int)).getD 0 .any).toStr),((a2_1.ix (1:Int)).getD 1 .any)],VI a3] [] fun r8 o8=>NB r8<|.done 0 [VB r8.toBool] []) (.test (af ((r5.toStr:ByteArray)++r6.toStr)==af (mk [42,112])) (NG ((r1.comp 0).cs.getD 1 .any) 1 2<|NE (((r1.comp 0).cs.getD 1 .any).ix (1:Int))<|NG a2_1 1 2<|NE (a2_1.ix (1:Int))<|.call 94 [.agg [VS (((((r1.comp 0).cs.getD 1 .any).ix (1:Int)).getD 0 .any).toStr),((((r1.comp 0).cs.getD 1 .any).ix (1:Int)).getD 1 .any)],(r1.comp 1),.agg [VS (((a2_1.ix (1:Int)).getD 0 .any).toStr),((a2_1.ix (1:Int)).getD 1 .any)],VI a3] [] fun r9 o9=>NB r9<|.test r9.toBool (NG ((r1.comp 0).cs.getD 1 .any) 2 2<|NE (((r1.comp 0).cs.getD 1 .any).ix (2:Int))<|NG a2_1 2 2<|NE (a2_1.ix (2:Int))<|.call 94 [.agg [VS (((((r1.comp 0).cs.getD 1 .any).ix (2:Int)).getD 0 .any).toStr),((((r1.comp 0).cs.getD 1 .any).ix (2:Int)).getD 1 .any)],(r1.comp 1),.agg [VS (((a2_1.ix (2:Int)).getD 0 .any).toStr),((a2_1.ix (2:Int)).getD 1 .any)],VI a3] [] fun r10 o10=>NB r10<|.done 0 [VB r10.toBool] []) (.done 0 [VB false] [])) (.test (af ((r5.toStr:ByteArray)++r6.toStr)==af (mk [114,101,99,102])) (.call 128 [.agg [VS (((r1.comp 0).cs.getD 0 .any).toStr),((r1.comp 0).cs.getD 1 .any)],(r1.comp 1)] [] fun r11 o11=>NT r11<|.ai ((r11.comp 0)=.agg (r11.comp 0).cs/\(r11.comp 0).cs.length=2/\bI [.str,.sl] ((r11.comp 0).cs) 0)<|NL (r11.comp 1)<|NG a2_1 1 2<|NE (a2_1.ix (1:Int))<|.call 94 [.agg [VS (((r11.comp 0).cs.getD 0 .any).toStr),((r11.comp 0).cs.getD 1 .any)],(r11.comp 1),.agg [VS (((a2_1.ix (1:Int)).getD 0 .any).toStr),((a2_1.ix (1:Int)).getD 1 .any)],VI a3] [] fun r12 o12=>NB r12<|.done 0 [VB r12.toBool] []) (.done 0 [VB false] [])))))
theorem RS(a0_0:ByteArray)(a0_1:AV)(a1:AV)(a2_0:ByteArray)(a2_1:AV)(a3:Int)(ha0_1:LK.has .sl a0_1)(ha1:LK.has .sl a1)(ha2_1:LK.has .sl a2_1)(h:di 110 (K2 a0_0 a0_1 a1 a2_0 a2_1 a3) R):an Tryz.prog 94 [.agg [VS a0_0,a0_1],a1,.agg [VS a2_0,a2_1],VI a3] [] R :=
 uQ (ah (cb (ah (aA _) (ah (bP ha0_1) aC))) (ah (bP ha1) (ah (cb (ah (aA _) (ah (bP ha2_1) aC))) (ah (aA _) aC)))) (oQ [] Tryz.f94 h)
def L3(a0:ByteArray):Tree :=
 .call 99 [VS a0] [] fun r1 o1=>NP r1<|NP r1<|.test r1.isNil (.done 0 [.v (.pointer none)] []) (NZ r1<|NZ r1<|.ai (LK.has (.int .u8) (r1.deref.hA)/\1<=r1.deref.length)<|.test (((r1.deref.hA).toInt) != (114:Int)) (.done 0 [.v (.pointer none)] []) (.done 0 [r1] []))
theorem Ry(a0:ByteArray)(h:di 16 (L3 a0) R):an Tryz.prog 95 [VS a0] [] R :=
 uQ (ah (aA _) aC) (oQ [] Tryz.f95 h)
def Je(a0:ByteArray):Tree :=
 .call 129 [VS a0] [] fun r1 o1=>NP r1<|NP r1<|.test r1.isNil (.done 0 [.v (.pointer none)] []) (.call 130 [r1,.v (.slice none 0 0)] [] fun r2 o2=>NP r2<|NP r2<|.test r2.isNil (.done 0 [.v (.pointer none)] []) (.call 131 [r2] [] fun r3 o3=>NI r3<|.test (decide (r3.toInt>(400:Int))) (.done 0 [.v (.pointer none)] []) (.done 0 [r2] [])))
theorem P8(a0:ByteArray)(h:di 19 (Je a0) R):an Tryz.prog 96 [VS a0] [] R :=
 uQ (ah (aA _) aC) (oQ [] Tryz.f96 h)
def LL(a0:AV):Tree :=
 .call 132 [.ref 0 0] [.cells [VI 0,VB false]] fun r1 o1=>.ai ((o1.hO)=.cells (o1.hO).cs)<|.ai (aK [.lk (.int .i64),.lk .bool] ((o1.hO).cs) 0 1 o1.tail)<|NS r1<|NZ a0<|NZ a0<|dP (a0.deref.drop 3)<|.call 135 [((a0.deref.drop 3).hA),.ptr [.v (.int .u8 110),VS r1.toStr,VI 0,.v (.pointer none),.v (.pointer none)],VI 0] [] fun r2 o2=>NP r2<|.call 134 [.ref 0 0,r2,VS r1.toStr] [.cells [VI (((o1.hO).cs.getD 0 .any).toInt),VB (((o1.hO).cs.getD 1 .any).toBool)]] fun r3 o3=>.ai ((o3.hO)=.cells (o3.hO).cs)<|.ai (aK [.lk (.int .i64),.lk .bool] ((o3.hO).cs) 0 1 o3.tail)<|NP r3<|.call 133 [.ref 0 0,r3] [.cells [VI (((o3.hO).cs.getD 0 .any).toInt),VB (((o3.hO).cs.getD 1 .any).toBool)]] fun r4 o4=>.ai ((o4.hO)=.cells (o4.hO).cs)<|.ai (aK [.lk (.int .i64),.lk .bool] ((o4.hO).cs) 0 1 o4.tail)<|NP r4<|.test (((o4.hO).cs.getD 1 .any).toBool) (.done 0 [.cH [.v (.pointer none),VB false]] []) (.call 136 [r4,VS r1.toStr,a0] [] fun r5 o5=>NP r5<|.call 133 [.ref 0 0,r5] [.cells [VI (((o4.hO).cs.getD 0 .any).toInt),VB (((o4.hO).cs.getD 1 .any).toBool)]] fun r6 o6=>.ai ((o6.hO)=.cells (o6.hO).cs)<|.ai (aK [.lk (.int .i64),.lk .bool] ((o6.hO).cs) 0 1 o6.tail)<|NP r6<|.done 0 [.cH [r6,VB (!(((o6.hO).cs.getD 1 .any).toBool))]] [])
theorem Ro(a0:AV)(ha0:LK.has .ptr a0)(h:di 40 (LL a0) R):an Tryz.prog 97 [a0] [] R :=
 uQ (ah (bB ha0) aC) (oQ [] Tryz.f97 h)
def MJ(a0:AV):Tree :=
 .call 131 [a0] [] fun r1 o1=>NI r1<|.test (decide (r1.toInt>(400:Int))) (.done 0 [.cH [VS (mk []),VB false]] []) (.call 137 [a0] [] fun r2 o2=>NS r2<|.call 96 [VS r2.toStr] [] fun r3 o3=>NP r3<|NP r3<|.test r3.isNil (.done 0 [.cH [VS (mk []),VB false]] []) (.done 0 [.cH [VS r2.toStr,VB true]] []))
theorem R0(a0:AV)(ha0:LK.has .ptr a0)(h:di 14 (MJ a0) R):an Tryz.prog 98 [a0] [] R :=
 uQ (ah (bB ha0) aC) (oQ [] Tryz.f98 h)
def LP(a0:ByteArray):Tree :=
 .call 96 [VS a0] [] fun r1 o1=>NP r1<|NP r1<|.test r1.isNil (.done 0 [.v (.pointer none)] []) (.call 138 [r1] [] fun r2 o2=>NB r2<|.test (!r2.toBool) (.done 0 [.v (.pointer none)] []) (.done 0 [r1] []))
theorem RA(a0:ByteArray)(h:di 14 (LP a0) R):an Tryz.prog 99 [VS a0] [] R :=
 uQ (ah (aA _) aC) (oQ [] Tryz.f99 h)
def Kl(a0:ByteArray):Tree :=
 .call 129 [VS a0] [] fun r1 o1=>NP r1<|NP r1<|.test r1.isNil (.done 0 [.v (.pointer none)] []) (.call 139 [r1] [] fun r2 o2=>NP r2<|NP r2<|.test r2.isNil (.done 0 [.v (.pointer none)] []) (.call 56 [r2] [] fun r3 o3=>NI r3<|.test (decide (r3.toInt>(200:Int))) (.done 0 [.v (.pointer none)] []) (.done 0 [r2] [])))
theorem Qv(a0:ByteArray)(h:di 19 (Kl a0) R):an Tryz.prog 100 [VS a0] [] R :=
 uQ (ah (aA _) aC) (oQ [] Tryz.f100 h)
def Ay(a0_0:AV)(a0_1:AV)(a1:AV)(a2:Int):Tree :=
 NZ a0_0<|NZ a0_0<|.ai (LK.has (.int .u8) (a0_0.deref.hA)/\1<=a0_0.deref.length)<|.test (((a0_0.deref.hA).toInt)==(49:Int)) (NZ a1<|NZ a1<|.ai (LK.has (.int .u8) (a1.deref.hA)/\1<=a1.deref.length)<|.done 0 [VB (((a1.deref.hA).toInt)==(117:Int))] []) (.test (((a0_0.deref.hA).toInt)==(110:Int)) (NZ a1<|NZ a1<|.ai (LK.has (.int .u8) (a1.deref.hA)/\1<=a1.deref.length)<|.test (((a1.deref.hA).toInt) != (101:Int)) (.done 0 [VB false] []) (NZ a1<|NZ a1<|kK (a1.deref.drop 1)<|.ai (0<=(1:Int)/\(1:Int)<=(ag (((a1.deref.drop 1).hA).toStr):Int)/\(ag (((a1.deref.drop 1).hA).toStr):Int)<=(ag (((a1.deref.drop 1).hA).toStr):Int))<|.call 140 [VS (cn (((a1.deref.drop 1).hA).toStr) (bL 1) (bL (ag (((a1.deref.drop 1).hA).toStr):Int)))] [] fun r1 o1=>NT r1<|NI (r1.comp 0)<|.ai (LK.has .kJ (r1.comp 1))<|.done 0 [VB (decide (((r1.comp 0).toInt)<a2))] [])) (.test (((a0_0.deref.hA).toInt)==(98:Int)) (.call 141 [.agg [a0_0,a0_1]] [] fun r2 o2=>NP r2<|NZ r2<|NZ r2<|.ai (bI [.ptr,.ptr] r2.deref 0/\2<=r2.deref.length)<|.call 101 [.agg [(r2.deref.getD 0 .any),(r2.deref.getD 1 .any)],a1,VI a2] [] fun r3 o3=>NB r3<|.done 0 [VB r3.toBool] []) (.test (((a0_0.deref.hA).toInt)==(43:Int)) (NZ a1<|NZ a1<|.ai (LK.has (.int .u8) (a1.deref.hA)/\1<=a1.deref.length)<|.test (((a1.deref.hA).toInt)==(108:Int)) (.call 107 [.agg [a0_0,a0_1]] [] fun r4 o4=>.ai (r4=.agg r4.cs/\r4.cs.length=2/\bI [.ptr,.ptr] r4.cs 0)<|NZ a1<|NZ a1<|dP (a1.deref.drop 2)<|.call 101 [.agg [(r4.cs.getD 0 .any),(r4.cs.getD 1 .any)],((a1.deref.drop 2).hA),VI a2] [] fun r5 o5=>NB r5<|.test r5.toBool (.done 0 [VB true] []) (NZ a1<|NZ a1<|.ai (LK.has (.int .u8) (a1.deref.hA)/\1<=a1.deref.length)<|.test (((a1.deref.hA).toInt)==(114:Int)) (.call 108 [.agg [a0_0,a0_1]] [] fun r6 o6=>.ai (r6=.agg r6.cs/\r6.cs.length=2/\bI [.ptr,.ptr] r6.cs 0)<|NZ a1<|NZ a1<|dP (a1.deref.drop 2)<|.call 101 [.agg [(r6.cs.getD 0 .any),(r6.cs.getD 1 .any)],((a1.deref.drop 2).hA),VI a2] [] fun r7 o7=>NB r7<|.done 0 [VB r7.toBool] []) (.done 0 [VB false] []))) (NZ a1<|NZ a1<|.ai (LK.has (.int .u8) (a1.deref.hA)/\1<=a1.deref.length)<|.test (((a1.deref.hA).toInt)==(114:Int)) (.call 108 [.agg [a0_0,a0_1]] [] fun r8 o8=>.ai (r8=.agg r8.cs/\r8.cs.length=2/\bI [.ptr,.ptr] r8.cs 0)<|NZ a1<|NZ a1<|dP (a1.deref.drop 2)<|.call 101 [.agg [(r8.cs.getD 0 .any),(r8.cs.getD 1 .any)],((a1.deref.drop 2).hA),VI a2] [] fun r9 o9=>NB r9<|.done 0 [VB r9.toBool] []) (.done 0 [VB false] []))) (.test (((a0_0.deref.hA).toInt)==(42:Int)) (NZ a1<|NZ a1<|.ai (LK.has (.int .u8) (a1.deref.hA)/\1<=a1.deref.length)<|.test (((a1.deref.hA).toInt)==(112:Int)) (.call 107 [.agg [a0_0,a0_1]] [] fun r10 o10=>.ai (r10=.agg r10.cs/\r10.cs.length=2/\bI [.ptr,.ptr] r10.cs 0)<|NZ a1<|NZ a1<|dP (a1.deref.drop 2)<|.call 101 [.agg [(r10.cs.getD 0 .any),(r10.cs.getD 1 .any)],((a1.deref.drop 2).hA),VI a2] [] fun r11 o11=>NB r11<|.test r11.toBool (.call 108 [.agg [a0_0,a0_1]] [] fun r12 o12=>.ai (r12=.agg r12.cs/\r12.cs.length=2/\bI [.ptr,.ptr] r12.cs 0)<|NZ a1<|NZ a1<|dP (a1.deref.drop 3)<|.call 101 [.agg [(r12.cs.getD 0 .any),(r12.cs.getD 1 .any)],((a1.deref.drop 3).hA),VI a2] [] fun r13 o13=>NB r13<|.done 0 [VB r13.toBool] []) (.done 0 [VB false] [])) (.done 0 [VB false] [])) (.test (((a0_0.deref.hA).toInt)==(114:Int)) (.call 77 [.agg [a0_0,a0_1]] [] fun r14 o14=>NT r14<|.ai ((r14.comp 0)=.agg (r14.comp 0).cs/\(r14.comp 0).cs.length=2/\bI [.ptr,.ptr] ((r14.comp 0).cs) 0)<|NP (r14.comp 1)<|NZ a1<|NZ a1<|.ai (LK.has (.int .u8) (a1.deref.hA)/\1<=a1.deref.length)<|.test (((a1.deref.hA).toInt)==(102:Int)) (NZ a1<|NZ a1<|dP (a1.deref.drop 2)<|.call 101 [.agg [((r14.comp 0).cs.getD 0 .any),((r14.comp 0).cs.getD 1 .any)],((a1.deref.drop 2).hA),VI a2] [] fun r15 o15=>NB r15<|.done 0 [VB r15.toBool] []) (.done 0 [VB false] [])) (.done 0 [VB false] []))))))
theorem My(a0_0:AV)(a0_1:AV)(a1:AV)(a2:Int)(ha0_0:LK.has .ptr a0_0)(ha0_1:LK.has .ptr a0_1)(ha1:LK.has .ptr a1)(h:di 134 (Ay a0_0 a0_1 a1 a2) R):an Tryz.prog 101 [.agg [a0_0,a0_1],a1,VI a2] [] R :=
 uQ (ah (cb (ah (bB ha0_0) (ah (bB ha0_1) aC))) (ah (bB ha1) (ah (aA _) aC))) (oQ [] Tryz.f101 h)
def KE(a0:ByteArray):Tree :=
 .test (decide ((ag a0:Int)>(8000:Int))) (.done 0 [.cH [.agg [VS (mk []),.v (.slice none 0 0)],VB false]] []) (.call 142 [VS a0,VI 0,VI 0] [] fun r1 o1=>NT r1<|.ai ((r1.comp 0)=.agg (r1.comp 0).cs/\(r1.comp 0).cs.length=2/\bI [.str,.sl] ((r1.comp 0).cs) 0)<|NI (r1.comp 1)<|.done 0 [.cH [.agg [VS (((r1.comp 0).cs.getD 0 .any).toStr),((r1.comp 0).cs.getD 1 .any)],VB (((r1.comp 1).toInt)==(ag a0:Int))]] [])
theorem PN(a0:ByteArray)(h:di 20 (KE a0) R):an Tryz.prog 102 [VS a0] [] R :=
 uQ (ah (aA _) aC) (oQ [] Tryz.f102 h)
def Ix(a0_0:ByteArray)(a0_1:AV):Tree :=
 .test (!(af a0_0==af (mk []))) (.test (af a0_0==af (mk [117])) (.done 0 [VB true] []) (.call 127 [VS a0_0] [] fun r1 o1=>NI r1<|.done 0 [VB (decide (r1.toInt≥(0:Int)))] [])) (.call 86 [.agg [VS a0_0,a0_1]] [] fun r2 o2=>NS r2<|.test (af r2.toStr==af (mk [108])) (NL a0_1<|.test ((a0_1.elems.length:Int)==(2:Int)) (NG a0_1 1 2<|NE (a0_1.ix (1:Int))<|.call 103 [.agg [VS (((a0_1.ix (1:Int)).getD 0 .any).toStr),((a0_1.ix (1:Int)).getD 1 .any)]] [] fun r3 o3=>NB r3<|.done 0 [VB r3.toBool] []) (.done 0 [VB false] [])) (.test (af r2.toStr==af (mk [114])) (NL a0_1<|.test ((a0_1.elems.length:Int)==(2:Int)) (NG a0_1 1 2<|NE (a0_1.ix (1:Int))<|.call 103 [.agg [VS (((a0_1.ix (1:Int)).getD 0 .any).toStr),((a0_1.ix (1:Int)).getD 1 .any)]] [] fun r4 o4=>NB r4<|.done 0 [VB r4.toBool] []) (.done 0 [VB false] [])) (.test (af r2.toStr==af (mk [102])) (NL a0_1<|.test ((a0_1.elems.length:Int)==(2:Int)) (NG a0_1 1 2<|NE (a0_1.ix (1:Int))<|.call 103 [.agg [VS (((a0_1.ix (1:Int)).getD 0 .any).toStr),((a0_1.ix (1:Int)).getD 1 .any)]] [] fun r5 o5=>NB r5<|.done 0 [VB r5.toBool] []) (.done 0 [VB false] [])) (.test (af r2.toStr==af (mk [112])) (NL a0_1<|.test ((a0_1.elems.length:Int)==(3:Int)) (NG a0_1 1 2<|NE (a0_1.ix (1:Int))<|.call 103 [.agg [VS (((a0_1.ix (1:Int)).getD 0 .any).toStr),((a0_1.ix (1:Int)).getD 1 .any)]] [] fun r6 o6=>NB r6<|.test r6.toBool (NG a0_1 2 2<|NE (a0_1.ix (2:Int))<|.call 103 [.agg [VS (((a0_1.ix (2:Int)).getD 0 .any).toStr),((a0_1.ix (2:Int)).getD 1 .any)]] [] fun r7 o7=>NB r7<|.done 0 [VB r7.toBool] []) (.done 0 [VB false] [])) (.done 0 [VB false] [])) (.done 0 [VB false] [])))))
theorem zG(a0_0:ByteArray)(a0_1:AV)(ha0_1:LK.has .sl a0_1)(h:di 52 (Ix a0_0 a0_1) R):an Tryz.prog 103 [.agg [VS a0_0,a0_1]] [] R :=
 uQ (ah (cb (ah (aA _) (ah (bP ha0_1) aC))) aC) (oQ [] Tryz.f103 h)
def Is:LI:={hd:={bS:=[(3,.k (.int .i64)),(4,.k (.int .i64))],refs:=[(1,1)],cq:=[(1,[.lk .str,.lk .sl])]},xs:={bS:=[(3,.k (.int .i64))]},rt:={},ex:=0}
def Oz:Code:=cG (cB Tryz.f104) 3
def Lw:List (Nat×LI):=[(3,Is)]
def Iw(a0_0:ByteArray)(a0_1:AV):Tree :=
 .loop Oz Is [VI 1,VI 1] [.cells [VS a0_0,a0_1]] (fun y2 q2=>NI (y2.hA)<|.done 0 [VI ((y2.hA).toInt)] []) (fun y2 q2=>.done 0 [.any] [])
theorem Oq(a0_0:ByteArray)(a0_1:AV)(ha0_1:LK.has .sl a0_1)(h:di 21 (Iw a0_0 a0_1) R):an Tryz.prog 104 [.agg [VS a0_0,a0_1]] [] R :=
 uQ (ah (cb (ah (aA _) (ah (bP ha0_1) aC))) aC) (oQ Lw Tryz.f104 h)
def Cl(x3:Int)(x4:Int)(o1_0:ByteArray)(o1_1:AV):Tree :=
 NI (VI x3)<|NI (VI x4)<|.ai (Ob.cells [VS o1_0,o1_1]=.cells [VS o1_0,o1_1])<|.ai (ae [.lk .str,.lk .sl] [VS o1_0,o1_1] 0 [])<|NL o1_1<|.test (decide (x4<(o1_1.elems.length:Int))) (NG o1_1 x4 2<|NE (o1_1.ix x4)<|.call 104 [.agg [VS (((o1_1.ix x4).getD 0 .any).toStr),((o1_1.ix x4).getD 1 .any)]] [] fun r1 o1=>NI r1<|.done 0 [VI (IntKind.wrap .i64 (x3+r1.toInt)),VI (IntKind.wrap .i64 (x4+1))] [.cells [VS o1_0,o1_1]]) (.done 1 [VI x3] [])
abbrev Ba:=cA Tryz.prog 21 Oz Is
theorem DU(x3:Int)(x4:Int)(o1_0:ByteArray)(o1_1:AV)(h:ka 21 (Cl x3 x4 o1_0 o1_1) Ba U):Ba [VI x3,VI x4] [.cells [VS o1_0,o1_1]] U :=
 gQ Lw h
def FN:LI:={hd:={bS:=[(0,.k .sl),(1,.k .str),(7,.k (.int .i64))],eM:=[(2,4)]},xs:={eM:=[(2,4)]},rt:={},ex:=0}
def L5:Code:=cG (cB Tryz.f105) 2
def Lj:List (Nat×LI):=[(2,FN)]
def Mp(a0:AV)(a1:ByteArray)(e2:List (List AV)):Tree :=
 .loop L5 FN [a0,VS a1,VI 0] [.vec 4 e2] (fun y2 q2=>.ai (((q2.drop 0).hO)=.vec 4 ((q2.drop 0).hO).es)<|.done 0 [.vec 1] [.dead,.vec 4 ((q2.hO).es)]) (fun y2 q2=>.fail)
theorem QA(a0:AV)(a1:ByteArray)(e2:List (List AV))(ha0:LK.has .sl a0)(h:di 32 (Mp a0 a1 e2) R):an Tryz.prog 105 [a0,VS a1,.vec 0] [.vec 4 e2] R :=
 an.mY (bw (fH _) cv) (an.up (ah (bP ha0) (ah (aA _) (ah (aA _) aC))) (oF Lj {mu:=[(2,.one (.vec))],own:=[0]} Tryz.f105 h))
def Fk(x0:AV)(x1:ByteArray)(x7:Int)(e2:List (List AV)):Tree :=
 NL x0<|NS (VS x1)<|NI (VI x7)<|.ai (Ob.vec 4 e2=.vec 4 e2)<|NL x0<|.test (decide (x7<(x0.elems.length:Int))) (NG x0 x7 4<|NE (x0.ix x7)<|.call 81 [VS x1,.sl [[VS (((x0.ix x7).getD 0 .any).toStr),((x0.ix x7).getD 1 .any)]]] [] fun r1 o1=>NA r1<|NG x0 x7 4<|NE ((x0.ix x7).drop 2)<|.ai (cC 4 [[VS ((r1.cs.getD 0 .any).toStr),(r1.cs.getD 1 .any),VS ((((x0.ix x7).drop 2).getD 0 .any).toStr),(((x0.ix x7).drop 2).getD 1 .any)]]/\((e2.length)+([[VS ((r1.cs.getD 0 .any).toStr),(r1.cs.getD 1 .any),VS ((((x0.ix x7).drop 2).getD 0 .any).toStr),(((x0.ix x7).drop 2).getD 1 .any)]]:List (List AV)).length)*80<=140737488355328)<|.done 0 [x0,VS x1,VI (IntKind.wrap .i64 (x7+1))] [.vec 4 (e2++([[VS ((r1.cs.getD 0 .any).toStr),(r1.cs.getD 1 .any),VS ((((x0.ix x7).drop 2).getD 0 .any).toStr),(((x0.ix x7).drop 2).getD 1 .any)]]:List (List AV)))]) (.done 1 [] [.vec 4 e2])
abbrev FO:=cA Tryz.prog 32 L5 FN
theorem Nn(x0:AV)(x1:ByteArray)(x7:Int)(e2:List (List AV))(h:ka 32 (Fk x0 x1 x7 e2) FO U):FO [x0,VS x1,VI x7] [.vec 4 e2] U :=
 gQ Lj h
def Jn(a0_0:AV)(a0_1:Int):Tree :=
 .call 43 [.ref 0 0,VI 8] [.cells [a0_0,VI a0_1]] fun r1 o1=>.ai ((o1.hO)=.cells (o1.hO).cs)<|.ai (aK [.lk .sl,.lk (.int .i64)] ((o1.hO).cs) 0 1 o1.tail)<|NI r1<|.test (r1.toInt==(0:Int)) (.call 143 [.ref 0 0] [.cells [((o1.hO).cs.getD 0 .any),VI (((o1.hO).cs.getD 1 .any).toInt)]] fun r2 o2=>.ai ((o2.hO)=.cells (o2.hO).cs)<|.ai (aK [.lk .sl,.lk (.int .i64)] ((o2.hO).cs) 0 1 o2.tail)<|NS r2<|.done 0 [VS r2.toStr] [.cells [((o2.hO).cs.getD 0 .any),VI (((o2.hO).cs.getD 1 .any).toInt)]]) (.test (r1.toInt==(1:Int)) (.call 144 [.ref 0 0,.sl [],VI 3] [.cells [((o1.hO).cs.getD 0 .any),VI (((o1.hO).cs.getD 1 .any).toInt)]] fun r3 o3=>.ai ((o3.hO)=.cells (o3.hO).cs)<|.ai (aK [.lk .sl,.lk (.int .i64)] ((o3.hO).cs) 0 1 o3.tail)<|NS r3<|.done 0 [VS r3.toStr] [.cells [((o3.hO).cs.getD 0 .any),VI (((o3.hO).cs.getD 1 .any).toInt)]]) (.test (r1.toInt==(2:Int)) (.call 144 [.ref 0 0,.sl [],VI 3] [.cells [((o1.hO).cs.getD 0 .any),VI (((o1.hO).cs.getD 1 .any).toInt)]] fun r4 o4=>.ai ((o4.hO)=.cells (o4.hO).cs)<|.ai (aK [.lk .sl,.lk (.int .i64)] ((o4.hO).cs) 0 1 o4.tail)<|NS r4<|.done 0 [VS r4.toStr] [.cells [((o4.hO).cs.getD 0 .any),VI (((o4.hO).cs.getD 1 .any).toInt)]]) (.test (r1.toInt==(3:Int)) (.call 144 [.ref 0 0,.sl [],VI 3] [.cells [((o1.hO).cs.getD 0 .any),VI (((o1.hO).cs.getD 1 .any).toInt)]] fun r5 o5=>.ai ((o5.hO)=.cells (o5.hO).cs)<|.ai (aK [.lk .sl,.lk (.int .i64)] ((o5.hO).cs) 0 1 o5.tail)<|NS r5<|.done 0 [VS r5.toStr] [.cells [((o5.hO).cs.getD 0 .any),VI (((o5.hO).cs.getD 1 .any).toInt)]]) (.call 75 [.ref 0 0] [.cells [((o1.hO).cs.getD 0 .any),VI (((o1.hO).cs.getD 1 .any).toInt)]] fun r6 o6=>.ai ((o6.hO)=.cells (o6.hO).cs)<|.ai (aK [.lk .sl,.lk (.int .i64)] ((o6.hO).cs) 0 1 o6.tail)<|NS r6<|.done 0 [VS r6.toStr] [.cells [((o6.hO).cs.getD 0 .any),VI (((o6.hO).cs.getD 1 .any).toInt)]]))))
theorem RY(a0_0:AV)(a0_1:Int)(ha0_0:LK.has .sl a0_0)(h:di 18 (Jn a0_0 a0_1) R):an Tryz.prog 106 [.ref 0 0] [.cells [a0_0,VI a0_1]] R :=
 an.mY (bw (ca (ah (bP ha0_0) (ah (aA _) aC))) cv) (an.up (ah (aA _) aC) (oF [] {mu:=[(0,.one (.obj [.lk .sl,.lk (.int .i64)]))],own:=[]} Tryz.f106 h))
def NK(a0_0:AV)(a0_1:AV):Tree :=
 NZ a0_0<|NZ a0_0<|dP (a0_0.deref.drop 3)<|.done 0 [.agg [((a0_0.deref.drop 3).hA),a0_1]] []
theorem Q0(a0_0:AV)(a0_1:AV)(ha0_0:LK.has .ptr a0_0)(ha0_1:LK.has .ptr a0_1)(h:di 11 (NK a0_0 a0_1) R):an Tryz.prog 107 [.agg [a0_0,a0_1]] [] R :=
 uQ (ah (cb (ah (bB ha0_0) (ah (bB ha0_1) aC))) aC) (oQ [] Tryz.f107 h)
def Jw(a0_0:AV)(a0_1:AV):Tree :=
 NZ a0_0<|NZ a0_0<|dP (a0_0.deref.drop 4)<|.done 0 [.agg [((a0_0.deref.drop 4).hA),a0_1]] []
theorem Qq(a0_0:AV)(a0_1:AV)(ha0_0:LK.has .ptr a0_0)(ha0_1:LK.has .ptr a0_1)(h:di 11 (Jw a0_0 a0_1) R):an Tryz.prog 108 [.agg [a0_0,a0_1]] [] R :=
 uQ (ah (cb (ah (bB ha0_0) (ah (bB ha0_1) aC))) aC) (oQ [] Tryz.f108 h)
def Kk(a0:AV)(a1:AV):Tree :=
 .done 0 [.ptr [.v (.int .u8 112),VS (mk []),a0,a1]] []
theorem Rx(a0:AV)(a1:AV)(ha0:LK.has .ptr a0)(ha1:LK.has .ptr a1)(h:di 9 (Kk a0 a1) R):an Tryz.prog 109 [a0,a1] [] R :=
 uQ (ah (bB ha0) (ah (bB ha1) aC)) (oQ [] Tryz.f109 h)
def Ew(a0_0:ByteArray)(a0_1:AV)(a1_0:AV)(a1_1:AV):Tree :=
 NP a0_1<|.test (!a0_1.isNil) (NZ a1_0<|NZ a1_0<|.ai (LK.has (.int .u8) (a1_0.deref.hA)/\1<=a1_0.deref.length)<|.test (((a1_0.deref.hA).toInt)==(98:Int)) (.call 141 [.agg [a1_0,a1_1]] [] fun r1 o1=>NP r1<|.ai (AV.rR r1/\AV.rR a0_1)<|.done 0 [VB (AV.B0 r1 a0_1)] []) (.done 0 [VB false] [])) (NZ a1_0<|NZ a1_0<|.ai (LK.has (.int .u8) (a1_0.deref.hA)/\1<=a1_0.deref.length)<|.test (((a1_0.deref.hA).toInt)==(110:Int)) (NZ a1_0<|NZ a1_0<|kK (a1_0.deref.drop 1)<|.done 0 [VB (af (((a1_0.deref.drop 1).hA).toStr)==af a0_0)] []) (.done 0 [VB false] []))
theorem Sp(a0_0:ByteArray)(a0_1:AV)(a1_0:AV)(a1_1:AV)(ha0_1:LK.has .ptr a0_1)(ha1_0:LK.has .ptr a1_0)(ha1_1:LK.has .ptr a1_1)(h:di 37 (Ew a0_0 a0_1 a1_0 a1_1) R):an Tryz.prog 110 [.agg [VS a0_0,a0_1],.agg [a1_0,a1_1]] [] R :=
 uQ (ah (cb (ah (aA _) (ah (bB ha0_1) aC))) (ah (cb (ah (bB ha1_0) (ah (bB ha1_1) aC))) aC)) (oQ [] Tryz.f110 h)
def Fc:LI:={hd:={bS:=[(7,.k .sl),(8,.k (.int .i64)),(9,.k (.int .i64))],refs:=[(2,1)],cq:=[(0,[.lk .ptr]),(1,[.vec 2])],fns:=[(1,112,[0])]},xs:={cq:=[(0,[.lk .ptr]),(1,[.vec 2])]},rt:={cq:=[(0,[.lk .ptr]),(1,[.vec 2])]},ex:=0,fx:=[0,1]}
def KZ:Code:=cG (cB Tryz.f111) 1
def KF:List (Nat×LI):=[(1,Fc)]
def Mr(a0:AV)(a1_0_0:AV)(e2_0:List (List AV)):Tree :=
 NL a0<|.loop KZ Fc [a0,VI (a0.elems.length:Int),VI 0] [.cells [a1_0_0],.cells [.any],.vec 2 e2_0] (fun y2 q2=>.ai ((q2.hO)=.cells (q2.hO).cs)<|.ai (ae [.lk .ptr] ((q2.hO).cs) 0 q2.tail)<|.ai (((q2.tail.drop 0).hO)=.cells ((q2.tail.drop 0).hO).cs)<|.ai (ae [.vec 2] (((q2.tail.drop 0).hO).cs) 0 ((q2.tail.drop 0).tail))<|.done 0 [.any] [.cells [((q2.hO).cs.getD 0 .any)],.cells [.vec 2],.vec 2 ((q2.tail.tail.hO).es)]) (fun y2 q2=>.ai ((q2.hO)=.cells (q2.hO).cs)<|.ai (ae [.lk .ptr] ((q2.hO).cs) 0 q2.tail)<|.ai (((q2.tail.drop 0).hO)=.cells ((q2.tail.drop 0).hO).cs)<|.ai (ae [.vec 2] (((q2.tail.drop 0).hO).cs) 0 ((q2.tail.drop 0).tail))<|.done 0 [.any] [.cells [((q2.hO).cs.getD 0 .any)],.cells [.vec 2],.vec 2 ((q2.tail.tail.hO).es)])
theorem S5(a0:AV)(a1_0_0:AV)(e2_0:List (List AV))(ha0:LK.has .sl a0)(ha1_0_0:LK.has .ptr a1_0_0)(h:di 24 (Mr a0 a1_0_0 e2_0) R):an Tryz.prog 111 [a0,.fn 112 [.ref 0 0],.ref 1 0] [.cells [a1_0_0],.cells [.vec 2],.vec 2 e2_0] R :=
 an.mY (bw (ca (ah (bB ha1_0_0) aC)) (bw (ca (ah (aA _) aC)) (bw (fH _) cv))) (an.up (ah (bP ha0) (ah (aA _) (ah (aA _) aC))) (oF KF {mu:=[(1,.fn [some (.obj [.lk .ptr])]),(2,.one (.obj [.vec 2]))],own:=[]} Tryz.f111 h))
def Gf(x7:AV)(x8:Int)(x9:Int)(o0_0:AV)(o1_0:List (List AV)):Tree :=
 NL x7<|NI (VI x8)<|NI (VI x9)<|.ai (Ob.cells [o0_0]=.cells [o0_0])<|.ai (ae [.lk .ptr] [o0_0] 0 [.cells [.any],.vec 2 o1_0])<|.ai (Ob.cells [.any]=.cells [.any])<|.ai (ae [.vec 2] [.any] 0 [.vec 2 o1_0])<|.test (decide (x9<x8)) (NG x7 x9 2<|.ai (bI [.ptr,.ptr] (x7.ix x9) 0/\2<=(x7.ix x9).length)<|.call 112 [((x7.ix x9).getD 0 .any),.ref 0 0] [.cells [o0_0]] fun r1 o1=>.ai ((o1.hO)=.cells (o1.hO).cs)<|.ai (aK [.lk .ptr] ((o1.hO).cs) 0 1 o1.tail)<|NP r1<|.ai (cC 2 [[r1,((x7.ix x9).getD 1 .any)]]/\((o1_0.length)+([[r1,((x7.ix x9).getD 1 .any)]]:List (List AV)).length)*16<=140737488355328)<|.done 0 [x7,VI x8,VI (IntKind.wrap .i64 (x9+1))] [.cells [((o1.hO).cs.getD 0 .any)],.cells [.any],.vec 2 (o1_0++([[r1,((x7.ix x9).getD 1 .any)]]:List (List AV)))]) (.done 1 [] [.cells [o0_0],.cells [.any],.vec 2 o1_0])
abbrev G3:=cA Tryz.prog 24 KZ Fc
theorem Jj(x7:AV)(x8:Int)(x9:Int)(o0_0:AV)(o1_0:List (List AV))(h:ka 24 (Gf x7 x8 x9 o0_0 o1_0) G3 U):G3 [x7,VI x8,VI x9] [.cells [o0_0],.cells [.any],.vec 2 o1_0] U :=
 gQ KF h
def FW:LI:={hd:={bS:=[(7,.k .sl),(8,.k (.int .i64)),(9,.k (.int .i64))],refs:=[(2,1)],cq:=[(0,[.lk .ptr]),(1,[.vec 2])],fns:=[(1,113,[0])]},xs:={cq:=[(0,[.lk .ptr]),(1,[.vec 2])]},rt:={cq:=[(0,[.lk .ptr]),(1,[.vec 2])]},ex:=0,fx:=[0,1]}
def JE:Code:=cG (cB Tryz.f111) 1
def MI:List (Nat×LI):=[(1,FW)]
def J4(a0:AV)(a1_0_0:AV)(e2_0:List (List AV)):Tree :=
 NL a0<|.loop JE FW [a0,VI (a0.elems.length:Int),VI 0] [.cells [a1_0_0],.cells [.any],.vec 2 e2_0] (fun y2 q2=>.ai ((q2.hO)=.cells (q2.hO).cs)<|.ai (ae [.lk .ptr] ((q2.hO).cs) 0 q2.tail)<|.ai (((q2.tail.drop 0).hO)=.cells ((q2.tail.drop 0).hO).cs)<|.ai (ae [.vec 2] (((q2.tail.drop 0).hO).cs) 0 ((q2.tail.drop 0).tail))<|.done 0 [.any] [.cells [((q2.hO).cs.getD 0 .any)],.cells [.vec 2],.vec 2 ((q2.tail.tail.hO).es)]) (fun y2 q2=>.ai ((q2.hO)=.cells (q2.hO).cs)<|.ai (ae [.lk .ptr] ((q2.hO).cs) 0 q2.tail)<|.ai (((q2.tail.drop 0).hO)=.cells ((q2.tail.drop 0).hO).cs)<|.ai (ae [.vec 2] (((q2.tail.drop 0).hO).cs) 0 ((q2.tail.drop 0).tail))<|.done 0 [.any] [.cells [((q2.hO).cs.getD 0 .any)],.cells [.vec 2],.vec 2 ((q2.tail.tail.hO).es)])
theorem Rb(a0:AV)(a1_0_0:AV)(e2_0:List (List AV))(ha0:LK.has .sl a0)(ha1_0_0:LK.has .ptr a1_0_0)(h:di 24 (J4 a0 a1_0_0 e2_0) R):an Tryz.prog 111 [a0,.fn 113 [.ref 0 0],.ref 1 0] [.cells [a1_0_0],.cells [.vec 2],.vec 2 e2_0] R :=
 an.mY (bw (ca (ah (bB ha1_0_0) aC)) (bw (ca (ah (aA _) aC)) (bw (fH _) cv))) (an.up (ah (bP ha0) (ah (aA _) (ah (aA _) aC))) (oF MI {mu:=[(1,.fn [some (.obj [.lk .ptr])]),(2,.one (.obj [.vec 2]))],own:=[]} Tryz.f111 h))
def Gr(x7:AV)(x8:Int)(x9:Int)(o0_0:AV)(o1_0:List (List AV)):Tree :=
 NL x7<|NI (VI x8)<|NI (VI x9)<|.ai (Ob.cells [o0_0]=.cells [o0_0])<|.ai (ae [.lk .ptr] [o0_0] 0 [.cells [.any],.vec 2 o1_0])<|.ai (Ob.cells [.any]=.cells [.any])<|.ai (ae [.vec 2] [.any] 0 [.vec 2 o1_0])<|.test (decide (x9<x8)) (NG x7 x9 2<|.ai (bI [.ptr,.ptr] (x7.ix x9) 0/\2<=(x7.ix x9).length)<|.call 113 [((x7.ix x9).getD 0 .any),.ref 0 0] [.cells [o0_0]] fun r1 o1=>.ai ((o1.hO)=.cells (o1.hO).cs)<|.ai (aK [.lk .ptr] ((o1.hO).cs) 0 1 o1.tail)<|NP r1<|.ai (cC 2 [[r1,((x7.ix x9).getD 1 .any)]]/\((o1_0.length)+([[r1,((x7.ix x9).getD 1 .any)]]:List (List AV)).length)*16<=140737488355328)<|.done 0 [x7,VI x8,VI (IntKind.wrap .i64 (x9+1))] [.cells [((o1.hO).cs.getD 0 .any)],.cells [.any],.vec 2 (o1_0++([[r1,((x7.ix x9).getD 1 .any)]]:List (List AV)))]) (.done 1 [] [.cells [o0_0],.cells [.any],.vec 2 o1_0])
abbrev Ft:=cA Tryz.prog 24 JE FW
theorem Lt(x7:AV)(x8:Int)(x9:Int)(o0_0:AV)(o1_0:List (List AV))(h:ka 24 (Gr x7 x8 x9 o0_0 o1_0) Ft U):Ft [x7,VI x8,VI x9] [.cells [o0_0],.cells [.any],.vec 2 o1_0] U :=
 gQ MI h
def Gq:LI:={hd:={bS:=[(7,.k .sl),(8,.k (.int .i64)),(9,.k (.int .i64))],refs:=[(2,1)],cq:=[(0,[.lk .ptr]),(1,[.vec 2])],fns:=[(1,114,[0])]},xs:={cq:=[(0,[.lk .ptr]),(1,[.vec 2])]},rt:={cq:=[(0,[.lk .ptr]),(1,[.vec 2])]},ex:=0,fx:=[0,1]}
def MH:Code:=cG (cB Tryz.f111) 1
def Kh:List (Nat×LI):=[(1,Gq)]
def KH(a0:AV)(a1_0_0:AV)(e2_0:List (List AV)):Tree :=
 NL a0<|.loop MH Gq [a0,VI (a0.elems.length:Int),VI 0] [.cells [a1_0_0],.cells [.any],.vec 2 e2_0] (fun y2 q2=>.ai ((q2.hO)=.cells (q2.hO).cs)<|.ai (ae [.lk .ptr] ((q2.hO).cs) 0 q2.tail)<|.ai (((q2.tail.drop 0).hO)=.cells ((q2.tail.drop 0).hO).cs)<|.ai (ae [.vec 2] (((q2.tail.drop 0).hO).cs) 0 ((q2.tail.drop 0).tail))<|.done 0 [.any] [.cells [((q2.hO).cs.getD 0 .any)],.cells [.vec 2],.vec 2 ((q2.tail.tail.hO).es)]) (fun y2 q2=>.ai ((q2.hO)=.cells (q2.hO).cs)<|.ai (ae [.lk .ptr] ((q2.hO).cs) 0 q2.tail)<|.ai (((q2.tail.drop 0).hO)=.cells ((q2.tail.drop 0).hO).cs)<|.ai (ae [.vec 2] (((q2.tail.drop 0).hO).cs) 0 ((q2.tail.drop 0).tail))<|.done 0 [.any] [.cells [((q2.hO).cs.getD 0 .any)],.cells [.vec 2],.vec 2 ((q2.tail.tail.hO).es)])
theorem Qn(a0:AV)(a1_0_0:AV)(e2_0:List (List AV))(ha0:LK.has .sl a0)(ha1_0_0:LK.has .ptr a1_0_0)(h:di 24 (KH a0 a1_0_0 e2_0) R):an Tryz.prog 111 [a0,.fn 114 [.ref 0 0],.ref 1 0] [.cells [a1_0_0],.cells [.vec 2],.vec 2 e2_0] R :=
 an.mY (bw (ca (ah (bB ha1_0_0) aC)) (bw (ca (ah (aA _) aC)) (bw (fH _) cv))) (an.up (ah (bP ha0) (ah (aA _) (ah (aA _) aC))) (oF Kh {mu:=[(1,.fn [some (.obj [.lk .ptr])]),(2,.one (.obj [.vec 2]))],own:=[]} Tryz.f111 h))
def Fs(x7:AV)(x8:Int)(x9:Int)(o0_0:AV)(o1_0:List (List AV)):Tree :=
 NL x7<|NI (VI x8)<|NI (VI x9)<|.ai (Ob.cells [o0_0]=.cells [o0_0])<|.ai (ae [.lk .ptr] [o0_0] 0 [.cells [.any],.vec 2 o1_0])<|.ai (Ob.cells [.any]=.cells [.any])<|.ai (ae [.vec 2] [.any] 0 [.vec 2 o1_0])<|.test (decide (x9<x8)) (NG x7 x9 2<|.ai (bI [.ptr,.ptr] (x7.ix x9) 0/\2<=(x7.ix x9).length)<|.call 114 [((x7.ix x9).getD 0 .any),.ref 0 0] [.cells [o0_0]] fun r1 o1=>.ai ((o1.hO)=.cells (o1.hO).cs)<|.ai (aK [.lk .ptr] ((o1.hO).cs) 0 1 o1.tail)<|NP r1<|.ai (cC 2 [[r1,((x7.ix x9).getD 1 .any)]]/\((o1_0.length)+([[r1,((x7.ix x9).getD 1 .any)]]:List (List AV)).length)*16<=140737488355328)<|.done 0 [x7,VI x8,VI (IntKind.wrap .i64 (x9+1))] [.cells [((o1.hO).cs.getD 0 .any)],.cells [.any],.vec 2 (o1_0++([[r1,((x7.ix x9).getD 1 .any)]]:List (List AV)))]) (.done 1 [] [.cells [o0_0],.cells [.any],.vec 2 o1_0])
abbrev FK:=cA Tryz.prog 24 MH Gq
theorem OM(x7:AV)(x8:Int)(x9:Int)(o0_0:AV)(o1_0:List (List AV))(h:ka 24 (Fs x7 x8 x9 o0_0 o1_0) FK U):FK [x7,VI x8,VI x9] [.cells [o0_0],.cells [.any],.vec 2 o1_0] U :=
 gQ Kh h
def Fb:LI:={hd:={bS:=[(1,.c (.func (.func 115) #[] #[])),(7,.k .sl),(8,.k (.int .i64)),(9,.k (.int .i64))],refs:=[(2,0)],cq:=[(0,[.vec 2])]},xs:={cq:=[(0,[.vec 2])]},rt:={cq:=[(0,[.vec 2])]},ex:=0,fx:=[0]}
def LC:Code:=cG (cB Tryz.f111) 1
def Ol:List (Nat×LI):=[(1,Fb)]
def Ju(a0:AV)(e2_0:List (List AV)):Tree :=
 NL a0<|.loop LC Fb [.v (.func (.func 115) #[] #[]),a0,VI (a0.elems.length:Int),VI 0] [.cells [.any],.vec 2 e2_0] (fun y2 q2=>.ai ((q2.hO)=.cells (q2.hO).cs)<|.ai (ae [.vec 2] ((q2.hO).cs) 0 q2.tail)<|.done 0 [.any] [.cells [.vec 1],.vec 2 ((q2.tail.hO).es)]) (fun y2 q2=>.ai ((q2.hO)=.cells (q2.hO).cs)<|.ai (ae [.vec 2] ((q2.hO).cs) 0 q2.tail)<|.done 0 [.any] [.cells [.vec 1],.vec 2 ((q2.tail.hO).es)])
theorem PQ(a0:AV)(e2_0:List (List AV))(ha0:LK.has .sl a0)(h:di 24 (Ju a0 e2_0) R):an Tryz.prog 111 [a0,.v (.func (.func 115) #[] #[]),.ref 0 0] [.cells [.vec 1],.vec 2 e2_0] R :=
 an.mY (bw (ca (ah (aA _) aC)) (bw (fH _) cv)) (an.up (ah (bP ha0) (ah (aA _) (ah (aA _) aC))) (oF Ol {mu:=[(2,.one (.obj [.vec 2]))],own:=[]} Tryz.f111 h))
def Fq(x7:AV)(x8:Int)(x9:Int)(o0_0:List (List AV)):Tree :=
 .ai (AV.v (.func (.func 115) #[] #[])=.v (.func (.func 115) #[] #[]))<|NL x7<|NI (VI x8)<|NI (VI x9)<|.ai (Ob.cells [.any]=.cells [.any])<|.ai (ae [.vec 2] [.any] 0 [.vec 2 o0_0])<|.test (decide (x9<x8)) (NG x7 x9 2<|.ai (bI [.ptr,.ptr] (x7.ix x9) 0/\2<=(x7.ix x9).length)<|.call 115 [((x7.ix x9).getD 0 .any)] [] fun r1 o1=>NP r1<|.ai (cC 2 [[r1,((x7.ix x9).getD 1 .any)]]/\((o0_0.length)+([[r1,((x7.ix x9).getD 1 .any)]]:List (List AV)).length)*16<=140737488355328)<|.done 0 [.v (.func (.func 115) #[] #[]),x7,VI x8,VI (IntKind.wrap .i64 (x9+1))] [.cells [.any],.vec 2 (o0_0++([[r1,((x7.ix x9).getD 1 .any)]]:List (List AV)))]) (.done 1 [] [.cells [.any],.vec 2 o0_0])
abbrev Hr:=cA Tryz.prog 24 LC Fb
theorem MV(x7:AV)(x8:Int)(x9:Int)(o0_0:List (List AV))(h:ka 24 (Fq x7 x8 x9 o0_0) Hr U):Hr [.v (.func (.func 115) #[] #[]),x7,VI x8,VI x9] [.cells [.any],.vec 2 o0_0] U :=
 gQ Ol h
def GU:LI:={hd:={bS:=[(7,.k .sl),(8,.k (.int .i64)),(9,.k (.int .i64))],refs:=[(2,1)],cq:=[(0,[.lk .ptr,.lk .ptr]),(1,[.vec 2])],fns:=[(1,116,[0])]},xs:={cq:=[(0,[.lk .ptr,.lk .ptr]),(1,[.vec 2])]},rt:={cq:=[(0,[.lk .ptr,.lk .ptr]),(1,[.vec 2])]},ex:=0,fx:=[0,1]}
def NW:Code:=cG (cB Tryz.f111) 1
def JL:List (Nat×LI):=[(1,GU)]
def Jp(a0:AV)(a1_0_0:AV)(a1_0_1:AV)(e2_0:List (List AV)):Tree :=
 NL a0<|.loop NW GU [a0,VI (a0.elems.length:Int),VI 0] [.cells [a1_0_0,a1_0_1],.cells [.any],.vec 2 e2_0] (fun y2 q2=>.ai ((q2.hO)=.cells (q2.hO).cs)<|.ai (ae [.lk .ptr,.lk .ptr] ((q2.hO).cs) 0 q2.tail)<|.ai (((q2.tail.drop 0).hO)=.cells ((q2.tail.drop 0).hO).cs)<|.ai (ae [.vec 2] (((q2.tail.drop 0).hO).cs) 0 ((q2.tail.drop 0).tail))<|.done 0 [.any] [.cells [((q2.hO).cs.getD 0 .any),((q2.hO).cs.getD 1 .any)],.cells [.vec 2],.vec 2 ((q2.tail.tail.hO).es)]) (fun y2 q2=>.ai ((q2.hO)=.cells (q2.hO).cs)<|.ai (ae [.lk .ptr,.lk .ptr] ((q2.hO).cs) 0 q2.tail)<|.ai (((q2.tail.drop 0).hO)=.cells ((q2.tail.drop 0).hO).cs)<|.ai (ae [.vec 2] (((q2.tail.drop 0).hO).cs) 0 ((q2.tail.drop 0).tail))<|.done 0 [.any] [.cells [((q2.hO).cs.getD 0 .any),((q2.hO).cs.getD 1 .any)],.cells [.vec 2],.vec 2 ((q2.tail.tail.hO).es)])
theorem Rk(a0:AV)(a1_0_0:AV)(a1_0_1:AV)(e2_0:List (List AV))(ha0:LK.has .sl a0)(ha1_0_0:LK.has .ptr a1_0_0)(ha1_0_1:LK.has .ptr a1_0_1)(h:di 24 (Jp a0 a1_0_0 a1_0_1 e2_0) R):an Tryz.prog 111 [a0,.fn 116 [.ref 0 0],.ref 1 0] [.cells [a1_0_0,a1_0_1],.cells [.vec 2],.vec 2 e2_0] R :=
 an.mY (bw (ca (ah (bB ha1_0_0) (ah (bB ha1_0_1) aC))) (bw (ca (ah (aA _) aC)) (bw (fH _) cv))) (an.up (ah (bP ha0) (ah (aA _) (ah (aA _) aC))) (oF JL {mu:=[(1,.fn [some (.obj [.lk .ptr,.lk .ptr])]),(2,.one (.obj [.vec 2]))],own:=[]} Tryz.f111 h))
def H6(x7:AV)(x8:Int)(x9:Int)(o0_0:AV)(o0_1:AV)(o1_0:List (List AV)):Tree :=
 NL x7<|NI (VI x8)<|NI (VI x9)<|.ai (Ob.cells [o0_0,o0_1]=.cells [o0_0,o0_1])<|.ai (ae [.lk .ptr,.lk .ptr] [o0_0,o0_1] 0 [.cells [.any],.vec 2 o1_0])<|.ai (Ob.cells [.any]=.cells [.any])<|.ai (ae [.vec 2] [.any] 0 [.vec 2 o1_0])<|.test (decide (x9<x8)) (NG x7 x9 2<|.ai (bI [.ptr,.ptr] (x7.ix x9) 0/\2<=(x7.ix x9).length)<|.call 116 [((x7.ix x9).getD 0 .any),.ref 0 0] [.cells [o0_0,o0_1]] fun r1 o1=>.ai ((o1.hO)=.cells (o1.hO).cs)<|.ai (aK [.lk .ptr,.lk .ptr] ((o1.hO).cs) 0 1 o1.tail)<|NP r1<|.ai (cC 2 [[r1,((x7.ix x9).getD 1 .any)]]/\((o1_0.length)+([[r1,((x7.ix x9).getD 1 .any)]]:List (List AV)).length)*16<=140737488355328)<|.done 0 [x7,VI x8,VI (IntKind.wrap .i64 (x9+1))] [.cells [((o1.hO).cs.getD 0 .any),((o1.hO).cs.getD 1 .any)],.cells [.any],.vec 2 (o1_0++([[r1,((x7.ix x9).getD 1 .any)]]:List (List AV)))]) (.done 1 [] [.cells [o0_0,o0_1],.cells [.any],.vec 2 o1_0])
abbrev Ir:=cA Tryz.prog 24 NW GU
theorem No(x7:AV)(x8:Int)(x9:Int)(o0_0:AV)(o0_1:AV)(o1_0:List (List AV))(h:ka 24 (H6 x7 x8 x9 o0_0 o0_1 o1_0) Ir U):Ir [x7,VI x8,VI x9] [.cells [o0_0,o0_1],.cells [.any],.vec 2 o1_0] U :=
 gQ JL h
def Gy(a0:AV)(a1_0:AV):Tree :=
 NZ a1_0<|NZ a1_0<|.ai (LK.has (.int .u8) (a1_0.deref.hA)/\1<=a1_0.deref.length)<|.call 78 [.v (.int .u8 ((a1_0.deref.hA).toInt)),a0] [] fun r1 o1=>NP r1<|.done 0 [r1] [.cells [a1_0]]
theorem Js(a0:AV)(a1_0:AV)(ha0:LK.has .ptr a0)(ha1_0:LK.has .ptr a1_0)(h:di 10 (Gy a0 a1_0) R):an Tryz.prog 112 [a0,.ref 0 0] [.cells [a1_0]] R :=
 an.mY (bw (ca (ah (bB ha1_0) aC)) cv) (an.up (ah (bB ha0) (ah (aA _) aC)) (oF [] {mu:=[(1,.one (.obj [.lk .ptr]))],own:=[]} Tryz.f112 h))
def OD(a0:AV)(a1_0:AV):Tree :=
 NZ a1_0<|NZ a1_0<|dP (a1_0.deref.drop 3)<|.call 109 [a0,((a1_0.deref.drop 3).hA)] [] fun r1 o1=>NP r1<|.call 78 [.v (.int .u8 108),r1] [] fun r2 o2=>NP r2<|.done 0 [r2] [.cells [a1_0]]
theorem PT(a0:AV)(a1_0:AV)(ha0:LK.has .ptr a0)(ha1_0:LK.has .ptr a1_0)(h:di 11 (OD a0 a1_0) R):an Tryz.prog 113 [a0,.ref 0 0] [.cells [a1_0]] R :=
 an.mY (bw (ca (ah (bB ha1_0) aC)) cv) (an.up (ah (bB ha0) (ah (aA _) aC)) (oF [] {mu:=[(1,.one (.obj [.lk .ptr]))],own:=[]} Tryz.f113 h))
def Kz(a0:AV)(a1_0:AV):Tree :=
 NZ a1_0<|NZ a1_0<|dP (a1_0.deref.drop 2)<|.call 109 [((a1_0.deref.drop 2).hA),a0] [] fun r1 o1=>NP r1<|.call 78 [.v (.int .u8 114),r1] [] fun r2 o2=>NP r2<|.done 0 [r2] [.cells [a1_0]]
theorem SH(a0:AV)(a1_0:AV)(ha0:LK.has .ptr a0)(ha1_0:LK.has .ptr a1_0)(h:di 11 (Kz a0 a1_0) R):an Tryz.prog 114 [a0,.ref 0 0] [.cells [a1_0]] R :=
 an.mY (bw (ca (ah (bB ha1_0) aC)) cv) (an.up (ah (bB ha0) (ah (aA _) aC)) (oF [] {mu:=[(1,.one (.obj [.lk .ptr]))],own:=[]} Tryz.f114 h))
def Ln(a0:AV):Tree :=
 .call 78 [.v (.int .u8 108),a0] [] fun r1 o1=>NP r1<|.call 78 [.v (.int .u8 102),r1] [] fun r2 o2=>NP r2<|.done 0 [r2] []
theorem PM(a0:AV)(ha0:LK.has .ptr a0)(h:di 6 (Ln a0) R):an Tryz.prog 115 [a0] [] R :=
 uQ (ah (bB ha0) aC) (oQ [] Tryz.f115 h)
def MQ(a0:AV)(a1_0:AV)(a1_1:AV):Tree :=
 .call 109 [a1_0,a0] [] fun r1 o1=>NP r1<|.call 78 [.v (.int .u8 114),r1] [] fun r2 o2=>NP r2<|.call 78 [.v (.int .u8 102),r2] [] fun r3 o3=>NP r3<|.done 0 [r3] [.cells [a1_0,a1_1]]
theorem Qb(a0:AV)(a1_0:AV)(a1_1:AV)(ha0:LK.has .ptr a0)(ha1_0:LK.has .ptr a1_0)(ha1_1:LK.has .ptr a1_1)(h:di 10 (MQ a0 a1_0 a1_1) R):an Tryz.prog 116 [a0,.ref 0 0] [.cells [a1_0,a1_1]] R :=
 an.mY (bw (ca (ah (bB ha1_0) (ah (bB ha1_1) aC))) cv) (an.up (ah (bB ha0) (ah (aA _) aC)) (oF [] {mu:=[(1,.one (.obj [.lk .ptr,.lk .ptr]))],own:=[]} Tryz.f116 h))
def xb(a0_0:ByteArray)(a0_1:AV):Tree :=
 .test (!(af a0_0==af (mk []))) (.test (af a0_0==af (mk [48])) (.done 0 [VB true] []) (.test (af a0_0==af (mk [49])) (.done 0 [VB true] []) (.call 126 [VS a0_0] [] fun r1 o1=>NB r1<|.test r1.toBool (.done 0 [VB true] []) (.call 85 [VS a0_0] [] fun r2 o2=>NB r2<|.done 0 [VB r2.toBool] [])))) (NL a0_1<|.test ((a0_1.elems.length:Int) != (3:Int)) (.done 0 [VB false] []) (.call 86 [.agg [VS a0_0,a0_1]] [] fun r3 o3=>NS r3<|.test (af r3.toStr==af (mk [43])) (NG a0_1 1 2<|NE (a0_1.ix (1:Int))<|.call 117 [.agg [VS (((a0_1.ix (1:Int)).getD 0 .any).toStr),((a0_1.ix (1:Int)).getD 1 .any)]] [] fun r4 o4=>NB r4<|.test r4.toBool (NG a0_1 2 2<|NE (a0_1.ix (2:Int))<|.call 117 [.agg [VS (((a0_1.ix (2:Int)).getD 0 .any).toStr),((a0_1.ix (2:Int)).getD 1 .any)]] [] fun r5 o5=>NB r5<|.done 0 [VB r5.toBool] []) (.done 0 [VB false] [])) (.test (af r3.toStr==af (mk [42])) (NG a0_1 1 2<|NE (a0_1.ix (1:Int))<|.call 117 [.agg [VS (((a0_1.ix (1:Int)).getD 0 .any).toStr),((a0_1.ix (1:Int)).getD 1 .any)]] [] fun r6 o6=>NB r6<|.test r6.toBool (NG a0_1 2 2<|NE (a0_1.ix (2:Int))<|.call 117 [.agg [VS (((a0_1.ix (2:Int)).getD 0 .any).toStr),((a0_1.ix (2:Int)).getD 1 .any)]] [] fun r7 o7=>NB r7<|.done 0 [VB r7.toBool] []) (.done 0 [VB false] [])) (.test (af r3.toStr==af (mk [114,101,99])) (NG a0_1 1 2<|kK (a0_1.ix (1:Int))<|.call 85 [VS (((a0_1.ix (1:Int)).hA).toStr)] [] fun r8 o8=>NB r8<|.test r8.toBool (NG a0_1 2 2<|NE (a0_1.ix (2:Int))<|.call 117 [.agg [VS (((a0_1.ix (2:Int)).getD 0 .any).toStr),((a0_1.ix (2:Int)).getD 1 .any)]] [] fun r9 o9=>NB r9<|.done 0 [VB r9.toBool] []) (.done 0 [VB false] [])) (.done 0 [VB false] [])))))
theorem Lb(a0_0:ByteArray)(a0_1:AV)(ha0_1:LK.has .sl a0_1)(h:di 60 (xb a0_0 a0_1) R):an Tryz.prog 117 [.agg [VS a0_0,a0_1]] [] R :=
 uQ (ah (cb (ah (aA _) (ah (bP ha0_1) aC))) aC) (oQ [] Tryz.f117 h)
def FU:LI:={hd:={bS:=[(0,.k .sl),(1,.k .str),(5,.k (.int .i64))]},xs:={},rt:={bS:=[(4,.k .bool)]},ex:=0}
def Ks:Code:=cG (cB Tryz.f118) 2
def Ky:List (Nat×LI):=[(2,FU)]
def Om(a0:AV)(a1:ByteArray):Tree :=
 .loop Ks FU [a0,VS a1,VI 0] [] (fun y1 q1=>.done 0 [VB false] []) (fun y1 q1=>NB (y1.hA)<|.done 0 [VB ((y1.hA).toBool)] [])
theorem PG(a0:AV)(a1:ByteArray)(ha0:LK.has .sl a0)(h:di 18 (Om a0 a1) R):an Tryz.prog 118 [a0,VS a1] [] R :=
 uQ (ah (bP ha0) (ah (aA _) aC)) (oQ Ky Tryz.f118 h)
def He(x0:AV)(x1:ByteArray)(x5:Int):Tree :=
 NL x0<|NS (VS x1)<|NI (VI x5)<|NL x0<|.test (decide (x5<(x0.elems.length:Int))) (NG x0 x5 1<|kK (x0.ix x5)<|.test (af (((x0.ix x5).hA).toStr)==af x1) (.done 2 [VB true] []) (.done 0 [x0,VS x1,VI (IntKind.wrap .i64 (x5+1))] [])) (.done 1 [] [])
abbrev Hh:=cA Tryz.prog 18 Ks FU
theorem Ng(x0:AV)(x1:ByteArray)(x5:Int)(h:ka 18 (He x0 x1 x5) Hh U):Hh [x0,VS x1,VI x5] [] U :=
 gQ Ky h
def HO:LI:={hd:={bS:=[(0,.k .str),(7,.k (.int .i64))]},xs:={},rt:={bS:=[(6,.k .bool)]},ex:=0}
def Kx:Code:=cG (cB Tryz.f119) 4
def Nw:List (Nat×LI):=[(4,HO)]
def On(a0:ByteArray)(a1:Int)(a2:Int):Tree :=
 .call 45 [VI (ag a0:Int),VI 1,VI 3] [] fun r1 o1=>NB r1<|.test (!r1.toBool) (.done 0 [VB false] []) (.ai (0<=(0:Int)/\(0:Int)<ag a0)<|.test (decide ((bt a0 0)<a1)) (.done 0 [VB false] []) (.ai (0<=(0:Int)/\(0:Int)<ag a0)<|.test (decide ((bt a0 0)>a2)) (.done 0 [VB false] []) (.loop Kx HO [VS a0,VI 1] [] (fun y2 q2=>.done 0 [VB true] []) (fun y2 q2=>NB (y2.hA)<|.done 0 [VB ((y2.hA).toBool)] []))))
theorem Rc(a0:ByteArray)(a1:Int)(a2:Int)(h:di 40 (On a0 a1 a2) R):an Tryz.prog 119 [VS a0,.v (.int .u8 a1),.v (.int .u8 a2)] [] R :=
 uQ (ah (aA _) (ah (aA _) (ah (aA _) aC))) (oQ Nw Tryz.f119 h)
def FB(x0:ByteArray)(x7:Int):Tree :=
 NS (VS x0)<|NI (VI x7)<|.test (decide (x7<(ag x0:Int))) (.ai (0<=x7/\x7<ag x0)<|.test (decide ((bt x0 x7)<(48:Int))) (.done 2 [VB false] []) (.ai (0<=x7/\x7<ag x0)<|.test (decide ((bt x0 x7)>(57:Int))) (.done 2 [VB false] []) (.done 0 [VS x0,VI (IntKind.wrap .i64 (x7+1))] []))) (.done 1 [] [])
abbrev GV:=cA Tryz.prog 40 Kx HO
theorem KC(x0:ByteArray)(x7:Int)(h:ka 40 (FB x0 x7) GV U):GV [VS x0,VI x7] [] U :=
 gQ Nw h
def OS(a0_0:ByteArray)(a0_1:AV)(a1:ByteArray)(a2_0:ByteArray)(a2_1:AV):Tree :=
 .call 88 [.agg [VS a0_0,a0_1]] [] fun r1 o1=>NI r1<|.call 145 [.agg [VS a0_0,a0_1],VS a1] [] fun r2 o2=>NI r2<|.call 88 [.agg [VS a2_0,a2_1]] [] fun r3 o3=>NI r3<|.done 0 [VB (decide ((IntKind.wrap .i64 (r1.toInt+(IntKind.wrap .i64 (r2.toInt*(IntKind.wrap .i64 (r3.toInt-1))))))<=(400:Int)))] []
theorem Sd(a0_0:ByteArray)(a0_1:AV)(a1:ByteArray)(a2_0:ByteArray)(a2_1:AV)(ha0_1:LK.has .sl a0_1)(ha2_1:LK.has .sl a2_1)(h:di 18 (OS a0_0 a0_1 a1 a2_0 a2_1) R):an Tryz.prog 120 [.agg [VS a0_0,a0_1],VS a1,.agg [VS a2_0,a2_1]] [] R :=
 uQ (ah (cb (ah (aA _) (ah (bP ha0_1) aC))) (ah (aA _) (ah (cb (ah (aA _) (ah (bP ha2_1) aC))) aC))) (oQ [] Tryz.f120 h)
def JC(a0_0:ByteArray)(a0_1:AV)(a1:ByteArray)(a2_0:ByteArray)(a2_1:AV):Tree :=
 .call 65 [.agg [VS a0_0,a0_1],.sl [[VS a2_0,a2_1],[VS a1,.v (.slice none 0 0)]]] [] fun r1 o1=>NA r1<|.call 146 [.agg [VS ((r1.cs.getD 0 .any).toStr),(r1.cs.getD 1 .any)],VS a1,.agg [VS a2_0,a2_1]] [] fun r2 o2=>NA r2<|.done 0 [.agg [VS ((r2.cs.getD 0 .any).toStr),(r2.cs.getD 1 .any)]] []
theorem Qr(a0_0:ByteArray)(a0_1:AV)(a1:ByteArray)(a2_0:ByteArray)(a2_1:AV)(ha0_1:LK.has .sl a0_1)(ha2_1:LK.has .sl a2_1)(h:di 16 (JC a0_0 a0_1 a1 a2_0 a2_1) R):an Tryz.prog 121 [.agg [VS a0_0,a0_1],VS a1,.agg [VS a2_0,a2_1]] [] R :=
 uQ (ah (cb (ah (aA _) (ah (bP ha0_1) aC))) (ah (aA _) (ah (cb (ah (aA _) (ah (bP ha2_1) aC))) aC))) (oQ [] Tryz.f121 h)
def AE(a0_0:ByteArray)(a0_1:AV)(a1:ByteArray):Tree :=
 .test (!(af a0_0==af (mk []))) (.test (af a0_0==af a1) (.done 0 [.cH [.agg [VS (mk [49]),.v (.slice none 0 0)],VB true]] []) (.done 0 [.cH [.agg [VS (mk [48]),.v (.slice none 0 0)],VB true]] [])) (.call 86 [.agg [VS a0_0,a0_1]] [] fun r1 o1=>NS r1<|.test (af r1.toStr==af (mk [114,101,99])) (.call 147 [.agg [VS a0_0,a0_1],VS a1] [] fun r2 o2=>NT r2<|.ai ((r2.comp 0)=.agg (r2.comp 0).cs/\(r2.comp 0).cs.length=2/\bI [.str,.sl] ((r2.comp 0).cs) 0)<|NB (r2.comp 1)<|.done 0 [.cH [.agg [VS (((r2.comp 0).cs.getD 0 .any).toStr),((r2.comp 0).cs.getD 1 .any)],VB ((r2.comp 1).toBool)]] []) (NG a0_1 1 2<|NE (a0_1.ix (1:Int))<|.call 122 [.agg [VS (((a0_1.ix (1:Int)).getD 0 .any).toStr),((a0_1.ix (1:Int)).getD 1 .any)],VS a1] [] fun r3 o3=>NT r3<|.ai ((r3.comp 0)=.agg (r3.comp 0).cs/\(r3.comp 0).cs.length=2/\bI [.str,.sl] ((r3.comp 0).cs) 0)<|NB (r3.comp 1)<|NG a0_1 2 2<|NE (a0_1.ix (2:Int))<|.call 122 [.agg [VS (((a0_1.ix (2:Int)).getD 0 .any).toStr),((a0_1.ix (2:Int)).getD 1 .any)],VS a1] [] fun r4 o4=>NT r4<|.ai ((r4.comp 0)=.agg (r4.comp 0).cs/\(r4.comp 0).cs.length=2/\bI [.str,.sl] ((r4.comp 0).cs) 0)<|NB (r4.comp 1)<|.call 81 [VS (mk [43]),.sl [[VS (((r3.comp 0).cs.getD 0 .any).toStr),((r3.comp 0).cs.getD 1 .any)],[VS (((r4.comp 0).cs.getD 0 .any).toStr),((r4.comp 0).cs.getD 1 .any)]]] [] fun r5 o5=>NA r5<|.call 86 [.agg [VS a0_0,a0_1]] [] fun r6 o6=>NS r6<|.test (af r6.toStr==af (mk [42])) (NG a0_1 2 2<|NE (a0_1.ix (2:Int))<|.call 81 [VS (mk [42]),.sl [[VS (((r3.comp 0).cs.getD 0 .any).toStr),((r3.comp 0).cs.getD 1 .any)],[VS (((a0_1.ix (2:Int)).getD 0 .any).toStr),((a0_1.ix (2:Int)).getD 1 .any)]]] [] fun r7 o7=>NA r7<|NG a0_1 1 2<|NE (a0_1.ix (1:Int))<|.call 81 [VS (mk [42]),.sl [[VS (((a0_1.ix (1:Int)).getD 0 .any).toStr),((a0_1.ix (1:Int)).getD 1 .any)],[VS (((r4.comp 0).cs.getD 0 .any).toStr),((r4.comp 0).cs.getD 1 .any)]]] [] fun r8 o8=>NA r8<|.call 81 [VS (mk [43]),.sl [[VS ((r7.cs.getD 0 .any).toStr),(r7.cs.getD 1 .any)],[VS ((r8.cs.getD 0 .any).toStr),(r8.cs.getD 1 .any)]]] [] fun r9 o9=>NA r9<|.test ((r3.comp 1).toBool) (.test ((r4.comp 1).toBool) (.call 88 [.agg [VS ((r9.cs.getD 0 .any).toStr),(r9.cs.getD 1 .any)]] [] fun r10 o10=>NI r10<|.done 0 [.cH [.agg [VS ((r9.cs.getD 0 .any).toStr),(r9.cs.getD 1 .any)],VB (decide (r10.toInt<=(400:Int)))]] []) (.done 0 [.cH [.agg [VS ((r9.cs.getD 0 .any).toStr),(r9.cs.getD 1 .any)],VB false]] [])) (.done 0 [.cH [.agg [VS ((r9.cs.getD 0 .any).toStr),(r9.cs.getD 1 .any)],VB false]] [])) (.test ((r3.comp 1).toBool) (.test ((r4.comp 1).toBool) (.call 88 [.agg [VS ((r5.cs.getD 0 .any).toStr),(r5.cs.getD 1 .any)]] [] fun r11 o11=>NI r11<|.done 0 [.cH [.agg [VS ((r5.cs.getD 0 .any).toStr),(r5.cs.getD 1 .any)],VB (decide (r11.toInt<=(400:Int)))]] []) (.done 0 [.cH [.agg [VS ((r5.cs.getD 0 .any).toStr),(r5.cs.getD 1 .any)],VB false]] [])) (.done 0 [.cH [.agg [VS ((r5.cs.getD 0 .any).toStr),(r5.cs.getD 1 .any)],VB false]] []))))
theorem DI(a0_0:ByteArray)(a0_1:AV)(a1:ByteArray)(ha0_1:LK.has .sl a0_1)(h:di 79 (AE a0_0 a0_1 a1) R):an Tryz.prog 122 [.agg [VS a0_0,a0_1],VS a1] [] R :=
 uQ (ah (cb (ah (aA _) (ah (bP ha0_1) aC))) (ah (aA _) aC)) (oQ [] Tryz.f122 h)
def Mf(a0_0:ByteArray)(a0_1:AV)(a1:ByteArray)(a2_0:ByteArray)(a2_1:AV):Tree :=
 .call 120 [.agg [VS a0_0,a0_1],VS a1,.agg [VS a2_0,a2_1]] [] fun r1 o1=>NB r1<|.test (!r1.toBool) (.done 0 [.cH [.agg [VS a0_0,a0_1],VB false]] []) (.call 121 [.agg [VS a0_0,a0_1],VS a1,.agg [VS a2_0,a2_1]] [] fun r2 o2=>NA r2<|.done 0 [.cH [.agg [VS ((r2.cs.getD 0 .any).toStr),(r2.cs.getD 1 .any)],VB true]] [])
theorem SF(a0_0:ByteArray)(a0_1:AV)(a1:ByteArray)(a2_0:ByteArray)(a2_1:AV)(ha0_1:LK.has .sl a0_1)(ha2_1:LK.has .sl a2_1)(h:di 18 (Mf a0_0 a0_1 a1 a2_0 a2_1) R):an Tryz.prog 123 [.agg [VS a0_0,a0_1],VS a1,.agg [VS a2_0,a2_1]] [] R :=
 uQ (ah (cb (ah (aA _) (ah (bP ha0_1) aC))) (ah (aA _) (ah (cb (ah (aA _) (ah (bP ha2_1) aC))) aC))) (oQ [] Tryz.f123 h)
def Jl(a0:ByteArray):Tree :=
 .call 83 [VS a0] [] fun r1 o1=>NT r1<|.ai ((r1.comp 0)=.agg (r1.comp 0).cs/\(r1.comp 0).cs.length=2/\bI [.str,.sl] ((r1.comp 0).cs) 0)<|NB (r1.comp 1)<|.done 0 [VB ((r1.comp 1).toBool)] []
theorem RJ(a0:ByteArray)(h:di 11 (Jl a0) R):an Tryz.prog 124 [VS a0] [] R :=
 uQ (ah (aA _) aC) (oQ [] Tryz.f124 h)
def Gj:LI:={hd:={bS:=[(1,.k .sl),(6,.k (.int .i64))],refs:=[(2,2),(4,4)],cq:=[(2,[.lk .str,.lk .sl]),(4,[.lk .str,.lk .sl])]},xs:={bS:=[(1,.k .sl)],refs:=[(2,2),(4,4)],cq:=[(2,[.lk .str,.lk .sl]),(4,[.lk .str,.lk .sl])]},rt:={bS:=[(5,.k .sl)],refs:=[(4,4)],cq:=[(4,[.lk .str,.lk .sl])]},ex:=0}
def M3:Code:=cG (cB Tryz.f125) 2
def Jk:List (Nat×LI):=[(2,Gj)]
def Na(a0_0:ByteArray)(a0_1:AV)(a1:AV):Tree :=
 NL a1<|.loop M3 Gj [a1,VI (IntKind.wrap .i64 ((a1.elems.length:Int)-1))] [.cells [VS a0_0,a0_1],.cells [VS (mk []),.v (.slice none 0 0)]] (fun y1 q1=>NL (y1.hA)<|.ai ((q1.hO)=.cells (q1.hO).cs)<|.ai (ae [.lk .str,.lk .sl] ((q1.hO).cs) 0 q1.tail)<|.ai (((q1.tail.drop 0).hO)=.cells ((q1.tail.drop 0).hO).cs)<|.ai (ae [.lk .str,.lk .sl] (((q1.tail.drop 0).hO).cs) 0 ((q1.tail.drop 0).tail))<|.done 0 [.cH [.agg [VS (((q1.hO).cs.getD 0 .any).toStr),((q1.hO).cs.getD 1 .any)],(y1.hA)]] []) (fun y1 q1=>NL (y1.hA)<|.ai ((q1.hO)=.cells (q1.hO).cs)<|.ai (ae [.lk .str,.lk .sl] ((q1.hO).cs) 0 q1.tail)<|.done 0 [.cH [.agg [VS (((q1.hO).cs.getD 0 .any).toStr),((q1.hO).cs.getD 1 .any)],(y1.hA)]] [])
theorem SL(a0_0:ByteArray)(a0_1:AV)(a1:AV)(ha0_1:LK.has .sl a0_1)(ha1:LK.has .sl a1)(h:di 34 (Na a0_0 a0_1 a1) R):an Tryz.prog 125 [.agg [VS a0_0,a0_1],a1] [] R :=
 uQ (ah (cb (ah (aA _) (ah (bP ha0_1) aC))) (ah (bP ha1) aC)) (oQ Jk Tryz.f125 h)
def IP(x1:AV)(x6:Int)(o2_0:ByteArray)(o2_1:AV)(o4_0:ByteArray)(o4_1:AV):Tree :=
 NL x1<|NI (VI x6)<|.ai (Ob.cells [VS o2_0,o2_1]=.cells [VS o2_0,o2_1])<|.ai (ae [.lk .str,.lk .sl] [VS o2_0,o2_1] 0 [.cells [VS o4_0,o4_1]])<|.ai (Ob.cells [VS o4_0,o4_1]=.cells [VS o4_0,o4_1])<|.ai (ae [.lk .str,.lk .sl] [VS o4_0,o4_1] 0 [])<|.test (decide (x6≥(0:Int))) (NG x1 x6 4<|kK (x1.ix x6)<|.test (af (((x1.ix x6).hA).toStr)==af o2_0) (NG x1 x6 4<|NE ((x1.ix x6).drop 1)<|NG x1 x6 4<|nA ((x1.ix x6).drop 3)<|.done 2 [(((x1.ix x6).drop 3).hA)] [.cells [VS ((((x1.ix x6).drop 1).getD 0 .any).toStr),(((x1.ix x6).drop 1).getD 1 .any)]]) (.done 0 [x1,VI (IntKind.wrap .i64 (x6-1))] [.cells [VS o2_0,o2_1],.cells [VS o4_0,o4_1]])) (.done 1 [x1] [.cells [VS o2_0,o2_1],.cells [VS o4_0,o4_1]])
abbrev Gh:=cA Tryz.prog 34 M3 Gj
theorem Km(x1:AV)(x6:Int)(o2_0:ByteArray)(o2_1:AV)(o4_0:ByteArray)(o4_1:AV)(h:ka 34 (IP x1 x6 o2_0 o2_1 o4_0 o4_1) Gh U):Gh [x1,VI x6] [.cells [VS o2_0,o2_1],.cells [VS o4_0,o4_1]] U :=
 gQ Jk h
def KX(a0:ByteArray):Tree :=
 .call 119 [VS a0,.v (.int .u8 120),.v (.int .u8 122)] [] fun r1 o1=>NB r1<|.done 0 [VB r1.toBool] []
theorem Rm(a0:ByteArray)(h:di 5 (KX a0) R):an Tryz.prog 126 [VS a0] [] R :=
 uQ (ah (aA _) aC) (oQ [] Tryz.f126 h)
def Cu:LI:={hd:={bS:=[(0,.k .str),(3,.k (.int .i64)),(4,.k (.int .i64))]},xs:={bS:=[(3,.k (.int .i64))]},rt:={bS:=[(2,.k (.int .i64))]},ex:=0}
def DO:Code:=cG (cB Tryz.f127) 5
def JF:List (Nat×LI):=[(5,Cu)]
def O1(a0:ByteArray):Tree :=
 .call 45 [VI (ag a0:Int),VI 2,VI 3] [] fun r1 o1=>NB r1<|.test (!r1.toBool) (.done 0 [VI (-1)] []) (.ai (0<=(0:Int)/\(0:Int)<ag a0)<|.test ((bt a0 0) != (101:Int)) (.done 0 [VI (-1)] []) (.test ((ag a0:Int)==(3:Int)) (.ai (0<=(1:Int)/\(1:Int)<ag a0)<|.test ((bt a0 1)==(48:Int)) (.done 0 [VI (-1)] []) (.loop DO Cu [VS a0,VI 0,VI 1] [] (fun y2 q2=>NI (y2.hA)<|.done 0 [VI ((y2.hA).toInt)] []) (fun y2 q2=>NI (y2.hA)<|.done 0 [VI ((y2.hA).toInt)] []))) (.loop DO Cu [VS a0,VI 0,VI 1] [] (fun y3 q3=>NI (y3.hA)<|.done 0 [VI ((y3.hA).toInt)] []) (fun y3 q3=>NI (y3.hA)<|.done 0 [VI ((y3.hA).toInt)] []))))
theorem PD(a0:ByteArray)(h:di 49 (O1 a0) R):an Tryz.prog 127 [VS a0] [] R :=
 uQ (ah (aA _) aC) (oQ JF Tryz.f127 h)
def FA(x0:ByteArray)(x3:Int)(x4:Int):Tree :=
 NS (VS x0)<|NI (VI x3)<|NI (VI x4)<|.test (decide (x4<(ag x0:Int))) (.ai (0<=x4/\x4<ag x0)<|.test (decide ((bt x0 x4)<(48:Int))) (.done 2 [VI (-1)] []) (.ai (0<=x4/\x4<ag x0)<|.test (decide ((bt x0 x4)>(57:Int))) (.done 2 [VI (-1)] []) (.ai (0<=x4/\x4<ag x0)<|.done 0 [VS x0,VI (IntKind.wrap .i64 ((IntKind.wrap .i64 (10*x3))+(IntKind.wrap .i64 (IntKind.wrap .u8 ((bt x0 x4)-48))))),VI (IntKind.wrap .i64 (x4+1))] []))) (.done 1 [VI x3] [])
abbrev IM:=cA Tryz.prog 49 DO Cu
theorem K8(x0:ByteArray)(x3:Int)(x4:Int)(h:ka 49 (FA x0 x3 x4) IM U):IM [VS x0,VI x3,VI x4] [] U :=
 gQ JF h
def OK(a0_0:ByteArray)(a0_1:AV)(a1:AV):Tree :=
 NG a0_1 2 2<|NE (a0_1.ix (2:Int))<|.ai (LK.has .sl a1/\cC 4 a1.elems/\((([]:List (List AV)).length)+a1.elems.length)*80<=140737488355328)<|NG a0_1 1 2<|kK (a0_1.ix (1:Int))<|.ai (cC 4 [[VS (((a0_1.ix (1:Int)).hA).toStr),VS a0_0,a0_1,a1]]/\(((([]:List (List AV))++a1.elems).length)+([[VS (((a0_1.ix (1:Int)).hA).toStr),VS a0_0,a0_1,a1]]:List (List AV)).length)*80<=140737488355328)<|.done 0 [.cH [.agg [VS (((a0_1.ix (2:Int)).getD 0 .any).toStr),((a0_1.ix (2:Int)).getD 1 .any)],.sl ((([]:List (List AV))++a1.elems)++([[VS (((a0_1.ix (1:Int)).hA).toStr),VS a0_0,a0_1,a1]]:List (List AV)))]] []
theorem S6(a0_0:ByteArray)(a0_1:AV)(a1:AV)(ha0_1:LK.has .sl a0_1)(ha1:LK.has .sl a1)(h:di 23 (OK a0_0 a0_1 a1) R):an Tryz.prog 128 [.agg [VS a0_0,a0_1],a1] [] R :=
 uQ (ah (cb (ah (aA _) (ah (bP ha0_1) aC))) (ah (bP ha1) aC)) (oQ [] Tryz.f128 h)
def Jd(a0:ByteArray):Tree :=
 .test (decide ((ag a0:Int)>(8000:Int))) (.done 0 [.v (.pointer none)] []) (.call 148 [VS a0,VI 0] [] fun r1 o1=>NT r1<|NP (r1.comp 0)<|NS (r1.comp 1)<|.test (!(af ((r1.comp 1).toStr)==af (mk []))) (.done 0 [.v (.pointer none)] []) (.done 0 [(r1.comp 0)] []))
theorem Qh(a0:ByteArray)(h:di 16 (Jd a0) R):an Tryz.prog 129 [VS a0] [] R :=
 uQ (ah (aA _) aC) (oQ [] Tryz.f129 h)
def F6:LI:={hd:={bS:=[(0,.k .ptr),(1,.k .sl),(5,.k (.int .i64))]},xs:={bS:=[(0,.k .ptr)]},rt:={refs:=[(4,69)],cq:=[(69,[.lk (.int .u8),.lk .str,.lk (.int .i64),.lk .ptr,.lk .ptr])]},ex:=1}
def KQ:Code:=cG (cB Tryz.f130) 7
def NO:List (Nat×LI):=[(7,F6)]
def FP(a0:AV)(a1:AV):Tree :=
 NZ a0<|NZ a0<|.ai (LK.has .str (a0.deref.hA)/\1<=a0.deref.length)<|.test (af ((a0.deref.hA).toStr)==af (mk [48])) (NZ a0<|NZ a0<|.ai (LK.has .str (a0.deref.hA)/\1<=a0.deref.length)<|.ai (0<=(0:Int)/\(0:Int)<ag ((a0.deref.hA).toStr))<|.done 0 [.ptr [.v (.int .u8 (bt ((a0.deref.hA).toStr) 0)),VS (mk []),VI 0,.v (.pointer none),.v (.pointer none)]] []) (NZ a0<|NZ a0<|.ai (LK.has .str (a0.deref.hA)/\1<=a0.deref.length)<|.test (af ((a0.deref.hA).toStr)==af (mk [49])) (NZ a0<|NZ a0<|.ai (LK.has .str (a0.deref.hA)/\1<=a0.deref.length)<|.ai (0<=(0:Int)/\(0:Int)<ag ((a0.deref.hA).toStr))<|.done 0 [.ptr [.v (.int .u8 (bt ((a0.deref.hA).toStr) 0)),VS (mk []),VI 0,.v (.pointer none),.v (.pointer none)]] []) (NZ a0<|NZ a0<|.ai (LK.has .str (a0.deref.hA)/\1<=a0.deref.length)<|.call 149 [VS ((a0.deref.hA).toStr)] [] fun r1 o1=>NB r1<|.test r1.toBool (NZ a0<|NZ a0<|.ai (LK.has .str (a0.deref.hA)/\1<=a0.deref.length)<|.done 0 [.ptr [.v (.int .u8 110),VS ((a0.deref.hA).toStr),VI 0,.v (.pointer none),.v (.pointer none)]] []) (NZ a0<|NZ a0<|.ai (LK.has .str (a0.deref.hA)/\1<=a0.deref.length)<|.call 150 [VS ((a0.deref.hA).toStr)] [] fun r2 o2=>NB r2<|.test r2.toBool (NL a1<|.loop KQ F6 [a0,a1,VI (IntKind.wrap .i64 ((a1.elems.length:Int)-1))] [] (fun y3 q3=>NP (y3.hA)<|NZ (y3.hA)<|NZ (y3.hA)<|.ai (LK.has .str ((y3.hA).deref.hA)/\1<=((y3.hA).deref).length)<|.done 0 [.ptr [.v (.int .u8 110),VS (((y3.hA).deref.hA).toStr),VI 0,.v (.pointer none),.v (.pointer none)]] []) (fun y3 q3=>.ai ((q3.hO)=.cells (q3.hO).cs)<|.ai (ae [.lk (.int .u8),.lk .str,.lk (.int .i64),.lk .ptr,.lk .ptr] ((q3.hO).cs) 0 q3.tail)<|.done 0 [.ptr [.v (.int .u8 (((q3.hO).cs.getD 0 .any).toInt)),VS (((q3.hO).cs.getD 1 .any).toStr),VI (((q3.hO).cs.getD 2 .any).toInt),((q3.hO).cs.getD 3 .any),((q3.hO).cs.getD 4 .any)]] [])) (.call 151 [a0,VS (mk [43]),VI 3] [] fun r4 o4=>NB r4<|.test r4.toBool (NZ a0<|NZ a0<|nA (a0.deref.drop 1)<|NG ((a0.deref.drop 1).hA) 1 1<|dP (((a0.deref.drop 1).hA).ix (1:Int))<|.call 130 [((((a0.deref.drop 1).hA).ix (1:Int)).hA),a1] [] fun r5 o5=>NP r5<|NZ a0<|NZ a0<|nA (a0.deref.drop 1)<|NG ((a0.deref.drop 1).hA) 2 1<|dP (((a0.deref.drop 1).hA).ix (2:Int))<|.call 130 [((((a0.deref.drop 1).hA).ix (2:Int)).hA),a1] [] fun r6 o6=>NP r6<|NP r5<|.test r5.isNil (.done 0 [.v (.pointer none)] []) (NP r6<|.test r6.isNil (.done 0 [.v (.pointer none)] []) (NZ a0<|NZ a0<|nA (a0.deref.drop 1)<|NG ((a0.deref.drop 1).hA) 0 1<|dP (((a0.deref.drop 1).hA).ix (0:Int))<|NZ ((((a0.deref.drop 1).hA).ix (0:Int)).hA)<|NZ ((((a0.deref.drop 1).hA).ix (0:Int)).hA)<|.ai (LK.has .str (((((a0.deref.drop 1).hA).ix (0:Int)).hA).deref.hA)/\1<=(((((a0.deref.drop 1).hA).ix (0:Int)).hA).deref).length)<|.ai (0<=(0:Int)/\(0:Int)<ag ((((((a0.deref.drop 1).hA).ix (0:Int)).hA).deref.hA).toStr))<|.done 0 [.ptr [.v (.int .u8 (bt ((((((a0.deref.drop 1).hA).ix (0:Int)).hA).deref.hA).toStr) 0)),VS (mk []),VI 0,r5,r6]] []))) (.call 151 [a0,VS (mk [42]),VI 3] [] fun r7 o7=>NB r7<|.test r7.toBool (NZ a0<|NZ a0<|nA (a0.deref.drop 1)<|NG ((a0.deref.drop 1).hA) 1 1<|dP (((a0.deref.drop 1).hA).ix (1:Int))<|.call 130 [((((a0.deref.drop 1).hA).ix (1:Int)).hA),a1] [] fun r8 o8=>NP r8<|NZ a0<|NZ a0<|nA (a0.deref.drop 1)<|NG ((a0.deref.drop 1).hA) 2 1<|dP (((a0.deref.drop 1).hA).ix (2:Int))<|.call 130 [((((a0.deref.drop 1).hA).ix (2:Int)).hA),a1] [] fun r9 o9=>NP r9<|NP r8<|.test r8.isNil (.done 0 [.v (.pointer none)] []) (NP r9<|.test r9.isNil (.done 0 [.v (.pointer none)] []) (NZ a0<|NZ a0<|nA (a0.deref.drop 1)<|NG ((a0.deref.drop 1).hA) 0 1<|dP (((a0.deref.drop 1).hA).ix (0:Int))<|NZ ((((a0.deref.drop 1).hA).ix (0:Int)).hA)<|NZ ((((a0.deref.drop 1).hA).ix (0:Int)).hA)<|.ai (LK.has .str (((((a0.deref.drop 1).hA).ix (0:Int)).hA).deref.hA)/\1<=(((((a0.deref.drop 1).hA).ix (0:Int)).hA).deref).length)<|.ai (0<=(0:Int)/\(0:Int)<ag ((((((a0.deref.drop 1).hA).ix (0:Int)).hA).deref.hA).toStr))<|.done 0 [.ptr [.v (.int .u8 (bt ((((((a0.deref.drop 1).hA).ix (0:Int)).hA).deref.hA).toStr) 0)),VS (mk []),VI 0,r8,r9]] []))) (.call 151 [a0,VS (mk [114,101,99]),VI 3] [] fun r10 o10=>NB r10<|.test r10.toBool (NZ a0<|NZ a0<|nA (a0.deref.drop 1)<|NG ((a0.deref.drop 1).hA) 1 1<|dP (((a0.deref.drop 1).hA).ix (1:Int))<|NZ ((((a0.deref.drop 1).hA).ix (1:Int)).hA)<|NZ ((((a0.deref.drop 1).hA).ix (1:Int)).hA)<|.ai (LK.has .str (((((a0.deref.drop 1).hA).ix (1:Int)).hA).deref.hA)/\1<=(((((a0.deref.drop 1).hA).ix (1:Int)).hA).deref).length)<|.call 150 [VS ((((((a0.deref.drop 1).hA).ix (1:Int)).hA).deref.hA).toStr)] [] fun r11 o11=>NB r11<|.test r11.toBool (NZ a0<|NZ a0<|nA (a0.deref.drop 1)<|NG ((a0.deref.drop 1).hA) 2 1<|dP (((a0.deref.drop 1).hA).ix (2:Int))<|.ai (LK.has .sl a1/\cC 1 a1.elems/\((([]:List (List AV)).length)+a1.elems.length)*16<=140737488355328)<|NZ a0<|NZ a0<|nA (a0.deref.drop 1)<|NG ((a0.deref.drop 1).hA) 1 1<|dP (((a0.deref.drop 1).hA).ix (1:Int))<|NZ ((((a0.deref.drop 1).hA).ix (1:Int)).hA)<|NZ ((((a0.deref.drop 1).hA).ix (1:Int)).hA)<|.ai (LK.has .str (((((a0.deref.drop 1).hA).ix (1:Int)).hA).deref.hA)/\1<=(((((a0.deref.drop 1).hA).ix (1:Int)).hA).deref).length)<|.ai (cC 1 [[VS ((((((a0.deref.drop 1).hA).ix (1:Int)).hA).deref.hA).toStr)]]/\(((([]:List (List AV))++a1.elems).length)+([[VS ((((((a0.deref.drop 1).hA).ix (1:Int)).hA).deref.hA).toStr)]]:List (List AV)).length)*16<=140737488355328)<|.call 130 [((((a0.deref.drop 1).hA).ix (2:Int)).hA),.sl ((([]:List (List AV))++a1.elems)++([[VS ((((((a0.deref.drop 1).hA).ix (1:Int)).hA).deref.hA).toStr)]]:List (List AV)))] [] fun r12 o12=>NP r12<|NP r12<|.test r12.isNil (.done 0 [.v (.pointer none)] []) (.done 0 [.ptr [.v (.int .u8 114),VS (mk []),VI 0,r12,.v (.pointer none)]] [])) (.done 0 [.v (.pointer none)] [])) (.done 0 [.v (.pointer none)] [])))))))
theorem Kc(a0:AV)(a1:AV)(ha0:LK.has .ptr a0)(ha1:LK.has .sl a1)(h:di 160 (FP a0 a1) R):an Tryz.prog 130 [a0,a1] [] R :=
 uQ (ah (bB ha0) (ah (bP ha1) aC)) (oQ NO Tryz.f130 h)
def Hn(x0:AV)(x1:AV)(x5:Int):Tree :=
 NP x0<|NL x1<|NI (VI x5)<|.test (decide (x5≥(0:Int))) (NG x1 x5 1<|kK (x1.ix x5)<|NZ x0<|NZ x0<|.ai (LK.has .str (x0.deref.hA)/\1<=x0.deref.length)<|.test (af (((x1.ix x5).hA).toStr)==af ((x0.deref.hA).toStr)) (NL x1<|.done 2 [] [.cells [.v (.int .u8 98),VS (mk []),VI (IntKind.wrap .i64 ((IntKind.wrap .i64 ((x1.elems.length:Int)-1))-x5)),.v (.pointer none),.v (.pointer none)]]) (.done 0 [x0,x1,VI (IntKind.wrap .i64 (x5-1))] [])) (.done 1 [x0] [])
abbrev G6:=cA Tryz.prog 160 KQ F6
theorem MM(x0:AV)(x1:AV)(x5:Int)(h:ka 160 (Hn x0 x1 x5) G6 U):G6 [x0,x1,VI x5] [] U :=
 gQ NO h
def EI(a0:AV):Tree :=
 NZ a0<|NZ a0<|.ai (LK.has (.int .u8) (a0.deref.hA)/\1<=a0.deref.length)<|.test (((a0.deref.hA).toInt)==(43:Int)) (NZ a0<|NZ a0<|dP (a0.deref.drop 3)<|.call 131 [((a0.deref.drop 3).hA)] [] fun r1 o1=>NI r1<|NZ a0<|NZ a0<|dP (a0.deref.drop 4)<|.call 131 [((a0.deref.drop 4).hA)] [] fun r2 o2=>NI r2<|.done 0 [VI (IntKind.wrap .i64 ((IntKind.wrap .i64 (1+r1.toInt))+r2.toInt))] []) (.test (((a0.deref.hA).toInt)==(42:Int)) (NZ a0<|NZ a0<|dP (a0.deref.drop 3)<|.call 131 [((a0.deref.drop 3).hA)] [] fun r3 o3=>NI r3<|NZ a0<|NZ a0<|dP (a0.deref.drop 4)<|.call 131 [((a0.deref.drop 4).hA)] [] fun r4 o4=>NI r4<|.done 0 [VI (IntKind.wrap .i64 ((IntKind.wrap .i64 (1+r3.toInt))+r4.toInt))] []) (.test (((a0.deref.hA).toInt)==(114:Int)) (NZ a0<|NZ a0<|dP (a0.deref.drop 3)<|.call 131 [((a0.deref.drop 3).hA)] [] fun r5 o5=>NI r5<|.done 0 [VI (IntKind.wrap .i64 (2+r5.toInt))] []) (.done 0 [VI 1] [])))
theorem wW(a0:AV)(ha0:LK.has .ptr a0)(h:di 30 (EI a0) R):an Tryz.prog 131 [a0] [] R :=
 uQ (ah (bB ha0) aC) (oQ [] Tryz.f131 h)
def MU(a0_0:Int)(a0_1:Bool):Tree :=
 .call 152 [VI (IntKind.wrap .i64 (a0_0+1))] [] fun r1 o1=>NS r1<|.ai (ag (mk [35])+ag r1.toStr<=9223372036854775807)<|.done 0 [VS (((mk [35]):ByteArray)++r1.toStr)] [.cells [VI (IntKind.wrap .i64 (a0_0+1)),VB a0_1]]
theorem Qt(a0_0:Int)(a0_1:Bool)(h:di 16 (MU a0_0 a0_1) R):an Tryz.prog 132 [.ref 0 0] [.cells [VI a0_0,VB a0_1]] R :=
 an.mY (bw (ca (ah (aA _) (ah (FE _) aC))) cv) (an.up (ah (aA _) aC) (oF [] {mu:=[(0,.one (.obj [.lk (.int .i64),.lk .bool]))],own:=[]} Tryz.f132 h))
def J2(a0_0:Int)(a0_1:Bool)(a1:AV):Tree :=
 .test a0_1 (.done 0 [.ptr [.v (.int .u8 48),VS (mk []),VI 0,.v (.pointer none),.v (.pointer none)]] [.cells [VI a0_0,VB true]]) (.call 131 [a1] [] fun r1 o1=>NI r1<|.test (decide (r1.toInt>(400:Int))) (.done 0 [.ptr [.v (.int .u8 48),VS (mk []),VI 0,.v (.pointer none),.v (.pointer none)]] [.cells [VI a0_0,VB true]]) (.done 0 [a1] [.cells [VI a0_0,VB a0_1]]))
theorem QW(a0_0:Int)(a0_1:Bool)(a1:AV)(ha1:LK.has .ptr a1)(h:di 20 (J2 a0_0 a0_1 a1) R):an Tryz.prog 133 [.ref 0 0,a1] [.cells [VI a0_0,VB a0_1]] R :=
 an.mY (bw (ca (ah (aA _) (ah (FE _) aC))) cv) (an.up (ah (aA _) (ah (bB ha1) aC)) (oF [] {mu:=[(0,.one (.obj [.lk (.int .i64),.lk .bool]))],own:=[]} Tryz.f133 h))
def Dx(a0_0:Int)(a0_1:Bool)(a1:AV)(a2:ByteArray):Tree :=
 .test a0_1 (.done 0 [.ptr [.v (.int .u8 48),VS (mk []),VI 0,.v (.pointer none),.v (.pointer none)]] [.cells [VI a0_0,VB a0_1]]) (NZ a1<|NZ a1<|.ai (LK.has (.int .u8) (a1.deref.hA)/\1<=a1.deref.length)<|.test (((a1.deref.hA).toInt)==(110:Int)) (NZ a1<|NZ a1<|kK (a1.deref.drop 1)<|.test (af (((a1.deref.drop 1).hA).toStr)==af a2) (.done 0 [.ptr [.v (.int .u8 49),VS (mk []),VI 0,.v (.pointer none),.v (.pointer none)]] [.cells [VI a0_0,VB a0_1]]) (.done 0 [.ptr [.v (.int .u8 48),VS (mk []),VI 0,.v (.pointer none),.v (.pointer none)]] [.cells [VI a0_0,VB a0_1]])) (.test (((a1.deref.hA).toInt)==(43:Int)) (NZ a1<|NZ a1<|dP (a1.deref.drop 3)<|.call 134 [.ref 0 0,((a1.deref.drop 3).hA),VS a2] [.cells [VI a0_0,VB a0_1]] fun r1 o1=>.ai ((o1.hO)=.cells (o1.hO).cs)<|.ai (aK [.lk (.int .i64),.lk .bool] ((o1.hO).cs) 0 1 o1.tail)<|NP r1<|NZ a1<|NZ a1<|dP (a1.deref.drop 4)<|.call 134 [.ref 0 0,((a1.deref.drop 4).hA),VS a2] [.cells [VI (((o1.hO).cs.getD 0 .any).toInt),VB (((o1.hO).cs.getD 1 .any).toBool)]] fun r2 o2=>.ai ((o2.hO)=.cells (o2.hO).cs)<|.ai (aK [.lk (.int .i64),.lk .bool] ((o2.hO).cs) 0 1 o2.tail)<|NP r2<|.call 153 [.v (.int .u8 43),r1,r2] [] fun r3 o3=>NP r3<|.call 133 [.ref 0 0,r3] [.cells [VI (((o2.hO).cs.getD 0 .any).toInt),VB (((o2.hO).cs.getD 1 .any).toBool)]] fun r4 o4=>.ai ((o4.hO)=.cells (o4.hO).cs)<|.ai (aK [.lk (.int .i64),.lk .bool] ((o4.hO).cs) 0 1 o4.tail)<|NP r4<|.done 0 [r4] [.cells [VI (((o4.hO).cs.getD 0 .any).toInt),VB (((o4.hO).cs.getD 1 .any).toBool)]]) (.test (((a1.deref.hA).toInt)==(42:Int)) (NZ a1<|NZ a1<|dP (a1.deref.drop 3)<|.call 134 [.ref 0 0,((a1.deref.drop 3).hA),VS a2] [.cells [VI a0_0,VB a0_1]] fun r5 o5=>.ai ((o5.hO)=.cells (o5.hO).cs)<|.ai (aK [.lk (.int .i64),.lk .bool] ((o5.hO).cs) 0 1 o5.tail)<|NP r5<|NZ a1<|NZ a1<|dP (a1.deref.drop 4)<|.call 153 [.v (.int .u8 42),r5,((a1.deref.drop 4).hA)] [] fun r6 o6=>NP r6<|NZ a1<|NZ a1<|dP (a1.deref.drop 3)<|NZ a1<|NZ a1<|dP (a1.deref.drop 4)<|.call 134 [.ref 0 0,((a1.deref.drop 4).hA),VS a2] [.cells [VI (((o5.hO).cs.getD 0 .any).toInt),VB (((o5.hO).cs.getD 1 .any).toBool)]] fun r7 o7=>.ai ((o7.hO)=.cells (o7.hO).cs)<|.ai (aK [.lk (.int .i64),.lk .bool] ((o7.hO).cs) 0 1 o7.tail)<|NP r7<|.call 153 [.v (.int .u8 42),((a1.deref.drop 3).hA),r7] [] fun r8 o8=>NP r8<|.call 153 [.v (.int .u8 43),r6,r8] [] fun r9 o9=>NP r9<|.call 133 [.ref 0 0,r9] [.cells [VI (((o7.hO).cs.getD 0 .any).toInt),VB (((o7.hO).cs.getD 1 .any).toBool)]] fun r10 o10=>.ai ((o10.hO)=.cells (o10.hO).cs)<|.ai (aK [.lk (.int .i64),.lk .bool] ((o10.hO).cs) 0 1 o10.tail)<|NP r10<|.done 0 [r10] [.cells [VI (((o10.hO).cs.getD 0 .any).toInt),VB (((o10.hO).cs.getD 1 .any).toBool)]]) (.test (((a1.deref.hA).toInt)==(114:Int)) (.call 132 [.ref 0 0] [.cells [VI a0_0,VB a0_1]] fun r11 o11=>.ai ((o11.hO)=.cells (o11.hO).cs)<|.ai (aK [.lk (.int .i64),.lk .bool] ((o11.hO).cs) 0 1 o11.tail)<|NS r11<|NZ a1<|NZ a1<|dP (a1.deref.drop 3)<|.call 135 [((a1.deref.drop 3).hA),.ptr [.v (.int .u8 110),VS r11.toStr,VI 0,.v (.pointer none),.v (.pointer none)],VI 0] [] fun r12 o12=>NP r12<|.call 134 [.ref 0 0,r12,VS a2] [.cells [VI (((o11.hO).cs.getD 0 .any).toInt),VB (((o11.hO).cs.getD 1 .any).toBool)]] fun r13 o13=>.ai ((o13.hO)=.cells (o13.hO).cs)<|.ai (aK [.lk (.int .i64),.lk .bool] ((o13.hO).cs) 0 1 o13.tail)<|NP r13<|.call 133 [.ref 0 0,r13] [.cells [VI (((o13.hO).cs.getD 0 .any).toInt),VB (((o13.hO).cs.getD 1 .any).toBool)]] fun r14 o14=>.ai ((o14.hO)=.cells (o14.hO).cs)<|.ai (aK [.lk (.int .i64),.lk .bool] ((o14.hO).cs) 0 1 o14.tail)<|NP r14<|.call 136 [r14,VS r11.toStr,a1] [] fun r15 o15=>NP r15<|.call 134 [.ref 0 0,r12,VS r11.toStr] [.cells [VI (((o14.hO).cs.getD 0 .any).toInt),VB (((o14.hO).cs.getD 1 .any).toBool)]] fun r16 o16=>.ai ((o16.hO)=.cells (o16.hO).cs)<|.ai (aK [.lk (.int .i64),.lk .bool] ((o16.hO).cs) 0 1 o16.tail)<|NP r16<|.call 133 [.ref 0 0,r16] [.cells [VI (((o16.hO).cs.getD 0 .any).toInt),VB (((o16.hO).cs.getD 1 .any).toBool)]] fun r17 o17=>.ai ((o17.hO)=.cells (o17.hO).cs)<|.ai (aK [.lk (.int .i64),.lk .bool] ((o17.hO).cs) 0 1 o17.tail)<|NP r17<|.call 136 [r17,VS r11.toStr,a1] [] fun r18 o18=>NP r18<|.call 153 [.v (.int .u8 42),r18,.ptr [.v (.int .u8 98),VS (mk []),VI 0,.v (.pointer none),.v (.pointer none)]] [] fun r19 o19=>NP r19<|.call 153 [.v (.int .u8 43),r15,r19] [] fun r20 o20=>NP r20<|.call 133 [.ref 0 0,.ptr [.v (.int .u8 114),VS (mk []),VI 0,r20,.v (.pointer none)]] [.cells [VI (((o17.hO).cs.getD 0 .any).toInt),VB (((o17.hO).cs.getD 1 .any).toBool)]] fun r21 o21=>.ai ((o21.hO)=.cells (o21.hO).cs)<|.ai (aK [.lk (.int .i64),.lk .bool] ((o21.hO).cs) 0 1 o21.tail)<|NP r21<|.done 0 [r21] [.cells [VI (((o21.hO).cs.getD 0 .any).toInt),VB (((o21.hO).cs.getD 1 .any).toBool)]]) (.done 0 [.ptr [.v (.int .u8 48),VS (mk []),VI 0,.v (.pointer none),.v (.pointer none)]] [.cells [VI a0_0,VB a0_1]])))))
theorem MA(a0_0:Int)(a0_1:Bool)(a1:AV)(a2:ByteArray)(ha1:LK.has .ptr a1)(h:di 121 (Dx a0_0 a0_1 a1 a2) R):an Tryz.prog 134 [.ref 0 0,a1,VS a2] [.cells [VI a0_0,VB a0_1]] R :=
 an.mY (bw (ca (ah (aA _) (ah (FE _) aC))) cv) (an.up (ah (aA _) (ah (bB ha1) (ah (aA _) aC))) (oF [] {mu:=[(0,.one (.obj [.lk (.int .i64),.lk .bool]))],own:=[]} Tryz.f134 h))
def E6(a0:AV)(a1:AV)(a2:Int):Tree :=
 NZ a0<|NZ a0<|.ai (LK.has (.int .u8) (a0.deref.hA)/\1<=a0.deref.length)<|.test (((a0.deref.hA).toInt)==(98:Int)) (NZ a0<|NZ a0<|.ai (LK.has (.int .i64) ((a0.deref.drop 2).hA)/\1<=(a0.deref.drop 2).length)<|.test ((((a0.deref.drop 2).hA).toInt)==a2) (.done 0 [a1] []) (.done 0 [a0] [])) (.test (((a0.deref.hA).toInt)==(43:Int)) (NZ a0<|NZ a0<|.ai (LK.has (.int .u8) (a0.deref.hA)/\1<=a0.deref.length)<|NZ a0<|NZ a0<|dP (a0.deref.drop 3)<|.call 135 [((a0.deref.drop 3).hA),a1,VI a2] [] fun r1 o1=>NP r1<|NZ a0<|NZ a0<|dP (a0.deref.drop 4)<|.call 135 [((a0.deref.drop 4).hA),a1,VI a2] [] fun r2 o2=>NP r2<|.done 0 [.ptr [.v (.int .u8 ((a0.deref.hA).toInt)),VS (mk []),VI 0,r1,r2]] []) (.test (((a0.deref.hA).toInt)==(42:Int)) (NZ a0<|NZ a0<|.ai (LK.has (.int .u8) (a0.deref.hA)/\1<=a0.deref.length)<|NZ a0<|NZ a0<|dP (a0.deref.drop 3)<|.call 135 [((a0.deref.drop 3).hA),a1,VI a2] [] fun r3 o3=>NP r3<|NZ a0<|NZ a0<|dP (a0.deref.drop 4)<|.call 135 [((a0.deref.drop 4).hA),a1,VI a2] [] fun r4 o4=>NP r4<|.done 0 [.ptr [.v (.int .u8 ((a0.deref.hA).toInt)),VS (mk []),VI 0,r3,r4]] []) (.test (((a0.deref.hA).toInt)==(114:Int)) (NZ a0<|NZ a0<|dP (a0.deref.drop 3)<|.call 135 [((a0.deref.drop 3).hA),a1,VI (IntKind.wrap .i64 (a2+1))] [] fun r5 o5=>NP r5<|.done 0 [.ptr [.v (.int .u8 114),VS (mk []),VI 0,r5,.v (.pointer none)]] []) (.done 0 [a0] []))))
theorem wZ(a0:AV)(a1:AV)(a2:Int)(ha0:LK.has .ptr a0)(ha1:LK.has .ptr a1)(h:di 56 (E6 a0 a1 a2) R):an Tryz.prog 135 [a0,a1,VI a2] [] R :=
 uQ (ah (bB ha0) (ah (bB ha1) (ah (aA _) aC))) (oQ [] Tryz.f135 h)
def EM(a0:AV)(a1:ByteArray)(a2:AV):Tree :=
 NZ a0<|NZ a0<|.ai (LK.has (.int .u8) (a0.deref.hA)/\1<=a0.deref.length)<|.test (((a0.deref.hA).toInt)==(110:Int)) (NZ a0<|NZ a0<|kK (a0.deref.drop 1)<|.test (af (((a0.deref.drop 1).hA).toStr)==af a1) (.done 0 [a2] []) (.done 0 [a0] [])) (.test (((a0.deref.hA).toInt)==(43:Int)) (NZ a0<|NZ a0<|.ai (LK.has (.int .u8) (a0.deref.hA)/\1<=a0.deref.length)<|NZ a0<|NZ a0<|dP (a0.deref.drop 3)<|.call 136 [((a0.deref.drop 3).hA),VS a1,a2] [] fun r1 o1=>NP r1<|NZ a0<|NZ a0<|dP (a0.deref.drop 4)<|.call 136 [((a0.deref.drop 4).hA),VS a1,a2] [] fun r2 o2=>NP r2<|.done 0 [.ptr [.v (.int .u8 ((a0.deref.hA).toInt)),VS (mk []),VI 0,r1,r2]] []) (.test (((a0.deref.hA).toInt)==(42:Int)) (NZ a0<|NZ a0<|.ai (LK.has (.int .u8) (a0.deref.hA)/\1<=a0.deref.length)<|NZ a0<|NZ a0<|dP (a0.deref.drop 3)<|.call 136 [((a0.deref.drop 3).hA),VS a1,a2] [] fun r3 o3=>NP r3<|NZ a0<|NZ a0<|dP (a0.deref.drop 4)<|.call 136 [((a0.deref.drop 4).hA),VS a1,a2] [] fun r4 o4=>NP r4<|.done 0 [.ptr [.v (.int .u8 ((a0.deref.hA).toInt)),VS (mk []),VI 0,r3,r4]] []) (.test (((a0.deref.hA).toInt)==(114:Int)) (NZ a0<|NZ a0<|dP (a0.deref.drop 3)<|.call 136 [((a0.deref.drop 3).hA),VS a1,a2] [] fun r5 o5=>NP r5<|.done 0 [.ptr [.v (.int .u8 114),VS (mk []),VI 0,r5,.v (.pointer none)]] []) (.done 0 [a0] []))))
theorem wS(a0:AV)(a1:ByteArray)(a2:AV)(ha0:LK.has .ptr a0)(ha2:LK.has .ptr a2)(h:di 55 (EM a0 a1 a2) R):an Tryz.prog 136 [a0,VS a1,a2] [] R :=
 uQ (ah (bB ha0) (ah (aA _) (ah (bB ha2) aC))) (oQ [] Tryz.f136 h)
def Oy(a0:AV):Tree :=
 .call 154 [a0] [] fun r1 o1=>NL r1<|.call 155 [a0,.v (.slice none 0 0),.gN 155 [none,some 0,some 1],.ref 0 0,.ref 1 0] [.cells [r1],.cells [VI 0]] fun r2 o2=>.ai ((o2.hO)=.cells (o2.hO).cs)<|.ai (aK [.lk .sl] ((o2.hO).cs) 0 1 o2.tail)<|.ai ((o2.tail.hO)=.cells (o2.tail.hO).cs)<|.ai (aK [.lk (.int .i64)] ((o2.tail.hO).cs) 0 2 o2.tail.tail)<|NS r2<|.done 0 [VS r2.toStr] []
theorem Sf(a0:AV)(ha0:LK.has .ptr a0)(h:di 12 (Oy a0) R):an Tryz.prog 137 [a0] [] R :=
 uQ (ah (bB ha0) aC) (oQ [] Tryz.f137 h)
def LZ(a0:AV):Tree :=
 .call 154 [a0] [] fun r1 o1=>NL r1<|.call 157 [r1,.v (.func (.func 150) #[] #[])] [] fun r2 o2=>NB r2<|.done 0 [VB (!r2.toBool)] []
theorem P0(a0:AV)(ha0:LK.has .ptr a0)(h:di 7 (LZ a0) R):an Tryz.prog 138 [a0] [] R :=
 uQ (ah (bB ha0) aC) (oQ [] Tryz.f138 h)
def HA(a0:AV):Tree :=
 NZ a0<|NZ a0<|.ai (LK.has .str (a0.deref.hA)/\1<=a0.deref.length)<|.test (af ((a0.deref.hA).toStr)==af (mk [117])) (.done 0 [.ptr [.v (.int .u8 117),VS (mk []),.v (.pointer none),.v (.pointer none)]] []) (NZ a0<|NZ a0<|.ai (LK.has .str (a0.deref.hA)/\1<=a0.deref.length)<|.call 158 [VS ((a0.deref.hA).toStr)] [] fun r1 o1=>NB r1<|.test r1.toBool (NZ a0<|NZ a0<|.ai (LK.has .str (a0.deref.hA)/\1<=a0.deref.length)<|.done 0 [.ptr [.v (.int .u8 101),VS ((a0.deref.hA).toStr),.v (.pointer none),.v (.pointer none)]] []) (.call 151 [a0,VS (mk [108]),VI 2] [] fun r2 o2=>NB r2<|.test r2.toBool (NZ a0<|NZ a0<|nA (a0.deref.drop 1)<|NG ((a0.deref.drop 1).hA) 1 1<|dP (((a0.deref.drop 1).hA).ix (1:Int))<|.call 139 [((((a0.deref.drop 1).hA).ix (1:Int)).hA)] [] fun r3 o3=>NP r3<|NP r3<|.test r3.isNil (.done 0 [.v (.pointer none)] []) (NZ a0<|NZ a0<|nA (a0.deref.drop 1)<|NG ((a0.deref.drop 1).hA) 0 1<|dP (((a0.deref.drop 1).hA).ix (0:Int))<|NZ ((((a0.deref.drop 1).hA).ix (0:Int)).hA)<|NZ ((((a0.deref.drop 1).hA).ix (0:Int)).hA)<|.ai (LK.has .str (((((a0.deref.drop 1).hA).ix (0:Int)).hA).deref.hA)/\1<=(((((a0.deref.drop 1).hA).ix (0:Int)).hA).deref).length)<|.ai (0<=(0:Int)/\(0:Int)<ag ((((((a0.deref.drop 1).hA).ix (0:Int)).hA).deref.hA).toStr))<|.done 0 [.ptr [.v (.int .u8 (bt ((((((a0.deref.drop 1).hA).ix (0:Int)).hA).deref.hA).toStr) 0)),VS (mk []),r3,.v (.pointer none)]] [])) (.call 151 [a0,VS (mk [114]),VI 2] [] fun r4 o4=>NB r4<|.test r4.toBool (NZ a0<|NZ a0<|nA (a0.deref.drop 1)<|NG ((a0.deref.drop 1).hA) 1 1<|dP (((a0.deref.drop 1).hA).ix (1:Int))<|.call 139 [((((a0.deref.drop 1).hA).ix (1:Int)).hA)] [] fun r5 o5=>NP r5<|NP r5<|.test r5.isNil (.done 0 [.v (.pointer none)] []) (NZ a0<|NZ a0<|nA (a0.deref.drop 1)<|NG ((a0.deref.drop 1).hA) 0 1<|dP (((a0.deref.drop 1).hA).ix (0:Int))<|NZ ((((a0.deref.drop 1).hA).ix (0:Int)).hA)<|NZ ((((a0.deref.drop 1).hA).ix (0:Int)).hA)<|.ai (LK.has .str (((((a0.deref.drop 1).hA).ix (0:Int)).hA).deref.hA)/\1<=(((((a0.deref.drop 1).hA).ix (0:Int)).hA).deref).length)<|.ai (0<=(0:Int)/\(0:Int)<ag ((((((a0.deref.drop 1).hA).ix (0:Int)).hA).deref.hA).toStr))<|.done 0 [.ptr [.v (.int .u8 (bt ((((((a0.deref.drop 1).hA).ix (0:Int)).hA).deref.hA).toStr) 0)),VS (mk []),r5,.v (.pointer none)]] [])) (.call 151 [a0,VS (mk [102]),VI 2] [] fun r6 o6=>NB r6<|.test r6.toBool (NZ a0<|NZ a0<|nA (a0.deref.drop 1)<|NG ((a0.deref.drop 1).hA) 1 1<|dP (((a0.deref.drop 1).hA).ix (1:Int))<|.call 139 [((((a0.deref.drop 1).hA).ix (1:Int)).hA)] [] fun r7 o7=>NP r7<|NP r7<|.test r7.isNil (.done 0 [.v (.pointer none)] []) (NZ a0<|NZ a0<|nA (a0.deref.drop 1)<|NG ((a0.deref.drop 1).hA) 0 1<|dP (((a0.deref.drop 1).hA).ix (0:Int))<|NZ ((((a0.deref.drop 1).hA).ix (0:Int)).hA)<|NZ ((((a0.deref.drop 1).hA).ix (0:Int)).hA)<|.ai (LK.has .str (((((a0.deref.drop 1).hA).ix (0:Int)).hA).deref.hA)/\1<=(((((a0.deref.drop 1).hA).ix (0:Int)).hA).deref).length)<|.ai (0<=(0:Int)/\(0:Int)<ag ((((((a0.deref.drop 1).hA).ix (0:Int)).hA).deref.hA).toStr))<|.done 0 [.ptr [.v (.int .u8 (bt ((((((a0.deref.drop 1).hA).ix (0:Int)).hA).deref.hA).toStr) 0)),VS (mk []),r7,.v (.pointer none)]] [])) (.call 151 [a0,VS (mk [112]),VI 3] [] fun r8 o8=>NB r8<|.test r8.toBool (NZ a0<|NZ a0<|nA (a0.deref.drop 1)<|NG ((a0.deref.drop 1).hA) 1 1<|dP (((a0.deref.drop 1).hA).ix (1:Int))<|.call 139 [((((a0.deref.drop 1).hA).ix (1:Int)).hA)] [] fun r9 o9=>NP r9<|NZ a0<|NZ a0<|nA (a0.deref.drop 1)<|NG ((a0.deref.drop 1).hA) 2 1<|dP (((a0.deref.drop 1).hA).ix (2:Int))<|.call 139 [((((a0.deref.drop 1).hA).ix (2:Int)).hA)] [] fun r10 o10=>NP r10<|NP r9<|.test r9.isNil (.done 0 [.v (.pointer none)] []) (NP r10<|.test r10.isNil (.done 0 [.v (.pointer none)] []) (.call 109 [r9,r10] [] fun r11 o11=>NP r11<|.done 0 [r11] []))) (.done 0 [.v (.pointer none)] []))))))
theorem JB(a0:AV)(ha0:LK.has .ptr a0)(h:di 85 (HA a0) R):an Tryz.prog 139 [a0] [] R :=
 uQ (ah (bB ha0) aC) (oQ [] Tryz.f139 h)
def GL:LI:={hd:={bS:=[(3,.k .ptr),(10,.k (.int .i64)),(11,.k (.int .i64))]},xs:={bS:=[(3,.k .ptr)]},rt:={},ex:=0}
def L8:Code:=cG (cB Tryz.f141) 3
def JI:List (Nat×LI):=[(3,GL)]
def Gi(a0_0:AV)(a0_1:AV):Tree :=
 NZ a0_0<|NZ a0_0<|.ai (LK.has (.int .i64) ((a0_0.deref.drop 2).hA)/\1<=(a0_0.deref.drop 2).length)<|.loop L8 GL [a0_1,VI (((a0_0.deref.drop 2).hA).toInt),VI 0] [] (fun y1 q1=>NP (y1.hA)<|NZ (y1.hA)<|NZ (y1.hA)<|.ai (LK.has .ptr ((y1.hA).deref.hA)/\1<=((y1.hA).deref).length)<|.done 0 [((y1.hA).deref.hA)] []) (fun y1 q1=>.done 0 [.any] [])
theorem KB(a0_0:AV)(a0_1:AV)(ha0_0:LK.has .ptr a0_0)(ha0_1:LK.has .ptr a0_1)(h:di 22 (Gi a0_0 a0_1) R):an Tryz.prog 141 [.agg [a0_0,a0_1]] [] R :=
 uQ (ah (cb (ah (bB ha0_0) (ah (bB ha0_1) aC))) aC) (oQ JI Tryz.f141 h)
def Ck(x3:AV)(x10:Int)(x11:Int):Tree :=
 NP x3<|NI (VI x10)<|NI (VI x11)<|.test (decide (x11<x10)) (NZ x3<|NZ x3<|dP (x3.deref.drop 1)<|.done 0 [((x3.deref.drop 1).hA),VI x10,VI (IntKind.wrap .i64 (x11+1))] []) (.done 1 [x3] [])
abbrev Db:=cA Tryz.prog 22 L8 GL
theorem Ea(x3:AV)(x10:Int)(x11:Int)(h:ka 22 (Ck x3 x10 x11) Db U):Db [x3,VI x10,VI x11] [] U :=
 gQ JI h
def FR:LI:={hd:={bS:=[(0,.k .str),(1,.k (.int .i64)),(9,.k (.int .i64))],refs:=[(6,6),(8,8)],cq:=[(6,[.lk .str,.lk .sl]),(8,[.lk .str,.lk .sl])]},xs:={bS:=[(0,.k .str),(1,.k (.int .i64)),(9,.k (.int .i64))],refs:=[(6,6),(8,8)],cq:=[(6,[.lk .str,.lk .sl]),(8,[.lk .str,.lk .sl])]},rt:={},ex:=0}
def O0:Code:=cG (cB Tryz.f142) 6
def Gu:LI:={hd:={bS:=[(0,.k .str),(1,.k (.int .i64)),(2,.k (.int .i64))],refs:=[(6,6),(8,8)],cq:=[(6,[.lk .str,.lk .sl]),(8,[.lk .str,.vec 2])]},xs:={},rt:={bS:=[(7,.k (.int .i64))],refs:=[(6,6)],cq:=[(6,[.lk .str,.vec 2])]},ex:=999}
def Ja:Code:=cG (cB Tryz.f142) 12
def Hx:List (Nat×LI):=[(6,FR),(12,Gu)]
def IL(a0:ByteArray)(a1:Int)(a2:Int):Tree :=
 .test (decide (a2>(300:Int))) (.done 0 [.cH [.agg [VS (mk []),.v (.slice none 0 0)],VI (-1)]] []) (.test (decide (a1≥(ag a0:Int))) (.done 0 [.cH [.agg [VS (mk []),.v (.slice none 0 0)],VI (-1)]] []) (.ai (0<=a1/\a1<ag a0)<|.test ((bt a0 a1) != (40:Int)) (.loop O0 FR [VS a0,VI a1,VI a1] [.cells [VS (mk []),.v (.slice none 0 0)],.cells [VS (mk []),.v (.slice none 0 0)]] (fun y2 q2=>NS (y2.hA)<|NI (y2.tail.hA)<|NI (y2.tail.tail.hA)<|.ai ((q2.hO)=.cells (q2.hO).cs)<|.ai (ae [.lk .str,.lk .sl] ((q2.hO).cs) 0 q2.tail)<|.ai (((q2.tail.drop 0).hO)=.cells ((q2.tail.drop 0).hO).cs)<|.ai (ae [.lk .str,.lk .sl] (((q2.tail.drop 0).hO).cs) 0 ((q2.tail.drop 0).tail))<|.ai (0<=((y2.tail.tail.hA).toInt)/\((y2.tail.tail.hA).toInt)<=((y2.tail.hA).toInt)/\((y2.tail.hA).toInt)<=(ag ((y2.hA).toStr):Int))<|.test (af (cn ((y2.hA).toStr) (bL ((y2.tail.tail.hA).toInt)) (bL ((y2.tail.hA).toInt)))==af (mk [])) (.done 0 [.cH [.agg [VS (cn ((y2.hA).toStr) (bL ((y2.tail.tail.hA).toInt)) (bL ((y2.tail.hA).toInt))),((q2.tail.hO).cs.getD 1 .any)],VI (-1)]] []) (.done 0 [.cH [.agg [VS (cn ((y2.hA).toStr) (bL ((y2.tail.tail.hA).toInt)) (bL ((y2.tail.hA).toInt))),((q2.tail.hO).cs.getD 1 .any)],VI ((y2.tail.hA).toInt)]] [])) (fun y2 q2=>.fail)) (.loop Ja Gu [VS a0,VI a1,VI a2] [.cells [VS (mk []),.v (.slice none 0 0)],.cells [VS (mk []),.any],.vec 2 []] (fun y5 q5=>.fail) (fun y5 q5=>NI (y5.hA)<|.ai ((q5.hO)=.cells (q5.hO).cs)<|.ai (ae [.lk .str,.vec 2] ((q5.hO).cs) 0 q5.tail)<|.done 0 [.cH [.agg [VS (((q5.hO).cs.getD 0 .any).toStr),.sl ((q5.tail.hO).es)],VI ((y5.hA).toInt)]] []))))
theorem N2(a0:ByteArray)(a1:Int)(a2:Int)(h:di 87 (IL a0 a1 a2) R):an Tryz.prog 142 [VS a0,VI a1,VI a2] [] R :=
 uQ (ah (aA _) (ah (aA _) (ah (aA _) aC))) (oQ Hx Tryz.f142 h)
def II(x0:ByteArray)(x1:Int)(x9:Int)(o6_0:ByteArray)(o6_1:AV)(o8_0:ByteArray)(o8_1:AV):Tree :=
 NS (VS x0)<|NI (VI x1)<|NI (VI x9)<|.ai (Ob.cells [VS o6_0,o6_1]=.cells [VS o6_0,o6_1])<|.ai (ae [.lk .str,.lk .sl] [VS o6_0,o6_1] 0 [.cells [VS o8_0,o8_1]])<|.ai (Ob.cells [VS o8_0,o8_1]=.cells [VS o8_0,o8_1])<|.ai (ae [.lk .str,.lk .sl] [VS o8_0,o8_1] 0 [])<|.test (decide (x1<(ag x0:Int))) (.ai (0<=x1/\x1<ag x0)<|.call 161 [.v (.int .u8 (bt x0 x1))] [] fun r1 o1=>NB r1<|.test r1.toBool (.done 0 [VS x0,VI (IntKind.wrap .i64 (x1+1)),VI x9] [.cells [VS o6_0,o6_1],.cells [VS o8_0,o8_1]]) (.done 1 [VS x0,VI x1,VI x9] [.cells [VS o6_0,o6_1],.cells [VS o8_0,o8_1]])) (.done 1 [VS x0,VI x1,VI x9] [.cells [VS o6_0,o6_1],.cells [VS o8_0,o8_1]])
abbrev GY:=cA Tryz.prog 87 O0 FR
theorem JT(x0:ByteArray)(x1:Int)(x9:Int)(o6_0:ByteArray)(o6_1:AV)(o8_0:ByteArray)(o8_1:AV)(h:ka 87 (II x0 x1 x9 o6_0 o6_1 o8_0 o8_1) GY U):GY [VS x0,VI x1,VI x9] [.cells [VS o6_0,o6_1],.cells [VS o8_0,o8_1]] U :=
 gQ Hx h
def Kb(x0:ByteArray)(x1:Int)(x2:Int)(o6_0:ByteArray)(o6_1:AV)(o8_0:ByteArray)(o8_1:List (List AV)):Tree :=
 NS (VS x0)<|NI (VI x1)<|NI (VI x2)<|.ai (Ob.cells [VS o6_0,o6_1]=.cells [VS o6_0,o6_1])<|.ai (ae [.lk .str,.lk .sl] [VS o6_0,o6_1] 0 [.cells [VS o8_0,.any],.vec 2 o8_1])<|.ai (Ob.cells [VS o8_0,.any]=.cells [VS o8_0,.any])<|.ai (ae [.lk .str,.vec 2] [VS o8_0,.any] 0 [.vec 2 o8_1])<|.call 142 [VS x0,VI (IntKind.wrap .i64 (x1+1)),VI (IntKind.wrap .i64 (x2+1))] [] fun r1 o1=>NT r1<|.ai ((r1.comp 0)=.agg (r1.comp 0).cs/\(r1.comp 0).cs.length=2/\bI [.str,.sl] ((r1.comp 0).cs) 0)<|NI (r1.comp 1)<|.test (decide (((r1.comp 1).toInt)<(0:Int))) (.done 2 [VI (-1)] [.cells [VS o8_0,.any],.vec 2 o8_1]) (.test (decide (((r1.comp 1).toInt)≥(ag x0:Int))) (.done 2 [VI (-1)] [.cells [VS o8_0,.any],.vec 2 o8_1]) (.ai (cC 2 [[VS (((r1.comp 0).cs.getD 0 .any).toStr),((r1.comp 0).cs.getD 1 .any)]]/\((o8_1.length)+([[VS (((r1.comp 0).cs.getD 0 .any).toStr),((r1.comp 0).cs.getD 1 .any)]]:List (List AV)).length)*40<=140737488355328)<|.ai (0<=((r1.comp 1).toInt)/\((r1.comp 1).toInt)<ag x0)<|.test ((bt x0 ((r1.comp 1).toInt))==(41:Int)) (.done 2 [VI (IntKind.wrap .i64 (((r1.comp 1).toInt)+1))] [.cells [VS o8_0,.any],.vec 2 (o8_1++([[VS (((r1.comp 0).cs.getD 0 .any).toStr),((r1.comp 0).cs.getD 1 .any)]]:List (List AV)))]) (.ai (0<=((r1.comp 1).toInt)/\((r1.comp 1).toInt)<ag x0)<|.test ((bt x0 ((r1.comp 1).toInt)) != (32:Int)) (.done 2 [VI (-1)] [.cells [VS o8_0,.any],.vec 2 (o8_1++([[VS (((r1.comp 0).cs.getD 0 .any).toStr),((r1.comp 0).cs.getD 1 .any)]]:List (List AV)))]) (.done 0 [VS x0,VI ((r1.comp 1).toInt),VI x2] [.cells [VS o6_0,o6_1],.cells [VS o8_0,.any],.vec 2 (o8_1++([[VS (((r1.comp 0).cs.getD 0 .any).toStr),((r1.comp 0).cs.getD 1 .any)]]:List (List AV)))]))))
abbrev Ib:=cA Tryz.prog 87 Ja Gu
theorem Rn(x0:ByteArray)(x1:Int)(x2:Int)(o6_0:ByteArray)(o6_1:AV)(o8_0:ByteArray)(o8_1:List (List AV))(h:ka 87 (Kb x0 x1 x2 o6_0 o6_1 o8_0 o8_1) Ib U):Ib [VS x0,VI x1,VI x2] [.cells [VS o6_0,o6_1],.cells [VS o8_0,.any],.vec 2 o8_1] U :=
 gQ Hx h
def Ka(a0_0:AV)(a0_1:Int):Tree :=
 .call 43 [.ref 0 0,VI 12] [.cells [a0_0,VI a0_1]] fun r1 o1=>.ai ((o1.hO)=.cells (o1.hO).cs)<|.ai (aK [.lk .sl,.lk (.int .i64)] ((o1.hO).cs) 0 1 o1.tail)<|NI r1<|.test (r1.toInt==(0:Int)) (.call 62 [.ref 0 0,.sl [[VS (mk [])],[VS (mk [97])],[VS (mk [40,43,32,49,41])],[VS (mk [40,114,101,99,32,120,32,49,41])],[VS (mk [40,114,101,99,32,116,41])],[VS (mk [40,43,32,32,49,32,49,41])],[VS (mk [40,42,32,49,32,49,32,49,41])],[VS (mk [116,49,48,48])],[VS (mk [120,32,49])]]] [.cells [((o1.hO).cs.getD 0 .any),VI (((o1.hO).cs.getD 1 .any).toInt)]] fun r2 o2=>.ai ((o2.hO)=.cells (o2.hO).cs)<|.ai (aK [.lk .sl,.lk (.int .i64)] ((o2.hO).cs) 0 1 o2.tail)<|NS r2<|.done 0 [VS r2.toStr] [.cells [((o2.hO).cs.getD 0 .any),VI (((o2.hO).cs.getD 1 .any).toInt)]]) (.test (r1.toInt==(1:Int)) (.call 75 [.ref 0 0] [.cells [((o1.hO).cs.getD 0 .any),VI (((o1.hO).cs.getD 1 .any).toInt)]] fun r3 o3=>.ai ((o3.hO)=.cells (o3.hO).cs)<|.ai (aK [.lk .sl,.lk (.int .i64)] ((o3.hO).cs) 0 1 o3.tail)<|NS r3<|.done 0 [VS r3.toStr] [.cells [((o3.hO).cs.getD 0 .any),VI (((o3.hO).cs.getD 1 .any).toInt)]]) (.test (r1.toInt==(2:Int)) (.call 75 [.ref 0 0] [.cells [((o1.hO).cs.getD 0 .any),VI (((o1.hO).cs.getD 1 .any).toInt)]] fun r4 o4=>.ai ((o4.hO)=.cells (o4.hO).cs)<|.ai (aK [.lk .sl,.lk (.int .i64)] ((o4.hO).cs) 0 1 o4.tail)<|NS r4<|.done 0 [VS r4.toStr] [.cells [((o4.hO).cs.getD 0 .any),VI (((o4.hO).cs.getD 1 .any).toInt)]]) (.test (r1.toInt==(3:Int)) (.call 75 [.ref 0 0] [.cells [((o1.hO).cs.getD 0 .any),VI (((o1.hO).cs.getD 1 .any).toInt)]] fun r5 o5=>.ai ((o5.hO)=.cells (o5.hO).cs)<|.ai (aK [.lk .sl,.lk (.int .i64)] ((o5.hO).cs) 0 1 o5.tail)<|NS r5<|.done 0 [VS r5.toStr] [.cells [((o5.hO).cs.getD 0 .any),VI (((o5.hO).cs.getD 1 .any).toInt)]]) (.test (r1.toInt==(4:Int)) (.call 144 [.ref 0 0,.sl [[VS (mk [116])],[VS (mk [116,49])]],VI 2] [.cells [((o1.hO).cs.getD 0 .any),VI (((o1.hO).cs.getD 1 .any).toInt)]] fun r6 o6=>.ai ((o6.hO)=.cells (o6.hO).cs)<|.ai (aK [.lk .sl,.lk (.int .i64)] ((o6.hO).cs) 0 1 o6.tail)<|NS r6<|.done 0 [VS r6.toStr] [.cells [((o6.hO).cs.getD 0 .any),VI (((o6.hO).cs.getD 1 .any).toInt)]]) (.call 144 [.ref 0 0,.sl [],VI 3] [.cells [((o1.hO).cs.getD 0 .any),VI (((o1.hO).cs.getD 1 .any).toInt)]] fun r7 o7=>.ai ((o7.hO)=.cells (o7.hO).cs)<|.ai (aK [.lk .sl,.lk (.int .i64)] ((o7.hO).cs) 0 1 o7.tail)<|NS r7<|.done 0 [VS r7.toStr] [.cells [((o7.hO).cs.getD 0 .any),VI (((o7.hO).cs.getD 1 .any).toInt)]])))))
theorem RO(a0_0:AV)(a0_1:Int)(ha0_0:LK.has .sl a0_0)(h:di 24 (Ka a0_0 a0_1) R):an Tryz.prog 143 [.ref 0 0] [.cells [a0_0,VI a0_1]] R :=
 an.mY (bw (ca (ah (bP ha0_0) (ah (aA _) aC))) cv) (an.up (ah (aA _) aC) (oF [] {mu:=[(0,.one (.obj [.lk .sl,.lk (.int .i64)]))],own:=[]} Tryz.f143 h))
def FX(a0_0:AV)(a0_1:Int)(a1:AV)(a2:Int):Tree :=
 .test (decide (a2<=(0:Int))) (NL a1<|.test (decide ((a1.elems.length:Int)>(0:Int))) (.call 43 [.ref 0 0,VI 3] [.cells [a0_0,VI a0_1]] fun r1 o1=>.ai ((o1.hO)=.cells (o1.hO).cs)<|.ai (aK [.lk .sl,.lk (.int .i64)] ((o1.hO).cs) 0 1 o1.tail)<|NI r1<|.test (r1.toInt==(0:Int)) (NL a1<|.call 43 [.ref 0 0,VI (a1.elems.length:Int)] [.cells [((o1.hO).cs.getD 0 .any),VI (((o1.hO).cs.getD 1 .any).toInt)]] fun r2 o2=>.ai ((o2.hO)=.cells (o2.hO).cs)<|.ai (aK [.lk .sl,.lk (.int .i64)] ((o2.hO).cs) 0 1 o2.tail)<|NI r2<|.ai (LK.has .sl a1/\0<=r2.toInt/\r2.toInt<a1.elems.length/\(a1.elems.getD r2.toInt.toNat []).length=1)<|kK (a1.elems.getD r2.toInt.toNat [])<|.done 0 [VS (((a1.elems.getD r2.toInt.toNat []).hA).toStr)] [.cells [((o2.hO).cs.getD 0 .any),VI (((o2.hO).cs.getD 1 .any).toInt)]]) (.call 62 [.ref 0 0,.sl [[VS (mk [120])],[VS (mk [49])],[VS (mk [120])],[VS (mk [121])],[VS (mk [48])],[VS (mk [49])]]] [.cells [((o1.hO).cs.getD 0 .any),VI (((o1.hO).cs.getD 1 .any).toInt)]] fun r3 o3=>.ai ((o3.hO)=.cells (o3.hO).cs)<|.ai (aK [.lk .sl,.lk (.int .i64)] ((o3.hO).cs) 0 1 o3.tail)<|NS r3<|.done 0 [VS r3.toStr] [.cells [((o3.hO).cs.getD 0 .any),VI (((o3.hO).cs.getD 1 .any).toInt)]])) (.call 62 [.ref 0 0,.sl [[VS (mk [120])],[VS (mk [49])],[VS (mk [120])],[VS (mk [121])],[VS (mk [48])],[VS (mk [49])]]] [.cells [a0_0,VI a0_1]] fun r4 o4=>.ai ((o4.hO)=.cells (o4.hO).cs)<|.ai (aK [.lk .sl,.lk (.int .i64)] ((o4.hO).cs) 0 1 o4.tail)<|NS r4<|.done 0 [VS r4.toStr] [.cells [((o4.hO).cs.getD 0 .any),VI (((o4.hO).cs.getD 1 .any).toInt)]])) (.call 43 [.ref 0 0,VI 4] [.cells [a0_0,VI a0_1]] fun r5 o5=>.ai ((o5.hO)=.cells (o5.hO).cs)<|.ai (aK [.lk .sl,.lk (.int .i64)] ((o5.hO).cs) 0 1 o5.tail)<|NI r5<|.test (r5.toInt==(0:Int)) (NL a1<|.test (decide ((a1.elems.length:Int)>(0:Int))) (.call 43 [.ref 0 0,VI 3] [.cells [((o5.hO).cs.getD 0 .any),VI (((o5.hO).cs.getD 1 .any).toInt)]] fun r6 o6=>.ai ((o6.hO)=.cells (o6.hO).cs)<|.ai (aK [.lk .sl,.lk (.int .i64)] ((o6.hO).cs) 0 1 o6.tail)<|NI r6<|.test (r6.toInt==(0:Int)) (NL a1<|.call 43 [.ref 0 0,VI (a1.elems.length:Int)] [.cells [((o6.hO).cs.getD 0 .any),VI (((o6.hO).cs.getD 1 .any).toInt)]] fun r7 o7=>.ai ((o7.hO)=.cells (o7.hO).cs)<|.ai (aK [.lk .sl,.lk (.int .i64)] ((o7.hO).cs) 0 1 o7.tail)<|NI r7<|.ai (LK.has .sl a1/\0<=r7.toInt/\r7.toInt<a1.elems.length/\(a1.elems.getD r7.toInt.toNat []).length=1)<|kK (a1.elems.getD r7.toInt.toNat [])<|.done 0 [VS (((a1.elems.getD r7.toInt.toNat []).hA).toStr)] [.cells [((o7.hO).cs.getD 0 .any),VI (((o7.hO).cs.getD 1 .any).toInt)]]) (.call 62 [.ref 0 0,.sl [[VS (mk [120])],[VS (mk [49])],[VS (mk [120])],[VS (mk [121])],[VS (mk [48])],[VS (mk [49])]]] [.cells [((o6.hO).cs.getD 0 .any),VI (((o6.hO).cs.getD 1 .any).toInt)]] fun r8 o8=>.ai ((o8.hO)=.cells (o8.hO).cs)<|.ai (aK [.lk .sl,.lk (.int .i64)] ((o8.hO).cs) 0 1 o8.tail)<|NS r8<|.done 0 [VS r8.toStr] [.cells [((o8.hO).cs.getD 0 .any),VI (((o8.hO).cs.getD 1 .any).toInt)]])) (.call 62 [.ref 0 0,.sl [[VS (mk [120])],[VS (mk [49])],[VS (mk [120])],[VS (mk [121])],[VS (mk [48])],[VS (mk [49])]]] [.cells [((o5.hO).cs.getD 0 .any),VI (((o5.hO).cs.getD 1 .any).toInt)]] fun r9 o9=>.ai ((o9.hO)=.cells (o9.hO).cs)<|.ai (aK [.lk .sl,.lk (.int .i64)] ((o9.hO).cs) 0 1 o9.tail)<|NS r9<|.done 0 [VS r9.toStr] [.cells [((o9.hO).cs.getD 0 .any),VI (((o9.hO).cs.getD 1 .any).toInt)]])) (.call 43 [.ref 0 0,VI 5] [.cells [((o5.hO).cs.getD 0 .any),VI (((o5.hO).cs.getD 1 .any).toInt)]] fun r10 o10=>.ai ((o10.hO)=.cells (o10.hO).cs)<|.ai (aK [.lk .sl,.lk (.int .i64)] ((o10.hO).cs) 0 1 o10.tail)<|NI r10<|.test (r10.toInt==(0:Int)) (.call 144 [.ref 0 0,a1,VI (IntKind.wrap .i64 (a2-1))] [.cells [((o10.hO).cs.getD 0 .any),VI (((o10.hO).cs.getD 1 .any).toInt)]] fun r11 o11=>.ai ((o11.hO)=.cells (o11.hO).cs)<|.ai (aK [.lk .sl,.lk (.int .i64)] ((o11.hO).cs) 0 1 o11.tail)<|NS r11<|.ai (ag (mk [40,43,32])+ag r11.toStr<=9223372036854775807)<|.ai (ag (((mk [40,43,32]):ByteArray)++r11.toStr)+ag (mk [32])<=9223372036854775807)<|.call 144 [.ref 0 0,a1,VI (IntKind.wrap .i64 (a2-1))] [.cells [((o11.hO).cs.getD 0 .any),VI (((o11.hO).cs.getD 1 .any).toInt)]] fun r12 o12=>.ai ((o12.hO)=.cells (o12.hO).cs)<|.ai (aK [.lk .sl,.lk (.int .i64)] ((o12.hO).cs) 0 1 o12.tail)<|NS r12<|.ai (ag (((((mk [40,43,32]):ByteArray)++r11.toStr):ByteArray)++(mk [32]))+ag r12.toStr<=9223372036854775807)<|.ai (ag (((((((mk [40,43,32]):ByteArray)++r11.toStr):ByteArray)++(mk [32])):ByteArray)++r12.toStr)+ag (mk [41])<=9223372036854775807)<|.done 0 [VS (((((((((mk [40,43,32]):ByteArray)++r11.toStr):ByteArray)++(mk [32])):ByteArray)++r12.toStr):ByteArray)++(mk [41]))] [.cells [((o12.hO).cs.getD 0 .any),VI (((o12.hO).cs.getD 1 .any).toInt)]]) (.test (r10.toInt==(1:Int)) (.call 144 [.ref 0 0,a1,VI (IntKind.wrap .i64 (a2-1))] [.cells [((o10.hO).cs.getD 0 .any),VI (((o10.hO).cs.getD 1 .any).toInt)]] fun r13 o13=>.ai ((o13.hO)=.cells (o13.hO).cs)<|.ai (aK [.lk .sl,.lk (.int .i64)] ((o13.hO).cs) 0 1 o13.tail)<|NS r13<|.ai (ag (mk [40,43,32])+ag r13.toStr<=9223372036854775807)<|.ai (ag (((mk [40,43,32]):ByteArray)++r13.toStr)+ag (mk [32])<=9223372036854775807)<|.call 144 [.ref 0 0,a1,VI (IntKind.wrap .i64 (a2-1))] [.cells [((o13.hO).cs.getD 0 .any),VI (((o13.hO).cs.getD 1 .any).toInt)]] fun r14 o14=>.ai ((o14.hO)=.cells (o14.hO).cs)<|.ai (aK [.lk .sl,.lk (.int .i64)] ((o14.hO).cs) 0 1 o14.tail)<|NS r14<|.ai (ag (((((mk [40,43,32]):ByteArray)++r13.toStr):ByteArray)++(mk [32]))+ag r14.toStr<=9223372036854775807)<|.ai (ag (((((((mk [40,43,32]):ByteArray)++r13.toStr):ByteArray)++(mk [32])):ByteArray)++r14.toStr)+ag (mk [41])<=9223372036854775807)<|.done 0 [VS (((((((((mk [40,43,32]):ByteArray)++r13.toStr):ByteArray)++(mk [32])):ByteArray)++r14.toStr):ByteArray)++(mk [41]))] [.cells [((o14.hO).cs.getD 0 .any),VI (((o14.hO).cs.getD 1 .any).toInt)]]) (.test (r10.toInt==(2:Int)) (.call 144 [.ref 0 0,a1,VI (IntKind.wrap .i64 (a2-1))] [.cells [((o10.hO).cs.getD 0 .any),VI (((o10.hO).cs.getD 1 .any).toInt)]] fun r15 o15=>.ai ((o15.hO)=.cells (o15.hO).cs)<|.ai (aK [.lk .sl,.lk (.int .i64)] ((o15.hO).cs) 0 1 o15.tail)<|NS r15<|.ai (ag (mk [40,42,32])+ag r15.toStr<=9223372036854775807)<|.ai (ag (((mk [40,42,32]):ByteArray)++r15.toStr)+ag (mk [32])<=9223372036854775807)<|.call 144 [.ref 0 0,a1,VI (IntKind.wrap .i64 (a2-1))] [.cells [((o15.hO).cs.getD 0 .any),VI (((o15.hO).cs.getD 1 .any).toInt)]] fun r16 o16=>.ai ((o16.hO)=.cells (o16.hO).cs)<|.ai (aK [.lk .sl,.lk (.int .i64)] ((o16.hO).cs) 0 1 o16.tail)<|NS r16<|.ai (ag (((((mk [40,42,32]):ByteArray)++r15.toStr):ByteArray)++(mk [32]))+ag r16.toStr<=9223372036854775807)<|.ai (ag (((((((mk [40,42,32]):ByteArray)++r15.toStr):ByteArray)++(mk [32])):ByteArray)++r16.toStr)+ag (mk [41])<=9223372036854775807)<|.done 0 [VS (((((((((mk [40,42,32]):ByteArray)++r15.toStr):ByteArray)++(mk [32])):ByteArray)++r16.toStr):ByteArray)++(mk [41]))] [.cells [((o16.hO).cs.getD 0 .any),VI (((o16.hO).cs.getD 1 .any).toInt)]]) (.test (r10.toInt==(3:Int)) (.call 144 [.ref 0 0,a1,VI (IntKind.wrap .i64 (a2-1))] [.cells [((o10.hO).cs.getD 0 .any),VI (((o10.hO).cs.getD 1 .any).toInt)]] fun r17 o17=>.ai ((o17.hO)=.cells (o17.hO).cs)<|.ai (aK [.lk .sl,.lk (.int .i64)] ((o17.hO).cs) 0 1 o17.tail)<|NS r17<|.ai (ag (mk [40,42,32])+ag r17.toStr<=9223372036854775807)<|.ai (ag (((mk [40,42,32]):ByteArray)++r17.toStr)+ag (mk [32])<=9223372036854775807)<|.call 144 [.ref 0 0,a1,VI (IntKind.wrap .i64 (a2-1))] [.cells [((o17.hO).cs.getD 0 .any),VI (((o17.hO).cs.getD 1 .any).toInt)]] fun r18 o18=>.ai ((o18.hO)=.cells (o18.hO).cs)<|.ai (aK [.lk .sl,.lk (.int .i64)] ((o18.hO).cs) 0 1 o18.tail)<|NS r18<|.ai (ag (((((mk [40,42,32]):ByteArray)++r17.toStr):ByteArray)++(mk [32]))+ag r18.toStr<=9223372036854775807)<|.ai (ag (((((((mk [40,42,32]):ByteArray)++r17.toStr):ByteArray)++(mk [32])):ByteArray)++r18.toStr)+ag (mk [41])<=9223372036854775807)<|.done 0 [VS (((((((((mk [40,42,32]):ByteArray)++r17.toStr):ByteArray)++(mk [32])):ByteArray)++r18.toStr):ByteArray)++(mk [41]))] [.cells [((o18.hO).cs.getD 0 .any),VI (((o18.hO).cs.getD 1 .any).toInt)]]) (.call 62 [.ref 0 0,.sl [[VS (mk [116])],[VS (mk [116,49])],[VS (mk [116,48])]]] [.cells [((o10.hO).cs.getD 0 .any),VI (((o10.hO).cs.getD 1 .any).toInt)]] fun r19 o19=>.ai ((o19.hO)=.cells (o19.hO).cs)<|.ai (aK [.lk .sl,.lk (.int .i64)] ((o19.hO).cs) 0 1 o19.tail)<|NS r19<|.ai (ag (mk [40,114,101,99,32])+ag r19.toStr<=9223372036854775807)<|.ai (ag (((mk [40,114,101,99,32]):ByteArray)++r19.toStr)+ag (mk [32,40,43,32,49,32])<=9223372036854775807)<|.call 52 [a1,VS r19.toStr] [] fun r20 o20=>.ai (r20=.vec 0/\(o20.hO)=.vec 1 (o20.hO).es)<|.ai (∀x,x∈o20->fg x)<|.call 144 [.ref 0 0,.sl ((o20.hO).es),VI (IntKind.wrap .i64 (a2-1))] [.cells [((o19.hO).cs.getD 0 .any),VI (((o19.hO).cs.getD 1 .any).toInt)]] fun r21 o21=>.ai ((o21.hO)=.cells (o21.hO).cs)<|.ai (aK [.lk .sl,.lk (.int .i64)] ((o21.hO).cs) 0 1 o21.tail)<|NS r21<|.ai (ag (((((mk [40,114,101,99,32]):ByteArray)++r19.toStr):ByteArray)++(mk [32,40,43,32,49,32]))+ag r21.toStr<=9223372036854775807)<|.ai (ag (((((((mk [40,114,101,99,32]):ByteArray)++r19.toStr):ByteArray)++(mk [32,40,43,32,49,32])):ByteArray)++r21.toStr)+ag (mk [41,41])<=9223372036854775807)<|.done 0 [VS (((((((((mk [40,114,101,99,32]):ByteArray)++r19.toStr):ByteArray)++(mk [32,40,43,32,49,32])):ByteArray)++r21.toStr):ByteArray)++(mk [41,41]))] [.cells [((o21.hO).cs.getD 0 .any),VI (((o21.hO).cs.getD 1 .any).toInt)]]))))))
theorem Ki(a0_0:AV)(a0_1:Int)(a1:AV)(a2:Int)(ha1:LK.has .sl a1)(ha0_0:LK.has .sl a0_0)(h:di 82 (FX a0_0 a0_1 a1 a2) R):an Tryz.prog 144 [.ref 0 0,a1,VI a2] [.cells [a0_0,VI a0_1]] R :=
 an.mY (bw (ca (ah (bP ha0_0) (ah (aA _) aC))) cv) (an.up (ah (aA _) (ah (bP ha1) (ah (aA _) aC))) (oF [] {mu:=[(0,.one (.obj [.lk .sl,.lk (.int .i64)]))],own:=[]} Tryz.f144 h))
def Bm(a0_0:ByteArray)(a0_1:AV)(a1:ByteArray):Tree :=
 .test (!(af a0_0==af (mk []))) (.test (af a0_0==af a1) (.done 0 [VI 1] []) (.done 0 [VI 0] [])) (.call 86 [.agg [VS a0_0,a0_1]] [] fun r1 o1=>NS r1<|.test (af r1.toStr==af (mk [114,101,99])) (NG a0_1 1 2<|kK (a0_1.ix (1:Int))<|.test (af (((a0_1.ix (1:Int)).hA).toStr)==af a1) (.done 0 [VI 0] []) (NG a0_1 2 2<|NE (a0_1.ix (2:Int))<|.call 145 [.agg [VS (((a0_1.ix (2:Int)).getD 0 .any).toStr),((a0_1.ix (2:Int)).getD 1 .any)],VS a1] [] fun r2 o2=>NI r2<|.done 0 [VI r2.toInt] [])) (NG a0_1 1 2<|NE (a0_1.ix (1:Int))<|.call 145 [.agg [VS (((a0_1.ix (1:Int)).getD 0 .any).toStr),((a0_1.ix (1:Int)).getD 1 .any)],VS a1] [] fun r3 o3=>NI r3<|NG a0_1 2 2<|NE (a0_1.ix (2:Int))<|.call 145 [.agg [VS (((a0_1.ix (2:Int)).getD 0 .any).toStr),((a0_1.ix (2:Int)).getD 1 .any)],VS a1] [] fun r4 o4=>NI r4<|.done 0 [VI (IntKind.wrap .i64 (r3.toInt+r4.toInt))] []))
theorem DK(a0_0:ByteArray)(a0_1:AV)(a1:ByteArray)(ha0_1:LK.has .sl a0_1)(h:di 41 (Bm a0_0 a0_1 a1) R):an Tryz.prog 145 [.agg [VS a0_0,a0_1],VS a1] [] R :=
 uQ (ah (cb (ah (aA _) (ah (bP ha0_1) aC))) (ah (aA _) aC)) (oQ [] Tryz.f145 h)
def AR(a0_0:ByteArray)(a0_1:AV)(a1:ByteArray)(a2_0:ByteArray)(a2_1:AV):Tree :=
 .test (!(af a0_0==af (mk []))) (.test (af a0_0==af a1) (.done 0 [.agg [VS a2_0,a2_1]] []) (.done 0 [.agg [VS a0_0,a0_1]] [])) (.call 86 [.agg [VS a0_0,a0_1]] [] fun r1 o1=>NS r1<|.test (af r1.toStr==af (mk [114,101,99])) (NG a0_1 1 2<|kK (a0_1.ix (1:Int))<|.test (af (((a0_1.ix (1:Int)).hA).toStr)==af a1) (.done 0 [.agg [VS a0_0,a0_1]] []) (NG a0_1 1 2<|NE (a0_1.ix (1:Int))<|NG a0_1 2 2<|NE (a0_1.ix (2:Int))<|.call 146 [.agg [VS (((a0_1.ix (2:Int)).getD 0 .any).toStr),((a0_1.ix (2:Int)).getD 1 .any)],VS a1,.agg [VS a2_0,a2_1]] [] fun r2 o2=>NA r2<|.call 81 [VS (mk [114,101,99]),.sl [[VS (((a0_1.ix (1:Int)).getD 0 .any).toStr),((a0_1.ix (1:Int)).getD 1 .any)],[VS ((r2.cs.getD 0 .any).toStr),(r2.cs.getD 1 .any)]]] [] fun r3 o3=>NA r3<|.done 0 [.agg [VS ((r3.cs.getD 0 .any).toStr),(r3.cs.getD 1 .any)]] [])) (.call 86 [.agg [VS a0_0,a0_1]] [] fun r4 o4=>NS r4<|NG a0_1 1 2<|NE (a0_1.ix (1:Int))<|.call 146 [.agg [VS (((a0_1.ix (1:Int)).getD 0 .any).toStr),((a0_1.ix (1:Int)).getD 1 .any)],VS a1,.agg [VS a2_0,a2_1]] [] fun r5 o5=>NA r5<|NG a0_1 2 2<|NE (a0_1.ix (2:Int))<|.call 146 [.agg [VS (((a0_1.ix (2:Int)).getD 0 .any).toStr),((a0_1.ix (2:Int)).getD 1 .any)],VS a1,.agg [VS a2_0,a2_1]] [] fun r6 o6=>NA r6<|.call 81 [VS r4.toStr,.sl [[VS ((r5.cs.getD 0 .any).toStr),(r5.cs.getD 1 .any)],[VS ((r6.cs.getD 0 .any).toStr),(r6.cs.getD 1 .any)]]] [] fun r7 o7=>NA r7<|.done 0 [.agg [VS ((r7.cs.getD 0 .any).toStr),(r7.cs.getD 1 .any)]] []))
theorem CV(a0_0:ByteArray)(a0_1:AV)(a1:ByteArray)(a2_0:ByteArray)(a2_1:AV)(ha0_1:LK.has .sl a0_1)(ha2_1:LK.has .sl a2_1)(h:di 58 (AR a0_0 a0_1 a1 a2_0 a2_1) R):an Tryz.prog 146 [.agg [VS a0_0,a0_1],VS a1,.agg [VS a2_0,a2_1]] [] R :=
 uQ (ah (cb (ah (aA _) (ah (bP ha0_1) aC))) (ah (aA _) (ah (cb (ah (aA _) (ah (bP ha2_1) aC))) aC))) (oQ [] Tryz.f146 h)
def HX:LI:={hd:={bS:=[(17,.k (.int .i64))],refs:=[(4,4),(12,12),(14,14)],cq:=[(4,[.lk .str,.lk .sl]),(12,[.lk .str,.lk .sl]),(14,[.lk .str,.lk .sl])],eM:=[(16,1)]},xs:={bS:=[(17,.k (.int .i64))],refs:=[(4,4),(12,12),(14,14)],cq:=[(4,[.lk .str,.lk .sl]),(12,[.lk .str,.lk .sl]),(14,[.lk .str,.lk .sl])]},rt:={},ex:=0}
def Kd:Code:=cG (cB Tryz.f147) 13
def LY:List (Nat×LI):=[(13,HX)]
def LM(a0_0:ByteArray)(a0_1:AV)(a1:ByteArray):Tree :=
 .call 65 [.agg [VS a0_0,a0_1],.sl [[VS a1,.v (.slice none 0 0)]]] [] fun r1 o1=>NA r1<|NG (r1.cs.getD 1 .any) 1 2<|kK ((r1.cs.getD 1 .any).ix (1:Int))<|NG (r1.cs.getD 1 .any) 2 2<|NE ((r1.cs.getD 1 .any).ix (2:Int))<|.call 122 [.agg [VS ((((r1.cs.getD 1 .any).ix (2:Int)).getD 0 .any).toStr),(((r1.cs.getD 1 .any).ix (2:Int)).getD 1 .any)],VS a1] [] fun r2 o2=>NT r2<|.ai ((r2.comp 0)=.agg (r2.comp 0).cs/\(r2.comp 0).cs.length=2/\bI [.str,.sl] ((r2.comp 0).cs) 0)<|NB (r2.comp 1)<|NG (r1.cs.getD 1 .any) 2 2<|NE ((r1.cs.getD 1 .any).ix (2:Int))<|.call 122 [.agg [VS ((((r1.cs.getD 1 .any).ix (2:Int)).getD 0 .any).toStr),(((r1.cs.getD 1 .any).ix (2:Int)).getD 1 .any)],VS ((((r1.cs.getD 1 .any).ix (1:Int)).hA).toStr)] [] fun r3 o3=>NT r3<|.ai ((r3.comp 0)=.agg (r3.comp 0).cs/\(r3.comp 0).cs.length=2/\bI [.str,.sl] ((r3.comp 0).cs) 0)<|NB (r3.comp 1)<|.test (!((r2.comp 1).toBool)) (.done 0 [.cH [.agg [VS ((r1.cs.getD 0 .any).toStr),(r1.cs.getD 1 .any)],VB false]] []) (.test (!((r3.comp 1).toBool)) (.done 0 [.cH [.agg [VS ((r1.cs.getD 0 .any).toStr),(r1.cs.getD 1 .any)],VB false]] []) (.call 123 [.agg [VS (((r2.comp 0).cs.getD 0 .any).toStr),((r2.comp 0).cs.getD 1 .any)],VS ((((r1.cs.getD 1 .any).ix (1:Int)).hA).toStr),.agg [VS ((r1.cs.getD 0 .any).toStr),(r1.cs.getD 1 .any)]] [] fun r4 o4=>NT r4<|.ai ((r4.comp 0)=.agg (r4.comp 0).cs/\(r4.comp 0).cs.length=2/\bI [.str,.sl] ((r4.comp 0).cs) 0)<|NB (r4.comp 1)<|.call 123 [.agg [VS (((r3.comp 0).cs.getD 0 .any).toStr),((r3.comp 0).cs.getD 1 .any)],VS ((((r1.cs.getD 1 .any).ix (1:Int)).hA).toStr),.agg [VS ((r1.cs.getD 0 .any).toStr),(r1.cs.getD 1 .any)]] [] fun r5 o5=>NT r5<|.ai ((r5.comp 0)=.agg (r5.comp 0).cs/\(r5.comp 0).cs.length=2/\bI [.str,.sl] ((r5.comp 0).cs) 0)<|NB (r5.comp 1)<|.test (!((r4.comp 1).toBool)) (.done 0 [.cH [.agg [VS ((r1.cs.getD 0 .any).toStr),(r1.cs.getD 1 .any)],VB false]] []) (.test (!((r5.comp 1).toBool)) (.done 0 [.cH [.agg [VS ((r1.cs.getD 0 .any).toStr),(r1.cs.getD 1 .any)],VB false]] []) (.call 84 [.agg [VS (((r5.comp 0).cs.getD 0 .any).toStr),((r5.comp 0).cs.getD 1 .any)],.sl [],.vec 0] [.vec 1 []] fun r6 o6=>.ai (r6=.vec 1/\(o6.tail.hO)=.vec 1 (o6.tail.hO).es)<|.call 84 [.agg [VS (((r4.comp 0).cs.getD 0 .any).toStr),((r4.comp 0).cs.getD 1 .any)],.sl [],.vec 0] [.vec 1 ((o6.tail.hO).es)] fun r7 o7=>.ai (r7=.vec 1/\(o7.tail.hO)=.vec 1 (o7.tail.hO).es)<|.loop Kd HX [VI 0] [.cells [VS (mk []),.v (.slice none 0 0)],.cells [VS (((r4.comp 0).cs.getD 0 .any).toStr),((r4.comp 0).cs.getD 1 .any)],.cells [VS (((r5.comp 0).cs.getD 0 .any).toStr),((r5.comp 0).cs.getD 1 .any)],.vec 1 ((o7.tail.hO).es)] (fun y10 q10=>NI (y10.hA)<|.ai ((q10.hO)=.cells (q10.hO).cs)<|.ai (ae [.lk .str,.lk .sl] ((q10.hO).cs) 0 q10.tail)<|.ai (((q10.tail.drop 0).hO)=.cells ((q10.tail.drop 0).hO).cs)<|.ai (ae [.lk .str,.lk .sl] (((q10.tail.drop 0).hO).cs) 0 ((q10.tail.drop 0).tail))<|.ai ((((q10.tail.drop 0).tail.drop 0).hO)=.cells (((q10.tail.drop 0).tail.drop 0).hO).cs)<|.ai (ae [.lk .str,.lk .sl] ((((q10.tail.drop 0).tail.drop 0).hO).cs) 0 (((q10.tail.drop 0).tail.drop 0).tail))<|.call 90 [VI ((y10.hA).toInt)] [] fun r11 o11=>NS r11<|.ai (ag (mk [116])+ag r11.toStr<=9223372036854775807)<|.call 81 [VS (mk [42]),.sl [[VS (((q10.tail.tail.hO).cs.getD 0 .any).toStr),((q10.tail.tail.hO).cs.getD 1 .any)],[VS (((mk [116]):ByteArray)++r11.toStr),.v (.slice none 0 0)]]] [] fun r12 o12=>NA r12<|.call 81 [VS (mk [43]),.sl [[VS (((q10.tail.hO).cs.getD 0 .any).toStr),((q10.tail.hO).cs.getD 1 .any)],[VS ((r12.cs.getD 0 .any).toStr),(r12.cs.getD 1 .any)]]] [] fun r13 o13=>NA r13<|.call 81 [VS (mk [114,101,99]),.sl [[VS (((mk [116]):ByteArray)++r11.toStr),.v (.slice none 0 0)],[VS ((r13.cs.getD 0 .any).toStr),(r13.cs.getD 1 .any)]]] [] fun r14 o14=>NA r14<|.call 88 [.agg [VS ((r14.cs.getD 0 .any).toStr),(r14.cs.getD 1 .any)]] [] fun r15 o15=>NI r15<|.done 0 [.cH [.agg [VS ((r14.cs.getD 0 .any).toStr),(r14.cs.getD 1 .any)],VB (decide (r15.toInt<=(400:Int)))]] []) (fun y10 q10=>.fail)))))
theorem RE(a0_0:ByteArray)(a0_1:AV)(a1:ByteArray)(ha0_1:LK.has .sl a0_1)(h:di 108 (LM a0_0 a0_1 a1) R):an Tryz.prog 147 [.agg [VS a0_0,a0_1],VS a1] [] R :=
 uQ (ah (cb (ah (aA _) (ah (bP ha0_1) aC))) (ah (aA _) aC)) (oQ LY Tryz.f147 h)
end
end Go.Proofs.Trees
