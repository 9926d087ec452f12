/-
  Part of a proof: Go functions read by values, trees of functions, their contracts.
-/
import Derived.Test.YthcjhageibaepabGreatDoorP3
import Derived.Shelf.Lays
import Derived.Shelf.LaysM
import Derived.Shelf.Strconv.Itoa3
import Derived.Shelf.Strconv.Atoi
import Derived.Shelf.Strings.SlTrimAscii
import Derived.Shelf.Strings.Search3
import Derived.Test.YthcjhageibaepabGreatDoorProg
set_option linter.unusedVariables false
set_option linter.unusedSimpArgs false
open And renaming intro→aJ
open ByteArray renaming extract→cz,size→ah,toList→af
open Int renaming tmod→dR,toNat→bK
namespace Go.Proofs
open Go.Shelf
def Tryz.xc:Go.Shelf.Ren:=⟨fun|160=>153|232=>167|231=>166|227=>168|234=>170|233=>169|236=>172|235=>171|228=>185|271=>188|151=>187|197=>186|120=>202|152=>201|260=>200|137=>210|119=>211|224=>206|225=>205|217=>204|266=>212|n=>n,fun|9=>9|4=>4|3=>3|5=>5|117=>219|116=>218|0=>0|124=>222|21=>21|105=>239|46=>234|119=>258|139=>261|138=>260|n=>n,fun|3=>4|4=>5|n=>n⟩
theorem Tryz.Gm:Go.Proofs.Lays.n160 Tryz.prog Tryz.xc:={
 mixed:=by kernel_rfl,
 f119:=Tryz.func211.trans (congrArg some (by kernel_rfl)),
 f120:=Tryz.func202.trans (congrArg some (by kernel_rfl)),
 f137:=Tryz.func210.trans (congrArg some (by kernel_rfl)),
 f151:=Tryz.func187.trans (congrArg some (by kernel_rfl)),
 f152:=Tryz.func201.trans (congrArg some (by kernel_rfl)),
 f160:=Tryz.func153.trans (congrArg some (by kernel_rfl)),
 f197:=Tryz.func186.trans (congrArg some (by kernel_rfl)),
 f217:=Tryz.func204.trans (congrArg some (by kernel_rfl)),
 f224:=Tryz.func206.trans (congrArg some (by kernel_rfl)),
 f225:=Tryz.func205.trans (congrArg some (by kernel_rfl)),
 f227:=Tryz.func168.trans (congrArg some (by kernel_rfl)),
 f228:=Tryz.func185.trans (congrArg some (by kernel_rfl)),
 f231:=Tryz.func166.trans (congrArg some (by kernel_rfl)),
 f232:=Tryz.func167.trans (congrArg some (by kernel_rfl)),
 f233:=Tryz.func169.trans (congrArg some (by kernel_rfl)),
 f234:=Tryz.func170.trans (congrArg some (by kernel_rfl)),
 f235:=Tryz.func171.trans (congrArg some (by kernel_rfl)),
 f236:=Tryz.func172.trans (congrArg some (by kernel_rfl)),
 f260:=Tryz.func200.trans (congrArg some (by kernel_rfl)),
 f266:=Tryz.func212.trans (congrArg some (by kernel_rfl)),
 f271:=Tryz.func188.trans (congrArg some (by kernel_rfl)),
 t0:=Tryz.underlying0,
 a0:=Tryz.isAgg0,
 z0:=Tryz.sizeOf0,
 v0:=Tryz.zeroValue0,
 t3:=Tryz.underlying3,
 a3:=Tryz.isAgg3,
 z3:=Tryz.sizeOf3,
 v3:=Tryz.zeroValue3,
 t4:=Tryz.underlying4,
 a4:=Tryz.isAgg4,
 z4:=Tryz.sizeOf4,
 v4:=Tryz.zeroValue4,
 t5:=Tryz.underlying5,
 a5:=Tryz.isAgg5,
 z5:=Tryz.sizeOf5,
 v5:=Tryz.zeroValue5,
 t9:=Tryz.underlying9,
 a9:=Tryz.isAgg9,
 z9:=Tryz.sizeOf9,
 v9:=Tryz.zeroValue9,
 t21:=Tryz.underlying21,
 a21:=Tryz.isAgg21,
 z21:=Tryz.sizeOf21,
 v21:=Tryz.zeroValue21,
 t46:=Tryz.underlying234,
 a46:=Tryz.isAgg234,
 z46:=Tryz.sizeOf234,
 v46:=Tryz.zeroValue234,
 t105:=Tryz.underlying239,
 a105:=Tryz.isAgg239,
 z105:=Tryz.sizeOf239,
 v105:=Tryz.zeroValue239,
 t116:=Tryz.underlying218,
 a116:=Tryz.isAgg218,
 z116:=Tryz.sizeOf218,
 t117:=Tryz.underlying219,
 a117:=Tryz.isAgg219,
 z117:=Tryz.sizeOf219,
 v117:=Tryz.zeroValue219,
 t119:=Tryz.underlying258,
 a119:=Tryz.isAgg258,
 z119:=Tryz.sizeOf258,
 t124:=Tryz.underlying222,
 a124:=Tryz.isAgg222,
 z124:=Tryz.sizeOf222,
 v124:=Tryz.zeroValue222,
 t138:=Tryz.underlying260,
 a138:=Tryz.isAgg260,
 z138:=Tryz.sizeOf260,
 v138:=Tryz.zeroValue260,
 t139:=Tryz.underlying261,
 a139:=Tryz.isAgg261,
 z139:=Tryz.sizeOf261,
 v139:=Tryz.zeroValue261,
 g3:=by kernel_rfl,
 g4:=by kernel_rfl}
def Tryz.xh:Go.Shelf.Ren:=⟨fun|144=>158|143=>177|219=>192|217=>204|225=>205|224=>206|267=>207|266=>212|314=>213|n=>n,fun|9=>9|4=>4|3=>3|5=>5|46=>234|146=>263|51=>246|n=>n,fun|1=>3|n=>n⟩
theorem Tryz.Fv:Go.Proofs.Lays.n144 Tryz.prog Tryz.xh:={
 mixed:=by kernel_rfl,
 f143:=Tryz.func177.trans (congrArg some (by kernel_rfl)),
 f144:=Tryz.func158.trans (congrArg some (by kernel_rfl)),
 f217:=Tryz.func204.trans (congrArg some (by kernel_rfl)),
 f219:=Tryz.func192.trans (congrArg some (by kernel_rfl)),
 f224:=Tryz.func206.trans (congrArg some (by kernel_rfl)),
 f225:=Tryz.func205.trans (congrArg some (by kernel_rfl)),
 f266:=Tryz.func212.trans (congrArg some (by kernel_rfl)),
 f267:=Tryz.func207.trans (congrArg some (by kernel_rfl)),
 f314:=Tryz.func213.trans (congrArg some (by kernel_rfl)),
 t3:=Tryz.underlying3,
 a3:=Tryz.isAgg3,
 z3:=Tryz.sizeOf3,
 v3:=Tryz.zeroValue3,
 t4:=Tryz.underlying4,
 a4:=Tryz.isAgg4,
 z4:=Tryz.sizeOf4,
 v4:=Tryz.zeroValue4,
 t5:=Tryz.underlying5,
 a5:=Tryz.isAgg5,
 z5:=Tryz.sizeOf5,
 v5:=Tryz.zeroValue5,
 t9:=Tryz.underlying9,
 a9:=Tryz.isAgg9,
 z9:=Tryz.sizeOf9,
 v9:=Tryz.zeroValue9,
 t46:=Tryz.underlying234,
 a46:=Tryz.isAgg234,
 z46:=Tryz.sizeOf234,
 v46:=Tryz.zeroValue234,
 t51:=Tryz.underlying246,
 a51:=Tryz.isAgg246,
 z51:=Tryz.sizeOf246,
 v51:=Tryz.zeroValue246,
 t146:=Tryz.underlying263,
 a146:=Tryz.isAgg263,
 z146:=Tryz.sizeOf263,
 v146:=Tryz.zeroValue263,
 g1:=by kernel_rfl}
def Tryz.wL:Go.Shelf.Ren:=⟨fun|172=>126|244=>151|245=>152|247=>161|279=>162|280=>163|281=>164|282=>165|287=>182|316=>183|171=>120|205=>184|321=>198|322=>199|243=>146|246=>159|283=>178|284=>179|285=>180|286=>181|129=>194|317=>193|318=>195|319=>196|320=>197|337=>208|338=>209|n=>n,fun|9=>9|3=>3|75=>182|76=>183|4=>4|5=>5|167=>210|37=>22|0=>0|85=>211|2=>2|168=>213|53=>227|175=>232|46=>234|210=>237|127=>251|145=>254|143=>252|21=>21|171=>226|173=>230|212=>245|51=>246|20=>20|213=>247|232=>265|233=>266|80=>94|n=>n,fun|15=>0|16=>1|17=>2|18=>6|19=>7|n=>n⟩
theorem Tryz.E5:Go.Proofs.Lays.n172 Tryz.prog Tryz.wL:={
 mixed:=by kernel_rfl,
 f129:=Tryz.func194.trans (congrArg some (by kernel_rfl)),
 f171:=Tryz.func120.trans (congrArg some (by kernel_rfl)),
 f172:=Tryz.func126.trans (congrArg some (by kernel_rfl)),
 f205:=Tryz.func184.trans (congrArg some (by kernel_rfl)),
 f243:=Tryz.func146.trans (congrArg some (by kernel_rfl)),
 f244:=Tryz.func151.trans (congrArg some (by kernel_rfl)),
 f245:=Tryz.func152.trans (congrArg some (by kernel_rfl)),
 f246:=Tryz.func159.trans (congrArg some (by kernel_rfl)),
 f247:=Tryz.func161.trans (congrArg some (by kernel_rfl)),
 f279:=Tryz.func162.trans (congrArg some (by kernel_rfl)),
 f280:=Tryz.func163.trans (congrArg some (by kernel_rfl)),
 f281:=Tryz.func164.trans (congrArg some (by kernel_rfl)),
 f282:=Tryz.func165.trans (congrArg some (by kernel_rfl)),
 f283:=Tryz.func178.trans (congrArg some (by kernel_rfl)),
 f284:=Tryz.func179.trans (congrArg some (by kernel_rfl)),
 f285:=Tryz.func180.trans (congrArg some (by kernel_rfl)),
 f286:=Tryz.func181.trans (congrArg some (by kernel_rfl)),
 f287:=Tryz.func182.trans (congrArg some (by kernel_rfl)),
 f316:=Tryz.func183.trans (congrArg some (by kernel_rfl)),
 f317:=Tryz.func193.trans (congrArg some (by kernel_rfl)),
 f318:=Tryz.func195.trans (congrArg some (by kernel_rfl)),
 f319:=Tryz.func196.trans (congrArg some (by kernel_rfl)),
 f320:=Tryz.func197.trans (congrArg some (by kernel_rfl)),
 f321:=Tryz.func198.trans (congrArg some (by kernel_rfl)),
 f322:=Tryz.func199.trans (congrArg some (by kernel_rfl)),
 f337:=Tryz.func208.trans (congrArg some (by kernel_rfl)),
 f338:=Tryz.func209.trans (congrArg some (by kernel_rfl)),
 t0:=Tryz.underlying0,
 a0:=Tryz.isAgg0,
 z0:=Tryz.sizeOf0,
 v0:=Tryz.zeroValue0,
 t2:=Tryz.underlying2,
 a2:=Tryz.isAgg2,
 z2:=Tryz.sizeOf2,
 v2:=Tryz.zeroValue2,
 t3:=Tryz.underlying3,
 a3:=Tryz.isAgg3,
 z3:=Tryz.sizeOf3,
 v3:=Tryz.zeroValue3,
 t4:=Tryz.underlying4,
 a4:=Tryz.isAgg4,
 z4:=Tryz.sizeOf4,
 v4:=Tryz.zeroValue4,
 t5:=Tryz.underlying5,
 a5:=Tryz.isAgg5,
 z5:=Tryz.sizeOf5,
 v5:=Tryz.zeroValue5,
 t9:=Tryz.underlying9,
 a9:=Tryz.isAgg9,
 z9:=Tryz.sizeOf9,
 v9:=Tryz.zeroValue9,
 t20:=Tryz.underlying20,
 a20:=Tryz.isAgg20,
 z20:=Tryz.sizeOf20,
 v20:=Tryz.zeroValue20,
 t21:=Tryz.underlying21,
 a21:=Tryz.isAgg21,
 z21:=Tryz.sizeOf21,
 v21:=Tryz.zeroValue21,
 t37:=Tryz.underlying22,
 a37:=Tryz.isAgg22,
 z37:=Tryz.sizeOf22,
 v37:=Tryz.zeroValue22,
 t46:=Tryz.underlying234,
 a46:=Tryz.isAgg234,
 z46:=Tryz.sizeOf234,
 v46:=Tryz.zeroValue234,
 t51:=Tryz.underlying246,
 a51:=Tryz.isAgg246,
 z51:=Tryz.sizeOf246,
 v51:=Tryz.zeroValue246,
 t53:=Tryz.underlying227,
 a53:=Tryz.isAgg227,
 z53:=Tryz.sizeOf227,
 v53:=Tryz.zeroValue227,
 t75:=Tryz.underlying182,
 a75:=Tryz.isAgg182,
 z75:=Tryz.sizeOf182,
 v75:=Tryz.zeroValue182,
 t76:=Tryz.underlying183,
 a76:=Tryz.isAgg183,
 z76:=Tryz.sizeOf183,
 v76:=Tryz.zeroValue183,
 t85:=Tryz.underlying211,
 a85:=Tryz.isAgg211,
 z85:=Tryz.sizeOf211,
 v85:=Tryz.zeroValue211,
 t127:=Tryz.underlying251,
 a127:=Tryz.isAgg251,
 z127:=Tryz.sizeOf251,
 v127:=Tryz.zeroValue251,
 t143:=Tryz.underlying252,
 a143:=Tryz.isAgg252,
 z143:=Tryz.sizeOf252,
 v143:=Tryz.zeroValue252,
 t145:=Tryz.underlying254,
 a145:=Tryz.isAgg254,
 z145:=Tryz.sizeOf254,
 v145:=Tryz.zeroValue254,
 t167:=Tryz.underlying210,
 a167:=Tryz.isAgg210,
 z167:=Tryz.sizeOf210,
 v167:=Tryz.zeroValue210,
 t168:=Tryz.underlying213,
 a168:=Tryz.isAgg213,
 z168:=Tryz.sizeOf213,
 v168:=Tryz.zeroValue213,
 t171:=Tryz.underlying226,
 a171:=Tryz.isAgg226,
 z171:=Tryz.sizeOf226,
 v171:=Tryz.zeroValue226,
 t173:=Tryz.underlying230,
 a173:=Tryz.isAgg230,
 z173:=Tryz.sizeOf230,
 v173:=Tryz.zeroValue230,
 t175:=Tryz.underlying232,
 a175:=Tryz.isAgg232,
 z175:=Tryz.sizeOf232,
 v175:=Tryz.zeroValue232,
 t210:=Tryz.underlying237,
 a210:=Tryz.isAgg237,
 z210:=Tryz.sizeOf237,
 v210:=Tryz.zeroValue237,
 t212:=Tryz.underlying245,
 a212:=Tryz.isAgg245,
 z212:=Tryz.sizeOf245,
 v212:=Tryz.zeroValue245,
 t213:=Tryz.underlying247,
 a213:=Tryz.isAgg247,
 z213:=Tryz.sizeOf247,
 t232:=Tryz.underlying265,
 a232:=Tryz.isAgg265,
 z232:=Tryz.sizeOf265,
 v232:=Tryz.zeroValue265,
 t233:=Tryz.underlying266,
 a233:=Tryz.isAgg266,
 z233:=Tryz.sizeOf266,
 v233:=Tryz.zeroValue266,
 g15:=by kernel_rfl,
 g16:=by kernel_rfl,
 g17:=by kernel_rfl,
 g18:=by kernel_rfl,
 g19:=by kernel_rfl}
def Tryz.vx:Go.Shelf.Ren:=⟨fun|171=>120|243=>146|246=>159|283=>178|284=>179|285=>180|286=>181|129=>194|317=>193|318=>195|319=>196|320=>197|337=>208|338=>209|n=>n,fun|3=>3|9=>9|2=>2|4=>4|171=>226|0=>0|53=>227|37=>22|5=>5|173=>230|212=>245|51=>246|20=>20|213=>247|46=>234|232=>265|233=>266|n=>n,fun|17=>2|18=>6|19=>7|n=>n⟩
theorem Tryz.DI:Go.Proofs.LaysM.n171 Tryz.prog Tryz.vx:={
 mixed:=by kernel_rfl,
 f129:=Tryz.func194.trans (congrArg some (by kernel_rfl)),
 f171:=Tryz.func120.trans (congrArg some (by kernel_rfl)),
 f243:=Tryz.func146.trans (congrArg some (by kernel_rfl)),
 f246:=Tryz.func159.trans (congrArg some (by kernel_rfl)),
 f283:=Tryz.func178.trans (congrArg some (by kernel_rfl)),
 f284:=Tryz.func179.trans (congrArg some (by kernel_rfl)),
 f285:=Tryz.func180.trans (congrArg some (by kernel_rfl)),
 f286:=Tryz.func181.trans (congrArg some (by kernel_rfl)),
 f317:=Tryz.func193.trans (congrArg some (by kernel_rfl)),
 f318:=Tryz.func195.trans (congrArg some (by kernel_rfl)),
 f319:=Tryz.func196.trans (congrArg some (by kernel_rfl)),
 f320:=Tryz.func197.trans (congrArg some (by kernel_rfl)),
 f337:=Tryz.func208.trans (congrArg some (by kernel_rfl)),
 f338:=Tryz.func209.trans (congrArg some (by kernel_rfl)),
 t0:=Tryz.underlying0,
 a0:=Tryz.isAgg0,
 z0:=Tryz.sizeOf0,
 v0:=Tryz.zeroValue0,
 t2:=Tryz.underlying2,
 a2:=Tryz.isAgg2,
 z2:=Tryz.sizeOf2,
 v2:=Tryz.zeroValue2,
 t3:=Tryz.underlying3,
 a3:=Tryz.isAgg3,
 z3:=Tryz.sizeOf3,
 v3:=Tryz.zeroValue3,
 t4:=Tryz.underlying4,
 a4:=Tryz.isAgg4,
 z4:=Tryz.sizeOf4,
 v4:=Tryz.zeroValue4,
 t5:=Tryz.underlying5,
 a5:=Tryz.isAgg5,
 z5:=Tryz.sizeOf5,
 v5:=Tryz.zeroValue5,
 t9:=Tryz.underlying9,
 a9:=Tryz.isAgg9,
 z9:=Tryz.sizeOf9,
 v9:=Tryz.zeroValue9,
 t20:=Tryz.underlying20,
 a20:=Tryz.isAgg20,
 z20:=Tryz.sizeOf20,
 v20:=Tryz.zeroValue20,
 t37:=Tryz.underlying22,
 a37:=Tryz.isAgg22,
 z37:=Tryz.sizeOf22,
 v37:=Tryz.zeroValue22,
 t46:=Tryz.underlying234,
 a46:=Tryz.isAgg234,
 z46:=Tryz.sizeOf234,
 v46:=Tryz.zeroValue234,
 t51:=Tryz.underlying246,
 a51:=Tryz.isAgg246,
 z51:=Tryz.sizeOf246,
 v51:=Tryz.zeroValue246,
 t53:=Tryz.underlying227,
 a53:=Tryz.isAgg227,
 z53:=Tryz.sizeOf227,
 v53:=Tryz.zeroValue227,
 t171:=Tryz.underlying226,
 a171:=Tryz.isAgg226,
 z171:=Tryz.sizeOf226,
 v171:=Tryz.zeroValue226,
 t173:=Tryz.underlying230,
 a173:=Tryz.isAgg230,
 z173:=Tryz.sizeOf230,
 v173:=Tryz.zeroValue230,
 t212:=Tryz.underlying245,
 a212:=Tryz.isAgg245,
 z212:=Tryz.sizeOf245,
 v212:=Tryz.zeroValue245,
 t213:=Tryz.underlying247,
 a213:=Tryz.isAgg247,
 z213:=Tryz.sizeOf247,
 t232:=Tryz.underlying265,
 a232:=Tryz.isAgg265,
 z232:=Tryz.sizeOf265,
 v232:=Tryz.zeroValue265,
 t233:=Tryz.underlying266,
 a233:=Tryz.isAgg266,
 z233:=Tryz.sizeOf266,
 v233:=Tryz.zeroValue266,
 g17:=by kernel_rfl,
 g18:=by kernel_rfl,
 g19:=by kernel_rfl,
 i0:=by kernel_rfl,
 i2:=by kernel_rfl,
 i3:=by kernel_rfl,
 i4:=by kernel_rfl,
 i5:=by kernel_rfl,
 i9:=by kernel_rfl,
 i20:=by kernel_rfl,
 i37:=by kernel_rfl,
 i46:=by kernel_rfl,
 i51:=by kernel_rfl,
 i53:=by kernel_rfl,
 i171:=by kernel_rfl,
 i173:=by kernel_rfl,
 i212:=by kernel_rfl,
 i232:=by kernel_rfl,
 i233:=by kernel_rfl,
 m17:=by kernel_rfl,
 m18:=by kernel_rfl,
 m19:=by kernel_rfl}
end Go.Proofs
namespace Go.Proofs.Trees
open Go Go.VL
noncomputable section
def LY:List (Nat×TI):=[
 (0,⟨false,[],false,0,.tuple [],false⟩),
 (2,⟨true,[.int .i64],false,8,.num .i64,false⟩),
 (3,⟨true,[.int .i64],false,8,.num .i64,false⟩),
 (4,⟨true,[.bool],false,1,.bl,false⟩),
 (5,⟨true,[.int .u8],false,1,.num .u8,false⟩),
 (9,⟨true,[.str],false,16,.str,false⟩),
 (20,⟨true,[.lM],false,16,.other,false⟩),
 (21,⟨true,[.int .i32],false,4,.num .i32,false⟩),
 (22,⟨true,[.sl],false,24,.slice 5,false⟩),
 (23,⟨false,[],false,0,.tuple [9,9,9],false⟩),
 (25,⟨true,[.sl],false,24,.slice 3,false⟩),
 (27,⟨true,[.sl,.str,.str],true,56,.struct [(0,25),(1,9),(2,9)],false⟩),
 (28,⟨false,[],false,0,.tuple [27,4],false⟩),
 (31,⟨false,[],false,0,.tuple [9,4],false⟩),
 (34,⟨false,[],false,0,.tuple [9,9],false⟩),
 (36,⟨true,[.sl],false,24,.slice 43,false⟩),
 (37,⟨false,[],false,0,.tuple [36,4],false⟩),
 (43,⟨true,[.str,.str],true,32,.struct [(0,9),(1,9)],true⟩),
 (45,⟨true,[.lM],false,8,.other,false⟩),
 (46,⟨false,[],false,0,.tuple [9,9,27],false⟩),
 (50,⟨true,[.ptr],false,8,.pt,true⟩),
 (52,⟨true,[.ptr],false,8,.pt,true⟩),
 (53,⟨true,[.ptr],false,8,.pt,true⟩),
 (54,⟨false,[],false,0,.tuple [52,53],false⟩),
 (57,⟨true,[.sl],false,24,.slice 59,false⟩),
 (59,⟨true,[.str,.sl],true,40,.struct [(0,9),(1,57)],false⟩),
 (60,⟨false,[],false,0,.tuple [59,4],false⟩),
 (63,⟨true,[.sl],false,24,.slice 9,false⟩),
 (65,⟨true,[.str,.sl,.str],true,56,.struct [(0,9),(1,63),(2,9)],false⟩),
 (66,⟨false,[],false,0,.tuple [65,4],false⟩),
 (72,⟨true,[.sl],false,24,.slice 96,false⟩),
 (75,⟨true,[.sl],false,24,.slice 104,false⟩),
 (79,⟨true,[.int .u8,.str,.int .i64,.ptr,.ptr],true,48,.struct [(0,5),(1,9),(2,3),(3,52),(4,52)],false⟩),
 (80,⟨false,[],false,0,.tuple [52,4],false⟩),
 (88,⟨true,[.sl],false,24,.slice 25,false⟩),
 (89,⟨false,[],false,0,.tuple [88,4],false⟩),
 (93,⟨true,[.sl,.int .i64],true,32,.struct [(0,22),(1,3)],false⟩),
 (96,⟨true,[.ptr,.ptr],true,16,.struct [(0,53),(1,53)],false⟩),
 (100,⟨true,[.sl],false,24,.slice 196,false⟩),
 (104,⟨true,[.str,.sl,.str,.sl],true,80,.struct [(0,59),(2,59)],false⟩),
 (107,⟨true,[.ptr],false,8,.pt,true⟩),
 (111,⟨true,[.sl],false,24,.slice 53,false⟩),
 (113,⟨true,[.str,.ptr,.sl,.ptr],true,56,.struct [(0,9),(1,52),(2,111),(3,53)],false⟩),
 (116,⟨true,[.ptr],false,8,.pt,true⟩),
 (118,⟨true,[.ptr,.ptr],true,16,.struct [(0,52),(1,116)],false⟩),
 (119,⟨true,[.ptr],false,8,.pt,true⟩),
 (120,⟨false,[],false,0,.tuple [118,119],false⟩),
 (124,⟨true,[.int .u8,.str,.ptr,.ptr],true,40,.struct [(0,5),(1,9),(2,53),(3,53)],false⟩),
 (126,⟨true,[.str,.ptr],true,24,.struct [(0,9),(1,119)],false⟩),
 (128,⟨true,[.ptr],false,8,.pt,true⟩),
 (132,⟨true,[.ptr],false,8,.pt,true⟩),
 (134,⟨true,[.int .i64,.bool],true,16,.struct [(0,3),(1,4)],false⟩),
 (148,⟨true,[.sl],false,24,.slice 27,false⟩),
 (149,⟨false,[],false,0,.tuple [148,4],false⟩),
 (155,⟨false,[],false,0,.tuple [59,100],false⟩),
 (158,⟨false,[],false,0,.tuple [59,3],false⟩),
 (161,⟨true,[.ptr,.ptr],true,16,.struct [(0,118)],false⟩),
 (163,⟨true,[.ptr,.ptr],true,16,.struct [(0,119),(1,116)],false⟩),
 (165,⟨true,[.lM],false,8,.other,false⟩),
 (166,⟨true,[.lM],false,8,.other,false⟩),
 (169,⟨false,[],false,0,.tuple [128,9],false⟩),
 (171,⟨true,[.sl],false,24,.slice 128,false⟩),
 (173,⟨true,[.str,.sl],true,40,.struct [(0,9),(1,171)],false⟩),
 (178,⟨true,[.lM],false,8,.other,false⟩),
 (182,⟨true,[.lM],false,16,.other,false⟩),
 (183,⟨false,[],false,0,.tuple [3,182],false⟩),
 (191,⟨true,[.ptr],false,8,.pt,true⟩),
 (193,⟨true,[.sl,.int .i64],true,32,.struct [(0,63),(1,3)],false⟩),
 (196,⟨true,[.str,.str,.sl,.sl],true,80,.struct [(0,9),(1,59),(3,100)],false⟩),
 (201,⟨true,[.lM],false,8,.other,false⟩),
 (211,⟨false,[],false,0,.tuple [2,182],false⟩),
 (213,⟨true,[.ptr],false,8,.pt,true⟩),
 (219,⟨false,[],false,0,.tuple [218,4],false⟩),
 (222,⟨true,[.ptr],false,8,.pt,true⟩),
 (226,⟨true,[.int .u8,.int .u8,.int .u8,.int .u8,.int .u8,.int .u8,.int .u8,.int .u8,.int .u8,.int .u8,.int .u8,.int .u8,.int .u8,.int .u8,.int .u8,.int .u8,.int .u8,.int .u8,.int .u8,.int .u8,.int .u8,.int .u8,.int .u8,.int .u8],true,24,.array 24 5,false⟩),
 (227,⟨true,[.int .u64],false,8,.num .u64,false⟩),
 (230,⟨false,[],false,0,.tuple [22,9],false⟩),
 (232,⟨false,[],false,0,.tuple [227,182],false⟩),
 (234,⟨true,[.int .u64],false,8,.num .u64,false⟩),
 (237,⟨true,[.str,.str,.lM],true,48,.struct [(0,9),(1,9),(2,182)],false⟩),
 (239,⟨false,[],false,0,.tuple [21,3],false⟩),
 (245,⟨true,[.int .u64,.int .u64,.int .u64,.int .u64,.int .u64,.int .u64,.int .u64,.int .u64,.int .u64,.int .u64,.int .u64,.int .u64,.int .u64,.int .u64,.int .u64,.int .u64,.int .u64,.int .u64,.int .u64,.int .u64],true,160,.array 20 227,false⟩),
 (246,⟨true,[.int .u32],false,4,.num .u32,false⟩),
 (251,⟨true,[.ptr],false,8,.pt,true⟩),
 (252,⟨true,[.ptr],false,8,.pt,true⟩),
 (254,⟨true,[.str],true,16,.struct [(0,9)],false⟩),
 (260,⟨true,[.int .u8,.int .u8],true,2,.struct [(0,5),(1,5)],false⟩),
 (261,⟨true,[.int .u8,.int .u8,.int .u8,.int .u8,.int .u8,.int .u8,.int .u8,.int .u8,.int .u8,.int .u8,.int .u8,.int .u8,.int .u8,.int .u8,.int .u8,.int .u8,.int .u8,.int .u8,.int .u8,.int .u8,.int .u8,.int .u8,.int .u8,.int .u8,.int .u8,.int .u8,.int .u8,.int .u8,.int .u8,.int .u8,.int .u8,.int .u8],true,32,.array 16 260,false⟩),
 (263,⟨false,[],false,0,.tuple [246,246],false⟩),
 (265,⟨true,[.int .u8,.int .u8,.int .u8,.int .u8,.int .u8,.int .u8,.int .u8,.int .u8,.int .u8,.int .u8,.int .u8,.int .u8,.int .u8,.int .u8,.int .u8,.int .u8,.int .u8,.int .u8,.int .u8,.int .u8,.int .u8,.int .u8,.int .u8,.int .u8,.int .u8,.int .u8,.int .u8,.int .u8,.int .u8,.int .u8,.int .u8,.int .u8],true,32,.array 32 5,false⟩)]
def Mo(t:Nat):TI:=zC LY t
abbrev eM:Func:=Tryz.f70
abbrev rR:Func:=Tryz.f120
abbrev rQ:Func:=Tryz.f126
abbrev rV:Func:=Tryz.f153
abbrev oy:Func:=Tryz.f158
def RZ:List (Nat×FC):=[(148,{mu:=[(1,.one (.obj [.vec 1]))],own:=[]}),(98,{mu:=[(2,.one (.vec))],own:=[0]}),(14900147,{mu:=[(1,.fn [some (.obj [.vec 1])])],own:=[]}),(107,{mu:=[(2,.one (.obj [.vec 2]))],own:=[]}),(11100107,{mu:=[(1,.fn [some (.obj [.lk .ptr])]),(2,.one (.obj [.vec 2]))],own:=[]}),(11200107,{mu:=[(1,.fn [some (.obj [.lk .ptr])]),(2,.one (.obj [.vec 2]))],own:=[]}),(11400107,{mu:=[(1,.fn [some (.obj [.lk .ptr])]),(2,.one (.obj [.vec 2]))],own:=[]}),(11600107,{mu:=[(1,.fn [some (.obj [.lk .ptr,.lk .ptr])]),(2,.one (.obj [.vec 2]))],own:=[]}),(110,{mu:=[(1,.one (.obj [.lk .ptr]))],own:=[]}),(111,{mu:=[(1,.one (.obj [.lk .ptr]))],own:=[]}),(113,{mu:=[(1,.one (.obj [.lk .ptr]))],own:=[]}),(115,{mu:=[(1,.one (.obj [.lk .ptr,.lk .ptr]))],own:=[]}),(123,{mu:=[(2,.qM 123 [none,some 0,some 1]),(3,.one (.obj [.lk .sl])),(4,.one (.obj [.lk (.int .i64)]))],own:=[]}),(132,{mu:=[(3,.one (.vec))],own:=[0]}),(72,{mu:=[(2,.one (.vec))],own:=[0]}),(45,{mu:=[(0,.one (.obj [.lk .sl,.lk (.int .i64)]))],own:=[]}),(137,{mu:=[(3,.one (.obj [.vec 1,.lk (.int .i64)]))],own:=[]}),(94,{mu:=[(0,.one (.obj [.lk .sl,.lk (.int .i64)]))],own:=[]}),(23,{mu:=[],own:=[0],ow:=[.sl,.int .i64]}),(7,{mu:=[],own:=[0],oa:=[.vec 1,.lk .str,.lk .str]}),(25,{mu:=[],own:=[0],oa:=[.vec 1,.lk .str,.lk .str]}),(76,{mu:=[(0,.one (.obj [.lk (.int .i64),.lk .bool]))],own:=[]}),(77,{mu:=[(0,.one (.obj [.lk (.int .i64),.lk .bool]))],own:=[]}),(78,{mu:=[(0,.one (.obj [.lk (.int .i64),.lk .bool]))],own:=[]}),(143,{mu:=[(0,.one (.obj [.lk .sl,.lk (.int .i64)]))],own:=[]}),(68,{mu:=[(0,.one (.obj [.lk .sl,.lk (.int .i64)]))],own:=[]}),(142,{mu:=[(0,.one (.obj [.lk .sl,.lk (.int .i64)]))],own:=[]}),(95,{mu:=[(0,.one (.obj [.lk .sl,.lk (.int .i64)]))],own:=[]}),(50,{mu:=[(0,.one (.obj [.lk .sl,.lk (.int .i64)]))],own:=[]}),(105,{mu:=[(0,.one (.obj [.lk .sl,.lk (.int .i64)]))],own:=[]}),(69,{mu:=[(0,.one (.obj [.lk .sl,.lk (.int .i64)]))],own:=[]}),(33,{mu:=[(0,.one (.obj [.lk .sl,.lk (.int .i64)]))],own:=[]}),(22,{mu:=[(0,.one (.obj [.lk .sl,.lk (.int .i64)]))],own:=[]}),(31,{mu:=[],own:=[0],oa:=[.lk .str,.vec 1,.lk .str]}),(30,{mu:=[],own:=[0],oa:=[.lk .str,.vec 1,.lk .str]}),(65,{mu:=[],own:=[0],oa:=[.lk .str,.vec 1,.lk .str]}),(129,{mu:=[],own:=[0]}),(91,{mu:=[(0,.one (.vq [.lk .str,.vec 1,.lk .str]))],own:=[0],oa:=[.lk .str,.vec 1,.lk .str]}),(88,{mu:=[],own:=[0],oa:=[.lk .str,.vec 1,.lk .str]}),(89,{mu:=[],own:=[0],oa:=[.lk .str,.vec 1,.lk .str]}),(47,{mu:=[],own:=[0],oa:=[.lk .str,.vec 1,.lk .str]}),(29,{mu:=[],own:=[0],oa:=[.vec 1,.lk .str,.lk .str]}),(8,{mu:=[],own:=[0],oa:=[.vec 1,.lk .str,.lk .str]})]
def cfg(f:Nat):FC:=Dz RZ f
theorem EB:(LY.all fun p=>!p.2.kn||p.2.oD Tryz.prog p.1)=true:=by kernel_rfl
theorem vw:dw Tryz.prog Mo:=wX EB
theorem mixed:Tryz.prog.follows .mixedOrders=true:=by kernel_rfl
abbrev NZ(r:AV)(k:Tree):Tree:=.ai (LK.has .ptr r/\r.isNil=false) k
abbrev NP(r:AV)(k:Tree):Tree:=.ai (LK.has .ptr r) k
abbrev NS(r:AV)(k:Tree):Tree:=.ai (LK.has .str r) k
abbrev NB(r:AV)(k:Tree):Tree:=.ai (LK.has .bool r) k
abbrev NL(r:AV)(k:Tree):Tree:=.ai (LK.has .sl r) k
abbrev NI(r:AV)(k:Tree):Tree:=.ai (LK.has (.int .i64) r) k
abbrev ei(l:List AV)(k:Tree):Tree:=.ai (LK.has .ptr (l.headD .any)/\1<=l.length) k
abbrev lL(l:List AV)(k:Tree):Tree:=.ai (LK.has .str (l.headD .any)/\1<=l.length) k
abbrev oH(l:List AV)(k:Tree):Tree:=.ai (LK.has .sl (l.headD .any)/\1<=l.length) k
abbrev NT(r:AV)(k:Tree):Tree:=.ai (r=.cm [r.comp 0,r.comp 1]) k
abbrev NA(r:AV)(k:Tree):Tree:=.ai (r=.agg r.cs/\r.cs.length=2/\bC [.str,.sl] r.cs 0) k
abbrev NE(l:List AV)(k:Tree):Tree:=.ai (bC [.str,.sl] l 0/\2<=l.length) k
abbrev NG(r:AV)(i:Int)(z:Nat)(k:Tree):Tree:=.ai (LK.has .sl r/\0<=i/\i<r.elems.length/\(r.elems.getD i.toNat []).length=z) k
abbrev RL:Type:=Nat->List AV->List Ob->Prop
abbrev VS(x:ByteArray):AV:=.v (.string x)
abbrev VI(x:Int):AV:=.v (.int .i64 x)
abbrev VB(x:Bool):AV:=.v (.bool x)
abbrev _root_.List.hA(l:List AV):AV:=l.headD .any
abbrev _root_.List.hO(l:List Ob):Ob:=l.headD .dead
abbrev _root_.Go.VL.AV.ix(a:AV)(i:Int):List AV:=a.elems.getD i.toNat []
abbrev dq(n:Nat)(t:Tree)(R:AV->List Ob->Prop):Prop:=fC Tryz.prog n t fun _ xs obs=>R (xs.headD .any) obs
abbrev kO(n:Nat)(t:Tree)(S:List AV->List Ob->RL->Prop)(R:RL):Prop:=fC Tryz.prog n t (GU (fun ys o=>S ys o R) R)
theorem gQ{n:Nat}{c:Code}{li:LI}{xs:List AV}{obs:List Ob}{R:RL}{t:Tree}(lis:List (Nat×LI))(h:fC Tryz.prog n t (GU (fun ys o=>cF Tryz.prog n c li ys o R) R))(e:round Mo cfg n lis c li xs obs=t:=by kernel_rfl):cF Tryz.prog n c li xs obs R:=cF.Rs (cfg:=cfg) (lis:=lis) vw mixed e h
theorem Vu(x:ByteArray):VS x=.v (.string x):=rfl
theorem Vv(x:Int):VI x=.v (.int .i64 x):=rfl
theorem Vp(x:Bool):VB x=.v (.bool x):=rfl
theorem Vs(l:List AV):l.hA=l.headD .any:=rfl
theorem VC(l:List Ob):l.hO=l.headD .dead:=rfl
theorem Vr(a:AV)(i:Int):a.ix i=a.elems.getD i.toNat []:=rfl
theorem oQ{f:Nat}{asq:List AV}{ins:List Ob}{R:AV->List Ob->Prop}{t:Tree}(lis:List (Nat×LI))(F:Func)(h:fC Tryz.prog F.ntmps t fun _ xs obs=>R (xs.headD .any) obs)(hf:Tryz.prog.funcs[f]?=some F:=by kernel_rfl)(hnm:(F.name=="runtime.NumGoroutine")=false:=by kernel_rfl)(e:main Mo cfg lis {} F asq ins=t:=by kernel_rfl):aq Tryz.prog f asq ins R:=aq.Rs (cfg:=cfg) (lis:=lis) (fc:={}) vw mixed hf hnm e h
theorem oF{f:Nat}{asq:List AV}{ins:List Ob}{R:AV->List Ob->Prop}{t:Tree}(lis:List (Nat×LI))(fc:FC)(F:Func)(h:fC Tryz.prog F.ntmps t fun _ xs obs=>R (xs.headD .any) obs)(hf:Tryz.prog.funcs[f]?=some F:=by kernel_rfl)(hnm:(F.name=="runtime.NumGoroutine")=false:=by kernel_rfl)(e:main Mo cfg lis fc F asq ins=t:=by kernel_rfl):aq Tryz.prog f asq ins R:=aq.Rs (cfg:=cfg) (lis:=lis) (fc:=fc) vw mixed hf hnm e h
theorem uQ{P:Program}{f:Nat}{asq bs:List AV}{R:AV->List Ob->Prop}(h:za asq bs)(hf:aq P f bs [] R):aq P f asq [] R:=aq.oE cH (aq.up h hf)
theorem VG(r:AV)(k:Tree):NZ r k=.ai (LK.has .ptr r/\r.isNil=false) k:=rfl
theorem Vq(r:AV)(k:Tree):NP r k=.ai (LK.has .ptr r) k:=rfl
theorem VM(r:AV)(k:Tree):NS r k=.ai (LK.has .str r) k:=rfl
theorem VE(r:AV)(k:Tree):NB r k=.ai (LK.has .bool r) k:=rfl
theorem VJ(r:AV)(k:Tree):NL r k=.ai (LK.has .sl r) k:=rfl
theorem Vz(r:AV)(k:Tree):NI r k=.ai (LK.has (.int .i64) r) k:=rfl
theorem RE(l:List AV)(k:Tree):ei l k=.ai (LK.has .ptr (l.headD .any)/\1<=l.length) k:=rfl
theorem Tj(l:List AV)(k:Tree):lL l k=.ai (LK.has .str (l.headD .any)/\1<=l.length) k:=rfl
theorem Rv(l:List AV)(k:Tree):oH l k=.ai (LK.has .sl (l.headD .any)/\1<=l.length) k:=rfl
theorem Vn(r:AV)(k:Tree):NT r k=.ai (r=.cm [r.comp 0,r.comp 1]) k:=rfl
theorem VD(r:AV)(k:Tree):NA r k=.ai (r=.agg r.cs/\r.cs.length=2/\bC [.str,.sl] r.cs 0) k:=rfl
theorem VK(l:List AV)(k:Tree):NE l k=.ai (bC [.str,.sl] l 0/\2<=l.length) k:=rfl
theorem VF(r:AV)(i:Int)(z:Nat)(k:Tree):NG r i z k=.ai (LK.has .sl r/\0<=i/\i<r.elems.length/\(r.elems.getD i.toNat []).length=z) k:=rfl
set_option linter.defProp false in
def zq:=aJ @VG (aJ @Vq (aJ @VM (aJ @VE (aJ @VJ (aJ @Vz (aJ @RE (aJ @Tj (aJ @Rv (aJ @Vn (aJ @VD (aJ @VK (aJ @VF (aJ @Vu (aJ @Vv (aJ @Vp (aJ @Vs (aJ @VC (aJ @Vr @zp))))))))))))))))))
variable {R:AV->List Ob->Prop} {U:RL}
def Oc(a0:AV):Tree :=
 NL a0<|.test (decide ((a0.elems.length:Int)>(1048576:Int))) (.done 0 [VB true] []) (.call 19 [a0] [] fun r1 o1=>.ai (r1=.cm [r1.comp 0,r1.comp 1,r1.comp 2])<|NS (r1.comp 0)<|NS (r1.comp 1)<|.ai ((r1.comp 2)=.agg (r1.comp 2).cs/\(r1.comp 2).cs.length=3/\bC [.sl,.str,.str] ((r1.comp 2).cs) 0)<|.call 10 [VS ((r1.comp 0).toStr),VS ((r1.comp 1).toStr),.agg [((r1.comp 2).cs.getD 0 .any),VS (((r1.comp 2).cs.getD 1 .any).toStr),VS (((r1.comp 2).cs.getD 2 .any).toStr)]] [] fun r2 o2=>NT r2<|NS (r2.comp 0)<|NB (r2.comp 1)<|.call 20 [VS ((r1.comp 0).toStr),VS ((r1.comp 1).toStr),.agg [((r1.comp 2).cs.getD 0 .any),VS (((r1.comp 2).cs.getD 1 .any).toStr),VS (((r1.comp 2).cs.getD 2 .any).toStr)]] [] fun r3 o3=>NT r3<|NS (r3.comp 0)<|NB (r3.comp 1)<|.test (!(((r2.comp 1).toBool)==((r3.comp 1).toBool))) (.test (((r2.comp 1).toBool)==((r3.comp 1).toBool)) (.done 0 [VB (af ((r2.comp 0).toStr)==af ((r3.comp 0).toStr))] []) (.done 0 [VB false] [])) (.test (!(af ((r2.comp 0).toStr)==af ((r3.comp 0).toStr))) (.test (((r2.comp 1).toBool)==((r3.comp 1).toBool)) (.done 0 [VB (af ((r2.comp 0).toStr)==af ((r3.comp 0).toStr))] []) (.done 0 [VB false] [])) (.test (!((r2.comp 1).toBool)) (.test (((r2.comp 1).toBool)==((r3.comp 1).toBool)) (.done 0 [VB (af ((r2.comp 0).toStr)==af ((r3.comp 0).toStr))] []) (.done 0 [VB false] [])) (.call 7 [VS ((r1.comp 0).toStr),VS ((r1.comp 1).toStr),VS ((r2.comp 0).toStr)] [] fun r4 o4=>NT r4<|.ai ((r4.comp 0)=.agg (r4.comp 0).cs/\aH [.vec 1,.lk .str,.lk .str] ((r4.comp 0).cs) 0 0 o4)<|NB (r4.comp 1)<|.ai (∀x,x∈o4->dI x)<|NL ((r1.comp 2).cs.getD 0 .any)<|.test ((r4.comp 1).toBool) (.test (af ((r2.comp 0).toStr)==af ((r1.comp 1).toStr)) (.done 0 [VB true] []) (.test (decide ((((o4.hO).es).length:Int)≥((((r1.comp 2).cs.getD 0 .any).elems).length:Int))) (.ai (0<=(0:Int)/\(0:Int)<=((((r1.comp 2).cs.getD 0 .any).elems).length:Int)/\((((r1.comp 2).cs.getD 0 .any).elems).length:Int)<=(((o4.hO).es).length:Int))<|.call 21 [.sl ((((o4.hO).es).take (bK ((((r1.comp 2).cs.getD 0 .any).elems).length:Int))).drop (bK 0)),((r1.comp 2).cs.getD 0 .any)] [] fun r5 o5=>NB r5<|.done 0 [VB r5.toBool] []) (.done 0 [VB false] []))) (.done 0 [VB false] [])))))
theorem Ta(a0:AV)(ha0:LK.has .sl a0)(h:dq 88 (Oc a0) R):aq Tryz.prog 5 [a0] [] R :=
 uQ (ag (bN ha0) aC) (oQ [] Tryz.f5 h)
def QO(a0:ByteArray)(a1:ByteArray)(a2:ByteArray):Tree :=
 .call 24 [VS a0,VS a1] [] fun r1 o1=>NT r1<|NP (r1.comp 0)<|NP (r1.comp 1)<|.call 24 [VS a0,VS a2] [] fun r2 o2=>NT r2<|NP (r2.comp 0)<|NP (r2.comp 1)<|NP (r1.comp 1)<|.test ((r1.comp 1).isNil) (.done 0 [.cm [.agg [.vec 0,VS (mk []),VS (mk [])],VB false]] [.vec 1 []]) (NP (r2.comp 1)<|.test ((r2.comp 1).isNil) (.done 0 [.cm [.agg [.vec 0,VS (mk []),VS (mk [])],VB false]] [.vec 1 []]) (.call 25 [(r1.comp 0),(r1.comp 1),(r2.comp 1)] [] fun r3 o3=>.ai (r3=.agg r3.cs/\aH [.vec 1,.lk .str,.lk .str] r3.cs 0 0 o3)<|.ai (∀x,x∈o3->dI x)<|.done 0 [.cm [.agg [.vec 0,VS ((r3.cs.getD 1 .any).toStr),VS ((r3.cs.getD 2 .any).toStr)],VB true]] [.vec 1 ((o3.hO).es)]))
theorem TU(a0:ByteArray)(a1:ByteArray)(a2:ByteArray)(h:dq 35 (QO a0 a1 a2) R):aq Tryz.prog 7 [VS a0,VS a1,VS a2] [] R :=
 uQ (ag (az _) (ag (az _) (ag (az _) aC))) (oF [] {mu:=[],own:=[0],oa:=[.vec 1,.lk .str,.lk .str]} Tryz.f7 h)
def LS(a0:ByteArray)(a1:ByteArray)(a2:ByteArray):Tree :=
 .call 26 [VS a0] [] fun r1 o1=>NT r1<|.ai ((r1.comp 0)=.agg (r1.comp 0).cs/\(r1.comp 0).cs.length=2/\bC [.str,.sl] ((r1.comp 0).cs) 0)<|NB (r1.comp 1)<|.test (!((r1.comp 1).toBool)) (.done 0 [.cm [.agg [.vec 0,VS (mk []),VS (mk [])],VB false]] [.vec 1 []]) (.call 27 [VS a0,VS a1,VI 100] [] fun r2 o2=>NB r2<|.test (!r2.toBool) (.done 0 [.cm [.agg [.vec 0,VS (mk []),VS (mk [])],VB false]] [.vec 1 []]) (.call 27 [VS a0,VS a2,VI 100] [] fun r3 o3=>NB r3<|.test (!r3.toBool) (.done 0 [.cm [.agg [.vec 0,VS (mk []),VS (mk [])],VB false]] [.vec 1 []]) (.call 28 [VS a1] [] fun r4 o4=>NT r4<|.ai ((r4.comp 0)=.agg (r4.comp 0).cs/\(r4.comp 0).cs.length=2/\bC [.str,.sl] ((r4.comp 0).cs) 0)<|NB (r4.comp 1)<|.call 28 [VS a2] [] fun r5 o5=>NT r5<|.ai ((r5.comp 0)=.agg (r5.comp 0).cs/\(r5.comp 0).cs.length=2/\bC [.str,.sl] ((r5.comp 0).cs) 0)<|NB (r5.comp 1)<|.call 29 [.agg [VS (((r1.comp 0).cs.getD 0 .any).toStr),((r1.comp 0).cs.getD 1 .any)],.agg [VS (((r4.comp 0).cs.getD 0 .any).toStr),((r4.comp 0).cs.getD 1 .any)],.agg [VS (((r5.comp 0).cs.getD 0 .any).toStr),((r5.comp 0).cs.getD 1 .any)]] [] fun r6 o6=>.ai (r6=.agg r6.cs/\aH [.vec 1,.lk .str,.lk .str] r6.cs 0 0 o6)<|.ai (∀x,x∈o6->dI x)<|.done 0 [.cm [.agg [.vec 0,VS ((r6.cs.getD 1 .any).toStr),VS ((r6.cs.getD 2 .any).toStr)],VB true]] [.vec 1 ((o6.hO).es)])))
theorem Tw(a0:ByteArray)(a1:ByteArray)(a2:ByteArray)(h:dq 48 (LS a0 a1 a2) R):aq Tryz.prog 8 [VS a0,VS a1,VS a2] [] R :=
 uQ (ag (az _) (ag (az _) (ag (az _) aC))) (oF [] {mu:=[],own:=[0],oa:=[.vec 1,.lk .str,.lk .str]} Tryz.f8 h)
def Px(a0:ByteArray)(a1:ByteArray)(a2_0:AV)(a2_1:ByteArray)(a2_2:ByteArray):Tree :=
 .call 30 [VS a0,VS a1,a2_0] [] fun r1 o1=>NT r1<|.ai ((r1.comp 0)=.agg (r1.comp 0).cs/\aH [.lk .str,.vec 1,.lk .str] ((r1.comp 0).cs) 0 0 o1)<|NB (r1.comp 1)<|.ai (∀x,x∈o1->dI x)<|.test (!((r1.comp 1).toBool)) (.done 0 [.cm [VS (mk []),VB false]] []) (.test (!(af (((r1.comp 0).cs.getD 2 .any).toStr)==af a2_1)) (.done 0 [.cm [VS (mk []),VB false]] []) (.call 31 [.agg [VS (((r1.comp 0).cs.getD 0 .any).toStr),.sl ((o1.hO).es),VS (((r1.comp 0).cs.getD 2 .any).toStr)],VS a2_2] [] fun r2 o2=>NT r2<|.ai ((r2.comp 0)=.agg (r2.comp 0).cs/\aH [.lk .str,.vec 1,.lk .str] ((r2.comp 0).cs) 0 0 o2)<|NB (r2.comp 1)<|.ai (∀x,x∈o2->dI x)<|.test (!((r2.comp 1).toBool)) (.done 0 [.cm [VS (mk []),VB false]] []) (.call 32 [.agg [VS (((r2.comp 0).cs.getD 0 .any).toStr),.sl ((o2.hO).es),VS (((r2.comp 0).cs.getD 2 .any).toStr)]] [] fun r3 o3=>NT r3<|NS (r3.comp 0)<|NB (r3.comp 1)<|.done 0 [.cm [VS ((r3.comp 0).toStr),VB ((r3.comp 1).toBool)]] [])))
theorem SF(a0:ByteArray)(a1:ByteArray)(a2_0:AV)(a2_1:ByteArray)(a2_2:ByteArray)(ha2_0:LK.has .sl a2_0)(h:dq 40 (Px a0 a1 a2_0 a2_1 a2_2) R):aq Tryz.prog 10 [VS a0,VS a1,.agg [a2_0,VS a2_1,VS a2_2]] [] R :=
 uQ (ag (az _) (ag (az _) (ag (bX (ag (bN ha2_0) (ag (az _) (ag (az _) aC)))) aC))) (oQ [] Tryz.f10 h)
def Lm(a0:ByteArray)(a1:ByteArray):Tree :=
 .call 26 [VS a0] [] fun r1 o1=>NT r1<|.ai ((r1.comp 0)=.agg (r1.comp 0).cs/\(r1.comp 0).cs.length=2/\bC [.str,.sl] ((r1.comp 0).cs) 0)<|NB (r1.comp 1)<|.call 28 [VS a1] [] fun r2 o2=>NT r2<|.ai ((r2.comp 0)=.agg (r2.comp 0).cs/\(r2.comp 0).cs.length=2/\bC [.str,.sl] ((r2.comp 0).cs) 0)<|NB (r2.comp 1)<|.test (!((r1.comp 1).toBool)) (.done 0 [.cm [.sl [],VB false]] []) (.call 27 [VS a0,VS a1,VI 100] [] fun r3 o3=>NB r3<|.test (!r3.toBool) (.done 0 [.cm [.sl [],VB false]] []) (NG ((r1.comp 0).cs.getD 1 .any) 2 2<|NE (((r1.comp 0).cs.getD 1 .any).ix (2:Int))<|NG ((r1.comp 0).cs.getD 1 .any) 1 2<|lL (((r1.comp 0).cs.getD 1 .any).ix (1:Int))<|NG ((r2.comp 0).cs.getD 1 .any) 1 2<|NE (((r2.comp 0).cs.getD 1 .any).ix (1:Int))<|.call 37 [.agg [VS (((((r1.comp 0).cs.getD 1 .any).ix (2:Int)).getD 0 .any).toStr),((((r1.comp 0).cs.getD 1 .any).ix (2:Int)).getD 1 .any)],VS (((((r1.comp 0).cs.getD 1 .any).ix (1:Int)).hA).toStr),.agg [VS (((((r2.comp 0).cs.getD 1 .any).ix (1:Int)).getD 0 .any).toStr),((((r2.comp 0).cs.getD 1 .any).ix (1:Int)).getD 1 .any)]] [] fun r4 o4=>NL r4<|.call 36 [r4] [] fun r5 o5=>NL r5<|.done 0 [.cm [r5,VB true]] []))
theorem Un(a0:ByteArray)(a1:ByteArray)(h:dq 44 (Lm a0 a1) R):aq Tryz.prog 13 [VS a0,VS a1] [] R :=
 uQ (ag (az _) (ag (az _) aC)) (oQ [] Tryz.f13 h)
def Ou(a0:ByteArray):Tree :=
 .call 38 [VS a0] [] fun r1 o1=>NP r1<|NP r1<|.test r1.isNil (.done 0 [.cm [VS (mk []),VB false]] []) (NZ r1<|NZ r1<|.ai (LK.has (.int .u8) (r1.deref.hA)/\1<=r1.deref.length)<|.test (((r1.deref.hA).toInt) != (114:Int)) (.done 0 [.cm [VS (mk []),VB false]] []) (.call 39 [r1] [] fun r2 o2=>NT r2<|NP (r2.comp 0)<|NB (r2.comp 1)<|.test (!((r2.comp 1).toBool)) (.done 0 [.cm [VS (mk []),VB false]] []) (.call 40 [(r2.comp 0)] [] fun r3 o3=>NT r3<|NS (r3.comp 0)<|NB (r3.comp 1)<|.done 0 [.cm [VS ((r3.comp 0).toStr),VB ((r3.comp 1).toBool)]] [])))
theorem SJ(a0:ByteArray)(h:dq 29 (Ou a0) R):aq Tryz.prog 15 [VS a0] [] R :=
 uQ (ag (az _) aC) (oQ [] Tryz.f15 h)
def Q3(a0:AV):Tree :=
 .call 23 [a0] [] fun r1 o1=>.ai (r1=.ref 0 0/\(o1.hO)=.cells (o1.hO).cs/\(o1.hO).cs.length=2/\bC [.sl,.int .i64] ((o1.hO).cs) 0)<|.call 22 [.ref 0 0] [.cells [((o1.hO).cs.getD 0 .any),VI (((o1.hO).cs.getD 1 .any).toInt)]] fun r2 o2=>.ai ((o2.hO)=.cells (o2.hO).cs)<|.ai (aH [.lk .sl,.lk (.int .i64)] ((o2.hO).cs) 0 1 o2.tail)<|.ai (r2=.cm [r2.comp 0,r2.comp 1,r2.comp 2])<|NS (r2.comp 0)<|NS (r2.comp 1)<|NS (r2.comp 2)<|.call 8 [VS ((r2.comp 0).toStr),VS ((r2.comp 1).toStr),VS ((r2.comp 2).toStr)] [] fun r3 o3=>NT r3<|.ai ((r3.comp 0)=.agg (r3.comp 0).cs/\aH [.vec 1,.lk .str,.lk .str] ((r3.comp 0).cs) 0 0 o3)<|NB (r3.comp 1)<|.ai (∀x,x∈o3->dI x)<|.test (!((r3.comp 1).toBool)) (.done 0 [.cm [VS ((r2.comp 0).toStr),VS ((r2.comp 1).toStr),.agg [.sl [[VI 0]],VS ((r2.comp 1).toStr),VS ((r2.comp 2).toStr)]]] []) (.call 45 [.ref 0 0,VI 10] [.cells [((o2.hO).cs.getD 0 .any),VI (((o2.hO).cs.getD 1 .any).toInt)]] fun r4 o4=>.ai ((o4.hO)=.cells (o4.hO).cs)<|.ai (aH [.lk .sl,.lk (.int .i64)] ((o4.hO).cs) 0 1 o4.tail)<|NI r4<|.test (r4.toInt==(0:Int)) (.ai (ck 1 [[VI 0]]/\((((o3.hO).es).length)+([[VI 0]]:List (List AV)).length)*8<=140737488355328)<|.done 0 [.cm [VS ((r2.comp 0).toStr),VS ((r2.comp 1).toStr),.agg [.sl (((o3.hO).es)++([[VI 0]]:List (List AV))),VS (((r3.comp 0).cs.getD 1 .any).toStr),VS (((r3.comp 0).cs.getD 2 .any).toStr)]]] []) (.test (r4.toInt==(1:Int)) (.done 0 [.cm [VS ((r2.comp 0).toStr),VS ((r2.comp 1).toStr),.agg [.sl ((o3.hO).es),VS (((r3.comp 0).cs.getD 2 .any).toStr),VS (((r3.comp 0).cs.getD 2 .any).toStr)]]] []) (.test (r4.toInt==(2:Int)) (.done 0 [.cm [VS ((r2.comp 0).toStr),VS ((r2.comp 1).toStr),.agg [.sl ((o3.hO).es),VS (((r3.comp 0).cs.getD 1 .any).toStr),VS (mk [117])]]] []) (.done 0 [.cm [VS ((r2.comp 0).toStr),VS ((r2.comp 1).toStr),.agg [.sl ((o3.hO).es),VS (((r3.comp 0).cs.getD 1 .any).toStr),VS (((r3.comp 0).cs.getD 2 .any).toStr)]]] []))))
theorem Us(a0:AV)(ha0:LK.has .sl a0)(h:dq 54 (Q3 a0) R):aq Tryz.prog 19 [a0] [] R :=
 uQ (ag (bN ha0) aC) (oQ [] Tryz.f19 h)
def Ln(a0:ByteArray)(a1:ByteArray)(a2_0:AV)(a2_1:ByteArray)(a2_2:ByteArray):Tree :=
 .call 46 [VS a0,VS a1,a2_0] [] fun r1 o1=>NT r1<|.ai ((r1.comp 0)=.agg (r1.comp 0).cs/\(r1.comp 0).cs.length=3/\bC [.str,.sl,.str] ((r1.comp 0).cs) 0)<|NB (r1.comp 1)<|.test (!((r1.comp 1).toBool)) (.done 0 [.cm [VS (mk []),VB false]] []) (.test (!(af (((r1.comp 0).cs.getD 2 .any).toStr)==af a2_1)) (.done 0 [.cm [VS (mk []),VB false]] []) (.call 47 [.agg [VS (((r1.comp 0).cs.getD 0 .any).toStr),((r1.comp 0).cs.getD 1 .any),VS (((r1.comp 0).cs.getD 2 .any).toStr)],VS a2_2] [] fun r2 o2=>NT r2<|.ai ((r2.comp 0)=.agg (r2.comp 0).cs/\aH [.lk .str,.vec 1,.lk .str] ((r2.comp 0).cs) 0 0 o2)<|NB (r2.comp 1)<|.ai (∀x,x∈o2->dI x)<|.test (!((r2.comp 1).toBool)) (.done 0 [.cm [VS (mk []),VB false]] []) (.call 48 [.agg [VS (((r2.comp 0).cs.getD 0 .any).toStr),.sl ((o2.hO).es),VS (((r2.comp 0).cs.getD 2 .any).toStr)]] [] fun r3 o3=>NT r3<|NS (r3.comp 0)<|NB (r3.comp 1)<|.done 0 [.cm [VS ((r3.comp 0).toStr),VB ((r3.comp 1).toBool)]] [])))
theorem R3(a0:ByteArray)(a1:ByteArray)(a2_0:AV)(a2_1:ByteArray)(a2_2:ByteArray)(ha2_0:LK.has .sl a2_0)(h:dq 42 (Ln a0 a1 a2_0 a2_1 a2_2) R):aq Tryz.prog 20 [VS a0,VS a1,.agg [a2_0,VS a2_1,VS a2_2]] [] R :=
 uQ (ag (az _) (ag (az _) (ag (bX (ag (bN ha2_0) (ag (az _) (ag (az _) aC)))) aC))) (oQ [] Tryz.f20 h)
def IP:LI:={hd:={bQ:=[(0,.k .sl),(1,.k .sl),(5,.k (.int .i64))]},xs:={},rt:={bQ:=[(4,.k .bool)]},ex:=0}
def MY:Code:=cL (cG Tryz.f21) 4
def QX:List (Nat×LI):=[(4,IP)]
def LN(a0:AV)(a1:AV):Tree :=
 NL a0<|NL a1<|.test ((a0.elems.length:Int) != (a1.elems.length:Int)) (.done 0 [VB false] []) (.loop MY IP [a0,a1,VI 0] [] (fun y1 q1=>.done 0 [VB true] []) (fun y1 q1=>NB (y1.hA)<|.done 0 [VB ((y1.hA).toBool)] []))
theorem T5(a0:AV)(a1:AV)(ha0:LK.has .sl a0)(ha1:LK.has .sl a1)(h:dq 26 (LN a0 a1) R):aq Tryz.prog 21 [a0,a1] [] R :=
 uQ (ag (bN ha0) (ag (bN ha1) aC)) (oQ QX Tryz.f21 h)
def Kn(x0:AV)(x1:AV)(x5:Int):Tree :=
 NL x0<|NL x1<|NI (VI x5)<|NL x0<|.test (decide (x5<(x0.elems.length:Int))) (NG x0 x5 1<|.ai (LK.has (.int .i64) ((x0.ix x5).hA)/\1<=(x0.ix x5).length)<|NG x1 x5 1<|.ai (LK.has (.int .i64) ((x1.ix x5).hA)/\1<=(x1.ix x5).length)<|.test ((((x0.ix x5).hA).toInt) != (((x1.ix x5).hA).toInt)) (.done 2 [VB false] []) (.done 0 [x0,x1,VI (IntKind.wrap .i64 (x5+1))] [])) (.done 1 [] [])
abbrev HR:=cF Tryz.prog 26 MY IP
theorem Lv(x0:AV)(x1:AV)(x5:Int)(h:kO 26 (Kn x0 x1 x5) HR U):HR [x0,x1,VI x5] [] U :=
 gQ QX h
def MH(a0_0:AV)(a0_1:Int):Tree :=
 .call 33 [.ref 0 0] [.cells [a0_0,VI a0_1]] fun r1 o1=>.ai ((o1.hO)=.cells (o1.hO).cs)<|.ai (aH [.lk .sl,.lk (.int .i64)] ((o1.hO).cs) 0 1 o1.tail)<|NT r1<|NS (r1.comp 0)<|NS (r1.comp 1)<|.call 49 [VS ((r1.comp 0).toStr),VS ((r1.comp 1).toStr)] [] fun r2 o2=>NT r2<|NL (r2.comp 0)<|NB (r2.comp 1)<|.test ((r2.comp 1).toBool) (.call 45 [.ref 0 0,VI 5] [.cells [((o1.hO).cs.getD 0 .any),VI (((o1.hO).cs.getD 1 .any).toInt)]] fun r3 o3=>.ai ((o3.hO)=.cells (o3.hO).cs)<|.ai (aH [.lk .sl,.lk (.int .i64)] ((o3.hO).cs) 0 1 o3.tail)<|NI r3<|.test (decide (r3.toInt>(0:Int))) (NL (r2.comp 0)<|.call 45 [.ref 0 0,VI (((r2.comp 0).elems).length:Int)] [.cells [((o3.hO).cs.getD 0 .any),VI (((o3.hO).cs.getD 1 .any).toInt)]] fun r4 o4=>.ai ((o4.hO)=.cells (o4.hO).cs)<|.ai (aH [.lk .sl,.lk (.int .i64)] ((o4.hO).cs) 0 1 o4.tail)<|NI r4<|.ai (LK.has .sl (r2.comp 0)/\0<=r4.toInt/\r4.toInt<(r2.comp 0).elems.length/\((r2.comp 0).elems.getD r4.toInt.toNat []).length=1)<|oH ((r2.comp 0).elems.getD r4.toInt.toNat [])<|.call 46 [VS ((r1.comp 0).toStr),VS ((r1.comp 1).toStr),(((r2.comp 0).elems.getD r4.toInt.toNat []).hA)] [] fun r5 o5=>NT r5<|.ai ((r5.comp 0)=.agg (r5.comp 0).cs/\(r5.comp 0).cs.length=3/\bC [.str,.sl,.str] ((r5.comp 0).cs) 0)<|NB (r5.comp 1)<|.call 50 [.ref 0 0,VS ((r1.comp 0).toStr)] [.cells [((o4.hO).cs.getD 0 .any),VI (((o4.hO).cs.getD 1 .any).toInt)]] fun r6 o6=>.ai ((o6.hO)=.cells (o6.hO).cs)<|.ai (aH [.lk .sl,.lk (.int .i64)] ((o6.hO).cs) 0 1 o6.tail)<|NS r6<|.call 47 [.agg [VS (((r5.comp 0).cs.getD 0 .any).toStr),((r5.comp 0).cs.getD 1 .any),VS (((r5.comp 0).cs.getD 2 .any).toStr)],VS r6.toStr] [] fun r7 o7=>NT r7<|.ai ((r7.comp 0)=.agg (r7.comp 0).cs/\aH [.lk .str,.vec 1,.lk .str] ((r7.comp 0).cs) 0 0 o7)<|NB (r7.comp 1)<|.ai (∀x,x∈o7->dI x)<|.call 48 [.agg [VS (((r7.comp 0).cs.getD 0 .any).toStr),.sl ((o7.hO).es),VS (((r7.comp 0).cs.getD 2 .any).toStr)]] [] fun r8 o8=>NT r8<|NS (r8.comp 0)<|NB (r8.comp 1)<|.test ((r5.comp 1).toBool) (.test ((r7.comp 1).toBool) (.test ((r8.comp 1).toBool) (.done 0 [.cm [VS ((r1.comp 0).toStr),VS ((r1.comp 1).toStr),VS ((r8.comp 0).toStr)]] [.cells [((o6.hO).cs.getD 0 .any),VI (((o6.hO).cs.getD 1 .any).toInt)]]) (.call 50 [.ref 0 0,VS ((r1.comp 0).toStr)] [.cells [((o6.hO).cs.getD 0 .any),VI (((o6.hO).cs.getD 1 .any).toInt)]] fun r9 o9=>.ai ((o9.hO)=.cells (o9.hO).cs)<|.ai (aH [.lk .sl,.lk (.int .i64)] ((o9.hO).cs) 0 1 o9.tail)<|NS r9<|.done 0 [.cm [VS ((r1.comp 0).toStr),VS ((r1.comp 1).toStr),VS r9.toStr]] [.cells [((o9.hO).cs.getD 0 .any),VI (((o9.hO).cs.getD 1 .any).toInt)]])) (.call 50 [.ref 0 0,VS ((r1.comp 0).toStr)] [.cells [((o6.hO).cs.getD 0 .any),VI (((o6.hO).cs.getD 1 .any).toInt)]] fun r10 o10=>.ai ((o10.hO)=.cells (o10.hO).cs)<|.ai (aH [.lk .sl,.lk (.int .i64)] ((o10.hO).cs) 0 1 o10.tail)<|NS r10<|.done 0 [.cm [VS ((r1.comp 0).toStr),VS ((r1.comp 1).toStr),VS r10.toStr]] [.cells [((o10.hO).cs.getD 0 .any),VI (((o10.hO).cs.getD 1 .any).toInt)]])) (.call 50 [.ref 0 0,VS ((r1.comp 0).toStr)] [.cells [((o6.hO).cs.getD 0 .any),VI (((o6.hO).cs.getD 1 .any).toInt)]] fun r11 o11=>.ai ((o11.hO)=.cells (o11.hO).cs)<|.ai (aH [.lk .sl,.lk (.int .i64)] ((o11.hO).cs) 0 1 o11.tail)<|NS r11<|.done 0 [.cm [VS ((r1.comp 0).toStr),VS ((r1.comp 1).toStr),VS r11.toStr]] [.cells [((o11.hO).cs.getD 0 .any),VI (((o11.hO).cs.getD 1 .any).toInt)]])) (.call 50 [.ref 0 0,VS ((r1.comp 0).toStr)] [.cells [((o3.hO).cs.getD 0 .any),VI (((o3.hO).cs.getD 1 .any).toInt)]] fun r12 o12=>.ai ((o12.hO)=.cells (o12.hO).cs)<|.ai (aH [.lk .sl,.lk (.int .i64)] ((o12.hO).cs) 0 1 o12.tail)<|NS r12<|.done 0 [.cm [VS ((r1.comp 0).toStr),VS ((r1.comp 1).toStr),VS r12.toStr]] [.cells [((o12.hO).cs.getD 0 .any),VI (((o12.hO).cs.getD 1 .any).toInt)]])) (.call 50 [.ref 0 0,VS ((r1.comp 0).toStr)] [.cells [((o1.hO).cs.getD 0 .any),VI (((o1.hO).cs.getD 1 .any).toInt)]] fun r13 o13=>.ai ((o13.hO)=.cells (o13.hO).cs)<|.ai (aH [.lk .sl,.lk (.int .i64)] ((o13.hO).cs) 0 1 o13.tail)<|NS r13<|.done 0 [.cm [VS ((r1.comp 0).toStr),VS ((r1.comp 1).toStr),VS r13.toStr]] [.cells [((o13.hO).cs.getD 0 .any),VI (((o13.hO).cs.getD 1 .any).toInt)]])
theorem SP(a0_0:AV)(a0_1:Int)(ha0_0:LK.has .sl a0_0)(h:dq 73 (MH a0_0 a0_1) R):aq Tryz.prog 22 [.ref 0 0] [.cells [a0_0,VI a0_1]] R :=
 aq.oE (bG (cu (ag (bN ha0_0) (ag (az _) aC))) cH) (aq.up (ag (az _) aC) (oF [] {mu:=[(0,.one (.obj [.lk .sl,.lk (.int .i64)]))],own:=[]} Tryz.f22 h))
def Mx(a0:AV):Tree :=
 NL a0<|.test (decide ((a0.elems.length:Int)>(2000:Int))) (.ai (LK.has .sl a0/\0<=(0:Int)/\(0:Int)<=(2000:Int)/\(2000:Int)<=(a0.elems.length:Int))<|.done 0 [.ref 0 0] [.cells [.sl ((a0.elems.take (bK 2000)).drop (bK 0)),VI 0]]) (.done 0 [.ref 0 0] [.cells [a0,VI 0]])
theorem Uo(a0:AV)(ha0:LK.has .sl a0)(h:dq 11 (Mx a0) R):aq Tryz.prog 23 [a0] [] R :=
 uQ (ag (bN ha0) aC) (oF [] {mu:=[],own:=[0],ow:=[.sl,.int .i64]} Tryz.f23 h)
def Ls(a0:ByteArray)(a1:ByteArray):Tree :=
 .call 51 [VS a0] [] fun r1 o1=>NP r1<|NP r1<|.test r1.isNil (.done 0 [.cm [.v (.pointer none),.v (.pointer none)]] []) (.call 41 [VS a0,VS a1,VI 100] [] fun r2 o2=>NT r2<|NP (r2.comp 0)<|NP (r2.comp 1)<|.done 0 [.cm [(r2.comp 0),(r2.comp 1)]] [])
theorem SI(a0:ByteArray)(a1:ByteArray)(h:dq 14 (Ls a0 a1) R):aq Tryz.prog 24 [VS a0,VS a1] [] R :=
 uQ (ag (az _) (ag (az _) aC)) (oQ [] Tryz.f24 h)
def HL:LI:={hd:={bQ:=[(0,.k .ptr),(8,.k .sl),(9,.k .sl),(39,.k .sl),(40,.k (.int .i64)),(41,.k (.int .i64))],refs:=[(6,6),(7,7)],cv:=[(6,[.lk .sl,.lk .str,.lk .str]),(7,[.vec 1,.lk .str,.lk .str])],eV:=[(10,1)]},xs:={bQ:=[(0,.k .ptr),(8,.k .sl),(9,.k .sl)],refs:=[(6,6),(7,7)],cv:=[(6,[.lk .sl,.lk .str,.lk .str]),(7,[.vec 1,.lk .str,.lk .str])],eV:=[(10,1)]},rt:={},ex:=0}
def PB:Code:=cL (cG Tryz.f25) 9
def Nc:List (Nat×LI):=[(9,HL)]
def Qq(a0:AV)(a1:AV)(a2:AV):Tree :=
 .call 52 [a1] [] fun r1 o1=>NS r1<|.call 52 [a2] [] fun r2 o2=>NS r2<|.test (af r1.toStr==af r2.toStr) (.done 0 [.agg [.vec 0,VS r1.toStr,VS r2.toStr]] [.vec 1 []]) (.call 35 [a0,a1] [] fun r3 o3=>NL r3<|.call 35 [a0,a2] [] fun r4 o4=>NL r4<|NL r3<|NL r4<|.test ((r3.elems.length:Int) != (r4.elems.length:Int)) (.done 0 [.agg [.vec 0,VS r1.toStr,VS r2.toStr]] [.vec 1 []]) (NL r3<|.loop PB HL [a0,r3,r4,r3,VI (r3.elems.length:Int),VI 0] [.cells [.v (.slice none 0 0),VS (mk []),VS (mk [])],.cells [.any,VS r1.toStr,VS r2.toStr],.vec 1 [],.vec 1 []] (fun y7 q7=>NP (y7.hA)<|NL (y7.tail.hA)<|NL (y7.tail.tail.hA)<|.ai ((q7.hO)=.cells (q7.hO).cs)<|.ai (ae [.lk .sl,.lk .str,.lk .str] ((q7.hO).cs) 0 q7.tail)<|.ai (((q7.tail.drop 0).hO)=.cells ((q7.tail.drop 0).hO).cs)<|.ai (ae [.vec 1,.lk .str,.lk .str] (((q7.tail.drop 0).hO).cs) 0 ((q7.tail.drop 0).tail))<|.ai (((q7.drop 3).hO)=.vec 1 ((q7.drop 3).hO).es)<|.test ((((q7.tail.tail.tail.hO).es).length:Int) != (1:Int)) (.done 0 [.agg [.vec 0,VS (((q7.tail.hO).cs.getD 1 .any).toStr),VS (((q7.tail.hO).cs.getD 2 .any).toStr)]] [.vec 1 ((q7.tail.tail.hO).es)]) (.ai (0<=(0:Int)/\(0:Int)<((q7.tail.tail.tail.hO).es).length)<|.ai ((0:Int).toNat<((q7.tail.tail.tail.hO).es).length/\0<(((q7.tail.tail.tail.hO).es).getD ((0:Int).toNat) []).length/\LK.has (.int .i64) ((((q7.tail.tail.tail.hO).es).getD ((0:Int).toNat) []).getD 0 .any))<|.ai (LK.has .sl (y7.tail.hA)/\0<=(((((q7.tail.tail.tail.hO).es).getD ((0:Int).toNat) []).getD 0 .any).toInt)/\(((((q7.tail.tail.tail.hO).es).getD ((0:Int).toNat) []).getD 0 .any).toInt)<(y7.tail.hA).elems.length/\((y7.tail.hA).ix (((((q7.tail.tail.tail.hO).es).getD ((0:Int).toNat) []).getD 0 .any).toInt)).length=2)<|ei ((y7.tail.hA).ix (((((q7.tail.tail.tail.hO).es).getD ((0:Int).toNat) []).getD 0 .any).toInt))<|.ai (LK.has .sl (y7.tail.tail.hA)/\0<=(((((q7.tail.tail.tail.hO).es).getD ((0:Int).toNat) []).getD 0 .any).toInt)/\(((((q7.tail.tail.tail.hO).es).getD ((0:Int).toNat) []).getD 0 .any).toInt)<(y7.tail.tail.hA).elems.length/\((y7.tail.tail.hA).ix (((((q7.tail.tail.tail.hO).es).getD ((0:Int).toNat) []).getD 0 .any).toInt)).length=2)<|.ai (LK.has .ptr ((((y7.tail.tail.hA).ix (((((q7.tail.tail.tail.hO).es).getD ((0:Int).toNat) []).getD 0 .any).toInt)).drop 1).hA)/\1<=(((y7.tail.tail.hA).ix (((((q7.tail.tail.tail.hO).es).getD ((0:Int).toNat) []).getD 0 .any).toInt)).drop 1).length)<|.call 43 [(y7.hA),(((y7.tail.hA).ix (((((q7.tail.tail.tail.hO).es).getD ((0:Int).toNat) []).getD 0 .any).toInt)).hA),((((y7.tail.tail.hA).ix (((((q7.tail.tail.tail.hO).es).getD ((0:Int).toNat) []).getD 0 .any).toInt)).drop 1).hA)] [] fun r8 o8=>NP r8<|.call 52 [r8] [] fun r9 o9=>NS r9<|.test (!(af r9.toStr==af (((q7.tail.hO).cs.getD 2 .any).toStr))) (.done 0 [.agg [.vec 0,VS (((q7.tail.hO).cs.getD 1 .any).toStr),VS (((q7.tail.hO).cs.getD 2 .any).toStr)]] [.vec 1 ((q7.tail.tail.hO).es)]) (.ai (LK.has .sl (y7.tail.hA)/\0<=(((((q7.tail.tail.tail.hO).es).getD ((0:Int).toNat) []).getD 0 .any).toInt)/\(((((q7.tail.tail.tail.hO).es).getD ((0:Int).toNat) []).getD 0 .any).toInt)<(y7.tail.hA).elems.length/\((y7.tail.hA).ix (((((q7.tail.tail.tail.hO).es).getD ((0:Int).toNat) []).getD 0 .any).toInt)).length=2)<|.ai (LK.has .ptr ((((y7.tail.hA).ix (((((q7.tail.tail.tail.hO).es).getD ((0:Int).toNat) []).getD 0 .any).toInt)).drop 1).hA)/\1<=(((y7.tail.hA).ix (((((q7.tail.tail.tail.hO).es).getD ((0:Int).toNat) []).getD 0 .any).toInt)).drop 1).length)<|.ai (LK.has .sl (y7.tail.tail.hA)/\0<=(((((q7.tail.tail.tail.hO).es).getD ((0:Int).toNat) []).getD 0 .any).toInt)/\(((((q7.tail.tail.tail.hO).es).getD ((0:Int).toNat) []).getD 0 .any).toInt)<(y7.tail.tail.hA).elems.length/\((y7.tail.tail.hA).ix (((((q7.tail.tail.tail.hO).es).getD ((0:Int).toNat) []).getD 0 .any).toInt)).length=2)<|.ai (LK.has .ptr ((((y7.tail.tail.hA).ix (((((q7.tail.tail.tail.hO).es).getD ((0:Int).toNat) []).getD 0 .any).toInt)).drop 1).hA)/\1<=(((y7.tail.tail.hA).ix (((((q7.tail.tail.tail.hO).es).getD ((0:Int).toNat) []).getD 0 .any).toInt)).drop 1).length)<|.call 25 [(y7.hA),((((y7.tail.hA).ix (((((q7.tail.tail.tail.hO).es).getD ((0:Int).toNat) []).getD 0 .any).toInt)).drop 1).hA),((((y7.tail.tail.hA).ix (((((q7.tail.tail.tail.hO).es).getD ((0:Int).toNat) []).getD 0 .any).toInt)).drop 1).hA)] [] fun r10 o10=>.ai (r10=.agg r10.cs/\aH [.vec 1,.lk .str,.lk .str] r10.cs 0 0 o10)<|.ai (∀x,x∈o10->dI x)<|.ai (ck 1 ((o10.hO).es)/\((([[VI (((((q7.tail.tail.tail.hO).es).getD ((0:Int).toNat) []).getD 0 .any).toInt)]]:List (List AV)).length)+((o10.hO).es).length)*8<=140737488355328)<|.done 0 [.agg [.vec 0,VS ((r10.cs.getD 1 .any).toStr),VS ((r10.cs.getD 2 .any).toStr)]] [.vec 1 (([[VI (((((q7.tail.tail.tail.hO).es).getD ((0:Int).toNat) []).getD 0 .any).toInt)]]:List (List AV))++((o10.hO).es))]))) (fun y7 q7=>.fail)))
theorem RN(a0:AV)(a1:AV)(a2:AV)(ha0:LK.has .ptr a0)(ha1:LK.has .ptr a1)(ha2:LK.has .ptr a2)(h:dq 104 (Qq a0 a1 a2) R):aq Tryz.prog 25 [a0,a1,a2] [] R :=
 uQ (ag (bI ha0) (ag (bI ha1) (ag (bI ha2) aC))) (oF Nc {mu:=[],own:=[0],oa:=[.vec 1,.lk .str,.lk .str]} Tryz.f25 h)
def Jo(x0:AV)(x8:AV)(x9:AV)(x39:AV)(x40:Int)(x41:Int)(o6_0:AV)(o6_1:ByteArray)(o6_2:ByteArray)(o7_0:List (List AV))(o7_1:ByteArray)(o7_2:ByteArray)(e10:List (List AV)):Tree :=
 NP x0<|NL x8<|NL x9<|NL x39<|NI (VI x40)<|NI (VI x41)<|.ai (Ob.cells [o6_0,VS o6_1,VS o6_2]=.cells [o6_0,VS o6_1,VS o6_2])<|.ai (ae [.lk .sl,.lk .str,.lk .str] [o6_0,VS o6_1,VS o6_2] 0 [.cells [.any,VS o7_1,VS o7_2],.vec 1 o7_0,.vec 1 e10])<|.ai (Ob.cells [.any,VS o7_1,VS o7_2]=.cells [.any,VS o7_1,VS o7_2])<|.ai (ae [.vec 1,.lk .str,.lk .str] [.any,VS o7_1,VS o7_2] 0 [.vec 1 o7_0,.vec 1 e10])<|.ai (Ob.vec 1 e10=.vec 1 e10)<|.test (decide (x41<x40)) (NG x39 x41 2<|.ai (bC [.ptr,.ptr] (x39.ix x41) 0/\2<=(x39.ix x41).length)<|.call 52 [((x39.ix x41).getD 1 .any)] [] fun r1 o1=>NS r1<|NG x9 x41 2<|ei ((x9.ix x41).drop 1)<|.call 52 [(((x9.ix x41).drop 1).hA)] [] fun r2 o2=>NS r2<|.test (!(af r1.toStr==af r2.toStr)) (.ai (ck 1 [[VI x41]]/\((e10.length)+([[VI x41]]:List (List AV)).length)*8<=140737488355328)<|.done 0 [x0,x8,x9,x39,VI x40,VI (IntKind.wrap .i64 (x41+1))] [.cells [o6_0,VS o6_1,VS o6_2],.cells [.any,VS o7_1,VS o7_2],.vec 1 o7_0,.vec 1 (e10++([[VI x41]]:List (List AV)))]) (.done 0 [x0,x8,x9,x39,VI x40,VI (IntKind.wrap .i64 (x41+1))] [.cells [o6_0,VS o6_1,VS o6_2],.cells [.any,VS o7_1,VS o7_2],.vec 1 o7_0,.vec 1 e10])) (.done 1 [x0,x8,x9] [.cells [o6_0,VS o6_1,VS o6_2],.cells [.any,VS o7_1,VS o7_2],.vec 1 o7_0,.vec 1 e10])
abbrev H9:=cF Tryz.prog 104 PB HL
theorem Of(x0:AV)(x8:AV)(x9:AV)(x39:AV)(x40:Int)(x41:Int)(o6_0:AV)(o6_1:ByteArray)(o6_2:ByteArray)(o7_0:List (List AV))(o7_1:ByteArray)(o7_2:ByteArray)(e10:List (List AV))(h:kO 104 (Jo x0 x8 x9 x39 x40 x41 o6_0 o6_1 o6_2 o7_0 o7_1 o7_2 e10) H9 U):H9 [x0,x8,x9,x39,VI x40,VI x41] [.cells [o6_0,VS o6_1,VS o6_2],.cells [.any,VS o7_1,VS o7_2],.vec 1 o7_0,.vec 1 e10] U :=
 gQ Nc h
def KX(a0:ByteArray):Tree :=
 .call 53 [VS a0] [] fun r1 o1=>NT r1<|.ai ((r1.comp 0)=.agg (r1.comp 0).cs/\(r1.comp 0).cs.length=2/\bC [.str,.sl] ((r1.comp 0).cs) 0)<|NB (r1.comp 1)<|.test ((r1.comp 1).toBool) (.call 54 [.agg [VS (((r1.comp 0).cs.getD 0 .any).toStr),((r1.comp 0).cs.getD 1 .any)]] [] fun r2 o2=>NS r2<|.done 0 [.cm [.agg [VS (((r1.comp 0).cs.getD 0 .any).toStr),((r1.comp 0).cs.getD 1 .any)],VB (af r2.toStr==af (mk [114,101,99]))]] []) (.done 0 [.cm [.agg [VS (((r1.comp 0).cs.getD 0 .any).toStr),((r1.comp 0).cs.getD 1 .any)],VB false]] [])
theorem TX(a0:ByteArray)(h:dq 18 (KX a0) R):aq Tryz.prog 26 [VS a0] [] R :=
 uQ (ag (az _) aC) (oQ [] Tryz.f26 h)
def O2(a0:ByteArray)(a1:ByteArray)(a2:Int):Tree :=
 .call 53 [VS a0] [] fun r1 o1=>NT r1<|.ai ((r1.comp 0)=.agg (r1.comp 0).cs/\(r1.comp 0).cs.length=2/\bC [.str,.sl] ((r1.comp 0).cs) 0)<|NB (r1.comp 1)<|.call 28 [VS a1] [] fun r2 o2=>NT r2<|.ai ((r2.comp 0)=.agg (r2.comp 0).cs/\(r2.comp 0).cs.length=2/\bC [.str,.sl] ((r2.comp 0).cs) 0)<|NB (r2.comp 1)<|.test ((r1.comp 1).toBool) (.test ((r2.comp 1).toBool) (.call 55 [VI a2,VI 0,VI 100] [] fun r3 o3=>NB r3<|.test r3.toBool (.call 56 [.agg [VS (((r1.comp 0).cs.getD 0 .any).toStr),((r1.comp 0).cs.getD 1 .any)],.sl [],.agg [VS (((r2.comp 0).cs.getD 0 .any).toStr),((r2.comp 0).cs.getD 1 .any)],VI a2] [] fun r4 o4=>NB r4<|.done 0 [VB r4.toBool] []) (.done 0 [VB false] [])) (.done 0 [VB false] [])) (.done 0 [VB false] [])
theorem Ve(a0:ByteArray)(a1:ByteArray)(a2:Int)(h:dq 36 (O2 a0 a1 a2) R):aq Tryz.prog 27 [VS a0,VS a1,VI a2] [] R :=
 uQ (ag (az _) (ag (az _) (ag (az _) aC))) (oQ [] Tryz.f27 h)
def Qv(a0:ByteArray):Tree :=
 .call 57 [VS a0] [] fun r1 o1=>NT r1<|.ai ((r1.comp 0)=.agg (r1.comp 0).cs/\(r1.comp 0).cs.length=2/\bC [.str,.sl] ((r1.comp 0).cs) 0)<|NB (r1.comp 1)<|.test ((r1.comp 1).toBool) (.call 58 [.agg [VS (((r1.comp 0).cs.getD 0 .any).toStr),((r1.comp 0).cs.getD 1 .any)]] [] fun r2 o2=>NB r2<|.test r2.toBool (.call 59 [.agg [VS (((r1.comp 0).cs.getD 0 .any).toStr),((r1.comp 0).cs.getD 1 .any)]] [] fun r3 o3=>NI r3<|.done 0 [.cm [.agg [VS (((r1.comp 0).cs.getD 0 .any).toStr),((r1.comp 0).cs.getD 1 .any)],VB (decide (r3.toInt<=(200:Int)))]] []) (.done 0 [.cm [.agg [VS (((r1.comp 0).cs.getD 0 .any).toStr),((r1.comp 0).cs.getD 1 .any)],VB false]] [])) (.done 0 [.cm [.agg [VS (((r1.comp 0).cs.getD 0 .any).toStr),((r1.comp 0).cs.getD 1 .any)],VB false]] [])
theorem SY(a0:ByteArray)(h:dq 22 (Qv a0) R):aq Tryz.prog 28 [VS a0] [] R :=
 uQ (ag (az _) aC) (oQ [] Tryz.f28 h)
def IS:LI:={hd:={bQ:=[(8,.k .str),(9,.k .sl),(10,.k .sl),(11,.k (.int .i64)),(12,.k (.int .i64))],refs:=[(3,3),(6,6),(7,7)],cv:=[(3,[.lk .str,.lk .sl]),(6,[.lk .sl,.lk .str,.lk .str]),(7,[.vec 1,.lk .str,.lk .str])]},xs:={bQ:=[(8,.k .str),(9,.k .sl),(10,.k .sl),(11,.k (.int .i64))],refs:=[(3,3),(6,6),(7,7)],cv:=[(3,[.lk .str,.lk .sl]),(6,[.lk .sl,.lk .str,.lk .str]),(7,[.vec 1,.lk .str,.lk .str])]},rt:={refs:=[(6,6)],cv:=[(6,[.vec 1,.lk .str,.lk .str])]},ex:=0}
def PM:Code:=cL (cG Tryz.f29) 7
def KQ:List (Nat×LI):=[(7,IS)]
def MT(a0_0:ByteArray)(a0_1:AV)(a1_0:ByteArray)(a1_1:AV)(a2_0:ByteArray)(a2_1:AV):Tree :=
 .call 60 [.agg [VS a1_0,a1_1]] [] fun r1 o1=>NS r1<|.call 60 [.agg [VS a2_0,a2_1]] [] fun r2 o2=>NS r2<|NG a0_1 1 2<|lL (a0_1.ix (1:Int))<|NG a0_1 2 2<|NE (a0_1.ix (2:Int))<|NG a1_1 1 2<|NE (a1_1.ix (1:Int))<|.call 37 [.agg [VS (((a0_1.ix (2:Int)).getD 0 .any).toStr),((a0_1.ix (2:Int)).getD 1 .any)],VS (((a0_1.ix (1:Int)).hA).toStr),.agg [VS (((a1_1.ix (1:Int)).getD 0 .any).toStr),((a1_1.ix (1:Int)).getD 1 .any)]] [] fun r3 o3=>NL r3<|NG a0_1 2 2<|NE (a0_1.ix (2:Int))<|NG a2_1 1 2<|NE (a2_1.ix (1:Int))<|.call 37 [.agg [VS (((a0_1.ix (2:Int)).getD 0 .any).toStr),((a0_1.ix (2:Int)).getD 1 .any)],VS (((a0_1.ix (1:Int)).hA).toStr),.agg [VS (((a2_1.ix (1:Int)).getD 0 .any).toStr),((a2_1.ix (1:Int)).getD 1 .any)]] [] fun r4 o4=>NL r4<|.loop PM IS [VS (((a0_1.ix (1:Int)).hA).toStr),r3,r4,VI (-1),VI 0] [.cells [VS a0_0,a0_1],.cells [.v (.slice none 0 0),VS (mk []),VS (mk [])],.cells [.any,VS r1.toStr,VS r2.toStr],.vec 1 []] (fun y7 q7=>NS (y7.hA)<|NL (y7.tail.hA)<|NL (y7.tail.tail.hA)<|NI (y7.tail.tail.tail.hA)<|.ai ((q7.hO)=.cells (q7.hO).cs)<|.ai (ae [.lk .str,.lk .sl] ((q7.hO).cs) 0 q7.tail)<|.ai (((q7.tail.drop 0).hO)=.cells ((q7.tail.drop 0).hO).cs)<|.ai (ae [.lk .sl,.lk .str,.lk .str] (((q7.tail.drop 0).hO).cs) 0 ((q7.tail.drop 0).tail))<|.ai ((((q7.tail.drop 0).tail.drop 0).hO)=.cells (((q7.tail.drop 0).tail.drop 0).hO).cs)<|.ai (ae [.vec 1,.lk .str,.lk .str] ((((q7.tail.drop 0).tail.drop 0).hO).cs) 0 (((q7.tail.drop 0).tail.drop 0).tail))<|.test (decide (((y7.tail.tail.tail.hA).toInt)<(0:Int))) (.done 0 [.agg [.vec 0,VS (((q7.tail.tail.hO).cs.getD 1 .any).toStr),VS (((q7.tail.tail.hO).cs.getD 2 .any).toStr)]] [.vec 1 ((q7.tail.tail.tail.hO).es)]) (NG ((q7.hO).cs.getD 1 .any) 2 2<|NE (((q7.hO).cs.getD 1 .any).ix (2:Int))<|.ai (LK.has .sl (y7.tail.hA)/\0<=((y7.tail.tail.tail.hA).toInt)/\((y7.tail.tail.tail.hA).toInt)<(y7.tail.hA).elems.length/\((y7.tail.hA).ix ((y7.tail.tail.tail.hA).toInt)).length=4)<|NE ((y7.tail.hA).ix ((y7.tail.tail.tail.hA).toInt))<|.ai (LK.has .sl (y7.tail.tail.hA)/\0<=((y7.tail.tail.tail.hA).toInt)/\((y7.tail.tail.tail.hA).toInt)<(y7.tail.tail.hA).elems.length/\((y7.tail.tail.hA).ix ((y7.tail.tail.tail.hA).toInt)).length=4)<|NE (((y7.tail.tail.hA).ix ((y7.tail.tail.tail.hA).toInt)).drop 2)<|.call 62 [.agg [VS (((((q7.hO).cs.getD 1 .any).ix (2:Int)).getD 0 .any).toStr),((((q7.hO).cs.getD 1 .any).ix (2:Int)).getD 1 .any)],VS ((y7.hA).toStr),.agg [VS ((((y7.tail.hA).ix ((y7.tail.tail.tail.hA).toInt)).getD 0 .any).toStr),(((y7.tail.hA).ix ((y7.tail.tail.tail.hA).toInt)).getD 1 .any)],.agg [VS (((((y7.tail.tail.hA).ix ((y7.tail.tail.tail.hA).toInt)).drop 2).getD 0 .any).toStr),((((y7.tail.tail.hA).ix ((y7.tail.tail.tail.hA).toInt)).drop 2).getD 1 .any)]] [] fun r8 o8=>NA r8<|.call 61 [VS (mk [102]),.sl [[VS ((r8.cs.getD 0 .any).toStr),(r8.cs.getD 1 .any)]]] [] fun r9 o9=>NA r9<|.call 60 [.agg [VS ((r9.cs.getD 0 .any).toStr),(r9.cs.getD 1 .any)]] [] fun r10 o10=>NS r10<|.test (!(af r10.toStr==af (((q7.tail.tail.hO).cs.getD 2 .any).toStr))) (.done 0 [.agg [.vec 0,VS (((q7.tail.tail.hO).cs.getD 1 .any).toStr),VS (((q7.tail.tail.hO).cs.getD 2 .any).toStr)]] [.vec 1 ((q7.tail.tail.tail.hO).es)]) (.ai (LK.has .sl (y7.tail.hA)/\0<=((y7.tail.tail.tail.hA).toInt)/\((y7.tail.tail.tail.hA).toInt)<(y7.tail.hA).elems.length/\((y7.tail.hA).ix ((y7.tail.tail.tail.hA).toInt)).length=4)<|NE (((y7.tail.hA).ix ((y7.tail.tail.tail.hA).toInt)).drop 2)<|.ai (LK.has .sl (y7.tail.tail.hA)/\0<=((y7.tail.tail.tail.hA).toInt)/\((y7.tail.tail.tail.hA).toInt)<(y7.tail.tail.hA).elems.length/\((y7.tail.tail.hA).ix ((y7.tail.tail.tail.hA).toInt)).length=4)<|NE (((y7.tail.tail.hA).ix ((y7.tail.tail.tail.hA).toInt)).drop 2)<|.call 29 [.agg [VS (((q7.hO).cs.getD 0 .any).toStr),((q7.hO).cs.getD 1 .any)],.agg [VS (((((y7.tail.hA).ix ((y7.tail.tail.tail.hA).toInt)).drop 2).getD 0 .any).toStr),((((y7.tail.hA).ix ((y7.tail.tail.tail.hA).toInt)).drop 2).getD 1 .any)],.agg [VS (((((y7.tail.tail.hA).ix ((y7.tail.tail.tail.hA).toInt)).drop 2).getD 0 .any).toStr),((((y7.tail.tail.hA).ix ((y7.tail.tail.tail.hA).toInt)).drop 2).getD 1 .any)]] [] fun r11 o11=>.ai (r11=.agg r11.cs/\aH [.vec 1,.lk .str,.lk .str] r11.cs 0 0 o11)<|.ai (∀x,x∈o11->dI x)<|.ai (ck 1 ((o11.hO).es)/\((([[VI ((y7.tail.tail.tail.hA).toInt)]]:List (List AV)).length)+((o11.hO).es).length)*8<=140737488355328)<|.done 0 [.agg [.vec 0,VS ((r11.cs.getD 1 .any).toStr),VS ((r11.cs.getD 2 .any).toStr)]] [.vec 1 (([[VI ((y7.tail.tail.tail.hA).toInt)]]:List (List AV))++((o11.hO).es))]))) (fun y7 q7=>.ai ((q7.hO)=.cells (q7.hO).cs)<|.ai (ae [.vec 1,.lk .str,.lk .str] ((q7.hO).cs) 0 q7.tail)<|.done 0 [.agg [.vec 0,VS (((q7.hO).cs.getD 1 .any).toStr),VS (((q7.hO).cs.getD 2 .any).toStr)]] [.vec 1 ((q7.tail.hO).es)])
theorem SN(a0_0:ByteArray)(a0_1:AV)(a1_0:ByteArray)(a1_1:AV)(a2_0:ByteArray)(a2_1:AV)(ha0_1:LK.has .sl a0_1)(ha1_1:LK.has .sl a1_1)(ha2_1:LK.has .sl a2_1)(h:dq 121 (MT a0_0 a0_1 a1_0 a1_1 a2_0 a2_1) R):aq Tryz.prog 29 [.agg [VS a0_0,a0_1],.agg [VS a1_0,a1_1],.agg [VS a2_0,a2_1]] [] R :=
 uQ (ag (bX (ag (az _) (ag (bN ha0_1) aC))) (ag (bX (ag (az _) (ag (bN ha1_1) aC))) (ag (bX (ag (az _) (ag (bN ha2_1) aC))) aC))) (oF KQ {mu:=[],own:=[0],oa:=[.vec 1,.lk .str,.lk .str]} Tryz.f29 h)
def EH(x8:ByteArray)(x9:AV)(x10:AV)(x11:Int)(x12:Int)(o3_0:ByteArray)(o3_1:AV)(o6_0:AV)(o6_1:ByteArray)(o6_2:ByteArray)(o7_0:List (List AV))(o7_1:ByteArray)(o7_2:ByteArray):Tree :=
 NS (VS x8)<|NL x9<|NL x10<|NI (VI x11)<|NI (VI x12)<|.ai (Ob.cells [VS o3_0,o3_1]=.cells [VS o3_0,o3_1])<|.ai (ae [.lk .str,.lk .sl] [VS o3_0,o3_1] 0 [.cells [o6_0,VS o6_1,VS o6_2],.cells [.any,VS o7_1,VS o7_2],.vec 1 o7_0])<|.ai (Ob.cells [o6_0,VS o6_1,VS o6_2]=.cells [o6_0,VS o6_1,VS o6_2])<|.ai (ae [.lk .sl,.lk .str,.lk .str] [o6_0,VS o6_1,VS o6_2] 0 [.cells [.any,VS o7_1,VS o7_2],.vec 1 o7_0])<|.ai (Ob.cells [.any,VS o7_1,VS o7_2]=.cells [.any,VS o7_1,VS o7_2])<|.ai (ae [.vec 1,.lk .str,.lk .str] [.any,VS o7_1,VS o7_2] 0 [.vec 1 o7_0])<|NL x9<|.test (decide (x12<(x9.elems.length:Int))) (NL x9<|NL x10<|.test ((x9.elems.length:Int)==(x10.elems.length:Int)) (NG x9 x12 4<|NE ((x9.ix x12).drop 2)<|.call 60 [.agg [VS ((((x9.ix x12).drop 2).getD 0 .any).toStr),(((x9.ix x12).drop 2).getD 1 .any)]] [] fun r1 o1=>NS r1<|NG x10 x12 4<|NE ((x10.ix x12).drop 2)<|.call 60 [.agg [VS ((((x10.ix x12).drop 2).getD 0 .any).toStr),(((x10.ix x12).drop 2).getD 1 .any)]] [] fun r2 o2=>NS r2<|.test (!(af r1.toStr==af r2.toStr)) (.test (decide (x11≥(0:Int))) (.done 2 [] [.cells [.any,VS o7_1,VS o7_2],.vec 1 o7_0]) (.done 0 [VS x8,x9,x10,VI x12,VI (IntKind.wrap .i64 (x12+1))] [.cells [VS o3_0,o3_1],.cells [o6_0,VS o6_1,VS o6_2],.cells [.any,VS o7_1,VS o7_2],.vec 1 o7_0])) (.done 0 [VS x8,x9,x10,VI x11,VI (IntKind.wrap .i64 (x12+1))] [.cells [VS o3_0,o3_1],.cells [o6_0,VS o6_1,VS o6_2],.cells [.any,VS o7_1,VS o7_2],.vec 1 o7_0])) (.done 1 [VS x8,x9,x10,VI x11] [.cells [VS o3_0,o3_1],.cells [o6_0,VS o6_1,VS o6_2],.cells [.any,VS o7_1,VS o7_2],.vec 1 o7_0])) (.done 1 [VS x8,x9,x10,VI x11] [.cells [VS o3_0,o3_1],.cells [o6_0,VS o6_1,VS o6_2],.cells [.any,VS o7_1,VS o7_2],.vec 1 o7_0])
abbrev ES:=cF Tryz.prog 121 PM IS
theorem Ij(x8:ByteArray)(x9:AV)(x10:AV)(x11:Int)(x12:Int)(o3_0:ByteArray)(o3_1:AV)(o6_0:AV)(o6_1:ByteArray)(o6_2:ByteArray)(o7_0:List (List AV))(o7_1:ByteArray)(o7_2:ByteArray)(h:kO 121 (EH x8 x9 x10 x11 x12 o3_0 o3_1 o6_0 o6_1 o6_2 o7_0 o7_1 o7_2) ES U):ES [VS x8,x9,x10,VI x11,VI x12] [.cells [VS o3_0,o3_1],.cells [o6_0,VS o6_1,VS o6_2],.cells [.any,VS o7_1,VS o7_2],.vec 1 o7_0] U :=
 gQ KQ h
def JS:LI:={hd:={bQ:=[(8,.k .ptr),(15,.k .sl),(16,.k (.int .i64)),(17,.k (.int .i64))],refs:=[(6,6)],cv:=[(6,[.lk .str,.lk .sl,.lk .str])]},xs:={bQ:=[(8,.k .ptr)],refs:=[(6,6)],cv:=[(6,[.lk .str,.lk .sl,.lk .str])]},rt:={},ex:=0}
def Om:Code:=cL (cG Tryz.f30) 3
def O9:List (Nat×LI):=[(3,JS)]
def Rb(a0:ByteArray)(a1:ByteArray)(a2:AV):Tree :=
 .call 63 [.agg [VS a0,.v (.slice none 0 0),VS a1]] [] fun r1 o1=>NP r1<|NL a2<|.loop Om JS [r1,a2,VI (a2.elems.length:Int),VI 0] [.cells [VS (mk []),.v (.slice none 0 0),VS (mk [])]] (fun y3 q3=>NP (y3.hA)<|.ai ((q3.hO)=.cells (q3.hO).cs)<|.ai (ae [.lk .str,.lk .sl,.lk .str] ((q3.hO).cs) 0 q3.tail)<|.call 65 [(y3.hA)] [] fun r4 o4=>NT r4<|.ai ((r4.comp 0)=.agg (r4.comp 0).cs/\aH [.lk .str,.vec 1,.lk .str] ((r4.comp 0).cs) 0 0 o4)<|NB (r4.comp 1)<|.ai (∀x,x∈o4->dI x)<|.done 0 [.cm [.agg [VS (((r4.comp 0).cs.getD 0 .any).toStr),.vec 0,VS (((r4.comp 0).cs.getD 2 .any).toStr)],VB ((r4.comp 1).toBool)]] [.vec 1 ((o4.hO).es)]) (fun y3 q3=>.fail)
theorem Ts(a0:ByteArray)(a1:ByteArray)(a2:AV)(ha2:LK.has .sl a2)(h:dq 29 (Rb a0 a1 a2) R):aq Tryz.prog 30 [VS a0,VS a1,a2] [] R :=
 uQ (ag (az _) (ag (az _) (ag (bN ha2) aC))) (oF O9 {mu:=[],own:=[0],oa:=[.lk .str,.vec 1,.lk .str]} Tryz.f30 h)
def Hj(x8:AV)(x15:AV)(x16:Int)(x17:Int)(o6_0:ByteArray)(o6_1:AV)(o6_2:ByteArray):Tree :=
 NP x8<|NL x15<|NI (VI x16)<|NI (VI x17)<|.ai (Ob.cells [VS o6_0,o6_1,VS o6_2]=.cells [VS o6_0,o6_1,VS o6_2])<|.ai (ae [.lk .str,.lk .sl,.lk .str] [VS o6_0,o6_1,VS o6_2] 0 [])<|.test (decide (x17<x16)) (NG x15 x17 1<|.ai (LK.has (.int .i64) ((x15.ix x17).hA)/\1<=(x15.ix x17).length)<|.call 64 [x8,VI (((x15.ix x17).hA).toInt)] [] fun r1 o1=>NP r1<|.done 0 [r1,x15,VI x16,VI (IntKind.wrap .i64 (x17+1))] [.cells [VS o6_0,o6_1,VS o6_2]]) (.done 1 [x8] [.cells [VS o6_0,o6_1,VS o6_2]])
abbrev Ji:=cF Tryz.prog 29 Om JS
theorem Mi(x8:AV)(x15:AV)(x16:Int)(x17:Int)(o6_0:ByteArray)(o6_1:AV)(o6_2:ByteArray)(h:kO 29 (Hj x8 x15 x16 x17 o6_0 o6_1 o6_2) Ji U):Ji [x8,x15,VI x16,VI x17] [.cells [VS o6_0,o6_1,VS o6_2]] U :=
 gQ O9 h
def N0(a0_0:ByteArray)(a0_1:AV)(a0_2:ByteArray)(a1:ByteArray):Tree :=
 .call 66 [.agg [VS a0_0,a0_1,VS a0_2]] [] fun r1 o1=>NP r1<|NP r1<|.test r1.isNil (.done 0 [.cm [.agg [VS (mk []),.vec 0,VS (mk [])],VB false]] [.vec 1 []]) (.call 66 [.agg [VS a0_0,a0_1,VS a1]] [] fun r2 o2=>NP r2<|.call 65 [r2] [] fun r3 o3=>NT r3<|.ai ((r3.comp 0)=.agg (r3.comp 0).cs/\aH [.lk .str,.vec 1,.lk .str] ((r3.comp 0).cs) 0 0 o3)<|NB (r3.comp 1)<|.ai (∀x,x∈o3->dI x)<|.done 0 [.cm [.agg [VS (((r3.comp 0).cs.getD 0 .any).toStr),.vec 0,VS (((r3.comp 0).cs.getD 2 .any).toStr)],VB ((r3.comp 1).toBool)]] [.vec 1 ((o3.hO).es)])
theorem R9(a0_0:ByteArray)(a0_1:AV)(a0_2:ByteArray)(a1:ByteArray)(ha0_1:LK.has .sl a0_1)(h:dq 20 (N0 a0_0 a0_1 a0_2 a1) R):aq Tryz.prog 31 [.agg [VS a0_0,a0_1,VS a0_2],VS a1] [] R :=
 uQ (ag (bX (ag (az _) (ag (bN ha0_1) (ag (az _) aC)))) (ag (az _) aC)) (oF [] {mu:=[],own:=[0],oa:=[.lk .str,.vec 1,.lk .str]} Tryz.f31 h)
def Ip:LI:={hd:={bQ:=[(4,.k .ptr)]},xs:={bQ:=[(4,.k .ptr)]},rt:={},ex:=0}
def NY:Code:=cL (cG Tryz.f32) 4
def Lq:List (Nat×LI):=[(4,Ip)]
def Nu(a0_0:ByteArray)(a0_1:AV)(a0_2:ByteArray):Tree :=
 .call 66 [.agg [VS a0_0,a0_1,VS a0_2]] [] fun r1 o1=>NP r1<|NP r1<|.test r1.isNil (.done 0 [.cm [VS (mk []),VB false]] []) (.loop NY Ip [r1] [] (fun y3 q3=>NP (y3.hA)<|NZ (y3.hA)<|NZ (y3.hA)<|ei ((y3.hA).deref.drop 3)<|.call 52 [(((y3.hA).deref.drop 3).hA)] [] fun r4 o4=>NS r4<|.done 0 [.cm [VS r4.toStr,VB true]] []) (fun y3 q3=>.done 0 [.cm [.any,.any]] []))
theorem UG(a0_0:ByteArray)(a0_1:AV)(a0_2:ByteArray)(ha0_1:LK.has .sl a0_1)(h:dq 22 (Nu a0_0 a0_1 a0_2) R):aq Tryz.prog 32 [.agg [VS a0_0,a0_1,VS a0_2]] [] R :=
 uQ (ag (bX (ag (az _) (ag (bN ha0_1) (ag (az _) aC)))) aC) (oQ Lq Tryz.f32 h)
def JR(x4:AV):Tree :=
 NP x4<|NZ x4<|NZ x4<|oH (x4.deref.drop 2)<|NL ((x4.deref.drop 2).hA)<|.test (decide (((((x4.deref.drop 2).hA).elems).length:Int)>(0:Int))) (.call 67 [x4] [] fun r1 o1=>NP r1<|.done 0 [r1] []) (.done 1 [x4] [])
abbrev Kl:=cF Tryz.prog 22 NY Ip
theorem Me(x4:AV)(h:kO 22 (JR x4) Kl U):Kl [x4] [] U :=
 gQ Lq h
def K8(a0_0:AV)(a0_1:Int):Tree :=
 .call 68 [.ref 0 0] [.cells [a0_0,VI a0_1]] fun r1 o1=>.ai ((o1.hO)=.cells (o1.hO).cs)<|.ai (aH [.lk .sl,.lk (.int .i64)] ((o1.hO).cs) 0 1 o1.tail)<|NS r1<|.call 45 [.ref 0 0,VI 12] [.cells [((o1.hO).cs.getD 0 .any),VI (((o1.hO).cs.getD 1 .any).toInt)]] fun r2 o2=>.ai ((o2.hO)=.cells (o2.hO).cs)<|.ai (aH [.lk .sl,.lk (.int .i64)] ((o2.hO).cs) 0 1 o2.tail)<|NI r2<|.test (r2.toInt==(0:Int)) (.call 69 [.ref 0 0] [.cells [((o2.hO).cs.getD 0 .any),VI (((o2.hO).cs.getD 1 .any).toInt)]] fun r3 o3=>.ai ((o3.hO)=.cells (o3.hO).cs)<|.ai (aH [.lk .sl,.lk (.int .i64)] ((o3.hO).cs) 0 1 o3.tail)<|NT r3<|NS (r3.comp 0)<|NS (r3.comp 1)<|.done 0 [.cm [VS ((r3.comp 0).toStr),VS ((r3.comp 1).toStr)]] [.cells [((o3.hO).cs.getD 0 .any),VI (((o3.hO).cs.getD 1 .any).toInt)]]) (.call 50 [.ref 0 0,VS r1.toStr] [.cells [((o2.hO).cs.getD 0 .any),VI (((o2.hO).cs.getD 1 .any).toInt)]] fun r4 o4=>.ai ((o4.hO)=.cells (o4.hO).cs)<|.ai (aH [.lk .sl,.lk (.int .i64)] ((o4.hO).cs) 0 1 o4.tail)<|NS r4<|.done 0 [.cm [VS r1.toStr,VS r4.toStr]] [.cells [((o4.hO).cs.getD 0 .any),VI (((o4.hO).cs.getD 1 .any).toInt)]])
theorem T8(a0_0:AV)(a0_1:Int)(ha0_0:LK.has .sl a0_0)(h:dq 18 (K8 a0_0 a0_1) R):aq Tryz.prog 33 [.ref 0 0] [.cells [a0_0,VI a0_1]] R :=
 aq.oE (bG (cu (ag (bN ha0_0) (ag (az _) aC))) cH) (aq.up (ag (az _) aC) (oF [] {mu:=[(0,.one (.obj [.lk .sl,.lk (.int .i64)]))],own:=[]} Tryz.f33 h))
def Ny(a0:AV)(a1:AV):Tree :=
 .call 70 [.agg [a0,.v (.pointer none)]] [] fun r1 o1=>NT r1<|.ai ((r1.comp 0)=.agg (r1.comp 0).cs/\(r1.comp 0).cs.length=2/\bC [.ptr,.ptr] ((r1.comp 0).cs) 0)<|NP (r1.comp 1)<|NZ a1<|NZ a1<|ei (a1.deref.drop 2)<|.call 71 [.agg [((r1.comp 0).cs.getD 0 .any),((r1.comp 0).cs.getD 1 .any)],((a1.deref.drop 2).hA),.agg [VS (mk []),(r1.comp 1)]] [] fun r2 o2=>NL r2<|.done 0 [r2] []
theorem Rx(a0:AV)(a1:AV)(ha0:LK.has .ptr a0)(ha1:LK.has .ptr a1)(h:dq 21 (Ny a0 a1) R):aq Tryz.prog 35 [a0,a1] [] R :=
 uQ (ag (bI ha0) (ag (bI ha1) aC)) (oQ [] Tryz.f35 h)
def Io:LI:={hd:={bQ:=[(0,.k .sl),(4,.k (.int .i64))],eV:=[(3,2)]},xs:={eV:=[(3,2)]},rt:={},ex:=0}
def M7:Code:=cL (cG Tryz.f36) 3
def KP:List (Nat×LI):=[(3,Io)]
def O0(a0:AV):Tree :=
 .loop M7 Io [a0,VI 0] [.vec 2 []] (fun y3 q3=>.ai (((q3.drop 0).hO)=.vec 2 ((q3.drop 0).hO).es)<|.done 0 [.sl ((q3.hO).es)] []) (fun y3 q3=>.done 0 [.any] [])
theorem UJ(a0:AV)(ha0:LK.has .sl a0)(h:dq 29 (O0 a0) R):aq Tryz.prog 36 [a0] [] R :=
 uQ (ag (bN ha0) aC) (oQ KP Tryz.f36 h)
def HF(x0:AV)(x4:Int)(e3:List (List AV)):Tree :=
 NL x0<|NI (VI x4)<|.ai (Ob.vec 2 e3=.vec 2 e3)<|NL x0<|.test (decide (x4<(x0.elems.length:Int))) (NG x0 x4 4<|NE (x0.ix x4)<|.call 60 [.agg [VS (((x0.ix x4).getD 0 .any).toStr),((x0.ix x4).getD 1 .any)]] [] fun r1 o1=>NS r1<|NG x0 x4 4<|NE ((x0.ix x4).drop 2)<|.call 60 [.agg [VS ((((x0.ix x4).drop 2).getD 0 .any).toStr),(((x0.ix x4).drop 2).getD 1 .any)]] [] fun r2 o2=>NS r2<|.ai (ck 2 [[VS r1.toStr,VS r2.toStr]]/\((e3.length)+([[VS r1.toStr,VS r2.toStr]]:List (List AV)).length)*32<=140737488355328)<|.done 0 [x0,VI (IntKind.wrap .i64 (x4+1))] [.vec 2 (e3++([[VS r1.toStr,VS r2.toStr]]:List (List AV)))]) (.done 1 [] [.vec 2 e3])
abbrev JI:=cF Tryz.prog 29 M7 Io
theorem OM(x0:AV)(x4:Int)(e3:List (List AV))(h:kO 29 (HF x0 x4 e3) JI U):JI [x0,VI x4] [.vec 2 e3] U :=
 gQ KP h
def KA:LI:={hd:={bQ:=[(1,.k .str),(8,.k .sl),(9,.k (.int .i64))],refs:=[(3,3),(5,5)],cv:=[(3,[.lk .str,.lk .sl]),(5,[.lk .str,.lk .sl])],eV:=[(7,4)]},xs:={bQ:=[(1,.k .str)],refs:=[(3,3),(5,5)],cv:=[(3,[.lk .str,.lk .sl]),(5,[.lk .str,.lk .sl])],eV:=[(7,4)]},rt:={},ex:=1}
def Nx:Code:=cL (cG Tryz.f37) 14
def JQ:LI:={hd:={bQ:=[(10,.k .sl),(11,.k (.int .i64))],refs:=[(5,5)],cv:=[(5,[.lk .str,.lk .sl])],eV:=[(7,4)]},xs:={eV:=[(7,4)]},rt:={},ex:=3}
def OK:Code:=cL (cG Tryz.f37) 19
def H3:LI:={hd:={bQ:=[(1,.k .str),(12,.k .str),(13,.k .sl),(14,.k (.int .i64))],refs:=[(3,3),(5,5)],cv:=[(3,[.lk .str,.lk .sl]),(5,[.lk .str,.lk .sl])],eV:=[(7,4)]},xs:={bQ:=[(1,.k .str),(12,.k .str)],refs:=[(3,3),(5,5)],cv:=[(3,[.lk .str,.lk .sl]),(5,[.lk .str,.lk .sl])],eV:=[(7,4)]},rt:={},ex:=5}
def Ok:Code:=cL (cG Tryz.f37) 28
def JZ:LI:={hd:={bQ:=[(1,.k .str),(15,.k .sl),(16,.k (.int .i64))],refs:=[(3,3)],cv:=[(3,[.lk .str,.lk .sl])],eV:=[(7,4)]},xs:={eV:=[(7,4)]},rt:={},ex:=7}
def PC:Code:=cL (cG Tryz.f37) 33
def IB:LI:={hd:={bQ:=[(1,.k .str),(15,.k .sl),(16,.k (.int .i64)),(17,.k .sl),(18,.k (.int .i64))],refs:=[(3,3)],cv:=[(3,[.lk .str,.lk .sl])],eV:=[(7,4)]},xs:={bQ:=[(1,.k .str),(15,.k .sl),(16,.k (.int .i64))],refs:=[(3,3)],cv:=[(3,[.lk .str,.lk .sl])],eV:=[(7,4)]},rt:={},ex:=9}
def O3:Code:=cL (cG Tryz.f37) 37
def AS:List (Nat×LI):=[(14,KA),(19,JQ),(28,H3),(33,JZ),(37,IB)]
def HG(a0_0:ByteArray)(a0_1:AV)(a1:ByteArray)(a2_0:ByteArray)(a2_1:AV):Tree :=
 .test (!(af a0_0==af (mk []))) (.test (af a0_0==af a1) (.ai (ck 4 [[VS (mk [117]),.v (.slice none 0 0),VS a2_0,a2_1]]/\((([]:List (List AV)).length)+([[VS (mk [117]),.v (.slice none 0 0),VS a2_0,a2_1]]:List (List AV)).length)*80<=140737488355328)<|.done 0 [.sl [[VS (mk [117]),.v (.slice none 0 0),VS a2_0,a2_1]]] []) (.done 0 [.sl []] [])) (.call 54 [.agg [VS a2_0,a2_1]] [] fun r1 o1=>NS r1<|.test (af r1.toStr==af (mk [108])) (NG a0_1 1 2<|NE (a0_1.ix (1:Int))<|NG a2_1 1 2<|NE (a2_1.ix (1:Int))<|.call 37 [.agg [VS (((a0_1.ix (1:Int)).getD 0 .any).toStr),((a0_1.ix (1:Int)).getD 1 .any)],VS a1,.agg [VS (((a2_1.ix (1:Int)).getD 0 .any).toStr),((a2_1.ix (1:Int)).getD 1 .any)]] [] fun r2 o2=>NL r2<|.call 72 [r2,VS (mk [108]),.vec 0] [.vec 4 []] fun r3 o3=>.ai (r3=.vec 1/\(o3.tail.hO)=.vec 4 (o3.tail.hO).es)<|.done 0 [.sl ((o3.tail.hO).es)] []) (.test (af r1.toStr==af (mk [114])) (NG a0_1 2 2<|NE (a0_1.ix (2:Int))<|NG a2_1 1 2<|NE (a2_1.ix (1:Int))<|.call 37 [.agg [VS (((a0_1.ix (2:Int)).getD 0 .any).toStr),((a0_1.ix (2:Int)).getD 1 .any)],VS a1,.agg [VS (((a2_1.ix (1:Int)).getD 0 .any).toStr),((a2_1.ix (1:Int)).getD 1 .any)]] [] fun r4 o4=>NL r4<|.call 72 [r4,VS (mk [114]),.vec 0] [.vec 4 []] fun r5 o5=>.ai (r5=.vec 1/\(o5.tail.hO)=.vec 4 (o5.tail.hO).es)<|.done 0 [.sl ((o5.tail.hO).es)] []) (.test (af r1.toStr==af (mk [112])) (NG a0_1 1 2<|NE (a0_1.ix (1:Int))<|NG a2_1 1 2<|NE (a2_1.ix (1:Int))<|.call 37 [.agg [VS (((a0_1.ix (1:Int)).getD 0 .any).toStr),((a0_1.ix (1:Int)).getD 1 .any)],VS a1,.agg [VS (((a2_1.ix (1:Int)).getD 0 .any).toStr),((a2_1.ix (1:Int)).getD 1 .any)]] [] fun r6 o6=>NL r6<|.loop Nx KA [VS a1,r6,VI 0] [.cells [VS a0_0,a0_1],.cells [VS a2_0,a2_1],.vec 4 []] (fun y9 q9=>NS (y9.hA)<|.ai ((q9.hO)=.cells (q9.hO).cs)<|.ai (ae [.lk .str,.lk .sl] ((q9.hO).cs) 0 q9.tail)<|.ai (((q9.tail.drop 0).hO)=.cells ((q9.tail.drop 0).hO).cs)<|.ai (ae [.lk .str,.lk .sl] (((q9.tail.drop 0).hO).cs) 0 ((q9.tail.drop 0).tail))<|.ai (((q9.drop 2).hO)=.vec 4 ((q9.drop 2).hO).es)<|NG ((q9.hO).cs.getD 1 .any) 2 2<|NE (((q9.hO).cs.getD 1 .any).ix (2:Int))<|NG ((q9.tail.hO).cs.getD 1 .any) 2 2<|NE (((q9.tail.hO).cs.getD 1 .any).ix (2:Int))<|.call 37 [.agg [VS (((((q9.hO).cs.getD 1 .any).ix (2:Int)).getD 0 .any).toStr),((((q9.hO).cs.getD 1 .any).ix (2:Int)).getD 1 .any)],VS ((y9.hA).toStr),.agg [VS (((((q9.tail.hO).cs.getD 1 .any).ix (2:Int)).getD 0 .any).toStr),((((q9.tail.hO).cs.getD 1 .any).ix (2:Int)).getD 1 .any)]] [] fun r10 o10=>NL r10<|.loop OK JQ [r10,VI 0] [.cells [VS (((q9.tail.hO).cs.getD 0 .any).toStr),((q9.tail.hO).cs.getD 1 .any)],.vec 4 ((q9.tail.tail.hO).es)] (fun y13 q13=>.ai (((q13.drop 0).hO)=.vec 4 ((q13.drop 0).hO).es)<|.done 0 [.sl ((q13.hO).es)] []) (fun y13 q13=>.done 0 [.any] [])) (fun y9 q9=>.done 0 [.any] [])) (NG a0_1 1 2<|lL (a0_1.ix (1:Int))<|.test (af (((a0_1.ix (1:Int)).hA).toStr)==af a1) (.done 0 [.sl []] []) (NG a0_1 2 2<|NE (a0_1.ix (2:Int))<|NG a2_1 1 2<|NE (a2_1.ix (1:Int))<|.call 37 [.agg [VS (((a0_1.ix (2:Int)).getD 0 .any).toStr),((a0_1.ix (2:Int)).getD 1 .any)],VS a1,.agg [VS (((a2_1.ix (1:Int)).getD 0 .any).toStr),((a2_1.ix (1:Int)).getD 1 .any)]] [] fun r14 o14=>NL r14<|.loop Ok H3 [VS a1,VS (((a0_1.ix (1:Int)).hA).toStr),r14,VI 0] [.cells [VS a0_0,a0_1],.cells [VS a2_0,a2_1],.vec 4 []] (fun y17 q17=>NS (y17.hA)<|NS (y17.tail.hA)<|.ai ((q17.hO)=.cells (q17.hO).cs)<|.ai (ae [.lk .str,.lk .sl] ((q17.hO).cs) 0 q17.tail)<|.ai (((q17.tail.drop 0).hO)=.cells ((q17.tail.drop 0).hO).cs)<|.ai (ae [.lk .str,.lk .sl] (((q17.tail.drop 0).hO).cs) 0 ((q17.tail.drop 0).tail))<|.ai (((q17.drop 2).hO)=.vec 4 ((q17.drop 2).hO).es)<|NG ((q17.hO).cs.getD 1 .any) 2 2<|NE (((q17.hO).cs.getD 1 .any).ix (2:Int))<|NG ((q17.tail.hO).cs.getD 1 .any) 1 2<|NE (((q17.tail.hO).cs.getD 1 .any).ix (1:Int))<|.call 37 [.agg [VS (((((q17.hO).cs.getD 1 .any).ix (2:Int)).getD 0 .any).toStr),((((q17.hO).cs.getD 1 .any).ix (2:Int)).getD 1 .any)],VS ((y17.tail.hA).toStr),.agg [VS (((((q17.tail.hO).cs.getD 1 .any).ix (1:Int)).getD 0 .any).toStr),((((q17.tail.hO).cs.getD 1 .any).ix (1:Int)).getD 1 .any)]] [] fun r18 o18=>NL r18<|.loop PC JZ [VS ((y17.hA).toStr),r18,VI 0] [.cells [VS (((q17.hO).cs.getD 0 .any).toStr),((q17.hO).cs.getD 1 .any)],.vec 4 ((q17.tail.tail.hO).es)] (fun y24 q24=>.ai (((q24.drop 0).hO)=.vec 4 ((q24.drop 0).hO).es)<|.done 0 [.sl ((q24.hO).es)] []) (fun y24 q24=>.done 0 [.any] [])) (fun y17 q17=>.done 0 [.any] []))))))
theorem UY(a0_0:ByteArray)(a0_1:AV)(a1:ByteArray)(a2_0:ByteArray)(a2_1:AV)(ha0_1:LK.has .sl a0_1)(ha2_1:LK.has .sl a2_1)(h:dq 244 (HG a0_0 a0_1 a1 a2_0 a2_1) R):aq Tryz.prog 37 [.agg [VS a0_0,a0_1],VS a1,.agg [VS a2_0,a2_1]] [] R :=
 uQ (ag (bX (ag (az _) (ag (bN ha0_1) aC))) (ag (az _) (ag (bX (ag (az _) (ag (bN ha2_1) aC))) aC))) (oQ AS Tryz.f37 h)
def Hx(x1:ByteArray)(x8:AV)(x9:Int)(o3_0:ByteArray)(o3_1:AV)(o5_0:ByteArray)(o5_1:AV)(e7:List (List AV)):Tree :=
 NS (VS x1)<|NL x8<|NI (VI x9)<|.ai (Ob.cells [VS o3_0,o3_1]=.cells [VS o3_0,o3_1])<|.ai (ae [.lk .str,.lk .sl] [VS o3_0,o3_1] 0 [.cells [VS o5_0,o5_1],.vec 4 e7])<|.ai (Ob.cells [VS o5_0,o5_1]=.cells [VS o5_0,o5_1])<|.ai (ae [.lk .str,.lk .sl] [VS o5_0,o5_1] 0 [.vec 4 e7])<|.ai (Ob.vec 4 e7=.vec 4 e7)<|NL x8<|.test (decide (x9<(x8.elems.length:Int))) (NG x8 x9 4<|NE (x8.ix x9)<|NG o5_1 2 2<|NE (o5_1.ix (2:Int))<|.call 61 [VS (mk [112]),.sl [[VS (((x8.ix x9).getD 0 .any).toStr),((x8.ix x9).getD 1 .any)],[VS (((o5_1.ix (2:Int)).getD 0 .any).toStr),((o5_1.ix (2:Int)).getD 1 .any)]]] [] fun r1 o1=>NA r1<|.call 61 [VS (mk [108]),.sl [[VS ((r1.cs.getD 0 .any).toStr),(r1.cs.getD 1 .any)]]] [] fun r2 o2=>NA r2<|NG x8 x9 4<|NE ((x8.ix x9).drop 2)<|.ai (ck 4 [[VS ((r2.cs.getD 0 .any).toStr),(r2.cs.getD 1 .any),VS ((((x8.ix x9).drop 2).getD 0 .any).toStr),(((x8.ix x9).drop 2).getD 1 .any)]]/\((e7.length)+([[VS ((r2.cs.getD 0 .any).toStr),(r2.cs.getD 1 .any),VS ((((x8.ix x9).drop 2).getD 0 .any).toStr),(((x8.ix x9).drop 2).getD 1 .any)]]:List (List AV)).length)*80<=140737488355328)<|.done 0 [VS x1,x8,VI (IntKind.wrap .i64 (x9+1))] [.cells [VS o3_0,o3_1],.cells [VS o5_0,o5_1],.vec 4 (e7++([[VS ((r2.cs.getD 0 .any).toStr),(r2.cs.getD 1 .any),VS ((((x8.ix x9).drop 2).getD 0 .any).toStr),(((x8.ix x9).drop 2).getD 1 .any)]]:List (List AV)))]) (.done 1 [VS x1] [.cells [VS o3_0,o3_1],.cells [VS o5_0,o5_1],.vec 4 e7])
abbrev Jt:=cF Tryz.prog 244 Nx KA
theorem Nr(x1:ByteArray)(x8:AV)(x9:Int)(o3_0:ByteArray)(o3_1:AV)(o5_0:ByteArray)(o5_1:AV)(e7:List (List AV))(h:kO 244 (Hx x1 x8 x9 o3_0 o3_1 o5_0 o5_1 e7) Jt U):Jt [VS x1,x8,VI x9] [.cells [VS o3_0,o3_1],.cells [VS o5_0,o5_1],.vec 4 e7] U :=
 gQ AS h
def Jc(x10:AV)(x11:Int)(o5_0:ByteArray)(o5_1:AV)(e7:List (List AV)):Tree :=
 NL x10<|NI (VI x11)<|.ai (Ob.cells [VS o5_0,o5_1]=.cells [VS o5_0,o5_1])<|.ai (ae [.lk .str,.lk .sl] [VS o5_0,o5_1] 0 [.vec 4 e7])<|.ai (Ob.vec 4 e7=.vec 4 e7)<|NL x10<|.test (decide (x11<(x10.elems.length:Int))) (NG o5_1 1 2<|NE (o5_1.ix (1:Int))<|NG x10 x11 4<|NE (x10.ix x11)<|.call 61 [VS (mk [112]),.sl [[VS (((o5_1.ix (1:Int)).getD 0 .any).toStr),((o5_1.ix (1:Int)).getD 1 .any)],[VS (((x10.ix x11).getD 0 .any).toStr),((x10.ix x11).getD 1 .any)]]] [] fun r1 o1=>NA r1<|.call 61 [VS (mk [114]),.sl [[VS ((r1.cs.getD 0 .any).toStr),(r1.cs.getD 1 .any)]]] [] fun r2 o2=>NA r2<|NG x10 x11 4<|NE ((x10.ix x11).drop 2)<|.ai (ck 4 [[VS ((r2.cs.getD 0 .any).toStr),(r2.cs.getD 1 .any),VS ((((x10.ix x11).drop 2).getD 0 .any).toStr),(((x10.ix x11).drop 2).getD 1 .any)]]/\((e7.length)+([[VS ((r2.cs.getD 0 .any).toStr),(r2.cs.getD 1 .any),VS ((((x10.ix x11).drop 2).getD 0 .any).toStr),(((x10.ix x11).drop 2).getD 1 .any)]]:List (List AV)).length)*80<=140737488355328)<|.done 0 [x10,VI (IntKind.wrap .i64 (x11+1))] [.cells [VS o5_0,o5_1],.vec 4 (e7++([[VS ((r2.cs.getD 0 .any).toStr),(r2.cs.getD 1 .any),VS ((((x10.ix x11).drop 2).getD 0 .any).toStr),(((x10.ix x11).drop 2).getD 1 .any)]]:List (List AV)))]) (.done 1 [] [.vec 4 e7])
abbrev Jg:=cF Tryz.prog 244 OK JQ
theorem K4(x10:AV)(x11:Int)(o5_0:ByteArray)(o5_1:AV)(e7:List (List AV))(h:kO 244 (Jc x10 x11 o5_0 o5_1 e7) Jg U):Jg [x10,VI x11] [.cells [VS o5_0,o5_1],.vec 4 e7] U :=
 gQ AS h
def IJ(x1:ByteArray)(x12:ByteArray)(x13:AV)(x14:Int)(o3_0:ByteArray)(o3_1:AV)(o5_0:ByteArray)(o5_1:AV)(e7:List (List AV)):Tree :=
 NS (VS x1)<|NS (VS x12)<|NL x13<|NI (VI x14)<|.ai (Ob.cells [VS o3_0,o3_1]=.cells [VS o3_0,o3_1])<|.ai (ae [.lk .str,.lk .sl] [VS o3_0,o3_1] 0 [.cells [VS o5_0,o5_1],.vec 4 e7])<|.ai (Ob.cells [VS o5_0,o5_1]=.cells [VS o5_0,o5_1])<|.ai (ae [.lk .str,.lk .sl] [VS o5_0,o5_1] 0 [.vec 4 e7])<|.ai (Ob.vec 4 e7=.vec 4 e7)<|NL x13<|.test (decide (x14<(x13.elems.length:Int))) (NG x13 x14 4<|NE (x13.ix x14)<|.call 61 [VS (mk [108]),.sl [[VS (((x13.ix x14).getD 0 .any).toStr),((x13.ix x14).getD 1 .any)]]] [] fun r1 o1=>NA r1<|.call 61 [VS (mk [102]),.sl [[VS ((r1.cs.getD 0 .any).toStr),(r1.cs.getD 1 .any)]]] [] fun r2 o2=>NA r2<|NG x13 x14 4<|NE ((x13.ix x14).drop 2)<|.ai (ck 4 [[VS ((r2.cs.getD 0 .any).toStr),(r2.cs.getD 1 .any),VS ((((x13.ix x14).drop 2).getD 0 .any).toStr),(((x13.ix x14).drop 2).getD 1 .any)]]/\((e7.length)+([[VS ((r2.cs.getD 0 .any).toStr),(r2.cs.getD 1 .any),VS ((((x13.ix x14).drop 2).getD 0 .any).toStr),(((x13.ix x14).drop 2).getD 1 .any)]]:List (List AV)).length)*80<=140737488355328)<|.done 0 [VS x1,VS x12,x13,VI (IntKind.wrap .i64 (x14+1))] [.cells [VS o3_0,o3_1],.cells [VS o5_0,o5_1],.vec 4 (e7++([[VS ((r2.cs.getD 0 .any).toStr),(r2.cs.getD 1 .any),VS ((((x13.ix x14).drop 2).getD 0 .any).toStr),(((x13.ix x14).drop 2).getD 1 .any)]]:List (List AV)))]) (.done 1 [VS x1,VS x12] [.cells [VS o3_0,o3_1],.cells [VS o5_0,o5_1],.vec 4 e7])
abbrev J8:=cF Tryz.prog 244 Ok H3
theorem Rh(x1:ByteArray)(x12:ByteArray)(x13:AV)(x14:Int)(o3_0:ByteArray)(o3_1:AV)(o5_0:ByteArray)(o5_1:AV)(e7:List (List AV))(h:kO 244 (IJ x1 x12 x13 x14 o3_0 o3_1 o5_0 o5_1 e7) J8 U):J8 [VS x1,VS x12,x13,VI x14] [.cells [VS o3_0,o3_1],.cells [VS o5_0,o5_1],.vec 4 e7] U :=
 gQ AS h
def Kz(x1:ByteArray)(x15:AV)(x16:Int)(o3_0:ByteArray)(o3_1:AV)(e7:List (List AV)):Tree :=
 NS (VS x1)<|NL x15<|NI (VI x16)<|.ai (Ob.cells [VS o3_0,o3_1]=.cells [VS o3_0,o3_1])<|.ai (ae [.lk .str,.lk .sl] [VS o3_0,o3_1] 0 [.vec 4 e7])<|.ai (Ob.vec 4 e7=.vec 4 e7)<|NL x15<|.test (decide (x16<(x15.elems.length:Int))) (NG x15 x16 4<|NE ((x15.ix x16).drop 2)<|.call 37 [.agg [VS o3_0,o3_1],VS x1,.agg [VS ((((x15.ix x16).drop 2).getD 0 .any).toStr),(((x15.ix x16).drop 2).getD 1 .any)]] [] fun r1 o1=>NL r1<|.loop O3 IB [VS x1,x15,VI x16,r1,VI 0] [.cells [VS o3_0,o3_1],.vec 4 e7] (fun y2 q2=>NS (y2.hA)<|NL (y2.tail.hA)<|NI (y2.tail.tail.hA)<|.ai ((q2.hO)=.cells (q2.hO).cs)<|.ai (ae [.lk .str,.lk .sl] ((q2.hO).cs) 0 q2.tail)<|.ai (((q2.drop 1).hO)=.vec 4 ((q2.drop 1).hO).es)<|.done 0 [VS ((y2.hA).toStr),(y2.tail.hA),VI (IntKind.wrap .i64 (((y2.tail.tail.hA).toInt)+1))] [.cells [VS (((q2.hO).cs.getD 0 .any).toStr),((q2.hO).cs.getD 1 .any)],.vec 4 ((q2.tail.hO).es)]) (fun y2 q2=>.done 2 [] [])) (.done 1 [] [.vec 4 e7])
abbrev J2:=cF Tryz.prog 244 PC JZ
theorem Pp(x1:ByteArray)(x15:AV)(x16:Int)(o3_0:ByteArray)(o3_1:AV)(e7:List (List AV))(h:kO 244 (Kz x1 x15 x16 o3_0 o3_1 e7) J2 U):J2 [VS x1,x15,VI x16] [.cells [VS o3_0,o3_1],.vec 4 e7] U :=
 gQ AS h
def I2(x1:ByteArray)(x15:AV)(x16:Int)(x17:AV)(x18:Int)(o3_0:ByteArray)(o3_1:AV)(e7:List (List AV)):Tree :=
 NS (VS x1)<|NL x15<|NI (VI x16)<|NL x17<|NI (VI x18)<|.ai (Ob.cells [VS o3_0,o3_1]=.cells [VS o3_0,o3_1])<|.ai (ae [.lk .str,.lk .sl] [VS o3_0,o3_1] 0 [.vec 4 e7])<|.ai (Ob.vec 4 e7=.vec 4 e7)<|NL x17<|.test (decide (x18<(x17.elems.length:Int))) (NG x15 x16 4<|NE (x15.ix x16)<|NG x17 x18 4<|NE (x17.ix x18)<|.call 61 [VS (mk [112]),.sl [[VS (((x15.ix x16).getD 0 .any).toStr),((x15.ix x16).getD 1 .any)],[VS (((x17.ix x18).getD 0 .any).toStr),((x17.ix x18).getD 1 .any)]]] [] fun r1 o1=>NA r1<|.call 61 [VS (mk [114]),.sl [[VS ((r1.cs.getD 0 .any).toStr),(r1.cs.getD 1 .any)]]] [] fun r2 o2=>NA r2<|.call 61 [VS (mk [102]),.sl [[VS ((r2.cs.getD 0 .any).toStr),(r2.cs.getD 1 .any)]]] [] fun r3 o3=>NA r3<|NG x17 x18 4<|NE ((x17.ix x18).drop 2)<|.ai (ck 4 [[VS ((r3.cs.getD 0 .any).toStr),(r3.cs.getD 1 .any),VS ((((x17.ix x18).drop 2).getD 0 .any).toStr),(((x17.ix x18).drop 2).getD 1 .any)]]/\((e7.length)+([[VS ((r3.cs.getD 0 .any).toStr),(r3.cs.getD 1 .any),VS ((((x17.ix x18).drop 2).getD 0 .any).toStr),(((x17.ix x18).drop 2).getD 1 .any)]]:List (List AV)).length)*80<=140737488355328)<|.done 0 [VS x1,x15,VI x16,x17,VI (IntKind.wrap .i64 (x18+1))] [.cells [VS o3_0,o3_1],.vec 4 (e7++([[VS ((r3.cs.getD 0 .any).toStr),(r3.cs.getD 1 .any),VS ((((x17.ix x18).drop 2).getD 0 .any).toStr),(((x17.ix x18).drop 2).getD 1 .any)]]:List (List AV)))]) (.done 1 [VS x1,x15,VI x16] [.cells [VS o3_0,o3_1],.vec 4 e7])
abbrev JM:=cF Tryz.prog 244 O3 IB
theorem PQ(x1:ByteArray)(x15:AV)(x16:Int)(x17:AV)(x18:Int)(o3_0:ByteArray)(o3_1:AV)(e7:List (List AV))(h:kO 244 (I2 x1 x15 x16 x17 x18 o3_0 o3_1 e7) JM U):JM [VS x1,x15,VI x16,x17,VI x18] [.cells [VS o3_0,o3_1],.vec 4 e7] U :=
 gQ AS h
def Ox(a0:ByteArray):Tree :=
 .call 73 [VS a0] [] fun r1 o1=>NP r1<|NP r1<|.test r1.isNil (.done 0 [.v (.pointer none)] []) (.call 74 [r1,.v (.slice none 0 0)] [] fun r2 o2=>NP r2<|NP r2<|.test r2.isNil (.done 0 [.v (.pointer none)] []) (.call 75 [r2] [] fun r3 o3=>NI r3<|.test (decide (r3.toInt>(400:Int))) (.done 0 [.v (.pointer none)] []) (.done 0 [r2] [])))
theorem Sp(a0:ByteArray)(h:dq 19 (Ox a0) R):aq Tryz.prog 38 [VS a0] [] R :=
 uQ (ag (az _) aC) (oQ [] Tryz.f38 h)
def MP(a0:AV):Tree :=
 .call 76 [.ref 0 0] [.cells [VI 0,VB false]] fun r1 o1=>.ai ((o1.hO)=.cells (o1.hO).cs)<|.ai (aH [.lk (.int .i64),.lk .bool] ((o1.hO).cs) 0 1 o1.tail)<|NS r1<|NZ a0<|NZ a0<|ei (a0.deref.drop 3)<|.call 79 [((a0.deref.drop 3).hA),.ptr [.v (.int .u8 110),VS r1.toStr,VI 0,.v (.pointer none),.v (.pointer none)],VI 0] [] fun r2 o2=>NP r2<|.call 78 [.ref 0 0,r2,VS r1.toStr] [.cells [VI (((o1.hO).cs.getD 0 .any).toInt),VB (((o1.hO).cs.getD 1 .any).toBool)]] fun r3 o3=>.ai ((o3.hO)=.cells (o3.hO).cs)<|.ai (aH [.lk (.int .i64),.lk .bool] ((o3.hO).cs) 0 1 o3.tail)<|NP r3<|.call 77 [.ref 0 0,r3] [.cells [VI (((o3.hO).cs.getD 0 .any).toInt),VB (((o3.hO).cs.getD 1 .any).toBool)]] fun r4 o4=>.ai ((o4.hO)=.cells (o4.hO).cs)<|.ai (aH [.lk (.int .i64),.lk .bool] ((o4.hO).cs) 0 1 o4.tail)<|NP r4<|.test (((o4.hO).cs.getD 1 .any).toBool) (.done 0 [.cm [.v (.pointer none),VB false]] []) (.call 80 [r4,VS r1.toStr,a0] [] fun r5 o5=>NP r5<|.call 77 [.ref 0 0,r5] [.cells [VI (((o4.hO).cs.getD 0 .any).toInt),VB (((o4.hO).cs.getD 1 .any).toBool)]] fun r6 o6=>.ai ((o6.hO)=.cells (o6.hO).cs)<|.ai (aH [.lk (.int .i64),.lk .bool] ((o6.hO).cs) 0 1 o6.tail)<|NP r6<|.done 0 [.cm [r6,VB (!(((o6.hO).cs.getD 1 .any).toBool))]] [])
theorem S1(a0:AV)(ha0:LK.has .ptr a0)(h:dq 40 (MP a0) R):aq Tryz.prog 39 [a0] [] R :=
 uQ (ag (bI ha0) aC) (oQ [] Tryz.f39 h)
def Qn(a0:AV):Tree :=
 .call 75 [a0] [] fun r1 o1=>NI r1<|.test (decide (r1.toInt>(400:Int))) (.done 0 [.cm [VS (mk []),VB false]] []) (.call 81 [a0] [] fun r2 o2=>NS r2<|.call 38 [VS r2.toStr] [] fun r3 o3=>NP r3<|NP r3<|.test r3.isNil (.done 0 [.cm [VS (mk []),VB false]] []) (.done 0 [.cm [VS r2.toStr,VB true]] []))
theorem UB(a0:AV)(ha0:LK.has .ptr a0)(h:dq 14 (Qn a0) R):aq Tryz.prog 40 [a0] [] R :=
 uQ (ag (bI ha0) aC) (oQ [] Tryz.f40 h)
def P8(a0:ByteArray)(a1:ByteArray)(a2:Int):Tree :=
 .call 82 [VS a0] [] fun r1 o1=>NP r1<|.call 44 [VS a1] [] fun r2 o2=>NP r2<|NP r1<|.test r1.isNil (.done 0 [.cm [r1,.v (.pointer none)]] []) (NP r2<|.test r2.isNil (.done 0 [.cm [r1,.v (.pointer none)]] []) (.test (decide (a2<(0:Int))) (.done 0 [.cm [r1,.v (.pointer none)]] []) (.test (decide (a2>(100:Int))) (.done 0 [.cm [r1,.v (.pointer none)]] []) (.call 83 [.agg [r1,.v (.pointer none)],r2,VI a2] [] fun r3 o3=>NB r3<|.test (!r3.toBool) (.done 0 [.cm [r1,.v (.pointer none)]] []) (.done 0 [.cm [r1,r2]] [])))))
theorem UT(a0:ByteArray)(a1:ByteArray)(a2:Int)(h:dq 39 (P8 a0 a1 a2) R):aq Tryz.prog 41 [VS a0,VS a1,VI a2] [] R :=
 uQ (ag (az _) (ag (az _) (ag (az _) aC))) (oQ [] Tryz.f41 h)
def P1(a0:AV)(a1:AV)(a2:AV):Tree :=
 .call 70 [.agg [a0,.v (.pointer none)]] [] fun r1 o1=>NT r1<|.ai ((r1.comp 0)=.agg (r1.comp 0).cs/\(r1.comp 0).cs.length=2/\bC [.ptr,.ptr] ((r1.comp 0).cs) 0)<|NP (r1.comp 1)<|.call 86 [.agg [((r1.comp 0).cs.getD 0 .any),((r1.comp 0).cs.getD 1 .any)],a1,.agg [VS (mk []),(r1.comp 1)],a2] [] fun r2 o2=>NP r2<|.call 85 [.v (.int .u8 102),r2] [] fun r3 o3=>NP r3<|.done 0 [r3] []
theorem TM(a0:AV)(a1:AV)(a2:AV)(ha0:LK.has .ptr a0)(ha1:LK.has .ptr a1)(ha2:LK.has .ptr a2)(h:dq 22 (P1 a0 a1 a2) R):aq Tryz.prog 43 [a0,a1,a2] [] R :=
 uQ (ag (bI ha0) (ag (bI ha1) (ag (bI ha2) aC))) (oQ [] Tryz.f43 h)
def O5(a0:ByteArray):Tree :=
 .call 73 [VS a0] [] fun r1 o1=>NP r1<|NP r1<|.test r1.isNil (.done 0 [.v (.pointer none)] []) (.call 87 [r1] [] fun r2 o2=>NP r2<|NP r2<|.test r2.isNil (.done 0 [.v (.pointer none)] []) (.call 84 [r2] [] fun r3 o3=>NI r3<|.test (decide (r3.toInt>(200:Int))) (.done 0 [.v (.pointer none)] []) (.done 0 [r2] [])))
theorem TS(a0:ByteArray)(h:dq 19 (O5 a0) R):aq Tryz.prog 44 [VS a0] [] R :=
 uQ (ag (az _) aC) (oQ [] Tryz.f44 h)
def Ly(a0_0:AV)(a0_1:Int)(a1:Int):Tree :=
 .test (decide (a1<(1:Int))) (.done 0 [VI 0] [.cells [a0_0,VI (IntKind.wrap .i64 (a0_1+1))]]) (NL a0_0<|.test ((a0_0.elems.length:Int)==(0:Int)) (.done 0 [VI 0] [.cells [a0_0,VI (IntKind.wrap .i64 (a0_1+1))]]) (NL a0_0<|.test (decide ((IntKind.wrap .i64 ((IntKind.wrap .i64 (a0_1+1))-1))<(a0_0.elems.length:Int))) (.ai (LK.has .sl a0_0/\0<=(IntKind.wrap .i64 ((IntKind.wrap .i64 (a0_1+1))-1))/\(IntKind.wrap .i64 ((IntKind.wrap .i64 (a0_1+1))-1))<a0_0.elems.length/\(a0_0.ix (IntKind.wrap .i64 ((IntKind.wrap .i64 (a0_1+1))-1))).length=1)<|.ai (LK.has (.int .u8) ((a0_0.ix (IntKind.wrap .i64 ((IntKind.wrap .i64 (a0_1+1))-1))).hA)/\1<=(a0_0.ix (IntKind.wrap .i64 ((IntKind.wrap .i64 (a0_1+1))-1))).length)<|.ai (¬a1=0)<|.done 0 [VI (dR (IntKind.wrap .i64 (((a0_0.ix (IntKind.wrap .i64 ((IntKind.wrap .i64 (a0_1+1))-1))).hA).toInt)) a1)] [.cells [a0_0,VI (IntKind.wrap .i64 (a0_1+1))]]) (NL a0_0<|.ai (¬(a0_0.elems.length:Int)=0)<|.ai (LK.has .sl a0_0/\0<=(dR (IntKind.wrap .i64 ((IntKind.wrap .i64 (a0_1+1))-1)) (a0_0.elems.length:Int))/\(dR (IntKind.wrap .i64 ((IntKind.wrap .i64 (a0_1+1))-1)) (a0_0.elems.length:Int))<a0_0.elems.length/\(a0_0.ix (dR (IntKind.wrap .i64 ((IntKind.wrap .i64 (a0_1+1))-1)) (a0_0.elems.length:Int))).length=1)<|.ai (LK.has (.int .u8) ((a0_0.ix (dR (IntKind.wrap .i64 ((IntKind.wrap .i64 (a0_1+1))-1)) (a0_0.elems.length:Int))).hA)/\1<=(a0_0.ix (dR (IntKind.wrap .i64 ((IntKind.wrap .i64 (a0_1+1))-1)) (a0_0.elems.length:Int))).length)<|NL a0_0<|.ai (¬(a0_0.elems.length:Int)=0)<|.ai (LK.has .sl a0_0/\0<=(dR (IntKind.wrap .i64 ((IntKind.wrap .i64 ((IntKind.wrap .i64 ((IntKind.wrap .i64 (a0_1+1))-1))*7))+3)) (a0_0.elems.length:Int))/\(dR (IntKind.wrap .i64 ((IntKind.wrap .i64 ((IntKind.wrap .i64 ((IntKind.wrap .i64 (a0_1+1))-1))*7))+3)) (a0_0.elems.length:Int))<a0_0.elems.length/\(a0_0.ix (dR (IntKind.wrap .i64 ((IntKind.wrap .i64 ((IntKind.wrap .i64 ((IntKind.wrap .i64 (a0_1+1))-1))*7))+3)) (a0_0.elems.length:Int))).length=1)<|.ai (LK.has (.int .u8) ((a0_0.ix (dR (IntKind.wrap .i64 ((IntKind.wrap .i64 ((IntKind.wrap .i64 ((IntKind.wrap .i64 (a0_1+1))-1))*7))+3)) (a0_0.elems.length:Int))).hA)/\1<=(a0_0.ix (dR (IntKind.wrap .i64 ((IntKind.wrap .i64 ((IntKind.wrap .i64 ((IntKind.wrap .i64 (a0_1+1))-1))*7))+3)) (a0_0.elems.length:Int))).length)<|NL a0_0<|.ai (¬(a0_0.elems.length:Int)=0)<|.ai (¬(64:Int)=0)<|.ai (¬a1=0)<|.done 0 [VI (dR (CX .i64 (IntKind.wrap .i64 ((IntKind.wrap .i64 ((IntKind.wrap .i64 ((IntKind.wrap .i64 ((IntKind.wrap .i64 (((a0_0.ix (dR (IntKind.wrap .i64 ((IntKind.wrap .i64 (a0_1+1))-1)) (a0_0.elems.length:Int))).hA).toInt))*131))+(IntKind.wrap .i64 ((IntKind.wrap .i64 (((a0_0.ix (dR (IntKind.wrap .i64 ((IntKind.wrap .i64 ((IntKind.wrap .i64 ((IntKind.wrap .i64 (a0_1+1))-1))*7))+3)) (a0_0.elems.length:Int))).hA).toInt))*1117))))+(IntKind.wrap .i64 ((IntKind.wrap .i64 ((IntKind.wrap .i64 (a0_1+1))-1))*29))))+(IntKind.wrap .i64 ((IntKind.wrap .i64 (Int.tdiv (IntKind.wrap .i64 ((IntKind.wrap .i64 (a0_1+1))-1)) (a0_0.elems.length:Int)))*53)))) (IntKind.wrap .i64 (Int.tdiv (IntKind.wrap .i64 ((IntKind.wrap .i64 ((IntKind.wrap .i64 ((IntKind.wrap .i64 ((IntKind.wrap .i64 (((a0_0.ix (dR (IntKind.wrap .i64 ((IntKind.wrap .i64 (a0_1+1))-1)) (a0_0.elems.length:Int))).hA).toInt))*131))+(IntKind.wrap .i64 ((IntKind.wrap .i64 (((a0_0.ix (dR (IntKind.wrap .i64 ((IntKind.wrap .i64 ((IntKind.wrap .i64 ((IntKind.wrap .i64 (a0_1+1))-1))*7))+3)) (a0_0.elems.length:Int))).hA).toInt))*1117))))+(IntKind.wrap .i64 ((IntKind.wrap .i64 ((IntKind.wrap .i64 (a0_1+1))-1))*29))))+(IntKind.wrap .i64 ((IntKind.wrap .i64 (Int.tdiv (IntKind.wrap .i64 ((IntKind.wrap .i64 (a0_1+1))-1)) (a0_0.elems.length:Int)))*53)))) 64))) a1)] [.cells [a0_0,VI (IntKind.wrap .i64 (a0_1+1))]])))
theorem Uh(a0_0:AV)(a0_1:Int)(a1:Int)(ha0_0:LK.has .sl a0_0)(h:dq 99 (Ly a0_0 a0_1 a1) R):aq Tryz.prog 45 [.ref 0 0,VI a1] [.cells [a0_0,VI a0_1]] R :=
 aq.oE (bG (cu (ag (bN ha0_0) (ag (az _) aC))) cH) (aq.up (ag (az _) (ag (az _) aC)) (oF [] {mu:=[(0,.one (.obj [.lk .sl,.lk (.int .i64)]))],own:=[]} Tryz.f45 h))
def Hn:LI:={hd:={bQ:=[(2,.k .sl),(10,.k (.int .i64))],refs:=[(6,6),(8,8)],cv:=[(6,[.lk .str,.lk .sl,.lk .str]),(8,[.lk .str,.vec 1,.lk .str])]},xs:={refs:=[(6,6),(8,8)],cv:=[(6,[.lk .str,.lk .sl,.lk .str]),(8,[.lk .str,.vec 1,.lk .str])]},rt:={bQ:=[(7,.k .bool)],refs:=[(6,6)],cv:=[(6,[.lk .str,.lk .sl,.lk .str])]},ex:=0}
def Qi:Code:=cL (cG Tryz.f46) 5
def ME:List (Nat×LI):=[(5,Hn)]
def Lk(a0:ByteArray)(a1:ByteArray)(a2:AV):Tree :=
 .call 88 [VS a0,VS a1] [] fun r1 o1=>NT r1<|.ai ((r1.comp 0)=.agg (r1.comp 0).cs/\aH [.lk .str,.vec 1,.lk .str] ((r1.comp 0).cs) 0 0 o1)<|NB (r1.comp 1)<|.ai (∀x,x∈o1->dI x)<|.test (!((r1.comp 1).toBool)) (.done 0 [.cm [.agg [VS (mk []),.v (.slice none 0 0),VS (mk [])],VB false]] []) (NL a2<|.test (decide ((a2.elems.length:Int)>(50:Int))) (.done 0 [.cm [.agg [VS (mk []),.v (.slice none 0 0),VS (mk [])],VB false]] []) (.loop Qi Hn [a2,VI 0] [.cells [VS (mk []),.v (.slice none 0 0),VS (mk [])],.cells [VS (((r1.comp 0).cs.getD 0 .any).toStr),.any,VS (((r1.comp 0).cs.getD 2 .any).toStr)],.vec 1 ((o1.hO).es)] (fun y3 q3=>.ai ((q3.hO)=.cells (q3.hO).cs)<|.ai (ae [.lk .str,.lk .sl,.lk .str] ((q3.hO).cs) 0 q3.tail)<|.ai (((q3.tail.drop 0).hO)=.cells ((q3.tail.drop 0).hO).cs)<|.ai (ae [.lk .str,.vec 1,.lk .str] (((q3.tail.drop 0).hO).cs) 0 ((q3.tail.drop 0).tail))<|.done 0 [.cm [.agg [VS (((q3.tail.hO).cs.getD 0 .any).toStr),.sl ((q3.tail.tail.hO).es),VS (((q3.tail.hO).cs.getD 2 .any).toStr)],VB true]] []) (fun y3 q3=>NB (y3.hA)<|.ai ((q3.hO)=.cells (q3.hO).cs)<|.ai (ae [.lk .str,.lk .sl,.lk .str] ((q3.hO).cs) 0 q3.tail)<|.done 0 [.cm [.agg [VS (((q3.hO).cs.getD 0 .any).toStr),((q3.hO).cs.getD 1 .any),VS (((q3.hO).cs.getD 2 .any).toStr)],VB ((y3.hA).toBool)]] [])))
theorem RT(a0:ByteArray)(a1:ByteArray)(a2:AV)(ha2:LK.has .sl a2)(h:dq 47 (Lk a0 a1 a2) R):aq Tryz.prog 46 [VS a0,VS a1,a2] [] R :=
 uQ (ag (az _) (ag (az _) (ag (bN ha2) aC))) (oQ ME Tryz.f46 h)
def Iq(x2:AV)(x10:Int)(o6_0:ByteArray)(o6_1:AV)(o6_2:ByteArray)(o8_0:ByteArray)(o8_1:List (List AV))(o8_2:ByteArray):Tree :=
 NL x2<|NI (VI x10)<|.ai (Ob.cells [VS o6_0,o6_1,VS o6_2]=.cells [VS o6_0,o6_1,VS o6_2])<|.ai (ae [.lk .str,.lk .sl,.lk .str] [VS o6_0,o6_1,VS o6_2] 0 [.cells [VS o8_0,.any,VS o8_2],.vec 1 o8_1])<|.ai (Ob.cells [VS o8_0,.any,VS o8_2]=.cells [VS o8_0,.any,VS o8_2])<|.ai (ae [.lk .str,.vec 1,.lk .str] [VS o8_0,.any,VS o8_2] 0 [.vec 1 o8_1])<|NL x2<|.test (decide (x10<(x2.elems.length:Int))) (NG x2 x10 1<|.ai (LK.has (.int .i64) ((x2.ix x10).hA)/\1<=(x2.ix x10).length)<|.call 89 [.agg [VS o8_0,.sl o8_1,VS o8_2],VI (((x2.ix x10).hA).toInt)] [] fun r1 o1=>NT r1<|.ai ((r1.comp 0)=.agg (r1.comp 0).cs/\aH [.lk .str,.vec 1,.lk .str] ((r1.comp 0).cs) 0 0 o1)<|NB (r1.comp 1)<|.ai (∀x,x∈o1->dI x)<|.test (!((r1.comp 1).toBool)) (.done 2 [VB false] [.cells [VS (mk []),.v (.slice none 0 0),VS (mk [])]]) (.done 0 [x2,VI (IntKind.wrap .i64 (x10+1))] [.cells [VS o6_0,o6_1,VS o6_2],.cells [VS (((r1.comp 0).cs.getD 0 .any).toStr),.any,VS (((r1.comp 0).cs.getD 2 .any).toStr)],.vec 1 ((o1.hO).es)])) (.done 1 [] [.cells [VS o6_0,o6_1,VS o6_2],.cells [VS o8_0,.any,VS o8_2],.vec 1 o8_1])
abbrev I3:=cF Tryz.prog 47 Qi Hn
theorem OD(x2:AV)(x10:Int)(o6_0:ByteArray)(o6_1:AV)(o6_2:ByteArray)(o8_0:ByteArray)(o8_1:List (List AV))(o8_2:ByteArray)(h:kO 47 (Iq x2 x10 o6_0 o6_1 o6_2 o8_0 o8_1 o8_2) I3 U):I3 [x2,VI x10] [.cells [VS o6_0,o6_1,VS o6_2],.cells [VS o8_0,.any,VS o8_2],.vec 1 o8_1] U :=
 gQ ME h
def Nd(a0_0:ByteArray)(a0_1:AV)(a0_2:ByteArray)(a1:ByteArray):Tree :=
 .call 90 [.agg [VS a0_0,a0_1,VS a0_2]] [] fun r1 o1=>NB r1<|.test (!r1.toBool) (.done 0 [.cm [.agg [VS (mk []),.vec 0,VS (mk [])],VB false]] [.vec 1 []]) (.ai (LK.has .sl a0_1/\ck 1 a0_1.elems/\((([]:List (List AV)).length)+a0_1.elems.length)*16<=140737488355328)<|.call 91 [.agg [VS a0_0,.vec 0,VS a1]] [.vec 1 (([]:List (List AV))++a0_1.elems)] fun r2 o2=>NT r2<|.ai ((r2.comp 0)=.agg (r2.comp 0).cs/\aH [.lk .str,.vec 1,.lk .str] ((r2.comp 0).cs) 0 1 o2.tail)<|NB (r2.comp 1)<|.done 0 [.cm [.agg [VS (((r2.comp 0).cs.getD 0 .any).toStr),.vec 0,VS (((r2.comp 0).cs.getD 2 .any).toStr)],VB ((r2.comp 1).toBool)]] [.vec 1 ((o2.tail.hO).es)])
theorem U6(a0_0:ByteArray)(a0_1:AV)(a0_2:ByteArray)(a1:ByteArray)(ha0_1:LK.has .sl a0_1)(h:dq 21 (Nd a0_0 a0_1 a0_2 a1) R):aq Tryz.prog 47 [.agg [VS a0_0,a0_1,VS a0_2],VS a1] [] R :=
 uQ (ag (bX (ag (az _) (ag (bN ha0_1) (ag (az _) aC)))) (ag (az _) aC)) (oF [] {mu:=[],own:=[0],oa:=[.lk .str,.vec 1,.lk .str]} Tryz.f47 h)
def Og(a0_0:ByteArray)(a0_1:AV)(a0_2:ByteArray):Tree :=
 .call 90 [.agg [VS a0_0,a0_1,VS a0_2]] [] fun r1 o1=>NB r1<|.test (!r1.toBool) (.done 0 [.cm [VS (mk []),VB false]] []) (.call 92 [.agg [VS a0_0,a0_1,VS a0_2]] [] fun r2 o2=>NT r2<|.ai ((r2.comp 0)=.agg (r2.comp 0).cs/\(r2.comp 0).cs.length=3/\bC [.str,.sl,.str] ((r2.comp 0).cs) 0)<|NB (r2.comp 1)<|.done 0 [.cm [VS (((r2.comp 0).cs.getD 2 .any).toStr),VB true]] [])
theorem U0(a0_0:ByteArray)(a0_1:AV)(a0_2:ByteArray)(ha0_1:LK.has .sl a0_1)(h:dq 16 (Og a0_0 a0_1 a0_2) R):aq Tryz.prog 48 [.agg [VS a0_0,a0_1,VS a0_2]] [] R :=
 uQ (ag (bX (ag (az _) (ag (bN ha0_1) (ag (az _) aC)))) aC) (oQ [] Tryz.f48 h)
def HK:LI:={hd:={bQ:=[(6,.k .sl),(7,.k .bool),(9,.k (.int .i64))],eV:=[(8,1)]},xs:={bQ:=[(7,.k .bool)],eV:=[(8,1)]},rt:={},ex:=0}
def Mh:Code:=cL (cG Tryz.f49) 4
def LG:List (Nat×LI):=[(4,HK)]
def QY(a0:ByteArray)(a1:ByteArray):Tree :=
 .call 93 [VS a0,VS a1] [] fun r1 o1=>NT r1<|NL (r1.comp 0)<|NB (r1.comp 1)<|.loop Mh HK [(r1.comp 0),VB ((r1.comp 1).toBool),VI 0] [.vec 1 []] (fun y2 q2=>NB (y2.hA)<|.ai (((q2.drop 0).hO)=.vec 1 ((q2.drop 0).hO).es)<|.done 0 [.cm [.sl ((q2.hO).es),VB ((y2.hA).toBool)]] []) (fun y2 q2=>.done 0 [.cm [.any,.any]] [])
theorem S0(a0:ByteArray)(a1:ByteArray)(h:dq 36 (QY a0 a1) R):aq Tryz.prog 49 [VS a0,VS a1] [] R :=
 uQ (ag (az _) (ag (az _) aC)) (oQ LG Tryz.f49 h)
def Ge(x6:AV)(x7:Bool)(x9:Int)(e8:List (List AV)):Tree :=
 NL x6<|NB (VB x7)<|NI (VI x9)<|.ai (Ob.vec 1 e8=.vec 1 e8)<|NL x6<|.test (decide (x9<(x6.elems.length:Int))) (.test x7 (NG x6 x9 3<|oH (x6.ix x9)<|.ai (ck 1 [[((x6.ix x9).hA)]]/\((e8.length)+([[((x6.ix x9).hA)]]:List (List AV)).length)*24<=140737488355328)<|.done 0 [x6,VB x7,VI (IntKind.wrap .i64 (x9+1))] [.vec 1 (e8++([[((x6.ix x9).hA)]]:List (List AV)))]) (.done 1 [VB x7] [.vec 1 e8])) (.done 1 [VB x7] [.vec 1 e8])
abbrev Ix:=cF Tryz.prog 36 Mh HK
theorem Jm(x6:AV)(x7:Bool)(x9:Int)(e8:List (List AV))(h:kO 36 (Ge x6 x7 x9 e8) Ix U):Ix [x6,VB x7,VI x9] [.vec 1 e8] U :=
 gQ LG h
def NU(a0_0:AV)(a0_1:Int)(a1:ByteArray):Tree :=
 .call 53 [VS a1] [] fun r1 o1=>NT r1<|.ai ((r1.comp 0)=.agg (r1.comp 0).cs/\(r1.comp 0).cs.length=2/\bC [.str,.sl] ((r1.comp 0).cs) 0)<|NB (r1.comp 1)<|.test (!((r1.comp 1).toBool)) (.call 94 [.ref 0 0,.sl [[VS (mk [])],[VS (mk [117])],[VS (mk [101,48])],[VS (mk [101,48,48])],[VS (mk [101,49,48,48])],[VS (mk [40,108,32,117,41])],[VS (mk [40,112,32,117,41])],[VS (mk [40,102,32,40,108,32,117,41,41])],[VS (mk [40,120,32,117,41])],[VS (mk [40,108,32,32,117,41])]]] [.cells [a0_0,VI a0_1]] fun r2 o2=>.ai ((o2.hO)=.cells (o2.hO).cs)<|.ai (aH [.lk .sl,.lk (.int .i64)] ((o2.hO).cs) 0 1 o2.tail)<|NS r2<|.done 0 [VS r2.toStr] [.cells [((o2.hO).cs.getD 0 .any),VI (((o2.hO).cs.getD 1 .any).toInt)]]) (.call 45 [.ref 0 0,VI 16] [.cells [a0_0,VI a0_1]] fun r3 o3=>.ai ((o3.hO)=.cells (o3.hO).cs)<|.ai (aH [.lk .sl,.lk (.int .i64)] ((o3.hO).cs) 0 1 o3.tail)<|NI r3<|.test (r3.toInt==(0:Int)) (.call 94 [.ref 0 0,.sl [[VS (mk [])],[VS (mk [117])],[VS (mk [101,48])],[VS (mk [101,48,48])],[VS (mk [101,49,48,48])],[VS (mk [40,108,32,117,41])],[VS (mk [40,112,32,117,41])],[VS (mk [40,102,32,40,108,32,117,41,41])],[VS (mk [40,120,32,117,41])],[VS (mk [40,108,32,32,117,41])]]] [.cells [((o3.hO).cs.getD 0 .any),VI (((o3.hO).cs.getD 1 .any).toInt)]] fun r4 o4=>.ai ((o4.hO)=.cells (o4.hO).cs)<|.ai (aH [.lk .sl,.lk (.int .i64)] ((o4.hO).cs) 0 1 o4.tail)<|NS r4<|.done 0 [VS r4.toStr] [.cells [((o4.hO).cs.getD 0 .any),VI (((o4.hO).cs.getD 1 .any).toInt)]]) (.call 96 [.agg [VS (((r1.comp 0).cs.getD 0 .any).toStr),((r1.comp 0).cs.getD 1 .any)],.v (.slice none 0 0)] [] fun r5 o5=>NA r5<|.call 45 [.ref 0 0,VI 5] [.cells [((o3.hO).cs.getD 0 .any),VI (((o3.hO).cs.getD 1 .any).toInt)]] fun r6 o6=>.ai ((o6.hO)=.cells (o6.hO).cs)<|.ai (aH [.lk .sl,.lk (.int .i64)] ((o6.hO).cs) 0 1 o6.tail)<|NI r6<|.call 95 [.ref 0 0,.agg [VS ((r5.cs.getD 0 .any).toStr),(r5.cs.getD 1 .any)],VI (IntKind.wrap .i64 (5+r6.toInt))] [.cells [((o6.hO).cs.getD 0 .any),VI (((o6.hO).cs.getD 1 .any).toInt)]] fun r7 o7=>.ai ((o7.hO)=.cells (o7.hO).cs)<|.ai (aH [.lk .sl,.lk (.int .i64)] ((o7.hO).cs) 0 1 o7.tail)<|NA r7<|.call 60 [.agg [VS ((r7.cs.getD 0 .any).toStr),(r7.cs.getD 1 .any)]] [] fun r8 o8=>NS r8<|.done 0 [VS r8.toStr] [.cells [((o7.hO).cs.getD 0 .any),VI (((o7.hO).cs.getD 1 .any).toInt)]]))
theorem Sk(a0_0:AV)(a0_1:Int)(a1:ByteArray)(ha0_0:LK.has .sl a0_0)(h:dq 30 (NU a0_0 a0_1 a1) R):aq Tryz.prog 50 [.ref 0 0,VS a1] [.cells [a0_0,VI a0_1]] R :=
 aq.oE (bG (cu (ag (bN ha0_0) (ag (az _) aC))) cH) (aq.up (ag (az _) (ag (az _) aC)) (oF [] {mu:=[(0,.one (.obj [.lk .sl,.lk (.int .i64)]))],own:=[]} Tryz.f50 h))
def N3(a0:ByteArray):Tree :=
 .call 82 [VS a0] [] fun r1 o1=>NP r1<|NP r1<|.test r1.isNil (.done 0 [.v (.pointer none)] []) (NZ r1<|NZ r1<|.ai (LK.has (.int .u8) (r1.deref.hA)/\1<=r1.deref.length)<|.test (((r1.deref.hA).toInt) != (114:Int)) (.done 0 [.v (.pointer none)] []) (.done 0 [r1] []))
theorem Tk(a0:ByteArray)(h:dq 16 (N3 a0) R):aq Tryz.prog 51 [VS a0] [] R :=
 uQ (ag (az _) aC) (oQ [] Tryz.f51 h)
def I0(a0:AV):Tree :=
 NZ a0<|NZ a0<|.ai (LK.has (.int .u8) (a0.deref.hA)/\1<=a0.deref.length)<|.test (((a0.deref.hA).toInt)==(117:Int)) (.done 0 [VS (mk [117])] []) (.test (((a0.deref.hA).toInt)==(101:Int)) (NZ a0<|NZ a0<|lL (a0.deref.drop 1)<|.done 0 [VS (((a0.deref.drop 1).hA).toStr)] []) (.test (((a0.deref.hA).toInt)==(112:Int)) (NZ a0<|NZ a0<|ei (a0.deref.drop 2)<|.call 52 [((a0.deref.drop 2).hA)] [] fun r1 o1=>NS r1<|.ai (ah (mk [40,112,32])+ah r1.toStr<=9223372036854775807)<|.ai (ah (((mk [40,112,32]):ByteArray)++r1.toStr)+ah (mk [32])<=9223372036854775807)<|NZ a0<|NZ a0<|ei (a0.deref.drop 3)<|.call 52 [((a0.deref.drop 3).hA)] [] fun r2 o2=>NS r2<|.ai (ah (((((mk [40,112,32]):ByteArray)++r1.toStr):ByteArray)++(mk [32]))+ah r2.toStr<=9223372036854775807)<|.ai (ah (((((((mk [40,112,32]):ByteArray)++r1.toStr):ByteArray)++(mk [32])):ByteArray)++r2.toStr)+ah (mk [41])<=9223372036854775807)<|.done 0 [VS (((((((((mk [40,112,32]):ByteArray)++r1.toStr):ByteArray)++(mk [32])):ByteArray)++r2.toStr):ByteArray)++(mk [41]))] []) (NZ a0<|NZ a0<|.ai (LK.has (.int .u8) (a0.deref.hA)/\1<=a0.deref.length)<|.ai (j8 [[.v (.int .u8 ((a0.deref.hA).toInt))]])<|.ai (ah (mk [40])+ah (⟨(bytesOf [[.v (.int .u8 ((a0.deref.hA).toInt))]]).toArray⟩)<=9223372036854775807)<|.ai (ah (((mk [40]):ByteArray)++(⟨(bytesOf [[.v (.int .u8 ((a0.deref.hA).toInt))]]).toArray⟩))+ah (mk [32])<=9223372036854775807)<|NZ a0<|NZ a0<|ei (a0.deref.drop 2)<|.call 52 [((a0.deref.drop 2).hA)] [] fun r3 o3=>NS r3<|.ai (ah (((((mk [40]):ByteArray)++(⟨(bytesOf [[.v (.int .u8 ((a0.deref.hA).toInt))]]).toArray⟩)):ByteArray)++(mk [32]))+ah r3.toStr<=9223372036854775807)<|.ai (ah (((((((mk [40]):ByteArray)++(⟨(bytesOf [[.v (.int .u8 ((a0.deref.hA).toInt))]]).toArray⟩)):ByteArray)++(mk [32])):ByteArray)++r3.toStr)+ah (mk [41])<=9223372036854775807)<|.done 0 [VS (((((((((mk [40]):ByteArray)++(⟨(bytesOf [[.v (.int .u8 ((a0.deref.hA).toInt))]]).toArray⟩)):ByteArray)++(mk [32])):ByteArray)++r3.toStr):ByteArray)++(mk [41]))] [])))
theorem Bl(a0:AV)(ha0:LK.has .ptr a0)(h:dq 46 (I0 a0) R):aq Tryz.prog 52 [a0] [] R :=
 uQ (ag (bI ha0) aC) (oQ [] Tryz.f52 h)
def Jl:LI:={hd:={bQ:=[(7,.k (.int .i64))],refs:=[(2,2),(4,4)],cv:=[(2,[.lk .str,.lk .sl]),(4,[.lk .str,.lk .sl])],eV:=[(6,1)]},xs:={refs:=[(2,2),(4,4)],cv:=[(2,[.lk .str,.lk .sl]),(4,[.lk .str,.lk .sl])]},rt:={bQ:=[(3,.k .bool)],refs:=[(2,2)],cv:=[(2,[.lk .str,.lk .sl])]},ex:=0}
def Lj:Code:=cL (cG Tryz.f53) 6
def N6:List (Nat×LI):=[(6,Jl)]
def PH(a0:ByteArray):Tree :=
 .call 97 [VS a0] [] fun r1 o1=>NT r1<|.ai ((r1.comp 0)=.agg (r1.comp 0).cs/\(r1.comp 0).cs.length=2/\bC [.str,.sl] ((r1.comp 0).cs) 0)<|NB (r1.comp 1)<|.test (!((r1.comp 1).toBool)) (.done 0 [.cm [.agg [VS (((r1.comp 0).cs.getD 0 .any).toStr),((r1.comp 0).cs.getD 1 .any)],VB false]] []) (.call 98 [.agg [VS (((r1.comp 0).cs.getD 0 .any).toStr),((r1.comp 0).cs.getD 1 .any)],.sl [],.vec 0] [.vec 1 []] fun r2 o2=>.ai (r2=.vec 1/\(o2.tail.hO)=.vec 1 (o2.tail.hO).es)<|.loop Lj Jl [VI 0] [.cells [VS (mk []),.v (.slice none 0 0)],.cells [VS (((r1.comp 0).cs.getD 0 .any).toStr),((r1.comp 0).cs.getD 1 .any)],.vec 1 ((o2.tail.hO).es)] (fun y4 q4=>.ai ((q4.hO)=.cells (q4.hO).cs)<|.ai (ae [.lk .str,.lk .sl] ((q4.hO).cs) 0 q4.tail)<|.ai (((q4.tail.drop 0).hO)=.cells ((q4.tail.drop 0).hO).cs)<|.ai (ae [.lk .str,.lk .sl] (((q4.tail.drop 0).hO).cs) 0 ((q4.tail.drop 0).tail))<|.done 0 [.cm [.agg [VS (((q4.tail.hO).cs.getD 0 .any).toStr),((q4.tail.hO).cs.getD 1 .any)],VB true]] []) (fun y4 q4=>NB (y4.hA)<|.ai ((q4.hO)=.cells (q4.hO).cs)<|.ai (ae [.lk .str,.lk .sl] ((q4.hO).cs) 0 q4.tail)<|.done 0 [.cm [.agg [VS (((q4.hO).cs.getD 0 .any).toStr),((q4.hO).cs.getD 1 .any)],VB ((y4.hA).toBool)]] []))
theorem Sm(a0:ByteArray)(h:dq 33 (PH a0) R):aq Tryz.prog 53 [VS a0] [] R :=
 uQ (ag (az _) aC) (oQ N6 Tryz.f53 h)
def HC(x7:Int)(o2_0:ByteArray)(o2_1:AV)(o4_0:ByteArray)(o4_1:AV)(e6:List (List AV)):Tree :=
 NI (VI x7)<|.ai (Ob.cells [VS o2_0,o2_1]=.cells [VS o2_0,o2_1])<|.ai (ae [.lk .str,.lk .sl] [VS o2_0,o2_1] 0 [.cells [VS o4_0,o4_1],.vec 1 e6])<|.ai (Ob.cells [VS o4_0,o4_1]=.cells [VS o4_0,o4_1])<|.ai (ae [.lk .str,.lk .sl] [VS o4_0,o4_1] 0 [.vec 1 e6])<|.ai (Ob.vec 1 e6=.vec 1 e6)<|.test (decide (x7<(e6.length:Int))) (.ai (0<=x7/\x7<e6.length)<|.ai (x7.toNat<e6.length/\0<(e6.getD x7.toNat []).length/\LK.has .str ((e6.getD x7.toNat []).getD 0 .any))<|.call 99 [VS (((e6.getD x7.toNat []).getD 0 .any).toStr)] [] fun r1 o1=>NB r1<|.test r1.toBool (.done 2 [VB false] [.cells [VS o4_0,o4_1]]) (.done 0 [VI (IntKind.wrap .i64 (x7+1))] [.cells [VS o2_0,o2_1],.cells [VS o4_0,o4_1],.vec 1 e6])) (.done 1 [] [.cells [VS o2_0,o2_1],.cells [VS o4_0,o4_1]])
abbrev Hb:=cF Tryz.prog 33 Lj Jl
theorem QC(x7:Int)(o2_0:ByteArray)(o2_1:AV)(o4_0:ByteArray)(o4_1:AV)(e6:List (List AV))(h:kO 33 (HC x7 o2_0 o2_1 o4_0 o4_1 e6) Hb U):Hb [VI x7] [.cells [VS o2_0,o2_1],.cells [VS o4_0,o4_1],.vec 1 e6] U :=
 gQ N6 h
def E9(a0_0:ByteArray)(a0_1:AV):Tree :=
 .test (!(af a0_0==af (mk []))) (.done 0 [VS (mk [])] []) (NL a0_1<|.test ((a0_1.elems.length:Int)==(0:Int)) (.done 0 [VS (mk [])] []) (NG a0_1 0 2<|lL (a0_1.ix (0:Int))<|.done 0 [VS (((a0_1.ix (0:Int)).hA).toStr)] []))
theorem Jq(a0_0:ByteArray)(a0_1:AV)(ha0_1:LK.has .sl a0_1)(h:dq 17 (E9 a0_0 a0_1) R):aq Tryz.prog 54 [.agg [VS a0_0,a0_1]] [] R :=
 uQ (ag (bX (ag (az _) (ag (bN ha0_1) aC))) aC) (oQ [] Tryz.f54 h)
def Mf(a0:Int)(a1:Int)(a2:Int):Tree :=
 .test (decide (a0≥a1)) (.done 0 [VB (decide (a0<=a2))] []) (.done 0 [VB false] [])
theorem T4(a0:Int)(a1:Int)(a2:Int)(h:dq 15 (Mf a0 a1 a2) R):aq Tryz.prog 55 [VI a0,VI a1,VI a2] [] R :=
 uQ (ag (az _) (ag (az _) (ag (az _) aC))) (oQ [] Tryz.f55 h)
def Rd(a0_0:ByteArray)(a0_1:AV)(a1:AV)(a2_0:ByteArray)(a2_1:AV)(a3:Int):Tree :=
 .call 100 [.agg [VS a0_0,a0_1],a1] [] fun r1 o1=>NT r1<|.ai ((r1.comp 0)=.agg (r1.comp 0).cs/\(r1.comp 0).cs.length=2/\bC [.str,.sl] ((r1.comp 0).cs) 0)<|NL (r1.comp 1)<|.test (!(af (((r1.comp 0).cs.getD 0 .any).toStr)==af (mk []))) (.test (af (((r1.comp 0).cs.getD 0 .any).toStr)==af (mk [49])) (.done 0 [VB (af a2_0==af (mk [117]))] []) (.call 101 [VS (((r1.comp 0).cs.getD 0 .any).toStr)] [] fun r2 o2=>NB r2<|.test r2.toBool (.call 102 [VS a2_0] [] fun r3 o3=>NI r3<|.call 55 [VI r3.toInt,VI 0,VI (IntKind.wrap .i64 (a3-1))] [] fun r4 o4=>NB r4<|.done 0 [VB r4.toBool] []) (.done 0 [VB false] []))) (.call 54 [.agg [VS (((r1.comp 0).cs.getD 0 .any).toStr),((r1.comp 0).cs.getD 1 .any)]] [] fun r5 o5=>NS r5<|.call 54 [.agg [VS a2_0,a2_1]] [] fun r6 o6=>NS r6<|.ai (ah r5.toStr+ah r6.toStr<=9223372036854775807)<|.test (af ((r5.toStr:ByteArray)++r6.toStr)==af (mk [43,108])) (NG ((r1.comp 0).cs.getD 1 .any) 1 2<|NE (((r1.comp 0).cs.getD 1 .any).ix (1:Int))<|NG a2_1 1 2<|NE (a2_1.ix (1:Int))<|.call 56 [.agg [VS (((((r1.comp 0).cs.getD 1 .any).ix (1:Int)).getD 0 .any).toStr),((((r1.comp 0).cs.getD 1 .any).ix (1:Int)).getD 1 .any)],(r1.comp 1),.agg [VS (((a2_1.ix (1:Int)).getD 0 .any).toStr),((a2_1.ix (1:Int)).getD 1 .any)],VI a3] [] fun r7 o7=>NB r7<|.done 0 [VB r7.toBool] []) (.test (af ((r5.toStr:ByteArray)++r6.toStr)==af (mk [43,114])) (NG ((r1.comp 0).cs.getD 1 .any) 2 2<|NE (((r1.comp 0).cs.getD 1 .any).ix (2:Int))<|NG a2_1 1 2<|NE (a2_1.ix (1:Int))<|.call 56 [.agg [VS (((((r1.comp 0).cs.getD 1 .any).ix (2:Int)).getD 0 .any).toStr),((((r1.comp 0).cs.getD 1 .any).ix (2:Int)).getD 1 .any)],(r1.comp 1),.agg [VS (((a2_1.ix (1:Int)).getD 0 .any).toStr),((a2_1.ix (1:Int)).getD 1 .any)],VI a3] [] fun r8 o8=>NB r8<|.done 0 [VB r8.toBool] []) (.test (af ((r5.toStr:ByteArray)++r6.toStr)==af (mk [42,112])) (NG ((r1.comp 0).cs.getD 1 .any) 1 2<|NE (((r1.comp 0).cs.getD 1 .any).ix (1:Int))<|NG a2_1 1 2<|NE (a2_1.ix (1:Int))<|.call 56 [.agg [VS (((((r1.comp 0).cs.getD 1 .any).ix (1:Int)).getD 0 .any).toStr),((((r1.comp 0).cs.getD 1 .any).ix (1:Int)).getD 1 .any)],(r1.comp 1),.agg [VS (((a2_1.ix (1:Int)).getD 0 .any).toStr),((a2_1.ix (1:Int)).getD 1 .any)],VI a3] [] fun r9 o9=>NB r9<|.test r9.toBool (NG ((r1.comp 0).cs.getD 1 .any) 2 2<|NE (((r1.comp 0).cs.getD 1 .any).ix (2:Int))<|NG a2_1 2 2<|NE (a2_1.ix (2:Int))<|.call 56 [.agg [VS (((((r1.comp 0).cs.getD 1 .any).ix (2:Int)).getD 0 .any).toStr),((((r1.comp 0).cs.getD 1 .any).ix (2:Int)).getD 1 .any)],(r1.comp 1),.agg [VS (((a2_1.ix (2:Int)).getD 0 .any).toStr),((a2_1.ix (2:Int)).getD 1 .any)],VI a3] [] fun r10 o10=>NB r10<|.done 0 [VB r10.toBool] []) (.done 0 [VB false] [])) (.test (af ((r5.toStr:ByteArray)++r6.toStr)==af (mk [114,101,99,102])) (.call 103 [.agg [VS (((r1.comp 0).cs.getD 0 .any).toStr),((r1.comp 0).cs.getD 1 .any)],(r1.comp 1)] [] fun r11 o11=>NT r11<|.ai ((r11.comp 0)=.agg (r11.comp 0).cs/\(r11.comp 0).cs.length=2/\bC [.str,.sl] ((r11.comp 0).cs) 0)<|NL (r11.comp 1)<|NG a2_1 1 2<|NE (a2_1.ix (1:Int))<|.call 56 [.agg [VS (((r11.comp 0).cs.getD 0 .any).toStr),((r11.comp 0).cs.getD 1 .any)],(r11.comp 1),.agg [VS (((a2_1.ix (1:Int)).getD 0 .any).toStr),((a2_1.ix (1:Int)).getD 1 .any)],VI a3] [] fun r12 o12=>NB r12<|.done 0 [VB r12.toBool] []) (.done 0 [VB false] [])))))
theorem Tu(a0_0:ByteArray)(a0_1:AV)(a1:AV)(a2_0:ByteArray)(a2_1:AV)(a3:Int)(ha0_1:LK.has .sl a0_1)(ha1:LK.has .sl a1)(ha2_1:LK.has .sl a2_1)(h:dq 110 (Rd a0_0 a0_1 a1 a2_0 a2_1 a3) R):aq Tryz.prog 56 [.agg [VS a0_0,a0_1],a1,.agg [VS a2_0,a2_1],VI a3] [] R :=
 uQ (ag (bX (ag (az _) (ag (bN ha0_1) aC))) (ag (bN ha1) (ag (bX (ag (az _) (ag (bN ha2_1) aC))) (ag (az _) aC)))) (oQ [] Tryz.f56 h)
def Rc(a0:ByteArray):Tree :=
 .test (decide ((ah a0:Int)>(8000:Int))) (.done 0 [.cm [.agg [VS (mk []),.v (.slice none 0 0)],VB false]] []) (.call 104 [VS a0,VI 0,VI 0] [] fun r1 o1=>NT r1<|.ai ((r1.comp 0)=.agg (r1.comp 0).cs/\(r1.comp 0).cs.length=2/\bC [.str,.sl] ((r1.comp 0).cs) 0)<|NI (r1.comp 1)<|.done 0 [.cm [.agg [VS (((r1.comp 0).cs.getD 0 .any).toStr),((r1.comp 0).cs.getD 1 .any)],VB (((r1.comp 1).toInt)==(ah a0:Int))]] [])
theorem SS(a0:ByteArray)(h:dq 20 (Rc a0) R):aq Tryz.prog 57 [VS a0] [] R :=
 uQ (ag (az _) aC) (oQ [] Tryz.f57 h)
def yl(a0_0:ByteArray)(a0_1:AV):Tree :=
 .test (!(af a0_0==af (mk []))) (.test (af a0_0==af (mk [117])) (.done 0 [VB true] []) (.call 102 [VS a0_0] [] fun r1 o1=>NI r1<|.done 0 [VB (decide (r1.toInt≥(0:Int)))] [])) (.call 54 [.agg [VS a0_0,a0_1]] [] fun r2 o2=>NS r2<|.test (af r2.toStr==af (mk [108])) (NL a0_1<|.test ((a0_1.elems.length:Int)==(2:Int)) (NG a0_1 1 2<|NE (a0_1.ix (1:Int))<|.call 58 [.agg [VS (((a0_1.ix (1:Int)).getD 0 .any).toStr),((a0_1.ix (1:Int)).getD 1 .any)]] [] fun r3 o3=>NB r3<|.done 0 [VB r3.toBool] []) (.done 0 [VB false] [])) (.test (af r2.toStr==af (mk [114])) (NL a0_1<|.test ((a0_1.elems.length:Int)==(2:Int)) (NG a0_1 1 2<|NE (a0_1.ix (1:Int))<|.call 58 [.agg [VS (((a0_1.ix (1:Int)).getD 0 .any).toStr),((a0_1.ix (1:Int)).getD 1 .any)]] [] fun r4 o4=>NB r4<|.done 0 [VB r4.toBool] []) (.done 0 [VB false] [])) (.test (af r2.toStr==af (mk [102])) (NL a0_1<|.test ((a0_1.elems.length:Int)==(2:Int)) (NG a0_1 1 2<|NE (a0_1.ix (1:Int))<|.call 58 [.agg [VS (((a0_1.ix (1:Int)).getD 0 .any).toStr),((a0_1.ix (1:Int)).getD 1 .any)]] [] fun r5 o5=>NB r5<|.done 0 [VB r5.toBool] []) (.done 0 [VB false] [])) (.test (af r2.toStr==af (mk [112])) (NL a0_1<|.test ((a0_1.elems.length:Int)==(3:Int)) (NG a0_1 1 2<|NE (a0_1.ix (1:Int))<|.call 58 [.agg [VS (((a0_1.ix (1:Int)).getD 0 .any).toStr),((a0_1.ix (1:Int)).getD 1 .any)]] [] fun r6 o6=>NB r6<|.test r6.toBool (NG a0_1 2 2<|NE (a0_1.ix (2:Int))<|.call 58 [.agg [VS (((a0_1.ix (2:Int)).getD 0 .any).toStr),((a0_1.ix (2:Int)).getD 1 .any)]] [] fun r7 o7=>NB r7<|.done 0 [VB r7.toBool] []) (.done 0 [VB false] [])) (.done 0 [VB false] [])) (.done 0 [VB false] [])))))
theorem BJ(a0_0:ByteArray)(a0_1:AV)(ha0_1:LK.has .sl a0_1)(h:dq 52 (yl a0_0 a0_1) R):aq Tryz.prog 58 [.agg [VS a0_0,a0_1]] [] R :=
 uQ (ag (bX (ag (az _) (ag (bN ha0_1) aC))) aC) (oQ [] Tryz.f58 h)
def Ht:LI:={hd:={bQ:=[(3,.k (.int .i64)),(4,.k (.int .i64))],refs:=[(1,1)],cv:=[(1,[.lk .str,.lk .sl])]},xs:={bQ:=[(3,.k (.int .i64))]},rt:={},ex:=0}
def QW:Code:=cL (cG Tryz.f59) 3
def QB:List (Nat×LI):=[(3,Ht)]
def HH(a0_0:ByteArray)(a0_1:AV):Tree :=
 .loop QW Ht [VI 1,VI 1] [.cells [VS a0_0,a0_1]] (fun y2 q2=>NI (y2.hA)<|.done 0 [VI ((y2.hA).toInt)] []) (fun y2 q2=>.done 0 [.any] [])
theorem Lb(a0_0:ByteArray)(a0_1:AV)(ha0_1:LK.has .sl a0_1)(h:dq 21 (HH a0_0 a0_1) R):aq Tryz.prog 59 [.agg [VS a0_0,a0_1]] [] R :=
 uQ (ag (bX (ag (az _) (ag (bN ha0_1) aC))) aC) (oQ QB Tryz.f59 h)
def Cm(x3:Int)(x4:Int)(o1_0:ByteArray)(o1_1:AV):Tree :=
 NI (VI x3)<|NI (VI x4)<|.ai (Ob.cells [VS o1_0,o1_1]=.cells [VS o1_0,o1_1])<|.ai (ae [.lk .str,.lk .sl] [VS o1_0,o1_1] 0 [])<|NL o1_1<|.test (decide (x4<(o1_1.elems.length:Int))) (NG o1_1 x4 2<|NE (o1_1.ix x4)<|.call 59 [.agg [VS (((o1_1.ix x4).getD 0 .any).toStr),((o1_1.ix x4).getD 1 .any)]] [] fun r1 o1=>NI r1<|.done 0 [VI (IntKind.wrap .i64 (x3+r1.toInt)),VI (IntKind.wrap .i64 (x4+1))] [.cells [VS o1_0,o1_1]]) (.done 1 [VI x3] [])
abbrev Ce:=cF Tryz.prog 21 QW Ht
theorem E7(x3:Int)(x4:Int)(o1_0:ByteArray)(o1_1:AV)(h:kO 21 (Cm x3 x4 o1_0 o1_1) Ce U):Ce [VI x3,VI x4] [.cells [VS o1_0,o1_1]] U :=
 gQ QB h
def H4:LI:={hd:={bQ:=[(3,.k .str),(4,.k (.int .i64))],refs:=[(1,1)],cv:=[(1,[.lk .str,.lk .sl])]},xs:={bQ:=[(3,.k .str)]},rt:={},ex:=0}
def Qk:Code:=cL (cG Tryz.f60) 5
def Qs:List (Nat×LI):=[(5,H4)]
def FE(a0_0:ByteArray)(a0_1:AV):Tree :=
 .test (!(af a0_0==af (mk []))) (.done 0 [VS a0_0] []) (.loop Qk H4 [VS (mk [40]),VI 0] [.cells [VS a0_0,a0_1]] (fun y3 q3=>NS (y3.hA)<|.ai (ah ((y3.hA).toStr)+ah (mk [41])<=9223372036854775807)<|.done 0 [VS ((((y3.hA).toStr):ByteArray)++(mk [41]))] []) (fun y3 q3=>.done 0 [.any] []))
theorem Kh(a0_0:ByteArray)(a0_1:AV)(ha0_1:LK.has .sl a0_1)(h:dq 31 (FE a0_0 a0_1) R):aq Tryz.prog 60 [.agg [VS a0_0,a0_1]] [] R :=
 uQ (ag (bX (ag (az _) (ag (bN ha0_1) aC))) aC) (oQ Qs Tryz.f60 h)
def Cd(x3:ByteArray)(x4:Int)(o1_0:ByteArray)(o1_1:AV):Tree :=
 NS (VS x3)<|NI (VI x4)<|.ai (Ob.cells [VS o1_0,o1_1]=.cells [VS o1_0,o1_1])<|.ai (ae [.lk .str,.lk .sl] [VS o1_0,o1_1] 0 [])<|NL o1_1<|.test (decide (x4<(o1_1.elems.length:Int))) (.test (decide (x4>(0:Int))) (.ai (ah x3+ah (mk [32])<=9223372036854775807)<|NG o1_1 x4 2<|NE (o1_1.ix x4)<|.call 60 [.agg [VS (((o1_1.ix x4).getD 0 .any).toStr),((o1_1.ix x4).getD 1 .any)]] [] fun r1 o1=>NS r1<|.ai (ah ((x3:ByteArray)++(mk [32]))+ah r1.toStr<=9223372036854775807)<|.done 0 [VS ((((x3:ByteArray)++(mk [32])):ByteArray)++r1.toStr),VI (IntKind.wrap .i64 (x4+1))] [.cells [VS o1_0,o1_1]]) (NG o1_1 x4 2<|NE (o1_1.ix x4)<|.call 60 [.agg [VS (((o1_1.ix x4).getD 0 .any).toStr),((o1_1.ix x4).getD 1 .any)]] [] fun r2 o2=>NS r2<|.ai (ah x3+ah r2.toStr<=9223372036854775807)<|.done 0 [VS ((x3:ByteArray)++r2.toStr),VI (IntKind.wrap .i64 (x4+1))] [.cells [VS o1_0,o1_1]])) (.done 1 [VS x3] [])
abbrev Ds:=cF Tryz.prog 31 Qk H4
theorem Gg(x3:ByteArray)(x4:Int)(o1_0:ByteArray)(o1_1:AV)(h:kO 31 (Cd x3 x4 o1_0 o1_1) Ds U):Ds [VS x3,VI x4] [.cells [VS o1_0,o1_1]] U :=
 gQ Qs h
def Hs(a0:ByteArray)(a1:AV):Tree :=
 .ai (LK.has .sl a1/\ck 2 a1.elems/\((([[VS a0,.v (.slice none 0 0)]]:List (List AV)).length)+a1.elems.length)*40<=140737488355328)<|.done 0 [.agg [VS (mk []),.sl (([[VS a0,.v (.slice none 0 0)]]:List (List AV))++a1.elems)]] []
theorem Md(a0:ByteArray)(a1:AV)(ha1:LK.has .sl a1)(h:dq 11 (Hs a0 a1) R):aq Tryz.prog 61 [VS a0,a1] [] R :=
 uQ (ag (az _) (ag (bN ha1) aC)) (oQ [] Tryz.f61 h)
def EL(a0_0:ByteArray)(a0_1:AV)(a1:ByteArray)(a2_0:ByteArray)(a2_1:AV)(a3_0:ByteArray)(a3_1:AV):Tree :=
 .test (!(af a0_0==af (mk []))) (.done 0 [.agg [VS a3_0,a3_1]] []) (NG a2_1 1 2<|NE (a2_1.ix (1:Int))<|.call 54 [.agg [VS a0_0,a0_1]] [] fun r1 o1=>NS r1<|.call 54 [.agg [VS a2_0,a2_1]] [] fun r2 o2=>NS r2<|.ai (ah r1.toStr+ah r2.toStr<=9223372036854775807)<|.test (af ((r1.toStr:ByteArray)++r2.toStr)==af (mk [43,108])) (NG a0_1 1 2<|NE (a0_1.ix (1:Int))<|.call 62 [.agg [VS (((a0_1.ix (1:Int)).getD 0 .any).toStr),((a0_1.ix (1:Int)).getD 1 .any)],VS a1,.agg [VS (((a2_1.ix (1:Int)).getD 0 .any).toStr),((a2_1.ix (1:Int)).getD 1 .any)],.agg [VS a3_0,a3_1]] [] fun r3 o3=>NA r3<|.call 61 [VS (mk [108]),.sl [[VS ((r3.cs.getD 0 .any).toStr),(r3.cs.getD 1 .any)]]] [] fun r4 o4=>NA r4<|.done 0 [.agg [VS ((r4.cs.getD 0 .any).toStr),(r4.cs.getD 1 .any)]] []) (.test (af ((r1.toStr:ByteArray)++r2.toStr)==af (mk [43,114])) (NG a0_1 2 2<|NE (a0_1.ix (2:Int))<|.call 62 [.agg [VS (((a0_1.ix (2:Int)).getD 0 .any).toStr),((a0_1.ix (2:Int)).getD 1 .any)],VS a1,.agg [VS (((a2_1.ix (1:Int)).getD 0 .any).toStr),((a2_1.ix (1:Int)).getD 1 .any)],.agg [VS a3_0,a3_1]] [] fun r5 o5=>NA r5<|.call 61 [VS (mk [114]),.sl [[VS ((r5.cs.getD 0 .any).toStr),(r5.cs.getD 1 .any)]]] [] fun r6 o6=>NA r6<|.done 0 [.agg [VS ((r6.cs.getD 0 .any).toStr),(r6.cs.getD 1 .any)]] []) (.test (af ((r1.toStr:ByteArray)++r2.toStr)==af (mk [42,108])) (NG a0_1 1 2<|NE (a0_1.ix (1:Int))<|NG ((a2_1.ix (1:Int)).getD 1 .any) 1 2<|NE (((a2_1.ix (1:Int)).getD 1 .any).ix (1:Int))<|.call 62 [.agg [VS (((a0_1.ix (1:Int)).getD 0 .any).toStr),((a0_1.ix (1:Int)).getD 1 .any)],VS a1,.agg [VS (((((a2_1.ix (1:Int)).getD 1 .any).ix (1:Int)).getD 0 .any).toStr),((((a2_1.ix (1:Int)).getD 1 .any).ix (1:Int)).getD 1 .any)],.agg [VS a3_0,a3_1]] [] fun r7 o7=>NA r7<|NG ((a2_1.ix (1:Int)).getD 1 .any) 2 2<|NE (((a2_1.ix (1:Int)).getD 1 .any).ix (2:Int))<|.call 61 [VS (mk [112]),.sl [[VS ((r7.cs.getD 0 .any).toStr),(r7.cs.getD 1 .any)],[VS (((((a2_1.ix (1:Int)).getD 1 .any).ix (2:Int)).getD 0 .any).toStr),((((a2_1.ix (1:Int)).getD 1 .any).ix (2:Int)).getD 1 .any)]]] [] fun r8 o8=>NA r8<|.done 0 [.agg [VS ((r8.cs.getD 0 .any).toStr),(r8.cs.getD 1 .any)]] []) (.test (af ((r1.toStr:ByteArray)++r2.toStr)==af (mk [42,114])) (NG ((a2_1.ix (1:Int)).getD 1 .any) 1 2<|NE (((a2_1.ix (1:Int)).getD 1 .any).ix (1:Int))<|NG a0_1 2 2<|NE (a0_1.ix (2:Int))<|NG ((a2_1.ix (1:Int)).getD 1 .any) 2 2<|NE (((a2_1.ix (1:Int)).getD 1 .any).ix (2:Int))<|.call 62 [.agg [VS (((a0_1.ix (2:Int)).getD 0 .any).toStr),((a0_1.ix (2:Int)).getD 1 .any)],VS a1,.agg [VS (((((a2_1.ix (1:Int)).getD 1 .any).ix (2:Int)).getD 0 .any).toStr),((((a2_1.ix (1:Int)).getD 1 .any).ix (2:Int)).getD 1 .any)],.agg [VS a3_0,a3_1]] [] fun r9 o9=>NA r9<|.call 61 [VS (mk [112]),.sl [[VS (((((a2_1.ix (1:Int)).getD 1 .any).ix (1:Int)).getD 0 .any).toStr),((((a2_1.ix (1:Int)).getD 1 .any).ix (1:Int)).getD 1 .any)],[VS ((r9.cs.getD 0 .any).toStr),(r9.cs.getD 1 .any)]]] [] fun r10 o10=>NA r10<|.done 0 [.agg [VS ((r10.cs.getD 0 .any).toStr),(r10.cs.getD 1 .any)]] []) (.call 54 [.agg [VS (((a2_1.ix (1:Int)).getD 0 .any).toStr),((a2_1.ix (1:Int)).getD 1 .any)]] [] fun r11 o11=>NS r11<|.test (af r11.toStr==af (mk [108])) (NG a0_1 2 2<|NE (a0_1.ix (2:Int))<|NG ((a2_1.ix (1:Int)).getD 1 .any) 1 2<|NE (((a2_1.ix (1:Int)).getD 1 .any).ix (1:Int))<|.call 62 [.agg [VS (((a0_1.ix (2:Int)).getD 0 .any).toStr),((a0_1.ix (2:Int)).getD 1 .any)],VS a1,.agg [VS (((((a2_1.ix (1:Int)).getD 1 .any).ix (1:Int)).getD 0 .any).toStr),((((a2_1.ix (1:Int)).getD 1 .any).ix (1:Int)).getD 1 .any)],.agg [VS a3_0,a3_1]] [] fun r12 o12=>NA r12<|.call 61 [VS (mk [102]),.sl [[VS ((r12.cs.getD 0 .any).toStr),(r12.cs.getD 1 .any)]]] [] fun r13 o13=>NA r13<|.done 0 [.agg [VS ((r13.cs.getD 0 .any).toStr),(r13.cs.getD 1 .any)]] []) (NG ((a2_1.ix (1:Int)).getD 1 .any) 1 2<|NE (((a2_1.ix (1:Int)).getD 1 .any).ix (1:Int))<|NG ((((a2_1.ix (1:Int)).getD 1 .any).ix (1:Int)).getD 1 .any) 2 2<|NE (((((a2_1.ix (1:Int)).getD 1 .any).ix (1:Int)).getD 1 .any).ix (2:Int))<|.call 62 [.agg [VS a0_0,a0_1],VS a1,.agg [VS (((((((a2_1.ix (1:Int)).getD 1 .any).ix (1:Int)).getD 1 .any).ix (2:Int)).getD 0 .any).toStr),((((((a2_1.ix (1:Int)).getD 1 .any).ix (1:Int)).getD 1 .any).ix (2:Int)).getD 1 .any)],.agg [VS a3_0,a3_1]] [] fun r14 o14=>NA r14<|NG a0_1 2 2<|NE (a0_1.ix (2:Int))<|NG a0_1 1 2<|lL (a0_1.ix (1:Int))<|NG ((((a2_1.ix (1:Int)).getD 1 .any).ix (1:Int)).getD 1 .any) 1 2<|NE (((((a2_1.ix (1:Int)).getD 1 .any).ix (1:Int)).getD 1 .any).ix (1:Int))<|.call 62 [.agg [VS (((a0_1.ix (2:Int)).getD 0 .any).toStr),((a0_1.ix (2:Int)).getD 1 .any)],VS (((a0_1.ix (1:Int)).hA).toStr),.agg [VS (((((((a2_1.ix (1:Int)).getD 1 .any).ix (1:Int)).getD 1 .any).ix (1:Int)).getD 0 .any).toStr),((((((a2_1.ix (1:Int)).getD 1 .any).ix (1:Int)).getD 1 .any).ix (1:Int)).getD 1 .any)],.agg [VS ((r14.cs.getD 0 .any).toStr),(r14.cs.getD 1 .any)]] [] fun r15 o15=>NA r15<|.call 61 [VS (mk [102]),.sl [[VS ((r15.cs.getD 0 .any).toStr),(r15.cs.getD 1 .any)]]] [] fun r16 o16=>NA r16<|.done 0 [.agg [VS ((r16.cs.getD 0 .any).toStr),(r16.cs.getD 1 .any)]] []))))))
theorem T0(a0_0:ByteArray)(a0_1:AV)(a1:ByteArray)(a2_0:ByteArray)(a2_1:AV)(a3_0:ByteArray)(a3_1:AV)(ha0_1:LK.has .sl a0_1)(ha2_1:LK.has .sl a2_1)(ha3_1:LK.has .sl a3_1)(h:dq 132 (EL a0_0 a0_1 a1 a2_0 a2_1 a3_0 a3_1) R):aq Tryz.prog 62 [.agg [VS a0_0,a0_1],VS a1,.agg [VS a2_0,a2_1],.agg [VS a3_0,a3_1]] [] R :=
 uQ (ag (bX (ag (az _) (ag (bN ha0_1) aC))) (ag (az _) (ag (bX (ag (az _) (ag (bN ha2_1) aC))) (ag (bX (ag (az _) (ag (bN ha3_1) aC))) aC)))) (oQ [] Tryz.f62 h)
def Iz:LI:={hd:={bQ:=[(5,.k .str),(45,.k .sl),(46,.k (.int .i64)),(47,.k (.int .i64))],refs:=[(7,43)],cv:=[(43,[.lk .str,.lk .ptr,.vec 1,.lk .ptr])]},xs:={refs:=[(7,43)],cv:=[(43,[.lk .str,.lk .ptr,.vec 1,.lk .ptr])]},rt:={bQ:=[(2,.k .ptr)]},ex:=0}
def QF:Code:=cL (cG Tryz.f63) 7
def OO:List (Nat×LI):=[(7,Iz)]
def MF(a0_0:ByteArray)(a0_1:AV)(a0_2:ByteArray):Tree :=
 .call 24 [VS a0_0,VS a0_2] [] fun r1 o1=>NT r1<|NP (r1.comp 0)<|NP (r1.comp 1)<|.call 15 [VS a0_0] [] fun r2 o2=>NT r2<|NS (r2.comp 0)<|NB (r2.comp 1)<|NP (r1.comp 1)<|.test ((r1.comp 1).isNil) (.done 0 [.v (.pointer none)] []) (.test (!((r2.comp 1).toBool)) (.done 0 [.v (.pointer none)] []) (NL a0_1<|.test (decide ((a0_1.elems.length:Int)>(50:Int))) (.done 0 [.v (.pointer none)] []) (NL a0_1<|.loop QF Iz [VS ((r2.comp 0).toStr),a0_1,VI (a0_1.elems.length:Int),VI 0] [.cells [VS a0_0,(r1.comp 0),.any,(r1.comp 1)],.vec 1 []] (fun y5 q5=>.ai ((q5.hO)=.cells (q5.hO).cs)<|.ai (ae [.lk .str,.lk .ptr,.vec 1,.lk .ptr] ((q5.hO).cs) 0 q5.tail)<|.done 0 [.ptr [VS (((q5.hO).cs.getD 0 .any).toStr),((q5.hO).cs.getD 1 .any),.sl ((q5.tail.hO).es),((q5.hO).cs.getD 3 .any)]] []) (fun y5 q5=>NP (y5.hA)<|.done 0 [(y5.hA)] []))))
theorem UD(a0_0:ByteArray)(a0_1:AV)(a0_2:ByteArray)(ha0_1:LK.has .sl a0_1)(h:dq 71 (MF a0_0 a0_1 a0_2) R):aq Tryz.prog 63 [.agg [VS a0_0,a0_1,VS a0_2]] [] R :=
 uQ (ag (bX (ag (az _) (ag (bN ha0_1) (ag (az _) aC)))) aC) (oQ OO Tryz.f63 h)
def JY(x5:ByteArray)(x45:AV)(x46:Int)(x47:Int)(o43_0:ByteArray)(o43_1:AV)(o43_2:List (List AV))(o43_3:AV):Tree :=
 NS (VS x5)<|NL x45<|NI (VI x46)<|NI (VI x47)<|.ai (Ob.cells [VS o43_0,o43_1,.any,o43_3]=.cells [VS o43_0,o43_1,.any,o43_3])<|.ai (ae [.lk .str,.lk .ptr,.vec 1,.lk .ptr] [VS o43_0,o43_1,.any,o43_3] 0 [.vec 1 o43_2])<|.test (decide (x47<x46)) (NG x45 x47 1<|lL (x45.ix x47)<|.call 41 [VS x5,VS (((x45.ix x47).hA).toStr),VI 100] [] fun r1 o1=>NT r1<|NP (r1.comp 0)<|NP (r1.comp 1)<|NP (r1.comp 1)<|.test ((r1.comp 1).isNil) (.done 2 [.v (.pointer none)] []) (.ai (ck 1 [[(r1.comp 1)]]/\((o43_2.length)+([[(r1.comp 1)]]:List (List AV)).length)*8<=140737488355328)<|.done 0 [VS x5,x45,VI x46,VI (IntKind.wrap .i64 (x47+1))] [.cells [VS o43_0,o43_1,.any,o43_3],.vec 1 (o43_2++([[(r1.comp 1)]]:List (List AV)))])) (.done 1 [] [.cells [VS o43_0,o43_1,.any,o43_3],.vec 1 o43_2])
abbrev Kd:=cF Tryz.prog 71 QF Iz
theorem QG(x5:ByteArray)(x45:AV)(x46:Int)(x47:Int)(o43_0:ByteArray)(o43_1:AV)(o43_2:List (List AV))(o43_3:AV)(h:kO 71 (JY x5 x45 x46 x47 o43_0 o43_1 o43_2 o43_3) Kd U):Kd [VS x5,x45,VI x46,VI x47] [.cells [VS o43_0,o43_1,.any,o43_3],.vec 1 o43_2] U :=
 gQ OO h
def Hm(a0:AV)(a1:Int):Tree :=
 NP a0<|.test a0.isNil (.done 0 [.v (.pointer none)] []) (NZ a0<|NZ a0<|oH (a0.deref.drop 2)<|NL ((a0.deref.drop 2).hA)<|.test (((((a0.deref.drop 2).hA).elems).length:Int)==(50:Int)) (.done 0 [.v (.pointer none)] []) (NZ a0<|NZ a0<|ei (a0.deref.drop 1)<|NZ a0<|NZ a0<|ei (a0.deref.drop 3)<|.call 35 [((a0.deref.drop 1).hA),((a0.deref.drop 3).hA)] [] fun r1 o1=>NL r1<|.test (decide (a1<(0:Int))) (.done 0 [.v (.pointer none)] []) (NL r1<|.test (decide (a1≥(r1.elems.length:Int))) (.done 0 [.v (.pointer none)] []) (NG r1 a1 2<|ei (r1.ix a1)<|.call 84 [((r1.ix a1).hA)] [] fun r2 o2=>NI r2<|.test (decide (r2.toInt>(200:Int))) (.done 0 [.v (.pointer none)] []) (NZ a0<|NZ a0<|oH (a0.deref.drop 2)<|.ai (LK.has .sl ((a0.deref.drop 2).hA)/\ck 1 (((a0.deref.drop 2).hA).elems)/\((([]:List (List AV)).length)+(((a0.deref.drop 2).hA).elems).length)*8<=140737488355328)<|NG r1 a1 2<|ei (r1.ix a1)<|.ai (ck 1 [[((r1.ix a1).hA)]]/\(((([]:List (List AV))++(((a0.deref.drop 2).hA).elems)).length)+([[((r1.ix a1).hA)]]:List (List AV)).length)*8<=140737488355328)<|NZ a0<|NZ a0<|.ai (LK.has .str (a0.deref.hA)/\1<=a0.deref.length)<|NZ a0<|NZ a0<|ei (a0.deref.drop 1)<|NG r1 a1 2<|ei ((r1.ix a1).drop 1)<|.done 0 [.ptr [VS ((a0.deref.hA).toStr),((a0.deref.drop 1).hA),.sl ((([]:List (List AV))++(((a0.deref.drop 2).hA).elems))++([[((r1.ix a1).hA)]]:List (List AV))),(((r1.ix a1).drop 1).hA)]] [])))))
theorem MD(a0:AV)(a1:Int)(ha0:LK.has .ptr a0)(h:dq 72 (Hm a0 a1) R):aq Tryz.prog 64 [a0,VI a1] [] R :=
 uQ (ag (bI ha0) (ag (az _) aC)) (oQ [] Tryz.f64 h)
def JE:LI:={hd:={bQ:=[(23,.k .sl),(24,.k (.int .i64)),(25,.k (.int .i64))],refs:=[(2,2),(4,4)],cv:=[(2,[.lk .str,.lk .sl,.lk .str]),(4,[.lk .str,.vec 1,.lk .str])]},xs:={refs:=[(2,2),(4,4)],cv:=[(2,[.lk .str,.lk .sl,.lk .str]),(4,[.lk .str,.vec 1,.lk .str])]},rt:={},ex:=0}
def OJ:Code:=cL (cG Tryz.f65) 5
def MU:List (Nat×LI):=[(5,JE)]
def O6(a0:AV):Tree :=
 NP a0<|.test a0.isNil (.done 0 [.cm [.agg [VS (mk []),.vec 0,VS (mk [])],VB false]] [.vec 1 []]) (NZ a0<|NZ a0<|.ai (LK.has .str (a0.deref.hA)/\1<=a0.deref.length)<|NZ a0<|NZ a0<|ei (a0.deref.drop 3)<|.call 52 [((a0.deref.drop 3).hA)] [] fun r1 o1=>NS r1<|NZ a0<|NZ a0<|oH (a0.deref.drop 2)<|NL ((a0.deref.drop 2).hA)<|.loop OJ JE [((a0.deref.drop 2).hA),VI ((((a0.deref.drop 2).hA).elems).length:Int),VI 0] [.cells [VS (mk []),.v (.slice none 0 0),VS (mk [])],.cells [VS ((a0.deref.hA).toStr),.any,VS r1.toStr],.vec 1 []] (fun y4 q4=>.ai ((q4.hO)=.cells (q4.hO).cs)<|.ai (ae [.lk .str,.lk .sl,.lk .str] ((q4.hO).cs) 0 q4.tail)<|.ai (((q4.tail.drop 0).hO)=.cells ((q4.tail.drop 0).hO).cs)<|.ai (ae [.lk .str,.vec 1,.lk .str] (((q4.tail.drop 0).hO).cs) 0 ((q4.tail.drop 0).tail))<|.done 0 [.cm [.agg [VS (((q4.tail.hO).cs.getD 0 .any).toStr),.vec 0,VS (((q4.tail.hO).cs.getD 2 .any).toStr)],VB true]] [.vec 1 ((q4.tail.tail.hO).es)]) (fun y4 q4=>.fail))
theorem TA(a0:AV)(ha0:LK.has .ptr a0)(h:dq 38 (O6 a0) R):aq Tryz.prog 65 [a0] [] R :=
 uQ (ag (bI ha0) aC) (oF MU {mu:=[],own:=[0],oa:=[.lk .str,.vec 1,.lk .str]} Tryz.f65 h)
def HZ(x23:AV)(x24:Int)(x25:Int)(o2_0:ByteArray)(o2_1:AV)(o2_2:ByteArray)(o4_0:ByteArray)(o4_1:List (List AV))(o4_2:ByteArray):Tree :=
 NL x23<|NI (VI x24)<|NI (VI x25)<|.ai (Ob.cells [VS o2_0,o2_1,VS o2_2]=.cells [VS o2_0,o2_1,VS o2_2])<|.ai (ae [.lk .str,.lk .sl,.lk .str] [VS o2_0,o2_1,VS o2_2] 0 [.cells [VS o4_0,.any,VS o4_2],.vec 1 o4_1])<|.ai (Ob.cells [VS o4_0,.any,VS o4_2]=.cells [VS o4_0,.any,VS o4_2])<|.ai (ae [.lk .str,.vec 1,.lk .str] [VS o4_0,.any,VS o4_2] 0 [.vec 1 o4_1])<|.test (decide (x25<x24)) (NG x23 x25 1<|ei (x23.ix x25)<|.call 52 [((x23.ix x25).hA)] [] fun r1 o1=>NS r1<|.ai (ck 1 [[VS r1.toStr]]/\((o4_1.length)+([[VS r1.toStr]]:List (List AV)).length)*16<=140737488355328)<|.done 0 [x23,VI x24,VI (IntKind.wrap .i64 (x25+1))] [.cells [VS o2_0,o2_1,VS o2_2],.cells [VS o4_0,.any,VS o4_2],.vec 1 (o4_1++([[VS r1.toStr]]:List (List AV)))]) (.done 1 [] [.cells [VS o2_0,o2_1,VS o2_2],.cells [VS o4_0,.any,VS o4_2],.vec 1 o4_1])
abbrev Ju:=cF Tryz.prog 38 OJ JE
theorem My(x23:AV)(x24:Int)(x25:Int)(o2_0:ByteArray)(o2_1:AV)(o2_2:ByteArray)(o4_0:ByteArray)(o4_1:List (List AV))(o4_2:ByteArray)(h:kO 38 (HZ x23 x24 x25 o2_0 o2_1 o2_2 o4_0 o4_1 o4_2) Ju U):Ju [x23,VI x24,VI x25] [.cells [VS o2_0,o2_1,VS o2_2],.cells [VS o4_0,.any,VS o4_2],.vec 1 o4_1] U :=
 gQ MU h
def Hf:LI:={hd:={bQ:=[(3,.k .ptr),(4,.k .ptr)]},xs:={bQ:=[(3,.k .ptr)]},rt:={bQ:=[(2,.k .ptr)]},ex:=0}
def Le:Code:=cL (cG Tryz.f66) 5
def L5:List (Nat×LI):=[(5,Hf)]
def LM(a0_0:ByteArray)(a0_1:AV)(a0_2:ByteArray):Tree :=
 .call 63 [.agg [VS a0_0,a0_1,VS a0_2]] [] fun r1 o1=>NP r1<|NP r1<|.test r1.isNil (.done 0 [.v (.pointer none)] []) (.loop Le Hf [r1,r1] [] (fun y3 q3=>NP (y3.hA)<|.done 0 [(y3.hA)] []) (fun y3 q3=>NP (y3.hA)<|.done 0 [(y3.hA)] []))
theorem TW(a0_0:ByteArray)(a0_1:AV)(a0_2:ByteArray)(ha0_1:LK.has .sl a0_1)(h:dq 21 (LM a0_0 a0_1 a0_2) R):aq Tryz.prog 66 [.agg [VS a0_0,a0_1,VS a0_2]] [] R :=
 uQ (ag (bX (ag (az _) (ag (bN ha0_1) (ag (az _) aC)))) aC) (oQ L5 Tryz.f66 h)
def J7(x3:AV)(x4:AV):Tree :=
 NP x3<|NP x4<|NZ x4<|NZ x4<|oH (x4.deref.drop 2)<|NL ((x4.deref.drop 2).hA)<|.test (decide (((((x4.deref.drop 2).hA).elems).length:Int)>(0:Int))) (.call 67 [x4] [] fun r1 o1=>NP r1<|NP r1<|.test r1.isNil (.done 2 [.v (.pointer none)] []) (.done 0 [x3,r1] [])) (.done 1 [x3] [])
abbrev JT:=cF Tryz.prog 21 Le Hf
theorem NN(x3:AV)(x4:AV)(h:kO 21 (J7 x3 x4) JT U):JT [x3,x4] [] U :=
 gQ L5 h
def Ra(a0:AV):Tree :=
 NP a0<|.test a0.isNil (.done 0 [.v (.pointer none)] []) (NZ a0<|NZ a0<|oH (a0.deref.drop 2)<|NL ((a0.deref.drop 2).hA)<|.test (((((a0.deref.drop 2).hA).elems).length:Int)==(0:Int)) (.done 0 [.v (.pointer none)] []) (NZ a0<|NZ a0<|oH (a0.deref.drop 2)<|NL ((a0.deref.drop 2).hA)<|NZ a0<|NZ a0<|ei (a0.deref.drop 1)<|NZ a0<|NZ a0<|oH (a0.deref.drop 2)<|.ai (LK.has .sl ((a0.deref.drop 2).hA)/\0<=(IntKind.wrap .i64 (((((a0.deref.drop 2).hA).elems).length:Int)-1))/\(IntKind.wrap .i64 (((((a0.deref.drop 2).hA).elems).length:Int)-1))<((a0.deref.drop 2).hA).elems.length/\(((a0.deref.drop 2).hA).ix (IntKind.wrap .i64 (((((a0.deref.drop 2).hA).elems).length:Int)-1))).length=1)<|.ai (LK.has .ptr ((((a0.deref.drop 2).hA).ix (IntKind.wrap .i64 (((((a0.deref.drop 2).hA).elems).length:Int)-1))).hA)/\1<=(((a0.deref.drop 2).hA).ix (IntKind.wrap .i64 (((((a0.deref.drop 2).hA).elems).length:Int)-1))).length)<|NZ a0<|NZ a0<|ei (a0.deref.drop 3)<|.call 43 [((a0.deref.drop 1).hA),((((a0.deref.drop 2).hA).ix (IntKind.wrap .i64 (((((a0.deref.drop 2).hA).elems).length:Int)-1))).hA),((a0.deref.drop 3).hA)] [] fun r1 o1=>NP r1<|.call 84 [r1] [] fun r2 o2=>NI r2<|.test (decide (r2.toInt>(200:Int))) (.done 0 [.v (.pointer none)] []) (NZ a0<|NZ a0<|.ai (LK.has .str (a0.deref.hA)/\1<=a0.deref.length)<|NZ a0<|NZ a0<|ei (a0.deref.drop 1)<|NZ a0<|NZ a0<|oH (a0.deref.drop 2)<|.ai (LK.has .sl ((a0.deref.drop 2).hA)/\0<=(0:Int)/\(0:Int)<=(IntKind.wrap .i64 (((((a0.deref.drop 2).hA).elems).length:Int)-1))/\(IntKind.wrap .i64 (((((a0.deref.drop 2).hA).elems).length:Int)-1))<=((((a0.deref.drop 2).hA).elems).length:Int))<|.done 0 [.ptr [VS ((a0.deref.hA).toStr),((a0.deref.drop 1).hA),.sl (((((a0.deref.drop 2).hA).elems).take (bK (IntKind.wrap .i64 (((((a0.deref.drop 2).hA).elems).length:Int)-1)))).drop (bK 0)),r1]] [])))
theorem UI(a0:AV)(ha0:LK.has .ptr a0)(h:dq 57 (Ra a0) R):aq Tryz.prog 67 [a0] [] R :=
 uQ (ag (bI ha0) aC) (oQ [] Tryz.f67 h)
def Lh(a0_0:AV)(a0_1:Int):Tree :=
 .call 94 [.ref 0 0,.sl [[VS (mk [40,114,101,99,32,116,32,40,43,32,49,32,40,42,32,120,32,116,41,41,41])],[VS (mk [40,114,101,99,32,116,32,40,43,32,120,32,40,42,32,116,32,116,41,41,41])],[VS (mk [40,114,101,99,32,116,32,40,43,32,49,32,40,42,32,116,32,40,42,32,120,32,116,41,41,41,41])],[VS (mk [40,114,101,99,32,116,32,40,43,32,49,32,116,41,41])],[VS (mk [40,114,101,99,32,116,32,40,42,32,120,32,40,114,101,99,32,116,49,32,40,43,32,49,32,40,42,32,116,32,116,49,41,41,41,41,41])],[VS (mk [40,114,101,99,32,116,48,32,40,43,32,40,42,32,120,32,121,41,32,40,43,32,116,48,32,40,42,32,116,48,32,116,48,41,41,41,41])],[VS (mk [40,114,101,99,32,116,32,40,43,32,121,32,40,42,32,116,32,40,42,32,116,32,116,41,41,41,41])]]] [.cells [a0_0,VI a0_1]] fun r1 o1=>.ai ((o1.hO)=.cells (o1.hO).cs)<|.ai (aH [.lk .sl,.lk (.int .i64)] ((o1.hO).cs) 0 1 o1.tail)<|NS r1<|.done 0 [VS r1.toStr] [.cells [((o1.hO).cs.getD 0 .any),VI (((o1.hO).cs.getD 1 .any).toInt)]]
theorem S7(a0_0:AV)(a0_1:Int)(ha0_0:LK.has .sl a0_0)(h:dq 6 (Lh a0_0 a0_1) R):aq Tryz.prog 68 [.ref 0 0] [.cells [a0_0,VI a0_1]] R :=
 aq.oE (bG (cu (ag (bN ha0_0) (ag (az _) aC))) cH) (aq.up (ag (az _) aC) (oF [] {mu:=[(0,.one (.obj [.lk .sl,.lk (.int .i64)]))],own:=[]} Tryz.f68 h))
def Ri(a0_0:AV)(a0_1:Int):Tree :=
 .call 105 [.ref 0 0] [.cells [a0_0,VI a0_1]] fun r1 o1=>.ai ((o1.hO)=.cells (o1.hO).cs)<|.ai (aH [.lk .sl,.lk (.int .i64)] ((o1.hO).cs) 0 1 o1.tail)<|NS r1<|.call 50 [.ref 0 0,VS r1.toStr] [.cells [((o1.hO).cs.getD 0 .any),VI (((o1.hO).cs.getD 1 .any).toInt)]] fun r2 o2=>.ai ((o2.hO)=.cells (o2.hO).cs)<|.ai (aH [.lk .sl,.lk (.int .i64)] ((o2.hO).cs) 0 1 o2.tail)<|NS r2<|.done 0 [.cm [VS r1.toStr,VS r2.toStr]] [.cells [((o2.hO).cs.getD 0 .any),VI (((o2.hO).cs.getD 1 .any).toInt)]]
theorem SA(a0_0:AV)(a0_1:Int)(ha0_0:LK.has .sl a0_0)(h:dq 11 (Ri a0_0 a0_1) R):aq Tryz.prog 69 [.ref 0 0] [.cells [a0_0,VI a0_1]] R :=
 aq.oE (bG (cu (ag (bN ha0_0) (ag (az _) aC))) cH) (aq.up (ag (az _) aC) (oF [] {mu:=[(0,.one (.obj [.lk .sl,.lk (.int .i64)]))],own:=[]} Tryz.f69 h))
def P6(a0_0:AV)(a0_1:AV):Tree :=
 NZ a0_0<|NZ a0_0<|ei (a0_0.deref.drop 3)<|.done 0 [.cm [.agg [((a0_0.deref.drop 3).hA),.ptr [.ptr [a0_0,a0_1],a0_1]],.ptr [a0_0,a0_1]]] []
theorem RR(a0_0:AV)(a0_1:AV)(ha0_0:LK.has .ptr a0_0)(ha0_1:LK.has .ptr a0_1)(h:dq 20 (P6 a0_0 a0_1) R):aq Tryz.prog 70 [.agg [a0_0,a0_1]] [] R :=
 uQ (ag (bX (ag (bI ha0_0) (ag (bI ha0_1) aC))) aC) (oQ [] Tryz.f70 h)
def JU:LI:={hd:={bQ:=[(97,.k .sl),(98,.k (.int .i64)),(99,.k (.int .i64))],refs:=[(3,3),(5,5),(7,7)],cv:=[(3,[.lk .ptr,.lk .ptr]),(5,[.lk .str,.lk .ptr]),(7,[.vec 2])],fns:=[(8,107,[7])]},xs:={refs:=[(7,7)],cv:=[(7,[.vec 2])]},rt:={},ex:=1}
def PJ:Code:=cL (cG Tryz.f71) 18
def LR:List (Nat×LI):=[(18,JU)]
def K6(a0_0:AV)(a0_1:AV)(a1:AV)(a2_0:ByteArray)(a2_1:AV):Tree :=
 .call 106 [.agg [VS a2_0,a2_1],.agg [a0_0,a0_1]] [] fun r1 o1=>NB r1<|.test r1.toBool (.done 0 [.sl [[.ptr [.v (.int .u8 117),VS (mk []),.v (.pointer none),.v (.pointer none)],a1]]] []) (NZ a0_0<|NZ a0_0<|.ai (LK.has (.int .u8) (a0_0.deref.hA)/\1<=a0_0.deref.length)<|.test (((a0_0.deref.hA).toInt)==(43:Int)) (.call 108 [.agg [a0_0,a0_1]] [] fun r2 o2=>.ai (r2=.agg r2.cs/\r2.cs.length=2/\bC [.ptr,.ptr] r2.cs 0)<|NZ a1<|NZ a1<|.ai (LK.has (.int .u8) (a1.deref.hA)/\1<=a1.deref.length)<|.test (((a1.deref.hA).toInt)==(114:Int)) (.call 109 [.agg [a0_0,a0_1]] [] fun r3 o3=>.ai (r3=.agg r3.cs/\r3.cs.length=2/\bC [.ptr,.ptr] r3.cs 0)<|NZ a1<|NZ a1<|ei (a1.deref.drop 2)<|.call 71 [.agg [(r3.cs.getD 0 .any),(r3.cs.getD 1 .any)],((a1.deref.drop 2).hA),.agg [VS a2_0,a2_1]] [] fun r4 o4=>NL r4<|.call 107 [r4,.fn 110 [.ref 0 0],.ref 1 0] [.cells [a1],.cells [.vec 2],.vec 2 []] fun r5 o5=>.ai ((o5.hO)=.cells (o5.hO).cs)<|.ai (aH [.lk .ptr] ((o5.hO).cs) 0 1 o5.tail)<|.ai ((o5.tail.hO)=.cells (o5.tail.hO).cs)<|.ai (aH [.vec 2] ((o5.tail.hO).cs) 0 2 o5.tail.tail)<|.done 0 [.sl ((o5.tail.tail.hO).es)] []) (NZ a1<|NZ a1<|ei (a1.deref.drop 2)<|.call 71 [.agg [(r2.cs.getD 0 .any),(r2.cs.getD 1 .any)],((a1.deref.drop 2).hA),.agg [VS a2_0,a2_1]] [] fun r6 o6=>NL r6<|.call 107 [r6,.fn 110 [.ref 0 0],.ref 1 0] [.cells [a1],.cells [.vec 2],.vec 2 []] fun r7 o7=>.ai ((o7.hO)=.cells (o7.hO).cs)<|.ai (aH [.lk .ptr] ((o7.hO).cs) 0 1 o7.tail)<|.ai ((o7.tail.hO)=.cells (o7.tail.hO).cs)<|.ai (aH [.vec 2] ((o7.tail.hO).cs) 0 2 o7.tail.tail)<|.done 0 [.sl ((o7.tail.tail.hO).es)] [])) (.test (((a0_0.deref.hA).toInt)==(42:Int)) (.call 108 [.agg [a0_0,a0_1]] [] fun r8 o8=>.ai (r8=.agg r8.cs/\r8.cs.length=2/\bC [.ptr,.ptr] r8.cs 0)<|NZ a1<|NZ a1<|ei (a1.deref.drop 2)<|.call 71 [.agg [(r8.cs.getD 0 .any),(r8.cs.getD 1 .any)],((a1.deref.drop 2).hA),.agg [VS a2_0,a2_1]] [] fun r9 o9=>NL r9<|.call 107 [r9,.fn 111 [.ref 0 0],.ref 1 0] [.cells [a1],.cells [.vec 2],.vec 2 []] fun r10 o10=>.ai ((o10.hO)=.cells (o10.hO).cs)<|.ai (aH [.lk .ptr] ((o10.hO).cs) 0 1 o10.tail)<|.ai ((o10.tail.hO)=.cells (o10.tail.hO).cs)<|.ai (aH [.vec 2] ((o10.tail.hO).cs) 0 2 o10.tail.tail)<|.call 109 [.agg [a0_0,a0_1]] [] fun r11 o11=>.ai (r11=.agg r11.cs/\r11.cs.length=2/\bC [.ptr,.ptr] r11.cs 0)<|NZ ((o10.hO).cs.getD 0 .any)<|NZ ((o10.hO).cs.getD 0 .any)<|ei (((o10.hO).cs.getD 0 .any).deref.drop 3)<|.call 71 [.agg [(r11.cs.getD 0 .any),(r11.cs.getD 1 .any)],((((o10.hO).cs.getD 0 .any).deref.drop 3).hA),.agg [VS a2_0,a2_1]] [] fun r12 o12=>NL r12<|.call 107 [r12,.fn 113 [.ref 0 0],.ref 1 0] [.cells [((o10.hO).cs.getD 0 .any)],.cells [.vec 2],.vec 2 ((o10.tail.tail.hO).es)] fun r13 o13=>.ai ((o13.hO)=.cells (o13.hO).cs)<|.ai (aH [.lk .ptr] ((o13.hO).cs) 0 1 o13.tail)<|.ai ((o13.tail.hO)=.cells (o13.tail.hO).cs)<|.ai (aH [.vec 2] ((o13.tail.hO).cs) 0 2 o13.tail.tail)<|.done 0 [.sl ((o13.tail.tail.hO).es)] []) (.test (((a0_0.deref.hA).toInt)==(114:Int)) (.call 70 [.agg [a0_0,a0_1]] [] fun r14 o14=>NT r14<|.ai ((r14.comp 0)=.agg (r14.comp 0).cs/\(r14.comp 0).cs.length=2/\bC [.ptr,.ptr] ((r14.comp 0).cs) 0)<|NP (r14.comp 1)<|NZ a1<|NZ a1<|ei (a1.deref.drop 2)<|.call 71 [.agg [((r14.comp 0).cs.getD 0 .any),((r14.comp 0).cs.getD 1 .any)],((a1.deref.drop 2).hA),.agg [VS a2_0,a2_1]] [] fun r15 o15=>NL r15<|.call 107 [r15,.v (.func (.func 114) #[] #[]),.ref 0 0] [.cells [.vec 1],.vec 2 []] fun r16 o16=>.ai ((o16.hO)=.cells (o16.hO).cs)<|.ai (aH [.vec 2] ((o16.hO).cs) 0 1 o16.tail)<|NZ a1<|NZ a1<|ei (a1.deref.drop 2)<|.call 71 [.agg [((r14.comp 0).cs.getD 0 .any),((r14.comp 0).cs.getD 1 .any)],((a1.deref.drop 2).hA),.agg [VS (mk []),(r14.comp 1)]] [] fun r17 o17=>NL r17<|NL r17<|.loop PJ JU [r17,VI (r17.elems.length:Int),VI 0] [.cells [a0_0,a0_1],.cells [VS a2_0,a2_1],.cells [.any],.vec 2 ((o16.tail.hO).es)] (fun y20 q20=>.ai ((q20.hO)=.cells (q20.hO).cs)<|.ai (ae [.vec 2] ((q20.hO).cs) 0 q20.tail)<|.done 0 [.sl ((q20.tail.hO).es)] []) (fun y20 q20=>.done 0 [.any] [])) (.done 0 [.sl []] []))))
theorem RS(a0_0:AV)(a0_1:AV)(a1:AV)(a2_0:ByteArray)(a2_1:AV)(ha0_0:LK.has .ptr a0_0)(ha0_1:LK.has .ptr a0_1)(ha1:LK.has .ptr a1)(ha2_1:LK.has .ptr a2_1)(h:dq 113 (K6 a0_0 a0_1 a1 a2_0 a2_1) R):aq Tryz.prog 71 [.agg [a0_0,a0_1],a1,.agg [VS a2_0,a2_1]] [] R :=
 uQ (ag (bX (ag (bI ha0_0) (ag (bI ha0_1) aC))) (ag (bI ha1) (ag (bX (ag (az _) (ag (bI ha2_1) aC))) aC))) (oQ LR Tryz.f71 h)
def Kc(x97:AV)(x98:Int)(x99:Int)(o3_0:AV)(o3_1:AV)(o5_0:ByteArray)(o5_1:AV)(o7_0:List (List AV)):Tree :=
 NL x97<|NI (VI x98)<|NI (VI x99)<|.ai (Ob.cells [o3_0,o3_1]=.cells [o3_0,o3_1])<|.ai (ae [.lk .ptr,.lk .ptr] [o3_0,o3_1] 0 [.cells [VS o5_0,o5_1],.cells [.any],.vec 2 o7_0])<|.ai (Ob.cells [VS o5_0,o5_1]=.cells [VS o5_0,o5_1])<|.ai (ae [.lk .str,.lk .ptr] [VS o5_0,o5_1] 0 [.cells [.any],.vec 2 o7_0])<|.ai (Ob.cells [.any]=.cells [.any])<|.ai (ae [.vec 2] [.any] 0 [.vec 2 o7_0])<|.test (decide (x99<x98)) (NG x97 x99 2<|.ai (bC [.ptr,.ptr] (x97.ix x99) 0/\2<=(x97.ix x99).length)<|.call 71 [.agg [o3_0,o3_1],((x97.ix x99).getD 1 .any),.agg [VS o5_0,o5_1]] [] fun r1 o1=>NL r1<|.call 107 [r1,.fn 115 [.ref 0 0],.ref 1 0] [.cells [((x97.ix x99).getD 0 .any),((x97.ix x99).getD 1 .any)],.cells [.vec 2],.vec 2 o7_0] fun r2 o2=>.ai ((o2.hO)=.cells (o2.hO).cs)<|.ai (aH [.lk .ptr,.lk .ptr] ((o2.hO).cs) 0 1 o2.tail)<|.ai ((o2.tail.hO)=.cells (o2.tail.hO).cs)<|.ai (aH [.vec 2] ((o2.tail.hO).cs) 0 2 o2.tail.tail)<|.done 0 [x97,VI x98,VI (IntKind.wrap .i64 (x99+1))] [.cells [o3_0,o3_1],.cells [VS o5_0,o5_1],.cells [.any],.vec 2 ((o2.tail.tail.hO).es)]) (.done 1 [] [.cells [.any],.vec 2 o7_0])
abbrev Hg:=cF Tryz.prog 113 PJ JU
theorem KZ(x97:AV)(x98:Int)(x99:Int)(o3_0:AV)(o3_1:AV)(o5_0:ByteArray)(o5_1:AV)(o7_0:List (List AV))(h:kO 113 (Kc x97 x98 x99 o3_0 o3_1 o5_0 o5_1 o7_0) Hg U):Hg [x97,VI x98,VI x99] [.cells [o3_0,o3_1],.cells [VS o5_0,o5_1],.cells [.any],.vec 2 o7_0] U :=
 gQ LR h
def IE:LI:={hd:={bQ:=[(0,.k .sl),(1,.k .str),(7,.k (.int .i64))],eV:=[(2,4)]},xs:={eV:=[(2,4)]},rt:={},ex:=0}
def K0:Code:=cL (cG Tryz.f72) 2
def LH:List (Nat×LI):=[(2,IE)]
def Pz(a0:AV)(a1:ByteArray)(e2:List (List AV)):Tree :=
 .loop K0 IE [a0,VS a1,VI 0] [.vec 4 e2] (fun y2 q2=>.ai (((q2.drop 0).hO)=.vec 4 ((q2.drop 0).hO).es)<|.done 0 [.vec 1] [.dead,.vec 4 ((q2.hO).es)]) (fun y2 q2=>.fail)
theorem Tr(a0:AV)(a1:ByteArray)(e2:List (List AV))(ha0:LK.has .sl a0)(h:dq 32 (Pz a0 a1 e2) R):aq Tryz.prog 72 [a0,VS a1,.vec 0] [.vec 4 e2] R :=
 aq.oE (bG (fV _) cH) (aq.up (ag (bN ha0) (ag (az _) (ag (az _) aC))) (oF LH {mu:=[(2,.one (.vec))],own:=[0]} Tryz.f72 h))
def Jf(x0:AV)(x1:ByteArray)(x7:Int)(e2:List (List AV)):Tree :=
 NL x0<|NS (VS x1)<|NI (VI x7)<|.ai (Ob.vec 4 e2=.vec 4 e2)<|NL x0<|.test (decide (x7<(x0.elems.length:Int))) (NG x0 x7 4<|NE (x0.ix x7)<|.call 61 [VS x1,.sl [[VS (((x0.ix x7).getD 0 .any).toStr),((x0.ix x7).getD 1 .any)]]] [] fun r1 o1=>NA r1<|NG x0 x7 4<|NE ((x0.ix x7).drop 2)<|.ai (ck 4 [[VS ((r1.cs.getD 0 .any).toStr),(r1.cs.getD 1 .any),VS ((((x0.ix x7).drop 2).getD 0 .any).toStr),(((x0.ix x7).drop 2).getD 1 .any)]]/\((e2.length)+([[VS ((r1.cs.getD 0 .any).toStr),(r1.cs.getD 1 .any),VS ((((x0.ix x7).drop 2).getD 0 .any).toStr),(((x0.ix x7).drop 2).getD 1 .any)]]:List (List AV)).length)*80<=140737488355328)<|.done 0 [x0,VS x1,VI (IntKind.wrap .i64 (x7+1))] [.vec 4 (e2++([[VS ((r1.cs.getD 0 .any).toStr),(r1.cs.getD 1 .any),VS ((((x0.ix x7).drop 2).getD 0 .any).toStr),(((x0.ix x7).drop 2).getD 1 .any)]]:List (List AV)))]) (.done 1 [] [.vec 4 e2])
abbrev Kr:=cF Tryz.prog 32 K0 IE
theorem Py(x0:AV)(x1:ByteArray)(x7:Int)(e2:List (List AV))(h:kO 32 (Jf x0 x1 x7 e2) Kr U):Kr [x0,VS x1,VI x7] [.vec 4 e2] U :=
 gQ LH h
def OH(a0:ByteArray):Tree :=
 .test (decide ((ah a0:Int)>(8000:Int))) (.done 0 [.v (.pointer none)] []) (.call 116 [VS a0,VI 0] [] fun r1 o1=>NT r1<|NP (r1.comp 0)<|NS (r1.comp 1)<|.test (!(af ((r1.comp 1).toStr)==af (mk []))) (.done 0 [.v (.pointer none)] []) (.done 0 [(r1.comp 0)] []))
theorem T3(a0:ByteArray)(h:dq 16 (OH a0) R):aq Tryz.prog 73 [VS a0] [] R :=
 uQ (ag (az _) aC) (oQ [] Tryz.f73 h)
def KB:LI:={hd:={bQ:=[(0,.k .ptr),(1,.k .sl),(5,.k (.int .i64))]},xs:={bQ:=[(0,.k .ptr)]},rt:={refs:=[(4,69)],cv:=[(69,[.lk (.int .u8),.lk .str,.lk (.int .i64),.lk .ptr,.lk .ptr])]},ex:=1}
def Ol:Code:=cL (cG Tryz.f74) 7
def NJ:List (Nat×LI):=[(7,KB)]
def Ks(a0:AV)(a1:AV):Tree :=
 NZ a0<|NZ a0<|.ai (LK.has .str (a0.deref.hA)/\1<=a0.deref.length)<|.test (af ((a0.deref.hA).toStr)==af (mk [48])) (NZ a0<|NZ a0<|.ai (LK.has .str (a0.deref.hA)/\1<=a0.deref.length)<|.ai (0<=(0:Int)/\(0:Int)<ah ((a0.deref.hA).toStr))<|.done 0 [.ptr [.v (.int .u8 (bt ((a0.deref.hA).toStr) 0)),VS (mk []),VI 0,.v (.pointer none),.v (.pointer none)]] []) (NZ a0<|NZ a0<|.ai (LK.has .str (a0.deref.hA)/\1<=a0.deref.length)<|.test (af ((a0.deref.hA).toStr)==af (mk [49])) (NZ a0<|NZ a0<|.ai (LK.has .str (a0.deref.hA)/\1<=a0.deref.length)<|.ai (0<=(0:Int)/\(0:Int)<ah ((a0.deref.hA).toStr))<|.done 0 [.ptr [.v (.int .u8 (bt ((a0.deref.hA).toStr) 0)),VS (mk []),VI 0,.v (.pointer none),.v (.pointer none)]] []) (NZ a0<|NZ a0<|.ai (LK.has .str (a0.deref.hA)/\1<=a0.deref.length)<|.call 117 [VS ((a0.deref.hA).toStr)] [] fun r1 o1=>NB r1<|.test r1.toBool (NZ a0<|NZ a0<|.ai (LK.has .str (a0.deref.hA)/\1<=a0.deref.length)<|.done 0 [.ptr [.v (.int .u8 110),VS ((a0.deref.hA).toStr),VI 0,.v (.pointer none),.v (.pointer none)]] []) (NZ a0<|NZ a0<|.ai (LK.has .str (a0.deref.hA)/\1<=a0.deref.length)<|.call 118 [VS ((a0.deref.hA).toStr)] [] fun r2 o2=>NB r2<|.test r2.toBool (NL a1<|.loop Ol KB [a0,a1,VI (IntKind.wrap .i64 ((a1.elems.length:Int)-1))] [] (fun y3 q3=>NP (y3.hA)<|NZ (y3.hA)<|NZ (y3.hA)<|.ai (LK.has .str ((y3.hA).deref.hA)/\1<=((y3.hA).deref).length)<|.done 0 [.ptr [.v (.int .u8 110),VS (((y3.hA).deref.hA).toStr),VI 0,.v (.pointer none),.v (.pointer none)]] []) (fun y3 q3=>.ai ((q3.hO)=.cells (q3.hO).cs)<|.ai (ae [.lk (.int .u8),.lk .str,.lk (.int .i64),.lk .ptr,.lk .ptr] ((q3.hO).cs) 0 q3.tail)<|.done 0 [.ptr [.v (.int .u8 (((q3.hO).cs.getD 0 .any).toInt)),VS (((q3.hO).cs.getD 1 .any).toStr),VI (((q3.hO).cs.getD 2 .any).toInt),((q3.hO).cs.getD 3 .any),((q3.hO).cs.getD 4 .any)]] [])) (.call 119 [a0,VS (mk [43]),VI 3] [] fun r4 o4=>NB r4<|.test r4.toBool (NZ a0<|NZ a0<|oH (a0.deref.drop 1)<|NG ((a0.deref.drop 1).hA) 1 1<|ei (((a0.deref.drop 1).hA).ix (1:Int))<|.call 74 [((((a0.deref.drop 1).hA).ix (1:Int)).hA),a1] [] fun r5 o5=>NP r5<|NZ a0<|NZ a0<|oH (a0.deref.drop 1)<|NG ((a0.deref.drop 1).hA) 2 1<|ei (((a0.deref.drop 1).hA).ix (2:Int))<|.call 74 [((((a0.deref.drop 1).hA).ix (2:Int)).hA),a1] [] fun r6 o6=>NP r6<|NP r5<|.test r5.isNil (.done 0 [.v (.pointer none)] []) (NP r6<|.test r6.isNil (.done 0 [.v (.pointer none)] []) (NZ a0<|NZ a0<|oH (a0.deref.drop 1)<|NG ((a0.deref.drop 1).hA) 0 1<|ei (((a0.deref.drop 1).hA).ix (0:Int))<|NZ ((((a0.deref.drop 1).hA).ix (0:Int)).hA)<|NZ ((((a0.deref.drop 1).hA).ix (0:Int)).hA)<|.ai (LK.has .str (((((a0.deref.drop 1).hA).ix (0:Int)).hA).deref.hA)/\1<=(((((a0.deref.drop 1).hA).ix (0:Int)).hA).deref).length)<|.ai (0<=(0:Int)/\(0:Int)<ah ((((((a0.deref.drop 1).hA).ix (0:Int)).hA).deref.hA).toStr))<|.done 0 [.ptr [.v (.int .u8 (bt ((((((a0.deref.drop 1).hA).ix (0:Int)).hA).deref.hA).toStr) 0)),VS (mk []),VI 0,r5,r6]] []))) (.call 119 [a0,VS (mk [42]),VI 3] [] fun r7 o7=>NB r7<|.test r7.toBool (NZ a0<|NZ a0<|oH (a0.deref.drop 1)<|NG ((a0.deref.drop 1).hA) 1 1<|ei (((a0.deref.drop 1).hA).ix (1:Int))<|.call 74 [((((a0.deref.drop 1).hA).ix (1:Int)).hA),a1] [] fun r8 o8=>NP r8<|NZ a0<|NZ a0<|oH (a0.deref.drop 1)<|NG ((a0.deref.drop 1).hA) 2 1<|ei (((a0.deref.drop 1).hA).ix (2:Int))<|.call 74 [((((a0.deref.drop 1).hA).ix (2:Int)).hA),a1] [] fun r9 o9=>NP r9<|NP r8<|.test r8.isNil (.done 0 [.v (.pointer none)] []) (NP r9<|.test r9.isNil (.done 0 [.v (.pointer none)] []) (NZ a0<|NZ a0<|oH (a0.deref.drop 1)<|NG ((a0.deref.drop 1).hA) 0 1<|ei (((a0.deref.drop 1).hA).ix (0:Int))<|NZ ((((a0.deref.drop 1).hA).ix (0:Int)).hA)<|NZ ((((a0.deref.drop 1).hA).ix (0:Int)).hA)<|.ai (LK.has .str (((((a0.deref.drop 1).hA).ix (0:Int)).hA).deref.hA)/\1<=(((((a0.deref.drop 1).hA).ix (0:Int)).hA).deref).length)<|.ai (0<=(0:Int)/\(0:Int)<ah ((((((a0.deref.drop 1).hA).ix (0:Int)).hA).deref.hA).toStr))<|.done 0 [.ptr [.v (.int .u8 (bt ((((((a0.deref.drop 1).hA).ix (0:Int)).hA).deref.hA).toStr) 0)),VS (mk []),VI 0,r8,r9]] []))) (.call 119 [a0,VS (mk [114,101,99]),VI 3] [] fun r10 o10=>NB r10<|.test r10.toBool (NZ a0<|NZ a0<|oH (a0.deref.drop 1)<|NG ((a0.deref.drop 1).hA) 1 1<|ei (((a0.deref.drop 1).hA).ix (1:Int))<|NZ ((((a0.deref.drop 1).hA).ix (1:Int)).hA)<|NZ ((((a0.deref.drop 1).hA).ix (1:Int)).hA)<|.ai (LK.has .str (((((a0.deref.drop 1).hA).ix (1:Int)).hA).deref.hA)/\1<=(((((a0.deref.drop 1).hA).ix (1:Int)).hA).deref).length)<|.call 118 [VS ((((((a0.deref.drop 1).hA).ix (1:Int)).hA).deref.hA).toStr)] [] fun r11 o11=>NB r11<|.test r11.toBool (NZ a0<|NZ a0<|oH (a0.deref.drop 1)<|NG ((a0.deref.drop 1).hA) 2 1<|ei (((a0.deref.drop 1).hA).ix (2:Int))<|.ai (LK.has .sl a1/\ck 1 a1.elems/\((([]:List (List AV)).length)+a1.elems.length)*16<=140737488355328)<|NZ a0<|NZ a0<|oH (a0.deref.drop 1)<|NG ((a0.deref.drop 1).hA) 1 1<|ei (((a0.deref.drop 1).hA).ix (1:Int))<|NZ ((((a0.deref.drop 1).hA).ix (1:Int)).hA)<|NZ ((((a0.deref.drop 1).hA).ix (1:Int)).hA)<|.ai (LK.has .str (((((a0.deref.drop 1).hA).ix (1:Int)).hA).deref.hA)/\1<=(((((a0.deref.drop 1).hA).ix (1:Int)).hA).deref).length)<|.ai (ck 1 [[VS ((((((a0.deref.drop 1).hA).ix (1:Int)).hA).deref.hA).toStr)]]/\(((([]:List (List AV))++a1.elems).length)+([[VS ((((((a0.deref.drop 1).hA).ix (1:Int)).hA).deref.hA).toStr)]]:List (List AV)).length)*16<=140737488355328)<|.call 74 [((((a0.deref.drop 1).hA).ix (2:Int)).hA),.sl ((([]:List (List AV))++a1.elems)++([[VS ((((((a0.deref.drop 1).hA).ix (1:Int)).hA).deref.hA).toStr)]]:List (List AV)))] [] fun r12 o12=>NP r12<|NP r12<|.test r12.isNil (.done 0 [.v (.pointer none)] []) (.done 0 [.ptr [.v (.int .u8 114),VS (mk []),VI 0,r12,.v (.pointer none)]] [])) (.done 0 [.v (.pointer none)] [])) (.done 0 [.v (.pointer none)] [])))))))
theorem Qc(a0:AV)(a1:AV)(ha0:LK.has .ptr a0)(ha1:LK.has .sl a1)(h:dq 160 (Ks a0 a1) R):aq Tryz.prog 74 [a0,a1] [] R :=
 uQ (ag (bI ha0) (ag (bN ha1) aC)) (oQ NJ Tryz.f74 h)
def IL(x0:AV)(x1:AV)(x5:Int):Tree :=
 NP x0<|NL x1<|NI (VI x5)<|.test (decide (x5≥(0:Int))) (NG x1 x5 1<|lL (x1.ix x5)<|NZ x0<|NZ x0<|.ai (LK.has .str (x0.deref.hA)/\1<=x0.deref.length)<|.test (af (((x1.ix x5).hA).toStr)==af ((x0.deref.hA).toStr)) (NL x1<|.done 2 [] [.cells [.v (.int .u8 98),VS (mk []),VI (IntKind.wrap .i64 ((IntKind.wrap .i64 ((x1.elems.length:Int)-1))-x5)),.v (.pointer none),.v (.pointer none)]]) (.done 0 [x0,x1,VI (IntKind.wrap .i64 (x5-1))] [])) (.done 1 [x0] [])
abbrev I9:=cF Tryz.prog 160 Ol KB
theorem NO(x0:AV)(x1:AV)(x5:Int)(h:kO 160 (IL x0 x1 x5) I9 U):I9 [x0,x1,VI x5] [] U :=
 gQ NJ h
def GC(a0:AV):Tree :=
 NZ a0<|NZ a0<|.ai (LK.has (.int .u8) (a0.deref.hA)/\1<=a0.deref.length)<|.test (((a0.deref.hA).toInt)==(43:Int)) (NZ a0<|NZ a0<|ei (a0.deref.drop 3)<|.call 75 [((a0.deref.drop 3).hA)] [] fun r1 o1=>NI r1<|NZ a0<|NZ a0<|ei (a0.deref.drop 4)<|.call 75 [((a0.deref.drop 4).hA)] [] fun r2 o2=>NI r2<|.done 0 [VI (IntKind.wrap .i64 ((IntKind.wrap .i64 (1+r1.toInt))+r2.toInt))] []) (.test (((a0.deref.hA).toInt)==(42:Int)) (NZ a0<|NZ a0<|ei (a0.deref.drop 3)<|.call 75 [((a0.deref.drop 3).hA)] [] fun r3 o3=>NI r3<|NZ a0<|NZ a0<|ei (a0.deref.drop 4)<|.call 75 [((a0.deref.drop 4).hA)] [] fun r4 o4=>NI r4<|.done 0 [VI (IntKind.wrap .i64 ((IntKind.wrap .i64 (1+r3.toInt))+r4.toInt))] []) (.test (((a0.deref.hA).toInt)==(114:Int)) (NZ a0<|NZ a0<|ei (a0.deref.drop 3)<|.call 75 [((a0.deref.drop 3).hA)] [] fun r5 o5=>NI r5<|.done 0 [VI (IntKind.wrap .i64 (2+r5.toInt))] []) (.done 0 [VI 1] [])))
theorem ym(a0:AV)(ha0:LK.has .ptr a0)(h:dq 30 (GC a0) R):aq Tryz.prog 75 [a0] [] R :=
 uQ (ag (bI ha0) aC) (oQ [] Tryz.f75 h)
def Mz(a0_0:Int)(a0_1:Bool):Tree :=
 .call 120 [VI (IntKind.wrap .i64 (a0_0+1))] [] fun r1 o1=>NS r1<|.ai (ah (mk [35])+ah r1.toStr<=9223372036854775807)<|.done 0 [VS (((mk [35]):ByteArray)++r1.toStr)] [.cells [VI (IntKind.wrap .i64 (a0_0+1)),VB a0_1]]
theorem U5(a0_0:Int)(a0_1:Bool)(h:dq 16 (Mz a0_0 a0_1) R):aq Tryz.prog 76 [.ref 0 0] [.cells [VI a0_0,VB a0_1]] R :=
 aq.oE (bG (cu (ag (az _) (ag (IX _) aC))) cH) (aq.up (ag (az _) aC) (oF [] {mu:=[(0,.one (.obj [.lk (.int .i64),.lk .bool]))],own:=[]} Tryz.f76 h))
def Oi(a0_0:Int)(a0_1:Bool)(a1:AV):Tree :=
 .test a0_1 (.done 0 [.ptr [.v (.int .u8 48),VS (mk []),VI 0,.v (.pointer none),.v (.pointer none)]] [.cells [VI a0_0,VB true]]) (.call 75 [a1] [] fun r1 o1=>NI r1<|.test (decide (r1.toInt>(400:Int))) (.done 0 [.ptr [.v (.int .u8 48),VS (mk []),VI 0,.v (.pointer none),.v (.pointer none)]] [.cells [VI a0_0,VB true]]) (.done 0 [a1] [.cells [VI a0_0,VB a0_1]]))
theorem S6(a0_0:Int)(a0_1:Bool)(a1:AV)(ha1:LK.has .ptr a1)(h:dq 20 (Oi a0_0 a0_1 a1) R):aq Tryz.prog 77 [.ref 0 0,a1] [.cells [VI a0_0,VB a0_1]] R :=
 aq.oE (bG (cu (ag (az _) (ag (IX _) aC))) cH) (aq.up (ag (az _) (ag (bI ha1) aC)) (oF [] {mu:=[(0,.one (.obj [.lk (.int .i64),.lk .bool]))],own:=[]} Tryz.f77 h))
def Gl(a0_0:Int)(a0_1:Bool)(a1:AV)(a2:ByteArray):Tree :=
 .test a0_1 (.done 0 [.ptr [.v (.int .u8 48),VS (mk []),VI 0,.v (.pointer none),.v (.pointer none)]] [.cells [VI a0_0,VB a0_1]]) (NZ a1<|NZ a1<|.ai (LK.has (.int .u8) (a1.deref.hA)/\1<=a1.deref.length)<|.test (((a1.deref.hA).toInt)==(110:Int)) (NZ a1<|NZ a1<|lL (a1.deref.drop 1)<|.test (af (((a1.deref.drop 1).hA).toStr)==af a2) (.done 0 [.ptr [.v (.int .u8 49),VS (mk []),VI 0,.v (.pointer none),.v (.pointer none)]] [.cells [VI a0_0,VB a0_1]]) (.done 0 [.ptr [.v (.int .u8 48),VS (mk []),VI 0,.v (.pointer none),.v (.pointer none)]] [.cells [VI a0_0,VB a0_1]])) (.test (((a1.deref.hA).toInt)==(43:Int)) (NZ a1<|NZ a1<|ei (a1.deref.drop 3)<|.call 78 [.ref 0 0,((a1.deref.drop 3).hA),VS a2] [.cells [VI a0_0,VB a0_1]] fun r1 o1=>.ai ((o1.hO)=.cells (o1.hO).cs)<|.ai (aH [.lk (.int .i64),.lk .bool] ((o1.hO).cs) 0 1 o1.tail)<|NP r1<|NZ a1<|NZ a1<|ei (a1.deref.drop 4)<|.call 78 [.ref 0 0,((a1.deref.drop 4).hA),VS a2] [.cells [VI (((o1.hO).cs.getD 0 .any).toInt),VB (((o1.hO).cs.getD 1 .any).toBool)]] fun r2 o2=>.ai ((o2.hO)=.cells (o2.hO).cs)<|.ai (aH [.lk (.int .i64),.lk .bool] ((o2.hO).cs) 0 1 o2.tail)<|NP r2<|.call 121 [.v (.int .u8 43),r1,r2] [] fun r3 o3=>NP r3<|.call 77 [.ref 0 0,r3] [.cells [VI (((o2.hO).cs.getD 0 .any).toInt),VB (((o2.hO).cs.getD 1 .any).toBool)]] fun r4 o4=>.ai ((o4.hO)=.cells (o4.hO).cs)<|.ai (aH [.lk (.int .i64),.lk .bool] ((o4.hO).cs) 0 1 o4.tail)<|NP r4<|.done 0 [r4] [.cells [VI (((o4.hO).cs.getD 0 .any).toInt),VB (((o4.hO).cs.getD 1 .any).toBool)]]) (.test (((a1.deref.hA).toInt)==(42:Int)) (NZ a1<|NZ a1<|ei (a1.deref.drop 3)<|.call 78 [.ref 0 0,((a1.deref.drop 3).hA),VS a2] [.cells [VI a0_0,VB a0_1]] fun r5 o5=>.ai ((o5.hO)=.cells (o5.hO).cs)<|.ai (aH [.lk (.int .i64),.lk .bool] ((o5.hO).cs) 0 1 o5.tail)<|NP r5<|NZ a1<|NZ a1<|ei (a1.deref.drop 4)<|.call 121 [.v (.int .u8 42),r5,((a1.deref.drop 4).hA)] [] fun r6 o6=>NP r6<|NZ a1<|NZ a1<|ei (a1.deref.drop 3)<|NZ a1<|NZ a1<|ei (a1.deref.drop 4)<|.call 78 [.ref 0 0,((a1.deref.drop 4).hA),VS a2] [.cells [VI (((o5.hO).cs.getD 0 .any).toInt),VB (((o5.hO).cs.getD 1 .any).toBool)]] fun r7 o7=>.ai ((o7.hO)=.cells (o7.hO).cs)<|.ai (aH [.lk (.int .i64),.lk .bool] ((o7.hO).cs) 0 1 o7.tail)<|NP r7<|.call 121 [.v (.int .u8 42),((a1.deref.drop 3).hA),r7] [] fun r8 o8=>NP r8<|.call 121 [.v (.int .u8 43),r6,r8] [] fun r9 o9=>NP r9<|.call 77 [.ref 0 0,r9] [.cells [VI (((o7.hO).cs.getD 0 .any).toInt),VB (((o7.hO).cs.getD 1 .any).toBool)]] fun r10 o10=>.ai ((o10.hO)=.cells (o10.hO).cs)<|.ai (aH [.lk (.int .i64),.lk .bool] ((o10.hO).cs) 0 1 o10.tail)<|NP r10<|.done 0 [r10] [.cells [VI (((o10.hO).cs.getD 0 .any).toInt),VB (((o10.hO).cs.getD 1 .any).toBool)]]) (.test (((a1.deref.hA).toInt)==(114:Int)) (.call 76 [.ref 0 0] [.cells [VI a0_0,VB a0_1]] fun r11 o11=>.ai ((o11.hO)=.cells (o11.hO).cs)<|.ai (aH [.lk (.int .i64),.lk .bool] ((o11.hO).cs) 0 1 o11.tail)<|NS r11<|NZ a1<|NZ a1<|ei (a1.deref.drop 3)<|.call 79 [((a1.deref.drop 3).hA),.ptr [.v (.int .u8 110),VS r11.toStr,VI 0,.v (.pointer none),.v (.pointer none)],VI 0] [] fun r12 o12=>NP r12<|.call 78 [.ref 0 0,r12,VS a2] [.cells [VI (((o11.hO).cs.getD 0 .any).toInt),VB (((o11.hO).cs.getD 1 .any).toBool)]] fun r13 o13=>.ai ((o13.hO)=.cells (o13.hO).cs)<|.ai (aH [.lk (.int .i64),.lk .bool] ((o13.hO).cs) 0 1 o13.tail)<|NP r13<|.call 77 [.ref 0 0,r13] [.cells [VI (((o13.hO).cs.getD 0 .any).toInt),VB (((o13.hO).cs.getD 1 .any).toBool)]] fun r14 o14=>.ai ((o14.hO)=.cells (o14.hO).cs)<|.ai (aH [.lk (.int .i64),.lk .bool] ((o14.hO).cs) 0 1 o14.tail)<|NP r14<|.call 80 [r14,VS r11.toStr,a1] [] fun r15 o15=>NP r15<|.call 78 [.ref 0 0,r12,VS r11.toStr] [.cells [VI (((o14.hO).cs.getD 0 .any).toInt),VB (((o14.hO).cs.getD 1 .any).toBool)]] fun r16 o16=>.ai ((o16.hO)=.cells (o16.hO).cs)<|.ai (aH [.lk (.int .i64),.lk .bool] ((o16.hO).cs) 0 1 o16.tail)<|NP r16<|.call 77 [.ref 0 0,r16] [.cells [VI (((o16.hO).cs.getD 0 .any).toInt),VB (((o16.hO).cs.getD 1 .any).toBool)]] fun r17 o17=>.ai ((o17.hO)=.cells (o17.hO).cs)<|.ai (aH [.lk (.int .i64),.lk .bool] ((o17.hO).cs) 0 1 o17.tail)<|NP r17<|.call 80 [r17,VS r11.toStr,a1] [] fun r18 o18=>NP r18<|.call 121 [.v (.int .u8 42),r18,.ptr [.v (.int .u8 98),VS (mk []),VI 0,.v (.pointer none),.v (.pointer none)]] [] fun r19 o19=>NP r19<|.call 121 [.v (.int .u8 43),r15,r19] [] fun r20 o20=>NP r20<|.call 77 [.ref 0 0,.ptr [.v (.int .u8 114),VS (mk []),VI 0,r20,.v (.pointer none)]] [.cells [VI (((o17.hO).cs.getD 0 .any).toInt),VB (((o17.hO).cs.getD 1 .any).toBool)]] fun r21 o21=>.ai ((o21.hO)=.cells (o21.hO).cs)<|.ai (aH [.lk (.int .i64),.lk .bool] ((o21.hO).cs) 0 1 o21.tail)<|NP r21<|.done 0 [r21] [.cells [VI (((o21.hO).cs.getD 0 .any).toInt),VB (((o21.hO).cs.getD 1 .any).toBool)]]) (.done 0 [.ptr [.v (.int .u8 48),VS (mk []),VI 0,.v (.pointer none),.v (.pointer none)]] [.cells [VI a0_0,VB a0_1]])))))
theorem L8(a0_0:Int)(a0_1:Bool)(a1:AV)(a2:ByteArray)(ha1:LK.has .ptr a1)(h:dq 121 (Gl a0_0 a0_1 a1 a2) R):aq Tryz.prog 78 [.ref 0 0,a1,VS a2] [.cells [VI a0_0,VB a0_1]] R :=
 aq.oE (bG (cu (ag (az _) (ag (IX _) aC))) cH) (aq.up (ag (az _) (ag (bI ha1) (ag (az _) aC))) (oF [] {mu:=[(0,.one (.obj [.lk (.int .i64),.lk .bool]))],own:=[]} Tryz.f78 h))
def GX(a0:AV)(a1:AV)(a2:Int):Tree :=
 NZ a0<|NZ a0<|.ai (LK.has (.int .u8) (a0.deref.hA)/\1<=a0.deref.length)<|.test (((a0.deref.hA).toInt)==(98:Int)) (NZ a0<|NZ a0<|.ai (LK.has (.int .i64) ((a0.deref.drop 2).hA)/\1<=(a0.deref.drop 2).length)<|.test ((((a0.deref.drop 2).hA).toInt)==a2) (.done 0 [a1] []) (.done 0 [a0] [])) (.test (((a0.deref.hA).toInt)==(43:Int)) (NZ a0<|NZ a0<|.ai (LK.has (.int .u8) (a0.deref.hA)/\1<=a0.deref.length)<|NZ a0<|NZ a0<|ei (a0.deref.drop 3)<|.call 79 [((a0.deref.drop 3).hA),a1,VI a2] [] fun r1 o1=>NP r1<|NZ a0<|NZ a0<|ei (a0.deref.drop 4)<|.call 79 [((a0.deref.drop 4).hA),a1,VI a2] [] fun r2 o2=>NP r2<|.done 0 [.ptr [.v (.int .u8 ((a0.deref.hA).toInt)),VS (mk []),VI 0,r1,r2]] []) (.test (((a0.deref.hA).toInt)==(42:Int)) (NZ a0<|NZ a0<|.ai (LK.has (.int .u8) (a0.deref.hA)/\1<=a0.deref.length)<|NZ a0<|NZ a0<|ei (a0.deref.drop 3)<|.call 79 [((a0.deref.drop 3).hA),a1,VI a2] [] fun r3 o3=>NP r3<|NZ a0<|NZ a0<|ei (a0.deref.drop 4)<|.call 79 [((a0.deref.drop 4).hA),a1,VI a2] [] fun r4 o4=>NP r4<|.done 0 [.ptr [.v (.int .u8 ((a0.deref.hA).toInt)),VS (mk []),VI 0,r3,r4]] []) (.test (((a0.deref.hA).toInt)==(114:Int)) (NZ a0<|NZ a0<|ei (a0.deref.drop 3)<|.call 79 [((a0.deref.drop 3).hA),a1,VI (IntKind.wrap .i64 (a2+1))] [] fun r5 o5=>NP r5<|.done 0 [.ptr [.v (.int .u8 114),VS (mk []),VI 0,r5,.v (.pointer none)]] []) (.done 0 [a0] []))))
theorem yO(a0:AV)(a1:AV)(a2:Int)(ha0:LK.has .ptr a0)(ha1:LK.has .ptr a1)(h:dq 56 (GX a0 a1 a2) R):aq Tryz.prog 79 [a0,a1,VI a2] [] R :=
 uQ (ag (bI ha0) (ag (bI ha1) (ag (az _) aC))) (oQ [] Tryz.f79 h)
def GS(a0:AV)(a1:ByteArray)(a2:AV):Tree :=
 NZ a0<|NZ a0<|.ai (LK.has (.int .u8) (a0.deref.hA)/\1<=a0.deref.length)<|.test (((a0.deref.hA).toInt)==(110:Int)) (NZ a0<|NZ a0<|lL (a0.deref.drop 1)<|.test (af (((a0.deref.drop 1).hA).toStr)==af a1) (.done 0 [a2] []) (.done 0 [a0] [])) (.test (((a0.deref.hA).toInt)==(43:Int)) (NZ a0<|NZ a0<|.ai (LK.has (.int .u8) (a0.deref.hA)/\1<=a0.deref.length)<|NZ a0<|NZ a0<|ei (a0.deref.drop 3)<|.call 80 [((a0.deref.drop 3).hA),VS a1,a2] [] fun r1 o1=>NP r1<|NZ a0<|NZ a0<|ei (a0.deref.drop 4)<|.call 80 [((a0.deref.drop 4).hA),VS a1,a2] [] fun r2 o2=>NP r2<|.done 0 [.ptr [.v (.int .u8 ((a0.deref.hA).toInt)),VS (mk []),VI 0,r1,r2]] []) (.test (((a0.deref.hA).toInt)==(42:Int)) (NZ a0<|NZ a0<|.ai (LK.has (.int .u8) (a0.deref.hA)/\1<=a0.deref.length)<|NZ a0<|NZ a0<|ei (a0.deref.drop 3)<|.call 80 [((a0.deref.drop 3).hA),VS a1,a2] [] fun r3 o3=>NP r3<|NZ a0<|NZ a0<|ei (a0.deref.drop 4)<|.call 80 [((a0.deref.drop 4).hA),VS a1,a2] [] fun r4 o4=>NP r4<|.done 0 [.ptr [.v (.int .u8 ((a0.deref.hA).toInt)),VS (mk []),VI 0,r3,r4]] []) (.test (((a0.deref.hA).toInt)==(114:Int)) (NZ a0<|NZ a0<|ei (a0.deref.drop 3)<|.call 80 [((a0.deref.drop 3).hA),VS a1,a2] [] fun r5 o5=>NP r5<|.done 0 [.ptr [.v (.int .u8 114),VS (mk []),VI 0,r5,.v (.pointer none)]] []) (.done 0 [a0] []))))
theorem yU(a0:AV)(a1:ByteArray)(a2:AV)(ha0:LK.has .ptr a0)(ha2:LK.has .ptr a2)(h:dq 55 (GS a0 a1 a2) R):aq Tryz.prog 80 [a0,VS a1,a2] [] R :=
 uQ (ag (bI ha0) (ag (az _) (ag (bI ha2) aC))) (oQ [] Tryz.f80 h)
def QE(a0:AV):Tree :=
 .call 122 [a0] [] fun r1 o1=>NL r1<|.call 123 [a0,.v (.slice none 0 0),.ik 123 [none,some 0,some 1],.ref 0 0,.ref 1 0] [.cells [r1],.cells [VI 0]] fun r2 o2=>.ai ((o2.hO)=.cells (o2.hO).cs)<|.ai (aH [.lk .sl] ((o2.hO).cs) 0 1 o2.tail)<|.ai ((o2.tail.hO)=.cells (o2.tail.hO).cs)<|.ai (aH [.lk (.int .i64)] ((o2.tail.hO).cs) 0 2 o2.tail.tail)<|NS r2<|.done 0 [VS r2.toStr] []
theorem R6(a0:AV)(ha0:LK.has .ptr a0)(h:dq 12 (QE a0) R):aq Tryz.prog 81 [a0] [] R :=
 uQ (ag (bI ha0) aC) (oQ [] Tryz.f81 h)
def Mq(a0:ByteArray):Tree :=
 .call 38 [VS a0] [] fun r1 o1=>NP r1<|NP r1<|.test r1.isNil (.done 0 [.v (.pointer none)] []) (.call 125 [r1] [] fun r2 o2=>NB r2<|.test (!r2.toBool) (.done 0 [.v (.pointer none)] []) (.done 0 [r1] []))
theorem RD(a0:ByteArray)(h:dq 14 (Mq a0) R):aq Tryz.prog 82 [VS a0] [] R :=
 uQ (ag (az _) aC) (oQ [] Tryz.f82 h)
def BY(a0_0:AV)(a0_1:AV)(a1:AV)(a2:Int):Tree :=
 NZ a0_0<|NZ a0_0<|.ai (LK.has (.int .u8) (a0_0.deref.hA)/\1<=a0_0.deref.length)<|.test (((a0_0.deref.hA).toInt)==(49:Int)) (NZ a1<|NZ a1<|.ai (LK.has (.int .u8) (a1.deref.hA)/\1<=a1.deref.length)<|.done 0 [VB (((a1.deref.hA).toInt)==(117:Int))] []) (.test (((a0_0.deref.hA).toInt)==(110:Int)) (NZ a1<|NZ a1<|.ai (LK.has (.int .u8) (a1.deref.hA)/\1<=a1.deref.length)<|.test (((a1.deref.hA).toInt) != (101:Int)) (.done 0 [VB false] []) (NZ a1<|NZ a1<|lL (a1.deref.drop 1)<|.ai (0<=(1:Int)/\(1:Int)<=(ah (((a1.deref.drop 1).hA).toStr):Int)/\(ah (((a1.deref.drop 1).hA).toStr):Int)<=(ah (((a1.deref.drop 1).hA).toStr):Int))<|.call 126 [VS (cz (((a1.deref.drop 1).hA).toStr) (bK 1) (bK (ah (((a1.deref.drop 1).hA).toStr):Int)))] [] fun r1 o1=>NT r1<|NI (r1.comp 0)<|.ai (LK.has .lM (r1.comp 1))<|.done 0 [VB (decide (((r1.comp 0).toInt)<a2))] [])) (.test (((a0_0.deref.hA).toInt)==(98:Int)) (.call 127 [.agg [a0_0,a0_1]] [] fun r2 o2=>NP r2<|NZ r2<|NZ r2<|.ai (bC [.ptr,.ptr] r2.deref 0/\2<=r2.deref.length)<|.call 83 [.agg [(r2.deref.getD 0 .any),(r2.deref.getD 1 .any)],a1,VI a2] [] fun r3 o3=>NB r3<|.done 0 [VB r3.toBool] []) (.test (((a0_0.deref.hA).toInt)==(43:Int)) (NZ a1<|NZ a1<|.ai (LK.has (.int .u8) (a1.deref.hA)/\1<=a1.deref.length)<|.test (((a1.deref.hA).toInt)==(108:Int)) (.call 108 [.agg [a0_0,a0_1]] [] fun r4 o4=>.ai (r4=.agg r4.cs/\r4.cs.length=2/\bC [.ptr,.ptr] r4.cs 0)<|NZ a1<|NZ a1<|ei (a1.deref.drop 2)<|.call 83 [.agg [(r4.cs.getD 0 .any),(r4.cs.getD 1 .any)],((a1.deref.drop 2).hA),VI a2] [] fun r5 o5=>NB r5<|.test r5.toBool (.done 0 [VB true] []) (NZ a1<|NZ a1<|.ai (LK.has (.int .u8) (a1.deref.hA)/\1<=a1.deref.length)<|.test (((a1.deref.hA).toInt)==(114:Int)) (.call 109 [.agg [a0_0,a0_1]] [] fun r6 o6=>.ai (r6=.agg r6.cs/\r6.cs.length=2/\bC [.ptr,.ptr] r6.cs 0)<|NZ a1<|NZ a1<|ei (a1.deref.drop 2)<|.call 83 [.agg [(r6.cs.getD 0 .any),(r6.cs.getD 1 .any)],((a1.deref.drop 2).hA),VI a2] [] fun r7 o7=>NB r7<|.done 0 [VB r7.toBool] []) (.done 0 [VB false] []))) (NZ a1<|NZ a1<|.ai (LK.has (.int .u8) (a1.deref.hA)/\1<=a1.deref.length)<|.test (((a1.deref.hA).toInt)==(114:Int)) (.call 109 [.agg [a0_0,a0_1]] [] fun r8 o8=>.ai (r8=.agg r8.cs/\r8.cs.length=2/\bC [.ptr,.ptr] r8.cs 0)<|NZ a1<|NZ a1<|ei (a1.deref.drop 2)<|.call 83 [.agg [(r8.cs.getD 0 .any),(r8.cs.getD 1 .any)],((a1.deref.drop 2).hA),VI a2] [] fun r9 o9=>NB r9<|.done 0 [VB r9.toBool] []) (.done 0 [VB false] []))) (.test (((a0_0.deref.hA).toInt)==(42:Int)) (NZ a1<|NZ a1<|.ai (LK.has (.int .u8) (a1.deref.hA)/\1<=a1.deref.length)<|.test (((a1.deref.hA).toInt)==(112:Int)) (.call 108 [.agg [a0_0,a0_1]] [] fun r10 o10=>.ai (r10=.agg r10.cs/\r10.cs.length=2/\bC [.ptr,.ptr] r10.cs 0)<|NZ a1<|NZ a1<|ei (a1.deref.drop 2)<|.call 83 [.agg [(r10.cs.getD 0 .any),(r10.cs.getD 1 .any)],((a1.deref.drop 2).hA),VI a2] [] fun r11 o11=>NB r11<|.test r11.toBool (.call 109 [.agg [a0_0,a0_1]] [] fun r12 o12=>.ai (r12=.agg r12.cs/\r12.cs.length=2/\bC [.ptr,.ptr] r12.cs 0)<|NZ a1<|NZ a1<|ei (a1.deref.drop 3)<|.call 83 [.agg [(r12.cs.getD 0 .any),(r12.cs.getD 1 .any)],((a1.deref.drop 3).hA),VI a2] [] fun r13 o13=>NB r13<|.done 0 [VB r13.toBool] []) (.done 0 [VB false] [])) (.done 0 [VB false] [])) (.test (((a0_0.deref.hA).toInt)==(114:Int)) (.call 70 [.agg [a0_0,a0_1]] [] fun r14 o14=>NT r14<|.ai ((r14.comp 0)=.agg (r14.comp 0).cs/\(r14.comp 0).cs.length=2/\bC [.ptr,.ptr] ((r14.comp 0).cs) 0)<|NP (r14.comp 1)<|NZ a1<|NZ a1<|.ai (LK.has (.int .u8) (a1.deref.hA)/\1<=a1.deref.length)<|.test (((a1.deref.hA).toInt)==(102:Int)) (NZ a1<|NZ a1<|ei (a1.deref.drop 2)<|.call 83 [.agg [((r14.comp 0).cs.getD 0 .any),((r14.comp 0).cs.getD 1 .any)],((a1.deref.drop 2).hA),VI a2] [] fun r15 o15=>NB r15<|.done 0 [VB r15.toBool] []) (.done 0 [VB false] [])) (.done 0 [VB false] []))))))
theorem Qe(a0_0:AV)(a0_1:AV)(a1:AV)(a2:Int)(ha0_0:LK.has .ptr a0_0)(ha0_1:LK.has .ptr a0_1)(ha1:LK.has .ptr a1)(h:dq 134 (BY a0_0 a0_1 a1 a2) R):aq Tryz.prog 83 [.agg [a0_0,a0_1],a1,VI a2] [] R :=
 uQ (ag (bX (ag (bI ha0_0) (ag (bI ha0_1) aC))) (ag (bI ha1) (ag (az _) aC))) (oQ [] Tryz.f83 h)
def yT(a0:AV):Tree :=
 NZ a0<|NZ a0<|ei (a0.deref.drop 2)<|NP ((a0.deref.drop 2).hA)<|.test (!((a0.deref.drop 2).hA).isNil) (NZ a0<|NZ a0<|ei (a0.deref.drop 2)<|.call 84 [((a0.deref.drop 2).hA)] [] fun r1 o1=>NI r1<|NZ a0<|NZ a0<|ei (a0.deref.drop 3)<|NP ((a0.deref.drop 3).hA)<|.test (!((a0.deref.drop 3).hA).isNil) (NZ a0<|NZ a0<|ei (a0.deref.drop 3)<|.call 84 [((a0.deref.drop 3).hA)] [] fun r2 o2=>NI r2<|.done 0 [VI (IntKind.wrap .i64 ((IntKind.wrap .i64 (1+r1.toInt))+r2.toInt))] []) (.done 0 [VI (IntKind.wrap .i64 (1+r1.toInt))] [])) (NZ a0<|NZ a0<|ei (a0.deref.drop 3)<|NP ((a0.deref.drop 3).hA)<|.test (!((a0.deref.drop 3).hA).isNil) (NZ a0<|NZ a0<|ei (a0.deref.drop 3)<|.call 84 [((a0.deref.drop 3).hA)] [] fun r3 o3=>NI r3<|.done 0 [VI (IntKind.wrap .i64 (1+r3.toInt))] []) (.done 0 [VI 1] []))
theorem BM(a0:AV)(ha0:LK.has .ptr a0)(h:dq 29 (yT a0) R):aq Tryz.prog 84 [a0] [] R :=
 uQ (ag (bI ha0) aC) (oQ [] Tryz.f84 h)
def Pr(a0:Int)(a1:AV):Tree :=
 .done 0 [.ptr [.v (.int .u8 a0),VS (mk []),a1,.v (.pointer none)]] []
theorem S9(a0:Int)(a1:AV)(ha1:LK.has .ptr a1)(h:dq 9 (Pr a0 a1) R):aq Tryz.prog 85 [.v (.int .u8 a0),a1] [] R :=
 uQ (ag (az _) (ag (bI ha1) aC)) (oQ [] Tryz.f85 h)
def Cz(a0_0:AV)(a0_1:AV)(a1:AV)(a2_0:ByteArray)(a2_1:AV)(a3:AV):Tree :=
 NZ a0_0<|NZ a0_0<|.ai (LK.has (.int .u8) (a0_0.deref.hA)/\1<=a0_0.deref.length)<|.test (((a0_0.deref.hA).toInt)==(43:Int)) (.call 108 [.agg [a0_0,a0_1]] [] fun r1 o1=>.ai (r1=.agg r1.cs/\r1.cs.length=2/\bC [.ptr,.ptr] r1.cs 0)<|NZ a1<|NZ a1<|.ai (LK.has (.int .u8) (a1.deref.hA)/\1<=a1.deref.length)<|.test (((a1.deref.hA).toInt)==(114:Int)) (.call 109 [.agg [a0_0,a0_1]] [] fun r2 o2=>.ai (r2=.agg r2.cs/\r2.cs.length=2/\bC [.ptr,.ptr] r2.cs 0)<|NZ a1<|NZ a1<|.ai (LK.has (.int .u8) (a1.deref.hA)/\1<=a1.deref.length)<|NZ a1<|NZ a1<|ei (a1.deref.drop 2)<|.call 86 [.agg [(r2.cs.getD 0 .any),(r2.cs.getD 1 .any)],((a1.deref.drop 2).hA),.agg [VS a2_0,a2_1],a3] [] fun r3 o3=>NP r3<|.call 85 [.v (.int .u8 ((a1.deref.hA).toInt)),r3] [] fun r4 o4=>NP r4<|.done 0 [r4] []) (NZ a1<|NZ a1<|.ai (LK.has (.int .u8) (a1.deref.hA)/\1<=a1.deref.length)<|NZ a1<|NZ a1<|ei (a1.deref.drop 2)<|.call 86 [.agg [(r1.cs.getD 0 .any),(r1.cs.getD 1 .any)],((a1.deref.drop 2).hA),.agg [VS a2_0,a2_1],a3] [] fun r5 o5=>NP r5<|.call 85 [.v (.int .u8 ((a1.deref.hA).toInt)),r5] [] fun r6 o6=>NP r6<|.done 0 [r6] [])) (.test (((a0_0.deref.hA).toInt)==(42:Int)) (NZ a1<|NZ a1<|.ai (LK.has (.int .u8) (a1.deref.hA)/\1<=a1.deref.length)<|.test (((a1.deref.hA).toInt)==(108:Int)) (.call 108 [.agg [a0_0,a0_1]] [] fun r7 o7=>.ai (r7=.agg r7.cs/\r7.cs.length=2/\bC [.ptr,.ptr] r7.cs 0)<|NZ a1<|NZ a1<|ei (a1.deref.drop 2)<|NZ ((a1.deref.drop 2).hA)<|NZ ((a1.deref.drop 2).hA)<|ei (((a1.deref.drop 2).hA).deref.drop 2)<|.call 86 [.agg [(r7.cs.getD 0 .any),(r7.cs.getD 1 .any)],((((a1.deref.drop 2).hA).deref.drop 2).hA),.agg [VS a2_0,a2_1],a3] [] fun r8 o8=>NP r8<|NZ a1<|NZ a1<|ei (a1.deref.drop 2)<|NZ ((a1.deref.drop 2).hA)<|NZ ((a1.deref.drop 2).hA)<|ei (((a1.deref.drop 2).hA).deref.drop 3)<|.call 112 [r8,((((a1.deref.drop 2).hA).deref.drop 3).hA)] [] fun r9 o9=>NP r9<|.done 0 [r9] []) (NZ a1<|NZ a1<|ei (a1.deref.drop 2)<|NZ ((a1.deref.drop 2).hA)<|NZ ((a1.deref.drop 2).hA)<|ei (((a1.deref.drop 2).hA).deref.drop 2)<|.call 109 [.agg [a0_0,a0_1]] [] fun r10 o10=>.ai (r10=.agg r10.cs/\r10.cs.length=2/\bC [.ptr,.ptr] r10.cs 0)<|NZ a1<|NZ a1<|ei (a1.deref.drop 2)<|NZ ((a1.deref.drop 2).hA)<|NZ ((a1.deref.drop 2).hA)<|ei (((a1.deref.drop 2).hA).deref.drop 3)<|.call 86 [.agg [(r10.cs.getD 0 .any),(r10.cs.getD 1 .any)],((((a1.deref.drop 2).hA).deref.drop 3).hA),.agg [VS a2_0,a2_1],a3] [] fun r11 o11=>NP r11<|.call 112 [((((a1.deref.drop 2).hA).deref.drop 2).hA),r11] [] fun r12 o12=>NP r12<|.done 0 [r12] [])) (.test (((a0_0.deref.hA).toInt)==(114:Int)) (.call 70 [.agg [a0_0,a0_1]] [] fun r13 o13=>NT r13<|.ai ((r13.comp 0)=.agg (r13.comp 0).cs/\(r13.comp 0).cs.length=2/\bC [.ptr,.ptr] ((r13.comp 0).cs) 0)<|NP (r13.comp 1)<|NZ a1<|NZ a1<|ei (a1.deref.drop 2)<|NZ ((a1.deref.drop 2).hA)<|NZ ((a1.deref.drop 2).hA)<|.ai (LK.has (.int .u8) (((a1.deref.drop 2).hA).deref.hA)/\1<=(((a1.deref.drop 2).hA).deref).length)<|.test (((((a1.deref.drop 2).hA).deref.hA).toInt)==(108:Int)) (NZ a1<|NZ a1<|ei (a1.deref.drop 2)<|NZ ((a1.deref.drop 2).hA)<|NZ ((a1.deref.drop 2).hA)<|ei (((a1.deref.drop 2).hA).deref.drop 2)<|.call 86 [.agg [((r13.comp 0).cs.getD 0 .any),((r13.comp 0).cs.getD 1 .any)],((((a1.deref.drop 2).hA).deref.drop 2).hA),.agg [VS a2_0,a2_1],a3] [] fun r14 o14=>NP r14<|.call 85 [.v (.int .u8 102),r14] [] fun r15 o15=>NP r15<|.done 0 [r15] []) (NZ a1<|NZ a1<|ei (a1.deref.drop 2)<|NZ ((a1.deref.drop 2).hA)<|NZ ((a1.deref.drop 2).hA)<|ei (((a1.deref.drop 2).hA).deref.drop 2)<|NZ ((((a1.deref.drop 2).hA).deref.drop 2).hA)<|NZ ((((a1.deref.drop 2).hA).deref.drop 2).hA)<|ei (((((a1.deref.drop 2).hA).deref.drop 2).hA).deref.drop 3)<|.call 86 [.agg [a0_0,a0_1],((((((a1.deref.drop 2).hA).deref.drop 2).hA).deref.drop 3).hA),.agg [VS a2_0,a2_1],a3] [] fun r16 o16=>NP r16<|NZ a1<|NZ a1<|ei (a1.deref.drop 2)<|NZ ((a1.deref.drop 2).hA)<|NZ ((a1.deref.drop 2).hA)<|ei (((a1.deref.drop 2).hA).deref.drop 2)<|NZ ((((a1.deref.drop 2).hA).deref.drop 2).hA)<|NZ ((((a1.deref.drop 2).hA).deref.drop 2).hA)<|ei (((((a1.deref.drop 2).hA).deref.drop 2).hA).deref.drop 2)<|.call 86 [.agg [((r13.comp 0).cs.getD 0 .any),((r13.comp 0).cs.getD 1 .any)],((((((a1.deref.drop 2).hA).deref.drop 2).hA).deref.drop 2).hA),.agg [VS (mk []),(r13.comp 1)],r16] [] fun r17 o17=>NP r17<|.call 85 [.v (.int .u8 102),r17] [] fun r18 o18=>NP r18<|.done 0 [r18] [])) (.done 0 [a3] [])))
theorem UF(a0_0:AV)(a0_1:AV)(a1:AV)(a2_0:ByteArray)(a2_1:AV)(a3:AV)(ha0_0:LK.has .ptr a0_0)(ha0_1:LK.has .ptr a0_1)(ha1:LK.has .ptr a1)(ha2_1:LK.has .ptr a2_1)(ha3:LK.has .ptr a3)(h:dq 147 (Cz a0_0 a0_1 a1 a2_0 a2_1 a3) R):aq Tryz.prog 86 [.agg [a0_0,a0_1],a1,.agg [VS a2_0,a2_1],a3] [] R :=
 uQ (ag (bX (ag (bI ha0_0) (ag (bI ha0_1) aC))) (ag (bI ha1) (ag (bX (ag (az _) (ag (bI ha2_1) aC))) (ag (bI ha3) aC)))) (oQ [] Tryz.f86 h)
def Jw(a0:AV):Tree :=
 NZ a0<|NZ a0<|.ai (LK.has .str (a0.deref.hA)/\1<=a0.deref.length)<|.test (af ((a0.deref.hA).toStr)==af (mk [117])) (.done 0 [.ptr [.v (.int .u8 117),VS (mk []),.v (.pointer none),.v (.pointer none)]] []) (NZ a0<|NZ a0<|.ai (LK.has .str (a0.deref.hA)/\1<=a0.deref.length)<|.call 128 [VS ((a0.deref.hA).toStr)] [] fun r1 o1=>NB r1<|.test r1.toBool (NZ a0<|NZ a0<|.ai (LK.has .str (a0.deref.hA)/\1<=a0.deref.length)<|.done 0 [.ptr [.v (.int .u8 101),VS ((a0.deref.hA).toStr),.v (.pointer none),.v (.pointer none)]] []) (.call 119 [a0,VS (mk [108]),VI 2] [] fun r2 o2=>NB r2<|.test r2.toBool (NZ a0<|NZ a0<|oH (a0.deref.drop 1)<|NG ((a0.deref.drop 1).hA) 1 1<|ei (((a0.deref.drop 1).hA).ix (1:Int))<|.call 87 [((((a0.deref.drop 1).hA).ix (1:Int)).hA)] [] fun r3 o3=>NP r3<|NP r3<|.test r3.isNil (.done 0 [.v (.pointer none)] []) (NZ a0<|NZ a0<|oH (a0.deref.drop 1)<|NG ((a0.deref.drop 1).hA) 0 1<|ei (((a0.deref.drop 1).hA).ix (0:Int))<|NZ ((((a0.deref.drop 1).hA).ix (0:Int)).hA)<|NZ ((((a0.deref.drop 1).hA).ix (0:Int)).hA)<|.ai (LK.has .str (((((a0.deref.drop 1).hA).ix (0:Int)).hA).deref.hA)/\1<=(((((a0.deref.drop 1).hA).ix (0:Int)).hA).deref).length)<|.ai (0<=(0:Int)/\(0:Int)<ah ((((((a0.deref.drop 1).hA).ix (0:Int)).hA).deref.hA).toStr))<|.done 0 [.ptr [.v (.int .u8 (bt ((((((a0.deref.drop 1).hA).ix (0:Int)).hA).deref.hA).toStr) 0)),VS (mk []),r3,.v (.pointer none)]] [])) (.call 119 [a0,VS (mk [114]),VI 2] [] fun r4 o4=>NB r4<|.test r4.toBool (NZ a0<|NZ a0<|oH (a0.deref.drop 1)<|NG ((a0.deref.drop 1).hA) 1 1<|ei (((a0.deref.drop 1).hA).ix (1:Int))<|.call 87 [((((a0.deref.drop 1).hA).ix (1:Int)).hA)] [] fun r5 o5=>NP r5<|NP r5<|.test r5.isNil (.done 0 [.v (.pointer none)] []) (NZ a0<|NZ a0<|oH (a0.deref.drop 1)<|NG ((a0.deref.drop 1).hA) 0 1<|ei (((a0.deref.drop 1).hA).ix (0:Int))<|NZ ((((a0.deref.drop 1).hA).ix (0:Int)).hA)<|NZ ((((a0.deref.drop 1).hA).ix (0:Int)).hA)<|.ai (LK.has .str (((((a0.deref.drop 1).hA).ix (0:Int)).hA).deref.hA)/\1<=(((((a0.deref.drop 1).hA).ix (0:Int)).hA).deref).length)<|.ai (0<=(0:Int)/\(0:Int)<ah ((((((a0.deref.drop 1).hA).ix (0:Int)).hA).deref.hA).toStr))<|.done 0 [.ptr [.v (.int .u8 (bt ((((((a0.deref.drop 1).hA).ix (0:Int)).hA).deref.hA).toStr) 0)),VS (mk []),r5,.v (.pointer none)]] [])) (.call 119 [a0,VS (mk [102]),VI 2] [] fun r6 o6=>NB r6<|.test r6.toBool (NZ a0<|NZ a0<|oH (a0.deref.drop 1)<|NG ((a0.deref.drop 1).hA) 1 1<|ei (((a0.deref.drop 1).hA).ix (1:Int))<|.call 87 [((((a0.deref.drop 1).hA).ix (1:Int)).hA)] [] fun r7 o7=>NP r7<|NP r7<|.test r7.isNil (.done 0 [.v (.pointer none)] []) (NZ a0<|NZ a0<|oH (a0.deref.drop 1)<|NG ((a0.deref.drop 1).hA) 0 1<|ei (((a0.deref.drop 1).hA).ix (0:Int))<|NZ ((((a0.deref.drop 1).hA).ix (0:Int)).hA)<|NZ ((((a0.deref.drop 1).hA).ix (0:Int)).hA)<|.ai (LK.has .str (((((a0.deref.drop 1).hA).ix (0:Int)).hA).deref.hA)/\1<=(((((a0.deref.drop 1).hA).ix (0:Int)).hA).deref).length)<|.ai (0<=(0:Int)/\(0:Int)<ah ((((((a0.deref.drop 1).hA).ix (0:Int)).hA).deref.hA).toStr))<|.done 0 [.ptr [.v (.int .u8 (bt ((((((a0.deref.drop 1).hA).ix (0:Int)).hA).deref.hA).toStr) 0)),VS (mk []),r7,.v (.pointer none)]] [])) (.call 119 [a0,VS (mk [112]),VI 3] [] fun r8 o8=>NB r8<|.test r8.toBool (NZ a0<|NZ a0<|oH (a0.deref.drop 1)<|NG ((a0.deref.drop 1).hA) 1 1<|ei (((a0.deref.drop 1).hA).ix (1:Int))<|.call 87 [((((a0.deref.drop 1).hA).ix (1:Int)).hA)] [] fun r9 o9=>NP r9<|NZ a0<|NZ a0<|oH (a0.deref.drop 1)<|NG ((a0.deref.drop 1).hA) 2 1<|ei (((a0.deref.drop 1).hA).ix (2:Int))<|.call 87 [((((a0.deref.drop 1).hA).ix (2:Int)).hA)] [] fun r10 o10=>NP r10<|NP r9<|.test r9.isNil (.done 0 [.v (.pointer none)] []) (NP r10<|.test r10.isNil (.done 0 [.v (.pointer none)] []) (.call 112 [r9,r10] [] fun r11 o11=>NP r11<|.done 0 [r11] []))) (.done 0 [.v (.pointer none)] []))))))
theorem OT(a0:AV)(ha0:LK.has .ptr a0)(h:dq 85 (Jw a0) R):aq Tryz.prog 87 [a0] [] R :=
 uQ (ag (bI ha0) aC) (oQ [] Tryz.f87 h)
def OU(a0:ByteArray)(a1:ByteArray):Tree :=
 .call 91 [.agg [VS a0,.vec 0,VS a1]] [.vec 1 []] fun r1 o1=>NT r1<|.ai ((r1.comp 0)=.agg (r1.comp 0).cs/\aH [.lk .str,.vec 1,.lk .str] ((r1.comp 0).cs) 0 1 o1.tail)<|NB (r1.comp 1)<|.done 0 [.cm [.agg [VS (((r1.comp 0).cs.getD 0 .any).toStr),.vec 0,VS (((r1.comp 0).cs.getD 2 .any).toStr)],VB ((r1.comp 1).toBool)]] [.vec 1 ((o1.tail.hO).es)]
theorem Ua(a0:ByteArray)(a1:ByteArray)(h:dq 13 (OU a0 a1) R):aq Tryz.prog 88 [VS a0,VS a1] [] R :=
 uQ (ag (az _) (ag (az _) aC)) (oF [] {mu:=[],own:=[0],oa:=[.lk .str,.vec 1,.lk .str]} Tryz.f88 h)
def M8(a0_0:ByteArray)(a0_1:AV)(a0_2:ByteArray)(a1:Int):Tree :=
 .call 90 [.agg [VS a0_0,a0_1,VS a0_2]] [] fun r1 o1=>NB r1<|.test (!r1.toBool) (.done 0 [.cm [.agg [VS (mk []),.vec 0,VS (mk [])],VB false]] [.vec 1 []]) (.call 13 [VS a0_0,VS a0_2] [] fun r2 o2=>NT r2<|NL (r2.comp 0)<|NB (r2.comp 1)<|NL (r2.comp 0)<|.call 55 [VI a1,VI 0,VI (IntKind.wrap .i64 ((((r2.comp 0).elems).length:Int)-1))] [] fun r3 o3=>NB r3<|.test (!r3.toBool) (.done 0 [.cm [.agg [VS (mk []),.vec 0,VS (mk [])],VB false]] [.vec 1 []]) (NG (r2.comp 0) a1 2<|lL ((r2.comp 0).ix a1)<|.call 129 [a0_1,VS ((((r2.comp 0).ix a1).hA).toStr)] [] fun r4 o4=>.ai (r4=.vec 0/\(o4.hO)=.vec 1 (o4.hO).es)<|.ai (∀x,x∈o4->dI x)<|NG (r2.comp 0) a1 2<|lL (((r2.comp 0).ix a1).drop 1)<|.call 91 [.agg [VS a0_0,.vec 0,VS (((((r2.comp 0).ix a1).drop 1).hA).toStr)]] [.vec 1 ((o4.hO).es)] fun r5 o5=>NT r5<|.ai ((r5.comp 0)=.agg (r5.comp 0).cs/\aH [.lk .str,.vec 1,.lk .str] ((r5.comp 0).cs) 0 1 o5.tail)<|NB (r5.comp 1)<|.done 0 [.cm [.agg [VS (((r5.comp 0).cs.getD 0 .any).toStr),.vec 0,VS (((r5.comp 0).cs.getD 2 .any).toStr)],VB ((r5.comp 1).toBool)]] [.vec 1 ((o5.tail.hO).es)]))
theorem SR(a0_0:ByteArray)(a0_1:AV)(a0_2:ByteArray)(a1:Int)(ha0_1:LK.has .sl a0_1)(h:dq 46 (M8 a0_0 a0_1 a0_2 a1) R):aq Tryz.prog 89 [.agg [VS a0_0,a0_1,VS a0_2],VI a1] [] R :=
 uQ (ag (bX (ag (az _) (ag (bN ha0_1) (ag (az _) aC)))) (ag (az _) aC)) (oF [] {mu:=[],own:=[0],oa:=[.lk .str,.vec 1,.lk .str]} Tryz.f89 h)
def NQ(a0_0:ByteArray)(a0_1:AV)(a0_2:ByteArray):Tree :=
 .call 130 [.agg [VS a0_0,a0_1,VS a0_2]] [] fun r1 o1=>NB r1<|.test (!r1.toBool) (.done 0 [VB false] []) (.call 92 [.agg [VS a0_0,a0_1,VS a0_2]] [] fun r2 o2=>NT r2<|.ai ((r2.comp 0)=.agg (r2.comp 0).cs/\(r2.comp 0).cs.length=3/\bC [.str,.sl,.str] ((r2.comp 0).cs) 0)<|NB (r2.comp 1)<|.done 0 [VB ((r2.comp 1).toBool)] [])
theorem SG(a0_0:ByteArray)(a0_1:AV)(a0_2:ByteArray)(ha0_1:LK.has .sl a0_1)(h:dq 14 (NQ a0_0 a0_1 a0_2) R):aq Tryz.prog 90 [.agg [VS a0_0,a0_1,VS a0_2]] [] R :=
 uQ (ag (bX (ag (az _) (ag (bN ha0_1) (ag (az _) aC)))) aC) (oQ [] Tryz.f90 h)
def Q2(a0_0:ByteArray)(e0:List (List AV))(a0_2:ByteArray):Tree :=
 .call 90 [.agg [VS a0_0,.sl e0,VS a0_2]] [] fun r1 o1=>NB r1<|.test (!r1.toBool) (.done 0 [.cm [.agg [VS (mk []),.vec 1,VS (mk [])],VB false]] [.dead,.vec 1 []]) (.done 0 [.cm [.agg [VS a0_0,.vec 1,VS a0_2],VB true]] [.dead,.vec 1 e0])
theorem UN(a0_0:ByteArray)(e0:List (List AV))(a0_2:ByteArray)(h:dq 9 (Q2 a0_0 e0 a0_2) R):aq Tryz.prog 91 [.agg [VS a0_0,.vec 0,VS a0_2]] [.vec 1 e0] R :=
 aq.oE (bG (fV _) cH) (aq.up (ag (az _) aC) (oF [] {mu:=[(0,.one (.vq [.lk .str,.vec 1,.lk .str]))],own:=[0],oa:=[.lk .str,.vec 1,.lk .str]} Tryz.f91 h))
def Im:LI:={hd:={refs:=[(1,1),(2,2)],cv:=[(1,[.lk .str,.lk .sl,.lk .str]),(2,[.lk .str,.lk .sl,.lk .str])]},xs:={refs:=[(1,1),(2,2)],cv:=[(1,[.lk .str,.lk .sl,.lk .str]),(2,[.lk .str,.lk .sl,.lk .str])]},rt:={bQ:=[(3,.k .bool)],refs:=[(2,2)],cv:=[(2,[.lk .str,.lk .sl,.lk .str])]},ex:=0}
def K1:Code:=cL (cG Tryz.f92) 1
def Qz:List (Nat×LI):=[(1,Im)]
def QK(a0_0:ByteArray)(a0_1:AV)(a0_2:ByteArray):Tree :=
 .loop K1 Im [] [.cells [VS a0_0,a0_1,VS a0_2],.cells [VS (mk []),.v (.slice none 0 0),VS (mk [])]] (fun y2 q2=>.ai ((q2.hO)=.cells (q2.hO).cs)<|.ai (ae [.lk .str,.lk .sl,.lk .str] ((q2.hO).cs) 0 q2.tail)<|.ai (((q2.tail.drop 0).hO)=.cells ((q2.tail.drop 0).hO).cs)<|.ai (ae [.lk .str,.lk .sl,.lk .str] (((q2.tail.drop 0).hO).cs) 0 ((q2.tail.drop 0).tail))<|.done 0 [.cm [.agg [VS (((q2.hO).cs.getD 0 .any).toStr),((q2.hO).cs.getD 1 .any),VS (((q2.hO).cs.getD 2 .any).toStr)],VB true]] []) (fun y2 q2=>NB (y2.hA)<|.ai ((q2.hO)=.cells (q2.hO).cs)<|.ai (ae [.lk .str,.lk .sl,.lk .str] ((q2.hO).cs) 0 q2.tail)<|.done 0 [.cm [.agg [VS (((q2.hO).cs.getD 0 .any).toStr),((q2.hO).cs.getD 1 .any),VS (((q2.hO).cs.getD 2 .any).toStr)],VB ((y2.hA).toBool)]] [])
theorem UE(a0_0:ByteArray)(a0_1:AV)(a0_2:ByteArray)(ha0_1:LK.has .sl a0_1)(h:dq 20 (QK a0_0 a0_1 a0_2) R):aq Tryz.prog 92 [.agg [VS a0_0,a0_1,VS a0_2]] [] R :=
 uQ (ag (bX (ag (az _) (ag (bN ha0_1) (ag (az _) aC)))) aC) (oQ Qz Tryz.f92 h)
def Kf(o1_0:ByteArray)(o1_1:AV)(o1_2:ByteArray)(o2_0:ByteArray)(o2_1:AV)(o2_2:ByteArray):Tree :=
 .ai (Ob.cells [VS o1_0,o1_1,VS o1_2]=.cells [VS o1_0,o1_1,VS o1_2])<|.ai (ae [.lk .str,.lk .sl,.lk .str] [VS o1_0,o1_1,VS o1_2] 0 [.cells [VS o2_0,o2_1,VS o2_2]])<|.ai (Ob.cells [VS o2_0,o2_1,VS o2_2]=.cells [VS o2_0,o2_1,VS o2_2])<|.ai (ae [.lk .str,.lk .sl,.lk .str] [VS o2_0,o2_1,VS o2_2] 0 [])<|NL o1_1<|.test (decide ((o1_1.elems.length:Int)>(0:Int))) (.call 131 [.agg [VS o1_0,o1_1,VS o1_2]] [] fun r1 o1=>NT r1<|.ai ((r1.comp 0)=.agg (r1.comp 0).cs/\(r1.comp 0).cs.length=3/\bC [.str,.sl,.str] ((r1.comp 0).cs) 0)<|NB (r1.comp 1)<|.test (!((r1.comp 1).toBool)) (.done 2 [VB false] [.cells [VS o1_0,o1_1,VS o1_2]]) (.done 0 [] [.cells [VS (((r1.comp 0).cs.getD 0 .any).toStr),((r1.comp 0).cs.getD 1 .any),VS (((r1.comp 0).cs.getD 2 .any).toStr)],.cells [VS o2_0,o2_1,VS o2_2]])) (.done 1 [] [.cells [VS o1_0,o1_1,VS o1_2],.cells [VS o2_0,o2_1,VS o2_2]])
abbrev JO:=cF Tryz.prog 20 K1 Im
theorem Nq(o1_0:ByteArray)(o1_1:AV)(o1_2:ByteArray)(o2_0:ByteArray)(o2_1:AV)(o2_2:ByteArray)(h:kO 20 (Kf o1_0 o1_1 o1_2 o2_0 o2_1 o2_2) JO U):JO [] [.cells [VS o1_0,o1_1,VS o1_2],.cells [VS o2_0,o2_1,VS o2_2]] U :=
 gQ Qz h
def KM(a0:ByteArray)(a1:ByteArray):Tree :=
 .call 26 [VS a0] [] fun r1 o1=>NT r1<|.ai ((r1.comp 0)=.agg (r1.comp 0).cs/\(r1.comp 0).cs.length=2/\bC [.str,.sl] ((r1.comp 0).cs) 0)<|NB (r1.comp 1)<|.call 28 [VS a1] [] fun r2 o2=>NT r2<|.ai ((r2.comp 0)=.agg (r2.comp 0).cs/\(r2.comp 0).cs.length=2/\bC [.str,.sl] ((r2.comp 0).cs) 0)<|NB (r2.comp 1)<|.test (!((r1.comp 1).toBool)) (.done 0 [.cm [.sl [],VB false]] []) (.call 27 [VS a0,VS a1,VI 100] [] fun r3 o3=>NB r3<|.test (!r3.toBool) (.done 0 [.cm [.sl [],VB false]] []) (.call 132 [.agg [VS (((r1.comp 0).cs.getD 0 .any).toStr),((r1.comp 0).cs.getD 1 .any)],.agg [VS (((r2.comp 0).cs.getD 0 .any).toStr),((r2.comp 0).cs.getD 1 .any)],.sl [],.vec 0] [.vec 3 []] fun r4 o4=>.ai (r4=.vec 1/\(o4.tail.hO)=.vec 3 (o4.tail.hO).es)<|.done 0 [.cm [.sl ((o4.tail.hO).es),VB (decide ((((o4.tail.hO).es).length:Int)<=(100:Int)))]] []))
theorem RH(a0:ByteArray)(a1:ByteArray)(h:dq 39 (KM a0 a1) R):aq Tryz.prog 93 [VS a0,VS a1] [] R :=
 uQ (ag (az _) (ag (az _) aC)) (oQ [] Tryz.f93 h)
def KO(a0_0:AV)(a0_1:Int)(a1:AV):Tree :=
 NL a1<|.call 45 [.ref 0 0,VI (a1.elems.length:Int)] [.cells [a0_0,VI a0_1]] fun r1 o1=>.ai ((o1.hO)=.cells (o1.hO).cs)<|.ai (aH [.lk .sl,.lk (.int .i64)] ((o1.hO).cs) 0 1 o1.tail)<|NI r1<|.ai (LK.has .sl a1/\0<=r1.toInt/\r1.toInt<a1.elems.length/\(a1.elems.getD r1.toInt.toNat []).length=1)<|lL (a1.elems.getD r1.toInt.toNat [])<|.done 0 [VS (((a1.elems.getD r1.toInt.toNat []).hA).toStr)] [.cells [((o1.hO).cs.getD 0 .any),VI (((o1.hO).cs.getD 1 .any).toInt)]]
theorem Uc(a0_0:AV)(a0_1:Int)(a1:AV)(ha1:LK.has .sl a1)(ha0_0:LK.has .sl a0_0)(h:dq 12 (KO a0_0 a0_1 a1) R):aq Tryz.prog 94 [.ref 0 0,a1] [.cells [a0_0,VI a0_1]] R :=
 aq.oE (bG (cu (ag (bN ha0_0) (ag (az _) aC))) cH) (aq.up (ag (az _) (ag (bN ha1) aC)) (oF [] {mu:=[(0,.one (.obj [.lk .sl,.lk (.int .i64)]))],own:=[]} Tryz.f94 h))
def CF(a0_0:AV)(a0_1:Int)(a1_0:ByteArray)(a1_1:AV)(a2:Int):Tree :=
 .call 54 [.agg [VS a1_0,a1_1]] [] fun r1 o1=>NS r1<|.test (af r1.toStr==af (mk [43])) (.call 45 [.ref 0 0,VI 2] [.cells [a0_0,VI a0_1]] fun r2 o2=>.ai ((o2.hO)=.cells (o2.hO).cs)<|.ai (aH [.lk .sl,.lk (.int .i64)] ((o2.hO).cs) 0 1 o2.tail)<|NI r2<|NG a1_1 1 2<|NE (a1_1.ix (1:Int))<|.call 133 [.agg [VS (((a1_1.ix (1:Int)).getD 0 .any).toStr),((a1_1.ix (1:Int)).getD 1 .any)],.sl []] [] fun r3 o3=>NB r3<|.test r3.toBool (.test ((1:Int)==(0:Int)) (NG a1_1 1 2<|NE (a1_1.ix (1:Int))<|.call 95 [.ref 0 0,.agg [VS (((a1_1.ix (1:Int)).getD 0 .any).toStr),((a1_1.ix (1:Int)).getD 1 .any)],VI (IntKind.wrap .i64 (a2-1))] [.cells [((o2.hO).cs.getD 0 .any),VI (((o2.hO).cs.getD 1 .any).toInt)]] fun r4 o4=>.ai ((o4.hO)=.cells (o4.hO).cs)<|.ai (aH [.lk .sl,.lk (.int .i64)] ((o4.hO).cs) 0 1 o4.tail)<|NA r4<|.call 61 [VS (mk [108]),.sl [[VS ((r4.cs.getD 0 .any).toStr),(r4.cs.getD 1 .any)]]] [] fun r5 o5=>NA r5<|.done 0 [.agg [VS ((r5.cs.getD 0 .any).toStr),(r5.cs.getD 1 .any)]] [.cells [((o4.hO).cs.getD 0 .any),VI (((o4.hO).cs.getD 1 .any).toInt)]]) (NG a1_1 2 2<|NE (a1_1.ix (2:Int))<|.call 95 [.ref 0 0,.agg [VS (((a1_1.ix (2:Int)).getD 0 .any).toStr),((a1_1.ix (2:Int)).getD 1 .any)],VI (IntKind.wrap .i64 (a2-1))] [.cells [((o2.hO).cs.getD 0 .any),VI (((o2.hO).cs.getD 1 .any).toInt)]] fun r6 o6=>.ai ((o6.hO)=.cells (o6.hO).cs)<|.ai (aH [.lk .sl,.lk (.int .i64)] ((o6.hO).cs) 0 1 o6.tail)<|NA r6<|.call 61 [VS (mk [114]),.sl [[VS ((r6.cs.getD 0 .any).toStr),(r6.cs.getD 1 .any)]]] [] fun r7 o7=>NA r7<|.done 0 [.agg [VS ((r7.cs.getD 0 .any).toStr),(r7.cs.getD 1 .any)]] [.cells [((o6.hO).cs.getD 0 .any),VI (((o6.hO).cs.getD 1 .any).toInt)]])) (.test (decide (a2<=(0:Int))) (NG a1_1 1 2<|NE (a1_1.ix (1:Int))<|.call 134 [.agg [VS (((a1_1.ix (1:Int)).getD 0 .any).toStr),((a1_1.ix (1:Int)).getD 1 .any)]] [] fun r8 o8=>NI r8<|NG a1_1 2 2<|NE (a1_1.ix (2:Int))<|.call 134 [.agg [VS (((a1_1.ix (2:Int)).getD 0 .any).toStr),((a1_1.ix (2:Int)).getD 1 .any)]] [] fun r9 o9=>NI r9<|.test (decide (r8.toInt>r9.toInt)) (NG a1_1 2 2<|NE (a1_1.ix (2:Int))<|.call 133 [.agg [VS (((a1_1.ix (2:Int)).getD 0 .any).toStr),((a1_1.ix (2:Int)).getD 1 .any)],.sl []] [] fun r10 o10=>NB r10<|.test (!r10.toBool) (.test ((1:Int)==(0:Int)) (NG a1_1 1 2<|NE (a1_1.ix (1:Int))<|.call 95 [.ref 0 0,.agg [VS (((a1_1.ix (1:Int)).getD 0 .any).toStr),((a1_1.ix (1:Int)).getD 1 .any)],VI (IntKind.wrap .i64 (a2-1))] [.cells [((o2.hO).cs.getD 0 .any),VI (((o2.hO).cs.getD 1 .any).toInt)]] fun r11 o11=>.ai ((o11.hO)=.cells (o11.hO).cs)<|.ai (aH [.lk .sl,.lk (.int .i64)] ((o11.hO).cs) 0 1 o11.tail)<|NA r11<|.call 61 [VS (mk [108]),.sl [[VS ((r11.cs.getD 0 .any).toStr),(r11.cs.getD 1 .any)]]] [] fun r12 o12=>NA r12<|.done 0 [.agg [VS ((r12.cs.getD 0 .any).toStr),(r12.cs.getD 1 .any)]] [.cells [((o11.hO).cs.getD 0 .any),VI (((o11.hO).cs.getD 1 .any).toInt)]]) (NG a1_1 2 2<|NE (a1_1.ix (2:Int))<|.call 95 [.ref 0 0,.agg [VS (((a1_1.ix (2:Int)).getD 0 .any).toStr),((a1_1.ix (2:Int)).getD 1 .any)],VI (IntKind.wrap .i64 (a2-1))] [.cells [((o2.hO).cs.getD 0 .any),VI (((o2.hO).cs.getD 1 .any).toInt)]] fun r13 o13=>.ai ((o13.hO)=.cells (o13.hO).cs)<|.ai (aH [.lk .sl,.lk (.int .i64)] ((o13.hO).cs) 0 1 o13.tail)<|NA r13<|.call 61 [VS (mk [114]),.sl [[VS ((r13.cs.getD 0 .any).toStr),(r13.cs.getD 1 .any)]]] [] fun r14 o14=>NA r14<|.done 0 [.agg [VS ((r14.cs.getD 0 .any).toStr),(r14.cs.getD 1 .any)]] [.cells [((o13.hO).cs.getD 0 .any),VI (((o13.hO).cs.getD 1 .any).toInt)]])) (NG a1_1 2 2<|NE (a1_1.ix (2:Int))<|.call 133 [.agg [VS (((a1_1.ix (2:Int)).getD 0 .any).toStr),((a1_1.ix (2:Int)).getD 1 .any)],.sl []] [] fun r15 o15=>NB r15<|.test r15.toBool (.test ((0:Int)==(0:Int)) (NG a1_1 1 2<|NE (a1_1.ix (1:Int))<|.call 95 [.ref 0 0,.agg [VS (((a1_1.ix (1:Int)).getD 0 .any).toStr),((a1_1.ix (1:Int)).getD 1 .any)],VI (IntKind.wrap .i64 (a2-1))] [.cells [((o2.hO).cs.getD 0 .any),VI (((o2.hO).cs.getD 1 .any).toInt)]] fun r16 o16=>.ai ((o16.hO)=.cells (o16.hO).cs)<|.ai (aH [.lk .sl,.lk (.int .i64)] ((o16.hO).cs) 0 1 o16.tail)<|NA r16<|.call 61 [VS (mk [108]),.sl [[VS ((r16.cs.getD 0 .any).toStr),(r16.cs.getD 1 .any)]]] [] fun r17 o17=>NA r17<|.done 0 [.agg [VS ((r17.cs.getD 0 .any).toStr),(r17.cs.getD 1 .any)]] [.cells [((o16.hO).cs.getD 0 .any),VI (((o16.hO).cs.getD 1 .any).toInt)]]) (NG a1_1 2 2<|NE (a1_1.ix (2:Int))<|.call 95 [.ref 0 0,.agg [VS (((a1_1.ix (2:Int)).getD 0 .any).toStr),((a1_1.ix (2:Int)).getD 1 .any)],VI (IntKind.wrap .i64 (a2-1))] [.cells [((o2.hO).cs.getD 0 .any),VI (((o2.hO).cs.getD 1 .any).toInt)]] fun r18 o18=>.ai ((o18.hO)=.cells (o18.hO).cs)<|.ai (aH [.lk .sl,.lk (.int .i64)] ((o18.hO).cs) 0 1 o18.tail)<|NA r18<|.call 61 [VS (mk [114]),.sl [[VS ((r18.cs.getD 0 .any).toStr),(r18.cs.getD 1 .any)]]] [] fun r19 o19=>NA r19<|.done 0 [.agg [VS ((r19.cs.getD 0 .any).toStr),(r19.cs.getD 1 .any)]] [.cells [((o18.hO).cs.getD 0 .any),VI (((o18.hO).cs.getD 1 .any).toInt)]])) (.test (decide (a2<=(0:Int))) (.test ((0:Int)==(0:Int)) (NG a1_1 1 2<|NE (a1_1.ix (1:Int))<|.call 95 [.ref 0 0,.agg [VS (((a1_1.ix (1:Int)).getD 0 .any).toStr),((a1_1.ix (1:Int)).getD 1 .any)],VI (IntKind.wrap .i64 (a2-1))] [.cells [((o2.hO).cs.getD 0 .any),VI (((o2.hO).cs.getD 1 .any).toInt)]] fun r20 o20=>.ai ((o20.hO)=.cells (o20.hO).cs)<|.ai (aH [.lk .sl,.lk (.int .i64)] ((o20.hO).cs) 0 1 o20.tail)<|NA r20<|.call 61 [VS (mk [108]),.sl [[VS ((r20.cs.getD 0 .any).toStr),(r20.cs.getD 1 .any)]]] [] fun r21 o21=>NA r21<|.done 0 [.agg [VS ((r21.cs.getD 0 .any).toStr),(r21.cs.getD 1 .any)]] [.cells [((o20.hO).cs.getD 0 .any),VI (((o20.hO).cs.getD 1 .any).toInt)]]) (NG a1_1 2 2<|NE (a1_1.ix (2:Int))<|.call 95 [.ref 0 0,.agg [VS (((a1_1.ix (2:Int)).getD 0 .any).toStr),((a1_1.ix (2:Int)).getD 1 .any)],VI (IntKind.wrap .i64 (a2-1))] [.cells [((o2.hO).cs.getD 0 .any),VI (((o2.hO).cs.getD 1 .any).toInt)]] fun r22 o22=>.ai ((o22.hO)=.cells (o22.hO).cs)<|.ai (aH [.lk .sl,.lk (.int .i64)] ((o22.hO).cs) 0 1 o22.tail)<|NA r22<|.call 61 [VS (mk [114]),.sl [[VS ((r22.cs.getD 0 .any).toStr),(r22.cs.getD 1 .any)]]] [] fun r23 o23=>NA r23<|.done 0 [.agg [VS ((r23.cs.getD 0 .any).toStr),(r23.cs.getD 1 .any)]] [.cells [((o22.hO).cs.getD 0 .any),VI (((o22.hO).cs.getD 1 .any).toInt)]])) (.test (r2.toInt==(0:Int)) (NG a1_1 1 2<|NE (a1_1.ix (1:Int))<|.call 95 [.ref 0 0,.agg [VS (((a1_1.ix (1:Int)).getD 0 .any).toStr),((a1_1.ix (1:Int)).getD 1 .any)],VI (IntKind.wrap .i64 (a2-1))] [.cells [((o2.hO).cs.getD 0 .any),VI (((o2.hO).cs.getD 1 .any).toInt)]] fun r24 o24=>.ai ((o24.hO)=.cells (o24.hO).cs)<|.ai (aH [.lk .sl,.lk (.int .i64)] ((o24.hO).cs) 0 1 o24.tail)<|NA r24<|.call 61 [VS (mk [108]),.sl [[VS ((r24.cs.getD 0 .any).toStr),(r24.cs.getD 1 .any)]]] [] fun r25 o25=>NA r25<|.done 0 [.agg [VS ((r25.cs.getD 0 .any).toStr),(r25.cs.getD 1 .any)]] [.cells [((o24.hO).cs.getD 0 .any),VI (((o24.hO).cs.getD 1 .any).toInt)]]) (NG a1_1 2 2<|NE (a1_1.ix (2:Int))<|.call 95 [.ref 0 0,.agg [VS (((a1_1.ix (2:Int)).getD 0 .any).toStr),((a1_1.ix (2:Int)).getD 1 .any)],VI (IntKind.wrap .i64 (a2-1))] [.cells [((o2.hO).cs.getD 0 .any),VI (((o2.hO).cs.getD 1 .any).toInt)]] fun r26 o26=>.ai ((o26.hO)=.cells (o26.hO).cs)<|.ai (aH [.lk .sl,.lk (.int .i64)] ((o26.hO).cs) 0 1 o26.tail)<|NA r26<|.call 61 [VS (mk [114]),.sl [[VS ((r26.cs.getD 0 .any).toStr),(r26.cs.getD 1 .any)]]] [] fun r27 o27=>NA r27<|.done 0 [.agg [VS ((r27.cs.getD 0 .any).toStr),(r27.cs.getD 1 .any)]] [.cells [((o26.hO).cs.getD 0 .any),VI (((o26.hO).cs.getD 1 .any).toInt)]]))))) (NG a1_1 2 2<|NE (a1_1.ix (2:Int))<|.call 133 [.agg [VS (((a1_1.ix (2:Int)).getD 0 .any).toStr),((a1_1.ix (2:Int)).getD 1 .any)],.sl []] [] fun r28 o28=>NB r28<|.test r28.toBool (.test ((0:Int)==(0:Int)) (NG a1_1 1 2<|NE (a1_1.ix (1:Int))<|.call 95 [.ref 0 0,.agg [VS (((a1_1.ix (1:Int)).getD 0 .any).toStr),((a1_1.ix (1:Int)).getD 1 .any)],VI (IntKind.wrap .i64 (a2-1))] [.cells [((o2.hO).cs.getD 0 .any),VI (((o2.hO).cs.getD 1 .any).toInt)]] fun r29 o29=>.ai ((o29.hO)=.cells (o29.hO).cs)<|.ai (aH [.lk .sl,.lk (.int .i64)] ((o29.hO).cs) 0 1 o29.tail)<|NA r29<|.call 61 [VS (mk [108]),.sl [[VS ((r29.cs.getD 0 .any).toStr),(r29.cs.getD 1 .any)]]] [] fun r30 o30=>NA r30<|.done 0 [.agg [VS ((r30.cs.getD 0 .any).toStr),(r30.cs.getD 1 .any)]] [.cells [((o29.hO).cs.getD 0 .any),VI (((o29.hO).cs.getD 1 .any).toInt)]]) (NG a1_1 2 2<|NE (a1_1.ix (2:Int))<|.call 95 [.ref 0 0,.agg [VS (((a1_1.ix (2:Int)).getD 0 .any).toStr),((a1_1.ix (2:Int)).getD 1 .any)],VI (IntKind.wrap .i64 (a2-1))] [.cells [((o2.hO).cs.getD 0 .any),VI (((o2.hO).cs.getD 1 .any).toInt)]] fun r31 o31=>.ai ((o31.hO)=.cells (o31.hO).cs)<|.ai (aH [.lk .sl,.lk (.int .i64)] ((o31.hO).cs) 0 1 o31.tail)<|NA r31<|.call 61 [VS (mk [114]),.sl [[VS ((r31.cs.getD 0 .any).toStr),(r31.cs.getD 1 .any)]]] [] fun r32 o32=>NA r32<|.done 0 [.agg [VS ((r32.cs.getD 0 .any).toStr),(r32.cs.getD 1 .any)]] [.cells [((o31.hO).cs.getD 0 .any),VI (((o31.hO).cs.getD 1 .any).toInt)]])) (.test (decide (a2<=(0:Int))) (.test ((0:Int)==(0:Int)) (NG a1_1 1 2<|NE (a1_1.ix (1:Int))<|.call 95 [.ref 0 0,.agg [VS (((a1_1.ix (1:Int)).getD 0 .any).toStr),((a1_1.ix (1:Int)).getD 1 .any)],VI (IntKind.wrap .i64 (a2-1))] [.cells [((o2.hO).cs.getD 0 .any),VI (((o2.hO).cs.getD 1 .any).toInt)]] fun r33 o33=>.ai ((o33.hO)=.cells (o33.hO).cs)<|.ai (aH [.lk .sl,.lk (.int .i64)] ((o33.hO).cs) 0 1 o33.tail)<|NA r33<|.call 61 [VS (mk [108]),.sl [[VS ((r33.cs.getD 0 .any).toStr),(r33.cs.getD 1 .any)]]] [] fun r34 o34=>NA r34<|.done 0 [.agg [VS ((r34.cs.getD 0 .any).toStr),(r34.cs.getD 1 .any)]] [.cells [((o33.hO).cs.getD 0 .any),VI (((o33.hO).cs.getD 1 .any).toInt)]]) (NG a1_1 2 2<|NE (a1_1.ix (2:Int))<|.call 95 [.ref 0 0,.agg [VS (((a1_1.ix (2:Int)).getD 0 .any).toStr),((a1_1.ix (2:Int)).getD 1 .any)],VI (IntKind.wrap .i64 (a2-1))] [.cells [((o2.hO).cs.getD 0 .any),VI (((o2.hO).cs.getD 1 .any).toInt)]] fun r35 o35=>.ai ((o35.hO)=.cells (o35.hO).cs)<|.ai (aH [.lk .sl,.lk (.int .i64)] ((o35.hO).cs) 0 1 o35.tail)<|NA r35<|.call 61 [VS (mk [114]),.sl [[VS ((r35.cs.getD 0 .any).toStr),(r35.cs.getD 1 .any)]]] [] fun r36 o36=>NA r36<|.done 0 [.agg [VS ((r36.cs.getD 0 .any).toStr),(r36.cs.getD 1 .any)]] [.cells [((o35.hO).cs.getD 0 .any),VI (((o35.hO).cs.getD 1 .any).toInt)]])) (.test (r2.toInt==(0:Int)) (NG a1_1 1 2<|NE (a1_1.ix (1:Int))<|.call 95 [.ref 0 0,.agg [VS (((a1_1.ix (1:Int)).getD 0 .any).toStr),((a1_1.ix (1:Int)).getD 1 .any)],VI (IntKind.wrap .i64 (a2-1))] [.cells [((o2.hO).cs.getD 0 .any),VI (((o2.hO).cs.getD 1 .any).toInt)]] fun r37 o37=>.ai ((o37.hO)=.cells (o37.hO).cs)<|.ai (aH [.lk .sl,.lk (.int .i64)] ((o37.hO).cs) 0 1 o37.tail)<|NA r37<|.call 61 [VS (mk [108]),.sl [[VS ((r37.cs.getD 0 .any).toStr),(r37.cs.getD 1 .any)]]] [] fun r38 o38=>NA r38<|.done 0 [.agg [VS ((r38.cs.getD 0 .any).toStr),(r38.cs.getD 1 .any)]] [.cells [((o37.hO).cs.getD 0 .any),VI (((o37.hO).cs.getD 1 .any).toInt)]]) (NG a1_1 2 2<|NE (a1_1.ix (2:Int))<|.call 95 [.ref 0 0,.agg [VS (((a1_1.ix (2:Int)).getD 0 .any).toStr),((a1_1.ix (2:Int)).getD 1 .any)],VI (IntKind.wrap .i64 (a2-1))] [.cells [((o2.hO).cs.getD 0 .any),VI (((o2.hO).cs.getD 1 .any).toInt)]] fun r39 o39=>.ai ((o39.hO)=.cells (o39.hO).cs)<|.ai (aH [.lk .sl,.lk (.int .i64)] ((o39.hO).cs) 0 1 o39.tail)<|NA r39<|.call 61 [VS (mk [114]),.sl [[VS ((r39.cs.getD 0 .any).toStr),(r39.cs.getD 1 .any)]]] [] fun r40 o40=>NA r40<|.done 0 [.agg [VS ((r40.cs.getD 0 .any).toStr),(r40.cs.getD 1 .any)]] [.cells [((o39.hO).cs.getD 0 .any),VI (((o39.hO).cs.getD 1 .any).toInt)]]))))) (NG a1_1 2 2<|NE (a1_1.ix (2:Int))<|.call 133 [.agg [VS (((a1_1.ix (2:Int)).getD 0 .any).toStr),((a1_1.ix (2:Int)).getD 1 .any)],.sl []] [] fun r41 o41=>NB r41<|.test r41.toBool (.test ((0:Int)==(0:Int)) (NG a1_1 1 2<|NE (a1_1.ix (1:Int))<|.call 95 [.ref 0 0,.agg [VS (((a1_1.ix (1:Int)).getD 0 .any).toStr),((a1_1.ix (1:Int)).getD 1 .any)],VI (IntKind.wrap .i64 (a2-1))] [.cells [((o2.hO).cs.getD 0 .any),VI (((o2.hO).cs.getD 1 .any).toInt)]] fun r42 o42=>.ai ((o42.hO)=.cells (o42.hO).cs)<|.ai (aH [.lk .sl,.lk (.int .i64)] ((o42.hO).cs) 0 1 o42.tail)<|NA r42<|.call 61 [VS (mk [108]),.sl [[VS ((r42.cs.getD 0 .any).toStr),(r42.cs.getD 1 .any)]]] [] fun r43 o43=>NA r43<|.done 0 [.agg [VS ((r43.cs.getD 0 .any).toStr),(r43.cs.getD 1 .any)]] [.cells [((o42.hO).cs.getD 0 .any),VI (((o42.hO).cs.getD 1 .any).toInt)]]) (NG a1_1 2 2<|NE (a1_1.ix (2:Int))<|.call 95 [.ref 0 0,.agg [VS (((a1_1.ix (2:Int)).getD 0 .any).toStr),((a1_1.ix (2:Int)).getD 1 .any)],VI (IntKind.wrap .i64 (a2-1))] [.cells [((o2.hO).cs.getD 0 .any),VI (((o2.hO).cs.getD 1 .any).toInt)]] fun r44 o44=>.ai ((o44.hO)=.cells (o44.hO).cs)<|.ai (aH [.lk .sl,.lk (.int .i64)] ((o44.hO).cs) 0 1 o44.tail)<|NA r44<|.call 61 [VS (mk [114]),.sl [[VS ((r44.cs.getD 0 .any).toStr),(r44.cs.getD 1 .any)]]] [] fun r45 o45=>NA r45<|.done 0 [.agg [VS ((r45.cs.getD 0 .any).toStr),(r45.cs.getD 1 .any)]] [.cells [((o44.hO).cs.getD 0 .any),VI (((o44.hO).cs.getD 1 .any).toInt)]])) (.test (decide (a2<=(0:Int))) (.test ((0:Int)==(0:Int)) (NG a1_1 1 2<|NE (a1_1.ix (1:Int))<|.call 95 [.ref 0 0,.agg [VS (((a1_1.ix (1:Int)).getD 0 .any).toStr),((a1_1.ix (1:Int)).getD 1 .any)],VI (IntKind.wrap .i64 (a2-1))] [.cells [((o2.hO).cs.getD 0 .any),VI (((o2.hO).cs.getD 1 .any).toInt)]] fun r46 o46=>.ai ((o46.hO)=.cells (o46.hO).cs)<|.ai (aH [.lk .sl,.lk (.int .i64)] ((o46.hO).cs) 0 1 o46.tail)<|NA r46<|.call 61 [VS (mk [108]),.sl [[VS ((r46.cs.getD 0 .any).toStr),(r46.cs.getD 1 .any)]]] [] fun r47 o47=>NA r47<|.done 0 [.agg [VS ((r47.cs.getD 0 .any).toStr),(r47.cs.getD 1 .any)]] [.cells [((o46.hO).cs.getD 0 .any),VI (((o46.hO).cs.getD 1 .any).toInt)]]) (NG a1_1 2 2<|NE (a1_1.ix (2:Int))<|.call 95 [.ref 0 0,.agg [VS (((a1_1.ix (2:Int)).getD 0 .any).toStr),((a1_1.ix (2:Int)).getD 1 .any)],VI (IntKind.wrap .i64 (a2-1))] [.cells [((o2.hO).cs.getD 0 .any),VI (((o2.hO).cs.getD 1 .any).toInt)]] fun r48 o48=>.ai ((o48.hO)=.cells (o48.hO).cs)<|.ai (aH [.lk .sl,.lk (.int .i64)] ((o48.hO).cs) 0 1 o48.tail)<|NA r48<|.call 61 [VS (mk [114]),.sl [[VS ((r48.cs.getD 0 .any).toStr),(r48.cs.getD 1 .any)]]] [] fun r49 o49=>NA r49<|.done 0 [.agg [VS ((r49.cs.getD 0 .any).toStr),(r49.cs.getD 1 .any)]] [.cells [((o48.hO).cs.getD 0 .any),VI (((o48.hO).cs.getD 1 .any).toInt)]])) (.test (r2.toInt==(0:Int)) (NG a1_1 1 2<|NE (a1_1.ix (1:Int))<|.call 95 [.ref 0 0,.agg [VS (((a1_1.ix (1:Int)).getD 0 .any).toStr),((a1_1.ix (1:Int)).getD 1 .any)],VI (IntKind.wrap .i64 (a2-1))] [.cells [((o2.hO).cs.getD 0 .any),VI (((o2.hO).cs.getD 1 .any).toInt)]] fun r50 o50=>.ai ((o50.hO)=.cells (o50.hO).cs)<|.ai (aH [.lk .sl,.lk (.int .i64)] ((o50.hO).cs) 0 1 o50.tail)<|NA r50<|.call 61 [VS (mk [108]),.sl [[VS ((r50.cs.getD 0 .any).toStr),(r50.cs.getD 1 .any)]]] [] fun r51 o51=>NA r51<|.done 0 [.agg [VS ((r51.cs.getD 0 .any).toStr),(r51.cs.getD 1 .any)]] [.cells [((o50.hO).cs.getD 0 .any),VI (((o50.hO).cs.getD 1 .any).toInt)]]) (NG a1_1 2 2<|NE (a1_1.ix (2:Int))<|.call 95 [.ref 0 0,.agg [VS (((a1_1.ix (2:Int)).getD 0 .any).toStr),((a1_1.ix (2:Int)).getD 1 .any)],VI (IntKind.wrap .i64 (a2-1))] [.cells [((o2.hO).cs.getD 0 .any),VI (((o2.hO).cs.getD 1 .any).toInt)]] fun r52 o52=>.ai ((o52.hO)=.cells (o52.hO).cs)<|.ai (aH [.lk .sl,.lk (.int .i64)] ((o52.hO).cs) 0 1 o52.tail)<|NA r52<|.call 61 [VS (mk [114]),.sl [[VS ((r52.cs.getD 0 .any).toStr),(r52.cs.getD 1 .any)]]] [] fun r53 o53=>NA r53<|.done 0 [.agg [VS ((r53.cs.getD 0 .any).toStr),(r53.cs.getD 1 .any)]] [.cells [((o52.hO).cs.getD 0 .any),VI (((o52.hO).cs.getD 1 .any).toInt)]])))))) (.test (af r1.toStr==af (mk [42])) (NG a1_1 1 2<|NE (a1_1.ix (1:Int))<|.call 95 [.ref 0 0,.agg [VS (((a1_1.ix (1:Int)).getD 0 .any).toStr),((a1_1.ix (1:Int)).getD 1 .any)],VI (IntKind.wrap .i64 (a2-1))] [.cells [a0_0,VI a0_1]] fun r54 o54=>.ai ((o54.hO)=.cells (o54.hO).cs)<|.ai (aH [.lk .sl,.lk (.int .i64)] ((o54.hO).cs) 0 1 o54.tail)<|NA r54<|NG a1_1 2 2<|NE (a1_1.ix (2:Int))<|.call 95 [.ref 0 0,.agg [VS (((a1_1.ix (2:Int)).getD 0 .any).toStr),((a1_1.ix (2:Int)).getD 1 .any)],VI (IntKind.wrap .i64 (a2-1))] [.cells [((o54.hO).cs.getD 0 .any),VI (((o54.hO).cs.getD 1 .any).toInt)]] fun r55 o55=>.ai ((o55.hO)=.cells (o55.hO).cs)<|.ai (aH [.lk .sl,.lk (.int .i64)] ((o55.hO).cs) 0 1 o55.tail)<|NA r55<|.call 61 [VS (mk [112]),.sl [[VS ((r54.cs.getD 0 .any).toStr),(r54.cs.getD 1 .any)],[VS ((r55.cs.getD 0 .any).toStr),(r55.cs.getD 1 .any)]]] [] fun r56 o56=>NA r56<|.done 0 [.agg [VS ((r56.cs.getD 0 .any).toStr),(r56.cs.getD 1 .any)]] [.cells [((o55.hO).cs.getD 0 .any),VI (((o55.hO).cs.getD 1 .any).toInt)]]) (.test (af r1.toStr==af (mk [114,101,99])) (.call 135 [.agg [VS a1_0,a1_1]] [] fun r57 o57=>NT r57<|.ai ((r57.comp 0)=.agg (r57.comp 0).cs/\(r57.comp 0).cs.length=2/\bC [.str,.sl] ((r57.comp 0).cs) 0)<|NB (r57.comp 1)<|.test (!((r57.comp 1).toBool)) (.done 0 [.agg [VS (mk [117]),.v (.slice none 0 0)]] [.cells [a0_0,VI a0_1]]) (.test (decide (a2<((-12):Int))) (.done 0 [.agg [VS (mk [117]),.v (.slice none 0 0)]] [.cells [a0_0,VI a0_1]]) (.call 95 [.ref 0 0,.agg [VS (((r57.comp 0).cs.getD 0 .any).toStr),((r57.comp 0).cs.getD 1 .any)],VI (IntKind.wrap .i64 (a2-1))] [.cells [a0_0,VI a0_1]] fun r58 o58=>.ai ((o58.hO)=.cells (o58.hO).cs)<|.ai (aH [.lk .sl,.lk (.int .i64)] ((o58.hO).cs) 0 1 o58.tail)<|NA r58<|.call 61 [VS (mk [102]),.sl [[VS ((r58.cs.getD 0 .any).toStr),(r58.cs.getD 1 .any)]]] [] fun r59 o59=>NA r59<|.done 0 [.agg [VS ((r59.cs.getD 0 .any).toStr),(r59.cs.getD 1 .any)]] [.cells [((o58.hO).cs.getD 0 .any),VI (((o58.hO).cs.getD 1 .any).toInt)]]))) (.test (af a1_0==af (mk [49])) (.done 0 [.agg [VS (mk [117]),.v (.slice none 0 0)]] [.cells [a0_0,VI a0_1]]) (.call 45 [.ref 0 0,VI 3] [.cells [a0_0,VI a0_1]] fun r60 o60=>.ai ((o60.hO)=.cells (o60.hO).cs)<|.ai (aH [.lk .sl,.lk (.int .i64)] ((o60.hO).cs) 0 1 o60.tail)<|NI r60<|.call 136 [VI r60.toInt] [] fun r61 o61=>NS r61<|.ai (ah (mk [101])+ah r61.toStr<=9223372036854775807)<|.done 0 [.agg [VS (((mk [101]):ByteArray)++r61.toStr),.v (.slice none 0 0)]] [.cells [((o60.hO).cs.getD 0 .any),VI (((o60.hO).cs.getD 1 .any).toInt)]]))))
theorem FG(a0_0:AV)(a0_1:Int)(a1_0:ByteArray)(a1_1:AV)(a2:Int)(ha1_1:LK.has .sl a1_1)(ha0_0:LK.has .sl a0_0)(h:dq 132 (CF a0_0 a0_1 a1_0 a1_1 a2) R):aq Tryz.prog 95 [.ref 0 0,.agg [VS a1_0,a1_1],VI a2] [.cells [a0_0,VI a0_1]] R :=
 aq.oE (bG (cu (ag (bN ha0_0) (ag (az _) aC))) cH) (aq.up (ag (az _) (ag (bX (ag (az _) (ag (bN ha1_1) aC))) (ag (az _) aC))) (oF [] {mu:=[(0,.one (.obj [.lk .sl,.lk (.int .i64)]))],own:=[]} Tryz.f95 h))
def HA:LI:={hd:={bQ:=[(1,.k .sl),(6,.k (.int .i64))],refs:=[(2,2),(4,4)],cv:=[(2,[.lk .str,.lk .sl]),(4,[.lk .str,.lk .sl])],eV:=[(5,1)]},xs:={refs:=[(2,2),(4,4)],cv:=[(2,[.lk .str,.lk .sl]),(4,[.lk .str,.lk .sl])],eV:=[(5,1)]},rt:={},ex:=0}
def Lw:Code:=cL (cG Tryz.f96) 3
def KU:List (Nat×LI):=[(3,HA)]
def NF(a0_0:ByteArray)(a0_1:AV)(a1:AV):Tree :=
 .call 98 [.agg [VS a0_0,a0_1],.sl [],.vec 0] [.vec 1 []] fun r1 o1=>.ai (r1=.vec 1/\(o1.tail.hO)=.vec 1 (o1.tail.hO).es)<|.loop Lw HA [a1,VI 0] [.cells [VS a0_0,a0_1],.cells [VS (mk []),.v (.slice none 0 0)],.vec 1 ((o1.tail.hO).es)] (fun y3 q3=>.ai ((q3.hO)=.cells (q3.hO).cs)<|.ai (ae [.lk .str,.lk .sl] ((q3.hO).cs) 0 q3.tail)<|.ai (((q3.tail.drop 0).hO)=.cells ((q3.tail.drop 0).hO).cs)<|.ai (ae [.lk .str,.lk .sl] (((q3.tail.drop 0).hO).cs) 0 ((q3.tail.drop 0).tail))<|.ai (((q3.drop 2).hO)=.vec 1 ((q3.drop 2).hO).es)<|.call 137 [.agg [VS (((q3.hO).cs.getD 0 .any).toStr),((q3.hO).cs.getD 1 .any)],.sl [],.sl [],.ref 0 0] [.cells [.vec 1,VI 0],.vec 1 ((q3.tail.tail.hO).es)] fun r4 o4=>.ai ((o4.hO)=.cells (o4.hO).cs)<|.ai (aH [.vec 1,.lk (.int .i64)] ((o4.hO).cs) 0 1 o4.tail)<|NA r4<|.done 0 [.agg [VS ((r4.cs.getD 0 .any).toStr),(r4.cs.getD 1 .any)]] []) (fun y3 q3=>.fail)
theorem Uf(a0_0:ByteArray)(a0_1:AV)(a1:AV)(ha0_1:LK.has .sl a0_1)(ha1:LK.has .sl a1)(h:dq 33 (NF a0_0 a0_1 a1) R):aq Tryz.prog 96 [.agg [VS a0_0,a0_1],a1] [] R :=
 uQ (ag (bX (ag (az _) (ag (bN ha0_1) aC))) (ag (bN ha1) aC)) (oQ KU Tryz.f96 h)
def Il(x1:AV)(x6:Int)(o2_0:ByteArray)(o2_1:AV)(o4_0:ByteArray)(o4_1:AV)(e5:List (List AV)):Tree :=
 NL x1<|NI (VI x6)<|.ai (Ob.cells [VS o2_0,o2_1]=.cells [VS o2_0,o2_1])<|.ai (ae [.lk .str,.lk .sl] [VS o2_0,o2_1] 0 [.cells [VS o4_0,o4_1],.vec 1 e5])<|.ai (Ob.cells [VS o4_0,o4_1]=.cells [VS o4_0,o4_1])<|.ai (ae [.lk .str,.lk .sl] [VS o4_0,o4_1] 0 [.vec 1 e5])<|.ai (Ob.vec 1 e5=.vec 1 e5)<|NL x1<|.test (decide (x6<(x1.elems.length:Int))) (NG x1 x6 2<|NE (x1.ix x6)<|.call 98 [.agg [VS (((x1.ix x6).getD 0 .any).toStr),((x1.ix x6).getD 1 .any)],.sl [],.vec 0] [.vec 1 []] fun r1 o1=>.ai (r1=.vec 1/\(o1.tail.hO)=.vec 1 (o1.tail.hO).es)<|.ai (ck 1 ((o1.tail.hO).es)/\((e5.length)+((o1.tail.hO).es).length)*16<=140737488355328)<|.done 0 [x1,VI (IntKind.wrap .i64 (x6+1))] [.cells [VS o2_0,o2_1],.cells [VS o4_0,o4_1],.vec 1 (e5++((o1.tail.hO).es))]) (.done 1 [] [.cells [VS o2_0,o2_1],.cells [VS o4_0,o4_1],.vec 1 e5])
abbrev HM:=cF Tryz.prog 33 Lw HA
theorem Lu(x1:AV)(x6:Int)(o2_0:ByteArray)(o2_1:AV)(o4_0:ByteArray)(o4_1:AV)(e5:List (List AV))(h:kO 33 (Il x1 x6 o2_0 o2_1 o4_0 o4_1 e5) HM U):HM [x1,VI x6] [.cells [VS o2_0,o2_1],.cells [VS o4_0,o4_1],.vec 1 e5] U :=
 gQ KU h
def Q4(a0:ByteArray):Tree :=
 .call 57 [VS a0] [] fun r1 o1=>NT r1<|.ai ((r1.comp 0)=.agg (r1.comp 0).cs/\(r1.comp 0).cs.length=2/\bC [.str,.sl] ((r1.comp 0).cs) 0)<|NB (r1.comp 1)<|.test ((r1.comp 1).toBool) (.call 138 [.agg [VS (((r1.comp 0).cs.getD 0 .any).toStr),((r1.comp 0).cs.getD 1 .any)]] [] fun r2 o2=>NB r2<|.test r2.toBool (.call 134 [.agg [VS (((r1.comp 0).cs.getD 0 .any).toStr),((r1.comp 0).cs.getD 1 .any)]] [] fun r3 o3=>NI r3<|.done 0 [.cm [.agg [VS (((r1.comp 0).cs.getD 0 .any).toStr),((r1.comp 0).cs.getD 1 .any)],VB (decide (r3.toInt<=(400:Int)))]] []) (.done 0 [.cm [.agg [VS (((r1.comp 0).cs.getD 0 .any).toStr),((r1.comp 0).cs.getD 1 .any)],VB false]] [])) (.done 0 [.cm [.agg [VS (((r1.comp 0).cs.getD 0 .any).toStr),((r1.comp 0).cs.getD 1 .any)],VB false]] [])
theorem Sw(a0:ByteArray)(h:dq 22 (Q4 a0) R):aq Tryz.prog 97 [VS a0] [] R :=
 uQ (ag (az _) aC) (oQ [] Tryz.f97 h)
def yy(a0_0:ByteArray)(a0_1:AV)(a1:AV)(e2:List (List AV)):Tree :=
 .test (!(af a0_0==af (mk []))) (.test (af a0_0==af (mk [48])) (.done 0 [.vec 1] [.dead,.vec 1 e2]) (.test (af a0_0==af (mk [49])) (.done 0 [.vec 1] [.dead,.vec 1 e2]) (.call 139 [a1,VS a0_0] [] fun r1 o1=>NB r1<|.test r1.toBool (.done 0 [.vec 1] [.dead,.vec 1 e2]) (.call 139 [.sl e2,VS a0_0] [] fun r2 o2=>NB r2<|.test r2.toBool (.done 0 [.vec 1] [.dead,.vec 1 e2]) (.ai (ck 1 [[VS a0_0]]/\((e2.length)+([[VS a0_0]]:List (List AV)).length)*16<=140737488355328)<|.done 0 [.vec 1] [.dead,.vec 1 (e2++([[VS a0_0]]:List (List AV)))]))))) (.call 54 [.agg [VS a0_0,a0_1]] [] fun r3 o3=>NS r3<|.test (af r3.toStr==af (mk [114,101,99])) (NG a0_1 2 2<|NE (a0_1.ix (2:Int))<|NG a0_1 1 2<|lL (a0_1.ix (1:Int))<|.call 129 [a1,VS (((a0_1.ix (1:Int)).hA).toStr)] [] fun r4 o4=>.ai (r4=.vec 0/\(o4.hO)=.vec 1 (o4.hO).es)<|.ai (∀x,x∈o4->dI x)<|.call 98 [.agg [VS (((a0_1.ix (2:Int)).getD 0 .any).toStr),((a0_1.ix (2:Int)).getD 1 .any)],.sl ((o4.hO).es),.vec 0] [.vec 1 e2] fun r5 o5=>.ai (r5=.vec 1/\(o5.tail.hO)=.vec 1 (o5.tail.hO).es)<|.done 0 [.vec 1] [.dead,.vec 1 ((o5.tail.hO).es)]) (NG a0_1 2 2<|NE (a0_1.ix (2:Int))<|NG a0_1 1 2<|NE (a0_1.ix (1:Int))<|.call 98 [.agg [VS (((a0_1.ix (1:Int)).getD 0 .any).toStr),((a0_1.ix (1:Int)).getD 1 .any)],a1,.vec 0] [.vec 1 e2] fun r6 o6=>.ai (r6=.vec 1/\(o6.tail.hO)=.vec 1 (o6.tail.hO).es)<|.call 98 [.agg [VS (((a0_1.ix (2:Int)).getD 0 .any).toStr),((a0_1.ix (2:Int)).getD 1 .any)],a1,.vec 0] [.vec 1 ((o6.tail.hO).es)] fun r7 o7=>.ai (r7=.vec 1/\(o7.tail.hO)=.vec 1 (o7.tail.hO).es)<|.done 0 [.vec 1] [.dead,.vec 1 ((o7.tail.hO).es)]))
theorem BK(a0_0:ByteArray)(a0_1:AV)(a1:AV)(e2:List (List AV))(ha0_1:LK.has .sl a0_1)(ha1:LK.has .sl a1)(h:dq 65 (yy a0_0 a0_1 a1 e2) R):aq Tryz.prog 98 [.agg [VS a0_0,a0_1],a1,.vec 0] [.vec 1 e2] R :=
 aq.oE (bG (fV _) cH) (aq.up (ag (bX (ag (az _) (ag (bN ha0_1) aC))) (ag (bN ha1) (ag (az _) aC))) (oF [] {mu:=[(2,.one (.vec))],own:=[0]} Tryz.f98 h))
def K7(a0:ByteArray):Tree :=
 .call 140 [VS a0,.v (.int .u8 116),.v (.int .u8 116)] [] fun r1 o1=>NB r1<|.done 0 [VB r1.toBool] []
theorem UM(a0:ByteArray)(h:dq 5 (K7 a0) R):aq Tryz.prog 99 [VS a0] [] R :=
 uQ (ag (az _) aC) (oQ [] Tryz.f99 h)
def H8:LI:={hd:={bQ:=[(1,.k .sl),(6,.k (.int .i64))],refs:=[(2,2),(4,4)],cv:=[(2,[.lk .str,.lk .sl]),(4,[.lk .str,.lk .sl])]},xs:={bQ:=[(1,.k .sl)],refs:=[(2,2),(4,4)],cv:=[(2,[.lk .str,.lk .sl]),(4,[.lk .str,.lk .sl])]},rt:={bQ:=[(5,.k .sl)],refs:=[(4,4)],cv:=[(4,[.lk .str,.lk .sl])]},ex:=0}
def Ql:Code:=cL (cG Tryz.f100) 2
def Oy:List (Nat×LI):=[(2,H8)]
def Lx(a0_0:ByteArray)(a0_1:AV)(a1:AV):Tree :=
 NL a1<|.loop Ql H8 [a1,VI (IntKind.wrap .i64 ((a1.elems.length:Int)-1))] [.cells [VS a0_0,a0_1],.cells [VS (mk []),.v (.slice none 0 0)]] (fun y1 q1=>NL (y1.hA)<|.ai ((q1.hO)=.cells (q1.hO).cs)<|.ai (ae [.lk .str,.lk .sl] ((q1.hO).cs) 0 q1.tail)<|.ai (((q1.tail.drop 0).hO)=.cells ((q1.tail.drop 0).hO).cs)<|.ai (ae [.lk .str,.lk .sl] (((q1.tail.drop 0).hO).cs) 0 ((q1.tail.drop 0).tail))<|.done 0 [.cm [.agg [VS (((q1.hO).cs.getD 0 .any).toStr),((q1.hO).cs.getD 1 .any)],(y1.hA)]] []) (fun y1 q1=>NL (y1.hA)<|.ai ((q1.hO)=.cells (q1.hO).cs)<|.ai (ae [.lk .str,.lk .sl] ((q1.hO).cs) 0 q1.tail)<|.done 0 [.cm [.agg [VS (((q1.hO).cs.getD 0 .any).toStr),((q1.hO).cs.getD 1 .any)],(y1.hA)]] [])
theorem RY(a0_0:ByteArray)(a0_1:AV)(a1:AV)(ha0_1:LK.has .sl a0_1)(ha1:LK.has .sl a1)(h:dq 34 (Lx a0_0 a0_1 a1) R):aq Tryz.prog 100 [.agg [VS a0_0,a0_1],a1] [] R :=
 uQ (ag (bX (ag (az _) (ag (bN ha0_1) aC))) (ag (bN ha1) aC)) (oQ Oy Tryz.f100 h)
def Hy(x1:AV)(x6:Int)(o2_0:ByteArray)(o2_1:AV)(o4_0:ByteArray)(o4_1:AV):Tree :=
 NL x1<|NI (VI x6)<|.ai (Ob.cells [VS o2_0,o2_1]=.cells [VS o2_0,o2_1])<|.ai (ae [.lk .str,.lk .sl] [VS o2_0,o2_1] 0 [.cells [VS o4_0,o4_1]])<|.ai (Ob.cells [VS o4_0,o4_1]=.cells [VS o4_0,o4_1])<|.ai (ae [.lk .str,.lk .sl] [VS o4_0,o4_1] 0 [])<|.test (decide (x6≥(0:Int))) (NG x1 x6 4<|lL (x1.ix x6)<|.test (af (((x1.ix x6).hA).toStr)==af o2_0) (NG x1 x6 4<|NE ((x1.ix x6).drop 1)<|NG x1 x6 4<|oH ((x1.ix x6).drop 3)<|.done 2 [(((x1.ix x6).drop 3).hA)] [.cells [VS ((((x1.ix x6).drop 1).getD 0 .any).toStr),(((x1.ix x6).drop 1).getD 1 .any)]]) (.done 0 [x1,VI (IntKind.wrap .i64 (x6-1))] [.cells [VS o2_0,o2_1],.cells [VS o4_0,o4_1]])) (.done 1 [x1] [.cells [VS o2_0,o2_1],.cells [VS o4_0,o4_1]])
abbrev G6:=cF Tryz.prog 34 Ql H8
theorem P5(x1:AV)(x6:Int)(o2_0:ByteArray)(o2_1:AV)(o4_0:ByteArray)(o4_1:AV)(h:kO 34 (Hy x1 x6 o2_0 o2_1 o4_0 o4_1) G6 U):G6 [x1,VI x6] [.cells [VS o2_0,o2_1],.cells [VS o4_0,o4_1]] U :=
 gQ Oy h
def KR(a0:ByteArray):Tree :=
 .call 140 [VS a0,.v (.int .u8 120),.v (.int .u8 122)] [] fun r1 o1=>NB r1<|.done 0 [VB r1.toBool] []
theorem R8(a0:ByteArray)(h:dq 5 (KR a0) R):aq Tryz.prog 101 [VS a0] [] R :=
 uQ (ag (az _) aC) (oQ [] Tryz.f101 h)
def Cb:LI:={hd:={bQ:=[(0,.k .str),(3,.k (.int .i64)),(4,.k (.int .i64))]},xs:={bQ:=[(3,.k (.int .i64))]},rt:={bQ:=[(2,.k (.int .i64))]},ex:=0}
def EI:Code:=cL (cG Tryz.f102) 5
def QT:List (Nat×LI):=[(5,Cb)]
def Pu(a0:ByteArray):Tree :=
 .call 55 [VI (ah a0:Int),VI 2,VI 3] [] fun r1 o1=>NB r1<|.test (!r1.toBool) (.done 0 [VI (-1)] []) (.ai (0<=(0:Int)/\(0:Int)<ah a0)<|.test ((bt a0 0) != (101:Int)) (.done 0 [VI (-1)] []) (.test ((ah a0:Int)==(3:Int)) (.ai (0<=(1:Int)/\(1:Int)<ah a0)<|.test ((bt a0 1)==(48:Int)) (.done 0 [VI (-1)] []) (.loop EI Cb [VS a0,VI 0,VI 1] [] (fun y2 q2=>NI (y2.hA)<|.done 0 [VI ((y2.hA).toInt)] []) (fun y2 q2=>NI (y2.hA)<|.done 0 [VI ((y2.hA).toInt)] []))) (.loop EI Cb [VS a0,VI 0,VI 1] [] (fun y3 q3=>NI (y3.hA)<|.done 0 [VI ((y3.hA).toInt)] []) (fun y3 q3=>NI (y3.hA)<|.done 0 [VI ((y3.hA).toInt)] []))))
theorem Ux(a0:ByteArray)(h:dq 49 (Pu a0) R):aq Tryz.prog 102 [VS a0] [] R :=
 uQ (ag (az _) aC) (oQ QT Tryz.f102 h)
def H0(x0:ByteArray)(x3:Int)(x4:Int):Tree :=
 NS (VS x0)<|NI (VI x3)<|NI (VI x4)<|.test (decide (x4<(ah x0:Int))) (.ai (0<=x4/\x4<ah x0)<|.test (decide ((bt x0 x4)<(48:Int))) (.done 2 [VI (-1)] []) (.ai (0<=x4/\x4<ah x0)<|.test (decide ((bt x0 x4)>(57:Int))) (.done 2 [VI (-1)] []) (.ai (0<=x4/\x4<ah x0)<|.done 0 [VS x0,VI (IntKind.wrap .i64 ((IntKind.wrap .i64 (10*x3))+(IntKind.wrap .i64 (IntKind.wrap .u8 ((bt x0 x4)-48))))),VI (IntKind.wrap .i64 (x4+1))] []))) (.done 1 [VI x3] [])
abbrev Hd:=cF Tryz.prog 49 EI Cb
theorem LU(x0:ByteArray)(x3:Int)(x4:Int)(h:kO 49 (H0 x0 x3 x4) Hd U):Hd [VS x0,VI x3,VI x4] [] U :=
 gQ QT h
def LW(a0_0:ByteArray)(a0_1:AV)(a1:AV):Tree :=
 NG a0_1 2 2<|NE (a0_1.ix (2:Int))<|.ai (LK.has .sl a1/\ck 4 a1.elems/\((([]:List (List AV)).length)+a1.elems.length)*80<=140737488355328)<|NG a0_1 1 2<|lL (a0_1.ix (1:Int))<|.ai (ck 4 [[VS (((a0_1.ix (1:Int)).hA).toStr),VS a0_0,a0_1,a1]]/\(((([]:List (List AV))++a1.elems).length)+([[VS (((a0_1.ix (1:Int)).hA).toStr),VS a0_0,a0_1,a1]]:List (List AV)).length)*80<=140737488355328)<|.done 0 [.cm [.agg [VS (((a0_1.ix (2:Int)).getD 0 .any).toStr),((a0_1.ix (2:Int)).getD 1 .any)],.sl ((([]:List (List AV))++a1.elems)++([[VS (((a0_1.ix (1:Int)).hA).toStr),VS a0_0,a0_1,a1]]:List (List AV)))]] []
theorem Uz(a0_0:ByteArray)(a0_1:AV)(a1:AV)(ha0_1:LK.has .sl a0_1)(ha1:LK.has .sl a1)(h:dq 23 (LW a0_0 a0_1 a1) R):aq Tryz.prog 103 [.agg [VS a0_0,a0_1],a1] [] R :=
 uQ (ag (bX (ag (az _) (ag (bN ha0_1) aC))) (ag (bN ha1) aC)) (oQ [] Tryz.f103 h)
def JV:LI:={hd:={bQ:=[(0,.k .str),(1,.k (.int .i64)),(9,.k (.int .i64))],refs:=[(6,6),(8,8)],cv:=[(6,[.lk .str,.lk .sl]),(8,[.lk .str,.lk .sl])]},xs:={bQ:=[(0,.k .str),(1,.k (.int .i64)),(9,.k (.int .i64))],refs:=[(6,6),(8,8)],cv:=[(6,[.lk .str,.lk .sl]),(8,[.lk .str,.lk .sl])]},rt:={},ex:=0}
def Re:Code:=cL (cG Tryz.f104) 6
def JF:LI:={hd:={bQ:=[(0,.k .str),(1,.k (.int .i64)),(2,.k (.int .i64))],refs:=[(6,6),(8,8)],cv:=[(6,[.lk .str,.lk .sl]),(8,[.lk .str,.vec 2])]},xs:={},rt:={bQ:=[(7,.k (.int .i64))],refs:=[(6,6)],cv:=[(6,[.lk .str,.vec 2])]},ex:=999}
def Nv:Code:=cL (cG Tryz.f104) 12
def Jv:List (Nat×LI):=[(6,JV),(12,JF)]
def Ky(a0:ByteArray)(a1:Int)(a2:Int):Tree :=
 .test (decide (a2>(300:Int))) (.done 0 [.cm [.agg [VS (mk []),.v (.slice none 0 0)],VI (-1)]] []) (.test (decide (a1≥(ah a0:Int))) (.done 0 [.cm [.agg [VS (mk []),.v (.slice none 0 0)],VI (-1)]] []) (.ai (0<=a1/\a1<ah a0)<|.test ((bt a0 a1) != (40:Int)) (.loop Re JV [VS a0,VI a1,VI a1] [.cells [VS (mk []),.v (.slice none 0 0)],.cells [VS (mk []),.v (.slice none 0 0)]] (fun y2 q2=>NS (y2.hA)<|NI (y2.tail.hA)<|NI (y2.tail.tail.hA)<|.ai ((q2.hO)=.cells (q2.hO).cs)<|.ai (ae [.lk .str,.lk .sl] ((q2.hO).cs) 0 q2.tail)<|.ai (((q2.tail.drop 0).hO)=.cells ((q2.tail.drop 0).hO).cs)<|.ai (ae [.lk .str,.lk .sl] (((q2.tail.drop 0).hO).cs) 0 ((q2.tail.drop 0).tail))<|.ai (0<=((y2.tail.tail.hA).toInt)/\((y2.tail.tail.hA).toInt)<=((y2.tail.hA).toInt)/\((y2.tail.hA).toInt)<=(ah ((y2.hA).toStr):Int))<|.test (af (cz ((y2.hA).toStr) (bK ((y2.tail.tail.hA).toInt)) (bK ((y2.tail.hA).toInt)))==af (mk [])) (.done 0 [.cm [.agg [VS (cz ((y2.hA).toStr) (bK ((y2.tail.tail.hA).toInt)) (bK ((y2.tail.hA).toInt))),((q2.tail.hO).cs.getD 1 .any)],VI (-1)]] []) (.done 0 [.cm [.agg [VS (cz ((y2.hA).toStr) (bK ((y2.tail.tail.hA).toInt)) (bK ((y2.tail.hA).toInt))),((q2.tail.hO).cs.getD 1 .any)],VI ((y2.tail.hA).toInt)]] [])) (fun y2 q2=>.fail)) (.loop Nv JF [VS a0,VI a1,VI a2] [.cells [VS (mk []),.v (.slice none 0 0)],.cells [VS (mk []),.any],.vec 2 []] (fun y5 q5=>.fail) (fun y5 q5=>NI (y5.hA)<|.ai ((q5.hO)=.cells (q5.hO).cs)<|.ai (ae [.lk .str,.vec 2] ((q5.hO).cs) 0 q5.tail)<|.done 0 [.cm [.agg [VS (((q5.hO).cs.getD 0 .any).toStr),.sl ((q5.tail.hO).es)],VI ((y5.hA).toInt)]] []))))
theorem QU(a0:ByteArray)(a1:Int)(a2:Int)(h:dq 87 (Ky a0 a1 a2) R):aq Tryz.prog 104 [VS a0,VI a1,VI a2] [] R :=
 uQ (ag (az _) (ag (az _) (ag (az _) aC))) (oQ Jv Tryz.f104 h)
def Iy(x0:ByteArray)(x1:Int)(x9:Int)(o6_0:ByteArray)(o6_1:AV)(o8_0:ByteArray)(o8_1:AV):Tree :=
 NS (VS x0)<|NI (VI x1)<|NI (VI x9)<|.ai (Ob.cells [VS o6_0,o6_1]=.cells [VS o6_0,o6_1])<|.ai (ae [.lk .str,.lk .sl] [VS o6_0,o6_1] 0 [.cells [VS o8_0,o8_1]])<|.ai (Ob.cells [VS o8_0,o8_1]=.cells [VS o8_0,o8_1])<|.ai (ae [.lk .str,.lk .sl] [VS o8_0,o8_1] 0 [])<|.test (decide (x1<(ah x0:Int))) (.ai (0<=x1/\x1<ah x0)<|.call 141 [.v (.int .u8 (bt x0 x1))] [] fun r1 o1=>NB r1<|.test r1.toBool (.done 0 [VS x0,VI (IntKind.wrap .i64 (x1+1)),VI x9] [.cells [VS o6_0,o6_1],.cells [VS o8_0,o8_1]]) (.done 1 [VS x0,VI x1,VI x9] [.cells [VS o6_0,o6_1],.cells [VS o8_0,o8_1]])) (.done 1 [VS x0,VI x1,VI x9] [.cells [VS o6_0,o6_1],.cells [VS o8_0,o8_1]])
abbrev Iw:=cF Tryz.prog 87 Re JV
theorem QJ(x0:ByteArray)(x1:Int)(x9:Int)(o6_0:ByteArray)(o6_1:AV)(o8_0:ByteArray)(o8_1:AV)(h:kO 87 (Iy x0 x1 x9 o6_0 o6_1 o8_0 o8_1) Iw U):Iw [VS x0,VI x1,VI x9] [.cells [VS o6_0,o6_1],.cells [VS o8_0,o8_1]] U :=
 gQ Jv h
def Qj(x0:ByteArray)(x1:Int)(x2:Int)(o6_0:ByteArray)(o6_1:AV)(o8_0:ByteArray)(o8_1:List (List AV)):Tree :=
 NS (VS x0)<|NI (VI x1)<|NI (VI x2)<|.ai (Ob.cells [VS o6_0,o6_1]=.cells [VS o6_0,o6_1])<|.ai (ae [.lk .str,.lk .sl] [VS o6_0,o6_1] 0 [.cells [VS o8_0,.any],.vec 2 o8_1])<|.ai (Ob.cells [VS o8_0,.any]=.cells [VS o8_0,.any])<|.ai (ae [.lk .str,.vec 2] [VS o8_0,.any] 0 [.vec 2 o8_1])<|.call 104 [VS x0,VI (IntKind.wrap .i64 (x1+1)),VI (IntKind.wrap .i64 (x2+1))] [] fun r1 o1=>NT r1<|.ai ((r1.comp 0)=.agg (r1.comp 0).cs/\(r1.comp 0).cs.length=2/\bC [.str,.sl] ((r1.comp 0).cs) 0)<|NI (r1.comp 1)<|.test (decide (((r1.comp 1).toInt)<(0:Int))) (.done 2 [VI (-1)] [.cells [VS o8_0,.any],.vec 2 o8_1]) (.test (decide (((r1.comp 1).toInt)≥(ah x0:Int))) (.done 2 [VI (-1)] [.cells [VS o8_0,.any],.vec 2 o8_1]) (.ai (ck 2 [[VS (((r1.comp 0).cs.getD 0 .any).toStr),((r1.comp 0).cs.getD 1 .any)]]/\((o8_1.length)+([[VS (((r1.comp 0).cs.getD 0 .any).toStr),((r1.comp 0).cs.getD 1 .any)]]:List (List AV)).length)*40<=140737488355328)<|.ai (0<=((r1.comp 1).toInt)/\((r1.comp 1).toInt)<ah x0)<|.test ((bt x0 ((r1.comp 1).toInt))==(41:Int)) (.done 2 [VI (IntKind.wrap .i64 (((r1.comp 1).toInt)+1))] [.cells [VS o8_0,.any],.vec 2 (o8_1++([[VS (((r1.comp 0).cs.getD 0 .any).toStr),((r1.comp 0).cs.getD 1 .any)]]:List (List AV)))]) (.ai (0<=((r1.comp 1).toInt)/\((r1.comp 1).toInt)<ah x0)<|.test ((bt x0 ((r1.comp 1).toInt)) != (32:Int)) (.done 2 [VI (-1)] [.cells [VS o8_0,.any],.vec 2 (o8_1++([[VS (((r1.comp 0).cs.getD 0 .any).toStr),((r1.comp 0).cs.getD 1 .any)]]:List (List AV)))]) (.done 0 [VS x0,VI ((r1.comp 1).toInt),VI x2] [.cells [VS o6_0,o6_1],.cells [VS o8_0,.any],.vec 2 (o8_1++([[VS (((r1.comp 0).cs.getD 0 .any).toStr),((r1.comp 0).cs.getD 1 .any)]]:List (List AV)))]))))
abbrev I1:=cF Tryz.prog 87 Nv JF
theorem Sy(x0:ByteArray)(x1:Int)(x2:Int)(o6_0:ByteArray)(o6_1:AV)(o8_0:ByteArray)(o8_1:List (List AV))(h:kO 87 (Qj x0 x1 x2 o6_0 o6_1 o8_0 o8_1) I1 U):I1 [VS x0,VI x1,VI x2] [.cells [VS o6_0,o6_1],.cells [VS o8_0,.any],.vec 2 o8_1] U :=
 gQ Jv h
def LP(a0_0:AV)(a0_1:Int):Tree :=
 .call 45 [.ref 0 0,VI 8] [.cells [a0_0,VI a0_1]] fun r1 o1=>.ai ((o1.hO)=.cells (o1.hO).cs)<|.ai (aH [.lk .sl,.lk (.int .i64)] ((o1.hO).cs) 0 1 o1.tail)<|NI r1<|.test (r1.toInt==(0:Int)) (.call 142 [.ref 0 0] [.cells [((o1.hO).cs.getD 0 .any),VI (((o1.hO).cs.getD 1 .any).toInt)]] fun r2 o2=>.ai ((o2.hO)=.cells (o2.hO).cs)<|.ai (aH [.lk .sl,.lk (.int .i64)] ((o2.hO).cs) 0 1 o2.tail)<|NS r2<|.done 0 [VS r2.toStr] [.cells [((o2.hO).cs.getD 0 .any),VI (((o2.hO).cs.getD 1 .any).toInt)]]) (.test (r1.toInt==(1:Int)) (.call 143 [.ref 0 0,.sl [],VI 3] [.cells [((o1.hO).cs.getD 0 .any),VI (((o1.hO).cs.getD 1 .any).toInt)]] fun r3 o3=>.ai ((o3.hO)=.cells (o3.hO).cs)<|.ai (aH [.lk .sl,.lk (.int .i64)] ((o3.hO).cs) 0 1 o3.tail)<|NS r3<|.done 0 [VS r3.toStr] [.cells [((o3.hO).cs.getD 0 .any),VI (((o3.hO).cs.getD 1 .any).toInt)]]) (.test (r1.toInt==(2:Int)) (.call 143 [.ref 0 0,.sl [],VI 3] [.cells [((o1.hO).cs.getD 0 .any),VI (((o1.hO).cs.getD 1 .any).toInt)]] fun r4 o4=>.ai ((o4.hO)=.cells (o4.hO).cs)<|.ai (aH [.lk .sl,.lk (.int .i64)] ((o4.hO).cs) 0 1 o4.tail)<|NS r4<|.done 0 [VS r4.toStr] [.cells [((o4.hO).cs.getD 0 .any),VI (((o4.hO).cs.getD 1 .any).toInt)]]) (.test (r1.toInt==(3:Int)) (.call 143 [.ref 0 0,.sl [],VI 3] [.cells [((o1.hO).cs.getD 0 .any),VI (((o1.hO).cs.getD 1 .any).toInt)]] fun r5 o5=>.ai ((o5.hO)=.cells (o5.hO).cs)<|.ai (aH [.lk .sl,.lk (.int .i64)] ((o5.hO).cs) 0 1 o5.tail)<|NS r5<|.done 0 [VS r5.toStr] [.cells [((o5.hO).cs.getD 0 .any),VI (((o5.hO).cs.getD 1 .any).toInt)]]) (.call 68 [.ref 0 0] [.cells [((o1.hO).cs.getD 0 .any),VI (((o1.hO).cs.getD 1 .any).toInt)]] fun r6 o6=>.ai ((o6.hO)=.cells (o6.hO).cs)<|.ai (aH [.lk .sl,.lk (.int .i64)] ((o6.hO).cs) 0 1 o6.tail)<|NS r6<|.done 0 [VS r6.toStr] [.cells [((o6.hO).cs.getD 0 .any),VI (((o6.hO).cs.getD 1 .any).toInt)]]))))
theorem TL(a0_0:AV)(a0_1:Int)(ha0_0:LK.has .sl a0_0)(h:dq 18 (LP a0_0 a0_1) R):aq Tryz.prog 105 [.ref 0 0] [.cells [a0_0,VI a0_1]] R :=
 aq.oE (bG (cu (ag (bN ha0_0) (ag (az _) aC))) cH) (aq.up (ag (az _) aC) (oF [] {mu:=[(0,.one (.obj [.lk .sl,.lk (.int .i64)]))],own:=[]} Tryz.f105 h))
def Fk(a0_0:ByteArray)(a0_1:AV)(a1_0:AV)(a1_1:AV):Tree :=
 NP a0_1<|.test (!a0_1.isNil) (NZ a1_0<|NZ a1_0<|.ai (LK.has (.int .u8) (a1_0.deref.hA)/\1<=a1_0.deref.length)<|.test (((a1_0.deref.hA).toInt)==(98:Int)) (.call 127 [.agg [a1_0,a1_1]] [] fun r1 o1=>NP r1<|.ai (AV.tD r1/\AV.tD a0_1)<|.done 0 [VB (AV.DG r1 a0_1)] []) (.done 0 [VB false] [])) (NZ a1_0<|NZ a1_0<|.ai (LK.has (.int .u8) (a1_0.deref.hA)/\1<=a1_0.deref.length)<|.test (((a1_0.deref.hA).toInt)==(110:Int)) (NZ a1_0<|NZ a1_0<|lL (a1_0.deref.drop 1)<|.done 0 [VB (af (((a1_0.deref.drop 1).hA).toStr)==af a0_0)] []) (.done 0 [VB false] []))
theorem RQ(a0_0:ByteArray)(a0_1:AV)(a1_0:AV)(a1_1:AV)(ha0_1:LK.has .ptr a0_1)(ha1_0:LK.has .ptr a1_0)(ha1_1:LK.has .ptr a1_1)(h:dq 37 (Fk a0_0 a0_1 a1_0 a1_1) R):aq Tryz.prog 106 [.agg [VS a0_0,a0_1],.agg [a1_0,a1_1]] [] R :=
 uQ (ag (bX (ag (az _) (ag (bI ha0_1) aC))) (ag (bX (ag (bI ha1_0) (ag (bI ha1_1) aC))) aC)) (oQ [] Tryz.f106 h)
def I8:LI:={hd:={bQ:=[(7,.k .sl),(8,.k (.int .i64)),(9,.k (.int .i64))],refs:=[(2,1)],cv:=[(0,[.lk .ptr]),(1,[.vec 2])],fns:=[(1,110,[0])]},xs:={cv:=[(0,[.lk .ptr]),(1,[.vec 2])]},rt:={cv:=[(0,[.lk .ptr]),(1,[.vec 2])]},ex:=0,fx:=[0,1]}
def Nw:Code:=cL (cG Tryz.f107) 1
def LB:List (Nat×LI):=[(1,I8)]
def Pe(a0:AV)(a1_0_0:AV)(e2_0:List (List AV)):Tree :=
 NL a0<|.loop Nw I8 [a0,VI (a0.elems.length:Int),VI 0] [.cells [a1_0_0],.cells [.any],.vec 2 e2_0] (fun y2 q2=>.ai ((q2.hO)=.cells (q2.hO).cs)<|.ai (ae [.lk .ptr] ((q2.hO).cs) 0 q2.tail)<|.ai (((q2.tail.drop 0).hO)=.cells ((q2.tail.drop 0).hO).cs)<|.ai (ae [.vec 2] (((q2.tail.drop 0).hO).cs) 0 ((q2.tail.drop 0).tail))<|.done 0 [.any] [.cells [((q2.hO).cs.getD 0 .any)],.cells [.vec 2],.vec 2 ((q2.tail.tail.hO).es)]) (fun y2 q2=>.ai ((q2.hO)=.cells (q2.hO).cs)<|.ai (ae [.lk .ptr] ((q2.hO).cs) 0 q2.tail)<|.ai (((q2.tail.drop 0).hO)=.cells ((q2.tail.drop 0).hO).cs)<|.ai (ae [.vec 2] (((q2.tail.drop 0).hO).cs) 0 ((q2.tail.drop 0).tail))<|.done 0 [.any] [.cells [((q2.hO).cs.getD 0 .any)],.cells [.vec 2],.vec 2 ((q2.tail.tail.hO).es)])
theorem UP(a0:AV)(a1_0_0:AV)(e2_0:List (List AV))(ha0:LK.has .sl a0)(ha1_0_0:LK.has .ptr a1_0_0)(h:dq 24 (Pe a0 a1_0_0 e2_0) R):aq Tryz.prog 107 [a0,.fn 110 [.ref 0 0],.ref 1 0] [.cells [a1_0_0],.cells [.vec 2],.vec 2 e2_0] R :=
 aq.oE (bG (cu (ag (bI ha1_0_0) aC)) (bG (cu (ag (az _) aC)) (bG (fV _) cH))) (aq.up (ag (bN ha0) (ag (az _) (ag (az _) aC))) (oF LB {mu:=[(1,.fn [some (.obj [.lk .ptr])]),(2,.one (.obj [.vec 2]))],own:=[]} Tryz.f107 h))
def HS(x7:AV)(x8:Int)(x9:Int)(o0_0:AV)(o1_0:List (List AV)):Tree :=
 NL x7<|NI (VI x8)<|NI (VI x9)<|.ai (Ob.cells [o0_0]=.cells [o0_0])<|.ai (ae [.lk .ptr] [o0_0] 0 [.cells [.any],.vec 2 o1_0])<|.ai (Ob.cells [.any]=.cells [.any])<|.ai (ae [.vec 2] [.any] 0 [.vec 2 o1_0])<|.test (decide (x9<x8)) (NG x7 x9 2<|.ai (bC [.ptr,.ptr] (x7.ix x9) 0/\2<=(x7.ix x9).length)<|.call 110 [((x7.ix x9).getD 0 .any),.ref 0 0] [.cells [o0_0]] fun r1 o1=>.ai ((o1.hO)=.cells (o1.hO).cs)<|.ai (aH [.lk .ptr] ((o1.hO).cs) 0 1 o1.tail)<|NP r1<|.ai (ck 2 [[r1,((x7.ix x9).getD 1 .any)]]/\((o1_0.length)+([[r1,((x7.ix x9).getD 1 .any)]]:List (List AV)).length)*16<=140737488355328)<|.done 0 [x7,VI x8,VI (IntKind.wrap .i64 (x9+1))] [.cells [((o1.hO).cs.getD 0 .any)],.cells [.any],.vec 2 (o1_0++([[r1,((x7.ix x9).getD 1 .any)]]:List (List AV)))]) (.done 1 [] [.cells [o0_0],.cells [.any],.vec 2 o1_0])
abbrev Jp:=cF Tryz.prog 24 Nw I8
theorem Oe(x7:AV)(x8:Int)(x9:Int)(o0_0:AV)(o1_0:List (List AV))(h:kO 24 (HS x7 x8 x9 o0_0 o1_0) Jp U):Jp [x7,VI x8,VI x9] [.cells [o0_0],.cells [.any],.vec 2 o1_0] U :=
 gQ LB h
def Hq:LI:={hd:={bQ:=[(7,.k .sl),(8,.k (.int .i64)),(9,.k (.int .i64))],refs:=[(2,1)],cv:=[(0,[.lk .ptr]),(1,[.vec 2])],fns:=[(1,111,[0])]},xs:={cv:=[(0,[.lk .ptr]),(1,[.vec 2])]},rt:={cv:=[(0,[.lk .ptr]),(1,[.vec 2])]},ex:=0,fx:=[0,1]}
def LO:Code:=cL (cG Tryz.f107) 1
def LZ:List (Nat×LI):=[(1,Hq)]
def Ns(a0:AV)(a1_0_0:AV)(e2_0:List (List AV)):Tree :=
 NL a0<|.loop LO Hq [a0,VI (a0.elems.length:Int),VI 0] [.cells [a1_0_0],.cells [.any],.vec 2 e2_0] (fun y2 q2=>.ai ((q2.hO)=.cells (q2.hO).cs)<|.ai (ae [.lk .ptr] ((q2.hO).cs) 0 q2.tail)<|.ai (((q2.tail.drop 0).hO)=.cells ((q2.tail.drop 0).hO).cs)<|.ai (ae [.vec 2] (((q2.tail.drop 0).hO).cs) 0 ((q2.tail.drop 0).tail))<|.done 0 [.any] [.cells [((q2.hO).cs.getD 0 .any)],.cells [.vec 2],.vec 2 ((q2.tail.tail.hO).es)]) (fun y2 q2=>.ai ((q2.hO)=.cells (q2.hO).cs)<|.ai (ae [.lk .ptr] ((q2.hO).cs) 0 q2.tail)<|.ai (((q2.tail.drop 0).hO)=.cells ((q2.tail.drop 0).hO).cs)<|.ai (ae [.vec 2] (((q2.tail.drop 0).hO).cs) 0 ((q2.tail.drop 0).tail))<|.done 0 [.any] [.cells [((q2.hO).cs.getD 0 .any)],.cells [.vec 2],.vec 2 ((q2.tail.tail.hO).es)])
theorem S8(a0:AV)(a1_0_0:AV)(e2_0:List (List AV))(ha0:LK.has .sl a0)(ha1_0_0:LK.has .ptr a1_0_0)(h:dq 24 (Ns a0 a1_0_0 e2_0) R):aq Tryz.prog 107 [a0,.fn 111 [.ref 0 0],.ref 1 0] [.cells [a1_0_0],.cells [.vec 2],.vec 2 e2_0] R :=
 aq.oE (bG (cu (ag (bI ha1_0_0) aC)) (bG (cu (ag (az _) aC)) (bG (fV _) cH))) (aq.up (ag (bN ha0) (ag (az _) (ag (az _) aC))) (oF LZ {mu:=[(1,.fn [some (.obj [.lk .ptr])]),(2,.one (.obj [.vec 2]))],own:=[]} Tryz.f107 h))
def JH(x7:AV)(x8:Int)(x9:Int)(o0_0:AV)(o1_0:List (List AV)):Tree :=
 NL x7<|NI (VI x8)<|NI (VI x9)<|.ai (Ob.cells [o0_0]=.cells [o0_0])<|.ai (ae [.lk .ptr] [o0_0] 0 [.cells [.any],.vec 2 o1_0])<|.ai (Ob.cells [.any]=.cells [.any])<|.ai (ae [.vec 2] [.any] 0 [.vec 2 o1_0])<|.test (decide (x9<x8)) (NG x7 x9 2<|.ai (bC [.ptr,.ptr] (x7.ix x9) 0/\2<=(x7.ix x9).length)<|.call 111 [((x7.ix x9).getD 0 .any),.ref 0 0] [.cells [o0_0]] fun r1 o1=>.ai ((o1.hO)=.cells (o1.hO).cs)<|.ai (aH [.lk .ptr] ((o1.hO).cs) 0 1 o1.tail)<|NP r1<|.ai (ck 2 [[r1,((x7.ix x9).getD 1 .any)]]/\((o1_0.length)+([[r1,((x7.ix x9).getD 1 .any)]]:List (List AV)).length)*16<=140737488355328)<|.done 0 [x7,VI x8,VI (IntKind.wrap .i64 (x9+1))] [.cells [((o1.hO).cs.getD 0 .any)],.cells [.any],.vec 2 (o1_0++([[r1,((x7.ix x9).getD 1 .any)]]:List (List AV)))]) (.done 1 [] [.cells [o0_0],.cells [.any],.vec 2 o1_0])
abbrev H5:=cF Tryz.prog 24 LO Hq
theorem Pf(x7:AV)(x8:Int)(x9:Int)(o0_0:AV)(o1_0:List (List AV))(h:kO 24 (JH x7 x8 x9 o0_0 o1_0) H5 U):H5 [x7,VI x8,VI x9] [.cells [o0_0],.cells [.any],.vec 2 o1_0] U :=
 gQ LZ h
def JK:LI:={hd:={bQ:=[(7,.k .sl),(8,.k (.int .i64)),(9,.k (.int .i64))],refs:=[(2,1)],cv:=[(0,[.lk .ptr]),(1,[.vec 2])],fns:=[(1,113,[0])]},xs:={cv:=[(0,[.lk .ptr]),(1,[.vec 2])]},rt:={cv:=[(0,[.lk .ptr]),(1,[.vec 2])]},ex:=0,fx:=[0,1]}
def ML:Code:=cL (cG Tryz.f107) 1
def OX:List (Nat×LI):=[(1,JK)]
def O7(a0:AV)(a1_0_0:AV)(e2_0:List (List AV)):Tree :=
 NL a0<|.loop ML JK [a0,VI (a0.elems.length:Int),VI 0] [.cells [a1_0_0],.cells [.any],.vec 2 e2_0] (fun y2 q2=>.ai ((q2.hO)=.cells (q2.hO).cs)<|.ai (ae [.lk .ptr] ((q2.hO).cs) 0 q2.tail)<|.ai (((q2.tail.drop 0).hO)=.cells ((q2.tail.drop 0).hO).cs)<|.ai (ae [.vec 2] (((q2.tail.drop 0).hO).cs) 0 ((q2.tail.drop 0).tail))<|.done 0 [.any] [.cells [((q2.hO).cs.getD 0 .any)],.cells [.vec 2],.vec 2 ((q2.tail.tail.hO).es)]) (fun y2 q2=>.ai ((q2.hO)=.cells (q2.hO).cs)<|.ai (ae [.lk .ptr] ((q2.hO).cs) 0 q2.tail)<|.ai (((q2.tail.drop 0).hO)=.cells ((q2.tail.drop 0).hO).cs)<|.ai (ae [.vec 2] (((q2.tail.drop 0).hO).cs) 0 ((q2.tail.drop 0).tail))<|.done 0 [.any] [.cells [((q2.hO).cs.getD 0 .any)],.cells [.vec 2],.vec 2 ((q2.tail.tail.hO).es)])
theorem TE(a0:AV)(a1_0_0:AV)(e2_0:List (List AV))(ha0:LK.has .sl a0)(ha1_0_0:LK.has .ptr a1_0_0)(h:dq 24 (O7 a0 a1_0_0 e2_0) R):aq Tryz.prog 107 [a0,.fn 113 [.ref 0 0],.ref 1 0] [.cells [a1_0_0],.cells [.vec 2],.vec 2 e2_0] R :=
 aq.oE (bG (cu (ag (bI ha1_0_0) aC)) (bG (cu (ag (az _) aC)) (bG (fV _) cH))) (aq.up (ag (bN ha0) (ag (az _) (ag (az _) aC))) (oF OX {mu:=[(1,.fn [some (.obj [.lk .ptr])]),(2,.one (.obj [.vec 2]))],own:=[]} Tryz.f107 h))
def IF(x7:AV)(x8:Int)(x9:Int)(o0_0:AV)(o1_0:List (List AV)):Tree :=
 NL x7<|NI (VI x8)<|NI (VI x9)<|.ai (Ob.cells [o0_0]=.cells [o0_0])<|.ai (ae [.lk .ptr] [o0_0] 0 [.cells [.any],.vec 2 o1_0])<|.ai (Ob.cells [.any]=.cells [.any])<|.ai (ae [.vec 2] [.any] 0 [.vec 2 o1_0])<|.test (decide (x9<x8)) (NG x7 x9 2<|.ai (bC [.ptr,.ptr] (x7.ix x9) 0/\2<=(x7.ix x9).length)<|.call 113 [((x7.ix x9).getD 0 .any),.ref 0 0] [.cells [o0_0]] fun r1 o1=>.ai ((o1.hO)=.cells (o1.hO).cs)<|.ai (aH [.lk .ptr] ((o1.hO).cs) 0 1 o1.tail)<|NP r1<|.ai (ck 2 [[r1,((x7.ix x9).getD 1 .any)]]/\((o1_0.length)+([[r1,((x7.ix x9).getD 1 .any)]]:List (List AV)).length)*16<=140737488355328)<|.done 0 [x7,VI x8,VI (IntKind.wrap .i64 (x9+1))] [.cells [((o1.hO).cs.getD 0 .any)],.cells [.any],.vec 2 (o1_0++([[r1,((x7.ix x9).getD 1 .any)]]:List (List AV)))]) (.done 1 [] [.cells [o0_0],.cells [.any],.vec 2 o1_0])
abbrev Hr:=cF Tryz.prog 24 ML JK
theorem Qg(x7:AV)(x8:Int)(x9:Int)(o0_0:AV)(o1_0:List (List AV))(h:kO 24 (IF x7 x8 x9 o0_0 o1_0) Hr U):Hr [x7,VI x8,VI x9] [.cells [o0_0],.cells [.any],.vec 2 o1_0] U :=
 gQ OX h
def H7:LI:={hd:={bQ:=[(1,.c (.func (.func 114) #[] #[])),(7,.k .sl),(8,.k (.int .i64)),(9,.k (.int .i64))],refs:=[(2,0)],cv:=[(0,[.vec 2])]},xs:={cv:=[(0,[.vec 2])]},rt:={cv:=[(0,[.vec 2])]},ex:=0,fx:=[0]}
def NR:Code:=cL (cG Tryz.f107) 1
def N4:List (Nat×LI):=[(1,H7)]
def Rj(a0:AV)(e2_0:List (List AV)):Tree :=
 NL a0<|.loop NR H7 [.v (.func (.func 114) #[] #[]),a0,VI (a0.elems.length:Int),VI 0] [.cells [.any],.vec 2 e2_0] (fun y2 q2=>.ai ((q2.hO)=.cells (q2.hO).cs)<|.ai (ae [.vec 2] ((q2.hO).cs) 0 q2.tail)<|.done 0 [.any] [.cells [.vec 1],.vec 2 ((q2.tail.hO).es)]) (fun y2 q2=>.ai ((q2.hO)=.cells (q2.hO).cs)<|.ai (ae [.vec 2] ((q2.hO).cs) 0 q2.tail)<|.done 0 [.any] [.cells [.vec 1],.vec 2 ((q2.tail.hO).es)])
theorem U7(a0:AV)(e2_0:List (List AV))(ha0:LK.has .sl a0)(h:dq 24 (Rj a0 e2_0) R):aq Tryz.prog 107 [a0,.v (.func (.func 114) #[] #[]),.ref 0 0] [.cells [.vec 1],.vec 2 e2_0] R :=
 aq.oE (bG (cu (ag (az _) aC)) (bG (fV _) cH)) (aq.up (ag (bN ha0) (ag (az _) (ag (az _) aC))) (oF N4 {mu:=[(2,.one (.obj [.vec 2]))],own:=[]} Tryz.f107 h))
def Jd(x7:AV)(x8:Int)(x9:Int)(o0_0:List (List AV)):Tree :=
 .ai (AV.v (.func (.func 114) #[] #[])=.v (.func (.func 114) #[] #[]))<|NL x7<|NI (VI x8)<|NI (VI x9)<|.ai (Ob.cells [.any]=.cells [.any])<|.ai (ae [.vec 2] [.any] 0 [.vec 2 o0_0])<|.test (decide (x9<x8)) (NG x7 x9 2<|.ai (bC [.ptr,.ptr] (x7.ix x9) 0/\2<=(x7.ix x9).length)<|.call 114 [((x7.ix x9).getD 0 .any)] [] fun r1 o1=>NP r1<|.ai (ck 2 [[r1,((x7.ix x9).getD 1 .any)]]/\((o0_0.length)+([[r1,((x7.ix x9).getD 1 .any)]]:List (List AV)).length)*16<=140737488355328)<|.done 0 [.v (.func (.func 114) #[] #[]),x7,VI x8,VI (IntKind.wrap .i64 (x9+1))] [.cells [.any],.vec 2 (o0_0++([[r1,((x7.ix x9).getD 1 .any)]]:List (List AV)))]) (.done 1 [] [.cells [.any],.vec 2 o0_0])
abbrev Kp:=cF Tryz.prog 24 NR H7
theorem Nn(x7:AV)(x8:Int)(x9:Int)(o0_0:List (List AV))(h:kO 24 (Jd x7 x8 x9 o0_0) Kp U):Kp [.v (.func (.func 114) #[] #[]),x7,VI x8,VI x9] [.cells [.any],.vec 2 o0_0] U :=
 gQ N4 h
def Jh:LI:={hd:={bQ:=[(7,.k .sl),(8,.k (.int .i64)),(9,.k (.int .i64))],refs:=[(2,1)],cv:=[(0,[.lk .ptr,.lk .ptr]),(1,[.vec 2])],fns:=[(1,115,[0])]},xs:={cv:=[(0,[.lk .ptr,.lk .ptr]),(1,[.vec 2])]},rt:={cv:=[(0,[.lk .ptr,.lk .ptr]),(1,[.vec 2])]},ex:=0,fx:=[0,1]}
def Mc:Code:=cL (cG Tryz.f107) 1
def Oz:List (Nat×LI):=[(1,Jh)]
def L7(a0:AV)(a1_0_0:AV)(a1_0_1:AV)(e2_0:List (List AV)):Tree :=
 NL a0<|.loop Mc Jh [a0,VI (a0.elems.length:Int),VI 0] [.cells [a1_0_0,a1_0_1],.cells [.any],.vec 2 e2_0] (fun y2 q2=>.ai ((q2.hO)=.cells (q2.hO).cs)<|.ai (ae [.lk .ptr,.lk .ptr] ((q2.hO).cs) 0 q2.tail)<|.ai (((q2.tail.drop 0).hO)=.cells ((q2.tail.drop 0).hO).cs)<|.ai (ae [.vec 2] (((q2.tail.drop 0).hO).cs) 0 ((q2.tail.drop 0).tail))<|.done 0 [.any] [.cells [((q2.hO).cs.getD 0 .any),((q2.hO).cs.getD 1 .any)],.cells [.vec 2],.vec 2 ((q2.tail.tail.hO).es)]) (fun y2 q2=>.ai ((q2.hO)=.cells (q2.hO).cs)<|.ai (ae [.lk .ptr,.lk .ptr] ((q2.hO).cs) 0 q2.tail)<|.ai (((q2.tail.drop 0).hO)=.cells ((q2.tail.drop 0).hO).cs)<|.ai (ae [.vec 2] (((q2.tail.drop 0).hO).cs) 0 ((q2.tail.drop 0).tail))<|.done 0 [.any] [.cells [((q2.hO).cs.getD 0 .any),((q2.hO).cs.getD 1 .any)],.cells [.vec 2],.vec 2 ((q2.tail.tail.hO).es)])
theorem TN(a0:AV)(a1_0_0:AV)(a1_0_1:AV)(e2_0:List (List AV))(ha0:LK.has .sl a0)(ha1_0_0:LK.has .ptr a1_0_0)(ha1_0_1:LK.has .ptr a1_0_1)(h:dq 24 (L7 a0 a1_0_0 a1_0_1 e2_0) R):aq Tryz.prog 107 [a0,.fn 115 [.ref 0 0],.ref 1 0] [.cells [a1_0_0,a1_0_1],.cells [.vec 2],.vec 2 e2_0] R :=
 aq.oE (bG (cu (ag (bI ha1_0_0) (ag (bI ha1_0_1) aC))) (bG (cu (ag (az _) aC)) (bG (fV _) cH))) (aq.up (ag (bN ha0) (ag (az _) (ag (az _) aC))) (oF Oz {mu:=[(1,.fn [some (.obj [.lk .ptr,.lk .ptr])]),(2,.one (.obj [.vec 2]))],own:=[]} Tryz.f107 h))
def HQ(x7:AV)(x8:Int)(x9:Int)(o0_0:AV)(o0_1:AV)(o1_0:List (List AV)):Tree :=
 NL x7<|NI (VI x8)<|NI (VI x9)<|.ai (Ob.cells [o0_0,o0_1]=.cells [o0_0,o0_1])<|.ai (ae [.lk .ptr,.lk .ptr] [o0_0,o0_1] 0 [.cells [.any],.vec 2 o1_0])<|.ai (Ob.cells [.any]=.cells [.any])<|.ai (ae [.vec 2] [.any] 0 [.vec 2 o1_0])<|.test (decide (x9<x8)) (NG x7 x9 2<|.ai (bC [.ptr,.ptr] (x7.ix x9) 0/\2<=(x7.ix x9).length)<|.call 115 [((x7.ix x9).getD 0 .any),.ref 0 0] [.cells [o0_0,o0_1]] fun r1 o1=>.ai ((o1.hO)=.cells (o1.hO).cs)<|.ai (aH [.lk .ptr,.lk .ptr] ((o1.hO).cs) 0 1 o1.tail)<|NP r1<|.ai (ck 2 [[r1,((x7.ix x9).getD 1 .any)]]/\((o1_0.length)+([[r1,((x7.ix x9).getD 1 .any)]]:List (List AV)).length)*16<=140737488355328)<|.done 0 [x7,VI x8,VI (IntKind.wrap .i64 (x9+1))] [.cells [((o1.hO).cs.getD 0 .any),((o1.hO).cs.getD 1 .any)],.cells [.any],.vec 2 (o1_0++([[r1,((x7.ix x9).getD 1 .any)]]:List (List AV)))]) (.done 1 [] [.cells [o0_0,o0_1],.cells [.any],.vec 2 o1_0])
abbrev I6:=cF Tryz.prog 24 Mc Jh
theorem No(x7:AV)(x8:Int)(x9:Int)(o0_0:AV)(o0_1:AV)(o1_0:List (List AV))(h:kO 24 (HQ x7 x8 x9 o0_0 o0_1 o1_0) I6 U):I6 [x7,VI x8,VI x9] [.cells [o0_0,o0_1],.cells [.any],.vec 2 o1_0] U :=
 gQ Oz h
def OW(a0_0:AV)(a0_1:AV):Tree :=
 NZ a0_0<|NZ a0_0<|ei (a0_0.deref.drop 3)<|.done 0 [.agg [((a0_0.deref.drop 3).hA),a0_1]] []
theorem TO(a0_0:AV)(a0_1:AV)(ha0_0:LK.has .ptr a0_0)(ha0_1:LK.has .ptr a0_1)(h:dq 11 (OW a0_0 a0_1) R):aq Tryz.prog 108 [.agg [a0_0,a0_1]] [] R :=
 uQ (ag (bX (ag (bI ha0_0) (ag (bI ha0_1) aC))) aC) (oQ [] Tryz.f108 h)
def PY(a0_0:AV)(a0_1:AV):Tree :=
 NZ a0_0<|NZ a0_0<|ei (a0_0.deref.drop 4)<|.done 0 [.agg [((a0_0.deref.drop 4).hA),a0_1]] []
theorem R0(a0_0:AV)(a0_1:AV)(ha0_0:LK.has .ptr a0_0)(ha0_1:LK.has .ptr a0_1)(h:dq 11 (PY a0_0 a0_1) R):aq Tryz.prog 109 [.agg [a0_0,a0_1]] [] R :=
 uQ (ag (bX (ag (bI ha0_0) (ag (bI ha0_1) aC))) aC) (oQ [] Tryz.f109 h)
def Hk(a0:AV)(a1_0:AV):Tree :=
 NZ a1_0<|NZ a1_0<|.ai (LK.has (.int .u8) (a1_0.deref.hA)/\1<=a1_0.deref.length)<|.call 85 [.v (.int .u8 ((a1_0.deref.hA).toInt)),a0] [] fun r1 o1=>NP r1<|.done 0 [r1] [.cells [a1_0]]
theorem QV(a0:AV)(a1_0:AV)(ha0:LK.has .ptr a0)(ha1_0:LK.has .ptr a1_0)(h:dq 10 (Hk a0 a1_0) R):aq Tryz.prog 110 [a0,.ref 0 0] [.cells [a1_0]] R :=
 aq.oE (bG (cu (ag (bI ha1_0) aC)) cH) (aq.up (ag (bI ha0) (ag (az _) aC)) (oF [] {mu:=[(1,.one (.obj [.lk .ptr]))],own:=[]} Tryz.f110 h))
def Ov(a0:AV)(a1_0:AV):Tree :=
 NZ a1_0<|NZ a1_0<|ei (a1_0.deref.drop 3)<|.call 112 [a0,((a1_0.deref.drop 3).hA)] [] fun r1 o1=>NP r1<|.call 85 [.v (.int .u8 108),r1] [] fun r2 o2=>NP r2<|.done 0 [r2] [.cells [a1_0]]
theorem Tz(a0:AV)(a1_0:AV)(ha0:LK.has .ptr a0)(ha1_0:LK.has .ptr a1_0)(h:dq 11 (Ov a0 a1_0) R):aq Tryz.prog 111 [a0,.ref 0 0] [.cells [a1_0]] R :=
 aq.oE (bG (cu (ag (bI ha1_0) aC)) cH) (aq.up (ag (bI ha0) (ag (az _) aC)) (oF [] {mu:=[(1,.one (.obj [.lk .ptr]))],own:=[]} Tryz.f111 h))
def N9(a0:AV)(a1:AV):Tree :=
 .done 0 [.ptr [.v (.int .u8 112),VS (mk []),a0,a1]] []
theorem TP(a0:AV)(a1:AV)(ha0:LK.has .ptr a0)(ha1:LK.has .ptr a1)(h:dq 9 (N9 a0 a1) R):aq Tryz.prog 112 [a0,a1] [] R :=
 uQ (ag (bI ha0) (ag (bI ha1) aC)) (oQ [] Tryz.f112 h)
def MI(a0:AV)(a1_0:AV):Tree :=
 NZ a1_0<|NZ a1_0<|ei (a1_0.deref.drop 2)<|.call 112 [((a1_0.deref.drop 2).hA),a0] [] fun r1 o1=>NP r1<|.call 85 [.v (.int .u8 114),r1] [] fun r2 o2=>NP r2<|.done 0 [r2] [.cells [a1_0]]
theorem Tb(a0:AV)(a1_0:AV)(ha0:LK.has .ptr a0)(ha1_0:LK.has .ptr a1_0)(h:dq 11 (MI a0 a1_0) R):aq Tryz.prog 113 [a0,.ref 0 0] [.cells [a1_0]] R :=
 aq.oE (bG (cu (ag (bI ha1_0) aC)) cH) (aq.up (ag (bI ha0) (ag (az _) aC)) (oF [] {mu:=[(1,.one (.obj [.lk .ptr]))],own:=[]} Tryz.f113 h))
def PT(a0:AV):Tree :=
 .call 85 [.v (.int .u8 108),a0] [] fun r1 o1=>NP r1<|.call 85 [.v (.int .u8 102),r1] [] fun r2 o2=>NP r2<|.done 0 [r2] []
theorem R1(a0:AV)(ha0:LK.has .ptr a0)(h:dq 6 (PT a0) R):aq Tryz.prog 114 [a0] [] R :=
 uQ (ag (bI ha0) aC) (oQ [] Tryz.f114 h)
def L0(a0:AV)(a1_0:AV)(a1_1:AV):Tree :=
 .call 112 [a1_0,a0] [] fun r1 o1=>NP r1<|.call 85 [.v (.int .u8 114),r1] [] fun r2 o2=>NP r2<|.call 85 [.v (.int .u8 102),r2] [] fun r3 o3=>NP r3<|.done 0 [r3] [.cells [a1_0,a1_1]]
theorem Vc(a0:AV)(a1_0:AV)(a1_1:AV)(ha0:LK.has .ptr a0)(ha1_0:LK.has .ptr a1_0)(ha1_1:LK.has .ptr a1_1)(h:dq 10 (L0 a0 a1_0 a1_1) R):aq Tryz.prog 115 [a0,.ref 0 0] [.cells [a1_0,a1_1]] R :=
 aq.oE (bG (cu (ag (bI ha1_0) (ag (bI ha1_1) aC))) cH) (aq.up (ag (bI ha0) (ag (az _) aC)) (oF [] {mu:=[(1,.one (.obj [.lk .ptr,.lk .ptr]))],own:=[]} Tryz.f115 h))
def Hp:LI:={hd:={bQ:=[(0,.k .str),(1,.k (.int .i64)),(6,.k (.int .i64))]},xs:={bQ:=[(0,.k .str),(1,.k (.int .i64)),(6,.k (.int .i64))]},rt:={},ex:=0}
def Lz:Code:=cL (cG Tryz.f116) 2
def Jy:LI:={hd:={bQ:=[(0,.k .str),(1,.k (.int .i64)),(7,.k .str)],refs:=[(8,48)],cv:=[(48,[.lk .str,.vec 1])]},xs:={},rt:={bQ:=[(4,.k .ptr),(5,.k .str)]},ex:=999}
def MZ:Code:=cL (cG Tryz.f116) 10
def Kj:List (Nat×LI):=[(2,Hp),(10,Jy)]
def HY(a0:ByteArray)(a1:Int):Tree :=
 .loop Lz Hp [VS a0,VI a1,VI 0] [] (fun y2 q2=>NS (y2.hA)<|NI (y2.tail.hA)<|NI (y2.tail.tail.hA)<|.test (decide (((y2.tail.tail.hA).toInt)>(0:Int))) (.ai (0<=(0:Int)/\(0:Int)<=((y2.tail.tail.hA).toInt)/\((y2.tail.tail.hA).toInt)<=(ah ((y2.hA).toStr):Int))<|.ai (0<=((y2.tail.tail.hA).toInt)/\((y2.tail.tail.hA).toInt)<=(ah ((y2.hA).toStr):Int)/\(ah ((y2.hA).toStr):Int)<=(ah ((y2.hA).toStr):Int))<|.done 0 [.cm [.ptr [VS (cz ((y2.hA).toStr) (bK 0) (bK ((y2.tail.tail.hA).toInt))),.v (.slice none 0 0)],VS (cz ((y2.hA).toStr) (bK ((y2.tail.tail.hA).toInt)) (bK (ah ((y2.hA).toStr):Int)))]] []) (.test (af ((y2.hA).toStr)==af (mk [])) (.done 0 [.cm [.v (.pointer none),VS ((y2.hA).toStr)]] []) (.ai (0<=(0:Int)/\(0:Int)<ah ((y2.hA).toStr))<|.test ((bt ((y2.hA).toStr) 0) != (40:Int)) (.done 0 [.cm [.v (.pointer none),VS ((y2.hA).toStr)]] []) (.test (((y2.tail.hA).toInt)==(300:Int)) (.done 0 [.cm [.v (.pointer none),VS ((y2.hA).toStr)]] []) (.ai (0<=(1:Int)/\(1:Int)<=(ah ((y2.hA).toStr):Int)/\(ah ((y2.hA).toStr):Int)<=(ah ((y2.hA).toStr):Int))<|.loop MZ Jy [VS ((y2.hA).toStr),VI ((y2.tail.hA).toInt),VS (cz ((y2.hA).toStr) (bK 1) (bK (ah ((y2.hA).toStr):Int)))] [.cells [VS (mk []),.any],.vec 1 []] (fun y5 q5=>.fail) (fun y5 q5=>NP (y5.hA)<|NS (y5.tail.hA)<|.done 0 [.cm [(y5.hA),VS ((y5.tail.hA).toStr)]] [])))))) (fun y2 q2=>.done 0 [.cm [.any,.any]] [])
theorem Nz(a0:ByteArray)(a1:Int)(h:dq 84 (HY a0 a1) R):aq Tryz.prog 116 [VS a0,VI a1] [] R :=
 uQ (ag (az _) (ag (az _) aC)) (oQ Kj Tryz.f116 h)
def HO(x0:ByteArray)(x1:Int)(x6:Int):Tree :=
 NS (VS x0)<|NI (VI x1)<|NI (VI x6)<|.test (decide (x6<(ah x0:Int))) (.ai (0<=x6/\x6<ah x0)<|.call 144 [.v (.int .u8 (bt x0 x6))] [] fun r1 o1=>NB r1<|.test r1.toBool (.done 0 [VS x0,VI x1,VI (IntKind.wrap .i64 (x6+1))] []) (.done 1 [VS x0,VI x1,VI x6] [])) (.done 1 [VS x0,VI x1,VI x6] [])
abbrev ID:=cF Tryz.prog 84 Lz Hp
theorem Nf(x0:ByteArray)(x1:Int)(x6:Int)(h:kO 84 (HO x0 x1 x6) ID U):ID [VS x0,VI x1,VI x6] [] U :=
 gQ Kj h
def NW(x0:ByteArray)(x1:Int)(x7:ByteArray)(o48_0:ByteArray)(o48_1:List (List AV)):Tree :=
 NS (VS x0)<|NI (VI x1)<|NS (VS x7)<|.ai (Ob.cells [VS o48_0,.any]=.cells [VS o48_0,.any])<|.ai (ae [.lk .str,.vec 1] [VS o48_0,.any] 0 [.vec 1 o48_1])<|.call 116 [VS x7,VI (IntKind.wrap .i64 (x1+1))] [] fun r1 o1=>NT r1<|NP (r1.comp 0)<|NS (r1.comp 1)<|NP (r1.comp 0)<|.test ((r1.comp 0).isNil) (.done 2 [.v (.pointer none),VS x0] []) (.test (af ((r1.comp 1).toStr)==af (mk [])) (.done 2 [.v (.pointer none),VS x0] []) (.ai (ck 1 [[(r1.comp 0)]]/\((o48_1.length)+([[(r1.comp 0)]]:List (List AV)).length)*8<=140737488355328)<|.ai (0<=(1:Int)/\(1:Int)<=(ah ((r1.comp 1).toStr):Int)/\(ah ((r1.comp 1).toStr):Int)<=(ah ((r1.comp 1).toStr):Int))<|.ai (0<=(0:Int)/\(0:Int)<ah ((r1.comp 1).toStr))<|.test ((bt ((r1.comp 1).toStr) 0)==(41:Int)) (.done 2 [.ptr [VS o48_0,.sl (o48_1++([[(r1.comp 0)]]:List (List AV)))],VS (cz ((r1.comp 1).toStr) (bK 1) (bK (ah ((r1.comp 1).toStr):Int)))] []) (.ai (0<=(0:Int)/\(0:Int)<ah ((r1.comp 1).toStr))<|.test ((bt ((r1.comp 1).toStr) 0) != (32:Int)) (.done 2 [.v (.pointer none),VS x0] []) (.done 0 [VS x0,VI x1,VS (cz ((r1.comp 1).toStr) (bK 1) (bK (ah ((r1.comp 1).toStr):Int)))] [.cells [VS o48_0,.any],.vec 1 (o48_1++([[(r1.comp 0)]]:List (List AV)))]))))
abbrev Je:=cF Tryz.prog 84 MZ Jy
theorem R7(x0:ByteArray)(x1:Int)(x7:ByteArray)(o48_0:ByteArray)(o48_1:List (List AV))(h:kO 84 (NW x0 x1 x7 o48_0 o48_1) Je U):Je [VS x0,VI x1,VS x7] [.cells [VS o48_0,.any],.vec 1 o48_1] U :=
 gQ Kj h
def La(a0:ByteArray):Tree :=
 .call 145 [VS a0,VS (mk [120,121,122])] [] fun r1 o1=>NB r1<|.done 0 [VB r1.toBool] []
theorem UQ(a0:ByteArray)(h:dq 5 (La a0) R):aq Tryz.prog 117 [VS a0] [] R :=
 uQ (ag (az _) aC) (oQ [] Tryz.f117 h)
def K5(a0:ByteArray):Tree :=
 .call 145 [VS a0,VS (mk [116])] [] fun r1 o1=>NB r1<|.done 0 [VB r1.toBool] []
theorem SD(a0:ByteArray)(h:dq 5 (K5 a0) R):aq Tryz.prog 118 [VS a0] [] R :=
 uQ (ag (az _) aC) (oQ [] Tryz.f118 h)
def Ei(a0:AV)(a1:ByteArray)(a2:Int):Tree :=
 NZ a0<|NZ a0<|oH (a0.deref.drop 1)<|NL ((a0.deref.drop 1).hA)<|.test (((((a0.deref.drop 1).hA).elems).length:Int)==a2) (NZ a0<|NZ a0<|oH (a0.deref.drop 1)<|NG ((a0.deref.drop 1).hA) 0 1<|ei (((a0.deref.drop 1).hA).ix (0:Int))<|NZ ((((a0.deref.drop 1).hA).ix (0:Int)).hA)<|NZ ((((a0.deref.drop 1).hA).ix (0:Int)).hA)<|.ai (LK.has .str (((((a0.deref.drop 1).hA).ix (0:Int)).hA).deref.hA)/\1<=(((((a0.deref.drop 1).hA).ix (0:Int)).hA).deref).length)<|.done 0 [VB (af ((((((a0.deref.drop 1).hA).ix (0:Int)).hA).deref.hA).toStr)==af a1)] []) (.done 0 [VB false] [])
theorem M4(a0:AV)(a1:ByteArray)(a2:Int)(ha0:LK.has .ptr a0)(h:dq 27 (Ei a0 a1 a2) R):aq Tryz.prog 119 [a0,VS a1,VI a2] [] R :=
 uQ (ag (bI ha0) (ag (az _) (ag (az _) aC))) (oQ [] Tryz.f119 h)
def Nj(a0:Int)(a1:AV)(a2:AV):Tree :=
 .done 0 [.ptr [.v (.int .u8 a0),VS (mk []),VI 0,a1,a2]] []
theorem TF(a0:Int)(a1:AV)(a2:AV)(ha1:LK.has .ptr a1)(ha2:LK.has .ptr a2)(h:dq 12 (Nj a0 a1 a2) R):aq Tryz.prog 121 [.v (.int .u8 a0),a1,a2] [] R :=
 uQ (ag (az _) (ag (bI ha1) (ag (bI ha2) aC))) (oQ [] Tryz.f121 h)
def Mn(a0:AV):Tree :=
 .call 147 [a0,.fn 148 [.ref 0 0]] [.cells [.vec 1],.vec 1 []] fun r1 o1=>.ai ((o1.hO)=.cells (o1.hO).cs)<|.ai (aH [.vec 1] ((o1.hO).cs) 0 1 o1.tail)<|.done 0 [.sl ((o1.tail.hO).es)] []
theorem TQ(a0:AV)(ha0:LK.has .ptr a0)(h:dq 9 (Mn a0) R):aq Tryz.prog 122 [a0] [] R :=
 uQ (ag (bI ha0) aC) (oQ [] Tryz.f122 h)
def Ie:LI:={hd:={bQ:=[(0,.k .ptr),(1,.k .sl),(9,.k .str)],refs:=[(3,0),(4,1)],cv:=[(0,[.lk .sl]),(1,[.lk (.int .i64)])],wP:=[(2,123,[none,some 0,some 1])]},xs:={bQ:=[(0,.k .ptr),(1,.k .sl),(9,.k .str)],cv:=[(0,[.lk .sl]),(1,[.lk (.int .i64)])],wP:=[(2,123,[none,some 0,some 1])]},rt:={cv:=[(0,[.lk .sl]),(1,[.lk (.int .i64)])]},ex:=1,fx:=[0,1]}
def OI:Code:=cL (cG Tryz.f123) 12
def Pv:List (Nat×LI):=[(12,Ie)]
def GI(a0:AV)(a1:AV)(a3_0:AV)(a4_0:Int):Tree :=
 NZ a0<|NZ a0<|.ai (LK.has (.int .u8) (a0.deref.hA)/\1<=a0.deref.length)<|.test (((a0.deref.hA).toInt)==(110:Int)) (NZ a0<|NZ a0<|lL (a0.deref.drop 1)<|.done 0 [VS (((a0.deref.drop 1).hA).toStr)] [.cells [a3_0],.cells [VI a4_0]]) (.test (((a0.deref.hA).toInt)==(98:Int)) (NL a1<|NZ a0<|NZ a0<|.ai (LK.has (.int .i64) ((a0.deref.drop 2).hA)/\1<=(a0.deref.drop 2).length)<|.ai (LK.has .sl a1/\0<=(IntKind.wrap .i64 ((IntKind.wrap .i64 ((a1.elems.length:Int)-1))-(((a0.deref.drop 2).hA).toInt)))/\(IntKind.wrap .i64 ((IntKind.wrap .i64 ((a1.elems.length:Int)-1))-(((a0.deref.drop 2).hA).toInt)))<a1.elems.length/\(a1.ix (IntKind.wrap .i64 ((IntKind.wrap .i64 ((a1.elems.length:Int)-1))-(((a0.deref.drop 2).hA).toInt)))).length=1)<|lL (a1.ix (IntKind.wrap .i64 ((IntKind.wrap .i64 ((a1.elems.length:Int)-1))-(((a0.deref.drop 2).hA).toInt))))<|.done 0 [VS (((a1.ix (IntKind.wrap .i64 ((IntKind.wrap .i64 ((a1.elems.length:Int)-1))-(((a0.deref.drop 2).hA).toInt)))).hA).toStr)] [.cells [a3_0],.cells [VI a4_0]]) (.test (((a0.deref.hA).toInt)==(43:Int)) (NZ a0<|NZ a0<|ei (a0.deref.drop 3)<|.call 123 [((a0.deref.drop 3).hA),a1,.ik 123 [none,some 0,some 1],.ref 0 0,.ref 1 0] [.cells [a3_0],.cells [VI a4_0]] fun r1 o1=>.ai ((o1.hO)=.cells (o1.hO).cs)<|.ai (aH [.lk .sl] ((o1.hO).cs) 0 1 o1.tail)<|.ai ((o1.tail.hO)=.cells (o1.tail.hO).cs)<|.ai (aH [.lk (.int .i64)] ((o1.tail.hO).cs) 0 2 o1.tail.tail)<|NS r1<|NZ a0<|NZ a0<|.ai (LK.has (.int .u8) (a0.deref.hA)/\1<=a0.deref.length)<|.ai (j8 [[.v (.int .u8 ((a0.deref.hA).toInt))]])<|.ai (ah (mk [40])+ah (⟨(bytesOf [[.v (.int .u8 ((a0.deref.hA).toInt))]]).toArray⟩)<=9223372036854775807)<|.ai (ah (((mk [40]):ByteArray)++(⟨(bytesOf [[.v (.int .u8 ((a0.deref.hA).toInt))]]).toArray⟩))+ah (mk [32])<=9223372036854775807)<|.ai (ah (((((mk [40]):ByteArray)++(⟨(bytesOf [[.v (.int .u8 ((a0.deref.hA).toInt))]]).toArray⟩)):ByteArray)++(mk [32]))+ah r1.toStr<=9223372036854775807)<|.ai (ah (((((((mk [40]):ByteArray)++(⟨(bytesOf [[.v (.int .u8 ((a0.deref.hA).toInt))]]).toArray⟩)):ByteArray)++(mk [32])):ByteArray)++r1.toStr)+ah (mk [32])<=9223372036854775807)<|NZ a0<|NZ a0<|ei (a0.deref.drop 4)<|.call 123 [((a0.deref.drop 4).hA),a1,.ik 123 [none,some 0,some 1],.ref 0 0,.ref 1 0] [.cells [((o1.hO).cs.getD 0 .any)],.cells [VI (((o1.tail.hO).cs.getD 0 .any).toInt)]] fun r2 o2=>.ai ((o2.hO)=.cells (o2.hO).cs)<|.ai (aH [.lk .sl] ((o2.hO).cs) 0 1 o2.tail)<|.ai ((o2.tail.hO)=.cells (o2.tail.hO).cs)<|.ai (aH [.lk (.int .i64)] ((o2.tail.hO).cs) 0 2 o2.tail.tail)<|NS r2<|.ai (ah (((((((((mk [40]):ByteArray)++(⟨(bytesOf [[.v (.int .u8 ((a0.deref.hA).toInt))]]).toArray⟩)):ByteArray)++(mk [32])):ByteArray)++r1.toStr):ByteArray)++(mk [32]))+ah r2.toStr<=9223372036854775807)<|.ai (ah (((((((((((mk [40]):ByteArray)++(⟨(bytesOf [[.v (.int .u8 ((a0.deref.hA).toInt))]]).toArray⟩)):ByteArray)++(mk [32])):ByteArray)++r1.toStr):ByteArray)++(mk [32])):ByteArray)++r2.toStr)+ah (mk [41])<=9223372036854775807)<|.done 0 [VS (((((((((((((mk [40]):ByteArray)++(⟨(bytesOf [[.v (.int .u8 ((a0.deref.hA).toInt))]]).toArray⟩)):ByteArray)++(mk [32])):ByteArray)++r1.toStr):ByteArray)++(mk [32])):ByteArray)++r2.toStr):ByteArray)++(mk [41]))] [.cells [((o2.hO).cs.getD 0 .any)],.cells [VI (((o2.tail.hO).cs.getD 0 .any).toInt)]]) (.test (((a0.deref.hA).toInt)==(42:Int)) (NZ a0<|NZ a0<|ei (a0.deref.drop 3)<|.call 123 [((a0.deref.drop 3).hA),a1,.ik 123 [none,some 0,some 1],.ref 0 0,.ref 1 0] [.cells [a3_0],.cells [VI a4_0]] fun r3 o3=>.ai ((o3.hO)=.cells (o3.hO).cs)<|.ai (aH [.lk .sl] ((o3.hO).cs) 0 1 o3.tail)<|.ai ((o3.tail.hO)=.cells (o3.tail.hO).cs)<|.ai (aH [.lk (.int .i64)] ((o3.tail.hO).cs) 0 2 o3.tail.tail)<|NS r3<|NZ a0<|NZ a0<|.ai (LK.has (.int .u8) (a0.deref.hA)/\1<=a0.deref.length)<|.ai (j8 [[.v (.int .u8 ((a0.deref.hA).toInt))]])<|.ai (ah (mk [40])+ah (⟨(bytesOf [[.v (.int .u8 ((a0.deref.hA).toInt))]]).toArray⟩)<=9223372036854775807)<|.ai (ah (((mk [40]):ByteArray)++(⟨(bytesOf [[.v (.int .u8 ((a0.deref.hA).toInt))]]).toArray⟩))+ah (mk [32])<=9223372036854775807)<|.ai (ah (((((mk [40]):ByteArray)++(⟨(bytesOf [[.v (.int .u8 ((a0.deref.hA).toInt))]]).toArray⟩)):ByteArray)++(mk [32]))+ah r3.toStr<=9223372036854775807)<|.ai (ah (((((((mk [40]):ByteArray)++(⟨(bytesOf [[.v (.int .u8 ((a0.deref.hA).toInt))]]).toArray⟩)):ByteArray)++(mk [32])):ByteArray)++r3.toStr)+ah (mk [32])<=9223372036854775807)<|NZ a0<|NZ a0<|ei (a0.deref.drop 4)<|.call 123 [((a0.deref.drop 4).hA),a1,.ik 123 [none,some 0,some 1],.ref 0 0,.ref 1 0] [.cells [((o3.hO).cs.getD 0 .any)],.cells [VI (((o3.tail.hO).cs.getD 0 .any).toInt)]] fun r4 o4=>.ai ((o4.hO)=.cells (o4.hO).cs)<|.ai (aH [.lk .sl] ((o4.hO).cs) 0 1 o4.tail)<|.ai ((o4.tail.hO)=.cells (o4.tail.hO).cs)<|.ai (aH [.lk (.int .i64)] ((o4.tail.hO).cs) 0 2 o4.tail.tail)<|NS r4<|.ai (ah (((((((((mk [40]):ByteArray)++(⟨(bytesOf [[.v (.int .u8 ((a0.deref.hA).toInt))]]).toArray⟩)):ByteArray)++(mk [32])):ByteArray)++r3.toStr):ByteArray)++(mk [32]))+ah r4.toStr<=9223372036854775807)<|.ai (ah (((((((((((mk [40]):ByteArray)++(⟨(bytesOf [[.v (.int .u8 ((a0.deref.hA).toInt))]]).toArray⟩)):ByteArray)++(mk [32])):ByteArray)++r3.toStr):ByteArray)++(mk [32])):ByteArray)++r4.toStr)+ah (mk [41])<=9223372036854775807)<|.done 0 [VS (((((((((((((mk [40]):ByteArray)++(⟨(bytesOf [[.v (.int .u8 ((a0.deref.hA).toInt))]]).toArray⟩)):ByteArray)++(mk [32])):ByteArray)++r3.toStr):ByteArray)++(mk [32])):ByteArray)++r4.toStr):ByteArray)++(mk [41]))] [.cells [((o4.hO).cs.getD 0 .any)],.cells [VI (((o4.tail.hO).cs.getD 0 .any).toInt)]]) (.test (((a0.deref.hA).toInt)==(114:Int)) (.loop OI Ie [a0,a1,VS (mk [])] [.cells [a3_0],.cells [VI a4_0]] (fun y8 q8=>NP (y8.hA)<|NL (y8.tail.hA)<|NS (y8.tail.tail.hA)<|.ai ((q8.hO)=.cells (q8.hO).cs)<|.ai (ae [.lk .sl] ((q8.hO).cs) 0 q8.tail)<|.ai (((q8.tail.drop 0).hO)=.cells ((q8.tail.drop 0).hO).cs)<|.ai (ae [.lk (.int .i64)] (((q8.tail.drop 0).hO).cs) 0 ((q8.tail.drop 0).tail))<|.ai (ah (mk [40,114,101,99,32])+ah ((y8.tail.tail.hA).toStr)<=9223372036854775807)<|.ai (ah (((mk [40,114,101,99,32]):ByteArray)++((y8.tail.tail.hA).toStr))+ah (mk [32])<=9223372036854775807)<|NZ (y8.hA)<|NZ (y8.hA)<|ei ((y8.hA).deref.drop 3)<|.ai (LK.has .sl (y8.tail.hA)/\ck 1 ((y8.tail.hA).elems)/\((([]:List (List AV)).length)+((y8.tail.hA).elems).length)*16<=140737488355328)<|.ai (ck 1 [[VS ((y8.tail.tail.hA).toStr)]]/\(((([]:List (List AV))++((y8.tail.hA).elems)).length)+([[VS ((y8.tail.tail.hA).toStr)]]:List (List AV)).length)*16<=140737488355328)<|.call 123 [(((y8.hA).deref.drop 3).hA),.sl ((([]:List (List AV))++((y8.tail.hA).elems))++([[VS ((y8.tail.tail.hA).toStr)]]:List (List AV))),.ik 123 [none,some 0,some 1],.ref 0 0,.ref 1 0] [.cells [((q8.hO).cs.getD 0 .any)],.cells [VI (((q8.tail.hO).cs.getD 0 .any).toInt)]] fun r9 o9=>.ai ((o9.hO)=.cells (o9.hO).cs)<|.ai (aH [.lk .sl] ((o9.hO).cs) 0 1 o9.tail)<|.ai ((o9.tail.hO)=.cells (o9.tail.hO).cs)<|.ai (aH [.lk (.int .i64)] ((o9.tail.hO).cs) 0 2 o9.tail.tail)<|NS r9<|.ai (ah (((((mk [40,114,101,99,32]):ByteArray)++((y8.tail.tail.hA).toStr)):ByteArray)++(mk [32]))+ah r9.toStr<=9223372036854775807)<|.ai (ah (((((((mk [40,114,101,99,32]):ByteArray)++((y8.tail.tail.hA).toStr)):ByteArray)++(mk [32])):ByteArray)++r9.toStr)+ah (mk [41])<=9223372036854775807)<|.done 0 [VS (((((((((mk [40,114,101,99,32]):ByteArray)++((y8.tail.tail.hA).toStr)):ByteArray)++(mk [32])):ByteArray)++r9.toStr):ByteArray)++(mk [41]))] [.cells [((o9.hO).cs.getD 0 .any)],.cells [VI (((o9.tail.hO).cs.getD 0 .any).toInt)]]) (fun y8 q8=>.ai ((q8.hO)=.cells (q8.hO).cs)<|.ai (ae [.lk .sl] ((q8.hO).cs) 0 q8.tail)<|.ai (((q8.tail.drop 0).hO)=.cells ((q8.tail.drop 0).hO).cs)<|.ai (ae [.lk (.int .i64)] (((q8.tail.drop 0).hO).cs) 0 ((q8.tail.drop 0).tail))<|.done 0 [.any] [.cells [((q8.hO).cs.getD 0 .any)],.cells [VI (((q8.tail.hO).cs.getD 0 .any).toInt)]])) (NZ a0<|NZ a0<|.ai (LK.has (.int .u8) (a0.deref.hA)/\1<=a0.deref.length)<|.ai (j8 [[.v (.int .u8 ((a0.deref.hA).toInt))]])<|.done 0 [VS (⟨(bytesOf [[.v (.int .u8 ((a0.deref.hA).toInt))]]).toArray⟩)] [.cells [a3_0],.cells [VI a4_0]])))))
theorem yA(a0:AV)(a1:AV)(a3_0:AV)(a4_0:Int)(ha0:LK.has .ptr a0)(ha1:LK.has .sl a1)(ha3_0:LK.has .sl a3_0)(h:dq 100 (GI a0 a1 a3_0 a4_0) R):aq Tryz.prog 123 [a0,a1,.ik 123 [none,some 0,some 1],.ref 0 0,.ref 1 0] [.cells [a3_0],.cells [VI a4_0]] R :=
 aq.oE (bG (cu (ag (bN ha3_0) aC)) (bG (cu (ag (az _) aC)) cH)) (aq.up (ag (bI ha0) (ag (bN ha1) (ag (az _) (ag (az _) (ag (az _) aC))))) (oF Pv {mu:=[(2,.qM 123 [none,some 0,some 1]),(3,.one (.obj [.lk .sl])),(4,.one (.obj [.lk (.int .i64)]))],own:=[]} Tryz.f123 h))
def IG(x0:AV)(x1:AV)(x9:ByteArray)(o0_0:AV)(o1_0:Int):Tree :=
 NP x0<|NL x1<|NS (VS x9)<|.ai (Ob.cells [o0_0]=.cells [o0_0])<|.ai (ae [.lk .sl] [o0_0] 0 [.cells [VI o1_0]])<|.ai (Ob.cells [VI o1_0]=.cells [VI o1_0])<|.ai (ae [.lk (.int .i64)] [VI o1_0] 0 [])<|.test (af x9==af (mk [])) (.call 120 [VI o1_0] [] fun r1 o1=>NS r1<|.ai (ah (mk [116])+ah r1.toStr<=9223372036854775807)<|.done 0 [x0,x1,VS (((mk [116]):ByteArray)++r1.toStr)] [.cells [o0_0],.cells [VI (IntKind.wrap .i64 (o1_0+1))]]) (.call 124 [o0_0,VS x9] [] fun r2 o2=>NB r2<|.test r2.toBool (.call 120 [VI o1_0] [] fun r3 o3=>NS r3<|.ai (ah (mk [116])+ah r3.toStr<=9223372036854775807)<|.done 0 [x0,x1,VS (((mk [116]):ByteArray)++r3.toStr)] [.cells [o0_0],.cells [VI (IntKind.wrap .i64 (o1_0+1))]]) (.done 1 [x0,x1,VS x9] [.cells [o0_0],.cells [VI o1_0]]))
abbrev ET:=cF Tryz.prog 100 OI Ie
theorem OR(x0:AV)(x1:AV)(x9:ByteArray)(o0_0:AV)(o1_0:Int)(h:kO 100 (IG x0 x1 x9 o0_0 o1_0) ET U):ET [x0,x1,VS x9] [.cells [o0_0],.cells [VI o1_0]] U :=
 gQ Pv h
def Q8(a0:AV)(a1:ByteArray):Tree :=
 .call 149 [a0,VS a1] [] fun r1 o1=>NI r1<|.done 0 [VB (decide (r1.toInt≥(0:Int)))] []
theorem UX(a0:AV)(a1:ByteArray)(ha0:LK.has .sl a0)(h:dq 9 (Q8 a0 a1) R):aq Tryz.prog 124 [a0,VS a1] [] R :=
 uQ (ag (bN ha0) (ag (az _) aC)) (oQ [] Tryz.f124 h)
def P4(a0:AV):Tree :=
 .call 122 [a0] [] fun r1 o1=>NL r1<|.call 150 [r1,.v (.func (.func 118) #[] #[])] [] fun r2 o2=>NB r2<|.done 0 [VB (!r2.toBool)] []
theorem TJ(a0:AV)(ha0:LK.has .ptr a0)(h:dq 7 (P4 a0) R):aq Tryz.prog 125 [a0] [] R :=
 uQ (ag (bI ha0) aC) (oQ [] Tryz.f125 h)
def Km:LI:={hd:={bQ:=[(3,.k .ptr),(10,.k (.int .i64)),(11,.k (.int .i64))]},xs:={bQ:=[(3,.k .ptr)]},rt:={},ex:=0}
def Lp:Code:=cL (cG Tryz.f127) 3
def Ld:List (Nat×LI):=[(3,Km)]
def Is(a0_0:AV)(a0_1:AV):Tree :=
 NZ a0_0<|NZ a0_0<|.ai (LK.has (.int .i64) ((a0_0.deref.drop 2).hA)/\1<=(a0_0.deref.drop 2).length)<|.loop Lp Km [a0_1,VI (((a0_0.deref.drop 2).hA).toInt),VI 0] [] (fun y1 q1=>NP (y1.hA)<|NZ (y1.hA)<|NZ (y1.hA)<|.ai (LK.has .ptr ((y1.hA).deref.hA)/\1<=((y1.hA).deref).length)<|.done 0 [((y1.hA).deref.hA)] []) (fun y1 q1=>.done 0 [.any] [])
theorem MG(a0_0:AV)(a0_1:AV)(ha0_0:LK.has .ptr a0_0)(ha0_1:LK.has .ptr a0_1)(h:dq 22 (Is a0_0 a0_1) R):aq Tryz.prog 127 [.agg [a0_0,a0_1]] [] R :=
 uQ (ag (bX (ag (bI ha0_0) (ag (bI ha0_1) aC))) aC) (oQ Ld Tryz.f127 h)
def CU(x3:AV)(x10:Int)(x11:Int):Tree :=
 NP x3<|NI (VI x10)<|NI (VI x11)<|.test (decide (x11<x10)) (NZ x3<|NZ x3<|ei (x3.deref.drop 1)<|.done 0 [((x3.deref.drop 1).hA),VI x10,VI (IntKind.wrap .i64 (x11+1))] []) (.done 1 [x3] [])
abbrev FP:=cF Tryz.prog 22 Lp Km
theorem Ew(x3:AV)(x10:Int)(x11:Int)(h:kO 22 (CU x3 x10 x11) FP U):FP [x3,VI x10,VI x11] [] U :=
 gQ Ld h
def Pd(a0:ByteArray):Tree :=
 .test (decide ((ah a0:Int)<(2:Int))) (.done 0 [VB false] []) (.test (decide ((ah a0:Int)>(3:Int))) (.done 0 [VB false] []) (.ai (0<=(0:Int)/\(0:Int)<ah a0)<|.test ((bt a0 0) != (101:Int)) (.done 0 [VB false] []) (.ai (0<=(1:Int)/\(1:Int)<=(ah a0:Int)/\(ah a0:Int)<=(ah a0:Int))<|.call 153 [VS (cz a0 (bK 1) (bK (ah a0:Int))),VS (mk [48,49,50,51,52,53,54,55,56,57])] [] fun r1 o1=>NS r1<|.test (!(af r1.toStr==af (mk []))) (.done 0 [VB false] []) (.test ((ah a0:Int)==(2:Int)) (.done 0 [VB true] []) (.ai (0<=(1:Int)/\(1:Int)<ah a0)<|.done 0 [VB ((bt a0 1) != (48:Int))] [])))))
theorem SM(a0:ByteArray)(h:dq 30 (Pd a0) R):aq Tryz.prog 128 [VS a0] [] R :=
 uQ (ag (az _) aC) (oQ [] Tryz.f128 h)
def Na(a0:AV)(a1:ByteArray):Tree :=
 .ai (LK.has .sl a0/\ck 1 a0.elems/\((([]:List (List AV)).length)+a0.elems.length)*16<=140737488355328)<|.ai (ck 1 [[VS a1]]/\(((([]:List (List AV))++a0.elems).length)+([[VS a1]]:List (List AV)).length)*16<=140737488355328)<|.done 0 [.vec 0] [.vec 1 ((([]:List (List AV))++a0.elems)++([[VS a1]]:List (List AV)))]
theorem Ud(a0:AV)(a1:ByteArray)(ha0:LK.has .sl a0)(h:dq 11 (Na a0 a1) R):aq Tryz.prog 129 [a0,VS a1] [] R :=
 uQ (ag (bN ha0) (ag (az _) aC)) (oF [] {mu:=[],own:=[0]} Tryz.f129 h)
def IZ:LI:={hd:={bQ:=[(3,.k .str),(7,.k (.int .i64))],refs:=[(1,1)],cv:=[(1,[.lk .str,.lk .sl,.lk .str])]},xs:={},rt:={bQ:=[(2,.k .bool)]},ex:=0}
def Pn:Code:=cL (cG Tryz.f130) 6
def Mb:List (Nat×LI):=[(6,IZ)]
def Li(a0_0:ByteArray)(a0_1:AV)(a0_2:ByteArray):Tree :=
 .call 154 [VS a0_0] [] fun r1 o1=>NT r1<|NS (r1.comp 0)<|NB (r1.comp 1)<|.call 26 [VS a0_0] [] fun r2 o2=>NT r2<|.ai ((r2.comp 0)=.agg (r2.comp 0).cs/\(r2.comp 0).cs.length=2/\bC [.str,.sl] ((r2.comp 0).cs) 0)<|NB (r2.comp 1)<|.test (!((r1.comp 1).toBool)) (.done 0 [VB false] []) (.test (!((r2.comp 1).toBool)) (.done 0 [VB false] []) (NL a0_1<|.test (decide ((a0_1.elems.length:Int)>(50:Int))) (.done 0 [VB false] []) (.call 27 [VS a0_0,VS a0_2,VI 100] [] fun r3 o3=>NB r3<|.test (!r3.toBool) (.done 0 [VB false] []) (.loop Pn IZ [VS ((r1.comp 0).toStr),VI 0] [.cells [VS a0_0,a0_1,VS a0_2]] (fun y5 q5=>.done 0 [VB true] []) (fun y5 q5=>NB (y5.hA)<|.done 0 [VB ((y5.hA).toBool)] [])))))
theorem T1(a0_0:ByteArray)(a0_1:AV)(a0_2:ByteArray)(ha0_1:LK.has .sl a0_1)(h:dq 55 (Li a0_0 a0_1 a0_2) R):aq Tryz.prog 130 [.agg [VS a0_0,a0_1,VS a0_2]] [] R :=
 uQ (ag (bX (ag (az _) (ag (bN ha0_1) (ag (az _) aC)))) aC) (oQ Mb Tryz.f130 h)
def Ki(x3:ByteArray)(x7:Int)(o1_0:ByteArray)(o1_1:AV)(o1_2:ByteArray):Tree :=
 NS (VS x3)<|NI (VI x7)<|.ai (Ob.cells [VS o1_0,o1_1,VS o1_2]=.cells [VS o1_0,o1_1,VS o1_2])<|.ai (ae [.lk .str,.lk .sl,.lk .str] [VS o1_0,o1_1,VS o1_2] 0 [])<|NL o1_1<|.test (decide (x7<(o1_1.elems.length:Int))) (NG o1_1 x7 1<|lL (o1_1.ix x7)<|.call 27 [VS x3,VS (((o1_1.ix x7).hA).toStr),VI 100] [] fun r1 o1=>NB r1<|.test (!r1.toBool) (.done 2 [VB false] []) (.done 0 [VS x3,VI (IntKind.wrap .i64 (x7+1))] [.cells [VS o1_0,o1_1,VS o1_2]])) (.done 1 [] [])
abbrev IY:=cF Tryz.prog 55 Pn IZ
theorem MV(x3:ByteArray)(x7:Int)(o1_0:ByteArray)(o1_1:AV)(o1_2:ByteArray)(h:kO 55 (Ki x3 x7 o1_0 o1_1 o1_2) IY U):IY [VS x3,VI x7] [.cells [VS o1_0,o1_1,VS o1_2]] U :=
 gQ Mb h
def Ot(a0_0:ByteArray)(a0_1:AV)(a0_2:ByteArray):Tree :=
 NL a0_1<|.test ((a0_1.elems.length:Int)==(0:Int)) (.done 0 [.cm [.agg [VS a0_0,a0_1,VS a0_2],VB false]] []) (.ai (LK.has .sl a0_1/\0<=(IntKind.wrap .i64 ((a0_1.elems.length:Int)-1))/\(IntKind.wrap .i64 ((a0_1.elems.length:Int)-1))<a0_1.elems.length/\(a0_1.ix (IntKind.wrap .i64 ((a0_1.elems.length:Int)-1))).length=1)<|lL (a0_1.ix (IntKind.wrap .i64 ((a0_1.elems.length:Int)-1)))<|.call 155 [VS a0_0,VS (((a0_1.ix (IntKind.wrap .i64 ((a0_1.elems.length:Int)-1))).hA).toStr),VS a0_2] [] fun r1 o1=>NT r1<|NS (r1.comp 0)<|NB (r1.comp 1)<|.ai (LK.has .sl a0_1/\0<=(0:Int)/\(0:Int)<=(IntKind.wrap .i64 ((a0_1.elems.length:Int)-1))/\(IntKind.wrap .i64 ((a0_1.elems.length:Int)-1))<=(a0_1.elems.length:Int))<|.ai (ck 1 ((a0_1.elems.take (bK (IntKind.wrap .i64 ((a0_1.elems.length:Int)-1)))).drop (bK 0))/\((([]:List (List AV)).length)+((a0_1.elems.take (bK (IntKind.wrap .i64 ((a0_1.elems.length:Int)-1)))).drop (bK 0)).length)*16<=140737488355328)<|.done 0 [.cm [.agg [VS a0_0,.sl (([]:List (List AV))++((a0_1.elems.take (bK (IntKind.wrap .i64 ((a0_1.elems.length:Int)-1)))).drop (bK 0))),VS ((r1.comp 0).toStr)],VB ((r1.comp 1).toBool)]] [])
theorem Sq(a0_0:ByteArray)(a0_1:AV)(a0_2:ByteArray)(ha0_1:LK.has .sl a0_1)(h:dq 39 (Ot a0_0 a0_1 a0_2) R):aq Tryz.prog 131 [.agg [VS a0_0,a0_1,VS a0_2]] [] R :=
 uQ (ag (bX (ag (az _) (ag (bN ha0_1) (ag (az _) aC)))) aC) (oQ [] Tryz.f131 h)
def Hu:LI:={hd:={bQ:=[(2,.k .sl),(9,.k .sl),(10,.k (.int .i64))],refs:=[(4,4)],cv:=[(4,[.lk .str,.lk .sl])],eV:=[(3,3)]},xs:={eV:=[(3,3)]},rt:={},ex:=0}
def LF:Code:=cL (cG Tryz.f132) 4
def MN:List (Nat×LI):=[(4,Hu)]
def MX(a0_0:ByteArray)(a0_1:AV)(a1_0:ByteArray)(a1_1:AV)(a2:AV)(e3:List (List AV)):Tree :=
 .call 60 [.agg [VS a1_0,a1_1]] [] fun r1 o1=>NS r1<|.ai (ck 3 [[a2,VS r1.toStr,VS (mk [])]]/\((e3.length)+([[a2,VS r1.toStr,VS (mk [])]]:List (List AV)).length)*56<=140737488355328)<|NG a0_1 2 2<|NE (a0_1.ix (2:Int))<|NG a0_1 1 2<|lL (a0_1.ix (1:Int))<|NG a1_1 1 2<|NE (a1_1.ix (1:Int))<|.call 37 [.agg [VS (((a0_1.ix (2:Int)).getD 0 .any).toStr),((a0_1.ix (2:Int)).getD 1 .any)],VS (((a0_1.ix (1:Int)).hA).toStr),.agg [VS (((a1_1.ix (1:Int)).getD 0 .any).toStr),((a1_1.ix (1:Int)).getD 1 .any)]] [] fun r2 o2=>NL r2<|.loop LF Hu [a2,r2,VI 0] [.cells [VS a0_0,a0_1],.vec 3 (e3++([[a2,VS r1.toStr,VS (mk [])]]:List (List AV)))] (fun y4 q4=>.ai (((q4.drop 0).hO)=.vec 3 ((q4.drop 0).hO).es)<|.done 0 [.vec 1] [.dead,.vec 3 ((q4.hO).es)]) (fun y4 q4=>.fail)
theorem Um(a0_0:ByteArray)(a0_1:AV)(a1_0:ByteArray)(a1_1:AV)(a2:AV)(e3:List (List AV))(ha0_1:LK.has .sl a0_1)(ha1_1:LK.has .sl a1_1)(ha2:LK.has .sl a2)(h:dq 58 (MX a0_0 a0_1 a1_0 a1_1 a2 e3) R):aq Tryz.prog 132 [.agg [VS a0_0,a0_1],.agg [VS a1_0,a1_1],a2,.vec 0] [.vec 3 e3] R :=
 aq.oE (bG (fV _) cH) (aq.up (ag (bX (ag (az _) (ag (bN ha0_1) aC))) (ag (bX (ag (az _) (ag (bN ha1_1) aC))) (ag (bN ha2) (ag (az _) aC)))) (oF MN {mu:=[(3,.one (.vec))],own:=[0]} Tryz.f132 h))
def G9(x2:AV)(x9:AV)(x10:Int)(o4_0:ByteArray)(o4_1:AV)(e3:List (List AV)):Tree :=
 NL x2<|NL x9<|NI (VI x10)<|.ai (Ob.cells [VS o4_0,o4_1]=.cells [VS o4_0,o4_1])<|.ai (ae [.lk .str,.lk .sl] [VS o4_0,o4_1] 0 [.vec 3 e3])<|.ai (Ob.vec 3 e3=.vec 3 e3)<|NL x9<|.test (decide (x10<(x9.elems.length:Int))) (.test (decide ((e3.length:Int)<=(100:Int))) (NG x9 x10 4<|NE ((x9.ix x10).drop 2)<|.ai (LK.has .sl x2/\ck 1 x2.elems/\((([]:List (List AV)).length)+x2.elems.length)*8<=140737488355328)<|.ai (ck 1 [[VI x10]]/\(((([]:List (List AV))++x2.elems).length)+([[VI x10]]:List (List AV)).length)*8<=140737488355328)<|.call 132 [.agg [VS o4_0,o4_1],.agg [VS ((((x9.ix x10).drop 2).getD 0 .any).toStr),(((x9.ix x10).drop 2).getD 1 .any)],.sl ((([]:List (List AV))++x2.elems)++([[VI x10]]:List (List AV))),.vec 0] [.vec 3 e3] fun r1 o1=>.ai (r1=.vec 1/\(o1.tail.hO)=.vec 3 (o1.tail.hO).es)<|.done 0 [x2,x9,VI (IntKind.wrap .i64 (x10+1))] [.cells [VS o4_0,o4_1],.vec 3 ((o1.tail.hO).es)]) (.done 1 [] [.vec 3 e3])) (.done 1 [] [.vec 3 e3])
abbrev J5:=cF Tryz.prog 58 LF Hu
theorem PR(x2:AV)(x9:AV)(x10:Int)(o4_0:ByteArray)(o4_1:AV)(e3:List (List AV))(h:kO 58 (G9 x2 x9 x10 o4_0 o4_1 e3) J5 U):J5 [x2,x9,VI x10] [.cells [VS o4_0,o4_1],.vec 3 e3] U :=
 gQ MN h
def DH(a0_0:ByteArray)(a0_1:AV)(a1:AV):Tree :=
 .call 54 [.agg [VS a0_0,a0_1]] [] fun r1 o1=>NS r1<|.test (af r1.toStr==af (mk [43])) (NG a0_1 1 2<|NE (a0_1.ix (1:Int))<|.call 133 [.agg [VS (((a0_1.ix (1:Int)).getD 0 .any).toStr),((a0_1.ix (1:Int)).getD 1 .any)],a1] [] fun r2 o2=>NB r2<|.test r2.toBool (NG a0_1 2 2<|NE (a0_1.ix (2:Int))<|.call 133 [.agg [VS (((a0_1.ix (2:Int)).getD 0 .any).toStr),((a0_1.ix (2:Int)).getD 1 .any)],a1] [] fun r3 o3=>NB r3<|.done 0 [VB r3.toBool] []) (.done 0 [VB false] [])) (.test (af r1.toStr==af (mk [42])) (NG a0_1 1 2<|NE (a0_1.ix (1:Int))<|.call 133 [.agg [VS (((a0_1.ix (1:Int)).getD 0 .any).toStr),((a0_1.ix (1:Int)).getD 1 .any)],a1] [] fun r4 o4=>NB r4<|.test r4.toBool (.done 0 [VB true] []) (NG a0_1 2 2<|NE (a0_1.ix (2:Int))<|.call 133 [.agg [VS (((a0_1.ix (2:Int)).getD 0 .any).toStr),((a0_1.ix (2:Int)).getD 1 .any)],a1] [] fun r5 o5=>NB r5<|.done 0 [VB r5.toBool] [])) (.test (af r1.toStr==af (mk [114,101,99])) (NG a0_1 2 2<|NE (a0_1.ix (2:Int))<|NG a0_1 1 2<|lL (a0_1.ix (1:Int))<|.call 129 [a1,VS (((a0_1.ix (1:Int)).hA).toStr)] [] fun r6 o6=>.ai (r6=.vec 0/\(o6.hO)=.vec 1 (o6.hO).es)<|.ai (∀x,x∈o6->dI x)<|.call 133 [.agg [VS (((a0_1.ix (2:Int)).getD 0 .any).toStr),((a0_1.ix (2:Int)).getD 1 .any)],.sl ((o6.hO).es)] [] fun r7 o7=>NB r7<|.done 0 [VB r7.toBool] []) (.test (af a0_0==af (mk [48])) (.done 0 [VB true] []) (.call 139 [a1,VS a0_0] [] fun r8 o8=>NB r8<|.done 0 [VB r8.toBool] []))))
theorem F0(a0_0:ByteArray)(a0_1:AV)(a1:AV)(ha0_1:LK.has .sl a0_1)(ha1:LK.has .sl a1)(h:dq 62 (DH a0_0 a0_1 a1) R):aq Tryz.prog 133 [.agg [VS a0_0,a0_1],a1] [] R :=
 uQ (ag (bX (ag (az _) (ag (bN ha0_1) aC))) (ag (bN ha1) aC)) (oQ [] Tryz.f133 h)
def KE:LI:={hd:={bQ:=[(3,.k (.int .i64)),(4,.k (.int .i64))],refs:=[(1,1)],cv:=[(1,[.lk .str,.lk .sl])]},xs:={bQ:=[(3,.k (.int .i64))]},rt:={},ex:=0}
def NV:Code:=cL (cG Tryz.f134) 5
def Ng:List (Nat×LI):=[(5,KE)]
def JX(a0_0:ByteArray)(a0_1:AV):Tree :=
 .test (!(af a0_0==af (mk []))) (.done 0 [VI 1] []) (.loop NV KE [VI 0,VI 0] [.cells [VS a0_0,a0_1]] (fun y2 q2=>NI (y2.hA)<|.done 0 [VI ((y2.hA).toInt)] []) (fun y2 q2=>.done 0 [.any] []))
theorem Qb(a0_0:ByteArray)(a0_1:AV)(ha0_1:LK.has .sl a0_1)(h:dq 24 (JX a0_0 a0_1) R):aq Tryz.prog 134 [.agg [VS a0_0,a0_1]] [] R :=
 uQ (ag (bX (ag (az _) (ag (bN ha0_1) aC))) aC) (oQ Ng Tryz.f134 h)
def Kt(x3:Int)(x4:Int)(o1_0:ByteArray)(o1_1:AV):Tree :=
 NI (VI x3)<|NI (VI x4)<|.ai (Ob.cells [VS o1_0,o1_1]=.cells [VS o1_0,o1_1])<|.ai (ae [.lk .str,.lk .sl] [VS o1_0,o1_1] 0 [])<|NL o1_1<|.test (decide (x4<(o1_1.elems.length:Int))) (NG o1_1 x4 2<|NE (o1_1.ix x4)<|.call 134 [.agg [VS (((o1_1.ix x4).getD 0 .any).toStr),((o1_1.ix x4).getD 1 .any)]] [] fun r1 o1=>NI r1<|.done 0 [VI (IntKind.wrap .i64 (x3+r1.toInt)),VI (IntKind.wrap .i64 (x4+1))] [.cells [VS o1_0,o1_1]]) (.done 1 [VI x3] [])
abbrev HU:=cF Tryz.prog 24 NV KE
theorem Qu(x3:Int)(x4:Int)(o1_0:ByteArray)(o1_1:AV)(h:kO 24 (Kt x3 x4 o1_0 o1_1) HU U):HU [VI x3,VI x4] [.cells [VS o1_0,o1_1]] U :=
 gQ Ng h
def Ll(a0_0:ByteArray)(a0_1:AV):Tree :=
 NG a0_1 1 2<|lL (a0_1.ix (1:Int))<|NG a0_1 2 2<|NE (a0_1.ix (2:Int))<|.call 156 [.agg [VS (((a0_1.ix (2:Int)).getD 0 .any).toStr),((a0_1.ix (2:Int)).getD 1 .any)],VS (((a0_1.ix (1:Int)).hA).toStr),.agg [VS a0_0,a0_1]] [] fun r1 o1=>NB r1<|.test (!r1.toBool) (.done 0 [.cm [.agg [VS a0_0,a0_1],VB false]] []) (NG a0_1 2 2<|NE (a0_1.ix (2:Int))<|.call 157 [.agg [VS (((a0_1.ix (2:Int)).getD 0 .any).toStr),((a0_1.ix (2:Int)).getD 1 .any)],VS (((a0_1.ix (1:Int)).hA).toStr),.agg [VS a0_0,a0_1]] [] fun r2 o2=>NA r2<|.done 0 [.cm [.agg [VS ((r2.cs.getD 0 .any).toStr),(r2.cs.getD 1 .any)],VB true]] [])
theorem Uq(a0_0:ByteArray)(a0_1:AV)(ha0_1:LK.has .sl a0_1)(h:dq 26 (Ll a0_0 a0_1) R):aq Tryz.prog 135 [.agg [VS a0_0,a0_1]] [] R :=
 uQ (ag (bX (ag (az _) (ag (bN ha0_1) aC))) aC) (oQ [] Tryz.f135 h)
def P0(a0:Int):Tree :=
 .test (decide (a0<((-9223372036854775807):Int))) (.done 0 [VS (mk [45,57,50,50,51,51,55,50,48,51,54,56,53,52,55,55,53,56,48,56])] []) (.test (decide (a0<(0:Int))) (.call 136 [VI (IntKind.wrap .i64 (0-a0))] [] fun r1 o1=>NS r1<|.ai (ah (mk [45])+ah r1.toStr<=9223372036854775807)<|.done 0 [VS (((mk [45]):ByteArray)++r1.toStr)] []) (.test (decide (a0<(10:Int))) (.ai (j8 [[.v (.int .u8 (IntKind.wrap .u8 (IntKind.wrap .i64 (48+a0))))]])<|.done 0 [VS (⟨(bytesOf [[.v (.int .u8 (IntKind.wrap .u8 (IntKind.wrap .i64 (48+a0))))]]).toArray⟩)] []) (.ai (¬(10:Int)=0)<|.call 136 [VI (IntKind.wrap .i64 (Int.tdiv a0 10))] [] fun r2 o2=>NS r2<|.ai (¬(10:Int)=0)<|.ai (j8 [[.v (.int .u8 (IntKind.wrap .u8 (IntKind.wrap .i64 (48+(dR a0 10)))))]])<|.ai (ah r2.toStr+ah (⟨(bytesOf [[.v (.int .u8 (IntKind.wrap .u8 (IntKind.wrap .i64 (48+(dR a0 10)))))]]).toArray⟩)<=9223372036854775807)<|.done 0 [VS ((r2.toStr:ByteArray)++(⟨(bytesOf [[.v (.int .u8 (IntKind.wrap .u8 (IntKind.wrap .i64 (48+(dR a0 10)))))]]).toArray⟩))] [])))
theorem S4(a0:Int)(h:dq 28 (P0 a0) R):aq Tryz.prog 136 [VI a0] [] R :=
 uQ (ag (az _) aC) (oQ [] Tryz.f136 h)
def Kx:LI:={hd:={bQ:=[(1,.k .sl),(2,.k .sl),(9,.k (.int .i64))],refs:=[(4,4),(8,8)],cv:=[(4,[.lk .str,.lk .sl]),(8,[.lk .str,.lk .sl]),(0,[.vec 1,.lk (.int .i64)])]},xs:={refs:=[(4,4),(8,8)],cv:=[(4,[.lk .str,.lk .sl]),(8,[.lk .str,.lk .sl]),(0,[.vec 1,.lk (.int .i64)])]},rt:={refs:=[(8,8)],cv:=[(8,[.lk .str,.lk .sl]),(0,[.vec 1,.lk (.int .i64)])]},ex:=0,fx:=[0]}
def Np:Code:=cL (cG Tryz.f137) 3
def IM:LI:={hd:={bQ:=[(1,.k .sl),(2,.k .sl),(10,.k .str)],refs:=[(3,0),(4,4),(8,8)],cv:=[(0,[.vec 1,.lk (.int .i64)]),(4,[.lk .str,.lk .sl]),(8,[.lk .str,.lk .sl])]},xs:={bQ:=[(1,.k .sl),(2,.k .sl),(10,.k .str)],refs:=[(3,0),(4,4),(8,8)],cv:=[(0,[.vec 1,.lk (.int .i64)]),(4,[.lk .str,.lk .sl]),(8,[.lk .str,.lk .sl])]},rt:={cv:=[(0,[.vec 1,.lk (.int .i64)])]},ex:=2,fx:=[0]}
def K9:Code:=cL (cG Tryz.f137) 10
def JA:List (Nat×LI):=[(3,Kx),(10,IM)]
end
end Go.Proofs.Trees
