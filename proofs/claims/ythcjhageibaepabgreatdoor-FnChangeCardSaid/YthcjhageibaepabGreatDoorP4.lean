/-
  Part of a proof: Go functions read by values, trees of functions, their contracts.
-/
import Derived.Test.YthcjhageibaepabGreatDoorP3
import Derived.Shelf.Lays
import Derived.Shelf.LaysM
import Derived.Shelf.Strconv.Itoa3
import Derived.Shelf.Strconv.Atoi
import Derived.Shelf.Strings.SlTrimAscii
import Derived.Shelf.Strings.Search3
import Derived.Test.YthcjhageibaepabGreatDoorProg
set_option linter.unusedVariables false
set_option linter.unusedSimpArgs false
open And renaming intro→aJ
open ByteArray renaming extract→cx,size→ah,toList→ae
open Int renaming tmod→dN,toNat→bP
namespace Go.Proofs
open Go.Shelf
def Tryz.xq:Go.Shelf.Ren:=⟨fun|160=>153|232=>167|231=>166|227=>168|234=>170|233=>169|236=>172|235=>171|228=>185|271=>188|151=>187|197=>186|120=>202|152=>201|260=>200|137=>210|119=>211|224=>206|225=>205|217=>204|266=>212|n=>n,fun|9=>9|4=>4|3=>3|5=>5|117=>219|116=>218|0=>0|124=>222|21=>21|105=>239|46=>234|119=>258|139=>261|138=>260|n=>n,fun|3=>4|4=>5|n=>n⟩
theorem Tryz.F8:Go.Proofs.Lays.n160 Tryz.prog Tryz.xq:={
 mixed:=by kernel_rfl,
 f119:=Tryz.func211.trans (congrArg some (by kernel_rfl)),
 f120:=Tryz.func202.trans (congrArg some (by kernel_rfl)),
 f137:=Tryz.func210.trans (congrArg some (by kernel_rfl)),
 f151:=Tryz.func187.trans (congrArg some (by kernel_rfl)),
 f152:=Tryz.func201.trans (congrArg some (by kernel_rfl)),
 f160:=Tryz.func153.trans (congrArg some (by kernel_rfl)),
 f197:=Tryz.func186.trans (congrArg some (by kernel_rfl)),
 f217:=Tryz.func204.trans (congrArg some (by kernel_rfl)),
 f224:=Tryz.func206.trans (congrArg some (by kernel_rfl)),
 f225:=Tryz.func205.trans (congrArg some (by kernel_rfl)),
 f227:=Tryz.func168.trans (congrArg some (by kernel_rfl)),
 f228:=Tryz.func185.trans (congrArg some (by kernel_rfl)),
 f231:=Tryz.func166.trans (congrArg some (by kernel_rfl)),
 f232:=Tryz.func167.trans (congrArg some (by kernel_rfl)),
 f233:=Tryz.func169.trans (congrArg some (by kernel_rfl)),
 f234:=Tryz.func170.trans (congrArg some (by kernel_rfl)),
 f235:=Tryz.func171.trans (congrArg some (by kernel_rfl)),
 f236:=Tryz.func172.trans (congrArg some (by kernel_rfl)),
 f260:=Tryz.func200.trans (congrArg some (by kernel_rfl)),
 f266:=Tryz.func212.trans (congrArg some (by kernel_rfl)),
 f271:=Tryz.func188.trans (congrArg some (by kernel_rfl)),
 t0:=Tryz.underlying0,
 a0:=Tryz.isAgg0,
 z0:=Tryz.sizeOf0,
 v0:=Tryz.zeroValue0,
 t3:=Tryz.underlying3,
 a3:=Tryz.isAgg3,
 z3:=Tryz.sizeOf3,
 v3:=Tryz.zeroValue3,
 t4:=Tryz.underlying4,
 a4:=Tryz.isAgg4,
 z4:=Tryz.sizeOf4,
 v4:=Tryz.zeroValue4,
 t5:=Tryz.underlying5,
 a5:=Tryz.isAgg5,
 z5:=Tryz.sizeOf5,
 v5:=Tryz.zeroValue5,
 t9:=Tryz.underlying9,
 a9:=Tryz.isAgg9,
 z9:=Tryz.sizeOf9,
 v9:=Tryz.zeroValue9,
 t21:=Tryz.underlying21,
 a21:=Tryz.isAgg21,
 z21:=Tryz.sizeOf21,
 v21:=Tryz.zeroValue21,
 t46:=Tryz.underlying234,
 a46:=Tryz.isAgg234,
 z46:=Tryz.sizeOf234,
 v46:=Tryz.zeroValue234,
 t105:=Tryz.underlying239,
 a105:=Tryz.isAgg239,
 z105:=Tryz.sizeOf239,
 v105:=Tryz.zeroValue239,
 t116:=Tryz.underlying218,
 a116:=Tryz.isAgg218,
 z116:=Tryz.sizeOf218,
 t117:=Tryz.underlying219,
 a117:=Tryz.isAgg219,
 z117:=Tryz.sizeOf219,
 v117:=Tryz.zeroValue219,
 t119:=Tryz.underlying258,
 a119:=Tryz.isAgg258,
 z119:=Tryz.sizeOf258,
 t124:=Tryz.underlying222,
 a124:=Tryz.isAgg222,
 z124:=Tryz.sizeOf222,
 v124:=Tryz.zeroValue222,
 t138:=Tryz.underlying260,
 a138:=Tryz.isAgg260,
 z138:=Tryz.sizeOf260,
 v138:=Tryz.zeroValue260,
 t139:=Tryz.underlying261,
 a139:=Tryz.isAgg261,
 z139:=Tryz.sizeOf261,
 v139:=Tryz.zeroValue261,
 g3:=by kernel_rfl,
 g4:=by kernel_rfl}
def Tryz.xk:Go.Shelf.Ren:=⟨fun|144=>158|143=>177|219=>192|217=>204|225=>205|224=>206|267=>207|266=>212|314=>213|n=>n,fun|9=>9|4=>4|3=>3|5=>5|46=>234|146=>263|51=>246|n=>n,fun|1=>3|n=>n⟩
theorem Tryz.Eg:Go.Proofs.Lays.n144 Tryz.prog Tryz.xk:={
 mixed:=by kernel_rfl,
 f143:=Tryz.func177.trans (congrArg some (by kernel_rfl)),
 f144:=Tryz.func158.trans (congrArg some (by kernel_rfl)),
 f217:=Tryz.func204.trans (congrArg some (by kernel_rfl)),
 f219:=Tryz.func192.trans (congrArg some (by kernel_rfl)),
 f224:=Tryz.func206.trans (congrArg some (by kernel_rfl)),
 f225:=Tryz.func205.trans (congrArg some (by kernel_rfl)),
 f266:=Tryz.func212.trans (congrArg some (by kernel_rfl)),
 f267:=Tryz.func207.trans (congrArg some (by kernel_rfl)),
 f314:=Tryz.func213.trans (congrArg some (by kernel_rfl)),
 t3:=Tryz.underlying3,
 a3:=Tryz.isAgg3,
 z3:=Tryz.sizeOf3,
 v3:=Tryz.zeroValue3,
 t4:=Tryz.underlying4,
 a4:=Tryz.isAgg4,
 z4:=Tryz.sizeOf4,
 v4:=Tryz.zeroValue4,
 t5:=Tryz.underlying5,
 a5:=Tryz.isAgg5,
 z5:=Tryz.sizeOf5,
 v5:=Tryz.zeroValue5,
 t9:=Tryz.underlying9,
 a9:=Tryz.isAgg9,
 z9:=Tryz.sizeOf9,
 v9:=Tryz.zeroValue9,
 t46:=Tryz.underlying234,
 a46:=Tryz.isAgg234,
 z46:=Tryz.sizeOf234,
 v46:=Tryz.zeroValue234,
 t51:=Tryz.underlying246,
 a51:=Tryz.isAgg246,
 z51:=Tryz.sizeOf246,
 v51:=Tryz.zeroValue246,
 t146:=Tryz.underlying263,
 a146:=Tryz.isAgg263,
 z146:=Tryz.sizeOf263,
 v146:=Tryz.zeroValue263,
 g1:=by kernel_rfl}
def Tryz.wV:Go.Shelf.Ren:=⟨fun|172=>126|244=>151|245=>152|247=>161|279=>162|280=>163|281=>164|282=>165|287=>182|316=>183|171=>120|205=>184|321=>198|322=>199|243=>146|246=>159|283=>178|284=>179|285=>180|286=>181|129=>194|317=>193|318=>195|319=>196|320=>197|337=>208|338=>209|n=>n,fun|9=>9|3=>3|75=>182|76=>183|4=>4|5=>5|167=>210|37=>22|0=>0|85=>211|2=>2|168=>213|53=>227|175=>232|46=>234|210=>237|127=>251|145=>254|143=>252|21=>21|171=>226|173=>230|212=>245|51=>246|20=>20|213=>247|232=>265|233=>266|80=>94|n=>n,fun|15=>0|16=>1|17=>2|18=>6|19=>7|n=>n⟩
theorem Tryz.FI:Go.Proofs.Lays.n172 Tryz.prog Tryz.wV:={
 mixed:=by kernel_rfl,
 f129:=Tryz.func194.trans (congrArg some (by kernel_rfl)),
 f171:=Tryz.func120.trans (congrArg some (by kernel_rfl)),
 f172:=Tryz.func126.trans (congrArg some (by kernel_rfl)),
 f205:=Tryz.func184.trans (congrArg some (by kernel_rfl)),
 f243:=Tryz.func146.trans (congrArg some (by kernel_rfl)),
 f244:=Tryz.func151.trans (congrArg some (by kernel_rfl)),
 f245:=Tryz.func152.trans (congrArg some (by kernel_rfl)),
 f246:=Tryz.func159.trans (congrArg some (by kernel_rfl)),
 f247:=Tryz.func161.trans (congrArg some (by kernel_rfl)),
 f279:=Tryz.func162.trans (congrArg some (by kernel_rfl)),
 f280:=Tryz.func163.trans (congrArg some (by kernel_rfl)),
 f281:=Tryz.func164.trans (congrArg some (by kernel_rfl)),
 f282:=Tryz.func165.trans (congrArg some (by kernel_rfl)),
 f283:=Tryz.func178.trans (congrArg some (by kernel_rfl)),
 f284:=Tryz.func179.trans (congrArg some (by kernel_rfl)),
 f285:=Tryz.func180.trans (congrArg some (by kernel_rfl)),
 f286:=Tryz.func181.trans (congrArg some (by kernel_rfl)),
 f287:=Tryz.func182.trans (congrArg some (by kernel_rfl)),
 f316:=Tryz.func183.trans (congrArg some (by kernel_rfl)),
 f317:=Tryz.func193.trans (congrArg some (by kernel_rfl)),
 f318:=Tryz.func195.trans (congrArg some (by kernel_rfl)),
 f319:=Tryz.func196.trans (congrArg some (by kernel_rfl)),
 f320:=Tryz.func197.trans (congrArg some (by kernel_rfl)),
 f321:=Tryz.func198.trans (congrArg some (by kernel_rfl)),
 f322:=Tryz.func199.trans (congrArg some (by kernel_rfl)),
 f337:=Tryz.func208.trans (congrArg some (by kernel_rfl)),
 f338:=Tryz.func209.trans (congrArg some (by kernel_rfl)),
 t0:=Tryz.underlying0,
 a0:=Tryz.isAgg0,
 z0:=Tryz.sizeOf0,
 v0:=Tryz.zeroValue0,
 t2:=Tryz.underlying2,
 a2:=Tryz.isAgg2,
 z2:=Tryz.sizeOf2,
 v2:=Tryz.zeroValue2,
 t3:=Tryz.underlying3,
 a3:=Tryz.isAgg3,
 z3:=Tryz.sizeOf3,
 v3:=Tryz.zeroValue3,
 t4:=Tryz.underlying4,
 a4:=Tryz.isAgg4,
 z4:=Tryz.sizeOf4,
 v4:=Tryz.zeroValue4,
 t5:=Tryz.underlying5,
 a5:=Tryz.isAgg5,
 z5:=Tryz.sizeOf5,
 v5:=Tryz.zeroValue5,
 t9:=Tryz.underlying9,
 a9:=Tryz.isAgg9,
 z9:=Tryz.sizeOf9,
 v9:=Tryz.zeroValue9,
 t20:=Tryz.underlying20,
 a20:=Tryz.isAgg20,
 z20:=Tryz.sizeOf20,
 v20:=Tryz.zeroValue20,
 t21:=Tryz.underlying21,
 a21:=Tryz.isAgg21,
 z21:=Tryz.sizeOf21,
 v21:=Tryz.zeroValue21,
 t37:=Tryz.underlying22,
 a37:=Tryz.isAgg22,
 z37:=Tryz.sizeOf22,
 v37:=Tryz.zeroValue22,
 t46:=Tryz.underlying234,
 a46:=Tryz.isAgg234,
 z46:=Tryz.sizeOf234,
 v46:=Tryz.zeroValue234,
 t51:=Tryz.underlying246,
 a51:=Tryz.isAgg246,
 z51:=Tryz.sizeOf246,
 v51:=Tryz.zeroValue246,
 t53:=Tryz.underlying227,
 a53:=Tryz.isAgg227,
 z53:=Tryz.sizeOf227,
 v53:=Tryz.zeroValue227,
 t75:=Tryz.underlying182,
 a75:=Tryz.isAgg182,
 z75:=Tryz.sizeOf182,
 v75:=Tryz.zeroValue182,
 t76:=Tryz.underlying183,
 a76:=Tryz.isAgg183,
 z76:=Tryz.sizeOf183,
 v76:=Tryz.zeroValue183,
 t85:=Tryz.underlying211,
 a85:=Tryz.isAgg211,
 z85:=Tryz.sizeOf211,
 v85:=Tryz.zeroValue211,
 t127:=Tryz.underlying251,
 a127:=Tryz.isAgg251,
 z127:=Tryz.sizeOf251,
 v127:=Tryz.zeroValue251,
 t143:=Tryz.underlying252,
 a143:=Tryz.isAgg252,
 z143:=Tryz.sizeOf252,
 v143:=Tryz.zeroValue252,
 t145:=Tryz.underlying254,
 a145:=Tryz.isAgg254,
 z145:=Tryz.sizeOf254,
 v145:=Tryz.zeroValue254,
 t167:=Tryz.underlying210,
 a167:=Tryz.isAgg210,
 z167:=Tryz.sizeOf210,
 v167:=Tryz.zeroValue210,
 t168:=Tryz.underlying213,
 a168:=Tryz.isAgg213,
 z168:=Tryz.sizeOf213,
 v168:=Tryz.zeroValue213,
 t171:=Tryz.underlying226,
 a171:=Tryz.isAgg226,
 z171:=Tryz.sizeOf226,
 v171:=Tryz.zeroValue226,
 t173:=Tryz.underlying230,
 a173:=Tryz.isAgg230,
 z173:=Tryz.sizeOf230,
 v173:=Tryz.zeroValue230,
 t175:=Tryz.underlying232,
 a175:=Tryz.isAgg232,
 z175:=Tryz.sizeOf232,
 v175:=Tryz.zeroValue232,
 t210:=Tryz.underlying237,
 a210:=Tryz.isAgg237,
 z210:=Tryz.sizeOf237,
 v210:=Tryz.zeroValue237,
 t212:=Tryz.underlying245,
 a212:=Tryz.isAgg245,
 z212:=Tryz.sizeOf245,
 v212:=Tryz.zeroValue245,
 t213:=Tryz.underlying247,
 a213:=Tryz.isAgg247,
 z213:=Tryz.sizeOf247,
 t232:=Tryz.underlying265,
 a232:=Tryz.isAgg265,
 z232:=Tryz.sizeOf265,
 v232:=Tryz.zeroValue265,
 t233:=Tryz.underlying266,
 a233:=Tryz.isAgg266,
 z233:=Tryz.sizeOf266,
 v233:=Tryz.zeroValue266,
 g15:=by kernel_rfl,
 g16:=by kernel_rfl,
 g17:=by kernel_rfl,
 g18:=by kernel_rfl,
 g19:=by kernel_rfl}
def Tryz.vS:Go.Shelf.Ren:=⟨fun|171=>120|243=>146|246=>159|283=>178|284=>179|285=>180|286=>181|129=>194|317=>193|318=>195|319=>196|320=>197|337=>208|338=>209|n=>n,fun|3=>3|9=>9|2=>2|4=>4|171=>226|0=>0|53=>227|37=>22|5=>5|173=>230|212=>245|51=>246|20=>20|213=>247|46=>234|232=>265|233=>266|n=>n,fun|17=>2|18=>6|19=>7|n=>n⟩
theorem Tryz.DG:Go.Proofs.LaysM.n171 Tryz.prog Tryz.vS:={
 mixed:=by kernel_rfl,
 f129:=Tryz.func194.trans (congrArg some (by kernel_rfl)),
 f171:=Tryz.func120.trans (congrArg some (by kernel_rfl)),
 f243:=Tryz.func146.trans (congrArg some (by kernel_rfl)),
 f246:=Tryz.func159.trans (congrArg some (by kernel_rfl)),
 f283:=Tryz.func178.trans (congrArg some (by kernel_rfl)),
 f284:=Tryz.func179.trans (congrArg some (by kernel_rfl)),
 f285:=Tryz.func180.trans (congrArg some (by kernel_rfl)),
 f286:=Tryz.func181.trans (congrArg some (by kernel_rfl)),
 f317:=Tryz.func193.trans (congrArg some (by kernel_rfl)),
 f318:=Tryz.func195.trans (congrArg some (by kernel_rfl)),
 f319:=Tryz.func196.trans (congrArg some (by kernel_rfl)),
 f320:=Tryz.func197.trans (congrArg some (by kernel_rfl)),
 f337:=Tryz.func208.trans (congrArg some (by kernel_rfl)),
 f338:=Tryz.func209.trans (congrArg some (by kernel_rfl)),
 t0:=Tryz.underlying0,
 a0:=Tryz.isAgg0,
 z0:=Tryz.sizeOf0,
 v0:=Tryz.zeroValue0,
 t2:=Tryz.underlying2,
 a2:=Tryz.isAgg2,
 z2:=Tryz.sizeOf2,
 v2:=Tryz.zeroValue2,
 t3:=Tryz.underlying3,
 a3:=Tryz.isAgg3,
 z3:=Tryz.sizeOf3,
 v3:=Tryz.zeroValue3,
 t4:=Tryz.underlying4,
 a4:=Tryz.isAgg4,
 z4:=Tryz.sizeOf4,
 v4:=Tryz.zeroValue4,
 t5:=Tryz.underlying5,
 a5:=Tryz.isAgg5,
 z5:=Tryz.sizeOf5,
 v5:=Tryz.zeroValue5,
 t9:=Tryz.underlying9,
 a9:=Tryz.isAgg9,
 z9:=Tryz.sizeOf9,
 v9:=Tryz.zeroValue9,
 t20:=Tryz.underlying20,
 a20:=Tryz.isAgg20,
 z20:=Tryz.sizeOf20,
 v20:=Tryz.zeroValue20,
 t37:=Tryz.underlying22,
 a37:=Tryz.isAgg22,
 z37:=Tryz.sizeOf22,
 v37:=Tryz.zeroValue22,
 t46:=Tryz.underlying234,
 a46:=Tryz.isAgg234,
 z46:=Tryz.sizeOf234,
 v46:=Tryz.zeroValue234,
 t51:=Tryz.underlying246,
 a51:=Tryz.isAgg246,
 z51:=Tryz.sizeOf246,
 v51:=Tryz.zeroValue246,
 t53:=Tryz.underlying227,
 a53:=Tryz.isAgg227,
 z53:=Tryz.sizeOf227,
 v53:=Tryz.zeroValue227,
 t171:=Tryz.underlying226,
 a171:=Tryz.isAgg226,
 z171:=Tryz.sizeOf226,
 v171:=Tryz.zeroValue226,
 t173:=Tryz.underlying230,
 a173:=Tryz.isAgg230,
 z173:=Tryz.sizeOf230,
 v173:=Tryz.zeroValue230,
 t212:=Tryz.underlying245,
 a212:=Tryz.isAgg245,
 z212:=Tryz.sizeOf245,
 v212:=Tryz.zeroValue245,
 t213:=Tryz.underlying247,
 a213:=Tryz.isAgg247,
 z213:=Tryz.sizeOf247,
 t232:=Tryz.underlying265,
 a232:=Tryz.isAgg265,
 z232:=Tryz.sizeOf265,
 v232:=Tryz.zeroValue265,
 t233:=Tryz.underlying266,
 a233:=Tryz.isAgg266,
 z233:=Tryz.sizeOf266,
 v233:=Tryz.zeroValue266,
 g17:=by kernel_rfl,
 g18:=by kernel_rfl,
 g19:=by kernel_rfl,
 i0:=by kernel_rfl,
 i2:=by kernel_rfl,
 i3:=by kernel_rfl,
 i4:=by kernel_rfl,
 i5:=by kernel_rfl,
 i9:=by kernel_rfl,
 i20:=by kernel_rfl,
 i37:=by kernel_rfl,
 i46:=by kernel_rfl,
 i51:=by kernel_rfl,
 i53:=by kernel_rfl,
 i171:=by kernel_rfl,
 i173:=by kernel_rfl,
 i212:=by kernel_rfl,
 i232:=by kernel_rfl,
 i233:=by kernel_rfl,
 m17:=by kernel_rfl,
 m18:=by kernel_rfl,
 m19:=by kernel_rfl}
end Go.Proofs
namespace Go.Proofs.Trees
open Go Go.VL
noncomputable section
def QZ:List (Nat×TI):=[
 (0,⟨false,[],false,0,.tuple [],false⟩),
 (2,⟨true,[.int .i64],false,8,.num .i64,false⟩),
 (3,⟨true,[.int .i64],false,8,.num .i64,false⟩),
 (4,⟨true,[.bool],false,1,.bl,false⟩),
 (5,⟨true,[.int .u8],false,1,.num .u8,false⟩),
 (9,⟨true,[.str],false,16,.str,false⟩),
 (20,⟨true,[.lE],false,16,.other,false⟩),
 (21,⟨true,[.int .i32],false,4,.num .i32,false⟩),
 (22,⟨true,[.sl],false,24,.slice 5,false⟩),
 (23,⟨false,[],false,0,.tuple [9,9,9],false⟩),
 (25,⟨true,[.sl],false,24,.slice 3,false⟩),
 (27,⟨true,[.sl,.str,.str],true,56,.struct [(0,25),(1,9),(2,9)],false⟩),
 (28,⟨false,[],false,0,.tuple [27,4],false⟩),
 (31,⟨false,[],false,0,.tuple [9,4],false⟩),
 (34,⟨false,[],false,0,.tuple [9,9],false⟩),
 (36,⟨true,[.sl],false,24,.slice 43,false⟩),
 (37,⟨false,[],false,0,.tuple [36,4],false⟩),
 (43,⟨true,[.str,.str],true,32,.struct [(0,9),(1,9)],true⟩),
 (45,⟨true,[.lE],false,8,.other,false⟩),
 (46,⟨false,[],false,0,.tuple [9,9,27],false⟩),
 (50,⟨true,[.ptr],false,8,.pt,true⟩),
 (52,⟨true,[.ptr],false,8,.pt,true⟩),
 (53,⟨true,[.ptr],false,8,.pt,true⟩),
 (54,⟨false,[],false,0,.tuple [52,53],false⟩),
 (57,⟨true,[.sl],false,24,.slice 59,false⟩),
 (59,⟨true,[.str,.sl],true,40,.struct [(0,9),(1,57)],false⟩),
 (60,⟨false,[],false,0,.tuple [59,4],false⟩),
 (63,⟨true,[.sl],false,24,.slice 9,false⟩),
 (65,⟨true,[.str,.sl,.str],true,56,.struct [(0,9),(1,63),(2,9)],false⟩),
 (66,⟨false,[],false,0,.tuple [65,4],false⟩),
 (72,⟨true,[.sl],false,24,.slice 96,false⟩),
 (75,⟨true,[.sl],false,24,.slice 104,false⟩),
 (79,⟨true,[.int .u8,.str,.int .i64,.ptr,.ptr],true,48,.struct [(0,5),(1,9),(2,3),(3,52),(4,52)],false⟩),
 (80,⟨false,[],false,0,.tuple [52,4],false⟩),
 (88,⟨true,[.sl],false,24,.slice 25,false⟩),
 (89,⟨false,[],false,0,.tuple [88,4],false⟩),
 (93,⟨true,[.sl,.int .i64],true,32,.struct [(0,22),(1,3)],false⟩),
 (96,⟨true,[.ptr,.ptr],true,16,.struct [(0,53),(1,53)],false⟩),
 (100,⟨true,[.sl],false,24,.slice 196,false⟩),
 (104,⟨true,[.str,.sl,.str,.sl],true,80,.struct [(0,59),(2,59)],false⟩),
 (107,⟨true,[.ptr],false,8,.pt,true⟩),
 (111,⟨true,[.sl],false,24,.slice 53,false⟩),
 (113,⟨true,[.str,.ptr,.sl,.ptr],true,56,.struct [(0,9),(1,52),(2,111),(3,53)],false⟩),
 (116,⟨true,[.ptr],false,8,.pt,true⟩),
 (118,⟨true,[.ptr,.ptr],true,16,.struct [(0,52),(1,116)],false⟩),
 (119,⟨true,[.ptr],false,8,.pt,true⟩),
 (120,⟨false,[],false,0,.tuple [118,119],false⟩),
 (124,⟨true,[.int .u8,.str,.ptr,.ptr],true,40,.struct [(0,5),(1,9),(2,53),(3,53)],false⟩),
 (126,⟨true,[.str,.ptr],true,24,.struct [(0,9),(1,119)],false⟩),
 (128,⟨true,[.ptr],false,8,.pt,true⟩),
 (132,⟨true,[.ptr],false,8,.pt,true⟩),
 (134,⟨true,[.int .i64,.bool],true,16,.struct [(0,3),(1,4)],false⟩),
 (148,⟨true,[.sl],false,24,.slice 27,false⟩),
 (149,⟨false,[],false,0,.tuple [148,4],false⟩),
 (155,⟨false,[],false,0,.tuple [59,100],false⟩),
 (158,⟨false,[],false,0,.tuple [59,3],false⟩),
 (161,⟨true,[.ptr,.ptr],true,16,.struct [(0,118)],false⟩),
 (163,⟨true,[.ptr,.ptr],true,16,.struct [(0,119),(1,116)],false⟩),
 (165,⟨true,[.lE],false,8,.other,false⟩),
 (166,⟨true,[.lE],false,8,.other,false⟩),
 (169,⟨false,[],false,0,.tuple [128,9],false⟩),
 (171,⟨true,[.sl],false,24,.slice 128,false⟩),
 (173,⟨true,[.str,.sl],true,40,.struct [(0,9),(1,171)],false⟩),
 (178,⟨true,[.lE],false,8,.other,false⟩),
 (182,⟨true,[.lE],false,16,.other,false⟩),
 (183,⟨false,[],false,0,.tuple [3,182],false⟩),
 (191,⟨true,[.ptr],false,8,.pt,true⟩),
 (193,⟨true,[.sl,.int .i64],true,32,.struct [(0,63),(1,3)],false⟩),
 (196,⟨true,[.str,.str,.sl,.sl],true,80,.struct [(0,9),(1,59),(3,100)],false⟩),
 (201,⟨true,[.lE],false,8,.other,false⟩),
 (211,⟨false,[],false,0,.tuple [2,182],false⟩),
 (213,⟨true,[.ptr],false,8,.pt,true⟩),
 (219,⟨false,[],false,0,.tuple [218,4],false⟩),
 (222,⟨true,[.ptr],false,8,.pt,true⟩),
 (226,⟨true,[.int .u8,.int .u8,.int .u8,.int .u8,.int .u8,.int .u8,.int .u8,.int .u8,.int .u8,.int .u8,.int .u8,.int .u8,.int .u8,.int .u8,.int .u8,.int .u8,.int .u8,.int .u8,.int .u8,.int .u8,.int .u8,.int .u8,.int .u8,.int .u8],true,24,.array 24 5,false⟩),
 (227,⟨true,[.int .u64],false,8,.num .u64,false⟩),
 (230,⟨false,[],false,0,.tuple [22,9],false⟩),
 (232,⟨false,[],false,0,.tuple [227,182],false⟩),
 (234,⟨true,[.int .u64],false,8,.num .u64,false⟩),
 (237,⟨true,[.str,.str,.lE],true,48,.struct [(0,9),(1,9),(2,182)],false⟩),
 (239,⟨false,[],false,0,.tuple [21,3],false⟩),
 (245,⟨true,[.int .u64,.int .u64,.int .u64,.int .u64,.int .u64,.int .u64,.int .u64,.int .u64,.int .u64,.int .u64,.int .u64,.int .u64,.int .u64,.int .u64,.int .u64,.int .u64,.int .u64,.int .u64,.int .u64,.int .u64],true,160,.array 20 227,false⟩),
 (246,⟨true,[.int .u32],false,4,.num .u32,false⟩),
 (251,⟨true,[.ptr],false,8,.pt,true⟩),
 (252,⟨true,[.ptr],false,8,.pt,true⟩),
 (254,⟨true,[.str],true,16,.struct [(0,9)],false⟩),
 (260,⟨true,[.int .u8,.int .u8],true,2,.struct [(0,5),(1,5)],false⟩),
 (261,⟨true,[.int .u8,.int .u8,.int .u8,.int .u8,.int .u8,.int .u8,.int .u8,.int .u8,.int .u8,.int .u8,.int .u8,.int .u8,.int .u8,.int .u8,.int .u8,.int .u8,.int .u8,.int .u8,.int .u8,.int .u8,.int .u8,.int .u8,.int .u8,.int .u8,.int .u8,.int .u8,.int .u8,.int .u8,.int .u8,.int .u8,.int .u8,.int .u8],true,32,.array 16 260,false⟩),
 (263,⟨false,[],false,0,.tuple [246,246],false⟩),
 (265,⟨true,[.int .u8,.int .u8,.int .u8,.int .u8,.int .u8,.int .u8,.int .u8,.int .u8,.int .u8,.int .u8,.int .u8,.int .u8,.int .u8,.int .u8,.int .u8,.int .u8,.int .u8,.int .u8,.int .u8,.int .u8,.int .u8,.int .u8,.int .u8,.int .u8,.int .u8,.int .u8,.int .u8,.int .u8,.int .u8,.int .u8,.int .u8,.int .u8],true,32,.array 32 5,false⟩)]
def Nn(t:Nat):TI:=zT QZ t
abbrev eI:Func:=Tryz.f70
abbrev rE:Func:=Tryz.f120
abbrev rA:Func:=Tryz.f126
abbrev rz:Func:=Tryz.f153
abbrev og:Func:=Tryz.f158
def T4:List (Nat×FC):=[(148,{mu:=[(1,.one (.obj [.vec 1]))],own:=[]}),(98,{mu:=[(2,.one (.vec))],own:=[0]}),(14900147,{mu:=[(1,.fn [some (.obj [.vec 1])])],own:=[]}),(107,{mu:=[(2,.one (.obj [.vec 2]))],own:=[]}),(11100107,{mu:=[(1,.fn [some (.obj [.lk .ptr])]),(2,.one (.obj [.vec 2]))],own:=[]}),(11200107,{mu:=[(1,.fn [some (.obj [.lk .ptr])]),(2,.one (.obj [.vec 2]))],own:=[]}),(11400107,{mu:=[(1,.fn [some (.obj [.lk .ptr])]),(2,.one (.obj [.vec 2]))],own:=[]}),(11600107,{mu:=[(1,.fn [some (.obj [.lk .ptr,.lk .ptr])]),(2,.one (.obj [.vec 2]))],own:=[]}),(110,{mu:=[(1,.one (.obj [.lk .ptr]))],own:=[]}),(111,{mu:=[(1,.one (.obj [.lk .ptr]))],own:=[]}),(113,{mu:=[(1,.one (.obj [.lk .ptr]))],own:=[]}),(115,{mu:=[(1,.one (.obj [.lk .ptr,.lk .ptr]))],own:=[]}),(123,{mu:=[(2,.rb 123 [none,some 0,some 1]),(3,.one (.obj [.lk .sl])),(4,.one (.obj [.lk (.int .i64)]))],own:=[]}),(132,{mu:=[(3,.one (.vec))],own:=[0]}),(72,{mu:=[(2,.one (.vec))],own:=[0]}),(45,{mu:=[(0,.one (.obj [.lk .sl,.lk (.int .i64)]))],own:=[]}),(137,{mu:=[(3,.one (.obj [.vec 1,.lk (.int .i64)]))],own:=[]}),(94,{mu:=[(0,.one (.obj [.lk .sl,.lk (.int .i64)]))],own:=[]}),(23,{mu:=[],own:=[0],ow:=[.sl,.int .i64]}),(7,{mu:=[],own:=[0],oa:=[.vec 1,.lk .str,.lk .str]}),(25,{mu:=[],own:=[0],oa:=[.vec 1,.lk .str,.lk .str]}),(76,{mu:=[(0,.one (.obj [.lk (.int .i64),.lk .bool]))],own:=[]}),(77,{mu:=[(0,.one (.obj [.lk (.int .i64),.lk .bool]))],own:=[]}),(78,{mu:=[(0,.one (.obj [.lk (.int .i64),.lk .bool]))],own:=[]}),(143,{mu:=[(0,.one (.obj [.lk .sl,.lk (.int .i64)]))],own:=[]}),(68,{mu:=[(0,.one (.obj [.lk .sl,.lk (.int .i64)]))],own:=[]}),(142,{mu:=[(0,.one (.obj [.lk .sl,.lk (.int .i64)]))],own:=[]}),(95,{mu:=[(0,.one (.obj [.lk .sl,.lk (.int .i64)]))],own:=[]}),(50,{mu:=[(0,.one (.obj [.lk .sl,.lk (.int .i64)]))],own:=[]}),(105,{mu:=[(0,.one (.obj [.lk .sl,.lk (.int .i64)]))],own:=[]}),(69,{mu:=[(0,.one (.obj [.lk .sl,.lk (.int .i64)]))],own:=[]}),(33,{mu:=[(0,.one (.obj [.lk .sl,.lk (.int .i64)]))],own:=[]}),(22,{mu:=[(0,.one (.obj [.lk .sl,.lk (.int .i64)]))],own:=[]}),(31,{mu:=[],own:=[0],oa:=[.lk .str,.vec 1,.lk .str]}),(30,{mu:=[],own:=[0],oa:=[.lk .str,.vec 1,.lk .str]}),(65,{mu:=[],own:=[0],oa:=[.lk .str,.vec 1,.lk .str]}),(129,{mu:=[],own:=[0]}),(91,{mu:=[(0,.one (.uS [.lk .str,.vec 1,.lk .str]))],own:=[0],oa:=[.lk .str,.vec 1,.lk .str]}),(88,{mu:=[],own:=[0],oa:=[.lk .str,.vec 1,.lk .str]}),(89,{mu:=[],own:=[0],oa:=[.lk .str,.vec 1,.lk .str]}),(47,{mu:=[],own:=[0],oa:=[.lk .str,.vec 1,.lk .str]}),(29,{mu:=[],own:=[0],oa:=[.vec 1,.lk .str,.lk .str]}),(8,{mu:=[],own:=[0],oa:=[.vec 1,.lk .str,.lk .str]})]
def cfg(f:Nat):FC:=CD T4 f
theorem Ev:(QZ.all fun p=>!p.2.kn||p.2.ou Tryz.prog p.1)=true:=by kernel_rfl
theorem vK:du Tryz.prog Nn:=w9 Ev
theorem mixed:Tryz.prog.follows .mixedOrders=true:=by kernel_rfl
abbrev NZ(r:AV)(k:Tree):Tree:=.ai (LK.has .ptr r/\r.isNil=false) k
abbrev NP(r:AV)(k:Tree):Tree:=.ai (LK.has .ptr r) k
abbrev NS(r:AV)(k:Tree):Tree:=.ai (LK.has .str r) k
abbrev NB(r:AV)(k:Tree):Tree:=.ai (LK.has .bool r) k
abbrev NL(r:AV)(k:Tree):Tree:=.ai (LK.has .sl r) k
abbrev NI(r:AV)(k:Tree):Tree:=.ai (LK.has (.int .i64) r) k
abbrev eg(l:List AV)(k:Tree):Tree:=.ai (LK.has .ptr (l.headD .any)/\1<=l.length) k
abbrev lF(l:List AV)(k:Tree):Tree:=.ai (LK.has .str (l.headD .any)/\1<=l.length) k
abbrev oy(l:List AV)(k:Tree):Tree:=.ai (LK.has .sl (l.headD .any)/\1<=l.length) k
abbrev NT(r:AV)(k:Tree):Tree:=.ai (r=.cv [r.comp 0,r.comp 1]) k
abbrev NA(r:AV)(k:Tree):Tree:=.ai (r=.agg r.cs/\r.cs.length=2/\bE [.str,.sl] r.cs 0) k
abbrev NE(l:List AV)(k:Tree):Tree:=.ai (bE [.str,.sl] l 0/\2<=l.length) k
abbrev NG(r:AV)(i:Int)(z:Nat)(k:Tree):Tree:=.ai (LK.has .sl r/\0<=i/\i<r.elems.length/\(r.elems.getD i.toNat []).length=z) k
abbrev RL:Type:=Nat->List AV->List Ob->Prop
abbrev VS(x:ByteArray):AV:=.v (.string x)
abbrev VI(x:Int):AV:=.v (.int .i64 x)
abbrev VB(x:Bool):AV:=.v (.bool x)
abbrev _root_.List.hA(l:List AV):AV:=l.headD .any
abbrev _root_.List.hO(l:List Ob):Ob:=l.headD .dead
abbrev _root_.Go.VL.AV.ix(a:AV)(i:Int):List AV:=a.elems.getD i.toNat []
abbrev dm(n:Nat)(t:Tree)(R:AV->List Ob->Prop):Prop:=fk Tryz.prog n t fun _ xs obs=>R (xs.headD .any) obs
abbrev kF(n:Nat)(t:Tree)(S:List AV->List Ob->RL->Prop)(R:RL):Prop:=fk Tryz.prog n t (Gj (fun ys o=>S ys o R) R)
theorem gQ{n:Nat}{c:Code}{li:LI}{xs:List AV}{obs:List Ob}{R:RL}{t:Tree}(lis:List (Nat×LI))(h:fk Tryz.prog n t (Gj (fun ys o=>cC Tryz.prog n c li ys o R) R))(e:round Nn cfg n lis c li xs obs=t:=by kernel_rfl):cC Tryz.prog n c li xs obs R:=cC.Q4 (cfg:=cfg) (lis:=lis) vK mixed e h
theorem Vc(x:ByteArray):VS x=.v (.string x):=rfl
theorem Vf(x:Int):VI x=.v (.int .i64 x):=rfl
theorem Vd(x:Bool):VB x=.v (.bool x):=rfl
theorem Vj(l:List AV):l.hA=l.headD .any:=rfl
theorem U6(l:List Ob):l.hO=l.headD .dead:=rfl
theorem Vt(a:AV)(i:Int):a.ix i=a.elems.getD i.toNat []:=rfl
theorem oQ{f:Nat}{asq:List AV}{ins:List Ob}{R:AV->List Ob->Prop}{t:Tree}(lis:List (Nat×LI))(F:Func)(h:fk Tryz.prog F.ntmps t fun _ xs obs=>R (xs.headD .any) obs)(hf:Tryz.prog.funcs[f]?=some F:=by kernel_rfl)(hnm:(F.name=="runtime.NumGoroutine")=false:=by kernel_rfl)(e:main Nn cfg lis {} F asq ins=t:=by kernel_rfl):aq Tryz.prog f asq ins R:=aq.Q4 (cfg:=cfg) (lis:=lis) (fc:={}) vK mixed hf hnm e h
theorem oF{f:Nat}{asq:List AV}{ins:List Ob}{R:AV->List Ob->Prop}{t:Tree}(lis:List (Nat×LI))(fc:FC)(F:Func)(h:fk Tryz.prog F.ntmps t fun _ xs obs=>R (xs.headD .any) obs)(hf:Tryz.prog.funcs[f]?=some F:=by kernel_rfl)(hnm:(F.name=="runtime.NumGoroutine")=false:=by kernel_rfl)(e:main Nn cfg lis fc F asq ins=t:=by kernel_rfl):aq Tryz.prog f asq ins R:=aq.Q4 (cfg:=cfg) (lis:=lis) (fc:=fc) vK mixed hf hnm e h
theorem uQ{P:Program}{f:Nat}{asq bs:List AV}{R:AV->List Ob->Prop}(h:xX asq bs)(hf:aq P f bs [] R):aq P f asq [] R:=aq.om cE (aq.up h hf)
theorem Vh(r:AV)(k:Tree):NZ r k=.ai (LK.has .ptr r/\r.isNil=false) k:=rfl
theorem Vq(r:AV)(k:Tree):NP r k=.ai (LK.has .ptr r) k:=rfl
theorem U7(r:AV)(k:Tree):NS r k=.ai (LK.has .str r) k:=rfl
theorem Vk(r:AV)(k:Tree):NB r k=.ai (LK.has .bool r) k:=rfl
theorem Vg(r:AV)(k:Tree):NL r k=.ai (LK.has .sl r) k:=rfl
theorem U8(r:AV)(k:Tree):NI r k=.ai (LK.has (.int .i64) r) k:=rfl
theorem Tw(l:List AV)(k:Tree):eg l k=.ai (LK.has .ptr (l.headD .any)/\1<=l.length) k:=rfl
theorem TE(l:List AV)(k:Tree):lF l k=.ai (LK.has .str (l.headD .any)/\1<=l.length) k:=rfl
theorem Rh(l:List AV)(k:Tree):oy l k=.ai (LK.has .sl (l.headD .any)/\1<=l.length) k:=rfl
theorem Vn(r:AV)(k:Tree):NT r k=.ai (r=.cv [r.comp 0,r.comp 1]) k:=rfl
theorem Vr(r:AV)(k:Tree):NA r k=.ai (r=.agg r.cs/\r.cs.length=2/\bE [.str,.sl] r.cs 0) k:=rfl
theorem Vi(l:List AV)(k:Tree):NE l k=.ai (bE [.str,.sl] l 0/\2<=l.length) k:=rfl
theorem Vs(r:AV)(i:Int)(z:Nat)(k:Tree):NG r i z k=.ai (LK.has .sl r/\0<=i/\i<r.elems.length/\(r.elems.getD i.toNat []).length=z) k:=rfl
set_option linter.defProp false in
def zq:=aJ @Vh (aJ @Vq (aJ @U7 (aJ @Vk (aJ @Vg (aJ @U8 (aJ @Tw (aJ @TE (aJ @Rh (aJ @Vn (aJ @Vr (aJ @Vi (aJ @Vs (aJ @Vc (aJ @Vf (aJ @Vd (aJ @Vj (aJ @U6 (aJ @Vt @zp))))))))))))))))))
variable {R:AV->List Ob->Prop} {U:RL}
def Pj(a0:AV):Tree :=
 NL a0<|.test (decide ((a0.elems.length:Int)>(1048576:Int))) (.done 0 [VB true] []) (.call 6 [a0] [] fun r1 o1=>.ai (r1=.cv [r1.comp 0,r1.comp 1,r1.comp 2])<|NS (r1.comp 0)<|NS (r1.comp 1)<|NS (r1.comp 2)<|.call 7 [VS ((r1.comp 0).toStr),VS ((r1.comp 1).toStr),VS ((r1.comp 2).toStr)] [] fun r2 o2=>NT r2<|.ai ((r2.comp 0)=.agg (r2.comp 0).cs/\aH [.vec 1,.lk .str,.lk .str] ((r2.comp 0).cs) 0 0 o2)<|NB (r2.comp 1)<|.ai (∀x,x∈o2->dP x)<|.call 8 [VS ((r1.comp 0).toStr),VS ((r1.comp 1).toStr),VS ((r1.comp 2).toStr)] [] fun r3 o3=>NT r3<|.ai ((r3.comp 0)=.agg (r3.comp 0).cs/\aH [.vec 1,.lk .str,.lk .str] ((r3.comp 0).cs) 0 0 o3)<|NB (r3.comp 1)<|.ai (∀x,x∈o3->dP x)<|.test (!(((r2.comp 1).toBool)==((r3.comp 1).toBool))) (.test (((r2.comp 1).toBool)==((r3.comp 1).toBool)) (.call 9 [.agg [.sl ((o2.hO).es),VS (((r2.comp 0).cs.getD 1 .any).toStr),VS (((r2.comp 0).cs.getD 2 .any).toStr)],.agg [.sl ((o3.hO).es),VS (((r3.comp 0).cs.getD 1 .any).toStr),VS (((r3.comp 0).cs.getD 2 .any).toStr)]] [] fun r4 o4=>NB r4<|.done 0 [VB r4.toBool] []) (.done 0 [VB false] [])) (.call 9 [.agg [.sl ((o2.hO).es),VS (((r2.comp 0).cs.getD 1 .any).toStr),VS (((r2.comp 0).cs.getD 2 .any).toStr)],.agg [.sl ((o3.hO).es),VS (((r3.comp 0).cs.getD 1 .any).toStr),VS (((r3.comp 0).cs.getD 2 .any).toStr)]] [] fun r5 o5=>NB r5<|.test (!r5.toBool) (.test (((r2.comp 1).toBool)==((r3.comp 1).toBool)) (.call 9 [.agg [.sl ((o2.hO).es),VS (((r2.comp 0).cs.getD 1 .any).toStr),VS (((r2.comp 0).cs.getD 2 .any).toStr)],.agg [.sl ((o3.hO).es),VS (((r3.comp 0).cs.getD 1 .any).toStr),VS (((r3.comp 0).cs.getD 2 .any).toStr)]] [] fun r6 o6=>NB r6<|.done 0 [VB r6.toBool] []) (.done 0 [VB false] [])) (.test (!((r2.comp 1).toBool)) (.test (((r2.comp 1).toBool)==((r3.comp 1).toBool)) (.call 9 [.agg [.sl ((o2.hO).es),VS (((r2.comp 0).cs.getD 1 .any).toStr),VS (((r2.comp 0).cs.getD 2 .any).toStr)],.agg [.sl ((o3.hO).es),VS (((r3.comp 0).cs.getD 1 .any).toStr),VS (((r3.comp 0).cs.getD 2 .any).toStr)]] [] fun r7 o7=>NB r7<|.done 0 [VB r7.toBool] []) (.done 0 [VB false] [])) (.call 10 [VS ((r1.comp 0).toStr),VS ((r1.comp 1).toStr),.agg [.sl ((o2.hO).es),VS (((r2.comp 0).cs.getD 1 .any).toStr),VS (((r2.comp 0).cs.getD 2 .any).toStr)]] [] fun r8 o8=>NT r8<|NS (r8.comp 0)<|NB (r8.comp 1)<|.call 10 [VS ((r1.comp 0).toStr),VS ((r1.comp 2).toStr),.agg [.sl ((o2.hO).es),VS (((r2.comp 0).cs.getD 2 .any).toStr),VS (((r2.comp 0).cs.getD 1 .any).toStr)]] [] fun r9 o9=>NT r9<|NS (r9.comp 0)<|NB (r9.comp 1)<|.test (!((r8.comp 1).toBool)) (.test (!((r9.comp 1).toBool)) (.test (!(ae ((r1.comp 1).toStr)==ae ((r1.comp 2).toStr))) (.done 0 [VB true] []) (.test ((((o2.hO).es).length:Int)==(0:Int)) (.done 0 [VB (ae (((r2.comp 0).cs.getD 1 .any).toStr)==ae ((r1.comp 1).toStr))] []) (.done 0 [VB false] []))) (.test (ae ((r9.comp 0).toStr)==ae ((r1.comp 1).toStr)) (.test (!(ae ((r1.comp 1).toStr)==ae ((r1.comp 2).toStr))) (.done 0 [VB true] []) (.test ((((o2.hO).es).length:Int)==(0:Int)) (.done 0 [VB (ae (((r2.comp 0).cs.getD 1 .any).toStr)==ae ((r1.comp 1).toStr))] []) (.done 0 [VB false] []))) (.done 0 [VB false] []))) (.test (ae ((r8.comp 0).toStr)==ae ((r1.comp 2).toStr)) (.test (!((r9.comp 1).toBool)) (.test (!(ae ((r1.comp 1).toStr)==ae ((r1.comp 2).toStr))) (.done 0 [VB true] []) (.test ((((o2.hO).es).length:Int)==(0:Int)) (.done 0 [VB (ae (((r2.comp 0).cs.getD 1 .any).toStr)==ae ((r1.comp 1).toStr))] []) (.done 0 [VB false] []))) (.test (ae ((r9.comp 0).toStr)==ae ((r1.comp 1).toStr)) (.test (!(ae ((r1.comp 1).toStr)==ae ((r1.comp 2).toStr))) (.done 0 [VB true] []) (.test ((((o2.hO).es).length:Int)==(0:Int)) (.done 0 [VB (ae (((r2.comp 0).cs.getD 1 .any).toStr)==ae ((r1.comp 1).toStr))] []) (.done 0 [VB false] []))) (.done 0 [VB false] []))) (.done 0 [VB false] []))))))
theorem RQ(a0:AV)(ha0:LK.has .sl a0)(h:dm 111 (Pj a0) R):aq Tryz.prog 3 [a0] [] R :=
 uQ (ag (bM ha0) aB) (oQ [] Tryz.f3 h)
def Qn(a0:AV):Tree :=
 .call 23 [a0] [] fun r1 o1=>.ai (r1=.ref 0 0/\(o1.hO)=.cells (o1.hO).cs/\(o1.hO).cs.length=2/\bE [.sl,.int .i64] ((o1.hO).cs) 0)<|.call 22 [.ref 0 0] [.cells [((o1.hO).cs.getD 0 .any),VI (((o1.hO).cs.getD 1 .any).toInt)]] fun r2 o2=>.ai ((o2.hO)=.cells (o2.hO).cs)<|.ai (aH [.lk .sl,.lk (.int .i64)] ((o2.hO).cs) 0 1 o2.tail)<|.ai (r2=.cv [r2.comp 0,r2.comp 1,r2.comp 2])<|NS (r2.comp 0)<|NS (r2.comp 1)<|NS (r2.comp 2)<|.done 0 [.cv [VS ((r2.comp 0).toStr),VS ((r2.comp 1).toStr),VS ((r2.comp 2).toStr)]] []
theorem UJ(a0:AV)(ha0:LK.has .sl a0)(h:dm 11 (Qn a0) R):aq Tryz.prog 6 [a0] [] R :=
 uQ (ag (bM ha0) aB) (oQ [] Tryz.f6 h)
def PE(a0:ByteArray)(a1:ByteArray)(a2:ByteArray):Tree :=
 .call 24 [VS a0,VS a1] [] fun r1 o1=>NT r1<|NP (r1.comp 0)<|NP (r1.comp 1)<|.call 24 [VS a0,VS a2] [] fun r2 o2=>NT r2<|NP (r2.comp 0)<|NP (r2.comp 1)<|NP (r1.comp 1)<|.test ((r1.comp 1).isNil) (.done 0 [.cv [.agg [.vec 0,VS (mk []),VS (mk [])],VB false]] [.vec 1 []]) (NP (r2.comp 1)<|.test ((r2.comp 1).isNil) (.done 0 [.cv [.agg [.vec 0,VS (mk []),VS (mk [])],VB false]] [.vec 1 []]) (.call 25 [(r1.comp 0),(r1.comp 1),(r2.comp 1)] [] fun r3 o3=>.ai (r3=.agg r3.cs/\aH [.vec 1,.lk .str,.lk .str] r3.cs 0 0 o3)<|.ai (∀x,x∈o3->dP x)<|.done 0 [.cv [.agg [.vec 0,VS ((r3.cs.getD 1 .any).toStr),VS ((r3.cs.getD 2 .any).toStr)],VB true]] [.vec 1 ((o3.hO).es)]))
theorem TG(a0:ByteArray)(a1:ByteArray)(a2:ByteArray)(h:dm 35 (PE a0 a1 a2) R):aq Tryz.prog 7 [VS a0,VS a1,VS a2] [] R :=
 uQ (ag (az _) (ag (az _) (ag (az _) aB))) (oF [] {mu:=[],own:=[0],oa:=[.vec 1,.lk .str,.lk .str]} Tryz.f7 h)
def LM(a0:ByteArray)(a1:ByteArray)(a2:ByteArray):Tree :=
 .call 26 [VS a0] [] fun r1 o1=>NT r1<|.ai ((r1.comp 0)=.agg (r1.comp 0).cs/\(r1.comp 0).cs.length=2/\bE [.str,.sl] ((r1.comp 0).cs) 0)<|NB (r1.comp 1)<|.test (!((r1.comp 1).toBool)) (.done 0 [.cv [.agg [.vec 0,VS (mk []),VS (mk [])],VB false]] [.vec 1 []]) (.call 27 [VS a0,VS a1,VI 100] [] fun r2 o2=>NB r2<|.test (!r2.toBool) (.done 0 [.cv [.agg [.vec 0,VS (mk []),VS (mk [])],VB false]] [.vec 1 []]) (.call 27 [VS a0,VS a2,VI 100] [] fun r3 o3=>NB r3<|.test (!r3.toBool) (.done 0 [.cv [.agg [.vec 0,VS (mk []),VS (mk [])],VB false]] [.vec 1 []]) (.call 28 [VS a1] [] fun r4 o4=>NT r4<|.ai ((r4.comp 0)=.agg (r4.comp 0).cs/\(r4.comp 0).cs.length=2/\bE [.str,.sl] ((r4.comp 0).cs) 0)<|NB (r4.comp 1)<|.call 28 [VS a2] [] fun r5 o5=>NT r5<|.ai ((r5.comp 0)=.agg (r5.comp 0).cs/\(r5.comp 0).cs.length=2/\bE [.str,.sl] ((r5.comp 0).cs) 0)<|NB (r5.comp 1)<|.call 29 [.agg [VS (((r1.comp 0).cs.getD 0 .any).toStr),((r1.comp 0).cs.getD 1 .any)],.agg [VS (((r4.comp 0).cs.getD 0 .any).toStr),((r4.comp 0).cs.getD 1 .any)],.agg [VS (((r5.comp 0).cs.getD 0 .any).toStr),((r5.comp 0).cs.getD 1 .any)]] [] fun r6 o6=>.ai (r6=.agg r6.cs/\aH [.vec 1,.lk .str,.lk .str] r6.cs 0 0 o6)<|.ai (∀x,x∈o6->dP x)<|.done 0 [.cv [.agg [.vec 0,VS ((r6.cs.getD 1 .any).toStr),VS ((r6.cs.getD 2 .any).toStr)],VB true]] [.vec 1 ((o6.hO).es)])))
theorem Ta(a0:ByteArray)(a1:ByteArray)(a2:ByteArray)(h:dm 48 (LM a0 a1 a2) R):aq Tryz.prog 8 [VS a0,VS a1,VS a2] [] R :=
 uQ (ag (az _) (ag (az _) (ag (az _) aB))) (oF [] {mu:=[],own:=[0],oa:=[.vec 1,.lk .str,.lk .str]} Tryz.f8 h)
def Lk(a0_0:AV)(a0_1:ByteArray)(a0_2:ByteArray)(a1_0:AV)(a1_1:ByteArray)(a1_2:ByteArray):Tree :=
 .call 21 [a0_0,a1_0] [] fun r1 o1=>NB r1<|.test r1.toBool (.test (ae a0_1==ae a1_1) (.done 0 [VB (ae a0_2==ae a1_2)] []) (.done 0 [VB false] [])) (.done 0 [VB false] [])
theorem Ux(a0_0:AV)(a0_1:ByteArray)(a0_2:ByteArray)(a1_0:AV)(a1_1:ByteArray)(a1_2:ByteArray)(ha0_0:LK.has .sl a0_0)(ha1_0:LK.has .sl a1_0)(h:dm 24 (Lk a0_0 a0_1 a0_2 a1_0 a1_1 a1_2) R):aq Tryz.prog 9 [.agg [a0_0,VS a0_1,VS a0_2],.agg [a1_0,VS a1_1,VS a1_2]] [] R :=
 uQ (ag (bW (ag (bM ha0_0) (ag (az _) (ag (az _) aB)))) (ag (bW (ag (bM ha1_0) (ag (az _) (ag (az _) aB)))) aB)) (oQ [] Tryz.f9 h)
def P8(a0:ByteArray)(a1:ByteArray)(a2_0:AV)(a2_1:ByteArray)(a2_2:ByteArray):Tree :=
 .call 30 [VS a0,VS a1,a2_0] [] fun r1 o1=>NT r1<|.ai ((r1.comp 0)=.agg (r1.comp 0).cs/\aH [.lk .str,.vec 1,.lk .str] ((r1.comp 0).cs) 0 0 o1)<|NB (r1.comp 1)<|.ai (∀x,x∈o1->dP x)<|.test (!((r1.comp 1).toBool)) (.done 0 [.cv [VS (mk []),VB false]] []) (.test (!(ae (((r1.comp 0).cs.getD 2 .any).toStr)==ae a2_1)) (.done 0 [.cv [VS (mk []),VB false]] []) (.call 31 [.agg [VS (((r1.comp 0).cs.getD 0 .any).toStr),.sl ((o1.hO).es),VS (((r1.comp 0).cs.getD 2 .any).toStr)],VS a2_2] [] fun r2 o2=>NT r2<|.ai ((r2.comp 0)=.agg (r2.comp 0).cs/\aH [.lk .str,.vec 1,.lk .str] ((r2.comp 0).cs) 0 0 o2)<|NB (r2.comp 1)<|.ai (∀x,x∈o2->dP x)<|.test (!((r2.comp 1).toBool)) (.done 0 [.cv [VS (mk []),VB false]] []) (.call 32 [.agg [VS (((r2.comp 0).cs.getD 0 .any).toStr),.sl ((o2.hO).es),VS (((r2.comp 0).cs.getD 2 .any).toStr)]] [] fun r3 o3=>NT r3<|NS (r3.comp 0)<|NB (r3.comp 1)<|.done 0 [.cv [VS ((r3.comp 0).toStr),VB ((r3.comp 1).toBool)]] [])))
theorem Rk(a0:ByteArray)(a1:ByteArray)(a2_0:AV)(a2_1:ByteArray)(a2_2:ByteArray)(ha2_0:LK.has .sl a2_0)(h:dm 40 (P8 a0 a1 a2_0 a2_1 a2_2) R):aq Tryz.prog 10 [VS a0,VS a1,.agg [a2_0,VS a2_1,VS a2_2]] [] R :=
 uQ (ag (az _) (ag (az _) (ag (bW (ag (bM ha2_0) (ag (az _) (ag (az _) aB)))) aB))) (oQ [] Tryz.f10 h)
def Ph(a0:ByteArray)(a1:ByteArray):Tree :=
 .call 26 [VS a0] [] fun r1 o1=>NT r1<|.ai ((r1.comp 0)=.agg (r1.comp 0).cs/\(r1.comp 0).cs.length=2/\bE [.str,.sl] ((r1.comp 0).cs) 0)<|NB (r1.comp 1)<|.call 28 [VS a1] [] fun r2 o2=>NT r2<|.ai ((r2.comp 0)=.agg (r2.comp 0).cs/\(r2.comp 0).cs.length=2/\bE [.str,.sl] ((r2.comp 0).cs) 0)<|NB (r2.comp 1)<|.test (!((r1.comp 1).toBool)) (.done 0 [.cv [.sl [],VB false]] []) (.call 27 [VS a0,VS a1,VI 100] [] fun r3 o3=>NB r3<|.test (!r3.toBool) (.done 0 [.cv [.sl [],VB false]] []) (NG ((r1.comp 0).cs.getD 1 .any) 2 2<|NE (((r1.comp 0).cs.getD 1 .any).ix (2:Int))<|NG ((r1.comp 0).cs.getD 1 .any) 1 2<|lF (((r1.comp 0).cs.getD 1 .any).ix (1:Int))<|NG ((r2.comp 0).cs.getD 1 .any) 1 2<|NE (((r2.comp 0).cs.getD 1 .any).ix (1:Int))<|.call 37 [.agg [VS (((((r1.comp 0).cs.getD 1 .any).ix (2:Int)).getD 0 .any).toStr),((((r1.comp 0).cs.getD 1 .any).ix (2:Int)).getD 1 .any)],VS (((((r1.comp 0).cs.getD 1 .any).ix (1:Int)).hA).toStr),.agg [VS (((((r2.comp 0).cs.getD 1 .any).ix (1:Int)).getD 0 .any).toStr),((((r2.comp 0).cs.getD 1 .any).ix (1:Int)).getD 1 .any)]] [] fun r4 o4=>NL r4<|.call 36 [r4] [] fun r5 o5=>NL r5<|.done 0 [.cv [r5,VB true]] []))
theorem Sj(a0:ByteArray)(a1:ByteArray)(h:dm 44 (Ph a0 a1) R):aq Tryz.prog 13 [VS a0,VS a1] [] R :=
 uQ (ag (az _) (ag (az _) aB)) (oQ [] Tryz.f13 h)
def OV(a0:ByteArray):Tree :=
 .call 38 [VS a0] [] fun r1 o1=>NP r1<|NP r1<|.test r1.isNil (.done 0 [.cv [VS (mk []),VB false]] []) (NZ r1<|NZ r1<|.ai (LK.has (.int .u8) (r1.deref.hA)/\1<=r1.deref.length)<|.test (((r1.deref.hA).toInt) != (114:Int)) (.done 0 [.cv [VS (mk []),VB false]] []) (.call 39 [r1] [] fun r2 o2=>NT r2<|NP (r2.comp 0)<|NB (r2.comp 1)<|.test (!((r2.comp 1).toBool)) (.done 0 [.cv [VS (mk []),VB false]] []) (.call 40 [(r2.comp 0)] [] fun r3 o3=>NT r3<|NS (r3.comp 0)<|NB (r3.comp 1)<|.done 0 [.cv [VS ((r3.comp 0).toStr),VB ((r3.comp 1).toBool)]] [])))
theorem Um(a0:ByteArray)(h:dm 29 (OV a0) R):aq Tryz.prog 15 [VS a0] [] R :=
 uQ (ag (az _) aB) (oQ [] Tryz.f15 h)
def HT:LI:={hd:={bR:=[(0,.k .sl),(1,.k .sl),(5,.k (.int .i64))]},xs:={},rt:={bR:=[(4,.k .bool)]},ex:=0}
def PN:Code:=cK (cD Tryz.f21) 4
def LQ:List (Nat×LI):=[(4,HT)]
def NH(a0:AV)(a1:AV):Tree :=
 NL a0<|NL a1<|.test ((a0.elems.length:Int) != (a1.elems.length:Int)) (.done 0 [VB false] []) (.loop PN HT [a0,a1,VI 0] [] (fun y1 q1=>.done 0 [VB true] []) (fun y1 q1=>NB (y1.hA)<|.done 0 [VB ((y1.hA).toBool)] []))
theorem RF(a0:AV)(a1:AV)(ha0:LK.has .sl a0)(ha1:LK.has .sl a1)(h:dm 26 (NH a0 a1) R):aq Tryz.prog 21 [a0,a1] [] R :=
 uQ (ag (bM ha0) (ag (bM ha1) aB)) (oQ LQ Tryz.f21 h)
def Ko(x0:AV)(x1:AV)(x5:Int):Tree :=
 NL x0<|NL x1<|NI (VI x5)<|NL x0<|.test (decide (x5<(x0.elems.length:Int))) (NG x0 x5 1<|.ai (LK.has (.int .i64) ((x0.ix x5).hA)/\1<=(x0.ix x5).length)<|NG x1 x5 1<|.ai (LK.has (.int .i64) ((x1.ix x5).hA)/\1<=(x1.ix x5).length)<|.test ((((x0.ix x5).hA).toInt) != (((x1.ix x5).hA).toInt)) (.done 2 [VB false] []) (.done 0 [x0,x1,VI (IntKind.wrap .i64 (x5+1))] [])) (.done 1 [] [])
abbrev Jt:=cC Tryz.prog 26 PN HT
theorem Mz(x0:AV)(x1:AV)(x5:Int)(h:kF 26 (Ko x0 x1 x5) Jt U):Jt [x0,x1,VI x5] [] U :=
 gQ LQ h
def OS(a0_0:AV)(a0_1:Int):Tree :=
 .call 33 [.ref 0 0] [.cells [a0_0,VI a0_1]] fun r1 o1=>.ai ((o1.hO)=.cells (o1.hO).cs)<|.ai (aH [.lk .sl,.lk (.int .i64)] ((o1.hO).cs) 0 1 o1.tail)<|NT r1<|NS (r1.comp 0)<|NS (r1.comp 1)<|.call 49 [VS ((r1.comp 0).toStr),VS ((r1.comp 1).toStr)] [] fun r2 o2=>NT r2<|NL (r2.comp 0)<|NB (r2.comp 1)<|.test ((r2.comp 1).toBool) (.call 45 [.ref 0 0,VI 5] [.cells [((o1.hO).cs.getD 0 .any),VI (((o1.hO).cs.getD 1 .any).toInt)]] fun r3 o3=>.ai ((o3.hO)=.cells (o3.hO).cs)<|.ai (aH [.lk .sl,.lk (.int .i64)] ((o3.hO).cs) 0 1 o3.tail)<|NI r3<|.test (decide (r3.toInt>(0:Int))) (NL (r2.comp 0)<|.call 45 [.ref 0 0,VI (((r2.comp 0).elems).length:Int)] [.cells [((o3.hO).cs.getD 0 .any),VI (((o3.hO).cs.getD 1 .any).toInt)]] fun r4 o4=>.ai ((o4.hO)=.cells (o4.hO).cs)<|.ai (aH [.lk .sl,.lk (.int .i64)] ((o4.hO).cs) 0 1 o4.tail)<|NI r4<|.ai (LK.has .sl (r2.comp 0)/\0<=r4.toInt/\r4.toInt<(r2.comp 0).elems.length/\((r2.comp 0).elems.getD r4.toInt.toNat []).length=1)<|oy ((r2.comp 0).elems.getD r4.toInt.toNat [])<|.call 46 [VS ((r1.comp 0).toStr),VS ((r1.comp 1).toStr),(((r2.comp 0).elems.getD r4.toInt.toNat []).hA)] [] fun r5 o5=>NT r5<|.ai ((r5.comp 0)=.agg (r5.comp 0).cs/\(r5.comp 0).cs.length=3/\bE [.str,.sl,.str] ((r5.comp 0).cs) 0)<|NB (r5.comp 1)<|.call 50 [.ref 0 0,VS ((r1.comp 0).toStr)] [.cells [((o4.hO).cs.getD 0 .any),VI (((o4.hO).cs.getD 1 .any).toInt)]] fun r6 o6=>.ai ((o6.hO)=.cells (o6.hO).cs)<|.ai (aH [.lk .sl,.lk (.int .i64)] ((o6.hO).cs) 0 1 o6.tail)<|NS r6<|.call 47 [.agg [VS (((r5.comp 0).cs.getD 0 .any).toStr),((r5.comp 0).cs.getD 1 .any),VS (((r5.comp 0).cs.getD 2 .any).toStr)],VS r6.toStr] [] fun r7 o7=>NT r7<|.ai ((r7.comp 0)=.agg (r7.comp 0).cs/\aH [.lk .str,.vec 1,.lk .str] ((r7.comp 0).cs) 0 0 o7)<|NB (r7.comp 1)<|.ai (∀x,x∈o7->dP x)<|.call 48 [.agg [VS (((r7.comp 0).cs.getD 0 .any).toStr),.sl ((o7.hO).es),VS (((r7.comp 0).cs.getD 2 .any).toStr)]] [] fun r8 o8=>NT r8<|NS (r8.comp 0)<|NB (r8.comp 1)<|.test ((r5.comp 1).toBool) (.test ((r7.comp 1).toBool) (.test ((r8.comp 1).toBool) (.done 0 [.cv [VS ((r1.comp 0).toStr),VS ((r1.comp 1).toStr),VS ((r8.comp 0).toStr)]] [.cells [((o6.hO).cs.getD 0 .any),VI (((o6.hO).cs.getD 1 .any).toInt)]]) (.call 50 [.ref 0 0,VS ((r1.comp 0).toStr)] [.cells [((o6.hO).cs.getD 0 .any),VI (((o6.hO).cs.getD 1 .any).toInt)]] fun r9 o9=>.ai ((o9.hO)=.cells (o9.hO).cs)<|.ai (aH [.lk .sl,.lk (.int .i64)] ((o9.hO).cs) 0 1 o9.tail)<|NS r9<|.done 0 [.cv [VS ((r1.comp 0).toStr),VS ((r1.comp 1).toStr),VS r9.toStr]] [.cells [((o9.hO).cs.getD 0 .any),VI (((o9.hO).cs.getD 1 .any).toInt)]])) (.call 50 [.ref 0 0,VS ((r1.comp 0).toStr)] [.cells [((o6.hO).cs.getD 0 .any),VI (((o6.hO).cs.getD 1 .any).toInt)]] fun r10 o10=>.ai ((o10.hO)=.cells (o10.hO).cs)<|.ai (aH [.lk .sl,.lk (.int .i64)] ((o10.hO).cs) 0 1 o10.tail)<|NS r10<|.done 0 [.cv [VS ((r1.comp 0).toStr),VS ((r1.comp 1).toStr),VS r10.toStr]] [.cells [((o10.hO).cs.getD 0 .any),VI (((o10.hO).cs.getD 1 .any).toInt)]])) (.call 50 [.ref 0 0,VS ((r1.comp 0).toStr)] [.cells [((o6.hO).cs.getD 0 .any),VI (((o6.hO).cs.getD 1 .any).toInt)]] fun r11 o11=>.ai ((o11.hO)=.cells (o11.hO).cs)<|.ai (aH [.lk .sl,.lk (.int .i64)] ((o11.hO).cs) 0 1 o11.tail)<|NS r11<|.done 0 [.cv [VS ((r1.comp 0).toStr),VS ((r1.comp 1).toStr),VS r11.toStr]] [.cells [((o11.hO).cs.getD 0 .any),VI (((o11.hO).cs.getD 1 .any).toInt)]])) (.call 50 [.ref 0 0,VS ((r1.comp 0).toStr)] [.cells [((o3.hO).cs.getD 0 .any),VI (((o3.hO).cs.getD 1 .any).toInt)]] fun r12 o12=>.ai ((o12.hO)=.cells (o12.hO).cs)<|.ai (aH [.lk .sl,.lk (.int .i64)] ((o12.hO).cs) 0 1 o12.tail)<|NS r12<|.done 0 [.cv [VS ((r1.comp 0).toStr),VS ((r1.comp 1).toStr),VS r12.toStr]] [.cells [((o12.hO).cs.getD 0 .any),VI (((o12.hO).cs.getD 1 .any).toInt)]])) (.call 50 [.ref 0 0,VS ((r1.comp 0).toStr)] [.cells [((o1.hO).cs.getD 0 .any),VI (((o1.hO).cs.getD 1 .any).toInt)]] fun r13 o13=>.ai ((o13.hO)=.cells (o13.hO).cs)<|.ai (aH [.lk .sl,.lk (.int .i64)] ((o13.hO).cs) 0 1 o13.tail)<|NS r13<|.done 0 [.cv [VS ((r1.comp 0).toStr),VS ((r1.comp 1).toStr),VS r13.toStr]] [.cells [((o13.hO).cs.getD 0 .any),VI (((o13.hO).cs.getD 1 .any).toInt)]])
theorem SX(a0_0:AV)(a0_1:Int)(ha0_0:LK.has .sl a0_0)(h:dm 73 (OS a0_0 a0_1) R):aq Tryz.prog 22 [.ref 0 0] [.cells [a0_0,VI a0_1]] R :=
 aq.om (bH (cr (ag (bM ha0_0) (ag (az _) aB))) cE) (aq.up (ag (az _) aB) (oF [] {mu:=[(0,.one (.obj [.lk .sl,.lk (.int .i64)]))],own:=[]} Tryz.f22 h))
def MU(a0:AV):Tree :=
 NL a0<|.test (decide ((a0.elems.length:Int)>(2000:Int))) (.ai (LK.has .sl a0/\0<=(0:Int)/\(0:Int)<=(2000:Int)/\(2000:Int)<=(a0.elems.length:Int))<|.done 0 [.ref 0 0] [.cells [.sl ((a0.elems.take (bP 2000)).drop (bP 0)),VI 0]]) (.done 0 [.ref 0 0] [.cells [a0,VI 0]])
theorem Tl(a0:AV)(ha0:LK.has .sl a0)(h:dm 11 (MU a0) R):aq Tryz.prog 23 [a0] [] R :=
 uQ (ag (bM ha0) aB) (oF [] {mu:=[],own:=[0],ow:=[.sl,.int .i64]} Tryz.f23 h)
def Oz(a0:ByteArray)(a1:ByteArray):Tree :=
 .call 51 [VS a0] [] fun r1 o1=>NP r1<|NP r1<|.test r1.isNil (.done 0 [.cv [.v (.pointer none),.v (.pointer none)]] []) (.call 41 [VS a0,VS a1,VI 100] [] fun r2 o2=>NT r2<|NP (r2.comp 0)<|NP (r2.comp 1)<|.done 0 [.cv [(r2.comp 0),(r2.comp 1)]] [])
theorem Rr(a0:ByteArray)(a1:ByteArray)(h:dm 14 (Oz a0 a1) R):aq Tryz.prog 24 [VS a0,VS a1] [] R :=
 uQ (ag (az _) (ag (az _) aB)) (oQ [] Tryz.f24 h)
def Js:LI:={hd:={bR:=[(0,.k .ptr),(8,.k .sl),(9,.k .sl),(39,.k .sl),(40,.k (.int .i64)),(41,.k (.int .i64))],refs:=[(6,6),(7,7)],ct:=[(6,[.lk .sl,.lk .str,.lk .str]),(7,[.vec 1,.lk .str,.lk .str])],eM:=[(10,1)]},xs:={bR:=[(0,.k .ptr),(8,.k .sl),(9,.k .sl)],refs:=[(6,6),(7,7)],ct:=[(6,[.lk .sl,.lk .str,.lk .str]),(7,[.vec 1,.lk .str,.lk .str])],eM:=[(10,1)]},rt:={},ex:=0}
def Ou:Code:=cK (cD Tryz.f25) 9
def Ma:List (Nat×LI):=[(9,Js)]
def O8(a0:AV)(a1:AV)(a2:AV):Tree :=
 .call 52 [a1] [] fun r1 o1=>NS r1<|.call 52 [a2] [] fun r2 o2=>NS r2<|.test (ae r1.toStr==ae r2.toStr) (.done 0 [.agg [.vec 0,VS r1.toStr,VS r2.toStr]] [.vec 1 []]) (.call 35 [a0,a1] [] fun r3 o3=>NL r3<|.call 35 [a0,a2] [] fun r4 o4=>NL r4<|NL r3<|NL r4<|.test ((r3.elems.length:Int) != (r4.elems.length:Int)) (.done 0 [.agg [.vec 0,VS r1.toStr,VS r2.toStr]] [.vec 1 []]) (NL r3<|.loop Ou Js [a0,r3,r4,r3,VI (r3.elems.length:Int),VI 0] [.cells [.v (.slice none 0 0),VS (mk []),VS (mk [])],.cells [.any,VS r1.toStr,VS r2.toStr],.vec 1 [],.vec 1 []] (fun y7 q7=>NP (y7.hA)<|NL (y7.tail.hA)<|NL (y7.tail.tail.hA)<|.ai ((q7.hO)=.cells (q7.hO).cs)<|.ai (af [.lk .sl,.lk .str,.lk .str] ((q7.hO).cs) 0 q7.tail)<|.ai (((q7.tail.drop 0).hO)=.cells ((q7.tail.drop 0).hO).cs)<|.ai (af [.vec 1,.lk .str,.lk .str] (((q7.tail.drop 0).hO).cs) 0 ((q7.tail.drop 0).tail))<|.ai (((q7.drop 3).hO)=.vec 1 ((q7.drop 3).hO).es)<|.test ((((q7.tail.tail.tail.hO).es).length:Int) != (1:Int)) (.done 0 [.agg [.vec 0,VS (((q7.tail.hO).cs.getD 1 .any).toStr),VS (((q7.tail.hO).cs.getD 2 .any).toStr)]] [.vec 1 ((q7.tail.tail.hO).es)]) (.ai (0<=(0:Int)/\(0:Int)<((q7.tail.tail.tail.hO).es).length)<|.ai ((0:Int).toNat<((q7.tail.tail.tail.hO).es).length/\0<(((q7.tail.tail.tail.hO).es).getD ((0:Int).toNat) []).length/\LK.has (.int .i64) ((((q7.tail.tail.tail.hO).es).getD ((0:Int).toNat) []).getD 0 .any))<|.ai (LK.has .sl (y7.tail.hA)/\0<=(((((q7.tail.tail.tail.hO).es).getD ((0:Int).toNat) []).getD 0 .any).toInt)/\(((((q7.tail.tail.tail.hO).es).getD ((0:Int).toNat) []).getD 0 .any).toInt)<(y7.tail.hA).elems.length/\((y7.tail.hA).ix (((((q7.tail.tail.tail.hO).es).getD ((0:Int).toNat) []).getD 0 .any).toInt)).length=2)<|eg ((y7.tail.hA).ix (((((q7.tail.tail.tail.hO).es).getD ((0:Int).toNat) []).getD 0 .any).toInt))<|.ai (LK.has .sl (y7.tail.tail.hA)/\0<=(((((q7.tail.tail.tail.hO).es).getD ((0:Int).toNat) []).getD 0 .any).toInt)/\(((((q7.tail.tail.tail.hO).es).getD ((0:Int).toNat) []).getD 0 .any).toInt)<(y7.tail.tail.hA).elems.length/\((y7.tail.tail.hA).ix (((((q7.tail.tail.tail.hO).es).getD ((0:Int).toNat) []).getD 0 .any).toInt)).length=2)<|.ai (LK.has .ptr ((((y7.tail.tail.hA).ix (((((q7.tail.tail.tail.hO).es).getD ((0:Int).toNat) []).getD 0 .any).toInt)).drop 1).hA)/\1<=(((y7.tail.tail.hA).ix (((((q7.tail.tail.tail.hO).es).getD ((0:Int).toNat) []).getD 0 .any).toInt)).drop 1).length)<|.call 43 [(y7.hA),(((y7.tail.hA).ix (((((q7.tail.tail.tail.hO).es).getD ((0:Int).toNat) []).getD 0 .any).toInt)).hA),((((y7.tail.tail.hA).ix (((((q7.tail.tail.tail.hO).es).getD ((0:Int).toNat) []).getD 0 .any).toInt)).drop 1).hA)] [] fun r8 o8=>NP r8<|.call 52 [r8] [] fun r9 o9=>NS r9<|.test (!(ae r9.toStr==ae (((q7.tail.hO).cs.getD 2 .any).toStr))) (.done 0 [.agg [.vec 0,VS (((q7.tail.hO).cs.getD 1 .any).toStr),VS (((q7.tail.hO).cs.getD 2 .any).toStr)]] [.vec 1 ((q7.tail.tail.hO).es)]) (.ai (LK.has .sl (y7.tail.hA)/\0<=(((((q7.tail.tail.tail.hO).es).getD ((0:Int).toNat) []).getD 0 .any).toInt)/\(((((q7.tail.tail.tail.hO).es).getD ((0:Int).toNat) []).getD 0 .any).toInt)<(y7.tail.hA).elems.length/\((y7.tail.hA).ix (((((q7.tail.tail.tail.hO).es).getD ((0:Int).toNat) []).getD 0 .any).toInt)).length=2)<|.ai (LK.has .ptr ((((y7.tail.hA).ix (((((q7.tail.tail.tail.hO).es).getD ((0:Int).toNat) []).getD 0 .any).toInt)).drop 1).hA)/\1<=(((y7.tail.hA).ix (((((q7.tail.tail.tail.hO).es).getD ((0:Int).toNat) []).getD 0 .any).toInt)).drop 1).length)<|.ai (LK.has .sl (y7.tail.tail.hA)/\0<=(((((q7.tail.tail.tail.hO).es).getD ((0:Int).toNat) []).getD 0 .any).toInt)/\(((((q7.tail.tail.tail.hO).es).getD ((0:Int).toNat) []).getD 0 .any).toInt)<(y7.tail.tail.hA).elems.length/\((y7.tail.tail.hA).ix (((((q7.tail.tail.tail.hO).es).getD ((0:Int).toNat) []).getD 0 .any).toInt)).length=2)<|.ai (LK.has .ptr ((((y7.tail.tail.hA).ix (((((q7.tail.tail.tail.hO).es).getD ((0:Int).toNat) []).getD 0 .any).toInt)).drop 1).hA)/\1<=(((y7.tail.tail.hA).ix (((((q7.tail.tail.tail.hO).es).getD ((0:Int).toNat) []).getD 0 .any).toInt)).drop 1).length)<|.call 25 [(y7.hA),((((y7.tail.hA).ix (((((q7.tail.tail.tail.hO).es).getD ((0:Int).toNat) []).getD 0 .any).toInt)).drop 1).hA),((((y7.tail.tail.hA).ix (((((q7.tail.tail.tail.hO).es).getD ((0:Int).toNat) []).getD 0 .any).toInt)).drop 1).hA)] [] fun r10 o10=>.ai (r10=.agg r10.cs/\aH [.vec 1,.lk .str,.lk .str] r10.cs 0 0 o10)<|.ai (∀x,x∈o10->dP x)<|.ai (cq 1 ((o10.hO).es)/\((([[VI (((((q7.tail.tail.tail.hO).es).getD ((0:Int).toNat) []).getD 0 .any).toInt)]]:List (List AV)).length)+((o10.hO).es).length)*8<=140737488355328)<|.done 0 [.agg [.vec 0,VS ((r10.cs.getD 1 .any).toStr),VS ((r10.cs.getD 2 .any).toStr)]] [.vec 1 (([[VI (((((q7.tail.tail.tail.hO).es).getD ((0:Int).toNat) []).getD 0 .any).toInt)]]:List (List AV))++((o10.hO).es))]))) (fun y7 q7=>.fail)))
theorem TF(a0:AV)(a1:AV)(a2:AV)(ha0:LK.has .ptr a0)(ha1:LK.has .ptr a1)(ha2:LK.has .ptr a2)(h:dm 104 (O8 a0 a1 a2) R):aq Tryz.prog 25 [a0,a1,a2] [] R :=
 uQ (ag (bJ ha0) (ag (bJ ha1) (ag (bJ ha2) aB))) (oF Ma {mu:=[],own:=[0],oa:=[.vec 1,.lk .str,.lk .str]} Tryz.f25 h)
def Hv(x0:AV)(x8:AV)(x9:AV)(x39:AV)(x40:Int)(x41:Int)(o6_0:AV)(o6_1:ByteArray)(o6_2:ByteArray)(o7_0:List (List AV))(o7_1:ByteArray)(o7_2:ByteArray)(e10:List (List AV)):Tree :=
 NP x0<|NL x8<|NL x9<|NL x39<|NI (VI x40)<|NI (VI x41)<|.ai (Ob.cells [o6_0,VS o6_1,VS o6_2]=.cells [o6_0,VS o6_1,VS o6_2])<|.ai (af [.lk .sl,.lk .str,.lk .str] [o6_0,VS o6_1,VS o6_2] 0 [.cells [.any,VS o7_1,VS o7_2],.vec 1 o7_0,.vec 1 e10])<|.ai (Ob.cells [.any,VS o7_1,VS o7_2]=.cells [.any,VS o7_1,VS o7_2])<|.ai (af [.vec 1,.lk .str,.lk .str] [.any,VS o7_1,VS o7_2] 0 [.vec 1 o7_0,.vec 1 e10])<|.ai (Ob.vec 1 e10=.vec 1 e10)<|.test (decide (x41<x40)) (NG x39 x41 2<|.ai (bE [.ptr,.ptr] (x39.ix x41) 0/\2<=(x39.ix x41).length)<|.call 52 [((x39.ix x41).getD 1 .any)] [] fun r1 o1=>NS r1<|NG x9 x41 2<|eg ((x9.ix x41).drop 1)<|.call 52 [(((x9.ix x41).drop 1).hA)] [] fun r2 o2=>NS r2<|.test (!(ae r1.toStr==ae r2.toStr)) (.ai (cq 1 [[VI x41]]/\((e10.length)+([[VI x41]]:List (List AV)).length)*8<=140737488355328)<|.done 0 [x0,x8,x9,x39,VI x40,VI (IntKind.wrap .i64 (x41+1))] [.cells [o6_0,VS o6_1,VS o6_2],.cells [.any,VS o7_1,VS o7_2],.vec 1 o7_0,.vec 1 (e10++([[VI x41]]:List (List AV)))]) (.done 0 [x0,x8,x9,x39,VI x40,VI (IntKind.wrap .i64 (x41+1))] [.cells [o6_0,VS o6_1,VS o6_2],.cells [.any,VS o7_1,VS o7_2],.vec 1 o7_0,.vec 1 e10])) (.done 1 [x0,x8,x9] [.cells [o6_0,VS o6_1,VS o6_2],.cells [.any,VS o7_1,VS o7_2],.vec 1 o7_0,.vec 1 e10])
abbrev IQ:=cC Tryz.prog 104 Ou Js
theorem Lt(x0:AV)(x8:AV)(x9:AV)(x39:AV)(x40:Int)(x41:Int)(o6_0:AV)(o6_1:ByteArray)(o6_2:ByteArray)(o7_0:List (List AV))(o7_1:ByteArray)(o7_2:ByteArray)(e10:List (List AV))(h:kF 104 (Hv x0 x8 x9 x39 x40 x41 o6_0 o6_1 o6_2 o7_0 o7_1 o7_2 e10) IQ U):IQ [x0,x8,x9,x39,VI x40,VI x41] [.cells [o6_0,VS o6_1,VS o6_2],.cells [.any,VS o7_1,VS o7_2],.vec 1 o7_0,.vec 1 e10] U :=
 gQ Ma h
def Qq(a0:ByteArray):Tree :=
 .call 53 [VS a0] [] fun r1 o1=>NT r1<|.ai ((r1.comp 0)=.agg (r1.comp 0).cs/\(r1.comp 0).cs.length=2/\bE [.str,.sl] ((r1.comp 0).cs) 0)<|NB (r1.comp 1)<|.test ((r1.comp 1).toBool) (.call 54 [.agg [VS (((r1.comp 0).cs.getD 0 .any).toStr),((r1.comp 0).cs.getD 1 .any)]] [] fun r2 o2=>NS r2<|.done 0 [.cv [.agg [VS (((r1.comp 0).cs.getD 0 .any).toStr),((r1.comp 0).cs.getD 1 .any)],VB (ae r2.toStr==ae (mk [114,101,99]))]] []) (.done 0 [.cv [.agg [VS (((r1.comp 0).cs.getD 0 .any).toStr),((r1.comp 0).cs.getD 1 .any)],VB false]] [])
theorem Si(a0:ByteArray)(h:dm 18 (Qq a0) R):aq Tryz.prog 26 [VS a0] [] R :=
 uQ (ag (az _) aB) (oQ [] Tryz.f26 h)
def Pu(a0:ByteArray)(a1:ByteArray)(a2:Int):Tree :=
 .call 53 [VS a0] [] fun r1 o1=>NT r1<|.ai ((r1.comp 0)=.agg (r1.comp 0).cs/\(r1.comp 0).cs.length=2/\bE [.str,.sl] ((r1.comp 0).cs) 0)<|NB (r1.comp 1)<|.call 28 [VS a1] [] fun r2 o2=>NT r2<|.ai ((r2.comp 0)=.agg (r2.comp 0).cs/\(r2.comp 0).cs.length=2/\bE [.str,.sl] ((r2.comp 0).cs) 0)<|NB (r2.comp 1)<|.test ((r1.comp 1).toBool) (.test ((r2.comp 1).toBool) (.call 55 [VI a2,VI 0,VI 100] [] fun r3 o3=>NB r3<|.test r3.toBool (.call 56 [.agg [VS (((r1.comp 0).cs.getD 0 .any).toStr),((r1.comp 0).cs.getD 1 .any)],.sl [],.agg [VS (((r2.comp 0).cs.getD 0 .any).toStr),((r2.comp 0).cs.getD 1 .any)],VI a2] [] fun r4 o4=>NB r4<|.done 0 [VB r4.toBool] []) (.done 0 [VB false] [])) (.done 0 [VB false] [])) (.done 0 [VB false] [])
theorem Rj(a0:ByteArray)(a1:ByteArray)(a2:Int)(h:dm 36 (Pu a0 a1 a2) R):aq Tryz.prog 27 [VS a0,VS a1,VI a2] [] R :=
 uQ (ag (az _) (ag (az _) (ag (az _) aB))) (oQ [] Tryz.f27 h)
def Pw(a0:ByteArray):Tree :=
 .call 57 [VS a0] [] fun r1 o1=>NT r1<|.ai ((r1.comp 0)=.agg (r1.comp 0).cs/\(r1.comp 0).cs.length=2/\bE [.str,.sl] ((r1.comp 0).cs) 0)<|NB (r1.comp 1)<|.test ((r1.comp 1).toBool) (.call 58 [.agg [VS (((r1.comp 0).cs.getD 0 .any).toStr),((r1.comp 0).cs.getD 1 .any)]] [] fun r2 o2=>NB r2<|.test r2.toBool (.call 59 [.agg [VS (((r1.comp 0).cs.getD 0 .any).toStr),((r1.comp 0).cs.getD 1 .any)]] [] fun r3 o3=>NI r3<|.done 0 [.cv [.agg [VS (((r1.comp 0).cs.getD 0 .any).toStr),((r1.comp 0).cs.getD 1 .any)],VB (decide (r3.toInt<=(200:Int)))]] []) (.done 0 [.cv [.agg [VS (((r1.comp 0).cs.getD 0 .any).toStr),((r1.comp 0).cs.getD 1 .any)],VB false]] [])) (.done 0 [.cv [.agg [VS (((r1.comp 0).cs.getD 0 .any).toStr),((r1.comp 0).cs.getD 1 .any)],VB false]] [])
theorem Tu(a0:ByteArray)(h:dm 22 (Pw a0) R):aq Tryz.prog 28 [VS a0] [] R :=
 uQ (ag (az _) aB) (oQ [] Tryz.f28 h)
def JK:LI:={hd:={bR:=[(8,.k .str),(9,.k .sl),(10,.k .sl),(11,.k (.int .i64)),(12,.k (.int .i64))],refs:=[(3,3),(6,6),(7,7)],ct:=[(3,[.lk .str,.lk .sl]),(6,[.lk .sl,.lk .str,.lk .str]),(7,[.vec 1,.lk .str,.lk .str])]},xs:={bR:=[(8,.k .str),(9,.k .sl),(10,.k .sl),(11,.k (.int .i64))],refs:=[(3,3),(6,6),(7,7)],ct:=[(3,[.lk .str,.lk .sl]),(6,[.lk .sl,.lk .str,.lk .str]),(7,[.vec 1,.lk .str,.lk .str])]},rt:={refs:=[(6,6)],ct:=[(6,[.vec 1,.lk .str,.lk .str])]},ex:=0}
def MZ:Code:=cK (cD Tryz.f29) 7
def Lh:List (Nat×LI):=[(7,JK)]
def QW(a0_0:ByteArray)(a0_1:AV)(a1_0:ByteArray)(a1_1:AV)(a2_0:ByteArray)(a2_1:AV):Tree :=
 .call 60 [.agg [VS a1_0,a1_1]] [] fun r1 o1=>NS r1<|.call 60 [.agg [VS a2_0,a2_1]] [] fun r2 o2=>NS r2<|NG a0_1 1 2<|lF (a0_1.ix (1:Int))<|NG a0_1 2 2<|NE (a0_1.ix (2:Int))<|NG a1_1 1 2<|NE (a1_1.ix (1:Int))<|.call 37 [.agg [VS (((a0_1.ix (2:Int)).getD 0 .any).toStr),((a0_1.ix (2:Int)).getD 1 .any)],VS (((a0_1.ix (1:Int)).hA).toStr),.agg [VS (((a1_1.ix (1:Int)).getD 0 .any).toStr),((a1_1.ix (1:Int)).getD 1 .any)]] [] fun r3 o3=>NL r3<|NG a0_1 2 2<|NE (a0_1.ix (2:Int))<|NG a2_1 1 2<|NE (a2_1.ix (1:Int))<|.call 37 [.agg [VS (((a0_1.ix (2:Int)).getD 0 .any).toStr),((a0_1.ix (2:Int)).getD 1 .any)],VS (((a0_1.ix (1:Int)).hA).toStr),.agg [VS (((a2_1.ix (1:Int)).getD 0 .any).toStr),((a2_1.ix (1:Int)).getD 1 .any)]] [] fun r4 o4=>NL r4<|.loop MZ JK [VS (((a0_1.ix (1:Int)).hA).toStr),r3,r4,VI (-1),VI 0] [.cells [VS a0_0,a0_1],.cells [.v (.slice none 0 0),VS (mk []),VS (mk [])],.cells [.any,VS r1.toStr,VS r2.toStr],.vec 1 []] (fun y7 q7=>NS (y7.hA)<|NL (y7.tail.hA)<|NL (y7.tail.tail.hA)<|NI (y7.tail.tail.tail.hA)<|.ai ((q7.hO)=.cells (q7.hO).cs)<|.ai (af [.lk .str,.lk .sl] ((q7.hO).cs) 0 q7.tail)<|.ai (((q7.tail.drop 0).hO)=.cells ((q7.tail.drop 0).hO).cs)<|.ai (af [.lk .sl,.lk .str,.lk .str] (((q7.tail.drop 0).hO).cs) 0 ((q7.tail.drop 0).tail))<|.ai ((((q7.tail.drop 0).tail.drop 0).hO)=.cells (((q7.tail.drop 0).tail.drop 0).hO).cs)<|.ai (af [.vec 1,.lk .str,.lk .str] ((((q7.tail.drop 0).tail.drop 0).hO).cs) 0 (((q7.tail.drop 0).tail.drop 0).tail))<|.test (decide (((y7.tail.tail.tail.hA).toInt)<(0:Int))) (.done 0 [.agg [.vec 0,VS (((q7.tail.tail.hO).cs.getD 1 .any).toStr),VS (((q7.tail.tail.hO).cs.getD 2 .any).toStr)]] [.vec 1 ((q7.tail.tail.tail.hO).es)]) (NG ((q7.hO).cs.getD 1 .any) 2 2<|NE (((q7.hO).cs.getD 1 .any).ix (2:Int))<|.ai (LK.has .sl (y7.tail.hA)/\0<=((y7.tail.tail.tail.hA).toInt)/\((y7.tail.tail.tail.hA).toInt)<(y7.tail.hA).elems.length/\((y7.tail.hA).ix ((y7.tail.tail.tail.hA).toInt)).length=4)<|NE ((y7.tail.hA).ix ((y7.tail.tail.tail.hA).toInt))<|.ai (LK.has .sl (y7.tail.tail.hA)/\0<=((y7.tail.tail.tail.hA).toInt)/\((y7.tail.tail.tail.hA).toInt)<(y7.tail.tail.hA).elems.length/\((y7.tail.tail.hA).ix ((y7.tail.tail.tail.hA).toInt)).length=4)<|NE (((y7.tail.tail.hA).ix ((y7.tail.tail.tail.hA).toInt)).drop 2)<|.call 62 [.agg [VS (((((q7.hO).cs.getD 1 .any).ix (2:Int)).getD 0 .any).toStr),((((q7.hO).cs.getD 1 .any).ix (2:Int)).getD 1 .any)],VS ((y7.hA).toStr),.agg [VS ((((y7.tail.hA).ix ((y7.tail.tail.tail.hA).toInt)).getD 0 .any).toStr),(((y7.tail.hA).ix ((y7.tail.tail.tail.hA).toInt)).getD 1 .any)],.agg [VS (((((y7.tail.tail.hA).ix ((y7.tail.tail.tail.hA).toInt)).drop 2).getD 0 .any).toStr),((((y7.tail.tail.hA).ix ((y7.tail.tail.tail.hA).toInt)).drop 2).getD 1 .any)]] [] fun r8 o8=>NA r8<|.call 61 [VS (mk [102]),.sl [[VS ((r8.cs.getD 0 .any).toStr),(r8.cs.getD 1 .any)]]] [] fun r9 o9=>NA r9<|.call 60 [.agg [VS ((r9.cs.getD 0 .any).toStr),(r9.cs.getD 1 .any)]] [] fun r10 o10=>NS r10<|.test (!(ae r10.toStr==ae (((q7.tail.tail.hO).cs.getD 2 .any).toStr))) (.done 0 [.agg [.vec 0,VS (((q7.tail.tail.hO).cs.getD 1 .any).toStr),VS (((q7.tail.tail.hO).cs.getD 2 .any).toStr)]] [.vec 1 ((q7.tail.tail.tail.hO).es)]) (.ai (LK.has .sl (y7.tail.hA)/\0<=((y7.tail.tail.tail.hA).toInt)/\((y7.tail.tail.tail.hA).toInt)<(y7.tail.hA).elems.length/\((y7.tail.hA).ix ((y7.tail.tail.tail.hA).toInt)).length=4)<|NE (((y7.tail.hA).ix ((y7.tail.tail.tail.hA).toInt)).drop 2)<|.ai (LK.has .sl (y7.tail.tail.hA)/\0<=((y7.tail.tail.tail.hA).toInt)/\((y7.tail.tail.tail.hA).toInt)<(y7.tail.tail.hA).elems.length/\((y7.tail.tail.hA).ix ((y7.tail.tail.tail.hA).toInt)).length=4)<|NE (((y7.tail.tail.hA).ix ((y7.tail.tail.tail.hA).toInt)).drop 2)<|.call 29 [.agg [VS (((q7.hO).cs.getD 0 .any).toStr),((q7.hO).cs.getD 1 .any)],.agg [VS (((((y7.tail.hA).ix ((y7.tail.tail.tail.hA).toInt)).drop 2).getD 0 .any).toStr),((((y7.tail.hA).ix ((y7.tail.tail.tail.hA).toInt)).drop 2).getD 1 .any)],.agg [VS (((((y7.tail.tail.hA).ix ((y7.tail.tail.tail.hA).toInt)).drop 2).getD 0 .any).toStr),((((y7.tail.tail.hA).ix ((y7.tail.tail.tail.hA).toInt)).drop 2).getD 1 .any)]] [] fun r11 o11=>.ai (r11=.agg r11.cs/\aH [.vec 1,.lk .str,.lk .str] r11.cs 0 0 o11)<|.ai (∀x,x∈o11->dP x)<|.ai (cq 1 ((o11.hO).es)/\((([[VI ((y7.tail.tail.tail.hA).toInt)]]:List (List AV)).length)+((o11.hO).es).length)*8<=140737488355328)<|.done 0 [.agg [.vec 0,VS ((r11.cs.getD 1 .any).toStr),VS ((r11.cs.getD 2 .any).toStr)]] [.vec 1 (([[VI ((y7.tail.tail.tail.hA).toInt)]]:List (List AV))++((o11.hO).es))]))) (fun y7 q7=>.ai ((q7.hO)=.cells (q7.hO).cs)<|.ai (af [.vec 1,.lk .str,.lk .str] ((q7.hO).cs) 0 q7.tail)<|.done 0 [.agg [.vec 0,VS (((q7.hO).cs.getD 1 .any).toStr),VS (((q7.hO).cs.getD 2 .any).toStr)]] [.vec 1 ((q7.tail.hO).es)])
theorem Su(a0_0:ByteArray)(a0_1:AV)(a1_0:ByteArray)(a1_1:AV)(a2_0:ByteArray)(a2_1:AV)(ha0_1:LK.has .sl a0_1)(ha1_1:LK.has .sl a1_1)(ha2_1:LK.has .sl a2_1)(h:dm 121 (QW a0_0 a0_1 a1_0 a1_1 a2_0 a2_1) R):aq Tryz.prog 29 [.agg [VS a0_0,a0_1],.agg [VS a1_0,a1_1],.agg [VS a2_0,a2_1]] [] R :=
 uQ (ag (bW (ag (az _) (ag (bM ha0_1) aB))) (ag (bW (ag (az _) (ag (bM ha1_1) aB))) (ag (bW (ag (az _) (ag (bM ha2_1) aB))) aB))) (oF Lh {mu:=[],own:=[0],oa:=[.vec 1,.lk .str,.lk .str]} Tryz.f29 h)
def FM(x8:ByteArray)(x9:AV)(x10:AV)(x11:Int)(x12:Int)(o3_0:ByteArray)(o3_1:AV)(o6_0:AV)(o6_1:ByteArray)(o6_2:ByteArray)(o7_0:List (List AV))(o7_1:ByteArray)(o7_2:ByteArray):Tree :=
 NS (VS x8)<|NL x9<|NL x10<|NI (VI x11)<|NI (VI x12)<|.ai (Ob.cells [VS o3_0,o3_1]=.cells [VS o3_0,o3_1])<|.ai (af [.lk .str,.lk .sl] [VS o3_0,o3_1] 0 [.cells [o6_0,VS o6_1,VS o6_2],.cells [.any,VS o7_1,VS o7_2],.vec 1 o7_0])<|.ai (Ob.cells [o6_0,VS o6_1,VS o6_2]=.cells [o6_0,VS o6_1,VS o6_2])<|.ai (af [.lk .sl,.lk .str,.lk .str] [o6_0,VS o6_1,VS o6_2] 0 [.cells [.any,VS o7_1,VS o7_2],.vec 1 o7_0])<|.ai (Ob.cells [.any,VS o7_1,VS o7_2]=.cells [.any,VS o7_1,VS o7_2])<|.ai (af [.vec 1,.lk .str,.lk .str] [.any,VS o7_1,VS o7_2] 0 [.vec 1 o7_0])<|NL x9<|.test (decide (x12<(x9.elems.length:Int))) (NL x9<|NL x10<|.test ((x9.elems.length:Int)==(x10.elems.length:Int)) (NG x9 x12 4<|NE ((x9.ix x12).drop 2)<|.call 60 [.agg [VS ((((x9.ix x12).drop 2).getD 0 .any).toStr),(((x9.ix x12).drop 2).getD 1 .any)]] [] fun r1 o1=>NS r1<|NG x10 x12 4<|NE ((x10.ix x12).drop 2)<|.call 60 [.agg [VS ((((x10.ix x12).drop 2).getD 0 .any).toStr),(((x10.ix x12).drop 2).getD 1 .any)]] [] fun r2 o2=>NS r2<|.test (!(ae r1.toStr==ae r2.toStr)) (.test (decide (x11≥(0:Int))) (.done 2 [] [.cells [.any,VS o7_1,VS o7_2],.vec 1 o7_0]) (.done 0 [VS x8,x9,x10,VI x12,VI (IntKind.wrap .i64 (x12+1))] [.cells [VS o3_0,o3_1],.cells [o6_0,VS o6_1,VS o6_2],.cells [.any,VS o7_1,VS o7_2],.vec 1 o7_0])) (.done 0 [VS x8,x9,x10,VI x11,VI (IntKind.wrap .i64 (x12+1))] [.cells [VS o3_0,o3_1],.cells [o6_0,VS o6_1,VS o6_2],.cells [.any,VS o7_1,VS o7_2],.vec 1 o7_0])) (.done 1 [VS x8,x9,x10,VI x11] [.cells [VS o3_0,o3_1],.cells [o6_0,VS o6_1,VS o6_2],.cells [.any,VS o7_1,VS o7_2],.vec 1 o7_0])) (.done 1 [VS x8,x9,x10,VI x11] [.cells [VS o3_0,o3_1],.cells [o6_0,VS o6_1,VS o6_2],.cells [.any,VS o7_1,VS o7_2],.vec 1 o7_0])
abbrev FE:=cC Tryz.prog 121 MZ JK
theorem Jh(x8:ByteArray)(x9:AV)(x10:AV)(x11:Int)(x12:Int)(o3_0:ByteArray)(o3_1:AV)(o6_0:AV)(o6_1:ByteArray)(o6_2:ByteArray)(o7_0:List (List AV))(o7_1:ByteArray)(o7_2:ByteArray)(h:kF 121 (FM x8 x9 x10 x11 x12 o3_0 o3_1 o6_0 o6_1 o6_2 o7_0 o7_1 o7_2) FE U):FE [VS x8,x9,x10,VI x11,VI x12] [.cells [VS o3_0,o3_1],.cells [o6_0,VS o6_1,VS o6_2],.cells [.any,VS o7_1,VS o7_2],.vec 1 o7_0] U :=
 gQ Lh h
def JD:LI:={hd:={bR:=[(8,.k .ptr),(15,.k .sl),(16,.k (.int .i64)),(17,.k (.int .i64))],refs:=[(6,6)],ct:=[(6,[.lk .str,.lk .sl,.lk .str])]},xs:={bR:=[(8,.k .ptr)],refs:=[(6,6)],ct:=[(6,[.lk .str,.lk .sl,.lk .str])]},rt:={},ex:=0}
def Mq:Code:=cK (cD Tryz.f30) 3
def MJ:List (Nat×LI):=[(3,JD)]
def N0(a0:ByteArray)(a1:ByteArray)(a2:AV):Tree :=
 .call 63 [.agg [VS a0,.v (.slice none 0 0),VS a1]] [] fun r1 o1=>NP r1<|NL a2<|.loop Mq JD [r1,a2,VI (a2.elems.length:Int),VI 0] [.cells [VS (mk []),.v (.slice none 0 0),VS (mk [])]] (fun y3 q3=>NP (y3.hA)<|.ai ((q3.hO)=.cells (q3.hO).cs)<|.ai (af [.lk .str,.lk .sl,.lk .str] ((q3.hO).cs) 0 q3.tail)<|.call 65 [(y3.hA)] [] fun r4 o4=>NT r4<|.ai ((r4.comp 0)=.agg (r4.comp 0).cs/\aH [.lk .str,.vec 1,.lk .str] ((r4.comp 0).cs) 0 0 o4)<|NB (r4.comp 1)<|.ai (∀x,x∈o4->dP x)<|.done 0 [.cv [.agg [VS (((r4.comp 0).cs.getD 0 .any).toStr),.vec 0,VS (((r4.comp 0).cs.getD 2 .any).toStr)],VB ((r4.comp 1).toBool)]] [.vec 1 ((o4.hO).es)]) (fun y3 q3=>.fail)
theorem UE(a0:ByteArray)(a1:ByteArray)(a2:AV)(ha2:LK.has .sl a2)(h:dm 29 (N0 a0 a1 a2) R):aq Tryz.prog 30 [VS a0,VS a1,a2] [] R :=
 uQ (ag (az _) (ag (az _) (ag (bM ha2) aB))) (oF MJ {mu:=[],own:=[0],oa:=[.lk .str,.vec 1,.lk .str]} Tryz.f30 h)
def HD(x8:AV)(x15:AV)(x16:Int)(x17:Int)(o6_0:ByteArray)(o6_1:AV)(o6_2:ByteArray):Tree :=
 NP x8<|NL x15<|NI (VI x16)<|NI (VI x17)<|.ai (Ob.cells [VS o6_0,o6_1,VS o6_2]=.cells [VS o6_0,o6_1,VS o6_2])<|.ai (af [.lk .str,.lk .sl,.lk .str] [VS o6_0,o6_1,VS o6_2] 0 [])<|.test (decide (x17<x16)) (NG x15 x17 1<|.ai (LK.has (.int .i64) ((x15.ix x17).hA)/\1<=(x15.ix x17).length)<|.call 64 [x8,VI (((x15.ix x17).hA).toInt)] [] fun r1 o1=>NP r1<|.done 0 [r1,x15,VI x16,VI (IntKind.wrap .i64 (x17+1))] [.cells [VS o6_0,o6_1,VS o6_2]]) (.done 1 [x8] [.cells [VS o6_0,o6_1,VS o6_2]])
abbrev G7:=cC Tryz.prog 29 Mq JD
theorem P4(x8:AV)(x15:AV)(x16:Int)(x17:Int)(o6_0:ByteArray)(o6_1:AV)(o6_2:ByteArray)(h:kF 29 (HD x8 x15 x16 x17 o6_0 o6_1 o6_2) G7 U):G7 [x8,x15,VI x16,VI x17] [.cells [VS o6_0,o6_1,VS o6_2]] U :=
 gQ MJ h
def Nl(a0_0:ByteArray)(a0_1:AV)(a0_2:ByteArray)(a1:ByteArray):Tree :=
 .call 66 [.agg [VS a0_0,a0_1,VS a0_2]] [] fun r1 o1=>NP r1<|NP r1<|.test r1.isNil (.done 0 [.cv [.agg [VS (mk []),.vec 0,VS (mk [])],VB false]] [.vec 1 []]) (.call 66 [.agg [VS a0_0,a0_1,VS a1]] [] fun r2 o2=>NP r2<|.call 65 [r2] [] fun r3 o3=>NT r3<|.ai ((r3.comp 0)=.agg (r3.comp 0).cs/\aH [.lk .str,.vec 1,.lk .str] ((r3.comp 0).cs) 0 0 o3)<|NB (r3.comp 1)<|.ai (∀x,x∈o3->dP x)<|.done 0 [.cv [.agg [VS (((r3.comp 0).cs.getD 0 .any).toStr),.vec 0,VS (((r3.comp 0).cs.getD 2 .any).toStr)],VB ((r3.comp 1).toBool)]] [.vec 1 ((o3.hO).es)])
theorem R1(a0_0:ByteArray)(a0_1:AV)(a0_2:ByteArray)(a1:ByteArray)(ha0_1:LK.has .sl a0_1)(h:dm 20 (Nl a0_0 a0_1 a0_2 a1) R):aq Tryz.prog 31 [.agg [VS a0_0,a0_1,VS a0_2],VS a1] [] R :=
 uQ (ag (bW (ag (az _) (ag (bM ha0_1) (ag (az _) aB)))) (ag (az _) aB)) (oF [] {mu:=[],own:=[0],oa:=[.lk .str,.vec 1,.lk .str]} Tryz.f31 h)
def Jm:LI:={hd:={bR:=[(4,.k .ptr)]},xs:={bR:=[(4,.k .ptr)]},rt:={},ex:=0}
def Pa:Code:=cK (cD Tryz.f32) 4
def KP:List (Nat×LI):=[(4,Jm)]
def Pe(a0_0:ByteArray)(a0_1:AV)(a0_2:ByteArray):Tree :=
 .call 66 [.agg [VS a0_0,a0_1,VS a0_2]] [] fun r1 o1=>NP r1<|NP r1<|.test r1.isNil (.done 0 [.cv [VS (mk []),VB false]] []) (.loop Pa Jm [r1] [] (fun y3 q3=>NP (y3.hA)<|NZ (y3.hA)<|NZ (y3.hA)<|eg ((y3.hA).deref.drop 3)<|.call 52 [(((y3.hA).deref.drop 3).hA)] [] fun r4 o4=>NS r4<|.done 0 [.cv [VS r4.toStr,VB true]] []) (fun y3 q3=>.done 0 [.cv [.any,.any]] []))
theorem RO(a0_0:ByteArray)(a0_1:AV)(a0_2:ByteArray)(ha0_1:LK.has .sl a0_1)(h:dm 22 (Pe a0_0 a0_1 a0_2) R):aq Tryz.prog 32 [.agg [VS a0_0,a0_1,VS a0_2]] [] R :=
 uQ (ag (bW (ag (az _) (ag (bM ha0_1) (ag (az _) aB)))) aB) (oQ KP Tryz.f32 h)
def Kk(x4:AV):Tree :=
 NP x4<|NZ x4<|NZ x4<|oy (x4.deref.drop 2)<|NL ((x4.deref.drop 2).hA)<|.test (decide (((((x4.deref.drop 2).hA).elems).length:Int)>(0:Int))) (.call 67 [x4] [] fun r1 o1=>NP r1<|.done 0 [r1] []) (.done 1 [x4] [])
abbrev H3:=cC Tryz.prog 22 Pa Jm
theorem Pn(x4:AV)(h:kF 22 (Kk x4) H3 U):H3 [x4] [] U :=
 gQ KP h
def K1(a0_0:AV)(a0_1:Int):Tree :=
 .call 68 [.ref 0 0] [.cells [a0_0,VI a0_1]] fun r1 o1=>.ai ((o1.hO)=.cells (o1.hO).cs)<|.ai (aH [.lk .sl,.lk (.int .i64)] ((o1.hO).cs) 0 1 o1.tail)<|NS r1<|.call 45 [.ref 0 0,VI 12] [.cells [((o1.hO).cs.getD 0 .any),VI (((o1.hO).cs.getD 1 .any).toInt)]] fun r2 o2=>.ai ((o2.hO)=.cells (o2.hO).cs)<|.ai (aH [.lk .sl,.lk (.int .i64)] ((o2.hO).cs) 0 1 o2.tail)<|NI r2<|.test (r2.toInt==(0:Int)) (.call 69 [.ref 0 0] [.cells [((o2.hO).cs.getD 0 .any),VI (((o2.hO).cs.getD 1 .any).toInt)]] fun r3 o3=>.ai ((o3.hO)=.cells (o3.hO).cs)<|.ai (aH [.lk .sl,.lk (.int .i64)] ((o3.hO).cs) 0 1 o3.tail)<|NT r3<|NS (r3.comp 0)<|NS (r3.comp 1)<|.done 0 [.cv [VS ((r3.comp 0).toStr),VS ((r3.comp 1).toStr)]] [.cells [((o3.hO).cs.getD 0 .any),VI (((o3.hO).cs.getD 1 .any).toInt)]]) (.call 50 [.ref 0 0,VS r1.toStr] [.cells [((o2.hO).cs.getD 0 .any),VI (((o2.hO).cs.getD 1 .any).toInt)]] fun r4 o4=>.ai ((o4.hO)=.cells (o4.hO).cs)<|.ai (aH [.lk .sl,.lk (.int .i64)] ((o4.hO).cs) 0 1 o4.tail)<|NS r4<|.done 0 [.cv [VS r1.toStr,VS r4.toStr]] [.cells [((o4.hO).cs.getD 0 .any),VI (((o4.hO).cs.getD 1 .any).toInt)]])
theorem Rx(a0_0:AV)(a0_1:Int)(ha0_0:LK.has .sl a0_0)(h:dm 18 (K1 a0_0 a0_1) R):aq Tryz.prog 33 [.ref 0 0] [.cells [a0_0,VI a0_1]] R :=
 aq.om (bH (cr (ag (bM ha0_0) (ag (az _) aB))) cE) (aq.up (ag (az _) aB) (oF [] {mu:=[(0,.one (.obj [.lk .sl,.lk (.int .i64)]))],own:=[]} Tryz.f33 h))
def L4(a0:AV)(a1:AV):Tree :=
 .call 70 [.agg [a0,.v (.pointer none)]] [] fun r1 o1=>NT r1<|.ai ((r1.comp 0)=.agg (r1.comp 0).cs/\(r1.comp 0).cs.length=2/\bE [.ptr,.ptr] ((r1.comp 0).cs) 0)<|NP (r1.comp 1)<|NZ a1<|NZ a1<|eg (a1.deref.drop 2)<|.call 71 [.agg [((r1.comp 0).cs.getD 0 .any),((r1.comp 0).cs.getD 1 .any)],((a1.deref.drop 2).hA),.agg [VS (mk []),(r1.comp 1)]] [] fun r2 o2=>NL r2<|.done 0 [r2] []
theorem Tq(a0:AV)(a1:AV)(ha0:LK.has .ptr a0)(ha1:LK.has .ptr a1)(h:dm 21 (L4 a0 a1) R):aq Tryz.prog 35 [a0,a1] [] R :=
 uQ (ag (bJ ha0) (ag (bJ ha1) aB)) (oQ [] Tryz.f35 h)
def Ka:LI:={hd:={bR:=[(0,.k .sl),(4,.k (.int .i64))],eM:=[(3,2)]},xs:={eM:=[(3,2)]},rt:={},ex:=0}
def MG:Code:=cK (cD Tryz.f36) 3
def QJ:List (Nat×LI):=[(3,Ka)]
def O7(a0:AV):Tree :=
 .loop MG Ka [a0,VI 0] [.vec 2 []] (fun y3 q3=>.ai (((q3.drop 0).hO)=.vec 2 ((q3.drop 0).hO).es)<|.done 0 [.sl ((q3.hO).es)] []) (fun y3 q3=>.done 0 [.any] [])
theorem SA(a0:AV)(ha0:LK.has .sl a0)(h:dm 29 (O7 a0) R):aq Tryz.prog 36 [a0] [] R :=
 uQ (ag (bM ha0) aB) (oQ QJ Tryz.f36 h)
def Hy(x0:AV)(x4:Int)(e3:List (List AV)):Tree :=
 NL x0<|NI (VI x4)<|.ai (Ob.vec 2 e3=.vec 2 e3)<|NL x0<|.test (decide (x4<(x0.elems.length:Int))) (NG x0 x4 4<|NE (x0.ix x4)<|.call 60 [.agg [VS (((x0.ix x4).getD 0 .any).toStr),((x0.ix x4).getD 1 .any)]] [] fun r1 o1=>NS r1<|NG x0 x4 4<|NE ((x0.ix x4).drop 2)<|.call 60 [.agg [VS ((((x0.ix x4).drop 2).getD 0 .any).toStr),(((x0.ix x4).drop 2).getD 1 .any)]] [] fun r2 o2=>NS r2<|.ai (cq 2 [[VS r1.toStr,VS r2.toStr]]/\((e3.length)+([[VS r1.toStr,VS r2.toStr]]:List (List AV)).length)*32<=140737488355328)<|.done 0 [x0,VI (IntKind.wrap .i64 (x4+1))] [.vec 2 (e3++([[VS r1.toStr,VS r2.toStr]]:List (List AV)))]) (.done 1 [] [.vec 2 e3])
abbrev Ie:=cC Tryz.prog 29 MG Ka
theorem KK(x0:AV)(x4:Int)(e3:List (List AV))(h:kF 29 (Hy x0 x4 e3) Ie U):Ie [x0,VI x4] [.vec 2 e3] U :=
 gQ QJ h
def GO:LI:={hd:={bR:=[(1,.k .str),(8,.k .sl),(9,.k (.int .i64))],refs:=[(3,3),(5,5)],ct:=[(3,[.lk .str,.lk .sl]),(5,[.lk .str,.lk .sl])],eM:=[(7,4)]},xs:={bR:=[(1,.k .str)],refs:=[(3,3),(5,5)],ct:=[(3,[.lk .str,.lk .sl]),(5,[.lk .str,.lk .sl])],eM:=[(7,4)]},rt:={},ex:=1}
def LS:Code:=cK (cD Tryz.f37) 14
def Hi:LI:={hd:={bR:=[(10,.k .sl),(11,.k (.int .i64))],refs:=[(5,5)],ct:=[(5,[.lk .str,.lk .sl])],eM:=[(7,4)]},xs:={eM:=[(7,4)]},rt:={},ex:=3}
def QP:Code:=cK (cD Tryz.f37) 19
def Hj:LI:={hd:={bR:=[(1,.k .str),(12,.k .str),(13,.k .sl),(14,.k (.int .i64))],refs:=[(3,3),(5,5)],ct:=[(3,[.lk .str,.lk .sl]),(5,[.lk .str,.lk .sl])],eM:=[(7,4)]},xs:={bR:=[(1,.k .str),(12,.k .str)],refs:=[(3,3),(5,5)],ct:=[(3,[.lk .str,.lk .sl]),(5,[.lk .str,.lk .sl])],eM:=[(7,4)]},rt:={},ex:=5}
def QQ:Code:=cK (cD Tryz.f37) 28
def JP:LI:={hd:={bR:=[(1,.k .str),(15,.k .sl),(16,.k (.int .i64))],refs:=[(3,3)],ct:=[(3,[.lk .str,.lk .sl])],eM:=[(7,4)]},xs:={eM:=[(7,4)]},rt:={},ex:=7}
def Ml:Code:=cK (cD Tryz.f37) 33
def Hm:LI:={hd:={bR:=[(1,.k .str),(15,.k .sl),(16,.k (.int .i64)),(17,.k .sl),(18,.k (.int .i64))],refs:=[(3,3)],ct:=[(3,[.lk .str,.lk .sl])],eM:=[(7,4)]},xs:={bR:=[(1,.k .str),(15,.k .sl),(16,.k (.int .i64))],refs:=[(3,3)],ct:=[(3,[.lk .str,.lk .sl])],eM:=[(7,4)]},rt:={},ex:=9}
def Ms:Code:=cK (cD Tryz.f37) 37
def Bt:List (Nat×LI):=[(14,GO),(19,Hi),(28,Hj),(33,JP),(37,Hm)]
def HN(a0_0:ByteArray)(a0_1:AV)(a1:ByteArray)(a2_0:ByteArray)(a2_1:AV):Tree :=
 .test (!(ae a0_0==ae (mk []))) (.test (ae a0_0==ae a1) (.ai (cq 4 [[VS (mk [117]),.v (.slice none 0 0),VS a2_0,a2_1]]/\((([]:List (List AV)).length)+([[VS (mk [117]),.v (.slice none 0 0),VS a2_0,a2_1]]:List (List AV)).length)*80<=140737488355328)<|.done 0 [.sl [[VS (mk [117]),.v (.slice none 0 0),VS a2_0,a2_1]]] []) (.done 0 [.sl []] [])) (.call 54 [.agg [VS a2_0,a2_1]] [] fun r1 o1=>NS r1<|.test (ae r1.toStr==ae (mk [108])) (NG a0_1 1 2<|NE (a0_1.ix (1:Int))<|NG a2_1 1 2<|NE (a2_1.ix (1:Int))<|.call 37 [.agg [VS (((a0_1.ix (1:Int)).getD 0 .any).toStr),((a0_1.ix (1:Int)).getD 1 .any)],VS a1,.agg [VS (((a2_1.ix (1:Int)).getD 0 .any).toStr),((a2_1.ix (1:Int)).getD 1 .any)]] [] fun r2 o2=>NL r2<|.call 72 [r2,VS (mk [108]),.vec 0] [.vec 4 []] fun r3 o3=>.ai (r3=.vec 1/\(o3.tail.hO)=.vec 4 (o3.tail.hO).es)<|.done 0 [.sl ((o3.tail.hO).es)] []) (.test (ae r1.toStr==ae (mk [114])) (NG a0_1 2 2<|NE (a0_1.ix (2:Int))<|NG a2_1 1 2<|NE (a2_1.ix (1:Int))<|.call 37 [.agg [VS (((a0_1.ix (2:Int)).getD 0 .any).toStr),((a0_1.ix (2:Int)).getD 1 .any)],VS a1,.agg [VS (((a2_1.ix (1:Int)).getD 0 .any).toStr),((a2_1.ix (1:Int)).getD 1 .any)]] [] fun r4 o4=>NL r4<|.call 72 [r4,VS (mk [114]),.vec 0] [.vec 4 []] fun r5 o5=>.ai (r5=.vec 1/\(o5.tail.hO)=.vec 4 (o5.tail.hO).es)<|.done 0 [.sl ((o5.tail.hO).es)] []) (.test (ae r1.toStr==ae (mk [112])) (NG a0_1 1 2<|NE (a0_1.ix (1:Int))<|NG a2_1 1 2<|NE (a2_1.ix (1:Int))<|.call 37 [.agg [VS (((a0_1.ix (1:Int)).getD 0 .any).toStr),((a0_1.ix (1:Int)).getD 1 .any)],VS a1,.agg [VS (((a2_1.ix (1:Int)).getD 0 .any).toStr),((a2_1.ix (1:Int)).getD 1 .any)]] [] fun r6 o6=>NL r6<|.loop LS GO [VS a1,r6,VI 0] [.cells [VS a0_0,a0_1],.cells [VS a2_0,a2_1],.vec 4 []] (fun y9 q9=>NS (y9.hA)<|.ai ((q9.hO)=.cells (q9.hO).cs)<|.ai (af [.lk .str,.lk .sl] ((q9.hO).cs) 0 q9.tail)<|.ai (((q9.tail.drop 0).hO)=.cells ((q9.tail.drop 0).hO).cs)<|.ai (af [.lk .str,.lk .sl] (((q9.tail.drop 0).hO).cs) 0 ((q9.tail.drop 0).tail))<|.ai (((q9.drop 2).hO)=.vec 4 ((q9.drop 2).hO).es)<|NG ((q9.hO).cs.getD 1 .any) 2 2<|NE (((q9.hO).cs.getD 1 .any).ix (2:Int))<|NG ((q9.tail.hO).cs.getD 1 .any) 2 2<|NE (((q9.tail.hO).cs.getD 1 .any).ix (2:Int))<|.call 37 [.agg [VS (((((q9.hO).cs.getD 1 .any).ix (2:Int)).getD 0 .any).toStr),((((q9.hO).cs.getD 1 .any).ix (2:Int)).getD 1 .any)],VS ((y9.hA).toStr),.agg [VS (((((q9.tail.hO).cs.getD 1 .any).ix (2:Int)).getD 0 .any).toStr),((((q9.tail.hO).cs.getD 1 .any).ix (2:Int)).getD 1 .any)]] [] fun r10 o10=>NL r10<|.loop QP Hi [r10,VI 0] [.cells [VS (((q9.tail.hO).cs.getD 0 .any).toStr),((q9.tail.hO).cs.getD 1 .any)],.vec 4 ((q9.tail.tail.hO).es)] (fun y13 q13=>.ai (((q13.drop 0).hO)=.vec 4 ((q13.drop 0).hO).es)<|.done 0 [.sl ((q13.hO).es)] []) (fun y13 q13=>.done 0 [.any] [])) (fun y9 q9=>.done 0 [.any] [])) (NG a0_1 1 2<|lF (a0_1.ix (1:Int))<|.test (ae (((a0_1.ix (1:Int)).hA).toStr)==ae a1) (.done 0 [.sl []] []) (NG a0_1 2 2<|NE (a0_1.ix (2:Int))<|NG a2_1 1 2<|NE (a2_1.ix (1:Int))<|.call 37 [.agg [VS (((a0_1.ix (2:Int)).getD 0 .any).toStr),((a0_1.ix (2:Int)).getD 1 .any)],VS a1,.agg [VS (((a2_1.ix (1:Int)).getD 0 .any).toStr),((a2_1.ix (1:Int)).getD 1 .any)]] [] fun r14 o14=>NL r14<|.loop QQ Hj [VS a1,VS (((a0_1.ix (1:Int)).hA).toStr),r14,VI 0] [.cells [VS a0_0,a0_1],.cells [VS a2_0,a2_1],.vec 4 []] (fun y17 q17=>NS (y17.hA)<|NS (y17.tail.hA)<|.ai ((q17.hO)=.cells (q17.hO).cs)<|.ai (af [.lk .str,.lk .sl] ((q17.hO).cs) 0 q17.tail)<|.ai (((q17.tail.drop 0).hO)=.cells ((q17.tail.drop 0).hO).cs)<|.ai (af [.lk .str,.lk .sl] (((q17.tail.drop 0).hO).cs) 0 ((q17.tail.drop 0).tail))<|.ai (((q17.drop 2).hO)=.vec 4 ((q17.drop 2).hO).es)<|NG ((q17.hO).cs.getD 1 .any) 2 2<|NE (((q17.hO).cs.getD 1 .any).ix (2:Int))<|NG ((q17.tail.hO).cs.getD 1 .any) 1 2<|NE (((q17.tail.hO).cs.getD 1 .any).ix (1:Int))<|.call 37 [.agg [VS (((((q17.hO).cs.getD 1 .any).ix (2:Int)).getD 0 .any).toStr),((((q17.hO).cs.getD 1 .any).ix (2:Int)).getD 1 .any)],VS ((y17.tail.hA).toStr),.agg [VS (((((q17.tail.hO).cs.getD 1 .any).ix (1:Int)).getD 0 .any).toStr),((((q17.tail.hO).cs.getD 1 .any).ix (1:Int)).getD 1 .any)]] [] fun r18 o18=>NL r18<|.loop Ml JP [VS ((y17.hA).toStr),r18,VI 0] [.cells [VS (((q17.hO).cs.getD 0 .any).toStr),((q17.hO).cs.getD 1 .any)],.vec 4 ((q17.tail.tail.hO).es)] (fun y24 q24=>.ai (((q24.drop 0).hO)=.vec 4 ((q24.drop 0).hO).es)<|.done 0 [.sl ((q24.hO).es)] []) (fun y24 q24=>.done 0 [.any] [])) (fun y17 q17=>.done 0 [.any] []))))))
theorem Ul(a0_0:ByteArray)(a0_1:AV)(a1:ByteArray)(a2_0:ByteArray)(a2_1:AV)(ha0_1:LK.has .sl a0_1)(ha2_1:LK.has .sl a2_1)(h:dm 244 (HN a0_0 a0_1 a1 a2_0 a2_1) R):aq Tryz.prog 37 [.agg [VS a0_0,a0_1],VS a1,.agg [VS a2_0,a2_1]] [] R :=
 uQ (ag (bW (ag (az _) (ag (bM ha0_1) aB))) (ag (az _) (ag (bW (ag (az _) (ag (bM ha2_1) aB))) aB))) (oQ Bt Tryz.f37 h)
def JA(x1:ByteArray)(x8:AV)(x9:Int)(o3_0:ByteArray)(o3_1:AV)(o5_0:ByteArray)(o5_1:AV)(e7:List (List AV)):Tree :=
 NS (VS x1)<|NL x8<|NI (VI x9)<|.ai (Ob.cells [VS o3_0,o3_1]=.cells [VS o3_0,o3_1])<|.ai (af [.lk .str,.lk .sl] [VS o3_0,o3_1] 0 [.cells [VS o5_0,o5_1],.vec 4 e7])<|.ai (Ob.cells [VS o5_0,o5_1]=.cells [VS o5_0,o5_1])<|.ai (af [.lk .str,.lk .sl] [VS o5_0,o5_1] 0 [.vec 4 e7])<|.ai (Ob.vec 4 e7=.vec 4 e7)<|NL x8<|.test (decide (x9<(x8.elems.length:Int))) (NG x8 x9 4<|NE (x8.ix x9)<|NG o5_1 2 2<|NE (o5_1.ix (2:Int))<|.call 61 [VS (mk [112]),.sl [[VS (((x8.ix x9).getD 0 .any).toStr),((x8.ix x9).getD 1 .any)],[VS (((o5_1.ix (2:Int)).getD 0 .any).toStr),((o5_1.ix (2:Int)).getD 1 .any)]]] [] fun r1 o1=>NA r1<|.call 61 [VS (mk [108]),.sl [[VS ((r1.cs.getD 0 .any).toStr),(r1.cs.getD 1 .any)]]] [] fun r2 o2=>NA r2<|NG x8 x9 4<|NE ((x8.ix x9).drop 2)<|.ai (cq 4 [[VS ((r2.cs.getD 0 .any).toStr),(r2.cs.getD 1 .any),VS ((((x8.ix x9).drop 2).getD 0 .any).toStr),(((x8.ix x9).drop 2).getD 1 .any)]]/\((e7.length)+([[VS ((r2.cs.getD 0 .any).toStr),(r2.cs.getD 1 .any),VS ((((x8.ix x9).drop 2).getD 0 .any).toStr),(((x8.ix x9).drop 2).getD 1 .any)]]:List (List AV)).length)*80<=140737488355328)<|.done 0 [VS x1,x8,VI (IntKind.wrap .i64 (x9+1))] [.cells [VS o3_0,o3_1],.cells [VS o5_0,o5_1],.vec 4 (e7++([[VS ((r2.cs.getD 0 .any).toStr),(r2.cs.getD 1 .any),VS ((((x8.ix x9).drop 2).getD 0 .any).toStr),(((x8.ix x9).drop 2).getD 1 .any)]]:List (List AV)))]) (.done 1 [VS x1] [.cells [VS o3_0,o3_1],.cells [VS o5_0,o5_1],.vec 4 e7])
abbrev G3:=cC Tryz.prog 244 LS GO
theorem Mw(x1:ByteArray)(x8:AV)(x9:Int)(o3_0:ByteArray)(o3_1:AV)(o5_0:ByteArray)(o5_1:AV)(e7:List (List AV))(h:kF 244 (JA x1 x8 x9 o3_0 o3_1 o5_0 o5_1 e7) G3 U):G3 [VS x1,x8,VI x9] [.cells [VS o3_0,o3_1],.cells [VS o5_0,o5_1],.vec 4 e7] U :=
 gQ Bt h
def Iv(x10:AV)(x11:Int)(o5_0:ByteArray)(o5_1:AV)(e7:List (List AV)):Tree :=
 NL x10<|NI (VI x11)<|.ai (Ob.cells [VS o5_0,o5_1]=.cells [VS o5_0,o5_1])<|.ai (af [.lk .str,.lk .sl] [VS o5_0,o5_1] 0 [.vec 4 e7])<|.ai (Ob.vec 4 e7=.vec 4 e7)<|NL x10<|.test (decide (x11<(x10.elems.length:Int))) (NG o5_1 1 2<|NE (o5_1.ix (1:Int))<|NG x10 x11 4<|NE (x10.ix x11)<|.call 61 [VS (mk [112]),.sl [[VS (((o5_1.ix (1:Int)).getD 0 .any).toStr),((o5_1.ix (1:Int)).getD 1 .any)],[VS (((x10.ix x11).getD 0 .any).toStr),((x10.ix x11).getD 1 .any)]]] [] fun r1 o1=>NA r1<|.call 61 [VS (mk [114]),.sl [[VS ((r1.cs.getD 0 .any).toStr),(r1.cs.getD 1 .any)]]] [] fun r2 o2=>NA r2<|NG x10 x11 4<|NE ((x10.ix x11).drop 2)<|.ai (cq 4 [[VS ((r2.cs.getD 0 .any).toStr),(r2.cs.getD 1 .any),VS ((((x10.ix x11).drop 2).getD 0 .any).toStr),(((x10.ix x11).drop 2).getD 1 .any)]]/\((e7.length)+([[VS ((r2.cs.getD 0 .any).toStr),(r2.cs.getD 1 .any),VS ((((x10.ix x11).drop 2).getD 0 .any).toStr),(((x10.ix x11).drop 2).getD 1 .any)]]:List (List AV)).length)*80<=140737488355328)<|.done 0 [x10,VI (IntKind.wrap .i64 (x11+1))] [.cells [VS o5_0,o5_1],.vec 4 (e7++([[VS ((r2.cs.getD 0 .any).toStr),(r2.cs.getD 1 .any),VS ((((x10.ix x11).drop 2).getD 0 .any).toStr),(((x10.ix x11).drop 2).getD 1 .any)]]:List (List AV)))]) (.done 1 [] [.vec 4 e7])
abbrev J8:=cC Tryz.prog 244 QP Hi
theorem NN(x10:AV)(x11:Int)(o5_0:ByteArray)(o5_1:AV)(e7:List (List AV))(h:kF 244 (Iv x10 x11 o5_0 o5_1 e7) J8 U):J8 [x10,VI x11] [.cells [VS o5_0,o5_1],.vec 4 e7] U :=
 gQ Bt h
def JR(x1:ByteArray)(x12:ByteArray)(x13:AV)(x14:Int)(o3_0:ByteArray)(o3_1:AV)(o5_0:ByteArray)(o5_1:AV)(e7:List (List AV)):Tree :=
 NS (VS x1)<|NS (VS x12)<|NL x13<|NI (VI x14)<|.ai (Ob.cells [VS o3_0,o3_1]=.cells [VS o3_0,o3_1])<|.ai (af [.lk .str,.lk .sl] [VS o3_0,o3_1] 0 [.cells [VS o5_0,o5_1],.vec 4 e7])<|.ai (Ob.cells [VS o5_0,o5_1]=.cells [VS o5_0,o5_1])<|.ai (af [.lk .str,.lk .sl] [VS o5_0,o5_1] 0 [.vec 4 e7])<|.ai (Ob.vec 4 e7=.vec 4 e7)<|NL x13<|.test (decide (x14<(x13.elems.length:Int))) (NG x13 x14 4<|NE (x13.ix x14)<|.call 61 [VS (mk [108]),.sl [[VS (((x13.ix x14).getD 0 .any).toStr),((x13.ix x14).getD 1 .any)]]] [] fun r1 o1=>NA r1<|.call 61 [VS (mk [102]),.sl [[VS ((r1.cs.getD 0 .any).toStr),(r1.cs.getD 1 .any)]]] [] fun r2 o2=>NA r2<|NG x13 x14 4<|NE ((x13.ix x14).drop 2)<|.ai (cq 4 [[VS ((r2.cs.getD 0 .any).toStr),(r2.cs.getD 1 .any),VS ((((x13.ix x14).drop 2).getD 0 .any).toStr),(((x13.ix x14).drop 2).getD 1 .any)]]/\((e7.length)+([[VS ((r2.cs.getD 0 .any).toStr),(r2.cs.getD 1 .any),VS ((((x13.ix x14).drop 2).getD 0 .any).toStr),(((x13.ix x14).drop 2).getD 1 .any)]]:List (List AV)).length)*80<=140737488355328)<|.done 0 [VS x1,VS x12,x13,VI (IntKind.wrap .i64 (x14+1))] [.cells [VS o3_0,o3_1],.cells [VS o5_0,o5_1],.vec 4 (e7++([[VS ((r2.cs.getD 0 .any).toStr),(r2.cs.getD 1 .any),VS ((((x13.ix x14).drop 2).getD 0 .any).toStr),(((x13.ix x14).drop 2).getD 1 .any)]]:List (List AV)))]) (.done 1 [VS x1,VS x12] [.cells [VS o3_0,o3_1],.cells [VS o5_0,o5_1],.vec 4 e7])
abbrev JU:=cC Tryz.prog 244 QQ Hj
theorem PY(x1:ByteArray)(x12:ByteArray)(x13:AV)(x14:Int)(o3_0:ByteArray)(o3_1:AV)(o5_0:ByteArray)(o5_1:AV)(e7:List (List AV))(h:kF 244 (JR x1 x12 x13 x14 o3_0 o3_1 o5_0 o5_1 e7) JU U):JU [VS x1,VS x12,x13,VI x14] [.cells [VS o3_0,o3_1],.cells [VS o5_0,o5_1],.vec 4 e7] U :=
 gQ Bt h
def GX(x1:ByteArray)(x15:AV)(x16:Int)(o3_0:ByteArray)(o3_1:AV)(e7:List (List AV)):Tree :=
 NS (VS x1)<|NL x15<|NI (VI x16)<|.ai (Ob.cells [VS o3_0,o3_1]=.cells [VS o3_0,o3_1])<|.ai (af [.lk .str,.lk .sl] [VS o3_0,o3_1] 0 [.vec 4 e7])<|.ai (Ob.vec 4 e7=.vec 4 e7)<|NL x15<|.test (decide (x16<(x15.elems.length:Int))) (NG x15 x16 4<|NE ((x15.ix x16).drop 2)<|.call 37 [.agg [VS o3_0,o3_1],VS x1,.agg [VS ((((x15.ix x16).drop 2).getD 0 .any).toStr),(((x15.ix x16).drop 2).getD 1 .any)]] [] fun r1 o1=>NL r1<|.loop Ms Hm [VS x1,x15,VI x16,r1,VI 0] [.cells [VS o3_0,o3_1],.vec 4 e7] (fun y2 q2=>NS (y2.hA)<|NL (y2.tail.hA)<|NI (y2.tail.tail.hA)<|.ai ((q2.hO)=.cells (q2.hO).cs)<|.ai (af [.lk .str,.lk .sl] ((q2.hO).cs) 0 q2.tail)<|.ai (((q2.drop 1).hO)=.vec 4 ((q2.drop 1).hO).es)<|.done 0 [VS ((y2.hA).toStr),(y2.tail.hA),VI (IntKind.wrap .i64 (((y2.tail.tail.hA).toInt)+1))] [.cells [VS (((q2.hO).cs.getD 0 .any).toStr),((q2.hO).cs.getD 1 .any)],.vec 4 ((q2.tail.hO).es)]) (fun y2 q2=>.done 2 [] [])) (.done 1 [] [.vec 4 e7])
abbrev Ha:=cC Tryz.prog 244 Ml JP
theorem N2(x1:ByteArray)(x15:AV)(x16:Int)(o3_0:ByteArray)(o3_1:AV)(e7:List (List AV))(h:kF 244 (GX x1 x15 x16 o3_0 o3_1 e7) Ha U):Ha [VS x1,x15,VI x16] [.cells [VS o3_0,o3_1],.vec 4 e7] U :=
 gQ Bt h
def Kp(x1:ByteArray)(x15:AV)(x16:Int)(x17:AV)(x18:Int)(o3_0:ByteArray)(o3_1:AV)(e7:List (List AV)):Tree :=
 NS (VS x1)<|NL x15<|NI (VI x16)<|NL x17<|NI (VI x18)<|.ai (Ob.cells [VS o3_0,o3_1]=.cells [VS o3_0,o3_1])<|.ai (af [.lk .str,.lk .sl] [VS o3_0,o3_1] 0 [.vec 4 e7])<|.ai (Ob.vec 4 e7=.vec 4 e7)<|NL x17<|.test (decide (x18<(x17.elems.length:Int))) (NG x15 x16 4<|NE (x15.ix x16)<|NG x17 x18 4<|NE (x17.ix x18)<|.call 61 [VS (mk [112]),.sl [[VS (((x15.ix x16).getD 0 .any).toStr),((x15.ix x16).getD 1 .any)],[VS (((x17.ix x18).getD 0 .any).toStr),((x17.ix x18).getD 1 .any)]]] [] fun r1 o1=>NA r1<|.call 61 [VS (mk [114]),.sl [[VS ((r1.cs.getD 0 .any).toStr),(r1.cs.getD 1 .any)]]] [] fun r2 o2=>NA r2<|.call 61 [VS (mk [102]),.sl [[VS ((r2.cs.getD 0 .any).toStr),(r2.cs.getD 1 .any)]]] [] fun r3 o3=>NA r3<|NG x17 x18 4<|NE ((x17.ix x18).drop 2)<|.ai (cq 4 [[VS ((r3.cs.getD 0 .any).toStr),(r3.cs.getD 1 .any),VS ((((x17.ix x18).drop 2).getD 0 .any).toStr),(((x17.ix x18).drop 2).getD 1 .any)]]/\((e7.length)+([[VS ((r3.cs.getD 0 .any).toStr),(r3.cs.getD 1 .any),VS ((((x17.ix x18).drop 2).getD 0 .any).toStr),(((x17.ix x18).drop 2).getD 1 .any)]]:List (List AV)).length)*80<=140737488355328)<|.done 0 [VS x1,x15,VI x16,x17,VI (IntKind.wrap .i64 (x18+1))] [.cells [VS o3_0,o3_1],.vec 4 (e7++([[VS ((r3.cs.getD 0 .any).toStr),(r3.cs.getD 1 .any),VS ((((x17.ix x18).drop 2).getD 0 .any).toStr),(((x17.ix x18).drop 2).getD 1 .any)]]:List (List AV)))]) (.done 1 [VS x1,x15,VI x16] [.cells [VS o3_0,o3_1],.vec 4 e7])
abbrev GR:=cC Tryz.prog 244 Ms Hm
theorem Lp(x1:ByteArray)(x15:AV)(x16:Int)(x17:AV)(x18:Int)(o3_0:ByteArray)(o3_1:AV)(e7:List (List AV))(h:kF 244 (Kp x1 x15 x16 x17 x18 o3_0 o3_1 e7) GR U):GR [VS x1,x15,VI x16,x17,VI x18] [.cells [VS o3_0,o3_1],.vec 4 e7] U :=
 gQ Bt h
def Ld(a0:ByteArray):Tree :=
 .call 73 [VS a0] [] fun r1 o1=>NP r1<|NP r1<|.test r1.isNil (.done 0 [.v (.pointer none)] []) (.call 74 [r1,.v (.slice none 0 0)] [] fun r2 o2=>NP r2<|NP r2<|.test r2.isNil (.done 0 [.v (.pointer none)] []) (.call 75 [r2] [] fun r3 o3=>NI r3<|.test (decide (r3.toInt>(400:Int))) (.done 0 [.v (.pointer none)] []) (.done 0 [r2] [])))
theorem Uj(a0:ByteArray)(h:dm 19 (Ld a0) R):aq Tryz.prog 38 [VS a0] [] R :=
 uQ (ag (az _) aB) (oQ [] Tryz.f38 h)
def OW(a0:AV):Tree :=
 .call 76 [.ref 0 0] [.cells [VI 0,VB false]] fun r1 o1=>.ai ((o1.hO)=.cells (o1.hO).cs)<|.ai (aH [.lk (.int .i64),.lk .bool] ((o1.hO).cs) 0 1 o1.tail)<|NS r1<|NZ a0<|NZ a0<|eg (a0.deref.drop 3)<|.call 79 [((a0.deref.drop 3).hA),.ptr [.v (.int .u8 110),VS r1.toStr,VI 0,.v (.pointer none),.v (.pointer none)],VI 0] [] fun r2 o2=>NP r2<|.call 78 [.ref 0 0,r2,VS r1.toStr] [.cells [VI (((o1.hO).cs.getD 0 .any).toInt),VB (((o1.hO).cs.getD 1 .any).toBool)]] fun r3 o3=>.ai ((o3.hO)=.cells (o3.hO).cs)<|.ai (aH [.lk (.int .i64),.lk .bool] ((o3.hO).cs) 0 1 o3.tail)<|NP r3<|.call 77 [.ref 0 0,r3] [.cells [VI (((o3.hO).cs.getD 0 .any).toInt),VB (((o3.hO).cs.getD 1 .any).toBool)]] fun r4 o4=>.ai ((o4.hO)=.cells (o4.hO).cs)<|.ai (aH [.lk (.int .i64),.lk .bool] ((o4.hO).cs) 0 1 o4.tail)<|NP r4<|.test (((o4.hO).cs.getD 1 .any).toBool) (.done 0 [.cv [.v (.pointer none),VB false]] []) (.call 80 [r4,VS r1.toStr,a0] [] fun r5 o5=>NP r5<|.call 77 [.ref 0 0,r5] [.cells [VI (((o4.hO).cs.getD 0 .any).toInt),VB (((o4.hO).cs.getD 1 .any).toBool)]] fun r6 o6=>.ai ((o6.hO)=.cells (o6.hO).cs)<|.ai (aH [.lk (.int .i64),.lk .bool] ((o6.hO).cs) 0 1 o6.tail)<|NP r6<|.done 0 [.cv [r6,VB (!(((o6.hO).cs.getD 1 .any).toBool))]] [])
theorem Uc(a0:AV)(ha0:LK.has .ptr a0)(h:dm 40 (OW a0) R):aq Tryz.prog 39 [a0] [] R :=
 uQ (ag (bJ ha0) aB) (oQ [] Tryz.f39 h)
def Ql(a0:AV):Tree :=
 .call 75 [a0] [] fun r1 o1=>NI r1<|.test (decide (r1.toInt>(400:Int))) (.done 0 [.cv [VS (mk []),VB false]] []) (.call 81 [a0] [] fun r2 o2=>NS r2<|.call 38 [VS r2.toStr] [] fun r3 o3=>NP r3<|NP r3<|.test r3.isNil (.done 0 [.cv [VS (mk []),VB false]] []) (.done 0 [.cv [VS r2.toStr,VB true]] []))
theorem RS(a0:AV)(ha0:LK.has .ptr a0)(h:dm 14 (Ql a0) R):aq Tryz.prog 40 [a0] [] R :=
 uQ (ag (bJ ha0) aB) (oQ [] Tryz.f40 h)
def Mf(a0:ByteArray)(a1:ByteArray)(a2:Int):Tree :=
 .call 82 [VS a0] [] fun r1 o1=>NP r1<|.call 44 [VS a1] [] fun r2 o2=>NP r2<|NP r1<|.test r1.isNil (.done 0 [.cv [r1,.v (.pointer none)]] []) (NP r2<|.test r2.isNil (.done 0 [.cv [r1,.v (.pointer none)]] []) (.test (decide (a2<(0:Int))) (.done 0 [.cv [r1,.v (.pointer none)]] []) (.test (decide (a2>(100:Int))) (.done 0 [.cv [r1,.v (.pointer none)]] []) (.call 83 [.agg [r1,.v (.pointer none)],r2,VI a2] [] fun r3 o3=>NB r3<|.test (!r3.toBool) (.done 0 [.cv [r1,.v (.pointer none)]] []) (.done 0 [.cv [r1,r2]] [])))))
theorem TX(a0:ByteArray)(a1:ByteArray)(a2:Int)(h:dm 39 (Mf a0 a1 a2) R):aq Tryz.prog 41 [VS a0,VS a1,VI a2] [] R :=
 uQ (ag (az _) (ag (az _) (ag (az _) aB))) (oQ [] Tryz.f41 h)
def M5(a0:AV)(a1:AV)(a2:AV):Tree :=
 .call 70 [.agg [a0,.v (.pointer none)]] [] fun r1 o1=>NT r1<|.ai ((r1.comp 0)=.agg (r1.comp 0).cs/\(r1.comp 0).cs.length=2/\bE [.ptr,.ptr] ((r1.comp 0).cs) 0)<|NP (r1.comp 1)<|.call 86 [.agg [((r1.comp 0).cs.getD 0 .any),((r1.comp 0).cs.getD 1 .any)],a1,.agg [VS (mk []),(r1.comp 1)],a2] [] fun r2 o2=>NP r2<|.call 85 [.v (.int .u8 102),r2] [] fun r3 o3=>NP r3<|.done 0 [r3] []
theorem Ue(a0:AV)(a1:AV)(a2:AV)(ha0:LK.has .ptr a0)(ha1:LK.has .ptr a1)(ha2:LK.has .ptr a2)(h:dm 22 (M5 a0 a1 a2) R):aq Tryz.prog 43 [a0,a1,a2] [] R :=
 uQ (ag (bJ ha0) (ag (bJ ha1) (ag (bJ ha2) aB))) (oQ [] Tryz.f43 h)
def Oc(a0:ByteArray):Tree :=
 .call 73 [VS a0] [] fun r1 o1=>NP r1<|NP r1<|.test r1.isNil (.done 0 [.v (.pointer none)] []) (.call 87 [r1] [] fun r2 o2=>NP r2<|NP r2<|.test r2.isNil (.done 0 [.v (.pointer none)] []) (.call 84 [r2] [] fun r3 o3=>NI r3<|.test (decide (r3.toInt>(200:Int))) (.done 0 [.v (.pointer none)] []) (.done 0 [r2] [])))
theorem UK(a0:ByteArray)(h:dm 19 (Oc a0) R):aq Tryz.prog 44 [VS a0] [] R :=
 uQ (ag (az _) aB) (oQ [] Tryz.f44 h)
def Qt(a0_0:AV)(a0_1:Int)(a1:Int):Tree :=
 .test (decide (a1<(1:Int))) (.done 0 [VI 0] [.cells [a0_0,VI (IntKind.wrap .i64 (a0_1+1))]]) (NL a0_0<|.test ((a0_0.elems.length:Int)==(0:Int)) (.done 0 [VI 0] [.cells [a0_0,VI (IntKind.wrap .i64 (a0_1+1))]]) (NL a0_0<|.test (decide ((IntKind.wrap .i64 ((IntKind.wrap .i64 (a0_1+1))-1))<(a0_0.elems.length:Int))) (.ai (LK.has .sl a0_0/\0<=(IntKind.wrap .i64 ((IntKind.wrap .i64 (a0_1+1))-1))/\(IntKind.wrap .i64 ((IntKind.wrap .i64 (a0_1+1))-1))<a0_0.elems.length/\(a0_0.ix (IntKind.wrap .i64 ((IntKind.wrap .i64 (a0_1+1))-1))).length=1)<|.ai (LK.has (.int .u8) ((a0_0.ix (IntKind.wrap .i64 ((IntKind.wrap .i64 (a0_1+1))-1))).hA)/\1<=(a0_0.ix (IntKind.wrap .i64 ((IntKind.wrap .i64 (a0_1+1))-1))).length)<|.ai (¬a1=0)<|.done 0 [VI (dN (IntKind.wrap .i64 (((a0_0.ix (IntKind.wrap .i64 ((IntKind.wrap .i64 (a0_1+1))-1))).hA).toInt)) a1)] [.cells [a0_0,VI (IntKind.wrap .i64 (a0_1+1))]]) (NL a0_0<|.ai (¬(a0_0.elems.length:Int)=0)<|.ai (LK.has .sl a0_0/\0<=(dN (IntKind.wrap .i64 ((IntKind.wrap .i64 (a0_1+1))-1)) (a0_0.elems.length:Int))/\(dN (IntKind.wrap .i64 ((IntKind.wrap .i64 (a0_1+1))-1)) (a0_0.elems.length:Int))<a0_0.elems.length/\(a0_0.ix (dN (IntKind.wrap .i64 ((IntKind.wrap .i64 (a0_1+1))-1)) (a0_0.elems.length:Int))).length=1)<|.ai (LK.has (.int .u8) ((a0_0.ix (dN (IntKind.wrap .i64 ((IntKind.wrap .i64 (a0_1+1))-1)) (a0_0.elems.length:Int))).hA)/\1<=(a0_0.ix (dN (IntKind.wrap .i64 ((IntKind.wrap .i64 (a0_1+1))-1)) (a0_0.elems.length:Int))).length)<|NL a0_0<|.ai (¬(a0_0.elems.length:Int)=0)<|.ai (LK.has .sl a0_0/\0<=(dN (IntKind.wrap .i64 ((IntKind.wrap .i64 ((IntKind.wrap .i64 ((IntKind.wrap .i64 (a0_1+1))-1))*7))+3)) (a0_0.elems.length:Int))/\(dN (IntKind.wrap .i64 ((IntKind.wrap .i64 ((IntKind.wrap .i64 ((IntKind.wrap .i64 (a0_1+1))-1))*7))+3)) (a0_0.elems.length:Int))<a0_0.elems.length/\(a0_0.ix (dN (IntKind.wrap .i64 ((IntKind.wrap .i64 ((IntKind.wrap .i64 ((IntKind.wrap .i64 (a0_1+1))-1))*7))+3)) (a0_0.elems.length:Int))).length=1)<|.ai (LK.has (.int .u8) ((a0_0.ix (dN (IntKind.wrap .i64 ((IntKind.wrap .i64 ((IntKind.wrap .i64 ((IntKind.wrap .i64 (a0_1+1))-1))*7))+3)) (a0_0.elems.length:Int))).hA)/\1<=(a0_0.ix (dN (IntKind.wrap .i64 ((IntKind.wrap .i64 ((IntKind.wrap .i64 ((IntKind.wrap .i64 (a0_1+1))-1))*7))+3)) (a0_0.elems.length:Int))).length)<|NL a0_0<|.ai (¬(a0_0.elems.length:Int)=0)<|.ai (¬(64:Int)=0)<|.ai (¬a1=0)<|.done 0 [VI (dN (BU .i64 (IntKind.wrap .i64 ((IntKind.wrap .i64 ((IntKind.wrap .i64 ((IntKind.wrap .i64 ((IntKind.wrap .i64 (((a0_0.ix (dN (IntKind.wrap .i64 ((IntKind.wrap .i64 (a0_1+1))-1)) (a0_0.elems.length:Int))).hA).toInt))*131))+(IntKind.wrap .i64 ((IntKind.wrap .i64 (((a0_0.ix (dN (IntKind.wrap .i64 ((IntKind.wrap .i64 ((IntKind.wrap .i64 ((IntKind.wrap .i64 (a0_1+1))-1))*7))+3)) (a0_0.elems.length:Int))).hA).toInt))*1117))))+(IntKind.wrap .i64 ((IntKind.wrap .i64 ((IntKind.wrap .i64 (a0_1+1))-1))*29))))+(IntKind.wrap .i64 ((IntKind.wrap .i64 (Int.tdiv (IntKind.wrap .i64 ((IntKind.wrap .i64 (a0_1+1))-1)) (a0_0.elems.length:Int)))*53)))) (IntKind.wrap .i64 (Int.tdiv (IntKind.wrap .i64 ((IntKind.wrap .i64 ((IntKind.wrap .i64 ((IntKind.wrap .i64 ((IntKind.wrap .i64 (((a0_0.ix (dN (IntKind.wrap .i64 ((IntKind.wrap .i64 (a0_1+1))-1)) (a0_0.elems.length:Int))).hA).toInt))*131))+(IntKind.wrap .i64 ((IntKind.wrap .i64 (((a0_0.ix (dN (IntKind.wrap .i64 ((IntKind.wrap .i64 ((IntKind.wrap .i64 ((IntKind.wrap .i64 (a0_1+1))-1))*7))+3)) (a0_0.elems.length:Int))).hA).toInt))*1117))))+(IntKind.wrap .i64 ((IntKind.wrap .i64 ((IntKind.wrap .i64 (a0_1+1))-1))*29))))+(IntKind.wrap .i64 ((IntKind.wrap .i64 (Int.tdiv (IntKind.wrap .i64 ((IntKind.wrap .i64 (a0_1+1))-1)) (a0_0.elems.length:Int)))*53)))) 64))) a1)] [.cells [a0_0,VI (IntKind.wrap .i64 (a0_1+1))]])))
theorem Sa(a0_0:AV)(a0_1:Int)(a1:Int)(ha0_0:LK.has .sl a0_0)(h:dm 99 (Qt a0_0 a0_1 a1) R):aq Tryz.prog 45 [.ref 0 0,VI a1] [.cells [a0_0,VI a0_1]] R :=
 aq.om (bH (cr (ag (bM ha0_0) (ag (az _) aB))) cE) (aq.up (ag (az _) (ag (az _) aB)) (oF [] {mu:=[(0,.one (.obj [.lk .sl,.lk (.int .i64)]))],own:=[]} Tryz.f45 h))
def G1:LI:={hd:={bR:=[(2,.k .sl),(10,.k (.int .i64))],refs:=[(6,6),(8,8)],ct:=[(6,[.lk .str,.lk .sl,.lk .str]),(8,[.lk .str,.vec 1,.lk .str])]},xs:={refs:=[(6,6),(8,8)],ct:=[(6,[.lk .str,.lk .sl,.lk .str]),(8,[.lk .str,.vec 1,.lk .str])]},rt:={bR:=[(7,.k .bool)],refs:=[(6,6)],ct:=[(6,[.lk .str,.lk .sl,.lk .str])]},ex:=0}
def K8:Code:=cK (cD Tryz.f46) 5
def PH:List (Nat×LI):=[(5,G1)]
def N8(a0:ByteArray)(a1:ByteArray)(a2:AV):Tree :=
 .call 88 [VS a0,VS a1] [] fun r1 o1=>NT r1<|.ai ((r1.comp 0)=.agg (r1.comp 0).cs/\aH [.lk .str,.vec 1,.lk .str] ((r1.comp 0).cs) 0 0 o1)<|NB (r1.comp 1)<|.ai (∀x,x∈o1->dP x)<|.test (!((r1.comp 1).toBool)) (.done 0 [.cv [.agg [VS (mk []),.v (.slice none 0 0),VS (mk [])],VB false]] []) (NL a2<|.test (decide ((a2.elems.length:Int)>(50:Int))) (.done 0 [.cv [.agg [VS (mk []),.v (.slice none 0 0),VS (mk [])],VB false]] []) (.loop K8 G1 [a2,VI 0] [.cells [VS (mk []),.v (.slice none 0 0),VS (mk [])],.cells [VS (((r1.comp 0).cs.getD 0 .any).toStr),.any,VS (((r1.comp 0).cs.getD 2 .any).toStr)],.vec 1 ((o1.hO).es)] (fun y3 q3=>.ai ((q3.hO)=.cells (q3.hO).cs)<|.ai (af [.lk .str,.lk .sl,.lk .str] ((q3.hO).cs) 0 q3.tail)<|.ai (((q3.tail.drop 0).hO)=.cells ((q3.tail.drop 0).hO).cs)<|.ai (af [.lk .str,.vec 1,.lk .str] (((q3.tail.drop 0).hO).cs) 0 ((q3.tail.drop 0).tail))<|.done 0 [.cv [.agg [VS (((q3.tail.hO).cs.getD 0 .any).toStr),.sl ((q3.tail.tail.hO).es),VS (((q3.tail.hO).cs.getD 2 .any).toStr)],VB true]] []) (fun y3 q3=>NB (y3.hA)<|.ai ((q3.hO)=.cells (q3.hO).cs)<|.ai (af [.lk .str,.lk .sl,.lk .str] ((q3.hO).cs) 0 q3.tail)<|.done 0 [.cv [.agg [VS (((q3.hO).cs.getD 0 .any).toStr),((q3.hO).cs.getD 1 .any),VS (((q3.hO).cs.getD 2 .any).toStr)],VB ((y3.hA).toBool)]] [])))
theorem RP(a0:ByteArray)(a1:ByteArray)(a2:AV)(ha2:LK.has .sl a2)(h:dm 47 (N8 a0 a1 a2) R):aq Tryz.prog 46 [VS a0,VS a1,a2] [] R :=
 uQ (ag (az _) (ag (az _) (ag (bM ha2) aB))) (oQ PH Tryz.f46 h)
def Jp(x2:AV)(x10:Int)(o6_0:ByteArray)(o6_1:AV)(o6_2:ByteArray)(o8_0:ByteArray)(o8_1:List (List AV))(o8_2:ByteArray):Tree :=
 NL x2<|NI (VI x10)<|.ai (Ob.cells [VS o6_0,o6_1,VS o6_2]=.cells [VS o6_0,o6_1,VS o6_2])<|.ai (af [.lk .str,.lk .sl,.lk .str] [VS o6_0,o6_1,VS o6_2] 0 [.cells [VS o8_0,.any,VS o8_2],.vec 1 o8_1])<|.ai (Ob.cells [VS o8_0,.any,VS o8_2]=.cells [VS o8_0,.any,VS o8_2])<|.ai (af [.lk .str,.vec 1,.lk .str] [VS o8_0,.any,VS o8_2] 0 [.vec 1 o8_1])<|NL x2<|.test (decide (x10<(x2.elems.length:Int))) (NG x2 x10 1<|.ai (LK.has (.int .i64) ((x2.ix x10).hA)/\1<=(x2.ix x10).length)<|.call 89 [.agg [VS o8_0,.sl o8_1,VS o8_2],VI (((x2.ix x10).hA).toInt)] [] fun r1 o1=>NT r1<|.ai ((r1.comp 0)=.agg (r1.comp 0).cs/\aH [.lk .str,.vec 1,.lk .str] ((r1.comp 0).cs) 0 0 o1)<|NB (r1.comp 1)<|.ai (∀x,x∈o1->dP x)<|.test (!((r1.comp 1).toBool)) (.done 2 [VB false] [.cells [VS (mk []),.v (.slice none 0 0),VS (mk [])]]) (.done 0 [x2,VI (IntKind.wrap .i64 (x10+1))] [.cells [VS o6_0,o6_1,VS o6_2],.cells [VS (((r1.comp 0).cs.getD 0 .any).toStr),.any,VS (((r1.comp 0).cs.getD 2 .any).toStr)],.vec 1 ((o1.hO).es)])) (.done 1 [] [.cells [VS o6_0,o6_1,VS o6_2],.cells [VS o8_0,.any,VS o8_2],.vec 1 o8_1])
abbrev H6:=cC Tryz.prog 47 K8 G1
theorem LB(x2:AV)(x10:Int)(o6_0:ByteArray)(o6_1:AV)(o6_2:ByteArray)(o8_0:ByteArray)(o8_1:List (List AV))(o8_2:ByteArray)(h:kF 47 (Jp x2 x10 o6_0 o6_1 o6_2 o8_0 o8_1 o8_2) H6 U):H6 [x2,VI x10] [.cells [VS o6_0,o6_1,VS o6_2],.cells [VS o8_0,.any,VS o8_2],.vec 1 o8_1] U :=
 gQ PH h
def O3(a0_0:ByteArray)(a0_1:AV)(a0_2:ByteArray)(a1:ByteArray):Tree :=
 .call 90 [.agg [VS a0_0,a0_1,VS a0_2]] [] fun r1 o1=>NB r1<|.test (!r1.toBool) (.done 0 [.cv [.agg [VS (mk []),.vec 0,VS (mk [])],VB false]] [.vec 1 []]) (.ai (LK.has .sl a0_1/\cq 1 a0_1.elems/\((([]:List (List AV)).length)+a0_1.elems.length)*16<=140737488355328)<|.call 91 [.agg [VS a0_0,.vec 0,VS a1]] [.vec 1 (([]:List (List AV))++a0_1.elems)] fun r2 o2=>NT r2<|.ai ((r2.comp 0)=.agg (r2.comp 0).cs/\aH [.lk .str,.vec 1,.lk .str] ((r2.comp 0).cs) 0 1 o2.tail)<|NB (r2.comp 1)<|.done 0 [.cv [.agg [VS (((r2.comp 0).cs.getD 0 .any).toStr),.vec 0,VS (((r2.comp 0).cs.getD 2 .any).toStr)],VB ((r2.comp 1).toBool)]] [.vec 1 ((o2.tail.hO).es)])
theorem RH(a0_0:ByteArray)(a0_1:AV)(a0_2:ByteArray)(a1:ByteArray)(ha0_1:LK.has .sl a0_1)(h:dm 21 (O3 a0_0 a0_1 a0_2 a1) R):aq Tryz.prog 47 [.agg [VS a0_0,a0_1,VS a0_2],VS a1] [] R :=
 uQ (ag (bW (ag (az _) (ag (bM ha0_1) (ag (az _) aB)))) (ag (az _) aB)) (oF [] {mu:=[],own:=[0],oa:=[.lk .str,.vec 1,.lk .str]} Tryz.f47 h)
def KQ(a0_0:ByteArray)(a0_1:AV)(a0_2:ByteArray):Tree :=
 .call 90 [.agg [VS a0_0,a0_1,VS a0_2]] [] fun r1 o1=>NB r1<|.test (!r1.toBool) (.done 0 [.cv [VS (mk []),VB false]] []) (.call 92 [.agg [VS a0_0,a0_1,VS a0_2]] [] fun r2 o2=>NT r2<|.ai ((r2.comp 0)=.agg (r2.comp 0).cs/\(r2.comp 0).cs.length=3/\bE [.str,.sl,.str] ((r2.comp 0).cs) 0)<|NB (r2.comp 1)<|.done 0 [.cv [VS (((r2.comp 0).cs.getD 2 .any).toStr),VB true]] [])
theorem TT(a0_0:ByteArray)(a0_1:AV)(a0_2:ByteArray)(ha0_1:LK.has .sl a0_1)(h:dm 16 (KQ a0_0 a0_1 a0_2) R):aq Tryz.prog 48 [.agg [VS a0_0,a0_1,VS a0_2]] [] R :=
 uQ (ag (bW (ag (az _) (ag (bM ha0_1) (ag (az _) aB)))) aB) (oQ [] Tryz.f48 h)
def HO:LI:={hd:={bR:=[(6,.k .sl),(7,.k .bool),(9,.k (.int .i64))],eM:=[(8,1)]},xs:={bR:=[(7,.k .bool)],eM:=[(8,1)]},rt:={},ex:=0}
def KF:Code:=cK (cD Tryz.f49) 4
def L3:List (Nat×LI):=[(4,HO)]
def MI(a0:ByteArray)(a1:ByteArray):Tree :=
 .call 93 [VS a0,VS a1] [] fun r1 o1=>NT r1<|NL (r1.comp 0)<|NB (r1.comp 1)<|.loop KF HO [(r1.comp 0),VB ((r1.comp 1).toBool),VI 0] [.vec 1 []] (fun y2 q2=>NB (y2.hA)<|.ai (((q2.drop 0).hO)=.vec 1 ((q2.drop 0).hO).es)<|.done 0 [.cv [.sl ((q2.hO).es),VB ((y2.hA).toBool)]] []) (fun y2 q2=>.done 0 [.cv [.any,.any]] [])
theorem SQ(a0:ByteArray)(a1:ByteArray)(h:dm 36 (MI a0 a1) R):aq Tryz.prog 49 [VS a0,VS a1] [] R :=
 uQ (ag (az _) (ag (az _) aB)) (oQ L3 Tryz.f49 h)
def EC(x6:AV)(x7:Bool)(x9:Int)(e8:List (List AV)):Tree :=
 NL x6<|NB (VB x7)<|NI (VI x9)<|.ai (Ob.vec 1 e8=.vec 1 e8)<|NL x6<|.test (decide (x9<(x6.elems.length:Int))) (.test x7 (NG x6 x9 3<|oy (x6.ix x9)<|.ai (cq 1 [[((x6.ix x9).hA)]]/\((e8.length)+([[((x6.ix x9).hA)]]:List (List AV)).length)*24<=140737488355328)<|.done 0 [x6,VB x7,VI (IntKind.wrap .i64 (x9+1))] [.vec 1 (e8++([[((x6.ix x9).hA)]]:List (List AV)))]) (.done 1 [VB x7] [.vec 1 e8])) (.done 1 [VB x7] [.vec 1 e8])
abbrev J3:=cC Tryz.prog 36 KF HO
theorem JW(x6:AV)(x7:Bool)(x9:Int)(e8:List (List AV))(h:kF 36 (EC x6 x7 x9 e8) J3 U):J3 [x6,VB x7,VI x9] [.vec 1 e8] U :=
 gQ L3 h
def OA(a0_0:AV)(a0_1:Int)(a1:ByteArray):Tree :=
 .call 53 [VS a1] [] fun r1 o1=>NT r1<|.ai ((r1.comp 0)=.agg (r1.comp 0).cs/\(r1.comp 0).cs.length=2/\bE [.str,.sl] ((r1.comp 0).cs) 0)<|NB (r1.comp 1)<|.test (!((r1.comp 1).toBool)) (.call 94 [.ref 0 0,.sl [[VS (mk [])],[VS (mk [117])],[VS (mk [101,48])],[VS (mk [101,48,48])],[VS (mk [101,49,48,48])],[VS (mk [40,108,32,117,41])],[VS (mk [40,112,32,117,41])],[VS (mk [40,102,32,40,108,32,117,41,41])],[VS (mk [40,120,32,117,41])],[VS (mk [40,108,32,32,117,41])]]] [.cells [a0_0,VI a0_1]] fun r2 o2=>.ai ((o2.hO)=.cells (o2.hO).cs)<|.ai (aH [.lk .sl,.lk (.int .i64)] ((o2.hO).cs) 0 1 o2.tail)<|NS r2<|.done 0 [VS r2.toStr] [.cells [((o2.hO).cs.getD 0 .any),VI (((o2.hO).cs.getD 1 .any).toInt)]]) (.call 45 [.ref 0 0,VI 16] [.cells [a0_0,VI a0_1]] fun r3 o3=>.ai ((o3.hO)=.cells (o3.hO).cs)<|.ai (aH [.lk .sl,.lk (.int .i64)] ((o3.hO).cs) 0 1 o3.tail)<|NI r3<|.test (r3.toInt==(0:Int)) (.call 94 [.ref 0 0,.sl [[VS (mk [])],[VS (mk [117])],[VS (mk [101,48])],[VS (mk [101,48,48])],[VS (mk [101,49,48,48])],[VS (mk [40,108,32,117,41])],[VS (mk [40,112,32,117,41])],[VS (mk [40,102,32,40,108,32,117,41,41])],[VS (mk [40,120,32,117,41])],[VS (mk [40,108,32,32,117,41])]]] [.cells [((o3.hO).cs.getD 0 .any),VI (((o3.hO).cs.getD 1 .any).toInt)]] fun r4 o4=>.ai ((o4.hO)=.cells (o4.hO).cs)<|.ai (aH [.lk .sl,.lk (.int .i64)] ((o4.hO).cs) 0 1 o4.tail)<|NS r4<|.done 0 [VS r4.toStr] [.cells [((o4.hO).cs.getD 0 .any),VI (((o4.hO).cs.getD 1 .any).toInt)]]) (.call 96 [.agg [VS (((r1.comp 0).cs.getD 0 .any).toStr),((r1.comp 0).cs.getD 1 .any)],.v (.slice none 0 0)] [] fun r5 o5=>NA r5<|.call 45 [.ref 0 0,VI 5] [.cells [((o3.hO).cs.getD 0 .any),VI (((o3.hO).cs.getD 1 .any).toInt)]] fun r6 o6=>.ai ((o6.hO)=.cells (o6.hO).cs)<|.ai (aH [.lk .sl,.lk (.int .i64)] ((o6.hO).cs) 0 1 o6.tail)<|NI r6<|.call 95 [.ref 0 0,.agg [VS ((r5.cs.getD 0 .any).toStr),(r5.cs.getD 1 .any)],VI (IntKind.wrap .i64 (5+r6.toInt))] [.cells [((o6.hO).cs.getD 0 .any),VI (((o6.hO).cs.getD 1 .any).toInt)]] fun r7 o7=>.ai ((o7.hO)=.cells (o7.hO).cs)<|.ai (aH [.lk .sl,.lk (.int .i64)] ((o7.hO).cs) 0 1 o7.tail)<|NA r7<|.call 60 [.agg [VS ((r7.cs.getD 0 .any).toStr),(r7.cs.getD 1 .any)]] [] fun r8 o8=>NS r8<|.done 0 [VS r8.toStr] [.cells [((o7.hO).cs.getD 0 .any),VI (((o7.hO).cs.getD 1 .any).toInt)]]))
theorem Rf(a0_0:AV)(a0_1:Int)(a1:ByteArray)(ha0_0:LK.has .sl a0_0)(h:dm 30 (OA a0_0 a0_1 a1) R):aq Tryz.prog 50 [.ref 0 0,VS a1] [.cells [a0_0,VI a0_1]] R :=
 aq.om (bH (cr (ag (bM ha0_0) (ag (az _) aB))) cE) (aq.up (ag (az _) (ag (az _) aB)) (oF [] {mu:=[(0,.one (.obj [.lk .sl,.lk (.int .i64)]))],own:=[]} Tryz.f50 h))
def Ps(a0:ByteArray):Tree :=
 .call 82 [VS a0] [] fun r1 o1=>NP r1<|NP r1<|.test r1.isNil (.done 0 [.v (.pointer none)] []) (NZ r1<|NZ r1<|.ai (LK.has (.int .u8) (r1.deref.hA)/\1<=r1.deref.length)<|.test (((r1.deref.hA).toInt) != (114:Int)) (.done 0 [.v (.pointer none)] []) (.done 0 [r1] []))
theorem R7(a0:ByteArray)(h:dm 16 (Ps a0) R):aq Tryz.prog 51 [VS a0] [] R :=
 uQ (ag (az _) aB) (oQ [] Tryz.f51 h)
def xI(a0:AV):Tree :=
 NZ a0<|NZ a0<|.ai (LK.has (.int .u8) (a0.deref.hA)/\1<=a0.deref.length)<|.test (((a0.deref.hA).toInt)==(117:Int)) (.done 0 [VS (mk [117])] []) (.test (((a0.deref.hA).toInt)==(101:Int)) (NZ a0<|NZ a0<|lF (a0.deref.drop 1)<|.done 0 [VS (((a0.deref.drop 1).hA).toStr)] []) (.test (((a0.deref.hA).toInt)==(112:Int)) (NZ a0<|NZ a0<|eg (a0.deref.drop 2)<|.call 52 [((a0.deref.drop 2).hA)] [] fun r1 o1=>NS r1<|.ai (ah (mk [40,112,32])+ah r1.toStr<=9223372036854775807)<|.ai (ah (((mk [40,112,32]):ByteArray)++r1.toStr)+ah (mk [32])<=9223372036854775807)<|NZ a0<|NZ a0<|eg (a0.deref.drop 3)<|.call 52 [((a0.deref.drop 3).hA)] [] fun r2 o2=>NS r2<|.ai (ah (((((mk [40,112,32]):ByteArray)++r1.toStr):ByteArray)++(mk [32]))+ah r2.toStr<=9223372036854775807)<|.ai (ah (((((((mk [40,112,32]):ByteArray)++r1.toStr):ByteArray)++(mk [32])):ByteArray)++r2.toStr)+ah (mk [41])<=9223372036854775807)<|.done 0 [VS (((((((((mk [40,112,32]):ByteArray)++r1.toStr):ByteArray)++(mk [32])):ByteArray)++r2.toStr):ByteArray)++(mk [41]))] []) (NZ a0<|NZ a0<|.ai (LK.has (.int .u8) (a0.deref.hA)/\1<=a0.deref.length)<|.ai (jX [[.v (.int .u8 ((a0.deref.hA).toInt))]])<|.ai (ah (mk [40])+ah (⟨(bytesOf [[.v (.int .u8 ((a0.deref.hA).toInt))]]).toArray⟩)<=9223372036854775807)<|.ai (ah (((mk [40]):ByteArray)++(⟨(bytesOf [[.v (.int .u8 ((a0.deref.hA).toInt))]]).toArray⟩))+ah (mk [32])<=9223372036854775807)<|NZ a0<|NZ a0<|eg (a0.deref.drop 2)<|.call 52 [((a0.deref.drop 2).hA)] [] fun r3 o3=>NS r3<|.ai (ah (((((mk [40]):ByteArray)++(⟨(bytesOf [[.v (.int .u8 ((a0.deref.hA).toInt))]]).toArray⟩)):ByteArray)++(mk [32]))+ah r3.toStr<=9223372036854775807)<|.ai (ah (((((((mk [40]):ByteArray)++(⟨(bytesOf [[.v (.int .u8 ((a0.deref.hA).toInt))]]).toArray⟩)):ByteArray)++(mk [32])):ByteArray)++r3.toStr)+ah (mk [41])<=9223372036854775807)<|.done 0 [VS (((((((((mk [40]):ByteArray)++(⟨(bytesOf [[.v (.int .u8 ((a0.deref.hA).toInt))]]).toArray⟩)):ByteArray)++(mk [32])):ByteArray)++r3.toStr):ByteArray)++(mk [41]))] [])))
theorem Bs(a0:AV)(ha0:LK.has .ptr a0)(h:dm 46 (xI a0) R):aq Tryz.prog 52 [a0] [] R :=
 uQ (ag (bJ ha0) aB) (oQ [] Tryz.f52 h)
def IV:LI:={hd:={bR:=[(7,.k (.int .i64))],refs:=[(2,2),(4,4)],ct:=[(2,[.lk .str,.lk .sl]),(4,[.lk .str,.lk .sl])],eM:=[(6,1)]},xs:={refs:=[(2,2),(4,4)],ct:=[(2,[.lk .str,.lk .sl]),(4,[.lk .str,.lk .sl])]},rt:={bR:=[(3,.k .bool)],refs:=[(2,2)],ct:=[(2,[.lk .str,.lk .sl])]},ex:=0}
def MQ:Code:=cK (cD Tryz.f53) 6
def NO:List (Nat×LI):=[(6,IV)]
def M4(a0:ByteArray):Tree :=
 .call 97 [VS a0] [] fun r1 o1=>NT r1<|.ai ((r1.comp 0)=.agg (r1.comp 0).cs/\(r1.comp 0).cs.length=2/\bE [.str,.sl] ((r1.comp 0).cs) 0)<|NB (r1.comp 1)<|.test (!((r1.comp 1).toBool)) (.done 0 [.cv [.agg [VS (((r1.comp 0).cs.getD 0 .any).toStr),((r1.comp 0).cs.getD 1 .any)],VB false]] []) (.call 98 [.agg [VS (((r1.comp 0).cs.getD 0 .any).toStr),((r1.comp 0).cs.getD 1 .any)],.sl [],.vec 0] [.vec 1 []] fun r2 o2=>.ai (r2=.vec 1/\(o2.tail.hO)=.vec 1 (o2.tail.hO).es)<|.loop MQ IV [VI 0] [.cells [VS (mk []),.v (.slice none 0 0)],.cells [VS (((r1.comp 0).cs.getD 0 .any).toStr),((r1.comp 0).cs.getD 1 .any)],.vec 1 ((o2.tail.hO).es)] (fun y4 q4=>.ai ((q4.hO)=.cells (q4.hO).cs)<|.ai (af [.lk .str,.lk .sl] ((q4.hO).cs) 0 q4.tail)<|.ai (((q4.tail.drop 0).hO)=.cells ((q4.tail.drop 0).hO).cs)<|.ai (af [.lk .str,.lk .sl] (((q4.tail.drop 0).hO).cs) 0 ((q4.tail.drop 0).tail))<|.done 0 [.cv [.agg [VS (((q4.tail.hO).cs.getD 0 .any).toStr),((q4.tail.hO).cs.getD 1 .any)],VB true]] []) (fun y4 q4=>NB (y4.hA)<|.ai ((q4.hO)=.cells (q4.hO).cs)<|.ai (af [.lk .str,.lk .sl] ((q4.hO).cs) 0 q4.tail)<|.done 0 [.cv [.agg [VS (((q4.hO).cs.getD 0 .any).toStr),((q4.hO).cs.getD 1 .any)],VB ((y4.hA).toBool)]] []))
theorem R9(a0:ByteArray)(h:dm 33 (M4 a0) R):aq Tryz.prog 53 [VS a0] [] R :=
 uQ (ag (az _) aB) (oQ NO Tryz.f53 h)
def Jf(x7:Int)(o2_0:ByteArray)(o2_1:AV)(o4_0:ByteArray)(o4_1:AV)(e6:List (List AV)):Tree :=
 NI (VI x7)<|.ai (Ob.cells [VS o2_0,o2_1]=.cells [VS o2_0,o2_1])<|.ai (af [.lk .str,.lk .sl] [VS o2_0,o2_1] 0 [.cells [VS o4_0,o4_1],.vec 1 e6])<|.ai (Ob.cells [VS o4_0,o4_1]=.cells [VS o4_0,o4_1])<|.ai (af [.lk .str,.lk .sl] [VS o4_0,o4_1] 0 [.vec 1 e6])<|.ai (Ob.vec 1 e6=.vec 1 e6)<|.test (decide (x7<(e6.length:Int))) (.ai (0<=x7/\x7<e6.length)<|.ai (x7.toNat<e6.length/\0<(e6.getD x7.toNat []).length/\LK.has .str ((e6.getD x7.toNat []).getD 0 .any))<|.call 99 [VS (((e6.getD x7.toNat []).getD 0 .any).toStr)] [] fun r1 o1=>NB r1<|.test r1.toBool (.done 2 [VB false] [.cells [VS o4_0,o4_1]]) (.done 0 [VI (IntKind.wrap .i64 (x7+1))] [.cells [VS o2_0,o2_1],.cells [VS o4_0,o4_1],.vec 1 e6])) (.done 1 [] [.cells [VS o2_0,o2_1],.cells [VS o4_0,o4_1]])
abbrev G4:=cC Tryz.prog 33 MQ IV
theorem OD(x7:Int)(o2_0:ByteArray)(o2_1:AV)(o4_0:ByteArray)(o4_1:AV)(e6:List (List AV))(h:kF 33 (Jf x7 o2_0 o2_1 o4_0 o4_1 e6) G4 U):G4 [VI x7] [.cells [VS o2_0,o2_1],.cells [VS o4_0,o4_1],.vec 1 e6] U :=
 gQ NO h
def El(a0_0:ByteArray)(a0_1:AV):Tree :=
 .test (!(ae a0_0==ae (mk []))) (.done 0 [VS (mk [])] []) (NL a0_1<|.test ((a0_1.elems.length:Int)==(0:Int)) (.done 0 [VS (mk [])] []) (NG a0_1 0 2<|lF (a0_1.ix (0:Int))<|.done 0 [VS (((a0_1.ix (0:Int)).hA).toStr)] []))
theorem Hf(a0_0:ByteArray)(a0_1:AV)(ha0_1:LK.has .sl a0_1)(h:dm 17 (El a0_0 a0_1) R):aq Tryz.prog 54 [.agg [VS a0_0,a0_1]] [] R :=
 uQ (ag (bW (ag (az _) (ag (bM ha0_1) aB))) aB) (oQ [] Tryz.f54 h)
def LH(a0:Int)(a1:Int)(a2:Int):Tree :=
 .test (decide (a0≥a1)) (.done 0 [VB (decide (a0<=a2))] []) (.done 0 [VB false] [])
theorem SW(a0:Int)(a1:Int)(a2:Int)(h:dm 15 (LH a0 a1 a2) R):aq Tryz.prog 55 [VI a0,VI a1,VI a2] [] R :=
 uQ (ag (az _) (ag (az _) (ag (az _) aB))) (oQ [] Tryz.f55 h)
def Mo(a0_0:ByteArray)(a0_1:AV)(a1:AV)(a2_0:ByteArray)(a2_1:AV)(a3:Int):Tree :=
 .call 100 [.agg [VS a0_0,a0_1],a1] [] fun r1 o1=>NT r1<|.ai ((r1.comp 0)=.agg (r1.comp 0).cs/\(r1.comp 0).cs.length=2/\bE [.str,.sl] ((r1.comp 0).cs) 0)<|NL (r1.comp 1)<|.test (!(ae (((r1.comp 0).cs.getD 0 .any).toStr)==ae (mk []))) (.test (ae (((r1.comp 0).cs.getD 0 .any).toStr)==ae (mk [49])) (.done 0 [VB (ae a2_0==ae (mk [117]))] []) (.call 101 [VS (((r1.comp 0).cs.getD 0 .any).toStr)] [] fun r2 o2=>NB r2<|.test r2.toBool (.call 102 [VS a2_0] [] fun r3 o3=>NI r3<|.call 55 [VI r3.toInt,VI 0,VI (IntKind.wrap .i64 (a3-1))] [] fun r4 o4=>NB r4<|.done 0 [VB r4.toBool] []) (.done 0 [VB false] []))) (.call 54 [.agg [VS (((r1.comp 0).cs.getD 0 .any).toStr),((r1.comp 0).cs.getD 1 .any)]] [] fun r5 o5=>NS r5<|.call 54 [.agg [VS a2_0,a2_1]] [] fun r6 o6=>NS r6<|.ai (ah r5.toStr+ah r6.toStr<=9223372036854775807)<|.test (ae ((r5.toStr:ByteArray)++r6.toStr)==ae (mk [43,108])) (NG ((r1.comp 0).cs.getD 1 .any) 1 2<|NE (((r1.comp 0).cs.getD 1 .any).ix (1:Int))<|NG a2_1 1 2<|NE (a2_1.ix (1:Int))<|.call 56 [.agg [VS (((((r1.comp 0).cs.getD 1 .any).ix (1:Int)).getD 0 .any).toStr),((((r1.comp 0).cs.getD 1 .any).ix (1:Int)).getD 1 .any)],(r1.comp 1),.agg [VS (((a2_1.ix (1:Int)).getD 0 .any).toStr),((a2_1.ix (1:Int)).getD 1 .any)],VI a3] [] fun r7 o7=>NB r7<|.done 0 [VB r7.toBool] []) (.test (ae ((r5.toStr:ByteArray)++r6.toStr)==ae (mk [43,114])) (NG ((r1.comp 0).cs.getD 1 .any) 2 2<|NE (((r1.comp 0).cs.getD 1 .any).ix (2:Int))<|NG a2_1 1 2<|NE (a2_1.ix (1:Int))<|.call 56 [.agg [VS (((((r1.comp 0).cs.getD 1 .any).ix (2:Int)).getD 0 .any).toStr),((((r1.comp 0).cs.getD 1 .any).ix (2:Int)).getD 1 .any)],(r1.comp 1),.agg [VS (((a2_1.ix (1:Int)).getD 0 .any).toStr),((a2_1.ix (1:Int)).getD 1 .any)],VI a3] [] fun r8 o8=>NB r8<|.done 0 [VB r8.toBool] []) (.test (ae ((r5.toStr:ByteArray)++r6.toStr)==ae (mk [42,112])) (NG ((r1.comp 0).cs.getD 1 .any) 1 2<|NE (((r1.comp 0).cs.getD 1 .any).ix (1:Int))<|NG a2_1 1 2<|NE (a2_1.ix (1:Int))<|.call 56 [.agg [VS (((((r1.comp 0).cs.getD 1 .any).ix (1:Int)).getD 0 .any).toStr),((((r1.comp 0).cs.getD 1 .any).ix (1:Int)).getD 1 .any)],(r1.comp 1),.agg [VS (((a2_1.ix (1:Int)).getD 0 .any).toStr),((a2_1.ix (1:Int)).getD 1 .any)],VI a3] [] fun r9 o9=>NB r9<|.test r9.toBool (NG ((r1.comp 0).cs.getD 1 .any) 2 2<|NE (((r1.comp 0).cs.getD 1 .any).ix (2:Int))<|NG a2_1 2 2<|NE (a2_1.ix (2:Int))<|.call 56 [.agg [VS (((((r1.comp 0).cs.getD 1 .any).ix (2:Int)).getD 0 .any).toStr),((((r1.comp 0).cs.getD 1 .any).ix (2:Int)).getD 1 .any)],(r1.comp 1),.agg [VS (((a2_1.ix (2:Int)).getD 0 .any).toStr),((a2_1.ix (2:Int)).getD 1 .any)],VI a3] [] fun r10 o10=>NB r10<|.done 0 [VB r10.toBool] []) (.done 0 [VB false] [])) (.test (ae ((r5.toStr:ByteArray)++r6.toStr)==ae (mk [114,101,99,102])) (.call 103 [.agg [VS (((r1.comp 0).cs.getD 0 .any).toStr),((r1.comp 0).cs.getD 1 .any)],(r1.comp 1)] [] fun r11 o11=>NT r11<|.ai ((r11.comp 0)=.agg (r11.comp 0).cs/\(r11.comp 0).cs.length=2/\bE [.str,.sl] ((r11.comp 0).cs) 0)<|NL (r11.comp 1)<|NG a2_1 1 2<|NE (a2_1.ix (1:Int))<|.call 56 [.agg [VS (((r11.comp 0).cs.getD 0 .any).toStr),((r11.comp 0).cs.getD 1 .any)],(r11.comp 1),.agg [VS (((a2_1.ix (1:Int)).getD 0 .any).toStr),((a2_1.ix (1:Int)).getD 1 .any)],VI a3] [] fun r12 o12=>NB r12<|.done 0 [VB r12.toBool] []) (.done 0 [VB false] [])))))
theorem T0(a0_0:ByteArray)(a0_1:AV)(a1:AV)(a2_0:ByteArray)(a2_1:AV)(a3:Int)(ha0_1:LK.has .sl a0_1)(ha1:LK.has .sl a1)(ha2_1:LK.has .sl a2_1)(h:dm 110 (Mo a0_0 a0_1 a1 a2_0 a2_1 a3) R):aq Tryz.prog 56 [.agg [VS a0_0,a0_1],a1,.agg [VS a2_0,a2_1],VI a3] [] R :=
 uQ (ag (bW (ag (az _) (ag (bM ha0_1) aB))) (ag (bM ha1) (ag (bW (ag (az _) (ag (bM ha2_1) aB))) (ag (az _) aB)))) (oQ [] Tryz.f56 h)
def Lr(a0:ByteArray):Tree :=
 .test (decide ((ah a0:Int)>(8000:Int))) (.done 0 [.cv [.agg [VS (mk []),.v (.slice none 0 0)],VB false]] []) (.call 104 [VS a0,VI 0,VI 0] [] fun r1 o1=>NT r1<|.ai ((r1.comp 0)=.agg (r1.comp 0).cs/\(r1.comp 0).cs.length=2/\bE [.str,.sl] ((r1.comp 0).cs) 0)<|NI (r1.comp 1)<|.done 0 [.cv [.agg [VS (((r1.comp 0).cs.getD 0 .any).toStr),((r1.comp 0).cs.getD 1 .any)],VB (((r1.comp 1).toInt)==(ah a0:Int))]] [])
theorem SO(a0:ByteArray)(h:dm 20 (Lr a0) R):aq Tryz.prog 57 [VS a0] [] R :=
 uQ (ag (az _) aB) (oQ [] Tryz.f57 h)
def yc(a0_0:ByteArray)(a0_1:AV):Tree :=
 .test (!(ae a0_0==ae (mk []))) (.test (ae a0_0==ae (mk [117])) (.done 0 [VB true] []) (.call 102 [VS a0_0] [] fun r1 o1=>NI r1<|.done 0 [VB (decide (r1.toInt≥(0:Int)))] [])) (.call 54 [.agg [VS a0_0,a0_1]] [] fun r2 o2=>NS r2<|.test (ae r2.toStr==ae (mk [108])) (NL a0_1<|.test ((a0_1.elems.length:Int)==(2:Int)) (NG a0_1 1 2<|NE (a0_1.ix (1:Int))<|.call 58 [.agg [VS (((a0_1.ix (1:Int)).getD 0 .any).toStr),((a0_1.ix (1:Int)).getD 1 .any)]] [] fun r3 o3=>NB r3<|.done 0 [VB r3.toBool] []) (.done 0 [VB false] [])) (.test (ae r2.toStr==ae (mk [114])) (NL a0_1<|.test ((a0_1.elems.length:Int)==(2:Int)) (NG a0_1 1 2<|NE (a0_1.ix (1:Int))<|.call 58 [.agg [VS (((a0_1.ix (1:Int)).getD 0 .any).toStr),((a0_1.ix (1:Int)).getD 1 .any)]] [] fun r4 o4=>NB r4<|.done 0 [VB r4.toBool] []) (.done 0 [VB false] [])) (.test (ae r2.toStr==ae (mk [102])) (NL a0_1<|.test ((a0_1.elems.length:Int)==(2:Int)) (NG a0_1 1 2<|NE (a0_1.ix (1:Int))<|.call 58 [.agg [VS (((a0_1.ix (1:Int)).getD 0 .any).toStr),((a0_1.ix (1:Int)).getD 1 .any)]] [] fun r5 o5=>NB r5<|.done 0 [VB r5.toBool] []) (.done 0 [VB false] [])) (.test (ae r2.toStr==ae (mk [112])) (NL a0_1<|.test ((a0_1.elems.length:Int)==(3:Int)) (NG a0_1 1 2<|NE (a0_1.ix (1:Int))<|.call 58 [.agg [VS (((a0_1.ix (1:Int)).getD 0 .any).toStr),((a0_1.ix (1:Int)).getD 1 .any)]] [] fun r6 o6=>NB r6<|.test r6.toBool (NG a0_1 2 2<|NE (a0_1.ix (2:Int))<|.call 58 [.agg [VS (((a0_1.ix (2:Int)).getD 0 .any).toStr),((a0_1.ix (2:Int)).getD 1 .any)]] [] fun r7 o7=>NB r7<|.done 0 [VB r7.toBool] []) (.done 0 [VB false] [])) (.done 0 [VB false] [])) (.done 0 [VB false] [])))))
theorem AG(a0_0:ByteArray)(a0_1:AV)(ha0_1:LK.has .sl a0_1)(h:dm 52 (yc a0_0 a0_1) R):aq Tryz.prog 58 [.agg [VS a0_0,a0_1]] [] R :=
 uQ (ag (bW (ag (az _) (ag (bM ha0_1) aB))) aB) (oQ [] Tryz.f58 h)
def IJ:LI:={hd:={bR:=[(3,.k (.int .i64)),(4,.k (.int .i64))],refs:=[(1,1)],ct:=[(1,[.lk .str,.lk .sl])]},xs:={bR:=[(3,.k (.int .i64))]},rt:={},ex:=0}
def KA:Code:=cK (cD Tryz.f59) 3
def Qh:List (Nat×LI):=[(3,IJ)]
def Iq(a0_0:ByteArray)(a0_1:AV):Tree :=
 .loop KA IJ [VI 1,VI 1] [.cells [VS a0_0,a0_1]] (fun y2 q2=>NI (y2.hA)<|.done 0 [VI ((y2.hA).toInt)] []) (fun y2 q2=>.done 0 [.any] [])
theorem Mh(a0_0:ByteArray)(a0_1:AV)(ha0_1:LK.has .sl a0_1)(h:dm 21 (Iq a0_0 a0_1) R):aq Tryz.prog 59 [.agg [VS a0_0,a0_1]] [] R :=
 uQ (ag (bW (ag (az _) (ag (bM ha0_1) aB))) aB) (oQ Qh Tryz.f59 h)
def DP(x3:Int)(x4:Int)(o1_0:ByteArray)(o1_1:AV):Tree :=
 NI (VI x3)<|NI (VI x4)<|.ai (Ob.cells [VS o1_0,o1_1]=.cells [VS o1_0,o1_1])<|.ai (af [.lk .str,.lk .sl] [VS o1_0,o1_1] 0 [])<|NL o1_1<|.test (decide (x4<(o1_1.elems.length:Int))) (NG o1_1 x4 2<|NE (o1_1.ix x4)<|.call 59 [.agg [VS (((o1_1.ix x4).getD 0 .any).toStr),((o1_1.ix x4).getD 1 .any)]] [] fun r1 o1=>NI r1<|.done 0 [VI (IntKind.wrap .i64 (x3+r1.toInt)),VI (IntKind.wrap .i64 (x4+1))] [.cells [VS o1_0,o1_1]]) (.done 1 [VI x3] [])
abbrev DU:=cC Tryz.prog 21 KA IJ
theorem EK(x3:Int)(x4:Int)(o1_0:ByteArray)(o1_1:AV)(h:kF 21 (DP x3 x4 o1_0 o1_1) DU U):DU [VI x3,VI x4] [.cells [VS o1_0,o1_1]] U :=
 gQ Qh h
def Hs:LI:={hd:={bR:=[(3,.k .str),(4,.k (.int .i64))],refs:=[(1,1)],ct:=[(1,[.lk .str,.lk .sl])]},xs:={bR:=[(3,.k .str)]},rt:={},ex:=0}
def QC:Code:=cK (cD Tryz.f60) 5
def OC:List (Nat×LI):=[(5,Hs)]
def EB(a0_0:ByteArray)(a0_1:AV):Tree :=
 .test (!(ae a0_0==ae (mk []))) (.done 0 [VS a0_0] []) (.loop QC Hs [VS (mk [40]),VI 0] [.cells [VS a0_0,a0_1]] (fun y3 q3=>NS (y3.hA)<|.ai (ah ((y3.hA).toStr)+ah (mk [41])<=9223372036854775807)<|.done 0 [VS ((((y3.hA).toStr):ByteArray)++(mk [41]))] []) (fun y3 q3=>.done 0 [.any] []))
theorem GS(a0_0:ByteArray)(a0_1:AV)(ha0_1:LK.has .sl a0_1)(h:dm 31 (EB a0_0 a0_1) R):aq Tryz.prog 60 [.agg [VS a0_0,a0_1]] [] R :=
 uQ (ag (bW (ag (az _) (ag (bM ha0_1) aB))) aB) (oQ OC Tryz.f60 h)
def CQ(x3:ByteArray)(x4:Int)(o1_0:ByteArray)(o1_1:AV):Tree :=
 NS (VS x3)<|NI (VI x4)<|.ai (Ob.cells [VS o1_0,o1_1]=.cells [VS o1_0,o1_1])<|.ai (af [.lk .str,.lk .sl] [VS o1_0,o1_1] 0 [])<|NL o1_1<|.test (decide (x4<(o1_1.elems.length:Int))) (.test (decide (x4>(0:Int))) (.ai (ah x3+ah (mk [32])<=9223372036854775807)<|NG o1_1 x4 2<|NE (o1_1.ix x4)<|.call 60 [.agg [VS (((o1_1.ix x4).getD 0 .any).toStr),((o1_1.ix x4).getD 1 .any)]] [] fun r1 o1=>NS r1<|.ai (ah ((x3:ByteArray)++(mk [32]))+ah r1.toStr<=9223372036854775807)<|.done 0 [VS ((((x3:ByteArray)++(mk [32])):ByteArray)++r1.toStr),VI (IntKind.wrap .i64 (x4+1))] [.cells [VS o1_0,o1_1]]) (NG o1_1 x4 2<|NE (o1_1.ix x4)<|.call 60 [.agg [VS (((o1_1.ix x4).getD 0 .any).toStr),((o1_1.ix x4).getD 1 .any)]] [] fun r2 o2=>NS r2<|.ai (ah x3+ah r2.toStr<=9223372036854775807)<|.done 0 [VS ((x3:ByteArray)++r2.toStr),VI (IntKind.wrap .i64 (x4+1))] [.cells [VS o1_0,o1_1]])) (.done 1 [VS x3] [])
abbrev Dj:=cC Tryz.prog 31 QC Hs
theorem E4(x3:ByteArray)(x4:Int)(o1_0:ByteArray)(o1_1:AV)(h:kF 31 (CQ x3 x4 o1_0 o1_1) Dj U):Dj [VS x3,VI x4] [.cells [VS o1_0,o1_1]] U :=
 gQ OC h
def IB(a0:ByteArray)(a1:AV):Tree :=
 .ai (LK.has .sl a1/\cq 2 a1.elems/\((([[VS a0,.v (.slice none 0 0)]]:List (List AV)).length)+a1.elems.length)*40<=140737488355328)<|.done 0 [.agg [VS (mk []),.sl (([[VS a0,.v (.slice none 0 0)]]:List (List AV))++a1.elems)]] []
theorem QB(a0:ByteArray)(a1:AV)(ha1:LK.has .sl a1)(h:dm 11 (IB a0 a1) R):aq Tryz.prog 61 [VS a0,a1] [] R :=
 uQ (ag (az _) (ag (bM ha1) aB)) (oQ [] Tryz.f61 h)
def FO(a0_0:ByteArray)(a0_1:AV)(a1:ByteArray)(a2_0:ByteArray)(a2_1:AV)(a3_0:ByteArray)(a3_1:AV):Tree :=
 .test (!(ae a0_0==ae (mk []))) (.done 0 [.agg [VS a3_0,a3_1]] []) (NG a2_1 1 2<|NE (a2_1.ix (1:Int))<|.call 54 [.agg [VS a0_0,a0_1]] [] fun r1 o1=>NS r1<|.call 54 [.agg [VS a2_0,a2_1]] [] fun r2 o2=>NS r2<|.ai (ah r1.toStr+ah r2.toStr<=9223372036854775807)<|.test (ae ((r1.toStr:ByteArray)++r2.toStr)==ae (mk [43,108])) (NG a0_1 1 2<|NE (a0_1.ix (1:Int))<|.call 62 [.agg [VS (((a0_1.ix (1:Int)).getD 0 .any).toStr),((a0_1.ix (1:Int)).getD 1 .any)],VS a1,.agg [VS (((a2_1.ix (1:Int)).getD 0 .any).toStr),((a2_1.ix (1:Int)).getD 1 .any)],.agg [VS a3_0,a3_1]] [] fun r3 o3=>NA r3<|.call 61 [VS (mk [108]),.sl [[VS ((r3.cs.getD 0 .any).toStr),(r3.cs.getD 1 .any)]]] [] fun r4 o4=>NA r4<|.done 0 [.agg [VS ((r4.cs.getD 0 .any).toStr),(r4.cs.getD 1 .any)]] []) (.test (ae ((r1.toStr:ByteArray)++r2.toStr)==ae (mk [43,114])) (NG a0_1 2 2<|NE (a0_1.ix (2:Int))<|.call 62 [.agg [VS (((a0_1.ix (2:Int)).getD 0 .any).toStr),((a0_1.ix (2:Int)).getD 1 .any)],VS a1,.agg [VS (((a2_1.ix (1:Int)).getD 0 .any).toStr),((a2_1.ix (1:Int)).getD 1 .any)],.agg [VS a3_0,a3_1]] [] fun r5 o5=>NA r5<|.call 61 [VS (mk [114]),.sl [[VS ((r5.cs.getD 0 .any).toStr),(r5.cs.getD 1 .any)]]] [] fun r6 o6=>NA r6<|.done 0 [.agg [VS ((r6.cs.getD 0 .any).toStr),(r6.cs.getD 1 .any)]] []) (.test (ae ((r1.toStr:ByteArray)++r2.toStr)==ae (mk [42,108])) (NG a0_1 1 2<|NE (a0_1.ix (1:Int))<|NG ((a2_1.ix (1:Int)).getD 1 .any) 1 2<|NE (((a2_1.ix (1:Int)).getD 1 .any).ix (1:Int))<|.call 62 [.agg [VS (((a0_1.ix (1:Int)).getD 0 .any).toStr),((a0_1.ix (1:Int)).getD 1 .any)],VS a1,.agg [VS (((((a2_1.ix (1:Int)).getD 1 .any).ix (1:Int)).getD 0 .any).toStr),((((a2_1.ix (1:Int)).getD 1 .any).ix (1:Int)).getD 1 .any)],.agg [VS a3_0,a3_1]] [] fun r7 o7=>NA r7<|NG ((a2_1.ix (1:Int)).getD 1 .any) 2 2<|NE (((a2_1.ix (1:Int)).getD 1 .any).ix (2:Int))<|.call 61 [VS (mk [112]),.sl [[VS ((r7.cs.getD 0 .any).toStr),(r7.cs.getD 1 .any)],[VS (((((a2_1.ix (1:Int)).getD 1 .any).ix (2:Int)).getD 0 .any).toStr),((((a2_1.ix (1:Int)).getD 1 .any).ix (2:Int)).getD 1 .any)]]] [] fun r8 o8=>NA r8<|.done 0 [.agg [VS ((r8.cs.getD 0 .any).toStr),(r8.cs.getD 1 .any)]] []) (.test (ae ((r1.toStr:ByteArray)++r2.toStr)==ae (mk [42,114])) (NG ((a2_1.ix (1:Int)).getD 1 .any) 1 2<|NE (((a2_1.ix (1:Int)).getD 1 .any).ix (1:Int))<|NG a0_1 2 2<|NE (a0_1.ix (2:Int))<|NG ((a2_1.ix (1:Int)).getD 1 .any) 2 2<|NE (((a2_1.ix (1:Int)).getD 1 .any).ix (2:Int))<|.call 62 [.agg [VS (((a0_1.ix (2:Int)).getD 0 .any).toStr),((a0_1.ix (2:Int)).getD 1 .any)],VS a1,.agg [VS (((((a2_1.ix (1:Int)).getD 1 .any).ix (2:Int)).getD 0 .any).toStr),((((a2_1.ix (1:Int)).getD 1 .any).ix (2:Int)).getD 1 .any)],.agg [VS a3_0,a3_1]] [] fun r9 o9=>NA r9<|.call 61 [VS (mk [112]),.sl [[VS (((((a2_1.ix (1:Int)).getD 1 .any).ix (1:Int)).getD 0 .any).toStr),((((a2_1.ix (1:Int)).getD 1 .any).ix (1:Int)).getD 1 .any)],[VS ((r9.cs.getD 0 .any).toStr),(r9.cs.getD 1 .any)]]] [] fun r10 o10=>NA r10<|.done 0 [.agg [VS ((r10.cs.getD 0 .any).toStr),(r10.cs.getD 1 .any)]] []) (.call 54 [.agg [VS (((a2_1.ix (1:Int)).getD 0 .any).toStr),((a2_1.ix (1:Int)).getD 1 .any)]] [] fun r11 o11=>NS r11<|.test (ae r11.toStr==ae (mk [108])) (NG a0_1 2 2<|NE (a0_1.ix (2:Int))<|NG ((a2_1.ix (1:Int)).getD 1 .any) 1 2<|NE (((a2_1.ix (1:Int)).getD 1 .any).ix (1:Int))<|.call 62 [.agg [VS (((a0_1.ix (2:Int)).getD 0 .any).toStr),((a0_1.ix (2:Int)).getD 1 .any)],VS a1,.agg [VS (((((a2_1.ix (1:Int)).getD 1 .any).ix (1:Int)).getD 0 .any).toStr),((((a2_1.ix (1:Int)).getD 1 .any).ix (1:Int)).getD 1 .any)],.agg [VS a3_0,a3_1]] [] fun r12 o12=>NA r12<|.call 61 [VS (mk [102]),.sl [[VS ((r12.cs.getD 0 .any).toStr),(r12.cs.getD 1 .any)]]] [] fun r13 o13=>NA r13<|.done 0 [.agg [VS ((r13.cs.getD 0 .any).toStr),(r13.cs.getD 1 .any)]] []) (NG ((a2_1.ix (1:Int)).getD 1 .any) 1 2<|NE (((a2_1.ix (1:Int)).getD 1 .any).ix (1:Int))<|NG ((((a2_1.ix (1:Int)).getD 1 .any).ix (1:Int)).getD 1 .any) 2 2<|NE (((((a2_1.ix (1:Int)).getD 1 .any).ix (1:Int)).getD 1 .any).ix (2:Int))<|.call 62 [.agg [VS a0_0,a0_1],VS a1,.agg [VS (((((((a2_1.ix (1:Int)).getD 1 .any).ix (1:Int)).getD 1 .any).ix (2:Int)).getD 0 .any).toStr),((((((a2_1.ix (1:Int)).getD 1 .any).ix (1:Int)).getD 1 .any).ix (2:Int)).getD 1 .any)],.agg [VS a3_0,a3_1]] [] fun r14 o14=>NA r14<|NG a0_1 2 2<|NE (a0_1.ix (2:Int))<|NG a0_1 1 2<|lF (a0_1.ix (1:Int))<|NG ((((a2_1.ix (1:Int)).getD 1 .any).ix (1:Int)).getD 1 .any) 1 2<|NE (((((a2_1.ix (1:Int)).getD 1 .any).ix (1:Int)).getD 1 .any).ix (1:Int))<|.call 62 [.agg [VS (((a0_1.ix (2:Int)).getD 0 .any).toStr),((a0_1.ix (2:Int)).getD 1 .any)],VS (((a0_1.ix (1:Int)).hA).toStr),.agg [VS (((((((a2_1.ix (1:Int)).getD 1 .any).ix (1:Int)).getD 1 .any).ix (1:Int)).getD 0 .any).toStr),((((((a2_1.ix (1:Int)).getD 1 .any).ix (1:Int)).getD 1 .any).ix (1:Int)).getD 1 .any)],.agg [VS ((r14.cs.getD 0 .any).toStr),(r14.cs.getD 1 .any)]] [] fun r15 o15=>NA r15<|.call 61 [VS (mk [102]),.sl [[VS ((r15.cs.getD 0 .any).toStr),(r15.cs.getD 1 .any)]]] [] fun r16 o16=>NA r16<|.done 0 [.agg [VS ((r16.cs.getD 0 .any).toStr),(r16.cs.getD 1 .any)]] []))))))
theorem Rt(a0_0:ByteArray)(a0_1:AV)(a1:ByteArray)(a2_0:ByteArray)(a2_1:AV)(a3_0:ByteArray)(a3_1:AV)(ha0_1:LK.has .sl a0_1)(ha2_1:LK.has .sl a2_1)(ha3_1:LK.has .sl a3_1)(h:dm 132 (FO a0_0 a0_1 a1 a2_0 a2_1 a3_0 a3_1) R):aq Tryz.prog 62 [.agg [VS a0_0,a0_1],VS a1,.agg [VS a2_0,a2_1],.agg [VS a3_0,a3_1]] [] R :=
 uQ (ag (bW (ag (az _) (ag (bM ha0_1) aB))) (ag (az _) (ag (bW (ag (az _) (ag (bM ha2_1) aB))) (ag (bW (ag (az _) (ag (bM ha3_1) aB))) aB)))) (oQ [] Tryz.f62 h)
def IY:LI:={hd:={bR:=[(5,.k .str),(45,.k .sl),(46,.k (.int .i64)),(47,.k (.int .i64))],refs:=[(7,43)],ct:=[(43,[.lk .str,.lk .ptr,.vec 1,.lk .ptr])]},xs:={refs:=[(7,43)],ct:=[(43,[.lk .str,.lk .ptr,.vec 1,.lk .ptr])]},rt:={bR:=[(2,.k .ptr)]},ex:=0}
def Mb:Code:=cK (cD Tryz.f63) 7
def Oi:List (Nat×LI):=[(7,IY)]
def Ok(a0_0:ByteArray)(a0_1:AV)(a0_2:ByteArray):Tree :=
 .call 24 [VS a0_0,VS a0_2] [] fun r1 o1=>NT r1<|NP (r1.comp 0)<|NP (r1.comp 1)<|.call 15 [VS a0_0] [] fun r2 o2=>NT r2<|NS (r2.comp 0)<|NB (r2.comp 1)<|NP (r1.comp 1)<|.test ((r1.comp 1).isNil) (.done 0 [.v (.pointer none)] []) (.test (!((r2.comp 1).toBool)) (.done 0 [.v (.pointer none)] []) (NL a0_1<|.test (decide ((a0_1.elems.length:Int)>(50:Int))) (.done 0 [.v (.pointer none)] []) (NL a0_1<|.loop Mb IY [VS ((r2.comp 0).toStr),a0_1,VI (a0_1.elems.length:Int),VI 0] [.cells [VS a0_0,(r1.comp 0),.any,(r1.comp 1)],.vec 1 []] (fun y5 q5=>.ai ((q5.hO)=.cells (q5.hO).cs)<|.ai (af [.lk .str,.lk .ptr,.vec 1,.lk .ptr] ((q5.hO).cs) 0 q5.tail)<|.done 0 [.ptr [VS (((q5.hO).cs.getD 0 .any).toStr),((q5.hO).cs.getD 1 .any),.sl ((q5.tail.hO).es),((q5.hO).cs.getD 3 .any)]] []) (fun y5 q5=>NP (y5.hA)<|.done 0 [(y5.hA)] []))))
theorem S4(a0_0:ByteArray)(a0_1:AV)(a0_2:ByteArray)(ha0_1:LK.has .sl a0_1)(h:dm 71 (Ok a0_0 a0_1 a0_2) R):aq Tryz.prog 63 [.agg [VS a0_0,a0_1,VS a0_2]] [] R :=
 uQ (ag (bW (ag (az _) (ag (bM ha0_1) (ag (az _) aB)))) aB) (oQ Oi Tryz.f63 h)
def GW(x5:ByteArray)(x45:AV)(x46:Int)(x47:Int)(o43_0:ByteArray)(o43_1:AV)(o43_2:List (List AV))(o43_3:AV):Tree :=
 NS (VS x5)<|NL x45<|NI (VI x46)<|NI (VI x47)<|.ai (Ob.cells [VS o43_0,o43_1,.any,o43_3]=.cells [VS o43_0,o43_1,.any,o43_3])<|.ai (af [.lk .str,.lk .ptr,.vec 1,.lk .ptr] [VS o43_0,o43_1,.any,o43_3] 0 [.vec 1 o43_2])<|.test (decide (x47<x46)) (NG x45 x47 1<|lF (x45.ix x47)<|.call 41 [VS x5,VS (((x45.ix x47).hA).toStr),VI 100] [] fun r1 o1=>NT r1<|NP (r1.comp 0)<|NP (r1.comp 1)<|NP (r1.comp 1)<|.test ((r1.comp 1).isNil) (.done 2 [.v (.pointer none)] []) (.ai (cq 1 [[(r1.comp 1)]]/\((o43_2.length)+([[(r1.comp 1)]]:List (List AV)).length)*8<=140737488355328)<|.done 0 [VS x5,x45,VI x46,VI (IntKind.wrap .i64 (x47+1))] [.cells [VS o43_0,o43_1,.any,o43_3],.vec 1 (o43_2++([[(r1.comp 1)]]:List (List AV)))])) (.done 1 [] [.cells [VS o43_0,o43_1,.any,o43_3],.vec 1 o43_2])
abbrev H0:=cC Tryz.prog 71 Mb IY
theorem OJ(x5:ByteArray)(x45:AV)(x46:Int)(x47:Int)(o43_0:ByteArray)(o43_1:AV)(o43_2:List (List AV))(o43_3:AV)(h:kF 71 (GW x5 x45 x46 x47 o43_0 o43_1 o43_2 o43_3) H0 U):H0 [VS x5,x45,VI x46,VI x47] [.cells [VS o43_0,o43_1,.any,o43_3],.vec 1 o43_2] U :=
 gQ Oi h
def Jv(a0:AV)(a1:Int):Tree :=
 NP a0<|.test a0.isNil (.done 0 [.v (.pointer none)] []) (NZ a0<|NZ a0<|oy (a0.deref.drop 2)<|NL ((a0.deref.drop 2).hA)<|.test (((((a0.deref.drop 2).hA).elems).length:Int)==(50:Int)) (.done 0 [.v (.pointer none)] []) (NZ a0<|NZ a0<|eg (a0.deref.drop 1)<|NZ a0<|NZ a0<|eg (a0.deref.drop 3)<|.call 35 [((a0.deref.drop 1).hA),((a0.deref.drop 3).hA)] [] fun r1 o1=>NL r1<|.test (decide (a1<(0:Int))) (.done 0 [.v (.pointer none)] []) (NL r1<|.test (decide (a1≥(r1.elems.length:Int))) (.done 0 [.v (.pointer none)] []) (NG r1 a1 2<|eg (r1.ix a1)<|.call 84 [((r1.ix a1).hA)] [] fun r2 o2=>NI r2<|.test (decide (r2.toInt>(200:Int))) (.done 0 [.v (.pointer none)] []) (NZ a0<|NZ a0<|oy (a0.deref.drop 2)<|.ai (LK.has .sl ((a0.deref.drop 2).hA)/\cq 1 (((a0.deref.drop 2).hA).elems)/\((([]:List (List AV)).length)+(((a0.deref.drop 2).hA).elems).length)*8<=140737488355328)<|NG r1 a1 2<|eg (r1.ix a1)<|.ai (cq 1 [[((r1.ix a1).hA)]]/\(((([]:List (List AV))++(((a0.deref.drop 2).hA).elems)).length)+([[((r1.ix a1).hA)]]:List (List AV)).length)*8<=140737488355328)<|NZ a0<|NZ a0<|.ai (LK.has .str (a0.deref.hA)/\1<=a0.deref.length)<|NZ a0<|NZ a0<|eg (a0.deref.drop 1)<|NG r1 a1 2<|eg ((r1.ix a1).drop 1)<|.done 0 [.ptr [VS ((a0.deref.hA).toStr),((a0.deref.drop 1).hA),.sl ((([]:List (List AV))++(((a0.deref.drop 2).hA).elems))++([[((r1.ix a1).hA)]]:List (List AV))),(((r1.ix a1).drop 1).hA)]] [])))))
theorem ND(a0:AV)(a1:Int)(ha0:LK.has .ptr a0)(h:dm 72 (Jv a0 a1) R):aq Tryz.prog 64 [a0,VI a1] [] R :=
 uQ (ag (bJ ha0) (ag (az _) aB)) (oQ [] Tryz.f64 h)
def Ji:LI:={hd:={bR:=[(23,.k .sl),(24,.k (.int .i64)),(25,.k (.int .i64))],refs:=[(2,2),(4,4)],ct:=[(2,[.lk .str,.lk .sl,.lk .str]),(4,[.lk .str,.vec 1,.lk .str])]},xs:={refs:=[(2,2),(4,4)],ct:=[(2,[.lk .str,.lk .sl,.lk .str]),(4,[.lk .str,.vec 1,.lk .str])]},rt:={},ex:=0}
def Q3:Code:=cK (cD Tryz.f65) 5
def On:List (Nat×LI):=[(5,Ji)]
def L5(a0:AV):Tree :=
 NP a0<|.test a0.isNil (.done 0 [.cv [.agg [VS (mk []),.vec 0,VS (mk [])],VB false]] [.vec 1 []]) (NZ a0<|NZ a0<|.ai (LK.has .str (a0.deref.hA)/\1<=a0.deref.length)<|NZ a0<|NZ a0<|eg (a0.deref.drop 3)<|.call 52 [((a0.deref.drop 3).hA)] [] fun r1 o1=>NS r1<|NZ a0<|NZ a0<|oy (a0.deref.drop 2)<|NL ((a0.deref.drop 2).hA)<|.loop Q3 Ji [((a0.deref.drop 2).hA),VI ((((a0.deref.drop 2).hA).elems).length:Int),VI 0] [.cells [VS (mk []),.v (.slice none 0 0),VS (mk [])],.cells [VS ((a0.deref.hA).toStr),.any,VS r1.toStr],.vec 1 []] (fun y4 q4=>.ai ((q4.hO)=.cells (q4.hO).cs)<|.ai (af [.lk .str,.lk .sl,.lk .str] ((q4.hO).cs) 0 q4.tail)<|.ai (((q4.tail.drop 0).hO)=.cells ((q4.tail.drop 0).hO).cs)<|.ai (af [.lk .str,.vec 1,.lk .str] (((q4.tail.drop 0).hO).cs) 0 ((q4.tail.drop 0).tail))<|.done 0 [.cv [.agg [VS (((q4.tail.hO).cs.getD 0 .any).toStr),.vec 0,VS (((q4.tail.hO).cs.getD 2 .any).toStr)],VB true]] [.vec 1 ((q4.tail.tail.hO).es)]) (fun y4 q4=>.fail))
theorem Uz(a0:AV)(ha0:LK.has .ptr a0)(h:dm 38 (L5 a0) R):aq Tryz.prog 65 [a0] [] R :=
 uQ (ag (bJ ha0) aB) (oF On {mu:=[],own:=[0],oa:=[.lk .str,.vec 1,.lk .str]} Tryz.f65 h)
def HC(x23:AV)(x24:Int)(x25:Int)(o2_0:ByteArray)(o2_1:AV)(o2_2:ByteArray)(o4_0:ByteArray)(o4_1:List (List AV))(o4_2:ByteArray):Tree :=
 NL x23<|NI (VI x24)<|NI (VI x25)<|.ai (Ob.cells [VS o2_0,o2_1,VS o2_2]=.cells [VS o2_0,o2_1,VS o2_2])<|.ai (af [.lk .str,.lk .sl,.lk .str] [VS o2_0,o2_1,VS o2_2] 0 [.cells [VS o4_0,.any,VS o4_2],.vec 1 o4_1])<|.ai (Ob.cells [VS o4_0,.any,VS o4_2]=.cells [VS o4_0,.any,VS o4_2])<|.ai (af [.lk .str,.vec 1,.lk .str] [VS o4_0,.any,VS o4_2] 0 [.vec 1 o4_1])<|.test (decide (x25<x24)) (NG x23 x25 1<|eg (x23.ix x25)<|.call 52 [((x23.ix x25).hA)] [] fun r1 o1=>NS r1<|.ai (cq 1 [[VS r1.toStr]]/\((o4_1.length)+([[VS r1.toStr]]:List (List AV)).length)*16<=140737488355328)<|.done 0 [x23,VI x24,VI (IntKind.wrap .i64 (x25+1))] [.cells [VS o2_0,o2_1,VS o2_2],.cells [VS o4_0,.any,VS o4_2],.vec 1 (o4_1++([[VS r1.toStr]]:List (List AV)))]) (.done 1 [] [.cells [VS o2_0,o2_1,VS o2_2],.cells [VS o4_0,.any,VS o4_2],.vec 1 o4_1])
abbrev JB:=cC Tryz.prog 38 Q3 Ji
theorem Lz(x23:AV)(x24:Int)(x25:Int)(o2_0:ByteArray)(o2_1:AV)(o2_2:ByteArray)(o4_0:ByteArray)(o4_1:List (List AV))(o4_2:ByteArray)(h:kF 38 (HC x23 x24 x25 o2_0 o2_1 o2_2 o4_0 o4_1 o4_2) JB U):JB [x23,VI x24,VI x25] [.cells [VS o2_0,o2_1,VS o2_2],.cells [VS o4_0,.any,VS o4_2],.vec 1 o4_1] U :=
 gQ On h
def Kn:LI:={hd:={bR:=[(3,.k .ptr),(4,.k .ptr)]},xs:={bR:=[(3,.k .ptr)]},rt:={bR:=[(2,.k .ptr)]},ex:=0}
def KX:Code:=cK (cD Tryz.f66) 5
def MN:List (Nat×LI):=[(5,Kn)]
def Li(a0_0:ByteArray)(a0_1:AV)(a0_2:ByteArray):Tree :=
 .call 63 [.agg [VS a0_0,a0_1,VS a0_2]] [] fun r1 o1=>NP r1<|NP r1<|.test r1.isNil (.done 0 [.v (.pointer none)] []) (.loop KX Kn [r1,r1] [] (fun y3 q3=>NP (y3.hA)<|.done 0 [(y3.hA)] []) (fun y3 q3=>NP (y3.hA)<|.done 0 [(y3.hA)] []))
theorem RZ(a0_0:ByteArray)(a0_1:AV)(a0_2:ByteArray)(ha0_1:LK.has .sl a0_1)(h:dm 21 (Li a0_0 a0_1 a0_2) R):aq Tryz.prog 66 [.agg [VS a0_0,a0_1,VS a0_2]] [] R :=
 uQ (ag (bW (ag (az _) (ag (bM ha0_1) (ag (az _) aB)))) aB) (oQ MN Tryz.f66 h)
def J4(x3:AV)(x4:AV):Tree :=
 NP x3<|NP x4<|NZ x4<|NZ x4<|oy (x4.deref.drop 2)<|NL ((x4.deref.drop 2).hA)<|.test (decide (((((x4.deref.drop 2).hA).elems).length:Int)>(0:Int))) (.call 67 [x4] [] fun r1 o1=>NP r1<|NP r1<|.test r1.isNil (.done 2 [.v (.pointer none)] []) (.done 0 [x3,r1] [])) (.done 1 [x3] [])
abbrev IM:=cC Tryz.prog 21 KX Kn
theorem PX(x3:AV)(x4:AV)(h:kF 21 (J4 x3 x4) IM U):IM [x3,x4] [] U :=
 gQ MN h
def NY(a0:AV):Tree :=
 NP a0<|.test a0.isNil (.done 0 [.v (.pointer none)] []) (NZ a0<|NZ a0<|oy (a0.deref.drop 2)<|NL ((a0.deref.drop 2).hA)<|.test (((((a0.deref.drop 2).hA).elems).length:Int)==(0:Int)) (.done 0 [.v (.pointer none)] []) (NZ a0<|NZ a0<|oy (a0.deref.drop 2)<|NL ((a0.deref.drop 2).hA)<|NZ a0<|NZ a0<|eg (a0.deref.drop 1)<|NZ a0<|NZ a0<|oy (a0.deref.drop 2)<|.ai (LK.has .sl ((a0.deref.drop 2).hA)/\0<=(IntKind.wrap .i64 (((((a0.deref.drop 2).hA).elems).length:Int)-1))/\(IntKind.wrap .i64 (((((a0.deref.drop 2).hA).elems).length:Int)-1))<((a0.deref.drop 2).hA).elems.length/\(((a0.deref.drop 2).hA).ix (IntKind.wrap .i64 (((((a0.deref.drop 2).hA).elems).length:Int)-1))).length=1)<|.ai (LK.has .ptr ((((a0.deref.drop 2).hA).ix (IntKind.wrap .i64 (((((a0.deref.drop 2).hA).elems).length:Int)-1))).hA)/\1<=(((a0.deref.drop 2).hA).ix (IntKind.wrap .i64 (((((a0.deref.drop 2).hA).elems).length:Int)-1))).length)<|NZ a0<|NZ a0<|eg (a0.deref.drop 3)<|.call 43 [((a0.deref.drop 1).hA),((((a0.deref.drop 2).hA).ix (IntKind.wrap .i64 (((((a0.deref.drop 2).hA).elems).length:Int)-1))).hA),((a0.deref.drop 3).hA)] [] fun r1 o1=>NP r1<|.call 84 [r1] [] fun r2 o2=>NI r2<|.test (decide (r2.toInt>(200:Int))) (.done 0 [.v (.pointer none)] []) (NZ a0<|NZ a0<|.ai (LK.has .str (a0.deref.hA)/\1<=a0.deref.length)<|NZ a0<|NZ a0<|eg (a0.deref.drop 1)<|NZ a0<|NZ a0<|oy (a0.deref.drop 2)<|.ai (LK.has .sl ((a0.deref.drop 2).hA)/\0<=(0:Int)/\(0:Int)<=(IntKind.wrap .i64 (((((a0.deref.drop 2).hA).elems).length:Int)-1))/\(IntKind.wrap .i64 (((((a0.deref.drop 2).hA).elems).length:Int)-1))<=((((a0.deref.drop 2).hA).elems).length:Int))<|.done 0 [.ptr [VS ((a0.deref.hA).toStr),((a0.deref.drop 1).hA),.sl (((((a0.deref.drop 2).hA).elems).take (bP (IntKind.wrap .i64 (((((a0.deref.drop 2).hA).elems).length:Int)-1)))).drop (bP 0)),r1]] [])))
theorem Sw(a0:AV)(ha0:LK.has .ptr a0)(h:dm 57 (NY a0) R):aq Tryz.prog 67 [a0] [] R :=
 uQ (ag (bJ ha0) aB) (oQ [] Tryz.f67 h)
def Lm(a0_0:AV)(a0_1:Int):Tree :=
 .call 94 [.ref 0 0,.sl [[VS (mk [40,114,101,99,32,116,32,40,43,32,49,32,40,42,32,120,32,116,41,41,41])],[VS (mk [40,114,101,99,32,116,32,40,43,32,120,32,40,42,32,116,32,116,41,41,41])],[VS (mk [40,114,101,99,32,116,32,40,43,32,49,32,40,42,32,116,32,40,42,32,120,32,116,41,41,41,41])],[VS (mk [40,114,101,99,32,116,32,40,43,32,49,32,116,41,41])],[VS (mk [40,114,101,99,32,116,32,40,42,32,120,32,40,114,101,99,32,116,49,32,40,43,32,49,32,40,42,32,116,32,116,49,41,41,41,41,41])],[VS (mk [40,114,101,99,32,116,48,32,40,43,32,40,42,32,120,32,121,41,32,40,43,32,116,48,32,40,42,32,116,48,32,116,48,41,41,41,41])],[VS (mk [40,114,101,99,32,116,32,40,43,32,121,32,40,42,32,116,32,40,42,32,116,32,116,41,41,41,41])]]] [.cells [a0_0,VI a0_1]] fun r1 o1=>.ai ((o1.hO)=.cells (o1.hO).cs)<|.ai (aH [.lk .sl,.lk (.int .i64)] ((o1.hO).cs) 0 1 o1.tail)<|NS r1<|.done 0 [VS r1.toStr] [.cells [((o1.hO).cs.getD 0 .any),VI (((o1.hO).cs.getD 1 .any).toInt)]]
theorem Sf(a0_0:AV)(a0_1:Int)(ha0_0:LK.has .sl a0_0)(h:dm 6 (Lm a0_0 a0_1) R):aq Tryz.prog 68 [.ref 0 0] [.cells [a0_0,VI a0_1]] R :=
 aq.om (bH (cr (ag (bM ha0_0) (ag (az _) aB))) cE) (aq.up (ag (az _) aB) (oF [] {mu:=[(0,.one (.obj [.lk .sl,.lk (.int .i64)]))],own:=[]} Tryz.f68 h))
def Pb(a0_0:AV)(a0_1:Int):Tree :=
 .call 105 [.ref 0 0] [.cells [a0_0,VI a0_1]] fun r1 o1=>.ai ((o1.hO)=.cells (o1.hO).cs)<|.ai (aH [.lk .sl,.lk (.int .i64)] ((o1.hO).cs) 0 1 o1.tail)<|NS r1<|.call 50 [.ref 0 0,VS r1.toStr] [.cells [((o1.hO).cs.getD 0 .any),VI (((o1.hO).cs.getD 1 .any).toInt)]] fun r2 o2=>.ai ((o2.hO)=.cells (o2.hO).cs)<|.ai (aH [.lk .sl,.lk (.int .i64)] ((o2.hO).cs) 0 1 o2.tail)<|NS r2<|.done 0 [.cv [VS r1.toStr,VS r2.toStr]] [.cells [((o2.hO).cs.getD 0 .any),VI (((o2.hO).cs.getD 1 .any).toInt)]]
theorem Rm(a0_0:AV)(a0_1:Int)(ha0_0:LK.has .sl a0_0)(h:dm 11 (Pb a0_0 a0_1) R):aq Tryz.prog 69 [.ref 0 0] [.cells [a0_0,VI a0_1]] R :=
 aq.om (bH (cr (ag (bM ha0_0) (ag (az _) aB))) cE) (aq.up (ag (az _) aB) (oF [] {mu:=[(0,.one (.obj [.lk .sl,.lk (.int .i64)]))],own:=[]} Tryz.f69 h))
def Qi(a0_0:AV)(a0_1:AV):Tree :=
 NZ a0_0<|NZ a0_0<|eg (a0_0.deref.drop 3)<|.done 0 [.cv [.agg [((a0_0.deref.drop 3).hA),.ptr [.ptr [a0_0,a0_1],a0_1]],.ptr [a0_0,a0_1]]] []
theorem Tf(a0_0:AV)(a0_1:AV)(ha0_0:LK.has .ptr a0_0)(ha0_1:LK.has .ptr a0_1)(h:dm 20 (Qi a0_0 a0_1) R):aq Tryz.prog 70 [.agg [a0_0,a0_1]] [] R :=
 uQ (ag (bW (ag (bJ ha0_0) (ag (bJ ha0_1) aB))) aB) (oQ [] Tryz.f70 h)
def Ij:LI:={hd:={bR:=[(97,.k .sl),(98,.k (.int .i64)),(99,.k (.int .i64))],refs:=[(3,3),(5,5),(7,7)],ct:=[(3,[.lk .ptr,.lk .ptr]),(5,[.lk .str,.lk .ptr]),(7,[.vec 2])],fns:=[(8,107,[7])]},xs:={refs:=[(7,7)],ct:=[(7,[.vec 2])]},rt:={},ex:=1}
def KZ:Code:=cK (cD Tryz.f71) 18
def LJ:List (Nat×LI):=[(18,Ij)]
def Of(a0_0:AV)(a0_1:AV)(a1:AV)(a2_0:ByteArray)(a2_1:AV):Tree :=
 .call 106 [.agg [VS a2_0,a2_1],.agg [a0_0,a0_1]] [] fun r1 o1=>NB r1<|.test r1.toBool (.done 0 [.sl [[.ptr [.v (.int .u8 117),VS (mk []),.v (.pointer none),.v (.pointer none)],a1]]] []) (NZ a0_0<|NZ a0_0<|.ai (LK.has (.int .u8) (a0_0.deref.hA)/\1<=a0_0.deref.length)<|.test (((a0_0.deref.hA).toInt)==(43:Int)) (.call 108 [.agg [a0_0,a0_1]] [] fun r2 o2=>.ai (r2=.agg r2.cs/\r2.cs.length=2/\bE [.ptr,.ptr] r2.cs 0)<|NZ a1<|NZ a1<|.ai (LK.has (.int .u8) (a1.deref.hA)/\1<=a1.deref.length)<|.test (((a1.deref.hA).toInt)==(114:Int)) (.call 109 [.agg [a0_0,a0_1]] [] fun r3 o3=>.ai (r3=.agg r3.cs/\r3.cs.length=2/\bE [.ptr,.ptr] r3.cs 0)<|NZ a1<|NZ a1<|eg (a1.deref.drop 2)<|.call 71 [.agg [(r3.cs.getD 0 .any),(r3.cs.getD 1 .any)],((a1.deref.drop 2).hA),.agg [VS a2_0,a2_1]] [] fun r4 o4=>NL r4<|.call 107 [r4,.fn 110 [.ref 0 0],.ref 1 0] [.cells [a1],.cells [.vec 2],.vec 2 []] fun r5 o5=>.ai ((o5.hO)=.cells (o5.hO).cs)<|.ai (aH [.lk .ptr] ((o5.hO).cs) 0 1 o5.tail)<|.ai ((o5.tail.hO)=.cells (o5.tail.hO).cs)<|.ai (aH [.vec 2] ((o5.tail.hO).cs) 0 2 o5.tail.tail)<|.done 0 [.sl ((o5.tail.tail.hO).es)] []) (NZ a1<|NZ a1<|eg (a1.deref.drop 2)<|.call 71 [.agg [(r2.cs.getD 0 .any),(r2.cs.getD 1 .any)],((a1.deref.drop 2).hA),.agg [VS a2_0,a2_1]] [] fun r6 o6=>NL r6<|.call 107 [r6,.fn 110 [.ref 0 0],.ref 1 0] [.cells [a1],.cells [.vec 2],.vec 2 []] fun r7 o7=>.ai ((o7.hO)=.cells (o7.hO).cs)<|.ai (aH [.lk .ptr] ((o7.hO).cs) 0 1 o7.tail)<|.ai ((o7.tail.hO)=.cells (o7.tail.hO).cs)<|.ai (aH [.vec 2] ((o7.tail.hO).cs) 0 2 o7.tail.tail)<|.done 0 [.sl ((o7.tail.tail.hO).es)] [])) (.test (((a0_0.deref.hA).toInt)==(42:Int)) (.call 108 [.agg [a0_0,a0_1]] [] fun r8 o8=>.ai (r8=.agg r8.cs/\r8.cs.length=2/\bE [.ptr,.ptr] r8.cs 0)<|NZ a1<|NZ a1<|eg (a1.deref.drop 2)<|.call 71 [.agg [(r8.cs.getD 0 .any),(r8.cs.getD 1 .any)],((a1.deref.drop 2).hA),.agg [VS a2_0,a2_1]] [] fun r9 o9=>NL r9<|.call 107 [r9,.fn 111 [.ref 0 0],.ref 1 0] [.cells [a1],.cells [.vec 2],.vec 2 []] fun r10 o10=>.ai ((o10.hO)=.cells (o10.hO).cs)<|.ai (aH [.lk .ptr] ((o10.hO).cs) 0 1 o10.tail)<|.ai ((o10.tail.hO)=.cells (o10.tail.hO).cs)<|.ai (aH [.vec 2] ((o10.tail.hO).cs) 0 2 o10.tail.tail)<|.call 109 [.agg [a0_0,a0_1]] [] fun r11 o11=>.ai (r11=.agg r11.cs/\r11.cs.length=2/\bE [.ptr,.ptr] r11.cs 0)<|NZ ((o10.hO).cs.getD 0 .any)<|NZ ((o10.hO).cs.getD 0 .any)<|eg (((o10.hO).cs.getD 0 .any).deref.drop 3)<|.call 71 [.agg [(r11.cs.getD 0 .any),(r11.cs.getD 1 .any)],((((o10.hO).cs.getD 0 .any).deref.drop 3).hA),.agg [VS a2_0,a2_1]] [] fun r12 o12=>NL r12<|.call 107 [r12,.fn 113 [.ref 0 0],.ref 1 0] [.cells [((o10.hO).cs.getD 0 .any)],.cells [.vec 2],.vec 2 ((o10.tail.tail.hO).es)] fun r13 o13=>.ai ((o13.hO)=.cells (o13.hO).cs)<|.ai (aH [.lk .ptr] ((o13.hO).cs) 0 1 o13.tail)<|.ai ((o13.tail.hO)=.cells (o13.tail.hO).cs)<|.ai (aH [.vec 2] ((o13.tail.hO).cs) 0 2 o13.tail.tail)<|.done 0 [.sl ((o13.tail.tail.hO).es)] []) (.test (((a0_0.deref.hA).toInt)==(114:Int)) (.call 70 [.agg [a0_0,a0_1]] [] fun r14 o14=>NT r14<|.ai ((r14.comp 0)=.agg (r14.comp 0).cs/\(r14.comp 0).cs.length=2/\bE [.ptr,.ptr] ((r14.comp 0).cs) 0)<|NP (r14.comp 1)<|NZ a1<|NZ a1<|eg (a1.deref.drop 2)<|.call 71 [.agg [((r14.comp 0).cs.getD 0 .any),((r14.comp 0).cs.getD 1 .any)],((a1.deref.drop 2).hA),.agg [VS a2_0,a2_1]] [] fun r15 o15=>NL r15<|.call 107 [r15,.v (.func (.func 114) #[] #[]),.ref 0 0] [.cells [.vec 1],.vec 2 []] fun r16 o16=>.ai ((o16.hO)=.cells (o16.hO).cs)<|.ai (aH [.vec 2] ((o16.hO).cs) 0 1 o16.tail)<|NZ a1<|NZ a1<|eg (a1.deref.drop 2)<|.call 71 [.agg [((r14.comp 0).cs.getD 0 .any),((r14.comp 0).cs.getD 1 .any)],((a1.deref.drop 2).hA),.agg [VS (mk []),(r14.comp 1)]] [] fun r17 o17=>NL r17<|NL r17<|.loop KZ Ij [r17,VI (r17.elems.length:Int),VI 0] [.cells [a0_0,a0_1],.cells [VS a2_0,a2_1],.cells [.any],.vec 2 ((o16.tail.hO).es)] (fun y20 q20=>.ai ((q20.hO)=.cells (q20.hO).cs)<|.ai (af [.vec 2] ((q20.hO).cs) 0 q20.tail)<|.done 0 [.sl ((q20.tail.hO).es)] []) (fun y20 q20=>.done 0 [.any] [])) (.done 0 [.sl []] []))))
theorem RC(a0_0:AV)(a0_1:AV)(a1:AV)(a2_0:ByteArray)(a2_1:AV)(ha0_0:LK.has .ptr a0_0)(ha0_1:LK.has .ptr a0_1)(ha1:LK.has .ptr a1)(ha2_1:LK.has .ptr a2_1)(h:dm 113 (Of a0_0 a0_1 a1 a2_0 a2_1) R):aq Tryz.prog 71 [.agg [a0_0,a0_1],a1,.agg [VS a2_0,a2_1]] [] R :=
 uQ (ag (bW (ag (bJ ha0_0) (ag (bJ ha0_1) aB))) (ag (bJ ha1) (ag (bW (ag (az _) (ag (bJ ha2_1) aB))) aB))) (oQ LJ Tryz.f71 h)
def Kd(x97:AV)(x98:Int)(x99:Int)(o3_0:AV)(o3_1:AV)(o5_0:ByteArray)(o5_1:AV)(o7_0:List (List AV)):Tree :=
 NL x97<|NI (VI x98)<|NI (VI x99)<|.ai (Ob.cells [o3_0,o3_1]=.cells [o3_0,o3_1])<|.ai (af [.lk .ptr,.lk .ptr] [o3_0,o3_1] 0 [.cells [VS o5_0,o5_1],.cells [.any],.vec 2 o7_0])<|.ai (Ob.cells [VS o5_0,o5_1]=.cells [VS o5_0,o5_1])<|.ai (af [.lk .str,.lk .ptr] [VS o5_0,o5_1] 0 [.cells [.any],.vec 2 o7_0])<|.ai (Ob.cells [.any]=.cells [.any])<|.ai (af [.vec 2] [.any] 0 [.vec 2 o7_0])<|.test (decide (x99<x98)) (NG x97 x99 2<|.ai (bE [.ptr,.ptr] (x97.ix x99) 0/\2<=(x97.ix x99).length)<|.call 71 [.agg [o3_0,o3_1],((x97.ix x99).getD 1 .any),.agg [VS o5_0,o5_1]] [] fun r1 o1=>NL r1<|.call 107 [r1,.fn 115 [.ref 0 0],.ref 1 0] [.cells [((x97.ix x99).getD 0 .any),((x97.ix x99).getD 1 .any)],.cells [.vec 2],.vec 2 o7_0] fun r2 o2=>.ai ((o2.hO)=.cells (o2.hO).cs)<|.ai (aH [.lk .ptr,.lk .ptr] ((o2.hO).cs) 0 1 o2.tail)<|.ai ((o2.tail.hO)=.cells (o2.tail.hO).cs)<|.ai (aH [.vec 2] ((o2.tail.hO).cs) 0 2 o2.tail.tail)<|.done 0 [x97,VI x98,VI (IntKind.wrap .i64 (x99+1))] [.cells [o3_0,o3_1],.cells [VS o5_0,o5_1],.cells [.any],.vec 2 ((o2.tail.tail.hO).es)]) (.done 1 [] [.cells [.any],.vec 2 o7_0])
abbrev HW:=cC Tryz.prog 113 KZ Ij
theorem OB(x97:AV)(x98:Int)(x99:Int)(o3_0:AV)(o3_1:AV)(o5_0:ByteArray)(o5_1:AV)(o7_0:List (List AV))(h:kF 113 (Kd x97 x98 x99 o3_0 o3_1 o5_0 o5_1 o7_0) HW U):HW [x97,VI x98,VI x99] [.cells [o3_0,o3_1],.cells [VS o5_0,o5_1],.cells [.any],.vec 2 o7_0] U :=
 gQ LJ h
def GP:LI:={hd:={bR:=[(0,.k .sl),(1,.k .str),(7,.k (.int .i64))],eM:=[(2,4)]},xs:={eM:=[(2,4)]},rt:={},ex:=0}
def NU:Code:=cK (cD Tryz.f72) 2
def O1:List (Nat×LI):=[(2,GP)]
def QF(a0:AV)(a1:ByteArray)(e2:List (List AV)):Tree :=
 .loop NU GP [a0,VS a1,VI 0] [.vec 4 e2] (fun y2 q2=>.ai (((q2.drop 0).hO)=.vec 4 ((q2.drop 0).hO).es)<|.done 0 [.vec 1] [.dead,.vec 4 ((q2.hO).es)]) (fun y2 q2=>.fail)
theorem Rv(a0:AV)(a1:ByteArray)(e2:List (List AV))(ha0:LK.has .sl a0)(h:dm 32 (QF a0 a1 e2) R):aq Tryz.prog 72 [a0,VS a1,.vec 0] [.vec 4 e2] R :=
 aq.om (bH (fN _) cE) (aq.up (ag (bM ha0) (ag (az _) (ag (az _) aB))) (oF O1 {mu:=[(2,.one (.vec))],own:=[0]} Tryz.f72 h))
def Ia(x0:AV)(x1:ByteArray)(x7:Int)(e2:List (List AV)):Tree :=
 NL x0<|NS (VS x1)<|NI (VI x7)<|.ai (Ob.vec 4 e2=.vec 4 e2)<|NL x0<|.test (decide (x7<(x0.elems.length:Int))) (NG x0 x7 4<|NE (x0.ix x7)<|.call 61 [VS x1,.sl [[VS (((x0.ix x7).getD 0 .any).toStr),((x0.ix x7).getD 1 .any)]]] [] fun r1 o1=>NA r1<|NG x0 x7 4<|NE ((x0.ix x7).drop 2)<|.ai (cq 4 [[VS ((r1.cs.getD 0 .any).toStr),(r1.cs.getD 1 .any),VS ((((x0.ix x7).drop 2).getD 0 .any).toStr),(((x0.ix x7).drop 2).getD 1 .any)]]/\((e2.length)+([[VS ((r1.cs.getD 0 .any).toStr),(r1.cs.getD 1 .any),VS ((((x0.ix x7).drop 2).getD 0 .any).toStr),(((x0.ix x7).drop 2).getD 1 .any)]]:List (List AV)).length)*80<=140737488355328)<|.done 0 [x0,VS x1,VI (IntKind.wrap .i64 (x7+1))] [.vec 4 (e2++([[VS ((r1.cs.getD 0 .any).toStr),(r1.cs.getD 1 .any),VS ((((x0.ix x7).drop 2).getD 0 .any).toStr),(((x0.ix x7).drop 2).getD 1 .any)]]:List (List AV)))]) (.done 1 [] [.vec 4 e2])
abbrev I6:=cC Tryz.prog 32 NU GP
theorem Qc(x0:AV)(x1:ByteArray)(x7:Int)(e2:List (List AV))(h:kF 32 (Ia x0 x1 x7 e2) I6 U):I6 [x0,VS x1,VI x7] [.vec 4 e2] U :=
 gQ O1 h
def O6(a0:ByteArray):Tree :=
 .test (decide ((ah a0:Int)>(8000:Int))) (.done 0 [.v (.pointer none)] []) (.call 116 [VS a0,VI 0] [] fun r1 o1=>NT r1<|NP (r1.comp 0)<|NS (r1.comp 1)<|.test (!(ae ((r1.comp 1).toStr)==ae (mk []))) (.done 0 [.v (.pointer none)] []) (.done 0 [(r1.comp 0)] []))
theorem Ry(a0:ByteArray)(h:dm 16 (O6 a0) R):aq Tryz.prog 73 [VS a0] [] R :=
 uQ (ag (az _) aB) (oQ [] Tryz.f73 h)
def JI:LI:={hd:={bR:=[(0,.k .ptr),(1,.k .sl),(5,.k (.int .i64))]},xs:={bR:=[(0,.k .ptr)]},rt:={refs:=[(4,69)],ct:=[(69,[.lk (.int .u8),.lk .str,.lk (.int .i64),.lk .ptr,.lk .ptr])]},ex:=1}
def LZ:Code:=cK (cD Tryz.f74) 7
def Qg:List (Nat×LI):=[(7,JI)]
def HU(a0:AV)(a1:AV):Tree :=
 NZ a0<|NZ a0<|.ai (LK.has .str (a0.deref.hA)/\1<=a0.deref.length)<|.test (ae ((a0.deref.hA).toStr)==ae (mk [48])) (NZ a0<|NZ a0<|.ai (LK.has .str (a0.deref.hA)/\1<=a0.deref.length)<|.ai (0<=(0:Int)/\(0:Int)<ah ((a0.deref.hA).toStr))<|.done 0 [.ptr [.v (.int .u8 (bt ((a0.deref.hA).toStr) 0)),VS (mk []),VI 0,.v (.pointer none),.v (.pointer none)]] []) (NZ a0<|NZ a0<|.ai (LK.has .str (a0.deref.hA)/\1<=a0.deref.length)<|.test (ae ((a0.deref.hA).toStr)==ae (mk [49])) (NZ a0<|NZ a0<|.ai (LK.has .str (a0.deref.hA)/\1<=a0.deref.length)<|.ai (0<=(0:Int)/\(0:Int)<ah ((a0.deref.hA).toStr))<|.done 0 [.ptr [.v (.int .u8 (bt ((a0.deref.hA).toStr) 0)),VS (mk []),VI 0,.v (.pointer none),.v (.pointer none)]] []) (NZ a0<|NZ a0<|.ai (LK.has .str (a0.deref.hA)/\1<=a0.deref.length)<|.call 117 [VS ((a0.deref.hA).toStr)] [] fun r1 o1=>NB r1<|.test r1.toBool (NZ a0<|NZ a0<|.ai (LK.has .str (a0.deref.hA)/\1<=a0.deref.length)<|.done 0 [.ptr [.v (.int .u8 110),VS ((a0.deref.hA).toStr),VI 0,.v (.pointer none),.v (.pointer none)]] []) (NZ a0<|NZ a0<|.ai (LK.has .str (a0.deref.hA)/\1<=a0.deref.length)<|.call 118 [VS ((a0.deref.hA).toStr)] [] fun r2 o2=>NB r2<|.test r2.toBool (NL a1<|.loop LZ JI [a0,a1,VI (IntKind.wrap .i64 ((a1.elems.length:Int)-1))] [] (fun y3 q3=>NP (y3.hA)<|NZ (y3.hA)<|NZ (y3.hA)<|.ai (LK.has .str ((y3.hA).deref.hA)/\1<=((y3.hA).deref).length)<|.done 0 [.ptr [.v (.int .u8 110),VS (((y3.hA).deref.hA).toStr),VI 0,.v (.pointer none),.v (.pointer none)]] []) (fun y3 q3=>.ai ((q3.hO)=.cells (q3.hO).cs)<|.ai (af [.lk (.int .u8),.lk .str,.lk (.int .i64),.lk .ptr,.lk .ptr] ((q3.hO).cs) 0 q3.tail)<|.done 0 [.ptr [.v (.int .u8 (((q3.hO).cs.getD 0 .any).toInt)),VS (((q3.hO).cs.getD 1 .any).toStr),VI (((q3.hO).cs.getD 2 .any).toInt),((q3.hO).cs.getD 3 .any),((q3.hO).cs.getD 4 .any)]] [])) (.call 119 [a0,VS (mk [43]),VI 3] [] fun r4 o4=>NB r4<|.test r4.toBool (NZ a0<|NZ a0<|oy (a0.deref.drop 1)<|NG ((a0.deref.drop 1).hA) 1 1<|eg (((a0.deref.drop 1).hA).ix (1:Int))<|.call 74 [((((a0.deref.drop 1).hA).ix (1:Int)).hA),a1] [] fun r5 o5=>NP r5<|NZ a0<|NZ a0<|oy (a0.deref.drop 1)<|NG ((a0.deref.drop 1).hA) 2 1<|eg (((a0.deref.drop 1).hA).ix (2:Int))<|.call 74 [((((a0.deref.drop 1).hA).ix (2:Int)).hA),a1] [] fun r6 o6=>NP r6<|NP r5<|.test r5.isNil (.done 0 [.v (.pointer none)] []) (NP r6<|.test r6.isNil (.done 0 [.v (.pointer none)] []) (NZ a0<|NZ a0<|oy (a0.deref.drop 1)<|NG ((a0.deref.drop 1).hA) 0 1<|eg (((a0.deref.drop 1).hA).ix (0:Int))<|NZ ((((a0.deref.drop 1).hA).ix (0:Int)).hA)<|NZ ((((a0.deref.drop 1).hA).ix (0:Int)).hA)<|.ai (LK.has .str (((((a0.deref.drop 1).hA).ix (0:Int)).hA).deref.hA)/\1<=(((((a0.deref.drop 1).hA).ix (0:Int)).hA).deref).length)<|.ai (0<=(0:Int)/\(0:Int)<ah ((((((a0.deref.drop 1).hA).ix (0:Int)).hA).deref.hA).toStr))<|.done 0 [.ptr [.v (.int .u8 (bt ((((((a0.deref.drop 1).hA).ix (0:Int)).hA).deref.hA).toStr) 0)),VS (mk []),VI 0,r5,r6]] []))) (.call 119 [a0,VS (mk [42]),VI 3] [] fun r7 o7=>NB r7<|.test r7.toBool (NZ a0<|NZ a0<|oy (a0.deref.drop 1)<|NG ((a0.deref.drop 1).hA) 1 1<|eg (((a0.deref.drop 1).hA).ix (1:Int))<|.call 74 [((((a0.deref.drop 1).hA).ix (1:Int)).hA),a1] [] fun r8 o8=>NP r8<|NZ a0<|NZ a0<|oy (a0.deref.drop 1)<|NG ((a0.deref.drop 1).hA) 2 1<|eg (((a0.deref.drop 1).hA).ix (2:Int))<|.call 74 [((((a0.deref.drop 1).hA).ix (2:Int)).hA),a1] [] fun r9 o9=>NP r9<|NP r8<|.test r8.isNil (.done 0 [.v (.pointer none)] []) (NP r9<|.test r9.isNil (.done 0 [.v (.pointer none)] []) (NZ a0<|NZ a0<|oy (a0.deref.drop 1)<|NG ((a0.deref.drop 1).hA) 0 1<|eg (((a0.deref.drop 1).hA).ix (0:Int))<|NZ ((((a0.deref.drop 1).hA).ix (0:Int)).hA)<|NZ ((((a0.deref.drop 1).hA).ix (0:Int)).hA)<|.ai (LK.has .str (((((a0.deref.drop 1).hA).ix (0:Int)).hA).deref.hA)/\1<=(((((a0.deref.drop 1).hA).ix (0:Int)).hA).deref).length)<|.ai (0<=(0:Int)/\(0:Int)<ah ((((((a0.deref.drop 1).hA).ix (0:Int)).hA).deref.hA).toStr))<|.done 0 [.ptr [.v (.int .u8 (bt ((((((a0.deref.drop 1).hA).ix (0:Int)).hA).deref.hA).toStr) 0)),VS (mk []),VI 0,r8,r9]] []))) (.call 119 [a0,VS (mk [114,101,99]),VI 3] [] fun r10 o10=>NB r10<|.test r10.toBool (NZ a0<|NZ a0<|oy (a0.deref.drop 1)<|NG ((a0.deref.drop 1).hA) 1 1<|eg (((a0.deref.drop 1).hA).ix (1:Int))<|NZ ((((a0.deref.drop 1).hA).ix (1:Int)).hA)<|NZ ((((a0.deref.drop 1).hA).ix (1:Int)).hA)<|.ai (LK.has .str (((((a0.deref.drop 1).hA).ix (1:Int)).hA).deref.hA)/\1<=(((((a0.deref.drop 1).hA).ix (1:Int)).hA).deref).length)<|.call 118 [VS ((((((a0.deref.drop 1).hA).ix (1:Int)).hA).deref.hA).toStr)] [] fun r11 o11=>NB r11<|.test r11.toBool (NZ a0<|NZ a0<|oy (a0.deref.drop 1)<|NG ((a0.deref.drop 1).hA) 2 1<|eg (((a0.deref.drop 1).hA).ix (2:Int))<|.ai (LK.has .sl a1/\cq 1 a1.elems/\((([]:List (List AV)).length)+a1.elems.length)*16<=140737488355328)<|NZ a0<|NZ a0<|oy (a0.deref.drop 1)<|NG ((a0.deref.drop 1).hA) 1 1<|eg (((a0.deref.drop 1).hA).ix (1:Int))<|NZ ((((a0.deref.drop 1).hA).ix (1:Int)).hA)<|NZ ((((a0.deref.drop 1).hA).ix (1:Int)).hA)<|.ai (LK.has .str (((((a0.deref.drop 1).hA).ix (1:Int)).hA).deref.hA)/\1<=(((((a0.deref.drop 1).hA).ix (1:Int)).hA).deref).length)<|.ai (cq 1 [[VS ((((((a0.deref.drop 1).hA).ix (1:Int)).hA).deref.hA).toStr)]]/\(((([]:List (List AV))++a1.elems).length)+([[VS ((((((a0.deref.drop 1).hA).ix (1:Int)).hA).deref.hA).toStr)]]:List (List AV)).length)*16<=140737488355328)<|.call 74 [((((a0.deref.drop 1).hA).ix (2:Int)).hA),.sl ((([]:List (List AV))++a1.elems)++([[VS ((((((a0.deref.drop 1).hA).ix (1:Int)).hA).deref.hA).toStr)]]:List (List AV)))] [] fun r12 o12=>NP r12<|NP r12<|.test r12.isNil (.done 0 [.v (.pointer none)] []) (.done 0 [.ptr [.v (.int .u8 114),VS (mk []),VI 0,r12,.v (.pointer none)]] [])) (.done 0 [.v (.pointer none)] [])) (.done 0 [.v (.pointer none)] [])))))))
theorem L8(a0:AV)(a1:AV)(ha0:LK.has .ptr a0)(ha1:LK.has .sl a1)(h:dm 160 (HU a0 a1) R):aq Tryz.prog 74 [a0,a1] [] R :=
 uQ (ag (bJ ha0) (ag (bM ha1) aB)) (oQ Qg Tryz.f74 h)
def JH(x0:AV)(x1:AV)(x5:Int):Tree :=
 NP x0<|NL x1<|NI (VI x5)<|.test (decide (x5≥(0:Int))) (NG x1 x5 1<|lF (x1.ix x5)<|NZ x0<|NZ x0<|.ai (LK.has .str (x0.deref.hA)/\1<=x0.deref.length)<|.test (ae (((x1.ix x5).hA).toStr)==ae ((x0.deref.hA).toStr)) (NL x1<|.done 2 [] [.cells [.v (.int .u8 98),VS (mk []),VI (IntKind.wrap .i64 ((IntKind.wrap .i64 ((x1.elems.length:Int)-1))-x5)),.v (.pointer none),.v (.pointer none)]]) (.done 0 [x0,x1,VI (IntKind.wrap .i64 (x5-1))] [])) (.done 1 [x0] [])
abbrev G9:=cC Tryz.prog 160 LZ JI
theorem Qa(x0:AV)(x1:AV)(x5:Int)(h:kF 160 (JH x0 x1 x5) G9 U):G9 [x0,x1,VI x5] [] U :=
 gQ Qg h
def Gh(a0:AV):Tree :=
 NZ a0<|NZ a0<|.ai (LK.has (.int .u8) (a0.deref.hA)/\1<=a0.deref.length)<|.test (((a0.deref.hA).toInt)==(43:Int)) (NZ a0<|NZ a0<|eg (a0.deref.drop 3)<|.call 75 [((a0.deref.drop 3).hA)] [] fun r1 o1=>NI r1<|NZ a0<|NZ a0<|eg (a0.deref.drop 4)<|.call 75 [((a0.deref.drop 4).hA)] [] fun r2 o2=>NI r2<|.done 0 [VI (IntKind.wrap .i64 ((IntKind.wrap .i64 (1+r1.toInt))+r2.toInt))] []) (.test (((a0.deref.hA).toInt)==(42:Int)) (NZ a0<|NZ a0<|eg (a0.deref.drop 3)<|.call 75 [((a0.deref.drop 3).hA)] [] fun r3 o3=>NI r3<|NZ a0<|NZ a0<|eg (a0.deref.drop 4)<|.call 75 [((a0.deref.drop 4).hA)] [] fun r4 o4=>NI r4<|.done 0 [VI (IntKind.wrap .i64 ((IntKind.wrap .i64 (1+r3.toInt))+r4.toInt))] []) (.test (((a0.deref.hA).toInt)==(114:Int)) (NZ a0<|NZ a0<|eg (a0.deref.drop 3)<|.call 75 [((a0.deref.drop 3).hA)] [] fun r5 o5=>NI r5<|.done 0 [VI (IntKind.wrap .i64 (2+r5.toInt))] []) (.done 0 [VI 1] [])))
theorem ym(a0:AV)(ha0:LK.has .ptr a0)(h:dm 30 (Gh a0) R):aq Tryz.prog 75 [a0] [] R :=
 uQ (ag (bJ ha0) aB) (oQ [] Tryz.f75 h)
def QT(a0_0:Int)(a0_1:Bool):Tree :=
 .call 120 [VI (IntKind.wrap .i64 (a0_0+1))] [] fun r1 o1=>NS r1<|.ai (ah (mk [35])+ah r1.toStr<=9223372036854775807)<|.done 0 [VS (((mk [35]):ByteArray)++r1.toStr)] [.cells [VI (IntKind.wrap .i64 (a0_0+1)),VB a0_1]]
theorem T9(a0_0:Int)(a0_1:Bool)(h:dm 16 (QT a0_0 a0_1) R):aq Tryz.prog 76 [.ref 0 0] [.cells [VI a0_0,VB a0_1]] R :=
 aq.om (bH (cr (ag (az _) (ag (G0 _) aB))) cE) (aq.up (ag (az _) aB) (oF [] {mu:=[(0,.one (.obj [.lk (.int .i64),.lk .bool]))],own:=[]} Tryz.f76 h))
def Mx(a0_0:Int)(a0_1:Bool)(a1:AV):Tree :=
 .test a0_1 (.done 0 [.ptr [.v (.int .u8 48),VS (mk []),VI 0,.v (.pointer none),.v (.pointer none)]] [.cells [VI a0_0,VB true]]) (.call 75 [a1] [] fun r1 o1=>NI r1<|.test (decide (r1.toInt>(400:Int))) (.done 0 [.ptr [.v (.int .u8 48),VS (mk []),VI 0,.v (.pointer none),.v (.pointer none)]] [.cells [VI a0_0,VB true]]) (.done 0 [a1] [.cells [VI a0_0,VB a0_1]]))
theorem SE(a0_0:Int)(a0_1:Bool)(a1:AV)(ha1:LK.has .ptr a1)(h:dm 20 (Mx a0_0 a0_1 a1) R):aq Tryz.prog 77 [.ref 0 0,a1] [.cells [VI a0_0,VB a0_1]] R :=
 aq.om (bH (cr (ag (az _) (ag (G0 _) aB))) cE) (aq.up (ag (az _) (ag (bJ ha1) aB)) (oF [] {mu:=[(0,.one (.obj [.lk (.int .i64),.lk .bool]))],own:=[]} Tryz.f77 h))
def Ei(a0_0:Int)(a0_1:Bool)(a1:AV)(a2:ByteArray):Tree :=
 .test a0_1 (.done 0 [.ptr [.v (.int .u8 48),VS (mk []),VI 0,.v (.pointer none),.v (.pointer none)]] [.cells [VI a0_0,VB a0_1]]) (NZ a1<|NZ a1<|.ai (LK.has (.int .u8) (a1.deref.hA)/\1<=a1.deref.length)<|.test (((a1.deref.hA).toInt)==(110:Int)) (NZ a1<|NZ a1<|lF (a1.deref.drop 1)<|.test (ae (((a1.deref.drop 1).hA).toStr)==ae a2) (.done 0 [.ptr [.v (.int .u8 49),VS (mk []),VI 0,.v (.pointer none),.v (.pointer none)]] [.cells [VI a0_0,VB a0_1]]) (.done 0 [.ptr [.v (.int .u8 48),VS (mk []),VI 0,.v (.pointer none),.v (.pointer none)]] [.cells [VI a0_0,VB a0_1]])) (.test (((a1.deref.hA).toInt)==(43:Int)) (NZ a1<|NZ a1<|eg (a1.deref.drop 3)<|.call 78 [.ref 0 0,((a1.deref.drop 3).hA),VS a2] [.cells [VI a0_0,VB a0_1]] fun r1 o1=>.ai ((o1.hO)=.cells (o1.hO).cs)<|.ai (aH [.lk (.int .i64),.lk .bool] ((o1.hO).cs) 0 1 o1.tail)<|NP r1<|NZ a1<|NZ a1<|eg (a1.deref.drop 4)<|.call 78 [.ref 0 0,((a1.deref.drop 4).hA),VS a2] [.cells [VI (((o1.hO).cs.getD 0 .any).toInt),VB (((o1.hO).cs.getD 1 .any).toBool)]] fun r2 o2=>.ai ((o2.hO)=.cells (o2.hO).cs)<|.ai (aH [.lk (.int .i64),.lk .bool] ((o2.hO).cs) 0 1 o2.tail)<|NP r2<|.call 121 [.v (.int .u8 43),r1,r2] [] fun r3 o3=>NP r3<|.call 77 [.ref 0 0,r3] [.cells [VI (((o2.hO).cs.getD 0 .any).toInt),VB (((o2.hO).cs.getD 1 .any).toBool)]] fun r4 o4=>.ai ((o4.hO)=.cells (o4.hO).cs)<|.ai (aH [.lk (.int .i64),.lk .bool] ((o4.hO).cs) 0 1 o4.tail)<|NP r4<|.done 0 [r4] [.cells [VI (((o4.hO).cs.getD 0 .any).toInt),VB (((o4.hO).cs.getD 1 .any).toBool)]]) (.test (((a1.deref.hA).toInt)==(42:Int)) (NZ a1<|NZ a1<|eg (a1.deref.drop 3)<|.call 78 [.ref 0 0,((a1.deref.drop 3).hA),VS a2] [.cells [VI a0_0,VB a0_1]] fun r5 o5=>.ai ((o5.hO)=.cells (o5.hO).cs)<|.ai (aH [.lk (.int .i64),.lk .bool] ((o5.hO).cs) 0 1 o5.tail)<|NP r5<|NZ a1<|NZ a1<|eg (a1.deref.drop 4)<|.call 121 [.v (.int .u8 42),r5,((a1.deref.drop 4).hA)] [] fun r6 o6=>NP r6<|NZ a1<|NZ a1<|eg (a1.deref.drop 3)<|NZ a1<|NZ a1<|eg (a1.deref.drop 4)<|.call 78 [.ref 0 0,((a1.deref.drop 4).hA),VS a2] [.cells [VI (((o5.hO).cs.getD 0 .any).toInt),VB (((o5.hO).cs.getD 1 .any).toBool)]] fun r7 o7=>.ai ((o7.hO)=.cells (o7.hO).cs)<|.ai (aH [.lk (.int .i64),.lk .bool] ((o7.hO).cs) 0 1 o7.tail)<|NP r7<|.call 121 [.v (.int .u8 42),((a1.deref.drop 3).hA),r7] [] fun r8 o8=>NP r8<|.call 121 [.v (.int .u8 43),r6,r8] [] fun r9 o9=>NP r9<|.call 77 [.ref 0 0,r9] [.cells [VI (((o7.hO).cs.getD 0 .any).toInt),VB (((o7.hO).cs.getD 1 .any).toBool)]] fun r10 o10=>.ai ((o10.hO)=.cells (o10.hO).cs)<|.ai (aH [.lk (.int .i64),.lk .bool] ((o10.hO).cs) 0 1 o10.tail)<|NP r10<|.done 0 [r10] [.cells [VI (((o10.hO).cs.getD 0 .any).toInt),VB (((o10.hO).cs.getD 1 .any).toBool)]]) (.test (((a1.deref.hA).toInt)==(114:Int)) (.call 76 [.ref 0 0] [.cells [VI a0_0,VB a0_1]] fun r11 o11=>.ai ((o11.hO)=.cells (o11.hO).cs)<|.ai (aH [.lk (.int .i64),.lk .bool] ((o11.hO).cs) 0 1 o11.tail)<|NS r11<|NZ a1<|NZ a1<|eg (a1.deref.drop 3)<|.call 79 [((a1.deref.drop 3).hA),.ptr [.v (.int .u8 110),VS r11.toStr,VI 0,.v (.pointer none),.v (.pointer none)],VI 0] [] fun r12 o12=>NP r12<|.call 78 [.ref 0 0,r12,VS a2] [.cells [VI (((o11.hO).cs.getD 0 .any).toInt),VB (((o11.hO).cs.getD 1 .any).toBool)]] fun r13 o13=>.ai ((o13.hO)=.cells (o13.hO).cs)<|.ai (aH [.lk (.int .i64),.lk .bool] ((o13.hO).cs) 0 1 o13.tail)<|NP r13<|.call 77 [.ref 0 0,r13] [.cells [VI (((o13.hO).cs.getD 0 .any).toInt),VB (((o13.hO).cs.getD 1 .any).toBool)]] fun r14 o14=>.ai ((o14.hO)=.cells (o14.hO).cs)<|.ai (aH [.lk (.int .i64),.lk .bool] ((o14.hO).cs) 0 1 o14.tail)<|NP r14<|.call 80 [r14,VS r11.toStr,a1] [] fun r15 o15=>NP r15<|.call 78 [.ref 0 0,r12,VS r11.toStr] [.cells [VI (((o14.hO).cs.getD 0 .any).toInt),VB (((o14.hO).cs.getD 1 .any).toBool)]] fun r16 o16=>.ai ((o16.hO)=.cells (o16.hO).cs)<|.ai (aH [.lk (.int .i64),.lk .bool] ((o16.hO).cs) 0 1 o16.tail)<|NP r16<|.call 77 [.ref 0 0,r16] [.cells [VI (((o16.hO).cs.getD 0 .any).toInt),VB (((o16.hO).cs.getD 1 .any).toBool)]] fun r17 o17=>.ai ((o17.hO)=.cells (o17.hO).cs)<|.ai (aH [.lk (.int .i64),.lk .bool] ((o17.hO).cs) 0 1 o17.tail)<|NP r17<|.call 80 [r17,VS r11.toStr,a1] [] fun r18 o18=>NP r18<|.call 121 [.v (.int .u8 42),r18,.ptr [.v (.int .u8 98),VS (mk []),VI 0,.v (.pointer none),.v (.pointer none)]] [] fun r19 o19=>NP r19<|.call 121 [.v (.int .u8 43),r15,r19] [] fun r20 o20=>NP r20<|.call 77 [.ref 0 0,.ptr [.v (.int .u8 114),VS (mk []),VI 0,r20,.v (.pointer none)]] [.cells [VI (((o17.hO).cs.getD 0 .any).toInt),VB (((o17.hO).cs.getD 1 .any).toBool)]] fun r21 o21=>.ai ((o21.hO)=.cells (o21.hO).cs)<|.ai (aH [.lk (.int .i64),.lk .bool] ((o21.hO).cs) 0 1 o21.tail)<|NP r21<|.done 0 [r21] [.cells [VI (((o21.hO).cs.getD 0 .any).toInt),VB (((o21.hO).cs.getD 1 .any).toBool)]]) (.done 0 [.ptr [.v (.int .u8 48),VS (mk []),VI 0,.v (.pointer none),.v (.pointer none)]] [.cells [VI a0_0,VB a0_1]])))))
theorem Qb(a0_0:Int)(a0_1:Bool)(a1:AV)(a2:ByteArray)(ha1:LK.has .ptr a1)(h:dm 121 (Ei a0_0 a0_1 a1 a2) R):aq Tryz.prog 78 [.ref 0 0,a1,VS a2] [.cells [VI a0_0,VB a0_1]] R :=
 aq.om (bH (cr (ag (az _) (ag (G0 _) aB))) cE) (aq.up (ag (az _) (ag (bJ ha1) (ag (az _) aB))) (oF [] {mu:=[(0,.one (.obj [.lk (.int .i64),.lk .bool]))],own:=[]} Tryz.f78 h))
def Gg(a0:AV)(a1:AV)(a2:Int):Tree :=
 NZ a0<|NZ a0<|.ai (LK.has (.int .u8) (a0.deref.hA)/\1<=a0.deref.length)<|.test (((a0.deref.hA).toInt)==(98:Int)) (NZ a0<|NZ a0<|.ai (LK.has (.int .i64) ((a0.deref.drop 2).hA)/\1<=(a0.deref.drop 2).length)<|.test ((((a0.deref.drop 2).hA).toInt)==a2) (.done 0 [a1] []) (.done 0 [a0] [])) (.test (((a0.deref.hA).toInt)==(43:Int)) (NZ a0<|NZ a0<|.ai (LK.has (.int .u8) (a0.deref.hA)/\1<=a0.deref.length)<|NZ a0<|NZ a0<|eg (a0.deref.drop 3)<|.call 79 [((a0.deref.drop 3).hA),a1,VI a2] [] fun r1 o1=>NP r1<|NZ a0<|NZ a0<|eg (a0.deref.drop 4)<|.call 79 [((a0.deref.drop 4).hA),a1,VI a2] [] fun r2 o2=>NP r2<|.done 0 [.ptr [.v (.int .u8 ((a0.deref.hA).toInt)),VS (mk []),VI 0,r1,r2]] []) (.test (((a0.deref.hA).toInt)==(42:Int)) (NZ a0<|NZ a0<|.ai (LK.has (.int .u8) (a0.deref.hA)/\1<=a0.deref.length)<|NZ a0<|NZ a0<|eg (a0.deref.drop 3)<|.call 79 [((a0.deref.drop 3).hA),a1,VI a2] [] fun r3 o3=>NP r3<|NZ a0<|NZ a0<|eg (a0.deref.drop 4)<|.call 79 [((a0.deref.drop 4).hA),a1,VI a2] [] fun r4 o4=>NP r4<|.done 0 [.ptr [.v (.int .u8 ((a0.deref.hA).toInt)),VS (mk []),VI 0,r3,r4]] []) (.test (((a0.deref.hA).toInt)==(114:Int)) (NZ a0<|NZ a0<|eg (a0.deref.drop 3)<|.call 79 [((a0.deref.drop 3).hA),a1,VI (IntKind.wrap .i64 (a2+1))] [] fun r5 o5=>NP r5<|.done 0 [.ptr [.v (.int .u8 114),VS (mk []),VI 0,r5,.v (.pointer none)]] []) (.done 0 [a0] []))))
theorem JF(a0:AV)(a1:AV)(a2:Int)(ha0:LK.has .ptr a0)(ha1:LK.has .ptr a1)(h:dm 56 (Gg a0 a1 a2) R):aq Tryz.prog 79 [a0,a1,VI a2] [] R :=
 uQ (ag (bJ ha0) (ag (bJ ha1) (ag (az _) aB))) (oQ [] Tryz.f79 h)
def Gv(a0:AV)(a1:ByteArray)(a2:AV):Tree :=
 NZ a0<|NZ a0<|.ai (LK.has (.int .u8) (a0.deref.hA)/\1<=a0.deref.length)<|.test (((a0.deref.hA).toInt)==(110:Int)) (NZ a0<|NZ a0<|lF (a0.deref.drop 1)<|.test (ae (((a0.deref.drop 1).hA).toStr)==ae a1) (.done 0 [a2] []) (.done 0 [a0] [])) (.test (((a0.deref.hA).toInt)==(43:Int)) (NZ a0<|NZ a0<|.ai (LK.has (.int .u8) (a0.deref.hA)/\1<=a0.deref.length)<|NZ a0<|NZ a0<|eg (a0.deref.drop 3)<|.call 80 [((a0.deref.drop 3).hA),VS a1,a2] [] fun r1 o1=>NP r1<|NZ a0<|NZ a0<|eg (a0.deref.drop 4)<|.call 80 [((a0.deref.drop 4).hA),VS a1,a2] [] fun r2 o2=>NP r2<|.done 0 [.ptr [.v (.int .u8 ((a0.deref.hA).toInt)),VS (mk []),VI 0,r1,r2]] []) (.test (((a0.deref.hA).toInt)==(42:Int)) (NZ a0<|NZ a0<|.ai (LK.has (.int .u8) (a0.deref.hA)/\1<=a0.deref.length)<|NZ a0<|NZ a0<|eg (a0.deref.drop 3)<|.call 80 [((a0.deref.drop 3).hA),VS a1,a2] [] fun r3 o3=>NP r3<|NZ a0<|NZ a0<|eg (a0.deref.drop 4)<|.call 80 [((a0.deref.drop 4).hA),VS a1,a2] [] fun r4 o4=>NP r4<|.done 0 [.ptr [.v (.int .u8 ((a0.deref.hA).toInt)),VS (mk []),VI 0,r3,r4]] []) (.test (((a0.deref.hA).toInt)==(114:Int)) (NZ a0<|NZ a0<|eg (a0.deref.drop 3)<|.call 80 [((a0.deref.drop 3).hA),VS a1,a2] [] fun r5 o5=>NP r5<|.done 0 [.ptr [.v (.int .u8 114),VS (mk []),VI 0,r5,.v (.pointer none)]] []) (.done 0 [a0] []))))
theorem Km(a0:AV)(a1:ByteArray)(a2:AV)(ha0:LK.has .ptr a0)(ha2:LK.has .ptr a2)(h:dm 55 (Gv a0 a1 a2) R):aq Tryz.prog 80 [a0,VS a1,a2] [] R :=
 uQ (ag (bJ ha0) (ag (az _) (ag (bJ ha2) aB))) (oQ [] Tryz.f80 h)
def Nq(a0:AV):Tree :=
 .call 122 [a0] [] fun r1 o1=>NL r1<|.call 123 [a0,.v (.slice none 0 0),.hG 123 [none,some 0,some 1],.ref 0 0,.ref 1 0] [.cells [r1],.cells [VI 0]] fun r2 o2=>.ai ((o2.hO)=.cells (o2.hO).cs)<|.ai (aH [.lk .sl] ((o2.hO).cs) 0 1 o2.tail)<|.ai ((o2.tail.hO)=.cells (o2.tail.hO).cs)<|.ai (aH [.lk (.int .i64)] ((o2.tail.hO).cs) 0 2 o2.tail.tail)<|NS r2<|.done 0 [VS r2.toStr] []
theorem UN(a0:AV)(ha0:LK.has .ptr a0)(h:dm 12 (Nq a0) R):aq Tryz.prog 81 [a0] [] R :=
 uQ (ag (bJ ha0) aB) (oQ [] Tryz.f81 h)
def N1(a0:ByteArray):Tree :=
 .call 38 [VS a0] [] fun r1 o1=>NP r1<|NP r1<|.test r1.isNil (.done 0 [.v (.pointer none)] []) (.call 125 [r1] [] fun r2 o2=>NB r2<|.test (!r2.toBool) (.done 0 [.v (.pointer none)] []) (.done 0 [r1] []))
theorem UT(a0:ByteArray)(h:dm 14 (N1 a0) R):aq Tryz.prog 82 [VS a0] [] R :=
 uQ (ag (az _) aB) (oQ [] Tryz.f82 h)
def BN(a0_0:AV)(a0_1:AV)(a1:AV)(a2:Int):Tree :=
 NZ a0_0<|NZ a0_0<|.ai (LK.has (.int .u8) (a0_0.deref.hA)/\1<=a0_0.deref.length)<|.test (((a0_0.deref.hA).toInt)==(49:Int)) (NZ a1<|NZ a1<|.ai (LK.has (.int .u8) (a1.deref.hA)/\1<=a1.deref.length)<|.done 0 [VB (((a1.deref.hA).toInt)==(117:Int))] []) (.test (((a0_0.deref.hA).toInt)==(110:Int)) (NZ a1<|NZ a1<|.ai (LK.has (.int .u8) (a1.deref.hA)/\1<=a1.deref.length)<|.test (((a1.deref.hA).toInt) != (101:Int)) (.done 0 [VB false] []) (NZ a1<|NZ a1<|lF (a1.deref.drop 1)<|.ai (0<=(1:Int)/\(1:Int)<=(ah (((a1.deref.drop 1).hA).toStr):Int)/\(ah (((a1.deref.drop 1).hA).toStr):Int)<=(ah (((a1.deref.drop 1).hA).toStr):Int))<|.call 126 [VS (cx (((a1.deref.drop 1).hA).toStr) (bP 1) (bP (ah (((a1.deref.drop 1).hA).toStr):Int)))] [] fun r1 o1=>NT r1<|NI (r1.comp 0)<|.ai (LK.has .lE (r1.comp 1))<|.done 0 [VB (decide (((r1.comp 0).toInt)<a2))] [])) (.test (((a0_0.deref.hA).toInt)==(98:Int)) (.call 127 [.agg [a0_0,a0_1]] [] fun r2 o2=>NP r2<|NZ r2<|NZ r2<|.ai (bE [.ptr,.ptr] r2.deref 0/\2<=r2.deref.length)<|.call 83 [.agg [(r2.deref.getD 0 .any),(r2.deref.getD 1 .any)],a1,VI a2] [] fun r3 o3=>NB r3<|.done 0 [VB r3.toBool] []) (.test (((a0_0.deref.hA).toInt)==(43:Int)) (NZ a1<|NZ a1<|.ai (LK.has (.int .u8) (a1.deref.hA)/\1<=a1.deref.length)<|.test (((a1.deref.hA).toInt)==(108:Int)) (.call 108 [.agg [a0_0,a0_1]] [] fun r4 o4=>.ai (r4=.agg r4.cs/\r4.cs.length=2/\bE [.ptr,.ptr] r4.cs 0)<|NZ a1<|NZ a1<|eg (a1.deref.drop 2)<|.call 83 [.agg [(r4.cs.getD 0 .any),(r4.cs.getD 1 .any)],((a1.deref.drop 2).hA),VI a2] [] fun r5 o5=>NB r5<|.test r5.toBool (.done 0 [VB true] []) (NZ a1<|NZ a1<|.ai (LK.has (.int .u8) (a1.deref.hA)/\1<=a1.deref.length)<|.test (((a1.deref.hA).toInt)==(114:Int)) (.call 109 [.agg [a0_0,a0_1]] [] fun r6 o6=>.ai (r6=.agg r6.cs/\r6.cs.length=2/\bE [.ptr,.ptr] r6.cs 0)<|NZ a1<|NZ a1<|eg (a1.deref.drop 2)<|.call 83 [.agg [(r6.cs.getD 0 .any),(r6.cs.getD 1 .any)],((a1.deref.drop 2).hA),VI a2] [] fun r7 o7=>NB r7<|.done 0 [VB r7.toBool] []) (.done 0 [VB false] []))) (NZ a1<|NZ a1<|.ai (LK.has (.int .u8) (a1.deref.hA)/\1<=a1.deref.length)<|.test (((a1.deref.hA).toInt)==(114:Int)) (.call 109 [.agg [a0_0,a0_1]] [] fun r8 o8=>.ai (r8=.agg r8.cs/\r8.cs.length=2/\bE [.ptr,.ptr] r8.cs 0)<|NZ a1<|NZ a1<|eg (a1.deref.drop 2)<|.call 83 [.agg [(r8.cs.getD 0 .any),(r8.cs.getD 1 .any)],((a1.deref.drop 2).hA),VI a2] [] fun r9 o9=>NB r9<|.done 0 [VB r9.toBool] []) (.done 0 [VB false] []))) (.test (((a0_0.deref.hA).toInt)==(42:Int)) (NZ a1<|NZ a1<|.ai (LK.has (.int .u8) (a1.deref.hA)/\1<=a1.deref.length)<|.test (((a1.deref.hA).toInt)==(112:Int)) (.call 108 [.agg [a0_0,a0_1]] [] fun r10 o10=>.ai (r10=.agg r10.cs/\r10.cs.length=2/\bE [.ptr,.ptr] r10.cs 0)<|NZ a1<|NZ a1<|eg (a1.deref.drop 2)<|.call 83 [.agg [(r10.cs.getD 0 .any),(r10.cs.getD 1 .any)],((a1.deref.drop 2).hA),VI a2] [] fun r11 o11=>NB r11<|.test r11.toBool (.call 109 [.agg [a0_0,a0_1]] [] fun r12 o12=>.ai (r12=.agg r12.cs/\r12.cs.length=2/\bE [.ptr,.ptr] r12.cs 0)<|NZ a1<|NZ a1<|eg (a1.deref.drop 3)<|.call 83 [.agg [(r12.cs.getD 0 .any),(r12.cs.getD 1 .any)],((a1.deref.drop 3).hA),VI a2] [] fun r13 o13=>NB r13<|.done 0 [VB r13.toBool] []) (.done 0 [VB false] [])) (.done 0 [VB false] [])) (.test (((a0_0.deref.hA).toInt)==(114:Int)) (.call 70 [.agg [a0_0,a0_1]] [] fun r14 o14=>NT r14<|.ai ((r14.comp 0)=.agg (r14.comp 0).cs/\(r14.comp 0).cs.length=2/\bE [.ptr,.ptr] ((r14.comp 0).cs) 0)<|NP (r14.comp 1)<|NZ a1<|NZ a1<|.ai (LK.has (.int .u8) (a1.deref.hA)/\1<=a1.deref.length)<|.test (((a1.deref.hA).toInt)==(102:Int)) (NZ a1<|NZ a1<|eg (a1.deref.drop 2)<|.call 83 [.agg [((r14.comp 0).cs.getD 0 .any),((r14.comp 0).cs.getD 1 .any)],((a1.deref.drop 2).hA),VI a2] [] fun r15 o15=>NB r15<|.done 0 [VB r15.toBool] []) (.done 0 [VB false] [])) (.done 0 [VB false] []))))))
theorem PD(a0_0:AV)(a0_1:AV)(a1:AV)(a2:Int)(ha0_0:LK.has .ptr a0_0)(ha0_1:LK.has .ptr a0_1)(ha1:LK.has .ptr a1)(h:dm 134 (BN a0_0 a0_1 a1 a2) R):aq Tryz.prog 83 [.agg [a0_0,a0_1],a1,VI a2] [] R :=
 uQ (ag (bW (ag (bJ ha0_0) (ag (bJ ha0_1) aB))) (ag (bJ ha1) (ag (az _) aB))) (oQ [] Tryz.f83 h)
def xD(a0:AV):Tree :=
 NZ a0<|NZ a0<|eg (a0.deref.drop 2)<|NP ((a0.deref.drop 2).hA)<|.test (!((a0.deref.drop 2).hA).isNil) (NZ a0<|NZ a0<|eg (a0.deref.drop 2)<|.call 84 [((a0.deref.drop 2).hA)] [] fun r1 o1=>NI r1<|NZ a0<|NZ a0<|eg (a0.deref.drop 3)<|NP ((a0.deref.drop 3).hA)<|.test (!((a0.deref.drop 3).hA).isNil) (NZ a0<|NZ a0<|eg (a0.deref.drop 3)<|.call 84 [((a0.deref.drop 3).hA)] [] fun r2 o2=>NI r2<|.done 0 [VI (IntKind.wrap .i64 ((IntKind.wrap .i64 (1+r1.toInt))+r2.toInt))] []) (.done 0 [VI (IntKind.wrap .i64 (1+r1.toInt))] [])) (NZ a0<|NZ a0<|eg (a0.deref.drop 3)<|NP ((a0.deref.drop 3).hA)<|.test (!((a0.deref.drop 3).hA).isNil) (NZ a0<|NZ a0<|eg (a0.deref.drop 3)<|.call 84 [((a0.deref.drop 3).hA)] [] fun r3 o3=>NI r3<|.done 0 [VI (IntKind.wrap .i64 (1+r3.toInt))] []) (.done 0 [VI 1] []))
theorem AK(a0:AV)(ha0:LK.has .ptr a0)(h:dm 29 (xD a0) R):aq Tryz.prog 84 [a0] [] R :=
 uQ (ag (bJ ha0) aB) (oQ [] Tryz.f84 h)
def Q2(a0:Int)(a1:AV):Tree :=
 .done 0 [.ptr [.v (.int .u8 a0),VS (mk []),a1,.v (.pointer none)]] []
theorem SV(a0:Int)(a1:AV)(ha1:LK.has .ptr a1)(h:dm 9 (Q2 a0 a1) R):aq Tryz.prog 85 [.v (.int .u8 a0),a1] [] R :=
 uQ (ag (az _) (ag (bJ ha1) aB)) (oQ [] Tryz.f85 h)
def Dy(a0_0:AV)(a0_1:AV)(a1:AV)(a2_0:ByteArray)(a2_1:AV)(a3:AV):Tree :=
 NZ a0_0<|NZ a0_0<|.ai (LK.has (.int .u8) (a0_0.deref.hA)/\1<=a0_0.deref.length)<|.test (((a0_0.deref.hA).toInt)==(43:Int)) (.call 108 [.agg [a0_0,a0_1]] [] fun r1 o1=>.ai (r1=.agg r1.cs/\r1.cs.length=2/\bE [.ptr,.ptr] r1.cs 0)<|NZ a1<|NZ a1<|.ai (LK.has (.int .u8) (a1.deref.hA)/\1<=a1.deref.length)<|.test (((a1.deref.hA).toInt)==(114:Int)) (.call 109 [.agg [a0_0,a0_1]] [] fun r2 o2=>.ai (r2=.agg r2.cs/\r2.cs.length=2/\bE [.ptr,.ptr] r2.cs 0)<|NZ a1<|NZ a1<|.ai (LK.has (.int .u8) (a1.deref.hA)/\1<=a1.deref.length)<|NZ a1<|NZ a1<|eg (a1.deref.drop 2)<|.call 86 [.agg [(r2.cs.getD 0 .any),(r2.cs.getD 1 .any)],((a1.deref.drop 2).hA),.agg [VS a2_0,a2_1],a3] [] fun r3 o3=>NP r3<|.call 85 [.v (.int .u8 ((a1.deref.hA).toInt)),r3] [] fun r4 o4=>NP r4<|.done 0 [r4] []) (NZ a1<|NZ a1<|.ai (LK.has (.int .u8) (a1.deref.hA)/\1<=a1.deref.length)<|NZ a1<|NZ a1<|eg (a1.deref.drop 2)<|.call 86 [.agg [(r1.cs.getD 0 .any),(r1.cs.getD 1 .any)],((a1.deref.drop 2).hA),.agg [VS a2_0,a2_1],a3] [] fun r5 o5=>NP r5<|.call 85 [.v (.int .u8 ((a1.deref.hA).toInt)),r5] [] fun r6 o6=>NP r6<|.done 0 [r6] [])) (.test (((a0_0.deref.hA).toInt)==(42:Int)) (NZ a1<|NZ a1<|.ai (LK.has (.int .u8) (a1.deref.hA)/\1<=a1.deref.length)<|.test (((a1.deref.hA).toInt)==(108:Int)) (.call 108 [.agg [a0_0,a0_1]] [] fun r7 o7=>.ai (r7=.agg r7.cs/\r7.cs.length=2/\bE [.ptr,.ptr] r7.cs 0)<|NZ a1<|NZ a1<|eg (a1.deref.drop 2)<|NZ ((a1.deref.drop 2).hA)<|NZ ((a1.deref.drop 2).hA)<|eg (((a1.deref.drop 2).hA).deref.drop 2)<|.call 86 [.agg [(r7.cs.getD 0 .any),(r7.cs.getD 1 .any)],((((a1.deref.drop 2).hA).deref.drop 2).hA),.agg [VS a2_0,a2_1],a3] [] fun r8 o8=>NP r8<|NZ a1<|NZ a1<|eg (a1.deref.drop 2)<|NZ ((a1.deref.drop 2).hA)<|NZ ((a1.deref.drop 2).hA)<|eg (((a1.deref.drop 2).hA).deref.drop 3)<|.call 112 [r8,((((a1.deref.drop 2).hA).deref.drop 3).hA)] [] fun r9 o9=>NP r9<|.done 0 [r9] []) (NZ a1<|NZ a1<|eg (a1.deref.drop 2)<|NZ ((a1.deref.drop 2).hA)<|NZ ((a1.deref.drop 2).hA)<|eg (((a1.deref.drop 2).hA).deref.drop 2)<|.call 109 [.agg [a0_0,a0_1]] [] fun r10 o10=>.ai (r10=.agg r10.cs/\r10.cs.length=2/\bE [.ptr,.ptr] r10.cs 0)<|NZ a1<|NZ a1<|eg (a1.deref.drop 2)<|NZ ((a1.deref.drop 2).hA)<|NZ ((a1.deref.drop 2).hA)<|eg (((a1.deref.drop 2).hA).deref.drop 3)<|.call 86 [.agg [(r10.cs.getD 0 .any),(r10.cs.getD 1 .any)],((((a1.deref.drop 2).hA).deref.drop 3).hA),.agg [VS a2_0,a2_1],a3] [] fun r11 o11=>NP r11<|.call 112 [((((a1.deref.drop 2).hA).deref.drop 2).hA),r11] [] fun r12 o12=>NP r12<|.done 0 [r12] [])) (.test (((a0_0.deref.hA).toInt)==(114:Int)) (.call 70 [.agg [a0_0,a0_1]] [] fun r13 o13=>NT r13<|.ai ((r13.comp 0)=.agg (r13.comp 0).cs/\(r13.comp 0).cs.length=2/\bE [.ptr,.ptr] ((r13.comp 0).cs) 0)<|NP (r13.comp 1)<|NZ a1<|NZ a1<|eg (a1.deref.drop 2)<|NZ ((a1.deref.drop 2).hA)<|NZ ((a1.deref.drop 2).hA)<|.ai (LK.has (.int .u8) (((a1.deref.drop 2).hA).deref.hA)/\1<=(((a1.deref.drop 2).hA).deref).length)<|.test (((((a1.deref.drop 2).hA).deref.hA).toInt)==(108:Int)) (NZ a1<|NZ a1<|eg (a1.deref.drop 2)<|NZ ((a1.deref.drop 2).hA)<|NZ ((a1.deref.drop 2).hA)<|eg (((a1.deref.drop 2).hA).deref.drop 2)<|.call 86 [.agg [((r13.comp 0).cs.getD 0 .any),((r13.comp 0).cs.getD 1 .any)],((((a1.deref.drop 2).hA).deref.drop 2).hA),.agg [VS a2_0,a2_1],a3] [] fun r14 o14=>NP r14<|.call 85 [.v (.int .u8 102),r14] [] fun r15 o15=>NP r15<|.done 0 [r15] []) (NZ a1<|NZ a1<|eg (a1.deref.drop 2)<|NZ ((a1.deref.drop 2).hA)<|NZ ((a1.deref.drop 2).hA)<|eg (((a1.deref.drop 2).hA).deref.drop 2)<|NZ ((((a1.deref.drop 2).hA).deref.drop 2).hA)<|NZ ((((a1.deref.drop 2).hA).deref.drop 2).hA)<|eg (((((a1.deref.drop 2).hA).deref.drop 2).hA).deref.drop 3)<|.call 86 [.agg [a0_0,a0_1],((((((a1.deref.drop 2).hA).deref.drop 2).hA).deref.drop 3).hA),.agg [VS a2_0,a2_1],a3] [] fun r16 o16=>NP r16<|NZ a1<|NZ a1<|eg (a1.deref.drop 2)<|NZ ((a1.deref.drop 2).hA)<|NZ ((a1.deref.drop 2).hA)<|eg (((a1.deref.drop 2).hA).deref.drop 2)<|NZ ((((a1.deref.drop 2).hA).deref.drop 2).hA)<|NZ ((((a1.deref.drop 2).hA).deref.drop 2).hA)<|eg (((((a1.deref.drop 2).hA).deref.drop 2).hA).deref.drop 2)<|.call 86 [.agg [((r13.comp 0).cs.getD 0 .any),((r13.comp 0).cs.getD 1 .any)],((((((a1.deref.drop 2).hA).deref.drop 2).hA).deref.drop 2).hA),.agg [VS (mk []),(r13.comp 1)],r16] [] fun r17 o17=>NP r17<|.call 85 [.v (.int .u8 102),r17] [] fun r18 o18=>NP r18<|.done 0 [r18] [])) (.done 0 [a3] [])))
theorem So(a0_0:AV)(a0_1:AV)(a1:AV)(a2_0:ByteArray)(a2_1:AV)(a3:AV)(ha0_0:LK.has .ptr a0_0)(ha0_1:LK.has .ptr a0_1)(ha1:LK.has .ptr a1)(ha2_1:LK.has .ptr a2_1)(ha3:LK.has .ptr a3)(h:dm 147 (Dy a0_0 a0_1 a1 a2_0 a2_1 a3) R):aq Tryz.prog 86 [.agg [a0_0,a0_1],a1,.agg [VS a2_0,a2_1],a3] [] R :=
 uQ (ag (bW (ag (bJ ha0_0) (ag (bJ ha0_1) aB))) (ag (bJ ha1) (ag (bW (ag (az _) (ag (bJ ha2_1) aB))) (ag (bJ ha3) aB)))) (oQ [] Tryz.f86 h)
def Ix(a0:AV):Tree :=
 NZ a0<|NZ a0<|.ai (LK.has .str (a0.deref.hA)/\1<=a0.deref.length)<|.test (ae ((a0.deref.hA).toStr)==ae (mk [117])) (.done 0 [.ptr [.v (.int .u8 117),VS (mk []),.v (.pointer none),.v (.pointer none)]] []) (NZ a0<|NZ a0<|.ai (LK.has .str (a0.deref.hA)/\1<=a0.deref.length)<|.call 128 [VS ((a0.deref.hA).toStr)] [] fun r1 o1=>NB r1<|.test r1.toBool (NZ a0<|NZ a0<|.ai (LK.has .str (a0.deref.hA)/\1<=a0.deref.length)<|.done 0 [.ptr [.v (.int .u8 101),VS ((a0.deref.hA).toStr),.v (.pointer none),.v (.pointer none)]] []) (.call 119 [a0,VS (mk [108]),VI 2] [] fun r2 o2=>NB r2<|.test r2.toBool (NZ a0<|NZ a0<|oy (a0.deref.drop 1)<|NG ((a0.deref.drop 1).hA) 1 1<|eg (((a0.deref.drop 1).hA).ix (1:Int))<|.call 87 [((((a0.deref.drop 1).hA).ix (1:Int)).hA)] [] fun r3 o3=>NP r3<|NP r3<|.test r3.isNil (.done 0 [.v (.pointer none)] []) (NZ a0<|NZ a0<|oy (a0.deref.drop 1)<|NG ((a0.deref.drop 1).hA) 0 1<|eg (((a0.deref.drop 1).hA).ix (0:Int))<|NZ ((((a0.deref.drop 1).hA).ix (0:Int)).hA)<|NZ ((((a0.deref.drop 1).hA).ix (0:Int)).hA)<|.ai (LK.has .str (((((a0.deref.drop 1).hA).ix (0:Int)).hA).deref.hA)/\1<=(((((a0.deref.drop 1).hA).ix (0:Int)).hA).deref).length)<|.ai (0<=(0:Int)/\(0:Int)<ah ((((((a0.deref.drop 1).hA).ix (0:Int)).hA).deref.hA).toStr))<|.done 0 [.ptr [.v (.int .u8 (bt ((((((a0.deref.drop 1).hA).ix (0:Int)).hA).deref.hA).toStr) 0)),VS (mk []),r3,.v (.pointer none)]] [])) (.call 119 [a0,VS (mk [114]),VI 2] [] fun r4 o4=>NB r4<|.test r4.toBool (NZ a0<|NZ a0<|oy (a0.deref.drop 1)<|NG ((a0.deref.drop 1).hA) 1 1<|eg (((a0.deref.drop 1).hA).ix (1:Int))<|.call 87 [((((a0.deref.drop 1).hA).ix (1:Int)).hA)] [] fun r5 o5=>NP r5<|NP r5<|.test r5.isNil (.done 0 [.v (.pointer none)] []) (NZ a0<|NZ a0<|oy (a0.deref.drop 1)<|NG ((a0.deref.drop 1).hA) 0 1<|eg (((a0.deref.drop 1).hA).ix (0:Int))<|NZ ((((a0.deref.drop 1).hA).ix (0:Int)).hA)<|NZ ((((a0.deref.drop 1).hA).ix (0:Int)).hA)<|.ai (LK.has .str (((((a0.deref.drop 1).hA).ix (0:Int)).hA).deref.hA)/\1<=(((((a0.deref.drop 1).hA).ix (0:Int)).hA).deref).length)<|.ai (0<=(0:Int)/\(0:Int)<ah ((((((a0.deref.drop 1).hA).ix (0:Int)).hA).deref.hA).toStr))<|.done 0 [.ptr [.v (.int .u8 (bt ((((((a0.deref.drop 1).hA).ix (0:Int)).hA).deref.hA).toStr) 0)),VS (mk []),r5,.v (.pointer none)]] [])) (.call 119 [a0,VS (mk [102]),VI 2] [] fun r6 o6=>NB r6<|.test r6.toBool (NZ a0<|NZ a0<|oy (a0.deref.drop 1)<|NG ((a0.deref.drop 1).hA) 1 1<|eg (((a0.deref.drop 1).hA).ix (1:Int))<|.call 87 [((((a0.deref.drop 1).hA).ix (1:Int)).hA)] [] fun r7 o7=>NP r7<|NP r7<|.test r7.isNil (.done 0 [.v (.pointer none)] []) (NZ a0<|NZ a0<|oy (a0.deref.drop 1)<|NG ((a0.deref.drop 1).hA) 0 1<|eg (((a0.deref.drop 1).hA).ix (0:Int))<|NZ ((((a0.deref.drop 1).hA).ix (0:Int)).hA)<|NZ ((((a0.deref.drop 1).hA).ix (0:Int)).hA)<|.ai (LK.has .str (((((a0.deref.drop 1).hA).ix (0:Int)).hA).deref.hA)/\1<=(((((a0.deref.drop 1).hA).ix (0:Int)).hA).deref).length)<|.ai (0<=(0:Int)/\(0:Int)<ah ((((((a0.deref.drop 1).hA).ix (0:Int)).hA).deref.hA).toStr))<|.done 0 [.ptr [.v (.int .u8 (bt ((((((a0.deref.drop 1).hA).ix (0:Int)).hA).deref.hA).toStr) 0)),VS (mk []),r7,.v (.pointer none)]] [])) (.call 119 [a0,VS (mk [112]),VI 3] [] fun r8 o8=>NB r8<|.test r8.toBool (NZ a0<|NZ a0<|oy (a0.deref.drop 1)<|NG ((a0.deref.drop 1).hA) 1 1<|eg (((a0.deref.drop 1).hA).ix (1:Int))<|.call 87 [((((a0.deref.drop 1).hA).ix (1:Int)).hA)] [] fun r9 o9=>NP r9<|NZ a0<|NZ a0<|oy (a0.deref.drop 1)<|NG ((a0.deref.drop 1).hA) 2 1<|eg (((a0.deref.drop 1).hA).ix (2:Int))<|.call 87 [((((a0.deref.drop 1).hA).ix (2:Int)).hA)] [] fun r10 o10=>NP r10<|NP r9<|.test r9.isNil (.done 0 [.v (.pointer none)] []) (NP r10<|.test r10.isNil (.done 0 [.v (.pointer none)] []) (.call 112 [r9,r10] [] fun r11 o11=>NP r11<|.done 0 [r11] []))) (.done 0 [.v (.pointer none)] []))))))
theorem Oe(a0:AV)(ha0:LK.has .ptr a0)(h:dm 85 (Ix a0) R):aq Tryz.prog 87 [a0] [] R :=
 uQ (ag (bJ ha0) aB) (oQ [] Tryz.f87 h)
def Qd(a0:ByteArray)(a1:ByteArray):Tree :=
 .call 91 [.agg [VS a0,.vec 0,VS a1]] [.vec 1 []] fun r1 o1=>NT r1<|.ai ((r1.comp 0)=.agg (r1.comp 0).cs/\aH [.lk .str,.vec 1,.lk .str] ((r1.comp 0).cs) 0 1 o1.tail)<|NB (r1.comp 1)<|.done 0 [.cv [.agg [VS (((r1.comp 0).cs.getD 0 .any).toStr),.vec 0,VS (((r1.comp 0).cs.getD 2 .any).toStr)],VB ((r1.comp 1).toBool)]] [.vec 1 ((o1.tail.hO).es)]
theorem Ut(a0:ByteArray)(a1:ByteArray)(h:dm 13 (Qd a0 a1) R):aq Tryz.prog 88 [VS a0,VS a1] [] R :=
 uQ (ag (az _) (ag (az _) aB)) (oF [] {mu:=[],own:=[0],oa:=[.lk .str,.vec 1,.lk .str]} Tryz.f88 h)
def Mu(a0_0:ByteArray)(a0_1:AV)(a0_2:ByteArray)(a1:Int):Tree :=
 .call 90 [.agg [VS a0_0,a0_1,VS a0_2]] [] fun r1 o1=>NB r1<|.test (!r1.toBool) (.done 0 [.cv [.agg [VS (mk []),.vec 0,VS (mk [])],VB false]] [.vec 1 []]) (.call 13 [VS a0_0,VS a0_2] [] fun r2 o2=>NT r2<|NL (r2.comp 0)<|NB (r2.comp 1)<|NL (r2.comp 0)<|.call 55 [VI a1,VI 0,VI (IntKind.wrap .i64 ((((r2.comp 0).elems).length:Int)-1))] [] fun r3 o3=>NB r3<|.test (!r3.toBool) (.done 0 [.cv [.agg [VS (mk []),.vec 0,VS (mk [])],VB false]] [.vec 1 []]) (NG (r2.comp 0) a1 2<|lF ((r2.comp 0).ix a1)<|.call 129 [a0_1,VS ((((r2.comp 0).ix a1).hA).toStr)] [] fun r4 o4=>.ai (r4=.vec 0/\(o4.hO)=.vec 1 (o4.hO).es)<|.ai (∀x,x∈o4->dP x)<|NG (r2.comp 0) a1 2<|lF (((r2.comp 0).ix a1).drop 1)<|.call 91 [.agg [VS a0_0,.vec 0,VS (((((r2.comp 0).ix a1).drop 1).hA).toStr)]] [.vec 1 ((o4.hO).es)] fun r5 o5=>NT r5<|.ai ((r5.comp 0)=.agg (r5.comp 0).cs/\aH [.lk .str,.vec 1,.lk .str] ((r5.comp 0).cs) 0 1 o5.tail)<|NB (r5.comp 1)<|.done 0 [.cv [.agg [VS (((r5.comp 0).cs.getD 0 .any).toStr),.vec 0,VS (((r5.comp 0).cs.getD 2 .any).toStr)],VB ((r5.comp 1).toBool)]] [.vec 1 ((o5.tail.hO).es)]))
theorem TP(a0_0:ByteArray)(a0_1:AV)(a0_2:ByteArray)(a1:Int)(ha0_1:LK.has .sl a0_1)(h:dm 46 (Mu a0_0 a0_1 a0_2 a1) R):aq Tryz.prog 89 [.agg [VS a0_0,a0_1,VS a0_2],VI a1] [] R :=
 uQ (ag (bW (ag (az _) (ag (bM ha0_1) (ag (az _) aB)))) (ag (az _) aB)) (oF [] {mu:=[],own:=[0],oa:=[.lk .str,.vec 1,.lk .str]} Tryz.f89 h)
def OY(a0_0:ByteArray)(a0_1:AV)(a0_2:ByteArray):Tree :=
 .call 130 [.agg [VS a0_0,a0_1,VS a0_2]] [] fun r1 o1=>NB r1<|.test (!r1.toBool) (.done 0 [VB false] []) (.call 92 [.agg [VS a0_0,a0_1,VS a0_2]] [] fun r2 o2=>NT r2<|.ai ((r2.comp 0)=.agg (r2.comp 0).cs/\(r2.comp 0).cs.length=3/\bE [.str,.sl,.str] ((r2.comp 0).cs) 0)<|NB (r2.comp 1)<|.done 0 [VB ((r2.comp 1).toBool)] [])
theorem Se(a0_0:ByteArray)(a0_1:AV)(a0_2:ByteArray)(ha0_1:LK.has .sl a0_1)(h:dm 14 (OY a0_0 a0_1 a0_2) R):aq Tryz.prog 90 [.agg [VS a0_0,a0_1,VS a0_2]] [] R :=
 uQ (ag (bW (ag (az _) (ag (bM ha0_1) (ag (az _) aB)))) aB) (oQ [] Tryz.f90 h)
def LR(a0_0:ByteArray)(e0:List (List AV))(a0_2:ByteArray):Tree :=
 .call 90 [.agg [VS a0_0,.sl e0,VS a0_2]] [] fun r1 o1=>NB r1<|.test (!r1.toBool) (.done 0 [.cv [.agg [VS (mk []),.vec 1,VS (mk [])],VB false]] [.dead,.vec 1 []]) (.done 0 [.cv [.agg [VS a0_0,.vec 1,VS a0_2],VB true]] [.dead,.vec 1 e0])
theorem RM(a0_0:ByteArray)(e0:List (List AV))(a0_2:ByteArray)(h:dm 9 (LR a0_0 e0 a0_2) R):aq Tryz.prog 91 [.agg [VS a0_0,.vec 0,VS a0_2]] [.vec 1 e0] R :=
 aq.om (bH (fN _) cE) (aq.up (ag (az _) aB) (oF [] {mu:=[(0,.one (.uS [.lk .str,.vec 1,.lk .str]))],own:=[0],oa:=[.lk .str,.vec 1,.lk .str]} Tryz.f91 h))
def Ki:LI:={hd:={refs:=[(1,1),(2,2)],ct:=[(1,[.lk .str,.lk .sl,.lk .str]),(2,[.lk .str,.lk .sl,.lk .str])]},xs:={refs:=[(1,1),(2,2)],ct:=[(1,[.lk .str,.lk .sl,.lk .str]),(2,[.lk .str,.lk .sl,.lk .str])]},rt:={bR:=[(3,.k .bool)],refs:=[(2,2)],ct:=[(2,[.lk .str,.lk .sl,.lk .str])]},ex:=0}
def PL:Code:=cK (cD Tryz.f92) 1
def My:List (Nat×LI):=[(1,Ki)]
def Qr(a0_0:ByteArray)(a0_1:AV)(a0_2:ByteArray):Tree :=
 .loop PL Ki [] [.cells [VS a0_0,a0_1,VS a0_2],.cells [VS (mk []),.v (.slice none 0 0),VS (mk [])]] (fun y2 q2=>.ai ((q2.hO)=.cells (q2.hO).cs)<|.ai (af [.lk .str,.lk .sl,.lk .str] ((q2.hO).cs) 0 q2.tail)<|.ai (((q2.tail.drop 0).hO)=.cells ((q2.tail.drop 0).hO).cs)<|.ai (af [.lk .str,.lk .sl,.lk .str] (((q2.tail.drop 0).hO).cs) 0 ((q2.tail.drop 0).tail))<|.done 0 [.cv [.agg [VS (((q2.hO).cs.getD 0 .any).toStr),((q2.hO).cs.getD 1 .any),VS (((q2.hO).cs.getD 2 .any).toStr)],VB true]] []) (fun y2 q2=>NB (y2.hA)<|.ai ((q2.hO)=.cells (q2.hO).cs)<|.ai (af [.lk .str,.lk .sl,.lk .str] ((q2.hO).cs) 0 q2.tail)<|.done 0 [.cv [.agg [VS (((q2.hO).cs.getD 0 .any).toStr),((q2.hO).cs.getD 1 .any),VS (((q2.hO).cs.getD 2 .any).toStr)],VB ((y2.hA).toBool)]] [])
theorem Ua(a0_0:ByteArray)(a0_1:AV)(a0_2:ByteArray)(ha0_1:LK.has .sl a0_1)(h:dm 20 (Qr a0_0 a0_1 a0_2) R):aq Tryz.prog 92 [.agg [VS a0_0,a0_1,VS a0_2]] [] R :=
 uQ (ag (bW (ag (az _) (ag (bM ha0_1) (ag (az _) aB)))) aB) (oQ My Tryz.f92 h)
def Jw(o1_0:ByteArray)(o1_1:AV)(o1_2:ByteArray)(o2_0:ByteArray)(o2_1:AV)(o2_2:ByteArray):Tree :=
 .ai (Ob.cells [VS o1_0,o1_1,VS o1_2]=.cells [VS o1_0,o1_1,VS o1_2])<|.ai (af [.lk .str,.lk .sl,.lk .str] [VS o1_0,o1_1,VS o1_2] 0 [.cells [VS o2_0,o2_1,VS o2_2]])<|.ai (Ob.cells [VS o2_0,o2_1,VS o2_2]=.cells [VS o2_0,o2_1,VS o2_2])<|.ai (af [.lk .str,.lk .sl,.lk .str] [VS o2_0,o2_1,VS o2_2] 0 [])<|NL o1_1<|.test (decide ((o1_1.elems.length:Int)>(0:Int))) (.call 131 [.agg [VS o1_0,o1_1,VS o1_2]] [] fun r1 o1=>NT r1<|.ai ((r1.comp 0)=.agg (r1.comp 0).cs/\(r1.comp 0).cs.length=3/\bE [.str,.sl,.str] ((r1.comp 0).cs) 0)<|NB (r1.comp 1)<|.test (!((r1.comp 1).toBool)) (.done 2 [VB false] [.cells [VS o1_0,o1_1,VS o1_2]]) (.done 0 [] [.cells [VS (((r1.comp 0).cs.getD 0 .any).toStr),((r1.comp 0).cs.getD 1 .any),VS (((r1.comp 0).cs.getD 2 .any).toStr)],.cells [VS o2_0,o2_1,VS o2_2]])) (.done 1 [] [.cells [VS o1_0,o1_1,VS o1_2],.cells [VS o2_0,o2_1,VS o2_2]])
abbrev Iw:=cC Tryz.prog 20 PL Ki
theorem LC(o1_0:ByteArray)(o1_1:AV)(o1_2:ByteArray)(o2_0:ByteArray)(o2_1:AV)(o2_2:ByteArray)(h:kF 20 (Jw o1_0 o1_1 o1_2 o2_0 o2_1 o2_2) Iw U):Iw [] [.cells [VS o1_0,o1_1,VS o1_2],.cells [VS o2_0,o2_1,VS o2_2]] U :=
 gQ My h
def L7(a0:ByteArray)(a1:ByteArray):Tree :=
 .call 26 [VS a0] [] fun r1 o1=>NT r1<|.ai ((r1.comp 0)=.agg (r1.comp 0).cs/\(r1.comp 0).cs.length=2/\bE [.str,.sl] ((r1.comp 0).cs) 0)<|NB (r1.comp 1)<|.call 28 [VS a1] [] fun r2 o2=>NT r2<|.ai ((r2.comp 0)=.agg (r2.comp 0).cs/\(r2.comp 0).cs.length=2/\bE [.str,.sl] ((r2.comp 0).cs) 0)<|NB (r2.comp 1)<|.test (!((r1.comp 1).toBool)) (.done 0 [.cv [.sl [],VB false]] []) (.call 27 [VS a0,VS a1,VI 100] [] fun r3 o3=>NB r3<|.test (!r3.toBool) (.done 0 [.cv [.sl [],VB false]] []) (.call 132 [.agg [VS (((r1.comp 0).cs.getD 0 .any).toStr),((r1.comp 0).cs.getD 1 .any)],.agg [VS (((r2.comp 0).cs.getD 0 .any).toStr),((r2.comp 0).cs.getD 1 .any)],.sl [],.vec 0] [.vec 3 []] fun r4 o4=>.ai (r4=.vec 1/\(o4.tail.hO)=.vec 3 (o4.tail.hO).es)<|.done 0 [.cv [.sl ((o4.tail.hO).es),VB (decide ((((o4.tail.hO).es).length:Int)<=(100:Int)))]] []))
theorem RD(a0:ByteArray)(a1:ByteArray)(h:dm 39 (L7 a0 a1) R):aq Tryz.prog 93 [VS a0,VS a1] [] R :=
 uQ (ag (az _) (ag (az _) aB)) (oQ [] Tryz.f93 h)
def LX(a0_0:AV)(a0_1:Int)(a1:AV):Tree :=
 NL a1<|.call 45 [.ref 0 0,VI (a1.elems.length:Int)] [.cells [a0_0,VI a0_1]] fun r1 o1=>.ai ((o1.hO)=.cells (o1.hO).cs)<|.ai (aH [.lk .sl,.lk (.int .i64)] ((o1.hO).cs) 0 1 o1.tail)<|NI r1<|.ai (LK.has .sl a1/\0<=r1.toInt/\r1.toInt<a1.elems.length/\(a1.elems.getD r1.toInt.toNat []).length=1)<|lF (a1.elems.getD r1.toInt.toNat [])<|.done 0 [VS (((a1.elems.getD r1.toInt.toNat []).hA).toStr)] [.cells [((o1.hO).cs.getD 0 .any),VI (((o1.hO).cs.getD 1 .any).toInt)]]
theorem TV(a0_0:AV)(a0_1:Int)(a1:AV)(ha1:LK.has .sl a1)(ha0_0:LK.has .sl a0_0)(h:dm 12 (LX a0_0 a0_1 a1) R):aq Tryz.prog 94 [.ref 0 0,a1] [.cells [a0_0,VI a0_1]] R :=
 aq.om (bH (cr (ag (bM ha0_0) (ag (az _) aB))) cE) (aq.up (ag (az _) (ag (bM ha1) aB)) (oF [] {mu:=[(0,.one (.obj [.lk .sl,.lk (.int .i64)]))],own:=[]} Tryz.f94 h))
def DW(a0_0:AV)(a0_1:Int)(a1_0:ByteArray)(a1_1:AV)(a2:Int):Tree :=
 .call 54 [.agg [VS a1_0,a1_1]] [] fun r1 o1=>NS r1<|.test (ae r1.toStr==ae (mk [43])) (.call 45 [.ref 0 0,VI 2] [.cells [a0_0,VI a0_1]] fun r2 o2=>.ai ((o2.hO)=.cells (o2.hO).cs)<|.ai (aH [.lk .sl,.lk (.int .i64)] ((o2.hO).cs) 0 1 o2.tail)<|NI r2<|NG a1_1 1 2<|NE (a1_1.ix (1:Int))<|.call 133 [.agg [VS (((a1_1.ix (1:Int)).getD 0 .any).toStr),((a1_1.ix (1:Int)).getD 1 .any)],.sl []] [] fun r3 o3=>NB r3<|.test r3.toBool (.test ((1:Int)==(0:Int)) (NG a1_1 1 2<|NE (a1_1.ix (1:Int))<|.call 95 [.ref 0 0,.agg [VS (((a1_1.ix (1:Int)).getD 0 .any).toStr),((a1_1.ix (1:Int)).getD 1 .any)],VI (IntKind.wrap .i64 (a2-1))] [.cells [((o2.hO).cs.getD 0 .any),VI (((o2.hO).cs.getD 1 .any).toInt)]] fun r4 o4=>.ai ((o4.hO)=.cells (o4.hO).cs)<|.ai (aH [.lk .sl,.lk (.int .i64)] ((o4.hO).cs) 0 1 o4.tail)<|NA r4<|.call 61 [VS (mk [108]),.sl [[VS ((r4.cs.getD 0 .any).toStr),(r4.cs.getD 1 .any)]]] [] fun r5 o5=>NA r5<|.done 0 [.agg [VS ((r5.cs.getD 0 .any).toStr),(r5.cs.getD 1 .any)]] [.cells [((o4.hO).cs.getD 0 .any),VI (((o4.hO).cs.getD 1 .any).toInt)]]) (NG a1_1 2 2<|NE (a1_1.ix (2:Int))<|.call 95 [.ref 0 0,.agg [VS (((a1_1.ix (2:Int)).getD 0 .any).toStr),((a1_1.ix (2:Int)).getD 1 .any)],VI (IntKind.wrap .i64 (a2-1))] [.cells [((o2.hO).cs.getD 0 .any),VI (((o2.hO).cs.getD 1 .any).toInt)]] fun r6 o6=>.ai ((o6.hO)=.cells (o6.hO).cs)<|.ai (aH [.lk .sl,.lk (.int .i64)] ((o6.hO).cs) 0 1 o6.tail)<|NA r6<|.call 61 [VS (mk [114]),.sl [[VS ((r6.cs.getD 0 .any).toStr),(r6.cs.getD 1 .any)]]] [] fun r7 o7=>NA r7<|.done 0 [.agg [VS ((r7.cs.getD 0 .any).toStr),(r7.cs.getD 1 .any)]] [.cells [((o6.hO).cs.getD 0 .any),VI (((o6.hO).cs.getD 1 .any).toInt)]])) (.test (decide (a2<=(0:Int))) (NG a1_1 1 2<|NE (a1_1.ix (1:Int))<|.call 134 [.agg [VS (((a1_1.ix (1:Int)).getD 0 .any).toStr),((a1_1.ix (1:Int)).getD 1 .any)]] [] fun r8 o8=>NI r8<|NG a1_1 2 2<|NE (a1_1.ix (2:Int))<|.call 134 [.agg [VS (((a1_1.ix (2:Int)).getD 0 .any).toStr),((a1_1.ix (2:Int)).getD 1 .any)]] [] fun r9 o9=>NI r9<|.test (decide (r8.toInt>r9.toInt)) (NG a1_1 2 2<|NE (a1_1.ix (2:Int))<|.call 133 [.agg [VS (((a1_1.ix (2:Int)).getD 0 .any).toStr),((a1_1.ix (2:Int)).getD 1 .any)],.sl []] [] fun r10 o10=>NB r10<|.test (!r10.toBool) (.test ((1:Int)==(0:Int)) (NG a1_1 1 2<|NE (a1_1.ix (1:Int))<|.call 95 [.ref 0 0,.agg [VS (((a1_1.ix (1:Int)).getD 0 .any).toStr),((a1_1.ix (1:Int)).getD 1 .any)],VI (IntKind.wrap .i64 (a2-1))] [.cells [((o2.hO).cs.getD 0 .any),VI (((o2.hO).cs.getD 1 .any).toInt)]] fun r11 o11=>.ai ((o11.hO)=.cells (o11.hO).cs)<|.ai (aH [.lk .sl,.lk (.int .i64)] ((o11.hO).cs) 0 1 o11.tail)<|NA r11<|.call 61 [VS (mk [108]),.sl [[VS ((r11.cs.getD 0 .any).toStr),(r11.cs.getD 1 .any)]]] [] fun r12 o12=>NA r12<|.done 0 [.agg [VS ((r12.cs.getD 0 .any).toStr),(r12.cs.getD 1 .any)]] [.cells [((o11.hO).cs.getD 0 .any),VI (((o11.hO).cs.getD 1 .any).toInt)]]) (NG a1_1 2 2<|NE (a1_1.ix (2:Int))<|.call 95 [.ref 0 0,.agg [VS (((a1_1.ix (2:Int)).getD 0 .any).toStr),((a1_1.ix (2:Int)).getD 1 .any)],VI (IntKind.wrap .i64 (a2-1))] [.cells [((o2.hO).cs.getD 0 .any),VI (((o2.hO).cs.getD 1 .any).toInt)]] fun r13 o13=>.ai ((o13.hO)=.cells (o13.hO).cs)<|.ai (aH [.lk .sl,.lk (.int .i64)] ((o13.hO).cs) 0 1 o13.tail)<|NA r13<|.call 61 [VS (mk [114]),.sl [[VS ((r13.cs.getD 0 .any).toStr),(r13.cs.getD 1 .any)]]] [] fun r14 o14=>NA r14<|.done 0 [.agg [VS ((r14.cs.getD 0 .any).toStr),(r14.cs.getD 1 .any)]] [.cells [((o13.hO).cs.getD 0 .any),VI (((o13.hO).cs.getD 1 .any).toInt)]])) (NG a1_1 2 2<|NE (a1_1.ix (2:Int))<|.call 133 [.agg [VS (((a1_1.ix (2:Int)).getD 0 .any).toStr),((a1_1.ix (2:Int)).getD 1 .any)],.sl []] [] fun r15 o15=>NB r15<|.test r15.toBool (.test ((0:Int)==(0:Int)) (NG a1_1 1 2<|NE (a1_1.ix (1:Int))<|.call 95 [.ref 0 0,.agg [VS (((a1_1.ix (1:Int)).getD 0 .any).toStr),((a1_1.ix (1:Int)).getD 1 .any)],VI (IntKind.wrap .i64 (a2-1))] [.cells [((o2.hO).cs.getD 0 .any),VI (((o2.hO).cs.getD 1 .any).toInt)]] fun r16 o16=>.ai ((o16.hO)=.cells (o16.hO).cs)<|.ai (aH [.lk .sl,.lk (.int .i64)] ((o16.hO).cs) 0 1 o16.tail)<|NA r16<|.call 61 [VS (mk [108]),.sl [[VS ((r16.cs.getD 0 .any).toStr),(r16.cs.getD 1 .any)]]] [] fun r17 o17=>NA r17<|.done 0 [.agg [VS ((r17.cs.getD 0 .any).toStr),(r17.cs.getD 1 .any)]] [.cells [((o16.hO).cs.getD 0 .any),VI (((o16.hO).cs.getD 1 .any).toInt)]]) (NG a1_1 2 2<|NE (a1_1.ix (2:Int))<|.call 95 [.ref 0 0,.agg [VS (((a1_1.ix (2:Int)).getD 0 .any).toStr),((a1_1.ix (2:Int)).getD 1 .any)],VI (IntKind.wrap .i64 (a2-1))] [.cells [((o2.hO).cs.getD 0 .any),VI (((o2.hO).cs.getD 1 .any).toInt)]] fun r18 o18=>.ai ((o18.hO)=.cells (o18.hO).cs)<|.ai (aH [.lk .sl,.lk (.int .i64)] ((o18.hO).cs) 0 1 o18.tail)<|NA r18<|.call 61 [VS (mk [114]),.sl [[VS ((r18.cs.getD 0 .any).toStr),(r18.cs.getD 1 .any)]]] [] fun r19 o19=>NA r19<|.done 0 [.agg [VS ((r19.cs.getD 0 .any).toStr),(r19.cs.getD 1 .any)]] [.cells [((o18.hO).cs.getD 0 .any),VI (((o18.hO).cs.getD 1 .any).toInt)]])) (.test (decide (a2<=(0:Int))) (.test ((0:Int)==(0:Int)) (NG a1_1 1 2<|NE (a1_1.ix (1:Int))<|.call 95 [.ref 0 0,.agg [VS (((a1_1.ix (1:Int)).getD 0 .any).toStr),((a1_1.ix (1:Int)).getD 1 .any)],VI (IntKind.wrap .i64 (a2-1))] [.cells [((o2.hO).cs.getD 0 .any),VI (((o2.hO).cs.getD 1 .any).toInt)]] fun r20 o20=>.ai ((o20.hO)=.cells (o20.hO).cs)<|.ai (aH [.lk .sl,.lk (.int .i64)] ((o20.hO).cs) 0 1 o20.tail)<|NA r20<|.call 61 [VS (mk [108]),.sl [[VS ((r20.cs.getD 0 .any).toStr),(r20.cs.getD 1 .any)]]] [] fun r21 o21=>NA r21<|.done 0 [.agg [VS ((r21.cs.getD 0 .any).toStr),(r21.cs.getD 1 .any)]] [.cells [((o20.hO).cs.getD 0 .any),VI (((o20.hO).cs.getD 1 .any).toInt)]]) (NG a1_1 2 2<|NE (a1_1.ix (2:Int))<|.call 95 [.ref 0 0,.agg [VS (((a1_1.ix (2:Int)).getD 0 .any).toStr),((a1_1.ix (2:Int)).getD 1 .any)],VI (IntKind.wrap .i64 (a2-1))] [.cells [((o2.hO).cs.getD 0 .any),VI (((o2.hO).cs.getD 1 .any).toInt)]] fun r22 o22=>.ai ((o22.hO)=.cells (o22.hO).cs)<|.ai (aH [.lk .sl,.lk (.int .i64)] ((o22.hO).cs) 0 1 o22.tail)<|NA r22<|.call 61 [VS (mk [114]),.sl [[VS ((r22.cs.getD 0 .any).toStr),(r22.cs.getD 1 .any)]]] [] fun r23 o23=>NA r23<|.done 0 [.agg [VS ((r23.cs.getD 0 .any).toStr),(r23.cs.getD 1 .any)]] [.cells [((o22.hO).cs.getD 0 .any),VI (((o22.hO).cs.getD 1 .any).toInt)]])) (.test (r2.toInt==(0:Int)) (NG a1_1 1 2<|NE (a1_1.ix (1:Int))<|.call 95 [.ref 0 0,.agg [VS (((a1_1.ix (1:Int)).getD 0 .any).toStr),((a1_1.ix (1:Int)).getD 1 .any)],VI (IntKind.wrap .i64 (a2-1))] [.cells [((o2.hO).cs.getD 0 .any),VI (((o2.hO).cs.getD 1 .any).toInt)]] fun r24 o24=>.ai ((o24.hO)=.cells (o24.hO).cs)<|.ai (aH [.lk .sl,.lk (.int .i64)] ((o24.hO).cs) 0 1 o24.tail)<|NA r24<|.call 61 [VS (mk [108]),.sl [[VS ((r24.cs.getD 0 .any).toStr),(r24.cs.getD 1 .any)]]] [] fun r25 o25=>NA r25<|.done 0 [.agg [VS ((r25.cs.getD 0 .any).toStr),(r25.cs.getD 1 .any)]] [.cells [((o24.hO).cs.getD 0 .any),VI (((o24.hO).cs.getD 1 .any).toInt)]]) (NG a1_1 2 2<|NE (a1_1.ix (2:Int))<|.call 95 [.ref 0 0,.agg [VS (((a1_1.ix (2:Int)).getD 0 .any).toStr),((a1_1.ix (2:Int)).getD 1 .any)],VI (IntKind.wrap .i64 (a2-1))] [.cells [((o2.hO).cs.getD 0 .any),VI (((o2.hO).cs.getD 1 .any).toInt)]] fun r26 o26=>.ai ((o26.hO)=.cells (o26.hO).cs)<|.ai (aH [.lk .sl,.lk (.int .i64)] ((o26.hO).cs) 0 1 o26.tail)<|NA r26<|.call 61 [VS (mk [114]),.sl [[VS ((r26.cs.getD 0 .any).toStr),(r26.cs.getD 1 .any)]]] [] fun r27 o27=>NA r27<|.done 0 [.agg [VS ((r27.cs.getD 0 .any).toStr),(r27.cs.getD 1 .any)]] [.cells [((o26.hO).cs.getD 0 .any),VI (((o26.hO).cs.getD 1 .any).toInt)]]))))) (NG a1_1 2 2<|NE (a1_1.ix (2:Int))<|.call 133 [.agg [VS (((a1_1.ix (2:Int)).getD 0 .any).toStr),((a1_1.ix (2:Int)).getD 1 .any)],.sl []] [] fun r28 o28=>NB r28<|.test r28.toBool (.test ((0:Int)==(0:Int)) (NG a1_1 1 2<|NE (a1_1.ix (1:Int))<|.call 95 [.ref 0 0,.agg [VS (((a1_1.ix (1:Int)).getD 0 .any).toStr),((a1_1.ix (1:Int)).getD 1 .any)],VI (IntKind.wrap .i64 (a2-1))] [.cells [((o2.hO).cs.getD 0 .any),VI (((o2.hO).cs.getD 1 .any).toInt)]] fun r29 o29=>.ai ((o29.hO)=.cells (o29.hO).cs)<|.ai (aH [.lk .sl,.lk (.int .i64)] ((o29.hO).cs) 0 1 o29.tail)<|NA r29<|.call 61 [VS (mk [108]),.sl [[VS ((r29.cs.getD 0 .any).toStr),(r29.cs.getD 1 .any)]]] [] fun r30 o30=>NA r30<|.done 0 [.agg [VS ((r30.cs.getD 0 .any).toStr),(r30.cs.getD 1 .any)]] [.cells [((o29.hO).cs.getD 0 .any),VI (((o29.hO).cs.getD 1 .any).toInt)]]) (NG a1_1 2 2<|NE (a1_1.ix (2:Int))<|.call 95 [.ref 0 0,.agg [VS (((a1_1.ix (2:Int)).getD 0 .any).toStr),((a1_1.ix (2:Int)).getD 1 .any)],VI (IntKind.wrap .i64 (a2-1))] [.cells [((o2.hO).cs.getD 0 .any),VI (((o2.hO).cs.getD 1 .any).toInt)]] fun r31 o31=>.ai ((o31.hO)=.cells (o31.hO).cs)<|.ai (aH [.lk .sl,.lk (.int .i64)] ((o31.hO).cs) 0 1 o31.tail)<|NA r31<|.call 61 [VS (mk [114]),.sl [[VS ((r31.cs.getD 0 .any).toStr),(r31.cs.getD 1 .any)]]] [] fun r32 o32=>NA r32<|.done 0 [.agg [VS ((r32.cs.getD 0 .any).toStr),(r32.cs.getD 1 .any)]] [.cells [((o31.hO).cs.getD 0 .any),VI (((o31.hO).cs.getD 1 .any).toInt)]])) (.test (decide (a2<=(0:Int))) (.test ((0:Int)==(0:Int)) (NG a1_1 1 2<|NE (a1_1.ix (1:Int))<|.call 95 [.ref 0 0,.agg [VS (((a1_1.ix (1:Int)).getD 0 .any).toStr),((a1_1.ix (1:Int)).getD 1 .any)],VI (IntKind.wrap .i64 (a2-1))] [.cells [((o2.hO).cs.getD 0 .any),VI (((o2.hO).cs.getD 1 .any).toInt)]] fun r33 o33=>.ai ((o33.hO)=.cells (o33.hO).cs)<|.ai (aH [.lk .sl,.lk (.int .i64)] ((o33.hO).cs) 0 1 o33.tail)<|NA r33<|.call 61 [VS (mk [108]),.sl [[VS ((r33.cs.getD 0 .any).toStr),(r33.cs.getD 1 .any)]]] [] fun r34 o34=>NA r34<|.done 0 [.agg [VS ((r34.cs.getD 0 .any).toStr),(r34.cs.getD 1 .any)]] [.cells [((o33.hO).cs.getD 0 .any),VI (((o33.hO).cs.getD 1 .any).toInt)]]) (NG a1_1 2 2<|NE (a1_1.ix (2:Int))<|.call 95 [.ref 0 0,.agg [VS (((a1_1.ix (2:Int)).getD 0 .any).toStr),((a1_1.ix (2:Int)).getD 1 .any)],VI (IntKind.wrap .i64 (a2-1))] [.cells [((o2.hO).cs.getD 0 .any),VI (((o2.hO).cs.getD 1 .any).toInt)]] fun r35 o35=>.ai ((o35.hO)=.cells (o35.hO).cs)<|.ai (aH [.lk .sl,.lk (.int .i64)] ((o35.hO).cs) 0 1 o35.tail)<|NA r35<|.call 61 [VS (mk [114]),.sl [[VS ((r35.cs.getD 0 .any).toStr),(r35.cs.getD 1 .any)]]] [] fun r36 o36=>NA r36<|.done 0 [.agg [VS ((r36.cs.getD 0 .any).toStr),(r36.cs.getD 1 .any)]] [.cells [((o35.hO).cs.getD 0 .any),VI (((o35.hO).cs.getD 1 .any).toInt)]])) (.test (r2.toInt==(0:Int)) (NG a1_1 1 2<|NE (a1_1.ix (1:Int))<|.call 95 [.ref 0 0,.agg [VS (((a1_1.ix (1:Int)).getD 0 .any).toStr),((a1_1.ix (1:Int)).getD 1 .any)],VI (IntKind.wrap .i64 (a2-1))] [.cells [((o2.hO).cs.getD 0 .any),VI (((o2.hO).cs.getD 1 .any).toInt)]] fun r37 o37=>.ai ((o37.hO)=.cells (o37.hO).cs)<|.ai (aH [.lk .sl,.lk (.int .i64)] ((o37.hO).cs) 0 1 o37.tail)<|NA r37<|.call 61 [VS (mk [108]),.sl [[VS ((r37.cs.getD 0 .any).toStr),(r37.cs.getD 1 .any)]]] [] fun r38 o38=>NA r38<|.done 0 [.agg [VS ((r38.cs.getD 0 .any).toStr),(r38.cs.getD 1 .any)]] [.cells [((o37.hO).cs.getD 0 .any),VI (((o37.hO).cs.getD 1 .any).toInt)]]) (NG a1_1 2 2<|NE (a1_1.ix (2:Int))<|.call 95 [.ref 0 0,.agg [VS (((a1_1.ix (2:Int)).getD 0 .any).toStr),((a1_1.ix (2:Int)).getD 1 .any)],VI (IntKind.wrap .i64 (a2-1))] [.cells [((o2.hO).cs.getD 0 .any),VI (((o2.hO).cs.getD 1 .any).toInt)]] fun r39 o39=>.ai ((o39.hO)=.cells (o39.hO).cs)<|.ai (aH [.lk .sl,.lk (.int .i64)] ((o39.hO).cs) 0 1 o39.tail)<|NA r39<|.call 61 [VS (mk [114]),.sl [[VS ((r39.cs.getD 0 .any).toStr),(r39.cs.getD 1 .any)]]] [] fun r40 o40=>NA r40<|.done 0 [.agg [VS ((r40.cs.getD 0 .any).toStr),(r40.cs.getD 1 .any)]] [.cells [((o39.hO).cs.getD 0 .any),VI (((o39.hO).cs.getD 1 .any).toInt)]]))))) (NG a1_1 2 2<|NE (a1_1.ix (2:Int))<|.call 133 [.agg [VS (((a1_1.ix (2:Int)).getD 0 .any).toStr),((a1_1.ix (2:Int)).getD 1 .any)],.sl []] [] fun r41 o41=>NB r41<|.test r41.toBool (.test ((0:Int)==(0:Int)) (NG a1_1 1 2<|NE (a1_1.ix (1:Int))<|.call 95 [.ref 0 0,.agg [VS (((a1_1.ix (1:Int)).getD 0 .any).toStr),((a1_1.ix (1:Int)).getD 1 .any)],VI (IntKind.wrap .i64 (a2-1))] [.cells [((o2.hO).cs.getD 0 .any),VI (((o2.hO).cs.getD 1 .any).toInt)]] fun r42 o42=>.ai ((o42.hO)=.cells (o42.hO).cs)<|.ai (aH [.lk .sl,.lk (.int .i64)] ((o42.hO).cs) 0 1 o42.tail)<|NA r42<|.call 61 [VS (mk [108]),.sl [[VS ((r42.cs.getD 0 .any).toStr),(r42.cs.getD 1 .any)]]] [] fun r43 o43=>NA r43<|.done 0 [.agg [VS ((r43.cs.getD 0 .any).toStr),(r43.cs.getD 1 .any)]] [.cells [((o42.hO).cs.getD 0 .any),VI (((o42.hO).cs.getD 1 .any).toInt)]]) (NG a1_1 2 2<|NE (a1_1.ix (2:Int))<|.call 95 [.ref 0 0,.agg [VS (((a1_1.ix (2:Int)).getD 0 .any).toStr),((a1_1.ix (2:Int)).getD 1 .any)],VI (IntKind.wrap .i64 (a2-1))] [.cells [((o2.hO).cs.getD 0 .any),VI (((o2.hO).cs.getD 1 .any).toInt)]] fun r44 o44=>.ai ((o44.hO)=.cells (o44.hO).cs)<|.ai (aH [.lk .sl,.lk (.int .i64)] ((o44.hO).cs) 0 1 o44.tail)<|NA r44<|.call 61 [VS (mk [114]),.sl [[VS ((r44.cs.getD 0 .any).toStr),(r44.cs.getD 1 .any)]]] [] fun r45 o45=>NA r45<|.done 0 [.agg [VS ((r45.cs.getD 0 .any).toStr),(r45.cs.getD 1 .any)]] [.cells [((o44.hO).cs.getD 0 .any),VI (((o44.hO).cs.getD 1 .any).toInt)]])) (.test (decide (a2<=(0:Int))) (.test ((0:Int)==(0:Int)) (NG a1_1 1 2<|NE (a1_1.ix (1:Int))<|.call 95 [.ref 0 0,.agg [VS (((a1_1.ix (1:Int)).getD 0 .any).toStr),((a1_1.ix (1:Int)).getD 1 .any)],VI (IntKind.wrap .i64 (a2-1))] [.cells [((o2.hO).cs.getD 0 .any),VI (((o2.hO).cs.getD 1 .any).toInt)]] fun r46 o46=>.ai ((o46.hO)=.cells (o46.hO).cs)<|.ai (aH [.lk .sl,.lk (.int .i64)] ((o46.hO).cs) 0 1 o46.tail)<|NA r46<|.call 61 [VS (mk [108]),.sl [[VS ((r46.cs.getD 0 .any).toStr),(r46.cs.getD 1 .any)]]] [] fun r47 o47=>NA r47<|.done 0 [.agg [VS ((r47.cs.getD 0 .any).toStr),(r47.cs.getD 1 .any)]] [.cells [((o46.hO).cs.getD 0 .any),VI (((o46.hO).cs.getD 1 .any).toInt)]]) (NG a1_1 2 2<|NE (a1_1.ix (2:Int))<|.call 95 [.ref 0 0,.agg [VS (((a1_1.ix (2:Int)).getD 0 .any).toStr),((a1_1.ix (2:Int)).getD 1 .any)],VI (IntKind.wrap .i64 (a2-1))] [.cells [((o2.hO).cs.getD 0 .any),VI (((o2.hO).cs.getD 1 .any).toInt)]] fun r48 o48=>.ai ((o48.hO)=.cells (o48.hO).cs)<|.ai (aH [.lk .sl,.lk (.int .i64)] ((o48.hO).cs) 0 1 o48.tail)<|NA r48<|.call 61 [VS (mk [114]),.sl [[VS ((r48.cs.getD 0 .any).toStr),(r48.cs.getD 1 .any)]]] [] fun r49 o49=>NA r49<|.done 0 [.agg [VS ((r49.cs.getD 0 .any).toStr),(r49.cs.getD 1 .any)]] [.cells [((o48.hO).cs.getD 0 .any),VI (((o48.hO).cs.getD 1 .any).toInt)]])) (.test (r2.toInt==(0:Int)) (NG a1_1 1 2<|NE (a1_1.ix (1:Int))<|.call 95 [.ref 0 0,.agg [VS (((a1_1.ix (1:Int)).getD 0 .any).toStr),((a1_1.ix (1:Int)).getD 1 .any)],VI (IntKind.wrap .i64 (a2-1))] [.cells [((o2.hO).cs.getD 0 .any),VI (((o2.hO).cs.getD 1 .any).toInt)]] fun r50 o50=>.ai ((o50.hO)=.cells (o50.hO).cs)<|.ai (aH [.lk .sl,.lk (.int .i64)] ((o50.hO).cs) 0 1 o50.tail)<|NA r50<|.call 61 [VS (mk [108]),.sl [[VS ((r50.cs.getD 0 .any).toStr),(r50.cs.getD 1 .any)]]] [] fun r51 o51=>NA r51<|.done 0 [.agg [VS ((r51.cs.getD 0 .any).toStr),(r51.cs.getD 1 .any)]] [.cells [((o50.hO).cs.getD 0 .any),VI (((o50.hO).cs.getD 1 .any).toInt)]]) (NG a1_1 2 2<|NE (a1_1.ix (2:Int))<|.call 95 [.ref 0 0,.agg [VS (((a1_1.ix (2:Int)).getD 0 .any).toStr),((a1_1.ix (2:Int)).getD 1 .any)],VI (IntKind.wrap .i64 (a2-1))] [.cells [((o2.hO).cs.getD 0 .any),VI (((o2.hO).cs.getD 1 .any).toInt)]] fun r52 o52=>.ai ((o52.hO)=.cells (o52.hO).cs)<|.ai (aH [.lk .sl,.lk (.int .i64)] ((o52.hO).cs) 0 1 o52.tail)<|NA r52<|.call 61 [VS (mk [114]),.sl [[VS ((r52.cs.getD 0 .any).toStr),(r52.cs.getD 1 .any)]]] [] fun r53 o53=>NA r53<|.done 0 [.agg [VS ((r53.cs.getD 0 .any).toStr),(r53.cs.getD 1 .any)]] [.cells [((o52.hO).cs.getD 0 .any),VI (((o52.hO).cs.getD 1 .any).toInt)]])))))) (.test (ae r1.toStr==ae (mk [42])) (NG a1_1 1 2<|NE (a1_1.ix (1:Int))<|.call 95 [.ref 0 0,.agg [VS (((a1_1.ix (1:Int)).getD 0 .any).toStr),((a1_1.ix (1:Int)).getD 1 .any)],VI (IntKind.wrap .i64 (a2-1))] [.cells [a0_0,VI a0_1]] fun r54 o54=>.ai ((o54.hO)=.cells (o54.hO).cs)<|.ai (aH [.lk .sl,.lk (.int .i64)] ((o54.hO).cs) 0 1 o54.tail)<|NA r54<|NG a1_1 2 2<|NE (a1_1.ix (2:Int))<|.call 95 [.ref 0 0,.agg [VS (((a1_1.ix (2:Int)).getD 0 .any).toStr),((a1_1.ix (2:Int)).getD 1 .any)],VI (IntKind.wrap .i64 (a2-1))] [.cells [((o54.hO).cs.getD 0 .any),VI (((o54.hO).cs.getD 1 .any).toInt)]] fun r55 o55=>.ai ((o55.hO)=.cells (o55.hO).cs)<|.ai (aH [.lk .sl,.lk (.int .i64)] ((o55.hO).cs) 0 1 o55.tail)<|NA r55<|.call 61 [VS (mk [112]),.sl [[VS ((r54.cs.getD 0 .any).toStr),(r54.cs.getD 1 .any)],[VS ((r55.cs.getD 0 .any).toStr),(r55.cs.getD 1 .any)]]] [] fun r56 o56=>NA r56<|.done 0 [.agg [VS ((r56.cs.getD 0 .any).toStr),(r56.cs.getD 1 .any)]] [.cells [((o55.hO).cs.getD 0 .any),VI (((o55.hO).cs.getD 1 .any).toInt)]]) (.test (ae r1.toStr==ae (mk [114,101,99])) (.call 135 [.agg [VS a1_0,a1_1]] [] fun r57 o57=>NT r57<|.ai ((r57.comp 0)=.agg (r57.comp 0).cs/\(r57.comp 0).cs.length=2/\bE [.str,.sl] ((r57.comp 0).cs) 0)<|NB (r57.comp 1)<|.test (!((r57.comp 1).toBool)) (.done 0 [.agg [VS (mk [117]),.v (.slice none 0 0)]] [.cells [a0_0,VI a0_1]]) (.test (decide (a2<((-12):Int))) (.done 0 [.agg [VS (mk [117]),.v (.slice none 0 0)]] [.cells [a0_0,VI a0_1]]) (.call 95 [.ref 0 0,.agg [VS (((r57.comp 0).cs.getD 0 .any).toStr),((r57.comp 0).cs.getD 1 .any)],VI (IntKind.wrap .i64 (a2-1))] [.cells [a0_0,VI a0_1]] fun r58 o58=>.ai ((o58.hO)=.cells (o58.hO).cs)<|.ai (aH [.lk .sl,.lk (.int .i64)] ((o58.hO).cs) 0 1 o58.tail)<|NA r58<|.call 61 [VS (mk [102]),.sl [[VS ((r58.cs.getD 0 .any).toStr),(r58.cs.getD 1 .any)]]] [] fun r59 o59=>NA r59<|.done 0 [.agg [VS ((r59.cs.getD 0 .any).toStr),(r59.cs.getD 1 .any)]] [.cells [((o58.hO).cs.getD 0 .any),VI (((o58.hO).cs.getD 1 .any).toInt)]]))) (.test (ae a1_0==ae (mk [49])) (.done 0 [.agg [VS (mk [117]),.v (.slice none 0 0)]] [.cells [a0_0,VI a0_1]]) (.call 45 [.ref 0 0,VI 3] [.cells [a0_0,VI a0_1]] fun r60 o60=>.ai ((o60.hO)=.cells (o60.hO).cs)<|.ai (aH [.lk .sl,.lk (.int .i64)] ((o60.hO).cs) 0 1 o60.tail)<|NI r60<|.call 136 [VI r60.toInt] [] fun r61 o61=>NS r61<|.ai (ah (mk [101])+ah r61.toStr<=9223372036854775807)<|.done 0 [.agg [VS (((mk [101]):ByteArray)++r61.toStr),.v (.slice none 0 0)]] [.cells [((o60.hO).cs.getD 0 .any),VI (((o60.hO).cs.getD 1 .any).toInt)]]))))
theorem FB(a0_0:AV)(a0_1:Int)(a1_0:ByteArray)(a1_1:AV)(a2:Int)(ha1_1:LK.has .sl a1_1)(ha0_0:LK.has .sl a0_0)(h:dm 132 (DW a0_0 a0_1 a1_0 a1_1 a2) R):aq Tryz.prog 95 [.ref 0 0,.agg [VS a1_0,a1_1],VI a2] [.cells [a0_0,VI a0_1]] R :=
 aq.om (bH (cr (ag (bM ha0_0) (ag (az _) aB))) cE) (aq.up (ag (az _) (ag (bW (ag (az _) (ag (bM ha1_1) aB))) (ag (az _) aB))) (oF [] {mu:=[(0,.one (.obj [.lk .sl,.lk (.int .i64)]))],own:=[]} Tryz.f95 h))
def JM:LI:={hd:={bR:=[(1,.k .sl),(6,.k (.int .i64))],refs:=[(2,2),(4,4)],ct:=[(2,[.lk .str,.lk .sl]),(4,[.lk .str,.lk .sl])],eM:=[(5,1)]},xs:={refs:=[(2,2),(4,4)],ct:=[(2,[.lk .str,.lk .sl]),(4,[.lk .str,.lk .sl])],eM:=[(5,1)]},rt:={},ex:=0}
def MA:Code:=cK (cD Tryz.f96) 3
def Oj:List (Nat×LI):=[(3,JM)]
def NR(a0_0:ByteArray)(a0_1:AV)(a1:AV):Tree :=
 .call 98 [.agg [VS a0_0,a0_1],.sl [],.vec 0] [.vec 1 []] fun r1 o1=>.ai (r1=.vec 1/\(o1.tail.hO)=.vec 1 (o1.tail.hO).es)<|.loop MA JM [a1,VI 0] [.cells [VS a0_0,a0_1],.cells [VS (mk []),.v (.slice none 0 0)],.vec 1 ((o1.tail.hO).es)] (fun y3 q3=>.ai ((q3.hO)=.cells (q3.hO).cs)<|.ai (af [.lk .str,.lk .sl] ((q3.hO).cs) 0 q3.tail)<|.ai (((q3.tail.drop 0).hO)=.cells ((q3.tail.drop 0).hO).cs)<|.ai (af [.lk .str,.lk .sl] (((q3.tail.drop 0).hO).cs) 0 ((q3.tail.drop 0).tail))<|.ai (((q3.drop 2).hO)=.vec 1 ((q3.drop 2).hO).es)<|.call 137 [.agg [VS (((q3.hO).cs.getD 0 .any).toStr),((q3.hO).cs.getD 1 .any)],.sl [],.sl [],.ref 0 0] [.cells [.vec 1,VI 0],.vec 1 ((q3.tail.tail.hO).es)] fun r4 o4=>.ai ((o4.hO)=.cells (o4.hO).cs)<|.ai (aH [.vec 1,.lk (.int .i64)] ((o4.hO).cs) 0 1 o4.tail)<|NA r4<|.done 0 [.agg [VS ((r4.cs.getD 0 .any).toStr),(r4.cs.getD 1 .any)]] []) (fun y3 q3=>.fail)
theorem Tx(a0_0:ByteArray)(a0_1:AV)(a1:AV)(ha0_1:LK.has .sl a0_1)(ha1:LK.has .sl a1)(h:dm 33 (NR a0_0 a0_1 a1) R):aq Tryz.prog 96 [.agg [VS a0_0,a0_1],a1] [] R :=
 uQ (ag (bW (ag (az _) (ag (bM ha0_1) aB))) (ag (bM ha1) aB)) (oQ Oj Tryz.f96 h)
def HJ(x1:AV)(x6:Int)(o2_0:ByteArray)(o2_1:AV)(o4_0:ByteArray)(o4_1:AV)(e5:List (List AV)):Tree :=
 NL x1<|NI (VI x6)<|.ai (Ob.cells [VS o2_0,o2_1]=.cells [VS o2_0,o2_1])<|.ai (af [.lk .str,.lk .sl] [VS o2_0,o2_1] 0 [.cells [VS o4_0,o4_1],.vec 1 e5])<|.ai (Ob.cells [VS o4_0,o4_1]=.cells [VS o4_0,o4_1])<|.ai (af [.lk .str,.lk .sl] [VS o4_0,o4_1] 0 [.vec 1 e5])<|.ai (Ob.vec 1 e5=.vec 1 e5)<|NL x1<|.test (decide (x6<(x1.elems.length:Int))) (NG x1 x6 2<|NE (x1.ix x6)<|.call 98 [.agg [VS (((x1.ix x6).getD 0 .any).toStr),((x1.ix x6).getD 1 .any)],.sl [],.vec 0] [.vec 1 []] fun r1 o1=>.ai (r1=.vec 1/\(o1.tail.hO)=.vec 1 (o1.tail.hO).es)<|.ai (cq 1 ((o1.tail.hO).es)/\((e5.length)+((o1.tail.hO).es).length)*16<=140737488355328)<|.done 0 [x1,VI (IntKind.wrap .i64 (x6+1))] [.cells [VS o2_0,o2_1],.cells [VS o4_0,o4_1],.vec 1 (e5++((o1.tail.hO).es))]) (.done 1 [] [.cells [VS o2_0,o2_1],.cells [VS o4_0,o4_1],.vec 1 e5])
abbrev Ho:=cC Tryz.prog 33 MA JM
theorem OF(x1:AV)(x6:Int)(o2_0:ByteArray)(o2_1:AV)(o4_0:ByteArray)(o4_1:AV)(e5:List (List AV))(h:kF 33 (HJ x1 x6 o2_0 o2_1 o4_0 o4_1 e5) Ho U):Ho [x1,VI x6] [.cells [VS o2_0,o2_1],.cells [VS o4_0,o4_1],.vec 1 e5] U :=
 gQ Oj h
def Mi(a0:ByteArray):Tree :=
 .call 57 [VS a0] [] fun r1 o1=>NT r1<|.ai ((r1.comp 0)=.agg (r1.comp 0).cs/\(r1.comp 0).cs.length=2/\bE [.str,.sl] ((r1.comp 0).cs) 0)<|NB (r1.comp 1)<|.test ((r1.comp 1).toBool) (.call 138 [.agg [VS (((r1.comp 0).cs.getD 0 .any).toStr),((r1.comp 0).cs.getD 1 .any)]] [] fun r2 o2=>NB r2<|.test r2.toBool (.call 134 [.agg [VS (((r1.comp 0).cs.getD 0 .any).toStr),((r1.comp 0).cs.getD 1 .any)]] [] fun r3 o3=>NI r3<|.done 0 [.cv [.agg [VS (((r1.comp 0).cs.getD 0 .any).toStr),((r1.comp 0).cs.getD 1 .any)],VB (decide (r3.toInt<=(400:Int)))]] []) (.done 0 [.cv [.agg [VS (((r1.comp 0).cs.getD 0 .any).toStr),((r1.comp 0).cs.getD 1 .any)],VB false]] [])) (.done 0 [.cv [.agg [VS (((r1.comp 0).cs.getD 0 .any).toStr),((r1.comp 0).cs.getD 1 .any)],VB false]] [])
theorem Rd(a0:ByteArray)(h:dm 22 (Mi a0) R):aq Tryz.prog 97 [VS a0] [] R :=
 uQ (ag (az _) aB) (oQ [] Tryz.f97 h)
def xQ(a0_0:ByteArray)(a0_1:AV)(a1:AV)(e2:List (List AV)):Tree :=
 .test (!(ae a0_0==ae (mk []))) (.test (ae a0_0==ae (mk [48])) (.done 0 [.vec 1] [.dead,.vec 1 e2]) (.test (ae a0_0==ae (mk [49])) (.done 0 [.vec 1] [.dead,.vec 1 e2]) (.call 139 [a1,VS a0_0] [] fun r1 o1=>NB r1<|.test r1.toBool (.done 0 [.vec 1] [.dead,.vec 1 e2]) (.call 139 [.sl e2,VS a0_0] [] fun r2 o2=>NB r2<|.test r2.toBool (.done 0 [.vec 1] [.dead,.vec 1 e2]) (.ai (cq 1 [[VS a0_0]]/\((e2.length)+([[VS a0_0]]:List (List AV)).length)*16<=140737488355328)<|.done 0 [.vec 1] [.dead,.vec 1 (e2++([[VS a0_0]]:List (List AV)))]))))) (.call 54 [.agg [VS a0_0,a0_1]] [] fun r3 o3=>NS r3<|.test (ae r3.toStr==ae (mk [114,101,99])) (NG a0_1 2 2<|NE (a0_1.ix (2:Int))<|NG a0_1 1 2<|lF (a0_1.ix (1:Int))<|.call 129 [a1,VS (((a0_1.ix (1:Int)).hA).toStr)] [] fun r4 o4=>.ai (r4=.vec 0/\(o4.hO)=.vec 1 (o4.hO).es)<|.ai (∀x,x∈o4->dP x)<|.call 98 [.agg [VS (((a0_1.ix (2:Int)).getD 0 .any).toStr),((a0_1.ix (2:Int)).getD 1 .any)],.sl ((o4.hO).es),.vec 0] [.vec 1 e2] fun r5 o5=>.ai (r5=.vec 1/\(o5.tail.hO)=.vec 1 (o5.tail.hO).es)<|.done 0 [.vec 1] [.dead,.vec 1 ((o5.tail.hO).es)]) (NG a0_1 2 2<|NE (a0_1.ix (2:Int))<|NG a0_1 1 2<|NE (a0_1.ix (1:Int))<|.call 98 [.agg [VS (((a0_1.ix (1:Int)).getD 0 .any).toStr),((a0_1.ix (1:Int)).getD 1 .any)],a1,.vec 0] [.vec 1 e2] fun r6 o6=>.ai (r6=.vec 1/\(o6.tail.hO)=.vec 1 (o6.tail.hO).es)<|.call 98 [.agg [VS (((a0_1.ix (2:Int)).getD 0 .any).toStr),((a0_1.ix (2:Int)).getD 1 .any)],a1,.vec 0] [.vec 1 ((o6.tail.hO).es)] fun r7 o7=>.ai (r7=.vec 1/\(o7.tail.hO)=.vec 1 (o7.tail.hO).es)<|.done 0 [.vec 1] [.dead,.vec 1 ((o7.tail.hO).es)]))
theorem Bm(a0_0:ByteArray)(a0_1:AV)(a1:AV)(e2:List (List AV))(ha0_1:LK.has .sl a0_1)(ha1:LK.has .sl a1)(h:dm 65 (xQ a0_0 a0_1 a1 e2) R):aq Tryz.prog 98 [.agg [VS a0_0,a0_1],a1,.vec 0] [.vec 1 e2] R :=
 aq.om (bH (fN _) cE) (aq.up (ag (bW (ag (az _) (ag (bM ha0_1) aB))) (ag (bM ha1) (ag (az _) aB))) (oF [] {mu:=[(2,.one (.vec))],own:=[0]} Tryz.f98 h))
def KM(a0:ByteArray):Tree :=
 .call 140 [VS a0,.v (.int .u8 116),.v (.int .u8 116)] [] fun r1 o1=>NB r1<|.done 0 [VB r1.toBool] []
theorem S1(a0:ByteArray)(h:dm 5 (KM a0) R):aq Tryz.prog 99 [VS a0] [] R :=
 uQ (ag (az _) aB) (oQ [] Tryz.f99 h)
def G8:LI:={hd:={bR:=[(1,.k .sl),(6,.k (.int .i64))],refs:=[(2,2),(4,4)],ct:=[(2,[.lk .str,.lk .sl]),(4,[.lk .str,.lk .sl])]},xs:={bR:=[(1,.k .sl)],refs:=[(2,2),(4,4)],ct:=[(2,[.lk .str,.lk .sl]),(4,[.lk .str,.lk .sl])]},rt:={bR:=[(5,.k .sl)],refs:=[(4,4)],ct:=[(4,[.lk .str,.lk .sl])]},ex:=0}
def PF:Code:=cK (cD Tryz.f100) 2
def OI:List (Nat×LI):=[(2,G8)]
def Lj(a0_0:ByteArray)(a0_1:AV)(a1:AV):Tree :=
 NL a1<|.loop PF G8 [a1,VI (IntKind.wrap .i64 ((a1.elems.length:Int)-1))] [.cells [VS a0_0,a0_1],.cells [VS (mk []),.v (.slice none 0 0)]] (fun y1 q1=>NL (y1.hA)<|.ai ((q1.hO)=.cells (q1.hO).cs)<|.ai (af [.lk .str,.lk .sl] ((q1.hO).cs) 0 q1.tail)<|.ai (((q1.tail.drop 0).hO)=.cells ((q1.tail.drop 0).hO).cs)<|.ai (af [.lk .str,.lk .sl] (((q1.tail.drop 0).hO).cs) 0 ((q1.tail.drop 0).tail))<|.done 0 [.cv [.agg [VS (((q1.hO).cs.getD 0 .any).toStr),((q1.hO).cs.getD 1 .any)],(y1.hA)]] []) (fun y1 q1=>NL (y1.hA)<|.ai ((q1.hO)=.cells (q1.hO).cs)<|.ai (af [.lk .str,.lk .sl] ((q1.hO).cs) 0 q1.tail)<|.done 0 [.cv [.agg [VS (((q1.hO).cs.getD 0 .any).toStr),((q1.hO).cs.getD 1 .any)],(y1.hA)]] [])
theorem UR(a0_0:ByteArray)(a0_1:AV)(a1:AV)(ha0_1:LK.has .sl a0_1)(ha1:LK.has .sl a1)(h:dm 34 (Lj a0_0 a0_1 a1) R):aq Tryz.prog 100 [.agg [VS a0_0,a0_1],a1] [] R :=
 uQ (ag (bW (ag (az _) (ag (bM ha0_1) aB))) (ag (bM ha1) aB)) (oQ OI Tryz.f100 h)
def Kg(x1:AV)(x6:Int)(o2_0:ByteArray)(o2_1:AV)(o4_0:ByteArray)(o4_1:AV):Tree :=
 NL x1<|NI (VI x6)<|.ai (Ob.cells [VS o2_0,o2_1]=.cells [VS o2_0,o2_1])<|.ai (af [.lk .str,.lk .sl] [VS o2_0,o2_1] 0 [.cells [VS o4_0,o4_1]])<|.ai (Ob.cells [VS o4_0,o4_1]=.cells [VS o4_0,o4_1])<|.ai (af [.lk .str,.lk .sl] [VS o4_0,o4_1] 0 [])<|.test (decide (x6≥(0:Int))) (NG x1 x6 4<|lF (x1.ix x6)<|.test (ae (((x1.ix x6).hA).toStr)==ae o2_0) (NG x1 x6 4<|NE ((x1.ix x6).drop 1)<|NG x1 x6 4<|oy ((x1.ix x6).drop 3)<|.done 2 [(((x1.ix x6).drop 3).hA)] [.cells [VS ((((x1.ix x6).drop 1).getD 0 .any).toStr),(((x1.ix x6).drop 1).getD 1 .any)]]) (.done 0 [x1,VI (IntKind.wrap .i64 (x6-1))] [.cells [VS o2_0,o2_1],.cells [VS o4_0,o4_1]])) (.done 1 [x1] [.cells [VS o2_0,o2_1],.cells [VS o4_0,o4_1]])
abbrev I3:=cC Tryz.prog 34 PF G8
theorem Nw(x1:AV)(x6:Int)(o2_0:ByteArray)(o2_1:AV)(o4_0:ByteArray)(o4_1:AV)(h:kF 34 (Kg x1 x6 o2_0 o2_1 o4_0 o4_1) I3 U):I3 [x1,VI x6] [.cells [VS o2_0,o2_1],.cells [VS o4_0,o4_1]] U :=
 gQ OI h
def KC(a0:ByteArray):Tree :=
 .call 140 [VS a0,.v (.int .u8 120),.v (.int .u8 122)] [] fun r1 o1=>NB r1<|.done 0 [VB r1.toBool] []
theorem Rs(a0:ByteArray)(h:dm 5 (KC a0) R):aq Tryz.prog 101 [VS a0] [] R :=
 uQ (ag (az _) aB) (oQ [] Tryz.f101 h)
def BV:LI:={hd:={bR:=[(0,.k .str),(3,.k (.int .i64)),(4,.k (.int .i64))]},xs:={bR:=[(3,.k (.int .i64))]},rt:={bR:=[(2,.k (.int .i64))]},ex:=0}
def FG:Code:=cK (cD Tryz.f102) 5
def Px:List (Nat×LI):=[(5,BV)]
def Lw(a0:ByteArray):Tree :=
 .call 55 [VI (ah a0:Int),VI 2,VI 3] [] fun r1 o1=>NB r1<|.test (!r1.toBool) (.done 0 [VI (-1)] []) (.ai (0<=(0:Int)/\(0:Int)<ah a0)<|.test ((bt a0 0) != (101:Int)) (.done 0 [VI (-1)] []) (.test ((ah a0:Int)==(3:Int)) (.ai (0<=(1:Int)/\(1:Int)<ah a0)<|.test ((bt a0 1)==(48:Int)) (.done 0 [VI (-1)] []) (.loop FG BV [VS a0,VI 0,VI 1] [] (fun y2 q2=>NI (y2.hA)<|.done 0 [VI ((y2.hA).toInt)] []) (fun y2 q2=>NI (y2.hA)<|.done 0 [VI ((y2.hA).toInt)] []))) (.loop FG BV [VS a0,VI 0,VI 1] [] (fun y3 q3=>NI (y3.hA)<|.done 0 [VI ((y3.hA).toInt)] []) (fun y3 q3=>NI (y3.hA)<|.done 0 [VI ((y3.hA).toInt)] []))))
theorem RG(a0:ByteArray)(h:dm 49 (Lw a0) R):aq Tryz.prog 102 [VS a0] [] R :=
 uQ (ag (az _) aB) (oQ Px Tryz.f102 h)
def JV(x0:ByteArray)(x3:Int)(x4:Int):Tree :=
 NS (VS x0)<|NI (VI x3)<|NI (VI x4)<|.test (decide (x4<(ah x0:Int))) (.ai (0<=x4/\x4<ah x0)<|.test (decide ((bt x0 x4)<(48:Int))) (.done 2 [VI (-1)] []) (.ai (0<=x4/\x4<ah x0)<|.test (decide ((bt x0 x4)>(57:Int))) (.done 2 [VI (-1)] []) (.ai (0<=x4/\x4<ah x0)<|.done 0 [VS x0,VI (IntKind.wrap .i64 ((IntKind.wrap .i64 (10*x3))+(IntKind.wrap .i64 (IntKind.wrap .u8 ((bt x0 x4)-48))))),VI (IntKind.wrap .i64 (x4+1))] []))) (.done 1 [VI x3] [])
abbrev II:=cC Tryz.prog 49 FG BV
theorem Kz(x0:ByteArray)(x3:Int)(x4:Int)(h:kF 49 (JV x0 x3 x4) II U):II [VS x0,VI x3,VI x4] [] U :=
 gQ Px h
def O0(a0_0:ByteArray)(a0_1:AV)(a1:AV):Tree :=
 NG a0_1 2 2<|NE (a0_1.ix (2:Int))<|.ai (LK.has .sl a1/\cq 4 a1.elems/\((([]:List (List AV)).length)+a1.elems.length)*80<=140737488355328)<|NG a0_1 1 2<|lF (a0_1.ix (1:Int))<|.ai (cq 4 [[VS (((a0_1.ix (1:Int)).hA).toStr),VS a0_0,a0_1,a1]]/\(((([]:List (List AV))++a1.elems).length)+([[VS (((a0_1.ix (1:Int)).hA).toStr),VS a0_0,a0_1,a1]]:List (List AV)).length)*80<=140737488355328)<|.done 0 [.cv [.agg [VS (((a0_1.ix (2:Int)).getD 0 .any).toStr),((a0_1.ix (2:Int)).getD 1 .any)],.sl ((([]:List (List AV))++a1.elems)++([[VS (((a0_1.ix (1:Int)).hA).toStr),VS a0_0,a0_1,a1]]:List (List AV)))]] []
theorem Ts(a0_0:ByteArray)(a0_1:AV)(a1:AV)(ha0_1:LK.has .sl a0_1)(ha1:LK.has .sl a1)(h:dm 23 (O0 a0_0 a0_1 a1) R):aq Tryz.prog 103 [.agg [VS a0_0,a0_1],a1] [] R :=
 uQ (ag (bW (ag (az _) (ag (bM ha0_1) aB))) (ag (bM ha1) aB)) (oQ [] Tryz.f103 h)
def Hz:LI:={hd:={bR:=[(0,.k .str),(1,.k (.int .i64)),(9,.k (.int .i64))],refs:=[(6,6),(8,8)],ct:=[(6,[.lk .str,.lk .sl]),(8,[.lk .str,.lk .sl])]},xs:={bR:=[(0,.k .str),(1,.k (.int .i64)),(9,.k (.int .i64))],refs:=[(6,6),(8,8)],ct:=[(6,[.lk .str,.lk .sl]),(8,[.lk .str,.lk .sl])]},rt:={},ex:=0}
def OU:Code:=cK (cD Tryz.f104) 6
def HV:LI:={hd:={bR:=[(0,.k .str),(1,.k (.int .i64)),(2,.k (.int .i64))],refs:=[(6,6),(8,8)],ct:=[(6,[.lk .str,.lk .sl]),(8,[.lk .str,.vec 2])]},xs:={},rt:={bR:=[(7,.k (.int .i64))],refs:=[(6,6)],ct:=[(6,[.lk .str,.vec 2])]},ex:=999}
def KB:Code:=cK (cD Tryz.f104) 12
def IZ:List (Nat×LI):=[(6,Hz),(12,HV)]
def IP(a0:ByteArray)(a1:Int)(a2:Int):Tree :=
 .test (decide (a2>(300:Int))) (.done 0 [.cv [.agg [VS (mk []),.v (.slice none 0 0)],VI (-1)]] []) (.test (decide (a1≥(ah a0:Int))) (.done 0 [.cv [.agg [VS (mk []),.v (.slice none 0 0)],VI (-1)]] []) (.ai (0<=a1/\a1<ah a0)<|.test ((bt a0 a1) != (40:Int)) (.loop OU Hz [VS a0,VI a1,VI a1] [.cells [VS (mk []),.v (.slice none 0 0)],.cells [VS (mk []),.v (.slice none 0 0)]] (fun y2 q2=>NS (y2.hA)<|NI (y2.tail.hA)<|NI (y2.tail.tail.hA)<|.ai ((q2.hO)=.cells (q2.hO).cs)<|.ai (af [.lk .str,.lk .sl] ((q2.hO).cs) 0 q2.tail)<|.ai (((q2.tail.drop 0).hO)=.cells ((q2.tail.drop 0).hO).cs)<|.ai (af [.lk .str,.lk .sl] (((q2.tail.drop 0).hO).cs) 0 ((q2.tail.drop 0).tail))<|.ai (0<=((y2.tail.tail.hA).toInt)/\((y2.tail.tail.hA).toInt)<=((y2.tail.hA).toInt)/\((y2.tail.hA).toInt)<=(ah ((y2.hA).toStr):Int))<|.test (ae (cx ((y2.hA).toStr) (bP ((y2.tail.tail.hA).toInt)) (bP ((y2.tail.hA).toInt)))==ae (mk [])) (.done 0 [.cv [.agg [VS (cx ((y2.hA).toStr) (bP ((y2.tail.tail.hA).toInt)) (bP ((y2.tail.hA).toInt))),((q2.tail.hO).cs.getD 1 .any)],VI (-1)]] []) (.done 0 [.cv [.agg [VS (cx ((y2.hA).toStr) (bP ((y2.tail.tail.hA).toInt)) (bP ((y2.tail.hA).toInt))),((q2.tail.hO).cs.getD 1 .any)],VI ((y2.tail.hA).toInt)]] [])) (fun y2 q2=>.fail)) (.loop KB HV [VS a0,VI a1,VI a2] [.cells [VS (mk []),.v (.slice none 0 0)],.cells [VS (mk []),.any],.vec 2 []] (fun y5 q5=>.fail) (fun y5 q5=>NI (y5.hA)<|.ai ((q5.hO)=.cells (q5.hO).cs)<|.ai (af [.lk .str,.vec 2] ((q5.hO).cs) 0 q5.tail)<|.done 0 [.cv [.agg [VS (((q5.hO).cs.getD 0 .any).toStr),.sl ((q5.tail.hO).es)],VI ((y5.hA).toInt)]] []))))
theorem Lg(a0:ByteArray)(a1:Int)(a2:Int)(h:dm 87 (IP a0 a1 a2) R):aq Tryz.prog 104 [VS a0,VI a1,VI a2] [] R :=
 uQ (ag (az _) (ag (az _) (ag (az _) aB))) (oQ IZ Tryz.f104 h)
def GV(x0:ByteArray)(x1:Int)(x9:Int)(o6_0:ByteArray)(o6_1:AV)(o8_0:ByteArray)(o8_1:AV):Tree :=
 NS (VS x0)<|NI (VI x1)<|NI (VI x9)<|.ai (Ob.cells [VS o6_0,o6_1]=.cells [VS o6_0,o6_1])<|.ai (af [.lk .str,.lk .sl] [VS o6_0,o6_1] 0 [.cells [VS o8_0,o8_1]])<|.ai (Ob.cells [VS o8_0,o8_1]=.cells [VS o8_0,o8_1])<|.ai (af [.lk .str,.lk .sl] [VS o8_0,o8_1] 0 [])<|.test (decide (x1<(ah x0:Int))) (.ai (0<=x1/\x1<ah x0)<|.call 141 [.v (.int .u8 (bt x0 x1))] [] fun r1 o1=>NB r1<|.test r1.toBool (.done 0 [VS x0,VI (IntKind.wrap .i64 (x1+1)),VI x9] [.cells [VS o6_0,o6_1],.cells [VS o8_0,o8_1]]) (.done 1 [VS x0,VI x1,VI x9] [.cells [VS o6_0,o6_1],.cells [VS o8_0,o8_1]])) (.done 1 [VS x0,VI x1,VI x9] [.cells [VS o6_0,o6_1],.cells [VS o8_0,o8_1]])
abbrev I2:=cC Tryz.prog 87 OU Hz
theorem QS(x0:ByteArray)(x1:Int)(x9:Int)(o6_0:ByteArray)(o6_1:AV)(o8_0:ByteArray)(o8_1:AV)(h:kF 87 (GV x0 x1 x9 o6_0 o6_1 o8_0 o8_1) I2 U):I2 [VS x0,VI x1,VI x9] [.cells [VS o6_0,o6_1],.cells [VS o8_0,o8_1]] U :=
 gQ IZ h
def MT(x0:ByteArray)(x1:Int)(x2:Int)(o6_0:ByteArray)(o6_1:AV)(o8_0:ByteArray)(o8_1:List (List AV)):Tree :=
 NS (VS x0)<|NI (VI x1)<|NI (VI x2)<|.ai (Ob.cells [VS o6_0,o6_1]=.cells [VS o6_0,o6_1])<|.ai (af [.lk .str,.lk .sl] [VS o6_0,o6_1] 0 [.cells [VS o8_0,.any],.vec 2 o8_1])<|.ai (Ob.cells [VS o8_0,.any]=.cells [VS o8_0,.any])<|.ai (af [.lk .str,.vec 2] [VS o8_0,.any] 0 [.vec 2 o8_1])<|.call 104 [VS x0,VI (IntKind.wrap .i64 (x1+1)),VI (IntKind.wrap .i64 (x2+1))] [] fun r1 o1=>NT r1<|.ai ((r1.comp 0)=.agg (r1.comp 0).cs/\(r1.comp 0).cs.length=2/\bE [.str,.sl] ((r1.comp 0).cs) 0)<|NI (r1.comp 1)<|.test (decide (((r1.comp 1).toInt)<(0:Int))) (.done 2 [VI (-1)] [.cells [VS o8_0,.any],.vec 2 o8_1]) (.test (decide (((r1.comp 1).toInt)≥(ah x0:Int))) (.done 2 [VI (-1)] [.cells [VS o8_0,.any],.vec 2 o8_1]) (.ai (cq 2 [[VS (((r1.comp 0).cs.getD 0 .any).toStr),((r1.comp 0).cs.getD 1 .any)]]/\((o8_1.length)+([[VS (((r1.comp 0).cs.getD 0 .any).toStr),((r1.comp 0).cs.getD 1 .any)]]:List (List AV)).length)*40<=140737488355328)<|.ai (0<=((r1.comp 1).toInt)/\((r1.comp 1).toInt)<ah x0)<|.test ((bt x0 ((r1.comp 1).toInt))==(41:Int)) (.done 2 [VI (IntKind.wrap .i64 (((r1.comp 1).toInt)+1))] [.cells [VS o8_0,.any],.vec 2 (o8_1++([[VS (((r1.comp 0).cs.getD 0 .any).toStr),((r1.comp 0).cs.getD 1 .any)]]:List (List AV)))]) (.ai (0<=((r1.comp 1).toInt)/\((r1.comp 1).toInt)<ah x0)<|.test ((bt x0 ((r1.comp 1).toInt)) != (32:Int)) (.done 2 [VI (-1)] [.cells [VS o8_0,.any],.vec 2 (o8_1++([[VS (((r1.comp 0).cs.getD 0 .any).toStr),((r1.comp 0).cs.getD 1 .any)]]:List (List AV)))]) (.done 0 [VS x0,VI ((r1.comp 1).toInt),VI x2] [.cells [VS o6_0,o6_1],.cells [VS o8_0,.any],.vec 2 (o8_1++([[VS (((r1.comp 0).cs.getD 0 .any).toStr),((r1.comp 0).cs.getD 1 .any)]]:List (List AV)))]))))
abbrev IF:=cC Tryz.prog 87 KB HV
theorem Td(x0:ByteArray)(x1:Int)(x2:Int)(o6_0:ByteArray)(o6_1:AV)(o8_0:ByteArray)(o8_1:List (List AV))(h:kF 87 (MT x0 x1 x2 o6_0 o6_1 o8_0 o8_1) IF U):IF [VS x0,VI x1,VI x2] [.cells [VS o6_0,o6_1],.cells [VS o8_0,.any],.vec 2 o8_1] U :=
 gQ IZ h
def MH(a0_0:AV)(a0_1:Int):Tree :=
 .call 45 [.ref 0 0,VI 8] [.cells [a0_0,VI a0_1]] fun r1 o1=>.ai ((o1.hO)=.cells (o1.hO).cs)<|.ai (aH [.lk .sl,.lk (.int .i64)] ((o1.hO).cs) 0 1 o1.tail)<|NI r1<|.test (r1.toInt==(0:Int)) (.call 142 [.ref 0 0] [.cells [((o1.hO).cs.getD 0 .any),VI (((o1.hO).cs.getD 1 .any).toInt)]] fun r2 o2=>.ai ((o2.hO)=.cells (o2.hO).cs)<|.ai (aH [.lk .sl,.lk (.int .i64)] ((o2.hO).cs) 0 1 o2.tail)<|NS r2<|.done 0 [VS r2.toStr] [.cells [((o2.hO).cs.getD 0 .any),VI (((o2.hO).cs.getD 1 .any).toInt)]]) (.test (r1.toInt==(1:Int)) (.call 143 [.ref 0 0,.sl [],VI 3] [.cells [((o1.hO).cs.getD 0 .any),VI (((o1.hO).cs.getD 1 .any).toInt)]] fun r3 o3=>.ai ((o3.hO)=.cells (o3.hO).cs)<|.ai (aH [.lk .sl,.lk (.int .i64)] ((o3.hO).cs) 0 1 o3.tail)<|NS r3<|.done 0 [VS r3.toStr] [.cells [((o3.hO).cs.getD 0 .any),VI (((o3.hO).cs.getD 1 .any).toInt)]]) (.test (r1.toInt==(2:Int)) (.call 143 [.ref 0 0,.sl [],VI 3] [.cells [((o1.hO).cs.getD 0 .any),VI (((o1.hO).cs.getD 1 .any).toInt)]] fun r4 o4=>.ai ((o4.hO)=.cells (o4.hO).cs)<|.ai (aH [.lk .sl,.lk (.int .i64)] ((o4.hO).cs) 0 1 o4.tail)<|NS r4<|.done 0 [VS r4.toStr] [.cells [((o4.hO).cs.getD 0 .any),VI (((o4.hO).cs.getD 1 .any).toInt)]]) (.test (r1.toInt==(3:Int)) (.call 143 [.ref 0 0,.sl [],VI 3] [.cells [((o1.hO).cs.getD 0 .any),VI (((o1.hO).cs.getD 1 .any).toInt)]] fun r5 o5=>.ai ((o5.hO)=.cells (o5.hO).cs)<|.ai (aH [.lk .sl,.lk (.int .i64)] ((o5.hO).cs) 0 1 o5.tail)<|NS r5<|.done 0 [VS r5.toStr] [.cells [((o5.hO).cs.getD 0 .any),VI (((o5.hO).cs.getD 1 .any).toInt)]]) (.call 68 [.ref 0 0] [.cells [((o1.hO).cs.getD 0 .any),VI (((o1.hO).cs.getD 1 .any).toInt)]] fun r6 o6=>.ai ((o6.hO)=.cells (o6.hO).cs)<|.ai (aH [.lk .sl,.lk (.int .i64)] ((o6.hO).cs) 0 1 o6.tail)<|NS r6<|.done 0 [VS r6.toStr] [.cells [((o6.hO).cs.getD 0 .any),VI (((o6.hO).cs.getD 1 .any).toInt)]]))))
theorem SM(a0_0:AV)(a0_1:Int)(ha0_0:LK.has .sl a0_0)(h:dm 18 (MH a0_0 a0_1) R):aq Tryz.prog 105 [.ref 0 0] [.cells [a0_0,VI a0_1]] R :=
 aq.om (bH (cr (ag (bM ha0_0) (ag (az _) aB))) cE) (aq.up (ag (az _) aB) (oF [] {mu:=[(0,.one (.obj [.lk .sl,.lk (.int .i64)]))],own:=[]} Tryz.f105 h))
def FV(a0_0:ByteArray)(a0_1:AV)(a1_0:AV)(a1_1:AV):Tree :=
 NP a0_1<|.test (!a0_1.isNil) (NZ a1_0<|NZ a1_0<|.ai (LK.has (.int .u8) (a1_0.deref.hA)/\1<=a1_0.deref.length)<|.test (((a1_0.deref.hA).toInt)==(98:Int)) (.call 127 [.agg [a1_0,a1_1]] [] fun r1 o1=>NP r1<|.ai (AV.sN r1/\AV.sN a0_1)<|.done 0 [VB (AV.DQ r1 a0_1)] []) (.done 0 [VB false] [])) (NZ a1_0<|NZ a1_0<|.ai (LK.has (.int .u8) (a1_0.deref.hA)/\1<=a1_0.deref.length)<|.test (((a1_0.deref.hA).toInt)==(110:Int)) (NZ a1_0<|NZ a1_0<|lF (a1_0.deref.drop 1)<|.done 0 [VB (ae (((a1_0.deref.drop 1).hA).toStr)==ae a0_0)] []) (.done 0 [VB false] []))
theorem TM(a0_0:ByteArray)(a0_1:AV)(a1_0:AV)(a1_1:AV)(ha0_1:LK.has .ptr a0_1)(ha1_0:LK.has .ptr a1_0)(ha1_1:LK.has .ptr a1_1)(h:dm 37 (FV a0_0 a0_1 a1_0 a1_1) R):aq Tryz.prog 106 [.agg [VS a0_0,a0_1],.agg [a1_0,a1_1]] [] R :=
 uQ (ag (bW (ag (az _) (ag (bJ ha0_1) aB))) (ag (bW (ag (bJ ha1_0) (ag (bJ ha1_1) aB))) aB)) (oQ [] Tryz.f106 h)
def GU:LI:={hd:={bR:=[(7,.k .sl),(8,.k (.int .i64)),(9,.k (.int .i64))],refs:=[(2,1)],ct:=[(0,[.lk .ptr]),(1,[.vec 2])],fns:=[(1,110,[0])]},xs:={ct:=[(0,[.lk .ptr]),(1,[.vec 2])]},rt:={ct:=[(0,[.lk .ptr]),(1,[.vec 2])]},ex:=0,fx:=[0,1]}
def P5:Code:=cK (cD Tryz.f107) 1
def PU:List (Nat×LI):=[(1,GU)]
def Pz(a0:AV)(a1_0_0:AV)(e2_0:List (List AV)):Tree :=
 NL a0<|.loop P5 GU [a0,VI (a0.elems.length:Int),VI 0] [.cells [a1_0_0],.cells [.any],.vec 2 e2_0] (fun y2 q2=>.ai ((q2.hO)=.cells (q2.hO).cs)<|.ai (af [.lk .ptr] ((q2.hO).cs) 0 q2.tail)<|.ai (((q2.tail.drop 0).hO)=.cells ((q2.tail.drop 0).hO).cs)<|.ai (af [.vec 2] (((q2.tail.drop 0).hO).cs) 0 ((q2.tail.drop 0).tail))<|.done 0 [.any] [.cells [((q2.hO).cs.getD 0 .any)],.cells [.vec 2],.vec 2 ((q2.tail.tail.hO).es)]) (fun y2 q2=>.ai ((q2.hO)=.cells (q2.hO).cs)<|.ai (af [.lk .ptr] ((q2.hO).cs) 0 q2.tail)<|.ai (((q2.tail.drop 0).hO)=.cells ((q2.tail.drop 0).hO).cs)<|.ai (af [.vec 2] (((q2.tail.drop 0).hO).cs) 0 ((q2.tail.drop 0).tail))<|.done 0 [.any] [.cells [((q2.hO).cs.getD 0 .any)],.cells [.vec 2],.vec 2 ((q2.tail.tail.hO).es)])
theorem RN(a0:AV)(a1_0_0:AV)(e2_0:List (List AV))(ha0:LK.has .sl a0)(ha1_0_0:LK.has .ptr a1_0_0)(h:dm 24 (Pz a0 a1_0_0 e2_0) R):aq Tryz.prog 107 [a0,.fn 110 [.ref 0 0],.ref 1 0] [.cells [a1_0_0],.cells [.vec 2],.vec 2 e2_0] R :=
 aq.om (bH (cr (ag (bJ ha1_0_0) aB)) (bH (cr (ag (az _) aB)) (bH (fN _) cE))) (aq.up (ag (bM ha0) (ag (az _) (ag (az _) aB))) (oF PU {mu:=[(1,.fn [some (.obj [.lk .ptr])]),(2,.one (.obj [.vec 2]))],own:=[]} Tryz.f107 h))
def HM(x7:AV)(x8:Int)(x9:Int)(o0_0:AV)(o1_0:List (List AV)):Tree :=
 NL x7<|NI (VI x8)<|NI (VI x9)<|.ai (Ob.cells [o0_0]=.cells [o0_0])<|.ai (af [.lk .ptr] [o0_0] 0 [.cells [.any],.vec 2 o1_0])<|.ai (Ob.cells [.any]=.cells [.any])<|.ai (af [.vec 2] [.any] 0 [.vec 2 o1_0])<|.test (decide (x9<x8)) (NG x7 x9 2<|.ai (bE [.ptr,.ptr] (x7.ix x9) 0/\2<=(x7.ix x9).length)<|.call 110 [((x7.ix x9).getD 0 .any),.ref 0 0] [.cells [o0_0]] fun r1 o1=>.ai ((o1.hO)=.cells (o1.hO).cs)<|.ai (aH [.lk .ptr] ((o1.hO).cs) 0 1 o1.tail)<|NP r1<|.ai (cq 2 [[r1,((x7.ix x9).getD 1 .any)]]/\((o1_0.length)+([[r1,((x7.ix x9).getD 1 .any)]]:List (List AV)).length)*16<=140737488355328)<|.done 0 [x7,VI x8,VI (IntKind.wrap .i64 (x9+1))] [.cells [((o1.hO).cs.getD 0 .any)],.cells [.any],.vec 2 (o1_0++([[r1,((x7.ix x9).getD 1 .any)]]:List (List AV)))]) (.done 1 [] [.cells [o0_0],.cells [.any],.vec 2 o1_0])
abbrev IT:=cC Tryz.prog 24 P5 GU
theorem Nj(x7:AV)(x8:Int)(x9:Int)(o0_0:AV)(o1_0:List (List AV))(h:kF 24 (HM x7 x8 x9 o0_0 o1_0) IT U):IT [x7,VI x8,VI x9] [.cells [o0_0],.cells [.any],.vec 2 o1_0] U :=
 gQ PU h
def JT:LI:={hd:={bR:=[(7,.k .sl),(8,.k (.int .i64)),(9,.k (.int .i64))],refs:=[(2,1)],ct:=[(0,[.lk .ptr]),(1,[.vec 2])],fns:=[(1,111,[0])]},xs:={ct:=[(0,[.lk .ptr]),(1,[.vec 2])]},rt:={ct:=[(0,[.lk .ptr]),(1,[.vec 2])]},ex:=0,fx:=[0,1]}
def LW:Code:=cK (cD Tryz.f107) 1
def PQ:List (Nat×LI):=[(1,JT)]
def Qf(a0:AV)(a1_0_0:AV)(e2_0:List (List AV)):Tree :=
 NL a0<|.loop LW JT [a0,VI (a0.elems.length:Int),VI 0] [.cells [a1_0_0],.cells [.any],.vec 2 e2_0] (fun y2 q2=>.ai ((q2.hO)=.cells (q2.hO).cs)<|.ai (af [.lk .ptr] ((q2.hO).cs) 0 q2.tail)<|.ai (((q2.tail.drop 0).hO)=.cells ((q2.tail.drop 0).hO).cs)<|.ai (af [.vec 2] (((q2.tail.drop 0).hO).cs) 0 ((q2.tail.drop 0).tail))<|.done 0 [.any] [.cells [((q2.hO).cs.getD 0 .any)],.cells [.vec 2],.vec 2 ((q2.tail.tail.hO).es)]) (fun y2 q2=>.ai ((q2.hO)=.cells (q2.hO).cs)<|.ai (af [.lk .ptr] ((q2.hO).cs) 0 q2.tail)<|.ai (((q2.tail.drop 0).hO)=.cells ((q2.tail.drop 0).hO).cs)<|.ai (af [.vec 2] (((q2.tail.drop 0).hO).cs) 0 ((q2.tail.drop 0).tail))<|.done 0 [.any] [.cells [((q2.hO).cs.getD 0 .any)],.cells [.vec 2],.vec 2 ((q2.tail.tail.hO).es)])
theorem Sc(a0:AV)(a1_0_0:AV)(e2_0:List (List AV))(ha0:LK.has .sl a0)(ha1_0_0:LK.has .ptr a1_0_0)(h:dm 24 (Qf a0 a1_0_0 e2_0) R):aq Tryz.prog 107 [a0,.fn 111 [.ref 0 0],.ref 1 0] [.cells [a1_0_0],.cells [.vec 2],.vec 2 e2_0] R :=
 aq.om (bH (cr (ag (bJ ha1_0_0) aB)) (bH (cr (ag (az _) aB)) (bH (fN _) cE))) (aq.up (ag (bM ha0) (ag (az _) (ag (az _) aB))) (oF PQ {mu:=[(1,.fn [some (.obj [.lk .ptr])]),(2,.one (.obj [.vec 2]))],own:=[]} Tryz.f107 h))
def HA(x7:AV)(x8:Int)(x9:Int)(o0_0:AV)(o1_0:List (List AV)):Tree :=
 NL x7<|NI (VI x8)<|NI (VI x9)<|.ai (Ob.cells [o0_0]=.cells [o0_0])<|.ai (af [.lk .ptr] [o0_0] 0 [.cells [.any],.vec 2 o1_0])<|.ai (Ob.cells [.any]=.cells [.any])<|.ai (af [.vec 2] [.any] 0 [.vec 2 o1_0])<|.test (decide (x9<x8)) (NG x7 x9 2<|.ai (bE [.ptr,.ptr] (x7.ix x9) 0/\2<=(x7.ix x9).length)<|.call 111 [((x7.ix x9).getD 0 .any),.ref 0 0] [.cells [o0_0]] fun r1 o1=>.ai ((o1.hO)=.cells (o1.hO).cs)<|.ai (aH [.lk .ptr] ((o1.hO).cs) 0 1 o1.tail)<|NP r1<|.ai (cq 2 [[r1,((x7.ix x9).getD 1 .any)]]/\((o1_0.length)+([[r1,((x7.ix x9).getD 1 .any)]]:List (List AV)).length)*16<=140737488355328)<|.done 0 [x7,VI x8,VI (IntKind.wrap .i64 (x9+1))] [.cells [((o1.hO).cs.getD 0 .any)],.cells [.any],.vec 2 (o1_0++([[r1,((x7.ix x9).getD 1 .any)]]:List (List AV)))]) (.done 1 [] [.cells [o0_0],.cells [.any],.vec 2 o1_0])
abbrev IA:=cC Tryz.prog 24 LW JT
theorem Md(x7:AV)(x8:Int)(x9:Int)(o0_0:AV)(o1_0:List (List AV))(h:kF 24 (HA x7 x8 x9 o0_0 o1_0) IA U):IA [x7,VI x8,VI x9] [.cells [o0_0],.cells [.any],.vec 2 o1_0] U :=
 gQ PQ h
def JZ:LI:={hd:={bR:=[(7,.k .sl),(8,.k (.int .i64)),(9,.k (.int .i64))],refs:=[(2,1)],ct:=[(0,[.lk .ptr]),(1,[.vec 2])],fns:=[(1,113,[0])]},xs:={ct:=[(0,[.lk .ptr]),(1,[.vec 2])]},rt:={ct:=[(0,[.lk .ptr]),(1,[.vec 2])]},ex:=0,fx:=[0,1]}
def NW:Code:=cK (cD Tryz.f107) 1
def KO:List (Nat×LI):=[(1,JZ)]
def Nu(a0:AV)(a1_0_0:AV)(e2_0:List (List AV)):Tree :=
 NL a0<|.loop NW JZ [a0,VI (a0.elems.length:Int),VI 0] [.cells [a1_0_0],.cells [.any],.vec 2 e2_0] (fun y2 q2=>.ai ((q2.hO)=.cells (q2.hO).cs)<|.ai (af [.lk .ptr] ((q2.hO).cs) 0 q2.tail)<|.ai (((q2.tail.drop 0).hO)=.cells ((q2.tail.drop 0).hO).cs)<|.ai (af [.vec 2] (((q2.tail.drop 0).hO).cs) 0 ((q2.tail.drop 0).tail))<|.done 0 [.any] [.cells [((q2.hO).cs.getD 0 .any)],.cells [.vec 2],.vec 2 ((q2.tail.tail.hO).es)]) (fun y2 q2=>.ai ((q2.hO)=.cells (q2.hO).cs)<|.ai (af [.lk .ptr] ((q2.hO).cs) 0 q2.tail)<|.ai (((q2.tail.drop 0).hO)=.cells ((q2.tail.drop 0).hO).cs)<|.ai (af [.vec 2] (((q2.tail.drop 0).hO).cs) 0 ((q2.tail.drop 0).tail))<|.done 0 [.any] [.cells [((q2.hO).cs.getD 0 .any)],.cells [.vec 2],.vec 2 ((q2.tail.tail.hO).es)])
theorem Us(a0:AV)(a1_0_0:AV)(e2_0:List (List AV))(ha0:LK.has .sl a0)(ha1_0_0:LK.has .ptr a1_0_0)(h:dm 24 (Nu a0 a1_0_0 e2_0) R):aq Tryz.prog 107 [a0,.fn 113 [.ref 0 0],.ref 1 0] [.cells [a1_0_0],.cells [.vec 2],.vec 2 e2_0] R :=
 aq.om (bH (cr (ag (bJ ha1_0_0) aB)) (bH (cr (ag (az _) aB)) (bH (fN _) cE))) (aq.up (ag (bM ha0) (ag (az _) (ag (az _) aB))) (oF KO {mu:=[(1,.fn [some (.obj [.lk .ptr])]),(2,.one (.obj [.vec 2]))],own:=[]} Tryz.f107 h))
def Ke(x7:AV)(x8:Int)(x9:Int)(o0_0:AV)(o1_0:List (List AV)):Tree :=
 NL x7<|NI (VI x8)<|NI (VI x9)<|.ai (Ob.cells [o0_0]=.cells [o0_0])<|.ai (af [.lk .ptr] [o0_0] 0 [.cells [.any],.vec 2 o1_0])<|.ai (Ob.cells [.any]=.cells [.any])<|.ai (af [.vec 2] [.any] 0 [.vec 2 o1_0])<|.test (decide (x9<x8)) (NG x7 x9 2<|.ai (bE [.ptr,.ptr] (x7.ix x9) 0/\2<=(x7.ix x9).length)<|.call 113 [((x7.ix x9).getD 0 .any),.ref 0 0] [.cells [o0_0]] fun r1 o1=>.ai ((o1.hO)=.cells (o1.hO).cs)<|.ai (aH [.lk .ptr] ((o1.hO).cs) 0 1 o1.tail)<|NP r1<|.ai (cq 2 [[r1,((x7.ix x9).getD 1 .any)]]/\((o1_0.length)+([[r1,((x7.ix x9).getD 1 .any)]]:List (List AV)).length)*16<=140737488355328)<|.done 0 [x7,VI x8,VI (IntKind.wrap .i64 (x9+1))] [.cells [((o1.hO).cs.getD 0 .any)],.cells [.any],.vec 2 (o1_0++([[r1,((x7.ix x9).getD 1 .any)]]:List (List AV)))]) (.done 1 [] [.cells [o0_0],.cells [.any],.vec 2 o1_0])
abbrev Hh:=cC Tryz.prog 24 NW JZ
theorem QI(x7:AV)(x8:Int)(x9:Int)(o0_0:AV)(o1_0:List (List AV))(h:kF 24 (Ke x7 x8 x9 o0_0 o1_0) Hh U):Hh [x7,VI x8,VI x9] [.cells [o0_0],.cells [.any],.vec 2 o1_0] U :=
 gQ KO h
def Kq:LI:={hd:={bR:=[(1,.c (.func (.func 114) #[] #[])),(7,.k .sl),(8,.k (.int .i64)),(9,.k (.int .i64))],refs:=[(2,0)],ct:=[(0,[.vec 2])]},xs:={ct:=[(0,[.vec 2])]},rt:={ct:=[(0,[.vec 2])]},ex:=0,fx:=[0]}
def Pq:Code:=cK (cD Tryz.f107) 1
def K7:List (Nat×LI):=[(1,Kq)]
def Qs(a0:AV)(e2_0:List (List AV)):Tree :=
 NL a0<|.loop Pq Kq [.v (.func (.func 114) #[] #[]),a0,VI (a0.elems.length:Int),VI 0] [.cells [.any],.vec 2 e2_0] (fun y2 q2=>.ai ((q2.hO)=.cells (q2.hO).cs)<|.ai (af [.vec 2] ((q2.hO).cs) 0 q2.tail)<|.done 0 [.any] [.cells [.vec 1],.vec 2 ((q2.tail.hO).es)]) (fun y2 q2=>.ai ((q2.hO)=.cells (q2.hO).cs)<|.ai (af [.vec 2] ((q2.hO).cs) 0 q2.tail)<|.done 0 [.any] [.cells [.vec 1],.vec 2 ((q2.tail.hO).es)])
theorem Sm(a0:AV)(e2_0:List (List AV))(ha0:LK.has .sl a0)(h:dm 24 (Qs a0 e2_0) R):aq Tryz.prog 107 [a0,.v (.func (.func 114) #[] #[]),.ref 0 0] [.cells [.vec 1],.vec 2 e2_0] R :=
 aq.om (bH (cr (ag (az _) aB)) (bH (fN _) cE)) (aq.up (ag (bM ha0) (ag (az _) (ag (az _) aB))) (oF K7 {mu:=[(2,.one (.obj [.vec 2]))],own:=[]} Tryz.f107 h))
def Ja(x7:AV)(x8:Int)(x9:Int)(o0_0:List (List AV)):Tree :=
 .ai (AV.v (.func (.func 114) #[] #[])=.v (.func (.func 114) #[] #[]))<|NL x7<|NI (VI x8)<|NI (VI x9)<|.ai (Ob.cells [.any]=.cells [.any])<|.ai (af [.vec 2] [.any] 0 [.vec 2 o0_0])<|.test (decide (x9<x8)) (NG x7 x9 2<|.ai (bE [.ptr,.ptr] (x7.ix x9) 0/\2<=(x7.ix x9).length)<|.call 114 [((x7.ix x9).getD 0 .any)] [] fun r1 o1=>NP r1<|.ai (cq 2 [[r1,((x7.ix x9).getD 1 .any)]]/\((o0_0.length)+([[r1,((x7.ix x9).getD 1 .any)]]:List (List AV)).length)*16<=140737488355328)<|.done 0 [.v (.func (.func 114) #[] #[]),x7,VI x8,VI (IntKind.wrap .i64 (x9+1))] [.cells [.any],.vec 2 (o0_0++([[r1,((x7.ix x9).getD 1 .any)]]:List (List AV)))]) (.done 1 [] [.cells [.any],.vec 2 o0_0])
abbrev Ju:=cC Tryz.prog 24 Pq Kq
theorem KR(x7:AV)(x8:Int)(x9:Int)(o0_0:List (List AV))(h:kF 24 (Ja x7 x8 x9 o0_0) Ju U):Ju [.v (.func (.func 114) #[] #[]),x7,VI x8,VI x9] [.cells [.any],.vec 2 o0_0] U :=
 gQ K7 h
def Ig:LI:={hd:={bR:=[(7,.k .sl),(8,.k (.int .i64)),(9,.k (.int .i64))],refs:=[(2,1)],ct:=[(0,[.lk .ptr,.lk .ptr]),(1,[.vec 2])],fns:=[(1,115,[0])]},xs:={ct:=[(0,[.lk .ptr,.lk .ptr]),(1,[.vec 2])]},rt:={ct:=[(0,[.lk .ptr,.lk .ptr]),(1,[.vec 2])]},ex:=0,fx:=[0,1]}
def P0:Code:=cK (cD Tryz.f107) 1
def MX:List (Nat×LI):=[(1,Ig)]
def K3(a0:AV)(a1_0_0:AV)(a1_0_1:AV)(e2_0:List (List AV)):Tree :=
 NL a0<|.loop P0 Ig [a0,VI (a0.elems.length:Int),VI 0] [.cells [a1_0_0,a1_0_1],.cells [.any],.vec 2 e2_0] (fun y2 q2=>.ai ((q2.hO)=.cells (q2.hO).cs)<|.ai (af [.lk .ptr,.lk .ptr] ((q2.hO).cs) 0 q2.tail)<|.ai (((q2.tail.drop 0).hO)=.cells ((q2.tail.drop 0).hO).cs)<|.ai (af [.vec 2] (((q2.tail.drop 0).hO).cs) 0 ((q2.tail.drop 0).tail))<|.done 0 [.any] [.cells [((q2.hO).cs.getD 0 .any),((q2.hO).cs.getD 1 .any)],.cells [.vec 2],.vec 2 ((q2.tail.tail.hO).es)]) (fun y2 q2=>.ai ((q2.hO)=.cells (q2.hO).cs)<|.ai (af [.lk .ptr,.lk .ptr] ((q2.hO).cs) 0 q2.tail)<|.ai (((q2.tail.drop 0).hO)=.cells ((q2.tail.drop 0).hO).cs)<|.ai (af [.vec 2] (((q2.tail.drop 0).hO).cs) 0 ((q2.tail.drop 0).tail))<|.done 0 [.any] [.cells [((q2.hO).cs.getD 0 .any),((q2.hO).cs.getD 1 .any)],.cells [.vec 2],.vec 2 ((q2.tail.tail.hO).es)])
theorem TQ(a0:AV)(a1_0_0:AV)(a1_0_1:AV)(e2_0:List (List AV))(ha0:LK.has .sl a0)(ha1_0_0:LK.has .ptr a1_0_0)(ha1_0_1:LK.has .ptr a1_0_1)(h:dm 24 (K3 a0 a1_0_0 a1_0_1 e2_0) R):aq Tryz.prog 107 [a0,.fn 115 [.ref 0 0],.ref 1 0] [.cells [a1_0_0,a1_0_1],.cells [.vec 2],.vec 2 e2_0] R :=
 aq.om (bH (cr (ag (bJ ha1_0_0) (ag (bJ ha1_0_1) aB))) (bH (cr (ag (az _) aB)) (bH (fN _) cE))) (aq.up (ag (bM ha0) (ag (az _) (ag (az _) aB))) (oF MX {mu:=[(1,.fn [some (.obj [.lk .ptr,.lk .ptr])]),(2,.one (.obj [.vec 2]))],own:=[]} Tryz.f107 h))
def JO(x7:AV)(x8:Int)(x9:Int)(o0_0:AV)(o0_1:AV)(o1_0:List (List AV)):Tree :=
 NL x7<|NI (VI x8)<|NI (VI x9)<|.ai (Ob.cells [o0_0,o0_1]=.cells [o0_0,o0_1])<|.ai (af [.lk .ptr,.lk .ptr] [o0_0,o0_1] 0 [.cells [.any],.vec 2 o1_0])<|.ai (Ob.cells [.any]=.cells [.any])<|.ai (af [.vec 2] [.any] 0 [.vec 2 o1_0])<|.test (decide (x9<x8)) (NG x7 x9 2<|.ai (bE [.ptr,.ptr] (x7.ix x9) 0/\2<=(x7.ix x9).length)<|.call 115 [((x7.ix x9).getD 0 .any),.ref 0 0] [.cells [o0_0,o0_1]] fun r1 o1=>.ai ((o1.hO)=.cells (o1.hO).cs)<|.ai (aH [.lk .ptr,.lk .ptr] ((o1.hO).cs) 0 1 o1.tail)<|NP r1<|.ai (cq 2 [[r1,((x7.ix x9).getD 1 .any)]]/\((o1_0.length)+([[r1,((x7.ix x9).getD 1 .any)]]:List (List AV)).length)*16<=140737488355328)<|.done 0 [x7,VI x8,VI (IntKind.wrap .i64 (x9+1))] [.cells [((o1.hO).cs.getD 0 .any),((o1.hO).cs.getD 1 .any)],.cells [.any],.vec 2 (o1_0++([[r1,((x7.ix x9).getD 1 .any)]]:List (List AV)))]) (.done 1 [] [.cells [o0_0,o0_1],.cells [.any],.vec 2 o1_0])
abbrev Kf:=cC Tryz.prog 24 P0 Ig
theorem N6(x7:AV)(x8:Int)(x9:Int)(o0_0:AV)(o0_1:AV)(o1_0:List (List AV))(h:kF 24 (JO x7 x8 x9 o0_0 o0_1 o1_0) Kf U):Kf [x7,VI x8,VI x9] [.cells [o0_0,o0_1],.cells [.any],.vec 2 o1_0] U :=
 gQ MX h
def Mn(a0_0:AV)(a0_1:AV):Tree :=
 NZ a0_0<|NZ a0_0<|eg (a0_0.deref.drop 3)<|.done 0 [.agg [((a0_0.deref.drop 3).hA),a0_1]] []
theorem UC(a0_0:AV)(a0_1:AV)(ha0_0:LK.has .ptr a0_0)(ha0_1:LK.has .ptr a0_1)(h:dm 11 (Mn a0_0 a0_1) R):aq Tryz.prog 108 [.agg [a0_0,a0_1]] [] R :=
 uQ (ag (bW (ag (bJ ha0_0) (ag (bJ ha0_1) aB))) aB) (oQ [] Tryz.f108 h)
def Nz(a0_0:AV)(a0_1:AV):Tree :=
 NZ a0_0<|NZ a0_0<|eg (a0_0.deref.drop 4)<|.done 0 [.agg [((a0_0.deref.drop 4).hA),a0_1]] []
theorem Tn(a0_0:AV)(a0_1:AV)(ha0_0:LK.has .ptr a0_0)(ha0_1:LK.has .ptr a0_1)(h:dm 11 (Nz a0_0 a0_1) R):aq Tryz.prog 109 [.agg [a0_0,a0_1]] [] R :=
 uQ (ag (bW (ag (bJ ha0_0) (ag (bJ ha0_1) aB))) aB) (oQ [] Tryz.f109 h)
def Hd(a0:AV)(a1_0:AV):Tree :=
 NZ a1_0<|NZ a1_0<|.ai (LK.has (.int .u8) (a1_0.deref.hA)/\1<=a1_0.deref.length)<|.call 85 [.v (.int .u8 ((a1_0.deref.hA).toInt)),a0] [] fun r1 o1=>NP r1<|.done 0 [r1] [.cells [a1_0]]
theorem QA(a0:AV)(a1_0:AV)(ha0:LK.has .ptr a0)(ha1_0:LK.has .ptr a1_0)(h:dm 10 (Hd a0 a1_0) R):aq Tryz.prog 110 [a0,.ref 0 0] [.cells [a1_0]] R :=
 aq.om (bH (cr (ag (bJ ha1_0) aB)) cE) (aq.up (ag (bJ ha0) (ag (az _) aB)) (oF [] {mu:=[(1,.one (.obj [.lk .ptr]))],own:=[]} Tryz.f110 h))
def Na(a0:AV)(a1_0:AV):Tree :=
 NZ a1_0<|NZ a1_0<|eg (a1_0.deref.drop 3)<|.call 112 [a0,((a1_0.deref.drop 3).hA)] [] fun r1 o1=>NP r1<|.call 85 [.v (.int .u8 108),r1] [] fun r2 o2=>NP r2<|.done 0 [r2] [.cells [a1_0]]
theorem R2(a0:AV)(a1_0:AV)(ha0:LK.has .ptr a0)(ha1_0:LK.has .ptr a1_0)(h:dm 11 (Na a0 a1_0) R):aq Tryz.prog 111 [a0,.ref 0 0] [.cells [a1_0]] R :=
 aq.om (bH (cr (ag (bJ ha1_0) aB)) cE) (aq.up (ag (bJ ha0) (ag (az _) aB)) (oF [] {mu:=[(1,.one (.obj [.lk .ptr]))],own:=[]} Tryz.f111 h))
def K0(a0:AV)(a1:AV):Tree :=
 .done 0 [.ptr [.v (.int .u8 112),VS (mk []),a0,a1]] []
theorem RE(a0:AV)(a1:AV)(ha0:LK.has .ptr a0)(ha1:LK.has .ptr a1)(h:dm 9 (K0 a0 a1) R):aq Tryz.prog 112 [a0,a1] [] R :=
 uQ (ag (bJ ha0) (ag (bJ ha1) aB)) (oQ [] Tryz.f112 h)
def MD(a0:AV)(a1_0:AV):Tree :=
 NZ a1_0<|NZ a1_0<|eg (a1_0.deref.drop 2)<|.call 112 [((a1_0.deref.drop 2).hA),a0] [] fun r1 o1=>NP r1<|.call 85 [.v (.int .u8 114),r1] [] fun r2 o2=>NP r2<|.done 0 [r2] [.cells [a1_0]]
theorem SI(a0:AV)(a1_0:AV)(ha0:LK.has .ptr a0)(ha1_0:LK.has .ptr a1_0)(h:dm 11 (MD a0 a1_0) R):aq Tryz.prog 113 [a0,.ref 0 0] [.cells [a1_0]] R :=
 aq.om (bH (cr (ag (bJ ha1_0) aB)) cE) (aq.up (ag (bJ ha0) (ag (az _) aB)) (oF [] {mu:=[(1,.one (.obj [.lk .ptr]))],own:=[]} Tryz.f113 h))
def KJ(a0:AV):Tree :=
 .call 85 [.v (.int .u8 108),a0] [] fun r1 o1=>NP r1<|.call 85 [.v (.int .u8 102),r1] [] fun r2 o2=>NP r2<|.done 0 [r2] []
theorem RU(a0:AV)(ha0:LK.has .ptr a0)(h:dm 6 (KJ a0) R):aq Tryz.prog 114 [a0] [] R :=
 uQ (ag (bJ ha0) aB) (oQ [] Tryz.f114 h)
def MS(a0:AV)(a1_0:AV)(a1_1:AV):Tree :=
 .call 112 [a1_0,a0] [] fun r1 o1=>NP r1<|.call 85 [.v (.int .u8 114),r1] [] fun r2 o2=>NP r2<|.call 85 [.v (.int .u8 102),r2] [] fun r3 o3=>NP r3<|.done 0 [r3] [.cells [a1_0,a1_1]]
theorem TU(a0:AV)(a1_0:AV)(a1_1:AV)(ha0:LK.has .ptr a0)(ha1_0:LK.has .ptr a1_0)(ha1_1:LK.has .ptr a1_1)(h:dm 10 (MS a0 a1_0 a1_1) R):aq Tryz.prog 115 [a0,.ref 0 0] [.cells [a1_0,a1_1]] R :=
 aq.om (bH (cr (ag (bJ ha1_0) (ag (bJ ha1_1) aB))) cE) (aq.up (ag (bJ ha0) (ag (az _) aB)) (oF [] {mu:=[(1,.one (.obj [.lk .ptr,.lk .ptr]))],own:=[]} Tryz.f115 h))
def Ik:LI:={hd:={bR:=[(0,.k .str),(1,.k (.int .i64)),(6,.k (.int .i64))]},xs:={bR:=[(0,.k .str),(1,.k (.int .i64)),(6,.k (.int .i64))]},rt:={},ex:=0}
def KY:Code:=cK (cD Tryz.f116) 2
def Ic:LI:={hd:={bR:=[(0,.k .str),(1,.k (.int .i64)),(7,.k .str)],refs:=[(8,48)],ct:=[(48,[.lk .str,.vec 1])]},xs:={},rt:={bR:=[(4,.k .ptr),(5,.k .str)]},ex:=999}
def N9:Code:=cK (cD Tryz.f116) 10
def J2:List (Nat×LI):=[(2,Ik),(10,Ic)]
def Ib(a0:ByteArray)(a1:Int):Tree :=
 .loop KY Ik [VS a0,VI a1,VI 0] [] (fun y2 q2=>NS (y2.hA)<|NI (y2.tail.hA)<|NI (y2.tail.tail.hA)<|.test (decide (((y2.tail.tail.hA).toInt)>(0:Int))) (.ai (0<=(0:Int)/\(0:Int)<=((y2.tail.tail.hA).toInt)/\((y2.tail.tail.hA).toInt)<=(ah ((y2.hA).toStr):Int))<|.ai (0<=((y2.tail.tail.hA).toInt)/\((y2.tail.tail.hA).toInt)<=(ah ((y2.hA).toStr):Int)/\(ah ((y2.hA).toStr):Int)<=(ah ((y2.hA).toStr):Int))<|.done 0 [.cv [.ptr [VS (cx ((y2.hA).toStr) (bP 0) (bP ((y2.tail.tail.hA).toInt))),.v (.slice none 0 0)],VS (cx ((y2.hA).toStr) (bP ((y2.tail.tail.hA).toInt)) (bP (ah ((y2.hA).toStr):Int)))]] []) (.test (ae ((y2.hA).toStr)==ae (mk [])) (.done 0 [.cv [.v (.pointer none),VS ((y2.hA).toStr)]] []) (.ai (0<=(0:Int)/\(0:Int)<ah ((y2.hA).toStr))<|.test ((bt ((y2.hA).toStr) 0) != (40:Int)) (.done 0 [.cv [.v (.pointer none),VS ((y2.hA).toStr)]] []) (.test (((y2.tail.hA).toInt)==(300:Int)) (.done 0 [.cv [.v (.pointer none),VS ((y2.hA).toStr)]] []) (.ai (0<=(1:Int)/\(1:Int)<=(ah ((y2.hA).toStr):Int)/\(ah ((y2.hA).toStr):Int)<=(ah ((y2.hA).toStr):Int))<|.loop N9 Ic [VS ((y2.hA).toStr),VI ((y2.tail.hA).toInt),VS (cx ((y2.hA).toStr) (bP 1) (bP (ah ((y2.hA).toStr):Int)))] [.cells [VS (mk []),.any],.vec 1 []] (fun y5 q5=>.fail) (fun y5 q5=>NP (y5.hA)<|NS (y5.tail.hA)<|.done 0 [.cv [(y5.hA),VS ((y5.tail.hA).toStr)]] [])))))) (fun y2 q2=>.done 0 [.cv [.any,.any]] [])
theorem MR(a0:ByteArray)(a1:Int)(h:dm 84 (Ib a0 a1) R):aq Tryz.prog 116 [VS a0,VI a1] [] R :=
 uQ (ag (az _) (ag (az _) aB)) (oQ J2 Tryz.f116 h)
def Jk(x0:ByteArray)(x1:Int)(x6:Int):Tree :=
 NS (VS x0)<|NI (VI x1)<|NI (VI x6)<|.test (decide (x6<(ah x0:Int))) (.ai (0<=x6/\x6<ah x0)<|.call 144 [.v (.int .u8 (bt x0 x6))] [] fun r1 o1=>NB r1<|.test r1.toBool (.done 0 [VS x0,VI x1,VI (IntKind.wrap .i64 (x6+1))] []) (.done 1 [VS x0,VI x1,VI x6] [])) (.done 1 [VS x0,VI x1,VI x6] [])
abbrev G5:=cC Tryz.prog 84 KY Ik
theorem Ky(x0:ByteArray)(x1:Int)(x6:Int)(h:kF 84 (Jk x0 x1 x6) G5 U):G5 [VS x0,VI x1,VI x6] [] U :=
 gQ J2 h
def N7(x0:ByteArray)(x1:Int)(x7:ByteArray)(o48_0:ByteArray)(o48_1:List (List AV)):Tree :=
 NS (VS x0)<|NI (VI x1)<|NS (VS x7)<|.ai (Ob.cells [VS o48_0,.any]=.cells [VS o48_0,.any])<|.ai (af [.lk .str,.vec 1] [VS o48_0,.any] 0 [.vec 1 o48_1])<|.call 116 [VS x7,VI (IntKind.wrap .i64 (x1+1))] [] fun r1 o1=>NT r1<|NP (r1.comp 0)<|NS (r1.comp 1)<|NP (r1.comp 0)<|.test ((r1.comp 0).isNil) (.done 2 [.v (.pointer none),VS x0] []) (.test (ae ((r1.comp 1).toStr)==ae (mk [])) (.done 2 [.v (.pointer none),VS x0] []) (.ai (cq 1 [[(r1.comp 0)]]/\((o48_1.length)+([[(r1.comp 0)]]:List (List AV)).length)*8<=140737488355328)<|.ai (0<=(1:Int)/\(1:Int)<=(ah ((r1.comp 1).toStr):Int)/\(ah ((r1.comp 1).toStr):Int)<=(ah ((r1.comp 1).toStr):Int))<|.ai (0<=(0:Int)/\(0:Int)<ah ((r1.comp 1).toStr))<|.test ((bt ((r1.comp 1).toStr) 0)==(41:Int)) (.done 2 [.ptr [VS o48_0,.sl (o48_1++([[(r1.comp 0)]]:List (List AV)))],VS (cx ((r1.comp 1).toStr) (bP 1) (bP (ah ((r1.comp 1).toStr):Int)))] []) (.ai (0<=(0:Int)/\(0:Int)<ah ((r1.comp 1).toStr))<|.test ((bt ((r1.comp 1).toStr) 0) != (32:Int)) (.done 2 [.v (.pointer none),VS x0] []) (.done 0 [VS x0,VI x1,VS (cx ((r1.comp 1).toStr) (bP 1) (bP (ah ((r1.comp 1).toStr):Int)))] [.cells [VS o48_0,.any],.vec 1 (o48_1++([[(r1.comp 0)]]:List (List AV)))]))))
abbrev Ir:=cC Tryz.prog 84 N9 Ic
theorem Tr(x0:ByteArray)(x1:Int)(x7:ByteArray)(o48_0:ByteArray)(o48_1:List (List AV))(h:kF 84 (N7 x0 x1 x7 o48_0 o48_1) Ir U):Ir [VS x0,VI x1,VS x7] [.cells [VS o48_0,.any],.vec 1 o48_1] U :=
 gQ J2 h
def QN(a0:ByteArray):Tree :=
 .call 145 [VS a0,VS (mk [120,121,122])] [] fun r1 o1=>NB r1<|.done 0 [VB r1.toBool] []
theorem Uo(a0:ByteArray)(h:dm 5 (QN a0) R):aq Tryz.prog 117 [VS a0] [] R :=
 uQ (ag (az _) aB) (oQ [] Tryz.f117 h)
def QR(a0:ByteArray):Tree :=
 .call 145 [VS a0,VS (mk [116])] [] fun r1 o1=>NB r1<|.done 0 [VB r1.toBool] []
theorem Sq(a0:ByteArray)(h:dm 5 (QR a0) R):aq Tryz.prog 118 [VS a0] [] R :=
 uQ (ag (az _) aB) (oQ [] Tryz.f118 h)
def Cl(a0:AV)(a1:ByteArray)(a2:Int):Tree :=
 NZ a0<|NZ a0<|oy (a0.deref.drop 1)<|NL ((a0.deref.drop 1).hA)<|.test (((((a0.deref.drop 1).hA).elems).length:Int)==a2) (NZ a0<|NZ a0<|oy (a0.deref.drop 1)<|NG ((a0.deref.drop 1).hA) 0 1<|eg (((a0.deref.drop 1).hA).ix (0:Int))<|NZ ((((a0.deref.drop 1).hA).ix (0:Int)).hA)<|NZ ((((a0.deref.drop 1).hA).ix (0:Int)).hA)<|.ai (LK.has .str (((((a0.deref.drop 1).hA).ix (0:Int)).hA).deref.hA)/\1<=(((((a0.deref.drop 1).hA).ix (0:Int)).hA).deref).length)<|.done 0 [VB (ae ((((((a0.deref.drop 1).hA).ix (0:Int)).hA).deref.hA).toStr)==ae a1)] []) (.done 0 [VB false] [])
theorem KT(a0:AV)(a1:ByteArray)(a2:Int)(ha0:LK.has .ptr a0)(h:dm 27 (Cl a0 a1 a2) R):aq Tryz.prog 119 [a0,VS a1,VI a2] [] R :=
 uQ (ag (bJ ha0) (ag (az _) (ag (az _) aB))) (oQ [] Tryz.f119 h)
def Pd(a0:Int)(a1:AV)(a2:AV):Tree :=
 .done 0 [.ptr [.v (.int .u8 a0),VS (mk []),VI 0,a1,a2]] []
theorem RR(a0:Int)(a1:AV)(a2:AV)(ha1:LK.has .ptr a1)(ha2:LK.has .ptr a2)(h:dm 12 (Pd a0 a1 a2) R):aq Tryz.prog 121 [.v (.int .u8 a0),a1,a2] [] R :=
 uQ (ag (az _) (ag (bJ ha1) (ag (bJ ha2) aB))) (oQ [] Tryz.f121 h)
def QG(a0:AV):Tree :=
 .call 147 [a0,.fn 148 [.ref 0 0]] [.cells [.vec 1],.vec 1 []] fun r1 o1=>.ai ((o1.hO)=.cells (o1.hO).cs)<|.ai (aH [.vec 1] ((o1.hO).cs) 0 1 o1.tail)<|.done 0 [.sl ((o1.tail.hO).es)] []
theorem TN(a0:AV)(ha0:LK.has .ptr a0)(h:dm 9 (QG a0) R):aq Tryz.prog 122 [a0] [] R :=
 uQ (ag (bJ ha0) aB) (oQ [] Tryz.f122 h)
def Hc:LI:={hd:={bR:=[(0,.k .ptr),(1,.k .sl),(9,.k .str)],refs:=[(3,0),(4,1)],ct:=[(0,[.lk .sl]),(1,[.lk (.int .i64)])],w4:=[(2,123,[none,some 0,some 1])]},xs:={bR:=[(0,.k .ptr),(1,.k .sl),(9,.k .str)],ct:=[(0,[.lk .sl]),(1,[.lk (.int .i64)])],w4:=[(2,123,[none,some 0,some 1])]},rt:={ct:=[(0,[.lk .sl]),(1,[.lk (.int .i64)])]},ex:=1,fx:=[0,1]}
def LP:Code:=cK (cD Tryz.f123) 12
def O4:List (Nat×LI):=[(12,Hc)]
def GG(a0:AV)(a1:AV)(a3_0:AV)(a4_0:Int):Tree :=
 NZ a0<|NZ a0<|.ai (LK.has (.int .u8) (a0.deref.hA)/\1<=a0.deref.length)<|.test (((a0.deref.hA).toInt)==(110:Int)) (NZ a0<|NZ a0<|lF (a0.deref.drop 1)<|.done 0 [VS (((a0.deref.drop 1).hA).toStr)] [.cells [a3_0],.cells [VI a4_0]]) (.test (((a0.deref.hA).toInt)==(98:Int)) (NL a1<|NZ a0<|NZ a0<|.ai (LK.has (.int .i64) ((a0.deref.drop 2).hA)/\1<=(a0.deref.drop 2).length)<|.ai (LK.has .sl a1/\0<=(IntKind.wrap .i64 ((IntKind.wrap .i64 ((a1.elems.length:Int)-1))-(((a0.deref.drop 2).hA).toInt)))/\(IntKind.wrap .i64 ((IntKind.wrap .i64 ((a1.elems.length:Int)-1))-(((a0.deref.drop 2).hA).toInt)))<a1.elems.length/\(a1.ix (IntKind.wrap .i64 ((IntKind.wrap .i64 ((a1.elems.length:Int)-1))-(((a0.deref.drop 2).hA).toInt)))).length=1)<|lF (a1.ix (IntKind.wrap .i64 ((IntKind.wrap .i64 ((a1.elems.length:Int)-1))-(((a0.deref.drop 2).hA).toInt))))<|.done 0 [VS (((a1.ix (IntKind.wrap .i64 ((IntKind.wrap .i64 ((a1.elems.length:Int)-1))-(((a0.deref.drop 2).hA).toInt)))).hA).toStr)] [.cells [a3_0],.cells [VI a4_0]]) (.test (((a0.deref.hA).toInt)==(43:Int)) (NZ a0<|NZ a0<|eg (a0.deref.drop 3)<|.call 123 [((a0.deref.drop 3).hA),a1,.hG 123 [none,some 0,some 1],.ref 0 0,.ref 1 0] [.cells [a3_0],.cells [VI a4_0]] fun r1 o1=>.ai ((o1.hO)=.cells (o1.hO).cs)<|.ai (aH [.lk .sl] ((o1.hO).cs) 0 1 o1.tail)<|.ai ((o1.tail.hO)=.cells (o1.tail.hO).cs)<|.ai (aH [.lk (.int .i64)] ((o1.tail.hO).cs) 0 2 o1.tail.tail)<|NS r1<|NZ a0<|NZ a0<|.ai (LK.has (.int .u8) (a0.deref.hA)/\1<=a0.deref.length)<|.ai (jX [[.v (.int .u8 ((a0.deref.hA).toInt))]])<|.ai (ah (mk [40])+ah (⟨(bytesOf [[.v (.int .u8 ((a0.deref.hA).toInt))]]).toArray⟩)<=9223372036854775807)<|.ai (ah (((mk [40]):ByteArray)++(⟨(bytesOf [[.v (.int .u8 ((a0.deref.hA).toInt))]]).toArray⟩))+ah (mk [32])<=9223372036854775807)<|.ai (ah (((((mk [40]):ByteArray)++(⟨(bytesOf [[.v (.int .u8 ((a0.deref.hA).toInt))]]).toArray⟩)):ByteArray)++(mk [32]))+ah r1.toStr<=9223372036854775807)<|.ai (ah (((((((mk [40]):ByteArray)++(⟨(bytesOf [[.v (.int .u8 ((a0.deref.hA).toInt))]]).toArray⟩)):ByteArray)++(mk [32])):ByteArray)++r1.toStr)+ah (mk [32])<=9223372036854775807)<|NZ a0<|NZ a0<|eg (a0.deref.drop 4)<|.call 123 [((a0.deref.drop 4).hA),a1,.hG 123 [none,some 0,some 1],.ref 0 0,.ref 1 0] [.cells [((o1.hO).cs.getD 0 .any)],.cells [VI (((o1.tail.hO).cs.getD 0 .any).toInt)]] fun r2 o2=>.ai ((o2.hO)=.cells (o2.hO).cs)<|.ai (aH [.lk .sl] ((o2.hO).cs) 0 1 o2.tail)<|.ai ((o2.tail.hO)=.cells (o2.tail.hO).cs)<|.ai (aH [.lk (.int .i64)] ((o2.tail.hO).cs) 0 2 o2.tail.tail)<|NS r2<|.ai (ah (((((((((mk [40]):ByteArray)++(⟨(bytesOf [[.v (.int .u8 ((a0.deref.hA).toInt))]]).toArray⟩)):ByteArray)++(mk [32])):ByteArray)++r1.toStr):ByteArray)++(mk [32]))+ah r2.toStr<=9223372036854775807)<|.ai (ah (((((((((((mk [40]):ByteArray)++(⟨(bytesOf [[.v (.int .u8 ((a0.deref.hA).toInt))]]).toArray⟩)):ByteArray)++(mk [32])):ByteArray)++r1.toStr):ByteArray)++(mk [32])):ByteArray)++r2.toStr)+ah (mk [41])<=9223372036854775807)<|.done 0 [VS (((((((((((((mk [40]):ByteArray)++(⟨(bytesOf [[.v (.int .u8 ((a0.deref.hA).toInt))]]).toArray⟩)):ByteArray)++(mk [32])):ByteArray)++r1.toStr):ByteArray)++(mk [32])):ByteArray)++r2.toStr):ByteArray)++(mk [41]))] [.cells [((o2.hO).cs.getD 0 .any)],.cells [VI (((o2.tail.hO).cs.getD 0 .any).toInt)]]) (.test (((a0.deref.hA).toInt)==(42:Int)) (NZ a0<|NZ a0<|eg (a0.deref.drop 3)<|.call 123 [((a0.deref.drop 3).hA),a1,.hG 123 [none,some 0,some 1],.ref 0 0,.ref 1 0] [.cells [a3_0],.cells [VI a4_0]] fun r3 o3=>.ai ((o3.hO)=.cells (o3.hO).cs)<|.ai (aH [.lk .sl] ((o3.hO).cs) 0 1 o3.tail)<|.ai ((o3.tail.hO)=.cells (o3.tail.hO).cs)<|.ai (aH [.lk (.int .i64)] ((o3.tail.hO).cs) 0 2 o3.tail.tail)<|NS r3<|NZ a0<|NZ a0<|.ai (LK.has (.int .u8) (a0.deref.hA)/\1<=a0.deref.length)<|.ai (jX [[.v (.int .u8 ((a0.deref.hA).toInt))]])<|.ai (ah (mk [40])+ah (⟨(bytesOf [[.v (.int .u8 ((a0.deref.hA).toInt))]]).toArray⟩)<=9223372036854775807)<|.ai (ah (((mk [40]):ByteArray)++(⟨(bytesOf [[.v (.int .u8 ((a0.deref.hA).toInt))]]).toArray⟩))+ah (mk [32])<=9223372036854775807)<|.ai (ah (((((mk [40]):ByteArray)++(⟨(bytesOf [[.v (.int .u8 ((a0.deref.hA).toInt))]]).toArray⟩)):ByteArray)++(mk [32]))+ah r3.toStr<=9223372036854775807)<|.ai (ah (((((((mk [40]):ByteArray)++(⟨(bytesOf [[.v (.int .u8 ((a0.deref.hA).toInt))]]).toArray⟩)):ByteArray)++(mk [32])):ByteArray)++r3.toStr)+ah (mk [32])<=9223372036854775807)<|NZ a0<|NZ a0<|eg (a0.deref.drop 4)<|.call 123 [((a0.deref.drop 4).hA),a1,.hG 123 [none,some 0,some 1],.ref 0 0,.ref 1 0] [.cells [((o3.hO).cs.getD 0 .any)],.cells [VI (((o3.tail.hO).cs.getD 0 .any).toInt)]] fun r4 o4=>.ai ((o4.hO)=.cells (o4.hO).cs)<|.ai (aH [.lk .sl] ((o4.hO).cs) 0 1 o4.tail)<|.ai ((o4.tail.hO)=.cells (o4.tail.hO).cs)<|.ai (aH [.lk (.int .i64)] ((o4.tail.hO).cs) 0 2 o4.tail.tail)<|NS r4<|.ai (ah (((((((((mk [40]):ByteArray)++(⟨(bytesOf [[.v (.int .u8 ((a0.deref.hA).toInt))]]).toArray⟩)):ByteArray)++(mk [32])):ByteArray)++r3.toStr):ByteArray)++(mk [32]))+ah r4.toStr<=9223372036854775807)<|.ai (ah (((((((((((mk [40]):ByteArray)++(⟨(bytesOf [[.v (.int .u8 ((a0.deref.hA).toInt))]]).toArray⟩)):ByteArray)++(mk [32])):ByteArray)++r3.toStr):ByteArray)++(mk [32])):ByteArray)++r4.toStr)+ah (mk [41])<=9223372036854775807)<|.done 0 [VS (((((((((((((mk [40]):ByteArray)++(⟨(bytesOf [[.v (.int .u8 ((a0.deref.hA).toInt))]]).toArray⟩)):ByteArray)++(mk [32])):ByteArray)++r3.toStr):ByteArray)++(mk [32])):ByteArray)++r4.toStr):ByteArray)++(mk [41]))] [.cells [((o4.hO).cs.getD 0 .any)],.cells [VI (((o4.tail.hO).cs.getD 0 .any).toInt)]]) (.test (((a0.deref.hA).toInt)==(114:Int)) (.loop LP Hc [a0,a1,VS (mk [])] [.cells [a3_0],.cells [VI a4_0]] (fun y8 q8=>NP (y8.hA)<|NL (y8.tail.hA)<|NS (y8.tail.tail.hA)<|.ai ((q8.hO)=.cells (q8.hO).cs)<|.ai (af [.lk .sl] ((q8.hO).cs) 0 q8.tail)<|.ai (((q8.tail.drop 0).hO)=.cells ((q8.tail.drop 0).hO).cs)<|.ai (af [.lk (.int .i64)] (((q8.tail.drop 0).hO).cs) 0 ((q8.tail.drop 0).tail))<|.ai (ah (mk [40,114,101,99,32])+ah ((y8.tail.tail.hA).toStr)<=9223372036854775807)<|.ai (ah (((mk [40,114,101,99,32]):ByteArray)++((y8.tail.tail.hA).toStr))+ah (mk [32])<=9223372036854775807)<|NZ (y8.hA)<|NZ (y8.hA)<|eg ((y8.hA).deref.drop 3)<|.ai (LK.has .sl (y8.tail.hA)/\cq 1 ((y8.tail.hA).elems)/\((([]:List (List AV)).length)+((y8.tail.hA).elems).length)*16<=140737488355328)<|.ai (cq 1 [[VS ((y8.tail.tail.hA).toStr)]]/\(((([]:List (List AV))++((y8.tail.hA).elems)).length)+([[VS ((y8.tail.tail.hA).toStr)]]:List (List AV)).length)*16<=140737488355328)<|.call 123 [(((y8.hA).deref.drop 3).hA),.sl ((([]:List (List AV))++((y8.tail.hA).elems))++([[VS ((y8.tail.tail.hA).toStr)]]:List (List AV))),.hG 123 [none,some 0,some 1],.ref 0 0,.ref 1 0] [.cells [((q8.hO).cs.getD 0 .any)],.cells [VI (((q8.tail.hO).cs.getD 0 .any).toInt)]] fun r9 o9=>.ai ((o9.hO)=.cells (o9.hO).cs)<|.ai (aH [.lk .sl] ((o9.hO).cs) 0 1 o9.tail)<|.ai ((o9.tail.hO)=.cells (o9.tail.hO).cs)<|.ai (aH [.lk (.int .i64)] ((o9.tail.hO).cs) 0 2 o9.tail.tail)<|NS r9<|.ai (ah (((((mk [40,114,101,99,32]):ByteArray)++((y8.tail.tail.hA).toStr)):ByteArray)++(mk [32]))+ah r9.toStr<=9223372036854775807)<|.ai (ah (((((((mk [40,114,101,99,32]):ByteArray)++((y8.tail.tail.hA).toStr)):ByteArray)++(mk [32])):ByteArray)++r9.toStr)+ah (mk [41])<=9223372036854775807)<|.done 0 [VS (((((((((mk [40,114,101,99,32]):ByteArray)++((y8.tail.tail.hA).toStr)):ByteArray)++(mk [32])):ByteArray)++r9.toStr):ByteArray)++(mk [41]))] [.cells [((o9.hO).cs.getD 0 .any)],.cells [VI (((o9.tail.hO).cs.getD 0 .any).toInt)]]) (fun y8 q8=>.ai ((q8.hO)=.cells (q8.hO).cs)<|.ai (af [.lk .sl] ((q8.hO).cs) 0 q8.tail)<|.ai (((q8.tail.drop 0).hO)=.cells ((q8.tail.drop 0).hO).cs)<|.ai (af [.lk (.int .i64)] (((q8.tail.drop 0).hO).cs) 0 ((q8.tail.drop 0).tail))<|.done 0 [.any] [.cells [((q8.hO).cs.getD 0 .any)],.cells [VI (((q8.tail.hO).cs.getD 0 .any).toInt)]])) (NZ a0<|NZ a0<|.ai (LK.has (.int .u8) (a0.deref.hA)/\1<=a0.deref.length)<|.ai (jX [[.v (.int .u8 ((a0.deref.hA).toInt))]])<|.done 0 [VS (⟨(bytesOf [[.v (.int .u8 ((a0.deref.hA).toInt))]]).toArray⟩)] [.cells [a3_0],.cells [VI a4_0]])))))
theorem yx(a0:AV)(a1:AV)(a3_0:AV)(a4_0:Int)(ha0:LK.has .ptr a0)(ha1:LK.has .sl a1)(ha3_0:LK.has .sl a3_0)(h:dm 100 (GG a0 a1 a3_0 a4_0) R):aq Tryz.prog 123 [a0,a1,.hG 123 [none,some 0,some 1],.ref 0 0,.ref 1 0] [.cells [a3_0],.cells [VI a4_0]] R :=
 aq.om (bH (cr (ag (bM ha3_0) aB)) (bH (cr (ag (az _) aB)) cE)) (aq.up (ag (bJ ha0) (ag (bM ha1) (ag (az _) (ag (az _) (ag (az _) aB))))) (oF O4 {mu:=[(2,.rb 123 [none,some 0,some 1]),(3,.one (.obj [.lk .sl])),(4,.one (.obj [.lk (.int .i64)]))],own:=[]} Tryz.f123 h))
def Hp(x0:AV)(x1:AV)(x9:ByteArray)(o0_0:AV)(o1_0:Int):Tree :=
 NP x0<|NL x1<|NS (VS x9)<|.ai (Ob.cells [o0_0]=.cells [o0_0])<|.ai (af [.lk .sl] [o0_0] 0 [.cells [VI o1_0]])<|.ai (Ob.cells [VI o1_0]=.cells [VI o1_0])<|.ai (af [.lk (.int .i64)] [VI o1_0] 0 [])<|.test (ae x9==ae (mk [])) (.call 120 [VI o1_0] [] fun r1 o1=>NS r1<|.ai (ah (mk [116])+ah r1.toStr<=9223372036854775807)<|.done 0 [x0,x1,VS (((mk [116]):ByteArray)++r1.toStr)] [.cells [o0_0],.cells [VI (IntKind.wrap .i64 (o1_0+1))]]) (.call 124 [o0_0,VS x9] [] fun r2 o2=>NB r2<|.test r2.toBool (.call 120 [VI o1_0] [] fun r3 o3=>NS r3<|.ai (ah (mk [116])+ah r3.toStr<=9223372036854775807)<|.done 0 [x0,x1,VS (((mk [116]):ByteArray)++r3.toStr)] [.cells [o0_0],.cells [VI (IntKind.wrap .i64 (o1_0+1))]]) (.done 1 [x0,x1,VS x9] [.cells [o0_0],.cells [VI o1_0]]))
abbrev E0:=cC Tryz.prog 100 LP Hc
theorem OE(x0:AV)(x1:AV)(x9:ByteArray)(o0_0:AV)(o1_0:Int)(h:kF 100 (Hp x0 x1 x9 o0_0 o1_0) E0 U):E0 [x0,x1,VS x9] [.cells [o0_0],.cells [VI o1_0]] U :=
 gQ O4 h
def Qz(a0:AV)(a1:ByteArray):Tree :=
 .call 149 [a0,VS a1] [] fun r1 o1=>NI r1<|.done 0 [VB (decide (r1.toInt≥(0:Int)))] []
theorem SU(a0:AV)(a1:ByteArray)(ha0:LK.has .sl a0)(h:dm 9 (Qz a0 a1) R):aq Tryz.prog 124 [a0,VS a1] [] R :=
 uQ (ag (bM ha0) (ag (az _) aB)) (oQ [] Tryz.f124 h)
def MB(a0:AV):Tree :=
 .call 122 [a0] [] fun r1 o1=>NL r1<|.call 150 [r1,.v (.func (.func 118) #[] #[])] [] fun r2 o2=>NB r2<|.done 0 [VB (!r2.toBool)] []
theorem UG(a0:AV)(ha0:LK.has .ptr a0)(h:dm 7 (MB a0) R):aq Tryz.prog 125 [a0] [] R :=
 uQ (ag (bJ ha0) aB) (oQ [] Tryz.f125 h)
def Je:LI:={hd:={bR:=[(3,.k .ptr),(10,.k (.int .i64)),(11,.k (.int .i64))]},xs:={bR:=[(3,.k .ptr)]},rt:={},ex:=0}
def Nt:Code:=cK (cD Tryz.f127) 3
def Nc:List (Nat×LI):=[(3,Je)]
def J0(a0_0:AV)(a0_1:AV):Tree :=
 NZ a0_0<|NZ a0_0<|.ai (LK.has (.int .i64) ((a0_0.deref.drop 2).hA)/\1<=(a0_0.deref.drop 2).length)<|.loop Nt Je [a0_1,VI (((a0_0.deref.drop 2).hA).toInt),VI 0] [] (fun y1 q1=>NP (y1.hA)<|NZ (y1.hA)<|NZ (y1.hA)<|.ai (LK.has .ptr ((y1.hA).deref.hA)/\1<=((y1.hA).deref).length)<|.done 0 [((y1.hA).deref.hA)] []) (fun y1 q1=>.done 0 [.any] [])
theorem Qu(a0_0:AV)(a0_1:AV)(ha0_0:LK.has .ptr a0_0)(ha0_1:LK.has .ptr a0_1)(h:dm 22 (J0 a0_0 a0_1) R):aq Tryz.prog 127 [.agg [a0_0,a0_1]] [] R :=
 uQ (ag (bW (ag (bJ ha0_0) (ag (bJ ha0_1) aB))) aB) (oQ Nc Tryz.f127 h)
def DO(x3:AV)(x10:Int)(x11:Int):Tree :=
 NP x3<|NI (VI x10)<|NI (VI x11)<|.test (decide (x11<x10)) (NZ x3<|NZ x3<|eg (x3.deref.drop 1)<|.done 0 [((x3.deref.drop 1).hA),VI x10,VI (IntKind.wrap .i64 (x11+1))] []) (.done 1 [x3] [])
abbrev Fh:=cC Tryz.prog 22 Nt Je
theorem Fx(x3:AV)(x10:Int)(x11:Int)(h:kF 22 (DO x3 x10 x11) Fh U):Fh [x3,VI x10,VI x11] [] U :=
 gQ Nc h
def P9(a0:ByteArray):Tree :=
 .test (decide ((ah a0:Int)<(2:Int))) (.done 0 [VB false] []) (.test (decide ((ah a0:Int)>(3:Int))) (.done 0 [VB false] []) (.ai (0<=(0:Int)/\(0:Int)<ah a0)<|.test ((bt a0 0) != (101:Int)) (.done 0 [VB false] []) (.ai (0<=(1:Int)/\(1:Int)<=(ah a0:Int)/\(ah a0:Int)<=(ah a0:Int))<|.call 153 [VS (cx a0 (bP 1) (bP (ah a0:Int))),VS (mk [48,49,50,51,52,53,54,55,56,57])] [] fun r1 o1=>NS r1<|.test (!(ae r1.toStr==ae (mk []))) (.done 0 [VB false] []) (.test ((ah a0:Int)==(2:Int)) (.done 0 [VB true] []) (.ai (0<=(1:Int)/\(1:Int)<ah a0)<|.done 0 [VB ((bt a0 1) != (48:Int))] [])))))
theorem S7(a0:ByteArray)(h:dm 30 (P9 a0) R):aq Tryz.prog 128 [VS a0] [] R :=
 uQ (ag (az _) aB) (oQ [] Tryz.f128 h)
def ON(a0:AV)(a1:ByteArray):Tree :=
 .ai (LK.has .sl a0/\cq 1 a0.elems/\((([]:List (List AV)).length)+a0.elems.length)*16<=140737488355328)<|.ai (cq 1 [[VS a1]]/\(((([]:List (List AV))++a0.elems).length)+([[VS a1]]:List (List AV)).length)*16<=140737488355328)<|.done 0 [.vec 0] [.vec 1 ((([]:List (List AV))++a0.elems)++([[VS a1]]:List (List AV)))]
theorem RI(a0:AV)(a1:ByteArray)(ha0:LK.has .sl a0)(h:dm 11 (ON a0 a1) R):aq Tryz.prog 129 [a0,VS a1] [] R :=
 uQ (ag (bM ha0) (ag (az _) aB)) (oF [] {mu:=[],own:=[0]} Tryz.f129 h)
def I0:LI:={hd:={bR:=[(3,.k .str),(7,.k (.int .i64))],refs:=[(1,1)],ct:=[(1,[.lk .str,.lk .sl,.lk .str])]},xs:={},rt:={bR:=[(2,.k .bool)]},ex:=0}
def Oq:Code:=cK (cD Tryz.f130) 6
def Qx:List (Nat×LI):=[(6,I0)]
def MY(a0_0:ByteArray)(a0_1:AV)(a0_2:ByteArray):Tree :=
 .call 154 [VS a0_0] [] fun r1 o1=>NT r1<|NS (r1.comp 0)<|NB (r1.comp 1)<|.call 26 [VS a0_0] [] fun r2 o2=>NT r2<|.ai ((r2.comp 0)=.agg (r2.comp 0).cs/\(r2.comp 0).cs.length=2/\bE [.str,.sl] ((r2.comp 0).cs) 0)<|NB (r2.comp 1)<|.test (!((r1.comp 1).toBool)) (.done 0 [VB false] []) (.test (!((r2.comp 1).toBool)) (.done 0 [VB false] []) (NL a0_1<|.test (decide ((a0_1.elems.length:Int)>(50:Int))) (.done 0 [VB false] []) (.call 27 [VS a0_0,VS a0_2,VI 100] [] fun r3 o3=>NB r3<|.test (!r3.toBool) (.done 0 [VB false] []) (.loop Oq I0 [VS ((r1.comp 0).toStr),VI 0] [.cells [VS a0_0,a0_1,VS a0_2]] (fun y5 q5=>.done 0 [VB true] []) (fun y5 q5=>NB (y5.hA)<|.done 0 [VB ((y5.hA).toBool)] [])))))
theorem UL(a0_0:ByteArray)(a0_1:AV)(a0_2:ByteArray)(ha0_1:LK.has .sl a0_1)(h:dm 55 (MY a0_0 a0_1 a0_2) R):aq Tryz.prog 130 [.agg [VS a0_0,a0_1,VS a0_2]] [] R :=
 uQ (ag (bW (ag (az _) (ag (bM ha0_1) (ag (az _) aB)))) aB) (oQ Qx Tryz.f130 h)
def Jq(x3:ByteArray)(x7:Int)(o1_0:ByteArray)(o1_1:AV)(o1_2:ByteArray):Tree :=
 NS (VS x3)<|NI (VI x7)<|.ai (Ob.cells [VS o1_0,o1_1,VS o1_2]=.cells [VS o1_0,o1_1,VS o1_2])<|.ai (af [.lk .str,.lk .sl,.lk .str] [VS o1_0,o1_1,VS o1_2] 0 [])<|NL o1_1<|.test (decide (x7<(o1_1.elems.length:Int))) (NG o1_1 x7 1<|lF (o1_1.ix x7)<|.call 27 [VS x3,VS (((o1_1.ix x7).hA).toStr),VI 100] [] fun r1 o1=>NB r1<|.test (!r1.toBool) (.done 2 [VB false] []) (.done 0 [VS x3,VI (IntKind.wrap .i64 (x7+1))] [.cells [VS o1_0,o1_1,VS o1_2]])) (.done 1 [] [])
abbrev JQ:=cC Tryz.prog 55 Oq I0
theorem Oy(x3:ByteArray)(x7:Int)(o1_0:ByteArray)(o1_1:AV)(o1_2:ByteArray)(h:kF 55 (Jq x3 x7 o1_0 o1_1 o1_2) JQ U):JQ [VS x3,VI x7] [.cells [VS o1_0,o1_1,VS o1_2]] U :=
 gQ Qx h
def K2(a0_0:ByteArray)(a0_1:AV)(a0_2:ByteArray):Tree :=
 NL a0_1<|.test ((a0_1.elems.length:Int)==(0:Int)) (.done 0 [.cv [.agg [VS a0_0,a0_1,VS a0_2],VB false]] []) (.ai (LK.has .sl a0_1/\0<=(IntKind.wrap .i64 ((a0_1.elems.length:Int)-1))/\(IntKind.wrap .i64 ((a0_1.elems.length:Int)-1))<a0_1.elems.length/\(a0_1.ix (IntKind.wrap .i64 ((a0_1.elems.length:Int)-1))).length=1)<|lF (a0_1.ix (IntKind.wrap .i64 ((a0_1.elems.length:Int)-1)))<|.call 155 [VS a0_0,VS (((a0_1.ix (IntKind.wrap .i64 ((a0_1.elems.length:Int)-1))).hA).toStr),VS a0_2] [] fun r1 o1=>NT r1<|NS (r1.comp 0)<|NB (r1.comp 1)<|.ai (LK.has .sl a0_1/\0<=(0:Int)/\(0:Int)<=(IntKind.wrap .i64 ((a0_1.elems.length:Int)-1))/\(IntKind.wrap .i64 ((a0_1.elems.length:Int)-1))<=(a0_1.elems.length:Int))<|.ai (cq 1 ((a0_1.elems.take (bP (IntKind.wrap .i64 ((a0_1.elems.length:Int)-1)))).drop (bP 0))/\((([]:List (List AV)).length)+((a0_1.elems.take (bP (IntKind.wrap .i64 ((a0_1.elems.length:Int)-1)))).drop (bP 0)).length)*16<=140737488355328)<|.done 0 [.cv [.agg [VS a0_0,.sl (([]:List (List AV))++((a0_1.elems.take (bP (IntKind.wrap .i64 ((a0_1.elems.length:Int)-1)))).drop (bP 0))),VS ((r1.comp 0).toStr)],VB ((r1.comp 1).toBool)]] [])
theorem TB(a0_0:ByteArray)(a0_1:AV)(a0_2:ByteArray)(ha0_1:LK.has .sl a0_1)(h:dm 39 (K2 a0_0 a0_1 a0_2) R):aq Tryz.prog 131 [.agg [VS a0_0,a0_1,VS a0_2]] [] R :=
 uQ (ag (bW (ag (az _) (ag (bM ha0_1) (ag (az _) aB)))) aB) (oQ [] Tryz.f131 h)
def I9:LI:={hd:={bR:=[(2,.k .sl),(9,.k .sl),(10,.k (.int .i64))],refs:=[(4,4)],ct:=[(4,[.lk .str,.lk .sl])],eM:=[(3,3)]},xs:={eM:=[(3,3)]},rt:={},ex:=0}
def KW:Code:=cK (cD Tryz.f132) 4
def LY:List (Nat×LI):=[(4,I9)]
def Ln(a0_0:ByteArray)(a0_1:AV)(a1_0:ByteArray)(a1_1:AV)(a2:AV)(e3:List (List AV)):Tree :=
 .call 60 [.agg [VS a1_0,a1_1]] [] fun r1 o1=>NS r1<|.ai (cq 3 [[a2,VS r1.toStr,VS (mk [])]]/\((e3.length)+([[a2,VS r1.toStr,VS (mk [])]]:List (List AV)).length)*56<=140737488355328)<|NG a0_1 2 2<|NE (a0_1.ix (2:Int))<|NG a0_1 1 2<|lF (a0_1.ix (1:Int))<|NG a1_1 1 2<|NE (a1_1.ix (1:Int))<|.call 37 [.agg [VS (((a0_1.ix (2:Int)).getD 0 .any).toStr),((a0_1.ix (2:Int)).getD 1 .any)],VS (((a0_1.ix (1:Int)).hA).toStr),.agg [VS (((a1_1.ix (1:Int)).getD 0 .any).toStr),((a1_1.ix (1:Int)).getD 1 .any)]] [] fun r2 o2=>NL r2<|.loop KW I9 [a2,r2,VI 0] [.cells [VS a0_0,a0_1],.vec 3 (e3++([[a2,VS r1.toStr,VS (mk [])]]:List (List AV)))] (fun y4 q4=>.ai (((q4.drop 0).hO)=.vec 3 ((q4.drop 0).hO).es)<|.done 0 [.vec 1] [.dead,.vec 3 ((q4.hO).es)]) (fun y4 q4=>.fail)
theorem Ro(a0_0:ByteArray)(a0_1:AV)(a1_0:ByteArray)(a1_1:AV)(a2:AV)(e3:List (List AV))(ha0_1:LK.has .sl a0_1)(ha1_1:LK.has .sl a1_1)(ha2:LK.has .sl a2)(h:dm 58 (Ln a0_0 a0_1 a1_0 a1_1 a2 e3) R):aq Tryz.prog 132 [.agg [VS a0_0,a0_1],.agg [VS a1_0,a1_1],a2,.vec 0] [.vec 3 e3] R :=
 aq.om (bH (fN _) cE) (aq.up (ag (bW (ag (az _) (ag (bM ha0_1) aB))) (ag (bW (ag (az _) (ag (bM ha1_1) aB))) (ag (bM ha2) (ag (az _) aB)))) (oF LY {mu:=[(3,.one (.vec))],own:=[0]} Tryz.f132 h))
def JJ(x2:AV)(x9:AV)(x10:Int)(o4_0:ByteArray)(o4_1:AV)(e3:List (List AV)):Tree :=
 NL x2<|NL x9<|NI (VI x10)<|.ai (Ob.cells [VS o4_0,o4_1]=.cells [VS o4_0,o4_1])<|.ai (af [.lk .str,.lk .sl] [VS o4_0,o4_1] 0 [.vec 3 e3])<|.ai (Ob.vec 3 e3=.vec 3 e3)<|NL x9<|.test (decide (x10<(x9.elems.length:Int))) (.test (decide ((e3.length:Int)<=(100:Int))) (NG x9 x10 4<|NE ((x9.ix x10).drop 2)<|.ai (LK.has .sl x2/\cq 1 x2.elems/\((([]:List (List AV)).length)+x2.elems.length)*8<=140737488355328)<|.ai (cq 1 [[VI x10]]/\(((([]:List (List AV))++x2.elems).length)+([[VI x10]]:List (List AV)).length)*8<=140737488355328)<|.call 132 [.agg [VS o4_0,o4_1],.agg [VS ((((x9.ix x10).drop 2).getD 0 .any).toStr),(((x9.ix x10).drop 2).getD 1 .any)],.sl ((([]:List (List AV))++x2.elems)++([[VI x10]]:List (List AV))),.vec 0] [.vec 3 e3] fun r1 o1=>.ai (r1=.vec 1/\(o1.tail.hO)=.vec 3 (o1.tail.hO).es)<|.done 0 [x2,x9,VI (IntKind.wrap .i64 (x10+1))] [.cells [VS o4_0,o4_1],.vec 3 ((o1.tail.hO).es)]) (.done 1 [] [.vec 3 e3])) (.done 1 [] [.vec 3 e3])
abbrev Hg:=cC Tryz.prog 58 KW I9
theorem LG(x2:AV)(x9:AV)(x10:Int)(o4_0:ByteArray)(o4_1:AV)(e3:List (List AV))(h:kF 58 (JJ x2 x9 x10 o4_0 o4_1 e3) Hg U):Hg [x2,x9,VI x10] [.cells [VS o4_0,o4_1],.vec 3 e3] U :=
 gQ LY h
def Ds(a0_0:ByteArray)(a0_1:AV)(a1:AV):Tree :=
 .call 54 [.agg [VS a0_0,a0_1]] [] fun r1 o1=>NS r1<|.test (ae r1.toStr==ae (mk [43])) (NG a0_1 1 2<|NE (a0_1.ix (1:Int))<|.call 133 [.agg [VS (((a0_1.ix (1:Int)).getD 0 .any).toStr),((a0_1.ix (1:Int)).getD 1 .any)],a1] [] fun r2 o2=>NB r2<|.test r2.toBool (NG a0_1 2 2<|NE (a0_1.ix (2:Int))<|.call 133 [.agg [VS (((a0_1.ix (2:Int)).getD 0 .any).toStr),((a0_1.ix (2:Int)).getD 1 .any)],a1] [] fun r3 o3=>NB r3<|.done 0 [VB r3.toBool] []) (.done 0 [VB false] [])) (.test (ae r1.toStr==ae (mk [42])) (NG a0_1 1 2<|NE (a0_1.ix (1:Int))<|.call 133 [.agg [VS (((a0_1.ix (1:Int)).getD 0 .any).toStr),((a0_1.ix (1:Int)).getD 1 .any)],a1] [] fun r4 o4=>NB r4<|.test r4.toBool (.done 0 [VB true] []) (NG a0_1 2 2<|NE (a0_1.ix (2:Int))<|.call 133 [.agg [VS (((a0_1.ix (2:Int)).getD 0 .any).toStr),((a0_1.ix (2:Int)).getD 1 .any)],a1] [] fun r5 o5=>NB r5<|.done 0 [VB r5.toBool] [])) (.test (ae r1.toStr==ae (mk [114,101,99])) (NG a0_1 2 2<|NE (a0_1.ix (2:Int))<|NG a0_1 1 2<|lF (a0_1.ix (1:Int))<|.call 129 [a1,VS (((a0_1.ix (1:Int)).hA).toStr)] [] fun r6 o6=>.ai (r6=.vec 0/\(o6.hO)=.vec 1 (o6.hO).es)<|.ai (∀x,x∈o6->dP x)<|.call 133 [.agg [VS (((a0_1.ix (2:Int)).getD 0 .any).toStr),((a0_1.ix (2:Int)).getD 1 .any)],.sl ((o6.hO).es)] [] fun r7 o7=>NB r7<|.done 0 [VB r7.toBool] []) (.test (ae a0_0==ae (mk [48])) (.done 0 [VB true] []) (.call 139 [a1,VS a0_0] [] fun r8 o8=>NB r8<|.done 0 [VB r8.toBool] []))))
theorem FQ(a0_0:ByteArray)(a0_1:AV)(a1:AV)(ha0_1:LK.has .sl a0_1)(ha1:LK.has .sl a1)(h:dm 62 (Ds a0_0 a0_1 a1) R):aq Tryz.prog 133 [.agg [VS a0_0,a0_1],a1] [] R :=
 uQ (ag (bW (ag (az _) (ag (bM ha0_1) aB))) (ag (bM ha1) aB)) (oQ [] Tryz.f133 h)
def G2:LI:={hd:={bR:=[(3,.k (.int .i64)),(4,.k (.int .i64))],refs:=[(1,1)],ct:=[(1,[.lk .str,.lk .sl])]},xs:={bR:=[(3,.k (.int .i64))]},rt:={},ex:=0}
def Py:Code:=cK (cD Tryz.f134) 5
def MF:List (Nat×LI):=[(5,G2)]
def Jn(a0_0:ByteArray)(a0_1:AV):Tree :=
 .test (!(ae a0_0==ae (mk []))) (.done 0 [VI 1] []) (.loop Py G2 [VI 0,VI 0] [.cells [VS a0_0,a0_1]] (fun y2 q2=>NI (y2.hA)<|.done 0 [VI ((y2.hA).toInt)] []) (fun y2 q2=>.done 0 [.any] []))
theorem N3(a0_0:ByteArray)(a0_1:AV)(ha0_1:LK.has .sl a0_1)(h:dm 24 (Jn a0_0 a0_1) R):aq Tryz.prog 134 [.agg [VS a0_0,a0_1]] [] R :=
 uQ (ag (bW (ag (az _) (ag (bM ha0_1) aB))) aB) (oQ MF Tryz.f134 h)
def HQ(x3:Int)(x4:Int)(o1_0:ByteArray)(o1_1:AV):Tree :=
 NI (VI x3)<|NI (VI x4)<|.ai (Ob.cells [VS o1_0,o1_1]=.cells [VS o1_0,o1_1])<|.ai (af [.lk .str,.lk .sl] [VS o1_0,o1_1] 0 [])<|NL o1_1<|.test (decide (x4<(o1_1.elems.length:Int))) (NG o1_1 x4 2<|NE (o1_1.ix x4)<|.call 134 [.agg [VS (((o1_1.ix x4).getD 0 .any).toStr),((o1_1.ix x4).getD 1 .any)]] [] fun r1 o1=>NI r1<|.done 0 [VI (IntKind.wrap .i64 (x3+r1.toInt)),VI (IntKind.wrap .i64 (x4+1))] [.cells [VS o1_0,o1_1]]) (.done 1 [VI x3] [])
abbrev Jy:=cC Tryz.prog 24 Py G2
theorem Qy(x3:Int)(x4:Int)(o1_0:ByteArray)(o1_1:AV)(h:kF 24 (HQ x3 x4 o1_0 o1_1) Jy U):Jy [VI x3,VI x4] [.cells [VS o1_0,o1_1]] U :=
 gQ MF h
def P6(a0_0:ByteArray)(a0_1:AV):Tree :=
 NG a0_1 1 2<|lF (a0_1.ix (1:Int))<|NG a0_1 2 2<|NE (a0_1.ix (2:Int))<|.call 156 [.agg [VS (((a0_1.ix (2:Int)).getD 0 .any).toStr),((a0_1.ix (2:Int)).getD 1 .any)],VS (((a0_1.ix (1:Int)).hA).toStr),.agg [VS a0_0,a0_1]] [] fun r1 o1=>NB r1<|.test (!r1.toBool) (.done 0 [.cv [.agg [VS a0_0,a0_1],VB false]] []) (NG a0_1 2 2<|NE (a0_1.ix (2:Int))<|.call 157 [.agg [VS (((a0_1.ix (2:Int)).getD 0 .any).toStr),((a0_1.ix (2:Int)).getD 1 .any)],VS (((a0_1.ix (1:Int)).hA).toStr),.agg [VS a0_0,a0_1]] [] fun r2 o2=>NA r2<|.done 0 [.cv [.agg [VS ((r2.cs.getD 0 .any).toStr),(r2.cs.getD 1 .any)],VB true]] [])
theorem SZ(a0_0:ByteArray)(a0_1:AV)(ha0_1:LK.has .sl a0_1)(h:dm 26 (P6 a0_0 a0_1) R):aq Tryz.prog 135 [.agg [VS a0_0,a0_1]] [] R :=
 uQ (ag (bW (ag (az _) (ag (bM ha0_1) aB))) aB) (oQ [] Tryz.f135 h)
def Pv(a0:Int):Tree :=
 .test (decide (a0<((-9223372036854775807):Int))) (.done 0 [VS (mk [45,57,50,50,51,51,55,50,48,51,54,56,53,52,55,55,53,56,48,56])] []) (.test (decide (a0<(0:Int))) (.call 136 [VI (IntKind.wrap .i64 (0-a0))] [] fun r1 o1=>NS r1<|.ai (ah (mk [45])+ah r1.toStr<=9223372036854775807)<|.done 0 [VS (((mk [45]):ByteArray)++r1.toStr)] []) (.test (decide (a0<(10:Int))) (.ai (jX [[.v (.int .u8 (IntKind.wrap .u8 (IntKind.wrap .i64 (48+a0))))]])<|.done 0 [VS (⟨(bytesOf [[.v (.int .u8 (IntKind.wrap .u8 (IntKind.wrap .i64 (48+a0))))]]).toArray⟩)] []) (.ai (¬(10:Int)=0)<|.call 136 [VI (IntKind.wrap .i64 (Int.tdiv a0 10))] [] fun r2 o2=>NS r2<|.ai (¬(10:Int)=0)<|.ai (jX [[.v (.int .u8 (IntKind.wrap .u8 (IntKind.wrap .i64 (48+(dN a0 10)))))]])<|.ai (ah r2.toStr+ah (⟨(bytesOf [[.v (.int .u8 (IntKind.wrap .u8 (IntKind.wrap .i64 (48+(dN a0 10)))))]]).toArray⟩)<=9223372036854775807)<|.done 0 [VS ((r2.toStr:ByteArray)++(⟨(bytesOf [[.v (.int .u8 (IntKind.wrap .u8 (IntKind.wrap .i64 (48+(dN a0 10)))))]]).toArray⟩))] [])))
theorem Sn(a0:Int)(h:dm 28 (Pv a0) R):aq Tryz.prog 136 [VI a0] [] R :=
 uQ (ag (az _) aB) (oQ [] Tryz.f136 h)
def Hb:LI:={hd:={bR:=[(1,.k .sl),(2,.k .sl),(9,.k (.int .i64))],refs:=[(4,4),(8,8)],ct:=[(4,[.lk .str,.lk .sl]),(8,[.lk .str,.lk .sl]),(0,[.vec 1,.lk (.int .i64)])]},xs:={refs:=[(4,4),(8,8)],ct:=[(4,[.lk .str,.lk .sl]),(8,[.lk .str,.lk .sl]),(0,[.vec 1,.lk (.int .i64)])]},rt:={refs:=[(8,8)],ct:=[(8,[.lk .str,.lk .sl]),(0,[.vec 1,.lk (.int .i64)])]},ex:=0,fx:=[0]}
def Pf:Code:=cK (cD Tryz.f137) 3
def Iu:LI:={hd:={bR:=[(1,.k .sl),(2,.k .sl),(10,.k .str)],refs:=[(3,0),(4,4),(8,8)],ct:=[(0,[.vec 1,.lk (.int .i64)]),(4,[.lk .str,.lk .sl]),(8,[.lk .str,.lk .sl])]},xs:={bR:=[(1,.k .sl),(2,.k .sl),(10,.k .str)],refs:=[(3,0),(4,4),(8,8)],ct:=[(0,[.vec 1,.lk (.int .i64)]),(4,[.lk .str,.lk .sl]),(8,[.lk .str,.lk .sl])]},rt:={ct:=[(0,[.vec 1,.lk (.int .i64)])]},ex:=2,fx:=[0]}
def QO:Code:=cK (cD Tryz.f137) 10
def Hx:List (Nat×LI):=[(3,Hb),(10,Iu)]
end
end Go.Proofs.Trees
