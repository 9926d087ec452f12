/-
  Part of a proof: Go functions read by values, trees of functions, their contracts.
-/
import Derived.Test.YtphdaefkjfbfoaaGreatDoorP3
import Derived.Shelf.Lays
import Derived.Shelf.LaysM
import Derived.Shelf.Strconv.Itoa3
import Derived.Shelf.Strconv.Atoi
import Derived.Shelf.Strings.SlTrimAscii
import Derived.Shelf.Strings.Search3
import Derived.Test.YtphdaefkjfbfoaaGreatDoorProg
set_option linter.unusedVariables false
set_option linter.unusedSimpArgs false
open And renaming intro→aH
open Bool renaming eq_iff_iff→cn
open ByteArray renaming extract→ca,size→ae,toList→ac
open Int renaming tmod→dF,toNat→bW
open List renaming drop_eq_getElem_cons→aY,drop_eq_nil_of_le→bM,getD_eq_getElem?_getD→aa,length_append→an,length_cons→aw,takeWhile_append_dropWhile→bV
namespace Go.Proofs
open Go.Shelf
def Tryz.vA:Go.Shelf.Ren:=⟨fun|160=>152|232=>177|231=>176|227=>178|234=>180|233=>179|236=>182|235=>181|228=>198|271=>201|151=>200|197=>199|120=>216|152=>215|260=>214|137=>221|119=>222|224=>212|225=>211|217=>210|266=>219|n=>n,fun|9=>9|4=>4|3=>3|5=>5|117=>219|116=>218|0=>0|124=>222|21=>21|105=>240|46=>230|119=>260|139=>263|138=>262|n=>n,fun|3=>4|4=>5|n=>n⟩
theorem Tryz.Cw:Go.Proofs.Lays.n160 Tryz.prog Tryz.vA:={
 mixed:=by kernel_rfl,
 f119:=Tryz.func222.trans (congrArg some (by kernel_rfl)),
 f120:=Tryz.func216.trans (congrArg some (by kernel_rfl)),
 f137:=Tryz.func221.trans (congrArg some (by kernel_rfl)),
 f151:=Tryz.func200.trans (congrArg some (by kernel_rfl)),
 f152:=Tryz.func215.trans (congrArg some (by kernel_rfl)),
 f160:=Tryz.func152.trans (congrArg some (by kernel_rfl)),
 f197:=Tryz.func199.trans (congrArg some (by kernel_rfl)),
 f217:=Tryz.func210.trans (congrArg some (by kernel_rfl)),
 f224:=Tryz.func212.trans (congrArg some (by kernel_rfl)),
 f225:=Tryz.func211.trans (congrArg some (by kernel_rfl)),
 f227:=Tryz.func178.trans (congrArg some (by kernel_rfl)),
 f228:=Tryz.func198.trans (congrArg some (by kernel_rfl)),
 f231:=Tryz.func176.trans (congrArg some (by kernel_rfl)),
 f232:=Tryz.func177.trans (congrArg some (by kernel_rfl)),
 f233:=Tryz.func179.trans (congrArg some (by kernel_rfl)),
 f234:=Tryz.func180.trans (congrArg some (by kernel_rfl)),
 f235:=Tryz.func181.trans (congrArg some (by kernel_rfl)),
 f236:=Tryz.func182.trans (congrArg some (by kernel_rfl)),
 f260:=Tryz.func214.trans (congrArg some (by kernel_rfl)),
 f266:=Tryz.func219.trans (congrArg some (by kernel_rfl)),
 f271:=Tryz.func201.trans (congrArg some (by kernel_rfl)),
 t0:=Tryz.underlying0,
 a0:=Tryz.isAgg0,
 z0:=Tryz.sizeOf0,
 v0:=Tryz.zeroValue0,
 t3:=Tryz.underlying3,
 a3:=Tryz.isAgg3,
 z3:=Tryz.sizeOf3,
 v3:=Tryz.zeroValue3,
 t4:=Tryz.underlying4,
 a4:=Tryz.isAgg4,
 z4:=Tryz.sizeOf4,
 v4:=Tryz.zeroValue4,
 t5:=Tryz.underlying5,
 a5:=Tryz.isAgg5,
 z5:=Tryz.sizeOf5,
 v5:=Tryz.zeroValue5,
 t9:=Tryz.underlying9,
 a9:=Tryz.isAgg9,
 z9:=Tryz.sizeOf9,
 v9:=Tryz.zeroValue9,
 t21:=Tryz.underlying21,
 a21:=Tryz.isAgg21,
 z21:=Tryz.sizeOf21,
 v21:=Tryz.zeroValue21,
 t46:=Tryz.underlying230,
 a46:=Tryz.isAgg230,
 z46:=Tryz.sizeOf230,
 v46:=Tryz.zeroValue230,
 t105:=Tryz.underlying240,
 a105:=Tryz.isAgg240,
 z105:=Tryz.sizeOf240,
 v105:=Tryz.zeroValue240,
 t116:=Tryz.underlying218,
 a116:=Tryz.isAgg218,
 z116:=Tryz.sizeOf218,
 t117:=Tryz.underlying219,
 a117:=Tryz.isAgg219,
 z117:=Tryz.sizeOf219,
 v117:=Tryz.zeroValue219,
 t119:=Tryz.underlying260,
 a119:=Tryz.isAgg260,
 z119:=Tryz.sizeOf260,
 t124:=Tryz.underlying222,
 a124:=Tryz.isAgg222,
 z124:=Tryz.sizeOf222,
 v124:=Tryz.zeroValue222,
 t138:=Tryz.underlying262,
 a138:=Tryz.isAgg262,
 z138:=Tryz.sizeOf262,
 v138:=Tryz.zeroValue262,
 t139:=Tryz.underlying263,
 a139:=Tryz.isAgg263,
 z139:=Tryz.sizeOf263,
 v139:=Tryz.zeroValue263,
 g3:=by kernel_rfl,
 g4:=by kernel_rfl}
def Tryz.uF:Go.Shelf.Ren:=⟨fun|144=>151|143=>175|219=>197|217=>210|225=>211|224=>212|267=>213|266=>219|314=>220|n=>n,fun|9=>9|4=>4|3=>3|5=>5|46=>230|146=>258|51=>251|n=>n,fun|1=>3|n=>n⟩
theorem Tryz.Cu:Go.Proofs.Lays.n144 Tryz.prog Tryz.uF:={
 mixed:=by kernel_rfl,
 f143:=Tryz.func175.trans (congrArg some (by kernel_rfl)),
 f144:=Tryz.func151.trans (congrArg some (by kernel_rfl)),
 f217:=Tryz.func210.trans (congrArg some (by kernel_rfl)),
 f219:=Tryz.func197.trans (congrArg some (by kernel_rfl)),
 f224:=Tryz.func212.trans (congrArg some (by kernel_rfl)),
 f225:=Tryz.func211.trans (congrArg some (by kernel_rfl)),
 f266:=Tryz.func219.trans (congrArg some (by kernel_rfl)),
 f267:=Tryz.func213.trans (congrArg some (by kernel_rfl)),
 f314:=Tryz.func220.trans (congrArg some (by kernel_rfl)),
 t3:=Tryz.underlying3,
 a3:=Tryz.isAgg3,
 z3:=Tryz.sizeOf3,
 v3:=Tryz.zeroValue3,
 t4:=Tryz.underlying4,
 a4:=Tryz.isAgg4,
 z4:=Tryz.sizeOf4,
 v4:=Tryz.zeroValue4,
 t5:=Tryz.underlying5,
 a5:=Tryz.isAgg5,
 z5:=Tryz.sizeOf5,
 v5:=Tryz.zeroValue5,
 t9:=Tryz.underlying9,
 a9:=Tryz.isAgg9,
 z9:=Tryz.sizeOf9,
 v9:=Tryz.zeroValue9,
 t46:=Tryz.underlying230,
 a46:=Tryz.isAgg230,
 z46:=Tryz.sizeOf230,
 v46:=Tryz.zeroValue230,
 t51:=Tryz.underlying251,
 a51:=Tryz.isAgg251,
 z51:=Tryz.sizeOf251,
 v51:=Tryz.zeroValue251,
 t146:=Tryz.underlying258,
 a146:=Tryz.isAgg258,
 z146:=Tryz.sizeOf258,
 v146:=Tryz.zeroValue258,
 g1:=by kernel_rfl}
def Tryz.uH:Go.Shelf.Ren:=⟨fun|172=>81|244=>134|245=>135|247=>167|279=>168|280=>169|281=>170|282=>171|287=>190|316=>191|171=>94|205=>192|321=>203|322=>204|243=>140|246=>173|283=>193|284=>194|285=>195|286=>196|129=>206|317=>205|318=>207|319=>208|320=>209|337=>217|338=>218|n=>n,fun|9=>9|3=>3|75=>121|76=>122|4=>4|5=>5|167=>205|37=>22|0=>0|85=>206|2=>2|168=>208|53=>227|175=>228|46=>230|210=>233|127=>245|145=>248|143=>246|21=>21|171=>235|173=>238|212=>250|51=>251|20=>20|213=>252|232=>265|233=>266|80=>134|n=>n,fun|15=>0|16=>1|17=>2|18=>6|19=>7|n=>n⟩
theorem Tryz.BZ:Go.Proofs.Lays.n172 Tryz.prog Tryz.uH:={
 mixed:=by kernel_rfl,
 f129:=Tryz.func206.trans (congrArg some (by kernel_rfl)),
 f171:=Tryz.func94.trans (congrArg some (by kernel_rfl)),
 f172:=Tryz.func81.trans (congrArg some (by kernel_rfl)),
 f205:=Tryz.func192.trans (congrArg some (by kernel_rfl)),
 f243:=Tryz.func140.trans (congrArg some (by kernel_rfl)),
 f244:=Tryz.func134.trans (congrArg some (by kernel_rfl)),
 f245:=Tryz.func135.trans (congrArg some (by kernel_rfl)),
 f246:=Tryz.func173.trans (congrArg some (by kernel_rfl)),
 f247:=Tryz.func167.trans (congrArg some (by kernel_rfl)),
 f279:=Tryz.func168.trans (congrArg some (by kernel_rfl)),
 f280:=Tryz.func169.trans (congrArg some (by kernel_rfl)),
 f281:=Tryz.func170.trans (congrArg some (by kernel_rfl)),
 f282:=Tryz.func171.trans (congrArg some (by kernel_rfl)),
 f283:=Tryz.func193.trans (congrArg some (by kernel_rfl)),
 f284:=Tryz.func194.trans (congrArg some (by kernel_rfl)),
 f285:=Tryz.func195.trans (congrArg some (by kernel_rfl)),
 f286:=Tryz.func196.trans (congrArg some (by kernel_rfl)),
 f287:=Tryz.func190.trans (congrArg some (by kernel_rfl)),
 f316:=Tryz.func191.trans (congrArg some (by kernel_rfl)),
 f317:=Tryz.func205.trans (congrArg some (by kernel_rfl)),
 f318:=Tryz.func207.trans (congrArg some (by kernel_rfl)),
 f319:=Tryz.func208.trans (congrArg some (by kernel_rfl)),
 f320:=Tryz.func209.trans (congrArg some (by kernel_rfl)),
 f321:=Tryz.func203.trans (congrArg some (by kernel_rfl)),
 f322:=Tryz.func204.trans (congrArg some (by kernel_rfl)),
 f337:=Tryz.func217.trans (congrArg some (by kernel_rfl)),
 f338:=Tryz.func218.trans (congrArg some (by kernel_rfl)),
 t0:=Tryz.underlying0,
 a0:=Tryz.isAgg0,
 z0:=Tryz.sizeOf0,
 v0:=Tryz.zeroValue0,
 t2:=Tryz.underlying2,
 a2:=Tryz.isAgg2,
 z2:=Tryz.sizeOf2,
 v2:=Tryz.zeroValue2,
 t3:=Tryz.underlying3,
 a3:=Tryz.isAgg3,
 z3:=Tryz.sizeOf3,
 v3:=Tryz.zeroValue3,
 t4:=Tryz.underlying4,
 a4:=Tryz.isAgg4,
 z4:=Tryz.sizeOf4,
 v4:=Tryz.zeroValue4,
 t5:=Tryz.underlying5,
 a5:=Tryz.isAgg5,
 z5:=Tryz.sizeOf5,
 v5:=Tryz.zeroValue5,
 t9:=Tryz.underlying9,
 a9:=Tryz.isAgg9,
 z9:=Tryz.sizeOf9,
 v9:=Tryz.zeroValue9,
 t20:=Tryz.underlying20,
 a20:=Tryz.isAgg20,
 z20:=Tryz.sizeOf20,
 v20:=Tryz.zeroValue20,
 t21:=Tryz.underlying21,
 a21:=Tryz.isAgg21,
 z21:=Tryz.sizeOf21,
 v21:=Tryz.zeroValue21,
 t37:=Tryz.underlying22,
 a37:=Tryz.isAgg22,
 z37:=Tryz.sizeOf22,
 v37:=Tryz.zeroValue22,
 t46:=Tryz.underlying230,
 a46:=Tryz.isAgg230,
 z46:=Tryz.sizeOf230,
 v46:=Tryz.zeroValue230,
 t51:=Tryz.underlying251,
 a51:=Tryz.isAgg251,
 z51:=Tryz.sizeOf251,
 v51:=Tryz.zeroValue251,
 t53:=Tryz.underlying227,
 a53:=Tryz.isAgg227,
 z53:=Tryz.sizeOf227,
 v53:=Tryz.zeroValue227,
 t75:=Tryz.underlying121,
 a75:=Tryz.isAgg121,
 z75:=Tryz.sizeOf121,
 v75:=Tryz.zeroValue121,
 t76:=Tryz.underlying122,
 a76:=Tryz.isAgg122,
 z76:=Tryz.sizeOf122,
 v76:=Tryz.zeroValue122,
 t85:=Tryz.underlying206,
 a85:=Tryz.isAgg206,
 z85:=Tryz.sizeOf206,
 v85:=Tryz.zeroValue206,
 t127:=Tryz.underlying245,
 a127:=Tryz.isAgg245,
 z127:=Tryz.sizeOf245,
 v127:=Tryz.zeroValue245,
 t143:=Tryz.underlying246,
 a143:=Tryz.isAgg246,
 z143:=Tryz.sizeOf246,
 v143:=Tryz.zeroValue246,
 t145:=Tryz.underlying248,
 a145:=Tryz.isAgg248,
 z145:=Tryz.sizeOf248,
 v145:=Tryz.zeroValue248,
 t167:=Tryz.underlying205,
 a167:=Tryz.isAgg205,
 z167:=Tryz.sizeOf205,
 v167:=Tryz.zeroValue205,
 t168:=Tryz.underlying208,
 a168:=Tryz.isAgg208,
 z168:=Tryz.sizeOf208,
 v168:=Tryz.zeroValue208,
 t171:=Tryz.underlying235,
 a171:=Tryz.isAgg235,
 z171:=Tryz.sizeOf235,
 v171:=Tryz.zeroValue235,
 t173:=Tryz.underlying238,
 a173:=Tryz.isAgg238,
 z173:=Tryz.sizeOf238,
 v173:=Tryz.zeroValue238,
 t175:=Tryz.underlying228,
 a175:=Tryz.isAgg228,
 z175:=Tryz.sizeOf228,
 v175:=Tryz.zeroValue228,
 t210:=Tryz.underlying233,
 a210:=Tryz.isAgg233,
 z210:=Tryz.sizeOf233,
 v210:=Tryz.zeroValue233,
 t212:=Tryz.underlying250,
 a212:=Tryz.isAgg250,
 z212:=Tryz.sizeOf250,
 v212:=Tryz.zeroValue250,
 t213:=Tryz.underlying252,
 a213:=Tryz.isAgg252,
 z213:=Tryz.sizeOf252,
 t232:=Tryz.underlying265,
 a232:=Tryz.isAgg265,
 z232:=Tryz.sizeOf265,
 v232:=Tryz.zeroValue265,
 t233:=Tryz.underlying266,
 a233:=Tryz.isAgg266,
 z233:=Tryz.sizeOf266,
 v233:=Tryz.zeroValue266,
 g15:=by kernel_rfl,
 g16:=by kernel_rfl,
 g17:=by kernel_rfl,
 g18:=by kernel_rfl,
 g19:=by kernel_rfl}
def Tryz.tM:Go.Shelf.Ren:=⟨fun|171=>94|243=>140|246=>173|283=>193|284=>194|285=>195|286=>196|129=>206|317=>205|318=>207|319=>208|320=>209|337=>217|338=>218|n=>n,fun|3=>3|9=>9|2=>2|4=>4|171=>235|0=>0|53=>227|37=>22|5=>5|173=>238|212=>250|51=>251|20=>20|213=>252|46=>230|232=>265|233=>266|n=>n,fun|17=>2|18=>6|19=>7|n=>n⟩
theorem Tryz.AW:Go.Proofs.LaysM.n171 Tryz.prog Tryz.tM:={
 mixed:=by kernel_rfl,
 f129:=Tryz.func206.trans (congrArg some (by kernel_rfl)),
 f171:=Tryz.func94.trans (congrArg some (by kernel_rfl)),
 f243:=Tryz.func140.trans (congrArg some (by kernel_rfl)),
 f246:=Tryz.func173.trans (congrArg some (by kernel_rfl)),
 f283:=Tryz.func193.trans (congrArg some (by kernel_rfl)),
 f284:=Tryz.func194.trans (congrArg some (by kernel_rfl)),
 f285:=Tryz.func195.trans (congrArg some (by kernel_rfl)),
 f286:=Tryz.func196.trans (congrArg some (by kernel_rfl)),
 f317:=Tryz.func205.trans (congrArg some (by kernel_rfl)),
 f318:=Tryz.func207.trans (congrArg some (by kernel_rfl)),
 f319:=Tryz.func208.trans (congrArg some (by kernel_rfl)),
 f320:=Tryz.func209.trans (congrArg some (by kernel_rfl)),
 f337:=Tryz.func217.trans (congrArg some (by kernel_rfl)),
 f338:=Tryz.func218.trans (congrArg some (by kernel_rfl)),
 t0:=Tryz.underlying0,
 a0:=Tryz.isAgg0,
 z0:=Tryz.sizeOf0,
 v0:=Tryz.zeroValue0,
 t2:=Tryz.underlying2,
 a2:=Tryz.isAgg2,
 z2:=Tryz.sizeOf2,
 v2:=Tryz.zeroValue2,
 t3:=Tryz.underlying3,
 a3:=Tryz.isAgg3,
 z3:=Tryz.sizeOf3,
 v3:=Tryz.zeroValue3,
 t4:=Tryz.underlying4,
 a4:=Tryz.isAgg4,
 z4:=Tryz.sizeOf4,
 v4:=Tryz.zeroValue4,
 t5:=Tryz.underlying5,
 a5:=Tryz.isAgg5,
 z5:=Tryz.sizeOf5,
 v5:=Tryz.zeroValue5,
 t9:=Tryz.underlying9,
 a9:=Tryz.isAgg9,
 z9:=Tryz.sizeOf9,
 v9:=Tryz.zeroValue9,
 t20:=Tryz.underlying20,
 a20:=Tryz.isAgg20,
 z20:=Tryz.sizeOf20,
 v20:=Tryz.zeroValue20,
 t37:=Tryz.underlying22,
 a37:=Tryz.isAgg22,
 z37:=Tryz.sizeOf22,
 v37:=Tryz.zeroValue22,
 t46:=Tryz.underlying230,
 a46:=Tryz.isAgg230,
 z46:=Tryz.sizeOf230,
 v46:=Tryz.zeroValue230,
 t51:=Tryz.underlying251,
 a51:=Tryz.isAgg251,
 z51:=Tryz.sizeOf251,
 v51:=Tryz.zeroValue251,
 t53:=Tryz.underlying227,
 a53:=Tryz.isAgg227,
 z53:=Tryz.sizeOf227,
 v53:=Tryz.zeroValue227,
 t171:=Tryz.underlying235,
 a171:=Tryz.isAgg235,
 z171:=Tryz.sizeOf235,
 v171:=Tryz.zeroValue235,
 t173:=Tryz.underlying238,
 a173:=Tryz.isAgg238,
 z173:=Tryz.sizeOf238,
 v173:=Tryz.zeroValue238,
 t212:=Tryz.underlying250,
 a212:=Tryz.isAgg250,
 z212:=Tryz.sizeOf250,
 v212:=Tryz.zeroValue250,
 t213:=Tryz.underlying252,
 a213:=Tryz.isAgg252,
 z213:=Tryz.sizeOf252,
 t232:=Tryz.underlying265,
 a232:=Tryz.isAgg265,
 z232:=Tryz.sizeOf265,
 v232:=Tryz.zeroValue265,
 t233:=Tryz.underlying266,
 a233:=Tryz.isAgg266,
 z233:=Tryz.sizeOf266,
 v233:=Tryz.zeroValue266,
 g17:=by kernel_rfl,
 g18:=by kernel_rfl,
 g19:=by kernel_rfl,
 i0:=by kernel_rfl,
 i2:=by kernel_rfl,
 i3:=by kernel_rfl,
 i4:=by kernel_rfl,
 i5:=by kernel_rfl,
 i9:=by kernel_rfl,
 i20:=by kernel_rfl,
 i37:=by kernel_rfl,
 i46:=by kernel_rfl,
 i51:=by kernel_rfl,
 i53:=by kernel_rfl,
 i171:=by kernel_rfl,
 i173:=by kernel_rfl,
 i212:=by kernel_rfl,
 i232:=by kernel_rfl,
 i233:=by kernel_rfl,
 m17:=by kernel_rfl,
 m18:=by kernel_rfl,
 m19:=by kernel_rfl}
end Go.Proofs
namespace Go.Proofs.Trees
open Go Go.VL
noncomputable section
def Jk:List (Nat×TI):=[
 (0,⟨false,[],false,0,.tuple [],false⟩),
 (2,⟨true,[.int .i64],false,8,.num .i64,false⟩),
 (3,⟨true,[.int .i64],false,8,.num .i64,false⟩),
 (4,⟨true,[.bool],false,1,.bl,false⟩),
 (5,⟨true,[.int .u8],false,1,.num .u8,false⟩),
 (9,⟨true,[.str],false,16,.str,false⟩),
 (20,⟨true,[.kq],false,16,.other,false⟩),
 (21,⟨true,[.int .i32],false,4,.num .i32,false⟩),
 (22,⟨true,[.sl],false,24,.slice 5,false⟩),
 (23,⟨false,[],false,0,.tuple [9,3,9],false⟩),
 (25,⟨false,[],false,0,.tuple [3,4],false⟩),
 (28,⟨false,[],false,0,.tuple [9,4],false⟩),
 (31,⟨false,[],false,0,.tuple [9,9,9],false⟩),
 (36,⟨false,[],false,0,.tuple [9,9,9,9],false⟩),
 (38,⟨true,[.sl],false,24,.slice 42,false⟩),
 (39,⟨false,[],false,0,.tuple [38,4],false⟩),
 (42,⟨true,[.str,.str],true,32,.struct [(0,9),(1,9)],false⟩),
 (45,⟨true,[.sl],false,24,.slice 105,false⟩),
 (46,⟨false,[],false,0,.tuple [45,4],false⟩),
 (51,⟨true,[.ptr],false,8,.pt,true⟩),
 (56,⟨true,[.ptr],false,8,.pt,true⟩),
 (57,⟨true,[.ptr],false,8,.pt,true⟩),
 (58,⟨false,[],false,0,.tuple [56,57],false⟩),
 (61,⟨true,[.sl],false,24,.slice 63,false⟩),
 (63,⟨true,[.str,.sl],true,40,.struct [(0,9),(1,61)],false⟩),
 (64,⟨false,[],false,0,.tuple [63,4],false⟩),
 (76,⟨true,[.int .u8,.str,.ptr,.ptr],true,40,.struct [(0,5),(1,9),(2,57),(3,57)],false⟩),
 (78,⟨true,[.ptr],false,8,.pt,true⟩),
 (80,⟨true,[.ptr,.ptr],true,16,.struct [(0,56),(1,78)],false⟩),
 (81,⟨true,[.ptr],false,8,.pt,true⟩),
 (83,⟨true,[.str,.ptr],true,24,.struct [(0,9),(1,81)],false⟩),
 (85,⟨false,[],false,0,.tuple [9,9],false⟩),
 (90,⟨true,[.sl],false,24,.slice 9,false⟩),
 (93,⟨true,[.kq],false,8,.other,false⟩),
 (95,⟨true,[.sl],false,24,.slice 150,false⟩),
 (102,⟨true,[.sl],false,24,.slice 107,false⟩),
 (103,⟨false,[],false,0,.tuple [102,4],false⟩),
 (105,⟨true,[.sl],false,24,.slice 3,false⟩),
 (107,⟨true,[.sl,.str,.str],true,56,.struct [(0,105),(1,9),(2,9)],false⟩),
 (108,⟨true,[.sl],false,24,.slice 112,false⟩),
 (109,⟨false,[],false,0,.tuple [108,4],false⟩),
 (112,⟨true,[.ptr,.sl],true,32,.struct [(0,57),(1,105)],false⟩),
 (116,⟨true,[.sl,.int .i64],true,32,.struct [(0,22),(1,3)],false⟩),
 (121,⟨true,[.kq],false,16,.other,false⟩),
 (122,⟨false,[],false,0,.tuple [3,121],false⟩),
 (125,⟨true,[.int .u8,.str,.int .i64,.ptr,.ptr],true,48,.struct [(0,5),(1,9),(2,3),(3,56),(4,56)],false⟩),
 (131,⟨true,[.sl],false,24,.slice 213,false⟩),
 (133,⟨true,[.kq],false,8,.other,false⟩),
 (140,⟨true,[.ptr],false,8,.pt,true⟩),
 (144,⟨false,[],false,0,.tuple [80,81],false⟩),
 (147,⟨true,[.sl],false,24,.slice 188,false⟩),
 (150,⟨true,[.ptr,.ptr],true,16,.struct [(0,57),(1,57)],false⟩),
 (152,⟨true,[.kq],false,8,.other,false⟩),
 (153,⟨true,[.kq],false,8,.other,false⟩),
 (154,⟨false,[],false,0,.tuple [56,4],false⟩),
 (159,⟨true,[.kq],false,8,.other,false⟩),
 (163,⟨true,[.ptr],false,8,.pt,true⟩),
 (165,⟨true,[.sl,.int .i64],true,32,.struct [(0,90),(1,3)],false⟩),
 (168,⟨true,[.ptr,.ptr],true,16,.struct [(0,80)],false⟩),
 (171,⟨false,[],false,0,.tuple [63,3],false⟩),
 (173,⟨false,[],false,0,.tuple [63,131],false⟩),
 (179,⟨false,[],false,0,.tuple [140,9],false⟩),
 (181,⟨true,[.sl],false,24,.slice 140,false⟩),
 (183,⟨true,[.str,.sl],true,40,.struct [(0,9),(1,181)],false⟩),
 (186,⟨true,[.ptr,.ptr],true,16,.struct [(0,81),(1,78)],false⟩),
 (188,⟨true,[.str,.sl,.str,.sl],true,80,.struct [(0,63),(2,63)],false⟩),
 (192,⟨true,[.ptr],false,8,.pt,true⟩),
 (194,⟨true,[.int .i64,.bool],true,16,.struct [(0,3),(1,4)],false⟩),
 (206,⟨false,[],false,0,.tuple [2,121],false⟩),
 (208,⟨true,[.ptr],false,8,.pt,true⟩),
 (213,⟨true,[.str,.str,.sl,.sl],true,80,.struct [(0,9),(1,63),(3,131)],false⟩),
 (219,⟨false,[],false,0,.tuple [218,4],false⟩),
 (222,⟨true,[.ptr],false,8,.pt,true⟩),
 (224,⟨true,[.kq],false,8,.other,false⟩),
 (227,⟨true,[.int .u64],false,8,.num .u64,false⟩),
 (228,⟨false,[],false,0,.tuple [227,121],false⟩),
 (230,⟨true,[.int .u64],false,8,.num .u64,false⟩),
 (233,⟨true,[.str,.str,.kq],true,48,.struct [(0,9),(1,9),(2,121)],false⟩),
 (235,⟨true,[.int .u8,.int .u8,.int .u8,.int .u8,.int .u8,.int .u8,.int .u8,.int .u8,.int .u8,.int .u8,.int .u8,.int .u8,.int .u8,.int .u8,.int .u8,.int .u8,.int .u8,.int .u8,.int .u8,.int .u8,.int .u8,.int .u8,.int .u8,.int .u8],true,24,.array 24 5,false⟩),
 (238,⟨false,[],false,0,.tuple [22,9],false⟩),
 (240,⟨false,[],false,0,.tuple [21,3],false⟩),
 (245,⟨true,[.ptr],false,8,.pt,true⟩),
 (246,⟨true,[.ptr],false,8,.pt,true⟩),
 (248,⟨true,[.str],true,16,.struct [(0,9)],false⟩),
 (250,⟨true,[.int .u64,.int .u64,.int .u64,.int .u64,.int .u64,.int .u64,.int .u64,.int .u64,.int .u64,.int .u64,.int .u64,.int .u64,.int .u64,.int .u64,.int .u64,.int .u64,.int .u64,.int .u64,.int .u64,.int .u64],true,160,.array 20 227,false⟩),
 (251,⟨true,[.int .u32],false,4,.num .u32,false⟩),
 (258,⟨false,[],false,0,.tuple [251,251],false⟩),
 (262,⟨true,[.int .u8,.int .u8],true,2,.struct [(0,5),(1,5)],false⟩),
 (263,⟨true,[.int .u8,.int .u8,.int .u8,.int .u8,.int .u8,.int .u8,.int .u8,.int .u8,.int .u8,.int .u8,.int .u8,.int .u8,.int .u8,.int .u8,.int .u8,.int .u8,.int .u8,.int .u8,.int .u8,.int .u8,.int .u8,.int .u8,.int .u8,.int .u8,.int .u8,.int .u8,.int .u8,.int .u8,.int .u8,.int .u8,.int .u8,.int .u8],true,32,.array 16 262,false⟩),
 (265,⟨true,[.int .u8,.int .u8,.int .u8,.int .u8,.int .u8,.int .u8,.int .u8,.int .u8,.int .u8,.int .u8,.int .u8,.int .u8,.int .u8,.int .u8,.int .u8,.int .u8,.int .u8,.int .u8,.int .u8,.int .u8,.int .u8,.int .u8,.int .u8,.int .u8,.int .u8,.int .u8,.int .u8,.int .u8,.int .u8,.int .u8,.int .u8,.int .u8],true,32,.array 32 5,false⟩)]
def KD(t:Nat):TI:=xL Jk t
abbrev p8:Func:=Tryz.f81
abbrev qg:Func:=Tryz.f94
abbrev eA:Func:=Tryz.f107
abbrev nj:Func:=Tryz.f151
abbrev qa:Func:=Tryz.f152
def On:List (Nat×FC):=[(92,{mu:=[(1,.one (.obj [.lk .bool]))],own:=[]}),(9300091,{mu:=[(1,.fn [some (.obj [.lk .bool])])],own:=[]}),(189,{mu:=[(1,.one (.obj [.vec 1]))],own:=[]}),(98,{mu:=[(2,.one (.vec))],own:=[0]}),(19000091,{mu:=[(1,.fn [some (.obj [.vec 1])])],own:=[]}),(113,{mu:=[(2,.one (.obj [.vec 2]))],own:=[]}),(11500113,{mu:=[(1,.fn [some (.obj [.lk .ptr])]),(2,.one (.obj [.vec 2]))],own:=[]}),(11600113,{mu:=[(1,.fn [some (.obj [.lk .ptr])]),(2,.one (.obj [.vec 2]))],own:=[]}),(11700113,{mu:=[(1,.fn [some (.obj [.lk .ptr])]),(2,.one (.obj [.vec 2]))],own:=[]}),(11900113,{mu:=[(1,.fn [some (.obj [.lk .ptr,.lk .ptr])]),(2,.one (.obj [.vec 2]))],own:=[]}),(114,{mu:=[(1,.one (.obj [.lk .ptr]))],own:=[]}),(115,{mu:=[(1,.one (.obj [.lk .ptr]))],own:=[]}),(116,{mu:=[(1,.one (.obj [.lk .ptr]))],own:=[]}),(118,{mu:=[(1,.one (.obj [.lk .ptr,.lk .ptr]))],own:=[]}),(126,{mu:=[(1,.one (.obj [.vec 2])),(2,.one (.obj [.lk .ptr])),(3,.yT 126 [some 0,some 2,none])],own:=[]}),(184,{mu:=[(2,.yT 184 [none,some 0,some 1]),(3,.one (.obj [.lk .sl])),(4,.one (.obj [.lk (.int .i64)]))],own:=[]}),(125,{mu:=[(3,.one (.vec))],own:=[0]}),(150,{mu:=[(2,.one (.vec))],own:=[0]}),(32,{mu:=[(0,.one (.obj [.lk .sl,.lk (.int .i64)]))],own:=[]}),(131,{mu:=[(3,.one (.obj [.vec 1,.lk (.int .i64)]))],own:=[]}),(55,{mu:=[(0,.one (.obj [.lk .sl,.lk (.int .i64)]))],own:=[]}),(30,{mu:=[],own:=[0],ow:=[.sl,.int .i64]}),(74,{mu:=[(0,.one (.cF false [.vec 1]))],own:=[]}),(155,{mu:=[(0,.one (.obj [.lk (.int .i64),.lk .bool]))],own:=[]}),(156,{mu:=[(0,.one (.obj [.lk (.int .i64),.lk .bool]))],own:=[]}),(157,{mu:=[(0,.one (.obj [.lk (.int .i64),.lk .bool]))],own:=[]}),(127,{mu:=[(0,.one (.obj [.lk .sl,.lk (.int .i64)]))],own:=[]}),(119,{mu:=[(0,.one (.obj [.lk .sl,.lk (.int .i64)]))],own:=[]}),(76,{mu:=[(0,.one (.obj [.lk .sl,.lk (.int .i64)]))],own:=[]}),(77,{mu:=[(0,.one (.obj [.lk .sl,.lk (.int .i64)]))],own:=[]}),(33,{mu:=[(0,.one (.obj [.lk .sl,.lk (.int .i64)]))],own:=[]}),(108,{mu:=[(0,.one (.obj [.lk .sl,.lk (.int .i64)]))],own:=[]}),(52,{mu:=[(0,.one (.obj [.lk .sl,.lk (.int .i64)]))],own:=[]}),(51,{mu:=[(0,.one (.obj [.lk .sl,.lk (.int .i64)]))],own:=[]}),(62,{mu:=[(0,.one (.obj [.lk .sl,.lk (.int .i64)]))],own:=[]}),(31,{mu:=[(0,.one (.obj [.lk .sl,.lk (.int .i64)]))],own:=[]})]
def cC(f:Nat):FC:=Bl On f
theorem B5:(Jk.all fun p=>!p.2.kn||p.2.nl Tryz.prog p.1)=true:=by kernel_rfl
theorem ua:dc Tryz.prog KD:=uY B5
theorem mixed:Tryz.prog.follows .mixedOrders=true:=by kernel_rfl
abbrev NZ(r:AV)(k:Tree):Tree:=.ak (LK.has .ptr r/\r.isNil=false) k
abbrev NP(r:AV)(k:Tree):Tree:=.ak (LK.has .ptr r) k
abbrev NS(r:AV)(k:Tree):Tree:=.ak (LK.has .str r) k
abbrev NB(r:AV)(k:Tree):Tree:=.ak (LK.has .bool r) k
abbrev NL(r:AV)(k:Tree):Tree:=.ak (LK.has .sl r) k
abbrev NI(r:AV)(k:Tree):Tree:=.ak (LK.has (.int .i64) r) k
abbrev ez(l:List AV)(k:Tree):Tree:=.ak (LK.has .ptr (l.headD .any)/\1<=l.length) k
abbrev l0(l:List AV)(k:Tree):Tree:=.ak (LK.has .str (l.headD .any)/\1<=l.length) k
abbrev rY(l:List AV)(k:Tree):Tree:=.ak (LK.has .sl (l.headD .any)/\1<=l.length) k
abbrev NT(r:AV)(k:Tree):Tree:=.ak (r=.cA [r.comp 0,r.comp 1]) k
abbrev NA(r:AV)(k:Tree):Tree:=.ak (r=.agg r.cs/\r.cs.length=2/\bz [.str,.sl] r.cs 0) k
abbrev NE(l:List AV)(k:Tree):Tree:=.ak (bz [.str,.sl] l 0/\2<=l.length) k
abbrev NG(r:AV)(i:Int)(z:Nat)(k:Tree):Tree:=.ak (LK.has .sl r/\0<=i/\i<r.aR.length/\(r.aR.getD i.toNat []).length=z) k
abbrev RL:Type:=Nat->List AV->List Ob->Prop
abbrev VS(x:ByteArray):AV:=.v (.string x)
abbrev VI(x:Int):AV:=.v (.int .i64 x)
abbrev VB(x:Bool):AV:=.v (.bool x)
abbrev _root_.List.hA(l:List AV):AV:=l.headD .any
abbrev _root_.List.hO(l:List Ob):Ob:=l.headD .dead
abbrev _root_.Go.VL.AV.ix(a:AV)(i:Int):List AV:=a.aR.getD i.toNat []
abbrev dC(n:Nat)(t:Tree)(R:AV->List Ob->Prop):Prop:=eT Tryz.prog n t fun _ xs obs=>R (xs.headD .any) obs
abbrev l4(n:Nat)(t:Tree)(S:List AV->List Ob->RL->Prop)(R:RL):Prop:=eT Tryz.prog n t (C3 (fun ys o=>S ys o R) R)
theorem gQ{n:Nat}{c:Code}{li:LI}{xs:List AV}{obs:List Ob}{R:RL}{t:Tree}(lis:List (Nat×LI))(h:eT Tryz.prog n t (C3 (fun ys o=>cI Tryz.prog n c li ys o R) R))(e:round KD cC n lis c li xs obs=t:=by kernel_rfl):cI Tryz.prog n c li xs obs R:=cI.MA (cC:=cC) (lis:=lis) ua mixed e h
theorem OB(n:Nat)(t:Tree)(R:AV->List Ob->Prop):dC n t R=eT Tryz.prog n t fun _ xs obs=>R (xs.headD .any) obs:=rfl
theorem OP(n:Nat)(t:Tree)(S:List AV->List Ob->RL->Prop)(R:RL):l4 n t S R=eT Tryz.prog n t (C3 (fun ys o=>S ys o R) R):=rfl
theorem Qh(x:ByteArray):VS x=.v (.string x):=rfl
theorem Qp(x:Int):VI x=.v (.int .i64 x):=rfl
theorem Qa(x:Bool):VB x=.v (.bool x):=rfl
theorem P8(l:List AV):l.hA=l.headD .any:=rfl
theorem Qe(l:List Ob):l.hO=l.headD .dead:=rfl
theorem Qi(a:AV)(i:Int):a.ix i=a.aR.getD i.toNat []:=rfl
theorem oQ{f:Nat}{asq:List AV}{ins:List Ob}{R:AV->List Ob->Prop}{t:Tree}(lis:List (Nat×LI))(F:Func)(h:eT Tryz.prog F.ntmps t fun _ xs obs=>R (xs.headD .any) obs)(hf:Tryz.prog.funcs[f]?=some F:=by kernel_rfl)(hnm:(F.name=="runtime.NumGoroutine")=false:=by kernel_rfl)(e:main KD cC lis {} F asq ins=t:=by kernel_rfl):ap Tryz.prog f asq ins R:=ap.MA (cC:=cC) (lis:=lis) (fc:={}) ua mixed hf hnm e h
theorem oF{f:Nat}{asq:List AV}{ins:List Ob}{R:AV->List Ob->Prop}{t:Tree}(lis:List (Nat×LI))(fc:FC)(F:Func)(h:eT Tryz.prog F.ntmps t fun _ xs obs=>R (xs.headD .any) obs)(hf:Tryz.prog.funcs[f]?=some F:=by kernel_rfl)(hnm:(F.name=="runtime.NumGoroutine")=false:=by kernel_rfl)(e:main KD cC lis fc F asq ins=t:=by kernel_rfl):ap Tryz.prog f asq ins R:=ap.MA (cC:=cC) (lis:=lis) (fc:=fc) ua mixed hf hnm e h
theorem uQ{P:Program}{f:Nat}{asq bs:List AV}{R:AV->List Ob->Prop}(h:v8 asq bs)(hf:ap P f bs [] R):ap P f asq [] R:=ap.nS cx (ap.up h hf)
theorem P5(r:AV)(k:Tree):NZ r k=.ak (LK.has .ptr r/\r.isNil=false) k:=rfl
theorem Qn(r:AV)(k:Tree):NP r k=.ak (LK.has .ptr r) k:=rfl
theorem Qc(r:AV)(k:Tree):NS r k=.ak (LK.has .str r) k:=rfl
theorem P7(r:AV)(k:Tree):NB r k=.ak (LK.has .bool r) k:=rfl
theorem Qq(r:AV)(k:Tree):NL r k=.ak (LK.has .sl r) k:=rfl
theorem Ql(r:AV)(k:Tree):NI r k=.ak (LK.has (.int .i64) r) k:=rfl
theorem O3(l:List AV)(k:Tree):ez l k=.ak (LK.has .ptr (l.headD .any)/\1<=l.length) k:=rfl
theorem Nw(l:List AV)(k:Tree):l0 l k=.ak (LK.has .str (l.headD .any)/\1<=l.length) k:=rfl
theorem Oe(l:List AV)(k:Tree):rY l k=.ak (LK.has .sl (l.headD .any)/\1<=l.length) k:=rfl
theorem Qb(r:AV)(k:Tree):NT r k=.ak (r=.cA [r.comp 0,r.comp 1]) k:=rfl
theorem P9(r:AV)(k:Tree):NA r k=.ak (r=.agg r.cs/\r.cs.length=2/\bz [.str,.sl] r.cs 0) k:=rfl
theorem Qr(l:List AV)(k:Tree):NE l k=.ak (bz [.str,.sl] l 0/\2<=l.length) k:=rfl
theorem Qj(r:AV)(i:Int)(z:Nat)(k:Tree):NG r i z k=.ak (LK.has .sl r/\0<=i/\i<r.aR.length/\(r.aR.getD i.toNat []).length=z) k:=rfl
set_option linter.defProp false in
def zq:=aH @P5 (aH @Qn (aH @Qc (aH @P7 (aH @Qq (aH @Ql (aH @O3 (aH @Nw (aH @Oe (aH @Qb (aH @P9 (aH @Qr (aH @Qj (aH @OB (aH @OP (aH @Qh (aH @Qp (aH @Qa ((aH @P8 (aH @Qe (aH @Qi @zp)))))))))))))))))))))
variable {R:AV->List Ob->Prop} {U:RL}
def E5:LI:={hd:={cf:=[(4,.k .str),(5,.k .str),(10,.k .sl),(11,.k .bool),(12,.k .bool),(13,.k (.int .i64))]},xs:={cf:=[(11,.k .bool),(12,.k .bool)]},rt:={},ex:=0}
def KA:Code:=da (cS Tryz.f6) 11
def If:List (Nat×LI):=[(11,E5)]
def IU(a0:AV):Tree :=
 NL a0<|.test (decide ((a0.aR.length:Int)>(1048576:Int))) (.done 0 [VB true] []) (.call 21 [a0] [] fun r1 o1=>.ak (r1=.cA [r1.comp 0,r1.comp 1,r1.comp 2])<|NS (r1.comp 0)<|NS (r1.comp 1)<|NS (r1.comp 2)<|.call 22 [VS ((r1.comp 0).ag),VS ((r1.comp 1).ag),VS ((r1.comp 2).ag)] [] fun r2 o2=>NT r2<|NS (r2.comp 0)<|NB (r2.comp 1)<|.call 23 [VS ((r1.comp 0).ag),VS ((r1.comp 1).ag),VS ((r1.comp 2).ag)] [] fun r3 o3=>NT r3<|NS (r3.comp 0)<|NB (r3.comp 1)<|.test (!(((r2.comp 1).toBool)==((r3.comp 1).toBool))) (.test (((r2.comp 1).toBool)==((r3.comp 1).toBool)) (.done 0 [VB (ac ((r2.comp 0).ag)==ac ((r3.comp 0).ag))] []) (.done 0 [VB false] [])) (.test (!(ac ((r2.comp 0).ag)==ac ((r3.comp 0).ag))) (.test (((r2.comp 1).toBool)==((r3.comp 1).toBool)) (.done 0 [VB (ac ((r2.comp 0).ag)==ac ((r3.comp 0).ag))] []) (.done 0 [VB false] [])) (.test (!((r2.comp 1).toBool)) (.test (((r2.comp 1).toBool)==((r3.comp 1).toBool)) (.done 0 [VB (ac ((r2.comp 0).ag)==ac ((r3.comp 0).ag))] []) (.done 0 [VB false] [])) (.call 24 [VS ((r1.comp 0).ag),VS ((r2.comp 0).ag)] [] fun r4 o4=>NT r4<|NL (r4.comp 0)<|NB (r4.comp 1)<|.loop KA E5 [VS ((r1.comp 1).ag),VS ((r1.comp 2).ag),(r4.comp 0),VB ((r4.comp 1).toBool),VB false,VI 0] [] (fun y5 q5=>NB (y5.hA)<|NB (y5.tail.hA)<|.test ((y5.hA).toBool) (.done 0 [VB ((y5.tail.hA).toBool)] []) (.done 0 [VB false] [])) (fun y5 q5=>.done 0 [.any] [])))))
theorem OD(a0:AV)(ha0:LK.has .sl a0)(h:dC 92 (IU a0) R):ap Tryz.prog 6 [a0] [] R :=
 uQ (ah (bY ha0) aD) (oQ If Tryz.f6 h)
def Gm(x4:ByteArray)(x5:ByteArray)(x10:AV)(x11:Bool)(x12:Bool)(x13:Int):Tree :=
 NS (VS x4)<|NS (VS x5)<|NL x10<|NB (VB x11)<|NB (VB x12)<|NI (VI x13)<|NL x10<|.test (decide (x13<(x10.aR.length:Int))) (.test x12 (.done 0 [VS x4,VS x5,x10,VB x11,VB true,VI (IntKind.wrap .i64 (x13+1))] []) (NG x10 x13 2<|l0 (x10.ix x13)<|.test (ac (((x10.ix x13).hA).ag)==ac x4) (NG x10 x13 2<|l0 ((x10.ix x13).drop 1)<|.done 0 [VS x4,VS x5,x10,VB x11,VB (ac ((((x10.ix x13).drop 1).hA).ag)==ac x5),VI (IntKind.wrap .i64 (x13+1))] []) (.done 0 [VS x4,VS x5,x10,VB x11,VB false,VI (IntKind.wrap .i64 (x13+1))] []))) (.done 1 [VB x11,VB x12] [])
abbrev EB:=cI Tryz.prog 92 KA E5
theorem K7(x4:ByteArray)(x5:ByteArray)(x10:AV)(x11:Bool)(x12:Bool)(x13:Int)(h:l4 92 (Gm x4 x5 x10 x11 x12 x13) EB U):EB [VS x4,VS x5,x10,VB x11,VB x12,VI x13] [] U :=
 gQ If h
def KW(a0:AV):Tree :=
 .call 30 [a0] [] fun r1 o1=>.ak (r1=.ref 0 0/\(o1.hO)=.cells (o1.hO).cs/\(o1.hO).cs.length=2/\bz [.sl,.int .i64] ((o1.hO).cs) 0)<|.call 62 [.ref 0 0] [.cells [((o1.hO).cs.getD 0 .any),VI (((o1.hO).cs.getD 1 .any).toInt)]] fun r2 o2=>.ak ((o2.hO)=.cells (o2.hO).cs)<|.ak (aM [.lk .sl,.lk (.int .i64)] ((o2.hO).cs) 0 1 o2.tail)<|NT r2<|NS (r2.comp 0)<|NS (r2.comp 1)<|.call 63 [VS ((r2.comp 0).ag),VS ((r2.comp 1).ag)] [] fun r3 o3=>NT r3<|NL (r3.comp 0)<|NB (r3.comp 1)<|.call 33 [.ref 0 0,VS ((r2.comp 0).ag)] [.cells [((o2.hO).cs.getD 0 .any),VI (((o2.hO).cs.getD 1 .any).toInt)]] fun r4 o4=>.ak ((o4.hO)=.cells (o4.hO).cs)<|.ak (aM [.lk .sl,.lk (.int .i64)] ((o4.hO).cs) 0 1 o4.tail)<|NS r4<|.test ((r3.comp 1).toBool) (NL (r3.comp 0)<|.test (decide ((((r3.comp 0).aR).length:Int)>(0:Int))) (.call 32 [.ref 0 0,VI 8] [.cells [((o4.hO).cs.getD 0 .any),VI (((o4.hO).cs.getD 1 .any).toInt)]] fun r5 o5=>.ak ((o5.hO)=.cells (o5.hO).cs)<|.ak (aM [.lk .sl,.lk (.int .i64)] ((o5.hO).cs) 0 1 o5.tail)<|NI r5<|.test (decide (r5.toInt>(0:Int))) (NL (r3.comp 0)<|.call 32 [.ref 0 0,VI (if(((r3.comp 0).aR).length:Int)<100 then(((r3.comp 0).aR).length:Int)else 100)] [.cells [((o5.hO).cs.getD 0 .any),VI (((o5.hO).cs.getD 1 .any).toInt)]] fun r6 o6=>.ak ((o6.hO)=.cells (o6.hO).cs)<|.ak (aM [.lk .sl,.lk (.int .i64)] ((o6.hO).cs) 0 1 o6.tail)<|NI r6<|.ak (LK.has .sl (r3.comp 0)/\0<=r6.toInt/\r6.toInt<(r3.comp 0).aR.length/\((r3.comp 0).aR.getD r6.toInt.toNat []).length=2)<|l0 ((r3.comp 0).aR.getD r6.toInt.toNat [])<|.done 0 [.cA [VS ((r2.comp 0).ag),VS ((((r3.comp 0).aR.getD r6.toInt.toNat []).hA).ag),VS r4.ag]] []) (.done 0 [.cA [VS ((r2.comp 0).ag),VS ((r2.comp 1).ag),VS r4.ag]] [])) (.done 0 [.cA [VS ((r2.comp 0).ag),VS ((r2.comp 1).ag),VS r4.ag]] [])) (.done 0 [.cA [VS ((r2.comp 0).ag),VS ((r2.comp 1).ag),VS r4.ag]] [])
theorem O9(a0:AV)(ha0:LK.has .sl a0)(h:dC 52 (KW a0) R):ap Tryz.prog 21 [a0] [] R :=
 uQ (ah (bY ha0) aD) (oQ [] Tryz.f21 h)
def LJ(a0:ByteArray)(a1:ByteArray)(a2:ByteArray):Tree :=
 .call 64 [VS a0,VS a2] [] fun r1 o1=>NT r1<|NP (r1.comp 0)<|NP (r1.comp 1)<|.call 65 [VS a0] [] fun r2 o2=>NT r2<|NS (r2.comp 0)<|NB (r2.comp 1)<|NP (r1.comp 1)<|.test ((r1.comp 1).isNil) (.done 0 [.cA [VS (mk []),VB false]] []) (.test (!((r2.comp 1).toBool)) (.done 0 [.cA [VS (mk []),VB false]] []) (.call 34 [VS ((r2.comp 0).ag),VS a1,VI 100] [] fun r3 o3=>NT r3<|NP (r3.comp 0)<|NP (r3.comp 1)<|NP (r3.comp 1)<|.test ((r3.comp 1).isNil) (.done 0 [.cA [VS (mk []),VB false]] []) (.call 66 [(r1.comp 0),(r3.comp 1),(r1.comp 1)] [] fun r4 o4=>NP r4<|.call 43 [r4] [] fun r5 o5=>NT r5<|NS (r5.comp 0)<|NB (r5.comp 1)<|.done 0 [.cA [VS ((r5.comp 0).ag),VB ((r5.comp 1).toBool)]] [])))
theorem PF(a0:ByteArray)(a1:ByteArray)(a2:ByteArray)(h:dC 46 (LJ a0 a1 a2) R):ap Tryz.prog 22 [VS a0,VS a1,VS a2] [] R :=
 uQ (ah (aB _) (ah (aB _) (ah (aB _) aD))) (oQ [] Tryz.f22 h)
def Fv(a0:ByteArray)(a1:ByteArray)(a2:ByteArray):Tree :=
 .call 67 [VS a0] [] fun r1 o1=>NT r1<|.ak ((r1.comp 0)=.agg (r1.comp 0).cs/\(r1.comp 0).cs.length=2/\bz [.str,.sl] ((r1.comp 0).cs) 0)<|NB (r1.comp 1)<|.call 68 [VS a0] [] fun r2 o2=>NT r2<|NS (r2.comp 0)<|NB (r2.comp 1)<|.test (!((r1.comp 1).toBool)) (.done 0 [.cA [VS (mk []),VB false]] []) (.test (!((r2.comp 1).toBool)) (.done 0 [.cA [VS (mk []),VB false]] []) (.call 39 [VS ((r2.comp 0).ag),VS a1,VI 100] [] fun r3 o3=>NB r3<|.test (!r3.toBool) (.done 0 [.cA [VS (mk []),VB false]] []) (.call 39 [VS a0,VS a2,VI 100] [] fun r4 o4=>NB r4<|.test (!r4.toBool) (.done 0 [.cA [VS (mk []),VB false]] []) (.call 37 [VS a1] [] fun r5 o5=>NT r5<|.ak ((r5.comp 0)=.agg (r5.comp 0).cs/\(r5.comp 0).cs.length=2/\bz [.str,.sl] ((r5.comp 0).cs) 0)<|NB (r5.comp 1)<|.call 37 [VS a2] [] fun r6 o6=>NT r6<|.ak ((r6.comp 0)=.agg (r6.comp 0).cs/\(r6.comp 0).cs.length=2/\bz [.str,.sl] ((r6.comp 0).cs) 0)<|NB (r6.comp 1)<|NG ((r1.comp 0).cs.getD 1 .any) 2 2<|NE (((r1.comp 0).cs.getD 1 .any).ix (2:Int))<|NG ((r1.comp 0).cs.getD 1 .any) 1 2<|l0 (((r1.comp 0).cs.getD 1 .any).ix (1:Int))<|.call 58 [.agg [VS (((((r1.comp 0).cs.getD 1 .any).ix (2:Int)).getD 0 .any).ag),((((r1.comp 0).cs.getD 1 .any).ix (2:Int)).getD 1 .any)],VS (((((r1.comp 0).cs.getD 1 .any).ix (1:Int)).hA).ag),.agg [VS (((r5.comp 0).cs.getD 0 .any).ag),((r5.comp 0).cs.getD 1 .any)],.agg [VS (((r6.comp 0).cs.getD 0 .any).ag),((r6.comp 0).cs.getD 1 .any)]] [] fun r7 o7=>NA r7<|.call 69 [VS (mk [102]),.sl [[VS ((r7.cs.getD 0 .any).ag),(r7.cs.getD 1 .any)]]] [] fun r8 o8=>NA r8<|.call 57 [.agg [VS ((r8.cs.getD 0 .any).ag),(r8.cs.getD 1 .any)]] [] fun r9 o9=>NS r9<|.call 39 [VS a0,VS r9.ag,VI 100] [] fun r10 o10=>NB r10<|.test (!r10.toBool) (.done 0 [.cA [VS (mk []),VB false]] []) (.done 0 [.cA [VS r9.ag,VB true]] [])))))
theorem KE(a0:ByteArray)(a1:ByteArray)(a2:ByteArray)(h:dC 75 (Fv a0 a1 a2) R):ap Tryz.prog 23 [VS a0,VS a1,VS a2] [] R :=
 uQ (ah (aB _) (ah (aB _) (ah (aB _) aD))) (oQ [] Tryz.f23 h)
def Jd(a0:ByteArray)(a1:ByteArray):Tree :=
 .call 64 [VS a0,VS a1] [] fun r1 o1=>NT r1<|NP (r1.comp 0)<|NP (r1.comp 1)<|NP (r1.comp 1)<|.test ((r1.comp 1).isNil) (.done 0 [.cA [.v (.slice none 0 0),VB false]] []) (.call 70 [(r1.comp 0),(r1.comp 1)] [] fun r2 o2=>NL r2<|.call 60 [r2] [] fun r3 o3=>NL r3<|.done 0 [.cA [r3,VB true]] [])
theorem OM(a0:ByteArray)(a1:ByteArray)(h:dC 20 (Jd a0 a1) R):ap Tryz.prog 24 [VS a0,VS a1] [] R :=
 uQ (ah (aB _) (ah (aB _) aD)) (oQ [] Tryz.f24 h)
def Kd(a0:AV):Tree :=
 NL a0<|.test (decide ((a0.aR.length:Int)>(2000:Int))) (.ak (LK.has .sl a0/\0<=(0:Int)/\(0:Int)<=(2000:Int)/\(2000:Int)<=(a0.aR.length:Int))<|.done 0 [.ref 0 0] [.cells [.sl ((a0.aR.take (bW 2000)).drop (bW 0)),VI 0]]) (.done 0 [.ref 0 0] [.cells [a0,VI 0]])
theorem OA(a0:AV)(ha0:LK.has .sl a0)(h:dC 11 (Kd a0) R):ap Tryz.prog 30 [a0] [] R :=
 uQ (ah (bY ha0) aD) (oF [] {mu:=[],own:=[0],ow:=[.sl,.int .i64]} Tryz.f30 h)
def Is(a0_0:AV)(a0_1:Int)(a1:Int):Tree :=
 .test (decide (a1<(1:Int))) (.done 0 [VI 0] [.cells [a0_0,VI (IntKind.wrap .i64 (a0_1+1))]]) (NL a0_0<|.test ((a0_0.aR.length:Int)==(0:Int)) (.done 0 [VI 0] [.cells [a0_0,VI (IntKind.wrap .i64 (a0_1+1))]]) (NL a0_0<|.test (decide ((IntKind.wrap .i64 ((IntKind.wrap .i64 (a0_1+1))-1))<(a0_0.aR.length:Int))) (.ak (LK.has .sl a0_0/\0<=(IntKind.wrap .i64 ((IntKind.wrap .i64 (a0_1+1))-1))/\(IntKind.wrap .i64 ((IntKind.wrap .i64 (a0_1+1))-1))<a0_0.aR.length/\(a0_0.ix (IntKind.wrap .i64 ((IntKind.wrap .i64 (a0_1+1))-1))).length=1)<|.ak (LK.has (.int .u8) ((a0_0.ix (IntKind.wrap .i64 ((IntKind.wrap .i64 (a0_1+1))-1))).hA)/\1<=(a0_0.ix (IntKind.wrap .i64 ((IntKind.wrap .i64 (a0_1+1))-1))).length)<|.ak (¬a1=0)<|.done 0 [VI (dF (IntKind.wrap .i64 (((a0_0.ix (IntKind.wrap .i64 ((IntKind.wrap .i64 (a0_1+1))-1))).hA).toInt)) a1)] [.cells [a0_0,VI (IntKind.wrap .i64 (a0_1+1))]]) (NL a0_0<|.ak (¬(a0_0.aR.length:Int)=0)<|.ak (LK.has .sl a0_0/\0<=(dF (IntKind.wrap .i64 ((IntKind.wrap .i64 (a0_1+1))-1)) (a0_0.aR.length:Int))/\(dF (IntKind.wrap .i64 ((IntKind.wrap .i64 (a0_1+1))-1)) (a0_0.aR.length:Int))<a0_0.aR.length/\(a0_0.ix (dF (IntKind.wrap .i64 ((IntKind.wrap .i64 (a0_1+1))-1)) (a0_0.aR.length:Int))).length=1)<|.ak (LK.has (.int .u8) ((a0_0.ix (dF (IntKind.wrap .i64 ((IntKind.wrap .i64 (a0_1+1))-1)) (a0_0.aR.length:Int))).hA)/\1<=(a0_0.ix (dF (IntKind.wrap .i64 ((IntKind.wrap .i64 (a0_1+1))-1)) (a0_0.aR.length:Int))).length)<|NL a0_0<|.ak (¬(a0_0.aR.length:Int)=0)<|.ak (LK.has .sl a0_0/\0<=(dF (IntKind.wrap .i64 ((IntKind.wrap .i64 ((IntKind.wrap .i64 ((IntKind.wrap .i64 (a0_1+1))-1))*7))+3)) (a0_0.aR.length:Int))/\(dF (IntKind.wrap .i64 ((IntKind.wrap .i64 ((IntKind.wrap .i64 ((IntKind.wrap .i64 (a0_1+1))-1))*7))+3)) (a0_0.aR.length:Int))<a0_0.aR.length/\(a0_0.ix (dF (IntKind.wrap .i64 ((IntKind.wrap .i64 ((IntKind.wrap .i64 ((IntKind.wrap .i64 (a0_1+1))-1))*7))+3)) (a0_0.aR.length:Int))).length=1)<|.ak (LK.has (.int .u8) ((a0_0.ix (dF (IntKind.wrap .i64 ((IntKind.wrap .i64 ((IntKind.wrap .i64 ((IntKind.wrap .i64 (a0_1+1))-1))*7))+3)) (a0_0.aR.length:Int))).hA)/\1<=(a0_0.ix (dF (IntKind.wrap .i64 ((IntKind.wrap .i64 ((IntKind.wrap .i64 ((IntKind.wrap .i64 (a0_1+1))-1))*7))+3)) (a0_0.aR.length:Int))).length)<|NL a0_0<|.ak (¬(a0_0.aR.length:Int)=0)<|.ak (¬(64:Int)=0)<|.ak (¬a1=0)<|.done 0 [VI (dF (Af .i64 (IntKind.wrap .i64 ((IntKind.wrap .i64 ((IntKind.wrap .i64 ((IntKind.wrap .i64 ((IntKind.wrap .i64 (((a0_0.ix (dF (IntKind.wrap .i64 ((IntKind.wrap .i64 (a0_1+1))-1)) (a0_0.aR.length:Int))).hA).toInt))*131))+(IntKind.wrap .i64 ((IntKind.wrap .i64 (((a0_0.ix (dF (IntKind.wrap .i64 ((IntKind.wrap .i64 ((IntKind.wrap .i64 ((IntKind.wrap .i64 (a0_1+1))-1))*7))+3)) (a0_0.aR.length:Int))).hA).toInt))*1117))))+(IntKind.wrap .i64 ((IntKind.wrap .i64 ((IntKind.wrap .i64 (a0_1+1))-1))*29))))+(IntKind.wrap .i64 ((IntKind.wrap .i64 (Int.tdiv (IntKind.wrap .i64 ((IntKind.wrap .i64 (a0_1+1))-1)) (a0_0.aR.length:Int)))*53)))) (IntKind.wrap .i64 (Int.tdiv (IntKind.wrap .i64 ((IntKind.wrap .i64 ((IntKind.wrap .i64 ((IntKind.wrap .i64 ((IntKind.wrap .i64 (((a0_0.ix (dF (IntKind.wrap .i64 ((IntKind.wrap .i64 (a0_1+1))-1)) (a0_0.aR.length:Int))).hA).toInt))*131))+(IntKind.wrap .i64 ((IntKind.wrap .i64 (((a0_0.ix (dF (IntKind.wrap .i64 ((IntKind.wrap .i64 ((IntKind.wrap .i64 ((IntKind.wrap .i64 (a0_1+1))-1))*7))+3)) (a0_0.aR.length:Int))).hA).toInt))*1117))))+(IntKind.wrap .i64 ((IntKind.wrap .i64 ((IntKind.wrap .i64 (a0_1+1))-1))*29))))+(IntKind.wrap .i64 ((IntKind.wrap .i64 (Int.tdiv (IntKind.wrap .i64 ((IntKind.wrap .i64 (a0_1+1))-1)) (a0_0.aR.length:Int)))*53)))) 64))) a1)] [.cells [a0_0,VI (IntKind.wrap .i64 (a0_1+1))]])))
theorem N5(a0_0:AV)(a0_1:Int)(a1:Int)(ha0_0:LK.has .sl a0_0)(h:dC 99 (Is a0_0 a0_1 a1) R):ap Tryz.prog 32 [.ref 0 0,VI a1] [.cells [a0_0,VI a0_1]] R :=
 ap.nS (bw (cc (ah (bY ha0_0) (ah (aB _) aD))) cx) (ap.up (ah (aB _) (ah (aB _) aD)) (oF [] {mu:=[(0,.one (.obj [.lk .sl,.lk (.int .i64)]))],own:=[]} Tryz.f32 h))
def H3(a0_0:AV)(a0_1:Int)(a1:ByteArray):Tree :=
 .call 46 [VS a1] [] fun r1 o1=>NT r1<|.ak ((r1.comp 0)=.agg (r1.comp 0).cs/\(r1.comp 0).cs.length=2/\bz [.str,.sl] ((r1.comp 0).cs) 0)<|NB (r1.comp 1)<|.test (!((r1.comp 1).toBool)) (.call 55 [.ref 0 0,.sl [[VS (mk [])],[VS (mk [117])],[VS (mk [101,48])],[VS (mk [101,48,48])],[VS (mk [101,49,48,48])],[VS (mk [40,108,32,117,41])],[VS (mk [40,112,32,117,41])],[VS (mk [40,102,32,40,108,32,117,41,41])],[VS (mk [40,120,32,117,41])],[VS (mk [40,108,32,32,117,41])]]] [.cells [a0_0,VI a0_1]] fun r2 o2=>.ak ((o2.hO)=.cells (o2.hO).cs)<|.ak (aM [.lk .sl,.lk (.int .i64)] ((o2.hO).cs) 0 1 o2.tail)<|NS r2<|.done 0 [VS r2.ag] [.cells [((o2.hO).cs.getD 0 .any),VI (((o2.hO).cs.getD 1 .any).toInt)]]) (.call 32 [.ref 0 0,VI 16] [.cells [a0_0,VI a0_1]] fun r3 o3=>.ak ((o3.hO)=.cells (o3.hO).cs)<|.ak (aM [.lk .sl,.lk (.int .i64)] ((o3.hO).cs) 0 1 o3.tail)<|NI r3<|.test (r3.toInt==(0:Int)) (.call 55 [.ref 0 0,.sl [[VS (mk [])],[VS (mk [117])],[VS (mk [101,48])],[VS (mk [101,48,48])],[VS (mk [101,49,48,48])],[VS (mk [40,108,32,117,41])],[VS (mk [40,112,32,117,41])],[VS (mk [40,102,32,40,108,32,117,41,41])],[VS (mk [40,120,32,117,41])],[VS (mk [40,108,32,32,117,41])]]] [.cells [((o3.hO).cs.getD 0 .any),VI (((o3.hO).cs.getD 1 .any).toInt)]] fun r4 o4=>.ak ((o4.hO)=.cells (o4.hO).cs)<|.ak (aM [.lk .sl,.lk (.int .i64)] ((o4.hO).cs) 0 1 o4.tail)<|NS r4<|.done 0 [VS r4.ag] [.cells [((o4.hO).cs.getD 0 .any),VI (((o4.hO).cs.getD 1 .any).toInt)]]) (.call 78 [.agg [VS (((r1.comp 0).cs.getD 0 .any).ag),((r1.comp 0).cs.getD 1 .any)],.v (.slice none 0 0)] [] fun r5 o5=>NA r5<|.call 32 [.ref 0 0,VI 5] [.cells [((o3.hO).cs.getD 0 .any),VI (((o3.hO).cs.getD 1 .any).toInt)]] fun r6 o6=>.ak ((o6.hO)=.cells (o6.hO).cs)<|.ak (aM [.lk .sl,.lk (.int .i64)] ((o6.hO).cs) 0 1 o6.tail)<|NI r6<|.call 77 [.ref 0 0,.agg [VS ((r5.cs.getD 0 .any).ag),(r5.cs.getD 1 .any)],VI (IntKind.wrap .i64 (5+r6.toInt))] [.cells [((o6.hO).cs.getD 0 .any),VI (((o6.hO).cs.getD 1 .any).toInt)]] fun r7 o7=>.ak ((o7.hO)=.cells (o7.hO).cs)<|.ak (aM [.lk .sl,.lk (.int .i64)] ((o7.hO).cs) 0 1 o7.tail)<|NA r7<|.call 57 [.agg [VS ((r7.cs.getD 0 .any).ag),(r7.cs.getD 1 .any)]] [] fun r8 o8=>NS r8<|.done 0 [VS r8.ag] [.cells [((o7.hO).cs.getD 0 .any),VI (((o7.hO).cs.getD 1 .any).toInt)]]))
theorem PA(a0_0:AV)(a0_1:Int)(a1:ByteArray)(ha0_0:LK.has .sl a0_0)(h:dC 30 (H3 a0_0 a0_1 a1) R):ap Tryz.prog 33 [.ref 0 0,VS a1] [.cells [a0_0,VI a0_1]] R :=
 ap.nS (bw (cc (ah (bY ha0_0) (ah (aB _) aD))) cx) (ap.up (ah (aB _) (ah (aB _) aD)) (oF [] {mu:=[(0,.one (.obj [.lk .sl,.lk (.int .i64)]))],own:=[]} Tryz.f33 h))
def Jt(a0:ByteArray)(a1:ByteArray)(a2:Int):Tree :=
 .call 79 [VS a0] [] fun r1 o1=>NP r1<|.call 48 [VS a1] [] fun r2 o2=>NP r2<|NP r1<|.test r1.isNil (.done 0 [.cA [r1,.v (.pointer none)]] []) (NP r2<|.test r2.isNil (.done 0 [.cA [r1,.v (.pointer none)]] []) (.test (decide (a2<(0:Int))) (.done 0 [.cA [r1,.v (.pointer none)]] []) (.test (decide (a2>(100:Int))) (.done 0 [.cA [r1,.v (.pointer none)]] []) (.call 80 [.agg [r1,.v (.pointer none)],r2,VI a2] [] fun r3 o3=>NB r3<|.test (!r3.toBool) (.done 0 [.cA [r1,.v (.pointer none)]] []) (.done 0 [.cA [r1,r2]] [])))))
theorem Nq(a0:ByteArray)(a1:ByteArray)(a2:Int)(h:dC 39 (Jt a0 a1 a2) R):ap Tryz.prog 34 [VS a0,VS a1,VI a2] [] R :=
 uQ (ah (aB _) (ah (aB _) (ah (aB _) aD))) (oQ [] Tryz.f34 h)
def I9(a0:ByteArray):Tree :=
 .call 84 [VS a0] [] fun r1 o1=>NT r1<|.ak ((r1.comp 0)=.agg (r1.comp 0).cs/\(r1.comp 0).cs.length=2/\bz [.str,.sl] ((r1.comp 0).cs) 0)<|NB (r1.comp 1)<|.test ((r1.comp 1).toBool) (.call 85 [.agg [VS (((r1.comp 0).cs.getD 0 .any).ag),((r1.comp 0).cs.getD 1 .any)]] [] fun r2 o2=>NB r2<|.test r2.toBool (.call 86 [.agg [VS (((r1.comp 0).cs.getD 0 .any).ag),((r1.comp 0).cs.getD 1 .any)]] [] fun r3 o3=>NI r3<|.done 0 [.cA [.agg [VS (((r1.comp 0).cs.getD 0 .any).ag),((r1.comp 0).cs.getD 1 .any)],VB (decide (r3.toInt<=(200:Int)))]] []) (.done 0 [.cA [.agg [VS (((r1.comp 0).cs.getD 0 .any).ag),((r1.comp 0).cs.getD 1 .any)],VB false]] [])) (.done 0 [.cA [.agg [VS (((r1.comp 0).cs.getD 0 .any).ag),((r1.comp 0).cs.getD 1 .any)],VB false]] [])
theorem MD(a0:ByteArray)(h:dC 22 (I9 a0) R):ap Tryz.prog 37 [VS a0] [] R :=
 uQ (ah (aB _) aD) (oQ [] Tryz.f37 h)
def Jh(a0:ByteArray)(a1:ByteArray)(a2:Int):Tree :=
 .call 46 [VS a0] [] fun r1 o1=>NT r1<|.ak ((r1.comp 0)=.agg (r1.comp 0).cs/\(r1.comp 0).cs.length=2/\bz [.str,.sl] ((r1.comp 0).cs) 0)<|NB (r1.comp 1)<|.call 37 [VS a1] [] fun r2 o2=>NT r2<|.ak ((r2.comp 0)=.agg (r2.comp 0).cs/\(r2.comp 0).cs.length=2/\bz [.str,.sl] ((r2.comp 0).cs) 0)<|NB (r2.comp 1)<|.test ((r1.comp 1).toBool) (.test ((r2.comp 1).toBool) (.call 87 [VI a2,VI 0,VI 100] [] fun r3 o3=>NB r3<|.test r3.toBool (.call 89 [.agg [VS (((r1.comp 0).cs.getD 0 .any).ag),((r1.comp 0).cs.getD 1 .any)],.sl [],.agg [VS (((r2.comp 0).cs.getD 0 .any).ag),((r2.comp 0).cs.getD 1 .any)],VI a2] [] fun r4 o4=>NB r4<|.done 0 [VB r4.toBool] []) (.done 0 [VB false] [])) (.done 0 [VB false] [])) (.done 0 [VB false] [])
theorem M4(a0:ByteArray)(a1:ByteArray)(a2:Int)(h:dC 36 (Jh a0 a1 a2) R):ap Tryz.prog 39 [VS a0,VS a1,VI a2] [] R :=
 uQ (ah (aB _) (ah (aB _) (ah (aB _) aD))) (oQ [] Tryz.f39 h)
def Ih(a0:AV):Tree :=
 .call 50 [a0] [] fun r1 o1=>NI r1<|.test (decide (r1.toInt>(200:Int))) (.done 0 [.cA [VS (mk []),VB false]] []) (.call 93 [a0] [] fun r2 o2=>NS r2<|.done 0 [.cA [VS r2.ag,VB true]] [])
theorem Ox(a0:AV)(ha0:LK.has .ptr a0)(h:dC 9 (Ih a0) R):ap Tryz.prog 43 [a0] [] R :=
 uQ (ah (bA ha0) aD) (oQ [] Tryz.f43 h)
def Em:LI:={hd:={cf:=[(7,.k (.int .i64))],refs:=[(2,2),(4,4)],co:=[(2,[.lk .str,.lk .sl]),(4,[.lk .str,.lk .sl])],eQ:=[(6,1)]},xs:={refs:=[(2,2),(4,4)],co:=[(2,[.lk .str,.lk .sl]),(4,[.lk .str,.lk .sl])]},rt:={cf:=[(3,.k .bool)],refs:=[(2,2)],co:=[(2,[.lk .str,.lk .sl])]},ex:=0}
def Jy:Code:=da (cS Tryz.f46) 6
def JV:List (Nat×LI):=[(6,Em)]
def Hr(a0:ByteArray):Tree :=
 .call 82 [VS a0] [] fun r1 o1=>NT r1<|.ak ((r1.comp 0)=.agg (r1.comp 0).cs/\(r1.comp 0).cs.length=2/\bz [.str,.sl] ((r1.comp 0).cs) 0)<|NB (r1.comp 1)<|.test (!((r1.comp 1).toBool)) (.done 0 [.cA [.agg [VS (((r1.comp 0).cs.getD 0 .any).ag),((r1.comp 0).cs.getD 1 .any)],VB false]] []) (.call 98 [.agg [VS (((r1.comp 0).cs.getD 0 .any).ag),((r1.comp 0).cs.getD 1 .any)],.sl [],.vec 0] [.vec 1 []] fun r2 o2=>.ak (r2=.vec 1/\(o2.tail.hO)=.vec 1 (o2.tail.hO).es)<|.loop Jy Em [VI 0] [.cells [VS (mk []),.v (.slice none 0 0)],.cells [VS (((r1.comp 0).cs.getD 0 .any).ag),((r1.comp 0).cs.getD 1 .any)],.vec 1 ((o2.tail.hO).es)] (fun y4 q4=>.ak ((q4.hO)=.cells (q4.hO).cs)<|.ak (af [.lk .str,.lk .sl] ((q4.hO).cs) 0 q4.tail)<|.ak (((q4.tail.drop 0).hO)=.cells ((q4.tail.drop 0).hO).cs)<|.ak (af [.lk .str,.lk .sl] (((q4.tail.drop 0).hO).cs) 0 ((q4.tail.drop 0).tail))<|.done 0 [.cA [.agg [VS (((q4.tail.hO).cs.getD 0 .any).ag),((q4.tail.hO).cs.getD 1 .any)],VB true]] []) (fun y4 q4=>NB (y4.hA)<|.ak ((q4.hO)=.cells (q4.hO).cs)<|.ak (af [.lk .str,.lk .sl] ((q4.hO).cs) 0 q4.tail)<|.done 0 [.cA [.agg [VS (((q4.hO).cs.getD 0 .any).ag),((q4.hO).cs.getD 1 .any)],VB ((y4.hA).toBool)]] []))
theorem Of(a0:ByteArray)(h:dC 33 (Hr a0) R):ap Tryz.prog 46 [VS a0] [] R :=
 uQ (ah (aB _) aD) (oQ JV Tryz.f46 h)
def EM(x7:Int)(o2_0:ByteArray)(o2_1:AV)(o4_0:ByteArray)(o4_1:AV)(e6:List (List AV)):Tree :=
 NI (VI x7)<|.ak (Ob.cells [VS o2_0,o2_1]=.cells [VS o2_0,o2_1])<|.ak (af [.lk .str,.lk .sl] [VS o2_0,o2_1] 0 [.cells [VS o4_0,o4_1],.vec 1 e6])<|.ak (Ob.cells [VS o4_0,o4_1]=.cells [VS o4_0,o4_1])<|.ak (af [.lk .str,.lk .sl] [VS o4_0,o4_1] 0 [.vec 1 e6])<|.ak (Ob.vec 1 e6=.vec 1 e6)<|.test (decide (x7<(e6.length:Int))) (.ak (0<=x7/\x7<e6.length)<|.ak (x7.toNat<e6.length/\0<(e6.getD x7.toNat []).length/\LK.has .str ((e6.getD x7.toNat []).getD 0 .any))<|.call 99 [VS (((e6.getD x7.toNat []).getD 0 .any).ag)] [] fun r1 o1=>NB r1<|.test r1.toBool (.done 2 [VB false] [.cells [VS o4_0,o4_1]]) (.done 0 [VI (IntKind.wrap .i64 (x7+1))] [.cells [VS o2_0,o2_1],.cells [VS o4_0,o4_1],.vec 1 e6])) (.done 1 [] [.cells [VS o2_0,o2_1],.cells [VS o4_0,o4_1]])
abbrev EC:=cI Tryz.prog 33 Jy Em
theorem K8(x7:Int)(o2_0:ByteArray)(o2_1:AV)(o4_0:ByteArray)(o4_1:AV)(e6:List (List AV))(h:l4 33 (EM x7 o2_0 o2_1 o4_0 o4_1 e6) EC U):EC [VI x7] [.cells [VS o2_0,o2_1],.cells [VS o4_0,o4_1],.vec 1 e6] U :=
 gQ JV h
def JF(a0:ByteArray):Tree :=
 .call 103 [VS a0] [] fun r1 o1=>NP r1<|NP r1<|.test r1.isNil (.done 0 [.v (.pointer none)] []) (.call 104 [r1] [] fun r2 o2=>NP r2<|NP r2<|.test r2.isNil (.done 0 [.v (.pointer none)] []) (.call 50 [r2] [] fun r3 o3=>NI r3<|.test (decide (r3.toInt>(200:Int))) (.done 0 [.v (.pointer none)] []) (.done 0 [r2] [])))
theorem N2(a0:ByteArray)(h:dC 19 (JF a0) R):ap Tryz.prog 48 [VS a0] [] R :=
 uQ (ah (aB _) aD) (oQ [] Tryz.f48 h)
def BI(a0_0:AV)(a0_1:AV)(a1:AV)(a2_0:ByteArray)(a2_1:AV)(a3:AV):Tree :=
 NZ a0_0<|NZ a0_0<|.ak (LK.has (.int .u8) (a0_0.deref.hA)/\1<=a0_0.deref.length)<|.test (((a0_0.deref.hA).toInt)==(43:Int)) (.call 105 [.agg [a0_0,a0_1]] [] fun r1 o1=>.ak (r1=.agg r1.cs/\r1.cs.length=2/\bz [.ptr,.ptr] r1.cs 0)<|NZ a1<|NZ a1<|.ak (LK.has (.int .u8) (a1.deref.hA)/\1<=a1.deref.length)<|.test (((a1.deref.hA).toInt)==(114:Int)) (.call 106 [.agg [a0_0,a0_1]] [] fun r2 o2=>.ak (r2=.agg r2.cs/\r2.cs.length=2/\bz [.ptr,.ptr] r2.cs 0)<|NZ a1<|NZ a1<|.ak (LK.has (.int .u8) (a1.deref.hA)/\1<=a1.deref.length)<|NZ a1<|NZ a1<|ez (a1.deref.drop 2)<|.call 49 [.agg [(r2.cs.getD 0 .any),(r2.cs.getD 1 .any)],((a1.deref.drop 2).hA),.agg [VS a2_0,a2_1],a3] [] fun r3 o3=>NP r3<|.call 95 [.v (.int .u8 ((a1.deref.hA).toInt)),r3] [] fun r4 o4=>NP r4<|.done 0 [r4] []) (NZ a1<|NZ a1<|.ak (LK.has (.int .u8) (a1.deref.hA)/\1<=a1.deref.length)<|NZ a1<|NZ a1<|ez (a1.deref.drop 2)<|.call 49 [.agg [(r1.cs.getD 0 .any),(r1.cs.getD 1 .any)],((a1.deref.drop 2).hA),.agg [VS a2_0,a2_1],a3] [] fun r5 o5=>NP r5<|.call 95 [.v (.int .u8 ((a1.deref.hA).toInt)),r5] [] fun r6 o6=>NP r6<|.done 0 [r6] [])) (.test (((a0_0.deref.hA).toInt)==(42:Int)) (NZ a1<|NZ a1<|.ak (LK.has (.int .u8) (a1.deref.hA)/\1<=a1.deref.length)<|.test (((a1.deref.hA).toInt)==(108:Int)) (.call 105 [.agg [a0_0,a0_1]] [] fun r7 o7=>.ak (r7=.agg r7.cs/\r7.cs.length=2/\bz [.ptr,.ptr] r7.cs 0)<|NZ a1<|NZ a1<|ez (a1.deref.drop 2)<|NZ ((a1.deref.drop 2).hA)<|NZ ((a1.deref.drop 2).hA)<|ez (((a1.deref.drop 2).hA).deref.drop 2)<|.call 49 [.agg [(r7.cs.getD 0 .any),(r7.cs.getD 1 .any)],((((a1.deref.drop 2).hA).deref.drop 2).hA),.agg [VS a2_0,a2_1],a3] [] fun r8 o8=>NP r8<|NZ a1<|NZ a1<|ez (a1.deref.drop 2)<|NZ ((a1.deref.drop 2).hA)<|NZ ((a1.deref.drop 2).hA)<|ez (((a1.deref.drop 2).hA).deref.drop 3)<|.call 96 [r8,((((a1.deref.drop 2).hA).deref.drop 3).hA)] [] fun r9 o9=>NP r9<|.done 0 [r9] []) (NZ a1<|NZ a1<|ez (a1.deref.drop 2)<|NZ ((a1.deref.drop 2).hA)<|NZ ((a1.deref.drop 2).hA)<|ez (((a1.deref.drop 2).hA).deref.drop 2)<|.call 106 [.agg [a0_0,a0_1]] [] fun r10 o10=>.ak (r10=.agg r10.cs/\r10.cs.length=2/\bz [.ptr,.ptr] r10.cs 0)<|NZ a1<|NZ a1<|ez (a1.deref.drop 2)<|NZ ((a1.deref.drop 2).hA)<|NZ ((a1.deref.drop 2).hA)<|ez (((a1.deref.drop 2).hA).deref.drop 3)<|.call 49 [.agg [(r10.cs.getD 0 .any),(r10.cs.getD 1 .any)],((((a1.deref.drop 2).hA).deref.drop 3).hA),.agg [VS a2_0,a2_1],a3] [] fun r11 o11=>NP r11<|.call 96 [((((a1.deref.drop 2).hA).deref.drop 2).hA),r11] [] fun r12 o12=>NP r12<|.done 0 [r12] [])) (.test (((a0_0.deref.hA).toInt)==(114:Int)) (.call 107 [.agg [a0_0,a0_1]] [] fun r13 o13=>NT r13<|.ak ((r13.comp 0)=.agg (r13.comp 0).cs/\(r13.comp 0).cs.length=2/\bz [.ptr,.ptr] ((r13.comp 0).cs) 0)<|NP (r13.comp 1)<|NZ a1<|NZ a1<|ez (a1.deref.drop 2)<|NZ ((a1.deref.drop 2).hA)<|NZ ((a1.deref.drop 2).hA)<|.ak (LK.has (.int .u8) (((a1.deref.drop 2).hA).deref.hA)/\1<=(((a1.deref.drop 2).hA).deref).length)<|.test (((((a1.deref.drop 2).hA).deref.hA).toInt)==(108:Int)) (NZ a1<|NZ a1<|ez (a1.deref.drop 2)<|NZ ((a1.deref.drop 2).hA)<|NZ ((a1.deref.drop 2).hA)<|ez (((a1.deref.drop 2).hA).deref.drop 2)<|.call 49 [.agg [((r13.comp 0).cs.getD 0 .any),((r13.comp 0).cs.getD 1 .any)],((((a1.deref.drop 2).hA).deref.drop 2).hA),.agg [VS a2_0,a2_1],a3] [] fun r14 o14=>NP r14<|.call 95 [.v (.int .u8 102),r14] [] fun r15 o15=>NP r15<|.done 0 [r15] []) (NZ a1<|NZ a1<|ez (a1.deref.drop 2)<|NZ ((a1.deref.drop 2).hA)<|NZ ((a1.deref.drop 2).hA)<|ez (((a1.deref.drop 2).hA).deref.drop 2)<|NZ ((((a1.deref.drop 2).hA).deref.drop 2).hA)<|NZ ((((a1.deref.drop 2).hA).deref.drop 2).hA)<|ez (((((a1.deref.drop 2).hA).deref.drop 2).hA).deref.drop 3)<|.call 49 [.agg [a0_0,a0_1],((((((a1.deref.drop 2).hA).deref.drop 2).hA).deref.drop 3).hA),.agg [VS a2_0,a2_1],a3] [] fun r16 o16=>NP r16<|NZ a1<|NZ a1<|ez (a1.deref.drop 2)<|NZ ((a1.deref.drop 2).hA)<|NZ ((a1.deref.drop 2).hA)<|ez (((a1.deref.drop 2).hA).deref.drop 2)<|NZ ((((a1.deref.drop 2).hA).deref.drop 2).hA)<|NZ ((((a1.deref.drop 2).hA).deref.drop 2).hA)<|ez (((((a1.deref.drop 2).hA).deref.drop 2).hA).deref.drop 2)<|.call 49 [.agg [((r13.comp 0).cs.getD 0 .any),((r13.comp 0).cs.getD 1 .any)],((((((a1.deref.drop 2).hA).deref.drop 2).hA).deref.drop 2).hA),.agg [VS (mk []),(r13.comp 1)],r16] [] fun r17 o17=>NP r17<|.call 95 [.v (.int .u8 102),r17] [] fun r18 o18=>NP r18<|.done 0 [r18] [])) (.done 0 [a3] [])))
theorem NV(a0_0:AV)(a0_1:AV)(a1:AV)(a2_0:ByteArray)(a2_1:AV)(a3:AV)(ha0_0:LK.has .ptr a0_0)(ha0_1:LK.has .ptr a0_1)(ha1:LK.has .ptr a1)(ha2_1:LK.has .ptr a2_1)(ha3:LK.has .ptr a3)(h:dC 147 (BI a0_0 a0_1 a1 a2_0 a2_1 a3) R):ap Tryz.prog 49 [.agg [a0_0,a0_1],a1,.agg [VS a2_0,a2_1],a3] [] R :=
 uQ (ah (cr (ah (bA ha0_0) (ah (bA ha0_1) aD))) (ah (bA ha1) (ah (cr (ah (aB _) (ah (bA ha2_1) aD))) (ah (bA ha3) aD)))) (oQ [] Tryz.f49 h)
def wF(a0:AV):Tree :=
 NZ a0<|NZ a0<|ez (a0.deref.drop 2)<|NP ((a0.deref.drop 2).hA)<|.test (!((a0.deref.drop 2).hA).isNil) (NZ a0<|NZ a0<|ez (a0.deref.drop 2)<|.call 50 [((a0.deref.drop 2).hA)] [] fun r1 o1=>NI r1<|NZ a0<|NZ a0<|ez (a0.deref.drop 3)<|NP ((a0.deref.drop 3).hA)<|.test (!((a0.deref.drop 3).hA).isNil) (NZ a0<|NZ a0<|ez (a0.deref.drop 3)<|.call 50 [((a0.deref.drop 3).hA)] [] fun r2 o2=>NI r2<|.done 0 [VI (IntKind.wrap .i64 ((IntKind.wrap .i64 (1+r1.toInt))+r2.toInt))] []) (.done 0 [VI (IntKind.wrap .i64 (1+r1.toInt))] [])) (NZ a0<|NZ a0<|ez (a0.deref.drop 3)<|NP ((a0.deref.drop 3).hA)<|.test (!((a0.deref.drop 3).hA).isNil) (NZ a0<|NZ a0<|ez (a0.deref.drop 3)<|.call 50 [((a0.deref.drop 3).hA)] [] fun r3 o3=>NI r3<|.done 0 [VI (IntKind.wrap .i64 (1+r3.toInt))] []) (.done 0 [VI 1] []))
theorem zo(a0:AV)(ha0:LK.has .ptr a0)(h:dC 29 (wF a0) R):ap Tryz.prog 50 [a0] [] R :=
 uQ (ah (bA ha0) aD) (oQ [] Tryz.f50 h)
def LC(a0_0:AV)(a0_1:Int):Tree :=
 .call 108 [.ref 0 0] [.cells [a0_0,VI a0_1]] fun r1 o1=>.ak ((o1.hO)=.cells (o1.hO).cs)<|.ak (aM [.lk .sl,.lk (.int .i64)] ((o1.hO).cs) 0 1 o1.tail)<|NS r1<|.call 33 [.ref 0 0,VS r1.ag] [.cells [((o1.hO).cs.getD 0 .any),VI (((o1.hO).cs.getD 1 .any).toInt)]] fun r2 o2=>.ak ((o2.hO)=.cells (o2.hO).cs)<|.ak (aM [.lk .sl,.lk (.int .i64)] ((o2.hO).cs) 0 1 o2.tail)<|NS r2<|.done 0 [.cA [VS r1.ag,VS r2.ag]] [.cells [((o2.hO).cs.getD 0 .any),VI (((o2.hO).cs.getD 1 .any).toInt)]]
theorem MJ(a0_0:AV)(a0_1:Int)(ha0_0:LK.has .sl a0_0)(h:dC 11 (LC a0_0 a0_1) R):ap Tryz.prog 51 [.ref 0 0] [.cells [a0_0,VI a0_1]] R :=
 ap.nS (bw (cc (ah (bY ha0_0) (ah (aB _) aD))) cx) (ap.up (ah (aB _) aD) (oF [] {mu:=[(0,.one (.obj [.lk .sl,.lk (.int .i64)]))],own:=[]} Tryz.f51 h))
def I1(a0:Int):Tree :=
 .test (decide (a0<((-9223372036854775807):Int))) (.done 0 [VS (mk [45,57,50,50,51,51,55,50,48,51,54,56,53,52,55,55,53,56,48,56])] []) (.test (decide (a0<(0:Int))) (.call 54 [VI (IntKind.wrap .i64 (0-a0))] [] fun r1 o1=>NS r1<|.ak (ae (mk [45])+ae r1.ag<=9223372036854775807)<|.done 0 [VS (((mk [45]):ByteArray)++r1.ag)] []) (.test (decide (a0<(10:Int))) (.ak (jy [[.v (.int .u8 (IntKind.wrap .u8 (IntKind.wrap .i64 (48+a0))))]])<|.done 0 [VS (⟨(bytesOf [[.v (.int .u8 (IntKind.wrap .u8 (IntKind.wrap .i64 (48+a0))))]]).toArray⟩)] []) (.ak (¬(10:Int)=0)<|.call 54 [VI (IntKind.wrap .i64 (Int.tdiv a0 10))] [] fun r2 o2=>NS r2<|.ak (¬(10:Int)=0)<|.ak (jy [[.v (.int .u8 (IntKind.wrap .u8 (IntKind.wrap .i64 (48+(dF a0 10)))))]])<|.ak (ae r2.ag+ae (⟨(bytesOf [[.v (.int .u8 (IntKind.wrap .u8 (IntKind.wrap .i64 (48+(dF a0 10)))))]]).toArray⟩)<=9223372036854775807)<|.done 0 [VS ((r2.ag:ByteArray)++(⟨(bytesOf [[.v (.int .u8 (IntKind.wrap .u8 (IntKind.wrap .i64 (48+(dF a0 10)))))]]).toArray⟩))] [])))
theorem Nr(a0:Int)(h:dC 28 (I1 a0) R):ap Tryz.prog 54 [VI a0] [] R :=
 uQ (ah (aB _) aD) (oQ [] Tryz.f54 h)
def IQ(a0_0:AV)(a0_1:Int)(a1:AV):Tree :=
 NL a1<|.call 32 [.ref 0 0,VI (a1.aR.length:Int)] [.cells [a0_0,VI a0_1]] fun r1 o1=>.ak ((o1.hO)=.cells (o1.hO).cs)<|.ak (aM [.lk .sl,.lk (.int .i64)] ((o1.hO).cs) 0 1 o1.tail)<|NI r1<|.ak (LK.has .sl a1/\0<=r1.toInt/\r1.toInt<a1.aR.length/\(a1.aR.getD r1.toInt.toNat []).length=1)<|l0 (a1.aR.getD r1.toInt.toNat [])<|.done 0 [VS (((a1.aR.getD r1.toInt.toNat []).hA).ag)] [.cells [((o1.hO).cs.getD 0 .any),VI (((o1.hO).cs.getD 1 .any).toInt)]]
theorem Ng(a0_0:AV)(a0_1:Int)(a1:AV)(ha1:LK.has .sl a1)(ha0_0:LK.has .sl a0_0)(h:dC 12 (IQ a0_0 a0_1 a1) R):ap Tryz.prog 55 [.ref 0 0,a1] [.cells [a0_0,VI a0_1]] R :=
 ap.nS (bw (cc (ah (bY ha0_0) (ah (aB _) aD))) cx) (ap.up (ah (aB _) (ah (bY ha1) aD)) (oF [] {mu:=[(0,.one (.obj [.lk .sl,.lk (.int .i64)]))],own:=[]} Tryz.f55 h))
def Bk:LI:={hd:={cf:=[(0,.k .str),(3,.k (.int .i64)),(4,.k (.int .i64))]},xs:={cf:=[(3,.k (.int .i64))]},rt:={cf:=[(2,.k (.int .i64))]},ex:=0}
def CV:Code:=da (cS Tryz.f56) 5
def LZ:List (Nat×LI):=[(5,Bk)]
def HZ(a0:ByteArray):Tree :=
 .call 87 [VI (ae a0:Int),VI 2,VI 3] [] fun r1 o1=>NB r1<|.test (!r1.toBool) (.done 0 [VI (-1)] []) (.ak (0<=(0:Int)/\(0:Int)<ae a0)<|.test ((bt a0 0) != (101:Int)) (.done 0 [VI (-1)] []) (.test ((ae a0:Int)==(3:Int)) (.ak (0<=(1:Int)/\(1:Int)<ae a0)<|.test ((bt a0 1)==(48:Int)) (.done 0 [VI (-1)] []) (.loop CV Bk [VS a0,VI 0,VI 1] [] (fun y2 q2=>NI (y2.hA)<|.done 0 [VI ((y2.hA).toInt)] []) (fun y2 q2=>NI (y2.hA)<|.done 0 [VI ((y2.hA).toInt)] []))) (.loop CV Bk [VS a0,VI 0,VI 1] [] (fun y3 q3=>NI (y3.hA)<|.done 0 [VI ((y3.hA).toInt)] []) (fun y3 q3=>NI (y3.hA)<|.done 0 [VI ((y3.hA).toInt)] []))))
theorem PE(a0:ByteArray)(h:dC 49 (HZ a0) R):ap Tryz.prog 56 [VS a0] [] R :=
 uQ (ah (aB _) aD) (oQ LZ Tryz.f56 h)
def En(x0:ByteArray)(x3:Int)(x4:Int):Tree :=
 NS (VS x0)<|NI (VI x3)<|NI (VI x4)<|.test (decide (x4<(ae x0:Int))) (.ak (0<=x4/\x4<ae x0)<|.test (decide ((bt x0 x4)<(48:Int))) (.done 2 [VI (-1)] []) (.ak (0<=x4/\x4<ae x0)<|.test (decide ((bt x0 x4)>(57:Int))) (.done 2 [VI (-1)] []) (.ak (0<=x4/\x4<ae x0)<|.done 0 [VS x0,VI (IntKind.wrap .i64 ((IntKind.wrap .i64 (10*x3))+(IntKind.wrap .i64 (IntKind.wrap .u8 ((bt x0 x4)-48))))),VI (IntKind.wrap .i64 (x4+1))] []))) (.done 1 [VI x3] [])
abbrev Fs:=cI Tryz.prog 49 CV Bk
theorem L5(x0:ByteArray)(x3:Int)(x4:Int)(h:l4 49 (En x0 x3 x4) Fs U):Fs [VS x0,VI x3,VI x4] [] U :=
 gQ LZ h
def GV:LI:={hd:={cf:=[(3,.k .str),(4,.k (.int .i64))],refs:=[(1,1)],co:=[(1,[.lk .str,.lk .sl])]},xs:={cf:=[(3,.k .str)]},rt:={},ex:=0}
def H2:Code:=da (cS Tryz.f57) 5
def LP:List (Nat×LI):=[(5,GV)]
def C6(a0_0:ByteArray)(a0_1:AV):Tree :=
 .test (!(ac a0_0==ac (mk []))) (.done 0 [VS a0_0] []) (.loop H2 GV [VS (mk [40]),VI 0] [.cells [VS a0_0,a0_1]] (fun y3 q3=>NS (y3.hA)<|.ak (ae ((y3.hA).ag)+ae (mk [41])<=9223372036854775807)<|.done 0 [VS ((((y3.hA).ag):ByteArray)++(mk [41]))] []) (fun y3 q3=>.done 0 [.any] []))
theorem FP(a0_0:ByteArray)(a0_1:AV)(ha0_1:LK.has .sl a0_1)(h:dC 31 (C6 a0_0 a0_1) R):ap Tryz.prog 57 [.agg [VS a0_0,a0_1]] [] R :=
 uQ (ah (cr (ah (aB _) (ah (bY ha0_1) aD))) aD) (oQ LP Tryz.f57 h)
def Bi(x3:ByteArray)(x4:Int)(o1_0:ByteArray)(o1_1:AV):Tree :=
 NS (VS x3)<|NI (VI x4)<|.ak (Ob.cells [VS o1_0,o1_1]=.cells [VS o1_0,o1_1])<|.ak (af [.lk .str,.lk .sl] [VS o1_0,o1_1] 0 [])<|NL o1_1<|.test (decide (x4<(o1_1.aR.length:Int))) (.test (decide (x4>(0:Int))) (.ak (ae x3+ae (mk [32])<=9223372036854775807)<|NG o1_1 x4 2<|NE (o1_1.ix x4)<|.call 57 [.agg [VS (((o1_1.ix x4).getD 0 .any).ag),((o1_1.ix x4).getD 1 .any)]] [] fun r1 o1=>NS r1<|.ak (ae ((x3:ByteArray)++(mk [32]))+ae r1.ag<=9223372036854775807)<|.done 0 [VS ((((x3:ByteArray)++(mk [32])):ByteArray)++r1.ag),VI (IntKind.wrap .i64 (x4+1))] [.cells [VS o1_0,o1_1]]) (NG o1_1 x4 2<|NE (o1_1.ix x4)<|.call 57 [.agg [VS (((o1_1.ix x4).getD 0 .any).ag),((o1_1.ix x4).getD 1 .any)]] [] fun r2 o2=>NS r2<|.ak (ae x3+ae r2.ag<=9223372036854775807)<|.done 0 [VS ((x3:ByteArray)++r2.ag),VI (IntKind.wrap .i64 (x4+1))] [.cells [VS o1_0,o1_1]])) (.done 1 [VS x3] [])
abbrev Ar:=cI Tryz.prog 31 H2 GV
theorem CN(x3:ByteArray)(x4:Int)(o1_0:ByteArray)(o1_1:AV)(h:l4 31 (Bi x3 x4 o1_0 o1_1) Ar U):Ar [VS x3,VI x4] [.cells [VS o1_0,o1_1]] U :=
 gQ LP h
def Dw(a0_0:ByteArray)(a0_1:AV)(a1:ByteArray)(a2_0:ByteArray)(a2_1:AV)(a3_0:ByteArray)(a3_1:AV):Tree :=
 .test (!(ac a0_0==ac (mk []))) (.done 0 [.agg [VS a3_0,a3_1]] []) (NG a2_1 1 2<|NE (a2_1.ix (1:Int))<|.call 90 [.agg [VS a0_0,a0_1]] [] fun r1 o1=>NS r1<|.call 90 [.agg [VS a2_0,a2_1]] [] fun r2 o2=>NS r2<|.ak (ae r1.ag+ae r2.ag<=9223372036854775807)<|.test (ac ((r1.ag:ByteArray)++r2.ag)==ac (mk [43,108])) (NG a0_1 1 2<|NE (a0_1.ix (1:Int))<|.call 58 [.agg [VS (((a0_1.ix (1:Int)).getD 0 .any).ag),((a0_1.ix (1:Int)).getD 1 .any)],VS a1,.agg [VS (((a2_1.ix (1:Int)).getD 0 .any).ag),((a2_1.ix (1:Int)).getD 1 .any)],.agg [VS a3_0,a3_1]] [] fun r3 o3=>NA r3<|.call 69 [VS (mk [108]),.sl [[VS ((r3.cs.getD 0 .any).ag),(r3.cs.getD 1 .any)]]] [] fun r4 o4=>NA r4<|.done 0 [.agg [VS ((r4.cs.getD 0 .any).ag),(r4.cs.getD 1 .any)]] []) (.test (ac ((r1.ag:ByteArray)++r2.ag)==ac (mk [43,114])) (NG a0_1 2 2<|NE (a0_1.ix (2:Int))<|.call 58 [.agg [VS (((a0_1.ix (2:Int)).getD 0 .any).ag),((a0_1.ix (2:Int)).getD 1 .any)],VS a1,.agg [VS (((a2_1.ix (1:Int)).getD 0 .any).ag),((a2_1.ix (1:Int)).getD 1 .any)],.agg [VS a3_0,a3_1]] [] fun r5 o5=>NA r5<|.call 69 [VS (mk [114]),.sl [[VS ((r5.cs.getD 0 .any).ag),(r5.cs.getD 1 .any)]]] [] fun r6 o6=>NA r6<|.done 0 [.agg [VS ((r6.cs.getD 0 .any).ag),(r6.cs.getD 1 .any)]] []) (.test (ac ((r1.ag:ByteArray)++r2.ag)==ac (mk [42,108])) (NG a0_1 1 2<|NE (a0_1.ix (1:Int))<|NG ((a2_1.ix (1:Int)).getD 1 .any) 1 2<|NE (((a2_1.ix (1:Int)).getD 1 .any).ix (1:Int))<|.call 58 [.agg [VS (((a0_1.ix (1:Int)).getD 0 .any).ag),((a0_1.ix (1:Int)).getD 1 .any)],VS a1,.agg [VS (((((a2_1.ix (1:Int)).getD 1 .any).ix (1:Int)).getD 0 .any).ag),((((a2_1.ix (1:Int)).getD 1 .any).ix (1:Int)).getD 1 .any)],.agg [VS a3_0,a3_1]] [] fun r7 o7=>NA r7<|NG ((a2_1.ix (1:Int)).getD 1 .any) 2 2<|NE (((a2_1.ix (1:Int)).getD 1 .any).ix (2:Int))<|.call 69 [VS (mk [112]),.sl [[VS ((r7.cs.getD 0 .any).ag),(r7.cs.getD 1 .any)],[VS (((((a2_1.ix (1:Int)).getD 1 .any).ix (2:Int)).getD 0 .any).ag),((((a2_1.ix (1:Int)).getD 1 .any).ix (2:Int)).getD 1 .any)]]] [] fun r8 o8=>NA r8<|.done 0 [.agg [VS ((r8.cs.getD 0 .any).ag),(r8.cs.getD 1 .any)]] []) (.test (ac ((r1.ag:ByteArray)++r2.ag)==ac (mk [42,114])) (NG ((a2_1.ix (1:Int)).getD 1 .any) 1 2<|NE (((a2_1.ix (1:Int)).getD 1 .any).ix (1:Int))<|NG a0_1 2 2<|NE (a0_1.ix (2:Int))<|NG ((a2_1.ix (1:Int)).getD 1 .any) 2 2<|NE (((a2_1.ix (1:Int)).getD 1 .any).ix (2:Int))<|.call 58 [.agg [VS (((a0_1.ix (2:Int)).getD 0 .any).ag),((a0_1.ix (2:Int)).getD 1 .any)],VS a1,.agg [VS (((((a2_1.ix (1:Int)).getD 1 .any).ix (2:Int)).getD 0 .any).ag),((((a2_1.ix (1:Int)).getD 1 .any).ix (2:Int)).getD 1 .any)],.agg [VS a3_0,a3_1]] [] fun r9 o9=>NA r9<|.call 69 [VS (mk [112]),.sl [[VS (((((a2_1.ix (1:Int)).getD 1 .any).ix (1:Int)).getD 0 .any).ag),((((a2_1.ix (1:Int)).getD 1 .any).ix (1:Int)).getD 1 .any)],[VS ((r9.cs.getD 0 .any).ag),(r9.cs.getD 1 .any)]]] [] fun r10 o10=>NA r10<|.done 0 [.agg [VS ((r10.cs.getD 0 .any).ag),(r10.cs.getD 1 .any)]] []) (.call 90 [.agg [VS (((a2_1.ix (1:Int)).getD 0 .any).ag),((a2_1.ix (1:Int)).getD 1 .any)]] [] fun r11 o11=>NS r11<|.test (ac r11.ag==ac (mk [108])) (NG a0_1 2 2<|NE (a0_1.ix (2:Int))<|NG ((a2_1.ix (1:Int)).getD 1 .any) 1 2<|NE (((a2_1.ix (1:Int)).getD 1 .any).ix (1:Int))<|.call 58 [.agg [VS (((a0_1.ix (2:Int)).getD 0 .any).ag),((a0_1.ix (2:Int)).getD 1 .any)],VS a1,.agg [VS (((((a2_1.ix (1:Int)).getD 1 .any).ix (1:Int)).getD 0 .any).ag),((((a2_1.ix (1:Int)).getD 1 .any).ix (1:Int)).getD 1 .any)],.agg [VS a3_0,a3_1]] [] fun r12 o12=>NA r12<|.call 69 [VS (mk [102]),.sl [[VS ((r12.cs.getD 0 .any).ag),(r12.cs.getD 1 .any)]]] [] fun r13 o13=>NA r13<|.done 0 [.agg [VS ((r13.cs.getD 0 .any).ag),(r13.cs.getD 1 .any)]] []) (NG ((a2_1.ix (1:Int)).getD 1 .any) 1 2<|NE (((a2_1.ix (1:Int)).getD 1 .any).ix (1:Int))<|NG ((((a2_1.ix (1:Int)).getD 1 .any).ix (1:Int)).getD 1 .any) 2 2<|NE (((((a2_1.ix (1:Int)).getD 1 .any).ix (1:Int)).getD 1 .any).ix (2:Int))<|.call 58 [.agg [VS a0_0,a0_1],VS a1,.agg [VS (((((((a2_1.ix (1:Int)).getD 1 .any).ix (1:Int)).getD 1 .any).ix (2:Int)).getD 0 .any).ag),((((((a2_1.ix (1:Int)).getD 1 .any).ix (1:Int)).getD 1 .any).ix (2:Int)).getD 1 .any)],.agg [VS a3_0,a3_1]] [] fun r14 o14=>NA r14<|NG a0_1 2 2<|NE (a0_1.ix (2:Int))<|NG a0_1 1 2<|l0 (a0_1.ix (1:Int))<|NG ((((a2_1.ix (1:Int)).getD 1 .any).ix (1:Int)).getD 1 .any) 1 2<|NE (((((a2_1.ix (1:Int)).getD 1 .any).ix (1:Int)).getD 1 .any).ix (1:Int))<|.call 58 [.agg [VS (((a0_1.ix (2:Int)).getD 0 .any).ag),((a0_1.ix (2:Int)).getD 1 .any)],VS (((a0_1.ix (1:Int)).hA).ag),.agg [VS (((((((a2_1.ix (1:Int)).getD 1 .any).ix (1:Int)).getD 1 .any).ix (1:Int)).getD 0 .any).ag),((((((a2_1.ix (1:Int)).getD 1 .any).ix (1:Int)).getD 1 .any).ix (1:Int)).getD 1 .any)],.agg [VS ((r14.cs.getD 0 .any).ag),(r14.cs.getD 1 .any)]] [] fun r15 o15=>NA r15<|.call 69 [VS (mk [102]),.sl [[VS ((r15.cs.getD 0 .any).ag),(r15.cs.getD 1 .any)]]] [] fun r16 o16=>NA r16<|.done 0 [.agg [VS ((r16.cs.getD 0 .any).ag),(r16.cs.getD 1 .any)]] []))))))
theorem OK(a0_0:ByteArray)(a0_1:AV)(a1:ByteArray)(a2_0:ByteArray)(a2_1:AV)(a3_0:ByteArray)(a3_1:AV)(ha0_1:LK.has .sl a0_1)(ha2_1:LK.has .sl a2_1)(ha3_1:LK.has .sl a3_1)(h:dC 132 (Dw a0_0 a0_1 a1 a2_0 a2_1 a3_0 a3_1) R):ap Tryz.prog 58 [.agg [VS a0_0,a0_1],VS a1,.agg [VS a2_0,a2_1],.agg [VS a3_0,a3_1]] [] R :=
 uQ (ah (cr (ah (aB _) (ah (bY ha0_1) aD))) (ah (aB _) (ah (cr (ah (aB _) (ah (bY ha2_1) aD))) (ah (cr (ah (aB _) (ah (bY ha3_1) aD))) aD)))) (oQ [] Tryz.f58 h)
def HA(a0:ByteArray):Tree :=
 .call 111 [VS a0,VS (mk [120,121,122])] [] fun r1 o1=>NB r1<|.done 0 [VB r1.toBool] []
theorem Py(a0:ByteArray)(h:dC 5 (HA a0) R):ap Tryz.prog 59 [VS a0] [] R :=
 uQ (ah (aB _) aD) (oQ [] Tryz.f59 h)
def FM:LI:={hd:={cf:=[(7,.k .sl),(8,.k (.int .i64)),(9,.k (.int .i64))],eQ:=[(3,2)]},xs:={eQ:=[(3,2)]},rt:={},ex:=0}
def HB:Code:=da (cS Tryz.f60) 3
def KV:List (Nat×LI):=[(3,FM)]
def Me(a0:AV):Tree :=
 NL a0<|.loop HB FM [a0,VI (a0.aR.length:Int),VI 0] [.vec 2 []] (fun y3 q3=>.ak (((q3.drop 0).hO)=.vec 2 ((q3.drop 0).hO).es)<|.done 0 [.sl ((q3.hO).es)] []) (fun y3 q3=>.done 0 [.any] [])
theorem MG(a0:AV)(ha0:LK.has .sl a0)(h:dC 25 (Me a0) R):ap Tryz.prog 60 [a0] [] R :=
 uQ (ah (bY ha0) aD) (oQ KV Tryz.f60 h)
def E8(x7:AV)(x8:Int)(x9:Int)(e3:List (List AV)):Tree :=
 NL x7<|NI (VI x8)<|NI (VI x9)<|.ak (Ob.vec 2 e3=.vec 2 e3)<|.test (decide (x9<x8)) (NG x7 x9 2<|.ak (bz [.ptr,.ptr] (x7.ix x9) 0/\2<=(x7.ix x9).length)<|.call 93 [((x7.ix x9).getD 0 .any)] [] fun r1 o1=>NS r1<|.call 93 [((x7.ix x9).getD 1 .any)] [] fun r2 o2=>NS r2<|.ak (cE 2 [[VS r1.ag,VS r2.ag]]/\((e3.length)+([[VS r1.ag,VS r2.ag]]:List (List AV)).length)*32<=140737488355328)<|.done 0 [x7,VI x8,VI (IntKind.wrap .i64 (x9+1))] [.vec 2 (e3++([[VS r1.ag,VS r2.ag]]:List (List AV)))]) (.done 1 [] [.vec 2 e3])
abbrev FO:=cI Tryz.prog 25 HB FM
theorem H5(x7:AV)(x8:Int)(x9:Int)(e3:List (List AV))(h:l4 25 (E8 x7 x8 x9 e3) FO U):FO [x7,VI x8,VI x9] [.vec 2 e3] U :=
 gQ KV h
def G9:LI:={hd:={cf:=[(97,.k .sl),(98,.k (.int .i64)),(99,.k (.int .i64))],refs:=[(3,3),(5,5),(7,7)],co:=[(3,[.lk .ptr,.lk .ptr]),(5,[.lk .str,.lk .ptr]),(7,[.vec 2])],BR:=[(8,113,[7])]},xs:={refs:=[(7,7)],co:=[(7,[.vec 2])]},rt:={},ex:=1}
def J9:Code:=da (cS Tryz.f61) 18
def Lx:List (Nat×LI):=[(18,G9)]
def HS(a0_0:AV)(a0_1:AV)(a1:AV)(a2_0:ByteArray)(a2_1:AV):Tree :=
 .call 112 [.agg [VS a2_0,a2_1],.agg [a0_0,a0_1]] [] fun r1 o1=>NB r1<|.test r1.toBool (.done 0 [.sl [[.ptr [.v (.int .u8 117),VS (mk []),.v (.pointer none),.v (.pointer none)],a1]]] []) (NZ a0_0<|NZ a0_0<|.ak (LK.has (.int .u8) (a0_0.deref.hA)/\1<=a0_0.deref.length)<|.test (((a0_0.deref.hA).toInt)==(43:Int)) (.call 105 [.agg [a0_0,a0_1]] [] fun r2 o2=>.ak (r2=.agg r2.cs/\r2.cs.length=2/\bz [.ptr,.ptr] r2.cs 0)<|NZ a1<|NZ a1<|.ak (LK.has (.int .u8) (a1.deref.hA)/\1<=a1.deref.length)<|.test (((a1.deref.hA).toInt)==(114:Int)) (.call 106 [.agg [a0_0,a0_1]] [] fun r3 o3=>.ak (r3=.agg r3.cs/\r3.cs.length=2/\bz [.ptr,.ptr] r3.cs 0)<|NZ a1<|NZ a1<|ez (a1.deref.drop 2)<|.call 61 [.agg [(r3.cs.getD 0 .any),(r3.cs.getD 1 .any)],((a1.deref.drop 2).hA),.agg [VS a2_0,a2_1]] [] fun r4 o4=>NL r4<|.call 113 [r4,.fn 114 [.ref 0 0],.ref 1 0] [.cells [a1],.cells [.vec 2],.vec 2 []] fun r5 o5=>.ak ((o5.hO)=.cells (o5.hO).cs)<|.ak (aM [.lk .ptr] ((o5.hO).cs) 0 1 o5.tail)<|.ak ((o5.tail.hO)=.cells (o5.tail.hO).cs)<|.ak (aM [.vec 2] ((o5.tail.hO).cs) 0 2 o5.tail.tail)<|.done 0 [.sl ((o5.tail.tail.hO).es)] []) (NZ a1<|NZ a1<|ez (a1.deref.drop 2)<|.call 61 [.agg [(r2.cs.getD 0 .any),(r2.cs.getD 1 .any)],((a1.deref.drop 2).hA),.agg [VS a2_0,a2_1]] [] fun r6 o6=>NL r6<|.call 113 [r6,.fn 114 [.ref 0 0],.ref 1 0] [.cells [a1],.cells [.vec 2],.vec 2 []] fun r7 o7=>.ak ((o7.hO)=.cells (o7.hO).cs)<|.ak (aM [.lk .ptr] ((o7.hO).cs) 0 1 o7.tail)<|.ak ((o7.tail.hO)=.cells (o7.tail.hO).cs)<|.ak (aM [.vec 2] ((o7.tail.hO).cs) 0 2 o7.tail.tail)<|.done 0 [.sl ((o7.tail.tail.hO).es)] [])) (.test (((a0_0.deref.hA).toInt)==(42:Int)) (.call 105 [.agg [a0_0,a0_1]] [] fun r8 o8=>.ak (r8=.agg r8.cs/\r8.cs.length=2/\bz [.ptr,.ptr] r8.cs 0)<|NZ a1<|NZ a1<|ez (a1.deref.drop 2)<|.call 61 [.agg [(r8.cs.getD 0 .any),(r8.cs.getD 1 .any)],((a1.deref.drop 2).hA),.agg [VS a2_0,a2_1]] [] fun r9 o9=>NL r9<|.call 113 [r9,.fn 115 [.ref 0 0],.ref 1 0] [.cells [a1],.cells [.vec 2],.vec 2 []] fun r10 o10=>.ak ((o10.hO)=.cells (o10.hO).cs)<|.ak (aM [.lk .ptr] ((o10.hO).cs) 0 1 o10.tail)<|.ak ((o10.tail.hO)=.cells (o10.tail.hO).cs)<|.ak (aM [.vec 2] ((o10.tail.hO).cs) 0 2 o10.tail.tail)<|.call 106 [.agg [a0_0,a0_1]] [] fun r11 o11=>.ak (r11=.agg r11.cs/\r11.cs.length=2/\bz [.ptr,.ptr] r11.cs 0)<|NZ ((o10.hO).cs.getD 0 .any)<|NZ ((o10.hO).cs.getD 0 .any)<|ez (((o10.hO).cs.getD 0 .any).deref.drop 3)<|.call 61 [.agg [(r11.cs.getD 0 .any),(r11.cs.getD 1 .any)],((((o10.hO).cs.getD 0 .any).deref.drop 3).hA),.agg [VS a2_0,a2_1]] [] fun r12 o12=>NL r12<|.call 113 [r12,.fn 116 [.ref 0 0],.ref 1 0] [.cells [((o10.hO).cs.getD 0 .any)],.cells [.vec 2],.vec 2 ((o10.tail.tail.hO).es)] fun r13 o13=>.ak ((o13.hO)=.cells (o13.hO).cs)<|.ak (aM [.lk .ptr] ((o13.hO).cs) 0 1 o13.tail)<|.ak ((o13.tail.hO)=.cells (o13.tail.hO).cs)<|.ak (aM [.vec 2] ((o13.tail.hO).cs) 0 2 o13.tail.tail)<|.done 0 [.sl ((o13.tail.tail.hO).es)] []) (.test (((a0_0.deref.hA).toInt)==(114:Int)) (.call 107 [.agg [a0_0,a0_1]] [] fun r14 o14=>NT r14<|.ak ((r14.comp 0)=.agg (r14.comp 0).cs/\(r14.comp 0).cs.length=2/\bz [.ptr,.ptr] ((r14.comp 0).cs) 0)<|NP (r14.comp 1)<|NZ a1<|NZ a1<|ez (a1.deref.drop 2)<|.call 61 [.agg [((r14.comp 0).cs.getD 0 .any),((r14.comp 0).cs.getD 1 .any)],((a1.deref.drop 2).hA),.agg [VS a2_0,a2_1]] [] fun r15 o15=>NL r15<|.call 113 [r15,.v (.func (.func 117) #[] #[]),.ref 0 0] [.cells [.vec 1],.vec 2 []] fun r16 o16=>.ak ((o16.hO)=.cells (o16.hO).cs)<|.ak (aM [.vec 2] ((o16.hO).cs) 0 1 o16.tail)<|NZ a1<|NZ a1<|ez (a1.deref.drop 2)<|.call 61 [.agg [((r14.comp 0).cs.getD 0 .any),((r14.comp 0).cs.getD 1 .any)],((a1.deref.drop 2).hA),.agg [VS (mk []),(r14.comp 1)]] [] fun r17 o17=>NL r17<|NL r17<|.loop J9 G9 [r17,VI (r17.aR.length:Int),VI 0] [.cells [a0_0,a0_1],.cells [VS a2_0,a2_1],.cells [.any],.vec 2 ((o16.tail.hO).es)] (fun y20 q20=>.ak ((q20.hO)=.cells (q20.hO).cs)<|.ak (af [.vec 2] ((q20.hO).cs) 0 q20.tail)<|.done 0 [.sl ((q20.tail.hO).es)] []) (fun y20 q20=>.done 0 [.any] [])) (.done 0 [.sl []] []))))
theorem OE(a0_0:AV)(a0_1:AV)(a1:AV)(a2_0:ByteArray)(a2_1:AV)(ha0_0:LK.has .ptr a0_0)(ha0_1:LK.has .ptr a0_1)(ha1:LK.has .ptr a1)(ha2_1:LK.has .ptr a2_1)(h:dC 113 (HS a0_0 a0_1 a1 a2_0 a2_1) R):ap Tryz.prog 61 [.agg [a0_0,a0_1],a1,.agg [VS a2_0,a2_1]] [] R :=
 uQ (ah (cr (ah (bA ha0_0) (ah (bA ha0_1) aD))) (ah (bA ha1) (ah (cr (ah (aB _) (ah (bA ha2_1) aD))) aD))) (oQ Lx Tryz.f61 h)
def ED(x97:AV)(x98:Int)(x99:Int)(o3_0:AV)(o3_1:AV)(o5_0:ByteArray)(o5_1:AV)(o7_0:List (List AV)):Tree :=
 NL x97<|NI (VI x98)<|NI (VI x99)<|.ak (Ob.cells [o3_0,o3_1]=.cells [o3_0,o3_1])<|.ak (af [.lk .ptr,.lk .ptr] [o3_0,o3_1] 0 [.cells [VS o5_0,o5_1],.cells [.any],.vec 2 o7_0])<|.ak (Ob.cells [VS o5_0,o5_1]=.cells [VS o5_0,o5_1])<|.ak (af [.lk .str,.lk .ptr] [VS o5_0,o5_1] 0 [.cells [.any],.vec 2 o7_0])<|.ak (Ob.cells [.any]=.cells [.any])<|.ak (af [.vec 2] [.any] 0 [.vec 2 o7_0])<|.test (decide (x99<x98)) (NG x97 x99 2<|.ak (bz [.ptr,.ptr] (x97.ix x99) 0/\2<=(x97.ix x99).length)<|.call 61 [.agg [o3_0,o3_1],((x97.ix x99).getD 1 .any),.agg [VS o5_0,o5_1]] [] fun r1 o1=>NL r1<|.call 113 [r1,.fn 118 [.ref 0 0],.ref 1 0] [.cells [((x97.ix x99).getD 0 .any),((x97.ix x99).getD 1 .any)],.cells [.vec 2],.vec 2 o7_0] fun r2 o2=>.ak ((o2.hO)=.cells (o2.hO).cs)<|.ak (aM [.lk .ptr,.lk .ptr] ((o2.hO).cs) 0 1 o2.tail)<|.ak ((o2.tail.hO)=.cells (o2.tail.hO).cs)<|.ak (aM [.vec 2] ((o2.tail.hO).cs) 0 2 o2.tail.tail)<|.done 0 [x97,VI x98,VI (IntKind.wrap .i64 (x99+1))] [.cells [o3_0,o3_1],.cells [VS o5_0,o5_1],.cells [.any],.vec 2 ((o2.tail.tail.hO).es)]) (.done 1 [] [.cells [.any],.vec 2 o7_0])
abbrev GA:=cI Tryz.prog 113 J9 G9
theorem Jf(x97:AV)(x98:Int)(x99:Int)(o3_0:AV)(o3_1:AV)(o5_0:ByteArray)(o5_1:AV)(o7_0:List (List AV))(h:l4 113 (ED x97 x98 x99 o3_0 o3_1 o5_0 o5_1 o7_0) GA U):GA [x97,VI x98,VI x99] [.cells [o3_0,o3_1],.cells [VS o5_0,o5_1],.cells [.any],.vec 2 o7_0] U :=
 gQ Lx h
def Mq(a0_0:AV)(a0_1:Int):Tree :=
 .call 119 [.ref 0 0] [.cells [a0_0,VI a0_1]] fun r1 o1=>.ak ((o1.hO)=.cells (o1.hO).cs)<|.ak (aM [.lk .sl,.lk (.int .i64)] ((o1.hO).cs) 0 1 o1.tail)<|NS r1<|.call 32 [.ref 0 0,VI 12] [.cells [((o1.hO).cs.getD 0 .any),VI (((o1.hO).cs.getD 1 .any).toInt)]] fun r2 o2=>.ak ((o2.hO)=.cells (o2.hO).cs)<|.ak (aM [.lk .sl,.lk (.int .i64)] ((o2.hO).cs) 0 1 o2.tail)<|NI r2<|.test (r2.toInt==(0:Int)) (.call 51 [.ref 0 0] [.cells [((o2.hO).cs.getD 0 .any),VI (((o2.hO).cs.getD 1 .any).toInt)]] fun r3 o3=>.ak ((o3.hO)=.cells (o3.hO).cs)<|.ak (aM [.lk .sl,.lk (.int .i64)] ((o3.hO).cs) 0 1 o3.tail)<|NT r3<|NS (r3.comp 0)<|NS (r3.comp 1)<|.done 0 [.cA [VS ((r3.comp 0).ag),VS ((r3.comp 1).ag)]] [.cells [((o3.hO).cs.getD 0 .any),VI (((o3.hO).cs.getD 1 .any).toInt)]]) (.call 33 [.ref 0 0,VS r1.ag] [.cells [((o2.hO).cs.getD 0 .any),VI (((o2.hO).cs.getD 1 .any).toInt)]] fun r4 o4=>.ak ((o4.hO)=.cells (o4.hO).cs)<|.ak (aM [.lk .sl,.lk (.int .i64)] ((o4.hO).cs) 0 1 o4.tail)<|NS r4<|.done 0 [.cA [VS r1.ag,VS r4.ag]] [.cells [((o4.hO).cs.getD 0 .any),VI (((o4.hO).cs.getD 1 .any).toInt)]])
theorem M8(a0_0:AV)(a0_1:Int)(ha0_0:LK.has .sl a0_0)(h:dC 18 (Mq a0_0 a0_1) R):ap Tryz.prog 62 [.ref 0 0] [.cells [a0_0,VI a0_1]] R :=
 ap.nS (bw (cc (ah (bY ha0_0) (ah (aB _) aD))) cx) (ap.up (ah (aB _) aD) (oF [] {mu:=[(0,.one (.obj [.lk .sl,.lk (.int .i64)]))],own:=[]} Tryz.f62 h))
def Ey(a0:ByteArray)(a1:ByteArray):Tree :=
 .call 67 [VS a0] [] fun r1 o1=>NT r1<|.ak ((r1.comp 0)=.agg (r1.comp 0).cs/\(r1.comp 0).cs.length=2/\bz [.str,.sl] ((r1.comp 0).cs) 0)<|NB (r1.comp 1)<|.call 37 [VS a1] [] fun r2 o2=>NT r2<|.ak ((r2.comp 0)=.agg (r2.comp 0).cs/\(r2.comp 0).cs.length=2/\bz [.str,.sl] ((r2.comp 0).cs) 0)<|NB (r2.comp 1)<|.test (!((r1.comp 1).toBool)) (.done 0 [.cA [.sl [],VB false]] []) (.call 39 [VS a0,VS a1,VI 100] [] fun r3 o3=>NB r3<|.test (!r3.toBool) (.done 0 [.cA [.sl [],VB false]] []) (NG ((r1.comp 0).cs.getD 1 .any) 2 2<|NE (((r1.comp 0).cs.getD 1 .any).ix (2:Int))<|NG ((r1.comp 0).cs.getD 1 .any) 1 2<|l0 (((r1.comp 0).cs.getD 1 .any).ix (1:Int))<|NG ((r2.comp 0).cs.getD 1 .any) 1 2<|NE (((r2.comp 0).cs.getD 1 .any).ix (1:Int))<|.call 110 [.agg [VS (((((r1.comp 0).cs.getD 1 .any).ix (2:Int)).getD 0 .any).ag),((((r1.comp 0).cs.getD 1 .any).ix (2:Int)).getD 1 .any)],VS (((((r1.comp 0).cs.getD 1 .any).ix (1:Int)).hA).ag),.agg [VS (((((r2.comp 0).cs.getD 1 .any).ix (1:Int)).getD 0 .any).ag),((((r2.comp 0).cs.getD 1 .any).ix (1:Int)).getD 1 .any)]] [] fun r4 o4=>NL r4<|.call 109 [r4] [] fun r5 o5=>NL r5<|.done 0 [.cA [r5,VB true]] []))
theorem Ki(a0:ByteArray)(a1:ByteArray)(h:dC 44 (Ey a0 a1) R):ap Tryz.prog 63 [VS a0,VS a1] [] R :=
 uQ (ah (aB _) (ah (aB _) aD)) (oQ [] Tryz.f63 h)
def HQ(a0:ByteArray)(a1:ByteArray):Tree :=
 .call 120 [VS a0] [] fun r1 o1=>NP r1<|NP r1<|.test r1.isNil (.done 0 [.cA [.v (.pointer none),.v (.pointer none)]] []) (.call 34 [VS a0,VS a1,VI 100] [] fun r2 o2=>NT r2<|NP (r2.comp 0)<|NP (r2.comp 1)<|.done 0 [.cA [(r2.comp 0),(r2.comp 1)]] [])
theorem Ow(a0:ByteArray)(a1:ByteArray)(h:dC 14 (HQ a0 a1) R):ap Tryz.prog 64 [VS a0,VS a1] [] R :=
 uQ (ah (aB _) (ah (aB _) aD)) (oQ [] Tryz.f64 h)
def H0(a0:ByteArray):Tree :=
 .call 121 [VS a0] [] fun r1 o1=>NP r1<|NP r1<|.test r1.isNil (.done 0 [.cA [VS (mk []),VB false]] []) (NZ r1<|NZ r1<|.ak (LK.has (.int .u8) (r1.deref.hA)/\1<=r1.deref.length)<|.test (((r1.deref.hA).toInt) != (114:Int)) (.done 0 [.cA [VS (mk []),VB false]] []) (.call 122 [r1] [] fun r2 o2=>NT r2<|NP (r2.comp 0)<|NB (r2.comp 1)<|.test (!((r2.comp 1).toBool)) (.done 0 [.cA [VS (mk []),VB false]] []) (.call 123 [(r2.comp 0)] [] fun r3 o3=>NT r3<|NS (r3.comp 0)<|NB (r3.comp 1)<|.done 0 [.cA [VS ((r3.comp 0).ag),VB ((r3.comp 1).toBool)]] [])))
theorem OF(a0:ByteArray)(h:dC 29 (H0 a0) R):ap Tryz.prog 65 [VS a0] [] R :=
 uQ (ah (aB _) aD) (oQ [] Tryz.f65 h)
def HL(a0:AV)(a1:AV)(a2:AV):Tree :=
 .call 107 [.agg [a0,.v (.pointer none)]] [] fun r1 o1=>NT r1<|.ak ((r1.comp 0)=.agg (r1.comp 0).cs/\(r1.comp 0).cs.length=2/\bz [.ptr,.ptr] ((r1.comp 0).cs) 0)<|NP (r1.comp 1)<|.call 49 [.agg [((r1.comp 0).cs.getD 0 .any),((r1.comp 0).cs.getD 1 .any)],a1,.agg [VS (mk []),(r1.comp 1)],a2] [] fun r2 o2=>NP r2<|.call 95 [.v (.int .u8 102),r2] [] fun r3 o3=>NP r3<|.done 0 [r3] []
theorem N9(a0:AV)(a1:AV)(a2:AV)(ha0:LK.has .ptr a0)(ha1:LK.has .ptr a1)(ha2:LK.has .ptr a2)(h:dC 22 (HL a0 a1 a2) R):ap Tryz.prog 66 [a0,a1,a2] [] R :=
 uQ (ah (bA ha0) (ah (bA ha1) (ah (bA ha2) aD))) (oQ [] Tryz.f66 h)
def Hw(a0:ByteArray):Tree :=
 .call 46 [VS a0] [] fun r1 o1=>NT r1<|.ak ((r1.comp 0)=.agg (r1.comp 0).cs/\(r1.comp 0).cs.length=2/\bz [.str,.sl] ((r1.comp 0).cs) 0)<|NB (r1.comp 1)<|.test ((r1.comp 1).toBool) (.call 90 [.agg [VS (((r1.comp 0).cs.getD 0 .any).ag),((r1.comp 0).cs.getD 1 .any)]] [] fun r2 o2=>NS r2<|.done 0 [.cA [.agg [VS (((r1.comp 0).cs.getD 0 .any).ag),((r1.comp 0).cs.getD 1 .any)],VB (ac r2.ag==ac (mk [114,101,99]))]] []) (.done 0 [.cA [.agg [VS (((r1.comp 0).cs.getD 0 .any).ag),((r1.comp 0).cs.getD 1 .any)],VB false]] [])
theorem MW(a0:ByteArray)(h:dC 18 (Hw a0) R):ap Tryz.prog 67 [VS a0] [] R :=
 uQ (ah (aB _) aD) (oQ [] Tryz.f67 h)
def Il(a0:ByteArray):Tree :=
 .call 82 [VS a0] [] fun r1 o1=>NT r1<|.ak ((r1.comp 0)=.agg (r1.comp 0).cs/\(r1.comp 0).cs.length=2/\bz [.str,.sl] ((r1.comp 0).cs) 0)<|NB (r1.comp 1)<|.test (!((r1.comp 1).toBool)) (.done 0 [.cA [VS (mk []),VB false]] []) (.call 90 [.agg [VS (((r1.comp 0).cs.getD 0 .any).ag),((r1.comp 0).cs.getD 1 .any)]] [] fun r2 o2=>NS r2<|.test (!(ac r2.ag==ac (mk [114,101,99]))) (.done 0 [.cA [VS (mk []),VB false]] []) (.call 124 [.agg [VS (((r1.comp 0).cs.getD 0 .any).ag),((r1.comp 0).cs.getD 1 .any)]] [] fun r3 o3=>NT r3<|.ak ((r3.comp 0)=.agg (r3.comp 0).cs/\(r3.comp 0).cs.length=2/\bz [.str,.sl] ((r3.comp 0).cs) 0)<|NB (r3.comp 1)<|.test (!((r3.comp 1).toBool)) (.done 0 [.cA [VS (mk []),VB false]] []) (.call 102 [.agg [VS (((r3.comp 0).cs.getD 0 .any).ag),((r3.comp 0).cs.getD 1 .any)]] [] fun r4 o4=>NT r4<|NS (r4.comp 0)<|NB (r4.comp 1)<|.done 0 [.cA [VS ((r4.comp 0).ag),VB ((r4.comp 1).toBool)]] [])))
theorem PS(a0:ByteArray)(h:dC 31 (Il a0) R):ap Tryz.prog 68 [VS a0] [] R :=
 uQ (ah (aB _) aD) (oQ [] Tryz.f68 h)
def Fg(a0:ByteArray)(a1:AV):Tree :=
 .ak (LK.has .sl a1/\cE 2 a1.aR/\((([[VS a0,.v (.slice none 0 0)]]:List (List AV)).length)+a1.aR.length)*40<=140737488355328)<|.done 0 [.agg [VS (mk []),.sl (([[VS a0,.v (.slice none 0 0)]]:List (List AV))++a1.aR)]] []
theorem KC(a0:ByteArray)(a1:AV)(ha1:LK.has .sl a1)(h:dC 11 (Fg a0 a1) R):ap Tryz.prog 69 [VS a0,a1] [] R :=
 uQ (ah (aB _) (ah (bY ha1) aD)) (oQ [] Tryz.f69 h)
def Iu(a0:AV)(a1:AV):Tree :=
 .call 107 [.agg [a0,.v (.pointer none)]] [] fun r1 o1=>NT r1<|.ak ((r1.comp 0)=.agg (r1.comp 0).cs/\(r1.comp 0).cs.length=2/\bz [.ptr,.ptr] ((r1.comp 0).cs) 0)<|NP (r1.comp 1)<|NZ a1<|NZ a1<|ez (a1.deref.drop 2)<|.call 61 [.agg [((r1.comp 0).cs.getD 0 .any),((r1.comp 0).cs.getD 1 .any)],((a1.deref.drop 2).hA),.agg [VS (mk []),(r1.comp 1)]] [] fun r2 o2=>NL r2<|.done 0 [r2] []
theorem NK(a0:AV)(a1:AV)(ha0:LK.has .ptr a0)(ha1:LK.has .ptr a1)(h:dC 21 (Iu a0 a1) R):ap Tryz.prog 70 [a0,a1] [] R :=
 uQ (ah (bA ha0) (ah (bA ha1) aD)) (oQ [] Tryz.f70 h)
def La(a0_0:AV)(a0_1:Int):Tree :=
 .call 32 [.ref 0 0,VI 12] [.cells [a0_0,VI a0_1]] fun r1 o1=>.ak ((o1.hO)=.cells (o1.hO).cs)<|.ak (aM [.lk .sl,.lk (.int .i64)] ((o1.hO).cs) 0 1 o1.tail)<|NI r1<|.test (r1.toInt==(0:Int)) (.call 55 [.ref 0 0,.sl [[VS (mk [])],[VS (mk [97])],[VS (mk [40,43,32,49,41])],[VS (mk [40,114,101,99,32,120,32,49,41])],[VS (mk [40,114,101,99,32,116,41])],[VS (mk [40,43,32,32,49,32,49,41])],[VS (mk [40,42,32,49,32,49,32,49,41])],[VS (mk [116,49,48,48])],[VS (mk [120,32,49])]]] [.cells [((o1.hO).cs.getD 0 .any),VI (((o1.hO).cs.getD 1 .any).toInt)]] fun r2 o2=>.ak ((o2.hO)=.cells (o2.hO).cs)<|.ak (aM [.lk .sl,.lk (.int .i64)] ((o2.hO).cs) 0 1 o2.tail)<|NS r2<|.done 0 [VS r2.ag] [.cells [((o2.hO).cs.getD 0 .any),VI (((o2.hO).cs.getD 1 .any).toInt)]]) (.test (r1.toInt==(1:Int)) (.call 119 [.ref 0 0] [.cells [((o1.hO).cs.getD 0 .any),VI (((o1.hO).cs.getD 1 .any).toInt)]] fun r3 o3=>.ak ((o3.hO)=.cells (o3.hO).cs)<|.ak (aM [.lk .sl,.lk (.int .i64)] ((o3.hO).cs) 0 1 o3.tail)<|NS r3<|.done 0 [VS r3.ag] [.cells [((o3.hO).cs.getD 0 .any),VI (((o3.hO).cs.getD 1 .any).toInt)]]) (.test (r1.toInt==(2:Int)) (.call 119 [.ref 0 0] [.cells [((o1.hO).cs.getD 0 .any),VI (((o1.hO).cs.getD 1 .any).toInt)]] fun r4 o4=>.ak ((o4.hO)=.cells (o4.hO).cs)<|.ak (aM [.lk .sl,.lk (.int .i64)] ((o4.hO).cs) 0 1 o4.tail)<|NS r4<|.done 0 [VS r4.ag] [.cells [((o4.hO).cs.getD 0 .any),VI (((o4.hO).cs.getD 1 .any).toInt)]]) (.test (r1.toInt==(3:Int)) (.call 119 [.ref 0 0] [.cells [((o1.hO).cs.getD 0 .any),VI (((o1.hO).cs.getD 1 .any).toInt)]] fun r5 o5=>.ak ((o5.hO)=.cells (o5.hO).cs)<|.ak (aM [.lk .sl,.lk (.int .i64)] ((o5.hO).cs) 0 1 o5.tail)<|NS r5<|.done 0 [VS r5.ag] [.cells [((o5.hO).cs.getD 0 .any),VI (((o5.hO).cs.getD 1 .any).toInt)]]) (.test (r1.toInt==(4:Int)) (.call 127 [.ref 0 0,.sl [[VS (mk [116])],[VS (mk [116,49])]],VI 2] [.cells [((o1.hO).cs.getD 0 .any),VI (((o1.hO).cs.getD 1 .any).toInt)]] fun r6 o6=>.ak ((o6.hO)=.cells (o6.hO).cs)<|.ak (aM [.lk .sl,.lk (.int .i64)] ((o6.hO).cs) 0 1 o6.tail)<|NS r6<|.done 0 [VS r6.ag] [.cells [((o6.hO).cs.getD 0 .any),VI (((o6.hO).cs.getD 1 .any).toInt)]]) (.call 127 [.ref 0 0,.sl [],VI 3] [.cells [((o1.hO).cs.getD 0 .any),VI (((o1.hO).cs.getD 1 .any).toInt)]] fun r7 o7=>.ak ((o7.hO)=.cells (o7.hO).cs)<|.ak (aM [.lk .sl,.lk (.int .i64)] ((o7.hO).cs) 0 1 o7.tail)<|NS r7<|.done 0 [VS r7.ag] [.cells [((o7.hO).cs.getD 0 .any),VI (((o7.hO).cs.getD 1 .any).toInt)]])))))
theorem Oz(a0_0:AV)(a0_1:Int)(ha0_0:LK.has .sl a0_0)(h:dC 24 (La a0_0 a0_1) R):ap Tryz.prog 76 [.ref 0 0] [.cells [a0_0,VI a0_1]] R :=
 ap.nS (bw (cc (ah (bY ha0_0) (ah (aB _) aD))) cx) (ap.up (ah (aB _) aD) (oF [] {mu:=[(0,.one (.obj [.lk .sl,.lk (.int .i64)]))],own:=[]} Tryz.f76 h))
def zX(a0_0:AV)(a0_1:Int)(a1_0:ByteArray)(a1_1:AV)(a2:Int):Tree :=
 .call 90 [.agg [VS a1_0,a1_1]] [] fun r1 o1=>NS r1<|.test (ac r1.ag==ac (mk [43])) (.call 32 [.ref 0 0,VI 2] [.cells [a0_0,VI a0_1]] fun r2 o2=>.ak ((o2.hO)=.cells (o2.hO).cs)<|.ak (aM [.lk .sl,.lk (.int .i64)] ((o2.hO).cs) 0 1 o2.tail)<|NI r2<|NG a1_1 1 2<|NE (a1_1.ix (1:Int))<|.call 128 [.agg [VS (((a1_1.ix (1:Int)).getD 0 .any).ag),((a1_1.ix (1:Int)).getD 1 .any)],.sl []] [] fun r3 o3=>NB r3<|.test r3.toBool (.test ((1:Int)==(0:Int)) (NG a1_1 1 2<|NE (a1_1.ix (1:Int))<|.call 77 [.ref 0 0,.agg [VS (((a1_1.ix (1:Int)).getD 0 .any).ag),((a1_1.ix (1:Int)).getD 1 .any)],VI (IntKind.wrap .i64 (a2-1))] [.cells [((o2.hO).cs.getD 0 .any),VI (((o2.hO).cs.getD 1 .any).toInt)]] fun r4 o4=>.ak ((o4.hO)=.cells (o4.hO).cs)<|.ak (aM [.lk .sl,.lk (.int .i64)] ((o4.hO).cs) 0 1 o4.tail)<|NA r4<|.call 69 [VS (mk [108]),.sl [[VS ((r4.cs.getD 0 .any).ag),(r4.cs.getD 1 .any)]]] [] fun r5 o5=>NA r5<|.done 0 [.agg [VS ((r5.cs.getD 0 .any).ag),(r5.cs.getD 1 .any)]] [.cells [((o4.hO).cs.getD 0 .any),VI (((o4.hO).cs.getD 1 .any).toInt)]]) (NG a1_1 2 2<|NE (a1_1.ix (2:Int))<|.call 77 [.ref 0 0,.agg [VS (((a1_1.ix (2:Int)).getD 0 .any).ag),((a1_1.ix (2:Int)).getD 1 .any)],VI (IntKind.wrap .i64 (a2-1))] [.cells [((o2.hO).cs.getD 0 .any),VI (((o2.hO).cs.getD 1 .any).toInt)]] fun r6 o6=>.ak ((o6.hO)=.cells (o6.hO).cs)<|.ak (aM [.lk .sl,.lk (.int .i64)] ((o6.hO).cs) 0 1 o6.tail)<|NA r6<|.call 69 [VS (mk [114]),.sl [[VS ((r6.cs.getD 0 .any).ag),(r6.cs.getD 1 .any)]]] [] fun r7 o7=>NA r7<|.done 0 [.agg [VS ((r7.cs.getD 0 .any).ag),(r7.cs.getD 1 .any)]] [.cells [((o6.hO).cs.getD 0 .any),VI (((o6.hO).cs.getD 1 .any).toInt)]])) (.test (decide (a2<=(0:Int))) (NG a1_1 1 2<|NE (a1_1.ix (1:Int))<|.call 129 [.agg [VS (((a1_1.ix (1:Int)).getD 0 .any).ag),((a1_1.ix (1:Int)).getD 1 .any)]] [] fun r8 o8=>NI r8<|NG a1_1 2 2<|NE (a1_1.ix (2:Int))<|.call 129 [.agg [VS (((a1_1.ix (2:Int)).getD 0 .any).ag),((a1_1.ix (2:Int)).getD 1 .any)]] [] fun r9 o9=>NI r9<|.test (decide (r8.toInt>r9.toInt)) (NG a1_1 2 2<|NE (a1_1.ix (2:Int))<|.call 128 [.agg [VS (((a1_1.ix (2:Int)).getD 0 .any).ag),((a1_1.ix (2:Int)).getD 1 .any)],.sl []] [] fun r10 o10=>NB r10<|.test (!r10.toBool) (.test ((1:Int)==(0:Int)) (NG a1_1 1 2<|NE (a1_1.ix (1:Int))<|.call 77 [.ref 0 0,.agg [VS (((a1_1.ix (1:Int)).getD 0 .any).ag),((a1_1.ix (1:Int)).getD 1 .any)],VI (IntKind.wrap .i64 (a2-1))] [.cells [((o2.hO).cs.getD 0 .any),VI (((o2.hO).cs.getD 1 .any).toInt)]] fun r11 o11=>.ak ((o11.hO)=.cells (o11.hO).cs)<|.ak (aM [.lk .sl,.lk (.int .i64)] ((o11.hO).cs) 0 1 o11.tail)<|NA r11<|.call 69 [VS (mk [108]),.sl [[VS ((r11.cs.getD 0 .any).ag),(r11.cs.getD 1 .any)]]] [] fun r12 o12=>NA r12<|.done 0 [.agg [VS ((r12.cs.getD 0 .any).ag),(r12.cs.getD 1 .any)]] [.cells [((o11.hO).cs.getD 0 .any),VI (((o11.hO).cs.getD 1 .any).toInt)]]) (NG a1_1 2 2<|NE (a1_1.ix (2:Int))<|.call 77 [.ref 0 0,.agg [VS (((a1_1.ix (2:Int)).getD 0 .any).ag),((a1_1.ix (2:Int)).getD 1 .any)],VI (IntKind.wrap .i64 (a2-1))] [.cells [((o2.hO).cs.getD 0 .any),VI (((o2.hO).cs.getD 1 .any).toInt)]] fun r13 o13=>.ak ((o13.hO)=.cells (o13.hO).cs)<|.ak (aM [.lk .sl,.lk (.int .i64)] ((o13.hO).cs) 0 1 o13.tail)<|NA r13<|.call 69 [VS (mk [114]),.sl [[VS ((r13.cs.getD 0 .any).ag),(r13.cs.getD 1 .any)]]] [] fun r14 o14=>NA r14<|.done 0 [.agg [VS ((r14.cs.getD 0 .any).ag),(r14.cs.getD 1 .any)]] [.cells [((o13.hO).cs.getD 0 .any),VI (((o13.hO).cs.getD 1 .any).toInt)]])) (NG a1_1 2 2<|NE (a1_1.ix (2:Int))<|.call 128 [.agg [VS (((a1_1.ix (2:Int)).getD 0 .any).ag),((a1_1.ix (2:Int)).getD 1 .any)],.sl []] [] fun r15 o15=>NB r15<|.test r15.toBool (.test ((0:Int)==(0:Int)) (NG a1_1 1 2<|NE (a1_1.ix (1:Int))<|.call 77 [.ref 0 0,.agg [VS (((a1_1.ix (1:Int)).getD 0 .any).ag),((a1_1.ix (1:Int)).getD 1 .any)],VI (IntKind.wrap .i64 (a2-1))] [.cells [((o2.hO).cs.getD 0 .any),VI (((o2.hO).cs.getD 1 .any).toInt)]] fun r16 o16=>.ak ((o16.hO)=.cells (o16.hO).cs)<|.ak (aM [.lk .sl,.lk (.int .i64)] ((o16.hO).cs) 0 1 o16.tail)<|NA r16<|.call 69 [VS (mk [108]),.sl [[VS ((r16.cs.getD 0 .any).ag),(r16.cs.getD 1 .any)]]] [] fun r17 o17=>NA r17<|.done 0 [.agg [VS ((r17.cs.getD 0 .any).ag),(r17.cs.getD 1 .any)]] [.cells [((o16.hO).cs.getD 0 .any),VI (((o16.hO).cs.getD 1 .any).toInt)]]) (NG a1_1 2 2<|NE (a1_1.ix (2:Int))<|.call 77 [.ref 0 0,.agg [VS (((a1_1.ix (2:Int)).getD 0 .any).ag),((a1_1.ix (2:Int)).getD 1 .any)],VI (IntKind.wrap .i64 (a2-1))] [.cells [((o2.hO).cs.getD 0 .any),VI (((o2.hO).cs.getD 1 .any).toInt)]] fun r18 o18=>.ak ((o18.hO)=.cells (o18.hO).cs)<|.ak (aM [.lk .sl,.lk (.int .i64)] ((o18.hO).cs) 0 1 o18.tail)<|NA r18<|.call 69 [VS (mk [114]),.sl [[VS ((r18.cs.getD 0 .any).ag),(r18.cs.getD 1 .any)]]] [] fun r19 o19=>NA r19<|.done 0 [.agg [VS ((r19.cs.getD 0 .any).ag),(r19.cs.getD 1 .any)]] [.cells [((o18.hO).cs.getD 0 .any),VI (((o18.hO).cs.getD 1 .any).toInt)]])) (.test (decide (a2<=(0:Int))) (.test ((0:Int)==(0:Int)) (NG a1_1 1 2<|NE (a1_1.ix (1:Int))<|.call 77 [.ref 0 0,.agg [VS (((a1_1.ix (1:Int)).getD 0 .any).ag),((a1_1.ix (1:Int)).getD 1 .any)],VI (IntKind.wrap .i64 (a2-1))] [.cells [((o2.hO).cs.getD 0 .any),VI (((o2.hO).cs.getD 1 .any).toInt)]] fun r20 o20=>.ak ((o20.hO)=.cells (o20.hO).cs)<|.ak (aM [.lk .sl,.lk (.int .i64)] ((o20.hO).cs) 0 1 o20.tail)<|NA r20<|.call 69 [VS (mk [108]),.sl [[VS ((r20.cs.getD 0 .any).ag),(r20.cs.getD 1 .any)]]] [] fun r21 o21=>NA r21<|.done 0 [.agg [VS ((r21.cs.getD 0 .any).ag),(r21.cs.getD 1 .any)]] [.cells [((o20.hO).cs.getD 0 .any),VI (((o20.hO).cs.getD 1 .any).toInt)]]) (NG a1_1 2 2<|NE (a1_1.ix (2:Int))<|.call 77 [.ref 0 0,.agg [VS (((a1_1.ix (2:Int)).getD 0 .any).ag),((a1_1.ix (2:Int)).getD 1 .any)],VI (IntKind.wrap .i64 (a2-1))] [.cells [((o2.hO).cs.getD 0 .any),VI (((o2.hO).cs.getD 1 .any).toInt)]] fun r22 o22=>.ak ((o22.hO)=.cells (o22.hO).cs)<|.ak (aM [.lk .sl,.lk (.int .i64)] ((o22.hO).cs) 0 1 o22.tail)<|NA r22<|.call 69 [VS (mk [114]),.sl [[VS ((r22.cs.getD 0 .any).ag),(r22.cs.getD 1 .any)]]] [] fun r23 o23=>NA r23<|.done 0 [.agg [VS ((r23.cs.getD 0 .any).ag),(r23.cs.getD 1 .any)]] [.cells [((o22.hO).cs.getD 0 .any),VI (((o22.hO).cs.getD 1 .any).toInt)]])) (.test (r2.toInt==(0:Int)) (NG a1_1 1 2<|NE (a1_1.ix (1:Int))<|.call 77 [.ref 0 0,.agg [VS (((a1_1.ix (1:Int)).getD 0 .any).ag),((a1_1.ix (1:Int)).getD 1 .any)],VI (IntKind.wrap .i64 (a2-1))] [.cells [((o2.hO).cs.getD 0 .any),VI (((o2.hO).cs.getD 1 .any).toInt)]] fun r24 o24=>.ak ((o24.hO)=.cells (o24.hO).cs)<|.ak (aM [.lk .sl,.lk (.int .i64)] ((o24.hO).cs) 0 1 o24.tail)<|NA r24<|.call 69 [VS (mk [108]),.sl [[VS ((r24.cs.getD 0 .any).ag),(r24.cs.getD 1 .any)]]] [] fun r25 o25=>NA r25<|.done 0 [.agg [VS ((r25.cs.getD 0 .any).ag),(r25.cs.getD 1 .any)]] [.cells [((o24.hO).cs.getD 0 .any),VI (((o24.hO).cs.getD 1 .any).toInt)]]) (NG a1_1 2 2<|NE (a1_1.ix (2:Int))<|.call 77 [.ref 0 0,.agg [VS (((a1_1.ix (2:Int)).getD 0 .any).ag),((a1_1.ix (2:Int)).getD 1 .any)],VI (IntKind.wrap .i64 (a2-1))] [.cells [((o2.hO).cs.getD 0 .any),VI (((o2.hO).cs.getD 1 .any).toInt)]] fun r26 o26=>.ak ((o26.hO)=.cells (o26.hO).cs)<|.ak (aM [.lk .sl,.lk (.int .i64)] ((o26.hO).cs) 0 1 o26.tail)<|NA r26<|.call 69 [VS (mk [114]),.sl [[VS ((r26.cs.getD 0 .any).ag),(r26.cs.getD 1 .any)]]] [] fun r27 o27=>NA r27<|.done 0 [.agg [VS ((r27.cs.getD 0 .any).ag),(r27.cs.getD 1 .any)]] [.cells [((o26.hO).cs.getD 0 .any),VI (((o26.hO).cs.getD 1 .any).toInt)]]))))) (NG a1_1 2 2<|NE (a1_1.ix (2:Int))<|.call 128 [.agg [VS (((a1_1.ix (2:Int)).getD 0 .any).ag),((a1_1.ix (2:Int)).getD 1 .any)],.sl []] [] fun r28 o28=>NB r28<|.test r28.toBool (.test ((0:Int)==(0:Int)) (NG a1_1 1 2<|NE (a1_1.ix (1:Int))<|.call 77 [.ref 0 0,.agg [VS (((a1_1.ix (1:Int)).getD 0 .any).ag),((a1_1.ix (1:Int)).getD 1 .any)],VI (IntKind.wrap .i64 (a2-1))] [.cells [((o2.hO).cs.getD 0 .any),VI (((o2.hO).cs.getD 1 .any).toInt)]] fun r29 o29=>.ak ((o29.hO)=.cells (o29.hO).cs)<|.ak (aM [.lk .sl,.lk (.int .i64)] ((o29.hO).cs) 0 1 o29.tail)<|NA r29<|.call 69 [VS (mk [108]),.sl [[VS ((r29.cs.getD 0 .any).ag),(r29.cs.getD 1 .any)]]] [] fun r30 o30=>NA r30<|.done 0 [.agg [VS ((r30.cs.getD 0 .any).ag),(r30.cs.getD 1 .any)]] [.cells [((o29.hO).cs.getD 0 .any),VI (((o29.hO).cs.getD 1 .any).toInt)]]) (NG a1_1 2 2<|NE (a1_1.ix (2:Int))<|.call 77 [.ref 0 0,.agg [VS (((a1_1.ix (2:Int)).getD 0 .any).ag),((a1_1.ix (2:Int)).getD 1 .any)],VI (IntKind.wrap .i64 (a2-1))] [.cells [((o2.hO).cs.getD 0 .any),VI (((o2.hO).cs.getD 1 .any).toInt)]] fun r31 o31=>.ak ((o31.hO)=.cells (o31.hO).cs)<|.ak (aM [.lk .sl,.lk (.int .i64)] ((o31.hO).cs) 0 1 o31.tail)<|NA r31<|.call 69 [VS (mk [114]),.sl [[VS ((r31.cs.getD 0 .any).ag),(r31.cs.getD 1 .any)]]] [] fun r32 o32=>NA r32<|.done 0 [.agg [VS ((r32.cs.getD 0 .any).ag),(r32.cs.getD 1 .any)]] [.cells [((o31.hO).cs.getD 0 .any),VI (((o31.hO).cs.getD 1 .any).toInt)]])) (.test (decide (a2<=(0:Int))) (.test ((0:Int)==(0:Int)) (NG a1_1 1 2<|NE (a1_1.ix (1:Int))<|.call 77 [.ref 0 0,.agg [VS (((a1_1.ix (1:Int)).getD 0 .any).ag),((a1_1.ix (1:Int)).getD 1 .any)],VI (IntKind.wrap .i64 (a2-1))] [.cells [((o2.hO).cs.getD 0 .any),VI (((o2.hO).cs.getD 1 .any).toInt)]] fun r33 o33=>.ak ((o33.hO)=.cells (o33.hO).cs)<|.ak (aM [.lk .sl,.lk (.int .i64)] ((o33.hO).cs) 0 1 o33.tail)<|NA r33<|.call 69 [VS (mk [108]),.sl [[VS ((r33.cs.getD 0 .any).ag),(r33.cs.getD 1 .any)]]] [] fun r34 o34=>NA r34<|.done 0 [.agg [VS ((r34.cs.getD 0 .any).ag),(r34.cs.getD 1 .any)]] [.cells [((o33.hO).cs.getD 0 .any),VI (((o33.hO).cs.getD 1 .any).toInt)]]) (NG a1_1 2 2<|NE (a1_1.ix (2:Int))<|.call 77 [.ref 0 0,.agg [VS (((a1_1.ix (2:Int)).getD 0 .any).ag),((a1_1.ix (2:Int)).getD 1 .any)],VI (IntKind.wrap .i64 (a2-1))] [.cells [((o2.hO).cs.getD 0 .any),VI (((o2.hO).cs.getD 1 .any).toInt)]] fun r35 o35=>.ak ((o35.hO)=.cells (o35.hO).cs)<|.ak (aM [.lk .sl,.lk (.int .i64)] ((o35.hO).cs) 0 1 o35.tail)<|NA r35<|.call 69 [VS (mk [114]),.sl [[VS ((r35.cs.getD 0 .any).ag),(r35.cs.getD 1 .any)]]] [] fun r36 o36=>NA r36<|.done 0 [.agg [VS ((r36.cs.getD 0 .any).ag),(r36.cs.getD 1 .any)]] [.cells [((o35.hO).cs.getD 0 .any),VI (((o35.hO).cs.getD 1 .any).toInt)]])) (.test (r2.toInt==(0:Int)) (NG a1_1 1 2<|NE (a1_1.ix (1:Int))<|.call 77 [.ref 0 0,.agg [VS (((a1_1.ix (1:Int)).getD 0 .any).ag),((a1_1.ix (1:Int)).getD 1 .any)],VI (IntKind.wrap .i64 (a2-1))] [.cells [((o2.hO).cs.getD 0 .any),VI (((o2.hO).cs.getD 1 .any).toInt)]] fun r37 o37=>.ak ((o37.hO)=.cells (o37.hO).cs)<|.ak (aM [.lk .sl,.lk (.int .i64)] ((o37.hO).cs) 0 1 o37.tail)<|NA r37<|.call 69 [VS (mk [108]),.sl [[VS ((r37.cs.getD 0 .any).ag),(r37.cs.getD 1 .any)]]] [] fun r38 o38=>NA r38<|.done 0 [.agg [VS ((r38.cs.getD 0 .any).ag),(r38.cs.getD 1 .any)]] [.cells [((o37.hO).cs.getD 0 .any),VI (((o37.hO).cs.getD 1 .any).toInt)]]) (NG a1_1 2 2<|NE (a1_1.ix (2:Int))<|.call 77 [.ref 0 0,.agg [VS (((a1_1.ix (2:Int)).getD 0 .any).ag),((a1_1.ix (2:Int)).getD 1 .any)],VI (IntKind.wrap .i64 (a2-1))] [.cells [((o2.hO).cs.getD 0 .any),VI (((o2.hO).cs.getD 1 .any).toInt)]] fun r39 o39=>.ak ((o39.hO)=.cells (o39.hO).cs)<|.ak (aM [.lk .sl,.lk (.int .i64)] ((o39.hO).cs) 0 1 o39.tail)<|NA r39<|.call 69 [VS (mk [114]),.sl [[VS ((r39.cs.getD 0 .any).ag),(r39.cs.getD 1 .any)]]] [] fun r40 o40=>NA r40<|.done 0 [.agg [VS ((r40.cs.getD 0 .any).ag),(r40.cs.getD 1 .any)]] [.cells [((o39.hO).cs.getD 0 .any),VI (((o39.hO).cs.getD 1 .any).toInt)]]))))) (NG a1_1 2 2<|NE (a1_1.ix (2:Int))<|.call 128 [.agg [VS (((a1_1.ix (2:Int)).getD 0 .any).ag),((a1_1.ix (2:Int)).getD 1 .any)],.sl []] [] fun r41 o41=>NB r41<|.test r41.toBool (.test ((0:Int)==(0:Int)) (NG a1_1 1 2<|NE (a1_1.ix (1:Int))<|.call 77 [.ref 0 0,.agg [VS (((a1_1.ix (1:Int)).getD 0 .any).ag),((a1_1.ix (1:Int)).getD 1 .any)],VI (IntKind.wrap .i64 (a2-1))] [.cells [((o2.hO).cs.getD 0 .any),VI (((o2.hO).cs.getD 1 .any).toInt)]] fun r42 o42=>.ak ((o42.hO)=.cells (o42.hO).cs)<|.ak (aM [.lk .sl,.lk (.int .i64)] ((o42.hO).cs) 0 1 o42.tail)<|NA r42<|.call 69 [VS (mk [108]),.sl [[VS ((r42.cs.getD 0 .any).ag),(r42.cs.getD 1 .any)]]] [] fun r43 o43=>NA r43<|.done 0 [.agg [VS ((r43.cs.getD 0 .any).ag),(r43.cs.getD 1 .any)]] [.cells [((o42.hO).cs.getD 0 .any),VI (((o42.hO).cs.getD 1 .any).toInt)]]) (NG a1_1 2 2<|NE (a1_1.ix (2:Int))<|.call 77 [.ref 0 0,.agg [VS (((a1_1.ix (2:Int)).getD 0 .any).ag),((a1_1.ix (2:Int)).getD 1 .any)],VI (IntKind.wrap .i64 (a2-1))] [.cells [((o2.hO).cs.getD 0 .any),VI (((o2.hO).cs.getD 1 .any).toInt)]] fun r44 o44=>.ak ((o44.hO)=.cells (o44.hO).cs)<|.ak (aM [.lk .sl,.lk (.int .i64)] ((o44.hO).cs) 0 1 o44.tail)<|NA r44<|.call 69 [VS (mk [114]),.sl [[VS ((r44.cs.getD 0 .any).ag),(r44.cs.getD 1 .any)]]] [] fun r45 o45=>NA r45<|.done 0 [.agg [VS ((r45.cs.getD 0 .any).ag),(r45.cs.getD 1 .any)]] [.cells [((o44.hO).cs.getD 0 .any),VI (((o44.hO).cs.getD 1 .any).toInt)]])) (.test (decide (a2<=(0:Int))) (.test ((0:Int)==(0:Int)) (NG a1_1 1 2<|NE (a1_1.ix (1:Int))<|.call 77 [.ref 0 0,.agg [VS (((a1_1.ix (1:Int)).getD 0 .any).ag),((a1_1.ix (1:Int)).getD 1 .any)],VI (IntKind.wrap .i64 (a2-1))] [.cells [((o2.hO).cs.getD 0 .any),VI (((o2.hO).cs.getD 1 .any).toInt)]] fun r46 o46=>.ak ((o46.hO)=.cells (o46.hO).cs)<|.ak (aM [.lk .sl,.lk (.int .i64)] ((o46.hO).cs) 0 1 o46.tail)<|NA r46<|.call 69 [VS (mk [108]),.sl [[VS ((r46.cs.getD 0 .any).ag),(r46.cs.getD 1 .any)]]] [] fun r47 o47=>NA r47<|.done 0 [.agg [VS ((r47.cs.getD 0 .any).ag),(r47.cs.getD 1 .any)]] [.cells [((o46.hO).cs.getD 0 .any),VI (((o46.hO).cs.getD 1 .any).toInt)]]) (NG a1_1 2 2<|NE (a1_1.ix (2:Int))<|.call 77 [.ref 0 0,.agg [VS (((a1_1.ix (2:Int)).getD 0 .any).ag),((a1_1.ix (2:Int)).getD 1 .any)],VI (IntKind.wrap .i64 (a2-1))] [.cells [((o2.hO).cs.getD 0 .any),VI (((o2.hO).cs.getD 1 .any).toInt)]] fun r48 o48=>.ak ((o48.hO)=.cells (o48.hO).cs)<|.ak (aM [.lk .sl,.lk (.int .i64)] ((o48.hO).cs) 0 1 o48.tail)<|NA r48<|.call 69 [VS (mk [114]),.sl [[VS ((r48.cs.getD 0 .any).ag),(r48.cs.getD 1 .any)]]] [] fun r49 o49=>NA r49<|.done 0 [.agg [VS ((r49.cs.getD 0 .any).ag),(r49.cs.getD 1 .any)]] [.cells [((o48.hO).cs.getD 0 .any),VI (((o48.hO).cs.getD 1 .any).toInt)]])) (.test (r2.toInt==(0:Int)) (NG a1_1 1 2<|NE (a1_1.ix (1:Int))<|.call 77 [.ref 0 0,.agg [VS (((a1_1.ix (1:Int)).getD 0 .any).ag),((a1_1.ix (1:Int)).getD 1 .any)],VI (IntKind.wrap .i64 (a2-1))] [.cells [((o2.hO).cs.getD 0 .any),VI (((o2.hO).cs.getD 1 .any).toInt)]] fun r50 o50=>.ak ((o50.hO)=.cells (o50.hO).cs)<|.ak (aM [.lk .sl,.lk (.int .i64)] ((o50.hO).cs) 0 1 o50.tail)<|NA r50<|.call 69 [VS (mk [108]),.sl [[VS ((r50.cs.getD 0 .any).ag),(r50.cs.getD 1 .any)]]] [] fun r51 o51=>NA r51<|.done 0 [.agg [VS ((r51.cs.getD 0 .any).ag),(r51.cs.getD 1 .any)]] [.cells [((o50.hO).cs.getD 0 .any),VI (((o50.hO).cs.getD 1 .any).toInt)]]) (NG a1_1 2 2<|NE (a1_1.ix (2:Int))<|.call 77 [.ref 0 0,.agg [VS (((a1_1.ix (2:Int)).getD 0 .any).ag),((a1_1.ix (2:Int)).getD 1 .any)],VI (IntKind.wrap .i64 (a2-1))] [.cells [((o2.hO).cs.getD 0 .any),VI (((o2.hO).cs.getD 1 .any).toInt)]] fun r52 o52=>.ak ((o52.hO)=.cells (o52.hO).cs)<|.ak (aM [.lk .sl,.lk (.int .i64)] ((o52.hO).cs) 0 1 o52.tail)<|NA r52<|.call 69 [VS (mk [114]),.sl [[VS ((r52.cs.getD 0 .any).ag),(r52.cs.getD 1 .any)]]] [] fun r53 o53=>NA r53<|.done 0 [.agg [VS ((r53.cs.getD 0 .any).ag),(r53.cs.getD 1 .any)]] [.cells [((o52.hO).cs.getD 0 .any),VI (((o52.hO).cs.getD 1 .any).toInt)]])))))) (.test (ac r1.ag==ac (mk [42])) (NG a1_1 1 2<|NE (a1_1.ix (1:Int))<|.call 77 [.ref 0 0,.agg [VS (((a1_1.ix (1:Int)).getD 0 .any).ag),((a1_1.ix (1:Int)).getD 1 .any)],VI (IntKind.wrap .i64 (a2-1))] [.cells [a0_0,VI a0_1]] fun r54 o54=>.ak ((o54.hO)=.cells (o54.hO).cs)<|.ak (aM [.lk .sl,.lk (.int .i64)] ((o54.hO).cs) 0 1 o54.tail)<|NA r54<|NG a1_1 2 2<|NE (a1_1.ix (2:Int))<|.call 77 [.ref 0 0,.agg [VS (((a1_1.ix (2:Int)).getD 0 .any).ag),((a1_1.ix (2:Int)).getD 1 .any)],VI (IntKind.wrap .i64 (a2-1))] [.cells [((o54.hO).cs.getD 0 .any),VI (((o54.hO).cs.getD 1 .any).toInt)]] fun r55 o55=>.ak ((o55.hO)=.cells (o55.hO).cs)<|.ak (aM [.lk .sl,.lk (.int .i64)] ((o55.hO).cs) 0 1 o55.tail)<|NA r55<|.call 69 [VS (mk [112]),.sl [[VS ((r54.cs.getD 0 .any).ag),(r54.cs.getD 1 .any)],[VS ((r55.cs.getD 0 .any).ag),(r55.cs.getD 1 .any)]]] [] fun r56 o56=>NA r56<|.done 0 [.agg [VS ((r56.cs.getD 0 .any).ag),(r56.cs.getD 1 .any)]] [.cells [((o55.hO).cs.getD 0 .any),VI (((o55.hO).cs.getD 1 .any).toInt)]]) (.test (ac r1.ag==ac (mk [114,101,99])) (.call 130 [.agg [VS a1_0,a1_1]] [] fun r57 o57=>NT r57<|.ak ((r57.comp 0)=.agg (r57.comp 0).cs/\(r57.comp 0).cs.length=2/\bz [.str,.sl] ((r57.comp 0).cs) 0)<|NB (r57.comp 1)<|.test (!((r57.comp 1).toBool)) (.done 0 [.agg [VS (mk [117]),.v (.slice none 0 0)]] [.cells [a0_0,VI a0_1]]) (.test (decide (a2<((-12):Int))) (.done 0 [.agg [VS (mk [117]),.v (.slice none 0 0)]] [.cells [a0_0,VI a0_1]]) (.call 77 [.ref 0 0,.agg [VS (((r57.comp 0).cs.getD 0 .any).ag),((r57.comp 0).cs.getD 1 .any)],VI (IntKind.wrap .i64 (a2-1))] [.cells [a0_0,VI a0_1]] fun r58 o58=>.ak ((o58.hO)=.cells (o58.hO).cs)<|.ak (aM [.lk .sl,.lk (.int .i64)] ((o58.hO).cs) 0 1 o58.tail)<|NA r58<|.call 69 [VS (mk [102]),.sl [[VS ((r58.cs.getD 0 .any).ag),(r58.cs.getD 1 .any)]]] [] fun r59 o59=>NA r59<|.done 0 [.agg [VS ((r59.cs.getD 0 .any).ag),(r59.cs.getD 1 .any)]] [.cells [((o58.hO).cs.getD 0 .any),VI (((o58.hO).cs.getD 1 .any).toInt)]]))) (.test (ac a1_0==ac (mk [49])) (.done 0 [.agg [VS (mk [117]),.v (.slice none 0 0)]] [.cells [a0_0,VI a0_1]]) (.call 32 [.ref 0 0,VI 3] [.cells [a0_0,VI a0_1]] fun r60 o60=>.ak ((o60.hO)=.cells (o60.hO).cs)<|.ak (aM [.lk .sl,.lk (.int .i64)] ((o60.hO).cs) 0 1 o60.tail)<|NI r60<|.call 54 [VI r60.toInt] [] fun r61 o61=>NS r61<|.ak (ae (mk [101])+ae r61.ag<=9223372036854775807)<|.done 0 [.agg [VS (((mk [101]):ByteArray)++r61.ag),.v (.slice none 0 0)]] [.cells [((o60.hO).cs.getD 0 .any),VI (((o60.hO).cs.getD 1 .any).toInt)]]))))
theorem DA(a0_0:AV)(a0_1:Int)(a1_0:ByteArray)(a1_1:AV)(a2:Int)(ha1_1:LK.has .sl a1_1)(ha0_0:LK.has .sl a0_0)(h:dC 132 (zX a0_0 a0_1 a1_0 a1_1 a2) R):ap Tryz.prog 77 [.ref 0 0,.agg [VS a1_0,a1_1],VI a2] [.cells [a0_0,VI a0_1]] R :=
 ap.nS (bw (cc (ah (bY ha0_0) (ah (aB _) aD))) cx) (ap.up (ah (aB _) (ah (cr (ah (aB _) (ah (bY ha1_1) aD))) (ah (aB _) aD))) (oF [] {mu:=[(0,.one (.obj [.lk .sl,.lk (.int .i64)]))],own:=[]} Tryz.f77 h))
def FD:LI:={hd:={cf:=[(1,.k .sl),(6,.k (.int .i64))],refs:=[(2,2),(4,4)],co:=[(2,[.lk .str,.lk .sl]),(4,[.lk .str,.lk .sl])],eQ:=[(5,1)]},xs:={refs:=[(2,2),(4,4)],co:=[(2,[.lk .str,.lk .sl]),(4,[.lk .str,.lk .sl])],eQ:=[(5,1)]},rt:={},ex:=0}
def Kq:Code:=da (cS Tryz.f78) 3
def Mo:List (Nat×LI):=[(3,FD)]
def L7(a0_0:ByteArray)(a0_1:AV)(a1:AV):Tree :=
 .call 98 [.agg [VS a0_0,a0_1],.sl [],.vec 0] [.vec 1 []] fun r1 o1=>.ak (r1=.vec 1/\(o1.tail.hO)=.vec 1 (o1.tail.hO).es)<|.loop Kq FD [a1,VI 0] [.cells [VS a0_0,a0_1],.cells [VS (mk []),.v (.slice none 0 0)],.vec 1 ((o1.tail.hO).es)] (fun y3 q3=>.ak ((q3.hO)=.cells (q3.hO).cs)<|.ak (af [.lk .str,.lk .sl] ((q3.hO).cs) 0 q3.tail)<|.ak (((q3.tail.drop 0).hO)=.cells ((q3.tail.drop 0).hO).cs)<|.ak (af [.lk .str,.lk .sl] (((q3.tail.drop 0).hO).cs) 0 ((q3.tail.drop 0).tail))<|.ak (((q3.drop 2).hO)=.vec 1 ((q3.drop 2).hO).es)<|.call 131 [.agg [VS (((q3.hO).cs.getD 0 .any).ag),((q3.hO).cs.getD 1 .any)],.sl [],.sl [],.ref 0 0] [.cells [.vec 1,VI 0],.vec 1 ((q3.tail.tail.hO).es)] fun r4 o4=>.ak ((o4.hO)=.cells (o4.hO).cs)<|.ak (aM [.vec 1,.lk (.int .i64)] ((o4.hO).cs) 0 1 o4.tail)<|NA r4<|.done 0 [.agg [VS ((r4.cs.getD 0 .any).ag),(r4.cs.getD 1 .any)]] []) (fun y3 q3=>.fail)
theorem PR(a0_0:ByteArray)(a0_1:AV)(a1:AV)(ha0_1:LK.has .sl a0_1)(ha1:LK.has .sl a1)(h:dC 33 (L7 a0_0 a0_1 a1) R):ap Tryz.prog 78 [.agg [VS a0_0,a0_1],a1] [] R :=
 uQ (ah (cr (ah (aB _) (ah (bY ha0_1) aD))) (ah (bY ha1) aD)) (oQ Mo Tryz.f78 h)
def E9(x1:AV)(x6:Int)(o2_0:ByteArray)(o2_1:AV)(o4_0:ByteArray)(o4_1:AV)(e5:List (List AV)):Tree :=
 NL x1<|NI (VI x6)<|.ak (Ob.cells [VS o2_0,o2_1]=.cells [VS o2_0,o2_1])<|.ak (af [.lk .str,.lk .sl] [VS o2_0,o2_1] 0 [.cells [VS o4_0,o4_1],.vec 1 e5])<|.ak (Ob.cells [VS o4_0,o4_1]=.cells [VS o4_0,o4_1])<|.ak (af [.lk .str,.lk .sl] [VS o4_0,o4_1] 0 [.vec 1 e5])<|.ak (Ob.vec 1 e5=.vec 1 e5)<|NL x1<|.test (decide (x6<(x1.aR.length:Int))) (NG x1 x6 2<|NE (x1.ix x6)<|.call 98 [.agg [VS (((x1.ix x6).getD 0 .any).ag),((x1.ix x6).getD 1 .any)],.sl [],.vec 0] [.vec 1 []] fun r1 o1=>.ak (r1=.vec 1/\(o1.tail.hO)=.vec 1 (o1.tail.hO).es)<|.ak (cE 1 ((o1.tail.hO).es)/\((e5.length)+((o1.tail.hO).es).length)*16<=140737488355328)<|.done 0 [x1,VI (IntKind.wrap .i64 (x6+1))] [.cells [VS o2_0,o2_1],.cells [VS o4_0,o4_1],.vec 1 (e5++((o1.tail.hO).es))]) (.done 1 [] [.cells [VS o2_0,o2_1],.cells [VS o4_0,o4_1],.vec 1 e5])
abbrev GF:=cI Tryz.prog 33 Kq FD
theorem HT(x1:AV)(x6:Int)(o2_0:ByteArray)(o2_1:AV)(o4_0:ByteArray)(o4_1:AV)(e5:List (List AV))(h:l4 33 (E9 x1 x6 o2_0 o2_1 o4_0 o4_1 e5) GF U):GF [x1,VI x6] [.cells [VS o2_0,o2_1],.cells [VS o4_0,o4_1],.vec 1 e5] U :=
 gQ Mo h
def Ko(a0:ByteArray):Tree :=
 .call 121 [VS a0] [] fun r1 o1=>NP r1<|NP r1<|.test r1.isNil (.done 0 [.v (.pointer none)] []) (.call 132 [r1] [] fun r2 o2=>NB r2<|.test (!r2.toBool) (.done 0 [.v (.pointer none)] []) (.done 0 [r1] []))
theorem Nt(a0:ByteArray)(h:dC 14 (Ko a0) R):ap Tryz.prog 79 [VS a0] [] R :=
 uQ (ah (aB _) aD) (oQ [] Tryz.f79 h)
def zH(a0_0:AV)(a0_1:AV)(a1:AV)(a2:Int):Tree :=
 NZ a0_0<|NZ a0_0<|.ak (LK.has (.int .u8) (a0_0.deref.hA)/\1<=a0_0.deref.length)<|.test (((a0_0.deref.hA).toInt)==(49:Int)) (NZ a1<|NZ a1<|.ak (LK.has (.int .u8) (a1.deref.hA)/\1<=a1.deref.length)<|.done 0 [VB (((a1.deref.hA).toInt)==(117:Int))] []) (.test (((a0_0.deref.hA).toInt)==(110:Int)) (NZ a1<|NZ a1<|.ak (LK.has (.int .u8) (a1.deref.hA)/\1<=a1.deref.length)<|.test (((a1.deref.hA).toInt) != (101:Int)) (.done 0 [VB false] []) (NZ a1<|NZ a1<|l0 (a1.deref.drop 1)<|.ak (0<=(1:Int)/\(1:Int)<=(ae (((a1.deref.drop 1).hA).ag):Int)/\(ae (((a1.deref.drop 1).hA).ag):Int)<=(ae (((a1.deref.drop 1).hA).ag):Int))<|.call 81 [VS (ca (((a1.deref.drop 1).hA).ag) (bW 1) (bW (ae (((a1.deref.drop 1).hA).ag):Int)))] [] fun r1 o1=>NT r1<|NI (r1.comp 0)<|.ak (LK.has .kq (r1.comp 1))<|.done 0 [VB (decide (((r1.comp 0).toInt)<a2))] [])) (.test (((a0_0.deref.hA).toInt)==(98:Int)) (.call 133 [.agg [a0_0,a0_1]] [] fun r2 o2=>NP r2<|NZ r2<|NZ r2<|.ak (bz [.ptr,.ptr] r2.deref 0/\2<=r2.deref.length)<|.call 80 [.agg [(r2.deref.getD 0 .any),(r2.deref.getD 1 .any)],a1,VI a2] [] fun r3 o3=>NB r3<|.done 0 [VB r3.toBool] []) (.test (((a0_0.deref.hA).toInt)==(43:Int)) (NZ a1<|NZ a1<|.ak (LK.has (.int .u8) (a1.deref.hA)/\1<=a1.deref.length)<|.test (((a1.deref.hA).toInt)==(108:Int)) (.call 105 [.agg [a0_0,a0_1]] [] fun r4 o4=>.ak (r4=.agg r4.cs/\r4.cs.length=2/\bz [.ptr,.ptr] r4.cs 0)<|NZ a1<|NZ a1<|ez (a1.deref.drop 2)<|.call 80 [.agg [(r4.cs.getD 0 .any),(r4.cs.getD 1 .any)],((a1.deref.drop 2).hA),VI a2] [] fun r5 o5=>NB r5<|.test r5.toBool (.done 0 [VB true] []) (NZ a1<|NZ a1<|.ak (LK.has (.int .u8) (a1.deref.hA)/\1<=a1.deref.length)<|.test (((a1.deref.hA).toInt)==(114:Int)) (.call 106 [.agg [a0_0,a0_1]] [] fun r6 o6=>.ak (r6=.agg r6.cs/\r6.cs.length=2/\bz [.ptr,.ptr] r6.cs 0)<|NZ a1<|NZ a1<|ez (a1.deref.drop 2)<|.call 80 [.agg [(r6.cs.getD 0 .any),(r6.cs.getD 1 .any)],((a1.deref.drop 2).hA),VI a2] [] fun r7 o7=>NB r7<|.done 0 [VB r7.toBool] []) (.done 0 [VB false] []))) (NZ a1<|NZ a1<|.ak (LK.has (.int .u8) (a1.deref.hA)/\1<=a1.deref.length)<|.test (((a1.deref.hA).toInt)==(114:Int)) (.call 106 [.agg [a0_0,a0_1]] [] fun r8 o8=>.ak (r8=.agg r8.cs/\r8.cs.length=2/\bz [.ptr,.ptr] r8.cs 0)<|NZ a1<|NZ a1<|ez (a1.deref.drop 2)<|.call 80 [.agg [(r8.cs.getD 0 .any),(r8.cs.getD 1 .any)],((a1.deref.drop 2).hA),VI a2] [] fun r9 o9=>NB r9<|.done 0 [VB r9.toBool] []) (.done 0 [VB false] []))) (.test (((a0_0.deref.hA).toInt)==(42:Int)) (NZ a1<|NZ a1<|.ak (LK.has (.int .u8) (a1.deref.hA)/\1<=a1.deref.length)<|.test (((a1.deref.hA).toInt)==(112:Int)) (.call 105 [.agg [a0_0,a0_1]] [] fun r10 o10=>.ak (r10=.agg r10.cs/\r10.cs.length=2/\bz [.ptr,.ptr] r10.cs 0)<|NZ a1<|NZ a1<|ez (a1.deref.drop 2)<|.call 80 [.agg [(r10.cs.getD 0 .any),(r10.cs.getD 1 .any)],((a1.deref.drop 2).hA),VI a2] [] fun r11 o11=>NB r11<|.test r11.toBool (.call 106 [.agg [a0_0,a0_1]] [] fun r12 o12=>.ak (r12=.agg r12.cs/\r12.cs.length=2/\bz [.ptr,.ptr] r12.cs 0)<|NZ a1<|NZ a1<|ez (a1.deref.drop 3)<|.call 80 [.agg [(r12.cs.getD 0 .any),(r12.cs.getD 1 .any)],((a1.deref.drop 3).hA),VI a2] [] fun r13 o13=>NB r13<|.done 0 [VB r13.toBool] []) (.done 0 [VB false] [])) (.done 0 [VB false] [])) (.test (((a0_0.deref.hA).toInt)==(114:Int)) (.call 107 [.agg [a0_0,a0_1]] [] fun r14 o14=>NT r14<|.ak ((r14.comp 0)=.agg (r14.comp 0).cs/\(r14.comp 0).cs.length=2/\bz [.ptr,.ptr] ((r14.comp 0).cs) 0)<|NP (r14.comp 1)<|NZ a1<|NZ a1<|.ak (LK.has (.int .u8) (a1.deref.hA)/\1<=a1.deref.length)<|.test (((a1.deref.hA).toInt)==(102:Int)) (NZ a1<|NZ a1<|ez (a1.deref.drop 2)<|.call 80 [.agg [((r14.comp 0).cs.getD 0 .any),((r14.comp 0).cs.getD 1 .any)],((a1.deref.drop 2).hA),VI a2] [] fun r15 o15=>NB r15<|.done 0 [VB r15.toBool] []) (.done 0 [VB false] [])) (.done 0 [VB false] []))))))
theorem J3(a0_0:AV)(a0_1:AV)(a1:AV)(a2:Int)(ha0_0:LK.has .ptr a0_0)(ha0_1:LK.has .ptr a0_1)(ha1:LK.has .ptr a1)(h:dC 134 (zH a0_0 a0_1 a1 a2) R):ap Tryz.prog 80 [.agg [a0_0,a0_1],a1,VI a2] [] R :=
 uQ (ah (cr (ah (bA ha0_0) (ah (bA ha0_1) aD))) (ah (bA ha1) (ah (aB _) aD))) (oQ [] Tryz.f80 h)
def IR(a0:ByteArray):Tree :=
 .call 84 [VS a0] [] fun r1 o1=>NT r1<|.ak ((r1.comp 0)=.agg (r1.comp 0).cs/\(r1.comp 0).cs.length=2/\bz [.str,.sl] ((r1.comp 0).cs) 0)<|NB (r1.comp 1)<|.test ((r1.comp 1).toBool) (.call 136 [.agg [VS (((r1.comp 0).cs.getD 0 .any).ag),((r1.comp 0).cs.getD 1 .any)]] [] fun r2 o2=>NB r2<|.test r2.toBool (.call 129 [.agg [VS (((r1.comp 0).cs.getD 0 .any).ag),((r1.comp 0).cs.getD 1 .any)]] [] fun r3 o3=>NI r3<|.done 0 [.cA [.agg [VS (((r1.comp 0).cs.getD 0 .any).ag),((r1.comp 0).cs.getD 1 .any)],VB (decide (r3.toInt<=(400:Int)))]] []) (.done 0 [.cA [.agg [VS (((r1.comp 0).cs.getD 0 .any).ag),((r1.comp 0).cs.getD 1 .any)],VB false]] [])) (.done 0 [.cA [.agg [VS (((r1.comp 0).cs.getD 0 .any).ag),((r1.comp 0).cs.getD 1 .any)],VB false]] [])
theorem Ou(a0:ByteArray)(h:dC 22 (IR a0) R):ap Tryz.prog 82 [VS a0] [] R :=
 uQ (ah (aB _) aD) (oQ [] Tryz.f82 h)
def JP(a0:ByteArray):Tree :=
 .test (decide ((ae a0:Int)>(8000:Int))) (.done 0 [.cA [.agg [VS (mk []),.v (.slice none 0 0)],VB false]] []) (.call 137 [VS a0,VI 0,VI 0] [] fun r1 o1=>NT r1<|.ak ((r1.comp 0)=.agg (r1.comp 0).cs/\(r1.comp 0).cs.length=2/\bz [.str,.sl] ((r1.comp 0).cs) 0)<|NI (r1.comp 1)<|.done 0 [.cA [.agg [VS (((r1.comp 0).cs.getD 0 .any).ag),((r1.comp 0).cs.getD 1 .any)],VB (((r1.comp 1).toInt)==(ae a0:Int))]] [])
theorem Ny(a0:ByteArray)(h:dC 20 (JP a0) R):ap Tryz.prog 84 [VS a0] [] R :=
 uQ (ah (aB _) aD) (oQ [] Tryz.f84 h)
def wA(a0_0:ByteArray)(a0_1:AV):Tree :=
 .test (!(ac a0_0==ac (mk []))) (.test (ac a0_0==ac (mk [117])) (.done 0 [VB true] []) (.call 56 [VS a0_0] [] fun r1 o1=>NI r1<|.done 0 [VB (decide (r1.toInt≥(0:Int)))] [])) (.call 90 [.agg [VS a0_0,a0_1]] [] fun r2 o2=>NS r2<|.test (ac r2.ag==ac (mk [108])) (NL a0_1<|.test ((a0_1.aR.length:Int)==(2:Int)) (NG a0_1 1 2<|NE (a0_1.ix (1:Int))<|.call 85 [.agg [VS (((a0_1.ix (1:Int)).getD 0 .any).ag),((a0_1.ix (1:Int)).getD 1 .any)]] [] fun r3 o3=>NB r3<|.done 0 [VB r3.toBool] []) (.done 0 [VB false] [])) (.test (ac r2.ag==ac (mk [114])) (NL a0_1<|.test ((a0_1.aR.length:Int)==(2:Int)) (NG a0_1 1 2<|NE (a0_1.ix (1:Int))<|.call 85 [.agg [VS (((a0_1.ix (1:Int)).getD 0 .any).ag),((a0_1.ix (1:Int)).getD 1 .any)]] [] fun r4 o4=>NB r4<|.done 0 [VB r4.toBool] []) (.done 0 [VB false] [])) (.test (ac r2.ag==ac (mk [102])) (NL a0_1<|.test ((a0_1.aR.length:Int)==(2:Int)) (NG a0_1 1 2<|NE (a0_1.ix (1:Int))<|.call 85 [.agg [VS (((a0_1.ix (1:Int)).getD 0 .any).ag),((a0_1.ix (1:Int)).getD 1 .any)]] [] fun r5 o5=>NB r5<|.done 0 [VB r5.toBool] []) (.done 0 [VB false] [])) (.test (ac r2.ag==ac (mk [112])) (NL a0_1<|.test ((a0_1.aR.length:Int)==(3:Int)) (NG a0_1 1 2<|NE (a0_1.ix (1:Int))<|.call 85 [.agg [VS (((a0_1.ix (1:Int)).getD 0 .any).ag),((a0_1.ix (1:Int)).getD 1 .any)]] [] fun r6 o6=>NB r6<|.test r6.toBool (NG a0_1 2 2<|NE (a0_1.ix (2:Int))<|.call 85 [.agg [VS (((a0_1.ix (2:Int)).getD 0 .any).ag),((a0_1.ix (2:Int)).getD 1 .any)]] [] fun r7 o7=>NB r7<|.done 0 [VB r7.toBool] []) (.done 0 [VB false] [])) (.done 0 [VB false] [])) (.done 0 [VB false] [])))))
theorem yB(a0_0:ByteArray)(a0_1:AV)(ha0_1:LK.has .sl a0_1)(h:dC 52 (wA a0_0 a0_1) R):ap Tryz.prog 85 [.agg [VS a0_0,a0_1]] [] R :=
 uQ (ah (cr (ah (aB _) (ah (bY ha0_1) aD))) aD) (oQ [] Tryz.f85 h)
def Gu:LI:={hd:={cf:=[(3,.k (.int .i64)),(4,.k (.int .i64))],refs:=[(1,1)],co:=[(1,[.lk .str,.lk .sl])]},xs:={cf:=[(3,.k (.int .i64))]},rt:={},ex:=0}
def K2:Code:=da (cS Tryz.f86) 3
def JB:List (Nat×LI):=[(3,Gu)]
def G7(a0_0:ByteArray)(a0_1:AV):Tree :=
 .loop K2 Gu [VI 1,VI 1] [.cells [VS a0_0,a0_1]] (fun y2 q2=>NI (y2.hA)<|.done 0 [VI ((y2.hA).toInt)] []) (fun y2 q2=>.done 0 [.any] [])
theorem Kv(a0_0:ByteArray)(a0_1:AV)(ha0_1:LK.has .sl a0_1)(h:dC 21 (G7 a0_0 a0_1) R):ap Tryz.prog 86 [.agg [VS a0_0,a0_1]] [] R :=
 uQ (ah (cr (ah (aB _) (ah (bY ha0_1) aD))) aD) (oQ JB Tryz.f86 h)
def Bm(x3:Int)(x4:Int)(o1_0:ByteArray)(o1_1:AV):Tree :=
 NI (VI x3)<|NI (VI x4)<|.ak (Ob.cells [VS o1_0,o1_1]=.cells [VS o1_0,o1_1])<|.ak (af [.lk .str,.lk .sl] [VS o1_0,o1_1] 0 [])<|NL o1_1<|.test (decide (x4<(o1_1.aR.length:Int))) (NG o1_1 x4 2<|NE (o1_1.ix x4)<|.call 86 [.agg [VS (((o1_1.ix x4).getD 0 .any).ag),((o1_1.ix x4).getD 1 .any)]] [] fun r1 o1=>NI r1<|.done 0 [VI (IntKind.wrap .i64 (x3+r1.toInt)),VI (IntKind.wrap .i64 (x4+1))] [.cells [VS o1_0,o1_1]]) (.done 1 [VI x3] [])
abbrev zU:=cI Tryz.prog 21 K2 Gu
theorem DB(x3:Int)(x4:Int)(o1_0:ByteArray)(o1_1:AV)(h:l4 21 (Bm x3 x4 o1_0 o1_1) zU U):zU [VI x3,VI x4] [.cells [VS o1_0,o1_1]] U :=
 gQ JB h
def Io(a0:Int)(a1:Int)(a2:Int):Tree :=
 .test (decide (a0≥a1)) (.done 0 [VB (decide (a0<=a2))] []) (.done 0 [VB false] [])
theorem PL(a0:Int)(a1:Int)(a2:Int)(h:dC 15 (Io a0 a1 a2) R):ap Tryz.prog 87 [VI a0,VI a1,VI a2] [] R :=
 uQ (ah (aB _) (ah (aB _) (ah (aB _) aD))) (oQ [] Tryz.f87 h)
def Ia(a0_0:ByteArray)(a0_1:AV)(a1:AV)(a2_0:ByteArray)(a2_1:AV)(a3:Int):Tree :=
 .call 138 [.agg [VS a0_0,a0_1],a1] [] fun r1 o1=>NT r1<|.ak ((r1.comp 0)=.agg (r1.comp 0).cs/\(r1.comp 0).cs.length=2/\bz [.str,.sl] ((r1.comp 0).cs) 0)<|NL (r1.comp 1)<|.test (!(ac (((r1.comp 0).cs.getD 0 .any).ag)==ac (mk []))) (.test (ac (((r1.comp 0).cs.getD 0 .any).ag)==ac (mk [49])) (.done 0 [VB (ac a2_0==ac (mk [117]))] []) (.call 100 [VS (((r1.comp 0).cs.getD 0 .any).ag)] [] fun r2 o2=>NB r2<|.test r2.toBool (.call 56 [VS a2_0] [] fun r3 o3=>NI r3<|.call 87 [VI r3.toInt,VI 0,VI (IntKind.wrap .i64 (a3-1))] [] fun r4 o4=>NB r4<|.done 0 [VB r4.toBool] []) (.done 0 [VB false] []))) (.call 90 [.agg [VS (((r1.comp 0).cs.getD 0 .any).ag),((r1.comp 0).cs.getD 1 .any)]] [] fun r5 o5=>NS r5<|.call 90 [.agg [VS a2_0,a2_1]] [] fun r6 o6=>NS r6<|.ak (ae r5.ag+ae r6.ag<=9223372036854775807)<|.test (ac ((r5.ag:ByteArray)++r6.ag)==ac (mk [43,108])) (NG ((r1.comp 0).cs.getD 1 .any) 1 2<|NE (((r1.comp 0).cs.getD 1 .any).ix (1:Int))<|NG a2_1 1 2<|NE (a2_1.ix (1:Int))<|.call 89 [.agg [VS (((((r1.comp 0).cs.getD 1 .any).ix (1:Int)).getD 0 .any).ag),((((r1.comp 0).cs.getD 1 .any).ix (1:Int)).getD 1 .any)],(r1.comp 1),.agg [VS (((a2_1.ix (1:Int)).getD 0 .any).ag),((a2_1.ix (1:Int)).getD 1 .any)],VI a3] [] fun r7 o7=>NB r7<|.done 0 [VB r7.toBool] []) (.test (ac ((r5.ag:ByteArray)++r6.ag)==ac (mk [43,114])) (NG ((r1.comp 0).cs.getD 1 .any) 2 2<|NE (((r1.comp 0).cs.getD 1 .any).ix (2:Int))<|NG a2_1 1 2<|NE (a2_1.ix (1:Int))<|.call 89 [.agg [VS (((((r1.comp 0).cs.getD 1 .any).ix (2:Int)).getD 0 .any).ag),((((r1.comp 0).cs.getD 1 .any).ix (2:Int)).getD 1 .any)],(r1.comp 1),.agg [VS (((a2_1.ix (1:Int)).getD 0 .any).ag),((a2_1.ix (1:Int)).getD 1 .any)],VI a3] [] fun r8 o8=>NB r8<|.done 0 [VB r8.toBool] []) (.test (ac ((r5.ag:ByteArray)++r6.ag)==ac (mk [42,112])) (NG ((r1.comp 0).cs.getD 1 .any) 1 2<|NE (((r1.comp 0).cs.getD 1 .any).ix (1:Int))<|NG a2_1 1 2<|NE (a2_1.ix (1:Int))<|.call 89 [.agg [VS (((((r1.comp 0).cs.getD 1 .any).ix (1:Int)).getD 0 .any).ag),((((r1.comp 0).cs.getD 1 .any).ix (1:Int)).getD 1 .any)],(r1.comp 1),.agg [VS (((a2_1.ix (1:Int)).getD 0 .any).ag),((a2_1.ix (1:Int)).getD 1 .any)],VI a3] [] fun r9 o9=>NB r9<|.test r9.toBool (NG ((r1.comp 0).cs.getD 1 .any) 2 2<|NE (((r1.comp 0).cs.getD 1 .any).ix (2:Int))<|NG a2_1 2 2<|NE (a2_1.ix (2:Int))<|.call 89 [.agg [VS (((((r1.comp 0).cs.getD 1 .any).ix (2:Int)).getD 0 .any).ag),((((r1.comp 0).cs.getD 1 .any).ix (2:Int)).getD 1 .any)],(r1.comp 1),.agg [VS (((a2_1.ix (2:Int)).getD 0 .any).ag),((a2_1.ix (2:Int)).getD 1 .any)],VI a3] [] fun r10 o10=>NB r10<|.done 0 [VB r10.toBool] []) (.done 0 [VB false] [])) (.test (ac ((r5.ag:ByteArray)++r6.ag)==ac (mk [114,101,99,102])) (.call 139 [.agg [VS (((r1.comp 0).cs.getD 0 .any).ag),((r1.comp 0).cs.getD 1 .any)],(r1.comp 1)] [] fun r11 o11=>NT r11<|.ak ((r11.comp 0)=.agg (r11.comp 0).cs/\(r11.comp 0).cs.length=2/\bz [.str,.sl] ((r11.comp 0).cs) 0)<|NL (r11.comp 1)<|NG a2_1 1 2<|NE (a2_1.ix (1:Int))<|.call 89 [.agg [VS (((r11.comp 0).cs.getD 0 .any).ag),((r11.comp 0).cs.getD 1 .any)],(r11.comp 1),.agg [VS (((a2_1.ix (1:Int)).getD 0 .any).ag),((a2_1.ix (1:Int)).getD 1 .any)],VI a3] [] fun r12 o12=>NB r12<|.done 0 [VB r12.toBool] []) (.done 0 [VB false] [])))))
theorem NN(a0_0:ByteArray)(a0_1:AV)(a1:AV)(a2_0:ByteArray)(a2_1:AV)(a3:Int)(ha0_1:LK.has .sl a0_1)(ha1:LK.has .sl a1)(ha2_1:LK.has .sl a2_1)(h:dC 110 (Ia a0_0 a0_1 a1 a2_0 a2_1 a3) R):ap Tryz.prog 89 [.agg [VS a0_0,a0_1],a1,.agg [VS a2_0,a2_1],VI a3] [] R :=
 uQ (ah (cr (ah (aB _) (ah (bY ha0_1) aD))) (ah (bY ha1) (ah (cr (ah (aB _) (ah (bY ha2_1) aD))) (ah (aB _) aD)))) (oQ [] Tryz.f89 h)
def Du(a0_0:ByteArray)(a0_1:AV):Tree :=
 .test (!(ac a0_0==ac (mk []))) (.done 0 [VS (mk [])] []) (NL a0_1<|.test ((a0_1.aR.length:Int)==(0:Int)) (.done 0 [VS (mk [])] []) (NG a0_1 0 2<|l0 (a0_1.ix (0:Int))<|.done 0 [VS (((a0_1.ix (0:Int)).hA).ag)] []))
theorem Fj(a0_0:ByteArray)(a0_1:AV)(ha0_1:LK.has .sl a0_1)(h:dC 17 (Du a0_0 a0_1) R):ap Tryz.prog 90 [.agg [VS a0_0,a0_1]] [] R :=
 uQ (ah (cr (ah (aB _) (ah (bY ha0_1) aD))) aD) (oQ [] Tryz.f90 h)
def DU(a0:AV)(e1_0_0:List (List AV)):Tree :=
 .call 189 [a0,.ref 0 0] [.cells [.vec 1],.vec 1 e1_0_0] fun r1 o1=>.ak ((o1.hO)=.cells (o1.hO).cs)<|.ak (aM [.vec 1] ((o1.hO).cs) 0 1 o1.tail)<|NZ a0<|NZ a0<|ez (a0.deref.drop 3)<|NP ((a0.deref.drop 3).hA)<|.test (!((a0.deref.drop 3).hA).isNil) (NZ a0<|NZ a0<|ez (a0.deref.drop 3)<|.call 91 [((a0.deref.drop 3).hA),.fn 189 [.ref 0 0]] [.cells [.vec 1],.vec 1 ((o1.tail.hO).es)] fun r2 o2=>.ak ((o2.hO)=.cells (o2.hO).cs)<|.ak (aM [.vec 1] ((o2.hO).cs) 0 1 o2.tail)<|NZ a0<|NZ a0<|ez (a0.deref.drop 4)<|NP ((a0.deref.drop 4).hA)<|.test (!((a0.deref.drop 4).hA).isNil) (NZ a0<|NZ a0<|ez (a0.deref.drop 4)<|.call 91 [((a0.deref.drop 4).hA),.fn 189 [.ref 0 0]] [.cells [.vec 1],.vec 1 ((o2.tail.hO).es)] fun r3 o3=>.ak ((o3.hO)=.cells (o3.hO).cs)<|.ak (aM [.vec 1] ((o3.hO).cs) 0 1 o3.tail)<|.done 0 [.any] [.cells [.vec 1],.vec 1 ((o3.tail.hO).es)]) (.done 0 [.any] [.cells [.vec 1],.vec 1 ((o2.tail.hO).es)])) (NZ a0<|NZ a0<|ez (a0.deref.drop 4)<|NP ((a0.deref.drop 4).hA)<|.test (!((a0.deref.drop 4).hA).isNil) (NZ a0<|NZ a0<|ez (a0.deref.drop 4)<|.call 91 [((a0.deref.drop 4).hA),.fn 189 [.ref 0 0]] [.cells [.vec 1],.vec 1 ((o1.tail.hO).es)] fun r4 o4=>.ak ((o4.hO)=.cells (o4.hO).cs)<|.ak (aM [.vec 1] ((o4.hO).cs) 0 1 o4.tail)<|.done 0 [.any] [.cells [.vec 1],.vec 1 ((o4.tail.hO).es)]) (.done 0 [.any] [.cells [.vec 1],.vec 1 ((o1.tail.hO).es)]))
theorem F2(a0:AV)(e1_0_0:List (List AV))(ha0:LK.has .ptr a0)(h:dC 29 (DU a0 e1_0_0) R):ap Tryz.prog 91 [a0,.fn 189 [.ref 0 0]] [.cells [.vec 1],.vec 1 e1_0_0] R :=
 ap.nS (bw (cc (ah (aB _) aD)) (bw (gv _) cx)) (ap.up (ah (bA ha0) (ah (aB _) aD)) (oF [] {mu:=[(1,.fn [some (.obj [.vec 1])])],own:=[]} Tryz.f91 h))
def ER(a0:AV):Tree :=
 NZ a0<|NZ a0<|.ak (LK.has (.int .u8) (a0.deref.hA)/\1<=a0.deref.length)<|.test (((a0.deref.hA).toInt)==(117:Int)) (.done 0 [VS (mk [117])] []) (.test (((a0.deref.hA).toInt)==(101:Int)) (NZ a0<|NZ a0<|l0 (a0.deref.drop 1)<|.done 0 [VS (((a0.deref.drop 1).hA).ag)] []) (.test (((a0.deref.hA).toInt)==(112:Int)) (NZ a0<|NZ a0<|ez (a0.deref.drop 2)<|.call 93 [((a0.deref.drop 2).hA)] [] fun r1 o1=>NS r1<|.ak (ae (mk [40,112,32])+ae r1.ag<=9223372036854775807)<|.ak (ae (((mk [40,112,32]):ByteArray)++r1.ag)+ae (mk [32])<=9223372036854775807)<|NZ a0<|NZ a0<|ez (a0.deref.drop 3)<|.call 93 [((a0.deref.drop 3).hA)] [] fun r2 o2=>NS r2<|.ak (ae (((((mk [40,112,32]):ByteArray)++r1.ag):ByteArray)++(mk [32]))+ae r2.ag<=9223372036854775807)<|.ak (ae (((((((mk [40,112,32]):ByteArray)++r1.ag):ByteArray)++(mk [32])):ByteArray)++r2.ag)+ae (mk [41])<=9223372036854775807)<|.done 0 [VS (((((((((mk [40,112,32]):ByteArray)++r1.ag):ByteArray)++(mk [32])):ByteArray)++r2.ag):ByteArray)++(mk [41]))] []) (NZ a0<|NZ a0<|.ak (LK.has (.int .u8) (a0.deref.hA)/\1<=a0.deref.length)<|.ak (jy [[.v (.int .u8 ((a0.deref.hA).toInt))]])<|.ak (ae (mk [40])+ae (⟨(bytesOf [[.v (.int .u8 ((a0.deref.hA).toInt))]]).toArray⟩)<=9223372036854775807)<|.ak (ae (((mk [40]):ByteArray)++(⟨(bytesOf [[.v (.int .u8 ((a0.deref.hA).toInt))]]).toArray⟩))+ae (mk [32])<=9223372036854775807)<|NZ a0<|NZ a0<|ez (a0.deref.drop 2)<|.call 93 [((a0.deref.drop 2).hA)] [] fun r3 o3=>NS r3<|.ak (ae (((((mk [40]):ByteArray)++(⟨(bytesOf [[.v (.int .u8 ((a0.deref.hA).toInt))]]).toArray⟩)):ByteArray)++(mk [32]))+ae r3.ag<=9223372036854775807)<|.ak (ae (((((((mk [40]):ByteArray)++(⟨(bytesOf [[.v (.int .u8 ((a0.deref.hA).toInt))]]).toArray⟩)):ByteArray)++(mk [32])):ByteArray)++r3.ag)+ae (mk [41])<=9223372036854775807)<|.done 0 [VS (((((((((mk [40]):ByteArray)++(⟨(bytesOf [[.v (.int .u8 ((a0.deref.hA).toInt))]]).toArray⟩)):ByteArray)++(mk [32])):ByteArray)++r3.ag):ByteArray)++(mk [41]))] [])))
theorem yA(a0:AV)(ha0:LK.has .ptr a0)(h:dC 46 (ER a0) R):ap Tryz.prog 93 [a0] [] R :=
 uQ (ah (bA ha0) aD) (oQ [] Tryz.f93 h)
def IB(a0:Int)(a1:AV):Tree :=
 .done 0 [.ptr [.v (.int .u8 a0),VS (mk []),a1,.v (.pointer none)]] []
theorem O6(a0:Int)(a1:AV)(ha1:LK.has .ptr a1)(h:dC 9 (IB a0 a1) R):ap Tryz.prog 95 [.v (.int .u8 a0),a1] [] R :=
 uQ (ah (aB _) (ah (bA ha1) aD)) (oQ [] Tryz.f95 h)
def Iq(a0:AV)(a1:AV):Tree :=
 .done 0 [.ptr [.v (.int .u8 112),VS (mk []),a0,a1]] []
theorem MY(a0:AV)(a1:AV)(ha0:LK.has .ptr a0)(ha1:LK.has .ptr a1)(h:dC 9 (Iq a0 a1) R):ap Tryz.prog 96 [a0,a1] [] R :=
 uQ (ah (bA ha0) (ah (bA ha1) aD)) (oQ [] Tryz.f96 h)
def wX(a0_0:ByteArray)(a0_1:AV)(a1:AV)(e2:List (List AV)):Tree :=
 .test (!(ac a0_0==ac (mk []))) (.test (ac a0_0==ac (mk [48])) (.done 0 [.vec 1] [.dead,.vec 1 e2]) (.test (ac a0_0==ac (mk [49])) (.done 0 [.vec 1] [.dead,.vec 1 e2]) (.call 142 [a1,VS a0_0] [] fun r1 o1=>NB r1<|.test r1.toBool (.done 0 [.vec 1] [.dead,.vec 1 e2]) (.call 142 [.sl e2,VS a0_0] [] fun r2 o2=>NB r2<|.test r2.toBool (.done 0 [.vec 1] [.dead,.vec 1 e2]) (.ak (cE 1 [[VS a0_0]]/\((e2.length)+([[VS a0_0]]:List (List AV)).length)*16<=140737488355328)<|.done 0 [.vec 1] [.dead,.vec 1 (e2++([[VS a0_0]]:List (List AV)))]))))) (.call 90 [.agg [VS a0_0,a0_1]] [] fun r3 o3=>NS r3<|.test (ac r3.ag==ac (mk [114,101,99])) (NG a0_1 2 2<|NE (a0_1.ix (2:Int))<|NG a0_1 1 2<|l0 (a0_1.ix (1:Int))<|.call 143 [a1,VS (((a0_1.ix (1:Int)).hA).ag)] [] fun r4 o4=>NL r4<|.call 98 [.agg [VS (((a0_1.ix (2:Int)).getD 0 .any).ag),((a0_1.ix (2:Int)).getD 1 .any)],r4,.vec 0] [.vec 1 e2] fun r5 o5=>.ak (r5=.vec 1/\(o5.tail.hO)=.vec 1 (o5.tail.hO).es)<|.done 0 [.vec 1] [.dead,.vec 1 ((o5.tail.hO).es)]) (NG a0_1 2 2<|NE (a0_1.ix (2:Int))<|NG a0_1 1 2<|NE (a0_1.ix (1:Int))<|.call 98 [.agg [VS (((a0_1.ix (1:Int)).getD 0 .any).ag),((a0_1.ix (1:Int)).getD 1 .any)],a1,.vec 0] [.vec 1 e2] fun r6 o6=>.ak (r6=.vec 1/\(o6.tail.hO)=.vec 1 (o6.tail.hO).es)<|.call 98 [.agg [VS (((a0_1.ix (2:Int)).getD 0 .any).ag),((a0_1.ix (2:Int)).getD 1 .any)],a1,.vec 0] [.vec 1 ((o6.tail.hO).es)] fun r7 o7=>.ak (r7=.vec 1/\(o7.tail.hO)=.vec 1 (o7.tail.hO).es)<|.done 0 [.vec 1] [.dead,.vec 1 ((o7.tail.hO).es)]))
theorem yZ(a0_0:ByteArray)(a0_1:AV)(a1:AV)(e2:List (List AV))(ha0_1:LK.has .sl a0_1)(ha1:LK.has .sl a1)(h:dC 65 (wX a0_0 a0_1 a1 e2) R):ap Tryz.prog 98 [.agg [VS a0_0,a0_1],a1,.vec 0] [.vec 1 e2] R :=
 ap.nS (bw (gv _) cx) (ap.up (ah (cr (ah (aB _) (ah (bY ha0_1) aD))) (ah (bY ha1) (ah (aB _) aD))) (oF [] {mu:=[(2,.one (.vec))],own:=[0]} Tryz.f98 h))
def JN(a0:ByteArray):Tree :=
 .call 144 [VS a0,.v (.int .u8 116),.v (.int .u8 116)] [] fun r1 o1=>NB r1<|.done 0 [VB r1.toBool] []
theorem NW(a0:ByteArray)(h:dC 5 (JN a0) R):ap Tryz.prog 99 [VS a0] [] R :=
 uQ (ah (aB _) aD) (oQ [] Tryz.f99 h)
def HM(a0:ByteArray):Tree :=
 .call 144 [VS a0,.v (.int .u8 120),.v (.int .u8 122)] [] fun r1 o1=>NB r1<|.done 0 [VB r1.toBool] []
theorem MS(a0:ByteArray)(h:dC 5 (HM a0) R):ap Tryz.prog 100 [VS a0] [] R :=
 uQ (ah (aB _) aD) (oQ [] Tryz.f100 h)
def A8(a0_0:ByteArray)(a0_1:AV)(a1:ByteArray):Tree :=
 .test (!(ac a0_0==ac (mk []))) (.test (ac a0_0==ac a1) (.done 0 [.cA [.agg [VS (mk [49]),.v (.slice none 0 0)],VB true]] []) (.done 0 [.cA [.agg [VS (mk [48]),.v (.slice none 0 0)],VB true]] [])) (.call 90 [.agg [VS a0_0,a0_1]] [] fun r1 o1=>NS r1<|.test (ac r1.ag==ac (mk [114,101,99])) (.call 145 [.agg [VS a0_0,a0_1],VS a1] [] fun r2 o2=>NT r2<|.ak ((r2.comp 0)=.agg (r2.comp 0).cs/\(r2.comp 0).cs.length=2/\bz [.str,.sl] ((r2.comp 0).cs) 0)<|NB (r2.comp 1)<|.done 0 [.cA [.agg [VS (((r2.comp 0).cs.getD 0 .any).ag),((r2.comp 0).cs.getD 1 .any)],VB ((r2.comp 1).toBool)]] []) (NG a0_1 1 2<|NE (a0_1.ix (1:Int))<|.call 101 [.agg [VS (((a0_1.ix (1:Int)).getD 0 .any).ag),((a0_1.ix (1:Int)).getD 1 .any)],VS a1] [] fun r3 o3=>NT r3<|.ak ((r3.comp 0)=.agg (r3.comp 0).cs/\(r3.comp 0).cs.length=2/\bz [.str,.sl] ((r3.comp 0).cs) 0)<|NB (r3.comp 1)<|NG a0_1 2 2<|NE (a0_1.ix (2:Int))<|.call 101 [.agg [VS (((a0_1.ix (2:Int)).getD 0 .any).ag),((a0_1.ix (2:Int)).getD 1 .any)],VS a1] [] fun r4 o4=>NT r4<|.ak ((r4.comp 0)=.agg (r4.comp 0).cs/\(r4.comp 0).cs.length=2/\bz [.str,.sl] ((r4.comp 0).cs) 0)<|NB (r4.comp 1)<|.call 69 [VS (mk [43]),.sl [[VS (((r3.comp 0).cs.getD 0 .any).ag),((r3.comp 0).cs.getD 1 .any)],[VS (((r4.comp 0).cs.getD 0 .any).ag),((r4.comp 0).cs.getD 1 .any)]]] [] fun r5 o5=>NA r5<|.call 90 [.agg [VS a0_0,a0_1]] [] fun r6 o6=>NS r6<|.test (ac r6.ag==ac (mk [42])) (NG a0_1 2 2<|NE (a0_1.ix (2:Int))<|.call 69 [VS (mk [42]),.sl [[VS (((r3.comp 0).cs.getD 0 .any).ag),((r3.comp 0).cs.getD 1 .any)],[VS (((a0_1.ix (2:Int)).getD 0 .any).ag),((a0_1.ix (2:Int)).getD 1 .any)]]] [] fun r7 o7=>NA r7<|NG a0_1 1 2<|NE (a0_1.ix (1:Int))<|.call 69 [VS (mk [42]),.sl [[VS (((a0_1.ix (1:Int)).getD 0 .any).ag),((a0_1.ix (1:Int)).getD 1 .any)],[VS (((r4.comp 0).cs.getD 0 .any).ag),((r4.comp 0).cs.getD 1 .any)]]] [] fun r8 o8=>NA r8<|.call 69 [VS (mk [43]),.sl [[VS ((r7.cs.getD 0 .any).ag),(r7.cs.getD 1 .any)],[VS ((r8.cs.getD 0 .any).ag),(r8.cs.getD 1 .any)]]] [] fun r9 o9=>NA r9<|.test ((r3.comp 1).toBool) (.test ((r4.comp 1).toBool) (.call 129 [.agg [VS ((r9.cs.getD 0 .any).ag),(r9.cs.getD 1 .any)]] [] fun r10 o10=>NI r10<|.done 0 [.cA [.agg [VS ((r9.cs.getD 0 .any).ag),(r9.cs.getD 1 .any)],VB (decide (r10.toInt<=(400:Int)))]] []) (.done 0 [.cA [.agg [VS ((r9.cs.getD 0 .any).ag),(r9.cs.getD 1 .any)],VB false]] [])) (.done 0 [.cA [.agg [VS ((r9.cs.getD 0 .any).ag),(r9.cs.getD 1 .any)],VB false]] [])) (.test ((r3.comp 1).toBool) (.test ((r4.comp 1).toBool) (.call 129 [.agg [VS ((r5.cs.getD 0 .any).ag),(r5.cs.getD 1 .any)]] [] fun r11 o11=>NI r11<|.done 0 [.cA [.agg [VS ((r5.cs.getD 0 .any).ag),(r5.cs.getD 1 .any)],VB (decide (r11.toInt<=(400:Int)))]] []) (.done 0 [.cA [.agg [VS ((r5.cs.getD 0 .any).ag),(r5.cs.getD 1 .any)],VB false]] [])) (.done 0 [.cA [.agg [VS ((r5.cs.getD 0 .any).ag),(r5.cs.getD 1 .any)],VB false]] []))))
theorem Dm(a0_0:ByteArray)(a0_1:AV)(a1:ByteArray)(ha0_1:LK.has .sl a0_1)(h:dC 79 (A8 a0_0 a0_1 a1) R):ap Tryz.prog 101 [.agg [VS a0_0,a0_1],VS a1] [] R :=
 uQ (ah (cr (ah (aB _) (ah (bY ha0_1) aD))) (ah (aB _) aD)) (oQ [] Tryz.f101 h)
def J2(a0_0:ByteArray)(a0_1:AV):Tree :=
 .call 129 [.agg [VS a0_0,a0_1]] [] fun r1 o1=>NI r1<|.test (decide (r1.toInt>(400:Int))) (.done 0 [.cA [VS (mk []),VB false]] []) (.call 78 [.agg [VS a0_0,a0_1],.v (.slice none 0 0)] [] fun r2 o2=>NA r2<|.call 57 [.agg [VS ((r2.cs.getD 0 .any).ag),(r2.cs.getD 1 .any)]] [] fun r3 o3=>NS r3<|.call 146 [VS r3.ag] [] fun r4 o4=>NB r4<|.test (!r4.toBool) (.done 0 [.cA [VS (mk []),VB false]] []) (.done 0 [.cA [VS r3.ag,VB true]] []))
theorem OO(a0_0:ByteArray)(a0_1:AV)(ha0_1:LK.has .sl a0_1)(h:dC 15 (J2 a0_0 a0_1) R):ap Tryz.prog 102 [.agg [VS a0_0,a0_1]] [] R :=
 uQ (ah (cr (ah (aB _) (ah (bY ha0_1) aD))) aD) (oQ [] Tryz.f102 h)
def Kf(a0:ByteArray):Tree :=
 .test (decide ((ae a0:Int)>(8000:Int))) (.done 0 [.v (.pointer none)] []) (.call 147 [VS a0,VI 0] [] fun r1 o1=>NT r1<|NP (r1.comp 0)<|NS (r1.comp 1)<|.test (!(ac ((r1.comp 1).ag)==ac (mk []))) (.done 0 [.v (.pointer none)] []) (.done 0 [(r1.comp 0)] []))
theorem N7(a0:ByteArray)(h:dC 16 (Kf a0) R):ap Tryz.prog 103 [VS a0] [] R :=
 uQ (ah (aB _) aD) (oQ [] Tryz.f103 h)
def GS(a0:AV):Tree :=
 NZ a0<|NZ a0<|.ak (LK.has .str (a0.deref.hA)/\1<=a0.deref.length)<|.test (ac ((a0.deref.hA).ag)==ac (mk [117])) (.done 0 [.ptr [.v (.int .u8 117),VS (mk []),.v (.pointer none),.v (.pointer none)]] []) (NZ a0<|NZ a0<|.ak (LK.has .str (a0.deref.hA)/\1<=a0.deref.length)<|.call 148 [VS ((a0.deref.hA).ag)] [] fun r1 o1=>NB r1<|.test r1.toBool (NZ a0<|NZ a0<|.ak (LK.has .str (a0.deref.hA)/\1<=a0.deref.length)<|.done 0 [.ptr [.v (.int .u8 101),VS ((a0.deref.hA).ag),.v (.pointer none),.v (.pointer none)]] []) (.call 149 [a0,VS (mk [108]),VI 2] [] fun r2 o2=>NB r2<|.test r2.toBool (NZ a0<|NZ a0<|rY (a0.deref.drop 1)<|NG ((a0.deref.drop 1).hA) 1 1<|ez (((a0.deref.drop 1).hA).ix (1:Int))<|.call 104 [((((a0.deref.drop 1).hA).ix (1:Int)).hA)] [] fun r3 o3=>NP r3<|NP r3<|.test r3.isNil (.done 0 [.v (.pointer none)] []) (NZ a0<|NZ a0<|rY (a0.deref.drop 1)<|NG ((a0.deref.drop 1).hA) 0 1<|ez (((a0.deref.drop 1).hA).ix (0:Int))<|NZ ((((a0.deref.drop 1).hA).ix (0:Int)).hA)<|NZ ((((a0.deref.drop 1).hA).ix (0:Int)).hA)<|.ak (LK.has .str (((((a0.deref.drop 1).hA).ix (0:Int)).hA).deref.hA)/\1<=(((((a0.deref.drop 1).hA).ix (0:Int)).hA).deref).length)<|.ak (0<=(0:Int)/\(0:Int)<ae ((((((a0.deref.drop 1).hA).ix (0:Int)).hA).deref.hA).ag))<|.done 0 [.ptr [.v (.int .u8 (bt ((((((a0.deref.drop 1).hA).ix (0:Int)).hA).deref.hA).ag) 0)),VS (mk []),r3,.v (.pointer none)]] [])) (.call 149 [a0,VS (mk [114]),VI 2] [] fun r4 o4=>NB r4<|.test r4.toBool (NZ a0<|NZ a0<|rY (a0.deref.drop 1)<|NG ((a0.deref.drop 1).hA) 1 1<|ez (((a0.deref.drop 1).hA).ix (1:Int))<|.call 104 [((((a0.deref.drop 1).hA).ix (1:Int)).hA)] [] fun r5 o5=>NP r5<|NP r5<|.test r5.isNil (.done 0 [.v (.pointer none)] []) (NZ a0<|NZ a0<|rY (a0.deref.drop 1)<|NG ((a0.deref.drop 1).hA) 0 1<|ez (((a0.deref.drop 1).hA).ix (0:Int))<|NZ ((((a0.deref.drop 1).hA).ix (0:Int)).hA)<|NZ ((((a0.deref.drop 1).hA).ix (0:Int)).hA)<|.ak (LK.has .str (((((a0.deref.drop 1).hA).ix (0:Int)).hA).deref.hA)/\1<=(((((a0.deref.drop 1).hA).ix (0:Int)).hA).deref).length)<|.ak (0<=(0:Int)/\(0:Int)<ae ((((((a0.deref.drop 1).hA).ix (0:Int)).hA).deref.hA).ag))<|.done 0 [.ptr [.v (.int .u8 (bt ((((((a0.deref.drop 1).hA).ix (0:Int)).hA).deref.hA).ag) 0)),VS (mk []),r5,.v (.pointer none)]] [])) (.call 149 [a0,VS (mk [102]),VI 2] [] fun r6 o6=>NB r6<|.test r6.toBool (NZ a0<|NZ a0<|rY (a0.deref.drop 1)<|NG ((a0.deref.drop 1).hA) 1 1<|ez (((a0.deref.drop 1).hA).ix (1:Int))<|.call 104 [((((a0.deref.drop 1).hA).ix (1:Int)).hA)] [] fun r7 o7=>NP r7<|NP r7<|.test r7.isNil (.done 0 [.v (.pointer none)] []) (NZ a0<|NZ a0<|rY (a0.deref.drop 1)<|NG ((a0.deref.drop 1).hA) 0 1<|ez (((a0.deref.drop 1).hA).ix (0:Int))<|NZ ((((a0.deref.drop 1).hA).ix (0:Int)).hA)<|NZ ((((a0.deref.drop 1).hA).ix (0:Int)).hA)<|.ak (LK.has .str (((((a0.deref.drop 1).hA).ix (0:Int)).hA).deref.hA)/\1<=(((((a0.deref.drop 1).hA).ix (0:Int)).hA).deref).length)<|.ak (0<=(0:Int)/\(0:Int)<ae ((((((a0.deref.drop 1).hA).ix (0:Int)).hA).deref.hA).ag))<|.done 0 [.ptr [.v (.int .u8 (bt ((((((a0.deref.drop 1).hA).ix (0:Int)).hA).deref.hA).ag) 0)),VS (mk []),r7,.v (.pointer none)]] [])) (.call 149 [a0,VS (mk [112]),VI 3] [] fun r8 o8=>NB r8<|.test r8.toBool (NZ a0<|NZ a0<|rY (a0.deref.drop 1)<|NG ((a0.deref.drop 1).hA) 1 1<|ez (((a0.deref.drop 1).hA).ix (1:Int))<|.call 104 [((((a0.deref.drop 1).hA).ix (1:Int)).hA)] [] fun r9 o9=>NP r9<|NZ a0<|NZ a0<|rY (a0.deref.drop 1)<|NG ((a0.deref.drop 1).hA) 2 1<|ez (((a0.deref.drop 1).hA).ix (2:Int))<|.call 104 [((((a0.deref.drop 1).hA).ix (2:Int)).hA)] [] fun r10 o10=>NP r10<|NP r9<|.test r9.isNil (.done 0 [.v (.pointer none)] []) (NP r10<|.test r10.isNil (.done 0 [.v (.pointer none)] []) (.call 96 [r9,r10] [] fun r11 o11=>NP r11<|.done 0 [r11] []))) (.done 0 [.v (.pointer none)] []))))))
theorem Mp(a0:AV)(ha0:LK.has .ptr a0)(h:dC 85 (GS a0) R):ap Tryz.prog 104 [a0] [] R :=
 uQ (ah (bA ha0) aD) (oQ [] Tryz.f104 h)
def Jc(a0_0:AV)(a0_1:AV):Tree :=
 NZ a0_0<|NZ a0_0<|ez (a0_0.deref.drop 3)<|.done 0 [.agg [((a0_0.deref.drop 3).hA),a0_1]] []
theorem Pw(a0_0:AV)(a0_1:AV)(ha0_0:LK.has .ptr a0_0)(ha0_1:LK.has .ptr a0_1)(h:dC 11 (Jc a0_0 a0_1) R):ap Tryz.prog 105 [.agg [a0_0,a0_1]] [] R :=
 uQ (ah (cr (ah (bA ha0_0) (ah (bA ha0_1) aD))) aD) (oQ [] Tryz.f105 h)
def H7(a0_0:AV)(a0_1:AV):Tree :=
 NZ a0_0<|NZ a0_0<|ez (a0_0.deref.drop 4)<|.done 0 [.agg [((a0_0.deref.drop 4).hA),a0_1]] []
theorem M7(a0_0:AV)(a0_1:AV)(ha0_0:LK.has .ptr a0_0)(ha0_1:LK.has .ptr a0_1)(h:dC 11 (H7 a0_0 a0_1) R):ap Tryz.prog 106 [.agg [a0_0,a0_1]] [] R :=
 uQ (ah (cr (ah (bA ha0_0) (ah (bA ha0_1) aD))) aD) (oQ [] Tryz.f106 h)
def K1(a0_0:AV)(a0_1:AV):Tree :=
 NZ a0_0<|NZ a0_0<|ez (a0_0.deref.drop 3)<|.done 0 [.cA [.agg [((a0_0.deref.drop 3).hA),.ptr [.ptr [a0_0,a0_1],a0_1]],.ptr [a0_0,a0_1]]] []
theorem OS(a0_0:AV)(a0_1:AV)(ha0_0:LK.has .ptr a0_0)(ha0_1:LK.has .ptr a0_1)(h:dC 20 (K1 a0_0 a0_1) R):ap Tryz.prog 107 [.agg [a0_0,a0_1]] [] R :=
 uQ (ah (cr (ah (bA ha0_0) (ah (bA ha0_1) aD))) aD) (oQ [] Tryz.f107 h)
def JU(a0_0:AV)(a0_1:Int):Tree :=
 .call 32 [.ref 0 0,VI 8] [.cells [a0_0,VI a0_1]] fun r1 o1=>.ak ((o1.hO)=.cells (o1.hO).cs)<|.ak (aM [.lk .sl,.lk (.int .i64)] ((o1.hO).cs) 0 1 o1.tail)<|NI r1<|.test (r1.toInt==(0:Int)) (.call 76 [.ref 0 0] [.cells [((o1.hO).cs.getD 0 .any),VI (((o1.hO).cs.getD 1 .any).toInt)]] fun r2 o2=>.ak ((o2.hO)=.cells (o2.hO).cs)<|.ak (aM [.lk .sl,.lk (.int .i64)] ((o2.hO).cs) 0 1 o2.tail)<|NS r2<|.done 0 [VS r2.ag] [.cells [((o2.hO).cs.getD 0 .any),VI (((o2.hO).cs.getD 1 .any).toInt)]]) (.test (r1.toInt==(1:Int)) (.call 127 [.ref 0 0,.sl [],VI 3] [.cells [((o1.hO).cs.getD 0 .any),VI (((o1.hO).cs.getD 1 .any).toInt)]] fun r3 o3=>.ak ((o3.hO)=.cells (o3.hO).cs)<|.ak (aM [.lk .sl,.lk (.int .i64)] ((o3.hO).cs) 0 1 o3.tail)<|NS r3<|.done 0 [VS r3.ag] [.cells [((o3.hO).cs.getD 0 .any),VI (((o3.hO).cs.getD 1 .any).toInt)]]) (.test (r1.toInt==(2:Int)) (.call 127 [.ref 0 0,.sl [],VI 3] [.cells [((o1.hO).cs.getD 0 .any),VI (((o1.hO).cs.getD 1 .any).toInt)]] fun r4 o4=>.ak ((o4.hO)=.cells (o4.hO).cs)<|.ak (aM [.lk .sl,.lk (.int .i64)] ((o4.hO).cs) 0 1 o4.tail)<|NS r4<|.done 0 [VS r4.ag] [.cells [((o4.hO).cs.getD 0 .any),VI (((o4.hO).cs.getD 1 .any).toInt)]]) (.test (r1.toInt==(3:Int)) (.call 127 [.ref 0 0,.sl [],VI 3] [.cells [((o1.hO).cs.getD 0 .any),VI (((o1.hO).cs.getD 1 .any).toInt)]] fun r5 o5=>.ak ((o5.hO)=.cells (o5.hO).cs)<|.ak (aM [.lk .sl,.lk (.int .i64)] ((o5.hO).cs) 0 1 o5.tail)<|NS r5<|.done 0 [VS r5.ag] [.cells [((o5.hO).cs.getD 0 .any),VI (((o5.hO).cs.getD 1 .any).toInt)]]) (.call 119 [.ref 0 0] [.cells [((o1.hO).cs.getD 0 .any),VI (((o1.hO).cs.getD 1 .any).toInt)]] fun r6 o6=>.ak ((o6.hO)=.cells (o6.hO).cs)<|.ak (aM [.lk .sl,.lk (.int .i64)] ((o6.hO).cs) 0 1 o6.tail)<|NS r6<|.done 0 [VS r6.ag] [.cells [((o6.hO).cs.getD 0 .any),VI (((o6.hO).cs.getD 1 .any).toInt)]]))))
theorem Oy(a0_0:AV)(a0_1:Int)(ha0_0:LK.has .sl a0_0)(h:dC 18 (JU a0_0 a0_1) R):ap Tryz.prog 108 [.ref 0 0] [.cells [a0_0,VI a0_1]] R :=
 ap.nS (bw (cc (ah (bY ha0_0) (ah (aB _) aD))) cx) (ap.up (ah (aB _) aD) (oF [] {mu:=[(0,.one (.obj [.lk .sl,.lk (.int .i64)]))],own:=[]} Tryz.f108 h))
def GC:LI:={hd:={cf:=[(0,.k .sl),(4,.k (.int .i64))],eQ:=[(3,2)]},xs:={eQ:=[(3,2)]},rt:={},ex:=0}
def I7:Code:=da (cS Tryz.f109) 3
def Kj:List (Nat×LI):=[(3,GC)]
def IX(a0:AV):Tree :=
 .loop I7 GC [a0,VI 0] [.vec 2 []] (fun y3 q3=>.ak (((q3.drop 0).hO)=.vec 2 ((q3.drop 0).hO).es)<|.done 0 [.sl ((q3.hO).es)] []) (fun y3 q3=>.done 0 [.any] [])
theorem O7(a0:AV)(ha0:LK.has .sl a0)(h:dC 29 (IX a0) R):ap Tryz.prog 109 [a0] [] R :=
 uQ (ah (bY ha0) aD) (oQ Kj Tryz.f109 h)
def FA(x0:AV)(x4:Int)(e3:List (List AV)):Tree :=
 NL x0<|NI (VI x4)<|.ak (Ob.vec 2 e3=.vec 2 e3)<|NL x0<|.test (decide (x4<(x0.aR.length:Int))) (NG x0 x4 4<|NE (x0.ix x4)<|.call 57 [.agg [VS (((x0.ix x4).getD 0 .any).ag),((x0.ix x4).getD 1 .any)]] [] fun r1 o1=>NS r1<|NG x0 x4 4<|NE ((x0.ix x4).drop 2)<|.call 57 [.agg [VS ((((x0.ix x4).drop 2).getD 0 .any).ag),(((x0.ix x4).drop 2).getD 1 .any)]] [] fun r2 o2=>NS r2<|.ak (cE 2 [[VS r1.ag,VS r2.ag]]/\((e3.length)+([[VS r1.ag,VS r2.ag]]:List (List AV)).length)*32<=140737488355328)<|.done 0 [x0,VI (IntKind.wrap .i64 (x4+1))] [.vec 2 (e3++([[VS r1.ag,VS r2.ag]]:List (List AV)))]) (.done 1 [] [.vec 2 e3])
abbrev Gs:=cI Tryz.prog 29 I7 GC
theorem KN(x0:AV)(x4:Int)(e3:List (List AV))(h:l4 29 (FA x0 x4 e3) Gs U):Gs [x0,VI x4] [.vec 2 e3] U :=
 gQ Kj h
def Fb:LI:={hd:={cf:=[(1,.k .str),(8,.k .sl),(9,.k (.int .i64))],refs:=[(3,3),(5,5)],co:=[(3,[.lk .str,.lk .sl]),(5,[.lk .str,.lk .sl])],eQ:=[(7,4)]},xs:={cf:=[(1,.k .str)],refs:=[(3,3),(5,5)],co:=[(3,[.lk .str,.lk .sl]),(5,[.lk .str,.lk .sl])],eQ:=[(7,4)]},rt:={},ex:=1}
def Hv:Code:=da (cS Tryz.f110) 14
def Et:LI:={hd:={cf:=[(10,.k .sl),(11,.k (.int .i64))],refs:=[(5,5)],co:=[(5,[.lk .str,.lk .sl])],eQ:=[(7,4)]},xs:={eQ:=[(7,4)]},rt:={},ex:=3}
def K5:Code:=da (cS Tryz.f110) 19
def EG:LI:={hd:={cf:=[(1,.k .str),(12,.k .str),(13,.k .sl),(14,.k (.int .i64))],refs:=[(3,3),(5,5)],co:=[(3,[.lk .str,.lk .sl]),(5,[.lk .str,.lk .sl])],eQ:=[(7,4)]},xs:={cf:=[(1,.k .str),(12,.k .str)],refs:=[(3,3),(5,5)],co:=[(3,[.lk .str,.lk .sl]),(5,[.lk .str,.lk .sl])],eQ:=[(7,4)]},rt:={},ex:=5}
def JR:Code:=da (cS Tryz.f110) 28
def He:LI:={hd:={cf:=[(1,.k .str),(15,.k .sl),(16,.k (.int .i64))],refs:=[(3,3)],co:=[(3,[.lk .str,.lk .sl])],eQ:=[(7,4)]},xs:={eQ:=[(7,4)]},rt:={},ex:=7}
def KK:Code:=da (cS Tryz.f110) 33
def Fx:LI:={hd:={cf:=[(1,.k .str),(15,.k .sl),(16,.k (.int .i64)),(17,.k .sl),(18,.k (.int .i64))],refs:=[(3,3)],co:=[(3,[.lk .str,.lk .sl])],eQ:=[(7,4)]},xs:={cf:=[(1,.k .str),(15,.k .sl),(16,.k (.int .i64))],refs:=[(3,3)],co:=[(3,[.lk .str,.lk .sl])],eQ:=[(7,4)]},rt:={},ex:=9}
def HV:Code:=da (cS Tryz.f110) 37
def zc:List (Nat×LI):=[(14,Fb),(19,Et),(28,EG),(33,He),(37,Fx)]
def wt(a0_0:ByteArray)(a0_1:AV)(a1:ByteArray)(a2_0:ByteArray)(a2_1:AV):Tree :=
 .test (!(ac a0_0==ac (mk []))) (.test (ac a0_0==ac a1) (.ak (cE 4 [[VS (mk [117]),.v (.slice none 0 0),VS a2_0,a2_1]]/\((([]:List (List AV)).length)+([[VS (mk [117]),.v (.slice none 0 0),VS a2_0,a2_1]]:List (List AV)).length)*80<=140737488355328)<|.done 0 [.sl [[VS (mk [117]),.v (.slice none 0 0),VS a2_0,a2_1]]] []) (.done 0 [.sl []] [])) (.call 90 [.agg [VS a2_0,a2_1]] [] fun r1 o1=>NS r1<|.test (ac r1.ag==ac (mk [108])) (NG a0_1 1 2<|NE (a0_1.ix (1:Int))<|NG a2_1 1 2<|NE (a2_1.ix (1:Int))<|.call 110 [.agg [VS (((a0_1.ix (1:Int)).getD 0 .any).ag),((a0_1.ix (1:Int)).getD 1 .any)],VS a1,.agg [VS (((a2_1.ix (1:Int)).getD 0 .any).ag),((a2_1.ix (1:Int)).getD 1 .any)]] [] fun r2 o2=>NL r2<|.call 150 [r2,VS (mk [108]),.vec 0] [.vec 4 []] fun r3 o3=>.ak (r3=.vec 1/\(o3.tail.hO)=.vec 4 (o3.tail.hO).es)<|.done 0 [.sl ((o3.tail.hO).es)] []) (.test (ac r1.ag==ac (mk [114])) (NG a0_1 2 2<|NE (a0_1.ix (2:Int))<|NG a2_1 1 2<|NE (a2_1.ix (1:Int))<|.call 110 [.agg [VS (((a0_1.ix (2:Int)).getD 0 .any).ag),((a0_1.ix (2:Int)).getD 1 .any)],VS a1,.agg [VS (((a2_1.ix (1:Int)).getD 0 .any).ag),((a2_1.ix (1:Int)).getD 1 .any)]] [] fun r4 o4=>NL r4<|.call 150 [r4,VS (mk [114]),.vec 0] [.vec 4 []] fun r5 o5=>.ak (r5=.vec 1/\(o5.tail.hO)=.vec 4 (o5.tail.hO).es)<|.done 0 [.sl ((o5.tail.hO).es)] []) (.test (ac r1.ag==ac (mk [112])) (NG a0_1 1 2<|NE (a0_1.ix (1:Int))<|NG a2_1 1 2<|NE (a2_1.ix (1:Int))<|.call 110 [.agg [VS (((a0_1.ix (1:Int)).getD 0 .any).ag),((a0_1.ix (1:Int)).getD 1 .any)],VS a1,.agg [VS (((a2_1.ix (1:Int)).getD 0 .any).ag),((a2_1.ix (1:Int)).getD 1 .any)]] [] fun r6 o6=>NL r6<|.loop Hv Fb [VS a1,r6,VI 0] [.cells [VS a0_0,a0_1],.cells [VS a2_0,a2_1],.vec 4 []] (fun y9 q9=>NS (y9.hA)<|.ak ((q9.hO)=.cells (q9.hO).cs)<|.ak (af [.lk .str,.lk .sl] ((q9.hO).cs) 0 q9.tail)<|.ak (((q9.tail.drop 0).hO)=.cells ((q9.tail.drop 0).hO).cs)<|.ak (af [.lk .str,.lk .sl] (((q9.tail.drop 0).hO).cs) 0 ((q9.tail.drop 0).tail))<|.ak (((q9.drop 2).hO)=.vec 4 ((q9.drop 2).hO).es)<|NG ((q9.hO).cs.getD 1 .any) 2 2<|NE (((q9.hO).cs.getD 1 .any).ix (2:Int))<|NG ((q9.tail.hO).cs.getD 1 .any) 2 2<|NE (((q9.tail.hO).cs.getD 1 .any).ix (2:Int))<|.call 110 [.agg [VS (((((q9.hO).cs.getD 1 .any).ix (2:Int)).getD 0 .any).ag),((((q9.hO).cs.getD 1 .any).ix (2:Int)).getD 1 .any)],VS ((y9.hA).ag),.agg [VS (((((q9.tail.hO).cs.getD 1 .any).ix (2:Int)).getD 0 .any).ag),((((q9.tail.hO).cs.getD 1 .any).ix (2:Int)).getD 1 .any)]] [] fun r10 o10=>NL r10<|.loop K5 Et [r10,VI 0] [.cells [VS (((q9.tail.hO).cs.getD 0 .any).ag),((q9.tail.hO).cs.getD 1 .any)],.vec 4 ((q9.tail.tail.hO).es)] (fun y13 q13=>.ak (((q13.drop 0).hO)=.vec 4 ((q13.drop 0).hO).es)<|.done 0 [.sl ((q13.hO).es)] []) (fun y13 q13=>.done 0 [.any] [])) (fun y9 q9=>.done 0 [.any] [])) (NG a0_1 1 2<|l0 (a0_1.ix (1:Int))<|.test (ac (((a0_1.ix (1:Int)).hA).ag)==ac a1) (.done 0 [.sl []] []) (NG a0_1 2 2<|NE (a0_1.ix (2:Int))<|NG a2_1 1 2<|NE (a2_1.ix (1:Int))<|.call 110 [.agg [VS (((a0_1.ix (2:Int)).getD 0 .any).ag),((a0_1.ix (2:Int)).getD 1 .any)],VS a1,.agg [VS (((a2_1.ix (1:Int)).getD 0 .any).ag),((a2_1.ix (1:Int)).getD 1 .any)]] [] fun r14 o14=>NL r14<|.loop JR EG [VS a1,VS (((a0_1.ix (1:Int)).hA).ag),r14,VI 0] [.cells [VS a0_0,a0_1],.cells [VS a2_0,a2_1],.vec 4 []] (fun y17 q17=>NS (y17.hA)<|NS (y17.tail.hA)<|.ak ((q17.hO)=.cells (q17.hO).cs)<|.ak (af [.lk .str,.lk .sl] ((q17.hO).cs) 0 q17.tail)<|.ak (((q17.tail.drop 0).hO)=.cells ((q17.tail.drop 0).hO).cs)<|.ak (af [.lk .str,.lk .sl] (((q17.tail.drop 0).hO).cs) 0 ((q17.tail.drop 0).tail))<|.ak (((q17.drop 2).hO)=.vec 4 ((q17.drop 2).hO).es)<|NG ((q17.hO).cs.getD 1 .any) 2 2<|NE (((q17.hO).cs.getD 1 .any).ix (2:Int))<|NG ((q17.tail.hO).cs.getD 1 .any) 1 2<|NE (((q17.tail.hO).cs.getD 1 .any).ix (1:Int))<|.call 110 [.agg [VS (((((q17.hO).cs.getD 1 .any).ix (2:Int)).getD 0 .any).ag),((((q17.hO).cs.getD 1 .any).ix (2:Int)).getD 1 .any)],VS ((y17.tail.hA).ag),.agg [VS (((((q17.tail.hO).cs.getD 1 .any).ix (1:Int)).getD 0 .any).ag),((((q17.tail.hO).cs.getD 1 .any).ix (1:Int)).getD 1 .any)]] [] fun r18 o18=>NL r18<|.loop KK He [VS ((y17.hA).ag),r18,VI 0] [.cells [VS (((q17.hO).cs.getD 0 .any).ag),((q17.hO).cs.getD 1 .any)],.vec 4 ((q17.tail.tail.hO).es)] (fun y24 q24=>.ak (((q24.drop 0).hO)=.vec 4 ((q24.drop 0).hO).es)<|.done 0 [.sl ((q24.hO).es)] []) (fun y24 q24=>.done 0 [.any] [])) (fun y17 q17=>.done 0 [.any] []))))))
theorem Pr(a0_0:ByteArray)(a0_1:AV)(a1:ByteArray)(a2_0:ByteArray)(a2_1:AV)(ha0_1:LK.has .sl a0_1)(ha2_1:LK.has .sl a2_1)(h:dC 244 (wt a0_0 a0_1 a1 a2_0 a2_1) R):ap Tryz.prog 110 [.agg [VS a0_0,a0_1],VS a1,.agg [VS a2_0,a2_1]] [] R :=
 uQ (ah (cr (ah (aB _) (ah (bY ha0_1) aD))) (ah (aB _) (ah (cr (ah (aB _) (ah (bY ha2_1) aD))) aD))) (oQ zc Tryz.f110 h)
def GG(x1:ByteArray)(x8:AV)(x9:Int)(o3_0:ByteArray)(o3_1:AV)(o5_0:ByteArray)(o5_1:AV)(e7:List (List AV)):Tree :=
 NS (VS x1)<|NL x8<|NI (VI x9)<|.ak (Ob.cells [VS o3_0,o3_1]=.cells [VS o3_0,o3_1])<|.ak (af [.lk .str,.lk .sl] [VS o3_0,o3_1] 0 [.cells [VS o5_0,o5_1],.vec 4 e7])<|.ak (Ob.cells [VS o5_0,o5_1]=.cells [VS o5_0,o5_1])<|.ak (af [.lk .str,.lk .sl] [VS o5_0,o5_1] 0 [.vec 4 e7])<|.ak (Ob.vec 4 e7=.vec 4 e7)<|NL x8<|.test (decide (x9<(x8.aR.length:Int))) (NG x8 x9 4<|NE (x8.ix x9)<|NG o5_1 2 2<|NE (o5_1.ix (2:Int))<|.call 69 [VS (mk [112]),.sl [[VS (((x8.ix x9).getD 0 .any).ag),((x8.ix x9).getD 1 .any)],[VS (((o5_1.ix (2:Int)).getD 0 .any).ag),((o5_1.ix (2:Int)).getD 1 .any)]]] [] fun r1 o1=>NA r1<|.call 69 [VS (mk [108]),.sl [[VS ((r1.cs.getD 0 .any).ag),(r1.cs.getD 1 .any)]]] [] fun r2 o2=>NA r2<|NG x8 x9 4<|NE ((x8.ix x9).drop 2)<|.ak (cE 4 [[VS ((r2.cs.getD 0 .any).ag),(r2.cs.getD 1 .any),VS ((((x8.ix x9).drop 2).getD 0 .any).ag),(((x8.ix x9).drop 2).getD 1 .any)]]/\((e7.length)+([[VS ((r2.cs.getD 0 .any).ag),(r2.cs.getD 1 .any),VS ((((x8.ix x9).drop 2).getD 0 .any).ag),(((x8.ix x9).drop 2).getD 1 .any)]]:List (List AV)).length)*80<=140737488355328)<|.done 0 [VS x1,x8,VI (IntKind.wrap .i64 (x9+1))] [.cells [VS o3_0,o3_1],.cells [VS o5_0,o5_1],.vec 4 (e7++([[VS ((r2.cs.getD 0 .any).ag),(r2.cs.getD 1 .any),VS ((((x8.ix x9).drop 2).getD 0 .any).ag),(((x8.ix x9).drop 2).getD 1 .any)]]:List (List AV)))]) (.done 1 [VS x1] [.cells [VS o3_0,o3_1],.cells [VS o5_0,o5_1],.vec 4 e7])
abbrev G1:=cI Tryz.prog 244 Hv Fb
theorem Ks(x1:ByteArray)(x8:AV)(x9:Int)(o3_0:ByteArray)(o3_1:AV)(o5_0:ByteArray)(o5_1:AV)(e7:List (List AV))(h:l4 244 (GG x1 x8 x9 o3_0 o3_1 o5_0 o5_1 e7) G1 U):G1 [VS x1,x8,VI x9] [.cells [VS o3_0,o3_1],.cells [VS o5_0,o5_1],.vec 4 e7] U :=
 gQ zc h
def Gy(x10:AV)(x11:Int)(o5_0:ByteArray)(o5_1:AV)(e7:List (List AV)):Tree :=
 NL x10<|NI (VI x11)<|.ak (Ob.cells [VS o5_0,o5_1]=.cells [VS o5_0,o5_1])<|.ak (af [.lk .str,.lk .sl] [VS o5_0,o5_1] 0 [.vec 4 e7])<|.ak (Ob.vec 4 e7=.vec 4 e7)<|NL x10<|.test (decide (x11<(x10.aR.length:Int))) (NG o5_1 1 2<|NE (o5_1.ix (1:Int))<|NG x10 x11 4<|NE (x10.ix x11)<|.call 69 [VS (mk [112]),.sl [[VS (((o5_1.ix (1:Int)).getD 0 .any).ag),((o5_1.ix (1:Int)).getD 1 .any)],[VS (((x10.ix x11).getD 0 .any).ag),((x10.ix x11).getD 1 .any)]]] [] fun r1 o1=>NA r1<|.call 69 [VS (mk [114]),.sl [[VS ((r1.cs.getD 0 .any).ag),(r1.cs.getD 1 .any)]]] [] fun r2 o2=>NA r2<|NG x10 x11 4<|NE ((x10.ix x11).drop 2)<|.ak (cE 4 [[VS ((r2.cs.getD 0 .any).ag),(r2.cs.getD 1 .any),VS ((((x10.ix x11).drop 2).getD 0 .any).ag),(((x10.ix x11).drop 2).getD 1 .any)]]/\((e7.length)+([[VS ((r2.cs.getD 0 .any).ag),(r2.cs.getD 1 .any),VS ((((x10.ix x11).drop 2).getD 0 .any).ag),(((x10.ix x11).drop 2).getD 1 .any)]]:List (List AV)).length)*80<=140737488355328)<|.done 0 [x10,VI (IntKind.wrap .i64 (x11+1))] [.cells [VS o5_0,o5_1],.vec 4 (e7++([[VS ((r2.cs.getD 0 .any).ag),(r2.cs.getD 1 .any),VS ((((x10.ix x11).drop 2).getD 0 .any).ag),(((x10.ix x11).drop 2).getD 1 .any)]]:List (List AV)))]) (.done 1 [] [.vec 4 e7])
abbrev Eh:=cI Tryz.prog 244 K5 Et
theorem HC(x10:AV)(x11:Int)(o5_0:ByteArray)(o5_1:AV)(e7:List (List AV))(h:l4 244 (Gy x10 x11 o5_0 o5_1 e7) Eh U):Eh [x10,VI x11] [.cells [VS o5_0,o5_1],.vec 4 e7] U :=
 gQ zc h
def Hd(x1:ByteArray)(x12:ByteArray)(x13:AV)(x14:Int)(o3_0:ByteArray)(o3_1:AV)(o5_0:ByteArray)(o5_1:AV)(e7:List (List AV)):Tree :=
 NS (VS x1)<|NS (VS x12)<|NL x13<|NI (VI x14)<|.ak (Ob.cells [VS o3_0,o3_1]=.cells [VS o3_0,o3_1])<|.ak (af [.lk .str,.lk .sl] [VS o3_0,o3_1] 0 [.cells [VS o5_0,o5_1],.vec 4 e7])<|.ak (Ob.cells [VS o5_0,o5_1]=.cells [VS o5_0,o5_1])<|.ak (af [.lk .str,.lk .sl] [VS o5_0,o5_1] 0 [.vec 4 e7])<|.ak (Ob.vec 4 e7=.vec 4 e7)<|NL x13<|.test (decide (x14<(x13.aR.length:Int))) (NG x13 x14 4<|NE (x13.ix x14)<|.call 69 [VS (mk [108]),.sl [[VS (((x13.ix x14).getD 0 .any).ag),((x13.ix x14).getD 1 .any)]]] [] fun r1 o1=>NA r1<|.call 69 [VS (mk [102]),.sl [[VS ((r1.cs.getD 0 .any).ag),(r1.cs.getD 1 .any)]]] [] fun r2 o2=>NA r2<|NG x13 x14 4<|NE ((x13.ix x14).drop 2)<|.ak (cE 4 [[VS ((r2.cs.getD 0 .any).ag),(r2.cs.getD 1 .any),VS ((((x13.ix x14).drop 2).getD 0 .any).ag),(((x13.ix x14).drop 2).getD 1 .any)]]/\((e7.length)+([[VS ((r2.cs.getD 0 .any).ag),(r2.cs.getD 1 .any),VS ((((x13.ix x14).drop 2).getD 0 .any).ag),(((x13.ix x14).drop 2).getD 1 .any)]]:List (List AV)).length)*80<=140737488355328)<|.done 0 [VS x1,VS x12,x13,VI (IntKind.wrap .i64 (x14+1))] [.cells [VS o3_0,o3_1],.cells [VS o5_0,o5_1],.vec 4 (e7++([[VS ((r2.cs.getD 0 .any).ag),(r2.cs.getD 1 .any),VS ((((x13.ix x14).drop 2).getD 0 .any).ag),(((x13.ix x14).drop 2).getD 1 .any)]]:List (List AV)))]) (.done 1 [VS x1,VS x12] [.cells [VS o3_0,o3_1],.cells [VS o5_0,o5_1],.vec 4 e7])
abbrev GJ:=cI Tryz.prog 244 JR EG
theorem KY(x1:ByteArray)(x12:ByteArray)(x13:AV)(x14:Int)(o3_0:ByteArray)(o3_1:AV)(o5_0:ByteArray)(o5_1:AV)(e7:List (List AV))(h:l4 244 (Hd x1 x12 x13 x14 o3_0 o3_1 o5_0 o5_1 e7) GJ U):GJ [VS x1,VS x12,x13,VI x14] [.cells [VS o3_0,o3_1],.cells [VS o5_0,o5_1],.vec 4 e7] U :=
 gQ zc h
def E6(x1:ByteArray)(x15:AV)(x16:Int)(o3_0:ByteArray)(o3_1:AV)(e7:List (List AV)):Tree :=
 NS (VS x1)<|NL x15<|NI (VI x16)<|.ak (Ob.cells [VS o3_0,o3_1]=.cells [VS o3_0,o3_1])<|.ak (af [.lk .str,.lk .sl] [VS o3_0,o3_1] 0 [.vec 4 e7])<|.ak (Ob.vec 4 e7=.vec 4 e7)<|NL x15<|.test (decide (x16<(x15.aR.length:Int))) (NG x15 x16 4<|NE ((x15.ix x16).drop 2)<|.call 110 [.agg [VS o3_0,o3_1],VS x1,.agg [VS ((((x15.ix x16).drop 2).getD 0 .any).ag),(((x15.ix x16).drop 2).getD 1 .any)]] [] fun r1 o1=>NL r1<|.loop HV Fx [VS x1,x15,VI x16,r1,VI 0] [.cells [VS o3_0,o3_1],.vec 4 e7] (fun y2 q2=>NS (y2.hA)<|NL (y2.tail.hA)<|NI (y2.tail.tail.hA)<|.ak ((q2.hO)=.cells (q2.hO).cs)<|.ak (af [.lk .str,.lk .sl] ((q2.hO).cs) 0 q2.tail)<|.ak (((q2.drop 1).hO)=.vec 4 ((q2.drop 1).hO).es)<|.done 0 [VS ((y2.hA).ag),(y2.tail.hA),VI (IntKind.wrap .i64 (((y2.tail.tail.hA).toInt)+1))] [.cells [VS (((q2.hO).cs.getD 0 .any).ag),((q2.hO).cs.getD 1 .any)],.vec 4 ((q2.tail.hO).es)]) (fun y2 q2=>.done 2 [] [])) (.done 1 [] [.vec 4 e7])
abbrev EE:=cI Tryz.prog 244 KK He
theorem I0(x1:ByteArray)(x15:AV)(x16:Int)(o3_0:ByteArray)(o3_1:AV)(e7:List (List AV))(h:l4 244 (E6 x1 x15 x16 o3_0 o3_1 e7) EE U):EE [VS x1,x15,VI x16] [.cells [VS o3_0,o3_1],.vec 4 e7] U :=
 gQ zc h
def FX(x1:ByteArray)(x15:AV)(x16:Int)(x17:AV)(x18:Int)(o3_0:ByteArray)(o3_1:AV)(e7:List (List AV)):Tree :=
 NS (VS x1)<|NL x15<|NI (VI x16)<|NL x17<|NI (VI x18)<|.ak (Ob.cells [VS o3_0,o3_1]=.cells [VS o3_0,o3_1])<|.ak (af [.lk .str,.lk .sl] [VS o3_0,o3_1] 0 [.vec 4 e7])<|.ak (Ob.vec 4 e7=.vec 4 e7)<|NL x17<|.test (decide (x18<(x17.aR.length:Int))) (NG x15 x16 4<|NE (x15.ix x16)<|NG x17 x18 4<|NE (x17.ix x18)<|.call 69 [VS (mk [112]),.sl [[VS (((x15.ix x16).getD 0 .any).ag),((x15.ix x16).getD 1 .any)],[VS (((x17.ix x18).getD 0 .any).ag),((x17.ix x18).getD 1 .any)]]] [] fun r1 o1=>NA r1<|.call 69 [VS (mk [114]),.sl [[VS ((r1.cs.getD 0 .any).ag),(r1.cs.getD 1 .any)]]] [] fun r2 o2=>NA r2<|.call 69 [VS (mk [102]),.sl [[VS ((r2.cs.getD 0 .any).ag),(r2.cs.getD 1 .any)]]] [] fun r3 o3=>NA r3<|NG x17 x18 4<|NE ((x17.ix x18).drop 2)<|.ak (cE 4 [[VS ((r3.cs.getD 0 .any).ag),(r3.cs.getD 1 .any),VS ((((x17.ix x18).drop 2).getD 0 .any).ag),(((x17.ix x18).drop 2).getD 1 .any)]]/\((e7.length)+([[VS ((r3.cs.getD 0 .any).ag),(r3.cs.getD 1 .any),VS ((((x17.ix x18).drop 2).getD 0 .any).ag),(((x17.ix x18).drop 2).getD 1 .any)]]:List (List AV)).length)*80<=140737488355328)<|.done 0 [VS x1,x15,VI x16,x17,VI (IntKind.wrap .i64 (x18+1))] [.cells [VS o3_0,o3_1],.vec 4 (e7++([[VS ((r3.cs.getD 0 .any).ag),(r3.cs.getD 1 .any),VS ((((x17.ix x18).drop 2).getD 0 .any).ag),(((x17.ix x18).drop 2).getD 1 .any)]]:List (List AV)))]) (.done 1 [VS x1,x15,VI x16] [.cells [VS o3_0,o3_1],.vec 4 e7])
abbrev Fw:=cI Tryz.prog 244 HV Fx
theorem IE(x1:ByteArray)(x15:AV)(x16:Int)(x17:AV)(x18:Int)(o3_0:ByteArray)(o3_1:AV)(e7:List (List AV))(h:l4 244 (FX x1 x15 x16 x17 x18 o3_0 o3_1 e7) Fw U):Fw [VS x1,x15,VI x16,x17,VI x18] [.cells [VS o3_0,o3_1],.vec 4 e7] U :=
 gQ zc h
def Li(a0:ByteArray)(a1:ByteArray):Tree :=
 .test (decide ((ae a0:Int)≥(1:Int))) (.test (decide ((ae a0:Int)<=(3:Int))) (.ak (0<=(0:Int)/\(0:Int)<=(1:Int)/\(1:Int)<=(ae a0:Int))<|.call 151 [VS a1,VS (ca a0 (bW 0) (bW 1))] [] fun r1 o1=>NB r1<|.test r1.toBool (.ak (0<=(1:Int)/\(1:Int)<=(ae a0:Int)/\(ae a0:Int)<=(ae a0:Int))<|.call 152 [VS (ca a0 (bW 1) (bW (ae a0:Int))),VS (mk [48,49,50,51,52,53,54,55,56,57])] [] fun r2 o2=>NS r2<|.done 0 [VB (ac r2.ag==ac (mk []))] []) (.done 0 [VB false] [])) (.done 0 [VB false] [])) (.done 0 [VB false] [])
theorem Od(a0:ByteArray)(a1:ByteArray)(h:dC 25 (Li a0 a1) R):ap Tryz.prog 111 [VS a0,VS a1] [] R :=
 uQ (ah (aB _) (ah (aB _) aD)) (oQ [] Tryz.f111 h)
def CY(a0_0:ByteArray)(a0_1:AV)(a1_0:AV)(a1_1:AV):Tree :=
 NP a0_1<|.test (!a0_1.isNil) (NZ a1_0<|NZ a1_0<|.ak (LK.has (.int .u8) (a1_0.deref.hA)/\1<=a1_0.deref.length)<|.test (((a1_0.deref.hA).toInt)==(98:Int)) (.call 133 [.agg [a1_0,a1_1]] [] fun r1 o1=>NP r1<|.ak (AV.qK r1/\AV.qK a0_1)<|.done 0 [VB (AV.BO r1 a0_1)] []) (.done 0 [VB false] [])) (NZ a1_0<|NZ a1_0<|.ak (LK.has (.int .u8) (a1_0.deref.hA)/\1<=a1_0.deref.length)<|.test (((a1_0.deref.hA).toInt)==(110:Int)) (NZ a1_0<|NZ a1_0<|l0 (a1_0.deref.drop 1)<|.done 0 [VB (ac (((a1_0.deref.drop 1).hA).ag)==ac a0_0)] []) (.done 0 [VB false] []))
theorem PD(a0_0:ByteArray)(a0_1:AV)(a1_0:AV)(a1_1:AV)(ha0_1:LK.has .ptr a0_1)(ha1_0:LK.has .ptr a1_0)(ha1_1:LK.has .ptr a1_1)(h:dC 37 (CY a0_0 a0_1 a1_0 a1_1) R):ap Tryz.prog 112 [.agg [VS a0_0,a0_1],.agg [a1_0,a1_1]] [] R :=
 uQ (ah (cr (ah (aB _) (ah (bA ha0_1) aD))) (ah (cr (ah (bA ha1_0) (ah (bA ha1_1) aD))) aD)) (oQ [] Tryz.f112 h)
def FW:LI:={hd:={cf:=[(7,.k .sl),(8,.k (.int .i64)),(9,.k (.int .i64))],refs:=[(2,1)],co:=[(0,[.lk .ptr]),(1,[.vec 2])],BR:=[(1,114,[0])]},xs:={co:=[(0,[.lk .ptr]),(1,[.vec 2])]},rt:={co:=[(0,[.lk .ptr]),(1,[.vec 2])]},ex:=0,fx:=[0,1]}
def Hs:Code:=da (cS Tryz.f113) 1
def JX:List (Nat×LI):=[(1,FW)]
def JE(a0:AV)(a1_0_0:AV)(e2_0:List (List AV)):Tree :=
 NL a0<|.loop Hs FW [a0,VI (a0.aR.length:Int),VI 0] [.cells [a1_0_0],.cells [.any],.vec 2 e2_0] (fun y2 q2=>.ak ((q2.hO)=.cells (q2.hO).cs)<|.ak (af [.lk .ptr] ((q2.hO).cs) 0 q2.tail)<|.ak (((q2.tail.drop 0).hO)=.cells ((q2.tail.drop 0).hO).cs)<|.ak (af [.vec 2] (((q2.tail.drop 0).hO).cs) 0 ((q2.tail.drop 0).tail))<|.done 0 [.any] [.cells [((q2.hO).cs.getD 0 .any)],.cells [.vec 2],.vec 2 ((q2.tail.tail.hO).es)]) (fun y2 q2=>.ak ((q2.hO)=.cells (q2.hO).cs)<|.ak (af [.lk .ptr] ((q2.hO).cs) 0 q2.tail)<|.ak (((q2.tail.drop 0).hO)=.cells ((q2.tail.drop 0).hO).cs)<|.ak (af [.vec 2] (((q2.tail.drop 0).hO).cs) 0 ((q2.tail.drop 0).tail))<|.done 0 [.any] [.cells [((q2.hO).cs.getD 0 .any)],.cells [.vec 2],.vec 2 ((q2.tail.tail.hO).es)])
theorem OI(a0:AV)(a1_0_0:AV)(e2_0:List (List AV))(ha0:LK.has .sl a0)(ha1_0_0:LK.has .ptr a1_0_0)(h:dC 24 (JE a0 a1_0_0 e2_0) R):ap Tryz.prog 113 [a0,.fn 114 [.ref 0 0],.ref 1 0] [.cells [a1_0_0],.cells [.vec 2],.vec 2 e2_0] R :=
 ap.nS (bw (cc (ah (bA ha1_0_0) aD)) (bw (cc (ah (aB _) aD)) (bw (gv _) cx))) (ap.up (ah (bY ha0) (ah (aB _) (ah (aB _) aD))) (oF JX {mu:=[(1,.fn [some (.obj [.lk .ptr])]),(2,.one (.obj [.vec 2]))],own:=[]} Tryz.f113 h))
def GU(x7:AV)(x8:Int)(x9:Int)(o0_0:AV)(o1_0:List (List AV)):Tree :=
 NL x7<|NI (VI x8)<|NI (VI x9)<|.ak (Ob.cells [o0_0]=.cells [o0_0])<|.ak (af [.lk .ptr] [o0_0] 0 [.cells [.any],.vec 2 o1_0])<|.ak (Ob.cells [.any]=.cells [.any])<|.ak (af [.vec 2] [.any] 0 [.vec 2 o1_0])<|.test (decide (x9<x8)) (NG x7 x9 2<|.ak (bz [.ptr,.ptr] (x7.ix x9) 0/\2<=(x7.ix x9).length)<|.call 114 [((x7.ix x9).getD 0 .any),.ref 0 0] [.cells [o0_0]] fun r1 o1=>.ak ((o1.hO)=.cells (o1.hO).cs)<|.ak (aM [.lk .ptr] ((o1.hO).cs) 0 1 o1.tail)<|NP r1<|.ak (cE 2 [[r1,((x7.ix x9).getD 1 .any)]]/\((o1_0.length)+([[r1,((x7.ix x9).getD 1 .any)]]:List (List AV)).length)*16<=140737488355328)<|.done 0 [x7,VI x8,VI (IntKind.wrap .i64 (x9+1))] [.cells [((o1.hO).cs.getD 0 .any)],.cells [.any],.vec 2 (o1_0++([[r1,((x7.ix x9).getD 1 .any)]]:List (List AV)))]) (.done 1 [] [.cells [o0_0],.cells [.any],.vec 2 o1_0])
abbrev Gc:=cI Tryz.prog 24 Hs FW
theorem I2(x7:AV)(x8:Int)(x9:Int)(o0_0:AV)(o1_0:List (List AV))(h:l4 24 (GU x7 x8 x9 o0_0 o1_0) Gc U):Gc [x7,VI x8,VI x9] [.cells [o0_0],.cells [.any],.vec 2 o1_0] U :=
 gQ JX h
def Fq:LI:={hd:={cf:=[(7,.k .sl),(8,.k (.int .i64)),(9,.k (.int .i64))],refs:=[(2,1)],co:=[(0,[.lk .ptr]),(1,[.vec 2])],BR:=[(1,115,[0])]},xs:={co:=[(0,[.lk .ptr]),(1,[.vec 2])]},rt:={co:=[(0,[.lk .ptr]),(1,[.vec 2])]},ex:=0,fx:=[0,1]}
def Lq:Code:=da (cS Tryz.f113) 1
def JH:List (Nat×LI):=[(1,Fq)]
def IN(a0:AV)(a1_0_0:AV)(e2_0:List (List AV)):Tree :=
 NL a0<|.loop Lq Fq [a0,VI (a0.aR.length:Int),VI 0] [.cells [a1_0_0],.cells [.any],.vec 2 e2_0] (fun y2 q2=>.ak ((q2.hO)=.cells (q2.hO).cs)<|.ak (af [.lk .ptr] ((q2.hO).cs) 0 q2.tail)<|.ak (((q2.tail.drop 0).hO)=.cells ((q2.tail.drop 0).hO).cs)<|.ak (af [.vec 2] (((q2.tail.drop 0).hO).cs) 0 ((q2.tail.drop 0).tail))<|.done 0 [.any] [.cells [((q2.hO).cs.getD 0 .any)],.cells [.vec 2],.vec 2 ((q2.tail.tail.hO).es)]) (fun y2 q2=>.ak ((q2.hO)=.cells (q2.hO).cs)<|.ak (af [.lk .ptr] ((q2.hO).cs) 0 q2.tail)<|.ak (((q2.tail.drop 0).hO)=.cells ((q2.tail.drop 0).hO).cs)<|.ak (af [.vec 2] (((q2.tail.drop 0).hO).cs) 0 ((q2.tail.drop 0).tail))<|.done 0 [.any] [.cells [((q2.hO).cs.getD 0 .any)],.cells [.vec 2],.vec 2 ((q2.tail.tail.hO).es)])
theorem PH(a0:AV)(a1_0_0:AV)(e2_0:List (List AV))(ha0:LK.has .sl a0)(ha1_0_0:LK.has .ptr a1_0_0)(h:dC 24 (IN a0 a1_0_0 e2_0) R):ap Tryz.prog 113 [a0,.fn 115 [.ref 0 0],.ref 1 0] [.cells [a1_0_0],.cells [.vec 2],.vec 2 e2_0] R :=
 ap.nS (bw (cc (ah (bA ha1_0_0) aD)) (bw (cc (ah (aB _) aD)) (bw (gv _) cx))) (ap.up (ah (bY ha0) (ah (aB _) (ah (aB _) aD))) (oF JH {mu:=[(1,.fn [some (.obj [.lk .ptr])]),(2,.one (.obj [.vec 2]))],own:=[]} Tryz.f113 h))
def FI(x7:AV)(x8:Int)(x9:Int)(o0_0:AV)(o1_0:List (List AV)):Tree :=
 NL x7<|NI (VI x8)<|NI (VI x9)<|.ak (Ob.cells [o0_0]=.cells [o0_0])<|.ak (af [.lk .ptr] [o0_0] 0 [.cells [.any],.vec 2 o1_0])<|.ak (Ob.cells [.any]=.cells [.any])<|.ak (af [.vec 2] [.any] 0 [.vec 2 o1_0])<|.test (decide (x9<x8)) (NG x7 x9 2<|.ak (bz [.ptr,.ptr] (x7.ix x9) 0/\2<=(x7.ix x9).length)<|.call 115 [((x7.ix x9).getD 0 .any),.ref 0 0] [.cells [o0_0]] fun r1 o1=>.ak ((o1.hO)=.cells (o1.hO).cs)<|.ak (aM [.lk .ptr] ((o1.hO).cs) 0 1 o1.tail)<|NP r1<|.ak (cE 2 [[r1,((x7.ix x9).getD 1 .any)]]/\((o1_0.length)+([[r1,((x7.ix x9).getD 1 .any)]]:List (List AV)).length)*16<=140737488355328)<|.done 0 [x7,VI x8,VI (IntKind.wrap .i64 (x9+1))] [.cells [((o1.hO).cs.getD 0 .any)],.cells [.any],.vec 2 (o1_0++([[r1,((x7.ix x9).getD 1 .any)]]:List (List AV)))]) (.done 1 [] [.cells [o0_0],.cells [.any],.vec 2 o1_0])
abbrev EX:=cI Tryz.prog 24 Lq Fq
theorem Jb(x7:AV)(x8:Int)(x9:Int)(o0_0:AV)(o1_0:List (List AV))(h:l4 24 (FI x7 x8 x9 o0_0 o1_0) EX U):EX [x7,VI x8,VI x9] [.cells [o0_0],.cells [.any],.vec 2 o1_0] U :=
 gQ JH h
def EP:LI:={hd:={cf:=[(7,.k .sl),(8,.k (.int .i64)),(9,.k (.int .i64))],refs:=[(2,1)],co:=[(0,[.lk .ptr]),(1,[.vec 2])],BR:=[(1,116,[0])]},xs:={co:=[(0,[.lk .ptr]),(1,[.vec 2])]},rt:={co:=[(0,[.lk .ptr]),(1,[.vec 2])]},ex:=0,fx:=[0,1]}
def K6:Code:=da (cS Tryz.f113) 1
def KF:List (Nat×LI):=[(1,EP)]
def L6(a0:AV)(a1_0_0:AV)(e2_0:List (List AV)):Tree :=
 NL a0<|.loop K6 EP [a0,VI (a0.aR.length:Int),VI 0] [.cells [a1_0_0],.cells [.any],.vec 2 e2_0] (fun y2 q2=>.ak ((q2.hO)=.cells (q2.hO).cs)<|.ak (af [.lk .ptr] ((q2.hO).cs) 0 q2.tail)<|.ak (((q2.tail.drop 0).hO)=.cells ((q2.tail.drop 0).hO).cs)<|.ak (af [.vec 2] (((q2.tail.drop 0).hO).cs) 0 ((q2.tail.drop 0).tail))<|.done 0 [.any] [.cells [((q2.hO).cs.getD 0 .any)],.cells [.vec 2],.vec 2 ((q2.tail.tail.hO).es)]) (fun y2 q2=>.ak ((q2.hO)=.cells (q2.hO).cs)<|.ak (af [.lk .ptr] ((q2.hO).cs) 0 q2.tail)<|.ak (((q2.tail.drop 0).hO)=.cells ((q2.tail.drop 0).hO).cs)<|.ak (af [.vec 2] (((q2.tail.drop 0).hO).cs) 0 ((q2.tail.drop 0).tail))<|.done 0 [.any] [.cells [((q2.hO).cs.getD 0 .any)],.cells [.vec 2],.vec 2 ((q2.tail.tail.hO).es)])
theorem O8(a0:AV)(a1_0_0:AV)(e2_0:List (List AV))(ha0:LK.has .sl a0)(ha1_0_0:LK.has .ptr a1_0_0)(h:dC 24 (L6 a0 a1_0_0 e2_0) R):ap Tryz.prog 113 [a0,.fn 116 [.ref 0 0],.ref 1 0] [.cells [a1_0_0],.cells [.vec 2],.vec 2 e2_0] R :=
 ap.nS (bw (cc (ah (bA ha1_0_0) aD)) (bw (cc (ah (aB _) aD)) (bw (gv _) cx))) (ap.up (ah (bY ha0) (ah (aB _) (ah (aB _) aD))) (oF KF {mu:=[(1,.fn [some (.obj [.lk .ptr])]),(2,.one (.obj [.vec 2]))],own:=[]} Tryz.f113 h))
def F9(x7:AV)(x8:Int)(x9:Int)(o0_0:AV)(o1_0:List (List AV)):Tree :=
 NL x7<|NI (VI x8)<|NI (VI x9)<|.ak (Ob.cells [o0_0]=.cells [o0_0])<|.ak (af [.lk .ptr] [o0_0] 0 [.cells [.any],.vec 2 o1_0])<|.ak (Ob.cells [.any]=.cells [.any])<|.ak (af [.vec 2] [.any] 0 [.vec 2 o1_0])<|.test (decide (x9<x8)) (NG x7 x9 2<|.ak (bz [.ptr,.ptr] (x7.ix x9) 0/\2<=(x7.ix x9).length)<|.call 116 [((x7.ix x9).getD 0 .any),.ref 0 0] [.cells [o0_0]] fun r1 o1=>.ak ((o1.hO)=.cells (o1.hO).cs)<|.ak (aM [.lk .ptr] ((o1.hO).cs) 0 1 o1.tail)<|NP r1<|.ak (cE 2 [[r1,((x7.ix x9).getD 1 .any)]]/\((o1_0.length)+([[r1,((x7.ix x9).getD 1 .any)]]:List (List AV)).length)*16<=140737488355328)<|.done 0 [x7,VI x8,VI (IntKind.wrap .i64 (x9+1))] [.cells [((o1.hO).cs.getD 0 .any)],.cells [.any],.vec 2 (o1_0++([[r1,((x7.ix x9).getD 1 .any)]]:List (List AV)))]) (.done 1 [] [.cells [o0_0],.cells [.any],.vec 2 o1_0])
abbrev EO:=cI Tryz.prog 24 K6 EP
theorem L8(x7:AV)(x8:Int)(x9:Int)(o0_0:AV)(o1_0:List (List AV))(h:l4 24 (F9 x7 x8 x9 o0_0 o1_0) EO U):EO [x7,VI x8,VI x9] [.cells [o0_0],.cells [.any],.vec 2 o1_0] U :=
 gQ KF h
def Gf:LI:={hd:={cf:=[(1,.c (.func (.func 117) #[] #[])),(7,.k .sl),(8,.k (.int .i64)),(9,.k (.int .i64))],refs:=[(2,0)],co:=[(0,[.vec 2])]},xs:={co:=[(0,[.vec 2])]},rt:={co:=[(0,[.vec 2])]},ex:=0,fx:=[0]}
def J0:Code:=da (cS Tryz.f113) 1
def K0:List (Nat×LI):=[(1,Gf)]
def LX(a0:AV)(e2_0:List (List AV)):Tree :=
 NL a0<|.loop J0 Gf [.v (.func (.func 117) #[] #[]),a0,VI (a0.aR.length:Int),VI 0] [.cells [.any],.vec 2 e2_0] (fun y2 q2=>.ak ((q2.hO)=.cells (q2.hO).cs)<|.ak (af [.vec 2] ((q2.hO).cs) 0 q2.tail)<|.done 0 [.any] [.cells [.vec 1],.vec 2 ((q2.tail.hO).es)]) (fun y2 q2=>.ak ((q2.hO)=.cells (q2.hO).cs)<|.ak (af [.vec 2] ((q2.hO).cs) 0 q2.tail)<|.done 0 [.any] [.cells [.vec 1],.vec 2 ((q2.tail.hO).es)])
theorem NQ(a0:AV)(e2_0:List (List AV))(ha0:LK.has .sl a0)(h:dC 24 (LX a0 e2_0) R):ap Tryz.prog 113 [a0,.v (.func (.func 117) #[] #[]),.ref 0 0] [.cells [.vec 1],.vec 2 e2_0] R :=
 ap.nS (bw (cc (ah (aB _) aD)) (bw (gv _) cx)) (ap.up (ah (bY ha0) (ah (aB _) (ah (aB _) aD))) (oF K0 {mu:=[(2,.one (.obj [.vec 2]))],own:=[]} Tryz.f113 h))
def GK(x7:AV)(x8:Int)(x9:Int)(o0_0:List (List AV)):Tree :=
 .ak (AV.v (.func (.func 117) #[] #[])=.v (.func (.func 117) #[] #[]))<|NL x7<|NI (VI x8)<|NI (VI x9)<|.ak (Ob.cells [.any]=.cells [.any])<|.ak (af [.vec 2] [.any] 0 [.vec 2 o0_0])<|.test (decide (x9<x8)) (NG x7 x9 2<|.ak (bz [.ptr,.ptr] (x7.ix x9) 0/\2<=(x7.ix x9).length)<|.call 117 [((x7.ix x9).getD 0 .any)] [] fun r1 o1=>NP r1<|.ak (cE 2 [[r1,((x7.ix x9).getD 1 .any)]]/\((o0_0.length)+([[r1,((x7.ix x9).getD 1 .any)]]:List (List AV)).length)*16<=140737488355328)<|.done 0 [.v (.func (.func 117) #[] #[]),x7,VI x8,VI (IntKind.wrap .i64 (x9+1))] [.cells [.any],.vec 2 (o0_0++([[r1,((x7.ix x9).getD 1 .any)]]:List (List AV)))]) (.done 1 [] [.cells [.any],.vec 2 o0_0])
abbrev Hj:=cI Tryz.prog 24 J0 Gf
theorem Lv(x7:AV)(x8:Int)(x9:Int)(o0_0:List (List AV))(h:l4 24 (GK x7 x8 x9 o0_0) Hj U):Hj [.v (.func (.func 117) #[] #[]),x7,VI x8,VI x9] [.cells [.any],.vec 2 o0_0] U :=
 gQ K0 h
def F0:LI:={hd:={cf:=[(7,.k .sl),(8,.k (.int .i64)),(9,.k (.int .i64))],refs:=[(2,1)],co:=[(0,[.lk .ptr,.lk .ptr]),(1,[.vec 2])],BR:=[(1,118,[0])]},xs:={co:=[(0,[.lk .ptr,.lk .ptr]),(1,[.vec 2])]},rt:={co:=[(0,[.lk .ptr,.lk .ptr]),(1,[.vec 2])]},ex:=0,fx:=[0,1]}
def Im:Code:=da (cS Tryz.f113) 1
def HF:List (Nat×LI):=[(1,F0)]
def Ju(a0:AV)(a1_0_0:AV)(a1_0_1:AV)(e2_0:List (List AV)):Tree :=
 NL a0<|.loop Im F0 [a0,VI (a0.aR.length:Int),VI 0] [.cells [a1_0_0,a1_0_1],.cells [.any],.vec 2 e2_0] (fun y2 q2=>.ak ((q2.hO)=.cells (q2.hO).cs)<|.ak (af [.lk .ptr,.lk .ptr] ((q2.hO).cs) 0 q2.tail)<|.ak (((q2.tail.drop 0).hO)=.cells ((q2.tail.drop 0).hO).cs)<|.ak (af [.vec 2] (((q2.tail.drop 0).hO).cs) 0 ((q2.tail.drop 0).tail))<|.done 0 [.any] [.cells [((q2.hO).cs.getD 0 .any),((q2.hO).cs.getD 1 .any)],.cells [.vec 2],.vec 2 ((q2.tail.tail.hO).es)]) (fun y2 q2=>.ak ((q2.hO)=.cells (q2.hO).cs)<|.ak (af [.lk .ptr,.lk .ptr] ((q2.hO).cs) 0 q2.tail)<|.ak (((q2.tail.drop 0).hO)=.cells ((q2.tail.drop 0).hO).cs)<|.ak (af [.vec 2] (((q2.tail.drop 0).hO).cs) 0 ((q2.tail.drop 0).tail))<|.done 0 [.any] [.cells [((q2.hO).cs.getD 0 .any),((q2.hO).cs.getD 1 .any)],.cells [.vec 2],.vec 2 ((q2.tail.tail.hO).es)])
theorem Og(a0:AV)(a1_0_0:AV)(a1_0_1:AV)(e2_0:List (List AV))(ha0:LK.has .sl a0)(ha1_0_0:LK.has .ptr a1_0_0)(ha1_0_1:LK.has .ptr a1_0_1)(h:dC 24 (Ju a0 a1_0_0 a1_0_1 e2_0) R):ap Tryz.prog 113 [a0,.fn 118 [.ref 0 0],.ref 1 0] [.cells [a1_0_0,a1_0_1],.cells [.vec 2],.vec 2 e2_0] R :=
 ap.nS (bw (cc (ah (bA ha1_0_0) (ah (bA ha1_0_1) aD))) (bw (cc (ah (aB _) aD)) (bw (gv _) cx))) (ap.up (ah (bY ha0) (ah (aB _) (ah (aB _) aD))) (oF HF {mu:=[(1,.fn [some (.obj [.lk .ptr,.lk .ptr])]),(2,.one (.obj [.vec 2]))],own:=[]} Tryz.f113 h))
def GI(x7:AV)(x8:Int)(x9:Int)(o0_0:AV)(o0_1:AV)(o1_0:List (List AV)):Tree :=
 NL x7<|NI (VI x8)<|NI (VI x9)<|.ak (Ob.cells [o0_0,o0_1]=.cells [o0_0,o0_1])<|.ak (af [.lk .ptr,.lk .ptr] [o0_0,o0_1] 0 [.cells [.any],.vec 2 o1_0])<|.ak (Ob.cells [.any]=.cells [.any])<|.ak (af [.vec 2] [.any] 0 [.vec 2 o1_0])<|.test (decide (x9<x8)) (NG x7 x9 2<|.ak (bz [.ptr,.ptr] (x7.ix x9) 0/\2<=(x7.ix x9).length)<|.call 118 [((x7.ix x9).getD 0 .any),.ref 0 0] [.cells [o0_0,o0_1]] fun r1 o1=>.ak ((o1.hO)=.cells (o1.hO).cs)<|.ak (aM [.lk .ptr,.lk .ptr] ((o1.hO).cs) 0 1 o1.tail)<|NP r1<|.ak (cE 2 [[r1,((x7.ix x9).getD 1 .any)]]/\((o1_0.length)+([[r1,((x7.ix x9).getD 1 .any)]]:List (List AV)).length)*16<=140737488355328)<|.done 0 [x7,VI x8,VI (IntKind.wrap .i64 (x9+1))] [.cells [((o1.hO).cs.getD 0 .any),((o1.hO).cs.getD 1 .any)],.cells [.any],.vec 2 (o1_0++([[r1,((x7.ix x9).getD 1 .any)]]:List (List AV)))]) (.done 1 [] [.cells [o0_0,o0_1],.cells [.any],.vec 2 o1_0])
abbrev FN:=cI Tryz.prog 24 Im F0
theorem IG(x7:AV)(x8:Int)(x9:Int)(o0_0:AV)(o0_1:AV)(o1_0:List (List AV))(h:l4 24 (GI x7 x8 x9 o0_0 o0_1 o1_0) FN U):FN [x7,VI x8,VI x9] [.cells [o0_0,o0_1],.cells [.any],.vec 2 o1_0] U :=
 gQ HF h
def GD(a0:AV)(a1_0:AV):Tree :=
 NZ a1_0<|NZ a1_0<|.ak (LK.has (.int .u8) (a1_0.deref.hA)/\1<=a1_0.deref.length)<|.call 95 [.v (.int .u8 ((a1_0.deref.hA).toInt)),a0] [] fun r1 o1=>NP r1<|.done 0 [r1] [.cells [a1_0]]
theorem IF(a0:AV)(a1_0:AV)(ha0:LK.has .ptr a0)(ha1_0:LK.has .ptr a1_0)(h:dC 10 (GD a0 a1_0) R):ap Tryz.prog 114 [a0,.ref 0 0] [.cells [a1_0]] R :=
 ap.nS (bw (cc (ah (bA ha1_0) aD)) cx) (ap.up (ah (bA ha0) (ah (aB _) aD)) (oF [] {mu:=[(1,.one (.obj [.lk .ptr]))],own:=[]} Tryz.f114 h))
def LO(a0:AV)(a1_0:AV):Tree :=
 NZ a1_0<|NZ a1_0<|ez (a1_0.deref.drop 3)<|.call 96 [a0,((a1_0.deref.drop 3).hA)] [] fun r1 o1=>NP r1<|.call 95 [.v (.int .u8 108),r1] [] fun r2 o2=>NP r2<|.done 0 [r2] [.cells [a1_0]]
theorem NH(a0:AV)(a1_0:AV)(ha0:LK.has .ptr a0)(ha1_0:LK.has .ptr a1_0)(h:dC 11 (LO a0 a1_0) R):ap Tryz.prog 115 [a0,.ref 0 0] [.cells [a1_0]] R :=
 ap.nS (bw (cc (ah (bA ha1_0) aD)) cx) (ap.up (ah (bA ha0) (ah (aB _) aD)) (oF [] {mu:=[(1,.one (.obj [.lk .ptr]))],own:=[]} Tryz.f115 h))
def HH(a0:AV)(a1_0:AV):Tree :=
 NZ a1_0<|NZ a1_0<|ez (a1_0.deref.drop 2)<|.call 96 [((a1_0.deref.drop 2).hA),a0] [] fun r1 o1=>NP r1<|.call 95 [.v (.int .u8 114),r1] [] fun r2 o2=>NP r2<|.done 0 [r2] [.cells [a1_0]]
theorem MR(a0:AV)(a1_0:AV)(ha0:LK.has .ptr a0)(ha1_0:LK.has .ptr a1_0)(h:dC 11 (HH a0 a1_0) R):ap Tryz.prog 116 [a0,.ref 0 0] [.cells [a1_0]] R :=
 ap.nS (bw (cc (ah (bA ha1_0) aD)) cx) (ap.up (ah (bA ha0) (ah (aB _) aD)) (oF [] {mu:=[(1,.one (.obj [.lk .ptr]))],own:=[]} Tryz.f116 h))
def KT(a0:AV):Tree :=
 .call 95 [.v (.int .u8 108),a0] [] fun r1 o1=>NP r1<|.call 95 [.v (.int .u8 102),r1] [] fun r2 o2=>NP r2<|.done 0 [r2] []
theorem N4(a0:AV)(ha0:LK.has .ptr a0)(h:dC 6 (KT a0) R):ap Tryz.prog 117 [a0] [] R :=
 uQ (ah (bA ha0) aD) (oQ [] Tryz.f117 h)
def Ic(a0:AV)(a1_0:AV)(a1_1:AV):Tree :=
 .call 96 [a1_0,a0] [] fun r1 o1=>NP r1<|.call 95 [.v (.int .u8 114),r1] [] fun r2 o2=>NP r2<|.call 95 [.v (.int .u8 102),r2] [] fun r3 o3=>NP r3<|.done 0 [r3] [.cells [a1_0,a1_1]]
theorem O1(a0:AV)(a1_0:AV)(a1_1:AV)(ha0:LK.has .ptr a0)(ha1_0:LK.has .ptr a1_0)(ha1_1:LK.has .ptr a1_1)(h:dC 10 (Ic a0 a1_0 a1_1) R):ap Tryz.prog 118 [a0,.ref 0 0] [.cells [a1_0,a1_1]] R :=
 ap.nS (bw (cc (ah (bA ha1_0) (ah (bA ha1_1) aD))) cx) (ap.up (ah (bA ha0) (ah (aB _) aD)) (oF [] {mu:=[(1,.one (.obj [.lk .ptr,.lk .ptr]))],own:=[]} Tryz.f118 h))
def L9(a0_0:AV)(a0_1:Int):Tree :=
 .call 55 [.ref 0 0,.sl [[VS (mk [40,114,101,99,32,116,32,40,43,32,49,32,40,42,32,120,32,116,41,41,41])],[VS (mk [40,114,101,99,32,116,32,40,43,32,120,32,40,42,32,116,32,116,41,41,41])],[VS (mk [40,114,101,99,32,116,32,40,43,32,49,32,40,42,32,116,32,40,42,32,120,32,116,41,41,41,41])],[VS (mk [40,114,101,99,32,116,32,40,43,32,49,32,116,41,41])],[VS (mk [40,114,101,99,32,116,32,40,42,32,120,32,40,114,101,99,32,116,49,32,40,43,32,49,32,40,42,32,116,32,116,49,41,41,41,41,41])],[VS (mk [40,114,101,99,32,116,48,32,40,43,32,40,42,32,120,32,121,41,32,40,43,32,116,48,32,40,42,32,116,48,32,116,48,41,41,41,41])],[VS (mk [40,114,101,99,32,116,32,40,43,32,121,32,40,42,32,116,32,40,42,32,116,32,116,41,41,41,41])]]] [.cells [a0_0,VI a0_1]] fun r1 o1=>.ak ((o1.hO)=.cells (o1.hO).cs)<|.ak (aM [.lk .sl,.lk (.int .i64)] ((o1.hO).cs) 0 1 o1.tail)<|NS r1<|.done 0 [VS r1.ag] [.cells [((o1.hO).cs.getD 0 .any),VI (((o1.hO).cs.getD 1 .any).toInt)]]
theorem Pt(a0_0:AV)(a0_1:Int)(ha0_0:LK.has .sl a0_0)(h:dC 6 (L9 a0_0 a0_1) R):ap Tryz.prog 119 [.ref 0 0] [.cells [a0_0,VI a0_1]] R :=
 ap.nS (bw (cc (ah (bY ha0_0) (ah (aB _) aD))) cx) (ap.up (ah (aB _) aD) (oF [] {mu:=[(0,.one (.obj [.lk .sl,.lk (.int .i64)]))],own:=[]} Tryz.f119 h))
def KJ(a0:ByteArray):Tree :=
 .call 79 [VS a0] [] fun r1 o1=>NP r1<|NP r1<|.test r1.isNil (.done 0 [.v (.pointer none)] []) (NZ r1<|NZ r1<|.ak (LK.has (.int .u8) (r1.deref.hA)/\1<=r1.deref.length)<|.test (((r1.deref.hA).toInt) != (114:Int)) (.done 0 [.v (.pointer none)] []) (.done 0 [r1] []))
theorem Nd(a0:ByteArray)(h:dC 16 (KJ a0) R):ap Tryz.prog 120 [VS a0] [] R :=
 uQ (ah (aB _) aD) (oQ [] Tryz.f120 h)
def LM(a0:ByteArray):Tree :=
 .call 103 [VS a0] [] fun r1 o1=>NP r1<|NP r1<|.test r1.isNil (.done 0 [.v (.pointer none)] []) (.call 153 [r1,.v (.slice none 0 0)] [] fun r2 o2=>NP r2<|NP r2<|.test r2.isNil (.done 0 [.v (.pointer none)] []) (.call 154 [r2] [] fun r3 o3=>NI r3<|.test (decide (r3.toInt>(400:Int))) (.done 0 [.v (.pointer none)] []) (.done 0 [r2] [])))
theorem NR(a0:ByteArray)(h:dC 19 (LM a0) R):ap Tryz.prog 121 [VS a0] [] R :=
 uQ (ah (aB _) aD) (oQ [] Tryz.f121 h)
def KB(a0:AV):Tree :=
 .call 155 [.ref 0 0] [.cells [VI 0,VB false]] fun r1 o1=>.ak ((o1.hO)=.cells (o1.hO).cs)<|.ak (aM [.lk (.int .i64),.lk .bool] ((o1.hO).cs) 0 1 o1.tail)<|NS r1<|NZ a0<|NZ a0<|ez (a0.deref.drop 3)<|.call 158 [((a0.deref.drop 3).hA),.ptr [.v (.int .u8 110),VS r1.ag,VI 0,.v (.pointer none),.v (.pointer none)],VI 0] [] fun r2 o2=>NP r2<|.call 157 [.ref 0 0,r2,VS r1.ag] [.cells [VI (((o1.hO).cs.getD 0 .any).toInt),VB (((o1.hO).cs.getD 1 .any).toBool)]] fun r3 o3=>.ak ((o3.hO)=.cells (o3.hO).cs)<|.ak (aM [.lk (.int .i64),.lk .bool] ((o3.hO).cs) 0 1 o3.tail)<|NP r3<|.call 156 [.ref 0 0,r3] [.cells [VI (((o3.hO).cs.getD 0 .any).toInt),VB (((o3.hO).cs.getD 1 .any).toBool)]] fun r4 o4=>.ak ((o4.hO)=.cells (o4.hO).cs)<|.ak (aM [.lk (.int .i64),.lk .bool] ((o4.hO).cs) 0 1 o4.tail)<|NP r4<|.test (((o4.hO).cs.getD 1 .any).toBool) (.done 0 [.cA [.v (.pointer none),VB false]] []) (.call 159 [r4,VS r1.ag,a0] [] fun r5 o5=>NP r5<|.call 156 [.ref 0 0,r5] [.cells [VI (((o4.hO).cs.getD 0 .any).toInt),VB (((o4.hO).cs.getD 1 .any).toBool)]] fun r6 o6=>.ak ((o6.hO)=.cells (o6.hO).cs)<|.ak (aM [.lk (.int .i64),.lk .bool] ((o6.hO).cs) 0 1 o6.tail)<|NP r6<|.done 0 [.cA [r6,VB (!(((o6.hO).cs.getD 1 .any).toBool))]] [])
theorem OJ(a0:AV)(ha0:LK.has .ptr a0)(h:dC 40 (KB a0) R):ap Tryz.prog 122 [a0] [] R :=
 uQ (ah (bA ha0) aD) (oQ [] Tryz.f122 h)
def IA(a0:AV):Tree :=
 .call 154 [a0] [] fun r1 o1=>NI r1<|.test (decide (r1.toInt>(400:Int))) (.done 0 [.cA [VS (mk []),VB false]] []) (.call 160 [a0] [] fun r2 o2=>NS r2<|.call 121 [VS r2.ag] [] fun r3 o3=>NP r3<|NP r3<|.test r3.isNil (.done 0 [.cA [VS (mk []),VB false]] []) (.done 0 [.cA [VS r2.ag,VB true]] []))
theorem N3(a0:AV)(ha0:LK.has .ptr a0)(h:dC 14 (IA a0) R):ap Tryz.prog 123 [a0] [] R :=
 uQ (ah (bA ha0) aD) (oQ [] Tryz.f123 h)
def I5(a0_0:ByteArray)(a0_1:AV):Tree :=
 NG a0_1 1 2<|l0 (a0_1.ix (1:Int))<|NG a0_1 2 2<|NE (a0_1.ix (2:Int))<|.call 101 [.agg [VS (((a0_1.ix (2:Int)).getD 0 .any).ag),((a0_1.ix (2:Int)).getD 1 .any)],VS (((a0_1.ix (1:Int)).hA).ag)] [] fun r1 o1=>NT r1<|.ak ((r1.comp 0)=.agg (r1.comp 0).cs/\(r1.comp 0).cs.length=2/\bz [.str,.sl] ((r1.comp 0).cs) 0)<|NB (r1.comp 1)<|.test (!((r1.comp 1).toBool)) (.done 0 [.cA [.agg [VS a0_0,a0_1],VB false]] []) (.call 161 [.agg [VS (((r1.comp 0).cs.getD 0 .any).ag),((r1.comp 0).cs.getD 1 .any)],VS (((a0_1.ix (1:Int)).hA).ag),.agg [VS a0_0,a0_1]] [] fun r2 o2=>NT r2<|.ak ((r2.comp 0)=.agg (r2.comp 0).cs/\(r2.comp 0).cs.length=2/\bz [.str,.sl] ((r2.comp 0).cs) 0)<|NB (r2.comp 1)<|.done 0 [.cA [.agg [VS (((r2.comp 0).cs.getD 0 .any).ag),((r2.comp 0).cs.getD 1 .any)],VB ((r2.comp 1).toBool)]] [])
theorem Ns(a0_0:ByteArray)(a0_1:AV)(ha0_1:LK.has .sl a0_1)(h:dC 30 (I5 a0_0 a0_1) R):ap Tryz.prog 124 [.agg [VS a0_0,a0_1]] [] R :=
 uQ (ah (cr (ah (aB _) (ah (bY ha0_1) aD))) aD) (oQ [] Tryz.f124 h)
def Ew(a0_0:AV)(a0_1:Int)(a1:AV)(a2:Int):Tree :=
 .test (decide (a2<=(0:Int))) (NL a1<|.test (decide ((a1.aR.length:Int)>(0:Int))) (.call 32 [.ref 0 0,VI 3] [.cells [a0_0,VI a0_1]] fun r1 o1=>.ak ((o1.hO)=.cells (o1.hO).cs)<|.ak (aM [.lk .sl,.lk (.int .i64)] ((o1.hO).cs) 0 1 o1.tail)<|NI r1<|.test (r1.toInt==(0:Int)) (NL a1<|.call 32 [.ref 0 0,VI (a1.aR.length:Int)] [.cells [((o1.hO).cs.getD 0 .any),VI (((o1.hO).cs.getD 1 .any).toInt)]] fun r2 o2=>.ak ((o2.hO)=.cells (o2.hO).cs)<|.ak (aM [.lk .sl,.lk (.int .i64)] ((o2.hO).cs) 0 1 o2.tail)<|NI r2<|.ak (LK.has .sl a1/\0<=r2.toInt/\r2.toInt<a1.aR.length/\(a1.aR.getD r2.toInt.toNat []).length=1)<|l0 (a1.aR.getD r2.toInt.toNat [])<|.done 0 [VS (((a1.aR.getD r2.toInt.toNat []).hA).ag)] [.cells [((o2.hO).cs.getD 0 .any),VI (((o2.hO).cs.getD 1 .any).toInt)]]) (.call 55 [.ref 0 0,.sl [[VS (mk [120])],[VS (mk [49])],[VS (mk [120])],[VS (mk [121])],[VS (mk [48])],[VS (mk [49])]]] [.cells [((o1.hO).cs.getD 0 .any),VI (((o1.hO).cs.getD 1 .any).toInt)]] fun r3 o3=>.ak ((o3.hO)=.cells (o3.hO).cs)<|.ak (aM [.lk .sl,.lk (.int .i64)] ((o3.hO).cs) 0 1 o3.tail)<|NS r3<|.done 0 [VS r3.ag] [.cells [((o3.hO).cs.getD 0 .any),VI (((o3.hO).cs.getD 1 .any).toInt)]])) (.call 55 [.ref 0 0,.sl [[VS (mk [120])],[VS (mk [49])],[VS (mk [120])],[VS (mk [121])],[VS (mk [48])],[VS (mk [49])]]] [.cells [a0_0,VI a0_1]] fun r4 o4=>.ak ((o4.hO)=.cells (o4.hO).cs)<|.ak (aM [.lk .sl,.lk (.int .i64)] ((o4.hO).cs) 0 1 o4.tail)<|NS r4<|.done 0 [VS r4.ag] [.cells [((o4.hO).cs.getD 0 .any),VI (((o4.hO).cs.getD 1 .any).toInt)]])) (.call 32 [.ref 0 0,VI 4] [.cells [a0_0,VI a0_1]] fun r5 o5=>.ak ((o5.hO)=.cells (o5.hO).cs)<|.ak (aM [.lk .sl,.lk (.int .i64)] ((o5.hO).cs) 0 1 o5.tail)<|NI r5<|.test (r5.toInt==(0:Int)) (NL a1<|.test (decide ((a1.aR.length:Int)>(0:Int))) (.call 32 [.ref 0 0,VI 3] [.cells [((o5.hO).cs.getD 0 .any),VI (((o5.hO).cs.getD 1 .any).toInt)]] fun r6 o6=>.ak ((o6.hO)=.cells (o6.hO).cs)<|.ak (aM [.lk .sl,.lk (.int .i64)] ((o6.hO).cs) 0 1 o6.tail)<|NI r6<|.test (r6.toInt==(0:Int)) (NL a1<|.call 32 [.ref 0 0,VI (a1.aR.length:Int)] [.cells [((o6.hO).cs.getD 0 .any),VI (((o6.hO).cs.getD 1 .any).toInt)]] fun r7 o7=>.ak ((o7.hO)=.cells (o7.hO).cs)<|.ak (aM [.lk .sl,.lk (.int .i64)] ((o7.hO).cs) 0 1 o7.tail)<|NI r7<|.ak (LK.has .sl a1/\0<=r7.toInt/\r7.toInt<a1.aR.length/\(a1.aR.getD r7.toInt.toNat []).length=1)<|l0 (a1.aR.getD r7.toInt.toNat [])<|.done 0 [VS (((a1.aR.getD r7.toInt.toNat []).hA).ag)] [.cells [((o7.hO).cs.getD 0 .any),VI (((o7.hO).cs.getD 1 .any).toInt)]]) (.call 55 [.ref 0 0,.sl [[VS (mk [120])],[VS (mk [49])],[VS (mk [120])],[VS (mk [121])],[VS (mk [48])],[VS (mk [49])]]] [.cells [((o6.hO).cs.getD 0 .any),VI (((o6.hO).cs.getD 1 .any).toInt)]] fun r8 o8=>.ak ((o8.hO)=.cells (o8.hO).cs)<|.ak (aM [.lk .sl,.lk (.int .i64)] ((o8.hO).cs) 0 1 o8.tail)<|NS r8<|.done 0 [VS r8.ag] [.cells [((o8.hO).cs.getD 0 .any),VI (((o8.hO).cs.getD 1 .any).toInt)]])) (.call 55 [.ref 0 0,.sl [[VS (mk [120])],[VS (mk [49])],[VS (mk [120])],[VS (mk [121])],[VS (mk [48])],[VS (mk [49])]]] [.cells [((o5.hO).cs.getD 0 .any),VI (((o5.hO).cs.getD 1 .any).toInt)]] fun r9 o9=>.ak ((o9.hO)=.cells (o9.hO).cs)<|.ak (aM [.lk .sl,.lk (.int .i64)] ((o9.hO).cs) 0 1 o9.tail)<|NS r9<|.done 0 [VS r9.ag] [.cells [((o9.hO).cs.getD 0 .any),VI (((o9.hO).cs.getD 1 .any).toInt)]])) (.call 32 [.ref 0 0,VI 5] [.cells [((o5.hO).cs.getD 0 .any),VI (((o5.hO).cs.getD 1 .any).toInt)]] fun r10 o10=>.ak ((o10.hO)=.cells (o10.hO).cs)<|.ak (aM [.lk .sl,.lk (.int .i64)] ((o10.hO).cs) 0 1 o10.tail)<|NI r10<|.test (r10.toInt==(0:Int)) (.call 127 [.ref 0 0,a1,VI (IntKind.wrap .i64 (a2-1))] [.cells [((o10.hO).cs.getD 0 .any),VI (((o10.hO).cs.getD 1 .any).toInt)]] fun r11 o11=>.ak ((o11.hO)=.cells (o11.hO).cs)<|.ak (aM [.lk .sl,.lk (.int .i64)] ((o11.hO).cs) 0 1 o11.tail)<|NS r11<|.ak (ae (mk [40,43,32])+ae r11.ag<=9223372036854775807)<|.ak (ae (((mk [40,43,32]):ByteArray)++r11.ag)+ae (mk [32])<=9223372036854775807)<|.call 127 [.ref 0 0,a1,VI (IntKind.wrap .i64 (a2-1))] [.cells [((o11.hO).cs.getD 0 .any),VI (((o11.hO).cs.getD 1 .any).toInt)]] fun r12 o12=>.ak ((o12.hO)=.cells (o12.hO).cs)<|.ak (aM [.lk .sl,.lk (.int .i64)] ((o12.hO).cs) 0 1 o12.tail)<|NS r12<|.ak (ae (((((mk [40,43,32]):ByteArray)++r11.ag):ByteArray)++(mk [32]))+ae r12.ag<=9223372036854775807)<|.ak (ae (((((((mk [40,43,32]):ByteArray)++r11.ag):ByteArray)++(mk [32])):ByteArray)++r12.ag)+ae (mk [41])<=9223372036854775807)<|.done 0 [VS (((((((((mk [40,43,32]):ByteArray)++r11.ag):ByteArray)++(mk [32])):ByteArray)++r12.ag):ByteArray)++(mk [41]))] [.cells [((o12.hO).cs.getD 0 .any),VI (((o12.hO).cs.getD 1 .any).toInt)]]) (.test (r10.toInt==(1:Int)) (.call 127 [.ref 0 0,a1,VI (IntKind.wrap .i64 (a2-1))] [.cells [((o10.hO).cs.getD 0 .any),VI (((o10.hO).cs.getD 1 .any).toInt)]] fun r13 o13=>.ak ((o13.hO)=.cells (o13.hO).cs)<|.ak (aM [.lk .sl,.lk (.int .i64)] ((o13.hO).cs) 0 1 o13.tail)<|NS r13<|.ak (ae (mk [40,43,32])+ae r13.ag<=9223372036854775807)<|.ak (ae (((mk [40,43,32]):ByteArray)++r13.ag)+ae (mk [32])<=9223372036854775807)<|.call 127 [.ref 0 0,a1,VI (IntKind.wrap .i64 (a2-1))] [.cells [((o13.hO).cs.getD 0 .any),VI (((o13.hO).cs.getD 1 .any).toInt)]] fun r14 o14=>.ak ((o14.hO)=.cells (o14.hO).cs)<|.ak (aM [.lk .sl,.lk (.int .i64)] ((o14.hO).cs) 0 1 o14.tail)<|NS r14<|.ak (ae (((((mk [40,43,32]):ByteArray)++r13.ag):ByteArray)++(mk [32]))+ae r14.ag<=9223372036854775807)<|.ak (ae (((((((mk [40,43,32]):ByteArray)++r13.ag):ByteArray)++(mk [32])):ByteArray)++r14.ag)+ae (mk [41])<=9223372036854775807)<|.done 0 [VS (((((((((mk [40,43,32]):ByteArray)++r13.ag):ByteArray)++(mk [32])):ByteArray)++r14.ag):ByteArray)++(mk [41]))] [.cells [((o14.hO).cs.getD 0 .any),VI (((o14.hO).cs.getD 1 .any).toInt)]]) (.test (r10.toInt==(2:Int)) (.call 127 [.ref 0 0,a1,VI (IntKind.wrap .i64 (a2-1))] [.cells [((o10.hO).cs.getD 0 .any),VI (((o10.hO).cs.getD 1 .any).toInt)]] fun r15 o15=>.ak ((o15.hO)=.cells (o15.hO).cs)<|.ak (aM [.lk .sl,.lk (.int .i64)] ((o15.hO).cs) 0 1 o15.tail)<|NS r15<|.ak (ae (mk [40,42,32])+ae r15.ag<=9223372036854775807)<|.ak (ae (((mk [40,42,32]):ByteArray)++r15.ag)+ae (mk [32])<=9223372036854775807)<|.call 127 [.ref 0 0,a1,VI (IntKind.wrap .i64 (a2-1))] [.cells [((o15.hO).cs.getD 0 .any),VI (((o15.hO).cs.getD 1 .any).toInt)]] fun r16 o16=>.ak ((o16.hO)=.cells (o16.hO).cs)<|.ak (aM [.lk .sl,.lk (.int .i64)] ((o16.hO).cs) 0 1 o16.tail)<|NS r16<|.ak (ae (((((mk [40,42,32]):ByteArray)++r15.ag):ByteArray)++(mk [32]))+ae r16.ag<=9223372036854775807)<|.ak (ae (((((((mk [40,42,32]):ByteArray)++r15.ag):ByteArray)++(mk [32])):ByteArray)++r16.ag)+ae (mk [41])<=9223372036854775807)<|.done 0 [VS (((((((((mk [40,42,32]):ByteArray)++r15.ag):ByteArray)++(mk [32])):ByteArray)++r16.ag):ByteArray)++(mk [41]))] [.cells [((o16.hO).cs.getD 0 .any),VI (((o16.hO).cs.getD 1 .any).toInt)]]) (.test (r10.toInt==(3:Int)) (.call 127 [.ref 0 0,a1,VI (IntKind.wrap .i64 (a2-1))] [.cells [((o10.hO).cs.getD 0 .any),VI (((o10.hO).cs.getD 1 .any).toInt)]] fun r17 o17=>.ak ((o17.hO)=.cells (o17.hO).cs)<|.ak (aM [.lk .sl,.lk (.int .i64)] ((o17.hO).cs) 0 1 o17.tail)<|NS r17<|.ak (ae (mk [40,42,32])+ae r17.ag<=9223372036854775807)<|.ak (ae (((mk [40,42,32]):ByteArray)++r17.ag)+ae (mk [32])<=9223372036854775807)<|.call 127 [.ref 0 0,a1,VI (IntKind.wrap .i64 (a2-1))] [.cells [((o17.hO).cs.getD 0 .any),VI (((o17.hO).cs.getD 1 .any).toInt)]] fun r18 o18=>.ak ((o18.hO)=.cells (o18.hO).cs)<|.ak (aM [.lk .sl,.lk (.int .i64)] ((o18.hO).cs) 0 1 o18.tail)<|NS r18<|.ak (ae (((((mk [40,42,32]):ByteArray)++r17.ag):ByteArray)++(mk [32]))+ae r18.ag<=9223372036854775807)<|.ak (ae (((((((mk [40,42,32]):ByteArray)++r17.ag):ByteArray)++(mk [32])):ByteArray)++r18.ag)+ae (mk [41])<=9223372036854775807)<|.done 0 [VS (((((((((mk [40,42,32]):ByteArray)++r17.ag):ByteArray)++(mk [32])):ByteArray)++r18.ag):ByteArray)++(mk [41]))] [.cells [((o18.hO).cs.getD 0 .any),VI (((o18.hO).cs.getD 1 .any).toInt)]]) (.call 55 [.ref 0 0,.sl [[VS (mk [116])],[VS (mk [116,49])],[VS (mk [116,48])]]] [.cells [((o10.hO).cs.getD 0 .any),VI (((o10.hO).cs.getD 1 .any).toInt)]] fun r19 o19=>.ak ((o19.hO)=.cells (o19.hO).cs)<|.ak (aM [.lk .sl,.lk (.int .i64)] ((o19.hO).cs) 0 1 o19.tail)<|NS r19<|.ak (ae (mk [40,114,101,99,32])+ae r19.ag<=9223372036854775807)<|.ak (ae (((mk [40,114,101,99,32]):ByteArray)++r19.ag)+ae (mk [32,40,43,32,49,32])<=9223372036854775807)<|.call 143 [a1,VS r19.ag] [] fun r20 o20=>NL r20<|.call 127 [.ref 0 0,r20,VI (IntKind.wrap .i64 (a2-1))] [.cells [((o19.hO).cs.getD 0 .any),VI (((o19.hO).cs.getD 1 .any).toInt)]] fun r21 o21=>.ak ((o21.hO)=.cells (o21.hO).cs)<|.ak (aM [.lk .sl,.lk (.int .i64)] ((o21.hO).cs) 0 1 o21.tail)<|NS r21<|.ak (ae (((((mk [40,114,101,99,32]):ByteArray)++r19.ag):ByteArray)++(mk [32,40,43,32,49,32]))+ae r21.ag<=9223372036854775807)<|.ak (ae (((((((mk [40,114,101,99,32]):ByteArray)++r19.ag):ByteArray)++(mk [32,40,43,32,49,32])):ByteArray)++r21.ag)+ae (mk [41,41])<=9223372036854775807)<|.done 0 [VS (((((((((mk [40,114,101,99,32]):ByteArray)++r19.ag):ByteArray)++(mk [32,40,43,32,49,32])):ByteArray)++r21.ag):ByteArray)++(mk [41,41]))] [.cells [((o21.hO).cs.getD 0 .any),VI (((o21.hO).cs.getD 1 .any).toInt)]]))))))
theorem KG(a0_0:AV)(a0_1:Int)(a1:AV)(a2:Int)(ha1:LK.has .sl a1)(ha0_0:LK.has .sl a0_0)(h:dC 82 (Ew a0_0 a0_1 a1 a2) R):ap Tryz.prog 127 [.ref 0 0,a1,VI a2] [.cells [a0_0,VI a0_1]] R :=
 ap.nS (bw (cc (ah (bY ha0_0) (ah (aB _) aD))) cx) (ap.up (ah (aB _) (ah (bY ha1) (ah (aB _) aD))) (oF [] {mu:=[(0,.one (.obj [.lk .sl,.lk (.int .i64)]))],own:=[]} Tryz.f127 h))
def z7(a0_0:ByteArray)(a0_1:AV)(a1:AV):Tree :=
 .call 90 [.agg [VS a0_0,a0_1]] [] fun r1 o1=>NS r1<|.test (ac r1.ag==ac (mk [43])) (NG a0_1 1 2<|NE (a0_1.ix (1:Int))<|.call 128 [.agg [VS (((a0_1.ix (1:Int)).getD 0 .any).ag),((a0_1.ix (1:Int)).getD 1 .any)],a1] [] fun r2 o2=>NB r2<|.test r2.toBool (NG a0_1 2 2<|NE (a0_1.ix (2:Int))<|.call 128 [.agg [VS (((a0_1.ix (2:Int)).getD 0 .any).ag),((a0_1.ix (2:Int)).getD 1 .any)],a1] [] fun r3 o3=>NB r3<|.done 0 [VB r3.toBool] []) (.done 0 [VB false] [])) (.test (ac r1.ag==ac (mk [42])) (NG a0_1 1 2<|NE (a0_1.ix (1:Int))<|.call 128 [.agg [VS (((a0_1.ix (1:Int)).getD 0 .any).ag),((a0_1.ix (1:Int)).getD 1 .any)],a1] [] fun r4 o4=>NB r4<|.test r4.toBool (.done 0 [VB true] []) (NG a0_1 2 2<|NE (a0_1.ix (2:Int))<|.call 128 [.agg [VS (((a0_1.ix (2:Int)).getD 0 .any).ag),((a0_1.ix (2:Int)).getD 1 .any)],a1] [] fun r5 o5=>NB r5<|.done 0 [VB r5.toBool] [])) (.test (ac r1.ag==ac (mk [114,101,99])) (NG a0_1 2 2<|NE (a0_1.ix (2:Int))<|NG a0_1 1 2<|l0 (a0_1.ix (1:Int))<|.call 143 [a1,VS (((a0_1.ix (1:Int)).hA).ag)] [] fun r6 o6=>NL r6<|.call 128 [.agg [VS (((a0_1.ix (2:Int)).getD 0 .any).ag),((a0_1.ix (2:Int)).getD 1 .any)],r6] [] fun r7 o7=>NB r7<|.done 0 [VB r7.toBool] []) (.test (ac a0_0==ac (mk [48])) (.done 0 [VB true] []) (.call 142 [a1,VS a0_0] [] fun r8 o8=>NB r8<|.done 0 [VB r8.toBool] []))))
theorem Dh(a0_0:ByteArray)(a0_1:AV)(a1:AV)(ha0_1:LK.has .sl a0_1)(ha1:LK.has .sl a1)(h:dC 62 (z7 a0_0 a0_1 a1) R):ap Tryz.prog 128 [.agg [VS a0_0,a0_1],a1] [] R :=
 uQ (ah (cr (ah (aB _) (ah (bY ha0_1) aD))) (ah (bY ha1) aD)) (oQ [] Tryz.f128 h)
def FR:LI:={hd:={cf:=[(3,.k (.int .i64)),(4,.k (.int .i64))],refs:=[(1,1)],co:=[(1,[.lk .str,.lk .sl])]},xs:={cf:=[(3,.k (.int .i64))]},rt:={},ex:=0}
def Km:Code:=da (cS Tryz.f129) 5
def Kx:List (Nat×LI):=[(5,FR)]
def Hf(a0_0:ByteArray)(a0_1:AV):Tree :=
 .test (!(ac a0_0==ac (mk []))) (.done 0 [VI 1] []) (.loop Km FR [VI 0,VI 0] [.cells [VS a0_0,a0_1]] (fun y2 q2=>NI (y2.hA)<|.done 0 [VI ((y2.hA).toInt)] []) (fun y2 q2=>.done 0 [.any] []))
theorem H8(a0_0:ByteArray)(a0_1:AV)(ha0_1:LK.has .sl a0_1)(h:dC 24 (Hf a0_0 a0_1) R):ap Tryz.prog 129 [.agg [VS a0_0,a0_1]] [] R :=
 uQ (ah (cr (ah (aB _) (ah (bY ha0_1) aD))) aD) (oQ Kx Tryz.f129 h)
def Hb(x3:Int)(x4:Int)(o1_0:ByteArray)(o1_1:AV):Tree :=
 NI (VI x3)<|NI (VI x4)<|.ak (Ob.cells [VS o1_0,o1_1]=.cells [VS o1_0,o1_1])<|.ak (af [.lk .str,.lk .sl] [VS o1_0,o1_1] 0 [])<|NL o1_1<|.test (decide (x4<(o1_1.aR.length:Int))) (NG o1_1 x4 2<|NE (o1_1.ix x4)<|.call 129 [.agg [VS (((o1_1.ix x4).getD 0 .any).ag),((o1_1.ix x4).getD 1 .any)]] [] fun r1 o1=>NI r1<|.done 0 [VI (IntKind.wrap .i64 (x3+r1.toInt)),VI (IntKind.wrap .i64 (x4+1))] [.cells [VS o1_0,o1_1]]) (.done 1 [VI x3] [])
abbrev Eg:=cI Tryz.prog 24 Km FR
theorem LF(x3:Int)(x4:Int)(o1_0:ByteArray)(o1_1:AV)(h:l4 24 (Hb x3 x4 o1_0 o1_1) Eg U):Eg [VI x3,VI x4] [.cells [VS o1_0,o1_1]] U :=
 gQ Kx h
def KZ(a0_0:ByteArray)(a0_1:AV):Tree :=
 NG a0_1 1 2<|l0 (a0_1.ix (1:Int))<|NG a0_1 2 2<|NE (a0_1.ix (2:Int))<|.call 162 [.agg [VS (((a0_1.ix (2:Int)).getD 0 .any).ag),((a0_1.ix (2:Int)).getD 1 .any)],VS (((a0_1.ix (1:Int)).hA).ag),.agg [VS a0_0,a0_1]] [] fun r1 o1=>NB r1<|.test (!r1.toBool) (.done 0 [.cA [.agg [VS a0_0,a0_1],VB false]] []) (NG a0_1 2 2<|NE (a0_1.ix (2:Int))<|.call 163 [.agg [VS (((a0_1.ix (2:Int)).getD 0 .any).ag),((a0_1.ix (2:Int)).getD 1 .any)],VS (((a0_1.ix (1:Int)).hA).ag),.agg [VS a0_0,a0_1]] [] fun r2 o2=>NA r2<|.done 0 [.cA [.agg [VS ((r2.cs.getD 0 .any).ag),(r2.cs.getD 1 .any)],VB true]] [])
theorem NC(a0_0:ByteArray)(a0_1:AV)(ha0_1:LK.has .sl a0_1)(h:dC 26 (KZ a0_0 a0_1) R):ap Tryz.prog 130 [.agg [VS a0_0,a0_1]] [] R :=
 uQ (ah (cr (ah (aB _) (ah (bY ha0_1) aD))) aD) (oQ [] Tryz.f130 h)
def El:LI:={hd:={cf:=[(1,.k .sl),(2,.k .sl),(9,.k (.int .i64))],refs:=[(4,4),(8,8)],co:=[(4,[.lk .str,.lk .sl]),(8,[.lk .str,.lk .sl]),(0,[.vec 1,.lk (.int .i64)])]},xs:={refs:=[(4,4),(8,8)],co:=[(4,[.lk .str,.lk .sl]),(8,[.lk .str,.lk .sl]),(0,[.vec 1,.lk (.int .i64)])]},rt:={refs:=[(8,8)],co:=[(8,[.lk .str,.lk .sl]),(0,[.vec 1,.lk (.int .i64)])]},ex:=0,fx:=[0]}
def Mb:Code:=da (cS Tryz.f131) 3
def G0:LI:={hd:={cf:=[(1,.k .sl),(2,.k .sl),(10,.k .str)],refs:=[(3,0),(4,4),(8,8)],co:=[(0,[.vec 1,.lk (.int .i64)]),(4,[.lk .str,.lk .sl]),(8,[.lk .str,.lk .sl])]},xs:={cf:=[(1,.k .sl),(2,.k .sl),(10,.k .str)],refs:=[(3,0),(4,4),(8,8)],co:=[(0,[.vec 1,.lk (.int .i64)]),(4,[.lk .str,.lk .sl]),(8,[.lk .str,.lk .sl])]},rt:={co:=[(0,[.vec 1,.lk (.int .i64)])]},ex:=2,fx:=[0]}
def JO:Code:=da (cS Tryz.f131) 10
def ES:List (Nat×LI):=[(3,El),(10,G0)]
def A6(a0_0:ByteArray)(a0_1:AV)(a1:AV)(a2:AV)(e3_0:List (List AV))(a3_1:Int):Tree :=
 .test (!(ac a0_0==ac (mk []))) (NL a1<|.loop Mb El [a1,a2,VI (IntKind.wrap .i64 ((a1.aR.length:Int)-1))] [.cells [VS a0_0,a0_1],.cells [VS (mk []),.v (.slice none 0 0)],.cells [.any,VI a3_1],.vec 1 e3_0] (fun y1 q1=>.ak ((q1.hO)=.cells (q1.hO).cs)<|.ak (af [.lk .str,.lk .sl] ((q1.hO).cs) 0 q1.tail)<|.ak (((q1.tail.drop 0).hO)=.cells ((q1.tail.drop 0).hO).cs)<|.ak (af [.lk .str,.lk .sl] (((q1.tail.drop 0).hO).cs) 0 ((q1.tail.drop 0).tail))<|.ak ((((q1.tail.drop 0).tail.drop 0).hO)=.cells (((q1.tail.drop 0).tail.drop 0).hO).cs)<|.ak (af [.vec 1,.lk (.int .i64)] ((((q1.tail.drop 0).tail.drop 0).hO).cs) 0 (((q1.tail.drop 0).tail.drop 0).tail))<|.done 0 [.agg [VS (((q1.hO).cs.getD 0 .any).ag),((q1.hO).cs.getD 1 .any)]] [.cells [.vec 1,VI (((q1.tail.tail.hO).cs.getD 1 .any).toInt)],.vec 1 ((q1.tail.tail.tail.hO).es)]) (fun y1 q1=>.ak ((q1.hO)=.cells (q1.hO).cs)<|.ak (af [.lk .str,.lk .sl] ((q1.hO).cs) 0 q1.tail)<|.ak (((q1.tail.drop 0).hO)=.cells ((q1.tail.drop 0).hO).cs)<|.ak (af [.vec 1,.lk (.int .i64)] (((q1.tail.drop 0).hO).cs) 0 ((q1.tail.drop 0).tail))<|.done 0 [.agg [VS (((q1.hO).cs.getD 0 .any).ag),((q1.hO).cs.getD 1 .any)]] [.cells [.vec 1,VI (((q1.tail.hO).cs.getD 1 .any).toInt)],.vec 1 ((q1.tail.tail.hO).es)])) (.call 90 [.agg [VS a0_0,a0_1]] [] fun r2 o2=>NS r2<|.test (ac r2.ag==ac (mk [114,101,99])) (.call 54 [VI a3_1] [] fun r3 o3=>NS r3<|.ak (ae (mk [116])+ae r3.ag<=9223372036854775807)<|.loop JO G0 [a1,a2,VS (((mk [116]):ByteArray)++r3.ag)] [.cells [.any,VI a3_1],.vec 1 e3_0,.cells [VS a0_0,a0_1],.cells [VS (mk []),.v (.slice none 0 0)]] (fun y6 q6=>NL (y6.hA)<|NL (y6.tail.hA)<|NS (y6.tail.tail.hA)<|.ak ((q6.hO)=.cells (q6.hO).cs)<|.ak (af [.vec 1,.lk (.int .i64)] ((q6.hO).cs) 0 q6.tail)<|.ak (((q6.tail.drop 1).hO)=.cells ((q6.tail.drop 1).hO).cs)<|.ak (af [.lk .str,.lk .sl] (((q6.tail.drop 1).hO).cs) 0 ((q6.tail.drop 1).tail))<|.ak ((((q6.tail.drop 1).tail.drop 0).hO)=.cells (((q6.tail.drop 1).tail.drop 0).hO).cs)<|.ak (af [.lk .str,.lk .sl] ((((q6.tail.drop 1).tail.drop 0).hO).cs) 0 (((q6.tail.drop 1).tail.drop 0).tail))<|NG ((q6.tail.tail.hO).cs.getD 1 .any) 2 2<|NE (((q6.tail.tail.hO).cs.getD 1 .any).ix (2:Int))<|NG ((q6.tail.tail.hO).cs.getD 1 .any) 1 2<|l0 (((q6.tail.tail.hO).cs.getD 1 .any).ix (1:Int))<|.call 143 [(y6.hA),VS (((((q6.tail.tail.hO).cs.getD 1 .any).ix (1:Int)).hA).ag)] [] fun r7 o7=>NL r7<|.call 143 [(y6.tail.hA),VS ((y6.tail.tail.hA).ag)] [] fun r8 o8=>NL r8<|.call 131 [.agg [VS (((((q6.tail.tail.hO).cs.getD 1 .any).ix (2:Int)).getD 0 .any).ag),((((q6.tail.tail.hO).cs.getD 1 .any).ix (2:Int)).getD 1 .any)],r7,r8,.ref 0 0] [.cells [.vec 1,VI (IntKind.wrap .i64 ((((q6.hO).cs.getD 1 .any).toInt)+1))],.vec 1 ((q6.tail.hO).es)] fun r9 o9=>.ak ((o9.hO)=.cells (o9.hO).cs)<|.ak (aM [.vec 1,.lk (.int .i64)] ((o9.hO).cs) 0 1 o9.tail)<|NA r9<|.call 69 [VS (mk [114,101,99]),.sl [[VS ((y6.tail.tail.hA).ag),.v (.slice none 0 0)],[VS ((r9.cs.getD 0 .any).ag),(r9.cs.getD 1 .any)]]] [] fun r10 o10=>NA r10<|.done 0 [.agg [VS ((r10.cs.getD 0 .any).ag),(r10.cs.getD 1 .any)]] [.cells [.vec 1,VI (((o9.hO).cs.getD 1 .any).toInt)],.vec 1 ((o9.tail.hO).es)]) (fun y6 q6=>.ak ((q6.hO)=.cells (q6.hO).cs)<|.ak (af [.vec 1,.lk (.int .i64)] ((q6.hO).cs) 0 q6.tail)<|.fail)) (NG a0_1 1 2<|NE (a0_1.ix (1:Int))<|.call 131 [.agg [VS (((a0_1.ix (1:Int)).getD 0 .any).ag),((a0_1.ix (1:Int)).getD 1 .any)],a1,a2,.ref 0 0] [.cells [.vec 1,VI a3_1],.vec 1 e3_0] fun r11 o11=>.ak ((o11.hO)=.cells (o11.hO).cs)<|.ak (aM [.vec 1,.lk (.int .i64)] ((o11.hO).cs) 0 1 o11.tail)<|NA r11<|.call 90 [.agg [VS a0_0,a0_1]] [] fun r12 o12=>NS r12<|NG a0_1 2 2<|NE (a0_1.ix (2:Int))<|.call 131 [.agg [VS (((a0_1.ix (2:Int)).getD 0 .any).ag),((a0_1.ix (2:Int)).getD 1 .any)],a1,a2,.ref 0 0] [.cells [.vec 1,VI (((o11.hO).cs.getD 1 .any).toInt)],.vec 1 ((o11.tail.hO).es)] fun r13 o13=>.ak ((o13.hO)=.cells (o13.hO).cs)<|.ak (aM [.vec 1,.lk (.int .i64)] ((o13.hO).cs) 0 1 o13.tail)<|NA r13<|.call 69 [VS r12.ag,.sl [[VS ((r11.cs.getD 0 .any).ag),(r11.cs.getD 1 .any)],[VS ((r13.cs.getD 0 .any).ag),(r13.cs.getD 1 .any)]]] [] fun r14 o14=>NA r14<|.done 0 [.agg [VS ((r14.cs.getD 0 .any).ag),(r14.cs.getD 1 .any)]] [.cells [.vec 1,VI (((o13.hO).cs.getD 1 .any).toInt)],.vec 1 ((o13.tail.hO).es)]))
theorem Ds(a0_0:ByteArray)(a0_1:AV)(a1:AV)(a2:AV)(e3_0:List (List AV))(a3_1:Int)(ha0_1:LK.has .sl a0_1)(ha1:LK.has .sl a1)(ha2:LK.has .sl a2)(h:dC 113 (A6 a0_0 a0_1 a1 a2 e3_0 a3_1) R):ap Tryz.prog 131 [.agg [VS a0_0,a0_1],a1,a2,.ref 0 0] [.cells [.vec 1,VI a3_1],.vec 1 e3_0] R :=
 ap.nS (bw (cc (ah (aB _) (ah (aB _) aD))) (bw (gv _) cx)) (ap.up (ah (cr (ah (aB _) (ah (bY ha0_1) aD))) (ah (bY ha1) (ah (bY ha2) (ah (aB _) aD)))) (oF ES {mu:=[(3,.one (.obj [.vec 1,.lk (.int .i64)]))],own:=[]} Tryz.f131 h))
def Fl(x1:AV)(x2:AV)(x9:Int)(o4_0:ByteArray)(o4_1:AV)(o8_0:ByteArray)(o8_1:AV)(o0_0:List (List AV))(o0_1:Int):Tree :=
 NL x1<|NL x2<|NI (VI x9)<|.ak (Ob.cells [VS o4_0,o4_1]=.cells [VS o4_0,o4_1])<|.ak (af [.lk .str,.lk .sl] [VS o4_0,o4_1] 0 [.cells [VS o8_0,o8_1],.cells [.any,VI o0_1],.vec 1 o0_0])<|.ak (Ob.cells [VS o8_0,o8_1]=.cells [VS o8_0,o8_1])<|.ak (af [.lk .str,.lk .sl] [VS o8_0,o8_1] 0 [.cells [.any,VI o0_1],.vec 1 o0_0])<|.ak (Ob.cells [.any,VI o0_1]=.cells [.any,VI o0_1])<|.ak (af [.vec 1,.lk (.int .i64)] [.any,VI o0_1] 0 [.vec 1 o0_0])<|.test (decide (x9≥(0:Int))) (NG x1 x9 1<|l0 (x1.ix x9)<|.test (ac (((x1.ix x9).hA).ag)==ac o4_0) (NG x2 x9 1<|l0 (x2.ix x9)<|.done 2 [] [.cells [VS (((x2.ix x9).hA).ag),.v (.slice none 0 0)],.cells [.any,VI o0_1],.vec 1 o0_0]) (.done 0 [x1,x2,VI (IntKind.wrap .i64 (x9-1))] [.cells [VS o4_0,o4_1],.cells [VS o8_0,o8_1],.cells [.any,VI o0_1],.vec 1 o0_0])) (.done 1 [] [.cells [VS o4_0,o4_1],.cells [VS o8_0,o8_1],.cells [.any,VI o0_1],.vec 1 o0_0])
abbrev Ej:=cI Tryz.prog 113 Mb El
theorem Lw(x1:AV)(x2:AV)(x9:Int)(o4_0:ByteArray)(o4_1:AV)(o8_0:ByteArray)(o8_1:AV)(o0_0:List (List AV))(o0_1:Int)(h:l4 113 (Fl x1 x2 x9 o4_0 o4_1 o8_0 o8_1 o0_0 o0_1) Ej U):Ej [x1,x2,VI x9] [.cells [VS o4_0,o4_1],.cells [VS o8_0,o8_1],.cells [.any,VI o0_1],.vec 1 o0_0] U :=
 gQ ES h
def Lt(x1:AV)(x2:AV)(x10:ByteArray)(o0_0:List (List AV))(o0_1:Int)(o4_0:ByteArray)(o4_1:AV)(o8_0:ByteArray)(o8_1:AV):Tree :=
 NL x1<|NL x2<|NS (VS x10)<|.ak (Ob.cells [.any,VI o0_1]=.cells [.any,VI o0_1])<|.ak (af [.vec 1,.lk (.int .i64)] [.any,VI o0_1] 0 [.vec 1 o0_0,.cells [VS o4_0,o4_1],.cells [VS o8_0,o8_1]])<|.ak (Ob.cells [VS o4_0,o4_1]=.cells [VS o4_0,o4_1])<|.ak (af [.lk .str,.lk .sl] [VS o4_0,o4_1] 0 [.cells [VS o8_0,o8_1]])<|.ak (Ob.cells [VS o8_0,o8_1]=.cells [VS o8_0,o8_1])<|.ak (af [.lk .str,.lk .sl] [VS o8_0,o8_1] 0 [])<|.call 142 [.sl o0_0,VS x10] [] fun r1 o1=>NB r1<|.test r1.toBool (.call 54 [VI (IntKind.wrap .i64 (o0_1+1))] [] fun r2 o2=>NS r2<|.ak (ae (mk [116])+ae r2.ag<=9223372036854775807)<|.done 0 [x1,x2,VS (((mk [116]):ByteArray)++r2.ag)] [.cells [.any,VI (IntKind.wrap .i64 (o0_1+1))],.vec 1 o0_0,.cells [VS o4_0,o4_1],.cells [VS o8_0,o8_1]]) (.done 1 [x1,x2,VS x10] [.cells [.any,VI o0_1],.vec 1 o0_0,.cells [VS o4_0,o4_1],.cells [VS o8_0,o8_1]])
abbrev G3:=cI Tryz.prog 113 JO G0
theorem ME(x1:AV)(x2:AV)(x10:ByteArray)(o0_0:List (List AV))(o0_1:Int)(o4_0:ByteArray)(o4_1:AV)(o8_0:ByteArray)(o8_1:AV)(h:l4 113 (Lt x1 x2 x10 o0_0 o0_1 o4_0 o4_1 o8_0 o8_1) G3 U):G3 [x1,x2,VS x10] [.cells [.any,VI o0_1],.vec 1 o0_0,.cells [VS o4_0,o4_1],.cells [VS o8_0,o8_1]] U :=
 gQ ES h
def Mf(a0:AV):Tree :=
 .call 165 [a0] [] fun r1 o1=>NL r1<|.call 164 [r1,.v (.func (.func 166) #[] #[])] [] fun r2 o2=>NB r2<|.done 0 [VB (!r2.toBool)] []
theorem MI(a0:AV)(ha0:LK.has .ptr a0)(h:dC 7 (Mf a0) R):ap Tryz.prog 132 [a0] [] R :=
 uQ (ah (bA ha0) aD) (oQ [] Tryz.f132 h)
def E7:LI:={hd:={cf:=[(3,.k .ptr),(10,.k (.int .i64)),(11,.k (.int .i64))]},xs:={cf:=[(3,.k .ptr)]},rt:={},ex:=0}
def Ib:Code:=da (cS Tryz.f133) 3
def Mm:List (Nat×LI):=[(3,E7)]
def F8(a0_0:AV)(a0_1:AV):Tree :=
 NZ a0_0<|NZ a0_0<|.ak (LK.has (.int .i64) ((a0_0.deref.drop 2).hA)/\1<=(a0_0.deref.drop 2).length)<|.loop Ib E7 [a0_1,VI (((a0_0.deref.drop 2).hA).toInt),VI 0] [] (fun y1 q1=>NP (y1.hA)<|NZ (y1.hA)<|NZ (y1.hA)<|.ak (LK.has .ptr ((y1.hA).deref.hA)/\1<=((y1.hA).deref).length)<|.done 0 [((y1.hA).deref.hA)] []) (fun y1 q1=>.done 0 [.any] [])
theorem H9(a0_0:AV)(a0_1:AV)(ha0_0:LK.has .ptr a0_0)(ha0_1:LK.has .ptr a0_1)(h:dC 22 (F8 a0_0 a0_1) R):ap Tryz.prog 133 [.agg [a0_0,a0_1]] [] R :=
 uQ (ah (cr (ah (bA ha0_0) (ah (bA ha0_1) aD))) aD) (oQ Mm Tryz.f133 h)
def zY(x3:AV)(x10:Int)(x11:Int):Tree :=
 NP x3<|NI (VI x10)<|NI (VI x11)<|.test (decide (x11<x10)) (NZ x3<|NZ x3<|ez (x3.deref.drop 1)<|.done 0 [((x3.deref.drop 1).hA),VI x10,VI (IntKind.wrap .i64 (x11+1))] []) (.done 1 [x3] [])
abbrev B3:=cI Tryz.prog 22 Ib E7
theorem B7(x3:AV)(x10:Int)(x11:Int)(h:l4 22 (zY x3 x10 x11) B3 U):B3 [x3,VI x10,VI x11] [] U :=
 gQ Mm h
def wV(a0_0:ByteArray)(a0_1:AV):Tree :=
 .test (!(ac a0_0==ac (mk []))) (.test (ac a0_0==ac (mk [48])) (.done 0 [VB true] []) (.test (ac a0_0==ac (mk [49])) (.done 0 [VB true] []) (.call 100 [VS a0_0] [] fun r1 o1=>NB r1<|.test r1.toBool (.done 0 [VB true] []) (.call 99 [VS a0_0] [] fun r2 o2=>NB r2<|.done 0 [VB r2.toBool] [])))) (NL a0_1<|.test ((a0_1.aR.length:Int) != (3:Int)) (.done 0 [VB false] []) (.call 90 [.agg [VS a0_0,a0_1]] [] fun r3 o3=>NS r3<|.test (ac r3.ag==ac (mk [43])) (NG a0_1 1 2<|NE (a0_1.ix (1:Int))<|.call 136 [.agg [VS (((a0_1.ix (1:Int)).getD 0 .any).ag),((a0_1.ix (1:Int)).getD 1 .any)]] [] fun r4 o4=>NB r4<|.test r4.toBool (NG a0_1 2 2<|NE (a0_1.ix (2:Int))<|.call 136 [.agg [VS (((a0_1.ix (2:Int)).getD 0 .any).ag),((a0_1.ix (2:Int)).getD 1 .any)]] [] fun r5 o5=>NB r5<|.done 0 [VB r5.toBool] []) (.done 0 [VB false] [])) (.test (ac r3.ag==ac (mk [42])) (NG a0_1 1 2<|NE (a0_1.ix (1:Int))<|.call 136 [.agg [VS (((a0_1.ix (1:Int)).getD 0 .any).ag),((a0_1.ix (1:Int)).getD 1 .any)]] [] fun r6 o6=>NB r6<|.test r6.toBool (NG a0_1 2 2<|NE (a0_1.ix (2:Int))<|.call 136 [.agg [VS (((a0_1.ix (2:Int)).getD 0 .any).ag),((a0_1.ix (2:Int)).getD 1 .any)]] [] fun r7 o7=>NB r7<|.done 0 [VB r7.toBool] []) (.done 0 [VB false] [])) (.test (ac r3.ag==ac (mk [114,101,99])) (NG a0_1 1 2<|l0 (a0_1.ix (1:Int))<|.call 99 [VS (((a0_1.ix (1:Int)).hA).ag)] [] fun r8 o8=>NB r8<|.test r8.toBool (NG a0_1 2 2<|NE (a0_1.ix (2:Int))<|.call 136 [.agg [VS (((a0_1.ix (2:Int)).getD 0 .any).ag),((a0_1.ix (2:Int)).getD 1 .any)]] [] fun r9 o9=>NB r9<|.done 0 [VB r9.toBool] []) (.done 0 [VB false] [])) (.done 0 [VB false] [])))))
theorem LG(a0_0:ByteArray)(a0_1:AV)(ha0_1:LK.has .sl a0_1)(h:dC 60 (wV a0_0 a0_1) R):ap Tryz.prog 136 [.agg [VS a0_0,a0_1]] [] R :=
 uQ (ah (cr (ah (aB _) (ah (bY ha0_1) aD))) aD) (oQ [] Tryz.f136 h)
def Ek:LI:={hd:={cf:=[(0,.k .str),(1,.k (.int .i64)),(9,.k (.int .i64))],refs:=[(6,6),(8,8)],co:=[(6,[.lk .str,.lk .sl]),(8,[.lk .str,.lk .sl])]},xs:={cf:=[(0,.k .str),(1,.k (.int .i64)),(9,.k (.int .i64))],refs:=[(6,6),(8,8)],co:=[(6,[.lk .str,.lk .sl]),(8,[.lk .str,.lk .sl])]},rt:={},ex:=0}
def Mi:Code:=da (cS Tryz.f137) 6
def Hh:LI:={hd:={cf:=[(0,.k .str),(1,.k (.int .i64)),(2,.k (.int .i64))],refs:=[(6,6),(8,8)],co:=[(6,[.lk .str,.lk .sl]),(8,[.lk .str,.vec 2])]},xs:={},rt:={cf:=[(7,.k (.int .i64))],refs:=[(6,6)],co:=[(6,[.lk .str,.vec 2])]},ex:=999}
def Lm:Code:=da (cS Tryz.f137) 12
def Fu:List (Nat×LI):=[(6,Ek),(12,Hh)]
def EL(a0:ByteArray)(a1:Int)(a2:Int):Tree :=
 .test (decide (a2>(300:Int))) (.done 0 [.cA [.agg [VS (mk []),.v (.slice none 0 0)],VI (-1)]] []) (.test (decide (a1≥(ae a0:Int))) (.done 0 [.cA [.agg [VS (mk []),.v (.slice none 0 0)],VI (-1)]] []) (.ak (0<=a1/\a1<ae a0)<|.test ((bt a0 a1) != (40:Int)) (.loop Mi Ek [VS a0,VI a1,VI a1] [.cells [VS (mk []),.v (.slice none 0 0)],.cells [VS (mk []),.v (.slice none 0 0)]] (fun y2 q2=>NS (y2.hA)<|NI (y2.tail.hA)<|NI (y2.tail.tail.hA)<|.ak ((q2.hO)=.cells (q2.hO).cs)<|.ak (af [.lk .str,.lk .sl] ((q2.hO).cs) 0 q2.tail)<|.ak (((q2.tail.drop 0).hO)=.cells ((q2.tail.drop 0).hO).cs)<|.ak (af [.lk .str,.lk .sl] (((q2.tail.drop 0).hO).cs) 0 ((q2.tail.drop 0).tail))<|.ak (0<=((y2.tail.tail.hA).toInt)/\((y2.tail.tail.hA).toInt)<=((y2.tail.hA).toInt)/\((y2.tail.hA).toInt)<=(ae ((y2.hA).ag):Int))<|.test (ac (ca ((y2.hA).ag) (bW ((y2.tail.tail.hA).toInt)) (bW ((y2.tail.hA).toInt)))==ac (mk [])) (.done 0 [.cA [.agg [VS (ca ((y2.hA).ag) (bW ((y2.tail.tail.hA).toInt)) (bW ((y2.tail.hA).toInt))),((q2.tail.hO).cs.getD 1 .any)],VI (-1)]] []) (.done 0 [.cA [.agg [VS (ca ((y2.hA).ag) (bW ((y2.tail.tail.hA).toInt)) (bW ((y2.tail.hA).toInt))),((q2.tail.hO).cs.getD 1 .any)],VI ((y2.tail.hA).toInt)]] [])) (fun y2 q2=>.fail)) (.loop Lm Hh [VS a0,VI a1,VI a2] [.cells [VS (mk []),.v (.slice none 0 0)],.cells [VS (mk []),.any],.vec 2 []] (fun y5 q5=>.fail) (fun y5 q5=>NI (y5.hA)<|.ak ((q5.hO)=.cells (q5.hO).cs)<|.ak (af [.lk .str,.vec 2] ((q5.hO).cs) 0 q5.tail)<|.done 0 [.cA [.agg [VS (((q5.hO).cs.getD 0 .any).ag),.sl ((q5.tail.hO).es)],VI ((y5.hA).toInt)]] []))))
theorem HR(a0:ByteArray)(a1:Int)(a2:Int)(h:dC 87 (EL a0 a1 a2) R):ap Tryz.prog 137 [VS a0,VI a1,VI a2] [] R :=
 uQ (ah (aB _) (ah (aB _) (ah (aB _) aD))) (oQ Fu Tryz.f137 h)
def EU(x0:ByteArray)(x1:Int)(x9:Int)(o6_0:ByteArray)(o6_1:AV)(o8_0:ByteArray)(o8_1:AV):Tree :=
 NS (VS x0)<|NI (VI x1)<|NI (VI x9)<|.ak (Ob.cells [VS o6_0,o6_1]=.cells [VS o6_0,o6_1])<|.ak (af [.lk .str,.lk .sl] [VS o6_0,o6_1] 0 [.cells [VS o8_0,o8_1]])<|.ak (Ob.cells [VS o8_0,o8_1]=.cells [VS o8_0,o8_1])<|.ak (af [.lk .str,.lk .sl] [VS o8_0,o8_1] 0 [])<|.test (decide (x1<(ae x0:Int))) (.ak (0<=x1/\x1<ae x0)<|.call 172 [.v (.int .u8 (bt x0 x1))] [] fun r1 o1=>NB r1<|.test r1.toBool (.done 0 [VS x0,VI (IntKind.wrap .i64 (x1+1)),VI x9] [.cells [VS o6_0,o6_1],.cells [VS o8_0,o8_1]]) (.done 1 [VS x0,VI x1,VI x9] [.cells [VS o6_0,o6_1],.cells [VS o8_0,o8_1]])) (.done 1 [VS x0,VI x1,VI x9] [.cells [VS o6_0,o6_1],.cells [VS o8_0,o8_1]])
abbrev GN:=cI Tryz.prog 87 Mi Ek
theorem J8(x0:ByteArray)(x1:Int)(x9:Int)(o6_0:ByteArray)(o6_1:AV)(o8_0:ByteArray)(o8_1:AV)(h:l4 87 (EU x0 x1 x9 o6_0 o6_1 o8_0 o8_1) GN U):GN [VS x0,VI x1,VI x9] [.cells [VS o6_0,o6_1],.cells [VS o8_0,o8_1]] U :=
 gQ Fu h
def Ku(x0:ByteArray)(x1:Int)(x2:Int)(o6_0:ByteArray)(o6_1:AV)(o8_0:ByteArray)(o8_1:List (List AV)):Tree :=
 NS (VS x0)<|NI (VI x1)<|NI (VI x2)<|.ak (Ob.cells [VS o6_0,o6_1]=.cells [VS o6_0,o6_1])<|.ak (af [.lk .str,.lk .sl] [VS o6_0,o6_1] 0 [.cells [VS o8_0,.any],.vec 2 o8_1])<|.ak (Ob.cells [VS o8_0,.any]=.cells [VS o8_0,.any])<|.ak (af [.lk .str,.vec 2] [VS o8_0,.any] 0 [.vec 2 o8_1])<|.call 137 [VS x0,VI (IntKind.wrap .i64 (x1+1)),VI (IntKind.wrap .i64 (x2+1))] [] fun r1 o1=>NT r1<|.ak ((r1.comp 0)=.agg (r1.comp 0).cs/\(r1.comp 0).cs.length=2/\bz [.str,.sl] ((r1.comp 0).cs) 0)<|NI (r1.comp 1)<|.test (decide (((r1.comp 1).toInt)<(0:Int))) (.done 2 [VI (-1)] [.cells [VS o8_0,.any],.vec 2 o8_1]) (.test (decide (((r1.comp 1).toInt)≥(ae x0:Int))) (.done 2 [VI (-1)] [.cells [VS o8_0,.any],.vec 2 o8_1]) (.ak (cE 2 [[VS (((r1.comp 0).cs.getD 0 .any).ag),((r1.comp 0).cs.getD 1 .any)]]/\((o8_1.length)+([[VS (((r1.comp 0).cs.getD 0 .any).ag),((r1.comp 0).cs.getD 1 .any)]]:List (List AV)).length)*40<=140737488355328)<|.ak (0<=((r1.comp 1).toInt)/\((r1.comp 1).toInt)<ae x0)<|.test ((bt x0 ((r1.comp 1).toInt))==(41:Int)) (.done 2 [VI (IntKind.wrap .i64 (((r1.comp 1).toInt)+1))] [.cells [VS o8_0,.any],.vec 2 (o8_1++([[VS (((r1.comp 0).cs.getD 0 .any).ag),((r1.comp 0).cs.getD 1 .any)]]:List (List AV)))]) (.ak (0<=((r1.comp 1).toInt)/\((r1.comp 1).toInt)<ae x0)<|.test ((bt x0 ((r1.comp 1).toInt)) != (32:Int)) (.done 2 [VI (-1)] [.cells [VS o8_0,.any],.vec 2 (o8_1++([[VS (((r1.comp 0).cs.getD 0 .any).ag),((r1.comp 0).cs.getD 1 .any)]]:List (List AV)))]) (.done 0 [VS x0,VI ((r1.comp 1).toInt),VI x2] [.cells [VS o6_0,o6_1],.cells [VS o8_0,.any],.vec 2 (o8_1++([[VS (((r1.comp 0).cs.getD 0 .any).ag),((r1.comp 0).cs.getD 1 .any)]]:List (List AV)))]))))
abbrev Fm:=cI Tryz.prog 87 Lm Hh
theorem Oc(x0:ByteArray)(x1:Int)(x2:Int)(o6_0:ByteArray)(o6_1:AV)(o8_0:ByteArray)(o8_1:List (List AV))(h:l4 87 (Ku x0 x1 x2 o6_0 o6_1 o8_0 o8_1) Fm U):Fm [VS x0,VI x1,VI x2] [.cells [VS o6_0,o6_1],.cells [VS o8_0,.any],.vec 2 o8_1] U :=
 gQ Fu h
def EJ:LI:={hd:={cf:=[(1,.k .sl),(6,.k (.int .i64))],refs:=[(2,2),(4,4)],co:=[(2,[.lk .str,.lk .sl]),(4,[.lk .str,.lk .sl])]},xs:={cf:=[(1,.k .sl)],refs:=[(2,2),(4,4)],co:=[(2,[.lk .str,.lk .sl]),(4,[.lk .str,.lk .sl])]},rt:={cf:=[(5,.k .sl)],refs:=[(4,4)],co:=[(4,[.lk .str,.lk .sl])]},ex:=0}
def Lu:Code:=da (cS Tryz.f138) 2
def HK:List (Nat×LI):=[(2,EJ)]
def II(a0_0:ByteArray)(a0_1:AV)(a1:AV):Tree :=
 NL a1<|.loop Lu EJ [a1,VI (IntKind.wrap .i64 ((a1.aR.length:Int)-1))] [.cells [VS a0_0,a0_1],.cells [VS (mk []),.v (.slice none 0 0)]] (fun y1 q1=>NL (y1.hA)<|.ak ((q1.hO)=.cells (q1.hO).cs)<|.ak (af [.lk .str,.lk .sl] ((q1.hO).cs) 0 q1.tail)<|.ak (((q1.tail.drop 0).hO)=.cells ((q1.tail.drop 0).hO).cs)<|.ak (af [.lk .str,.lk .sl] (((q1.tail.drop 0).hO).cs) 0 ((q1.tail.drop 0).tail))<|.done 0 [.cA [.agg [VS (((q1.hO).cs.getD 0 .any).ag),((q1.hO).cs.getD 1 .any)],(y1.hA)]] []) (fun y1 q1=>NL (y1.hA)<|.ak ((q1.hO)=.cells (q1.hO).cs)<|.ak (af [.lk .str,.lk .sl] ((q1.hO).cs) 0 q1.tail)<|.done 0 [.cA [.agg [VS (((q1.hO).cs.getD 0 .any).ag),((q1.hO).cs.getD 1 .any)],(y1.hA)]] [])
theorem Pk(a0_0:ByteArray)(a0_1:AV)(a1:AV)(ha0_1:LK.has .sl a0_1)(ha1:LK.has .sl a1)(h:dC 34 (II a0_0 a0_1 a1) R):ap Tryz.prog 138 [.agg [VS a0_0,a0_1],a1] [] R :=
 uQ (ah (cr (ah (aB _) (ah (bY ha0_1) aD))) (ah (bY ha1) aD)) (oQ HK Tryz.f138 h)
def Gj(x1:AV)(x6:Int)(o2_0:ByteArray)(o2_1:AV)(o4_0:ByteArray)(o4_1:AV):Tree :=
 NL x1<|NI (VI x6)<|.ak (Ob.cells [VS o2_0,o2_1]=.cells [VS o2_0,o2_1])<|.ak (af [.lk .str,.lk .sl] [VS o2_0,o2_1] 0 [.cells [VS o4_0,o4_1]])<|.ak (Ob.cells [VS o4_0,o4_1]=.cells [VS o4_0,o4_1])<|.ak (af [.lk .str,.lk .sl] [VS o4_0,o4_1] 0 [])<|.test (decide (x6≥(0:Int))) (NG x1 x6 4<|l0 (x1.ix x6)<|.test (ac (((x1.ix x6).hA).ag)==ac o2_0) (NG x1 x6 4<|NE ((x1.ix x6).drop 1)<|NG x1 x6 4<|rY ((x1.ix x6).drop 3)<|.done 2 [(((x1.ix x6).drop 3).hA)] [.cells [VS ((((x1.ix x6).drop 1).getD 0 .any).ag),(((x1.ix x6).drop 1).getD 1 .any)]]) (.done 0 [x1,VI (IntKind.wrap .i64 (x6-1))] [.cells [VS o2_0,o2_1],.cells [VS o4_0,o4_1]])) (.done 1 [x1] [.cells [VS o2_0,o2_1],.cells [VS o4_0,o4_1]])
abbrev GQ:=cI Tryz.prog 34 Lu EJ
theorem Lc(x1:AV)(x6:Int)(o2_0:ByteArray)(o2_1:AV)(o4_0:ByteArray)(o4_1:AV)(h:l4 34 (Gj x1 x6 o2_0 o2_1 o4_0 o4_1) GQ U):GQ [x1,VI x6] [.cells [VS o2_0,o2_1],.cells [VS o4_0,o4_1]] U :=
 gQ HK h
def Ke(a0_0:ByteArray)(a0_1:AV)(a1:AV):Tree :=
 NG a0_1 2 2<|NE (a0_1.ix (2:Int))<|.ak (LK.has .sl a1/\cE 4 a1.aR/\((([]:List (List AV)).length)+a1.aR.length)*80<=140737488355328)<|NG a0_1 1 2<|l0 (a0_1.ix (1:Int))<|.ak (cE 4 [[VS (((a0_1.ix (1:Int)).hA).ag),VS a0_0,a0_1,a1]]/\(((([]:List (List AV))++a1.aR).length)+([[VS (((a0_1.ix (1:Int)).hA).ag),VS a0_0,a0_1,a1]]:List (List AV)).length)*80<=140737488355328)<|.done 0 [.cA [.agg [VS (((a0_1.ix (2:Int)).getD 0 .any).ag),((a0_1.ix (2:Int)).getD 1 .any)],.sl ((([]:List (List AV))++a1.aR)++([[VS (((a0_1.ix (1:Int)).hA).ag),VS a0_0,a0_1,a1]]:List (List AV)))]] []
theorem NJ(a0_0:ByteArray)(a0_1:AV)(a1:AV)(ha0_1:LK.has .sl a0_1)(ha1:LK.has .sl a1)(h:dC 23 (Ke a0_0 a0_1 a1) R):ap Tryz.prog 139 [.agg [VS a0_0,a0_1],a1] [] R :=
 uQ (ah (cr (ah (aB _) (ah (bY ha0_1) aD))) (ah (bY ha1) aD)) (oQ [] Tryz.f139 h)
def FF:LI:={hd:={cf:=[(0,.k .sl),(1,.k .str),(5,.k (.int .i64))]},xs:={},rt:={cf:=[(4,.k .bool)]},ex:=0}
def Ht:Code:=da (cS Tryz.f142) 2
def Hp:List (Nat×LI):=[(2,FF)]
def Jr(a0:AV)(a1:ByteArray):Tree :=
 .loop Ht FF [a0,VS a1,VI 0] [] (fun y1 q1=>.done 0 [VB false] []) (fun y1 q1=>NB (y1.hA)<|.done 0 [VB ((y1.hA).toBool)] [])
theorem Nl(a0:AV)(a1:ByteArray)(ha0:LK.has .sl a0)(h:dC 18 (Jr a0 a1) R):ap Tryz.prog 142 [a0,VS a1] [] R :=
 uQ (ah (bY ha0) (ah (aB _) aD)) (oQ Hp Tryz.f142 h)
def Fi(x0:AV)(x1:ByteArray)(x5:Int):Tree :=
 NL x0<|NS (VS x1)<|NI (VI x5)<|NL x0<|.test (decide (x5<(x0.aR.length:Int))) (NG x0 x5 1<|l0 (x0.ix x5)<|.test (ac (((x0.ix x5).hA).ag)==ac x1) (.done 2 [VB true] []) (.done 0 [x0,VS x1,VI (IntKind.wrap .i64 (x5+1))] [])) (.done 1 [] [])
abbrev EI:=cI Tryz.prog 18 Ht FF
theorem Mn(x0:AV)(x1:ByteArray)(x5:Int)(h:l4 18 (Fi x0 x1 x5) EI U):EI [x0,VS x1,VI x5] [] U :=
 gQ Hp h
def IY(a0:AV)(a1:ByteArray):Tree :=
 .ak (LK.has .sl a0/\cE 1 a0.aR/\((([]:List (List AV)).length)+a0.aR.length)*16<=140737488355328)<|.ak (cE 1 [[VS a1]]/\(((([]:List (List AV))++a0.aR).length)+([[VS a1]]:List (List AV)).length)*16<=140737488355328)<|.done 0 [.sl ((([]:List (List AV))++a0.aR)++([[VS a1]]:List (List AV)))] []
theorem M5(a0:AV)(a1:ByteArray)(ha0:LK.has .sl a0)(h:dC 11 (IY a0 a1) R):ap Tryz.prog 143 [a0,VS a1] [] R :=
 uQ (ah (bY ha0) (ah (aB _) aD)) (oQ [] Tryz.f143 h)
def FE:LI:={hd:={cf:=[(0,.k .str),(7,.k (.int .i64))]},xs:={},rt:={cf:=[(6,.k .bool)]},ex:=0}
def K9:Code:=da (cS Tryz.f144) 4
def IV:List (Nat×LI):=[(4,FE)]
def Ik(a0:ByteArray)(a1:Int)(a2:Int):Tree :=
 .call 87 [VI (ae a0:Int),VI 1,VI 3] [] fun r1 o1=>NB r1<|.test (!r1.toBool) (.done 0 [VB false] []) (.ak (0<=(0:Int)/\(0:Int)<ae a0)<|.test (decide ((bt a0 0)<a1)) (.done 0 [VB false] []) (.ak (0<=(0:Int)/\(0:Int)<ae a0)<|.test (decide ((bt a0 0)>a2)) (.done 0 [VB false] []) (.loop K9 FE [VS a0,VI 1] [] (fun y2 q2=>.done 0 [VB true] []) (fun y2 q2=>NB (y2.hA)<|.done 0 [VB ((y2.hA).toBool)] []))))
theorem MF(a0:ByteArray)(a1:Int)(a2:Int)(h:dC 40 (Ik a0 a1 a2) R):ap Tryz.prog 144 [VS a0,.v (.int .u8 a1),.v (.int .u8 a2)] [] R :=
 uQ (ah (aB _) (ah (aB _) (ah (aB _) aD))) (oQ IV Tryz.f144 h)
def Hi(x0:ByteArray)(x7:Int):Tree :=
 NS (VS x0)<|NI (VI x7)<|.test (decide (x7<(ae x0:Int))) (.ak (0<=x7/\x7<ae x0)<|.test (decide ((bt x0 x7)<(48:Int))) (.done 2 [VB false] []) (.ak (0<=x7/\x7<ae x0)<|.test (decide ((bt x0 x7)>(57:Int))) (.done 2 [VB false] []) (.done 0 [VS x0,VI (IntKind.wrap .i64 (x7+1))] []))) (.done 1 [] [])
abbrev E3:=cI Tryz.prog 40 K9 FE
theorem Ji(x0:ByteArray)(x7:Int)(h:l4 40 (Hi x0 x7) E3 U):E3 [VS x0,VI x7] [] U :=
 gQ IV h
def EH:LI:={hd:={cf:=[(17,.k (.int .i64))],refs:=[(4,4),(12,12),(14,14)],co:=[(4,[.lk .str,.lk .sl]),(12,[.lk .str,.lk .sl]),(14,[.lk .str,.lk .sl])],eQ:=[(16,1)]},xs:={cf:=[(17,.k (.int .i64))],refs:=[(4,4),(12,12),(14,14)],co:=[(4,[.lk .str,.lk .sl]),(12,[.lk .str,.lk .sl]),(14,[.lk .str,.lk .sl])]},rt:={},ex:=0}
def Kk:Code:=da (cS Tryz.f145) 13
def HU:List (Nat×LI):=[(13,EH)]
def Ld(a0_0:ByteArray)(a0_1:AV)(a1:ByteArray):Tree :=
 .call 78 [.agg [VS a0_0,a0_1],.sl [[VS a1,.v (.slice none 0 0)]]] [] fun r1 o1=>NA r1<|NG (r1.cs.getD 1 .any) 1 2<|l0 ((r1.cs.getD 1 .any).ix (1:Int))<|NG (r1.cs.getD 1 .any) 2 2<|NE ((r1.cs.getD 1 .any).ix (2:Int))<|.call 101 [.agg [VS ((((r1.cs.getD 1 .any).ix (2:Int)).getD 0 .any).ag),(((r1.cs.getD 1 .any).ix (2:Int)).getD 1 .any)],VS a1] [] fun r2 o2=>NT r2<|.ak ((r2.comp 0)=.agg (r2.comp 0).cs/\(r2.comp 0).cs.length=2/\bz [.str,.sl] ((r2.comp 0).cs) 0)<|NB (r2.comp 1)<|NG (r1.cs.getD 1 .any) 2 2<|NE ((r1.cs.getD 1 .any).ix (2:Int))<|.call 101 [.agg [VS ((((r1.cs.getD 1 .any).ix (2:Int)).getD 0 .any).ag),(((r1.cs.getD 1 .any).ix (2:Int)).getD 1 .any)],VS ((((r1.cs.getD 1 .any).ix (1:Int)).hA).ag)] [] fun r3 o3=>NT r3<|.ak ((r3.comp 0)=.agg (r3.comp 0).cs/\(r3.comp 0).cs.length=2/\bz [.str,.sl] ((r3.comp 0).cs) 0)<|NB (r3.comp 1)<|.test (!((r2.comp 1).toBool)) (.done 0 [.cA [.agg [VS ((r1.cs.getD 0 .any).ag),(r1.cs.getD 1 .any)],VB false]] []) (.test (!((r3.comp 1).toBool)) (.done 0 [.cA [.agg [VS ((r1.cs.getD 0 .any).ag),(r1.cs.getD 1 .any)],VB false]] []) (.call 161 [.agg [VS (((r2.comp 0).cs.getD 0 .any).ag),((r2.comp 0).cs.getD 1 .any)],VS ((((r1.cs.getD 1 .any).ix (1:Int)).hA).ag),.agg [VS ((r1.cs.getD 0 .any).ag),(r1.cs.getD 1 .any)]] [] fun r4 o4=>NT r4<|.ak ((r4.comp 0)=.agg (r4.comp 0).cs/\(r4.comp 0).cs.length=2/\bz [.str,.sl] ((r4.comp 0).cs) 0)<|NB (r4.comp 1)<|.call 161 [.agg [VS (((r3.comp 0).cs.getD 0 .any).ag),((r3.comp 0).cs.getD 1 .any)],VS ((((r1.cs.getD 1 .any).ix (1:Int)).hA).ag),.agg [VS ((r1.cs.getD 0 .any).ag),(r1.cs.getD 1 .any)]] [] fun r5 o5=>NT r5<|.ak ((r5.comp 0)=.agg (r5.comp 0).cs/\(r5.comp 0).cs.length=2/\bz [.str,.sl] ((r5.comp 0).cs) 0)<|NB (r5.comp 1)<|.test (!((r4.comp 1).toBool)) (.done 0 [.cA [.agg [VS ((r1.cs.getD 0 .any).ag),(r1.cs.getD 1 .any)],VB false]] []) (.test (!((r5.comp 1).toBool)) (.done 0 [.cA [.agg [VS ((r1.cs.getD 0 .any).ag),(r1.cs.getD 1 .any)],VB false]] []) (.call 98 [.agg [VS (((r5.comp 0).cs.getD 0 .any).ag),((r5.comp 0).cs.getD 1 .any)],.sl [],.vec 0] [.vec 1 []] fun r6 o6=>.ak (r6=.vec 1/\(o6.tail.hO)=.vec 1 (o6.tail.hO).es)<|.call 98 [.agg [VS (((r4.comp 0).cs.getD 0 .any).ag),((r4.comp 0).cs.getD 1 .any)],.sl [],.vec 0] [.vec 1 ((o6.tail.hO).es)] fun r7 o7=>.ak (r7=.vec 1/\(o7.tail.hO)=.vec 1 (o7.tail.hO).es)<|.loop Kk EH [VI 0] [.cells [VS (mk []),.v (.slice none 0 0)],.cells [VS (((r4.comp 0).cs.getD 0 .any).ag),((r4.comp 0).cs.getD 1 .any)],.cells [VS (((r5.comp 0).cs.getD 0 .any).ag),((r5.comp 0).cs.getD 1 .any)],.vec 1 ((o7.tail.hO).es)] (fun y10 q10=>NI (y10.hA)<|.ak ((q10.hO)=.cells (q10.hO).cs)<|.ak (af [.lk .str,.lk .sl] ((q10.hO).cs) 0 q10.tail)<|.ak (((q10.tail.drop 0).hO)=.cells ((q10.tail.drop 0).hO).cs)<|.ak (af [.lk .str,.lk .sl] (((q10.tail.drop 0).hO).cs) 0 ((q10.tail.drop 0).tail))<|.ak ((((q10.tail.drop 0).tail.drop 0).hO)=.cells (((q10.tail.drop 0).tail.drop 0).hO).cs)<|.ak (af [.lk .str,.lk .sl] ((((q10.tail.drop 0).tail.drop 0).hO).cs) 0 (((q10.tail.drop 0).tail.drop 0).tail))<|.call 54 [VI ((y10.hA).toInt)] [] fun r11 o11=>NS r11<|.ak (ae (mk [116])+ae r11.ag<=9223372036854775807)<|.call 69 [VS (mk [42]),.sl [[VS (((q10.tail.tail.hO).cs.getD 0 .any).ag),((q10.tail.tail.hO).cs.getD 1 .any)],[VS (((mk [116]):ByteArray)++r11.ag),.v (.slice none 0 0)]]] [] fun r12 o12=>NA r12<|.call 69 [VS (mk [43]),.sl [[VS (((q10.tail.hO).cs.getD 0 .any).ag),((q10.tail.hO).cs.getD 1 .any)],[VS ((r12.cs.getD 0 .any).ag),(r12.cs.getD 1 .any)]]] [] fun r13 o13=>NA r13<|.call 69 [VS (mk [114,101,99]),.sl [[VS (((mk [116]):ByteArray)++r11.ag),.v (.slice none 0 0)],[VS ((r13.cs.getD 0 .any).ag),(r13.cs.getD 1 .any)]]] [] fun r14 o14=>NA r14<|.call 129 [.agg [VS ((r14.cs.getD 0 .any).ag),(r14.cs.getD 1 .any)]] [] fun r15 o15=>NI r15<|.done 0 [.cA [.agg [VS ((r14.cs.getD 0 .any).ag),(r14.cs.getD 1 .any)],VB (decide (r15.toInt<=(400:Int)))]] []) (fun y10 q10=>.fail)))))
theorem Na(a0_0:ByteArray)(a0_1:AV)(a1:ByteArray)(ha0_1:LK.has .sl a0_1)(h:dC 108 (Ld a0_0 a0_1 a1) R):ap Tryz.prog 145 [.agg [VS a0_0,a0_1],VS a1] [] R :=
 uQ (ah (cr (ah (aB _) (ah (bY ha0_1) aD))) (ah (aB _) aD)) (oQ HU Tryz.f145 h)
def IM(x17:Int)(o4_0:ByteArray)(o4_1:AV)(o12_0:ByteArray)(o12_1:AV)(o14_0:ByteArray)(o14_1:AV)(e16:List (List AV)):Tree :=
 NI (VI x17)<|.ak (Ob.cells [VS o4_0,o4_1]=.cells [VS o4_0,o4_1])<|.ak (af [.lk .str,.lk .sl] [VS o4_0,o4_1] 0 [.cells [VS o12_0,o12_1],.cells [VS o14_0,o14_1],.vec 1 e16])<|.ak (Ob.cells [VS o12_0,o12_1]=.cells [VS o12_0,o12_1])<|.ak (af [.lk .str,.lk .sl] [VS o12_0,o12_1] 0 [.cells [VS o14_0,o14_1],.vec 1 e16])<|.ak (Ob.cells [VS o14_0,o14_1]=.cells [VS o14_0,o14_1])<|.ak (af [.lk .str,.lk .sl] [VS o14_0,o14_1] 0 [.vec 1 e16])<|.ak (Ob.vec 1 e16=.vec 1 e16)<|.call 54 [VI x17] [] fun r1 o1=>NS r1<|.ak (ae (mk [116])+ae r1.ag<=9223372036854775807)<|.call 142 [.sl e16,VS (((mk [116]):ByteArray)++r1.ag)] [] fun r2 o2=>NB r2<|.test r2.toBool (.done 0 [VI (IntKind.wrap .i64 (x17+1))] [.cells [VS o4_0,o4_1],.cells [VS o12_0,o12_1],.cells [VS o14_0,o14_1],.vec 1 e16]) (.done 1 [VI x17] [.cells [VS o4_0,o4_1],.cells [VS o12_0,o12_1],.cells [VS o14_0,o14_1]])
abbrev GX:=cI Tryz.prog 108 Kk EH
theorem NY(x17:Int)(o4_0:ByteArray)(o4_1:AV)(o12_0:ByteArray)(o12_1:AV)(o14_0:ByteArray)(o14_1:AV)(e16:List (List AV))(h:l4 108 (IM x17 o4_0 o4_1 o12_0 o12_1 o14_0 o14_1 e16) GX U):GX [VI x17] [.cells [VS o4_0,o4_1],.cells [VS o12_0,o12_1],.cells [VS o14_0,o14_1],.vec 1 e16] U :=
 gQ HU h
def Md(a0:ByteArray):Tree :=
 .call 82 [VS a0] [] fun r1 o1=>NT r1<|.ak ((r1.comp 0)=.agg (r1.comp 0).cs/\(r1.comp 0).cs.length=2/\bz [.str,.sl] ((r1.comp 0).cs) 0)<|NB (r1.comp 1)<|.done 0 [VB ((r1.comp 1).toBool)] []
theorem Oa(a0:ByteArray)(h:dC 11 (Md a0) R):ap Tryz.prog 146 [VS a0] [] R :=
 uQ (ah (aB _) aD) (oQ [] Tryz.f146 h)
def F4:LI:={hd:={cf:=[(0,.k .str),(1,.k (.int .i64)),(6,.k (.int .i64))]},xs:={cf:=[(0,.k .str),(1,.k (.int .i64)),(6,.k (.int .i64))]},rt:={},ex:=0}
def Kr:Code:=da (cS Tryz.f147) 2
def FY:LI:={hd:={cf:=[(0,.k .str),(1,.k (.int .i64)),(7,.k .str)],refs:=[(8,48)],co:=[(48,[.lk .str,.vec 1])]},xs:={},rt:={cf:=[(4,.k .ptr),(5,.k .str)]},ex:=999}
def HI:Code:=da (cS Tryz.f147) 10
def Ha:List (Nat×LI):=[(2,F4),(10,FY)]
def Fc(a0:ByteArray)(a1:Int):Tree :=
 .loop Kr F4 [VS a0,VI a1,VI 0] [] (fun y2 q2=>NS (y2.hA)<|NI (y2.tail.hA)<|NI (y2.tail.tail.hA)<|.test (decide (((y2.tail.tail.hA).toInt)>(0:Int))) (.ak (0<=(0:Int)/\(0:Int)<=((y2.tail.tail.hA).toInt)/\((y2.tail.tail.hA).toInt)<=(ae ((y2.hA).ag):Int))<|.ak (0<=((y2.tail.tail.hA).toInt)/\((y2.tail.tail.hA).toInt)<=(ae ((y2.hA).ag):Int)/\(ae ((y2.hA).ag):Int)<=(ae ((y2.hA).ag):Int))<|.done 0 [.cA [.ptr [VS (ca ((y2.hA).ag) (bW 0) (bW ((y2.tail.tail.hA).toInt))),.v (.slice none 0 0)],VS (ca ((y2.hA).ag) (bW ((y2.tail.tail.hA).toInt)) (bW (ae ((y2.hA).ag):Int)))]] []) (.test (ac ((y2.hA).ag)==ac (mk [])) (.done 0 [.cA [.v (.pointer none),VS ((y2.hA).ag)]] []) (.ak (0<=(0:Int)/\(0:Int)<ae ((y2.hA).ag))<|.test ((bt ((y2.hA).ag) 0) != (40:Int)) (.done 0 [.cA [.v (.pointer none),VS ((y2.hA).ag)]] []) (.test (((y2.tail.hA).toInt)==(300:Int)) (.done 0 [.cA [.v (.pointer none),VS ((y2.hA).ag)]] []) (.ak (0<=(1:Int)/\(1:Int)<=(ae ((y2.hA).ag):Int)/\(ae ((y2.hA).ag):Int)<=(ae ((y2.hA).ag):Int))<|.loop HI FY [VS ((y2.hA).ag),VI ((y2.tail.hA).toInt),VS (ca ((y2.hA).ag) (bW 1) (bW (ae ((y2.hA).ag):Int)))] [.cells [VS (mk []),.any],.vec 1 []] (fun y5 q5=>.fail) (fun y5 q5=>NP (y5.hA)<|NS (y5.tail.hA)<|.done 0 [.cA [(y5.hA),VS ((y5.tail.hA).ag)]] [])))))) (fun y2 q2=>.done 0 [.cA [.any,.any]] [])
theorem Kh(a0:ByteArray)(a1:Int)(h:dC 84 (Fc a0 a1) R):ap Tryz.prog 147 [VS a0,VI a1] [] R :=
 uQ (ah (aB _) (ah (aB _) aD)) (oQ Ha Tryz.f147 h)
def Gz(x0:ByteArray)(x1:Int)(x6:Int):Tree :=
 NS (VS x0)<|NI (VI x1)<|NI (VI x6)<|.test (decide (x6<(ae x0:Int))) (.ak (0<=x6/\x6<ae x0)<|.call 174 [.v (.int .u8 (bt x0 x6))] [] fun r1 o1=>NB r1<|.test r1.toBool (.done 0 [VS x0,VI x1,VI (IntKind.wrap .i64 (x6+1))] []) (.done 1 [VS x0,VI x1,VI x6] [])) (.done 1 [VS x0,VI x1,VI x6] [])
abbrev Ei:=cI Tryz.prog 84 Kr F4
theorem Kg(x0:ByteArray)(x1:Int)(x6:Int)(h:l4 84 (Gz x0 x1 x6) Ei U):Ei [VS x0,VI x1,VI x6] [] U :=
 gQ Ha h
def Hx(x0:ByteArray)(x1:Int)(x7:ByteArray)(o48_0:ByteArray)(o48_1:List (List AV)):Tree :=
 NS (VS x0)<|NI (VI x1)<|NS (VS x7)<|.ak (Ob.cells [VS o48_0,.any]=.cells [VS o48_0,.any])<|.ak (af [.lk .str,.vec 1] [VS o48_0,.any] 0 [.vec 1 o48_1])<|.call 147 [VS x7,VI (IntKind.wrap .i64 (x1+1))] [] fun r1 o1=>NT r1<|NP (r1.comp 0)<|NS (r1.comp 1)<|NP (r1.comp 0)<|.test ((r1.comp 0).isNil) (.done 2 [.v (.pointer none),VS x0] []) (.test (ac ((r1.comp 1).ag)==ac (mk [])) (.done 2 [.v (.pointer none),VS x0] []) (.ak (cE 1 [[(r1.comp 0)]]/\((o48_1.length)+([[(r1.comp 0)]]:List (List AV)).length)*8<=140737488355328)<|.ak (0<=(1:Int)/\(1:Int)<=(ae ((r1.comp 1).ag):Int)/\(ae ((r1.comp 1).ag):Int)<=(ae ((r1.comp 1).ag):Int))<|.ak (0<=(0:Int)/\(0:Int)<ae ((r1.comp 1).ag))<|.test ((bt ((r1.comp 1).ag) 0)==(41:Int)) (.done 2 [.ptr [VS o48_0,.sl (o48_1++([[(r1.comp 0)]]:List (List AV)))],VS (ca ((r1.comp 1).ag) (bW 1) (bW (ae ((r1.comp 1).ag):Int)))] []) (.ak (0<=(0:Int)/\(0:Int)<ae ((r1.comp 1).ag))<|.test ((bt ((r1.comp 1).ag) 0) != (32:Int)) (.done 2 [.v (.pointer none),VS x0] []) (.done 0 [VS x0,VI x1,VS (ca ((r1.comp 1).ag) (bW 1) (bW (ae ((r1.comp 1).ag):Int)))] [.cells [VS o48_0,.any],.vec 1 (o48_1++([[(r1.comp 0)]]:List (List AV)))]))))
abbrev GR:=cI Tryz.prog 84 HI FY
theorem MT(x0:ByteArray)(x1:Int)(x7:ByteArray)(o48_0:ByteArray)(o48_1:List (List AV))(h:l4 84 (Hx x0 x1 x7 o48_0 o48_1) GR U):GR [VS x0,VI x1,VS x7] [.cells [VS o48_0,.any],.vec 1 o48_1] U :=
 gQ Ha h
def Jz(a0:ByteArray):Tree :=
 .test (decide ((ae a0:Int)<(2:Int))) (.done 0 [VB false] []) (.test (decide ((ae a0:Int)>(3:Int))) (.done 0 [VB false] []) (.ak (0<=(0:Int)/\(0:Int)<ae a0)<|.test ((bt a0 0) != (101:Int)) (.done 0 [VB false] []) (.ak (0<=(1:Int)/\(1:Int)<=(ae a0:Int)/\(ae a0:Int)<=(ae a0:Int))<|.call 152 [VS (ca a0 (bW 1) (bW (ae a0:Int))),VS (mk [48,49,50,51,52,53,54,55,56,57])] [] fun r1 o1=>NS r1<|.test (!(ac r1.ag==ac (mk []))) (.done 0 [VB false] []) (.test ((ae a0:Int)==(2:Int)) (.done 0 [VB true] []) (.ak (0<=(1:Int)/\(1:Int)<ae a0)<|.done 0 [VB ((bt a0 1) != (48:Int))] [])))))
theorem Nf(a0:ByteArray)(h:dC 30 (Jz a0) R):ap Tryz.prog 148 [VS a0] [] R :=
 uQ (ah (aB _) aD) (oQ [] Tryz.f148 h)
def BL(a0:AV)(a1:ByteArray)(a2:Int):Tree :=
 NZ a0<|NZ a0<|rY (a0.deref.drop 1)<|NL ((a0.deref.drop 1).hA)<|.test (((((a0.deref.drop 1).hA).aR).length:Int)==a2) (NZ a0<|NZ a0<|rY (a0.deref.drop 1)<|NG ((a0.deref.drop 1).hA) 0 1<|ez (((a0.deref.drop 1).hA).ix (0:Int))<|NZ ((((a0.deref.drop 1).hA).ix (0:Int)).hA)<|NZ ((((a0.deref.drop 1).hA).ix (0:Int)).hA)<|.ak (LK.has .str (((((a0.deref.drop 1).hA).ix (0:Int)).hA).deref.hA)/\1<=(((((a0.deref.drop 1).hA).ix (0:Int)).hA).deref).length)<|.done 0 [VB (ac ((((((a0.deref.drop 1).hA).ix (0:Int)).hA).deref.hA).ag)==ac a1)] []) (.done 0 [VB false] [])
theorem HN(a0:AV)(a1:ByteArray)(a2:Int)(ha0:LK.has .ptr a0)(h:dC 27 (BL a0 a1 a2) R):ap Tryz.prog 149 [a0,VS a1,VI a2] [] R :=
 uQ (ah (bA ha0) (ah (aB _) (ah (aB _) aD))) (oQ [] Tryz.f149 h)
def Gl:LI:={hd:={cf:=[(0,.k .sl),(1,.k .str),(7,.k (.int .i64))],eQ:=[(2,4)]},xs:={eQ:=[(2,4)]},rt:={},ex:=0}
def KU:Code:=da (cS Tryz.f150) 2
def KR:List (Nat×LI):=[(2,Gl)]
def HJ(a0:AV)(a1:ByteArray)(e2:List (List AV)):Tree :=
 .loop KU Gl [a0,VS a1,VI 0] [.vec 4 e2] (fun y2 q2=>.ak (((q2.drop 0).hO)=.vec 4 ((q2.drop 0).hO).es)<|.done 0 [.vec 1] [.dead,.vec 4 ((q2.hO).es)]) (fun y2 q2=>.fail)
theorem OR(a0:AV)(a1:ByteArray)(e2:List (List AV))(ha0:LK.has .sl a0)(h:dC 32 (HJ a0 a1 e2) R):ap Tryz.prog 150 [a0,VS a1,.vec 0] [.vec 4 e2] R :=
 ap.nS (bw (gv _) cx) (ap.up (ah (bY ha0) (ah (aB _) (ah (aB _) aD))) (oF KR {mu:=[(2,.one (.vec))],own:=[0]} Tryz.f150 h))
def Gk(x0:AV)(x1:ByteArray)(x7:Int)(e2:List (List AV)):Tree :=
 NL x0<|NS (VS x1)<|NI (VI x7)<|.ak (Ob.vec 4 e2=.vec 4 e2)<|NL x0<|.test (decide (x7<(x0.aR.length:Int))) (NG x0 x7 4<|NE (x0.ix x7)<|.call 69 [VS x1,.sl [[VS (((x0.ix x7).getD 0 .any).ag),((x0.ix x7).getD 1 .any)]]] [] fun r1 o1=>NA r1<|NG x0 x7 4<|NE ((x0.ix x7).drop 2)<|.ak (cE 4 [[VS ((r1.cs.getD 0 .any).ag),(r1.cs.getD 1 .any),VS ((((x0.ix x7).drop 2).getD 0 .any).ag),(((x0.ix x7).drop 2).getD 1 .any)]]/\((e2.length)+([[VS ((r1.cs.getD 0 .any).ag),(r1.cs.getD 1 .any),VS ((((x0.ix x7).drop 2).getD 0 .any).ag),(((x0.ix x7).drop 2).getD 1 .any)]]:List (List AV)).length)*80<=140737488355328)<|.done 0 [x0,VS x1,VI (IntKind.wrap .i64 (x7+1))] [.vec 4 (e2++([[VS ((r1.cs.getD 0 .any).ag),(r1.cs.getD 1 .any),VS ((((x0.ix x7).drop 2).getD 0 .any).ag),(((x0.ix x7).drop 2).getD 1 .any)]]:List (List AV)))]) (.done 1 [] [.vec 4 e2])
abbrev Eu:=cI Tryz.prog 32 KU Gl
theorem Jv(x0:AV)(x1:ByteArray)(x7:Int)(e2:List (List AV))(h:l4 32 (Gk x0 x1 x7 e2) Eu U):Eu [x0,VS x1,VI x7] [.vec 4 e2] U :=
 gQ KR h
def EA:LI:={hd:={cf:=[(0,.k .ptr),(1,.k .sl),(5,.k (.int .i64))]},xs:={cf:=[(0,.k .ptr)]},rt:={refs:=[(4,69)],co:=[(69,[.lk (.int .u8),.lk .str,.lk (.int .i64),.lk .ptr,.lk .ptr])]},ex:=1}
def HG:Code:=da (cS Tryz.f153) 7
def Lk:List (Nat×LI):=[(7,EA)]
def Fa(a0:AV)(a1:AV):Tree :=
 NZ a0<|NZ a0<|.ak (LK.has .str (a0.deref.hA)/\1<=a0.deref.length)<|.test (ac ((a0.deref.hA).ag)==ac (mk [48])) (NZ a0<|NZ a0<|.ak (LK.has .str (a0.deref.hA)/\1<=a0.deref.length)<|.ak (0<=(0:Int)/\(0:Int)<ae ((a0.deref.hA).ag))<|.done 0 [.ptr [.v (.int .u8 (bt ((a0.deref.hA).ag) 0)),VS (mk []),VI 0,.v (.pointer none),.v (.pointer none)]] []) (NZ a0<|NZ a0<|.ak (LK.has .str (a0.deref.hA)/\1<=a0.deref.length)<|.test (ac ((a0.deref.hA).ag)==ac (mk [49])) (NZ a0<|NZ a0<|.ak (LK.has .str (a0.deref.hA)/\1<=a0.deref.length)<|.ak (0<=(0:Int)/\(0:Int)<ae ((a0.deref.hA).ag))<|.done 0 [.ptr [.v (.int .u8 (bt ((a0.deref.hA).ag) 0)),VS (mk []),VI 0,.v (.pointer none),.v (.pointer none)]] []) (NZ a0<|NZ a0<|.ak (LK.has .str (a0.deref.hA)/\1<=a0.deref.length)<|.call 59 [VS ((a0.deref.hA).ag)] [] fun r1 o1=>NB r1<|.test r1.toBool (NZ a0<|NZ a0<|.ak (LK.has .str (a0.deref.hA)/\1<=a0.deref.length)<|.done 0 [.ptr [.v (.int .u8 110),VS ((a0.deref.hA).ag),VI 0,.v (.pointer none),.v (.pointer none)]] []) (NZ a0<|NZ a0<|.ak (LK.has .str (a0.deref.hA)/\1<=a0.deref.length)<|.call 166 [VS ((a0.deref.hA).ag)] [] fun r2 o2=>NB r2<|.test r2.toBool (NL a1<|.loop HG EA [a0,a1,VI (IntKind.wrap .i64 ((a1.aR.length:Int)-1))] [] (fun y3 q3=>NP (y3.hA)<|NZ (y3.hA)<|NZ (y3.hA)<|.ak (LK.has .str ((y3.hA).deref.hA)/\1<=((y3.hA).deref).length)<|.done 0 [.ptr [.v (.int .u8 110),VS (((y3.hA).deref.hA).ag),VI 0,.v (.pointer none),.v (.pointer none)]] []) (fun y3 q3=>.ak ((q3.hO)=.cells (q3.hO).cs)<|.ak (af [.lk (.int .u8),.lk .str,.lk (.int .i64),.lk .ptr,.lk .ptr] ((q3.hO).cs) 0 q3.tail)<|.done 0 [.ptr [.v (.int .u8 (((q3.hO).cs.getD 0 .any).toInt)),VS (((q3.hO).cs.getD 1 .any).ag),VI (((q3.hO).cs.getD 2 .any).toInt),((q3.hO).cs.getD 3 .any),((q3.hO).cs.getD 4 .any)]] [])) (.call 149 [a0,VS (mk [43]),VI 3] [] fun r4 o4=>NB r4<|.test r4.toBool (NZ a0<|NZ a0<|rY (a0.deref.drop 1)<|NG ((a0.deref.drop 1).hA) 1 1<|ez (((a0.deref.drop 1).hA).ix (1:Int))<|.call 153 [((((a0.deref.drop 1).hA).ix (1:Int)).hA),a1] [] fun r5 o5=>NP r5<|NZ a0<|NZ a0<|rY (a0.deref.drop 1)<|NG ((a0.deref.drop 1).hA) 2 1<|ez (((a0.deref.drop 1).hA).ix (2:Int))<|.call 153 [((((a0.deref.drop 1).hA).ix (2:Int)).hA),a1] [] fun r6 o6=>NP r6<|NP r5<|.test r5.isNil (.done 0 [.v (.pointer none)] []) (NP r6<|.test r6.isNil (.done 0 [.v (.pointer none)] []) (NZ a0<|NZ a0<|rY (a0.deref.drop 1)<|NG ((a0.deref.drop 1).hA) 0 1<|ez (((a0.deref.drop 1).hA).ix (0:Int))<|NZ ((((a0.deref.drop 1).hA).ix (0:Int)).hA)<|NZ ((((a0.deref.drop 1).hA).ix (0:Int)).hA)<|.ak (LK.has .str (((((a0.deref.drop 1).hA).ix (0:Int)).hA).deref.hA)/\1<=(((((a0.deref.drop 1).hA).ix (0:Int)).hA).deref).length)<|.ak (0<=(0:Int)/\(0:Int)<ae ((((((a0.deref.drop 1).hA).ix (0:Int)).hA).deref.hA).ag))<|.done 0 [.ptr [.v (.int .u8 (bt ((((((a0.deref.drop 1).hA).ix (0:Int)).hA).deref.hA).ag) 0)),VS (mk []),VI 0,r5,r6]] []))) (.call 149 [a0,VS (mk [42]),VI 3] [] fun r7 o7=>NB r7<|.test r7.toBool (NZ a0<|NZ a0<|rY (a0.deref.drop 1)<|NG ((a0.deref.drop 1).hA) 1 1<|ez (((a0.deref.drop 1).hA).ix (1:Int))<|.call 153 [((((a0.deref.drop 1).hA).ix (1:Int)).hA),a1] [] fun r8 o8=>NP r8<|NZ a0<|NZ a0<|rY (a0.deref.drop 1)<|NG ((a0.deref.drop 1).hA) 2 1<|ez (((a0.deref.drop 1).hA).ix (2:Int))<|.call 153 [((((a0.deref.drop 1).hA).ix (2:Int)).hA),a1] [] fun r9 o9=>NP r9<|NP r8<|.test r8.isNil (.done 0 [.v (.pointer none)] []) (NP r9<|.test r9.isNil (.done 0 [.v (.pointer none)] []) (NZ a0<|NZ a0<|rY (a0.deref.drop 1)<|NG ((a0.deref.drop 1).hA) 0 1<|ez (((a0.deref.drop 1).hA).ix (0:Int))<|NZ ((((a0.deref.drop 1).hA).ix (0:Int)).hA)<|NZ ((((a0.deref.drop 1).hA).ix (0:Int)).hA)<|.ak (LK.has .str (((((a0.deref.drop 1).hA).ix (0:Int)).hA).deref.hA)/\1<=(((((a0.deref.drop 1).hA).ix (0:Int)).hA).deref).length)<|.ak (0<=(0:Int)/\(0:Int)<ae ((((((a0.deref.drop 1).hA).ix (0:Int)).hA).deref.hA).ag))<|.done 0 [.ptr [.v (.int .u8 (bt ((((((a0.deref.drop 1).hA).ix (0:Int)).hA).deref.hA).ag) 0)),VS (mk []),VI 0,r8,r9]] []))) (.call 149 [a0,VS (mk [114,101,99]),VI 3] [] fun r10 o10=>NB r10<|.test r10.toBool (NZ a0<|NZ a0<|rY (a0.deref.drop 1)<|NG ((a0.deref.drop 1).hA) 1 1<|ez (((a0.deref.drop 1).hA).ix (1:Int))<|NZ ((((a0.deref.drop 1).hA).ix (1:Int)).hA)<|NZ ((((a0.deref.drop 1).hA).ix (1:Int)).hA)<|.ak (LK.has .str (((((a0.deref.drop 1).hA).ix (1:Int)).hA).deref.hA)/\1<=(((((a0.deref.drop 1).hA).ix (1:Int)).hA).deref).length)<|.call 166 [VS ((((((a0.deref.drop 1).hA).ix (1:Int)).hA).deref.hA).ag)] [] fun r11 o11=>NB r11<|.test r11.toBool (NZ a0<|NZ a0<|rY (a0.deref.drop 1)<|NG ((a0.deref.drop 1).hA) 2 1<|ez (((a0.deref.drop 1).hA).ix (2:Int))<|.ak (LK.has .sl a1/\cE 1 a1.aR/\((([]:List (List AV)).length)+a1.aR.length)*16<=140737488355328)<|NZ a0<|NZ a0<|rY (a0.deref.drop 1)<|NG ((a0.deref.drop 1).hA) 1 1<|ez (((a0.deref.drop 1).hA).ix (1:Int))<|NZ ((((a0.deref.drop 1).hA).ix (1:Int)).hA)<|NZ ((((a0.deref.drop 1).hA).ix (1:Int)).hA)<|.ak (LK.has .str (((((a0.deref.drop 1).hA).ix (1:Int)).hA).deref.hA)/\1<=(((((a0.deref.drop 1).hA).ix (1:Int)).hA).deref).length)<|.ak (cE 1 [[VS ((((((a0.deref.drop 1).hA).ix (1:Int)).hA).deref.hA).ag)]]/\(((([]:List (List AV))++a1.aR).length)+([[VS ((((((a0.deref.drop 1).hA).ix (1:Int)).hA).deref.hA).ag)]]:List (List AV)).length)*16<=140737488355328)<|.call 153 [((((a0.deref.drop 1).hA).ix (2:Int)).hA),.sl ((([]:List (List AV))++a1.aR)++([[VS ((((((a0.deref.drop 1).hA).ix (1:Int)).hA).deref.hA).ag)]]:List (List AV)))] [] fun r12 o12=>NP r12<|NP r12<|.test r12.isNil (.done 0 [.v (.pointer none)] []) (.done 0 [.ptr [.v (.int .u8 114),VS (mk []),VI 0,r12,.v (.pointer none)]] [])) (.done 0 [.v (.pointer none)] [])) (.done 0 [.v (.pointer none)] [])))))))
theorem Iy(a0:AV)(a1:AV)(ha0:LK.has .ptr a0)(ha1:LK.has .sl a1)(h:dC 160 (Fa a0 a1) R):ap Tryz.prog 153 [a0,a1] [] R :=
 uQ (ah (bA ha0) (ah (bY ha1) aD)) (oQ Lk Tryz.f153 h)
def F1(x0:AV)(x1:AV)(x5:Int):Tree :=
 NP x0<|NL x1<|NI (VI x5)<|.test (decide (x5≥(0:Int))) (NG x1 x5 1<|l0 (x1.ix x5)<|NZ x0<|NZ x0<|.ak (LK.has .str (x0.deref.hA)/\1<=x0.deref.length)<|.test (ac (((x1.ix x5).hA).ag)==ac ((x0.deref.hA).ag)) (NL x1<|.done 2 [] [.cells [.v (.int .u8 98),VS (mk []),VI (IntKind.wrap .i64 ((IntKind.wrap .i64 ((x1.aR.length:Int)-1))-x5)),.v (.pointer none),.v (.pointer none)]]) (.done 0 [x0,x1,VI (IntKind.wrap .i64 (x5-1))] [])) (.done 1 [x0] [])
abbrev EV:=cI Tryz.prog 160 HG EA
theorem JL(x0:AV)(x1:AV)(x5:Int)(h:l4 160 (F1 x0 x1 x5) EV U):EV [x0,x1,VI x5] [] U :=
 gQ Lk h
def DL(a0:AV):Tree :=
 NZ a0<|NZ a0<|.ak (LK.has (.int .u8) (a0.deref.hA)/\1<=a0.deref.length)<|.test (((a0.deref.hA).toInt)==(43:Int)) (NZ a0<|NZ a0<|ez (a0.deref.drop 3)<|.call 154 [((a0.deref.drop 3).hA)] [] fun r1 o1=>NI r1<|NZ a0<|NZ a0<|ez (a0.deref.drop 4)<|.call 154 [((a0.deref.drop 4).hA)] [] fun r2 o2=>NI r2<|.done 0 [VI (IntKind.wrap .i64 ((IntKind.wrap .i64 (1+r1.toInt))+r2.toInt))] []) (.test (((a0.deref.hA).toInt)==(42:Int)) (NZ a0<|NZ a0<|ez (a0.deref.drop 3)<|.call 154 [((a0.deref.drop 3).hA)] [] fun r3 o3=>NI r3<|NZ a0<|NZ a0<|ez (a0.deref.drop 4)<|.call 154 [((a0.deref.drop 4).hA)] [] fun r4 o4=>NI r4<|.done 0 [VI (IntKind.wrap .i64 ((IntKind.wrap .i64 (1+r3.toInt))+r4.toInt))] []) (.test (((a0.deref.hA).toInt)==(114:Int)) (NZ a0<|NZ a0<|ez (a0.deref.drop 3)<|.call 154 [((a0.deref.drop 3).hA)] [] fun r5 o5=>NI r5<|.done 0 [VI (IntKind.wrap .i64 (2+r5.toInt))] []) (.done 0 [VI 1] [])))
theorem vQ(a0:AV)(ha0:LK.has .ptr a0)(h:dC 30 (DL a0) R):ap Tryz.prog 154 [a0] [] R :=
 uQ (ah (bA ha0) aD) (oQ [] Tryz.f154 h)
def L0(a0_0:Int)(a0_1:Bool):Tree :=
 .call 94 [VI (IntKind.wrap .i64 (a0_0+1))] [] fun r1 o1=>NS r1<|.ak (ae (mk [35])+ae r1.ag<=9223372036854775807)<|.done 0 [VS (((mk [35]):ByteArray)++r1.ag)] [.cells [VI (IntKind.wrap .i64 (a0_0+1)),VB a0_1]]
theorem Pv(a0_0:Int)(a0_1:Bool)(h:dC 16 (L0 a0_0 a0_1) R):ap Tryz.prog 155 [.ref 0 0] [.cells [VI a0_0,VB a0_1]] R :=
 ap.nS (bw (cc (ah (aB _) (ah (F5 _) aD))) cx) (ap.up (ah (aB _) aD) (oF [] {mu:=[(0,.one (.obj [.lk (.int .i64),.lk .bool]))],own:=[]} Tryz.f155 h))
def Ln(a0_0:Int)(a0_1:Bool)(a1:AV):Tree :=
 .test a0_1 (.done 0 [.ptr [.v (.int .u8 48),VS (mk []),VI 0,.v (.pointer none),.v (.pointer none)]] [.cells [VI a0_0,VB true]]) (.call 154 [a1] [] fun r1 o1=>NI r1<|.test (decide (r1.toInt>(400:Int))) (.done 0 [.ptr [.v (.int .u8 48),VS (mk []),VI 0,.v (.pointer none),.v (.pointer none)]] [.cells [VI a0_0,VB true]]) (.done 0 [a1] [.cells [VI a0_0,VB a0_1]]))
theorem Nb(a0_0:Int)(a0_1:Bool)(a1:AV)(ha1:LK.has .ptr a1)(h:dC 20 (Ln a0_0 a0_1 a1) R):ap Tryz.prog 156 [.ref 0 0,a1] [.cells [VI a0_0,VB a0_1]] R :=
 ap.nS (bw (cc (ah (aB _) (ah (F5 _) aD))) cx) (ap.up (ah (aB _) (ah (bA ha1) aD)) (oF [] {mu:=[(0,.one (.obj [.lk (.int .i64),.lk .bool]))],own:=[]} Tryz.f156 h))
def Dq(a0_0:Int)(a0_1:Bool)(a1:AV)(a2:ByteArray):Tree :=
 .test a0_1 (.done 0 [.ptr [.v (.int .u8 48),VS (mk []),VI 0,.v (.pointer none),.v (.pointer none)]] [.cells [VI a0_0,VB a0_1]]) (NZ a1<|NZ a1<|.ak (LK.has (.int .u8) (a1.deref.hA)/\1<=a1.deref.length)<|.test (((a1.deref.hA).toInt)==(110:Int)) (NZ a1<|NZ a1<|l0 (a1.deref.drop 1)<|.test (ac (((a1.deref.drop 1).hA).ag)==ac a2) (.done 0 [.ptr [.v (.int .u8 49),VS (mk []),VI 0,.v (.pointer none),.v (.pointer none)]] [.cells [VI a0_0,VB a0_1]]) (.done 0 [.ptr [.v (.int .u8 48),VS (mk []),VI 0,.v (.pointer none),.v (.pointer none)]] [.cells [VI a0_0,VB a0_1]])) (.test (((a1.deref.hA).toInt)==(43:Int)) (NZ a1<|NZ a1<|ez (a1.deref.drop 3)<|.call 157 [.ref 0 0,((a1.deref.drop 3).hA),VS a2] [.cells [VI a0_0,VB a0_1]] fun r1 o1=>.ak ((o1.hO)=.cells (o1.hO).cs)<|.ak (aM [.lk (.int .i64),.lk .bool] ((o1.hO).cs) 0 1 o1.tail)<|NP r1<|NZ a1<|NZ a1<|ez (a1.deref.drop 4)<|.call 157 [.ref 0 0,((a1.deref.drop 4).hA),VS a2] [.cells [VI (((o1.hO).cs.getD 0 .any).toInt),VB (((o1.hO).cs.getD 1 .any).toBool)]] fun r2 o2=>.ak ((o2.hO)=.cells (o2.hO).cs)<|.ak (aM [.lk (.int .i64),.lk .bool] ((o2.hO).cs) 0 1 o2.tail)<|NP r2<|.call 183 [.v (.int .u8 43),r1,r2] [] fun r3 o3=>NP r3<|.call 156 [.ref 0 0,r3] [.cells [VI (((o2.hO).cs.getD 0 .any).toInt),VB (((o2.hO).cs.getD 1 .any).toBool)]] fun r4 o4=>.ak ((o4.hO)=.cells (o4.hO).cs)<|.ak (aM [.lk (.int .i64),.lk .bool] ((o4.hO).cs) 0 1 o4.tail)<|NP r4<|.done 0 [r4] [.cells [VI (((o4.hO).cs.getD 0 .any).toInt),VB (((o4.hO).cs.getD 1 .any).toBool)]]) (.test (((a1.deref.hA).toInt)==(42:Int)) (NZ a1<|NZ a1<|ez (a1.deref.drop 3)<|.call 157 [.ref 0 0,((a1.deref.drop 3).hA),VS a2] [.cells [VI a0_0,VB a0_1]] fun r5 o5=>.ak ((o5.hO)=.cells (o5.hO).cs)<|.ak (aM [.lk (.int .i64),.lk .bool] ((o5.hO).cs) 0 1 o5.tail)<|NP r5<|NZ a1<|NZ a1<|ez (a1.deref.drop 4)<|.call 183 [.v (.int .u8 42),r5,((a1.deref.drop 4).hA)] [] fun r6 o6=>NP r6<|NZ a1<|NZ a1<|ez (a1.deref.drop 3)<|NZ a1<|NZ a1<|ez (a1.deref.drop 4)<|.call 157 [.ref 0 0,((a1.deref.drop 4).hA),VS a2] [.cells [VI (((o5.hO).cs.getD 0 .any).toInt),VB (((o5.hO).cs.getD 1 .any).toBool)]] fun r7 o7=>.ak ((o7.hO)=.cells (o7.hO).cs)<|.ak (aM [.lk (.int .i64),.lk .bool] ((o7.hO).cs) 0 1 o7.tail)<|NP r7<|.call 183 [.v (.int .u8 42),((a1.deref.drop 3).hA),r7] [] fun r8 o8=>NP r8<|.call 183 [.v (.int .u8 43),r6,r8] [] fun r9 o9=>NP r9<|.call 156 [.ref 0 0,r9] [.cells [VI (((o7.hO).cs.getD 0 .any).toInt),VB (((o7.hO).cs.getD 1 .any).toBool)]] fun r10 o10=>.ak ((o10.hO)=.cells (o10.hO).cs)<|.ak (aM [.lk (.int .i64),.lk .bool] ((o10.hO).cs) 0 1 o10.tail)<|NP r10<|.done 0 [r10] [.cells [VI (((o10.hO).cs.getD 0 .any).toInt),VB (((o10.hO).cs.getD 1 .any).toBool)]]) (.test (((a1.deref.hA).toInt)==(114:Int)) (.call 155 [.ref 0 0] [.cells [VI a0_0,VB a0_1]] fun r11 o11=>.ak ((o11.hO)=.cells (o11.hO).cs)<|.ak (aM [.lk (.int .i64),.lk .bool] ((o11.hO).cs) 0 1 o11.tail)<|NS r11<|NZ a1<|NZ a1<|ez (a1.deref.drop 3)<|.call 158 [((a1.deref.drop 3).hA),.ptr [.v (.int .u8 110),VS r11.ag,VI 0,.v (.pointer none),.v (.pointer none)],VI 0] [] fun r12 o12=>NP r12<|.call 157 [.ref 0 0,r12,VS a2] [.cells [VI (((o11.hO).cs.getD 0 .any).toInt),VB (((o11.hO).cs.getD 1 .any).toBool)]] fun r13 o13=>.ak ((o13.hO)=.cells (o13.hO).cs)<|.ak (aM [.lk (.int .i64),.lk .bool] ((o13.hO).cs) 0 1 o13.tail)<|NP r13<|.call 156 [.ref 0 0,r13] [.cells [VI (((o13.hO).cs.getD 0 .any).toInt),VB (((o13.hO).cs.getD 1 .any).toBool)]] fun r14 o14=>.ak ((o14.hO)=.cells (o14.hO).cs)<|.ak (aM [.lk (.int .i64),.lk .bool] ((o14.hO).cs) 0 1 o14.tail)<|NP r14<|.call 159 [r14,VS r11.ag,a1] [] fun r15 o15=>NP r15<|.call 157 [.ref 0 0,r12,VS r11.ag] [.cells [VI (((o14.hO).cs.getD 0 .any).toInt),VB (((o14.hO).cs.getD 1 .any).toBool)]] fun r16 o16=>.ak ((o16.hO)=.cells (o16.hO).cs)<|.ak (aM [.lk (.int .i64),.lk .bool] ((o16.hO).cs) 0 1 o16.tail)<|NP r16<|.call 156 [.ref 0 0,r16] [.cells [VI (((o16.hO).cs.getD 0 .any).toInt),VB (((o16.hO).cs.getD 1 .any).toBool)]] fun r17 o17=>.ak ((o17.hO)=.cells (o17.hO).cs)<|.ak (aM [.lk (.int .i64),.lk .bool] ((o17.hO).cs) 0 1 o17.tail)<|NP r17<|.call 159 [r17,VS r11.ag,a1] [] fun r18 o18=>NP r18<|.call 183 [.v (.int .u8 42),r18,.ptr [.v (.int .u8 98),VS (mk []),VI 0,.v (.pointer none),.v (.pointer none)]] [] fun r19 o19=>NP r19<|.call 183 [.v (.int .u8 43),r15,r19] [] fun r20 o20=>NP r20<|.call 156 [.ref 0 0,.ptr [.v (.int .u8 114),VS (mk []),VI 0,r20,.v (.pointer none)]] [.cells [VI (((o17.hO).cs.getD 0 .any).toInt),VB (((o17.hO).cs.getD 1 .any).toBool)]] fun r21 o21=>.ak ((o21.hO)=.cells (o21.hO).cs)<|.ak (aM [.lk (.int .i64),.lk .bool] ((o21.hO).cs) 0 1 o21.tail)<|NP r21<|.done 0 [r21] [.cells [VI (((o21.hO).cs.getD 0 .any).toInt),VB (((o21.hO).cs.getD 1 .any).toBool)]]) (.done 0 [.ptr [.v (.int .u8 48),VS (mk []),VI 0,.v (.pointer none),.v (.pointer none)]] [.cells [VI a0_0,VB a0_1]])))))
theorem LU(a0_0:Int)(a0_1:Bool)(a1:AV)(a2:ByteArray)(ha1:LK.has .ptr a1)(h:dC 121 (Dq a0_0 a0_1 a1 a2) R):ap Tryz.prog 157 [.ref 0 0,a1,VS a2] [.cells [VI a0_0,VB a0_1]] R :=
 ap.nS (bw (cc (ah (aB _) (ah (F5 _) aD))) cx) (ap.up (ah (aB _) (ah (bA ha1) (ah (aB _) aD))) (oF [] {mu:=[(0,.one (.obj [.lk (.int .i64),.lk .bool]))],own:=[]} Tryz.f157 h))
def DN(a0:AV)(a1:AV)(a2:Int):Tree :=
 NZ a0<|NZ a0<|.ak (LK.has (.int .u8) (a0.deref.hA)/\1<=a0.deref.length)<|.test (((a0.deref.hA).toInt)==(98:Int)) (NZ a0<|NZ a0<|.ak (LK.has (.int .i64) ((a0.deref.drop 2).hA)/\1<=(a0.deref.drop 2).length)<|.test ((((a0.deref.drop 2).hA).toInt)==a2) (.done 0 [a1] []) (.done 0 [a0] [])) (.test (((a0.deref.hA).toInt)==(43:Int)) (NZ a0<|NZ a0<|.ak (LK.has (.int .u8) (a0.deref.hA)/\1<=a0.deref.length)<|NZ a0<|NZ a0<|ez (a0.deref.drop 3)<|.call 158 [((a0.deref.drop 3).hA),a1,VI a2] [] fun r1 o1=>NP r1<|NZ a0<|NZ a0<|ez (a0.deref.drop 4)<|.call 158 [((a0.deref.drop 4).hA),a1,VI a2] [] fun r2 o2=>NP r2<|.done 0 [.ptr [.v (.int .u8 ((a0.deref.hA).toInt)),VS (mk []),VI 0,r1,r2]] []) (.test (((a0.deref.hA).toInt)==(42:Int)) (NZ a0<|NZ a0<|.ak (LK.has (.int .u8) (a0.deref.hA)/\1<=a0.deref.length)<|NZ a0<|NZ a0<|ez (a0.deref.drop 3)<|.call 158 [((a0.deref.drop 3).hA),a1,VI a2] [] fun r3 o3=>NP r3<|NZ a0<|NZ a0<|ez (a0.deref.drop 4)<|.call 158 [((a0.deref.drop 4).hA),a1,VI a2] [] fun r4 o4=>NP r4<|.done 0 [.ptr [.v (.int .u8 ((a0.deref.hA).toInt)),VS (mk []),VI 0,r3,r4]] []) (.test (((a0.deref.hA).toInt)==(114:Int)) (NZ a0<|NZ a0<|ez (a0.deref.drop 3)<|.call 158 [((a0.deref.drop 3).hA),a1,VI (IntKind.wrap .i64 (a2+1))] [] fun r5 o5=>NP r5<|.done 0 [.ptr [.v (.int .u8 114),VS (mk []),VI 0,r5,.v (.pointer none)]] []) (.done 0 [a0] []))))
theorem wO(a0:AV)(a1:AV)(a2:Int)(ha0:LK.has .ptr a0)(ha1:LK.has .ptr a1)(h:dC 56 (DN a0 a1 a2) R):ap Tryz.prog 158 [a0,a1,VI a2] [] R :=
 uQ (ah (bA ha0) (ah (bA ha1) (ah (aB _) aD))) (oQ [] Tryz.f158 h)
def DK(a0:AV)(a1:ByteArray)(a2:AV):Tree :=
 NZ a0<|NZ a0<|.ak (LK.has (.int .u8) (a0.deref.hA)/\1<=a0.deref.length)<|.test (((a0.deref.hA).toInt)==(110:Int)) (NZ a0<|NZ a0<|l0 (a0.deref.drop 1)<|.test (ac (((a0.deref.drop 1).hA).ag)==ac a1) (.done 0 [a2] []) (.done 0 [a0] [])) (.test (((a0.deref.hA).toInt)==(43:Int)) (NZ a0<|NZ a0<|.ak (LK.has (.int .u8) (a0.deref.hA)/\1<=a0.deref.length)<|NZ a0<|NZ a0<|ez (a0.deref.drop 3)<|.call 159 [((a0.deref.drop 3).hA),VS a1,a2] [] fun r1 o1=>NP r1<|NZ a0<|NZ a0<|ez (a0.deref.drop 4)<|.call 159 [((a0.deref.drop 4).hA),VS a1,a2] [] fun r2 o2=>NP r2<|.done 0 [.ptr [.v (.int .u8 ((a0.deref.hA).toInt)),VS (mk []),VI 0,r1,r2]] []) (.test (((a0.deref.hA).toInt)==(42:Int)) (NZ a0<|NZ a0<|.ak (LK.has (.int .u8) (a0.deref.hA)/\1<=a0.deref.length)<|NZ a0<|NZ a0<|ez (a0.deref.drop 3)<|.call 159 [((a0.deref.drop 3).hA),VS a1,a2] [] fun r3 o3=>NP r3<|NZ a0<|NZ a0<|ez (a0.deref.drop 4)<|.call 159 [((a0.deref.drop 4).hA),VS a1,a2] [] fun r4 o4=>NP r4<|.done 0 [.ptr [.v (.int .u8 ((a0.deref.hA).toInt)),VS (mk []),VI 0,r3,r4]] []) (.test (((a0.deref.hA).toInt)==(114:Int)) (NZ a0<|NZ a0<|ez (a0.deref.drop 3)<|.call 159 [((a0.deref.drop 3).hA),VS a1,a2] [] fun r5 o5=>NP r5<|.done 0 [.ptr [.v (.int .u8 114),VS (mk []),VI 0,r5,.v (.pointer none)]] []) (.done 0 [a0] []))))
theorem Gt(a0:AV)(a1:ByteArray)(a2:AV)(ha0:LK.has .ptr a0)(ha2:LK.has .ptr a2)(h:dC 55 (DK a0 a1 a2) R):ap Tryz.prog 159 [a0,VS a1,a2] [] R :=
 uQ (ah (bA ha0) (ah (aB _) (ah (bA ha2) aD))) (oQ [] Tryz.f159 h)
def Ix(a0:AV):Tree :=
 .call 165 [a0] [] fun r1 o1=>NL r1<|.call 184 [a0,.v (.slice none 0 0),.gM 184 [none,some 0,some 1],.ref 0 0,.ref 1 0] [.cells [r1],.cells [VI 0]] fun r2 o2=>.ak ((o2.hO)=.cells (o2.hO).cs)<|.ak (aM [.lk .sl] ((o2.hO).cs) 0 1 o2.tail)<|.ak ((o2.tail.hO)=.cells (o2.tail.hO).cs)<|.ak (aM [.lk (.int .i64)] ((o2.tail.hO).cs) 0 2 o2.tail.tail)<|NS r2<|.done 0 [VS r2.ag] []
theorem ON(a0:AV)(ha0:LK.has .ptr a0)(h:dC 12 (Ix a0) R):ap Tryz.prog 160 [a0] [] R :=
 uQ (ah (bA ha0) aD) (oQ [] Tryz.f160 h)
def Jg(a0_0:ByteArray)(a0_1:AV)(a1:ByteArray)(a2_0:ByteArray)(a2_1:AV):Tree :=
 .call 162 [.agg [VS a0_0,a0_1],VS a1,.agg [VS a2_0,a2_1]] [] fun r1 o1=>NB r1<|.test (!r1.toBool) (.done 0 [.cA [.agg [VS a0_0,a0_1],VB false]] []) (.call 163 [.agg [VS a0_0,a0_1],VS a1,.agg [VS a2_0,a2_1]] [] fun r2 o2=>NA r2<|.done 0 [.cA [.agg [VS ((r2.cs.getD 0 .any).ag),(r2.cs.getD 1 .any)],VB true]] [])
theorem N8(a0_0:ByteArray)(a0_1:AV)(a1:ByteArray)(a2_0:ByteArray)(a2_1:AV)(ha0_1:LK.has .sl a0_1)(ha2_1:LK.has .sl a2_1)(h:dC 18 (Jg a0_0 a0_1 a1 a2_0 a2_1) R):ap Tryz.prog 161 [.agg [VS a0_0,a0_1],VS a1,.agg [VS a2_0,a2_1]] [] R :=
 uQ (ah (cr (ah (aB _) (ah (bY ha0_1) aD))) (ah (aB _) (ah (cr (ah (aB _) (ah (bY ha2_1) aD))) aD))) (oQ [] Tryz.f161 h)
def Jw(a0_0:ByteArray)(a0_1:AV)(a1:ByteArray)(a2_0:ByteArray)(a2_1:AV):Tree :=
 .call 129 [.agg [VS a0_0,a0_1]] [] fun r1 o1=>NI r1<|.call 186 [.agg [VS a0_0,a0_1],VS a1] [] fun r2 o2=>NI r2<|.call 129 [.agg [VS a2_0,a2_1]] [] fun r3 o3=>NI r3<|.done 0 [VB (decide ((IntKind.wrap .i64 (r1.toInt+(IntKind.wrap .i64 (r2.toInt*(IntKind.wrap .i64 (r3.toInt-1))))))<=(400:Int)))] []
theorem Pn(a0_0:ByteArray)(a0_1:AV)(a1:ByteArray)(a2_0:ByteArray)(a2_1:AV)(ha0_1:LK.has .sl a0_1)(ha2_1:LK.has .sl a2_1)(h:dC 18 (Jw a0_0 a0_1 a1 a2_0 a2_1) R):ap Tryz.prog 162 [.agg [VS a0_0,a0_1],VS a1,.agg [VS a2_0,a2_1]] [] R :=
 uQ (ah (cr (ah (aB _) (ah (bY ha0_1) aD))) (ah (aB _) (ah (cr (ah (aB _) (ah (bY ha2_1) aD))) aD))) (oQ [] Tryz.f162 h)
def IW(a0_0:ByteArray)(a0_1:AV)(a1:ByteArray)(a2_0:ByteArray)(a2_1:AV):Tree :=
 .call 78 [.agg [VS a0_0,a0_1],.sl [[VS a2_0,a2_1],[VS a1,.v (.slice none 0 0)]]] [] fun r1 o1=>NA r1<|.call 187 [.agg [VS ((r1.cs.getD 0 .any).ag),(r1.cs.getD 1 .any)],VS a1,.agg [VS a2_0,a2_1]] [] fun r2 o2=>NA r2<|.done 0 [.agg [VS ((r2.cs.getD 0 .any).ag),(r2.cs.getD 1 .any)]] []
theorem M9(a0_0:ByteArray)(a0_1:AV)(a1:ByteArray)(a2_0:ByteArray)(a2_1:AV)(ha0_1:LK.has .sl a0_1)(ha2_1:LK.has .sl a2_1)(h:dC 16 (IW a0_0 a0_1 a1 a2_0 a2_1) R):ap Tryz.prog 163 [.agg [VS a0_0,a0_1],VS a1,.agg [VS a2_0,a2_1]] [] R :=
 uQ (ah (cr (ah (aB _) (ah (bY ha0_1) aD))) (ah (aB _) (ah (cr (ah (aB _) (ah (bY ha2_1) aD))) aD))) (oQ [] Tryz.f163 h)
def Jm(a0:AV):Tree :=
 .call 188 [a0,.v (.func (.func 166) #[] #[])] [] fun r1 o1=>NI r1<|.done 0 [VB (decide (r1.toInt≥(0:Int)))] []
theorem ML(a0:AV)(ha0:LK.has .sl a0)(h:dC 9 (Jm a0) R):ap Tryz.prog 164 [a0,.v (.func (.func 166) #[] #[])] [] R :=
 uQ (ah (bY ha0) (ah (aB _) aD)) (oQ [] Tryz.f164 h)
def J5(a0:AV):Tree :=
 .call 91 [a0,.fn 189 [.ref 0 0]] [.cells [.vec 1],.vec 1 []] fun r1 o1=>.ak ((o1.hO)=.cells (o1.hO).cs)<|.ak (aM [.vec 1] ((o1.hO).cs) 0 1 o1.tail)<|.done 0 [.sl ((o1.tail.hO).es)] []
theorem PO(a0:AV)(ha0:LK.has .ptr a0)(h:dC 9 (J5 a0) R):ap Tryz.prog 165 [a0] [] R :=
 uQ (ah (bA ha0) aD) (oQ [] Tryz.f165 h)
def KS(a0:ByteArray):Tree :=
 .call 111 [VS a0,VS (mk [116])] [] fun r1 o1=>NB r1<|.done 0 [VB r1.toBool] []
theorem Pq(a0:ByteArray)(h:dC 5 (KS a0) R):ap Tryz.prog 166 [VS a0] [] R :=
 uQ (ah (aB _) aD) (oQ [] Tryz.f166 h)
def J7(a0:Int):Tree :=
 .test (decide (a0≥(97:Int))) (.test (decide (a0<=(122:Int))) (.done 0 [VB true] []) (.test (decide (a0≥(48:Int))) (.test (decide (a0<=(57:Int))) (.done 0 [VB true] []) (.test (a0==(42:Int)) (.done 0 [VB true] []) (.done 0 [VB (a0==(43:Int))] []))) (.test (a0==(42:Int)) (.done 0 [VB true] []) (.done 0 [VB (a0==(43:Int))] [])))) (.test (decide (a0≥(48:Int))) (.test (decide (a0<=(57:Int))) (.done 0 [VB true] []) (.test (a0==(42:Int)) (.done 0 [VB true] []) (.done 0 [VB (a0==(43:Int))] []))) (.test (a0==(42:Int)) (.done 0 [VB true] []) (.done 0 [VB (a0==(43:Int))] [])))
theorem Ph(a0:Int)(h:dC 25 (J7 a0) R):ap Tryz.prog 172 [.v (.int .u8 a0)] [] R :=
 uQ (ah (aB _) aD) (oQ [] Tryz.f172 h)
def J4(a0:Int):Tree :=
 .test (decide (a0≥(97:Int))) (.test (decide (a0<=(122:Int))) (.done 0 [VB true] []) (.test (decide (a0≥(48:Int))) (.test (decide (a0<=(57:Int))) (.done 0 [VB true] []) (.test (a0==(43:Int)) (.done 0 [VB true] []) (.done 0 [VB (a0==(42:Int))] []))) (.test (a0==(43:Int)) (.done 0 [VB true] []) (.done 0 [VB (a0==(42:Int))] [])))) (.test (decide (a0≥(48:Int))) (.test (decide (a0<=(57:Int))) (.done 0 [VB true] []) (.test (a0==(43:Int)) (.done 0 [VB true] []) (.done 0 [VB (a0==(42:Int))] []))) (.test (a0==(43:Int)) (.done 0 [VB true] []) (.done 0 [VB (a0==(42:Int))] [])))
theorem NM(a0:Int)(h:dC 25 (J4 a0) R):ap Tryz.prog 174 [.v (.int .u8 a0)] [] R :=
 uQ (ah (aB _) aD) (oQ [] Tryz.f174 h)
def KH(a0:Int)(a1:AV)(a2:AV):Tree :=
 .done 0 [.ptr [.v (.int .u8 a0),VS (mk []),VI 0,a1,a2]] []
theorem MV(a0:Int)(a1:AV)(a2:AV)(ha1:LK.has .ptr a1)(ha2:LK.has .ptr a2)(h:dC 12 (KH a0 a1 a2) R):ap Tryz.prog 183 [.v (.int .u8 a0),a1,a2] [] R :=
 uQ (ah (aB _) (ah (bA ha1) (ah (bA ha2) aD))) (oQ [] Tryz.f183 h)
def Fp:LI:={hd:={cf:=[(0,.k .ptr),(1,.k .sl),(9,.k .str)],refs:=[(3,0),(4,1)],co:=[(0,[.lk .sl]),(1,[.lk (.int .i64)])],uG:=[(2,184,[none,some 0,some 1])]},xs:={cf:=[(0,.k .ptr),(1,.k .sl),(9,.k .str)],co:=[(0,[.lk .sl]),(1,[.lk (.int .i64)])],uG:=[(2,184,[none,some 0,some 1])]},rt:={co:=[(0,[.lk .sl]),(1,[.lk (.int .i64)])]},ex:=1,fx:=[0,1]}
def IC:Code:=da (cS Tryz.f184) 12
def JY:List (Nat×LI):=[(12,Fp)]
def Ea(a0:AV)(a1:AV)(a3_0:AV)(a4_0:Int):Tree :=
 NZ a0<|NZ a0<|.ak (LK.has (.int .u8) (a0.deref.hA)/\1<=a0.deref.length)<|.test (((a0.deref.hA).toInt)==(110:Int)) (NZ a0<|NZ a0<|l0 (a0.deref.drop 1)<|.done 0 [VS (((a0.deref.drop 1).hA).ag)] [.cells [a3_0],.cells [VI a4_0]]) (.test (((a0.deref.hA).toInt)==(98:Int)) (NL a1<|NZ a0<|NZ a0<|.ak (LK.has (.int .i64) ((a0.deref.drop 2).hA)/\1<=(a0.deref.drop 2).length)<|.ak (LK.has .sl a1/\0<=(IntKind.wrap .i64 ((IntKind.wrap .i64 ((a1.aR.length:Int)-1))-(((a0.deref.drop 2).hA).toInt)))/\(IntKind.wrap .i64 ((IntKind.wrap .i64 ((a1.aR.length:Int)-1))-(((a0.deref.drop 2).hA).toInt)))<a1.aR.length/\(a1.ix (IntKind.wrap .i64 ((IntKind.wrap .i64 ((a1.aR.length:Int)-1))-(((a0.deref.drop 2).hA).toInt)))).length=1)<|l0 (a1.ix (IntKind.wrap .i64 ((IntKind.wrap .i64 ((a1.aR.length:Int)-1))-(((a0.deref.drop 2).hA).toInt))))<|.done 0 [VS (((a1.ix (IntKind.wrap .i64 ((IntKind.wrap .i64 ((a1.aR.length:Int)-1))-(((a0.deref.drop 2).hA).toInt)))).hA).ag)] [.cells [a3_0],.cells [VI a4_0]]) (.test (((a0.deref.hA).toInt)==(43:Int)) (NZ a0<|NZ a0<|ez (a0.deref.drop 3)<|.call 184 [((a0.deref.drop 3).hA),a1,.gM 184 [none,some 0,some 1],.ref 0 0,.ref 1 0] [.cells [a3_0],.cells [VI a4_0]] fun r1 o1=>.ak ((o1.hO)=.cells (o1.hO).cs)<|.ak (aM [.lk .sl] ((o1.hO).cs) 0 1 o1.tail)<|.ak ((o1.tail.hO)=.cells (o1.tail.hO).cs)<|.ak (aM [.lk (.int .i64)] ((o1.tail.hO).cs) 0 2 o1.tail.tail)<|NS r1<|NZ a0<|NZ a0<|.ak (LK.has (.int .u8) (a0.deref.hA)/\1<=a0.deref.length)<|.ak (jy [[.v (.int .u8 ((a0.deref.hA).toInt))]])<|.ak (ae (mk [40])+ae (⟨(bytesOf [[.v (.int .u8 ((a0.deref.hA).toInt))]]).toArray⟩)<=9223372036854775807)<|.ak (ae (((mk [40]):ByteArray)++(⟨(bytesOf [[.v (.int .u8 ((a0.deref.hA).toInt))]]).toArray⟩))+ae (mk [32])<=9223372036854775807)<|.ak (ae (((((mk [40]):ByteArray)++(⟨(bytesOf [[.v (.int .u8 ((a0.deref.hA).toInt))]]).toArray⟩)):ByteArray)++(mk [32]))+ae r1.ag<=9223372036854775807)<|.ak (ae (((((((mk [40]):ByteArray)++(⟨(bytesOf [[.v (.int .u8 ((a0.deref.hA).toInt))]]).toArray⟩)):ByteArray)++(mk [32])):ByteArray)++r1.ag)+ae (mk [32])<=9223372036854775807)<|NZ a0<|NZ a0<|ez (a0.deref.drop 4)<|.call 184 [((a0.deref.drop 4).hA),a1,.gM 184 [none,some 0,some 1],.ref 0 0,.ref 1 0] [.cells [((o1.hO).cs.getD 0 .any)],.cells [VI (((o1.tail.hO).cs.getD 0 .any).toInt)]] fun r2 o2=>.ak ((o2.hO)=.cells (o2.hO).cs)<|.ak (aM [.lk .sl] ((o2.hO).cs) 0 1 o2.tail)<|.ak ((o2.tail.hO)=.cells (o2.tail.hO).cs)<|.ak (aM [.lk (.int .i64)] ((o2.tail.hO).cs) 0 2 o2.tail.tail)<|NS r2<|.ak (ae (((((((((mk [40]):ByteArray)++(⟨(bytesOf [[.v (.int .u8 ((a0.deref.hA).toInt))]]).toArray⟩)):ByteArray)++(mk [32])):ByteArray)++r1.ag):ByteArray)++(mk [32]))+ae r2.ag<=9223372036854775807)<|.ak (ae (((((((((((mk [40]):ByteArray)++(⟨(bytesOf [[.v (.int .u8 ((a0.deref.hA).toInt))]]).toArray⟩)):ByteArray)++(mk [32])):ByteArray)++r1.ag):ByteArray)++(mk [32])):ByteArray)++r2.ag)+ae (mk [41])<=9223372036854775807)<|.done 0 [VS (((((((((((((mk [40]):ByteArray)++(⟨(bytesOf [[.v (.int .u8 ((a0.deref.hA).toInt))]]).toArray⟩)):ByteArray)++(mk [32])):ByteArray)++r1.ag):ByteArray)++(mk [32])):ByteArray)++r2.ag):ByteArray)++(mk [41]))] [.cells [((o2.hO).cs.getD 0 .any)],.cells [VI (((o2.tail.hO).cs.getD 0 .any).toInt)]]) (.test (((a0.deref.hA).toInt)==(42:Int)) (NZ a0<|NZ a0<|ez (a0.deref.drop 3)<|.call 184 [((a0.deref.drop 3).hA),a1,.gM 184 [none,some 0,some 1],.ref 0 0,.ref 1 0] [.cells [a3_0],.cells [VI a4_0]] fun r3 o3=>.ak ((o3.hO)=.cells (o3.hO).cs)<|.ak (aM [.lk .sl] ((o3.hO).cs) 0 1 o3.tail)<|.ak ((o3.tail.hO)=.cells (o3.tail.hO).cs)<|.ak (aM [.lk (.int .i64)] ((o3.tail.hO).cs) 0 2 o3.tail.tail)<|NS r3<|NZ a0<|NZ a0<|.ak (LK.has (.int .u8) (a0.deref.hA)/\1<=a0.deref.length)<|.ak (jy [[.v (.int .u8 ((a0.deref.hA).toInt))]])<|.ak (ae (mk [40])+ae (⟨(bytesOf [[.v (.int .u8 ((a0.deref.hA).toInt))]]).toArray⟩)<=9223372036854775807)<|.ak (ae (((mk [40]):ByteArray)++(⟨(bytesOf [[.v (.int .u8 ((a0.deref.hA).toInt))]]).toArray⟩))+ae (mk [32])<=9223372036854775807)<|.ak (ae (((((mk [40]):ByteArray)++(⟨(bytesOf [[.v (.int .u8 ((a0.deref.hA).toInt))]]).toArray⟩)):ByteArray)++(mk [32]))+ae r3.ag<=9223372036854775807)<|.ak (ae (((((((mk [40]):ByteArray)++(⟨(bytesOf [[.v (.int .u8 ((a0.deref.hA).toInt))]]).toArray⟩)):ByteArray)++(mk [32])):ByteArray)++r3.ag)+ae (mk [32])<=9223372036854775807)<|NZ a0<|NZ a0<|ez (a0.deref.drop 4)<|.call 184 [((a0.deref.drop 4).hA),a1,.gM 184 [none,some 0,some 1],.ref 0 0,.ref 1 0] [.cells [((o3.hO).cs.getD 0 .any)],.cells [VI (((o3.tail.hO).cs.getD 0 .any).toInt)]] fun r4 o4=>.ak ((o4.hO)=.cells (o4.hO).cs)<|.ak (aM [.lk .sl] ((o4.hO).cs) 0 1 o4.tail)<|.ak ((o4.tail.hO)=.cells (o4.tail.hO).cs)<|.ak (aM [.lk (.int .i64)] ((o4.tail.hO).cs) 0 2 o4.tail.tail)<|NS r4<|.ak (ae (((((((((mk [40]):ByteArray)++(⟨(bytesOf [[.v (.int .u8 ((a0.deref.hA).toInt))]]).toArray⟩)):ByteArray)++(mk [32])):ByteArray)++r3.ag):ByteArray)++(mk [32]))+ae r4.ag<=9223372036854775807)<|.ak (ae (((((((((((mk [40]):ByteArray)++(⟨(bytesOf [[.v (.int .u8 ((a0.deref.hA).toInt))]]).toArray⟩)):ByteArray)++(mk [32])):ByteArray)++r3.ag):ByteArray)++(mk [32])):ByteArray)++r4.ag)+ae (mk [41])<=9223372036854775807)<|.done 0 [VS (((((((((((((mk [40]):ByteArray)++(⟨(bytesOf [[.v (.int .u8 ((a0.deref.hA).toInt))]]).toArray⟩)):ByteArray)++(mk [32])):ByteArray)++r3.ag):ByteArray)++(mk [32])):ByteArray)++r4.ag):ByteArray)++(mk [41]))] [.cells [((o4.hO).cs.getD 0 .any)],.cells [VI (((o4.tail.hO).cs.getD 0 .any).toInt)]]) (.test (((a0.deref.hA).toInt)==(114:Int)) (.loop IC Fp [a0,a1,VS (mk [])] [.cells [a3_0],.cells [VI a4_0]] (fun y8 q8=>NP (y8.hA)<|NL (y8.tail.hA)<|NS (y8.tail.tail.hA)<|.ak ((q8.hO)=.cells (q8.hO).cs)<|.ak (af [.lk .sl] ((q8.hO).cs) 0 q8.tail)<|.ak (((q8.tail.drop 0).hO)=.cells ((q8.tail.drop 0).hO).cs)<|.ak (af [.lk (.int .i64)] (((q8.tail.drop 0).hO).cs) 0 ((q8.tail.drop 0).tail))<|.ak (ae (mk [40,114,101,99,32])+ae ((y8.tail.tail.hA).ag)<=9223372036854775807)<|.ak (ae (((mk [40,114,101,99,32]):ByteArray)++((y8.tail.tail.hA).ag))+ae (mk [32])<=9223372036854775807)<|NZ (y8.hA)<|NZ (y8.hA)<|ez ((y8.hA).deref.drop 3)<|.ak (LK.has .sl (y8.tail.hA)/\cE 1 ((y8.tail.hA).aR)/\((([]:List (List AV)).length)+((y8.tail.hA).aR).length)*16<=140737488355328)<|.ak (cE 1 [[VS ((y8.tail.tail.hA).ag)]]/\(((([]:List (List AV))++((y8.tail.hA).aR)).length)+([[VS ((y8.tail.tail.hA).ag)]]:List (List AV)).length)*16<=140737488355328)<|.call 184 [(((y8.hA).deref.drop 3).hA),.sl ((([]:List (List AV))++((y8.tail.hA).aR))++([[VS ((y8.tail.tail.hA).ag)]]:List (List AV))),.gM 184 [none,some 0,some 1],.ref 0 0,.ref 1 0] [.cells [((q8.hO).cs.getD 0 .any)],.cells [VI (((q8.tail.hO).cs.getD 0 .any).toInt)]] fun r9 o9=>.ak ((o9.hO)=.cells (o9.hO).cs)<|.ak (aM [.lk .sl] ((o9.hO).cs) 0 1 o9.tail)<|.ak ((o9.tail.hO)=.cells (o9.tail.hO).cs)<|.ak (aM [.lk (.int .i64)] ((o9.tail.hO).cs) 0 2 o9.tail.tail)<|NS r9<|.ak (ae (((((mk [40,114,101,99,32]):ByteArray)++((y8.tail.tail.hA).ag)):ByteArray)++(mk [32]))+ae r9.ag<=9223372036854775807)<|.ak (ae (((((((mk [40,114,101,99,32]):ByteArray)++((y8.tail.tail.hA).ag)):ByteArray)++(mk [32])):ByteArray)++r9.ag)+ae (mk [41])<=9223372036854775807)<|.done 0 [VS (((((((((mk [40,114,101,99,32]):ByteArray)++((y8.tail.tail.hA).ag)):ByteArray)++(mk [32])):ByteArray)++r9.ag):ByteArray)++(mk [41]))] [.cells [((o9.hO).cs.getD 0 .any)],.cells [VI (((o9.tail.hO).cs.getD 0 .any).toInt)]]) (fun y8 q8=>.ak ((q8.hO)=.cells (q8.hO).cs)<|.ak (af [.lk .sl] ((q8.hO).cs) 0 q8.tail)<|.ak (((q8.tail.drop 0).hO)=.cells ((q8.tail.drop 0).hO).cs)<|.ak (af [.lk (.int .i64)] (((q8.tail.drop 0).hO).cs) 0 ((q8.tail.drop 0).tail))<|.done 0 [.any] [.cells [((q8.hO).cs.getD 0 .any)],.cells [VI (((q8.tail.hO).cs.getD 0 .any).toInt)]])) (NZ a0<|NZ a0<|.ak (LK.has (.int .u8) (a0.deref.hA)/\1<=a0.deref.length)<|.ak (jy [[.v (.int .u8 ((a0.deref.hA).toInt))]])<|.done 0 [VS (⟨(bytesOf [[.v (.int .u8 ((a0.deref.hA).toInt))]]).toArray⟩)] [.cells [a3_0],.cells [VI a4_0]])))))
theorem GH(a0:AV)(a1:AV)(a3_0:AV)(a4_0:Int)(ha0:LK.has .ptr a0)(ha1:LK.has .sl a1)(ha3_0:LK.has .sl a3_0)(h:dC 100 (Ea a0 a1 a3_0 a4_0) R):ap Tryz.prog 184 [a0,a1,.gM 184 [none,some 0,some 1],.ref 0 0,.ref 1 0] [.cells [a3_0],.cells [VI a4_0]] R :=
 ap.nS (bw (cc (ah (bY ha3_0) aD)) (bw (cc (ah (aB _) aD)) cx)) (ap.up (ah (bA ha0) (ah (bY ha1) (ah (aB _) (ah (aB _) (ah (aB _) aD))))) (oF JY {mu:=[(2,.yT 184 [none,some 0,some 1]),(3,.one (.obj [.lk .sl])),(4,.one (.obj [.lk (.int .i64)]))],own:=[]} Tryz.f184 h))
def GY(x0:AV)(x1:AV)(x9:ByteArray)(o0_0:AV)(o1_0:Int):Tree :=
 NP x0<|NL x1<|NS (VS x9)<|.ak (Ob.cells [o0_0]=.cells [o0_0])<|.ak (af [.lk .sl] [o0_0] 0 [.cells [VI o1_0]])<|.ak (Ob.cells [VI o1_0]=.cells [VI o1_0])<|.ak (af [.lk (.int .i64)] [VI o1_0] 0 [])<|.test (ac x9==ac (mk [])) (.call 94 [VI o1_0] [] fun r1 o1=>NS r1<|.ak (ae (mk [116])+ae r1.ag<=9223372036854775807)<|.done 0 [x0,x1,VS (((mk [116]):ByteArray)++r1.ag)] [.cells [o0_0],.cells [VI (IntKind.wrap .i64 (o1_0+1))]]) (.call 185 [o0_0,VS x9] [] fun r2 o2=>NB r2<|.test r2.toBool (.call 94 [VI o1_0] [] fun r3 o3=>NS r3<|.ak (ae (mk [116])+ae r3.ag<=9223372036854775807)<|.done 0 [x0,x1,VS (((mk [116]):ByteArray)++r3.ag)] [.cells [o0_0],.cells [VI (IntKind.wrap .i64 (o1_0+1))]]) (.done 1 [x0,x1,VS x9] [.cells [o0_0],.cells [VI o1_0]]))
abbrev Cg:=cI Tryz.prog 100 IC Fp
theorem Kb(x0:AV)(x1:AV)(x9:ByteArray)(o0_0:AV)(o1_0:Int)(h:l4 100 (GY x0 x1 x9 o0_0 o1_0) Cg U):Cg [x0,x1,VS x9] [.cells [o0_0],.cells [VI o1_0]] U :=
 gQ JY h
def Je(a0:AV)(a1:ByteArray):Tree :=
 .call 202 [a0,VS a1] [] fun r1 o1=>NI r1<|.done 0 [VB (decide (r1.toInt≥(0:Int)))] []
theorem Px(a0:AV)(a1:ByteArray)(ha0:LK.has .sl a0)(h:dC 9 (Je a0 a1) R):ap Tryz.prog 185 [a0,VS a1] [] R :=
 uQ (ah (bY ha0) (ah (aB _) aD)) (oQ [] Tryz.f185 h)
def At(a0_0:ByteArray)(a0_1:AV)(a1:ByteArray):Tree :=
 .test (!(ac a0_0==ac (mk []))) (.test (ac a0_0==ac a1) (.done 0 [VI 1] []) (.done 0 [VI 0] [])) (.call 90 [.agg [VS a0_0,a0_1]] [] fun r1 o1=>NS r1<|.test (ac r1.ag==ac (mk [114,101,99])) (NG a0_1 1 2<|l0 (a0_1.ix (1:Int))<|.test (ac (((a0_1.ix (1:Int)).hA).ag)==ac a1) (.done 0 [VI 0] []) (NG a0_1 2 2<|NE (a0_1.ix (2:Int))<|.call 186 [.agg [VS (((a0_1.ix (2:Int)).getD 0 .any).ag),((a0_1.ix (2:Int)).getD 1 .any)],VS a1] [] fun r2 o2=>NI r2<|.done 0 [VI r2.toInt] [])) (NG a0_1 1 2<|NE (a0_1.ix (1:Int))<|.call 186 [.agg [VS (((a0_1.ix (1:Int)).getD 0 .any).ag),((a0_1.ix (1:Int)).getD 1 .any)],VS a1] [] fun r3 o3=>NI r3<|NG a0_1 2 2<|NE (a0_1.ix (2:Int))<|.call 186 [.agg [VS (((a0_1.ix (2:Int)).getD 0 .any).ag),((a0_1.ix (2:Int)).getD 1 .any)],VS a1] [] fun r4 o4=>NI r4<|.done 0 [VI (IntKind.wrap .i64 (r3.toInt+r4.toInt))] []))
theorem Ct(a0_0:ByteArray)(a0_1:AV)(a1:ByteArray)(ha0_1:LK.has .sl a0_1)(h:dC 41 (At a0_0 a0_1 a1) R):ap Tryz.prog 186 [.agg [VS a0_0,a0_1],VS a1] [] R :=
 uQ (ah (cr (ah (aB _) (ah (bY ha0_1) aD))) (ah (aB _) aD)) (oQ [] Tryz.f186 h)
def AJ(a0_0:ByteArray)(a0_1:AV)(a1:ByteArray)(a2_0:ByteArray)(a2_1:AV):Tree :=
 .test (!(ac a0_0==ac (mk []))) (.test (ac a0_0==ac a1) (.done 0 [.agg [VS a2_0,a2_1]] []) (.done 0 [.agg [VS a0_0,a0_1]] [])) (.call 90 [.agg [VS a0_0,a0_1]] [] fun r1 o1=>NS r1<|.test (ac r1.ag==ac (mk [114,101,99])) (NG a0_1 1 2<|l0 (a0_1.ix (1:Int))<|.test (ac (((a0_1.ix (1:Int)).hA).ag)==ac a1) (.done 0 [.agg [VS a0_0,a0_1]] []) (NG a0_1 1 2<|NE (a0_1.ix (1:Int))<|NG a0_1 2 2<|NE (a0_1.ix (2:Int))<|.call 187 [.agg [VS (((a0_1.ix (2:Int)).getD 0 .any).ag),((a0_1.ix (2:Int)).getD 1 .any)],VS a1,.agg [VS a2_0,a2_1]] [] fun r2 o2=>NA r2<|.call 69 [VS (mk [114,101,99]),.sl [[VS (((a0_1.ix (1:Int)).getD 0 .any).ag),((a0_1.ix (1:Int)).getD 1 .any)],[VS ((r2.cs.getD 0 .any).ag),(r2.cs.getD 1 .any)]]] [] fun r3 o3=>NA r3<|.done 0 [.agg [VS ((r3.cs.getD 0 .any).ag),(r3.cs.getD 1 .any)]] [])) (.call 90 [.agg [VS a0_0,a0_1]] [] fun r4 o4=>NS r4<|NG a0_1 1 2<|NE (a0_1.ix (1:Int))<|.call 187 [.agg [VS (((a0_1.ix (1:Int)).getD 0 .any).ag),((a0_1.ix (1:Int)).getD 1 .any)],VS a1,.agg [VS a2_0,a2_1]] [] fun r5 o5=>NA r5<|NG a0_1 2 2<|NE (a0_1.ix (2:Int))<|.call 187 [.agg [VS (((a0_1.ix (2:Int)).getD 0 .any).ag),((a0_1.ix (2:Int)).getD 1 .any)],VS a1,.agg [VS a2_0,a2_1]] [] fun r6 o6=>NA r6<|.call 69 [VS r4.ag,.sl [[VS ((r5.cs.getD 0 .any).ag),(r5.cs.getD 1 .any)],[VS ((r6.cs.getD 0 .any).ag),(r6.cs.getD 1 .any)]]] [] fun r7 o7=>NA r7<|.done 0 [.agg [VS ((r7.cs.getD 0 .any).ag),(r7.cs.getD 1 .any)]] []))
theorem CL(a0_0:ByteArray)(a0_1:AV)(a1:ByteArray)(a2_0:ByteArray)(a2_1:AV)(ha0_1:LK.has .sl a0_1)(ha2_1:LK.has .sl a2_1)(h:dC 58 (AJ a0_0 a0_1 a1 a2_0 a2_1) R):ap Tryz.prog 187 [.agg [VS a0_0,a0_1],VS a1,.agg [VS a2_0,a2_1]] [] R :=
 uQ (ah (cr (ah (aB _) (ah (bY ha0_1) aD))) (ah (aB _) (ah (cr (ah (aB _) (ah (bY ha2_1) aD))) aD))) (oQ [] Tryz.f187 h)
def GM:LI:={hd:={cf:=[(0,.k .sl),(1,.c (.func (.func 166) #[] #[])),(7,.k (.int .i64)),(8,.k (.int .i64))]},xs:={},rt:={cf:=[(4,.k (.int .i64))]},ex:=0}
def ID:Code:=da (cS Tryz.f188) 2
def Js:List (Nat×LI):=[(2,GM)]
def Ip(a0:AV):Tree :=
 NL a0<|.loop ID GM [a0,.v (.func (.func 166) #[] #[]),VI (a0.aR.length:Int),VI 0] [] (fun y2 q2=>.done 0 [VI (-1)] []) (fun y2 q2=>NI (y2.hA)<|.done 0 [VI ((y2.hA).toInt)] [])
theorem Nk(a0:AV)(ha0:LK.has .sl a0)(h:dC 19 (Ip a0) R):ap Tryz.prog 188 [a0,.v (.func (.func 166) #[] #[])] [] R :=
 uQ (ah (bY ha0) (ah (aB _) aD)) (oQ Js Tryz.f188 h)
def FB(x0:AV)(x7:Int)(x8:Int):Tree :=
 NL x0<|.ak (AV.v (.func (.func 166) #[] #[])=.v (.func (.func 166) #[] #[]))<|NI (VI x7)<|NI (VI x8)<|.test (decide (x8<x7)) (NG x0 x8 1<|l0 (x0.ix x8)<|.call 166 [VS (((x0.ix x8).hA).ag)] [] fun r1 o1=>NB r1<|.test r1.toBool (.done 2 [VI x8] []) (.done 0 [x0,.v (.func (.func 166) #[] #[]),VI x7,VI (IntKind.wrap .i64 (x8+1))] [])) (.done 1 [] [])
abbrev Gv:=cI Tryz.prog 19 ID GM
theorem JJ(x0:AV)(x7:Int)(x8:Int)(h:l4 19 (FB x0 x7 x8) Gv U):Gv [x0,.v (.func (.func 166) #[] #[]),VI x7,VI x8] [] U :=
 gQ Js h
def EN(a0:AV)(e1_0:List (List AV)):Tree :=
 NZ a0<|NZ a0<|.ak (LK.has (.int .u8) (a0.deref.hA)/\1<=a0.deref.length)<|.test (((a0.deref.hA).toInt)==(110:Int)) (NZ a0<|NZ a0<|l0 (a0.deref.drop 1)<|.call 185 [.sl e1_0,VS (((a0.deref.drop 1).hA).ag)] [] fun r1 o1=>NB r1<|.test (!r1.toBool) (NZ a0<|NZ a0<|l0 (a0.deref.drop 1)<|.ak (cE 1 [[VS (((a0.deref.drop 1).hA).ag)]]/\((e1_0.length)+([[VS (((a0.deref.drop 1).hA).ag)]]:List (List AV)).length)*16<=140737488355328)<|.done 0 [.any] [.cells [.vec 1],.vec 1 (e1_0++([[VS (((a0.deref.drop 1).hA).ag)]]:List (List AV)))]) (.done 0 [.any] [.cells [.vec 1],.vec 1 e1_0])) (.done 0 [.any] [.cells [.vec 1],.vec 1 e1_0])
theorem Pd(a0:AV)(e1_0:List (List AV))(ha0:LK.has .ptr a0)(h:dC 24 (EN a0 e1_0) R):ap Tryz.prog 189 [a0,.ref 0 0] [.cells [.vec 1],.vec 1 e1_0] R :=
 ap.nS (bw (cc (ah (aB _) aD)) (bw (gv _) cx)) (ap.up (ah (bA ha0) (ah (aB _) aD)) (oF [] {mu:=[(1,.one (.obj [.vec 1]))],own:=[]} Tryz.f189 h))
def Ft:LI:={hd:={cf:=[(0,.k .sl),(1,.k .str),(7,.k (.int .i64)),(8,.k (.int .i64))]},xs:={},rt:={cf:=[(4,.k (.int .i64))]},ex:=0}
def Iz:Code:=da (cS Tryz.f202) 2
def LY:List (Nat×LI):=[(2,Ft)]
def LN(a0:AV)(a1:ByteArray):Tree :=
 NL a0<|.loop Iz Ft [a0,VS a1,VI (a0.aR.length:Int),VI 0] [] (fun y1 q1=>.done 0 [VI (-1)] []) (fun y1 q1=>NI (y1.hA)<|.done 0 [VI ((y1.hA).toInt)] [])
theorem MZ(a0:AV)(a1:ByteArray)(ha0:LK.has .sl a0)(h:dC 19 (LN a0 a1) R):ap Tryz.prog 202 [a0,VS a1] [] R :=
 uQ (ah (bY ha0) (ah (aB _) aD)) (oQ LY Tryz.f202 h)
def Er(x0:AV)(x1:ByteArray)(x7:Int)(x8:Int):Tree :=
 NL x0<|NS (VS x1)<|NI (VI x7)<|NI (VI x8)<|.test (decide (x8<x7)) (NG x0 x8 1<|l0 (x0.ix x8)<|.test (ac x1==ac (((x0.ix x8).hA).ag)) (.done 2 [VI x8] []) (.done 0 [x0,VS x1,VI x7,VI (IntKind.wrap .i64 (x8+1))] [])) (.done 1 [] [])
abbrev EK:=cI Tryz.prog 19 Iz Ft
theorem Lh(x0:AV)(x1:ByteArray)(x7:Int)(x8:Int)(h:l4 19 (Er x0 x1 x7 x8) EK U):EK [x0,VS x1,VI x7,VI x8] [] U :=
 gQ LY h
end
end Go.Proofs.Trees
namespace Go.Proofs.Trees
open Go Go.VL
theorem bE(i:Nat)(h:i<1000000000000):IntKind.wrap .i64 ((i:Int)+1)=((i+1:Nat):Int):=by rw[wrap64]<;>omega
inductive E where
 |atom (s:List UInt8)
 |list (l:List E)
mutual
def E.ct:E->AV
 | .atom s=>.ptr [.v (.string (mk s)),.v (.slice none 0 0)]
 | .list l=>.ptr [.v (.string (mk [])),.sl (E.l8 l)]
def E.l8:List E->List (List AV)
 |[]=>[]
 |e::l=>[e.ct]::E.l8 l
end
mutual
def E.ic:E->List AV
 | .atom s=>[.v (.string (mk s)),.v (.slice none 0 0)]
 | .list l=>[.v (.string (mk [])),.sl (E.bj l)]
def E.bj:List E->List (List AV)
 |[]=>[]
 |e::l=>e.ic::E.bj l
end
def E.km(e:E):AV:=.agg e.ic
theorem vq(l r:List E):E.l8 (l++r)=E.l8 l++E.l8 r:=by
 induction l with
 |nil=>rfl
 |cons e l ih=>simp[E.l8,ih]
theorem p5(l r:List E):E.bj (l++r)=E.bj l++E.bj r:=by
 induction l with
 |nil=>rfl
 |cons e l ih=>simp[E.bj,ih]
theorem qO(l:List E):(E.l8 l).length=l.length:=by
 induction l with
 |nil=>rfl
 |cons e l ih=>simp[E.l8,ih]
theorem ei(l:List E):(E.bj l).length=l.length:=by
 induction l with
 |nil=>rfl
 |cons e l ih=>simp[E.bj,ih]
def eZ(b:UInt8):Bool:=decide ((97<=b.toNat/\b.toNat<=122)\/(48<=b.toNat/\b.toNat<=57)\/b.toNat=43\/b.toNat=42)
def rQ(f:List UInt8->Option (E×List UInt8)):Nat->List UInt8->List E->Option (E×List UInt8)
 |0,_,_=>none
 |
  n+1,s,acc=>match f s with
  |some (p,c::r)=>if c.toNat=41 then some (.list (acc++[p]),r)else if c.toNat=32 then rQ f n r (acc++[p])else none
  |_=>none
def rd:Nat->List UInt8->Option (E×List UInt8)
 |0,s=>if s.takeWhile eZ=[]then none else some (.atom (s.takeWhile eZ),s.dropWhile eZ)
 |k+1,s=>if s.takeWhile eZ=[]then(match s with
  |c::r=>if c.toNat=40 then rQ (rd k) (r.length+1) r []else none
  |[]=>none)else some (.atom (s.takeWhile eZ),s.dropWhile eZ)
theorem BV{f:List UInt8->Option (E×List UInt8)}(hf:∀s e r,f s=some (e,r)->r.length<s.length):∀(n:Nat) (s:List UInt8) (acc:List E) (e:E) (r:List UInt8),rQ f n s acc=some (e,r)->r.length<s.length
 |0,s,acc,e,r,h=>by cases h
 |
  n+1,s,acc,e,r,h=>by
  simp only[rQ]at h
  split at h
  ·rename_i p c r' hs
   have:=hf _ _ _ hs
   simp only[aw]at this
   split at h
   ·cases h;omega
   ·split at h
    ·have:=BV hf n _ _ _ _ h;omega
    ·cases h
  ·cases h
theorem oW{s:List UInt8}(h:¬s.takeWhile eZ=[]):(s.dropWhile eZ).length<s.length:=by
 have h1:=congrArg List.length (bV (p:=eZ) (l:=s))
 simp only[an]at h1
 have:0<(s.takeWhile eZ).length:=List.length_pos_iff.2 h
 omega
theorem w6:∀(k:Nat) (s:List UInt8) (e:E) (r:List UInt8),rd k s=some (e,r)->r.length<s.length
 |
  0,s,e,r,h=>by
  simp only[rd]at h
  split at h
  ·cases h
  ·rename_i hn;cases h;exact oW hn
 |
  k+1,s,e,r,h=>by
  simp only[rd]at h
  split at h
  ·split at h
   ·split at h
    ·have:=BV (w6 k) _ _ _ _ _ h
     simp only[aw];omega
    ·cases h
   ·cases h
  ·rename_i hn;cases h;exact oW hn
theorem Po(b:UInt8):ap Tryz.prog 174 [.v (.int .u8 (b.toNat:Int))] [] (bD (.v (.bool (eZ b)))):=by
 refine NM _ ?_
 simp only[J4,↓zq,zs,af,bD,eZ]
 repeat' (apply aH<;>intro _)
 all_goals first|(congr 2;rw[cn];simp;omega)|(congr 2;simp;omega)
theorem xm{s:List UInt8}{i:Nat}(hi:i<s.length)(hb:eZ (s.getD i 0)=true):((s.drop i).takeWhile eZ).length=((s.drop (i+1)).takeWhile eZ).length+1:=by
 have e:s.drop i=s.getD i 0::s.drop (i+1):=by
  rw[aY hi];simp[aa,hi]
 rw[e,List.takeWhile_cons_of_pos hb];simp
theorem qB{s:List UInt8}{i:Nat}(hi:i<s.length)(hb:eZ (s.getD i 0)=false):(s.drop i).takeWhile eZ=[]:=by
 have e:s.drop i=s.getD i 0::s.drop (i+1):=by
  rw[aY hi];simp[aa,hi]
 rw[e,List.takeWhile_cons_of_neg (by rw[hb];simp)]
theorem F7(s:List UInt8)(hs:s.length<=8000)(d:Int):∀(k i:Nat),i+k=s.length->Ei [.v (.string (mk s)),.v (.int .i64 d),.v (.int .i64 (i:Int))] [] (iF 1 [.v (.string (mk s)),.v (.int .i64 d),.v (.int .i64 ((i+((s.drop i).takeWhile eZ).length:Nat):Int))] [])
 |
  0,i,hi=>by
  refine Kg _ _ _ ?_
  have hd:s.drop i=[]:=bM (by omega)
  simp only[Gz,↓zq,zs,af,zt]
  exact⟨fun h=>by omega,fun _=>by simp[iF,hd]⟩
 |
  k+1,i,hi=>by
  have hlt:i<s.length:=by omega
  refine Kg _ _ _ ?_
  simp only[Gz,↓zq,zs,af,zt,lU s i hlt]
  refine⟨fun _=>⟨by omega,?_⟩,fun h=>by omega⟩
  refine ai (Po _) ?_
  simp only[↓zq,zs,af]
  refine⟨fun hb=>?_,fun hb=>?_⟩
  ·rw[bE i (by omega)]
   have:=F7 s hs d k (i+1) (by omega)
   rw[xm hlt hb,show i+(((s.drop (i+1)).takeWhile eZ).length+1)=i+1+((s.drop (i+1)).takeWhile eZ).length by omega]
   exact this
  ·simp[iF,qB hlt hb]
def ol(s:List UInt8):Option (E×List UInt8)->AV
 |some (e,r)=>.cA [e.ct,.v (.string (mk r))]
 |none=>.cA [.v (.pointer none),.v (.string (mk s))]
theorem cQ(e:E):LK.has .ptr e.ct=True:=by cases e<;>simp[E.ct,ck]
theorem en(e:E):e.ct.isNil=false:=by cases e<;>rfl
theorem tL(s:List UInt8):s.take (s.takeWhile eZ).length=s.takeWhile eZ:=by
 have h:=bV (p:=eZ) (l:=s)
 have:(s.takeWhile eZ++s.dropWhile eZ).take (s.takeWhile eZ).length=s.takeWhile eZ:=List.take_left
 rw[h]at this;exact this
theorem yp(s:List UInt8):s.drop (s.takeWhile eZ).length=s.dropWhile eZ:=by
 have h:=bV (p:=eZ) (l:=s)
 have:(s.takeWhile eZ++s.dropWhile eZ).drop (s.takeWhile eZ).length=s.dropWhile eZ:=List.drop_left
 rw[h]at this;exact this
theorem zO(c:UInt8)(r:List UInt8):(List.take (r.length+1) (c::r)).drop (bW 1)=r:=by simp
end Go.Proofs.Trees
