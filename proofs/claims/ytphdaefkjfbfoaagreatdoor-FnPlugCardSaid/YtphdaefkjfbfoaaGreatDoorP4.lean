/-
  Part of a proof: Go functions read by values, trees of functions, their contracts.
-/
import Derived.Test.YtphdaefkjfbfoaaGreatDoorP3
import Derived.Shelf.Lays
import Derived.Shelf.LaysM
import Derived.Shelf.Strconv.Itoa3
import Derived.Shelf.Strconv.Atoi
import Derived.Shelf.Strings.SlTrimAscii
import Derived.Shelf.Strings.Search3
import Derived.Test.YtphdaefkjfbfoaaGreatDoorProg
set_option linter.unusedVariables false
set_option linter.unusedSimpArgs false
open And renaming intro→aH
open Bool renaming eq_iff_iff→cu
open ByteArray renaming extract→bZ,size→ae,toList→ac
open Int renaming cast_ofNat_Int→dh,ofNat_eq_natCast→cL,tmod→dB,toNat→bW
open List renaming drop_eq_getElem_cons→aY,drop_eq_nil_of_le→bJ,getD_eq_getElem?_getD→aa,length_append→an,length_cons→aw,takeWhile_append_dropWhile→bV
open Nat renaming zero_add→aU
namespace Go.Proofs
open Go.Shelf
def Tryz.uT:Go.Shelf.Ren:=⟨fun|160=>152|232=>177|231=>176|227=>178|234=>180|233=>179|236=>182|235=>181|228=>198|271=>201|151=>200|197=>199|120=>216|152=>215|260=>214|137=>221|119=>222|224=>212|225=>211|217=>210|266=>219|n=>n,fun|9=>9|4=>4|3=>3|5=>5|117=>219|116=>218|0=>0|124=>222|21=>21|105=>240|46=>230|119=>260|139=>263|138=>262|n=>n,fun|3=>4|4=>5|n=>n⟩
theorem Tryz.Cc:Go.Proofs.Lays.n160 Tryz.prog Tryz.uT:={
 mixed:=by kernel_rfl,
 f119:=Tryz.func222.trans (congrArg some (by kernel_rfl)),
 f120:=Tryz.func216.trans (congrArg some (by kernel_rfl)),
 f137:=Tryz.func221.trans (congrArg some (by kernel_rfl)),
 f151:=Tryz.func200.trans (congrArg some (by kernel_rfl)),
 f152:=Tryz.func215.trans (congrArg some (by kernel_rfl)),
 f160:=Tryz.func152.trans (congrArg some (by kernel_rfl)),
 f197:=Tryz.func199.trans (congrArg some (by kernel_rfl)),
 f217:=Tryz.func210.trans (congrArg some (by kernel_rfl)),
 f224:=Tryz.func212.trans (congrArg some (by kernel_rfl)),
 f225:=Tryz.func211.trans (congrArg some (by kernel_rfl)),
 f227:=Tryz.func178.trans (congrArg some (by kernel_rfl)),
 f228:=Tryz.func198.trans (congrArg some (by kernel_rfl)),
 f231:=Tryz.func176.trans (congrArg some (by kernel_rfl)),
 f232:=Tryz.func177.trans (congrArg some (by kernel_rfl)),
 f233:=Tryz.func179.trans (congrArg some (by kernel_rfl)),
 f234:=Tryz.func180.trans (congrArg some (by kernel_rfl)),
 f235:=Tryz.func181.trans (congrArg some (by kernel_rfl)),
 f236:=Tryz.func182.trans (congrArg some (by kernel_rfl)),
 f260:=Tryz.func214.trans (congrArg some (by kernel_rfl)),
 f266:=Tryz.func219.trans (congrArg some (by kernel_rfl)),
 f271:=Tryz.func201.trans (congrArg some (by kernel_rfl)),
 t0:=Tryz.underlying0,
 a0:=Tryz.isAgg0,
 z0:=Tryz.sizeOf0,
 v0:=Tryz.zeroValue0,
 t3:=Tryz.underlying3,
 a3:=Tryz.isAgg3,
 z3:=Tryz.sizeOf3,
 v3:=Tryz.zeroValue3,
 t4:=Tryz.underlying4,
 a4:=Tryz.isAgg4,
 z4:=Tryz.sizeOf4,
 v4:=Tryz.zeroValue4,
 t5:=Tryz.underlying5,
 a5:=Tryz.isAgg5,
 z5:=Tryz.sizeOf5,
 v5:=Tryz.zeroValue5,
 t9:=Tryz.underlying9,
 a9:=Tryz.isAgg9,
 z9:=Tryz.sizeOf9,
 v9:=Tryz.zeroValue9,
 t21:=Tryz.underlying21,
 a21:=Tryz.isAgg21,
 z21:=Tryz.sizeOf21,
 v21:=Tryz.zeroValue21,
 t46:=Tryz.underlying230,
 a46:=Tryz.isAgg230,
 z46:=Tryz.sizeOf230,
 v46:=Tryz.zeroValue230,
 t105:=Tryz.underlying240,
 a105:=Tryz.isAgg240,
 z105:=Tryz.sizeOf240,
 v105:=Tryz.zeroValue240,
 t116:=Tryz.underlying218,
 a116:=Tryz.isAgg218,
 z116:=Tryz.sizeOf218,
 t117:=Tryz.underlying219,
 a117:=Tryz.isAgg219,
 z117:=Tryz.sizeOf219,
 v117:=Tryz.zeroValue219,
 t119:=Tryz.underlying260,
 a119:=Tryz.isAgg260,
 z119:=Tryz.sizeOf260,
 t124:=Tryz.underlying222,
 a124:=Tryz.isAgg222,
 z124:=Tryz.sizeOf222,
 v124:=Tryz.zeroValue222,
 t138:=Tryz.underlying262,
 a138:=Tryz.isAgg262,
 z138:=Tryz.sizeOf262,
 v138:=Tryz.zeroValue262,
 t139:=Tryz.underlying263,
 a139:=Tryz.isAgg263,
 z139:=Tryz.sizeOf263,
 v139:=Tryz.zeroValue263,
 g3:=by kernel_rfl,
 g4:=by kernel_rfl}
def Tryz.uJ:Go.Shelf.Ren:=⟨fun|144=>151|143=>175|219=>197|217=>210|225=>211|224=>212|267=>213|266=>219|314=>220|n=>n,fun|9=>9|4=>4|3=>3|5=>5|46=>230|146=>258|51=>251|n=>n,fun|1=>3|n=>n⟩
theorem Tryz.DF:Go.Proofs.Lays.n144 Tryz.prog Tryz.uJ:={
 mixed:=by kernel_rfl,
 f143:=Tryz.func175.trans (congrArg some (by kernel_rfl)),
 f144:=Tryz.func151.trans (congrArg some (by kernel_rfl)),
 f217:=Tryz.func210.trans (congrArg some (by kernel_rfl)),
 f219:=Tryz.func197.trans (congrArg some (by kernel_rfl)),
 f224:=Tryz.func212.trans (congrArg some (by kernel_rfl)),
 f225:=Tryz.func211.trans (congrArg some (by kernel_rfl)),
 f266:=Tryz.func219.trans (congrArg some (by kernel_rfl)),
 f267:=Tryz.func213.trans (congrArg some (by kernel_rfl)),
 f314:=Tryz.func220.trans (congrArg some (by kernel_rfl)),
 t3:=Tryz.underlying3,
 a3:=Tryz.isAgg3,
 z3:=Tryz.sizeOf3,
 v3:=Tryz.zeroValue3,
 t4:=Tryz.underlying4,
 a4:=Tryz.isAgg4,
 z4:=Tryz.sizeOf4,
 v4:=Tryz.zeroValue4,
 t5:=Tryz.underlying5,
 a5:=Tryz.isAgg5,
 z5:=Tryz.sizeOf5,
 v5:=Tryz.zeroValue5,
 t9:=Tryz.underlying9,
 a9:=Tryz.isAgg9,
 z9:=Tryz.sizeOf9,
 v9:=Tryz.zeroValue9,
 t46:=Tryz.underlying230,
 a46:=Tryz.isAgg230,
 z46:=Tryz.sizeOf230,
 v46:=Tryz.zeroValue230,
 t51:=Tryz.underlying251,
 a51:=Tryz.isAgg251,
 z51:=Tryz.sizeOf251,
 v51:=Tryz.zeroValue251,
 t146:=Tryz.underlying258,
 a146:=Tryz.isAgg258,
 z146:=Tryz.sizeOf258,
 v146:=Tryz.zeroValue258,
 g1:=by kernel_rfl}
def Tryz.uP:Go.Shelf.Ren:=⟨fun|172=>81|244=>134|245=>135|247=>167|279=>168|280=>169|281=>170|282=>171|287=>190|316=>191|171=>94|205=>192|321=>203|322=>204|243=>140|246=>173|283=>193|284=>194|285=>195|286=>196|129=>206|317=>205|318=>207|319=>208|320=>209|337=>217|338=>218|n=>n,fun|9=>9|3=>3|75=>121|76=>122|4=>4|5=>5|167=>205|37=>22|0=>0|85=>206|2=>2|168=>208|53=>227|175=>228|46=>230|210=>233|127=>245|145=>248|143=>246|21=>21|171=>235|173=>238|212=>250|51=>251|20=>20|213=>252|232=>265|233=>266|80=>134|n=>n,fun|15=>0|16=>1|17=>2|18=>6|19=>7|n=>n⟩
theorem Tryz.B8:Go.Proofs.Lays.n172 Tryz.prog Tryz.uP:={
 mixed:=by kernel_rfl,
 f129:=Tryz.func206.trans (congrArg some (by kernel_rfl)),
 f171:=Tryz.func94.trans (congrArg some (by kernel_rfl)),
 f172:=Tryz.func81.trans (congrArg some (by kernel_rfl)),
 f205:=Tryz.func192.trans (congrArg some (by kernel_rfl)),
 f243:=Tryz.func140.trans (congrArg some (by kernel_rfl)),
 f244:=Tryz.func134.trans (congrArg some (by kernel_rfl)),
 f245:=Tryz.func135.trans (congrArg some (by kernel_rfl)),
 f246:=Tryz.func173.trans (congrArg some (by kernel_rfl)),
 f247:=Tryz.func167.trans (congrArg some (by kernel_rfl)),
 f279:=Tryz.func168.trans (congrArg some (by kernel_rfl)),
 f280:=Tryz.func169.trans (congrArg some (by kernel_rfl)),
 f281:=Tryz.func170.trans (congrArg some (by kernel_rfl)),
 f282:=Tryz.func171.trans (congrArg some (by kernel_rfl)),
 f283:=Tryz.func193.trans (congrArg some (by kernel_rfl)),
 f284:=Tryz.func194.trans (congrArg some (by kernel_rfl)),
 f285:=Tryz.func195.trans (congrArg some (by kernel_rfl)),
 f286:=Tryz.func196.trans (congrArg some (by kernel_rfl)),
 f287:=Tryz.func190.trans (congrArg some (by kernel_rfl)),
 f316:=Tryz.func191.trans (congrArg some (by kernel_rfl)),
 f317:=Tryz.func205.trans (congrArg some (by kernel_rfl)),
 f318:=Tryz.func207.trans (congrArg some (by kernel_rfl)),
 f319:=Tryz.func208.trans (congrArg some (by kernel_rfl)),
 f320:=Tryz.func209.trans (congrArg some (by kernel_rfl)),
 f321:=Tryz.func203.trans (congrArg some (by kernel_rfl)),
 f322:=Tryz.func204.trans (congrArg some (by kernel_rfl)),
 f337:=Tryz.func217.trans (congrArg some (by kernel_rfl)),
 f338:=Tryz.func218.trans (congrArg some (by kernel_rfl)),
 t0:=Tryz.underlying0,
 a0:=Tryz.isAgg0,
 z0:=Tryz.sizeOf0,
 v0:=Tryz.zeroValue0,
 t2:=Tryz.underlying2,
 a2:=Tryz.isAgg2,
 z2:=Tryz.sizeOf2,
 v2:=Tryz.zeroValue2,
 t3:=Tryz.underlying3,
 a3:=Tryz.isAgg3,
 z3:=Tryz.sizeOf3,
 v3:=Tryz.zeroValue3,
 t4:=Tryz.underlying4,
 a4:=Tryz.isAgg4,
 z4:=Tryz.sizeOf4,
 v4:=Tryz.zeroValue4,
 t5:=Tryz.underlying5,
 a5:=Tryz.isAgg5,
 z5:=Tryz.sizeOf5,
 v5:=Tryz.zeroValue5,
 t9:=Tryz.underlying9,
 a9:=Tryz.isAgg9,
 z9:=Tryz.sizeOf9,
 v9:=Tryz.zeroValue9,
 t20:=Tryz.underlying20,
 a20:=Tryz.isAgg20,
 z20:=Tryz.sizeOf20,
 v20:=Tryz.zeroValue20,
 t21:=Tryz.underlying21,
 a21:=Tryz.isAgg21,
 z21:=Tryz.sizeOf21,
 v21:=Tryz.zeroValue21,
 t37:=Tryz.underlying22,
 a37:=Tryz.isAgg22,
 z37:=Tryz.sizeOf22,
 v37:=Tryz.zeroValue22,
 t46:=Tryz.underlying230,
 a46:=Tryz.isAgg230,
 z46:=Tryz.sizeOf230,
 v46:=Tryz.zeroValue230,
 t51:=Tryz.underlying251,
 a51:=Tryz.isAgg251,
 z51:=Tryz.sizeOf251,
 v51:=Tryz.zeroValue251,
 t53:=Tryz.underlying227,
 a53:=Tryz.isAgg227,
 z53:=Tryz.sizeOf227,
 v53:=Tryz.zeroValue227,
 t75:=Tryz.underlying121,
 a75:=Tryz.isAgg121,
 z75:=Tryz.sizeOf121,
 v75:=Tryz.zeroValue121,
 t76:=Tryz.underlying122,
 a76:=Tryz.isAgg122,
 z76:=Tryz.sizeOf122,
 v76:=Tryz.zeroValue122,
 t85:=Tryz.underlying206,
 a85:=Tryz.isAgg206,
 z85:=Tryz.sizeOf206,
 v85:=Tryz.zeroValue206,
 t127:=Tryz.underlying245,
 a127:=Tryz.isAgg245,
 z127:=Tryz.sizeOf245,
 v127:=Tryz.zeroValue245,
 t143:=Tryz.underlying246,
 a143:=Tryz.isAgg246,
 z143:=Tryz.sizeOf246,
 v143:=Tryz.zeroValue246,
 t145:=Tryz.underlying248,
 a145:=Tryz.isAgg248,
 z145:=Tryz.sizeOf248,
 v145:=Tryz.zeroValue248,
 t167:=Tryz.underlying205,
 a167:=Tryz.isAgg205,
 z167:=Tryz.sizeOf205,
 v167:=Tryz.zeroValue205,
 t168:=Tryz.underlying208,
 a168:=Tryz.isAgg208,
 z168:=Tryz.sizeOf208,
 v168:=Tryz.zeroValue208,
 t171:=Tryz.underlying235,
 a171:=Tryz.isAgg235,
 z171:=Tryz.sizeOf235,
 v171:=Tryz.zeroValue235,
 t173:=Tryz.underlying238,
 a173:=Tryz.isAgg238,
 z173:=Tryz.sizeOf238,
 v173:=Tryz.zeroValue238,
 t175:=Tryz.underlying228,
 a175:=Tryz.isAgg228,
 z175:=Tryz.sizeOf228,
 v175:=Tryz.zeroValue228,
 t210:=Tryz.underlying233,
 a210:=Tryz.isAgg233,
 z210:=Tryz.sizeOf233,
 v210:=Tryz.zeroValue233,
 t212:=Tryz.underlying250,
 a212:=Tryz.isAgg250,
 z212:=Tryz.sizeOf250,
 v212:=Tryz.zeroValue250,
 t213:=Tryz.underlying252,
 a213:=Tryz.isAgg252,
 z213:=Tryz.sizeOf252,
 t232:=Tryz.underlying265,
 a232:=Tryz.isAgg265,
 z232:=Tryz.sizeOf265,
 v232:=Tryz.zeroValue265,
 t233:=Tryz.underlying266,
 a233:=Tryz.isAgg266,
 z233:=Tryz.sizeOf266,
 v233:=Tryz.zeroValue266,
 g15:=by kernel_rfl,
 g16:=by kernel_rfl,
 g17:=by kernel_rfl,
 g18:=by kernel_rfl,
 g19:=by kernel_rfl}
def Tryz.tj:Go.Shelf.Ren:=⟨fun|171=>94|243=>140|246=>173|283=>193|284=>194|285=>195|286=>196|129=>206|317=>205|318=>207|319=>208|320=>209|337=>217|338=>218|n=>n,fun|3=>3|9=>9|2=>2|4=>4|171=>235|0=>0|53=>227|37=>22|5=>5|173=>238|212=>250|51=>251|20=>20|213=>252|46=>230|232=>265|233=>266|n=>n,fun|17=>2|18=>6|19=>7|n=>n⟩
theorem Tryz.An:Go.Proofs.LaysM.n171 Tryz.prog Tryz.tj:={
 mixed:=by kernel_rfl,
 f129:=Tryz.func206.trans (congrArg some (by kernel_rfl)),
 f171:=Tryz.func94.trans (congrArg some (by kernel_rfl)),
 f243:=Tryz.func140.trans (congrArg some (by kernel_rfl)),
 f246:=Tryz.func173.trans (congrArg some (by kernel_rfl)),
 f283:=Tryz.func193.trans (congrArg some (by kernel_rfl)),
 f284:=Tryz.func194.trans (congrArg some (by kernel_rfl)),
 f285:=Tryz.func195.trans (congrArg some (by kernel_rfl)),
 f286:=Tryz.func196.trans (congrArg some (by kernel_rfl)),
 f317:=Tryz.func205.trans (congrArg some (by kernel_rfl)),
 f318:=Tryz.func207.trans (congrArg some (by kernel_rfl)),
 f319:=Tryz.func208.trans (congrArg some (by kernel_rfl)),
 f320:=Tryz.func209.trans (congrArg some (by kernel_rfl)),
 f337:=Tryz.func217.trans (congrArg some (by kernel_rfl)),
 f338:=Tryz.func218.trans (congrArg some (by kernel_rfl)),
 t0:=Tryz.underlying0,
 a0:=Tryz.isAgg0,
 z0:=Tryz.sizeOf0,
 v0:=Tryz.zeroValue0,
 t2:=Tryz.underlying2,
 a2:=Tryz.isAgg2,
 z2:=Tryz.sizeOf2,
 v2:=Tryz.zeroValue2,
 t3:=Tryz.underlying3,
 a3:=Tryz.isAgg3,
 z3:=Tryz.sizeOf3,
 v3:=Tryz.zeroValue3,
 t4:=Tryz.underlying4,
 a4:=Tryz.isAgg4,
 z4:=Tryz.sizeOf4,
 v4:=Tryz.zeroValue4,
 t5:=Tryz.underlying5,
 a5:=Tryz.isAgg5,
 z5:=Tryz.sizeOf5,
 v5:=Tryz.zeroValue5,
 t9:=Tryz.underlying9,
 a9:=Tryz.isAgg9,
 z9:=Tryz.sizeOf9,
 v9:=Tryz.zeroValue9,
 t20:=Tryz.underlying20,
 a20:=Tryz.isAgg20,
 z20:=Tryz.sizeOf20,
 v20:=Tryz.zeroValue20,
 t37:=Tryz.underlying22,
 a37:=Tryz.isAgg22,
 z37:=Tryz.sizeOf22,
 v37:=Tryz.zeroValue22,
 t46:=Tryz.underlying230,
 a46:=Tryz.isAgg230,
 z46:=Tryz.sizeOf230,
 v46:=Tryz.zeroValue230,
 t51:=Tryz.underlying251,
 a51:=Tryz.isAgg251,
 z51:=Tryz.sizeOf251,
 v51:=Tryz.zeroValue251,
 t53:=Tryz.underlying227,
 a53:=Tryz.isAgg227,
 z53:=Tryz.sizeOf227,
 v53:=Tryz.zeroValue227,
 t171:=Tryz.underlying235,
 a171:=Tryz.isAgg235,
 z171:=Tryz.sizeOf235,
 v171:=Tryz.zeroValue235,
 t173:=Tryz.underlying238,
 a173:=Tryz.isAgg238,
 z173:=Tryz.sizeOf238,
 v173:=Tryz.zeroValue238,
 t212:=Tryz.underlying250,
 a212:=Tryz.isAgg250,
 z212:=Tryz.sizeOf250,
 v212:=Tryz.zeroValue250,
 t213:=Tryz.underlying252,
 a213:=Tryz.isAgg252,
 z213:=Tryz.sizeOf252,
 t232:=Tryz.underlying265,
 a232:=Tryz.isAgg265,
 z232:=Tryz.sizeOf265,
 v232:=Tryz.zeroValue265,
 t233:=Tryz.underlying266,
 a233:=Tryz.isAgg266,
 z233:=Tryz.sizeOf266,
 v233:=Tryz.zeroValue266,
 g17:=by kernel_rfl,
 g18:=by kernel_rfl,
 g19:=by kernel_rfl,
 i0:=by kernel_rfl,
 i2:=by kernel_rfl,
 i3:=by kernel_rfl,
 i4:=by kernel_rfl,
 i5:=by kernel_rfl,
 i9:=by kernel_rfl,
 i20:=by kernel_rfl,
 i37:=by kernel_rfl,
 i46:=by kernel_rfl,
 i51:=by kernel_rfl,
 i53:=by kernel_rfl,
 i171:=by kernel_rfl,
 i173:=by kernel_rfl,
 i212:=by kernel_rfl,
 i232:=by kernel_rfl,
 i233:=by kernel_rfl,
 m17:=by kernel_rfl,
 m18:=by kernel_rfl,
 m19:=by kernel_rfl}
end Go.Proofs
namespace Go.Proofs.Trees
open Go Go.VL
noncomputable section
def JH:List (Nat×TI):=[
 (0,⟨false,[],false,0,.tuple [],false⟩),
 (2,⟨true,[.int .i64],false,8,.num .i64,false⟩),
 (3,⟨true,[.int .i64],false,8,.num .i64,false⟩),
 (4,⟨true,[.bool],false,1,.bl,false⟩),
 (5,⟨true,[.int .u8],false,1,.num .u8,false⟩),
 (9,⟨true,[.str],false,16,.str,false⟩),
 (20,⟨true,[.ku],false,16,.other,false⟩),
 (21,⟨true,[.int .i32],false,4,.num .i32,false⟩),
 (22,⟨true,[.sl],false,24,.slice 5,false⟩),
 (23,⟨false,[],false,0,.tuple [9,3,9],false⟩),
 (25,⟨false,[],false,0,.tuple [3,4],false⟩),
 (28,⟨false,[],false,0,.tuple [9,4],false⟩),
 (31,⟨false,[],false,0,.tuple [9,9,9],false⟩),
 (36,⟨false,[],false,0,.tuple [9,9,9,9],false⟩),
 (38,⟨true,[.sl],false,24,.slice 42,false⟩),
 (39,⟨false,[],false,0,.tuple [38,4],false⟩),
 (42,⟨true,[.str,.str],true,32,.struct [(0,9),(1,9)],false⟩),
 (45,⟨true,[.sl],false,24,.slice 105,false⟩),
 (46,⟨false,[],false,0,.tuple [45,4],false⟩),
 (51,⟨true,[.ptr],false,8,.pt,true⟩),
 (56,⟨true,[.ptr],false,8,.pt,true⟩),
 (57,⟨true,[.ptr],false,8,.pt,true⟩),
 (58,⟨false,[],false,0,.tuple [56,57],false⟩),
 (61,⟨true,[.sl],false,24,.slice 63,false⟩),
 (63,⟨true,[.str,.sl],true,40,.struct [(0,9),(1,61)],false⟩),
 (64,⟨false,[],false,0,.tuple [63,4],false⟩),
 (76,⟨true,[.int .u8,.str,.ptr,.ptr],true,40,.struct [(0,5),(1,9),(2,57),(3,57)],false⟩),
 (78,⟨true,[.ptr],false,8,.pt,true⟩),
 (80,⟨true,[.ptr,.ptr],true,16,.struct [(0,56),(1,78)],false⟩),
 (81,⟨true,[.ptr],false,8,.pt,true⟩),
 (83,⟨true,[.str,.ptr],true,24,.struct [(0,9),(1,81)],false⟩),
 (85,⟨false,[],false,0,.tuple [9,9],false⟩),
 (90,⟨true,[.sl],false,24,.slice 9,false⟩),
 (93,⟨true,[.ku],false,8,.other,false⟩),
 (95,⟨true,[.sl],false,24,.slice 150,false⟩),
 (102,⟨true,[.sl],false,24,.slice 107,false⟩),
 (103,⟨false,[],false,0,.tuple [102,4],false⟩),
 (105,⟨true,[.sl],false,24,.slice 3,false⟩),
 (107,⟨true,[.sl,.str,.str],true,56,.struct [(0,105),(1,9),(2,9)],false⟩),
 (108,⟨true,[.sl],false,24,.slice 112,false⟩),
 (109,⟨false,[],false,0,.tuple [108,4],false⟩),
 (112,⟨true,[.ptr,.sl],true,32,.struct [(0,57),(1,105)],false⟩),
 (116,⟨true,[.sl,.int .i64],true,32,.struct [(0,22),(1,3)],false⟩),
 (121,⟨true,[.ku],false,16,.other,false⟩),
 (122,⟨false,[],false,0,.tuple [3,121],false⟩),
 (125,⟨true,[.int .u8,.str,.int .i64,.ptr,.ptr],true,48,.struct [(0,5),(1,9),(2,3),(3,56),(4,56)],false⟩),
 (131,⟨true,[.sl],false,24,.slice 213,false⟩),
 (133,⟨true,[.ku],false,8,.other,false⟩),
 (140,⟨true,[.ptr],false,8,.pt,true⟩),
 (144,⟨false,[],false,0,.tuple [80,81],false⟩),
 (147,⟨true,[.sl],false,24,.slice 188,false⟩),
 (150,⟨true,[.ptr,.ptr],true,16,.struct [(0,57),(1,57)],false⟩),
 (152,⟨true,[.ku],false,8,.other,false⟩),
 (153,⟨true,[.ku],false,8,.other,false⟩),
 (154,⟨false,[],false,0,.tuple [56,4],false⟩),
 (159,⟨true,[.ku],false,8,.other,false⟩),
 (163,⟨true,[.ptr],false,8,.pt,true⟩),
 (165,⟨true,[.sl,.int .i64],true,32,.struct [(0,90),(1,3)],false⟩),
 (168,⟨true,[.ptr,.ptr],true,16,.struct [(0,80)],false⟩),
 (171,⟨false,[],false,0,.tuple [63,3],false⟩),
 (173,⟨false,[],false,0,.tuple [63,131],false⟩),
 (179,⟨false,[],false,0,.tuple [140,9],false⟩),
 (181,⟨true,[.sl],false,24,.slice 140,false⟩),
 (183,⟨true,[.str,.sl],true,40,.struct [(0,9),(1,181)],false⟩),
 (186,⟨true,[.ptr,.ptr],true,16,.struct [(0,81),(1,78)],false⟩),
 (188,⟨true,[.str,.sl,.str,.sl],true,80,.struct [(0,63),(2,63)],false⟩),
 (192,⟨true,[.ptr],false,8,.pt,true⟩),
 (194,⟨true,[.int .i64,.bool],true,16,.struct [(0,3),(1,4)],false⟩),
 (206,⟨false,[],false,0,.tuple [2,121],false⟩),
 (208,⟨true,[.ptr],false,8,.pt,true⟩),
 (213,⟨true,[.str,.str,.sl,.sl],true,80,.struct [(0,9),(1,63),(3,131)],false⟩),
 (219,⟨false,[],false,0,.tuple [218,4],false⟩),
 (222,⟨true,[.ptr],false,8,.pt,true⟩),
 (224,⟨true,[.ku],false,8,.other,false⟩),
 (227,⟨true,[.int .u64],false,8,.num .u64,false⟩),
 (228,⟨false,[],false,0,.tuple [227,121],false⟩),
 (230,⟨true,[.int .u64],false,8,.num .u64,false⟩),
 (233,⟨true,[.str,.str,.ku],true,48,.struct [(0,9),(1,9),(2,121)],false⟩),
 (235,⟨true,[.int .u8,.int .u8,.int .u8,.int .u8,.int .u8,.int .u8,.int .u8,.int .u8,.int .u8,.int .u8,.int .u8,.int .u8,.int .u8,.int .u8,.int .u8,.int .u8,.int .u8,.int .u8,.int .u8,.int .u8,.int .u8,.int .u8,.int .u8,.int .u8],true,24,.array 24 5,false⟩),
 (238,⟨false,[],false,0,.tuple [22,9],false⟩),
 (240,⟨false,[],false,0,.tuple [21,3],false⟩),
 (245,⟨true,[.ptr],false,8,.pt,true⟩),
 (246,⟨true,[.ptr],false,8,.pt,true⟩),
 (248,⟨true,[.str],true,16,.struct [(0,9)],false⟩),
 (250,⟨true,[.int .u64,.int .u64,.int .u64,.int .u64,.int .u64,.int .u64,.int .u64,.int .u64,.int .u64,.int .u64,.int .u64,.int .u64,.int .u64,.int .u64,.int .u64,.int .u64,.int .u64,.int .u64,.int .u64,.int .u64],true,160,.array 20 227,false⟩),
 (251,⟨true,[.int .u32],false,4,.num .u32,false⟩),
 (258,⟨false,[],false,0,.tuple [251,251],false⟩),
 (262,⟨true,[.int .u8,.int .u8],true,2,.struct [(0,5),(1,5)],false⟩),
 (263,⟨true,[.int .u8,.int .u8,.int .u8,.int .u8,.int .u8,.int .u8,.int .u8,.int .u8,.int .u8,.int .u8,.int .u8,.int .u8,.int .u8,.int .u8,.int .u8,.int .u8,.int .u8,.int .u8,.int .u8,.int .u8,.int .u8,.int .u8,.int .u8,.int .u8,.int .u8,.int .u8,.int .u8,.int .u8,.int .u8,.int .u8,.int .u8,.int .u8],true,32,.array 16 262,false⟩),
 (265,⟨true,[.int .u8,.int .u8,.int .u8,.int .u8,.int .u8,.int .u8,.int .u8,.int .u8,.int .u8,.int .u8,.int .u8,.int .u8,.int .u8,.int .u8,.int .u8,.int .u8,.int .u8,.int .u8,.int .u8,.int .u8,.int .u8,.int .u8,.int .u8,.int .u8,.int .u8,.int .u8,.int .u8,.int .u8,.int .u8,.int .u8,.int .u8,.int .u8],true,32,.array 32 5,false⟩)]
def K8(t:Nat):TI:=xC JH t
abbrev qb:Func:=Tryz.f81
abbrev qe:Func:=Tryz.f94
abbrev eu:Func:=Tryz.f107
abbrev nf:Func:=Tryz.f151
abbrev p8:Func:=Tryz.f152
def Nx:List (Nat×FC):=[(92,{mu:=[(1,.one (.obj [.lk .bool]))],own:=[]}),(9300091,{mu:=[(1,.fn [some (.obj [.lk .bool])])],own:=[]}),(189,{mu:=[(1,.one (.obj [.vec 1]))],own:=[]}),(98,{mu:=[(2,.one (.vec))],own:=[0]}),(19000091,{mu:=[(1,.fn [some (.obj [.vec 1])])],own:=[]}),(113,{mu:=[(2,.one (.obj [.vec 2]))],own:=[]}),(11500113,{mu:=[(1,.fn [some (.obj [.lk .ptr])]),(2,.one (.obj [.vec 2]))],own:=[]}),(11600113,{mu:=[(1,.fn [some (.obj [.lk .ptr])]),(2,.one (.obj [.vec 2]))],own:=[]}),(11700113,{mu:=[(1,.fn [some (.obj [.lk .ptr])]),(2,.one (.obj [.vec 2]))],own:=[]}),(11900113,{mu:=[(1,.fn [some (.obj [.lk .ptr,.lk .ptr])]),(2,.one (.obj [.vec 2]))],own:=[]}),(114,{mu:=[(1,.one (.obj [.lk .ptr]))],own:=[]}),(115,{mu:=[(1,.one (.obj [.lk .ptr]))],own:=[]}),(116,{mu:=[(1,.one (.obj [.lk .ptr]))],own:=[]}),(118,{mu:=[(1,.one (.obj [.lk .ptr,.lk .ptr]))],own:=[]}),(126,{mu:=[(1,.one (.obj [.vec 2])),(2,.one (.obj [.lk .ptr])),(3,.zn 126 [some 0,some 2,none])],own:=[]}),(184,{mu:=[(2,.zn 184 [none,some 0,some 1]),(3,.one (.obj [.lk .sl])),(4,.one (.obj [.lk (.int .i64)]))],own:=[]}),(125,{mu:=[(3,.one (.vec))],own:=[0]}),(150,{mu:=[(2,.one (.vec))],own:=[0]}),(32,{mu:=[(0,.one (.obj [.lk .sl,.lk (.int .i64)]))],own:=[]}),(131,{mu:=[(3,.one (.obj [.vec 1,.lk (.int .i64)]))],own:=[]}),(55,{mu:=[(0,.one (.obj [.lk .sl,.lk (.int .i64)]))],own:=[]}),(30,{mu:=[],own:=[0],ow:=[.sl,.int .i64]}),(74,{mu:=[(0,.one (.cE false [.vec 1]))],own:=[]}),(155,{mu:=[(0,.one (.obj [.lk (.int .i64),.lk .bool]))],own:=[]}),(156,{mu:=[(0,.one (.obj [.lk (.int .i64),.lk .bool]))],own:=[]}),(157,{mu:=[(0,.one (.obj [.lk (.int .i64),.lk .bool]))],own:=[]}),(127,{mu:=[(0,.one (.obj [.lk .sl,.lk (.int .i64)]))],own:=[]}),(119,{mu:=[(0,.one (.obj [.lk .sl,.lk (.int .i64)]))],own:=[]}),(76,{mu:=[(0,.one (.obj [.lk .sl,.lk (.int .i64)]))],own:=[]}),(77,{mu:=[(0,.one (.obj [.lk .sl,.lk (.int .i64)]))],own:=[]}),(33,{mu:=[(0,.one (.obj [.lk .sl,.lk (.int .i64)]))],own:=[]}),(108,{mu:=[(0,.one (.obj [.lk .sl,.lk (.int .i64)]))],own:=[]}),(52,{mu:=[(0,.one (.obj [.lk .sl,.lk (.int .i64)]))],own:=[]}),(51,{mu:=[(0,.one (.obj [.lk .sl,.lk (.int .i64)]))],own:=[]}),(62,{mu:=[(0,.one (.obj [.lk .sl,.lk (.int .i64)]))],own:=[]}),(31,{mu:=[(0,.one (.obj [.lk .sl,.lk (.int .i64)]))],own:=[]})]
def cA(f:Nat):FC:=Bi Nx f
theorem DE:(JH.all fun p=>!p.2.kn||p.2.nC Tryz.prog p.1)=true:=by kernel_rfl
theorem tM:db Tryz.prog K8:=vn DE
theorem mixed:Tryz.prog.follows .mixedOrders=true:=by kernel_rfl
abbrev NZ(r:AV)(k:Tree):Tree:=.ak (LK.has .ptr r/\r.isNil=false) k
abbrev NP(r:AV)(k:Tree):Tree:=.ak (LK.has .ptr r) k
abbrev NS(r:AV)(k:Tree):Tree:=.ak (LK.has .str r) k
abbrev NB(r:AV)(k:Tree):Tree:=.ak (LK.has .bool r) k
abbrev NL(r:AV)(k:Tree):Tree:=.ak (LK.has .sl r) k
abbrev NI(r:AV)(k:Tree):Tree:=.ak (LK.has (.int .i64) r) k
abbrev eA(l:List AV)(k:Tree):Tree:=.ak (LK.has .ptr (l.headD .any)/\1<=l.length) k
abbrev mn(l:List AV)(k:Tree):Tree:=.ak (LK.has .str (l.headD .any)/\1<=l.length) k
abbrev rS(l:List AV)(k:Tree):Tree:=.ak (LK.has .sl (l.headD .any)/\1<=l.length) k
abbrev NT(r:AV)(k:Tree):Tree:=.ak (r=.cG [r.comp 0,r.comp 1]) k
abbrev NA(r:AV)(k:Tree):Tree:=.ak (r=.agg r.cs/\r.cs.length=2/\bB [.str,.sl] r.cs 0) k
abbrev NE(l:List AV)(k:Tree):Tree:=.ak (bB [.str,.sl] l 0/\2<=l.length) k
abbrev NG(r:AV)(i:Int)(z:Nat)(k:Tree):Tree:=.ak (LK.has .sl r/\0<=i/\i<r.aR.length/\(r.aR.getD i.toNat []).length=z) k
abbrev RL:Type:=Nat->List AV->List Ob->Prop
abbrev VS(x:ByteArray):AV:=.v (.string x)
abbrev VI(x:Int):AV:=.v (.int .i64 x)
abbrev VB(x:Bool):AV:=.v (.bool x)
abbrev _root_.List.hA(l:List AV):AV:=l.headD .any
abbrev _root_.List.hO(l:List Ob):Ob:=l.headD .dead
abbrev _root_.Go.VL.AV.ix(a:AV)(i:Int):List AV:=a.aR.getD i.toNat []
abbrev dF(n:Nat)(t:Tree)(R:AV->List Ob->Prop):Prop:=eU Tryz.prog n t fun _ xs obs=>R (xs.headD .any) obs
abbrev l8(n:Nat)(t:Tree)(S:List AV->List Ob->RL->Prop)(R:RL):Prop:=eU Tryz.prog n t (Dd (fun ys o=>S ys o R) R)
theorem gQ{n:Nat}{c:Code}{li:LI}{xs:List AV}{obs:List Ob}{R:RL}{t:Tree}(lis:List (Nat×LI))(h:eU Tryz.prog n t (Dd (fun ys o=>cH Tryz.prog n c li ys o R) R))(e:round K8 cA n lis c li xs obs=t:=by kernel_rfl):cH Tryz.prog n c li xs obs R:=cH.Mk (cA:=cA) (lis:=lis) tM mixed e h
theorem Nh(n:Nat)(t:Tree)(R:AV->List Ob->Prop):dF n t R=eU Tryz.prog n t fun _ xs obs=>R (xs.headD .any) obs:=rfl
theorem MM(n:Nat)(t:Tree)(S:List AV->List Ob->RL->Prop)(R:RL):l8 n t S R=eU Tryz.prog n t (Dd (fun ys o=>S ys o R) R):=rfl
theorem PV(x:ByteArray):VS x=.v (.string x):=rfl
theorem PO(x:Int):VI x=.v (.int .i64 x):=rfl
theorem P8(x:Bool):VB x=.v (.bool x):=rfl
theorem PS(l:List AV):l.hA=l.headD .any:=rfl
theorem PY(l:List Ob):l.hO=l.headD .dead:=rfl
theorem P7(a:AV)(i:Int):a.ix i=a.aR.getD i.toNat []:=rfl
theorem oQ{f:Nat}{asq:List AV}{ins:List Ob}{R:AV->List Ob->Prop}{t:Tree}(lis:List (Nat×LI))(F:Func)(h:eU Tryz.prog F.ntmps t fun _ xs obs=>R (xs.headD .any) obs)(hf:Tryz.prog.funcs[f]?=some F:=by kernel_rfl)(hnm:(F.name=="runtime.NumGoroutine")=false:=by kernel_rfl)(e:main K8 cA lis {} F asq ins=t:=by kernel_rfl):aq Tryz.prog f asq ins R:=aq.Mk (cA:=cA) (lis:=lis) (fc:={}) tM mixed hf hnm e h
theorem oF{f:Nat}{asq:List AV}{ins:List Ob}{R:AV->List Ob->Prop}{t:Tree}(lis:List (Nat×LI))(fc:FC)(F:Func)(h:eU Tryz.prog F.ntmps t fun _ xs obs=>R (xs.headD .any) obs)(hf:Tryz.prog.funcs[f]?=some F:=by kernel_rfl)(hnm:(F.name=="runtime.NumGoroutine")=false:=by kernel_rfl)(e:main K8 cA lis fc F asq ins=t:=by kernel_rfl):aq Tryz.prog f asq ins R:=aq.Mk (cA:=cA) (lis:=lis) (fc:=fc) tM mixed hf hnm e h
theorem uQ{P:Program}{f:Nat}{asq bs:List AV}{R:AV->List Ob->Prop}(h:vV asq bs)(hf:aq P f bs [] R):aq P f asq [] R:=aq.oP cx (aq.up h hf)
theorem Qc(r:AV)(k:Tree):NZ r k=.ak (LK.has .ptr r/\r.isNil=false) k:=rfl
theorem P9(r:AV)(k:Tree):NP r k=.ak (LK.has .ptr r) k:=rfl
theorem Qa(r:AV)(k:Tree):NS r k=.ak (LK.has .str r) k:=rfl
theorem P6(r:AV)(k:Tree):NB r k=.ak (LK.has .bool r) k:=rfl
theorem PT(r:AV)(k:Tree):NL r k=.ak (LK.has .sl r) k:=rfl
theorem PQ(r:AV)(k:Tree):NI r k=.ak (LK.has (.int .i64) r) k:=rfl
theorem OA(l:List AV)(k:Tree):eA l k=.ak (LK.has .ptr (l.headD .any)/\1<=l.length) k:=rfl
theorem Ok(l:List AV)(k:Tree):mn l k=.ak (LK.has .str (l.headD .any)/\1<=l.length) k:=rfl
theorem Ow(l:List AV)(k:Tree):rS l k=.ak (LK.has .sl (l.headD .any)/\1<=l.length) k:=rfl
theorem Qf(r:AV)(k:Tree):NT r k=.ak (r=.cG [r.comp 0,r.comp 1]) k:=rfl
theorem P0(r:AV)(k:Tree):NA r k=.ak (r=.agg r.cs/\r.cs.length=2/\bB [.str,.sl] r.cs 0) k:=rfl
theorem P1(l:List AV)(k:Tree):NE l k=.ak (bB [.str,.sl] l 0/\2<=l.length) k:=rfl
theorem Qd(r:AV)(i:Int)(z:Nat)(k:Tree):NG r i z k=.ak (LK.has .sl r/\0<=i/\i<r.aR.length/\(r.aR.getD i.toNat []).length=z) k:=rfl
set_option linter.defProp false in
def zq:=aH @Qc (aH @P9 (aH @Qa (aH @P6 (aH @PT (aH @PQ (aH @OA (aH @Ok (aH @Ow (aH @Qf (aH @P0 (aH @P1 (aH @Qd (aH @Nh (aH @MM (aH @PV (aH @PO (aH @P8 ((aH @PS (aH @PY (aH @P7 @zp)))))))))))))))))))))
variable {R:AV->List Ob->Prop} {U:RL}
def Gs:LI:={hd:={cd:=[(5,.k .str),(6,.k .str),(11,.k .sl),(12,.k .bool),(13,.k .bool),(14,.k (.int .i64))]},xs:={cd:=[(12,.k .bool),(13,.k .bool)]},rt:={},ex:=0}
def Ju:Code:=cY (cQ Tryz.f5) 11
def Lt:List (Nat×LI):=[(11,Gs)]
def IR(a0:AV):Tree :=
 NL a0<|.test (decide ((a0.aR.length:Int)>(1048576:Int))) (.done 0 [VB true] []) (.call 18 [a0] [] fun r1 o1=>.ak (r1=.cG [r1.comp 0,r1.comp 1,r1.comp 2,r1.comp 3])<|NS (r1.comp 0)<|NS (r1.comp 1)<|NS (r1.comp 2)<|NS (r1.comp 3)<|.call 16 [VS ((r1.comp 0).ag),VS ((r1.comp 1).ag),VS ((r1.comp 2).ag),VS ((r1.comp 3).ag)] [] fun r2 o2=>NT r2<|NS (r2.comp 0)<|NB (r2.comp 1)<|.call 19 [VS ((r1.comp 0).ag),VS ((r1.comp 1).ag),VS ((r1.comp 2).ag),VS ((r1.comp 3).ag)] [] fun r3 o3=>NT r3<|NS (r3.comp 0)<|NB (r3.comp 1)<|.test (!(((r2.comp 1).toBool)==((r3.comp 1).toBool))) (.test (((r2.comp 1).toBool)==((r3.comp 1).toBool)) (.done 0 [VB (ac ((r2.comp 0).ag)==ac ((r3.comp 0).ag))] []) (.done 0 [VB false] [])) (.test (!(ac ((r2.comp 0).ag)==ac ((r3.comp 0).ag))) (.test (((r2.comp 1).toBool)==((r3.comp 1).toBool)) (.done 0 [VB (ac ((r2.comp 0).ag)==ac ((r3.comp 0).ag))] []) (.done 0 [VB false] [])) (.test (!((r2.comp 1).toBool)) (.test (((r2.comp 1).toBool)==((r3.comp 1).toBool)) (.done 0 [VB (ac ((r2.comp 0).ag)==ac ((r3.comp 0).ag))] []) (.done 0 [VB false] [])) (.call 20 [VS ((r1.comp 0).ag),VS ((r1.comp 1).ag),VS ((r2.comp 0).ag)] [] fun r4 o4=>NT r4<|NL (r4.comp 0)<|NB (r4.comp 1)<|.loop Ju Gs [VS ((r1.comp 2).ag),VS ((r1.comp 3).ag),(r4.comp 0),VB ((r4.comp 1).toBool),VB false,VI 0] [] (fun y5 q5=>NB (y5.hA)<|NB (y5.tail.hA)<|.test ((y5.hA).toBool) (.done 0 [VB ((y5.tail.hA).toBool)] []) (.done 0 [VB false] [])) (fun y5 q5=>.done 0 [.any] [])))))
theorem Pb(a0:AV)(ha0:LK.has .sl a0)(h:dF 97 (IR a0) R):aq Tryz.prog 5 [a0] [] R :=
 uQ (ah (bY ha0) aD) (oQ Lt Tryz.f5 h)
def F9(x5:ByteArray)(x6:ByteArray)(x11:AV)(x12:Bool)(x13:Bool)(x14:Int):Tree :=
 NS (VS x5)<|NS (VS x6)<|NL x11<|NB (VB x12)<|NB (VB x13)<|NI (VI x14)<|NL x11<|.test (decide (x14<(x11.aR.length:Int))) (.test x13 (.done 0 [VS x5,VS x6,x11,VB x12,VB true,VI (IntKind.wrap .i64 (x14+1))] []) (NG x11 x14 2<|mn (x11.ix x14)<|.test (ac (((x11.ix x14).hA).ag)==ac x5) (NG x11 x14 2<|mn ((x11.ix x14).drop 1)<|.done 0 [VS x5,VS x6,x11,VB x12,VB (ac ((((x11.ix x14).drop 1).hA).ag)==ac x6),VI (IntKind.wrap .i64 (x14+1))] []) (.done 0 [VS x5,VS x6,x11,VB x12,VB false,VI (IntKind.wrap .i64 (x14+1))] []))) (.done 1 [VB x12,VB x13] [])
abbrev EJ:=cH Tryz.prog 97 Ju Gs
theorem JA(x5:ByteArray)(x6:ByteArray)(x11:AV)(x12:Bool)(x13:Bool)(x14:Int)(h:l8 97 (F9 x5 x6 x11 x12 x13 x14) EJ U):EJ [VS x5,VS x6,x11,VB x12,VB x13,VI x14] [] U :=
 gQ Lt h
def Jt(a0:ByteArray)(a1:ByteArray)(a2:ByteArray):Tree :=
 .call 46 [VS a0] [] fun r1 o1=>NT r1<|.ak ((r1.comp 0)=.agg (r1.comp 0).cs/\(r1.comp 0).cs.length=2/\bB [.str,.sl] ((r1.comp 0).cs) 0)<|NB (r1.comp 1)<|.call 47 [VS a0,VS a1] [] fun r2 o2=>NT r2<|NS (r2.comp 0)<|NB (r2.comp 1)<|.test ((r1.comp 1).toBool) (.test ((r2.comp 1).toBool) (.call 39 [VS ((r2.comp 0).ag),VS a2,VI 100] [] fun r3 o3=>NB r3<|.done 0 [VB r3.toBool] []) (.done 0 [VB false] [])) (.done 0 [VB false] [])
theorem OJ(a0:ByteArray)(a1:ByteArray)(a2:ByteArray)(h:dF 31 (Jt a0 a1 a2) R):aq Tryz.prog 15 [VS a0,VS a1,VS a2] [] R :=
 uQ (ah (aA _) (ah (aA _) (ah (aA _) aD))) (oQ [] Tryz.f15 h)
def H4(a0:ByteArray)(a1:ByteArray)(a2:ByteArray)(a3:ByteArray):Tree :=
 .call 45 [VS a0,VS a1,VS a2] [] fun r1 o1=>NT r1<|NP (r1.comp 0)<|NP (r1.comp 1)<|.call 48 [VS a3] [] fun r2 o2=>NP r2<|NP (r1.comp 0)<|.test ((r1.comp 0).isNil) (.done 0 [.cG [VS (mk []),VB false]] []) (NP (r1.comp 1)<|.test ((r1.comp 1).isNil) (.done 0 [.cG [VS (mk []),VB false]] []) (NP r2<|.test r2.isNil (.done 0 [.cG [VS (mk []),VB false]] []) (NZ r2<|NZ r2<|.ak (LK.has (.int .u8) (r2.deref.hA)/\1<=r2.deref.length)<|.test (((r2.deref.hA).toInt) != (101:Int)) (.done 0 [.cG [VS (mk []),VB false]] []) (.call 49 [.agg [(r1.comp 0),.v (.pointer none)],(r1.comp 1),.agg [VS a1,.v (.pointer none)],r2] [] fun r3 o3=>NP r3<|.call 43 [r3] [] fun r4 o4=>NT r4<|NS (r4.comp 0)<|NB (r4.comp 1)<|.done 0 [.cG [VS ((r4.comp 0).ag),VB ((r4.comp 1).toBool)]] []))))
theorem N2(a0:ByteArray)(a1:ByteArray)(a2:ByteArray)(a3:ByteArray)(h:dF 49 (H4 a0 a1 a2 a3) R):aq Tryz.prog 16 [VS a0,VS a1,VS a2,VS a3] [] R :=
 uQ (ah (aA _) (ah (aA _) (ah (aA _) (ah (aA _) aD)))) (oQ [] Tryz.f16 h)
def KM(a0:AV):Tree :=
 .call 30 [a0] [] fun r1 o1=>.ak (r1=.ref 0 0/\(o1.hO)=.cells (o1.hO).cs/\(o1.hO).cs.length=2/\bB [.sl,.int .i64] ((o1.hO).cs) 0)<|.call 51 [.ref 0 0] [.cells [((o1.hO).cs.getD 0 .any),VI (((o1.hO).cs.getD 1 .any).toInt)]] fun r2 o2=>.ak ((o2.hO)=.cells (o2.hO).cs)<|.ak (aM [.lk .sl,.lk (.int .i64)] ((o2.hO).cs) 0 1 o2.tail)<|NT r2<|NS (r2.comp 0)<|NS (r2.comp 1)<|.call 52 [.ref 0 0] [.cells [((o2.hO).cs.getD 0 .any),VI (((o2.hO).cs.getD 1 .any).toInt)]] fun r3 o3=>.ak ((o3.hO)=.cells (o3.hO).cs)<|.ak (aM [.lk .sl,.lk (.int .i64)] ((o3.hO).cs) 0 1 o3.tail)<|NS r3<|.call 53 [VS ((r2.comp 0).ag),VS r3.ag,VS ((r2.comp 1).ag)] [] fun r4 o4=>NT r4<|NL (r4.comp 0)<|NB (r4.comp 1)<|.call 32 [.ref 0 0,VI 5] [.cells [((o3.hO).cs.getD 0 .any),VI (((o3.hO).cs.getD 1 .any).toInt)]] fun r5 o5=>.ak ((o5.hO)=.cells (o5.hO).cs)<|.ak (aM [.lk .sl,.lk (.int .i64)] ((o5.hO).cs) 0 1 o5.tail)<|NI r5<|.call 54 [VI r5.toInt] [] fun r6 o6=>NS r6<|.ak (ae (mk [101])+ae r6.ag<=9223372036854775807)<|.test ((r4.comp 1).toBool) (NL (r4.comp 0)<|.test (decide ((((r4.comp 0).aR).length:Int)>(0:Int))) (.call 32 [.ref 0 0,VI 8] [.cells [((o5.hO).cs.getD 0 .any),VI (((o5.hO).cs.getD 1 .any).toInt)]] fun r7 o7=>.ak ((o7.hO)=.cells (o7.hO).cs)<|.ak (aM [.lk .sl,.lk (.int .i64)] ((o7.hO).cs) 0 1 o7.tail)<|NI r7<|.test (decide (r7.toInt>(0:Int))) (NL (r4.comp 0)<|.call 32 [.ref 0 0,VI (if(((r4.comp 0).aR).length:Int)<100 then(((r4.comp 0).aR).length:Int)else 100)] [.cells [((o7.hO).cs.getD 0 .any),VI (((o7.hO).cs.getD 1 .any).toInt)]] fun r8 o8=>.ak ((o8.hO)=.cells (o8.hO).cs)<|.ak (aM [.lk .sl,.lk (.int .i64)] ((o8.hO).cs) 0 1 o8.tail)<|NI r8<|.ak (LK.has .sl (r4.comp 0)/\0<=r8.toInt/\r8.toInt<(r4.comp 0).aR.length/\((r4.comp 0).aR.getD r8.toInt.toNat []).length=2)<|mn ((r4.comp 0).aR.getD r8.toInt.toNat [])<|.done 0 [.cG [VS ((r2.comp 0).ag),VS r3.ag,VS ((((r4.comp 0).aR.getD r8.toInt.toNat []).hA).ag),VS (((mk [101]):ByteArray)++r6.ag)]] []) (.call 55 [.ref 0 0,.sl [[VS (((mk [101]):ByteArray)++r6.ag)],[VS (mk [117])],[VS (mk [])]]] [.cells [((o7.hO).cs.getD 0 .any),VI (((o7.hO).cs.getD 1 .any).toInt)]] fun r9 o9=>.ak ((o9.hO)=.cells (o9.hO).cs)<|.ak (aM [.lk .sl,.lk (.int .i64)] ((o9.hO).cs) 0 1 o9.tail)<|NS r9<|.done 0 [.cG [VS ((r2.comp 0).ag),VS r3.ag,VS ((r2.comp 1).ag),VS r9.ag]] [])) (.call 55 [.ref 0 0,.sl [[VS (((mk [101]):ByteArray)++r6.ag)],[VS (mk [117])],[VS (mk [])]]] [.cells [((o5.hO).cs.getD 0 .any),VI (((o5.hO).cs.getD 1 .any).toInt)]] fun r10 o10=>.ak ((o10.hO)=.cells (o10.hO).cs)<|.ak (aM [.lk .sl,.lk (.int .i64)] ((o10.hO).cs) 0 1 o10.tail)<|NS r10<|.done 0 [.cG [VS ((r2.comp 0).ag),VS r3.ag,VS ((r2.comp 1).ag),VS r10.ag]] [])) (.call 55 [.ref 0 0,.sl [[VS (((mk [101]):ByteArray)++r6.ag)],[VS (mk [117])],[VS (mk [])]]] [.cells [((o5.hO).cs.getD 0 .any),VI (((o5.hO).cs.getD 1 .any).toInt)]] fun r11 o11=>.ak ((o11.hO)=.cells (o11.hO).cs)<|.ak (aM [.lk .sl,.lk (.int .i64)] ((o11.hO).cs) 0 1 o11.tail)<|NS r11<|.done 0 [.cG [VS ((r2.comp 0).ag),VS r3.ag,VS ((r2.comp 1).ag),VS r11.ag]] [])
theorem Pm(a0:AV)(ha0:LK.has .sl a0)(h:dF 63 (KM a0) R):aq Tryz.prog 18 [a0] [] R :=
 uQ (ah (bY ha0) aD) (oQ [] Tryz.f18 h)
def Ld(a0:ByteArray)(a1:ByteArray)(a2:ByteArray)(a3:ByteArray):Tree :=
 .call 46 [VS a0] [] fun r1 o1=>NT r1<|.ak ((r1.comp 0)=.agg (r1.comp 0).cs/\(r1.comp 0).cs.length=2/\bB [.str,.sl] ((r1.comp 0).cs) 0)<|NB (r1.comp 1)<|.call 37 [VS a2] [] fun r2 o2=>NT r2<|.ak ((r2.comp 0)=.agg (r2.comp 0).cs/\(r2.comp 0).cs.length=2/\bB [.str,.sl] ((r2.comp 0).cs) 0)<|NB (r2.comp 1)<|.call 15 [VS a0,VS a1,VS a2] [] fun r3 o3=>NB r3<|.test (!r3.toBool) (.done 0 [.cG [VS (mk []),VB false]] []) (.call 56 [VS a3] [] fun r4 o4=>NI r4<|.test (decide (r4.toInt<(0:Int))) (.done 0 [.cG [VS (mk []),VB false]] []) (.call 58 [.agg [VS (((r1.comp 0).cs.getD 0 .any).ag),((r1.comp 0).cs.getD 1 .any)],VS a1,.agg [VS (((r2.comp 0).cs.getD 0 .any).ag),((r2.comp 0).cs.getD 1 .any)],.agg [VS a3,.v (.slice none 0 0)]] [] fun r5 o5=>NA r5<|.call 57 [.agg [VS ((r5.cs.getD 0 .any).ag),(r5.cs.getD 1 .any)]] [] fun r6 o6=>NS r6<|.call 39 [VS a0,VS r6.ag,VI 100] [] fun r7 o7=>NB r7<|.test (!r7.toBool) (.done 0 [.cG [VS (mk []),VB false]] []) (.done 0 [.cG [VS r6.ag,VB true]] [])))
theorem Pr(a0:ByteArray)(a1:ByteArray)(a2:ByteArray)(a3:ByteArray)(h:dF 47 (Ld a0 a1 a2 a3) R):aq Tryz.prog 19 [VS a0,VS a1,VS a2,VS a3] [] R :=
 uQ (ah (aA _) (ah (aA _) (ah (aA _) (ah (aA _) aD)))) (oQ [] Tryz.f19 h)
def H8(a0:ByteArray)(a1:ByteArray)(a2:ByteArray):Tree :=
 .call 34 [VS a0,VS a2,VI 100] [] fun r1 o1=>NT r1<|NP (r1.comp 0)<|NP (r1.comp 1)<|NP (r1.comp 1)<|.test ((r1.comp 1).isNil) (.done 0 [.cG [.v (.slice none 0 0),VB false]] []) (.call 59 [VS a1] [] fun r2 o2=>NB r2<|.test (!r2.toBool) (.done 0 [.cG [.v (.slice none 0 0),VB false]] []) (.call 61 [.agg [(r1.comp 0),.v (.pointer none)],(r1.comp 1),.agg [VS a1,.v (.pointer none)]] [] fun r3 o3=>NL r3<|.call 60 [r3] [] fun r4 o4=>NL r4<|.done 0 [.cG [r4,VB true]] []))
theorem Ph(a0:ByteArray)(a1:ByteArray)(a2:ByteArray)(h:dF 30 (H8 a0 a1 a2) R):aq Tryz.prog 20 [VS a0,VS a1,VS a2] [] R :=
 uQ (ah (aA _) (ah (aA _) (ah (aA _) aD))) (oQ [] Tryz.f20 h)
def Hx(a0:AV):Tree :=
 NL a0<|.test (decide ((a0.aR.length:Int)>(2000:Int))) (.ak (LK.has .sl a0/\0<=(0:Int)/\(0:Int)<=(2000:Int)/\(2000:Int)<=(a0.aR.length:Int))<|.done 0 [.ref 0 0] [.cells [.sl ((a0.aR.take (bW 2000)).drop (bW 0)),VI 0]]) (.done 0 [.ref 0 0] [.cells [a0,VI 0]])
theorem Nr(a0:AV)(ha0:LK.has .sl a0)(h:dF 11 (Hx a0) R):aq Tryz.prog 30 [a0] [] R :=
 uQ (ah (bY ha0) aD) (oF [] {mu:=[],own:=[0],ow:=[.sl,.int .i64]} Tryz.f30 h)
def Jf(a0_0:AV)(a0_1:Int)(a1:Int):Tree :=
 .test (decide (a1<(1:Int))) (.done 0 [VI 0] [.cells [a0_0,VI (IntKind.wrap .i64 (a0_1+1))]]) (NL a0_0<|.test ((a0_0.aR.length:Int)==(0:Int)) (.done 0 [VI 0] [.cells [a0_0,VI (IntKind.wrap .i64 (a0_1+1))]]) (NL a0_0<|.test (decide ((IntKind.wrap .i64 ((IntKind.wrap .i64 (a0_1+1))-1))<(a0_0.aR.length:Int))) (.ak (LK.has .sl a0_0/\0<=(IntKind.wrap .i64 ((IntKind.wrap .i64 (a0_1+1))-1))/\(IntKind.wrap .i64 ((IntKind.wrap .i64 (a0_1+1))-1))<a0_0.aR.length/\(a0_0.ix (IntKind.wrap .i64 ((IntKind.wrap .i64 (a0_1+1))-1))).length=1)<|.ak (LK.has (.int .u8) ((a0_0.ix (IntKind.wrap .i64 ((IntKind.wrap .i64 (a0_1+1))-1))).hA)/\1<=(a0_0.ix (IntKind.wrap .i64 ((IntKind.wrap .i64 (a0_1+1))-1))).length)<|.ak (¬a1=0)<|.done 0 [VI (dB (IntKind.wrap .i64 (((a0_0.ix (IntKind.wrap .i64 ((IntKind.wrap .i64 (a0_1+1))-1))).hA).toInt)) a1)] [.cells [a0_0,VI (IntKind.wrap .i64 (a0_1+1))]]) (NL a0_0<|.ak (¬(a0_0.aR.length:Int)=0)<|.ak (LK.has .sl a0_0/\0<=(dB (IntKind.wrap .i64 ((IntKind.wrap .i64 (a0_1+1))-1)) (a0_0.aR.length:Int))/\(dB (IntKind.wrap .i64 ((IntKind.wrap .i64 (a0_1+1))-1)) (a0_0.aR.length:Int))<a0_0.aR.length/\(a0_0.ix (dB (IntKind.wrap .i64 ((IntKind.wrap .i64 (a0_1+1))-1)) (a0_0.aR.length:Int))).length=1)<|.ak (LK.has (.int .u8) ((a0_0.ix (dB (IntKind.wrap .i64 ((IntKind.wrap .i64 (a0_1+1))-1)) (a0_0.aR.length:Int))).hA)/\1<=(a0_0.ix (dB (IntKind.wrap .i64 ((IntKind.wrap .i64 (a0_1+1))-1)) (a0_0.aR.length:Int))).length)<|NL a0_0<|.ak (¬(a0_0.aR.length:Int)=0)<|.ak (LK.has .sl a0_0/\0<=(dB (IntKind.wrap .i64 ((IntKind.wrap .i64 ((IntKind.wrap .i64 ((IntKind.wrap .i64 (a0_1+1))-1))*7))+3)) (a0_0.aR.length:Int))/\(dB (IntKind.wrap .i64 ((IntKind.wrap .i64 ((IntKind.wrap .i64 ((IntKind.wrap .i64 (a0_1+1))-1))*7))+3)) (a0_0.aR.length:Int))<a0_0.aR.length/\(a0_0.ix (dB (IntKind.wrap .i64 ((IntKind.wrap .i64 ((IntKind.wrap .i64 ((IntKind.wrap .i64 (a0_1+1))-1))*7))+3)) (a0_0.aR.length:Int))).length=1)<|.ak (LK.has (.int .u8) ((a0_0.ix (dB (IntKind.wrap .i64 ((IntKind.wrap .i64 ((IntKind.wrap .i64 ((IntKind.wrap .i64 (a0_1+1))-1))*7))+3)) (a0_0.aR.length:Int))).hA)/\1<=(a0_0.ix (dB (IntKind.wrap .i64 ((IntKind.wrap .i64 ((IntKind.wrap .i64 ((IntKind.wrap .i64 (a0_1+1))-1))*7))+3)) (a0_0.aR.length:Int))).length)<|NL a0_0<|.ak (¬(a0_0.aR.length:Int)=0)<|.ak (¬(64:Int)=0)<|.ak (¬a1=0)<|.done 0 [VI (dB (AK .i64 (IntKind.wrap .i64 ((IntKind.wrap .i64 ((IntKind.wrap .i64 ((IntKind.wrap .i64 ((IntKind.wrap .i64 (((a0_0.ix (dB (IntKind.wrap .i64 ((IntKind.wrap .i64 (a0_1+1))-1)) (a0_0.aR.length:Int))).hA).toInt))*131))+(IntKind.wrap .i64 ((IntKind.wrap .i64 (((a0_0.ix (dB (IntKind.wrap .i64 ((IntKind.wrap .i64 ((IntKind.wrap .i64 ((IntKind.wrap .i64 (a0_1+1))-1))*7))+3)) (a0_0.aR.length:Int))).hA).toInt))*1117))))+(IntKind.wrap .i64 ((IntKind.wrap .i64 ((IntKind.wrap .i64 (a0_1+1))-1))*29))))+(IntKind.wrap .i64 ((IntKind.wrap .i64 (Int.tdiv (IntKind.wrap .i64 ((IntKind.wrap .i64 (a0_1+1))-1)) (a0_0.aR.length:Int)))*53)))) (IntKind.wrap .i64 (Int.tdiv (IntKind.wrap .i64 ((IntKind.wrap .i64 ((IntKind.wrap .i64 ((IntKind.wrap .i64 ((IntKind.wrap .i64 (((a0_0.ix (dB (IntKind.wrap .i64 ((IntKind.wrap .i64 (a0_1+1))-1)) (a0_0.aR.length:Int))).hA).toInt))*131))+(IntKind.wrap .i64 ((IntKind.wrap .i64 (((a0_0.ix (dB (IntKind.wrap .i64 ((IntKind.wrap .i64 ((IntKind.wrap .i64 ((IntKind.wrap .i64 (a0_1+1))-1))*7))+3)) (a0_0.aR.length:Int))).hA).toInt))*1117))))+(IntKind.wrap .i64 ((IntKind.wrap .i64 ((IntKind.wrap .i64 (a0_1+1))-1))*29))))+(IntKind.wrap .i64 ((IntKind.wrap .i64 (Int.tdiv (IntKind.wrap .i64 ((IntKind.wrap .i64 (a0_1+1))-1)) (a0_0.aR.length:Int)))*53)))) 64))) a1)] [.cells [a0_0,VI (IntKind.wrap .i64 (a0_1+1))]])))
theorem Nb(a0_0:AV)(a0_1:Int)(a1:Int)(ha0_0:LK.has .sl a0_0)(h:dF 99 (Jf a0_0 a0_1 a1) R):aq Tryz.prog 32 [.ref 0 0,VI a1] [.cells [a0_0,VI a0_1]] R :=
 aq.oP (bu (cc (ah (bY ha0_0) (ah (aA _) aD))) cx) (aq.up (ah (aA _) (ah (aA _) aD)) (oF [] {mu:=[(0,.one (.obj [.lk .sl,.lk (.int .i64)]))],own:=[]} Tryz.f32 h))
def KO(a0_0:AV)(a0_1:Int)(a1:ByteArray):Tree :=
 .call 46 [VS a1] [] fun r1 o1=>NT r1<|.ak ((r1.comp 0)=.agg (r1.comp 0).cs/\(r1.comp 0).cs.length=2/\bB [.str,.sl] ((r1.comp 0).cs) 0)<|NB (r1.comp 1)<|.test (!((r1.comp 1).toBool)) (.call 55 [.ref 0 0,.sl [[VS (mk [])],[VS (mk [117])],[VS (mk [101,48])],[VS (mk [101,48,48])],[VS (mk [101,49,48,48])],[VS (mk [40,108,32,117,41])],[VS (mk [40,112,32,117,41])],[VS (mk [40,102,32,40,108,32,117,41,41])],[VS (mk [40,120,32,117,41])],[VS (mk [40,108,32,32,117,41])]]] [.cells [a0_0,VI a0_1]] fun r2 o2=>.ak ((o2.hO)=.cells (o2.hO).cs)<|.ak (aM [.lk .sl,.lk (.int .i64)] ((o2.hO).cs) 0 1 o2.tail)<|NS r2<|.done 0 [VS r2.ag] [.cells [((o2.hO).cs.getD 0 .any),VI (((o2.hO).cs.getD 1 .any).toInt)]]) (.call 32 [.ref 0 0,VI 16] [.cells [a0_0,VI a0_1]] fun r3 o3=>.ak ((o3.hO)=.cells (o3.hO).cs)<|.ak (aM [.lk .sl,.lk (.int .i64)] ((o3.hO).cs) 0 1 o3.tail)<|NI r3<|.test (r3.toInt==(0:Int)) (.call 55 [.ref 0 0,.sl [[VS (mk [])],[VS (mk [117])],[VS (mk [101,48])],[VS (mk [101,48,48])],[VS (mk [101,49,48,48])],[VS (mk [40,108,32,117,41])],[VS (mk [40,112,32,117,41])],[VS (mk [40,102,32,40,108,32,117,41,41])],[VS (mk [40,120,32,117,41])],[VS (mk [40,108,32,32,117,41])]]] [.cells [((o3.hO).cs.getD 0 .any),VI (((o3.hO).cs.getD 1 .any).toInt)]] fun r4 o4=>.ak ((o4.hO)=.cells (o4.hO).cs)<|.ak (aM [.lk .sl,.lk (.int .i64)] ((o4.hO).cs) 0 1 o4.tail)<|NS r4<|.done 0 [VS r4.ag] [.cells [((o4.hO).cs.getD 0 .any),VI (((o4.hO).cs.getD 1 .any).toInt)]]) (.call 78 [.agg [VS (((r1.comp 0).cs.getD 0 .any).ag),((r1.comp 0).cs.getD 1 .any)],.v (.slice none 0 0)] [] fun r5 o5=>NA r5<|.call 32 [.ref 0 0,VI 5] [.cells [((o3.hO).cs.getD 0 .any),VI (((o3.hO).cs.getD 1 .any).toInt)]] fun r6 o6=>.ak ((o6.hO)=.cells (o6.hO).cs)<|.ak (aM [.lk .sl,.lk (.int .i64)] ((o6.hO).cs) 0 1 o6.tail)<|NI r6<|.call 77 [.ref 0 0,.agg [VS ((r5.cs.getD 0 .any).ag),(r5.cs.getD 1 .any)],VI (IntKind.wrap .i64 (5+r6.toInt))] [.cells [((o6.hO).cs.getD 0 .any),VI (((o6.hO).cs.getD 1 .any).toInt)]] fun r7 o7=>.ak ((o7.hO)=.cells (o7.hO).cs)<|.ak (aM [.lk .sl,.lk (.int .i64)] ((o7.hO).cs) 0 1 o7.tail)<|NA r7<|.call 57 [.agg [VS ((r7.cs.getD 0 .any).ag),(r7.cs.getD 1 .any)]] [] fun r8 o8=>NS r8<|.done 0 [VS r8.ag] [.cells [((o7.hO).cs.getD 0 .any),VI (((o7.hO).cs.getD 1 .any).toInt)]]))
theorem OY(a0_0:AV)(a0_1:Int)(a1:ByteArray)(ha0_0:LK.has .sl a0_0)(h:dF 30 (KO a0_0 a0_1 a1) R):aq Tryz.prog 33 [.ref 0 0,VS a1] [.cells [a0_0,VI a0_1]] R :=
 aq.oP (bu (cc (ah (bY ha0_0) (ah (aA _) aD))) cx) (aq.up (ah (aA _) (ah (aA _) aD)) (oF [] {mu:=[(0,.one (.obj [.lk .sl,.lk (.int .i64)]))],own:=[]} Tryz.f33 h))
def JC(a0:ByteArray)(a1:ByteArray)(a2:Int):Tree :=
 .call 79 [VS a0] [] fun r1 o1=>NP r1<|.call 48 [VS a1] [] fun r2 o2=>NP r2<|NP r1<|.test r1.isNil (.done 0 [.cG [r1,.v (.pointer none)]] []) (NP r2<|.test r2.isNil (.done 0 [.cG [r1,.v (.pointer none)]] []) (.test (decide (a2<(0:Int))) (.done 0 [.cG [r1,.v (.pointer none)]] []) (.test (decide (a2>(100:Int))) (.done 0 [.cG [r1,.v (.pointer none)]] []) (.call 80 [.agg [r1,.v (.pointer none)],r2,VI a2] [] fun r3 o3=>NB r3<|.test (!r3.toBool) (.done 0 [.cG [r1,.v (.pointer none)]] []) (.done 0 [.cG [r1,r2]] [])))))
theorem Pk(a0:ByteArray)(a1:ByteArray)(a2:Int)(h:dF 39 (JC a0 a1 a2) R):aq Tryz.prog 34 [VS a0,VS a1,VI a2] [] R :=
 uQ (ah (aA _) (ah (aA _) (ah (aA _) aD))) (oQ [] Tryz.f34 h)
def HS(a0:ByteArray):Tree :=
 .call 84 [VS a0] [] fun r1 o1=>NT r1<|.ak ((r1.comp 0)=.agg (r1.comp 0).cs/\(r1.comp 0).cs.length=2/\bB [.str,.sl] ((r1.comp 0).cs) 0)<|NB (r1.comp 1)<|.test ((r1.comp 1).toBool) (.call 85 [.agg [VS (((r1.comp 0).cs.getD 0 .any).ag),((r1.comp 0).cs.getD 1 .any)]] [] fun r2 o2=>NB r2<|.test r2.toBool (.call 86 [.agg [VS (((r1.comp 0).cs.getD 0 .any).ag),((r1.comp 0).cs.getD 1 .any)]] [] fun r3 o3=>NI r3<|.done 0 [.cG [.agg [VS (((r1.comp 0).cs.getD 0 .any).ag),((r1.comp 0).cs.getD 1 .any)],VB (decide (r3.toInt<=(200:Int)))]] []) (.done 0 [.cG [.agg [VS (((r1.comp 0).cs.getD 0 .any).ag),((r1.comp 0).cs.getD 1 .any)],VB false]] [])) (.done 0 [.cG [.agg [VS (((r1.comp 0).cs.getD 0 .any).ag),((r1.comp 0).cs.getD 1 .any)],VB false]] [])
theorem Ot(a0:ByteArray)(h:dF 22 (HS a0) R):aq Tryz.prog 37 [VS a0] [] R :=
 uQ (ah (aA _) aD) (oQ [] Tryz.f37 h)
def Jd(a0:ByteArray)(a1:ByteArray)(a2:Int):Tree :=
 .call 46 [VS a0] [] fun r1 o1=>NT r1<|.ak ((r1.comp 0)=.agg (r1.comp 0).cs/\(r1.comp 0).cs.length=2/\bB [.str,.sl] ((r1.comp 0).cs) 0)<|NB (r1.comp 1)<|.call 37 [VS a1] [] fun r2 o2=>NT r2<|.ak ((r2.comp 0)=.agg (r2.comp 0).cs/\(r2.comp 0).cs.length=2/\bB [.str,.sl] ((r2.comp 0).cs) 0)<|NB (r2.comp 1)<|.test ((r1.comp 1).toBool) (.test ((r2.comp 1).toBool) (.call 87 [VI a2,VI 0,VI 100] [] fun r3 o3=>NB r3<|.test r3.toBool (.call 89 [.agg [VS (((r1.comp 0).cs.getD 0 .any).ag),((r1.comp 0).cs.getD 1 .any)],.sl [],.agg [VS (((r2.comp 0).cs.getD 0 .any).ag),((r2.comp 0).cs.getD 1 .any)],VI a2] [] fun r4 o4=>NB r4<|.done 0 [VB r4.toBool] []) (.done 0 [VB false] [])) (.done 0 [VB false] [])) (.done 0 [VB false] [])
theorem NH(a0:ByteArray)(a1:ByteArray)(a2:Int)(h:dF 36 (Jd a0 a1 a2) R):aq Tryz.prog 39 [VS a0,VS a1,VI a2] [] R :=
 uQ (ah (aA _) (ah (aA _) (ah (aA _) aD))) (oQ [] Tryz.f39 h)
def IJ(a0:AV):Tree :=
 .call 50 [a0] [] fun r1 o1=>NI r1<|.test (decide (r1.toInt>(200:Int))) (.done 0 [.cG [VS (mk []),VB false]] []) (.call 93 [a0] [] fun r2 o2=>NS r2<|.done 0 [.cG [VS r2.ag,VB true]] [])
theorem Nz(a0:AV)(ha0:LK.has .ptr a0)(h:dF 9 (IJ a0) R):aq Tryz.prog 43 [a0] [] R :=
 uQ (ah (bF ha0) aD) (oQ [] Tryz.f43 h)
def K9(a0:ByteArray)(a1:ByteArray)(a2:ByteArray):Tree :=
 .call 79 [VS a0] [] fun r1 o1=>NP r1<|.call 97 [VS a0,VS a1] [] fun r2 o2=>NT r2<|NS (r2.comp 0)<|NB (r2.comp 1)<|NP r1<|.test r1.isNil (.done 0 [.cG [.v (.pointer none),.v (.pointer none)]] []) (.test (!((r2.comp 1).toBool)) (.done 0 [.cG [.v (.pointer none),.v (.pointer none)]] []) (.call 34 [VS ((r2.comp 0).ag),VS a2,VI 100] [] fun r3 o3=>NT r3<|NP (r3.comp 0)<|NP (r3.comp 1)<|.done 0 [.cG [r1,(r3.comp 1)]] []))
theorem M5(a0:ByteArray)(a1:ByteArray)(a2:ByteArray)(h:dF 35 (K9 a0 a1 a2) R):aq Tryz.prog 45 [VS a0,VS a1,VS a2] [] R :=
 uQ (ah (aA _) (ah (aA _) (ah (aA _) aD))) (oQ [] Tryz.f45 h)
def Ew:LI:={hd:={cd:=[(7,.k (.int .i64))],refs:=[(2,2),(4,4)],cm:=[(2,[.lk .str,.lk .sl]),(4,[.lk .str,.lk .sl])],eM:=[(6,1)]},xs:={refs:=[(2,2),(4,4)],cm:=[(2,[.lk .str,.lk .sl]),(4,[.lk .str,.lk .sl])]},rt:={cd:=[(3,.k .bool)],refs:=[(2,2)],cm:=[(2,[.lk .str,.lk .sl])]},ex:=0}
def JO:Code:=cY (cQ Tryz.f46) 6
def Li:List (Nat×LI):=[(6,Ew)]
def IX(a0:ByteArray):Tree :=
 .call 82 [VS a0] [] fun r1 o1=>NT r1<|.ak ((r1.comp 0)=.agg (r1.comp 0).cs/\(r1.comp 0).cs.length=2/\bB [.str,.sl] ((r1.comp 0).cs) 0)<|NB (r1.comp 1)<|.test (!((r1.comp 1).toBool)) (.done 0 [.cG [.agg [VS (((r1.comp 0).cs.getD 0 .any).ag),((r1.comp 0).cs.getD 1 .any)],VB false]] []) (.call 98 [.agg [VS (((r1.comp 0).cs.getD 0 .any).ag),((r1.comp 0).cs.getD 1 .any)],.sl [],.vec 0] [.vec 1 []] fun r2 o2=>.ak (r2=.vec 1/\(o2.tail.hO)=.vec 1 (o2.tail.hO).es)<|.loop JO Ew [VI 0] [.cells [VS (mk []),.v (.slice none 0 0)],.cells [VS (((r1.comp 0).cs.getD 0 .any).ag),((r1.comp 0).cs.getD 1 .any)],.vec 1 ((o2.tail.hO).es)] (fun y4 q4=>.ak ((q4.hO)=.cells (q4.hO).cs)<|.ak (af [.lk .str,.lk .sl] ((q4.hO).cs) 0 q4.tail)<|.ak (((q4.tail.drop 0).hO)=.cells ((q4.tail.drop 0).hO).cs)<|.ak (af [.lk .str,.lk .sl] (((q4.tail.drop 0).hO).cs) 0 ((q4.tail.drop 0).tail))<|.done 0 [.cG [.agg [VS (((q4.tail.hO).cs.getD 0 .any).ag),((q4.tail.hO).cs.getD 1 .any)],VB true]] []) (fun y4 q4=>NB (y4.hA)<|.ak ((q4.hO)=.cells (q4.hO).cs)<|.ak (af [.lk .str,.lk .sl] ((q4.hO).cs) 0 q4.tail)<|.done 0 [.cG [.agg [VS (((q4.hO).cs.getD 0 .any).ag),((q4.hO).cs.getD 1 .any)],VB ((y4.hA).toBool)]] []))
theorem N6(a0:ByteArray)(h:dF 33 (IX a0) R):aq Tryz.prog 46 [VS a0] [] R :=
 uQ (ah (aA _) aD) (oQ Li Tryz.f46 h)
def EY(x7:Int)(o2_0:ByteArray)(o2_1:AV)(o4_0:ByteArray)(o4_1:AV)(e6:List (List AV)):Tree :=
 NI (VI x7)<|.ak (Ob.cells [VS o2_0,o2_1]=.cells [VS o2_0,o2_1])<|.ak (af [.lk .str,.lk .sl] [VS o2_0,o2_1] 0 [.cells [VS o4_0,o4_1],.vec 1 e6])<|.ak (Ob.cells [VS o4_0,o4_1]=.cells [VS o4_0,o4_1])<|.ak (af [.lk .str,.lk .sl] [VS o4_0,o4_1] 0 [.vec 1 e6])<|.ak (Ob.vec 1 e6=.vec 1 e6)<|.test (decide (x7<(e6.length:Int))) (.ak (0<=x7/\x7<e6.length)<|.ak (x7.toNat<e6.length/\0<(e6.getD x7.toNat []).length/\LK.has .str ((e6.getD x7.toNat []).getD 0 .any))<|.call 99 [VS (((e6.getD x7.toNat []).getD 0 .any).ag)] [] fun r1 o1=>NB r1<|.test r1.toBool (.done 2 [VB false] [.cells [VS o4_0,o4_1]]) (.done 0 [VI (IntKind.wrap .i64 (x7+1))] [.cells [VS o2_0,o2_1],.cells [VS o4_0,o4_1],.vec 1 e6])) (.done 1 [] [.cells [VS o2_0,o2_1],.cells [VS o4_0,o4_1]])
abbrev Gk:=cH Tryz.prog 33 JO Ew
theorem JN(x7:Int)(o2_0:ByteArray)(o2_1:AV)(o4_0:ByteArray)(o4_1:AV)(e6:List (List AV))(h:l8 33 (EY x7 o2_0 o2_1 o4_0 o4_1 e6) Gk U):Gk [VI x7] [.cells [VS o2_0,o2_1],.cells [VS o4_0,o4_1],.vec 1 e6] U :=
 gQ Li h
def KA(a0:ByteArray)(a1:ByteArray):Tree :=
 .call 82 [VS a0] [] fun r1 o1=>NT r1<|.ak ((r1.comp 0)=.agg (r1.comp 0).cs/\(r1.comp 0).cs.length=2/\bB [.str,.sl] ((r1.comp 0).cs) 0)<|NB (r1.comp 1)<|.test (!((r1.comp 1).toBool)) (.done 0 [.cG [VS (mk []),VB false]] []) (.call 100 [VS a1] [] fun r2 o2=>NB r2<|.test (!r2.toBool) (.done 0 [.cG [VS (mk []),VB false]] []) (.call 101 [.agg [VS (((r1.comp 0).cs.getD 0 .any).ag),((r1.comp 0).cs.getD 1 .any)],VS a1] [] fun r3 o3=>NT r3<|.ak ((r3.comp 0)=.agg (r3.comp 0).cs/\(r3.comp 0).cs.length=2/\bB [.str,.sl] ((r3.comp 0).cs) 0)<|NB (r3.comp 1)<|.test (!((r3.comp 1).toBool)) (.done 0 [.cG [VS (mk []),VB false]] []) (.call 102 [.agg [VS (((r3.comp 0).cs.getD 0 .any).ag),((r3.comp 0).cs.getD 1 .any)]] [] fun r4 o4=>NT r4<|NS (r4.comp 0)<|NB (r4.comp 1)<|.done 0 [.cG [VS ((r4.comp 0).ag),VB ((r4.comp 1).toBool)]] [])))
theorem Pq(a0:ByteArray)(a1:ByteArray)(h:dF 34 (KA a0 a1) R):aq Tryz.prog 47 [VS a0,VS a1] [] R :=
 uQ (ah (aA _) (ah (aA _) aD)) (oQ [] Tryz.f47 h)
def Hp(a0:ByteArray):Tree :=
 .call 103 [VS a0] [] fun r1 o1=>NP r1<|NP r1<|.test r1.isNil (.done 0 [.v (.pointer none)] []) (.call 104 [r1] [] fun r2 o2=>NP r2<|NP r2<|.test r2.isNil (.done 0 [.v (.pointer none)] []) (.call 50 [r2] [] fun r3 o3=>NI r3<|.test (decide (r3.toInt>(200:Int))) (.done 0 [.v (.pointer none)] []) (.done 0 [r2] [])))
theorem MT(a0:ByteArray)(h:dF 19 (Hp a0) R):aq Tryz.prog 48 [VS a0] [] R :=
 uQ (ah (aA _) aD) (oQ [] Tryz.f48 h)
def zP(a0_0:AV)(a0_1:AV)(a1:AV)(a2_0:ByteArray)(a2_1:AV)(a3:AV):Tree :=
 NZ a0_0<|NZ a0_0<|.ak (LK.has (.int .u8) (a0_0.deref.hA)/\1<=a0_0.deref.length)<|.test (((a0_0.deref.hA).toInt)==(43:Int)) (.call 105 [.agg [a0_0,a0_1]] [] fun r1 o1=>.ak (r1=.agg r1.cs/\r1.cs.length=2/\bB [.ptr,.ptr] r1.cs 0)<|NZ a1<|NZ a1<|.ak (LK.has (.int .u8) (a1.deref.hA)/\1<=a1.deref.length)<|.test (((a1.deref.hA).toInt)==(114:Int)) (.call 106 [.agg [a0_0,a0_1]] [] fun r2 o2=>.ak (r2=.agg r2.cs/\r2.cs.length=2/\bB [.ptr,.ptr] r2.cs 0)<|NZ a1<|NZ a1<|.ak (LK.has (.int .u8) (a1.deref.hA)/\1<=a1.deref.length)<|NZ a1<|NZ a1<|eA (a1.deref.drop 2)<|.call 49 [.agg [(r2.cs.getD 0 .any),(r2.cs.getD 1 .any)],((a1.deref.drop 2).hA),.agg [VS a2_0,a2_1],a3] [] fun r3 o3=>NP r3<|.call 95 [.v (.int .u8 ((a1.deref.hA).toInt)),r3] [] fun r4 o4=>NP r4<|.done 0 [r4] []) (NZ a1<|NZ a1<|.ak (LK.has (.int .u8) (a1.deref.hA)/\1<=a1.deref.length)<|NZ a1<|NZ a1<|eA (a1.deref.drop 2)<|.call 49 [.agg [(r1.cs.getD 0 .any),(r1.cs.getD 1 .any)],((a1.deref.drop 2).hA),.agg [VS a2_0,a2_1],a3] [] fun r5 o5=>NP r5<|.call 95 [.v (.int .u8 ((a1.deref.hA).toInt)),r5] [] fun r6 o6=>NP r6<|.done 0 [r6] [])) (.test (((a0_0.deref.hA).toInt)==(42:Int)) (NZ a1<|NZ a1<|.ak (LK.has (.int .u8) (a1.deref.hA)/\1<=a1.deref.length)<|.test (((a1.deref.hA).toInt)==(108:Int)) (.call 105 [.agg [a0_0,a0_1]] [] fun r7 o7=>.ak (r7=.agg r7.cs/\r7.cs.length=2/\bB [.ptr,.ptr] r7.cs 0)<|NZ a1<|NZ a1<|eA (a1.deref.drop 2)<|NZ ((a1.deref.drop 2).hA)<|NZ ((a1.deref.drop 2).hA)<|eA (((a1.deref.drop 2).hA).deref.drop 2)<|.call 49 [.agg [(r7.cs.getD 0 .any),(r7.cs.getD 1 .any)],((((a1.deref.drop 2).hA).deref.drop 2).hA),.agg [VS a2_0,a2_1],a3] [] fun r8 o8=>NP r8<|NZ a1<|NZ a1<|eA (a1.deref.drop 2)<|NZ ((a1.deref.drop 2).hA)<|NZ ((a1.deref.drop 2).hA)<|eA (((a1.deref.drop 2).hA).deref.drop 3)<|.call 96 [r8,((((a1.deref.drop 2).hA).deref.drop 3).hA)] [] fun r9 o9=>NP r9<|.done 0 [r9] []) (NZ a1<|NZ a1<|eA (a1.deref.drop 2)<|NZ ((a1.deref.drop 2).hA)<|NZ ((a1.deref.drop 2).hA)<|eA (((a1.deref.drop 2).hA).deref.drop 2)<|.call 106 [.agg [a0_0,a0_1]] [] fun r10 o10=>.ak (r10=.agg r10.cs/\r10.cs.length=2/\bB [.ptr,.ptr] r10.cs 0)<|NZ a1<|NZ a1<|eA (a1.deref.drop 2)<|NZ ((a1.deref.drop 2).hA)<|NZ ((a1.deref.drop 2).hA)<|eA (((a1.deref.drop 2).hA).deref.drop 3)<|.call 49 [.agg [(r10.cs.getD 0 .any),(r10.cs.getD 1 .any)],((((a1.deref.drop 2).hA).deref.drop 3).hA),.agg [VS a2_0,a2_1],a3] [] fun r11 o11=>NP r11<|.call 96 [((((a1.deref.drop 2).hA).deref.drop 2).hA),r11] [] fun r12 o12=>NP r12<|.done 0 [r12] [])) (.test (((a0_0.deref.hA).toInt)==(114:Int)) (.call 107 [.agg [a0_0,a0_1]] [] fun r13 o13=>NT r13<|.ak ((r13.comp 0)=.agg (r13.comp 0).cs/\(r13.comp 0).cs.length=2/\bB [.ptr,.ptr] ((r13.comp 0).cs) 0)<|NP (r13.comp 1)<|NZ a1<|NZ a1<|eA (a1.deref.drop 2)<|NZ ((a1.deref.drop 2).hA)<|NZ ((a1.deref.drop 2).hA)<|.ak (LK.has (.int .u8) (((a1.deref.drop 2).hA).deref.hA)/\1<=(((a1.deref.drop 2).hA).deref).length)<|.test (((((a1.deref.drop 2).hA).deref.hA).toInt)==(108:Int)) (NZ a1<|NZ a1<|eA (a1.deref.drop 2)<|NZ ((a1.deref.drop 2).hA)<|NZ ((a1.deref.drop 2).hA)<|eA (((a1.deref.drop 2).hA).deref.drop 2)<|.call 49 [.agg [((r13.comp 0).cs.getD 0 .any),((r13.comp 0).cs.getD 1 .any)],((((a1.deref.drop 2).hA).deref.drop 2).hA),.agg [VS a2_0,a2_1],a3] [] fun r14 o14=>NP r14<|.call 95 [.v (.int .u8 102),r14] [] fun r15 o15=>NP r15<|.done 0 [r15] []) (NZ a1<|NZ a1<|eA (a1.deref.drop 2)<|NZ ((a1.deref.drop 2).hA)<|NZ ((a1.deref.drop 2).hA)<|eA (((a1.deref.drop 2).hA).deref.drop 2)<|NZ ((((a1.deref.drop 2).hA).deref.drop 2).hA)<|NZ ((((a1.deref.drop 2).hA).deref.drop 2).hA)<|eA (((((a1.deref.drop 2).hA).deref.drop 2).hA).deref.drop 3)<|.call 49 [.agg [a0_0,a0_1],((((((a1.deref.drop 2).hA).deref.drop 2).hA).deref.drop 3).hA),.agg [VS a2_0,a2_1],a3] [] fun r16 o16=>NP r16<|NZ a1<|NZ a1<|eA (a1.deref.drop 2)<|NZ ((a1.deref.drop 2).hA)<|NZ ((a1.deref.drop 2).hA)<|eA (((a1.deref.drop 2).hA).deref.drop 2)<|NZ ((((a1.deref.drop 2).hA).deref.drop 2).hA)<|NZ ((((a1.deref.drop 2).hA).deref.drop 2).hA)<|eA (((((a1.deref.drop 2).hA).deref.drop 2).hA).deref.drop 2)<|.call 49 [.agg [((r13.comp 0).cs.getD 0 .any),((r13.comp 0).cs.getD 1 .any)],((((((a1.deref.drop 2).hA).deref.drop 2).hA).deref.drop 2).hA),.agg [VS (mk []),(r13.comp 1)],r16] [] fun r17 o17=>NP r17<|.call 95 [.v (.int .u8 102),r17] [] fun r18 o18=>NP r18<|.done 0 [r18] [])) (.done 0 [a3] [])))
theorem MB(a0_0:AV)(a0_1:AV)(a1:AV)(a2_0:ByteArray)(a2_1:AV)(a3:AV)(ha0_0:LK.has .ptr a0_0)(ha0_1:LK.has .ptr a0_1)(ha1:LK.has .ptr a1)(ha2_1:LK.has .ptr a2_1)(ha3:LK.has .ptr a3)(h:dF 147 (zP a0_0 a0_1 a1 a2_0 a2_1 a3) R):aq Tryz.prog 49 [.agg [a0_0,a0_1],a1,.agg [VS a2_0,a2_1],a3] [] R :=
 uQ (ah (cr (ah (bF ha0_0) (ah (bF ha0_1) aD))) (ah (bF ha1) (ah (cr (ah (aA _) (ah (bF ha2_1) aD))) (ah (bF ha3) aD)))) (oQ [] Tryz.f49 h)
def wk(a0:AV):Tree :=
 NZ a0<|NZ a0<|eA (a0.deref.drop 2)<|NP ((a0.deref.drop 2).hA)<|.test (!((a0.deref.drop 2).hA).isNil) (NZ a0<|NZ a0<|eA (a0.deref.drop 2)<|.call 50 [((a0.deref.drop 2).hA)] [] fun r1 o1=>NI r1<|NZ a0<|NZ a0<|eA (a0.deref.drop 3)<|NP ((a0.deref.drop 3).hA)<|.test (!((a0.deref.drop 3).hA).isNil) (NZ a0<|NZ a0<|eA (a0.deref.drop 3)<|.call 50 [((a0.deref.drop 3).hA)] [] fun r2 o2=>NI r2<|.done 0 [VI (IntKind.wrap .i64 ((IntKind.wrap .i64 (1+r1.toInt))+r2.toInt))] []) (.done 0 [VI (IntKind.wrap .i64 (1+r1.toInt))] [])) (NZ a0<|NZ a0<|eA (a0.deref.drop 3)<|NP ((a0.deref.drop 3).hA)<|.test (!((a0.deref.drop 3).hA).isNil) (NZ a0<|NZ a0<|eA (a0.deref.drop 3)<|.call 50 [((a0.deref.drop 3).hA)] [] fun r3 o3=>NI r3<|.done 0 [VI (IntKind.wrap .i64 (1+r3.toInt))] []) (.done 0 [VI 1] []))
theorem yp(a0:AV)(ha0:LK.has .ptr a0)(h:dF 29 (wk a0) R):aq Tryz.prog 50 [a0] [] R :=
 uQ (ah (bF ha0) aD) (oQ [] Tryz.f50 h)
def Mf(a0_0:AV)(a0_1:Int):Tree :=
 .call 108 [.ref 0 0] [.cells [a0_0,VI a0_1]] fun r1 o1=>.ak ((o1.hO)=.cells (o1.hO).cs)<|.ak (aM [.lk .sl,.lk (.int .i64)] ((o1.hO).cs) 0 1 o1.tail)<|NS r1<|.call 33 [.ref 0 0,VS r1.ag] [.cells [((o1.hO).cs.getD 0 .any),VI (((o1.hO).cs.getD 1 .any).toInt)]] fun r2 o2=>.ak ((o2.hO)=.cells (o2.hO).cs)<|.ak (aM [.lk .sl,.lk (.int .i64)] ((o2.hO).cs) 0 1 o2.tail)<|NS r2<|.done 0 [.cG [VS r1.ag,VS r2.ag]] [.cells [((o2.hO).cs.getD 0 .any),VI (((o2.hO).cs.getD 1 .any).toInt)]]
theorem O6(a0_0:AV)(a0_1:Int)(ha0_0:LK.has .sl a0_0)(h:dF 11 (Mf a0_0 a0_1) R):aq Tryz.prog 51 [.ref 0 0] [.cells [a0_0,VI a0_1]] R :=
 aq.oP (bu (cc (ah (bY ha0_0) (ah (aA _) aD))) cx) (aq.up (ah (aA _) aD) (oF [] {mu:=[(0,.one (.obj [.lk .sl,.lk (.int .i64)]))],own:=[]} Tryz.f51 h))
def JQ(a0_0:AV)(a0_1:Int):Tree :=
 .call 55 [.ref 0 0,.sl [[VS (mk [120])],[VS (mk [120])],[VS (mk [121])],[VS (mk [120])],[VS (mk [116])],[VS (mk [122])]]] [.cells [a0_0,VI a0_1]] fun r1 o1=>.ak ((o1.hO)=.cells (o1.hO).cs)<|.ak (aM [.lk .sl,.lk (.int .i64)] ((o1.hO).cs) 0 1 o1.tail)<|NS r1<|.done 0 [VS r1.ag] [.cells [((o1.hO).cs.getD 0 .any),VI (((o1.hO).cs.getD 1 .any).toInt)]]
theorem Oy(a0_0:AV)(a0_1:Int)(ha0_0:LK.has .sl a0_0)(h:dF 6 (JQ a0_0 a0_1) R):aq Tryz.prog 52 [.ref 0 0] [.cells [a0_0,VI a0_1]] R :=
 aq.oP (bu (cc (ah (bY ha0_0) (ah (aA _) aD))) cx) (aq.up (ah (aA _) aD) (oF [] {mu:=[(0,.one (.obj [.lk .sl,.lk (.int .i64)]))],own:=[]} Tryz.f52 h))
def L0(a0:ByteArray)(a1:ByteArray)(a2:ByteArray):Tree :=
 .call 46 [VS a0] [] fun r1 o1=>NT r1<|.ak ((r1.comp 0)=.agg (r1.comp 0).cs/\(r1.comp 0).cs.length=2/\bB [.str,.sl] ((r1.comp 0).cs) 0)<|NB (r1.comp 1)<|.call 37 [VS a2] [] fun r2 o2=>NT r2<|.ak ((r2.comp 0)=.agg (r2.comp 0).cs/\(r2.comp 0).cs.length=2/\bB [.str,.sl] ((r2.comp 0).cs) 0)<|NB (r2.comp 1)<|.call 39 [VS a0,VS a2,VI 100] [] fun r3 o3=>NB r3<|.test (!r3.toBool) (.done 0 [.cG [.sl [],VB false]] []) (.call 100 [VS a1] [] fun r4 o4=>NB r4<|.test (!r4.toBool) (.done 0 [.cG [.sl [],VB false]] []) (.call 110 [.agg [VS (((r1.comp 0).cs.getD 0 .any).ag),((r1.comp 0).cs.getD 1 .any)],VS a1,.agg [VS (((r2.comp 0).cs.getD 0 .any).ag),((r2.comp 0).cs.getD 1 .any)]] [] fun r5 o5=>NL r5<|.call 109 [r5] [] fun r6 o6=>NL r6<|.done 0 [.cG [r6,VB true]] []))
theorem Np(a0:ByteArray)(a1:ByteArray)(a2:ByteArray)(h:dF 37 (L0 a0 a1 a2) R):aq Tryz.prog 53 [VS a0,VS a1,VS a2] [] R :=
 uQ (ah (aA _) (ah (aA _) (ah (aA _) aD))) (oQ [] Tryz.f53 h)
def I8(a0:Int):Tree :=
 .test (decide (a0<((-9223372036854775807):Int))) (.done 0 [VS (mk [45,57,50,50,51,51,55,50,48,51,54,56,53,52,55,55,53,56,48,56])] []) (.test (decide (a0<(0:Int))) (.call 54 [VI (IntKind.wrap .i64 (0-a0))] [] fun r1 o1=>NS r1<|.ak (ae (mk [45])+ae r1.ag<=9223372036854775807)<|.done 0 [VS (((mk [45]):ByteArray)++r1.ag)] []) (.test (decide (a0<(10:Int))) (.ak (jy [[.v (.int .u8 (IntKind.wrap .u8 (IntKind.wrap .i64 (48+a0))))]])<|.done 0 [VS (⟨(bytesOf [[.v (.int .u8 (IntKind.wrap .u8 (IntKind.wrap .i64 (48+a0))))]]).toArray⟩)] []) (.ak (¬(10:Int)=0)<|.call 54 [VI (IntKind.wrap .i64 (Int.tdiv a0 10))] [] fun r2 o2=>NS r2<|.ak (¬(10:Int)=0)<|.ak (jy [[.v (.int .u8 (IntKind.wrap .u8 (IntKind.wrap .i64 (48+(dB a0 10)))))]])<|.ak (ae r2.ag+ae (⟨(bytesOf [[.v (.int .u8 (IntKind.wrap .u8 (IntKind.wrap .i64 (48+(dB a0 10)))))]]).toArray⟩)<=9223372036854775807)<|.done 0 [VS ((r2.ag:ByteArray)++(⟨(bytesOf [[.v (.int .u8 (IntKind.wrap .u8 (IntKind.wrap .i64 (48+(dB a0 10)))))]]).toArray⟩))] [])))
theorem OF(a0:Int)(h:dF 28 (I8 a0) R):aq Tryz.prog 54 [VI a0] [] R :=
 uQ (ah (aA _) aD) (oQ [] Tryz.f54 h)
def Lu(a0_0:AV)(a0_1:Int)(a1:AV):Tree :=
 NL a1<|.call 32 [.ref 0 0,VI (a1.aR.length:Int)] [.cells [a0_0,VI a0_1]] fun r1 o1=>.ak ((o1.hO)=.cells (o1.hO).cs)<|.ak (aM [.lk .sl,.lk (.int .i64)] ((o1.hO).cs) 0 1 o1.tail)<|NI r1<|.ak (LK.has .sl a1/\0<=r1.toInt/\r1.toInt<a1.aR.length/\(a1.aR.getD r1.toInt.toNat []).length=1)<|mn (a1.aR.getD r1.toInt.toNat [])<|.done 0 [VS (((a1.aR.getD r1.toInt.toNat []).hA).ag)] [.cells [((o1.hO).cs.getD 0 .any),VI (((o1.hO).cs.getD 1 .any).toInt)]]
theorem MR(a0_0:AV)(a0_1:Int)(a1:AV)(ha1:LK.has .sl a1)(ha0_0:LK.has .sl a0_0)(h:dF 12 (Lu a0_0 a0_1 a1) R):aq Tryz.prog 55 [.ref 0 0,a1] [.cells [a0_0,VI a0_1]] R :=
 aq.oP (bu (cc (ah (bY ha0_0) (ah (aA _) aD))) cx) (aq.up (ah (aA _) (ah (bY ha1) aD)) (oF [] {mu:=[(0,.one (.obj [.lk .sl,.lk (.int .i64)]))],own:=[]} Tryz.f55 h))
def Aa:LI:={hd:={cd:=[(0,.k .str),(3,.k (.int .i64)),(4,.k (.int .i64))]},xs:={cd:=[(3,.k (.int .i64))]},rt:={cd:=[(2,.k (.int .i64))]},ex:=0}
def Du:Code:=cY (cQ Tryz.f56) 5
def J9:List (Nat×LI):=[(5,Aa)]
def I5(a0:ByteArray):Tree :=
 .call 87 [VI (ae a0:Int),VI 2,VI 3] [] fun r1 o1=>NB r1<|.test (!r1.toBool) (.done 0 [VI (-1)] []) (.ak (0<=(0:Int)/\(0:Int)<ae a0)<|.test ((bt a0 0) != (101:Int)) (.done 0 [VI (-1)] []) (.test ((ae a0:Int)==(3:Int)) (.ak (0<=(1:Int)/\(1:Int)<ae a0)<|.test ((bt a0 1)==(48:Int)) (.done 0 [VI (-1)] []) (.loop Du Aa [VS a0,VI 0,VI 1] [] (fun y2 q2=>NI (y2.hA)<|.done 0 [VI ((y2.hA).toInt)] []) (fun y2 q2=>NI (y2.hA)<|.done 0 [VI ((y2.hA).toInt)] []))) (.loop Du Aa [VS a0,VI 0,VI 1] [] (fun y3 q3=>NI (y3.hA)<|.done 0 [VI ((y3.hA).toInt)] []) (fun y3 q3=>NI (y3.hA)<|.done 0 [VI ((y3.hA).toInt)] []))))
theorem N8(a0:ByteArray)(h:dF 49 (I5 a0) R):aq Tryz.prog 56 [VS a0] [] R :=
 uQ (ah (aA _) aD) (oQ J9 Tryz.f56 h)
def F6(x0:ByteArray)(x3:Int)(x4:Int):Tree :=
 NS (VS x0)<|NI (VI x3)<|NI (VI x4)<|.test (decide (x4<(ae x0:Int))) (.ak (0<=x4/\x4<ae x0)<|.test (decide ((bt x0 x4)<(48:Int))) (.done 2 [VI (-1)] []) (.ak (0<=x4/\x4<ae x0)<|.test (decide ((bt x0 x4)>(57:Int))) (.done 2 [VI (-1)] []) (.ak (0<=x4/\x4<ae x0)<|.done 0 [VS x0,VI (IntKind.wrap .i64 ((IntKind.wrap .i64 (10*x3))+(IntKind.wrap .i64 (IntKind.wrap .u8 ((bt x0 x4)-48))))),VI (IntKind.wrap .i64 (x4+1))] []))) (.done 1 [VI x3] [])
abbrev ES:=cH Tryz.prog 49 Du Aa
theorem IS(x0:ByteArray)(x3:Int)(x4:Int)(h:l8 49 (F6 x0 x3 x4) ES U):ES [VS x0,VI x3,VI x4] [] U :=
 gQ J9 h
def G0:LI:={hd:={cd:=[(3,.k .str),(4,.k (.int .i64))],refs:=[(1,1)],cm:=[(1,[.lk .str,.lk .sl])]},xs:={cd:=[(3,.k .str)]},rt:={},ex:=0}
def Jw:Code:=cY (cQ Tryz.f57) 5
def Kx:List (Nat×LI):=[(5,G0)]
def CH(a0_0:ByteArray)(a0_1:AV):Tree :=
 .test (!(ac a0_0==ac (mk []))) (.done 0 [VS a0_0] []) (.loop Jw G0 [VS (mk [40]),VI 0] [.cells [VS a0_0,a0_1]] (fun y3 q3=>NS (y3.hA)<|.ak (ae ((y3.hA).ag)+ae (mk [41])<=9223372036854775807)<|.done 0 [VS ((((y3.hA).ag):ByteArray)++(mk [41]))] []) (fun y3 q3=>.done 0 [.any] []))
theorem Fl(a0_0:ByteArray)(a0_1:AV)(ha0_1:LK.has .sl a0_1)(h:dF 31 (CH a0_0 a0_1) R):aq Tryz.prog 57 [.agg [VS a0_0,a0_1]] [] R :=
 uQ (ah (cr (ah (aA _) (ah (bY ha0_1) aD))) aD) (oQ Kx Tryz.f57 h)
def BG(x3:ByteArray)(x4:Int)(o1_0:ByteArray)(o1_1:AV):Tree :=
 NS (VS x3)<|NI (VI x4)<|.ak (Ob.cells [VS o1_0,o1_1]=.cells [VS o1_0,o1_1])<|.ak (af [.lk .str,.lk .sl] [VS o1_0,o1_1] 0 [])<|NL o1_1<|.test (decide (x4<(o1_1.aR.length:Int))) (.test (decide (x4>(0:Int))) (.ak (ae x3+ae (mk [32])<=9223372036854775807)<|NG o1_1 x4 2<|NE (o1_1.ix x4)<|.call 57 [.agg [VS (((o1_1.ix x4).getD 0 .any).ag),((o1_1.ix x4).getD 1 .any)]] [] fun r1 o1=>NS r1<|.ak (ae ((x3:ByteArray)++(mk [32]))+ae r1.ag<=9223372036854775807)<|.done 0 [VS ((((x3:ByteArray)++(mk [32])):ByteArray)++r1.ag),VI (IntKind.wrap .i64 (x4+1))] [.cells [VS o1_0,o1_1]]) (NG o1_1 x4 2<|NE (o1_1.ix x4)<|.call 57 [.agg [VS (((o1_1.ix x4).getD 0 .any).ag),((o1_1.ix x4).getD 1 .any)]] [] fun r2 o2=>NS r2<|.ak (ae x3+ae r2.ag<=9223372036854775807)<|.done 0 [VS ((x3:ByteArray)++r2.ag),VI (IntKind.wrap .i64 (x4+1))] [.cells [VS o1_0,o1_1]])) (.done 1 [VS x3] [])
abbrev AS:=cH Tryz.prog 31 Jw G0
theorem CQ(x3:ByteArray)(x4:Int)(o1_0:ByteArray)(o1_1:AV)(h:l8 31 (BG x3 x4 o1_0 o1_1) AS U):AS [VS x3,VI x4] [.cells [VS o1_0,o1_1]] U :=
 gQ Kx h
def Cf(a0_0:ByteArray)(a0_1:AV)(a1:ByteArray)(a2_0:ByteArray)(a2_1:AV)(a3_0:ByteArray)(a3_1:AV):Tree :=
 .test (!(ac a0_0==ac (mk []))) (.done 0 [.agg [VS a3_0,a3_1]] []) (NG a2_1 1 2<|NE (a2_1.ix (1:Int))<|.call 90 [.agg [VS a0_0,a0_1]] [] fun r1 o1=>NS r1<|.call 90 [.agg [VS a2_0,a2_1]] [] fun r2 o2=>NS r2<|.ak (ae r1.ag+ae r2.ag<=9223372036854775807)<|.test (ac ((r1.ag:ByteArray)++r2.ag)==ac (mk [43,108])) (NG a0_1 1 2<|NE (a0_1.ix (1:Int))<|.call 58 [.agg [VS (((a0_1.ix (1:Int)).getD 0 .any).ag),((a0_1.ix (1:Int)).getD 1 .any)],VS a1,.agg [VS (((a2_1.ix (1:Int)).getD 0 .any).ag),((a2_1.ix (1:Int)).getD 1 .any)],.agg [VS a3_0,a3_1]] [] fun r3 o3=>NA r3<|.call 69 [VS (mk [108]),.sl [[VS ((r3.cs.getD 0 .any).ag),(r3.cs.getD 1 .any)]]] [] fun r4 o4=>NA r4<|.done 0 [.agg [VS ((r4.cs.getD 0 .any).ag),(r4.cs.getD 1 .any)]] []) (.test (ac ((r1.ag:ByteArray)++r2.ag)==ac (mk [43,114])) (NG a0_1 2 2<|NE (a0_1.ix (2:Int))<|.call 58 [.agg [VS (((a0_1.ix (2:Int)).getD 0 .any).ag),((a0_1.ix (2:Int)).getD 1 .any)],VS a1,.agg [VS (((a2_1.ix (1:Int)).getD 0 .any).ag),((a2_1.ix (1:Int)).getD 1 .any)],.agg [VS a3_0,a3_1]] [] fun r5 o5=>NA r5<|.call 69 [VS (mk [114]),.sl [[VS ((r5.cs.getD 0 .any).ag),(r5.cs.getD 1 .any)]]] [] fun r6 o6=>NA r6<|.done 0 [.agg [VS ((r6.cs.getD 0 .any).ag),(r6.cs.getD 1 .any)]] []) (.test (ac ((r1.ag:ByteArray)++r2.ag)==ac (mk [42,108])) (NG a0_1 1 2<|NE (a0_1.ix (1:Int))<|NG ((a2_1.ix (1:Int)).getD 1 .any) 1 2<|NE (((a2_1.ix (1:Int)).getD 1 .any).ix (1:Int))<|.call 58 [.agg [VS (((a0_1.ix (1:Int)).getD 0 .any).ag),((a0_1.ix (1:Int)).getD 1 .any)],VS a1,.agg [VS (((((a2_1.ix (1:Int)).getD 1 .any).ix (1:Int)).getD 0 .any).ag),((((a2_1.ix (1:Int)).getD 1 .any).ix (1:Int)).getD 1 .any)],.agg [VS a3_0,a3_1]] [] fun r7 o7=>NA r7<|NG ((a2_1.ix (1:Int)).getD 1 .any) 2 2<|NE (((a2_1.ix (1:Int)).getD 1 .any).ix (2:Int))<|.call 69 [VS (mk [112]),.sl [[VS ((r7.cs.getD 0 .any).ag),(r7.cs.getD 1 .any)],[VS (((((a2_1.ix (1:Int)).getD 1 .any).ix (2:Int)).getD 0 .any).ag),((((a2_1.ix (1:Int)).getD 1 .any).ix (2:Int)).getD 1 .any)]]] [] fun r8 o8=>NA r8<|.done 0 [.agg [VS ((r8.cs.getD 0 .any).ag),(r8.cs.getD 1 .any)]] []) (.test (ac ((r1.ag:ByteArray)++r2.ag)==ac (mk [42,114])) (NG ((a2_1.ix (1:Int)).getD 1 .any) 1 2<|NE (((a2_1.ix (1:Int)).getD 1 .any).ix (1:Int))<|NG a0_1 2 2<|NE (a0_1.ix (2:Int))<|NG ((a2_1.ix (1:Int)).getD 1 .any) 2 2<|NE (((a2_1.ix (1:Int)).getD 1 .any).ix (2:Int))<|.call 58 [.agg [VS (((a0_1.ix (2:Int)).getD 0 .any).ag),((a0_1.ix (2:Int)).getD 1 .any)],VS a1,.agg [VS (((((a2_1.ix (1:Int)).getD 1 .any).ix (2:Int)).getD 0 .any).ag),((((a2_1.ix (1:Int)).getD 1 .any).ix (2:Int)).getD 1 .any)],.agg [VS a3_0,a3_1]] [] fun r9 o9=>NA r9<|.call 69 [VS (mk [112]),.sl [[VS (((((a2_1.ix (1:Int)).getD 1 .any).ix (1:Int)).getD 0 .any).ag),((((a2_1.ix (1:Int)).getD 1 .any).ix (1:Int)).getD 1 .any)],[VS ((r9.cs.getD 0 .any).ag),(r9.cs.getD 1 .any)]]] [] fun r10 o10=>NA r10<|.done 0 [.agg [VS ((r10.cs.getD 0 .any).ag),(r10.cs.getD 1 .any)]] []) (.call 90 [.agg [VS (((a2_1.ix (1:Int)).getD 0 .any).ag),((a2_1.ix (1:Int)).getD 1 .any)]] [] fun r11 o11=>NS r11<|.test (ac r11.ag==ac (mk [108])) (NG a0_1 2 2<|NE (a0_1.ix (2:Int))<|NG ((a2_1.ix (1:Int)).getD 1 .any) 1 2<|NE (((a2_1.ix (1:Int)).getD 1 .any).ix (1:Int))<|.call 58 [.agg [VS (((a0_1.ix (2:Int)).getD 0 .any).ag),((a0_1.ix (2:Int)).getD 1 .any)],VS a1,.agg [VS (((((a2_1.ix (1:Int)).getD 1 .any).ix (1:Int)).getD 0 .any).ag),((((a2_1.ix (1:Int)).getD 1 .any).ix (1:Int)).getD 1 .any)],.agg [VS a3_0,a3_1]] [] fun r12 o12=>NA r12<|.call 69 [VS (mk [102]),.sl [[VS ((r12.cs.getD 0 .any).ag),(r12.cs.getD 1 .any)]]] [] fun r13 o13=>NA r13<|.done 0 [.agg [VS ((r13.cs.getD 0 .any).ag),(r13.cs.getD 1 .any)]] []) (NG ((a2_1.ix (1:Int)).getD 1 .any) 1 2<|NE (((a2_1.ix (1:Int)).getD 1 .any).ix (1:Int))<|NG ((((a2_1.ix (1:Int)).getD 1 .any).ix (1:Int)).getD 1 .any) 2 2<|NE (((((a2_1.ix (1:Int)).getD 1 .any).ix (1:Int)).getD 1 .any).ix (2:Int))<|.call 58 [.agg [VS a0_0,a0_1],VS a1,.agg [VS (((((((a2_1.ix (1:Int)).getD 1 .any).ix (1:Int)).getD 1 .any).ix (2:Int)).getD 0 .any).ag),((((((a2_1.ix (1:Int)).getD 1 .any).ix (1:Int)).getD 1 .any).ix (2:Int)).getD 1 .any)],.agg [VS a3_0,a3_1]] [] fun r14 o14=>NA r14<|NG a0_1 2 2<|NE (a0_1.ix (2:Int))<|NG a0_1 1 2<|mn (a0_1.ix (1:Int))<|NG ((((a2_1.ix (1:Int)).getD 1 .any).ix (1:Int)).getD 1 .any) 1 2<|NE (((((a2_1.ix (1:Int)).getD 1 .any).ix (1:Int)).getD 1 .any).ix (1:Int))<|.call 58 [.agg [VS (((a0_1.ix (2:Int)).getD 0 .any).ag),((a0_1.ix (2:Int)).getD 1 .any)],VS (((a0_1.ix (1:Int)).hA).ag),.agg [VS (((((((a2_1.ix (1:Int)).getD 1 .any).ix (1:Int)).getD 1 .any).ix (1:Int)).getD 0 .any).ag),((((((a2_1.ix (1:Int)).getD 1 .any).ix (1:Int)).getD 1 .any).ix (1:Int)).getD 1 .any)],.agg [VS ((r14.cs.getD 0 .any).ag),(r14.cs.getD 1 .any)]] [] fun r15 o15=>NA r15<|.call 69 [VS (mk [102]),.sl [[VS ((r15.cs.getD 0 .any).ag),(r15.cs.getD 1 .any)]]] [] fun r16 o16=>NA r16<|.done 0 [.agg [VS ((r16.cs.getD 0 .any).ag),(r16.cs.getD 1 .any)]] []))))))
theorem ON(a0_0:ByteArray)(a0_1:AV)(a1:ByteArray)(a2_0:ByteArray)(a2_1:AV)(a3_0:ByteArray)(a3_1:AV)(ha0_1:LK.has .sl a0_1)(ha2_1:LK.has .sl a2_1)(ha3_1:LK.has .sl a3_1)(h:dF 132 (Cf a0_0 a0_1 a1 a2_0 a2_1 a3_0 a3_1) R):aq Tryz.prog 58 [.agg [VS a0_0,a0_1],VS a1,.agg [VS a2_0,a2_1],.agg [VS a3_0,a3_1]] [] R :=
 uQ (ah (cr (ah (aA _) (ah (bY ha0_1) aD))) (ah (aA _) (ah (cr (ah (aA _) (ah (bY ha2_1) aD))) (ah (cr (ah (aA _) (ah (bY ha3_1) aD))) aD)))) (oQ [] Tryz.f58 h)
def Ln(a0:ByteArray):Tree :=
 .call 111 [VS a0,VS (mk [120,121,122])] [] fun r1 o1=>NB r1<|.done 0 [VB r1.toBool] []
theorem NN(a0:ByteArray)(h:dF 5 (Ln a0) R):aq Tryz.prog 59 [VS a0] [] R :=
 uQ (ah (aA _) aD) (oQ [] Tryz.f59 h)
def EU:LI:={hd:={cd:=[(7,.k .sl),(8,.k (.int .i64)),(9,.k (.int .i64))],eM:=[(3,2)]},xs:={eM:=[(3,2)]},rt:={},ex:=0}
def Ib:Code:=cY (cQ Tryz.f60) 3
def K0:List (Nat×LI):=[(3,EU)]
def IE(a0:AV):Tree :=
 NL a0<|.loop Ib EU [a0,VI (a0.aR.length:Int),VI 0] [.vec 2 []] (fun y3 q3=>.ak (((q3.drop 0).hO)=.vec 2 ((q3.drop 0).hO).es)<|.done 0 [.sl ((q3.hO).es)] []) (fun y3 q3=>.done 0 [.any] [])
theorem Mu(a0:AV)(ha0:LK.has .sl a0)(h:dF 25 (IE a0) R):aq Tryz.prog 60 [a0] [] R :=
 uQ (ah (bY ha0) aD) (oQ K0 Tryz.f60 h)
def Ep(x7:AV)(x8:Int)(x9:Int)(e3:List (List AV)):Tree :=
 NL x7<|NI (VI x8)<|NI (VI x9)<|.ak (Ob.vec 2 e3=.vec 2 e3)<|.test (decide (x9<x8)) (NG x7 x9 2<|.ak (bB [.ptr,.ptr] (x7.ix x9) 0/\2<=(x7.ix x9).length)<|.call 93 [((x7.ix x9).getD 0 .any)] [] fun r1 o1=>NS r1<|.call 93 [((x7.ix x9).getD 1 .any)] [] fun r2 o2=>NS r2<|.ak (cD 2 [[VS r1.ag,VS r2.ag]]/\((e3.length)+([[VS r1.ag,VS r2.ag]]:List (List AV)).length)*32<=140737488355328)<|.done 0 [x7,VI x8,VI (IntKind.wrap .i64 (x9+1))] [.vec 2 (e3++([[VS r1.ag,VS r2.ag]]:List (List AV)))]) (.done 1 [] [.vec 2 e3])
abbrev Ef:=cH Tryz.prog 25 Ib EU
theorem H7(x7:AV)(x8:Int)(x9:Int)(e3:List (List AV))(h:l8 25 (Ep x7 x8 x9 e3) Ef U):Ef [x7,VI x8,VI x9] [.vec 2 e3] U :=
 gQ K0 h
def FH:LI:={hd:={cd:=[(97,.k .sl),(98,.k (.int .i64)),(99,.k (.int .i64))],refs:=[(3,3),(5,5),(7,7)],cm:=[(3,[.lk .ptr,.lk .ptr]),(5,[.lk .str,.lk .ptr]),(7,[.vec 2])],zS:=[(8,113,[7])]},xs:={refs:=[(7,7)],cm:=[(7,[.vec 2])]},rt:={},ex:=1}
def KI:Code:=cY (cQ Tryz.f61) 18
def Kd:List (Nat×LI):=[(18,FH)]
def Iy(a0_0:AV)(a0_1:AV)(a1:AV)(a2_0:ByteArray)(a2_1:AV):Tree :=
 .call 112 [.agg [VS a2_0,a2_1],.agg [a0_0,a0_1]] [] fun r1 o1=>NB r1<|.test r1.toBool (.done 0 [.sl [[.ptr [.v (.int .u8 117),VS (mk []),.v (.pointer none),.v (.pointer none)],a1]]] []) (NZ a0_0<|NZ a0_0<|.ak (LK.has (.int .u8) (a0_0.deref.hA)/\1<=a0_0.deref.length)<|.test (((a0_0.deref.hA).toInt)==(43:Int)) (.call 105 [.agg [a0_0,a0_1]] [] fun r2 o2=>.ak (r2=.agg r2.cs/\r2.cs.length=2/\bB [.ptr,.ptr] r2.cs 0)<|NZ a1<|NZ a1<|.ak (LK.has (.int .u8) (a1.deref.hA)/\1<=a1.deref.length)<|.test (((a1.deref.hA).toInt)==(114:Int)) (.call 106 [.agg [a0_0,a0_1]] [] fun r3 o3=>.ak (r3=.agg r3.cs/\r3.cs.length=2/\bB [.ptr,.ptr] r3.cs 0)<|NZ a1<|NZ a1<|eA (a1.deref.drop 2)<|.call 61 [.agg [(r3.cs.getD 0 .any),(r3.cs.getD 1 .any)],((a1.deref.drop 2).hA),.agg [VS a2_0,a2_1]] [] fun r4 o4=>NL r4<|.call 113 [r4,.fn 114 [.ref 0 0],.ref 1 0] [.cells [a1],.cells [.vec 2],.vec 2 []] fun r5 o5=>.ak ((o5.hO)=.cells (o5.hO).cs)<|.ak (aM [.lk .ptr] ((o5.hO).cs) 0 1 o5.tail)<|.ak ((o5.tail.hO)=.cells (o5.tail.hO).cs)<|.ak (aM [.vec 2] ((o5.tail.hO).cs) 0 2 o5.tail.tail)<|.done 0 [.sl ((o5.tail.tail.hO).es)] []) (NZ a1<|NZ a1<|eA (a1.deref.drop 2)<|.call 61 [.agg [(r2.cs.getD 0 .any),(r2.cs.getD 1 .any)],((a1.deref.drop 2).hA),.agg [VS a2_0,a2_1]] [] fun r6 o6=>NL r6<|.call 113 [r6,.fn 114 [.ref 0 0],.ref 1 0] [.cells [a1],.cells [.vec 2],.vec 2 []] fun r7 o7=>.ak ((o7.hO)=.cells (o7.hO).cs)<|.ak (aM [.lk .ptr] ((o7.hO).cs) 0 1 o7.tail)<|.ak ((o7.tail.hO)=.cells (o7.tail.hO).cs)<|.ak (aM [.vec 2] ((o7.tail.hO).cs) 0 2 o7.tail.tail)<|.done 0 [.sl ((o7.tail.tail.hO).es)] [])) (.test (((a0_0.deref.hA).toInt)==(42:Int)) (.call 105 [.agg [a0_0,a0_1]] [] fun r8 o8=>.ak (r8=.agg r8.cs/\r8.cs.length=2/\bB [.ptr,.ptr] r8.cs 0)<|NZ a1<|NZ a1<|eA (a1.deref.drop 2)<|.call 61 [.agg [(r8.cs.getD 0 .any),(r8.cs.getD 1 .any)],((a1.deref.drop 2).hA),.agg [VS a2_0,a2_1]] [] fun r9 o9=>NL r9<|.call 113 [r9,.fn 115 [.ref 0 0],.ref 1 0] [.cells [a1],.cells [.vec 2],.vec 2 []] fun r10 o10=>.ak ((o10.hO)=.cells (o10.hO).cs)<|.ak (aM [.lk .ptr] ((o10.hO).cs) 0 1 o10.tail)<|.ak ((o10.tail.hO)=.cells (o10.tail.hO).cs)<|.ak (aM [.vec 2] ((o10.tail.hO).cs) 0 2 o10.tail.tail)<|.call 106 [.agg [a0_0,a0_1]] [] fun r11 o11=>.ak (r11=.agg r11.cs/\r11.cs.length=2/\bB [.ptr,.ptr] r11.cs 0)<|NZ ((o10.hO).cs.getD 0 .any)<|NZ ((o10.hO).cs.getD 0 .any)<|eA (((o10.hO).cs.getD 0 .any).deref.drop 3)<|.call 61 [.agg [(r11.cs.getD 0 .any),(r11.cs.getD 1 .any)],((((o10.hO).cs.getD 0 .any).deref.drop 3).hA),.agg [VS a2_0,a2_1]] [] fun r12 o12=>NL r12<|.call 113 [r12,.fn 116 [.ref 0 0],.ref 1 0] [.cells [((o10.hO).cs.getD 0 .any)],.cells [.vec 2],.vec 2 ((o10.tail.tail.hO).es)] fun r13 o13=>.ak ((o13.hO)=.cells (o13.hO).cs)<|.ak (aM [.lk .ptr] ((o13.hO).cs) 0 1 o13.tail)<|.ak ((o13.tail.hO)=.cells (o13.tail.hO).cs)<|.ak (aM [.vec 2] ((o13.tail.hO).cs) 0 2 o13.tail.tail)<|.done 0 [.sl ((o13.tail.tail.hO).es)] []) (.test (((a0_0.deref.hA).toInt)==(114:Int)) (.call 107 [.agg [a0_0,a0_1]] [] fun r14 o14=>NT r14<|.ak ((r14.comp 0)=.agg (r14.comp 0).cs/\(r14.comp 0).cs.length=2/\bB [.ptr,.ptr] ((r14.comp 0).cs) 0)<|NP (r14.comp 1)<|NZ a1<|NZ a1<|eA (a1.deref.drop 2)<|.call 61 [.agg [((r14.comp 0).cs.getD 0 .any),((r14.comp 0).cs.getD 1 .any)],((a1.deref.drop 2).hA),.agg [VS a2_0,a2_1]] [] fun r15 o15=>NL r15<|.call 113 [r15,.v (.func (.func 117) #[] #[]),.ref 0 0] [.cells [.vec 1],.vec 2 []] fun r16 o16=>.ak ((o16.hO)=.cells (o16.hO).cs)<|.ak (aM [.vec 2] ((o16.hO).cs) 0 1 o16.tail)<|NZ a1<|NZ a1<|eA (a1.deref.drop 2)<|.call 61 [.agg [((r14.comp 0).cs.getD 0 .any),((r14.comp 0).cs.getD 1 .any)],((a1.deref.drop 2).hA),.agg [VS (mk []),(r14.comp 1)]] [] fun r17 o17=>NL r17<|NL r17<|.loop KI FH [r17,VI (r17.aR.length:Int),VI 0] [.cells [a0_0,a0_1],.cells [VS a2_0,a2_1],.cells [.any],.vec 2 ((o16.tail.hO).es)] (fun y20 q20=>.ak ((q20.hO)=.cells (q20.hO).cs)<|.ak (af [.vec 2] ((q20.hO).cs) 0 q20.tail)<|.done 0 [.sl ((q20.tail.hO).es)] []) (fun y20 q20=>.done 0 [.any] [])) (.done 0 [.sl []] []))))
theorem Of(a0_0:AV)(a0_1:AV)(a1:AV)(a2_0:ByteArray)(a2_1:AV)(ha0_0:LK.has .ptr a0_0)(ha0_1:LK.has .ptr a0_1)(ha1:LK.has .ptr a1)(ha2_1:LK.has .ptr a2_1)(h:dF 113 (Iy a0_0 a0_1 a1 a2_0 a2_1) R):aq Tryz.prog 61 [.agg [a0_0,a0_1],a1,.agg [VS a2_0,a2_1]] [] R :=
 uQ (ah (cr (ah (bF ha0_0) (ah (bF ha0_1) aD))) (ah (bF ha1) (ah (cr (ah (aA _) (ah (bF ha2_1) aD))) aD))) (oQ Kd Tryz.f61 h)
def E0(x97:AV)(x98:Int)(x99:Int)(o3_0:AV)(o3_1:AV)(o5_0:ByteArray)(o5_1:AV)(o7_0:List (List AV)):Tree :=
 NL x97<|NI (VI x98)<|NI (VI x99)<|.ak (Ob.cells [o3_0,o3_1]=.cells [o3_0,o3_1])<|.ak (af [.lk .ptr,.lk .ptr] [o3_0,o3_1] 0 [.cells [VS o5_0,o5_1],.cells [.any],.vec 2 o7_0])<|.ak (Ob.cells [VS o5_0,o5_1]=.cells [VS o5_0,o5_1])<|.ak (af [.lk .str,.lk .ptr] [VS o5_0,o5_1] 0 [.cells [.any],.vec 2 o7_0])<|.ak (Ob.cells [.any]=.cells [.any])<|.ak (af [.vec 2] [.any] 0 [.vec 2 o7_0])<|.test (decide (x99<x98)) (NG x97 x99 2<|.ak (bB [.ptr,.ptr] (x97.ix x99) 0/\2<=(x97.ix x99).length)<|.call 61 [.agg [o3_0,o3_1],((x97.ix x99).getD 1 .any),.agg [VS o5_0,o5_1]] [] fun r1 o1=>NL r1<|.call 113 [r1,.fn 118 [.ref 0 0],.ref 1 0] [.cells [((x97.ix x99).getD 0 .any),((x97.ix x99).getD 1 .any)],.cells [.vec 2],.vec 2 o7_0] fun r2 o2=>.ak ((o2.hO)=.cells (o2.hO).cs)<|.ak (aM [.lk .ptr,.lk .ptr] ((o2.hO).cs) 0 1 o2.tail)<|.ak ((o2.tail.hO)=.cells (o2.tail.hO).cs)<|.ak (aM [.vec 2] ((o2.tail.hO).cs) 0 2 o2.tail.tail)<|.done 0 [x97,VI x98,VI (IntKind.wrap .i64 (x99+1))] [.cells [o3_0,o3_1],.cells [VS o5_0,o5_1],.cells [.any],.vec 2 ((o2.tail.tail.hO).es)]) (.done 1 [] [.cells [.any],.vec 2 o7_0])
abbrev Ed:=cH Tryz.prog 113 KI FH
theorem Jq(x97:AV)(x98:Int)(x99:Int)(o3_0:AV)(o3_1:AV)(o5_0:ByteArray)(o5_1:AV)(o7_0:List (List AV))(h:l8 113 (E0 x97 x98 x99 o3_0 o3_1 o5_0 o5_1 o7_0) Ed U):Ed [x97,VI x98,VI x99] [.cells [o3_0,o3_1],.cells [VS o5_0,o5_1],.cells [.any],.vec 2 o7_0] U :=
 gQ Kd h
def Gy(a0:ByteArray)(a1:AV):Tree :=
 .ak (LK.has .sl a1/\cD 2 a1.aR/\((([[VS a0,.v (.slice none 0 0)]]:List (List AV)).length)+a1.aR.length)*40<=140737488355328)<|.done 0 [.agg [VS (mk []),.sl (([[VS a0,.v (.slice none 0 0)]]:List (List AV))++a1.aR)]] []
theorem LB(a0:ByteArray)(a1:AV)(ha1:LK.has .sl a1)(h:dF 11 (Gy a0 a1) R):aq Tryz.prog 69 [VS a0,a1] [] R :=
 uQ (ah (aA _) (ah (bY ha1) aD)) (oQ [] Tryz.f69 h)
def Jj(a0_0:AV)(a0_1:Int):Tree :=
 .call 32 [.ref 0 0,VI 12] [.cells [a0_0,VI a0_1]] fun r1 o1=>.ak ((o1.hO)=.cells (o1.hO).cs)<|.ak (aM [.lk .sl,.lk (.int .i64)] ((o1.hO).cs) 0 1 o1.tail)<|NI r1<|.test (r1.toInt==(0:Int)) (.call 55 [.ref 0 0,.sl [[VS (mk [])],[VS (mk [97])],[VS (mk [40,43,32,49,41])],[VS (mk [40,114,101,99,32,120,32,49,41])],[VS (mk [40,114,101,99,32,116,41])],[VS (mk [40,43,32,32,49,32,49,41])],[VS (mk [40,42,32,49,32,49,32,49,41])],[VS (mk [116,49,48,48])],[VS (mk [120,32,49])]]] [.cells [((o1.hO).cs.getD 0 .any),VI (((o1.hO).cs.getD 1 .any).toInt)]] fun r2 o2=>.ak ((o2.hO)=.cells (o2.hO).cs)<|.ak (aM [.lk .sl,.lk (.int .i64)] ((o2.hO).cs) 0 1 o2.tail)<|NS r2<|.done 0 [VS r2.ag] [.cells [((o2.hO).cs.getD 0 .any),VI (((o2.hO).cs.getD 1 .any).toInt)]]) (.test (r1.toInt==(1:Int)) (.call 119 [.ref 0 0] [.cells [((o1.hO).cs.getD 0 .any),VI (((o1.hO).cs.getD 1 .any).toInt)]] fun r3 o3=>.ak ((o3.hO)=.cells (o3.hO).cs)<|.ak (aM [.lk .sl,.lk (.int .i64)] ((o3.hO).cs) 0 1 o3.tail)<|NS r3<|.done 0 [VS r3.ag] [.cells [((o3.hO).cs.getD 0 .any),VI (((o3.hO).cs.getD 1 .any).toInt)]]) (.test (r1.toInt==(2:Int)) (.call 119 [.ref 0 0] [.cells [((o1.hO).cs.getD 0 .any),VI (((o1.hO).cs.getD 1 .any).toInt)]] fun r4 o4=>.ak ((o4.hO)=.cells (o4.hO).cs)<|.ak (aM [.lk .sl,.lk (.int .i64)] ((o4.hO).cs) 0 1 o4.tail)<|NS r4<|.done 0 [VS r4.ag] [.cells [((o4.hO).cs.getD 0 .any),VI (((o4.hO).cs.getD 1 .any).toInt)]]) (.test (r1.toInt==(3:Int)) (.call 119 [.ref 0 0] [.cells [((o1.hO).cs.getD 0 .any),VI (((o1.hO).cs.getD 1 .any).toInt)]] fun r5 o5=>.ak ((o5.hO)=.cells (o5.hO).cs)<|.ak (aM [.lk .sl,.lk (.int .i64)] ((o5.hO).cs) 0 1 o5.tail)<|NS r5<|.done 0 [VS r5.ag] [.cells [((o5.hO).cs.getD 0 .any),VI (((o5.hO).cs.getD 1 .any).toInt)]]) (.test (r1.toInt==(4:Int)) (.call 127 [.ref 0 0,.sl [[VS (mk [116])],[VS (mk [116,49])]],VI 2] [.cells [((o1.hO).cs.getD 0 .any),VI (((o1.hO).cs.getD 1 .any).toInt)]] fun r6 o6=>.ak ((o6.hO)=.cells (o6.hO).cs)<|.ak (aM [.lk .sl,.lk (.int .i64)] ((o6.hO).cs) 0 1 o6.tail)<|NS r6<|.done 0 [VS r6.ag] [.cells [((o6.hO).cs.getD 0 .any),VI (((o6.hO).cs.getD 1 .any).toInt)]]) (.call 127 [.ref 0 0,.sl [],VI 3] [.cells [((o1.hO).cs.getD 0 .any),VI (((o1.hO).cs.getD 1 .any).toInt)]] fun r7 o7=>.ak ((o7.hO)=.cells (o7.hO).cs)<|.ak (aM [.lk .sl,.lk (.int .i64)] ((o7.hO).cs) 0 1 o7.tail)<|NS r7<|.done 0 [VS r7.ag] [.cells [((o7.hO).cs.getD 0 .any),VI (((o7.hO).cs.getD 1 .any).toInt)]])))))
theorem Nt(a0_0:AV)(a0_1:Int)(ha0_0:LK.has .sl a0_0)(h:dF 24 (Jj a0_0 a0_1) R):aq Tryz.prog 76 [.ref 0 0] [.cells [a0_0,VI a0_1]] R :=
 aq.oP (bu (cc (ah (bY ha0_0) (ah (aA _) aD))) cx) (aq.up (ah (aA _) aD) (oF [] {mu:=[(0,.one (.obj [.lk .sl,.lk (.int .i64)]))],own:=[]} Tryz.f76 h))
def zQ(a0_0:AV)(a0_1:Int)(a1_0:ByteArray)(a1_1:AV)(a2:Int):Tree :=
 .call 90 [.agg [VS a1_0,a1_1]] [] fun r1 o1=>NS r1<|.test (ac r1.ag==ac (mk [43])) (.call 32 [.ref 0 0,VI 2] [.cells [a0_0,VI a0_1]] fun r2 o2=>.ak ((o2.hO)=.cells (o2.hO).cs)<|.ak (aM [.lk .sl,.lk (.int .i64)] ((o2.hO).cs) 0 1 o2.tail)<|NI r2<|NG a1_1 1 2<|NE (a1_1.ix (1:Int))<|.call 128 [.agg [VS (((a1_1.ix (1:Int)).getD 0 .any).ag),((a1_1.ix (1:Int)).getD 1 .any)],.sl []] [] fun r3 o3=>NB r3<|.test r3.toBool (.test ((1:Int)==(0:Int)) (NG a1_1 1 2<|NE (a1_1.ix (1:Int))<|.call 77 [.ref 0 0,.agg [VS (((a1_1.ix (1:Int)).getD 0 .any).ag),((a1_1.ix (1:Int)).getD 1 .any)],VI (IntKind.wrap .i64 (a2-1))] [.cells [((o2.hO).cs.getD 0 .any),VI (((o2.hO).cs.getD 1 .any).toInt)]] fun r4 o4=>.ak ((o4.hO)=.cells (o4.hO).cs)<|.ak (aM [.lk .sl,.lk (.int .i64)] ((o4.hO).cs) 0 1 o4.tail)<|NA r4<|.call 69 [VS (mk [108]),.sl [[VS ((r4.cs.getD 0 .any).ag),(r4.cs.getD 1 .any)]]] [] fun r5 o5=>NA r5<|.done 0 [.agg [VS ((r5.cs.getD 0 .any).ag),(r5.cs.getD 1 .any)]] [.cells [((o4.hO).cs.getD 0 .any),VI (((o4.hO).cs.getD 1 .any).toInt)]]) (NG a1_1 2 2<|NE (a1_1.ix (2:Int))<|.call 77 [.ref 0 0,.agg [VS (((a1_1.ix (2:Int)).getD 0 .any).ag),((a1_1.ix (2:Int)).getD 1 .any)],VI (IntKind.wrap .i64 (a2-1))] [.cells [((o2.hO).cs.getD 0 .any),VI (((o2.hO).cs.getD 1 .any).toInt)]] fun r6 o6=>.ak ((o6.hO)=.cells (o6.hO).cs)<|.ak (aM [.lk .sl,.lk (.int .i64)] ((o6.hO).cs) 0 1 o6.tail)<|NA r6<|.call 69 [VS (mk [114]),.sl [[VS ((r6.cs.getD 0 .any).ag),(r6.cs.getD 1 .any)]]] [] fun r7 o7=>NA r7<|.done 0 [.agg [VS ((r7.cs.getD 0 .any).ag),(r7.cs.getD 1 .any)]] [.cells [((o6.hO).cs.getD 0 .any),VI (((o6.hO).cs.getD 1 .any).toInt)]])) (.test (decide (a2<=(0:Int))) (NG a1_1 1 2<|NE (a1_1.ix (1:Int))<|.call 129 [.agg [VS (((a1_1.ix (1:Int)).getD 0 .any).ag),((a1_1.ix (1:Int)).getD 1 .any)]] [] fun r8 o8=>NI r8<|NG a1_1 2 2<|NE (a1_1.ix (2:Int))<|.call 129 [.agg [VS (((a1_1.ix (2:Int)).getD 0 .any).ag),((a1_1.ix (2:Int)).getD 1 .any)]] [] fun r9 o9=>NI r9<|.test (decide (r8.toInt>r9.toInt)) (NG a1_1 2 2<|NE (a1_1.ix (2:Int))<|.call 128 [.agg [VS (((a1_1.ix (2:Int)).getD 0 .any).ag),((a1_1.ix (2:Int)).getD 1 .any)],.sl []] [] fun r10 o10=>NB r10<|.test (!r10.toBool) (.test ((1:Int)==(0:Int)) (NG a1_1 1 2<|NE (a1_1.ix (1:Int))<|.call 77 [.ref 0 0,.agg [VS (((a1_1.ix (1:Int)).getD 0 .any).ag),((a1_1.ix (1:Int)).getD 1 .any)],VI (IntKind.wrap .i64 (a2-1))] [.cells [((o2.hO).cs.getD 0 .any),VI (((o2.hO).cs.getD 1 .any).toInt)]] fun r11 o11=>.ak ((o11.hO)=.cells (o11.hO).cs)<|.ak (aM [.lk .sl,.lk (.int .i64)] ((o11.hO).cs) 0 1 o11.tail)<|NA r11<|.call 69 [VS (mk [108]),.sl [[VS ((r11.cs.getD 0 .any).ag),(r11.cs.getD 1 .any)]]] [] fun r12 o12=>NA r12<|.done 0 [.agg [VS ((r12.cs.getD 0 .any).ag),(r12.cs.getD 1 .any)]] [.cells [((o11.hO).cs.getD 0 .any),VI (((o11.hO).cs.getD 1 .any).toInt)]]) (NG a1_1 2 2<|NE (a1_1.ix (2:Int))<|.call 77 [.ref 0 0,.agg [VS (((a1_1.ix (2:Int)).getD 0 .any).ag),((a1_1.ix (2:Int)).getD 1 .any)],VI (IntKind.wrap .i64 (a2-1))] [.cells [((o2.hO).cs.getD 0 .any),VI (((o2.hO).cs.getD 1 .any).toInt)]] fun r13 o13=>.ak ((o13.hO)=.cells (o13.hO).cs)<|.ak (aM [.lk .sl,.lk (.int .i64)] ((o13.hO).cs) 0 1 o13.tail)<|NA r13<|.call 69 [VS (mk [114]),.sl [[VS ((r13.cs.getD 0 .any).ag),(r13.cs.getD 1 .any)]]] [] fun r14 o14=>NA r14<|.done 0 [.agg [VS ((r14.cs.getD 0 .any).ag),(r14.cs.getD 1 .any)]] [.cells [((o13.hO).cs.getD 0 .any),VI (((o13.hO).cs.getD 1 .any).toInt)]])) (NG a1_1 2 2<|NE (a1_1.ix (2:Int))<|.call 128 [.agg [VS (((a1_1.ix (2:Int)).getD 0 .any).ag),((a1_1.ix (2:Int)).getD 1 .any)],.sl []] [] fun r15 o15=>NB r15<|.test r15.toBool (.test ((0:Int)==(0:Int)) (NG a1_1 1 2<|NE (a1_1.ix (1:Int))<|.call 77 [.ref 0 0,.agg [VS (((a1_1.ix (1:Int)).getD 0 .any).ag),((a1_1.ix (1:Int)).getD 1 .any)],VI (IntKind.wrap .i64 (a2-1))] [.cells [((o2.hO).cs.getD 0 .any),VI (((o2.hO).cs.getD 1 .any).toInt)]] fun r16 o16=>.ak ((o16.hO)=.cells (o16.hO).cs)<|.ak (aM [.lk .sl,.lk (.int .i64)] ((o16.hO).cs) 0 1 o16.tail)<|NA r16<|.call 69 [VS (mk [108]),.sl [[VS ((r16.cs.getD 0 .any).ag),(r16.cs.getD 1 .any)]]] [] fun r17 o17=>NA r17<|.done 0 [.agg [VS ((r17.cs.getD 0 .any).ag),(r17.cs.getD 1 .any)]] [.cells [((o16.hO).cs.getD 0 .any),VI (((o16.hO).cs.getD 1 .any).toInt)]]) (NG a1_1 2 2<|NE (a1_1.ix (2:Int))<|.call 77 [.ref 0 0,.agg [VS (((a1_1.ix (2:Int)).getD 0 .any).ag),((a1_1.ix (2:Int)).getD 1 .any)],VI (IntKind.wrap .i64 (a2-1))] [.cells [((o2.hO).cs.getD 0 .any),VI (((o2.hO).cs.getD 1 .any).toInt)]] fun r18 o18=>.ak ((o18.hO)=.cells (o18.hO).cs)<|.ak (aM [.lk .sl,.lk (.int .i64)] ((o18.hO).cs) 0 1 o18.tail)<|NA r18<|.call 69 [VS (mk [114]),.sl [[VS ((r18.cs.getD 0 .any).ag),(r18.cs.getD 1 .any)]]] [] fun r19 o19=>NA r19<|.done 0 [.agg [VS ((r19.cs.getD 0 .any).ag),(r19.cs.getD 1 .any)]] [.cells [((o18.hO).cs.getD 0 .any),VI (((o18.hO).cs.getD 1 .any).toInt)]])) (.test (decide (a2<=(0:Int))) (.test ((0:Int)==(0:Int)) (NG a1_1 1 2<|NE (a1_1.ix (1:Int))<|.call 77 [.ref 0 0,.agg [VS (((a1_1.ix (1:Int)).getD 0 .any).ag),((a1_1.ix (1:Int)).getD 1 .any)],VI (IntKind.wrap .i64 (a2-1))] [.cells [((o2.hO).cs.getD 0 .any),VI (((o2.hO).cs.getD 1 .any).toInt)]] fun r20 o20=>.ak ((o20.hO)=.cells (o20.hO).cs)<|.ak (aM [.lk .sl,.lk (.int .i64)] ((o20.hO).cs) 0 1 o20.tail)<|NA r20<|.call 69 [VS (mk [108]),.sl [[VS ((r20.cs.getD 0 .any).ag),(r20.cs.getD 1 .any)]]] [] fun r21 o21=>NA r21<|.done 0 [.agg [VS ((r21.cs.getD 0 .any).ag),(r21.cs.getD 1 .any)]] [.cells [((o20.hO).cs.getD 0 .any),VI (((o20.hO).cs.getD 1 .any).toInt)]]) (NG a1_1 2 2<|NE (a1_1.ix (2:Int))<|.call 77 [.ref 0 0,.agg [VS (((a1_1.ix (2:Int)).getD 0 .any).ag),((a1_1.ix (2:Int)).getD 1 .any)],VI (IntKind.wrap .i64 (a2-1))] [.cells [((o2.hO).cs.getD 0 .any),VI (((o2.hO).cs.getD 1 .any).toInt)]] fun r22 o22=>.ak ((o22.hO)=.cells (o22.hO).cs)<|.ak (aM [.lk .sl,.lk (.int .i64)] ((o22.hO).cs) 0 1 o22.tail)<|NA r22<|.call 69 [VS (mk [114]),.sl [[VS ((r22.cs.getD 0 .any).ag),(r22.cs.getD 1 .any)]]] [] fun r23 o23=>NA r23<|.done 0 [.agg [VS ((r23.cs.getD 0 .any).ag),(r23.cs.getD 1 .any)]] [.cells [((o22.hO).cs.getD 0 .any),VI (((o22.hO).cs.getD 1 .any).toInt)]])) (.test (r2.toInt==(0:Int)) (NG a1_1 1 2<|NE (a1_1.ix (1:Int))<|.call 77 [.ref 0 0,.agg [VS (((a1_1.ix (1:Int)).getD 0 .any).ag),((a1_1.ix (1:Int)).getD 1 .any)],VI (IntKind.wrap .i64 (a2-1))] [.cells [((o2.hO).cs.getD 0 .any),VI (((o2.hO).cs.getD 1 .any).toInt)]] fun r24 o24=>.ak ((o24.hO)=.cells (o24.hO).cs)<|.ak (aM [.lk .sl,.lk (.int .i64)] ((o24.hO).cs) 0 1 o24.tail)<|NA r24<|.call 69 [VS (mk [108]),.sl [[VS ((r24.cs.getD 0 .any).ag),(r24.cs.getD 1 .any)]]] [] fun r25 o25=>NA r25<|.done 0 [.agg [VS ((r25.cs.getD 0 .any).ag),(r25.cs.getD 1 .any)]] [.cells [((o24.hO).cs.getD 0 .any),VI (((o24.hO).cs.getD 1 .any).toInt)]]) (NG a1_1 2 2<|NE (a1_1.ix (2:Int))<|.call 77 [.ref 0 0,.agg [VS (((a1_1.ix (2:Int)).getD 0 .any).ag),((a1_1.ix (2:Int)).getD 1 .any)],VI (IntKind.wrap .i64 (a2-1))] [.cells [((o2.hO).cs.getD 0 .any),VI (((o2.hO).cs.getD 1 .any).toInt)]] fun r26 o26=>.ak ((o26.hO)=.cells (o26.hO).cs)<|.ak (aM [.lk .sl,.lk (.int .i64)] ((o26.hO).cs) 0 1 o26.tail)<|NA r26<|.call 69 [VS (mk [114]),.sl [[VS ((r26.cs.getD 0 .any).ag),(r26.cs.getD 1 .any)]]] [] fun r27 o27=>NA r27<|.done 0 [.agg [VS ((r27.cs.getD 0 .any).ag),(r27.cs.getD 1 .any)]] [.cells [((o26.hO).cs.getD 0 .any),VI (((o26.hO).cs.getD 1 .any).toInt)]]))))) (NG a1_1 2 2<|NE (a1_1.ix (2:Int))<|.call 128 [.agg [VS (((a1_1.ix (2:Int)).getD 0 .any).ag),((a1_1.ix (2:Int)).getD 1 .any)],.sl []] [] fun r28 o28=>NB r28<|.test r28.toBool (.test ((0:Int)==(0:Int)) (NG a1_1 1 2<|NE (a1_1.ix (1:Int))<|.call 77 [.ref 0 0,.agg [VS (((a1_1.ix (1:Int)).getD 0 .any).ag),((a1_1.ix (1:Int)).getD 1 .any)],VI (IntKind.wrap .i64 (a2-1))] [.cells [((o2.hO).cs.getD 0 .any),VI (((o2.hO).cs.getD 1 .any).toInt)]] fun r29 o29=>.ak ((o29.hO)=.cells (o29.hO).cs)<|.ak (aM [.lk .sl,.lk (.int .i64)] ((o29.hO).cs) 0 1 o29.tail)<|NA r29<|.call 69 [VS (mk [108]),.sl [[VS ((r29.cs.getD 0 .any).ag),(r29.cs.getD 1 .any)]]] [] fun r30 o30=>NA r30<|.done 0 [.agg [VS ((r30.cs.getD 0 .any).ag),(r30.cs.getD 1 .any)]] [.cells [((o29.hO).cs.getD 0 .any),VI (((o29.hO).cs.getD 1 .any).toInt)]]) (NG a1_1 2 2<|NE (a1_1.ix (2:Int))<|.call 77 [.ref 0 0,.agg [VS (((a1_1.ix (2:Int)).getD 0 .any).ag),((a1_1.ix (2:Int)).getD 1 .any)],VI (IntKind.wrap .i64 (a2-1))] [.cells [((o2.hO).cs.getD 0 .any),VI (((o2.hO).cs.getD 1 .any).toInt)]] fun r31 o31=>.ak ((o31.hO)=.cells (o31.hO).cs)<|.ak (aM [.lk .sl,.lk (.int .i64)] ((o31.hO).cs) 0 1 o31.tail)<|NA r31<|.call 69 [VS (mk [114]),.sl [[VS ((r31.cs.getD 0 .any).ag),(r31.cs.getD 1 .any)]]] [] fun r32 o32=>NA r32<|.done 0 [.agg [VS ((r32.cs.getD 0 .any).ag),(r32.cs.getD 1 .any)]] [.cells [((o31.hO).cs.getD 0 .any),VI (((o31.hO).cs.getD 1 .any).toInt)]])) (.test (decide (a2<=(0:Int))) (.test ((0:Int)==(0:Int)) (NG a1_1 1 2<|NE (a1_1.ix (1:Int))<|.call 77 [.ref 0 0,.agg [VS (((a1_1.ix (1:Int)).getD 0 .any).ag),((a1_1.ix (1:Int)).getD 1 .any)],VI (IntKind.wrap .i64 (a2-1))] [.cells [((o2.hO).cs.getD 0 .any),VI (((o2.hO).cs.getD 1 .any).toInt)]] fun r33 o33=>.ak ((o33.hO)=.cells (o33.hO).cs)<|.ak (aM [.lk .sl,.lk (.int .i64)] ((o33.hO).cs) 0 1 o33.tail)<|NA r33<|.call 69 [VS (mk [108]),.sl [[VS ((r33.cs.getD 0 .any).ag),(r33.cs.getD 1 .any)]]] [] fun r34 o34=>NA r34<|.done 0 [.agg [VS ((r34.cs.getD 0 .any).ag),(r34.cs.getD 1 .any)]] [.cells [((o33.hO).cs.getD 0 .any),VI (((o33.hO).cs.getD 1 .any).toInt)]]) (NG a1_1 2 2<|NE (a1_1.ix (2:Int))<|.call 77 [.ref 0 0,.agg [VS (((a1_1.ix (2:Int)).getD 0 .any).ag),((a1_1.ix (2:Int)).getD 1 .any)],VI (IntKind.wrap .i64 (a2-1))] [.cells [((o2.hO).cs.getD 0 .any),VI (((o2.hO).cs.getD 1 .any).toInt)]] fun r35 o35=>.ak ((o35.hO)=.cells (o35.hO).cs)<|.ak (aM [.lk .sl,.lk (.int .i64)] ((o35.hO).cs) 0 1 o35.tail)<|NA r35<|.call 69 [VS (mk [114]),.sl [[VS ((r35.cs.getD 0 .any).ag),(r35.cs.getD 1 .any)]]] [] fun r36 o36=>NA r36<|.done 0 [.agg [VS ((r36.cs.getD 0 .any).ag),(r36.cs.getD 1 .any)]] [.cells [((o35.hO).cs.getD 0 .any),VI (((o35.hO).cs.getD 1 .any).toInt)]])) (.test (r2.toInt==(0:Int)) (NG a1_1 1 2<|NE (a1_1.ix (1:Int))<|.call 77 [.ref 0 0,.agg [VS (((a1_1.ix (1:Int)).getD 0 .any).ag),((a1_1.ix (1:Int)).getD 1 .any)],VI (IntKind.wrap .i64 (a2-1))] [.cells [((o2.hO).cs.getD 0 .any),VI (((o2.hO).cs.getD 1 .any).toInt)]] fun r37 o37=>.ak ((o37.hO)=.cells (o37.hO).cs)<|.ak (aM [.lk .sl,.lk (.int .i64)] ((o37.hO).cs) 0 1 o37.tail)<|NA r37<|.call 69 [VS (mk [108]),.sl [[VS ((r37.cs.getD 0 .any).ag),(r37.cs.getD 1 .any)]]] [] fun r38 o38=>NA r38<|.done 0 [.agg [VS ((r38.cs.getD 0 .any).ag),(r38.cs.getD 1 .any)]] [.cells [((o37.hO).cs.getD 0 .any),VI (((o37.hO).cs.getD 1 .any).toInt)]]) (NG a1_1 2 2<|NE (a1_1.ix (2:Int))<|.call 77 [.ref 0 0,.agg [VS (((a1_1.ix (2:Int)).getD 0 .any).ag),((a1_1.ix (2:Int)).getD 1 .any)],VI (IntKind.wrap .i64 (a2-1))] [.cells [((o2.hO).cs.getD 0 .any),VI (((o2.hO).cs.getD 1 .any).toInt)]] fun r39 o39=>.ak ((o39.hO)=.cells (o39.hO).cs)<|.ak (aM [.lk .sl,.lk (.int .i64)] ((o39.hO).cs) 0 1 o39.tail)<|NA r39<|.call 69 [VS (mk [114]),.sl [[VS ((r39.cs.getD 0 .any).ag),(r39.cs.getD 1 .any)]]] [] fun r40 o40=>NA r40<|.done 0 [.agg [VS ((r40.cs.getD 0 .any).ag),(r40.cs.getD 1 .any)]] [.cells [((o39.hO).cs.getD 0 .any),VI (((o39.hO).cs.getD 1 .any).toInt)]]))))) (NG a1_1 2 2<|NE (a1_1.ix (2:Int))<|.call 128 [.agg [VS (((a1_1.ix (2:Int)).getD 0 .any).ag),((a1_1.ix (2:Int)).getD 1 .any)],.sl []] [] fun r41 o41=>NB r41<|.test r41.toBool (.test ((0:Int)==(0:Int)) (NG a1_1 1 2<|NE (a1_1.ix (1:Int))<|.call 77 [.ref 0 0,.agg [VS (((a1_1.ix (1:Int)).getD 0 .any).ag),((a1_1.ix (1:Int)).getD 1 .any)],VI (IntKind.wrap .i64 (a2-1))] [.cells [((o2.hO).cs.getD 0 .any),VI (((o2.hO).cs.getD 1 .any).toInt)]] fun r42 o42=>.ak ((o42.hO)=.cells (o42.hO).cs)<|.ak (aM [.lk .sl,.lk (.int .i64)] ((o42.hO).cs) 0 1 o42.tail)<|NA r42<|.call 69 [VS (mk [108]),.sl [[VS ((r42.cs.getD 0 .any).ag),(r42.cs.getD 1 .any)]]] [] fun r43 o43=>NA r43<|.done 0 [.agg [VS ((r43.cs.getD 0 .any).ag),(r43.cs.getD 1 .any)]] [.cells [((o42.hO).cs.getD 0 .any),VI (((o42.hO).cs.getD 1 .any).toInt)]]) (NG a1_1 2 2<|NE (a1_1.ix (2:Int))<|.call 77 [.ref 0 0,.agg [VS (((a1_1.ix (2:Int)).getD 0 .any).ag),((a1_1.ix (2:Int)).getD 1 .any)],VI (IntKind.wrap .i64 (a2-1))] [.cells [((o2.hO).cs.getD 0 .any),VI (((o2.hO).cs.getD 1 .any).toInt)]] fun r44 o44=>.ak ((o44.hO)=.cells (o44.hO).cs)<|.ak (aM [.lk .sl,.lk (.int .i64)] ((o44.hO).cs) 0 1 o44.tail)<|NA r44<|.call 69 [VS (mk [114]),.sl [[VS ((r44.cs.getD 0 .any).ag),(r44.cs.getD 1 .any)]]] [] fun r45 o45=>NA r45<|.done 0 [.agg [VS ((r45.cs.getD 0 .any).ag),(r45.cs.getD 1 .any)]] [.cells [((o44.hO).cs.getD 0 .any),VI (((o44.hO).cs.getD 1 .any).toInt)]])) (.test (decide (a2<=(0:Int))) (.test ((0:Int)==(0:Int)) (NG a1_1 1 2<|NE (a1_1.ix (1:Int))<|.call 77 [.ref 0 0,.agg [VS (((a1_1.ix (1:Int)).getD 0 .any).ag),((a1_1.ix (1:Int)).getD 1 .any)],VI (IntKind.wrap .i64 (a2-1))] [.cells [((o2.hO).cs.getD 0 .any),VI (((o2.hO).cs.getD 1 .any).toInt)]] fun r46 o46=>.ak ((o46.hO)=.cells (o46.hO).cs)<|.ak (aM [.lk .sl,.lk (.int .i64)] ((o46.hO).cs) 0 1 o46.tail)<|NA r46<|.call 69 [VS (mk [108]),.sl [[VS ((r46.cs.getD 0 .any).ag),(r46.cs.getD 1 .any)]]] [] fun r47 o47=>NA r47<|.done 0 [.agg [VS ((r47.cs.getD 0 .any).ag),(r47.cs.getD 1 .any)]] [.cells [((o46.hO).cs.getD 0 .any),VI (((o46.hO).cs.getD 1 .any).toInt)]]) (NG a1_1 2 2<|NE (a1_1.ix (2:Int))<|.call 77 [.ref 0 0,.agg [VS (((a1_1.ix (2:Int)).getD 0 .any).ag),((a1_1.ix (2:Int)).getD 1 .any)],VI (IntKind.wrap .i64 (a2-1))] [.cells [((o2.hO).cs.getD 0 .any),VI (((o2.hO).cs.getD 1 .any).toInt)]] fun r48 o48=>.ak ((o48.hO)=.cells (o48.hO).cs)<|.ak (aM [.lk .sl,.lk (.int .i64)] ((o48.hO).cs) 0 1 o48.tail)<|NA r48<|.call 69 [VS (mk [114]),.sl [[VS ((r48.cs.getD 0 .any).ag),(r48.cs.getD 1 .any)]]] [] fun r49 o49=>NA r49<|.done 0 [.agg [VS ((r49.cs.getD 0 .any).ag),(r49.cs.getD 1 .any)]] [.cells [((o48.hO).cs.getD 0 .any),VI (((o48.hO).cs.getD 1 .any).toInt)]])) (.test (r2.toInt==(0:Int)) (NG a1_1 1 2<|NE (a1_1.ix (1:Int))<|.call 77 [.ref 0 0,.agg [VS (((a1_1.ix (1:Int)).getD 0 .any).ag),((a1_1.ix (1:Int)).getD 1 .any)],VI (IntKind.wrap .i64 (a2-1))] [.cells [((o2.hO).cs.getD 0 .any),VI (((o2.hO).cs.getD 1 .any).toInt)]] fun r50 o50=>.ak ((o50.hO)=.cells (o50.hO).cs)<|.ak (aM [.lk .sl,.lk (.int .i64)] ((o50.hO).cs) 0 1 o50.tail)<|NA r50<|.call 69 [VS (mk [108]),.sl [[VS ((r50.cs.getD 0 .any).ag),(r50.cs.getD 1 .any)]]] [] fun r51 o51=>NA r51<|.done 0 [.agg [VS ((r51.cs.getD 0 .any).ag),(r51.cs.getD 1 .any)]] [.cells [((o50.hO).cs.getD 0 .any),VI (((o50.hO).cs.getD 1 .any).toInt)]]) (NG a1_1 2 2<|NE (a1_1.ix (2:Int))<|.call 77 [.ref 0 0,.agg [VS (((a1_1.ix (2:Int)).getD 0 .any).ag),((a1_1.ix (2:Int)).getD 1 .any)],VI (IntKind.wrap .i64 (a2-1))] [.cells [((o2.hO).cs.getD 0 .any),VI (((o2.hO).cs.getD 1 .any).toInt)]] fun r52 o52=>.ak ((o52.hO)=.cells (o52.hO).cs)<|.ak (aM [.lk .sl,.lk (.int .i64)] ((o52.hO).cs) 0 1 o52.tail)<|NA r52<|.call 69 [VS (mk [114]),.sl [[VS ((r52.cs.getD 0 .any).ag),(r52.cs.getD 1 .any)]]] [] fun r53 o53=>NA r53<|.done 0 [.agg [VS ((r53.cs.getD 0 .any).ag),(r53.cs.getD 1 .any)]] [.cells [((o52.hO).cs.getD 0 .any),VI (((o52.hO).cs.getD 1 .any).toInt)]])))))) (.test (ac r1.ag==ac (mk [42])) (NG a1_1 1 2<|NE (a1_1.ix (1:Int))<|.call 77 [.ref 0 0,.agg [VS (((a1_1.ix (1:Int)).getD 0 .any).ag),((a1_1.ix (1:Int)).getD 1 .any)],VI (IntKind.wrap .i64 (a2-1))] [.cells [a0_0,VI a0_1]] fun r54 o54=>.ak ((o54.hO)=.cells (o54.hO).cs)<|.ak (aM [.lk .sl,.lk (.int .i64)] ((o54.hO).cs) 0 1 o54.tail)<|NA r54<|NG a1_1 2 2<|NE (a1_1.ix (2:Int))<|.call 77 [.ref 0 0,.agg [VS (((a1_1.ix (2:Int)).getD 0 .any).ag),((a1_1.ix (2:Int)).getD 1 .any)],VI (IntKind.wrap .i64 (a2-1))] [.cells [((o54.hO).cs.getD 0 .any),VI (((o54.hO).cs.getD 1 .any).toInt)]] fun r55 o55=>.ak ((o55.hO)=.cells (o55.hO).cs)<|.ak (aM [.lk .sl,.lk (.int .i64)] ((o55.hO).cs) 0 1 o55.tail)<|NA r55<|.call 69 [VS (mk [112]),.sl [[VS ((r54.cs.getD 0 .any).ag),(r54.cs.getD 1 .any)],[VS ((r55.cs.getD 0 .any).ag),(r55.cs.getD 1 .any)]]] [] fun r56 o56=>NA r56<|.done 0 [.agg [VS ((r56.cs.getD 0 .any).ag),(r56.cs.getD 1 .any)]] [.cells [((o55.hO).cs.getD 0 .any),VI (((o55.hO).cs.getD 1 .any).toInt)]]) (.test (ac r1.ag==ac (mk [114,101,99])) (.call 130 [.agg [VS a1_0,a1_1]] [] fun r57 o57=>NT r57<|.ak ((r57.comp 0)=.agg (r57.comp 0).cs/\(r57.comp 0).cs.length=2/\bB [.str,.sl] ((r57.comp 0).cs) 0)<|NB (r57.comp 1)<|.test (!((r57.comp 1).toBool)) (.done 0 [.agg [VS (mk [117]),.v (.slice none 0 0)]] [.cells [a0_0,VI a0_1]]) (.test (decide (a2<((-12):Int))) (.done 0 [.agg [VS (mk [117]),.v (.slice none 0 0)]] [.cells [a0_0,VI a0_1]]) (.call 77 [.ref 0 0,.agg [VS (((r57.comp 0).cs.getD 0 .any).ag),((r57.comp 0).cs.getD 1 .any)],VI (IntKind.wrap .i64 (a2-1))] [.cells [a0_0,VI a0_1]] fun r58 o58=>.ak ((o58.hO)=.cells (o58.hO).cs)<|.ak (aM [.lk .sl,.lk (.int .i64)] ((o58.hO).cs) 0 1 o58.tail)<|NA r58<|.call 69 [VS (mk [102]),.sl [[VS ((r58.cs.getD 0 .any).ag),(r58.cs.getD 1 .any)]]] [] fun r59 o59=>NA r59<|.done 0 [.agg [VS ((r59.cs.getD 0 .any).ag),(r59.cs.getD 1 .any)]] [.cells [((o58.hO).cs.getD 0 .any),VI (((o58.hO).cs.getD 1 .any).toInt)]]))) (.test (ac a1_0==ac (mk [49])) (.done 0 [.agg [VS (mk [117]),.v (.slice none 0 0)]] [.cells [a0_0,VI a0_1]]) (.call 32 [.ref 0 0,VI 3] [.cells [a0_0,VI a0_1]] fun r60 o60=>.ak ((o60.hO)=.cells (o60.hO).cs)<|.ak (aM [.lk .sl,.lk (.int .i64)] ((o60.hO).cs) 0 1 o60.tail)<|NI r60<|.call 54 [VI r60.toInt] [] fun r61 o61=>NS r61<|.ak (ae (mk [101])+ae r61.ag<=9223372036854775807)<|.done 0 [.agg [VS (((mk [101]):ByteArray)++r61.ag),.v (.slice none 0 0)]] [.cells [((o60.hO).cs.getD 0 .any),VI (((o60.hO).cs.getD 1 .any).toInt)]]))))
theorem DG(a0_0:AV)(a0_1:Int)(a1_0:ByteArray)(a1_1:AV)(a2:Int)(ha1_1:LK.has .sl a1_1)(ha0_0:LK.has .sl a0_0)(h:dF 132 (zQ a0_0 a0_1 a1_0 a1_1 a2) R):aq Tryz.prog 77 [.ref 0 0,.agg [VS a1_0,a1_1],VI a2] [.cells [a0_0,VI a0_1]] R :=
 aq.oP (bu (cc (ah (bY ha0_0) (ah (aA _) aD))) cx) (aq.up (ah (aA _) (ah (cr (ah (aA _) (ah (bY ha1_1) aD))) (ah (aA _) aD))) (oF [] {mu:=[(0,.one (.obj [.lk .sl,.lk (.int .i64)]))],own:=[]} Tryz.f77 h))
def E9:LI:={hd:={cd:=[(1,.k .sl),(6,.k (.int .i64))],refs:=[(2,2),(4,4)],cm:=[(2,[.lk .str,.lk .sl]),(4,[.lk .str,.lk .sl])],eM:=[(5,1)]},xs:={refs:=[(2,2),(4,4)],cm:=[(2,[.lk .str,.lk .sl]),(4,[.lk .str,.lk .sl])],eM:=[(5,1)]},rt:={},ex:=0}
def JW:Code:=cY (cQ Tryz.f78) 3
def Ii:List (Nat×LI):=[(3,E9)]
def KB(a0_0:ByteArray)(a0_1:AV)(a1:AV):Tree :=
 .call 98 [.agg [VS a0_0,a0_1],.sl [],.vec 0] [.vec 1 []] fun r1 o1=>.ak (r1=.vec 1/\(o1.tail.hO)=.vec 1 (o1.tail.hO).es)<|.loop JW E9 [a1,VI 0] [.cells [VS a0_0,a0_1],.cells [VS (mk []),.v (.slice none 0 0)],.vec 1 ((o1.tail.hO).es)] (fun y3 q3=>.ak ((q3.hO)=.cells (q3.hO).cs)<|.ak (af [.lk .str,.lk .sl] ((q3.hO).cs) 0 q3.tail)<|.ak (((q3.tail.drop 0).hO)=.cells ((q3.tail.drop 0).hO).cs)<|.ak (af [.lk .str,.lk .sl] (((q3.tail.drop 0).hO).cs) 0 ((q3.tail.drop 0).tail))<|.ak (((q3.drop 2).hO)=.vec 1 ((q3.drop 2).hO).es)<|.call 131 [.agg [VS (((q3.hO).cs.getD 0 .any).ag),((q3.hO).cs.getD 1 .any)],.sl [],.sl [],.ref 0 0] [.cells [.vec 1,VI 0],.vec 1 ((q3.tail.tail.hO).es)] fun r4 o4=>.ak ((o4.hO)=.cells (o4.hO).cs)<|.ak (aM [.vec 1,.lk (.int .i64)] ((o4.hO).cs) 0 1 o4.tail)<|NA r4<|.done 0 [.agg [VS ((r4.cs.getD 0 .any).ag),(r4.cs.getD 1 .any)]] []) (fun y3 q3=>.fail)
theorem Oz(a0_0:ByteArray)(a0_1:AV)(a1:AV)(ha0_1:LK.has .sl a0_1)(ha1:LK.has .sl a1)(h:dF 33 (KB a0_0 a0_1 a1) R):aq Tryz.prog 78 [.agg [VS a0_0,a0_1],a1] [] R :=
 uQ (ah (cr (ah (aA _) (ah (bY ha0_1) aD))) (ah (bY ha1) aD)) (oQ Ii Tryz.f78 h)
def FO(x1:AV)(x6:Int)(o2_0:ByteArray)(o2_1:AV)(o4_0:ByteArray)(o4_1:AV)(e5:List (List AV)):Tree :=
 NL x1<|NI (VI x6)<|.ak (Ob.cells [VS o2_0,o2_1]=.cells [VS o2_0,o2_1])<|.ak (af [.lk .str,.lk .sl] [VS o2_0,o2_1] 0 [.cells [VS o4_0,o4_1],.vec 1 e5])<|.ak (Ob.cells [VS o4_0,o4_1]=.cells [VS o4_0,o4_1])<|.ak (af [.lk .str,.lk .sl] [VS o4_0,o4_1] 0 [.vec 1 e5])<|.ak (Ob.vec 1 e5=.vec 1 e5)<|NL x1<|.test (decide (x6<(x1.aR.length:Int))) (NG x1 x6 2<|NE (x1.ix x6)<|.call 98 [.agg [VS (((x1.ix x6).getD 0 .any).ag),((x1.ix x6).getD 1 .any)],.sl [],.vec 0] [.vec 1 []] fun r1 o1=>.ak (r1=.vec 1/\(o1.tail.hO)=.vec 1 (o1.tail.hO).es)<|.ak (cD 1 ((o1.tail.hO).es)/\((e5.length)+((o1.tail.hO).es).length)*16<=140737488355328)<|.done 0 [x1,VI (IntKind.wrap .i64 (x6+1))] [.cells [VS o2_0,o2_1],.cells [VS o4_0,o4_1],.vec 1 (e5++((o1.tail.hO).es))]) (.done 1 [] [.cells [VS o2_0,o2_1],.cells [VS o4_0,o4_1],.vec 1 e5])
abbrev Eu:=cH Tryz.prog 33 JW E9
theorem JP(x1:AV)(x6:Int)(o2_0:ByteArray)(o2_1:AV)(o4_0:ByteArray)(o4_1:AV)(e5:List (List AV))(h:l8 33 (FO x1 x6 o2_0 o2_1 o4_0 o4_1 e5) Eu U):Eu [x1,VI x6] [.cells [VS o2_0,o2_1],.cells [VS o4_0,o4_1],.vec 1 e5] U :=
 gQ Ii h
def HD(a0:ByteArray):Tree :=
 .call 121 [VS a0] [] fun r1 o1=>NP r1<|NP r1<|.test r1.isNil (.done 0 [.v (.pointer none)] []) (.call 132 [r1] [] fun r2 o2=>NB r2<|.test (!r2.toBool) (.done 0 [.v (.pointer none)] []) (.done 0 [r1] []))
theorem OW(a0:ByteArray)(h:dF 14 (HD a0) R):aq Tryz.prog 79 [VS a0] [] R :=
 uQ (ah (aA _) aD) (oQ [] Tryz.f79 h)
def zD(a0_0:AV)(a0_1:AV)(a1:AV)(a2:Int):Tree :=
 NZ a0_0<|NZ a0_0<|.ak (LK.has (.int .u8) (a0_0.deref.hA)/\1<=a0_0.deref.length)<|.test (((a0_0.deref.hA).toInt)==(49:Int)) (NZ a1<|NZ a1<|.ak (LK.has (.int .u8) (a1.deref.hA)/\1<=a1.deref.length)<|.done 0 [VB (((a1.deref.hA).toInt)==(117:Int))] []) (.test (((a0_0.deref.hA).toInt)==(110:Int)) (NZ a1<|NZ a1<|.ak (LK.has (.int .u8) (a1.deref.hA)/\1<=a1.deref.length)<|.test (((a1.deref.hA).toInt) != (101:Int)) (.done 0 [VB false] []) (NZ a1<|NZ a1<|mn (a1.deref.drop 1)<|.ak (0<=(1:Int)/\(1:Int)<=(ae (((a1.deref.drop 1).hA).ag):Int)/\(ae (((a1.deref.drop 1).hA).ag):Int)<=(ae (((a1.deref.drop 1).hA).ag):Int))<|.call 81 [VS (bZ (((a1.deref.drop 1).hA).ag) (bW 1) (bW (ae (((a1.deref.drop 1).hA).ag):Int)))] [] fun r1 o1=>NT r1<|NI (r1.comp 0)<|.ak (LK.has .ku (r1.comp 1))<|.done 0 [VB (decide (((r1.comp 0).toInt)<a2))] [])) (.test (((a0_0.deref.hA).toInt)==(98:Int)) (.call 133 [.agg [a0_0,a0_1]] [] fun r2 o2=>NP r2<|NZ r2<|NZ r2<|.ak (bB [.ptr,.ptr] r2.deref 0/\2<=r2.deref.length)<|.call 80 [.agg [(r2.deref.getD 0 .any),(r2.deref.getD 1 .any)],a1,VI a2] [] fun r3 o3=>NB r3<|.done 0 [VB r3.toBool] []) (.test (((a0_0.deref.hA).toInt)==(43:Int)) (NZ a1<|NZ a1<|.ak (LK.has (.int .u8) (a1.deref.hA)/\1<=a1.deref.length)<|.test (((a1.deref.hA).toInt)==(108:Int)) (.call 105 [.agg [a0_0,a0_1]] [] fun r4 o4=>.ak (r4=.agg r4.cs/\r4.cs.length=2/\bB [.ptr,.ptr] r4.cs 0)<|NZ a1<|NZ a1<|eA (a1.deref.drop 2)<|.call 80 [.agg [(r4.cs.getD 0 .any),(r4.cs.getD 1 .any)],((a1.deref.drop 2).hA),VI a2] [] fun r5 o5=>NB r5<|.test r5.toBool (.done 0 [VB true] []) (NZ a1<|NZ a1<|.ak (LK.has (.int .u8) (a1.deref.hA)/\1<=a1.deref.length)<|.test (((a1.deref.hA).toInt)==(114:Int)) (.call 106 [.agg [a0_0,a0_1]] [] fun r6 o6=>.ak (r6=.agg r6.cs/\r6.cs.length=2/\bB [.ptr,.ptr] r6.cs 0)<|NZ a1<|NZ a1<|eA (a1.deref.drop 2)<|.call 80 [.agg [(r6.cs.getD 0 .any),(r6.cs.getD 1 .any)],((a1.deref.drop 2).hA),VI a2] [] fun r7 o7=>NB r7<|.done 0 [VB r7.toBool] []) (.done 0 [VB false] []))) (NZ a1<|NZ a1<|.ak (LK.has (.int .u8) (a1.deref.hA)/\1<=a1.deref.length)<|.test (((a1.deref.hA).toInt)==(114:Int)) (.call 106 [.agg [a0_0,a0_1]] [] fun r8 o8=>.ak (r8=.agg r8.cs/\r8.cs.length=2/\bB [.ptr,.ptr] r8.cs 0)<|NZ a1<|NZ a1<|eA (a1.deref.drop 2)<|.call 80 [.agg [(r8.cs.getD 0 .any),(r8.cs.getD 1 .any)],((a1.deref.drop 2).hA),VI a2] [] fun r9 o9=>NB r9<|.done 0 [VB r9.toBool] []) (.done 0 [VB false] []))) (.test (((a0_0.deref.hA).toInt)==(42:Int)) (NZ a1<|NZ a1<|.ak (LK.has (.int .u8) (a1.deref.hA)/\1<=a1.deref.length)<|.test (((a1.deref.hA).toInt)==(112:Int)) (.call 105 [.agg [a0_0,a0_1]] [] fun r10 o10=>.ak (r10=.agg r10.cs/\r10.cs.length=2/\bB [.ptr,.ptr] r10.cs 0)<|NZ a1<|NZ a1<|eA (a1.deref.drop 2)<|.call 80 [.agg [(r10.cs.getD 0 .any),(r10.cs.getD 1 .any)],((a1.deref.drop 2).hA),VI a2] [] fun r11 o11=>NB r11<|.test r11.toBool (.call 106 [.agg [a0_0,a0_1]] [] fun r12 o12=>.ak (r12=.agg r12.cs/\r12.cs.length=2/\bB [.ptr,.ptr] r12.cs 0)<|NZ a1<|NZ a1<|eA (a1.deref.drop 3)<|.call 80 [.agg [(r12.cs.getD 0 .any),(r12.cs.getD 1 .any)],((a1.deref.drop 3).hA),VI a2] [] fun r13 o13=>NB r13<|.done 0 [VB r13.toBool] []) (.done 0 [VB false] [])) (.done 0 [VB false] [])) (.test (((a0_0.deref.hA).toInt)==(114:Int)) (.call 107 [.agg [a0_0,a0_1]] [] fun r14 o14=>NT r14<|.ak ((r14.comp 0)=.agg (r14.comp 0).cs/\(r14.comp 0).cs.length=2/\bB [.ptr,.ptr] ((r14.comp 0).cs) 0)<|NP (r14.comp 1)<|NZ a1<|NZ a1<|.ak (LK.has (.int .u8) (a1.deref.hA)/\1<=a1.deref.length)<|.test (((a1.deref.hA).toInt)==(102:Int)) (NZ a1<|NZ a1<|eA (a1.deref.drop 2)<|.call 80 [.agg [((r14.comp 0).cs.getD 0 .any),((r14.comp 0).cs.getD 1 .any)],((a1.deref.drop 2).hA),VI a2] [] fun r15 o15=>NB r15<|.done 0 [VB r15.toBool] []) (.done 0 [VB false] [])) (.done 0 [VB false] []))))))
theorem IV(a0_0:AV)(a0_1:AV)(a1:AV)(a2:Int)(ha0_0:LK.has .ptr a0_0)(ha0_1:LK.has .ptr a0_1)(ha1:LK.has .ptr a1)(h:dF 134 (zD a0_0 a0_1 a1 a2) R):aq Tryz.prog 80 [.agg [a0_0,a0_1],a1,VI a2] [] R :=
 uQ (ah (cr (ah (bF ha0_0) (ah (bF ha0_1) aD))) (ah (bF ha1) (ah (aA _) aD))) (oQ [] Tryz.f80 h)
def KS(a0:ByteArray):Tree :=
 .call 84 [VS a0] [] fun r1 o1=>NT r1<|.ak ((r1.comp 0)=.agg (r1.comp 0).cs/\(r1.comp 0).cs.length=2/\bB [.str,.sl] ((r1.comp 0).cs) 0)<|NB (r1.comp 1)<|.test ((r1.comp 1).toBool) (.call 136 [.agg [VS (((r1.comp 0).cs.getD 0 .any).ag),((r1.comp 0).cs.getD 1 .any)]] [] fun r2 o2=>NB r2<|.test r2.toBool (.call 129 [.agg [VS (((r1.comp 0).cs.getD 0 .any).ag),((r1.comp 0).cs.getD 1 .any)]] [] fun r3 o3=>NI r3<|.done 0 [.cG [.agg [VS (((r1.comp 0).cs.getD 0 .any).ag),((r1.comp 0).cs.getD 1 .any)],VB (decide (r3.toInt<=(400:Int)))]] []) (.done 0 [.cG [.agg [VS (((r1.comp 0).cs.getD 0 .any).ag),((r1.comp 0).cs.getD 1 .any)],VB false]] [])) (.done 0 [.cG [.agg [VS (((r1.comp 0).cs.getD 0 .any).ag),((r1.comp 0).cs.getD 1 .any)],VB false]] [])
theorem NO(a0:ByteArray)(h:dF 22 (KS a0) R):aq Tryz.prog 82 [VS a0] [] R :=
 uQ (ah (aA _) aD) (oQ [] Tryz.f82 h)
def Kk(a0:ByteArray):Tree :=
 .test (decide ((ae a0:Int)>(8000:Int))) (.done 0 [.cG [.agg [VS (mk []),.v (.slice none 0 0)],VB false]] []) (.call 137 [VS a0,VI 0,VI 0] [] fun r1 o1=>NT r1<|.ak ((r1.comp 0)=.agg (r1.comp 0).cs/\(r1.comp 0).cs.length=2/\bB [.str,.sl] ((r1.comp 0).cs) 0)<|NI (r1.comp 1)<|.done 0 [.cG [.agg [VS (((r1.comp 0).cs.getD 0 .any).ag),((r1.comp 0).cs.getD 1 .any)],VB (((r1.comp 1).toInt)==(ae a0:Int))]] [])
theorem NJ(a0:ByteArray)(h:dF 20 (Kk a0) R):aq Tryz.prog 84 [VS a0] [] R :=
 uQ (ah (aA _) aD) (oQ [] Tryz.f84 h)
def wo(a0_0:ByteArray)(a0_1:AV):Tree :=
 .test (!(ac a0_0==ac (mk []))) (.test (ac a0_0==ac (mk [117])) (.done 0 [VB true] []) (.call 56 [VS a0_0] [] fun r1 o1=>NI r1<|.done 0 [VB (decide (r1.toInt≥(0:Int)))] [])) (.call 90 [.agg [VS a0_0,a0_1]] [] fun r2 o2=>NS r2<|.test (ac r2.ag==ac (mk [108])) (NL a0_1<|.test ((a0_1.aR.length:Int)==(2:Int)) (NG a0_1 1 2<|NE (a0_1.ix (1:Int))<|.call 85 [.agg [VS (((a0_1.ix (1:Int)).getD 0 .any).ag),((a0_1.ix (1:Int)).getD 1 .any)]] [] fun r3 o3=>NB r3<|.done 0 [VB r3.toBool] []) (.done 0 [VB false] [])) (.test (ac r2.ag==ac (mk [114])) (NL a0_1<|.test ((a0_1.aR.length:Int)==(2:Int)) (NG a0_1 1 2<|NE (a0_1.ix (1:Int))<|.call 85 [.agg [VS (((a0_1.ix (1:Int)).getD 0 .any).ag),((a0_1.ix (1:Int)).getD 1 .any)]] [] fun r4 o4=>NB r4<|.done 0 [VB r4.toBool] []) (.done 0 [VB false] [])) (.test (ac r2.ag==ac (mk [102])) (NL a0_1<|.test ((a0_1.aR.length:Int)==(2:Int)) (NG a0_1 1 2<|NE (a0_1.ix (1:Int))<|.call 85 [.agg [VS (((a0_1.ix (1:Int)).getD 0 .any).ag),((a0_1.ix (1:Int)).getD 1 .any)]] [] fun r5 o5=>NB r5<|.done 0 [VB r5.toBool] []) (.done 0 [VB false] [])) (.test (ac r2.ag==ac (mk [112])) (NL a0_1<|.test ((a0_1.aR.length:Int)==(3:Int)) (NG a0_1 1 2<|NE (a0_1.ix (1:Int))<|.call 85 [.agg [VS (((a0_1.ix (1:Int)).getD 0 .any).ag),((a0_1.ix (1:Int)).getD 1 .any)]] [] fun r6 o6=>NB r6<|.test r6.toBool (NG a0_1 2 2<|NE (a0_1.ix (2:Int))<|.call 85 [.agg [VS (((a0_1.ix (2:Int)).getD 0 .any).ag),((a0_1.ix (2:Int)).getD 1 .any)]] [] fun r7 o7=>NB r7<|.done 0 [VB r7.toBool] []) (.done 0 [VB false] [])) (.done 0 [VB false] [])) (.done 0 [VB false] [])))))
theorem yD(a0_0:ByteArray)(a0_1:AV)(ha0_1:LK.has .sl a0_1)(h:dF 52 (wo a0_0 a0_1) R):aq Tryz.prog 85 [.agg [VS a0_0,a0_1]] [] R :=
 uQ (ah (cr (ah (aA _) (ah (bY ha0_1) aD))) aD) (oQ [] Tryz.f85 h)
def Er:LI:={hd:={cd:=[(3,.k (.int .i64)),(4,.k (.int .i64))],refs:=[(1,1)],cm:=[(1,[.lk .str,.lk .sl])]},xs:={cd:=[(3,.k (.int .i64))]},rt:={},ex:=0}
def KL:Code:=cY (cQ Tryz.f86) 3
def LH:List (Nat×LI):=[(3,Er)]
def GP(a0_0:ByteArray)(a0_1:AV):Tree :=
 .loop KL Er [VI 1,VI 1] [.cells [VS a0_0,a0_1]] (fun y2 q2=>NI (y2.hA)<|.done 0 [VI ((y2.hA).toInt)] []) (fun y2 q2=>.done 0 [.any] [])
theorem J3(a0_0:ByteArray)(a0_1:AV)(ha0_1:LK.has .sl a0_1)(h:dF 21 (GP a0_0 a0_1) R):aq Tryz.prog 86 [.agg [VS a0_0,a0_1]] [] R :=
 uQ (ah (cr (ah (aA _) (ah (bY ha0_1) aD))) aD) (oQ LH Tryz.f86 h)
def A7(x3:Int)(x4:Int)(o1_0:ByteArray)(o1_1:AV):Tree :=
 NI (VI x3)<|NI (VI x4)<|.ak (Ob.cells [VS o1_0,o1_1]=.cells [VS o1_0,o1_1])<|.ak (af [.lk .str,.lk .sl] [VS o1_0,o1_1] 0 [])<|NL o1_1<|.test (decide (x4<(o1_1.aR.length:Int))) (NG o1_1 x4 2<|NE (o1_1.ix x4)<|.call 86 [.agg [VS (((o1_1.ix x4).getD 0 .any).ag),((o1_1.ix x4).getD 1 .any)]] [] fun r1 o1=>NI r1<|.done 0 [VI (IntKind.wrap .i64 (x3+r1.toInt)),VI (IntKind.wrap .i64 (x4+1))] [.cells [VS o1_0,o1_1]]) (.done 1 [VI x3] [])
abbrev zW:=cH Tryz.prog 21 KL Er
theorem CF(x3:Int)(x4:Int)(o1_0:ByteArray)(o1_1:AV)(h:l8 21 (A7 x3 x4 o1_0 o1_1) zW U):zW [VI x3,VI x4] [.cells [VS o1_0,o1_1]] U :=
 gQ LH h
def LP(a0:Int)(a1:Int)(a2:Int):Tree :=
 .test (decide (a0≥a1)) (.done 0 [VB (decide (a0<=a2))] []) (.done 0 [VB false] [])
theorem O2(a0:Int)(a1:Int)(a2:Int)(h:dF 15 (LP a0 a1 a2) R):aq Tryz.prog 87 [VI a0,VI a1,VI a2] [] R :=
 uQ (ah (aA _) (ah (aA _) (ah (aA _) aD))) (oQ [] Tryz.f87 h)
def Hs(a0_0:ByteArray)(a0_1:AV)(a1:AV)(a2_0:ByteArray)(a2_1:AV)(a3:Int):Tree :=
 .call 138 [.agg [VS a0_0,a0_1],a1] [] fun r1 o1=>NT r1<|.ak ((r1.comp 0)=.agg (r1.comp 0).cs/\(r1.comp 0).cs.length=2/\bB [.str,.sl] ((r1.comp 0).cs) 0)<|NL (r1.comp 1)<|.test (!(ac (((r1.comp 0).cs.getD 0 .any).ag)==ac (mk []))) (.test (ac (((r1.comp 0).cs.getD 0 .any).ag)==ac (mk [49])) (.done 0 [VB (ac a2_0==ac (mk [117]))] []) (.call 100 [VS (((r1.comp 0).cs.getD 0 .any).ag)] [] fun r2 o2=>NB r2<|.test r2.toBool (.call 56 [VS a2_0] [] fun r3 o3=>NI r3<|.call 87 [VI r3.toInt,VI 0,VI (IntKind.wrap .i64 (a3-1))] [] fun r4 o4=>NB r4<|.done 0 [VB r4.toBool] []) (.done 0 [VB false] []))) (.call 90 [.agg [VS (((r1.comp 0).cs.getD 0 .any).ag),((r1.comp 0).cs.getD 1 .any)]] [] fun r5 o5=>NS r5<|.call 90 [.agg [VS a2_0,a2_1]] [] fun r6 o6=>NS r6<|.ak (ae r5.ag+ae r6.ag<=9223372036854775807)<|.test (ac ((r5.ag:ByteArray)++r6.ag)==ac (mk [43,108])) (NG ((r1.comp 0).cs.getD 1 .any) 1 2<|NE (((r1.comp 0).cs.getD 1 .any).ix (1:Int))<|NG a2_1 1 2<|NE (a2_1.ix (1:Int))<|.call 89 [.agg [VS (((((r1.comp 0).cs.getD 1 .any).ix (1:Int)).getD 0 .any).ag),((((r1.comp 0).cs.getD 1 .any).ix (1:Int)).getD 1 .any)],(r1.comp 1),.agg [VS (((a2_1.ix (1:Int)).getD 0 .any).ag),((a2_1.ix (1:Int)).getD 1 .any)],VI a3] [] fun r7 o7=>NB r7<|.done 0 [VB r7.toBool] []) (.test (ac ((r5.ag:ByteArray)++r6.ag)==ac (mk [43,114])) (NG ((r1.comp 0).cs.getD 1 .any) 2 2<|NE (((r1.comp 0).cs.getD 1 .any).ix (2:Int))<|NG a2_1 1 2<|NE (a2_1.ix (1:Int))<|.call 89 [.agg [VS (((((r1.comp 0).cs.getD 1 .any).ix (2:Int)).getD 0 .any).ag),((((r1.comp 0).cs.getD 1 .any).ix (2:Int)).getD 1 .any)],(r1.comp 1),.agg [VS (((a2_1.ix (1:Int)).getD 0 .any).ag),((a2_1.ix (1:Int)).getD 1 .any)],VI a3] [] fun r8 o8=>NB r8<|.done 0 [VB r8.toBool] []) (.test (ac ((r5.ag:ByteArray)++r6.ag)==ac (mk [42,112])) (NG ((r1.comp 0).cs.getD 1 .any) 1 2<|NE (((r1.comp 0).cs.getD 1 .any).ix (1:Int))<|NG a2_1 1 2<|NE (a2_1.ix (1:Int))<|.call 89 [.agg [VS (((((r1.comp 0).cs.getD 1 .any).ix (1:Int)).getD 0 .any).ag),((((r1.comp 0).cs.getD 1 .any).ix (1:Int)).getD 1 .any)],(r1.comp 1),.agg [VS (((a2_1.ix (1:Int)).getD 0 .any).ag),((a2_1.ix (1:Int)).getD 1 .any)],VI a3] [] fun r9 o9=>NB r9<|.test r9.toBool (NG ((r1.comp 0).cs.getD 1 .any) 2 2<|NE (((r1.comp 0).cs.getD 1 .any).ix (2:Int))<|NG a2_1 2 2<|NE (a2_1.ix (2:Int))<|.call 89 [.agg [VS (((((r1.comp 0).cs.getD 1 .any).ix (2:Int)).getD 0 .any).ag),((((r1.comp 0).cs.getD 1 .any).ix (2:Int)).getD 1 .any)],(r1.comp 1),.agg [VS (((a2_1.ix (2:Int)).getD 0 .any).ag),((a2_1.ix (2:Int)).getD 1 .any)],VI a3] [] fun r10 o10=>NB r10<|.done 0 [VB r10.toBool] []) (.done 0 [VB false] [])) (.test (ac ((r5.ag:ByteArray)++r6.ag)==ac (mk [114,101,99,102])) (.call 139 [.agg [VS (((r1.comp 0).cs.getD 0 .any).ag),((r1.comp 0).cs.getD 1 .any)],(r1.comp 1)] [] fun r11 o11=>NT r11<|.ak ((r11.comp 0)=.agg (r11.comp 0).cs/\(r11.comp 0).cs.length=2/\bB [.str,.sl] ((r11.comp 0).cs) 0)<|NL (r11.comp 1)<|NG a2_1 1 2<|NE (a2_1.ix (1:Int))<|.call 89 [.agg [VS (((r11.comp 0).cs.getD 0 .any).ag),((r11.comp 0).cs.getD 1 .any)],(r11.comp 1),.agg [VS (((a2_1.ix (1:Int)).getD 0 .any).ag),((a2_1.ix (1:Int)).getD 1 .any)],VI a3] [] fun r12 o12=>NB r12<|.done 0 [VB r12.toBool] []) (.done 0 [VB false] [])))))
theorem Nl(a0_0:ByteArray)(a0_1:AV)(a1:AV)(a2_0:ByteArray)(a2_1:AV)(a3:Int)(ha0_1:LK.has .sl a0_1)(ha1:LK.has .sl a1)(ha2_1:LK.has .sl a2_1)(h:dF 110 (Hs a0_0 a0_1 a1 a2_0 a2_1 a3) R):aq Tryz.prog 89 [.agg [VS a0_0,a0_1],a1,.agg [VS a2_0,a2_1],VI a3] [] R :=
 uQ (ah (cr (ah (aA _) (ah (bY ha0_1) aD))) (ah (bY ha1) (ah (cr (ah (aA _) (ah (bY ha2_1) aD))) (ah (aA _) aD)))) (oQ [] Tryz.f89 h)
def Cp(a0_0:ByteArray)(a0_1:AV):Tree :=
 .test (!(ac a0_0==ac (mk []))) (.done 0 [VS (mk [])] []) (NL a0_1<|.test ((a0_1.aR.length:Int)==(0:Int)) (.done 0 [VS (mk [])] []) (NG a0_1 0 2<|mn (a0_1.ix (0:Int))<|.done 0 [VS (((a0_1.ix (0:Int)).hA).ag)] []))
theorem Gx(a0_0:ByteArray)(a0_1:AV)(ha0_1:LK.has .sl a0_1)(h:dF 17 (Cp a0_0 a0_1) R):aq Tryz.prog 90 [.agg [VS a0_0,a0_1]] [] R :=
 uQ (ah (cr (ah (aA _) (ah (bY ha0_1) aD))) aD) (oQ [] Tryz.f90 h)
def DQ(a0:AV)(e1_0_0:List (List AV)):Tree :=
 .call 189 [a0,.ref 0 0] [.cells [.vec 1],.vec 1 e1_0_0] fun r1 o1=>.ak ((o1.hO)=.cells (o1.hO).cs)<|.ak (aM [.vec 1] ((o1.hO).cs) 0 1 o1.tail)<|NZ a0<|NZ a0<|eA (a0.deref.drop 3)<|NP ((a0.deref.drop 3).hA)<|.test (!((a0.deref.drop 3).hA).isNil) (NZ a0<|NZ a0<|eA (a0.deref.drop 3)<|.call 91 [((a0.deref.drop 3).hA),.fn 189 [.ref 0 0]] [.cells [.vec 1],.vec 1 ((o1.tail.hO).es)] fun r2 o2=>.ak ((o2.hO)=.cells (o2.hO).cs)<|.ak (aM [.vec 1] ((o2.hO).cs) 0 1 o2.tail)<|NZ a0<|NZ a0<|eA (a0.deref.drop 4)<|NP ((a0.deref.drop 4).hA)<|.test (!((a0.deref.drop 4).hA).isNil) (NZ a0<|NZ a0<|eA (a0.deref.drop 4)<|.call 91 [((a0.deref.drop 4).hA),.fn 189 [.ref 0 0]] [.cells [.vec 1],.vec 1 ((o2.tail.hO).es)] fun r3 o3=>.ak ((o3.hO)=.cells (o3.hO).cs)<|.ak (aM [.vec 1] ((o3.hO).cs) 0 1 o3.tail)<|.done 0 [.any] [.cells [.vec 1],.vec 1 ((o3.tail.hO).es)]) (.done 0 [.any] [.cells [.vec 1],.vec 1 ((o2.tail.hO).es)])) (NZ a0<|NZ a0<|eA (a0.deref.drop 4)<|NP ((a0.deref.drop 4).hA)<|.test (!((a0.deref.drop 4).hA).isNil) (NZ a0<|NZ a0<|eA (a0.deref.drop 4)<|.call 91 [((a0.deref.drop 4).hA),.fn 189 [.ref 0 0]] [.cells [.vec 1],.vec 1 ((o1.tail.hO).es)] fun r4 o4=>.ak ((o4.hO)=.cells (o4.hO).cs)<|.ak (aM [.vec 1] ((o4.hO).cs) 0 1 o4.tail)<|.done 0 [.any] [.cells [.vec 1],.vec 1 ((o4.tail.hO).es)]) (.done 0 [.any] [.cells [.vec 1],.vec 1 ((o1.tail.hO).es)]))
theorem Ha(a0:AV)(e1_0_0:List (List AV))(ha0:LK.has .ptr a0)(h:dF 29 (DQ a0 e1_0_0) R):aq Tryz.prog 91 [a0,.fn 189 [.ref 0 0]] [.cells [.vec 1],.vec 1 e1_0_0] R :=
 aq.oP (bu (cc (ah (aA _) aD)) (bu (gq _) cx)) (aq.up (ah (bF ha0) (ah (aA _) aD)) (oF [] {mu:=[(1,.fn [some (.obj [.vec 1])])],own:=[]} Tryz.f91 h))
def vE(a0:AV):Tree :=
 NZ a0<|NZ a0<|.ak (LK.has (.int .u8) (a0.deref.hA)/\1<=a0.deref.length)<|.test (((a0.deref.hA).toInt)==(117:Int)) (.done 0 [VS (mk [117])] []) (.test (((a0.deref.hA).toInt)==(101:Int)) (NZ a0<|NZ a0<|mn (a0.deref.drop 1)<|.done 0 [VS (((a0.deref.drop 1).hA).ag)] []) (.test (((a0.deref.hA).toInt)==(112:Int)) (NZ a0<|NZ a0<|eA (a0.deref.drop 2)<|.call 93 [((a0.deref.drop 2).hA)] [] fun r1 o1=>NS r1<|.ak (ae (mk [40,112,32])+ae r1.ag<=9223372036854775807)<|.ak (ae (((mk [40,112,32]):ByteArray)++r1.ag)+ae (mk [32])<=9223372036854775807)<|NZ a0<|NZ a0<|eA (a0.deref.drop 3)<|.call 93 [((a0.deref.drop 3).hA)] [] fun r2 o2=>NS r2<|.ak (ae (((((mk [40,112,32]):ByteArray)++r1.ag):ByteArray)++(mk [32]))+ae r2.ag<=9223372036854775807)<|.ak (ae (((((((mk [40,112,32]):ByteArray)++r1.ag):ByteArray)++(mk [32])):ByteArray)++r2.ag)+ae (mk [41])<=9223372036854775807)<|.done 0 [VS (((((((((mk [40,112,32]):ByteArray)++r1.ag):ByteArray)++(mk [32])):ByteArray)++r2.ag):ByteArray)++(mk [41]))] []) (NZ a0<|NZ a0<|.ak (LK.has (.int .u8) (a0.deref.hA)/\1<=a0.deref.length)<|.ak (jy [[.v (.int .u8 ((a0.deref.hA).toInt))]])<|.ak (ae (mk [40])+ae (⟨(bytesOf [[.v (.int .u8 ((a0.deref.hA).toInt))]]).toArray⟩)<=9223372036854775807)<|.ak (ae (((mk [40]):ByteArray)++(⟨(bytesOf [[.v (.int .u8 ((a0.deref.hA).toInt))]]).toArray⟩))+ae (mk [32])<=9223372036854775807)<|NZ a0<|NZ a0<|eA (a0.deref.drop 2)<|.call 93 [((a0.deref.drop 2).hA)] [] fun r3 o3=>NS r3<|.ak (ae (((((mk [40]):ByteArray)++(⟨(bytesOf [[.v (.int .u8 ((a0.deref.hA).toInt))]]).toArray⟩)):ByteArray)++(mk [32]))+ae r3.ag<=9223372036854775807)<|.ak (ae (((((((mk [40]):ByteArray)++(⟨(bytesOf [[.v (.int .u8 ((a0.deref.hA).toInt))]]).toArray⟩)):ByteArray)++(mk [32])):ByteArray)++r3.ag)+ae (mk [41])<=9223372036854775807)<|.done 0 [VS (((((((((mk [40]):ByteArray)++(⟨(bytesOf [[.v (.int .u8 ((a0.deref.hA).toInt))]]).toArray⟩)):ByteArray)++(mk [32])):ByteArray)++r3.ag):ByteArray)++(mk [41]))] [])))
theorem y0(a0:AV)(ha0:LK.has .ptr a0)(h:dF 46 (vE a0) R):aq Tryz.prog 93 [a0] [] R :=
 uQ (ah (bF ha0) aD) (oQ [] Tryz.f93 h)
def JG(a0:Int)(a1:AV):Tree :=
 .done 0 [.ptr [.v (.int .u8 a0),VS (mk []),a1,.v (.pointer none)]] []
theorem MD(a0:Int)(a1:AV)(ha1:LK.has .ptr a1)(h:dF 9 (JG a0 a1) R):aq Tryz.prog 95 [.v (.int .u8 a0),a1] [] R :=
 uQ (ah (aA _) (ah (bF ha1) aD)) (oQ [] Tryz.f95 h)
def I9(a0:AV)(a1:AV):Tree :=
 .done 0 [.ptr [.v (.int .u8 112),VS (mk []),a0,a1]] []
theorem Oh(a0:AV)(a1:AV)(ha0:LK.has .ptr a0)(ha1:LK.has .ptr a1)(h:dF 9 (I9 a0 a1) R):aq Tryz.prog 96 [a0,a1] [] R :=
 uQ (ah (bF ha0) (ah (bF ha1) aD)) (oQ [] Tryz.f96 h)
def J6(a0:ByteArray)(a1:ByteArray):Tree :=
 .call 121 [VS a0] [] fun r1 o1=>NP r1<|NP r1<|.test r1.isNil (.done 0 [.cG [VS (mk []),VB false]] []) (.call 59 [VS a1] [] fun r2 o2=>NB r2<|.test (!r2.toBool) (.done 0 [.cG [VS (mk []),VB false]] []) (.call 141 [r1,VS a1] [] fun r3 o3=>NT r3<|NP (r3.comp 0)<|NB (r3.comp 1)<|.test (!((r3.comp 1).toBool)) (.done 0 [.cG [VS (mk []),VB false]] []) (.call 123 [(r3.comp 0)] [] fun r4 o4=>NT r4<|NS (r4.comp 0)<|NB (r4.comp 1)<|.done 0 [.cG [VS ((r4.comp 0).ag),VB ((r4.comp 1).toBool)]] [])))
theorem Mx(a0:ByteArray)(a1:ByteArray)(h:dF 30 (J6 a0 a1) R):aq Tryz.prog 97 [VS a0,VS a1] [] R :=
 uQ (ah (aA _) (ah (aA _) aD)) (oQ [] Tryz.f97 h)
def wG(a0_0:ByteArray)(a0_1:AV)(a1:AV)(e2:List (List AV)):Tree :=
 .test (!(ac a0_0==ac (mk []))) (.test (ac a0_0==ac (mk [48])) (.done 0 [.vec 1] [.dead,.vec 1 e2]) (.test (ac a0_0==ac (mk [49])) (.done 0 [.vec 1] [.dead,.vec 1 e2]) (.call 142 [a1,VS a0_0] [] fun r1 o1=>NB r1<|.test r1.toBool (.done 0 [.vec 1] [.dead,.vec 1 e2]) (.call 142 [.sl e2,VS a0_0] [] fun r2 o2=>NB r2<|.test r2.toBool (.done 0 [.vec 1] [.dead,.vec 1 e2]) (.ak (cD 1 [[VS a0_0]]/\((e2.length)+([[VS a0_0]]:List (List AV)).length)*16<=140737488355328)<|.done 0 [.vec 1] [.dead,.vec 1 (e2++([[VS a0_0]]:List (List AV)))]))))) (.call 90 [.agg [VS a0_0,a0_1]] [] fun r3 o3=>NS r3<|.test (ac r3.ag==ac (mk [114,101,99])) (NG a0_1 2 2<|NE (a0_1.ix (2:Int))<|NG a0_1 1 2<|mn (a0_1.ix (1:Int))<|.call 143 [a1,VS (((a0_1.ix (1:Int)).hA).ag)] [] fun r4 o4=>NL r4<|.call 98 [.agg [VS (((a0_1.ix (2:Int)).getD 0 .any).ag),((a0_1.ix (2:Int)).getD 1 .any)],r4,.vec 0] [.vec 1 e2] fun r5 o5=>.ak (r5=.vec 1/\(o5.tail.hO)=.vec 1 (o5.tail.hO).es)<|.done 0 [.vec 1] [.dead,.vec 1 ((o5.tail.hO).es)]) (NG a0_1 2 2<|NE (a0_1.ix (2:Int))<|NG a0_1 1 2<|NE (a0_1.ix (1:Int))<|.call 98 [.agg [VS (((a0_1.ix (1:Int)).getD 0 .any).ag),((a0_1.ix (1:Int)).getD 1 .any)],a1,.vec 0] [.vec 1 e2] fun r6 o6=>.ak (r6=.vec 1/\(o6.tail.hO)=.vec 1 (o6.tail.hO).es)<|.call 98 [.agg [VS (((a0_1.ix (2:Int)).getD 0 .any).ag),((a0_1.ix (2:Int)).getD 1 .any)],a1,.vec 0] [.vec 1 ((o6.tail.hO).es)] fun r7 o7=>.ak (r7=.vec 1/\(o7.tail.hO)=.vec 1 (o7.tail.hO).es)<|.done 0 [.vec 1] [.dead,.vec 1 ((o7.tail.hO).es)]))
theorem yz(a0_0:ByteArray)(a0_1:AV)(a1:AV)(e2:List (List AV))(ha0_1:LK.has .sl a0_1)(ha1:LK.has .sl a1)(h:dF 65 (wG a0_0 a0_1 a1 e2) R):aq Tryz.prog 98 [.agg [VS a0_0,a0_1],a1,.vec 0] [.vec 1 e2] R :=
 aq.oP (bu (gq _) cx) (aq.up (ah (cr (ah (aA _) (ah (bY ha0_1) aD))) (ah (bY ha1) (ah (aA _) aD))) (oF [] {mu:=[(2,.one (.vec))],own:=[0]} Tryz.f98 h))
def HX(a0:ByteArray):Tree :=
 .call 144 [VS a0,.v (.int .u8 116),.v (.int .u8 116)] [] fun r1 o1=>NB r1<|.done 0 [VB r1.toBool] []
theorem Ms(a0:ByteArray)(h:dF 5 (HX a0) R):aq Tryz.prog 99 [VS a0] [] R :=
 uQ (ah (aA _) aD) (oQ [] Tryz.f99 h)
def Ih(a0:ByteArray):Tree :=
 .call 144 [VS a0,.v (.int .u8 120),.v (.int .u8 122)] [] fun r1 o1=>NB r1<|.done 0 [VB r1.toBool] []
theorem O7(a0:ByteArray)(h:dF 5 (Ih a0) R):aq Tryz.prog 100 [VS a0] [] R :=
 uQ (ah (aA _) aD) (oQ [] Tryz.f100 h)
def Af(a0_0:ByteArray)(a0_1:AV)(a1:ByteArray):Tree :=
 .test (!(ac a0_0==ac (mk []))) (.test (ac a0_0==ac a1) (.done 0 [.cG [.agg [VS (mk [49]),.v (.slice none 0 0)],VB true]] []) (.done 0 [.cG [.agg [VS (mk [48]),.v (.slice none 0 0)],VB true]] [])) (.call 90 [.agg [VS a0_0,a0_1]] [] fun r1 o1=>NS r1<|.test (ac r1.ag==ac (mk [114,101,99])) (.call 145 [.agg [VS a0_0,a0_1],VS a1] [] fun r2 o2=>NT r2<|.ak ((r2.comp 0)=.agg (r2.comp 0).cs/\(r2.comp 0).cs.length=2/\bB [.str,.sl] ((r2.comp 0).cs) 0)<|NB (r2.comp 1)<|.done 0 [.cG [.agg [VS (((r2.comp 0).cs.getD 0 .any).ag),((r2.comp 0).cs.getD 1 .any)],VB ((r2.comp 1).toBool)]] []) (NG a0_1 1 2<|NE (a0_1.ix (1:Int))<|.call 101 [.agg [VS (((a0_1.ix (1:Int)).getD 0 .any).ag),((a0_1.ix (1:Int)).getD 1 .any)],VS a1] [] fun r3 o3=>NT r3<|.ak ((r3.comp 0)=.agg (r3.comp 0).cs/\(r3.comp 0).cs.length=2/\bB [.str,.sl] ((r3.comp 0).cs) 0)<|NB (r3.comp 1)<|NG a0_1 2 2<|NE (a0_1.ix (2:Int))<|.call 101 [.agg [VS (((a0_1.ix (2:Int)).getD 0 .any).ag),((a0_1.ix (2:Int)).getD 1 .any)],VS a1] [] fun r4 o4=>NT r4<|.ak ((r4.comp 0)=.agg (r4.comp 0).cs/\(r4.comp 0).cs.length=2/\bB [.str,.sl] ((r4.comp 0).cs) 0)<|NB (r4.comp 1)<|.call 69 [VS (mk [43]),.sl [[VS (((r3.comp 0).cs.getD 0 .any).ag),((r3.comp 0).cs.getD 1 .any)],[VS (((r4.comp 0).cs.getD 0 .any).ag),((r4.comp 0).cs.getD 1 .any)]]] [] fun r5 o5=>NA r5<|.call 90 [.agg [VS a0_0,a0_1]] [] fun r6 o6=>NS r6<|.test (ac r6.ag==ac (mk [42])) (NG a0_1 2 2<|NE (a0_1.ix (2:Int))<|.call 69 [VS (mk [42]),.sl [[VS (((r3.comp 0).cs.getD 0 .any).ag),((r3.comp 0).cs.getD 1 .any)],[VS (((a0_1.ix (2:Int)).getD 0 .any).ag),((a0_1.ix (2:Int)).getD 1 .any)]]] [] fun r7 o7=>NA r7<|NG a0_1 1 2<|NE (a0_1.ix (1:Int))<|.call 69 [VS (mk [42]),.sl [[VS (((a0_1.ix (1:Int)).getD 0 .any).ag),((a0_1.ix (1:Int)).getD 1 .any)],[VS (((r4.comp 0).cs.getD 0 .any).ag),((r4.comp 0).cs.getD 1 .any)]]] [] fun r8 o8=>NA r8<|.call 69 [VS (mk [43]),.sl [[VS ((r7.cs.getD 0 .any).ag),(r7.cs.getD 1 .any)],[VS ((r8.cs.getD 0 .any).ag),(r8.cs.getD 1 .any)]]] [] fun r9 o9=>NA r9<|.test ((r3.comp 1).toBool) (.test ((r4.comp 1).toBool) (.call 129 [.agg [VS ((r9.cs.getD 0 .any).ag),(r9.cs.getD 1 .any)]] [] fun r10 o10=>NI r10<|.done 0 [.cG [.agg [VS ((r9.cs.getD 0 .any).ag),(r9.cs.getD 1 .any)],VB (decide (r10.toInt<=(400:Int)))]] []) (.done 0 [.cG [.agg [VS ((r9.cs.getD 0 .any).ag),(r9.cs.getD 1 .any)],VB false]] [])) (.done 0 [.cG [.agg [VS ((r9.cs.getD 0 .any).ag),(r9.cs.getD 1 .any)],VB false]] [])) (.test ((r3.comp 1).toBool) (.test ((r4.comp 1).toBool) (.call 129 [.agg [VS ((r5.cs.getD 0 .any).ag),(r5.cs.getD 1 .any)]] [] fun r11 o11=>NI r11<|.done 0 [.cG [.agg [VS ((r5.cs.getD 0 .any).ag),(r5.cs.getD 1 .any)],VB (decide (r11.toInt<=(400:Int)))]] []) (.done 0 [.cG [.agg [VS ((r5.cs.getD 0 .any).ag),(r5.cs.getD 1 .any)],VB false]] [])) (.done 0 [.cG [.agg [VS ((r5.cs.getD 0 .any).ag),(r5.cs.getD 1 .any)],VB false]] []))))
theorem C4(a0_0:ByteArray)(a0_1:AV)(a1:ByteArray)(ha0_1:LK.has .sl a0_1)(h:dF 79 (Af a0_0 a0_1 a1) R):aq Tryz.prog 101 [.agg [VS a0_0,a0_1],VS a1] [] R :=
 uQ (ah (cr (ah (aA _) (ah (bY ha0_1) aD))) (ah (aA _) aD)) (oQ [] Tryz.f101 h)
def Kf(a0_0:ByteArray)(a0_1:AV):Tree :=
 .call 129 [.agg [VS a0_0,a0_1]] [] fun r1 o1=>NI r1<|.test (decide (r1.toInt>(400:Int))) (.done 0 [.cG [VS (mk []),VB false]] []) (.call 78 [.agg [VS a0_0,a0_1],.v (.slice none 0 0)] [] fun r2 o2=>NA r2<|.call 57 [.agg [VS ((r2.cs.getD 0 .any).ag),(r2.cs.getD 1 .any)]] [] fun r3 o3=>NS r3<|.call 146 [VS r3.ag] [] fun r4 o4=>NB r4<|.test (!r4.toBool) (.done 0 [.cG [VS (mk []),VB false]] []) (.done 0 [.cG [VS r3.ag,VB true]] []))
theorem Nv(a0_0:ByteArray)(a0_1:AV)(ha0_1:LK.has .sl a0_1)(h:dF 15 (Kf a0_0 a0_1) R):aq Tryz.prog 102 [.agg [VS a0_0,a0_1]] [] R :=
 uQ (ah (cr (ah (aA _) (ah (bY ha0_1) aD))) aD) (oQ [] Tryz.f102 h)
def J5(a0:ByteArray):Tree :=
 .test (decide ((ae a0:Int)>(8000:Int))) (.done 0 [.v (.pointer none)] []) (.call 147 [VS a0,VI 0] [] fun r1 o1=>NT r1<|NP (r1.comp 0)<|NS (r1.comp 1)<|.test (!(ac ((r1.comp 1).ag)==ac (mk []))) (.done 0 [.v (.pointer none)] []) (.done 0 [(r1.comp 0)] []))
theorem Pe(a0:ByteArray)(h:dF 16 (J5 a0) R):aq Tryz.prog 103 [VS a0] [] R :=
 uQ (ah (aA _) aD) (oQ [] Tryz.f103 h)
def Ez(a0:AV):Tree :=
 NZ a0<|NZ a0<|.ak (LK.has .str (a0.deref.hA)/\1<=a0.deref.length)<|.test (ac ((a0.deref.hA).ag)==ac (mk [117])) (.done 0 [.ptr [.v (.int .u8 117),VS (mk []),.v (.pointer none),.v (.pointer none)]] []) (NZ a0<|NZ a0<|.ak (LK.has .str (a0.deref.hA)/\1<=a0.deref.length)<|.call 148 [VS ((a0.deref.hA).ag)] [] fun r1 o1=>NB r1<|.test r1.toBool (NZ a0<|NZ a0<|.ak (LK.has .str (a0.deref.hA)/\1<=a0.deref.length)<|.done 0 [.ptr [.v (.int .u8 101),VS ((a0.deref.hA).ag),.v (.pointer none),.v (.pointer none)]] []) (.call 149 [a0,VS (mk [108]),VI 2] [] fun r2 o2=>NB r2<|.test r2.toBool (NZ a0<|NZ a0<|rS (a0.deref.drop 1)<|NG ((a0.deref.drop 1).hA) 1 1<|eA (((a0.deref.drop 1).hA).ix (1:Int))<|.call 104 [((((a0.deref.drop 1).hA).ix (1:Int)).hA)] [] fun r3 o3=>NP r3<|NP r3<|.test r3.isNil (.done 0 [.v (.pointer none)] []) (NZ a0<|NZ a0<|rS (a0.deref.drop 1)<|NG ((a0.deref.drop 1).hA) 0 1<|eA (((a0.deref.drop 1).hA).ix (0:Int))<|NZ ((((a0.deref.drop 1).hA).ix (0:Int)).hA)<|NZ ((((a0.deref.drop 1).hA).ix (0:Int)).hA)<|.ak (LK.has .str (((((a0.deref.drop 1).hA).ix (0:Int)).hA).deref.hA)/\1<=(((((a0.deref.drop 1).hA).ix (0:Int)).hA).deref).length)<|.ak (0<=(0:Int)/\(0:Int)<ae ((((((a0.deref.drop 1).hA).ix (0:Int)).hA).deref.hA).ag))<|.done 0 [.ptr [.v (.int .u8 (bt ((((((a0.deref.drop 1).hA).ix (0:Int)).hA).deref.hA).ag) 0)),VS (mk []),r3,.v (.pointer none)]] [])) (.call 149 [a0,VS (mk [114]),VI 2] [] fun r4 o4=>NB r4<|.test r4.toBool (NZ a0<|NZ a0<|rS (a0.deref.drop 1)<|NG ((a0.deref.drop 1).hA) 1 1<|eA (((a0.deref.drop 1).hA).ix (1:Int))<|.call 104 [((((a0.deref.drop 1).hA).ix (1:Int)).hA)] [] fun r5 o5=>NP r5<|NP r5<|.test r5.isNil (.done 0 [.v (.pointer none)] []) (NZ a0<|NZ a0<|rS (a0.deref.drop 1)<|NG ((a0.deref.drop 1).hA) 0 1<|eA (((a0.deref.drop 1).hA).ix (0:Int))<|NZ ((((a0.deref.drop 1).hA).ix (0:Int)).hA)<|NZ ((((a0.deref.drop 1).hA).ix (0:Int)).hA)<|.ak (LK.has .str (((((a0.deref.drop 1).hA).ix (0:Int)).hA).deref.hA)/\1<=(((((a0.deref.drop 1).hA).ix (0:Int)).hA).deref).length)<|.ak (0<=(0:Int)/\(0:Int)<ae ((((((a0.deref.drop 1).hA).ix (0:Int)).hA).deref.hA).ag))<|.done 0 [.ptr [.v (.int .u8 (bt ((((((a0.deref.drop 1).hA).ix (0:Int)).hA).deref.hA).ag) 0)),VS (mk []),r5,.v (.pointer none)]] [])) (.call 149 [a0,VS (mk [102]),VI 2] [] fun r6 o6=>NB r6<|.test r6.toBool (NZ a0<|NZ a0<|rS (a0.deref.drop 1)<|NG ((a0.deref.drop 1).hA) 1 1<|eA (((a0.deref.drop 1).hA).ix (1:Int))<|.call 104 [((((a0.deref.drop 1).hA).ix (1:Int)).hA)] [] fun r7 o7=>NP r7<|NP r7<|.test r7.isNil (.done 0 [.v (.pointer none)] []) (NZ a0<|NZ a0<|rS (a0.deref.drop 1)<|NG ((a0.deref.drop 1).hA) 0 1<|eA (((a0.deref.drop 1).hA).ix (0:Int))<|NZ ((((a0.deref.drop 1).hA).ix (0:Int)).hA)<|NZ ((((a0.deref.drop 1).hA).ix (0:Int)).hA)<|.ak (LK.has .str (((((a0.deref.drop 1).hA).ix (0:Int)).hA).deref.hA)/\1<=(((((a0.deref.drop 1).hA).ix (0:Int)).hA).deref).length)<|.ak (0<=(0:Int)/\(0:Int)<ae ((((((a0.deref.drop 1).hA).ix (0:Int)).hA).deref.hA).ag))<|.done 0 [.ptr [.v (.int .u8 (bt ((((((a0.deref.drop 1).hA).ix (0:Int)).hA).deref.hA).ag) 0)),VS (mk []),r7,.v (.pointer none)]] [])) (.call 149 [a0,VS (mk [112]),VI 3] [] fun r8 o8=>NB r8<|.test r8.toBool (NZ a0<|NZ a0<|rS (a0.deref.drop 1)<|NG ((a0.deref.drop 1).hA) 1 1<|eA (((a0.deref.drop 1).hA).ix (1:Int))<|.call 104 [((((a0.deref.drop 1).hA).ix (1:Int)).hA)] [] fun r9 o9=>NP r9<|NZ a0<|NZ a0<|rS (a0.deref.drop 1)<|NG ((a0.deref.drop 1).hA) 2 1<|eA (((a0.deref.drop 1).hA).ix (2:Int))<|.call 104 [((((a0.deref.drop 1).hA).ix (2:Int)).hA)] [] fun r10 o10=>NP r10<|NP r9<|.test r9.isNil (.done 0 [.v (.pointer none)] []) (NP r10<|.test r10.isNil (.done 0 [.v (.pointer none)] []) (.call 96 [r9,r10] [] fun r11 o11=>NP r11<|.done 0 [r11] []))) (.done 0 [.v (.pointer none)] []))))))
theorem K2(a0:AV)(ha0:LK.has .ptr a0)(h:dF 85 (Ez a0) R):aq Tryz.prog 104 [a0] [] R :=
 uQ (ah (bF ha0) aD) (oQ [] Tryz.f104 h)
def HA(a0_0:AV)(a0_1:AV):Tree :=
 NZ a0_0<|NZ a0_0<|eA (a0_0.deref.drop 3)<|.done 0 [.agg [((a0_0.deref.drop 3).hA),a0_1]] []
theorem Om(a0_0:AV)(a0_1:AV)(ha0_0:LK.has .ptr a0_0)(ha0_1:LK.has .ptr a0_1)(h:dF 11 (HA a0_0 a0_1) R):aq Tryz.prog 105 [.agg [a0_0,a0_1]] [] R :=
 uQ (ah (cr (ah (bF ha0_0) (ah (bF ha0_1) aD))) aD) (oQ [] Tryz.f105 h)
def Lp(a0_0:AV)(a0_1:AV):Tree :=
 NZ a0_0<|NZ a0_0<|eA (a0_0.deref.drop 4)<|.done 0 [.agg [((a0_0.deref.drop 4).hA),a0_1]] []
theorem NF(a0_0:AV)(a0_1:AV)(ha0_0:LK.has .ptr a0_0)(ha0_1:LK.has .ptr a0_1)(h:dF 11 (Lp a0_0 a0_1) R):aq Tryz.prog 106 [.agg [a0_0,a0_1]] [] R :=
 uQ (ah (cr (ah (bF ha0_0) (ah (bF ha0_1) aD))) aD) (oQ [] Tryz.f106 h)
def Lf(a0_0:AV)(a0_1:AV):Tree :=
 NZ a0_0<|NZ a0_0<|eA (a0_0.deref.drop 3)<|.done 0 [.cG [.agg [((a0_0.deref.drop 3).hA),.ptr [.ptr [a0_0,a0_1],a0_1]],.ptr [a0_0,a0_1]]] []
theorem Mv(a0_0:AV)(a0_1:AV)(ha0_0:LK.has .ptr a0_0)(ha0_1:LK.has .ptr a0_1)(h:dF 20 (Lf a0_0 a0_1) R):aq Tryz.prog 107 [.agg [a0_0,a0_1]] [] R :=
 uQ (ah (cr (ah (bF ha0_0) (ah (bF ha0_1) aD))) aD) (oQ [] Tryz.f107 h)
def JY(a0_0:AV)(a0_1:Int):Tree :=
 .call 32 [.ref 0 0,VI 8] [.cells [a0_0,VI a0_1]] fun r1 o1=>.ak ((o1.hO)=.cells (o1.hO).cs)<|.ak (aM [.lk .sl,.lk (.int .i64)] ((o1.hO).cs) 0 1 o1.tail)<|NI r1<|.test (r1.toInt==(0:Int)) (.call 76 [.ref 0 0] [.cells [((o1.hO).cs.getD 0 .any),VI (((o1.hO).cs.getD 1 .any).toInt)]] fun r2 o2=>.ak ((o2.hO)=.cells (o2.hO).cs)<|.ak (aM [.lk .sl,.lk (.int .i64)] ((o2.hO).cs) 0 1 o2.tail)<|NS r2<|.done 0 [VS r2.ag] [.cells [((o2.hO).cs.getD 0 .any),VI (((o2.hO).cs.getD 1 .any).toInt)]]) (.test (r1.toInt==(1:Int)) (.call 127 [.ref 0 0,.sl [],VI 3] [.cells [((o1.hO).cs.getD 0 .any),VI (((o1.hO).cs.getD 1 .any).toInt)]] fun r3 o3=>.ak ((o3.hO)=.cells (o3.hO).cs)<|.ak (aM [.lk .sl,.lk (.int .i64)] ((o3.hO).cs) 0 1 o3.tail)<|NS r3<|.done 0 [VS r3.ag] [.cells [((o3.hO).cs.getD 0 .any),VI (((o3.hO).cs.getD 1 .any).toInt)]]) (.test (r1.toInt==(2:Int)) (.call 127 [.ref 0 0,.sl [],VI 3] [.cells [((o1.hO).cs.getD 0 .any),VI (((o1.hO).cs.getD 1 .any).toInt)]] fun r4 o4=>.ak ((o4.hO)=.cells (o4.hO).cs)<|.ak (aM [.lk .sl,.lk (.int .i64)] ((o4.hO).cs) 0 1 o4.tail)<|NS r4<|.done 0 [VS r4.ag] [.cells [((o4.hO).cs.getD 0 .any),VI (((o4.hO).cs.getD 1 .any).toInt)]]) (.test (r1.toInt==(3:Int)) (.call 127 [.ref 0 0,.sl [],VI 3] [.cells [((o1.hO).cs.getD 0 .any),VI (((o1.hO).cs.getD 1 .any).toInt)]] fun r5 o5=>.ak ((o5.hO)=.cells (o5.hO).cs)<|.ak (aM [.lk .sl,.lk (.int .i64)] ((o5.hO).cs) 0 1 o5.tail)<|NS r5<|.done 0 [VS r5.ag] [.cells [((o5.hO).cs.getD 0 .any),VI (((o5.hO).cs.getD 1 .any).toInt)]]) (.call 119 [.ref 0 0] [.cells [((o1.hO).cs.getD 0 .any),VI (((o1.hO).cs.getD 1 .any).toInt)]] fun r6 o6=>.ak ((o6.hO)=.cells (o6.hO).cs)<|.ak (aM [.lk .sl,.lk (.int .i64)] ((o6.hO).cs) 0 1 o6.tail)<|NS r6<|.done 0 [VS r6.ag] [.cells [((o6.hO).cs.getD 0 .any),VI (((o6.hO).cs.getD 1 .any).toInt)]]))))
theorem OL(a0_0:AV)(a0_1:Int)(ha0_0:LK.has .sl a0_0)(h:dF 18 (JY a0_0 a0_1) R):aq Tryz.prog 108 [.ref 0 0] [.cells [a0_0,VI a0_1]] R :=
 aq.oP (bu (cc (ah (bY ha0_0) (ah (aA _) aD))) cx) (aq.up (ah (aA _) aD) (oF [] {mu:=[(0,.one (.obj [.lk .sl,.lk (.int .i64)]))],own:=[]} Tryz.f108 h))
def EM:LI:={hd:={cd:=[(0,.k .sl),(4,.k (.int .i64))],eM:=[(3,2)]},xs:={eM:=[(3,2)]},rt:={},ex:=0}
def LR:Code:=cY (cQ Tryz.f109) 3
def Lb:List (Nat×LI):=[(3,EM)]
def L5(a0:AV):Tree :=
 .loop LR EM [a0,VI 0] [.vec 2 []] (fun y3 q3=>.ak (((q3.drop 0).hO)=.vec 2 ((q3.drop 0).hO).es)<|.done 0 [.sl ((q3.hO).es)] []) (fun y3 q3=>.done 0 [.any] [])
theorem NK(a0:AV)(ha0:LK.has .sl a0)(h:dF 29 (L5 a0) R):aq Tryz.prog 109 [a0] [] R :=
 uQ (ah (bY ha0) aD) (oQ Lb Tryz.f109 h)
def GC(x0:AV)(x4:Int)(e3:List (List AV)):Tree :=
 NL x0<|NI (VI x4)<|.ak (Ob.vec 2 e3=.vec 2 e3)<|NL x0<|.test (decide (x4<(x0.aR.length:Int))) (NG x0 x4 4<|NE (x0.ix x4)<|.call 57 [.agg [VS (((x0.ix x4).getD 0 .any).ag),((x0.ix x4).getD 1 .any)]] [] fun r1 o1=>NS r1<|NG x0 x4 4<|NE ((x0.ix x4).drop 2)<|.call 57 [.agg [VS ((((x0.ix x4).drop 2).getD 0 .any).ag),(((x0.ix x4).drop 2).getD 1 .any)]] [] fun r2 o2=>NS r2<|.ak (cD 2 [[VS r1.ag,VS r2.ag]]/\((e3.length)+([[VS r1.ag,VS r2.ag]]:List (List AV)).length)*32<=140737488355328)<|.done 0 [x0,VI (IntKind.wrap .i64 (x4+1))] [.vec 2 (e3++([[VS r1.ag,VS r2.ag]]:List (List AV)))]) (.done 1 [] [.vec 2 e3])
abbrev Fu:=cH Tryz.prog 29 LR EM
theorem K6(x0:AV)(x4:Int)(e3:List (List AV))(h:l8 29 (GC x0 x4 e3) Fu U):Fu [x0,VI x4] [.vec 2 e3] U :=
 gQ Lb h
def G7:LI:={hd:={cd:=[(1,.k .str),(8,.k .sl),(9,.k (.int .i64))],refs:=[(3,3),(5,5)],cm:=[(3,[.lk .str,.lk .sl]),(5,[.lk .str,.lk .sl])],eM:=[(7,4)]},xs:={cd:=[(1,.k .str)],refs:=[(3,3),(5,5)],cm:=[(3,[.lk .str,.lk .sl]),(5,[.lk .str,.lk .sl])],eM:=[(7,4)]},rt:={},ex:=1}
def Kq:Code:=cY (cQ Tryz.f110) 14
def Ee:LI:={hd:={cd:=[(10,.k .sl),(11,.k (.int .i64))],refs:=[(5,5)],cm:=[(5,[.lk .str,.lk .sl])],eM:=[(7,4)]},xs:={eM:=[(7,4)]},rt:={},ex:=3}
def JM:Code:=cY (cQ Tryz.f110) 19
def Gb:LI:={hd:={cd:=[(1,.k .str),(12,.k .str),(13,.k .sl),(14,.k (.int .i64))],refs:=[(3,3),(5,5)],cm:=[(3,[.lk .str,.lk .sl]),(5,[.lk .str,.lk .sl])],eM:=[(7,4)]},xs:={cd:=[(1,.k .str),(12,.k .str)],refs:=[(3,3),(5,5)],cm:=[(3,[.lk .str,.lk .sl]),(5,[.lk .str,.lk .sl])],eM:=[(7,4)]},rt:={},ex:=5}
def Jx:Code:=cY (cQ Tryz.f110) 28
def GU:LI:={hd:={cd:=[(1,.k .str),(15,.k .sl),(16,.k (.int .i64))],refs:=[(3,3)],cm:=[(3,[.lk .str,.lk .sl])],eM:=[(7,4)]},xs:={eM:=[(7,4)]},rt:={},ex:=7}
def Ht:Code:=cY (cQ Tryz.f110) 33
def Gl:LI:={hd:={cd:=[(1,.k .str),(15,.k .sl),(16,.k (.int .i64)),(17,.k .sl),(18,.k (.int .i64))],refs:=[(3,3)],cm:=[(3,[.lk .str,.lk .sl])],eM:=[(7,4)]},xs:={cd:=[(1,.k .str),(15,.k .sl),(16,.k (.int .i64))],refs:=[(3,3)],cm:=[(3,[.lk .str,.lk .sl])],eM:=[(7,4)]},rt:={},ex:=9}
def If:Code:=cY (cQ Tryz.f110) 37
def yL:List (Nat×LI):=[(14,G7),(19,Ee),(28,Gb),(33,GU),(37,Gl)]
def wD(a0_0:ByteArray)(a0_1:AV)(a1:ByteArray)(a2_0:ByteArray)(a2_1:AV):Tree :=
 .test (!(ac a0_0==ac (mk []))) (.test (ac a0_0==ac a1) (.ak (cD 4 [[VS (mk [117]),.v (.slice none 0 0),VS a2_0,a2_1]]/\((([]:List (List AV)).length)+([[VS (mk [117]),.v (.slice none 0 0),VS a2_0,a2_1]]:List (List AV)).length)*80<=140737488355328)<|.done 0 [.sl [[VS (mk [117]),.v (.slice none 0 0),VS a2_0,a2_1]]] []) (.done 0 [.sl []] [])) (.call 90 [.agg [VS a2_0,a2_1]] [] fun r1 o1=>NS r1<|.test (ac r1.ag==ac (mk [108])) (NG a0_1 1 2<|NE (a0_1.ix (1:Int))<|NG a2_1 1 2<|NE (a2_1.ix (1:Int))<|.call 110 [.agg [VS (((a0_1.ix (1:Int)).getD 0 .any).ag),((a0_1.ix (1:Int)).getD 1 .any)],VS a1,.agg [VS (((a2_1.ix (1:Int)).getD 0 .any).ag),((a2_1.ix (1:Int)).getD 1 .any)]] [] fun r2 o2=>NL r2<|.call 150 [r2,VS (mk [108]),.vec 0] [.vec 4 []] fun r3 o3=>.ak (r3=.vec 1/\(o3.tail.hO)=.vec 4 (o3.tail.hO).es)<|.done 0 [.sl ((o3.tail.hO).es)] []) (.test (ac r1.ag==ac (mk [114])) (NG a0_1 2 2<|NE (a0_1.ix (2:Int))<|NG a2_1 1 2<|NE (a2_1.ix (1:Int))<|.call 110 [.agg [VS (((a0_1.ix (2:Int)).getD 0 .any).ag),((a0_1.ix (2:Int)).getD 1 .any)],VS a1,.agg [VS (((a2_1.ix (1:Int)).getD 0 .any).ag),((a2_1.ix (1:Int)).getD 1 .any)]] [] fun r4 o4=>NL r4<|.call 150 [r4,VS (mk [114]),.vec 0] [.vec 4 []] fun r5 o5=>.ak (r5=.vec 1/\(o5.tail.hO)=.vec 4 (o5.tail.hO).es)<|.done 0 [.sl ((o5.tail.hO).es)] []) (.test (ac r1.ag==ac (mk [112])) (NG a0_1 1 2<|NE (a0_1.ix (1:Int))<|NG a2_1 1 2<|NE (a2_1.ix (1:Int))<|.call 110 [.agg [VS (((a0_1.ix (1:Int)).getD 0 .any).ag),((a0_1.ix (1:Int)).getD 1 .any)],VS a1,.agg [VS (((a2_1.ix (1:Int)).getD 0 .any).ag),((a2_1.ix (1:Int)).getD 1 .any)]] [] fun r6 o6=>NL r6<|.loop Kq G7 [VS a1,r6,VI 0] [.cells [VS a0_0,a0_1],.cells [VS a2_0,a2_1],.vec 4 []] (fun y9 q9=>NS (y9.hA)<|.ak ((q9.hO)=.cells (q9.hO).cs)<|.ak (af [.lk .str,.lk .sl] ((q9.hO).cs) 0 q9.tail)<|.ak (((q9.tail.drop 0).hO)=.cells ((q9.tail.drop 0).hO).cs)<|.ak (af [.lk .str,.lk .sl] (((q9.tail.drop 0).hO).cs) 0 ((q9.tail.drop 0).tail))<|.ak (((q9.drop 2).hO)=.vec 4 ((q9.drop 2).hO).es)<|NG ((q9.hO).cs.getD 1 .any) 2 2<|NE (((q9.hO).cs.getD 1 .any).ix (2:Int))<|NG ((q9.tail.hO).cs.getD 1 .any) 2 2<|NE (((q9.tail.hO).cs.getD 1 .any).ix (2:Int))<|.call 110 [.agg [VS (((((q9.hO).cs.getD 1 .any).ix (2:Int)).getD 0 .any).ag),((((q9.hO).cs.getD 1 .any).ix (2:Int)).getD 1 .any)],VS ((y9.hA).ag),.agg [VS (((((q9.tail.hO).cs.getD 1 .any).ix (2:Int)).getD 0 .any).ag),((((q9.tail.hO).cs.getD 1 .any).ix (2:Int)).getD 1 .any)]] [] fun r10 o10=>NL r10<|.loop JM Ee [r10,VI 0] [.cells [VS (((q9.tail.hO).cs.getD 0 .any).ag),((q9.tail.hO).cs.getD 1 .any)],.vec 4 ((q9.tail.tail.hO).es)] (fun y13 q13=>.ak (((q13.drop 0).hO)=.vec 4 ((q13.drop 0).hO).es)<|.done 0 [.sl ((q13.hO).es)] []) (fun y13 q13=>.done 0 [.any] [])) (fun y9 q9=>.done 0 [.any] [])) (NG a0_1 1 2<|mn (a0_1.ix (1:Int))<|.test (ac (((a0_1.ix (1:Int)).hA).ag)==ac a1) (.done 0 [.sl []] []) (NG a0_1 2 2<|NE (a0_1.ix (2:Int))<|NG a2_1 1 2<|NE (a2_1.ix (1:Int))<|.call 110 [.agg [VS (((a0_1.ix (2:Int)).getD 0 .any).ag),((a0_1.ix (2:Int)).getD 1 .any)],VS a1,.agg [VS (((a2_1.ix (1:Int)).getD 0 .any).ag),((a2_1.ix (1:Int)).getD 1 .any)]] [] fun r14 o14=>NL r14<|.loop Jx Gb [VS a1,VS (((a0_1.ix (1:Int)).hA).ag),r14,VI 0] [.cells [VS a0_0,a0_1],.cells [VS a2_0,a2_1],.vec 4 []] (fun y17 q17=>NS (y17.hA)<|NS (y17.tail.hA)<|.ak ((q17.hO)=.cells (q17.hO).cs)<|.ak (af [.lk .str,.lk .sl] ((q17.hO).cs) 0 q17.tail)<|.ak (((q17.tail.drop 0).hO)=.cells ((q17.tail.drop 0).hO).cs)<|.ak (af [.lk .str,.lk .sl] (((q17.tail.drop 0).hO).cs) 0 ((q17.tail.drop 0).tail))<|.ak (((q17.drop 2).hO)=.vec 4 ((q17.drop 2).hO).es)<|NG ((q17.hO).cs.getD 1 .any) 2 2<|NE (((q17.hO).cs.getD 1 .any).ix (2:Int))<|NG ((q17.tail.hO).cs.getD 1 .any) 1 2<|NE (((q17.tail.hO).cs.getD 1 .any).ix (1:Int))<|.call 110 [.agg [VS (((((q17.hO).cs.getD 1 .any).ix (2:Int)).getD 0 .any).ag),((((q17.hO).cs.getD 1 .any).ix (2:Int)).getD 1 .any)],VS ((y17.tail.hA).ag),.agg [VS (((((q17.tail.hO).cs.getD 1 .any).ix (1:Int)).getD 0 .any).ag),((((q17.tail.hO).cs.getD 1 .any).ix (1:Int)).getD 1 .any)]] [] fun r18 o18=>NL r18<|.loop Ht GU [VS ((y17.hA).ag),r18,VI 0] [.cells [VS (((q17.hO).cs.getD 0 .any).ag),((q17.hO).cs.getD 1 .any)],.vec 4 ((q17.tail.tail.hO).es)] (fun y24 q24=>.ak (((q24.drop 0).hO)=.vec 4 ((q24.drop 0).hO).es)<|.done 0 [.sl ((q24.hO).es)] []) (fun y24 q24=>.done 0 [.any] [])) (fun y17 q17=>.done 0 [.any] []))))))
theorem MC(a0_0:ByteArray)(a0_1:AV)(a1:ByteArray)(a2_0:ByteArray)(a2_1:AV)(ha0_1:LK.has .sl a0_1)(ha2_1:LK.has .sl a2_1)(h:dF 244 (wD a0_0 a0_1 a1 a2_0 a2_1) R):aq Tryz.prog 110 [.agg [VS a0_0,a0_1],VS a1,.agg [VS a2_0,a2_1]] [] R :=
 uQ (ah (cr (ah (aA _) (ah (bY ha0_1) aD))) (ah (aA _) (ah (cr (ah (aA _) (ah (bY ha2_1) aD))) aD))) (oQ yL Tryz.f110 h)
def GQ(x1:ByteArray)(x8:AV)(x9:Int)(o3_0:ByteArray)(o3_1:AV)(o5_0:ByteArray)(o5_1:AV)(e7:List (List AV)):Tree :=
 NS (VS x1)<|NL x8<|NI (VI x9)<|.ak (Ob.cells [VS o3_0,o3_1]=.cells [VS o3_0,o3_1])<|.ak (af [.lk .str,.lk .sl] [VS o3_0,o3_1] 0 [.cells [VS o5_0,o5_1],.vec 4 e7])<|.ak (Ob.cells [VS o5_0,o5_1]=.cells [VS o5_0,o5_1])<|.ak (af [.lk .str,.lk .sl] [VS o5_0,o5_1] 0 [.vec 4 e7])<|.ak (Ob.vec 4 e7=.vec 4 e7)<|NL x8<|.test (decide (x9<(x8.aR.length:Int))) (NG x8 x9 4<|NE (x8.ix x9)<|NG o5_1 2 2<|NE (o5_1.ix (2:Int))<|.call 69 [VS (mk [112]),.sl [[VS (((x8.ix x9).getD 0 .any).ag),((x8.ix x9).getD 1 .any)],[VS (((o5_1.ix (2:Int)).getD 0 .any).ag),((o5_1.ix (2:Int)).getD 1 .any)]]] [] fun r1 o1=>NA r1<|.call 69 [VS (mk [108]),.sl [[VS ((r1.cs.getD 0 .any).ag),(r1.cs.getD 1 .any)]]] [] fun r2 o2=>NA r2<|NG x8 x9 4<|NE ((x8.ix x9).drop 2)<|.ak (cD 4 [[VS ((r2.cs.getD 0 .any).ag),(r2.cs.getD 1 .any),VS ((((x8.ix x9).drop 2).getD 0 .any).ag),(((x8.ix x9).drop 2).getD 1 .any)]]/\((e7.length)+([[VS ((r2.cs.getD 0 .any).ag),(r2.cs.getD 1 .any),VS ((((x8.ix x9).drop 2).getD 0 .any).ag),(((x8.ix x9).drop 2).getD 1 .any)]]:List (List AV)).length)*80<=140737488355328)<|.done 0 [VS x1,x8,VI (IntKind.wrap .i64 (x9+1))] [.cells [VS o3_0,o3_1],.cells [VS o5_0,o5_1],.vec 4 (e7++([[VS ((r2.cs.getD 0 .any).ag),(r2.cs.getD 1 .any),VS ((((x8.ix x9).drop 2).getD 0 .any).ag),(((x8.ix x9).drop 2).getD 1 .any)]]:List (List AV)))]) (.done 1 [VS x1] [.cells [VS o3_0,o3_1],.cells [VS o5_0,o5_1],.vec 4 e7])
abbrev F0:=cH Tryz.prog 244 Kq G7
theorem KZ(x1:ByteArray)(x8:AV)(x9:Int)(o3_0:ByteArray)(o3_1:AV)(o5_0:ByteArray)(o5_1:AV)(e7:List (List AV))(h:l8 244 (GQ x1 x8 x9 o3_0 o3_1 o5_0 o5_1 e7) F0 U):F0 [VS x1,x8,VI x9] [.cells [VS o3_0,o3_1],.cells [VS o5_0,o5_1],.vec 4 e7] U :=
 gQ yL h
def Gh(x10:AV)(x11:Int)(o5_0:ByteArray)(o5_1:AV)(e7:List (List AV)):Tree :=
 NL x10<|NI (VI x11)<|.ak (Ob.cells [VS o5_0,o5_1]=.cells [VS o5_0,o5_1])<|.ak (af [.lk .str,.lk .sl] [VS o5_0,o5_1] 0 [.vec 4 e7])<|.ak (Ob.vec 4 e7=.vec 4 e7)<|NL x10<|.test (decide (x11<(x10.aR.length:Int))) (NG o5_1 1 2<|NE (o5_1.ix (1:Int))<|NG x10 x11 4<|NE (x10.ix x11)<|.call 69 [VS (mk [112]),.sl [[VS (((o5_1.ix (1:Int)).getD 0 .any).ag),((o5_1.ix (1:Int)).getD 1 .any)],[VS (((x10.ix x11).getD 0 .any).ag),((x10.ix x11).getD 1 .any)]]] [] fun r1 o1=>NA r1<|.call 69 [VS (mk [114]),.sl [[VS ((r1.cs.getD 0 .any).ag),(r1.cs.getD 1 .any)]]] [] fun r2 o2=>NA r2<|NG x10 x11 4<|NE ((x10.ix x11).drop 2)<|.ak (cD 4 [[VS ((r2.cs.getD 0 .any).ag),(r2.cs.getD 1 .any),VS ((((x10.ix x11).drop 2).getD 0 .any).ag),(((x10.ix x11).drop 2).getD 1 .any)]]/\((e7.length)+([[VS ((r2.cs.getD 0 .any).ag),(r2.cs.getD 1 .any),VS ((((x10.ix x11).drop 2).getD 0 .any).ag),(((x10.ix x11).drop 2).getD 1 .any)]]:List (List AV)).length)*80<=140737488355328)<|.done 0 [x10,VI (IntKind.wrap .i64 (x11+1))] [.cells [VS o5_0,o5_1],.vec 4 (e7++([[VS ((r2.cs.getD 0 .any).ag),(r2.cs.getD 1 .any),VS ((((x10.ix x11).drop 2).getD 0 .any).ag),(((x10.ix x11).drop 2).getD 1 .any)]]:List (List AV)))]) (.done 1 [] [.vec 4 e7])
abbrev E6:=cH Tryz.prog 244 JM Ee
theorem Jo(x10:AV)(x11:Int)(o5_0:ByteArray)(o5_1:AV)(e7:List (List AV))(h:l8 244 (Gh x10 x11 o5_0 o5_1 e7) E6 U):E6 [x10,VI x11] [.cells [VS o5_0,o5_1],.vec 4 e7] U :=
 gQ yL h
def F2(x1:ByteArray)(x12:ByteArray)(x13:AV)(x14:Int)(o3_0:ByteArray)(o3_1:AV)(o5_0:ByteArray)(o5_1:AV)(e7:List (List AV)):Tree :=
 NS (VS x1)<|NS (VS x12)<|NL x13<|NI (VI x14)<|.ak (Ob.cells [VS o3_0,o3_1]=.cells [VS o3_0,o3_1])<|.ak (af [.lk .str,.lk .sl] [VS o3_0,o3_1] 0 [.cells [VS o5_0,o5_1],.vec 4 e7])<|.ak (Ob.cells [VS o5_0,o5_1]=.cells [VS o5_0,o5_1])<|.ak (af [.lk .str,.lk .sl] [VS o5_0,o5_1] 0 [.vec 4 e7])<|.ak (Ob.vec 4 e7=.vec 4 e7)<|NL x13<|.test (decide (x14<(x13.aR.length:Int))) (NG x13 x14 4<|NE (x13.ix x14)<|.call 69 [VS (mk [108]),.sl [[VS (((x13.ix x14).getD 0 .any).ag),((x13.ix x14).getD 1 .any)]]] [] fun r1 o1=>NA r1<|.call 69 [VS (mk [102]),.sl [[VS ((r1.cs.getD 0 .any).ag),(r1.cs.getD 1 .any)]]] [] fun r2 o2=>NA r2<|NG x13 x14 4<|NE ((x13.ix x14).drop 2)<|.ak (cD 4 [[VS ((r2.cs.getD 0 .any).ag),(r2.cs.getD 1 .any),VS ((((x13.ix x14).drop 2).getD 0 .any).ag),(((x13.ix x14).drop 2).getD 1 .any)]]/\((e7.length)+([[VS ((r2.cs.getD 0 .any).ag),(r2.cs.getD 1 .any),VS ((((x13.ix x14).drop 2).getD 0 .any).ag),(((x13.ix x14).drop 2).getD 1 .any)]]:List (List AV)).length)*80<=140737488355328)<|.done 0 [VS x1,VS x12,x13,VI (IntKind.wrap .i64 (x14+1))] [.cells [VS o3_0,o3_1],.cells [VS o5_0,o5_1],.vec 4 (e7++([[VS ((r2.cs.getD 0 .any).ag),(r2.cs.getD 1 .any),VS ((((x13.ix x14).drop 2).getD 0 .any).ag),(((x13.ix x14).drop 2).getD 1 .any)]]:List (List AV)))]) (.done 1 [VS x1,VS x12] [.cells [VS o3_0,o3_1],.cells [VS o5_0,o5_1],.vec 4 e7])
abbrev Fx:=cH Tryz.prog 244 Jx Gb
theorem IT(x1:ByteArray)(x12:ByteArray)(x13:AV)(x14:Int)(o3_0:ByteArray)(o3_1:AV)(o5_0:ByteArray)(o5_1:AV)(e7:List (List AV))(h:l8 244 (F2 x1 x12 x13 x14 o3_0 o3_1 o5_0 o5_1 e7) Fx U):Fx [VS x1,VS x12,x13,VI x14] [.cells [VS o3_0,o3_1],.cells [VS o5_0,o5_1],.vec 4 e7] U :=
 gQ yL h
def GY(x1:ByteArray)(x15:AV)(x16:Int)(o3_0:ByteArray)(o3_1:AV)(e7:List (List AV)):Tree :=
 NS (VS x1)<|NL x15<|NI (VI x16)<|.ak (Ob.cells [VS o3_0,o3_1]=.cells [VS o3_0,o3_1])<|.ak (af [.lk .str,.lk .sl] [VS o3_0,o3_1] 0 [.vec 4 e7])<|.ak (Ob.vec 4 e7=.vec 4 e7)<|NL x15<|.test (decide (x16<(x15.aR.length:Int))) (NG x15 x16 4<|NE ((x15.ix x16).drop 2)<|.call 110 [.agg [VS o3_0,o3_1],VS x1,.agg [VS ((((x15.ix x16).drop 2).getD 0 .any).ag),(((x15.ix x16).drop 2).getD 1 .any)]] [] fun r1 o1=>NL r1<|.loop If Gl [VS x1,x15,VI x16,r1,VI 0] [.cells [VS o3_0,o3_1],.vec 4 e7] (fun y2 q2=>NS (y2.hA)<|NL (y2.tail.hA)<|NI (y2.tail.tail.hA)<|.ak ((q2.hO)=.cells (q2.hO).cs)<|.ak (af [.lk .str,.lk .sl] ((q2.hO).cs) 0 q2.tail)<|.ak (((q2.drop 1).hO)=.vec 4 ((q2.drop 1).hO).es)<|.done 0 [VS ((y2.hA).ag),(y2.tail.hA),VI (IntKind.wrap .i64 (((y2.tail.tail.hA).toInt)+1))] [.cells [VS (((q2.hO).cs.getD 0 .any).ag),((q2.hO).cs.getD 1 .any)],.vec 4 ((q2.tail.hO).es)]) (fun y2 q2=>.done 2 [] [])) (.done 1 [] [.vec 4 e7])
abbrev Gd:=cH Tryz.prog 244 Ht GU
theorem Kg(x1:ByteArray)(x15:AV)(x16:Int)(o3_0:ByteArray)(o3_1:AV)(e7:List (List AV))(h:l8 244 (GY x1 x15 x16 o3_0 o3_1 e7) Gd U):Gd [VS x1,x15,VI x16] [.cells [VS o3_0,o3_1],.vec 4 e7] U :=
 gQ yL h
def FQ(x1:ByteArray)(x15:AV)(x16:Int)(x17:AV)(x18:Int)(o3_0:ByteArray)(o3_1:AV)(e7:List (List AV)):Tree :=
 NS (VS x1)<|NL x15<|NI (VI x16)<|NL x17<|NI (VI x18)<|.ak (Ob.cells [VS o3_0,o3_1]=.cells [VS o3_0,o3_1])<|.ak (af [.lk .str,.lk .sl] [VS o3_0,o3_1] 0 [.vec 4 e7])<|.ak (Ob.vec 4 e7=.vec 4 e7)<|NL x17<|.test (decide (x18<(x17.aR.length:Int))) (NG x15 x16 4<|NE (x15.ix x16)<|NG x17 x18 4<|NE (x17.ix x18)<|.call 69 [VS (mk [112]),.sl [[VS (((x15.ix x16).getD 0 .any).ag),((x15.ix x16).getD 1 .any)],[VS (((x17.ix x18).getD 0 .any).ag),((x17.ix x18).getD 1 .any)]]] [] fun r1 o1=>NA r1<|.call 69 [VS (mk [114]),.sl [[VS ((r1.cs.getD 0 .any).ag),(r1.cs.getD 1 .any)]]] [] fun r2 o2=>NA r2<|.call 69 [VS (mk [102]),.sl [[VS ((r2.cs.getD 0 .any).ag),(r2.cs.getD 1 .any)]]] [] fun r3 o3=>NA r3<|NG x17 x18 4<|NE ((x17.ix x18).drop 2)<|.ak (cD 4 [[VS ((r3.cs.getD 0 .any).ag),(r3.cs.getD 1 .any),VS ((((x17.ix x18).drop 2).getD 0 .any).ag),(((x17.ix x18).drop 2).getD 1 .any)]]/\((e7.length)+([[VS ((r3.cs.getD 0 .any).ag),(r3.cs.getD 1 .any),VS ((((x17.ix x18).drop 2).getD 0 .any).ag),(((x17.ix x18).drop 2).getD 1 .any)]]:List (List AV)).length)*80<=140737488355328)<|.done 0 [VS x1,x15,VI x16,x17,VI (IntKind.wrap .i64 (x18+1))] [.cells [VS o3_0,o3_1],.vec 4 (e7++([[VS ((r3.cs.getD 0 .any).ag),(r3.cs.getD 1 .any),VS ((((x17.ix x18).drop 2).getD 0 .any).ag),(((x17.ix x18).drop 2).getD 1 .any)]]:List (List AV)))]) (.done 1 [VS x1,x15,VI x16] [.cells [VS o3_0,o3_1],.vec 4 e7])
abbrev Fy:=cH Tryz.prog 244 If Gl
theorem Lz(x1:ByteArray)(x15:AV)(x16:Int)(x17:AV)(x18:Int)(o3_0:ByteArray)(o3_1:AV)(e7:List (List AV))(h:l8 244 (FQ x1 x15 x16 x17 x18 o3_0 o3_1 e7) Fy U):Fy [VS x1,x15,VI x16,x17,VI x18] [.cells [VS o3_0,o3_1],.vec 4 e7] U :=
 gQ yL h
def KC(a0:ByteArray)(a1:ByteArray):Tree :=
 .test (decide ((ae a0:Int)≥(1:Int))) (.test (decide ((ae a0:Int)<=(3:Int))) (.ak (0<=(0:Int)/\(0:Int)<=(1:Int)/\(1:Int)<=(ae a0:Int))<|.call 151 [VS a1,VS (bZ a0 (bW 0) (bW 1))] [] fun r1 o1=>NB r1<|.test r1.toBool (.ak (0<=(1:Int)/\(1:Int)<=(ae a0:Int)/\(ae a0:Int)<=(ae a0:Int))<|.call 152 [VS (bZ a0 (bW 1) (bW (ae a0:Int))),VS (mk [48,49,50,51,52,53,54,55,56,57])] [] fun r2 o2=>NS r2<|.done 0 [VB (ac r2.ag==ac (mk []))] []) (.done 0 [VB false] [])) (.done 0 [VB false] [])) (.done 0 [VB false] [])
theorem O1(a0:ByteArray)(a1:ByteArray)(h:dF 25 (KC a0 a1) R):aq Tryz.prog 111 [VS a0,VS a1] [] R :=
 uQ (ah (aA _) (ah (aA _) aD)) (oQ [] Tryz.f111 h)
def Cw(a0_0:ByteArray)(a0_1:AV)(a1_0:AV)(a1_1:AV):Tree :=
 NP a0_1<|.test (!a0_1.isNil) (NZ a1_0<|NZ a1_0<|.ak (LK.has (.int .u8) (a1_0.deref.hA)/\1<=a1_0.deref.length)<|.test (((a1_0.deref.hA).toInt)==(98:Int)) (.call 133 [.agg [a1_0,a1_1]] [] fun r1 o1=>NP r1<|.ak (AV.qH r1/\AV.qH a0_1)<|.done 0 [VB (AV.Be r1 a0_1)] []) (.done 0 [VB false] [])) (NZ a1_0<|NZ a1_0<|.ak (LK.has (.int .u8) (a1_0.deref.hA)/\1<=a1_0.deref.length)<|.test (((a1_0.deref.hA).toInt)==(110:Int)) (NZ a1_0<|NZ a1_0<|mn (a1_0.deref.drop 1)<|.done 0 [VB (ac (((a1_0.deref.drop 1).hA).ag)==ac a0_0)] []) (.done 0 [VB false] []))
theorem OE(a0_0:ByteArray)(a0_1:AV)(a1_0:AV)(a1_1:AV)(ha0_1:LK.has .ptr a0_1)(ha1_0:LK.has .ptr a1_0)(ha1_1:LK.has .ptr a1_1)(h:dF 37 (Cw a0_0 a0_1 a1_0 a1_1) R):aq Tryz.prog 112 [.agg [VS a0_0,a0_1],.agg [a1_0,a1_1]] [] R :=
 uQ (ah (cr (ah (aA _) (ah (bF ha0_1) aD))) (ah (cr (ah (bF ha1_0) (ah (bF ha1_1) aD))) aD)) (oQ [] Tryz.f112 h)
def FI:LI:={hd:={cd:=[(7,.k .sl),(8,.k (.int .i64)),(9,.k (.int .i64))],refs:=[(2,1)],cm:=[(0,[.lk .ptr]),(1,[.vec 2])],zS:=[(1,114,[0])]},xs:={cm:=[(0,[.lk .ptr]),(1,[.vec 2])]},rt:={cm:=[(0,[.lk .ptr]),(1,[.vec 2])]},ex:=0,fx:=[0,1]}
def KJ:Code:=cY (cQ Tryz.f113) 1
def Lq:List (Nat×LI):=[(1,FI)]
def LO(a0:AV)(a1_0_0:AV)(e2_0:List (List AV)):Tree :=
 NL a0<|.loop KJ FI [a0,VI (a0.aR.length:Int),VI 0] [.cells [a1_0_0],.cells [.any],.vec 2 e2_0] (fun y2 q2=>.ak ((q2.hO)=.cells (q2.hO).cs)<|.ak (af [.lk .ptr] ((q2.hO).cs) 0 q2.tail)<|.ak (((q2.tail.drop 0).hO)=.cells ((q2.tail.drop 0).hO).cs)<|.ak (af [.vec 2] (((q2.tail.drop 0).hO).cs) 0 ((q2.tail.drop 0).tail))<|.done 0 [.any] [.cells [((q2.hO).cs.getD 0 .any)],.cells [.vec 2],.vec 2 ((q2.tail.tail.hO).es)]) (fun y2 q2=>.ak ((q2.hO)=.cells (q2.hO).cs)<|.ak (af [.lk .ptr] ((q2.hO).cs) 0 q2.tail)<|.ak (((q2.tail.drop 0).hO)=.cells ((q2.tail.drop 0).hO).cs)<|.ak (af [.vec 2] (((q2.tail.drop 0).hO).cs) 0 ((q2.tail.drop 0).tail))<|.done 0 [.any] [.cells [((q2.hO).cs.getD 0 .any)],.cells [.vec 2],.vec 2 ((q2.tail.tail.hO).es)])
theorem Nd(a0:AV)(a1_0_0:AV)(e2_0:List (List AV))(ha0:LK.has .sl a0)(ha1_0_0:LK.has .ptr a1_0_0)(h:dF 24 (LO a0 a1_0_0 e2_0) R):aq Tryz.prog 113 [a0,.fn 114 [.ref 0 0],.ref 1 0] [.cells [a1_0_0],.cells [.vec 2],.vec 2 e2_0] R :=
 aq.oP (bu (cc (ah (bF ha1_0_0) aD)) (bu (cc (ah (aA _) aD)) (bu (gq _) cx))) (aq.up (ah (bY ha0) (ah (aA _) (ah (aA _) aD))) (oF Lq {mu:=[(1,.fn [some (.obj [.lk .ptr])]),(2,.one (.obj [.vec 2]))],own:=[]} Tryz.f113 h))
def EF(x7:AV)(x8:Int)(x9:Int)(o0_0:AV)(o1_0:List (List AV)):Tree :=
 NL x7<|NI (VI x8)<|NI (VI x9)<|.ak (Ob.cells [o0_0]=.cells [o0_0])<|.ak (af [.lk .ptr] [o0_0] 0 [.cells [.any],.vec 2 o1_0])<|.ak (Ob.cells [.any]=.cells [.any])<|.ak (af [.vec 2] [.any] 0 [.vec 2 o1_0])<|.test (decide (x9<x8)) (NG x7 x9 2<|.ak (bB [.ptr,.ptr] (x7.ix x9) 0/\2<=(x7.ix x9).length)<|.call 114 [((x7.ix x9).getD 0 .any),.ref 0 0] [.cells [o0_0]] fun r1 o1=>.ak ((o1.hO)=.cells (o1.hO).cs)<|.ak (aM [.lk .ptr] ((o1.hO).cs) 0 1 o1.tail)<|NP r1<|.ak (cD 2 [[r1,((x7.ix x9).getD 1 .any)]]/\((o1_0.length)+([[r1,((x7.ix x9).getD 1 .any)]]:List (List AV)).length)*16<=140737488355328)<|.done 0 [x7,VI x8,VI (IntKind.wrap .i64 (x9+1))] [.cells [((o1.hO).cs.getD 0 .any)],.cells [.any],.vec 2 (o1_0++([[r1,((x7.ix x9).getD 1 .any)]]:List (List AV)))]) (.done 1 [] [.cells [o0_0],.cells [.any],.vec 2 o1_0])
abbrev Ej:=cH Tryz.prog 24 KJ FI
theorem IF(x7:AV)(x8:Int)(x9:Int)(o0_0:AV)(o1_0:List (List AV))(h:l8 24 (EF x7 x8 x9 o0_0 o1_0) Ej U):Ej [x7,VI x8,VI x9] [.cells [o0_0],.cells [.any],.vec 2 o1_0] U :=
 gQ Lq h
def Gr:LI:={hd:={cd:=[(7,.k .sl),(8,.k (.int .i64)),(9,.k (.int .i64))],refs:=[(2,1)],cm:=[(0,[.lk .ptr]),(1,[.vec 2])],zS:=[(1,115,[0])]},xs:={cm:=[(0,[.lk .ptr]),(1,[.vec 2])]},rt:={cm:=[(0,[.lk .ptr]),(1,[.vec 2])]},ex:=0,fx:=[0,1]}
def Ky:Code:=cY (cQ Tryz.f113) 1
def Kj:List (Nat×LI):=[(1,Gr)]
def Jl(a0:AV)(a1_0_0:AV)(e2_0:List (List AV)):Tree :=
 NL a0<|.loop Ky Gr [a0,VI (a0.aR.length:Int),VI 0] [.cells [a1_0_0],.cells [.any],.vec 2 e2_0] (fun y2 q2=>.ak ((q2.hO)=.cells (q2.hO).cs)<|.ak (af [.lk .ptr] ((q2.hO).cs) 0 q2.tail)<|.ak (((q2.tail.drop 0).hO)=.cells ((q2.tail.drop 0).hO).cs)<|.ak (af [.vec 2] (((q2.tail.drop 0).hO).cs) 0 ((q2.tail.drop 0).tail))<|.done 0 [.any] [.cells [((q2.hO).cs.getD 0 .any)],.cells [.vec 2],.vec 2 ((q2.tail.tail.hO).es)]) (fun y2 q2=>.ak ((q2.hO)=.cells (q2.hO).cs)<|.ak (af [.lk .ptr] ((q2.hO).cs) 0 q2.tail)<|.ak (((q2.tail.drop 0).hO)=.cells ((q2.tail.drop 0).hO).cs)<|.ak (af [.vec 2] (((q2.tail.drop 0).hO).cs) 0 ((q2.tail.drop 0).tail))<|.done 0 [.any] [.cells [((q2.hO).cs.getD 0 .any)],.cells [.vec 2],.vec 2 ((q2.tail.tail.hO).es)])
theorem MP(a0:AV)(a1_0_0:AV)(e2_0:List (List AV))(ha0:LK.has .sl a0)(ha1_0_0:LK.has .ptr a1_0_0)(h:dF 24 (Jl a0 a1_0_0 e2_0) R):aq Tryz.prog 113 [a0,.fn 115 [.ref 0 0],.ref 1 0] [.cells [a1_0_0],.cells [.vec 2],.vec 2 e2_0] R :=
 aq.oP (bu (cc (ah (bF ha1_0_0) aD)) (bu (cc (ah (aA _) aD)) (bu (gq _) cx))) (aq.up (ah (bY ha0) (ah (aA _) (ah (aA _) aD))) (oF Kj {mu:=[(1,.fn [some (.obj [.lk .ptr])]),(2,.one (.obj [.vec 2]))],own:=[]} Tryz.f113 h))
def EH(x7:AV)(x8:Int)(x9:Int)(o0_0:AV)(o1_0:List (List AV)):Tree :=
 NL x7<|NI (VI x8)<|NI (VI x9)<|.ak (Ob.cells [o0_0]=.cells [o0_0])<|.ak (af [.lk .ptr] [o0_0] 0 [.cells [.any],.vec 2 o1_0])<|.ak (Ob.cells [.any]=.cells [.any])<|.ak (af [.vec 2] [.any] 0 [.vec 2 o1_0])<|.test (decide (x9<x8)) (NG x7 x9 2<|.ak (bB [.ptr,.ptr] (x7.ix x9) 0/\2<=(x7.ix x9).length)<|.call 115 [((x7.ix x9).getD 0 .any),.ref 0 0] [.cells [o0_0]] fun r1 o1=>.ak ((o1.hO)=.cells (o1.hO).cs)<|.ak (aM [.lk .ptr] ((o1.hO).cs) 0 1 o1.tail)<|NP r1<|.ak (cD 2 [[r1,((x7.ix x9).getD 1 .any)]]/\((o1_0.length)+([[r1,((x7.ix x9).getD 1 .any)]]:List (List AV)).length)*16<=140737488355328)<|.done 0 [x7,VI x8,VI (IntKind.wrap .i64 (x9+1))] [.cells [((o1.hO).cs.getD 0 .any)],.cells [.any],.vec 2 (o1_0++([[r1,((x7.ix x9).getD 1 .any)]]:List (List AV)))]) (.done 1 [] [.cells [o0_0],.cells [.any],.vec 2 o1_0])
abbrev E8:=cH Tryz.prog 24 Ky Gr
theorem J4(x7:AV)(x8:Int)(x9:Int)(o0_0:AV)(o1_0:List (List AV))(h:l8 24 (EH x7 x8 x9 o0_0 o1_0) E8 U):E8 [x7,VI x8,VI x9] [.cells [o0_0],.cells [.any],.vec 2 o1_0] U :=
 gQ Kj h
def Fk:LI:={hd:={cd:=[(7,.k .sl),(8,.k (.int .i64)),(9,.k (.int .i64))],refs:=[(2,1)],cm:=[(0,[.lk .ptr]),(1,[.vec 2])],zS:=[(1,116,[0])]},xs:={cm:=[(0,[.lk .ptr]),(1,[.vec 2])]},rt:={cm:=[(0,[.lk .ptr]),(1,[.vec 2])]},ex:=0,fx:=[0,1]}
def KG:Code:=cY (cQ Tryz.f113) 1
def JI:List (Nat×LI):=[(1,Fk)]
def IP(a0:AV)(a1_0_0:AV)(e2_0:List (List AV)):Tree :=
 NL a0<|.loop KG Fk [a0,VI (a0.aR.length:Int),VI 0] [.cells [a1_0_0],.cells [.any],.vec 2 e2_0] (fun y2 q2=>.ak ((q2.hO)=.cells (q2.hO).cs)<|.ak (af [.lk .ptr] ((q2.hO).cs) 0 q2.tail)<|.ak (((q2.tail.drop 0).hO)=.cells ((q2.tail.drop 0).hO).cs)<|.ak (af [.vec 2] (((q2.tail.drop 0).hO).cs) 0 ((q2.tail.drop 0).tail))<|.done 0 [.any] [.cells [((q2.hO).cs.getD 0 .any)],.cells [.vec 2],.vec 2 ((q2.tail.tail.hO).es)]) (fun y2 q2=>.ak ((q2.hO)=.cells (q2.hO).cs)<|.ak (af [.lk .ptr] ((q2.hO).cs) 0 q2.tail)<|.ak (((q2.tail.drop 0).hO)=.cells ((q2.tail.drop 0).hO).cs)<|.ak (af [.vec 2] (((q2.tail.drop 0).hO).cs) 0 ((q2.tail.drop 0).tail))<|.done 0 [.any] [.cells [((q2.hO).cs.getD 0 .any)],.cells [.vec 2],.vec 2 ((q2.tail.tail.hO).es)])
theorem Oi(a0:AV)(a1_0_0:AV)(e2_0:List (List AV))(ha0:LK.has .sl a0)(ha1_0_0:LK.has .ptr a1_0_0)(h:dF 24 (IP a0 a1_0_0 e2_0) R):aq Tryz.prog 113 [a0,.fn 116 [.ref 0 0],.ref 1 0] [.cells [a1_0_0],.cells [.vec 2],.vec 2 e2_0] R :=
 aq.oP (bu (cc (ah (bF ha1_0_0) aD)) (bu (cc (ah (aA _) aD)) (bu (gq _) cx))) (aq.up (ah (bY ha0) (ah (aA _) (ah (aA _) aD))) (oF JI {mu:=[(1,.fn [some (.obj [.lk .ptr])]),(2,.one (.obj [.vec 2]))],own:=[]} Tryz.f113 h))
def Gw(x7:AV)(x8:Int)(x9:Int)(o0_0:AV)(o1_0:List (List AV)):Tree :=
 NL x7<|NI (VI x8)<|NI (VI x9)<|.ak (Ob.cells [o0_0]=.cells [o0_0])<|.ak (af [.lk .ptr] [o0_0] 0 [.cells [.any],.vec 2 o1_0])<|.ak (Ob.cells [.any]=.cells [.any])<|.ak (af [.vec 2] [.any] 0 [.vec 2 o1_0])<|.test (decide (x9<x8)) (NG x7 x9 2<|.ak (bB [.ptr,.ptr] (x7.ix x9) 0/\2<=(x7.ix x9).length)<|.call 116 [((x7.ix x9).getD 0 .any),.ref 0 0] [.cells [o0_0]] fun r1 o1=>.ak ((o1.hO)=.cells (o1.hO).cs)<|.ak (aM [.lk .ptr] ((o1.hO).cs) 0 1 o1.tail)<|NP r1<|.ak (cD 2 [[r1,((x7.ix x9).getD 1 .any)]]/\((o1_0.length)+([[r1,((x7.ix x9).getD 1 .any)]]:List (List AV)).length)*16<=140737488355328)<|.done 0 [x7,VI x8,VI (IntKind.wrap .i64 (x9+1))] [.cells [((o1.hO).cs.getD 0 .any)],.cells [.any],.vec 2 (o1_0++([[r1,((x7.ix x9).getD 1 .any)]]:List (List AV)))]) (.done 1 [] [.cells [o0_0],.cells [.any],.vec 2 o1_0])
abbrev EE:=cH Tryz.prog 24 KG Fk
theorem KK(x7:AV)(x8:Int)(x9:Int)(o0_0:AV)(o1_0:List (List AV))(h:l8 24 (Gw x7 x8 x9 o0_0 o1_0) EE U):EE [x7,VI x8,VI x9] [.cells [o0_0],.cells [.any],.vec 2 o1_0] U :=
 gQ JI h
def FJ:LI:={hd:={cd:=[(1,.c (.func (.func 117) #[] #[])),(7,.k .sl),(8,.k (.int .i64)),(9,.k (.int .i64))],refs:=[(2,0)],cm:=[(0,[.vec 2])]},xs:={cm:=[(0,[.vec 2])]},rt:={cm:=[(0,[.vec 2])]},ex:=0,fx:=[0]}
def JT:Code:=cY (cQ Tryz.f113) 1
def LU:List (Nat×LI):=[(1,FJ)]
def Kh(a0:AV)(e2_0:List (List AV)):Tree :=
 NL a0<|.loop JT FJ [.v (.func (.func 117) #[] #[]),a0,VI (a0.aR.length:Int),VI 0] [.cells [.any],.vec 2 e2_0] (fun y2 q2=>.ak ((q2.hO)=.cells (q2.hO).cs)<|.ak (af [.vec 2] ((q2.hO).cs) 0 q2.tail)<|.done 0 [.any] [.cells [.vec 1],.vec 2 ((q2.tail.hO).es)]) (fun y2 q2=>.ak ((q2.hO)=.cells (q2.hO).cs)<|.ak (af [.vec 2] ((q2.hO).cs) 0 q2.tail)<|.done 0 [.any] [.cells [.vec 1],.vec 2 ((q2.tail.hO).es)])
theorem OB(a0:AV)(e2_0:List (List AV))(ha0:LK.has .sl a0)(h:dF 24 (Kh a0 e2_0) R):aq Tryz.prog 113 [a0,.v (.func (.func 117) #[] #[]),.ref 0 0] [.cells [.vec 1],.vec 2 e2_0] R :=
 aq.oP (bu (cc (ah (aA _) aD)) (bu (gq _) cx)) (aq.up (ah (bY ha0) (ah (aA _) (ah (aA _) aD))) (oF LU {mu:=[(2,.one (.obj [.vec 2]))],own:=[]} Tryz.f113 h))
def FZ(x7:AV)(x8:Int)(x9:Int)(o0_0:List (List AV)):Tree :=
 .ak (AV.v (.func (.func 117) #[] #[])=.v (.func (.func 117) #[] #[]))<|NL x7<|NI (VI x8)<|NI (VI x9)<|.ak (Ob.cells [.any]=.cells [.any])<|.ak (af [.vec 2] [.any] 0 [.vec 2 o0_0])<|.test (decide (x9<x8)) (NG x7 x9 2<|.ak (bB [.ptr,.ptr] (x7.ix x9) 0/\2<=(x7.ix x9).length)<|.call 117 [((x7.ix x9).getD 0 .any)] [] fun r1 o1=>NP r1<|.ak (cD 2 [[r1,((x7.ix x9).getD 1 .any)]]/\((o0_0.length)+([[r1,((x7.ix x9).getD 1 .any)]]:List (List AV)).length)*16<=140737488355328)<|.done 0 [.v (.func (.func 117) #[] #[]),x7,VI x8,VI (IntKind.wrap .i64 (x9+1))] [.cells [.any],.vec 2 (o0_0++([[r1,((x7.ix x9).getD 1 .any)]]:List (List AV)))]) (.done 1 [] [.cells [.any],.vec 2 o0_0])
abbrev Fg:=cH Tryz.prog 24 JT FJ
theorem Iv(x7:AV)(x8:Int)(x9:Int)(o0_0:List (List AV))(h:l8 24 (FZ x7 x8 x9 o0_0) Fg U):Fg [.v (.func (.func 117) #[] #[]),x7,VI x8,VI x9] [.cells [.any],.vec 2 o0_0] U :=
 gQ LU h
def FM:LI:={hd:={cd:=[(7,.k .sl),(8,.k (.int .i64)),(9,.k (.int .i64))],refs:=[(2,1)],cm:=[(0,[.lk .ptr,.lk .ptr]),(1,[.vec 2])],zS:=[(1,118,[0])]},xs:={cm:=[(0,[.lk .ptr,.lk .ptr]),(1,[.vec 2])]},rt:={cm:=[(0,[.lk .ptr,.lk .ptr]),(1,[.vec 2])]},ex:=0,fx:=[0,1]}
def Lm:Code:=cY (cQ Tryz.f113) 1
def Jv:List (Nat×LI):=[(1,FM)]
def Hr(a0:AV)(a1_0_0:AV)(a1_0_1:AV)(e2_0:List (List AV)):Tree :=
 NL a0<|.loop Lm FM [a0,VI (a0.aR.length:Int),VI 0] [.cells [a1_0_0,a1_0_1],.cells [.any],.vec 2 e2_0] (fun y2 q2=>.ak ((q2.hO)=.cells (q2.hO).cs)<|.ak (af [.lk .ptr,.lk .ptr] ((q2.hO).cs) 0 q2.tail)<|.ak (((q2.tail.drop 0).hO)=.cells ((q2.tail.drop 0).hO).cs)<|.ak (af [.vec 2] (((q2.tail.drop 0).hO).cs) 0 ((q2.tail.drop 0).tail))<|.done 0 [.any] [.cells [((q2.hO).cs.getD 0 .any),((q2.hO).cs.getD 1 .any)],.cells [.vec 2],.vec 2 ((q2.tail.tail.hO).es)]) (fun y2 q2=>.ak ((q2.hO)=.cells (q2.hO).cs)<|.ak (af [.lk .ptr,.lk .ptr] ((q2.hO).cs) 0 q2.tail)<|.ak (((q2.tail.drop 0).hO)=.cells ((q2.tail.drop 0).hO).cs)<|.ak (af [.vec 2] (((q2.tail.drop 0).hO).cs) 0 ((q2.tail.drop 0).tail))<|.done 0 [.any] [.cells [((q2.hO).cs.getD 0 .any),((q2.hO).cs.getD 1 .any)],.cells [.vec 2],.vec 2 ((q2.tail.tail.hO).es)])
theorem Ni(a0:AV)(a1_0_0:AV)(a1_0_1:AV)(e2_0:List (List AV))(ha0:LK.has .sl a0)(ha1_0_0:LK.has .ptr a1_0_0)(ha1_0_1:LK.has .ptr a1_0_1)(h:dF 24 (Hr a0 a1_0_0 a1_0_1 e2_0) R):aq Tryz.prog 113 [a0,.fn 118 [.ref 0 0],.ref 1 0] [.cells [a1_0_0,a1_0_1],.cells [.vec 2],.vec 2 e2_0] R :=
 aq.oP (bu (cc (ah (bF ha1_0_0) (ah (bF ha1_0_1) aD))) (bu (cc (ah (aA _) aD)) (bu (gq _) cx))) (aq.up (ah (bY ha0) (ah (aA _) (ah (aA _) aD))) (oF Jv {mu:=[(1,.fn [some (.obj [.lk .ptr,.lk .ptr])]),(2,.one (.obj [.vec 2]))],own:=[]} Tryz.f113 h))
def Gu(x7:AV)(x8:Int)(x9:Int)(o0_0:AV)(o0_1:AV)(o1_0:List (List AV)):Tree :=
 NL x7<|NI (VI x8)<|NI (VI x9)<|.ak (Ob.cells [o0_0,o0_1]=.cells [o0_0,o0_1])<|.ak (af [.lk .ptr,.lk .ptr] [o0_0,o0_1] 0 [.cells [.any],.vec 2 o1_0])<|.ak (Ob.cells [.any]=.cells [.any])<|.ak (af [.vec 2] [.any] 0 [.vec 2 o1_0])<|.test (decide (x9<x8)) (NG x7 x9 2<|.ak (bB [.ptr,.ptr] (x7.ix x9) 0/\2<=(x7.ix x9).length)<|.call 118 [((x7.ix x9).getD 0 .any),.ref 0 0] [.cells [o0_0,o0_1]] fun r1 o1=>.ak ((o1.hO)=.cells (o1.hO).cs)<|.ak (aM [.lk .ptr,.lk .ptr] ((o1.hO).cs) 0 1 o1.tail)<|NP r1<|.ak (cD 2 [[r1,((x7.ix x9).getD 1 .any)]]/\((o1_0.length)+([[r1,((x7.ix x9).getD 1 .any)]]:List (List AV)).length)*16<=140737488355328)<|.done 0 [x7,VI x8,VI (IntKind.wrap .i64 (x9+1))] [.cells [((o1.hO).cs.getD 0 .any),((o1.hO).cs.getD 1 .any)],.cells [.any],.vec 2 (o1_0++([[r1,((x7.ix x9).getD 1 .any)]]:List (List AV)))]) (.done 1 [] [.cells [o0_0,o0_1],.cells [.any],.vec 2 o1_0])
abbrev FV:=cH Tryz.prog 24 Lm FM
theorem J8(x7:AV)(x8:Int)(x9:Int)(o0_0:AV)(o0_1:AV)(o1_0:List (List AV))(h:l8 24 (Gu x7 x8 x9 o0_0 o0_1 o1_0) FV U):FV [x7,VI x8,VI x9] [.cells [o0_0,o0_1],.cells [.any],.vec 2 o1_0] U :=
 gQ Jv h
def GD(a0:AV)(a1_0:AV):Tree :=
 NZ a1_0<|NZ a1_0<|.ak (LK.has (.int .u8) (a1_0.deref.hA)/\1<=a1_0.deref.length)<|.call 95 [.v (.int .u8 ((a1_0.deref.hA).toInt)),a0] [] fun r1 o1=>NP r1<|.done 0 [r1] [.cells [a1_0]]
theorem Ll(a0:AV)(a1_0:AV)(ha0:LK.has .ptr a0)(ha1_0:LK.has .ptr a1_0)(h:dF 10 (GD a0 a1_0) R):aq Tryz.prog 114 [a0,.ref 0 0] [.cells [a1_0]] R :=
 aq.oP (bu (cc (ah (bF ha1_0) aD)) cx) (aq.up (ah (bF ha0) (ah (aA _) aD)) (oF [] {mu:=[(1,.one (.obj [.lk .ptr]))],own:=[]} Tryz.f114 h))
def Hz(a0:AV)(a1_0:AV):Tree :=
 NZ a1_0<|NZ a1_0<|eA (a1_0.deref.drop 3)<|.call 96 [a0,((a1_0.deref.drop 3).hA)] [] fun r1 o1=>NP r1<|.call 95 [.v (.int .u8 108),r1] [] fun r2 o2=>NP r2<|.done 0 [r2] [.cells [a1_0]]
theorem Pu(a0:AV)(a1_0:AV)(ha0:LK.has .ptr a0)(ha1_0:LK.has .ptr a1_0)(h:dF 11 (Hz a0 a1_0) R):aq Tryz.prog 115 [a0,.ref 0 0] [.cells [a1_0]] R :=
 aq.oP (bu (cc (ah (bF ha1_0) aD)) cx) (aq.up (ah (bF ha0) (ah (aA _) aD)) (oF [] {mu:=[(1,.one (.obj [.lk .ptr]))],own:=[]} Tryz.f115 h))
def Im(a0:AV)(a1_0:AV):Tree :=
 NZ a1_0<|NZ a1_0<|eA (a1_0.deref.drop 2)<|.call 96 [((a1_0.deref.drop 2).hA),a0] [] fun r1 o1=>NP r1<|.call 95 [.v (.int .u8 114),r1] [] fun r2 o2=>NP r2<|.done 0 [r2] [.cells [a1_0]]
theorem Px(a0:AV)(a1_0:AV)(ha0:LK.has .ptr a0)(ha1_0:LK.has .ptr a1_0)(h:dF 11 (Im a0 a1_0) R):aq Tryz.prog 116 [a0,.ref 0 0] [.cells [a1_0]] R :=
 aq.oP (bu (cc (ah (bF ha1_0) aD)) cx) (aq.up (ah (bF ha0) (ah (aA _) aD)) (oF [] {mu:=[(1,.one (.obj [.lk .ptr]))],own:=[]} Tryz.f116 h))
def KF(a0:AV):Tree :=
 .call 95 [.v (.int .u8 108),a0] [] fun r1 o1=>NP r1<|.call 95 [.v (.int .u8 102),r1] [] fun r2 o2=>NP r2<|.done 0 [r2] []
theorem O3(a0:AV)(ha0:LK.has .ptr a0)(h:dF 6 (KF a0) R):aq Tryz.prog 117 [a0] [] R :=
 uQ (ah (bF ha0) aD) (oQ [] Tryz.f117 h)
def Ma(a0:AV)(a1_0:AV)(a1_1:AV):Tree :=
 .call 96 [a1_0,a0] [] fun r1 o1=>NP r1<|.call 95 [.v (.int .u8 114),r1] [] fun r2 o2=>NP r2<|.call 95 [.v (.int .u8 102),r2] [] fun r3 o3=>NP r3<|.done 0 [r3] [.cells [a1_0,a1_1]]
theorem NQ(a0:AV)(a1_0:AV)(a1_1:AV)(ha0:LK.has .ptr a0)(ha1_0:LK.has .ptr a1_0)(ha1_1:LK.has .ptr a1_1)(h:dF 10 (Ma a0 a1_0 a1_1) R):aq Tryz.prog 118 [a0,.ref 0 0] [.cells [a1_0,a1_1]] R :=
 aq.oP (bu (cc (ah (bF ha1_0) (ah (bF ha1_1) aD))) cx) (aq.up (ah (bF ha0) (ah (aA _) aD)) (oF [] {mu:=[(1,.one (.obj [.lk .ptr,.lk .ptr]))],own:=[]} Tryz.f118 h))
def Jb(a0_0:AV)(a0_1:Int):Tree :=
 .call 55 [.ref 0 0,.sl [[VS (mk [40,114,101,99,32,116,32,40,43,32,49,32,40,42,32,120,32,116,41,41,41])],[VS (mk [40,114,101,99,32,116,32,40,43,32,120,32,40,42,32,116,32,116,41,41,41])],[VS (mk [40,114,101,99,32,116,32,40,43,32,49,32,40,42,32,116,32,40,42,32,120,32,116,41,41,41,41])],[VS (mk [40,114,101,99,32,116,32,40,43,32,49,32,116,41,41])],[VS (mk [40,114,101,99,32,116,32,40,42,32,120,32,40,114,101,99,32,116,49,32,40,43,32,49,32,40,42,32,116,32,116,49,41,41,41,41,41])],[VS (mk [40,114,101,99,32,116,48,32,40,43,32,40,42,32,120,32,121,41,32,40,43,32,116,48,32,40,42,32,116,48,32,116,48,41,41,41,41])],[VS (mk [40,114,101,99,32,116,32,40,43,32,121,32,40,42,32,116,32,40,42,32,116,32,116,41,41,41,41])]]] [.cells [a0_0,VI a0_1]] fun r1 o1=>.ak ((o1.hO)=.cells (o1.hO).cs)<|.ak (aM [.lk .sl,.lk (.int .i64)] ((o1.hO).cs) 0 1 o1.tail)<|NS r1<|.done 0 [VS r1.ag] [.cells [((o1.hO).cs.getD 0 .any),VI (((o1.hO).cs.getD 1 .any).toInt)]]
theorem MF(a0_0:AV)(a0_1:Int)(ha0_0:LK.has .sl a0_0)(h:dF 6 (Jb a0_0 a0_1) R):aq Tryz.prog 119 [.ref 0 0] [.cells [a0_0,VI a0_1]] R :=
 aq.oP (bu (cc (ah (bY ha0_0) (ah (aA _) aD))) cx) (aq.up (ah (aA _) aD) (oF [] {mu:=[(0,.one (.obj [.lk .sl,.lk (.int .i64)]))],own:=[]} Tryz.f119 h))
def K1(a0:ByteArray):Tree :=
 .call 103 [VS a0] [] fun r1 o1=>NP r1<|NP r1<|.test r1.isNil (.done 0 [.v (.pointer none)] []) (.call 153 [r1,.v (.slice none 0 0)] [] fun r2 o2=>NP r2<|NP r2<|.test r2.isNil (.done 0 [.v (.pointer none)] []) (.call 154 [r2] [] fun r3 o3=>NI r3<|.test (decide (r3.toInt>(400:Int))) (.done 0 [.v (.pointer none)] []) (.done 0 [r2] [])))
theorem MI(a0:ByteArray)(h:dF 19 (K1 a0) R):aq Tryz.prog 121 [VS a0] [] R :=
 uQ (ah (aA _) aD) (oQ [] Tryz.f121 h)
def Hv(a0:AV):Tree :=
 .call 154 [a0] [] fun r1 o1=>NI r1<|.test (decide (r1.toInt>(400:Int))) (.done 0 [.cG [VS (mk []),VB false]] []) (.call 160 [a0] [] fun r2 o2=>NS r2<|.call 121 [VS r2.ag] [] fun r3 o3=>NP r3<|NP r3<|.test r3.isNil (.done 0 [.cG [VS (mk []),VB false]] []) (.done 0 [.cG [VS r2.ag,VB true]] []))
theorem OH(a0:AV)(ha0:LK.has .ptr a0)(h:dF 14 (Hv a0) R):aq Tryz.prog 123 [a0] [] R :=
 uQ (ah (bF ha0) aD) (oQ [] Tryz.f123 h)
def Fe(a0_0:AV)(a0_1:Int)(a1:AV)(a2:Int):Tree :=
 .test (decide (a2<=(0:Int))) (NL a1<|.test (decide ((a1.aR.length:Int)>(0:Int))) (.call 32 [.ref 0 0,VI 3] [.cells [a0_0,VI a0_1]] fun r1 o1=>.ak ((o1.hO)=.cells (o1.hO).cs)<|.ak (aM [.lk .sl,.lk (.int .i64)] ((o1.hO).cs) 0 1 o1.tail)<|NI r1<|.test (r1.toInt==(0:Int)) (NL a1<|.call 32 [.ref 0 0,VI (a1.aR.length:Int)] [.cells [((o1.hO).cs.getD 0 .any),VI (((o1.hO).cs.getD 1 .any).toInt)]] fun r2 o2=>.ak ((o2.hO)=.cells (o2.hO).cs)<|.ak (aM [.lk .sl,.lk (.int .i64)] ((o2.hO).cs) 0 1 o2.tail)<|NI r2<|.ak (LK.has .sl a1/\0<=r2.toInt/\r2.toInt<a1.aR.length/\(a1.aR.getD r2.toInt.toNat []).length=1)<|mn (a1.aR.getD r2.toInt.toNat [])<|.done 0 [VS (((a1.aR.getD r2.toInt.toNat []).hA).ag)] [.cells [((o2.hO).cs.getD 0 .any),VI (((o2.hO).cs.getD 1 .any).toInt)]]) (.call 55 [.ref 0 0,.sl [[VS (mk [120])],[VS (mk [49])],[VS (mk [120])],[VS (mk [121])],[VS (mk [48])],[VS (mk [49])]]] [.cells [((o1.hO).cs.getD 0 .any),VI (((o1.hO).cs.getD 1 .any).toInt)]] fun r3 o3=>.ak ((o3.hO)=.cells (o3.hO).cs)<|.ak (aM [.lk .sl,.lk (.int .i64)] ((o3.hO).cs) 0 1 o3.tail)<|NS r3<|.done 0 [VS r3.ag] [.cells [((o3.hO).cs.getD 0 .any),VI (((o3.hO).cs.getD 1 .any).toInt)]])) (.call 55 [.ref 0 0,.sl [[VS (mk [120])],[VS (mk [49])],[VS (mk [120])],[VS (mk [121])],[VS (mk [48])],[VS (mk [49])]]] [.cells [a0_0,VI a0_1]] fun r4 o4=>.ak ((o4.hO)=.cells (o4.hO).cs)<|.ak (aM [.lk .sl,.lk (.int .i64)] ((o4.hO).cs) 0 1 o4.tail)<|NS r4<|.done 0 [VS r4.ag] [.cells [((o4.hO).cs.getD 0 .any),VI (((o4.hO).cs.getD 1 .any).toInt)]])) (.call 32 [.ref 0 0,VI 4] [.cells [a0_0,VI a0_1]] fun r5 o5=>.ak ((o5.hO)=.cells (o5.hO).cs)<|.ak (aM [.lk .sl,.lk (.int .i64)] ((o5.hO).cs) 0 1 o5.tail)<|NI r5<|.test (r5.toInt==(0:Int)) (NL a1<|.test (decide ((a1.aR.length:Int)>(0:Int))) (.call 32 [.ref 0 0,VI 3] [.cells [((o5.hO).cs.getD 0 .any),VI (((o5.hO).cs.getD 1 .any).toInt)]] fun r6 o6=>.ak ((o6.hO)=.cells (o6.hO).cs)<|.ak (aM [.lk .sl,.lk (.int .i64)] ((o6.hO).cs) 0 1 o6.tail)<|NI r6<|.test (r6.toInt==(0:Int)) (NL a1<|.call 32 [.ref 0 0,VI (a1.aR.length:Int)] [.cells [((o6.hO).cs.getD 0 .any),VI (((o6.hO).cs.getD 1 .any).toInt)]] fun r7 o7=>.ak ((o7.hO)=.cells (o7.hO).cs)<|.ak (aM [.lk .sl,.lk (.int .i64)] ((o7.hO).cs) 0 1 o7.tail)<|NI r7<|.ak (LK.has .sl a1/\0<=r7.toInt/\r7.toInt<a1.aR.length/\(a1.aR.getD r7.toInt.toNat []).length=1)<|mn (a1.aR.getD r7.toInt.toNat [])<|.done 0 [VS (((a1.aR.getD r7.toInt.toNat []).hA).ag)] [.cells [((o7.hO).cs.getD 0 .any),VI (((o7.hO).cs.getD 1 .any).toInt)]]) (.call 55 [.ref 0 0,.sl [[VS (mk [120])],[VS (mk [49])],[VS (mk [120])],[VS (mk [121])],[VS (mk [48])],[VS (mk [49])]]] [.cells [((o6.hO).cs.getD 0 .any),VI (((o6.hO).cs.getD 1 .any).toInt)]] fun r8 o8=>.ak ((o8.hO)=.cells (o8.hO).cs)<|.ak (aM [.lk .sl,.lk (.int .i64)] ((o8.hO).cs) 0 1 o8.tail)<|NS r8<|.done 0 [VS r8.ag] [.cells [((o8.hO).cs.getD 0 .any),VI (((o8.hO).cs.getD 1 .any).toInt)]])) (.call 55 [.ref 0 0,.sl [[VS (mk [120])],[VS (mk [49])],[VS (mk [120])],[VS (mk [121])],[VS (mk [48])],[VS (mk [49])]]] [.cells [((o5.hO).cs.getD 0 .any),VI (((o5.hO).cs.getD 1 .any).toInt)]] fun r9 o9=>.ak ((o9.hO)=.cells (o9.hO).cs)<|.ak (aM [.lk .sl,.lk (.int .i64)] ((o9.hO).cs) 0 1 o9.tail)<|NS r9<|.done 0 [VS r9.ag] [.cells [((o9.hO).cs.getD 0 .any),VI (((o9.hO).cs.getD 1 .any).toInt)]])) (.call 32 [.ref 0 0,VI 5] [.cells [((o5.hO).cs.getD 0 .any),VI (((o5.hO).cs.getD 1 .any).toInt)]] fun r10 o10=>.ak ((o10.hO)=.cells (o10.hO).cs)<|.ak (aM [.lk .sl,.lk (.int .i64)] ((o10.hO).cs) 0 1 o10.tail)<|NI r10<|.test (r10.toInt==(0:Int)) (.call 127 [.ref 0 0,a1,VI (IntKind.wrap .i64 (a2-1))] [.cells [((o10.hO).cs.getD 0 .any),VI (((o10.hO).cs.getD 1 .any).toInt)]] fun r11 o11=>.ak ((o11.hO)=.cells (o11.hO).cs)<|.ak (aM [.lk .sl,.lk (.int .i64)] ((o11.hO).cs) 0 1 o11.tail)<|NS r11<|.ak (ae (mk [40,43,32])+ae r11.ag<=9223372036854775807)<|.ak (ae (((mk [40,43,32]):ByteArray)++r11.ag)+ae (mk [32])<=9223372036854775807)<|.call 127 [.ref 0 0,a1,VI (IntKind.wrap .i64 (a2-1))] [.cells [((o11.hO).cs.getD 0 .any),VI (((o11.hO).cs.getD 1 .any).toInt)]] fun r12 o12=>.ak ((o12.hO)=.cells (o12.hO).cs)<|.ak (aM [.lk .sl,.lk (.int .i64)] ((o12.hO).cs) 0 1 o12.tail)<|NS r12<|.ak (ae (((((mk [40,43,32]):ByteArray)++r11.ag):ByteArray)++(mk [32]))+ae r12.ag<=9223372036854775807)<|.ak (ae (((((((mk [40,43,32]):ByteArray)++r11.ag):ByteArray)++(mk [32])):ByteArray)++r12.ag)+ae (mk [41])<=9223372036854775807)<|.done 0 [VS (((((((((mk [40,43,32]):ByteArray)++r11.ag):ByteArray)++(mk [32])):ByteArray)++r12.ag):ByteArray)++(mk [41]))] [.cells [((o12.hO).cs.getD 0 .any),VI (((o12.hO).cs.getD 1 .any).toInt)]]) (.test (r10.toInt==(1:Int)) (.call 127 [.ref 0 0,a1,VI (IntKind.wrap .i64 (a2-1))] [.cells [((o10.hO).cs.getD 0 .any),VI (((o10.hO).cs.getD 1 .any).toInt)]] fun r13 o13=>.ak ((o13.hO)=.cells (o13.hO).cs)<|.ak (aM [.lk .sl,.lk (.int .i64)] ((o13.hO).cs) 0 1 o13.tail)<|NS r13<|.ak (ae (mk [40,43,32])+ae r13.ag<=9223372036854775807)<|.ak (ae (((mk [40,43,32]):ByteArray)++r13.ag)+ae (mk [32])<=9223372036854775807)<|.call 127 [.ref 0 0,a1,VI (IntKind.wrap .i64 (a2-1))] [.cells [((o13.hO).cs.getD 0 .any),VI (((o13.hO).cs.getD 1 .any).toInt)]] fun r14 o14=>.ak ((o14.hO)=.cells (o14.hO).cs)<|.ak (aM [.lk .sl,.lk (.int .i64)] ((o14.hO).cs) 0 1 o14.tail)<|NS r14<|.ak (ae (((((mk [40,43,32]):ByteArray)++r13.ag):ByteArray)++(mk [32]))+ae r14.ag<=9223372036854775807)<|.ak (ae (((((((mk [40,43,32]):ByteArray)++r13.ag):ByteArray)++(mk [32])):ByteArray)++r14.ag)+ae (mk [41])<=9223372036854775807)<|.done 0 [VS (((((((((mk [40,43,32]):ByteArray)++r13.ag):ByteArray)++(mk [32])):ByteArray)++r14.ag):ByteArray)++(mk [41]))] [.cells [((o14.hO).cs.getD 0 .any),VI (((o14.hO).cs.getD 1 .any).toInt)]]) (.test (r10.toInt==(2:Int)) (.call 127 [.ref 0 0,a1,VI (IntKind.wrap .i64 (a2-1))] [.cells [((o10.hO).cs.getD 0 .any),VI (((o10.hO).cs.getD 1 .any).toInt)]] fun r15 o15=>.ak ((o15.hO)=.cells (o15.hO).cs)<|.ak (aM [.lk .sl,.lk (.int .i64)] ((o15.hO).cs) 0 1 o15.tail)<|NS r15<|.ak (ae (mk [40,42,32])+ae r15.ag<=9223372036854775807)<|.ak (ae (((mk [40,42,32]):ByteArray)++r15.ag)+ae (mk [32])<=9223372036854775807)<|.call 127 [.ref 0 0,a1,VI (IntKind.wrap .i64 (a2-1))] [.cells [((o15.hO).cs.getD 0 .any),VI (((o15.hO).cs.getD 1 .any).toInt)]] fun r16 o16=>.ak ((o16.hO)=.cells (o16.hO).cs)<|.ak (aM [.lk .sl,.lk (.int .i64)] ((o16.hO).cs) 0 1 o16.tail)<|NS r16<|.ak (ae (((((mk [40,42,32]):ByteArray)++r15.ag):ByteArray)++(mk [32]))+ae r16.ag<=9223372036854775807)<|.ak (ae (((((((mk [40,42,32]):ByteArray)++r15.ag):ByteArray)++(mk [32])):ByteArray)++r16.ag)+ae (mk [41])<=9223372036854775807)<|.done 0 [VS (((((((((mk [40,42,32]):ByteArray)++r15.ag):ByteArray)++(mk [32])):ByteArray)++r16.ag):ByteArray)++(mk [41]))] [.cells [((o16.hO).cs.getD 0 .any),VI (((o16.hO).cs.getD 1 .any).toInt)]]) (.test (r10.toInt==(3:Int)) (.call 127 [.ref 0 0,a1,VI (IntKind.wrap .i64 (a2-1))] [.cells [((o10.hO).cs.getD 0 .any),VI (((o10.hO).cs.getD 1 .any).toInt)]] fun r17 o17=>.ak ((o17.hO)=.cells (o17.hO).cs)<|.ak (aM [.lk .sl,.lk (.int .i64)] ((o17.hO).cs) 0 1 o17.tail)<|NS r17<|.ak (ae (mk [40,42,32])+ae r17.ag<=9223372036854775807)<|.ak (ae (((mk [40,42,32]):ByteArray)++r17.ag)+ae (mk [32])<=9223372036854775807)<|.call 127 [.ref 0 0,a1,VI (IntKind.wrap .i64 (a2-1))] [.cells [((o17.hO).cs.getD 0 .any),VI (((o17.hO).cs.getD 1 .any).toInt)]] fun r18 o18=>.ak ((o18.hO)=.cells (o18.hO).cs)<|.ak (aM [.lk .sl,.lk (.int .i64)] ((o18.hO).cs) 0 1 o18.tail)<|NS r18<|.ak (ae (((((mk [40,42,32]):ByteArray)++r17.ag):ByteArray)++(mk [32]))+ae r18.ag<=9223372036854775807)<|.ak (ae (((((((mk [40,42,32]):ByteArray)++r17.ag):ByteArray)++(mk [32])):ByteArray)++r18.ag)+ae (mk [41])<=9223372036854775807)<|.done 0 [VS (((((((((mk [40,42,32]):ByteArray)++r17.ag):ByteArray)++(mk [32])):ByteArray)++r18.ag):ByteArray)++(mk [41]))] [.cells [((o18.hO).cs.getD 0 .any),VI (((o18.hO).cs.getD 1 .any).toInt)]]) (.call 55 [.ref 0 0,.sl [[VS (mk [116])],[VS (mk [116,49])],[VS (mk [116,48])]]] [.cells [((o10.hO).cs.getD 0 .any),VI (((o10.hO).cs.getD 1 .any).toInt)]] fun r19 o19=>.ak ((o19.hO)=.cells (o19.hO).cs)<|.ak (aM [.lk .sl,.lk (.int .i64)] ((o19.hO).cs) 0 1 o19.tail)<|NS r19<|.ak (ae (mk [40,114,101,99,32])+ae r19.ag<=9223372036854775807)<|.ak (ae (((mk [40,114,101,99,32]):ByteArray)++r19.ag)+ae (mk [32,40,43,32,49,32])<=9223372036854775807)<|.call 143 [a1,VS r19.ag] [] fun r20 o20=>NL r20<|.call 127 [.ref 0 0,r20,VI (IntKind.wrap .i64 (a2-1))] [.cells [((o19.hO).cs.getD 0 .any),VI (((o19.hO).cs.getD 1 .any).toInt)]] fun r21 o21=>.ak ((o21.hO)=.cells (o21.hO).cs)<|.ak (aM [.lk .sl,.lk (.int .i64)] ((o21.hO).cs) 0 1 o21.tail)<|NS r21<|.ak (ae (((((mk [40,114,101,99,32]):ByteArray)++r19.ag):ByteArray)++(mk [32,40,43,32,49,32]))+ae r21.ag<=9223372036854775807)<|.ak (ae (((((((mk [40,114,101,99,32]):ByteArray)++r19.ag):ByteArray)++(mk [32,40,43,32,49,32])):ByteArray)++r21.ag)+ae (mk [41,41])<=9223372036854775807)<|.done 0 [VS (((((((((mk [40,114,101,99,32]):ByteArray)++r19.ag):ByteArray)++(mk [32,40,43,32,49,32])):ByteArray)++r21.ag):ByteArray)++(mk [41,41]))] [.cells [((o21.hO).cs.getD 0 .any),VI (((o21.hO).cs.getD 1 .any).toInt)]]))))))
theorem LY(a0_0:AV)(a0_1:Int)(a1:AV)(a2:Int)(ha1:LK.has .sl a1)(ha0_0:LK.has .sl a0_0)(h:dF 82 (Fe a0_0 a0_1 a1 a2) R):aq Tryz.prog 127 [.ref 0 0,a1,VI a2] [.cells [a0_0,VI a0_1]] R :=
 aq.oP (bu (cc (ah (bY ha0_0) (ah (aA _) aD))) cx) (aq.up (ah (aA _) (ah (bY ha1) (ah (aA _) aD))) (oF [] {mu:=[(0,.one (.obj [.lk .sl,.lk (.int .i64)]))],own:=[]} Tryz.f127 h))
def Bw(a0_0:ByteArray)(a0_1:AV)(a1:AV):Tree :=
 .call 90 [.agg [VS a0_0,a0_1]] [] fun r1 o1=>NS r1<|.test (ac r1.ag==ac (mk [43])) (NG a0_1 1 2<|NE (a0_1.ix (1:Int))<|.call 128 [.agg [VS (((a0_1.ix (1:Int)).getD 0 .any).ag),((a0_1.ix (1:Int)).getD 1 .any)],a1] [] fun r2 o2=>NB r2<|.test r2.toBool (NG a0_1 2 2<|NE (a0_1.ix (2:Int))<|.call 128 [.agg [VS (((a0_1.ix (2:Int)).getD 0 .any).ag),((a0_1.ix (2:Int)).getD 1 .any)],a1] [] fun r3 o3=>NB r3<|.done 0 [VB r3.toBool] []) (.done 0 [VB false] [])) (.test (ac r1.ag==ac (mk [42])) (NG a0_1 1 2<|NE (a0_1.ix (1:Int))<|.call 128 [.agg [VS (((a0_1.ix (1:Int)).getD 0 .any).ag),((a0_1.ix (1:Int)).getD 1 .any)],a1] [] fun r4 o4=>NB r4<|.test r4.toBool (.done 0 [VB true] []) (NG a0_1 2 2<|NE (a0_1.ix (2:Int))<|.call 128 [.agg [VS (((a0_1.ix (2:Int)).getD 0 .any).ag),((a0_1.ix (2:Int)).getD 1 .any)],a1] [] fun r5 o5=>NB r5<|.done 0 [VB r5.toBool] [])) (.test (ac r1.ag==ac (mk [114,101,99])) (NG a0_1 2 2<|NE (a0_1.ix (2:Int))<|NG a0_1 1 2<|mn (a0_1.ix (1:Int))<|.call 143 [a1,VS (((a0_1.ix (1:Int)).hA).ag)] [] fun r6 o6=>NL r6<|.call 128 [.agg [VS (((a0_1.ix (2:Int)).getD 0 .any).ag),((a0_1.ix (2:Int)).getD 1 .any)],r6] [] fun r7 o7=>NB r7<|.done 0 [VB r7.toBool] []) (.test (ac a0_0==ac (mk [48])) (.done 0 [VB true] []) (.call 142 [a1,VS a0_0] [] fun r8 o8=>NB r8<|.done 0 [VB r8.toBool] []))))
theorem CM(a0_0:ByteArray)(a0_1:AV)(a1:AV)(ha0_1:LK.has .sl a0_1)(ha1:LK.has .sl a1)(h:dF 62 (Bw a0_0 a0_1 a1) R):aq Tryz.prog 128 [.agg [VS a0_0,a0_1],a1] [] R :=
 uQ (ah (cr (ah (aA _) (ah (bY ha0_1) aD))) (ah (bY ha1) aD)) (oQ [] Tryz.f128 h)
def GM:LI:={hd:={cd:=[(3,.k (.int .i64)),(4,.k (.int .i64))],refs:=[(1,1)],cm:=[(1,[.lk .str,.lk .sl])]},xs:={cd:=[(3,.k (.int .i64))]},rt:={},ex:=0}
def Ix:Code:=cY (cQ Tryz.f129) 5
def J7:List (Nat×LI):=[(5,GM)]
def GF(a0_0:ByteArray)(a0_1:AV):Tree :=
 .test (!(ac a0_0==ac (mk []))) (.done 0 [VI 1] []) (.loop Ix GM [VI 0,VI 0] [.cells [VS a0_0,a0_1]] (fun y2 q2=>NI (y2.hA)<|.done 0 [VI ((y2.hA).toInt)] []) (fun y2 q2=>.done 0 [.any] []))
theorem LX(a0_0:ByteArray)(a0_1:AV)(ha0_1:LK.has .sl a0_1)(h:dF 24 (GF a0_0 a0_1) R):aq Tryz.prog 129 [.agg [VS a0_0,a0_1]] [] R :=
 uQ (ah (cr (ah (aA _) (ah (bY ha0_1) aD))) aD) (oQ J7 Tryz.f129 h)
def GL(x3:Int)(x4:Int)(o1_0:ByteArray)(o1_1:AV):Tree :=
 NI (VI x3)<|NI (VI x4)<|.ak (Ob.cells [VS o1_0,o1_1]=.cells [VS o1_0,o1_1])<|.ak (af [.lk .str,.lk .sl] [VS o1_0,o1_1] 0 [])<|NL o1_1<|.test (decide (x4<(o1_1.aR.length:Int))) (NG o1_1 x4 2<|NE (o1_1.ix x4)<|.call 129 [.agg [VS (((o1_1.ix x4).getD 0 .any).ag),((o1_1.ix x4).getD 1 .any)]] [] fun r1 o1=>NI r1<|.done 0 [VI (IntKind.wrap .i64 (x3+r1.toInt)),VI (IntKind.wrap .i64 (x4+1))] [.cells [VS o1_0,o1_1]]) (.done 1 [VI x3] [])
abbrev Fj:=cH Tryz.prog 24 Ix GM
theorem K7(x3:Int)(x4:Int)(o1_0:ByteArray)(o1_1:AV)(h:l8 24 (GL x3 x4 o1_0 o1_1) Fj U):Fj [VI x3,VI x4] [.cells [VS o1_0,o1_1]] U :=
 gQ J7 h
def HQ(a0_0:ByteArray)(a0_1:AV):Tree :=
 NG a0_1 1 2<|mn (a0_1.ix (1:Int))<|NG a0_1 2 2<|NE (a0_1.ix (2:Int))<|.call 162 [.agg [VS (((a0_1.ix (2:Int)).getD 0 .any).ag),((a0_1.ix (2:Int)).getD 1 .any)],VS (((a0_1.ix (1:Int)).hA).ag),.agg [VS a0_0,a0_1]] [] fun r1 o1=>NB r1<|.test (!r1.toBool) (.done 0 [.cG [.agg [VS a0_0,a0_1],VB false]] []) (NG a0_1 2 2<|NE (a0_1.ix (2:Int))<|.call 163 [.agg [VS (((a0_1.ix (2:Int)).getD 0 .any).ag),((a0_1.ix (2:Int)).getD 1 .any)],VS (((a0_1.ix (1:Int)).hA).ag),.agg [VS a0_0,a0_1]] [] fun r2 o2=>NA r2<|.done 0 [.cG [.agg [VS ((r2.cs.getD 0 .any).ag),(r2.cs.getD 1 .any)],VB true]] [])
theorem N9(a0_0:ByteArray)(a0_1:AV)(ha0_1:LK.has .sl a0_1)(h:dF 26 (HQ a0_0 a0_1) R):aq Tryz.prog 130 [.agg [VS a0_0,a0_1]] [] R :=
 uQ (ah (cr (ah (aA _) (ah (bY ha0_1) aD))) aD) (oQ [] Tryz.f130 h)
def GX:LI:={hd:={cd:=[(1,.k .sl),(2,.k .sl),(9,.k (.int .i64))],refs:=[(4,4),(8,8)],cm:=[(4,[.lk .str,.lk .sl]),(8,[.lk .str,.lk .sl]),(0,[.vec 1,.lk (.int .i64)])]},xs:={refs:=[(4,4),(8,8)],cm:=[(4,[.lk .str,.lk .sl]),(8,[.lk .str,.lk .sl]),(0,[.vec 1,.lk (.int .i64)])]},rt:={refs:=[(8,8)],cm:=[(8,[.lk .str,.lk .sl]),(0,[.vec 1,.lk (.int .i64)])]},ex:=0,fx:=[0]}
def IQ:Code:=cY (cQ Tryz.f131) 3
def Ft:LI:={hd:={cd:=[(1,.k .sl),(2,.k .sl),(10,.k .str)],refs:=[(3,0),(4,4),(8,8)],cm:=[(0,[.vec 1,.lk (.int .i64)]),(4,[.lk .str,.lk .sl]),(8,[.lk .str,.lk .sl])]},xs:={cd:=[(1,.k .sl),(2,.k .sl),(10,.k .str)],refs:=[(3,0),(4,4),(8,8)],cm:=[(0,[.vec 1,.lk (.int .i64)]),(4,[.lk .str,.lk .sl]),(8,[.lk .str,.lk .sl])]},rt:={cm:=[(0,[.vec 1,.lk (.int .i64)])]},ex:=2,fx:=[0]}
def Ks:Code:=cY (cQ Tryz.f131) 10
def Gz:List (Nat×LI):=[(3,GX),(10,Ft)]
def Bm(a0_0:ByteArray)(a0_1:AV)(a1:AV)(a2:AV)(e3_0:List (List AV))(a3_1:Int):Tree :=
 .test (!(ac a0_0==ac (mk []))) (NL a1<|.loop IQ GX [a1,a2,VI (IntKind.wrap .i64 ((a1.aR.length:Int)-1))] [.cells [VS a0_0,a0_1],.cells [VS (mk []),.v (.slice none 0 0)],.cells [.any,VI a3_1],.vec 1 e3_0] (fun y1 q1=>.ak ((q1.hO)=.cells (q1.hO).cs)<|.ak (af [.lk .str,.lk .sl] ((q1.hO).cs) 0 q1.tail)<|.ak (((q1.tail.drop 0).hO)=.cells ((q1.tail.drop 0).hO).cs)<|.ak (af [.lk .str,.lk .sl] (((q1.tail.drop 0).hO).cs) 0 ((q1.tail.drop 0).tail))<|.ak ((((q1.tail.drop 0).tail.drop 0).hO)=.cells (((q1.tail.drop 0).tail.drop 0).hO).cs)<|.ak (af [.vec 1,.lk (.int .i64)] ((((q1.tail.drop 0).tail.drop 0).hO).cs) 0 (((q1.tail.drop 0).tail.drop 0).tail))<|.done 0 [.agg [VS (((q1.hO).cs.getD 0 .any).ag),((q1.hO).cs.getD 1 .any)]] [.cells [.vec 1,VI (((q1.tail.tail.hO).cs.getD 1 .any).toInt)],.vec 1 ((q1.tail.tail.tail.hO).es)]) (fun y1 q1=>.ak ((q1.hO)=.cells (q1.hO).cs)<|.ak (af [.lk .str,.lk .sl] ((q1.hO).cs) 0 q1.tail)<|.ak (((q1.tail.drop 0).hO)=.cells ((q1.tail.drop 0).hO).cs)<|.ak (af [.vec 1,.lk (.int .i64)] (((q1.tail.drop 0).hO).cs) 0 ((q1.tail.drop 0).tail))<|.done 0 [.agg [VS (((q1.hO).cs.getD 0 .any).ag),((q1.hO).cs.getD 1 .any)]] [.cells [.vec 1,VI (((q1.tail.hO).cs.getD 1 .any).toInt)],.vec 1 ((q1.tail.tail.hO).es)])) (.call 90 [.agg [VS a0_0,a0_1]] [] fun r2 o2=>NS r2<|.test (ac r2.ag==ac (mk [114,101,99])) (.call 54 [VI a3_1] [] fun r3 o3=>NS r3<|.ak (ae (mk [116])+ae r3.ag<=9223372036854775807)<|.loop Ks Ft [a1,a2,VS (((mk [116]):ByteArray)++r3.ag)] [.cells [.any,VI a3_1],.vec 1 e3_0,.cells [VS a0_0,a0_1],.cells [VS (mk []),.v (.slice none 0 0)]] (fun y6 q6=>NL (y6.hA)<|NL (y6.tail.hA)<|NS (y6.tail.tail.hA)<|.ak ((q6.hO)=.cells (q6.hO).cs)<|.ak (af [.vec 1,.lk (.int .i64)] ((q6.hO).cs) 0 q6.tail)<|.ak (((q6.tail.drop 1).hO)=.cells ((q6.tail.drop 1).hO).cs)<|.ak (af [.lk .str,.lk .sl] (((q6.tail.drop 1).hO).cs) 0 ((q6.tail.drop 1).tail))<|.ak ((((q6.tail.drop 1).tail.drop 0).hO)=.cells (((q6.tail.drop 1).tail.drop 0).hO).cs)<|.ak (af [.lk .str,.lk .sl] ((((q6.tail.drop 1).tail.drop 0).hO).cs) 0 (((q6.tail.drop 1).tail.drop 0).tail))<|NG ((q6.tail.tail.hO).cs.getD 1 .any) 2 2<|NE (((q6.tail.tail.hO).cs.getD 1 .any).ix (2:Int))<|NG ((q6.tail.tail.hO).cs.getD 1 .any) 1 2<|mn (((q6.tail.tail.hO).cs.getD 1 .any).ix (1:Int))<|.call 143 [(y6.hA),VS (((((q6.tail.tail.hO).cs.getD 1 .any).ix (1:Int)).hA).ag)] [] fun r7 o7=>NL r7<|.call 143 [(y6.tail.hA),VS ((y6.tail.tail.hA).ag)] [] fun r8 o8=>NL r8<|.call 131 [.agg [VS (((((q6.tail.tail.hO).cs.getD 1 .any).ix (2:Int)).getD 0 .any).ag),((((q6.tail.tail.hO).cs.getD 1 .any).ix (2:Int)).getD 1 .any)],r7,r8,.ref 0 0] [.cells [.vec 1,VI (IntKind.wrap .i64 ((((q6.hO).cs.getD 1 .any).toInt)+1))],.vec 1 ((q6.tail.hO).es)] fun r9 o9=>.ak ((o9.hO)=.cells (o9.hO).cs)<|.ak (aM [.vec 1,.lk (.int .i64)] ((o9.hO).cs) 0 1 o9.tail)<|NA r9<|.call 69 [VS (mk [114,101,99]),.sl [[VS ((y6.tail.tail.hA).ag),.v (.slice none 0 0)],[VS ((r9.cs.getD 0 .any).ag),(r9.cs.getD 1 .any)]]] [] fun r10 o10=>NA r10<|.done 0 [.agg [VS ((r10.cs.getD 0 .any).ag),(r10.cs.getD 1 .any)]] [.cells [.vec 1,VI (((o9.hO).cs.getD 1 .any).toInt)],.vec 1 ((o9.tail.hO).es)]) (fun y6 q6=>.ak ((q6.hO)=.cells (q6.hO).cs)<|.ak (af [.vec 1,.lk (.int .i64)] ((q6.hO).cs) 0 q6.tail)<|.fail)) (NG a0_1 1 2<|NE (a0_1.ix (1:Int))<|.call 131 [.agg [VS (((a0_1.ix (1:Int)).getD 0 .any).ag),((a0_1.ix (1:Int)).getD 1 .any)],a1,a2,.ref 0 0] [.cells [.vec 1,VI a3_1],.vec 1 e3_0] fun r11 o11=>.ak ((o11.hO)=.cells (o11.hO).cs)<|.ak (aM [.vec 1,.lk (.int .i64)] ((o11.hO).cs) 0 1 o11.tail)<|NA r11<|.call 90 [.agg [VS a0_0,a0_1]] [] fun r12 o12=>NS r12<|NG a0_1 2 2<|NE (a0_1.ix (2:Int))<|.call 131 [.agg [VS (((a0_1.ix (2:Int)).getD 0 .any).ag),((a0_1.ix (2:Int)).getD 1 .any)],a1,a2,.ref 0 0] [.cells [.vec 1,VI (((o11.hO).cs.getD 1 .any).toInt)],.vec 1 ((o11.tail.hO).es)] fun r13 o13=>.ak ((o13.hO)=.cells (o13.hO).cs)<|.ak (aM [.vec 1,.lk (.int .i64)] ((o13.hO).cs) 0 1 o13.tail)<|NA r13<|.call 69 [VS r12.ag,.sl [[VS ((r11.cs.getD 0 .any).ag),(r11.cs.getD 1 .any)],[VS ((r13.cs.getD 0 .any).ag),(r13.cs.getD 1 .any)]]] [] fun r14 o14=>NA r14<|.done 0 [.agg [VS ((r14.cs.getD 0 .any).ag),(r14.cs.getD 1 .any)]] [.cells [.vec 1,VI (((o13.hO).cs.getD 1 .any).toInt)],.vec 1 ((o13.tail.hO).es)]))
theorem Dl(a0_0:ByteArray)(a0_1:AV)(a1:AV)(a2:AV)(e3_0:List (List AV))(a3_1:Int)(ha0_1:LK.has .sl a0_1)(ha1:LK.has .sl a1)(ha2:LK.has .sl a2)(h:dF 113 (Bm a0_0 a0_1 a1 a2 e3_0 a3_1) R):aq Tryz.prog 131 [.agg [VS a0_0,a0_1],a1,a2,.ref 0 0] [.cells [.vec 1,VI a3_1],.vec 1 e3_0] R :=
 aq.oP (bu (cc (ah (aA _) (ah (aA _) aD))) (bu (gq _) cx)) (aq.up (ah (cr (ah (aA _) (ah (bY ha0_1) aD))) (ah (bY ha1) (ah (bY ha2) (ah (aA _) aD)))) (oF Gz {mu:=[(3,.one (.obj [.vec 1,.lk (.int .i64)]))],own:=[]} Tryz.f131 h))
def Gg(x1:AV)(x2:AV)(x9:Int)(o4_0:ByteArray)(o4_1:AV)(o8_0:ByteArray)(o8_1:AV)(o0_0:List (List AV))(o0_1:Int):Tree :=
 NL x1<|NL x2<|NI (VI x9)<|.ak (Ob.cells [VS o4_0,o4_1]=.cells [VS o4_0,o4_1])<|.ak (af [.lk .str,.lk .sl] [VS o4_0,o4_1] 0 [.cells [VS o8_0,o8_1],.cells [.any,VI o0_1],.vec 1 o0_0])<|.ak (Ob.cells [VS o8_0,o8_1]=.cells [VS o8_0,o8_1])<|.ak (af [.lk .str,.lk .sl] [VS o8_0,o8_1] 0 [.cells [.any,VI o0_1],.vec 1 o0_0])<|.ak (Ob.cells [.any,VI o0_1]=.cells [.any,VI o0_1])<|.ak (af [.vec 1,.lk (.int .i64)] [.any,VI o0_1] 0 [.vec 1 o0_0])<|.test (decide (x9≥(0:Int))) (NG x1 x9 1<|mn (x1.ix x9)<|.test (ac (((x1.ix x9).hA).ag)==ac o4_0) (NG x2 x9 1<|mn (x2.ix x9)<|.done 2 [] [.cells [VS (((x2.ix x9).hA).ag),.v (.slice none 0 0)],.cells [.any,VI o0_1],.vec 1 o0_0]) (.done 0 [x1,x2,VI (IntKind.wrap .i64 (x9-1))] [.cells [VS o4_0,o4_1],.cells [VS o8_0,o8_1],.cells [.any,VI o0_1],.vec 1 o0_0])) (.done 1 [] [.cells [VS o4_0,o4_1],.cells [VS o8_0,o8_1],.cells [.any,VI o0_1],.vec 1 o0_0])
abbrev Gc:=cH Tryz.prog 113 IQ GX
theorem Lv(x1:AV)(x2:AV)(x9:Int)(o4_0:ByteArray)(o4_1:AV)(o8_0:ByteArray)(o8_1:AV)(o0_0:List (List AV))(o0_1:Int)(h:l8 113 (Gg x1 x2 x9 o4_0 o4_1 o8_0 o8_1 o0_0 o0_1) Gc U):Gc [x1,x2,VI x9] [.cells [VS o4_0,o4_1],.cells [VS o8_0,o8_1],.cells [.any,VI o0_1],.vec 1 o0_0] U :=
 gQ Gz h
def HM(x1:AV)(x2:AV)(x10:ByteArray)(o0_0:List (List AV))(o0_1:Int)(o4_0:ByteArray)(o4_1:AV)(o8_0:ByteArray)(o8_1:AV):Tree :=
 NL x1<|NL x2<|NS (VS x10)<|.ak (Ob.cells [.any,VI o0_1]=.cells [.any,VI o0_1])<|.ak (af [.vec 1,.lk (.int .i64)] [.any,VI o0_1] 0 [.vec 1 o0_0,.cells [VS o4_0,o4_1],.cells [VS o8_0,o8_1]])<|.ak (Ob.cells [VS o4_0,o4_1]=.cells [VS o4_0,o4_1])<|.ak (af [.lk .str,.lk .sl] [VS o4_0,o4_1] 0 [.cells [VS o8_0,o8_1]])<|.ak (Ob.cells [VS o8_0,o8_1]=.cells [VS o8_0,o8_1])<|.ak (af [.lk .str,.lk .sl] [VS o8_0,o8_1] 0 [])<|.call 142 [.sl o0_0,VS x10] [] fun r1 o1=>NB r1<|.test r1.toBool (.call 54 [VI (IntKind.wrap .i64 (o0_1+1))] [] fun r2 o2=>NS r2<|.ak (ae (mk [116])+ae r2.ag<=9223372036854775807)<|.done 0 [x1,x2,VS (((mk [116]):ByteArray)++r2.ag)] [.cells [.any,VI (IntKind.wrap .i64 (o0_1+1))],.vec 1 o0_0,.cells [VS o4_0,o4_1],.cells [VS o8_0,o8_1]]) (.done 1 [x1,x2,VS x10] [.cells [.any,VI o0_1],.vec 1 o0_0,.cells [VS o4_0,o4_1],.cells [VS o8_0,o8_1]])
abbrev EZ:=cH Tryz.prog 113 Ks Ft
theorem Na(x1:AV)(x2:AV)(x10:ByteArray)(o0_0:List (List AV))(o0_1:Int)(o4_0:ByteArray)(o4_1:AV)(o8_0:ByteArray)(o8_1:AV)(h:l8 113 (HM x1 x2 x10 o0_0 o0_1 o4_0 o4_1 o8_0 o8_1) EZ U):EZ [x1,x2,VS x10] [.cells [.any,VI o0_1],.vec 1 o0_0,.cells [VS o4_0,o4_1],.cells [VS o8_0,o8_1]] U :=
 gQ Gz h
def Kt(a0:AV):Tree :=
 .call 165 [a0] [] fun r1 o1=>NL r1<|.call 164 [r1,.v (.func (.func 166) #[] #[])] [] fun r2 o2=>NB r2<|.done 0 [VB (!r2.toBool)] []
theorem N4(a0:AV)(ha0:LK.has .ptr a0)(h:dF 7 (Kt a0) R):aq Tryz.prog 132 [a0] [] R :=
 uQ (ah (bF ha0) aD) (oQ [] Tryz.f132 h)
def FE:LI:={hd:={cd:=[(3,.k .ptr),(10,.k (.int .i64)),(11,.k (.int .i64))]},xs:={cd:=[(3,.k .ptr)]},rt:={},ex:=0}
def Lg:Code:=cY (cQ Tryz.f133) 3
def Kc:List (Nat×LI):=[(3,FE)]
def EK(a0_0:AV)(a0_1:AV):Tree :=
 NZ a0_0<|NZ a0_0<|.ak (LK.has (.int .i64) ((a0_0.deref.drop 2).hA)/\1<=(a0_0.deref.drop 2).length)<|.loop Lg FE [a0_1,VI (((a0_0.deref.drop 2).hA).toInt),VI 0] [] (fun y1 q1=>NP (y1.hA)<|NZ (y1.hA)<|NZ (y1.hA)<|.ak (LK.has .ptr ((y1.hA).deref.hA)/\1<=((y1.hA).deref).length)<|.done 0 [((y1.hA).deref.hA)] []) (fun y1 q1=>.done 0 [.any] [])
theorem KU(a0_0:AV)(a0_1:AV)(ha0_0:LK.has .ptr a0_0)(ha0_1:LK.has .ptr a0_1)(h:dF 22 (EK a0_0 a0_1) R):aq Tryz.prog 133 [.agg [a0_0,a0_1]] [] R :=
 uQ (ah (cr (ah (bF ha0_0) (ah (bF ha0_1) aD))) aD) (oQ Kc Tryz.f133 h)
def zZ(x3:AV)(x10:Int)(x11:Int):Tree :=
 NP x3<|NI (VI x10)<|NI (VI x11)<|.test (decide (x11<x10)) (NZ x3<|NZ x3<|eA (x3.deref.drop 1)<|.done 0 [((x3.deref.drop 1).hA),VI x10,VI (IntKind.wrap .i64 (x11+1))] []) (.done 1 [x3] [])
abbrev CV:=cH Tryz.prog 22 Lg FE
theorem Cg(x3:AV)(x10:Int)(x11:Int)(h:l8 22 (zZ x3 x10 x11) CV U):CV [x3,VI x10,VI x11] [] U :=
 gQ Kc h
def ww(a0_0:ByteArray)(a0_1:AV):Tree :=
 .test (!(ac a0_0==ac (mk []))) (.test (ac a0_0==ac (mk [48])) (.done 0 [VB true] []) (.test (ac a0_0==ac (mk [49])) (.done 0 [VB true] []) (.call 100 [VS a0_0] [] fun r1 o1=>NB r1<|.test r1.toBool (.done 0 [VB true] []) (.call 99 [VS a0_0] [] fun r2 o2=>NB r2<|.done 0 [VB r2.toBool] [])))) (NL a0_1<|.test ((a0_1.aR.length:Int) != (3:Int)) (.done 0 [VB false] []) (.call 90 [.agg [VS a0_0,a0_1]] [] fun r3 o3=>NS r3<|.test (ac r3.ag==ac (mk [43])) (NG a0_1 1 2<|NE (a0_1.ix (1:Int))<|.call 136 [.agg [VS (((a0_1.ix (1:Int)).getD 0 .any).ag),((a0_1.ix (1:Int)).getD 1 .any)]] [] fun r4 o4=>NB r4<|.test r4.toBool (NG a0_1 2 2<|NE (a0_1.ix (2:Int))<|.call 136 [.agg [VS (((a0_1.ix (2:Int)).getD 0 .any).ag),((a0_1.ix (2:Int)).getD 1 .any)]] [] fun r5 o5=>NB r5<|.done 0 [VB r5.toBool] []) (.done 0 [VB false] [])) (.test (ac r3.ag==ac (mk [42])) (NG a0_1 1 2<|NE (a0_1.ix (1:Int))<|.call 136 [.agg [VS (((a0_1.ix (1:Int)).getD 0 .any).ag),((a0_1.ix (1:Int)).getD 1 .any)]] [] fun r6 o6=>NB r6<|.test r6.toBool (NG a0_1 2 2<|NE (a0_1.ix (2:Int))<|.call 136 [.agg [VS (((a0_1.ix (2:Int)).getD 0 .any).ag),((a0_1.ix (2:Int)).getD 1 .any)]] [] fun r7 o7=>NB r7<|.done 0 [VB r7.toBool] []) (.done 0 [VB false] [])) (.test (ac r3.ag==ac (mk [114,101,99])) (NG a0_1 1 2<|mn (a0_1.ix (1:Int))<|.call 99 [VS (((a0_1.ix (1:Int)).hA).ag)] [] fun r8 o8=>NB r8<|.test r8.toBool (NG a0_1 2 2<|NE (a0_1.ix (2:Int))<|.call 136 [.agg [VS (((a0_1.ix (2:Int)).getD 0 .any).ag),((a0_1.ix (2:Int)).getD 1 .any)]] [] fun r9 o9=>NB r9<|.done 0 [VB r9.toBool] []) (.done 0 [VB false] [])) (.done 0 [VB false] [])))))
theorem Kb(a0_0:ByteArray)(a0_1:AV)(ha0_1:LK.has .sl a0_1)(h:dF 60 (ww a0_0 a0_1) R):aq Tryz.prog 136 [.agg [VS a0_0,a0_1]] [] R :=
 uQ (ah (cr (ah (aA _) (ah (bY ha0_1) aD))) aD) (oQ [] Tryz.f136 h)
def Gf:LI:={hd:={cd:=[(0,.k .str),(1,.k (.int .i64)),(9,.k (.int .i64))],refs:=[(6,6),(8,8)],cm:=[(6,[.lk .str,.lk .sl]),(8,[.lk .str,.lk .sl])]},xs:={cd:=[(0,.k .str),(1,.k (.int .i64)),(9,.k (.int .i64))],refs:=[(6,6),(8,8)],cm:=[(6,[.lk .str,.lk .sl]),(8,[.lk .str,.lk .sl])]},rt:={},ex:=0}
def K4:Code:=cY (cQ Tryz.f137) 6
def Ff:LI:={hd:={cd:=[(0,.k .str),(1,.k (.int .i64)),(2,.k (.int .i64))],refs:=[(6,6),(8,8)],cm:=[(6,[.lk .str,.lk .sl]),(8,[.lk .str,.vec 2])]},xs:={},rt:={cd:=[(7,.k (.int .i64))],refs:=[(6,6)],cm:=[(6,[.lk .str,.vec 2])]},ex:=999}
def Hq:Code:=cY (cQ Tryz.f137) 12
def GH:List (Nat×LI):=[(6,Gf),(12,Ff)]
def FT(a0:ByteArray)(a1:Int)(a2:Int):Tree :=
 .test (decide (a2>(300:Int))) (.done 0 [.cG [.agg [VS (mk []),.v (.slice none 0 0)],VI (-1)]] []) (.test (decide (a1≥(ae a0:Int))) (.done 0 [.cG [.agg [VS (mk []),.v (.slice none 0 0)],VI (-1)]] []) (.ak (0<=a1/\a1<ae a0)<|.test ((bt a0 a1) != (40:Int)) (.loop K4 Gf [VS a0,VI a1,VI a1] [.cells [VS (mk []),.v (.slice none 0 0)],.cells [VS (mk []),.v (.slice none 0 0)]] (fun y2 q2=>NS (y2.hA)<|NI (y2.tail.hA)<|NI (y2.tail.tail.hA)<|.ak ((q2.hO)=.cells (q2.hO).cs)<|.ak (af [.lk .str,.lk .sl] ((q2.hO).cs) 0 q2.tail)<|.ak (((q2.tail.drop 0).hO)=.cells ((q2.tail.drop 0).hO).cs)<|.ak (af [.lk .str,.lk .sl] (((q2.tail.drop 0).hO).cs) 0 ((q2.tail.drop 0).tail))<|.ak (0<=((y2.tail.tail.hA).toInt)/\((y2.tail.tail.hA).toInt)<=((y2.tail.hA).toInt)/\((y2.tail.hA).toInt)<=(ae ((y2.hA).ag):Int))<|.test (ac (bZ ((y2.hA).ag) (bW ((y2.tail.tail.hA).toInt)) (bW ((y2.tail.hA).toInt)))==ac (mk [])) (.done 0 [.cG [.agg [VS (bZ ((y2.hA).ag) (bW ((y2.tail.tail.hA).toInt)) (bW ((y2.tail.hA).toInt))),((q2.tail.hO).cs.getD 1 .any)],VI (-1)]] []) (.done 0 [.cG [.agg [VS (bZ ((y2.hA).ag) (bW ((y2.tail.tail.hA).toInt)) (bW ((y2.tail.hA).toInt))),((q2.tail.hO).cs.getD 1 .any)],VI ((y2.tail.hA).toInt)]] [])) (fun y2 q2=>.fail)) (.loop Hq Ff [VS a0,VI a1,VI a2] [.cells [VS (mk []),.v (.slice none 0 0)],.cells [VS (mk []),.any],.vec 2 []] (fun y5 q5=>.fail) (fun y5 q5=>NI (y5.hA)<|.ak ((q5.hO)=.cells (q5.hO).cs)<|.ak (af [.lk .str,.vec 2] ((q5.hO).cs) 0 q5.tail)<|.done 0 [.cG [.agg [VS (((q5.hO).cs.getD 0 .any).ag),.sl ((q5.tail.hO).es)],VI ((y5.hA).toInt)]] []))))
theorem Lx(a0:ByteArray)(a1:Int)(a2:Int)(h:dF 87 (FT a0 a1 a2) R):aq Tryz.prog 137 [VS a0,VI a1,VI a2] [] R :=
 uQ (ah (aA _) (ah (aA _) (ah (aA _) aD))) (oQ GH Tryz.f137 h)
def FP(x0:ByteArray)(x1:Int)(x9:Int)(o6_0:ByteArray)(o6_1:AV)(o8_0:ByteArray)(o8_1:AV):Tree :=
 NS (VS x0)<|NI (VI x1)<|NI (VI x9)<|.ak (Ob.cells [VS o6_0,o6_1]=.cells [VS o6_0,o6_1])<|.ak (af [.lk .str,.lk .sl] [VS o6_0,o6_1] 0 [.cells [VS o8_0,o8_1]])<|.ak (Ob.cells [VS o8_0,o8_1]=.cells [VS o8_0,o8_1])<|.ak (af [.lk .str,.lk .sl] [VS o8_0,o8_1] 0 [])<|.test (decide (x1<(ae x0:Int))) (.ak (0<=x1/\x1<ae x0)<|.call 172 [.v (.int .u8 (bt x0 x1))] [] fun r1 o1=>NB r1<|.test r1.toBool (.done 0 [VS x0,VI (IntKind.wrap .i64 (x1+1)),VI x9] [.cells [VS o6_0,o6_1],.cells [VS o8_0,o8_1]]) (.done 1 [VS x0,VI x1,VI x9] [.cells [VS o6_0,o6_1],.cells [VS o8_0,o8_1]])) (.done 1 [VS x0,VI x1,VI x9] [.cells [VS o6_0,o6_1],.cells [VS o8_0,o8_1]])
abbrev EN:=cH Tryz.prog 87 K4 Gf
theorem HL(x0:ByteArray)(x1:Int)(x9:Int)(o6_0:ByteArray)(o6_1:AV)(o8_0:ByteArray)(o8_1:AV)(h:l8 87 (FP x0 x1 x9 o6_0 o6_1 o8_0 o8_1) EN U):EN [VS x0,VI x1,VI x9] [.cells [VS o6_0,o6_1],.cells [VS o8_0,o8_1]] U :=
 gQ GH h
def Jc(x0:ByteArray)(x1:Int)(x2:Int)(o6_0:ByteArray)(o6_1:AV)(o8_0:ByteArray)(o8_1:List (List AV)):Tree :=
 NS (VS x0)<|NI (VI x1)<|NI (VI x2)<|.ak (Ob.cells [VS o6_0,o6_1]=.cells [VS o6_0,o6_1])<|.ak (af [.lk .str,.lk .sl] [VS o6_0,o6_1] 0 [.cells [VS o8_0,.any],.vec 2 o8_1])<|.ak (Ob.cells [VS o8_0,.any]=.cells [VS o8_0,.any])<|.ak (af [.lk .str,.vec 2] [VS o8_0,.any] 0 [.vec 2 o8_1])<|.call 137 [VS x0,VI (IntKind.wrap .i64 (x1+1)),VI (IntKind.wrap .i64 (x2+1))] [] fun r1 o1=>NT r1<|.ak ((r1.comp 0)=.agg (r1.comp 0).cs/\(r1.comp 0).cs.length=2/\bB [.str,.sl] ((r1.comp 0).cs) 0)<|NI (r1.comp 1)<|.test (decide (((r1.comp 1).toInt)<(0:Int))) (.done 2 [VI (-1)] [.cells [VS o8_0,.any],.vec 2 o8_1]) (.test (decide (((r1.comp 1).toInt)≥(ae x0:Int))) (.done 2 [VI (-1)] [.cells [VS o8_0,.any],.vec 2 o8_1]) (.ak (cD 2 [[VS (((r1.comp 0).cs.getD 0 .any).ag),((r1.comp 0).cs.getD 1 .any)]]/\((o8_1.length)+([[VS (((r1.comp 0).cs.getD 0 .any).ag),((r1.comp 0).cs.getD 1 .any)]]:List (List AV)).length)*40<=140737488355328)<|.ak (0<=((r1.comp 1).toInt)/\((r1.comp 1).toInt)<ae x0)<|.test ((bt x0 ((r1.comp 1).toInt))==(41:Int)) (.done 2 [VI (IntKind.wrap .i64 (((r1.comp 1).toInt)+1))] [.cells [VS o8_0,.any],.vec 2 (o8_1++([[VS (((r1.comp 0).cs.getD 0 .any).ag),((r1.comp 0).cs.getD 1 .any)]]:List (List AV)))]) (.ak (0<=((r1.comp 1).toInt)/\((r1.comp 1).toInt)<ae x0)<|.test ((bt x0 ((r1.comp 1).toInt)) != (32:Int)) (.done 2 [VI (-1)] [.cells [VS o8_0,.any],.vec 2 (o8_1++([[VS (((r1.comp 0).cs.getD 0 .any).ag),((r1.comp 0).cs.getD 1 .any)]]:List (List AV)))]) (.done 0 [VS x0,VI ((r1.comp 1).toInt),VI x2] [.cells [VS o6_0,o6_1],.cells [VS o8_0,.any],.vec 2 (o8_1++([[VS (((r1.comp 0).cs.getD 0 .any).ag),((r1.comp 0).cs.getD 1 .any)]]:List (List AV)))]))))
abbrev Gv:=cH Tryz.prog 87 Hq Ff
theorem Mz(x0:ByteArray)(x1:Int)(x2:Int)(o6_0:ByteArray)(o6_1:AV)(o8_0:ByteArray)(o8_1:List (List AV))(h:l8 87 (Jc x0 x1 x2 o6_0 o6_1 o8_0 o8_1) Gv U):Gv [VS x0,VI x1,VI x2] [.cells [VS o6_0,o6_1],.cells [VS o8_0,.any],.vec 2 o8_1] U :=
 gQ GH h
def G5:LI:={hd:={cd:=[(1,.k .sl),(6,.k (.int .i64))],refs:=[(2,2),(4,4)],cm:=[(2,[.lk .str,.lk .sl]),(4,[.lk .str,.lk .sl])]},xs:={cd:=[(1,.k .sl)],refs:=[(2,2),(4,4)],cm:=[(2,[.lk .str,.lk .sl]),(4,[.lk .str,.lk .sl])]},rt:={cd:=[(5,.k .sl)],refs:=[(4,4)],cm:=[(4,[.lk .str,.lk .sl])]},ex:=0}
def L6:Code:=cY (cQ Tryz.f138) 2
def JR:List (Nat×LI):=[(2,G5)]
def HW(a0_0:ByteArray)(a0_1:AV)(a1:AV):Tree :=
 NL a1<|.loop L6 G5 [a1,VI (IntKind.wrap .i64 ((a1.aR.length:Int)-1))] [.cells [VS a0_0,a0_1],.cells [VS (mk []),.v (.slice none 0 0)]] (fun y1 q1=>NL (y1.hA)<|.ak ((q1.hO)=.cells (q1.hO).cs)<|.ak (af [.lk .str,.lk .sl] ((q1.hO).cs) 0 q1.tail)<|.ak (((q1.tail.drop 0).hO)=.cells ((q1.tail.drop 0).hO).cs)<|.ak (af [.lk .str,.lk .sl] (((q1.tail.drop 0).hO).cs) 0 ((q1.tail.drop 0).tail))<|.done 0 [.cG [.agg [VS (((q1.hO).cs.getD 0 .any).ag),((q1.hO).cs.getD 1 .any)],(y1.hA)]] []) (fun y1 q1=>NL (y1.hA)<|.ak ((q1.hO)=.cells (q1.hO).cs)<|.ak (af [.lk .str,.lk .sl] ((q1.hO).cs) 0 q1.tail)<|.done 0 [.cG [.agg [VS (((q1.hO).cs.getD 0 .any).ag),((q1.hO).cs.getD 1 .any)],(y1.hA)]] [])
theorem OP(a0_0:ByteArray)(a0_1:AV)(a1:AV)(ha0_1:LK.has .sl a0_1)(ha1:LK.has .sl a1)(h:dF 34 (HW a0_0 a0_1 a1) R):aq Tryz.prog 138 [.agg [VS a0_0,a0_1],a1] [] R :=
 uQ (ah (cr (ah (aA _) (ah (bY ha0_1) aD))) (ah (bY ha1) aD)) (oQ JR Tryz.f138 h)
def GN(x1:AV)(x6:Int)(o2_0:ByteArray)(o2_1:AV)(o4_0:ByteArray)(o4_1:AV):Tree :=
 NL x1<|NI (VI x6)<|.ak (Ob.cells [VS o2_0,o2_1]=.cells [VS o2_0,o2_1])<|.ak (af [.lk .str,.lk .sl] [VS o2_0,o2_1] 0 [.cells [VS o4_0,o4_1]])<|.ak (Ob.cells [VS o4_0,o4_1]=.cells [VS o4_0,o4_1])<|.ak (af [.lk .str,.lk .sl] [VS o4_0,o4_1] 0 [])<|.test (decide (x6≥(0:Int))) (NG x1 x6 4<|mn (x1.ix x6)<|.test (ac (((x1.ix x6).hA).ag)==ac o2_0) (NG x1 x6 4<|NE ((x1.ix x6).drop 1)<|NG x1 x6 4<|rS ((x1.ix x6).drop 3)<|.done 2 [(((x1.ix x6).drop 3).hA)] [.cells [VS ((((x1.ix x6).drop 1).getD 0 .any).ag),(((x1.ix x6).drop 1).getD 1 .any)]]) (.done 0 [x1,VI (IntKind.wrap .i64 (x6-1))] [.cells [VS o2_0,o2_1],.cells [VS o4_0,o4_1]])) (.done 1 [x1] [.cells [VS o2_0,o2_1],.cells [VS o4_0,o4_1]])
abbrev EQ:=cH Tryz.prog 34 L6 G5
theorem KH(x1:AV)(x6:Int)(o2_0:ByteArray)(o2_1:AV)(o4_0:ByteArray)(o4_1:AV)(h:l8 34 (GN x1 x6 o2_0 o2_1 o4_0 o4_1) EQ U):EQ [x1,VI x6] [.cells [VS o2_0,o2_1],.cells [VS o4_0,o4_1]] U :=
 gQ JR h
def L9(a0_0:ByteArray)(a0_1:AV)(a1:AV):Tree :=
 NG a0_1 2 2<|NE (a0_1.ix (2:Int))<|.ak (LK.has .sl a1/\cD 4 a1.aR/\((([]:List (List AV)).length)+a1.aR.length)*80<=140737488355328)<|NG a0_1 1 2<|mn (a0_1.ix (1:Int))<|.ak (cD 4 [[VS (((a0_1.ix (1:Int)).hA).ag),VS a0_0,a0_1,a1]]/\(((([]:List (List AV))++a1.aR).length)+([[VS (((a0_1.ix (1:Int)).hA).ag),VS a0_0,a0_1,a1]]:List (List AV)).length)*80<=140737488355328)<|.done 0 [.cG [.agg [VS (((a0_1.ix (2:Int)).getD 0 .any).ag),((a0_1.ix (2:Int)).getD 1 .any)],.sl ((([]:List (List AV))++a1.aR)++([[VS (((a0_1.ix (1:Int)).hA).ag),VS a0_0,a0_1,a1]]:List (List AV)))]] []
theorem No(a0_0:ByteArray)(a0_1:AV)(a1:AV)(ha0_1:LK.has .sl a0_1)(ha1:LK.has .sl a1)(h:dF 23 (L9 a0_0 a0_1 a1) R):aq Tryz.prog 139 [.agg [VS a0_0,a0_1],a1] [] R :=
 uQ (ah (cr (ah (aA _) (ah (bY ha0_1) aD))) (ah (bY ha1) aD)) (oQ [] Tryz.f139 h)
def IA(a0:AV)(a1:ByteArray):Tree :=
 .call 157 [.ref 0 0,a0,VS a1] [.cells [VI 0,VB false]] fun r1 o1=>.ak ((o1.hO)=.cells (o1.hO).cs)<|.ak (aM [.lk (.int .i64),.lk .bool] ((o1.hO).cs) 0 1 o1.tail)<|NP r1<|.done 0 [.cG [r1,VB (!(((o1.hO).cs.getD 1 .any).toBool))]] []
theorem M3(a0:AV)(a1:ByteArray)(ha0:LK.has .ptr a0)(h:dF 20 (IA a0 a1) R):aq Tryz.prog 141 [a0,VS a1] [] R :=
 uQ (ah (bF ha0) (ah (aA _) aD)) (oQ [] Tryz.f141 h)
def Gp:LI:={hd:={cd:=[(0,.k .sl),(1,.k .str),(5,.k (.int .i64))]},xs:={},rt:={cd:=[(4,.k .bool)]},ex:=0}
def L8:Code:=cY (cQ Tryz.f142) 2
def Md:List (Nat×LI):=[(2,Gp)]
def HU(a0:AV)(a1:ByteArray):Tree :=
 .loop L8 Gp [a0,VS a1,VI 0] [] (fun y1 q1=>.done 0 [VB false] []) (fun y1 q1=>NB (y1.hA)<|.done 0 [VB ((y1.hA).toBool)] [])
theorem PD(a0:AV)(a1:ByteArray)(ha0:LK.has .sl a0)(h:dF 18 (HU a0 a1) R):aq Tryz.prog 142 [a0,VS a1] [] R :=
 uQ (ah (bY ha0) (ah (aA _) aD)) (oQ Md Tryz.f142 h)
def FL(x0:AV)(x1:ByteArray)(x5:Int):Tree :=
 NL x0<|NS (VS x1)<|NI (VI x5)<|NL x0<|.test (decide (x5<(x0.aR.length:Int))) (NG x0 x5 1<|mn (x0.ix x5)<|.test (ac (((x0.ix x5).hA).ag)==ac x1) (.done 2 [VB true] []) (.done 0 [x0,VS x1,VI (IntKind.wrap .i64 (x5+1))] [])) (.done 1 [] [])
abbrev G9:=cH Tryz.prog 18 L8 Gp
theorem Lh(x0:AV)(x1:ByteArray)(x5:Int)(h:l8 18 (FL x0 x1 x5) G9 U):G9 [x0,VS x1,VI x5] [] U :=
 gQ Md h
def HJ(a0:AV)(a1:ByteArray):Tree :=
 .ak (LK.has .sl a0/\cD 1 a0.aR/\((([]:List (List AV)).length)+a0.aR.length)*16<=140737488355328)<|.ak (cD 1 [[VS a1]]/\(((([]:List (List AV))++a0.aR).length)+([[VS a1]]:List (List AV)).length)*16<=140737488355328)<|.done 0 [.sl ((([]:List (List AV))++a0.aR)++([[VS a1]]:List (List AV)))] []
theorem O9(a0:AV)(a1:ByteArray)(ha0:LK.has .sl a0)(h:dF 11 (HJ a0 a1) R):aq Tryz.prog 143 [a0,VS a1] [] R :=
 uQ (ah (bY ha0) (ah (aA _) aD)) (oQ [] Tryz.f143 h)
def FD:LI:={hd:={cd:=[(0,.k .str),(7,.k (.int .i64))]},xs:={},rt:={cd:=[(6,.k .bool)]},ex:=0}
def LG:Code:=cY (cQ Tryz.f144) 4
def JJ:List (Nat×LI):=[(4,FD)]
def Is(a0:ByteArray)(a1:Int)(a2:Int):Tree :=
 .call 87 [VI (ae a0:Int),VI 1,VI 3] [] fun r1 o1=>NB r1<|.test (!r1.toBool) (.done 0 [VB false] []) (.ak (0<=(0:Int)/\(0:Int)<ae a0)<|.test (decide ((bt a0 0)<a1)) (.done 0 [VB false] []) (.ak (0<=(0:Int)/\(0:Int)<ae a0)<|.test (decide ((bt a0 0)>a2)) (.done 0 [VB false] []) (.loop LG FD [VS a0,VI 1] [] (fun y2 q2=>.done 0 [VB true] []) (fun y2 q2=>NB (y2.hA)<|.done 0 [VB ((y2.hA).toBool)] []))))
theorem Mw(a0:ByteArray)(a1:Int)(a2:Int)(h:dF 40 (Is a0 a1 a2) R):aq Tryz.prog 144 [VS a0,.v (.int .u8 a1),.v (.int .u8 a2)] [] R :=
 uQ (ah (aA _) (ah (aA _) (ah (aA _) aD))) (oQ JJ Tryz.f144 h)
def FB(x0:ByteArray)(x7:Int):Tree :=
 NS (VS x0)<|NI (VI x7)<|.test (decide (x7<(ae x0:Int))) (.ak (0<=x7/\x7<ae x0)<|.test (decide ((bt x0 x7)<(48:Int))) (.done 2 [VB false] []) (.ak (0<=x7/\x7<ae x0)<|.test (decide ((bt x0 x7)>(57:Int))) (.done 2 [VB false] []) (.done 0 [VS x0,VI (IntKind.wrap .i64 (x7+1))] []))) (.done 1 [] [])
abbrev Eo:=cH Tryz.prog 40 LG FD
theorem JZ(x0:ByteArray)(x7:Int)(h:l8 40 (FB x0 x7) Eo U):Eo [VS x0,VI x7] [] U :=
 gQ JJ h
def Ga:LI:={hd:={cd:=[(17,.k (.int .i64))],refs:=[(4,4),(12,12),(14,14)],cm:=[(4,[.lk .str,.lk .sl]),(12,[.lk .str,.lk .sl]),(14,[.lk .str,.lk .sl])],eM:=[(16,1)]},xs:={cd:=[(17,.k (.int .i64))],refs:=[(4,4),(12,12),(14,14)],cm:=[(4,[.lk .str,.lk .sl]),(12,[.lk .str,.lk .sl]),(14,[.lk .str,.lk .sl])]},rt:={},ex:=0}
def H9:Code:=cY (cQ Tryz.f145) 13
def II:List (Nat×LI):=[(13,Ga)]
def Mc(a0_0:ByteArray)(a0_1:AV)(a1:ByteArray):Tree :=
 .call 78 [.agg [VS a0_0,a0_1],.sl [[VS a1,.v (.slice none 0 0)]]] [] fun r1 o1=>NA r1<|NG (r1.cs.getD 1 .any) 1 2<|mn ((r1.cs.getD 1 .any).ix (1:Int))<|NG (r1.cs.getD 1 .any) 2 2<|NE ((r1.cs.getD 1 .any).ix (2:Int))<|.call 101 [.agg [VS ((((r1.cs.getD 1 .any).ix (2:Int)).getD 0 .any).ag),(((r1.cs.getD 1 .any).ix (2:Int)).getD 1 .any)],VS a1] [] fun r2 o2=>NT r2<|.ak ((r2.comp 0)=.agg (r2.comp 0).cs/\(r2.comp 0).cs.length=2/\bB [.str,.sl] ((r2.comp 0).cs) 0)<|NB (r2.comp 1)<|NG (r1.cs.getD 1 .any) 2 2<|NE ((r1.cs.getD 1 .any).ix (2:Int))<|.call 101 [.agg [VS ((((r1.cs.getD 1 .any).ix (2:Int)).getD 0 .any).ag),(((r1.cs.getD 1 .any).ix (2:Int)).getD 1 .any)],VS ((((r1.cs.getD 1 .any).ix (1:Int)).hA).ag)] [] fun r3 o3=>NT r3<|.ak ((r3.comp 0)=.agg (r3.comp 0).cs/\(r3.comp 0).cs.length=2/\bB [.str,.sl] ((r3.comp 0).cs) 0)<|NB (r3.comp 1)<|.test (!((r2.comp 1).toBool)) (.done 0 [.cG [.agg [VS ((r1.cs.getD 0 .any).ag),(r1.cs.getD 1 .any)],VB false]] []) (.test (!((r3.comp 1).toBool)) (.done 0 [.cG [.agg [VS ((r1.cs.getD 0 .any).ag),(r1.cs.getD 1 .any)],VB false]] []) (.call 161 [.agg [VS (((r2.comp 0).cs.getD 0 .any).ag),((r2.comp 0).cs.getD 1 .any)],VS ((((r1.cs.getD 1 .any).ix (1:Int)).hA).ag),.agg [VS ((r1.cs.getD 0 .any).ag),(r1.cs.getD 1 .any)]] [] fun r4 o4=>NT r4<|.ak ((r4.comp 0)=.agg (r4.comp 0).cs/\(r4.comp 0).cs.length=2/\bB [.str,.sl] ((r4.comp 0).cs) 0)<|NB (r4.comp 1)<|.call 161 [.agg [VS (((r3.comp 0).cs.getD 0 .any).ag),((r3.comp 0).cs.getD 1 .any)],VS ((((r1.cs.getD 1 .any).ix (1:Int)).hA).ag),.agg [VS ((r1.cs.getD 0 .any).ag),(r1.cs.getD 1 .any)]] [] fun r5 o5=>NT r5<|.ak ((r5.comp 0)=.agg (r5.comp 0).cs/\(r5.comp 0).cs.length=2/\bB [.str,.sl] ((r5.comp 0).cs) 0)<|NB (r5.comp 1)<|.test (!((r4.comp 1).toBool)) (.done 0 [.cG [.agg [VS ((r1.cs.getD 0 .any).ag),(r1.cs.getD 1 .any)],VB false]] []) (.test (!((r5.comp 1).toBool)) (.done 0 [.cG [.agg [VS ((r1.cs.getD 0 .any).ag),(r1.cs.getD 1 .any)],VB false]] []) (.call 98 [.agg [VS (((r5.comp 0).cs.getD 0 .any).ag),((r5.comp 0).cs.getD 1 .any)],.sl [],.vec 0] [.vec 1 []] fun r6 o6=>.ak (r6=.vec 1/\(o6.tail.hO)=.vec 1 (o6.tail.hO).es)<|.call 98 [.agg [VS (((r4.comp 0).cs.getD 0 .any).ag),((r4.comp 0).cs.getD 1 .any)],.sl [],.vec 0] [.vec 1 ((o6.tail.hO).es)] fun r7 o7=>.ak (r7=.vec 1/\(o7.tail.hO)=.vec 1 (o7.tail.hO).es)<|.loop H9 Ga [VI 0] [.cells [VS (mk []),.v (.slice none 0 0)],.cells [VS (((r4.comp 0).cs.getD 0 .any).ag),((r4.comp 0).cs.getD 1 .any)],.cells [VS (((r5.comp 0).cs.getD 0 .any).ag),((r5.comp 0).cs.getD 1 .any)],.vec 1 ((o7.tail.hO).es)] (fun y10 q10=>NI (y10.hA)<|.ak ((q10.hO)=.cells (q10.hO).cs)<|.ak (af [.lk .str,.lk .sl] ((q10.hO).cs) 0 q10.tail)<|.ak (((q10.tail.drop 0).hO)=.cells ((q10.tail.drop 0).hO).cs)<|.ak (af [.lk .str,.lk .sl] (((q10.tail.drop 0).hO).cs) 0 ((q10.tail.drop 0).tail))<|.ak ((((q10.tail.drop 0).tail.drop 0).hO)=.cells (((q10.tail.drop 0).tail.drop 0).hO).cs)<|.ak (af [.lk .str,.lk .sl] ((((q10.tail.drop 0).tail.drop 0).hO).cs) 0 (((q10.tail.drop 0).tail.drop 0).tail))<|.call 54 [VI ((y10.hA).toInt)] [] fun r11 o11=>NS r11<|.ak (ae (mk [116])+ae r11.ag<=9223372036854775807)<|.call 69 [VS (mk [42]),.sl [[VS (((q10.tail.tail.hO).cs.getD 0 .any).ag),((q10.tail.tail.hO).cs.getD 1 .any)],[VS (((mk [116]):ByteArray)++r11.ag),.v (.slice none 0 0)]]] [] fun r12 o12=>NA r12<|.call 69 [VS (mk [43]),.sl [[VS (((q10.tail.hO).cs.getD 0 .any).ag),((q10.tail.hO).cs.getD 1 .any)],[VS ((r12.cs.getD 0 .any).ag),(r12.cs.getD 1 .any)]]] [] fun r13 o13=>NA r13<|.call 69 [VS (mk [114,101,99]),.sl [[VS (((mk [116]):ByteArray)++r11.ag),.v (.slice none 0 0)],[VS ((r13.cs.getD 0 .any).ag),(r13.cs.getD 1 .any)]]] [] fun r14 o14=>NA r14<|.call 129 [.agg [VS ((r14.cs.getD 0 .any).ag),(r14.cs.getD 1 .any)]] [] fun r15 o15=>NI r15<|.done 0 [.cG [.agg [VS ((r14.cs.getD 0 .any).ag),(r14.cs.getD 1 .any)],VB (decide (r15.toInt<=(400:Int)))]] []) (fun y10 q10=>.fail)))))
theorem Ov(a0_0:ByteArray)(a0_1:AV)(a1:ByteArray)(ha0_1:LK.has .sl a0_1)(h:dF 108 (Mc a0_0 a0_1 a1) R):aq Tryz.prog 145 [.agg [VS a0_0,a0_1],VS a1] [] R :=
 uQ (ah (cr (ah (aA _) (ah (bY ha0_1) aD))) (ah (aA _) aD)) (oQ II Tryz.f145 h)
def KW(x17:Int)(o4_0:ByteArray)(o4_1:AV)(o12_0:ByteArray)(o12_1:AV)(o14_0:ByteArray)(o14_1:AV)(e16:List (List AV)):Tree :=
 NI (VI x17)<|.ak (Ob.cells [VS o4_0,o4_1]=.cells [VS o4_0,o4_1])<|.ak (af [.lk .str,.lk .sl] [VS o4_0,o4_1] 0 [.cells [VS o12_0,o12_1],.cells [VS o14_0,o14_1],.vec 1 e16])<|.ak (Ob.cells [VS o12_0,o12_1]=.cells [VS o12_0,o12_1])<|.ak (af [.lk .str,.lk .sl] [VS o12_0,o12_1] 0 [.cells [VS o14_0,o14_1],.vec 1 e16])<|.ak (Ob.cells [VS o14_0,o14_1]=.cells [VS o14_0,o14_1])<|.ak (af [.lk .str,.lk .sl] [VS o14_0,o14_1] 0 [.vec 1 e16])<|.ak (Ob.vec 1 e16=.vec 1 e16)<|.call 54 [VI x17] [] fun r1 o1=>NS r1<|.ak (ae (mk [116])+ae r1.ag<=9223372036854775807)<|.call 142 [.sl e16,VS (((mk [116]):ByteArray)++r1.ag)] [] fun r2 o2=>NB r2<|.test r2.toBool (.done 0 [VI (IntKind.wrap .i64 (x17+1))] [.cells [VS o4_0,o4_1],.cells [VS o12_0,o12_1],.cells [VS o14_0,o14_1],.vec 1 e16]) (.done 1 [VI x17] [.cells [VS o4_0,o4_1],.cells [VS o12_0,o12_1],.cells [VS o14_0,o14_1]])
abbrev G6:=cH Tryz.prog 108 H9 Ga
theorem NC(x17:Int)(o4_0:ByteArray)(o4_1:AV)(o12_0:ByteArray)(o12_1:AV)(o14_0:ByteArray)(o14_1:AV)(e16:List (List AV))(h:l8 108 (KW x17 o4_0 o4_1 o12_0 o12_1 o14_0 o14_1 e16) G6 U):G6 [VI x17] [.cells [VS o4_0,o4_1],.cells [VS o12_0,o12_1],.cells [VS o14_0,o14_1],.vec 1 e16] U :=
 gQ II h
def L3(a0:ByteArray):Tree :=
 .call 82 [VS a0] [] fun r1 o1=>NT r1<|.ak ((r1.comp 0)=.agg (r1.comp 0).cs/\(r1.comp 0).cs.length=2/\bB [.str,.sl] ((r1.comp 0).cs) 0)<|NB (r1.comp 1)<|.done 0 [VB ((r1.comp 1).toBool)] []
theorem OR(a0:ByteArray)(h:dF 11 (L3 a0) R):aq Tryz.prog 146 [VS a0] [] R :=
 uQ (ah (aA _) aD) (oQ [] Tryz.f146 h)
def GK:LI:={hd:={cd:=[(0,.k .str),(1,.k (.int .i64)),(6,.k (.int .i64))]},xs:={cd:=[(0,.k .str),(1,.k (.int .i64)),(6,.k (.int .i64))]},rt:={},ex:=0}
def HR:Code:=cY (cQ Tryz.f147) 2
def FN:LI:={hd:={cd:=[(0,.k .str),(1,.k (.int .i64)),(7,.k .str)],refs:=[(8,48)],cm:=[(48,[.lk .str,.vec 1])]},xs:={},rt:={cd:=[(4,.k .ptr),(5,.k .str)]},ex:=999}
def Kl:Code:=cY (cQ Tryz.f147) 10
def E5:List (Nat×LI):=[(2,GK),(10,FN)]
def EI(a0:ByteArray)(a1:Int):Tree :=
 .loop HR GK [VS a0,VI a1,VI 0] [] (fun y2 q2=>NS (y2.hA)<|NI (y2.tail.hA)<|NI (y2.tail.tail.hA)<|.test (decide (((y2.tail.tail.hA).toInt)>(0:Int))) (.ak (0<=(0:Int)/\(0:Int)<=((y2.tail.tail.hA).toInt)/\((y2.tail.tail.hA).toInt)<=(ae ((y2.hA).ag):Int))<|.ak (0<=((y2.tail.tail.hA).toInt)/\((y2.tail.tail.hA).toInt)<=(ae ((y2.hA).ag):Int)/\(ae ((y2.hA).ag):Int)<=(ae ((y2.hA).ag):Int))<|.done 0 [.cG [.ptr [VS (bZ ((y2.hA).ag) (bW 0) (bW ((y2.tail.tail.hA).toInt))),.v (.slice none 0 0)],VS (bZ ((y2.hA).ag) (bW ((y2.tail.tail.hA).toInt)) (bW (ae ((y2.hA).ag):Int)))]] []) (.test (ac ((y2.hA).ag)==ac (mk [])) (.done 0 [.cG [.v (.pointer none),VS ((y2.hA).ag)]] []) (.ak (0<=(0:Int)/\(0:Int)<ae ((y2.hA).ag))<|.test ((bt ((y2.hA).ag) 0) != (40:Int)) (.done 0 [.cG [.v (.pointer none),VS ((y2.hA).ag)]] []) (.test (((y2.tail.hA).toInt)==(300:Int)) (.done 0 [.cG [.v (.pointer none),VS ((y2.hA).ag)]] []) (.ak (0<=(1:Int)/\(1:Int)<=(ae ((y2.hA).ag):Int)/\(ae ((y2.hA).ag):Int)<=(ae ((y2.hA).ag):Int))<|.loop Kl FN [VS ((y2.hA).ag),VI ((y2.tail.hA).toInt),VS (bZ ((y2.hA).ag) (bW 1) (bW (ae ((y2.hA).ag):Int)))] [.cells [VS (mk []),.any],.vec 1 []] (fun y5 q5=>.fail) (fun y5 q5=>NP (y5.hA)<|NS (y5.tail.hA)<|.done 0 [.cG [(y5.hA),VS ((y5.tail.hA).ag)]] [])))))) (fun y2 q2=>.done 0 [.cG [.any,.any]] [])
theorem KR(a0:ByteArray)(a1:Int)(h:dF 84 (EI a0 a1) R):aq Tryz.prog 147 [VS a0,VI a1] [] R :=
 uQ (ah (aA _) (ah (aA _) aD)) (oQ E5 Tryz.f147 h)
def FR(x0:ByteArray)(x1:Int)(x6:Int):Tree :=
 NS (VS x0)<|NI (VI x1)<|NI (VI x6)<|.test (decide (x6<(ae x0:Int))) (.ak (0<=x6/\x6<ae x0)<|.call 174 [.v (.int .u8 (bt x0 x6))] [] fun r1 o1=>NB r1<|.test r1.toBool (.done 0 [VS x0,VI x1,VI (IntKind.wrap .i64 (x6+1))] []) (.done 1 [VS x0,VI x1,VI x6] [])) (.done 1 [VS x0,VI x1,VI x6] [])
abbrev Fh:=cH Tryz.prog 84 HR GK
theorem HH(x0:ByteArray)(x1:Int)(x6:Int)(h:l8 84 (FR x0 x1 x6) Fh U):Fh [VS x0,VI x1,VI x6] [] U :=
 gQ E5 h
def I4(x0:ByteArray)(x1:Int)(x7:ByteArray)(o48_0:ByteArray)(o48_1:List (List AV)):Tree :=
 NS (VS x0)<|NI (VI x1)<|NS (VS x7)<|.ak (Ob.cells [VS o48_0,.any]=.cells [VS o48_0,.any])<|.ak (af [.lk .str,.vec 1] [VS o48_0,.any] 0 [.vec 1 o48_1])<|.call 147 [VS x7,VI (IntKind.wrap .i64 (x1+1))] [] fun r1 o1=>NT r1<|NP (r1.comp 0)<|NS (r1.comp 1)<|NP (r1.comp 0)<|.test ((r1.comp 0).isNil) (.done 2 [.v (.pointer none),VS x0] []) (.test (ac ((r1.comp 1).ag)==ac (mk [])) (.done 2 [.v (.pointer none),VS x0] []) (.ak (cD 1 [[(r1.comp 0)]]/\((o48_1.length)+([[(r1.comp 0)]]:List (List AV)).length)*8<=140737488355328)<|.ak (0<=(1:Int)/\(1:Int)<=(ae ((r1.comp 1).ag):Int)/\(ae ((r1.comp 1).ag):Int)<=(ae ((r1.comp 1).ag):Int))<|.ak (0<=(0:Int)/\(0:Int)<ae ((r1.comp 1).ag))<|.test ((bt ((r1.comp 1).ag) 0)==(41:Int)) (.done 2 [.ptr [VS o48_0,.sl (o48_1++([[(r1.comp 0)]]:List (List AV)))],VS (bZ ((r1.comp 1).ag) (bW 1) (bW (ae ((r1.comp 1).ag):Int)))] []) (.ak (0<=(0:Int)/\(0:Int)<ae ((r1.comp 1).ag))<|.test ((bt ((r1.comp 1).ag) 0) != (32:Int)) (.done 2 [.v (.pointer none),VS x0] []) (.done 0 [VS x0,VI x1,VS (bZ ((r1.comp 1).ag) (bW 1) (bW (ae ((r1.comp 1).ag):Int)))] [.cells [VS o48_0,.any],.vec 1 (o48_1++([[(r1.comp 0)]]:List (List AV)))]))))
abbrev EO:=cH Tryz.prog 84 Kl FN
theorem Pn(x0:ByteArray)(x1:Int)(x7:ByteArray)(o48_0:ByteArray)(o48_1:List (List AV))(h:l8 84 (I4 x0 x1 x7 o48_0 o48_1) EO U):EO [VS x0,VI x1,VS x7] [.cells [VS o48_0,.any],.vec 1 o48_1] U :=
 gQ E5 h
def Je(a0:ByteArray):Tree :=
 .test (decide ((ae a0:Int)<(2:Int))) (.done 0 [VB false] []) (.test (decide ((ae a0:Int)>(3:Int))) (.done 0 [VB false] []) (.ak (0<=(0:Int)/\(0:Int)<ae a0)<|.test ((bt a0 0) != (101:Int)) (.done 0 [VB false] []) (.ak (0<=(1:Int)/\(1:Int)<=(ae a0:Int)/\(ae a0:Int)<=(ae a0:Int))<|.call 152 [VS (bZ a0 (bW 1) (bW (ae a0:Int))),VS (mk [48,49,50,51,52,53,54,55,56,57])] [] fun r1 o1=>NS r1<|.test (!(ac r1.ag==ac (mk []))) (.done 0 [VB false] []) (.test ((ae a0:Int)==(2:Int)) (.done 0 [VB true] []) (.ak (0<=(1:Int)/\(1:Int)<ae a0)<|.done 0 [VB ((bt a0 1) != (48:Int))] [])))))
theorem OG(a0:ByteArray)(h:dF 30 (Je a0) R):aq Tryz.prog 148 [VS a0] [] R :=
 uQ (ah (aA _) aD) (oQ [] Tryz.f148 h)
def Bl(a0:AV)(a1:ByteArray)(a2:Int):Tree :=
 NZ a0<|NZ a0<|rS (a0.deref.drop 1)<|NL ((a0.deref.drop 1).hA)<|.test (((((a0.deref.drop 1).hA).aR).length:Int)==a2) (NZ a0<|NZ a0<|rS (a0.deref.drop 1)<|NG ((a0.deref.drop 1).hA) 0 1<|eA (((a0.deref.drop 1).hA).ix (0:Int))<|NZ ((((a0.deref.drop 1).hA).ix (0:Int)).hA)<|NZ ((((a0.deref.drop 1).hA).ix (0:Int)).hA)<|.ak (LK.has .str (((((a0.deref.drop 1).hA).ix (0:Int)).hA).deref.hA)/\1<=(((((a0.deref.drop 1).hA).ix (0:Int)).hA).deref).length)<|.done 0 [VB (ac ((((((a0.deref.drop 1).hA).ix (0:Int)).hA).deref.hA).ag)==ac a1)] []) (.done 0 [VB false] [])
theorem Kz(a0:AV)(a1:ByteArray)(a2:Int)(ha0:LK.has .ptr a0)(h:dF 27 (Bl a0 a1 a2) R):aq Tryz.prog 149 [a0,VS a1,VI a2] [] R :=
 uQ (ah (bF ha0) (ah (aA _) (ah (aA _) aD))) (oQ [] Tryz.f149 h)
def Es:LI:={hd:={cd:=[(0,.k .sl),(1,.k .str),(7,.k (.int .i64))],eM:=[(2,4)]},xs:={eM:=[(2,4)]},rt:={},ex:=0}
def JV:Code:=cY (cQ Tryz.f150) 2
def Ho:List (Nat×LI):=[(2,Es)]
def LQ(a0:AV)(a1:ByteArray)(e2:List (List AV)):Tree :=
 .loop JV Es [a0,VS a1,VI 0] [.vec 4 e2] (fun y2 q2=>.ak (((q2.drop 0).hO)=.vec 4 ((q2.drop 0).hO).es)<|.done 0 [.vec 1] [.dead,.vec 4 ((q2.hO).es)]) (fun y2 q2=>.fail)
theorem Po(a0:AV)(a1:ByteArray)(e2:List (List AV))(ha0:LK.has .sl a0)(h:dF 32 (LQ a0 a1 e2) R):aq Tryz.prog 150 [a0,VS a1,.vec 0] [.vec 4 e2] R :=
 aq.oP (bu (gq _) cx) (aq.up (ah (bY ha0) (ah (aA _) (ah (aA _) aD))) (oF Ho {mu:=[(2,.one (.vec))],own:=[0]} Tryz.f150 h))
def Fa(x0:AV)(x1:ByteArray)(x7:Int)(e2:List (List AV)):Tree :=
 NL x0<|NS (VS x1)<|NI (VI x7)<|.ak (Ob.vec 4 e2=.vec 4 e2)<|NL x0<|.test (decide (x7<(x0.aR.length:Int))) (NG x0 x7 4<|NE (x0.ix x7)<|.call 69 [VS x1,.sl [[VS (((x0.ix x7).getD 0 .any).ag),((x0.ix x7).getD 1 .any)]]] [] fun r1 o1=>NA r1<|NG x0 x7 4<|NE ((x0.ix x7).drop 2)<|.ak (cD 4 [[VS ((r1.cs.getD 0 .any).ag),(r1.cs.getD 1 .any),VS ((((x0.ix x7).drop 2).getD 0 .any).ag),(((x0.ix x7).drop 2).getD 1 .any)]]/\((e2.length)+([[VS ((r1.cs.getD 0 .any).ag),(r1.cs.getD 1 .any),VS ((((x0.ix x7).drop 2).getD 0 .any).ag),(((x0.ix x7).drop 2).getD 1 .any)]]:List (List AV)).length)*80<=140737488355328)<|.done 0 [x0,VS x1,VI (IntKind.wrap .i64 (x7+1))] [.vec 4 (e2++([[VS ((r1.cs.getD 0 .any).ag),(r1.cs.getD 1 .any),VS ((((x0.ix x7).drop 2).getD 0 .any).ag),(((x0.ix x7).drop 2).getD 1 .any)]]:List (List AV)))]) (.done 1 [] [.vec 4 e2])
abbrev E3:=cH Tryz.prog 32 JV Es
theorem H5(x0:AV)(x1:ByteArray)(x7:Int)(e2:List (List AV))(h:l8 32 (Fa x0 x1 x7 e2) E3 U):E3 [x0,VS x1,VI x7] [.vec 4 e2] U :=
 gQ Ho h
def E2:LI:={hd:={cd:=[(0,.k .ptr),(1,.k .sl),(5,.k (.int .i64))]},xs:={cd:=[(0,.k .ptr)]},rt:={refs:=[(4,69)],cm:=[(69,[.lk (.int .u8),.lk .str,.lk (.int .i64),.lk .ptr,.lk .ptr])]},ex:=1}
def Ku:Code:=cY (cQ Tryz.f153) 7
def Kv:List (Nat×LI):=[(7,E2)]
def Ei(a0:AV)(a1:AV):Tree :=
 NZ a0<|NZ a0<|.ak (LK.has .str (a0.deref.hA)/\1<=a0.deref.length)<|.test (ac ((a0.deref.hA).ag)==ac (mk [48])) (NZ a0<|NZ a0<|.ak (LK.has .str (a0.deref.hA)/\1<=a0.deref.length)<|.ak (0<=(0:Int)/\(0:Int)<ae ((a0.deref.hA).ag))<|.done 0 [.ptr [.v (.int .u8 (bt ((a0.deref.hA).ag) 0)),VS (mk []),VI 0,.v (.pointer none),.v (.pointer none)]] []) (NZ a0<|NZ a0<|.ak (LK.has .str (a0.deref.hA)/\1<=a0.deref.length)<|.test (ac ((a0.deref.hA).ag)==ac (mk [49])) (NZ a0<|NZ a0<|.ak (LK.has .str (a0.deref.hA)/\1<=a0.deref.length)<|.ak (0<=(0:Int)/\(0:Int)<ae ((a0.deref.hA).ag))<|.done 0 [.ptr [.v (.int .u8 (bt ((a0.deref.hA).ag) 0)),VS (mk []),VI 0,.v (.pointer none),.v (.pointer none)]] []) (NZ a0<|NZ a0<|.ak (LK.has .str (a0.deref.hA)/\1<=a0.deref.length)<|.call 59 [VS ((a0.deref.hA).ag)] [] fun r1 o1=>NB r1<|.test r1.toBool (NZ a0<|NZ a0<|.ak (LK.has .str (a0.deref.hA)/\1<=a0.deref.length)<|.done 0 [.ptr [.v (.int .u8 110),VS ((a0.deref.hA).ag),VI 0,.v (.pointer none),.v (.pointer none)]] []) (NZ a0<|NZ a0<|.ak (LK.has .str (a0.deref.hA)/\1<=a0.deref.length)<|.call 166 [VS ((a0.deref.hA).ag)] [] fun r2 o2=>NB r2<|.test r2.toBool (NL a1<|.loop Ku E2 [a0,a1,VI (IntKind.wrap .i64 ((a1.aR.length:Int)-1))] [] (fun y3 q3=>NP (y3.hA)<|NZ (y3.hA)<|NZ (y3.hA)<|.ak (LK.has .str ((y3.hA).deref.hA)/\1<=((y3.hA).deref).length)<|.done 0 [.ptr [.v (.int .u8 110),VS (((y3.hA).deref.hA).ag),VI 0,.v (.pointer none),.v (.pointer none)]] []) (fun y3 q3=>.ak ((q3.hO)=.cells (q3.hO).cs)<|.ak (af [.lk (.int .u8),.lk .str,.lk (.int .i64),.lk .ptr,.lk .ptr] ((q3.hO).cs) 0 q3.tail)<|.done 0 [.ptr [.v (.int .u8 (((q3.hO).cs.getD 0 .any).toInt)),VS (((q3.hO).cs.getD 1 .any).ag),VI (((q3.hO).cs.getD 2 .any).toInt),((q3.hO).cs.getD 3 .any),((q3.hO).cs.getD 4 .any)]] [])) (.call 149 [a0,VS (mk [43]),VI 3] [] fun r4 o4=>NB r4<|.test r4.toBool (NZ a0<|NZ a0<|rS (a0.deref.drop 1)<|NG ((a0.deref.drop 1).hA) 1 1<|eA (((a0.deref.drop 1).hA).ix (1:Int))<|.call 153 [((((a0.deref.drop 1).hA).ix (1:Int)).hA),a1] [] fun r5 o5=>NP r5<|NZ a0<|NZ a0<|rS (a0.deref.drop 1)<|NG ((a0.deref.drop 1).hA) 2 1<|eA (((a0.deref.drop 1).hA).ix (2:Int))<|.call 153 [((((a0.deref.drop 1).hA).ix (2:Int)).hA),a1] [] fun r6 o6=>NP r6<|NP r5<|.test r5.isNil (.done 0 [.v (.pointer none)] []) (NP r6<|.test r6.isNil (.done 0 [.v (.pointer none)] []) (NZ a0<|NZ a0<|rS (a0.deref.drop 1)<|NG ((a0.deref.drop 1).hA) 0 1<|eA (((a0.deref.drop 1).hA).ix (0:Int))<|NZ ((((a0.deref.drop 1).hA).ix (0:Int)).hA)<|NZ ((((a0.deref.drop 1).hA).ix (0:Int)).hA)<|.ak (LK.has .str (((((a0.deref.drop 1).hA).ix (0:Int)).hA).deref.hA)/\1<=(((((a0.deref.drop 1).hA).ix (0:Int)).hA).deref).length)<|.ak (0<=(0:Int)/\(0:Int)<ae ((((((a0.deref.drop 1).hA).ix (0:Int)).hA).deref.hA).ag))<|.done 0 [.ptr [.v (.int .u8 (bt ((((((a0.deref.drop 1).hA).ix (0:Int)).hA).deref.hA).ag) 0)),VS (mk []),VI 0,r5,r6]] []))) (.call 149 [a0,VS (mk [42]),VI 3] [] fun r7 o7=>NB r7<|.test r7.toBool (NZ a0<|NZ a0<|rS (a0.deref.drop 1)<|NG ((a0.deref.drop 1).hA) 1 1<|eA (((a0.deref.drop 1).hA).ix (1:Int))<|.call 153 [((((a0.deref.drop 1).hA).ix (1:Int)).hA),a1] [] fun r8 o8=>NP r8<|NZ a0<|NZ a0<|rS (a0.deref.drop 1)<|NG ((a0.deref.drop 1).hA) 2 1<|eA (((a0.deref.drop 1).hA).ix (2:Int))<|.call 153 [((((a0.deref.drop 1).hA).ix (2:Int)).hA),a1] [] fun r9 o9=>NP r9<|NP r8<|.test r8.isNil (.done 0 [.v (.pointer none)] []) (NP r9<|.test r9.isNil (.done 0 [.v (.pointer none)] []) (NZ a0<|NZ a0<|rS (a0.deref.drop 1)<|NG ((a0.deref.drop 1).hA) 0 1<|eA (((a0.deref.drop 1).hA).ix (0:Int))<|NZ ((((a0.deref.drop 1).hA).ix (0:Int)).hA)<|NZ ((((a0.deref.drop 1).hA).ix (0:Int)).hA)<|.ak (LK.has .str (((((a0.deref.drop 1).hA).ix (0:Int)).hA).deref.hA)/\1<=(((((a0.deref.drop 1).hA).ix (0:Int)).hA).deref).length)<|.ak (0<=(0:Int)/\(0:Int)<ae ((((((a0.deref.drop 1).hA).ix (0:Int)).hA).deref.hA).ag))<|.done 0 [.ptr [.v (.int .u8 (bt ((((((a0.deref.drop 1).hA).ix (0:Int)).hA).deref.hA).ag) 0)),VS (mk []),VI 0,r8,r9]] []))) (.call 149 [a0,VS (mk [114,101,99]),VI 3] [] fun r10 o10=>NB r10<|.test r10.toBool (NZ a0<|NZ a0<|rS (a0.deref.drop 1)<|NG ((a0.deref.drop 1).hA) 1 1<|eA (((a0.deref.drop 1).hA).ix (1:Int))<|NZ ((((a0.deref.drop 1).hA).ix (1:Int)).hA)<|NZ ((((a0.deref.drop 1).hA).ix (1:Int)).hA)<|.ak (LK.has .str (((((a0.deref.drop 1).hA).ix (1:Int)).hA).deref.hA)/\1<=(((((a0.deref.drop 1).hA).ix (1:Int)).hA).deref).length)<|.call 166 [VS ((((((a0.deref.drop 1).hA).ix (1:Int)).hA).deref.hA).ag)] [] fun r11 o11=>NB r11<|.test r11.toBool (NZ a0<|NZ a0<|rS (a0.deref.drop 1)<|NG ((a0.deref.drop 1).hA) 2 1<|eA (((a0.deref.drop 1).hA).ix (2:Int))<|.ak (LK.has .sl a1/\cD 1 a1.aR/\((([]:List (List AV)).length)+a1.aR.length)*16<=140737488355328)<|NZ a0<|NZ a0<|rS (a0.deref.drop 1)<|NG ((a0.deref.drop 1).hA) 1 1<|eA (((a0.deref.drop 1).hA).ix (1:Int))<|NZ ((((a0.deref.drop 1).hA).ix (1:Int)).hA)<|NZ ((((a0.deref.drop 1).hA).ix (1:Int)).hA)<|.ak (LK.has .str (((((a0.deref.drop 1).hA).ix (1:Int)).hA).deref.hA)/\1<=(((((a0.deref.drop 1).hA).ix (1:Int)).hA).deref).length)<|.ak (cD 1 [[VS ((((((a0.deref.drop 1).hA).ix (1:Int)).hA).deref.hA).ag)]]/\(((([]:List (List AV))++a1.aR).length)+([[VS ((((((a0.deref.drop 1).hA).ix (1:Int)).hA).deref.hA).ag)]]:List (List AV)).length)*16<=140737488355328)<|.call 153 [((((a0.deref.drop 1).hA).ix (2:Int)).hA),.sl ((([]:List (List AV))++a1.aR)++([[VS ((((((a0.deref.drop 1).hA).ix (1:Int)).hA).deref.hA).ag)]]:List (List AV)))] [] fun r12 o12=>NP r12<|NP r12<|.test r12.isNil (.done 0 [.v (.pointer none)] []) (.done 0 [.ptr [.v (.int .u8 114),VS (mk []),VI 0,r12,.v (.pointer none)]] [])) (.done 0 [.v (.pointer none)] [])) (.done 0 [.v (.pointer none)] [])))))))
theorem Ly(a0:AV)(a1:AV)(ha0:LK.has .ptr a0)(ha1:LK.has .sl a1)(h:dF 160 (Ei a0 a1) R):aq Tryz.prog 153 [a0,a1] [] R :=
 uQ (ah (bF ha0) (ah (bY ha1) aD)) (oQ Kv Tryz.f153 h)
def Et(x0:AV)(x1:AV)(x5:Int):Tree :=
 NP x0<|NL x1<|NI (VI x5)<|.test (decide (x5≥(0:Int))) (NG x1 x5 1<|mn (x1.ix x5)<|NZ x0<|NZ x0<|.ak (LK.has .str (x0.deref.hA)/\1<=x0.deref.length)<|.test (ac (((x1.ix x5).hA).ag)==ac ((x0.deref.hA).ag)) (NL x1<|.done 2 [] [.cells [.v (.int .u8 98),VS (mk []),VI (IntKind.wrap .i64 ((IntKind.wrap .i64 ((x1.aR.length:Int)-1))-x5)),.v (.pointer none),.v (.pointer none)]]) (.done 0 [x0,x1,VI (IntKind.wrap .i64 (x5-1))] [])) (.done 1 [x0] [])
abbrev G4:=cH Tryz.prog 160 Ku E2
theorem Lc(x0:AV)(x1:AV)(x5:Int)(h:l8 160 (Et x0 x1 x5) G4 U):G4 [x0,x1,VI x5] [] U :=
 gQ Kv h
def D3(a0:AV):Tree :=
 NZ a0<|NZ a0<|.ak (LK.has (.int .u8) (a0.deref.hA)/\1<=a0.deref.length)<|.test (((a0.deref.hA).toInt)==(43:Int)) (NZ a0<|NZ a0<|eA (a0.deref.drop 3)<|.call 154 [((a0.deref.drop 3).hA)] [] fun r1 o1=>NI r1<|NZ a0<|NZ a0<|eA (a0.deref.drop 4)<|.call 154 [((a0.deref.drop 4).hA)] [] fun r2 o2=>NI r2<|.done 0 [VI (IntKind.wrap .i64 ((IntKind.wrap .i64 (1+r1.toInt))+r2.toInt))] []) (.test (((a0.deref.hA).toInt)==(42:Int)) (NZ a0<|NZ a0<|eA (a0.deref.drop 3)<|.call 154 [((a0.deref.drop 3).hA)] [] fun r3 o3=>NI r3<|NZ a0<|NZ a0<|eA (a0.deref.drop 4)<|.call 154 [((a0.deref.drop 4).hA)] [] fun r4 o4=>NI r4<|.done 0 [VI (IntKind.wrap .i64 ((IntKind.wrap .i64 (1+r3.toInt))+r4.toInt))] []) (.test (((a0.deref.hA).toInt)==(114:Int)) (NZ a0<|NZ a0<|eA (a0.deref.drop 3)<|.call 154 [((a0.deref.drop 3).hA)] [] fun r5 o5=>NI r5<|.done 0 [VI (IntKind.wrap .i64 (2+r5.toInt))] []) (.done 0 [VI 1] [])))
theorem wO(a0:AV)(ha0:LK.has .ptr a0)(h:dF 30 (D3 a0) R):aq Tryz.prog 154 [a0] [] R :=
 uQ (ah (bF ha0) aD) (oQ [] Tryz.f154 h)
def Js(a0_0:Int)(a0_1:Bool):Tree :=
 .call 94 [VI (IntKind.wrap .i64 (a0_0+1))] [] fun r1 o1=>NS r1<|.ak (ae (mk [35])+ae r1.ag<=9223372036854775807)<|.done 0 [VS (((mk [35]):ByteArray)++r1.ag)] [.cells [VI (IntKind.wrap .i64 (a0_0+1)),VB a0_1]]
theorem Nc(a0_0:Int)(a0_1:Bool)(h:dF 16 (Js a0_0 a0_1) R):aq Tryz.prog 155 [.ref 0 0] [.cells [VI a0_0,VB a0_1]] R :=
 aq.oP (bu (cc (ah (aA _) (ah (GW _) aD))) cx) (aq.up (ah (aA _) aD) (oF [] {mu:=[(0,.one (.obj [.lk (.int .i64),.lk .bool]))],own:=[]} Tryz.f155 h))
def Hk(a0_0:Int)(a0_1:Bool)(a1:AV):Tree :=
 .test a0_1 (.done 0 [.ptr [.v (.int .u8 48),VS (mk []),VI 0,.v (.pointer none),.v (.pointer none)]] [.cells [VI a0_0,VB true]]) (.call 154 [a1] [] fun r1 o1=>NI r1<|.test (decide (r1.toInt>(400:Int))) (.done 0 [.ptr [.v (.int .u8 48),VS (mk []),VI 0,.v (.pointer none),.v (.pointer none)]] [.cells [VI a0_0,VB true]]) (.done 0 [a1] [.cells [VI a0_0,VB a0_1]]))
theorem M7(a0_0:Int)(a0_1:Bool)(a1:AV)(ha1:LK.has .ptr a1)(h:dF 20 (Hk a0_0 a0_1 a1) R):aq Tryz.prog 156 [.ref 0 0,a1] [.cells [VI a0_0,VB a0_1]] R :=
 aq.oP (bu (cc (ah (aA _) (ah (GW _) aD))) cx) (aq.up (ah (aA _) (ah (bF ha1) aD)) (oF [] {mu:=[(0,.one (.obj [.lk (.int .i64),.lk .bool]))],own:=[]} Tryz.f156 h))
def Cl(a0_0:Int)(a0_1:Bool)(a1:AV)(a2:ByteArray):Tree :=
 .test a0_1 (.done 0 [.ptr [.v (.int .u8 48),VS (mk []),VI 0,.v (.pointer none),.v (.pointer none)]] [.cells [VI a0_0,VB a0_1]]) (NZ a1<|NZ a1<|.ak (LK.has (.int .u8) (a1.deref.hA)/\1<=a1.deref.length)<|.test (((a1.deref.hA).toInt)==(110:Int)) (NZ a1<|NZ a1<|mn (a1.deref.drop 1)<|.test (ac (((a1.deref.drop 1).hA).ag)==ac a2) (.done 0 [.ptr [.v (.int .u8 49),VS (mk []),VI 0,.v (.pointer none),.v (.pointer none)]] [.cells [VI a0_0,VB a0_1]]) (.done 0 [.ptr [.v (.int .u8 48),VS (mk []),VI 0,.v (.pointer none),.v (.pointer none)]] [.cells [VI a0_0,VB a0_1]])) (.test (((a1.deref.hA).toInt)==(43:Int)) (NZ a1<|NZ a1<|eA (a1.deref.drop 3)<|.call 157 [.ref 0 0,((a1.deref.drop 3).hA),VS a2] [.cells [VI a0_0,VB a0_1]] fun r1 o1=>.ak ((o1.hO)=.cells (o1.hO).cs)<|.ak (aM [.lk (.int .i64),.lk .bool] ((o1.hO).cs) 0 1 o1.tail)<|NP r1<|NZ a1<|NZ a1<|eA (a1.deref.drop 4)<|.call 157 [.ref 0 0,((a1.deref.drop 4).hA),VS a2] [.cells [VI (((o1.hO).cs.getD 0 .any).toInt),VB (((o1.hO).cs.getD 1 .any).toBool)]] fun r2 o2=>.ak ((o2.hO)=.cells (o2.hO).cs)<|.ak (aM [.lk (.int .i64),.lk .bool] ((o2.hO).cs) 0 1 o2.tail)<|NP r2<|.call 183 [.v (.int .u8 43),r1,r2] [] fun r3 o3=>NP r3<|.call 156 [.ref 0 0,r3] [.cells [VI (((o2.hO).cs.getD 0 .any).toInt),VB (((o2.hO).cs.getD 1 .any).toBool)]] fun r4 o4=>.ak ((o4.hO)=.cells (o4.hO).cs)<|.ak (aM [.lk (.int .i64),.lk .bool] ((o4.hO).cs) 0 1 o4.tail)<|NP r4<|.done 0 [r4] [.cells [VI (((o4.hO).cs.getD 0 .any).toInt),VB (((o4.hO).cs.getD 1 .any).toBool)]]) (.test (((a1.deref.hA).toInt)==(42:Int)) (NZ a1<|NZ a1<|eA (a1.deref.drop 3)<|.call 157 [.ref 0 0,((a1.deref.drop 3).hA),VS a2] [.cells [VI a0_0,VB a0_1]] fun r5 o5=>.ak ((o5.hO)=.cells (o5.hO).cs)<|.ak (aM [.lk (.int .i64),.lk .bool] ((o5.hO).cs) 0 1 o5.tail)<|NP r5<|NZ a1<|NZ a1<|eA (a1.deref.drop 4)<|.call 183 [.v (.int .u8 42),r5,((a1.deref.drop 4).hA)] [] fun r6 o6=>NP r6<|NZ a1<|NZ a1<|eA (a1.deref.drop 3)<|NZ a1<|NZ a1<|eA (a1.deref.drop 4)<|.call 157 [.ref 0 0,((a1.deref.drop 4).hA),VS a2] [.cells [VI (((o5.hO).cs.getD 0 .any).toInt),VB (((o5.hO).cs.getD 1 .any).toBool)]] fun r7 o7=>.ak ((o7.hO)=.cells (o7.hO).cs)<|.ak (aM [.lk (.int .i64),.lk .bool] ((o7.hO).cs) 0 1 o7.tail)<|NP r7<|.call 183 [.v (.int .u8 42),((a1.deref.drop 3).hA),r7] [] fun r8 o8=>NP r8<|.call 183 [.v (.int .u8 43),r6,r8] [] fun r9 o9=>NP r9<|.call 156 [.ref 0 0,r9] [.cells [VI (((o7.hO).cs.getD 0 .any).toInt),VB (((o7.hO).cs.getD 1 .any).toBool)]] fun r10 o10=>.ak ((o10.hO)=.cells (o10.hO).cs)<|.ak (aM [.lk (.int .i64),.lk .bool] ((o10.hO).cs) 0 1 o10.tail)<|NP r10<|.done 0 [r10] [.cells [VI (((o10.hO).cs.getD 0 .any).toInt),VB (((o10.hO).cs.getD 1 .any).toBool)]]) (.test (((a1.deref.hA).toInt)==(114:Int)) (.call 155 [.ref 0 0] [.cells [VI a0_0,VB a0_1]] fun r11 o11=>.ak ((o11.hO)=.cells (o11.hO).cs)<|.ak (aM [.lk (.int .i64),.lk .bool] ((o11.hO).cs) 0 1 o11.tail)<|NS r11<|NZ a1<|NZ a1<|eA (a1.deref.drop 3)<|.call 158 [((a1.deref.drop 3).hA),.ptr [.v (.int .u8 110),VS r11.ag,VI 0,.v (.pointer none),.v (.pointer none)],VI 0] [] fun r12 o12=>NP r12<|.call 157 [.ref 0 0,r12,VS a2] [.cells [VI (((o11.hO).cs.getD 0 .any).toInt),VB (((o11.hO).cs.getD 1 .any).toBool)]] fun r13 o13=>.ak ((o13.hO)=.cells (o13.hO).cs)<|.ak (aM [.lk (.int .i64),.lk .bool] ((o13.hO).cs) 0 1 o13.tail)<|NP r13<|.call 156 [.ref 0 0,r13] [.cells [VI (((o13.hO).cs.getD 0 .any).toInt),VB (((o13.hO).cs.getD 1 .any).toBool)]] fun r14 o14=>.ak ((o14.hO)=.cells (o14.hO).cs)<|.ak (aM [.lk (.int .i64),.lk .bool] ((o14.hO).cs) 0 1 o14.tail)<|NP r14<|.call 159 [r14,VS r11.ag,a1] [] fun r15 o15=>NP r15<|.call 157 [.ref 0 0,r12,VS r11.ag] [.cells [VI (((o14.hO).cs.getD 0 .any).toInt),VB (((o14.hO).cs.getD 1 .any).toBool)]] fun r16 o16=>.ak ((o16.hO)=.cells (o16.hO).cs)<|.ak (aM [.lk (.int .i64),.lk .bool] ((o16.hO).cs) 0 1 o16.tail)<|NP r16<|.call 156 [.ref 0 0,r16] [.cells [VI (((o16.hO).cs.getD 0 .any).toInt),VB (((o16.hO).cs.getD 1 .any).toBool)]] fun r17 o17=>.ak ((o17.hO)=.cells (o17.hO).cs)<|.ak (aM [.lk (.int .i64),.lk .bool] ((o17.hO).cs) 0 1 o17.tail)<|NP r17<|.call 159 [r17,VS r11.ag,a1] [] fun r18 o18=>NP r18<|.call 183 [.v (.int .u8 42),r18,.ptr [.v (.int .u8 98),VS (mk []),VI 0,.v (.pointer none),.v (.pointer none)]] [] fun r19 o19=>NP r19<|.call 183 [.v (.int .u8 43),r15,r19] [] fun r20 o20=>NP r20<|.call 156 [.ref 0 0,.ptr [.v (.int .u8 114),VS (mk []),VI 0,r20,.v (.pointer none)]] [.cells [VI (((o17.hO).cs.getD 0 .any).toInt),VB (((o17.hO).cs.getD 1 .any).toBool)]] fun r21 o21=>.ak ((o21.hO)=.cells (o21.hO).cs)<|.ak (aM [.lk (.int .i64),.lk .bool] ((o21.hO).cs) 0 1 o21.tail)<|NP r21<|.done 0 [r21] [.cells [VI (((o21.hO).cs.getD 0 .any).toInt),VB (((o21.hO).cs.getD 1 .any).toBool)]]) (.done 0 [.ptr [.v (.int .u8 48),VS (mk []),VI 0,.v (.pointer none),.v (.pointer none)]] [.cells [VI a0_0,VB a0_1]])))))
theorem Jh(a0_0:Int)(a0_1:Bool)(a1:AV)(a2:ByteArray)(ha1:LK.has .ptr a1)(h:dF 121 (Cl a0_0 a0_1 a1 a2) R):aq Tryz.prog 157 [.ref 0 0,a1,VS a2] [.cells [VI a0_0,VB a0_1]] R :=
 aq.oP (bu (cc (ah (aA _) (ah (GW _) aD))) cx) (aq.up (ah (aA _) (ah (bF ha1) (ah (aA _) aD))) (oF [] {mu:=[(0,.one (.obj [.lk (.int .i64),.lk .bool]))],own:=[]} Tryz.f157 h))
def DS(a0:AV)(a1:AV)(a2:Int):Tree :=
 NZ a0<|NZ a0<|.ak (LK.has (.int .u8) (a0.deref.hA)/\1<=a0.deref.length)<|.test (((a0.deref.hA).toInt)==(98:Int)) (NZ a0<|NZ a0<|.ak (LK.has (.int .i64) ((a0.deref.drop 2).hA)/\1<=(a0.deref.drop 2).length)<|.test ((((a0.deref.drop 2).hA).toInt)==a2) (.done 0 [a1] []) (.done 0 [a0] [])) (.test (((a0.deref.hA).toInt)==(43:Int)) (NZ a0<|NZ a0<|.ak (LK.has (.int .u8) (a0.deref.hA)/\1<=a0.deref.length)<|NZ a0<|NZ a0<|eA (a0.deref.drop 3)<|.call 158 [((a0.deref.drop 3).hA),a1,VI a2] [] fun r1 o1=>NP r1<|NZ a0<|NZ a0<|eA (a0.deref.drop 4)<|.call 158 [((a0.deref.drop 4).hA),a1,VI a2] [] fun r2 o2=>NP r2<|.done 0 [.ptr [.v (.int .u8 ((a0.deref.hA).toInt)),VS (mk []),VI 0,r1,r2]] []) (.test (((a0.deref.hA).toInt)==(42:Int)) (NZ a0<|NZ a0<|.ak (LK.has (.int .u8) (a0.deref.hA)/\1<=a0.deref.length)<|NZ a0<|NZ a0<|eA (a0.deref.drop 3)<|.call 158 [((a0.deref.drop 3).hA),a1,VI a2] [] fun r3 o3=>NP r3<|NZ a0<|NZ a0<|eA (a0.deref.drop 4)<|.call 158 [((a0.deref.drop 4).hA),a1,VI a2] [] fun r4 o4=>NP r4<|.done 0 [.ptr [.v (.int .u8 ((a0.deref.hA).toInt)),VS (mk []),VI 0,r3,r4]] []) (.test (((a0.deref.hA).toInt)==(114:Int)) (NZ a0<|NZ a0<|eA (a0.deref.drop 3)<|.call 158 [((a0.deref.drop 3).hA),a1,VI (IntKind.wrap .i64 (a2+1))] [] fun r5 o5=>NP r5<|.done 0 [.ptr [.v (.int .u8 114),VS (mk []),VI 0,r5,.v (.pointer none)]] []) (.done 0 [a0] []))))
theorem wA(a0:AV)(a1:AV)(a2:Int)(ha0:LK.has .ptr a0)(ha1:LK.has .ptr a1)(h:dF 56 (DS a0 a1 a2) R):aq Tryz.prog 158 [a0,a1,VI a2] [] R :=
 uQ (ah (bF ha0) (ah (bF ha1) (ah (aA _) aD))) (oQ [] Tryz.f158 h)
def DV(a0:AV)(a1:ByteArray)(a2:AV):Tree :=
 NZ a0<|NZ a0<|.ak (LK.has (.int .u8) (a0.deref.hA)/\1<=a0.deref.length)<|.test (((a0.deref.hA).toInt)==(110:Int)) (NZ a0<|NZ a0<|mn (a0.deref.drop 1)<|.test (ac (((a0.deref.drop 1).hA).ag)==ac a1) (.done 0 [a2] []) (.done 0 [a0] [])) (.test (((a0.deref.hA).toInt)==(43:Int)) (NZ a0<|NZ a0<|.ak (LK.has (.int .u8) (a0.deref.hA)/\1<=a0.deref.length)<|NZ a0<|NZ a0<|eA (a0.deref.drop 3)<|.call 159 [((a0.deref.drop 3).hA),VS a1,a2] [] fun r1 o1=>NP r1<|NZ a0<|NZ a0<|eA (a0.deref.drop 4)<|.call 159 [((a0.deref.drop 4).hA),VS a1,a2] [] fun r2 o2=>NP r2<|.done 0 [.ptr [.v (.int .u8 ((a0.deref.hA).toInt)),VS (mk []),VI 0,r1,r2]] []) (.test (((a0.deref.hA).toInt)==(42:Int)) (NZ a0<|NZ a0<|.ak (LK.has (.int .u8) (a0.deref.hA)/\1<=a0.deref.length)<|NZ a0<|NZ a0<|eA (a0.deref.drop 3)<|.call 159 [((a0.deref.drop 3).hA),VS a1,a2] [] fun r3 o3=>NP r3<|NZ a0<|NZ a0<|eA (a0.deref.drop 4)<|.call 159 [((a0.deref.drop 4).hA),VS a1,a2] [] fun r4 o4=>NP r4<|.done 0 [.ptr [.v (.int .u8 ((a0.deref.hA).toInt)),VS (mk []),VI 0,r3,r4]] []) (.test (((a0.deref.hA).toInt)==(114:Int)) (NZ a0<|NZ a0<|eA (a0.deref.drop 3)<|.call 159 [((a0.deref.drop 3).hA),VS a1,a2] [] fun r5 o5=>NP r5<|.done 0 [.ptr [.v (.int .u8 114),VS (mk []),VI 0,r5,.v (.pointer none)]] []) (.done 0 [a0] []))))
theorem wE(a0:AV)(a1:ByteArray)(a2:AV)(ha0:LK.has .ptr a0)(ha2:LK.has .ptr a2)(h:dF 55 (DV a0 a1 a2) R):aq Tryz.prog 159 [a0,VS a1,a2] [] R :=
 uQ (ah (bF ha0) (ah (aA _) (ah (bF ha2) aD))) (oQ [] Tryz.f159 h)
def HZ(a0:AV):Tree :=
 .call 165 [a0] [] fun r1 o1=>NL r1<|.call 184 [a0,.v (.slice none 0 0),.gI 184 [none,some 0,some 1],.ref 0 0,.ref 1 0] [.cells [r1],.cells [VI 0]] fun r2 o2=>.ak ((o2.hO)=.cells (o2.hO).cs)<|.ak (aM [.lk .sl] ((o2.hO).cs) 0 1 o2.tail)<|.ak ((o2.tail.hO)=.cells (o2.tail.hO).cs)<|.ak (aM [.lk (.int .i64)] ((o2.tail.hO).cs) 0 2 o2.tail.tail)<|NS r2<|.done 0 [VS r2.ag] []
theorem MU(a0:AV)(ha0:LK.has .ptr a0)(h:dF 12 (HZ a0) R):aq Tryz.prog 160 [a0] [] R :=
 uQ (ah (bF ha0) aD) (oQ [] Tryz.f160 h)
def Iu(a0_0:ByteArray)(a0_1:AV)(a1:ByteArray)(a2_0:ByteArray)(a2_1:AV):Tree :=
 .call 162 [.agg [VS a0_0,a0_1],VS a1,.agg [VS a2_0,a2_1]] [] fun r1 o1=>NB r1<|.test (!r1.toBool) (.done 0 [.cG [.agg [VS a0_0,a0_1],VB false]] []) (.call 163 [.agg [VS a0_0,a0_1],VS a1,.agg [VS a2_0,a2_1]] [] fun r2 o2=>NA r2<|.done 0 [.cG [.agg [VS ((r2.cs.getD 0 .any).ag),(r2.cs.getD 1 .any)],VB true]] [])
theorem Oq(a0_0:ByteArray)(a0_1:AV)(a1:ByteArray)(a2_0:ByteArray)(a2_1:AV)(ha0_1:LK.has .sl a0_1)(ha2_1:LK.has .sl a2_1)(h:dF 18 (Iu a0_0 a0_1 a1 a2_0 a2_1) R):aq Tryz.prog 161 [.agg [VS a0_0,a0_1],VS a1,.agg [VS a2_0,a2_1]] [] R :=
 uQ (ah (cr (ah (aA _) (ah (bY ha0_1) aD))) (ah (aA _) (ah (cr (ah (aA _) (ah (bY ha2_1) aD))) aD))) (oQ [] Tryz.f161 h)
def Hu(a0_0:ByteArray)(a0_1:AV)(a1:ByteArray)(a2_0:ByteArray)(a2_1:AV):Tree :=
 .call 129 [.agg [VS a0_0,a0_1]] [] fun r1 o1=>NI r1<|.call 186 [.agg [VS a0_0,a0_1],VS a1] [] fun r2 o2=>NI r2<|.call 129 [.agg [VS a2_0,a2_1]] [] fun r3 o3=>NI r3<|.done 0 [VB (decide ((IntKind.wrap .i64 (r1.toInt+(IntKind.wrap .i64 (r2.toInt*(IntKind.wrap .i64 (r3.toInt-1))))))<=(400:Int)))] []
theorem OQ(a0_0:ByteArray)(a0_1:AV)(a1:ByteArray)(a2_0:ByteArray)(a2_1:AV)(ha0_1:LK.has .sl a0_1)(ha2_1:LK.has .sl a2_1)(h:dF 18 (Hu a0_0 a0_1 a1 a2_0 a2_1) R):aq Tryz.prog 162 [.agg [VS a0_0,a0_1],VS a1,.agg [VS a2_0,a2_1]] [] R :=
 uQ (ah (cr (ah (aA _) (ah (bY ha0_1) aD))) (ah (aA _) (ah (cr (ah (aA _) (ah (bY ha2_1) aD))) aD))) (oQ [] Tryz.f162 h)
def KE(a0_0:ByteArray)(a0_1:AV)(a1:ByteArray)(a2_0:ByteArray)(a2_1:AV):Tree :=
 .call 78 [.agg [VS a0_0,a0_1],.sl [[VS a2_0,a2_1],[VS a1,.v (.slice none 0 0)]]] [] fun r1 o1=>NA r1<|.call 187 [.agg [VS ((r1.cs.getD 0 .any).ag),(r1.cs.getD 1 .any)],VS a1,.agg [VS a2_0,a2_1]] [] fun r2 o2=>NA r2<|.done 0 [.agg [VS ((r2.cs.getD 0 .any).ag),(r2.cs.getD 1 .any)]] []
theorem Ny(a0_0:ByteArray)(a0_1:AV)(a1:ByteArray)(a2_0:ByteArray)(a2_1:AV)(ha0_1:LK.has .sl a0_1)(ha2_1:LK.has .sl a2_1)(h:dF 16 (KE a0_0 a0_1 a1 a2_0 a2_1) R):aq Tryz.prog 163 [.agg [VS a0_0,a0_1],VS a1,.agg [VS a2_0,a2_1]] [] R :=
 uQ (ah (cr (ah (aA _) (ah (bY ha0_1) aD))) (ah (aA _) (ah (cr (ah (aA _) (ah (bY ha2_1) aD))) aD))) (oQ [] Tryz.f163 h)
def I3(a0:AV):Tree :=
 .call 188 [a0,.v (.func (.func 166) #[] #[])] [] fun r1 o1=>NI r1<|.done 0 [VB (decide (r1.toInt≥(0:Int)))] []
theorem OZ(a0:AV)(ha0:LK.has .sl a0)(h:dF 9 (I3 a0) R):aq Tryz.prog 164 [a0,.v (.func (.func 166) #[] #[])] [] R :=
 uQ (ah (bY ha0) (ah (aA _) aD)) (oQ [] Tryz.f164 h)
def Jg(a0:AV):Tree :=
 .call 91 [a0,.fn 189 [.ref 0 0]] [.cells [.vec 1],.vec 1 []] fun r1 o1=>.ak ((o1.hO)=.cells (o1.hO).cs)<|.ak (aM [.vec 1] ((o1.hO).cs) 0 1 o1.tail)<|.done 0 [.sl ((o1.tail.hO).es)] []
theorem PA(a0:AV)(ha0:LK.has .ptr a0)(h:dF 9 (Jg a0) R):aq Tryz.prog 165 [a0] [] R :=
 uQ (ah (bF ha0) aD) (oQ [] Tryz.f165 h)
def Jp(a0:ByteArray):Tree :=
 .call 111 [VS a0,VS (mk [116])] [] fun r1 o1=>NB r1<|.done 0 [VB r1.toBool] []
theorem Pp(a0:ByteArray)(h:dF 5 (Jp a0) R):aq Tryz.prog 166 [VS a0] [] R :=
 uQ (ah (aA _) aD) (oQ [] Tryz.f166 h)
def LJ(a0:Int):Tree :=
 .test (decide (a0≥(97:Int))) (.test (decide (a0<=(122:Int))) (.done 0 [VB true] []) (.test (decide (a0≥(48:Int))) (.test (decide (a0<=(57:Int))) (.done 0 [VB true] []) (.test (a0==(42:Int)) (.done 0 [VB true] []) (.done 0 [VB (a0==(43:Int))] []))) (.test (a0==(42:Int)) (.done 0 [VB true] []) (.done 0 [VB (a0==(43:Int))] [])))) (.test (decide (a0≥(48:Int))) (.test (decide (a0<=(57:Int))) (.done 0 [VB true] []) (.test (a0==(42:Int)) (.done 0 [VB true] []) (.done 0 [VB (a0==(43:Int))] []))) (.test (a0==(42:Int)) (.done 0 [VB true] []) (.done 0 [VB (a0==(43:Int))] [])))
theorem PC(a0:Int)(h:dF 25 (LJ a0) R):aq Tryz.prog 172 [.v (.int .u8 a0)] [] R :=
 uQ (ah (aA _) aD) (oQ [] Tryz.f172 h)
def Lj(a0:Int):Tree :=
 .test (decide (a0≥(97:Int))) (.test (decide (a0<=(122:Int))) (.done 0 [VB true] []) (.test (decide (a0≥(48:Int))) (.test (decide (a0<=(57:Int))) (.done 0 [VB true] []) (.test (a0==(43:Int)) (.done 0 [VB true] []) (.done 0 [VB (a0==(42:Int))] []))) (.test (a0==(43:Int)) (.done 0 [VB true] []) (.done 0 [VB (a0==(42:Int))] [])))) (.test (decide (a0≥(48:Int))) (.test (decide (a0<=(57:Int))) (.done 0 [VB true] []) (.test (a0==(43:Int)) (.done 0 [VB true] []) (.done 0 [VB (a0==(42:Int))] []))) (.test (a0==(43:Int)) (.done 0 [VB true] []) (.done 0 [VB (a0==(42:Int))] [])))
theorem OC(a0:Int)(h:dF 25 (Lj a0) R):aq Tryz.prog 174 [.v (.int .u8 a0)] [] R :=
 uQ (ah (aA _) aD) (oQ [] Tryz.f174 h)
def IN(a0:Int)(a1:AV)(a2:AV):Tree :=
 .done 0 [.ptr [.v (.int .u8 a0),VS (mk []),VI 0,a1,a2]] []
theorem Mr(a0:Int)(a1:AV)(a2:AV)(ha1:LK.has .ptr a1)(ha2:LK.has .ptr a2)(h:dF 12 (IN a0 a1 a2) R):aq Tryz.prog 183 [.v (.int .u8 a0),a1,a2] [] R :=
 uQ (ah (aA _) (ah (bF ha1) (ah (bF ha2) aD))) (oQ [] Tryz.f183 h)
def Fb:LI:={hd:={cd:=[(0,.k .ptr),(1,.k .sl),(9,.k .str)],refs:=[(3,0),(4,1)],cm:=[(0,[.lk .sl]),(1,[.lk (.int .i64)])],uC:=[(2,184,[none,some 0,some 1])]},xs:={cd:=[(0,.k .ptr),(1,.k .sl),(9,.k .str)],cm:=[(0,[.lk .sl]),(1,[.lk (.int .i64)])],uC:=[(2,184,[none,some 0,some 1])]},rt:={cm:=[(0,[.lk .sl]),(1,[.lk (.int .i64)])]},ex:=1,fx:=[0,1]}
def Lr:Code:=cY (cQ Tryz.f184) 12
def KT:List (Nat×LI):=[(12,Fb)]
def D8(a0:AV)(a1:AV)(a3_0:AV)(a4_0:Int):Tree :=
 NZ a0<|NZ a0<|.ak (LK.has (.int .u8) (a0.deref.hA)/\1<=a0.deref.length)<|.test (((a0.deref.hA).toInt)==(110:Int)) (NZ a0<|NZ a0<|mn (a0.deref.drop 1)<|.done 0 [VS (((a0.deref.drop 1).hA).ag)] [.cells [a3_0],.cells [VI a4_0]]) (.test (((a0.deref.hA).toInt)==(98:Int)) (NL a1<|NZ a0<|NZ a0<|.ak (LK.has (.int .i64) ((a0.deref.drop 2).hA)/\1<=(a0.deref.drop 2).length)<|.ak (LK.has .sl a1/\0<=(IntKind.wrap .i64 ((IntKind.wrap .i64 ((a1.aR.length:Int)-1))-(((a0.deref.drop 2).hA).toInt)))/\(IntKind.wrap .i64 ((IntKind.wrap .i64 ((a1.aR.length:Int)-1))-(((a0.deref.drop 2).hA).toInt)))<a1.aR.length/\(a1.ix (IntKind.wrap .i64 ((IntKind.wrap .i64 ((a1.aR.length:Int)-1))-(((a0.deref.drop 2).hA).toInt)))).length=1)<|mn (a1.ix (IntKind.wrap .i64 ((IntKind.wrap .i64 ((a1.aR.length:Int)-1))-(((a0.deref.drop 2).hA).toInt))))<|.done 0 [VS (((a1.ix (IntKind.wrap .i64 ((IntKind.wrap .i64 ((a1.aR.length:Int)-1))-(((a0.deref.drop 2).hA).toInt)))).hA).ag)] [.cells [a3_0],.cells [VI a4_0]]) (.test (((a0.deref.hA).toInt)==(43:Int)) (NZ a0<|NZ a0<|eA (a0.deref.drop 3)<|.call 184 [((a0.deref.drop 3).hA),a1,.gI 184 [none,some 0,some 1],.ref 0 0,.ref 1 0] [.cells [a3_0],.cells [VI a4_0]] fun r1 o1=>.ak ((o1.hO)=.cells (o1.hO).cs)<|.ak (aM [.lk .sl] ((o1.hO).cs) 0 1 o1.tail)<|.ak ((o1.tail.hO)=.cells (o1.tail.hO).cs)<|.ak (aM [.lk (.int .i64)] ((o1.tail.hO).cs) 0 2 o1.tail.tail)<|NS r1<|NZ a0<|NZ a0<|.ak (LK.has (.int .u8) (a0.deref.hA)/\1<=a0.deref.length)<|.ak (jy [[.v (.int .u8 ((a0.deref.hA).toInt))]])<|.ak (ae (mk [40])+ae (⟨(bytesOf [[.v (.int .u8 ((a0.deref.hA).toInt))]]).toArray⟩)<=9223372036854775807)<|.ak (ae (((mk [40]):ByteArray)++(⟨(bytesOf [[.v (.int .u8 ((a0.deref.hA).toInt))]]).toArray⟩))+ae (mk [32])<=9223372036854775807)<|.ak (ae (((((mk [40]):ByteArray)++(⟨(bytesOf [[.v (.int .u8 ((a0.deref.hA).toInt))]]).toArray⟩)):ByteArray)++(mk [32]))+ae r1.ag<=9223372036854775807)<|.ak (ae (((((((mk [40]):ByteArray)++(⟨(bytesOf [[.v (.int .u8 ((a0.deref.hA).toInt))]]).toArray⟩)):ByteArray)++(mk [32])):ByteArray)++r1.ag)+ae (mk [32])<=9223372036854775807)<|NZ a0<|NZ a0<|eA (a0.deref.drop 4)<|.call 184 [((a0.deref.drop 4).hA),a1,.gI 184 [none,some 0,some 1],.ref 0 0,.ref 1 0] [.cells [((o1.hO).cs.getD 0 .any)],.cells [VI (((o1.tail.hO).cs.getD 0 .any).toInt)]] fun r2 o2=>.ak ((o2.hO)=.cells (o2.hO).cs)<|.ak (aM [.lk .sl] ((o2.hO).cs) 0 1 o2.tail)<|.ak ((o2.tail.hO)=.cells (o2.tail.hO).cs)<|.ak (aM [.lk (.int .i64)] ((o2.tail.hO).cs) 0 2 o2.tail.tail)<|NS r2<|.ak (ae (((((((((mk [40]):ByteArray)++(⟨(bytesOf [[.v (.int .u8 ((a0.deref.hA).toInt))]]).toArray⟩)):ByteArray)++(mk [32])):ByteArray)++r1.ag):ByteArray)++(mk [32]))+ae r2.ag<=9223372036854775807)<|.ak (ae (((((((((((mk [40]):ByteArray)++(⟨(bytesOf [[.v (.int .u8 ((a0.deref.hA).toInt))]]).toArray⟩)):ByteArray)++(mk [32])):ByteArray)++r1.ag):ByteArray)++(mk [32])):ByteArray)++r2.ag)+ae (mk [41])<=9223372036854775807)<|.done 0 [VS (((((((((((((mk [40]):ByteArray)++(⟨(bytesOf [[.v (.int .u8 ((a0.deref.hA).toInt))]]).toArray⟩)):ByteArray)++(mk [32])):ByteArray)++r1.ag):ByteArray)++(mk [32])):ByteArray)++r2.ag):ByteArray)++(mk [41]))] [.cells [((o2.hO).cs.getD 0 .any)],.cells [VI (((o2.tail.hO).cs.getD 0 .any).toInt)]]) (.test (((a0.deref.hA).toInt)==(42:Int)) (NZ a0<|NZ a0<|eA (a0.deref.drop 3)<|.call 184 [((a0.deref.drop 3).hA),a1,.gI 184 [none,some 0,some 1],.ref 0 0,.ref 1 0] [.cells [a3_0],.cells [VI a4_0]] fun r3 o3=>.ak ((o3.hO)=.cells (o3.hO).cs)<|.ak (aM [.lk .sl] ((o3.hO).cs) 0 1 o3.tail)<|.ak ((o3.tail.hO)=.cells (o3.tail.hO).cs)<|.ak (aM [.lk (.int .i64)] ((o3.tail.hO).cs) 0 2 o3.tail.tail)<|NS r3<|NZ a0<|NZ a0<|.ak (LK.has (.int .u8) (a0.deref.hA)/\1<=a0.deref.length)<|.ak (jy [[.v (.int .u8 ((a0.deref.hA).toInt))]])<|.ak (ae (mk [40])+ae (⟨(bytesOf [[.v (.int .u8 ((a0.deref.hA).toInt))]]).toArray⟩)<=9223372036854775807)<|.ak (ae (((mk [40]):ByteArray)++(⟨(bytesOf [[.v (.int .u8 ((a0.deref.hA).toInt))]]).toArray⟩))+ae (mk [32])<=9223372036854775807)<|.ak (ae (((((mk [40]):ByteArray)++(⟨(bytesOf [[.v (.int .u8 ((a0.deref.hA).toInt))]]).toArray⟩)):ByteArray)++(mk [32]))+ae r3.ag<=9223372036854775807)<|.ak (ae (((((((mk [40]):ByteArray)++(⟨(bytesOf [[.v (.int .u8 ((a0.deref.hA).toInt))]]).toArray⟩)):ByteArray)++(mk [32])):ByteArray)++r3.ag)+ae (mk [32])<=9223372036854775807)<|NZ a0<|NZ a0<|eA (a0.deref.drop 4)<|.call 184 [((a0.deref.drop 4).hA),a1,.gI 184 [none,some 0,some 1],.ref 0 0,.ref 1 0] [.cells [((o3.hO).cs.getD 0 .any)],.cells [VI (((o3.tail.hO).cs.getD 0 .any).toInt)]] fun r4 o4=>.ak ((o4.hO)=.cells (o4.hO).cs)<|.ak (aM [.lk .sl] ((o4.hO).cs) 0 1 o4.tail)<|.ak ((o4.tail.hO)=.cells (o4.tail.hO).cs)<|.ak (aM [.lk (.int .i64)] ((o4.tail.hO).cs) 0 2 o4.tail.tail)<|NS r4<|.ak (ae (((((((((mk [40]):ByteArray)++(⟨(bytesOf [[.v (.int .u8 ((a0.deref.hA).toInt))]]).toArray⟩)):ByteArray)++(mk [32])):ByteArray)++r3.ag):ByteArray)++(mk [32]))+ae r4.ag<=9223372036854775807)<|.ak (ae (((((((((((mk [40]):ByteArray)++(⟨(bytesOf [[.v (.int .u8 ((a0.deref.hA).toInt))]]).toArray⟩)):ByteArray)++(mk [32])):ByteArray)++r3.ag):ByteArray)++(mk [32])):ByteArray)++r4.ag)+ae (mk [41])<=9223372036854775807)<|.done 0 [VS (((((((((((((mk [40]):ByteArray)++(⟨(bytesOf [[.v (.int .u8 ((a0.deref.hA).toInt))]]).toArray⟩)):ByteArray)++(mk [32])):ByteArray)++r3.ag):ByteArray)++(mk [32])):ByteArray)++r4.ag):ByteArray)++(mk [41]))] [.cells [((o4.hO).cs.getD 0 .any)],.cells [VI (((o4.tail.hO).cs.getD 0 .any).toInt)]]) (.test (((a0.deref.hA).toInt)==(114:Int)) (.loop Lr Fb [a0,a1,VS (mk [])] [.cells [a3_0],.cells [VI a4_0]] (fun y8 q8=>NP (y8.hA)<|NL (y8.tail.hA)<|NS (y8.tail.tail.hA)<|.ak ((q8.hO)=.cells (q8.hO).cs)<|.ak (af [.lk .sl] ((q8.hO).cs) 0 q8.tail)<|.ak (((q8.tail.drop 0).hO)=.cells ((q8.tail.drop 0).hO).cs)<|.ak (af [.lk (.int .i64)] (((q8.tail.drop 0).hO).cs) 0 ((q8.tail.drop 0).tail))<|.ak (ae (mk [40,114,101,99,32])+ae ((y8.tail.tail.hA).ag)<=9223372036854775807)<|.ak (ae (((mk [40,114,101,99,32]):ByteArray)++((y8.tail.tail.hA).ag))+ae (mk [32])<=9223372036854775807)<|NZ (y8.hA)<|NZ (y8.hA)<|eA ((y8.hA).deref.drop 3)<|.ak (LK.has .sl (y8.tail.hA)/\cD 1 ((y8.tail.hA).aR)/\((([]:List (List AV)).length)+((y8.tail.hA).aR).length)*16<=140737488355328)<|.ak (cD 1 [[VS ((y8.tail.tail.hA).ag)]]/\(((([]:List (List AV))++((y8.tail.hA).aR)).length)+([[VS ((y8.tail.tail.hA).ag)]]:List (List AV)).length)*16<=140737488355328)<|.call 184 [(((y8.hA).deref.drop 3).hA),.sl ((([]:List (List AV))++((y8.tail.hA).aR))++([[VS ((y8.tail.tail.hA).ag)]]:List (List AV))),.gI 184 [none,some 0,some 1],.ref 0 0,.ref 1 0] [.cells [((q8.hO).cs.getD 0 .any)],.cells [VI (((q8.tail.hO).cs.getD 0 .any).toInt)]] fun r9 o9=>.ak ((o9.hO)=.cells (o9.hO).cs)<|.ak (aM [.lk .sl] ((o9.hO).cs) 0 1 o9.tail)<|.ak ((o9.tail.hO)=.cells (o9.tail.hO).cs)<|.ak (aM [.lk (.int .i64)] ((o9.tail.hO).cs) 0 2 o9.tail.tail)<|NS r9<|.ak (ae (((((mk [40,114,101,99,32]):ByteArray)++((y8.tail.tail.hA).ag)):ByteArray)++(mk [32]))+ae r9.ag<=9223372036854775807)<|.ak (ae (((((((mk [40,114,101,99,32]):ByteArray)++((y8.tail.tail.hA).ag)):ByteArray)++(mk [32])):ByteArray)++r9.ag)+ae (mk [41])<=9223372036854775807)<|.done 0 [VS (((((((((mk [40,114,101,99,32]):ByteArray)++((y8.tail.tail.hA).ag)):ByteArray)++(mk [32])):ByteArray)++r9.ag):ByteArray)++(mk [41]))] [.cells [((o9.hO).cs.getD 0 .any)],.cells [VI (((o9.tail.hO).cs.getD 0 .any).toInt)]]) (fun y8 q8=>.ak ((q8.hO)=.cells (q8.hO).cs)<|.ak (af [.lk .sl] ((q8.hO).cs) 0 q8.tail)<|.ak (((q8.tail.drop 0).hO)=.cells ((q8.tail.drop 0).hO).cs)<|.ak (af [.lk (.int .i64)] (((q8.tail.drop 0).hO).cs) 0 ((q8.tail.drop 0).tail))<|.done 0 [.any] [.cells [((q8.hO).cs.getD 0 .any)],.cells [VI (((q8.tail.hO).cs.getD 0 .any).toInt)]])) (NZ a0<|NZ a0<|.ak (LK.has (.int .u8) (a0.deref.hA)/\1<=a0.deref.length)<|.ak (jy [[.v (.int .u8 ((a0.deref.hA).toInt))]])<|.done 0 [VS (⟨(bytesOf [[.v (.int .u8 ((a0.deref.hA).toInt))]]).toArray⟩)] [.cells [a3_0],.cells [VI a4_0]])))))
theorem wC(a0:AV)(a1:AV)(a3_0:AV)(a4_0:Int)(ha0:LK.has .ptr a0)(ha1:LK.has .sl a1)(ha3_0:LK.has .sl a3_0)(h:dF 100 (D8 a0 a1 a3_0 a4_0) R):aq Tryz.prog 184 [a0,a1,.gI 184 [none,some 0,some 1],.ref 0 0,.ref 1 0] [.cells [a3_0],.cells [VI a4_0]] R :=
 aq.oP (bu (cc (ah (bY ha3_0) aD)) (bu (cc (ah (aA _) aD)) cx)) (aq.up (ah (bF ha0) (ah (bY ha1) (ah (aA _) (ah (aA _) (ah (aA _) aD))))) (oF KT {mu:=[(2,.zn 184 [none,some 0,some 1]),(3,.one (.obj [.lk .sl])),(4,.one (.obj [.lk (.int .i64)]))],own:=[]} Tryz.f184 h))
def Gm(x0:AV)(x1:AV)(x9:ByteArray)(o0_0:AV)(o1_0:Int):Tree :=
 NP x0<|NL x1<|NS (VS x9)<|.ak (Ob.cells [o0_0]=.cells [o0_0])<|.ak (af [.lk .sl] [o0_0] 0 [.cells [VI o1_0]])<|.ak (Ob.cells [VI o1_0]=.cells [VI o1_0])<|.ak (af [.lk (.int .i64)] [VI o1_0] 0 [])<|.test (ac x9==ac (mk [])) (.call 94 [VI o1_0] [] fun r1 o1=>NS r1<|.ak (ae (mk [116])+ae r1.ag<=9223372036854775807)<|.done 0 [x0,x1,VS (((mk [116]):ByteArray)++r1.ag)] [.cells [o0_0],.cells [VI (IntKind.wrap .i64 (o1_0+1))]]) (.call 185 [o0_0,VS x9] [] fun r2 o2=>NB r2<|.test r2.toBool (.call 94 [VI o1_0] [] fun r3 o3=>NS r3<|.ak (ae (mk [116])+ae r3.ag<=9223372036854775807)<|.done 0 [x0,x1,VS (((mk [116]):ByteArray)++r3.ag)] [.cells [o0_0],.cells [VI (IntKind.wrap .i64 (o1_0+1))]]) (.done 1 [x0,x1,VS x9] [.cells [o0_0],.cells [VI o1_0]]))
abbrev DI:=cH Tryz.prog 100 Lr Fb
theorem LZ(x0:AV)(x1:AV)(x9:ByteArray)(o0_0:AV)(o1_0:Int)(h:l8 100 (Gm x0 x1 x9 o0_0 o1_0) DI U):DI [x0,x1,VS x9] [.cells [o0_0],.cells [VI o1_0]] U :=
 gQ KT h
def LN(a0:AV)(a1:ByteArray):Tree :=
 .call 202 [a0,VS a1] [] fun r1 o1=>NI r1<|.done 0 [VB (decide (r1.toInt≥(0:Int)))] []
theorem Oo(a0:AV)(a1:ByteArray)(ha0:LK.has .sl a0)(h:dF 9 (LN a0 a1) R):aq Tryz.prog 185 [a0,VS a1] [] R :=
 uQ (ah (bY ha0) (ah (aA _) aD)) (oQ [] Tryz.f185 h)
def BB(a0_0:ByteArray)(a0_1:AV)(a1:ByteArray):Tree :=
 .test (!(ac a0_0==ac (mk []))) (.test (ac a0_0==ac a1) (.done 0 [VI 1] []) (.done 0 [VI 0] [])) (.call 90 [.agg [VS a0_0,a0_1]] [] fun r1 o1=>NS r1<|.test (ac r1.ag==ac (mk [114,101,99])) (NG a0_1 1 2<|mn (a0_1.ix (1:Int))<|.test (ac (((a0_1.ix (1:Int)).hA).ag)==ac a1) (.done 0 [VI 0] []) (NG a0_1 2 2<|NE (a0_1.ix (2:Int))<|.call 186 [.agg [VS (((a0_1.ix (2:Int)).getD 0 .any).ag),((a0_1.ix (2:Int)).getD 1 .any)],VS a1] [] fun r2 o2=>NI r2<|.done 0 [VI r2.toInt] [])) (NG a0_1 1 2<|NE (a0_1.ix (1:Int))<|.call 186 [.agg [VS (((a0_1.ix (1:Int)).getD 0 .any).ag),((a0_1.ix (1:Int)).getD 1 .any)],VS a1] [] fun r3 o3=>NI r3<|NG a0_1 2 2<|NE (a0_1.ix (2:Int))<|.call 186 [.agg [VS (((a0_1.ix (2:Int)).getD 0 .any).ag),((a0_1.ix (2:Int)).getD 1 .any)],VS a1] [] fun r4 o4=>NI r4<|.done 0 [VI (IntKind.wrap .i64 (r3.toInt+r4.toInt))] []))
theorem Dn(a0_0:ByteArray)(a0_1:AV)(a1:ByteArray)(ha0_1:LK.has .sl a0_1)(h:dF 41 (BB a0_0 a0_1 a1) R):aq Tryz.prog 186 [.agg [VS a0_0,a0_1],VS a1] [] R :=
 uQ (ah (cr (ah (aA _) (ah (bY ha0_1) aD))) (ah (aA _) aD)) (oQ [] Tryz.f186 h)
def Am(a0_0:ByteArray)(a0_1:AV)(a1:ByteArray)(a2_0:ByteArray)(a2_1:AV):Tree :=
 .test (!(ac a0_0==ac (mk []))) (.test (ac a0_0==ac a1) (.done 0 [.agg [VS a2_0,a2_1]] []) (.done 0 [.agg [VS a0_0,a0_1]] [])) (.call 90 [.agg [VS a0_0,a0_1]] [] fun r1 o1=>NS r1<|.test (ac r1.ag==ac (mk [114,101,99])) (NG a0_1 1 2<|mn (a0_1.ix (1:Int))<|.test (ac (((a0_1.ix (1:Int)).hA).ag)==ac a1) (.done 0 [.agg [VS a0_0,a0_1]] []) (NG a0_1 1 2<|NE (a0_1.ix (1:Int))<|NG a0_1 2 2<|NE (a0_1.ix (2:Int))<|.call 187 [.agg [VS (((a0_1.ix (2:Int)).getD 0 .any).ag),((a0_1.ix (2:Int)).getD 1 .any)],VS a1,.agg [VS a2_0,a2_1]] [] fun r2 o2=>NA r2<|.call 69 [VS (mk [114,101,99]),.sl [[VS (((a0_1.ix (1:Int)).getD 0 .any).ag),((a0_1.ix (1:Int)).getD 1 .any)],[VS ((r2.cs.getD 0 .any).ag),(r2.cs.getD 1 .any)]]] [] fun r3 o3=>NA r3<|.done 0 [.agg [VS ((r3.cs.getD 0 .any).ag),(r3.cs.getD 1 .any)]] [])) (.call 90 [.agg [VS a0_0,a0_1]] [] fun r4 o4=>NS r4<|NG a0_1 1 2<|NE (a0_1.ix (1:Int))<|.call 187 [.agg [VS (((a0_1.ix (1:Int)).getD 0 .any).ag),((a0_1.ix (1:Int)).getD 1 .any)],VS a1,.agg [VS a2_0,a2_1]] [] fun r5 o5=>NA r5<|NG a0_1 2 2<|NE (a0_1.ix (2:Int))<|.call 187 [.agg [VS (((a0_1.ix (2:Int)).getD 0 .any).ag),((a0_1.ix (2:Int)).getD 1 .any)],VS a1,.agg [VS a2_0,a2_1]] [] fun r6 o6=>NA r6<|.call 69 [VS r4.ag,.sl [[VS ((r5.cs.getD 0 .any).ag),(r5.cs.getD 1 .any)],[VS ((r6.cs.getD 0 .any).ag),(r6.cs.getD 1 .any)]]] [] fun r7 o7=>NA r7<|.done 0 [.agg [VS ((r7.cs.getD 0 .any).ag),(r7.cs.getD 1 .any)]] []))
theorem CP(a0_0:ByteArray)(a0_1:AV)(a1:ByteArray)(a2_0:ByteArray)(a2_1:AV)(ha0_1:LK.has .sl a0_1)(ha2_1:LK.has .sl a2_1)(h:dF 58 (Am a0_0 a0_1 a1 a2_0 a2_1) R):aq Tryz.prog 187 [.agg [VS a0_0,a0_1],VS a1,.agg [VS a2_0,a2_1]] [] R :=
 uQ (ah (cr (ah (aA _) (ah (bY ha0_1) aD))) (ah (aA _) (ah (cr (ah (aA _) (ah (bY ha2_1) aD))) aD))) (oQ [] Tryz.f187 h)
def Hb:LI:={hd:={cd:=[(0,.k .sl),(1,.c (.func (.func 166) #[] #[])),(7,.k (.int .i64)),(8,.k (.int .i64))]},xs:={},rt:={cd:=[(4,.k (.int .i64))]},ex:=0}
def Ko:Code:=cY (cQ Tryz.f188) 2
def I7:List (Nat×LI):=[(2,Hb)]
def JK(a0:AV):Tree :=
 NL a0<|.loop Ko Hb [a0,.v (.func (.func 166) #[] #[]),VI (a0.aR.length:Int),VI 0] [] (fun y2 q2=>.done 0 [VI (-1)] []) (fun y2 q2=>NI (y2.hA)<|.done 0 [VI ((y2.hA).toInt)] [])
theorem Pw(a0:AV)(ha0:LK.has .sl a0)(h:dF 19 (JK a0) R):aq Tryz.prog 188 [a0,.v (.func (.func 166) #[] #[])] [] R :=
 uQ (ah (bY ha0) (ah (aA _) aD)) (oQ I7 Tryz.f188 h)
def Ey(x0:AV)(x7:Int)(x8:Int):Tree :=
 NL x0<|.ak (AV.v (.func (.func 166) #[] #[])=.v (.func (.func 166) #[] #[]))<|NI (VI x7)<|NI (VI x8)<|.test (decide (x8<x7)) (NG x0 x8 1<|mn (x0.ix x8)<|.call 166 [VS (((x0.ix x8).hA).ag)] [] fun r1 o1=>NB r1<|.test r1.toBool (.done 2 [VI x8] []) (.done 0 [x0,.v (.func (.func 166) #[] #[]),VI x7,VI (IntKind.wrap .i64 (x8+1))] [])) (.done 1 [] [])
abbrev GG:=cH Tryz.prog 19 Ko Hb
theorem JL(x0:AV)(x7:Int)(x8:Int)(h:l8 19 (Ey x0 x7 x8) GG U):GG [x0,.v (.func (.func 166) #[] #[]),VI x7,VI x8] [] U :=
 gQ I7 h
def FK(a0:AV)(e1_0:List (List AV)):Tree :=
 NZ a0<|NZ a0<|.ak (LK.has (.int .u8) (a0.deref.hA)/\1<=a0.deref.length)<|.test (((a0.deref.hA).toInt)==(110:Int)) (NZ a0<|NZ a0<|mn (a0.deref.drop 1)<|.call 185 [.sl e1_0,VS (((a0.deref.drop 1).hA).ag)] [] fun r1 o1=>NB r1<|.test (!r1.toBool) (NZ a0<|NZ a0<|mn (a0.deref.drop 1)<|.ak (cD 1 [[VS (((a0.deref.drop 1).hA).ag)]]/\((e1_0.length)+([[VS (((a0.deref.drop 1).hA).ag)]]:List (List AV)).length)*16<=140737488355328)<|.done 0 [.any] [.cells [.vec 1],.vec 1 (e1_0++([[VS (((a0.deref.drop 1).hA).ag)]]:List (List AV)))]) (.done 0 [.any] [.cells [.vec 1],.vec 1 e1_0])) (.done 0 [.any] [.cells [.vec 1],.vec 1 e1_0])
theorem MZ(a0:AV)(e1_0:List (List AV))(ha0:LK.has .ptr a0)(h:dF 24 (FK a0 e1_0) R):aq Tryz.prog 189 [a0,.ref 0 0] [.cells [.vec 1],.vec 1 e1_0] R :=
 aq.oP (bu (cc (ah (aA _) aD)) (bu (gq _) cx)) (aq.up (ah (bF ha0) (ah (aA _) aD)) (oF [] {mu:=[(1,.one (.obj [.vec 1]))],own:=[]} Tryz.f189 h))
def F5:LI:={hd:={cd:=[(0,.k .sl),(1,.k .str),(7,.k (.int .i64)),(8,.k (.int .i64))]},xs:={},rt:={cd:=[(4,.k (.int .i64))]},ex:=0}
def IB:Code:=cY (cQ Tryz.f202) 2
def KY:List (Nat×LI):=[(2,F5)]
def JD(a0:AV)(a1:ByteArray):Tree :=
 NL a0<|.loop IB F5 [a0,VS a1,VI (a0.aR.length:Int),VI 0] [] (fun y1 q1=>.done 0 [VI (-1)] []) (fun y1 q1=>NI (y1.hA)<|.done 0 [VI ((y1.hA).toInt)] [])
theorem NV(a0:AV)(a1:ByteArray)(ha0:LK.has .sl a0)(h:dF 19 (JD a0 a1) R):aq Tryz.prog 202 [a0,VS a1] [] R :=
 uQ (ah (bY ha0) (ah (aA _) aD)) (oQ KY Tryz.f202 h)
def G8(x0:AV)(x1:ByteArray)(x7:Int)(x8:Int):Tree :=
 NL x0<|NS (VS x1)<|NI (VI x7)<|NI (VI x8)<|.test (decide (x8<x7)) (NG x0 x8 1<|mn (x0.ix x8)<|.test (ac x1==ac (((x0.ix x8).hA).ag)) (.done 2 [VI x8] []) (.done 0 [x0,VS x1,VI x7,VI (IntKind.wrap .i64 (x8+1))] [])) (.done 1 [] [])
abbrev EW:=cH Tryz.prog 19 IB F5
theorem IU(x0:AV)(x1:ByteArray)(x7:Int)(x8:Int)(h:l8 19 (G8 x0 x1 x7 x8) EW U):EW [x0,VS x1,VI x7,VI x8] [] U :=
 gQ KY h
end
end Go.Proofs.Trees
namespace Go.Proofs.Trees
open Go Go.VL
theorem bA(i:Nat)(h:i<1000000000000):IntKind.wrap .i64 ((i:Int)+1)=((i+1:Nat):Int):=by rw[wrap64]<;>omega
inductive E where
 |atom (s:List UInt8)
 |list (l:List E)
mutual
def E.cq:E->AV
 | .atom s=>.ptr [.v (.string (mk s)),.v (.slice none 0 0)]
 | .list l=>.ptr [.v (.string (mk [])),.sl (E.l0 l)]
def E.l0:List E->List (List AV)
 |[]=>[]
 |e::l=>[e.cq]::E.l0 l
end
mutual
def E.iw:E->List AV
 | .atom s=>[.v (.string (mk s)),.v (.slice none 0 0)]
 | .list l=>[.v (.string (mk [])),.sl (E.bj l)]
def E.bj:List E->List (List AV)
 |[]=>[]
 |e::l=>e.iw::E.bj l
end
def E.kC(e:E):AV:=.agg e.iw
theorem uU(l r:List E):E.l0 (l++r)=E.l0 l++E.l0 r:=by
 induction l with
 |nil=>rfl
 |cons e l ih=>simp[E.l0,ih]
theorem pW(l r:List E):E.bj (l++r)=E.bj l++E.bj r:=by
 induction l with
 |nil=>rfl
 |cons e l ih=>simp[E.bj,ih]
theorem rD(l:List E):(E.l0 l).length=l.length:=by
 induction l with
 |nil=>rfl
 |cons e l ih=>simp[E.l0,ih]
theorem eg(l:List E):(E.bj l).length=l.length:=by
 induction l with
 |nil=>rfl
 |cons e l ih=>simp[E.bj,ih]
def eW(b:UInt8):Bool:=decide ((97<=b.toNat/\b.toNat<=122)\/(48<=b.toNat/\b.toNat<=57)\/b.toNat=43\/b.toNat=42)
def rN(f:List UInt8->Option (E×List UInt8)):Nat->List UInt8->List E->Option (E×List UInt8)
 |0,_,_=>none
 |
  n+1,s,acc=>match f s with
  |some (p,c::r)=>if c.toNat=41 then some (.list (acc++[p]),r)else if c.toNat=32 then rN f n r (acc++[p])else none
  |_=>none
def rd:Nat->List UInt8->Option (E×List UInt8)
 |0,s=>if s.takeWhile eW=[]then none else some (.atom (s.takeWhile eW),s.dropWhile eW)
 |k+1,s=>if s.takeWhile eW=[]then(match s with
  |c::r=>if c.toNat=40 then rN (rd k) (r.length+1) r []else none
  |[]=>none)else some (.atom (s.takeWhile eW),s.dropWhile eW)
theorem AR{f:List UInt8->Option (E×List UInt8)}(hf:∀s e r,f s=some (e,r)->r.length<s.length):∀(n:Nat) (s:List UInt8) (acc:List E) (e:E) (r:List UInt8),rN f n s acc=some (e,r)->r.length<s.length
 |0,s,acc,e,r,h=>by cases h
 |
  n+1,s,acc,e,r,h=>by
  simp only[rN]at h
  split at h
  ·rename_i p c r' hs
   have:=hf _ _ _ hs
   simp only[aw]at this
   split at h
   ·cases h;omega
   ·split at h
    ·have:=AR hf n _ _ _ _ h;omega
    ·cases h
  ·cases h
theorem nY{s:List UInt8}(h:¬s.takeWhile eW=[]):(s.dropWhile eW).length<s.length:=by
 have h1:=congrArg List.length (bV (p:=eW) (l:=s))
 simp only[an]at h1
 have:0<(s.takeWhile eW).length:=List.length_pos_iff.2 h
 omega
theorem xl:∀(k:Nat) (s:List UInt8) (e:E) (r:List UInt8),rd k s=some (e,r)->r.length<s.length
 |
  0,s,e,r,h=>by
  simp only[rd]at h
  split at h
  ·cases h
  ·rename_i hn;cases h;exact nY hn
 |
  k+1,s,e,r,h=>by
  simp only[rd]at h
  split at h
  ·split at h
   ·split at h
    ·have:=AR (xl k) _ _ _ _ _ h
     simp only[aw];omega
    ·cases h
   ·cases h
  ·rename_i hn;cases h;exact nY hn
theorem ME(b:UInt8):aq Tryz.prog 174 [.v (.int .u8 (b.toNat:Int))] [] (bC (.v (.bool (eW b)))):=by
 refine OC _ ?_
 simp only[Lj,↓zq,zs,af,bC,eW]
 repeat' (apply aH<;>intro _)
 all_goals first|(congr 2;rw[cu];simp;omega)|(congr 2;simp;omega)
theorem xn{s:List UInt8}{i:Nat}(hi:i<s.length)(hb:eW (s.getD i 0)=true):((s.drop i).takeWhile eW).length=((s.drop (i+1)).takeWhile eW).length+1:=by
 have e:s.drop i=s.getD i 0::s.drop (i+1):=by
  rw[aY hi];simp[aa,hi]
 rw[e,List.takeWhile_cons_of_pos hb];simp
theorem qk{s:List UInt8}{i:Nat}(hi:i<s.length)(hb:eW (s.getD i 0)=false):(s.drop i).takeWhile eW=[]:=by
 have e:s.drop i=s.getD i 0::s.drop (i+1):=by
  rw[aY hi];simp[aa,hi]
 rw[e,List.takeWhile_cons_of_neg (by rw[hb];simp)]
theorem Fm(s:List UInt8)(hs:s.length<=8000)(d:Int):∀(k i:Nat),i+k=s.length->Fh [.v (.string (mk s)),.v (.int .i64 d),.v (.int .i64 (i:Int))] [] (iG 1 [.v (.string (mk s)),.v (.int .i64 d),.v (.int .i64 ((i+((s.drop i).takeWhile eW).length:Nat):Int))] [])
 |
  0,i,hi=>by
  refine HH _ _ _ ?_
  have hd:s.drop i=[]:=bJ (by omega)
  simp only[FR,↓zq,zs,af,zt]
  exact⟨fun h=>by omega,fun _=>by simp[iG,hd]⟩
 |
  k+1,i,hi=>by
  have hlt:i<s.length:=by omega
  refine HH _ _ _ ?_
  simp only[FR,↓zq,zs,af,zt,lY s i hlt]
  refine⟨fun _=>⟨by omega,?_⟩,fun h=>by omega⟩
  refine aj (ME _) ?_
  simp only[↓zq,zs,af]
  refine⟨fun hb=>?_,fun hb=>?_⟩
  ·rw[bA i (by omega)]
   have:=Fm s hs d k (i+1) (by omega)
   rw[xn hlt hb,show i+(((s.drop (i+1)).takeWhile eW).length+1)=i+1+((s.drop (i+1)).takeWhile eW).length by omega]
   exact this
  ·simp[iG,qk hlt hb]
def oK(s:List UInt8):Option (E×List UInt8)->AV
 |some (e,r)=>.cG [e.cq,.v (.string (mk r))]
 |none=>.cG [.v (.pointer none),.v (.string (mk s))]
theorem cN(e:E):LK.has .ptr e.cq=True:=by cases e<;>simp[E.cq,ci]
theorem ej(e:E):e.cq.isNil=false:=by cases e<;>rfl
theorem tz(s:List UInt8):s.take (s.takeWhile eW).length=s.takeWhile eW:=by
 have h:=bV (p:=eW) (l:=s)
 have:(s.takeWhile eW++s.dropWhile eW).take (s.takeWhile eW).length=s.takeWhile eW:=List.take_left
 rw[h]at this;exact this
theorem xV(s:List UInt8):s.drop (s.takeWhile eW).length=s.dropWhile eW:=by
 have h:=bV (p:=eW) (l:=s)
 have:(s.takeWhile eW++s.dropWhile eW).drop (s.takeWhile eW).length=s.dropWhile eW:=List.drop_left
 rw[h]at this;exact this
theorem Ay(c:UInt8)(r:List UInt8):(List.take (r.length+1) (c::r)).drop (bW 1)=r:=by simp
theorem K5(s0:List UInt8)(k:Nat)(hk:k<300)(ih:∀s,s.length<=8000->aq Tryz.prog 147 [.v (.string (mk s)),.v (.int .i64 ((300-k:Nat):Int))] [] (bC (oK s (rd k s)))) :
 ∀(n:Nat) (s:List UInt8) (acc:List E),s.length<n->s.length+acc.length<=8000->EO [.v (.string (mk s0)),.v (.int .i64 ((300-(k+1):Nat):Int)),.v (.string (mk s))] [.cells [.v (.string (mk [])),.any],.vec 1 (E.l0 acc)]
  (rQ (match rN (rd k) n s acc with|some (e,r)=>(2,[e.cq,.v (.string (mk r))],[])|none=>(2,[.v (.pointer none),.v (.string (mk s0))],[])))
 |0,s,acc,hn,_=>by omega
 |
  n+1,s,acc,hn,hl=>by
  refine Pn _ _ _ _ _ ?_
  simp only[I4,↓zq,zs,af,AW]
  have hd:IntKind.wrap .i64 (((300-(k+1):Nat):Int)+1)=((300-k:Nat):Int):=by rw[wrap64]<;>omega
  rw[hd]
  refine aj (ih s (by omega)) ?_
  have hlt:=xl k s
  cases hr:rd k s with
  |
   none =>
   simp only[oK,↓zq,zs,af,rN,hr]
   simp[rQ]
  |
   some q =>
   obtain⟨e,r⟩:=q
   have:=hlt e r hr
   cases r with
   |
    nil =>
    simp only[oK,↓zq,zs,af,zt,rN,hr,cN,ej]
    simp[rQ]
   |
    cons c r =>
    simp only[aw]at this
    have hb:=lY (c::r) 0 (by simp)
    simp only[cL,dh]at hb
    have e2:(List.take (c::r).length (c::r)).drop 1=r:=by simp
    simp only[oK,↓zq,zs,af,zt,rN,hr,cN,ej,hb,e2,rD]
    refine⟨fun h=>(by cases h),fun _=>⟨fun h=>(by cases h),fun _=>⟨⟨fun c hc=>(by simp at hc;rw[hc];rfl),by omega⟩,by omega,by omega,fun h41=>?_,fun h41=>⟨by omega,fun h32=>?_,fun h32=>?_⟩⟩⟩⟩
    ·have h41':c.toNat=41:=by omega
     rw[Ay,if_pos h41']
     simp[rQ,E.cq,uU,E.l0]
    ·have h41':¬c.toNat=41:=by omega
     have h32':¬c.toNat=32:=by omega
     rw[if_neg h41',if_neg h32']
    ·have h41':¬c.toNat=41:=by omega
     have h32':c.toNat=32:=by omega
     rw[Ay,if_neg h41',if_pos h32']
     have:=K5 s0 k hk ih n r (acc++[e]) (by omega) (by simp;omega)
     simpa[uU,E.l0]using this
theorem Pf:∀(k:Nat),k<=300->∀s:List UInt8,s.length<=8000->aq Tryz.prog 147 [.v (.string (mk s)),.v (.int .i64 ((300-k:Nat):Int))] [] (bC (oK s (rd k s))):=by
 intro k
 induction k with
 |
  zero =>
  intro hk s hs
  refine KR _ _ ?_
  unfold EI
  refine cw (Fm s hs _ s.length 0 (by omega)) ?_
  simp only[↓zq,zs,af,zt,aU,bC]
  have hw:(s.takeWhile eW).length<=s.length:=by
   have:=congrArg List.length (bV (p:=eW) (l:=s))
   simp only[an]at this;omega
  refine⟨fun h=>⟨by omega,by omega,?_⟩,fun h=>?_⟩
  ·have hne:¬s.takeWhile eW=[]:=fun e=>by rw[e]at h;simp at h
   simp only[rd,if_neg hne,oK,E.cq,tz,xV]
  ·have hnil:s.takeWhile eW=[]:=List.eq_nil_of_length_eq_zero (by omega)
   simp only[rd,if_pos hnil,oK]
   refine⟨fun _=>trivial,fun hne=>⟨?_,?_⟩⟩
   ·cases s with
    |nil=>exact absurd rfl hne
    |cons c s=>simp
   ·exact⟨fun _=>trivial,fun _=>⟨fun _=>trivial,fun h=>absurd rfl h⟩⟩
 |
  succ k ih =>
  intro hk s hs
  refine KR _ _ ?_
  unfold EI
  refine cw (Fm s hs _ s.length 0 (by omega)) ?_
  simp only[↓zq,zs,af,zt,aU,bC]
  have hw:(s.takeWhile eW).length<=s.length:=by
   have:=congrArg List.length (bV (p:=eW) (l:=s))
   simp only[an]at this;omega
  refine⟨fun h=>⟨by omega,by omega,?_⟩,fun h=>?_⟩
  ·have hne:¬s.takeWhile eW=[]:=fun e=>by rw[e]at h;simp at h
   simp only[rd,if_neg hne,oK,E.cq,tz,xV]
  ·have hnil:s.takeWhile eW=[]:=List.eq_nil_of_length_eq_zero (by omega)
   simp only[rd,if_pos hnil]
   cases s with
   |nil=>simp[oK]
   |
    cons c s =>
    have hb:=lY (c::s) 0 (by simp)
    simp only[cL,dh]at hb
    simp only[aw]at hs
    simp only[↓zq,zs,af,hb,Ay]
    refine⟨fun h=>(by cases h),fun _=>⟨by omega,fun h40=>?_,fun h40=>⟨fun h300=>?_,fun h300=>⟨by omega,?_⟩⟩⟩⟩
    ·have:¬c.toNat=40:=by omega
     rw[if_neg this];rfl
    ·omega
    ·have h40':c.toNat=40:=by omega
     rw[if_pos h40']
     refine jp (K5 (c::s) k (by omega) (ih (by omega)) (s.length+1) s [] (by omega) (by simp;omega)) (fun ys o e=>?_) (fun ys o e=>?_)
     ·split at e<;>cases e
     ·split at e<;>cases e
      ·rename_i e' r' hr
       simp only[↓zq,zs,af,cN]
       simp only[hr,oK]
      ·rename_i hr
       simp only[↓zq,zs,af]
       simp only[hr,oK]
end Go.Proofs.Trees
namespace Go.Proofs.Trees
open Go Go.VL
mutual
def E.sz:E->Nat
 | .atom _=>1
 | .list l=>1+E.jk l
def E.jk:List E->Nat
 |[]=>0
 |e::l=>e.sz+E.jk l
end
mutual
def E.ok:E->Prop
 | .atom s=>s≠[]
 | .list l=>E.CO l
def E.CO:List E->Prop
 |[]=>True
 |e::l=>e.ok/\E.CO l
end
theorem w8(l r:List E):E.jk (l++r)=E.jk l+E.jk r:=by
 induction l with
 |nil=>simp[E.jk]
 |cons e l ih=>simp[E.jk,ih];omega
end Go.Proofs.Trees
