/-
  Part of a proof: Go functions read by values, trees of functions, their contracts.
-/
import Derived.Test.YtphdaefkjfbfoaaGreatDoorP3
import Derived.Shelf.Lays
import Derived.Shelf.LaysM
import Derived.Shelf.Strconv.Itoa3
import Derived.Shelf.Strconv.Atoi
import Derived.Shelf.Strings.SlTrimAscii
import Derived.Shelf.Strings.Search3
import Derived.Test.YtphdaefkjfbfoaaGreatDoorProg
set_option linter.unusedVariables false
set_option linter.unusedSimpArgs false
open And renaming intro→aF
open Bool renaming and_eq_true→au,eq_iff_iff→cX,true_and→bW
open ByteArray renaming extract→bP,size→ac,toList→ae
open Int renaming cast_ofNat_Int→cV,ofNat_eq_natCast→cz,tmod→du,toNat→bM
open List renaming all_cons→cJ,drop_eq_getElem_cons→ba,drop_eq_nil_of_le→bB,getD_eq_getElem?_getD→aa,length_append→an,length_cons→aq,mem_append→aK,mem_cons→aI,mem_map→ca,nil_append→bh,takeWhile_append_dropWhile→bL
open Nat renaming zero_add→aR
open UInt8 renaming ofNat→aX
namespace Go.Proofs
open Go.Shelf
def Tryz.uO:Go.Shelf.Ren:=⟨fun|160=>152|232=>177|231=>176|227=>178|234=>180|233=>179|236=>182|235=>181|228=>198|271=>201|151=>200|197=>199|120=>216|152=>215|260=>214|137=>221|119=>222|224=>212|225=>211|217=>210|266=>219|n=>n,fun|9=>9|4=>4|3=>3|5=>5|117=>219|116=>218|0=>0|124=>222|21=>21|105=>240|46=>230|119=>260|139=>263|138=>262|n=>n,fun|3=>4|4=>5|n=>n⟩
theorem Tryz.CT:Go.Proofs.Lays.n160 Tryz.prog Tryz.uO:={
 mixed:=by kernel_rfl,
 f119:=Tryz.func222.trans (congrArg some (by kernel_rfl)),
 f120:=Tryz.func216.trans (congrArg some (by kernel_rfl)),
 f137:=Tryz.func221.trans (congrArg some (by kernel_rfl)),
 f151:=Tryz.func200.trans (congrArg some (by kernel_rfl)),
 f152:=Tryz.func215.trans (congrArg some (by kernel_rfl)),
 f160:=Tryz.func152.trans (congrArg some (by kernel_rfl)),
 f197:=Tryz.func199.trans (congrArg some (by kernel_rfl)),
 f217:=Tryz.func210.trans (congrArg some (by kernel_rfl)),
 f224:=Tryz.func212.trans (congrArg some (by kernel_rfl)),
 f225:=Tryz.func211.trans (congrArg some (by kernel_rfl)),
 f227:=Tryz.func178.trans (congrArg some (by kernel_rfl)),
 f228:=Tryz.func198.trans (congrArg some (by kernel_rfl)),
 f231:=Tryz.func176.trans (congrArg some (by kernel_rfl)),
 f232:=Tryz.func177.trans (congrArg some (by kernel_rfl)),
 f233:=Tryz.func179.trans (congrArg some (by kernel_rfl)),
 f234:=Tryz.func180.trans (congrArg some (by kernel_rfl)),
 f235:=Tryz.func181.trans (congrArg some (by kernel_rfl)),
 f236:=Tryz.func182.trans (congrArg some (by kernel_rfl)),
 f260:=Tryz.func214.trans (congrArg some (by kernel_rfl)),
 f266:=Tryz.func219.trans (congrArg some (by kernel_rfl)),
 f271:=Tryz.func201.trans (congrArg some (by kernel_rfl)),
 t0:=Tryz.underlying0,
 a0:=Tryz.isAgg0,
 z0:=Tryz.sizeOf0,
 v0:=Tryz.zeroValue0,
 t3:=Tryz.underlying3,
 a3:=Tryz.isAgg3,
 z3:=Tryz.sizeOf3,
 v3:=Tryz.zeroValue3,
 t4:=Tryz.underlying4,
 a4:=Tryz.isAgg4,
 z4:=Tryz.sizeOf4,
 v4:=Tryz.zeroValue4,
 t5:=Tryz.underlying5,
 a5:=Tryz.isAgg5,
 z5:=Tryz.sizeOf5,
 v5:=Tryz.zeroValue5,
 t9:=Tryz.underlying9,
 a9:=Tryz.isAgg9,
 z9:=Tryz.sizeOf9,
 v9:=Tryz.zeroValue9,
 t21:=Tryz.underlying21,
 a21:=Tryz.isAgg21,
 z21:=Tryz.sizeOf21,
 v21:=Tryz.zeroValue21,
 t46:=Tryz.underlying230,
 a46:=Tryz.isAgg230,
 z46:=Tryz.sizeOf230,
 v46:=Tryz.zeroValue230,
 t105:=Tryz.underlying240,
 a105:=Tryz.isAgg240,
 z105:=Tryz.sizeOf240,
 v105:=Tryz.zeroValue240,
 t116:=Tryz.underlying218,
 a116:=Tryz.isAgg218,
 z116:=Tryz.sizeOf218,
 t117:=Tryz.underlying219,
 a117:=Tryz.isAgg219,
 z117:=Tryz.sizeOf219,
 v117:=Tryz.zeroValue219,
 t119:=Tryz.underlying260,
 a119:=Tryz.isAgg260,
 z119:=Tryz.sizeOf260,
 t124:=Tryz.underlying222,
 a124:=Tryz.isAgg222,
 z124:=Tryz.sizeOf222,
 v124:=Tryz.zeroValue222,
 t138:=Tryz.underlying262,
 a138:=Tryz.isAgg262,
 z138:=Tryz.sizeOf262,
 v138:=Tryz.zeroValue262,
 t139:=Tryz.underlying263,
 a139:=Tryz.isAgg263,
 z139:=Tryz.sizeOf263,
 v139:=Tryz.zeroValue263,
 g3:=by kernel_rfl,
 g4:=by kernel_rfl}
def Tryz.u9:Go.Shelf.Ren:=⟨fun|144=>151|143=>175|219=>197|217=>210|225=>211|224=>212|267=>213|266=>219|314=>220|n=>n,fun|9=>9|4=>4|3=>3|5=>5|46=>230|146=>258|51=>251|n=>n,fun|1=>3|n=>n⟩
theorem Tryz.BU:Go.Proofs.Lays.n144 Tryz.prog Tryz.u9:={
 mixed:=by kernel_rfl,
 f143:=Tryz.func175.trans (congrArg some (by kernel_rfl)),
 f144:=Tryz.func151.trans (congrArg some (by kernel_rfl)),
 f217:=Tryz.func210.trans (congrArg some (by kernel_rfl)),
 f219:=Tryz.func197.trans (congrArg some (by kernel_rfl)),
 f224:=Tryz.func212.trans (congrArg some (by kernel_rfl)),
 f225:=Tryz.func211.trans (congrArg some (by kernel_rfl)),
 f266:=Tryz.func219.trans (congrArg some (by kernel_rfl)),
 f267:=Tryz.func213.trans (congrArg some (by kernel_rfl)),
 f314:=Tryz.func220.trans (congrArg some (by kernel_rfl)),
 t3:=Tryz.underlying3,
 a3:=Tryz.isAgg3,
 z3:=Tryz.sizeOf3,
 v3:=Tryz.zeroValue3,
 t4:=Tryz.underlying4,
 a4:=Tryz.isAgg4,
 z4:=Tryz.sizeOf4,
 v4:=Tryz.zeroValue4,
 t5:=Tryz.underlying5,
 a5:=Tryz.isAgg5,
 z5:=Tryz.sizeOf5,
 v5:=Tryz.zeroValue5,
 t9:=Tryz.underlying9,
 a9:=Tryz.isAgg9,
 z9:=Tryz.sizeOf9,
 v9:=Tryz.zeroValue9,
 t46:=Tryz.underlying230,
 a46:=Tryz.isAgg230,
 z46:=Tryz.sizeOf230,
 v46:=Tryz.zeroValue230,
 t51:=Tryz.underlying251,
 a51:=Tryz.isAgg251,
 z51:=Tryz.sizeOf251,
 v51:=Tryz.zeroValue251,
 t146:=Tryz.underlying258,
 a146:=Tryz.isAgg258,
 z146:=Tryz.sizeOf258,
 v146:=Tryz.zeroValue258,
 g1:=by kernel_rfl}
def Tryz.uq:Go.Shelf.Ren:=⟨fun|172=>81|244=>134|245=>135|247=>167|279=>168|280=>169|281=>170|282=>171|287=>190|316=>191|171=>94|205=>192|321=>203|322=>204|243=>140|246=>173|283=>193|284=>194|285=>195|286=>196|129=>206|317=>205|318=>207|319=>208|320=>209|337=>217|338=>218|n=>n,fun|9=>9|3=>3|75=>121|76=>122|4=>4|5=>5|167=>205|37=>22|0=>0|85=>206|2=>2|168=>208|53=>227|175=>228|46=>230|210=>233|127=>245|145=>248|143=>246|21=>21|171=>235|173=>238|212=>250|51=>251|20=>20|213=>252|232=>265|233=>266|80=>134|n=>n,fun|15=>0|16=>1|17=>2|18=>6|19=>7|n=>n⟩
theorem Tryz.Cd:Go.Proofs.Lays.n172 Tryz.prog Tryz.uq:={
 mixed:=by kernel_rfl,
 f129:=Tryz.func206.trans (congrArg some (by kernel_rfl)),
 f171:=Tryz.func94.trans (congrArg some (by kernel_rfl)),
 f172:=Tryz.func81.trans (congrArg some (by kernel_rfl)),
 f205:=Tryz.func192.trans (congrArg some (by kernel_rfl)),
 f243:=Tryz.func140.trans (congrArg some (by kernel_rfl)),
 f244:=Tryz.func134.trans (congrArg some (by kernel_rfl)),
 f245:=Tryz.func135.trans (congrArg some (by kernel_rfl)),
 f246:=Tryz.func173.trans (congrArg some (by kernel_rfl)),
 f247:=Tryz.func167.trans (congrArg some (by kernel_rfl)),
 f279:=Tryz.func168.trans (congrArg some (by kernel_rfl)),
 f280:=Tryz.func169.trans (congrArg some (by kernel_rfl)),
 f281:=Tryz.func170.trans (congrArg some (by kernel_rfl)),
 f282:=Tryz.func171.trans (congrArg some (by kernel_rfl)),
 f283:=Tryz.func193.trans (congrArg some (by kernel_rfl)),
 f284:=Tryz.func194.trans (congrArg some (by kernel_rfl)),
 f285:=Tryz.func195.trans (congrArg some (by kernel_rfl)),
 f286:=Tryz.func196.trans (congrArg some (by kernel_rfl)),
 f287:=Tryz.func190.trans (congrArg some (by kernel_rfl)),
 f316:=Tryz.func191.trans (congrArg some (by kernel_rfl)),
 f317:=Tryz.func205.trans (congrArg some (by kernel_rfl)),
 f318:=Tryz.func207.trans (congrArg some (by kernel_rfl)),
 f319:=Tryz.func208.trans (congrArg some (by kernel_rfl)),
 f320:=Tryz.func209.trans (congrArg some (by kernel_rfl)),
 f321:=Tryz.func203.trans (congrArg some (by kernel_rfl)),
 f322:=Tryz.func204.trans (congrArg some (by kernel_rfl)),
 f337:=Tryz.func217.trans (congrArg some (by kernel_rfl)),
 f338:=Tryz.func218.trans (congrArg some (by kernel_rfl)),
 t0:=Tryz.underlying0,
 a0:=Tryz.isAgg0,
 z0:=Tryz.sizeOf0,
 v0:=Tryz.zeroValue0,
 t2:=Tryz.underlying2,
 a2:=Tryz.isAgg2,
 z2:=Tryz.sizeOf2,
 v2:=Tryz.zeroValue2,
 t3:=Tryz.underlying3,
 a3:=Tryz.isAgg3,
 z3:=Tryz.sizeOf3,
 v3:=Tryz.zeroValue3,
 t4:=Tryz.underlying4,
 a4:=Tryz.isAgg4,
 z4:=Tryz.sizeOf4,
 v4:=Tryz.zeroValue4,
 t5:=Tryz.underlying5,
 a5:=Tryz.isAgg5,
 z5:=Tryz.sizeOf5,
 v5:=Tryz.zeroValue5,
 t9:=Tryz.underlying9,
 a9:=Tryz.isAgg9,
 z9:=Tryz.sizeOf9,
 v9:=Tryz.zeroValue9,
 t20:=Tryz.underlying20,
 a20:=Tryz.isAgg20,
 z20:=Tryz.sizeOf20,
 v20:=Tryz.zeroValue20,
 t21:=Tryz.underlying21,
 a21:=Tryz.isAgg21,
 z21:=Tryz.sizeOf21,
 v21:=Tryz.zeroValue21,
 t37:=Tryz.underlying22,
 a37:=Tryz.isAgg22,
 z37:=Tryz.sizeOf22,
 v37:=Tryz.zeroValue22,
 t46:=Tryz.underlying230,
 a46:=Tryz.isAgg230,
 z46:=Tryz.sizeOf230,
 v46:=Tryz.zeroValue230,
 t51:=Tryz.underlying251,
 a51:=Tryz.isAgg251,
 z51:=Tryz.sizeOf251,
 v51:=Tryz.zeroValue251,
 t53:=Tryz.underlying227,
 a53:=Tryz.isAgg227,
 z53:=Tryz.sizeOf227,
 v53:=Tryz.zeroValue227,
 t75:=Tryz.underlying121,
 a75:=Tryz.isAgg121,
 z75:=Tryz.sizeOf121,
 v75:=Tryz.zeroValue121,
 t76:=Tryz.underlying122,
 a76:=Tryz.isAgg122,
 z76:=Tryz.sizeOf122,
 v76:=Tryz.zeroValue122,
 t85:=Tryz.underlying206,
 a85:=Tryz.isAgg206,
 z85:=Tryz.sizeOf206,
 v85:=Tryz.zeroValue206,
 t127:=Tryz.underlying245,
 a127:=Tryz.isAgg245,
 z127:=Tryz.sizeOf245,
 v127:=Tryz.zeroValue245,
 t143:=Tryz.underlying246,
 a143:=Tryz.isAgg246,
 z143:=Tryz.sizeOf246,
 v143:=Tryz.zeroValue246,
 t145:=Tryz.underlying248,
 a145:=Tryz.isAgg248,
 z145:=Tryz.sizeOf248,
 v145:=Tryz.zeroValue248,
 t167:=Tryz.underlying205,
 a167:=Tryz.isAgg205,
 z167:=Tryz.sizeOf205,
 v167:=Tryz.zeroValue205,
 t168:=Tryz.underlying208,
 a168:=Tryz.isAgg208,
 z168:=Tryz.sizeOf208,
 v168:=Tryz.zeroValue208,
 t171:=Tryz.underlying235,
 a171:=Tryz.isAgg235,
 z171:=Tryz.sizeOf235,
 v171:=Tryz.zeroValue235,
 t173:=Tryz.underlying238,
 a173:=Tryz.isAgg238,
 z173:=Tryz.sizeOf238,
 v173:=Tryz.zeroValue238,
 t175:=Tryz.underlying228,
 a175:=Tryz.isAgg228,
 z175:=Tryz.sizeOf228,
 v175:=Tryz.zeroValue228,
 t210:=Tryz.underlying233,
 a210:=Tryz.isAgg233,
 z210:=Tryz.sizeOf233,
 v210:=Tryz.zeroValue233,
 t212:=Tryz.underlying250,
 a212:=Tryz.isAgg250,
 z212:=Tryz.sizeOf250,
 v212:=Tryz.zeroValue250,
 t213:=Tryz.underlying252,
 a213:=Tryz.isAgg252,
 z213:=Tryz.sizeOf252,
 t232:=Tryz.underlying265,
 a232:=Tryz.isAgg265,
 z232:=Tryz.sizeOf265,
 v232:=Tryz.zeroValue265,
 t233:=Tryz.underlying266,
 a233:=Tryz.isAgg266,
 z233:=Tryz.sizeOf266,
 v233:=Tryz.zeroValue266,
 g15:=by kernel_rfl,
 g16:=by kernel_rfl,
 g17:=by kernel_rfl,
 g18:=by kernel_rfl,
 g19:=by kernel_rfl}
def Tryz.sW:Go.Shelf.Ren:=⟨fun|171=>94|243=>140|246=>173|283=>193|284=>194|285=>195|286=>196|129=>206|317=>205|318=>207|319=>208|320=>209|337=>217|338=>218|n=>n,fun|3=>3|9=>9|2=>2|4=>4|171=>235|0=>0|53=>227|37=>22|5=>5|173=>238|212=>250|51=>251|20=>20|213=>252|46=>230|232=>265|233=>266|n=>n,fun|17=>2|18=>6|19=>7|n=>n⟩
theorem Tryz.AW:Go.Proofs.LaysM.n171 Tryz.prog Tryz.sW:={
 mixed:=by kernel_rfl,
 f129:=Tryz.func206.trans (congrArg some (by kernel_rfl)),
 f171:=Tryz.func94.trans (congrArg some (by kernel_rfl)),
 f243:=Tryz.func140.trans (congrArg some (by kernel_rfl)),
 f246:=Tryz.func173.trans (congrArg some (by kernel_rfl)),
 f283:=Tryz.func193.trans (congrArg some (by kernel_rfl)),
 f284:=Tryz.func194.trans (congrArg some (by kernel_rfl)),
 f285:=Tryz.func195.trans (congrArg some (by kernel_rfl)),
 f286:=Tryz.func196.trans (congrArg some (by kernel_rfl)),
 f317:=Tryz.func205.trans (congrArg some (by kernel_rfl)),
 f318:=Tryz.func207.trans (congrArg some (by kernel_rfl)),
 f319:=Tryz.func208.trans (congrArg some (by kernel_rfl)),
 f320:=Tryz.func209.trans (congrArg some (by kernel_rfl)),
 f337:=Tryz.func217.trans (congrArg some (by kernel_rfl)),
 f338:=Tryz.func218.trans (congrArg some (by kernel_rfl)),
 t0:=Tryz.underlying0,
 a0:=Tryz.isAgg0,
 z0:=Tryz.sizeOf0,
 v0:=Tryz.zeroValue0,
 t2:=Tryz.underlying2,
 a2:=Tryz.isAgg2,
 z2:=Tryz.sizeOf2,
 v2:=Tryz.zeroValue2,
 t3:=Tryz.underlying3,
 a3:=Tryz.isAgg3,
 z3:=Tryz.sizeOf3,
 v3:=Tryz.zeroValue3,
 t4:=Tryz.underlying4,
 a4:=Tryz.isAgg4,
 z4:=Tryz.sizeOf4,
 v4:=Tryz.zeroValue4,
 t5:=Tryz.underlying5,
 a5:=Tryz.isAgg5,
 z5:=Tryz.sizeOf5,
 v5:=Tryz.zeroValue5,
 t9:=Tryz.underlying9,
 a9:=Tryz.isAgg9,
 z9:=Tryz.sizeOf9,
 v9:=Tryz.zeroValue9,
 t20:=Tryz.underlying20,
 a20:=Tryz.isAgg20,
 z20:=Tryz.sizeOf20,
 v20:=Tryz.zeroValue20,
 t37:=Tryz.underlying22,
 a37:=Tryz.isAgg22,
 z37:=Tryz.sizeOf22,
 v37:=Tryz.zeroValue22,
 t46:=Tryz.underlying230,
 a46:=Tryz.isAgg230,
 z46:=Tryz.sizeOf230,
 v46:=Tryz.zeroValue230,
 t51:=Tryz.underlying251,
 a51:=Tryz.isAgg251,
 z51:=Tryz.sizeOf251,
 v51:=Tryz.zeroValue251,
 t53:=Tryz.underlying227,
 a53:=Tryz.isAgg227,
 z53:=Tryz.sizeOf227,
 v53:=Tryz.zeroValue227,
 t171:=Tryz.underlying235,
 a171:=Tryz.isAgg235,
 z171:=Tryz.sizeOf235,
 v171:=Tryz.zeroValue235,
 t173:=Tryz.underlying238,
 a173:=Tryz.isAgg238,
 z173:=Tryz.sizeOf238,
 v173:=Tryz.zeroValue238,
 t212:=Tryz.underlying250,
 a212:=Tryz.isAgg250,
 z212:=Tryz.sizeOf250,
 v212:=Tryz.zeroValue250,
 t213:=Tryz.underlying252,
 a213:=Tryz.isAgg252,
 z213:=Tryz.sizeOf252,
 t232:=Tryz.underlying265,
 a232:=Tryz.isAgg265,
 z232:=Tryz.sizeOf265,
 v232:=Tryz.zeroValue265,
 t233:=Tryz.underlying266,
 a233:=Tryz.isAgg266,
 z233:=Tryz.sizeOf266,
 v233:=Tryz.zeroValue266,
 g17:=by kernel_rfl,
 g18:=by kernel_rfl,
 g19:=by kernel_rfl,
 i0:=by kernel_rfl,
 i2:=by kernel_rfl,
 i3:=by kernel_rfl,
 i4:=by kernel_rfl,
 i5:=by kernel_rfl,
 i9:=by kernel_rfl,
 i20:=by kernel_rfl,
 i37:=by kernel_rfl,
 i46:=by kernel_rfl,
 i51:=by kernel_rfl,
 i53:=by kernel_rfl,
 i171:=by kernel_rfl,
 i173:=by kernel_rfl,
 i212:=by kernel_rfl,
 i232:=by kernel_rfl,
 i233:=by kernel_rfl,
 m17:=by kernel_rfl,
 m18:=by kernel_rfl,
 m19:=by kernel_rfl}
end Go.Proofs
namespace Go.Proofs.Trees
open Go Go.VL
noncomputable section
def He:List (Nat×TI):=[
 (0,⟨false,[],false,0,.tuple [],false⟩),
 (2,⟨true,[.int .i64],false,8,.num .i64,false⟩),
 (3,⟨true,[.int .i64],false,8,.num .i64,false⟩),
 (4,⟨true,[.bool],false,1,.bl,false⟩),
 (5,⟨true,[.int .u8],false,1,.num .u8,false⟩),
 (9,⟨true,[.str],false,16,.str,false⟩),
 (20,⟨true,[.kg],false,16,.other,false⟩),
 (21,⟨true,[.int .i32],false,4,.num .i32,false⟩),
 (22,⟨true,[.sl],false,24,.slice 5,false⟩),
 (23,⟨false,[],false,0,.tuple [9,3,9],false⟩),
 (25,⟨false,[],false,0,.tuple [3,4],false⟩),
 (28,⟨false,[],false,0,.tuple [9,4],false⟩),
 (31,⟨false,[],false,0,.tuple [9,9,9],false⟩),
 (36,⟨false,[],false,0,.tuple [9,9,9,9],false⟩),
 (38,⟨true,[.sl],false,24,.slice 42,false⟩),
 (39,⟨false,[],false,0,.tuple [38,4],false⟩),
 (42,⟨true,[.str,.str],true,32,.struct [(0,9),(1,9)],false⟩),
 (45,⟨true,[.sl],false,24,.slice 105,false⟩),
 (46,⟨false,[],false,0,.tuple [45,4],false⟩),
 (51,⟨true,[.ptr],false,8,.pt,true⟩),
 (56,⟨true,[.ptr],false,8,.pt,true⟩),
 (57,⟨true,[.ptr],false,8,.pt,true⟩),
 (58,⟨false,[],false,0,.tuple [56,57],false⟩),
 (61,⟨true,[.sl],false,24,.slice 63,false⟩),
 (63,⟨true,[.str,.sl],true,40,.struct [(0,9),(1,61)],false⟩),
 (64,⟨false,[],false,0,.tuple [63,4],false⟩),
 (76,⟨true,[.int .u8,.str,.ptr,.ptr],true,40,.struct [(0,5),(1,9),(2,57),(3,57)],false⟩),
 (78,⟨true,[.ptr],false,8,.pt,true⟩),
 (80,⟨true,[.ptr,.ptr],true,16,.struct [(0,56),(1,78)],false⟩),
 (81,⟨true,[.ptr],false,8,.pt,true⟩),
 (83,⟨true,[.str,.ptr],true,24,.struct [(0,9),(1,81)],false⟩),
 (85,⟨false,[],false,0,.tuple [9,9],false⟩),
 (90,⟨true,[.sl],false,24,.slice 9,false⟩),
 (93,⟨true,[.kg],false,8,.other,false⟩),
 (95,⟨true,[.sl],false,24,.slice 150,false⟩),
 (102,⟨true,[.sl],false,24,.slice 107,false⟩),
 (103,⟨false,[],false,0,.tuple [102,4],false⟩),
 (105,⟨true,[.sl],false,24,.slice 3,false⟩),
 (107,⟨true,[.sl,.str,.str],true,56,.struct [(0,105),(1,9),(2,9)],false⟩),
 (108,⟨true,[.sl],false,24,.slice 112,false⟩),
 (109,⟨false,[],false,0,.tuple [108,4],false⟩),
 (112,⟨true,[.ptr,.sl],true,32,.struct [(0,57),(1,105)],false⟩),
 (116,⟨true,[.sl,.int .i64],true,32,.struct [(0,22),(1,3)],false⟩),
 (121,⟨true,[.kg],false,16,.other,false⟩),
 (122,⟨false,[],false,0,.tuple [3,121],false⟩),
 (125,⟨true,[.int .u8,.str,.int .i64,.ptr,.ptr],true,48,.struct [(0,5),(1,9),(2,3),(3,56),(4,56)],false⟩),
 (131,⟨true,[.sl],false,24,.slice 213,false⟩),
 (133,⟨true,[.kg],false,8,.other,false⟩),
 (140,⟨true,[.ptr],false,8,.pt,true⟩),
 (144,⟨false,[],false,0,.tuple [80,81],false⟩),
 (147,⟨true,[.sl],false,24,.slice 188,false⟩),
 (150,⟨true,[.ptr,.ptr],true,16,.struct [(0,57),(1,57)],false⟩),
 (152,⟨true,[.kg],false,8,.other,false⟩),
 (153,⟨true,[.kg],false,8,.other,false⟩),
 (154,⟨false,[],false,0,.tuple [56,4],false⟩),
 (159,⟨true,[.kg],false,8,.other,false⟩),
 (163,⟨true,[.ptr],false,8,.pt,true⟩),
 (165,⟨true,[.sl,.int .i64],true,32,.struct [(0,90),(1,3)],false⟩),
 (168,⟨true,[.ptr,.ptr],true,16,.struct [(0,80)],false⟩),
 (171,⟨false,[],false,0,.tuple [63,3],false⟩),
 (173,⟨false,[],false,0,.tuple [63,131],false⟩),
 (179,⟨false,[],false,0,.tuple [140,9],false⟩),
 (181,⟨true,[.sl],false,24,.slice 140,false⟩),
 (183,⟨true,[.str,.sl],true,40,.struct [(0,9),(1,181)],false⟩),
 (186,⟨true,[.ptr,.ptr],true,16,.struct [(0,81),(1,78)],false⟩),
 (188,⟨true,[.str,.sl,.str,.sl],true,80,.struct [(0,63),(2,63)],false⟩),
 (192,⟨true,[.ptr],false,8,.pt,true⟩),
 (194,⟨true,[.int .i64,.bool],true,16,.struct [(0,3),(1,4)],false⟩),
 (206,⟨false,[],false,0,.tuple [2,121],false⟩),
 (208,⟨true,[.ptr],false,8,.pt,true⟩),
 (213,⟨true,[.str,.str,.sl,.sl],true,80,.struct [(0,9),(1,63),(3,131)],false⟩),
 (219,⟨false,[],false,0,.tuple [218,4],false⟩),
 (222,⟨true,[.ptr],false,8,.pt,true⟩),
 (224,⟨true,[.kg],false,8,.other,false⟩),
 (227,⟨true,[.int .u64],false,8,.num .u64,false⟩),
 (228,⟨false,[],false,0,.tuple [227,121],false⟩),
 (230,⟨true,[.int .u64],false,8,.num .u64,false⟩),
 (233,⟨true,[.str,.str,.kg],true,48,.struct [(0,9),(1,9),(2,121)],false⟩),
 (235,⟨true,[.int .u8,.int .u8,.int .u8,.int .u8,.int .u8,.int .u8,.int .u8,.int .u8,.int .u8,.int .u8,.int .u8,.int .u8,.int .u8,.int .u8,.int .u8,.int .u8,.int .u8,.int .u8,.int .u8,.int .u8,.int .u8,.int .u8,.int .u8,.int .u8],true,24,.array 24 5,false⟩),
 (238,⟨false,[],false,0,.tuple [22,9],false⟩),
 (240,⟨false,[],false,0,.tuple [21,3],false⟩),
 (245,⟨true,[.ptr],false,8,.pt,true⟩),
 (246,⟨true,[.ptr],false,8,.pt,true⟩),
 (248,⟨true,[.str],true,16,.struct [(0,9)],false⟩),
 (250,⟨true,[.int .u64,.int .u64,.int .u64,.int .u64,.int .u64,.int .u64,.int .u64,.int .u64,.int .u64,.int .u64,.int .u64,.int .u64,.int .u64,.int .u64,.int .u64,.int .u64,.int .u64,.int .u64,.int .u64,.int .u64],true,160,.array 20 227,false⟩),
 (251,⟨true,[.int .u32],false,4,.num .u32,false⟩),
 (258,⟨false,[],false,0,.tuple [251,251],false⟩),
 (262,⟨true,[.int .u8,.int .u8],true,2,.struct [(0,5),(1,5)],false⟩),
 (263,⟨true,[.int .u8,.int .u8,.int .u8,.int .u8,.int .u8,.int .u8,.int .u8,.int .u8,.int .u8,.int .u8,.int .u8,.int .u8,.int .u8,.int .u8,.int .u8,.int .u8,.int .u8,.int .u8,.int .u8,.int .u8,.int .u8,.int .u8,.int .u8,.int .u8,.int .u8,.int .u8,.int .u8,.int .u8,.int .u8,.int .u8,.int .u8,.int .u8],true,32,.array 16 262,false⟩),
 (265,⟨true,[.int .u8,.int .u8,.int .u8,.int .u8,.int .u8,.int .u8,.int .u8,.int .u8,.int .u8,.int .u8,.int .u8,.int .u8,.int .u8,.int .u8,.int .u8,.int .u8,.int .u8,.int .u8,.int .u8,.int .u8,.int .u8,.int .u8,.int .u8,.int .u8,.int .u8,.int .u8,.int .u8,.int .u8,.int .u8,.int .u8,.int .u8,.int .u8],true,32,.array 32 5,false⟩)]
def I6(t:Nat):TI:=wG He t
abbrev pZ:Func:=Tryz.f81
abbrev pV:Func:=Tryz.f94
abbrev ep:Func:=Tryz.f107
abbrev mM:Func:=Tryz.f151
abbrev pY:Func:=Tryz.f152
def ME:List (Nat×FC):=[(92,{mu:=[(1,.one (.obj [.lk .bool]))],own:=[]}),(9300091,{mu:=[(1,.fn [some (.obj [.lk .bool])])],own:=[]}),(189,{mu:=[(1,.one (.obj [.vec 1]))],own:=[]}),(98,{mu:=[(2,.one (.vec))],own:=[0]}),(19000091,{mu:=[(1,.fn [some (.obj [.vec 1])])],own:=[]}),(113,{mu:=[(2,.one (.obj [.vec 2]))],own:=[]}),(11500113,{mu:=[(1,.fn [some (.obj [.lk .ptr])]),(2,.one (.obj [.vec 2]))],own:=[]}),(11600113,{mu:=[(1,.fn [some (.obj [.lk .ptr])]),(2,.one (.obj [.vec 2]))],own:=[]}),(11700113,{mu:=[(1,.fn [some (.obj [.lk .ptr])]),(2,.one (.obj [.vec 2]))],own:=[]}),(11900113,{mu:=[(1,.fn [some (.obj [.lk .ptr,.lk .ptr])]),(2,.one (.obj [.vec 2]))],own:=[]}),(114,{mu:=[(1,.one (.obj [.lk .ptr]))],own:=[]}),(115,{mu:=[(1,.one (.obj [.lk .ptr]))],own:=[]}),(116,{mu:=[(1,.one (.obj [.lk .ptr]))],own:=[]}),(118,{mu:=[(1,.one (.obj [.lk .ptr,.lk .ptr]))],own:=[]}),(126,{mu:=[(1,.one (.obj [.vec 2])),(2,.one (.obj [.lk .ptr])),(3,.yl 126 [some 0,some 2,none])],own:=[]}),(184,{mu:=[(2,.yl 184 [none,some 0,some 1]),(3,.one (.obj [.lk .sl])),(4,.one (.obj [.lk (.int .i64)]))],own:=[]}),(125,{mu:=[(3,.one (.vec))],own:=[0]}),(150,{mu:=[(2,.one (.vec))],own:=[0]}),(32,{mu:=[(0,.one (.obj [.lk .sl,.lk (.int .i64)]))],own:=[]}),(131,{mu:=[(3,.one (.obj [.vec 1,.lk (.int .i64)]))],own:=[]}),(55,{mu:=[(0,.one (.obj [.lk .sl,.lk (.int .i64)]))],own:=[]}),(30,{mu:=[],own:=[0],ow:=[.sl,.int .i64]}),(74,{mu:=[(0,.one (.cr false [.vec 1]))],own:=[]}),(155,{mu:=[(0,.one (.obj [.lk (.int .i64),.lk .bool]))],own:=[]}),(156,{mu:=[(0,.one (.obj [.lk (.int .i64),.lk .bool]))],own:=[]}),(157,{mu:=[(0,.one (.obj [.lk (.int .i64),.lk .bool]))],own:=[]}),(127,{mu:=[(0,.one (.obj [.lk .sl,.lk (.int .i64)]))],own:=[]}),(119,{mu:=[(0,.one (.obj [.lk .sl,.lk (.int .i64)]))],own:=[]}),(76,{mu:=[(0,.one (.obj [.lk .sl,.lk (.int .i64)]))],own:=[]}),(77,{mu:=[(0,.one (.obj [.lk .sl,.lk (.int .i64)]))],own:=[]}),(33,{mu:=[(0,.one (.obj [.lk .sl,.lk (.int .i64)]))],own:=[]}),(108,{mu:=[(0,.one (.obj [.lk .sl,.lk (.int .i64)]))],own:=[]}),(52,{mu:=[(0,.one (.obj [.lk .sl,.lk (.int .i64)]))],own:=[]}),(51,{mu:=[(0,.one (.obj [.lk .sl,.lk (.int .i64)]))],own:=[]}),(62,{mu:=[(0,.one (.obj [.lk .sl,.lk (.int .i64)]))],own:=[]}),(31,{mu:=[(0,.one (.obj [.lk .sl,.lk (.int .i64)]))],own:=[]})]
def co(f:Nat):FC:=AJ ME f
theorem Ck:(He.all fun p=>!p.2.kn||p.2.mU Tryz.prog p.1)=true:=by kernel_rfl
theorem s4:cR Tryz.prog I6:=uS Ck
theorem mixed:Tryz.prog.follows .mixedOrders=true:=by kernel_rfl
abbrev NZ(r:AV)(k:Tree):Tree:=.al (LK.has .ptr r/\r.isNil=false) k
abbrev NP(r:AV)(k:Tree):Tree:=.al (LK.has .ptr r) k
abbrev NS(r:AV)(k:Tree):Tree:=.al (LK.has .str r) k
abbrev NB(r:AV)(k:Tree):Tree:=.al (LK.has .bool r) k
abbrev NL(r:AV)(k:Tree):Tree:=.al (LK.has .sl r) k
abbrev NI(r:AV)(k:Tree):Tree:=.al (LK.has (.int .i64) r) k
abbrev eF(l:List AV)(k:Tree):Tree:=.al (LK.has .ptr (l.headD .any)/\1<=l.length) k
abbrev nw(l:List AV)(k:Tree):Tree:=.al (LK.has .str (l.headD .any)/\1<=l.length) k
abbrev rG(l:List AV)(k:Tree):Tree:=.al (LK.has .sl (l.headD .any)/\1<=l.length) k
abbrev NT(r:AV)(k:Tree):Tree:=.al (r=.cx [r.comp 0,r.comp 1]) k
abbrev NA(r:AV)(k:Tree):Tree:=.al (r=.agg r.cs/\r.cs.length=2/\bT [.str,.sl] r.cs 0) k
abbrev NE(l:List AV)(k:Tree):Tree:=.al (bT [.str,.sl] l 0/\2<=l.length) k
abbrev NG(r:AV)(i:Int)(z:Nat)(k:Tree):Tree:=.al (LK.has .sl r/\0<=i/\i<r.aS.length/\(r.aS.getD i.toNat []).length=z) k
abbrev RL:Type:=Nat->List AV->List Ob->Prop
abbrev VS(x:ByteArray):AV:=.v (.string x)
abbrev VI(x:Int):AV:=.v (.int .i64 x)
abbrev VB(x:Bool):AV:=.v (.bool x)
abbrev _root_.List.hA(l:List AV):AV:=l.headD .any
abbrev _root_.List.hO(l:List Ob):Ob:=l.headD .dead
abbrev _root_.Go.VL.AV.ix(a:AV)(i:Int):List AV:=a.aS.getD i.toNat []
abbrev dT(n:Nat)(t:Tree)(R:AV->List Ob->Prop):Prop:=eN Tryz.prog n t fun _ xs obs=>R (xs.headD .any) obs
abbrev n9(n:Nat)(t:Tree)(S:List AV->List Ob->RL->Prop)(R:RL):Prop:=eN Tryz.prog n t (BM (fun ys o=>S ys o R) R)
theorem gQ{n:Nat}{c:Code}{li:LI}{xs:List AV}{obs:List Ob}{R:RL}{t:Tree}(lis:List (Nat×LI))(h:eN Tryz.prog n t (BM (fun ys o=>cP Tryz.prog n c li ys o R) R))(e:round I6 co n lis c li xs obs=t:=by kernel_rfl):cP Tryz.prog n c li xs obs R:=cP.KL (co:=co) (lis:=lis) s4 mixed e h
theorem L4(n:Nat)(t:Tree)(R:AV->List Ob->Prop):dT n t R=eN Tryz.prog n t fun _ xs obs=>R (xs.headD .any) obs:=rfl
theorem Nb(n:Nat)(t:Tree)(S:List AV->List Ob->RL->Prop)(R:RL):n9 n t S R=eN Tryz.prog n t (BM (fun ys o=>S ys o R) R):=rfl
theorem N5(x:ByteArray):VS x=.v (.string x):=rfl
theorem NX(x:Int):VI x=.v (.int .i64 x):=rfl
theorem NY(x:Bool):VB x=.v (.bool x):=rfl
theorem NV(l:List AV):l.hA=l.headD .any:=rfl
theorem NU(l:List Ob):l.hO=l.headD .dead:=rfl
theorem NW(a:AV)(i:Int):a.ix i=a.aS.getD i.toNat []:=rfl
theorem oQ{f:Nat}{asq:List AV}{ins:List Ob}{R:AV->List Ob->Prop}{t:Tree}(lis:List (Nat×LI))(F:Func)(h:eN Tryz.prog F.ntmps t fun _ xs obs=>R (xs.headD .any) obs)(hf:Tryz.prog.funcs[f]?=some F:=by kernel_rfl)(hnm:(F.name=="runtime.NumGoroutine")=false:=by kernel_rfl)(e:main I6 co lis {} F asq ins=t:=by kernel_rfl):az Tryz.prog f asq ins R:=az.KL (co:=co) (lis:=lis) (fc:={}) s4 mixed hf hnm e h
theorem oF{f:Nat}{asq:List AV}{ins:List Ob}{R:AV->List Ob->Prop}{t:Tree}(lis:List (Nat×LI))(fc:FC)(F:Func)(h:eN Tryz.prog F.ntmps t fun _ xs obs=>R (xs.headD .any) obs)(hf:Tryz.prog.funcs[f]?=some F:=by kernel_rfl)(hnm:(F.name=="runtime.NumGoroutine")=false:=by kernel_rfl)(e:main I6 co lis fc F asq ins=t:=by kernel_rfl):az Tryz.prog f asq ins R:=az.KL (co:=co) (lis:=lis) (fc:=fc) s4 mixed hf hnm e h
theorem uQ{P:Program}{f:Nat}{asq bs:List AV}{R:AV->List Ob->Prop}(h:wB asq bs)(hf:az P f bs [] R):az P f asq [] R:=az.rL dr (az.up h hf)
theorem N6(r:AV)(k:Tree):NZ r k=.al (LK.has .ptr r/\r.isNil=false) k:=rfl
theorem Oe(r:AV)(k:Tree):NP r k=.al (LK.has .ptr r) k:=rfl
theorem Oa(r:AV)(k:Tree):NS r k=.al (LK.has .str r) k:=rfl
theorem Oh(r:AV)(k:Tree):NB r k=.al (LK.has .bool r) k:=rfl
theorem Of(r:AV)(k:Tree):NL r k=.al (LK.has .sl r) k:=rfl
theorem N8(r:AV)(k:Tree):NI r k=.al (LK.has (.int .i64) r) k:=rfl
theorem Nx(l:List AV)(k:Tree):eF l k=.al (LK.has .ptr (l.headD .any)/\1<=l.length) k:=rfl
theorem Nl(l:List AV)(k:Tree):nw l k=.al (LK.has .str (l.headD .any)/\1<=l.length) k:=rfl
theorem Lk(l:List AV)(k:Tree):rG l k=.al (LK.has .sl (l.headD .any)/\1<=l.length) k:=rfl
theorem N4(r:AV)(k:Tree):NT r k=.al (r=.cx [r.comp 0,r.comp 1]) k:=rfl
theorem Oj(r:AV)(k:Tree):NA r k=.al (r=.agg r.cs/\r.cs.length=2/\bT [.str,.sl] r.cs 0) k:=rfl
theorem N0(l:List AV)(k:Tree):NE l k=.al (bT [.str,.sl] l 0/\2<=l.length) k:=rfl
theorem N1(r:AV)(i:Int)(z:Nat)(k:Tree):NG r i z k=.al (LK.has .sl r/\0<=i/\i<r.aS.length/\(r.aS.getD i.toNat []).length=z) k:=rfl
set_option linter.defProp false in
def zq:=aF @N6 (aF @Oe (aF @Oa (aF @Oh (aF @Of (aF @N8 (aF @Nx (aF @Nl (aF @Lk (aF @N4 (aF @Oj (aF @N0 (aF @N1 (aF @L4 (aF @Nb (aF @N5 (aF @NX (aF @NY ((aF @NV (aF @NU (aF @NW @zp)))))))))))))))))))))
variable {R:AV->List Ob->Prop} {U:RL}
def JR(a0:AV):Tree :=
 NL a0<|.test (decide ((a0.aS.length:Int)>(1048576:Int))) (.done 0 [VB true] []) (.call 13 [a0] [] fun r1 o1=>.al (r1=.cx [r1.comp 0,r1.comp 1,r1.comp 2])<|NS (r1.comp 0)<|NS (r1.comp 1)<|NS (r1.comp 2)<|.call 14 [VS ((r1.comp 0).ag),VS ((r1.comp 1).ag),VS ((r1.comp 2).ag)] [] fun r2 o2=>NB r2<|.call 15 [VS ((r1.comp 0).ag),VS ((r1.comp 1).ag),VS ((r1.comp 2).ag)] [] fun r3 o3=>NB r3<|.test (!(r2.toBool==r3.toBool)) (.done 0 [VB (r2.toBool==r3.toBool)] []) (.test (!r2.toBool) (.done 0 [VB (r2.toBool==r3.toBool)] []) (.call 16 [VS ((r1.comp 0).ag),VS ((r1.comp 1).ag),VS ((r1.comp 2).ag),VS (mk [101,48])] [] fun r4 o4=>NT r4<|NS (r4.comp 0)<|NB (r4.comp 1)<|.call 16 [VS ((r1.comp 0).ag),VS ((r1.comp 1).ag),VS ((r1.comp 2).ag),VS (mk [101,57,57])] [] fun r5 o5=>NT r5<|NS (r5.comp 0)<|NB (r5.comp 1)<|.test (((r4.comp 1).toBool)==((r5.comp 1).toBool)) (.call 17 [VS ((r4.comp 0).ag)] [] fun r6 o6=>NI r6<|.call 17 [VS ((r5.comp 0).ag)] [] fun r7 o7=>NI r7<|.done 0 [VB (r6.toInt==r7.toInt)] []) (.done 0 [VB false] []))))
theorem Nh(a0:AV)(ha0:LK.has .sl a0)(h:dT 63 (JR a0) R):az Tryz.prog 4 [a0] [] R :=
 uQ (ai (bX ha0) aH) (oQ [] Tryz.f4 h)
def Hk(a0:AV):Tree :=
 .call 18 [a0] [] fun r1 o1=>.al (r1=.cx [r1.comp 0,r1.comp 1,r1.comp 2,r1.comp 3])<|NS (r1.comp 0)<|NS (r1.comp 1)<|NS (r1.comp 2)<|NS (r1.comp 3)<|.done 0 [.cx [VS ((r1.comp 0).ag),VS ((r1.comp 1).ag),VS ((r1.comp 2).ag)]] []
theorem MI(a0:AV)(ha0:LK.has .sl a0)(h:dT 19 (Hk a0) R):az Tryz.prog 13 [a0] [] R :=
 uQ (ai (bX ha0) aH) (oQ [] Tryz.f13 h)
def Je(a0:ByteArray)(a1:ByteArray)(a2:ByteArray):Tree :=
 .call 45 [VS a0,VS a1,VS a2] [] fun r1 o1=>NT r1<|NP (r1.comp 0)<|NP (r1.comp 1)<|NP (r1.comp 1)<|.done 0 [VB (!(r1.comp 1).isNil)] []
theorem MU(a0:ByteArray)(a1:ByteArray)(a2:ByteArray)(h:dT 18 (Je a0 a1 a2) R):az Tryz.prog 14 [VS a0,VS a1,VS a2] [] R :=
 uQ (ai (aC _) (ai (aC _) (ai (aC _) aH))) (oQ [] Tryz.f14 h)
def KA(a0:ByteArray)(a1:ByteArray)(a2:ByteArray):Tree :=
 .call 46 [VS a0] [] fun r1 o1=>NT r1<|.al ((r1.comp 0)=.agg (r1.comp 0).cs/\(r1.comp 0).cs.length=2/\bT [.str,.sl] ((r1.comp 0).cs) 0)<|NB (r1.comp 1)<|.call 47 [VS a0,VS a1] [] fun r2 o2=>NT r2<|NS (r2.comp 0)<|NB (r2.comp 1)<|.test ((r1.comp 1).toBool) (.test ((r2.comp 1).toBool) (.call 39 [VS ((r2.comp 0).ag),VS a2,VI 100] [] fun r3 o3=>NB r3<|.done 0 [VB r3.toBool] []) (.done 0 [VB false] [])) (.done 0 [VB false] [])
theorem Mc(a0:ByteArray)(a1:ByteArray)(a2:ByteArray)(h:dT 31 (KA a0 a1 a2) R):az Tryz.prog 15 [VS a0,VS a1,VS a2] [] R :=
 uQ (ai (aC _) (ai (aC _) (ai (aC _) aH))) (oQ [] Tryz.f15 h)
def HW(a0:ByteArray)(a1:ByteArray)(a2:ByteArray)(a3:ByteArray):Tree :=
 .call 45 [VS a0,VS a1,VS a2] [] fun r1 o1=>NT r1<|NP (r1.comp 0)<|NP (r1.comp 1)<|.call 48 [VS a3] [] fun r2 o2=>NP r2<|NP (r1.comp 0)<|.test ((r1.comp 0).isNil) (.done 0 [.cx [VS (mk []),VB false]] []) (NP (r1.comp 1)<|.test ((r1.comp 1).isNil) (.done 0 [.cx [VS (mk []),VB false]] []) (NP r2<|.test r2.isNil (.done 0 [.cx [VS (mk []),VB false]] []) (NZ r2<|NZ r2<|.al (LK.has (.int .u8) (r2.deref.hA)/\1<=r2.deref.length)<|.test (((r2.deref.hA).toInt) != (101:Int)) (.done 0 [.cx [VS (mk []),VB false]] []) (.call 49 [.agg [(r1.comp 0),.v (.pointer none)],(r1.comp 1),.agg [VS a1,.v (.pointer none)],r2] [] fun r3 o3=>NP r3<|.call 43 [r3] [] fun r4 o4=>NT r4<|NS (r4.comp 0)<|NB (r4.comp 1)<|.done 0 [.cx [VS ((r4.comp 0).ag),VB ((r4.comp 1).toBool)]] []))))
theorem LJ(a0:ByteArray)(a1:ByteArray)(a2:ByteArray)(a3:ByteArray)(h:dT 49 (HW a0 a1 a2 a3) R):az Tryz.prog 16 [VS a0,VS a1,VS a2,VS a3] [] R :=
 uQ (ai (aC _) (ai (aC _) (ai (aC _) (ai (aC _) aH)))) (oQ [] Tryz.f16 h)
def HR(a0:ByteArray):Tree :=
 .call 48 [VS a0] [] fun r1 o1=>NP r1<|NP r1<|.test r1.isNil (.done 0 [VI (-1)] []) (.call 50 [r1] [] fun r2 o2=>NI r2<|.done 0 [VI r2.toInt] [])
theorem Ny(a0:ByteArray)(h:dT 10 (HR a0) R):az Tryz.prog 17 [VS a0] [] R :=
 uQ (ai (aC _) aH) (oQ [] Tryz.f17 h)
def Hd(a0:AV):Tree :=
 .call 30 [a0] [] fun r1 o1=>.al (r1=.ref 0 0/\(o1.hO)=.cells (o1.hO).cs/\(o1.hO).cs.length=2/\bT [.sl,.int .i64] ((o1.hO).cs) 0)<|.call 51 [.ref 0 0] [.cells [((o1.hO).cs.getD 0 .any),VI (((o1.hO).cs.getD 1 .any).toInt)]] fun r2 o2=>.al ((o2.hO)=.cells (o2.hO).cs)<|.al (aN [.lk .sl,.lk (.int .i64)] ((o2.hO).cs) 0 1 o2.tail)<|NT r2<|NS (r2.comp 0)<|NS (r2.comp 1)<|.call 52 [.ref 0 0] [.cells [((o2.hO).cs.getD 0 .any),VI (((o2.hO).cs.getD 1 .any).toInt)]] fun r3 o3=>.al ((o3.hO)=.cells (o3.hO).cs)<|.al (aN [.lk .sl,.lk (.int .i64)] ((o3.hO).cs) 0 1 o3.tail)<|NS r3<|.call 53 [VS ((r2.comp 0).ag),VS r3.ag,VS ((r2.comp 1).ag)] [] fun r4 o4=>NT r4<|NL (r4.comp 0)<|NB (r4.comp 1)<|.call 32 [.ref 0 0,VI 5] [.cells [((o3.hO).cs.getD 0 .any),VI (((o3.hO).cs.getD 1 .any).toInt)]] fun r5 o5=>.al ((o5.hO)=.cells (o5.hO).cs)<|.al (aN [.lk .sl,.lk (.int .i64)] ((o5.hO).cs) 0 1 o5.tail)<|NI r5<|.call 54 [VI r5.toInt] [] fun r6 o6=>NS r6<|.al (ac (mk [101])+ac r6.ag<=9223372036854775807)<|.test ((r4.comp 1).toBool) (NL (r4.comp 0)<|.test (decide ((((r4.comp 0).aS).length:Int)>(0:Int))) (.call 32 [.ref 0 0,VI 8] [.cells [((o5.hO).cs.getD 0 .any),VI (((o5.hO).cs.getD 1 .any).toInt)]] fun r7 o7=>.al ((o7.hO)=.cells (o7.hO).cs)<|.al (aN [.lk .sl,.lk (.int .i64)] ((o7.hO).cs) 0 1 o7.tail)<|NI r7<|.test (decide (r7.toInt>(0:Int))) (NL (r4.comp 0)<|.call 32 [.ref 0 0,VI (if(((r4.comp 0).aS).length:Int)<100 then(((r4.comp 0).aS).length:Int)else 100)] [.cells [((o7.hO).cs.getD 0 .any),VI (((o7.hO).cs.getD 1 .any).toInt)]] fun r8 o8=>.al ((o8.hO)=.cells (o8.hO).cs)<|.al (aN [.lk .sl,.lk (.int .i64)] ((o8.hO).cs) 0 1 o8.tail)<|NI r8<|.al (LK.has .sl (r4.comp 0)/\0<=r8.toInt/\r8.toInt<(r4.comp 0).aS.length/\((r4.comp 0).aS.getD r8.toInt.toNat []).length=2)<|nw ((r4.comp 0).aS.getD r8.toInt.toNat [])<|.done 0 [.cx [VS ((r2.comp 0).ag),VS r3.ag,VS ((((r4.comp 0).aS.getD r8.toInt.toNat []).hA).ag),VS (((mk [101]):ByteArray)++r6.ag)]] []) (.call 55 [.ref 0 0,.sl [[VS (((mk [101]):ByteArray)++r6.ag)],[VS (mk [117])],[VS (mk [])]]] [.cells [((o7.hO).cs.getD 0 .any),VI (((o7.hO).cs.getD 1 .any).toInt)]] fun r9 o9=>.al ((o9.hO)=.cells (o9.hO).cs)<|.al (aN [.lk .sl,.lk (.int .i64)] ((o9.hO).cs) 0 1 o9.tail)<|NS r9<|.done 0 [.cx [VS ((r2.comp 0).ag),VS r3.ag,VS ((r2.comp 1).ag),VS r9.ag]] [])) (.call 55 [.ref 0 0,.sl [[VS (((mk [101]):ByteArray)++r6.ag)],[VS (mk [117])],[VS (mk [])]]] [.cells [((o5.hO).cs.getD 0 .any),VI (((o5.hO).cs.getD 1 .any).toInt)]] fun r10 o10=>.al ((o10.hO)=.cells (o10.hO).cs)<|.al (aN [.lk .sl,.lk (.int .i64)] ((o10.hO).cs) 0 1 o10.tail)<|NS r10<|.done 0 [.cx [VS ((r2.comp 0).ag),VS r3.ag,VS ((r2.comp 1).ag),VS r10.ag]] [])) (.call 55 [.ref 0 0,.sl [[VS (((mk [101]):ByteArray)++r6.ag)],[VS (mk [117])],[VS (mk [])]]] [.cells [((o5.hO).cs.getD 0 .any),VI (((o5.hO).cs.getD 1 .any).toInt)]] fun r11 o11=>.al ((o11.hO)=.cells (o11.hO).cs)<|.al (aN [.lk .sl,.lk (.int .i64)] ((o11.hO).cs) 0 1 o11.tail)<|NS r11<|.done 0 [.cx [VS ((r2.comp 0).ag),VS r3.ag,VS ((r2.comp 1).ag),VS r11.ag]] [])
theorem MA(a0:AV)(ha0:LK.has .sl a0)(h:dT 63 (Hd a0) R):az Tryz.prog 18 [a0] [] R :=
 uQ (ai (bX ha0) aH) (oQ [] Tryz.f18 h)
def I2(a0:AV):Tree :=
 NL a0<|.test (decide ((a0.aS.length:Int)>(2000:Int))) (.al (LK.has .sl a0/\0<=(0:Int)/\(0:Int)<=(2000:Int)/\(2000:Int)<=(a0.aS.length:Int))<|.done 0 [.ref 0 0] [.cells [.sl ((a0.aS.take (bM 2000)).drop (bM 0)),VI 0]]) (.done 0 [.ref 0 0] [.cells [a0,VI 0]])
theorem Lc(a0:AV)(ha0:LK.has .sl a0)(h:dT 11 (I2 a0) R):az Tryz.prog 30 [a0] [] R :=
 uQ (ai (bX ha0) aH) (oF [] {mu:=[],own:=[0],ow:=[.sl,.int .i64]} Tryz.f30 h)
def JA(a0_0:AV)(a0_1:Int)(a1:Int):Tree :=
 .test (decide (a1<(1:Int))) (.done 0 [VI 0] [.cells [a0_0,VI (IntKind.wrap .i64 (a0_1+1))]]) (NL a0_0<|.test ((a0_0.aS.length:Int)==(0:Int)) (.done 0 [VI 0] [.cells [a0_0,VI (IntKind.wrap .i64 (a0_1+1))]]) (NL a0_0<|.test (decide ((IntKind.wrap .i64 ((IntKind.wrap .i64 (a0_1+1))-1))<(a0_0.aS.length:Int))) (.al (LK.has .sl a0_0/\0<=(IntKind.wrap .i64 ((IntKind.wrap .i64 (a0_1+1))-1))/\(IntKind.wrap .i64 ((IntKind.wrap .i64 (a0_1+1))-1))<a0_0.aS.length/\(a0_0.ix (IntKind.wrap .i64 ((IntKind.wrap .i64 (a0_1+1))-1))).length=1)<|.al (LK.has (.int .u8) ((a0_0.ix (IntKind.wrap .i64 ((IntKind.wrap .i64 (a0_1+1))-1))).hA)/\1<=(a0_0.ix (IntKind.wrap .i64 ((IntKind.wrap .i64 (a0_1+1))-1))).length)<|.al (¬a1=0)<|.done 0 [VI (du (IntKind.wrap .i64 (((a0_0.ix (IntKind.wrap .i64 ((IntKind.wrap .i64 (a0_1+1))-1))).hA).toInt)) a1)] [.cells [a0_0,VI (IntKind.wrap .i64 (a0_1+1))]]) (NL a0_0<|.al (¬(a0_0.aS.length:Int)=0)<|.al (LK.has .sl a0_0/\0<=(du (IntKind.wrap .i64 ((IntKind.wrap .i64 (a0_1+1))-1)) (a0_0.aS.length:Int))/\(du (IntKind.wrap .i64 ((IntKind.wrap .i64 (a0_1+1))-1)) (a0_0.aS.length:Int))<a0_0.aS.length/\(a0_0.ix (du (IntKind.wrap .i64 ((IntKind.wrap .i64 (a0_1+1))-1)) (a0_0.aS.length:Int))).length=1)<|.al (LK.has (.int .u8) ((a0_0.ix (du (IntKind.wrap .i64 ((IntKind.wrap .i64 (a0_1+1))-1)) (a0_0.aS.length:Int))).hA)/\1<=(a0_0.ix (du (IntKind.wrap .i64 ((IntKind.wrap .i64 (a0_1+1))-1)) (a0_0.aS.length:Int))).length)<|NL a0_0<|.al (¬(a0_0.aS.length:Int)=0)<|.al (LK.has .sl a0_0/\0<=(du (IntKind.wrap .i64 ((IntKind.wrap .i64 ((IntKind.wrap .i64 ((IntKind.wrap .i64 (a0_1+1))-1))*7))+3)) (a0_0.aS.length:Int))/\(du (IntKind.wrap .i64 ((IntKind.wrap .i64 ((IntKind.wrap .i64 ((IntKind.wrap .i64 (a0_1+1))-1))*7))+3)) (a0_0.aS.length:Int))<a0_0.aS.length/\(a0_0.ix (du (IntKind.wrap .i64 ((IntKind.wrap .i64 ((IntKind.wrap .i64 ((IntKind.wrap .i64 (a0_1+1))-1))*7))+3)) (a0_0.aS.length:Int))).length=1)<|.al (LK.has (.int .u8) ((a0_0.ix (du (IntKind.wrap .i64 ((IntKind.wrap .i64 ((IntKind.wrap .i64 ((IntKind.wrap .i64 (a0_1+1))-1))*7))+3)) (a0_0.aS.length:Int))).hA)/\1<=(a0_0.ix (du (IntKind.wrap .i64 ((IntKind.wrap .i64 ((IntKind.wrap .i64 ((IntKind.wrap .i64 (a0_1+1))-1))*7))+3)) (a0_0.aS.length:Int))).length)<|NL a0_0<|.al (¬(a0_0.aS.length:Int)=0)<|.al (¬(64:Int)=0)<|.al (¬a1=0)<|.done 0 [VI (du (AE .i64 (IntKind.wrap .i64 ((IntKind.wrap .i64 ((IntKind.wrap .i64 ((IntKind.wrap .i64 ((IntKind.wrap .i64 (((a0_0.ix (du (IntKind.wrap .i64 ((IntKind.wrap .i64 (a0_1+1))-1)) (a0_0.aS.length:Int))).hA).toInt))*131))+(IntKind.wrap .i64 ((IntKind.wrap .i64 (((a0_0.ix (du (IntKind.wrap .i64 ((IntKind.wrap .i64 ((IntKind.wrap .i64 ((IntKind.wrap .i64 (a0_1+1))-1))*7))+3)) (a0_0.aS.length:Int))).hA).toInt))*1117))))+(IntKind.wrap .i64 ((IntKind.wrap .i64 ((IntKind.wrap .i64 (a0_1+1))-1))*29))))+(IntKind.wrap .i64 ((IntKind.wrap .i64 (Int.tdiv (IntKind.wrap .i64 ((IntKind.wrap .i64 (a0_1+1))-1)) (a0_0.aS.length:Int)))*53)))) (IntKind.wrap .i64 (Int.tdiv (IntKind.wrap .i64 ((IntKind.wrap .i64 ((IntKind.wrap .i64 ((IntKind.wrap .i64 ((IntKind.wrap .i64 (((a0_0.ix (du (IntKind.wrap .i64 ((IntKind.wrap .i64 (a0_1+1))-1)) (a0_0.aS.length:Int))).hA).toInt))*131))+(IntKind.wrap .i64 ((IntKind.wrap .i64 (((a0_0.ix (du (IntKind.wrap .i64 ((IntKind.wrap .i64 ((IntKind.wrap .i64 ((IntKind.wrap .i64 (a0_1+1))-1))*7))+3)) (a0_0.aS.length:Int))).hA).toInt))*1117))))+(IntKind.wrap .i64 ((IntKind.wrap .i64 ((IntKind.wrap .i64 (a0_1+1))-1))*29))))+(IntKind.wrap .i64 ((IntKind.wrap .i64 (Int.tdiv (IntKind.wrap .i64 ((IntKind.wrap .i64 (a0_1+1))-1)) (a0_0.aS.length:Int)))*53)))) 64))) a1)] [.cells [a0_0,VI (IntKind.wrap .i64 (a0_1+1))]])))
theorem Mi(a0_0:AV)(a0_1:Int)(a1:Int)(ha0_0:LK.has .sl a0_0)(h:dT 99 (JA a0_0 a0_1 a1) R):az Tryz.prog 32 [.ref 0 0,VI a1] [.cells [a0_0,VI a0_1]] R :=
 az.rL (cu (db (ai (bX ha0_0) (ai (aC _) aH))) dr) (az.up (ai (aC _) (ai (aC _) aH)) (oF [] {mu:=[(0,.one (.obj [.lk .sl,.lk (.int .i64)]))],own:=[]} Tryz.f32 h))
def GV(a0_0:AV)(a0_1:Int)(a1:ByteArray):Tree :=
 .call 46 [VS a1] [] fun r1 o1=>NT r1<|.al ((r1.comp 0)=.agg (r1.comp 0).cs/\(r1.comp 0).cs.length=2/\bT [.str,.sl] ((r1.comp 0).cs) 0)<|NB (r1.comp 1)<|.test (!((r1.comp 1).toBool)) (.call 55 [.ref 0 0,.sl [[VS (mk [])],[VS (mk [117])],[VS (mk [101,48])],[VS (mk [101,48,48])],[VS (mk [101,49,48,48])],[VS (mk [40,108,32,117,41])],[VS (mk [40,112,32,117,41])],[VS (mk [40,102,32,40,108,32,117,41,41])],[VS (mk [40,120,32,117,41])],[VS (mk [40,108,32,32,117,41])]]] [.cells [a0_0,VI a0_1]] fun r2 o2=>.al ((o2.hO)=.cells (o2.hO).cs)<|.al (aN [.lk .sl,.lk (.int .i64)] ((o2.hO).cs) 0 1 o2.tail)<|NS r2<|.done 0 [VS r2.ag] [.cells [((o2.hO).cs.getD 0 .any),VI (((o2.hO).cs.getD 1 .any).toInt)]]) (.call 32 [.ref 0 0,VI 16] [.cells [a0_0,VI a0_1]] fun r3 o3=>.al ((o3.hO)=.cells (o3.hO).cs)<|.al (aN [.lk .sl,.lk (.int .i64)] ((o3.hO).cs) 0 1 o3.tail)<|NI r3<|.test (r3.toInt==(0:Int)) (.call 55 [.ref 0 0,.sl [[VS (mk [])],[VS (mk [117])],[VS (mk [101,48])],[VS (mk [101,48,48])],[VS (mk [101,49,48,48])],[VS (mk [40,108,32,117,41])],[VS (mk [40,112,32,117,41])],[VS (mk [40,102,32,40,108,32,117,41,41])],[VS (mk [40,120,32,117,41])],[VS (mk [40,108,32,32,117,41])]]] [.cells [((o3.hO).cs.getD 0 .any),VI (((o3.hO).cs.getD 1 .any).toInt)]] fun r4 o4=>.al ((o4.hO)=.cells (o4.hO).cs)<|.al (aN [.lk .sl,.lk (.int .i64)] ((o4.hO).cs) 0 1 o4.tail)<|NS r4<|.done 0 [VS r4.ag] [.cells [((o4.hO).cs.getD 0 .any),VI (((o4.hO).cs.getD 1 .any).toInt)]]) (.call 78 [.agg [VS (((r1.comp 0).cs.getD 0 .any).ag),((r1.comp 0).cs.getD 1 .any)],.v (.slice none 0 0)] [] fun r5 o5=>NA r5<|.call 32 [.ref 0 0,VI 5] [.cells [((o3.hO).cs.getD 0 .any),VI (((o3.hO).cs.getD 1 .any).toInt)]] fun r6 o6=>.al ((o6.hO)=.cells (o6.hO).cs)<|.al (aN [.lk .sl,.lk (.int .i64)] ((o6.hO).cs) 0 1 o6.tail)<|NI r6<|.call 77 [.ref 0 0,.agg [VS ((r5.cs.getD 0 .any).ag),(r5.cs.getD 1 .any)],VI (IntKind.wrap .i64 (5+r6.toInt))] [.cells [((o6.hO).cs.getD 0 .any),VI (((o6.hO).cs.getD 1 .any).toInt)]] fun r7 o7=>.al ((o7.hO)=.cells (o7.hO).cs)<|.al (aN [.lk .sl,.lk (.int .i64)] ((o7.hO).cs) 0 1 o7.tail)<|NA r7<|.call 57 [.agg [VS ((r7.cs.getD 0 .any).ag),(r7.cs.getD 1 .any)]] [] fun r8 o8=>NS r8<|.done 0 [VS r8.ag] [.cells [((o7.hO).cs.getD 0 .any),VI (((o7.hO).cs.getD 1 .any).toInt)]]))
theorem Lv(a0_0:AV)(a0_1:Int)(a1:ByteArray)(ha0_0:LK.has .sl a0_0)(h:dT 30 (GV a0_0 a0_1 a1) R):az Tryz.prog 33 [.ref 0 0,VS a1] [.cells [a0_0,VI a0_1]] R :=
 az.rL (cu (db (ai (bX ha0_0) (ai (aC _) aH))) dr) (az.up (ai (aC _) (ai (aC _) aH)) (oF [] {mu:=[(0,.one (.obj [.lk .sl,.lk (.int .i64)]))],own:=[]} Tryz.f33 h))
def Jj(a0:ByteArray)(a1:ByteArray)(a2:Int):Tree :=
 .call 79 [VS a0] [] fun r1 o1=>NP r1<|.call 48 [VS a1] [] fun r2 o2=>NP r2<|NP r1<|.test r1.isNil (.done 0 [.cx [r1,.v (.pointer none)]] []) (NP r2<|.test r2.isNil (.done 0 [.cx [r1,.v (.pointer none)]] []) (.test (decide (a2<(0:Int))) (.done 0 [.cx [r1,.v (.pointer none)]] []) (.test (decide (a2>(100:Int))) (.done 0 [.cx [r1,.v (.pointer none)]] []) (.call 80 [.agg [r1,.v (.pointer none)],r2,VI a2] [] fun r3 o3=>NB r3<|.test (!r3.toBool) (.done 0 [.cx [r1,.v (.pointer none)]] []) (.done 0 [.cx [r1,r2]] [])))))
theorem MC(a0:ByteArray)(a1:ByteArray)(a2:Int)(h:dT 39 (Jj a0 a1 a2) R):az Tryz.prog 34 [VS a0,VS a1,VI a2] [] R :=
 uQ (ai (aC _) (ai (aC _) (ai (aC _) aH))) (oQ [] Tryz.f34 h)
def JV(a0:ByteArray):Tree :=
 .call 84 [VS a0] [] fun r1 o1=>NT r1<|.al ((r1.comp 0)=.agg (r1.comp 0).cs/\(r1.comp 0).cs.length=2/\bT [.str,.sl] ((r1.comp 0).cs) 0)<|NB (r1.comp 1)<|.test ((r1.comp 1).toBool) (.call 85 [.agg [VS (((r1.comp 0).cs.getD 0 .any).ag),((r1.comp 0).cs.getD 1 .any)]] [] fun r2 o2=>NB r2<|.test r2.toBool (.call 86 [.agg [VS (((r1.comp 0).cs.getD 0 .any).ag),((r1.comp 0).cs.getD 1 .any)]] [] fun r3 o3=>NI r3<|.done 0 [.cx [.agg [VS (((r1.comp 0).cs.getD 0 .any).ag),((r1.comp 0).cs.getD 1 .any)],VB (decide (r3.toInt<=(200:Int)))]] []) (.done 0 [.cx [.agg [VS (((r1.comp 0).cs.getD 0 .any).ag),((r1.comp 0).cs.getD 1 .any)],VB false]] [])) (.done 0 [.cx [.agg [VS (((r1.comp 0).cs.getD 0 .any).ag),((r1.comp 0).cs.getD 1 .any)],VB false]] [])
theorem K1(a0:ByteArray)(h:dT 22 (JV a0) R):az Tryz.prog 37 [VS a0] [] R :=
 uQ (ai (aC _) aH) (oQ [] Tryz.f37 h)
def JN(a0:ByteArray)(a1:ByteArray)(a2:Int):Tree :=
 .call 46 [VS a0] [] fun r1 o1=>NT r1<|.al ((r1.comp 0)=.agg (r1.comp 0).cs/\(r1.comp 0).cs.length=2/\bT [.str,.sl] ((r1.comp 0).cs) 0)<|NB (r1.comp 1)<|.call 37 [VS a1] [] fun r2 o2=>NT r2<|.al ((r2.comp 0)=.agg (r2.comp 0).cs/\(r2.comp 0).cs.length=2/\bT [.str,.sl] ((r2.comp 0).cs) 0)<|NB (r2.comp 1)<|.test ((r1.comp 1).toBool) (.test ((r2.comp 1).toBool) (.call 87 [VI a2,VI 0,VI 100] [] fun r3 o3=>NB r3<|.test r3.toBool (.call 89 [.agg [VS (((r1.comp 0).cs.getD 0 .any).ag),((r1.comp 0).cs.getD 1 .any)],.sl [],.agg [VS (((r2.comp 0).cs.getD 0 .any).ag),((r2.comp 0).cs.getD 1 .any)],VI a2] [] fun r4 o4=>NB r4<|.done 0 [VB r4.toBool] []) (.done 0 [VB false] [])) (.done 0 [VB false] [])) (.done 0 [VB false] [])
theorem K3(a0:ByteArray)(a1:ByteArray)(a2:Int)(h:dT 36 (JN a0 a1 a2) R):az Tryz.prog 39 [VS a0,VS a1,VI a2] [] R :=
 uQ (ai (aC _) (ai (aC _) (ai (aC _) aH))) (oQ [] Tryz.f39 h)
def Kg(a0:AV):Tree :=
 .call 50 [a0] [] fun r1 o1=>NI r1<|.test (decide (r1.toInt>(200:Int))) (.done 0 [.cx [VS (mk []),VB false]] []) (.call 93 [a0] [] fun r2 o2=>NS r2<|.done 0 [.cx [VS r2.ag,VB true]] [])
theorem KZ(a0:AV)(ha0:LK.has .ptr a0)(h:dT 9 (Kg a0) R):az Tryz.prog 43 [a0] [] R :=
 uQ (ai (ci ha0) aH) (oQ [] Tryz.f43 h)
def GH(a0:ByteArray)(a1:ByteArray)(a2:ByteArray):Tree :=
 .call 79 [VS a0] [] fun r1 o1=>NP r1<|.call 97 [VS a0,VS a1] [] fun r2 o2=>NT r2<|NS (r2.comp 0)<|NB (r2.comp 1)<|NP r1<|.test r1.isNil (.done 0 [.cx [.v (.pointer none),.v (.pointer none)]] []) (.test (!((r2.comp 1).toBool)) (.done 0 [.cx [.v (.pointer none),.v (.pointer none)]] []) (.call 34 [VS ((r2.comp 0).ag),VS a2,VI 100] [] fun r3 o3=>NT r3<|NP (r3.comp 0)<|NP (r3.comp 1)<|.done 0 [.cx [r1,(r3.comp 1)]] []))
theorem L9(a0:ByteArray)(a1:ByteArray)(a2:ByteArray)(h:dT 35 (GH a0 a1 a2) R):az Tryz.prog 45 [VS a0,VS a1,VS a2] [] R :=
 uQ (ai (aC _) (ai (aC _) (ai (aC _) aH))) (oQ [] Tryz.f45 h)
def D4:LI:={hd:={cd:=[(7,.k (.int .i64))],refs:=[(2,2),(4,4)],cE:=[(2,[.lk .str,.lk .sl]),(4,[.lk .str,.lk .sl])],eS:=[(6,1)]},xs:={refs:=[(2,2),(4,4)],cE:=[(2,[.lk .str,.lk .sl]),(4,[.lk .str,.lk .sl])]},rt:={cd:=[(3,.k .bool)],refs:=[(2,2)],cE:=[(2,[.lk .str,.lk .sl])]},ex:=0}
def Kn:Code:=dL (dy Tryz.f46) 6
def JS:List (Nat×LI):=[(6,D4)]
def GX(a0:ByteArray):Tree :=
 .call 82 [VS a0] [] fun r1 o1=>NT r1<|.al ((r1.comp 0)=.agg (r1.comp 0).cs/\(r1.comp 0).cs.length=2/\bT [.str,.sl] ((r1.comp 0).cs) 0)<|NB (r1.comp 1)<|.test (!((r1.comp 1).toBool)) (.done 0 [.cx [.agg [VS (((r1.comp 0).cs.getD 0 .any).ag),((r1.comp 0).cs.getD 1 .any)],VB false]] []) (.call 98 [.agg [VS (((r1.comp 0).cs.getD 0 .any).ag),((r1.comp 0).cs.getD 1 .any)],.sl [],.vec 0] [.vec 1 []] fun r2 o2=>.al (r2=.vec 1/\(o2.tail.hO)=.vec 1 (o2.tail.hO).es)<|.loop Kn D4 [VI 0] [.cells [VS (mk []),.v (.slice none 0 0)],.cells [VS (((r1.comp 0).cs.getD 0 .any).ag),((r1.comp 0).cs.getD 1 .any)],.vec 1 ((o2.tail.hO).es)] (fun y4 q4=>.al ((q4.hO)=.cells (q4.hO).cs)<|.al (af [.lk .str,.lk .sl] ((q4.hO).cs) 0 q4.tail)<|.al (((q4.tail.drop 0).hO)=.cells ((q4.tail.drop 0).hO).cs)<|.al (af [.lk .str,.lk .sl] (((q4.tail.drop 0).hO).cs) 0 ((q4.tail.drop 0).tail))<|.done 0 [.cx [.agg [VS (((q4.tail.hO).cs.getD 0 .any).ag),((q4.tail.hO).cs.getD 1 .any)],VB true]] []) (fun y4 q4=>NB (y4.hA)<|.al ((q4.hO)=.cells (q4.hO).cs)<|.al (af [.lk .str,.lk .sl] ((q4.hO).cs) 0 q4.tail)<|.done 0 [.cx [.agg [VS (((q4.hO).cs.getD 0 .any).ag),((q4.hO).cs.getD 1 .any)],VB ((y4.hA).toBool)]] []))
theorem LS(a0:ByteArray)(h:dT 33 (GX a0) R):az Tryz.prog 46 [VS a0] [] R :=
 uQ (ai (aC _) aH) (oQ JS Tryz.f46 h)
def Et(x7:Int)(o2_0:ByteArray)(o2_1:AV)(o4_0:ByteArray)(o4_1:AV)(e6:List (List AV)):Tree :=
 NI (VI x7)<|.al (Ob.cells [VS o2_0,o2_1]=.cells [VS o2_0,o2_1])<|.al (af [.lk .str,.lk .sl] [VS o2_0,o2_1] 0 [.cells [VS o4_0,o4_1],.vec 1 e6])<|.al (Ob.cells [VS o4_0,o4_1]=.cells [VS o4_0,o4_1])<|.al (af [.lk .str,.lk .sl] [VS o4_0,o4_1] 0 [.vec 1 e6])<|.al (Ob.vec 1 e6=.vec 1 e6)<|.test (decide (x7<(e6.length:Int))) (.al (0<=x7/\x7<e6.length)<|.al (x7.toNat<e6.length/\0<(e6.getD x7.toNat []).length/\LK.has .str ((e6.getD x7.toNat []).getD 0 .any))<|.call 99 [VS (((e6.getD x7.toNat []).getD 0 .any).ag)] [] fun r1 o1=>NB r1<|.test r1.toBool (.done 2 [VB false] [.cells [VS o4_0,o4_1]]) (.done 0 [VI (IntKind.wrap .i64 (x7+1))] [.cells [VS o2_0,o2_1],.cells [VS o4_0,o4_1],.vec 1 e6])) (.done 1 [] [.cells [VS o2_0,o2_1],.cells [VS o4_0,o4_1]])
abbrev EL:=cP Tryz.prog 33 Kn D4
theorem JP(x7:Int)(o2_0:ByteArray)(o2_1:AV)(o4_0:ByteArray)(o4_1:AV)(e6:List (List AV))(h:n9 33 (Et x7 o2_0 o2_1 o4_0 o4_1 e6) EL U):EL [VI x7] [.cells [VS o2_0,o2_1],.cells [VS o4_0,o4_1],.vec 1 e6] U :=
 gQ JS h
def JQ(a0:ByteArray)(a1:ByteArray):Tree :=
 .call 82 [VS a0] [] fun r1 o1=>NT r1<|.al ((r1.comp 0)=.agg (r1.comp 0).cs/\(r1.comp 0).cs.length=2/\bT [.str,.sl] ((r1.comp 0).cs) 0)<|NB (r1.comp 1)<|.test (!((r1.comp 1).toBool)) (.done 0 [.cx [VS (mk []),VB false]] []) (.call 100 [VS a1] [] fun r2 o2=>NB r2<|.test (!r2.toBool) (.done 0 [.cx [VS (mk []),VB false]] []) (.call 101 [.agg [VS (((r1.comp 0).cs.getD 0 .any).ag),((r1.comp 0).cs.getD 1 .any)],VS a1] [] fun r3 o3=>NT r3<|.al ((r3.comp 0)=.agg (r3.comp 0).cs/\(r3.comp 0).cs.length=2/\bT [.str,.sl] ((r3.comp 0).cs) 0)<|NB (r3.comp 1)<|.test (!((r3.comp 1).toBool)) (.done 0 [.cx [VS (mk []),VB false]] []) (.call 102 [.agg [VS (((r3.comp 0).cs.getD 0 .any).ag),((r3.comp 0).cs.getD 1 .any)]] [] fun r4 o4=>NT r4<|NS (r4.comp 0)<|NB (r4.comp 1)<|.done 0 [.cx [VS ((r4.comp 0).ag),VB ((r4.comp 1).toBool)]] [])))
theorem LW(a0:ByteArray)(a1:ByteArray)(h:dT 34 (JQ a0 a1) R):az Tryz.prog 47 [VS a0,VS a1] [] R :=
 uQ (ai (aC _) (ai (aC _) aH)) (oQ [] Tryz.f47 h)
def J2(a0:ByteArray):Tree :=
 .call 103 [VS a0] [] fun r1 o1=>NP r1<|NP r1<|.test r1.isNil (.done 0 [.v (.pointer none)] []) (.call 104 [r1] [] fun r2 o2=>NP r2<|NP r2<|.test r2.isNil (.done 0 [.v (.pointer none)] []) (.call 50 [r2] [] fun r3 o3=>NI r3<|.test (decide (r3.toInt>(200:Int))) (.done 0 [.v (.pointer none)] []) (.done 0 [r2] [])))
theorem Mq(a0:ByteArray)(h:dT 19 (J2 a0) R):az Tryz.prog 48 [VS a0] [] R :=
 uQ (ai (aC _) aH) (oQ [] Tryz.f48 h)
def An(a0_0:AV)(a0_1:AV)(a1:AV)(a2_0:ByteArray)(a2_1:AV)(a3:AV):Tree :=
 NZ a0_0<|NZ a0_0<|.al (LK.has (.int .u8) (a0_0.deref.hA)/\1<=a0_0.deref.length)<|.test (((a0_0.deref.hA).toInt)==(43:Int)) (.call 105 [.agg [a0_0,a0_1]] [] fun r1 o1=>.al (r1=.agg r1.cs/\r1.cs.length=2/\bT [.ptr,.ptr] r1.cs 0)<|NZ a1<|NZ a1<|.al (LK.has (.int .u8) (a1.deref.hA)/\1<=a1.deref.length)<|.test (((a1.deref.hA).toInt)==(114:Int)) (.call 106 [.agg [a0_0,a0_1]] [] fun r2 o2=>.al (r2=.agg r2.cs/\r2.cs.length=2/\bT [.ptr,.ptr] r2.cs 0)<|NZ a1<|NZ a1<|.al (LK.has (.int .u8) (a1.deref.hA)/\1<=a1.deref.length)<|NZ a1<|NZ a1<|eF (a1.deref.drop 2)<|.call 49 [.agg [(r2.cs.getD 0 .any),(r2.cs.getD 1 .any)],((a1.deref.drop 2).hA),.agg [VS a2_0,a2_1],a3] [] fun r3 o3=>NP r3<|.call 95 [.v (.int .u8 ((a1.deref.hA).toInt)),r3] [] fun r4 o4=>NP r4<|.done 0 [r4] []) (NZ a1<|NZ a1<|.al (LK.has (.int .u8) (a1.deref.hA)/\1<=a1.deref.length)<|NZ a1<|NZ a1<|eF (a1.deref.drop 2)<|.call 49 [.agg [(r1.cs.getD 0 .any),(r1.cs.getD 1 .any)],((a1.deref.drop 2).hA),.agg [VS a2_0,a2_1],a3] [] fun r5 o5=>NP r5<|.call 95 [.v (.int .u8 ((a1.deref.hA).toInt)),r5] [] fun r6 o6=>NP r6<|.done 0 [r6] [])) (.test (((a0_0.deref.hA).toInt)==(42:Int)) (NZ a1<|NZ a1<|.al (LK.has (.int .u8) (a1.deref.hA)/\1<=a1.deref.length)<|.test (((a1.deref.hA).toInt)==(108:Int)) (.call 105 [.agg [a0_0,a0_1]] [] fun r7 o7=>.al (r7=.agg r7.cs/\r7.cs.length=2/\bT [.ptr,.ptr] r7.cs 0)<|NZ a1<|NZ a1<|eF (a1.deref.drop 2)<|NZ ((a1.deref.drop 2).hA)<|NZ ((a1.deref.drop 2).hA)<|eF (((a1.deref.drop 2).hA).deref.drop 2)<|.call 49 [.agg [(r7.cs.getD 0 .any),(r7.cs.getD 1 .any)],((((a1.deref.drop 2).hA).deref.drop 2).hA),.agg [VS a2_0,a2_1],a3] [] fun r8 o8=>NP r8<|NZ a1<|NZ a1<|eF (a1.deref.drop 2)<|NZ ((a1.deref.drop 2).hA)<|NZ ((a1.deref.drop 2).hA)<|eF (((a1.deref.drop 2).hA).deref.drop 3)<|.call 96 [r8,((((a1.deref.drop 2).hA).deref.drop 3).hA)] [] fun r9 o9=>NP r9<|.done 0 [r9] []) (NZ a1<|NZ a1<|eF (a1.deref.drop 2)<|NZ ((a1.deref.drop 2).hA)<|NZ ((a1.deref.drop 2).hA)<|eF (((a1.deref.drop 2).hA).deref.drop 2)<|.call 106 [.agg [a0_0,a0_1]] [] fun r10 o10=>.al (r10=.agg r10.cs/\r10.cs.length=2/\bT [.ptr,.ptr] r10.cs 0)<|NZ a1<|NZ a1<|eF (a1.deref.drop 2)<|NZ ((a1.deref.drop 2).hA)<|NZ ((a1.deref.drop 2).hA)<|eF (((a1.deref.drop 2).hA).deref.drop 3)<|.call 49 [.agg [(r10.cs.getD 0 .any),(r10.cs.getD 1 .any)],((((a1.deref.drop 2).hA).deref.drop 3).hA),.agg [VS a2_0,a2_1],a3] [] fun r11 o11=>NP r11<|.call 96 [((((a1.deref.drop 2).hA).deref.drop 2).hA),r11] [] fun r12 o12=>NP r12<|.done 0 [r12] [])) (.test (((a0_0.deref.hA).toInt)==(114:Int)) (.call 107 [.agg [a0_0,a0_1]] [] fun r13 o13=>NT r13<|.al ((r13.comp 0)=.agg (r13.comp 0).cs/\(r13.comp 0).cs.length=2/\bT [.ptr,.ptr] ((r13.comp 0).cs) 0)<|NP (r13.comp 1)<|NZ a1<|NZ a1<|eF (a1.deref.drop 2)<|NZ ((a1.deref.drop 2).hA)<|NZ ((a1.deref.drop 2).hA)<|.al (LK.has (.int .u8) (((a1.deref.drop 2).hA).deref.hA)/\1<=(((a1.deref.drop 2).hA).deref).length)<|.test (((((a1.deref.drop 2).hA).deref.hA).toInt)==(108:Int)) (NZ a1<|NZ a1<|eF (a1.deref.drop 2)<|NZ ((a1.deref.drop 2).hA)<|NZ ((a1.deref.drop 2).hA)<|eF (((a1.deref.drop 2).hA).deref.drop 2)<|.call 49 [.agg [((r13.comp 0).cs.getD 0 .any),((r13.comp 0).cs.getD 1 .any)],((((a1.deref.drop 2).hA).deref.drop 2).hA),.agg [VS a2_0,a2_1],a3] [] fun r14 o14=>NP r14<|.call 95 [.v (.int .u8 102),r14] [] fun r15 o15=>NP r15<|.done 0 [r15] []) (NZ a1<|NZ a1<|eF (a1.deref.drop 2)<|NZ ((a1.deref.drop 2).hA)<|NZ ((a1.deref.drop 2).hA)<|eF (((a1.deref.drop 2).hA).deref.drop 2)<|NZ ((((a1.deref.drop 2).hA).deref.drop 2).hA)<|NZ ((((a1.deref.drop 2).hA).deref.drop 2).hA)<|eF (((((a1.deref.drop 2).hA).deref.drop 2).hA).deref.drop 3)<|.call 49 [.agg [a0_0,a0_1],((((((a1.deref.drop 2).hA).deref.drop 2).hA).deref.drop 3).hA),.agg [VS a2_0,a2_1],a3] [] fun r16 o16=>NP r16<|NZ a1<|NZ a1<|eF (a1.deref.drop 2)<|NZ ((a1.deref.drop 2).hA)<|NZ ((a1.deref.drop 2).hA)<|eF (((a1.deref.drop 2).hA).deref.drop 2)<|NZ ((((a1.deref.drop 2).hA).deref.drop 2).hA)<|NZ ((((a1.deref.drop 2).hA).deref.drop 2).hA)<|eF (((((a1.deref.drop 2).hA).deref.drop 2).hA).deref.drop 2)<|.call 49 [.agg [((r13.comp 0).cs.getD 0 .any),((r13.comp 0).cs.getD 1 .any)],((((((a1.deref.drop 2).hA).deref.drop 2).hA).deref.drop 2).hA),.agg [VS (mk []),(r13.comp 1)],r16] [] fun r17 o17=>NP r17<|.call 95 [.v (.int .u8 102),r17] [] fun r18 o18=>NP r18<|.done 0 [r18] [])) (.done 0 [a3] [])))
theorem LN(a0_0:AV)(a0_1:AV)(a1:AV)(a2_0:ByteArray)(a2_1:AV)(a3:AV)(ha0_0:LK.has .ptr a0_0)(ha0_1:LK.has .ptr a0_1)(ha1:LK.has .ptr a1)(ha2_1:LK.has .ptr a2_1)(ha3:LK.has .ptr a3)(h:dT 147 (An a0_0 a0_1 a1 a2_0 a2_1 a3) R):az Tryz.prog 49 [.agg [a0_0,a0_1],a1,.agg [VS a2_0,a2_1],a3] [] R :=
 uQ (ai (cF (ai (ci ha0_0) (ai (ci ha0_1) aH))) (ai (ci ha1) (ai (cF (ai (aC _) (ai (ci ha2_1) aH))) (ai (ci ha3) aH)))) (oQ [] Tryz.f49 h)
def DZ(a0:AV):Tree :=
 NZ a0<|NZ a0<|eF (a0.deref.drop 2)<|NP ((a0.deref.drop 2).hA)<|.test (!((a0.deref.drop 2).hA).isNil) (NZ a0<|NZ a0<|eF (a0.deref.drop 2)<|.call 50 [((a0.deref.drop 2).hA)] [] fun r1 o1=>NI r1<|NZ a0<|NZ a0<|eF (a0.deref.drop 3)<|NP ((a0.deref.drop 3).hA)<|.test (!((a0.deref.drop 3).hA).isNil) (NZ a0<|NZ a0<|eF (a0.deref.drop 3)<|.call 50 [((a0.deref.drop 3).hA)] [] fun r2 o2=>NI r2<|.done 0 [VI (IntKind.wrap .i64 ((IntKind.wrap .i64 (1+r1.toInt))+r2.toInt))] []) (.done 0 [VI (IntKind.wrap .i64 (1+r1.toInt))] [])) (NZ a0<|NZ a0<|eF (a0.deref.drop 3)<|NP ((a0.deref.drop 3).hA)<|.test (!((a0.deref.drop 3).hA).isNil) (NZ a0<|NZ a0<|eF (a0.deref.drop 3)<|.call 50 [((a0.deref.drop 3).hA)] [] fun r3 o3=>NI r3<|.done 0 [VI (IntKind.wrap .i64 (1+r3.toInt))] []) (.done 0 [VI 1] []))
theorem yf(a0:AV)(ha0:LK.has .ptr a0)(h:dT 29 (DZ a0) R):az Tryz.prog 50 [a0] [] R :=
 uQ (ai (ci ha0) aH) (oQ [] Tryz.f50 h)
def Kj(a0_0:AV)(a0_1:Int):Tree :=
 .call 108 [.ref 0 0] [.cells [a0_0,VI a0_1]] fun r1 o1=>.al ((o1.hO)=.cells (o1.hO).cs)<|.al (aN [.lk .sl,.lk (.int .i64)] ((o1.hO).cs) 0 1 o1.tail)<|NS r1<|.call 33 [.ref 0 0,VS r1.ag] [.cells [((o1.hO).cs.getD 0 .any),VI (((o1.hO).cs.getD 1 .any).toInt)]] fun r2 o2=>.al ((o2.hO)=.cells (o2.hO).cs)<|.al (aN [.lk .sl,.lk (.int .i64)] ((o2.hO).cs) 0 1 o2.tail)<|NS r2<|.done 0 [.cx [VS r1.ag,VS r2.ag]] [.cells [((o2.hO).cs.getD 0 .any),VI (((o2.hO).cs.getD 1 .any).toInt)]]
theorem MJ(a0_0:AV)(a0_1:Int)(ha0_0:LK.has .sl a0_0)(h:dT 11 (Kj a0_0 a0_1) R):az Tryz.prog 51 [.ref 0 0] [.cells [a0_0,VI a0_1]] R :=
 az.rL (cu (db (ai (bX ha0_0) (ai (aC _) aH))) dr) (az.up (ai (aC _) aH) (oF [] {mu:=[(0,.one (.obj [.lk .sl,.lk (.int .i64)]))],own:=[]} Tryz.f51 h))
def If(a0_0:AV)(a0_1:Int):Tree :=
 .call 55 [.ref 0 0,.sl [[VS (mk [120])],[VS (mk [120])],[VS (mk [121])],[VS (mk [120])],[VS (mk [116])],[VS (mk [122])]]] [.cells [a0_0,VI a0_1]] fun r1 o1=>.al ((o1.hO)=.cells (o1.hO).cs)<|.al (aN [.lk .sl,.lk (.int .i64)] ((o1.hO).cs) 0 1 o1.tail)<|NS r1<|.done 0 [VS r1.ag] [.cells [((o1.hO).cs.getD 0 .any),VI (((o1.hO).cs.getD 1 .any).toInt)]]
theorem MW(a0_0:AV)(a0_1:Int)(ha0_0:LK.has .sl a0_0)(h:dT 6 (If a0_0 a0_1) R):az Tryz.prog 52 [.ref 0 0] [.cells [a0_0,VI a0_1]] R :=
 az.rL (cu (db (ai (bX ha0_0) (ai (aC _) aH))) dr) (az.up (ai (aC _) aH) (oF [] {mu:=[(0,.one (.obj [.lk .sl,.lk (.int .i64)]))],own:=[]} Tryz.f52 h))
def JX(a0:ByteArray)(a1:ByteArray)(a2:ByteArray):Tree :=
 .call 46 [VS a0] [] fun r1 o1=>NT r1<|.al ((r1.comp 0)=.agg (r1.comp 0).cs/\(r1.comp 0).cs.length=2/\bT [.str,.sl] ((r1.comp 0).cs) 0)<|NB (r1.comp 1)<|.call 37 [VS a2] [] fun r2 o2=>NT r2<|.al ((r2.comp 0)=.agg (r2.comp 0).cs/\(r2.comp 0).cs.length=2/\bT [.str,.sl] ((r2.comp 0).cs) 0)<|NB (r2.comp 1)<|.call 39 [VS a0,VS a2,VI 100] [] fun r3 o3=>NB r3<|.test (!r3.toBool) (.done 0 [.cx [.sl [],VB false]] []) (.call 100 [VS a1] [] fun r4 o4=>NB r4<|.test (!r4.toBool) (.done 0 [.cx [.sl [],VB false]] []) (.call 110 [.agg [VS (((r1.comp 0).cs.getD 0 .any).ag),((r1.comp 0).cs.getD 1 .any)],VS a1,.agg [VS (((r2.comp 0).cs.getD 0 .any).ag),((r2.comp 0).cs.getD 1 .any)]] [] fun r5 o5=>NL r5<|.call 109 [r5] [] fun r6 o6=>NL r6<|.done 0 [.cx [r6,VB true]] []))
theorem Li(a0:ByteArray)(a1:ByteArray)(a2:ByteArray)(h:dT 37 (JX a0 a1 a2) R):az Tryz.prog 53 [VS a0,VS a1,VS a2] [] R :=
 uQ (ai (aC _) (ai (aC _) (ai (aC _) aH))) (oQ [] Tryz.f53 h)
def H2(a0:Int):Tree :=
 .test (decide (a0<((-9223372036854775807):Int))) (.done 0 [VS (mk [45,57,50,50,51,51,55,50,48,51,54,56,53,52,55,55,53,56,48,56])] []) (.test (decide (a0<(0:Int))) (.call 54 [VI (IntKind.wrap .i64 (0-a0))] [] fun r1 o1=>NS r1<|.al (ac (mk [45])+ac r1.ag<=9223372036854775807)<|.done 0 [VS (((mk [45]):ByteArray)++r1.ag)] []) (.test (decide (a0<(10:Int))) (.al (ji [[.v (.int .u8 (IntKind.wrap .u8 (IntKind.wrap .i64 (48+a0))))]])<|.done 0 [VS (⟨(bytesOf [[.v (.int .u8 (IntKind.wrap .u8 (IntKind.wrap .i64 (48+a0))))]]).toArray⟩)] []) (.al (¬(10:Int)=0)<|.call 54 [VI (IntKind.wrap .i64 (Int.tdiv a0 10))] [] fun r2 o2=>NS r2<|.al (¬(10:Int)=0)<|.al (ji [[.v (.int .u8 (IntKind.wrap .u8 (IntKind.wrap .i64 (48+(du a0 10)))))]])<|.al (ac r2.ag+ac (⟨(bytesOf [[.v (.int .u8 (IntKind.wrap .u8 (IntKind.wrap .i64 (48+(du a0 10)))))]]).toArray⟩)<=9223372036854775807)<|.done 0 [VS ((r2.ag:ByteArray)++(⟨(bytesOf [[.v (.int .u8 (IntKind.wrap .u8 (IntKind.wrap .i64 (48+(du a0 10)))))]]).toArray⟩))] [])))
theorem Nn(a0:Int)(h:dT 28 (H2 a0) R):az Tryz.prog 54 [VI a0] [] R :=
 uQ (ai (aC _) aH) (oQ [] Tryz.f54 h)
def HL(a0_0:AV)(a0_1:Int)(a1:AV):Tree :=
 NL a1<|.call 32 [.ref 0 0,VI (a1.aS.length:Int)] [.cells [a0_0,VI a0_1]] fun r1 o1=>.al ((o1.hO)=.cells (o1.hO).cs)<|.al (aN [.lk .sl,.lk (.int .i64)] ((o1.hO).cs) 0 1 o1.tail)<|NI r1<|.al (LK.has .sl a1/\0<=r1.toInt/\r1.toInt<a1.aS.length/\(a1.aS.getD r1.toInt.toNat []).length=1)<|nw (a1.aS.getD r1.toInt.toNat [])<|.done 0 [VS (((a1.aS.getD r1.toInt.toNat []).hA).ag)] [.cells [((o1.hO).cs.getD 0 .any),VI (((o1.hO).cs.getD 1 .any).toInt)]]
theorem Ly(a0_0:AV)(a0_1:Int)(a1:AV)(ha1:LK.has .sl a1)(ha0_0:LK.has .sl a0_0)(h:dT 12 (HL a0_0 a0_1 a1) R):az Tryz.prog 55 [.ref 0 0,a1] [.cells [a0_0,VI a0_1]] R :=
 az.rL (cu (db (ai (bX ha0_0) (ai (aC _) aH))) dr) (az.up (ai (aC _) (ai (bX ha1) aH)) (oF [] {mu:=[(0,.one (.obj [.lk .sl,.lk (.int .i64)]))],own:=[]} Tryz.f55 h))
def AU:LI:={hd:={cd:=[(0,.k .str),(3,.k (.int .i64)),(4,.k (.int .i64))]},xs:={cd:=[(3,.k (.int .i64))]},rt:={cd:=[(2,.k (.int .i64))]},ex:=0}
def BZ:Code:=dL (dy Tryz.f56) 5
def JF:List (Nat×LI):=[(5,AU)]
def Ja(a0:ByteArray):Tree :=
 .call 87 [VI (ac a0:Int),VI 2,VI 3] [] fun r1 o1=>NB r1<|.test (!r1.toBool) (.done 0 [VI (-1)] []) (.al (0<=(0:Int)/\(0:Int)<ac a0)<|.test ((bt a0 0) != (101:Int)) (.done 0 [VI (-1)] []) (.test ((ac a0:Int)==(3:Int)) (.al (0<=(1:Int)/\(1:Int)<ac a0)<|.test ((bt a0 1)==(48:Int)) (.done 0 [VI (-1)] []) (.loop BZ AU [VS a0,VI 0,VI 1] [] (fun y2 q2=>NI (y2.hA)<|.done 0 [VI ((y2.hA).toInt)] []) (fun y2 q2=>NI (y2.hA)<|.done 0 [VI ((y2.hA).toInt)] []))) (.loop BZ AU [VS a0,VI 0,VI 1] [] (fun y3 q3=>NI (y3.hA)<|.done 0 [VI ((y3.hA).toInt)] []) (fun y3 q3=>NI (y3.hA)<|.done 0 [VI ((y3.hA).toInt)] []))))
theorem MN(a0:ByteArray)(h:dT 49 (Ja a0) R):az Tryz.prog 56 [VS a0] [] R :=
 uQ (ai (aC _) aH) (oQ JF Tryz.f56 h)
def Fa(x0:ByteArray)(x3:Int)(x4:Int):Tree :=
 NS (VS x0)<|NI (VI x3)<|NI (VI x4)<|.test (decide (x4<(ac x0:Int))) (.al (0<=x4/\x4<ac x0)<|.test (decide ((bt x0 x4)<(48:Int))) (.done 2 [VI (-1)] []) (.al (0<=x4/\x4<ac x0)<|.test (decide ((bt x0 x4)>(57:Int))) (.done 2 [VI (-1)] []) (.al (0<=x4/\x4<ac x0)<|.done 0 [VS x0,VI (IntKind.wrap .i64 ((IntKind.wrap .i64 (10*x3))+(IntKind.wrap .i64 (IntKind.wrap .u8 ((bt x0 x4)-48))))),VI (IntKind.wrap .i64 (x4+1))] []))) (.done 1 [VI x3] [])
abbrev EK:=cP Tryz.prog 49 BZ AU
theorem Iv(x0:ByteArray)(x3:Int)(x4:Int)(h:n9 49 (Fa x0 x3 x4) EK U):EK [VS x0,VI x3,VI x4] [] U :=
 gQ JF h
def E2:LI:={hd:={cd:=[(3,.k .str),(4,.k (.int .i64))],refs:=[(1,1)],cE:=[(1,[.lk .str,.lk .sl])]},xs:={cd:=[(3,.k .str)]},rt:={},ex:=0}
def GM:Code:=dL (dy Tryz.f57) 5
def Kf:List (Nat×LI):=[(5,E2)]
def Ct(a0_0:ByteArray)(a0_1:AV):Tree :=
 .test (!(ae a0_0==ae (mk []))) (.done 0 [VS a0_0] []) (.loop GM E2 [VS (mk [40]),VI 0] [.cells [VS a0_0,a0_1]] (fun y3 q3=>NS (y3.hA)<|.al (ac ((y3.hA).ag)+ac (mk [41])<=9223372036854775807)<|.done 0 [VS ((((y3.hA).ag):ByteArray)++(mk [41]))] []) (fun y3 q3=>.done 0 [.any] []))
theorem FB(a0_0:ByteArray)(a0_1:AV)(ha0_1:LK.has .sl a0_1)(h:dT 31 (Ct a0_0 a0_1) R):az Tryz.prog 57 [.agg [VS a0_0,a0_1]] [] R :=
 uQ (ai (cF (ai (aC _) (ai (bX ha0_1) aH))) aH) (oQ Kf Tryz.f57 h)
def Bf(x3:ByteArray)(x4:Int)(o1_0:ByteArray)(o1_1:AV):Tree :=
 NS (VS x3)<|NI (VI x4)<|.al (Ob.cells [VS o1_0,o1_1]=.cells [VS o1_0,o1_1])<|.al (af [.lk .str,.lk .sl] [VS o1_0,o1_1] 0 [])<|NL o1_1<|.test (decide (x4<(o1_1.aS.length:Int))) (.test (decide (x4>(0:Int))) (.al (ac x3+ac (mk [32])<=9223372036854775807)<|NG o1_1 x4 2<|NE (o1_1.ix x4)<|.call 57 [.agg [VS (((o1_1.ix x4).getD 0 .any).ag),((o1_1.ix x4).getD 1 .any)]] [] fun r1 o1=>NS r1<|.al (ac ((x3:ByteArray)++(mk [32]))+ac r1.ag<=9223372036854775807)<|.done 0 [VS ((((x3:ByteArray)++(mk [32])):ByteArray)++r1.ag),VI (IntKind.wrap .i64 (x4+1))] [.cells [VS o1_0,o1_1]]) (NG o1_1 x4 2<|NE (o1_1.ix x4)<|.call 57 [.agg [VS (((o1_1.ix x4).getD 0 .any).ag),((o1_1.ix x4).getD 1 .any)]] [] fun r2 o2=>NS r2<|.al (ac x3+ac r2.ag<=9223372036854775807)<|.done 0 [VS ((x3:ByteArray)++r2.ag),VI (IntKind.wrap .i64 (x4+1))] [.cells [VS o1_0,o1_1]])) (.done 1 [VS x3] [])
abbrev Ah:=cP Tryz.prog 31 GM E2
theorem CZ(x3:ByteArray)(x4:Int)(o1_0:ByteArray)(o1_1:AV)(h:n9 31 (Bf x3 x4 o1_0 o1_1) Ah U):Ah [VS x3,VI x4] [.cells [VS o1_0,o1_1]] U :=
 gQ Kf h
def Hy(a0:ByteArray):Tree :=
 .call 111 [VS a0,VS (mk [120,121,122])] [] fun r1 o1=>NB r1<|.done 0 [VB r1.toBool] []
theorem Mh(a0:ByteArray)(h:dT 5 (Hy a0) R):az Tryz.prog 59 [VS a0] [] R :=
 uQ (ai (aC _) aH) (oQ [] Tryz.f59 h)
def Gk(a0:ByteArray)(a1:AV):Tree :=
 .al (LK.has .sl a1/\cT 2 a1.aS/\((([[VS a0,.v (.slice none 0 0)]]:List (List AV)).length)+a1.aS.length)*40<=140737488355328)<|.done 0 [.agg [VS (mk []),.sl (([[VS a0,.v (.slice none 0 0)]]:List (List AV))++a1.aS)]] []
theorem H9(a0:ByteArray)(a1:AV)(ha1:LK.has .sl a1)(h:dT 11 (Gk a0 a1) R):az Tryz.prog 69 [VS a0,a1] [] R :=
 uQ (ai (aC _) (ai (bX ha1) aH)) (oQ [] Tryz.f69 h)
def Jp(a0_0:AV)(a0_1:Int):Tree :=
 .call 32 [.ref 0 0,VI 12] [.cells [a0_0,VI a0_1]] fun r1 o1=>.al ((o1.hO)=.cells (o1.hO).cs)<|.al (aN [.lk .sl,.lk (.int .i64)] ((o1.hO).cs) 0 1 o1.tail)<|NI r1<|.test (r1.toInt==(0:Int)) (.call 55 [.ref 0 0,.sl [[VS (mk [])],[VS (mk [97])],[VS (mk [40,43,32,49,41])],[VS (mk [40,114,101,99,32,120,32,49,41])],[VS (mk [40,114,101,99,32,116,41])],[VS (mk [40,43,32,32,49,32,49,41])],[VS (mk [40,42,32,49,32,49,32,49,41])],[VS (mk [116,49,48,48])],[VS (mk [120,32,49])]]] [.cells [((o1.hO).cs.getD 0 .any),VI (((o1.hO).cs.getD 1 .any).toInt)]] fun r2 o2=>.al ((o2.hO)=.cells (o2.hO).cs)<|.al (aN [.lk .sl,.lk (.int .i64)] ((o2.hO).cs) 0 1 o2.tail)<|NS r2<|.done 0 [VS r2.ag] [.cells [((o2.hO).cs.getD 0 .any),VI (((o2.hO).cs.getD 1 .any).toInt)]]) (.test (r1.toInt==(1:Int)) (.call 119 [.ref 0 0] [.cells [((o1.hO).cs.getD 0 .any),VI (((o1.hO).cs.getD 1 .any).toInt)]] fun r3 o3=>.al ((o3.hO)=.cells (o3.hO).cs)<|.al (aN [.lk .sl,.lk (.int .i64)] ((o3.hO).cs) 0 1 o3.tail)<|NS r3<|.done 0 [VS r3.ag] [.cells [((o3.hO).cs.getD 0 .any),VI (((o3.hO).cs.getD 1 .any).toInt)]]) (.test (r1.toInt==(2:Int)) (.call 119 [.ref 0 0] [.cells [((o1.hO).cs.getD 0 .any),VI (((o1.hO).cs.getD 1 .any).toInt)]] fun r4 o4=>.al ((o4.hO)=.cells (o4.hO).cs)<|.al (aN [.lk .sl,.lk (.int .i64)] ((o4.hO).cs) 0 1 o4.tail)<|NS r4<|.done 0 [VS r4.ag] [.cells [((o4.hO).cs.getD 0 .any),VI (((o4.hO).cs.getD 1 .any).toInt)]]) (.test (r1.toInt==(3:Int)) (.call 119 [.ref 0 0] [.cells [((o1.hO).cs.getD 0 .any),VI (((o1.hO).cs.getD 1 .any).toInt)]] fun r5 o5=>.al ((o5.hO)=.cells (o5.hO).cs)<|.al (aN [.lk .sl,.lk (.int .i64)] ((o5.hO).cs) 0 1 o5.tail)<|NS r5<|.done 0 [VS r5.ag] [.cells [((o5.hO).cs.getD 0 .any),VI (((o5.hO).cs.getD 1 .any).toInt)]]) (.test (r1.toInt==(4:Int)) (.call 127 [.ref 0 0,.sl [[VS (mk [116])],[VS (mk [116,49])]],VI 2] [.cells [((o1.hO).cs.getD 0 .any),VI (((o1.hO).cs.getD 1 .any).toInt)]] fun r6 o6=>.al ((o6.hO)=.cells (o6.hO).cs)<|.al (aN [.lk .sl,.lk (.int .i64)] ((o6.hO).cs) 0 1 o6.tail)<|NS r6<|.done 0 [VS r6.ag] [.cells [((o6.hO).cs.getD 0 .any),VI (((o6.hO).cs.getD 1 .any).toInt)]]) (.call 127 [.ref 0 0,.sl [],VI 3] [.cells [((o1.hO).cs.getD 0 .any),VI (((o1.hO).cs.getD 1 .any).toInt)]] fun r7 o7=>.al ((o7.hO)=.cells (o7.hO).cs)<|.al (aN [.lk .sl,.lk (.int .i64)] ((o7.hO).cs) 0 1 o7.tail)<|NS r7<|.done 0 [VS r7.ag] [.cells [((o7.hO).cs.getD 0 .any),VI (((o7.hO).cs.getD 1 .any).toInt)]])))))
theorem Ln(a0_0:AV)(a0_1:Int)(ha0_0:LK.has .sl a0_0)(h:dT 24 (Jp a0_0 a0_1) R):az Tryz.prog 76 [.ref 0 0] [.cells [a0_0,VI a0_1]] R :=
 az.rL (cu (db (ai (bX ha0_0) (ai (aC _) aH))) dr) (az.up (ai (aC _) aH) (oF [] {mu:=[(0,.one (.obj [.lk .sl,.lk (.int .i64)]))],own:=[]} Tryz.f76 h))
def zT(a0_0:AV)(a0_1:Int)(a1_0:ByteArray)(a1_1:AV)(a2:Int):Tree :=
 .call 90 [.agg [VS a1_0,a1_1]] [] fun r1 o1=>NS r1<|.test (ae r1.ag==ae (mk [43])) (.call 32 [.ref 0 0,VI 2] [.cells [a0_0,VI a0_1]] fun r2 o2=>.al ((o2.hO)=.cells (o2.hO).cs)<|.al (aN [.lk .sl,.lk (.int .i64)] ((o2.hO).cs) 0 1 o2.tail)<|NI r2<|NG a1_1 1 2<|NE (a1_1.ix (1:Int))<|.call 128 [.agg [VS (((a1_1.ix (1:Int)).getD 0 .any).ag),((a1_1.ix (1:Int)).getD 1 .any)],.sl []] [] fun r3 o3=>NB r3<|.test r3.toBool (.test ((1:Int)==(0:Int)) (NG a1_1 1 2<|NE (a1_1.ix (1:Int))<|.call 77 [.ref 0 0,.agg [VS (((a1_1.ix (1:Int)).getD 0 .any).ag),((a1_1.ix (1:Int)).getD 1 .any)],VI (IntKind.wrap .i64 (a2-1))] [.cells [((o2.hO).cs.getD 0 .any),VI (((o2.hO).cs.getD 1 .any).toInt)]] fun r4 o4=>.al ((o4.hO)=.cells (o4.hO).cs)<|.al (aN [.lk .sl,.lk (.int .i64)] ((o4.hO).cs) 0 1 o4.tail)<|NA r4<|.call 69 [VS (mk [108]),.sl [[VS ((r4.cs.getD 0 .any).ag),(r4.cs.getD 1 .any)]]] [] fun r5 o5=>NA r5<|.done 0 [.agg [VS ((r5.cs.getD 0 .any).ag),(r5.cs.getD 1 .any)]] [.cells [((o4.hO).cs.getD 0 .any),VI (((o4.hO).cs.getD 1 .any).toInt)]]) (NG a1_1 2 2<|NE (a1_1.ix (2:Int))<|.call 77 [.ref 0 0,.agg [VS (((a1_1.ix (2:Int)).getD 0 .any).ag),((a1_1.ix (2:Int)).getD 1 .any)],VI (IntKind.wrap .i64 (a2-1))] [.cells [((o2.hO).cs.getD 0 .any),VI (((o2.hO).cs.getD 1 .any).toInt)]] fun r6 o6=>.al ((o6.hO)=.cells (o6.hO).cs)<|.al (aN [.lk .sl,.lk (.int .i64)] ((o6.hO).cs) 0 1 o6.tail)<|NA r6<|.call 69 [VS (mk [114]),.sl [[VS ((r6.cs.getD 0 .any).ag),(r6.cs.getD 1 .any)]]] [] fun r7 o7=>NA r7<|.done 0 [.agg [VS ((r7.cs.getD 0 .any).ag),(r7.cs.getD 1 .any)]] [.cells [((o6.hO).cs.getD 0 .any),VI (((o6.hO).cs.getD 1 .any).toInt)]])) (.test (decide (a2<=(0:Int))) (NG a1_1 1 2<|NE (a1_1.ix (1:Int))<|.call 129 [.agg [VS (((a1_1.ix (1:Int)).getD 0 .any).ag),((a1_1.ix (1:Int)).getD 1 .any)]] [] fun r8 o8=>NI r8<|NG a1_1 2 2<|NE (a1_1.ix (2:Int))<|.call 129 [.agg [VS (((a1_1.ix (2:Int)).getD 0 .any).ag),((a1_1.ix (2:Int)).getD 1 .any)]] [] fun r9 o9=>NI r9<|.test (decide (r8.toInt>r9.toInt)) (NG a1_1 2 2<|NE (a1_1.ix (2:Int))<|.call 128 [.agg [VS (((a1_1.ix (2:Int)).getD 0 .any).ag),((a1_1.ix (2:Int)).getD 1 .any)],.sl []] [] fun r10 o10=>NB r10<|.test (!r10.toBool) (.test ((1:Int)==(0:Int)) (NG a1_1 1 2<|NE (a1_1.ix (1:Int))<|.call 77 [.ref 0 0,.agg [VS (((a1_1.ix (1:Int)).getD 0 .any).ag),((a1_1.ix (1:Int)).getD 1 .any)],VI (IntKind.wrap .i64 (a2-1))] [.cells [((o2.hO).cs.getD 0 .any),VI (((o2.hO).cs.getD 1 .any).toInt)]] fun r11 o11=>.al ((o11.hO)=.cells (o11.hO).cs)<|.al (aN [.lk .sl,.lk (.int .i64)] ((o11.hO).cs) 0 1 o11.tail)<|NA r11<|.call 69 [VS (mk [108]),.sl [[VS ((r11.cs.getD 0 .any).ag),(r11.cs.getD 1 .any)]]] [] fun r12 o12=>NA r12<|.done 0 [.agg [VS ((r12.cs.getD 0 .any).ag),(r12.cs.getD 1 .any)]] [.cells [((o11.hO).cs.getD 0 .any),VI (((o11.hO).cs.getD 1 .any).toInt)]]) (NG a1_1 2 2<|NE (a1_1.ix (2:Int))<|.call 77 [.ref 0 0,.agg [VS (((a1_1.ix (2:Int)).getD 0 .any).ag),((a1_1.ix (2:Int)).getD 1 .any)],VI (IntKind.wrap .i64 (a2-1))] [.cells [((o2.hO).cs.getD 0 .any),VI (((o2.hO).cs.getD 1 .any).toInt)]] fun r13 o13=>.al ((o13.hO)=.cells (o13.hO).cs)<|.al (aN [.lk .sl,.lk (.int .i64)] ((o13.hO).cs) 0 1 o13.tail)<|NA r13<|.call 69 [VS (mk [114]),.sl [[VS ((r13.cs.getD 0 .any).ag),(r13.cs.getD 1 .any)]]] [] fun r14 o14=>NA r14<|.done 0 [.agg [VS ((r14.cs.getD 0 .any).ag),(r14.cs.getD 1 .any)]] [.cells [((o13.hO).cs.getD 0 .any),VI (((o13.hO).cs.getD 1 .any).toInt)]])) (NG a1_1 2 2<|NE (a1_1.ix (2:Int))<|.call 128 [.agg [VS (((a1_1.ix (2:Int)).getD 0 .any).ag),((a1_1.ix (2:Int)).getD 1 .any)],.sl []] [] fun r15 o15=>NB r15<|.test r15.toBool (.test ((0:Int)==(0:Int)) (NG a1_1 1 2<|NE (a1_1.ix (1:Int))<|.call 77 [.ref 0 0,.agg [VS (((a1_1.ix (1:Int)).getD 0 .any).ag),((a1_1.ix (1:Int)).getD 1 .any)],VI (IntKind.wrap .i64 (a2-1))] [.cells [((o2.hO).cs.getD 0 .any),VI (((o2.hO).cs.getD 1 .any).toInt)]] fun r16 o16=>.al ((o16.hO)=.cells (o16.hO).cs)<|.al (aN [.lk .sl,.lk (.int .i64)] ((o16.hO).cs) 0 1 o16.tail)<|NA r16<|.call 69 [VS (mk [108]),.sl [[VS ((r16.cs.getD 0 .any).ag),(r16.cs.getD 1 .any)]]] [] fun r17 o17=>NA r17<|.done 0 [.agg [VS ((r17.cs.getD 0 .any).ag),(r17.cs.getD 1 .any)]] [.cells [((o16.hO).cs.getD 0 .any),VI (((o16.hO).cs.getD 1 .any).toInt)]]) (NG a1_1 2 2<|NE (a1_1.ix (2:Int))<|.call 77 [.ref 0 0,.agg [VS (((a1_1.ix (2:Int)).getD 0 .any).ag),((a1_1.ix (2:Int)).getD 1 .any)],VI (IntKind.wrap .i64 (a2-1))] [.cells [((o2.hO).cs.getD 0 .any),VI (((o2.hO).cs.getD 1 .any).toInt)]] fun r18 o18=>.al ((o18.hO)=.cells (o18.hO).cs)<|.al (aN [.lk .sl,.lk (.int .i64)] ((o18.hO).cs) 0 1 o18.tail)<|NA r18<|.call 69 [VS (mk [114]),.sl [[VS ((r18.cs.getD 0 .any).ag),(r18.cs.getD 1 .any)]]] [] fun r19 o19=>NA r19<|.done 0 [.agg [VS ((r19.cs.getD 0 .any).ag),(r19.cs.getD 1 .any)]] [.cells [((o18.hO).cs.getD 0 .any),VI (((o18.hO).cs.getD 1 .any).toInt)]])) (.test (decide (a2<=(0:Int))) (.test ((0:Int)==(0:Int)) (NG a1_1 1 2<|NE (a1_1.ix (1:Int))<|.call 77 [.ref 0 0,.agg [VS (((a1_1.ix (1:Int)).getD 0 .any).ag),((a1_1.ix (1:Int)).getD 1 .any)],VI (IntKind.wrap .i64 (a2-1))] [.cells [((o2.hO).cs.getD 0 .any),VI (((o2.hO).cs.getD 1 .any).toInt)]] fun r20 o20=>.al ((o20.hO)=.cells (o20.hO).cs)<|.al (aN [.lk .sl,.lk (.int .i64)] ((o20.hO).cs) 0 1 o20.tail)<|NA r20<|.call 69 [VS (mk [108]),.sl [[VS ((r20.cs.getD 0 .any).ag),(r20.cs.getD 1 .any)]]] [] fun r21 o21=>NA r21<|.done 0 [.agg [VS ((r21.cs.getD 0 .any).ag),(r21.cs.getD 1 .any)]] [.cells [((o20.hO).cs.getD 0 .any),VI (((o20.hO).cs.getD 1 .any).toInt)]]) (NG a1_1 2 2<|NE (a1_1.ix (2:Int))<|.call 77 [.ref 0 0,.agg [VS (((a1_1.ix (2:Int)).getD 0 .any).ag),((a1_1.ix (2:Int)).getD 1 .any)],VI (IntKind.wrap .i64 (a2-1))] [.cells [((o2.hO).cs.getD 0 .any),VI (((o2.hO).cs.getD 1 .any).toInt)]] fun r22 o22=>.al ((o22.hO)=.cells (o22.hO).cs)<|.al (aN [.lk .sl,.lk (.int .i64)] ((o22.hO).cs) 0 1 o22.tail)<|NA r22<|.call 69 [VS (mk [114]),.sl [[VS ((r22.cs.getD 0 .any).ag),(r22.cs.getD 1 .any)]]] [] fun r23 o23=>NA r23<|.done 0 [.agg [VS ((r23.cs.getD 0 .any).ag),(r23.cs.getD 1 .any)]] [.cells [((o22.hO).cs.getD 0 .any),VI (((o22.hO).cs.getD 1 .any).toInt)]])) (.test (r2.toInt==(0:Int)) (NG a1_1 1 2<|NE (a1_1.ix (1:Int))<|.call 77 [.ref 0 0,.agg [VS (((a1_1.ix (1:Int)).getD 0 .any).ag),((a1_1.ix (1:Int)).getD 1 .any)],VI (IntKind.wrap .i64 (a2-1))] [.cells [((o2.hO).cs.getD 0 .any),VI (((o2.hO).cs.getD 1 .any).toInt)]] fun r24 o24=>.al ((o24.hO)=.cells (o24.hO).cs)<|.al (aN [.lk .sl,.lk (.int .i64)] ((o24.hO).cs) 0 1 o24.tail)<|NA r24<|.call 69 [VS (mk [108]),.sl [[VS ((r24.cs.getD 0 .any).ag),(r24.cs.getD 1 .any)]]] [] fun r25 o25=>NA r25<|.done 0 [.agg [VS ((r25.cs.getD 0 .any).ag),(r25.cs.getD 1 .any)]] [.cells [((o24.hO).cs.getD 0 .any),VI (((o24.hO).cs.getD 1 .any).toInt)]]) (NG a1_1 2 2<|NE (a1_1.ix (2:Int))<|.call 77 [.ref 0 0,.agg [VS (((a1_1.ix (2:Int)).getD 0 .any).ag),((a1_1.ix (2:Int)).getD 1 .any)],VI (IntKind.wrap .i64 (a2-1))] [.cells [((o2.hO).cs.getD 0 .any),VI (((o2.hO).cs.getD 1 .any).toInt)]] fun r26 o26=>.al ((o26.hO)=.cells (o26.hO).cs)<|.al (aN [.lk .sl,.lk (.int .i64)] ((o26.hO).cs) 0 1 o26.tail)<|NA r26<|.call 69 [VS (mk [114]),.sl [[VS ((r26.cs.getD 0 .any).ag),(r26.cs.getD 1 .any)]]] [] fun r27 o27=>NA r27<|.done 0 [.agg [VS ((r27.cs.getD 0 .any).ag),(r27.cs.getD 1 .any)]] [.cells [((o26.hO).cs.getD 0 .any),VI (((o26.hO).cs.getD 1 .any).toInt)]]))))) (NG a1_1 2 2<|NE (a1_1.ix (2:Int))<|.call 128 [.agg [VS (((a1_1.ix (2:Int)).getD 0 .any).ag),((a1_1.ix (2:Int)).getD 1 .any)],.sl []] [] fun r28 o28=>NB r28<|.test r28.toBool (.test ((0:Int)==(0:Int)) (NG a1_1 1 2<|NE (a1_1.ix (1:Int))<|.call 77 [.ref 0 0,.agg [VS (((a1_1.ix (1:Int)).getD 0 .any).ag),((a1_1.ix (1:Int)).getD 1 .any)],VI (IntKind.wrap .i64 (a2-1))] [.cells [((o2.hO).cs.getD 0 .any),VI (((o2.hO).cs.getD 1 .any).toInt)]] fun r29 o29=>.al ((o29.hO)=.cells (o29.hO).cs)<|.al (aN [.lk .sl,.lk (.int .i64)] ((o29.hO).cs) 0 1 o29.tail)<|NA r29<|.call 69 [VS (mk [108]),.sl [[VS ((r29.cs.getD 0 .any).ag),(r29.cs.getD 1 .any)]]] [] fun r30 o30=>NA r30<|.done 0 [.agg [VS ((r30.cs.getD 0 .any).ag),(r30.cs.getD 1 .any)]] [.cells [((o29.hO).cs.getD 0 .any),VI (((o29.hO).cs.getD 1 .any).toInt)]]) (NG a1_1 2 2<|NE (a1_1.ix (2:Int))<|.call 77 [.ref 0 0,.agg [VS (((a1_1.ix (2:Int)).getD 0 .any).ag),((a1_1.ix (2:Int)).getD 1 .any)],VI (IntKind.wrap .i64 (a2-1))] [.cells [((o2.hO).cs.getD 0 .any),VI (((o2.hO).cs.getD 1 .any).toInt)]] fun r31 o31=>.al ((o31.hO)=.cells (o31.hO).cs)<|.al (aN [.lk .sl,.lk (.int .i64)] ((o31.hO).cs) 0 1 o31.tail)<|NA r31<|.call 69 [VS (mk [114]),.sl [[VS ((r31.cs.getD 0 .any).ag),(r31.cs.getD 1 .any)]]] [] fun r32 o32=>NA r32<|.done 0 [.agg [VS ((r32.cs.getD 0 .any).ag),(r32.cs.getD 1 .any)]] [.cells [((o31.hO).cs.getD 0 .any),VI (((o31.hO).cs.getD 1 .any).toInt)]])) (.test (decide (a2<=(0:Int))) (.test ((0:Int)==(0:Int)) (NG a1_1 1 2<|NE (a1_1.ix (1:Int))<|.call 77 [.ref 0 0,.agg [VS (((a1_1.ix (1:Int)).getD 0 .any).ag),((a1_1.ix (1:Int)).getD 1 .any)],VI (IntKind.wrap .i64 (a2-1))] [.cells [((o2.hO).cs.getD 0 .any),VI (((o2.hO).cs.getD 1 .any).toInt)]] fun r33 o33=>.al ((o33.hO)=.cells (o33.hO).cs)<|.al (aN [.lk .sl,.lk (.int .i64)] ((o33.hO).cs) 0 1 o33.tail)<|NA r33<|.call 69 [VS (mk [108]),.sl [[VS ((r33.cs.getD 0 .any).ag),(r33.cs.getD 1 .any)]]] [] fun r34 o34=>NA r34<|.done 0 [.agg [VS ((r34.cs.getD 0 .any).ag),(r34.cs.getD 1 .any)]] [.cells [((o33.hO).cs.getD 0 .any),VI (((o33.hO).cs.getD 1 .any).toInt)]]) (NG a1_1 2 2<|NE (a1_1.ix (2:Int))<|.call 77 [.ref 0 0,.agg [VS (((a1_1.ix (2:Int)).getD 0 .any).ag),((a1_1.ix (2:Int)).getD 1 .any)],VI (IntKind.wrap .i64 (a2-1))] [.cells [((o2.hO).cs.getD 0 .any),VI (((o2.hO).cs.getD 1 .any).toInt)]] fun r35 o35=>.al ((o35.hO)=.cells (o35.hO).cs)<|.al (aN [.lk .sl,.lk (.int .i64)] ((o35.hO).cs) 0 1 o35.tail)<|NA r35<|.call 69 [VS (mk [114]),.sl [[VS ((r35.cs.getD 0 .any).ag),(r35.cs.getD 1 .any)]]] [] fun r36 o36=>NA r36<|.done 0 [.agg [VS ((r36.cs.getD 0 .any).ag),(r36.cs.getD 1 .any)]] [.cells [((o35.hO).cs.getD 0 .any),VI (((o35.hO).cs.getD 1 .any).toInt)]])) (.test (r2.toInt==(0:Int)) (NG a1_1 1 2<|NE (a1_1.ix (1:Int))<|.call 77 [.ref 0 0,.agg [VS (((a1_1.ix (1:Int)).getD 0 .any).ag),((a1_1.ix (1:Int)).getD 1 .any)],VI (IntKind.wrap .i64 (a2-1))] [.cells [((o2.hO).cs.getD 0 .any),VI (((o2.hO).cs.getD 1 .any).toInt)]] fun r37 o37=>.al ((o37.hO)=.cells (o37.hO).cs)<|.al (aN [.lk .sl,.lk (.int .i64)] ((o37.hO).cs) 0 1 o37.tail)<|NA r37<|.call 69 [VS (mk [108]),.sl [[VS ((r37.cs.getD 0 .any).ag),(r37.cs.getD 1 .any)]]] [] fun r38 o38=>NA r38<|.done 0 [.agg [VS ((r38.cs.getD 0 .any).ag),(r38.cs.getD 1 .any)]] [.cells [((o37.hO).cs.getD 0 .any),VI (((o37.hO).cs.getD 1 .any).toInt)]]) (NG a1_1 2 2<|NE (a1_1.ix (2:Int))<|.call 77 [.ref 0 0,.agg [VS (((a1_1.ix (2:Int)).getD 0 .any).ag),((a1_1.ix (2:Int)).getD 1 .any)],VI (IntKind.wrap .i64 (a2-1))] [.cells [((o2.hO).cs.getD 0 .any),VI (((o2.hO).cs.getD 1 .any).toInt)]] fun r39 o39=>.al ((o39.hO)=.cells (o39.hO).cs)<|.al (aN [.lk .sl,.lk (.int .i64)] ((o39.hO).cs) 0 1 o39.tail)<|NA r39<|.call 69 [VS (mk [114]),.sl [[VS ((r39.cs.getD 0 .any).ag),(r39.cs.getD 1 .any)]]] [] fun r40 o40=>NA r40<|.done 0 [.agg [VS ((r40.cs.getD 0 .any).ag),(r40.cs.getD 1 .any)]] [.cells [((o39.hO).cs.getD 0 .any),VI (((o39.hO).cs.getD 1 .any).toInt)]]))))) (NG a1_1 2 2<|NE (a1_1.ix (2:Int))<|.call 128 [.agg [VS (((a1_1.ix (2:Int)).getD 0 .any).ag),((a1_1.ix (2:Int)).getD 1 .any)],.sl []] [] fun r41 o41=>NB r41<|.test r41.toBool (.test ((0:Int)==(0:Int)) (NG a1_1 1 2<|NE (a1_1.ix (1:Int))<|.call 77 [.ref 0 0,.agg [VS (((a1_1.ix (1:Int)).getD 0 .any).ag),((a1_1.ix (1:Int)).getD 1 .any)],VI (IntKind.wrap .i64 (a2-1))] [.cells [((o2.hO).cs.getD 0 .any),VI (((o2.hO).cs.getD 1 .any).toInt)]] fun r42 o42=>.al ((o42.hO)=.cells (o42.hO).cs)<|.al (aN [.lk .sl,.lk (.int .i64)] ((o42.hO).cs) 0 1 o42.tail)<|NA r42<|.call 69 [VS (mk [108]),.sl [[VS ((r42.cs.getD 0 .any).ag),(r42.cs.getD 1 .any)]]] [] fun r43 o43=>NA r43<|.done 0 [.agg [VS ((r43.cs.getD 0 .any).ag),(r43.cs.getD 1 .any)]] [.cells [((o42.hO).cs.getD 0 .any),VI (((o42.hO).cs.getD 1 .any).toInt)]]) (NG a1_1 2 2<|NE (a1_1.ix (2:Int))<|.call 77 [.ref 0 0,.agg [VS (((a1_1.ix (2:Int)).getD 0 .any).ag),((a1_1.ix (2:Int)).getD 1 .any)],VI (IntKind.wrap .i64 (a2-1))] [.cells [((o2.hO).cs.getD 0 .any),VI (((o2.hO).cs.getD 1 .any).toInt)]] fun r44 o44=>.al ((o44.hO)=.cells (o44.hO).cs)<|.al (aN [.lk .sl,.lk (.int .i64)] ((o44.hO).cs) 0 1 o44.tail)<|NA r44<|.call 69 [VS (mk [114]),.sl [[VS ((r44.cs.getD 0 .any).ag),(r44.cs.getD 1 .any)]]] [] fun r45 o45=>NA r45<|.done 0 [.agg [VS ((r45.cs.getD 0 .any).ag),(r45.cs.getD 1 .any)]] [.cells [((o44.hO).cs.getD 0 .any),VI (((o44.hO).cs.getD 1 .any).toInt)]])) (.test (decide (a2<=(0:Int))) (.test ((0:Int)==(0:Int)) (NG a1_1 1 2<|NE (a1_1.ix (1:Int))<|.call 77 [.ref 0 0,.agg [VS (((a1_1.ix (1:Int)).getD 0 .any).ag),((a1_1.ix (1:Int)).getD 1 .any)],VI (IntKind.wrap .i64 (a2-1))] [.cells [((o2.hO).cs.getD 0 .any),VI (((o2.hO).cs.getD 1 .any).toInt)]] fun r46 o46=>.al ((o46.hO)=.cells (o46.hO).cs)<|.al (aN [.lk .sl,.lk (.int .i64)] ((o46.hO).cs) 0 1 o46.tail)<|NA r46<|.call 69 [VS (mk [108]),.sl [[VS ((r46.cs.getD 0 .any).ag),(r46.cs.getD 1 .any)]]] [] fun r47 o47=>NA r47<|.done 0 [.agg [VS ((r47.cs.getD 0 .any).ag),(r47.cs.getD 1 .any)]] [.cells [((o46.hO).cs.getD 0 .any),VI (((o46.hO).cs.getD 1 .any).toInt)]]) (NG a1_1 2 2<|NE (a1_1.ix (2:Int))<|.call 77 [.ref 0 0,.agg [VS (((a1_1.ix (2:Int)).getD 0 .any).ag),((a1_1.ix (2:Int)).getD 1 .any)],VI (IntKind.wrap .i64 (a2-1))] [.cells [((o2.hO).cs.getD 0 .any),VI (((o2.hO).cs.getD 1 .any).toInt)]] fun r48 o48=>.al ((o48.hO)=.cells (o48.hO).cs)<|.al (aN [.lk .sl,.lk (.int .i64)] ((o48.hO).cs) 0 1 o48.tail)<|NA r48<|.call 69 [VS (mk [114]),.sl [[VS ((r48.cs.getD 0 .any).ag),(r48.cs.getD 1 .any)]]] [] fun r49 o49=>NA r49<|.done 0 [.agg [VS ((r49.cs.getD 0 .any).ag),(r49.cs.getD 1 .any)]] [.cells [((o48.hO).cs.getD 0 .any),VI (((o48.hO).cs.getD 1 .any).toInt)]])) (.test (r2.toInt==(0:Int)) (NG a1_1 1 2<|NE (a1_1.ix (1:Int))<|.call 77 [.ref 0 0,.agg [VS (((a1_1.ix (1:Int)).getD 0 .any).ag),((a1_1.ix (1:Int)).getD 1 .any)],VI (IntKind.wrap .i64 (a2-1))] [.cells [((o2.hO).cs.getD 0 .any),VI (((o2.hO).cs.getD 1 .any).toInt)]] fun r50 o50=>.al ((o50.hO)=.cells (o50.hO).cs)<|.al (aN [.lk .sl,.lk (.int .i64)] ((o50.hO).cs) 0 1 o50.tail)<|NA r50<|.call 69 [VS (mk [108]),.sl [[VS ((r50.cs.getD 0 .any).ag),(r50.cs.getD 1 .any)]]] [] fun r51 o51=>NA r51<|.done 0 [.agg [VS ((r51.cs.getD 0 .any).ag),(r51.cs.getD 1 .any)]] [.cells [((o50.hO).cs.getD 0 .any),VI (((o50.hO).cs.getD 1 .any).toInt)]]) (NG a1_1 2 2<|NE (a1_1.ix (2:Int))<|.call 77 [.ref 0 0,.agg [VS (((a1_1.ix (2:Int)).getD 0 .any).ag),((a1_1.ix (2:Int)).getD 1 .any)],VI (IntKind.wrap .i64 (a2-1))] [.cells [((o2.hO).cs.getD 0 .any),VI (((o2.hO).cs.getD 1 .any).toInt)]] fun r52 o52=>.al ((o52.hO)=.cells (o52.hO).cs)<|.al (aN [.lk .sl,.lk (.int .i64)] ((o52.hO).cs) 0 1 o52.tail)<|NA r52<|.call 69 [VS (mk [114]),.sl [[VS ((r52.cs.getD 0 .any).ag),(r52.cs.getD 1 .any)]]] [] fun r53 o53=>NA r53<|.done 0 [.agg [VS ((r53.cs.getD 0 .any).ag),(r53.cs.getD 1 .any)]] [.cells [((o52.hO).cs.getD 0 .any),VI (((o52.hO).cs.getD 1 .any).toInt)]])))))) (.test (ae r1.ag==ae (mk [42])) (NG a1_1 1 2<|NE (a1_1.ix (1:Int))<|.call 77 [.ref 0 0,.agg [VS (((a1_1.ix (1:Int)).getD 0 .any).ag),((a1_1.ix (1:Int)).getD 1 .any)],VI (IntKind.wrap .i64 (a2-1))] [.cells [a0_0,VI a0_1]] fun r54 o54=>.al ((o54.hO)=.cells (o54.hO).cs)<|.al (aN [.lk .sl,.lk (.int .i64)] ((o54.hO).cs) 0 1 o54.tail)<|NA r54<|NG a1_1 2 2<|NE (a1_1.ix (2:Int))<|.call 77 [.ref 0 0,.agg [VS (((a1_1.ix (2:Int)).getD 0 .any).ag),((a1_1.ix (2:Int)).getD 1 .any)],VI (IntKind.wrap .i64 (a2-1))] [.cells [((o54.hO).cs.getD 0 .any),VI (((o54.hO).cs.getD 1 .any).toInt)]] fun r55 o55=>.al ((o55.hO)=.cells (o55.hO).cs)<|.al (aN [.lk .sl,.lk (.int .i64)] ((o55.hO).cs) 0 1 o55.tail)<|NA r55<|.call 69 [VS (mk [112]),.sl [[VS ((r54.cs.getD 0 .any).ag),(r54.cs.getD 1 .any)],[VS ((r55.cs.getD 0 .any).ag),(r55.cs.getD 1 .any)]]] [] fun r56 o56=>NA r56<|.done 0 [.agg [VS ((r56.cs.getD 0 .any).ag),(r56.cs.getD 1 .any)]] [.cells [((o55.hO).cs.getD 0 .any),VI (((o55.hO).cs.getD 1 .any).toInt)]]) (.test (ae r1.ag==ae (mk [114,101,99])) (.call 130 [.agg [VS a1_0,a1_1]] [] fun r57 o57=>NT r57<|.al ((r57.comp 0)=.agg (r57.comp 0).cs/\(r57.comp 0).cs.length=2/\bT [.str,.sl] ((r57.comp 0).cs) 0)<|NB (r57.comp 1)<|.test (!((r57.comp 1).toBool)) (.done 0 [.agg [VS (mk [117]),.v (.slice none 0 0)]] [.cells [a0_0,VI a0_1]]) (.test (decide (a2<((-12):Int))) (.done 0 [.agg [VS (mk [117]),.v (.slice none 0 0)]] [.cells [a0_0,VI a0_1]]) (.call 77 [.ref 0 0,.agg [VS (((r57.comp 0).cs.getD 0 .any).ag),((r57.comp 0).cs.getD 1 .any)],VI (IntKind.wrap .i64 (a2-1))] [.cells [a0_0,VI a0_1]] fun r58 o58=>.al ((o58.hO)=.cells (o58.hO).cs)<|.al (aN [.lk .sl,.lk (.int .i64)] ((o58.hO).cs) 0 1 o58.tail)<|NA r58<|.call 69 [VS (mk [102]),.sl [[VS ((r58.cs.getD 0 .any).ag),(r58.cs.getD 1 .any)]]] [] fun r59 o59=>NA r59<|.done 0 [.agg [VS ((r59.cs.getD 0 .any).ag),(r59.cs.getD 1 .any)]] [.cells [((o58.hO).cs.getD 0 .any),VI (((o58.hO).cs.getD 1 .any).toInt)]]))) (.test (ae a1_0==ae (mk [49])) (.done 0 [.agg [VS (mk [117]),.v (.slice none 0 0)]] [.cells [a0_0,VI a0_1]]) (.call 32 [.ref 0 0,VI 3] [.cells [a0_0,VI a0_1]] fun r60 o60=>.al ((o60.hO)=.cells (o60.hO).cs)<|.al (aN [.lk .sl,.lk (.int .i64)] ((o60.hO).cs) 0 1 o60.tail)<|NI r60<|.call 54 [VI r60.toInt] [] fun r61 o61=>NS r61<|.al (ac (mk [101])+ac r61.ag<=9223372036854775807)<|.done 0 [.agg [VS (((mk [101]):ByteArray)++r61.ag),.v (.slice none 0 0)]] [.cells [((o60.hO).cs.getD 0 .any),VI (((o60.hO).cs.getD 1 .any).toInt)]]))))
theorem Ce(a0_0:AV)(a0_1:Int)(a1_0:ByteArray)(a1_1:AV)(a2:Int)(ha1_1:LK.has .sl a1_1)(ha0_0:LK.has .sl a0_0)(h:dT 132 (zT a0_0 a0_1 a1_0 a1_1 a2) R):az Tryz.prog 77 [.ref 0 0,.agg [VS a1_0,a1_1],VI a2] [.cells [a0_0,VI a0_1]] R :=
 az.rL (cu (db (ai (bX ha0_0) (ai (aC _) aH))) dr) (az.up (ai (aC _) (ai (cF (ai (aC _) (ai (bX ha1_1) aH))) (ai (aC _) aH))) (oF [] {mu:=[(0,.one (.obj [.lk .sl,.lk (.int .i64)]))],own:=[]} Tryz.f77 h))
def Ej:LI:={hd:={cd:=[(1,.k .sl),(6,.k (.int .i64))],refs:=[(2,2),(4,4)],cE:=[(2,[.lk .str,.lk .sl]),(4,[.lk .str,.lk .sl])],eS:=[(5,1)]},xs:={refs:=[(2,2),(4,4)],cE:=[(2,[.lk .str,.lk .sl]),(4,[.lk .str,.lk .sl])],eS:=[(5,1)]},rt:={},ex:=0}
def Ii:Code:=dL (dy Tryz.f78) 3
def JG:List (Nat×LI):=[(3,Ej)]
def IA(a0_0:ByteArray)(a0_1:AV)(a1:AV):Tree :=
 .call 98 [.agg [VS a0_0,a0_1],.sl [],.vec 0] [.vec 1 []] fun r1 o1=>.al (r1=.vec 1/\(o1.tail.hO)=.vec 1 (o1.tail.hO).es)<|.loop Ii Ej [a1,VI 0] [.cells [VS a0_0,a0_1],.cells [VS (mk []),.v (.slice none 0 0)],.vec 1 ((o1.tail.hO).es)] (fun y3 q3=>.al ((q3.hO)=.cells (q3.hO).cs)<|.al (af [.lk .str,.lk .sl] ((q3.hO).cs) 0 q3.tail)<|.al (((q3.tail.drop 0).hO)=.cells ((q3.tail.drop 0).hO).cs)<|.al (af [.lk .str,.lk .sl] (((q3.tail.drop 0).hO).cs) 0 ((q3.tail.drop 0).tail))<|.al (((q3.drop 2).hO)=.vec 1 ((q3.drop 2).hO).es)<|.call 131 [.agg [VS (((q3.hO).cs.getD 0 .any).ag),((q3.hO).cs.getD 1 .any)],.sl [],.sl [],.ref 0 0] [.cells [.vec 1,VI 0],.vec 1 ((q3.tail.tail.hO).es)] fun r4 o4=>.al ((o4.hO)=.cells (o4.hO).cs)<|.al (aN [.vec 1,.lk (.int .i64)] ((o4.hO).cs) 0 1 o4.tail)<|NA r4<|.done 0 [.agg [VS ((r4.cs.getD 0 .any).ag),(r4.cs.getD 1 .any)]] []) (fun y3 q3=>.fail)
theorem LG(a0_0:ByteArray)(a0_1:AV)(a1:AV)(ha0_1:LK.has .sl a0_1)(ha1:LK.has .sl a1)(h:dT 33 (IA a0_0 a0_1 a1) R):az Tryz.prog 78 [.agg [VS a0_0,a0_1],a1] [] R :=
 uQ (ai (cF (ai (aC _) (ai (bX ha0_1) aH))) (ai (bX ha1) aH)) (oQ JG Tryz.f78 h)
def Gj(x1:AV)(x6:Int)(o2_0:ByteArray)(o2_1:AV)(o4_0:ByteArray)(o4_1:AV)(e5:List (List AV)):Tree :=
 NL x1<|NI (VI x6)<|.al (Ob.cells [VS o2_0,o2_1]=.cells [VS o2_0,o2_1])<|.al (af [.lk .str,.lk .sl] [VS o2_0,o2_1] 0 [.cells [VS o4_0,o4_1],.vec 1 e5])<|.al (Ob.cells [VS o4_0,o4_1]=.cells [VS o4_0,o4_1])<|.al (af [.lk .str,.lk .sl] [VS o4_0,o4_1] 0 [.vec 1 e5])<|.al (Ob.vec 1 e5=.vec 1 e5)<|NL x1<|.test (decide (x6<(x1.aS.length:Int))) (NG x1 x6 2<|NE (x1.ix x6)<|.call 98 [.agg [VS (((x1.ix x6).getD 0 .any).ag),((x1.ix x6).getD 1 .any)],.sl [],.vec 0] [.vec 1 []] fun r1 o1=>.al (r1=.vec 1/\(o1.tail.hO)=.vec 1 (o1.tail.hO).es)<|.al (cT 1 ((o1.tail.hO).es)/\((e5.length)+((o1.tail.hO).es).length)*16<=140737488355328)<|.done 0 [x1,VI (IntKind.wrap .i64 (x6+1))] [.cells [VS o2_0,o2_1],.cells [VS o4_0,o4_1],.vec 1 (e5++((o1.tail.hO).es))]) (.done 1 [] [.cells [VS o2_0,o2_1],.cells [VS o4_0,o4_1],.vec 1 e5])
abbrev D3:=cP Tryz.prog 33 Ii Ej
theorem Ig(x1:AV)(x6:Int)(o2_0:ByteArray)(o2_1:AV)(o4_0:ByteArray)(o4_1:AV)(e5:List (List AV))(h:n9 33 (Gj x1 x6 o2_0 o2_1 o4_0 o4_1 e5) D3 U):D3 [x1,VI x6] [.cells [VS o2_0,o2_1],.cells [VS o4_0,o4_1],.vec 1 e5] U :=
 gQ JG h
def JI(a0:ByteArray):Tree :=
 .call 121 [VS a0] [] fun r1 o1=>NP r1<|NP r1<|.test r1.isNil (.done 0 [.v (.pointer none)] []) (.call 132 [r1] [] fun r2 o2=>NB r2<|.test (!r2.toBool) (.done 0 [.v (.pointer none)] []) (.done 0 [r1] []))
theorem LU(a0:ByteArray)(h:dT 14 (JI a0) R):az Tryz.prog 79 [VS a0] [] R :=
 uQ (ai (aC _) aH) (oQ [] Tryz.f79 h)
def zg(a0_0:AV)(a0_1:AV)(a1:AV)(a2:Int):Tree :=
 NZ a0_0<|NZ a0_0<|.al (LK.has (.int .u8) (a0_0.deref.hA)/\1<=a0_0.deref.length)<|.test (((a0_0.deref.hA).toInt)==(49:Int)) (NZ a1<|NZ a1<|.al (LK.has (.int .u8) (a1.deref.hA)/\1<=a1.deref.length)<|.done 0 [VB (((a1.deref.hA).toInt)==(117:Int))] []) (.test (((a0_0.deref.hA).toInt)==(110:Int)) (NZ a1<|NZ a1<|.al (LK.has (.int .u8) (a1.deref.hA)/\1<=a1.deref.length)<|.test (((a1.deref.hA).toInt) != (101:Int)) (.done 0 [VB false] []) (NZ a1<|NZ a1<|nw (a1.deref.drop 1)<|.al (0<=(1:Int)/\(1:Int)<=(ac (((a1.deref.drop 1).hA).ag):Int)/\(ac (((a1.deref.drop 1).hA).ag):Int)<=(ac (((a1.deref.drop 1).hA).ag):Int))<|.call 81 [VS (bP (((a1.deref.drop 1).hA).ag) (bM 1) (bM (ac (((a1.deref.drop 1).hA).ag):Int)))] [] fun r1 o1=>NT r1<|NI (r1.comp 0)<|.al (LK.has .kg (r1.comp 1))<|.done 0 [VB (decide (((r1.comp 0).toInt)<a2))] [])) (.test (((a0_0.deref.hA).toInt)==(98:Int)) (.call 133 [.agg [a0_0,a0_1]] [] fun r2 o2=>NP r2<|NZ r2<|NZ r2<|.al (bT [.ptr,.ptr] r2.deref 0/\2<=r2.deref.length)<|.call 80 [.agg [(r2.deref.getD 0 .any),(r2.deref.getD 1 .any)],a1,VI a2] [] fun r3 o3=>NB r3<|.done 0 [VB r3.toBool] []) (.test (((a0_0.deref.hA).toInt)==(43:Int)) (NZ a1<|NZ a1<|.al (LK.has (.int .u8) (a1.deref.hA)/\1<=a1.deref.length)<|.test (((a1.deref.hA).toInt)==(108:Int)) (.call 105 [.agg [a0_0,a0_1]] [] fun r4 o4=>.al (r4=.agg r4.cs/\r4.cs.length=2/\bT [.ptr,.ptr] r4.cs 0)<|NZ a1<|NZ a1<|eF (a1.deref.drop 2)<|.call 80 [.agg [(r4.cs.getD 0 .any),(r4.cs.getD 1 .any)],((a1.deref.drop 2).hA),VI a2] [] fun r5 o5=>NB r5<|.test r5.toBool (.done 0 [VB true] []) (NZ a1<|NZ a1<|.al (LK.has (.int .u8) (a1.deref.hA)/\1<=a1.deref.length)<|.test (((a1.deref.hA).toInt)==(114:Int)) (.call 106 [.agg [a0_0,a0_1]] [] fun r6 o6=>.al (r6=.agg r6.cs/\r6.cs.length=2/\bT [.ptr,.ptr] r6.cs 0)<|NZ a1<|NZ a1<|eF (a1.deref.drop 2)<|.call 80 [.agg [(r6.cs.getD 0 .any),(r6.cs.getD 1 .any)],((a1.deref.drop 2).hA),VI a2] [] fun r7 o7=>NB r7<|.done 0 [VB r7.toBool] []) (.done 0 [VB false] []))) (NZ a1<|NZ a1<|.al (LK.has (.int .u8) (a1.deref.hA)/\1<=a1.deref.length)<|.test (((a1.deref.hA).toInt)==(114:Int)) (.call 106 [.agg [a0_0,a0_1]] [] fun r8 o8=>.al (r8=.agg r8.cs/\r8.cs.length=2/\bT [.ptr,.ptr] r8.cs 0)<|NZ a1<|NZ a1<|eF (a1.deref.drop 2)<|.call 80 [.agg [(r8.cs.getD 0 .any),(r8.cs.getD 1 .any)],((a1.deref.drop 2).hA),VI a2] [] fun r9 o9=>NB r9<|.done 0 [VB r9.toBool] []) (.done 0 [VB false] []))) (.test (((a0_0.deref.hA).toInt)==(42:Int)) (NZ a1<|NZ a1<|.al (LK.has (.int .u8) (a1.deref.hA)/\1<=a1.deref.length)<|.test (((a1.deref.hA).toInt)==(112:Int)) (.call 105 [.agg [a0_0,a0_1]] [] fun r10 o10=>.al (r10=.agg r10.cs/\r10.cs.length=2/\bT [.ptr,.ptr] r10.cs 0)<|NZ a1<|NZ a1<|eF (a1.deref.drop 2)<|.call 80 [.agg [(r10.cs.getD 0 .any),(r10.cs.getD 1 .any)],((a1.deref.drop 2).hA),VI a2] [] fun r11 o11=>NB r11<|.test r11.toBool (.call 106 [.agg [a0_0,a0_1]] [] fun r12 o12=>.al (r12=.agg r12.cs/\r12.cs.length=2/\bT [.ptr,.ptr] r12.cs 0)<|NZ a1<|NZ a1<|eF (a1.deref.drop 3)<|.call 80 [.agg [(r12.cs.getD 0 .any),(r12.cs.getD 1 .any)],((a1.deref.drop 3).hA),VI a2] [] fun r13 o13=>NB r13<|.done 0 [VB r13.toBool] []) (.done 0 [VB false] [])) (.done 0 [VB false] [])) (.test (((a0_0.deref.hA).toInt)==(114:Int)) (.call 107 [.agg [a0_0,a0_1]] [] fun r14 o14=>NT r14<|.al ((r14.comp 0)=.agg (r14.comp 0).cs/\(r14.comp 0).cs.length=2/\bT [.ptr,.ptr] ((r14.comp 0).cs) 0)<|NP (r14.comp 1)<|NZ a1<|NZ a1<|.al (LK.has (.int .u8) (a1.deref.hA)/\1<=a1.deref.length)<|.test (((a1.deref.hA).toInt)==(102:Int)) (NZ a1<|NZ a1<|eF (a1.deref.drop 2)<|.call 80 [.agg [((r14.comp 0).cs.getD 0 .any),((r14.comp 0).cs.getD 1 .any)],((a1.deref.drop 2).hA),VI a2] [] fun r15 o15=>NB r15<|.done 0 [VB r15.toBool] []) (.done 0 [VB false] [])) (.done 0 [VB false] []))))))
theorem I0(a0_0:AV)(a0_1:AV)(a1:AV)(a2:Int)(ha0_0:LK.has .ptr a0_0)(ha0_1:LK.has .ptr a0_1)(ha1:LK.has .ptr a1)(h:dT 134 (zg a0_0 a0_1 a1 a2) R):az Tryz.prog 80 [.agg [a0_0,a0_1],a1,VI a2] [] R :=
 uQ (ai (cF (ai (ci ha0_0) (ai (ci ha0_1) aH))) (ai (ci ha1) (ai (aC _) aH))) (oQ [] Tryz.f80 h)
def IM(a0:ByteArray):Tree :=
 .call 84 [VS a0] [] fun r1 o1=>NT r1<|.al ((r1.comp 0)=.agg (r1.comp 0).cs/\(r1.comp 0).cs.length=2/\bT [.str,.sl] ((r1.comp 0).cs) 0)<|NB (r1.comp 1)<|.test ((r1.comp 1).toBool) (.call 136 [.agg [VS (((r1.comp 0).cs.getD 0 .any).ag),((r1.comp 0).cs.getD 1 .any)]] [] fun r2 o2=>NB r2<|.test r2.toBool (.call 129 [.agg [VS (((r1.comp 0).cs.getD 0 .any).ag),((r1.comp 0).cs.getD 1 .any)]] [] fun r3 o3=>NI r3<|.done 0 [.cx [.agg [VS (((r1.comp 0).cs.getD 0 .any).ag),((r1.comp 0).cs.getD 1 .any)],VB (decide (r3.toInt<=(400:Int)))]] []) (.done 0 [.cx [.agg [VS (((r1.comp 0).cs.getD 0 .any).ag),((r1.comp 0).cs.getD 1 .any)],VB false]] [])) (.done 0 [.cx [.agg [VS (((r1.comp 0).cs.getD 0 .any).ag),((r1.comp 0).cs.getD 1 .any)],VB false]] [])
theorem MM(a0:ByteArray)(h:dT 22 (IM a0) R):az Tryz.prog 82 [VS a0] [] R :=
 uQ (ai (aC _) aH) (oQ [] Tryz.f82 h)
def Hb(a0:ByteArray):Tree :=
 .test (decide ((ac a0:Int)>(8000:Int))) (.done 0 [.cx [.agg [VS (mk []),.v (.slice none 0 0)],VB false]] []) (.call 137 [VS a0,VI 0,VI 0] [] fun r1 o1=>NT r1<|.al ((r1.comp 0)=.agg (r1.comp 0).cs/\(r1.comp 0).cs.length=2/\bT [.str,.sl] ((r1.comp 0).cs) 0)<|NI (r1.comp 1)<|.done 0 [.cx [.agg [VS (((r1.comp 0).cs.getD 0 .any).ag),((r1.comp 0).cs.getD 1 .any)],VB (((r1.comp 1).toInt)==(ac a0:Int))]] [])
theorem MZ(a0:ByteArray)(h:dT 20 (Hb a0) R):az Tryz.prog 84 [VS a0] [] R :=
 uQ (ai (aC _) aH) (oQ [] Tryz.f84 h)
def wD(a0_0:ByteArray)(a0_1:AV):Tree :=
 .test (!(ae a0_0==ae (mk []))) (.test (ae a0_0==ae (mk [117])) (.done 0 [VB true] []) (.call 56 [VS a0_0] [] fun r1 o1=>NI r1<|.done 0 [VB (decide (r1.toInt≥(0:Int)))] [])) (.call 90 [.agg [VS a0_0,a0_1]] [] fun r2 o2=>NS r2<|.test (ae r2.ag==ae (mk [108])) (NL a0_1<|.test ((a0_1.aS.length:Int)==(2:Int)) (NG a0_1 1 2<|NE (a0_1.ix (1:Int))<|.call 85 [.agg [VS (((a0_1.ix (1:Int)).getD 0 .any).ag),((a0_1.ix (1:Int)).getD 1 .any)]] [] fun r3 o3=>NB r3<|.done 0 [VB r3.toBool] []) (.done 0 [VB false] [])) (.test (ae r2.ag==ae (mk [114])) (NL a0_1<|.test ((a0_1.aS.length:Int)==(2:Int)) (NG a0_1 1 2<|NE (a0_1.ix (1:Int))<|.call 85 [.agg [VS (((a0_1.ix (1:Int)).getD 0 .any).ag),((a0_1.ix (1:Int)).getD 1 .any)]] [] fun r4 o4=>NB r4<|.done 0 [VB r4.toBool] []) (.done 0 [VB false] [])) (.test (ae r2.ag==ae (mk [102])) (NL a0_1<|.test ((a0_1.aS.length:Int)==(2:Int)) (NG a0_1 1 2<|NE (a0_1.ix (1:Int))<|.call 85 [.agg [VS (((a0_1.ix (1:Int)).getD 0 .any).ag),((a0_1.ix (1:Int)).getD 1 .any)]] [] fun r5 o5=>NB r5<|.done 0 [VB r5.toBool] []) (.done 0 [VB false] [])) (.test (ae r2.ag==ae (mk [112])) (NL a0_1<|.test ((a0_1.aS.length:Int)==(3:Int)) (NG a0_1 1 2<|NE (a0_1.ix (1:Int))<|.call 85 [.agg [VS (((a0_1.ix (1:Int)).getD 0 .any).ag),((a0_1.ix (1:Int)).getD 1 .any)]] [] fun r6 o6=>NB r6<|.test r6.toBool (NG a0_1 2 2<|NE (a0_1.ix (2:Int))<|.call 85 [.agg [VS (((a0_1.ix (2:Int)).getD 0 .any).ag),((a0_1.ix (2:Int)).getD 1 .any)]] [] fun r7 o7=>NB r7<|.done 0 [VB r7.toBool] []) (.done 0 [VB false] [])) (.done 0 [VB false] [])) (.done 0 [VB false] [])))))
theorem yo(a0_0:ByteArray)(a0_1:AV)(ha0_1:LK.has .sl a0_1)(h:dT 52 (wD a0_0 a0_1) R):az Tryz.prog 85 [.agg [VS a0_0,a0_1]] [] R :=
 uQ (ai (cF (ai (aC _) (ai (bX ha0_1) aH))) aH) (oQ [] Tryz.f85 h)
def Ge:LI:={hd:={cd:=[(3,.k (.int .i64)),(4,.k (.int .i64))],refs:=[(1,1)],cE:=[(1,[.lk .str,.lk .sl])]},xs:={cd:=[(3,.k (.int .i64))]},rt:={},ex:=0}
def Hn:Code:=dL (dy Tryz.f86) 3
def GN:List (Nat×LI):=[(3,Ge)]
def FP(a0_0:ByteArray)(a0_1:AV):Tree :=
 .loop Hn Ge [VI 1,VI 1] [.cells [VS a0_0,a0_1]] (fun y2 q2=>NI (y2.hA)<|.done 0 [VI ((y2.hA).toInt)] []) (fun y2 q2=>.done 0 [.any] [])
theorem GO(a0_0:ByteArray)(a0_1:AV)(ha0_1:LK.has .sl a0_1)(h:dT 21 (FP a0_0 a0_1) R):az Tryz.prog 86 [.agg [VS a0_0,a0_1]] [] R :=
 uQ (ai (cF (ai (aC _) (ai (bX ha0_1) aH))) aH) (oQ GN Tryz.f86 h)
def Bl(x3:Int)(x4:Int)(o1_0:ByteArray)(o1_1:AV):Tree :=
 NI (VI x3)<|NI (VI x4)<|.al (Ob.cells [VS o1_0,o1_1]=.cells [VS o1_0,o1_1])<|.al (af [.lk .str,.lk .sl] [VS o1_0,o1_1] 0 [])<|NL o1_1<|.test (decide (x4<(o1_1.aS.length:Int))) (NG o1_1 x4 2<|NE (o1_1.ix x4)<|.call 86 [.agg [VS (((o1_1.ix x4).getD 0 .any).ag),((o1_1.ix x4).getD 1 .any)]] [] fun r1 o1=>NI r1<|.done 0 [VI (IntKind.wrap .i64 (x3+r1.toInt)),VI (IntKind.wrap .i64 (x4+1))] [.cells [VS o1_0,o1_1]]) (.done 1 [VI x3] [])
abbrev Az:=cP Tryz.prog 21 Hn Ge
theorem CV(x3:Int)(x4:Int)(o1_0:ByteArray)(o1_1:AV)(h:n9 21 (Bl x3 x4 o1_0 o1_1) Az U):Az [VI x3,VI x4] [.cells [VS o1_0,o1_1]] U :=
 gQ GN h
def Ju(a0:Int)(a1:Int)(a2:Int):Tree :=
 .test (decide (a0≥a1)) (.done 0 [VB (decide (a0<=a2))] []) (.done 0 [VB false] [])
theorem Nr(a0:Int)(a1:Int)(a2:Int)(h:dT 15 (Ju a0 a1 a2) R):az Tryz.prog 87 [VI a0,VI a1,VI a2] [] R :=
 uQ (ai (aC _) (ai (aC _) (ai (aC _) aH))) (oQ [] Tryz.f87 h)
def Jx(a0_0:ByteArray)(a0_1:AV)(a1:AV)(a2_0:ByteArray)(a2_1:AV)(a3:Int):Tree :=
 .call 138 [.agg [VS a0_0,a0_1],a1] [] fun r1 o1=>NT r1<|.al ((r1.comp 0)=.agg (r1.comp 0).cs/\(r1.comp 0).cs.length=2/\bT [.str,.sl] ((r1.comp 0).cs) 0)<|NL (r1.comp 1)<|.test (!(ae (((r1.comp 0).cs.getD 0 .any).ag)==ae (mk []))) (.test (ae (((r1.comp 0).cs.getD 0 .any).ag)==ae (mk [49])) (.done 0 [VB (ae a2_0==ae (mk [117]))] []) (.call 100 [VS (((r1.comp 0).cs.getD 0 .any).ag)] [] fun r2 o2=>NB r2<|.test r2.toBool (.call 56 [VS a2_0] [] fun r3 o3=>NI r3<|.call 87 [VI r3.toInt,VI 0,VI (IntKind.wrap .i64 (a3-1))] [] fun r4 o4=>NB r4<|.done 0 [VB r4.toBool] []) (.done 0 [VB false] []))) (.call 90 [.agg [VS (((r1.comp 0).cs.getD 0 .any).ag),((r1.comp 0).cs.getD 1 .any)]] [] fun r5 o5=>NS r5<|.call 90 [.agg [VS a2_0,a2_1]] [] fun r6 o6=>NS r6<|.al (ac r5.ag+ac r6.ag<=9223372036854775807)<|.test (ae ((r5.ag:ByteArray)++r6.ag)==ae (mk [43,108])) (NG ((r1.comp 0).cs.getD 1 .any) 1 2<|NE (((r1.comp 0).cs.getD 1 .any).ix (1:Int))<|NG a2_1 1 2<|NE (a2_1.ix (1:Int))<|.call 89 [.agg [VS (((((r1.comp 0).cs.getD 1 .any).ix (1:Int)).getD 0 .any).ag),((((r1.comp 0).cs.getD 1 .any).ix (1:Int)).getD 1 .any)],(r1.comp 1),.agg [VS (((a2_1.ix (1:Int)).getD 0 .any).ag),((a2_1.ix (1:Int)).getD 1 .any)],VI a3] [] fun r7 o7=>NB r7<|.done 0 [VB r7.toBool] []) (.test (ae ((r5.ag:ByteArray)++r6.ag)==ae (mk [43,114])) (NG ((r1.comp 0).cs.getD 1 .any) 2 2<|NE (((r1.comp 0).cs.getD 1 .any).ix (2:Int))<|NG a2_1 1 2<|NE (a2_1.ix (1:Int))<|.call 89 [.agg [VS (((((r1.comp 0).cs.getD 1 .any).ix (2:Int)).getD 0 .any).ag),((((r1.comp 0).cs.getD 1 .any).ix (2:Int)).getD 1 .any)],(r1.comp 1),.agg [VS (((a2_1.ix (1:Int)).getD 0 .any).ag),((a2_1.ix (1:Int)).getD 1 .any)],VI a3] [] fun r8 o8=>NB r8<|.done 0 [VB r8.toBool] []) (.test (ae ((r5.ag:ByteArray)++r6.ag)==ae (mk [42,112])) (NG ((r1.comp 0).cs.getD 1 .any) 1 2<|NE (((r1.comp 0).cs.getD 1 .any).ix (1:Int))<|NG a2_1 1 2<|NE (a2_1.ix (1:Int))<|.call 89 [.agg [VS (((((r1.comp 0).cs.getD 1 .any).ix (1:Int)).getD 0 .any).ag),((((r1.comp 0).cs.getD 1 .any).ix (1:Int)).getD 1 .any)],(r1.comp 1),.agg [VS (((a2_1.ix (1:Int)).getD 0 .any).ag),((a2_1.ix (1:Int)).getD 1 .any)],VI a3] [] fun r9 o9=>NB r9<|.test r9.toBool (NG ((r1.comp 0).cs.getD 1 .any) 2 2<|NE (((r1.comp 0).cs.getD 1 .any).ix (2:Int))<|NG a2_1 2 2<|NE (a2_1.ix (2:Int))<|.call 89 [.agg [VS (((((r1.comp 0).cs.getD 1 .any).ix (2:Int)).getD 0 .any).ag),((((r1.comp 0).cs.getD 1 .any).ix (2:Int)).getD 1 .any)],(r1.comp 1),.agg [VS (((a2_1.ix (2:Int)).getD 0 .any).ag),((a2_1.ix (2:Int)).getD 1 .any)],VI a3] [] fun r10 o10=>NB r10<|.done 0 [VB r10.toBool] []) (.done 0 [VB false] [])) (.test (ae ((r5.ag:ByteArray)++r6.ag)==ae (mk [114,101,99,102])) (.call 139 [.agg [VS (((r1.comp 0).cs.getD 0 .any).ag),((r1.comp 0).cs.getD 1 .any)],(r1.comp 1)] [] fun r11 o11=>NT r11<|.al ((r11.comp 0)=.agg (r11.comp 0).cs/\(r11.comp 0).cs.length=2/\bT [.str,.sl] ((r11.comp 0).cs) 0)<|NL (r11.comp 1)<|NG a2_1 1 2<|NE (a2_1.ix (1:Int))<|.call 89 [.agg [VS (((r11.comp 0).cs.getD 0 .any).ag),((r11.comp 0).cs.getD 1 .any)],(r11.comp 1),.agg [VS (((a2_1.ix (1:Int)).getD 0 .any).ag),((a2_1.ix (1:Int)).getD 1 .any)],VI a3] [] fun r12 o12=>NB r12<|.done 0 [VB r12.toBool] []) (.done 0 [VB false] [])))))
theorem M7(a0_0:ByteArray)(a0_1:AV)(a1:AV)(a2_0:ByteArray)(a2_1:AV)(a3:Int)(ha0_1:LK.has .sl a0_1)(ha1:LK.has .sl a1)(ha2_1:LK.has .sl a2_1)(h:dT 110 (Jx a0_0 a0_1 a1 a2_0 a2_1 a3) R):az Tryz.prog 89 [.agg [VS a0_0,a0_1],a1,.agg [VS a2_0,a2_1],VI a3] [] R :=
 uQ (ai (cF (ai (aC _) (ai (bX ha0_1) aH))) (ai (bX ha1) (ai (cF (ai (aC _) (ai (bX ha2_1) aH))) (ai (aC _) aH)))) (oQ [] Tryz.f89 h)
def C4(a0_0:ByteArray)(a0_1:AV):Tree :=
 .test (!(ae a0_0==ae (mk []))) (.done 0 [VS (mk [])] []) (NL a0_1<|.test ((a0_1.aS.length:Int)==(0:Int)) (.done 0 [VS (mk [])] []) (NG a0_1 0 2<|nw (a0_1.ix (0:Int))<|.done 0 [VS (((a0_1.ix (0:Int)).hA).ag)] []))
theorem EJ(a0_0:ByteArray)(a0_1:AV)(ha0_1:LK.has .sl a0_1)(h:dT 17 (C4 a0_0 a0_1) R):az Tryz.prog 90 [.agg [VS a0_0,a0_1]] [] R :=
 uQ (ai (cF (ai (aC _) (ai (bX ha0_1) aH))) aH) (oQ [] Tryz.f90 h)
def Di(a0:AV)(e1_0_0:List (List AV)):Tree :=
 .call 189 [a0,.ref 0 0] [.cells [.vec 1],.vec 1 e1_0_0] fun r1 o1=>.al ((o1.hO)=.cells (o1.hO).cs)<|.al (aN [.vec 1] ((o1.hO).cs) 0 1 o1.tail)<|NZ a0<|NZ a0<|eF (a0.deref.drop 3)<|NP ((a0.deref.drop 3).hA)<|.test (!((a0.deref.drop 3).hA).isNil) (NZ a0<|NZ a0<|eF (a0.deref.drop 3)<|.call 91 [((a0.deref.drop 3).hA),.fn 189 [.ref 0 0]] [.cells [.vec 1],.vec 1 ((o1.tail.hO).es)] fun r2 o2=>.al ((o2.hO)=.cells (o2.hO).cs)<|.al (aN [.vec 1] ((o2.hO).cs) 0 1 o2.tail)<|NZ a0<|NZ a0<|eF (a0.deref.drop 4)<|NP ((a0.deref.drop 4).hA)<|.test (!((a0.deref.drop 4).hA).isNil) (NZ a0<|NZ a0<|eF (a0.deref.drop 4)<|.call 91 [((a0.deref.drop 4).hA),.fn 189 [.ref 0 0]] [.cells [.vec 1],.vec 1 ((o2.tail.hO).es)] fun r3 o3=>.al ((o3.hO)=.cells (o3.hO).cs)<|.al (aN [.vec 1] ((o3.hO).cs) 0 1 o3.tail)<|.done 0 [.any] [.cells [.vec 1],.vec 1 ((o3.tail.hO).es)]) (.done 0 [.any] [.cells [.vec 1],.vec 1 ((o2.tail.hO).es)])) (NZ a0<|NZ a0<|eF (a0.deref.drop 4)<|NP ((a0.deref.drop 4).hA)<|.test (!((a0.deref.drop 4).hA).isNil) (NZ a0<|NZ a0<|eF (a0.deref.drop 4)<|.call 91 [((a0.deref.drop 4).hA),.fn 189 [.ref 0 0]] [.cells [.vec 1],.vec 1 ((o1.tail.hO).es)] fun r4 o4=>.al ((o4.hO)=.cells (o4.hO).cs)<|.al (aN [.vec 1] ((o4.hO).cs) 0 1 o4.tail)<|.done 0 [.any] [.cells [.vec 1],.vec 1 ((o4.tail.hO).es)]) (.done 0 [.any] [.cells [.vec 1],.vec 1 ((o1.tail.hO).es)]))
theorem vD(a0:AV)(e1_0_0:List (List AV))(ha0:LK.has .ptr a0)(h:dT 29 (Di a0 e1_0_0) R):az Tryz.prog 91 [a0,.fn 189 [.ref 0 0]] [.cells [.vec 1],.vec 1 e1_0_0] R :=
 az.rL (cu (db (ai (aC _) aH)) (cu (mn _) dr)) (az.up (ai (ci ha0) (ai (aC _) aH)) (oF [] {mu:=[(1,.fn [some (.obj [.vec 1])])],own:=[]} Tryz.f91 h))
def vU(a0:AV):Tree :=
 NZ a0<|NZ a0<|.al (LK.has (.int .u8) (a0.deref.hA)/\1<=a0.deref.length)<|.test (((a0.deref.hA).toInt)==(117:Int)) (.done 0 [VS (mk [117])] []) (.test (((a0.deref.hA).toInt)==(101:Int)) (NZ a0<|NZ a0<|nw (a0.deref.drop 1)<|.done 0 [VS (((a0.deref.drop 1).hA).ag)] []) (.test (((a0.deref.hA).toInt)==(112:Int)) (NZ a0<|NZ a0<|eF (a0.deref.drop 2)<|.call 93 [((a0.deref.drop 2).hA)] [] fun r1 o1=>NS r1<|.al (ac (mk [40,112,32])+ac r1.ag<=9223372036854775807)<|.al (ac (((mk [40,112,32]):ByteArray)++r1.ag)+ac (mk [32])<=9223372036854775807)<|NZ a0<|NZ a0<|eF (a0.deref.drop 3)<|.call 93 [((a0.deref.drop 3).hA)] [] fun r2 o2=>NS r2<|.al (ac (((((mk [40,112,32]):ByteArray)++r1.ag):ByteArray)++(mk [32]))+ac r2.ag<=9223372036854775807)<|.al (ac (((((((mk [40,112,32]):ByteArray)++r1.ag):ByteArray)++(mk [32])):ByteArray)++r2.ag)+ac (mk [41])<=9223372036854775807)<|.done 0 [VS (((((((((mk [40,112,32]):ByteArray)++r1.ag):ByteArray)++(mk [32])):ByteArray)++r2.ag):ByteArray)++(mk [41]))] []) (NZ a0<|NZ a0<|.al (LK.has (.int .u8) (a0.deref.hA)/\1<=a0.deref.length)<|.al (ji [[.v (.int .u8 ((a0.deref.hA).toInt))]])<|.al (ac (mk [40])+ac (⟨(bytesOf [[.v (.int .u8 ((a0.deref.hA).toInt))]]).toArray⟩)<=9223372036854775807)<|.al (ac (((mk [40]):ByteArray)++(⟨(bytesOf [[.v (.int .u8 ((a0.deref.hA).toInt))]]).toArray⟩))+ac (mk [32])<=9223372036854775807)<|NZ a0<|NZ a0<|eF (a0.deref.drop 2)<|.call 93 [((a0.deref.drop 2).hA)] [] fun r3 o3=>NS r3<|.al (ac (((((mk [40]):ByteArray)++(⟨(bytesOf [[.v (.int .u8 ((a0.deref.hA).toInt))]]).toArray⟩)):ByteArray)++(mk [32]))+ac r3.ag<=9223372036854775807)<|.al (ac (((((((mk [40]):ByteArray)++(⟨(bytesOf [[.v (.int .u8 ((a0.deref.hA).toInt))]]).toArray⟩)):ByteArray)++(mk [32])):ByteArray)++r3.ag)+ac (mk [41])<=9223372036854775807)<|.done 0 [VS (((((((((mk [40]):ByteArray)++(⟨(bytesOf [[.v (.int .u8 ((a0.deref.hA).toInt))]]).toArray⟩)):ByteArray)++(mk [32])):ByteArray)++r3.ag):ByteArray)++(mk [41]))] [])))
theorem y7(a0:AV)(ha0:LK.has .ptr a0)(h:dT 46 (vU a0) R):az Tryz.prog 93 [a0] [] R :=
 uQ (ai (ci ha0) aH) (oQ [] Tryz.f93 h)
def HI(a0:Int)(a1:AV):Tree :=
 .done 0 [.ptr [.v (.int .u8 a0),VS (mk []),a1,.v (.pointer none)]] []
theorem LO(a0:Int)(a1:AV)(ha1:LK.has .ptr a1)(h:dT 9 (HI a0 a1) R):az Tryz.prog 95 [.v (.int .u8 a0),a1] [] R :=
 uQ (ai (aC _) (ai (ci ha1) aH)) (oQ [] Tryz.f95 h)
def Ix(a0:AV)(a1:AV):Tree :=
 .done 0 [.ptr [.v (.int .u8 112),VS (mk []),a0,a1]] []
theorem MD(a0:AV)(a1:AV)(ha0:LK.has .ptr a0)(ha1:LK.has .ptr a1)(h:dT 9 (Ix a0 a1) R):az Tryz.prog 96 [a0,a1] [] R :=
 uQ (ai (ci ha0) (ai (ci ha1) aH)) (oQ [] Tryz.f96 h)
def JK(a0:ByteArray)(a1:ByteArray):Tree :=
 .call 121 [VS a0] [] fun r1 o1=>NP r1<|NP r1<|.test r1.isNil (.done 0 [.cx [VS (mk []),VB false]] []) (.call 59 [VS a1] [] fun r2 o2=>NB r2<|.test (!r2.toBool) (.done 0 [.cx [VS (mk []),VB false]] []) (.call 141 [r1,VS a1] [] fun r3 o3=>NT r3<|NP (r3.comp 0)<|NB (r3.comp 1)<|.test (!((r3.comp 1).toBool)) (.done 0 [.cx [VS (mk []),VB false]] []) (.call 123 [(r3.comp 0)] [] fun r4 o4=>NT r4<|NS (r4.comp 0)<|NB (r4.comp 1)<|.done 0 [.cx [VS ((r4.comp 0).ag),VB ((r4.comp 1).toBool)]] [])))
theorem Mt(a0:ByteArray)(a1:ByteArray)(h:dT 30 (JK a0 a1) R):az Tryz.prog 97 [VS a0,VS a1] [] R :=
 uQ (ai (aC _) (ai (aC _) aH)) (oQ [] Tryz.f97 h)
def vW(a0_0:ByteArray)(a0_1:AV)(a1:AV)(e2:List (List AV)):Tree :=
 .test (!(ae a0_0==ae (mk []))) (.test (ae a0_0==ae (mk [48])) (.done 0 [.vec 1] [.dead,.vec 1 e2]) (.test (ae a0_0==ae (mk [49])) (.done 0 [.vec 1] [.dead,.vec 1 e2]) (.call 142 [a1,VS a0_0] [] fun r1 o1=>NB r1<|.test r1.toBool (.done 0 [.vec 1] [.dead,.vec 1 e2]) (.call 142 [.sl e2,VS a0_0] [] fun r2 o2=>NB r2<|.test r2.toBool (.done 0 [.vec 1] [.dead,.vec 1 e2]) (.al (cT 1 [[VS a0_0]]/\((e2.length)+([[VS a0_0]]:List (List AV)).length)*16<=140737488355328)<|.done 0 [.vec 1] [.dead,.vec 1 (e2++([[VS a0_0]]:List (List AV)))]))))) (.call 90 [.agg [VS a0_0,a0_1]] [] fun r3 o3=>NS r3<|.test (ae r3.ag==ae (mk [114,101,99])) (NG a0_1 2 2<|NE (a0_1.ix (2:Int))<|NG a0_1 1 2<|nw (a0_1.ix (1:Int))<|.call 143 [a1,VS (((a0_1.ix (1:Int)).hA).ag)] [] fun r4 o4=>NL r4<|.call 98 [.agg [VS (((a0_1.ix (2:Int)).getD 0 .any).ag),((a0_1.ix (2:Int)).getD 1 .any)],r4,.vec 0] [.vec 1 e2] fun r5 o5=>.al (r5=.vec 1/\(o5.tail.hO)=.vec 1 (o5.tail.hO).es)<|.done 0 [.vec 1] [.dead,.vec 1 ((o5.tail.hO).es)]) (NG a0_1 2 2<|NE (a0_1.ix (2:Int))<|NG a0_1 1 2<|NE (a0_1.ix (1:Int))<|.call 98 [.agg [VS (((a0_1.ix (1:Int)).getD 0 .any).ag),((a0_1.ix (1:Int)).getD 1 .any)],a1,.vec 0] [.vec 1 e2] fun r6 o6=>.al (r6=.vec 1/\(o6.tail.hO)=.vec 1 (o6.tail.hO).es)<|.call 98 [.agg [VS (((a0_1.ix (2:Int)).getD 0 .any).ag),((a0_1.ix (2:Int)).getD 1 .any)],a1,.vec 0] [.vec 1 ((o6.tail.hO).es)] fun r7 o7=>.al (r7=.vec 1/\(o7.tail.hO)=.vec 1 (o7.tail.hO).es)<|.done 0 [.vec 1] [.dead,.vec 1 ((o7.tail.hO).es)]))
theorem yG(a0_0:ByteArray)(a0_1:AV)(a1:AV)(e2:List (List AV))(ha0_1:LK.has .sl a0_1)(ha1:LK.has .sl a1)(h:dT 65 (vW a0_0 a0_1 a1 e2) R):az Tryz.prog 98 [.agg [VS a0_0,a0_1],a1,.vec 0] [.vec 1 e2] R :=
 az.rL (cu (mn _) dr) (az.up (ai (cF (ai (aC _) (ai (bX ha0_1) aH))) (ai (bX ha1) (ai (aC _) aH))) (oF [] {mu:=[(2,.one (.vec))],own:=[0]} Tryz.f98 h))
def G7(a0:ByteArray):Tree :=
 .call 144 [VS a0,.v (.int .u8 116),.v (.int .u8 116)] [] fun r1 o1=>NB r1<|.done 0 [VB r1.toBool] []
theorem Nt(a0:ByteArray)(h:dT 5 (G7 a0) R):az Tryz.prog 99 [VS a0] [] R :=
 uQ (ai (aC _) aH) (oQ [] Tryz.f99 h)
def H8(a0:ByteArray):Tree :=
 .call 144 [VS a0,.v (.int .u8 120),.v (.int .u8 122)] [] fun r1 o1=>NB r1<|.done 0 [VB r1.toBool] []
theorem Lr(a0:ByteArray)(h:dT 5 (H8 a0) R):az Tryz.prog 100 [VS a0] [] R :=
 uQ (ai (aC _) aH) (oQ [] Tryz.f100 h)
def AD(a0_0:ByteArray)(a0_1:AV)(a1:ByteArray):Tree :=
 .test (!(ae a0_0==ae (mk []))) (.test (ae a0_0==ae a1) (.done 0 [.cx [.agg [VS (mk [49]),.v (.slice none 0 0)],VB true]] []) (.done 0 [.cx [.agg [VS (mk [48]),.v (.slice none 0 0)],VB true]] [])) (.call 90 [.agg [VS a0_0,a0_1]] [] fun r1 o1=>NS r1<|.test (ae r1.ag==ae (mk [114,101,99])) (.call 145 [.agg [VS a0_0,a0_1],VS a1] [] fun r2 o2=>NT r2<|.al ((r2.comp 0)=.agg (r2.comp 0).cs/\(r2.comp 0).cs.length=2/\bT [.str,.sl] ((r2.comp 0).cs) 0)<|NB (r2.comp 1)<|.done 0 [.cx [.agg [VS (((r2.comp 0).cs.getD 0 .any).ag),((r2.comp 0).cs.getD 1 .any)],VB ((r2.comp 1).toBool)]] []) (NG a0_1 1 2<|NE (a0_1.ix (1:Int))<|.call 101 [.agg [VS (((a0_1.ix (1:Int)).getD 0 .any).ag),((a0_1.ix (1:Int)).getD 1 .any)],VS a1] [] fun r3 o3=>NT r3<|.al ((r3.comp 0)=.agg (r3.comp 0).cs/\(r3.comp 0).cs.length=2/\bT [.str,.sl] ((r3.comp 0).cs) 0)<|NB (r3.comp 1)<|NG a0_1 2 2<|NE (a0_1.ix (2:Int))<|.call 101 [.agg [VS (((a0_1.ix (2:Int)).getD 0 .any).ag),((a0_1.ix (2:Int)).getD 1 .any)],VS a1] [] fun r4 o4=>NT r4<|.al ((r4.comp 0)=.agg (r4.comp 0).cs/\(r4.comp 0).cs.length=2/\bT [.str,.sl] ((r4.comp 0).cs) 0)<|NB (r4.comp 1)<|.call 69 [VS (mk [43]),.sl [[VS (((r3.comp 0).cs.getD 0 .any).ag),((r3.comp 0).cs.getD 1 .any)],[VS (((r4.comp 0).cs.getD 0 .any).ag),((r4.comp 0).cs.getD 1 .any)]]] [] fun r5 o5=>NA r5<|.call 90 [.agg [VS a0_0,a0_1]] [] fun r6 o6=>NS r6<|.test (ae r6.ag==ae (mk [42])) (NG a0_1 2 2<|NE (a0_1.ix (2:Int))<|.call 69 [VS (mk [42]),.sl [[VS (((r3.comp 0).cs.getD 0 .any).ag),((r3.comp 0).cs.getD 1 .any)],[VS (((a0_1.ix (2:Int)).getD 0 .any).ag),((a0_1.ix (2:Int)).getD 1 .any)]]] [] fun r7 o7=>NA r7<|NG a0_1 1 2<|NE (a0_1.ix (1:Int))<|.call 69 [VS (mk [42]),.sl [[VS (((a0_1.ix (1:Int)).getD 0 .any).ag),((a0_1.ix (1:Int)).getD 1 .any)],[VS (((r4.comp 0).cs.getD 0 .any).ag),((r4.comp 0).cs.getD 1 .any)]]] [] fun r8 o8=>NA r8<|.call 69 [VS (mk [43]),.sl [[VS ((r7.cs.getD 0 .any).ag),(r7.cs.getD 1 .any)],[VS ((r8.cs.getD 0 .any).ag),(r8.cs.getD 1 .any)]]] [] fun r9 o9=>NA r9<|.test ((r3.comp 1).toBool) (.test ((r4.comp 1).toBool) (.call 129 [.agg [VS ((r9.cs.getD 0 .any).ag),(r9.cs.getD 1 .any)]] [] fun r10 o10=>NI r10<|.done 0 [.cx [.agg [VS ((r9.cs.getD 0 .any).ag),(r9.cs.getD 1 .any)],VB (decide (r10.toInt<=(400:Int)))]] []) (.done 0 [.cx [.agg [VS ((r9.cs.getD 0 .any).ag),(r9.cs.getD 1 .any)],VB false]] [])) (.done 0 [.cx [.agg [VS ((r9.cs.getD 0 .any).ag),(r9.cs.getD 1 .any)],VB false]] [])) (.test ((r3.comp 1).toBool) (.test ((r4.comp 1).toBool) (.call 129 [.agg [VS ((r5.cs.getD 0 .any).ag),(r5.cs.getD 1 .any)]] [] fun r11 o11=>NI r11<|.done 0 [.cx [.agg [VS ((r5.cs.getD 0 .any).ag),(r5.cs.getD 1 .any)],VB (decide (r11.toInt<=(400:Int)))]] []) (.done 0 [.cx [.agg [VS ((r5.cs.getD 0 .any).ag),(r5.cs.getD 1 .any)],VB false]] [])) (.done 0 [.cx [.agg [VS ((r5.cs.getD 0 .any).ag),(r5.cs.getD 1 .any)],VB false]] []))))
theorem C5(a0_0:ByteArray)(a0_1:AV)(a1:ByteArray)(ha0_1:LK.has .sl a0_1)(h:dT 79 (AD a0_0 a0_1 a1) R):az Tryz.prog 101 [.agg [VS a0_0,a0_1],VS a1] [] R :=
 uQ (ai (cF (ai (aC _) (ai (bX ha0_1) aH))) (ai (aC _) aH)) (oQ [] Tryz.f101 h)
def Iy(a0_0:ByteArray)(a0_1:AV):Tree :=
 .call 129 [.agg [VS a0_0,a0_1]] [] fun r1 o1=>NI r1<|.test (decide (r1.toInt>(400:Int))) (.done 0 [.cx [VS (mk []),VB false]] []) (.call 78 [.agg [VS a0_0,a0_1],.v (.slice none 0 0)] [] fun r2 o2=>NA r2<|.call 57 [.agg [VS ((r2.cs.getD 0 .any).ag),(r2.cs.getD 1 .any)]] [] fun r3 o3=>NS r3<|.call 146 [VS r3.ag] [] fun r4 o4=>NB r4<|.test (!r4.toBool) (.done 0 [.cx [VS (mk []),VB false]] []) (.done 0 [.cx [VS r3.ag,VB true]] []))
theorem Lp(a0_0:ByteArray)(a0_1:AV)(ha0_1:LK.has .sl a0_1)(h:dT 15 (Iy a0_0 a0_1) R):az Tryz.prog 102 [.agg [VS a0_0,a0_1]] [] R :=
 uQ (ai (cF (ai (aC _) (ai (bX ha0_1) aH))) aH) (oQ [] Tryz.f102 h)
def HB(a0:ByteArray):Tree :=
 .test (decide ((ac a0:Int)>(8000:Int))) (.done 0 [.v (.pointer none)] []) (.call 147 [VS a0,VI 0] [] fun r1 o1=>NT r1<|NP (r1.comp 0)<|NS (r1.comp 1)<|.test (!(ae ((r1.comp 1).ag)==ae (mk []))) (.done 0 [.v (.pointer none)] []) (.done 0 [(r1.comp 0)] []))
theorem LQ(a0:ByteArray)(h:dT 16 (HB a0) R):az Tryz.prog 103 [VS a0] [] R :=
 uQ (ai (aC _) aH) (oQ [] Tryz.f103 h)
def En(a0:AV):Tree :=
 NZ a0<|NZ a0<|.al (LK.has .str (a0.deref.hA)/\1<=a0.deref.length)<|.test (ae ((a0.deref.hA).ag)==ae (mk [117])) (.done 0 [.ptr [.v (.int .u8 117),VS (mk []),.v (.pointer none),.v (.pointer none)]] []) (NZ a0<|NZ a0<|.al (LK.has .str (a0.deref.hA)/\1<=a0.deref.length)<|.call 148 [VS ((a0.deref.hA).ag)] [] fun r1 o1=>NB r1<|.test r1.toBool (NZ a0<|NZ a0<|.al (LK.has .str (a0.deref.hA)/\1<=a0.deref.length)<|.done 0 [.ptr [.v (.int .u8 101),VS ((a0.deref.hA).ag),.v (.pointer none),.v (.pointer none)]] []) (.call 149 [a0,VS (mk [108]),VI 2] [] fun r2 o2=>NB r2<|.test r2.toBool (NZ a0<|NZ a0<|rG (a0.deref.drop 1)<|NG ((a0.deref.drop 1).hA) 1 1<|eF (((a0.deref.drop 1).hA).ix (1:Int))<|.call 104 [((((a0.deref.drop 1).hA).ix (1:Int)).hA)] [] fun r3 o3=>NP r3<|NP r3<|.test r3.isNil (.done 0 [.v (.pointer none)] []) (NZ a0<|NZ a0<|rG (a0.deref.drop 1)<|NG ((a0.deref.drop 1).hA) 0 1<|eF (((a0.deref.drop 1).hA).ix (0:Int))<|NZ ((((a0.deref.drop 1).hA).ix (0:Int)).hA)<|NZ ((((a0.deref.drop 1).hA).ix (0:Int)).hA)<|.al (LK.has .str (((((a0.deref.drop 1).hA).ix (0:Int)).hA).deref.hA)/\1<=(((((a0.deref.drop 1).hA).ix (0:Int)).hA).deref).length)<|.al (0<=(0:Int)/\(0:Int)<ac ((((((a0.deref.drop 1).hA).ix (0:Int)).hA).deref.hA).ag))<|.done 0 [.ptr [.v (.int .u8 (bt ((((((a0.deref.drop 1).hA).ix (0:Int)).hA).deref.hA).ag) 0)),VS (mk []),r3,.v (.pointer none)]] [])) (.call 149 [a0,VS (mk [114]),VI 2] [] fun r4 o4=>NB r4<|.test r4.toBool (NZ a0<|NZ a0<|rG (a0.deref.drop 1)<|NG ((a0.deref.drop 1).hA) 1 1<|eF (((a0.deref.drop 1).hA).ix (1:Int))<|.call 104 [((((a0.deref.drop 1).hA).ix (1:Int)).hA)] [] fun r5 o5=>NP r5<|NP r5<|.test r5.isNil (.done 0 [.v (.pointer none)] []) (NZ a0<|NZ a0<|rG (a0.deref.drop 1)<|NG ((a0.deref.drop 1).hA) 0 1<|eF (((a0.deref.drop 1).hA).ix (0:Int))<|NZ ((((a0.deref.drop 1).hA).ix (0:Int)).hA)<|NZ ((((a0.deref.drop 1).hA).ix (0:Int)).hA)<|.al (LK.has .str (((((a0.deref.drop 1).hA).ix (0:Int)).hA).deref.hA)/\1<=(((((a0.deref.drop 1).hA).ix (0:Int)).hA).deref).length)<|.al (0<=(0:Int)/\(0:Int)<ac ((((((a0.deref.drop 1).hA).ix (0:Int)).hA).deref.hA).ag))<|.done 0 [.ptr [.v (.int .u8 (bt ((((((a0.deref.drop 1).hA).ix (0:Int)).hA).deref.hA).ag) 0)),VS (mk []),r5,.v (.pointer none)]] [])) (.call 149 [a0,VS (mk [102]),VI 2] [] fun r6 o6=>NB r6<|.test r6.toBool (NZ a0<|NZ a0<|rG (a0.deref.drop 1)<|NG ((a0.deref.drop 1).hA) 1 1<|eF (((a0.deref.drop 1).hA).ix (1:Int))<|.call 104 [((((a0.deref.drop 1).hA).ix (1:Int)).hA)] [] fun r7 o7=>NP r7<|NP r7<|.test r7.isNil (.done 0 [.v (.pointer none)] []) (NZ a0<|NZ a0<|rG (a0.deref.drop 1)<|NG ((a0.deref.drop 1).hA) 0 1<|eF (((a0.deref.drop 1).hA).ix (0:Int))<|NZ ((((a0.deref.drop 1).hA).ix (0:Int)).hA)<|NZ ((((a0.deref.drop 1).hA).ix (0:Int)).hA)<|.al (LK.has .str (((((a0.deref.drop 1).hA).ix (0:Int)).hA).deref.hA)/\1<=(((((a0.deref.drop 1).hA).ix (0:Int)).hA).deref).length)<|.al (0<=(0:Int)/\(0:Int)<ac ((((((a0.deref.drop 1).hA).ix (0:Int)).hA).deref.hA).ag))<|.done 0 [.ptr [.v (.int .u8 (bt ((((((a0.deref.drop 1).hA).ix (0:Int)).hA).deref.hA).ag) 0)),VS (mk []),r7,.v (.pointer none)]] [])) (.call 149 [a0,VS (mk [112]),VI 3] [] fun r8 o8=>NB r8<|.test r8.toBool (NZ a0<|NZ a0<|rG (a0.deref.drop 1)<|NG ((a0.deref.drop 1).hA) 1 1<|eF (((a0.deref.drop 1).hA).ix (1:Int))<|.call 104 [((((a0.deref.drop 1).hA).ix (1:Int)).hA)] [] fun r9 o9=>NP r9<|NZ a0<|NZ a0<|rG (a0.deref.drop 1)<|NG ((a0.deref.drop 1).hA) 2 1<|eF (((a0.deref.drop 1).hA).ix (2:Int))<|.call 104 [((((a0.deref.drop 1).hA).ix (2:Int)).hA)] [] fun r10 o10=>NP r10<|NP r9<|.test r9.isNil (.done 0 [.v (.pointer none)] []) (NP r10<|.test r10.isNil (.done 0 [.v (.pointer none)] []) (.call 96 [r9,r10] [] fun r11 o11=>NP r11<|.done 0 [r11] []))) (.done 0 [.v (.pointer none)] []))))))
theorem J7(a0:AV)(ha0:LK.has .ptr a0)(h:dT 85 (En a0) R):az Tryz.prog 104 [a0] [] R :=
 uQ (ai (ci ha0) aH) (oQ [] Tryz.f104 h)
def JH(a0_0:AV)(a0_1:AV):Tree :=
 NZ a0_0<|NZ a0_0<|eF (a0_0.deref.drop 3)<|.done 0 [.agg [((a0_0.deref.drop 3).hA),a0_1]] []
theorem Ls(a0_0:AV)(a0_1:AV)(ha0_0:LK.has .ptr a0_0)(ha0_1:LK.has .ptr a0_1)(h:dT 11 (JH a0_0 a0_1) R):az Tryz.prog 105 [.agg [a0_0,a0_1]] [] R :=
 uQ (ai (cF (ai (ci ha0_0) (ai (ci ha0_1) aH))) aH) (oQ [] Tryz.f105 h)
def Jz(a0_0:AV)(a0_1:AV):Tree :=
 NZ a0_0<|NZ a0_0<|eF (a0_0.deref.drop 4)<|.done 0 [.agg [((a0_0.deref.drop 4).hA),a0_1]] []
theorem M5(a0_0:AV)(a0_1:AV)(ha0_0:LK.has .ptr a0_0)(ha0_1:LK.has .ptr a0_1)(h:dT 11 (Jz a0_0 a0_1) R):az Tryz.prog 106 [.agg [a0_0,a0_1]] [] R :=
 uQ (ai (cF (ai (ci ha0_0) (ai (ci ha0_1) aH))) aH) (oQ [] Tryz.f106 h)
def Ko(a0_0:AV)(a0_1:AV):Tree :=
 NZ a0_0<|NZ a0_0<|eF (a0_0.deref.drop 3)<|.done 0 [.cx [.agg [((a0_0.deref.drop 3).hA),.ptr [.ptr [a0_0,a0_1],a0_1]],.ptr [a0_0,a0_1]]] []
theorem Lm(a0_0:AV)(a0_1:AV)(ha0_0:LK.has .ptr a0_0)(ha0_1:LK.has .ptr a0_1)(h:dT 20 (Ko a0_0 a0_1) R):az Tryz.prog 107 [.agg [a0_0,a0_1]] [] R :=
 uQ (ai (cF (ai (ci ha0_0) (ai (ci ha0_1) aH))) aH) (oQ [] Tryz.f107 h)
def I5(a0_0:AV)(a0_1:Int):Tree :=
 .call 32 [.ref 0 0,VI 8] [.cells [a0_0,VI a0_1]] fun r1 o1=>.al ((o1.hO)=.cells (o1.hO).cs)<|.al (aN [.lk .sl,.lk (.int .i64)] ((o1.hO).cs) 0 1 o1.tail)<|NI r1<|.test (r1.toInt==(0:Int)) (.call 76 [.ref 0 0] [.cells [((o1.hO).cs.getD 0 .any),VI (((o1.hO).cs.getD 1 .any).toInt)]] fun r2 o2=>.al ((o2.hO)=.cells (o2.hO).cs)<|.al (aN [.lk .sl,.lk (.int .i64)] ((o2.hO).cs) 0 1 o2.tail)<|NS r2<|.done 0 [VS r2.ag] [.cells [((o2.hO).cs.getD 0 .any),VI (((o2.hO).cs.getD 1 .any).toInt)]]) (.test (r1.toInt==(1:Int)) (.call 127 [.ref 0 0,.sl [],VI 3] [.cells [((o1.hO).cs.getD 0 .any),VI (((o1.hO).cs.getD 1 .any).toInt)]] fun r3 o3=>.al ((o3.hO)=.cells (o3.hO).cs)<|.al (aN [.lk .sl,.lk (.int .i64)] ((o3.hO).cs) 0 1 o3.tail)<|NS r3<|.done 0 [VS r3.ag] [.cells [((o3.hO).cs.getD 0 .any),VI (((o3.hO).cs.getD 1 .any).toInt)]]) (.test (r1.toInt==(2:Int)) (.call 127 [.ref 0 0,.sl [],VI 3] [.cells [((o1.hO).cs.getD 0 .any),VI (((o1.hO).cs.getD 1 .any).toInt)]] fun r4 o4=>.al ((o4.hO)=.cells (o4.hO).cs)<|.al (aN [.lk .sl,.lk (.int .i64)] ((o4.hO).cs) 0 1 o4.tail)<|NS r4<|.done 0 [VS r4.ag] [.cells [((o4.hO).cs.getD 0 .any),VI (((o4.hO).cs.getD 1 .any).toInt)]]) (.test (r1.toInt==(3:Int)) (.call 127 [.ref 0 0,.sl [],VI 3] [.cells [((o1.hO).cs.getD 0 .any),VI (((o1.hO).cs.getD 1 .any).toInt)]] fun r5 o5=>.al ((o5.hO)=.cells (o5.hO).cs)<|.al (aN [.lk .sl,.lk (.int .i64)] ((o5.hO).cs) 0 1 o5.tail)<|NS r5<|.done 0 [VS r5.ag] [.cells [((o5.hO).cs.getD 0 .any),VI (((o5.hO).cs.getD 1 .any).toInt)]]) (.call 119 [.ref 0 0] [.cells [((o1.hO).cs.getD 0 .any),VI (((o1.hO).cs.getD 1 .any).toInt)]] fun r6 o6=>.al ((o6.hO)=.cells (o6.hO).cs)<|.al (aN [.lk .sl,.lk (.int .i64)] ((o6.hO).cs) 0 1 o6.tail)<|NS r6<|.done 0 [VS r6.ag] [.cells [((o6.hO).cs.getD 0 .any),VI (((o6.hO).cs.getD 1 .any).toInt)]]))))
theorem LL(a0_0:AV)(a0_1:Int)(ha0_0:LK.has .sl a0_0)(h:dT 18 (I5 a0_0 a0_1) R):az Tryz.prog 108 [.ref 0 0] [.cells [a0_0,VI a0_1]] R :=
 az.rL (cu (db (ai (bX ha0_0) (ai (aC _) aH))) dr) (az.up (ai (aC _) aH) (oF [] {mu:=[(0,.one (.obj [.lk .sl,.lk (.int .i64)]))],own:=[]} Tryz.f108 h))
def Fv:LI:={hd:={cd:=[(0,.k .sl),(4,.k (.int .i64))],eS:=[(3,2)]},xs:={eS:=[(3,2)]},rt:={},ex:=0}
def HV:Code:=dL (dy Tryz.f109) 3
def GB:List (Nat×LI):=[(3,Fv)]
def Hv(a0:AV):Tree :=
 .loop HV Fv [a0,VI 0] [.vec 2 []] (fun y3 q3=>.al (((q3.drop 0).hO)=.vec 2 ((q3.drop 0).hO).es)<|.done 0 [.sl ((q3.hO).es)] []) (fun y3 q3=>.done 0 [.any] [])
theorem MY(a0:AV)(ha0:LK.has .sl a0)(h:dT 29 (Hv a0) R):az Tryz.prog 109 [a0] [] R :=
 uQ (ai (bX ha0) aH) (oQ GB Tryz.f109 h)
def FV(x0:AV)(x4:Int)(e3:List (List AV)):Tree :=
 NL x0<|NI (VI x4)<|.al (Ob.vec 2 e3=.vec 2 e3)<|NL x0<|.test (decide (x4<(x0.aS.length:Int))) (NG x0 x4 4<|NE (x0.ix x4)<|.call 57 [.agg [VS (((x0.ix x4).getD 0 .any).ag),((x0.ix x4).getD 1 .any)]] [] fun r1 o1=>NS r1<|NG x0 x4 4<|NE ((x0.ix x4).drop 2)<|.call 57 [.agg [VS ((((x0.ix x4).drop 2).getD 0 .any).ag),(((x0.ix x4).drop 2).getD 1 .any)]] [] fun r2 o2=>NS r2<|.al (cT 2 [[VS r1.ag,VS r2.ag]]/\((e3.length)+([[VS r1.ag,VS r2.ag]]:List (List AV)).length)*32<=140737488355328)<|.done 0 [x0,VI (IntKind.wrap .i64 (x4+1))] [.vec 2 (e3++([[VS r1.ag,VS r2.ag]]:List (List AV)))]) (.done 1 [] [.vec 2 e3])
abbrev FN:=cP Tryz.prog 29 HV Fv
theorem Gz(x0:AV)(x4:Int)(e3:List (List AV))(h:n9 29 (FV x0 x4 e3) FN U):FN [x0,VI x4] [.vec 2 e3] U :=
 gQ GB h
def El:LI:={hd:={cd:=[(1,.k .str),(8,.k .sl),(9,.k (.int .i64))],refs:=[(3,3),(5,5)],cE:=[(3,[.lk .str,.lk .sl]),(5,[.lk .str,.lk .sl])],eS:=[(7,4)]},xs:={cd:=[(1,.k .str)],refs:=[(3,3),(5,5)],cE:=[(3,[.lk .str,.lk .sl]),(5,[.lk .str,.lk .sl])],eS:=[(7,4)]},rt:={},ex:=1}
def Ks:Code:=dL (dy Tryz.f110) 14
def Fh:LI:={hd:={cd:=[(10,.k .sl),(11,.k (.int .i64))],refs:=[(5,5)],cE:=[(5,[.lk .str,.lk .sl])],eS:=[(7,4)]},xs:={eS:=[(7,4)]},rt:={},ex:=3}
def GG:Code:=dL (dy Tryz.f110) 19
def Ef:LI:={hd:={cd:=[(1,.k .str),(12,.k .str),(13,.k .sl),(14,.k (.int .i64))],refs:=[(3,3),(5,5)],cE:=[(3,[.lk .str,.lk .sl]),(5,[.lk .str,.lk .sl])],eS:=[(7,4)]},xs:={cd:=[(1,.k .str),(12,.k .str)],refs:=[(3,3),(5,5)],cE:=[(3,[.lk .str,.lk .sl]),(5,[.lk .str,.lk .sl])],eS:=[(7,4)]},rt:={},ex:=5}
def Ij:Code:=dL (dy Tryz.f110) 28
def FF:LI:={hd:={cd:=[(1,.k .str),(15,.k .sl),(16,.k (.int .i64))],refs:=[(3,3)],cE:=[(3,[.lk .str,.lk .sl])],eS:=[(7,4)]},xs:={eS:=[(7,4)]},rt:={},ex:=7}
def J3:Code:=dL (dy Tryz.f110) 33
def Gh:LI:={hd:={cd:=[(1,.k .str),(15,.k .sl),(16,.k (.int .i64)),(17,.k .sl),(18,.k (.int .i64))],refs:=[(3,3)],cE:=[(3,[.lk .str,.lk .sl])],eS:=[(7,4)]},xs:={cd:=[(1,.k .str),(15,.k .sl),(16,.k (.int .i64))],refs:=[(3,3)],cE:=[(3,[.lk .str,.lk .sl])],eS:=[(7,4)]},rt:={},ex:=9}
def G8:Code:=dL (dy Tryz.f110) 37
def yN:List (Nat×LI):=[(14,El),(19,Fh),(28,Ef),(33,FF),(37,Gh)]
def Gb(a0_0:ByteArray)(a0_1:AV)(a1:ByteArray)(a2_0:ByteArray)(a2_1:AV):Tree :=
 .test (!(ae a0_0==ae (mk []))) (.test (ae a0_0==ae a1) (.al (cT 4 [[VS (mk [117]),.v (.slice none 0 0),VS a2_0,a2_1]]/\((([]:List (List AV)).length)+([[VS (mk [117]),.v (.slice none 0 0),VS a2_0,a2_1]]:List (List AV)).length)*80<=140737488355328)<|.done 0 [.sl [[VS (mk [117]),.v (.slice none 0 0),VS a2_0,a2_1]]] []) (.done 0 [.sl []] [])) (.call 90 [.agg [VS a2_0,a2_1]] [] fun r1 o1=>NS r1<|.test (ae r1.ag==ae (mk [108])) (NG a0_1 1 2<|NE (a0_1.ix (1:Int))<|NG a2_1 1 2<|NE (a2_1.ix (1:Int))<|.call 110 [.agg [VS (((a0_1.ix (1:Int)).getD 0 .any).ag),((a0_1.ix (1:Int)).getD 1 .any)],VS a1,.agg [VS (((a2_1.ix (1:Int)).getD 0 .any).ag),((a2_1.ix (1:Int)).getD 1 .any)]] [] fun r2 o2=>NL r2<|.call 150 [r2,VS (mk [108]),.vec 0] [.vec 4 []] fun r3 o3=>.al (r3=.vec 1/\(o3.tail.hO)=.vec 4 (o3.tail.hO).es)<|.done 0 [.sl ((o3.tail.hO).es)] []) (.test (ae r1.ag==ae (mk [114])) (NG a0_1 2 2<|NE (a0_1.ix (2:Int))<|NG a2_1 1 2<|NE (a2_1.ix (1:Int))<|.call 110 [.agg [VS (((a0_1.ix (2:Int)).getD 0 .any).ag),((a0_1.ix (2:Int)).getD 1 .any)],VS a1,.agg [VS (((a2_1.ix (1:Int)).getD 0 .any).ag),((a2_1.ix (1:Int)).getD 1 .any)]] [] fun r4 o4=>NL r4<|.call 150 [r4,VS (mk [114]),.vec 0] [.vec 4 []] fun r5 o5=>.al (r5=.vec 1/\(o5.tail.hO)=.vec 4 (o5.tail.hO).es)<|.done 0 [.sl ((o5.tail.hO).es)] []) (.test (ae r1.ag==ae (mk [112])) (NG a0_1 1 2<|NE (a0_1.ix (1:Int))<|NG a2_1 1 2<|NE (a2_1.ix (1:Int))<|.call 110 [.agg [VS (((a0_1.ix (1:Int)).getD 0 .any).ag),((a0_1.ix (1:Int)).getD 1 .any)],VS a1,.agg [VS (((a2_1.ix (1:Int)).getD 0 .any).ag),((a2_1.ix (1:Int)).getD 1 .any)]] [] fun r6 o6=>NL r6<|.loop Ks El [VS a1,r6,VI 0] [.cells [VS a0_0,a0_1],.cells [VS a2_0,a2_1],.vec 4 []] (fun y9 q9=>NS (y9.hA)<|.al ((q9.hO)=.cells (q9.hO).cs)<|.al (af [.lk .str,.lk .sl] ((q9.hO).cs) 0 q9.tail)<|.al (((q9.tail.drop 0).hO)=.cells ((q9.tail.drop 0).hO).cs)<|.al (af [.lk .str,.lk .sl] (((q9.tail.drop 0).hO).cs) 0 ((q9.tail.drop 0).tail))<|.al (((q9.drop 2).hO)=.vec 4 ((q9.drop 2).hO).es)<|NG ((q9.hO).cs.getD 1 .any) 2 2<|NE (((q9.hO).cs.getD 1 .any).ix (2:Int))<|NG ((q9.tail.hO).cs.getD 1 .any) 2 2<|NE (((q9.tail.hO).cs.getD 1 .any).ix (2:Int))<|.call 110 [.agg [VS (((((q9.hO).cs.getD 1 .any).ix (2:Int)).getD 0 .any).ag),((((q9.hO).cs.getD 1 .any).ix (2:Int)).getD 1 .any)],VS ((y9.hA).ag),.agg [VS (((((q9.tail.hO).cs.getD 1 .any).ix (2:Int)).getD 0 .any).ag),((((q9.tail.hO).cs.getD 1 .any).ix (2:Int)).getD 1 .any)]] [] fun r10 o10=>NL r10<|.loop GG Fh [r10,VI 0] [.cells [VS (((q9.tail.hO).cs.getD 0 .any).ag),((q9.tail.hO).cs.getD 1 .any)],.vec 4 ((q9.tail.tail.hO).es)] (fun y13 q13=>.al (((q13.drop 0).hO)=.vec 4 ((q13.drop 0).hO).es)<|.done 0 [.sl ((q13.hO).es)] []) (fun y13 q13=>.done 0 [.any] [])) (fun y9 q9=>.done 0 [.any] [])) (NG a0_1 1 2<|nw (a0_1.ix (1:Int))<|.test (ae (((a0_1.ix (1:Int)).hA).ag)==ae a1) (.done 0 [.sl []] []) (NG a0_1 2 2<|NE (a0_1.ix (2:Int))<|NG a2_1 1 2<|NE (a2_1.ix (1:Int))<|.call 110 [.agg [VS (((a0_1.ix (2:Int)).getD 0 .any).ag),((a0_1.ix (2:Int)).getD 1 .any)],VS a1,.agg [VS (((a2_1.ix (1:Int)).getD 0 .any).ag),((a2_1.ix (1:Int)).getD 1 .any)]] [] fun r14 o14=>NL r14<|.loop Ij Ef [VS a1,VS (((a0_1.ix (1:Int)).hA).ag),r14,VI 0] [.cells [VS a0_0,a0_1],.cells [VS a2_0,a2_1],.vec 4 []] (fun y17 q17=>NS (y17.hA)<|NS (y17.tail.hA)<|.al ((q17.hO)=.cells (q17.hO).cs)<|.al (af [.lk .str,.lk .sl] ((q17.hO).cs) 0 q17.tail)<|.al (((q17.tail.drop 0).hO)=.cells ((q17.tail.drop 0).hO).cs)<|.al (af [.lk .str,.lk .sl] (((q17.tail.drop 0).hO).cs) 0 ((q17.tail.drop 0).tail))<|.al (((q17.drop 2).hO)=.vec 4 ((q17.drop 2).hO).es)<|NG ((q17.hO).cs.getD 1 .any) 2 2<|NE (((q17.hO).cs.getD 1 .any).ix (2:Int))<|NG ((q17.tail.hO).cs.getD 1 .any) 1 2<|NE (((q17.tail.hO).cs.getD 1 .any).ix (1:Int))<|.call 110 [.agg [VS (((((q17.hO).cs.getD 1 .any).ix (2:Int)).getD 0 .any).ag),((((q17.hO).cs.getD 1 .any).ix (2:Int)).getD 1 .any)],VS ((y17.tail.hA).ag),.agg [VS (((((q17.tail.hO).cs.getD 1 .any).ix (1:Int)).getD 0 .any).ag),((((q17.tail.hO).cs.getD 1 .any).ix (1:Int)).getD 1 .any)]] [] fun r18 o18=>NL r18<|.loop J3 FF [VS ((y17.hA).ag),r18,VI 0] [.cells [VS (((q17.hO).cs.getD 0 .any).ag),((q17.hO).cs.getD 1 .any)],.vec 4 ((q17.tail.tail.hO).es)] (fun y24 q24=>.al (((q24.drop 0).hO)=.vec 4 ((q24.drop 0).hO).es)<|.done 0 [.sl ((q24.hO).es)] []) (fun y24 q24=>.done 0 [.any] [])) (fun y17 q17=>.done 0 [.any] []))))))
theorem MF(a0_0:ByteArray)(a0_1:AV)(a1:ByteArray)(a2_0:ByteArray)(a2_1:AV)(ha0_1:LK.has .sl a0_1)(ha2_1:LK.has .sl a2_1)(h:dT 244 (Gb a0_0 a0_1 a1 a2_0 a2_1) R):az Tryz.prog 110 [.agg [VS a0_0,a0_1],VS a1,.agg [VS a2_0,a2_1]] [] R :=
 uQ (ai (cF (ai (aC _) (ai (bX ha0_1) aH))) (ai (aC _) (ai (cF (ai (aC _) (ai (bX ha2_1) aH))) aH))) (oQ yN Tryz.f110 h)
def Fc(x1:ByteArray)(x8:AV)(x9:Int)(o3_0:ByteArray)(o3_1:AV)(o5_0:ByteArray)(o5_1:AV)(e7:List (List AV)):Tree :=
 NS (VS x1)<|NL x8<|NI (VI x9)<|.al (Ob.cells [VS o3_0,o3_1]=.cells [VS o3_0,o3_1])<|.al (af [.lk .str,.lk .sl] [VS o3_0,o3_1] 0 [.cells [VS o5_0,o5_1],.vec 4 e7])<|.al (Ob.cells [VS o5_0,o5_1]=.cells [VS o5_0,o5_1])<|.al (af [.lk .str,.lk .sl] [VS o5_0,o5_1] 0 [.vec 4 e7])<|.al (Ob.vec 4 e7=.vec 4 e7)<|NL x8<|.test (decide (x9<(x8.aS.length:Int))) (NG x8 x9 4<|NE (x8.ix x9)<|NG o5_1 2 2<|NE (o5_1.ix (2:Int))<|.call 69 [VS (mk [112]),.sl [[VS (((x8.ix x9).getD 0 .any).ag),((x8.ix x9).getD 1 .any)],[VS (((o5_1.ix (2:Int)).getD 0 .any).ag),((o5_1.ix (2:Int)).getD 1 .any)]]] [] fun r1 o1=>NA r1<|.call 69 [VS (mk [108]),.sl [[VS ((r1.cs.getD 0 .any).ag),(r1.cs.getD 1 .any)]]] [] fun r2 o2=>NA r2<|NG x8 x9 4<|NE ((x8.ix x9).drop 2)<|.al (cT 4 [[VS ((r2.cs.getD 0 .any).ag),(r2.cs.getD 1 .any),VS ((((x8.ix x9).drop 2).getD 0 .any).ag),(((x8.ix x9).drop 2).getD 1 .any)]]/\((e7.length)+([[VS ((r2.cs.getD 0 .any).ag),(r2.cs.getD 1 .any),VS ((((x8.ix x9).drop 2).getD 0 .any).ag),(((x8.ix x9).drop 2).getD 1 .any)]]:List (List AV)).length)*80<=140737488355328)<|.done 0 [VS x1,x8,VI (IntKind.wrap .i64 (x9+1))] [.cells [VS o3_0,o3_1],.cells [VS o5_0,o5_1],.vec 4 (e7++([[VS ((r2.cs.getD 0 .any).ag),(r2.cs.getD 1 .any),VS ((((x8.ix x9).drop 2).getD 0 .any).ag),(((x8.ix x9).drop 2).getD 1 .any)]]:List (List AV)))]) (.done 1 [VS x1] [.cells [VS o3_0,o3_1],.cells [VS o5_0,o5_1],.vec 4 e7])
abbrev DM:=cP Tryz.prog 244 Ks El
theorem H7(x1:ByteArray)(x8:AV)(x9:Int)(o3_0:ByteArray)(o3_1:AV)(o5_0:ByteArray)(o5_1:AV)(e7:List (List AV))(h:n9 244 (Fc x1 x8 x9 o3_0 o3_1 o5_0 o5_1 e7) DM U):DM [VS x1,x8,VI x9] [.cells [VS o3_0,o3_1],.cells [VS o5_0,o5_1],.vec 4 e7] U :=
 gQ yN h
def EG(x10:AV)(x11:Int)(o5_0:ByteArray)(o5_1:AV)(e7:List (List AV)):Tree :=
 NL x10<|NI (VI x11)<|.al (Ob.cells [VS o5_0,o5_1]=.cells [VS o5_0,o5_1])<|.al (af [.lk .str,.lk .sl] [VS o5_0,o5_1] 0 [.vec 4 e7])<|.al (Ob.vec 4 e7=.vec 4 e7)<|NL x10<|.test (decide (x11<(x10.aS.length:Int))) (NG o5_1 1 2<|NE (o5_1.ix (1:Int))<|NG x10 x11 4<|NE (x10.ix x11)<|.call 69 [VS (mk [112]),.sl [[VS (((o5_1.ix (1:Int)).getD 0 .any).ag),((o5_1.ix (1:Int)).getD 1 .any)],[VS (((x10.ix x11).getD 0 .any).ag),((x10.ix x11).getD 1 .any)]]] [] fun r1 o1=>NA r1<|.call 69 [VS (mk [114]),.sl [[VS ((r1.cs.getD 0 .any).ag),(r1.cs.getD 1 .any)]]] [] fun r2 o2=>NA r2<|NG x10 x11 4<|NE ((x10.ix x11).drop 2)<|.al (cT 4 [[VS ((r2.cs.getD 0 .any).ag),(r2.cs.getD 1 .any),VS ((((x10.ix x11).drop 2).getD 0 .any).ag),(((x10.ix x11).drop 2).getD 1 .any)]]/\((e7.length)+([[VS ((r2.cs.getD 0 .any).ag),(r2.cs.getD 1 .any),VS ((((x10.ix x11).drop 2).getD 0 .any).ag),(((x10.ix x11).drop 2).getD 1 .any)]]:List (List AV)).length)*80<=140737488355328)<|.done 0 [x10,VI (IntKind.wrap .i64 (x11+1))] [.cells [VS o5_0,o5_1],.vec 4 (e7++([[VS ((r2.cs.getD 0 .any).ag),(r2.cs.getD 1 .any),VS ((((x10.ix x11).drop 2).getD 0 .any).ag),(((x10.ix x11).drop 2).getD 1 .any)]]:List (List AV)))]) (.done 1 [] [.vec 4 e7])
abbrev Fu:=cP Tryz.prog 244 GG Fh
theorem HZ(x10:AV)(x11:Int)(o5_0:ByteArray)(o5_1:AV)(e7:List (List AV))(h:n9 244 (EG x10 x11 o5_0 o5_1 e7) Fu U):Fu [x10,VI x11] [.cells [VS o5_0,o5_1],.vec 4 e7] U :=
 gQ yN h
def Eb(x1:ByteArray)(x12:ByteArray)(x13:AV)(x14:Int)(o3_0:ByteArray)(o3_1:AV)(o5_0:ByteArray)(o5_1:AV)(e7:List (List AV)):Tree :=
 NS (VS x1)<|NS (VS x12)<|NL x13<|NI (VI x14)<|.al (Ob.cells [VS o3_0,o3_1]=.cells [VS o3_0,o3_1])<|.al (af [.lk .str,.lk .sl] [VS o3_0,o3_1] 0 [.cells [VS o5_0,o5_1],.vec 4 e7])<|.al (Ob.cells [VS o5_0,o5_1]=.cells [VS o5_0,o5_1])<|.al (af [.lk .str,.lk .sl] [VS o5_0,o5_1] 0 [.vec 4 e7])<|.al (Ob.vec 4 e7=.vec 4 e7)<|NL x13<|.test (decide (x14<(x13.aS.length:Int))) (NG x13 x14 4<|NE (x13.ix x14)<|.call 69 [VS (mk [108]),.sl [[VS (((x13.ix x14).getD 0 .any).ag),((x13.ix x14).getD 1 .any)]]] [] fun r1 o1=>NA r1<|.call 69 [VS (mk [102]),.sl [[VS ((r1.cs.getD 0 .any).ag),(r1.cs.getD 1 .any)]]] [] fun r2 o2=>NA r2<|NG x13 x14 4<|NE ((x13.ix x14).drop 2)<|.al (cT 4 [[VS ((r2.cs.getD 0 .any).ag),(r2.cs.getD 1 .any),VS ((((x13.ix x14).drop 2).getD 0 .any).ag),(((x13.ix x14).drop 2).getD 1 .any)]]/\((e7.length)+([[VS ((r2.cs.getD 0 .any).ag),(r2.cs.getD 1 .any),VS ((((x13.ix x14).drop 2).getD 0 .any).ag),(((x13.ix x14).drop 2).getD 1 .any)]]:List (List AV)).length)*80<=140737488355328)<|.done 0 [VS x1,VS x12,x13,VI (IntKind.wrap .i64 (x14+1))] [.cells [VS o3_0,o3_1],.cells [VS o5_0,o5_1],.vec 4 (e7++([[VS ((r2.cs.getD 0 .any).ag),(r2.cs.getD 1 .any),VS ((((x13.ix x14).drop 2).getD 0 .any).ag),(((x13.ix x14).drop 2).getD 1 .any)]]:List (List AV)))]) (.done 1 [VS x1,VS x12] [.cells [VS o3_0,o3_1],.cells [VS o5_0,o5_1],.vec 4 e7])
abbrev Ed:=cP Tryz.prog 244 Ij Ef
theorem G3(x1:ByteArray)(x12:ByteArray)(x13:AV)(x14:Int)(o3_0:ByteArray)(o3_1:AV)(o5_0:ByteArray)(o5_1:AV)(e7:List (List AV))(h:n9 244 (Eb x1 x12 x13 x14 o3_0 o3_1 o5_0 o5_1 e7) Ed U):Ed [VS x1,VS x12,x13,VI x14] [.cells [VS o3_0,o3_1],.cells [VS o5_0,o5_1],.vec 4 e7] U :=
 gQ yN h
def Fj(x1:ByteArray)(x15:AV)(x16:Int)(o3_0:ByteArray)(o3_1:AV)(e7:List (List AV)):Tree :=
 NS (VS x1)<|NL x15<|NI (VI x16)<|.al (Ob.cells [VS o3_0,o3_1]=.cells [VS o3_0,o3_1])<|.al (af [.lk .str,.lk .sl] [VS o3_0,o3_1] 0 [.vec 4 e7])<|.al (Ob.vec 4 e7=.vec 4 e7)<|NL x15<|.test (decide (x16<(x15.aS.length:Int))) (NG x15 x16 4<|NE ((x15.ix x16).drop 2)<|.call 110 [.agg [VS o3_0,o3_1],VS x1,.agg [VS ((((x15.ix x16).drop 2).getD 0 .any).ag),(((x15.ix x16).drop 2).getD 1 .any)]] [] fun r1 o1=>NL r1<|.loop G8 Gh [VS x1,x15,VI x16,r1,VI 0] [.cells [VS o3_0,o3_1],.vec 4 e7] (fun y2 q2=>NS (y2.hA)<|NL (y2.tail.hA)<|NI (y2.tail.tail.hA)<|.al ((q2.hO)=.cells (q2.hO).cs)<|.al (af [.lk .str,.lk .sl] ((q2.hO).cs) 0 q2.tail)<|.al (((q2.drop 1).hO)=.vec 4 ((q2.drop 1).hO).es)<|.done 0 [VS ((y2.hA).ag),(y2.tail.hA),VI (IntKind.wrap .i64 (((y2.tail.tail.hA).toInt)+1))] [.cells [VS (((q2.hO).cs.getD 0 .any).ag),((q2.hO).cs.getD 1 .any)],.vec 4 ((q2.tail.hO).es)]) (fun y2 q2=>.done 2 [] [])) (.done 1 [] [.vec 4 e7])
abbrev EQ:=cP Tryz.prog 244 J3 FF
theorem H4(x1:ByteArray)(x15:AV)(x16:Int)(o3_0:ByteArray)(o3_1:AV)(e7:List (List AV))(h:n9 244 (Fj x1 x15 x16 o3_0 o3_1 e7) EQ U):EQ [VS x1,x15,VI x16] [.cells [VS o3_0,o3_1],.vec 4 e7] U :=
 gQ yN h
def Ga(x1:ByteArray)(x15:AV)(x16:Int)(x17:AV)(x18:Int)(o3_0:ByteArray)(o3_1:AV)(e7:List (List AV)):Tree :=
 NS (VS x1)<|NL x15<|NI (VI x16)<|NL x17<|NI (VI x18)<|.al (Ob.cells [VS o3_0,o3_1]=.cells [VS o3_0,o3_1])<|.al (af [.lk .str,.lk .sl] [VS o3_0,o3_1] 0 [.vec 4 e7])<|.al (Ob.vec 4 e7=.vec 4 e7)<|NL x17<|.test (decide (x18<(x17.aS.length:Int))) (NG x15 x16 4<|NE (x15.ix x16)<|NG x17 x18 4<|NE (x17.ix x18)<|.call 69 [VS (mk [112]),.sl [[VS (((x15.ix x16).getD 0 .any).ag),((x15.ix x16).getD 1 .any)],[VS (((x17.ix x18).getD 0 .any).ag),((x17.ix x18).getD 1 .any)]]] [] fun r1 o1=>NA r1<|.call 69 [VS (mk [114]),.sl [[VS ((r1.cs.getD 0 .any).ag),(r1.cs.getD 1 .any)]]] [] fun r2 o2=>NA r2<|.call 69 [VS (mk [102]),.sl [[VS ((r2.cs.getD 0 .any).ag),(r2.cs.getD 1 .any)]]] [] fun r3 o3=>NA r3<|NG x17 x18 4<|NE ((x17.ix x18).drop 2)<|.al (cT 4 [[VS ((r3.cs.getD 0 .any).ag),(r3.cs.getD 1 .any),VS ((((x17.ix x18).drop 2).getD 0 .any).ag),(((x17.ix x18).drop 2).getD 1 .any)]]/\((e7.length)+([[VS ((r3.cs.getD 0 .any).ag),(r3.cs.getD 1 .any),VS ((((x17.ix x18).drop 2).getD 0 .any).ag),(((x17.ix x18).drop 2).getD 1 .any)]]:List (List AV)).length)*80<=140737488355328)<|.done 0 [VS x1,x15,VI x16,x17,VI (IntKind.wrap .i64 (x18+1))] [.cells [VS o3_0,o3_1],.vec 4 (e7++([[VS ((r3.cs.getD 0 .any).ag),(r3.cs.getD 1 .any),VS ((((x17.ix x18).drop 2).getD 0 .any).ag),(((x17.ix x18).drop 2).getD 1 .any)]]:List (List AV)))]) (.done 1 [VS x1,x15,VI x16] [.cells [VS o3_0,o3_1],.vec 4 e7])
abbrev DP:=cP Tryz.prog 244 G8 Gh
theorem Jk(x1:ByteArray)(x15:AV)(x16:Int)(x17:AV)(x18:Int)(o3_0:ByteArray)(o3_1:AV)(e7:List (List AV))(h:n9 244 (Ga x1 x15 x16 x17 x18 o3_0 o3_1 e7) DP U):DP [VS x1,x15,VI x16,x17,VI x18] [.cells [VS o3_0,o3_1],.vec 4 e7] U :=
 gQ yN h
def IX(a0:ByteArray)(a1:ByteArray):Tree :=
 .test (decide ((ac a0:Int)≥(1:Int))) (.test (decide ((ac a0:Int)<=(3:Int))) (.al (0<=(0:Int)/\(0:Int)<=(1:Int)/\(1:Int)<=(ac a0:Int))<|.call 151 [VS a1,VS (bP a0 (bM 0) (bM 1))] [] fun r1 o1=>NB r1<|.test r1.toBool (.al (0<=(1:Int)/\(1:Int)<=(ac a0:Int)/\(ac a0:Int)<=(ac a0:Int))<|.call 152 [VS (bP a0 (bM 1) (bM (ac a0:Int))),VS (mk [48,49,50,51,52,53,54,55,56,57])] [] fun r2 o2=>NS r2<|.done 0 [VB (ae r2.ag==ae (mk []))] []) (.done 0 [VB false] [])) (.done 0 [VB false] [])) (.done 0 [VB false] [])
theorem MV(a0:ByteArray)(a1:ByteArray)(h:dT 25 (IX a0 a1) R):az Tryz.prog 111 [VS a0,VS a1] [] R :=
 uQ (ai (aC _) (ai (aC _) aH)) (oQ [] Tryz.f111 h)
def IT(a0_0:AV)(a0_1:Int):Tree :=
 .call 55 [.ref 0 0,.sl [[VS (mk [40,114,101,99,32,116,32,40,43,32,49,32,40,42,32,120,32,116,41,41,41])],[VS (mk [40,114,101,99,32,116,32,40,43,32,120,32,40,42,32,116,32,116,41,41,41])],[VS (mk [40,114,101,99,32,116,32,40,43,32,49,32,40,42,32,116,32,40,42,32,120,32,116,41,41,41,41])],[VS (mk [40,114,101,99,32,116,32,40,43,32,49,32,116,41,41])],[VS (mk [40,114,101,99,32,116,32,40,42,32,120,32,40,114,101,99,32,116,49,32,40,43,32,49,32,40,42,32,116,32,116,49,41,41,41,41,41])],[VS (mk [40,114,101,99,32,116,48,32,40,43,32,40,42,32,120,32,121,41,32,40,43,32,116,48,32,40,42,32,116,48,32,116,48,41,41,41,41])],[VS (mk [40,114,101,99,32,116,32,40,43,32,121,32,40,42,32,116,32,40,42,32,116,32,116,41,41,41,41])]]] [.cells [a0_0,VI a0_1]] fun r1 o1=>.al ((o1.hO)=.cells (o1.hO).cs)<|.al (aN [.lk .sl,.lk (.int .i64)] ((o1.hO).cs) 0 1 o1.tail)<|NS r1<|.done 0 [VS r1.ag] [.cells [((o1.hO).cs.getD 0 .any),VI (((o1.hO).cs.getD 1 .any).toInt)]]
theorem MT(a0_0:AV)(a0_1:Int)(ha0_0:LK.has .sl a0_0)(h:dT 6 (IT a0_0 a0_1) R):az Tryz.prog 119 [.ref 0 0] [.cells [a0_0,VI a0_1]] R :=
 az.rL (cu (db (ai (bX ha0_0) (ai (aC _) aH))) dr) (az.up (ai (aC _) aH) (oF [] {mu:=[(0,.one (.obj [.lk .sl,.lk (.int .i64)]))],own:=[]} Tryz.f119 h))
def HF(a0:ByteArray):Tree :=
 .call 103 [VS a0] [] fun r1 o1=>NP r1<|NP r1<|.test r1.isNil (.done 0 [.v (.pointer none)] []) (.call 153 [r1,.v (.slice none 0 0)] [] fun r2 o2=>NP r2<|NP r2<|.test r2.isNil (.done 0 [.v (.pointer none)] []) (.call 154 [r2] [] fun r3 o3=>NI r3<|.test (decide (r3.toInt>(400:Int))) (.done 0 [.v (.pointer none)] []) (.done 0 [r2] [])))
theorem Nd(a0:ByteArray)(h:dT 19 (HF a0) R):az Tryz.prog 121 [VS a0] [] R :=
 uQ (ai (aC _) aH) (oQ [] Tryz.f121 h)
def GL(a0:AV):Tree :=
 .call 154 [a0] [] fun r1 o1=>NI r1<|.test (decide (r1.toInt>(400:Int))) (.done 0 [.cx [VS (mk []),VB false]] []) (.call 160 [a0] [] fun r2 o2=>NS r2<|.call 121 [VS r2.ag] [] fun r3 o3=>NP r3<|NP r3<|.test r3.isNil (.done 0 [.cx [VS (mk []),VB false]] []) (.done 0 [.cx [VS r2.ag,VB true]] []))
theorem Mw(a0:AV)(ha0:LK.has .ptr a0)(h:dT 14 (GL a0) R):az Tryz.prog 123 [a0] [] R :=
 uQ (ai (ci ha0) aH) (oQ [] Tryz.f123 h)
def Fy(a0_0:AV)(a0_1:Int)(a1:AV)(a2:Int):Tree :=
 .test (decide (a2<=(0:Int))) (NL a1<|.test (decide ((a1.aS.length:Int)>(0:Int))) (.call 32 [.ref 0 0,VI 3] [.cells [a0_0,VI a0_1]] fun r1 o1=>.al ((o1.hO)=.cells (o1.hO).cs)<|.al (aN [.lk .sl,.lk (.int .i64)] ((o1.hO).cs) 0 1 o1.tail)<|NI r1<|.test (r1.toInt==(0:Int)) (NL a1<|.call 32 [.ref 0 0,VI (a1.aS.length:Int)] [.cells [((o1.hO).cs.getD 0 .any),VI (((o1.hO).cs.getD 1 .any).toInt)]] fun r2 o2=>.al ((o2.hO)=.cells (o2.hO).cs)<|.al (aN [.lk .sl,.lk (.int .i64)] ((o2.hO).cs) 0 1 o2.tail)<|NI r2<|.al (LK.has .sl a1/\0<=r2.toInt/\r2.toInt<a1.aS.length/\(a1.aS.getD r2.toInt.toNat []).length=1)<|nw (a1.aS.getD r2.toInt.toNat [])<|.done 0 [VS (((a1.aS.getD r2.toInt.toNat []).hA).ag)] [.cells [((o2.hO).cs.getD 0 .any),VI (((o2.hO).cs.getD 1 .any).toInt)]]) (.call 55 [.ref 0 0,.sl [[VS (mk [120])],[VS (mk [49])],[VS (mk [120])],[VS (mk [121])],[VS (mk [48])],[VS (mk [49])]]] [.cells [((o1.hO).cs.getD 0 .any),VI (((o1.hO).cs.getD 1 .any).toInt)]] fun r3 o3=>.al ((o3.hO)=.cells (o3.hO).cs)<|.al (aN [.lk .sl,.lk (.int .i64)] ((o3.hO).cs) 0 1 o3.tail)<|NS r3<|.done 0 [VS r3.ag] [.cells [((o3.hO).cs.getD 0 .any),VI (((o3.hO).cs.getD 1 .any).toInt)]])) (.call 55 [.ref 0 0,.sl [[VS (mk [120])],[VS (mk [49])],[VS (mk [120])],[VS (mk [121])],[VS (mk [48])],[VS (mk [49])]]] [.cells [a0_0,VI a0_1]] fun r4 o4=>.al ((o4.hO)=.cells (o4.hO).cs)<|.al (aN [.lk .sl,.lk (.int .i64)] ((o4.hO).cs) 0 1 o4.tail)<|NS r4<|.done 0 [VS r4.ag] [.cells [((o4.hO).cs.getD 0 .any),VI (((o4.hO).cs.getD 1 .any).toInt)]])) (.call 32 [.ref 0 0,VI 4] [.cells [a0_0,VI a0_1]] fun r5 o5=>.al ((o5.hO)=.cells (o5.hO).cs)<|.al (aN [.lk .sl,.lk (.int .i64)] ((o5.hO).cs) 0 1 o5.tail)<|NI r5<|.test (r5.toInt==(0:Int)) (NL a1<|.test (decide ((a1.aS.length:Int)>(0:Int))) (.call 32 [.ref 0 0,VI 3] [.cells [((o5.hO).cs.getD 0 .any),VI (((o5.hO).cs.getD 1 .any).toInt)]] fun r6 o6=>.al ((o6.hO)=.cells (o6.hO).cs)<|.al (aN [.lk .sl,.lk (.int .i64)] ((o6.hO).cs) 0 1 o6.tail)<|NI r6<|.test (r6.toInt==(0:Int)) (NL a1<|.call 32 [.ref 0 0,VI (a1.aS.length:Int)] [.cells [((o6.hO).cs.getD 0 .any),VI (((o6.hO).cs.getD 1 .any).toInt)]] fun r7 o7=>.al ((o7.hO)=.cells (o7.hO).cs)<|.al (aN [.lk .sl,.lk (.int .i64)] ((o7.hO).cs) 0 1 o7.tail)<|NI r7<|.al (LK.has .sl a1/\0<=r7.toInt/\r7.toInt<a1.aS.length/\(a1.aS.getD r7.toInt.toNat []).length=1)<|nw (a1.aS.getD r7.toInt.toNat [])<|.done 0 [VS (((a1.aS.getD r7.toInt.toNat []).hA).ag)] [.cells [((o7.hO).cs.getD 0 .any),VI (((o7.hO).cs.getD 1 .any).toInt)]]) (.call 55 [.ref 0 0,.sl [[VS (mk [120])],[VS (mk [49])],[VS (mk [120])],[VS (mk [121])],[VS (mk [48])],[VS (mk [49])]]] [.cells [((o6.hO).cs.getD 0 .any),VI (((o6.hO).cs.getD 1 .any).toInt)]] fun r8 o8=>.al ((o8.hO)=.cells (o8.hO).cs)<|.al (aN [.lk .sl,.lk (.int .i64)] ((o8.hO).cs) 0 1 o8.tail)<|NS r8<|.done 0 [VS r8.ag] [.cells [((o8.hO).cs.getD 0 .any),VI (((o8.hO).cs.getD 1 .any).toInt)]])) (.call 55 [.ref 0 0,.sl [[VS (mk [120])],[VS (mk [49])],[VS (mk [120])],[VS (mk [121])],[VS (mk [48])],[VS (mk [49])]]] [.cells [((o5.hO).cs.getD 0 .any),VI (((o5.hO).cs.getD 1 .any).toInt)]] fun r9 o9=>.al ((o9.hO)=.cells (o9.hO).cs)<|.al (aN [.lk .sl,.lk (.int .i64)] ((o9.hO).cs) 0 1 o9.tail)<|NS r9<|.done 0 [VS r9.ag] [.cells [((o9.hO).cs.getD 0 .any),VI (((o9.hO).cs.getD 1 .any).toInt)]])) (.call 32 [.ref 0 0,VI 5] [.cells [((o5.hO).cs.getD 0 .any),VI (((o5.hO).cs.getD 1 .any).toInt)]] fun r10 o10=>.al ((o10.hO)=.cells (o10.hO).cs)<|.al (aN [.lk .sl,.lk (.int .i64)] ((o10.hO).cs) 0 1 o10.tail)<|NI r10<|.test (r10.toInt==(0:Int)) (.call 127 [.ref 0 0,a1,VI (IntKind.wrap .i64 (a2-1))] [.cells [((o10.hO).cs.getD 0 .any),VI (((o10.hO).cs.getD 1 .any).toInt)]] fun r11 o11=>.al ((o11.hO)=.cells (o11.hO).cs)<|.al (aN [.lk .sl,.lk (.int .i64)] ((o11.hO).cs) 0 1 o11.tail)<|NS r11<|.al (ac (mk [40,43,32])+ac r11.ag<=9223372036854775807)<|.al (ac (((mk [40,43,32]):ByteArray)++r11.ag)+ac (mk [32])<=9223372036854775807)<|.call 127 [.ref 0 0,a1,VI (IntKind.wrap .i64 (a2-1))] [.cells [((o11.hO).cs.getD 0 .any),VI (((o11.hO).cs.getD 1 .any).toInt)]] fun r12 o12=>.al ((o12.hO)=.cells (o12.hO).cs)<|.al (aN [.lk .sl,.lk (.int .i64)] ((o12.hO).cs) 0 1 o12.tail)<|NS r12<|.al (ac (((((mk [40,43,32]):ByteArray)++r11.ag):ByteArray)++(mk [32]))+ac r12.ag<=9223372036854775807)<|.al (ac (((((((mk [40,43,32]):ByteArray)++r11.ag):ByteArray)++(mk [32])):ByteArray)++r12.ag)+ac (mk [41])<=9223372036854775807)<|.done 0 [VS (((((((((mk [40,43,32]):ByteArray)++r11.ag):ByteArray)++(mk [32])):ByteArray)++r12.ag):ByteArray)++(mk [41]))] [.cells [((o12.hO).cs.getD 0 .any),VI (((o12.hO).cs.getD 1 .any).toInt)]]) (.test (r10.toInt==(1:Int)) (.call 127 [.ref 0 0,a1,VI (IntKind.wrap .i64 (a2-1))] [.cells [((o10.hO).cs.getD 0 .any),VI (((o10.hO).cs.getD 1 .any).toInt)]] fun r13 o13=>.al ((o13.hO)=.cells (o13.hO).cs)<|.al (aN [.lk .sl,.lk (.int .i64)] ((o13.hO).cs) 0 1 o13.tail)<|NS r13<|.al (ac (mk [40,43,32])+ac r13.ag<=9223372036854775807)<|.al (ac (((mk [40,43,32]):ByteArray)++r13.ag)+ac (mk [32])<=9223372036854775807)<|.call 127 [.ref 0 0,a1,VI (IntKind.wrap .i64 (a2-1))] [.cells [((o13.hO).cs.getD 0 .any),VI (((o13.hO).cs.getD 1 .any).toInt)]] fun r14 o14=>.al ((o14.hO)=.cells (o14.hO).cs)<|.al (aN [.lk .sl,.lk (.int .i64)] ((o14.hO).cs) 0 1 o14.tail)<|NS r14<|.al (ac (((((mk [40,43,32]):ByteArray)++r13.ag):ByteArray)++(mk [32]))+ac r14.ag<=9223372036854775807)<|.al (ac (((((((mk [40,43,32]):ByteArray)++r13.ag):ByteArray)++(mk [32])):ByteArray)++r14.ag)+ac (mk [41])<=9223372036854775807)<|.done 0 [VS (((((((((mk [40,43,32]):ByteArray)++r13.ag):ByteArray)++(mk [32])):ByteArray)++r14.ag):ByteArray)++(mk [41]))] [.cells [((o14.hO).cs.getD 0 .any),VI (((o14.hO).cs.getD 1 .any).toInt)]]) (.test (r10.toInt==(2:Int)) (.call 127 [.ref 0 0,a1,VI (IntKind.wrap .i64 (a2-1))] [.cells [((o10.hO).cs.getD 0 .any),VI (((o10.hO).cs.getD 1 .any).toInt)]] fun r15 o15=>.al ((o15.hO)=.cells (o15.hO).cs)<|.al (aN [.lk .sl,.lk (.int .i64)] ((o15.hO).cs) 0 1 o15.tail)<|NS r15<|.al (ac (mk [40,42,32])+ac r15.ag<=9223372036854775807)<|.al (ac (((mk [40,42,32]):ByteArray)++r15.ag)+ac (mk [32])<=9223372036854775807)<|.call 127 [.ref 0 0,a1,VI (IntKind.wrap .i64 (a2-1))] [.cells [((o15.hO).cs.getD 0 .any),VI (((o15.hO).cs.getD 1 .any).toInt)]] fun r16 o16=>.al ((o16.hO)=.cells (o16.hO).cs)<|.al (aN [.lk .sl,.lk (.int .i64)] ((o16.hO).cs) 0 1 o16.tail)<|NS r16<|.al (ac (((((mk [40,42,32]):ByteArray)++r15.ag):ByteArray)++(mk [32]))+ac r16.ag<=9223372036854775807)<|.al (ac (((((((mk [40,42,32]):ByteArray)++r15.ag):ByteArray)++(mk [32])):ByteArray)++r16.ag)+ac (mk [41])<=9223372036854775807)<|.done 0 [VS (((((((((mk [40,42,32]):ByteArray)++r15.ag):ByteArray)++(mk [32])):ByteArray)++r16.ag):ByteArray)++(mk [41]))] [.cells [((o16.hO).cs.getD 0 .any),VI (((o16.hO).cs.getD 1 .any).toInt)]]) (.test (r10.toInt==(3:Int)) (.call 127 [.ref 0 0,a1,VI (IntKind.wrap .i64 (a2-1))] [.cells [((o10.hO).cs.getD 0 .any),VI (((o10.hO).cs.getD 1 .any).toInt)]] fun r17 o17=>.al ((o17.hO)=.cells (o17.hO).cs)<|.al (aN [.lk .sl,.lk (.int .i64)] ((o17.hO).cs) 0 1 o17.tail)<|NS r17<|.al (ac (mk [40,42,32])+ac r17.ag<=9223372036854775807)<|.al (ac (((mk [40,42,32]):ByteArray)++r17.ag)+ac (mk [32])<=9223372036854775807)<|.call 127 [.ref 0 0,a1,VI (IntKind.wrap .i64 (a2-1))] [.cells [((o17.hO).cs.getD 0 .any),VI (((o17.hO).cs.getD 1 .any).toInt)]] fun r18 o18=>.al ((o18.hO)=.cells (o18.hO).cs)<|.al (aN [.lk .sl,.lk (.int .i64)] ((o18.hO).cs) 0 1 o18.tail)<|NS r18<|.al (ac (((((mk [40,42,32]):ByteArray)++r17.ag):ByteArray)++(mk [32]))+ac r18.ag<=9223372036854775807)<|.al (ac (((((((mk [40,42,32]):ByteArray)++r17.ag):ByteArray)++(mk [32])):ByteArray)++r18.ag)+ac (mk [41])<=9223372036854775807)<|.done 0 [VS (((((((((mk [40,42,32]):ByteArray)++r17.ag):ByteArray)++(mk [32])):ByteArray)++r18.ag):ByteArray)++(mk [41]))] [.cells [((o18.hO).cs.getD 0 .any),VI (((o18.hO).cs.getD 1 .any).toInt)]]) (.call 55 [.ref 0 0,.sl [[VS (mk [116])],[VS (mk [116,49])],[VS (mk [116,48])]]] [.cells [((o10.hO).cs.getD 0 .any),VI (((o10.hO).cs.getD 1 .any).toInt)]] fun r19 o19=>.al ((o19.hO)=.cells (o19.hO).cs)<|.al (aN [.lk .sl,.lk (.int .i64)] ((o19.hO).cs) 0 1 o19.tail)<|NS r19<|.al (ac (mk [40,114,101,99,32])+ac r19.ag<=9223372036854775807)<|.al (ac (((mk [40,114,101,99,32]):ByteArray)++r19.ag)+ac (mk [32,40,43,32,49,32])<=9223372036854775807)<|.call 143 [a1,VS r19.ag] [] fun r20 o20=>NL r20<|.call 127 [.ref 0 0,r20,VI (IntKind.wrap .i64 (a2-1))] [.cells [((o19.hO).cs.getD 0 .any),VI (((o19.hO).cs.getD 1 .any).toInt)]] fun r21 o21=>.al ((o21.hO)=.cells (o21.hO).cs)<|.al (aN [.lk .sl,.lk (.int .i64)] ((o21.hO).cs) 0 1 o21.tail)<|NS r21<|.al (ac (((((mk [40,114,101,99,32]):ByteArray)++r19.ag):ByteArray)++(mk [32,40,43,32,49,32]))+ac r21.ag<=9223372036854775807)<|.al (ac (((((((mk [40,114,101,99,32]):ByteArray)++r19.ag):ByteArray)++(mk [32,40,43,32,49,32])):ByteArray)++r21.ag)+ac (mk [41,41])<=9223372036854775807)<|.done 0 [VS (((((((((mk [40,114,101,99,32]):ByteArray)++r19.ag):ByteArray)++(mk [32,40,43,32,49,32])):ByteArray)++r21.ag):ByteArray)++(mk [41,41]))] [.cells [((o21.hO).cs.getD 0 .any),VI (((o21.hO).cs.getD 1 .any).toInt)]]))))))
theorem Hf(a0_0:AV)(a0_1:Int)(a1:AV)(a2:Int)(ha1:LK.has .sl a1)(ha0_0:LK.has .sl a0_0)(h:dT 82 (Fy a0_0 a0_1 a1 a2) R):az Tryz.prog 127 [.ref 0 0,a1,VI a2] [.cells [a0_0,VI a0_1]] R :=
 az.rL (cu (db (ai (bX ha0_0) (ai (aC _) aH))) dr) (az.up (ai (aC _) (ai (bX ha1) (ai (aC _) aH))) (oF [] {mu:=[(0,.one (.obj [.lk .sl,.lk (.int .i64)]))],own:=[]} Tryz.f127 h))
def Bc(a0_0:ByteArray)(a0_1:AV)(a1:AV):Tree :=
 .call 90 [.agg [VS a0_0,a0_1]] [] fun r1 o1=>NS r1<|.test (ae r1.ag==ae (mk [43])) (NG a0_1 1 2<|NE (a0_1.ix (1:Int))<|.call 128 [.agg [VS (((a0_1.ix (1:Int)).getD 0 .any).ag),((a0_1.ix (1:Int)).getD 1 .any)],a1] [] fun r2 o2=>NB r2<|.test r2.toBool (NG a0_1 2 2<|NE (a0_1.ix (2:Int))<|.call 128 [.agg [VS (((a0_1.ix (2:Int)).getD 0 .any).ag),((a0_1.ix (2:Int)).getD 1 .any)],a1] [] fun r3 o3=>NB r3<|.done 0 [VB r3.toBool] []) (.done 0 [VB false] [])) (.test (ae r1.ag==ae (mk [42])) (NG a0_1 1 2<|NE (a0_1.ix (1:Int))<|.call 128 [.agg [VS (((a0_1.ix (1:Int)).getD 0 .any).ag),((a0_1.ix (1:Int)).getD 1 .any)],a1] [] fun r4 o4=>NB r4<|.test r4.toBool (.done 0 [VB true] []) (NG a0_1 2 2<|NE (a0_1.ix (2:Int))<|.call 128 [.agg [VS (((a0_1.ix (2:Int)).getD 0 .any).ag),((a0_1.ix (2:Int)).getD 1 .any)],a1] [] fun r5 o5=>NB r5<|.done 0 [VB r5.toBool] [])) (.test (ae r1.ag==ae (mk [114,101,99])) (NG a0_1 2 2<|NE (a0_1.ix (2:Int))<|NG a0_1 1 2<|nw (a0_1.ix (1:Int))<|.call 143 [a1,VS (((a0_1.ix (1:Int)).hA).ag)] [] fun r6 o6=>NL r6<|.call 128 [.agg [VS (((a0_1.ix (2:Int)).getD 0 .any).ag),((a0_1.ix (2:Int)).getD 1 .any)],r6] [] fun r7 o7=>NB r7<|.done 0 [VB r7.toBool] []) (.test (ae a0_0==ae (mk [48])) (.done 0 [VB true] []) (.call 142 [a1,VS a0_0] [] fun r8 o8=>NB r8<|.done 0 [VB r8.toBool] []))))
theorem Cc(a0_0:ByteArray)(a0_1:AV)(a1:AV)(ha0_1:LK.has .sl a0_1)(ha1:LK.has .sl a1)(h:dT 62 (Bc a0_0 a0_1 a1) R):az Tryz.prog 128 [.agg [VS a0_0,a0_1],a1] [] R :=
 uQ (ai (cF (ai (aC _) (ai (bX ha0_1) aH))) (ai (bX ha1) aH)) (oQ [] Tryz.f128 h)
def FG:LI:={hd:={cd:=[(3,.k (.int .i64)),(4,.k (.int .i64))],refs:=[(1,1)],cE:=[(1,[.lk .str,.lk .sl])]},xs:={cd:=[(3,.k (.int .i64))]},rt:={},ex:=0}
def HN:Code:=dL (dy Tryz.f129) 5
def IG:List (Nat×LI):=[(5,FG)]
def Fq(a0_0:ByteArray)(a0_1:AV):Tree :=
 .test (!(ae a0_0==ae (mk []))) (.done 0 [VI 1] []) (.loop HN FG [VI 0,VI 0] [.cells [VS a0_0,a0_1]] (fun y2 q2=>NI (y2.hA)<|.done 0 [VI ((y2.hA).toInt)] []) (fun y2 q2=>.done 0 [.any] []))
theorem GU(a0_0:ByteArray)(a0_1:AV)(ha0_1:LK.has .sl a0_1)(h:dT 24 (Fq a0_0 a0_1) R):az Tryz.prog 129 [.agg [VS a0_0,a0_1]] [] R :=
 uQ (ai (cF (ai (aC _) (ai (bX ha0_1) aH))) aH) (oQ IG Tryz.f129 h)
def FE(x3:Int)(x4:Int)(o1_0:ByteArray)(o1_1:AV):Tree :=
 NI (VI x3)<|NI (VI x4)<|.al (Ob.cells [VS o1_0,o1_1]=.cells [VS o1_0,o1_1])<|.al (af [.lk .str,.lk .sl] [VS o1_0,o1_1] 0 [])<|NL o1_1<|.test (decide (x4<(o1_1.aS.length:Int))) (NG o1_1 x4 2<|NE (o1_1.ix x4)<|.call 129 [.agg [VS (((o1_1.ix x4).getD 0 .any).ag),((o1_1.ix x4).getD 1 .any)]] [] fun r1 o1=>NI r1<|.done 0 [VI (IntKind.wrap .i64 (x3+r1.toInt)),VI (IntKind.wrap .i64 (x4+1))] [.cells [VS o1_0,o1_1]]) (.done 1 [VI x3] [])
abbrev Ez:=cP Tryz.prog 24 HN FG
theorem Jh(x3:Int)(x4:Int)(o1_0:ByteArray)(o1_1:AV)(h:n9 24 (FE x3 x4 o1_0 o1_1) Ez U):Ez [VI x3,VI x4] [.cells [VS o1_0,o1_1]] U :=
 gQ IG h
def Hg(a0_0:ByteArray)(a0_1:AV):Tree :=
 NG a0_1 1 2<|nw (a0_1.ix (1:Int))<|NG a0_1 2 2<|NE (a0_1.ix (2:Int))<|.call 162 [.agg [VS (((a0_1.ix (2:Int)).getD 0 .any).ag),((a0_1.ix (2:Int)).getD 1 .any)],VS (((a0_1.ix (1:Int)).hA).ag),.agg [VS a0_0,a0_1]] [] fun r1 o1=>NB r1<|.test (!r1.toBool) (.done 0 [.cx [.agg [VS a0_0,a0_1],VB false]] []) (NG a0_1 2 2<|NE (a0_1.ix (2:Int))<|.call 163 [.agg [VS (((a0_1.ix (2:Int)).getD 0 .any).ag),((a0_1.ix (2:Int)).getD 1 .any)],VS (((a0_1.ix (1:Int)).hA).ag),.agg [VS a0_0,a0_1]] [] fun r2 o2=>NA r2<|.done 0 [.cx [.agg [VS ((r2.cs.getD 0 .any).ag),(r2.cs.getD 1 .any)],VB true]] [])
theorem Ml(a0_0:ByteArray)(a0_1:AV)(ha0_1:LK.has .sl a0_1)(h:dT 26 (Hg a0_0 a0_1) R):az Tryz.prog 130 [.agg [VS a0_0,a0_1]] [] R :=
 uQ (ai (cF (ai (aC _) (ai (bX ha0_1) aH))) aH) (oQ [] Tryz.f130 h)
def F0:LI:={hd:={cd:=[(1,.k .sl),(2,.k .sl),(9,.k (.int .i64))],refs:=[(4,4),(8,8)],cE:=[(4,[.lk .str,.lk .sl]),(8,[.lk .str,.lk .sl]),(0,[.vec 1,.lk (.int .i64)])]},xs:={refs:=[(4,4),(8,8)],cE:=[(4,[.lk .str,.lk .sl]),(8,[.lk .str,.lk .sl]),(0,[.vec 1,.lk (.int .i64)])]},rt:={refs:=[(8,8)],cE:=[(8,[.lk .str,.lk .sl]),(0,[.vec 1,.lk (.int .i64)])]},ex:=0,fx:=[0]}
def Hi:Code:=dL (dy Tryz.f131) 3
def ED:LI:={hd:={cd:=[(1,.k .sl),(2,.k .sl),(10,.k .str)],refs:=[(3,0),(4,4),(8,8)],cE:=[(0,[.vec 1,.lk (.int .i64)]),(4,[.lk .str,.lk .sl]),(8,[.lk .str,.lk .sl])]},xs:={cd:=[(1,.k .sl),(2,.k .sl),(10,.k .str)],refs:=[(3,0),(4,4),(8,8)],cE:=[(0,[.vec 1,.lk (.int .i64)]),(4,[.lk .str,.lk .sl]),(8,[.lk .str,.lk .sl])]},rt:={cE:=[(0,[.vec 1,.lk (.int .i64)])]},ex:=2,fx:=[0]}
def IF:Code:=dL (dy Tryz.f131) 10
def Fg:List (Nat×LI):=[(3,F0),(10,ED)]
def zz(a0_0:ByteArray)(a0_1:AV)(a1:AV)(a2:AV)(e3_0:List (List AV))(a3_1:Int):Tree :=
 .test (!(ae a0_0==ae (mk []))) (NL a1<|.loop Hi F0 [a1,a2,VI (IntKind.wrap .i64 ((a1.aS.length:Int)-1))] [.cells [VS a0_0,a0_1],.cells [VS (mk []),.v (.slice none 0 0)],.cells [.any,VI a3_1],.vec 1 e3_0] (fun y1 q1=>.al ((q1.hO)=.cells (q1.hO).cs)<|.al (af [.lk .str,.lk .sl] ((q1.hO).cs) 0 q1.tail)<|.al (((q1.tail.drop 0).hO)=.cells ((q1.tail.drop 0).hO).cs)<|.al (af [.lk .str,.lk .sl] (((q1.tail.drop 0).hO).cs) 0 ((q1.tail.drop 0).tail))<|.al ((((q1.tail.drop 0).tail.drop 0).hO)=.cells (((q1.tail.drop 0).tail.drop 0).hO).cs)<|.al (af [.vec 1,.lk (.int .i64)] ((((q1.tail.drop 0).tail.drop 0).hO).cs) 0 (((q1.tail.drop 0).tail.drop 0).tail))<|.done 0 [.agg [VS (((q1.hO).cs.getD 0 .any).ag),((q1.hO).cs.getD 1 .any)]] [.cells [.vec 1,VI (((q1.tail.tail.hO).cs.getD 1 .any).toInt)],.vec 1 ((q1.tail.tail.tail.hO).es)]) (fun y1 q1=>.al ((q1.hO)=.cells (q1.hO).cs)<|.al (af [.lk .str,.lk .sl] ((q1.hO).cs) 0 q1.tail)<|.al (((q1.tail.drop 0).hO)=.cells ((q1.tail.drop 0).hO).cs)<|.al (af [.vec 1,.lk (.int .i64)] (((q1.tail.drop 0).hO).cs) 0 ((q1.tail.drop 0).tail))<|.done 0 [.agg [VS (((q1.hO).cs.getD 0 .any).ag),((q1.hO).cs.getD 1 .any)]] [.cells [.vec 1,VI (((q1.tail.hO).cs.getD 1 .any).toInt)],.vec 1 ((q1.tail.tail.hO).es)])) (.call 90 [.agg [VS a0_0,a0_1]] [] fun r2 o2=>NS r2<|.test (ae r2.ag==ae (mk [114,101,99])) (.call 54 [VI a3_1] [] fun r3 o3=>NS r3<|.al (ac (mk [116])+ac r3.ag<=9223372036854775807)<|.loop IF ED [a1,a2,VS (((mk [116]):ByteArray)++r3.ag)] [.cells [.any,VI a3_1],.vec 1 e3_0,.cells [VS a0_0,a0_1],.cells [VS (mk []),.v (.slice none 0 0)]] (fun y6 q6=>NL (y6.hA)<|NL (y6.tail.hA)<|NS (y6.tail.tail.hA)<|.al ((q6.hO)=.cells (q6.hO).cs)<|.al (af [.vec 1,.lk (.int .i64)] ((q6.hO).cs) 0 q6.tail)<|.al (((q6.tail.drop 1).hO)=.cells ((q6.tail.drop 1).hO).cs)<|.al (af [.lk .str,.lk .sl] (((q6.tail.drop 1).hO).cs) 0 ((q6.tail.drop 1).tail))<|.al ((((q6.tail.drop 1).tail.drop 0).hO)=.cells (((q6.tail.drop 1).tail.drop 0).hO).cs)<|.al (af [.lk .str,.lk .sl] ((((q6.tail.drop 1).tail.drop 0).hO).cs) 0 (((q6.tail.drop 1).tail.drop 0).tail))<|NG ((q6.tail.tail.hO).cs.getD 1 .any) 2 2<|NE (((q6.tail.tail.hO).cs.getD 1 .any).ix (2:Int))<|NG ((q6.tail.tail.hO).cs.getD 1 .any) 1 2<|nw (((q6.tail.tail.hO).cs.getD 1 .any).ix (1:Int))<|.call 143 [(y6.hA),VS (((((q6.tail.tail.hO).cs.getD 1 .any).ix (1:Int)).hA).ag)] [] fun r7 o7=>NL r7<|.call 143 [(y6.tail.hA),VS ((y6.tail.tail.hA).ag)] [] fun r8 o8=>NL r8<|.call 131 [.agg [VS (((((q6.tail.tail.hO).cs.getD 1 .any).ix (2:Int)).getD 0 .any).ag),((((q6.tail.tail.hO).cs.getD 1 .any).ix (2:Int)).getD 1 .any)],r7,r8,.ref 0 0] [.cells [.vec 1,VI (IntKind.wrap .i64 ((((q6.hO).cs.getD 1 .any).toInt)+1))],.vec 1 ((q6.tail.hO).es)] fun r9 o9=>.al ((o9.hO)=.cells (o9.hO).cs)<|.al (aN [.vec 1,.lk (.int .i64)] ((o9.hO).cs) 0 1 o9.tail)<|NA r9<|.call 69 [VS (mk [114,101,99]),.sl [[VS ((y6.tail.tail.hA).ag),.v (.slice none 0 0)],[VS ((r9.cs.getD 0 .any).ag),(r9.cs.getD 1 .any)]]] [] fun r10 o10=>NA r10<|.done 0 [.agg [VS ((r10.cs.getD 0 .any).ag),(r10.cs.getD 1 .any)]] [.cells [.vec 1,VI (((o9.hO).cs.getD 1 .any).toInt)],.vec 1 ((o9.tail.hO).es)]) (fun y6 q6=>.al ((q6.hO)=.cells (q6.hO).cs)<|.al (af [.vec 1,.lk (.int .i64)] ((q6.hO).cs) 0 q6.tail)<|.fail)) (NG a0_1 1 2<|NE (a0_1.ix (1:Int))<|.call 131 [.agg [VS (((a0_1.ix (1:Int)).getD 0 .any).ag),((a0_1.ix (1:Int)).getD 1 .any)],a1,a2,.ref 0 0] [.cells [.vec 1,VI a3_1],.vec 1 e3_0] fun r11 o11=>.al ((o11.hO)=.cells (o11.hO).cs)<|.al (aN [.vec 1,.lk (.int .i64)] ((o11.hO).cs) 0 1 o11.tail)<|NA r11<|.call 90 [.agg [VS a0_0,a0_1]] [] fun r12 o12=>NS r12<|NG a0_1 2 2<|NE (a0_1.ix (2:Int))<|.call 131 [.agg [VS (((a0_1.ix (2:Int)).getD 0 .any).ag),((a0_1.ix (2:Int)).getD 1 .any)],a1,a2,.ref 0 0] [.cells [.vec 1,VI (((o11.hO).cs.getD 1 .any).toInt)],.vec 1 ((o11.tail.hO).es)] fun r13 o13=>.al ((o13.hO)=.cells (o13.hO).cs)<|.al (aN [.vec 1,.lk (.int .i64)] ((o13.hO).cs) 0 1 o13.tail)<|NA r13<|.call 69 [VS r12.ag,.sl [[VS ((r11.cs.getD 0 .any).ag),(r11.cs.getD 1 .any)],[VS ((r13.cs.getD 0 .any).ag),(r13.cs.getD 1 .any)]]] [] fun r14 o14=>NA r14<|.done 0 [.agg [VS ((r14.cs.getD 0 .any).ag),(r14.cs.getD 1 .any)]] [.cells [.vec 1,VI (((o13.hO).cs.getD 1 .any).toInt)],.vec 1 ((o13.tail.hO).es)]))
theorem BF(a0_0:ByteArray)(a0_1:AV)(a1:AV)(a2:AV)(e3_0:List (List AV))(a3_1:Int)(ha0_1:LK.has .sl a0_1)(ha1:LK.has .sl a1)(ha2:LK.has .sl a2)(h:dT 113 (zz a0_0 a0_1 a1 a2 e3_0 a3_1) R):az Tryz.prog 131 [.agg [VS a0_0,a0_1],a1,a2,.ref 0 0] [.cells [.vec 1,VI a3_1],.vec 1 e3_0] R :=
 az.rL (cu (db (ai (aC _) (ai (aC _) aH))) (cu (mn _) dr)) (az.up (ai (cF (ai (aC _) (ai (bX ha0_1) aH))) (ai (bX ha1) (ai (bX ha2) (ai (aC _) aH)))) (oF Fg {mu:=[(3,.one (.obj [.vec 1,.lk (.int .i64)]))],own:=[]} Tryz.f131 h))
def F6(x1:AV)(x2:AV)(x9:Int)(o4_0:ByteArray)(o4_1:AV)(o8_0:ByteArray)(o8_1:AV)(o0_0:List (List AV))(o0_1:Int):Tree :=
 NL x1<|NL x2<|NI (VI x9)<|.al (Ob.cells [VS o4_0,o4_1]=.cells [VS o4_0,o4_1])<|.al (af [.lk .str,.lk .sl] [VS o4_0,o4_1] 0 [.cells [VS o8_0,o8_1],.cells [.any,VI o0_1],.vec 1 o0_0])<|.al (Ob.cells [VS o8_0,o8_1]=.cells [VS o8_0,o8_1])<|.al (af [.lk .str,.lk .sl] [VS o8_0,o8_1] 0 [.cells [.any,VI o0_1],.vec 1 o0_0])<|.al (Ob.cells [.any,VI o0_1]=.cells [.any,VI o0_1])<|.al (af [.vec 1,.lk (.int .i64)] [.any,VI o0_1] 0 [.vec 1 o0_0])<|.test (decide (x9≥(0:Int))) (NG x1 x9 1<|nw (x1.ix x9)<|.test (ae (((x1.ix x9).hA).ag)==ae o4_0) (NG x2 x9 1<|nw (x2.ix x9)<|.done 2 [] [.cells [VS (((x2.ix x9).hA).ag),.v (.slice none 0 0)],.cells [.any,VI o0_1],.vec 1 o0_0]) (.done 0 [x1,x2,VI (IntKind.wrap .i64 (x9-1))] [.cells [VS o4_0,o4_1],.cells [VS o8_0,o8_1],.cells [.any,VI o0_1],.vec 1 o0_0])) (.done 1 [] [.cells [VS o4_0,o4_1],.cells [VS o8_0,o8_1],.cells [.any,VI o0_1],.vec 1 o0_0])
abbrev EF:=cP Tryz.prog 113 Hi F0
theorem JW(x1:AV)(x2:AV)(x9:Int)(o4_0:ByteArray)(o4_1:AV)(o8_0:ByteArray)(o8_1:AV)(o0_0:List (List AV))(o0_1:Int)(h:n9 113 (F6 x1 x2 x9 o4_0 o4_1 o8_0 o8_1 o0_0 o0_1) EF U):EF [x1,x2,VI x9] [.cells [VS o4_0,o4_1],.cells [VS o8_0,o8_1],.cells [.any,VI o0_1],.vec 1 o0_0] U :=
 gQ Fg h
def HH(x1:AV)(x2:AV)(x10:ByteArray)(o0_0:List (List AV))(o0_1:Int)(o4_0:ByteArray)(o4_1:AV)(o8_0:ByteArray)(o8_1:AV):Tree :=
 NL x1<|NL x2<|NS (VS x10)<|.al (Ob.cells [.any,VI o0_1]=.cells [.any,VI o0_1])<|.al (af [.vec 1,.lk (.int .i64)] [.any,VI o0_1] 0 [.vec 1 o0_0,.cells [VS o4_0,o4_1],.cells [VS o8_0,o8_1]])<|.al (Ob.cells [VS o4_0,o4_1]=.cells [VS o4_0,o4_1])<|.al (af [.lk .str,.lk .sl] [VS o4_0,o4_1] 0 [.cells [VS o8_0,o8_1]])<|.al (Ob.cells [VS o8_0,o8_1]=.cells [VS o8_0,o8_1])<|.al (af [.lk .str,.lk .sl] [VS o8_0,o8_1] 0 [])<|.call 142 [.sl o0_0,VS x10] [] fun r1 o1=>NB r1<|.test r1.toBool (.call 54 [VI (IntKind.wrap .i64 (o0_1+1))] [] fun r2 o2=>NS r2<|.al (ac (mk [116])+ac r2.ag<=9223372036854775807)<|.done 0 [x1,x2,VS (((mk [116]):ByteArray)++r2.ag)] [.cells [.any,VI (IntKind.wrap .i64 (o0_1+1))],.vec 1 o0_0,.cells [VS o4_0,o4_1],.cells [VS o8_0,o8_1]]) (.done 1 [x1,x2,VS x10] [.cells [.any,VI o0_1],.vec 1 o0_0,.cells [VS o4_0,o4_1],.cells [VS o8_0,o8_1]])
abbrev D5:=cP Tryz.prog 113 IF ED
theorem No(x1:AV)(x2:AV)(x10:ByteArray)(o0_0:List (List AV))(o0_1:Int)(o4_0:ByteArray)(o4_1:AV)(o8_0:ByteArray)(o8_1:AV)(h:n9 113 (HH x1 x2 x10 o0_0 o0_1 o4_0 o4_1 o8_0 o8_1) D5 U):D5 [x1,x2,VS x10] [.cells [.any,VI o0_1],.vec 1 o0_0,.cells [VS o4_0,o4_1],.cells [VS o8_0,o8_1]] U :=
 gQ Fg h
def Km(a0:AV):Tree :=
 .call 165 [a0] [] fun r1 o1=>NL r1<|.call 164 [r1,.v (.func (.func 166) #[] #[])] [] fun r2 o2=>NB r2<|.done 0 [VB (!r2.toBool)] []
theorem Mk(a0:AV)(ha0:LK.has .ptr a0)(h:dT 7 (Km a0) R):az Tryz.prog 132 [a0] [] R :=
 uQ (ai (ci ha0) aH) (oQ [] Tryz.f132 h)
def Eg:LI:={hd:={cd:=[(3,.k .ptr),(10,.k (.int .i64)),(11,.k (.int .i64))]},xs:={cd:=[(3,.k .ptr)]},rt:={},ex:=0}
def KI:Code:=dL (dy Tryz.f133) 3
def GQ:List (Nat×LI):=[(3,Eg)]
def HM(a0_0:AV)(a0_1:AV):Tree :=
 NZ a0_0<|NZ a0_0<|.al (LK.has (.int .i64) ((a0_0.deref.drop 2).hA)/\1<=(a0_0.deref.drop 2).length)<|.loop KI Eg [a0_1,VI (((a0_0.deref.drop 2).hA).toInt),VI 0] [] (fun y1 q1=>NP (y1.hA)<|NZ (y1.hA)<|NZ (y1.hA)<|.al (LK.has .ptr ((y1.hA).deref.hA)/\1<=((y1.hA).deref).length)<|.done 0 [((y1.hA).deref.hA)] []) (fun y1 q1=>.done 0 [.any] [])
theorem L7(a0_0:AV)(a0_1:AV)(ha0_0:LK.has .ptr a0_0)(ha0_1:LK.has .ptr a0_1)(h:dT 22 (HM a0_0 a0_1) R):az Tryz.prog 133 [.agg [a0_0,a0_1]] [] R :=
 uQ (ai (cF (ai (ci ha0_0) (ai (ci ha0_1) aH))) aH) (oQ GQ Tryz.f133 h)
def FT(x3:AV)(x10:Int)(x11:Int):Tree :=
 NP x3<|NI (VI x10)<|NI (VI x11)<|.test (decide (x11<x10)) (NZ x3<|NZ x3<|eF (x3.deref.drop 1)<|.done 0 [((x3.deref.drop 1).hA),VI x10,VI (IntKind.wrap .i64 (x11+1))] []) (.done 1 [x3] [])
abbrev Fe:=cP Tryz.prog 22 KI Eg
theorem Hc(x3:AV)(x10:Int)(x11:Int)(h:n9 22 (FT x3 x10 x11) Fe U):Fe [x3,VI x10,VI x11] [] U :=
 gQ GQ h
def wh(a0_0:ByteArray)(a0_1:AV):Tree :=
 .test (!(ae a0_0==ae (mk []))) (.test (ae a0_0==ae (mk [48])) (.done 0 [VB true] []) (.test (ae a0_0==ae (mk [49])) (.done 0 [VB true] []) (.call 100 [VS a0_0] [] fun r1 o1=>NB r1<|.test r1.toBool (.done 0 [VB true] []) (.call 99 [VS a0_0] [] fun r2 o2=>NB r2<|.done 0 [VB r2.toBool] [])))) (NL a0_1<|.test ((a0_1.aS.length:Int) != (3:Int)) (.done 0 [VB false] []) (.call 90 [.agg [VS a0_0,a0_1]] [] fun r3 o3=>NS r3<|.test (ae r3.ag==ae (mk [43])) (NG a0_1 1 2<|NE (a0_1.ix (1:Int))<|.call 136 [.agg [VS (((a0_1.ix (1:Int)).getD 0 .any).ag),((a0_1.ix (1:Int)).getD 1 .any)]] [] fun r4 o4=>NB r4<|.test r4.toBool (NG a0_1 2 2<|NE (a0_1.ix (2:Int))<|.call 136 [.agg [VS (((a0_1.ix (2:Int)).getD 0 .any).ag),((a0_1.ix (2:Int)).getD 1 .any)]] [] fun r5 o5=>NB r5<|.done 0 [VB r5.toBool] []) (.done 0 [VB false] [])) (.test (ae r3.ag==ae (mk [42])) (NG a0_1 1 2<|NE (a0_1.ix (1:Int))<|.call 136 [.agg [VS (((a0_1.ix (1:Int)).getD 0 .any).ag),((a0_1.ix (1:Int)).getD 1 .any)]] [] fun r6 o6=>NB r6<|.test r6.toBool (NG a0_1 2 2<|NE (a0_1.ix (2:Int))<|.call 136 [.agg [VS (((a0_1.ix (2:Int)).getD 0 .any).ag),((a0_1.ix (2:Int)).getD 1 .any)]] [] fun r7 o7=>NB r7<|.done 0 [VB r7.toBool] []) (.done 0 [VB false] [])) (.test (ae r3.ag==ae (mk [114,101,99])) (NG a0_1 1 2<|nw (a0_1.ix (1:Int))<|.call 99 [VS (((a0_1.ix (1:Int)).hA).ag)] [] fun r8 o8=>NB r8<|.test r8.toBool (NG a0_1 2 2<|NE (a0_1.ix (2:Int))<|.call 136 [.agg [VS (((a0_1.ix (2:Int)).getD 0 .any).ag),((a0_1.ix (2:Int)).getD 1 .any)]] [] fun r9 o9=>NB r9<|.done 0 [VB r9.toBool] []) (.done 0 [VB false] [])) (.done 0 [VB false] [])))))
theorem IV(a0_0:ByteArray)(a0_1:AV)(ha0_1:LK.has .sl a0_1)(h:dT 60 (wh a0_0 a0_1) R):az Tryz.prog 136 [.agg [VS a0_0,a0_1]] [] R :=
 uQ (ai (cF (ai (aC _) (ai (bX ha0_1) aH))) aH) (oQ [] Tryz.f136 h)
def E7:LI:={hd:={cd:=[(0,.k .str),(1,.k (.int .i64)),(9,.k (.int .i64))],refs:=[(6,6),(8,8)],cE:=[(6,[.lk .str,.lk .sl]),(8,[.lk .str,.lk .sl])]},xs:={cd:=[(0,.k .str),(1,.k (.int .i64)),(9,.k (.int .i64))],refs:=[(6,6),(8,8)],cE:=[(6,[.lk .str,.lk .sl]),(8,[.lk .str,.lk .sl])]},rt:={},ex:=0}
def Ir:Code:=dL (dy Tryz.f137) 6
def Fk:LI:={hd:={cd:=[(0,.k .str),(1,.k (.int .i64)),(2,.k (.int .i64))],refs:=[(6,6),(8,8)],cE:=[(6,[.lk .str,.lk .sl]),(8,[.lk .str,.vec 2])]},xs:={},rt:={cd:=[(7,.k (.int .i64))],refs:=[(6,6)],cE:=[(6,[.lk .str,.vec 2])]},ex:=999}
def Kh:Code:=dL (dy Tryz.f137) 12
def Ft:List (Nat×LI):=[(6,E7),(12,Fk)]
def E5(a0:ByteArray)(a1:Int)(a2:Int):Tree :=
 .test (decide (a2>(300:Int))) (.done 0 [.cx [.agg [VS (mk []),.v (.slice none 0 0)],VI (-1)]] []) (.test (decide (a1≥(ac a0:Int))) (.done 0 [.cx [.agg [VS (mk []),.v (.slice none 0 0)],VI (-1)]] []) (.al (0<=a1/\a1<ac a0)<|.test ((bt a0 a1) != (40:Int)) (.loop Ir E7 [VS a0,VI a1,VI a1] [.cells [VS (mk []),.v (.slice none 0 0)],.cells [VS (mk []),.v (.slice none 0 0)]] (fun y2 q2=>NS (y2.hA)<|NI (y2.tail.hA)<|NI (y2.tail.tail.hA)<|.al ((q2.hO)=.cells (q2.hO).cs)<|.al (af [.lk .str,.lk .sl] ((q2.hO).cs) 0 q2.tail)<|.al (((q2.tail.drop 0).hO)=.cells ((q2.tail.drop 0).hO).cs)<|.al (af [.lk .str,.lk .sl] (((q2.tail.drop 0).hO).cs) 0 ((q2.tail.drop 0).tail))<|.al (0<=((y2.tail.tail.hA).toInt)/\((y2.tail.tail.hA).toInt)<=((y2.tail.hA).toInt)/\((y2.tail.hA).toInt)<=(ac ((y2.hA).ag):Int))<|.test (ae (bP ((y2.hA).ag) (bM ((y2.tail.tail.hA).toInt)) (bM ((y2.tail.hA).toInt)))==ae (mk [])) (.done 0 [.cx [.agg [VS (bP ((y2.hA).ag) (bM ((y2.tail.tail.hA).toInt)) (bM ((y2.tail.hA).toInt))),((q2.tail.hO).cs.getD 1 .any)],VI (-1)]] []) (.done 0 [.cx [.agg [VS (bP ((y2.hA).ag) (bM ((y2.tail.tail.hA).toInt)) (bM ((y2.tail.hA).toInt))),((q2.tail.hO).cs.getD 1 .any)],VI ((y2.tail.hA).toInt)]] [])) (fun y2 q2=>.fail)) (.loop Kh Fk [VS a0,VI a1,VI a2] [.cells [VS (mk []),.v (.slice none 0 0)],.cells [VS (mk []),.any],.vec 2 []] (fun y5 q5=>.fail) (fun y5 q5=>NI (y5.hA)<|.al ((q5.hO)=.cells (q5.hO).cs)<|.al (af [.lk .str,.vec 2] ((q5.hO).cs) 0 q5.tail)<|.done 0 [.cx [.agg [VS (((q5.hO).cs.getD 0 .any).ag),.sl ((q5.tail.hO).es)],VI ((y5.hA).toInt)]] []))))
theorem GW(a0:ByteArray)(a1:Int)(a2:Int)(h:dT 87 (E5 a0 a1 a2) R):az Tryz.prog 137 [VS a0,VI a1,VI a2] [] R :=
 uQ (ai (aC _) (ai (aC _) (ai (aC _) aH))) (oQ Ft Tryz.f137 h)
def Fw(x0:ByteArray)(x1:Int)(x9:Int)(o6_0:ByteArray)(o6_1:AV)(o8_0:ByteArray)(o8_1:AV):Tree :=
 NS (VS x0)<|NI (VI x1)<|NI (VI x9)<|.al (Ob.cells [VS o6_0,o6_1]=.cells [VS o6_0,o6_1])<|.al (af [.lk .str,.lk .sl] [VS o6_0,o6_1] 0 [.cells [VS o8_0,o8_1]])<|.al (Ob.cells [VS o8_0,o8_1]=.cells [VS o8_0,o8_1])<|.al (af [.lk .str,.lk .sl] [VS o8_0,o8_1] 0 [])<|.test (decide (x1<(ac x0:Int))) (.al (0<=x1/\x1<ac x0)<|.call 172 [.v (.int .u8 (bt x0 x1))] [] fun r1 o1=>NB r1<|.test r1.toBool (.done 0 [VS x0,VI (IntKind.wrap .i64 (x1+1)),VI x9] [.cells [VS o6_0,o6_1],.cells [VS o8_0,o8_1]]) (.done 1 [VS x0,VI x1,VI x9] [.cells [VS o6_0,o6_1],.cells [VS o8_0,o8_1]])) (.done 1 [VS x0,VI x1,VI x9] [.cells [VS o6_0,o6_1],.cells [VS o8_0,o8_1]])
abbrev Fl:=cP Tryz.prog 87 Ir E7
theorem G9(x0:ByteArray)(x1:Int)(x9:Int)(o6_0:ByteArray)(o6_1:AV)(o8_0:ByteArray)(o8_1:AV)(h:n9 87 (Fw x0 x1 x9 o6_0 o6_1 o8_0 o8_1) Fl U):Fl [VS x0,VI x1,VI x9] [.cells [VS o6_0,o6_1],.cells [VS o8_0,o8_1]] U :=
 gQ Ft h
def ID(x0:ByteArray)(x1:Int)(x2:Int)(o6_0:ByteArray)(o6_1:AV)(o8_0:ByteArray)(o8_1:List (List AV)):Tree :=
 NS (VS x0)<|NI (VI x1)<|NI (VI x2)<|.al (Ob.cells [VS o6_0,o6_1]=.cells [VS o6_0,o6_1])<|.al (af [.lk .str,.lk .sl] [VS o6_0,o6_1] 0 [.cells [VS o8_0,.any],.vec 2 o8_1])<|.al (Ob.cells [VS o8_0,.any]=.cells [VS o8_0,.any])<|.al (af [.lk .str,.vec 2] [VS o8_0,.any] 0 [.vec 2 o8_1])<|.call 137 [VS x0,VI (IntKind.wrap .i64 (x1+1)),VI (IntKind.wrap .i64 (x2+1))] [] fun r1 o1=>NT r1<|.al ((r1.comp 0)=.agg (r1.comp 0).cs/\(r1.comp 0).cs.length=2/\bT [.str,.sl] ((r1.comp 0).cs) 0)<|NI (r1.comp 1)<|.test (decide (((r1.comp 1).toInt)<(0:Int))) (.done 2 [VI (-1)] [.cells [VS o8_0,.any],.vec 2 o8_1]) (.test (decide (((r1.comp 1).toInt)≥(ac x0:Int))) (.done 2 [VI (-1)] [.cells [VS o8_0,.any],.vec 2 o8_1]) (.al (cT 2 [[VS (((r1.comp 0).cs.getD 0 .any).ag),((r1.comp 0).cs.getD 1 .any)]]/\((o8_1.length)+([[VS (((r1.comp 0).cs.getD 0 .any).ag),((r1.comp 0).cs.getD 1 .any)]]:List (List AV)).length)*40<=140737488355328)<|.al (0<=((r1.comp 1).toInt)/\((r1.comp 1).toInt)<ac x0)<|.test ((bt x0 ((r1.comp 1).toInt))==(41:Int)) (.done 2 [VI (IntKind.wrap .i64 (((r1.comp 1).toInt)+1))] [.cells [VS o8_0,.any],.vec 2 (o8_1++([[VS (((r1.comp 0).cs.getD 0 .any).ag),((r1.comp 0).cs.getD 1 .any)]]:List (List AV)))]) (.al (0<=((r1.comp 1).toInt)/\((r1.comp 1).toInt)<ac x0)<|.test ((bt x0 ((r1.comp 1).toInt)) != (32:Int)) (.done 2 [VI (-1)] [.cells [VS o8_0,.any],.vec 2 (o8_1++([[VS (((r1.comp 0).cs.getD 0 .any).ag),((r1.comp 0).cs.getD 1 .any)]]:List (List AV)))]) (.done 0 [VS x0,VI ((r1.comp 1).toInt),VI x2] [.cells [VS o6_0,o6_1],.cells [VS o8_0,.any],.vec 2 (o8_1++([[VS (((r1.comp 0).cs.getD 0 .any).ag),((r1.comp 0).cs.getD 1 .any)]]:List (List AV)))]))))
abbrev Fs:=cP Tryz.prog 87 Kh Fk
theorem Nc(x0:ByteArray)(x1:Int)(x2:Int)(o6_0:ByteArray)(o6_1:AV)(o8_0:ByteArray)(o8_1:List (List AV))(h:n9 87 (ID x0 x1 x2 o6_0 o6_1 o8_0 o8_1) Fs U):Fs [VS x0,VI x1,VI x2] [.cells [VS o6_0,o6_1],.cells [VS o8_0,.any],.vec 2 o8_1] U :=
 gQ Ft h
def FZ:LI:={hd:={cd:=[(1,.k .sl),(6,.k (.int .i64))],refs:=[(2,2),(4,4)],cE:=[(2,[.lk .str,.lk .sl]),(4,[.lk .str,.lk .sl])]},xs:={cd:=[(1,.k .sl)],refs:=[(2,2),(4,4)],cE:=[(2,[.lk .str,.lk .sl]),(4,[.lk .str,.lk .sl])]},rt:={cd:=[(5,.k .sl)],refs:=[(4,4)],cE:=[(4,[.lk .str,.lk .sl])]},ex:=0}
def KC:Code:=dL (dy Tryz.f138) 2
def J8:List (Nat×LI):=[(2,FZ)]
def Kc(a0_0:ByteArray)(a0_1:AV)(a1:AV):Tree :=
 NL a1<|.loop KC FZ [a1,VI (IntKind.wrap .i64 ((a1.aS.length:Int)-1))] [.cells [VS a0_0,a0_1],.cells [VS (mk []),.v (.slice none 0 0)]] (fun y1 q1=>NL (y1.hA)<|.al ((q1.hO)=.cells (q1.hO).cs)<|.al (af [.lk .str,.lk .sl] ((q1.hO).cs) 0 q1.tail)<|.al (((q1.tail.drop 0).hO)=.cells ((q1.tail.drop 0).hO).cs)<|.al (af [.lk .str,.lk .sl] (((q1.tail.drop 0).hO).cs) 0 ((q1.tail.drop 0).tail))<|.done 0 [.cx [.agg [VS (((q1.hO).cs.getD 0 .any).ag),((q1.hO).cs.getD 1 .any)],(y1.hA)]] []) (fun y1 q1=>NL (y1.hA)<|.al ((q1.hO)=.cells (q1.hO).cs)<|.al (af [.lk .str,.lk .sl] ((q1.hO).cs) 0 q1.tail)<|.done 0 [.cx [.agg [VS (((q1.hO).cs.getD 0 .any).ag),((q1.hO).cs.getD 1 .any)],(y1.hA)]] [])
theorem MR(a0_0:ByteArray)(a0_1:AV)(a1:AV)(ha0_1:LK.has .sl a0_1)(ha1:LK.has .sl a1)(h:dT 34 (Kc a0_0 a0_1 a1) R):az Tryz.prog 138 [.agg [VS a0_0,a0_1],a1] [] R :=
 uQ (ai (cF (ai (aC _) (ai (bX ha0_1) aH))) (ai (bX ha1) aH)) (oQ J8 Tryz.f138 h)
def Gf(x1:AV)(x6:Int)(o2_0:ByteArray)(o2_1:AV)(o4_0:ByteArray)(o4_1:AV):Tree :=
 NL x1<|NI (VI x6)<|.al (Ob.cells [VS o2_0,o2_1]=.cells [VS o2_0,o2_1])<|.al (af [.lk .str,.lk .sl] [VS o2_0,o2_1] 0 [.cells [VS o4_0,o4_1]])<|.al (Ob.cells [VS o4_0,o4_1]=.cells [VS o4_0,o4_1])<|.al (af [.lk .str,.lk .sl] [VS o4_0,o4_1] 0 [])<|.test (decide (x6≥(0:Int))) (NG x1 x6 4<|nw (x1.ix x6)<|.test (ae (((x1.ix x6).hA).ag)==ae o2_0) (NG x1 x6 4<|NE ((x1.ix x6).drop 1)<|NG x1 x6 4<|rG ((x1.ix x6).drop 3)<|.done 2 [(((x1.ix x6).drop 3).hA)] [.cells [VS ((((x1.ix x6).drop 1).getD 0 .any).ag),(((x1.ix x6).drop 1).getD 1 .any)]]) (.done 0 [x1,VI (IntKind.wrap .i64 (x6-1))] [.cells [VS o2_0,o2_1],.cells [VS o4_0,o4_1]])) (.done 1 [x1] [.cells [VS o2_0,o2_1],.cells [VS o4_0,o4_1]])
abbrev E3:=cP Tryz.prog 34 KC FZ
theorem J5(x1:AV)(x6:Int)(o2_0:ByteArray)(o2_1:AV)(o4_0:ByteArray)(o4_1:AV)(h:n9 34 (Gf x1 x6 o2_0 o2_1 o4_0 o4_1) E3 U):E3 [x1,VI x6] [.cells [VS o2_0,o2_1],.cells [VS o4_0,o4_1]] U :=
 gQ J8 h
def Iw(a0_0:ByteArray)(a0_1:AV)(a1:AV):Tree :=
 NG a0_1 2 2<|NE (a0_1.ix (2:Int))<|.al (LK.has .sl a1/\cT 4 a1.aS/\((([]:List (List AV)).length)+a1.aS.length)*80<=140737488355328)<|NG a0_1 1 2<|nw (a0_1.ix (1:Int))<|.al (cT 4 [[VS (((a0_1.ix (1:Int)).hA).ag),VS a0_0,a0_1,a1]]/\(((([]:List (List AV))++a1.aS).length)+([[VS (((a0_1.ix (1:Int)).hA).ag),VS a0_0,a0_1,a1]]:List (List AV)).length)*80<=140737488355328)<|.done 0 [.cx [.agg [VS (((a0_1.ix (2:Int)).getD 0 .any).ag),((a0_1.ix (2:Int)).getD 1 .any)],.sl ((([]:List (List AV))++a1.aS)++([[VS (((a0_1.ix (1:Int)).hA).ag),VS a0_0,a0_1,a1]]:List (List AV)))]] []
theorem MS(a0_0:ByteArray)(a0_1:AV)(a1:AV)(ha0_1:LK.has .sl a0_1)(ha1:LK.has .sl a1)(h:dT 23 (Iw a0_0 a0_1 a1) R):az Tryz.prog 139 [.agg [VS a0_0,a0_1],a1] [] R :=
 uQ (ai (cF (ai (aC _) (ai (bX ha0_1) aH))) (ai (bX ha1) aH)) (oQ [] Tryz.f139 h)
def KH(a0:AV)(a1:ByteArray):Tree :=
 .call 157 [.ref 0 0,a0,VS a1] [.cells [VI 0,VB false]] fun r1 o1=>.al ((o1.hO)=.cells (o1.hO).cs)<|.al (aN [.lk (.int .i64),.lk .bool] ((o1.hO).cs) 0 1 o1.tail)<|NP r1<|.done 0 [.cx [r1,VB (!(((o1.hO).cs.getD 1 .any).toBool))]] []
theorem LB(a0:AV)(a1:ByteArray)(ha0:LK.has .ptr a0)(h:dT 20 (KH a0 a1) R):az Tryz.prog 141 [a0,VS a1] [] R :=
 uQ (ai (ci ha0) (ai (aC _) aH)) (oQ [] Tryz.f141 h)
def Gi:LI:={hd:={cd:=[(0,.k .sl),(1,.k .str),(5,.k (.int .i64))]},xs:={},rt:={cd:=[(4,.k .bool)]},ex:=0}
def Jt:Code:=dL (dy Tryz.f142) 2
def Jn:List (Nat×LI):=[(2,Gi)]
def J6(a0:AV)(a1:ByteArray):Tree :=
 .loop Jt Gi [a0,VS a1,VI 0] [] (fun y1 q1=>.done 0 [VB false] []) (fun y1 q1=>NB (y1.hA)<|.done 0 [VB ((y1.hA).toBool)] [])
theorem LA(a0:AV)(a1:ByteArray)(ha0:LK.has .sl a0)(h:dT 18 (J6 a0 a1) R):az Tryz.prog 142 [a0,VS a1] [] R :=
 uQ (ai (bX ha0) (ai (aC _) aH)) (oQ Jn Tryz.f142 h)
def Es(x0:AV)(x1:ByteArray)(x5:Int):Tree :=
 NL x0<|NS (VS x1)<|NI (VI x5)<|NL x0<|.test (decide (x5<(x0.aS.length:Int))) (NG x0 x5 1<|nw (x0.ix x5)<|.test (ae (((x0.ix x5).hA).ag)==ae x1) (.done 2 [VB true] []) (.done 0 [x0,VS x1,VI (IntKind.wrap .i64 (x5+1))] [])) (.done 1 [] [])
abbrev DU:=cP Tryz.prog 18 Jt Gi
theorem JD(x0:AV)(x1:ByteArray)(x5:Int)(h:n9 18 (Es x0 x1 x5) DU U):DU [x0,VS x1,VI x5] [] U :=
 gQ Jn h
def Iu(a0:AV)(a1:ByteArray):Tree :=
 .al (LK.has .sl a0/\cT 1 a0.aS/\((([]:List (List AV)).length)+a0.aS.length)*16<=140737488355328)<|.al (cT 1 [[VS a1]]/\(((([]:List (List AV))++a0.aS).length)+([[VS a1]]:List (List AV)).length)*16<=140737488355328)<|.done 0 [.sl ((([]:List (List AV))++a0.aS)++([[VS a1]]:List (List AV)))] []
theorem Ll(a0:AV)(a1:ByteArray)(ha0:LK.has .sl a0)(h:dT 11 (Iu a0 a1) R):az Tryz.prog 143 [a0,VS a1] [] R :=
 uQ (ai (bX ha0) (ai (aC _) aH)) (oQ [] Tryz.f143 h)
def Ep:LI:={hd:={cd:=[(0,.k .str),(7,.k (.int .i64))]},xs:={},rt:={cd:=[(6,.k .bool)]},ex:=0}
def Jf:Code:=dL (dy Tryz.f144) 4
def Jy:List (Nat×LI):=[(4,Ep)]
def II(a0:ByteArray)(a1:Int)(a2:Int):Tree :=
 .call 87 [VI (ac a0:Int),VI 1,VI 3] [] fun r1 o1=>NB r1<|.test (!r1.toBool) (.done 0 [VB false] []) (.al (0<=(0:Int)/\(0:Int)<ac a0)<|.test (decide ((bt a0 0)<a1)) (.done 0 [VB false] []) (.al (0<=(0:Int)/\(0:Int)<ac a0)<|.test (decide ((bt a0 0)>a2)) (.done 0 [VB false] []) (.loop Jf Ep [VS a0,VI 1] [] (fun y2 q2=>.done 0 [VB true] []) (fun y2 q2=>NB (y2.hA)<|.done 0 [VB ((y2.hA).toBool)] []))))
theorem Mz(a0:ByteArray)(a1:Int)(a2:Int)(h:dT 40 (II a0 a1 a2) R):az Tryz.prog 144 [VS a0,.v (.int .u8 a1),.v (.int .u8 a2)] [] R :=
 uQ (ai (aC _) (ai (aC _) (ai (aC _) aH))) (oQ Jy Tryz.f144 h)
def F8(x0:ByteArray)(x7:Int):Tree :=
 NS (VS x0)<|NI (VI x7)<|.test (decide (x7<(ac x0:Int))) (.al (0<=x7/\x7<ac x0)<|.test (decide ((bt x0 x7)<(48:Int))) (.done 2 [VB false] []) (.al (0<=x7/\x7<ac x0)<|.test (decide ((bt x0 x7)>(57:Int))) (.done 2 [VB false] []) (.done 0 [VS x0,VI (IntKind.wrap .i64 (x7+1))] []))) (.done 1 [] [])
abbrev D2:=cP Tryz.prog 40 Jf Ep
theorem JT(x0:ByteArray)(x7:Int)(h:n9 40 (F8 x0 x7) D2 U):D2 [VS x0,VI x7] [] U :=
 gQ Jy h
def DY:LI:={hd:={cd:=[(17,.k (.int .i64))],refs:=[(4,4),(12,12),(14,14)],cE:=[(4,[.lk .str,.lk .sl]),(12,[.lk .str,.lk .sl]),(14,[.lk .str,.lk .sl])],eS:=[(16,1)]},xs:={cd:=[(17,.k (.int .i64))],refs:=[(4,4),(12,12),(14,14)],cE:=[(4,[.lk .str,.lk .sl]),(12,[.lk .str,.lk .sl]),(14,[.lk .str,.lk .sl])]},rt:={},ex:=0}
def Ho:Code:=dL (dy Tryz.f145) 13
def Iq:List (Nat×LI):=[(13,DY)]
def Ki(a0_0:ByteArray)(a0_1:AV)(a1:ByteArray):Tree :=
 .call 78 [.agg [VS a0_0,a0_1],.sl [[VS a1,.v (.slice none 0 0)]]] [] fun r1 o1=>NA r1<|NG (r1.cs.getD 1 .any) 1 2<|nw ((r1.cs.getD 1 .any).ix (1:Int))<|NG (r1.cs.getD 1 .any) 2 2<|NE ((r1.cs.getD 1 .any).ix (2:Int))<|.call 101 [.agg [VS ((((r1.cs.getD 1 .any).ix (2:Int)).getD 0 .any).ag),(((r1.cs.getD 1 .any).ix (2:Int)).getD 1 .any)],VS a1] [] fun r2 o2=>NT r2<|.al ((r2.comp 0)=.agg (r2.comp 0).cs/\(r2.comp 0).cs.length=2/\bT [.str,.sl] ((r2.comp 0).cs) 0)<|NB (r2.comp 1)<|NG (r1.cs.getD 1 .any) 2 2<|NE ((r1.cs.getD 1 .any).ix (2:Int))<|.call 101 [.agg [VS ((((r1.cs.getD 1 .any).ix (2:Int)).getD 0 .any).ag),(((r1.cs.getD 1 .any).ix (2:Int)).getD 1 .any)],VS ((((r1.cs.getD 1 .any).ix (1:Int)).hA).ag)] [] fun r3 o3=>NT r3<|.al ((r3.comp 0)=.agg (r3.comp 0).cs/\(r3.comp 0).cs.length=2/\bT [.str,.sl] ((r3.comp 0).cs) 0)<|NB (r3.comp 1)<|.test (!((r2.comp 1).toBool)) (.done 0 [.cx [.agg [VS ((r1.cs.getD 0 .any).ag),(r1.cs.getD 1 .any)],VB false]] []) (.test (!((r3.comp 1).toBool)) (.done 0 [.cx [.agg [VS ((r1.cs.getD 0 .any).ag),(r1.cs.getD 1 .any)],VB false]] []) (.call 161 [.agg [VS (((r2.comp 0).cs.getD 0 .any).ag),((r2.comp 0).cs.getD 1 .any)],VS ((((r1.cs.getD 1 .any).ix (1:Int)).hA).ag),.agg [VS ((r1.cs.getD 0 .any).ag),(r1.cs.getD 1 .any)]] [] fun r4 o4=>NT r4<|.al ((r4.comp 0)=.agg (r4.comp 0).cs/\(r4.comp 0).cs.length=2/\bT [.str,.sl] ((r4.comp 0).cs) 0)<|NB (r4.comp 1)<|.call 161 [.agg [VS (((r3.comp 0).cs.getD 0 .any).ag),((r3.comp 0).cs.getD 1 .any)],VS ((((r1.cs.getD 1 .any).ix (1:Int)).hA).ag),.agg [VS ((r1.cs.getD 0 .any).ag),(r1.cs.getD 1 .any)]] [] fun r5 o5=>NT r5<|.al ((r5.comp 0)=.agg (r5.comp 0).cs/\(r5.comp 0).cs.length=2/\bT [.str,.sl] ((r5.comp 0).cs) 0)<|NB (r5.comp 1)<|.test (!((r4.comp 1).toBool)) (.done 0 [.cx [.agg [VS ((r1.cs.getD 0 .any).ag),(r1.cs.getD 1 .any)],VB false]] []) (.test (!((r5.comp 1).toBool)) (.done 0 [.cx [.agg [VS ((r1.cs.getD 0 .any).ag),(r1.cs.getD 1 .any)],VB false]] []) (.call 98 [.agg [VS (((r5.comp 0).cs.getD 0 .any).ag),((r5.comp 0).cs.getD 1 .any)],.sl [],.vec 0] [.vec 1 []] fun r6 o6=>.al (r6=.vec 1/\(o6.tail.hO)=.vec 1 (o6.tail.hO).es)<|.call 98 [.agg [VS (((r4.comp 0).cs.getD 0 .any).ag),((r4.comp 0).cs.getD 1 .any)],.sl [],.vec 0] [.vec 1 ((o6.tail.hO).es)] fun r7 o7=>.al (r7=.vec 1/\(o7.tail.hO)=.vec 1 (o7.tail.hO).es)<|.loop Ho DY [VI 0] [.cells [VS (mk []),.v (.slice none 0 0)],.cells [VS (((r4.comp 0).cs.getD 0 .any).ag),((r4.comp 0).cs.getD 1 .any)],.cells [VS (((r5.comp 0).cs.getD 0 .any).ag),((r5.comp 0).cs.getD 1 .any)],.vec 1 ((o7.tail.hO).es)] (fun y10 q10=>NI (y10.hA)<|.al ((q10.hO)=.cells (q10.hO).cs)<|.al (af [.lk .str,.lk .sl] ((q10.hO).cs) 0 q10.tail)<|.al (((q10.tail.drop 0).hO)=.cells ((q10.tail.drop 0).hO).cs)<|.al (af [.lk .str,.lk .sl] (((q10.tail.drop 0).hO).cs) 0 ((q10.tail.drop 0).tail))<|.al ((((q10.tail.drop 0).tail.drop 0).hO)=.cells (((q10.tail.drop 0).tail.drop 0).hO).cs)<|.al (af [.lk .str,.lk .sl] ((((q10.tail.drop 0).tail.drop 0).hO).cs) 0 (((q10.tail.drop 0).tail.drop 0).tail))<|.call 54 [VI ((y10.hA).toInt)] [] fun r11 o11=>NS r11<|.al (ac (mk [116])+ac r11.ag<=9223372036854775807)<|.call 69 [VS (mk [42]),.sl [[VS (((q10.tail.tail.hO).cs.getD 0 .any).ag),((q10.tail.tail.hO).cs.getD 1 .any)],[VS (((mk [116]):ByteArray)++r11.ag),.v (.slice none 0 0)]]] [] fun r12 o12=>NA r12<|.call 69 [VS (mk [43]),.sl [[VS (((q10.tail.hO).cs.getD 0 .any).ag),((q10.tail.hO).cs.getD 1 .any)],[VS ((r12.cs.getD 0 .any).ag),(r12.cs.getD 1 .any)]]] [] fun r13 o13=>NA r13<|.call 69 [VS (mk [114,101,99]),.sl [[VS (((mk [116]):ByteArray)++r11.ag),.v (.slice none 0 0)],[VS ((r13.cs.getD 0 .any).ag),(r13.cs.getD 1 .any)]]] [] fun r14 o14=>NA r14<|.call 129 [.agg [VS ((r14.cs.getD 0 .any).ag),(r14.cs.getD 1 .any)]] [] fun r15 o15=>NI r15<|.done 0 [.cx [.agg [VS ((r14.cs.getD 0 .any).ag),(r14.cs.getD 1 .any)],VB (decide (r15.toInt<=(400:Int)))]] []) (fun y10 q10=>.fail)))))
theorem M9(a0_0:ByteArray)(a0_1:AV)(a1:ByteArray)(ha0_1:LK.has .sl a0_1)(h:dT 108 (Ki a0_0 a0_1 a1) R):az Tryz.prog 145 [.agg [VS a0_0,a0_1],VS a1] [] R :=
 uQ (ai (cF (ai (aC _) (ai (bX ha0_1) aH))) (ai (aC _) aH)) (oQ Iq Tryz.f145 h)
def HO(x17:Int)(o4_0:ByteArray)(o4_1:AV)(o12_0:ByteArray)(o12_1:AV)(o14_0:ByteArray)(o14_1:AV)(e16:List (List AV)):Tree :=
 NI (VI x17)<|.al (Ob.cells [VS o4_0,o4_1]=.cells [VS o4_0,o4_1])<|.al (af [.lk .str,.lk .sl] [VS o4_0,o4_1] 0 [.cells [VS o12_0,o12_1],.cells [VS o14_0,o14_1],.vec 1 e16])<|.al (Ob.cells [VS o12_0,o12_1]=.cells [VS o12_0,o12_1])<|.al (af [.lk .str,.lk .sl] [VS o12_0,o12_1] 0 [.cells [VS o14_0,o14_1],.vec 1 e16])<|.al (Ob.cells [VS o14_0,o14_1]=.cells [VS o14_0,o14_1])<|.al (af [.lk .str,.lk .sl] [VS o14_0,o14_1] 0 [.vec 1 e16])<|.al (Ob.vec 1 e16=.vec 1 e16)<|.call 54 [VI x17] [] fun r1 o1=>NS r1<|.al (ac (mk [116])+ac r1.ag<=9223372036854775807)<|.call 142 [.sl e16,VS (((mk [116]):ByteArray)++r1.ag)] [] fun r2 o2=>NB r2<|.test r2.toBool (.done 0 [VI (IntKind.wrap .i64 (x17+1))] [.cells [VS o4_0,o4_1],.cells [VS o12_0,o12_1],.cells [VS o14_0,o14_1],.vec 1 e16]) (.done 1 [VI x17] [.cells [VS o4_0,o4_1],.cells [VS o12_0,o12_1],.cells [VS o14_0,o14_1]])
abbrev E4:=cP Tryz.prog 108 Ho DY
theorem KV(x17:Int)(o4_0:ByteArray)(o4_1:AV)(o12_0:ByteArray)(o12_1:AV)(o14_0:ByteArray)(o14_1:AV)(e16:List (List AV))(h:n9 108 (HO x17 o4_0 o4_1 o12_0 o12_1 o14_0 o14_1 e16) E4 U):E4 [VI x17] [.cells [VS o4_0,o4_1],.cells [VS o12_0,o12_1],.cells [VS o14_0,o14_1],.vec 1 e16] U :=
 gQ Iq h
def JJ(a0:ByteArray):Tree :=
 .call 82 [VS a0] [] fun r1 o1=>NT r1<|.al ((r1.comp 0)=.agg (r1.comp 0).cs/\(r1.comp 0).cs.length=2/\bT [.str,.sl] ((r1.comp 0).cs) 0)<|NB (r1.comp 1)<|.done 0 [VB ((r1.comp 1).toBool)] []
theorem Ns(a0:ByteArray)(h:dT 11 (JJ a0) R):az Tryz.prog 146 [VS a0] [] R :=
 uQ (ai (aC _) aH) (oQ [] Tryz.f146 h)
def EY:LI:={hd:={cd:=[(0,.k .str),(1,.k (.int .i64)),(6,.k (.int .i64))]},xs:={cd:=[(0,.k .str),(1,.k (.int .i64)),(6,.k (.int .i64))]},rt:={},ex:=0}
def I8:Code:=dL (dy Tryz.f147) 2
def Ew:LI:={hd:={cd:=[(0,.k .str),(1,.k (.int .i64)),(7,.k .str)],refs:=[(8,48)],cE:=[(48,[.lk .str,.vec 1])]},xs:={},rt:={cd:=[(4,.k .ptr),(5,.k .str)]},ex:=999}
def Kz:Code:=dL (dy Tryz.f147) 10
def FM:List (Nat×LI):=[(2,EY),(10,Ew)]
def F4(a0:ByteArray)(a1:Int):Tree :=
 .loop I8 EY [VS a0,VI a1,VI 0] [] (fun y2 q2=>NS (y2.hA)<|NI (y2.tail.hA)<|NI (y2.tail.tail.hA)<|.test (decide (((y2.tail.tail.hA).toInt)>(0:Int))) (.al (0<=(0:Int)/\(0:Int)<=((y2.tail.tail.hA).toInt)/\((y2.tail.tail.hA).toInt)<=(ac ((y2.hA).ag):Int))<|.al (0<=((y2.tail.tail.hA).toInt)/\((y2.tail.tail.hA).toInt)<=(ac ((y2.hA).ag):Int)/\(ac ((y2.hA).ag):Int)<=(ac ((y2.hA).ag):Int))<|.done 0 [.cx [.ptr [VS (bP ((y2.hA).ag) (bM 0) (bM ((y2.tail.tail.hA).toInt))),.v (.slice none 0 0)],VS (bP ((y2.hA).ag) (bM ((y2.tail.tail.hA).toInt)) (bM (ac ((y2.hA).ag):Int)))]] []) (.test (ae ((y2.hA).ag)==ae (mk [])) (.done 0 [.cx [.v (.pointer none),VS ((y2.hA).ag)]] []) (.al (0<=(0:Int)/\(0:Int)<ac ((y2.hA).ag))<|.test ((bt ((y2.hA).ag) 0) != (40:Int)) (.done 0 [.cx [.v (.pointer none),VS ((y2.hA).ag)]] []) (.test (((y2.tail.hA).toInt)==(300:Int)) (.done 0 [.cx [.v (.pointer none),VS ((y2.hA).ag)]] []) (.al (0<=(1:Int)/\(1:Int)<=(ac ((y2.hA).ag):Int)/\(ac ((y2.hA).ag):Int)<=(ac ((y2.hA).ag):Int))<|.loop Kz Ew [VS ((y2.hA).ag),VI ((y2.tail.hA).toInt),VS (bP ((y2.hA).ag) (bM 1) (bM (ac ((y2.hA).ag):Int)))] [.cells [VS (mk []),.any],.vec 1 []] (fun y5 q5=>.fail) (fun y5 q5=>NP (y5.hA)<|NS (y5.tail.hA)<|.done 0 [.cx [(y5.hA),VS ((y5.tail.hA).ag)]] [])))))) (fun y2 q2=>.done 0 [.cx [.any,.any]] [])
theorem JO(a0:ByteArray)(a1:Int)(h:dT 84 (F4 a0 a1) R):az Tryz.prog 147 [VS a0,VI a1] [] R :=
 uQ (ai (aC _) (ai (aC _) aH)) (oQ FM Tryz.f147 h)
def F1(x0:ByteArray)(x1:Int)(x6:Int):Tree :=
 NS (VS x0)<|NI (VI x1)<|NI (VI x6)<|.test (decide (x6<(ac x0:Int))) (.al (0<=x6/\x6<ac x0)<|.call 174 [.v (.int .u8 (bt x0 x6))] [] fun r1 o1=>NB r1<|.test r1.toBool (.done 0 [VS x0,VI x1,VI (IntKind.wrap .i64 (x6+1))] []) (.done 1 [VS x0,VI x1,VI x6] [])) (.done 1 [VS x0,VI x1,VI x6] [])
abbrev DX:=cP Tryz.prog 84 I8 EY
theorem Jd(x0:ByteArray)(x1:Int)(x6:Int)(h:n9 84 (F1 x0 x1 x6) DX U):DX [VS x0,VI x1,VI x6] [] U :=
 gQ FM h
def Jv(x0:ByteArray)(x1:Int)(x7:ByteArray)(o48_0:ByteArray)(o48_1:List (List AV)):Tree :=
 NS (VS x0)<|NI (VI x1)<|NS (VS x7)<|.al (Ob.cells [VS o48_0,.any]=.cells [VS o48_0,.any])<|.al (af [.lk .str,.vec 1] [VS o48_0,.any] 0 [.vec 1 o48_1])<|.call 147 [VS x7,VI (IntKind.wrap .i64 (x1+1))] [] fun r1 o1=>NT r1<|NP (r1.comp 0)<|NS (r1.comp 1)<|NP (r1.comp 0)<|.test ((r1.comp 0).isNil) (.done 2 [.v (.pointer none),VS x0] []) (.test (ae ((r1.comp 1).ag)==ae (mk [])) (.done 2 [.v (.pointer none),VS x0] []) (.al (cT 1 [[(r1.comp 0)]]/\((o48_1.length)+([[(r1.comp 0)]]:List (List AV)).length)*8<=140737488355328)<|.al (0<=(1:Int)/\(1:Int)<=(ac ((r1.comp 1).ag):Int)/\(ac ((r1.comp 1).ag):Int)<=(ac ((r1.comp 1).ag):Int))<|.al (0<=(0:Int)/\(0:Int)<ac ((r1.comp 1).ag))<|.test ((bt ((r1.comp 1).ag) 0)==(41:Int)) (.done 2 [.ptr [VS o48_0,.sl (o48_1++([[(r1.comp 0)]]:List (List AV)))],VS (bP ((r1.comp 1).ag) (bM 1) (bM (ac ((r1.comp 1).ag):Int)))] []) (.al (0<=(0:Int)/\(0:Int)<ac ((r1.comp 1).ag))<|.test ((bt ((r1.comp 1).ag) 0) != (32:Int)) (.done 2 [.v (.pointer none),VS x0] []) (.done 0 [VS x0,VI x1,VS (bP ((r1.comp 1).ag) (bM 1) (bM (ac ((r1.comp 1).ag):Int)))] [.cells [VS o48_0,.any],.vec 1 (o48_1++([[(r1.comp 0)]]:List (List AV)))]))))
abbrev Fb:=cP Tryz.prog 84 Kz Ew
theorem Ms(x0:ByteArray)(x1:Int)(x7:ByteArray)(o48_0:ByteArray)(o48_1:List (List AV))(h:n9 84 (Jv x0 x1 x7 o48_0 o48_1) Fb U):Fb [VS x0,VI x1,VS x7] [.cells [VS o48_0,.any],.vec 1 o48_1] U :=
 gQ FM h
def Ik(a0:ByteArray):Tree :=
 .test (decide ((ac a0:Int)<(2:Int))) (.done 0 [VB false] []) (.test (decide ((ac a0:Int)>(3:Int))) (.done 0 [VB false] []) (.al (0<=(0:Int)/\(0:Int)<ac a0)<|.test ((bt a0 0) != (101:Int)) (.done 0 [VB false] []) (.al (0<=(1:Int)/\(1:Int)<=(ac a0:Int)/\(ac a0:Int)<=(ac a0:Int))<|.call 152 [VS (bP a0 (bM 1) (bM (ac a0:Int))),VS (mk [48,49,50,51,52,53,54,55,56,57])] [] fun r1 o1=>NS r1<|.test (!(ae r1.ag==ae (mk []))) (.done 0 [VB false] []) (.test ((ac a0:Int)==(2:Int)) (.done 0 [VB true] []) (.al (0<=(1:Int)/\(1:Int)<ac a0)<|.done 0 [VB ((bt a0 1) != (48:Int))] [])))))
theorem Mn(a0:ByteArray)(h:dT 30 (Ik a0) R):az Tryz.prog 148 [VS a0] [] R :=
 uQ (ai (aC _) aH) (oQ [] Tryz.f148 h)
def At(a0:AV)(a1:ByteArray)(a2:Int):Tree :=
 NZ a0<|NZ a0<|rG (a0.deref.drop 1)<|NL ((a0.deref.drop 1).hA)<|.test (((((a0.deref.drop 1).hA).aS).length:Int)==a2) (NZ a0<|NZ a0<|rG (a0.deref.drop 1)<|NG ((a0.deref.drop 1).hA) 0 1<|eF (((a0.deref.drop 1).hA).ix (0:Int))<|NZ ((((a0.deref.drop 1).hA).ix (0:Int)).hA)<|NZ ((((a0.deref.drop 1).hA).ix (0:Int)).hA)<|.al (LK.has .str (((((a0.deref.drop 1).hA).ix (0:Int)).hA).deref.hA)/\1<=(((((a0.deref.drop 1).hA).ix (0:Int)).hA).deref).length)<|.done 0 [VB (ae ((((((a0.deref.drop 1).hA).ix (0:Int)).hA).deref.hA).ag)==ae a1)] []) (.done 0 [VB false] [])
theorem KE(a0:AV)(a1:ByteArray)(a2:Int)(ha0:LK.has .ptr a0)(h:dT 27 (At a0 a1 a2) R):az Tryz.prog 149 [a0,VS a1,VI a2] [] R :=
 uQ (ai (ci ha0) (ai (aC _) (ai (aC _) aH))) (oQ [] Tryz.f149 h)
def D0:LI:={hd:={cd:=[(0,.k .sl),(1,.k .str),(7,.k (.int .i64))],eS:=[(2,4)]},xs:={eS:=[(2,4)]},rt:={},ex:=0}
def Kv:Code:=dL (dy Tryz.f150) 2
def IY:List (Nat×LI):=[(2,D0)]
def Gy(a0:AV)(a1:ByteArray)(e2:List (List AV)):Tree :=
 .loop Kv D0 [a0,VS a1,VI 0] [.vec 4 e2] (fun y2 q2=>.al (((q2.drop 0).hO)=.vec 4 ((q2.drop 0).hO).es)<|.done 0 [.vec 1] [.dead,.vec 4 ((q2.hO).es)]) (fun y2 q2=>.fail)
theorem LZ(a0:AV)(a1:ByteArray)(e2:List (List AV))(ha0:LK.has .sl a0)(h:dT 32 (Gy a0 a1 e2) R):az Tryz.prog 150 [a0,VS a1,.vec 0] [.vec 4 e2] R :=
 az.rL (cu (mn _) dr) (az.up (ai (bX ha0) (ai (aC _) (ai (aC _) aH))) (oF IY {mu:=[(2,.one (.vec))],own:=[0]} Tryz.f150 h))
def EZ(x0:AV)(x1:ByteArray)(x7:Int)(e2:List (List AV)):Tree :=
 NL x0<|NS (VS x1)<|NI (VI x7)<|.al (Ob.vec 4 e2=.vec 4 e2)<|NL x0<|.test (decide (x7<(x0.aS.length:Int))) (NG x0 x7 4<|NE (x0.ix x7)<|.call 69 [VS x1,.sl [[VS (((x0.ix x7).getD 0 .any).ag),((x0.ix x7).getD 1 .any)]]] [] fun r1 o1=>NA r1<|NG x0 x7 4<|NE ((x0.ix x7).drop 2)<|.al (cT 4 [[VS ((r1.cs.getD 0 .any).ag),(r1.cs.getD 1 .any),VS ((((x0.ix x7).drop 2).getD 0 .any).ag),(((x0.ix x7).drop 2).getD 1 .any)]]/\((e2.length)+([[VS ((r1.cs.getD 0 .any).ag),(r1.cs.getD 1 .any),VS ((((x0.ix x7).drop 2).getD 0 .any).ag),(((x0.ix x7).drop 2).getD 1 .any)]]:List (List AV)).length)*80<=140737488355328)<|.done 0 [x0,VS x1,VI (IntKind.wrap .i64 (x7+1))] [.vec 4 (e2++([[VS ((r1.cs.getD 0 .any).ag),(r1.cs.getD 1 .any),VS ((((x0.ix x7).drop 2).getD 0 .any).ag),(((x0.ix x7).drop 2).getD 1 .any)]]:List (List AV)))]) (.done 1 [] [.vec 4 e2])
abbrev EA:=cP Tryz.prog 32 Kv D0
theorem I1(x0:AV)(x1:ByteArray)(x7:Int)(e2:List (List AV))(h:n9 32 (EZ x0 x1 x7 e2) EA U):EA [x0,VS x1,VI x7] [.vec 4 e2] U :=
 gQ IY h
def Fm:LI:={hd:={cd:=[(0,.k .ptr),(1,.k .sl),(5,.k (.int .i64))]},xs:={cd:=[(0,.k .ptr)]},rt:={refs:=[(4,69)],cE:=[(69,[.lk (.int .u8),.lk .str,.lk (.int .i64),.lk .ptr,.lk .ptr])]},ex:=1}
def HQ:Code:=dL (dy Tryz.f153) 7
def GF:List (Nat×LI):=[(7,Fm)]
def FQ(a0:AV)(a1:AV):Tree :=
 NZ a0<|NZ a0<|.al (LK.has .str (a0.deref.hA)/\1<=a0.deref.length)<|.test (ae ((a0.deref.hA).ag)==ae (mk [48])) (NZ a0<|NZ a0<|.al (LK.has .str (a0.deref.hA)/\1<=a0.deref.length)<|.al (0<=(0:Int)/\(0:Int)<ac ((a0.deref.hA).ag))<|.done 0 [.ptr [.v (.int .u8 (bt ((a0.deref.hA).ag) 0)),VS (mk []),VI 0,.v (.pointer none),.v (.pointer none)]] []) (NZ a0<|NZ a0<|.al (LK.has .str (a0.deref.hA)/\1<=a0.deref.length)<|.test (ae ((a0.deref.hA).ag)==ae (mk [49])) (NZ a0<|NZ a0<|.al (LK.has .str (a0.deref.hA)/\1<=a0.deref.length)<|.al (0<=(0:Int)/\(0:Int)<ac ((a0.deref.hA).ag))<|.done 0 [.ptr [.v (.int .u8 (bt ((a0.deref.hA).ag) 0)),VS (mk []),VI 0,.v (.pointer none),.v (.pointer none)]] []) (NZ a0<|NZ a0<|.al (LK.has .str (a0.deref.hA)/\1<=a0.deref.length)<|.call 59 [VS ((a0.deref.hA).ag)] [] fun r1 o1=>NB r1<|.test r1.toBool (NZ a0<|NZ a0<|.al (LK.has .str (a0.deref.hA)/\1<=a0.deref.length)<|.done 0 [.ptr [.v (.int .u8 110),VS ((a0.deref.hA).ag),VI 0,.v (.pointer none),.v (.pointer none)]] []) (NZ a0<|NZ a0<|.al (LK.has .str (a0.deref.hA)/\1<=a0.deref.length)<|.call 166 [VS ((a0.deref.hA).ag)] [] fun r2 o2=>NB r2<|.test r2.toBool (NL a1<|.loop HQ Fm [a0,a1,VI (IntKind.wrap .i64 ((a1.aS.length:Int)-1))] [] (fun y3 q3=>NP (y3.hA)<|NZ (y3.hA)<|NZ (y3.hA)<|.al (LK.has .str ((y3.hA).deref.hA)/\1<=((y3.hA).deref).length)<|.done 0 [.ptr [.v (.int .u8 110),VS (((y3.hA).deref.hA).ag),VI 0,.v (.pointer none),.v (.pointer none)]] []) (fun y3 q3=>.al ((q3.hO)=.cells (q3.hO).cs)<|.al (af [.lk (.int .u8),.lk .str,.lk (.int .i64),.lk .ptr,.lk .ptr] ((q3.hO).cs) 0 q3.tail)<|.done 0 [.ptr [.v (.int .u8 (((q3.hO).cs.getD 0 .any).toInt)),VS (((q3.hO).cs.getD 1 .any).ag),VI (((q3.hO).cs.getD 2 .any).toInt),((q3.hO).cs.getD 3 .any),((q3.hO).cs.getD 4 .any)]] [])) (.call 149 [a0,VS (mk [43]),VI 3] [] fun r4 o4=>NB r4<|.test r4.toBool (NZ a0<|NZ a0<|rG (a0.deref.drop 1)<|NG ((a0.deref.drop 1).hA) 1 1<|eF (((a0.deref.drop 1).hA).ix (1:Int))<|.call 153 [((((a0.deref.drop 1).hA).ix (1:Int)).hA),a1] [] fun r5 o5=>NP r5<|NZ a0<|NZ a0<|rG (a0.deref.drop 1)<|NG ((a0.deref.drop 1).hA) 2 1<|eF (((a0.deref.drop 1).hA).ix (2:Int))<|.call 153 [((((a0.deref.drop 1).hA).ix (2:Int)).hA),a1] [] fun r6 o6=>NP r6<|NP r5<|.test r5.isNil (.done 0 [.v (.pointer none)] []) (NP r6<|.test r6.isNil (.done 0 [.v (.pointer none)] []) (NZ a0<|NZ a0<|rG (a0.deref.drop 1)<|NG ((a0.deref.drop 1).hA) 0 1<|eF (((a0.deref.drop 1).hA).ix (0:Int))<|NZ ((((a0.deref.drop 1).hA).ix (0:Int)).hA)<|NZ ((((a0.deref.drop 1).hA).ix (0:Int)).hA)<|.al (LK.has .str (((((a0.deref.drop 1).hA).ix (0:Int)).hA).deref.hA)/\1<=(((((a0.deref.drop 1).hA).ix (0:Int)).hA).deref).length)<|.al (0<=(0:Int)/\(0:Int)<ac ((((((a0.deref.drop 1).hA).ix (0:Int)).hA).deref.hA).ag))<|.done 0 [.ptr [.v (.int .u8 (bt ((((((a0.deref.drop 1).hA).ix (0:Int)).hA).deref.hA).ag) 0)),VS (mk []),VI 0,r5,r6]] []))) (.call 149 [a0,VS (mk [42]),VI 3] [] fun r7 o7=>NB r7<|.test r7.toBool (NZ a0<|NZ a0<|rG (a0.deref.drop 1)<|NG ((a0.deref.drop 1).hA) 1 1<|eF (((a0.deref.drop 1).hA).ix (1:Int))<|.call 153 [((((a0.deref.drop 1).hA).ix (1:Int)).hA),a1] [] fun r8 o8=>NP r8<|NZ a0<|NZ a0<|rG (a0.deref.drop 1)<|NG ((a0.deref.drop 1).hA) 2 1<|eF (((a0.deref.drop 1).hA).ix (2:Int))<|.call 153 [((((a0.deref.drop 1).hA).ix (2:Int)).hA),a1] [] fun r9 o9=>NP r9<|NP r8<|.test r8.isNil (.done 0 [.v (.pointer none)] []) (NP r9<|.test r9.isNil (.done 0 [.v (.pointer none)] []) (NZ a0<|NZ a0<|rG (a0.deref.drop 1)<|NG ((a0.deref.drop 1).hA) 0 1<|eF (((a0.deref.drop 1).hA).ix (0:Int))<|NZ ((((a0.deref.drop 1).hA).ix (0:Int)).hA)<|NZ ((((a0.deref.drop 1).hA).ix (0:Int)).hA)<|.al (LK.has .str (((((a0.deref.drop 1).hA).ix (0:Int)).hA).deref.hA)/\1<=(((((a0.deref.drop 1).hA).ix (0:Int)).hA).deref).length)<|.al (0<=(0:Int)/\(0:Int)<ac ((((((a0.deref.drop 1).hA).ix (0:Int)).hA).deref.hA).ag))<|.done 0 [.ptr [.v (.int .u8 (bt ((((((a0.deref.drop 1).hA).ix (0:Int)).hA).deref.hA).ag) 0)),VS (mk []),VI 0,r8,r9]] []))) (.call 149 [a0,VS (mk [114,101,99]),VI 3] [] fun r10 o10=>NB r10<|.test r10.toBool (NZ a0<|NZ a0<|rG (a0.deref.drop 1)<|NG ((a0.deref.drop 1).hA) 1 1<|eF (((a0.deref.drop 1).hA).ix (1:Int))<|NZ ((((a0.deref.drop 1).hA).ix (1:Int)).hA)<|NZ ((((a0.deref.drop 1).hA).ix (1:Int)).hA)<|.al (LK.has .str (((((a0.deref.drop 1).hA).ix (1:Int)).hA).deref.hA)/\1<=(((((a0.deref.drop 1).hA).ix (1:Int)).hA).deref).length)<|.call 166 [VS ((((((a0.deref.drop 1).hA).ix (1:Int)).hA).deref.hA).ag)] [] fun r11 o11=>NB r11<|.test r11.toBool (NZ a0<|NZ a0<|rG (a0.deref.drop 1)<|NG ((a0.deref.drop 1).hA) 2 1<|eF (((a0.deref.drop 1).hA).ix (2:Int))<|.al (LK.has .sl a1/\cT 1 a1.aS/\((([]:List (List AV)).length)+a1.aS.length)*16<=140737488355328)<|NZ a0<|NZ a0<|rG (a0.deref.drop 1)<|NG ((a0.deref.drop 1).hA) 1 1<|eF (((a0.deref.drop 1).hA).ix (1:Int))<|NZ ((((a0.deref.drop 1).hA).ix (1:Int)).hA)<|NZ ((((a0.deref.drop 1).hA).ix (1:Int)).hA)<|.al (LK.has .str (((((a0.deref.drop 1).hA).ix (1:Int)).hA).deref.hA)/\1<=(((((a0.deref.drop 1).hA).ix (1:Int)).hA).deref).length)<|.al (cT 1 [[VS ((((((a0.deref.drop 1).hA).ix (1:Int)).hA).deref.hA).ag)]]/\(((([]:List (List AV))++a1.aS).length)+([[VS ((((((a0.deref.drop 1).hA).ix (1:Int)).hA).deref.hA).ag)]]:List (List AV)).length)*16<=140737488355328)<|.call 153 [((((a0.deref.drop 1).hA).ix (2:Int)).hA),.sl ((([]:List (List AV))++a1.aS)++([[VS ((((((a0.deref.drop 1).hA).ix (1:Int)).hA).deref.hA).ag)]]:List (List AV)))] [] fun r12 o12=>NP r12<|NP r12<|.test r12.isNil (.done 0 [.v (.pointer none)] []) (.done 0 [.ptr [.v (.int .u8 114),VS (mk []),VI 0,r12,.v (.pointer none)]] [])) (.done 0 [.v (.pointer none)] [])) (.done 0 [.v (.pointer none)] [])))))))
theorem GS(a0:AV)(a1:AV)(ha0:LK.has .ptr a0)(ha1:LK.has .sl a1)(h:dT 160 (FQ a0 a1) R):az Tryz.prog 153 [a0,a1] [] R :=
 uQ (ai (ci ha0) (ai (bX ha1) aH)) (oQ GF Tryz.f153 h)
def Gc(x0:AV)(x1:AV)(x5:Int):Tree :=
 NP x0<|NL x1<|NI (VI x5)<|.test (decide (x5≥(0:Int))) (NG x1 x5 1<|nw (x1.ix x5)<|NZ x0<|NZ x0<|.al (LK.has .str (x0.deref.hA)/\1<=x0.deref.length)<|.test (ae (((x1.ix x5).hA).ag)==ae ((x0.deref.hA).ag)) (NL x1<|.done 2 [] [.cells [.v (.int .u8 98),VS (mk []),VI (IntKind.wrap .i64 ((IntKind.wrap .i64 ((x1.aS.length:Int)-1))-x5)),.v (.pointer none),.v (.pointer none)]]) (.done 0 [x0,x1,VI (IntKind.wrap .i64 (x5-1))] [])) (.done 1 [x0] [])
abbrev FO:=cP Tryz.prog 160 HQ Fm
theorem Hw(x0:AV)(x1:AV)(x5:Int)(h:n9 160 (Gc x0 x1 x5) FO U):FO [x0,x1,VI x5] [] U :=
 gQ GF h
def Df(a0:AV):Tree :=
 NZ a0<|NZ a0<|.al (LK.has (.int .u8) (a0.deref.hA)/\1<=a0.deref.length)<|.test (((a0.deref.hA).toInt)==(43:Int)) (NZ a0<|NZ a0<|eF (a0.deref.drop 3)<|.call 154 [((a0.deref.drop 3).hA)] [] fun r1 o1=>NI r1<|NZ a0<|NZ a0<|eF (a0.deref.drop 4)<|.call 154 [((a0.deref.drop 4).hA)] [] fun r2 o2=>NI r2<|.done 0 [VI (IntKind.wrap .i64 ((IntKind.wrap .i64 (1+r1.toInt))+r2.toInt))] []) (.test (((a0.deref.hA).toInt)==(42:Int)) (NZ a0<|NZ a0<|eF (a0.deref.drop 3)<|.call 154 [((a0.deref.drop 3).hA)] [] fun r3 o3=>NI r3<|NZ a0<|NZ a0<|eF (a0.deref.drop 4)<|.call 154 [((a0.deref.drop 4).hA)] [] fun r4 o4=>NI r4<|.done 0 [VI (IntKind.wrap .i64 ((IntKind.wrap .i64 (1+r3.toInt))+r4.toInt))] []) (.test (((a0.deref.hA).toInt)==(114:Int)) (NZ a0<|NZ a0<|eF (a0.deref.drop 3)<|.call 154 [((a0.deref.drop 3).hA)] [] fun r5 o5=>NI r5<|.done 0 [VI (IntKind.wrap .i64 (2+r5.toInt))] []) (.done 0 [VI 1] [])))
theorem wk(a0:AV)(ha0:LK.has .ptr a0)(h:dT 30 (Df a0) R):az Tryz.prog 154 [a0] [] R :=
 uQ (ai (ci ha0) aH) (oQ [] Tryz.f154 h)
def H5(a0_0:Int)(a0_1:Bool):Tree :=
 .call 94 [VI (IntKind.wrap .i64 (a0_0+1))] [] fun r1 o1=>NS r1<|.al (ac (mk [35])+ac r1.ag<=9223372036854775807)<|.done 0 [VS (((mk [35]):ByteArray)++r1.ag)] [.cells [VI (IntKind.wrap .i64 (a0_0+1)),VB a0_1]]
theorem K4(a0_0:Int)(a0_1:Bool)(h:dT 16 (H5 a0_0 a0_1) R):az Tryz.prog 155 [.ref 0 0] [.cells [VI a0_0,VB a0_1]] R :=
 az.rL (cu (db (ai (aC _) (ai (ER _) aH))) dr) (az.up (ai (aC _) aH) (oF [] {mu:=[(0,.one (.obj [.lk (.int .i64),.lk .bool]))],own:=[]} Tryz.f155 h))
def Hh(a0_0:Int)(a0_1:Bool)(a1:AV):Tree :=
 .test a0_1 (.done 0 [.ptr [.v (.int .u8 48),VS (mk []),VI 0,.v (.pointer none),.v (.pointer none)]] [.cells [VI a0_0,VB true]]) (.call 154 [a1] [] fun r1 o1=>NI r1<|.test (decide (r1.toInt>(400:Int))) (.done 0 [.ptr [.v (.int .u8 48),VS (mk []),VI 0,.v (.pointer none),.v (.pointer none)]] [.cells [VI a0_0,VB true]]) (.done 0 [a1] [.cells [VI a0_0,VB a0_1]]))
theorem L6(a0_0:Int)(a0_1:Bool)(a1:AV)(ha1:LK.has .ptr a1)(h:dT 20 (Hh a0_0 a0_1 a1) R):az Tryz.prog 156 [.ref 0 0,a1] [.cells [VI a0_0,VB a0_1]] R :=
 az.rL (cu (db (ai (aC _) (ai (ER _) aH))) dr) (az.up (ai (aC _) (ai (ci ha1) aH)) (oF [] {mu:=[(0,.one (.obj [.lk (.int .i64),.lk .bool]))],own:=[]} Tryz.f156 h))
def Cq(a0_0:Int)(a0_1:Bool)(a1:AV)(a2:ByteArray):Tree :=
 .test a0_1 (.done 0 [.ptr [.v (.int .u8 48),VS (mk []),VI 0,.v (.pointer none),.v (.pointer none)]] [.cells [VI a0_0,VB a0_1]]) (NZ a1<|NZ a1<|.al (LK.has (.int .u8) (a1.deref.hA)/\1<=a1.deref.length)<|.test (((a1.deref.hA).toInt)==(110:Int)) (NZ a1<|NZ a1<|nw (a1.deref.drop 1)<|.test (ae (((a1.deref.drop 1).hA).ag)==ae a2) (.done 0 [.ptr [.v (.int .u8 49),VS (mk []),VI 0,.v (.pointer none),.v (.pointer none)]] [.cells [VI a0_0,VB a0_1]]) (.done 0 [.ptr [.v (.int .u8 48),VS (mk []),VI 0,.v (.pointer none),.v (.pointer none)]] [.cells [VI a0_0,VB a0_1]])) (.test (((a1.deref.hA).toInt)==(43:Int)) (NZ a1<|NZ a1<|eF (a1.deref.drop 3)<|.call 157 [.ref 0 0,((a1.deref.drop 3).hA),VS a2] [.cells [VI a0_0,VB a0_1]] fun r1 o1=>.al ((o1.hO)=.cells (o1.hO).cs)<|.al (aN [.lk (.int .i64),.lk .bool] ((o1.hO).cs) 0 1 o1.tail)<|NP r1<|NZ a1<|NZ a1<|eF (a1.deref.drop 4)<|.call 157 [.ref 0 0,((a1.deref.drop 4).hA),VS a2] [.cells [VI (((o1.hO).cs.getD 0 .any).toInt),VB (((o1.hO).cs.getD 1 .any).toBool)]] fun r2 o2=>.al ((o2.hO)=.cells (o2.hO).cs)<|.al (aN [.lk (.int .i64),.lk .bool] ((o2.hO).cs) 0 1 o2.tail)<|NP r2<|.call 183 [.v (.int .u8 43),r1,r2] [] fun r3 o3=>NP r3<|.call 156 [.ref 0 0,r3] [.cells [VI (((o2.hO).cs.getD 0 .any).toInt),VB (((o2.hO).cs.getD 1 .any).toBool)]] fun r4 o4=>.al ((o4.hO)=.cells (o4.hO).cs)<|.al (aN [.lk (.int .i64),.lk .bool] ((o4.hO).cs) 0 1 o4.tail)<|NP r4<|.done 0 [r4] [.cells [VI (((o4.hO).cs.getD 0 .any).toInt),VB (((o4.hO).cs.getD 1 .any).toBool)]]) (.test (((a1.deref.hA).toInt)==(42:Int)) (NZ a1<|NZ a1<|eF (a1.deref.drop 3)<|.call 157 [.ref 0 0,((a1.deref.drop 3).hA),VS a2] [.cells [VI a0_0,VB a0_1]] fun r5 o5=>.al ((o5.hO)=.cells (o5.hO).cs)<|.al (aN [.lk (.int .i64),.lk .bool] ((o5.hO).cs) 0 1 o5.tail)<|NP r5<|NZ a1<|NZ a1<|eF (a1.deref.drop 4)<|.call 183 [.v (.int .u8 42),r5,((a1.deref.drop 4).hA)] [] fun r6 o6=>NP r6<|NZ a1<|NZ a1<|eF (a1.deref.drop 3)<|NZ a1<|NZ a1<|eF (a1.deref.drop 4)<|.call 157 [.ref 0 0,((a1.deref.drop 4).hA),VS a2] [.cells [VI (((o5.hO).cs.getD 0 .any).toInt),VB (((o5.hO).cs.getD 1 .any).toBool)]] fun r7 o7=>.al ((o7.hO)=.cells (o7.hO).cs)<|.al (aN [.lk (.int .i64),.lk .bool] ((o7.hO).cs) 0 1 o7.tail)<|NP r7<|.call 183 [.v (.int .u8 42),((a1.deref.drop 3).hA),r7] [] fun r8 o8=>NP r8<|.call 183 [.v (.int .u8 43),r6,r8] [] fun r9 o9=>NP r9<|.call 156 [.ref 0 0,r9] [.cells [VI (((o7.hO).cs.getD 0 .any).toInt),VB (((o7.hO).cs.getD 1 .any).toBool)]] fun r10 o10=>.al ((o10.hO)=.cells (o10.hO).cs)<|.al (aN [.lk (.int .i64),.lk .bool] ((o10.hO).cs) 0 1 o10.tail)<|NP r10<|.done 0 [r10] [.cells [VI (((o10.hO).cs.getD 0 .any).toInt),VB (((o10.hO).cs.getD 1 .any).toBool)]]) (.test (((a1.deref.hA).toInt)==(114:Int)) (.call 155 [.ref 0 0] [.cells [VI a0_0,VB a0_1]] fun r11 o11=>.al ((o11.hO)=.cells (o11.hO).cs)<|.al (aN [.lk (.int .i64),.lk .bool] ((o11.hO).cs) 0 1 o11.tail)<|NS r11<|NZ a1<|NZ a1<|eF (a1.deref.drop 3)<|.call 158 [((a1.deref.drop 3).hA),.ptr [.v (.int .u8 110),VS r11.ag,VI 0,.v (.pointer none),.v (.pointer none)],VI 0] [] fun r12 o12=>NP r12<|.call 157 [.ref 0 0,r12,VS a2] [.cells [VI (((o11.hO).cs.getD 0 .any).toInt),VB (((o11.hO).cs.getD 1 .any).toBool)]] fun r13 o13=>.al ((o13.hO)=.cells (o13.hO).cs)<|.al (aN [.lk (.int .i64),.lk .bool] ((o13.hO).cs) 0 1 o13.tail)<|NP r13<|.call 156 [.ref 0 0,r13] [.cells [VI (((o13.hO).cs.getD 0 .any).toInt),VB (((o13.hO).cs.getD 1 .any).toBool)]] fun r14 o14=>.al ((o14.hO)=.cells (o14.hO).cs)<|.al (aN [.lk (.int .i64),.lk .bool] ((o14.hO).cs) 0 1 o14.tail)<|NP r14<|.call 159 [r14,VS r11.ag,a1] [] fun r15 o15=>NP r15<|.call 157 [.ref 0 0,r12,VS r11.ag] [.cells [VI (((o14.hO).cs.getD 0 .any).toInt),VB (((o14.hO).cs.getD 1 .any).toBool)]] fun r16 o16=>.al ((o16.hO)=.cells (o16.hO).cs)<|.al (aN [.lk (.int .i64),.lk .bool] ((o16.hO).cs) 0 1 o16.tail)<|NP r16<|.call 156 [.ref 0 0,r16] [.cells [VI (((o16.hO).cs.getD 0 .any).toInt),VB (((o16.hO).cs.getD 1 .any).toBool)]] fun r17 o17=>.al ((o17.hO)=.cells (o17.hO).cs)<|.al (aN [.lk (.int .i64),.lk .bool] ((o17.hO).cs) 0 1 o17.tail)<|NP r17<|.call 159 [r17,VS r11.ag,a1] [] fun r18 o18=>NP r18<|.call 183 [.v (.int .u8 42),r18,.ptr [.v (.int .u8 98),VS (mk []),VI 0,.v (.pointer none),.v (.pointer none)]] [] fun r19 o19=>NP r19<|.call 183 [.v (.int .u8 43),r15,r19] [] fun r20 o20=>NP r20<|.call 156 [.ref 0 0,.ptr [.v (.int .u8 114),VS (mk []),VI 0,r20,.v (.pointer none)]] [.cells [VI (((o17.hO).cs.getD 0 .any).toInt),VB (((o17.hO).cs.getD 1 .any).toBool)]] fun r21 o21=>.al ((o21.hO)=.cells (o21.hO).cs)<|.al (aN [.lk (.int .i64),.lk .bool] ((o21.hO).cs) 0 1 o21.tail)<|NP r21<|.done 0 [r21] [.cells [VI (((o21.hO).cs.getD 0 .any).toInt),VB (((o21.hO).cs.getD 1 .any).toBool)]]) (.done 0 [.ptr [.v (.int .u8 48),VS (mk []),VI 0,.v (.pointer none),.v (.pointer none)]] [.cells [VI a0_0,VB a0_1]])))))
theorem Ic(a0_0:Int)(a0_1:Bool)(a1:AV)(a2:ByteArray)(ha1:LK.has .ptr a1)(h:dT 121 (Cq a0_0 a0_1 a1 a2) R):az Tryz.prog 157 [.ref 0 0,a1,VS a2] [.cells [VI a0_0,VB a0_1]] R :=
 az.rL (cu (db (ai (aC _) (ai (ER _) aH))) dr) (az.up (ai (aC _) (ai (ci ha1) (ai (aC _) aH))) (oF [] {mu:=[(0,.one (.obj [.lk (.int .i64),.lk .bool]))],own:=[]} Tryz.f157 h))
def Dp(a0:AV)(a1:AV)(a2:Int):Tree :=
 NZ a0<|NZ a0<|.al (LK.has (.int .u8) (a0.deref.hA)/\1<=a0.deref.length)<|.test (((a0.deref.hA).toInt)==(98:Int)) (NZ a0<|NZ a0<|.al (LK.has (.int .i64) ((a0.deref.drop 2).hA)/\1<=(a0.deref.drop 2).length)<|.test ((((a0.deref.drop 2).hA).toInt)==a2) (.done 0 [a1] []) (.done 0 [a0] [])) (.test (((a0.deref.hA).toInt)==(43:Int)) (NZ a0<|NZ a0<|.al (LK.has (.int .u8) (a0.deref.hA)/\1<=a0.deref.length)<|NZ a0<|NZ a0<|eF (a0.deref.drop 3)<|.call 158 [((a0.deref.drop 3).hA),a1,VI a2] [] fun r1 o1=>NP r1<|NZ a0<|NZ a0<|eF (a0.deref.drop 4)<|.call 158 [((a0.deref.drop 4).hA),a1,VI a2] [] fun r2 o2=>NP r2<|.done 0 [.ptr [.v (.int .u8 ((a0.deref.hA).toInt)),VS (mk []),VI 0,r1,r2]] []) (.test (((a0.deref.hA).toInt)==(42:Int)) (NZ a0<|NZ a0<|.al (LK.has (.int .u8) (a0.deref.hA)/\1<=a0.deref.length)<|NZ a0<|NZ a0<|eF (a0.deref.drop 3)<|.call 158 [((a0.deref.drop 3).hA),a1,VI a2] [] fun r3 o3=>NP r3<|NZ a0<|NZ a0<|eF (a0.deref.drop 4)<|.call 158 [((a0.deref.drop 4).hA),a1,VI a2] [] fun r4 o4=>NP r4<|.done 0 [.ptr [.v (.int .u8 ((a0.deref.hA).toInt)),VS (mk []),VI 0,r3,r4]] []) (.test (((a0.deref.hA).toInt)==(114:Int)) (NZ a0<|NZ a0<|eF (a0.deref.drop 3)<|.call 158 [((a0.deref.drop 3).hA),a1,VI (IntKind.wrap .i64 (a2+1))] [] fun r5 o5=>NP r5<|.done 0 [.ptr [.v (.int .u8 114),VS (mk []),VI 0,r5,.v (.pointer none)]] []) (.done 0 [a0] []))))
theorem vA(a0:AV)(a1:AV)(a2:Int)(ha0:LK.has .ptr a0)(ha1:LK.has .ptr a1)(h:dT 56 (Dp a0 a1 a2) R):az Tryz.prog 158 [a0,a1,VI a2] [] R :=
 uQ (ai (ci ha0) (ai (ci ha1) (ai (aC _) aH))) (oQ [] Tryz.f158 h)
def Dq(a0:AV)(a1:ByteArray)(a2:AV):Tree :=
 NZ a0<|NZ a0<|.al (LK.has (.int .u8) (a0.deref.hA)/\1<=a0.deref.length)<|.test (((a0.deref.hA).toInt)==(110:Int)) (NZ a0<|NZ a0<|nw (a0.deref.drop 1)<|.test (ae (((a0.deref.drop 1).hA).ag)==ae a1) (.done 0 [a2] []) (.done 0 [a0] [])) (.test (((a0.deref.hA).toInt)==(43:Int)) (NZ a0<|NZ a0<|.al (LK.has (.int .u8) (a0.deref.hA)/\1<=a0.deref.length)<|NZ a0<|NZ a0<|eF (a0.deref.drop 3)<|.call 159 [((a0.deref.drop 3).hA),VS a1,a2] [] fun r1 o1=>NP r1<|NZ a0<|NZ a0<|eF (a0.deref.drop 4)<|.call 159 [((a0.deref.drop 4).hA),VS a1,a2] [] fun r2 o2=>NP r2<|.done 0 [.ptr [.v (.int .u8 ((a0.deref.hA).toInt)),VS (mk []),VI 0,r1,r2]] []) (.test (((a0.deref.hA).toInt)==(42:Int)) (NZ a0<|NZ a0<|.al (LK.has (.int .u8) (a0.deref.hA)/\1<=a0.deref.length)<|NZ a0<|NZ a0<|eF (a0.deref.drop 3)<|.call 159 [((a0.deref.drop 3).hA),VS a1,a2] [] fun r3 o3=>NP r3<|NZ a0<|NZ a0<|eF (a0.deref.drop 4)<|.call 159 [((a0.deref.drop 4).hA),VS a1,a2] [] fun r4 o4=>NP r4<|.done 0 [.ptr [.v (.int .u8 ((a0.deref.hA).toInt)),VS (mk []),VI 0,r3,r4]] []) (.test (((a0.deref.hA).toInt)==(114:Int)) (NZ a0<|NZ a0<|eF (a0.deref.drop 3)<|.call 159 [((a0.deref.drop 3).hA),VS a1,a2] [] fun r5 o5=>NP r5<|.done 0 [.ptr [.v (.int .u8 114),VS (mk []),VI 0,r5,.v (.pointer none)]] []) (.done 0 [a0] []))))
theorem vC(a0:AV)(a1:ByteArray)(a2:AV)(ha0:LK.has .ptr a0)(ha2:LK.has .ptr a2)(h:dT 55 (Dq a0 a1 a2) R):az Tryz.prog 159 [a0,VS a1,a2] [] R :=
 uQ (ai (ci ha0) (ai (aC _) (ai (ci ha2) aH))) (oQ [] Tryz.f159 h)
def JY(a0:AV):Tree :=
 .call 165 [a0] [] fun r1 o1=>NL r1<|.call 184 [a0,.v (.slice none 0 0),.gx 184 [none,some 0,some 1],.ref 0 0,.ref 1 0] [.cells [r1],.cells [VI 0]] fun r2 o2=>.al ((o2.hO)=.cells (o2.hO).cs)<|.al (aN [.lk .sl] ((o2.hO).cs) 0 1 o2.tail)<|.al ((o2.tail.hO)=.cells (o2.tail.hO).cs)<|.al (aN [.lk (.int .i64)] ((o2.tail.hO).cs) 0 2 o2.tail.tail)<|NS r2<|.done 0 [VS r2.ag] []
theorem Nv(a0:AV)(ha0:LK.has .ptr a0)(h:dT 12 (JY a0) R):az Tryz.prog 160 [a0] [] R :=
 uQ (ai (ci ha0) aH) (oQ [] Tryz.f160 h)
def GY(a0_0:ByteArray)(a0_1:AV)(a1:ByteArray)(a2_0:ByteArray)(a2_1:AV):Tree :=
 .call 162 [.agg [VS a0_0,a0_1],VS a1,.agg [VS a2_0,a2_1]] [] fun r1 o1=>NB r1<|.test (!r1.toBool) (.done 0 [.cx [.agg [VS a0_0,a0_1],VB false]] []) (.call 163 [.agg [VS a0_0,a0_1],VS a1,.agg [VS a2_0,a2_1]] [] fun r2 o2=>NA r2<|.done 0 [.cx [.agg [VS ((r2.cs.getD 0 .any).ag),(r2.cs.getD 1 .any)],VB true]] [])
theorem K9(a0_0:ByteArray)(a0_1:AV)(a1:ByteArray)(a2_0:ByteArray)(a2_1:AV)(ha0_1:LK.has .sl a0_1)(ha2_1:LK.has .sl a2_1)(h:dT 18 (GY a0_0 a0_1 a1 a2_0 a2_1) R):az Tryz.prog 161 [.agg [VS a0_0,a0_1],VS a1,.agg [VS a2_0,a2_1]] [] R :=
 uQ (ai (cF (ai (aC _) (ai (bX ha0_1) aH))) (ai (aC _) (ai (cF (ai (aC _) (ai (bX ha2_1) aH))) aH))) (oQ [] Tryz.f161 h)
def Is(a0_0:ByteArray)(a0_1:AV)(a1:ByteArray)(a2_0:ByteArray)(a2_1:AV):Tree :=
 .call 129 [.agg [VS a0_0,a0_1]] [] fun r1 o1=>NI r1<|.call 186 [.agg [VS a0_0,a0_1],VS a1] [] fun r2 o2=>NI r2<|.call 129 [.agg [VS a2_0,a2_1]] [] fun r3 o3=>NI r3<|.done 0 [VB (decide ((IntKind.wrap .i64 (r1.toInt+(IntKind.wrap .i64 (r2.toInt*(IntKind.wrap .i64 (r3.toInt-1))))))<=(400:Int)))] []
theorem K0(a0_0:ByteArray)(a0_1:AV)(a1:ByteArray)(a2_0:ByteArray)(a2_1:AV)(ha0_1:LK.has .sl a0_1)(ha2_1:LK.has .sl a2_1)(h:dT 18 (Is a0_0 a0_1 a1 a2_0 a2_1) R):az Tryz.prog 162 [.agg [VS a0_0,a0_1],VS a1,.agg [VS a2_0,a2_1]] [] R :=
 uQ (ai (cF (ai (aC _) (ai (bX ha0_1) aH))) (ai (aC _) (ai (cF (ai (aC _) (ai (bX ha2_1) aH))) aH))) (oQ [] Tryz.f162 h)
def IL(a0_0:ByteArray)(a0_1:AV)(a1:ByteArray)(a2_0:ByteArray)(a2_1:AV):Tree :=
 .call 78 [.agg [VS a0_0,a0_1],.sl [[VS a2_0,a2_1],[VS a1,.v (.slice none 0 0)]]] [] fun r1 o1=>NA r1<|.call 187 [.agg [VS ((r1.cs.getD 0 .any).ag),(r1.cs.getD 1 .any)],VS a1,.agg [VS a2_0,a2_1]] [] fun r2 o2=>NA r2<|.done 0 [.agg [VS ((r2.cs.getD 0 .any).ag),(r2.cs.getD 1 .any)]] []
theorem Na(a0_0:ByteArray)(a0_1:AV)(a1:ByteArray)(a2_0:ByteArray)(a2_1:AV)(ha0_1:LK.has .sl a0_1)(ha2_1:LK.has .sl a2_1)(h:dT 16 (IL a0_0 a0_1 a1 a2_0 a2_1) R):az Tryz.prog 163 [.agg [VS a0_0,a0_1],VS a1,.agg [VS a2_0,a2_1]] [] R :=
 uQ (ai (cF (ai (aC _) (ai (bX ha0_1) aH))) (ai (aC _) (ai (cF (ai (aC _) (ai (bX ha2_1) aH))) aH))) (oQ [] Tryz.f163 h)
def JL(a0:AV):Tree :=
 .call 188 [a0,.v (.func (.func 166) #[] #[])] [] fun r1 o1=>NI r1<|.done 0 [VB (decide (r1.toInt≥(0:Int)))] []
theorem Nj(a0:AV)(ha0:LK.has .sl a0)(h:dT 9 (JL a0) R):az Tryz.prog 164 [a0,.v (.func (.func 166) #[] #[])] [] R :=
 uQ (ai (bX ha0) (ai (aC _) aH)) (oQ [] Tryz.f164 h)
def Ih(a0:AV):Tree :=
 .call 91 [a0,.fn 189 [.ref 0 0]] [.cells [.vec 1],.vec 1 []] fun r1 o1=>.al ((o1.hO)=.cells (o1.hO).cs)<|.al (aN [.vec 1] ((o1.hO).cs) 0 1 o1.tail)<|.done 0 [.sl ((o1.tail.hO).es)] []
theorem Nk(a0:AV)(ha0:LK.has .ptr a0)(h:dT 9 (Ih a0) R):az Tryz.prog 165 [a0] [] R :=
 uQ (ai (ci ha0) aH) (oQ [] Tryz.f165 h)
def HT(a0:ByteArray):Tree :=
 .call 111 [VS a0,VS (mk [116])] [] fun r1 o1=>NB r1<|.done 0 [VB r1.toBool] []
theorem M6(a0:ByteArray)(h:dT 5 (HT a0) R):az Tryz.prog 166 [VS a0] [] R :=
 uQ (ai (aC _) aH) (oQ [] Tryz.f166 h)
def IK(a0:Int):Tree :=
 .test (decide (a0≥(97:Int))) (.test (decide (a0<=(122:Int))) (.done 0 [VB true] []) (.test (decide (a0≥(48:Int))) (.test (decide (a0<=(57:Int))) (.done 0 [VB true] []) (.test (a0==(42:Int)) (.done 0 [VB true] []) (.done 0 [VB (a0==(43:Int))] []))) (.test (a0==(42:Int)) (.done 0 [VB true] []) (.done 0 [VB (a0==(43:Int))] [])))) (.test (decide (a0≥(48:Int))) (.test (decide (a0<=(57:Int))) (.done 0 [VB true] []) (.test (a0==(42:Int)) (.done 0 [VB true] []) (.done 0 [VB (a0==(43:Int))] []))) (.test (a0==(42:Int)) (.done 0 [VB true] []) (.done 0 [VB (a0==(43:Int))] [])))
theorem LH(a0:Int)(h:dT 25 (IK a0) R):az Tryz.prog 172 [.v (.int .u8 a0)] [] R :=
 uQ (ai (aC _) aH) (oQ [] Tryz.f172 h)
def Hq(a0:Int):Tree :=
 .test (decide (a0≥(97:Int))) (.test (decide (a0<=(122:Int))) (.done 0 [VB true] []) (.test (decide (a0≥(48:Int))) (.test (decide (a0<=(57:Int))) (.done 0 [VB true] []) (.test (a0==(43:Int)) (.done 0 [VB true] []) (.done 0 [VB (a0==(42:Int))] []))) (.test (a0==(43:Int)) (.done 0 [VB true] []) (.done 0 [VB (a0==(42:Int))] [])))) (.test (decide (a0≥(48:Int))) (.test (decide (a0<=(57:Int))) (.done 0 [VB true] []) (.test (a0==(43:Int)) (.done 0 [VB true] []) (.done 0 [VB (a0==(42:Int))] []))) (.test (a0==(43:Int)) (.done 0 [VB true] []) (.done 0 [VB (a0==(42:Int))] [])))
theorem K8(a0:Int)(h:dT 25 (Hq a0) R):az Tryz.prog 174 [.v (.int .u8 a0)] [] R :=
 uQ (ai (aC _) aH) (oQ [] Tryz.f174 h)
def Kl(a0:Int)(a1:AV)(a2:AV):Tree :=
 .done 0 [.ptr [.v (.int .u8 a0),VS (mk []),VI 0,a1,a2]] []
theorem Mv(a0:Int)(a1:AV)(a2:AV)(ha1:LK.has .ptr a1)(ha2:LK.has .ptr a2)(h:dT 12 (Kl a0 a1 a2) R):az Tryz.prog 183 [.v (.int .u8 a0),a1,a2] [] R :=
 uQ (ai (aC _) (ai (ci ha1) (ai (ci ha2) aH))) (oQ [] Tryz.f183 h)
def EP:LI:={hd:={cd:=[(0,.k .ptr),(1,.k .sl),(9,.k .str)],refs:=[(3,0),(4,1)],cE:=[(0,[.lk .sl]),(1,[.lk (.int .i64)])],um:=[(2,184,[none,some 0,some 1])]},xs:={cd:=[(0,.k .ptr),(1,.k .sl),(9,.k .str)],cE:=[(0,[.lk .sl]),(1,[.lk (.int .i64)])],um:=[(2,184,[none,some 0,some 1])]},rt:={cE:=[(0,[.lk .sl]),(1,[.lk (.int .i64)])]},ex:=1,fx:=[0,1]}
def Il:Code:=dL (dy Tryz.f184) 12
def GA:List (Nat×LI):=[(12,EP)]
def DA(a0:AV)(a1:AV)(a3_0:AV)(a4_0:Int):Tree :=
 NZ a0<|NZ a0<|.al (LK.has (.int .u8) (a0.deref.hA)/\1<=a0.deref.length)<|.test (((a0.deref.hA).toInt)==(110:Int)) (NZ a0<|NZ a0<|nw (a0.deref.drop 1)<|.done 0 [VS (((a0.deref.drop 1).hA).ag)] [.cells [a3_0],.cells [VI a4_0]]) (.test (((a0.deref.hA).toInt)==(98:Int)) (NL a1<|NZ a0<|NZ a0<|.al (LK.has (.int .i64) ((a0.deref.drop 2).hA)/\1<=(a0.deref.drop 2).length)<|.al (LK.has .sl a1/\0<=(IntKind.wrap .i64 ((IntKind.wrap .i64 ((a1.aS.length:Int)-1))-(((a0.deref.drop 2).hA).toInt)))/\(IntKind.wrap .i64 ((IntKind.wrap .i64 ((a1.aS.length:Int)-1))-(((a0.deref.drop 2).hA).toInt)))<a1.aS.length/\(a1.ix (IntKind.wrap .i64 ((IntKind.wrap .i64 ((a1.aS.length:Int)-1))-(((a0.deref.drop 2).hA).toInt)))).length=1)<|nw (a1.ix (IntKind.wrap .i64 ((IntKind.wrap .i64 ((a1.aS.length:Int)-1))-(((a0.deref.drop 2).hA).toInt))))<|.done 0 [VS (((a1.ix (IntKind.wrap .i64 ((IntKind.wrap .i64 ((a1.aS.length:Int)-1))-(((a0.deref.drop 2).hA).toInt)))).hA).ag)] [.cells [a3_0],.cells [VI a4_0]]) (.test (((a0.deref.hA).toInt)==(43:Int)) (NZ a0<|NZ a0<|eF (a0.deref.drop 3)<|.call 184 [((a0.deref.drop 3).hA),a1,.gx 184 [none,some 0,some 1],.ref 0 0,.ref 1 0] [.cells [a3_0],.cells [VI a4_0]] fun r1 o1=>.al ((o1.hO)=.cells (o1.hO).cs)<|.al (aN [.lk .sl] ((o1.hO).cs) 0 1 o1.tail)<|.al ((o1.tail.hO)=.cells (o1.tail.hO).cs)<|.al (aN [.lk (.int .i64)] ((o1.tail.hO).cs) 0 2 o1.tail.tail)<|NS r1<|NZ a0<|NZ a0<|.al (LK.has (.int .u8) (a0.deref.hA)/\1<=a0.deref.length)<|.al (ji [[.v (.int .u8 ((a0.deref.hA).toInt))]])<|.al (ac (mk [40])+ac (⟨(bytesOf [[.v (.int .u8 ((a0.deref.hA).toInt))]]).toArray⟩)<=9223372036854775807)<|.al (ac (((mk [40]):ByteArray)++(⟨(bytesOf [[.v (.int .u8 ((a0.deref.hA).toInt))]]).toArray⟩))+ac (mk [32])<=9223372036854775807)<|.al (ac (((((mk [40]):ByteArray)++(⟨(bytesOf [[.v (.int .u8 ((a0.deref.hA).toInt))]]).toArray⟩)):ByteArray)++(mk [32]))+ac r1.ag<=9223372036854775807)<|.al (ac (((((((mk [40]):ByteArray)++(⟨(bytesOf [[.v (.int .u8 ((a0.deref.hA).toInt))]]).toArray⟩)):ByteArray)++(mk [32])):ByteArray)++r1.ag)+ac (mk [32])<=9223372036854775807)<|NZ a0<|NZ a0<|eF (a0.deref.drop 4)<|.call 184 [((a0.deref.drop 4).hA),a1,.gx 184 [none,some 0,some 1],.ref 0 0,.ref 1 0] [.cells [((o1.hO).cs.getD 0 .any)],.cells [VI (((o1.tail.hO).cs.getD 0 .any).toInt)]] fun r2 o2=>.al ((o2.hO)=.cells (o2.hO).cs)<|.al (aN [.lk .sl] ((o2.hO).cs) 0 1 o2.tail)<|.al ((o2.tail.hO)=.cells (o2.tail.hO).cs)<|.al (aN [.lk (.int .i64)] ((o2.tail.hO).cs) 0 2 o2.tail.tail)<|NS r2<|.al (ac (((((((((mk [40]):ByteArray)++(⟨(bytesOf [[.v (.int .u8 ((a0.deref.hA).toInt))]]).toArray⟩)):ByteArray)++(mk [32])):ByteArray)++r1.ag):ByteArray)++(mk [32]))+ac r2.ag<=9223372036854775807)<|.al (ac (((((((((((mk [40]):ByteArray)++(⟨(bytesOf [[.v (.int .u8 ((a0.deref.hA).toInt))]]).toArray⟩)):ByteArray)++(mk [32])):ByteArray)++r1.ag):ByteArray)++(mk [32])):ByteArray)++r2.ag)+ac (mk [41])<=9223372036854775807)<|.done 0 [VS (((((((((((((mk [40]):ByteArray)++(⟨(bytesOf [[.v (.int .u8 ((a0.deref.hA).toInt))]]).toArray⟩)):ByteArray)++(mk [32])):ByteArray)++r1.ag):ByteArray)++(mk [32])):ByteArray)++r2.ag):ByteArray)++(mk [41]))] [.cells [((o2.hO).cs.getD 0 .any)],.cells [VI (((o2.tail.hO).cs.getD 0 .any).toInt)]]) (.test (((a0.deref.hA).toInt)==(42:Int)) (NZ a0<|NZ a0<|eF (a0.deref.drop 3)<|.call 184 [((a0.deref.drop 3).hA),a1,.gx 184 [none,some 0,some 1],.ref 0 0,.ref 1 0] [.cells [a3_0],.cells [VI a4_0]] fun r3 o3=>.al ((o3.hO)=.cells (o3.hO).cs)<|.al (aN [.lk .sl] ((o3.hO).cs) 0 1 o3.tail)<|.al ((o3.tail.hO)=.cells (o3.tail.hO).cs)<|.al (aN [.lk (.int .i64)] ((o3.tail.hO).cs) 0 2 o3.tail.tail)<|NS r3<|NZ a0<|NZ a0<|.al (LK.has (.int .u8) (a0.deref.hA)/\1<=a0.deref.length)<|.al (ji [[.v (.int .u8 ((a0.deref.hA).toInt))]])<|.al (ac (mk [40])+ac (⟨(bytesOf [[.v (.int .u8 ((a0.deref.hA).toInt))]]).toArray⟩)<=9223372036854775807)<|.al (ac (((mk [40]):ByteArray)++(⟨(bytesOf [[.v (.int .u8 ((a0.deref.hA).toInt))]]).toArray⟩))+ac (mk [32])<=9223372036854775807)<|.al (ac (((((mk [40]):ByteArray)++(⟨(bytesOf [[.v (.int .u8 ((a0.deref.hA).toInt))]]).toArray⟩)):ByteArray)++(mk [32]))+ac r3.ag<=9223372036854775807)<|.al (ac (((((((mk [40]):ByteArray)++(⟨(bytesOf [[.v (.int .u8 ((a0.deref.hA).toInt))]]).toArray⟩)):ByteArray)++(mk [32])):ByteArray)++r3.ag)+ac (mk [32])<=9223372036854775807)<|NZ a0<|NZ a0<|eF (a0.deref.drop 4)<|.call 184 [((a0.deref.drop 4).hA),a1,.gx 184 [none,some 0,some 1],.ref 0 0,.ref 1 0] [.cells [((o3.hO).cs.getD 0 .any)],.cells [VI (((o3.tail.hO).cs.getD 0 .any).toInt)]] fun r4 o4=>.al ((o4.hO)=.cells (o4.hO).cs)<|.al (aN [.lk .sl] ((o4.hO).cs) 0 1 o4.tail)<|.al ((o4.tail.hO)=.cells (o4.tail.hO).cs)<|.al (aN [.lk (.int .i64)] ((o4.tail.hO).cs) 0 2 o4.tail.tail)<|NS r4<|.al (ac (((((((((mk [40]):ByteArray)++(⟨(bytesOf [[.v (.int .u8 ((a0.deref.hA).toInt))]]).toArray⟩)):ByteArray)++(mk [32])):ByteArray)++r3.ag):ByteArray)++(mk [32]))+ac r4.ag<=9223372036854775807)<|.al (ac (((((((((((mk [40]):ByteArray)++(⟨(bytesOf [[.v (.int .u8 ((a0.deref.hA).toInt))]]).toArray⟩)):ByteArray)++(mk [32])):ByteArray)++r3.ag):ByteArray)++(mk [32])):ByteArray)++r4.ag)+ac (mk [41])<=9223372036854775807)<|.done 0 [VS (((((((((((((mk [40]):ByteArray)++(⟨(bytesOf [[.v (.int .u8 ((a0.deref.hA).toInt))]]).toArray⟩)):ByteArray)++(mk [32])):ByteArray)++r3.ag):ByteArray)++(mk [32])):ByteArray)++r4.ag):ByteArray)++(mk [41]))] [.cells [((o4.hO).cs.getD 0 .any)],.cells [VI (((o4.tail.hO).cs.getD 0 .any).toInt)]]) (.test (((a0.deref.hA).toInt)==(114:Int)) (.loop Il EP [a0,a1,VS (mk [])] [.cells [a3_0],.cells [VI a4_0]] (fun y8 q8=>NP (y8.hA)<|NL (y8.tail.hA)<|NS (y8.tail.tail.hA)<|.al ((q8.hO)=.cells (q8.hO).cs)<|.al (af [.lk .sl] ((q8.hO).cs) 0 q8.tail)<|.al (((q8.tail.drop 0).hO)=.cells ((q8.tail.drop 0).hO).cs)<|.al (af [.lk (.int .i64)] (((q8.tail.drop 0).hO).cs) 0 ((q8.tail.drop 0).tail))<|.al (ac (mk [40,114,101,99,32])+ac ((y8.tail.tail.hA).ag)<=9223372036854775807)<|.al (ac (((mk [40,114,101,99,32]):ByteArray)++((y8.tail.tail.hA).ag))+ac (mk [32])<=9223372036854775807)<|NZ (y8.hA)<|NZ (y8.hA)<|eF ((y8.hA).deref.drop 3)<|.al (LK.has .sl (y8.tail.hA)/\cT 1 ((y8.tail.hA).aS)/\((([]:List (List AV)).length)+((y8.tail.hA).aS).length)*16<=140737488355328)<|.al (cT 1 [[VS ((y8.tail.tail.hA).ag)]]/\(((([]:List (List AV))++((y8.tail.hA).aS)).length)+([[VS ((y8.tail.tail.hA).ag)]]:List (List AV)).length)*16<=140737488355328)<|.call 184 [(((y8.hA).deref.drop 3).hA),.sl ((([]:List (List AV))++((y8.tail.hA).aS))++([[VS ((y8.tail.tail.hA).ag)]]:List (List AV))),.gx 184 [none,some 0,some 1],.ref 0 0,.ref 1 0] [.cells [((q8.hO).cs.getD 0 .any)],.cells [VI (((q8.tail.hO).cs.getD 0 .any).toInt)]] fun r9 o9=>.al ((o9.hO)=.cells (o9.hO).cs)<|.al (aN [.lk .sl] ((o9.hO).cs) 0 1 o9.tail)<|.al ((o9.tail.hO)=.cells (o9.tail.hO).cs)<|.al (aN [.lk (.int .i64)] ((o9.tail.hO).cs) 0 2 o9.tail.tail)<|NS r9<|.al (ac (((((mk [40,114,101,99,32]):ByteArray)++((y8.tail.tail.hA).ag)):ByteArray)++(mk [32]))+ac r9.ag<=9223372036854775807)<|.al (ac (((((((mk [40,114,101,99,32]):ByteArray)++((y8.tail.tail.hA).ag)):ByteArray)++(mk [32])):ByteArray)++r9.ag)+ac (mk [41])<=9223372036854775807)<|.done 0 [VS (((((((((mk [40,114,101,99,32]):ByteArray)++((y8.tail.tail.hA).ag)):ByteArray)++(mk [32])):ByteArray)++r9.ag):ByteArray)++(mk [41]))] [.cells [((o9.hO).cs.getD 0 .any)],.cells [VI (((o9.tail.hO).cs.getD 0 .any).toInt)]]) (fun y8 q8=>.al ((q8.hO)=.cells (q8.hO).cs)<|.al (af [.lk .sl] ((q8.hO).cs) 0 q8.tail)<|.al (((q8.tail.drop 0).hO)=.cells ((q8.tail.drop 0).hO).cs)<|.al (af [.lk (.int .i64)] (((q8.tail.drop 0).hO).cs) 0 ((q8.tail.drop 0).tail))<|.done 0 [.any] [.cells [((q8.hO).cs.getD 0 .any)],.cells [VI (((q8.tail.hO).cs.getD 0 .any).toInt)]])) (NZ a0<|NZ a0<|.al (LK.has (.int .u8) (a0.deref.hA)/\1<=a0.deref.length)<|.al (ji [[.v (.int .u8 ((a0.deref.hA).toInt))]])<|.done 0 [VS (⟨(bytesOf [[.v (.int .u8 ((a0.deref.hA).toInt))]]).toArray⟩)] [.cells [a3_0],.cells [VI a4_0]])))))
theorem vZ(a0:AV)(a1:AV)(a3_0:AV)(a4_0:Int)(ha0:LK.has .ptr a0)(ha1:LK.has .sl a1)(ha3_0:LK.has .sl a3_0)(h:dT 100 (DA a0 a1 a3_0 a4_0) R):az Tryz.prog 184 [a0,a1,.gx 184 [none,some 0,some 1],.ref 0 0,.ref 1 0] [.cells [a3_0],.cells [VI a4_0]] R :=
 az.rL (cu (db (ai (bX ha3_0) aH)) (cu (db (ai (aC _) aH)) dr)) (az.up (ai (ci ha0) (ai (bX ha1) (ai (aC _) (ai (aC _) (ai (aC _) aH))))) (oF GA {mu:=[(2,.yl 184 [none,some 0,some 1]),(3,.one (.obj [.lk .sl])),(4,.one (.obj [.lk (.int .i64)]))],own:=[]} Tryz.f184 h))
def E0(x0:AV)(x1:AV)(x9:ByteArray)(o0_0:AV)(o1_0:Int):Tree :=
 NP x0<|NL x1<|NS (VS x9)<|.al (Ob.cells [o0_0]=.cells [o0_0])<|.al (af [.lk .sl] [o0_0] 0 [.cells [VI o1_0]])<|.al (Ob.cells [VI o1_0]=.cells [VI o1_0])<|.al (af [.lk (.int .i64)] [VI o1_0] 0 [])<|.test (ae x9==ae (mk [])) (.call 94 [VI o1_0] [] fun r1 o1=>NS r1<|.al (ac (mk [116])+ac r1.ag<=9223372036854775807)<|.done 0 [x0,x1,VS (((mk [116]):ByteArray)++r1.ag)] [.cells [o0_0],.cells [VI (IntKind.wrap .i64 (o1_0+1))]]) (.call 185 [o0_0,VS x9] [] fun r2 o2=>NB r2<|.test r2.toBool (.call 94 [VI o1_0] [] fun r3 o3=>NS r3<|.al (ac (mk [116])+ac r3.ag<=9223372036854775807)<|.done 0 [x0,x1,VS (((mk [116]):ByteArray)++r3.ag)] [.cells [o0_0],.cells [VI (IntKind.wrap .i64 (o1_0+1))]]) (.done 1 [x0,x1,VS x9] [.cells [o0_0],.cells [VI o1_0]]))
abbrev C7:=cP Tryz.prog 100 Il EP
theorem IS(x0:AV)(x1:AV)(x9:ByteArray)(o0_0:AV)(o1_0:Int)(h:n9 100 (E0 x0 x1 x9 o0_0 o1_0) C7 U):C7 [x0,x1,VS x9] [.cells [o0_0],.cells [VI o1_0]] U :=
 gQ GA h
def Ie(a0:AV)(a1:ByteArray):Tree :=
 .call 202 [a0,VS a1] [] fun r1 o1=>NI r1<|.done 0 [VB (decide (r1.toInt≥(0:Int)))] []
theorem Lf(a0:AV)(a1:ByteArray)(ha0:LK.has .sl a0)(h:dT 9 (Ie a0 a1) R):az Tryz.prog 185 [a0,VS a1] [] R :=
 uQ (ai (bX ha0) (ai (aC _) aH)) (oQ [] Tryz.f185 h)
def Aa(a0_0:ByteArray)(a0_1:AV)(a1:ByteArray):Tree :=
 .test (!(ae a0_0==ae (mk []))) (.test (ae a0_0==ae a1) (.done 0 [VI 1] []) (.done 0 [VI 0] [])) (.call 90 [.agg [VS a0_0,a0_1]] [] fun r1 o1=>NS r1<|.test (ae r1.ag==ae (mk [114,101,99])) (NG a0_1 1 2<|nw (a0_1.ix (1:Int))<|.test (ae (((a0_1.ix (1:Int)).hA).ag)==ae a1) (.done 0 [VI 0] []) (NG a0_1 2 2<|NE (a0_1.ix (2:Int))<|.call 186 [.agg [VS (((a0_1.ix (2:Int)).getD 0 .any).ag),((a0_1.ix (2:Int)).getD 1 .any)],VS a1] [] fun r2 o2=>NI r2<|.done 0 [VI r2.toInt] [])) (NG a0_1 1 2<|NE (a0_1.ix (1:Int))<|.call 186 [.agg [VS (((a0_1.ix (1:Int)).getD 0 .any).ag),((a0_1.ix (1:Int)).getD 1 .any)],VS a1] [] fun r3 o3=>NI r3<|NG a0_1 2 2<|NE (a0_1.ix (2:Int))<|.call 186 [.agg [VS (((a0_1.ix (2:Int)).getD 0 .any).ag),((a0_1.ix (2:Int)).getD 1 .any)],VS a1] [] fun r4 o4=>NI r4<|.done 0 [VI (IntKind.wrap .i64 (r3.toInt+r4.toInt))] []))
theorem Cu(a0_0:ByteArray)(a0_1:AV)(a1:ByteArray)(ha0_1:LK.has .sl a0_1)(h:dT 41 (Aa a0_0 a0_1 a1) R):az Tryz.prog 186 [.agg [VS a0_0,a0_1],VS a1] [] R :=
 uQ (ai (cF (ai (aC _) (ai (bX ha0_1) aH))) (ai (aC _) aH)) (oQ [] Tryz.f186 h)
def Ag(a0_0:ByteArray)(a0_1:AV)(a1:ByteArray)(a2_0:ByteArray)(a2_1:AV):Tree :=
 .test (!(ae a0_0==ae (mk []))) (.test (ae a0_0==ae a1) (.done 0 [.agg [VS a2_0,a2_1]] []) (.done 0 [.agg [VS a0_0,a0_1]] [])) (.call 90 [.agg [VS a0_0,a0_1]] [] fun r1 o1=>NS r1<|.test (ae r1.ag==ae (mk [114,101,99])) (NG a0_1 1 2<|nw (a0_1.ix (1:Int))<|.test (ae (((a0_1.ix (1:Int)).hA).ag)==ae a1) (.done 0 [.agg [VS a0_0,a0_1]] []) (NG a0_1 1 2<|NE (a0_1.ix (1:Int))<|NG a0_1 2 2<|NE (a0_1.ix (2:Int))<|.call 187 [.agg [VS (((a0_1.ix (2:Int)).getD 0 .any).ag),((a0_1.ix (2:Int)).getD 1 .any)],VS a1,.agg [VS a2_0,a2_1]] [] fun r2 o2=>NA r2<|.call 69 [VS (mk [114,101,99]),.sl [[VS (((a0_1.ix (1:Int)).getD 0 .any).ag),((a0_1.ix (1:Int)).getD 1 .any)],[VS ((r2.cs.getD 0 .any).ag),(r2.cs.getD 1 .any)]]] [] fun r3 o3=>NA r3<|.done 0 [.agg [VS ((r3.cs.getD 0 .any).ag),(r3.cs.getD 1 .any)]] [])) (.call 90 [.agg [VS a0_0,a0_1]] [] fun r4 o4=>NS r4<|NG a0_1 1 2<|NE (a0_1.ix (1:Int))<|.call 187 [.agg [VS (((a0_1.ix (1:Int)).getD 0 .any).ag),((a0_1.ix (1:Int)).getD 1 .any)],VS a1,.agg [VS a2_0,a2_1]] [] fun r5 o5=>NA r5<|NG a0_1 2 2<|NE (a0_1.ix (2:Int))<|.call 187 [.agg [VS (((a0_1.ix (2:Int)).getD 0 .any).ag),((a0_1.ix (2:Int)).getD 1 .any)],VS a1,.agg [VS a2_0,a2_1]] [] fun r6 o6=>NA r6<|.call 69 [VS r4.ag,.sl [[VS ((r5.cs.getD 0 .any).ag),(r5.cs.getD 1 .any)],[VS ((r6.cs.getD 0 .any).ag),(r6.cs.getD 1 .any)]]] [] fun r7 o7=>NA r7<|.done 0 [.agg [VS ((r7.cs.getD 0 .any).ag),(r7.cs.getD 1 .any)]] []))
theorem Dd(a0_0:ByteArray)(a0_1:AV)(a1:ByteArray)(a2_0:ByteArray)(a2_1:AV)(ha0_1:LK.has .sl a0_1)(ha2_1:LK.has .sl a2_1)(h:dT 58 (Ag a0_0 a0_1 a1 a2_0 a2_1) R):az Tryz.prog 187 [.agg [VS a0_0,a0_1],VS a1,.agg [VS a2_0,a2_1]] [] R :=
 uQ (ai (cF (ai (aC _) (ai (bX ha0_1) aH))) (ai (aC _) (ai (cF (ai (aC _) (ai (bX ha2_1) aH))) aH))) (oQ [] Tryz.f187 h)
def Ev:LI:={hd:={cd:=[(0,.k .sl),(1,.c (.func (.func 166) #[] #[])),(7,.k (.int .i64)),(8,.k (.int .i64))]},xs:={},rt:={cd:=[(4,.k (.int .i64))]},ex:=0}
def Hz:Code:=dL (dy Tryz.f188) 2
def IJ:List (Nat×LI):=[(2,Ev)]
def Kx(a0:AV):Tree :=
 NL a0<|.loop Hz Ev [a0,.v (.func (.func 166) #[] #[]),VI (a0.aS.length:Int),VI 0] [] (fun y2 q2=>.done 0 [VI (-1)] []) (fun y2 q2=>NI (y2.hA)<|.done 0 [VI ((y2.hA).toInt)] [])
theorem L5(a0:AV)(ha0:LK.has .sl a0)(h:dT 19 (Kx a0) R):az Tryz.prog 188 [a0,.v (.func (.func 166) #[] #[])] [] R :=
 uQ (ai (bX ha0) (ai (aC _) aH)) (oQ IJ Tryz.f188 h)
def E8(x0:AV)(x7:Int)(x8:Int):Tree :=
 NL x0<|.al (AV.v (.func (.func 166) #[] #[])=.v (.func (.func 166) #[] #[]))<|NI (VI x7)<|NI (VI x8)<|.test (decide (x8<x7)) (NG x0 x8 1<|nw (x0.ix x8)<|.call 166 [VS (((x0.ix x8).hA).ag)] [] fun r1 o1=>NB r1<|.test r1.toBool (.done 2 [VI x8] []) (.done 0 [x0,.v (.func (.func 166) #[] #[]),VI x7,VI (IntKind.wrap .i64 (x8+1))] [])) (.done 1 [] [])
abbrev EM:=cP Tryz.prog 19 Hz Ev
theorem GC(x0:AV)(x7:Int)(x8:Int)(h:n9 19 (E8 x0 x7 x8) EM U):EM [x0,.v (.func (.func 166) #[] #[]),VI x7,VI x8] [] U :=
 gQ IJ h
def E6(a0:AV)(e1_0:List (List AV)):Tree :=
 NZ a0<|NZ a0<|.al (LK.has (.int .u8) (a0.deref.hA)/\1<=a0.deref.length)<|.test (((a0.deref.hA).toInt)==(110:Int)) (NZ a0<|NZ a0<|nw (a0.deref.drop 1)<|.call 185 [.sl e1_0,VS (((a0.deref.drop 1).hA).ag)] [] fun r1 o1=>NB r1<|.test (!r1.toBool) (NZ a0<|NZ a0<|nw (a0.deref.drop 1)<|.al (cT 1 [[VS (((a0.deref.drop 1).hA).ag)]]/\((e1_0.length)+([[VS (((a0.deref.drop 1).hA).ag)]]:List (List AV)).length)*16<=140737488355328)<|.done 0 [.any] [.cells [.vec 1],.vec 1 (e1_0++([[VS (((a0.deref.drop 1).hA).ag)]]:List (List AV)))]) (.done 0 [.any] [.cells [.vec 1],.vec 1 e1_0])) (.done 0 [.any] [.cells [.vec 1],.vec 1 e1_0])
theorem MP(a0:AV)(e1_0:List (List AV))(ha0:LK.has .ptr a0)(h:dT 24 (E6 a0 e1_0) R):az Tryz.prog 189 [a0,.ref 0 0] [.cells [.vec 1],.vec 1 e1_0] R :=
 az.rL (cu (db (ai (aC _) aH)) (cu (mn _) dr)) (az.up (ai (ci ha0) (ai (aC _) aH)) (oF [] {mu:=[(1,.one (.obj [.vec 1]))],own:=[]} Tryz.f189 h))
def DT:LI:={hd:={cd:=[(0,.k .sl),(1,.k .str),(7,.k (.int .i64)),(8,.k (.int .i64))]},xs:={},rt:={cd:=[(4,.k (.int .i64))]},ex:=0}
def HA:Code:=dL (dy Tryz.f202) 2
def HC:List (Nat×LI):=[(2,DT)]
def GR(a0:AV)(a1:ByteArray):Tree :=
 NL a0<|.loop HA DT [a0,VS a1,VI (a0.aS.length:Int),VI 0] [] (fun y1 q1=>.done 0 [VI (-1)] []) (fun y1 q1=>NI (y1.hA)<|.done 0 [VI ((y1.hA).toInt)] [])
theorem Nz(a0:AV)(a1:ByteArray)(ha0:LK.has .sl a0)(h:dT 19 (GR a0 a1) R):az Tryz.prog 202 [a0,VS a1] [] R :=
 uQ (ai (bX ha0) (ai (aC _) aH)) (oQ HC Tryz.f202 h)
def E9(x0:AV)(x1:ByteArray)(x7:Int)(x8:Int):Tree :=
 NL x0<|NS (VS x1)<|NI (VI x7)<|NI (VI x8)<|.test (decide (x8<x7)) (NG x0 x8 1<|nw (x0.ix x8)<|.test (ae x1==ae (((x0.ix x8).hA).ag)) (.done 2 [VI x8] []) (.done 0 [x0,VS x1,VI x7,VI (IntKind.wrap .i64 (x8+1))] [])) (.done 1 [] [])
abbrev FH:=cP Tryz.prog 19 HA DT
theorem J0(x0:AV)(x1:ByteArray)(x7:Int)(x8:Int)(h:n9 19 (E9 x0 x1 x7 x8) FH U):FH [x0,VS x1,VI x7,VI x8] [] U :=
 gQ HC h
end
end Go.Proofs.Trees
namespace Go.Proofs.Trees
open Go Go.VL
theorem bS(i:Nat)(h:i<1000000000000):IntKind.wrap .i64 ((i:Int)+1)=((i+1:Nat):Int):=by rw[wrap64]<;>omega
inductive E where
 |atom (s:List UInt8)
 |list (l:List E)
mutual
def E.dQ:E->AV
 | .atom s=>.ptr [.v (.string (mk s)),.v (.slice none 0 0)]
 | .list l=>.ptr [.v (.string (mk [])),.sl (E.lM l)]
def E.lM:List E->List (List AV)
 |[]=>[]
 |e::l=>[e.dQ]::E.lM l
end
mutual
def E.gX:E->List AV
 | .atom s=>[.v (.string (mk s)),.v (.slice none 0 0)]
 | .list l=>[.v (.string (mk [])),.sl (E.bb l)]
def E.bb:List E->List (List AV)
 |[]=>[]
 |e::l=>e.gX::E.bb l
end
def E.ka(e:E):AV:=.agg e.gX
theorem uJ(l r:List E):E.lM (l++r)=E.lM l++E.lM r:=by
 induction l with
 |nil=>rfl
 |cons e l ih=>simp[E.lM,ih]
theorem pB(l r:List E):E.bb (l++r)=E.bb l++E.bb r:=by
 induction l with
 |nil=>rfl
 |cons e l ih=>simp[E.bb,ih]
theorem qP(l:List E):(E.lM l).length=l.length:=by
 induction l with
 |nil=>rfl
 |cons e l ih=>simp[E.lM,ih]
theorem dV(l:List E):(E.bb l).length=l.length:=by
 induction l with
 |nil=>rfl
 |cons e l ih=>simp[E.bb,ih]
def eV(b:UInt8):Bool:=decide ((97<=b.toNat/\b.toNat<=122)\/(48<=b.toNat/\b.toNat<=57)\/b.toNat=43\/b.toNat=42)
def rD(f:List UInt8->Option (E×List UInt8)):Nat->List UInt8->List E->Option (E×List UInt8)
 |0,_,_=>none
 |
  n+1,s,acc=>match f s with
  |some (p,c::r)=>if c.toNat=41 then some (.list (acc++[p]),r)else if c.toNat=32 then rD f n r (acc++[p])else none
  |_=>none
def rd:Nat->List UInt8->Option (E×List UInt8)
 |0,s=>if s.takeWhile eV=[]then none else some (.atom (s.takeWhile eV),s.dropWhile eV)
 |k+1,s=>if s.takeWhile eV=[]then(match s with
  |c::r=>if c.toNat=40 then rD (rd k) (r.length+1) r []else none
  |[]=>none)else some (.atom (s.takeWhile eV),s.dropWhile eV)
theorem AA{f:List UInt8->Option (E×List UInt8)}(hf:∀s e r,f s=some (e,r)->r.length<s.length):∀(n:Nat) (s:List UInt8) (acc:List E) (e:E) (r:List UInt8),rD f n s acc=some (e,r)->r.length<s.length
 |0,s,acc,e,r,h=>by cases h
 |
  n+1,s,acc,e,r,h=>by
  simp only[rD]at h
  split at h
  ·rename_i p c r' hs
   have:=hf _ _ _ hs
   simp only[aq]at this
   split at h
   ·cases h;omega
   ·split at h
    ·have:=AA hf n _ _ _ _ h;omega
    ·cases h
  ·cases h
theorem nL{s:List UInt8}(h:¬s.takeWhile eV=[]):(s.dropWhile eV).length<s.length:=by
 have h1:=congrArg List.length (bL (p:=eV) (l:=s))
 simp only[an]at h1
 have:0<(s.takeWhile eV).length:=List.length_pos_iff.2 h
 omega
theorem wU:∀(k:Nat) (s:List UInt8) (e:E) (r:List UInt8),rd k s=some (e,r)->r.length<s.length
 |
  0,s,e,r,h=>by
  simp only[rd]at h
  split at h
  ·cases h
  ·rename_i hn;cases h;exact nL hn
 |
  k+1,s,e,r,h=>by
  simp only[rd]at h
  split at h
  ·split at h
   ·split at h
    ·have:=AA (wU k) _ _ _ _ _ h
     simp only[aq];omega
    ·cases h
   ·cases h
  ·rename_i hn;cases h;exact nL hn
theorem MO(b:UInt8):az Tryz.prog 174 [.v (.int .u8 (b.toNat:Int))] [] (bG (.v (.bool (eV b)))):=by
 refine K8 _ ?_
 simp only[Hq,↓zq,zs,af,bG,eV]
 repeat' (apply aF<;>intro _)
 all_goals first|(congr 2;rw[cX];simp;omega)|(congr 2;simp;omega)
theorem wV{s:List UInt8}{i:Nat}(hi:i<s.length)(hb:eV (s.getD i 0)=true):((s.drop i).takeWhile eV).length=((s.drop (i+1)).takeWhile eV).length+1:=by
 have e:s.drop i=s.getD i 0::s.drop (i+1):=by
  rw[ba hi];simp[aa,hi]
 rw[e,List.takeWhile_cons_of_pos hb];simp
theorem p9{s:List UInt8}{i:Nat}(hi:i<s.length)(hb:eV (s.getD i 0)=false):(s.drop i).takeWhile eV=[]:=by
 have e:s.drop i=s.getD i 0::s.drop (i+1):=by
  rw[ba hi];simp[aa,hi]
 rw[e,List.takeWhile_cons_of_neg (by rw[hb];simp)]
theorem D8(s:List UInt8)(hs:s.length<=8000)(d:Int):∀(k i:Nat),i+k=s.length->DX [.v (.string (mk s)),.v (.int .i64 d),.v (.int .i64 (i:Int))] [] (ki 1 [.v (.string (mk s)),.v (.int .i64 d),.v (.int .i64 ((i+((s.drop i).takeWhile eV).length:Nat):Int))] [])
 |
  0,i,hi=>by
  refine Jd _ _ _ ?_
  have hd:s.drop i=[]:=bB (by omega)
  simp only[F1,↓zq,zs,af,zt]
  exact⟨fun h=>by omega,fun _=>by simp[ki,hd]⟩
 |
  k+1,i,hi=>by
  have hlt:i<s.length:=by omega
  refine Jd _ _ _ ?_
  simp only[F1,↓zq,zs,af,zt,lI s i hlt]
  refine⟨fun _=>⟨by omega,?_⟩,fun h=>by omega⟩
  refine aj (MO _) ?_
  simp only[↓zq,zs,af]
  refine⟨fun hb=>?_,fun hb=>?_⟩
  ·rw[bS i (by omega)]
   have:=D8 s hs d k (i+1) (by omega)
   rw[wV hlt hb,show i+(((s.drop (i+1)).takeWhile eV).length+1)=i+1+((s.drop (i+1)).takeWhile eV).length by omega]
   exact this
  ·simp[ki,p9 hlt hb]
def nI(s:List UInt8):Option (E×List UInt8)->AV
 |some (e,r)=>.cx [e.dQ,.v (.string (mk r))]
 |none=>.cx [.v (.pointer none),.v (.string (mk s))]
theorem cB(e:E):LK.has .ptr e.dQ=True:=by cases e<;>simp[E.dQ,cC]
theorem ef(e:E):e.dQ.isNil=false:=by cases e<;>rfl
theorem sQ(s:List UInt8):s.take (s.takeWhile eV).length=s.takeWhile eV:=by
 have h:=bL (p:=eV) (l:=s)
 have:(s.takeWhile eV++s.dropWhile eV).take (s.takeWhile eV).length=s.takeWhile eV:=List.take_left
 rw[h]at this;exact this
theorem wH(s:List UInt8):s.drop (s.takeWhile eV).length=s.dropWhile eV:=by
 have h:=bL (p:=eV) (l:=s)
 have:(s.takeWhile eV++s.dropWhile eV).drop (s.takeWhile eV).length=s.dropWhile eV:=List.drop_left
 rw[h]at this;exact this
theorem Aj(c:UInt8)(r:List UInt8):(List.take (r.length+1) (c::r)).drop (bM 1)=r:=by simp
theorem JB(s0:List UInt8)(k:Nat)(hk:k<300)(ih:∀s,s.length<=8000->az Tryz.prog 147 [.v (.string (mk s)),.v (.int .i64 ((300-k:Nat):Int))] [] (bG (nI s (rd k s)))) :
 ∀(n:Nat) (s:List UInt8) (acc:List E),s.length<n->s.length+acc.length<=8000->Fb [.v (.string (mk s0)),.v (.int .i64 ((300-(k+1):Nat):Int)),.v (.string (mk s))] [.cells [.v (.string (mk [])),.any],.vec 1 (E.lM acc)]
  (rK (match rD (rd k) n s acc with|some (e,r)=>(2,[e.dQ,.v (.string (mk r))],[])|none=>(2,[.v (.pointer none),.v (.string (mk s0))],[])))
 |0,s,acc,hn,_=>by omega
 |
  n+1,s,acc,hn,hl=>by
  refine Ms _ _ _ _ _ ?_
  simp only[Jv,↓zq,zs,af,AC]
  have hd:IntKind.wrap .i64 (((300-(k+1):Nat):Int)+1)=((300-k:Nat):Int):=by rw[wrap64]<;>omega
  rw[hd]
  refine aj (ih s (by omega)) ?_
  have hlt:=wU k s
  cases hr:rd k s with
  |
   none =>
   simp only[nI,↓zq,zs,af,rD,hr]
   simp[rK]
  |
   some q =>
   obtain⟨e,r⟩:=q
   have:=hlt e r hr
   cases r with
   |
    nil =>
    simp only[nI,↓zq,zs,af,zt,rD,hr,cB,ef]
    simp[rK]
   |
    cons c r =>
    simp only[aq]at this
    have hb:=lI (c::r) 0 (by simp)
    simp only[cz,cV]at hb
    have e2:(List.take (c::r).length (c::r)).drop 1=r:=by simp
    simp only[nI,↓zq,zs,af,zt,rD,hr,cB,ef,hb,e2,qP]
    refine⟨fun h=>(by cases h),fun _=>⟨fun h=>(by cases h),fun _=>⟨⟨fun c hc=>(by simp at hc;rw[hc];rfl),by omega⟩,by omega,by omega,fun h41=>?_,fun h41=>⟨by omega,fun h32=>?_,fun h32=>?_⟩⟩⟩⟩
    ·have h41':c.toNat=41:=by omega
     rw[Aj,if_pos h41']
     simp[rK,E.dQ,uJ,E.lM]
    ·have h41':¬c.toNat=41:=by omega
     have h32':¬c.toNat=32:=by omega
     rw[if_neg h41',if_neg h32']
    ·have h41':¬c.toNat=41:=by omega
     have h32':c.toNat=32:=by omega
     rw[Aj,if_neg h41',if_pos h32']
     have:=JB s0 k hk ih n r (acc++[e]) (by omega) (by simp;omega)
     simpa[uJ,E.lM]using this
theorem Lh:∀(k:Nat),k<=300->∀s:List UInt8,s.length<=8000->az Tryz.prog 147 [.v (.string (mk s)),.v (.int .i64 ((300-k:Nat):Int))] [] (bG (nI s (rd k s))):=by
 intro k
 induction k with
 |
  zero =>
  intro hk s hs
  refine JO _ _ ?_
  unfold F4
  refine df (D8 s hs _ s.length 0 (by omega)) ?_
  simp only[↓zq,zs,af,zt,aR,bG]
  have hw:(s.takeWhile eV).length<=s.length:=by
   have:=congrArg List.length (bL (p:=eV) (l:=s))
   simp only[an]at this;omega
  refine⟨fun h=>⟨by omega,by omega,?_⟩,fun h=>?_⟩
  ·have hne:¬s.takeWhile eV=[]:=fun e=>by rw[e]at h;simp at h
   simp only[rd,if_neg hne,nI,E.dQ,sQ,wH]
  ·have hnil:s.takeWhile eV=[]:=List.eq_nil_of_length_eq_zero (by omega)
   simp only[rd,if_pos hnil,nI]
   refine⟨fun _=>trivial,fun hne=>⟨?_,?_⟩⟩
   ·cases s with
    |nil=>exact absurd rfl hne
    |cons c s=>simp
   ·exact⟨fun _=>trivial,fun _=>⟨fun _=>trivial,fun h=>absurd rfl h⟩⟩
 |
  succ k ih =>
  intro hk s hs
  refine JO _ _ ?_
  unfold F4
  refine df (D8 s hs _ s.length 0 (by omega)) ?_
  simp only[↓zq,zs,af,zt,aR,bG]
  have hw:(s.takeWhile eV).length<=s.length:=by
   have:=congrArg List.length (bL (p:=eV) (l:=s))
   simp only[an]at this;omega
  refine⟨fun h=>⟨by omega,by omega,?_⟩,fun h=>?_⟩
  ·have hne:¬s.takeWhile eV=[]:=fun e=>by rw[e]at h;simp at h
   simp only[rd,if_neg hne,nI,E.dQ,sQ,wH]
  ·have hnil:s.takeWhile eV=[]:=List.eq_nil_of_length_eq_zero (by omega)
   simp only[rd,if_pos hnil]
   cases s with
   |nil=>simp[nI]
   |
    cons c s =>
    have hb:=lI (c::s) 0 (by simp)
    simp only[cz,cV]at hb
    simp only[aq]at hs
    simp only[↓zq,zs,af,hb,Aj]
    refine⟨fun h=>(by cases h),fun _=>⟨by omega,fun h40=>?_,fun h40=>⟨fun h300=>?_,fun h300=>⟨by omega,?_⟩⟩⟩⟩
    ·have:¬c.toNat=40:=by omega
     rw[if_neg this];rfl
    ·omega
    ·have h40':c.toNat=40:=by omega
     rw[if_pos h40']
     refine i6 (JB (c::s) k (by omega) (ih (by omega)) (s.length+1) s [] (by omega) (by simp;omega)) (fun ys o e=>?_) (fun ys o e=>?_)
     ·split at e<;>cases e
     ·split at e<;>cases e
      ·rename_i e' r' hr
       simp only[↓zq,zs,af,cB]
       simp only[hr,nI]
      ·rename_i hr
       simp only[↓zq,zs,af]
       simp only[hr,nI]
end Go.Proofs.Trees
namespace Go.Proofs.Trees
open Go Go.VL
mutual
def E.sz:E->Nat
 | .atom _=>1
 | .list l=>1+E.iX l
def E.iX:List E->Nat
 |[]=>0
 |e::l=>e.sz+E.iX l
end
mutual
def E.ok:E->Prop
 | .atom s=>s≠[]
 | .list l=>E.CO l
def E.CO:List E->Prop
 |[]=>True
 |e::l=>e.ok/\E.CO l
end
theorem wY(l r:List E):E.iX (l++r)=E.iX l+E.iX r:=by
 induction l with
 |nil=>simp[E.iX]
 |cons e l ih=>simp[E.iX,ih];omega
theorem xr(l r:List E):E.CO (l++r)↔E.CO l/\E.CO r:=by
 induction l with
 |nil=>simp[E.CO]
 |cons e l ih=>simp[E.CO,ih,and_assoc]
theorem Aq{f:List UInt8->Option (E×List UInt8)}(hf:∀s e r,f s=some (e,r)->e.ok/\e.sz+r.length<=s.length):∀(n:Nat) (s:List UInt8) (acc:List E) (e:E) (r:List UInt8),rD f n s acc=some (e,r)->E.CO acc->e.ok/\e.sz+r.length<=s.length+1+E.iX acc
 |0,s,acc,e,r,h,_=>by cases h
 |
  n+1,s,acc,e,r,h,ha=>by
  simp only[rD]at h
  split at h
  ·rename_i p c r' hs
   obtain⟨h1,h2⟩:=hf _ _ _ hs
   simp only[aq]at h2
   split at h
   ·cases h
    refine⟨(xr _ _).2 ⟨ha,h1,trivial⟩,?_⟩
    simp only[E.sz,wY,E.iX];omega
   ·split at h
    ·have:=Aq hf n _ _ _ _ h ((xr _ _).2 ⟨ha,h1,trivial⟩)
     refine⟨this.1,?_⟩
     have h3:=this.2
     simp only[wY,E.iX]at h3;omega
    ·cases h
  ·cases h
theorem sX(s:List UInt8):(s.takeWhile eV).length+(s.dropWhile eV).length=s.length:=by
 have:=congrArg List.length (bL (p:=eV) (l:=s))
 simpa only[an]using this
theorem Dz:∀(k:Nat) (s:List UInt8) (e:E) (r:List UInt8),rd k s=some (e,r)->e.ok/\e.sz+r.length<=s.length
 |
  0,s,e,r,h=>by
  simp only[rd]at h
  split at h
  ·cases h
  ·rename_i hn;cases h
   have:=sX s
   have:0<(s.takeWhile eV).length:=List.length_pos_iff.2 hn
   exact⟨hn,by simp only[E.sz];omega⟩
 |
  k+1,s,e,r,h=>by
  simp only[rd]at h
  split at h
  ·split at h
   ·split at h
    ·have:=Aq (Dz k) _ _ _ _ _ h trivial
     refine⟨this.1,?_⟩
     have h3:=this.2
     simp only[E.iX,aq]at h3 |-;omega
    ·cases h
   ·cases h
  ·rename_i hn;cases h
   have:=sX s
   have:0<(s.takeWhile eV).length:=List.length_pos_iff.2 hn
   exact⟨hn,by simp only[E.sz];omega⟩
def qj(s:List UInt8):Option E:=if s.length>8000 then none else match rd 300 s with|some (e,[])=>some e|_=>none
theorem mZ{s:List UInt8}{e:E}(h:qj s=some e):e.ok/\e.sz<=8000:=by
 unfold qj at h
 split at h
 ·cases h
 ·split at h
  ·rename_i e' hr
   cases h
   have:=Dz _ _ _ _ hr
   exact⟨this.1,by have:=this.2;simp at this;omega⟩
  ·cases h
def tz:Option E->AV
 |some e=>e.dQ
 |none=>.v (.pointer none)
theorem Hm(s:List UInt8):az Tryz.prog 103 [.v (.string (mk s))] [] (bG (tz (qj s))):=by
 refine LQ _ ?_
 simp only[HB,↓zq,zs,af,zt,bG,qj]
 refine⟨fun h=>?_,fun h=>?_⟩
 ·rw[if_pos (by omega)];simp[tz]
 ·rw[if_neg (by omega)]
  refine aj (Lh 300 (by omega) s (by omega)) ?_
  cases hr:rd 300 s with
  |
   none =>
   simp only[nI,↓zq,zs,af,zt,tz]
   refine⟨fun _=>trivial,fun _=>trivial⟩
  |
   some q =>
   obtain⟨e,r⟩:=q
   cases r with
   |nil=>simp only[nI,↓zq,zs,af,zt,tz,cB];simp
   |cons c r=>simp only[nI,↓zq,zs,af,zt,tz,cB];simp
def gU(b:UInt8):Bool:=decide (48<=b.toNat/\b.toNat<=57)
def named(lo hi:Nat):List UInt8->Bool
 |[]=>false
 |c::r=>decide (r.length<=2)&&decide (lo<=c.toNat/\c.toNat<=hi)&&r.all gU
def ff(s:List UInt8):Bool:=named 120 122 s
def cQ(s:List UInt8):Bool:=named 116 116 s
def DJ(v lo hi:Int):Bool:=decide (lo<=v/\v<=hi)
theorem BO(v lo hi:Int):az Tryz.prog 87 [.v (.int .i64 v),.v (.int .i64 lo),.v (.int .i64 hi)] [] (bG (.v (.bool (DJ v lo hi)))):=by
 refine Nr _ _ _ ?_
 simp only[Ju,↓zq,zs,af,bG,DJ]
 constructor<;>intro h<;>simp at h<;>simp[h]
 omega
theorem I9(s:List UInt8)(hs:s.length<=3):∀(k i:Nat),i+k=s.length->D2 [.v (.string (mk s)),.v (.int .i64 (i:Int))] [] (rK (if(s.drop i).all gU=true then(1,[],[])else(2,[.v (.bool false)],[])))
 |
  0,i,hi=>by
  have hd:s.drop i=[]:=bB (by omega)
  refine JT _ _ ?_
  simp only[F8,↓zq,zs,af,zt]
  exact⟨fun h=>by omega,fun _=>by simp[rK,hd]⟩
 |
  k+1,i,hi=>by
  have hlt:i<s.length:=by omega
  have e:s.drop i=s.getD i 0::s.drop (i+1):=by
   rw[ba hlt];simp[aa,hlt]
  refine JT _ _ ?_
  simp only[F8,↓zq,zs,af,zt,lI s i hlt,e,cJ]
  generalize hb:s.getD i 0=b
  refine⟨fun _=>⟨by omega,fun h=>?_,fun h=>⟨by omega,fun h2=>?_,fun h2=>?_⟩⟩,fun h=>by omega⟩
  ·have:gU b=false:=by simp[gU];omega
   simp only[this,zf,rK]
  ·have:gU b=false:=by simp[gU];omega
   simp only[this,zf,rK]
  ·have:gU b=true:=by simp[gU];omega
   rw[bS i (by omega),this,bW]
   exact I9 s hs k (i+1) (by omega)
theorem HS(s:List UInt8)(lo hi:Nat):az Tryz.prog 144 [.v (.string (mk s)),.v (.int .u8 (lo:Int)),.v (.int .u8 (hi:Int))] [] (bG (.v (.bool (named lo hi s)))):=by
 refine Mz _ _ _ ?_
 unfold II
 rw[cO]
 refine aj (BO _ _ _) ?_
 simp only[↓zq,zs,af,zt,bG]
 refine⟨fun h=>?_,fun h=>?_⟩
 ·cases s with
  |nil=>rfl
  |
   cons c s =>
   simp[DJ]at h
   have:¬s.length<=2:=by omega
   simp[named,this]
 ·cases s with
  |nil=>simp[DJ]at h
  |
   cons c s =>
   simp[DJ]at h
   have hl:s.length<=2:=by omega
   have hb:=lI (c::s) 0 (by simp)
   simp only[cz,cV]at hb
   simp only[↓zq,zs,af,hb]
   refine⟨by omega,fun h1=>?_,fun h1=>⟨by omega,fun h2=>?_,fun h2=>?_⟩⟩
   ·have:¬lo<=c.toNat:=by omega
    simp[named,this]
   ·have:¬c.toNat<=hi:=by omega
    simp[named,this]
   ·refine i6 (I9 (c::s) (by simp;omega) s.length 1 (by simp;omega)) (fun ys o e=>?_) (fun ys o e=>?_)
    ·split at e<;>cases e
     rename_i ha
     simp at ha
     simp only[↓zq,zs,af]
     simp[named,hl]
     exact⟨⟨by omega,by omega⟩,fun x hx=>by simpa using ha x hx⟩
    ·split at e<;>cases e
     rename_i ha
     simp only[↓zq,zs,af]
     have:s.all gU=false:=by simpa using ha
     simp[named,this]
theorem AO(s:List UInt8):az Tryz.prog 100 [.v (.string (mk s))] [] (bG (.v (.bool (ff s)))):=by
 refine Lr _ ?_
 unfold H8
 refine aj (HS s 120 122) ?_
 simp only[↓zq,zs,af,bG,ff]
theorem EH(s:List UInt8):az Tryz.prog 99 [.v (.string (mk s))] [] (bG (.v (.bool (cQ s)))):=by
 refine Nt _ ?_
 unfold G7
 refine aj (HS s 116 116) ?_
 simp only[↓zq,zs,af,bG,cQ]
end Go.Proofs.Trees
namespace Go.Proofs.Trees
open Go Go.VL Go.RowKit
theorem Le(l:List UInt8)(c:UInt8):az Tryz.prog 151 [.v (.string (mk l)),.v (.string (mk [c]))] [] (bG (.v (.bool (decide (0<=Lib.indexByte l c))))):=by
 refine az.ND (xs:=[.string (mk l),.string (mk [c])]) ⟨mM,by kernel_rfl,by kernel_rfl,by kernel_rfl⟩ fun w=>?_
 have:=Any.strings_Contains_one Tryz.BU (mk l) c w
 refine Calls.mono this fun e w' ⟨h1,h2⟩=>?_
 rw[h2]
 have hd:(mk l).data.toList=l:=by simp[mk]
 exact⟨by rw[h1,hd],Below.refl _ _⟩
theorem JU(l cs:List UInt8)(hl:l.length<=1000000)(hc:cs.length<=1000)(ha:∀b,b∈cs->b.toNat<128):az Tryz.prog 152 [.v (.string (mk l)),.v (.string (mk cs))] [] (bG (.v (.string (mk (Lib.trimS l cs))))):=by
 refine az.ND (xs:=[.string (mk l),.string (mk cs)]) ⟨pY,by kernel_rfl,by kernel_rfl,by kernel_rfl⟩ fun w=>?_
 have:=Any.strings_Trim_laid Tryz.CT (by kernel_rfl) (mk l) (mk cs) w (by rw[cO];omega) (by rw[cO];omega) (fun j b hj=>ha b (by
  have:(mk cs).data.toList=cs:=by simp[mk]
  rw[this]at hj
  exact List.mem_of_getElem? hj))
 refine Calls.mono this fun e w' ⟨h1,h2⟩=>⟨?_,h2⟩
 rw[h1]
 simp[mk]
theorem mS:∀(l:List UInt8) (c:UInt8),(0<=Lib.indexByte l c↔c∈l)/\-1<=Lib.indexByte l c
 |[],c=>by simp[Lib.indexByte]
 |
  b::l,c=>by
  obtain⟨h1,h2⟩:=mS l c
  unfold Lib.indexByte
  by_cases e:b=c
  ·subst e;simp
  ·have e':(b==c)=false:=by simp[e]
   rw[e']
   by_cases q:Lib.indexByte l c = -1
   ·have:c∉l:=fun h=>by have:=h1.2 h;omega
    simp[q,this,Ne.symm e]
   ·have q':(Lib.indexByte l c==-1)=false:=by simp[q]
    simp only[q',Bool.false_eq_true,if_false,aI]
    constructor
    ·constructor
     ·intro h;exact .inr (h1.1 (by omega))
     ·intro h
      rcases h with h|h
      ·exact absurd h.symm e
      ·have:=h1.2 h;omega
    ·omega
theorem dropWhile_nil{p:UInt8->Bool}:∀(l:List UInt8),l.dropWhile p=[]↔l.all p=true
 |[]=>by simp
 |
  b::l=>by
  cases h:p b with
  |true=>rw[List.dropWhile_cons_of_pos h,dropWhile_nil l];simp[h]
  |false=>rw[List.dropWhile_cons_of_neg (by rw[h];simp)];simp[h]
theorem rZ(l cs:List UInt8):Lib.trimS l cs=[]↔l.all (cs.contains ·)=true:=by
 unfold Lib.trimS Lib.trimLeftS
 rw[dropWhile_nil]
 unfold Lib.trimRightS
 constructor
 ·intro h
  by_cases hn:l.reverse.dropWhile (cs.contains ·)=[]
  ·rw[dropWhile_nil]at hn
   simpa using hn
  ·exfalso
   rw[List.all_reverse]at h
   obtain⟨b,r,e⟩:=List.exists_cons_of_ne_nil hn
   have h1:cs.contains b=false:=by
    have:=List.head_dropWhile_not (p:=(cs.contains ·)) (l:=l.reverse) hn
    simp only[e,List.head_cons]at this
    exact this
   rw[e]at h
   simp only[cJ,au]at h
   rw[h1]at h;cases h.1
 ·intro h
  have:l.reverse.dropWhile (cs.contains ·)=[]:=by rw[dropWhile_nil];simpa using h
  rw[this];rfl
def D7:List UInt8:=[48,49,50,51,52,53,54,55,56,57]
theorem uD(b:UInt8):D7.contains b=gU b:=by
 have:∀n:Fin 256,D7.contains (aX n.val)=gU (aX n.val):=by decide +kernel
 have:=this ⟨b.toNat,b.toNat_lt⟩
 simpa using this
theorem J1(s ls:List UInt8)(lo hi:Nat)(hls:∀c:UInt8,c∈ls↔lo<=c.toNat/\c.toNat<=hi):az Tryz.prog 111 [.v (.string (mk s)),.v (.string (mk ls))] [] (bG (.v (.bool (named lo hi s)))):=by
 refine MV _ _ ?_
 simp only[IX,↓zq,zs,af,zt,bG]
 cases s with
 |nil=>exact⟨fun h=>by simp at h,fun _=>rfl⟩
 |
  cons c s =>
  have e1:(List.take (bM 1) (c::s))=[c]:=rfl
  have e2:(List.take (s.length+1) (c::s)).drop (bM 1)=s:=by simp
  simp only[aq,e1,e2]
  refine⟨fun _=>⟨fun h3=>⟨by omega,?_⟩,fun h3=>?_⟩,fun h=>by omega⟩
  ·have hl:s.length<=2:=by omega
   refine aj (Le ls c) ?_
   simp only[↓zq,zs,af]
   have hi1:=(mS ls c).1
   refine⟨fun h=>⟨by omega,?_⟩,fun h=>?_⟩
   ·refine aj (JU s D7 (by omega) (by decide) (by decide)) ?_
    simp only[↓zq,zs,af,zt]
    have hc:=(hls c).1 (hi1.1 h)
    congr 2
    rw[cX,beq_iff_eq,rZ]
    simp only[named,hl,hc,decide_true,bW,and_self]
    have:(fun x=>D7.contains x)=gU:=funext uD
    rw[this]
   ·have hc:¬(lo<=c.toNat/\c.toNat<=hi):=fun h'=>h (hi1.2 ((hls c).2 h'))
    simp only[named,hc,zf]
  ·have hl:¬s.length<=2:=by omega
   simp only[named,hl,zf]
theorem FA(s:List UInt8):az Tryz.prog 59 [.v (.string (mk s))] [] (bG (.v (.bool (ff s)))):=by
 refine Mh _ ?_
 unfold Hy
 have h:∀n:Fin 256,(aX n.val∈[(120:UInt8),121,122])↔120<=(aX n.val).toNat/\(aX n.val).toNat<=122:=by decide +kernel
 refine aj (J1 s [120,121,122] 120 122 fun c=>by simpa using h ⟨c.toNat,c.toNat_lt⟩) ?_
 simp only[↓zq,zs,af,bG,ff]
theorem Co(s:List UInt8):az Tryz.prog 166 [.v (.string (mk s))] [] (bG (.v (.bool (cQ s)))):=by
 refine M6 _ ?_
 unfold HT
 have h:∀n:Fin 256,(aX n.val∈[(116:UInt8)])↔116<=(aX n.val).toNat/\(aX n.val).toNat<=116:=by decide +kernel
 refine aj (J1 s [116] 116 116 fun c=>by simpa using h ⟨c.toNat,c.toNat_lt⟩) ?_
 simp only[↓zq,zs,af,bG,cQ]
end Go.Proofs.Trees
namespace Go.Proofs.Trees
open Go Go.VL
inductive Ty where
 |zero|one
 |name (s:List UInt8)
 |bA (up:Nat)
 |plus (a b:Ty)
 |times (a b:Ty)
 |rc (a:Ty)
def Ty.av:Ty->AV
 | .zero=>.ptr [.v (.int .u8 48),.v (.string (mk [])),.v (.int .i64 0),.v (.pointer none),.v (.pointer none)]
 | .one=>.ptr [.v (.int .u8 49),.v (.string (mk [])),.v (.int .i64 0),.v (.pointer none),.v (.pointer none)]
 | .name s=>.ptr [.v (.int .u8 110),.v (.string (mk s)),.v (.int .i64 0),.v (.pointer none),.v (.pointer none)]
 | .bA up=>.ptr [.v (.int .u8 98),.v (.string (mk [])),.v (.int .i64 (up:Int)),.v (.pointer none),.v (.pointer none)]
 | .plus a b=>.ptr [.v (.int .u8 43),.v (.string (mk [])),.v (.int .i64 0),a.av,b.av]
 | .times a b=>.ptr [.v (.int .u8 42),.v (.string (mk [])),.v (.int .i64 0),a.av,b.av]
 | .rc a=>.ptr [.v (.int .u8 114),.v (.string (mk [])),.v (.int .i64 0),a.av,.v (.pointer none)]
theorem aG(t:Ty):LK.has .ptr t.av=True:=by cases t<;>simp[Ty.av,cC]
theorem fg(t:Ty):t.av.isNil=false:=by cases t<;>rfl
def gW:Option Ty->AV
 |some t=>t.av
 |none=>.v (.pointer none)
theorem fP(t:Option Ty):LK.has .ptr (gW t)=True:=by cases t<;>simp[gW,aG,iM]
def E.at:E->List UInt8
 | .atom s=>s
 | .list _=>[]
def bx(s:List UInt8)(ar:List (List UInt8)):Nat->Option Nat
 |0=>none
 |i+1=>if ar.getD i []=s then some (ar.length-1-i)else bx s ar i
def cy:E->List (List UInt8)->Option Ty
 | .atom s,ar=>if s=[48]then some .zero else if s=[49]then some .one else if ff s=true then some (.name s)else if cQ s=true then(match bx s ar ar.length with|some u=>some (.bA u)|none=>some (.name s))else none
 |
  .list [x,a,b],ar =>
  if x.at=[43]then(match cy a ar,cy b ar with|some t,some u=>some (.plus t u)|_,_=>none)
  else if x.at=[42]then(match cy a ar,cy b ar with|some t,some u=>some (.times t u)|_,_=>none)
  else if x.at=[114,101,99]then(if cQ a.at=true then(match cy b (ar++[a.at])with|some t=>some (.rc t)|none=>none)else none)
  else none
 | .list _,_=>none
def cb(l:List (List UInt8)):List (List AV):=l.map fun s=>[.v (.string (mk s))]
def dN(a:AV)(l:List (List UInt8)):Prop:=LK.sl.has a/\a.aS=cb l
theorem dN.len{a:AV}{l:List (List UInt8)}(h:dN a l):a.aS.length=l.length:=by rw[h.2];simp[cb]
theorem dN.idx{a:AV}{l:List (List UInt8)}(h:dN a l){i:Nat}(hi:i<l.length):a.aS.getD i []=[.v (.string (mk (l.getD i [])))]:=by
 rw[h.2];simp[cb,aa,hi]
theorem dN.of(l:List (List UInt8)):dN (.sl (cb l)) l:=⟨(bZ _).mpr trivial,rfl⟩
theorem dN.nil:dN (.v (.slice none 0 0)) []:=⟨(bm).mpr trivial,rfl⟩
theorem xk(e:E)(w:List UInt8):az Tryz.prog 149 [e.dQ,.v (.string (mk w)),.v (.int .i64 3)] [] (bG (.v (.bool (match e with| .list [x,_,_]=>x.at==w|_=>false)))):=by
 refine KE _ _ _ ((cB e).mpr trivial) ?_
 cases e with
 |atom s=>simp only[At,E.dQ,↓zq,zs,af,zt,bG];exact⟨by omega,fun h=>by omega,fun _=>trivial⟩
 |
  list l =>
  simp only[At,E.dQ,↓zq,zs,af,zt,bG,qP]
  match l with
  |[]=>exact⟨by simp,fun h=>by simp at h,fun _=>rfl⟩
  |[_]=>exact⟨by simp,fun h=>by simp at h,fun _=>rfl⟩
  |[_,_]=>exact⟨by simp,fun h=>by simp at h,fun _=>rfl⟩
  |
   [x,y,z] =>
   refine⟨by simp,fun _=>?_,fun h=>by simp at h⟩
   cases x<;>simp[E.lM,E.dQ,cC,pn,jv,dC,tC,toList_mk,E.at]
  |_::_::_::_::l=>exact⟨by simp,fun h=>by simp at h;omega,fun _=>rfl⟩
theorem GP(e:E)(a:AV)(ar:List (List UInt8))(ha:dN a ar)(hl:ar.length<1000000):∀(i:Nat),i<=ar.length->FO [e.dQ,a,.v (.int .i64 ((i:Int)-1))] []
 (rK (match bx e.at ar i with|some u=>(2,[],[.cells [.v (.int .u8 98),.v (.string (mk [])),.v (.int .i64 (u:Int)),.v (.pointer none),.v (.pointer none)]])|none=>(1,[e.dQ],[])))
 |
  0,hi=>by
  refine Hw _ _ _ ?_
  simp only[Gc,↓zq,zs,af,cB]
  exact⟨ha.1,fun h=>by omega,fun _=>rfl⟩
 |
  i+1,hi=>by
  have hlt:i<ar.length:=by omega
  have e1:((i+1:Nat):Int)-1=(i:Int):=by omega
  rw[e1]
  refine Hw _ _ _ ?_
  have hd:e.dQ.deref.headD .any=.v (.string (mk e.at)):=by cases e<;>rfl
  have hdl:1<=e.dQ.deref.length:=by cases e<;>simp[E.dQ,jv]
  simp only[Gc,↓zq,zs,af,zt,cB,ef,ha.len,ha.idx hlt,hd,ri]
  refine⟨ha.1,fun _=>⟨⟨ha.1,by omega,by omega⟩,by omega,hdl,fun h=>⟨ha.1,?_⟩,fun h=>?_⟩,fun h=>by omega⟩
  ·simp only[bx,h,if_true,rK]
   rw[wrap64 ((ar.length:Int)-1) (by omega) (by omega),wrap64 _ (by omega) (by omega)]
   have:(ar.length:Int)-1-(i:Int)=((ar.length-1-i:Nat):Int):=by omega
   rw[this]
  ·simp only[bx,h,if_false]
   rw[wrap64 _ (by omega) (by omega)]
   exact GP e a ar ha hl i (by omega)
end Go.Proofs.Trees
namespace Go.Proofs.Trees
open Go Go.VL
theorem mV(e:E):e.dQ.deref.headD .any=.v (.string (mk e.at)):=by cases e<;>rfl
theorem kP(e:E):1<=e.dQ.deref.length:=by cases e<;>simp[E.dQ,jv]
theorem toNat_one:bM 1=1:=rfl
theorem bf:bM 2=2:=rfl
theorem yT{ar:List (List UInt8)}(s:List UInt8):cb ar++[[.v (.string (mk s))]]=cb (ar++[s]):=by simp[cb]
theorem jZ(ar:List (List UInt8)):cT 1 (cb ar):=fun c hc=>by
 obtain⟨s,_,rfl⟩:=ca.1 hc;rfl
theorem kG{x a b:E}(ar:List (List UInt8))(hx:x.at=[43]):cy (.list [x,a,b]) ar=match cy a ar,cy b ar with|some t,some u=>some (.plus t u)|_,_=>none:=by rw[cy,if_pos hx]<;>cases cy a ar<;>cases cy b ar<;>rfl
theorem jQ{x a b:E}(ar:List (List UInt8))(hx:x.at=[42]):cy (.list [x,a,b]) ar=match cy a ar,cy b ar with|some t,some u=>some (.times t u)|_,_=>none:=by rw[cy,if_neg (by rw[hx];decide),if_pos hx]<;>cases cy a ar<;>cases cy b ar<;>rfl
theorem ml{x a b:E}(ar:List (List UInt8))(hx:x.at=[114,101,99]):cy (.list [x,a,b]) ar=if cQ a.at=true then(match cy b (ar++[a.at])with|some t=>some (.rc t)|none=>none)else none:=by rw[cy,if_neg (by rw[hx];decide),if_neg (by rw[hx];decide),if_pos hx]<;>cases cy b (ar++[a.at])<;>rfl
theorem iN{x a b:E}(ar:List (List UInt8))(h1:x.at≠[43])(h2:x.at≠[42])(h3:x.at≠[114,101,99]):cy (.list [x,a,b]) ar=none:=by rw[cy,if_neg h1,if_neg h2,if_neg h3]
theorem B5:∀(e:E) (ar:List (List UInt8)) (a:AV),e.ok->dN a ar->ar.length+e.sz<100000->az Tryz.prog 153 [e.dQ,a] [] (bG (gW (cy e ar)))
 |
  .atom s,ar,a,hok,ha,hl=>by
  simp only[E.sz]at hl
  refine GS _ _ ((cB _).mpr trivial) ha.1 ?_
  have hd:=mV (.atom s)
  have hlen:=kP (.atom s)
  simp only[E.at]at hd
  simp only[FQ,↓zq,zs,af,zt,bG,cB,ef,hd,cy]
  refine⟨hlen,fun h=>⟨hlen,?_,?_⟩,fun h=>⟨hlen,fun h1=>⟨hlen,?_,?_⟩,fun h1=>⟨hlen,?_⟩⟩⟩
  ·rw[h];decide
  ·rw[if_pos h,h];rfl
  ·rw[h1];decide
  ·rw[if_neg h,if_pos h1,h1];rfl
  ·rw[if_neg h,if_neg h1]
   refine aj (FA s) ?_
   simp only[↓zq,zs,af]
   refine⟨fun hp=>⟨hlen,?_⟩,fun hp=>⟨hlen,?_⟩⟩
   ·rw[if_pos hp];rfl
   ·rw[if_neg (by rw[hp];simp)]
    refine aj (Co s) ?_
    simp only[↓zq,zs,af,ha.len]
    refine⟨fun hq=>⟨ha.1,?_⟩,fun hq=>?_⟩
    ·rw[if_pos hq,wrap64 _ (by omega) (by omega)]
     refine i6 (GP (.atom s) a ar ha (by omega) ar.length (by omega)) (fun ys o e=>?_) (fun ys o e=>?_)
     ·simp only[E.at]at e
      cases hq2:bx s ar ar.length<;>rw[hq2]at e<;>cases e
      simp only[↓zq,zs,af,zt,cB,ef,hd]
      exact⟨hlen,rfl⟩
     ·simp only[E.at]at e
      cases hq2:bx s ar ar.length<;>rw[hq2]at e<;>cases e
      simp only[↓zq,zs,af,zt,LK.has]
      simp[gW,Ty.av,af,LK.has]
    ·rw[if_neg (by rw[hq];simp)]
     refine aj (xk (.atom s) [43]) ?_
     simp only[↓zq,zs,af]
     refine⟨fun h=>(by simp at h),fun _=>?_⟩
     refine aj (xk (.atom s) [42]) ?_
     simp only[↓zq,zs,af]
     refine⟨fun h=>(by simp at h),fun _=>?_⟩
     refine aj (xk (.atom s) [114,101,99]) ?_
     simp only[↓zq,zs,af]
     refine⟨fun h=>(by simp at h),fun _=>?_⟩
     trivial
 |
  .list l,ar,a,hok,ha,hl=>by
  simp only[E.sz]at hl
  refine GS _ _ ((cB _).mpr trivial) ha.1 ?_
  have hd:=mV (.list l)
  have hlen:=kP (.list l)
  simp only[E.at]at hd
  have hp:ff []=false:=rfl
  have hq:cQ []=false:=rfl
  simp only[FQ,↓zq,zs,af,zt,bG,cB,ef,hd]
  refine⟨hlen,fun h=>(by simp at h),fun h=>⟨hlen,fun h1=>(by simp at h1),fun h1=>⟨hlen,?_⟩⟩⟩
  refine aj (FA []) ?_
  simp only[↓zq,zs,af,hp]
  refine⟨fun h=>(by simp at h),fun _=>⟨hlen,?_⟩⟩
  refine aj (Co []) ?_
  simp only[↓zq,zs,af,hq]
  refine⟨fun h=>(by simp at h),fun _=>?_⟩
  refine aj (xk (.list l) [43]) ?_
  match l,hok,hl with
  |
   [x,y,z],hok,hl =>
   simp only[E.iX]at hl
   obtain⟨ok1,ok2,ok3,_⟩:=hok
   have iy:=B5 y ar a ok2 ha (by omega)
   have iz:=B5 z ar a ok3 ha (by omega)
   have hds:((E.list [x,y,z]).dQ.deref.drop 1).headD .any=.sl [[x.dQ],[y.dQ],[z.dQ]]:=rfl
   have hdl:1<=((E.list [x,y,z]).dQ.deref.drop 1).length:=by simp[E.dQ,jv]
   have hxd:=mV x
   have hxl:=kP x
   have hyd:=mV y
   have hyl:=kP y
   have bin:∀(c:UInt8) (mkT:Ty->Ty->Ty),(∀t u:Ty,(mkT t u).av=.ptr [.v (.int .u8 (c.toNat:Int)),.v (.string (mk [])),.v (.int .i64 0),t.av,u.av])->x.at=[c]->bt (mk x.at) 0=(c.toNat:Int):=fun c _ _ hx=>by
    have:=lI x.at 0 (by rw[hx];simp)
    simp only[cz,cV]at this
    rw[this,hx];rfl
   simp only[↓zq,zs,af,zt,hds,hdl,cB,ef,toNat_one,bf,hxd,hyd,ri]
   refine⟨fun hx=>?_,fun hx=>?_⟩
   ·refine⟨by omega,by omega,?_⟩
    refine aj iy ?_
    simp only[↓zq,zs,af,fP]
    refine⟨by omega,by omega,?_⟩
    refine aj iz ?_
    have hb:=bin 43 Ty.plus (fun _ _=>rfl) hx
    rw[kG ar hx]
    simp only[↓zq,zs,af,zt,fP]
    cases h1:cy y ar with
    |none=>simp[gW,ju]
    |
     some t =>
     cases h2:cy z ar with
     |none=>simp[gW,ju,fg]
     |
      some u =>
      simp only[gW,fg,hb]
      refine⟨fun h=>(by cases h),fun _=>⟨fun h=>(by cases h),fun _=>⟨by omega,by omega,hxl,⟨by omega,by rw[hx];simp⟩,rfl⟩⟩⟩
   ·refine aj (xk (.list [x,y,z]) [42]) ?_
    simp only[↓zq,zs,af,hds,hdl,cB,ef,toNat_one,bf,hxd,hyd,ri]
    refine⟨fun hx2=>?_,fun hx2=>?_⟩
    ·refine⟨by omega,by omega,?_⟩
     refine aj iy ?_
     simp only[↓zq,zs,af,fP]
     refine⟨by omega,by omega,?_⟩
     refine aj iz ?_
     have hb:=bin 42 Ty.times (fun _ _=>rfl) hx2
     rw[jQ ar hx2]
     simp only[↓zq,zs,af,zt,fP]
     cases h1:cy y ar with
     |none=>simp[gW,ju]
     |
      some t =>
      cases h2:cy z ar with
      |none=>simp[gW,ju,fg]
      |
       some u =>
       simp only[gW,fg,hb]
       refine⟨fun h=>(by cases h),fun _=>⟨fun h=>(by cases h),fun _=>⟨by omega,by omega,hxl,⟨by omega,by rw[hx2];simp⟩,rfl⟩⟩⟩
    ·refine aj (xk (.list [x,y,z]) [114,101,99]) ?_
     simp only[↓zq,zs,af,zt,hds,hdl,cB,ef,toNat_one,bf,hxd,hyd,ri]
     refine⟨fun hx3=>⟨by omega,by omega,hyl,?_⟩,fun hx3=>?_⟩
     ·refine aj (Co y.at) ?_
      rw[ml ar hx3]
      simp only[↓zq,zs,af]
      have hal:cT 1 a.aS:=by rw[ha.2];exact jZ ar
      have hal1:cT 1 [[AV.v (.string (mk y.at))]]:=fun c hc=>by simp at hc;rw[hc];rfl
      refine⟨fun hlo=>⟨by omega,by omega,⟨ha.1,hal,by rw[ha.len];omega⟩,by omega,by omega,hyl,⟨hal1,by rw[bh,ha.len];omega⟩,?_⟩,fun hlo=>?_⟩
      ·rw[bh,ha.2,yT,if_pos hlo]
       refine aj (B5 z (ar++[y.at]) _ ok3 (.of _) (by simp;omega)) ?_
       simp only[↓zq,zs,af,fP]
       cases h2:cy z (ar++[y.at])with
       |none=>simp[gW,ju]
       |
        some u =>
        simp only[gW,fg]
        refine⟨fun h=>(by cases h),fun _=>rfl⟩
      ·rw[if_neg (by rw[hlo];simp)];rfl
     ·rw[iN ar hx hx2 hx3];rfl
  |
   [],_,_ =>
   simp only[↓zq,zs,af]
   refine⟨fun h=>(by cases h),fun _=>?_⟩
   refine aj (xk (.list []) [42]) ?_
   simp only[↓zq,zs,af]
   refine⟨fun h=>(by cases h),fun _=>?_⟩
   refine aj (xk (.list []) [114,101,99]) ?_
   simp only[↓zq,zs,af]
   refine⟨fun h=>(by cases h),fun _=>?_⟩
   rfl
  |
   [x1],_,_ =>
   simp only[↓zq,zs,af]
   refine⟨fun h=>(by cases h),fun _=>?_⟩
   refine aj (xk (.list [x1]) [42]) ?_
   simp only[↓zq,zs,af]
   refine⟨fun h=>(by cases h),fun _=>?_⟩
   refine aj (xk (.list [x1]) [114,101,99]) ?_
   simp only[↓zq,zs,af]
   refine⟨fun h=>(by cases h),fun _=>?_⟩
   rfl
  |
   [x1,x2],_,_ =>
   simp only[↓zq,zs,af]
   refine⟨fun h=>(by cases h),fun _=>?_⟩
   refine aj (xk (.list [x1,x2]) [42]) ?_
   simp only[↓zq,zs,af]
   refine⟨fun h=>(by cases h),fun _=>?_⟩
   refine aj (xk (.list [x1,x2]) [114,101,99]) ?_
   simp only[↓zq,zs,af]
   refine⟨fun h=>(by cases h),fun _=>?_⟩
   rfl
  |
   x1::x2::x3::x4::l,_,_ =>
   simp only[↓zq,zs,af]
   refine⟨fun h=>(by cases h),fun _=>?_⟩
   refine aj (xk (.list (x1::x2::x3::x4::l)) [42]) ?_
   simp only[↓zq,zs,af]
   refine⟨fun h=>(by cases h),fun _=>?_⟩
   refine aj (xk (.list (x1::x2::x3::x4::l)) [114,101,99]) ?_
   simp only[↓zq,zs,af]
   refine⟨fun h=>(by cases h),fun _=>?_⟩
   rfl
end Go.Proofs.Trees
namespace Go.Proofs.Trees
open Go Go.VL
def gC(v:AV)(obs:List Ob):AV->List Ob->Prop:=fun r o=>r=v/\o=obs
theorem bj{P:Program}{n:Nat}{Q:Nat->List AV->List Ob->Prop}{f:Nat}{xs:List AV}{ins:List Ob}{k:AV->List Ob->Tree}{v:AV}{obs:List Ob}(h:az P f xs ins (gC v obs))(hk:eN P n (k v obs) Q):eN P n (.call f xs ins k) Q :=
 ⟨gC v obs,h,⟨v,obs,rfl,rfl⟩,fun r o ⟨h1,h2⟩=>by rw[h1,h2];exact hk⟩
def Ty.aB:Ty->Nat
 | .plus a b=>1+a.aB+b.aB
 | .times a b=>1+a.aB+b.aB
 | .rc a=>2+a.aB
 |_=>1
theorem Dg:∀(t:Ty),t.aB<1000000->az Tryz.prog 154 [t.av] [] (bG (.v (.int .i64 (t.aB:Int))))
 | .zero,h=>by refine wk _ ((aG _).mpr trivial) ?_;simp[Df,Ty.av,↓zq,zs,af,bG,Ty.aB]
 | .one,h=>by refine wk _ ((aG _).mpr trivial) ?_;simp[Df,Ty.av,↓zq,zs,af,bG,Ty.aB]
 | .name s,h=>by refine wk _ ((aG _).mpr trivial) ?_;simp[Df,Ty.av,↓zq,zs,af,bG,Ty.aB]
 | .bA u,h=>by refine wk _ ((aG _).mpr trivial) ?_;simp[Df,Ty.av,↓zq,zs,af,bG,Ty.aB]
 |
  .plus a b,h=>by
  simp only[Ty.aB]at h
  refine wk _ ((aG _).mpr trivial) ?_
  simp only[Df,Ty.av,↓zq,zs,af,aG]
  refine⟨by omega,fun _=>⟨by omega,?_⟩,fun h=>absurd rfl h⟩
  refine aj (Dg a (by omega)) ?_
  simp only[↓zq,zs,af,aG]
  refine⟨by omega,?_⟩
  refine aj (Dg b (by omega)) ?_
  simp only[↓zq,zs,af,bG,Ty.aB]
  rw[wrap64 (1+(a.aB:Int)) (by omega) (by omega),wrap64 _ (by omega) (by omega)]
  congr 2
 |
  .times a b,h=>by
  simp only[Ty.aB]at h
  refine wk _ ((aG _).mpr trivial) ?_
  simp only[Df,Ty.av,↓zq,zs,af,aG]
  refine⟨by omega,fun h=>by omega,fun _=>⟨fun _=>⟨by omega,?_⟩,fun h=>absurd rfl h⟩⟩
  refine aj (Dg a (by omega)) ?_
  simp only[↓zq,zs,af,aG]
  refine⟨by omega,?_⟩
  refine aj (Dg b (by omega)) ?_
  simp only[↓zq,zs,af,bG,Ty.aB]
  rw[wrap64 (1+(a.aB:Int)) (by omega) (by omega),wrap64 _ (by omega) (by omega)]
  congr 2
 |
  .rc a,h=>by
  simp only[Ty.aB]at h
  refine wk _ ((aG _).mpr trivial) ?_
  simp only[Df,Ty.av,↓zq,zs,af,aG]
  refine⟨by omega,fun h=>by omega,fun _=>⟨fun h=>by omega,fun _=>⟨fun _=>⟨by omega,?_⟩,fun h=>absurd rfl h⟩⟩⟩
  refine aj (Dg a (by omega)) ?_
  simp only[↓zq,zs,af,bG,Ty.aB]
  rw[wrap64 _ (by omega) (by omega)]
  congr 2
theorem iE:∀(e:E) (ar:List (List UInt8)) (t:Ty),cy e ar=some t->t.aB<=e.sz
 |
  .atom s,ar,t,h=>by
  simp only[cy]at h
  simp only[E.sz]
  split at h
  ·cases h;simp[Ty.aB]
  ·split at h
   ·cases h;simp[Ty.aB]
   ·split at h
    ·cases h;simp[Ty.aB]
    ·split at h
     ·split at h<;>cases h<;>simp[Ty.aB]
     ·cases h
 |
  .list [x,a,b],ar,t,h=>by
  have hs:∀e:E,1<=e.sz:=fun e=>by cases e<;>simp[E.sz];try omega
  have hx:=hs x
  have ha:=hs a
  simp only[E.sz,E.iX]
  by_cases h1:x.at=[43]
  ·rw[kG ar h1]at h
   split at h
   ·rename_i t1 t2 e1 e2
    cases h
    have:=iE a ar t1 e1
    have:=iE b ar t2 e2
    simp only[Ty.aB];omega
   ·cases h
  ·by_cases h2:x.at=[42]
   ·rw[jQ ar h2]at h
    split at h
    ·rename_i t1 t2 e1 e2
     cases h
     have:=iE a ar t1 e1
     have:=iE b ar t2 e2
     simp only[Ty.aB];omega
    ·cases h
   ·by_cases h3:x.at=[114,101,99]
    ·rw[ml ar h3]at h
     split at h
     ·split at h
      ·rename_i t1 e1
       cases h
       have:=iE b _ t1 e1
       simp only[Ty.aB];omega
      ·cases h
     ·cases h
    ·rw[iN ar h1 h2 h3]at h;cases h
 | .list [],_,_,h=>by cases h
 | .list [_],_,_,h=>by cases h
 | .list [_,_],_,_,h=>by cases h
 | .list (_::_::_::_::_),_,_,h=>by cases h
def pu(s:List UInt8):Option Ty:=match qj s with
 |none=>none
 |
  some e=>match cy e []with
  |none=>none
  |some t=>if t.aB>400 then none else some t
theorem Gd(s:List UInt8):az Tryz.prog 121 [.v (.string (mk s))] [] (bG (gW (pu s))):=by
 refine Nd _ ?_
 unfold HF
 refine aj (Hm s) ?_
 unfold pu
 cases he:qj s with
 |none=>simp only[tz,↓zq,zs,af,bG,gW];simp
 |
  some e =>
  obtain⟨h1,h2⟩:=mZ he
  simp only[tz,↓zq,zs,af,cB,ef]
  refine⟨fun h=>(by cases h),fun _=>?_⟩
  refine aj (B5 e [] _ h1 .nil (by simp;omega)) ?_
  cases ht:cy e []with
  |none=>simp only[gW,↓zq,zs,af,bG];simp
  |
   some t =>
   have:=iE e [] t ht
   simp only[gW,↓zq,zs,af,aG,fg]
   refine⟨fun h=>(by cases h),fun _=>?_⟩
   refine aj (Dg t (by omega)) ?_
   simp only[↓zq,zs,af,bG]
   refine⟨fun h=>?_,fun h=>?_⟩
   ·rw[if_pos (by omega)]
   ·rw[if_neg (by omega)]
end Go.Proofs.Trees
namespace Go.Proofs.Trees
open Go Go.VL
def AF(p:Prop):Nat->List AV->List Ob->Prop:=fun t ys o=>(t=1/\¬p/\ys=[]/\o=[])\/(t=2/\p/\∃j:Nat,ys=[.v (.int .i64 (j:Int))]/\o=[])
theorem HD(l:List (List UInt8))(a:AV)(ha:dN a l)(s:List UInt8)(hl:l.length<1000000):∀(k i:Nat),i+k=l.length->s∉l.take i->FH [a,.v (.string (mk s)),.v (.int .i64 (l.length:Int)),.v (.int .i64 (i:Int))] []
 (AF (s∈l))
 |
  0,i,hi,hn=>by
  refine J0 _ _ _ _ ?_
  simp only[E9,↓zq,zs,af]
  have:l.take i=l:=List.take_of_length_le (by omega)
  rw[this]at hn
  exact⟨ha.1,fun h=>by omega,fun _=>.inl ⟨rfl,hn,rfl,rfl⟩⟩
 |
  k+1,i,hi,hn=>by
  have hlt:i<l.length:=by omega
  refine J0 _ _ _ _ ?_
  simp only[E9,↓zq,zs,af,zt,ha.len,ha.idx hlt]
  have hm:l.getD i []∈l:=by simp[aa,hlt]
  refine⟨ha.1,fun _=>⟨⟨ha.1,by omega,by omega⟩,by omega,fun h=>?_,fun h=>?_⟩,fun h=>by omega⟩
  ·exact .inr ⟨rfl,by rw[h];exact hm,i,rfl,rfl⟩
  ·rw[bS i (by omega)]
   refine HD l a ha s hl k (i+1) (by omega) ?_
   rw[List.take_add_one]
   simp only[aK,not_or]
   refine⟨hn,?_⟩
   have:l[i]?=some (l.getD i []):=by simp[aa,hlt]
   rw[this];simpa using h
theorem Gx(l:List (List UInt8))(a:AV)(ha:dN a l)(s:List UInt8)(hl:l.length<1000000):az Tryz.prog 185 [a,.v (.string (mk s))] [] (bG (.v (.bool (decide (s∈l))))):=by
 have hI:az Tryz.prog 202 [a,.v (.string (mk s))] [] (fun r o=>∃n:Int,r=.v (.int .i64 n)/\(0<=n↔s∈l)/\o=[]):=by
  refine Nz _ _ ha.1 ?_
  simp only[GR,↓zq,zs,af,ha.len]
  refine⟨ha.1,qw (HD l a ha s hl l.length 0 (by omega) (by simp)) ?_ ?_⟩
  ·rintro ys o (⟨_,h1,rfl,rfl⟩|⟨h,_⟩)
   ·simp only[↓zq,zs,af]
    exact⟨-1,rfl,⟨fun h=>(by omega),fun h=>absurd h h1⟩⟩
   ·cases h
  ·rintro ys o (⟨h,_⟩|⟨_,h1,j,rfl,rfl⟩)
   ·cases h
   ·simp only[↓zq,zs,af]
    exact⟨j,rfl,⟨fun _=>h1,fun _=>(by omega)⟩⟩
 refine Lf _ _ ha.1 ?_
 unfold Ie
 refine aM hI ⟨.v (.int .i64 (if s∈l then 0 else -1)),[],_,rfl,by split<;>simp_all,rfl⟩ ?_
 rintro r o ⟨n,rfl,hn,rfl⟩
 simp only[↓zq,zs,af,bG]
 congr 2
 rw[cX];simp[hn]
def oU(out:List (List UInt8)):Ty->List (List UInt8)
 | .name s=>if s∈out then out else out++[s]
 |_=>out
theorem wb(t:Ty)(out:List (List UInt8))(hl:out.length<100000):az Tryz.prog 189 [t.av,.ref 0 0] [.cells [.vec 1],.vec 1 (cb out)] (gC .any [.cells [.vec 1],.vec 1 (cb (oU out t))]):=by
 refine MP _ _ ((aG _).mpr trivial) ?_
 have hlen:(cb out).length=out.length:=by simp[cb]
 cases t with
 |
  name s =>
  simp only[E6,Ty.av,↓zq,zs,af,gC,hlen]
  refine⟨by omega,fun _=>⟨by omega,?_⟩,fun h=>absurd rfl h⟩
  refine aj (Gx out _ (.of out) s (by omega)) ?_
  simp only[↓zq,zs,af,oU]
  refine⟨fun h=>⟨by omega,⟨fun c hc=>(by simp at hc;rw[hc];rfl),by omega⟩,?_⟩,fun h=>?_⟩
  ·rw[yT,if_neg h]
  ·rw[if_pos h]
 |_=>simp[E6,Ty.av,↓zq,zs,af,gC,oU]
def bw:Ty->List (List UInt8)->List (List UInt8)
 | .name s,out=>oU out (.name s)
 | .plus a b,out=>bw b (bw a out)
 | .times a b,out=>bw b (bw a out)
 | .rc a,out=>bw a out
 |_,out=>out
theorem ew:∀(t:Ty) (out:List (List UInt8)),(bw t out).length<=out.length+t.aB
 | .name s,out=>by simp only[bw,oU,Ty.aB];split<;>simp
 |
  .plus a b,out=>by
  have:=ew a out
  have:=ew b (bw a out)
  simp only[bw,Ty.aB];omega
 |
  .times a b,out=>by
  have:=ew a out
  have:=ew b (bw a out)
  simp only[bw,Ty.aB];omega
 |
  .rc a,out=>by
  have:=ew a out
  simp only[bw,Ty.aB];omega
 | .zero,out=>by simp[bw]
 | .one,out=>by simp[bw]
 | .bA u,out=>by simp[bw]
end Go.Proofs.Trees
