/-
  Part of a proof: Go functions read by values, trees of functions, their contracts.
-/
import Derived.Test.YtphdaefkjfbfoaaGreatDoorP3
import Derived.Shelf.Lays
import Derived.Shelf.LaysM
import Derived.Shelf.Strconv.Itoa3
import Derived.Shelf.Strconv.Atoi
import Derived.Shelf.Strings.SlTrimAscii
import Derived.Shelf.Strings.Search3
import Derived.Test.YtphdaefkjfbfoaaGreatDoorProg
set_option linter.unusedVariables false
set_option linter.unusedSimpArgs false
open And renaming intro→aC
open Bool renaming and_eq_true→ak,eq_iff_iff→cj,or_assoc→cx,true_and→cJ
open ByteArray renaming extract→bn,size→ae,toList→ac
open Int renaming cast_ofNat_Int→ci,ofNat_eq_natCast→bV,tmod→cr,toNat→bk
open List renaming any_eq_true→bC,drop_eq_getElem_cons→a7,drop_eq_nil_of_le→bf,drop_zero→cg,getD_eq_getElem?_getD→aa,length_append→ap,length_cons→az,length_drop→bH,length_nil→aF,mem_append→aM,mem_cons→aG,mem_map→bL,nil_append→dj,takeWhile_append_dropWhile→bu
open Nat renaming le_refl→aw,zero_add→aR
open Option renaming isSome_iff_exists→bm
open UInt8 renaming ofNat→aW,toNat_inj→cC
namespace Go.Proofs
open Go.Shelf
def Tryz.qC:Go.Shelf.Ren:=⟨fun|160=>152|232=>177|231=>176|227=>178|234=>180|233=>179|236=>182|235=>181|228=>198|271=>201|151=>200|197=>199|120=>216|152=>215|260=>214|137=>221|119=>222|224=>212|225=>211|217=>210|266=>219|n=>n,fun|9=>9|4=>4|3=>3|5=>5|117=>219|116=>218|0=>0|124=>222|21=>21|105=>240|46=>230|119=>260|139=>263|138=>262|n=>n,fun|3=>4|4=>5|n=>n⟩
theorem Tryz.xT:Go.Proofs.Lays.n160 Tryz.prog Tryz.qC:={
 mixed:=by kernel_rfl,
 f119:=Tryz.func222.trans (congrArg some (by kernel_rfl)),
 f120:=Tryz.func216.trans (congrArg some (by kernel_rfl)),
 f137:=Tryz.func221.trans (congrArg some (by kernel_rfl)),
 f151:=Tryz.func200.trans (congrArg some (by kernel_rfl)),
 f152:=Tryz.func215.trans (congrArg some (by kernel_rfl)),
 f160:=Tryz.func152.trans (congrArg some (by kernel_rfl)),
 f197:=Tryz.func199.trans (congrArg some (by kernel_rfl)),
 f217:=Tryz.func210.trans (congrArg some (by kernel_rfl)),
 f224:=Tryz.func212.trans (congrArg some (by kernel_rfl)),
 f225:=Tryz.func211.trans (congrArg some (by kernel_rfl)),
 f227:=Tryz.func178.trans (congrArg some (by kernel_rfl)),
 f228:=Tryz.func198.trans (congrArg some (by kernel_rfl)),
 f231:=Tryz.func176.trans (congrArg some (by kernel_rfl)),
 f232:=Tryz.func177.trans (congrArg some (by kernel_rfl)),
 f233:=Tryz.func179.trans (congrArg some (by kernel_rfl)),
 f234:=Tryz.func180.trans (congrArg some (by kernel_rfl)),
 f235:=Tryz.func181.trans (congrArg some (by kernel_rfl)),
 f236:=Tryz.func182.trans (congrArg some (by kernel_rfl)),
 f260:=Tryz.func214.trans (congrArg some (by kernel_rfl)),
 f266:=Tryz.func219.trans (congrArg some (by kernel_rfl)),
 f271:=Tryz.func201.trans (congrArg some (by kernel_rfl)),
 t0:=Tryz.underlying0,
 a0:=Tryz.isAgg0,
 z0:=Tryz.sizeOf0,
 v0:=Tryz.zeroValue0,
 t3:=Tryz.underlying3,
 a3:=Tryz.isAgg3,
 z3:=Tryz.sizeOf3,
 v3:=Tryz.zeroValue3,
 t4:=Tryz.underlying4,
 a4:=Tryz.isAgg4,
 z4:=Tryz.sizeOf4,
 v4:=Tryz.zeroValue4,
 t5:=Tryz.underlying5,
 a5:=Tryz.isAgg5,
 z5:=Tryz.sizeOf5,
 v5:=Tryz.zeroValue5,
 t9:=Tryz.underlying9,
 a9:=Tryz.isAgg9,
 z9:=Tryz.sizeOf9,
 v9:=Tryz.zeroValue9,
 t21:=Tryz.underlying21,
 a21:=Tryz.isAgg21,
 z21:=Tryz.sizeOf21,
 v21:=Tryz.zeroValue21,
 t46:=Tryz.underlying230,
 a46:=Tryz.isAgg230,
 z46:=Tryz.sizeOf230,
 v46:=Tryz.zeroValue230,
 t105:=Tryz.underlying240,
 a105:=Tryz.isAgg240,
 z105:=Tryz.sizeOf240,
 v105:=Tryz.zeroValue240,
 t116:=Tryz.underlying218,
 a116:=Tryz.isAgg218,
 z116:=Tryz.sizeOf218,
 t117:=Tryz.underlying219,
 a117:=Tryz.isAgg219,
 z117:=Tryz.sizeOf219,
 v117:=Tryz.zeroValue219,
 t119:=Tryz.underlying260,
 a119:=Tryz.isAgg260,
 z119:=Tryz.sizeOf260,
 t124:=Tryz.underlying222,
 a124:=Tryz.isAgg222,
 z124:=Tryz.sizeOf222,
 v124:=Tryz.zeroValue222,
 t138:=Tryz.underlying262,
 a138:=Tryz.isAgg262,
 z138:=Tryz.sizeOf262,
 v138:=Tryz.zeroValue262,
 t139:=Tryz.underlying263,
 a139:=Tryz.isAgg263,
 z139:=Tryz.sizeOf263,
 v139:=Tryz.zeroValue263,
 g3:=by kernel_rfl,
 g4:=by kernel_rfl}
def Tryz.qv:Go.Shelf.Ren:=⟨fun|144=>151|143=>175|219=>197|217=>210|225=>211|224=>212|267=>213|266=>219|314=>220|n=>n,fun|9=>9|4=>4|3=>3|5=>5|46=>230|146=>258|51=>251|n=>n,fun|1=>3|n=>n⟩
theorem Tryz.xN:Go.Proofs.Lays.n144 Tryz.prog Tryz.qv:={
 mixed:=by kernel_rfl,
 f143:=Tryz.func175.trans (congrArg some (by kernel_rfl)),
 f144:=Tryz.func151.trans (congrArg some (by kernel_rfl)),
 f217:=Tryz.func210.trans (congrArg some (by kernel_rfl)),
 f219:=Tryz.func197.trans (congrArg some (by kernel_rfl)),
 f224:=Tryz.func212.trans (congrArg some (by kernel_rfl)),
 f225:=Tryz.func211.trans (congrArg some (by kernel_rfl)),
 f266:=Tryz.func219.trans (congrArg some (by kernel_rfl)),
 f267:=Tryz.func213.trans (congrArg some (by kernel_rfl)),
 f314:=Tryz.func220.trans (congrArg some (by kernel_rfl)),
 t3:=Tryz.underlying3,
 a3:=Tryz.isAgg3,
 z3:=Tryz.sizeOf3,
 v3:=Tryz.zeroValue3,
 t4:=Tryz.underlying4,
 a4:=Tryz.isAgg4,
 z4:=Tryz.sizeOf4,
 v4:=Tryz.zeroValue4,
 t5:=Tryz.underlying5,
 a5:=Tryz.isAgg5,
 z5:=Tryz.sizeOf5,
 v5:=Tryz.zeroValue5,
 t9:=Tryz.underlying9,
 a9:=Tryz.isAgg9,
 z9:=Tryz.sizeOf9,
 v9:=Tryz.zeroValue9,
 t46:=Tryz.underlying230,
 a46:=Tryz.isAgg230,
 z46:=Tryz.sizeOf230,
 v46:=Tryz.zeroValue230,
 t51:=Tryz.underlying251,
 a51:=Tryz.isAgg251,
 z51:=Tryz.sizeOf251,
 v51:=Tryz.zeroValue251,
 t146:=Tryz.underlying258,
 a146:=Tryz.isAgg258,
 z146:=Tryz.sizeOf258,
 v146:=Tryz.zeroValue258,
 g1:=by kernel_rfl}
def Tryz.qG:Go.Shelf.Ren:=⟨fun|171=>94|243=>140|246=>173|283=>193|284=>194|285=>195|286=>196|129=>206|317=>205|318=>207|319=>208|320=>209|337=>217|338=>218|n=>n,fun|3=>3|9=>9|2=>2|4=>4|171=>235|0=>0|53=>227|37=>22|5=>5|173=>238|212=>250|51=>251|20=>20|213=>252|46=>230|232=>265|233=>266|n=>n,fun|17=>2|18=>6|19=>7|n=>n⟩
theorem Tryz.xg:Go.Proofs.Lays.n171 Tryz.prog Tryz.qG:={
 mixed:=by kernel_rfl,
 f129:=Tryz.func206.trans (congrArg some (by kernel_rfl)),
 f171:=Tryz.func94.trans (congrArg some (by kernel_rfl)),
 f243:=Tryz.func140.trans (congrArg some (by kernel_rfl)),
 f246:=Tryz.func173.trans (congrArg some (by kernel_rfl)),
 f283:=Tryz.func193.trans (congrArg some (by kernel_rfl)),
 f284:=Tryz.func194.trans (congrArg some (by kernel_rfl)),
 f285:=Tryz.func195.trans (congrArg some (by kernel_rfl)),
 f286:=Tryz.func196.trans (congrArg some (by kernel_rfl)),
 f317:=Tryz.func205.trans (congrArg some (by kernel_rfl)),
 f318:=Tryz.func207.trans (congrArg some (by kernel_rfl)),
 f319:=Tryz.func208.trans (congrArg some (by kernel_rfl)),
 f320:=Tryz.func209.trans (congrArg some (by kernel_rfl)),
 f337:=Tryz.func217.trans (congrArg some (by kernel_rfl)),
 f338:=Tryz.func218.trans (congrArg some (by kernel_rfl)),
 t0:=Tryz.underlying0,
 a0:=Tryz.isAgg0,
 z0:=Tryz.sizeOf0,
 v0:=Tryz.zeroValue0,
 t2:=Tryz.underlying2,
 a2:=Tryz.isAgg2,
 z2:=Tryz.sizeOf2,
 v2:=Tryz.zeroValue2,
 t3:=Tryz.underlying3,
 a3:=Tryz.isAgg3,
 z3:=Tryz.sizeOf3,
 v3:=Tryz.zeroValue3,
 t4:=Tryz.underlying4,
 a4:=Tryz.isAgg4,
 z4:=Tryz.sizeOf4,
 v4:=Tryz.zeroValue4,
 t5:=Tryz.underlying5,
 a5:=Tryz.isAgg5,
 z5:=Tryz.sizeOf5,
 v5:=Tryz.zeroValue5,
 t9:=Tryz.underlying9,
 a9:=Tryz.isAgg9,
 z9:=Tryz.sizeOf9,
 v9:=Tryz.zeroValue9,
 t20:=Tryz.underlying20,
 a20:=Tryz.isAgg20,
 z20:=Tryz.sizeOf20,
 v20:=Tryz.zeroValue20,
 t37:=Tryz.underlying22,
 a37:=Tryz.isAgg22,
 z37:=Tryz.sizeOf22,
 v37:=Tryz.zeroValue22,
 t46:=Tryz.underlying230,
 a46:=Tryz.isAgg230,
 z46:=Tryz.sizeOf230,
 v46:=Tryz.zeroValue230,
 t51:=Tryz.underlying251,
 a51:=Tryz.isAgg251,
 z51:=Tryz.sizeOf251,
 v51:=Tryz.zeroValue251,
 t53:=Tryz.underlying227,
 a53:=Tryz.isAgg227,
 z53:=Tryz.sizeOf227,
 v53:=Tryz.zeroValue227,
 t171:=Tryz.underlying235,
 a171:=Tryz.isAgg235,
 z171:=Tryz.sizeOf235,
 v171:=Tryz.zeroValue235,
 t173:=Tryz.underlying238,
 a173:=Tryz.isAgg238,
 z173:=Tryz.sizeOf238,
 v173:=Tryz.zeroValue238,
 t212:=Tryz.underlying250,
 a212:=Tryz.isAgg250,
 z212:=Tryz.sizeOf250,
 v212:=Tryz.zeroValue250,
 t213:=Tryz.underlying252,
 a213:=Tryz.isAgg252,
 z213:=Tryz.sizeOf252,
 t232:=Tryz.underlying265,
 a232:=Tryz.isAgg265,
 z232:=Tryz.sizeOf265,
 v232:=Tryz.zeroValue265,
 t233:=Tryz.underlying266,
 a233:=Tryz.isAgg266,
 z233:=Tryz.sizeOf266,
 v233:=Tryz.zeroValue266,
 g17:=by kernel_rfl,
 g18:=by kernel_rfl,
 g19:=by kernel_rfl}
def Tryz.qo:Go.Shelf.Ren:=⟨fun|172=>81|244=>134|245=>135|247=>167|279=>168|280=>169|281=>170|282=>171|287=>190|316=>191|171=>94|205=>192|321=>203|322=>204|243=>140|246=>173|283=>193|284=>194|285=>195|286=>196|129=>206|317=>205|318=>207|319=>208|320=>209|337=>217|338=>218|n=>n,fun|9=>9|3=>3|75=>121|76=>122|4=>4|5=>5|167=>205|37=>22|0=>0|85=>206|2=>2|168=>208|53=>227|175=>228|46=>230|210=>233|127=>245|145=>248|143=>246|21=>21|171=>235|173=>238|212=>250|51=>251|20=>20|213=>252|232=>265|233=>266|80=>134|n=>n,fun|15=>0|16=>1|17=>2|18=>6|19=>7|n=>n⟩
theorem Tryz.xS:Go.Proofs.Lays.n172 Tryz.prog Tryz.qo:={
 mixed:=by kernel_rfl,
 f129:=Tryz.func206.trans (congrArg some (by kernel_rfl)),
 f171:=Tryz.func94.trans (congrArg some (by kernel_rfl)),
 f172:=Tryz.func81.trans (congrArg some (by kernel_rfl)),
 f205:=Tryz.func192.trans (congrArg some (by kernel_rfl)),
 f243:=Tryz.func140.trans (congrArg some (by kernel_rfl)),
 f244:=Tryz.func134.trans (congrArg some (by kernel_rfl)),
 f245:=Tryz.func135.trans (congrArg some (by kernel_rfl)),
 f246:=Tryz.func173.trans (congrArg some (by kernel_rfl)),
 f247:=Tryz.func167.trans (congrArg some (by kernel_rfl)),
 f279:=Tryz.func168.trans (congrArg some (by kernel_rfl)),
 f280:=Tryz.func169.trans (congrArg some (by kernel_rfl)),
 f281:=Tryz.func170.trans (congrArg some (by kernel_rfl)),
 f282:=Tryz.func171.trans (congrArg some (by kernel_rfl)),
 f283:=Tryz.func193.trans (congrArg some (by kernel_rfl)),
 f284:=Tryz.func194.trans (congrArg some (by kernel_rfl)),
 f285:=Tryz.func195.trans (congrArg some (by kernel_rfl)),
 f286:=Tryz.func196.trans (congrArg some (by kernel_rfl)),
 f287:=Tryz.func190.trans (congrArg some (by kernel_rfl)),
 f316:=Tryz.func191.trans (congrArg some (by kernel_rfl)),
 f317:=Tryz.func205.trans (congrArg some (by kernel_rfl)),
 f318:=Tryz.func207.trans (congrArg some (by kernel_rfl)),
 f319:=Tryz.func208.trans (congrArg some (by kernel_rfl)),
 f320:=Tryz.func209.trans (congrArg some (by kernel_rfl)),
 f321:=Tryz.func203.trans (congrArg some (by kernel_rfl)),
 f322:=Tryz.func204.trans (congrArg some (by kernel_rfl)),
 f337:=Tryz.func217.trans (congrArg some (by kernel_rfl)),
 f338:=Tryz.func218.trans (congrArg some (by kernel_rfl)),
 t0:=Tryz.underlying0,
 a0:=Tryz.isAgg0,
 z0:=Tryz.sizeOf0,
 v0:=Tryz.zeroValue0,
 t2:=Tryz.underlying2,
 a2:=Tryz.isAgg2,
 z2:=Tryz.sizeOf2,
 v2:=Tryz.zeroValue2,
 t3:=Tryz.underlying3,
 a3:=Tryz.isAgg3,
 z3:=Tryz.sizeOf3,
 v3:=Tryz.zeroValue3,
 t4:=Tryz.underlying4,
 a4:=Tryz.isAgg4,
 z4:=Tryz.sizeOf4,
 v4:=Tryz.zeroValue4,
 t5:=Tryz.underlying5,
 a5:=Tryz.isAgg5,
 z5:=Tryz.sizeOf5,
 v5:=Tryz.zeroValue5,
 t9:=Tryz.underlying9,
 a9:=Tryz.isAgg9,
 z9:=Tryz.sizeOf9,
 v9:=Tryz.zeroValue9,
 t20:=Tryz.underlying20,
 a20:=Tryz.isAgg20,
 z20:=Tryz.sizeOf20,
 v20:=Tryz.zeroValue20,
 t21:=Tryz.underlying21,
 a21:=Tryz.isAgg21,
 z21:=Tryz.sizeOf21,
 v21:=Tryz.zeroValue21,
 t37:=Tryz.underlying22,
 a37:=Tryz.isAgg22,
 z37:=Tryz.sizeOf22,
 v37:=Tryz.zeroValue22,
 t46:=Tryz.underlying230,
 a46:=Tryz.isAgg230,
 z46:=Tryz.sizeOf230,
 v46:=Tryz.zeroValue230,
 t51:=Tryz.underlying251,
 a51:=Tryz.isAgg251,
 z51:=Tryz.sizeOf251,
 v51:=Tryz.zeroValue251,
 t53:=Tryz.underlying227,
 a53:=Tryz.isAgg227,
 z53:=Tryz.sizeOf227,
 v53:=Tryz.zeroValue227,
 t75:=Tryz.underlying121,
 a75:=Tryz.isAgg121,
 z75:=Tryz.sizeOf121,
 v75:=Tryz.zeroValue121,
 t76:=Tryz.underlying122,
 a76:=Tryz.isAgg122,
 z76:=Tryz.sizeOf122,
 v76:=Tryz.zeroValue122,
 t85:=Tryz.underlying206,
 a85:=Tryz.isAgg206,
 z85:=Tryz.sizeOf206,
 v85:=Tryz.zeroValue206,
 t127:=Tryz.underlying245,
 a127:=Tryz.isAgg245,
 z127:=Tryz.sizeOf245,
 v127:=Tryz.zeroValue245,
 t143:=Tryz.underlying246,
 a143:=Tryz.isAgg246,
 z143:=Tryz.sizeOf246,
 v143:=Tryz.zeroValue246,
 t145:=Tryz.underlying248,
 a145:=Tryz.isAgg248,
 z145:=Tryz.sizeOf248,
 v145:=Tryz.zeroValue248,
 t167:=Tryz.underlying205,
 a167:=Tryz.isAgg205,
 z167:=Tryz.sizeOf205,
 v167:=Tryz.zeroValue205,
 t168:=Tryz.underlying208,
 a168:=Tryz.isAgg208,
 z168:=Tryz.sizeOf208,
 v168:=Tryz.zeroValue208,
 t171:=Tryz.underlying235,
 a171:=Tryz.isAgg235,
 z171:=Tryz.sizeOf235,
 v171:=Tryz.zeroValue235,
 t173:=Tryz.underlying238,
 a173:=Tryz.isAgg238,
 z173:=Tryz.sizeOf238,
 v173:=Tryz.zeroValue238,
 t175:=Tryz.underlying228,
 a175:=Tryz.isAgg228,
 z175:=Tryz.sizeOf228,
 v175:=Tryz.zeroValue228,
 t210:=Tryz.underlying233,
 a210:=Tryz.isAgg233,
 z210:=Tryz.sizeOf233,
 v210:=Tryz.zeroValue233,
 t212:=Tryz.underlying250,
 a212:=Tryz.isAgg250,
 z212:=Tryz.sizeOf250,
 v212:=Tryz.zeroValue250,
 t213:=Tryz.underlying252,
 a213:=Tryz.isAgg252,
 z213:=Tryz.sizeOf252,
 t232:=Tryz.underlying265,
 a232:=Tryz.isAgg265,
 z232:=Tryz.sizeOf265,
 v232:=Tryz.zeroValue265,
 t233:=Tryz.underlying266,
 a233:=Tryz.isAgg266,
 z233:=Tryz.sizeOf266,
 v233:=Tryz.zeroValue266,
 g15:=by kernel_rfl,
 g16:=by kernel_rfl,
 g17:=by kernel_rfl,
 g18:=by kernel_rfl,
 g19:=by kernel_rfl}
end Go.Proofs
namespace Go.Proofs.Trees
open Go Go.VL
noncomputable section
def BW:List (Nat×TI):=[
 (0,⟨false,[],false,0,.tuple [],false⟩),
 (2,⟨true,[.int .i64],false,8,.num .i64,false⟩),
 (3,⟨true,[.int .i64],false,8,.num .i64,false⟩),
 (4,⟨true,[.bool],false,1,.bl,false⟩),
 (5,⟨true,[.int .u8],false,1,.num .u8,false⟩),
 (9,⟨true,[.str],false,16,.str,false⟩),
 (20,⟨true,[.oth],false,16,.other,false⟩),
 (21,⟨true,[.int .i32],false,4,.num .i32,false⟩),
 (22,⟨true,[.sl],false,24,.slice 5,false⟩),
 (23,⟨false,[],false,0,.tuple [9,3,9],false⟩),
 (25,⟨false,[],false,0,.tuple [3,4],false⟩),
 (28,⟨false,[],false,0,.tuple [9,4],false⟩),
 (31,⟨false,[],false,0,.tuple [9,9,9],false⟩),
 (36,⟨false,[],false,0,.tuple [9,9,9,9],false⟩),
 (38,⟨true,[.sl],false,24,.slice 42,false⟩),
 (39,⟨false,[],false,0,.tuple [38,4],false⟩),
 (42,⟨true,[.str,.str],true,32,.struct [(0,9),(1,9)],false⟩),
 (45,⟨true,[.sl],false,24,.slice 105,false⟩),
 (46,⟨false,[],false,0,.tuple [45,4],false⟩),
 (51,⟨true,[.ptr],false,8,.pt,true⟩),
 (56,⟨true,[.ptr],false,8,.pt,true⟩),
 (57,⟨true,[.ptr],false,8,.pt,true⟩),
 (58,⟨false,[],false,0,.tuple [56,57],false⟩),
 (61,⟨true,[.sl],false,24,.slice 63,false⟩),
 (63,⟨true,[.str,.sl],true,40,.struct [(0,9),(1,61)],false⟩),
 (64,⟨false,[],false,0,.tuple [63,4],false⟩),
 (76,⟨true,[.int .u8,.str,.ptr,.ptr],true,40,.struct [(0,5),(1,9),(2,57),(3,57)],false⟩),
 (78,⟨true,[.ptr],false,8,.pt,true⟩),
 (80,⟨true,[.ptr,.ptr],true,16,.struct [(0,56),(1,78)],false⟩),
 (81,⟨true,[.ptr],false,8,.pt,true⟩),
 (83,⟨true,[.str,.ptr],true,24,.struct [(0,9),(1,81)],false⟩),
 (85,⟨false,[],false,0,.tuple [9,9],false⟩),
 (90,⟨true,[.sl],false,24,.slice 9,false⟩),
 (93,⟨true,[.oth],false,8,.other,false⟩),
 (95,⟨true,[.sl],false,24,.slice 150,false⟩),
 (102,⟨true,[.sl],false,24,.slice 107,false⟩),
 (103,⟨false,[],false,0,.tuple [102,4],false⟩),
 (105,⟨true,[.sl],false,24,.slice 3,false⟩),
 (107,⟨true,[.sl,.str,.str],true,56,.struct [(0,105),(1,9),(2,9)],false⟩),
 (108,⟨true,[.sl],false,24,.slice 112,false⟩),
 (109,⟨false,[],false,0,.tuple [108,4],false⟩),
 (112,⟨true,[.ptr,.sl],true,32,.struct [(0,57),(1,105)],false⟩),
 (116,⟨true,[.sl,.int .i64],true,32,.struct [(0,22),(1,3)],false⟩),
 (121,⟨true,[.oth],false,16,.other,false⟩),
 (122,⟨false,[],false,0,.tuple [3,121],false⟩),
 (125,⟨true,[.int .u8,.str,.int .i64,.ptr,.ptr],true,48,.struct [(0,5),(1,9),(2,3),(3,56),(4,56)],false⟩),
 (131,⟨true,[.sl],false,24,.slice 213,false⟩),
 (133,⟨true,[.oth],false,8,.other,false⟩),
 (140,⟨true,[.ptr],false,8,.pt,true⟩),
 (144,⟨false,[],false,0,.tuple [80,81],false⟩),
 (147,⟨true,[.sl],false,24,.slice 188,false⟩),
 (150,⟨true,[.ptr,.ptr],true,16,.struct [(0,57),(1,57)],false⟩),
 (152,⟨true,[.oth],false,8,.other,false⟩),
 (153,⟨true,[.oth],false,8,.other,false⟩),
 (154,⟨false,[],false,0,.tuple [56,4],false⟩),
 (159,⟨true,[.oth],false,8,.other,false⟩),
 (163,⟨true,[.ptr],false,8,.pt,true⟩),
 (165,⟨true,[.sl,.int .i64],true,32,.struct [(0,90),(1,3)],false⟩),
 (168,⟨true,[.ptr,.ptr],true,16,.struct [(0,80)],false⟩),
 (171,⟨false,[],false,0,.tuple [63,3],false⟩),
 (173,⟨false,[],false,0,.tuple [63,131],false⟩),
 (179,⟨false,[],false,0,.tuple [140,9],false⟩),
 (181,⟨true,[.sl],false,24,.slice 140,false⟩),
 (183,⟨true,[.str,.sl],true,40,.struct [(0,9),(1,181)],false⟩),
 (186,⟨true,[.ptr,.ptr],true,16,.struct [(0,81),(1,78)],false⟩),
 (188,⟨true,[.str,.sl,.str,.sl],true,80,.struct [(0,63),(2,63)],false⟩),
 (192,⟨true,[.ptr],false,8,.pt,true⟩),
 (194,⟨true,[.int .i64,.bool],true,16,.struct [(0,3),(1,4)],false⟩),
 (206,⟨false,[],false,0,.tuple [2,121],false⟩),
 (208,⟨true,[.ptr],false,8,.pt,true⟩),
 (213,⟨true,[.str,.str,.sl,.sl],true,80,.struct [(0,9),(1,63),(3,131)],false⟩),
 (219,⟨false,[],false,0,.tuple [218,4],false⟩),
 (222,⟨true,[.ptr],false,8,.pt,true⟩),
 (224,⟨true,[.oth],false,8,.other,false⟩),
 (227,⟨true,[.int .u64],false,8,.num .u64,false⟩),
 (228,⟨false,[],false,0,.tuple [227,121],false⟩),
 (230,⟨true,[.int .u64],false,8,.num .u64,false⟩),
 (233,⟨true,[.str,.str,.oth],true,48,.struct [(0,9),(1,9),(2,121)],false⟩),
 (235,⟨true,[.int .u8,.int .u8,.int .u8,.int .u8,.int .u8,.int .u8,.int .u8,.int .u8,.int .u8,.int .u8,.int .u8,.int .u8,.int .u8,.int .u8,.int .u8,.int .u8,.int .u8,.int .u8,.int .u8,.int .u8,.int .u8,.int .u8,.int .u8,.int .u8],true,24,.array 24 5,false⟩),
 (238,⟨false,[],false,0,.tuple [22,9],false⟩),
 (240,⟨false,[],false,0,.tuple [21,3],false⟩),
 (245,⟨true,[.ptr],false,8,.pt,true⟩),
 (246,⟨true,[.ptr],false,8,.pt,true⟩),
 (248,⟨true,[.str],true,16,.struct [(0,9)],false⟩),
 (250,⟨true,[.int .u64,.int .u64,.int .u64,.int .u64,.int .u64,.int .u64,.int .u64,.int .u64,.int .u64,.int .u64,.int .u64,.int .u64,.int .u64,.int .u64,.int .u64,.int .u64,.int .u64,.int .u64,.int .u64,.int .u64],true,160,.array 20 227,false⟩),
 (251,⟨true,[.int .u32],false,4,.num .u32,false⟩),
 (258,⟨false,[],false,0,.tuple [251,251],false⟩),
 (262,⟨true,[.int .u8,.int .u8],true,2,.struct [(0,5),(1,5)],false⟩),
 (263,⟨true,[.int .u8,.int .u8,.int .u8,.int .u8,.int .u8,.int .u8,.int .u8,.int .u8,.int .u8,.int .u8,.int .u8,.int .u8,.int .u8,.int .u8,.int .u8,.int .u8,.int .u8,.int .u8,.int .u8,.int .u8,.int .u8,.int .u8,.int .u8,.int .u8,.int .u8,.int .u8,.int .u8,.int .u8,.int .u8,.int .u8,.int .u8,.int .u8],true,32,.array 16 262,false⟩),
 (265,⟨true,[.int .u8,.int .u8,.int .u8,.int .u8,.int .u8,.int .u8,.int .u8,.int .u8,.int .u8,.int .u8,.int .u8,.int .u8,.int .u8,.int .u8,.int .u8,.int .u8,.int .u8,.int .u8,.int .u8,.int .u8,.int .u8,.int .u8,.int .u8,.int .u8,.int .u8,.int .u8,.int .u8,.int .u8,.int .u8,.int .u8,.int .u8,.int .u8],true,32,.array 32 5,false⟩)]
def E7(t:Nat):TI:=tf BW t
abbrev mO:Func:=Tryz.f81
abbrev mS:Func:=Tryz.f94
abbrev ki:Func:=Tryz.f151
abbrev mU:Func:=Tryz.f152
def F3:List (Nat×FC):=[(92,{mu:=[(1,.one (.obj [.lk .bool]))],own:=[]}),(9300091,{mu:=[(1,.fn [some (.obj [.lk .bool])])],own:=[]}),(189,{mu:=[(1,.one (.obj [.vec 1]))],own:=[]}),(98,{mu:=[(2,.one (.vec))],own:=[0]}),(19000091,{mu:=[(1,.fn [some (.obj [.vec 1])])],own:=[]}),(113,{mu:=[(2,.one (.obj [.vec 2]))],own:=[]}),(11500113,{mu:=[(1,.fn [some (.obj [.lk .ptr])]),(2,.one (.obj [.vec 2]))],own:=[]}),(11600113,{mu:=[(1,.fn [some (.obj [.lk .ptr])]),(2,.one (.obj [.vec 2]))],own:=[]}),(11700113,{mu:=[(1,.fn [some (.obj [.lk .ptr])]),(2,.one (.obj [.vec 2]))],own:=[]}),(11900113,{mu:=[(1,.fn [some (.obj [.lk .ptr,.lk .ptr])]),(2,.one (.obj [.vec 2]))],own:=[]}),(114,{mu:=[(1,.one (.obj [.lk .ptr]))],own:=[]}),(115,{mu:=[(1,.one (.obj [.lk .ptr]))],own:=[]}),(116,{mu:=[(1,.one (.obj [.lk .ptr]))],own:=[]}),(118,{mu:=[(1,.one (.obj [.lk .ptr,.lk .ptr]))],own:=[]}),(126,{mu:=[(1,.one (.obj [.vec 2])),(2,.one (.obj [.lk .ptr])),(3,.clo 126 [some 0,some 2,none])],own:=[]}),(184,{mu:=[(2,.clo 184 [none,some 0,some 1]),(3,.one (.obj [.lk .sl])),(4,.one (.obj [.lk (.int .i64)]))],own:=[]}),(125,{mu:=[(3,.one (.vec))],own:=[0]}),(150,{mu:=[(2,.one (.vec))],own:=[0]}),(32,{mu:=[(0,.one (.obj [.lk .sl,.lk (.int .i64)]))],own:=[]}),(131,{mu:=[(3,.one (.obj [.vec 1,.lk (.int .i64)]))],own:=[]}),(55,{mu:=[(0,.one (.obj [.lk .sl,.lk (.int .i64)]))],own:=[]}),(30,{mu:=[],own:=[0],ow:=[.sl,.int .i64]}),(74,{mu:=[(0,.one (.bY false [.vec 1]))],own:=[]}),(155,{mu:=[(0,.one (.obj [.lk (.int .i64),.lk .bool]))],own:=[]}),(156,{mu:=[(0,.one (.obj [.lk (.int .i64),.lk .bool]))],own:=[]}),(157,{mu:=[(0,.one (.obj [.lk (.int .i64),.lk .bool]))],own:=[]}),(127,{mu:=[(0,.one (.obj [.lk .sl,.lk (.int .i64)]))],own:=[]}),(119,{mu:=[(0,.one (.obj [.lk .sl,.lk (.int .i64)]))],own:=[]}),(76,{mu:=[(0,.one (.obj [.lk .sl,.lk (.int .i64)]))],own:=[]}),(77,{mu:=[(0,.one (.obj [.lk .sl,.lk (.int .i64)]))],own:=[]}),(33,{mu:=[(0,.one (.obj [.lk .sl,.lk (.int .i64)]))],own:=[]}),(108,{mu:=[(0,.one (.obj [.lk .sl,.lk (.int .i64)]))],own:=[]}),(52,{mu:=[(0,.one (.obj [.lk .sl,.lk (.int .i64)]))],own:=[]}),(51,{mu:=[(0,.one (.obj [.lk .sl,.lk (.int .i64)]))],own:=[]}),(62,{mu:=[(0,.one (.obj [.lk .sl,.lk (.int .i64)]))],own:=[]}),(31,{mu:=[(0,.one (.obj [.lk .sl,.lk (.int .i64)]))],own:=[]})]
def bT(f:Nat):FC:=we F3 f
theorem yr:(BW.all fun p=>!p.2.kn||p.2.DO Tryz.prog p.1)=true:=by kernel_rfl
theorem rM:cn Tryz.prog E7:=qJ yr
theorem mixed:Tryz.prog.follows .mixedOrders=true:=by kernel_rfl
abbrev NZ(r:AV)(k:Tree):Tree:=.an (LK.has .ptr r/\r.isNil=false) k
abbrev NP(r:AV)(k:Tree):Tree:=.an (LK.has .ptr r) k
abbrev NS(r:AV)(k:Tree):Tree:=.an (LK.has .str r) k
abbrev NB(r:AV)(k:Tree):Tree:=.an (LK.has .bool r) k
abbrev NL(r:AV)(k:Tree):Tree:=.an (LK.has .sl r) k
abbrev NI(r:AV)(k:Tree):Tree:=.an (LK.has (.int .i64) r) k
abbrev er(l:List AV)(k:Tree):Tree:=.an (LK.has .ptr (l.headD .any)/\1<=l.length) k
abbrev mG(l:List AV)(k:Tree):Tree:=.an (LK.has .str (l.headD .any)/\1<=l.length) k
abbrev oj(l:List AV)(k:Tree):Tree:=.an (LK.has .sl (l.headD .any)/\1<=l.length) k
abbrev NT(r:AV)(k:Tree):Tree:=.an (r=.cm [r.comp 0,r.comp 1]) k
abbrev NA(r:AV)(k:Tree):Tree:=.an (r=.agg r.cs/\r.cs.length=2/\cd [.str,.sl] r.cs 0) k
abbrev NE(l:List AV)(k:Tree):Tree:=.an (cd [.str,.sl] l 0/\2<=l.length) k
abbrev NG(r:AV)(i:Int)(z:Nat)(k:Tree):Tree:=.an (LK.has .sl r/\0<=i/\i<r.aX.length/\(r.aX.getD i.toNat []).length=z) k
abbrev RL:Type:=Nat->List AV->List Ob->Prop
abbrev VS(x:ByteArray):AV:=.v (.string x)
abbrev VI(x:Int):AV:=.v (.int .i64 x)
abbrev VB(x:Bool):AV:=.v (.bool x)
abbrev _root_.List.hA(l:List AV):AV:=l.headD .any
abbrev _root_.List.hO(l:List Ob):Ob:=l.headD .dead
abbrev _root_.Go.VL.AV.ix(a:AV)(i:Int):List AV:=a.aX.getD i.toNat []
abbrev dv(n:Nat)(t:Tree)(R:AV->List Ob->Prop):Prop:=dK Tryz.prog n t fun _ xs obs=>R (xs.headD .any) obs
abbrev pk(n:Nat)(t:Tree)(S:List AV->List Ob->RL->Prop)(R:RL):Prop:=dK Tryz.prog n t (yg (fun ys o=>S ys o R) R)
theorem gQ{n:Nat}{c:Code}{li:LI}{xs:List AV}{obs:List Ob}{R:RL}{t:Tree}(lis:List (Nat×LI))(h:dK Tryz.prog n t (yg (fun ys o=>cS Tryz.prog n c li ys o R) R))(e:round E7 bT n lis c li xs obs=t:=by kernel_rfl):cS Tryz.prog n c li xs obs R:=cS.EY (bT:=bT) (lis:=lis) rM mixed e h
theorem Gi(n:Nat)(t:Tree)(R:AV->List Ob->Prop):dv n t R=dK Tryz.prog n t fun _ xs obs=>R (xs.headD .any) obs:=rfl
theorem Fg(n:Nat)(t:Tree)(S:List AV->List Ob->RL->Prop)(R:RL):pk n t S R=dK Tryz.prog n t (yg (fun ys o=>S ys o R) R):=rfl
theorem Hw(x:ByteArray):VS x=.v (.string x):=rfl
theorem HA(x:Int):VI x=.v (.int .i64 x):=rfl
theorem Hy(x:Bool):VB x=.v (.bool x):=rfl
theorem HM(l:List AV):l.hA=l.headD .any:=rfl
theorem HH(l:List Ob):l.hO=l.headD .dead:=rfl
theorem Hv(a:AV)(i:Int):a.ix i=a.aX.getD i.toNat []:=rfl
theorem oQ{f:Nat}{asq:List AV}{ins:List Ob}{R:AV->List Ob->Prop}{t:Tree}(lis:List (Nat×LI))(F:Func)(h:dK Tryz.prog F.ntmps t fun _ xs obs=>R (xs.headD .any) obs)(hf:Tryz.prog.funcs[f]?=some F:=by kernel_rfl)(hnm:(F.name=="runtime.NumGoroutine")=false:=by kernel_rfl)(e:main E7 bT lis {} F asq ins=t:=by kernel_rfl):au Tryz.prog f asq ins R:=au.EY (bT:=bT) (lis:=lis) (fc:={}) rM mixed hf hnm e h
theorem oF{f:Nat}{asq:List AV}{ins:List Ob}{R:AV->List Ob->Prop}{t:Tree}(lis:List (Nat×LI))(fc:FC)(F:Func)(h:dK Tryz.prog F.ntmps t fun _ xs obs=>R (xs.headD .any) obs)(hf:Tryz.prog.funcs[f]?=some F:=by kernel_rfl)(hnm:(F.name=="runtime.NumGoroutine")=false:=by kernel_rfl)(e:main E7 bT lis fc F asq ins=t:=by kernel_rfl):au Tryz.prog f asq ins R:=au.EY (bT:=bT) (lis:=lis) (fc:=fc) rM mixed hf hnm e h
theorem uQ{P:Program}{f:Nat}{asq bs:List AV}{R:AV->List Ob->Prop}(h:sL asq bs)(hf:au P f bs [] R):au P f asq [] R:=au.rO dr (au.up h hf)
theorem HI(r:AV)(k:Tree):NZ r k=.an (LK.has .ptr r/\r.isNil=false) k:=rfl
theorem Hx(r:AV)(k:Tree):NP r k=.an (LK.has .ptr r) k:=rfl
theorem HK(r:AV)(k:Tree):NS r k=.an (LK.has .str r) k:=rfl
theorem HF(r:AV)(k:Tree):NB r k=.an (LK.has .bool r) k:=rfl
theorem Hu(r:AV)(k:Tree):NL r k=.an (LK.has .sl r) k:=rfl
theorem Hz(r:AV)(k:Tree):NI r k=.an (LK.has (.int .i64) r) k:=rfl
theorem F4(l:List AV)(k:Tree):er l k=.an (LK.has .ptr (l.headD .any)/\1<=l.length) k:=rfl
theorem F6(l:List AV)(k:Tree):mG l k=.an (LK.has .str (l.headD .any)/\1<=l.length) k:=rfl
theorem FW(l:List AV)(k:Tree):oj l k=.an (LK.has .sl (l.headD .any)/\1<=l.length) k:=rfl
theorem HC(r:AV)(k:Tree):NT r k=.an (r=.cm [r.comp 0,r.comp 1]) k:=rfl
theorem HG(r:AV)(k:Tree):NA r k=.an (r=.agg r.cs/\r.cs.length=2/\cd [.str,.sl] r.cs 0) k:=rfl
theorem HD(l:List AV)(k:Tree):NE l k=.an (cd [.str,.sl] l 0/\2<=l.length) k:=rfl
theorem HB(r:AV)(i:Int)(z:Nat)(k:Tree):NG r i z k=.an (LK.has .sl r/\0<=i/\i<r.aX.length/\(r.aX.getD i.toNat []).length=z) k:=rfl
set_option linter.defProp false in
def zq:=aC @HI (aC @Hx (aC @HK (aC @HF (aC @Hu (aC @Hz (aC @F4 (aC @F6 (aC @FW (aC @HC (aC @HG (aC @HD (aC @HB (aC @Gi (aC @Fg (aC @Hw (aC @HA (aC @Hy ((aC @HM (aC @HH (aC @Hv @zp)))))))))))))))))))))
variable {R:AV->List Ob->Prop} {U:RL}
def DF(a0:AV):Tree :=
 NL a0<|.test (decide ((a0.aX.length:Int)>(1048576:Int))) (.done 0 [VB true] []) (.call 8 [a0] [] fun r1 o1=>.an (r1=.cm [r1.comp 0,r1.comp 1,r1.comp 2])<|NS (r1.comp 0)<|NI (r1.comp 1)<|NS (r1.comp 2)<|.call 9 [VS ((r1.comp 0).ah),VI ((r1.comp 1).toInt),VS ((r1.comp 2).ah)] [] fun r2 o2=>NT r2<|NI (r2.comp 0)<|NB (r2.comp 1)<|.call 10 [VS ((r1.comp 0).ah),VI ((r1.comp 1).toInt),VS ((r1.comp 2).ah)] [] fun r3 o3=>NT r3<|NI (r3.comp 0)<|NB (r3.comp 1)<|.test (!(((r2.comp 1).toBool)==((r3.comp 1).toBool))) (.test (((r2.comp 1).toBool)==((r3.comp 1).toBool)) (.done 0 [VB (((r2.comp 0).toInt)==((r3.comp 0).toInt))] []) (.done 0 [VB false] [])) (.test (((r2.comp 0).toInt) != ((r3.comp 0).toInt)) (.test (((r2.comp 1).toBool)==((r3.comp 1).toBool)) (.done 0 [VB (((r2.comp 0).toInt)==((r3.comp 0).toInt))] []) (.done 0 [VB false] [])) (.test (!((r2.comp 1).toBool)) (.test (((r2.comp 1).toBool)==((r3.comp 1).toBool)) (.done 0 [VB (((r2.comp 0).toInt)==((r3.comp 0).toInt))] []) (.done 0 [VB false] [])) (.call 11 [VS ((r1.comp 0).ah),VI ((r1.comp 1).toInt)] [] fun r4 o4=>NT r4<|NI (r4.comp 0)<|NB (r4.comp 1)<|.call 12 [VS ((r1.comp 0).ah),VI ((r1.comp 1).toInt),VI ((r2.comp 0).toInt)] [] fun r5 o5=>NT r5<|NS (r5.comp 0)<|NB (r5.comp 1)<|.test ((r4.comp 1).toBool) (.test ((r5.comp 1).toBool) (.test (decide (((r2.comp 0).toInt)≥(0:Int))) (.test (decide (((r2.comp 0).toInt)<((r4.comp 0).toInt))) (.done 0 [VB (ac ((r5.comp 0).ah)==ac ((r1.comp 2).ah))] []) (.done 0 [VB false] [])) (.done 0 [VB false] [])) (.done 0 [VB false] [])) (.done 0 [VB false] [])))))
theorem FJ(a0:AV)(ha0:LK.has .sl a0)(h:dv 88 (DF a0) R):au Tryz.prog 3 [a0] [] R :=
 uQ (aj (bQ ha0) aH) (oQ [] Tryz.f3 h)
def BY(a0:AV):Tree :=
 .call 30 [a0] [] fun r1 o1=>.an (r1=.ref 0 0/\(o1.hO)=.cells (o1.hO).cs/\(o1.hO).cs.length=2/\cd [.sl,.int .i64] ((o1.hO).cs) 0)<|.call 31 [.ref 0 0,VI 3] [.cells [((o1.hO).cs.getD 0 .any),VI (((o1.hO).cs.getD 1 .any).toInt)]] fun r2 o2=>.an ((o2.hO)=.cells (o2.hO).cs)<|.an (aO [.lk .sl,.lk (.int .i64)] ((o2.hO).cs) 0 1 o2.tail)<|NS r2<|.call 32 [.ref 0 0,VI 3] [.cells [((o2.hO).cs.getD 0 .any),VI (((o2.hO).cs.getD 1 .any).toInt)]] fun r3 o3=>.an ((o3.hO)=.cells (o3.hO).cs)<|.an (aO [.lk .sl,.lk (.int .i64)] ((o3.hO).cs) 0 1 o3.tail)<|NI r3<|.call 33 [.ref 0 0,VS r2.ah] [.cells [((o3.hO).cs.getD 0 .any),VI (((o3.hO).cs.getD 1 .any).toInt)]] fun r4 o4=>.an ((o4.hO)=.cells (o4.hO).cs)<|.an (aO [.lk .sl,.lk (.int .i64)] ((o4.hO).cs) 0 1 o4.tail)<|NS r4<|.done 0 [.cm [VS r2.ah,VI (IntKind.wrap .i64 (3+r3.toInt)),VS r4.ah]] []
theorem GD(a0:AV)(ha0:LK.has .sl a0)(h:dv 18 (BY a0) R):au Tryz.prog 8 [a0] [] R :=
 uQ (aj (bQ ha0) aH) (oQ [] Tryz.f8 h)
def Dq(a0:ByteArray)(a1:Int)(a2:ByteArray):Tree :=
 .call 11 [VS a0,VI a1] [] fun r1 o1=>NT r1<|NI (r1.comp 0)<|NB (r1.comp 1)<|.call 34 [VS a0,VS a2,VI a1] [] fun r2 o2=>NT r2<|NP (r2.comp 0)<|NP (r2.comp 1)<|.test (!((r1.comp 1).toBool)) (.done 0 [.cm [VI 0,VB false]] []) (NP (r2.comp 1)<|.test ((r2.comp 1).isNil) (.done 0 [.cm [VI 0,VB false]] []) (.call 35 [(r2.comp 0),VI a1,(r2.comp 1)] [] fun r3 o3=>NI r3<|.done 0 [.cm [VI r3.toInt,VB true]] []))
theorem Hm(a0:ByteArray)(a1:Int)(a2:ByteArray)(h:dv 35 (Dq a0 a1 a2) R):au Tryz.prog 9 [VS a0,VI a1,VS a2] [] R :=
 uQ (aj (aD _) (aj (aD _) (aj (aD _) aH))) (oQ [] Tryz.f9 h)
def Cw(a0:ByteArray)(a1:Int)(a2:ByteArray):Tree :=
 .call 36 [VS a0] [] fun r1 o1=>NT r1<|.an ((r1.comp 0)=.agg (r1.comp 0).cs/\(r1.comp 0).cs.length=2/\cd [.str,.sl] ((r1.comp 0).cs) 0)<|NB (r1.comp 1)<|.call 37 [VS a2] [] fun r2 o2=>NT r2<|.an ((r2.comp 0)=.agg (r2.comp 0).cs/\(r2.comp 0).cs.length=2/\cd [.str,.sl] ((r2.comp 0).cs) 0)<|NB (r2.comp 1)<|.call 38 [VS a0,VI a1] [] fun r3 o3=>NT r3<|NI (r3.comp 0)<|NB (r3.comp 1)<|.test (!((r3.comp 1).toBool)) (.done 0 [.cm [VI 0,VB false]] []) (.call 39 [VS a0,VS a2,VI a1] [] fun r4 o4=>NB r4<|.test (!r4.toBool) (.done 0 [.cm [VI 0,VB false]] []) (.call 40 [.agg [VS (((r1.comp 0).cs.getD 0 .any).ah),((r1.comp 0).cs.getD 1 .any)],VI a1,.agg [VS (((r2.comp 0).cs.getD 0 .any).ah),((r2.comp 0).cs.getD 1 .any)]] [] fun r5 o5=>NI r5<|.done 0 [.cm [VI r5.toInt,VB true]] []))
theorem E9(a0:ByteArray)(a1:Int)(a2:ByteArray)(h:dv 43 (Cw a0 a1 a2) R):au Tryz.prog 10 [VS a0,VI a1,VS a2] [] R :=
 uQ (aj (aD _) (aj (aD _) (aj (aD _) aH))) (oQ [] Tryz.f10 h)
def Ep(a0:ByteArray)(a1:Int):Tree :=
 .call 41 [VS a0] [] fun r1 o1=>NP r1<|NP r1<|.test r1.isNil (.done 0 [.cm [VI 0,VB false]] []) (.test (decide (a1<(0:Int))) (.done 0 [.cm [VI 0,VB false]] []) (.test (decide (a1>(100:Int))) (.done 0 [.cm [VI 0,VB false]] []) (.call 42 [r1,VI a1] [] fun r2 o2=>NT r2<|NI (r2.comp 0)<|NB (r2.comp 1)<|.done 0 [.cm [VI ((r2.comp 0).toInt),VB ((r2.comp 1).toBool)]] [])))
theorem Fe(a0:ByteArray)(a1:Int)(h:dv 24 (Ep a0 a1) R):au Tryz.prog 11 [VS a0,VI a1] [] R :=
 uQ (aj (aD _) (aj (aD _) aH)) (oQ [] Tryz.f11 h)
def Du(a0:ByteArray)(a1:Int)(a2:Int):Tree :=
 .call 11 [VS a0,VI a1] [] fun r1 o1=>NT r1<|NI (r1.comp 0)<|NB (r1.comp 1)<|.test (!((r1.comp 1).toBool)) (.done 0 [.cm [VS (mk []),VB false]] []) (.test (decide (a2<(0:Int))) (.done 0 [.cm [VS (mk []),VB false]] []) (.test (decide (a2≥((r1.comp 0).toInt))) (.done 0 [.cm [VS (mk []),VB false]] []) (.call 41 [VS a0] [] fun r2 o2=>NP r2<|.call 44 [r2,VI a1,VI a2] [] fun r3 o3=>NP r3<|.call 43 [r3] [] fun r4 o4=>NT r4<|NS (r4.comp 0)<|NB (r4.comp 1)<|.done 0 [.cm [VS ((r4.comp 0).ah),VB ((r4.comp 1).toBool)]] [])))
theorem FZ(a0:ByteArray)(a1:Int)(a2:Int)(h:dv 35 (Du a0 a1 a2) R):au Tryz.prog 12 [VS a0,VI a1,VI a2] [] R :=
 uQ (aj (aD _) (aj (aD _) (aj (aD _) aH))) (oQ [] Tryz.f12 h)
def DL(a0:AV):Tree :=
 NL a0<|.test (decide ((a0.aX.length:Int)>(2000:Int))) (.an (LK.has .sl a0/\0<=(0:Int)/\(0:Int)<=(2000:Int)/\(2000:Int)<=(a0.aX.length:Int))<|.done 0 [.ref 0 0] [.cells [.sl ((a0.aX.take (bk 2000)).drop (bk 0)),VI 0]]) (.done 0 [.ref 0 0] [.cells [a0,VI 0]])
theorem GW(a0:AV)(ha0:LK.has .sl a0)(h:dv 11 (DL a0) R):au Tryz.prog 30 [a0] [] R :=
 uQ (aj (bQ ha0) aH) (oF [] {mu:=[],own:=[0],ow:=[.sl,.int .i64]} Tryz.f30 h)
def Ad(a0_0:AV)(a0_1:Int)(a1:Int):Tree :=
 .test (decide (a1<=(0:Int))) (.call 55 [.ref 0 0,.sl [[VS (mk [120])],[VS (mk [49])],[VS (mk [121])],[VS (mk [120])],[VS (mk [122])],[VS (mk [48])],[VS (mk [49])]]] [.cells [a0_0,VI a0_1]] fun r1 o1=>.an ((o1.hO)=.cells (o1.hO).cs)<|.an (aO [.lk .sl,.lk (.int .i64)] ((o1.hO).cs) 0 1 o1.tail)<|NS r1<|.done 0 [VS r1.ah] [.cells [((o1.hO).cs.getD 0 .any),VI (((o1.hO).cs.getD 1 .any).toInt)]]) (.call 32 [.ref 0 0,VI 4] [.cells [a0_0,VI a0_1]] fun r2 o2=>.an ((o2.hO)=.cells (o2.hO).cs)<|.an (aO [.lk .sl,.lk (.int .i64)] ((o2.hO).cs) 0 1 o2.tail)<|NI r2<|.test (r2.toInt==(0:Int)) (.call 55 [.ref 0 0,.sl [[VS (mk [120])],[VS (mk [49])],[VS (mk [121])],[VS (mk [120])],[VS (mk [122])],[VS (mk [48])],[VS (mk [49])]]] [.cells [((o2.hO).cs.getD 0 .any),VI (((o2.hO).cs.getD 1 .any).toInt)]] fun r3 o3=>.an ((o3.hO)=.cells (o3.hO).cs)<|.an (aO [.lk .sl,.lk (.int .i64)] ((o3.hO).cs) 0 1 o3.tail)<|NS r3<|.done 0 [VS r3.ah] [.cells [((o3.hO).cs.getD 0 .any),VI (((o3.hO).cs.getD 1 .any).toInt)]]) (.call 32 [.ref 0 0,VI 24] [.cells [((o2.hO).cs.getD 0 .any),VI (((o2.hO).cs.getD 1 .any).toInt)]] fun r4 o4=>.an ((o4.hO)=.cells (o4.hO).cs)<|.an (aO [.lk .sl,.lk (.int .i64)] ((o4.hO).cs) 0 1 o4.tail)<|NI r4<|.test (r4.toInt==(0:Int)) (.call 76 [.ref 0 0] [.cells [((o4.hO).cs.getD 0 .any),VI (((o4.hO).cs.getD 1 .any).toInt)]] fun r5 o5=>.an ((o5.hO)=.cells (o5.hO).cs)<|.an (aO [.lk .sl,.lk (.int .i64)] ((o5.hO).cs) 0 1 o5.tail)<|NS r5<|.done 0 [VS r5.ah] [.cells [((o5.hO).cs.getD 0 .any),VI (((o5.hO).cs.getD 1 .any).toInt)]]) (.call 55 [.ref 0 0,.sl [[VS (mk [40,43,32])],[VS (mk [40,42,32])]]] [.cells [((o4.hO).cs.getD 0 .any),VI (((o4.hO).cs.getD 1 .any).toInt)]] fun r6 o6=>.an ((o6.hO)=.cells (o6.hO).cs)<|.an (aO [.lk .sl,.lk (.int .i64)] ((o6.hO).cs) 0 1 o6.tail)<|NS r6<|.call 31 [.ref 0 0,VI (IntKind.wrap .i64 (a1-1))] [.cells [((o6.hO).cs.getD 0 .any),VI (((o6.hO).cs.getD 1 .any).toInt)]] fun r7 o7=>.an ((o7.hO)=.cells (o7.hO).cs)<|.an (aO [.lk .sl,.lk (.int .i64)] ((o7.hO).cs) 0 1 o7.tail)<|NS r7<|.an (ae r6.ah+ae r7.ah<=9223372036854775807)<|.an (ae ((r6.ah:ByteArray)++r7.ah)+ae (mk [32])<=9223372036854775807)<|.call 31 [.ref 0 0,VI (IntKind.wrap .i64 (a1-1))] [.cells [((o7.hO).cs.getD 0 .any),VI (((o7.hO).cs.getD 1 .any).toInt)]] fun r8 o8=>.an ((o8.hO)=.cells (o8.hO).cs)<|.an (aO [.lk .sl,.lk (.int .i64)] ((o8.hO).cs) 0 1 o8.tail)<|NS r8<|.an (ae ((((r6.ah:ByteArray)++r7.ah):ByteArray)++(mk [32]))+ae r8.ah<=9223372036854775807)<|.an (ae ((((((r6.ah:ByteArray)++r7.ah):ByteArray)++(mk [32])):ByteArray)++r8.ah)+ae (mk [41])<=9223372036854775807)<|.done 0 [VS ((((((((r6.ah:ByteArray)++r7.ah):ByteArray)++(mk [32])):ByteArray)++r8.ah):ByteArray)++(mk [41]))] [.cells [((o8.hO).cs.getD 0 .any),VI (((o8.hO).cs.getD 1 .any).toInt)]])))
theorem CA(a0_0:AV)(a0_1:Int)(a1:Int)(ha0_0:LK.has .sl a0_0)(h:dv 35 (Ad a0_0 a0_1 a1) R):au Tryz.prog 31 [.ref 0 0,VI a1] [.cells [a0_0,VI a0_1]] R :=
 au.rO (cG (dn (aj (bQ ha0_0) (aj (aD _) aH))) dr) (au.up (aj (aD _) (aj (aD _) aH)) (oF [] {mu:=[(0,.one (.obj [.lk .sl,.lk (.int .i64)]))],own:=[]} Tryz.f31 h))
def BO(a0_0:AV)(a0_1:Int)(a1:Int):Tree :=
 .test (decide (a1<(1:Int))) (.done 0 [VI 0] [.cells [a0_0,VI (IntKind.wrap .i64 (a0_1+1))]]) (NL a0_0<|.test ((a0_0.aX.length:Int)==(0:Int)) (.done 0 [VI 0] [.cells [a0_0,VI (IntKind.wrap .i64 (a0_1+1))]]) (NL a0_0<|.test (decide ((IntKind.wrap .i64 ((IntKind.wrap .i64 (a0_1+1))-1))<(a0_0.aX.length:Int))) (.an (LK.has .sl a0_0/\0<=(IntKind.wrap .i64 ((IntKind.wrap .i64 (a0_1+1))-1))/\(IntKind.wrap .i64 ((IntKind.wrap .i64 (a0_1+1))-1))<a0_0.aX.length/\(a0_0.ix (IntKind.wrap .i64 ((IntKind.wrap .i64 (a0_1+1))-1))).length=1)<|.an (LK.has (.int .u8) ((a0_0.ix (IntKind.wrap .i64 ((IntKind.wrap .i64 (a0_1+1))-1))).hA)/\1<=(a0_0.ix (IntKind.wrap .i64 ((IntKind.wrap .i64 (a0_1+1))-1))).length)<|.an (¬a1=0)<|.done 0 [VI (cr (IntKind.wrap .i64 (((a0_0.ix (IntKind.wrap .i64 ((IntKind.wrap .i64 (a0_1+1))-1))).hA).toInt)) a1)] [.cells [a0_0,VI (IntKind.wrap .i64 (a0_1+1))]]) (NL a0_0<|.an (¬(a0_0.aX.length:Int)=0)<|.an (LK.has .sl a0_0/\0<=(cr (IntKind.wrap .i64 ((IntKind.wrap .i64 (a0_1+1))-1)) (a0_0.aX.length:Int))/\(cr (IntKind.wrap .i64 ((IntKind.wrap .i64 (a0_1+1))-1)) (a0_0.aX.length:Int))<a0_0.aX.length/\(a0_0.ix (cr (IntKind.wrap .i64 ((IntKind.wrap .i64 (a0_1+1))-1)) (a0_0.aX.length:Int))).length=1)<|.an (LK.has (.int .u8) ((a0_0.ix (cr (IntKind.wrap .i64 ((IntKind.wrap .i64 (a0_1+1))-1)) (a0_0.aX.length:Int))).hA)/\1<=(a0_0.ix (cr (IntKind.wrap .i64 ((IntKind.wrap .i64 (a0_1+1))-1)) (a0_0.aX.length:Int))).length)<|NL a0_0<|.an (¬(a0_0.aX.length:Int)=0)<|.an (LK.has .sl a0_0/\0<=(cr (IntKind.wrap .i64 ((IntKind.wrap .i64 ((IntKind.wrap .i64 ((IntKind.wrap .i64 (a0_1+1))-1))*7))+3)) (a0_0.aX.length:Int))/\(cr (IntKind.wrap .i64 ((IntKind.wrap .i64 ((IntKind.wrap .i64 ((IntKind.wrap .i64 (a0_1+1))-1))*7))+3)) (a0_0.aX.length:Int))<a0_0.aX.length/\(a0_0.ix (cr (IntKind.wrap .i64 ((IntKind.wrap .i64 ((IntKind.wrap .i64 ((IntKind.wrap .i64 (a0_1+1))-1))*7))+3)) (a0_0.aX.length:Int))).length=1)<|.an (LK.has (.int .u8) ((a0_0.ix (cr (IntKind.wrap .i64 ((IntKind.wrap .i64 ((IntKind.wrap .i64 ((IntKind.wrap .i64 (a0_1+1))-1))*7))+3)) (a0_0.aX.length:Int))).hA)/\1<=(a0_0.ix (cr (IntKind.wrap .i64 ((IntKind.wrap .i64 ((IntKind.wrap .i64 ((IntKind.wrap .i64 (a0_1+1))-1))*7))+3)) (a0_0.aX.length:Int))).length)<|NL a0_0<|.an (¬(a0_0.aX.length:Int)=0)<|.an (¬(64:Int)=0)<|.an (¬a1=0)<|.done 0 [VI (cr (vL .i64 (IntKind.wrap .i64 ((IntKind.wrap .i64 ((IntKind.wrap .i64 ((IntKind.wrap .i64 ((IntKind.wrap .i64 (((a0_0.ix (cr (IntKind.wrap .i64 ((IntKind.wrap .i64 (a0_1+1))-1)) (a0_0.aX.length:Int))).hA).toInt))*131))+(IntKind.wrap .i64 ((IntKind.wrap .i64 (((a0_0.ix (cr (IntKind.wrap .i64 ((IntKind.wrap .i64 ((IntKind.wrap .i64 ((IntKind.wrap .i64 (a0_1+1))-1))*7))+3)) (a0_0.aX.length:Int))).hA).toInt))*1117))))+(IntKind.wrap .i64 ((IntKind.wrap .i64 ((IntKind.wrap .i64 (a0_1+1))-1))*29))))+(IntKind.wrap .i64 ((IntKind.wrap .i64 (Int.tdiv (IntKind.wrap .i64 ((IntKind.wrap .i64 (a0_1+1))-1)) (a0_0.aX.length:Int)))*53)))) (IntKind.wrap .i64 (Int.tdiv (IntKind.wrap .i64 ((IntKind.wrap .i64 ((IntKind.wrap .i64 ((IntKind.wrap .i64 ((IntKind.wrap .i64 (((a0_0.ix (cr (IntKind.wrap .i64 ((IntKind.wrap .i64 (a0_1+1))-1)) (a0_0.aX.length:Int))).hA).toInt))*131))+(IntKind.wrap .i64 ((IntKind.wrap .i64 (((a0_0.ix (cr (IntKind.wrap .i64 ((IntKind.wrap .i64 ((IntKind.wrap .i64 ((IntKind.wrap .i64 (a0_1+1))-1))*7))+3)) (a0_0.aX.length:Int))).hA).toInt))*1117))))+(IntKind.wrap .i64 ((IntKind.wrap .i64 ((IntKind.wrap .i64 (a0_1+1))-1))*29))))+(IntKind.wrap .i64 ((IntKind.wrap .i64 (Int.tdiv (IntKind.wrap .i64 ((IntKind.wrap .i64 (a0_1+1))-1)) (a0_0.aX.length:Int)))*53)))) 64))) a1)] [.cells [a0_0,VI (IntKind.wrap .i64 (a0_1+1))]])))
theorem G1(a0_0:AV)(a0_1:Int)(a1:Int)(ha0_0:LK.has .sl a0_0)(h:dv 99 (BO a0_0 a0_1 a1) R):au Tryz.prog 32 [.ref 0 0,VI a1] [.cells [a0_0,VI a0_1]] R :=
 au.rO (cG (dn (aj (bQ ha0_0) (aj (aD _) aH))) dr) (au.up (aj (aD _) (aj (aD _) aH)) (oF [] {mu:=[(0,.one (.obj [.lk .sl,.lk (.int .i64)]))],own:=[]} Tryz.f32 h))
def CI(a0_0:AV)(a0_1:Int)(a1:ByteArray):Tree :=
 .call 46 [VS a1] [] fun r1 o1=>NT r1<|.an ((r1.comp 0)=.agg (r1.comp 0).cs/\(r1.comp 0).cs.length=2/\cd [.str,.sl] ((r1.comp 0).cs) 0)<|NB (r1.comp 1)<|.test (!((r1.comp 1).toBool)) (.call 55 [.ref 0 0,.sl [[VS (mk [])],[VS (mk [117])],[VS (mk [101,48])],[VS (mk [101,48,48])],[VS (mk [101,49,48,48])],[VS (mk [40,108,32,117,41])],[VS (mk [40,112,32,117,41])],[VS (mk [40,102,32,40,108,32,117,41,41])],[VS (mk [40,120,32,117,41])],[VS (mk [40,108,32,32,117,41])]]] [.cells [a0_0,VI a0_1]] fun r2 o2=>.an ((o2.hO)=.cells (o2.hO).cs)<|.an (aO [.lk .sl,.lk (.int .i64)] ((o2.hO).cs) 0 1 o2.tail)<|NS r2<|.done 0 [VS r2.ah] [.cells [((o2.hO).cs.getD 0 .any),VI (((o2.hO).cs.getD 1 .any).toInt)]]) (.call 32 [.ref 0 0,VI 16] [.cells [a0_0,VI a0_1]] fun r3 o3=>.an ((o3.hO)=.cells (o3.hO).cs)<|.an (aO [.lk .sl,.lk (.int .i64)] ((o3.hO).cs) 0 1 o3.tail)<|NI r3<|.test (r3.toInt==(0:Int)) (.call 55 [.ref 0 0,.sl [[VS (mk [])],[VS (mk [117])],[VS (mk [101,48])],[VS (mk [101,48,48])],[VS (mk [101,49,48,48])],[VS (mk [40,108,32,117,41])],[VS (mk [40,112,32,117,41])],[VS (mk [40,102,32,40,108,32,117,41,41])],[VS (mk [40,120,32,117,41])],[VS (mk [40,108,32,32,117,41])]]] [.cells [((o3.hO).cs.getD 0 .any),VI (((o3.hO).cs.getD 1 .any).toInt)]] fun r4 o4=>.an ((o4.hO)=.cells (o4.hO).cs)<|.an (aO [.lk .sl,.lk (.int .i64)] ((o4.hO).cs) 0 1 o4.tail)<|NS r4<|.done 0 [VS r4.ah] [.cells [((o4.hO).cs.getD 0 .any),VI (((o4.hO).cs.getD 1 .any).toInt)]]) (.call 78 [.agg [VS (((r1.comp 0).cs.getD 0 .any).ah),((r1.comp 0).cs.getD 1 .any)],.v (.slice none 0 0)] [] fun r5 o5=>NA r5<|.call 32 [.ref 0 0,VI 5] [.cells [((o3.hO).cs.getD 0 .any),VI (((o3.hO).cs.getD 1 .any).toInt)]] fun r6 o6=>.an ((o6.hO)=.cells (o6.hO).cs)<|.an (aO [.lk .sl,.lk (.int .i64)] ((o6.hO).cs) 0 1 o6.tail)<|NI r6<|.call 77 [.ref 0 0,.agg [VS ((r5.cs.getD 0 .any).ah),(r5.cs.getD 1 .any)],VI (IntKind.wrap .i64 (5+r6.toInt))] [.cells [((o6.hO).cs.getD 0 .any),VI (((o6.hO).cs.getD 1 .any).toInt)]] fun r7 o7=>.an ((o7.hO)=.cells (o7.hO).cs)<|.an (aO [.lk .sl,.lk (.int .i64)] ((o7.hO).cs) 0 1 o7.tail)<|NA r7<|.call 57 [.agg [VS ((r7.cs.getD 0 .any).ah),(r7.cs.getD 1 .any)]] [] fun r8 o8=>NS r8<|.done 0 [VS r8.ah] [.cells [((o7.hO).cs.getD 0 .any),VI (((o7.hO).cs.getD 1 .any).toInt)]]))
theorem Gr(a0_0:AV)(a0_1:Int)(a1:ByteArray)(ha0_0:LK.has .sl a0_0)(h:dv 30 (CI a0_0 a0_1 a1) R):au Tryz.prog 33 [.ref 0 0,VS a1] [.cells [a0_0,VI a0_1]] R :=
 au.rO (cG (dn (aj (bQ ha0_0) (aj (aD _) aH))) dr) (au.up (aj (aD _) (aj (aD _) aH)) (oF [] {mu:=[(0,.one (.obj [.lk .sl,.lk (.int .i64)]))],own:=[]} Tryz.f33 h))
def CO(a0:ByteArray)(a1:ByteArray)(a2:Int):Tree :=
 .call 79 [VS a0] [] fun r1 o1=>NP r1<|.call 48 [VS a1] [] fun r2 o2=>NP r2<|NP r1<|.test r1.isNil (.done 0 [.cm [r1,.v (.pointer none)]] []) (NP r2<|.test r2.isNil (.done 0 [.cm [r1,.v (.pointer none)]] []) (.test (decide (a2<(0:Int))) (.done 0 [.cm [r1,.v (.pointer none)]] []) (.test (decide (a2>(100:Int))) (.done 0 [.cm [r1,.v (.pointer none)]] []) (.call 80 [.agg [r1,.v (.pointer none)],r2,VI a2] [] fun r3 o3=>NB r3<|.test (!r3.toBool) (.done 0 [.cm [r1,.v (.pointer none)]] []) (.done 0 [.cm [r1,r2]] [])))))
theorem Ft(a0:ByteArray)(a1:ByteArray)(a2:Int)(h:dv 39 (CO a0 a1 a2) R):au Tryz.prog 34 [VS a0,VS a1,VI a2] [] R :=
 uQ (aj (aD _) (aj (aD _) (aj (aD _) aH))) (oQ [] Tryz.f34 h)
def ub(a0:AV)(a1:Int)(a2:AV):Tree :=
 NZ a2<|NZ a2<|.an (LK.has (.int .u8) (a2.deref.hA)/\1<=a2.deref.length)<|.test (((a2.deref.hA).toInt)==(101:Int)) (NZ a2<|NZ a2<|mG (a2.deref.drop 1)<|.an (0<=(1:Int)/\(1:Int)<=(ae (((a2.deref.drop 1).hA).ah):Int)/\(ae (((a2.deref.drop 1).hA).ah):Int)<=(ae (((a2.deref.drop 1).hA).ah):Int))<|.call 81 [VS (bn (((a2.deref.drop 1).hA).ah) (bk 1) (bk (ae (((a2.deref.drop 1).hA).ah):Int)))] [] fun r1 o1=>NT r1<|NI (r1.comp 0)<|.an (LK.has .oth (r1.comp 1))<|.done 0 [VI ((r1.comp 0).toInt)] []) (.test (((a2.deref.hA).toInt)==(108:Int)) (NZ a0<|NZ a0<|er (a0.deref.drop 3)<|NZ a2<|NZ a2<|er (a2.deref.drop 2)<|.call 35 [((a0.deref.drop 3).hA),VI a1,((a2.deref.drop 2).hA)] [] fun r2 o2=>NI r2<|.done 0 [VI r2.toInt] []) (.test (((a2.deref.hA).toInt)==(114:Int)) (NZ a0<|NZ a0<|er (a0.deref.drop 3)<|.call 42 [((a0.deref.drop 3).hA),VI a1] [] fun r3 o3=>NT r3<|NI (r3.comp 0)<|NB (r3.comp 1)<|NZ a0<|NZ a0<|er (a0.deref.drop 4)<|NZ a2<|NZ a2<|er (a2.deref.drop 2)<|.call 35 [((a0.deref.drop 4).hA),VI a1,((a2.deref.drop 2).hA)] [] fun r4 o4=>NI r4<|.done 0 [VI (IntKind.wrap .i64 (((r3.comp 0).toInt)+r4.toInt))] []) (.test (((a2.deref.hA).toInt)==(112:Int)) (NZ a0<|NZ a0<|er (a0.deref.drop 4)<|.call 42 [((a0.deref.drop 4).hA),VI a1] [] fun r5 o5=>NT r5<|NI (r5.comp 0)<|NB (r5.comp 1)<|NZ a0<|NZ a0<|er (a0.deref.drop 3)<|NZ a2<|NZ a2<|er (a2.deref.drop 2)<|.call 35 [((a0.deref.drop 3).hA),VI a1,((a2.deref.drop 2).hA)] [] fun r6 o6=>NI r6<|NZ a0<|NZ a0<|er (a0.deref.drop 4)<|NZ a2<|NZ a2<|er (a2.deref.drop 3)<|.call 35 [((a0.deref.drop 4).hA),VI a1,((a2.deref.drop 3).hA)] [] fun r7 o7=>NI r7<|.done 0 [VI (IntKind.wrap .i64 ((IntKind.wrap .i64 (r6.toInt*((r5.comp 0).toInt)))+r7.toInt))] []) (.done 0 [VI 0] []))))
theorem wS(a0:AV)(a1:Int)(a2:AV)(ha0:LK.has .ptr a0)(ha2:LK.has .ptr a2)(h:dv 98 (ub a0 a1 a2) R):au Tryz.prog 35 [a0,VI a1,a2] [] R :=
 uQ (aj (cD ha0) (aj (aD _) (aj (cD ha2) aH))) (oQ [] Tryz.f35 h)
def CC(a0:ByteArray):Tree :=
 .call 82 [VS a0] [] fun r1 o1=>NT r1<|.an ((r1.comp 0)=.agg (r1.comp 0).cs/\(r1.comp 0).cs.length=2/\cd [.str,.sl] ((r1.comp 0).cs) 0)<|NB (r1.comp 1)<|.test ((r1.comp 1).toBool) (.call 83 [.agg [VS (((r1.comp 0).cs.getD 0 .any).ah),((r1.comp 0).cs.getD 1 .any)]] [] fun r2 o2=>NB r2<|.done 0 [.cm [.agg [VS (((r1.comp 0).cs.getD 0 .any).ah),((r1.comp 0).cs.getD 1 .any)],VB r2.toBool]] []) (.done 0 [.cm [.agg [VS (((r1.comp 0).cs.getD 0 .any).ah),((r1.comp 0).cs.getD 1 .any)],VB false]] [])
theorem Fy(a0:ByteArray)(h:dv 17 (CC a0) R):au Tryz.prog 36 [VS a0] [] R :=
 uQ (aj (aD _) aH) (oQ [] Tryz.f36 h)
def EG(a0:ByteArray):Tree :=
 .call 84 [VS a0] [] fun r1 o1=>NT r1<|.an ((r1.comp 0)=.agg (r1.comp 0).cs/\(r1.comp 0).cs.length=2/\cd [.str,.sl] ((r1.comp 0).cs) 0)<|NB (r1.comp 1)<|.test ((r1.comp 1).toBool) (.call 85 [.agg [VS (((r1.comp 0).cs.getD 0 .any).ah),((r1.comp 0).cs.getD 1 .any)]] [] fun r2 o2=>NB r2<|.test r2.toBool (.call 86 [.agg [VS (((r1.comp 0).cs.getD 0 .any).ah),((r1.comp 0).cs.getD 1 .any)]] [] fun r3 o3=>NI r3<|.done 0 [.cm [.agg [VS (((r1.comp 0).cs.getD 0 .any).ah),((r1.comp 0).cs.getD 1 .any)],VB (decide (r3.toInt<=(200:Int)))]] []) (.done 0 [.cm [.agg [VS (((r1.comp 0).cs.getD 0 .any).ah),((r1.comp 0).cs.getD 1 .any)],VB false]] [])) (.done 0 [.cm [.agg [VS (((r1.comp 0).cs.getD 0 .any).ah),((r1.comp 0).cs.getD 1 .any)],VB false]] [])
theorem Fm(a0:ByteArray)(h:dv 22 (EG a0) R):au Tryz.prog 37 [VS a0] [] R :=
 uQ (aj (aD _) aH) (oQ [] Tryz.f37 h)
def Bz(a0:ByteArray)(a1:Int):Tree :=
 .call 36 [VS a0] [] fun r1 o1=>NT r1<|.an ((r1.comp 0)=.agg (r1.comp 0).cs/\(r1.comp 0).cs.length=2/\cd [.str,.sl] ((r1.comp 0).cs) 0)<|NB (r1.comp 1)<|.test (!((r1.comp 1).toBool)) (.done 0 [.cm [VI 0,VB false]] []) (.call 87 [VI a1,VI 0,VI 100] [] fun r2 o2=>NB r2<|.test (!r2.toBool) (.done 0 [.cm [VI 0,VB false]] []) (.call 88 [.agg [VS (((r1.comp 0).cs.getD 0 .any).ah),((r1.comp 0).cs.getD 1 .any)],VI a1] [] fun r3 o3=>NT r3<|NI (r3.comp 0)<|NB (r3.comp 1)<|.test (!((r3.comp 1).toBool)) (.done 0 [.cm [VI 0,VB false]] []) (.done 0 [.cm [VI ((r3.comp 0).toInt),VB true]] [])))
theorem G6(a0:ByteArray)(a1:Int)(h:dv 31 (Bz a0 a1) R):au Tryz.prog 38 [VS a0,VI a1] [] R :=
 uQ (aj (aD _) (aj (aD _) aH)) (oQ [] Tryz.f38 h)
def B0(a0:ByteArray)(a1:ByteArray)(a2:Int):Tree :=
 .call 46 [VS a0] [] fun r1 o1=>NT r1<|.an ((r1.comp 0)=.agg (r1.comp 0).cs/\(r1.comp 0).cs.length=2/\cd [.str,.sl] ((r1.comp 0).cs) 0)<|NB (r1.comp 1)<|.call 37 [VS a1] [] fun r2 o2=>NT r2<|.an ((r2.comp 0)=.agg (r2.comp 0).cs/\(r2.comp 0).cs.length=2/\cd [.str,.sl] ((r2.comp 0).cs) 0)<|NB (r2.comp 1)<|.test ((r1.comp 1).toBool) (.test ((r2.comp 1).toBool) (.call 87 [VI a2,VI 0,VI 100] [] fun r3 o3=>NB r3<|.test r3.toBool (.call 89 [.agg [VS (((r1.comp 0).cs.getD 0 .any).ah),((r1.comp 0).cs.getD 1 .any)],.sl [],.agg [VS (((r2.comp 0).cs.getD 0 .any).ah),((r2.comp 0).cs.getD 1 .any)],VI a2] [] fun r4 o4=>NB r4<|.done 0 [VB r4.toBool] []) (.done 0 [VB false] [])) (.done 0 [VB false] [])) (.done 0 [VB false] [])
theorem Gj(a0:ByteArray)(a1:ByteArray)(a2:Int)(h:dv 36 (B0 a0 a1 a2) R):au Tryz.prog 39 [VS a0,VS a1,VI a2] [] R :=
 uQ (aj (aD _) (aj (aD _) (aj (aD _) aH))) (oQ [] Tryz.f39 h)
def vU(a0_0:ByteArray)(a0_1:AV)(a1:Int)(a2_0:ByteArray)(a2_1:AV):Tree :=
 .call 90 [.agg [VS a2_0,a2_1]] [] fun r1 o1=>NS r1<|.test (ac r1.ah==ac (mk [108])) (NG a0_1 1 2<|NE (a0_1.ix (1:Int))<|NG a2_1 1 2<|NE (a2_1.ix (1:Int))<|.call 40 [.agg [VS (((a0_1.ix (1:Int)).getD 0 .any).ah),((a0_1.ix (1:Int)).getD 1 .any)],VI a1,.agg [VS (((a2_1.ix (1:Int)).getD 0 .any).ah),((a2_1.ix (1:Int)).getD 1 .any)]] [] fun r2 o2=>NI r2<|.done 0 [VI r2.toInt] []) (.test (ac r1.ah==ac (mk [114])) (NG a0_1 1 2<|NE (a0_1.ix (1:Int))<|.call 88 [.agg [VS (((a0_1.ix (1:Int)).getD 0 .any).ah),((a0_1.ix (1:Int)).getD 1 .any)],VI a1] [] fun r3 o3=>NT r3<|NI (r3.comp 0)<|NB (r3.comp 1)<|NG a0_1 2 2<|NE (a0_1.ix (2:Int))<|NG a2_1 1 2<|NE (a2_1.ix (1:Int))<|.call 40 [.agg [VS (((a0_1.ix (2:Int)).getD 0 .any).ah),((a0_1.ix (2:Int)).getD 1 .any)],VI a1,.agg [VS (((a2_1.ix (1:Int)).getD 0 .any).ah),((a2_1.ix (1:Int)).getD 1 .any)]] [] fun r4 o4=>NI r4<|.done 0 [VI (IntKind.wrap .i64 (((r3.comp 0).toInt)+r4.toInt))] []) (.test (ac r1.ah==ac (mk [112])) (NG a0_1 2 2<|NE (a0_1.ix (2:Int))<|.call 88 [.agg [VS (((a0_1.ix (2:Int)).getD 0 .any).ah),((a0_1.ix (2:Int)).getD 1 .any)],VI a1] [] fun r5 o5=>NT r5<|NI (r5.comp 0)<|NB (r5.comp 1)<|NG a0_1 1 2<|NE (a0_1.ix (1:Int))<|NG a2_1 1 2<|NE (a2_1.ix (1:Int))<|.call 40 [.agg [VS (((a0_1.ix (1:Int)).getD 0 .any).ah),((a0_1.ix (1:Int)).getD 1 .any)],VI a1,.agg [VS (((a2_1.ix (1:Int)).getD 0 .any).ah),((a2_1.ix (1:Int)).getD 1 .any)]] [] fun r6 o6=>NI r6<|NG a0_1 2 2<|NE (a0_1.ix (2:Int))<|NG a2_1 2 2<|NE (a2_1.ix (2:Int))<|.call 40 [.agg [VS (((a0_1.ix (2:Int)).getD 0 .any).ah),((a0_1.ix (2:Int)).getD 1 .any)],VI a1,.agg [VS (((a2_1.ix (2:Int)).getD 0 .any).ah),((a2_1.ix (2:Int)).getD 1 .any)]] [] fun r7 o7=>NI r7<|.done 0 [VI (IntKind.wrap .i64 ((IntKind.wrap .i64 (r6.toInt*((r5.comp 0).toInt)))+r7.toInt))] []) (.call 56 [VS a2_0] [] fun r8 o8=>NI r8<|.done 0 [VI (if r8.toInt>0 then r8.toInt else 0)] [])))
theorem yh(a0_0:ByteArray)(a0_1:AV)(a1:Int)(a2_0:ByteArray)(a2_1:AV)(ha0_1:LK.has .sl a0_1)(ha2_1:LK.has .sl a2_1)(h:dv 86 (vU a0_0 a0_1 a1 a2_0 a2_1) R):au Tryz.prog 40 [.agg [VS a0_0,a0_1],VI a1,.agg [VS a2_0,a2_1]] [] R :=
 uQ (aj (cv (aj (aD _) (aj (bQ ha0_1) aH))) (aj (aD _) (aj (cv (aj (aD _) (aj (bQ ha2_1) aH))) aH))) (oQ [] Tryz.f40 h)
def DQ(a0:ByteArray):Tree :=
 .call 79 [VS a0] [] fun r1 o1=>NP r1<|NP r1<|.test r1.isNil (.done 0 [.v (.pointer none)] []) (.call 91 [r1,.fn 92 [.ref 0 0]] [.cells [VB true]] fun r2 o2=>.an ((o2.hO)=.cells (o2.hO).cs)<|.an (aO [.lk .bool] ((o2.hO).cs) 0 1 o2.tail)<|.test (!(((o2.hO).cs.getD 0 .any).toBool)) (.done 0 [.v (.pointer none)] []) (.done 0 [r1] []))
theorem GL(a0:ByteArray)(h:dv 15 (DQ a0) R):au Tryz.prog 41 [VS a0] [] R :=
 uQ (aj (aD _) aH) (oQ [] Tryz.f41 h)
def tP(a0:AV)(a1:Int):Tree :=
 NZ a0<|NZ a0<|.an (LK.has (.int .u8) (a0.deref.hA)/\1<=a0.deref.length)<|.test (((a0.deref.hA).toInt)==(48:Int)) (.done 0 [.cm [VI 0,VB true]] []) (.test (((a0.deref.hA).toInt)==(49:Int)) (.done 0 [.cm [VI 1,VB true]] []) (.test (((a0.deref.hA).toInt)==(110:Int)) (.done 0 [.cm [VI a1,VB true]] []) (NZ a0<|NZ a0<|er (a0.deref.drop 3)<|.call 42 [((a0.deref.drop 3).hA),VI a1] [] fun r1 o1=>NT r1<|NI (r1.comp 0)<|NB (r1.comp 1)<|NZ a0<|NZ a0<|er (a0.deref.drop 4)<|.call 42 [((a0.deref.drop 4).hA),VI a1] [] fun r2 o2=>NT r2<|NI (r2.comp 0)<|NB (r2.comp 1)<|.test (!((r1.comp 1).toBool)) (.done 0 [.cm [VI 0,VB false]] []) (.test (!((r2.comp 1).toBool)) (.done 0 [.cm [VI 0,VB false]] []) (NZ a0<|NZ a0<|.an (LK.has (.int .u8) (a0.deref.hA)/\1<=a0.deref.length)<|.test (((a0.deref.hA).toInt)==(42:Int)) (.test (decide ((IntKind.wrap .i64 (((r1.comp 0).toInt)*((r2.comp 0).toInt)))>(1000000000:Int))) (.done 0 [.cm [VI 0,VB false]] []) (.done 0 [.cm [VI (IntKind.wrap .i64 (((r1.comp 0).toInt)*((r2.comp 0).toInt))),VB true]] [])) (.test (decide ((IntKind.wrap .i64 (((r1.comp 0).toInt)+((r2.comp 0).toInt)))>(1000000000:Int))) (.done 0 [.cm [VI 0,VB false]] []) (.done 0 [.cm [VI (IntKind.wrap .i64 (((r1.comp 0).toInt)+((r2.comp 0).toInt))),VB true]] [])))))))
theorem vo(a0:AV)(a1:Int)(ha0:LK.has .ptr a0)(h:dv 60 (tP a0 a1) R):au Tryz.prog 42 [a0,VI a1] [] R :=
 uQ (aj (cD ha0) (aj (aD _) aH)) (oQ [] Tryz.f42 h)
def ES(a0:AV):Tree :=
 .call 50 [a0] [] fun r1 o1=>NI r1<|.test (decide (r1.toInt>(200:Int))) (.done 0 [.cm [VS (mk []),VB false]] []) (.call 93 [a0] [] fun r2 o2=>NS r2<|.done 0 [.cm [VS r2.ah,VB true]] [])
theorem FG(a0:AV)(ha0:LK.has .ptr a0)(h:dv 9 (ES a0) R):au Tryz.prog 43 [a0] [] R :=
 uQ (aj (cD ha0) aH) (oQ [] Tryz.f43 h)
def wc(a0:AV)(a1:Int)(a2:Int):Tree :=
 NZ a0<|NZ a0<|.an (LK.has (.int .u8) (a0.deref.hA)/\1<=a0.deref.length)<|.test (((a0.deref.hA).toInt)==(110:Int)) (.call 94 [VI a2] [] fun r1 o1=>NS r1<|.an (ae (mk [101])+ae r1.ah<=9223372036854775807)<|.done 0 [.ptr [.v (.int .u8 101),VS (((mk [101]):ByteArray)++r1.ah),.v (.pointer none),.v (.pointer none)]] []) (.test (((a0.deref.hA).toInt)==(43:Int)) (NZ a0<|NZ a0<|er (a0.deref.drop 3)<|.call 42 [((a0.deref.drop 3).hA),VI a1] [] fun r2 o2=>NT r2<|NI (r2.comp 0)<|NB (r2.comp 1)<|.test (decide (a2<((r2.comp 0).toInt))) (NZ a0<|NZ a0<|er (a0.deref.drop 3)<|.call 44 [((a0.deref.drop 3).hA),VI a1,VI a2] [] fun r3 o3=>NP r3<|.call 95 [.v (.int .u8 108),r3] [] fun r4 o4=>NP r4<|.done 0 [r4] []) (NZ a0<|NZ a0<|er (a0.deref.drop 4)<|.call 44 [((a0.deref.drop 4).hA),VI a1,VI (IntKind.wrap .i64 (a2-((r2.comp 0).toInt)))] [] fun r5 o5=>NP r5<|.call 95 [.v (.int .u8 114),r5] [] fun r6 o6=>NP r6<|.done 0 [r6] [])) (.test (((a0.deref.hA).toInt)==(42:Int)) (NZ a0<|NZ a0<|er (a0.deref.drop 4)<|.call 42 [((a0.deref.drop 4).hA),VI a1] [] fun r7 o7=>NT r7<|NI (r7.comp 0)<|NB (r7.comp 1)<|NZ a0<|NZ a0<|er (a0.deref.drop 3)<|.an (¬((r7.comp 0).toInt)=0)<|.call 44 [((a0.deref.drop 3).hA),VI a1,VI (IntKind.wrap .i64 (Int.tdiv a2 ((r7.comp 0).toInt)))] [] fun r8 o8=>NP r8<|NZ a0<|NZ a0<|er (a0.deref.drop 4)<|.an (¬((r7.comp 0).toInt)=0)<|.call 44 [((a0.deref.drop 4).hA),VI a1,VI (cr a2 ((r7.comp 0).toInt))] [] fun r9 o9=>NP r9<|.call 96 [r8,r9] [] fun r10 o10=>NP r10<|.done 0 [r10] []) (.done 0 [.ptr [.v (.int .u8 117),VS (mk []),.v (.pointer none),.v (.pointer none)]] [])))
theorem xU(a0:AV)(a1:Int)(a2:Int)(ha0:LK.has .ptr a0)(h:dv 86 (wc a0 a1 a2) R):au Tryz.prog 44 [a0,VI a1,VI a2] [] R :=
 uQ (aj (cD ha0) (aj (aD _) (aj (aD _) aH))) (oQ [] Tryz.f44 h)
def y9:LI:={hd:={cb:=[(7,.k (.int .i64))],refs:=[(2,2),(4,4)],cw:=[(2,[.lk .str,.lk .sl]),(4,[.lk .str,.lk .sl])],gd:=[(6,1)]},xs:={refs:=[(2,2),(4,4)],cw:=[(2,[.lk .str,.lk .sl]),(4,[.lk .str,.lk .sl])]},rt:={cb:=[(3,.k .bool)],refs:=[(2,2)],cw:=[(2,[.lk .str,.lk .sl])]},ex:=0}
def Ck:Code:=dV (dU Tryz.f46) 6
def Cz:List (Nat×LI):=[(6,y9)]
def DM(a0:ByteArray):Tree :=
 .call 82 [VS a0] [] fun r1 o1=>NT r1<|.an ((r1.comp 0)=.agg (r1.comp 0).cs/\(r1.comp 0).cs.length=2/\cd [.str,.sl] ((r1.comp 0).cs) 0)<|NB (r1.comp 1)<|.test (!((r1.comp 1).toBool)) (.done 0 [.cm [.agg [VS (((r1.comp 0).cs.getD 0 .any).ah),((r1.comp 0).cs.getD 1 .any)],VB false]] []) (.call 98 [.agg [VS (((r1.comp 0).cs.getD 0 .any).ah),((r1.comp 0).cs.getD 1 .any)],.sl [],.vec 0] [.vec 1 []] fun r2 o2=>.an (r2=.vec 1/\(o2.tail.hO)=.vec 1 (o2.tail.hO).es)<|.loop Ck y9 [VI 0] [.cells [VS (mk []),.v (.slice none 0 0)],.cells [VS (((r1.comp 0).cs.getD 0 .any).ah),((r1.comp 0).cs.getD 1 .any)],.vec 1 ((o2.tail.hO).es)] (fun y4 q4=>.an ((q4.hO)=.cells (q4.hO).cs)<|.an (ag [.lk .str,.lk .sl] ((q4.hO).cs) 0 q4.tail)<|.an (((q4.tail.drop 0).hO)=.cells ((q4.tail.drop 0).hO).cs)<|.an (ag [.lk .str,.lk .sl] (((q4.tail.drop 0).hO).cs) 0 ((q4.tail.drop 0).tail))<|.done 0 [.cm [.agg [VS (((q4.tail.hO).cs.getD 0 .any).ah),((q4.tail.hO).cs.getD 1 .any)],VB true]] []) (fun y4 q4=>NB (y4.hA)<|.an ((q4.hO)=.cells (q4.hO).cs)<|.an (ag [.lk .str,.lk .sl] ((q4.hO).cs) 0 q4.tail)<|.done 0 [.cm [.agg [VS (((q4.hO).cs.getD 0 .any).ah),((q4.hO).cs.getD 1 .any)],VB ((y4.hA).toBool)]] []))
theorem Fc(a0:ByteArray)(h:dv 33 (DM a0) R):au Tryz.prog 46 [VS a0] [] R :=
 uQ (aj (aD _) aH) (oQ Cz Tryz.f46 h)
def zN(x7:Int)(o2_0:ByteArray)(o2_1:AV)(o4_0:ByteArray)(o4_1:AV)(e6:List (List AV)):Tree :=
 NI (VI x7)<|.an (Ob.cells [VS o2_0,o2_1]=.cells [VS o2_0,o2_1])<|.an (ag [.lk .str,.lk .sl] [VS o2_0,o2_1] 0 [.cells [VS o4_0,o4_1],.vec 1 e6])<|.an (Ob.cells [VS o4_0,o4_1]=.cells [VS o4_0,o4_1])<|.an (ag [.lk .str,.lk .sl] [VS o4_0,o4_1] 0 [.vec 1 e6])<|.an (Ob.vec 1 e6=.vec 1 e6)<|.test (decide (x7<(e6.length:Int))) (.an (0<=x7/\x7<e6.length)<|.an (x7.toNat<e6.length/\0<(e6.getD x7.toNat []).length/\LK.has .str ((e6.getD x7.toNat []).getD 0 .any))<|.call 99 [VS (((e6.getD x7.toNat []).getD 0 .any).ah)] [] fun r1 o1=>NB r1<|.test r1.toBool (.done 2 [VB false] [.cells [VS o4_0,o4_1]]) (.done 0 [VI (IntKind.wrap .i64 (x7+1))] [.cells [VS o2_0,o2_1],.cells [VS o4_0,o4_1],.vec 1 e6])) (.done 1 [] [.cells [VS o2_0,o2_1],.cells [VS o4_0,o4_1]])
abbrev A5:=cS Tryz.prog 33 Ck y9
theorem EM(x7:Int)(o2_0:ByteArray)(o2_1:AV)(o4_0:ByteArray)(o4_1:AV)(e6:List (List AV))(h:pk 33 (zN x7 o2_0 o2_1 o4_0 o4_1 e6) A5 U):A5 [VI x7] [.cells [VS o2_0,o2_1],.cells [VS o4_0,o4_1],.vec 1 e6] U :=
 gQ Cz h
def Em(a0:ByteArray):Tree :=
 .call 103 [VS a0] [] fun r1 o1=>NP r1<|NP r1<|.test r1.isNil (.done 0 [.v (.pointer none)] []) (.call 104 [r1] [] fun r2 o2=>NP r2<|NP r2<|.test r2.isNil (.done 0 [.v (.pointer none)] []) (.call 50 [r2] [] fun r3 o3=>NI r3<|.test (decide (r3.toInt>(200:Int))) (.done 0 [.v (.pointer none)] []) (.done 0 [r2] [])))
theorem G5(a0:ByteArray)(h:dv 19 (Em a0) R):au Tryz.prog 48 [VS a0] [] R :=
 uQ (aj (aD _) aH) (oQ [] Tryz.f48 h)
def zA(a0:AV):Tree :=
 NZ a0<|NZ a0<|er (a0.deref.drop 2)<|NP ((a0.deref.drop 2).hA)<|.test (!((a0.deref.drop 2).hA).isNil) (NZ a0<|NZ a0<|er (a0.deref.drop 2)<|.call 50 [((a0.deref.drop 2).hA)] [] fun r1 o1=>NI r1<|NZ a0<|NZ a0<|er (a0.deref.drop 3)<|NP ((a0.deref.drop 3).hA)<|.test (!((a0.deref.drop 3).hA).isNil) (NZ a0<|NZ a0<|er (a0.deref.drop 3)<|.call 50 [((a0.deref.drop 3).hA)] [] fun r2 o2=>NI r2<|.done 0 [VI (IntKind.wrap .i64 ((IntKind.wrap .i64 (1+r1.toInt))+r2.toInt))] []) (.done 0 [VI (IntKind.wrap .i64 (1+r1.toInt))] [])) (NZ a0<|NZ a0<|er (a0.deref.drop 3)<|NP ((a0.deref.drop 3).hA)<|.test (!((a0.deref.drop 3).hA).isNil) (NZ a0<|NZ a0<|er (a0.deref.drop 3)<|.call 50 [((a0.deref.drop 3).hA)] [] fun r3 o3=>NI r3<|.done 0 [VI (IntKind.wrap .i64 (1+r3.toInt))] []) (.done 0 [VI 1] []))
theorem Bt(a0:AV)(ha0:LK.has .ptr a0)(h:dv 29 (zA a0) R):au Tryz.prog 50 [a0] [] R :=
 uQ (aj (cD ha0) aH) (oQ [] Tryz.f50 h)
def DU(a0:Int):Tree :=
 .test (decide (a0<((-9223372036854775807):Int))) (.done 0 [VS (mk [45,57,50,50,51,51,55,50,48,51,54,56,53,52,55,55,53,56,48,56])] []) (.test (decide (a0<(0:Int))) (.call 54 [VI (IntKind.wrap .i64 (0-a0))] [] fun r1 o1=>NS r1<|.an (ae (mk [45])+ae r1.ah<=9223372036854775807)<|.done 0 [VS (((mk [45]):ByteArray)++r1.ah)] []) (.test (decide (a0<(10:Int))) (.an (jT [[.v (.int .u8 (IntKind.wrap .u8 (IntKind.wrap .i64 (48+a0))))]])<|.done 0 [VS (⟨(bytesOf [[.v (.int .u8 (IntKind.wrap .u8 (IntKind.wrap .i64 (48+a0))))]]).toArray⟩)] []) (.an (¬(10:Int)=0)<|.call 54 [VI (IntKind.wrap .i64 (Int.tdiv a0 10))] [] fun r2 o2=>NS r2<|.an (¬(10:Int)=0)<|.an (jT [[.v (.int .u8 (IntKind.wrap .u8 (IntKind.wrap .i64 (48+(cr a0 10)))))]])<|.an (ae r2.ah+ae (⟨(bytesOf [[.v (.int .u8 (IntKind.wrap .u8 (IntKind.wrap .i64 (48+(cr a0 10)))))]]).toArray⟩)<=9223372036854775807)<|.done 0 [VS ((r2.ah:ByteArray)++(⟨(bytesOf [[.v (.int .u8 (IntKind.wrap .u8 (IntKind.wrap .i64 (48+(cr a0 10)))))]]).toArray⟩))] [])))
theorem F0(a0:Int)(h:dv 28 (DU a0) R):au Tryz.prog 54 [VI a0] [] R :=
 uQ (aj (aD _) aH) (oQ [] Tryz.f54 h)
def Ch(a0_0:AV)(a0_1:Int)(a1:AV):Tree :=
 NL a1<|.call 32 [.ref 0 0,VI (a1.aX.length:Int)] [.cells [a0_0,VI a0_1]] fun r1 o1=>.an ((o1.hO)=.cells (o1.hO).cs)<|.an (aO [.lk .sl,.lk (.int .i64)] ((o1.hO).cs) 0 1 o1.tail)<|NI r1<|.an (LK.has .sl a1/\0<=r1.toInt/\r1.toInt<a1.aX.length/\(a1.aX.getD r1.toInt.toNat []).length=1)<|mG (a1.aX.getD r1.toInt.toNat [])<|.done 0 [VS (((a1.aX.getD r1.toInt.toNat []).hA).ah)] [.cells [((o1.hO).cs.getD 0 .any),VI (((o1.hO).cs.getD 1 .any).toInt)]]
theorem Fx(a0_0:AV)(a0_1:Int)(a1:AV)(ha1:LK.has .sl a1)(ha0_0:LK.has .sl a0_0)(h:dv 12 (Ch a0_0 a0_1 a1) R):au Tryz.prog 55 [.ref 0 0,a1] [.cells [a0_0,VI a0_1]] R :=
 au.rO (cG (dn (aj (bQ ha0_0) (aj (aD _) aH))) dr) (au.up (aj (aD _) (aj (bQ ha1) aH)) (oF [] {mu:=[(0,.one (.obj [.lk .sl,.lk (.int .i64)]))],own:=[]} Tryz.f55 h))
def uA:LI:={hd:={cb:=[(0,.k .str),(3,.k (.int .i64)),(4,.k (.int .i64))]},xs:={cb:=[(3,.k (.int .i64))]},rt:={cb:=[(2,.k (.int .i64))]},ex:=0}
def xZ:Code:=dV (dU Tryz.f56) 5
def Eb:List (Nat×LI):=[(5,uA)]
def Dh(a0:ByteArray):Tree :=
 .call 87 [VI (ae a0:Int),VI 2,VI 3] [] fun r1 o1=>NB r1<|.test (!r1.toBool) (.done 0 [VI (-1)] []) (.an (0<=(0:Int)/\(0:Int)<ae a0)<|.test ((bt a0 0) != (101:Int)) (.done 0 [VI (-1)] []) (.test ((ae a0:Int)==(3:Int)) (.an (0<=(1:Int)/\(1:Int)<ae a0)<|.test ((bt a0 1)==(48:Int)) (.done 0 [VI (-1)] []) (.loop xZ uA [VS a0,VI 0,VI 1] [] (fun y2 q2=>NI (y2.hA)<|.done 0 [VI ((y2.hA).toInt)] []) (fun y2 q2=>NI (y2.hA)<|.done 0 [VI ((y2.hA).toInt)] []))) (.loop xZ uA [VS a0,VI 0,VI 1] [] (fun y3 q3=>NI (y3.hA)<|.done 0 [VI ((y3.hA).toInt)] []) (fun y3 q3=>NI (y3.hA)<|.done 0 [VI ((y3.hA).toInt)] []))))
theorem Gb(a0:ByteArray)(h:dv 49 (Dh a0) R):au Tryz.prog 56 [VS a0] [] R :=
 uQ (aj (aD _) aH) (oQ Eb Tryz.f56 h)
def A8(x0:ByteArray)(x3:Int)(x4:Int):Tree :=
 NS (VS x0)<|NI (VI x3)<|NI (VI x4)<|.test (decide (x4<(ae x0:Int))) (.an (0<=x4/\x4<ae x0)<|.test (decide ((bt x0 x4)<(48:Int))) (.done 2 [VI (-1)] []) (.an (0<=x4/\x4<ae x0)<|.test (decide ((bt x0 x4)>(57:Int))) (.done 2 [VI (-1)] []) (.an (0<=x4/\x4<ae x0)<|.done 0 [VS x0,VI (IntKind.wrap .i64 ((IntKind.wrap .i64 (10*x3))+(IntKind.wrap .i64 (IntKind.wrap .u8 ((bt x0 x4)-48))))),VI (IntKind.wrap .i64 (x4+1))] []))) (.done 1 [VI x3] [])
abbrev y8:=cS Tryz.prog 49 xZ uA
theorem CD(x0:ByteArray)(x3:Int)(x4:Int)(h:pk 49 (A8 x0 x3 x4) y8 U):y8 [VS x0,VI x3,VI x4] [] U :=
 gQ Eb h
def AS:LI:={hd:={cb:=[(3,.k .str),(4,.k (.int .i64))],refs:=[(1,1)],cw:=[(1,[.lk .str,.lk .sl])]},xs:={cb:=[(3,.k .str)]},rt:={},ex:=0}
def Ee:Code:=dV (dU Tryz.f57) 5
def Ci:List (Nat×LI):=[(5,AS)]
def yk(a0_0:ByteArray)(a0_1:AV):Tree :=
 .test (!(ac a0_0==ac (mk []))) (.done 0 [VS a0_0] []) (.loop Ee AS [VS (mk [40]),VI 0] [.cells [VS a0_0,a0_1]] (fun y3 q3=>NS (y3.hA)<|.an (ae ((y3.hA).ah)+ae (mk [41])<=9223372036854775807)<|.done 0 [VS ((((y3.hA).ah):ByteArray)++(mk [41]))] []) (fun y3 q3=>.done 0 [.any] []))
theorem AP(a0_0:ByteArray)(a0_1:AV)(ha0_1:LK.has .sl a0_1)(h:dv 31 (yk a0_0 a0_1) R):au Tryz.prog 57 [.agg [VS a0_0,a0_1]] [] R :=
 uQ (aj (cv (aj (aD _) (aj (bQ ha0_1) aH))) aH) (oQ Ci Tryz.f57 h)
def wj(x3:ByteArray)(x4:Int)(o1_0:ByteArray)(o1_1:AV):Tree :=
 NS (VS x3)<|NI (VI x4)<|.an (Ob.cells [VS o1_0,o1_1]=.cells [VS o1_0,o1_1])<|.an (ag [.lk .str,.lk .sl] [VS o1_0,o1_1] 0 [])<|NL o1_1<|.test (decide (x4<(o1_1.aX.length:Int))) (.test (decide (x4>(0:Int))) (.an (ae x3+ae (mk [32])<=9223372036854775807)<|NG o1_1 x4 2<|NE (o1_1.ix x4)<|.call 57 [.agg [VS (((o1_1.ix x4).getD 0 .any).ah),((o1_1.ix x4).getD 1 .any)]] [] fun r1 o1=>NS r1<|.an (ae ((x3:ByteArray)++(mk [32]))+ae r1.ah<=9223372036854775807)<|.done 0 [VS ((((x3:ByteArray)++(mk [32])):ByteArray)++r1.ah),VI (IntKind.wrap .i64 (x4+1))] [.cells [VS o1_0,o1_1]]) (NG o1_1 x4 2<|NE (o1_1.ix x4)<|.call 57 [.agg [VS (((o1_1.ix x4).getD 0 .any).ah),((o1_1.ix x4).getD 1 .any)]] [] fun r2 o2=>NS r2<|.an (ae x3+ae r2.ah<=9223372036854775807)<|.done 0 [VS ((x3:ByteArray)++r2.ah),VI (IntKind.wrap .i64 (x4+1))] [.cells [VS o1_0,o1_1]])) (.done 1 [VS x3] [])
abbrev vX:=cS Tryz.prog 31 Ee AS
theorem xO(x3:ByteArray)(x4:Int)(o1_0:ByteArray)(o1_1:AV)(h:pk 31 (wj x3 x4 o1_0 o1_1) vX U):vX [VS x3,VI x4] [.cells [VS o1_0,o1_1]] U :=
 gQ Ci h
def EF(a0:ByteArray):Tree :=
 .call 111 [VS a0,VS (mk [120,121,122])] [] fun r1 o1=>NB r1<|.done 0 [VB r1.toBool] []
theorem FO(a0:ByteArray)(h:dv 5 (EF a0) R):au Tryz.prog 59 [VS a0] [] R :=
 uQ (aj (aD _) aH) (oQ [] Tryz.f59 h)
def DB(a0:ByteArray)(a1:AV):Tree :=
 .an (LK.has .sl a1/\di 2 a1.aX/\((([[VS a0,.v (.slice none 0 0)]]:List (List AV)).length)+a1.aX.length)*40<=140737488355328)<|.done 0 [.agg [VS (mk []),.sl (([[VS a0,.v (.slice none 0 0)]]:List (List AV))++a1.aX)]] []
theorem GZ(a0:ByteArray)(a1:AV)(ha1:LK.has .sl a1)(h:dv 11 (DB a0 a1) R):au Tryz.prog 69 [VS a0,a1] [] R :=
 uQ (aj (aD _) (aj (bQ ha1) aH)) (oQ [] Tryz.f69 h)
def CX(a0_0:AV)(a0_1:Int):Tree :=
 .call 32 [.ref 0 0,VI 12] [.cells [a0_0,VI a0_1]] fun r1 o1=>.an ((o1.hO)=.cells (o1.hO).cs)<|.an (aO [.lk .sl,.lk (.int .i64)] ((o1.hO).cs) 0 1 o1.tail)<|NI r1<|.test (r1.toInt==(0:Int)) (.call 55 [.ref 0 0,.sl [[VS (mk [])],[VS (mk [97])],[VS (mk [40,43,32,49,41])],[VS (mk [40,114,101,99,32,120,32,49,41])],[VS (mk [40,114,101,99,32,116,41])],[VS (mk [40,43,32,32,49,32,49,41])],[VS (mk [40,42,32,49,32,49,32,49,41])],[VS (mk [116,49,48,48])],[VS (mk [120,32,49])]]] [.cells [((o1.hO).cs.getD 0 .any),VI (((o1.hO).cs.getD 1 .any).toInt)]] fun r2 o2=>.an ((o2.hO)=.cells (o2.hO).cs)<|.an (aO [.lk .sl,.lk (.int .i64)] ((o2.hO).cs) 0 1 o2.tail)<|NS r2<|.done 0 [VS r2.ah] [.cells [((o2.hO).cs.getD 0 .any),VI (((o2.hO).cs.getD 1 .any).toInt)]]) (.test (r1.toInt==(1:Int)) (.call 119 [.ref 0 0] [.cells [((o1.hO).cs.getD 0 .any),VI (((o1.hO).cs.getD 1 .any).toInt)]] fun r3 o3=>.an ((o3.hO)=.cells (o3.hO).cs)<|.an (aO [.lk .sl,.lk (.int .i64)] ((o3.hO).cs) 0 1 o3.tail)<|NS r3<|.done 0 [VS r3.ah] [.cells [((o3.hO).cs.getD 0 .any),VI (((o3.hO).cs.getD 1 .any).toInt)]]) (.test (r1.toInt==(2:Int)) (.call 119 [.ref 0 0] [.cells [((o1.hO).cs.getD 0 .any),VI (((o1.hO).cs.getD 1 .any).toInt)]] fun r4 o4=>.an ((o4.hO)=.cells (o4.hO).cs)<|.an (aO [.lk .sl,.lk (.int .i64)] ((o4.hO).cs) 0 1 o4.tail)<|NS r4<|.done 0 [VS r4.ah] [.cells [((o4.hO).cs.getD 0 .any),VI (((o4.hO).cs.getD 1 .any).toInt)]]) (.test (r1.toInt==(3:Int)) (.call 119 [.ref 0 0] [.cells [((o1.hO).cs.getD 0 .any),VI (((o1.hO).cs.getD 1 .any).toInt)]] fun r5 o5=>.an ((o5.hO)=.cells (o5.hO).cs)<|.an (aO [.lk .sl,.lk (.int .i64)] ((o5.hO).cs) 0 1 o5.tail)<|NS r5<|.done 0 [VS r5.ah] [.cells [((o5.hO).cs.getD 0 .any),VI (((o5.hO).cs.getD 1 .any).toInt)]]) (.test (r1.toInt==(4:Int)) (.call 127 [.ref 0 0,.sl [[VS (mk [116])],[VS (mk [116,49])]],VI 2] [.cells [((o1.hO).cs.getD 0 .any),VI (((o1.hO).cs.getD 1 .any).toInt)]] fun r6 o6=>.an ((o6.hO)=.cells (o6.hO).cs)<|.an (aO [.lk .sl,.lk (.int .i64)] ((o6.hO).cs) 0 1 o6.tail)<|NS r6<|.done 0 [VS r6.ah] [.cells [((o6.hO).cs.getD 0 .any),VI (((o6.hO).cs.getD 1 .any).toInt)]]) (.call 127 [.ref 0 0,.sl [],VI 3] [.cells [((o1.hO).cs.getD 0 .any),VI (((o1.hO).cs.getD 1 .any).toInt)]] fun r7 o7=>.an ((o7.hO)=.cells (o7.hO).cs)<|.an (aO [.lk .sl,.lk (.int .i64)] ((o7.hO).cs) 0 1 o7.tail)<|NS r7<|.done 0 [VS r7.ah] [.cells [((o7.hO).cs.getD 0 .any),VI (((o7.hO).cs.getD 1 .any).toInt)]])))))
theorem G3(a0_0:AV)(a0_1:Int)(ha0_0:LK.has .sl a0_0)(h:dv 24 (CX a0_0 a0_1) R):au Tryz.prog 76 [.ref 0 0] [.cells [a0_0,VI a0_1]] R :=
 au.rO (cG (dn (aj (bQ ha0_0) (aj (aD _) aH))) dr) (au.up (aj (aD _) aH) (oF [] {mu:=[(0,.one (.obj [.lk .sl,.lk (.int .i64)]))],own:=[]} Tryz.f76 h))
def wM(a0_0:AV)(a0_1:Int)(a1_0:ByteArray)(a1_1:AV)(a2:Int):Tree :=
 .call 90 [.agg [VS a1_0,a1_1]] [] fun r1 o1=>NS r1<|.test (ac r1.ah==ac (mk [43])) (.call 32 [.ref 0 0,VI 2] [.cells [a0_0,VI a0_1]] fun r2 o2=>.an ((o2.hO)=.cells (o2.hO).cs)<|.an (aO [.lk .sl,.lk (.int .i64)] ((o2.hO).cs) 0 1 o2.tail)<|NI r2<|NG a1_1 1 2<|NE (a1_1.ix (1:Int))<|.call 128 [.agg [VS (((a1_1.ix (1:Int)).getD 0 .any).ah),((a1_1.ix (1:Int)).getD 1 .any)],.sl []] [] fun r3 o3=>NB r3<|.test r3.toBool (.test ((1:Int)==(0:Int)) (NG a1_1 1 2<|NE (a1_1.ix (1:Int))<|.call 77 [.ref 0 0,.agg [VS (((a1_1.ix (1:Int)).getD 0 .any).ah),((a1_1.ix (1:Int)).getD 1 .any)],VI (IntKind.wrap .i64 (a2-1))] [.cells [((o2.hO).cs.getD 0 .any),VI (((o2.hO).cs.getD 1 .any).toInt)]] fun r4 o4=>.an ((o4.hO)=.cells (o4.hO).cs)<|.an (aO [.lk .sl,.lk (.int .i64)] ((o4.hO).cs) 0 1 o4.tail)<|NA r4<|.call 69 [VS (mk [108]),.sl [[VS ((r4.cs.getD 0 .any).ah),(r4.cs.getD 1 .any)]]] [] fun r5 o5=>NA r5<|.done 0 [.agg [VS ((r5.cs.getD 0 .any).ah),(r5.cs.getD 1 .any)]] [.cells [((o4.hO).cs.getD 0 .any),VI (((o4.hO).cs.getD 1 .any).toInt)]]) (NG a1_1 2 2<|NE (a1_1.ix (2:Int))<|.call 77 [.ref 0 0,.agg [VS (((a1_1.ix (2:Int)).getD 0 .any).ah),((a1_1.ix (2:Int)).getD 1 .any)],VI (IntKind.wrap .i64 (a2-1))] [.cells [((o2.hO).cs.getD 0 .any),VI (((o2.hO).cs.getD 1 .any).toInt)]] fun r6 o6=>.an ((o6.hO)=.cells (o6.hO).cs)<|.an (aO [.lk .sl,.lk (.int .i64)] ((o6.hO).cs) 0 1 o6.tail)<|NA r6<|.call 69 [VS (mk [114]),.sl [[VS ((r6.cs.getD 0 .any).ah),(r6.cs.getD 1 .any)]]] [] fun r7 o7=>NA r7<|.done 0 [.agg [VS ((r7.cs.getD 0 .any).ah),(r7.cs.getD 1 .any)]] [.cells [((o6.hO).cs.getD 0 .any),VI (((o6.hO).cs.getD 1 .any).toInt)]])) (.test (decide (a2<=(0:Int))) (NG a1_1 1 2<|NE (a1_1.ix (1:Int))<|.call 129 [.agg [VS (((a1_1.ix (1:Int)).getD 0 .any).ah),((a1_1.ix (1:Int)).getD 1 .any)]] [] fun r8 o8=>NI r8<|NG a1_1 2 2<|NE (a1_1.ix (2:Int))<|.call 129 [.agg [VS (((a1_1.ix (2:Int)).getD 0 .any).ah),((a1_1.ix (2:Int)).getD 1 .any)]] [] fun r9 o9=>NI r9<|.test (decide (r8.toInt>r9.toInt)) (NG a1_1 2 2<|NE (a1_1.ix (2:Int))<|.call 128 [.agg [VS (((a1_1.ix (2:Int)).getD 0 .any).ah),((a1_1.ix (2:Int)).getD 1 .any)],.sl []] [] fun r10 o10=>NB r10<|.test (!r10.toBool) (.test ((1:Int)==(0:Int)) (NG a1_1 1 2<|NE (a1_1.ix (1:Int))<|.call 77 [.ref 0 0,.agg [VS (((a1_1.ix (1:Int)).getD 0 .any).ah),((a1_1.ix (1:Int)).getD 1 .any)],VI (IntKind.wrap .i64 (a2-1))] [.cells [((o2.hO).cs.getD 0 .any),VI (((o2.hO).cs.getD 1 .any).toInt)]] fun r11 o11=>.an ((o11.hO)=.cells (o11.hO).cs)<|.an (aO [.lk .sl,.lk (.int .i64)] ((o11.hO).cs) 0 1 o11.tail)<|NA r11<|.call 69 [VS (mk [108]),.sl [[VS ((r11.cs.getD 0 .any).ah),(r11.cs.getD 1 .any)]]] [] fun r12 o12=>NA r12<|.done 0 [.agg [VS ((r12.cs.getD 0 .any).ah),(r12.cs.getD 1 .any)]] [.cells [((o11.hO).cs.getD 0 .any),VI (((o11.hO).cs.getD 1 .any).toInt)]]) (NG a1_1 2 2<|NE (a1_1.ix (2:Int))<|.call 77 [.ref 0 0,.agg [VS (((a1_1.ix (2:Int)).getD 0 .any).ah),((a1_1.ix (2:Int)).getD 1 .any)],VI (IntKind.wrap .i64 (a2-1))] [.cells [((o2.hO).cs.getD 0 .any),VI (((o2.hO).cs.getD 1 .any).toInt)]] fun r13 o13=>.an ((o13.hO)=.cells (o13.hO).cs)<|.an (aO [.lk .sl,.lk (.int .i64)] ((o13.hO).cs) 0 1 o13.tail)<|NA r13<|.call 69 [VS (mk [114]),.sl [[VS ((r13.cs.getD 0 .any).ah),(r13.cs.getD 1 .any)]]] [] fun r14 o14=>NA r14<|.done 0 [.agg [VS ((r14.cs.getD 0 .any).ah),(r14.cs.getD 1 .any)]] [.cells [((o13.hO).cs.getD 0 .any),VI (((o13.hO).cs.getD 1 .any).toInt)]])) (NG a1_1 2 2<|NE (a1_1.ix (2:Int))<|.call 128 [.agg [VS (((a1_1.ix (2:Int)).getD 0 .any).ah),((a1_1.ix (2:Int)).getD 1 .any)],.sl []] [] fun r15 o15=>NB r15<|.test r15.toBool (.test ((0:Int)==(0:Int)) (NG a1_1 1 2<|NE (a1_1.ix (1:Int))<|.call 77 [.ref 0 0,.agg [VS (((a1_1.ix (1:Int)).getD 0 .any).ah),((a1_1.ix (1:Int)).getD 1 .any)],VI (IntKind.wrap .i64 (a2-1))] [.cells [((o2.hO).cs.getD 0 .any),VI (((o2.hO).cs.getD 1 .any).toInt)]] fun r16 o16=>.an ((o16.hO)=.cells (o16.hO).cs)<|.an (aO [.lk .sl,.lk (.int .i64)] ((o16.hO).cs) 0 1 o16.tail)<|NA r16<|.call 69 [VS (mk [108]),.sl [[VS ((r16.cs.getD 0 .any).ah),(r16.cs.getD 1 .any)]]] [] fun r17 o17=>NA r17<|.done 0 [.agg [VS ((r17.cs.getD 0 .any).ah),(r17.cs.getD 1 .any)]] [.cells [((o16.hO).cs.getD 0 .any),VI (((o16.hO).cs.getD 1 .any).toInt)]]) (NG a1_1 2 2<|NE (a1_1.ix (2:Int))<|.call 77 [.ref 0 0,.agg [VS (((a1_1.ix (2:Int)).getD 0 .any).ah),((a1_1.ix (2:Int)).getD 1 .any)],VI (IntKind.wrap .i64 (a2-1))] [.cells [((o2.hO).cs.getD 0 .any),VI (((o2.hO).cs.getD 1 .any).toInt)]] fun r18 o18=>.an ((o18.hO)=.cells (o18.hO).cs)<|.an (aO [.lk .sl,.lk (.int .i64)] ((o18.hO).cs) 0 1 o18.tail)<|NA r18<|.call 69 [VS (mk [114]),.sl [[VS ((r18.cs.getD 0 .any).ah),(r18.cs.getD 1 .any)]]] [] fun r19 o19=>NA r19<|.done 0 [.agg [VS ((r19.cs.getD 0 .any).ah),(r19.cs.getD 1 .any)]] [.cells [((o18.hO).cs.getD 0 .any),VI (((o18.hO).cs.getD 1 .any).toInt)]])) (.test (decide (a2<=(0:Int))) (.test ((0:Int)==(0:Int)) (NG a1_1 1 2<|NE (a1_1.ix (1:Int))<|.call 77 [.ref 0 0,.agg [VS (((a1_1.ix (1:Int)).getD 0 .any).ah),((a1_1.ix (1:Int)).getD 1 .any)],VI (IntKind.wrap .i64 (a2-1))] [.cells [((o2.hO).cs.getD 0 .any),VI (((o2.hO).cs.getD 1 .any).toInt)]] fun r20 o20=>.an ((o20.hO)=.cells (o20.hO).cs)<|.an (aO [.lk .sl,.lk (.int .i64)] ((o20.hO).cs) 0 1 o20.tail)<|NA r20<|.call 69 [VS (mk [108]),.sl [[VS ((r20.cs.getD 0 .any).ah),(r20.cs.getD 1 .any)]]] [] fun r21 o21=>NA r21<|.done 0 [.agg [VS ((r21.cs.getD 0 .any).ah),(r21.cs.getD 1 .any)]] [.cells [((o20.hO).cs.getD 0 .any),VI (((o20.hO).cs.getD 1 .any).toInt)]]) (NG a1_1 2 2<|NE (a1_1.ix (2:Int))<|.call 77 [.ref 0 0,.agg [VS (((a1_1.ix (2:Int)).getD 0 .any).ah),((a1_1.ix (2:Int)).getD 1 .any)],VI (IntKind.wrap .i64 (a2-1))] [.cells [((o2.hO).cs.getD 0 .any),VI (((o2.hO).cs.getD 1 .any).toInt)]] fun r22 o22=>.an ((o22.hO)=.cells (o22.hO).cs)<|.an (aO [.lk .sl,.lk (.int .i64)] ((o22.hO).cs) 0 1 o22.tail)<|NA r22<|.call 69 [VS (mk [114]),.sl [[VS ((r22.cs.getD 0 .any).ah),(r22.cs.getD 1 .any)]]] [] fun r23 o23=>NA r23<|.done 0 [.agg [VS ((r23.cs.getD 0 .any).ah),(r23.cs.getD 1 .any)]] [.cells [((o22.hO).cs.getD 0 .any),VI (((o22.hO).cs.getD 1 .any).toInt)]])) (.test (r2.toInt==(0:Int)) (NG a1_1 1 2<|NE (a1_1.ix (1:Int))<|.call 77 [.ref 0 0,.agg [VS (((a1_1.ix (1:Int)).getD 0 .any).ah),((a1_1.ix (1:Int)).getD 1 .any)],VI (IntKind.wrap .i64 (a2-1))] [.cells [((o2.hO).cs.getD 0 .any),VI (((o2.hO).cs.getD 1 .any).toInt)]] fun r24 o24=>.an ((o24.hO)=.cells (o24.hO).cs)<|.an (aO [.lk .sl,.lk (.int .i64)] ((o24.hO).cs) 0 1 o24.tail)<|NA r24<|.call 69 [VS (mk [108]),.sl [[VS ((r24.cs.getD 0 .any).ah),(r24.cs.getD 1 .any)]]] [] fun r25 o25=>NA r25<|.done 0 [.agg [VS ((r25.cs.getD 0 .any).ah),(r25.cs.getD 1 .any)]] [.cells [((o24.hO).cs.getD 0 .any),VI (((o24.hO).cs.getD 1 .any).toInt)]]) (NG a1_1 2 2<|NE (a1_1.ix (2:Int))<|.call 77 [.ref 0 0,.agg [VS (((a1_1.ix (2:Int)).getD 0 .any).ah),((a1_1.ix (2:Int)).getD 1 .any)],VI (IntKind.wrap .i64 (a2-1))] [.cells [((o2.hO).cs.getD 0 .any),VI (((o2.hO).cs.getD 1 .any).toInt)]] fun r26 o26=>.an ((o26.hO)=.cells (o26.hO).cs)<|.an (aO [.lk .sl,.lk (.int .i64)] ((o26.hO).cs) 0 1 o26.tail)<|NA r26<|.call 69 [VS (mk [114]),.sl [[VS ((r26.cs.getD 0 .any).ah),(r26.cs.getD 1 .any)]]] [] fun r27 o27=>NA r27<|.done 0 [.agg [VS ((r27.cs.getD 0 .any).ah),(r27.cs.getD 1 .any)]] [.cells [((o26.hO).cs.getD 0 .any),VI (((o26.hO).cs.getD 1 .any).toInt)]]))))) (NG a1_1 2 2<|NE (a1_1.ix (2:Int))<|.call 128 [.agg [VS (((a1_1.ix (2:Int)).getD 0 .any).ah),((a1_1.ix (2:Int)).getD 1 .any)],.sl []] [] fun r28 o28=>NB r28<|.test r28.toBool (.test ((0:Int)==(0:Int)) (NG a1_1 1 2<|NE (a1_1.ix (1:Int))<|.call 77 [.ref 0 0,.agg [VS (((a1_1.ix (1:Int)).getD 0 .any).ah),((a1_1.ix (1:Int)).getD 1 .any)],VI (IntKind.wrap .i64 (a2-1))] [.cells [((o2.hO).cs.getD 0 .any),VI (((o2.hO).cs.getD 1 .any).toInt)]] fun r29 o29=>.an ((o29.hO)=.cells (o29.hO).cs)<|.an (aO [.lk .sl,.lk (.int .i64)] ((o29.hO).cs) 0 1 o29.tail)<|NA r29<|.call 69 [VS (mk [108]),.sl [[VS ((r29.cs.getD 0 .any).ah),(r29.cs.getD 1 .any)]]] [] fun r30 o30=>NA r30<|.done 0 [.agg [VS ((r30.cs.getD 0 .any).ah),(r30.cs.getD 1 .any)]] [.cells [((o29.hO).cs.getD 0 .any),VI (((o29.hO).cs.getD 1 .any).toInt)]]) (NG a1_1 2 2<|NE (a1_1.ix (2:Int))<|.call 77 [.ref 0 0,.agg [VS (((a1_1.ix (2:Int)).getD 0 .any).ah),((a1_1.ix (2:Int)).getD 1 .any)],VI (IntKind.wrap .i64 (a2-1))] [.cells [((o2.hO).cs.getD 0 .any),VI (((o2.hO).cs.getD 1 .any).toInt)]] fun r31 o31=>.an ((o31.hO)=.cells (o31.hO).cs)<|.an (aO [.lk .sl,.lk (.int .i64)] ((o31.hO).cs) 0 1 o31.tail)<|NA r31<|.call 69 [VS (mk [114]),.sl [[VS ((r31.cs.getD 0 .any).ah),(r31.cs.getD 1 .any)]]] [] fun r32 o32=>NA r32<|.done 0 [.agg [VS ((r32.cs.getD 0 .any).ah),(r32.cs.getD 1 .any)]] [.cells [((o31.hO).cs.getD 0 .any),VI (((o31.hO).cs.getD 1 .any).toInt)]])) (.test (decide (a2<=(0:Int))) (.test ((0:Int)==(0:Int)) (NG a1_1 1 2<|NE (a1_1.ix (1:Int))<|.call 77 [.ref 0 0,.agg [VS (((a1_1.ix (1:Int)).getD 0 .any).ah),((a1_1.ix (1:Int)).getD 1 .any)],VI (IntKind.wrap .i64 (a2-1))] [.cells [((o2.hO).cs.getD 0 .any),VI (((o2.hO).cs.getD 1 .any).toInt)]] fun r33 o33=>.an ((o33.hO)=.cells (o33.hO).cs)<|.an (aO [.lk .sl,.lk (.int .i64)] ((o33.hO).cs) 0 1 o33.tail)<|NA r33<|.call 69 [VS (mk [108]),.sl [[VS ((r33.cs.getD 0 .any).ah),(r33.cs.getD 1 .any)]]] [] fun r34 o34=>NA r34<|.done 0 [.agg [VS ((r34.cs.getD 0 .any).ah),(r34.cs.getD 1 .any)]] [.cells [((o33.hO).cs.getD 0 .any),VI (((o33.hO).cs.getD 1 .any).toInt)]]) (NG a1_1 2 2<|NE (a1_1.ix (2:Int))<|.call 77 [.ref 0 0,.agg [VS (((a1_1.ix (2:Int)).getD 0 .any).ah),((a1_1.ix (2:Int)).getD 1 .any)],VI (IntKind.wrap .i64 (a2-1))] [.cells [((o2.hO).cs.getD 0 .any),VI (((o2.hO).cs.getD 1 .any).toInt)]] fun r35 o35=>.an ((o35.hO)=.cells (o35.hO).cs)<|.an (aO [.lk .sl,.lk (.int .i64)] ((o35.hO).cs) 0 1 o35.tail)<|NA r35<|.call 69 [VS (mk [114]),.sl [[VS ((r35.cs.getD 0 .any).ah),(r35.cs.getD 1 .any)]]] [] fun r36 o36=>NA r36<|.done 0 [.agg [VS ((r36.cs.getD 0 .any).ah),(r36.cs.getD 1 .any)]] [.cells [((o35.hO).cs.getD 0 .any),VI (((o35.hO).cs.getD 1 .any).toInt)]])) (.test (r2.toInt==(0:Int)) (NG a1_1 1 2<|NE (a1_1.ix (1:Int))<|.call 77 [.ref 0 0,.agg [VS (((a1_1.ix (1:Int)).getD 0 .any).ah),((a1_1.ix (1:Int)).getD 1 .any)],VI (IntKind.wrap .i64 (a2-1))] [.cells [((o2.hO).cs.getD 0 .any),VI (((o2.hO).cs.getD 1 .any).toInt)]] fun r37 o37=>.an ((o37.hO)=.cells (o37.hO).cs)<|.an (aO [.lk .sl,.lk (.int .i64)] ((o37.hO).cs) 0 1 o37.tail)<|NA r37<|.call 69 [VS (mk [108]),.sl [[VS ((r37.cs.getD 0 .any).ah),(r37.cs.getD 1 .any)]]] [] fun r38 o38=>NA r38<|.done 0 [.agg [VS ((r38.cs.getD 0 .any).ah),(r38.cs.getD 1 .any)]] [.cells [((o37.hO).cs.getD 0 .any),VI (((o37.hO).cs.getD 1 .any).toInt)]]) (NG a1_1 2 2<|NE (a1_1.ix (2:Int))<|.call 77 [.ref 0 0,.agg [VS (((a1_1.ix (2:Int)).getD 0 .any).ah),((a1_1.ix (2:Int)).getD 1 .any)],VI (IntKind.wrap .i64 (a2-1))] [.cells [((o2.hO).cs.getD 0 .any),VI (((o2.hO).cs.getD 1 .any).toInt)]] fun r39 o39=>.an ((o39.hO)=.cells (o39.hO).cs)<|.an (aO [.lk .sl,.lk (.int .i64)] ((o39.hO).cs) 0 1 o39.tail)<|NA r39<|.call 69 [VS (mk [114]),.sl [[VS ((r39.cs.getD 0 .any).ah),(r39.cs.getD 1 .any)]]] [] fun r40 o40=>NA r40<|.done 0 [.agg [VS ((r40.cs.getD 0 .any).ah),(r40.cs.getD 1 .any)]] [.cells [((o39.hO).cs.getD 0 .any),VI (((o39.hO).cs.getD 1 .any).toInt)]]))))) (NG a1_1 2 2<|NE (a1_1.ix (2:Int))<|.call 128 [.agg [VS (((a1_1.ix (2:Int)).getD 0 .any).ah),((a1_1.ix (2:Int)).getD 1 .any)],.sl []] [] fun r41 o41=>NB r41<|.test r41.toBool (.test ((0:Int)==(0:Int)) (NG a1_1 1 2<|NE (a1_1.ix (1:Int))<|.call 77 [.ref 0 0,.agg [VS (((a1_1.ix (1:Int)).getD 0 .any).ah),((a1_1.ix (1:Int)).getD 1 .any)],VI (IntKind.wrap .i64 (a2-1))] [.cells [((o2.hO).cs.getD 0 .any),VI (((o2.hO).cs.getD 1 .any).toInt)]] fun r42 o42=>.an ((o42.hO)=.cells (o42.hO).cs)<|.an (aO [.lk .sl,.lk (.int .i64)] ((o42.hO).cs) 0 1 o42.tail)<|NA r42<|.call 69 [VS (mk [108]),.sl [[VS ((r42.cs.getD 0 .any).ah),(r42.cs.getD 1 .any)]]] [] fun r43 o43=>NA r43<|.done 0 [.agg [VS ((r43.cs.getD 0 .any).ah),(r43.cs.getD 1 .any)]] [.cells [((o42.hO).cs.getD 0 .any),VI (((o42.hO).cs.getD 1 .any).toInt)]]) (NG a1_1 2 2<|NE (a1_1.ix (2:Int))<|.call 77 [.ref 0 0,.agg [VS (((a1_1.ix (2:Int)).getD 0 .any).ah),((a1_1.ix (2:Int)).getD 1 .any)],VI (IntKind.wrap .i64 (a2-1))] [.cells [((o2.hO).cs.getD 0 .any),VI (((o2.hO).cs.getD 1 .any).toInt)]] fun r44 o44=>.an ((o44.hO)=.cells (o44.hO).cs)<|.an (aO [.lk .sl,.lk (.int .i64)] ((o44.hO).cs) 0 1 o44.tail)<|NA r44<|.call 69 [VS (mk [114]),.sl [[VS ((r44.cs.getD 0 .any).ah),(r44.cs.getD 1 .any)]]] [] fun r45 o45=>NA r45<|.done 0 [.agg [VS ((r45.cs.getD 0 .any).ah),(r45.cs.getD 1 .any)]] [.cells [((o44.hO).cs.getD 0 .any),VI (((o44.hO).cs.getD 1 .any).toInt)]])) (.test (decide (a2<=(0:Int))) (.test ((0:Int)==(0:Int)) (NG a1_1 1 2<|NE (a1_1.ix (1:Int))<|.call 77 [.ref 0 0,.agg [VS (((a1_1.ix (1:Int)).getD 0 .any).ah),((a1_1.ix (1:Int)).getD 1 .any)],VI (IntKind.wrap .i64 (a2-1))] [.cells [((o2.hO).cs.getD 0 .any),VI (((o2.hO).cs.getD 1 .any).toInt)]] fun r46 o46=>.an ((o46.hO)=.cells (o46.hO).cs)<|.an (aO [.lk .sl,.lk (.int .i64)] ((o46.hO).cs) 0 1 o46.tail)<|NA r46<|.call 69 [VS (mk [108]),.sl [[VS ((r46.cs.getD 0 .any).ah),(r46.cs.getD 1 .any)]]] [] fun r47 o47=>NA r47<|.done 0 [.agg [VS ((r47.cs.getD 0 .any).ah),(r47.cs.getD 1 .any)]] [.cells [((o46.hO).cs.getD 0 .any),VI (((o46.hO).cs.getD 1 .any).toInt)]]) (NG a1_1 2 2<|NE (a1_1.ix (2:Int))<|.call 77 [.ref 0 0,.agg [VS (((a1_1.ix (2:Int)).getD 0 .any).ah),((a1_1.ix (2:Int)).getD 1 .any)],VI (IntKind.wrap .i64 (a2-1))] [.cells [((o2.hO).cs.getD 0 .any),VI (((o2.hO).cs.getD 1 .any).toInt)]] fun r48 o48=>.an ((o48.hO)=.cells (o48.hO).cs)<|.an (aO [.lk .sl,.lk (.int .i64)] ((o48.hO).cs) 0 1 o48.tail)<|NA r48<|.call 69 [VS (mk [114]),.sl [[VS ((r48.cs.getD 0 .any).ah),(r48.cs.getD 1 .any)]]] [] fun r49 o49=>NA r49<|.done 0 [.agg [VS ((r49.cs.getD 0 .any).ah),(r49.cs.getD 1 .any)]] [.cells [((o48.hO).cs.getD 0 .any),VI (((o48.hO).cs.getD 1 .any).toInt)]])) (.test (r2.toInt==(0:Int)) (NG a1_1 1 2<|NE (a1_1.ix (1:Int))<|.call 77 [.ref 0 0,.agg [VS (((a1_1.ix (1:Int)).getD 0 .any).ah),((a1_1.ix (1:Int)).getD 1 .any)],VI (IntKind.wrap .i64 (a2-1))] [.cells [((o2.hO).cs.getD 0 .any),VI (((o2.hO).cs.getD 1 .any).toInt)]] fun r50 o50=>.an ((o50.hO)=.cells (o50.hO).cs)<|.an (aO [.lk .sl,.lk (.int .i64)] ((o50.hO).cs) 0 1 o50.tail)<|NA r50<|.call 69 [VS (mk [108]),.sl [[VS ((r50.cs.getD 0 .any).ah),(r50.cs.getD 1 .any)]]] [] fun r51 o51=>NA r51<|.done 0 [.agg [VS ((r51.cs.getD 0 .any).ah),(r51.cs.getD 1 .any)]] [.cells [((o50.hO).cs.getD 0 .any),VI (((o50.hO).cs.getD 1 .any).toInt)]]) (NG a1_1 2 2<|NE (a1_1.ix (2:Int))<|.call 77 [.ref 0 0,.agg [VS (((a1_1.ix (2:Int)).getD 0 .any).ah),((a1_1.ix (2:Int)).getD 1 .any)],VI (IntKind.wrap .i64 (a2-1))] [.cells [((o2.hO).cs.getD 0 .any),VI (((o2.hO).cs.getD 1 .any).toInt)]] fun r52 o52=>.an ((o52.hO)=.cells (o52.hO).cs)<|.an (aO [.lk .sl,.lk (.int .i64)] ((o52.hO).cs) 0 1 o52.tail)<|NA r52<|.call 69 [VS (mk [114]),.sl [[VS ((r52.cs.getD 0 .any).ah),(r52.cs.getD 1 .any)]]] [] fun r53 o53=>NA r53<|.done 0 [.agg [VS ((r53.cs.getD 0 .any).ah),(r53.cs.getD 1 .any)]] [.cells [((o52.hO).cs.getD 0 .any),VI (((o52.hO).cs.getD 1 .any).toInt)]])))))) (.test (ac r1.ah==ac (mk [42])) (NG a1_1 1 2<|NE (a1_1.ix (1:Int))<|.call 77 [.ref 0 0,.agg [VS (((a1_1.ix (1:Int)).getD 0 .any).ah),((a1_1.ix (1:Int)).getD 1 .any)],VI (IntKind.wrap .i64 (a2-1))] [.cells [a0_0,VI a0_1]] fun r54 o54=>.an ((o54.hO)=.cells (o54.hO).cs)<|.an (aO [.lk .sl,.lk (.int .i64)] ((o54.hO).cs) 0 1 o54.tail)<|NA r54<|NG a1_1 2 2<|NE (a1_1.ix (2:Int))<|.call 77 [.ref 0 0,.agg [VS (((a1_1.ix (2:Int)).getD 0 .any).ah),((a1_1.ix (2:Int)).getD 1 .any)],VI (IntKind.wrap .i64 (a2-1))] [.cells [((o54.hO).cs.getD 0 .any),VI (((o54.hO).cs.getD 1 .any).toInt)]] fun r55 o55=>.an ((o55.hO)=.cells (o55.hO).cs)<|.an (aO [.lk .sl,.lk (.int .i64)] ((o55.hO).cs) 0 1 o55.tail)<|NA r55<|.call 69 [VS (mk [112]),.sl [[VS ((r54.cs.getD 0 .any).ah),(r54.cs.getD 1 .any)],[VS ((r55.cs.getD 0 .any).ah),(r55.cs.getD 1 .any)]]] [] fun r56 o56=>NA r56<|.done 0 [.agg [VS ((r56.cs.getD 0 .any).ah),(r56.cs.getD 1 .any)]] [.cells [((o55.hO).cs.getD 0 .any),VI (((o55.hO).cs.getD 1 .any).toInt)]]) (.test (ac r1.ah==ac (mk [114,101,99])) (.call 130 [.agg [VS a1_0,a1_1]] [] fun r57 o57=>NT r57<|.an ((r57.comp 0)=.agg (r57.comp 0).cs/\(r57.comp 0).cs.length=2/\cd [.str,.sl] ((r57.comp 0).cs) 0)<|NB (r57.comp 1)<|.test (!((r57.comp 1).toBool)) (.done 0 [.agg [VS (mk [117]),.v (.slice none 0 0)]] [.cells [a0_0,VI a0_1]]) (.test (decide (a2<((-12):Int))) (.done 0 [.agg [VS (mk [117]),.v (.slice none 0 0)]] [.cells [a0_0,VI a0_1]]) (.call 77 [.ref 0 0,.agg [VS (((r57.comp 0).cs.getD 0 .any).ah),((r57.comp 0).cs.getD 1 .any)],VI (IntKind.wrap .i64 (a2-1))] [.cells [a0_0,VI a0_1]] fun r58 o58=>.an ((o58.hO)=.cells (o58.hO).cs)<|.an (aO [.lk .sl,.lk (.int .i64)] ((o58.hO).cs) 0 1 o58.tail)<|NA r58<|.call 69 [VS (mk [102]),.sl [[VS ((r58.cs.getD 0 .any).ah),(r58.cs.getD 1 .any)]]] [] fun r59 o59=>NA r59<|.done 0 [.agg [VS ((r59.cs.getD 0 .any).ah),(r59.cs.getD 1 .any)]] [.cells [((o58.hO).cs.getD 0 .any),VI (((o58.hO).cs.getD 1 .any).toInt)]]))) (.test (ac a1_0==ac (mk [49])) (.done 0 [.agg [VS (mk [117]),.v (.slice none 0 0)]] [.cells [a0_0,VI a0_1]]) (.call 32 [.ref 0 0,VI 3] [.cells [a0_0,VI a0_1]] fun r60 o60=>.an ((o60.hO)=.cells (o60.hO).cs)<|.an (aO [.lk .sl,.lk (.int .i64)] ((o60.hO).cs) 0 1 o60.tail)<|NI r60<|.call 54 [VI r60.toInt] [] fun r61 o61=>NS r61<|.an (ae (mk [101])+ae r61.ah<=9223372036854775807)<|.done 0 [.agg [VS (((mk [101]):ByteArray)++r61.ah),.v (.slice none 0 0)]] [.cells [((o60.hO).cs.getD 0 .any),VI (((o60.hO).cs.getD 1 .any).toInt)]]))))
theorem xL(a0_0:AV)(a0_1:Int)(a1_0:ByteArray)(a1_1:AV)(a2:Int)(ha1_1:LK.has .sl a1_1)(ha0_0:LK.has .sl a0_0)(h:dv 132 (wM a0_0 a0_1 a1_0 a1_1 a2) R):au Tryz.prog 77 [.ref 0 0,.agg [VS a1_0,a1_1],VI a2] [.cells [a0_0,VI a0_1]] R :=
 au.rO (cG (dn (aj (bQ ha0_0) (aj (aD _) aH))) dr) (au.up (aj (aD _) (aj (cv (aj (aD _) (aj (bQ ha1_1) aH))) (aj (aD _) aH))) (oF [] {mu:=[(0,.one (.obj [.lk .sl,.lk (.int .i64)]))],own:=[]} Tryz.f77 h))
def Au:LI:={hd:={cb:=[(1,.k .sl),(6,.k (.int .i64))],refs:=[(2,2),(4,4)],cw:=[(2,[.lk .str,.lk .sl]),(4,[.lk .str,.lk .sl])],gd:=[(5,1)]},xs:={refs:=[(2,2),(4,4)],cw:=[(2,[.lk .str,.lk .sl]),(4,[.lk .str,.lk .sl])],gd:=[(5,1)]},rt:={},ex:=0}
def BX:Code:=dV (dU Tryz.f78) 3
def Ca:List (Nat×LI):=[(3,Au)]
def B7(a0_0:ByteArray)(a0_1:AV)(a1:AV):Tree :=
 .call 98 [.agg [VS a0_0,a0_1],.sl [],.vec 0] [.vec 1 []] fun r1 o1=>.an (r1=.vec 1/\(o1.tail.hO)=.vec 1 (o1.tail.hO).es)<|.loop BX Au [a1,VI 0] [.cells [VS a0_0,a0_1],.cells [VS (mk []),.v (.slice none 0 0)],.vec 1 ((o1.tail.hO).es)] (fun y3 q3=>.an ((q3.hO)=.cells (q3.hO).cs)<|.an (ag [.lk .str,.lk .sl] ((q3.hO).cs) 0 q3.tail)<|.an (((q3.tail.drop 0).hO)=.cells ((q3.tail.drop 0).hO).cs)<|.an (ag [.lk .str,.lk .sl] (((q3.tail.drop 0).hO).cs) 0 ((q3.tail.drop 0).tail))<|.an (((q3.drop 2).hO)=.vec 1 ((q3.drop 2).hO).es)<|.call 131 [.agg [VS (((q3.hO).cs.getD 0 .any).ah),((q3.hO).cs.getD 1 .any)],.sl [],.sl [],.ref 0 0] [.cells [.vec 1,VI 0],.vec 1 ((q3.tail.tail.hO).es)] fun r4 o4=>.an ((o4.hO)=.cells (o4.hO).cs)<|.an (aO [.vec 1,.lk (.int .i64)] ((o4.hO).cs) 0 1 o4.tail)<|NA r4<|.done 0 [.agg [VS ((r4.cs.getD 0 .any).ah),(r4.cs.getD 1 .any)]] []) (fun y3 q3=>.fail)
theorem Fk(a0_0:ByteArray)(a0_1:AV)(a1:AV)(ha0_1:LK.has .sl a0_1)(ha1:LK.has .sl a1)(h:dv 33 (B7 a0_0 a0_1 a1) R):au Tryz.prog 78 [.agg [VS a0_0,a0_1],a1] [] R :=
 uQ (aj (cv (aj (aD _) (aj (bQ ha0_1) aH))) (aj (bQ ha1) aH)) (oQ Ca Tryz.f78 h)
def zy(x1:AV)(x6:Int)(o2_0:ByteArray)(o2_1:AV)(o4_0:ByteArray)(o4_1:AV)(e5:List (List AV)):Tree :=
 NL x1<|NI (VI x6)<|.an (Ob.cells [VS o2_0,o2_1]=.cells [VS o2_0,o2_1])<|.an (ag [.lk .str,.lk .sl] [VS o2_0,o2_1] 0 [.cells [VS o4_0,o4_1],.vec 1 e5])<|.an (Ob.cells [VS o4_0,o4_1]=.cells [VS o4_0,o4_1])<|.an (ag [.lk .str,.lk .sl] [VS o4_0,o4_1] 0 [.vec 1 e5])<|.an (Ob.vec 1 e5=.vec 1 e5)<|NL x1<|.test (decide (x6<(x1.aX.length:Int))) (NG x1 x6 2<|NE (x1.ix x6)<|.call 98 [.agg [VS (((x1.ix x6).getD 0 .any).ah),((x1.ix x6).getD 1 .any)],.sl [],.vec 0] [.vec 1 []] fun r1 o1=>.an (r1=.vec 1/\(o1.tail.hO)=.vec 1 (o1.tail.hO).es)<|.an (di 1 ((o1.tail.hO).es)/\((e5.length)+((o1.tail.hO).es).length)*16<=140737488355328)<|.done 0 [x1,VI (IntKind.wrap .i64 (x6+1))] [.cells [VS o2_0,o2_1],.cells [VS o4_0,o4_1],.vec 1 (e5++((o1.tail.hO).es))]) (.done 1 [] [.cells [VS o2_0,o2_1],.cells [VS o4_0,o4_1],.vec 1 e5])
abbrev Ak:=cS Tryz.prog 33 BX Au
theorem Ew(x1:AV)(x6:Int)(o2_0:ByteArray)(o2_1:AV)(o4_0:ByteArray)(o4_1:AV)(e5:List (List AV))(h:pk 33 (zy x1 x6 o2_0 o2_1 o4_0 o4_1 e5) Ak U):Ak [x1,VI x6] [.cells [VS o2_0,o2_1],.cells [VS o4_0,o4_1],.vec 1 e5] U :=
 gQ Ca h
def Dk(a0:ByteArray):Tree :=
 .call 121 [VS a0] [] fun r1 o1=>NP r1<|NP r1<|.test r1.isNil (.done 0 [.v (.pointer none)] []) (.call 132 [r1] [] fun r2 o2=>NB r2<|.test (!r2.toBool) (.done 0 [.v (.pointer none)] []) (.done 0 [r1] []))
theorem F5(a0:ByteArray)(h:dv 14 (Dk a0) R):au Tryz.prog 79 [VS a0] [] R :=
 uQ (aj (aD _) aH) (oQ [] Tryz.f79 h)
def uy(a0_0:AV)(a0_1:AV)(a1:AV)(a2:Int):Tree :=
 NZ a0_0<|NZ a0_0<|.an (LK.has (.int .u8) (a0_0.deref.hA)/\1<=a0_0.deref.length)<|.test (((a0_0.deref.hA).toInt)==(49:Int)) (NZ a1<|NZ a1<|.an (LK.has (.int .u8) (a1.deref.hA)/\1<=a1.deref.length)<|.done 0 [VB (((a1.deref.hA).toInt)==(117:Int))] []) (.test (((a0_0.deref.hA).toInt)==(110:Int)) (NZ a1<|NZ a1<|.an (LK.has (.int .u8) (a1.deref.hA)/\1<=a1.deref.length)<|.test (((a1.deref.hA).toInt) != (101:Int)) (.done 0 [VB false] []) (NZ a1<|NZ a1<|mG (a1.deref.drop 1)<|.an (0<=(1:Int)/\(1:Int)<=(ae (((a1.deref.drop 1).hA).ah):Int)/\(ae (((a1.deref.drop 1).hA).ah):Int)<=(ae (((a1.deref.drop 1).hA).ah):Int))<|.call 81 [VS (bn (((a1.deref.drop 1).hA).ah) (bk 1) (bk (ae (((a1.deref.drop 1).hA).ah):Int)))] [] fun r1 o1=>NT r1<|NI (r1.comp 0)<|.an (LK.has .oth (r1.comp 1))<|.done 0 [VB (decide (((r1.comp 0).toInt)<a2))] [])) (.test (((a0_0.deref.hA).toInt)==(98:Int)) (.call 133 [.agg [a0_0,a0_1]] [] fun r2 o2=>NP r2<|NZ r2<|NZ r2<|.an (cd [.ptr,.ptr] r2.deref 0/\2<=r2.deref.length)<|.call 80 [.agg [(r2.deref.getD 0 .any),(r2.deref.getD 1 .any)],a1,VI a2] [] fun r3 o3=>NB r3<|.done 0 [VB r3.toBool] []) (.test (((a0_0.deref.hA).toInt)==(43:Int)) (NZ a1<|NZ a1<|.an (LK.has (.int .u8) (a1.deref.hA)/\1<=a1.deref.length)<|.test (((a1.deref.hA).toInt)==(108:Int)) (.call 105 [.agg [a0_0,a0_1]] [] fun r4 o4=>.an (r4=.agg r4.cs/\r4.cs.length=2/\cd [.ptr,.ptr] r4.cs 0)<|NZ a1<|NZ a1<|er (a1.deref.drop 2)<|.call 80 [.agg [(r4.cs.getD 0 .any),(r4.cs.getD 1 .any)],((a1.deref.drop 2).hA),VI a2] [] fun r5 o5=>NB r5<|.test r5.toBool (.done 0 [VB true] []) (NZ a1<|NZ a1<|.an (LK.has (.int .u8) (a1.deref.hA)/\1<=a1.deref.length)<|.test (((a1.deref.hA).toInt)==(114:Int)) (.call 106 [.agg [a0_0,a0_1]] [] fun r6 o6=>.an (r6=.agg r6.cs/\r6.cs.length=2/\cd [.ptr,.ptr] r6.cs 0)<|NZ a1<|NZ a1<|er (a1.deref.drop 2)<|.call 80 [.agg [(r6.cs.getD 0 .any),(r6.cs.getD 1 .any)],((a1.deref.drop 2).hA),VI a2] [] fun r7 o7=>NB r7<|.done 0 [VB r7.toBool] []) (.done 0 [VB false] []))) (NZ a1<|NZ a1<|.an (LK.has (.int .u8) (a1.deref.hA)/\1<=a1.deref.length)<|.test (((a1.deref.hA).toInt)==(114:Int)) (.call 106 [.agg [a0_0,a0_1]] [] fun r8 o8=>.an (r8=.agg r8.cs/\r8.cs.length=2/\cd [.ptr,.ptr] r8.cs 0)<|NZ a1<|NZ a1<|er (a1.deref.drop 2)<|.call 80 [.agg [(r8.cs.getD 0 .any),(r8.cs.getD 1 .any)],((a1.deref.drop 2).hA),VI a2] [] fun r9 o9=>NB r9<|.done 0 [VB r9.toBool] []) (.done 0 [VB false] []))) (.test (((a0_0.deref.hA).toInt)==(42:Int)) (NZ a1<|NZ a1<|.an (LK.has (.int .u8) (a1.deref.hA)/\1<=a1.deref.length)<|.test (((a1.deref.hA).toInt)==(112:Int)) (.call 105 [.agg [a0_0,a0_1]] [] fun r10 o10=>.an (r10=.agg r10.cs/\r10.cs.length=2/\cd [.ptr,.ptr] r10.cs 0)<|NZ a1<|NZ a1<|er (a1.deref.drop 2)<|.call 80 [.agg [(r10.cs.getD 0 .any),(r10.cs.getD 1 .any)],((a1.deref.drop 2).hA),VI a2] [] fun r11 o11=>NB r11<|.test r11.toBool (.call 106 [.agg [a0_0,a0_1]] [] fun r12 o12=>.an (r12=.agg r12.cs/\r12.cs.length=2/\cd [.ptr,.ptr] r12.cs 0)<|NZ a1<|NZ a1<|er (a1.deref.drop 3)<|.call 80 [.agg [(r12.cs.getD 0 .any),(r12.cs.getD 1 .any)],((a1.deref.drop 3).hA),VI a2] [] fun r13 o13=>NB r13<|.done 0 [VB r13.toBool] []) (.done 0 [VB false] [])) (.done 0 [VB false] [])) (.test (((a0_0.deref.hA).toInt)==(114:Int)) (.call 107 [.agg [a0_0,a0_1]] [] fun r14 o14=>NT r14<|.an ((r14.comp 0)=.agg (r14.comp 0).cs/\(r14.comp 0).cs.length=2/\cd [.ptr,.ptr] ((r14.comp 0).cs) 0)<|NP (r14.comp 1)<|NZ a1<|NZ a1<|.an (LK.has (.int .u8) (a1.deref.hA)/\1<=a1.deref.length)<|.test (((a1.deref.hA).toInt)==(102:Int)) (NZ a1<|NZ a1<|er (a1.deref.drop 2)<|.call 80 [.agg [((r14.comp 0).cs.getD 0 .any),((r14.comp 0).cs.getD 1 .any)],((a1.deref.drop 2).hA),VI a2] [] fun r15 o15=>NB r15<|.done 0 [VB r15.toBool] []) (.done 0 [VB false] [])) (.done 0 [VB false] []))))))
theorem Cg(a0_0:AV)(a0_1:AV)(a1:AV)(a2:Int)(ha0_0:LK.has .ptr a0_0)(ha0_1:LK.has .ptr a0_1)(ha1:LK.has .ptr a1)(h:dv 134 (uy a0_0 a0_1 a1 a2) R):au Tryz.prog 80 [.agg [a0_0,a0_1],a1,VI a2] [] R :=
 uQ (aj (cv (aj (cD ha0_0) (aj (cD ha0_1) aH))) (aj (cD ha1) (aj (aD _) aH))) (oQ [] Tryz.f80 h)
def Cf(a0:ByteArray):Tree :=
 .call 84 [VS a0] [] fun r1 o1=>NT r1<|.an ((r1.comp 0)=.agg (r1.comp 0).cs/\(r1.comp 0).cs.length=2/\cd [.str,.sl] ((r1.comp 0).cs) 0)<|NB (r1.comp 1)<|.test ((r1.comp 1).toBool) (.call 136 [.agg [VS (((r1.comp 0).cs.getD 0 .any).ah),((r1.comp 0).cs.getD 1 .any)]] [] fun r2 o2=>NB r2<|.test r2.toBool (.call 129 [.agg [VS (((r1.comp 0).cs.getD 0 .any).ah),((r1.comp 0).cs.getD 1 .any)]] [] fun r3 o3=>NI r3<|.done 0 [.cm [.agg [VS (((r1.comp 0).cs.getD 0 .any).ah),((r1.comp 0).cs.getD 1 .any)],VB (decide (r3.toInt<=(400:Int)))]] []) (.done 0 [.cm [.agg [VS (((r1.comp 0).cs.getD 0 .any).ah),((r1.comp 0).cs.getD 1 .any)],VB false]] [])) (.done 0 [.cm [.agg [VS (((r1.comp 0).cs.getD 0 .any).ah),((r1.comp 0).cs.getD 1 .any)],VB false]] [])
theorem Gh(a0:ByteArray)(h:dv 22 (Cf a0) R):au Tryz.prog 82 [VS a0] [] R :=
 uQ (aj (aD _) aH) (oQ [] Tryz.f82 h)
def Aw(a0_0:ByteArray)(a0_1:AV):Tree :=
 .test (!(ac a0_0==ac (mk []))) (.test (ac a0_0==ac (mk [48])) (.done 0 [VB true] []) (.test (ac a0_0==ac (mk [49])) (.done 0 [VB true] []) (.test (ac a0_0==ac (mk [120])) (.done 0 [VB true] []) (.test (ac a0_0==ac (mk [121])) (.done 0 [VB true] []) (.done 0 [VB (ac a0_0==ac (mk [122]))] []))))) (.call 90 [.agg [VS a0_0,a0_1]] [] fun r1 o1=>NS r1<|.test (!(ac r1.ah==ac (mk [114,101,99]))) (NG a0_1 1 2<|NE (a0_1.ix (1:Int))<|.call 83 [.agg [VS (((a0_1.ix (1:Int)).getD 0 .any).ah),((a0_1.ix (1:Int)).getD 1 .any)]] [] fun r2 o2=>NB r2<|.test r2.toBool (NG a0_1 2 2<|NE (a0_1.ix (2:Int))<|.call 83 [.agg [VS (((a0_1.ix (2:Int)).getD 0 .any).ah),((a0_1.ix (2:Int)).getD 1 .any)]] [] fun r3 o3=>NB r3<|.done 0 [VB r3.toBool] []) (.done 0 [VB false] [])) (.done 0 [VB false] []))
theorem Eg(a0_0:ByteArray)(a0_1:AV)(ha0_1:LK.has .sl a0_1)(h:dv 46 (Aw a0_0 a0_1) R):au Tryz.prog 83 [.agg [VS a0_0,a0_1]] [] R :=
 uQ (aj (cv (aj (aD _) (aj (bQ ha0_1) aH))) aH) (oQ [] Tryz.f83 h)
def EO(a0:ByteArray):Tree :=
 .test (decide ((ae a0:Int)>(8000:Int))) (.done 0 [.cm [.agg [VS (mk []),.v (.slice none 0 0)],VB false]] []) (.call 137 [VS a0,VI 0,VI 0] [] fun r1 o1=>NT r1<|.an ((r1.comp 0)=.agg (r1.comp 0).cs/\(r1.comp 0).cs.length=2/\cd [.str,.sl] ((r1.comp 0).cs) 0)<|NI (r1.comp 1)<|.done 0 [.cm [.agg [VS (((r1.comp 0).cs.getD 0 .any).ah),((r1.comp 0).cs.getD 1 .any)],VB (((r1.comp 1).toInt)==(ae a0:Int))]] [])
theorem FT(a0:ByteArray)(h:dv 20 (EO a0) R):au Tryz.prog 84 [VS a0] [] R :=
 uQ (aj (aD _) aH) (oQ [] Tryz.f84 h)
def zD(a0_0:ByteArray)(a0_1:AV):Tree :=
 .test (!(ac a0_0==ac (mk []))) (.test (ac a0_0==ac (mk [117])) (.done 0 [VB true] []) (.call 56 [VS a0_0] [] fun r1 o1=>NI r1<|.done 0 [VB (decide (r1.toInt≥(0:Int)))] [])) (.call 90 [.agg [VS a0_0,a0_1]] [] fun r2 o2=>NS r2<|.test (ac r2.ah==ac (mk [108])) (NL a0_1<|.test ((a0_1.aX.length:Int)==(2:Int)) (NG a0_1 1 2<|NE (a0_1.ix (1:Int))<|.call 85 [.agg [VS (((a0_1.ix (1:Int)).getD 0 .any).ah),((a0_1.ix (1:Int)).getD 1 .any)]] [] fun r3 o3=>NB r3<|.done 0 [VB r3.toBool] []) (.done 0 [VB false] [])) (.test (ac r2.ah==ac (mk [114])) (NL a0_1<|.test ((a0_1.aX.length:Int)==(2:Int)) (NG a0_1 1 2<|NE (a0_1.ix (1:Int))<|.call 85 [.agg [VS (((a0_1.ix (1:Int)).getD 0 .any).ah),((a0_1.ix (1:Int)).getD 1 .any)]] [] fun r4 o4=>NB r4<|.done 0 [VB r4.toBool] []) (.done 0 [VB false] [])) (.test (ac r2.ah==ac (mk [102])) (NL a0_1<|.test ((a0_1.aX.length:Int)==(2:Int)) (NG a0_1 1 2<|NE (a0_1.ix (1:Int))<|.call 85 [.agg [VS (((a0_1.ix (1:Int)).getD 0 .any).ah),((a0_1.ix (1:Int)).getD 1 .any)]] [] fun r5 o5=>NB r5<|.done 0 [VB r5.toBool] []) (.done 0 [VB false] [])) (.test (ac r2.ah==ac (mk [112])) (NL a0_1<|.test ((a0_1.aX.length:Int)==(3:Int)) (NG a0_1 1 2<|NE (a0_1.ix (1:Int))<|.call 85 [.agg [VS (((a0_1.ix (1:Int)).getD 0 .any).ah),((a0_1.ix (1:Int)).getD 1 .any)]] [] fun r6 o6=>NB r6<|.test r6.toBool (NG a0_1 2 2<|NE (a0_1.ix (2:Int))<|.call 85 [.agg [VS (((a0_1.ix (2:Int)).getD 0 .any).ah),((a0_1.ix (2:Int)).getD 1 .any)]] [] fun r7 o7=>NB r7<|.done 0 [VB r7.toBool] []) (.done 0 [VB false] [])) (.done 0 [VB false] [])) (.done 0 [VB false] [])))))
theorem Bo(a0_0:ByteArray)(a0_1:AV)(ha0_1:LK.has .sl a0_1)(h:dv 52 (zD a0_0 a0_1) R):au Tryz.prog 85 [.agg [VS a0_0,a0_1]] [] R :=
 uQ (aj (cv (aj (aD _) (aj (bQ ha0_1) aH))) aH) (oQ [] Tryz.f85 h)
def Ar:LI:={hd:={cb:=[(3,.k (.int .i64)),(4,.k (.int .i64))],refs:=[(1,1)],cw:=[(1,[.lk .str,.lk .sl])]},xs:={cb:=[(3,.k (.int .i64))]},rt:={},ex:=0}
def EE:Code:=dV (dU Tryz.f86) 3
def Df:List (Nat×LI):=[(3,Ar)]
def A0(a0_0:ByteArray)(a0_1:AV):Tree :=
 .loop EE Ar [VI 1,VI 1] [.cells [VS a0_0,a0_1]] (fun y2 q2=>NI (y2.hA)<|.done 0 [VI ((y2.hA).toInt)] []) (fun y2 q2=>.done 0 [.any] [])
theorem DZ(a0_0:ByteArray)(a0_1:AV)(ha0_1:LK.has .sl a0_1)(h:dv 21 (A0 a0_0 a0_1) R):au Tryz.prog 86 [.agg [VS a0_0,a0_1]] [] R :=
 uQ (aj (cv (aj (aD _) (aj (bQ ha0_1) aH))) aH) (oQ Df Tryz.f86 h)
def vE(x3:Int)(x4:Int)(o1_0:ByteArray)(o1_1:AV):Tree :=
 NI (VI x3)<|NI (VI x4)<|.an (Ob.cells [VS o1_0,o1_1]=.cells [VS o1_0,o1_1])<|.an (ag [.lk .str,.lk .sl] [VS o1_0,o1_1] 0 [])<|NL o1_1<|.test (decide (x4<(o1_1.aX.length:Int))) (NG o1_1 x4 2<|NE (o1_1.ix x4)<|.call 86 [.agg [VS (((o1_1.ix x4).getD 0 .any).ah),((o1_1.ix x4).getD 1 .any)]] [] fun r1 o1=>NI r1<|.done 0 [VI (IntKind.wrap .i64 (x3+r1.toInt)),VI (IntKind.wrap .i64 (x4+1))] [.cells [VS o1_0,o1_1]]) (.done 1 [VI x3] [])
abbrev wg:=cS Tryz.prog 21 EE Ar
theorem xG(x3:Int)(x4:Int)(o1_0:ByteArray)(o1_1:AV)(h:pk 21 (vE x3 x4 o1_0 o1_1) wg U):wg [VI x3,VI x4] [.cells [VS o1_0,o1_1]] U :=
 gQ Df h
def DH(a0:Int)(a1:Int)(a2:Int):Tree :=
 .test (decide (a0≥a1)) (.done 0 [VB (decide (a0<=a2))] []) (.done 0 [VB false] [])
theorem Hn(a0:Int)(a1:Int)(a2:Int)(h:dv 15 (DH a0 a1 a2) R):au Tryz.prog 87 [VI a0,VI a1,VI a2] [] R :=
 uQ (aj (aD _) (aj (aD _) (aj (aD _) aH))) (oQ [] Tryz.f87 h)
def AD(a0_0:ByteArray)(a0_1:AV)(a1:Int):Tree :=
 .test (!(ac a0_0==ac (mk []))) (.test (ac a0_0==ac (mk [48])) (.done 0 [.cm [VI 0,VB true]] []) (.test (ac a0_0==ac (mk [49])) (.done 0 [.cm [VI 1,VB true]] []) (.done 0 [.cm [VI a1,VB true]] []))) (NG a0_1 1 2<|NE (a0_1.ix (1:Int))<|.call 88 [.agg [VS (((a0_1.ix (1:Int)).getD 0 .any).ah),((a0_1.ix (1:Int)).getD 1 .any)],VI a1] [] fun r1 o1=>NT r1<|NI (r1.comp 0)<|NB (r1.comp 1)<|NG a0_1 2 2<|NE (a0_1.ix (2:Int))<|.call 88 [.agg [VS (((a0_1.ix (2:Int)).getD 0 .any).ah),((a0_1.ix (2:Int)).getD 1 .any)],VI a1] [] fun r2 o2=>NT r2<|NI (r2.comp 0)<|NB (r2.comp 1)<|.call 90 [.agg [VS a0_0,a0_1]] [] fun r3 o3=>NS r3<|.test (ac r3.ah==ac (mk [42])) (.test ((r1.comp 1).toBool) (.test ((r2.comp 1).toBool) (.done 0 [.cm [VI (IntKind.wrap .i64 (((r1.comp 0).toInt)*((r2.comp 0).toInt))),VB (decide ((IntKind.wrap .i64 (((r1.comp 0).toInt)*((r2.comp 0).toInt)))<=(1000000000:Int)))]] []) (.done 0 [.cm [VI (IntKind.wrap .i64 (((r1.comp 0).toInt)*((r2.comp 0).toInt))),VB false]] [])) (.done 0 [.cm [VI (IntKind.wrap .i64 (((r1.comp 0).toInt)*((r2.comp 0).toInt))),VB false]] [])) (.test ((r1.comp 1).toBool) (.test ((r2.comp 1).toBool) (.done 0 [.cm [VI (IntKind.wrap .i64 (((r1.comp 0).toInt)+((r2.comp 0).toInt))),VB (decide ((IntKind.wrap .i64 (((r1.comp 0).toInt)+((r2.comp 0).toInt)))<=(1000000000:Int)))]] []) (.done 0 [.cm [VI (IntKind.wrap .i64 (((r1.comp 0).toInt)+((r2.comp 0).toInt))),VB false]] [])) (.done 0 [.cm [VI (IntKind.wrap .i64 (((r1.comp 0).toInt)+((r2.comp 0).toInt))),VB false]] [])))
theorem Ct(a0_0:ByteArray)(a0_1:AV)(a1:Int)(ha0_1:LK.has .sl a0_1)(h:dv 57 (AD a0_0 a0_1 a1) R):au Tryz.prog 88 [.agg [VS a0_0,a0_1],VI a1] [] R :=
 uQ (aj (cv (aj (aD _) (aj (bQ ha0_1) aH))) (aj (aD _) aH)) (oQ [] Tryz.f88 h)
def EH(a0_0:ByteArray)(a0_1:AV)(a1:AV)(a2_0:ByteArray)(a2_1:AV)(a3:Int):Tree :=
 .call 138 [.agg [VS a0_0,a0_1],a1] [] fun r1 o1=>NT r1<|.an ((r1.comp 0)=.agg (r1.comp 0).cs/\(r1.comp 0).cs.length=2/\cd [.str,.sl] ((r1.comp 0).cs) 0)<|NL (r1.comp 1)<|.test (!(ac (((r1.comp 0).cs.getD 0 .any).ah)==ac (mk []))) (.test (ac (((r1.comp 0).cs.getD 0 .any).ah)==ac (mk [49])) (.done 0 [VB (ac a2_0==ac (mk [117]))] []) (.call 100 [VS (((r1.comp 0).cs.getD 0 .any).ah)] [] fun r2 o2=>NB r2<|.test r2.toBool (.call 56 [VS a2_0] [] fun r3 o3=>NI r3<|.call 87 [VI r3.toInt,VI 0,VI (IntKind.wrap .i64 (a3-1))] [] fun r4 o4=>NB r4<|.done 0 [VB r4.toBool] []) (.done 0 [VB false] []))) (.call 90 [.agg [VS (((r1.comp 0).cs.getD 0 .any).ah),((r1.comp 0).cs.getD 1 .any)]] [] fun r5 o5=>NS r5<|.call 90 [.agg [VS a2_0,a2_1]] [] fun r6 o6=>NS r6<|.an (ae r5.ah+ae r6.ah<=9223372036854775807)<|.test (ac ((r5.ah:ByteArray)++r6.ah)==ac (mk [43,108])) (NG ((r1.comp 0).cs.getD 1 .any) 1 2<|NE (((r1.comp 0).cs.getD 1 .any).ix (1:Int))<|NG a2_1 1 2<|NE (a2_1.ix (1:Int))<|.call 89 [.agg [VS (((((r1.comp 0).cs.getD 1 .any).ix (1:Int)).getD 0 .any).ah),((((r1.comp 0).cs.getD 1 .any).ix (1:Int)).getD 1 .any)],(r1.comp 1),.agg [VS (((a2_1.ix (1:Int)).getD 0 .any).ah),((a2_1.ix (1:Int)).getD 1 .any)],VI a3] [] fun r7 o7=>NB r7<|.done 0 [VB r7.toBool] []) (.test (ac ((r5.ah:ByteArray)++r6.ah)==ac (mk [43,114])) (NG ((r1.comp 0).cs.getD 1 .any) 2 2<|NE (((r1.comp 0).cs.getD 1 .any).ix (2:Int))<|NG a2_1 1 2<|NE (a2_1.ix (1:Int))<|.call 89 [.agg [VS (((((r1.comp 0).cs.getD 1 .any).ix (2:Int)).getD 0 .any).ah),((((r1.comp 0).cs.getD 1 .any).ix (2:Int)).getD 1 .any)],(r1.comp 1),.agg [VS (((a2_1.ix (1:Int)).getD 0 .any).ah),((a2_1.ix (1:Int)).getD 1 .any)],VI a3] [] fun r8 o8=>NB r8<|.done 0 [VB r8.toBool] []) (.test (ac ((r5.ah:ByteArray)++r6.ah)==ac (mk [42,112])) (NG ((r1.comp 0).cs.getD 1 .any) 1 2<|NE (((r1.comp 0).cs.getD 1 .any).ix (1:Int))<|NG a2_1 1 2<|NE (a2_1.ix (1:Int))<|.call 89 [.agg [VS (((((r1.comp 0).cs.getD 1 .any).ix (1:Int)).getD 0 .any).ah),((((r1.comp 0).cs.getD 1 .any).ix (1:Int)).getD 1 .any)],(r1.comp 1),.agg [VS (((a2_1.ix (1:Int)).getD 0 .any).ah),((a2_1.ix (1:Int)).getD 1 .any)],VI a3] [] fun r9 o9=>NB r9<|.test r9.toBool (NG ((r1.comp 0).cs.getD 1 .any) 2 2<|NE (((r1.comp 0).cs.getD 1 .any).ix (2:Int))<|NG a2_1 2 2<|NE (a2_1.ix (2:Int))<|.call 89 [.agg [VS (((((r1.comp 0).cs.getD 1 .any).ix (2:Int)).getD 0 .any).ah),((((r1.comp 0).cs.getD 1 .any).ix (2:Int)).getD 1 .any)],(r1.comp 1),.agg [VS (((a2_1.ix (2:Int)).getD 0 .any).ah),((a2_1.ix (2:Int)).getD 1 .any)],VI a3] [] fun r10 o10=>NB r10<|.done 0 [VB r10.toBool] []) (.done 0 [VB false] [])) (.test (ac ((r5.ah:ByteArray)++r6.ah)==ac (mk [114,101,99,102])) (.call 139 [.agg [VS (((r1.comp 0).cs.getD 0 .any).ah),((r1.comp 0).cs.getD 1 .any)],(r1.comp 1)] [] fun r11 o11=>NT r11<|.an ((r11.comp 0)=.agg (r11.comp 0).cs/\(r11.comp 0).cs.length=2/\cd [.str,.sl] ((r11.comp 0).cs) 0)<|NL (r11.comp 1)<|NG a2_1 1 2<|NE (a2_1.ix (1:Int))<|.call 89 [.agg [VS (((r11.comp 0).cs.getD 0 .any).ah),((r11.comp 0).cs.getD 1 .any)],(r11.comp 1),.agg [VS (((a2_1.ix (1:Int)).getD 0 .any).ah),((a2_1.ix (1:Int)).getD 1 .any)],VI a3] [] fun r12 o12=>NB r12<|.done 0 [VB r12.toBool] []) (.done 0 [VB false] [])))))
theorem GS(a0_0:ByteArray)(a0_1:AV)(a1:AV)(a2_0:ByteArray)(a2_1:AV)(a3:Int)(ha0_1:LK.has .sl a0_1)(ha1:LK.has .sl a1)(ha2_1:LK.has .sl a2_1)(h:dv 110 (EH a0_0 a0_1 a1 a2_0 a2_1 a3) R):au Tryz.prog 89 [.agg [VS a0_0,a0_1],a1,.agg [VS a2_0,a2_1],VI a3] [] R :=
 uQ (aj (cv (aj (aD _) (aj (bQ ha0_1) aH))) (aj (bQ ha1) (aj (cv (aj (aD _) (aj (bQ ha2_1) aH))) (aj (aD _) aH)))) (oQ [] Tryz.f89 h)
def wO(a0_0:ByteArray)(a0_1:AV):Tree :=
 .test (!(ac a0_0==ac (mk []))) (.done 0 [VS (mk [])] []) (NL a0_1<|.test ((a0_1.aX.length:Int)==(0:Int)) (.done 0 [VS (mk [])] []) (NG a0_1 0 2<|mG (a0_1.ix (0:Int))<|.done 0 [VS (((a0_1.ix (0:Int)).hA).ah)] []))
theorem AO(a0_0:ByteArray)(a0_1:AV)(ha0_1:LK.has .sl a0_1)(h:dv 17 (wO a0_0 a0_1) R):au Tryz.prog 90 [.agg [VS a0_0,a0_1]] [] R :=
 uQ (aj (cv (aj (aD _) (aj (bQ ha0_1) aH))) aH) (oQ [] Tryz.f90 h)
def yH(a0:AV)(e1_0_0:List (List AV)):Tree :=
 .call 189 [a0,.ref 0 0] [.cells [.vec 1],.vec 1 e1_0_0] fun r1 o1=>.an ((o1.hO)=.cells (o1.hO).cs)<|.an (aO [.vec 1] ((o1.hO).cs) 0 1 o1.tail)<|NZ a0<|NZ a0<|er (a0.deref.drop 3)<|NP ((a0.deref.drop 3).hA)<|.test (!((a0.deref.drop 3).hA).isNil) (NZ a0<|NZ a0<|er (a0.deref.drop 3)<|.call 91 [((a0.deref.drop 3).hA),.fn 189 [.ref 0 0]] [.cells [.vec 1],.vec 1 ((o1.tail.hO).es)] fun r2 o2=>.an ((o2.hO)=.cells (o2.hO).cs)<|.an (aO [.vec 1] ((o2.hO).cs) 0 1 o2.tail)<|NZ a0<|NZ a0<|er (a0.deref.drop 4)<|NP ((a0.deref.drop 4).hA)<|.test (!((a0.deref.drop 4).hA).isNil) (NZ a0<|NZ a0<|er (a0.deref.drop 4)<|.call 91 [((a0.deref.drop 4).hA),.fn 189 [.ref 0 0]] [.cells [.vec 1],.vec 1 ((o2.tail.hO).es)] fun r3 o3=>.an ((o3.hO)=.cells (o3.hO).cs)<|.an (aO [.vec 1] ((o3.hO).cs) 0 1 o3.tail)<|.done 0 [.any] [.cells [.vec 1],.vec 1 ((o3.tail.hO).es)]) (.done 0 [.any] [.cells [.vec 1],.vec 1 ((o2.tail.hO).es)])) (NZ a0<|NZ a0<|er (a0.deref.drop 4)<|NP ((a0.deref.drop 4).hA)<|.test (!((a0.deref.drop 4).hA).isNil) (NZ a0<|NZ a0<|er (a0.deref.drop 4)<|.call 91 [((a0.deref.drop 4).hA),.fn 189 [.ref 0 0]] [.cells [.vec 1],.vec 1 ((o1.tail.hO).es)] fun r4 o4=>.an ((o4.hO)=.cells (o4.hO).cs)<|.an (aO [.vec 1] ((o4.hO).cs) 0 1 o4.tail)<|.done 0 [.any] [.cells [.vec 1],.vec 1 ((o4.tail.hO).es)]) (.done 0 [.any] [.cells [.vec 1],.vec 1 ((o1.tail.hO).es)]))
theorem AA(a0:AV)(e1_0_0:List (List AV))(ha0:LK.has .ptr a0)(h:dv 29 (yH a0 e1_0_0) R):au Tryz.prog 91 [a0,.fn 189 [.ref 0 0]] [.cells [.vec 1],.vec 1 e1_0_0] R :=
 au.rO (cG (dn (aj (aD _) aH)) (cG (kX _) dr)) (au.up (aj (cD ha0) (aj (aD _) aH)) (oF [] {mu:=[(1,.fn [some (.obj [.vec 1])])],own:=[]} Tryz.f91 h))
def yO(a0:AV)(a1_0_0:Bool):Tree :=
 .call 92 [a0,.ref 0 0] [.cells [VB a1_0_0]] fun r1 o1=>.an ((o1.hO)=.cells (o1.hO).cs)<|.an (aO [.lk .bool] ((o1.hO).cs) 0 1 o1.tail)<|NZ a0<|NZ a0<|er (a0.deref.drop 3)<|NP ((a0.deref.drop 3).hA)<|.test (!((a0.deref.drop 3).hA).isNil) (NZ a0<|NZ a0<|er (a0.deref.drop 3)<|.call 91 [((a0.deref.drop 3).hA),.fn 92 [.ref 0 0]] [.cells [VB (((o1.hO).cs.getD 0 .any).toBool)]] fun r2 o2=>.an ((o2.hO)=.cells (o2.hO).cs)<|.an (aO [.lk .bool] ((o2.hO).cs) 0 1 o2.tail)<|NZ a0<|NZ a0<|er (a0.deref.drop 4)<|NP ((a0.deref.drop 4).hA)<|.test (!((a0.deref.drop 4).hA).isNil) (NZ a0<|NZ a0<|er (a0.deref.drop 4)<|.call 91 [((a0.deref.drop 4).hA),.fn 92 [.ref 0 0]] [.cells [VB (((o2.hO).cs.getD 0 .any).toBool)]] fun r3 o3=>.an ((o3.hO)=.cells (o3.hO).cs)<|.an (aO [.lk .bool] ((o3.hO).cs) 0 1 o3.tail)<|.done 0 [.any] [.cells [VB (((o3.hO).cs.getD 0 .any).toBool)]]) (.done 0 [.any] [.cells [VB (((o2.hO).cs.getD 0 .any).toBool)]])) (NZ a0<|NZ a0<|er (a0.deref.drop 4)<|NP ((a0.deref.drop 4).hA)<|.test (!((a0.deref.drop 4).hA).isNil) (NZ a0<|NZ a0<|er (a0.deref.drop 4)<|.call 91 [((a0.deref.drop 4).hA),.fn 92 [.ref 0 0]] [.cells [VB (((o1.hO).cs.getD 0 .any).toBool)]] fun r4 o4=>.an ((o4.hO)=.cells (o4.hO).cs)<|.an (aO [.lk .bool] ((o4.hO).cs) 0 1 o4.tail)<|.done 0 [.any] [.cells [VB (((o4.hO).cs.getD 0 .any).toBool)]]) (.done 0 [.any] [.cells [VB (((o1.hO).cs.getD 0 .any).toBool)]]))
theorem AQ(a0:AV)(a1_0_0:Bool)(ha0:LK.has .ptr a0)(h:dv 29 (yO a0 a1_0_0) R):au Tryz.prog 91 [a0,.fn 92 [.ref 0 0]] [.cells [VB a1_0_0]] R :=
 au.rO (cG (dn (aj (ED _) aH)) dr) (au.up (aj (cD ha0) (aj (aD _) aH)) (oF [] {mu:=[(1,.fn [some (.obj [.lk .bool])])],own:=[]} Tryz.f91 h))
def EN(a0:AV)(a1_0:Bool):Tree :=
 .test a1_0 (NZ a0<|NZ a0<|.an (LK.has (.int .u8) (a0.deref.hA)/\1<=a0.deref.length)<|.test (((a0.deref.hA).toInt) != (114:Int)) (NZ a0<|NZ a0<|mG (a0.deref.drop 1)<|.done 0 [.any] [.cells [VB (decide ((ae (((a0.deref.drop 1).hA).ah):Int)<=(1:Int)))]]) (.done 0 [.any] [.cells [VB false]])) (.done 0 [.any] [.cells [VB false]])
theorem Hg(a0:AV)(a1_0:Bool)(ha0:LK.has .ptr a0)(h:dv 19 (EN a0 a1_0) R):au Tryz.prog 92 [a0,.ref 0 0] [.cells [VB a1_0]] R :=
 au.rO (cG (dn (aj (ED _) aH)) dr) (au.up (aj (cD ha0) (aj (aD _) aH)) (oF [] {mu:=[(1,.one (.obj [.lk .bool]))],own:=[]} Tryz.f92 h))
def Am(a0:AV):Tree :=
 NZ a0<|NZ a0<|.an (LK.has (.int .u8) (a0.deref.hA)/\1<=a0.deref.length)<|.test (((a0.deref.hA).toInt)==(117:Int)) (.done 0 [VS (mk [117])] []) (.test (((a0.deref.hA).toInt)==(101:Int)) (NZ a0<|NZ a0<|mG (a0.deref.drop 1)<|.done 0 [VS (((a0.deref.drop 1).hA).ah)] []) (.test (((a0.deref.hA).toInt)==(112:Int)) (NZ a0<|NZ a0<|er (a0.deref.drop 2)<|.call 93 [((a0.deref.drop 2).hA)] [] fun r1 o1=>NS r1<|.an (ae (mk [40,112,32])+ae r1.ah<=9223372036854775807)<|.an (ae (((mk [40,112,32]):ByteArray)++r1.ah)+ae (mk [32])<=9223372036854775807)<|NZ a0<|NZ a0<|er (a0.deref.drop 3)<|.call 93 [((a0.deref.drop 3).hA)] [] fun r2 o2=>NS r2<|.an (ae (((((mk [40,112,32]):ByteArray)++r1.ah):ByteArray)++(mk [32]))+ae r2.ah<=9223372036854775807)<|.an (ae (((((((mk [40,112,32]):ByteArray)++r1.ah):ByteArray)++(mk [32])):ByteArray)++r2.ah)+ae (mk [41])<=9223372036854775807)<|.done 0 [VS (((((((((mk [40,112,32]):ByteArray)++r1.ah):ByteArray)++(mk [32])):ByteArray)++r2.ah):ByteArray)++(mk [41]))] []) (NZ a0<|NZ a0<|.an (LK.has (.int .u8) (a0.deref.hA)/\1<=a0.deref.length)<|.an (jT [[.v (.int .u8 ((a0.deref.hA).toInt))]])<|.an (ae (mk [40])+ae (⟨(bytesOf [[.v (.int .u8 ((a0.deref.hA).toInt))]]).toArray⟩)<=9223372036854775807)<|.an (ae (((mk [40]):ByteArray)++(⟨(bytesOf [[.v (.int .u8 ((a0.deref.hA).toInt))]]).toArray⟩))+ae (mk [32])<=9223372036854775807)<|NZ a0<|NZ a0<|er (a0.deref.drop 2)<|.call 93 [((a0.deref.drop 2).hA)] [] fun r3 o3=>NS r3<|.an (ae (((((mk [40]):ByteArray)++(⟨(bytesOf [[.v (.int .u8 ((a0.deref.hA).toInt))]]).toArray⟩)):ByteArray)++(mk [32]))+ae r3.ah<=9223372036854775807)<|.an (ae (((((((mk [40]):ByteArray)++(⟨(bytesOf [[.v (.int .u8 ((a0.deref.hA).toInt))]]).toArray⟩)):ByteArray)++(mk [32])):ByteArray)++r3.ah)+ae (mk [41])<=9223372036854775807)<|.done 0 [VS (((((((((mk [40]):ByteArray)++(⟨(bytesOf [[.v (.int .u8 ((a0.deref.hA).toInt))]]).toArray⟩)):ByteArray)++(mk [32])):ByteArray)++r3.ah):ByteArray)++(mk [41]))] [])))
theorem tA(a0:AV)(ha0:LK.has .ptr a0)(h:dv 46 (Am a0) R):au Tryz.prog 93 [a0] [] R :=
 uQ (aj (cD ha0) aH) (oQ [] Tryz.f93 h)
def EB(a0:Int)(a1:AV):Tree :=
 .done 0 [.ptr [.v (.int .u8 a0),VS (mk []),a1,.v (.pointer none)]] []
theorem GH(a0:Int)(a1:AV)(ha1:LK.has .ptr a1)(h:dv 9 (EB a0 a1) R):au Tryz.prog 95 [.v (.int .u8 a0),a1] [] R :=
 uQ (aj (aD _) (aj (cD ha1) aH)) (oQ [] Tryz.f95 h)
def Cv(a0:AV)(a1:AV):Tree :=
 .done 0 [.ptr [.v (.int .u8 112),VS (mk []),a0,a1]] []
theorem Hc(a0:AV)(a1:AV)(ha0:LK.has .ptr a0)(ha1:LK.has .ptr a1)(h:dv 9 (Cv a0 a1) R):au Tryz.prog 96 [a0,a1] [] R :=
 uQ (aj (cD ha0) (aj (cD ha1) aH)) (oQ [] Tryz.f96 h)
def y0(a0_0:ByteArray)(a0_1:AV)(a1:AV)(e2:List (List AV)):Tree :=
 .test (!(ac a0_0==ac (mk []))) (.test (ac a0_0==ac (mk [48])) (.done 0 [.vec 1] [.dead,.vec 1 e2]) (.test (ac a0_0==ac (mk [49])) (.done 0 [.vec 1] [.dead,.vec 1 e2]) (.call 142 [a1,VS a0_0] [] fun r1 o1=>NB r1<|.test r1.toBool (.done 0 [.vec 1] [.dead,.vec 1 e2]) (.call 142 [.sl e2,VS a0_0] [] fun r2 o2=>NB r2<|.test r2.toBool (.done 0 [.vec 1] [.dead,.vec 1 e2]) (.an (di 1 [[VS a0_0]]/\((e2.length)+([[VS a0_0]]:List (List AV)).length)*16<=140737488355328)<|.done 0 [.vec 1] [.dead,.vec 1 (e2++([[VS a0_0]]:List (List AV)))]))))) (.call 90 [.agg [VS a0_0,a0_1]] [] fun r3 o3=>NS r3<|.test (ac r3.ah==ac (mk [114,101,99])) (NG a0_1 2 2<|NE (a0_1.ix (2:Int))<|NG a0_1 1 2<|mG (a0_1.ix (1:Int))<|.call 143 [a1,VS (((a0_1.ix (1:Int)).hA).ah)] [] fun r4 o4=>NL r4<|.call 98 [.agg [VS (((a0_1.ix (2:Int)).getD 0 .any).ah),((a0_1.ix (2:Int)).getD 1 .any)],r4,.vec 0] [.vec 1 e2] fun r5 o5=>.an (r5=.vec 1/\(o5.tail.hO)=.vec 1 (o5.tail.hO).es)<|.done 0 [.vec 1] [.dead,.vec 1 ((o5.tail.hO).es)]) (NG a0_1 2 2<|NE (a0_1.ix (2:Int))<|NG a0_1 1 2<|NE (a0_1.ix (1:Int))<|.call 98 [.agg [VS (((a0_1.ix (1:Int)).getD 0 .any).ah),((a0_1.ix (1:Int)).getD 1 .any)],a1,.vec 0] [.vec 1 e2] fun r6 o6=>.an (r6=.vec 1/\(o6.tail.hO)=.vec 1 (o6.tail.hO).es)<|.call 98 [.agg [VS (((a0_1.ix (2:Int)).getD 0 .any).ah),((a0_1.ix (2:Int)).getD 1 .any)],a1,.vec 0] [.vec 1 ((o6.tail.hO).es)] fun r7 o7=>.an (r7=.vec 1/\(o7.tail.hO)=.vec 1 (o7.tail.hO).es)<|.done 0 [.vec 1] [.dead,.vec 1 ((o7.tail.hO).es)]))
theorem tR(a0_0:ByteArray)(a0_1:AV)(a1:AV)(e2:List (List AV))(ha0_1:LK.has .sl a0_1)(ha1:LK.has .sl a1)(h:dv 65 (y0 a0_0 a0_1 a1 e2) R):au Tryz.prog 98 [.agg [VS a0_0,a0_1],a1,.vec 0] [.vec 1 e2] R :=
 au.rO (cG (kX _) dr) (au.up (aj (cv (aj (aD _) (aj (bQ ha0_1) aH))) (aj (bQ ha1) (aj (aD _) aH))) (oF [] {mu:=[(2,.one (.vec))],own:=[0]} Tryz.f98 h))
def Cx(a0:ByteArray):Tree :=
 .call 144 [VS a0,.v (.int .u8 116),.v (.int .u8 116)] [] fun r1 o1=>NB r1<|.done 0 [VB r1.toBool] []
theorem Ff(a0:ByteArray)(h:dv 5 (Cx a0) R):au Tryz.prog 99 [VS a0] [] R :=
 uQ (aj (aD _) aH) (oQ [] Tryz.f99 h)
def El(a0:ByteArray):Tree :=
 .call 144 [VS a0,.v (.int .u8 120),.v (.int .u8 122)] [] fun r1 o1=>NB r1<|.done 0 [VB r1.toBool] []
theorem GG(a0:ByteArray)(h:dv 5 (El a0) R):au Tryz.prog 100 [VS a0] [] R :=
 uQ (aj (aD _) aH) (oQ [] Tryz.f100 h)
def BH(a0:ByteArray):Tree :=
 .test (decide ((ae a0:Int)>(8000:Int))) (.done 0 [.v (.pointer none)] []) (.call 147 [VS a0,VI 0] [] fun r1 o1=>NT r1<|NP (r1.comp 0)<|NS (r1.comp 1)<|.test (!(ac ((r1.comp 1).ah)==ac (mk []))) (.done 0 [.v (.pointer none)] []) (.done 0 [(r1.comp 0)] []))
theorem G0(a0:ByteArray)(h:dv 16 (BH a0) R):au Tryz.prog 103 [VS a0] [] R :=
 uQ (aj (aD _) aH) (oQ [] Tryz.f103 h)
def AG(a0:AV):Tree :=
 NZ a0<|NZ a0<|.an (LK.has .str (a0.deref.hA)/\1<=a0.deref.length)<|.test (ac ((a0.deref.hA).ah)==ac (mk [117])) (.done 0 [.ptr [.v (.int .u8 117),VS (mk []),.v (.pointer none),.v (.pointer none)]] []) (NZ a0<|NZ a0<|.an (LK.has .str (a0.deref.hA)/\1<=a0.deref.length)<|.call 148 [VS ((a0.deref.hA).ah)] [] fun r1 o1=>NB r1<|.test r1.toBool (NZ a0<|NZ a0<|.an (LK.has .str (a0.deref.hA)/\1<=a0.deref.length)<|.done 0 [.ptr [.v (.int .u8 101),VS ((a0.deref.hA).ah),.v (.pointer none),.v (.pointer none)]] []) (.call 149 [a0,VS (mk [108]),VI 2] [] fun r2 o2=>NB r2<|.test r2.toBool (NZ a0<|NZ a0<|oj (a0.deref.drop 1)<|NG ((a0.deref.drop 1).hA) 1 1<|er (((a0.deref.drop 1).hA).ix (1:Int))<|.call 104 [((((a0.deref.drop 1).hA).ix (1:Int)).hA)] [] fun r3 o3=>NP r3<|NP r3<|.test r3.isNil (.done 0 [.v (.pointer none)] []) (NZ a0<|NZ a0<|oj (a0.deref.drop 1)<|NG ((a0.deref.drop 1).hA) 0 1<|er (((a0.deref.drop 1).hA).ix (0:Int))<|NZ ((((a0.deref.drop 1).hA).ix (0:Int)).hA)<|NZ ((((a0.deref.drop 1).hA).ix (0:Int)).hA)<|.an (LK.has .str (((((a0.deref.drop 1).hA).ix (0:Int)).hA).deref.hA)/\1<=(((((a0.deref.drop 1).hA).ix (0:Int)).hA).deref).length)<|.an (0<=(0:Int)/\(0:Int)<ae ((((((a0.deref.drop 1).hA).ix (0:Int)).hA).deref.hA).ah))<|.done 0 [.ptr [.v (.int .u8 (bt ((((((a0.deref.drop 1).hA).ix (0:Int)).hA).deref.hA).ah) 0)),VS (mk []),r3,.v (.pointer none)]] [])) (.call 149 [a0,VS (mk [114]),VI 2] [] fun r4 o4=>NB r4<|.test r4.toBool (NZ a0<|NZ a0<|oj (a0.deref.drop 1)<|NG ((a0.deref.drop 1).hA) 1 1<|er (((a0.deref.drop 1).hA).ix (1:Int))<|.call 104 [((((a0.deref.drop 1).hA).ix (1:Int)).hA)] [] fun r5 o5=>NP r5<|NP r5<|.test r5.isNil (.done 0 [.v (.pointer none)] []) (NZ a0<|NZ a0<|oj (a0.deref.drop 1)<|NG ((a0.deref.drop 1).hA) 0 1<|er (((a0.deref.drop 1).hA).ix (0:Int))<|NZ ((((a0.deref.drop 1).hA).ix (0:Int)).hA)<|NZ ((((a0.deref.drop 1).hA).ix (0:Int)).hA)<|.an (LK.has .str (((((a0.deref.drop 1).hA).ix (0:Int)).hA).deref.hA)/\1<=(((((a0.deref.drop 1).hA).ix (0:Int)).hA).deref).length)<|.an (0<=(0:Int)/\(0:Int)<ae ((((((a0.deref.drop 1).hA).ix (0:Int)).hA).deref.hA).ah))<|.done 0 [.ptr [.v (.int .u8 (bt ((((((a0.deref.drop 1).hA).ix (0:Int)).hA).deref.hA).ah) 0)),VS (mk []),r5,.v (.pointer none)]] [])) (.call 149 [a0,VS (mk [102]),VI 2] [] fun r6 o6=>NB r6<|.test r6.toBool (NZ a0<|NZ a0<|oj (a0.deref.drop 1)<|NG ((a0.deref.drop 1).hA) 1 1<|er (((a0.deref.drop 1).hA).ix (1:Int))<|.call 104 [((((a0.deref.drop 1).hA).ix (1:Int)).hA)] [] fun r7 o7=>NP r7<|NP r7<|.test r7.isNil (.done 0 [.v (.pointer none)] []) (NZ a0<|NZ a0<|oj (a0.deref.drop 1)<|NG ((a0.deref.drop 1).hA) 0 1<|er (((a0.deref.drop 1).hA).ix (0:Int))<|NZ ((((a0.deref.drop 1).hA).ix (0:Int)).hA)<|NZ ((((a0.deref.drop 1).hA).ix (0:Int)).hA)<|.an (LK.has .str (((((a0.deref.drop 1).hA).ix (0:Int)).hA).deref.hA)/\1<=(((((a0.deref.drop 1).hA).ix (0:Int)).hA).deref).length)<|.an (0<=(0:Int)/\(0:Int)<ae ((((((a0.deref.drop 1).hA).ix (0:Int)).hA).deref.hA).ah))<|.done 0 [.ptr [.v (.int .u8 (bt ((((((a0.deref.drop 1).hA).ix (0:Int)).hA).deref.hA).ah) 0)),VS (mk []),r7,.v (.pointer none)]] [])) (.call 149 [a0,VS (mk [112]),VI 3] [] fun r8 o8=>NB r8<|.test r8.toBool (NZ a0<|NZ a0<|oj (a0.deref.drop 1)<|NG ((a0.deref.drop 1).hA) 1 1<|er (((a0.deref.drop 1).hA).ix (1:Int))<|.call 104 [((((a0.deref.drop 1).hA).ix (1:Int)).hA)] [] fun r9 o9=>NP r9<|NZ a0<|NZ a0<|oj (a0.deref.drop 1)<|NG ((a0.deref.drop 1).hA) 2 1<|er (((a0.deref.drop 1).hA).ix (2:Int))<|.call 104 [((((a0.deref.drop 1).hA).ix (2:Int)).hA)] [] fun r10 o10=>NP r10<|NP r9<|.test r9.isNil (.done 0 [.v (.pointer none)] []) (NP r10<|.test r10.isNil (.done 0 [.v (.pointer none)] []) (.call 96 [r9,r10] [] fun r11 o11=>NP r11<|.done 0 [r11] []))) (.done 0 [.v (.pointer none)] []))))))
theorem C0(a0:AV)(ha0:LK.has .ptr a0)(h:dv 85 (AG a0) R):au Tryz.prog 104 [a0] [] R :=
 uQ (aj (cD ha0) aH) (oQ [] Tryz.f104 h)
def B3(a0_0:AV)(a0_1:AV):Tree :=
 NZ a0_0<|NZ a0_0<|er (a0_0.deref.drop 3)<|.done 0 [.agg [((a0_0.deref.drop 3).hA),a0_1]] []
theorem He(a0_0:AV)(a0_1:AV)(ha0_0:LK.has .ptr a0_0)(ha0_1:LK.has .ptr a0_1)(h:dv 11 (B3 a0_0 a0_1) R):au Tryz.prog 105 [.agg [a0_0,a0_1]] [] R :=
 uQ (aj (cv (aj (cD ha0_0) (aj (cD ha0_1) aH))) aH) (oQ [] Tryz.f105 h)
def Cr(a0_0:AV)(a0_1:AV):Tree :=
 NZ a0_0<|NZ a0_0<|er (a0_0.deref.drop 4)<|.done 0 [.agg [((a0_0.deref.drop 4).hA),a0_1]] []
theorem Fa(a0_0:AV)(a0_1:AV)(ha0_0:LK.has .ptr a0_0)(ha0_1:LK.has .ptr a0_1)(h:dv 11 (Cr a0_0 a0_1) R):au Tryz.prog 106 [.agg [a0_0,a0_1]] [] R :=
 uQ (aj (cv (aj (cD ha0_0) (aj (cD ha0_1) aH))) aH) (oQ [] Tryz.f106 h)
def EU(a0_0:AV)(a0_1:AV):Tree :=
 NZ a0_0<|NZ a0_0<|er (a0_0.deref.drop 3)<|.done 0 [.cm [.agg [((a0_0.deref.drop 3).hA),.ptr [.ptr [a0_0,a0_1],a0_1]],.ptr [a0_0,a0_1]]] []
theorem Gp(a0_0:AV)(a0_1:AV)(ha0_0:LK.has .ptr a0_0)(ha0_1:LK.has .ptr a0_1)(h:dv 20 (EU a0_0 a0_1) R):au Tryz.prog 107 [.agg [a0_0,a0_1]] [] R :=
 uQ (aj (cv (aj (cD ha0_0) (aj (cD ha0_1) aH))) aH) (oQ [] Tryz.f107 h)
def BS(a0:ByteArray)(a1:ByteArray):Tree :=
 .test (decide ((ae a0:Int)≥(1:Int))) (.test (decide ((ae a0:Int)<=(3:Int))) (.an (0<=(0:Int)/\(0:Int)<=(1:Int)/\(1:Int)<=(ae a0:Int))<|.call 151 [VS a1,VS (bn a0 (bk 0) (bk 1))] [] fun r1 o1=>NB r1<|.test r1.toBool (.an (0<=(1:Int)/\(1:Int)<=(ae a0:Int)/\(ae a0:Int)<=(ae a0:Int))<|.call 152 [VS (bn a0 (bk 1) (bk (ae a0:Int))),VS (mk [48,49,50,51,52,53,54,55,56,57])] [] fun r2 o2=>NS r2<|.done 0 [VB (ac r2.ah==ac (mk []))] []) (.done 0 [VB false] [])) (.done 0 [VB false] [])) (.done 0 [VB false] [])
theorem FP(a0:ByteArray)(a1:ByteArray)(h:dv 25 (BS a0 a1) R):au Tryz.prog 111 [VS a0,VS a1] [] R :=
 uQ (aj (aD _) (aj (aD _) aH)) (oQ [] Tryz.f111 h)
def B5(a0_0:AV)(a0_1:Int):Tree :=
 .call 55 [.ref 0 0,.sl [[VS (mk [40,114,101,99,32,116,32,40,43,32,49,32,40,42,32,120,32,116,41,41,41])],[VS (mk [40,114,101,99,32,116,32,40,43,32,120,32,40,42,32,116,32,116,41,41,41])],[VS (mk [40,114,101,99,32,116,32,40,43,32,49,32,40,42,32,116,32,40,42,32,120,32,116,41,41,41,41])],[VS (mk [40,114,101,99,32,116,32,40,43,32,49,32,116,41,41])],[VS (mk [40,114,101,99,32,116,32,40,42,32,120,32,40,114,101,99,32,116,49,32,40,43,32,49,32,40,42,32,116,32,116,49,41,41,41,41,41])],[VS (mk [40,114,101,99,32,116,48,32,40,43,32,40,42,32,120,32,121,41,32,40,43,32,116,48,32,40,42,32,116,48,32,116,48,41,41,41,41])],[VS (mk [40,114,101,99,32,116,32,40,43,32,121,32,40,42,32,116,32,40,42,32,116,32,116,41,41,41,41])]]] [.cells [a0_0,VI a0_1]] fun r1 o1=>.an ((o1.hO)=.cells (o1.hO).cs)<|.an (aO [.lk .sl,.lk (.int .i64)] ((o1.hO).cs) 0 1 o1.tail)<|NS r1<|.done 0 [VS r1.ah] [.cells [((o1.hO).cs.getD 0 .any),VI (((o1.hO).cs.getD 1 .any).toInt)]]
theorem FN(a0_0:AV)(a0_1:Int)(ha0_0:LK.has .sl a0_0)(h:dv 6 (B5 a0_0 a0_1) R):au Tryz.prog 119 [.ref 0 0] [.cells [a0_0,VI a0_1]] R :=
 au.rO (cG (dn (aj (bQ ha0_0) (aj (aD _) aH))) dr) (au.up (aj (aD _) aH) (oF [] {mu:=[(0,.one (.obj [.lk .sl,.lk (.int .i64)]))],own:=[]} Tryz.f119 h))
def CE(a0:ByteArray):Tree :=
 .call 103 [VS a0] [] fun r1 o1=>NP r1<|NP r1<|.test r1.isNil (.done 0 [.v (.pointer none)] []) (.call 153 [r1,.v (.slice none 0 0)] [] fun r2 o2=>NP r2<|NP r2<|.test r2.isNil (.done 0 [.v (.pointer none)] []) (.call 154 [r2] [] fun r3 o3=>NI r3<|.test (decide (r3.toInt>(400:Int))) (.done 0 [.v (.pointer none)] []) (.done 0 [r2] [])))
theorem FR(a0:ByteArray)(h:dv 19 (CE a0) R):au Tryz.prog 121 [VS a0] [] R :=
 uQ (aj (aD _) aH) (oQ [] Tryz.f121 h)
def zV(a0_0:AV)(a0_1:Int)(a1:AV)(a2:Int):Tree :=
 .test (decide (a2<=(0:Int))) (NL a1<|.test (decide ((a1.aX.length:Int)>(0:Int))) (.call 32 [.ref 0 0,VI 3] [.cells [a0_0,VI a0_1]] fun r1 o1=>.an ((o1.hO)=.cells (o1.hO).cs)<|.an (aO [.lk .sl,.lk (.int .i64)] ((o1.hO).cs) 0 1 o1.tail)<|NI r1<|.test (r1.toInt==(0:Int)) (NL a1<|.call 32 [.ref 0 0,VI (a1.aX.length:Int)] [.cells [((o1.hO).cs.getD 0 .any),VI (((o1.hO).cs.getD 1 .any).toInt)]] fun r2 o2=>.an ((o2.hO)=.cells (o2.hO).cs)<|.an (aO [.lk .sl,.lk (.int .i64)] ((o2.hO).cs) 0 1 o2.tail)<|NI r2<|.an (LK.has .sl a1/\0<=r2.toInt/\r2.toInt<a1.aX.length/\(a1.aX.getD r2.toInt.toNat []).length=1)<|mG (a1.aX.getD r2.toInt.toNat [])<|.done 0 [VS (((a1.aX.getD r2.toInt.toNat []).hA).ah)] [.cells [((o2.hO).cs.getD 0 .any),VI (((o2.hO).cs.getD 1 .any).toInt)]]) (.call 55 [.ref 0 0,.sl [[VS (mk [120])],[VS (mk [49])],[VS (mk [120])],[VS (mk [121])],[VS (mk [48])],[VS (mk [49])]]] [.cells [((o1.hO).cs.getD 0 .any),VI (((o1.hO).cs.getD 1 .any).toInt)]] fun r3 o3=>.an ((o3.hO)=.cells (o3.hO).cs)<|.an (aO [.lk .sl,.lk (.int .i64)] ((o3.hO).cs) 0 1 o3.tail)<|NS r3<|.done 0 [VS r3.ah] [.cells [((o3.hO).cs.getD 0 .any),VI (((o3.hO).cs.getD 1 .any).toInt)]])) (.call 55 [.ref 0 0,.sl [[VS (mk [120])],[VS (mk [49])],[VS (mk [120])],[VS (mk [121])],[VS (mk [48])],[VS (mk [49])]]] [.cells [a0_0,VI a0_1]] fun r4 o4=>.an ((o4.hO)=.cells (o4.hO).cs)<|.an (aO [.lk .sl,.lk (.int .i64)] ((o4.hO).cs) 0 1 o4.tail)<|NS r4<|.done 0 [VS r4.ah] [.cells [((o4.hO).cs.getD 0 .any),VI (((o4.hO).cs.getD 1 .any).toInt)]])) (.call 32 [.ref 0 0,VI 4] [.cells [a0_0,VI a0_1]] fun r5 o5=>.an ((o5.hO)=.cells (o5.hO).cs)<|.an (aO [.lk .sl,.lk (.int .i64)] ((o5.hO).cs) 0 1 o5.tail)<|NI r5<|.test (r5.toInt==(0:Int)) (NL a1<|.test (decide ((a1.aX.length:Int)>(0:Int))) (.call 32 [.ref 0 0,VI 3] [.cells [((o5.hO).cs.getD 0 .any),VI (((o5.hO).cs.getD 1 .any).toInt)]] fun r6 o6=>.an ((o6.hO)=.cells (o6.hO).cs)<|.an (aO [.lk .sl,.lk (.int .i64)] ((o6.hO).cs) 0 1 o6.tail)<|NI r6<|.test (r6.toInt==(0:Int)) (NL a1<|.call 32 [.ref 0 0,VI (a1.aX.length:Int)] [.cells [((o6.hO).cs.getD 0 .any),VI (((o6.hO).cs.getD 1 .any).toInt)]] fun r7 o7=>.an ((o7.hO)=.cells (o7.hO).cs)<|.an (aO [.lk .sl,.lk (.int .i64)] ((o7.hO).cs) 0 1 o7.tail)<|NI r7<|.an (LK.has .sl a1/\0<=r7.toInt/\r7.toInt<a1.aX.length/\(a1.aX.getD r7.toInt.toNat []).length=1)<|mG (a1.aX.getD r7.toInt.toNat [])<|.done 0 [VS (((a1.aX.getD r7.toInt.toNat []).hA).ah)] [.cells [((o7.hO).cs.getD 0 .any),VI (((o7.hO).cs.getD 1 .any).toInt)]]) (.call 55 [.ref 0 0,.sl [[VS (mk [120])],[VS (mk [49])],[VS (mk [120])],[VS (mk [121])],[VS (mk [48])],[VS (mk [49])]]] [.cells [((o6.hO).cs.getD 0 .any),VI (((o6.hO).cs.getD 1 .any).toInt)]] fun r8 o8=>.an ((o8.hO)=.cells (o8.hO).cs)<|.an (aO [.lk .sl,.lk (.int .i64)] ((o8.hO).cs) 0 1 o8.tail)<|NS r8<|.done 0 [VS r8.ah] [.cells [((o8.hO).cs.getD 0 .any),VI (((o8.hO).cs.getD 1 .any).toInt)]])) (.call 55 [.ref 0 0,.sl [[VS (mk [120])],[VS (mk [49])],[VS (mk [120])],[VS (mk [121])],[VS (mk [48])],[VS (mk [49])]]] [.cells [((o5.hO).cs.getD 0 .any),VI (((o5.hO).cs.getD 1 .any).toInt)]] fun r9 o9=>.an ((o9.hO)=.cells (o9.hO).cs)<|.an (aO [.lk .sl,.lk (.int .i64)] ((o9.hO).cs) 0 1 o9.tail)<|NS r9<|.done 0 [VS r9.ah] [.cells [((o9.hO).cs.getD 0 .any),VI (((o9.hO).cs.getD 1 .any).toInt)]])) (.call 32 [.ref 0 0,VI 5] [.cells [((o5.hO).cs.getD 0 .any),VI (((o5.hO).cs.getD 1 .any).toInt)]] fun r10 o10=>.an ((o10.hO)=.cells (o10.hO).cs)<|.an (aO [.lk .sl,.lk (.int .i64)] ((o10.hO).cs) 0 1 o10.tail)<|NI r10<|.test (r10.toInt==(0:Int)) (.call 127 [.ref 0 0,a1,VI (IntKind.wrap .i64 (a2-1))] [.cells [((o10.hO).cs.getD 0 .any),VI (((o10.hO).cs.getD 1 .any).toInt)]] fun r11 o11=>.an ((o11.hO)=.cells (o11.hO).cs)<|.an (aO [.lk .sl,.lk (.int .i64)] ((o11.hO).cs) 0 1 o11.tail)<|NS r11<|.an (ae (mk [40,43,32])+ae r11.ah<=9223372036854775807)<|.an (ae (((mk [40,43,32]):ByteArray)++r11.ah)+ae (mk [32])<=9223372036854775807)<|.call 127 [.ref 0 0,a1,VI (IntKind.wrap .i64 (a2-1))] [.cells [((o11.hO).cs.getD 0 .any),VI (((o11.hO).cs.getD 1 .any).toInt)]] fun r12 o12=>.an ((o12.hO)=.cells (o12.hO).cs)<|.an (aO [.lk .sl,.lk (.int .i64)] ((o12.hO).cs) 0 1 o12.tail)<|NS r12<|.an (ae (((((mk [40,43,32]):ByteArray)++r11.ah):ByteArray)++(mk [32]))+ae r12.ah<=9223372036854775807)<|.an (ae (((((((mk [40,43,32]):ByteArray)++r11.ah):ByteArray)++(mk [32])):ByteArray)++r12.ah)+ae (mk [41])<=9223372036854775807)<|.done 0 [VS (((((((((mk [40,43,32]):ByteArray)++r11.ah):ByteArray)++(mk [32])):ByteArray)++r12.ah):ByteArray)++(mk [41]))] [.cells [((o12.hO).cs.getD 0 .any),VI (((o12.hO).cs.getD 1 .any).toInt)]]) (.test (r10.toInt==(1:Int)) (.call 127 [.ref 0 0,a1,VI (IntKind.wrap .i64 (a2-1))] [.cells [((o10.hO).cs.getD 0 .any),VI (((o10.hO).cs.getD 1 .any).toInt)]] fun r13 o13=>.an ((o13.hO)=.cells (o13.hO).cs)<|.an (aO [.lk .sl,.lk (.int .i64)] ((o13.hO).cs) 0 1 o13.tail)<|NS r13<|.an (ae (mk [40,43,32])+ae r13.ah<=9223372036854775807)<|.an (ae (((mk [40,43,32]):ByteArray)++r13.ah)+ae (mk [32])<=9223372036854775807)<|.call 127 [.ref 0 0,a1,VI (IntKind.wrap .i64 (a2-1))] [.cells [((o13.hO).cs.getD 0 .any),VI (((o13.hO).cs.getD 1 .any).toInt)]] fun r14 o14=>.an ((o14.hO)=.cells (o14.hO).cs)<|.an (aO [.lk .sl,.lk (.int .i64)] ((o14.hO).cs) 0 1 o14.tail)<|NS r14<|.an (ae (((((mk [40,43,32]):ByteArray)++r13.ah):ByteArray)++(mk [32]))+ae r14.ah<=9223372036854775807)<|.an (ae (((((((mk [40,43,32]):ByteArray)++r13.ah):ByteArray)++(mk [32])):ByteArray)++r14.ah)+ae (mk [41])<=9223372036854775807)<|.done 0 [VS (((((((((mk [40,43,32]):ByteArray)++r13.ah):ByteArray)++(mk [32])):ByteArray)++r14.ah):ByteArray)++(mk [41]))] [.cells [((o14.hO).cs.getD 0 .any),VI (((o14.hO).cs.getD 1 .any).toInt)]]) (.test (r10.toInt==(2:Int)) (.call 127 [.ref 0 0,a1,VI (IntKind.wrap .i64 (a2-1))] [.cells [((o10.hO).cs.getD 0 .any),VI (((o10.hO).cs.getD 1 .any).toInt)]] fun r15 o15=>.an ((o15.hO)=.cells (o15.hO).cs)<|.an (aO [.lk .sl,.lk (.int .i64)] ((o15.hO).cs) 0 1 o15.tail)<|NS r15<|.an (ae (mk [40,42,32])+ae r15.ah<=9223372036854775807)<|.an (ae (((mk [40,42,32]):ByteArray)++r15.ah)+ae (mk [32])<=9223372036854775807)<|.call 127 [.ref 0 0,a1,VI (IntKind.wrap .i64 (a2-1))] [.cells [((o15.hO).cs.getD 0 .any),VI (((o15.hO).cs.getD 1 .any).toInt)]] fun r16 o16=>.an ((o16.hO)=.cells (o16.hO).cs)<|.an (aO [.lk .sl,.lk (.int .i64)] ((o16.hO).cs) 0 1 o16.tail)<|NS r16<|.an (ae (((((mk [40,42,32]):ByteArray)++r15.ah):ByteArray)++(mk [32]))+ae r16.ah<=9223372036854775807)<|.an (ae (((((((mk [40,42,32]):ByteArray)++r15.ah):ByteArray)++(mk [32])):ByteArray)++r16.ah)+ae (mk [41])<=9223372036854775807)<|.done 0 [VS (((((((((mk [40,42,32]):ByteArray)++r15.ah):ByteArray)++(mk [32])):ByteArray)++r16.ah):ByteArray)++(mk [41]))] [.cells [((o16.hO).cs.getD 0 .any),VI (((o16.hO).cs.getD 1 .any).toInt)]]) (.test (r10.toInt==(3:Int)) (.call 127 [.ref 0 0,a1,VI (IntKind.wrap .i64 (a2-1))] [.cells [((o10.hO).cs.getD 0 .any),VI (((o10.hO).cs.getD 1 .any).toInt)]] fun r17 o17=>.an ((o17.hO)=.cells (o17.hO).cs)<|.an (aO [.lk .sl,.lk (.int .i64)] ((o17.hO).cs) 0 1 o17.tail)<|NS r17<|.an (ae (mk [40,42,32])+ae r17.ah<=9223372036854775807)<|.an (ae (((mk [40,42,32]):ByteArray)++r17.ah)+ae (mk [32])<=9223372036854775807)<|.call 127 [.ref 0 0,a1,VI (IntKind.wrap .i64 (a2-1))] [.cells [((o17.hO).cs.getD 0 .any),VI (((o17.hO).cs.getD 1 .any).toInt)]] fun r18 o18=>.an ((o18.hO)=.cells (o18.hO).cs)<|.an (aO [.lk .sl,.lk (.int .i64)] ((o18.hO).cs) 0 1 o18.tail)<|NS r18<|.an (ae (((((mk [40,42,32]):ByteArray)++r17.ah):ByteArray)++(mk [32]))+ae r18.ah<=9223372036854775807)<|.an (ae (((((((mk [40,42,32]):ByteArray)++r17.ah):ByteArray)++(mk [32])):ByteArray)++r18.ah)+ae (mk [41])<=9223372036854775807)<|.done 0 [VS (((((((((mk [40,42,32]):ByteArray)++r17.ah):ByteArray)++(mk [32])):ByteArray)++r18.ah):ByteArray)++(mk [41]))] [.cells [((o18.hO).cs.getD 0 .any),VI (((o18.hO).cs.getD 1 .any).toInt)]]) (.call 55 [.ref 0 0,.sl [[VS (mk [116])],[VS (mk [116,49])],[VS (mk [116,48])]]] [.cells [((o10.hO).cs.getD 0 .any),VI (((o10.hO).cs.getD 1 .any).toInt)]] fun r19 o19=>.an ((o19.hO)=.cells (o19.hO).cs)<|.an (aO [.lk .sl,.lk (.int .i64)] ((o19.hO).cs) 0 1 o19.tail)<|NS r19<|.an (ae (mk [40,114,101,99,32])+ae r19.ah<=9223372036854775807)<|.an (ae (((mk [40,114,101,99,32]):ByteArray)++r19.ah)+ae (mk [32,40,43,32,49,32])<=9223372036854775807)<|.call 143 [a1,VS r19.ah] [] fun r20 o20=>NL r20<|.call 127 [.ref 0 0,r20,VI (IntKind.wrap .i64 (a2-1))] [.cells [((o19.hO).cs.getD 0 .any),VI (((o19.hO).cs.getD 1 .any).toInt)]] fun r21 o21=>.an ((o21.hO)=.cells (o21.hO).cs)<|.an (aO [.lk .sl,.lk (.int .i64)] ((o21.hO).cs) 0 1 o21.tail)<|NS r21<|.an (ae (((((mk [40,114,101,99,32]):ByteArray)++r19.ah):ByteArray)++(mk [32,40,43,32,49,32]))+ae r21.ah<=9223372036854775807)<|.an (ae (((((((mk [40,114,101,99,32]):ByteArray)++r19.ah):ByteArray)++(mk [32,40,43,32,49,32])):ByteArray)++r21.ah)+ae (mk [41,41])<=9223372036854775807)<|.done 0 [VS (((((((((mk [40,114,101,99,32]):ByteArray)++r19.ah):ByteArray)++(mk [32,40,43,32,49,32])):ByteArray)++r21.ah):ByteArray)++(mk [41,41]))] [.cells [((o21.hO).cs.getD 0 .any),VI (((o21.hO).cs.getD 1 .any).toInt)]]))))))
theorem CH(a0_0:AV)(a0_1:Int)(a1:AV)(a2:Int)(ha1:LK.has .sl a1)(ha0_0:LK.has .sl a0_0)(h:dv 82 (zV a0_0 a0_1 a1 a2) R):au Tryz.prog 127 [.ref 0 0,a1,VI a2] [.cells [a0_0,VI a0_1]] R :=
 au.rO (cG (dn (aj (bQ ha0_0) (aj (aD _) aH))) dr) (au.up (aj (aD _) (aj (bQ ha1) (aj (aD _) aH))) (oF [] {mu:=[(0,.one (.obj [.lk .sl,.lk (.int .i64)]))],own:=[]} Tryz.f127 h))
def vt(a0_0:ByteArray)(a0_1:AV)(a1:AV):Tree :=
 .call 90 [.agg [VS a0_0,a0_1]] [] fun r1 o1=>NS r1<|.test (ac r1.ah==ac (mk [43])) (NG a0_1 1 2<|NE (a0_1.ix (1:Int))<|.call 128 [.agg [VS (((a0_1.ix (1:Int)).getD 0 .any).ah),((a0_1.ix (1:Int)).getD 1 .any)],a1] [] fun r2 o2=>NB r2<|.test r2.toBool (NG a0_1 2 2<|NE (a0_1.ix (2:Int))<|.call 128 [.agg [VS (((a0_1.ix (2:Int)).getD 0 .any).ah),((a0_1.ix (2:Int)).getD 1 .any)],a1] [] fun r3 o3=>NB r3<|.done 0 [VB r3.toBool] []) (.done 0 [VB false] [])) (.test (ac r1.ah==ac (mk [42])) (NG a0_1 1 2<|NE (a0_1.ix (1:Int))<|.call 128 [.agg [VS (((a0_1.ix (1:Int)).getD 0 .any).ah),((a0_1.ix (1:Int)).getD 1 .any)],a1] [] fun r4 o4=>NB r4<|.test r4.toBool (.done 0 [VB true] []) (NG a0_1 2 2<|NE (a0_1.ix (2:Int))<|.call 128 [.agg [VS (((a0_1.ix (2:Int)).getD 0 .any).ah),((a0_1.ix (2:Int)).getD 1 .any)],a1] [] fun r5 o5=>NB r5<|.done 0 [VB r5.toBool] [])) (.test (ac r1.ah==ac (mk [114,101,99])) (NG a0_1 2 2<|NE (a0_1.ix (2:Int))<|NG a0_1 1 2<|mG (a0_1.ix (1:Int))<|.call 143 [a1,VS (((a0_1.ix (1:Int)).hA).ah)] [] fun r6 o6=>NL r6<|.call 128 [.agg [VS (((a0_1.ix (2:Int)).getD 0 .any).ah),((a0_1.ix (2:Int)).getD 1 .any)],r6] [] fun r7 o7=>NB r7<|.done 0 [VB r7.toBool] []) (.test (ac a0_0==ac (mk [48])) (.done 0 [VB true] []) (.call 142 [a1,VS a0_0] [] fun r8 o8=>NB r8<|.done 0 [VB r8.toBool] []))))
theorem xC(a0_0:ByteArray)(a0_1:AV)(a1:AV)(ha0_1:LK.has .sl a0_1)(ha1:LK.has .sl a1)(h:dv 62 (vt a0_0 a0_1 a1) R):au Tryz.prog 128 [.agg [VS a0_0,a0_1],a1] [] R :=
 uQ (aj (cv (aj (aD _) (aj (bQ ha0_1) aH))) (aj (bQ ha1) aH)) (oQ [] Tryz.f128 h)
def Aq:LI:={hd:={cb:=[(3,.k (.int .i64)),(4,.k (.int .i64))],refs:=[(1,1)],cw:=[(1,[.lk .str,.lk .sl])]},xs:={cb:=[(3,.k (.int .i64))]},rt:={},ex:=0}
def Cl:Code:=dV (dU Tryz.f129) 5
def EW:List (Nat×LI):=[(5,Aq)]
def Ag(a0_0:ByteArray)(a0_1:AV):Tree :=
 .test (!(ac a0_0==ac (mk []))) (.done 0 [VI 1] []) (.loop Cl Aq [VI 0,VI 0] [.cells [VS a0_0,a0_1]] (fun y2 q2=>NI (y2.hA)<|.done 0 [VI ((y2.hA).toInt)] []) (fun y2 q2=>.done 0 [.any] []))
theorem DY(a0_0:ByteArray)(a0_1:AV)(ha0_1:LK.has .sl a0_1)(h:dv 24 (Ag a0_0 a0_1) R):au Tryz.prog 129 [.agg [VS a0_0,a0_1]] [] R :=
 uQ (aj (cv (aj (aD _) (aj (bQ ha0_1) aH))) aH) (oQ EW Tryz.f129 h)
def Bc(x3:Int)(x4:Int)(o1_0:ByteArray)(o1_1:AV):Tree :=
 NI (VI x3)<|NI (VI x4)<|.an (Ob.cells [VS o1_0,o1_1]=.cells [VS o1_0,o1_1])<|.an (ag [.lk .str,.lk .sl] [VS o1_0,o1_1] 0 [])<|NL o1_1<|.test (decide (x4<(o1_1.aX.length:Int))) (NG o1_1 x4 2<|NE (o1_1.ix x4)<|.call 129 [.agg [VS (((o1_1.ix x4).getD 0 .any).ah),((o1_1.ix x4).getD 1 .any)]] [] fun r1 o1=>NI r1<|.done 0 [VI (IntKind.wrap .i64 (x3+r1.toInt)),VI (IntKind.wrap .i64 (x4+1))] [.cells [VS o1_0,o1_1]]) (.done 1 [VI x3] [])
abbrev Bd:=cS Tryz.prog 24 Cl Aq
theorem EJ(x3:Int)(x4:Int)(o1_0:ByteArray)(o1_1:AV)(h:pk 24 (Bc x3 x4 o1_0 o1_1) Bd U):Bd [VI x3,VI x4] [.cells [VS o1_0,o1_1]] U :=
 gQ EW h
def DI(a0_0:ByteArray)(a0_1:AV):Tree :=
 NG a0_1 1 2<|mG (a0_1.ix (1:Int))<|NG a0_1 2 2<|NE (a0_1.ix (2:Int))<|.call 162 [.agg [VS (((a0_1.ix (2:Int)).getD 0 .any).ah),((a0_1.ix (2:Int)).getD 1 .any)],VS (((a0_1.ix (1:Int)).hA).ah),.agg [VS a0_0,a0_1]] [] fun r1 o1=>NB r1<|.test (!r1.toBool) (.done 0 [.cm [.agg [VS a0_0,a0_1],VB false]] []) (NG a0_1 2 2<|NE (a0_1.ix (2:Int))<|.call 163 [.agg [VS (((a0_1.ix (2:Int)).getD 0 .any).ah),((a0_1.ix (2:Int)).getD 1 .any)],VS (((a0_1.ix (1:Int)).hA).ah),.agg [VS a0_0,a0_1]] [] fun r2 o2=>NA r2<|.done 0 [.cm [.agg [VS ((r2.cs.getD 0 .any).ah),(r2.cs.getD 1 .any)],VB true]] [])
theorem FE(a0_0:ByteArray)(a0_1:AV)(ha0_1:LK.has .sl a0_1)(h:dv 26 (DI a0_0 a0_1) R):au Tryz.prog 130 [.agg [VS a0_0,a0_1]] [] R :=
 uQ (aj (cv (aj (aD _) (aj (bQ ha0_1) aH))) aH) (oQ [] Tryz.f130 h)
def AE:LI:={hd:={cb:=[(1,.k .sl),(2,.k .sl),(9,.k (.int .i64))],refs:=[(4,4),(8,8)],cw:=[(4,[.lk .str,.lk .sl]),(8,[.lk .str,.lk .sl]),(0,[.vec 1,.lk (.int .i64)])]},xs:={refs:=[(4,4),(8,8)],cw:=[(4,[.lk .str,.lk .sl]),(8,[.lk .str,.lk .sl]),(0,[.vec 1,.lk (.int .i64)])]},rt:={refs:=[(8,8)],cw:=[(8,[.lk .str,.lk .sl]),(0,[.vec 1,.lk (.int .i64)])]},ex:=0,fx:=[0]}
def Dt:Code:=dV (dU Tryz.f131) 3
def zF:LI:={hd:={cb:=[(1,.k .sl),(2,.k .sl),(10,.k .str)],refs:=[(3,0),(4,4),(8,8)],cw:=[(0,[.vec 1,.lk (.int .i64)]),(4,[.lk .str,.lk .sl]),(8,[.lk .str,.lk .sl])]},xs:={cb:=[(1,.k .sl),(2,.k .sl),(10,.k .str)],refs:=[(3,0),(4,4),(8,8)],cw:=[(0,[.vec 1,.lk (.int .i64)]),(4,[.lk .str,.lk .sl]),(8,[.lk .str,.lk .sl])]},rt:={cw:=[(0,[.vec 1,.lk (.int .i64)])]},ex:=2,fx:=[0]}
def Dl:Code:=dV (dU Tryz.f131) 10
def A9:List (Nat×LI):=[(3,AE),(10,zF)]
def vJ(a0_0:ByteArray)(a0_1:AV)(a1:AV)(a2:AV)(e3_0:List (List AV))(a3_1:Int):Tree :=
 .test (!(ac a0_0==ac (mk []))) (NL a1<|.loop Dt AE [a1,a2,VI (IntKind.wrap .i64 ((a1.aX.length:Int)-1))] [.cells [VS a0_0,a0_1],.cells [VS (mk []),.v (.slice none 0 0)],.cells [.any,VI a3_1],.vec 1 e3_0] (fun y1 q1=>.an ((q1.hO)=.cells (q1.hO).cs)<|.an (ag [.lk .str,.lk .sl] ((q1.hO).cs) 0 q1.tail)<|.an (((q1.tail.drop 0).hO)=.cells ((q1.tail.drop 0).hO).cs)<|.an (ag [.lk .str,.lk .sl] (((q1.tail.drop 0).hO).cs) 0 ((q1.tail.drop 0).tail))<|.an ((((q1.tail.drop 0).tail.drop 0).hO)=.cells (((q1.tail.drop 0).tail.drop 0).hO).cs)<|.an (ag [.vec 1,.lk (.int .i64)] ((((q1.tail.drop 0).tail.drop 0).hO).cs) 0 (((q1.tail.drop 0).tail.drop 0).tail))<|.done 0 [.agg [VS (((q1.hO).cs.getD 0 .any).ah),((q1.hO).cs.getD 1 .any)]] [.cells [.vec 1,VI (((q1.tail.tail.hO).cs.getD 1 .any).toInt)],.vec 1 ((q1.tail.tail.tail.hO).es)]) (fun y1 q1=>.an ((q1.hO)=.cells (q1.hO).cs)<|.an (ag [.lk .str,.lk .sl] ((q1.hO).cs) 0 q1.tail)<|.an (((q1.tail.drop 0).hO)=.cells ((q1.tail.drop 0).hO).cs)<|.an (ag [.vec 1,.lk (.int .i64)] (((q1.tail.drop 0).hO).cs) 0 ((q1.tail.drop 0).tail))<|.done 0 [.agg [VS (((q1.hO).cs.getD 0 .any).ah),((q1.hO).cs.getD 1 .any)]] [.cells [.vec 1,VI (((q1.tail.hO).cs.getD 1 .any).toInt)],.vec 1 ((q1.tail.tail.hO).es)])) (.call 90 [.agg [VS a0_0,a0_1]] [] fun r2 o2=>NS r2<|.test (ac r2.ah==ac (mk [114,101,99])) (.call 54 [VI a3_1] [] fun r3 o3=>NS r3<|.an (ae (mk [116])+ae r3.ah<=9223372036854775807)<|.loop Dl zF [a1,a2,VS (((mk [116]):ByteArray)++r3.ah)] [.cells [.any,VI a3_1],.vec 1 e3_0,.cells [VS a0_0,a0_1],.cells [VS (mk []),.v (.slice none 0 0)]] (fun y6 q6=>NL (y6.hA)<|NL (y6.tail.hA)<|NS (y6.tail.tail.hA)<|.an ((q6.hO)=.cells (q6.hO).cs)<|.an (ag [.vec 1,.lk (.int .i64)] ((q6.hO).cs) 0 q6.tail)<|.an (((q6.tail.drop 1).hO)=.cells ((q6.tail.drop 1).hO).cs)<|.an (ag [.lk .str,.lk .sl] (((q6.tail.drop 1).hO).cs) 0 ((q6.tail.drop 1).tail))<|.an ((((q6.tail.drop 1).tail.drop 0).hO)=.cells (((q6.tail.drop 1).tail.drop 0).hO).cs)<|.an (ag [.lk .str,.lk .sl] ((((q6.tail.drop 1).tail.drop 0).hO).cs) 0 (((q6.tail.drop 1).tail.drop 0).tail))<|NG ((q6.tail.tail.hO).cs.getD 1 .any) 2 2<|NE (((q6.tail.tail.hO).cs.getD 1 .any).ix (2:Int))<|NG ((q6.tail.tail.hO).cs.getD 1 .any) 1 2<|mG (((q6.tail.tail.hO).cs.getD 1 .any).ix (1:Int))<|.call 143 [(y6.hA),VS (((((q6.tail.tail.hO).cs.getD 1 .any).ix (1:Int)).hA).ah)] [] fun r7 o7=>NL r7<|.call 143 [(y6.tail.hA),VS ((y6.tail.tail.hA).ah)] [] fun r8 o8=>NL r8<|.call 131 [.agg [VS (((((q6.tail.tail.hO).cs.getD 1 .any).ix (2:Int)).getD 0 .any).ah),((((q6.tail.tail.hO).cs.getD 1 .any).ix (2:Int)).getD 1 .any)],r7,r8,.ref 0 0] [.cells [.vec 1,VI (IntKind.wrap .i64 ((((q6.hO).cs.getD 1 .any).toInt)+1))],.vec 1 ((q6.tail.hO).es)] fun r9 o9=>.an ((o9.hO)=.cells (o9.hO).cs)<|.an (aO [.vec 1,.lk (.int .i64)] ((o9.hO).cs) 0 1 o9.tail)<|NA r9<|.call 69 [VS (mk [114,101,99]),.sl [[VS ((y6.tail.tail.hA).ah),.v (.slice none 0 0)],[VS ((r9.cs.getD 0 .any).ah),(r9.cs.getD 1 .any)]]] [] fun r10 o10=>NA r10<|.done 0 [.agg [VS ((r10.cs.getD 0 .any).ah),(r10.cs.getD 1 .any)]] [.cells [.vec 1,VI (((o9.hO).cs.getD 1 .any).toInt)],.vec 1 ((o9.tail.hO).es)]) (fun y6 q6=>.an ((q6.hO)=.cells (q6.hO).cs)<|.an (ag [.vec 1,.lk (.int .i64)] ((q6.hO).cs) 0 q6.tail)<|.fail)) (NG a0_1 1 2<|NE (a0_1.ix (1:Int))<|.call 131 [.agg [VS (((a0_1.ix (1:Int)).getD 0 .any).ah),((a0_1.ix (1:Int)).getD 1 .any)],a1,a2,.ref 0 0] [.cells [.vec 1,VI a3_1],.vec 1 e3_0] fun r11 o11=>.an ((o11.hO)=.cells (o11.hO).cs)<|.an (aO [.vec 1,.lk (.int .i64)] ((o11.hO).cs) 0 1 o11.tail)<|NA r11<|.call 90 [.agg [VS a0_0,a0_1]] [] fun r12 o12=>NS r12<|NG a0_1 2 2<|NE (a0_1.ix (2:Int))<|.call 131 [.agg [VS (((a0_1.ix (2:Int)).getD 0 .any).ah),((a0_1.ix (2:Int)).getD 1 .any)],a1,a2,.ref 0 0] [.cells [.vec 1,VI (((o11.hO).cs.getD 1 .any).toInt)],.vec 1 ((o11.tail.hO).es)] fun r13 o13=>.an ((o13.hO)=.cells (o13.hO).cs)<|.an (aO [.vec 1,.lk (.int .i64)] ((o13.hO).cs) 0 1 o13.tail)<|NA r13<|.call 69 [VS r12.ah,.sl [[VS ((r11.cs.getD 0 .any).ah),(r11.cs.getD 1 .any)],[VS ((r13.cs.getD 0 .any).ah),(r13.cs.getD 1 .any)]]] [] fun r14 o14=>NA r14<|.done 0 [.agg [VS ((r14.cs.getD 0 .any).ah),(r14.cs.getD 1 .any)]] [.cells [.vec 1,VI (((o13.hO).cs.getD 1 .any).toInt)],.vec 1 ((o13.tail.hO).es)]))
theorem xw(a0_0:ByteArray)(a0_1:AV)(a1:AV)(a2:AV)(e3_0:List (List AV))(a3_1:Int)(ha0_1:LK.has .sl a0_1)(ha1:LK.has .sl a1)(ha2:LK.has .sl a2)(h:dv 113 (vJ a0_0 a0_1 a1 a2 e3_0 a3_1) R):au Tryz.prog 131 [.agg [VS a0_0,a0_1],a1,a2,.ref 0 0] [.cells [.vec 1,VI a3_1],.vec 1 e3_0] R :=
 au.rO (cG (dn (aj (aD _) (aj (aD _) aH))) (cG (kX _) dr)) (au.up (aj (cv (aj (aD _) (aj (bQ ha0_1) aH))) (aj (bQ ha1) (aj (bQ ha2) (aj (aD _) aH)))) (oF A9 {mu:=[(3,.one (.obj [.vec 1,.lk (.int .i64)]))],own:=[]} Tryz.f131 h))
def zO(x1:AV)(x2:AV)(x9:Int)(o4_0:ByteArray)(o4_1:AV)(o8_0:ByteArray)(o8_1:AV)(o0_0:List (List AV))(o0_1:Int):Tree :=
 NL x1<|NL x2<|NI (VI x9)<|.an (Ob.cells [VS o4_0,o4_1]=.cells [VS o4_0,o4_1])<|.an (ag [.lk .str,.lk .sl] [VS o4_0,o4_1] 0 [.cells [VS o8_0,o8_1],.cells [.any,VI o0_1],.vec 1 o0_0])<|.an (Ob.cells [VS o8_0,o8_1]=.cells [VS o8_0,o8_1])<|.an (ag [.lk .str,.lk .sl] [VS o8_0,o8_1] 0 [.cells [.any,VI o0_1],.vec 1 o0_0])<|.an (Ob.cells [.any,VI o0_1]=.cells [.any,VI o0_1])<|.an (ag [.vec 1,.lk (.int .i64)] [.any,VI o0_1] 0 [.vec 1 o0_0])<|.test (decide (x9≥(0:Int))) (NG x1 x9 1<|mG (x1.ix x9)<|.test (ac (((x1.ix x9).hA).ah)==ac o4_0) (NG x2 x9 1<|mG (x2.ix x9)<|.done 2 [] [.cells [VS (((x2.ix x9).hA).ah),.v (.slice none 0 0)],.cells [.any,VI o0_1],.vec 1 o0_0]) (.done 0 [x1,x2,VI (IntKind.wrap .i64 (x9-1))] [.cells [VS o4_0,o4_1],.cells [VS o8_0,o8_1],.cells [.any,VI o0_1],.vec 1 o0_0])) (.done 1 [] [.cells [VS o4_0,o4_1],.cells [VS o8_0,o8_1],.cells [.any,VI o0_1],.vec 1 o0_0])
abbrev zG:=cS Tryz.prog 113 Dt AE
theorem ET(x1:AV)(x2:AV)(x9:Int)(o4_0:ByteArray)(o4_1:AV)(o8_0:ByteArray)(o8_1:AV)(o0_0:List (List AV))(o0_1:Int)(h:pk 113 (zO x1 x2 x9 o4_0 o4_1 o8_0 o8_1 o0_0 o0_1) zG U):zG [x1,x2,VI x9] [.cells [VS o4_0,o4_1],.cells [VS o8_0,o8_1],.cells [.any,VI o0_1],.vec 1 o0_0] U :=
 gQ A9 h
def Dz(x1:AV)(x2:AV)(x10:ByteArray)(o0_0:List (List AV))(o0_1:Int)(o4_0:ByteArray)(o4_1:AV)(o8_0:ByteArray)(o8_1:AV):Tree :=
 NL x1<|NL x2<|NS (VS x10)<|.an (Ob.cells [.any,VI o0_1]=.cells [.any,VI o0_1])<|.an (ag [.vec 1,.lk (.int .i64)] [.any,VI o0_1] 0 [.vec 1 o0_0,.cells [VS o4_0,o4_1],.cells [VS o8_0,o8_1]])<|.an (Ob.cells [VS o4_0,o4_1]=.cells [VS o4_0,o4_1])<|.an (ag [.lk .str,.lk .sl] [VS o4_0,o4_1] 0 [.cells [VS o8_0,o8_1]])<|.an (Ob.cells [VS o8_0,o8_1]=.cells [VS o8_0,o8_1])<|.an (ag [.lk .str,.lk .sl] [VS o8_0,o8_1] 0 [])<|.call 142 [.sl o0_0,VS x10] [] fun r1 o1=>NB r1<|.test r1.toBool (.call 54 [VI (IntKind.wrap .i64 (o0_1+1))] [] fun r2 o2=>NS r2<|.an (ae (mk [116])+ae r2.ah<=9223372036854775807)<|.done 0 [x1,x2,VS (((mk [116]):ByteArray)++r2.ah)] [.cells [.any,VI (IntKind.wrap .i64 (o0_1+1))],.vec 1 o0_0,.cells [VS o4_0,o4_1],.cells [VS o8_0,o8_1]]) (.done 1 [x1,x2,VS x10] [.cells [.any,VI o0_1],.vec 1 o0_0,.cells [VS o4_0,o4_1],.cells [VS o8_0,o8_1]])
abbrev A3:=cS Tryz.prog 113 Dl zF
theorem FL(x1:AV)(x2:AV)(x10:ByteArray)(o0_0:List (List AV))(o0_1:Int)(o4_0:ByteArray)(o4_1:AV)(o8_0:ByteArray)(o8_1:AV)(h:pk 113 (Dz x1 x2 x10 o0_0 o0_1 o4_0 o4_1 o8_0 o8_1) A3 U):A3 [x1,x2,VS x10] [.cells [.any,VI o0_1],.vec 1 o0_0,.cells [VS o4_0,o4_1],.cells [VS o8_0,o8_1]] U :=
 gQ A9 h
def CF(a0:AV):Tree :=
 .call 165 [a0] [] fun r1 o1=>NL r1<|.call 164 [r1,.v (.func (.func 166) #[] #[])] [] fun r2 o2=>NB r2<|.done 0 [VB (!r2.toBool)] []
theorem FA(a0:AV)(ha0:LK.has .ptr a0)(h:dv 7 (CF a0) R):au Tryz.prog 132 [a0] [] R :=
 uQ (aj (cD ha0) aH) (oQ [] Tryz.f132 h)
def AM:LI:={hd:={cb:=[(3,.k .ptr),(10,.k (.int .i64)),(11,.k (.int .i64))]},xs:={cb:=[(3,.k .ptr)]},rt:={},ex:=0}
def Ev:Code:=dV (dU Tryz.f133) 3
def Bv:List (Nat×LI):=[(3,AM)]
def D0(a0_0:AV)(a0_1:AV):Tree :=
 NZ a0_0<|NZ a0_0<|.an (LK.has (.int .i64) ((a0_0.deref.drop 2).hA)/\1<=(a0_0.deref.drop 2).length)<|.loop Ev AM [a0_1,VI (((a0_0.deref.drop 2).hA).toInt),VI 0] [] (fun y1 q1=>NP (y1.hA)<|NZ (y1.hA)<|NZ (y1.hA)<|.an (LK.has .ptr ((y1.hA).deref.hA)/\1<=((y1.hA).deref).length)<|.done 0 [((y1.hA).deref.hA)] []) (fun y1 q1=>.done 0 [.any] [])
theorem GC(a0_0:AV)(a0_1:AV)(ha0_0:LK.has .ptr a0_0)(ha0_1:LK.has .ptr a0_1)(h:dv 22 (D0 a0_0 a0_1) R):au Tryz.prog 133 [.agg [a0_0,a0_1]] [] R :=
 uQ (aj (cv (aj (cD ha0_0) (aj (cD ha0_1) aH))) aH) (oQ Bv Tryz.f133 h)
def AW(x3:AV)(x10:Int)(x11:Int):Tree :=
 NP x3<|NI (VI x10)<|NI (VI x11)<|.test (decide (x11<x10)) (NZ x3<|NZ x3<|er (x3.deref.drop 1)<|.done 0 [((x3.deref.drop 1).hA),VI x10,VI (IntKind.wrap .i64 (x11+1))] []) (.done 1 [x3] [])
abbrev Ai:=cS Tryz.prog 22 Ev AM
theorem Dm(x3:AV)(x10:Int)(x11:Int)(h:pk 22 (AW x3 x10 x11) Ai U):Ai [x3,VI x10,VI x11] [] U :=
 gQ Bv h
def Bb(a0_0:ByteArray)(a0_1:AV):Tree :=
 .test (!(ac a0_0==ac (mk []))) (.test (ac a0_0==ac (mk [48])) (.done 0 [VB true] []) (.test (ac a0_0==ac (mk [49])) (.done 0 [VB true] []) (.call 100 [VS a0_0] [] fun r1 o1=>NB r1<|.test r1.toBool (.done 0 [VB true] []) (.call 99 [VS a0_0] [] fun r2 o2=>NB r2<|.done 0 [VB r2.toBool] [])))) (NL a0_1<|.test ((a0_1.aX.length:Int) != (3:Int)) (.done 0 [VB false] []) (.call 90 [.agg [VS a0_0,a0_1]] [] fun r3 o3=>NS r3<|.test (ac r3.ah==ac (mk [43])) (NG a0_1 1 2<|NE (a0_1.ix (1:Int))<|.call 136 [.agg [VS (((a0_1.ix (1:Int)).getD 0 .any).ah),((a0_1.ix (1:Int)).getD 1 .any)]] [] fun r4 o4=>NB r4<|.test r4.toBool (NG a0_1 2 2<|NE (a0_1.ix (2:Int))<|.call 136 [.agg [VS (((a0_1.ix (2:Int)).getD 0 .any).ah),((a0_1.ix (2:Int)).getD 1 .any)]] [] fun r5 o5=>NB r5<|.done 0 [VB r5.toBool] []) (.done 0 [VB false] [])) (.test (ac r3.ah==ac (mk [42])) (NG a0_1 1 2<|NE (a0_1.ix (1:Int))<|.call 136 [.agg [VS (((a0_1.ix (1:Int)).getD 0 .any).ah),((a0_1.ix (1:Int)).getD 1 .any)]] [] fun r6 o6=>NB r6<|.test r6.toBool (NG a0_1 2 2<|NE (a0_1.ix (2:Int))<|.call 136 [.agg [VS (((a0_1.ix (2:Int)).getD 0 .any).ah),((a0_1.ix (2:Int)).getD 1 .any)]] [] fun r7 o7=>NB r7<|.done 0 [VB r7.toBool] []) (.done 0 [VB false] [])) (.test (ac r3.ah==ac (mk [114,101,99])) (NG a0_1 1 2<|mG (a0_1.ix (1:Int))<|.call 99 [VS (((a0_1.ix (1:Int)).hA).ah)] [] fun r8 o8=>NB r8<|.test r8.toBool (NG a0_1 2 2<|NE (a0_1.ix (2:Int))<|.call 136 [.agg [VS (((a0_1.ix (2:Int)).getD 0 .any).ah),((a0_1.ix (2:Int)).getD 1 .any)]] [] fun r9 o9=>NB r9<|.done 0 [VB r9.toBool] []) (.done 0 [VB false] [])) (.done 0 [VB false] [])))))
theorem DP(a0_0:ByteArray)(a0_1:AV)(ha0_1:LK.has .sl a0_1)(h:dv 60 (Bb a0_0 a0_1) R):au Tryz.prog 136 [.agg [VS a0_0,a0_1]] [] R :=
 uQ (aj (cv (aj (aD _) (aj (bQ ha0_1) aH))) aH) (oQ [] Tryz.f136 h)
def zz:LI:={hd:={cb:=[(0,.k .str),(1,.k (.int .i64)),(9,.k (.int .i64))],refs:=[(6,6),(8,8)],cw:=[(6,[.lk .str,.lk .sl]),(8,[.lk .str,.lk .sl])]},xs:={cb:=[(0,.k .str),(1,.k (.int .i64)),(9,.k (.int .i64))],refs:=[(6,6),(8,8)],cw:=[(6,[.lk .str,.lk .sl]),(8,[.lk .str,.lk .sl])]},rt:={},ex:=0}
def Ds:Code:=dV (dU Tryz.f137) 6
def zg:LI:={hd:={cb:=[(0,.k .str),(1,.k (.int .i64)),(2,.k (.int .i64))],refs:=[(6,6),(8,8)],cw:=[(6,[.lk .str,.lk .sl]),(8,[.lk .str,.vec 2])]},xs:={},rt:={cb:=[(7,.k (.int .i64))],refs:=[(6,6)],cw:=[(6,[.lk .str,.vec 2])]},ex:=999}
def CY:Code:=dV (dU Tryz.f137) 12
def A2:List (Nat×LI):=[(6,zz),(12,zg)]
def AY(a0:ByteArray)(a1:Int)(a2:Int):Tree :=
 .test (decide (a2>(300:Int))) (.done 0 [.cm [.agg [VS (mk []),.v (.slice none 0 0)],VI (-1)]] []) (.test (decide (a1≥(ae a0:Int))) (.done 0 [.cm [.agg [VS (mk []),.v (.slice none 0 0)],VI (-1)]] []) (.an (0<=a1/\a1<ae a0)<|.test ((bt a0 a1) != (40:Int)) (.loop Ds zz [VS a0,VI a1,VI a1] [.cells [VS (mk []),.v (.slice none 0 0)],.cells [VS (mk []),.v (.slice none 0 0)]] (fun y2 q2=>NS (y2.hA)<|NI (y2.tail.hA)<|NI (y2.tail.tail.hA)<|.an ((q2.hO)=.cells (q2.hO).cs)<|.an (ag [.lk .str,.lk .sl] ((q2.hO).cs) 0 q2.tail)<|.an (((q2.tail.drop 0).hO)=.cells ((q2.tail.drop 0).hO).cs)<|.an (ag [.lk .str,.lk .sl] (((q2.tail.drop 0).hO).cs) 0 ((q2.tail.drop 0).tail))<|.an (0<=((y2.tail.tail.hA).toInt)/\((y2.tail.tail.hA).toInt)<=((y2.tail.hA).toInt)/\((y2.tail.hA).toInt)<=(ae ((y2.hA).ah):Int))<|.test (ac (bn ((y2.hA).ah) (bk ((y2.tail.tail.hA).toInt)) (bk ((y2.tail.hA).toInt)))==ac (mk [])) (.done 0 [.cm [.agg [VS (bn ((y2.hA).ah) (bk ((y2.tail.tail.hA).toInt)) (bk ((y2.tail.hA).toInt))),((q2.tail.hO).cs.getD 1 .any)],VI (-1)]] []) (.done 0 [.cm [.agg [VS (bn ((y2.hA).ah) (bk ((y2.tail.tail.hA).toInt)) (bk ((y2.tail.hA).toInt))),((q2.tail.hO).cs.getD 1 .any)],VI ((y2.tail.hA).toInt)]] [])) (fun y2 q2=>.fail)) (.loop CY zg [VS a0,VI a1,VI a2] [.cells [VS (mk []),.v (.slice none 0 0)],.cells [VS (mk []),.any],.vec 2 []] (fun y5 q5=>.fail) (fun y5 q5=>NI (y5.hA)<|.an ((q5.hO)=.cells (q5.hO).cs)<|.an (ag [.lk .str,.vec 2] ((q5.hO).cs) 0 q5.tail)<|.done 0 [.cm [.agg [VS (((q5.hO).cs.getD 0 .any).ah),.sl ((q5.tail.hO).es)],VI ((y5.hA).toInt)]] []))))
theorem Cm(a0:ByteArray)(a1:Int)(a2:Int)(h:dv 87 (AY a0 a1 a2) R):au Tryz.prog 137 [VS a0,VI a1,VI a2] [] R :=
 uQ (aj (aD _) (aj (aD _) (aj (aD _) aH))) (oQ A2 Tryz.f137 h)
def zI(x0:ByteArray)(x1:Int)(x9:Int)(o6_0:ByteArray)(o6_1:AV)(o8_0:ByteArray)(o8_1:AV):Tree :=
 NS (VS x0)<|NI (VI x1)<|NI (VI x9)<|.an (Ob.cells [VS o6_0,o6_1]=.cells [VS o6_0,o6_1])<|.an (ag [.lk .str,.lk .sl] [VS o6_0,o6_1] 0 [.cells [VS o8_0,o8_1]])<|.an (Ob.cells [VS o8_0,o8_1]=.cells [VS o8_0,o8_1])<|.an (ag [.lk .str,.lk .sl] [VS o8_0,o8_1] 0 [])<|.test (decide (x1<(ae x0:Int))) (.an (0<=x1/\x1<ae x0)<|.call 172 [.v (.int .u8 (bt x0 x1))] [] fun r1 o1=>NB r1<|.test r1.toBool (.done 0 [VS x0,VI (IntKind.wrap .i64 (x1+1)),VI x9] [.cells [VS o6_0,o6_1],.cells [VS o8_0,o8_1]]) (.done 1 [VS x0,VI x1,VI x9] [.cells [VS o6_0,o6_1],.cells [VS o8_0,o8_1]])) (.done 1 [VS x0,VI x1,VI x9] [.cells [VS o6_0,o6_1],.cells [VS o8_0,o8_1]])
abbrev zu:=cS Tryz.prog 87 Ds zz
theorem DA(x0:ByteArray)(x1:Int)(x9:Int)(o6_0:ByteArray)(o6_1:AV)(o8_0:ByteArray)(o8_1:AV)(h:pk 87 (zI x0 x1 x9 o6_0 o6_1 o8_0 o8_1) zu U):zu [VS x0,VI x1,VI x9] [.cells [VS o6_0,o6_1],.cells [VS o8_0,o8_1]] U :=
 gQ A2 h
def CU(x0:ByteArray)(x1:Int)(x2:Int)(o6_0:ByteArray)(o6_1:AV)(o8_0:ByteArray)(o8_1:List (List AV)):Tree :=
 NS (VS x0)<|NI (VI x1)<|NI (VI x2)<|.an (Ob.cells [VS o6_0,o6_1]=.cells [VS o6_0,o6_1])<|.an (ag [.lk .str,.lk .sl] [VS o6_0,o6_1] 0 [.cells [VS o8_0,.any],.vec 2 o8_1])<|.an (Ob.cells [VS o8_0,.any]=.cells [VS o8_0,.any])<|.an (ag [.lk .str,.vec 2] [VS o8_0,.any] 0 [.vec 2 o8_1])<|.call 137 [VS x0,VI (IntKind.wrap .i64 (x1+1)),VI (IntKind.wrap .i64 (x2+1))] [] fun r1 o1=>NT r1<|.an ((r1.comp 0)=.agg (r1.comp 0).cs/\(r1.comp 0).cs.length=2/\cd [.str,.sl] ((r1.comp 0).cs) 0)<|NI (r1.comp 1)<|.test (decide (((r1.comp 1).toInt)<(0:Int))) (.done 2 [VI (-1)] [.cells [VS o8_0,.any],.vec 2 o8_1]) (.test (decide (((r1.comp 1).toInt)≥(ae x0:Int))) (.done 2 [VI (-1)] [.cells [VS o8_0,.any],.vec 2 o8_1]) (.an (di 2 [[VS (((r1.comp 0).cs.getD 0 .any).ah),((r1.comp 0).cs.getD 1 .any)]]/\((o8_1.length)+([[VS (((r1.comp 0).cs.getD 0 .any).ah),((r1.comp 0).cs.getD 1 .any)]]:List (List AV)).length)*40<=140737488355328)<|.an (0<=((r1.comp 1).toInt)/\((r1.comp 1).toInt)<ae x0)<|.test ((bt x0 ((r1.comp 1).toInt))==(41:Int)) (.done 2 [VI (IntKind.wrap .i64 (((r1.comp 1).toInt)+1))] [.cells [VS o8_0,.any],.vec 2 (o8_1++([[VS (((r1.comp 0).cs.getD 0 .any).ah),((r1.comp 0).cs.getD 1 .any)]]:List (List AV)))]) (.an (0<=((r1.comp 1).toInt)/\((r1.comp 1).toInt)<ae x0)<|.test ((bt x0 ((r1.comp 1).toInt)) != (32:Int)) (.done 2 [VI (-1)] [.cells [VS o8_0,.any],.vec 2 (o8_1++([[VS (((r1.comp 0).cs.getD 0 .any).ah),((r1.comp 0).cs.getD 1 .any)]]:List (List AV)))]) (.done 0 [VS x0,VI ((r1.comp 1).toInt),VI x2] [.cells [VS o6_0,o6_1],.cells [VS o8_0,.any],.vec 2 (o8_1++([[VS (((r1.comp 0).cs.getD 0 .any).ah),((r1.comp 0).cs.getD 1 .any)]]:List (List AV)))]))))
abbrev z8:=cS Tryz.prog 87 CY zg
theorem Gc(x0:ByteArray)(x1:Int)(x2:Int)(o6_0:ByteArray)(o6_1:AV)(o8_0:ByteArray)(o8_1:List (List AV))(h:pk 87 (CU x0 x1 x2 o6_0 o6_1 o8_0 o8_1) z8 U):z8 [VS x0,VI x1,VI x2] [.cells [VS o6_0,o6_1],.cells [VS o8_0,.any],.vec 2 o8_1] U :=
 gQ A2 h
def zb:LI:={hd:={cb:=[(1,.k .sl),(6,.k (.int .i64))],refs:=[(2,2),(4,4)],cw:=[(2,[.lk .str,.lk .sl]),(4,[.lk .str,.lk .sl])]},xs:={cb:=[(1,.k .sl)],refs:=[(2,2),(4,4)],cw:=[(2,[.lk .str,.lk .sl]),(4,[.lk .str,.lk .sl])]},rt:={cb:=[(5,.k .sl)],refs:=[(4,4)],cw:=[(4,[.lk .str,.lk .sl])]},ex:=0}
def BL:Code:=dV (dU Tryz.f138) 2
def CQ:List (Nat×LI):=[(2,zb)]
def Bw(a0_0:ByteArray)(a0_1:AV)(a1:AV):Tree :=
 NL a1<|.loop BL zb [a1,VI (IntKind.wrap .i64 ((a1.aX.length:Int)-1))] [.cells [VS a0_0,a0_1],.cells [VS (mk []),.v (.slice none 0 0)]] (fun y1 q1=>NL (y1.hA)<|.an ((q1.hO)=.cells (q1.hO).cs)<|.an (ag [.lk .str,.lk .sl] ((q1.hO).cs) 0 q1.tail)<|.an (((q1.tail.drop 0).hO)=.cells ((q1.tail.drop 0).hO).cs)<|.an (ag [.lk .str,.lk .sl] (((q1.tail.drop 0).hO).cs) 0 ((q1.tail.drop 0).tail))<|.done 0 [.cm [.agg [VS (((q1.hO).cs.getD 0 .any).ah),((q1.hO).cs.getD 1 .any)],(y1.hA)]] []) (fun y1 q1=>NL (y1.hA)<|.an ((q1.hO)=.cells (q1.hO).cs)<|.an (ag [.lk .str,.lk .sl] ((q1.hO).cs) 0 q1.tail)<|.done 0 [.cm [.agg [VS (((q1.hO).cs.getD 0 .any).ah),((q1.hO).cs.getD 1 .any)],(y1.hA)]] [])
theorem Hh(a0_0:ByteArray)(a0_1:AV)(a1:AV)(ha0_1:LK.has .sl a0_1)(ha1:LK.has .sl a1)(h:dv 34 (Bw a0_0 a0_1 a1) R):au Tryz.prog 138 [.agg [VS a0_0,a0_1],a1] [] R :=
 uQ (aj (cv (aj (aD _) (aj (bQ ha0_1) aH))) (aj (bQ ha1) aH)) (oQ CQ Tryz.f138 h)
def zU(x1:AV)(x6:Int)(o2_0:ByteArray)(o2_1:AV)(o4_0:ByteArray)(o4_1:AV):Tree :=
 NL x1<|NI (VI x6)<|.an (Ob.cells [VS o2_0,o2_1]=.cells [VS o2_0,o2_1])<|.an (ag [.lk .str,.lk .sl] [VS o2_0,o2_1] 0 [.cells [VS o4_0,o4_1]])<|.an (Ob.cells [VS o4_0,o4_1]=.cells [VS o4_0,o4_1])<|.an (ag [.lk .str,.lk .sl] [VS o4_0,o4_1] 0 [])<|.test (decide (x6≥(0:Int))) (NG x1 x6 4<|mG (x1.ix x6)<|.test (ac (((x1.ix x6).hA).ah)==ac o2_0) (NG x1 x6 4<|NE ((x1.ix x6).drop 1)<|NG x1 x6 4<|oj ((x1.ix x6).drop 3)<|.done 2 [(((x1.ix x6).drop 3).hA)] [.cells [VS ((((x1.ix x6).drop 1).getD 0 .any).ah),(((x1.ix x6).drop 1).getD 1 .any)]]) (.done 0 [x1,VI (IntKind.wrap .i64 (x6-1))] [.cells [VS o2_0,o2_1],.cells [VS o4_0,o4_1]])) (.done 1 [x1] [.cells [VS o2_0,o2_1],.cells [VS o4_0,o4_1]])
abbrev A1:=cS Tryz.prog 34 BL zb
theorem DX(x1:AV)(x6:Int)(o2_0:ByteArray)(o2_1:AV)(o4_0:ByteArray)(o4_1:AV)(h:pk 34 (zU x1 x6 o2_0 o2_1 o4_0 o4_1) A1 U):A1 [x1,VI x6] [.cells [VS o2_0,o2_1],.cells [VS o4_0,o4_1]] U :=
 gQ CQ h
def D1(a0_0:ByteArray)(a0_1:AV)(a1:AV):Tree :=
 NG a0_1 2 2<|NE (a0_1.ix (2:Int))<|.an (LK.has .sl a1/\di 4 a1.aX/\((([]:List (List AV)).length)+a1.aX.length)*80<=140737488355328)<|NG a0_1 1 2<|mG (a0_1.ix (1:Int))<|.an (di 4 [[VS (((a0_1.ix (1:Int)).hA).ah),VS a0_0,a0_1,a1]]/\(((([]:List (List AV))++a1.aX).length)+([[VS (((a0_1.ix (1:Int)).hA).ah),VS a0_0,a0_1,a1]]:List (List AV)).length)*80<=140737488355328)<|.done 0 [.cm [.agg [VS (((a0_1.ix (2:Int)).getD 0 .any).ah),((a0_1.ix (2:Int)).getD 1 .any)],.sl ((([]:List (List AV))++a1.aX)++([[VS (((a0_1.ix (1:Int)).hA).ah),VS a0_0,a0_1,a1]]:List (List AV)))]] []
theorem Gm(a0_0:ByteArray)(a0_1:AV)(a1:AV)(ha0_1:LK.has .sl a0_1)(ha1:LK.has .sl a1)(h:dv 23 (D1 a0_0 a0_1 a1) R):au Tryz.prog 139 [.agg [VS a0_0,a0_1],a1] [] R :=
 uQ (aj (cv (aj (aD _) (aj (bQ ha0_1) aH))) (aj (bQ ha1) aH)) (oQ [] Tryz.f139 h)
def At:LI:={hd:={cb:=[(0,.k .sl),(1,.k .str),(5,.k (.int .i64))]},xs:={},rt:={cb:=[(4,.k .bool)]},ex:=0}
def Cu:Code:=dV (dU Tryz.f142) 2
def B9:List (Nat×LI):=[(2,At)]
def DS(a0:AV)(a1:ByteArray):Tree :=
 .loop Cu At [a0,VS a1,VI 0] [] (fun y1 q1=>.done 0 [VB false] []) (fun y1 q1=>NB (y1.hA)<|.done 0 [VB ((y1.hA).toBool)] [])
theorem Fw(a0:AV)(a1:ByteArray)(ha0:LK.has .sl a0)(h:dv 18 (DS a0 a1) R):au Tryz.prog 142 [a0,VS a1] [] R :=
 uQ (aj (bQ ha0) (aj (aD _) aH)) (oQ B9 Tryz.f142 h)
def zl(x0:AV)(x1:ByteArray)(x5:Int):Tree :=
 NL x0<|NS (VS x1)<|NI (VI x5)<|NL x0<|.test (decide (x5<(x0.aX.length:Int))) (NG x0 x5 1<|mG (x0.ix x5)<|.test (ac (((x0.ix x5).hA).ah)==ac x1) (.done 2 [VB true] []) (.done 0 [x0,VS x1,VI (IntKind.wrap .i64 (x5+1))] [])) (.done 1 [] [])
abbrev zP:=cS Tryz.prog 18 Cu At
theorem ER(x0:AV)(x1:ByteArray)(x5:Int)(h:pk 18 (zl x0 x1 x5) zP U):zP [x0,VS x1,VI x5] [] U :=
 gQ B9 h
def Da(a0:AV)(a1:ByteArray):Tree :=
 .an (LK.has .sl a0/\di 1 a0.aX/\((([]:List (List AV)).length)+a0.aX.length)*16<=140737488355328)<|.an (di 1 [[VS a1]]/\(((([]:List (List AV))++a0.aX).length)+([[VS a1]]:List (List AV)).length)*16<=140737488355328)<|.done 0 [.sl ((([]:List (List AV))++a0.aX)++([[VS a1]]:List (List AV)))] []
theorem Fl(a0:AV)(a1:ByteArray)(ha0:LK.has .sl a0)(h:dv 11 (Da a0 a1) R):au Tryz.prog 143 [a0,VS a1] [] R :=
 uQ (aj (bQ ha0) (aj (aD _) aH)) (oQ [] Tryz.f143 h)
def zT:LI:={hd:={cb:=[(0,.k .str),(7,.k (.int .i64))]},xs:={},rt:={cb:=[(6,.k .bool)]},ex:=0}
def EK:Code:=dV (dU Tryz.f144) 4
def D5:List (Nat×LI):=[(4,zT)]
def B6(a0:ByteArray)(a1:Int)(a2:Int):Tree :=
 .call 87 [VI (ae a0:Int),VI 1,VI 3] [] fun r1 o1=>NB r1<|.test (!r1.toBool) (.done 0 [VB false] []) (.an (0<=(0:Int)/\(0:Int)<ae a0)<|.test (decide ((bt a0 0)<a1)) (.done 0 [VB false] []) (.an (0<=(0:Int)/\(0:Int)<ae a0)<|.test (decide ((bt a0 0)>a2)) (.done 0 [VB false] []) (.loop EK zT [VS a0,VI 1] [] (fun y2 q2=>.done 0 [VB true] []) (fun y2 q2=>NB (y2.hA)<|.done 0 [VB ((y2.hA).toBool)] []))))
theorem Gq(a0:ByteArray)(a1:Int)(a2:Int)(h:dv 40 (B6 a0 a1 a2) R):au Tryz.prog 144 [VS a0,.v (.int .u8 a1),.v (.int .u8 a2)] [] R :=
 uQ (aj (aD _) (aj (aD _) (aj (aD _) aH))) (oQ D5 Tryz.f144 h)
def AB(x0:ByteArray)(x7:Int):Tree :=
 NS (VS x0)<|NI (VI x7)<|.test (decide (x7<(ae x0:Int))) (.an (0<=x7/\x7<ae x0)<|.test (decide ((bt x0 x7)<(48:Int))) (.done 2 [VB false] []) (.an (0<=x7/\x7<ae x0)<|.test (decide ((bt x0 x7)>(57:Int))) (.done 2 [VB false] []) (.done 0 [VS x0,VI (IntKind.wrap .i64 (x7+1))] []))) (.done 1 [] [])
abbrev z6:=cS Tryz.prog 40 EK zT
theorem BP(x0:ByteArray)(x7:Int)(h:pk 40 (AB x0 x7) z6 U):z6 [VS x0,VI x7] [] U :=
 gQ D5 h
def zr:LI:={hd:={cb:=[(0,.k .str),(1,.k (.int .i64)),(6,.k (.int .i64))]},xs:={cb:=[(0,.k .str),(1,.k (.int .i64)),(6,.k (.int .i64))]},rt:={},ex:=0}
def EX:Code:=dV (dU Tryz.f147) 2
def za:LI:={hd:={cb:=[(0,.k .str),(1,.k (.int .i64)),(7,.k .str)],refs:=[(8,48)],cw:=[(48,[.lk .str,.vec 1])]},xs:={},rt:={cb:=[(4,.k .ptr),(5,.k .str)]},ex:=999}
def Ei:Code:=dV (dU Tryz.f147) 10
def zS:List (Nat×LI):=[(2,zr),(10,za)]
def AJ(a0:ByteArray)(a1:Int):Tree :=
 .loop EX zr [VS a0,VI a1,VI 0] [] (fun y2 q2=>NS (y2.hA)<|NI (y2.tail.hA)<|NI (y2.tail.tail.hA)<|.test (decide (((y2.tail.tail.hA).toInt)>(0:Int))) (.an (0<=(0:Int)/\(0:Int)<=((y2.tail.tail.hA).toInt)/\((y2.tail.tail.hA).toInt)<=(ae ((y2.hA).ah):Int))<|.an (0<=((y2.tail.tail.hA).toInt)/\((y2.tail.tail.hA).toInt)<=(ae ((y2.hA).ah):Int)/\(ae ((y2.hA).ah):Int)<=(ae ((y2.hA).ah):Int))<|.done 0 [.cm [.ptr [VS (bn ((y2.hA).ah) (bk 0) (bk ((y2.tail.tail.hA).toInt))),.v (.slice none 0 0)],VS (bn ((y2.hA).ah) (bk ((y2.tail.tail.hA).toInt)) (bk (ae ((y2.hA).ah):Int)))]] []) (.test (ac ((y2.hA).ah)==ac (mk [])) (.done 0 [.cm [.v (.pointer none),VS ((y2.hA).ah)]] []) (.an (0<=(0:Int)/\(0:Int)<ae ((y2.hA).ah))<|.test ((bt ((y2.hA).ah) 0) != (40:Int)) (.done 0 [.cm [.v (.pointer none),VS ((y2.hA).ah)]] []) (.test (((y2.tail.hA).toInt)==(300:Int)) (.done 0 [.cm [.v (.pointer none),VS ((y2.hA).ah)]] []) (.an (0<=(1:Int)/\(1:Int)<=(ae ((y2.hA).ah):Int)/\(ae ((y2.hA).ah):Int)<=(ae ((y2.hA).ah):Int))<|.loop Ei za [VS ((y2.hA).ah),VI ((y2.tail.hA).toInt),VS (bn ((y2.hA).ah) (bk 1) (bk (ae ((y2.hA).ah):Int)))] [.cells [VS (mk []),.any],.vec 1 []] (fun y5 q5=>.fail) (fun y5 q5=>NP (y5.hA)<|NS (y5.tail.hA)<|.done 0 [.cm [(y5.hA),VS ((y5.tail.hA).ah)]] [])))))) (fun y2 q2=>.done 0 [.cm [.any,.any]] [])
theorem DN(a0:ByteArray)(a1:Int)(h:dv 84 (AJ a0 a1) R):au Tryz.prog 147 [VS a0,VI a1] [] R :=
 uQ (aj (aD _) (aj (aD _) aH)) (oQ zS Tryz.f147 h)
def Ac(x0:ByteArray)(x1:Int)(x6:Int):Tree :=
 NS (VS x0)<|NI (VI x1)<|NI (VI x6)<|.test (decide (x6<(ae x0:Int))) (.an (0<=x6/\x6<ae x0)<|.call 174 [.v (.int .u8 (bt x0 x6))] [] fun r1 o1=>NB r1<|.test r1.toBool (.done 0 [VS x0,VI x1,VI (IntKind.wrap .i64 (x6+1))] []) (.done 1 [VS x0,VI x1,VI x6] [])) (.done 1 [VS x0,VI x1,VI x6] [])
abbrev Be:=cS Tryz.prog 84 EX zr
theorem EL(x0:ByteArray)(x1:Int)(x6:Int)(h:pk 84 (Ac x0 x1 x6) Be U):Be [VS x0,VI x1,VI x6] [] U :=
 gQ zS h
def CG(x0:ByteArray)(x1:Int)(x7:ByteArray)(o48_0:ByteArray)(o48_1:List (List AV)):Tree :=
 NS (VS x0)<|NI (VI x1)<|NS (VS x7)<|.an (Ob.cells [VS o48_0,.any]=.cells [VS o48_0,.any])<|.an (ag [.lk .str,.vec 1] [VS o48_0,.any] 0 [.vec 1 o48_1])<|.call 147 [VS x7,VI (IntKind.wrap .i64 (x1+1))] [] fun r1 o1=>NT r1<|NP (r1.comp 0)<|NS (r1.comp 1)<|NP (r1.comp 0)<|.test ((r1.comp 0).isNil) (.done 2 [.v (.pointer none),VS x0] []) (.test (ac ((r1.comp 1).ah)==ac (mk [])) (.done 2 [.v (.pointer none),VS x0] []) (.an (di 1 [[(r1.comp 0)]]/\((o48_1.length)+([[(r1.comp 0)]]:List (List AV)).length)*8<=140737488355328)<|.an (0<=(1:Int)/\(1:Int)<=(ae ((r1.comp 1).ah):Int)/\(ae ((r1.comp 1).ah):Int)<=(ae ((r1.comp 1).ah):Int))<|.an (0<=(0:Int)/\(0:Int)<ae ((r1.comp 1).ah))<|.test ((bt ((r1.comp 1).ah) 0)==(41:Int)) (.done 2 [.ptr [VS o48_0,.sl (o48_1++([[(r1.comp 0)]]:List (List AV)))],VS (bn ((r1.comp 1).ah) (bk 1) (bk (ae ((r1.comp 1).ah):Int)))] []) (.an (0<=(0:Int)/\(0:Int)<ae ((r1.comp 1).ah))<|.test ((bt ((r1.comp 1).ah) 0) != (32:Int)) (.done 2 [.v (.pointer none),VS x0] []) (.done 0 [VS x0,VI x1,VS (bn ((r1.comp 1).ah) (bk 1) (bk (ae ((r1.comp 1).ah):Int)))] [.cells [VS o48_0,.any],.vec 1 (o48_1++([[(r1.comp 0)]]:List (List AV)))]))))
abbrev AT:=cS Tryz.prog 84 Ei za
theorem Hj(x0:ByteArray)(x1:Int)(x7:ByteArray)(o48_0:ByteArray)(o48_1:List (List AV))(h:pk 84 (CG x0 x1 x7 o48_0 o48_1) AT U):AT [VS x0,VI x1,VS x7] [.cells [VS o48_0,.any],.vec 1 o48_1] U :=
 gQ zS h
def BC(a0:ByteArray):Tree :=
 .test (decide ((ae a0:Int)<(2:Int))) (.done 0 [VB false] []) (.test (decide ((ae a0:Int)>(3:Int))) (.done 0 [VB false] []) (.an (0<=(0:Int)/\(0:Int)<ae a0)<|.test ((bt a0 0) != (101:Int)) (.done 0 [VB false] []) (.an (0<=(1:Int)/\(1:Int)<=(ae a0:Int)/\(ae a0:Int)<=(ae a0:Int))<|.call 152 [VS (bn a0 (bk 1) (bk (ae a0:Int))),VS (mk [48,49,50,51,52,53,54,55,56,57])] [] fun r1 o1=>NS r1<|.test (!(ac r1.ah==ac (mk []))) (.done 0 [VB false] []) (.test ((ae a0:Int)==(2:Int)) (.done 0 [VB true] []) (.an (0<=(1:Int)/\(1:Int)<ae a0)<|.done 0 [VB ((bt a0 1) != (48:Int))] [])))))
theorem Ha(a0:ByteArray)(h:dv 30 (BC a0) R):au Tryz.prog 148 [VS a0] [] R :=
 uQ (aj (aD _) aH) (oQ [] Tryz.f148 h)
def vW(a0:AV)(a1:ByteArray)(a2:Int):Tree :=
 NZ a0<|NZ a0<|oj (a0.deref.drop 1)<|NL ((a0.deref.drop 1).hA)<|.test (((((a0.deref.drop 1).hA).aX).length:Int)==a2) (NZ a0<|NZ a0<|oj (a0.deref.drop 1)<|NG ((a0.deref.drop 1).hA) 0 1<|er (((a0.deref.drop 1).hA).ix (0:Int))<|NZ ((((a0.deref.drop 1).hA).ix (0:Int)).hA)<|NZ ((((a0.deref.drop 1).hA).ix (0:Int)).hA)<|.an (LK.has .str (((((a0.deref.drop 1).hA).ix (0:Int)).hA).deref.hA)/\1<=(((((a0.deref.drop 1).hA).ix (0:Int)).hA).deref).length)<|.done 0 [VB (ac ((((((a0.deref.drop 1).hA).ix (0:Int)).hA).deref.hA).ah)==ac a1)] []) (.done 0 [VB false] [])
theorem D2(a0:AV)(a1:ByteArray)(a2:Int)(ha0:LK.has .ptr a0)(h:dv 27 (vW a0 a1 a2) R):au Tryz.prog 149 [a0,VS a1,VI a2] [] R :=
 uQ (aj (cD ha0) (aj (aD _) (aj (aD _) aH))) (oQ [] Tryz.f149 h)
def AU:LI:={hd:={cb:=[(0,.k .ptr),(1,.k .sl),(5,.k (.int .i64))]},xs:={cb:=[(0,.k .ptr)]},rt:={refs:=[(4,69)],cw:=[(69,[.lk (.int .u8),.lk .str,.lk (.int .i64),.lk .ptr,.lk .ptr])]},ex:=1}
def BD:Code:=dV (dU Tryz.f153) 7
def Dx:List (Nat×LI):=[(7,AU)]
def Ay(a0:AV)(a1:AV):Tree :=
 NZ a0<|NZ a0<|.an (LK.has .str (a0.deref.hA)/\1<=a0.deref.length)<|.test (ac ((a0.deref.hA).ah)==ac (mk [48])) (NZ a0<|NZ a0<|.an (LK.has .str (a0.deref.hA)/\1<=a0.deref.length)<|.an (0<=(0:Int)/\(0:Int)<ae ((a0.deref.hA).ah))<|.done 0 [.ptr [.v (.int .u8 (bt ((a0.deref.hA).ah) 0)),VS (mk []),VI 0,.v (.pointer none),.v (.pointer none)]] []) (NZ a0<|NZ a0<|.an (LK.has .str (a0.deref.hA)/\1<=a0.deref.length)<|.test (ac ((a0.deref.hA).ah)==ac (mk [49])) (NZ a0<|NZ a0<|.an (LK.has .str (a0.deref.hA)/\1<=a0.deref.length)<|.an (0<=(0:Int)/\(0:Int)<ae ((a0.deref.hA).ah))<|.done 0 [.ptr [.v (.int .u8 (bt ((a0.deref.hA).ah) 0)),VS (mk []),VI 0,.v (.pointer none),.v (.pointer none)]] []) (NZ a0<|NZ a0<|.an (LK.has .str (a0.deref.hA)/\1<=a0.deref.length)<|.call 59 [VS ((a0.deref.hA).ah)] [] fun r1 o1=>NB r1<|.test r1.toBool (NZ a0<|NZ a0<|.an (LK.has .str (a0.deref.hA)/\1<=a0.deref.length)<|.done 0 [.ptr [.v (.int .u8 110),VS ((a0.deref.hA).ah),VI 0,.v (.pointer none),.v (.pointer none)]] []) (NZ a0<|NZ a0<|.an (LK.has .str (a0.deref.hA)/\1<=a0.deref.length)<|.call 166 [VS ((a0.deref.hA).ah)] [] fun r2 o2=>NB r2<|.test r2.toBool (NL a1<|.loop BD AU [a0,a1,VI (IntKind.wrap .i64 ((a1.aX.length:Int)-1))] [] (fun y3 q3=>NP (y3.hA)<|NZ (y3.hA)<|NZ (y3.hA)<|.an (LK.has .str ((y3.hA).deref.hA)/\1<=((y3.hA).deref).length)<|.done 0 [.ptr [.v (.int .u8 110),VS (((y3.hA).deref.hA).ah),VI 0,.v (.pointer none),.v (.pointer none)]] []) (fun y3 q3=>.an ((q3.hO)=.cells (q3.hO).cs)<|.an (ag [.lk (.int .u8),.lk .str,.lk (.int .i64),.lk .ptr,.lk .ptr] ((q3.hO).cs) 0 q3.tail)<|.done 0 [.ptr [.v (.int .u8 (((q3.hO).cs.getD 0 .any).toInt)),VS (((q3.hO).cs.getD 1 .any).ah),VI (((q3.hO).cs.getD 2 .any).toInt),((q3.hO).cs.getD 3 .any),((q3.hO).cs.getD 4 .any)]] [])) (.call 149 [a0,VS (mk [43]),VI 3] [] fun r4 o4=>NB r4<|.test r4.toBool (NZ a0<|NZ a0<|oj (a0.deref.drop 1)<|NG ((a0.deref.drop 1).hA) 1 1<|er (((a0.deref.drop 1).hA).ix (1:Int))<|.call 153 [((((a0.deref.drop 1).hA).ix (1:Int)).hA),a1] [] fun r5 o5=>NP r5<|NZ a0<|NZ a0<|oj (a0.deref.drop 1)<|NG ((a0.deref.drop 1).hA) 2 1<|er (((a0.deref.drop 1).hA).ix (2:Int))<|.call 153 [((((a0.deref.drop 1).hA).ix (2:Int)).hA),a1] [] fun r6 o6=>NP r6<|NP r5<|.test r5.isNil (.done 0 [.v (.pointer none)] []) (NP r6<|.test r6.isNil (.done 0 [.v (.pointer none)] []) (NZ a0<|NZ a0<|oj (a0.deref.drop 1)<|NG ((a0.deref.drop 1).hA) 0 1<|er (((a0.deref.drop 1).hA).ix (0:Int))<|NZ ((((a0.deref.drop 1).hA).ix (0:Int)).hA)<|NZ ((((a0.deref.drop 1).hA).ix (0:Int)).hA)<|.an (LK.has .str (((((a0.deref.drop 1).hA).ix (0:Int)).hA).deref.hA)/\1<=(((((a0.deref.drop 1).hA).ix (0:Int)).hA).deref).length)<|.an (0<=(0:Int)/\(0:Int)<ae ((((((a0.deref.drop 1).hA).ix (0:Int)).hA).deref.hA).ah))<|.done 0 [.ptr [.v (.int .u8 (bt ((((((a0.deref.drop 1).hA).ix (0:Int)).hA).deref.hA).ah) 0)),VS (mk []),VI 0,r5,r6]] []))) (.call 149 [a0,VS (mk [42]),VI 3] [] fun r7 o7=>NB r7<|.test r7.toBool (NZ a0<|NZ a0<|oj (a0.deref.drop 1)<|NG ((a0.deref.drop 1).hA) 1 1<|er (((a0.deref.drop 1).hA).ix (1:Int))<|.call 153 [((((a0.deref.drop 1).hA).ix (1:Int)).hA),a1] [] fun r8 o8=>NP r8<|NZ a0<|NZ a0<|oj (a0.deref.drop 1)<|NG ((a0.deref.drop 1).hA) 2 1<|er (((a0.deref.drop 1).hA).ix (2:Int))<|.call 153 [((((a0.deref.drop 1).hA).ix (2:Int)).hA),a1] [] fun r9 o9=>NP r9<|NP r8<|.test r8.isNil (.done 0 [.v (.pointer none)] []) (NP r9<|.test r9.isNil (.done 0 [.v (.pointer none)] []) (NZ a0<|NZ a0<|oj (a0.deref.drop 1)<|NG ((a0.deref.drop 1).hA) 0 1<|er (((a0.deref.drop 1).hA).ix (0:Int))<|NZ ((((a0.deref.drop 1).hA).ix (0:Int)).hA)<|NZ ((((a0.deref.drop 1).hA).ix (0:Int)).hA)<|.an (LK.has .str (((((a0.deref.drop 1).hA).ix (0:Int)).hA).deref.hA)/\1<=(((((a0.deref.drop 1).hA).ix (0:Int)).hA).deref).length)<|.an (0<=(0:Int)/\(0:Int)<ae ((((((a0.deref.drop 1).hA).ix (0:Int)).hA).deref.hA).ah))<|.done 0 [.ptr [.v (.int .u8 (bt ((((((a0.deref.drop 1).hA).ix (0:Int)).hA).deref.hA).ah) 0)),VS (mk []),VI 0,r8,r9]] []))) (.call 149 [a0,VS (mk [114,101,99]),VI 3] [] fun r10 o10=>NB r10<|.test r10.toBool (NZ a0<|NZ a0<|oj (a0.deref.drop 1)<|NG ((a0.deref.drop 1).hA) 1 1<|er (((a0.deref.drop 1).hA).ix (1:Int))<|NZ ((((a0.deref.drop 1).hA).ix (1:Int)).hA)<|NZ ((((a0.deref.drop 1).hA).ix (1:Int)).hA)<|.an (LK.has .str (((((a0.deref.drop 1).hA).ix (1:Int)).hA).deref.hA)/\1<=(((((a0.deref.drop 1).hA).ix (1:Int)).hA).deref).length)<|.call 166 [VS ((((((a0.deref.drop 1).hA).ix (1:Int)).hA).deref.hA).ah)] [] fun r11 o11=>NB r11<|.test r11.toBool (NZ a0<|NZ a0<|oj (a0.deref.drop 1)<|NG ((a0.deref.drop 1).hA) 2 1<|er (((a0.deref.drop 1).hA).ix (2:Int))<|.an (LK.has .sl a1/\di 1 a1.aX/\((([]:List (List AV)).length)+a1.aX.length)*16<=140737488355328)<|NZ a0<|NZ a0<|oj (a0.deref.drop 1)<|NG ((a0.deref.drop 1).hA) 1 1<|er (((a0.deref.drop 1).hA).ix (1:Int))<|NZ ((((a0.deref.drop 1).hA).ix (1:Int)).hA)<|NZ ((((a0.deref.drop 1).hA).ix (1:Int)).hA)<|.an (LK.has .str (((((a0.deref.drop 1).hA).ix (1:Int)).hA).deref.hA)/\1<=(((((a0.deref.drop 1).hA).ix (1:Int)).hA).deref).length)<|.an (di 1 [[VS ((((((a0.deref.drop 1).hA).ix (1:Int)).hA).deref.hA).ah)]]/\(((([]:List (List AV))++a1.aX).length)+([[VS ((((((a0.deref.drop 1).hA).ix (1:Int)).hA).deref.hA).ah)]]:List (List AV)).length)*16<=140737488355328)<|.call 153 [((((a0.deref.drop 1).hA).ix (2:Int)).hA),.sl ((([]:List (List AV))++a1.aX)++([[VS ((((((a0.deref.drop 1).hA).ix (1:Int)).hA).deref.hA).ah)]]:List (List AV)))] [] fun r12 o12=>NP r12<|NP r12<|.test r12.isNil (.done 0 [.v (.pointer none)] []) (.done 0 [.ptr [.v (.int .u8 114),VS (mk []),VI 0,r12,.v (.pointer none)]] [])) (.done 0 [.v (.pointer none)] [])) (.done 0 [.v (.pointer none)] [])))))))
theorem Dj(a0:AV)(a1:AV)(ha0:LK.has .ptr a0)(ha1:LK.has .sl a1)(h:dv 160 (Ay a0 a1) R):au Tryz.prog 153 [a0,a1] [] R :=
 uQ (aj (cD ha0) (aj (bQ ha1) aH)) (oQ Dx Tryz.f153 h)
def zH(x0:AV)(x1:AV)(x5:Int):Tree :=
 NP x0<|NL x1<|NI (VI x5)<|.test (decide (x5≥(0:Int))) (NG x1 x5 1<|mG (x1.ix x5)<|NZ x0<|NZ x0<|.an (LK.has .str (x0.deref.hA)/\1<=x0.deref.length)<|.test (ac (((x1.ix x5).hA).ah)==ac ((x0.deref.hA).ah)) (NL x1<|.done 2 [] [.cells [.v (.int .u8 98),VS (mk []),VI (IntKind.wrap .i64 ((IntKind.wrap .i64 ((x1.aX.length:Int)-1))-x5)),.v (.pointer none),.v (.pointer none)]]) (.done 0 [x0,x1,VI (IntKind.wrap .i64 (x5-1))] [])) (.done 1 [x0] [])
abbrev Ae:=cS Tryz.prog 160 BD AU
theorem Cc(x0:AV)(x1:AV)(x5:Int)(h:pk 160 (zH x0 x1 x5) Ae U):Ae [x0,x1,VI x5] [] U :=
 gQ Dx h
def yF(a0:AV):Tree :=
 NZ a0<|NZ a0<|.an (LK.has (.int .u8) (a0.deref.hA)/\1<=a0.deref.length)<|.test (((a0.deref.hA).toInt)==(43:Int)) (NZ a0<|NZ a0<|er (a0.deref.drop 3)<|.call 154 [((a0.deref.drop 3).hA)] [] fun r1 o1=>NI r1<|NZ a0<|NZ a0<|er (a0.deref.drop 4)<|.call 154 [((a0.deref.drop 4).hA)] [] fun r2 o2=>NI r2<|.done 0 [VI (IntKind.wrap .i64 ((IntKind.wrap .i64 (1+r1.toInt))+r2.toInt))] []) (.test (((a0.deref.hA).toInt)==(42:Int)) (NZ a0<|NZ a0<|er (a0.deref.drop 3)<|.call 154 [((a0.deref.drop 3).hA)] [] fun r3 o3=>NI r3<|NZ a0<|NZ a0<|er (a0.deref.drop 4)<|.call 154 [((a0.deref.drop 4).hA)] [] fun r4 o4=>NI r4<|.done 0 [VI (IntKind.wrap .i64 ((IntKind.wrap .i64 (1+r3.toInt))+r4.toInt))] []) (.test (((a0.deref.hA).toInt)==(114:Int)) (NZ a0<|NZ a0<|er (a0.deref.drop 3)<|.call 154 [((a0.deref.drop 3).hA)] [] fun r5 o5=>NI r5<|.done 0 [VI (IntKind.wrap .i64 (2+r5.toInt))] []) (.done 0 [VI 1] [])))
theorem Ba(a0:AV)(ha0:LK.has .ptr a0)(h:dv 30 (yF a0) R):au Tryz.prog 154 [a0] [] R :=
 uQ (aj (cD ha0) aH) (oQ [] Tryz.f154 h)
def BU(a0_0:ByteArray)(a0_1:AV)(a1:ByteArray)(a2_0:ByteArray)(a2_1:AV):Tree :=
 .call 129 [.agg [VS a0_0,a0_1]] [] fun r1 o1=>NI r1<|.call 186 [.agg [VS a0_0,a0_1],VS a1] [] fun r2 o2=>NI r2<|.call 129 [.agg [VS a2_0,a2_1]] [] fun r3 o3=>NI r3<|.done 0 [VB (decide ((IntKind.wrap .i64 (r1.toInt+(IntKind.wrap .i64 (r2.toInt*(IntKind.wrap .i64 (r3.toInt-1))))))<=(400:Int)))] []
theorem G9(a0_0:ByteArray)(a0_1:AV)(a1:ByteArray)(a2_0:ByteArray)(a2_1:AV)(ha0_1:LK.has .sl a0_1)(ha2_1:LK.has .sl a2_1)(h:dv 18 (BU a0_0 a0_1 a1 a2_0 a2_1) R):au Tryz.prog 162 [.agg [VS a0_0,a0_1],VS a1,.agg [VS a2_0,a2_1]] [] R :=
 uQ (aj (cv (aj (aD _) (aj (bQ ha0_1) aH))) (aj (aD _) (aj (cv (aj (aD _) (aj (bQ ha2_1) aH))) aH))) (oQ [] Tryz.f162 h)
def C3(a0_0:ByteArray)(a0_1:AV)(a1:ByteArray)(a2_0:ByteArray)(a2_1:AV):Tree :=
 .call 78 [.agg [VS a0_0,a0_1],.sl [[VS a2_0,a2_1],[VS a1,.v (.slice none 0 0)]]] [] fun r1 o1=>NA r1<|.call 187 [.agg [VS ((r1.cs.getD 0 .any).ah),(r1.cs.getD 1 .any)],VS a1,.agg [VS a2_0,a2_1]] [] fun r2 o2=>NA r2<|.done 0 [.agg [VS ((r2.cs.getD 0 .any).ah),(r2.cs.getD 1 .any)]] []
theorem FD(a0_0:ByteArray)(a0_1:AV)(a1:ByteArray)(a2_0:ByteArray)(a2_1:AV)(ha0_1:LK.has .sl a0_1)(ha2_1:LK.has .sl a2_1)(h:dv 16 (C3 a0_0 a0_1 a1 a2_0 a2_1) R):au Tryz.prog 163 [.agg [VS a0_0,a0_1],VS a1,.agg [VS a2_0,a2_1]] [] R :=
 uQ (aj (cv (aj (aD _) (aj (bQ ha0_1) aH))) (aj (aD _) (aj (cv (aj (aD _) (aj (bQ ha2_1) aH))) aH))) (oQ [] Tryz.f163 h)
def BE(a0:AV):Tree :=
 .call 188 [a0,.v (.func (.func 166) #[] #[])] [] fun r1 o1=>NI r1<|.done 0 [VB (decide (r1.toInt≥(0:Int)))] []
theorem F9(a0:AV)(ha0:LK.has .sl a0)(h:dv 9 (BE a0) R):au Tryz.prog 164 [a0,.v (.func (.func 166) #[] #[])] [] R :=
 uQ (aj (bQ ha0) (aj (aD _) aH)) (oQ [] Tryz.f164 h)
def Ef(a0:AV):Tree :=
 .call 91 [a0,.fn 189 [.ref 0 0]] [.cells [.vec 1],.vec 1 []] fun r1 o1=>.an ((o1.hO)=.cells (o1.hO).cs)<|.an (aO [.vec 1] ((o1.hO).cs) 0 1 o1.tail)<|.done 0 [.sl ((o1.tail.hO).es)] []
theorem Gt(a0:AV)(ha0:LK.has .ptr a0)(h:dv 9 (Ef a0) R):au Tryz.prog 165 [a0] [] R :=
 uQ (aj (cD ha0) aH) (oQ [] Tryz.f165 h)
def D9(a0:ByteArray):Tree :=
 .call 111 [VS a0,VS (mk [116])] [] fun r1 o1=>NB r1<|.done 0 [VB r1.toBool] []
theorem GB(a0:ByteArray)(h:dv 5 (D9 a0) R):au Tryz.prog 166 [VS a0] [] R :=
 uQ (aj (aD _) aH) (oQ [] Tryz.f166 h)
def Cd(a0:Int):Tree :=
 .test (decide (a0≥(97:Int))) (.test (decide (a0<=(122:Int))) (.done 0 [VB true] []) (.test (decide (a0≥(48:Int))) (.test (decide (a0<=(57:Int))) (.done 0 [VB true] []) (.test (a0==(42:Int)) (.done 0 [VB true] []) (.done 0 [VB (a0==(43:Int))] []))) (.test (a0==(42:Int)) (.done 0 [VB true] []) (.done 0 [VB (a0==(43:Int))] [])))) (.test (decide (a0≥(48:Int))) (.test (decide (a0<=(57:Int))) (.done 0 [VB true] []) (.test (a0==(42:Int)) (.done 0 [VB true] []) (.done 0 [VB (a0==(43:Int))] []))) (.test (a0==(42:Int)) (.done 0 [VB true] []) (.done 0 [VB (a0==(43:Int))] [])))
theorem Hf(a0:Int)(h:dv 25 (Cd a0) R):au Tryz.prog 172 [.v (.int .u8 a0)] [] R :=
 uQ (aj (aD _) aH) (oQ [] Tryz.f172 h)
def Dn(a0:Int):Tree :=
 .test (decide (a0≥(97:Int))) (.test (decide (a0<=(122:Int))) (.done 0 [VB true] []) (.test (decide (a0≥(48:Int))) (.test (decide (a0<=(57:Int))) (.done 0 [VB true] []) (.test (a0==(43:Int)) (.done 0 [VB true] []) (.done 0 [VB (a0==(42:Int))] []))) (.test (a0==(43:Int)) (.done 0 [VB true] []) (.done 0 [VB (a0==(42:Int))] [])))) (.test (decide (a0≥(48:Int))) (.test (decide (a0<=(57:Int))) (.done 0 [VB true] []) (.test (a0==(43:Int)) (.done 0 [VB true] []) (.done 0 [VB (a0==(42:Int))] []))) (.test (a0==(43:Int)) (.done 0 [VB true] []) (.done 0 [VB (a0==(42:Int))] [])))
theorem GK(a0:Int)(h:dv 25 (Dn a0) R):au Tryz.prog 174 [.v (.int .u8 a0)] [] R :=
 uQ (aj (aD _) aH) (oQ [] Tryz.f174 h)
def BF(a0:AV)(a1:ByteArray):Tree :=
 .call 202 [a0,VS a1] [] fun r1 o1=>NI r1<|.done 0 [VB (decide (r1.toInt≥(0:Int)))] []
theorem Ge(a0:AV)(a1:ByteArray)(ha0:LK.has .sl a0)(h:dv 9 (BF a0 a1) R):au Tryz.prog 185 [a0,VS a1] [] R :=
 uQ (aj (bQ ha0) (aj (aD _) aH)) (oQ [] Tryz.f185 h)
def uJ(a0_0:ByteArray)(a0_1:AV)(a1:ByteArray):Tree :=
 .test (!(ac a0_0==ac (mk []))) (.test (ac a0_0==ac a1) (.done 0 [VI 1] []) (.done 0 [VI 0] [])) (.call 90 [.agg [VS a0_0,a0_1]] [] fun r1 o1=>NS r1<|.test (ac r1.ah==ac (mk [114,101,99])) (NG a0_1 1 2<|mG (a0_1.ix (1:Int))<|.test (ac (((a0_1.ix (1:Int)).hA).ah)==ac a1) (.done 0 [VI 0] []) (NG a0_1 2 2<|NE (a0_1.ix (2:Int))<|.call 186 [.agg [VS (((a0_1.ix (2:Int)).getD 0 .any).ah),((a0_1.ix (2:Int)).getD 1 .any)],VS a1] [] fun r2 o2=>NI r2<|.done 0 [VI r2.toInt] [])) (NG a0_1 1 2<|NE (a0_1.ix (1:Int))<|.call 186 [.agg [VS (((a0_1.ix (1:Int)).getD 0 .any).ah),((a0_1.ix (1:Int)).getD 1 .any)],VS a1] [] fun r3 o3=>NI r3<|NG a0_1 2 2<|NE (a0_1.ix (2:Int))<|.call 186 [.agg [VS (((a0_1.ix (2:Int)).getD 0 .any).ah),((a0_1.ix (2:Int)).getD 1 .any)],VS a1] [] fun r4 o4=>NI r4<|.done 0 [VI (IntKind.wrap .i64 (r3.toInt+r4.toInt))] []))
theorem w6(a0_0:ByteArray)(a0_1:AV)(a1:ByteArray)(ha0_1:LK.has .sl a0_1)(h:dv 41 (uJ a0_0 a0_1 a1) R):au Tryz.prog 186 [.agg [VS a0_0,a0_1],VS a1] [] R :=
 uQ (aj (cv (aj (aD _) (aj (bQ ha0_1) aH))) (aj (aD _) aH)) (oQ [] Tryz.f186 h)
def wi(a0_0:ByteArray)(a0_1:AV)(a1:ByteArray)(a2_0:ByteArray)(a2_1:AV):Tree :=
 .test (!(ac a0_0==ac (mk []))) (.test (ac a0_0==ac a1) (.done 0 [.agg [VS a2_0,a2_1]] []) (.done 0 [.agg [VS a0_0,a0_1]] [])) (.call 90 [.agg [VS a0_0,a0_1]] [] fun r1 o1=>NS r1<|.test (ac r1.ah==ac (mk [114,101,99])) (NG a0_1 1 2<|mG (a0_1.ix (1:Int))<|.test (ac (((a0_1.ix (1:Int)).hA).ah)==ac a1) (.done 0 [.agg [VS a0_0,a0_1]] []) (NG a0_1 1 2<|NE (a0_1.ix (1:Int))<|NG a0_1 2 2<|NE (a0_1.ix (2:Int))<|.call 187 [.agg [VS (((a0_1.ix (2:Int)).getD 0 .any).ah),((a0_1.ix (2:Int)).getD 1 .any)],VS a1,.agg [VS a2_0,a2_1]] [] fun r2 o2=>NA r2<|.call 69 [VS (mk [114,101,99]),.sl [[VS (((a0_1.ix (1:Int)).getD 0 .any).ah),((a0_1.ix (1:Int)).getD 1 .any)],[VS ((r2.cs.getD 0 .any).ah),(r2.cs.getD 1 .any)]]] [] fun r3 o3=>NA r3<|.done 0 [.agg [VS ((r3.cs.getD 0 .any).ah),(r3.cs.getD 1 .any)]] [])) (.call 90 [.agg [VS a0_0,a0_1]] [] fun r4 o4=>NS r4<|NG a0_1 1 2<|NE (a0_1.ix (1:Int))<|.call 187 [.agg [VS (((a0_1.ix (1:Int)).getD 0 .any).ah),((a0_1.ix (1:Int)).getD 1 .any)],VS a1,.agg [VS a2_0,a2_1]] [] fun r5 o5=>NA r5<|NG a0_1 2 2<|NE (a0_1.ix (2:Int))<|.call 187 [.agg [VS (((a0_1.ix (2:Int)).getD 0 .any).ah),((a0_1.ix (2:Int)).getD 1 .any)],VS a1,.agg [VS a2_0,a2_1]] [] fun r6 o6=>NA r6<|.call 69 [VS r4.ah,.sl [[VS ((r5.cs.getD 0 .any).ah),(r5.cs.getD 1 .any)],[VS ((r6.cs.getD 0 .any).ah),(r6.cs.getD 1 .any)]]] [] fun r7 o7=>NA r7<|.done 0 [.agg [VS ((r7.cs.getD 0 .any).ah),(r7.cs.getD 1 .any)]] []))
theorem yw(a0_0:ByteArray)(a0_1:AV)(a1:ByteArray)(a2_0:ByteArray)(a2_1:AV)(ha0_1:LK.has .sl a0_1)(ha2_1:LK.has .sl a2_1)(h:dv 58 (wi a0_0 a0_1 a1 a2_0 a2_1) R):au Tryz.prog 187 [.agg [VS a0_0,a0_1],VS a1,.agg [VS a2_0,a2_1]] [] R :=
 uQ (aj (cv (aj (aD _) (aj (bQ ha0_1) aH))) (aj (aD _) (aj (cv (aj (aD _) (aj (bQ ha2_1) aH))) aH))) (oQ [] Tryz.f187 h)
def Az:LI:={hd:={cb:=[(0,.k .sl),(1,.c (.func (.func 166) #[] #[])),(7,.k (.int .i64)),(8,.k (.int .i64))]},xs:={},rt:={cb:=[(4,.k (.int .i64))]},ex:=0}
def Dp:Code:=dV (dU Tryz.f188) 2
def BJ:List (Nat×LI):=[(2,Az)]
def DD(a0:AV):Tree :=
 NL a0<|.loop Dp Az [a0,.v (.func (.func 166) #[] #[]),VI (a0.aX.length:Int),VI 0] [] (fun y2 q2=>.done 0 [VI (-1)] []) (fun y2 q2=>NI (y2.hA)<|.done 0 [VI ((y2.hA).toInt)] [])
theorem FB(a0:AV)(ha0:LK.has .sl a0)(h:dv 19 (DD a0) R):au Tryz.prog 188 [a0,.v (.func (.func 166) #[] #[])] [] R :=
 uQ (aj (bQ ha0) (aj (aD _) aH)) (oQ BJ Tryz.f188 h)
def Ah(x0:AV)(x7:Int)(x8:Int):Tree :=
 NL x0<|.an (AV.v (.func (.func 166) #[] #[])=.v (.func (.func 166) #[] #[]))<|NI (VI x7)<|NI (VI x8)<|.test (decide (x8<x7)) (NG x0 x8 1<|mG (x0.ix x8)<|.call 166 [VS (((x0.ix x8).hA).ah)] [] fun r1 o1=>NB r1<|.test r1.toBool (.done 2 [VI x8] []) (.done 0 [x0,.v (.func (.func 166) #[] #[]),VI x7,VI (IntKind.wrap .i64 (x8+1))] [])) (.done 1 [] [])
abbrev Af:=cS Tryz.prog 19 Dp Az
theorem CM(x0:AV)(x7:Int)(x8:Int)(h:pk 19 (Ah x0 x7 x8) Af U):Af [x0,.v (.func (.func 166) #[] #[]),VI x7,VI x8] [] U :=
 gQ BJ h
def zX(a0:AV)(e1_0:List (List AV)):Tree :=
 NZ a0<|NZ a0<|.an (LK.has (.int .u8) (a0.deref.hA)/\1<=a0.deref.length)<|.test (((a0.deref.hA).toInt)==(110:Int)) (NZ a0<|NZ a0<|mG (a0.deref.drop 1)<|.call 185 [.sl e1_0,VS (((a0.deref.drop 1).hA).ah)] [] fun r1 o1=>NB r1<|.test (!r1.toBool) (NZ a0<|NZ a0<|mG (a0.deref.drop 1)<|.an (di 1 [[VS (((a0.deref.drop 1).hA).ah)]]/\((e1_0.length)+([[VS (((a0.deref.drop 1).hA).ah)]]:List (List AV)).length)*16<=140737488355328)<|.done 0 [.any] [.cells [.vec 1],.vec 1 (e1_0++([[VS (((a0.deref.drop 1).hA).ah)]]:List (List AV)))]) (.done 0 [.any] [.cells [.vec 1],.vec 1 e1_0])) (.done 0 [.any] [.cells [.vec 1],.vec 1 e1_0])
theorem Fb(a0:AV)(e1_0:List (List AV))(ha0:LK.has .ptr a0)(h:dv 24 (zX a0 e1_0) R):au Tryz.prog 189 [a0,.ref 0 0] [.cells [.vec 1],.vec 1 e1_0] R :=
 au.rO (cG (dn (aj (aD _) aH)) (cG (kX _) dr)) (au.up (aj (cD ha0) (aj (aD _) aH)) (oF [] {mu:=[(1,.one (.obj [.vec 1]))],own:=[]} Tryz.f189 h))
def AK:LI:={hd:={cb:=[(0,.k .sl),(1,.k .str),(7,.k (.int .i64)),(8,.k (.int .i64))]},xs:={},rt:={cb:=[(4,.k (.int .i64))]},ex:=0}
def CJ:Code:=dV (dU Tryz.f202) 2
def BM:List (Nat×LI):=[(2,AK)]
def D4(a0:AV)(a1:ByteArray):Tree :=
 NL a0<|.loop CJ AK [a0,VS a1,VI (a0.aX.length:Int),VI 0] [] (fun y1 q1=>.done 0 [VI (-1)] []) (fun y1 q1=>NI (y1.hA)<|.done 0 [VI ((y1.hA).toInt)] [])
theorem F7(a0:AV)(a1:ByteArray)(ha0:LK.has .sl a0)(h:dv 19 (D4 a0 a1) R):au Tryz.prog 202 [a0,VS a1] [] R :=
 uQ (aj (bQ ha0) (aj (aD _) aH)) (oQ BM Tryz.f202 h)
def zY(x0:AV)(x1:ByteArray)(x7:Int)(x8:Int):Tree :=
 NL x0<|NS (VS x1)<|NI (VI x7)<|NI (VI x8)<|.test (decide (x8<x7)) (NG x0 x8 1<|mG (x0.ix x8)<|.test (ac x1==ac (((x0.ix x8).hA).ah)) (.done 2 [VI x8] []) (.done 0 [x0,VS x1,VI x7,VI (IntKind.wrap .i64 (x8+1))] [])) (.done 1 [] [])
abbrev A6:=cS Tryz.prog 19 CJ AK
theorem DC(x0:AV)(x1:ByteArray)(x7:Int)(x8:Int)(h:pk 19 (zY x0 x1 x7 x8) A6 U):A6 [x0,VS x1,VI x7,VI x8] [] U :=
 gQ BM h
end
end Go.Proofs.Trees
namespace Go.Proofs.Trees
open Go Go.VL
theorem ct(i:Nat)(h:i<1000000000000):IntKind.wrap .i64 ((i:Int)+1)=((i+1:Nat):Int):=by rw[wrap64]<;>omega
inductive E where
 |atom (s:List UInt8)
 |list (l:List E)
mutual
def E.dw:E->AV
 | .atom s=>.ptr [.v (.string (mk s)),.v (.slice none 0 0)]
 | .list l=>.ptr [.v (.string (mk [])),.sl (E.jy l)]
def E.jy:List E->List (List AV)
 |[]=>[]
 |e::l=>[e.dw]::E.jy l
end
mutual
def E.fG:E->List AV
 | .atom s=>[.v (.string (mk s)),.v (.slice none 0 0)]
 | .list l=>[.v (.string (mk [])),.sl (E.aV l)]
def E.aV:List E->List (List AV)
 |[]=>[]
 |e::l=>e.fG::E.aV l
end
def E.ic(e:E):AV:=.agg e.fG
theorem qx(l r:List E):E.jy (l++r)=E.jy l++E.jy r:=by
 induction l with
 |nil=>rfl
 |cons e l ih=>simp[E.jy,ih]
theorem mw(l r:List E):E.aV (l++r)=E.aV l++E.aV r:=by
 induction l with
 |nil=>rfl
 |cons e l ih=>simp[E.aV,ih]
theorem nO(l:List E):(E.jy l).length=l.length:=by
 induction l with
 |nil=>rfl
 |cons e l ih=>simp[E.jy,ih]
theorem da(l:List E):(E.aV l).length=l.length:=by
 induction l with
 |nil=>rfl
 |cons e l ih=>simp[E.aV,ih]
def eH(b:UInt8):Bool:=decide ((97<=b.toNat/\b.toNat<=122)\/(48<=b.toNat/\b.toNat<=57)\/b.toNat=43\/b.toNat=42)
def pU(f:List UInt8->Option (E×List UInt8)):Nat->List UInt8->List E->Option (E×List UInt8)
 |0,_,_=>none
 |
  n+1,s,acc=>match f s with
  |some (p,c::r)=>if c.toNat=41 then some (.list (acc++[p]),r)else if c.toNat=32 then pU f n r (acc++[p])else none
  |_=>none
def rd:Nat->List UInt8->Option (E×List UInt8)
 |0,s=>if s.takeWhile eH=[]then none else some (.atom (s.takeWhile eH),s.dropWhile eH)
 |k+1,s=>if s.takeWhile eH=[]then(match s with
  |c::r=>if c.toNat=40 then pU (rd k) (r.length+1) r []else none
  |[]=>none)else some (.atom (s.takeWhile eH),s.dropWhile eH)
theorem u3{f:List UInt8->Option (E×List UInt8)}(hf:∀s e r,f s=some (e,r)->r.length<s.length):∀(n:Nat) (s:List UInt8) (acc:List E) (e:E) (r:List UInt8),pU f n s acc=some (e,r)->r.length<s.length
 |0,s,acc,e,r,h=>by cases h
 |
  n+1,s,acc,e,r,h=>by
  simp only[pU]at h
  split at h
  ·rename_i p c r' hs
   have:=hf _ _ _ hs
   simp only[az]at this
   split at h
   ·cases h;omega
   ·split at h
    ·have:=u3 hf n _ _ _ _ h;omega
    ·cases h
  ·cases h
theorem lc{s:List UInt8}(h:¬s.takeWhile eH=[]):(s.dropWhile eH).length<s.length:=by
 have h1:=congrArg List.length (bu (p:=eH) (l:=s))
 simp only[ap]at h1
 have:0<(s.takeWhile eH).length:=List.length_pos_iff.2 h
 omega
theorem sr:∀(k:Nat) (s:List UInt8) (e:E) (r:List UInt8),rd k s=some (e,r)->r.length<s.length
 |
  0,s,e,r,h=>by
  simp only[rd]at h
  split at h
  ·cases h
  ·rename_i hn;cases h;exact lc hn
 |
  k+1,s,e,r,h=>by
  simp only[rd]at h
  split at h
  ·split at h
   ·split at h
    ·have:=u3 (sr k) _ _ _ _ _ h
     simp only[az];omega
    ·cases h
   ·cases h
  ·rename_i hn;cases h;exact lc hn
theorem G2(b:UInt8):au Tryz.prog 174 [.v (.int .u8 (b.toNat:Int))] [] (bq (.v (.bool (eH b)))):=by
 refine GK _ ?_
 simp only[Dn,↓zq,zs,ag,bq,eH]
 repeat' (apply aC<;>intro _)
 all_goals first|(congr 2;rw[cj];simp;omega)|(congr 2;simp;omega)
theorem tj{s:List UInt8}{i:Nat}(hi:i<s.length)(hb:eH (s.getD i 0)=true):((s.drop i).takeWhile eH).length=((s.drop (i+1)).takeWhile eH).length+1:=by
 have e:s.drop i=s.getD i 0::s.drop (i+1):=by
  rw[a7 hi];simp[aa,hi]
 rw[e,List.takeWhile_cons_of_pos hb];simp
theorem ni{s:List UInt8}{i:Nat}(hi:i<s.length)(hb:eH (s.getD i 0)=false):(s.drop i).takeWhile eH=[]:=by
 have e:s.drop i=s.getD i 0::s.drop (i+1):=by
  rw[a7 hi];simp[aa,hi]
 rw[e,List.takeWhile_cons_of_neg (by rw[hb];simp)]
theorem AZ(s:List UInt8)(hs:s.length<=8000)(d:Int):∀(k i:Nat),i+k=s.length->Be [.v (.string (mk s)),.v (.int .i64 d),.v (.int .i64 (i:Int))] [] (mP 1 [.v (.string (mk s)),.v (.int .i64 d),.v (.int .i64 ((i+((s.drop i).takeWhile eH).length:Nat):Int))] [])
 |
  0,i,hi=>by
  refine EL _ _ _ ?_
  have hd:s.drop i=[]:=bf (by omega)
  simp only[Ac,↓zq,zs,ag,zt]
  exact⟨fun h=>by omega,fun _=>by simp[mP,hd]⟩
 |
  k+1,i,hi=>by
  have hlt:i<s.length:=by omega
  refine EL _ _ _ ?_
  simp only[Ac,↓zq,zs,ag,zt,jv s i hlt]
  refine⟨fun _=>⟨by omega,?_⟩,fun h=>by omega⟩
  refine al (G2 _) ?_
  simp only[↓zq,zs,ag]
  refine⟨fun hb=>?_,fun hb=>?_⟩
  ·rw[ct i (by omega)]
   have:=AZ s hs d k (i+1) (by omega)
   rw[tj hlt hb,show i+(((s.drop (i+1)).takeWhile eH).length+1)=i+1+((s.drop (i+1)).takeWhile eH).length by omega]
   exact this
  ·simp[mP,ni hlt hb]
def kW(s:List UInt8):Option (E×List UInt8)->AV
 |some (e,r)=>.cm [e.dw,.v (.string (mk r))]
 |none=>.cm [.v (.pointer none),.v (.string (mk s))]
theorem bW(e:E):LK.has .ptr e.dw=True:=by cases e<;>simp[E.dw,fA]
theorem dc(e:E):e.dw.isNil=false:=by cases e<;>rfl
theorem p7(s:List UInt8):s.take (s.takeWhile eH).length=s.takeWhile eH:=by
 have h:=bu (p:=eH) (l:=s)
 have:(s.takeWhile eH++s.dropWhile eH).take (s.takeWhile eH).length=s.takeWhile eH:=List.take_left
 rw[h]at this;exact this
theorem tt(s:List UInt8):s.drop (s.takeWhile eH).length=s.dropWhile eH:=by
 have h:=bu (p:=eH) (l:=s)
 have:(s.takeWhile eH++s.dropWhile eH).drop (s.takeWhile eH).length=s.dropWhile eH:=List.drop_left
 rw[h]at this;exact this
theorem uX(c:UInt8)(r:List UInt8):(List.take (r.length+1) (c::r)).drop (bk 1)=r:=by simp
theorem Eo(s0:List UInt8)(k:Nat)(hk:k<300)(ih:∀s,s.length<=8000->au Tryz.prog 147 [.v (.string (mk s)),.v (.int .i64 ((300-k:Nat):Int))] [] (bq (kW s (rd k s)))) :
 ∀(n:Nat) (s:List UInt8) (acc:List E),s.length<n->s.length+acc.length<=8000->AT [.v (.string (mk s0)),.v (.int .i64 ((300-(k+1):Nat):Int)),.v (.string (mk s))] [.cells [.v (.string (mk [])),.any],.vec 1 (E.jy acc)]
  (ox (match pU (rd k) n s acc with|some (e,r)=>(2,[e.dw,.v (.string (mk r))],[])|none=>(2,[.v (.pointer none),.v (.string (mk s0))],[])))
 |0,s,acc,hn,_=>by omega
 |
  n+1,s,acc,hn,hl=>by
  refine Hj _ _ _ _ _ ?_
  simp only[CG,↓zq,zs,ag,uT]
  have hd:IntKind.wrap .i64 (((300-(k+1):Nat):Int)+1)=((300-k:Nat):Int):=by rw[wrap64]<;>omega
  rw[hd]
  refine al (ih s (by omega)) ?_
  have hlt:=sr k s
  cases hr:rd k s with
  |
   none =>
   simp only[kW,↓zq,zs,ag,pU,hr]
   simp[ox]
  |
   some q =>
   obtain⟨e,r⟩:=q
   have:=hlt e r hr
   cases r with
   |
    nil =>
    simp only[kW,↓zq,zs,ag,zt,pU,hr,bW,dc]
    simp[ox]
   |
    cons c r =>
    simp only[az]at this
    have hb:=jv (c::r) 0 (by simp)
    simp only[bV,ci]at hb
    have e2:(List.take (c::r).length (c::r)).drop 1=r:=by simp
    simp only[kW,↓zq,zs,ag,zt,pU,hr,bW,dc,hb,e2,nO]
    refine⟨fun h=>(by cases h),fun _=>⟨fun h=>(by cases h),fun _=>⟨⟨fun c hc=>(by simp at hc;rw[hc];rfl),by omega⟩,by omega,by omega,fun h41=>?_,fun h41=>⟨by omega,fun h32=>?_,fun h32=>?_⟩⟩⟩⟩
    ·have h41':c.toNat=41:=by omega
     rw[uX,if_pos h41']
     simp[ox,E.dw,qx,E.jy]
    ·have h41':¬c.toNat=41:=by omega
     have h32':¬c.toNat=32:=by omega
     rw[if_neg h41',if_neg h32']
    ·have h41':¬c.toNat=41:=by omega
     have h32':c.toNat=32:=by omega
     rw[uX,if_neg h41',if_pos h32']
     have:=Eo s0 k hk ih n r (acc++[e]) (by omega) (by simp;omega)
     simpa[qx,E.jy]using this
theorem FX:∀(k:Nat),k<=300->∀s:List UInt8,s.length<=8000->au Tryz.prog 147 [.v (.string (mk s)),.v (.int .i64 ((300-k:Nat):Int))] [] (bq (kW s (rd k s))):=by
 intro k
 induction k with
 |
  zero =>
  intro hk s hs
  refine DN _ _ ?_
  unfold AJ
  refine dY (AZ s hs _ s.length 0 (by omega)) ?_
  simp only[↓zq,zs,ag,zt,aR,bq]
  have hw:(s.takeWhile eH).length<=s.length:=by
   have:=congrArg List.length (bu (p:=eH) (l:=s))
   simp only[ap]at this;omega
  refine⟨fun h=>⟨by omega,by omega,?_⟩,fun h=>?_⟩
  ·have hne:¬s.takeWhile eH=[]:=fun e=>by rw[e]at h;simp at h
   simp only[rd,if_neg hne,kW,E.dw,p7,tt]
  ·have hnil:s.takeWhile eH=[]:=List.eq_nil_of_length_eq_zero (by omega)
   simp only[rd,if_pos hnil,kW]
   refine⟨fun _=>trivial,fun hne=>⟨?_,?_⟩⟩
   ·cases s with
    |nil=>exact absurd rfl hne
    |cons c s=>simp
   ·exact⟨fun _=>trivial,fun _=>⟨fun _=>trivial,fun h=>absurd rfl h⟩⟩
 |
  succ k ih =>
  intro hk s hs
  refine DN _ _ ?_
  unfold AJ
  refine dY (AZ s hs _ s.length 0 (by omega)) ?_
  simp only[↓zq,zs,ag,zt,aR,bq]
  have hw:(s.takeWhile eH).length<=s.length:=by
   have:=congrArg List.length (bu (p:=eH) (l:=s))
   simp only[ap]at this;omega
  refine⟨fun h=>⟨by omega,by omega,?_⟩,fun h=>?_⟩
  ·have hne:¬s.takeWhile eH=[]:=fun e=>by rw[e]at h;simp at h
   simp only[rd,if_neg hne,kW,E.dw,p7,tt]
  ·have hnil:s.takeWhile eH=[]:=List.eq_nil_of_length_eq_zero (by omega)
   simp only[rd,if_pos hnil]
   cases s with
   |nil=>simp[kW]
   |
    cons c s =>
    have hb:=jv (c::s) 0 (by simp)
    simp only[bV,ci]at hb
    simp only[az]at hs
    simp only[↓zq,zs,ag,hb,uX]
    refine⟨fun h=>(by cases h),fun _=>⟨by omega,fun h40=>?_,fun h40=>⟨fun h300=>?_,fun h300=>⟨by omega,?_⟩⟩⟩⟩
    ·have:¬c.toNat=40:=by omega
     rw[if_neg this];rfl
    ·omega
    ·have h40':c.toNat=40:=by omega
     rw[if_pos h40']
     refine gx (Eo (c::s) k (by omega) (ih (by omega)) (s.length+1) s [] (by omega) (by simp;omega)) (fun ys o e=>?_) (fun ys o e=>?_)
     ·split at e<;>cases e
     ·split at e<;>cases e
      ·rename_i e' r' hr
       simp only[↓zq,zs,ag,bW]
       simp only[hr,kW]
      ·rename_i hr
       simp only[↓zq,zs,ag]
       simp only[hr,kW]
end Go.Proofs.Trees
namespace Go.Proofs.Trees
open Go Go.VL
mutual
def E.sz:E->Nat
 | .atom _=>1
 | .list l=>1+E.gD l
def E.gD:List E->Nat
 |[]=>0
 |e::l=>e.sz+E.gD l
end
mutual
def E.ok:E->Prop
 | .atom s=>s≠[]
 | .list l=>E.wU l
def E.wU:List E->Prop
 |[]=>True
 |e::l=>e.ok/\E.wU l
end
theorem tv(l r:List E):E.gD (l++r)=E.gD l+E.gD r:=by
 induction l with
 |nil=>simp[E.gD]
 |cons e l ih=>simp[E.gD,ih];omega
theorem sF(l r:List E):E.wU (l++r)↔E.wU l/\E.wU r:=by
 induction l with
 |nil=>simp[E.wU]
 |cons e l ih=>simp[E.wU,ih,and_assoc]
theorem wD{f:List UInt8->Option (E×List UInt8)}(hf:∀s e r,f s=some (e,r)->e.ok/\e.sz+r.length<=s.length):∀(n:Nat) (s:List UInt8) (acc:List E) (e:E) (r:List UInt8),pU f n s acc=some (e,r)->E.wU acc->e.ok/\e.sz+r.length<=s.length+1+E.gD acc
 |0,s,acc,e,r,h,_=>by cases h
 |
  n+1,s,acc,e,r,h,ha=>by
  simp only[pU]at h
  split at h
  ·rename_i p c r' hs
   obtain⟨h1,h2⟩:=hf _ _ _ hs
   simp only[az]at h2
   split at h
   ·cases h
    refine⟨(sF _ _).2 ⟨ha,h1,trivial⟩,?_⟩
    simp only[E.sz,tv,E.gD];omega
   ·split at h
    ·have:=wD hf n _ _ _ _ h ((sF _ _).2 ⟨ha,h1,trivial⟩)
     refine⟨this.1,?_⟩
     have h3:=this.2
     simp only[tv,E.gD]at h3;omega
    ·cases h
  ·cases h
theorem pX(s:List UInt8):(s.takeWhile eH).length+(s.dropWhile eH).length=s.length:=by
 have:=congrArg List.length (bu (p:=eH) (l:=s))
 simpa only[ap]using this
theorem yM:∀(k:Nat) (s:List UInt8) (e:E) (r:List UInt8),rd k s=some (e,r)->e.ok/\e.sz+r.length<=s.length
 |
  0,s,e,r,h=>by
  simp only[rd]at h
  split at h
  ·cases h
  ·rename_i hn;cases h
   have:=pX s
   have:0<(s.takeWhile eH).length:=List.length_pos_iff.2 hn
   exact⟨hn,by simp only[E.sz];omega⟩
 |
  k+1,s,e,r,h=>by
  simp only[rd]at h
  split at h
  ·split at h
   ·split at h
    ·have:=wD (yM k) _ _ _ _ _ h trivial
     refine⟨this.1,?_⟩
     have h3:=this.2
     simp only[E.gD,az]at h3 |-;omega
    ·cases h
   ·cases h
  ·rename_i hn;cases h
   have:=pX s
   have:0<(s.takeWhile eH).length:=List.length_pos_iff.2 hn
   exact⟨hn,by simp only[E.sz];omega⟩
def nA(s:List UInt8):Option E:=if s.length>8000 then none else match rd 300 s with|some (e,[])=>some e|_=>none
theorem jD{s:List UInt8}{e:E}(h:nA s=some e):e.ok/\e.sz<=8000:=by
 unfold nA at h
 split at h
 ·cases h
 ·split at h
  ·rename_i e' hr
   cases h
   have:=yM _ _ _ _ hr
   exact⟨this.1,by have:=this.2;simp at this;omega⟩
  ·cases h
def pJ:Option E->AV
 |some e=>e.dw
 |none=>.v (.pointer none)
theorem Dy(s:List UInt8):au Tryz.prog 103 [.v (.string (mk s))] [] (bq (pJ (nA s))):=by
 refine G0 _ ?_
 simp only[BH,↓zq,zs,ag,zt,bq,nA]
 refine⟨fun h=>?_,fun h=>?_⟩
 ·rw[if_pos (by omega)];simp[pJ]
 ·rw[if_neg (by omega)]
  refine al (FX 300 (by omega) s (by omega)) ?_
  cases hr:rd 300 s with
  |
   none =>
   simp only[kW,↓zq,zs,ag,zt,pJ]
   refine⟨fun _=>trivial,fun _=>trivial⟩
  |
   some q =>
   obtain⟨e,r⟩:=q
   cases r with
   |nil=>simp only[kW,↓zq,zs,ag,zt,pJ,bW];simp
   |cons c r=>simp only[kW,↓zq,zs,ag,zt,pJ,bW];simp
def fS(b:UInt8):Bool:=decide (48<=b.toNat/\b.toNat<=57)
def named(lo hi:Nat):List UInt8->Bool
 |[]=>false
 |c::r=>decide (r.length<=2)&&decide (lo<=c.toNat/\c.toNat<=hi)&&r.all fS
def fW(s:List UInt8):Bool:=named 120 122 s
def cF(s:List UInt8):Bool:=named 116 116 s
def xz(v lo hi:Int):Bool:=decide (lo<=v/\v<=hi)
theorem vf(v lo hi:Int):au Tryz.prog 87 [.v (.int .i64 v),.v (.int .i64 lo),.v (.int .i64 hi)] [] (bq (.v (.bool (xz v lo hi)))):=by
 refine Hn _ _ _ ?_
 simp only[DH,↓zq,zs,ag,bq,xz]
 constructor<;>intro h<;>simp at h<;>simp[h]
 omega
theorem CS(s:List UInt8)(hs:s.length<=3):∀(k i:Nat),i+k=s.length->z6 [.v (.string (mk s)),.v (.int .i64 (i:Int))] [] (ox (if(s.drop i).all fS=true then(1,[],[])else(2,[.v (.bool false)],[])))
 |
  0,i,hi=>by
  have hd:s.drop i=[]:=bf (by omega)
  refine BP _ _ ?_
  simp only[AB,↓zq,zs,ag,zt]
  exact⟨fun h=>by omega,fun _=>by simp[ox,hd]⟩
 |
  k+1,i,hi=>by
  have hlt:i<s.length:=by omega
  have e:s.drop i=s.getD i 0::s.drop (i+1):=by
   rw[a7 hlt];simp[aa,hlt]
  refine BP _ _ ?_
  simp only[AB,↓zq,zs,ag,zt,jv s i hlt,e,List.all_cons]
  generalize hb:s.getD i 0=b
  refine⟨fun _=>⟨by omega,fun h=>?_,fun h=>⟨by omega,fun h2=>?_,fun h2=>?_⟩⟩,fun h=>by omega⟩
  ·have:fS b=false:=by simp[fS];omega
   simp only[this,zf,ox]
  ·have:fS b=false:=by simp[fS];omega
   simp only[this,zf,ox]
  ·have:fS b=true:=by simp[fS];omega
   rw[ct i (by omega),this,cJ]
   exact CS s hs k (i+1) (by omega)
theorem Ek(s:List UInt8)(lo hi:Nat):au Tryz.prog 144 [.v (.string (mk s)),.v (.int .u8 (lo:Int)),.v (.int .u8 (hi:Int))] [] (bq (.v (.bool (named lo hi s)))):=by
 refine Gq _ _ _ ?_
 unfold B6
 rw[db]
 refine al (vf _ _ _) ?_
 simp only[↓zq,zs,ag,zt,bq]
 refine⟨fun h=>?_,fun h=>?_⟩
 ·cases s with
  |nil=>rfl
  |
   cons c s =>
   simp[xz]at h
   have:¬s.length<=2:=by omega
   simp[named,this]
 ·cases s with
  |nil=>simp[xz]at h
  |
   cons c s =>
   simp[xz]at h
   have hl:s.length<=2:=by omega
   have hb:=jv (c::s) 0 (by simp)
   simp only[bV,ci]at hb
   simp only[↓zq,zs,ag,hb]
   refine⟨by omega,fun h1=>?_,fun h1=>⟨by omega,fun h2=>?_,fun h2=>?_⟩⟩
   ·have:¬lo<=c.toNat:=by omega
    simp[named,this]
   ·have:¬c.toNat<=hi:=by omega
    simp[named,this]
   ·refine gx (CS (c::s) (by simp;omega) s.length 1 (by simp;omega)) (fun ys o e=>?_) (fun ys o e=>?_)
    ·split at e<;>cases e
     rename_i ha
     simp at ha
     simp only[↓zq,zs,ag]
     simp[named,hl]
     exact⟨⟨by omega,by omega⟩,fun x hx=>by simpa using ha x hx⟩
    ·split at e<;>cases e
     rename_i ha
     simp only[↓zq,zs,ag]
     have:s.all fS=false:=by simpa using ha
     simp[named,this]
theorem An(s:List UInt8):au Tryz.prog 100 [.v (.string (mk s))] [] (bq (.v (.bool (fW s)))):=by
 refine GG _ ?_
 unfold El
 refine al (Ek s 120 122) ?_
 simp only[↓zq,zs,ag,bq,fW]
theorem zd(s:List UInt8):au Tryz.prog 99 [.v (.string (mk s))] [] (bq (.v (.bool (cF s)))):=by
 refine Ff _ ?_
 unfold Cx
 refine al (Ek s 116 116) ?_
 simp only[↓zq,zs,ag,bq,cF]
end Go.Proofs.Trees
namespace Go.Proofs.Trees
open Go Go.VL Go.RowKit
theorem GN(l:List UInt8)(c:UInt8):au Tryz.prog 151 [.v (.string (mk l)),.v (.string (mk [c]))] [] (bq (.v (.bool (decide (0<=Lib.indexByte l c))))):=by
 refine au.Hb (xs:=[.string (mk l),.string (mk [c])]) ⟨ki,by kernel_rfl,by kernel_rfl,by kernel_rfl⟩ fun w=>?_
 have:=Any.strings_Contains_one Tryz.xN (mk l) c w
 refine Calls.mono this fun e w' ⟨h1,h2⟩=>?_
 rw[h2]
 have hd:(mk l).data.toList=l:=by simp[mk]
 exact⟨by rw[h1,hd],Below.refl _ _⟩
theorem Cy(l cs:List UInt8)(hl:l.length<=1000000)(hc:cs.length<=1000)(ha:∀b,b∈cs->b.toNat<128):au Tryz.prog 152 [.v (.string (mk l)),.v (.string (mk cs))] [] (bq (.v (.string (mk (Lib.trimS l cs))))):=by
 refine au.Hb (xs:=[.string (mk l),.string (mk cs)]) ⟨mU,by kernel_rfl,by kernel_rfl,by kernel_rfl⟩ fun w=>?_
 have:=Any.strings_Trim_laid Tryz.xT (by kernel_rfl) (mk l) (mk cs) w (by rw[db];omega) (by rw[db];omega) (fun j b hj=>ha b (by
  have:(mk cs).data.toList=cs:=by simp[mk]
  rw[this]at hj
  exact List.mem_of_getElem? hj))
 refine Calls.mono this fun e w' ⟨h1,h2⟩=>⟨?_,h2⟩
 rw[h1]
 simp[mk]
theorem kp:∀(l:List UInt8) (c:UInt8),(0<=Lib.indexByte l c↔c∈l)/\-1<=Lib.indexByte l c
 |[],c=>by simp[Lib.indexByte]
 |
  b::l,c=>by
  obtain⟨h1,h2⟩:=kp l c
  unfold Lib.indexByte
  by_cases e:b=c
  ·subst e;simp
  ·have e':(b==c)=false:=by simp[e]
   rw[e']
   by_cases q:Lib.indexByte l c = -1
   ·have:c∉l:=fun h=>by have:=h1.2 h;omega
    simp[q,this,Ne.symm e]
   ·have q':(Lib.indexByte l c==-1)=false:=by simp[q]
    simp only[q',Bool.false_eq_true,if_false,aG]
    constructor
    ·constructor
     ·intro h;exact .inr (h1.1 (by omega))
     ·intro h
      rcases h with h|h
      ·exact absurd h.symm e
      ·have:=h1.2 h;omega
    ·omega
theorem dropWhile_nil{p:UInt8->Bool}:∀(l:List UInt8),l.dropWhile p=[]↔l.all p=true
 |[]=>by simp
 |
  b::l=>by
  cases h:p b with
  |true=>rw[List.dropWhile_cons_of_pos h,dropWhile_nil l];simp[h]
  |false=>rw[List.dropWhile_cons_of_neg (by rw[h];simp)];simp[h]
theorem oC(l cs:List UInt8):Lib.trimS l cs=[]↔l.all (cs.contains ·)=true:=by
 unfold Lib.trimS Lib.trimLeftS
 rw[dropWhile_nil]
 unfold Lib.trimRightS
 constructor
 ·intro h
  by_cases hn:l.reverse.dropWhile (cs.contains ·)=[]
  ·rw[dropWhile_nil]at hn
   simpa using hn
  ·exfalso
   rw[List.all_reverse]at h
   obtain⟨b,r,e⟩:=List.exists_cons_of_ne_nil hn
   have h1:cs.contains b=false:=by
    have:=List.head_dropWhile_not (p:=(cs.contains ·)) (l:=l.reverse) hn
    simp only[e,List.head_cons]at this
    exact this
   rw[e]at h
   simp only[List.all_cons,ak]at h
   rw[h1]at h;cases h.1
 ·intro h
  have:l.reverse.dropWhile (cs.contains ·)=[]:=by rw[dropWhile_nil];simpa using h
  rw[this];rfl
def AC:List UInt8:=[48,49,50,51,52,53,54,55,56,57]
theorem rh(b:UInt8):AC.contains b=fS b:=by
 have:∀n:Fin 256,AC.contains (aW n.val)=fS (aW n.val):=by decide +kernel
 have:=this ⟨b.toNat,b.toNat_lt⟩
 simpa using this
theorem C4(s ls:List UInt8)(lo hi:Nat)(hls:∀c:UInt8,c∈ls↔lo<=c.toNat/\c.toNat<=hi):au Tryz.prog 111 [.v (.string (mk s)),.v (.string (mk ls))] [] (bq (.v (.bool (named lo hi s)))):=by
 refine FP _ _ ?_
 simp only[BS,↓zq,zs,ag,zt,bq]
 cases s with
 |nil=>exact⟨fun h=>by simp at h,fun _=>rfl⟩
 |
  cons c s =>
  have e1:(List.take (bk 1) (c::s))=[c]:=rfl
  have e2:(List.take (s.length+1) (c::s)).drop (bk 1)=s:=by simp
  simp only[az,e1,e2]
  refine⟨fun _=>⟨fun h3=>⟨by omega,?_⟩,fun h3=>?_⟩,fun h=>by omega⟩
  ·have hl:s.length<=2:=by omega
   refine al (GN ls c) ?_
   simp only[↓zq,zs,ag]
   have hi1:=(kp ls c).1
   refine⟨fun h=>⟨by omega,?_⟩,fun h=>?_⟩
   ·refine al (Cy s AC (by omega) (by decide) (by decide)) ?_
    simp only[↓zq,zs,ag,zt]
    have hc:=(hls c).1 (hi1.1 h)
    congr 2
    rw[cj,beq_iff_eq,oC]
    simp only[named,hl,hc,decide_true,cJ,and_self]
    have:(fun x=>AC.contains x)=fS:=funext rh
    rw[this]
   ·have hc:¬(lo<=c.toNat/\c.toNat<=hi):=fun h'=>h (hi1.2 ((hls c).2 h'))
    simp only[named,hc,zf]
  ·have hl:¬s.length<=2:=by omega
   simp only[named,hl,zf]
theorem Eh(s:List UInt8):au Tryz.prog 59 [.v (.string (mk s))] [] (bq (.v (.bool (fW s)))):=by
 refine FO _ ?_
 unfold EF
 have h:∀n:Fin 256,(aW n.val∈[(120:UInt8),121,122])↔120<=(aW n.val).toNat/\(aW n.val).toNat<=122:=by decide +kernel
 refine al (C4 s [120,121,122] 120 122 fun c=>by simpa using h ⟨c.toNat,c.toNat_lt⟩) ?_
 simp only[↓zq,zs,ag,bq,fW]
theorem xV(s:List UInt8):au Tryz.prog 166 [.v (.string (mk s))] [] (bq (.v (.bool (cF s)))):=by
 refine GB _ ?_
 unfold D9
 have h:∀n:Fin 256,(aW n.val∈[(116:UInt8)])↔116<=(aW n.val).toNat/\(aW n.val).toNat<=116:=by decide +kernel
 refine al (C4 s [116] 116 116 fun c=>by simpa using h ⟨c.toNat,c.toNat_lt⟩) ?_
 simp only[↓zq,zs,ag,bq,cF]
end Go.Proofs.Trees
namespace Go.Proofs.Trees
open Go Go.VL
inductive Ty where
 |zero|one
 |name (s:List UInt8)
 |ca (up:Nat)
 |plus (a b:Ty)
 |times (a b:Ty)
 |rc (a:Ty)
def Ty.av:Ty->AV
 | .zero=>.ptr [.v (.int .u8 48),.v (.string (mk [])),.v (.int .i64 0),.v (.pointer none),.v (.pointer none)]
 | .one=>.ptr [.v (.int .u8 49),.v (.string (mk [])),.v (.int .i64 0),.v (.pointer none),.v (.pointer none)]
 | .name s=>.ptr [.v (.int .u8 110),.v (.string (mk s)),.v (.int .i64 0),.v (.pointer none),.v (.pointer none)]
 | .ca up=>.ptr [.v (.int .u8 98),.v (.string (mk [])),.v (.int .i64 (up:Int)),.v (.pointer none),.v (.pointer none)]
 | .plus a b=>.ptr [.v (.int .u8 43),.v (.string (mk [])),.v (.int .i64 0),a.av,b.av]
 | .times a b=>.ptr [.v (.int .u8 42),.v (.string (mk [])),.v (.int .i64 0),a.av,b.av]
 | .rc a=>.ptr [.v (.int .u8 114),.v (.string (mk [])),.v (.int .i64 0),a.av,.v (.pointer none)]
theorem aP(t:Ty):LK.has .ptr t.av=True:=by cases t<;>simp[Ty.av,fA]
theorem du(t:Ty):t.av.isNil=false:=by cases t<;>rfl
def fw:Option Ty->AV
 |some t=>t.av
 |none=>.v (.pointer none)
theorem gr(t:Option Ty):LK.has .ptr (fw t)=True:=by cases t<;>simp[fw,aP,kb]
def E.at:E->List UInt8
 | .atom s=>s
 | .list _=>[]
def bx(s:List UInt8)(ar:List (List UInt8)):Nat->Option Nat
 |0=>none
 |i+1=>if ar.getD i []=s then some (ar.length-1-i)else bx s ar i
def bJ:E->List (List UInt8)->Option Ty
 | .atom s,ar=>if s=[48]then some .zero else if s=[49]then some .one else if fW s=true then some (.name s)else if cF s=true then(match bx s ar ar.length with|some u=>some (.ca u)|none=>some (.name s))else none
 |
  .list [x,a,b],ar =>
  if x.at=[43]then(match bJ a ar,bJ b ar with|some t,some u=>some (.plus t u)|_,_=>none)
  else if x.at=[42]then(match bJ a ar,bJ b ar with|some t,some u=>some (.times t u)|_,_=>none)
  else if x.at=[114,101,99]then(if cF a.at=true then(match bJ b (ar++[a.at])with|some t=>some (.rc t)|none=>none)else none)
  else none
 | .list _,_=>none
def bM(l:List (List UInt8)):List (List AV):=l.map fun s=>[.v (.string (mk s))]
def dD(a:AV)(l:List (List UInt8)):Prop:=LK.sl.has a/\a.aX=bM l
theorem dD.len{a:AV}{l:List (List UInt8)}(h:dD a l):a.aX.length=l.length:=by rw[h.2];simp[bM]
theorem dD.idx{a:AV}{l:List (List UInt8)}(h:dD a l){i:Nat}(hi:i<l.length):a.aX.getD i []=[.v (.string (mk (l.getD i [])))]:=by
 rw[h.2];simp[bM,aa,hi]
theorem dD.of(l:List (List UInt8)):dD (.sl (bM l)) l:=⟨(cu _).mpr trivial,rfl⟩
theorem dD.nil:dD (.v (.slice none 0 0)) []:=⟨(a8).mpr trivial,rfl⟩
theorem tn(e:E)(w:List UInt8):au Tryz.prog 149 [e.dw,.v (.string (mk w)),.v (.int .i64 3)] [] (bq (.v (.bool (match e with| .list [x,_,_]=>x.at==w|_=>false)))):=by
 refine D2 _ _ _ ((bW e).mpr trivial) ?_
 cases e with
 |atom s=>simp only[vW,E.dw,↓zq,zs,ag,zt,bq];exact⟨by omega,fun h=>by omega,fun _=>trivial⟩
 |
  list l =>
  simp only[vW,E.dw,↓zq,zs,ag,zt,bq,nO]
  match l with
  |[]=>exact⟨by simp,fun h=>by simp at h,fun _=>rfl⟩
  |[_]=>exact⟨by simp,fun h=>by simp at h,fun _=>rfl⟩
  |[_,_]=>exact⟨by simp,fun h=>by simp at h,fun _=>rfl⟩
  |
   [x,y,z] =>
   refine⟨by simp,fun _=>?_,fun h=>by simp at h⟩
   cases x<;>simp[E.jy,E.dw,fA,mh,gO,eM,pL,toList_mk,E.at]
  |_::_::_::_::l=>exact⟨by simp,fun h=>by simp at h;omega,fun _=>rfl⟩
theorem EV(e:E)(a:AV)(ar:List (List UInt8))(ha:dD a ar)(hl:ar.length<1000000):∀(i:Nat),i<=ar.length->Ae [e.dw,a,.v (.int .i64 ((i:Int)-1))] []
 (ox (match bx e.at ar i with|some u=>(2,[],[.cells [.v (.int .u8 98),.v (.string (mk [])),.v (.int .i64 (u:Int)),.v (.pointer none),.v (.pointer none)]])|none=>(1,[e.dw],[])))
 |
  0,hi=>by
  refine Cc _ _ _ ?_
  simp only[zH,↓zq,zs,ag,bW]
  exact⟨ha.1,fun h=>by omega,fun _=>rfl⟩
 |
  i+1,hi=>by
  have hlt:i<ar.length:=by omega
  have e1:((i+1:Nat):Int)-1=(i:Int):=by omega
  rw[e1]
  refine Cc _ _ _ ?_
  have hd:e.dw.deref.headD .any=.v (.string (mk e.at)):=by cases e<;>rfl
  have hdl:1<=e.dw.deref.length:=by cases e<;>simp[E.dw,gO]
  simp only[zH,↓zq,zs,ag,zt,bW,dc,ha.len,ha.idx hlt,hd,nX]
  refine⟨ha.1,fun _=>⟨⟨ha.1,by omega,by omega⟩,by omega,hdl,fun h=>⟨ha.1,?_⟩,fun h=>?_⟩,fun h=>by omega⟩
  ·simp only[bx,h,if_true,ox]
   rw[wrap64 ((ar.length:Int)-1) (by omega) (by omega),wrap64 _ (by omega) (by omega)]
   have:(ar.length:Int)-1-(i:Int)=((ar.length-1-i:Nat):Int):=by omega
   rw[this]
  ·simp only[bx,h,if_false]
   rw[wrap64 _ (by omega) (by omega)]
   exact EV e a ar ha hl i (by omega)
end Go.Proofs.Trees
namespace Go.Proofs.Trees
open Go Go.VL
theorem kS(e:E):e.dw.deref.headD .any=.v (.string (mk e.at)):=by cases e<;>rfl
theorem jf(e:E):1<=e.dw.deref.length:=by cases e<;>simp[E.dw,gO]
theorem toNat_one:bk 1=1:=rfl
theorem be:bk 2=2:=rfl
theorem vD{ar:List (List UInt8)}(s:List UInt8):bM ar++[[.v (.string (mk s))]]=bM (ar++[s]):=by simp[bM]
theorem jU(ar:List (List UInt8)):di 1 (bM ar):=fun c hc=>by
 obtain⟨s,_,rfl⟩:=bL.1 hc;rfl
theorem iD{x a b:E}(ar:List (List UInt8))(hx:x.at=[43]):bJ (.list [x,a,b]) ar=match bJ a ar,bJ b ar with|some t,some u=>some (.plus t u)|_,_=>none:=by rw[bJ,if_pos hx]<;>cases bJ a ar<;>cases bJ b ar<;>rfl
theorem gS{x a b:E}(ar:List (List UInt8))(hx:x.at=[42]):bJ (.list [x,a,b]) ar=match bJ a ar,bJ b ar with|some t,some u=>some (.times t u)|_,_=>none:=by rw[bJ,if_neg (by rw[hx];decide),if_pos hx]<;>cases bJ a ar<;>cases bJ b ar<;>rfl
theorem jL{x a b:E}(ar:List (List UInt8))(hx:x.at=[114,101,99]):bJ (.list [x,a,b]) ar=if cF a.at=true then(match bJ b (ar++[a.at])with|some t=>some (.rc t)|none=>none)else none:=by rw[bJ,if_neg (by rw[hx];decide),if_neg (by rw[hx];decide),if_pos hx]<;>cases bJ b (ar++[a.at])<;>rfl
theorem eD{x a b:E}(ar:List (List UInt8))(h1:x.at≠[43])(h2:x.at≠[42])(h3:x.at≠[114,101,99]):bJ (.list [x,a,b]) ar=none:=by rw[bJ,if_neg h1,if_neg h2,if_neg h3]
theorem xf:∀(e:E) (ar:List (List UInt8)) (a:AV),e.ok->dD a ar->ar.length+e.sz<100000->au Tryz.prog 153 [e.dw,a] [] (bq (fw (bJ e ar)))
 |
  .atom s,ar,a,hok,ha,hl=>by
  simp only[E.sz]at hl
  refine Dj _ _ ((bW _).mpr trivial) ha.1 ?_
  have hd:=kS (.atom s)
  have hlen:=jf (.atom s)
  simp only[E.at]at hd
  simp only[Ay,↓zq,zs,ag,zt,bq,bW,dc,hd,bJ]
  refine⟨hlen,fun h=>⟨hlen,?_,?_⟩,fun h=>⟨hlen,fun h1=>⟨hlen,?_,?_⟩,fun h1=>⟨hlen,?_⟩⟩⟩
  ·rw[h];decide
  ·rw[if_pos h,h];rfl
  ·rw[h1];decide
  ·rw[if_neg h,if_pos h1,h1];rfl
  ·rw[if_neg h,if_neg h1]
   refine al (Eh s) ?_
   simp only[↓zq,zs,ag]
   refine⟨fun hp=>⟨hlen,?_⟩,fun hp=>⟨hlen,?_⟩⟩
   ·rw[if_pos hp];rfl
   ·rw[if_neg (by rw[hp];simp)]
    refine al (xV s) ?_
    simp only[↓zq,zs,ag,ha.len]
    refine⟨fun hq=>⟨ha.1,?_⟩,fun hq=>?_⟩
    ·rw[if_pos hq,wrap64 _ (by omega) (by omega)]
     refine gx (EV (.atom s) a ar ha (by omega) ar.length (by omega)) (fun ys o e=>?_) (fun ys o e=>?_)
     ·simp only[E.at]at e
      cases hq2:bx s ar ar.length<;>rw[hq2]at e<;>cases e
      simp only[↓zq,zs,ag,zt,bW,dc,hd]
      exact⟨hlen,rfl⟩
     ·simp only[E.at]at e
      cases hq2:bx s ar ar.length<;>rw[hq2]at e<;>cases e
      simp only[↓zq,zs,ag,zt,LK.has]
      simp[fw,Ty.av,ag,LK.has]
    ·rw[if_neg (by rw[hq];simp)]
     refine al (tn (.atom s) [43]) ?_
     simp only[↓zq,zs,ag]
     refine⟨fun h=>(by simp at h),fun _=>?_⟩
     refine al (tn (.atom s) [42]) ?_
     simp only[↓zq,zs,ag]
     refine⟨fun h=>(by simp at h),fun _=>?_⟩
     refine al (tn (.atom s) [114,101,99]) ?_
     simp only[↓zq,zs,ag]
     refine⟨fun h=>(by simp at h),fun _=>?_⟩
     trivial
 |
  .list l,ar,a,hok,ha,hl=>by
  simp only[E.sz]at hl
  refine Dj _ _ ((bW _).mpr trivial) ha.1 ?_
  have hd:=kS (.list l)
  have hlen:=jf (.list l)
  simp only[E.at]at hd
  have hp:fW []=false:=rfl
  have hq:cF []=false:=rfl
  simp only[Ay,↓zq,zs,ag,zt,bq,bW,dc,hd]
  refine⟨hlen,fun h=>(by simp at h),fun h=>⟨hlen,fun h1=>(by simp at h1),fun h1=>⟨hlen,?_⟩⟩⟩
  refine al (Eh []) ?_
  simp only[↓zq,zs,ag,hp]
  refine⟨fun h=>(by simp at h),fun _=>⟨hlen,?_⟩⟩
  refine al (xV []) ?_
  simp only[↓zq,zs,ag,hq]
  refine⟨fun h=>(by simp at h),fun _=>?_⟩
  refine al (tn (.list l) [43]) ?_
  match l,hok,hl with
  |
   [x,y,z],hok,hl =>
   simp only[E.gD]at hl
   obtain⟨ok1,ok2,ok3,_⟩:=hok
   have iy:=xf y ar a ok2 ha (by omega)
   have iz:=xf z ar a ok3 ha (by omega)
   have hds:((E.list [x,y,z]).dw.deref.drop 1).headD .any=.sl [[x.dw],[y.dw],[z.dw]]:=rfl
   have hdl:1<=((E.list [x,y,z]).dw.deref.drop 1).length:=by simp[E.dw,gO]
   have hxd:=kS x
   have hxl:=jf x
   have hyd:=kS y
   have hyl:=jf y
   have bin:∀(c:UInt8) (mkT:Ty->Ty->Ty),(∀t u:Ty,(mkT t u).av=.ptr [.v (.int .u8 (c.toNat:Int)),.v (.string (mk [])),.v (.int .i64 0),t.av,u.av])->x.at=[c]->bt (mk x.at) 0=(c.toNat:Int):=fun c _ _ hx=>by
    have:=jv x.at 0 (by rw[hx];simp)
    simp only[bV,ci]at this
    rw[this,hx];rfl
   simp only[↓zq,zs,ag,zt,hds,hdl,bW,dc,toNat_one,be,hxd,hyd,nX]
   refine⟨fun hx=>?_,fun hx=>?_⟩
   ·refine⟨by omega,by omega,?_⟩
    refine al iy ?_
    simp only[↓zq,zs,ag,gr]
    refine⟨by omega,by omega,?_⟩
    refine al iz ?_
    have hb:=bin 43 Ty.plus (fun _ _=>rfl) hx
    rw[iD ar hx]
    simp only[↓zq,zs,ag,zt,gr]
    cases h1:bJ y ar with
    |none=>simp[fw,gN]
    |
     some t =>
     cases h2:bJ z ar with
     |none=>simp[fw,gN,du]
     |
      some u =>
      simp only[fw,du,hb]
      refine⟨fun h=>(by cases h),fun _=>⟨fun h=>(by cases h),fun _=>⟨by omega,by omega,hxl,⟨by omega,by rw[hx];simp⟩,rfl⟩⟩⟩
   ·refine al (tn (.list [x,y,z]) [42]) ?_
    simp only[↓zq,zs,ag,hds,hdl,bW,dc,toNat_one,be,hxd,hyd,nX]
    refine⟨fun hx2=>?_,fun hx2=>?_⟩
    ·refine⟨by omega,by omega,?_⟩
     refine al iy ?_
     simp only[↓zq,zs,ag,gr]
     refine⟨by omega,by omega,?_⟩
     refine al iz ?_
     have hb:=bin 42 Ty.times (fun _ _=>rfl) hx2
     rw[gS ar hx2]
     simp only[↓zq,zs,ag,zt,gr]
     cases h1:bJ y ar with
     |none=>simp[fw,gN]
     |
      some t =>
      cases h2:bJ z ar with
      |none=>simp[fw,gN,du]
      |
       some u =>
       simp only[fw,du,hb]
       refine⟨fun h=>(by cases h),fun _=>⟨fun h=>(by cases h),fun _=>⟨by omega,by omega,hxl,⟨by omega,by rw[hx2];simp⟩,rfl⟩⟩⟩
    ·refine al (tn (.list [x,y,z]) [114,101,99]) ?_
     simp only[↓zq,zs,ag,zt,hds,hdl,bW,dc,toNat_one,be,hxd,hyd,nX]
     refine⟨fun hx3=>⟨by omega,by omega,hyl,?_⟩,fun hx3=>?_⟩
     ·refine al (xV y.at) ?_
      rw[jL ar hx3]
      simp only[↓zq,zs,ag]
      have hal:di 1 a.aX:=by rw[ha.2];exact jU ar
      have hal1:di 1 [[AV.v (.string (mk y.at))]]:=fun c hc=>by simp at hc;rw[hc];rfl
      refine⟨fun hlo=>⟨by omega,by omega,⟨ha.1,hal,by rw[ha.len];omega⟩,by omega,by omega,hyl,⟨hal1,by rw[dj,ha.len];omega⟩,?_⟩,fun hlo=>?_⟩
      ·rw[dj,ha.2,vD,if_pos hlo]
       refine al (xf z (ar++[y.at]) _ ok3 (.of _) (by simp;omega)) ?_
       simp only[↓zq,zs,ag,gr]
       cases h2:bJ z (ar++[y.at])with
       |none=>simp[fw,gN]
       |
        some u =>
        simp only[fw,du]
        refine⟨fun h=>(by cases h),fun _=>rfl⟩
      ·rw[if_neg (by rw[hlo];simp)];rfl
     ·rw[eD ar hx hx2 hx3];rfl
  |
   [],_,_ =>
   simp only[↓zq,zs,ag]
   refine⟨fun h=>(by cases h),fun _=>?_⟩
   refine al (tn (.list []) [42]) ?_
   simp only[↓zq,zs,ag]
   refine⟨fun h=>(by cases h),fun _=>?_⟩
   refine al (tn (.list []) [114,101,99]) ?_
   simp only[↓zq,zs,ag]
   refine⟨fun h=>(by cases h),fun _=>?_⟩
   rfl
  |
   [x1],_,_ =>
   simp only[↓zq,zs,ag]
   refine⟨fun h=>(by cases h),fun _=>?_⟩
   refine al (tn (.list [x1]) [42]) ?_
   simp only[↓zq,zs,ag]
   refine⟨fun h=>(by cases h),fun _=>?_⟩
   refine al (tn (.list [x1]) [114,101,99]) ?_
   simp only[↓zq,zs,ag]
   refine⟨fun h=>(by cases h),fun _=>?_⟩
   rfl
  |
   [x1,x2],_,_ =>
   simp only[↓zq,zs,ag]
   refine⟨fun h=>(by cases h),fun _=>?_⟩
   refine al (tn (.list [x1,x2]) [42]) ?_
   simp only[↓zq,zs,ag]
   refine⟨fun h=>(by cases h),fun _=>?_⟩
   refine al (tn (.list [x1,x2]) [114,101,99]) ?_
   simp only[↓zq,zs,ag]
   refine⟨fun h=>(by cases h),fun _=>?_⟩
   rfl
  |
   x1::x2::x3::x4::l,_,_ =>
   simp only[↓zq,zs,ag]
   refine⟨fun h=>(by cases h),fun _=>?_⟩
   refine al (tn (.list (x1::x2::x3::x4::l)) [42]) ?_
   simp only[↓zq,zs,ag]
   refine⟨fun h=>(by cases h),fun _=>?_⟩
   refine al (tn (.list (x1::x2::x3::x4::l)) [114,101,99]) ?_
   simp only[↓zq,zs,ag]
   refine⟨fun h=>(by cases h),fun _=>?_⟩
   rfl
end Go.Proofs.Trees
namespace Go.Proofs.Trees
open Go Go.VL
def eX(v:AV)(obs:List Ob):AV->List Ob->Prop:=fun r o=>r=v/\o=obs
theorem bE{P:Program}{n:Nat}{Q:Nat->List AV->List Ob->Prop}{f:Nat}{xs:List AV}{ins:List Ob}{k:AV->List Ob->Tree}{v:AV}{obs:List Ob}(h:au P f xs ins (eX v obs))(hk:dK P n (k v obs) Q):dK P n (.call f xs ins k) Q :=
 ⟨eX v obs,h,⟨v,obs,rfl,rfl⟩,fun r o ⟨h1,h2⟩=>by rw[h1,h2];exact hk⟩
def Ty.aS:Ty->Nat
 | .plus a b=>1+a.aS+b.aS
 | .times a b=>1+a.aS+b.aS
 | .rc a=>2+a.aS
 |_=>1
theorem Bu:∀(t:Ty),t.aS<1000000->au Tryz.prog 154 [t.av] [] (bq (.v (.int .i64 (t.aS:Int))))
 | .zero,h=>by refine Ba _ ((aP _).mpr trivial) ?_;simp[yF,Ty.av,↓zq,zs,ag,bq,Ty.aS]
 | .one,h=>by refine Ba _ ((aP _).mpr trivial) ?_;simp[yF,Ty.av,↓zq,zs,ag,bq,Ty.aS]
 | .name s,h=>by refine Ba _ ((aP _).mpr trivial) ?_;simp[yF,Ty.av,↓zq,zs,ag,bq,Ty.aS]
 | .ca u,h=>by refine Ba _ ((aP _).mpr trivial) ?_;simp[yF,Ty.av,↓zq,zs,ag,bq,Ty.aS]
 |
  .plus a b,h=>by
  simp only[Ty.aS]at h
  refine Ba _ ((aP _).mpr trivial) ?_
  simp only[yF,Ty.av,↓zq,zs,ag,aP]
  refine⟨by omega,fun _=>⟨by omega,?_⟩,fun h=>absurd rfl h⟩
  refine al (Bu a (by omega)) ?_
  simp only[↓zq,zs,ag,aP]
  refine⟨by omega,?_⟩
  refine al (Bu b (by omega)) ?_
  simp only[↓zq,zs,ag,bq,Ty.aS]
  rw[wrap64 (1+(a.aS:Int)) (by omega) (by omega),wrap64 _ (by omega) (by omega)]
  congr 2
 |
  .times a b,h=>by
  simp only[Ty.aS]at h
  refine Ba _ ((aP _).mpr trivial) ?_
  simp only[yF,Ty.av,↓zq,zs,ag,aP]
  refine⟨by omega,fun h=>by omega,fun _=>⟨fun _=>⟨by omega,?_⟩,fun h=>absurd rfl h⟩⟩
  refine al (Bu a (by omega)) ?_
  simp only[↓zq,zs,ag,aP]
  refine⟨by omega,?_⟩
  refine al (Bu b (by omega)) ?_
  simp only[↓zq,zs,ag,bq,Ty.aS]
  rw[wrap64 (1+(a.aS:Int)) (by omega) (by omega),wrap64 _ (by omega) (by omega)]
  congr 2
 |
  .rc a,h=>by
  simp only[Ty.aS]at h
  refine Ba _ ((aP _).mpr trivial) ?_
  simp only[yF,Ty.av,↓zq,zs,ag,aP]
  refine⟨by omega,fun h=>by omega,fun _=>⟨fun h=>by omega,fun _=>⟨fun _=>⟨by omega,?_⟩,fun h=>absurd rfl h⟩⟩⟩
  refine al (Bu a (by omega)) ?_
  simp only[↓zq,zs,ag,bq,Ty.aS]
  rw[wrap64 _ (by omega) (by omega)]
  congr 2
theorem ga:∀(e:E) (ar:List (List UInt8)) (t:Ty),bJ e ar=some t->t.aS<=e.sz
 |
  .atom s,ar,t,h=>by
  simp only[bJ]at h
  simp only[E.sz]
  split at h
  ·cases h;simp[Ty.aS]
  ·split at h
   ·cases h;simp[Ty.aS]
   ·split at h
    ·cases h;simp[Ty.aS]
    ·split at h
     ·split at h<;>cases h<;>simp[Ty.aS]
     ·cases h
 |
  .list [x,a,b],ar,t,h=>by
  have hs:∀e:E,1<=e.sz:=fun e=>by cases e<;>simp[E.sz];try omega
  have hx:=hs x
  have ha:=hs a
  simp only[E.sz,E.gD]
  by_cases h1:x.at=[43]
  ·rw[iD ar h1]at h
   split at h
   ·rename_i t1 t2 e1 e2
    cases h
    have:=ga a ar t1 e1
    have:=ga b ar t2 e2
    simp only[Ty.aS];omega
   ·cases h
  ·by_cases h2:x.at=[42]
   ·rw[gS ar h2]at h
    split at h
    ·rename_i t1 t2 e1 e2
     cases h
     have:=ga a ar t1 e1
     have:=ga b ar t2 e2
     simp only[Ty.aS];omega
    ·cases h
   ·by_cases h3:x.at=[114,101,99]
    ·rw[jL ar h3]at h
     split at h
     ·split at h
      ·rename_i t1 e1
       cases h
       have:=ga b _ t1 e1
       simp only[Ty.aS];omega
      ·cases h
     ·cases h
    ·rw[eD ar h1 h2 h3]at h;cases h
 | .list [],_,_,h=>by cases h
 | .list [_],_,_,h=>by cases h
 | .list [_,_],_,_,h=>by cases h
 | .list (_::_::_::_::_),_,_,h=>by cases h
def yS(s:List UInt8):Option Ty:=match nA s with
 |none=>none
 |
  some e=>match bJ e []with
  |none=>none
  |some t=>if t.aS>400 then none else some t
theorem Gx(s:List UInt8):au Tryz.prog 121 [.v (.string (mk s))] [] (bq (fw (yS s))):=by
 refine FR _ ?_
 unfold CE
 refine al (Dy s) ?_
 unfold yS
 cases he:nA s with
 |none=>simp only[pJ,↓zq,zs,ag,bq,fw];simp
 |
  some e =>
  obtain⟨h1,h2⟩:=jD he
  simp only[pJ,↓zq,zs,ag,bW,dc]
  refine⟨fun h=>(by cases h),fun _=>?_⟩
  refine al (xf e [] _ h1 .nil (by simp;omega)) ?_
  cases ht:bJ e []with
  |none=>simp only[fw,↓zq,zs,ag,bq];simp
  |
   some t =>
   have:=ga e [] t ht
   simp only[fw,↓zq,zs,ag,aP,du]
   refine⟨fun h=>(by cases h),fun _=>?_⟩
   refine al (Bu t (by omega)) ?_
   simp only[↓zq,zs,ag,bq]
   refine⟨fun h=>?_,fun h=>?_⟩
   ·rw[if_pos (by omega)]
   ·rw[if_neg (by omega)]
end Go.Proofs.Trees
namespace Go.Proofs.Trees
open Go Go.VL
def uF(p:Prop):Nat->List AV->List Ob->Prop:=fun t ys o=>(t=1/\¬p/\ys=[]/\o=[])\/(t=2/\p/\∃j:Nat,ys=[.v (.int .i64 (j:Int))]/\o=[])
theorem Dw(l:List (List UInt8))(a:AV)(ha:dD a l)(s:List UInt8)(hl:l.length<1000000):∀(k i:Nat),i+k=l.length->s∉l.take i->A6 [a,.v (.string (mk s)),.v (.int .i64 (l.length:Int)),.v (.int .i64 (i:Int))] []
 (uF (s∈l))
 |
  0,i,hi,hn=>by
  refine DC _ _ _ _ ?_
  simp only[zY,↓zq,zs,ag]
  have:l.take i=l:=List.take_of_length_le (by omega)
  rw[this]at hn
  exact⟨ha.1,fun h=>by omega,fun _=>.inl ⟨rfl,hn,rfl,rfl⟩⟩
 |
  k+1,i,hi,hn=>by
  have hlt:i<l.length:=by omega
  refine DC _ _ _ _ ?_
  simp only[zY,↓zq,zs,ag,zt,ha.len,ha.idx hlt]
  have hm:l.getD i []∈l:=by simp[aa,hlt]
  refine⟨ha.1,fun _=>⟨⟨ha.1,by omega,by omega⟩,by omega,fun h=>?_,fun h=>?_⟩,fun h=>by omega⟩
  ·exact .inr ⟨rfl,by rw[h];exact hm,i,rfl,rfl⟩
  ·rw[ct i (by omega)]
   refine Dw l a ha s hl k (i+1) (by omega) ?_
   rw[List.take_add_one]
   simp only[aM,not_or]
   refine⟨hn,?_⟩
   have:l[i]?=some (l.getD i []):=by simp[aa,hlt]
   rw[this];simpa using h
theorem Gf(l:List (List UInt8))(a:AV)(ha:dD a l)(s:List UInt8)(hl:l.length<1000000):au Tryz.prog 185 [a,.v (.string (mk s))] [] (bq (.v (.bool (decide (s∈l))))):=by
 have hI:au Tryz.prog 202 [a,.v (.string (mk s))] [] (fun r o=>∃n:Int,r=.v (.int .i64 n)/\(0<=n↔s∈l)/\o=[]):=by
  refine F7 _ _ ha.1 ?_
  simp only[D4,↓zq,zs,ag,ha.len]
  refine⟨ha.1,nH (Dw l a ha s hl l.length 0 (by omega) (by simp)) ?_ ?_⟩
  ·rintro ys o (⟨_,h1,rfl,rfl⟩|⟨h,_⟩)
   ·simp only[↓zq,zs,ag]
    exact⟨-1,rfl,⟨fun h=>(by omega),fun h=>absurd h h1⟩⟩
   ·cases h
  ·rintro ys o (⟨h,_⟩|⟨_,h1,j,rfl,rfl⟩)
   ·cases h
   ·simp only[↓zq,zs,ag]
    exact⟨j,rfl,⟨fun _=>h1,fun _=>(by omega)⟩⟩
 refine Ge _ _ ha.1 ?_
 unfold BF
 refine aQ hI ⟨.v (.int .i64 (if s∈l then 0 else -1)),[],_,rfl,by split<;>simp_all,rfl⟩ ?_
 rintro r o ⟨n,rfl,hn,rfl⟩
 simp only[↓zq,zs,ag,bq]
 congr 2
 rw[cj];simp[hn]
def mb(out:List (List UInt8)):Ty->List (List UInt8)
 | .name s=>if s∈out then out else out++[s]
 |_=>out
theorem zw(t:Ty)(out:List (List UInt8))(hl:out.length<100000):au Tryz.prog 189 [t.av,.ref 0 0] [.cells [.vec 1],.vec 1 (bM out)] (eX .any [.cells [.vec 1],.vec 1 (bM (mb out t))]):=by
 refine Fb _ _ ((aP _).mpr trivial) ?_
 have hlen:(bM out).length=out.length:=by simp[bM]
 cases t with
 |
  name s =>
  simp only[zX,Ty.av,↓zq,zs,ag,eX,hlen]
  refine⟨by omega,fun _=>⟨by omega,?_⟩,fun h=>absurd rfl h⟩
  refine al (Gf out _ (.of out) s (by omega)) ?_
  simp only[↓zq,zs,ag,mb]
  refine⟨fun h=>⟨by omega,⟨fun c hc=>(by simp at hc;rw[hc];rfl),by omega⟩,?_⟩,fun h=>?_⟩
  ·rw[vD,if_neg h]
  ·rw[if_pos h]
 |_=>simp[zX,Ty.av,↓zq,zs,ag,eX,mb]
def bA:Ty->List (List UInt8)->List (List UInt8)
 | .name s,out=>mb out (.name s)
 | .plus a b,out=>bA b (bA a out)
 | .times a b,out=>bA b (bA a out)
 | .rc a,out=>bA a out
 |_,out=>out
theorem dQ:∀(t:Ty) (out:List (List UInt8)),(bA t out).length<=out.length+t.aS
 | .name s,out=>by simp only[bA,mb,Ty.aS];split<;>simp
 |
  .plus a b,out=>by
  have:=dQ a out
  have:=dQ b (bA a out)
  simp only[bA,Ty.aS];omega
 |
  .times a b,out=>by
  have:=dQ a out
  have:=dQ b (bA a out)
  simp only[bA,Ty.aS];omega
 |
  .rc a,out=>by
  have:=dQ a out
  simp only[bA,Ty.aS];omega
 | .zero,out=>by simp[bA]
 | .one,out=>by simp[bA]
 | .ca u,out=>by simp[bA]
theorem Bn:∀(t:Ty) (out:List (List UInt8)),out.length+t.aS<100000->au Tryz.prog 91 [t.av,.fn 189 [.ref 0 0]] [.cells [.vec 1],.vec 1 (bM out)] (eX .any [.cells [.vec 1],.vec 1 (bM (bA t out))])
 |
  .plus a b,out,hl=>by
  simp only[Ty.aS]at hl
  have:=dQ a out
  refine AA _ _ ((aP _).mpr trivial) ?_
  unfold yH
  refine bE (zw (.plus a b) out (by omega)) ?_
  simp only[Ty.av,↓zq,zs,ag,aP,du,mb,aO,eX]
  refine⟨by omega,fun _=>⟨by omega,?_⟩,fun h=>(by cases h)⟩
  refine bE (Bn a out (by omega)) ?_
  simp only[↓zq,zs,ag,aP,du,aO]
  refine⟨by omega,fun _=>⟨by omega,?_⟩,fun h=>(by cases h)⟩
  refine bE (Bn b (bA a out) (by omega)) ?_
  simp only[↓zq,zs,ag,aO,bA]
 |
  .times a b,out,hl=>by
  simp only[Ty.aS]at hl
  have:=dQ a out
  refine AA _ _ ((aP _).mpr trivial) ?_
  unfold yH
  refine bE (zw (.times a b) out (by omega)) ?_
  simp only[Ty.av,↓zq,zs,ag,aP,du,mb,aO,eX]
  refine⟨by omega,fun _=>⟨by omega,?_⟩,fun h=>(by cases h)⟩
  refine bE (Bn a out (by omega)) ?_
  simp only[↓zq,zs,ag,aP,du,aO]
  refine⟨by omega,fun _=>⟨by omega,?_⟩,fun h=>(by cases h)⟩
  refine bE (Bn b (bA a out) (by omega)) ?_
  simp only[↓zq,zs,ag,aO,bA]
 |
  .rc a,out,hl=>by
  simp only[Ty.aS]at hl
  refine AA _ _ ((aP _).mpr trivial) ?_
  unfold yH
  refine bE (zw (.rc a) out (by omega)) ?_
  simp only[Ty.av,↓zq,zs,ag,aP,du,mb,aO,eX]
  refine⟨by omega,fun _=>⟨by omega,?_⟩,fun h=>(by cases h)⟩
  refine bE (Bn a out (by omega)) ?_
  simp[↓zq,zs,ag,aP,du,aO,bA]
 |
  .name s,out,hl=>by
  refine AA _ _ ((aP _).mpr trivial) ?_
  unfold yH
  refine bE (zw (.name s) out (by omega)) ?_
  simp[Ty.av,↓zq,zs,ag,aO,eX,bA]
 |
  .zero,out,hl=>by
  refine AA _ _ ((aP _).mpr trivial) ?_
  unfold yH
  refine bE (zw .zero out (by omega)) ?_
  simp[Ty.av,↓zq,zs,ag,aO,eX,bA,mb]
 |
  .one,out,hl=>by
  refine AA _ _ ((aP _).mpr trivial) ?_
  unfold yH
  refine bE (zw .one out (by omega)) ?_
  simp[Ty.av,↓zq,zs,ag,aO,eX,bA,mb]
 |
  .ca u,out,hl=>by
  refine AA _ _ ((aP _).mpr trivial) ?_
  unfold yH
  refine bE (zw (.ca u) out (by omega)) ?_
  simp[Ty.av,↓zq,zs,ag,aO,eX,bA,mb]
theorem Hd(t:Ty)(hl:t.aS<100000):au Tryz.prog 165 [t.av] [] (bq (.sl (bM (bA t [])))):=by
 refine Gt _ ((aP _).mpr trivial) ?_
 unfold Ef
 refine bE (Bn t [] (by simpa using hl)) ?_
 simp[↓zq,zs,ag,aO,bq]
theorem CN(l:List (List UInt8))(a:AV)(ha:dD a l)(hl:l.length<1000000):∀(k i:Nat),i+k=l.length->(∀s,s∈l.take i->cF s=false)->Af [a,.v (.func (.func 166) #[] #[]),.v (.int .i64 (l.length:Int)),.v (.int .i64 (i:Int))] []
 (uF (l.any cF=true))
 |
  0,i,hi,hn=>by
  refine CM _ _ _ ?_
  simp only[Ah,↓zq,zs,ag]
  have:l.take i=l:=List.take_of_length_le (by omega)
  rw[this]at hn
  exact⟨ha.1,fun h=>by omega,fun _=>.inl ⟨rfl,fun hh=>(by obtain⟨x,hx,hy⟩:=bC.1 hh;rw[hn x hx]at hy;cases hy),rfl,rfl⟩⟩
 |
  k+1,i,hi,hn=>by
  have hlt:i<l.length:=by omega
  refine CM _ _ _ ?_
  simp only[Ah,↓zq,zs,ag,zt,ha.len,ha.idx hlt]
  have hm:l.getD i []∈l:=by simp[aa,hlt]
  refine⟨ha.1,fun _=>⟨⟨ha.1,by omega,by omega⟩,by omega,?_⟩,fun h=>by omega⟩
  refine al (xV _) ?_
  simp only[↓zq,zs,ag]
  refine⟨fun h=>?_,fun h=>?_⟩
  ·exact .inr ⟨rfl,bC.2 ⟨_,hm,h⟩,i,rfl,rfl⟩
  ·rw[ct i (by omega)]
   refine CN l a ha hl k (i+1) (by omega) ?_
   intro s hs
   rw[List.take_add_one]at hs
   have:l[i]?=some (l.getD i []):=by simp[aa,hlt]
   rw[this]at hs
   rcases aM.1 hs with hs|hs
   ·exact hn s hs
   ·simp at hs;rw[hs];simpa using h
theorem FM(l:List (List UInt8))(a:AV)(ha:dD a l)(hl:l.length<1000000):au Tryz.prog 164 [a,.v (.func (.func 166) #[] #[])] [] (bq (.v (.bool (l.any cF)))):=by
 have hI:au Tryz.prog 188 [a,.v (.func (.func 166) #[] #[])] [] (fun r o=>∃n:Int,r=.v (.int .i64 n)/\(0<=n↔l.any cF=true)/\o=[]):=by
  refine FB _ ha.1 ?_
  simp only[DD,↓zq,zs,ag,ha.len]
  refine⟨ha.1,nH (CN l a ha hl l.length 0 (by omega) (by simp)) ?_ ?_⟩
  ·rintro ys o (⟨_,h1,rfl,rfl⟩|⟨h,_⟩)
   ·simp only[↓zq,zs,ag]
    exact⟨-1,rfl,⟨fun h=>(by omega),fun h=>absurd h h1⟩⟩
   ·cases h
  ·rintro ys o (⟨h,_⟩|⟨_,h1,j,rfl,rfl⟩)
   ·cases h
   ·simp only[↓zq,zs,ag]
    exact⟨j,rfl,⟨fun _=>h1,fun _=>(by omega)⟩⟩
 refine F9 _ ha.1 ?_
 unfold BE
 refine aQ hI ⟨.v (.int .i64 (if l.any cF=true then 0 else -1)),[],_,rfl,by split<;>simp_all,rfl⟩ ?_
 rintro r o ⟨n,rfl,hn,rfl⟩
 simp only[↓zq,zs,ag,bq]
 congr 2
 rw[cj];simp only[decide_eq_true_eq,ge_iff_le,hn]
def Ty.closed(t:Ty):Bool:=!((bA t []).any cF)
theorem GJ(t:Ty)(hl:t.aS<100000):au Tryz.prog 132 [t.av] [] (bq (.v (.bool t.closed))):=by
 refine FA _ ((aP _).mpr trivial) ?_
 unfold CF
 refine al (Hd t hl) ?_
 simp only[↓zq,zs,ag]
 have:=dQ t []
 refine al (FM _ _ (.of _) (by simp at this;omega)) ?_
 simp only[↓zq,zs,ag,bq,Ty.closed]
def uv(s:List UInt8):Option Ty:=match yS s with
 |none=>none
 |some t=>if t.closed=true then some t else none
theorem tD{s:List UInt8}{t:Ty}(h:yS s=some t):t.aS<=400:=by
 unfold yS at h
 split at h
 ·cases h
 ·split at h
  ·cases h
  ·split at h<;>cases h
   omega
theorem EQ(s:List UInt8):au Tryz.prog 79 [.v (.string (mk s))] [] (bq (fw (uv s))):=by
 refine F5 _ ?_
 unfold Dk
 refine al (Gx s) ?_
 unfold uv
 cases ht:yS s with
 |none=>simp[fw,↓zq,zs,ag,bq]
 |
  some t =>
  have:=tD ht
  simp only[fw,↓zq,zs,ag,aP,du]
  refine⟨fun h=>(by cases h),fun _=>?_⟩
  refine al (GJ t (by omega)) ?_
  simp only[↓zq,zs,ag,bq]
  refine⟨fun h=>?_,fun h=>?_⟩
  ·rw[if_neg (by rw[h];simp)]
  ·rw[if_pos h]
def lb(b:Bool):Ty->Bool
 | .rc _=>false
 | .name s=>b&&decide (s.length<=1)
 |_=>b
theorem y7(t:Ty)(b:Bool):au Tryz.prog 92 [t.av,.ref 0 0] [.cells [.v (.bool b)]] (eX .any [.cells [.v (.bool (lb b t))]]):=by
 refine Hg _ _ ((aP _).mpr trivial) ?_
 cases b<;>cases t<;>simp[EN,Ty.av,↓zq,zs,ag,zt,eX,lb]<;>omega
def dx:Ty->Bool->Bool
 | .plus a c,b=>dx c (dx a b)
 | .times a c,b=>dx c (dx a b)
 | .rc a,b=>dx a false
 | .name s,b=>b&&decide (s.length<=1)
 |_,b=>b
theorem Bg:∀(t:Ty) (b:Bool),au Tryz.prog 91 [t.av,.fn 92 [.ref 0 0]] [.cells [.v (.bool b)]] (eX .any [.cells [.v (.bool (dx t b))]])
 |
  .plus a c,b=>by
  refine AQ _ _ ((aP _).mpr trivial) ?_
  unfold yO
  refine bE (y7 (.plus a c) b) ?_
  simp only[Ty.av,↓zq,zs,ag,aP,du,lb,aO,eX]
  refine⟨by omega,fun _=>⟨by omega,?_⟩,fun h=>(by cases h)⟩
  refine bE (Bg a b) ?_
  simp only[↓zq,zs,ag,aP,du,aO]
  refine⟨by omega,fun _=>⟨by omega,?_⟩,fun h=>(by cases h)⟩
  refine bE (Bg c _) ?_
  simp only[↓zq,zs,ag,aO,dx]
 |
  .times a c,b=>by
  refine AQ _ _ ((aP _).mpr trivial) ?_
  unfold yO
  refine bE (y7 (.times a c) b) ?_
  simp only[Ty.av,↓zq,zs,ag,aP,du,lb,aO,eX]
  refine⟨by omega,fun _=>⟨by omega,?_⟩,fun h=>(by cases h)⟩
  refine bE (Bg a b) ?_
  simp only[↓zq,zs,ag,aP,du,aO]
  refine⟨by omega,fun _=>⟨by omega,?_⟩,fun h=>(by cases h)⟩
  refine bE (Bg c _) ?_
  simp only[↓zq,zs,ag,aO,dx]
 |
  .rc a,b=>by
  refine AQ _ _ ((aP _).mpr trivial) ?_
  unfold yO
  refine bE (y7 (.rc a) b) ?_
  simp only[Ty.av,↓zq,zs,ag,aP,du,lb,aO,eX]
  refine⟨by omega,fun _=>⟨by omega,?_⟩,fun h=>(by cases h)⟩
  refine bE (Bg a false) ?_
  simp[↓zq,zs,ag,aP,du,aO,dx]
 |
  .name s,b=>by
  refine AQ _ _ ((aP _).mpr trivial) ?_
  unfold yO
  refine bE (y7 (.name s) b) ?_
  simp[Ty.av,↓zq,zs,ag,aO,eX,dx,lb]
 |
  .zero,b=>by
  refine AQ _ _ ((aP _).mpr trivial) ?_
  unfold yO
  refine bE (y7 .zero b) ?_
  simp[Ty.av,↓zq,zs,ag,aO,eX,dx,lb]
 |
  .one,b=>by
  refine AQ _ _ ((aP _).mpr trivial) ?_
  unfold yO
  refine bE (y7 .one b) ?_
  simp[Ty.av,↓zq,zs,ag,aO,eX,dx,lb]
 |
  .ca u,b=>by
  refine AQ _ _ ((aP _).mpr trivial) ?_
  unfold yO
  refine bE (y7 (.ca u) b) ?_
  simp[Ty.av,↓zq,zs,ag,aO,eX,dx,lb]
def tE(s:List UInt8):Option Ty:=match uv s with
 |none=>none
 |some t=>if dx t true=true then some t else none
theorem Dc(s:List UInt8):au Tryz.prog 41 [.v (.string (mk s))] [] (bq (fw (tE s))):=by
 refine GL _ ?_
 unfold DQ
 refine al (EQ s) ?_
 unfold tE
 cases ht:uv s with
 |none=>simp[fw,↓zq,zs,ag,bq]
 |
  some t =>
  simp only[fw,↓zq,zs,ag,aP,du]
  refine⟨fun h=>(by cases h),fun _=>?_⟩
  refine bE (Bg t true) ?_
  simp only[↓zq,zs,ag,bq,aO]
  refine⟨fun h=>?_,fun h=>?_⟩
  ·rw[if_neg (by rw[h];simp)]
  ·rw[if_pos h]
end Go.Proofs.Trees
namespace Go.Proofs.Trees
open Go Go.VL
theorem Gd(b:UInt8):au Tryz.prog 172 [.v (.int .u8 (b.toNat:Int))] [] (bq (.v (.bool (eH b)))):=by
 refine Hf _ ?_
 simp only[Cd,↓zq,zs,ag,bq,eH]
 repeat' (apply aC<;>intro _)
 all_goals first|(congr 2;rw[cj];simp;omega)|(congr 2;simp;omega)
def yz(s:List UInt8)(x:Option (E×List UInt8)):AV->List Ob->Prop:=fun r o=>o=[] /\
 match x with
 |some (e,u)=>r=.cm [e.ic,.v (.int .i64 ((s.length-u.length:Nat):Int))]
 |none=>∃(c:List UInt8) (d:AV),LK.sl.has d/\r=.cm [.agg [.v (.string (mk c)),d],.v (.int .i64 (-1))]
theorem yz.ne(s:List UInt8)(x:Option (E×List UInt8)):∃r o,yz s x r o:=by
 cases x with
 |some q=>exact⟨_,_,rfl,rfl⟩
 |none=>exact⟨_,_,rfl,[],.v (.slice none 0 0),(a8).mpr trivial,rfl⟩
def jc(c:List UInt8)(d:AV):Ob:=.cells [.v (.string (mk c)),d]
theorem BV(s:List UInt8)(hs:s.length<=8000)(from_:Int)(c1 c2:List UInt8)(d1 d2:AV)(h1:LK.sl.has d1)(h2:LK.sl.has d2):∀(k i:Nat),i+k=s.length->zu [.v (.string (mk s)),.v (.int .i64 (i:Int)),.v (.int .i64 from_)] [jc c1 d1,jc c2 d2]
 (mP 1 [.v (.string (mk s)),.v (.int .i64 ((i+((s.drop i).takeWhile eH).length:Nat):Int)),.v (.int .i64 from_)] [jc c1 d1,jc c2 d2])
 |
  0,i,hi=>by
  refine DA _ _ _ _ _ _ _ ?_
  have hd:s.drop i=[]:=bf (by omega)
  simp only[zI,↓zq,zs,ag,zt]
  exact⟨h1,h2,fun h=>by omega,fun _=>by simp[mP,hd,jc]⟩
 |
  k+1,i,hi=>by
  have hlt:i<s.length:=by omega
  refine DA _ _ _ _ _ _ _ ?_
  simp only[zI,↓zq,zs,ag,zt,jv s i hlt]
  refine⟨h1,h2,fun _=>⟨by omega,?_⟩,fun h=>by omega⟩
  refine al (Gd _) ?_
  simp only[↓zq,zs,ag]
  refine⟨fun hb=>?_,fun hb=>?_⟩
  ·rw[ct i (by omega)]
   have:=BV s hs from_ c1 c2 d1 d2 h1 h2 k (i+1) (by omega)
   rw[tj hlt hb,show i+(((s.drop (i+1)).takeWhile eH).length+1)=i+1+((s.drop (i+1)).takeWhile eH).length by omega]
   exact this
  ·simp[mP,ni hlt hb,jc]
def HJ(s:List UInt8)(x:Option (E×List UInt8)):Nat->List AV->List Ob->Prop:=fun t ys o=>t=2 /\
 match x with
 |some (e,u)=>∃l,e=.list l/\ys=[.v (.int .i64 ((s.length-u.length:Nat):Int))]/\o=[jc [] .any,.vec 2 (E.aV l)]
 |none=>∃es,ys=[.v (.int .i64 (-1))]/\o=[jc [] .any,.vec 2 es]
theorem s4(e:E):(e.ic=.agg e.ic.cs/\e.ic.cs.length=2/\cd [.str,.sl] e.ic.cs 0)=True:=by
 apply eq_true
 cases e<;>simp[E.ic,E.fG,wL,cd,eM,a8,cu]
theorem rT(e:E):[AV.v (.string ((e.ic.cs.getD 0 .any).ah)),e.ic.cs.getD 1 .any]=e.fG:=by
 cases e<;>rfl
theorem drop_cons{s:List UInt8}{j:Nat}(hj:j<s.length):s.drop j=s.getD j 0::s.drop (j+1):=by
 rw[a7 hj];simp[aa,hj]
theorem CZ(s:List UInt8)(hs:s.length<=8000)(d:Nat)(hd:d<=300)(f:List UInt8->Option (E×List UInt8))(hf:∀u e r,f u=some (e,r)->∃j,r=u.drop j/\0<j/\j<=u.length)
 (ih:∀j,j<=s.length->au Tryz.prog 137 [.v (.string (mk s)),.v (.int .i64 (j:Int)),.v (.int .i64 ((d+1:Nat):Int))] [] (yz s (f (s.drop j)))) :
 ∀(n i:Nat) (acc:List E) (c1:List UInt8) (d1:AV),LK.sl.has d1->s.length-(i+1)<n->i<s.length->s.length-i+acc.length<=8001->z8 [.v (.string (mk s)),.v (.int .i64 (i:Int)),.v (.int .i64 (d:Int))] [jc c1 d1,jc [] .any,.vec 2 (E.aV acc)]
  (HJ s (pU f n (s.drop (i+1)) acc))
 |0,i,acc,c1,d1,h1,hn,_,_=>by omega
 |
  n+1,i,acc,c1,d1,h1,hn,hi,hl=>by
  refine Gc _ _ _ _ _ _ _ ?_
  simp only[CU,↓zq,zs,ag,jc]
  refine⟨h1,?_⟩
  rw[ct i (by omega),ct d (by omega)]
  refine aQ (ih (i+1) (by omega)) (yz.ne _ _) ?_
  rintro r o ⟨rfl,hr⟩
  have hff:=hf (s.drop (i+1))
  unfold pU
  cases hq:f (s.drop (i+1))with
  |
   none =>
   rw[hq]at hr
   obtain⟨c,d',hd',rfl⟩:=hr
   simp only[↓zq,zs,ag,zt,cd]
   refine⟨hd',fun _=>⟨rfl,_,rfl,rfl⟩,fun h=>by omega⟩
  |
   some q =>
   obtain⟨e,u⟩:=q
   rw[hq]at hr
   subst hr
   obtain⟨j,hu,hj0,hj⟩:=hff e u hq
   rw[List.drop_drop]at hu
   simp only[bH]at hj
   have hul:u.length=s.length-(i+1+j):=by rw[hu,bH]
   have hpos:s.length-u.length=i+1+j:=by omega
   simp only[↓zq,zs,ag,zt,s4,hpos,rT,da]
   refine⟨fun h=>by omega,fun _=>⟨fun h=>?_,fun h=>⟨⟨fun c hc=>(by simp at hc;rw[hc];cases e<;>rfl),by omega⟩,?_⟩⟩⟩
   ·have:u=[]:=by rw[hu];exact bf (by omega)
    subst this
    exact⟨rfl,_,rfl,rfl⟩
   ·have hlt:i+1+j<s.length:=by omega
    rw[drop_cons hlt]at hu
    subst hu
    rw[jv s _ hlt]
    generalize hb:s.getD (i+1+j) 0=b
    refine⟨by omega,fun h41=>?_,fun h41=>⟨by omega,fun h32=>?_,fun h32=>?_⟩⟩
    ·have h41':b.toNat=41:=by omega
     dsimp only
     rw[if_pos h41',ct _ (by omega)]
     refine⟨rfl,acc++[e],rfl,?_,?_⟩
     ·rw[bH];congr 3;omega
     ·simp[jc,mw,E.aV]
    ·have h41':¬b.toNat=41:=by omega
     have h32':¬b.toNat=32:=by omega
     dsimp only
     rw[if_neg h41',if_neg h32']
     exact⟨rfl,_,rfl,rfl⟩
    ·have h41':¬b.toNat=41:=by omega
     have h32':b.toNat=32:=by omega
     dsimp only
     rw[if_neg h41',if_pos h32']
     have:=CZ s hs d hd f hf ih n (i+1+j) (acc++[e]) c1 d1 h1 (by omega) hlt (by simp;omega)
     simpa[jc,mw,E.aV]using this
theorem ye(k:Nat)(u:List UInt8)(e:E)(r:List UInt8)(h:rd k u=some (e,r)):∃j,r=u.drop j/\0<j/\j<=u.length:=by
 have suf:∀(k:Nat) (u:List UInt8) (e:E) (r:List UInt8),rd k u=some (e,r)->r <:+ u:=by
  intro k
  have tw:∀u:List UInt8,u.dropWhile eH <:+ u:=fun u=>List.dropWhile_suffix _
  have ll:∀(f:List UInt8->Option (E×List UInt8)),(∀u e r,f u=some (e,r)->r <:+ u)->∀(n:Nat) (u:List UInt8) (acc:List E) (e:E) (r:List UInt8),pU f n u acc=some (e,r)->r <:+ u:=by
   intro f hf n
   induction n with
   |zero=>intro u acc e r h;cases h
   |
    succ n ih =>
    intro u acc e r h
    simp only[pU]at h
    split at h
    ·rename_i p c r' hs
     have h1:r' <:+ u:=(List.suffix_cons c r').trans (hf _ _ _ hs)
     split at h
     ·cases h;exact h1
     ·split at h
      ·exact(ih _ _ _ _ h).trans h1
      ·cases h
    ·cases h
  induction k with
  |
   zero =>
   intro u e r h
   simp only[rd]at h
   split at h
   ·cases h
   ·cases h;exact tw u
  |
   succ k ih =>
   intro u e r h
   simp only[rd]at h
   split at h
   ·split at h
    ·split at h
     ·exact(ll _ ih _ _ _ _ _ h).trans (List.suffix_cons _ _)
     ·cases h
    ·cases h
   ·cases h;exact tw u
 obtain⟨p,hp⟩:=suf k u e r h
 have hlt:=sr k u e r h
 have:=congrArg List.length hp
 simp only[ap]at this
 exact⟨p.length,by rw[<-hp];simp,by omega,by omega⟩
theorem wt(n:Nat)(u:List UInt8)(acc:List E):pU (fun _=>none) n u acc=none:=by
 cases n<;>rfl
theorem G7(s:List UInt8)(j:Nat):au Tryz.prog 137 [.v (.string (mk s)),.v (.int .i64 (j:Int)),.v (.int .i64 ((300+1:Nat):Int))] [] (yz s none):=by
 refine Cm _ _ _ ?_
 simp only[AY,↓zq,zs,ag]
 exact⟨fun _=>⟨rfl,[],_,(a8).mpr trivial,rfl⟩,fun h=>by omega⟩
theorem mC(s:List UInt8)(hs:s.length<=8000)(d i:Nat)(hd:d<=300)(hi:i<=s.length)(f:List UInt8->Option (E×List UInt8))(hf:∀u e r,f u=some (e,r)->∃j,r=u.drop j/\0<j/\j<=u.length)
 (ih:∀j,j<=s.length->au Tryz.prog 137 [.v (.string (mk s)),.v (.int .i64 (j:Int)),.v (.int .i64 ((d+1:Nat):Int))] [] (yz s (f (s.drop j)))) (x:Option (E×List UInt8))
 (h0:i=s.length->x=none)
 (h1:i<s.length->(s.drop i).takeWhile eH≠[]->x=some (.atom ((s.drop i).takeWhile eH),(s.drop i).dropWhile eH))
 (h2:i<s.length->(s.drop i).takeWhile eH=[]->¬(s.getD i 0).toNat=40->x=none)
 (h3:i<s.length->(s.getD i 0).toNat=40->x=pU f (s.length-(i+1)+1) (s.drop (i+1)) []) :
 au Tryz.prog 137 [.v (.string (mk s)),.v (.int .i64 (i:Int)),.v (.int .i64 (d:Int))] [] (yz s x):=by
 refine Cm _ _ _ ?_
 simp only[AY,↓zq,zs,ag,zt]
 refine⟨fun h=>by omega,fun _=>⟨fun h=>?_,fun h=>⟨by omega,?_⟩⟩⟩
 ·rw[h0 (by omega)]
  exact⟨rfl,[],_,(a8).mpr trivial,rfl⟩
 ·have hlt:i<s.length:=by omega
  rw[jv s i hlt]
  refine⟨fun h40=>?_,fun h40=>?_⟩
  ·have h40':¬(s.getD i 0).toNat=40:=by omega
   refine dY (BV s hs _ [] [] _ _ ((a8).mpr trivial) ((a8).mpr trivial) (s.length-i) i (by omega)) ?_
   have hex:(List.take (i+((s.drop i).takeWhile eH).length) s).drop i=(s.drop i).takeWhile eH:=by
    rw[List.drop_take,Nat.add_sub_cancel_left];exact p7 _
   have hle:i+((s.drop i).takeWhile eH).length<=s.length:=by
    have:=pX (s.drop i);simp only[bH]at this;omega
   simp only[jc,↓zq,zs,ag,zt,hex]
   refine⟨by omega,fun hnil=>?_,fun hnil=>?_⟩
   ·rw[h2 hlt hnil h40',hnil]
    exact⟨rfl,[],_,(a8).mpr trivial,rfl⟩
   ·rw[h1 hlt hnil]
    refine⟨rfl,?_⟩
    have:=pX (s.drop i)
    simp only[bH]at this
    show _=AV.cm [E.ic (.atom _),_]
    have e:s.length-((s.drop i).dropWhile eH).length=i+((s.drop i).takeWhile eH).length:=by omega
    rw[e];rfl
  ·have h40':(s.getD i 0).toNat=40:=by omega
   rw[h3 hlt h40']
   refine nH (CZ s hs d hd f hf ih (s.length-(i+1)+1) i [] [] _ ((a8).mpr trivial) (by omega) hlt (by simp;omega)) ?_ ?_
   ·rintro ys o ⟨h,_⟩;cases h
   ·rintro ys o ⟨_,hr⟩
    cases hq:pU f (s.length-(i+1)+1) (s.drop (i+1)) []with
    |
     none =>
     rw[hq]at hr
     obtain⟨es,rfl,rfl⟩:=hr
     simp only[jc,↓zq,zs,ag]
     exact⟨rfl,[],_,(cu _).mpr trivial,rfl⟩
    |
     some q =>
     obtain⟨e,u⟩:=q
     rw[hq]at hr
     obtain⟨l,rfl,rfl,rfl⟩:=hr
     simp only[jc,↓zq,zs,ag]
     exact⟨rfl,rfl⟩
theorem GQ(s:List UInt8)(hs:s.length<=8000):∀(k:Nat),k<=300->∀i,i<=s.length->au Tryz.prog 137 [.v (.string (mk s)),.v (.int .i64 (i:Int)),.v (.int .i64 ((300-k:Nat):Int))] [] (yz s (rd k (s.drop i))):=by
 intro k
 have hnil:∀k,rd k []=none:=fun k=>by cases k<;>simp[rd]
 have ha40:∀b:UInt8,b.toNat=40->eH b=false:=fun b hb=>by simp[eH,hb]
 induction k with
 |
  zero =>
  intro hk i hi
  refine mC s hs 300 i (by omega) hi (fun _=>none) (fun _ _ _ h=>by cases h) (fun j _=>G7 s j) _ (fun h=>?_) (fun hlt h=>?_) (fun hlt h h40=>?_) (fun hlt h40=>?_)
  ·rw[bf (by omega)];exact hnil 0
  ·simp only[rd,if_neg h]
  ·simp only[rd,if_pos h]
  ·rw[wt]
   have:(s.drop i).takeWhile eH=[]:=ni hlt (ha40 _ h40)
   simp only[rd,if_pos this]
 |
  succ k ih =>
  intro hk i hi
  have hd:300-(k+1)+1=300-k:=by omega
  refine mC s hs (300-(k+1)) i (by omega) hi (rd k) (ye k) (fun j hj=>by rw[hd];exact ih (by omega) j hj) _ (fun h=>?_) (fun hlt h=>?_) (fun hlt h h40=>?_) (fun hlt h40=>?_)
  ·rw[bf (by omega)];exact hnil _
  ·simp only[rd,if_neg h]
  ·rw[drop_cons hlt]at h |-
   simp only[rd,if_pos h,if_neg h40]
  ·have h:=ni hlt (ha40 _ h40)
   rw[drop_cons hlt]at h |-
   simp only[rd,if_pos h,if_pos h40,bH]
end Go.Proofs.Trees
namespace Go.Proofs.Trees
open Go Go.VL
theorem eh(e:E):AV.agg [.v (.string ((e.fG.getD 0 .any).ah)),e.fG.getD 1 .any]=e.ic:=by cases e<;>rfl
theorem dG(e:E):e.fG.length=2:=by cases e<;>rfl
theorem ej(e:E):cd [.str,.sl] e.fG 0=True:=by
 apply eq_true
 cases e<;>simp[E.fG,cd,eM,a8,cu]
theorem gJ(e:E):e.fG.headD .any=.v (.string (mk e.at)):=by cases e<;>rfl
theorem rr(x:E)(l:List E):au Tryz.prog 90 [.agg [.v (.string (mk [])),.sl (E.aV (x::l))]] [] (bq (.v (.string (mk x.at)))):=by
 refine AO _ _ ((cu _).mpr trivial) ?_
 simp only[wO,E.aV,↓zq,zs,ag,zt,bq,dG,gJ,aw]
 refine⟨fun h=>absurd rfl h,fun _=>⟨fun h=>by omega,fun _=>⟨by omega,by omega⟩⟩⟩
theorem GM:au Tryz.prog 90 [.agg [.v (.string (mk [])),.sl (E.aV [])]] [] (bq (.v (.string (mk [])))):=by
 refine AO _ _ ((cu _).mpr trivial) ?_
 simp only[wO,E.aV,↓zq,zs,ag,zt,bq,dG,gJ,aw]
 simp
def fP:E->Bool
 | .atom s=>(s==[48])||(s==[49])||fW s||cF s
 | .list [x,a,b]=>if x.at=[43]then fP a&&fP b else if x.at=[42]then fP a&&fP b else if x.at=[114,101,99]then cF a.at&&fP b else false
 | .list _=>false
theorem Bj:∀(e:E),e.ok->au Tryz.prog 136 [e.ic] [] (bq (.v (.bool (fP e))))
 |
  .atom s,hok=>by
  refine DP _ _ ((a8).mpr trivial) ?_
  have hne:s≠[]:=hok
  simp only[Bb,↓zq,zs,ag,zt,bq,fP]
  refine⟨fun _=>⟨fun h=>?_,fun h=>⟨fun h1=>?_,fun h1=>?_⟩⟩,fun h=>absurd h hne⟩
  ·simp[h]
  ·simp[h1]
  ·refine al (An s) ?_
   simp only[↓zq,zs,ag]
   refine⟨fun hp=>?_,fun hp=>?_⟩
   ·simp[hp]
   ·refine al (zd s) ?_
    simp[↓zq,zs,ag,hp,h,h1]
 |
  .list l,hok=>by
  refine DP _ _ ((cu _).mpr trivial) ?_
  match l,hok with
  |[],hok=>simp[Bb,E.aV,↓zq,zs,ag,zt,bq,fP]
  |[x],hok=>simp[Bb,E.aV,↓zq,zs,ag,zt,bq,fP]
  |[x,y],hok=>simp[Bb,E.aV,↓zq,zs,ag,zt,bq,fP]
  |
   x::y::z::w::l,hok =>
   simp only[Bb,E.aV,↓zq,zs,ag,zt,bq,fP]
   exact⟨fun h=>absurd rfl h,fun _=>⟨fun _=>trivial,fun h=>by omega⟩⟩
  |
   [x,y,z],hok =>
   obtain⟨ok1,ok2,ok3,_⟩:=hok
   simp only[Bb,↓zq,zs,ag,zt,bq]
   refine⟨fun h=>absurd rfl h,fun _=>⟨fun h=>absurd rfl h,fun _=>?_⟩⟩
   refine al (rr x _) ?_
   simp only[E.aV,toNat_one,be,↓zq,zs,ag,zt,eh,dG,ej,gJ,aw,fP]
   refine⟨fun h=>?_,fun h=>⟨fun h1=>?_,fun h1=>⟨fun h2=>?_,fun h2=>?_⟩⟩⟩
   ·rw[if_pos h]
    refine⟨by omega,al (Bj y ok2) ?_⟩
    simp only[↓zq,zs,ag]
    refine⟨fun hy=>⟨by omega,al (Bj z ok3) ?_⟩,fun hy=>?_⟩
    ·simp only[↓zq,zs,ag,hy,cJ]
    ·rw[hy];rfl
   ·rw[if_neg h,if_pos h1]
    refine⟨by omega,al (Bj y ok2) ?_⟩
    simp only[↓zq,zs,ag]
    refine⟨fun hy=>⟨by omega,al (Bj z ok3) ?_⟩,fun hy=>?_⟩
    ·simp only[↓zq,zs,ag,hy,cJ]
    ·rw[hy];rfl
   ·rw[if_neg h,if_neg h1,if_pos h2]
    refine⟨by omega,by omega,al (zd _) ?_⟩
    simp only[↓zq,zs,ag]
    refine⟨fun hy=>⟨by omega,al (Bj z ok3) ?_⟩,fun hy=>?_⟩
    ·simp only[↓zq,zs,ag,hy,cJ]
    ·rw[hy];rfl
   ·rw[if_neg h,if_neg h1,if_neg h2]
theorem fp:∀(e:E) (ar:List (List UInt8)),(bJ e ar).isSome=fP e
 |
  .atom s,ar=>by
  simp only[bJ,fP]
  by_cases h:s=[48]
  ·simp[h]
  ·by_cases h1:s=[49]
   ·simp[h1]
   ·rw[if_neg h,if_neg h1]
    by_cases h2:fW s=true
    ·simp[h2]
    ·rw[if_neg h2]
     by_cases h3:cF s=true
     ·rw[if_pos h3];cases bx s ar ar.length<;>simp[h3]
     ·rw[if_neg h3];simp[h,h1,h2,h3]
 | .list [],_=>rfl
 | .list [_],_=>rfl
 | .list [_,_],_=>rfl
 | .list (_::_::_::_::_),_=>rfl
 |
  .list [x,a,b],ar=>by
  have ha:=fp a ar
  have hb:=fp b ar
  have hb2:=fp b (ar++[a.at])
  rw[fP]
  by_cases h:x.at=[43]
  ·rw[iD ar h,if_pos h,<-ha,<-hb];cases bJ a ar<;>cases bJ b ar<;>rfl
  ·by_cases h1:x.at=[42]
   ·rw[gS ar h1,if_neg h,if_pos h1,<-ha,<-hb];cases bJ a ar<;>cases bJ b ar<;>rfl
   ·by_cases h2:x.at=[114,101,99]
    ·rw[jL ar h2,if_neg h,if_neg h1,if_pos h2,<-hb2]
     cases cF a.at<;>cases bJ b (ar++[a.at])<;>rfl
    ·rw[eD ar h h1 h2,if_neg h,if_neg h1,if_neg h2];rfl
mutual
def E.dI:E->Nat
 | .atom _=>1
 | .list l=>E.eE l
def E.eE:List E->Nat
 |[]=>0
 |e::l=>e.dI+E.eE l
end
mutual
theorem Ab:∀e:E,e.dI<=e.sz
 | .atom s=>by simp[E.dI,E.sz]
 | .list l=>by have:=pO l;simp only[E.dI,E.sz];omega
theorem pO:∀l:List E,E.eE l<=E.gD l
 |[]=>by simp[E.eE,E.gD]
 |e::l=>by have:=Ab e;have:=pO l;simp only[E.eE,E.gD];omega
end
theorem gM:∀(l:List E) (i:Nat) (h:i<l.length),(E.aV l).getD i []=(l[i]).fG
 |e::l,0,_=>rfl
 |
  e::l,i+1,h=>by
  have:=gM l i (by simpa using h)
  simp only[E.aV,List.getD_cons_succ,List.getElem_cons_succ];exact this
theorem uq:∀(l:List E) (i:Nat) (h:i<l.length),E.eE (l.drop i)=(l[i]).dI+E.eE (l.drop (i+1)):=by
 intro l i h
 rw[a7 h];rfl
theorem pw:∀(l:List E) (i:Nat) (h:i<l.length),E.wU l->(l[i]).ok
 |e::l,0,_,h=>h.1
 |e::l,i+1,hi,h=>pw l i (by simpa using hi) h.2
theorem EC(l:List E)(hl:E.eE l<1000000)(hll:l.length<1000000)(ih:∀i (h:i<l.length),au Tryz.prog 129 [(l[i]).ic] [] (bq (.v (.int .i64 ((l[i]).dI:Int))))) :
 ∀(k i n:Nat),i+k=l.length->n+E.eE (l.drop i)<=E.eE l->Bd [.v (.int .i64 (n:Int)),.v (.int .i64 (i:Int))] [.cells [.v (.string (mk [])),.sl (E.aV l)]] (mP 1 [.v (.int .i64 ((n+E.eE (l.drop i):Nat):Int))] [])
 |
  0,i,n,hi,hn=>by
  refine EJ _ _ _ _ ?_
  simp only[Bc,↓zq,zs,ag,da]
  have:l.drop i=[]:=bf (by omega)
  refine⟨fun h=>by omega,fun _=>?_⟩
  simp[mP,this,E.eE]
 |
  k+1,i,n,hi,hn=>by
  have hlt:i<l.length:=by omega
  refine EJ _ _ _ _ ?_
  simp only[Bc,↓zq,zs,ag,zt,da,gM l i hlt,dG,ej,eh,aw]
  refine⟨fun _=>⟨by omega,?_⟩,fun h=>by omega⟩
  refine al (ih i hlt) ?_
  have h1:=uq l i hlt
  simp only[↓zq,zs,ag]
  rw[ct i (by omega),wrap64 _ (by omega) (by omega)]
  have:=EC l hl hll ih k (i+1) (n+(l[i]).dI) (by omega) (by omega)
  rw[h1,<-Nat.add_assoc]
  simpa using this
theorem pM:∀l:List E,l.length<=E.gD l
 |[]=>by simp[E.gD]
 |
  e::l=>by
  have:=pM l
  have:1<=e.sz:=by cases e<;>simp[E.sz]
  simp only[E.gD,az];omega
theorem p8:∀(l:List E) (i:Nat) (h:i<l.length),(l[i]).sz<=E.gD l
 |e::l,0,_=>by simp[E.gD]
 |e::l,i+1,h=>by have:=p8 l i (by simpa using h);simp only[E.gD,List.getElem_cons_succ];omega
theorem BN:∀(n:Nat) (e:E),e.sz<n->e.ok->e.sz<1000000->au Tryz.prog 129 [e.ic] [] (bq (.v (.int .i64 (e.dI:Int))))
 |0,e,hn,_,_=>by omega
 |
  n+1,.atom s,hn,hok,hl=>by
  refine DY _ _ ((a8).mpr trivial) ?_
  have hne:s≠[]:=hok
  simp only[Ag,↓zq,zs,ag,zt,bq]
  exact⟨fun _=>rfl,fun h=>absurd h hne⟩
 |
  n+1,.list l,hn,hok,hl=>by
  refine DY _ _ ((cu _).mpr trivial) ?_
  simp only[E.sz]at hn hl
  have h1:=pO l
  have h2:=pM l
  simp only[Ag,↓zq,zs,ag,zt,bq]
  refine⟨fun h=>absurd rfl h,fun _=>?_⟩
  refine dY (EC l (by omega) (by omega) (fun i hi=>?_) l.length 0 0 (by omega) (by simp)) ?_
  ·have:=p8 l i hi
   exact BN n (l[i]) (by omega) (pw l i hi hok) (by omega)
  ·simp[↓zq,zs,ag,E.dI]
theorem vN(e:E)(h:e.ok)(hl:e.sz<1000000):au Tryz.prog 129 [e.ic] [] (bq (.v (.int .i64 (e.dI:Int)))):=BN (e.sz+1) e (by omega) h hl
theorem pH{x:E}(h:x.at≠[]):x.dI=1:=by cases x<;>simp[E.at,E.dI]at h |-
theorem uB{s:List UInt8}(h:cF s=true):s≠[]:=by rintro rfl;cases h
theorem gy:∀(e:E) (ar:List (List UInt8)) (t:Ty),bJ e ar=some t->e.dI=t.aS
 |
  .atom s,ar,t,h=>by
  simp only[bJ]at h
  simp only[E.dI]
  split at h
  ·cases h;rfl
  ·split at h
   ·cases h;rfl
   ·split at h
    ·cases h;rfl
    ·split at h
     ·split at h<;>cases h<;>rfl
     ·cases h
 | .list [],_,_,h=>by cases h
 | .list [_],_,_,h=>by cases h
 | .list [_,_],_,_,h=>by cases h
 | .list (_::_::_::_::_),_,_,h=>by cases h
 |
  .list [x,a,b],ar,t,h=>by
  simp only[E.dI,E.eE]
  by_cases h0:x.at=[43]
  ·rw[iD ar h0]at h
   have:=pH (x:=x) (by rw[h0];simp)
   split at h
   ·rename_i t1 t2 e1 e2
    cases h
    have:=gy a ar _ e1
    have:=gy b ar _ e2
    simp only[Ty.aS];omega
   ·cases h
  ·by_cases h1:x.at=[42]
   ·rw[gS ar h1]at h
    have:=pH (x:=x) (by rw[h1];simp)
    split at h
    ·rename_i t1 t2 e1 e2
     cases h
     have:=gy a ar _ e1
     have:=gy b ar _ e2
     simp only[Ty.aS];omega
    ·cases h
   ·by_cases h2:x.at=[114,101,99]
    ·rw[jL ar h2]at h
     have:=pH (x:=x) (by rw[h2];simp)
     split at h
     ·rename_i hl
      have:=pH (uB hl)
      split at h
      ·rename_i t1 e1
       cases h
       have:=gy b _ _ e1
       simp only[Ty.aS];omega
      ·cases h
     ·cases h
    ·rw[eD ar h0 h1 h2]at h;cases h
def ot:E->Bool
 | .atom s=>(s==[48])||(s==[49])||(s==[120])||(s==[121])||(s==[122])
 | .list [x,a,b]=>!(x.at==[114,101,99])&&(ot a&&ot b)
 | .list _=>false
theorem Aj:∀(e:E),e.ok->fP e=true->au Tryz.prog 83 [e.ic] [] (bq (.v (.bool (ot e))))
 |
  .atom s,hok,_=>by
  refine Eg _ _ ((a8).mpr trivial) ?_
  have hne:s≠[]:=hok
  simp only[Aw,↓zq,zs,ag,zt,bq,ot]
  refine⟨fun _=>⟨fun h=>?_,fun h=>⟨fun h1=>?_,fun h1=>⟨fun h2=>?_,fun h2=>⟨fun h3=>?_,fun h3=>?_⟩⟩⟩⟩,fun h=>absurd h hne⟩<;>simp[*]
 | .list [],_,h=>by cases h
 | .list [_],_,h=>by cases h
 | .list [_,_],_,h=>by cases h
 | .list (_::_::_::_::_),_,h=>by cases h
 |
  .list [x,y,z],hok,hty=>by
  refine Eg _ _ ((cu _).mpr trivial) ?_
  obtain⟨ok1,ok2,ok3,_⟩:=hok
  simp only[Aw,↓zq,zs,ag,zt,bq]
  refine⟨fun h=>absurd rfl h,fun _=>?_⟩
  refine al (rr x _) ?_
  simp only[E.aV,toNat_one,be,↓zq,zs,ag,zt,eh,dG,ej,gJ,aw,ot]
  refine⟨fun h=>?_,fun h=>?_⟩
  ·have hyz:fP y=true/\fP z=true:=by
    rw[fP]at hty
    split at hty
    ·simpa using hty
    ·split at hty
     ·simpa using hty
     ·cases hty
   refine⟨by omega,al (Aj y ok2 hyz.1) ?_⟩
   simp only[↓zq,zs,ag]
   have h':(x.at==[114,101,99])=false:=by simpa using h
   refine⟨fun hy=>⟨by omega,al (Aj z ok3 hyz.2) ?_⟩,fun hy=>?_⟩
   ·simp only[↓zq,zs,ag,hy,h'];rfl
   ·rw[hy,h'];rfl
  ·rw[h];rfl
def jC(x:Option E)(b:Bool):AV->List Ob->Prop:=fun r o=>∃c:List UInt8,∃d:AV,LK.sl.has d/\r=.cm [.agg [.v (.string (mk c)),d],.v (.bool b)]/\(b=true->∃e,x=some e/\AV.agg [.v (.string (mk c)),d]=e.ic)
theorem u0(e:E):∃c:List UInt8,∃d:AV,LK.sl.has d/\e.ic=AV.agg [.v (.string (mk c)),d]:=by
 cases e with
 |atom s=>exact⟨s,_,(a8).mpr trivial,rfl⟩
 |list l=>exact⟨[],_,(cu _).mpr trivial,rfl⟩
theorem jC.ne(x:Option E)(b:Bool)(h:b=true->x.isSome=true):∃r o,jC x b r o:=by
 cases b with
 |false=>exact⟨_,[],[],.v (.slice none 0 0),(a8).mpr trivial,rfl,fun h=>by cases h⟩
 |
  true =>
  cases x with
  |none=>cases h rfl
  |
   some e =>
   obtain⟨c,d,hd,he⟩:=u0 e
   exact⟨_,[],c,d,hd,rfl,fun _=>⟨e,rfl,he.symm⟩⟩
theorem BI(s:List UInt8):au Tryz.prog 84 [.v (.string (mk s))] [] (jC (nA s) (nA s).isSome):=by
 refine FT _ ?_
 simp only[EO,↓zq,zs,ag,zt,nA]
 refine⟨fun h=>?_,fun h=>?_⟩
 ·rw[if_pos (by omega)]
  exact⟨[],_,(a8).mpr trivial,rfl,fun h=>by cases h⟩
 ·rw[if_neg (by omega)]
  refine aQ (GQ s (by omega) 300 (by omega) 0 (by omega)) (yz.ne _ _) ?_
  rintro r o ⟨rfl,hr⟩
  rw[cg]at hr
  cases hq:rd 300 s with
  |
   none =>
   rw[hq]at hr
   obtain⟨c,d,hd,rfl⟩:=hr
   simp only[↓zq,zs,ag,zt,cd]
   refine⟨hd,c,d,hd,?_,fun h=>by cases h⟩
   have:((-1:Int)==(s.length:Int))=false:=by
    rw[beq_eq_false_iff_ne];omega
   rw[this];rfl
  |
   some q =>
   obtain⟨e,u⟩:=q
   rw[hq]at hr
   subst hr
   have hlt:=sr _ _ _ _ hq
   obtain⟨c,d,hd,he⟩:=u0 e
   simp only[he,↓zq,zs,ag,zt,cd]
   cases u with
   |
    nil =>
    refine⟨hd,c,d,hd,?_,fun _=>⟨e,rfl,he.symm⟩⟩
    simp
   |
    cons b u =>
    simp only[az]at hlt |-
    refine⟨hd,c,d,hd,?_,fun h=>by cases h⟩
    have:(((s.length-(u.length+1):Nat):Int)==(s.length:Int))=false:=by simp;omega
    rw[this];rfl
def rp(s:List UInt8):Option E:=match nA s with
 |none=>none
 |some e=>if fP e=true/\e.dI<=400 then some e else none
theorem DV(s:List UInt8):au Tryz.prog 82 [.v (.string (mk s))] [] (jC (rp s) (rp s).isSome):=by
 refine Gh _ ?_
 unfold Cf
 refine aQ (BI s) (jC.ne _ _ (fun h=>h)) ?_
 rintro r o ⟨c,d,hd,rfl,hh⟩
 simp only[↓zq,zs,ag,zt,cd,rp]
 refine⟨hd,fun h=>?_,fun h=>?_⟩
 ·obtain⟨e,he,hce⟩:=hh h
  obtain⟨hok,hsz⟩:=jD he
  rw[he,hce]
  refine al (Bj e hok) ?_
  simp only[↓zq,zs,ag]
  refine⟨fun hi=>?_,fun hi=>?_⟩
  ·refine al (vN e hok (by omega)) ?_
   simp only[↓zq,zs,ag,hi]
   refine⟨c,d,hd,?_,?_⟩
   ·rw[hce]
    by_cases h4:e.dI<=400
    ·rw[if_pos h4];exact congrArg (fun b=>AV.cm [e.ic,.v (.bool b)]) (decide_eq_true (show ((e.dI:Nat):Int)<=400 by omega))
    ·rw[if_neg h4];exact congrArg (fun b=>AV.cm [e.ic,.v (.bool b)]) (decide_eq_false (show ¬((e.dI:Nat):Int)<=400 by omega))
   ·split
    ·exact fun _=>⟨e,rfl,hce⟩
    ·exact fun h=>by cases h
  ·refine⟨c,d,hd,?_,?_⟩
   ·rw[hce,if_neg (by rw[hi];simp)];rfl
   ·rw[if_neg (by rw[hi];simp)];exact fun h=>by cases h
 ·have hn:nA s=none:=by cases hq:nA s<;>simp[hq]at h |-
  rw[hn]
  exact⟨c,d,hd,rfl,fun h=>by cases h⟩
def jA(s:List UInt8):Option E:=match rp s with
 |none=>none
 |some e=>if ot e=true then some e else none
theorem ml{s:List UInt8}{e:E}(h:rp s=some e):nA s=some e/\fP e=true/\e.dI<=400:=by
 unfold rp at h
 split at h
 ·cases h
 ·split at h
  ·rename_i e' h1 h2;cases h;exact⟨h1,h2⟩
  ·cases h
theorem C7(s:List UInt8):au Tryz.prog 36 [.v (.string (mk s))] [] (jC (jA s) (jA s).isSome):=by
 refine Fy _ ?_
 unfold CC
 refine aQ (DV s) (jC.ne _ _ (fun h=>h)) ?_
 rintro r o ⟨c,d,hd,rfl,hh⟩
 simp only[↓zq,zs,ag,zt,cd,jA]
 refine⟨hd,fun h=>?_,fun h=>?_⟩
 ·obtain⟨e,he,hce⟩:=hh h
  obtain⟨h1,h2,h3⟩:=ml he
  obtain⟨hok,hsz⟩:=jD h1
  rw[he,hce]
  refine al (Aj e hok h2) ?_
  simp only[↓zq,zs,ag]
  refine⟨c,d,hd,?_,?_⟩
  ·rw[hce];cases ot e<;>rfl
  ·split
   ·exact fun _=>⟨e,rfl,hce⟩
   ·exact fun h=>by cases h
 ·have hn:rp s=none:=by cases hq:rp s<;>simp[hq]at h |-
  rw[hn]
  exact⟨c,d,hd,rfl,fun h=>by cases h⟩
end Go.Proofs.Trees
namespace Go.Proofs.Trees
open Go Go.VL
def aZ:Ty->Bool
 | .name s=>cF s
 | .plus a b=>aZ a||aZ b
 | .times a b=>aZ a||aZ b
 | .rc a=>aZ a
 |_=>false
theorem fv:∀(t:Ty) (out:List (List UInt8)),(bA t out).any cF=(out.any cF||aZ t)
 |
  .name s,out=>by
  simp only[bA,mb,aZ]
  split
  ·rename_i h
   cases hs:cF s with
   |false=>simp
   |true=>rw[Bool.or_true,bC];exact⟨s,h,hs⟩
  ·simp
 | .plus a b,out=>by simp only[bA,aZ,fv a,fv b,cx]
 | .times a b,out=>by simp only[bA,aZ,fv a,fv b,cx]
 | .rc a,out=>by simp only[bA,aZ,fv a]
 | .zero,out=>by simp[bA,aZ]
 | .one,out=>by simp[bA,aZ]
 | .ca u,out=>by simp[bA,aZ]
theorem oN(t:Ty):t.closed = !aZ t:=by simp[Ty.closed,fv]
def pl:Ty->Bool
 | .name s=>decide (s.length<=1)
 | .plus a b=>pl a&&pl b
 | .times a b=>pl a&&pl b
 | .rc a=>false
 |_=>true
theorem fY:∀(t:Ty) (b:Bool),dx t b=(b&&pl t)
 | .name s,b=>by simp[dx,pl]
 | .plus a c,b=>by simp only[dx,pl,fY a,fY c,Bool.and_assoc]
 | .times a c,b=>by simp only[dx,pl,fY a,fY c,Bool.and_assoc]
 | .rc a,b=>by simp[dx,pl,fY a]
 | .zero,b=>by simp[dx,pl]
 | .one,b=>by simp[dx,pl]
 | .ca u,b=>by simp[dx,pl]
theorem fb{lo hi:Nat}{s:List UInt8}(h:named lo hi s=true):∃c r,s=c::r/\lo<=c.toNat/\c.toNat<=hi:=by
 cases s with
 |nil=>cases h
 |cons c r=>simp only[named,ak,decide_eq_true_eq]at h;exact⟨c,r,rfl,by omega,by omega⟩
theorem qz{s:List UInt8}(h0:s≠[48])(h1:s≠[49])(h:fW s=true\/cF s=true):ot (.atom s)=(decide (s.length<=1)&&!cF s):=by
 have key:∀c:UInt8,([c]==[(120:UInt8)]||[c]==[121]||[c]==[122])=decide (120<=c.toNat/\c.toNat<=122):=by
  intro c
  rw[cj]
  simp[<-cC]
  omega
 rcases h with h|h
 ·obtain⟨c,r,rfl,hc1,hc2⟩:=fb h
  have hl:cF (c::r)=false:=by
   cases hq:cF (c::r)with
   |false=>rfl
   |true=>obtain⟨c',r',he,h3,h4⟩:=fb hq;cases he;omega
  rw[hl]
  cases r with
  |
   nil =>
   have:=key c
   simp only[ot]
   rw[beq_eq_false_iff_ne.2 h0,beq_eq_false_iff_ne.2 h1,cx,cx,cx,<-cx ([c]==[120]),this]
   simp;omega
  |cons d r=>simp[ot]
 ·obtain⟨c,r,rfl,hc1,hc2⟩:=fb h
  rw[h]
  cases r with
  |
   nil =>
   have:=key c
   simp only[ot]
   rw[beq_eq_false_iff_ne.2 h0,beq_eq_false_iff_ne.2 h1,cx,cx,cx,<-cx ([c]==[120]),this]
   simp;omega
  |cons d r=>simp[ot]
theorem cY{x a b:E}{ar:List (List UInt8)}{t:Ty}(hx:x.at=[43])(h:bJ (.list [x,a,b]) ar=some t):∃t1 t2,bJ a ar=some t1/\bJ b ar=some t2/\t=.plus t1 t2:=by
 rw[iD ar hx]at h
 split at h
 ·rename_i t1 t2 e1 e2;cases h;exact⟨t1,t2,e1,e2,rfl⟩
 ·cases h
theorem cO{x a b:E}{ar:List (List UInt8)}{t:Ty}(hx:x.at=[42])(h:bJ (.list [x,a,b]) ar=some t):∃t1 t2,bJ a ar=some t1/\bJ b ar=some t2/\t=.times t1 t2:=by
 rw[gS ar hx]at h
 split at h
 ·rename_i t1 t2 e1 e2;cases h;exact⟨t1,t2,e1,e2,rfl⟩
 ·cases h
theorem cP{x a b:E}{ar:List (List UInt8)}{t:Ty}(hx:x.at=[114,101,99])(h:bJ (.list [x,a,b]) ar=some t):∃t1,cF a.at=true/\bJ b (ar++[a.at])=some t1/\t=.rc t1:=by
 rw[jL ar hx]at h
 split at h
 ·rename_i hl
  split at h
  ·rename_i t1 e1;cases h;exact⟨t1,hl,e1,rfl⟩
  ·cases h
 ·cases h
theorem nF:∀(e:E) (t:Ty),bJ e []=some t->ot e=(pl t&&!aZ t)
 |
  .atom s,t,h=>by
  simp only[bJ]at h
  split at h
  ·rename_i h0;cases h;simp[ot,h0,pl,aZ]
  ·rename_i h0
   split at h
   ·rename_i h1;cases h;simp[ot,h1,pl,aZ]
   ·rename_i h1
    split at h
    ·rename_i h2;cases h;exact qz h0 h1 (.inl h2)
    ·split at h
     ·rename_i h2
      simp only[aF,bx]at h
      cases h;exact qz h0 h1 (.inr h2)
     ·cases h
 | .list [],_,h=>by cases h
 | .list [_],_,h=>by cases h
 | .list [_,_],_,h=>by cases h
 | .list (_::_::_::_::_),_,h=>by cases h
 |
  .list [x,a,b],t,h=>by
  rw[ot]
  by_cases h0:x.at=[43]
  ·obtain⟨t1,t2,e1,e2,rfl⟩:=cY h0 h
   rw[nF a t1 e1,nF b t2 e2,h0,pl,aZ]
   cases pl t1<;>cases pl t2<;>cases aZ t1<;>cases aZ t2<;>rfl
  ·by_cases h1:x.at=[42]
   ·obtain⟨t1,t2,e1,e2,rfl⟩:=cO h1 h
    rw[nF a t1 e1,nF b t2 e2,h1,pl,aZ]
    cases pl t1<;>cases pl t2<;>cases aZ t1<;>cases aZ t2<;>rfl
   ·by_cases h2:x.at=[114,101,99]
    ·obtain⟨t1,hl,e1,rfl⟩:=cP h2 h
     rw[h2];rfl
    ·rw[eD [] h0 h1 h2]at h;cases h
theorem vG{s:List UInt8}:yS s=match rp s with|none=>none|some e=>bJ e []:=by
 unfold yS rp
 cases he:nA s with
 |none=>rfl
 |
  some e =>
  have hs:=fp e []
  simp only
  cases ht:bJ e []with
  |
   none =>
   rw[ht]at hs
   rw[if_neg (by rw[<-hs];simp)]
  |
   some t =>
   rw[ht]at hs
   have ha:=gy e [] t ht
   by_cases h4:e.dI<=400
   ·rw[if_pos ⟨hs.symm,h4⟩];dsimp only;rw[if_neg (by omega)];exact ht.symm
   ·rw[if_neg (fun h=>h4 h.2)];dsimp only;rw[if_pos (by omega)]
theorem vr(s:List UInt8):tE s=match jA s with|none=>none|some e=>bJ e []:=by
 unfold tE uv jA
 rw[vG]
 cases he:rp s with
 |none=>rfl
 |
  some e =>
  obtain⟨h1,h2,h3⟩:=ml he
  have hs:=fp e []
  rw[h2]at hs
  obtain⟨t,ht⟩:=bm.1 hs
  have hp:=nF e t ht
  simp only[ht,oN,fY,cJ,hp]
  cases hf:aZ t<;>cases hpl:pl t<;>simp[ht,fY,hpl]
end Go.Proofs.Trees
namespace Go.Proofs.Trees
open Go Go.VL
def pure:Ty->Bool
 | .zero=>true
 | .one=>true
 | .name s=>(s==[120])||(s==[121])||(s==[122])
 | .plus a b=>pure a&&pure b
 | .times a b=>pure a&&pure b
 |_=>false
theorem kZ:∀(e:E) (t:Ty),bJ e []=some t->ot e=true->pure t=true
 |
  .atom s,t,h,hp=>by
  simp only[bJ]at h
  simp only[ot]at hp
  split at h
  ·cases h;rfl
  ·rename_i h0
   split at h
   ·cases h;rfl
   ·rename_i h1
    rw[beq_eq_false_iff_ne.2 h0,beq_eq_false_iff_ne.2 h1]at hp
    split at h
    ·cases h;simpa[pure]using hp
    ·split at h
     ·simp only[aF,bx]at h
      cases h;simpa[pure]using hp
     ·cases h
 | .list [],_,h,_=>by cases h
 | .list [_],_,h,_=>by cases h
 | .list [_,_],_,h,_=>by cases h
 | .list (_::_::_::_::_),_,h,_=>by cases h
 |
  .list [x,a,b],t,h,hp=>by
  rw[ot]at hp
  simp only[ak]at hp
  by_cases h0:x.at=[43]
  ·obtain⟨t1,t2,e1,e2,rfl⟩:=cY h0 h
   simp only[pure,kZ a t1 e1 hp.2.1,kZ b t2 e2 hp.2.2,Bool.and_self]
  ·by_cases h1:x.at=[42]
   ·obtain⟨t1,t2,e1,e2,rfl⟩:=cO h1 h
    simp only[pure,kZ a t1 e1 hp.2.1,kZ b t2 e2 hp.2.2,Bool.and_self]
   ·by_cases h2:x.at=[114,101,99]
    ·rw[h2]at hp;simp at hp
    ·rw[eD [] h0 h1 h2]at h;cases h
theorem xn{s:List UInt8}{e:E}(h:jA s=some e):rp s=some e/\ot e=true:=by
 unfold jA at h
 split at h
 ·cases h
 ·split at h
  ·rename_i h1 h2;cases h;exact⟨h1,h2⟩
  ·cases h
theorem j1{s:List UInt8}{e:E}(h:jA s=some e):∃t,tE s=some t/\bJ e []=some t/\pure t=true/\e.ok/\e.sz<=8000/\fP e=true/\ot e=true/\t.aS<=400/\nA s=some e:=by
 obtain⟨h1,h2⟩:=xn h
 obtain⟨h3,h4,h5⟩:=ml h1
 obtain⟨hok,hsz⟩:=jD h3
 have hs:=fp e []
 rw[h4]at hs
 obtain⟨t,ht⟩:=bm.1 hs
 refine⟨t,?_,ht,kZ e t ht h2,hok,hsz,h4,h2,?_,h3⟩
 ·rw[vr,h];exact ht
 ·rw[<-gy e [] t ht];exact h5
theorem kf{s:List UInt8}(h:jA s=none):tE s=none:=by rw[vr,h]
def lB(v:Nat):Option Nat:=if v<=1000000000 then some v else none
def eg(n:Nat):Ty->Option Nat
 | .zero=>some 0
 | .one=>some 1
 | .name _=>some n
 | .plus a b=>match eg n a,eg n b with|some x,some y=>lB (x+y)|_,_=>none
 | .times a b=>match eg n a,eg n b with|some x,some y=>lB (x*y)|_,_=>none
 |_=>none
theorem dM(n:Nat)(hn:n<=100):∀(t:Ty) (c:Nat),eg n t=some c->c<=1000000000
 | .zero,c,h=>by cases h;omega
 | .one,c,h=>by cases h;omega
 | .name s,c,h=>by cases h;omega
 | .ca u,c,h=>by cases h
 | .rc a,c,h=>by cases h
 |
  .plus a b,c,h=>by
  simp only[eg]at h
  split at h
  ·unfold lB at h;split at h<;>cases h;omega
  ·cases h
 |
  .times a b,c,h=>by
  simp only[eg]at h
  split at h
  ·unfold lB at h;split at h<;>cases h;omega
  ·cases h
def ec:Option Nat->AV
 |some c=>.cm [.v (.int .i64 (c:Int)),.v (.bool true)]
 |none=>.cm [.v (.int .i64 0),.v (.bool false)]
theorem lp{x y:Nat}(hx:x<=1000000000)(hy:y<=1000000000):x*y<=1000000000000000000:=by
 have:=Nat.mul_le_mul hx hy;omega
theorem vw(n:Nat)(hn:n<=100):∀(t:Ty),pure t=true->au Tryz.prog 42 [t.av,.v (.int .i64 (n:Int))] [] (bq (ec (eg n t)))
 | .zero,h=>by refine vo _ _ ((aP _).mpr trivial) ?_;simp[tP,Ty.av,↓zq,zs,ag,bq,eg,ec]
 | .one,h=>by refine vo _ _ ((aP _).mpr trivial) ?_;simp[tP,Ty.av,↓zq,zs,ag,bq,eg,ec]
 | .name s,h=>by refine vo _ _ ((aP _).mpr trivial) ?_;simp[tP,Ty.av,↓zq,zs,ag,bq,eg,ec]
 | .ca u,h=>by cases h
 | .rc a,h=>by cases h
 |
  .plus a b,h=>by
  simp only[pure,ak]at h
  refine vo _ _ ((aP _).mpr trivial) ?_
  simp only[tP,Ty.av,↓zq,zs,ag,aP]
  refine⟨by omega,fun h=>by omega,fun _=>⟨fun h=>by omega,fun _=>⟨fun h=>by omega,fun _=>⟨by omega,?_⟩⟩⟩⟩
  refine al (vw n hn a h.1) ?_
  cases ha:eg n a with
  |
   none =>
   simp only[ec,↓zq,zs,ag,aP]
   refine⟨by omega,al (vw n hn b h.2) ?_⟩
   cases hb:eg n b<;>simp[ec,↓zq,zs,ag,zf,eg,ha,hb,bq]
  |
   some x =>
   simp only[ec,↓zq,zs,ag,aP]
   refine⟨by omega,al (vw n hn b h.2) ?_⟩
   cases hb:eg n b with
   |none=>simp[ec,↓zq,zs,ag,zf,eg,ha,hb,bq]
   |
    some y =>
    have hx:=dM n hn a x ha
    have hy:=dM n hn b y hb
    simp only[ec,↓zq,zs,ag,zf,eg,ha,hb,bq]
    rw[wrap64 ((x:Int)+(y:Int)) (by omega) (by omega)]
    refine⟨fun h=>(by cases h),fun _=>⟨fun h=>(by cases h),fun _=>⟨by omega,fun h=>by omega,fun _=>⟨fun h=>?_,fun h=>?_⟩⟩⟩⟩
    ·rw[lB,if_neg (by omega)]
    ·rw[lB,if_pos (by omega)];rfl
 |
  .times a b,h=>by
  simp only[pure,ak]at h
  refine vo _ _ ((aP _).mpr trivial) ?_
  simp only[tP,Ty.av,↓zq,zs,ag,aP]
  refine⟨by omega,fun h=>by omega,fun _=>⟨fun h=>by omega,fun _=>⟨fun h=>by omega,fun _=>⟨by omega,?_⟩⟩⟩⟩
  refine al (vw n hn a h.1) ?_
  cases ha:eg n a with
  |
   none =>
   simp only[ec,↓zq,zs,ag,aP]
   refine⟨by omega,al (vw n hn b h.2) ?_⟩
   cases hb:eg n b<;>simp[ec,↓zq,zs,ag,zf,eg,ha,hb,bq]
  |
   some x =>
   simp only[ec,↓zq,zs,ag,aP]
   refine⟨by omega,al (vw n hn b h.2) ?_⟩
   cases hb:eg n b with
   |none=>simp[ec,↓zq,zs,ag,zf,eg,ha,hb,bq]
   |
    some y =>
    have hx:=dM n hn a x ha
    have hy:=dM n hn b y hb
    have hxy:=lp hx hy
    have e:(x:Int)*(y:Int)=((x*y:Nat):Int):=by simp
    simp only[ec,↓zq,zs,ag,zf,eg,ha,hb,bq]
    rw[e,wrap64 ((x*y:Nat):Int) (by omega) (by omega)]
    refine⟨fun h=>(by cases h),fun _=>⟨fun h=>(by cases h),fun _=>⟨by omega,fun _=>⟨fun h=>?_,fun h=>?_⟩,fun h=>absurd rfl h⟩⟩⟩
    ·rw[lB,if_neg (by omega)]
    ·rw[lB,if_pos (by omega)]
def qE(x:Option Nat):AV->List Ob->Prop:=fun r o=>∃v:Int,r=.cm [.v (.int .i64 v),.v (.bool x.isSome)]/\∀c,x=some c->v=(c:Int)
theorem qE.ne(x:Option Nat):∃r o,qE x r o:=by
 cases x with
 |none=>exact⟨_,[],0,rfl,fun c h=>by cases h⟩
 |some c=>exact⟨_,[],(c:Int),rfl,fun c' h=>by cases h;rfl⟩
end Go.Proofs.Trees
