/-
  Part of a proof: Go functions read by values, trees of functions, their contracts.
-/
import Derived.Test.YthcjhageibaepabGreatDoorP3
import Derived.Shelf.Lays
import Derived.Shelf.LaysM
import Derived.Shelf.Strconv.Itoa3
import Derived.Shelf.Strconv.Atoi
import Derived.Shelf.Strings.SlTrimAscii
import Derived.Shelf.Strings.Search3
import Derived.Test.YthcjhageibaepabGreatDoorProg
set_option linter.unusedVariables false
set_option linter.unusedSimpArgs false
open And renaming intro→aH
open Bool renaming and_eq_true→au,eq_iff_iff→cr,true_and→bG
open ByteArray renaming extract→bV,size→ae,toList→ag
open Int renaming cast_ofNat_Int→cS,ofNat_eq_natCast→cC,tmod→dj,toNat→bR
open List renaming all_cons→cI,drop_eq_getElem_cons→aV,drop_eq_nil_of_le→bE,getD_eq_getElem?_getD→aa,length_append→an,length_cons→aw,mem_cons→aJ,mem_map→cd,takeWhile_append_dropWhile→bQ
open Nat renaming zero_add→aS
open UInt8 renaming ofNat→aZ
namespace Go.Proofs
open Go.Shelf
def Tryz.uT:Go.Shelf.Ren:=⟨fun|160=>153|232=>167|231=>166|227=>168|234=>170|233=>169|236=>172|235=>171|228=>185|271=>188|151=>187|197=>186|120=>202|152=>201|260=>200|137=>210|119=>211|224=>206|225=>205|217=>204|266=>212|n=>n,fun|9=>9|4=>4|3=>3|5=>5|117=>219|116=>218|0=>0|124=>222|21=>21|105=>239|46=>234|119=>258|139=>261|138=>260|n=>n,fun|3=>4|4=>5|n=>n⟩
theorem Tryz.BN:Go.Proofs.Lays.n160 Tryz.prog Tryz.uT:={
 mixed:=by kernel_rfl,
 f119:=Tryz.func211.trans (congrArg some (by kernel_rfl)),
 f120:=Tryz.func202.trans (congrArg some (by kernel_rfl)),
 f137:=Tryz.func210.trans (congrArg some (by kernel_rfl)),
 f151:=Tryz.func187.trans (congrArg some (by kernel_rfl)),
 f152:=Tryz.func201.trans (congrArg some (by kernel_rfl)),
 f160:=Tryz.func153.trans (congrArg some (by kernel_rfl)),
 f197:=Tryz.func186.trans (congrArg some (by kernel_rfl)),
 f217:=Tryz.func204.trans (congrArg some (by kernel_rfl)),
 f224:=Tryz.func206.trans (congrArg some (by kernel_rfl)),
 f225:=Tryz.func205.trans (congrArg some (by kernel_rfl)),
 f227:=Tryz.func168.trans (congrArg some (by kernel_rfl)),
 f228:=Tryz.func185.trans (congrArg some (by kernel_rfl)),
 f231:=Tryz.func166.trans (congrArg some (by kernel_rfl)),
 f232:=Tryz.func167.trans (congrArg some (by kernel_rfl)),
 f233:=Tryz.func169.trans (congrArg some (by kernel_rfl)),
 f234:=Tryz.func170.trans (congrArg some (by kernel_rfl)),
 f235:=Tryz.func171.trans (congrArg some (by kernel_rfl)),
 f236:=Tryz.func172.trans (congrArg some (by kernel_rfl)),
 f260:=Tryz.func200.trans (congrArg some (by kernel_rfl)),
 f266:=Tryz.func212.trans (congrArg some (by kernel_rfl)),
 f271:=Tryz.func188.trans (congrArg some (by kernel_rfl)),
 t0:=Tryz.underlying0,
 a0:=Tryz.isAgg0,
 z0:=Tryz.sizeOf0,
 v0:=Tryz.zeroValue0,
 t3:=Tryz.underlying3,
 a3:=Tryz.isAgg3,
 z3:=Tryz.sizeOf3,
 v3:=Tryz.zeroValue3,
 t4:=Tryz.underlying4,
 a4:=Tryz.isAgg4,
 z4:=Tryz.sizeOf4,
 v4:=Tryz.zeroValue4,
 t5:=Tryz.underlying5,
 a5:=Tryz.isAgg5,
 z5:=Tryz.sizeOf5,
 v5:=Tryz.zeroValue5,
 t9:=Tryz.underlying9,
 a9:=Tryz.isAgg9,
 z9:=Tryz.sizeOf9,
 v9:=Tryz.zeroValue9,
 t21:=Tryz.underlying21,
 a21:=Tryz.isAgg21,
 z21:=Tryz.sizeOf21,
 v21:=Tryz.zeroValue21,
 t46:=Tryz.underlying234,
 a46:=Tryz.isAgg234,
 z46:=Tryz.sizeOf234,
 v46:=Tryz.zeroValue234,
 t105:=Tryz.underlying239,
 a105:=Tryz.isAgg239,
 z105:=Tryz.sizeOf239,
 v105:=Tryz.zeroValue239,
 t116:=Tryz.underlying218,
 a116:=Tryz.isAgg218,
 z116:=Tryz.sizeOf218,
 t117:=Tryz.underlying219,
 a117:=Tryz.isAgg219,
 z117:=Tryz.sizeOf219,
 v117:=Tryz.zeroValue219,
 t119:=Tryz.underlying258,
 a119:=Tryz.isAgg258,
 z119:=Tryz.sizeOf258,
 t124:=Tryz.underlying222,
 a124:=Tryz.isAgg222,
 z124:=Tryz.sizeOf222,
 v124:=Tryz.zeroValue222,
 t138:=Tryz.underlying260,
 a138:=Tryz.isAgg260,
 z138:=Tryz.sizeOf260,
 v138:=Tryz.zeroValue260,
 t139:=Tryz.underlying261,
 a139:=Tryz.isAgg261,
 z139:=Tryz.sizeOf261,
 v139:=Tryz.zeroValue261,
 g3:=by kernel_rfl,
 g4:=by kernel_rfl}
def Tryz.uG:Go.Shelf.Ren:=⟨fun|144=>158|143=>177|219=>192|217=>204|225=>205|224=>206|267=>207|266=>212|314=>213|n=>n,fun|9=>9|4=>4|3=>3|5=>5|46=>234|146=>263|51=>246|n=>n,fun|1=>3|n=>n⟩
theorem Tryz.Cp:Go.Proofs.Lays.n144 Tryz.prog Tryz.uG:={
 mixed:=by kernel_rfl,
 f143:=Tryz.func177.trans (congrArg some (by kernel_rfl)),
 f144:=Tryz.func158.trans (congrArg some (by kernel_rfl)),
 f217:=Tryz.func204.trans (congrArg some (by kernel_rfl)),
 f219:=Tryz.func192.trans (congrArg some (by kernel_rfl)),
 f224:=Tryz.func206.trans (congrArg some (by kernel_rfl)),
 f225:=Tryz.func205.trans (congrArg some (by kernel_rfl)),
 f266:=Tryz.func212.trans (congrArg some (by kernel_rfl)),
 f267:=Tryz.func207.trans (congrArg some (by kernel_rfl)),
 f314:=Tryz.func213.trans (congrArg some (by kernel_rfl)),
 t3:=Tryz.underlying3,
 a3:=Tryz.isAgg3,
 z3:=Tryz.sizeOf3,
 v3:=Tryz.zeroValue3,
 t4:=Tryz.underlying4,
 a4:=Tryz.isAgg4,
 z4:=Tryz.sizeOf4,
 v4:=Tryz.zeroValue4,
 t5:=Tryz.underlying5,
 a5:=Tryz.isAgg5,
 z5:=Tryz.sizeOf5,
 v5:=Tryz.zeroValue5,
 t9:=Tryz.underlying9,
 a9:=Tryz.isAgg9,
 z9:=Tryz.sizeOf9,
 v9:=Tryz.zeroValue9,
 t46:=Tryz.underlying234,
 a46:=Tryz.isAgg234,
 z46:=Tryz.sizeOf234,
 v46:=Tryz.zeroValue234,
 t51:=Tryz.underlying246,
 a51:=Tryz.isAgg246,
 z51:=Tryz.sizeOf246,
 v51:=Tryz.zeroValue246,
 t146:=Tryz.underlying263,
 a146:=Tryz.isAgg263,
 z146:=Tryz.sizeOf263,
 v146:=Tryz.zeroValue263,
 g1:=by kernel_rfl}
def Tryz.uM:Go.Shelf.Ren:=⟨fun|172=>126|244=>151|245=>152|247=>161|279=>162|280=>163|281=>164|282=>165|287=>182|316=>183|171=>120|205=>184|321=>198|322=>199|243=>146|246=>159|283=>178|284=>179|285=>180|286=>181|129=>194|317=>193|318=>195|319=>196|320=>197|337=>208|338=>209|n=>n,fun|9=>9|3=>3|75=>182|76=>183|4=>4|5=>5|167=>210|37=>22|0=>0|85=>211|2=>2|168=>213|53=>227|175=>232|46=>234|210=>237|127=>251|145=>254|143=>252|21=>21|171=>226|173=>230|212=>245|51=>246|20=>20|213=>247|232=>265|233=>266|80=>94|n=>n,fun|15=>0|16=>1|17=>2|18=>6|19=>7|n=>n⟩
theorem Tryz.Cs:Go.Proofs.Lays.n172 Tryz.prog Tryz.uM:={
 mixed:=by kernel_rfl,
 f129:=Tryz.func194.trans (congrArg some (by kernel_rfl)),
 f171:=Tryz.func120.trans (congrArg some (by kernel_rfl)),
 f172:=Tryz.func126.trans (congrArg some (by kernel_rfl)),
 f205:=Tryz.func184.trans (congrArg some (by kernel_rfl)),
 f243:=Tryz.func146.trans (congrArg some (by kernel_rfl)),
 f244:=Tryz.func151.trans (congrArg some (by kernel_rfl)),
 f245:=Tryz.func152.trans (congrArg some (by kernel_rfl)),
 f246:=Tryz.func159.trans (congrArg some (by kernel_rfl)),
 f247:=Tryz.func161.trans (congrArg some (by kernel_rfl)),
 f279:=Tryz.func162.trans (congrArg some (by kernel_rfl)),
 f280:=Tryz.func163.trans (congrArg some (by kernel_rfl)),
 f281:=Tryz.func164.trans (congrArg some (by kernel_rfl)),
 f282:=Tryz.func165.trans (congrArg some (by kernel_rfl)),
 f283:=Tryz.func178.trans (congrArg some (by kernel_rfl)),
 f284:=Tryz.func179.trans (congrArg some (by kernel_rfl)),
 f285:=Tryz.func180.trans (congrArg some (by kernel_rfl)),
 f286:=Tryz.func181.trans (congrArg some (by kernel_rfl)),
 f287:=Tryz.func182.trans (congrArg some (by kernel_rfl)),
 f316:=Tryz.func183.trans (congrArg some (by kernel_rfl)),
 f317:=Tryz.func193.trans (congrArg some (by kernel_rfl)),
 f318:=Tryz.func195.trans (congrArg some (by kernel_rfl)),
 f319:=Tryz.func196.trans (congrArg some (by kernel_rfl)),
 f320:=Tryz.func197.trans (congrArg some (by kernel_rfl)),
 f321:=Tryz.func198.trans (congrArg some (by kernel_rfl)),
 f322:=Tryz.func199.trans (congrArg some (by kernel_rfl)),
 f337:=Tryz.func208.trans (congrArg some (by kernel_rfl)),
 f338:=Tryz.func209.trans (congrArg some (by kernel_rfl)),
 t0:=Tryz.underlying0,
 a0:=Tryz.isAgg0,
 z0:=Tryz.sizeOf0,
 v0:=Tryz.zeroValue0,
 t2:=Tryz.underlying2,
 a2:=Tryz.isAgg2,
 z2:=Tryz.sizeOf2,
 v2:=Tryz.zeroValue2,
 t3:=Tryz.underlying3,
 a3:=Tryz.isAgg3,
 z3:=Tryz.sizeOf3,
 v3:=Tryz.zeroValue3,
 t4:=Tryz.underlying4,
 a4:=Tryz.isAgg4,
 z4:=Tryz.sizeOf4,
 v4:=Tryz.zeroValue4,
 t5:=Tryz.underlying5,
 a5:=Tryz.isAgg5,
 z5:=Tryz.sizeOf5,
 v5:=Tryz.zeroValue5,
 t9:=Tryz.underlying9,
 a9:=Tryz.isAgg9,
 z9:=Tryz.sizeOf9,
 v9:=Tryz.zeroValue9,
 t20:=Tryz.underlying20,
 a20:=Tryz.isAgg20,
 z20:=Tryz.sizeOf20,
 v20:=Tryz.zeroValue20,
 t21:=Tryz.underlying21,
 a21:=Tryz.isAgg21,
 z21:=Tryz.sizeOf21,
 v21:=Tryz.zeroValue21,
 t37:=Tryz.underlying22,
 a37:=Tryz.isAgg22,
 z37:=Tryz.sizeOf22,
 v37:=Tryz.zeroValue22,
 t46:=Tryz.underlying234,
 a46:=Tryz.isAgg234,
 z46:=Tryz.sizeOf234,
 v46:=Tryz.zeroValue234,
 t51:=Tryz.underlying246,
 a51:=Tryz.isAgg246,
 z51:=Tryz.sizeOf246,
 v51:=Tryz.zeroValue246,
 t53:=Tryz.underlying227,
 a53:=Tryz.isAgg227,
 z53:=Tryz.sizeOf227,
 v53:=Tryz.zeroValue227,
 t75:=Tryz.underlying182,
 a75:=Tryz.isAgg182,
 z75:=Tryz.sizeOf182,
 v75:=Tryz.zeroValue182,
 t76:=Tryz.underlying183,
 a76:=Tryz.isAgg183,
 z76:=Tryz.sizeOf183,
 v76:=Tryz.zeroValue183,
 t85:=Tryz.underlying211,
 a85:=Tryz.isAgg211,
 z85:=Tryz.sizeOf211,
 v85:=Tryz.zeroValue211,
 t127:=Tryz.underlying251,
 a127:=Tryz.isAgg251,
 z127:=Tryz.sizeOf251,
 v127:=Tryz.zeroValue251,
 t143:=Tryz.underlying252,
 a143:=Tryz.isAgg252,
 z143:=Tryz.sizeOf252,
 v143:=Tryz.zeroValue252,
 t145:=Tryz.underlying254,
 a145:=Tryz.isAgg254,
 z145:=Tryz.sizeOf254,
 v145:=Tryz.zeroValue254,
 t167:=Tryz.underlying210,
 a167:=Tryz.isAgg210,
 z167:=Tryz.sizeOf210,
 v167:=Tryz.zeroValue210,
 t168:=Tryz.underlying213,
 a168:=Tryz.isAgg213,
 z168:=Tryz.sizeOf213,
 v168:=Tryz.zeroValue213,
 t171:=Tryz.underlying226,
 a171:=Tryz.isAgg226,
 z171:=Tryz.sizeOf226,
 v171:=Tryz.zeroValue226,
 t173:=Tryz.underlying230,
 a173:=Tryz.isAgg230,
 z173:=Tryz.sizeOf230,
 v173:=Tryz.zeroValue230,
 t175:=Tryz.underlying232,
 a175:=Tryz.isAgg232,
 z175:=Tryz.sizeOf232,
 v175:=Tryz.zeroValue232,
 t210:=Tryz.underlying237,
 a210:=Tryz.isAgg237,
 z210:=Tryz.sizeOf237,
 v210:=Tryz.zeroValue237,
 t212:=Tryz.underlying245,
 a212:=Tryz.isAgg245,
 z212:=Tryz.sizeOf245,
 v212:=Tryz.zeroValue245,
 t213:=Tryz.underlying247,
 a213:=Tryz.isAgg247,
 z213:=Tryz.sizeOf247,
 t232:=Tryz.underlying265,
 a232:=Tryz.isAgg265,
 z232:=Tryz.sizeOf265,
 v232:=Tryz.zeroValue265,
 t233:=Tryz.underlying266,
 a233:=Tryz.isAgg266,
 z233:=Tryz.sizeOf266,
 v233:=Tryz.zeroValue266,
 g15:=by kernel_rfl,
 g16:=by kernel_rfl,
 g17:=by kernel_rfl,
 g18:=by kernel_rfl,
 g19:=by kernel_rfl}
def Tryz.sK:Go.Shelf.Ren:=⟨fun|171=>120|243=>146|246=>159|283=>178|284=>179|285=>180|286=>181|129=>194|317=>193|318=>195|319=>196|320=>197|337=>208|338=>209|n=>n,fun|3=>3|9=>9|2=>2|4=>4|171=>226|0=>0|53=>227|37=>22|5=>5|173=>230|212=>245|51=>246|20=>20|213=>247|46=>234|232=>265|233=>266|n=>n,fun|17=>2|18=>6|19=>7|n=>n⟩
theorem Tryz.Aa:Go.Proofs.LaysM.n171 Tryz.prog Tryz.sK:={
 mixed:=by kernel_rfl,
 f129:=Tryz.func194.trans (congrArg some (by kernel_rfl)),
 f171:=Tryz.func120.trans (congrArg some (by kernel_rfl)),
 f243:=Tryz.func146.trans (congrArg some (by kernel_rfl)),
 f246:=Tryz.func159.trans (congrArg some (by kernel_rfl)),
 f283:=Tryz.func178.trans (congrArg some (by kernel_rfl)),
 f284:=Tryz.func179.trans (congrArg some (by kernel_rfl)),
 f285:=Tryz.func180.trans (congrArg some (by kernel_rfl)),
 f286:=Tryz.func181.trans (congrArg some (by kernel_rfl)),
 f317:=Tryz.func193.trans (congrArg some (by kernel_rfl)),
 f318:=Tryz.func195.trans (congrArg some (by kernel_rfl)),
 f319:=Tryz.func196.trans (congrArg some (by kernel_rfl)),
 f320:=Tryz.func197.trans (congrArg some (by kernel_rfl)),
 f337:=Tryz.func208.trans (congrArg some (by kernel_rfl)),
 f338:=Tryz.func209.trans (congrArg some (by kernel_rfl)),
 t0:=Tryz.underlying0,
 a0:=Tryz.isAgg0,
 z0:=Tryz.sizeOf0,
 v0:=Tryz.zeroValue0,
 t2:=Tryz.underlying2,
 a2:=Tryz.isAgg2,
 z2:=Tryz.sizeOf2,
 v2:=Tryz.zeroValue2,
 t3:=Tryz.underlying3,
 a3:=Tryz.isAgg3,
 z3:=Tryz.sizeOf3,
 v3:=Tryz.zeroValue3,
 t4:=Tryz.underlying4,
 a4:=Tryz.isAgg4,
 z4:=Tryz.sizeOf4,
 v4:=Tryz.zeroValue4,
 t5:=Tryz.underlying5,
 a5:=Tryz.isAgg5,
 z5:=Tryz.sizeOf5,
 v5:=Tryz.zeroValue5,
 t9:=Tryz.underlying9,
 a9:=Tryz.isAgg9,
 z9:=Tryz.sizeOf9,
 v9:=Tryz.zeroValue9,
 t20:=Tryz.underlying20,
 a20:=Tryz.isAgg20,
 z20:=Tryz.sizeOf20,
 v20:=Tryz.zeroValue20,
 t37:=Tryz.underlying22,
 a37:=Tryz.isAgg22,
 z37:=Tryz.sizeOf22,
 v37:=Tryz.zeroValue22,
 t46:=Tryz.underlying234,
 a46:=Tryz.isAgg234,
 z46:=Tryz.sizeOf234,
 v46:=Tryz.zeroValue234,
 t51:=Tryz.underlying246,
 a51:=Tryz.isAgg246,
 z51:=Tryz.sizeOf246,
 v51:=Tryz.zeroValue246,
 t53:=Tryz.underlying227,
 a53:=Tryz.isAgg227,
 z53:=Tryz.sizeOf227,
 v53:=Tryz.zeroValue227,
 t171:=Tryz.underlying226,
 a171:=Tryz.isAgg226,
 z171:=Tryz.sizeOf226,
 v171:=Tryz.zeroValue226,
 t173:=Tryz.underlying230,
 a173:=Tryz.isAgg230,
 z173:=Tryz.sizeOf230,
 v173:=Tryz.zeroValue230,
 t212:=Tryz.underlying245,
 a212:=Tryz.isAgg245,
 z212:=Tryz.sizeOf245,
 v212:=Tryz.zeroValue245,
 t213:=Tryz.underlying247,
 a213:=Tryz.isAgg247,
 z213:=Tryz.sizeOf247,
 t232:=Tryz.underlying265,
 a232:=Tryz.isAgg265,
 z232:=Tryz.sizeOf265,
 v232:=Tryz.zeroValue265,
 t233:=Tryz.underlying266,
 a233:=Tryz.isAgg266,
 z233:=Tryz.sizeOf266,
 v233:=Tryz.zeroValue266,
 g17:=by kernel_rfl,
 g18:=by kernel_rfl,
 g19:=by kernel_rfl,
 i0:=by kernel_rfl,
 i2:=by kernel_rfl,
 i3:=by kernel_rfl,
 i4:=by kernel_rfl,
 i5:=by kernel_rfl,
 i9:=by kernel_rfl,
 i20:=by kernel_rfl,
 i37:=by kernel_rfl,
 i46:=by kernel_rfl,
 i51:=by kernel_rfl,
 i53:=by kernel_rfl,
 i171:=by kernel_rfl,
 i173:=by kernel_rfl,
 i212:=by kernel_rfl,
 i232:=by kernel_rfl,
 i233:=by kernel_rfl,
 m17:=by kernel_rfl,
 m18:=by kernel_rfl,
 m19:=by kernel_rfl}
end Go.Proofs
namespace Go.Proofs.Trees
open Go Go.VL
noncomputable section
def LA:List (Nat×TI):=[
 (0,⟨false,[],false,0,.tuple [],false⟩),
 (2,⟨true,[.int .i64],false,8,.num .i64,false⟩),
 (3,⟨true,[.int .i64],false,8,.num .i64,false⟩),
 (4,⟨true,[.bool],false,1,.bl,false⟩),
 (5,⟨true,[.int .u8],false,1,.num .u8,false⟩),
 (9,⟨true,[.str],false,16,.str,false⟩),
 (20,⟨true,[.ki],false,16,.other,false⟩),
 (21,⟨true,[.int .i32],false,4,.num .i32,false⟩),
 (22,⟨true,[.sl],false,24,.slice 5,false⟩),
 (23,⟨false,[],false,0,.tuple [9,9,9],false⟩),
 (25,⟨true,[.sl],false,24,.slice 3,false⟩),
 (27,⟨true,[.sl,.str,.str],true,56,.struct [(0,25),(1,9),(2,9)],false⟩),
 (28,⟨false,[],false,0,.tuple [27,4],false⟩),
 (31,⟨false,[],false,0,.tuple [9,4],false⟩),
 (34,⟨false,[],false,0,.tuple [9,9],false⟩),
 (36,⟨true,[.sl],false,24,.slice 43,false⟩),
 (37,⟨false,[],false,0,.tuple [36,4],false⟩),
 (43,⟨true,[.str,.str],true,32,.struct [(0,9),(1,9)],true⟩),
 (45,⟨true,[.ki],false,8,.other,false⟩),
 (46,⟨false,[],false,0,.tuple [9,9,27],false⟩),
 (50,⟨true,[.ptr],false,8,.pt,true⟩),
 (52,⟨true,[.ptr],false,8,.pt,true⟩),
 (53,⟨true,[.ptr],false,8,.pt,true⟩),
 (54,⟨false,[],false,0,.tuple [52,53],false⟩),
 (57,⟨true,[.sl],false,24,.slice 59,false⟩),
 (59,⟨true,[.str,.sl],true,40,.struct [(0,9),(1,57)],false⟩),
 (60,⟨false,[],false,0,.tuple [59,4],false⟩),
 (63,⟨true,[.sl],false,24,.slice 9,false⟩),
 (65,⟨true,[.str,.sl,.str],true,56,.struct [(0,9),(1,63),(2,9)],false⟩),
 (66,⟨false,[],false,0,.tuple [65,4],false⟩),
 (72,⟨true,[.sl],false,24,.slice 96,false⟩),
 (75,⟨true,[.sl],false,24,.slice 104,false⟩),
 (79,⟨true,[.int .u8,.str,.int .i64,.ptr,.ptr],true,48,.struct [(0,5),(1,9),(2,3),(3,52),(4,52)],false⟩),
 (80,⟨false,[],false,0,.tuple [52,4],false⟩),
 (88,⟨true,[.sl],false,24,.slice 25,false⟩),
 (89,⟨false,[],false,0,.tuple [88,4],false⟩),
 (93,⟨true,[.sl,.int .i64],true,32,.struct [(0,22),(1,3)],false⟩),
 (96,⟨true,[.ptr,.ptr],true,16,.struct [(0,53),(1,53)],false⟩),
 (100,⟨true,[.sl],false,24,.slice 196,false⟩),
 (104,⟨true,[.str,.sl,.str,.sl],true,80,.struct [(0,59),(2,59)],false⟩),
 (107,⟨true,[.ptr],false,8,.pt,true⟩),
 (111,⟨true,[.sl],false,24,.slice 53,false⟩),
 (113,⟨true,[.str,.ptr,.sl,.ptr],true,56,.struct [(0,9),(1,52),(2,111),(3,53)],false⟩),
 (116,⟨true,[.ptr],false,8,.pt,true⟩),
 (118,⟨true,[.ptr,.ptr],true,16,.struct [(0,52),(1,116)],false⟩),
 (119,⟨true,[.ptr],false,8,.pt,true⟩),
 (120,⟨false,[],false,0,.tuple [118,119],false⟩),
 (124,⟨true,[.int .u8,.str,.ptr,.ptr],true,40,.struct [(0,5),(1,9),(2,53),(3,53)],false⟩),
 (126,⟨true,[.str,.ptr],true,24,.struct [(0,9),(1,119)],false⟩),
 (128,⟨true,[.ptr],false,8,.pt,true⟩),
 (132,⟨true,[.ptr],false,8,.pt,true⟩),
 (134,⟨true,[.int .i64,.bool],true,16,.struct [(0,3),(1,4)],false⟩),
 (148,⟨true,[.sl],false,24,.slice 27,false⟩),
 (149,⟨false,[],false,0,.tuple [148,4],false⟩),
 (155,⟨false,[],false,0,.tuple [59,100],false⟩),
 (158,⟨false,[],false,0,.tuple [59,3],false⟩),
 (161,⟨true,[.ptr,.ptr],true,16,.struct [(0,118)],false⟩),
 (163,⟨true,[.ptr,.ptr],true,16,.struct [(0,119),(1,116)],false⟩),
 (165,⟨true,[.ki],false,8,.other,false⟩),
 (166,⟨true,[.ki],false,8,.other,false⟩),
 (169,⟨false,[],false,0,.tuple [128,9],false⟩),
 (171,⟨true,[.sl],false,24,.slice 128,false⟩),
 (173,⟨true,[.str,.sl],true,40,.struct [(0,9),(1,171)],false⟩),
 (178,⟨true,[.ki],false,8,.other,false⟩),
 (182,⟨true,[.ki],false,16,.other,false⟩),
 (183,⟨false,[],false,0,.tuple [3,182],false⟩),
 (191,⟨true,[.ptr],false,8,.pt,true⟩),
 (193,⟨true,[.sl,.int .i64],true,32,.struct [(0,63),(1,3)],false⟩),
 (196,⟨true,[.str,.str,.sl,.sl],true,80,.struct [(0,9),(1,59),(3,100)],false⟩),
 (201,⟨true,[.ki],false,8,.other,false⟩),
 (211,⟨false,[],false,0,.tuple [2,182],false⟩),
 (213,⟨true,[.ptr],false,8,.pt,true⟩),
 (219,⟨false,[],false,0,.tuple [218,4],false⟩),
 (222,⟨true,[.ptr],false,8,.pt,true⟩),
 (226,⟨true,[.int .u8,.int .u8,.int .u8,.int .u8,.int .u8,.int .u8,.int .u8,.int .u8,.int .u8,.int .u8,.int .u8,.int .u8,.int .u8,.int .u8,.int .u8,.int .u8,.int .u8,.int .u8,.int .u8,.int .u8,.int .u8,.int .u8,.int .u8,.int .u8],true,24,.array 24 5,false⟩),
 (227,⟨true,[.int .u64],false,8,.num .u64,false⟩),
 (230,⟨false,[],false,0,.tuple [22,9],false⟩),
 (232,⟨false,[],false,0,.tuple [227,182],false⟩),
 (234,⟨true,[.int .u64],false,8,.num .u64,false⟩),
 (237,⟨true,[.str,.str,.ki],true,48,.struct [(0,9),(1,9),(2,182)],false⟩),
 (239,⟨false,[],false,0,.tuple [21,3],false⟩),
 (245,⟨true,[.int .u64,.int .u64,.int .u64,.int .u64,.int .u64,.int .u64,.int .u64,.int .u64,.int .u64,.int .u64,.int .u64,.int .u64,.int .u64,.int .u64,.int .u64,.int .u64,.int .u64,.int .u64,.int .u64,.int .u64],true,160,.array 20 227,false⟩),
 (246,⟨true,[.int .u32],false,4,.num .u32,false⟩),
 (251,⟨true,[.ptr],false,8,.pt,true⟩),
 (252,⟨true,[.ptr],false,8,.pt,true⟩),
 (254,⟨true,[.str],true,16,.struct [(0,9)],false⟩),
 (260,⟨true,[.int .u8,.int .u8],true,2,.struct [(0,5),(1,5)],false⟩),
 (261,⟨true,[.int .u8,.int .u8,.int .u8,.int .u8,.int .u8,.int .u8,.int .u8,.int .u8,.int .u8,.int .u8,.int .u8,.int .u8,.int .u8,.int .u8,.int .u8,.int .u8,.int .u8,.int .u8,.int .u8,.int .u8,.int .u8,.int .u8,.int .u8,.int .u8,.int .u8,.int .u8,.int .u8,.int .u8,.int .u8,.int .u8,.int .u8,.int .u8],true,32,.array 16 260,false⟩),
 (263,⟨false,[],false,0,.tuple [246,246],false⟩),
 (265,⟨true,[.int .u8,.int .u8,.int .u8,.int .u8,.int .u8,.int .u8,.int .u8,.int .u8,.int .u8,.int .u8,.int .u8,.int .u8,.int .u8,.int .u8,.int .u8,.int .u8,.int .u8,.int .u8,.int .u8,.int .u8,.int .u8,.int .u8,.int .u8,.int .u8,.int .u8,.int .u8,.int .u8,.int .u8,.int .u8,.int .u8,.int .u8,.int .u8],true,32,.array 32 5,false⟩)]
def JJ(t:Nat):TI:=wR LA t
abbrev dZ:Func:=Tryz.f70
abbrev pK:Func:=Tryz.f120
abbrev pJ:Func:=Tryz.f126
abbrev pO:Func:=Tryz.f153
abbrev mH:Func:=Tryz.f158
def ML:List (Nat×FC):=[(148,{mu:=[(1,.one (.obj [.vec 1]))],own:=[]}),(98,{mu:=[(2,.one (.vec))],own:=[0]}),(14900147,{mu:=[(1,.fn [some (.obj [.vec 1])])],own:=[]}),(107,{mu:=[(2,.one (.obj [.vec 2]))],own:=[]}),(11100107,{mu:=[(1,.fn [some (.obj [.lk .ptr])]),(2,.one (.obj [.vec 2]))],own:=[]}),(11200107,{mu:=[(1,.fn [some (.obj [.lk .ptr])]),(2,.one (.obj [.vec 2]))],own:=[]}),(11400107,{mu:=[(1,.fn [some (.obj [.lk .ptr])]),(2,.one (.obj [.vec 2]))],own:=[]}),(11600107,{mu:=[(1,.fn [some (.obj [.lk .ptr,.lk .ptr])]),(2,.one (.obj [.vec 2]))],own:=[]}),(110,{mu:=[(1,.one (.obj [.lk .ptr]))],own:=[]}),(111,{mu:=[(1,.one (.obj [.lk .ptr]))],own:=[]}),(113,{mu:=[(1,.one (.obj [.lk .ptr]))],own:=[]}),(115,{mu:=[(1,.one (.obj [.lk .ptr,.lk .ptr]))],own:=[]}),(123,{mu:=[(2,.yQ 123 [none,some 0,some 1]),(3,.one (.obj [.lk .sl])),(4,.one (.obj [.lk (.int .i64)]))],own:=[]}),(132,{mu:=[(3,.one (.vec))],own:=[0]}),(72,{mu:=[(2,.one (.vec))],own:=[0]}),(45,{mu:=[(0,.one (.obj [.lk .sl,.lk (.int .i64)]))],own:=[]}),(137,{mu:=[(3,.one (.obj [.vec 1,.lk (.int .i64)]))],own:=[]}),(94,{mu:=[(0,.one (.obj [.lk .sl,.lk (.int .i64)]))],own:=[]}),(23,{mu:=[],own:=[0],ow:=[.sl,.int .i64]}),(7,{mu:=[],own:=[0],oa:=[.vec 1,.lk .str,.lk .str]}),(25,{mu:=[],own:=[0],oa:=[.vec 1,.lk .str,.lk .str]}),(76,{mu:=[(0,.one (.obj [.lk (.int .i64),.lk .bool]))],own:=[]}),(77,{mu:=[(0,.one (.obj [.lk (.int .i64),.lk .bool]))],own:=[]}),(78,{mu:=[(0,.one (.obj [.lk (.int .i64),.lk .bool]))],own:=[]}),(143,{mu:=[(0,.one (.obj [.lk .sl,.lk (.int .i64)]))],own:=[]}),(68,{mu:=[(0,.one (.obj [.lk .sl,.lk (.int .i64)]))],own:=[]}),(142,{mu:=[(0,.one (.obj [.lk .sl,.lk (.int .i64)]))],own:=[]}),(95,{mu:=[(0,.one (.obj [.lk .sl,.lk (.int .i64)]))],own:=[]}),(50,{mu:=[(0,.one (.obj [.lk .sl,.lk (.int .i64)]))],own:=[]}),(105,{mu:=[(0,.one (.obj [.lk .sl,.lk (.int .i64)]))],own:=[]}),(69,{mu:=[(0,.one (.obj [.lk .sl,.lk (.int .i64)]))],own:=[]}),(33,{mu:=[(0,.one (.obj [.lk .sl,.lk (.int .i64)]))],own:=[]}),(22,{mu:=[(0,.one (.obj [.lk .sl,.lk (.int .i64)]))],own:=[]}),(31,{mu:=[],own:=[0],oa:=[.lk .str,.vec 1,.lk .str]}),(30,{mu:=[],own:=[0],oa:=[.lk .str,.vec 1,.lk .str]}),(65,{mu:=[],own:=[0],oa:=[.lk .str,.vec 1,.lk .str]}),(129,{mu:=[],own:=[0]}),(91,{mu:=[(0,.one (.tK [.lk .str,.vec 1,.lk .str]))],own:=[0],oa:=[.lk .str,.vec 1,.lk .str]}),(88,{mu:=[],own:=[0],oa:=[.lk .str,.vec 1,.lk .str]}),(89,{mu:=[],own:=[0],oa:=[.lk .str,.vec 1,.lk .str]}),(47,{mu:=[],own:=[0],oa:=[.lk .str,.vec 1,.lk .str]}),(29,{mu:=[],own:=[0],oa:=[.vec 1,.lk .str,.lk .str]}),(8,{mu:=[],own:=[0],oa:=[.vec 1,.lk .str,.lk .str]})]
def cfg(f:Nat):FC:=yX ML f
theorem B4:(LA.all fun p=>!p.2.kn||p.2.vm Tryz.prog p.1)=true:=by kernel_rfl
theorem sM:cO Tryz.prog JJ:=uv B4
theorem mixed:Tryz.prog.follows .mixedOrders=true:=by kernel_rfl
abbrev NZ(r:AV)(k:Tree):Tree:=.aj (LK.has .ptr r/\r.isNil=false) k
abbrev NP(r:AV)(k:Tree):Tree:=.aj (LK.has .ptr r) k
abbrev NS(r:AV)(k:Tree):Tree:=.aj (LK.has .str r) k
abbrev NB(r:AV)(k:Tree):Tree:=.aj (LK.has .bool r) k
abbrev NL(r:AV)(k:Tree):Tree:=.aj (LK.has .sl r) k
abbrev NI(r:AV)(k:Tree):Tree:=.aj (LK.has (.int .i64) r) k
abbrev dY(l:List AV)(k:Tree):Tree:=.aj (LK.has .ptr (l.headD .any)/\1<=l.length) k
abbrev mc(l:List AV)(k:Tree):Tree:=.aj (LK.has .str (l.headD .any)/\1<=l.length) k
abbrev rk(l:List AV)(k:Tree):Tree:=.aj (LK.has .sl (l.headD .any)/\1<=l.length) k
abbrev NT(r:AV)(k:Tree):Tree:=.aj (r=.cW [r.comp 0,r.comp 1]) k
abbrev NA(r:AV)(k:Tree):Tree:=.aj (r=.agg r.cs/\r.cs.length=2/\bO [.str,.sl] r.cs 0) k
abbrev NE(l:List AV)(k:Tree):Tree:=.aj (bO [.str,.sl] l 0/\2<=l.length) k
abbrev NG(r:AV)(i:Int)(z:Nat)(k:Tree):Tree:=.aj (LK.has .sl r/\0<=i/\i<r.elems.length/\(r.elems.getD i.toNat []).length=z) k
abbrev RL:Type:=Nat->List AV->List Ob->Prop
abbrev VS(x:ByteArray):AV:=.v (.string x)
abbrev VI(x:Int):AV:=.v (.int .i64 x)
abbrev VB(x:Bool):AV:=.v (.bool x)
abbrev _root_.List.hA(l:List AV):AV:=l.headD .any
abbrev _root_.List.hO(l:List Ob):Ob:=l.headD .dead
abbrev _root_.Go.VL.AV.ix(a:AV)(i:Int):List AV:=a.elems.getD i.toNat []
abbrev du(n:Nat)(t:Tree)(R:AV->List Ob->Prop):Prop:=eK Tryz.prog n t fun _ xs obs=>R (xs.headD .any) obs
abbrev lM(n:Nat)(t:Tree)(S:List AV->List Ob->RL->Prop)(R:RL):Prop:=eK Tryz.prog n t (C4 (fun ys o=>S ys o R) R)
theorem gQ{n:Nat}{c:Code}{li:LI}{xs:List AV}{obs:List Ob}{R:RL}{t:Tree}(lis:List (Nat×LI))(h:eK Tryz.prog n t (C4 (fun ys o=>cA Tryz.prog n c li ys o R) R))(e:round JJ cfg n lis c li xs obs=t:=by kernel_rfl):cA Tryz.prog n c li xs obs R:=cA.LU (cfg:=cfg) (lis:=lis) sM mixed e h
theorem Py(x:ByteArray):VS x=.v (.string x):=rfl
theorem PE(x:Int):VI x=.v (.int .i64 x):=rfl
theorem Pz(x:Bool):VB x=.v (.bool x):=rfl
theorem Pn(l:List AV):l.hA=l.headD .any:=rfl
theorem Pt(l:List Ob):l.hO=l.headD .dead:=rfl
theorem Pq(a:AV)(i:Int):a.ix i=a.elems.getD i.toNat []:=rfl
theorem oQ{f:Nat}{asq:List AV}{ins:List Ob}{R:AV->List Ob->Prop}{t:Tree}(lis:List (Nat×LI))(F:Func)(h:eK Tryz.prog F.ntmps t fun _ xs obs=>R (xs.headD .any) obs)(hf:Tryz.prog.funcs[f]?=some F:=by kernel_rfl)(hnm:(F.name=="runtime.NumGoroutine")=false:=by kernel_rfl)(e:main JJ cfg lis {} F asq ins=t:=by kernel_rfl):aq Tryz.prog f asq ins R:=aq.LU (cfg:=cfg) (lis:=lis) (fc:={}) sM mixed hf hnm e h
theorem oF{f:Nat}{asq:List AV}{ins:List Ob}{R:AV->List Ob->Prop}{t:Tree}(lis:List (Nat×LI))(fc:FC)(F:Func)(h:eK Tryz.prog F.ntmps t fun _ xs obs=>R (xs.headD .any) obs)(hf:Tryz.prog.funcs[f]?=some F:=by kernel_rfl)(hnm:(F.name=="runtime.NumGoroutine")=false:=by kernel_rfl)(e:main JJ cfg lis fc F asq ins=t:=by kernel_rfl):aq Tryz.prog f asq ins R:=aq.LU (cfg:=cfg) (lis:=lis) (fc:=fc) sM mixed hf hnm e h
theorem uQ{P:Program}{f:Nat}{asq bs:List AV}{R:AV->List Ob->Prop}(h:u5 asq bs)(hf:aq P f bs [] R):aq P f asq [] R:=aq.nM cu (aq.up h hf)
theorem Pm(r:AV)(k:Tree):NZ r k=.aj (LK.has .ptr r/\r.isNil=false) k:=rfl
theorem PA(r:AV)(k:Tree):NP r k=.aj (LK.has .ptr r) k:=rfl
theorem Pw(r:AV)(k:Tree):NS r k=.aj (LK.has .str r) k:=rfl
theorem PD(r:AV)(k:Tree):NB r k=.aj (LK.has .bool r) k:=rfl
theorem Pv(r:AV)(k:Tree):NL r k=.aj (LK.has .sl r) k:=rfl
theorem PH(r:AV)(k:Tree):NI r k=.aj (LK.has (.int .i64) r) k:=rfl
theorem L3(l:List AV)(k:Tree):dY l k=.aj (LK.has .ptr (l.headD .any)/\1<=l.length) k:=rfl
theorem Oa(l:List AV)(k:Tree):mc l k=.aj (LK.has .str (l.headD .any)/\1<=l.length) k:=rfl
theorem MO(l:List AV)(k:Tree):rk l k=.aj (LK.has .sl (l.headD .any)/\1<=l.length) k:=rfl
theorem PF(r:AV)(k:Tree):NT r k=.aj (r=.cW [r.comp 0,r.comp 1]) k:=rfl
theorem PI(r:AV)(k:Tree):NA r k=.aj (r=.agg r.cs/\r.cs.length=2/\bO [.str,.sl] r.cs 0) k:=rfl
theorem Po(l:List AV)(k:Tree):NE l k=.aj (bO [.str,.sl] l 0/\2<=l.length) k:=rfl
theorem Px(r:AV)(i:Int)(z:Nat)(k:Tree):NG r i z k=.aj (LK.has .sl r/\0<=i/\i<r.elems.length/\(r.elems.getD i.toNat []).length=z) k:=rfl
set_option linter.defProp false in
def zq:=aH @Pm (aH @PA (aH @Pw (aH @PD (aH @Pv (aH @PH (aH @L3 (aH @Oa (aH @MO (aH @PF (aH @PI (aH @Po (aH @Px (aH @Py (aH @PE (aH @Pz (aH @Pn (aH @Pt (aH @Pq @zp))))))))))))))))))
variable {R:AV->List Ob->Prop} {U:RL}
def Eu:LI:={hd:={bZ:=[(3,.k .str),(4,.k .str),(5,.k .sl),(10,.k .bool),(11,.k (.int .i64))]},xs:={},rt:={bZ:=[(2,.k .bool)]},ex:=0}
def J8:Code:=cN (cF Tryz.f4) 10
def JG:List (Nat×LI):=[(10,Eu)]
def LD(a0:AV):Tree :=
 NL a0<|.test (decide ((a0.elems.length:Int)>(1048576:Int))) (.done 0 [VB true] []) (.call 11 [a0] [] fun r1 o1=>NT r1<|NS (r1.comp 0)<|NS (r1.comp 1)<|.call 12 [VS ((r1.comp 0).toStr),VS ((r1.comp 1).toStr)] [] fun r2 o2=>NT r2<|NL (r2.comp 0)<|NB (r2.comp 1)<|.call 13 [VS ((r1.comp 0).toStr),VS ((r1.comp 1).toStr)] [] fun r3 o3=>NT r3<|NL (r3.comp 0)<|NB (r3.comp 1)<|.test (!(((r2.comp 1).toBool)==((r3.comp 1).toBool))) (.test (((r2.comp 1).toBool)==((r3.comp 1).toBool)) (.call 14 [(r2.comp 0),(r3.comp 0)] [] fun r4 o4=>NB r4<|.done 0 [VB r4.toBool] []) (.done 0 [VB false] [])) (.call 14 [(r2.comp 0),(r3.comp 0)] [] fun r5 o5=>NB r5<|.test (!r5.toBool) (.test (((r2.comp 1).toBool)==((r3.comp 1).toBool)) (.call 14 [(r2.comp 0),(r3.comp 0)] [] fun r6 o6=>NB r6<|.done 0 [VB r6.toBool] []) (.done 0 [VB false] [])) (.test (!((r2.comp 1).toBool)) (.test (((r2.comp 1).toBool)==((r3.comp 1).toBool)) (.call 14 [(r2.comp 0),(r3.comp 0)] [] fun r7 o7=>NB r7<|.done 0 [VB r7.toBool] []) (.done 0 [VB false] [])) (.call 15 [VS ((r1.comp 0).toStr)] [] fun r8 o8=>NT r8<|NS (r8.comp 0)<|NB (r8.comp 1)<|.loop J8 Eu [VS ((r1.comp 0).toStr),VS ((r1.comp 1).toStr),(r2.comp 0),VB ((r8.comp 1).toBool),VI 0] [] (fun y12 q12=>.done 0 [VB true] []) (fun y12 q12=>NB (y12.hA)<|.done 0 [VB ((y12.hA).toBool)] [])))))
theorem NJ(a0:AV)(ha0:LK.has .sl a0)(h:du 107 (LD a0) R):aq Tryz.prog 4 [a0] [] R :=
 uQ (ah (cb ha0) aF) (oQ JG Tryz.f4 h)
def Ci(x3:ByteArray)(x4:ByteArray)(x5:AV)(x10:Bool)(x11:Int):Tree :=
 NS (VS x3)<|NS (VS x4)<|NL x5<|NB (VB x10)<|NI (VI x11)<|NL x5<|.test (decide (x11<(x5.elems.length:Int))) (.test x10 (NG x5 x11 2<|mc ((x5.ix x11).drop 1)<|.call 16 [VS x3,VS ((((x5.ix x11).drop 1).hA).toStr),VI 100] [] fun r1 o1=>NB r1<|.test (!r1.toBool) (.done 2 [VB false] []) (NG x5 x11 2<|mc (x5.ix x11)<|NG x5 x11 2<|mc ((x5.ix x11).drop 1)<|.call 17 [VS x3,VS (((x5.ix x11).hA).toStr),VS ((((x5.ix x11).drop 1).hA).toStr)] [] fun r2 o2=>NT r2<|NS (r2.comp 0)<|NB (r2.comp 1)<|NG x5 x11 2<|mc (x5.ix x11)<|.call 18 [VS (((x5.ix x11).hA).toStr)] [] fun r3 o3=>NB r3<|.test r3.toBool (.test (!((r2.comp 1).toBool)) (.done 2 [VB false] []) (.test (!(ag ((r2.comp 0).toStr)==ag x4)) (.done 2 [VB false] []) (.done 0 [VS x3,VS x4,x5,VB x10,VI (IntKind.wrap .i64 (x11+1))] []))) (.done 0 [VS x3,VS x4,x5,VB x10,VI (IntKind.wrap .i64 (x11+1))] []))) (.done 1 [] [])) (.done 1 [] [])
abbrev CM:=cA Tryz.prog 107 J8 Eu
theorem D7(x3:ByteArray)(x4:ByteArray)(x5:AV)(x10:Bool)(x11:Int)(h:lM 107 (Ci x3 x4 x5 x10 x11) CM U):CM [VS x3,VS x4,x5,VB x10,VI x11] [] U :=
 gQ JG h
def Ja(a0:AV):Tree :=
 .call 23 [a0] [] fun r1 o1=>.aj (r1=.ref 0 0/\(o1.hO)=.cells (o1.hO).cs/\(o1.hO).cs.length=2/\bO [.sl,.int .i64] ((o1.hO).cs) 0)<|.call 33 [.ref 0 0] [.cells [((o1.hO).cs.getD 0 .any),VI (((o1.hO).cs.getD 1 .any).toInt)]] fun r2 o2=>.aj ((o2.hO)=.cells (o2.hO).cs)<|.aj (aM [.lk .sl,.lk (.int .i64)] ((o2.hO).cs) 0 1 o2.tail)<|NT r2<|NS (r2.comp 0)<|NS (r2.comp 1)<|.done 0 [.cW [VS ((r2.comp 0).toStr),VS ((r2.comp 1).toStr)]] []
theorem MM(a0:AV)(ha0:LK.has .sl a0)(h:du 9 (Ja a0) R):aq Tryz.prog 11 [a0] [] R :=
 uQ (ah (cb ha0) aF) (oQ [] Tryz.f11 h)
def IB(a0:ByteArray)(a1:ByteArray):Tree :=
 .call 24 [VS a0,VS a1] [] fun r1 o1=>NT r1<|NP (r1.comp 0)<|NP (r1.comp 1)<|NP (r1.comp 1)<|.test ((r1.comp 1).isNil) (.done 0 [.cW [.v (.slice none 0 0),VB false]] []) (.call 35 [(r1.comp 0),(r1.comp 1)] [] fun r2 o2=>NL r2<|.call 34 [r2] [] fun r3 o3=>NL r3<|.done 0 [.cW [r3,VB true]] [])
theorem OJ(a0:ByteArray)(a1:ByteArray)(h:du 20 (IB a0 a1) R):aq Tryz.prog 12 [VS a0,VS a1] [] R :=
 uQ (ah (aC _) (ah (aC _) aF)) (oQ [] Tryz.f12 h)
def DP(a0:ByteArray)(a1:ByteArray):Tree :=
 .call 26 [VS a0] [] fun r1 o1=>NT r1<|.aj ((r1.comp 0)=.agg (r1.comp 0).cs/\(r1.comp 0).cs.length=2/\bO [.str,.sl] ((r1.comp 0).cs) 0)<|NB (r1.comp 1)<|.call 28 [VS a1] [] fun r2 o2=>NT r2<|.aj ((r2.comp 0)=.agg (r2.comp 0).cs/\(r2.comp 0).cs.length=2/\bO [.str,.sl] ((r2.comp 0).cs) 0)<|NB (r2.comp 1)<|.test (!((r1.comp 1).toBool)) (.done 0 [.cW [.sl [],VB false]] []) (.call 27 [VS a0,VS a1,VI 100] [] fun r3 o3=>NB r3<|.test (!r3.toBool) (.done 0 [.cW [.sl [],VB false]] []) (NG ((r1.comp 0).cs.getD 1 .any) 2 2<|NE (((r1.comp 0).cs.getD 1 .any).ix (2:Int))<|NG ((r1.comp 0).cs.getD 1 .any) 1 2<|mc (((r1.comp 0).cs.getD 1 .any).ix (1:Int))<|NG ((r2.comp 0).cs.getD 1 .any) 1 2<|NE (((r2.comp 0).cs.getD 1 .any).ix (1:Int))<|.call 37 [.agg [VS (((((r1.comp 0).cs.getD 1 .any).ix (2:Int)).getD 0 .any).toStr),((((r1.comp 0).cs.getD 1 .any).ix (2:Int)).getD 1 .any)],VS (((((r1.comp 0).cs.getD 1 .any).ix (1:Int)).hA).toStr),.agg [VS (((((r2.comp 0).cs.getD 1 .any).ix (1:Int)).getD 0 .any).toStr),((((r2.comp 0).cs.getD 1 .any).ix (1:Int)).getD 1 .any)]] [] fun r4 o4=>NL r4<|.call 36 [r4] [] fun r5 o5=>NL r5<|.done 0 [.cW [r5,VB true]] []))
theorem Lw(a0:ByteArray)(a1:ByteArray)(h:du 44 (DP a0 a1) R):aq Tryz.prog 13 [VS a0,VS a1] [] R :=
 uQ (ah (aC _) (ah (aC _) aF)) (oQ [] Tryz.f13 h)
def Ev:LI:={hd:={bZ:=[(0,.k .sl),(1,.k .sl),(5,.k (.int .i64))]},xs:={},rt:={bZ:=[(4,.k .bool)]},ex:=0}
def Jl:Code:=cN (cF Tryz.f14) 4
def Hr:List (Nat×LI):=[(4,Ev)]
def JD(a0:AV)(a1:AV):Tree :=
 NL a0<|NL a1<|.test ((a0.elems.length:Int) != (a1.elems.length:Int)) (.done 0 [VB false] []) (.loop Jl Ev [a0,a1,VI 0] [] (fun y1 q1=>.done 0 [VB true] []) (fun y1 q1=>NB (y1.hA)<|.done 0 [VB ((y1.hA).toBool)] []))
theorem Nf(a0:AV)(a1:AV)(ha0:LK.has .sl a0)(ha1:LK.has .sl a1)(h:du 26 (JD a0 a1) R):aq Tryz.prog 14 [a0,a1] [] R :=
 uQ (ah (cb ha0) (ah (cb ha1) aF)) (oQ Hr Tryz.f14 h)
def Fv(x0:AV)(x1:AV)(x5:Int):Tree :=
 NL x0<|NL x1<|NI (VI x5)<|NL x0<|.test (decide (x5<(x0.elems.length:Int))) (NG x0 x5 2<|.aj (bO [.str,.str] (x0.ix x5) 0/\2<=(x0.ix x5).length)<|NG x1 x5 2<|.aj (bO [.str,.str] (x1.ix x5) 0/\2<=(x1.ix x5).length)<|.test (!((ag (((x0.ix x5).getD 0 .any).toStr)==ag (((x1.ix x5).getD 0 .any).toStr))&&((ag (((x0.ix x5).getD 1 .any).toStr)==ag (((x1.ix x5).getD 1 .any).toStr))&&true))) (.done 2 [VB false] []) (.done 0 [x0,x1,VI (IntKind.wrap .i64 (x5+1))] [])) (.done 1 [] [])
abbrev FN:=cA Tryz.prog 26 Jl Ev
theorem KW(x0:AV)(x1:AV)(x5:Int)(h:lM 26 (Fv x0 x1 x5) FN U):FN [x0,x1,VI x5] [] U :=
 gQ Hr h
def Ih(a0:ByteArray):Tree :=
 .call 38 [VS a0] [] fun r1 o1=>NP r1<|NP r1<|.test r1.isNil (.done 0 [.cW [VS (mk []),VB false]] []) (NZ r1<|NZ r1<|.aj (LK.has (.int .u8) (r1.deref.hA)/\1<=r1.deref.length)<|.test (((r1.deref.hA).toInt) != (114:Int)) (.done 0 [.cW [VS (mk []),VB false]] []) (.call 39 [r1] [] fun r2 o2=>NT r2<|NP (r2.comp 0)<|NB (r2.comp 1)<|.test (!((r2.comp 1).toBool)) (.done 0 [.cW [VS (mk []),VB false]] []) (.call 40 [(r2.comp 0)] [] fun r3 o3=>NT r3<|NS (r3.comp 0)<|NB (r3.comp 1)<|.done 0 [.cW [VS ((r3.comp 0).toStr),VB ((r3.comp 1).toBool)]] [])))
theorem Mp(a0:ByteArray)(h:du 29 (Ih a0) R):aq Tryz.prog 15 [VS a0] [] R :=
 uQ (ah (aC _) aF) (oQ [] Tryz.f15 h)
def Ic(a0:ByteArray)(a1:ByteArray)(a2:Int):Tree :=
 .call 41 [VS a0,VS a1,VI a2] [] fun r1 o1=>NT r1<|NP (r1.comp 0)<|NP (r1.comp 1)<|NP (r1.comp 1)<|.done 0 [VB (!(r1.comp 1).isNil)] []
theorem MD(a0:ByteArray)(a1:ByteArray)(a2:Int)(h:du 18 (Ic a0 a1 a2) R):aq Tryz.prog 16 [VS a0,VS a1,VI a2] [] R :=
 uQ (ah (aC _) (ah (aC _) (ah (aC _) aF))) (oQ [] Tryz.f16 h)
def H0(a0:ByteArray)(a1:ByteArray)(a2:ByteArray):Tree :=
 .call 24 [VS a0,VS a2] [] fun r1 o1=>NT r1<|NP (r1.comp 0)<|NP (r1.comp 1)<|.call 15 [VS a0] [] fun r2 o2=>NT r2<|NS (r2.comp 0)<|NB (r2.comp 1)<|NP (r1.comp 1)<|.test ((r1.comp 1).isNil) (.done 0 [.cW [VS (mk []),VB false]] []) (.test (!((r2.comp 1).toBool)) (.done 0 [.cW [VS (mk []),VB false]] []) (.call 41 [VS ((r2.comp 0).toStr),VS a1,VI 100] [] fun r3 o3=>NT r3<|NP (r3.comp 0)<|NP (r3.comp 1)<|NP (r3.comp 1)<|.test ((r3.comp 1).isNil) (.done 0 [.cW [VS (mk []),VB false]] []) (.call 43 [(r1.comp 0),(r3.comp 1),(r1.comp 1)] [] fun r4 o4=>NP r4<|.call 42 [r4] [] fun r5 o5=>NT r5<|NS (r5.comp 0)<|NB (r5.comp 1)<|.done 0 [.cW [VS ((r5.comp 0).toStr),VB ((r5.comp 1).toBool)]] [])))
theorem N6(a0:ByteArray)(a1:ByteArray)(a2:ByteArray)(h:du 46 (H0 a0 a1 a2) R):aq Tryz.prog 17 [VS a0,VS a1,VS a2] [] R :=
 uQ (ah (aC _) (ah (aC _) (ah (aC _) aF))) (oQ [] Tryz.f17 h)
def Ln(a0:ByteArray):Tree :=
 .call 44 [VS a0] [] fun r1 o1=>NP r1<|NP r1<|.done 0 [VB (!r1.isNil)] []
theorem L4(a0:ByteArray)(h:du 6 (Ln a0) R):aq Tryz.prog 18 [VS a0] [] R :=
 uQ (ah (aC _) aF) (oQ [] Tryz.f18 h)
def Li(a0:AV):Tree :=
 NL a0<|.test (decide ((a0.elems.length:Int)>(2000:Int))) (.aj (LK.has .sl a0/\0<=(0:Int)/\(0:Int)<=(2000:Int)/\(2000:Int)<=(a0.elems.length:Int))<|.done 0 [.ref 0 0] [.cells [.sl ((a0.elems.take (bR 2000)).drop (bR 0)),VI 0]]) (.done 0 [.ref 0 0] [.cells [a0,VI 0]])
theorem M6(a0:AV)(ha0:LK.has .sl a0)(h:du 11 (Li a0) R):aq Tryz.prog 23 [a0] [] R :=
 uQ (ah (cb ha0) aF) (oF [] {mu:=[],own:=[0],ow:=[.sl,.int .i64]} Tryz.f23 h)
def JC(a0:ByteArray)(a1:ByteArray):Tree :=
 .call 51 [VS a0] [] fun r1 o1=>NP r1<|NP r1<|.test r1.isNil (.done 0 [.cW [.v (.pointer none),.v (.pointer none)]] []) (.call 41 [VS a0,VS a1,VI 100] [] fun r2 o2=>NT r2<|NP (r2.comp 0)<|NP (r2.comp 1)<|.done 0 [.cW [(r2.comp 0),(r2.comp 1)]] [])
theorem MY(a0:ByteArray)(a1:ByteArray)(h:du 14 (JC a0 a1) R):aq Tryz.prog 24 [VS a0,VS a1] [] R :=
 uQ (ah (aC _) (ah (aC _) aF)) (oQ [] Tryz.f24 h)
def JT(a0:ByteArray):Tree :=
 .call 53 [VS a0] [] fun r1 o1=>NT r1<|.aj ((r1.comp 0)=.agg (r1.comp 0).cs/\(r1.comp 0).cs.length=2/\bO [.str,.sl] ((r1.comp 0).cs) 0)<|NB (r1.comp 1)<|.test ((r1.comp 1).toBool) (.call 54 [.agg [VS (((r1.comp 0).cs.getD 0 .any).toStr),((r1.comp 0).cs.getD 1 .any)]] [] fun r2 o2=>NS r2<|.done 0 [.cW [.agg [VS (((r1.comp 0).cs.getD 0 .any).toStr),((r1.comp 0).cs.getD 1 .any)],VB (ag r2.toStr==ag (mk [114,101,99]))]] []) (.done 0 [.cW [.agg [VS (((r1.comp 0).cs.getD 0 .any).toStr),((r1.comp 0).cs.getD 1 .any)],VB false]] [])
theorem Ox(a0:ByteArray)(h:du 18 (JT a0) R):aq Tryz.prog 26 [VS a0] [] R :=
 uQ (ah (aC _) aF) (oQ [] Tryz.f26 h)
def HF(a0:ByteArray)(a1:ByteArray)(a2:Int):Tree :=
 .call 53 [VS a0] [] fun r1 o1=>NT r1<|.aj ((r1.comp 0)=.agg (r1.comp 0).cs/\(r1.comp 0).cs.length=2/\bO [.str,.sl] ((r1.comp 0).cs) 0)<|NB (r1.comp 1)<|.call 28 [VS a1] [] fun r2 o2=>NT r2<|.aj ((r2.comp 0)=.agg (r2.comp 0).cs/\(r2.comp 0).cs.length=2/\bO [.str,.sl] ((r2.comp 0).cs) 0)<|NB (r2.comp 1)<|.test ((r1.comp 1).toBool) (.test ((r2.comp 1).toBool) (.call 55 [VI a2,VI 0,VI 100] [] fun r3 o3=>NB r3<|.test r3.toBool (.call 56 [.agg [VS (((r1.comp 0).cs.getD 0 .any).toStr),((r1.comp 0).cs.getD 1 .any)],.sl [],.agg [VS (((r2.comp 0).cs.getD 0 .any).toStr),((r2.comp 0).cs.getD 1 .any)],VI a2] [] fun r4 o4=>NB r4<|.done 0 [VB r4.toBool] []) (.done 0 [VB false] [])) (.done 0 [VB false] [])) (.done 0 [VB false] [])
theorem NH(a0:ByteArray)(a1:ByteArray)(a2:Int)(h:du 36 (HF a0 a1 a2) R):aq Tryz.prog 27 [VS a0,VS a1,VI a2] [] R :=
 uQ (ah (aC _) (ah (aC _) (ah (aC _) aF))) (oQ [] Tryz.f27 h)
def HM(a0:ByteArray):Tree :=
 .call 57 [VS a0] [] fun r1 o1=>NT r1<|.aj ((r1.comp 0)=.agg (r1.comp 0).cs/\(r1.comp 0).cs.length=2/\bO [.str,.sl] ((r1.comp 0).cs) 0)<|NB (r1.comp 1)<|.test ((r1.comp 1).toBool) (.call 58 [.agg [VS (((r1.comp 0).cs.getD 0 .any).toStr),((r1.comp 0).cs.getD 1 .any)]] [] fun r2 o2=>NB r2<|.test r2.toBool (.call 59 [.agg [VS (((r1.comp 0).cs.getD 0 .any).toStr),((r1.comp 0).cs.getD 1 .any)]] [] fun r3 o3=>NI r3<|.done 0 [.cW [.agg [VS (((r1.comp 0).cs.getD 0 .any).toStr),((r1.comp 0).cs.getD 1 .any)],VB (decide (r3.toInt<=(200:Int)))]] []) (.done 0 [.cW [.agg [VS (((r1.comp 0).cs.getD 0 .any).toStr),((r1.comp 0).cs.getD 1 .any)],VB false]] [])) (.done 0 [.cW [.agg [VS (((r1.comp 0).cs.getD 0 .any).toStr),((r1.comp 0).cs.getD 1 .any)],VB false]] [])
theorem OH(a0:ByteArray)(h:du 22 (HM a0) R):aq Tryz.prog 28 [VS a0] [] R :=
 uQ (ah (aC _) aF) (oQ [] Tryz.f28 h)
def G2(a0_0:AV)(a0_1:Int):Tree :=
 .call 68 [.ref 0 0] [.cells [a0_0,VI a0_1]] fun r1 o1=>.aj ((o1.hO)=.cells (o1.hO).cs)<|.aj (aM [.lk .sl,.lk (.int .i64)] ((o1.hO).cs) 0 1 o1.tail)<|NS r1<|.call 45 [.ref 0 0,VI 12] [.cells [((o1.hO).cs.getD 0 .any),VI (((o1.hO).cs.getD 1 .any).toInt)]] fun r2 o2=>.aj ((o2.hO)=.cells (o2.hO).cs)<|.aj (aM [.lk .sl,.lk (.int .i64)] ((o2.hO).cs) 0 1 o2.tail)<|NI r2<|.test (r2.toInt==(0:Int)) (.call 69 [.ref 0 0] [.cells [((o2.hO).cs.getD 0 .any),VI (((o2.hO).cs.getD 1 .any).toInt)]] fun r3 o3=>.aj ((o3.hO)=.cells (o3.hO).cs)<|.aj (aM [.lk .sl,.lk (.int .i64)] ((o3.hO).cs) 0 1 o3.tail)<|NT r3<|NS (r3.comp 0)<|NS (r3.comp 1)<|.done 0 [.cW [VS ((r3.comp 0).toStr),VS ((r3.comp 1).toStr)]] [.cells [((o3.hO).cs.getD 0 .any),VI (((o3.hO).cs.getD 1 .any).toInt)]]) (.call 50 [.ref 0 0,VS r1.toStr] [.cells [((o2.hO).cs.getD 0 .any),VI (((o2.hO).cs.getD 1 .any).toInt)]] fun r4 o4=>.aj ((o4.hO)=.cells (o4.hO).cs)<|.aj (aM [.lk .sl,.lk (.int .i64)] ((o4.hO).cs) 0 1 o4.tail)<|NS r4<|.done 0 [.cW [VS r1.toStr,VS r4.toStr]] [.cells [((o4.hO).cs.getD 0 .any),VI (((o4.hO).cs.getD 1 .any).toInt)]])
theorem Mm(a0_0:AV)(a0_1:Int)(ha0_0:LK.has .sl a0_0)(h:du 18 (G2 a0_0 a0_1) R):aq Tryz.prog 33 [.ref 0 0] [.cells [a0_0,VI a0_1]] R :=
 aq.nM (bo (bX (ah (cb ha0_0) (ah (aC _) aF))) cu) (aq.up (ah (aC _) aF) (oF [] {mu:=[(0,.one (.obj [.lk .sl,.lk (.int .i64)]))],own:=[]} Tryz.f33 h))
def F1:LI:={hd:={bZ:=[(7,.k .sl),(8,.k (.int .i64)),(9,.k (.int .i64))],eH:=[(3,2)]},xs:={eH:=[(3,2)]},rt:={},ex:=0}
def Hy:Code:=cN (cF Tryz.f34) 3
def HS:List (Nat×LI):=[(3,F1)]
def GM(a0:AV):Tree :=
 NL a0<|.loop Hy F1 [a0,VI (a0.elems.length:Int),VI 0] [.vec 2 []] (fun y3 q3=>.aj (((q3.drop 0).hO)=.vec 2 ((q3.drop 0).hO).es)<|.done 0 [.sl ((q3.hO).es)] []) (fun y3 q3=>.done 0 [.any] [])
theorem Ny(a0:AV)(ha0:LK.has .sl a0)(h:du 25 (GM a0) R):aq Tryz.prog 34 [a0] [] R :=
 uQ (ah (cb ha0) aF) (oQ HS Tryz.f34 h)
def Fb(x7:AV)(x8:Int)(x9:Int)(e3:List (List AV)):Tree :=
 NL x7<|NI (VI x8)<|NI (VI x9)<|.aj (Ob.vec 2 e3=.vec 2 e3)<|.test (decide (x9<x8)) (NG x7 x9 2<|.aj (bO [.ptr,.ptr] (x7.ix x9) 0/\2<=(x7.ix x9).length)<|.call 52 [((x7.ix x9).getD 0 .any)] [] fun r1 o1=>NS r1<|.call 52 [((x7.ix x9).getD 1 .any)] [] fun r2 o2=>NS r2<|.aj (cx 2 [[VS r1.toStr,VS r2.toStr]]/\((e3.length)+([[VS r1.toStr,VS r2.toStr]]:List (List AV)).length)*32<=140737488355328)<|.done 0 [x7,VI x8,VI (IntKind.wrap .i64 (x9+1))] [.vec 2 (e3++([[VS r1.toStr,VS r2.toStr]]:List (List AV)))]) (.done 1 [] [.vec 2 e3])
abbrev Ee:=cA Tryz.prog 25 Hy F1
theorem HH(x7:AV)(x8:Int)(x9:Int)(e3:List (List AV))(h:lM 25 (Fb x7 x8 x9 e3) Ee U):Ee [x7,VI x8,VI x9] [.vec 2 e3] U :=
 gQ HS h
def HO(a0:AV)(a1:AV):Tree :=
 .call 70 [.agg [a0,.v (.pointer none)]] [] fun r1 o1=>NT r1<|.aj ((r1.comp 0)=.agg (r1.comp 0).cs/\(r1.comp 0).cs.length=2/\bO [.ptr,.ptr] ((r1.comp 0).cs) 0)<|NP (r1.comp 1)<|NZ a1<|NZ a1<|dY (a1.deref.drop 2)<|.call 71 [.agg [((r1.comp 0).cs.getD 0 .any),((r1.comp 0).cs.getD 1 .any)],((a1.deref.drop 2).hA),.agg [VS (mk []),(r1.comp 1)]] [] fun r2 o2=>NL r2<|.done 0 [r2] []
theorem MX(a0:AV)(a1:AV)(ha0:LK.has .ptr a0)(ha1:LK.has .ptr a1)(h:du 21 (HO a0 a1) R):aq Tryz.prog 35 [a0,a1] [] R :=
 uQ (ah (bu ha0) (ah (bu ha1) aF)) (oQ [] Tryz.f35 h)
def Fe:LI:={hd:={bZ:=[(0,.k .sl),(4,.k (.int .i64))],eH:=[(3,2)]},xs:={eH:=[(3,2)]},rt:={},ex:=0}
def Hd:Code:=cN (cF Tryz.f36) 3
def I6:List (Nat×LI):=[(3,Fe)]
def H8(a0:AV):Tree :=
 .loop Hd Fe [a0,VI 0] [.vec 2 []] (fun y3 q3=>.aj (((q3.drop 0).hO)=.vec 2 ((q3.drop 0).hO).es)<|.done 0 [.sl ((q3.hO).es)] []) (fun y3 q3=>.done 0 [.any] [])
theorem M7(a0:AV)(ha0:LK.has .sl a0)(h:du 29 (H8 a0) R):aq Tryz.prog 36 [a0] [] R :=
 uQ (ah (cb ha0) aF) (oQ I6 Tryz.f36 h)
def E6(x0:AV)(x4:Int)(e3:List (List AV)):Tree :=
 NL x0<|NI (VI x4)<|.aj (Ob.vec 2 e3=.vec 2 e3)<|NL x0<|.test (decide (x4<(x0.elems.length:Int))) (NG x0 x4 4<|NE (x0.ix x4)<|.call 60 [.agg [VS (((x0.ix x4).getD 0 .any).toStr),((x0.ix x4).getD 1 .any)]] [] fun r1 o1=>NS r1<|NG x0 x4 4<|NE ((x0.ix x4).drop 2)<|.call 60 [.agg [VS ((((x0.ix x4).drop 2).getD 0 .any).toStr),(((x0.ix x4).drop 2).getD 1 .any)]] [] fun r2 o2=>NS r2<|.aj (cx 2 [[VS r1.toStr,VS r2.toStr]]/\((e3.length)+([[VS r1.toStr,VS r2.toStr]]:List (List AV)).length)*32<=140737488355328)<|.done 0 [x0,VI (IntKind.wrap .i64 (x4+1))] [.vec 2 (e3++([[VS r1.toStr,VS r2.toStr]]:List (List AV)))]) (.done 1 [] [.vec 2 e3])
abbrev DY:=cA Tryz.prog 29 Hd Fe
theorem Kh(x0:AV)(x4:Int)(e3:List (List AV))(h:lM 29 (E6 x0 x4 e3) DY U):DY [x0,VI x4] [.vec 2 e3] U :=
 gQ I6 h
def DV:LI:={hd:={bZ:=[(1,.k .str),(8,.k .sl),(9,.k (.int .i64))],refs:=[(3,3),(5,5)],cj:=[(3,[.lk .str,.lk .sl]),(5,[.lk .str,.lk .sl])],eH:=[(7,4)]},xs:={bZ:=[(1,.k .str)],refs:=[(3,3),(5,5)],cj:=[(3,[.lk .str,.lk .sl]),(5,[.lk .str,.lk .sl])],eH:=[(7,4)]},rt:={},ex:=1}
def Jg:Code:=cN (cF Tryz.f37) 14
def DA:LI:={hd:={bZ:=[(10,.k .sl),(11,.k (.int .i64))],refs:=[(5,5)],cj:=[(5,[.lk .str,.lk .sl])],eH:=[(7,4)]},xs:={eH:=[(7,4)]},rt:={},ex:=3}
def KH:Code:=cN (cF Tryz.f37) 19
def DW:LI:={hd:={bZ:=[(1,.k .str),(12,.k .str),(13,.k .sl),(14,.k (.int .i64))],refs:=[(3,3),(5,5)],cj:=[(3,[.lk .str,.lk .sl]),(5,[.lk .str,.lk .sl])],eH:=[(7,4)]},xs:={bZ:=[(1,.k .str),(12,.k .str)],refs:=[(3,3),(5,5)],cj:=[(3,[.lk .str,.lk .sl]),(5,[.lk .str,.lk .sl])],eH:=[(7,4)]},rt:={},ex:=5}
def IE:Code:=cN (cF Tryz.f37) 28
def Fu:LI:={hd:={bZ:=[(1,.k .str),(15,.k .sl),(16,.k (.int .i64))],refs:=[(3,3)],cj:=[(3,[.lk .str,.lk .sl])],eH:=[(7,4)]},xs:={eH:=[(7,4)]},rt:={},ex:=7}
def Ls:Code:=cN (cF Tryz.f37) 33
def E4:LI:={hd:={bZ:=[(1,.k .str),(15,.k .sl),(16,.k (.int .i64)),(17,.k .sl),(18,.k (.int .i64))],refs:=[(3,3)],cj:=[(3,[.lk .str,.lk .sl])],eH:=[(7,4)]},xs:={bZ:=[(1,.k .str),(15,.k .sl),(16,.k (.int .i64))],refs:=[(3,3)],cj:=[(3,[.lk .str,.lk .sl])],eH:=[(7,4)]},rt:={},ex:=9}
def Kg:Code:=cN (cF Tryz.f37) 37
def yI:List (Nat×LI):=[(14,DV),(19,DA),(28,DW),(33,Fu),(37,E4)]
def vK(a0_0:ByteArray)(a0_1:AV)(a1:ByteArray)(a2_0:ByteArray)(a2_1:AV):Tree :=
 .test (!(ag a0_0==ag (mk []))) (.test (ag a0_0==ag a1) (.aj (cx 4 [[VS (mk [117]),.v (.slice none 0 0),VS a2_0,a2_1]]/\((([]:List (List AV)).length)+([[VS (mk [117]),.v (.slice none 0 0),VS a2_0,a2_1]]:List (List AV)).length)*80<=140737488355328)<|.done 0 [.sl [[VS (mk [117]),.v (.slice none 0 0),VS a2_0,a2_1]]] []) (.done 0 [.sl []] [])) (.call 54 [.agg [VS a2_0,a2_1]] [] fun r1 o1=>NS r1<|.test (ag r1.toStr==ag (mk [108])) (NG a0_1 1 2<|NE (a0_1.ix (1:Int))<|NG a2_1 1 2<|NE (a2_1.ix (1:Int))<|.call 37 [.agg [VS (((a0_1.ix (1:Int)).getD 0 .any).toStr),((a0_1.ix (1:Int)).getD 1 .any)],VS a1,.agg [VS (((a2_1.ix (1:Int)).getD 0 .any).toStr),((a2_1.ix (1:Int)).getD 1 .any)]] [] fun r2 o2=>NL r2<|.call 72 [r2,VS (mk [108]),.vec 0] [.vec 4 []] fun r3 o3=>.aj (r3=.vec 1/\(o3.tail.hO)=.vec 4 (o3.tail.hO).es)<|.done 0 [.sl ((o3.tail.hO).es)] []) (.test (ag r1.toStr==ag (mk [114])) (NG a0_1 2 2<|NE (a0_1.ix (2:Int))<|NG a2_1 1 2<|NE (a2_1.ix (1:Int))<|.call 37 [.agg [VS (((a0_1.ix (2:Int)).getD 0 .any).toStr),((a0_1.ix (2:Int)).getD 1 .any)],VS a1,.agg [VS (((a2_1.ix (1:Int)).getD 0 .any).toStr),((a2_1.ix (1:Int)).getD 1 .any)]] [] fun r4 o4=>NL r4<|.call 72 [r4,VS (mk [114]),.vec 0] [.vec 4 []] fun r5 o5=>.aj (r5=.vec 1/\(o5.tail.hO)=.vec 4 (o5.tail.hO).es)<|.done 0 [.sl ((o5.tail.hO).es)] []) (.test (ag r1.toStr==ag (mk [112])) (NG a0_1 1 2<|NE (a0_1.ix (1:Int))<|NG a2_1 1 2<|NE (a2_1.ix (1:Int))<|.call 37 [.agg [VS (((a0_1.ix (1:Int)).getD 0 .any).toStr),((a0_1.ix (1:Int)).getD 1 .any)],VS a1,.agg [VS (((a2_1.ix (1:Int)).getD 0 .any).toStr),((a2_1.ix (1:Int)).getD 1 .any)]] [] fun r6 o6=>NL r6<|.loop Jg DV [VS a1,r6,VI 0] [.cells [VS a0_0,a0_1],.cells [VS a2_0,a2_1],.vec 4 []] (fun y9 q9=>NS (y9.hA)<|.aj ((q9.hO)=.cells (q9.hO).cs)<|.aj (af [.lk .str,.lk .sl] ((q9.hO).cs) 0 q9.tail)<|.aj (((q9.tail.drop 0).hO)=.cells ((q9.tail.drop 0).hO).cs)<|.aj (af [.lk .str,.lk .sl] (((q9.tail.drop 0).hO).cs) 0 ((q9.tail.drop 0).tail))<|.aj (((q9.drop 2).hO)=.vec 4 ((q9.drop 2).hO).es)<|NG ((q9.hO).cs.getD 1 .any) 2 2<|NE (((q9.hO).cs.getD 1 .any).ix (2:Int))<|NG ((q9.tail.hO).cs.getD 1 .any) 2 2<|NE (((q9.tail.hO).cs.getD 1 .any).ix (2:Int))<|.call 37 [.agg [VS (((((q9.hO).cs.getD 1 .any).ix (2:Int)).getD 0 .any).toStr),((((q9.hO).cs.getD 1 .any).ix (2:Int)).getD 1 .any)],VS ((y9.hA).toStr),.agg [VS (((((q9.tail.hO).cs.getD 1 .any).ix (2:Int)).getD 0 .any).toStr),((((q9.tail.hO).cs.getD 1 .any).ix (2:Int)).getD 1 .any)]] [] fun r10 o10=>NL r10<|.loop KH DA [r10,VI 0] [.cells [VS (((q9.tail.hO).cs.getD 0 .any).toStr),((q9.tail.hO).cs.getD 1 .any)],.vec 4 ((q9.tail.tail.hO).es)] (fun y13 q13=>.aj (((q13.drop 0).hO)=.vec 4 ((q13.drop 0).hO).es)<|.done 0 [.sl ((q13.hO).es)] []) (fun y13 q13=>.done 0 [.any] [])) (fun y9 q9=>.done 0 [.any] [])) (NG a0_1 1 2<|mc (a0_1.ix (1:Int))<|.test (ag (((a0_1.ix (1:Int)).hA).toStr)==ag a1) (.done 0 [.sl []] []) (NG a0_1 2 2<|NE (a0_1.ix (2:Int))<|NG a2_1 1 2<|NE (a2_1.ix (1:Int))<|.call 37 [.agg [VS (((a0_1.ix (2:Int)).getD 0 .any).toStr),((a0_1.ix (2:Int)).getD 1 .any)],VS a1,.agg [VS (((a2_1.ix (1:Int)).getD 0 .any).toStr),((a2_1.ix (1:Int)).getD 1 .any)]] [] fun r14 o14=>NL r14<|.loop IE DW [VS a1,VS (((a0_1.ix (1:Int)).hA).toStr),r14,VI 0] [.cells [VS a0_0,a0_1],.cells [VS a2_0,a2_1],.vec 4 []] (fun y17 q17=>NS (y17.hA)<|NS (y17.tail.hA)<|.aj ((q17.hO)=.cells (q17.hO).cs)<|.aj (af [.lk .str,.lk .sl] ((q17.hO).cs) 0 q17.tail)<|.aj (((q17.tail.drop 0).hO)=.cells ((q17.tail.drop 0).hO).cs)<|.aj (af [.lk .str,.lk .sl] (((q17.tail.drop 0).hO).cs) 0 ((q17.tail.drop 0).tail))<|.aj (((q17.drop 2).hO)=.vec 4 ((q17.drop 2).hO).es)<|NG ((q17.hO).cs.getD 1 .any) 2 2<|NE (((q17.hO).cs.getD 1 .any).ix (2:Int))<|NG ((q17.tail.hO).cs.getD 1 .any) 1 2<|NE (((q17.tail.hO).cs.getD 1 .any).ix (1:Int))<|.call 37 [.agg [VS (((((q17.hO).cs.getD 1 .any).ix (2:Int)).getD 0 .any).toStr),((((q17.hO).cs.getD 1 .any).ix (2:Int)).getD 1 .any)],VS ((y17.tail.hA).toStr),.agg [VS (((((q17.tail.hO).cs.getD 1 .any).ix (1:Int)).getD 0 .any).toStr),((((q17.tail.hO).cs.getD 1 .any).ix (1:Int)).getD 1 .any)]] [] fun r18 o18=>NL r18<|.loop Ls Fu [VS ((y17.hA).toStr),r18,VI 0] [.cells [VS (((q17.hO).cs.getD 0 .any).toStr),((q17.hO).cs.getD 1 .any)],.vec 4 ((q17.tail.tail.hO).es)] (fun y24 q24=>.aj (((q24.drop 0).hO)=.vec 4 ((q24.drop 0).hO).es)<|.done 0 [.sl ((q24.hO).es)] []) (fun y24 q24=>.done 0 [.any] [])) (fun y17 q17=>.done 0 [.any] []))))))
theorem Mt(a0_0:ByteArray)(a0_1:AV)(a1:ByteArray)(a2_0:ByteArray)(a2_1:AV)(ha0_1:LK.has .sl a0_1)(ha2_1:LK.has .sl a2_1)(h:du 244 (vK a0_0 a0_1 a1 a2_0 a2_1) R):aq Tryz.prog 37 [.agg [VS a0_0,a0_1],VS a1,.agg [VS a2_0,a2_1]] [] R :=
 uQ (ah (cL (ah (aC _) (ah (cb ha0_1) aF))) (ah (aC _) (ah (cL (ah (aC _) (ah (cb ha2_1) aF))) aF))) (oQ yI Tryz.f37 h)
def Gw(x1:ByteArray)(x8:AV)(x9:Int)(o3_0:ByteArray)(o3_1:AV)(o5_0:ByteArray)(o5_1:AV)(e7:List (List AV)):Tree :=
 NS (VS x1)<|NL x8<|NI (VI x9)<|.aj (Ob.cells [VS o3_0,o3_1]=.cells [VS o3_0,o3_1])<|.aj (af [.lk .str,.lk .sl] [VS o3_0,o3_1] 0 [.cells [VS o5_0,o5_1],.vec 4 e7])<|.aj (Ob.cells [VS o5_0,o5_1]=.cells [VS o5_0,o5_1])<|.aj (af [.lk .str,.lk .sl] [VS o5_0,o5_1] 0 [.vec 4 e7])<|.aj (Ob.vec 4 e7=.vec 4 e7)<|NL x8<|.test (decide (x9<(x8.elems.length:Int))) (NG x8 x9 4<|NE (x8.ix x9)<|NG o5_1 2 2<|NE (o5_1.ix (2:Int))<|.call 61 [VS (mk [112]),.sl [[VS (((x8.ix x9).getD 0 .any).toStr),((x8.ix x9).getD 1 .any)],[VS (((o5_1.ix (2:Int)).getD 0 .any).toStr),((o5_1.ix (2:Int)).getD 1 .any)]]] [] fun r1 o1=>NA r1<|.call 61 [VS (mk [108]),.sl [[VS ((r1.cs.getD 0 .any).toStr),(r1.cs.getD 1 .any)]]] [] fun r2 o2=>NA r2<|NG x8 x9 4<|NE ((x8.ix x9).drop 2)<|.aj (cx 4 [[VS ((r2.cs.getD 0 .any).toStr),(r2.cs.getD 1 .any),VS ((((x8.ix x9).drop 2).getD 0 .any).toStr),(((x8.ix x9).drop 2).getD 1 .any)]]/\((e7.length)+([[VS ((r2.cs.getD 0 .any).toStr),(r2.cs.getD 1 .any),VS ((((x8.ix x9).drop 2).getD 0 .any).toStr),(((x8.ix x9).drop 2).getD 1 .any)]]:List (List AV)).length)*80<=140737488355328)<|.done 0 [VS x1,x8,VI (IntKind.wrap .i64 (x9+1))] [.cells [VS o3_0,o3_1],.cells [VS o5_0,o5_1],.vec 4 (e7++([[VS ((r2.cs.getD 0 .any).toStr),(r2.cs.getD 1 .any),VS ((((x8.ix x9).drop 2).getD 0 .any).toStr),(((x8.ix x9).drop 2).getD 1 .any)]]:List (List AV)))]) (.done 1 [VS x1] [.cells [VS o3_0,o3_1],.cells [VS o5_0,o5_1],.vec 4 e7])
abbrev D0:=cA Tryz.prog 244 Jg DV
theorem Kp(x1:ByteArray)(x8:AV)(x9:Int)(o3_0:ByteArray)(o3_1:AV)(o5_0:ByteArray)(o5_1:AV)(e7:List (List AV))(h:lM 244 (Gw x1 x8 x9 o3_0 o3_1 o5_0 o5_1 e7) D0 U):D0 [VS x1,x8,VI x9] [.cells [VS o3_0,o3_1],.cells [VS o5_0,o5_1],.vec 4 e7] U :=
 gQ yI h
def Eg(x10:AV)(x11:Int)(o5_0:ByteArray)(o5_1:AV)(e7:List (List AV)):Tree :=
 NL x10<|NI (VI x11)<|.aj (Ob.cells [VS o5_0,o5_1]=.cells [VS o5_0,o5_1])<|.aj (af [.lk .str,.lk .sl] [VS o5_0,o5_1] 0 [.vec 4 e7])<|.aj (Ob.vec 4 e7=.vec 4 e7)<|NL x10<|.test (decide (x11<(x10.elems.length:Int))) (NG o5_1 1 2<|NE (o5_1.ix (1:Int))<|NG x10 x11 4<|NE (x10.ix x11)<|.call 61 [VS (mk [112]),.sl [[VS (((o5_1.ix (1:Int)).getD 0 .any).toStr),((o5_1.ix (1:Int)).getD 1 .any)],[VS (((x10.ix x11).getD 0 .any).toStr),((x10.ix x11).getD 1 .any)]]] [] fun r1 o1=>NA r1<|.call 61 [VS (mk [114]),.sl [[VS ((r1.cs.getD 0 .any).toStr),(r1.cs.getD 1 .any)]]] [] fun r2 o2=>NA r2<|NG x10 x11 4<|NE ((x10.ix x11).drop 2)<|.aj (cx 4 [[VS ((r2.cs.getD 0 .any).toStr),(r2.cs.getD 1 .any),VS ((((x10.ix x11).drop 2).getD 0 .any).toStr),(((x10.ix x11).drop 2).getD 1 .any)]]/\((e7.length)+([[VS ((r2.cs.getD 0 .any).toStr),(r2.cs.getD 1 .any),VS ((((x10.ix x11).drop 2).getD 0 .any).toStr),(((x10.ix x11).drop 2).getD 1 .any)]]:List (List AV)).length)*80<=140737488355328)<|.done 0 [x10,VI (IntKind.wrap .i64 (x11+1))] [.cells [VS o5_0,o5_1],.vec 4 (e7++([[VS ((r2.cs.getD 0 .any).toStr),(r2.cs.getD 1 .any),VS ((((x10.ix x11).drop 2).getD 0 .any).toStr),(((x10.ix x11).drop 2).getD 1 .any)]]:List (List AV)))]) (.done 1 [] [.vec 4 e7])
abbrev Gf:=cA Tryz.prog 244 KH DA
theorem He(x10:AV)(x11:Int)(o5_0:ByteArray)(o5_1:AV)(e7:List (List AV))(h:lM 244 (Eg x10 x11 o5_0 o5_1 e7) Gf U):Gf [x10,VI x11] [.cells [VS o5_0,o5_1],.vec 4 e7] U :=
 gQ yI h
def FZ(x1:ByteArray)(x12:ByteArray)(x13:AV)(x14:Int)(o3_0:ByteArray)(o3_1:AV)(o5_0:ByteArray)(o5_1:AV)(e7:List (List AV)):Tree :=
 NS (VS x1)<|NS (VS x12)<|NL x13<|NI (VI x14)<|.aj (Ob.cells [VS o3_0,o3_1]=.cells [VS o3_0,o3_1])<|.aj (af [.lk .str,.lk .sl] [VS o3_0,o3_1] 0 [.cells [VS o5_0,o5_1],.vec 4 e7])<|.aj (Ob.cells [VS o5_0,o5_1]=.cells [VS o5_0,o5_1])<|.aj (af [.lk .str,.lk .sl] [VS o5_0,o5_1] 0 [.vec 4 e7])<|.aj (Ob.vec 4 e7=.vec 4 e7)<|NL x13<|.test (decide (x14<(x13.elems.length:Int))) (NG x13 x14 4<|NE (x13.ix x14)<|.call 61 [VS (mk [108]),.sl [[VS (((x13.ix x14).getD 0 .any).toStr),((x13.ix x14).getD 1 .any)]]] [] fun r1 o1=>NA r1<|.call 61 [VS (mk [102]),.sl [[VS ((r1.cs.getD 0 .any).toStr),(r1.cs.getD 1 .any)]]] [] fun r2 o2=>NA r2<|NG x13 x14 4<|NE ((x13.ix x14).drop 2)<|.aj (cx 4 [[VS ((r2.cs.getD 0 .any).toStr),(r2.cs.getD 1 .any),VS ((((x13.ix x14).drop 2).getD 0 .any).toStr),(((x13.ix x14).drop 2).getD 1 .any)]]/\((e7.length)+([[VS ((r2.cs.getD 0 .any).toStr),(r2.cs.getD 1 .any),VS ((((x13.ix x14).drop 2).getD 0 .any).toStr),(((x13.ix x14).drop 2).getD 1 .any)]]:List (List AV)).length)*80<=140737488355328)<|.done 0 [VS x1,VS x12,x13,VI (IntKind.wrap .i64 (x14+1))] [.cells [VS o3_0,o3_1],.cells [VS o5_0,o5_1],.vec 4 (e7++([[VS ((r2.cs.getD 0 .any).toStr),(r2.cs.getD 1 .any),VS ((((x13.ix x14).drop 2).getD 0 .any).toStr),(((x13.ix x14).drop 2).getD 1 .any)]]:List (List AV)))]) (.done 1 [VS x1,VS x12] [.cells [VS o3_0,o3_1],.cells [VS o5_0,o5_1],.vec 4 e7])
abbrev E8:=cA Tryz.prog 244 IE DW
theorem Kq(x1:ByteArray)(x12:ByteArray)(x13:AV)(x14:Int)(o3_0:ByteArray)(o3_1:AV)(o5_0:ByteArray)(o5_1:AV)(e7:List (List AV))(h:lM 244 (FZ x1 x12 x13 x14 o3_0 o3_1 o5_0 o5_1 e7) E8 U):E8 [VS x1,VS x12,x13,VI x14] [.cells [VS o3_0,o3_1],.cells [VS o5_0,o5_1],.vec 4 e7] U :=
 gQ yI h
def EL(x1:ByteArray)(x15:AV)(x16:Int)(o3_0:ByteArray)(o3_1:AV)(e7:List (List AV)):Tree :=
 NS (VS x1)<|NL x15<|NI (VI x16)<|.aj (Ob.cells [VS o3_0,o3_1]=.cells [VS o3_0,o3_1])<|.aj (af [.lk .str,.lk .sl] [VS o3_0,o3_1] 0 [.vec 4 e7])<|.aj (Ob.vec 4 e7=.vec 4 e7)<|NL x15<|.test (decide (x16<(x15.elems.length:Int))) (NG x15 x16 4<|NE ((x15.ix x16).drop 2)<|.call 37 [.agg [VS o3_0,o3_1],VS x1,.agg [VS ((((x15.ix x16).drop 2).getD 0 .any).toStr),(((x15.ix x16).drop 2).getD 1 .any)]] [] fun r1 o1=>NL r1<|.loop Kg E4 [VS x1,x15,VI x16,r1,VI 0] [.cells [VS o3_0,o3_1],.vec 4 e7] (fun y2 q2=>NS (y2.hA)<|NL (y2.tail.hA)<|NI (y2.tail.tail.hA)<|.aj ((q2.hO)=.cells (q2.hO).cs)<|.aj (af [.lk .str,.lk .sl] ((q2.hO).cs) 0 q2.tail)<|.aj (((q2.drop 1).hO)=.vec 4 ((q2.drop 1).hO).es)<|.done 0 [VS ((y2.hA).toStr),(y2.tail.hA),VI (IntKind.wrap .i64 (((y2.tail.tail.hA).toInt)+1))] [.cells [VS (((q2.hO).cs.getD 0 .any).toStr),((q2.hO).cs.getD 1 .any)],.vec 4 ((q2.tail.hO).es)]) (fun y2 q2=>.done 2 [] [])) (.done 1 [] [.vec 4 e7])
abbrev DB:=cA Tryz.prog 244 Ls Fu
theorem IY(x1:ByteArray)(x15:AV)(x16:Int)(o3_0:ByteArray)(o3_1:AV)(e7:List (List AV))(h:lM 244 (EL x1 x15 x16 o3_0 o3_1 e7) DB U):DB [VS x1,x15,VI x16] [.cells [VS o3_0,o3_1],.vec 4 e7] U :=
 gQ yI h
def D1(x1:ByteArray)(x15:AV)(x16:Int)(x17:AV)(x18:Int)(o3_0:ByteArray)(o3_1:AV)(e7:List (List AV)):Tree :=
 NS (VS x1)<|NL x15<|NI (VI x16)<|NL x17<|NI (VI x18)<|.aj (Ob.cells [VS o3_0,o3_1]=.cells [VS o3_0,o3_1])<|.aj (af [.lk .str,.lk .sl] [VS o3_0,o3_1] 0 [.vec 4 e7])<|.aj (Ob.vec 4 e7=.vec 4 e7)<|NL x17<|.test (decide (x18<(x17.elems.length:Int))) (NG x15 x16 4<|NE (x15.ix x16)<|NG x17 x18 4<|NE (x17.ix x18)<|.call 61 [VS (mk [112]),.sl [[VS (((x15.ix x16).getD 0 .any).toStr),((x15.ix x16).getD 1 .any)],[VS (((x17.ix x18).getD 0 .any).toStr),((x17.ix x18).getD 1 .any)]]] [] fun r1 o1=>NA r1<|.call 61 [VS (mk [114]),.sl [[VS ((r1.cs.getD 0 .any).toStr),(r1.cs.getD 1 .any)]]] [] fun r2 o2=>NA r2<|.call 61 [VS (mk [102]),.sl [[VS ((r2.cs.getD 0 .any).toStr),(r2.cs.getD 1 .any)]]] [] fun r3 o3=>NA r3<|NG x17 x18 4<|NE ((x17.ix x18).drop 2)<|.aj (cx 4 [[VS ((r3.cs.getD 0 .any).toStr),(r3.cs.getD 1 .any),VS ((((x17.ix x18).drop 2).getD 0 .any).toStr),(((x17.ix x18).drop 2).getD 1 .any)]]/\((e7.length)+([[VS ((r3.cs.getD 0 .any).toStr),(r3.cs.getD 1 .any),VS ((((x17.ix x18).drop 2).getD 0 .any).toStr),(((x17.ix x18).drop 2).getD 1 .any)]]:List (List AV)).length)*80<=140737488355328)<|.done 0 [VS x1,x15,VI x16,x17,VI (IntKind.wrap .i64 (x18+1))] [.cells [VS o3_0,o3_1],.vec 4 (e7++([[VS ((r3.cs.getD 0 .any).toStr),(r3.cs.getD 1 .any),VS ((((x17.ix x18).drop 2).getD 0 .any).toStr),(((x17.ix x18).drop 2).getD 1 .any)]]:List (List AV)))]) (.done 1 [VS x1,x15,VI x16] [.cells [VS o3_0,o3_1],.vec 4 e7])
abbrev Gi:=cA Tryz.prog 244 Kg E4
theorem Ll(x1:ByteArray)(x15:AV)(x16:Int)(x17:AV)(x18:Int)(o3_0:ByteArray)(o3_1:AV)(e7:List (List AV))(h:lM 244 (D1 x1 x15 x16 x17 x18 o3_0 o3_1 e7) Gi U):Gi [VS x1,x15,VI x16,x17,VI x18] [.cells [VS o3_0,o3_1],.vec 4 e7] U :=
 gQ yI h
def J6(a0:ByteArray):Tree :=
 .call 73 [VS a0] [] fun r1 o1=>NP r1<|NP r1<|.test r1.isNil (.done 0 [.v (.pointer none)] []) (.call 74 [r1,.v (.slice none 0 0)] [] fun r2 o2=>NP r2<|NP r2<|.test r2.isNil (.done 0 [.v (.pointer none)] []) (.call 75 [r2] [] fun r3 o3=>NI r3<|.test (decide (r3.toInt>(400:Int))) (.done 0 [.v (.pointer none)] []) (.done 0 [r2] [])))
theorem OZ(a0:ByteArray)(h:du 19 (J6 a0) R):aq Tryz.prog 38 [VS a0] [] R :=
 uQ (ah (aC _) aF) (oQ [] Tryz.f38 h)
def KS(a0:AV):Tree :=
 .call 76 [.ref 0 0] [.cells [VI 0,VB false]] fun r1 o1=>.aj ((o1.hO)=.cells (o1.hO).cs)<|.aj (aM [.lk (.int .i64),.lk .bool] ((o1.hO).cs) 0 1 o1.tail)<|NS r1<|NZ a0<|NZ a0<|dY (a0.deref.drop 3)<|.call 79 [((a0.deref.drop 3).hA),.ptr [.v (.int .u8 110),VS r1.toStr,VI 0,.v (.pointer none),.v (.pointer none)],VI 0] [] fun r2 o2=>NP r2<|.call 78 [.ref 0 0,r2,VS r1.toStr] [.cells [VI (((o1.hO).cs.getD 0 .any).toInt),VB (((o1.hO).cs.getD 1 .any).toBool)]] fun r3 o3=>.aj ((o3.hO)=.cells (o3.hO).cs)<|.aj (aM [.lk (.int .i64),.lk .bool] ((o3.hO).cs) 0 1 o3.tail)<|NP r3<|.call 77 [.ref 0 0,r3] [.cells [VI (((o3.hO).cs.getD 0 .any).toInt),VB (((o3.hO).cs.getD 1 .any).toBool)]] fun r4 o4=>.aj ((o4.hO)=.cells (o4.hO).cs)<|.aj (aM [.lk (.int .i64),.lk .bool] ((o4.hO).cs) 0 1 o4.tail)<|NP r4<|.test (((o4.hO).cs.getD 1 .any).toBool) (.done 0 [.cW [.v (.pointer none),VB false]] []) (.call 80 [r4,VS r1.toStr,a0] [] fun r5 o5=>NP r5<|.call 77 [.ref 0 0,r5] [.cells [VI (((o4.hO).cs.getD 0 .any).toInt),VB (((o4.hO).cs.getD 1 .any).toBool)]] fun r6 o6=>.aj ((o6.hO)=.cells (o6.hO).cs)<|.aj (aM [.lk (.int .i64),.lk .bool] ((o6.hO).cs) 0 1 o6.tail)<|NP r6<|.done 0 [.cW [r6,VB (!(((o6.hO).cs.getD 1 .any).toBool))]] [])
theorem Ms(a0:AV)(ha0:LK.has .ptr a0)(h:du 40 (KS a0) R):aq Tryz.prog 39 [a0] [] R :=
 uQ (ah (bu ha0) aF) (oQ [] Tryz.f39 h)
def IF(a0:AV):Tree :=
 .call 75 [a0] [] fun r1 o1=>NI r1<|.test (decide (r1.toInt>(400:Int))) (.done 0 [.cW [VS (mk []),VB false]] []) (.call 81 [a0] [] fun r2 o2=>NS r2<|.call 38 [VS r2.toStr] [] fun r3 o3=>NP r3<|NP r3<|.test r3.isNil (.done 0 [.cW [VS (mk []),VB false]] []) (.done 0 [.cW [VS r2.toStr,VB true]] []))
theorem On(a0:AV)(ha0:LK.has .ptr a0)(h:du 14 (IF a0) R):aq Tryz.prog 40 [a0] [] R :=
 uQ (ah (bu ha0) aF) (oQ [] Tryz.f40 h)
def IM(a0:ByteArray)(a1:ByteArray)(a2:Int):Tree :=
 .call 82 [VS a0] [] fun r1 o1=>NP r1<|.call 44 [VS a1] [] fun r2 o2=>NP r2<|NP r1<|.test r1.isNil (.done 0 [.cW [r1,.v (.pointer none)]] []) (NP r2<|.test r2.isNil (.done 0 [.cW [r1,.v (.pointer none)]] []) (.test (decide (a2<(0:Int))) (.done 0 [.cW [r1,.v (.pointer none)]] []) (.test (decide (a2>(100:Int))) (.done 0 [.cW [r1,.v (.pointer none)]] []) (.call 83 [.agg [r1,.v (.pointer none)],r2,VI a2] [] fun r3 o3=>NB r3<|.test (!r3.toBool) (.done 0 [.cW [r1,.v (.pointer none)]] []) (.done 0 [.cW [r1,r2]] [])))))
theorem Nk(a0:ByteArray)(a1:ByteArray)(a2:Int)(h:du 39 (IM a0 a1 a2) R):aq Tryz.prog 41 [VS a0,VS a1,VI a2] [] R :=
 uQ (ah (aC _) (ah (aC _) (ah (aC _) aF))) (oQ [] Tryz.f41 h)
def JF(a0:AV):Tree :=
 .call 84 [a0] [] fun r1 o1=>NI r1<|.test (decide (r1.toInt>(200:Int))) (.done 0 [.cW [VS (mk []),VB false]] []) (.call 52 [a0] [] fun r2 o2=>NS r2<|.done 0 [.cW [VS r2.toStr,VB true]] [])
theorem MP(a0:AV)(ha0:LK.has .ptr a0)(h:du 9 (JF a0) R):aq Tryz.prog 42 [a0] [] R :=
 uQ (ah (bu ha0) aF) (oQ [] Tryz.f42 h)
def Ly(a0:AV)(a1:AV)(a2:AV):Tree :=
 .call 70 [.agg [a0,.v (.pointer none)]] [] fun r1 o1=>NT r1<|.aj ((r1.comp 0)=.agg (r1.comp 0).cs/\(r1.comp 0).cs.length=2/\bO [.ptr,.ptr] ((r1.comp 0).cs) 0)<|NP (r1.comp 1)<|.call 86 [.agg [((r1.comp 0).cs.getD 0 .any),((r1.comp 0).cs.getD 1 .any)],a1,.agg [VS (mk []),(r1.comp 1)],a2] [] fun r2 o2=>NP r2<|.call 85 [.v (.int .u8 102),r2] [] fun r3 o3=>NP r3<|.done 0 [r3] []
theorem OW(a0:AV)(a1:AV)(a2:AV)(ha0:LK.has .ptr a0)(ha1:LK.has .ptr a1)(ha2:LK.has .ptr a2)(h:du 22 (Ly a0 a1 a2) R):aq Tryz.prog 43 [a0,a1,a2] [] R :=
 uQ (ah (bu ha0) (ah (bu ha1) (ah (bu ha2) aF))) (oQ [] Tryz.f43 h)
def Im(a0:ByteArray):Tree :=
 .call 73 [VS a0] [] fun r1 o1=>NP r1<|NP r1<|.test r1.isNil (.done 0 [.v (.pointer none)] []) (.call 87 [r1] [] fun r2 o2=>NP r2<|NP r2<|.test r2.isNil (.done 0 [.v (.pointer none)] []) (.call 84 [r2] [] fun r3 o3=>NI r3<|.test (decide (r3.toInt>(200:Int))) (.done 0 [.v (.pointer none)] []) (.done 0 [r2] [])))
theorem Og(a0:ByteArray)(h:du 19 (Im a0) R):aq Tryz.prog 44 [VS a0] [] R :=
 uQ (ah (aC _) aF) (oQ [] Tryz.f44 h)
def J0(a0_0:AV)(a0_1:Int)(a1:Int):Tree :=
 .test (decide (a1<(1:Int))) (.done 0 [VI 0] [.cells [a0_0,VI (IntKind.wrap .i64 (a0_1+1))]]) (NL a0_0<|.test ((a0_0.elems.length:Int)==(0:Int)) (.done 0 [VI 0] [.cells [a0_0,VI (IntKind.wrap .i64 (a0_1+1))]]) (NL a0_0<|.test (decide ((IntKind.wrap .i64 ((IntKind.wrap .i64 (a0_1+1))-1))<(a0_0.elems.length:Int))) (.aj (LK.has .sl a0_0/\0<=(IntKind.wrap .i64 ((IntKind.wrap .i64 (a0_1+1))-1))/\(IntKind.wrap .i64 ((IntKind.wrap .i64 (a0_1+1))-1))<a0_0.elems.length/\(a0_0.ix (IntKind.wrap .i64 ((IntKind.wrap .i64 (a0_1+1))-1))).length=1)<|.aj (LK.has (.int .u8) ((a0_0.ix (IntKind.wrap .i64 ((IntKind.wrap .i64 (a0_1+1))-1))).hA)/\1<=(a0_0.ix (IntKind.wrap .i64 ((IntKind.wrap .i64 (a0_1+1))-1))).length)<|.aj (¬a1=0)<|.done 0 [VI (dj (IntKind.wrap .i64 (((a0_0.ix (IntKind.wrap .i64 ((IntKind.wrap .i64 (a0_1+1))-1))).hA).toInt)) a1)] [.cells [a0_0,VI (IntKind.wrap .i64 (a0_1+1))]]) (NL a0_0<|.aj (¬(a0_0.elems.length:Int)=0)<|.aj (LK.has .sl a0_0/\0<=(dj (IntKind.wrap .i64 ((IntKind.wrap .i64 (a0_1+1))-1)) (a0_0.elems.length:Int))/\(dj (IntKind.wrap .i64 ((IntKind.wrap .i64 (a0_1+1))-1)) (a0_0.elems.length:Int))<a0_0.elems.length/\(a0_0.ix (dj (IntKind.wrap .i64 ((IntKind.wrap .i64 (a0_1+1))-1)) (a0_0.elems.length:Int))).length=1)<|.aj (LK.has (.int .u8) ((a0_0.ix (dj (IntKind.wrap .i64 ((IntKind.wrap .i64 (a0_1+1))-1)) (a0_0.elems.length:Int))).hA)/\1<=(a0_0.ix (dj (IntKind.wrap .i64 ((IntKind.wrap .i64 (a0_1+1))-1)) (a0_0.elems.length:Int))).length)<|NL a0_0<|.aj (¬(a0_0.elems.length:Int)=0)<|.aj (LK.has .sl a0_0/\0<=(dj (IntKind.wrap .i64 ((IntKind.wrap .i64 ((IntKind.wrap .i64 ((IntKind.wrap .i64 (a0_1+1))-1))*7))+3)) (a0_0.elems.length:Int))/\(dj (IntKind.wrap .i64 ((IntKind.wrap .i64 ((IntKind.wrap .i64 ((IntKind.wrap .i64 (a0_1+1))-1))*7))+3)) (a0_0.elems.length:Int))<a0_0.elems.length/\(a0_0.ix (dj (IntKind.wrap .i64 ((IntKind.wrap .i64 ((IntKind.wrap .i64 ((IntKind.wrap .i64 (a0_1+1))-1))*7))+3)) (a0_0.elems.length:Int))).length=1)<|.aj (LK.has (.int .u8) ((a0_0.ix (dj (IntKind.wrap .i64 ((IntKind.wrap .i64 ((IntKind.wrap .i64 ((IntKind.wrap .i64 (a0_1+1))-1))*7))+3)) (a0_0.elems.length:Int))).hA)/\1<=(a0_0.ix (dj (IntKind.wrap .i64 ((IntKind.wrap .i64 ((IntKind.wrap .i64 ((IntKind.wrap .i64 (a0_1+1))-1))*7))+3)) (a0_0.elems.length:Int))).length)<|NL a0_0<|.aj (¬(a0_0.elems.length:Int)=0)<|.aj (¬(64:Int)=0)<|.aj (¬a1=0)<|.done 0 [VI (dj (AU .i64 (IntKind.wrap .i64 ((IntKind.wrap .i64 ((IntKind.wrap .i64 ((IntKind.wrap .i64 ((IntKind.wrap .i64 (((a0_0.ix (dj (IntKind.wrap .i64 ((IntKind.wrap .i64 (a0_1+1))-1)) (a0_0.elems.length:Int))).hA).toInt))*131))+(IntKind.wrap .i64 ((IntKind.wrap .i64 (((a0_0.ix (dj (IntKind.wrap .i64 ((IntKind.wrap .i64 ((IntKind.wrap .i64 ((IntKind.wrap .i64 (a0_1+1))-1))*7))+3)) (a0_0.elems.length:Int))).hA).toInt))*1117))))+(IntKind.wrap .i64 ((IntKind.wrap .i64 ((IntKind.wrap .i64 (a0_1+1))-1))*29))))+(IntKind.wrap .i64 ((IntKind.wrap .i64 (Int.tdiv (IntKind.wrap .i64 ((IntKind.wrap .i64 (a0_1+1))-1)) (a0_0.elems.length:Int)))*53)))) (IntKind.wrap .i64 (Int.tdiv (IntKind.wrap .i64 ((IntKind.wrap .i64 ((IntKind.wrap .i64 ((IntKind.wrap .i64 ((IntKind.wrap .i64 (((a0_0.ix (dj (IntKind.wrap .i64 ((IntKind.wrap .i64 (a0_1+1))-1)) (a0_0.elems.length:Int))).hA).toInt))*131))+(IntKind.wrap .i64 ((IntKind.wrap .i64 (((a0_0.ix (dj (IntKind.wrap .i64 ((IntKind.wrap .i64 ((IntKind.wrap .i64 ((IntKind.wrap .i64 (a0_1+1))-1))*7))+3)) (a0_0.elems.length:Int))).hA).toInt))*1117))))+(IntKind.wrap .i64 ((IntKind.wrap .i64 ((IntKind.wrap .i64 (a0_1+1))-1))*29))))+(IntKind.wrap .i64 ((IntKind.wrap .i64 (Int.tdiv (IntKind.wrap .i64 ((IntKind.wrap .i64 (a0_1+1))-1)) (a0_0.elems.length:Int)))*53)))) 64))) a1)] [.cells [a0_0,VI (IntKind.wrap .i64 (a0_1+1))]])))
theorem Ma(a0_0:AV)(a0_1:Int)(a1:Int)(ha0_0:LK.has .sl a0_0)(h:du 99 (J0 a0_0 a0_1 a1) R):aq Tryz.prog 45 [.ref 0 0,VI a1] [.cells [a0_0,VI a0_1]] R :=
 aq.nM (bo (bX (ah (cb ha0_0) (ah (aC _) aF))) cu) (aq.up (ah (aC _) (ah (aC _) aF)) (oF [] {mu:=[(0,.one (.obj [.lk .sl,.lk (.int .i64)]))],own:=[]} Tryz.f45 h))
def KE(a0_0:AV)(a0_1:Int)(a1:ByteArray):Tree :=
 .call 53 [VS a1] [] fun r1 o1=>NT r1<|.aj ((r1.comp 0)=.agg (r1.comp 0).cs/\(r1.comp 0).cs.length=2/\bO [.str,.sl] ((r1.comp 0).cs) 0)<|NB (r1.comp 1)<|.test (!((r1.comp 1).toBool)) (.call 94 [.ref 0 0,.sl [[VS (mk [])],[VS (mk [117])],[VS (mk [101,48])],[VS (mk [101,48,48])],[VS (mk [101,49,48,48])],[VS (mk [40,108,32,117,41])],[VS (mk [40,112,32,117,41])],[VS (mk [40,102,32,40,108,32,117,41,41])],[VS (mk [40,120,32,117,41])],[VS (mk [40,108,32,32,117,41])]]] [.cells [a0_0,VI a0_1]] fun r2 o2=>.aj ((o2.hO)=.cells (o2.hO).cs)<|.aj (aM [.lk .sl,.lk (.int .i64)] ((o2.hO).cs) 0 1 o2.tail)<|NS r2<|.done 0 [VS r2.toStr] [.cells [((o2.hO).cs.getD 0 .any),VI (((o2.hO).cs.getD 1 .any).toInt)]]) (.call 45 [.ref 0 0,VI 16] [.cells [a0_0,VI a0_1]] fun r3 o3=>.aj ((o3.hO)=.cells (o3.hO).cs)<|.aj (aM [.lk .sl,.lk (.int .i64)] ((o3.hO).cs) 0 1 o3.tail)<|NI r3<|.test (r3.toInt==(0:Int)) (.call 94 [.ref 0 0,.sl [[VS (mk [])],[VS (mk [117])],[VS (mk [101,48])],[VS (mk [101,48,48])],[VS (mk [101,49,48,48])],[VS (mk [40,108,32,117,41])],[VS (mk [40,112,32,117,41])],[VS (mk [40,102,32,40,108,32,117,41,41])],[VS (mk [40,120,32,117,41])],[VS (mk [40,108,32,32,117,41])]]] [.cells [((o3.hO).cs.getD 0 .any),VI (((o3.hO).cs.getD 1 .any).toInt)]] fun r4 o4=>.aj ((o4.hO)=.cells (o4.hO).cs)<|.aj (aM [.lk .sl,.lk (.int .i64)] ((o4.hO).cs) 0 1 o4.tail)<|NS r4<|.done 0 [VS r4.toStr] [.cells [((o4.hO).cs.getD 0 .any),VI (((o4.hO).cs.getD 1 .any).toInt)]]) (.call 96 [.agg [VS (((r1.comp 0).cs.getD 0 .any).toStr),((r1.comp 0).cs.getD 1 .any)],.v (.slice none 0 0)] [] fun r5 o5=>NA r5<|.call 45 [.ref 0 0,VI 5] [.cells [((o3.hO).cs.getD 0 .any),VI (((o3.hO).cs.getD 1 .any).toInt)]] fun r6 o6=>.aj ((o6.hO)=.cells (o6.hO).cs)<|.aj (aM [.lk .sl,.lk (.int .i64)] ((o6.hO).cs) 0 1 o6.tail)<|NI r6<|.call 95 [.ref 0 0,.agg [VS ((r5.cs.getD 0 .any).toStr),(r5.cs.getD 1 .any)],VI (IntKind.wrap .i64 (5+r6.toInt))] [.cells [((o6.hO).cs.getD 0 .any),VI (((o6.hO).cs.getD 1 .any).toInt)]] fun r7 o7=>.aj ((o7.hO)=.cells (o7.hO).cs)<|.aj (aM [.lk .sl,.lk (.int .i64)] ((o7.hO).cs) 0 1 o7.tail)<|NA r7<|.call 60 [.agg [VS ((r7.cs.getD 0 .any).toStr),(r7.cs.getD 1 .any)]] [] fun r8 o8=>NS r8<|.done 0 [VS r8.toStr] [.cells [((o7.hO).cs.getD 0 .any),VI (((o7.hO).cs.getD 1 .any).toInt)]]))
theorem Oc(a0_0:AV)(a0_1:Int)(a1:ByteArray)(ha0_0:LK.has .sl a0_0)(h:du 30 (KE a0_0 a0_1 a1) R):aq Tryz.prog 50 [.ref 0 0,VS a1] [.cells [a0_0,VI a0_1]] R :=
 aq.nM (bo (bX (ah (cb ha0_0) (ah (aC _) aF))) cu) (aq.up (ah (aC _) (ah (aC _) aF)) (oF [] {mu:=[(0,.one (.obj [.lk .sl,.lk (.int .i64)]))],own:=[]} Tryz.f50 h))
def Iw(a0:ByteArray):Tree :=
 .call 82 [VS a0] [] fun r1 o1=>NP r1<|NP r1<|.test r1.isNil (.done 0 [.v (.pointer none)] []) (NZ r1<|NZ r1<|.aj (LK.has (.int .u8) (r1.deref.hA)/\1<=r1.deref.length)<|.test (((r1.deref.hA).toInt) != (114:Int)) (.done 0 [.v (.pointer none)] []) (.done 0 [r1] []))
theorem MR(a0:ByteArray)(h:du 16 (Iw a0) R):aq Tryz.prog 51 [VS a0] [] R :=
 uQ (ah (aC _) aF) (oQ [] Tryz.f51 h)
def vV(a0:AV):Tree :=
 NZ a0<|NZ a0<|.aj (LK.has (.int .u8) (a0.deref.hA)/\1<=a0.deref.length)<|.test (((a0.deref.hA).toInt)==(117:Int)) (.done 0 [VS (mk [117])] []) (.test (((a0.deref.hA).toInt)==(101:Int)) (NZ a0<|NZ a0<|mc (a0.deref.drop 1)<|.done 0 [VS (((a0.deref.drop 1).hA).toStr)] []) (.test (((a0.deref.hA).toInt)==(112:Int)) (NZ a0<|NZ a0<|dY (a0.deref.drop 2)<|.call 52 [((a0.deref.drop 2).hA)] [] fun r1 o1=>NS r1<|.aj (ae (mk [40,112,32])+ae r1.toStr<=9223372036854775807)<|.aj (ae (((mk [40,112,32]):ByteArray)++r1.toStr)+ae (mk [32])<=9223372036854775807)<|NZ a0<|NZ a0<|dY (a0.deref.drop 3)<|.call 52 [((a0.deref.drop 3).hA)] [] fun r2 o2=>NS r2<|.aj (ae (((((mk [40,112,32]):ByteArray)++r1.toStr):ByteArray)++(mk [32]))+ae r2.toStr<=9223372036854775807)<|.aj (ae (((((((mk [40,112,32]):ByteArray)++r1.toStr):ByteArray)++(mk [32])):ByteArray)++r2.toStr)+ae (mk [41])<=9223372036854775807)<|.done 0 [VS (((((((((mk [40,112,32]):ByteArray)++r1.toStr):ByteArray)++(mk [32])):ByteArray)++r2.toStr):ByteArray)++(mk [41]))] []) (NZ a0<|NZ a0<|.aj (LK.has (.int .u8) (a0.deref.hA)/\1<=a0.deref.length)<|.aj (jh [[.v (.int .u8 ((a0.deref.hA).toInt))]])<|.aj (ae (mk [40])+ae (⟨(bytesOf [[.v (.int .u8 ((a0.deref.hA).toInt))]]).toArray⟩)<=9223372036854775807)<|.aj (ae (((mk [40]):ByteArray)++(⟨(bytesOf [[.v (.int .u8 ((a0.deref.hA).toInt))]]).toArray⟩))+ae (mk [32])<=9223372036854775807)<|NZ a0<|NZ a0<|dY (a0.deref.drop 2)<|.call 52 [((a0.deref.drop 2).hA)] [] fun r3 o3=>NS r3<|.aj (ae (((((mk [40]):ByteArray)++(⟨(bytesOf [[.v (.int .u8 ((a0.deref.hA).toInt))]]).toArray⟩)):ByteArray)++(mk [32]))+ae r3.toStr<=9223372036854775807)<|.aj (ae (((((((mk [40]):ByteArray)++(⟨(bytesOf [[.v (.int .u8 ((a0.deref.hA).toInt))]]).toArray⟩)):ByteArray)++(mk [32])):ByteArray)++r3.toStr)+ae (mk [41])<=9223372036854775807)<|.done 0 [VS (((((((((mk [40]):ByteArray)++(⟨(bytesOf [[.v (.int .u8 ((a0.deref.hA).toInt))]]).toArray⟩)):ByteArray)++(mk [32])):ByteArray)++r3.toStr):ByteArray)++(mk [41]))] [])))
theorem yk(a0:AV)(ha0:LK.has .ptr a0)(h:du 46 (vV a0) R):aq Tryz.prog 52 [a0] [] R :=
 uQ (ah (bu ha0) aF) (oQ [] Tryz.f52 h)
def Ge:LI:={hd:={bZ:=[(7,.k (.int .i64))],refs:=[(2,2),(4,4)],cj:=[(2,[.lk .str,.lk .sl]),(4,[.lk .str,.lk .sl])],eH:=[(6,1)]},xs:={refs:=[(2,2),(4,4)],cj:=[(2,[.lk .str,.lk .sl]),(4,[.lk .str,.lk .sl])]},rt:={bZ:=[(3,.k .bool)],refs:=[(2,2)],cj:=[(2,[.lk .str,.lk .sl])]},ex:=0}
def Iu:Code:=cN (cF Tryz.f53) 6
def KJ:List (Nat×LI):=[(6,Ge)]
def I2(a0:ByteArray):Tree :=
 .call 97 [VS a0] [] fun r1 o1=>NT r1<|.aj ((r1.comp 0)=.agg (r1.comp 0).cs/\(r1.comp 0).cs.length=2/\bO [.str,.sl] ((r1.comp 0).cs) 0)<|NB (r1.comp 1)<|.test (!((r1.comp 1).toBool)) (.done 0 [.cW [.agg [VS (((r1.comp 0).cs.getD 0 .any).toStr),((r1.comp 0).cs.getD 1 .any)],VB false]] []) (.call 98 [.agg [VS (((r1.comp 0).cs.getD 0 .any).toStr),((r1.comp 0).cs.getD 1 .any)],.sl [],.vec 0] [.vec 1 []] fun r2 o2=>.aj (r2=.vec 1/\(o2.tail.hO)=.vec 1 (o2.tail.hO).es)<|.loop Iu Ge [VI 0] [.cells [VS (mk []),.v (.slice none 0 0)],.cells [VS (((r1.comp 0).cs.getD 0 .any).toStr),((r1.comp 0).cs.getD 1 .any)],.vec 1 ((o2.tail.hO).es)] (fun y4 q4=>.aj ((q4.hO)=.cells (q4.hO).cs)<|.aj (af [.lk .str,.lk .sl] ((q4.hO).cs) 0 q4.tail)<|.aj (((q4.tail.drop 0).hO)=.cells ((q4.tail.drop 0).hO).cs)<|.aj (af [.lk .str,.lk .sl] (((q4.tail.drop 0).hO).cs) 0 ((q4.tail.drop 0).tail))<|.done 0 [.cW [.agg [VS (((q4.tail.hO).cs.getD 0 .any).toStr),((q4.tail.hO).cs.getD 1 .any)],VB true]] []) (fun y4 q4=>NB (y4.hA)<|.aj ((q4.hO)=.cells (q4.hO).cs)<|.aj (af [.lk .str,.lk .sl] ((q4.hO).cs) 0 q4.tail)<|.done 0 [.cW [.agg [VS (((q4.hO).cs.getD 0 .any).toStr),((q4.hO).cs.getD 1 .any)],VB ((y4.hA).toBool)]] []))
theorem Mx(a0:ByteArray)(h:du 33 (I2 a0) R):aq Tryz.prog 53 [VS a0] [] R :=
 uQ (ah (aC _) aF) (oQ KJ Tryz.f53 h)
def Ef(x7:Int)(o2_0:ByteArray)(o2_1:AV)(o4_0:ByteArray)(o4_1:AV)(e6:List (List AV)):Tree :=
 NI (VI x7)<|.aj (Ob.cells [VS o2_0,o2_1]=.cells [VS o2_0,o2_1])<|.aj (af [.lk .str,.lk .sl] [VS o2_0,o2_1] 0 [.cells [VS o4_0,o4_1],.vec 1 e6])<|.aj (Ob.cells [VS o4_0,o4_1]=.cells [VS o4_0,o4_1])<|.aj (af [.lk .str,.lk .sl] [VS o4_0,o4_1] 0 [.vec 1 e6])<|.aj (Ob.vec 1 e6=.vec 1 e6)<|.test (decide (x7<(e6.length:Int))) (.aj (0<=x7/\x7<e6.length)<|.aj (x7.toNat<e6.length/\0<(e6.getD x7.toNat []).length/\LK.has .str ((e6.getD x7.toNat []).getD 0 .any))<|.call 99 [VS (((e6.getD x7.toNat []).getD 0 .any).toStr)] [] fun r1 o1=>NB r1<|.test r1.toBool (.done 2 [VB false] [.cells [VS o4_0,o4_1]]) (.done 0 [VI (IntKind.wrap .i64 (x7+1))] [.cells [VS o2_0,o2_1],.cells [VS o4_0,o4_1],.vec 1 e6])) (.done 1 [] [.cells [VS o2_0,o2_1],.cells [VS o4_0,o4_1]])
abbrev Fj:=cA Tryz.prog 33 Iu Ge
theorem II(x7:Int)(o2_0:ByteArray)(o2_1:AV)(o4_0:ByteArray)(o4_1:AV)(e6:List (List AV))(h:lM 33 (Ef x7 o2_0 o2_1 o4_0 o4_1 e6) Fj U):Fj [VI x7] [.cells [VS o2_0,o2_1],.cells [VS o4_0,o4_1],.vec 1 e6] U :=
 gQ KJ h
def CF(a0_0:ByteArray)(a0_1:AV):Tree :=
 .test (!(ag a0_0==ag (mk []))) (.done 0 [VS (mk [])] []) (NL a0_1<|.test ((a0_1.elems.length:Int)==(0:Int)) (.done 0 [VS (mk [])] []) (NG a0_1 0 2<|mc (a0_1.ix (0:Int))<|.done 0 [VS (((a0_1.ix (0:Int)).hA).toStr)] []))
theorem Fl(a0_0:ByteArray)(a0_1:AV)(ha0_1:LK.has .sl a0_1)(h:du 17 (CF a0_0 a0_1) R):aq Tryz.prog 54 [.agg [VS a0_0,a0_1]] [] R :=
 uQ (ah (cL (ah (aC _) (ah (cb ha0_1) aF))) aF) (oQ [] Tryz.f54 h)
def Hp(a0:Int)(a1:Int)(a2:Int):Tree :=
 .test (decide (a0≥a1)) (.done 0 [VB (decide (a0<=a2))] []) (.done 0 [VB false] [])
theorem O7(a0:Int)(a1:Int)(a2:Int)(h:du 15 (Hp a0 a1 a2) R):aq Tryz.prog 55 [VI a0,VI a1,VI a2] [] R :=
 uQ (ah (aC _) (ah (aC _) (ah (aC _) aF))) (oQ [] Tryz.f55 h)
def LB(a0_0:ByteArray)(a0_1:AV)(a1:AV)(a2_0:ByteArray)(a2_1:AV)(a3:Int):Tree :=
 .call 100 [.agg [VS a0_0,a0_1],a1] [] fun r1 o1=>NT r1<|.aj ((r1.comp 0)=.agg (r1.comp 0).cs/\(r1.comp 0).cs.length=2/\bO [.str,.sl] ((r1.comp 0).cs) 0)<|NL (r1.comp 1)<|.test (!(ag (((r1.comp 0).cs.getD 0 .any).toStr)==ag (mk []))) (.test (ag (((r1.comp 0).cs.getD 0 .any).toStr)==ag (mk [49])) (.done 0 [VB (ag a2_0==ag (mk [117]))] []) (.call 101 [VS (((r1.comp 0).cs.getD 0 .any).toStr)] [] fun r2 o2=>NB r2<|.test r2.toBool (.call 102 [VS a2_0] [] fun r3 o3=>NI r3<|.call 55 [VI r3.toInt,VI 0,VI (IntKind.wrap .i64 (a3-1))] [] fun r4 o4=>NB r4<|.done 0 [VB r4.toBool] []) (.done 0 [VB false] []))) (.call 54 [.agg [VS (((r1.comp 0).cs.getD 0 .any).toStr),((r1.comp 0).cs.getD 1 .any)]] [] fun r5 o5=>NS r5<|.call 54 [.agg [VS a2_0,a2_1]] [] fun r6 o6=>NS r6<|.aj (ae r5.toStr+ae r6.toStr<=9223372036854775807)<|.test (ag ((r5.toStr:ByteArray)++r6.toStr)==ag (mk [43,108])) (NG ((r1.comp 0).cs.getD 1 .any) 1 2<|NE (((r1.comp 0).cs.getD 1 .any).ix (1:Int))<|NG a2_1 1 2<|NE (a2_1.ix (1:Int))<|.call 56 [.agg [VS (((((r1.comp 0).cs.getD 1 .any).ix (1:Int)).getD 0 .any).toStr),((((r1.comp 0).cs.getD 1 .any).ix (1:Int)).getD 1 .any)],(r1.comp 1),.agg [VS (((a2_1.ix (1:Int)).getD 0 .any).toStr),((a2_1.ix (1:Int)).getD 1 .any)],VI a3] [] fun r7 o7=>NB r7<|.done 0 [VB r7.toBool] []) (.test (ag ((r5.toStr:ByteArray)++r6.toStr)==ag (mk [43,114])) (NG ((r1.comp 0).cs.getD 1 .any) 2 2<|NE (((r1.comp 0).cs.getD 1 .any).ix (2:Int))<|NG a2_1 1 2<|NE (a2_1.ix (1:Int))<|.call 56 [.agg [VS (((((r1.comp 0).cs.getD 1 .any).ix (2:Int)).getD 0 .any).toStr),((((r1.comp 0).cs.getD 1 .any).ix (2:Int)).getD 1 .any)],(r1.comp 1),.agg [VS (((a2_1.ix (1:Int)).getD 0 .any).toStr),((a2_1.ix (1:Int)).getD 1 .any)],VI a3] [] fun r8 o8=>NB r8<|.done 0 [VB r8.toBool] []) (.test (ag ((r5.toStr:ByteArray)++r6.toStr)==ag (mk [42,112])) (NG ((r1.comp 0).cs.getD 1 .any) 1 2<|NE (((r1.comp 0).cs.getD 1 .any).ix (1:Int))<|NG a2_1 1 2<|NE (a2_1.ix (1:Int))<|.call 56 [.agg [VS (((((r1.comp 0).cs.getD 1 .any).ix (1:Int)).getD 0 .any).toStr),((((r1.comp 0).cs.getD 1 .any).ix (1:Int)).getD 1 .any)],(r1.comp 1),.agg [VS (((a2_1.ix (1:Int)).getD 0 .any).toStr),((a2_1.ix (1:Int)).getD 1 .any)],VI a3] [] fun r9 o9=>NB r9<|.test r9.toBool (NG ((r1.comp 0).cs.getD 1 .any) 2 2<|NE (((r1.comp 0).cs.getD 1 .any).ix (2:Int))<|NG a2_1 2 2<|NE (a2_1.ix (2:Int))<|.call 56 [.agg [VS (((((r1.comp 0).cs.getD 1 .any).ix (2:Int)).getD 0 .any).toStr),((((r1.comp 0).cs.getD 1 .any).ix (2:Int)).getD 1 .any)],(r1.comp 1),.agg [VS (((a2_1.ix (2:Int)).getD 0 .any).toStr),((a2_1.ix (2:Int)).getD 1 .any)],VI a3] [] fun r10 o10=>NB r10<|.done 0 [VB r10.toBool] []) (.done 0 [VB false] [])) (.test (ag ((r5.toStr:ByteArray)++r6.toStr)==ag (mk [114,101,99,102])) (.call 103 [.agg [VS (((r1.comp 0).cs.getD 0 .any).toStr),((r1.comp 0).cs.getD 1 .any)],(r1.comp 1)] [] fun r11 o11=>NT r11<|.aj ((r11.comp 0)=.agg (r11.comp 0).cs/\(r11.comp 0).cs.length=2/\bO [.str,.sl] ((r11.comp 0).cs) 0)<|NL (r11.comp 1)<|NG a2_1 1 2<|NE (a2_1.ix (1:Int))<|.call 56 [.agg [VS (((r11.comp 0).cs.getD 0 .any).toStr),((r11.comp 0).cs.getD 1 .any)],(r11.comp 1),.agg [VS (((a2_1.ix (1:Int)).getD 0 .any).toStr),((a2_1.ix (1:Int)).getD 1 .any)],VI a3] [] fun r12 o12=>NB r12<|.done 0 [VB r12.toBool] []) (.done 0 [VB false] [])))))
theorem O4(a0_0:ByteArray)(a0_1:AV)(a1:AV)(a2_0:ByteArray)(a2_1:AV)(a3:Int)(ha0_1:LK.has .sl a0_1)(ha1:LK.has .sl a1)(ha2_1:LK.has .sl a2_1)(h:du 110 (LB a0_0 a0_1 a1 a2_0 a2_1 a3) R):aq Tryz.prog 56 [.agg [VS a0_0,a0_1],a1,.agg [VS a2_0,a2_1],VI a3] [] R :=
 uQ (ah (cL (ah (aC _) (ah (cb ha0_1) aF))) (ah (cb ha1) (ah (cL (ah (aC _) (ah (cb ha2_1) aF))) (ah (aC _) aF)))) (oQ [] Tryz.f56 h)
def G0(a0:ByteArray):Tree :=
 .test (decide ((ae a0:Int)>(8000:Int))) (.done 0 [.cW [.agg [VS (mk []),.v (.slice none 0 0)],VB false]] []) (.call 104 [VS a0,VI 0,VI 0] [] fun r1 o1=>NT r1<|.aj ((r1.comp 0)=.agg (r1.comp 0).cs/\(r1.comp 0).cs.length=2/\bO [.str,.sl] ((r1.comp 0).cs) 0)<|NI (r1.comp 1)<|.done 0 [.cW [.agg [VS (((r1.comp 0).cs.getD 0 .any).toStr),((r1.comp 0).cs.getD 1 .any)],VB (((r1.comp 1).toInt)==(ae a0:Int))]] [])
theorem Mc(a0:ByteArray)(h:du 20 (G0 a0) R):aq Tryz.prog 57 [VS a0] [] R :=
 uQ (ah (aC _) aF) (oQ [] Tryz.f57 h)
def vI(a0_0:ByteArray)(a0_1:AV):Tree :=
 .test (!(ag a0_0==ag (mk []))) (.test (ag a0_0==ag (mk [117])) (.done 0 [VB true] []) (.call 102 [VS a0_0] [] fun r1 o1=>NI r1<|.done 0 [VB (decide (r1.toInt≥(0:Int)))] [])) (.call 54 [.agg [VS a0_0,a0_1]] [] fun r2 o2=>NS r2<|.test (ag r2.toStr==ag (mk [108])) (NL a0_1<|.test ((a0_1.elems.length:Int)==(2:Int)) (NG a0_1 1 2<|NE (a0_1.ix (1:Int))<|.call 58 [.agg [VS (((a0_1.ix (1:Int)).getD 0 .any).toStr),((a0_1.ix (1:Int)).getD 1 .any)]] [] fun r3 o3=>NB r3<|.done 0 [VB r3.toBool] []) (.done 0 [VB false] [])) (.test (ag r2.toStr==ag (mk [114])) (NL a0_1<|.test ((a0_1.elems.length:Int)==(2:Int)) (NG a0_1 1 2<|NE (a0_1.ix (1:Int))<|.call 58 [.agg [VS (((a0_1.ix (1:Int)).getD 0 .any).toStr),((a0_1.ix (1:Int)).getD 1 .any)]] [] fun r4 o4=>NB r4<|.done 0 [VB r4.toBool] []) (.done 0 [VB false] [])) (.test (ag r2.toStr==ag (mk [102])) (NL a0_1<|.test ((a0_1.elems.length:Int)==(2:Int)) (NG a0_1 1 2<|NE (a0_1.ix (1:Int))<|.call 58 [.agg [VS (((a0_1.ix (1:Int)).getD 0 .any).toStr),((a0_1.ix (1:Int)).getD 1 .any)]] [] fun r5 o5=>NB r5<|.done 0 [VB r5.toBool] []) (.done 0 [VB false] [])) (.test (ag r2.toStr==ag (mk [112])) (NL a0_1<|.test ((a0_1.elems.length:Int)==(3:Int)) (NG a0_1 1 2<|NE (a0_1.ix (1:Int))<|.call 58 [.agg [VS (((a0_1.ix (1:Int)).getD 0 .any).toStr),((a0_1.ix (1:Int)).getD 1 .any)]] [] fun r6 o6=>NB r6<|.test r6.toBool (NG a0_1 2 2<|NE (a0_1.ix (2:Int))<|.call 58 [.agg [VS (((a0_1.ix (2:Int)).getD 0 .any).toStr),((a0_1.ix (2:Int)).getD 1 .any)]] [] fun r7 o7=>NB r7<|.done 0 [VB r7.toBool] []) (.done 0 [VB false] [])) (.done 0 [VB false] [])) (.done 0 [VB false] [])))))
theorem yJ(a0_0:ByteArray)(a0_1:AV)(ha0_1:LK.has .sl a0_1)(h:du 52 (vI a0_0 a0_1) R):aq Tryz.prog 58 [.agg [VS a0_0,a0_1]] [] R :=
 uQ (ah (cL (ah (aC _) (ah (cb ha0_1) aF))) aF) (oQ [] Tryz.f58 h)
def Fw:LI:={hd:={bZ:=[(3,.k (.int .i64)),(4,.k (.int .i64))],refs:=[(1,1)],cj:=[(1,[.lk .str,.lk .sl])]},xs:={bZ:=[(3,.k (.int .i64))]},rt:={},ex:=0}
def Kz:Code:=cN (cF Tryz.f59) 3
def JQ:List (Nat×LI):=[(3,Fw)]
def Eo(a0_0:ByteArray)(a0_1:AV):Tree :=
 .loop Kz Fw [VI 1,VI 1] [.cells [VS a0_0,a0_1]] (fun y2 q2=>NI (y2.hA)<|.done 0 [VI ((y2.hA).toInt)] []) (fun y2 q2=>.done 0 [.any] [])
theorem Jd(a0_0:ByteArray)(a0_1:AV)(ha0_1:LK.has .sl a0_1)(h:du 21 (Eo a0_0 a0_1) R):aq Tryz.prog 59 [.agg [VS a0_0,a0_1]] [] R :=
 uQ (ah (cL (ah (aC _) (ah (cb ha0_1) aF))) aF) (oQ JQ Tryz.f59 h)
def zU(x3:Int)(x4:Int)(o1_0:ByteArray)(o1_1:AV):Tree :=
 NI (VI x3)<|NI (VI x4)<|.aj (Ob.cells [VS o1_0,o1_1]=.cells [VS o1_0,o1_1])<|.aj (af [.lk .str,.lk .sl] [VS o1_0,o1_1] 0 [])<|NL o1_1<|.test (decide (x4<(o1_1.elems.length:Int))) (NG o1_1 x4 2<|NE (o1_1.ix x4)<|.call 59 [.agg [VS (((o1_1.ix x4).getD 0 .any).toStr),((o1_1.ix x4).getD 1 .any)]] [] fun r1 o1=>NI r1<|.done 0 [VI (IntKind.wrap .i64 (x3+r1.toInt)),VI (IntKind.wrap .i64 (x4+1))] [.cells [VS o1_0,o1_1]]) (.done 1 [VI x3] [])
abbrev AA:=cA Tryz.prog 21 Kz Fw
theorem B5(x3:Int)(x4:Int)(o1_0:ByteArray)(o1_1:AV)(h:lM 21 (zU x3 x4 o1_0 o1_1) AA U):AA [VI x3,VI x4] [.cells [VS o1_0,o1_1]] U :=
 gQ JQ h
def F8:LI:={hd:={bZ:=[(3,.k .str),(4,.k (.int .i64))],refs:=[(1,1)],cj:=[(1,[.lk .str,.lk .sl])]},xs:={bZ:=[(3,.k .str)]},rt:={},ex:=0}
def HK:Code:=cN (cF Tryz.f60) 5
def Hf:List (Nat×LI):=[(5,F8)]
def BX(a0_0:ByteArray)(a0_1:AV):Tree :=
 .test (!(ag a0_0==ag (mk []))) (.done 0 [VS a0_0] []) (.loop HK F8 [VS (mk [40]),VI 0] [.cells [VS a0_0,a0_1]] (fun y3 q3=>NS (y3.hA)<|.aj (ae ((y3.hA).toStr)+ae (mk [41])<=9223372036854775807)<|.done 0 [VS ((((y3.hA).toStr):ByteArray)++(mk [41]))] []) (fun y3 q3=>.done 0 [.any] []))
theorem DD(a0_0:ByteArray)(a0_1:AV)(ha0_1:LK.has .sl a0_1)(h:du 31 (BX a0_0 a0_1) R):aq Tryz.prog 60 [.agg [VS a0_0,a0_1]] [] R :=
 uQ (ah (cL (ah (aC _) (ah (cb ha0_1) aF))) aF) (oQ Hf Tryz.f60 h)
def yU(x3:ByteArray)(x4:Int)(o1_0:ByteArray)(o1_1:AV):Tree :=
 NS (VS x3)<|NI (VI x4)<|.aj (Ob.cells [VS o1_0,o1_1]=.cells [VS o1_0,o1_1])<|.aj (af [.lk .str,.lk .sl] [VS o1_0,o1_1] 0 [])<|NL o1_1<|.test (decide (x4<(o1_1.elems.length:Int))) (.test (decide (x4>(0:Int))) (.aj (ae x3+ae (mk [32])<=9223372036854775807)<|NG o1_1 x4 2<|NE (o1_1.ix x4)<|.call 60 [.agg [VS (((o1_1.ix x4).getD 0 .any).toStr),((o1_1.ix x4).getD 1 .any)]] [] fun r1 o1=>NS r1<|.aj (ae ((x3:ByteArray)++(mk [32]))+ae r1.toStr<=9223372036854775807)<|.done 0 [VS ((((x3:ByteArray)++(mk [32])):ByteArray)++r1.toStr),VI (IntKind.wrap .i64 (x4+1))] [.cells [VS o1_0,o1_1]]) (NG o1_1 x4 2<|NE (o1_1.ix x4)<|.call 60 [.agg [VS (((o1_1.ix x4).getD 0 .any).toStr),((o1_1.ix x4).getD 1 .any)]] [] fun r2 o2=>NS r2<|.aj (ae x3+ae r2.toStr<=9223372036854775807)<|.done 0 [VS ((x3:ByteArray)++r2.toStr),VI (IntKind.wrap .i64 (x4+1))] [.cells [VS o1_0,o1_1]])) (.done 1 [VS x3] [])
abbrev zF:=cA Tryz.prog 31 HK F8
theorem Cj(x3:ByteArray)(x4:Int)(o1_0:ByteArray)(o1_1:AV)(h:lM 31 (yU x3 x4 o1_0 o1_1) zF U):zF [VS x3,VI x4] [.cells [VS o1_0,o1_1]] U :=
 gQ Hf h
def JB(a0:ByteArray)(a1:AV):Tree :=
 .aj (LK.has .sl a1/\cx 2 a1.elems/\((([[VS a0,.v (.slice none 0 0)]]:List (List AV)).length)+a1.elems.length)*40<=140737488355328)<|.done 0 [.agg [VS (mk []),.sl (([[VS a0,.v (.slice none 0 0)]]:List (List AV))++a1.elems)]] []
theorem Mr(a0:ByteArray)(a1:AV)(ha1:LK.has .sl a1)(h:du 11 (JB a0 a1) R):aq Tryz.prog 61 [VS a0,a1] [] R :=
 uQ (ah (aC _) (ah (cb ha1) aF)) (oQ [] Tryz.f61 h)
def IZ(a0_0:AV)(a0_1:Int):Tree :=
 .call 94 [.ref 0 0,.sl [[VS (mk [40,114,101,99,32,116,32,40,43,32,49,32,40,42,32,120,32,116,41,41,41])],[VS (mk [40,114,101,99,32,116,32,40,43,32,120,32,40,42,32,116,32,116,41,41,41])],[VS (mk [40,114,101,99,32,116,32,40,43,32,49,32,40,42,32,116,32,40,42,32,120,32,116,41,41,41,41])],[VS (mk [40,114,101,99,32,116,32,40,43,32,49,32,116,41,41])],[VS (mk [40,114,101,99,32,116,32,40,42,32,120,32,40,114,101,99,32,116,49,32,40,43,32,49,32,40,42,32,116,32,116,49,41,41,41,41,41])],[VS (mk [40,114,101,99,32,116,48,32,40,43,32,40,42,32,120,32,121,41,32,40,43,32,116,48,32,40,42,32,116,48,32,116,48,41,41,41,41])],[VS (mk [40,114,101,99,32,116,32,40,43,32,121,32,40,42,32,116,32,40,42,32,116,32,116,41,41,41,41])]]] [.cells [a0_0,VI a0_1]] fun r1 o1=>.aj ((o1.hO)=.cells (o1.hO).cs)<|.aj (aM [.lk .sl,.lk (.int .i64)] ((o1.hO).cs) 0 1 o1.tail)<|NS r1<|.done 0 [VS r1.toStr] [.cells [((o1.hO).cs.getD 0 .any),VI (((o1.hO).cs.getD 1 .any).toInt)]]
theorem Nh(a0_0:AV)(a0_1:Int)(ha0_0:LK.has .sl a0_0)(h:du 6 (IZ a0_0 a0_1) R):aq Tryz.prog 68 [.ref 0 0] [.cells [a0_0,VI a0_1]] R :=
 aq.nM (bo (bX (ah (cb ha0_0) (ah (aC _) aF))) cu) (aq.up (ah (aC _) aF) (oF [] {mu:=[(0,.one (.obj [.lk .sl,.lk (.int .i64)]))],own:=[]} Tryz.f68 h))
def Ib(a0_0:AV)(a0_1:Int):Tree :=
 .call 105 [.ref 0 0] [.cells [a0_0,VI a0_1]] fun r1 o1=>.aj ((o1.hO)=.cells (o1.hO).cs)<|.aj (aM [.lk .sl,.lk (.int .i64)] ((o1.hO).cs) 0 1 o1.tail)<|NS r1<|.call 50 [.ref 0 0,VS r1.toStr] [.cells [((o1.hO).cs.getD 0 .any),VI (((o1.hO).cs.getD 1 .any).toInt)]] fun r2 o2=>.aj ((o2.hO)=.cells (o2.hO).cs)<|.aj (aM [.lk .sl,.lk (.int .i64)] ((o2.hO).cs) 0 1 o2.tail)<|NS r2<|.done 0 [.cW [VS r1.toStr,VS r2.toStr]] [.cells [((o2.hO).cs.getD 0 .any),VI (((o2.hO).cs.getD 1 .any).toInt)]]
theorem Ol(a0_0:AV)(a0_1:Int)(ha0_0:LK.has .sl a0_0)(h:du 11 (Ib a0_0 a0_1) R):aq Tryz.prog 69 [.ref 0 0] [.cells [a0_0,VI a0_1]] R :=
 aq.nM (bo (bX (ah (cb ha0_0) (ah (aC _) aF))) cu) (aq.up (ah (aC _) aF) (oF [] {mu:=[(0,.one (.obj [.lk .sl,.lk (.int .i64)]))],own:=[]} Tryz.f69 h))
def LG(a0_0:AV)(a0_1:AV):Tree :=
 NZ a0_0<|NZ a0_0<|dY (a0_0.deref.drop 3)<|.done 0 [.cW [.agg [((a0_0.deref.drop 3).hA),.ptr [.ptr [a0_0,a0_1],a0_1]],.ptr [a0_0,a0_1]]] []
theorem L5(a0_0:AV)(a0_1:AV)(ha0_0:LK.has .ptr a0_0)(ha0_1:LK.has .ptr a0_1)(h:du 20 (LG a0_0 a0_1) R):aq Tryz.prog 70 [.agg [a0_0,a0_1]] [] R :=
 uQ (ah (cL (ah (bu ha0_0) (ah (bu ha0_1) aF))) aF) (oQ [] Tryz.f70 h)
def F7:LI:={hd:={bZ:=[(97,.k .sl),(98,.k (.int .i64)),(99,.k (.int .i64))],refs:=[(3,3),(5,5),(7,7)],cj:=[(3,[.lk .ptr,.lk .ptr]),(5,[.lk .str,.lk .ptr]),(7,[.vec 2])],fns:=[(8,107,[7])]},xs:={refs:=[(7,7)],cj:=[(7,[.vec 2])]},rt:={},ex:=1}
def G8:Code:=cN (cF Tryz.f71) 18
def KA:List (Nat×LI):=[(18,F7)]
def Ky(a0_0:AV)(a0_1:AV)(a1:AV)(a2_0:ByteArray)(a2_1:AV):Tree :=
 .call 106 [.agg [VS a2_0,a2_1],.agg [a0_0,a0_1]] [] fun r1 o1=>NB r1<|.test r1.toBool (.done 0 [.sl [[.ptr [.v (.int .u8 117),VS (mk []),.v (.pointer none),.v (.pointer none)],a1]]] []) (NZ a0_0<|NZ a0_0<|.aj (LK.has (.int .u8) (a0_0.deref.hA)/\1<=a0_0.deref.length)<|.test (((a0_0.deref.hA).toInt)==(43:Int)) (.call 108 [.agg [a0_0,a0_1]] [] fun r2 o2=>.aj (r2=.agg r2.cs/\r2.cs.length=2/\bO [.ptr,.ptr] r2.cs 0)<|NZ a1<|NZ a1<|.aj (LK.has (.int .u8) (a1.deref.hA)/\1<=a1.deref.length)<|.test (((a1.deref.hA).toInt)==(114:Int)) (.call 109 [.agg [a0_0,a0_1]] [] fun r3 o3=>.aj (r3=.agg r3.cs/\r3.cs.length=2/\bO [.ptr,.ptr] r3.cs 0)<|NZ a1<|NZ a1<|dY (a1.deref.drop 2)<|.call 71 [.agg [(r3.cs.getD 0 .any),(r3.cs.getD 1 .any)],((a1.deref.drop 2).hA),.agg [VS a2_0,a2_1]] [] fun r4 o4=>NL r4<|.call 107 [r4,.fn 110 [.ref 0 0],.ref 1 0] [.cells [a1],.cells [.vec 2],.vec 2 []] fun r5 o5=>.aj ((o5.hO)=.cells (o5.hO).cs)<|.aj (aM [.lk .ptr] ((o5.hO).cs) 0 1 o5.tail)<|.aj ((o5.tail.hO)=.cells (o5.tail.hO).cs)<|.aj (aM [.vec 2] ((o5.tail.hO).cs) 0 2 o5.tail.tail)<|.done 0 [.sl ((o5.tail.tail.hO).es)] []) (NZ a1<|NZ a1<|dY (a1.deref.drop 2)<|.call 71 [.agg [(r2.cs.getD 0 .any),(r2.cs.getD 1 .any)],((a1.deref.drop 2).hA),.agg [VS a2_0,a2_1]] [] fun r6 o6=>NL r6<|.call 107 [r6,.fn 110 [.ref 0 0],.ref 1 0] [.cells [a1],.cells [.vec 2],.vec 2 []] fun r7 o7=>.aj ((o7.hO)=.cells (o7.hO).cs)<|.aj (aM [.lk .ptr] ((o7.hO).cs) 0 1 o7.tail)<|.aj ((o7.tail.hO)=.cells (o7.tail.hO).cs)<|.aj (aM [.vec 2] ((o7.tail.hO).cs) 0 2 o7.tail.tail)<|.done 0 [.sl ((o7.tail.tail.hO).es)] [])) (.test (((a0_0.deref.hA).toInt)==(42:Int)) (.call 108 [.agg [a0_0,a0_1]] [] fun r8 o8=>.aj (r8=.agg r8.cs/\r8.cs.length=2/\bO [.ptr,.ptr] r8.cs 0)<|NZ a1<|NZ a1<|dY (a1.deref.drop 2)<|.call 71 [.agg [(r8.cs.getD 0 .any),(r8.cs.getD 1 .any)],((a1.deref.drop 2).hA),.agg [VS a2_0,a2_1]] [] fun r9 o9=>NL r9<|.call 107 [r9,.fn 111 [.ref 0 0],.ref 1 0] [.cells [a1],.cells [.vec 2],.vec 2 []] fun r10 o10=>.aj ((o10.hO)=.cells (o10.hO).cs)<|.aj (aM [.lk .ptr] ((o10.hO).cs) 0 1 o10.tail)<|.aj ((o10.tail.hO)=.cells (o10.tail.hO).cs)<|.aj (aM [.vec 2] ((o10.tail.hO).cs) 0 2 o10.tail.tail)<|.call 109 [.agg [a0_0,a0_1]] [] fun r11 o11=>.aj (r11=.agg r11.cs/\r11.cs.length=2/\bO [.ptr,.ptr] r11.cs 0)<|NZ ((o10.hO).cs.getD 0 .any)<|NZ ((o10.hO).cs.getD 0 .any)<|dY (((o10.hO).cs.getD 0 .any).deref.drop 3)<|.call 71 [.agg [(r11.cs.getD 0 .any),(r11.cs.getD 1 .any)],((((o10.hO).cs.getD 0 .any).deref.drop 3).hA),.agg [VS a2_0,a2_1]] [] fun r12 o12=>NL r12<|.call 107 [r12,.fn 113 [.ref 0 0],.ref 1 0] [.cells [((o10.hO).cs.getD 0 .any)],.cells [.vec 2],.vec 2 ((o10.tail.tail.hO).es)] fun r13 o13=>.aj ((o13.hO)=.cells (o13.hO).cs)<|.aj (aM [.lk .ptr] ((o13.hO).cs) 0 1 o13.tail)<|.aj ((o13.tail.hO)=.cells (o13.tail.hO).cs)<|.aj (aM [.vec 2] ((o13.tail.hO).cs) 0 2 o13.tail.tail)<|.done 0 [.sl ((o13.tail.tail.hO).es)] []) (.test (((a0_0.deref.hA).toInt)==(114:Int)) (.call 70 [.agg [a0_0,a0_1]] [] fun r14 o14=>NT r14<|.aj ((r14.comp 0)=.agg (r14.comp 0).cs/\(r14.comp 0).cs.length=2/\bO [.ptr,.ptr] ((r14.comp 0).cs) 0)<|NP (r14.comp 1)<|NZ a1<|NZ a1<|dY (a1.deref.drop 2)<|.call 71 [.agg [((r14.comp 0).cs.getD 0 .any),((r14.comp 0).cs.getD 1 .any)],((a1.deref.drop 2).hA),.agg [VS a2_0,a2_1]] [] fun r15 o15=>NL r15<|.call 107 [r15,.v (.func (.func 114) #[] #[]),.ref 0 0] [.cells [.vec 1],.vec 2 []] fun r16 o16=>.aj ((o16.hO)=.cells (o16.hO).cs)<|.aj (aM [.vec 2] ((o16.hO).cs) 0 1 o16.tail)<|NZ a1<|NZ a1<|dY (a1.deref.drop 2)<|.call 71 [.agg [((r14.comp 0).cs.getD 0 .any),((r14.comp 0).cs.getD 1 .any)],((a1.deref.drop 2).hA),.agg [VS (mk []),(r14.comp 1)]] [] fun r17 o17=>NL r17<|NL r17<|.loop G8 F7 [r17,VI (r17.elems.length:Int),VI 0] [.cells [a0_0,a0_1],.cells [VS a2_0,a2_1],.cells [.any],.vec 2 ((o16.tail.hO).es)] (fun y20 q20=>.aj ((q20.hO)=.cells (q20.hO).cs)<|.aj (af [.vec 2] ((q20.hO).cs) 0 q20.tail)<|.done 0 [.sl ((q20.tail.hO).es)] []) (fun y20 q20=>.done 0 [.any] [])) (.done 0 [.sl []] []))))
theorem N8(a0_0:AV)(a0_1:AV)(a1:AV)(a2_0:ByteArray)(a2_1:AV)(ha0_0:LK.has .ptr a0_0)(ha0_1:LK.has .ptr a0_1)(ha1:LK.has .ptr a1)(ha2_1:LK.has .ptr a2_1)(h:du 113 (Ky a0_0 a0_1 a1 a2_0 a2_1) R):aq Tryz.prog 71 [.agg [a0_0,a0_1],a1,.agg [VS a2_0,a2_1]] [] R :=
 uQ (ah (cL (ah (bu ha0_0) (ah (bu ha0_1) aF))) (ah (bu ha1) (ah (cL (ah (aC _) (ah (bu ha2_1) aF))) aF))) (oQ KA Tryz.f71 h)
def E9(x97:AV)(x98:Int)(x99:Int)(o3_0:AV)(o3_1:AV)(o5_0:ByteArray)(o5_1:AV)(o7_0:List (List AV)):Tree :=
 NL x97<|NI (VI x98)<|NI (VI x99)<|.aj (Ob.cells [o3_0,o3_1]=.cells [o3_0,o3_1])<|.aj (af [.lk .ptr,.lk .ptr] [o3_0,o3_1] 0 [.cells [VS o5_0,o5_1],.cells [.any],.vec 2 o7_0])<|.aj (Ob.cells [VS o5_0,o5_1]=.cells [VS o5_0,o5_1])<|.aj (af [.lk .str,.lk .ptr] [VS o5_0,o5_1] 0 [.cells [.any],.vec 2 o7_0])<|.aj (Ob.cells [.any]=.cells [.any])<|.aj (af [.vec 2] [.any] 0 [.vec 2 o7_0])<|.test (decide (x99<x98)) (NG x97 x99 2<|.aj (bO [.ptr,.ptr] (x97.ix x99) 0/\2<=(x97.ix x99).length)<|.call 71 [.agg [o3_0,o3_1],((x97.ix x99).getD 1 .any),.agg [VS o5_0,o5_1]] [] fun r1 o1=>NL r1<|.call 107 [r1,.fn 115 [.ref 0 0],.ref 1 0] [.cells [((x97.ix x99).getD 0 .any),((x97.ix x99).getD 1 .any)],.cells [.vec 2],.vec 2 o7_0] fun r2 o2=>.aj ((o2.hO)=.cells (o2.hO).cs)<|.aj (aM [.lk .ptr,.lk .ptr] ((o2.hO).cs) 0 1 o2.tail)<|.aj ((o2.tail.hO)=.cells (o2.tail.hO).cs)<|.aj (aM [.vec 2] ((o2.tail.hO).cs) 0 2 o2.tail.tail)<|.done 0 [x97,VI x98,VI (IntKind.wrap .i64 (x99+1))] [.cells [o3_0,o3_1],.cells [VS o5_0,o5_1],.cells [.any],.vec 2 ((o2.tail.tail.hO).es)]) (.done 1 [] [.cells [.any],.vec 2 o7_0])
abbrev Gr:=cA Tryz.prog 113 G8 F7
theorem JZ(x97:AV)(x98:Int)(x99:Int)(o3_0:AV)(o3_1:AV)(o5_0:ByteArray)(o5_1:AV)(o7_0:List (List AV))(h:lM 113 (E9 x97 x98 x99 o3_0 o3_1 o5_0 o5_1 o7_0) Gr U):Gr [x97,VI x98,VI x99] [.cells [o3_0,o3_1],.cells [VS o5_0,o5_1],.cells [.any],.vec 2 o7_0] U :=
 gQ KA h
def FR:LI:={hd:={bZ:=[(0,.k .sl),(1,.k .str),(7,.k (.int .i64))],eH:=[(2,4)]},xs:={eH:=[(2,4)]},rt:={},ex:=0}
def Ia:Code:=cN (cF Tryz.f72) 2
def H3:List (Nat×LI):=[(2,FR)]
def GV(a0:AV)(a1:ByteArray)(e2:List (List AV)):Tree :=
 .loop Ia FR [a0,VS a1,VI 0] [.vec 4 e2] (fun y2 q2=>.aj (((q2.drop 0).hO)=.vec 4 ((q2.drop 0).hO).es)<|.done 0 [.vec 1] [.dead,.vec 4 ((q2.hO).es)]) (fun y2 q2=>.fail)
theorem OA(a0:AV)(a1:ByteArray)(e2:List (List AV))(ha0:LK.has .sl a0)(h:du 32 (GV a0 a1 e2) R):aq Tryz.prog 72 [a0,VS a1,.vec 0] [.vec 4 e2] R :=
 aq.nM (bo (fY _) cu) (aq.up (ah (cb ha0) (ah (aC _) (ah (aC _) aF))) (oF H3 {mu:=[(2,.one (.vec))],own:=[0]} Tryz.f72 h))
def FH(x0:AV)(x1:ByteArray)(x7:Int)(e2:List (List AV)):Tree :=
 NL x0<|NS (VS x1)<|NI (VI x7)<|.aj (Ob.vec 4 e2=.vec 4 e2)<|NL x0<|.test (decide (x7<(x0.elems.length:Int))) (NG x0 x7 4<|NE (x0.ix x7)<|.call 61 [VS x1,.sl [[VS (((x0.ix x7).getD 0 .any).toStr),((x0.ix x7).getD 1 .any)]]] [] fun r1 o1=>NA r1<|NG x0 x7 4<|NE ((x0.ix x7).drop 2)<|.aj (cx 4 [[VS ((r1.cs.getD 0 .any).toStr),(r1.cs.getD 1 .any),VS ((((x0.ix x7).drop 2).getD 0 .any).toStr),(((x0.ix x7).drop 2).getD 1 .any)]]/\((e2.length)+([[VS ((r1.cs.getD 0 .any).toStr),(r1.cs.getD 1 .any),VS ((((x0.ix x7).drop 2).getD 0 .any).toStr),(((x0.ix x7).drop 2).getD 1 .any)]]:List (List AV)).length)*80<=140737488355328)<|.done 0 [x0,VS x1,VI (IntKind.wrap .i64 (x7+1))] [.vec 4 (e2++([[VS ((r1.cs.getD 0 .any).toStr),(r1.cs.getD 1 .any),VS ((((x0.ix x7).drop 2).getD 0 .any).toStr),(((x0.ix x7).drop 2).getD 1 .any)]]:List (List AV)))]) (.done 1 [] [.vec 4 e2])
abbrev DU:=cA Tryz.prog 32 Ia FR
theorem HV(x0:AV)(x1:ByteArray)(x7:Int)(e2:List (List AV))(h:lM 32 (FH x0 x1 x7 e2) DU U):DU [x0,VS x1,VI x7] [.vec 4 e2] U :=
 gQ H3 h
def Jt(a0:ByteArray):Tree :=
 .test (decide ((ae a0:Int)>(8000:Int))) (.done 0 [.v (.pointer none)] []) (.call 116 [VS a0,VI 0] [] fun r1 o1=>NT r1<|NP (r1.comp 0)<|NS (r1.comp 1)<|.test (!(ag ((r1.comp 1).toStr)==ag (mk []))) (.done 0 [.v (.pointer none)] []) (.done 0 [(r1.comp 0)] []))
theorem N9(a0:ByteArray)(h:du 16 (Jt a0) R):aq Tryz.prog 73 [VS a0] [] R :=
 uQ (ah (aC _) aF) (oQ [] Tryz.f73 h)
def E0:LI:={hd:={bZ:=[(0,.k .ptr),(1,.k .sl),(5,.k (.int .i64))]},xs:={bZ:=[(0,.k .ptr)]},rt:={refs:=[(4,69)],cj:=[(69,[.lk (.int .u8),.lk .str,.lk (.int .i64),.lk .ptr,.lk .ptr])]},ex:=1}
def H2:Code:=cN (cF Tryz.f74) 7
def Lu:List (Nat×LI):=[(7,E0)]
def EJ(a0:AV)(a1:AV):Tree :=
 NZ a0<|NZ a0<|.aj (LK.has .str (a0.deref.hA)/\1<=a0.deref.length)<|.test (ag ((a0.deref.hA).toStr)==ag (mk [48])) (NZ a0<|NZ a0<|.aj (LK.has .str (a0.deref.hA)/\1<=a0.deref.length)<|.aj (0<=(0:Int)/\(0:Int)<ae ((a0.deref.hA).toStr))<|.done 0 [.ptr [.v (.int .u8 (bt ((a0.deref.hA).toStr) 0)),VS (mk []),VI 0,.v (.pointer none),.v (.pointer none)]] []) (NZ a0<|NZ a0<|.aj (LK.has .str (a0.deref.hA)/\1<=a0.deref.length)<|.test (ag ((a0.deref.hA).toStr)==ag (mk [49])) (NZ a0<|NZ a0<|.aj (LK.has .str (a0.deref.hA)/\1<=a0.deref.length)<|.aj (0<=(0:Int)/\(0:Int)<ae ((a0.deref.hA).toStr))<|.done 0 [.ptr [.v (.int .u8 (bt ((a0.deref.hA).toStr) 0)),VS (mk []),VI 0,.v (.pointer none),.v (.pointer none)]] []) (NZ a0<|NZ a0<|.aj (LK.has .str (a0.deref.hA)/\1<=a0.deref.length)<|.call 117 [VS ((a0.deref.hA).toStr)] [] fun r1 o1=>NB r1<|.test r1.toBool (NZ a0<|NZ a0<|.aj (LK.has .str (a0.deref.hA)/\1<=a0.deref.length)<|.done 0 [.ptr [.v (.int .u8 110),VS ((a0.deref.hA).toStr),VI 0,.v (.pointer none),.v (.pointer none)]] []) (NZ a0<|NZ a0<|.aj (LK.has .str (a0.deref.hA)/\1<=a0.deref.length)<|.call 118 [VS ((a0.deref.hA).toStr)] [] fun r2 o2=>NB r2<|.test r2.toBool (NL a1<|.loop H2 E0 [a0,a1,VI (IntKind.wrap .i64 ((a1.elems.length:Int)-1))] [] (fun y3 q3=>NP (y3.hA)<|NZ (y3.hA)<|NZ (y3.hA)<|.aj (LK.has .str ((y3.hA).deref.hA)/\1<=((y3.hA).deref).length)<|.done 0 [.ptr [.v (.int .u8 110),VS (((y3.hA).deref.hA).toStr),VI 0,.v (.pointer none),.v (.pointer none)]] []) (fun y3 q3=>.aj ((q3.hO)=.cells (q3.hO).cs)<|.aj (af [.lk (.int .u8),.lk .str,.lk (.int .i64),.lk .ptr,.lk .ptr] ((q3.hO).cs) 0 q3.tail)<|.done 0 [.ptr [.v (.int .u8 (((q3.hO).cs.getD 0 .any).toInt)),VS (((q3.hO).cs.getD 1 .any).toStr),VI (((q3.hO).cs.getD 2 .any).toInt),((q3.hO).cs.getD 3 .any),((q3.hO).cs.getD 4 .any)]] [])) (.call 119 [a0,VS (mk [43]),VI 3] [] fun r4 o4=>NB r4<|.test r4.toBool (NZ a0<|NZ a0<|rk (a0.deref.drop 1)<|NG ((a0.deref.drop 1).hA) 1 1<|dY (((a0.deref.drop 1).hA).ix (1:Int))<|.call 74 [((((a0.deref.drop 1).hA).ix (1:Int)).hA),a1] [] fun r5 o5=>NP r5<|NZ a0<|NZ a0<|rk (a0.deref.drop 1)<|NG ((a0.deref.drop 1).hA) 2 1<|dY (((a0.deref.drop 1).hA).ix (2:Int))<|.call 74 [((((a0.deref.drop 1).hA).ix (2:Int)).hA),a1] [] fun r6 o6=>NP r6<|NP r5<|.test r5.isNil (.done 0 [.v (.pointer none)] []) (NP r6<|.test r6.isNil (.done 0 [.v (.pointer none)] []) (NZ a0<|NZ a0<|rk (a0.deref.drop 1)<|NG ((a0.deref.drop 1).hA) 0 1<|dY (((a0.deref.drop 1).hA).ix (0:Int))<|NZ ((((a0.deref.drop 1).hA).ix (0:Int)).hA)<|NZ ((((a0.deref.drop 1).hA).ix (0:Int)).hA)<|.aj (LK.has .str (((((a0.deref.drop 1).hA).ix (0:Int)).hA).deref.hA)/\1<=(((((a0.deref.drop 1).hA).ix (0:Int)).hA).deref).length)<|.aj (0<=(0:Int)/\(0:Int)<ae ((((((a0.deref.drop 1).hA).ix (0:Int)).hA).deref.hA).toStr))<|.done 0 [.ptr [.v (.int .u8 (bt ((((((a0.deref.drop 1).hA).ix (0:Int)).hA).deref.hA).toStr) 0)),VS (mk []),VI 0,r5,r6]] []))) (.call 119 [a0,VS (mk [42]),VI 3] [] fun r7 o7=>NB r7<|.test r7.toBool (NZ a0<|NZ a0<|rk (a0.deref.drop 1)<|NG ((a0.deref.drop 1).hA) 1 1<|dY (((a0.deref.drop 1).hA).ix (1:Int))<|.call 74 [((((a0.deref.drop 1).hA).ix (1:Int)).hA),a1] [] fun r8 o8=>NP r8<|NZ a0<|NZ a0<|rk (a0.deref.drop 1)<|NG ((a0.deref.drop 1).hA) 2 1<|dY (((a0.deref.drop 1).hA).ix (2:Int))<|.call 74 [((((a0.deref.drop 1).hA).ix (2:Int)).hA),a1] [] fun r9 o9=>NP r9<|NP r8<|.test r8.isNil (.done 0 [.v (.pointer none)] []) (NP r9<|.test r9.isNil (.done 0 [.v (.pointer none)] []) (NZ a0<|NZ a0<|rk (a0.deref.drop 1)<|NG ((a0.deref.drop 1).hA) 0 1<|dY (((a0.deref.drop 1).hA).ix (0:Int))<|NZ ((((a0.deref.drop 1).hA).ix (0:Int)).hA)<|NZ ((((a0.deref.drop 1).hA).ix (0:Int)).hA)<|.aj (LK.has .str (((((a0.deref.drop 1).hA).ix (0:Int)).hA).deref.hA)/\1<=(((((a0.deref.drop 1).hA).ix (0:Int)).hA).deref).length)<|.aj (0<=(0:Int)/\(0:Int)<ae ((((((a0.deref.drop 1).hA).ix (0:Int)).hA).deref.hA).toStr))<|.done 0 [.ptr [.v (.int .u8 (bt ((((((a0.deref.drop 1).hA).ix (0:Int)).hA).deref.hA).toStr) 0)),VS (mk []),VI 0,r8,r9]] []))) (.call 119 [a0,VS (mk [114,101,99]),VI 3] [] fun r10 o10=>NB r10<|.test r10.toBool (NZ a0<|NZ a0<|rk (a0.deref.drop 1)<|NG ((a0.deref.drop 1).hA) 1 1<|dY (((a0.deref.drop 1).hA).ix (1:Int))<|NZ ((((a0.deref.drop 1).hA).ix (1:Int)).hA)<|NZ ((((a0.deref.drop 1).hA).ix (1:Int)).hA)<|.aj (LK.has .str (((((a0.deref.drop 1).hA).ix (1:Int)).hA).deref.hA)/\1<=(((((a0.deref.drop 1).hA).ix (1:Int)).hA).deref).length)<|.call 118 [VS ((((((a0.deref.drop 1).hA).ix (1:Int)).hA).deref.hA).toStr)] [] fun r11 o11=>NB r11<|.test r11.toBool (NZ a0<|NZ a0<|rk (a0.deref.drop 1)<|NG ((a0.deref.drop 1).hA) 2 1<|dY (((a0.deref.drop 1).hA).ix (2:Int))<|.aj (LK.has .sl a1/\cx 1 a1.elems/\((([]:List (List AV)).length)+a1.elems.length)*16<=140737488355328)<|NZ a0<|NZ a0<|rk (a0.deref.drop 1)<|NG ((a0.deref.drop 1).hA) 1 1<|dY (((a0.deref.drop 1).hA).ix (1:Int))<|NZ ((((a0.deref.drop 1).hA).ix (1:Int)).hA)<|NZ ((((a0.deref.drop 1).hA).ix (1:Int)).hA)<|.aj (LK.has .str (((((a0.deref.drop 1).hA).ix (1:Int)).hA).deref.hA)/\1<=(((((a0.deref.drop 1).hA).ix (1:Int)).hA).deref).length)<|.aj (cx 1 [[VS ((((((a0.deref.drop 1).hA).ix (1:Int)).hA).deref.hA).toStr)]]/\(((([]:List (List AV))++a1.elems).length)+([[VS ((((((a0.deref.drop 1).hA).ix (1:Int)).hA).deref.hA).toStr)]]:List (List AV)).length)*16<=140737488355328)<|.call 74 [((((a0.deref.drop 1).hA).ix (2:Int)).hA),.sl ((([]:List (List AV))++a1.elems)++([[VS ((((((a0.deref.drop 1).hA).ix (1:Int)).hA).deref.hA).toStr)]]:List (List AV)))] [] fun r12 o12=>NP r12<|NP r12<|.test r12.isNil (.done 0 [.v (.pointer none)] []) (.done 0 [.ptr [.v (.int .u8 114),VS (mk []),VI 0,r12,.v (.pointer none)]] [])) (.done 0 [.v (.pointer none)] [])) (.done 0 [.v (.pointer none)] [])))))))
theorem K0(a0:AV)(a1:AV)(ha0:LK.has .ptr a0)(ha1:LK.has .sl a1)(h:du 160 (EJ a0 a1) R):aq Tryz.prog 74 [a0,a1] [] R :=
 uQ (ah (bu ha0) (ah (cb ha1) aF)) (oQ Lu Tryz.f74 h)
def EZ(x0:AV)(x1:AV)(x5:Int):Tree :=
 NP x0<|NL x1<|NI (VI x5)<|.test (decide (x5≥(0:Int))) (NG x1 x5 1<|mc (x1.ix x5)<|NZ x0<|NZ x0<|.aj (LK.has .str (x0.deref.hA)/\1<=x0.deref.length)<|.test (ag (((x1.ix x5).hA).toStr)==ag ((x0.deref.hA).toStr)) (NL x1<|.done 2 [] [.cells [.v (.int .u8 98),VS (mk []),VI (IntKind.wrap .i64 ((IntKind.wrap .i64 ((x1.elems.length:Int)-1))-x5)),.v (.pointer none),.v (.pointer none)]]) (.done 0 [x0,x1,VI (IntKind.wrap .i64 (x5-1))] [])) (.done 1 [x0] [])
abbrev ER:=cA Tryz.prog 160 H2 E0
theorem J5(x0:AV)(x1:AV)(x5:Int)(h:lM 160 (EZ x0 x1 x5) ER U):ER [x0,x1,VI x5] [] U :=
 gQ Lu h
def Db(a0:AV):Tree :=
 NZ a0<|NZ a0<|.aj (LK.has (.int .u8) (a0.deref.hA)/\1<=a0.deref.length)<|.test (((a0.deref.hA).toInt)==(43:Int)) (NZ a0<|NZ a0<|dY (a0.deref.drop 3)<|.call 75 [((a0.deref.drop 3).hA)] [] fun r1 o1=>NI r1<|NZ a0<|NZ a0<|dY (a0.deref.drop 4)<|.call 75 [((a0.deref.drop 4).hA)] [] fun r2 o2=>NI r2<|.done 0 [VI (IntKind.wrap .i64 ((IntKind.wrap .i64 (1+r1.toInt))+r2.toInt))] []) (.test (((a0.deref.hA).toInt)==(42:Int)) (NZ a0<|NZ a0<|dY (a0.deref.drop 3)<|.call 75 [((a0.deref.drop 3).hA)] [] fun r3 o3=>NI r3<|NZ a0<|NZ a0<|dY (a0.deref.drop 4)<|.call 75 [((a0.deref.drop 4).hA)] [] fun r4 o4=>NI r4<|.done 0 [VI (IntKind.wrap .i64 ((IntKind.wrap .i64 (1+r3.toInt))+r4.toInt))] []) (.test (((a0.deref.hA).toInt)==(114:Int)) (NZ a0<|NZ a0<|dY (a0.deref.drop 3)<|.call 75 [((a0.deref.drop 3).hA)] [] fun r5 o5=>NI r5<|.done 0 [VI (IntKind.wrap .i64 (2+r5.toInt))] []) (.done 0 [VI 1] [])))
theorem vn(a0:AV)(ha0:LK.has .ptr a0)(h:du 30 (Db a0) R):aq Tryz.prog 75 [a0] [] R :=
 uQ (ah (bu ha0) aF) (oQ [] Tryz.f75 h)
def LL(a0_0:Int)(a0_1:Bool):Tree :=
 .call 120 [VI (IntKind.wrap .i64 (a0_0+1))] [] fun r1 o1=>NS r1<|.aj (ae (mk [35])+ae r1.toStr<=9223372036854775807)<|.done 0 [VS (((mk [35]):ByteArray)++r1.toStr)] [.cells [VI (IntKind.wrap .i64 (a0_0+1)),VB a0_1]]
theorem Nn(a0_0:Int)(a0_1:Bool)(h:du 16 (LL a0_0 a0_1) R):aq Tryz.prog 76 [.ref 0 0] [.cells [VI a0_0,VB a0_1]] R :=
 aq.nM (bo (bX (ah (aC _) (ah (GA _) aF))) cu) (aq.up (ah (aC _) aF) (oF [] {mu:=[(0,.one (.obj [.lk (.int .i64),.lk .bool]))],own:=[]} Tryz.f76 h))
def HT(a0_0:Int)(a0_1:Bool)(a1:AV):Tree :=
 .test a0_1 (.done 0 [.ptr [.v (.int .u8 48),VS (mk []),VI 0,.v (.pointer none),.v (.pointer none)]] [.cells [VI a0_0,VB true]]) (.call 75 [a1] [] fun r1 o1=>NI r1<|.test (decide (r1.toInt>(400:Int))) (.done 0 [.ptr [.v (.int .u8 48),VS (mk []),VI 0,.v (.pointer none),.v (.pointer none)]] [.cells [VI a0_0,VB true]]) (.done 0 [a1] [.cells [VI a0_0,VB a0_1]]))
theorem MB(a0_0:Int)(a0_1:Bool)(a1:AV)(ha1:LK.has .ptr a1)(h:du 20 (HT a0_0 a0_1 a1) R):aq Tryz.prog 77 [.ref 0 0,a1] [.cells [VI a0_0,VB a0_1]] R :=
 aq.nM (bo (bX (ah (aC _) (ah (GA _) aF))) cu) (aq.up (ah (aC _) (ah (bu ha1) aF)) (oF [] {mu:=[(0,.one (.obj [.lk (.int .i64),.lk .bool]))],own:=[]} Tryz.f77 h))
def BI(a0_0:Int)(a0_1:Bool)(a1:AV)(a2:ByteArray):Tree :=
 .test a0_1 (.done 0 [.ptr [.v (.int .u8 48),VS (mk []),VI 0,.v (.pointer none),.v (.pointer none)]] [.cells [VI a0_0,VB a0_1]]) (NZ a1<|NZ a1<|.aj (LK.has (.int .u8) (a1.deref.hA)/\1<=a1.deref.length)<|.test (((a1.deref.hA).toInt)==(110:Int)) (NZ a1<|NZ a1<|mc (a1.deref.drop 1)<|.test (ag (((a1.deref.drop 1).hA).toStr)==ag a2) (.done 0 [.ptr [.v (.int .u8 49),VS (mk []),VI 0,.v (.pointer none),.v (.pointer none)]] [.cells [VI a0_0,VB a0_1]]) (.done 0 [.ptr [.v (.int .u8 48),VS (mk []),VI 0,.v (.pointer none),.v (.pointer none)]] [.cells [VI a0_0,VB a0_1]])) (.test (((a1.deref.hA).toInt)==(43:Int)) (NZ a1<|NZ a1<|dY (a1.deref.drop 3)<|.call 78 [.ref 0 0,((a1.deref.drop 3).hA),VS a2] [.cells [VI a0_0,VB a0_1]] fun r1 o1=>.aj ((o1.hO)=.cells (o1.hO).cs)<|.aj (aM [.lk (.int .i64),.lk .bool] ((o1.hO).cs) 0 1 o1.tail)<|NP r1<|NZ a1<|NZ a1<|dY (a1.deref.drop 4)<|.call 78 [.ref 0 0,((a1.deref.drop 4).hA),VS a2] [.cells [VI (((o1.hO).cs.getD 0 .any).toInt),VB (((o1.hO).cs.getD 1 .any).toBool)]] fun r2 o2=>.aj ((o2.hO)=.cells (o2.hO).cs)<|.aj (aM [.lk (.int .i64),.lk .bool] ((o2.hO).cs) 0 1 o2.tail)<|NP r2<|.call 121 [.v (.int .u8 43),r1,r2] [] fun r3 o3=>NP r3<|.call 77 [.ref 0 0,r3] [.cells [VI (((o2.hO).cs.getD 0 .any).toInt),VB (((o2.hO).cs.getD 1 .any).toBool)]] fun r4 o4=>.aj ((o4.hO)=.cells (o4.hO).cs)<|.aj (aM [.lk (.int .i64),.lk .bool] ((o4.hO).cs) 0 1 o4.tail)<|NP r4<|.done 0 [r4] [.cells [VI (((o4.hO).cs.getD 0 .any).toInt),VB (((o4.hO).cs.getD 1 .any).toBool)]]) (.test (((a1.deref.hA).toInt)==(42:Int)) (NZ a1<|NZ a1<|dY (a1.deref.drop 3)<|.call 78 [.ref 0 0,((a1.deref.drop 3).hA),VS a2] [.cells [VI a0_0,VB a0_1]] fun r5 o5=>.aj ((o5.hO)=.cells (o5.hO).cs)<|.aj (aM [.lk (.int .i64),.lk .bool] ((o5.hO).cs) 0 1 o5.tail)<|NP r5<|NZ a1<|NZ a1<|dY (a1.deref.drop 4)<|.call 121 [.v (.int .u8 42),r5,((a1.deref.drop 4).hA)] [] fun r6 o6=>NP r6<|NZ a1<|NZ a1<|dY (a1.deref.drop 3)<|NZ a1<|NZ a1<|dY (a1.deref.drop 4)<|.call 78 [.ref 0 0,((a1.deref.drop 4).hA),VS a2] [.cells [VI (((o5.hO).cs.getD 0 .any).toInt),VB (((o5.hO).cs.getD 1 .any).toBool)]] fun r7 o7=>.aj ((o7.hO)=.cells (o7.hO).cs)<|.aj (aM [.lk (.int .i64),.lk .bool] ((o7.hO).cs) 0 1 o7.tail)<|NP r7<|.call 121 [.v (.int .u8 42),((a1.deref.drop 3).hA),r7] [] fun r8 o8=>NP r8<|.call 121 [.v (.int .u8 43),r6,r8] [] fun r9 o9=>NP r9<|.call 77 [.ref 0 0,r9] [.cells [VI (((o7.hO).cs.getD 0 .any).toInt),VB (((o7.hO).cs.getD 1 .any).toBool)]] fun r10 o10=>.aj ((o10.hO)=.cells (o10.hO).cs)<|.aj (aM [.lk (.int .i64),.lk .bool] ((o10.hO).cs) 0 1 o10.tail)<|NP r10<|.done 0 [r10] [.cells [VI (((o10.hO).cs.getD 0 .any).toInt),VB (((o10.hO).cs.getD 1 .any).toBool)]]) (.test (((a1.deref.hA).toInt)==(114:Int)) (.call 76 [.ref 0 0] [.cells [VI a0_0,VB a0_1]] fun r11 o11=>.aj ((o11.hO)=.cells (o11.hO).cs)<|.aj (aM [.lk (.int .i64),.lk .bool] ((o11.hO).cs) 0 1 o11.tail)<|NS r11<|NZ a1<|NZ a1<|dY (a1.deref.drop 3)<|.call 79 [((a1.deref.drop 3).hA),.ptr [.v (.int .u8 110),VS r11.toStr,VI 0,.v (.pointer none),.v (.pointer none)],VI 0] [] fun r12 o12=>NP r12<|.call 78 [.ref 0 0,r12,VS a2] [.cells [VI (((o11.hO).cs.getD 0 .any).toInt),VB (((o11.hO).cs.getD 1 .any).toBool)]] fun r13 o13=>.aj ((o13.hO)=.cells (o13.hO).cs)<|.aj (aM [.lk (.int .i64),.lk .bool] ((o13.hO).cs) 0 1 o13.tail)<|NP r13<|.call 77 [.ref 0 0,r13] [.cells [VI (((o13.hO).cs.getD 0 .any).toInt),VB (((o13.hO).cs.getD 1 .any).toBool)]] fun r14 o14=>.aj ((o14.hO)=.cells (o14.hO).cs)<|.aj (aM [.lk (.int .i64),.lk .bool] ((o14.hO).cs) 0 1 o14.tail)<|NP r14<|.call 80 [r14,VS r11.toStr,a1] [] fun r15 o15=>NP r15<|.call 78 [.ref 0 0,r12,VS r11.toStr] [.cells [VI (((o14.hO).cs.getD 0 .any).toInt),VB (((o14.hO).cs.getD 1 .any).toBool)]] fun r16 o16=>.aj ((o16.hO)=.cells (o16.hO).cs)<|.aj (aM [.lk (.int .i64),.lk .bool] ((o16.hO).cs) 0 1 o16.tail)<|NP r16<|.call 77 [.ref 0 0,r16] [.cells [VI (((o16.hO).cs.getD 0 .any).toInt),VB (((o16.hO).cs.getD 1 .any).toBool)]] fun r17 o17=>.aj ((o17.hO)=.cells (o17.hO).cs)<|.aj (aM [.lk (.int .i64),.lk .bool] ((o17.hO).cs) 0 1 o17.tail)<|NP r17<|.call 80 [r17,VS r11.toStr,a1] [] fun r18 o18=>NP r18<|.call 121 [.v (.int .u8 42),r18,.ptr [.v (.int .u8 98),VS (mk []),VI 0,.v (.pointer none),.v (.pointer none)]] [] fun r19 o19=>NP r19<|.call 121 [.v (.int .u8 43),r15,r19] [] fun r20 o20=>NP r20<|.call 77 [.ref 0 0,.ptr [.v (.int .u8 114),VS (mk []),VI 0,r20,.v (.pointer none)]] [.cells [VI (((o17.hO).cs.getD 0 .any).toInt),VB (((o17.hO).cs.getD 1 .any).toBool)]] fun r21 o21=>.aj ((o21.hO)=.cells (o21.hO).cs)<|.aj (aM [.lk (.int .i64),.lk .bool] ((o21.hO).cs) 0 1 o21.tail)<|NP r21<|.done 0 [r21] [.cells [VI (((o21.hO).cs.getD 0 .any).toInt),VB (((o21.hO).cs.getD 1 .any).toBool)]]) (.done 0 [.ptr [.v (.int .u8 48),VS (mk []),VI 0,.v (.pointer none),.v (.pointer none)]] [.cells [VI a0_0,VB a0_1]])))))
theorem JA(a0_0:Int)(a0_1:Bool)(a1:AV)(a2:ByteArray)(ha1:LK.has .ptr a1)(h:du 121 (BI a0_0 a0_1 a1 a2) R):aq Tryz.prog 78 [.ref 0 0,a1,VS a2] [.cells [VI a0_0,VB a0_1]] R :=
 aq.nM (bo (bX (ah (aC _) (ah (GA _) aF))) cu) (aq.up (ah (aC _) (ah (bu ha1) (ah (aC _) aF))) (oF [] {mu:=[(0,.one (.obj [.lk (.int .i64),.lk .bool]))],own:=[]} Tryz.f78 h))
def Ds(a0:AV)(a1:AV)(a2:Int):Tree :=
 NZ a0<|NZ a0<|.aj (LK.has (.int .u8) (a0.deref.hA)/\1<=a0.deref.length)<|.test (((a0.deref.hA).toInt)==(98:Int)) (NZ a0<|NZ a0<|.aj (LK.has (.int .i64) ((a0.deref.drop 2).hA)/\1<=(a0.deref.drop 2).length)<|.test ((((a0.deref.drop 2).hA).toInt)==a2) (.done 0 [a1] []) (.done 0 [a0] [])) (.test (((a0.deref.hA).toInt)==(43:Int)) (NZ a0<|NZ a0<|.aj (LK.has (.int .u8) (a0.deref.hA)/\1<=a0.deref.length)<|NZ a0<|NZ a0<|dY (a0.deref.drop 3)<|.call 79 [((a0.deref.drop 3).hA),a1,VI a2] [] fun r1 o1=>NP r1<|NZ a0<|NZ a0<|dY (a0.deref.drop 4)<|.call 79 [((a0.deref.drop 4).hA),a1,VI a2] [] fun r2 o2=>NP r2<|.done 0 [.ptr [.v (.int .u8 ((a0.deref.hA).toInt)),VS (mk []),VI 0,r1,r2]] []) (.test (((a0.deref.hA).toInt)==(42:Int)) (NZ a0<|NZ a0<|.aj (LK.has (.int .u8) (a0.deref.hA)/\1<=a0.deref.length)<|NZ a0<|NZ a0<|dY (a0.deref.drop 3)<|.call 79 [((a0.deref.drop 3).hA),a1,VI a2] [] fun r3 o3=>NP r3<|NZ a0<|NZ a0<|dY (a0.deref.drop 4)<|.call 79 [((a0.deref.drop 4).hA),a1,VI a2] [] fun r4 o4=>NP r4<|.done 0 [.ptr [.v (.int .u8 ((a0.deref.hA).toInt)),VS (mk []),VI 0,r3,r4]] []) (.test (((a0.deref.hA).toInt)==(114:Int)) (NZ a0<|NZ a0<|dY (a0.deref.drop 3)<|.call 79 [((a0.deref.drop 3).hA),a1,VI (IntKind.wrap .i64 (a2+1))] [] fun r5 o5=>NP r5<|.done 0 [.ptr [.v (.int .u8 114),VS (mk []),VI 0,r5,.v (.pointer none)]] []) (.done 0 [a0] []))))
theorem u6(a0:AV)(a1:AV)(a2:Int)(ha0:LK.has .ptr a0)(ha1:LK.has .ptr a1)(h:du 56 (Ds a0 a1 a2) R):aq Tryz.prog 79 [a0,a1,VI a2] [] R :=
 uQ (ah (bu ha0) (ah (bu ha1) (ah (aC _) aF))) (oQ [] Tryz.f79 h)
def Dm(a0:AV)(a1:ByteArray)(a2:AV):Tree :=
 NZ a0<|NZ a0<|.aj (LK.has (.int .u8) (a0.deref.hA)/\1<=a0.deref.length)<|.test (((a0.deref.hA).toInt)==(110:Int)) (NZ a0<|NZ a0<|mc (a0.deref.drop 1)<|.test (ag (((a0.deref.drop 1).hA).toStr)==ag a1) (.done 0 [a2] []) (.done 0 [a0] [])) (.test (((a0.deref.hA).toInt)==(43:Int)) (NZ a0<|NZ a0<|.aj (LK.has (.int .u8) (a0.deref.hA)/\1<=a0.deref.length)<|NZ a0<|NZ a0<|dY (a0.deref.drop 3)<|.call 80 [((a0.deref.drop 3).hA),VS a1,a2] [] fun r1 o1=>NP r1<|NZ a0<|NZ a0<|dY (a0.deref.drop 4)<|.call 80 [((a0.deref.drop 4).hA),VS a1,a2] [] fun r2 o2=>NP r2<|.done 0 [.ptr [.v (.int .u8 ((a0.deref.hA).toInt)),VS (mk []),VI 0,r1,r2]] []) (.test (((a0.deref.hA).toInt)==(42:Int)) (NZ a0<|NZ a0<|.aj (LK.has (.int .u8) (a0.deref.hA)/\1<=a0.deref.length)<|NZ a0<|NZ a0<|dY (a0.deref.drop 3)<|.call 80 [((a0.deref.drop 3).hA),VS a1,a2] [] fun r3 o3=>NP r3<|NZ a0<|NZ a0<|dY (a0.deref.drop 4)<|.call 80 [((a0.deref.drop 4).hA),VS a1,a2] [] fun r4 o4=>NP r4<|.done 0 [.ptr [.v (.int .u8 ((a0.deref.hA).toInt)),VS (mk []),VI 0,r3,r4]] []) (.test (((a0.deref.hA).toInt)==(114:Int)) (NZ a0<|NZ a0<|dY (a0.deref.drop 3)<|.call 80 [((a0.deref.drop 3).hA),VS a1,a2] [] fun r5 o5=>NP r5<|.done 0 [.ptr [.v (.int .u8 114),VS (mk []),VI 0,r5,.v (.pointer none)]] []) (.done 0 [a0] []))))
theorem vJ(a0:AV)(a1:ByteArray)(a2:AV)(ha0:LK.has .ptr a0)(ha2:LK.has .ptr a2)(h:du 55 (Dm a0 a1 a2) R):aq Tryz.prog 80 [a0,VS a1,a2] [] R :=
 uQ (ah (bu ha0) (ah (aC _) (ah (bu ha2) aF))) (oQ [] Tryz.f80 h)
def Iv(a0:AV):Tree :=
 .call 122 [a0] [] fun r1 o1=>NL r1<|.call 123 [a0,.v (.slice none 0 0),.gf 123 [none,some 0,some 1],.ref 0 0,.ref 1 0] [.cells [r1],.cells [VI 0]] fun r2 o2=>.aj ((o2.hO)=.cells (o2.hO).cs)<|.aj (aM [.lk .sl] ((o2.hO).cs) 0 1 o2.tail)<|.aj ((o2.tail.hO)=.cells (o2.tail.hO).cs)<|.aj (aM [.lk (.int .i64)] ((o2.tail.hO).cs) 0 2 o2.tail.tail)<|NS r2<|.done 0 [VS r2.toStr] []
theorem ME(a0:AV)(ha0:LK.has .ptr a0)(h:du 12 (Iv a0) R):aq Tryz.prog 81 [a0] [] R :=
 uQ (ah (bu ha0) aF) (oQ [] Tryz.f81 h)
def Ho(a0:ByteArray):Tree :=
 .call 38 [VS a0] [] fun r1 o1=>NP r1<|NP r1<|.test r1.isNil (.done 0 [.v (.pointer none)] []) (.call 125 [r1] [] fun r2 o2=>NB r2<|.test (!r2.toBool) (.done 0 [.v (.pointer none)] []) (.done 0 [r1] []))
theorem Nd(a0:ByteArray)(h:du 14 (Ho a0) R):aq Tryz.prog 82 [VS a0] [] R :=
 uQ (ah (aC _) aF) (oQ [] Tryz.f82 h)
def yN(a0_0:AV)(a0_1:AV)(a1:AV)(a2:Int):Tree :=
 NZ a0_0<|NZ a0_0<|.aj (LK.has (.int .u8) (a0_0.deref.hA)/\1<=a0_0.deref.length)<|.test (((a0_0.deref.hA).toInt)==(49:Int)) (NZ a1<|NZ a1<|.aj (LK.has (.int .u8) (a1.deref.hA)/\1<=a1.deref.length)<|.done 0 [VB (((a1.deref.hA).toInt)==(117:Int))] []) (.test (((a0_0.deref.hA).toInt)==(110:Int)) (NZ a1<|NZ a1<|.aj (LK.has (.int .u8) (a1.deref.hA)/\1<=a1.deref.length)<|.test (((a1.deref.hA).toInt) != (101:Int)) (.done 0 [VB false] []) (NZ a1<|NZ a1<|mc (a1.deref.drop 1)<|.aj (0<=(1:Int)/\(1:Int)<=(ae (((a1.deref.drop 1).hA).toStr):Int)/\(ae (((a1.deref.drop 1).hA).toStr):Int)<=(ae (((a1.deref.drop 1).hA).toStr):Int))<|.call 126 [VS (bV (((a1.deref.drop 1).hA).toStr) (bR 1) (bR (ae (((a1.deref.drop 1).hA).toStr):Int)))] [] fun r1 o1=>NT r1<|NI (r1.comp 0)<|.aj (LK.has .ki (r1.comp 1))<|.done 0 [VB (decide (((r1.comp 0).toInt)<a2))] [])) (.test (((a0_0.deref.hA).toInt)==(98:Int)) (.call 127 [.agg [a0_0,a0_1]] [] fun r2 o2=>NP r2<|NZ r2<|NZ r2<|.aj (bO [.ptr,.ptr] r2.deref 0/\2<=r2.deref.length)<|.call 83 [.agg [(r2.deref.getD 0 .any),(r2.deref.getD 1 .any)],a1,VI a2] [] fun r3 o3=>NB r3<|.done 0 [VB r3.toBool] []) (.test (((a0_0.deref.hA).toInt)==(43:Int)) (NZ a1<|NZ a1<|.aj (LK.has (.int .u8) (a1.deref.hA)/\1<=a1.deref.length)<|.test (((a1.deref.hA).toInt)==(108:Int)) (.call 108 [.agg [a0_0,a0_1]] [] fun r4 o4=>.aj (r4=.agg r4.cs/\r4.cs.length=2/\bO [.ptr,.ptr] r4.cs 0)<|NZ a1<|NZ a1<|dY (a1.deref.drop 2)<|.call 83 [.agg [(r4.cs.getD 0 .any),(r4.cs.getD 1 .any)],((a1.deref.drop 2).hA),VI a2] [] fun r5 o5=>NB r5<|.test r5.toBool (.done 0 [VB true] []) (NZ a1<|NZ a1<|.aj (LK.has (.int .u8) (a1.deref.hA)/\1<=a1.deref.length)<|.test (((a1.deref.hA).toInt)==(114:Int)) (.call 109 [.agg [a0_0,a0_1]] [] fun r6 o6=>.aj (r6=.agg r6.cs/\r6.cs.length=2/\bO [.ptr,.ptr] r6.cs 0)<|NZ a1<|NZ a1<|dY (a1.deref.drop 2)<|.call 83 [.agg [(r6.cs.getD 0 .any),(r6.cs.getD 1 .any)],((a1.deref.drop 2).hA),VI a2] [] fun r7 o7=>NB r7<|.done 0 [VB r7.toBool] []) (.done 0 [VB false] []))) (NZ a1<|NZ a1<|.aj (LK.has (.int .u8) (a1.deref.hA)/\1<=a1.deref.length)<|.test (((a1.deref.hA).toInt)==(114:Int)) (.call 109 [.agg [a0_0,a0_1]] [] fun r8 o8=>.aj (r8=.agg r8.cs/\r8.cs.length=2/\bO [.ptr,.ptr] r8.cs 0)<|NZ a1<|NZ a1<|dY (a1.deref.drop 2)<|.call 83 [.agg [(r8.cs.getD 0 .any),(r8.cs.getD 1 .any)],((a1.deref.drop 2).hA),VI a2] [] fun r9 o9=>NB r9<|.done 0 [VB r9.toBool] []) (.done 0 [VB false] []))) (.test (((a0_0.deref.hA).toInt)==(42:Int)) (NZ a1<|NZ a1<|.aj (LK.has (.int .u8) (a1.deref.hA)/\1<=a1.deref.length)<|.test (((a1.deref.hA).toInt)==(112:Int)) (.call 108 [.agg [a0_0,a0_1]] [] fun r10 o10=>.aj (r10=.agg r10.cs/\r10.cs.length=2/\bO [.ptr,.ptr] r10.cs 0)<|NZ a1<|NZ a1<|dY (a1.deref.drop 2)<|.call 83 [.agg [(r10.cs.getD 0 .any),(r10.cs.getD 1 .any)],((a1.deref.drop 2).hA),VI a2] [] fun r11 o11=>NB r11<|.test r11.toBool (.call 109 [.agg [a0_0,a0_1]] [] fun r12 o12=>.aj (r12=.agg r12.cs/\r12.cs.length=2/\bO [.ptr,.ptr] r12.cs 0)<|NZ a1<|NZ a1<|dY (a1.deref.drop 3)<|.call 83 [.agg [(r12.cs.getD 0 .any),(r12.cs.getD 1 .any)],((a1.deref.drop 3).hA),VI a2] [] fun r13 o13=>NB r13<|.done 0 [VB r13.toBool] []) (.done 0 [VB false] [])) (.done 0 [VB false] [])) (.test (((a0_0.deref.hA).toInt)==(114:Int)) (.call 70 [.agg [a0_0,a0_1]] [] fun r14 o14=>NT r14<|.aj ((r14.comp 0)=.agg (r14.comp 0).cs/\(r14.comp 0).cs.length=2/\bO [.ptr,.ptr] ((r14.comp 0).cs) 0)<|NP (r14.comp 1)<|NZ a1<|NZ a1<|.aj (LK.has (.int .u8) (a1.deref.hA)/\1<=a1.deref.length)<|.test (((a1.deref.hA).toInt)==(102:Int)) (NZ a1<|NZ a1<|dY (a1.deref.drop 2)<|.call 83 [.agg [((r14.comp 0).cs.getD 0 .any),((r14.comp 0).cs.getD 1 .any)],((a1.deref.drop 2).hA),VI a2] [] fun r15 o15=>NB r15<|.done 0 [VB r15.toBool] []) (.done 0 [VB false] [])) (.done 0 [VB false] []))))))
theorem Iq(a0_0:AV)(a0_1:AV)(a1:AV)(a2:Int)(ha0_0:LK.has .ptr a0_0)(ha0_1:LK.has .ptr a0_1)(ha1:LK.has .ptr a1)(h:du 134 (yN a0_0 a0_1 a1 a2) R):aq Tryz.prog 83 [.agg [a0_0,a0_1],a1,VI a2] [] R :=
 uQ (ah (cL (ah (bu ha0_0) (ah (bu ha0_1) aF))) (ah (bu ha1) (ah (aC _) aF))) (oQ [] Tryz.f83 h)
def vd(a0:AV):Tree :=
 NZ a0<|NZ a0<|dY (a0.deref.drop 2)<|NP ((a0.deref.drop 2).hA)<|.test (!((a0.deref.drop 2).hA).isNil) (NZ a0<|NZ a0<|dY (a0.deref.drop 2)<|.call 84 [((a0.deref.drop 2).hA)] [] fun r1 o1=>NI r1<|NZ a0<|NZ a0<|dY (a0.deref.drop 3)<|NP ((a0.deref.drop 3).hA)<|.test (!((a0.deref.drop 3).hA).isNil) (NZ a0<|NZ a0<|dY (a0.deref.drop 3)<|.call 84 [((a0.deref.drop 3).hA)] [] fun r2 o2=>NI r2<|.done 0 [VI (IntKind.wrap .i64 ((IntKind.wrap .i64 (1+r1.toInt))+r2.toInt))] []) (.done 0 [VI (IntKind.wrap .i64 (1+r1.toInt))] [])) (NZ a0<|NZ a0<|dY (a0.deref.drop 3)<|NP ((a0.deref.drop 3).hA)<|.test (!((a0.deref.drop 3).hA).isNil) (NZ a0<|NZ a0<|dY (a0.deref.drop 3)<|.call 84 [((a0.deref.drop 3).hA)] [] fun r3 o3=>NI r3<|.done 0 [VI (IntKind.wrap .i64 (1+r3.toInt))] []) (.done 0 [VI 1] []))
theorem yp(a0:AV)(ha0:LK.has .ptr a0)(h:du 29 (vd a0) R):aq Tryz.prog 84 [a0] [] R :=
 uQ (ah (bu ha0) aF) (oQ [] Tryz.f84 h)
def HX(a0:Int)(a1:AV):Tree :=
 .done 0 [.ptr [.v (.int .u8 a0),VS (mk []),a1,.v (.pointer none)]] []
theorem MI(a0:Int)(a1:AV)(ha1:LK.has .ptr a1)(h:du 9 (HX a0 a1) R):aq Tryz.prog 85 [.v (.int .u8 a0),a1] [] R :=
 uQ (ah (aC _) (ah (bu ha1) aF)) (oQ [] Tryz.f85 h)
def AO(a0_0:AV)(a0_1:AV)(a1:AV)(a2_0:ByteArray)(a2_1:AV)(a3:AV):Tree :=
 NZ a0_0<|NZ a0_0<|.aj (LK.has (.int .u8) (a0_0.deref.hA)/\1<=a0_0.deref.length)<|.test (((a0_0.deref.hA).toInt)==(43:Int)) (.call 108 [.agg [a0_0,a0_1]] [] fun r1 o1=>.aj (r1=.agg r1.cs/\r1.cs.length=2/\bO [.ptr,.ptr] r1.cs 0)<|NZ a1<|NZ a1<|.aj (LK.has (.int .u8) (a1.deref.hA)/\1<=a1.deref.length)<|.test (((a1.deref.hA).toInt)==(114:Int)) (.call 109 [.agg [a0_0,a0_1]] [] fun r2 o2=>.aj (r2=.agg r2.cs/\r2.cs.length=2/\bO [.ptr,.ptr] r2.cs 0)<|NZ a1<|NZ a1<|.aj (LK.has (.int .u8) (a1.deref.hA)/\1<=a1.deref.length)<|NZ a1<|NZ a1<|dY (a1.deref.drop 2)<|.call 86 [.agg [(r2.cs.getD 0 .any),(r2.cs.getD 1 .any)],((a1.deref.drop 2).hA),.agg [VS a2_0,a2_1],a3] [] fun r3 o3=>NP r3<|.call 85 [.v (.int .u8 ((a1.deref.hA).toInt)),r3] [] fun r4 o4=>NP r4<|.done 0 [r4] []) (NZ a1<|NZ a1<|.aj (LK.has (.int .u8) (a1.deref.hA)/\1<=a1.deref.length)<|NZ a1<|NZ a1<|dY (a1.deref.drop 2)<|.call 86 [.agg [(r1.cs.getD 0 .any),(r1.cs.getD 1 .any)],((a1.deref.drop 2).hA),.agg [VS a2_0,a2_1],a3] [] fun r5 o5=>NP r5<|.call 85 [.v (.int .u8 ((a1.deref.hA).toInt)),r5] [] fun r6 o6=>NP r6<|.done 0 [r6] [])) (.test (((a0_0.deref.hA).toInt)==(42:Int)) (NZ a1<|NZ a1<|.aj (LK.has (.int .u8) (a1.deref.hA)/\1<=a1.deref.length)<|.test (((a1.deref.hA).toInt)==(108:Int)) (.call 108 [.agg [a0_0,a0_1]] [] fun r7 o7=>.aj (r7=.agg r7.cs/\r7.cs.length=2/\bO [.ptr,.ptr] r7.cs 0)<|NZ a1<|NZ a1<|dY (a1.deref.drop 2)<|NZ ((a1.deref.drop 2).hA)<|NZ ((a1.deref.drop 2).hA)<|dY (((a1.deref.drop 2).hA).deref.drop 2)<|.call 86 [.agg [(r7.cs.getD 0 .any),(r7.cs.getD 1 .any)],((((a1.deref.drop 2).hA).deref.drop 2).hA),.agg [VS a2_0,a2_1],a3] [] fun r8 o8=>NP r8<|NZ a1<|NZ a1<|dY (a1.deref.drop 2)<|NZ ((a1.deref.drop 2).hA)<|NZ ((a1.deref.drop 2).hA)<|dY (((a1.deref.drop 2).hA).deref.drop 3)<|.call 112 [r8,((((a1.deref.drop 2).hA).deref.drop 3).hA)] [] fun r9 o9=>NP r9<|.done 0 [r9] []) (NZ a1<|NZ a1<|dY (a1.deref.drop 2)<|NZ ((a1.deref.drop 2).hA)<|NZ ((a1.deref.drop 2).hA)<|dY (((a1.deref.drop 2).hA).deref.drop 2)<|.call 109 [.agg [a0_0,a0_1]] [] fun r10 o10=>.aj (r10=.agg r10.cs/\r10.cs.length=2/\bO [.ptr,.ptr] r10.cs 0)<|NZ a1<|NZ a1<|dY (a1.deref.drop 2)<|NZ ((a1.deref.drop 2).hA)<|NZ ((a1.deref.drop 2).hA)<|dY (((a1.deref.drop 2).hA).deref.drop 3)<|.call 86 [.agg [(r10.cs.getD 0 .any),(r10.cs.getD 1 .any)],((((a1.deref.drop 2).hA).deref.drop 3).hA),.agg [VS a2_0,a2_1],a3] [] fun r11 o11=>NP r11<|.call 112 [((((a1.deref.drop 2).hA).deref.drop 2).hA),r11] [] fun r12 o12=>NP r12<|.done 0 [r12] [])) (.test (((a0_0.deref.hA).toInt)==(114:Int)) (.call 70 [.agg [a0_0,a0_1]] [] fun r13 o13=>NT r13<|.aj ((r13.comp 0)=.agg (r13.comp 0).cs/\(r13.comp 0).cs.length=2/\bO [.ptr,.ptr] ((r13.comp 0).cs) 0)<|NP (r13.comp 1)<|NZ a1<|NZ a1<|dY (a1.deref.drop 2)<|NZ ((a1.deref.drop 2).hA)<|NZ ((a1.deref.drop 2).hA)<|.aj (LK.has (.int .u8) (((a1.deref.drop 2).hA).deref.hA)/\1<=(((a1.deref.drop 2).hA).deref).length)<|.test (((((a1.deref.drop 2).hA).deref.hA).toInt)==(108:Int)) (NZ a1<|NZ a1<|dY (a1.deref.drop 2)<|NZ ((a1.deref.drop 2).hA)<|NZ ((a1.deref.drop 2).hA)<|dY (((a1.deref.drop 2).hA).deref.drop 2)<|.call 86 [.agg [((r13.comp 0).cs.getD 0 .any),((r13.comp 0).cs.getD 1 .any)],((((a1.deref.drop 2).hA).deref.drop 2).hA),.agg [VS a2_0,a2_1],a3] [] fun r14 o14=>NP r14<|.call 85 [.v (.int .u8 102),r14] [] fun r15 o15=>NP r15<|.done 0 [r15] []) (NZ a1<|NZ a1<|dY (a1.deref.drop 2)<|NZ ((a1.deref.drop 2).hA)<|NZ ((a1.deref.drop 2).hA)<|dY (((a1.deref.drop 2).hA).deref.drop 2)<|NZ ((((a1.deref.drop 2).hA).deref.drop 2).hA)<|NZ ((((a1.deref.drop 2).hA).deref.drop 2).hA)<|dY (((((a1.deref.drop 2).hA).deref.drop 2).hA).deref.drop 3)<|.call 86 [.agg [a0_0,a0_1],((((((a1.deref.drop 2).hA).deref.drop 2).hA).deref.drop 3).hA),.agg [VS a2_0,a2_1],a3] [] fun r16 o16=>NP r16<|NZ a1<|NZ a1<|dY (a1.deref.drop 2)<|NZ ((a1.deref.drop 2).hA)<|NZ ((a1.deref.drop 2).hA)<|dY (((a1.deref.drop 2).hA).deref.drop 2)<|NZ ((((a1.deref.drop 2).hA).deref.drop 2).hA)<|NZ ((((a1.deref.drop 2).hA).deref.drop 2).hA)<|dY (((((a1.deref.drop 2).hA).deref.drop 2).hA).deref.drop 2)<|.call 86 [.agg [((r13.comp 0).cs.getD 0 .any),((r13.comp 0).cs.getD 1 .any)],((((((a1.deref.drop 2).hA).deref.drop 2).hA).deref.drop 2).hA),.agg [VS (mk []),(r13.comp 1)],r16] [] fun r17 o17=>NP r17<|.call 85 [.v (.int .u8 102),r17] [] fun r18 o18=>NP r18<|.done 0 [r18] [])) (.done 0 [a3] [])))
theorem ON(a0_0:AV)(a0_1:AV)(a1:AV)(a2_0:ByteArray)(a2_1:AV)(a3:AV)(ha0_0:LK.has .ptr a0_0)(ha0_1:LK.has .ptr a0_1)(ha1:LK.has .ptr a1)(ha2_1:LK.has .ptr a2_1)(ha3:LK.has .ptr a3)(h:du 147 (AO a0_0 a0_1 a1 a2_0 a2_1 a3) R):aq Tryz.prog 86 [.agg [a0_0,a0_1],a1,.agg [VS a2_0,a2_1],a3] [] R :=
 uQ (ah (cL (ah (bu ha0_0) (ah (bu ha0_1) aF))) (ah (bu ha1) (ah (cL (ah (aC _) (ah (bu ha2_1) aF))) (ah (bu ha3) aF)))) (oQ [] Tryz.f86 h)
def DL(a0:AV):Tree :=
 NZ a0<|NZ a0<|.aj (LK.has .str (a0.deref.hA)/\1<=a0.deref.length)<|.test (ag ((a0.deref.hA).toStr)==ag (mk [117])) (.done 0 [.ptr [.v (.int .u8 117),VS (mk []),.v (.pointer none),.v (.pointer none)]] []) (NZ a0<|NZ a0<|.aj (LK.has .str (a0.deref.hA)/\1<=a0.deref.length)<|.call 128 [VS ((a0.deref.hA).toStr)] [] fun r1 o1=>NB r1<|.test r1.toBool (NZ a0<|NZ a0<|.aj (LK.has .str (a0.deref.hA)/\1<=a0.deref.length)<|.done 0 [.ptr [.v (.int .u8 101),VS ((a0.deref.hA).toStr),.v (.pointer none),.v (.pointer none)]] []) (.call 119 [a0,VS (mk [108]),VI 2] [] fun r2 o2=>NB r2<|.test r2.toBool (NZ a0<|NZ a0<|rk (a0.deref.drop 1)<|NG ((a0.deref.drop 1).hA) 1 1<|dY (((a0.deref.drop 1).hA).ix (1:Int))<|.call 87 [((((a0.deref.drop 1).hA).ix (1:Int)).hA)] [] fun r3 o3=>NP r3<|NP r3<|.test r3.isNil (.done 0 [.v (.pointer none)] []) (NZ a0<|NZ a0<|rk (a0.deref.drop 1)<|NG ((a0.deref.drop 1).hA) 0 1<|dY (((a0.deref.drop 1).hA).ix (0:Int))<|NZ ((((a0.deref.drop 1).hA).ix (0:Int)).hA)<|NZ ((((a0.deref.drop 1).hA).ix (0:Int)).hA)<|.aj (LK.has .str (((((a0.deref.drop 1).hA).ix (0:Int)).hA).deref.hA)/\1<=(((((a0.deref.drop 1).hA).ix (0:Int)).hA).deref).length)<|.aj (0<=(0:Int)/\(0:Int)<ae ((((((a0.deref.drop 1).hA).ix (0:Int)).hA).deref.hA).toStr))<|.done 0 [.ptr [.v (.int .u8 (bt ((((((a0.deref.drop 1).hA).ix (0:Int)).hA).deref.hA).toStr) 0)),VS (mk []),r3,.v (.pointer none)]] [])) (.call 119 [a0,VS (mk [114]),VI 2] [] fun r4 o4=>NB r4<|.test r4.toBool (NZ a0<|NZ a0<|rk (a0.deref.drop 1)<|NG ((a0.deref.drop 1).hA) 1 1<|dY (((a0.deref.drop 1).hA).ix (1:Int))<|.call 87 [((((a0.deref.drop 1).hA).ix (1:Int)).hA)] [] fun r5 o5=>NP r5<|NP r5<|.test r5.isNil (.done 0 [.v (.pointer none)] []) (NZ a0<|NZ a0<|rk (a0.deref.drop 1)<|NG ((a0.deref.drop 1).hA) 0 1<|dY (((a0.deref.drop 1).hA).ix (0:Int))<|NZ ((((a0.deref.drop 1).hA).ix (0:Int)).hA)<|NZ ((((a0.deref.drop 1).hA).ix (0:Int)).hA)<|.aj (LK.has .str (((((a0.deref.drop 1).hA).ix (0:Int)).hA).deref.hA)/\1<=(((((a0.deref.drop 1).hA).ix (0:Int)).hA).deref).length)<|.aj (0<=(0:Int)/\(0:Int)<ae ((((((a0.deref.drop 1).hA).ix (0:Int)).hA).deref.hA).toStr))<|.done 0 [.ptr [.v (.int .u8 (bt ((((((a0.deref.drop 1).hA).ix (0:Int)).hA).deref.hA).toStr) 0)),VS (mk []),r5,.v (.pointer none)]] [])) (.call 119 [a0,VS (mk [102]),VI 2] [] fun r6 o6=>NB r6<|.test r6.toBool (NZ a0<|NZ a0<|rk (a0.deref.drop 1)<|NG ((a0.deref.drop 1).hA) 1 1<|dY (((a0.deref.drop 1).hA).ix (1:Int))<|.call 87 [((((a0.deref.drop 1).hA).ix (1:Int)).hA)] [] fun r7 o7=>NP r7<|NP r7<|.test r7.isNil (.done 0 [.v (.pointer none)] []) (NZ a0<|NZ a0<|rk (a0.deref.drop 1)<|NG ((a0.deref.drop 1).hA) 0 1<|dY (((a0.deref.drop 1).hA).ix (0:Int))<|NZ ((((a0.deref.drop 1).hA).ix (0:Int)).hA)<|NZ ((((a0.deref.drop 1).hA).ix (0:Int)).hA)<|.aj (LK.has .str (((((a0.deref.drop 1).hA).ix (0:Int)).hA).deref.hA)/\1<=(((((a0.deref.drop 1).hA).ix (0:Int)).hA).deref).length)<|.aj (0<=(0:Int)/\(0:Int)<ae ((((((a0.deref.drop 1).hA).ix (0:Int)).hA).deref.hA).toStr))<|.done 0 [.ptr [.v (.int .u8 (bt ((((((a0.deref.drop 1).hA).ix (0:Int)).hA).deref.hA).toStr) 0)),VS (mk []),r7,.v (.pointer none)]] [])) (.call 119 [a0,VS (mk [112]),VI 3] [] fun r8 o8=>NB r8<|.test r8.toBool (NZ a0<|NZ a0<|rk (a0.deref.drop 1)<|NG ((a0.deref.drop 1).hA) 1 1<|dY (((a0.deref.drop 1).hA).ix (1:Int))<|.call 87 [((((a0.deref.drop 1).hA).ix (1:Int)).hA)] [] fun r9 o9=>NP r9<|NZ a0<|NZ a0<|rk (a0.deref.drop 1)<|NG ((a0.deref.drop 1).hA) 2 1<|dY (((a0.deref.drop 1).hA).ix (2:Int))<|.call 87 [((((a0.deref.drop 1).hA).ix (2:Int)).hA)] [] fun r10 o10=>NP r10<|NP r9<|.test r9.isNil (.done 0 [.v (.pointer none)] []) (NP r10<|.test r10.isNil (.done 0 [.v (.pointer none)] []) (.call 112 [r9,r10] [] fun r11 o11=>NP r11<|.done 0 [r11] []))) (.done 0 [.v (.pointer none)] []))))))
theorem Ix(a0:AV)(ha0:LK.has .ptr a0)(h:du 85 (DL a0) R):aq Tryz.prog 87 [a0] [] R :=
 uQ (ah (bu ha0) aF) (oQ [] Tryz.f87 h)
def IK(a0_0:AV)(a0_1:Int)(a1:AV):Tree :=
 NL a1<|.call 45 [.ref 0 0,VI (a1.elems.length:Int)] [.cells [a0_0,VI a0_1]] fun r1 o1=>.aj ((o1.hO)=.cells (o1.hO).cs)<|.aj (aM [.lk .sl,.lk (.int .i64)] ((o1.hO).cs) 0 1 o1.tail)<|NI r1<|.aj (LK.has .sl a1/\0<=r1.toInt/\r1.toInt<a1.elems.length/\(a1.elems.getD r1.toInt.toNat []).length=1)<|mc (a1.elems.getD r1.toInt.toNat [])<|.done 0 [VS (((a1.elems.getD r1.toInt.toNat []).hA).toStr)] [.cells [((o1.hO).cs.getD 0 .any),VI (((o1.hO).cs.getD 1 .any).toInt)]]
theorem Od(a0_0:AV)(a0_1:Int)(a1:AV)(ha1:LK.has .sl a1)(ha0_0:LK.has .sl a0_0)(h:du 12 (IK a0_0 a0_1 a1) R):aq Tryz.prog 94 [.ref 0 0,a1] [.cells [a0_0,VI a0_1]] R :=
 aq.nM (bo (bX (ah (cb ha0_0) (ah (aC _) aF))) cu) (aq.up (ah (aC _) (ah (cb ha1) aF)) (oF [] {mu:=[(0,.one (.obj [.lk .sl,.lk (.int .i64)]))],own:=[]} Tryz.f94 h))
def zH(a0_0:AV)(a0_1:Int)(a1_0:ByteArray)(a1_1:AV)(a2:Int):Tree :=
 .call 54 [.agg [VS a1_0,a1_1]] [] fun r1 o1=>NS r1<|.test (ag r1.toStr==ag (mk [43])) (.call 45 [.ref 0 0,VI 2] [.cells [a0_0,VI a0_1]] fun r2 o2=>.aj ((o2.hO)=.cells (o2.hO).cs)<|.aj (aM [.lk .sl,.lk (.int .i64)] ((o2.hO).cs) 0 1 o2.tail)<|NI r2<|NG a1_1 1 2<|NE (a1_1.ix (1:Int))<|.call 133 [.agg [VS (((a1_1.ix (1:Int)).getD 0 .any).toStr),((a1_1.ix (1:Int)).getD 1 .any)],.sl []] [] fun r3 o3=>NB r3<|.test r3.toBool (.test ((1:Int)==(0:Int)) (NG a1_1 1 2<|NE (a1_1.ix (1:Int))<|.call 95 [.ref 0 0,.agg [VS (((a1_1.ix (1:Int)).getD 0 .any).toStr),((a1_1.ix (1:Int)).getD 1 .any)],VI (IntKind.wrap .i64 (a2-1))] [.cells [((o2.hO).cs.getD 0 .any),VI (((o2.hO).cs.getD 1 .any).toInt)]] fun r4 o4=>.aj ((o4.hO)=.cells (o4.hO).cs)<|.aj (aM [.lk .sl,.lk (.int .i64)] ((o4.hO).cs) 0 1 o4.tail)<|NA r4<|.call 61 [VS (mk [108]),.sl [[VS ((r4.cs.getD 0 .any).toStr),(r4.cs.getD 1 .any)]]] [] fun r5 o5=>NA r5<|.done 0 [.agg [VS ((r5.cs.getD 0 .any).toStr),(r5.cs.getD 1 .any)]] [.cells [((o4.hO).cs.getD 0 .any),VI (((o4.hO).cs.getD 1 .any).toInt)]]) (NG a1_1 2 2<|NE (a1_1.ix (2:Int))<|.call 95 [.ref 0 0,.agg [VS (((a1_1.ix (2:Int)).getD 0 .any).toStr),((a1_1.ix (2:Int)).getD 1 .any)],VI (IntKind.wrap .i64 (a2-1))] [.cells [((o2.hO).cs.getD 0 .any),VI (((o2.hO).cs.getD 1 .any).toInt)]] fun r6 o6=>.aj ((o6.hO)=.cells (o6.hO).cs)<|.aj (aM [.lk .sl,.lk (.int .i64)] ((o6.hO).cs) 0 1 o6.tail)<|NA r6<|.call 61 [VS (mk [114]),.sl [[VS ((r6.cs.getD 0 .any).toStr),(r6.cs.getD 1 .any)]]] [] fun r7 o7=>NA r7<|.done 0 [.agg [VS ((r7.cs.getD 0 .any).toStr),(r7.cs.getD 1 .any)]] [.cells [((o6.hO).cs.getD 0 .any),VI (((o6.hO).cs.getD 1 .any).toInt)]])) (.test (decide (a2<=(0:Int))) (NG a1_1 1 2<|NE (a1_1.ix (1:Int))<|.call 134 [.agg [VS (((a1_1.ix (1:Int)).getD 0 .any).toStr),((a1_1.ix (1:Int)).getD 1 .any)]] [] fun r8 o8=>NI r8<|NG a1_1 2 2<|NE (a1_1.ix (2:Int))<|.call 134 [.agg [VS (((a1_1.ix (2:Int)).getD 0 .any).toStr),((a1_1.ix (2:Int)).getD 1 .any)]] [] fun r9 o9=>NI r9<|.test (decide (r8.toInt>r9.toInt)) (NG a1_1 2 2<|NE (a1_1.ix (2:Int))<|.call 133 [.agg [VS (((a1_1.ix (2:Int)).getD 0 .any).toStr),((a1_1.ix (2:Int)).getD 1 .any)],.sl []] [] fun r10 o10=>NB r10<|.test (!r10.toBool) (.test ((1:Int)==(0:Int)) (NG a1_1 1 2<|NE (a1_1.ix (1:Int))<|.call 95 [.ref 0 0,.agg [VS (((a1_1.ix (1:Int)).getD 0 .any).toStr),((a1_1.ix (1:Int)).getD 1 .any)],VI (IntKind.wrap .i64 (a2-1))] [.cells [((o2.hO).cs.getD 0 .any),VI (((o2.hO).cs.getD 1 .any).toInt)]] fun r11 o11=>.aj ((o11.hO)=.cells (o11.hO).cs)<|.aj (aM [.lk .sl,.lk (.int .i64)] ((o11.hO).cs) 0 1 o11.tail)<|NA r11<|.call 61 [VS (mk [108]),.sl [[VS ((r11.cs.getD 0 .any).toStr),(r11.cs.getD 1 .any)]]] [] fun r12 o12=>NA r12<|.done 0 [.agg [VS ((r12.cs.getD 0 .any).toStr),(r12.cs.getD 1 .any)]] [.cells [((o11.hO).cs.getD 0 .any),VI (((o11.hO).cs.getD 1 .any).toInt)]]) (NG a1_1 2 2<|NE (a1_1.ix (2:Int))<|.call 95 [.ref 0 0,.agg [VS (((a1_1.ix (2:Int)).getD 0 .any).toStr),((a1_1.ix (2:Int)).getD 1 .any)],VI (IntKind.wrap .i64 (a2-1))] [.cells [((o2.hO).cs.getD 0 .any),VI (((o2.hO).cs.getD 1 .any).toInt)]] fun r13 o13=>.aj ((o13.hO)=.cells (o13.hO).cs)<|.aj (aM [.lk .sl,.lk (.int .i64)] ((o13.hO).cs) 0 1 o13.tail)<|NA r13<|.call 61 [VS (mk [114]),.sl [[VS ((r13.cs.getD 0 .any).toStr),(r13.cs.getD 1 .any)]]] [] fun r14 o14=>NA r14<|.done 0 [.agg [VS ((r14.cs.getD 0 .any).toStr),(r14.cs.getD 1 .any)]] [.cells [((o13.hO).cs.getD 0 .any),VI (((o13.hO).cs.getD 1 .any).toInt)]])) (NG a1_1 2 2<|NE (a1_1.ix (2:Int))<|.call 133 [.agg [VS (((a1_1.ix (2:Int)).getD 0 .any).toStr),((a1_1.ix (2:Int)).getD 1 .any)],.sl []] [] fun r15 o15=>NB r15<|.test r15.toBool (.test ((0:Int)==(0:Int)) (NG a1_1 1 2<|NE (a1_1.ix (1:Int))<|.call 95 [.ref 0 0,.agg [VS (((a1_1.ix (1:Int)).getD 0 .any).toStr),((a1_1.ix (1:Int)).getD 1 .any)],VI (IntKind.wrap .i64 (a2-1))] [.cells [((o2.hO).cs.getD 0 .any),VI (((o2.hO).cs.getD 1 .any).toInt)]] fun r16 o16=>.aj ((o16.hO)=.cells (o16.hO).cs)<|.aj (aM [.lk .sl,.lk (.int .i64)] ((o16.hO).cs) 0 1 o16.tail)<|NA r16<|.call 61 [VS (mk [108]),.sl [[VS ((r16.cs.getD 0 .any).toStr),(r16.cs.getD 1 .any)]]] [] fun r17 o17=>NA r17<|.done 0 [.agg [VS ((r17.cs.getD 0 .any).toStr),(r17.cs.getD 1 .any)]] [.cells [((o16.hO).cs.getD 0 .any),VI (((o16.hO).cs.getD 1 .any).toInt)]]) (NG a1_1 2 2<|NE (a1_1.ix (2:Int))<|.call 95 [.ref 0 0,.agg [VS (((a1_1.ix (2:Int)).getD 0 .any).toStr),((a1_1.ix (2:Int)).getD 1 .any)],VI (IntKind.wrap .i64 (a2-1))] [.cells [((o2.hO).cs.getD 0 .any),VI (((o2.hO).cs.getD 1 .any).toInt)]] fun r18 o18=>.aj ((o18.hO)=.cells (o18.hO).cs)<|.aj (aM [.lk .sl,.lk (.int .i64)] ((o18.hO).cs) 0 1 o18.tail)<|NA r18<|.call 61 [VS (mk [114]),.sl [[VS ((r18.cs.getD 0 .any).toStr),(r18.cs.getD 1 .any)]]] [] fun r19 o19=>NA r19<|.done 0 [.agg [VS ((r19.cs.getD 0 .any).toStr),(r19.cs.getD 1 .any)]] [.cells [((o18.hO).cs.getD 0 .any),VI (((o18.hO).cs.getD 1 .any).toInt)]])) (.test (decide (a2<=(0:Int))) (.test ((0:Int)==(0:Int)) (NG a1_1 1 2<|NE (a1_1.ix (1:Int))<|.call 95 [.ref 0 0,.agg [VS (((a1_1.ix (1:Int)).getD 0 .any).toStr),((a1_1.ix (1:Int)).getD 1 .any)],VI (IntKind.wrap .i64 (a2-1))] [.cells [((o2.hO).cs.getD 0 .any),VI (((o2.hO).cs.getD 1 .any).toInt)]] fun r20 o20=>.aj ((o20.hO)=.cells (o20.hO).cs)<|.aj (aM [.lk .sl,.lk (.int .i64)] ((o20.hO).cs) 0 1 o20.tail)<|NA r20<|.call 61 [VS (mk [108]),.sl [[VS ((r20.cs.getD 0 .any).toStr),(r20.cs.getD 1 .any)]]] [] fun r21 o21=>NA r21<|.done 0 [.agg [VS ((r21.cs.getD 0 .any).toStr),(r21.cs.getD 1 .any)]] [.cells [((o20.hO).cs.getD 0 .any),VI (((o20.hO).cs.getD 1 .any).toInt)]]) (NG a1_1 2 2<|NE (a1_1.ix (2:Int))<|.call 95 [.ref 0 0,.agg [VS (((a1_1.ix (2:Int)).getD 0 .any).toStr),((a1_1.ix (2:Int)).getD 1 .any)],VI (IntKind.wrap .i64 (a2-1))] [.cells [((o2.hO).cs.getD 0 .any),VI (((o2.hO).cs.getD 1 .any).toInt)]] fun r22 o22=>.aj ((o22.hO)=.cells (o22.hO).cs)<|.aj (aM [.lk .sl,.lk (.int .i64)] ((o22.hO).cs) 0 1 o22.tail)<|NA r22<|.call 61 [VS (mk [114]),.sl [[VS ((r22.cs.getD 0 .any).toStr),(r22.cs.getD 1 .any)]]] [] fun r23 o23=>NA r23<|.done 0 [.agg [VS ((r23.cs.getD 0 .any).toStr),(r23.cs.getD 1 .any)]] [.cells [((o22.hO).cs.getD 0 .any),VI (((o22.hO).cs.getD 1 .any).toInt)]])) (.test (r2.toInt==(0:Int)) (NG a1_1 1 2<|NE (a1_1.ix (1:Int))<|.call 95 [.ref 0 0,.agg [VS (((a1_1.ix (1:Int)).getD 0 .any).toStr),((a1_1.ix (1:Int)).getD 1 .any)],VI (IntKind.wrap .i64 (a2-1))] [.cells [((o2.hO).cs.getD 0 .any),VI (((o2.hO).cs.getD 1 .any).toInt)]] fun r24 o24=>.aj ((o24.hO)=.cells (o24.hO).cs)<|.aj (aM [.lk .sl,.lk (.int .i64)] ((o24.hO).cs) 0 1 o24.tail)<|NA r24<|.call 61 [VS (mk [108]),.sl [[VS ((r24.cs.getD 0 .any).toStr),(r24.cs.getD 1 .any)]]] [] fun r25 o25=>NA r25<|.done 0 [.agg [VS ((r25.cs.getD 0 .any).toStr),(r25.cs.getD 1 .any)]] [.cells [((o24.hO).cs.getD 0 .any),VI (((o24.hO).cs.getD 1 .any).toInt)]]) (NG a1_1 2 2<|NE (a1_1.ix (2:Int))<|.call 95 [.ref 0 0,.agg [VS (((a1_1.ix (2:Int)).getD 0 .any).toStr),((a1_1.ix (2:Int)).getD 1 .any)],VI (IntKind.wrap .i64 (a2-1))] [.cells [((o2.hO).cs.getD 0 .any),VI (((o2.hO).cs.getD 1 .any).toInt)]] fun r26 o26=>.aj ((o26.hO)=.cells (o26.hO).cs)<|.aj (aM [.lk .sl,.lk (.int .i64)] ((o26.hO).cs) 0 1 o26.tail)<|NA r26<|.call 61 [VS (mk [114]),.sl [[VS ((r26.cs.getD 0 .any).toStr),(r26.cs.getD 1 .any)]]] [] fun r27 o27=>NA r27<|.done 0 [.agg [VS ((r27.cs.getD 0 .any).toStr),(r27.cs.getD 1 .any)]] [.cells [((o26.hO).cs.getD 0 .any),VI (((o26.hO).cs.getD 1 .any).toInt)]]))))) (NG a1_1 2 2<|NE (a1_1.ix (2:Int))<|.call 133 [.agg [VS (((a1_1.ix (2:Int)).getD 0 .any).toStr),((a1_1.ix (2:Int)).getD 1 .any)],.sl []] [] fun r28 o28=>NB r28<|.test r28.toBool (.test ((0:Int)==(0:Int)) (NG a1_1 1 2<|NE (a1_1.ix (1:Int))<|.call 95 [.ref 0 0,.agg [VS (((a1_1.ix (1:Int)).getD 0 .any).toStr),((a1_1.ix (1:Int)).getD 1 .any)],VI (IntKind.wrap .i64 (a2-1))] [.cells [((o2.hO).cs.getD 0 .any),VI (((o2.hO).cs.getD 1 .any).toInt)]] fun r29 o29=>.aj ((o29.hO)=.cells (o29.hO).cs)<|.aj (aM [.lk .sl,.lk (.int .i64)] ((o29.hO).cs) 0 1 o29.tail)<|NA r29<|.call 61 [VS (mk [108]),.sl [[VS ((r29.cs.getD 0 .any).toStr),(r29.cs.getD 1 .any)]]] [] fun r30 o30=>NA r30<|.done 0 [.agg [VS ((r30.cs.getD 0 .any).toStr),(r30.cs.getD 1 .any)]] [.cells [((o29.hO).cs.getD 0 .any),VI (((o29.hO).cs.getD 1 .any).toInt)]]) (NG a1_1 2 2<|NE (a1_1.ix (2:Int))<|.call 95 [.ref 0 0,.agg [VS (((a1_1.ix (2:Int)).getD 0 .any).toStr),((a1_1.ix (2:Int)).getD 1 .any)],VI (IntKind.wrap .i64 (a2-1))] [.cells [((o2.hO).cs.getD 0 .any),VI (((o2.hO).cs.getD 1 .any).toInt)]] fun r31 o31=>.aj ((o31.hO)=.cells (o31.hO).cs)<|.aj (aM [.lk .sl,.lk (.int .i64)] ((o31.hO).cs) 0 1 o31.tail)<|NA r31<|.call 61 [VS (mk [114]),.sl [[VS ((r31.cs.getD 0 .any).toStr),(r31.cs.getD 1 .any)]]] [] fun r32 o32=>NA r32<|.done 0 [.agg [VS ((r32.cs.getD 0 .any).toStr),(r32.cs.getD 1 .any)]] [.cells [((o31.hO).cs.getD 0 .any),VI (((o31.hO).cs.getD 1 .any).toInt)]])) (.test (decide (a2<=(0:Int))) (.test ((0:Int)==(0:Int)) (NG a1_1 1 2<|NE (a1_1.ix (1:Int))<|.call 95 [.ref 0 0,.agg [VS (((a1_1.ix (1:Int)).getD 0 .any).toStr),((a1_1.ix (1:Int)).getD 1 .any)],VI (IntKind.wrap .i64 (a2-1))] [.cells [((o2.hO).cs.getD 0 .any),VI (((o2.hO).cs.getD 1 .any).toInt)]] fun r33 o33=>.aj ((o33.hO)=.cells (o33.hO).cs)<|.aj (aM [.lk .sl,.lk (.int .i64)] ((o33.hO).cs) 0 1 o33.tail)<|NA r33<|.call 61 [VS (mk [108]),.sl [[VS ((r33.cs.getD 0 .any).toStr),(r33.cs.getD 1 .any)]]] [] fun r34 o34=>NA r34<|.done 0 [.agg [VS ((r34.cs.getD 0 .any).toStr),(r34.cs.getD 1 .any)]] [.cells [((o33.hO).cs.getD 0 .any),VI (((o33.hO).cs.getD 1 .any).toInt)]]) (NG a1_1 2 2<|NE (a1_1.ix (2:Int))<|.call 95 [.ref 0 0,.agg [VS (((a1_1.ix (2:Int)).getD 0 .any).toStr),((a1_1.ix (2:Int)).getD 1 .any)],VI (IntKind.wrap .i64 (a2-1))] [.cells [((o2.hO).cs.getD 0 .any),VI (((o2.hO).cs.getD 1 .any).toInt)]] fun r35 o35=>.aj ((o35.hO)=.cells (o35.hO).cs)<|.aj (aM [.lk .sl,.lk (.int .i64)] ((o35.hO).cs) 0 1 o35.tail)<|NA r35<|.call 61 [VS (mk [114]),.sl [[VS ((r35.cs.getD 0 .any).toStr),(r35.cs.getD 1 .any)]]] [] fun r36 o36=>NA r36<|.done 0 [.agg [VS ((r36.cs.getD 0 .any).toStr),(r36.cs.getD 1 .any)]] [.cells [((o35.hO).cs.getD 0 .any),VI (((o35.hO).cs.getD 1 .any).toInt)]])) (.test (r2.toInt==(0:Int)) (NG a1_1 1 2<|NE (a1_1.ix (1:Int))<|.call 95 [.ref 0 0,.agg [VS (((a1_1.ix (1:Int)).getD 0 .any).toStr),((a1_1.ix (1:Int)).getD 1 .any)],VI (IntKind.wrap .i64 (a2-1))] [.cells [((o2.hO).cs.getD 0 .any),VI (((o2.hO).cs.getD 1 .any).toInt)]] fun r37 o37=>.aj ((o37.hO)=.cells (o37.hO).cs)<|.aj (aM [.lk .sl,.lk (.int .i64)] ((o37.hO).cs) 0 1 o37.tail)<|NA r37<|.call 61 [VS (mk [108]),.sl [[VS ((r37.cs.getD 0 .any).toStr),(r37.cs.getD 1 .any)]]] [] fun r38 o38=>NA r38<|.done 0 [.agg [VS ((r38.cs.getD 0 .any).toStr),(r38.cs.getD 1 .any)]] [.cells [((o37.hO).cs.getD 0 .any),VI (((o37.hO).cs.getD 1 .any).toInt)]]) (NG a1_1 2 2<|NE (a1_1.ix (2:Int))<|.call 95 [.ref 0 0,.agg [VS (((a1_1.ix (2:Int)).getD 0 .any).toStr),((a1_1.ix (2:Int)).getD 1 .any)],VI (IntKind.wrap .i64 (a2-1))] [.cells [((o2.hO).cs.getD 0 .any),VI (((o2.hO).cs.getD 1 .any).toInt)]] fun r39 o39=>.aj ((o39.hO)=.cells (o39.hO).cs)<|.aj (aM [.lk .sl,.lk (.int .i64)] ((o39.hO).cs) 0 1 o39.tail)<|NA r39<|.call 61 [VS (mk [114]),.sl [[VS ((r39.cs.getD 0 .any).toStr),(r39.cs.getD 1 .any)]]] [] fun r40 o40=>NA r40<|.done 0 [.agg [VS ((r40.cs.getD 0 .any).toStr),(r40.cs.getD 1 .any)]] [.cells [((o39.hO).cs.getD 0 .any),VI (((o39.hO).cs.getD 1 .any).toInt)]]))))) (NG a1_1 2 2<|NE (a1_1.ix (2:Int))<|.call 133 [.agg [VS (((a1_1.ix (2:Int)).getD 0 .any).toStr),((a1_1.ix (2:Int)).getD 1 .any)],.sl []] [] fun r41 o41=>NB r41<|.test r41.toBool (.test ((0:Int)==(0:Int)) (NG a1_1 1 2<|NE (a1_1.ix (1:Int))<|.call 95 [.ref 0 0,.agg [VS (((a1_1.ix (1:Int)).getD 0 .any).toStr),((a1_1.ix (1:Int)).getD 1 .any)],VI (IntKind.wrap .i64 (a2-1))] [.cells [((o2.hO).cs.getD 0 .any),VI (((o2.hO).cs.getD 1 .any).toInt)]] fun r42 o42=>.aj ((o42.hO)=.cells (o42.hO).cs)<|.aj (aM [.lk .sl,.lk (.int .i64)] ((o42.hO).cs) 0 1 o42.tail)<|NA r42<|.call 61 [VS (mk [108]),.sl [[VS ((r42.cs.getD 0 .any).toStr),(r42.cs.getD 1 .any)]]] [] fun r43 o43=>NA r43<|.done 0 [.agg [VS ((r43.cs.getD 0 .any).toStr),(r43.cs.getD 1 .any)]] [.cells [((o42.hO).cs.getD 0 .any),VI (((o42.hO).cs.getD 1 .any).toInt)]]) (NG a1_1 2 2<|NE (a1_1.ix (2:Int))<|.call 95 [.ref 0 0,.agg [VS (((a1_1.ix (2:Int)).getD 0 .any).toStr),((a1_1.ix (2:Int)).getD 1 .any)],VI (IntKind.wrap .i64 (a2-1))] [.cells [((o2.hO).cs.getD 0 .any),VI (((o2.hO).cs.getD 1 .any).toInt)]] fun r44 o44=>.aj ((o44.hO)=.cells (o44.hO).cs)<|.aj (aM [.lk .sl,.lk (.int .i64)] ((o44.hO).cs) 0 1 o44.tail)<|NA r44<|.call 61 [VS (mk [114]),.sl [[VS ((r44.cs.getD 0 .any).toStr),(r44.cs.getD 1 .any)]]] [] fun r45 o45=>NA r45<|.done 0 [.agg [VS ((r45.cs.getD 0 .any).toStr),(r45.cs.getD 1 .any)]] [.cells [((o44.hO).cs.getD 0 .any),VI (((o44.hO).cs.getD 1 .any).toInt)]])) (.test (decide (a2<=(0:Int))) (.test ((0:Int)==(0:Int)) (NG a1_1 1 2<|NE (a1_1.ix (1:Int))<|.call 95 [.ref 0 0,.agg [VS (((a1_1.ix (1:Int)).getD 0 .any).toStr),((a1_1.ix (1:Int)).getD 1 .any)],VI (IntKind.wrap .i64 (a2-1))] [.cells [((o2.hO).cs.getD 0 .any),VI (((o2.hO).cs.getD 1 .any).toInt)]] fun r46 o46=>.aj ((o46.hO)=.cells (o46.hO).cs)<|.aj (aM [.lk .sl,.lk (.int .i64)] ((o46.hO).cs) 0 1 o46.tail)<|NA r46<|.call 61 [VS (mk [108]),.sl [[VS ((r46.cs.getD 0 .any).toStr),(r46.cs.getD 1 .any)]]] [] fun r47 o47=>NA r47<|.done 0 [.agg [VS ((r47.cs.getD 0 .any).toStr),(r47.cs.getD 1 .any)]] [.cells [((o46.hO).cs.getD 0 .any),VI (((o46.hO).cs.getD 1 .any).toInt)]]) (NG a1_1 2 2<|NE (a1_1.ix (2:Int))<|.call 95 [.ref 0 0,.agg [VS (((a1_1.ix (2:Int)).getD 0 .any).toStr),((a1_1.ix (2:Int)).getD 1 .any)],VI (IntKind.wrap .i64 (a2-1))] [.cells [((o2.hO).cs.getD 0 .any),VI (((o2.hO).cs.getD 1 .any).toInt)]] fun r48 o48=>.aj ((o48.hO)=.cells (o48.hO).cs)<|.aj (aM [.lk .sl,.lk (.int .i64)] ((o48.hO).cs) 0 1 o48.tail)<|NA r48<|.call 61 [VS (mk [114]),.sl [[VS ((r48.cs.getD 0 .any).toStr),(r48.cs.getD 1 .any)]]] [] fun r49 o49=>NA r49<|.done 0 [.agg [VS ((r49.cs.getD 0 .any).toStr),(r49.cs.getD 1 .any)]] [.cells [((o48.hO).cs.getD 0 .any),VI (((o48.hO).cs.getD 1 .any).toInt)]])) (.test (r2.toInt==(0:Int)) (NG a1_1 1 2<|NE (a1_1.ix (1:Int))<|.call 95 [.ref 0 0,.agg [VS (((a1_1.ix (1:Int)).getD 0 .any).toStr),((a1_1.ix (1:Int)).getD 1 .any)],VI (IntKind.wrap .i64 (a2-1))] [.cells [((o2.hO).cs.getD 0 .any),VI (((o2.hO).cs.getD 1 .any).toInt)]] fun r50 o50=>.aj ((o50.hO)=.cells (o50.hO).cs)<|.aj (aM [.lk .sl,.lk (.int .i64)] ((o50.hO).cs) 0 1 o50.tail)<|NA r50<|.call 61 [VS (mk [108]),.sl [[VS ((r50.cs.getD 0 .any).toStr),(r50.cs.getD 1 .any)]]] [] fun r51 o51=>NA r51<|.done 0 [.agg [VS ((r51.cs.getD 0 .any).toStr),(r51.cs.getD 1 .any)]] [.cells [((o50.hO).cs.getD 0 .any),VI (((o50.hO).cs.getD 1 .any).toInt)]]) (NG a1_1 2 2<|NE (a1_1.ix (2:Int))<|.call 95 [.ref 0 0,.agg [VS (((a1_1.ix (2:Int)).getD 0 .any).toStr),((a1_1.ix (2:Int)).getD 1 .any)],VI (IntKind.wrap .i64 (a2-1))] [.cells [((o2.hO).cs.getD 0 .any),VI (((o2.hO).cs.getD 1 .any).toInt)]] fun r52 o52=>.aj ((o52.hO)=.cells (o52.hO).cs)<|.aj (aM [.lk .sl,.lk (.int .i64)] ((o52.hO).cs) 0 1 o52.tail)<|NA r52<|.call 61 [VS (mk [114]),.sl [[VS ((r52.cs.getD 0 .any).toStr),(r52.cs.getD 1 .any)]]] [] fun r53 o53=>NA r53<|.done 0 [.agg [VS ((r53.cs.getD 0 .any).toStr),(r53.cs.getD 1 .any)]] [.cells [((o52.hO).cs.getD 0 .any),VI (((o52.hO).cs.getD 1 .any).toInt)]])))))) (.test (ag r1.toStr==ag (mk [42])) (NG a1_1 1 2<|NE (a1_1.ix (1:Int))<|.call 95 [.ref 0 0,.agg [VS (((a1_1.ix (1:Int)).getD 0 .any).toStr),((a1_1.ix (1:Int)).getD 1 .any)],VI (IntKind.wrap .i64 (a2-1))] [.cells [a0_0,VI a0_1]] fun r54 o54=>.aj ((o54.hO)=.cells (o54.hO).cs)<|.aj (aM [.lk .sl,.lk (.int .i64)] ((o54.hO).cs) 0 1 o54.tail)<|NA r54<|NG a1_1 2 2<|NE (a1_1.ix (2:Int))<|.call 95 [.ref 0 0,.agg [VS (((a1_1.ix (2:Int)).getD 0 .any).toStr),((a1_1.ix (2:Int)).getD 1 .any)],VI (IntKind.wrap .i64 (a2-1))] [.cells [((o54.hO).cs.getD 0 .any),VI (((o54.hO).cs.getD 1 .any).toInt)]] fun r55 o55=>.aj ((o55.hO)=.cells (o55.hO).cs)<|.aj (aM [.lk .sl,.lk (.int .i64)] ((o55.hO).cs) 0 1 o55.tail)<|NA r55<|.call 61 [VS (mk [112]),.sl [[VS ((r54.cs.getD 0 .any).toStr),(r54.cs.getD 1 .any)],[VS ((r55.cs.getD 0 .any).toStr),(r55.cs.getD 1 .any)]]] [] fun r56 o56=>NA r56<|.done 0 [.agg [VS ((r56.cs.getD 0 .any).toStr),(r56.cs.getD 1 .any)]] [.cells [((o55.hO).cs.getD 0 .any),VI (((o55.hO).cs.getD 1 .any).toInt)]]) (.test (ag r1.toStr==ag (mk [114,101,99])) (.call 135 [.agg [VS a1_0,a1_1]] [] fun r57 o57=>NT r57<|.aj ((r57.comp 0)=.agg (r57.comp 0).cs/\(r57.comp 0).cs.length=2/\bO [.str,.sl] ((r57.comp 0).cs) 0)<|NB (r57.comp 1)<|.test (!((r57.comp 1).toBool)) (.done 0 [.agg [VS (mk [117]),.v (.slice none 0 0)]] [.cells [a0_0,VI a0_1]]) (.test (decide (a2<((-12):Int))) (.done 0 [.agg [VS (mk [117]),.v (.slice none 0 0)]] [.cells [a0_0,VI a0_1]]) (.call 95 [.ref 0 0,.agg [VS (((r57.comp 0).cs.getD 0 .any).toStr),((r57.comp 0).cs.getD 1 .any)],VI (IntKind.wrap .i64 (a2-1))] [.cells [a0_0,VI a0_1]] fun r58 o58=>.aj ((o58.hO)=.cells (o58.hO).cs)<|.aj (aM [.lk .sl,.lk (.int .i64)] ((o58.hO).cs) 0 1 o58.tail)<|NA r58<|.call 61 [VS (mk [102]),.sl [[VS ((r58.cs.getD 0 .any).toStr),(r58.cs.getD 1 .any)]]] [] fun r59 o59=>NA r59<|.done 0 [.agg [VS ((r59.cs.getD 0 .any).toStr),(r59.cs.getD 1 .any)]] [.cells [((o58.hO).cs.getD 0 .any),VI (((o58.hO).cs.getD 1 .any).toInt)]]))) (.test (ag a1_0==ag (mk [49])) (.done 0 [.agg [VS (mk [117]),.v (.slice none 0 0)]] [.cells [a0_0,VI a0_1]]) (.call 45 [.ref 0 0,VI 3] [.cells [a0_0,VI a0_1]] fun r60 o60=>.aj ((o60.hO)=.cells (o60.hO).cs)<|.aj (aM [.lk .sl,.lk (.int .i64)] ((o60.hO).cs) 0 1 o60.tail)<|NI r60<|.call 136 [VI r60.toInt] [] fun r61 o61=>NS r61<|.aj (ae (mk [101])+ae r61.toStr<=9223372036854775807)<|.done 0 [.agg [VS (((mk [101]):ByteArray)++r61.toStr),.v (.slice none 0 0)]] [.cells [((o60.hO).cs.getD 0 .any),VI (((o60.hO).cs.getD 1 .any).toInt)]]))))
theorem Bz(a0_0:AV)(a0_1:Int)(a1_0:ByteArray)(a1_1:AV)(a2:Int)(ha1_1:LK.has .sl a1_1)(ha0_0:LK.has .sl a0_0)(h:du 132 (zH a0_0 a0_1 a1_0 a1_1 a2) R):aq Tryz.prog 95 [.ref 0 0,.agg [VS a1_0,a1_1],VI a2] [.cells [a0_0,VI a0_1]] R :=
 aq.nM (bo (bX (ah (cb ha0_0) (ah (aC _) aF))) cu) (aq.up (ah (aC _) (ah (cL (ah (aC _) (ah (cb ha1_1) aF))) (ah (aC _) aF))) (oF [] {mu:=[(0,.one (.obj [.lk .sl,.lk (.int .i64)]))],own:=[]} Tryz.f95 h))
def D4:LI:={hd:={bZ:=[(1,.k .sl),(6,.k (.int .i64))],refs:=[(2,2),(4,4)],cj:=[(2,[.lk .str,.lk .sl]),(4,[.lk .str,.lk .sl])],eH:=[(5,1)]},xs:={refs:=[(2,2),(4,4)],cj:=[(2,[.lk .str,.lk .sl]),(4,[.lk .str,.lk .sl])],eH:=[(5,1)]},rt:={},ex:=0}
def IJ:Code:=cN (cF Tryz.f96) 3
def Jj:List (Nat×LI):=[(3,D4)]
def Io(a0_0:ByteArray)(a0_1:AV)(a1:AV):Tree :=
 .call 98 [.agg [VS a0_0,a0_1],.sl [],.vec 0] [.vec 1 []] fun r1 o1=>.aj (r1=.vec 1/\(o1.tail.hO)=.vec 1 (o1.tail.hO).es)<|.loop IJ D4 [a1,VI 0] [.cells [VS a0_0,a0_1],.cells [VS (mk []),.v (.slice none 0 0)],.vec 1 ((o1.tail.hO).es)] (fun y3 q3=>.aj ((q3.hO)=.cells (q3.hO).cs)<|.aj (af [.lk .str,.lk .sl] ((q3.hO).cs) 0 q3.tail)<|.aj (((q3.tail.drop 0).hO)=.cells ((q3.tail.drop 0).hO).cs)<|.aj (af [.lk .str,.lk .sl] (((q3.tail.drop 0).hO).cs) 0 ((q3.tail.drop 0).tail))<|.aj (((q3.drop 2).hO)=.vec 1 ((q3.drop 2).hO).es)<|.call 137 [.agg [VS (((q3.hO).cs.getD 0 .any).toStr),((q3.hO).cs.getD 1 .any)],.sl [],.sl [],.ref 0 0] [.cells [.vec 1,VI 0],.vec 1 ((q3.tail.tail.hO).es)] fun r4 o4=>.aj ((o4.hO)=.cells (o4.hO).cs)<|.aj (aM [.vec 1,.lk (.int .i64)] ((o4.hO).cs) 0 1 o4.tail)<|NA r4<|.done 0 [.agg [VS ((r4.cs.getD 0 .any).toStr),(r4.cs.getD 1 .any)]] []) (fun y3 q3=>.fail)
theorem Nl(a0_0:ByteArray)(a0_1:AV)(a1:AV)(ha0_1:LK.has .sl a0_1)(ha1:LK.has .sl a1)(h:du 33 (Io a0_0 a0_1 a1) R):aq Tryz.prog 96 [.agg [VS a0_0,a0_1],a1] [] R :=
 uQ (ah (cL (ah (aC _) (ah (cb ha0_1) aF))) (ah (cb ha1) aF)) (oQ Jj Tryz.f96 h)
def D2(x1:AV)(x6:Int)(o2_0:ByteArray)(o2_1:AV)(o4_0:ByteArray)(o4_1:AV)(e5:List (List AV)):Tree :=
 NL x1<|NI (VI x6)<|.aj (Ob.cells [VS o2_0,o2_1]=.cells [VS o2_0,o2_1])<|.aj (af [.lk .str,.lk .sl] [VS o2_0,o2_1] 0 [.cells [VS o4_0,o4_1],.vec 1 e5])<|.aj (Ob.cells [VS o4_0,o4_1]=.cells [VS o4_0,o4_1])<|.aj (af [.lk .str,.lk .sl] [VS o4_0,o4_1] 0 [.vec 1 e5])<|.aj (Ob.vec 1 e5=.vec 1 e5)<|NL x1<|.test (decide (x6<(x1.elems.length:Int))) (NG x1 x6 2<|NE (x1.ix x6)<|.call 98 [.agg [VS (((x1.ix x6).getD 0 .any).toStr),((x1.ix x6).getD 1 .any)],.sl [],.vec 0] [.vec 1 []] fun r1 o1=>.aj (r1=.vec 1/\(o1.tail.hO)=.vec 1 (o1.tail.hO).es)<|.aj (cx 1 ((o1.tail.hO).es)/\((e5.length)+((o1.tail.hO).es).length)*16<=140737488355328)<|.done 0 [x1,VI (IntKind.wrap .i64 (x6+1))] [.cells [VS o2_0,o2_1],.cells [VS o4_0,o4_1],.vec 1 (e5++((o1.tail.hO).es))]) (.done 1 [] [.cells [VS o2_0,o2_1],.cells [VS o4_0,o4_1],.vec 1 e5])
abbrev GC:=cA Tryz.prog 33 IJ D4
theorem GS(x1:AV)(x6:Int)(o2_0:ByteArray)(o2_1:AV)(o4_0:ByteArray)(o4_1:AV)(e5:List (List AV))(h:lM 33 (D2 x1 x6 o2_0 o2_1 o4_0 o4_1 e5) GC U):GC [x1,VI x6] [.cells [VS o2_0,o2_1],.cells [VS o4_0,o4_1],.vec 1 e5] U :=
 gQ Jj h
def Jo(a0:ByteArray):Tree :=
 .call 57 [VS a0] [] fun r1 o1=>NT r1<|.aj ((r1.comp 0)=.agg (r1.comp 0).cs/\(r1.comp 0).cs.length=2/\bO [.str,.sl] ((r1.comp 0).cs) 0)<|NB (r1.comp 1)<|.test ((r1.comp 1).toBool) (.call 138 [.agg [VS (((r1.comp 0).cs.getD 0 .any).toStr),((r1.comp 0).cs.getD 1 .any)]] [] fun r2 o2=>NB r2<|.test r2.toBool (.call 134 [.agg [VS (((r1.comp 0).cs.getD 0 .any).toStr),((r1.comp 0).cs.getD 1 .any)]] [] fun r3 o3=>NI r3<|.done 0 [.cW [.agg [VS (((r1.comp 0).cs.getD 0 .any).toStr),((r1.comp 0).cs.getD 1 .any)],VB (decide (r3.toInt<=(400:Int)))]] []) (.done 0 [.cW [.agg [VS (((r1.comp 0).cs.getD 0 .any).toStr),((r1.comp 0).cs.getD 1 .any)],VB false]] [])) (.done 0 [.cW [.agg [VS (((r1.comp 0).cs.getD 0 .any).toStr),((r1.comp 0).cs.getD 1 .any)],VB false]] [])
theorem NW(a0:ByteArray)(h:du 22 (Jo a0) R):aq Tryz.prog 97 [VS a0] [] R :=
 uQ (ah (aC _) aF) (oQ [] Tryz.f97 h)
def vW(a0_0:ByteArray)(a0_1:AV)(a1:AV)(e2:List (List AV)):Tree :=
 .test (!(ag a0_0==ag (mk []))) (.test (ag a0_0==ag (mk [48])) (.done 0 [.vec 1] [.dead,.vec 1 e2]) (.test (ag a0_0==ag (mk [49])) (.done 0 [.vec 1] [.dead,.vec 1 e2]) (.call 139 [a1,VS a0_0] [] fun r1 o1=>NB r1<|.test r1.toBool (.done 0 [.vec 1] [.dead,.vec 1 e2]) (.call 139 [.sl e2,VS a0_0] [] fun r2 o2=>NB r2<|.test r2.toBool (.done 0 [.vec 1] [.dead,.vec 1 e2]) (.aj (cx 1 [[VS a0_0]]/\((e2.length)+([[VS a0_0]]:List (List AV)).length)*16<=140737488355328)<|.done 0 [.vec 1] [.dead,.vec 1 (e2++([[VS a0_0]]:List (List AV)))]))))) (.call 54 [.agg [VS a0_0,a0_1]] [] fun r3 o3=>NS r3<|.test (ag r3.toStr==ag (mk [114,101,99])) (NG a0_1 2 2<|NE (a0_1.ix (2:Int))<|NG a0_1 1 2<|mc (a0_1.ix (1:Int))<|.call 129 [a1,VS (((a0_1.ix (1:Int)).hA).toStr)] [] fun r4 o4=>.aj (r4=.vec 0/\(o4.hO)=.vec 1 (o4.hO).es)<|.aj (∀x,x∈o4->jn x)<|.call 98 [.agg [VS (((a0_1.ix (2:Int)).getD 0 .any).toStr),((a0_1.ix (2:Int)).getD 1 .any)],.sl ((o4.hO).es),.vec 0] [.vec 1 e2] fun r5 o5=>.aj (r5=.vec 1/\(o5.tail.hO)=.vec 1 (o5.tail.hO).es)<|.done 0 [.vec 1] [.dead,.vec 1 ((o5.tail.hO).es)]) (NG a0_1 2 2<|NE (a0_1.ix (2:Int))<|NG a0_1 1 2<|NE (a0_1.ix (1:Int))<|.call 98 [.agg [VS (((a0_1.ix (1:Int)).getD 0 .any).toStr),((a0_1.ix (1:Int)).getD 1 .any)],a1,.vec 0] [.vec 1 e2] fun r6 o6=>.aj (r6=.vec 1/\(o6.tail.hO)=.vec 1 (o6.tail.hO).es)<|.call 98 [.agg [VS (((a0_1.ix (2:Int)).getD 0 .any).toStr),((a0_1.ix (2:Int)).getD 1 .any)],a1,.vec 0] [.vec 1 ((o6.tail.hO).es)] fun r7 o7=>.aj (r7=.vec 1/\(o7.tail.hO)=.vec 1 (o7.tail.hO).es)<|.done 0 [.vec 1] [.dead,.vec 1 ((o7.tail.hO).es)]))
theorem ym(a0_0:ByteArray)(a0_1:AV)(a1:AV)(e2:List (List AV))(ha0_1:LK.has .sl a0_1)(ha1:LK.has .sl a1)(h:du 65 (vW a0_0 a0_1 a1 e2) R):aq Tryz.prog 98 [.agg [VS a0_0,a0_1],a1,.vec 0] [.vec 1 e2] R :=
 aq.nM (bo (fY _) cu) (aq.up (ah (cL (ah (aC _) (ah (cb ha0_1) aF))) (ah (cb ha1) (ah (aC _) aF))) (oF [] {mu:=[(2,.one (.vec))],own:=[0]} Tryz.f98 h))
def HZ(a0:ByteArray):Tree :=
 .call 140 [VS a0,.v (.int .u8 116),.v (.int .u8 116)] [] fun r1 o1=>NB r1<|.done 0 [VB r1.toBool] []
theorem M8(a0:ByteArray)(h:du 5 (HZ a0) R):aq Tryz.prog 99 [VS a0] [] R :=
 uQ (ah (aC _) aF) (oQ [] Tryz.f99 h)
def DQ:LI:={hd:={bZ:=[(1,.k .sl),(6,.k (.int .i64))],refs:=[(2,2),(4,4)],cj:=[(2,[.lk .str,.lk .sl]),(4,[.lk .str,.lk .sl])]},xs:={bZ:=[(1,.k .sl)],refs:=[(2,2),(4,4)],cj:=[(2,[.lk .str,.lk .sl]),(4,[.lk .str,.lk .sl])]},rt:={bZ:=[(5,.k .sl)],refs:=[(4,4)],cj:=[(4,[.lk .str,.lk .sl])]},ex:=0}
def Jb:Code:=cN (cF Tryz.f100) 2
def Ha:List (Nat×LI):=[(2,DQ)]
def J4(a0_0:ByteArray)(a0_1:AV)(a1:AV):Tree :=
 NL a1<|.loop Jb DQ [a1,VI (IntKind.wrap .i64 ((a1.elems.length:Int)-1))] [.cells [VS a0_0,a0_1],.cells [VS (mk []),.v (.slice none 0 0)]] (fun y1 q1=>NL (y1.hA)<|.aj ((q1.hO)=.cells (q1.hO).cs)<|.aj (af [.lk .str,.lk .sl] ((q1.hO).cs) 0 q1.tail)<|.aj (((q1.tail.drop 0).hO)=.cells ((q1.tail.drop 0).hO).cs)<|.aj (af [.lk .str,.lk .sl] (((q1.tail.drop 0).hO).cs) 0 ((q1.tail.drop 0).tail))<|.done 0 [.cW [.agg [VS (((q1.hO).cs.getD 0 .any).toStr),((q1.hO).cs.getD 1 .any)],(y1.hA)]] []) (fun y1 q1=>NL (y1.hA)<|.aj ((q1.hO)=.cells (q1.hO).cs)<|.aj (af [.lk .str,.lk .sl] ((q1.hO).cs) 0 q1.tail)<|.done 0 [.cW [.agg [VS (((q1.hO).cs.getD 0 .any).toStr),((q1.hO).cs.getD 1 .any)],(y1.hA)]] [])
theorem Pb(a0_0:ByteArray)(a0_1:AV)(a1:AV)(ha0_1:LK.has .sl a0_1)(ha1:LK.has .sl a1)(h:du 34 (J4 a0_0 a0_1 a1) R):aq Tryz.prog 100 [.agg [VS a0_0,a0_1],a1] [] R :=
 uQ (ah (cL (ah (aC _) (ah (cb ha0_1) aF))) (ah (cb ha1) aF)) (oQ Ha Tryz.f100 h)
def Gq(x1:AV)(x6:Int)(o2_0:ByteArray)(o2_1:AV)(o4_0:ByteArray)(o4_1:AV):Tree :=
 NL x1<|NI (VI x6)<|.aj (Ob.cells [VS o2_0,o2_1]=.cells [VS o2_0,o2_1])<|.aj (af [.lk .str,.lk .sl] [VS o2_0,o2_1] 0 [.cells [VS o4_0,o4_1]])<|.aj (Ob.cells [VS o4_0,o4_1]=.cells [VS o4_0,o4_1])<|.aj (af [.lk .str,.lk .sl] [VS o4_0,o4_1] 0 [])<|.test (decide (x6≥(0:Int))) (NG x1 x6 4<|mc (x1.ix x6)<|.test (ag (((x1.ix x6).hA).toStr)==ag o2_0) (NG x1 x6 4<|NE ((x1.ix x6).drop 1)<|NG x1 x6 4<|rk ((x1.ix x6).drop 3)<|.done 2 [(((x1.ix x6).drop 3).hA)] [.cells [VS ((((x1.ix x6).drop 1).getD 0 .any).toStr),(((x1.ix x6).drop 1).getD 1 .any)]]) (.done 0 [x1,VI (IntKind.wrap .i64 (x6-1))] [.cells [VS o2_0,o2_1],.cells [VS o4_0,o4_1]])) (.done 1 [x1] [.cells [VS o2_0,o2_1],.cells [VS o4_0,o4_1]])
abbrev Ed:=cA Tryz.prog 34 Jb DQ
theorem I4(x1:AV)(x6:Int)(o2_0:ByteArray)(o2_1:AV)(o4_0:ByteArray)(o4_1:AV)(h:lM 34 (Gq x1 x6 o2_0 o2_1 o4_0 o4_1) Ed U):Ed [x1,VI x6] [.cells [VS o2_0,o2_1],.cells [VS o4_0,o4_1]] U :=
 gQ Ha h
def J1(a0:ByteArray):Tree :=
 .call 140 [VS a0,.v (.int .u8 120),.v (.int .u8 122)] [] fun r1 o1=>NB r1<|.done 0 [VB r1.toBool] []
theorem OB(a0:ByteArray)(h:du 5 (J1 a0) R):aq Tryz.prog 101 [VS a0] [] R :=
 uQ (ah (aC _) aF) (oQ [] Tryz.f101 h)
def y0:LI:={hd:={bZ:=[(0,.k .str),(3,.k (.int .i64)),(4,.k (.int .i64))]},xs:={bZ:=[(3,.k (.int .i64))]},rt:={bZ:=[(2,.k (.int .i64))]},ex:=0}
def Cg:Code:=cN (cF Tryz.f102) 5
def IQ:List (Nat×LI):=[(5,y0)]
def HL(a0:ByteArray):Tree :=
 .call 55 [VI (ae a0:Int),VI 2,VI 3] [] fun r1 o1=>NB r1<|.test (!r1.toBool) (.done 0 [VI (-1)] []) (.aj (0<=(0:Int)/\(0:Int)<ae a0)<|.test ((bt a0 0) != (101:Int)) (.done 0 [VI (-1)] []) (.test ((ae a0:Int)==(3:Int)) (.aj (0<=(1:Int)/\(1:Int)<ae a0)<|.test ((bt a0 1)==(48:Int)) (.done 0 [VI (-1)] []) (.loop Cg y0 [VS a0,VI 0,VI 1] [] (fun y2 q2=>NI (y2.hA)<|.done 0 [VI ((y2.hA).toInt)] []) (fun y2 q2=>NI (y2.hA)<|.done 0 [VI ((y2.hA).toInt)] []))) (.loop Cg y0 [VS a0,VI 0,VI 1] [] (fun y3 q3=>NI (y3.hA)<|.done 0 [VI ((y3.hA).toInt)] []) (fun y3 q3=>NI (y3.hA)<|.done 0 [VI ((y3.hA).toInt)] []))))
theorem Nt(a0:ByteArray)(h:du 49 (HL a0) R):aq Tryz.prog 102 [VS a0] [] R :=
 uQ (ah (aC _) aF) (oQ IQ Tryz.f102 h)
def Fq(x0:ByteArray)(x3:Int)(x4:Int):Tree :=
 NS (VS x0)<|NI (VI x3)<|NI (VI x4)<|.test (decide (x4<(ae x0:Int))) (.aj (0<=x4/\x4<ae x0)<|.test (decide ((bt x0 x4)<(48:Int))) (.done 2 [VI (-1)] []) (.aj (0<=x4/\x4<ae x0)<|.test (decide ((bt x0 x4)>(57:Int))) (.done 2 [VI (-1)] []) (.aj (0<=x4/\x4<ae x0)<|.done 0 [VS x0,VI (IntKind.wrap .i64 ((IntKind.wrap .i64 (10*x3))+(IntKind.wrap .i64 (IntKind.wrap .u8 ((bt x0 x4)-48))))),VI (IntKind.wrap .i64 (x4+1))] []))) (.done 1 [VI x3] [])
abbrev ET:=cA Tryz.prog 49 Cg y0
theorem Kl(x0:ByteArray)(x3:Int)(x4:Int)(h:lM 49 (Fq x0 x3 x4) ET U):ET [VS x0,VI x3,VI x4] [] U :=
 gQ IQ h
def I0(a0_0:ByteArray)(a0_1:AV)(a1:AV):Tree :=
 NG a0_1 2 2<|NE (a0_1.ix (2:Int))<|.aj (LK.has .sl a1/\cx 4 a1.elems/\((([]:List (List AV)).length)+a1.elems.length)*80<=140737488355328)<|NG a0_1 1 2<|mc (a0_1.ix (1:Int))<|.aj (cx 4 [[VS (((a0_1.ix (1:Int)).hA).toStr),VS a0_0,a0_1,a1]]/\(((([]:List (List AV))++a1.elems).length)+([[VS (((a0_1.ix (1:Int)).hA).toStr),VS a0_0,a0_1,a1]]:List (List AV)).length)*80<=140737488355328)<|.done 0 [.cW [.agg [VS (((a0_1.ix (2:Int)).getD 0 .any).toStr),((a0_1.ix (2:Int)).getD 1 .any)],.sl ((([]:List (List AV))++a1.elems)++([[VS (((a0_1.ix (1:Int)).hA).toStr),VS a0_0,a0_1,a1]]:List (List AV)))]] []
theorem OR(a0_0:ByteArray)(a0_1:AV)(a1:AV)(ha0_1:LK.has .sl a0_1)(ha1:LK.has .sl a1)(h:du 23 (I0 a0_0 a0_1 a1) R):aq Tryz.prog 103 [.agg [VS a0_0,a0_1],a1] [] R :=
 uQ (ah (cL (ah (aC _) (ah (cb ha0_1) aF))) (ah (cb ha1) aF)) (oQ [] Tryz.f103 h)
def D9:LI:={hd:={bZ:=[(0,.k .str),(1,.k (.int .i64)),(9,.k (.int .i64))],refs:=[(6,6),(8,8)],cj:=[(6,[.lk .str,.lk .sl]),(8,[.lk .str,.lk .sl])]},xs:={bZ:=[(0,.k .str),(1,.k (.int .i64)),(9,.k (.int .i64))],refs:=[(6,6),(8,8)],cj:=[(6,[.lk .str,.lk .sl]),(8,[.lk .str,.lk .sl])]},rt:={},ex:=0}
def IL:Code:=cN (cF Tryz.f104) 6
def Eh:LI:={hd:={bZ:=[(0,.k .str),(1,.k (.int .i64)),(2,.k (.int .i64))],refs:=[(6,6),(8,8)],cj:=[(6,[.lk .str,.lk .sl]),(8,[.lk .str,.vec 2])]},xs:={},rt:={bZ:=[(7,.k (.int .i64))],refs:=[(6,6)],cj:=[(6,[.lk .str,.vec 2])]},ex:=999}
def JH:Code:=cN (cF Tryz.f104) 12
def EG:List (Nat×LI):=[(6,D9),(12,Eh)]
def Fm(a0:ByteArray)(a1:Int)(a2:Int):Tree :=
 .test (decide (a2>(300:Int))) (.done 0 [.cW [.agg [VS (mk []),.v (.slice none 0 0)],VI (-1)]] []) (.test (decide (a1≥(ae a0:Int))) (.done 0 [.cW [.agg [VS (mk []),.v (.slice none 0 0)],VI (-1)]] []) (.aj (0<=a1/\a1<ae a0)<|.test ((bt a0 a1) != (40:Int)) (.loop IL D9 [VS a0,VI a1,VI a1] [.cells [VS (mk []),.v (.slice none 0 0)],.cells [VS (mk []),.v (.slice none 0 0)]] (fun y2 q2=>NS (y2.hA)<|NI (y2.tail.hA)<|NI (y2.tail.tail.hA)<|.aj ((q2.hO)=.cells (q2.hO).cs)<|.aj (af [.lk .str,.lk .sl] ((q2.hO).cs) 0 q2.tail)<|.aj (((q2.tail.drop 0).hO)=.cells ((q2.tail.drop 0).hO).cs)<|.aj (af [.lk .str,.lk .sl] (((q2.tail.drop 0).hO).cs) 0 ((q2.tail.drop 0).tail))<|.aj (0<=((y2.tail.tail.hA).toInt)/\((y2.tail.tail.hA).toInt)<=((y2.tail.hA).toInt)/\((y2.tail.hA).toInt)<=(ae ((y2.hA).toStr):Int))<|.test (ag (bV ((y2.hA).toStr) (bR ((y2.tail.tail.hA).toInt)) (bR ((y2.tail.hA).toInt)))==ag (mk [])) (.done 0 [.cW [.agg [VS (bV ((y2.hA).toStr) (bR ((y2.tail.tail.hA).toInt)) (bR ((y2.tail.hA).toInt))),((q2.tail.hO).cs.getD 1 .any)],VI (-1)]] []) (.done 0 [.cW [.agg [VS (bV ((y2.hA).toStr) (bR ((y2.tail.tail.hA).toInt)) (bR ((y2.tail.hA).toInt))),((q2.tail.hO).cs.getD 1 .any)],VI ((y2.tail.hA).toInt)]] [])) (fun y2 q2=>.fail)) (.loop JH Eh [VS a0,VI a1,VI a2] [.cells [VS (mk []),.v (.slice none 0 0)],.cells [VS (mk []),.any],.vec 2 []] (fun y5 q5=>.fail) (fun y5 q5=>NI (y5.hA)<|.aj ((q5.hO)=.cells (q5.hO).cs)<|.aj (af [.lk .str,.vec 2] ((q5.hO).cs) 0 q5.tail)<|.done 0 [.cW [.agg [VS (((q5.hO).cs.getD 0 .any).toStr),.sl ((q5.tail.hO).es)],VI ((y5.hA).toInt)]] []))))
theorem Km(a0:ByteArray)(a1:Int)(a2:Int)(h:du 87 (Fm a0 a1 a2) R):aq Tryz.prog 104 [VS a0,VI a1,VI a2] [] R :=
 uQ (ah (aC _) (ah (aC _) (ah (aC _) aF))) (oQ EG Tryz.f104 h)
def Gs(x0:ByteArray)(x1:Int)(x9:Int)(o6_0:ByteArray)(o6_1:AV)(o8_0:ByteArray)(o8_1:AV):Tree :=
 NS (VS x0)<|NI (VI x1)<|NI (VI x9)<|.aj (Ob.cells [VS o6_0,o6_1]=.cells [VS o6_0,o6_1])<|.aj (af [.lk .str,.lk .sl] [VS o6_0,o6_1] 0 [.cells [VS o8_0,o8_1]])<|.aj (Ob.cells [VS o8_0,o8_1]=.cells [VS o8_0,o8_1])<|.aj (af [.lk .str,.lk .sl] [VS o8_0,o8_1] 0 [])<|.test (decide (x1<(ae x0:Int))) (.aj (0<=x1/\x1<ae x0)<|.call 141 [.v (.int .u8 (bt x0 x1))] [] fun r1 o1=>NB r1<|.test r1.toBool (.done 0 [VS x0,VI (IntKind.wrap .i64 (x1+1)),VI x9] [.cells [VS o6_0,o6_1],.cells [VS o8_0,o8_1]]) (.done 1 [VS x0,VI x1,VI x9] [.cells [VS o6_0,o6_1],.cells [VS o8_0,o8_1]])) (.done 1 [VS x0,VI x1,VI x9] [.cells [VS o6_0,o6_1],.cells [VS o8_0,o8_1]])
abbrev EM:=cA Tryz.prog 87 IL D9
theorem Jq(x0:ByteArray)(x1:Int)(x9:Int)(o6_0:ByteArray)(o6_1:AV)(o8_0:ByteArray)(o8_1:AV)(h:lM 87 (Gs x0 x1 x9 o6_0 o6_1 o8_0 o8_1) EM U):EM [VS x0,VI x1,VI x9] [.cells [VS o6_0,o6_1],.cells [VS o8_0,o8_1]] U :=
 gQ EG h
def Lv(x0:ByteArray)(x1:Int)(x2:Int)(o6_0:ByteArray)(o6_1:AV)(o8_0:ByteArray)(o8_1:List (List AV)):Tree :=
 NS (VS x0)<|NI (VI x1)<|NI (VI x2)<|.aj (Ob.cells [VS o6_0,o6_1]=.cells [VS o6_0,o6_1])<|.aj (af [.lk .str,.lk .sl] [VS o6_0,o6_1] 0 [.cells [VS o8_0,.any],.vec 2 o8_1])<|.aj (Ob.cells [VS o8_0,.any]=.cells [VS o8_0,.any])<|.aj (af [.lk .str,.vec 2] [VS o8_0,.any] 0 [.vec 2 o8_1])<|.call 104 [VS x0,VI (IntKind.wrap .i64 (x1+1)),VI (IntKind.wrap .i64 (x2+1))] [] fun r1 o1=>NT r1<|.aj ((r1.comp 0)=.agg (r1.comp 0).cs/\(r1.comp 0).cs.length=2/\bO [.str,.sl] ((r1.comp 0).cs) 0)<|NI (r1.comp 1)<|.test (decide (((r1.comp 1).toInt)<(0:Int))) (.done 2 [VI (-1)] [.cells [VS o8_0,.any],.vec 2 o8_1]) (.test (decide (((r1.comp 1).toInt)≥(ae x0:Int))) (.done 2 [VI (-1)] [.cells [VS o8_0,.any],.vec 2 o8_1]) (.aj (cx 2 [[VS (((r1.comp 0).cs.getD 0 .any).toStr),((r1.comp 0).cs.getD 1 .any)]]/\((o8_1.length)+([[VS (((r1.comp 0).cs.getD 0 .any).toStr),((r1.comp 0).cs.getD 1 .any)]]:List (List AV)).length)*40<=140737488355328)<|.aj (0<=((r1.comp 1).toInt)/\((r1.comp 1).toInt)<ae x0)<|.test ((bt x0 ((r1.comp 1).toInt))==(41:Int)) (.done 2 [VI (IntKind.wrap .i64 (((r1.comp 1).toInt)+1))] [.cells [VS o8_0,.any],.vec 2 (o8_1++([[VS (((r1.comp 0).cs.getD 0 .any).toStr),((r1.comp 0).cs.getD 1 .any)]]:List (List AV)))]) (.aj (0<=((r1.comp 1).toInt)/\((r1.comp 1).toInt)<ae x0)<|.test ((bt x0 ((r1.comp 1).toInt)) != (32:Int)) (.done 2 [VI (-1)] [.cells [VS o8_0,.any],.vec 2 (o8_1++([[VS (((r1.comp 0).cs.getD 0 .any).toStr),((r1.comp 0).cs.getD 1 .any)]]:List (List AV)))]) (.done 0 [VS x0,VI ((r1.comp 1).toInt),VI x2] [.cells [VS o6_0,o6_1],.cells [VS o8_0,.any],.vec 2 (o8_1++([[VS (((r1.comp 0).cs.getD 0 .any).toStr),((r1.comp 0).cs.getD 1 .any)]]:List (List AV)))]))))
abbrev FQ:=cA Tryz.prog 87 JH Eh
theorem MW(x0:ByteArray)(x1:Int)(x2:Int)(o6_0:ByteArray)(o6_1:AV)(o8_0:ByteArray)(o8_1:List (List AV))(h:lM 87 (Lv x0 x1 x2 o6_0 o6_1 o8_0 o8_1) FQ U):FQ [VS x0,VI x1,VI x2] [.cells [VS o6_0,o6_1],.cells [VS o8_0,.any],.vec 2 o8_1] U :=
 gQ EG h
def G9(a0_0:AV)(a0_1:Int):Tree :=
 .call 45 [.ref 0 0,VI 8] [.cells [a0_0,VI a0_1]] fun r1 o1=>.aj ((o1.hO)=.cells (o1.hO).cs)<|.aj (aM [.lk .sl,.lk (.int .i64)] ((o1.hO).cs) 0 1 o1.tail)<|NI r1<|.test (r1.toInt==(0:Int)) (.call 142 [.ref 0 0] [.cells [((o1.hO).cs.getD 0 .any),VI (((o1.hO).cs.getD 1 .any).toInt)]] fun r2 o2=>.aj ((o2.hO)=.cells (o2.hO).cs)<|.aj (aM [.lk .sl,.lk (.int .i64)] ((o2.hO).cs) 0 1 o2.tail)<|NS r2<|.done 0 [VS r2.toStr] [.cells [((o2.hO).cs.getD 0 .any),VI (((o2.hO).cs.getD 1 .any).toInt)]]) (.test (r1.toInt==(1:Int)) (.call 143 [.ref 0 0,.sl [],VI 3] [.cells [((o1.hO).cs.getD 0 .any),VI (((o1.hO).cs.getD 1 .any).toInt)]] fun r3 o3=>.aj ((o3.hO)=.cells (o3.hO).cs)<|.aj (aM [.lk .sl,.lk (.int .i64)] ((o3.hO).cs) 0 1 o3.tail)<|NS r3<|.done 0 [VS r3.toStr] [.cells [((o3.hO).cs.getD 0 .any),VI (((o3.hO).cs.getD 1 .any).toInt)]]) (.test (r1.toInt==(2:Int)) (.call 143 [.ref 0 0,.sl [],VI 3] [.cells [((o1.hO).cs.getD 0 .any),VI (((o1.hO).cs.getD 1 .any).toInt)]] fun r4 o4=>.aj ((o4.hO)=.cells (o4.hO).cs)<|.aj (aM [.lk .sl,.lk (.int .i64)] ((o4.hO).cs) 0 1 o4.tail)<|NS r4<|.done 0 [VS r4.toStr] [.cells [((o4.hO).cs.getD 0 .any),VI (((o4.hO).cs.getD 1 .any).toInt)]]) (.test (r1.toInt==(3:Int)) (.call 143 [.ref 0 0,.sl [],VI 3] [.cells [((o1.hO).cs.getD 0 .any),VI (((o1.hO).cs.getD 1 .any).toInt)]] fun r5 o5=>.aj ((o5.hO)=.cells (o5.hO).cs)<|.aj (aM [.lk .sl,.lk (.int .i64)] ((o5.hO).cs) 0 1 o5.tail)<|NS r5<|.done 0 [VS r5.toStr] [.cells [((o5.hO).cs.getD 0 .any),VI (((o5.hO).cs.getD 1 .any).toInt)]]) (.call 68 [.ref 0 0] [.cells [((o1.hO).cs.getD 0 .any),VI (((o1.hO).cs.getD 1 .any).toInt)]] fun r6 o6=>.aj ((o6.hO)=.cells (o6.hO).cs)<|.aj (aM [.lk .sl,.lk (.int .i64)] ((o6.hO).cs) 0 1 o6.tail)<|NS r6<|.done 0 [VS r6.toStr] [.cells [((o6.hO).cs.getD 0 .any),VI (((o6.hO).cs.getD 1 .any).toInt)]]))))
theorem OG(a0_0:AV)(a0_1:Int)(ha0_0:LK.has .sl a0_0)(h:du 18 (G9 a0_0 a0_1) R):aq Tryz.prog 105 [.ref 0 0] [.cells [a0_0,VI a0_1]] R :=
 aq.nM (bo (bX (ah (cb ha0_0) (ah (aC _) aF))) cu) (aq.up (ah (aC _) aF) (oF [] {mu:=[(0,.one (.obj [.lk .sl,.lk (.int .i64)]))],own:=[]} Tryz.f105 h))
def CO(a0_0:ByteArray)(a0_1:AV)(a1_0:AV)(a1_1:AV):Tree :=
 NP a0_1<|.test (!a0_1.isNil) (NZ a1_0<|NZ a1_0<|.aj (LK.has (.int .u8) (a1_0.deref.hA)/\1<=a1_0.deref.length)<|.test (((a1_0.deref.hA).toInt)==(98:Int)) (.call 127 [.agg [a1_0,a1_1]] [] fun r1 o1=>NP r1<|.aj (AV.qA r1/\AV.qA a0_1)<|.done 0 [VB (AV.A8 r1 a0_1)] []) (.done 0 [VB false] [])) (NZ a1_0<|NZ a1_0<|.aj (LK.has (.int .u8) (a1_0.deref.hA)/\1<=a1_0.deref.length)<|.test (((a1_0.deref.hA).toInt)==(110:Int)) (NZ a1_0<|NZ a1_0<|mc (a1_0.deref.drop 1)<|.done 0 [VB (ag (((a1_0.deref.drop 1).hA).toStr)==ag a0_0)] []) (.done 0 [VB false] []))
theorem NC(a0_0:ByteArray)(a0_1:AV)(a1_0:AV)(a1_1:AV)(ha0_1:LK.has .ptr a0_1)(ha1_0:LK.has .ptr a1_0)(ha1_1:LK.has .ptr a1_1)(h:du 37 (CO a0_0 a0_1 a1_0 a1_1) R):aq Tryz.prog 106 [.agg [VS a0_0,a0_1],.agg [a1_0,a1_1]] [] R :=
 uQ (ah (cL (ah (aC _) (ah (bu ha0_1) aF))) (ah (cL (ah (bu ha1_0) (ah (bu ha1_1) aF))) aF)) (oQ [] Tryz.f106 h)
def Gm:LI:={hd:={bZ:=[(7,.k .sl),(8,.k (.int .i64)),(9,.k (.int .i64))],refs:=[(2,1)],cj:=[(0,[.lk .ptr]),(1,[.vec 2])],fns:=[(1,110,[0])]},xs:={cj:=[(0,[.lk .ptr]),(1,[.vec 2])]},rt:={cj:=[(0,[.lk .ptr]),(1,[.vec 2])]},ex:=0,fx:=[0,1]}
def KV:Code:=cN (cF Tryz.f107) 1
def Lf:List (Nat×LI):=[(1,Gm)]
def Kb(a0:AV)(a1_0_0:AV)(e2_0:List (List AV)):Tree :=
 NL a0<|.loop KV Gm [a0,VI (a0.elems.length:Int),VI 0] [.cells [a1_0_0],.cells [.any],.vec 2 e2_0] (fun y2 q2=>.aj ((q2.hO)=.cells (q2.hO).cs)<|.aj (af [.lk .ptr] ((q2.hO).cs) 0 q2.tail)<|.aj (((q2.tail.drop 0).hO)=.cells ((q2.tail.drop 0).hO).cs)<|.aj (af [.vec 2] (((q2.tail.drop 0).hO).cs) 0 ((q2.tail.drop 0).tail))<|.done 0 [.any] [.cells [((q2.hO).cs.getD 0 .any)],.cells [.vec 2],.vec 2 ((q2.tail.tail.hO).es)]) (fun y2 q2=>.aj ((q2.hO)=.cells (q2.hO).cs)<|.aj (af [.lk .ptr] ((q2.hO).cs) 0 q2.tail)<|.aj (((q2.tail.drop 0).hO)=.cells ((q2.tail.drop 0).hO).cs)<|.aj (af [.vec 2] (((q2.tail.drop 0).hO).cs) 0 ((q2.tail.drop 0).tail))<|.done 0 [.any] [.cells [((q2.hO).cs.getD 0 .any)],.cells [.vec 2],.vec 2 ((q2.tail.tail.hO).es)])
theorem Nr(a0:AV)(a1_0_0:AV)(e2_0:List (List AV))(ha0:LK.has .sl a0)(ha1_0_0:LK.has .ptr a1_0_0)(h:du 24 (Kb a0 a1_0_0 e2_0) R):aq Tryz.prog 107 [a0,.fn 110 [.ref 0 0],.ref 1 0] [.cells [a1_0_0],.cells [.vec 2],.vec 2 e2_0] R :=
 aq.nM (bo (bX (ah (bu ha1_0_0) aF)) (bo (bX (ah (aC _) aF)) (bo (fY _) cu))) (aq.up (ah (cb ha0) (ah (aC _) (ah (aC _) aF))) (oF Lf {mu:=[(1,.fn [some (.obj [.lk .ptr])]),(2,.one (.obj [.vec 2]))],own:=[]} Tryz.f107 h))
def FU(x7:AV)(x8:Int)(x9:Int)(o0_0:AV)(o1_0:List (List AV)):Tree :=
 NL x7<|NI (VI x8)<|NI (VI x9)<|.aj (Ob.cells [o0_0]=.cells [o0_0])<|.aj (af [.lk .ptr] [o0_0] 0 [.cells [.any],.vec 2 o1_0])<|.aj (Ob.cells [.any]=.cells [.any])<|.aj (af [.vec 2] [.any] 0 [.vec 2 o1_0])<|.test (decide (x9<x8)) (NG x7 x9 2<|.aj (bO [.ptr,.ptr] (x7.ix x9) 0/\2<=(x7.ix x9).length)<|.call 110 [((x7.ix x9).getD 0 .any),.ref 0 0] [.cells [o0_0]] fun r1 o1=>.aj ((o1.hO)=.cells (o1.hO).cs)<|.aj (aM [.lk .ptr] ((o1.hO).cs) 0 1 o1.tail)<|NP r1<|.aj (cx 2 [[r1,((x7.ix x9).getD 1 .any)]]/\((o1_0.length)+([[r1,((x7.ix x9).getD 1 .any)]]:List (List AV)).length)*16<=140737488355328)<|.done 0 [x7,VI x8,VI (IntKind.wrap .i64 (x9+1))] [.cells [((o1.hO).cs.getD 0 .any)],.cells [.any],.vec 2 (o1_0++([[r1,((x7.ix x9).getD 1 .any)]]:List (List AV)))]) (.done 1 [] [.cells [o0_0],.cells [.any],.vec 2 o1_0])
abbrev Fg:=cA Tryz.prog 24 KV Gm
theorem Kc(x7:AV)(x8:Int)(x9:Int)(o0_0:AV)(o1_0:List (List AV))(h:lM 24 (FU x7 x8 x9 o0_0 o1_0) Fg U):Fg [x7,VI x8,VI x9] [.cells [o0_0],.cells [.any],.vec 2 o1_0] U :=
 gQ Lf h
def Fs:LI:={hd:={bZ:=[(7,.k .sl),(8,.k (.int .i64)),(9,.k (.int .i64))],refs:=[(2,1)],cj:=[(0,[.lk .ptr]),(1,[.vec 2])],fns:=[(1,111,[0])]},xs:={cj:=[(0,[.lk .ptr]),(1,[.vec 2])]},rt:={cj:=[(0,[.lk .ptr]),(1,[.vec 2])]},ex:=0,fx:=[0,1]}
def HQ:Code:=cN (cF Tryz.f107) 1
def La:List (Nat×LI):=[(1,Fs)]
def H6(a0:AV)(a1_0_0:AV)(e2_0:List (List AV)):Tree :=
 NL a0<|.loop HQ Fs [a0,VI (a0.elems.length:Int),VI 0] [.cells [a1_0_0],.cells [.any],.vec 2 e2_0] (fun y2 q2=>.aj ((q2.hO)=.cells (q2.hO).cs)<|.aj (af [.lk .ptr] ((q2.hO).cs) 0 q2.tail)<|.aj (((q2.tail.drop 0).hO)=.cells ((q2.tail.drop 0).hO).cs)<|.aj (af [.vec 2] (((q2.tail.drop 0).hO).cs) 0 ((q2.tail.drop 0).tail))<|.done 0 [.any] [.cells [((q2.hO).cs.getD 0 .any)],.cells [.vec 2],.vec 2 ((q2.tail.tail.hO).es)]) (fun y2 q2=>.aj ((q2.hO)=.cells (q2.hO).cs)<|.aj (af [.lk .ptr] ((q2.hO).cs) 0 q2.tail)<|.aj (((q2.tail.drop 0).hO)=.cells ((q2.tail.drop 0).hO).cs)<|.aj (af [.vec 2] (((q2.tail.drop 0).hO).cs) 0 ((q2.tail.drop 0).tail))<|.done 0 [.any] [.cells [((q2.hO).cs.getD 0 .any)],.cells [.vec 2],.vec 2 ((q2.tail.tail.hO).es)])
theorem Mq(a0:AV)(a1_0_0:AV)(e2_0:List (List AV))(ha0:LK.has .sl a0)(ha1_0_0:LK.has .ptr a1_0_0)(h:du 24 (H6 a0 a1_0_0 e2_0) R):aq Tryz.prog 107 [a0,.fn 111 [.ref 0 0],.ref 1 0] [.cells [a1_0_0],.cells [.vec 2],.vec 2 e2_0] R :=
 aq.nM (bo (bX (ah (bu ha1_0_0) aF)) (bo (bX (ah (aC _) aF)) (bo (fY _) cu))) (aq.up (ah (cb ha0) (ah (aC _) (ah (aC _) aF))) (oF La {mu:=[(1,.fn [some (.obj [.lk .ptr])]),(2,.one (.obj [.vec 2]))],own:=[]} Tryz.f107 h))
def EY(x7:AV)(x8:Int)(x9:Int)(o0_0:AV)(o1_0:List (List AV)):Tree :=
 NL x7<|NI (VI x8)<|NI (VI x9)<|.aj (Ob.cells [o0_0]=.cells [o0_0])<|.aj (af [.lk .ptr] [o0_0] 0 [.cells [.any],.vec 2 o1_0])<|.aj (Ob.cells [.any]=.cells [.any])<|.aj (af [.vec 2] [.any] 0 [.vec 2 o1_0])<|.test (decide (x9<x8)) (NG x7 x9 2<|.aj (bO [.ptr,.ptr] (x7.ix x9) 0/\2<=(x7.ix x9).length)<|.call 111 [((x7.ix x9).getD 0 .any),.ref 0 0] [.cells [o0_0]] fun r1 o1=>.aj ((o1.hO)=.cells (o1.hO).cs)<|.aj (aM [.lk .ptr] ((o1.hO).cs) 0 1 o1.tail)<|NP r1<|.aj (cx 2 [[r1,((x7.ix x9).getD 1 .any)]]/\((o1_0.length)+([[r1,((x7.ix x9).getD 1 .any)]]:List (List AV)).length)*16<=140737488355328)<|.done 0 [x7,VI x8,VI (IntKind.wrap .i64 (x9+1))] [.cells [((o1.hO).cs.getD 0 .any)],.cells [.any],.vec 2 (o1_0++([[r1,((x7.ix x9).getD 1 .any)]]:List (List AV)))]) (.done 1 [] [.cells [o0_0],.cells [.any],.vec 2 o1_0])
abbrev Gt:=cA Tryz.prog 24 HQ Fs
theorem Lk(x7:AV)(x8:Int)(x9:Int)(o0_0:AV)(o1_0:List (List AV))(h:lM 24 (EY x7 x8 x9 o0_0 o1_0) Gt U):Gt [x7,VI x8,VI x9] [.cells [o0_0],.cells [.any],.vec 2 o1_0] U :=
 gQ La h
def F4:LI:={hd:={bZ:=[(7,.k .sl),(8,.k (.int .i64)),(9,.k (.int .i64))],refs:=[(2,1)],cj:=[(0,[.lk .ptr]),(1,[.vec 2])],fns:=[(1,113,[0])]},xs:={cj:=[(0,[.lk .ptr]),(1,[.vec 2])]},rt:={cj:=[(0,[.lk .ptr]),(1,[.vec 2])]},ex:=0,fx:=[0,1]}
def Hn:Code:=cN (cF Tryz.f107) 1
def Ju:List (Nat×LI):=[(1,F4)]
def Lr(a0:AV)(a1_0_0:AV)(e2_0:List (List AV)):Tree :=
 NL a0<|.loop Hn F4 [a0,VI (a0.elems.length:Int),VI 0] [.cells [a1_0_0],.cells [.any],.vec 2 e2_0] (fun y2 q2=>.aj ((q2.hO)=.cells (q2.hO).cs)<|.aj (af [.lk .ptr] ((q2.hO).cs) 0 q2.tail)<|.aj (((q2.tail.drop 0).hO)=.cells ((q2.tail.drop 0).hO).cs)<|.aj (af [.vec 2] (((q2.tail.drop 0).hO).cs) 0 ((q2.tail.drop 0).tail))<|.done 0 [.any] [.cells [((q2.hO).cs.getD 0 .any)],.cells [.vec 2],.vec 2 ((q2.tail.tail.hO).es)]) (fun y2 q2=>.aj ((q2.hO)=.cells (q2.hO).cs)<|.aj (af [.lk .ptr] ((q2.hO).cs) 0 q2.tail)<|.aj (((q2.tail.drop 0).hO)=.cells ((q2.tail.drop 0).hO).cs)<|.aj (af [.vec 2] (((q2.tail.drop 0).hO).cs) 0 ((q2.tail.drop 0).tail))<|.done 0 [.any] [.cells [((q2.hO).cs.getD 0 .any)],.cells [.vec 2],.vec 2 ((q2.tail.tail.hO).es)])
theorem O8(a0:AV)(a1_0_0:AV)(e2_0:List (List AV))(ha0:LK.has .sl a0)(ha1_0_0:LK.has .ptr a1_0_0)(h:du 24 (Lr a0 a1_0_0 e2_0) R):aq Tryz.prog 107 [a0,.fn 113 [.ref 0 0],.ref 1 0] [.cells [a1_0_0],.cells [.vec 2],.vec 2 e2_0] R :=
 aq.nM (bo (bX (ah (bu ha1_0_0) aF)) (bo (bX (ah (aC _) aF)) (bo (fY _) cu))) (aq.up (ah (cb ha0) (ah (aC _) (ah (aC _) aF))) (oF Ju {mu:=[(1,.fn [some (.obj [.lk .ptr])]),(2,.one (.obj [.vec 2]))],own:=[]} Tryz.f107 h))
def Gh(x7:AV)(x8:Int)(x9:Int)(o0_0:AV)(o1_0:List (List AV)):Tree :=
 NL x7<|NI (VI x8)<|NI (VI x9)<|.aj (Ob.cells [o0_0]=.cells [o0_0])<|.aj (af [.lk .ptr] [o0_0] 0 [.cells [.any],.vec 2 o1_0])<|.aj (Ob.cells [.any]=.cells [.any])<|.aj (af [.vec 2] [.any] 0 [.vec 2 o1_0])<|.test (decide (x9<x8)) (NG x7 x9 2<|.aj (bO [.ptr,.ptr] (x7.ix x9) 0/\2<=(x7.ix x9).length)<|.call 113 [((x7.ix x9).getD 0 .any),.ref 0 0] [.cells [o0_0]] fun r1 o1=>.aj ((o1.hO)=.cells (o1.hO).cs)<|.aj (aM [.lk .ptr] ((o1.hO).cs) 0 1 o1.tail)<|NP r1<|.aj (cx 2 [[r1,((x7.ix x9).getD 1 .any)]]/\((o1_0.length)+([[r1,((x7.ix x9).getD 1 .any)]]:List (List AV)).length)*16<=140737488355328)<|.done 0 [x7,VI x8,VI (IntKind.wrap .i64 (x9+1))] [.cells [((o1.hO).cs.getD 0 .any)],.cells [.any],.vec 2 (o1_0++([[r1,((x7.ix x9).getD 1 .any)]]:List (List AV)))]) (.done 1 [] [.cells [o0_0],.cells [.any],.vec 2 o1_0])
abbrev FO:=cA Tryz.prog 24 Hn F4
theorem GU(x7:AV)(x8:Int)(x9:Int)(o0_0:AV)(o1_0:List (List AV))(h:lM 24 (Gh x7 x8 x9 o0_0 o1_0) FO U):FO [x7,VI x8,VI x9] [.cells [o0_0],.cells [.any],.vec 2 o1_0] U :=
 gQ Ju h
def Er:LI:={hd:={bZ:=[(1,.c (.func (.func 114) #[] #[])),(7,.k .sl),(8,.k (.int .i64)),(9,.k (.int .i64))],refs:=[(2,0)],cj:=[(0,[.vec 2])]},xs:={cj:=[(0,[.vec 2])]},rt:={cj:=[(0,[.vec 2])]},ex:=0,fx:=[0]}
def HI:Code:=cN (cF Tryz.f107) 1
def KI:List (Nat×LI):=[(1,Er)]
def HC(a0:AV)(e2_0:List (List AV)):Tree :=
 NL a0<|.loop HI Er [.v (.func (.func 114) #[] #[]),a0,VI (a0.elems.length:Int),VI 0] [.cells [.any],.vec 2 e2_0] (fun y2 q2=>.aj ((q2.hO)=.cells (q2.hO).cs)<|.aj (af [.vec 2] ((q2.hO).cs) 0 q2.tail)<|.done 0 [.any] [.cells [.vec 1],.vec 2 ((q2.tail.hO).es)]) (fun y2 q2=>.aj ((q2.hO)=.cells (q2.hO).cs)<|.aj (af [.vec 2] ((q2.hO).cs) 0 q2.tail)<|.done 0 [.any] [.cells [.vec 1],.vec 2 ((q2.tail.hO).es)])
theorem Om(a0:AV)(e2_0:List (List AV))(ha0:LK.has .sl a0)(h:du 24 (HC a0 e2_0) R):aq Tryz.prog 107 [a0,.v (.func (.func 114) #[] #[]),.ref 0 0] [.cells [.vec 1],.vec 2 e2_0] R :=
 aq.nM (bo (bX (ah (aC _) aF)) (bo (fY _) cu)) (aq.up (ah (cb ha0) (ah (aC _) (ah (aC _) aF))) (oF KI {mu:=[(2,.one (.obj [.vec 2]))],own:=[]} Tryz.f107 h))
def FP(x7:AV)(x8:Int)(x9:Int)(o0_0:List (List AV)):Tree :=
 .aj (AV.v (.func (.func 114) #[] #[])=.v (.func (.func 114) #[] #[]))<|NL x7<|NI (VI x8)<|NI (VI x9)<|.aj (Ob.cells [.any]=.cells [.any])<|.aj (af [.vec 2] [.any] 0 [.vec 2 o0_0])<|.test (decide (x9<x8)) (NG x7 x9 2<|.aj (bO [.ptr,.ptr] (x7.ix x9) 0/\2<=(x7.ix x9).length)<|.call 114 [((x7.ix x9).getD 0 .any)] [] fun r1 o1=>NP r1<|.aj (cx 2 [[r1,((x7.ix x9).getD 1 .any)]]/\((o0_0.length)+([[r1,((x7.ix x9).getD 1 .any)]]:List (List AV)).length)*16<=140737488355328)<|.done 0 [.v (.func (.func 114) #[] #[]),x7,VI x8,VI (IntKind.wrap .i64 (x9+1))] [.cells [.any],.vec 2 (o0_0++([[r1,((x7.ix x9).getD 1 .any)]]:List (List AV)))]) (.done 1 [] [.cells [.any],.vec 2 o0_0])
abbrev El:=cA Tryz.prog 24 HI Er
theorem KU(x7:AV)(x8:Int)(x9:Int)(o0_0:List (List AV))(h:lM 24 (FP x7 x8 x9 o0_0) El U):El [.v (.func (.func 114) #[] #[]),x7,VI x8,VI x9] [.cells [.any],.vec 2 o0_0] U :=
 gQ KI h
def Fc:LI:={hd:={bZ:=[(7,.k .sl),(8,.k (.int .i64)),(9,.k (.int .i64))],refs:=[(2,1)],cj:=[(0,[.lk .ptr,.lk .ptr]),(1,[.vec 2])],fns:=[(1,115,[0])]},xs:={cj:=[(0,[.lk .ptr,.lk .ptr]),(1,[.vec 2])]},rt:={cj:=[(0,[.lk .ptr,.lk .ptr]),(1,[.vec 2])]},ex:=0,fx:=[0,1]}
def JR:Code:=cN (cF Tryz.f107) 1
def Jw:List (Nat×LI):=[(1,Fc)]
def I8(a0:AV)(a1_0_0:AV)(a1_0_1:AV)(e2_0:List (List AV)):Tree :=
 NL a0<|.loop JR Fc [a0,VI (a0.elems.length:Int),VI 0] [.cells [a1_0_0,a1_0_1],.cells [.any],.vec 2 e2_0] (fun y2 q2=>.aj ((q2.hO)=.cells (q2.hO).cs)<|.aj (af [.lk .ptr,.lk .ptr] ((q2.hO).cs) 0 q2.tail)<|.aj (((q2.tail.drop 0).hO)=.cells ((q2.tail.drop 0).hO).cs)<|.aj (af [.vec 2] (((q2.tail.drop 0).hO).cs) 0 ((q2.tail.drop 0).tail))<|.done 0 [.any] [.cells [((q2.hO).cs.getD 0 .any),((q2.hO).cs.getD 1 .any)],.cells [.vec 2],.vec 2 ((q2.tail.tail.hO).es)]) (fun y2 q2=>.aj ((q2.hO)=.cells (q2.hO).cs)<|.aj (af [.lk .ptr,.lk .ptr] ((q2.hO).cs) 0 q2.tail)<|.aj (((q2.tail.drop 0).hO)=.cells ((q2.tail.drop 0).hO).cs)<|.aj (af [.vec 2] (((q2.tail.drop 0).hO).cs) 0 ((q2.tail.drop 0).tail))<|.done 0 [.any] [.cells [((q2.hO).cs.getD 0 .any),((q2.hO).cs.getD 1 .any)],.cells [.vec 2],.vec 2 ((q2.tail.tail.hO).es)])
theorem N7(a0:AV)(a1_0_0:AV)(a1_0_1:AV)(e2_0:List (List AV))(ha0:LK.has .sl a0)(ha1_0_0:LK.has .ptr a1_0_0)(ha1_0_1:LK.has .ptr a1_0_1)(h:du 24 (I8 a0 a1_0_0 a1_0_1 e2_0) R):aq Tryz.prog 107 [a0,.fn 115 [.ref 0 0],.ref 1 0] [.cells [a1_0_0,a1_0_1],.cells [.vec 2],.vec 2 e2_0] R :=
 aq.nM (bo (bX (ah (bu ha1_0_0) (ah (bu ha1_0_1) aF))) (bo (bX (ah (aC _) aF)) (bo (fY _) cu))) (aq.up (ah (cb ha0) (ah (aC _) (ah (aC _) aF))) (oF Jw {mu:=[(1,.fn [some (.obj [.lk .ptr,.lk .ptr])]),(2,.one (.obj [.vec 2]))],own:=[]} Tryz.f107 h))
def EO(x7:AV)(x8:Int)(x9:Int)(o0_0:AV)(o0_1:AV)(o1_0:List (List AV)):Tree :=
 NL x7<|NI (VI x8)<|NI (VI x9)<|.aj (Ob.cells [o0_0,o0_1]=.cells [o0_0,o0_1])<|.aj (af [.lk .ptr,.lk .ptr] [o0_0,o0_1] 0 [.cells [.any],.vec 2 o1_0])<|.aj (Ob.cells [.any]=.cells [.any])<|.aj (af [.vec 2] [.any] 0 [.vec 2 o1_0])<|.test (decide (x9<x8)) (NG x7 x9 2<|.aj (bO [.ptr,.ptr] (x7.ix x9) 0/\2<=(x7.ix x9).length)<|.call 115 [((x7.ix x9).getD 0 .any),.ref 0 0] [.cells [o0_0,o0_1]] fun r1 o1=>.aj ((o1.hO)=.cells (o1.hO).cs)<|.aj (aM [.lk .ptr,.lk .ptr] ((o1.hO).cs) 0 1 o1.tail)<|NP r1<|.aj (cx 2 [[r1,((x7.ix x9).getD 1 .any)]]/\((o1_0.length)+([[r1,((x7.ix x9).getD 1 .any)]]:List (List AV)).length)*16<=140737488355328)<|.done 0 [x7,VI x8,VI (IntKind.wrap .i64 (x9+1))] [.cells [((o1.hO).cs.getD 0 .any),((o1.hO).cs.getD 1 .any)],.cells [.any],.vec 2 (o1_0++([[r1,((x7.ix x9).getD 1 .any)]]:List (List AV)))]) (.done 1 [] [.cells [o0_0,o0_1],.cells [.any],.vec 2 o1_0])
abbrev Ei:=cA Tryz.prog 24 JR Fc
theorem Iz(x7:AV)(x8:Int)(x9:Int)(o0_0:AV)(o0_1:AV)(o1_0:List (List AV))(h:lM 24 (EO x7 x8 x9 o0_0 o0_1 o1_0) Ei U):Ei [x7,VI x8,VI x9] [.cells [o0_0,o0_1],.cells [.any],.vec 2 o1_0] U :=
 gQ Jw h
def Ko(a0_0:AV)(a0_1:AV):Tree :=
 NZ a0_0<|NZ a0_0<|dY (a0_0.deref.drop 3)<|.done 0 [.agg [((a0_0.deref.drop 3).hA),a0_1]] []
theorem Ow(a0_0:AV)(a0_1:AV)(ha0_0:LK.has .ptr a0_0)(ha0_1:LK.has .ptr a0_1)(h:du 11 (Ko a0_0 a0_1) R):aq Tryz.prog 108 [.agg [a0_0,a0_1]] [] R :=
 uQ (ah (cL (ah (bu ha0_0) (ah (bu ha0_1) aF))) aF) (oQ [] Tryz.f108 h)
def Ka(a0_0:AV)(a0_1:AV):Tree :=
 NZ a0_0<|NZ a0_0<|dY (a0_0.deref.drop 4)<|.done 0 [.agg [((a0_0.deref.drop 4).hA),a0_1]] []
theorem Mv(a0_0:AV)(a0_1:AV)(ha0_0:LK.has .ptr a0_0)(ha0_1:LK.has .ptr a0_1)(h:du 11 (Ka a0_0 a0_1) R):aq Tryz.prog 109 [.agg [a0_0,a0_1]] [] R :=
 uQ (ah (cL (ah (bu ha0_0) (ah (bu ha0_1) aF))) aF) (oQ [] Tryz.f109 h)
def Gp(a0:AV)(a1_0:AV):Tree :=
 NZ a1_0<|NZ a1_0<|.aj (LK.has (.int .u8) (a1_0.deref.hA)/\1<=a1_0.deref.length)<|.call 85 [.v (.int .u8 ((a1_0.deref.hA).toInt)),a0] [] fun r1 o1=>NP r1<|.done 0 [r1] [.cells [a1_0]]
theorem Ke(a0:AV)(a1_0:AV)(ha0:LK.has .ptr a0)(ha1_0:LK.has .ptr a1_0)(h:du 10 (Gp a0 a1_0) R):aq Tryz.prog 110 [a0,.ref 0 0] [.cells [a1_0]] R :=
 aq.nM (bo (bX (ah (bu ha1_0) aF)) cu) (aq.up (ah (bu ha0) (ah (aC _) aF)) (oF [] {mu:=[(1,.one (.obj [.lk .ptr]))],own:=[]} Tryz.f110 h))
def H9(a0:AV)(a1_0:AV):Tree :=
 NZ a1_0<|NZ a1_0<|dY (a1_0.deref.drop 3)<|.call 112 [a0,((a1_0.deref.drop 3).hA)] [] fun r1 o1=>NP r1<|.call 85 [.v (.int .u8 108),r1] [] fun r2 o2=>NP r2<|.done 0 [r2] [.cells [a1_0]]
theorem OK(a0:AV)(a1_0:AV)(ha0:LK.has .ptr a0)(ha1_0:LK.has .ptr a1_0)(h:du 11 (H9 a0 a1_0) R):aq Tryz.prog 111 [a0,.ref 0 0] [.cells [a1_0]] R :=
 aq.nM (bo (bX (ah (bu ha1_0) aF)) cu) (aq.up (ah (bu ha0) (ah (aC _) aF)) (oF [] {mu:=[(1,.one (.obj [.lk .ptr]))],own:=[]} Tryz.f111 h))
def Hs(a0:AV)(a1:AV):Tree :=
 .done 0 [.ptr [.v (.int .u8 112),VS (mk []),a0,a1]] []
theorem N5(a0:AV)(a1:AV)(ha0:LK.has .ptr a0)(ha1:LK.has .ptr a1)(h:du 9 (Hs a0 a1) R):aq Tryz.prog 112 [a0,a1] [] R :=
 uQ (ah (bu ha0) (ah (bu ha1) aF)) (oQ [] Tryz.f112 h)
def Ik(a0:AV)(a1_0:AV):Tree :=
 NZ a1_0<|NZ a1_0<|dY (a1_0.deref.drop 2)<|.call 112 [((a1_0.deref.drop 2).hA),a0] [] fun r1 o1=>NP r1<|.call 85 [.v (.int .u8 114),r1] [] fun r2 o2=>NP r2<|.done 0 [r2] [.cells [a1_0]]
theorem NM(a0:AV)(a1_0:AV)(ha0:LK.has .ptr a0)(ha1_0:LK.has .ptr a1_0)(h:du 11 (Ik a0 a1_0) R):aq Tryz.prog 113 [a0,.ref 0 0] [.cells [a1_0]] R :=
 aq.nM (bo (bX (ah (bu ha1_0) aF)) cu) (aq.up (ah (bu ha0) (ah (aC _) aF)) (oF [] {mu:=[(1,.one (.obj [.lk .ptr]))],own:=[]} Tryz.f113 h))
def KX(a0:AV):Tree :=
 .call 85 [.v (.int .u8 108),a0] [] fun r1 o1=>NP r1<|.call 85 [.v (.int .u8 102),r1] [] fun r2 o2=>NP r2<|.done 0 [r2] []
theorem Me(a0:AV)(ha0:LK.has .ptr a0)(h:du 6 (KX a0) R):aq Tryz.prog 114 [a0] [] R :=
 uQ (ah (bu ha0) aF) (oQ [] Tryz.f114 h)
def Ji(a0:AV)(a1_0:AV)(a1_1:AV):Tree :=
 .call 112 [a1_0,a0] [] fun r1 o1=>NP r1<|.call 85 [.v (.int .u8 114),r1] [] fun r2 o2=>NP r2<|.call 85 [.v (.int .u8 102),r2] [] fun r3 o3=>NP r3<|.done 0 [r3] [.cells [a1_0,a1_1]]
theorem Nx(a0:AV)(a1_0:AV)(a1_1:AV)(ha0:LK.has .ptr a0)(ha1_0:LK.has .ptr a1_0)(ha1_1:LK.has .ptr a1_1)(h:du 10 (Ji a0 a1_0 a1_1) R):aq Tryz.prog 115 [a0,.ref 0 0] [.cells [a1_0,a1_1]] R :=
 aq.nM (bo (bX (ah (bu ha1_0) (ah (bu ha1_1) aF))) cu) (aq.up (ah (bu ha0) (ah (aC _) aF)) (oF [] {mu:=[(1,.one (.obj [.lk .ptr,.lk .ptr]))],own:=[]} Tryz.f115 h))
def DG:LI:={hd:={bZ:=[(0,.k .str),(1,.k (.int .i64)),(6,.k (.int .i64))]},xs:={bZ:=[(0,.k .str),(1,.k (.int .i64)),(6,.k (.int .i64))]},rt:={},ex:=0}
def KD:Code:=cN (cF Tryz.f116) 2
def EB:LI:={hd:={bZ:=[(0,.k .str),(1,.k (.int .i64)),(7,.k .str)],refs:=[(8,48)],cj:=[(48,[.lk .str,.vec 1])]},xs:={},rt:={bZ:=[(4,.k .ptr),(5,.k .str)]},ex:=999}
def I9:Code:=cN (cF Tryz.f116) 10
def Fh:List (Nat×LI):=[(2,DG),(10,EB)]
def DI(a0:ByteArray)(a1:Int):Tree :=
 .loop KD DG [VS a0,VI a1,VI 0] [] (fun y2 q2=>NS (y2.hA)<|NI (y2.tail.hA)<|NI (y2.tail.tail.hA)<|.test (decide (((y2.tail.tail.hA).toInt)>(0:Int))) (.aj (0<=(0:Int)/\(0:Int)<=((y2.tail.tail.hA).toInt)/\((y2.tail.tail.hA).toInt)<=(ae ((y2.hA).toStr):Int))<|.aj (0<=((y2.tail.tail.hA).toInt)/\((y2.tail.tail.hA).toInt)<=(ae ((y2.hA).toStr):Int)/\(ae ((y2.hA).toStr):Int)<=(ae ((y2.hA).toStr):Int))<|.done 0 [.cW [.ptr [VS (bV ((y2.hA).toStr) (bR 0) (bR ((y2.tail.tail.hA).toInt))),.v (.slice none 0 0)],VS (bV ((y2.hA).toStr) (bR ((y2.tail.tail.hA).toInt)) (bR (ae ((y2.hA).toStr):Int)))]] []) (.test (ag ((y2.hA).toStr)==ag (mk [])) (.done 0 [.cW [.v (.pointer none),VS ((y2.hA).toStr)]] []) (.aj (0<=(0:Int)/\(0:Int)<ae ((y2.hA).toStr))<|.test ((bt ((y2.hA).toStr) 0) != (40:Int)) (.done 0 [.cW [.v (.pointer none),VS ((y2.hA).toStr)]] []) (.test (((y2.tail.hA).toInt)==(300:Int)) (.done 0 [.cW [.v (.pointer none),VS ((y2.hA).toStr)]] []) (.aj (0<=(1:Int)/\(1:Int)<=(ae ((y2.hA).toStr):Int)/\(ae ((y2.hA).toStr):Int)<=(ae ((y2.hA).toStr):Int))<|.loop I9 EB [VS ((y2.hA).toStr),VI ((y2.tail.hA).toInt),VS (bV ((y2.hA).toStr) (bR 1) (bR (ae ((y2.hA).toStr):Int)))] [.cells [VS (mk []),.any],.vec 1 []] (fun y5 q5=>.fail) (fun y5 q5=>NP (y5.hA)<|NS (y5.tail.hA)<|.done 0 [.cW [(y5.hA),VS ((y5.tail.hA).toStr)]] [])))))) (fun y2 q2=>.done 0 [.cW [.any,.any]] [])
theorem Lj(a0:ByteArray)(a1:Int)(h:du 84 (DI a0 a1) R):aq Tryz.prog 116 [VS a0,VI a1] [] R :=
 uQ (ah (aC _) (ah (aC _) aF)) (oQ Fh Tryz.f116 h)
def Ff(x0:ByteArray)(x1:Int)(x6:Int):Tree :=
 NS (VS x0)<|NI (VI x1)<|NI (VI x6)<|.test (decide (x6<(ae x0:Int))) (.aj (0<=x6/\x6<ae x0)<|.call 144 [.v (.int .u8 (bt x0 x6))] [] fun r1 o1=>NB r1<|.test r1.toBool (.done 0 [VS x0,VI x1,VI (IntKind.wrap .i64 (x6+1))] []) (.done 1 [VS x0,VI x1,VI x6] [])) (.done 1 [VS x0,VI x1,VI x6] [])
abbrev Gz:=cA Tryz.prog 84 KD DG
theorem Lt(x0:ByteArray)(x1:Int)(x6:Int)(h:lM 84 (Ff x0 x1 x6) Gz U):Gz [VS x0,VI x1,VI x6] [] U :=
 gQ Fh h
def Lq(x0:ByteArray)(x1:Int)(x7:ByteArray)(o48_0:ByteArray)(o48_1:List (List AV)):Tree :=
 NS (VS x0)<|NI (VI x1)<|NS (VS x7)<|.aj (Ob.cells [VS o48_0,.any]=.cells [VS o48_0,.any])<|.aj (af [.lk .str,.vec 1] [VS o48_0,.any] 0 [.vec 1 o48_1])<|.call 116 [VS x7,VI (IntKind.wrap .i64 (x1+1))] [] fun r1 o1=>NT r1<|NP (r1.comp 0)<|NS (r1.comp 1)<|NP (r1.comp 0)<|.test ((r1.comp 0).isNil) (.done 2 [.v (.pointer none),VS x0] []) (.test (ag ((r1.comp 1).toStr)==ag (mk [])) (.done 2 [.v (.pointer none),VS x0] []) (.aj (cx 1 [[(r1.comp 0)]]/\((o48_1.length)+([[(r1.comp 0)]]:List (List AV)).length)*8<=140737488355328)<|.aj (0<=(1:Int)/\(1:Int)<=(ae ((r1.comp 1).toStr):Int)/\(ae ((r1.comp 1).toStr):Int)<=(ae ((r1.comp 1).toStr):Int))<|.aj (0<=(0:Int)/\(0:Int)<ae ((r1.comp 1).toStr))<|.test ((bt ((r1.comp 1).toStr) 0)==(41:Int)) (.done 2 [.ptr [VS o48_0,.sl (o48_1++([[(r1.comp 0)]]:List (List AV)))],VS (bV ((r1.comp 1).toStr) (bR 1) (bR (ae ((r1.comp 1).toStr):Int)))] []) (.aj (0<=(0:Int)/\(0:Int)<ae ((r1.comp 1).toStr))<|.test ((bt ((r1.comp 1).toStr) 0) != (32:Int)) (.done 2 [.v (.pointer none),VS x0] []) (.done 0 [VS x0,VI x1,VS (bV ((r1.comp 1).toStr) (bR 1) (bR (ae ((r1.comp 1).toStr):Int)))] [.cells [VS o48_0,.any],.vec 1 (o48_1++([[(r1.comp 0)]]:List (List AV)))]))))
abbrev Fy:=cA Tryz.prog 84 I9 EB
theorem NU(x0:ByteArray)(x1:Int)(x7:ByteArray)(o48_0:ByteArray)(o48_1:List (List AV))(h:lM 84 (Lq x0 x1 x7 o48_0 o48_1) Fy U):Fy [VS x0,VI x1,VS x7] [.cells [VS o48_0,.any],.vec 1 o48_1] U :=
 gQ Fh h
def GP(a0:ByteArray):Tree :=
 .call 145 [VS a0,VS (mk [120,121,122])] [] fun r1 o1=>NB r1<|.done 0 [VB r1.toBool] []
theorem Oy(a0:ByteArray)(h:du 5 (GP a0) R):aq Tryz.prog 117 [VS a0] [] R :=
 uQ (ah (aC _) aF) (oQ [] Tryz.f117 h)
def J7(a0:ByteArray):Tree :=
 .call 145 [VS a0,VS (mk [116])] [] fun r1 o1=>NB r1<|.done 0 [VB r1.toBool] []
theorem N1(a0:ByteArray)(h:du 5 (J7 a0) R):aq Tryz.prog 118 [VS a0] [] R :=
 uQ (ah (aC _) aF) (oQ [] Tryz.f118 h)
def At(a0:AV)(a1:ByteArray)(a2:Int):Tree :=
 NZ a0<|NZ a0<|rk (a0.deref.drop 1)<|NL ((a0.deref.drop 1).hA)<|.test (((((a0.deref.drop 1).hA).elems).length:Int)==a2) (NZ a0<|NZ a0<|rk (a0.deref.drop 1)<|NG ((a0.deref.drop 1).hA) 0 1<|dY (((a0.deref.drop 1).hA).ix (0:Int))<|NZ ((((a0.deref.drop 1).hA).ix (0:Int)).hA)<|NZ ((((a0.deref.drop 1).hA).ix (0:Int)).hA)<|.aj (LK.has .str (((((a0.deref.drop 1).hA).ix (0:Int)).hA).deref.hA)/\1<=(((((a0.deref.drop 1).hA).ix (0:Int)).hA).deref).length)<|.done 0 [VB (ag ((((((a0.deref.drop 1).hA).ix (0:Int)).hA).deref.hA).toStr)==ag a1)] []) (.done 0 [VB false] [])
theorem JM(a0:AV)(a1:ByteArray)(a2:Int)(ha0:LK.has .ptr a0)(h:du 27 (At a0 a1 a2) R):aq Tryz.prog 119 [a0,VS a1,VI a2] [] R :=
 uQ (ah (bu ha0) (ah (aC _) (ah (aC _) aF))) (oQ [] Tryz.f119 h)
def JW(a0:Int)(a1:AV)(a2:AV):Tree :=
 .done 0 [.ptr [.v (.int .u8 a0),VS (mk []),VI 0,a1,a2]] []
theorem OO(a0:Int)(a1:AV)(a2:AV)(ha1:LK.has .ptr a1)(ha2:LK.has .ptr a2)(h:du 12 (JW a0 a1 a2) R):aq Tryz.prog 121 [.v (.int .u8 a0),a1,a2] [] R :=
 uQ (ah (aC _) (ah (bu ha1) (ah (bu ha2) aF))) (oQ [] Tryz.f121 h)
def KT(a0:AV):Tree :=
 .call 147 [a0,.fn 148 [.ref 0 0]] [.cells [.vec 1],.vec 1 []] fun r1 o1=>.aj ((o1.hO)=.cells (o1.hO).cs)<|.aj (aM [.vec 1] ((o1.hO).cs) 0 1 o1.tail)<|.done 0 [.sl ((o1.tail.hO).es)] []
theorem MG(a0:AV)(ha0:LK.has .ptr a0)(h:du 9 (KT a0) R):aq Tryz.prog 122 [a0] [] R :=
 uQ (ah (bu ha0) aF) (oQ [] Tryz.f122 h)
def Ek:LI:={hd:={bZ:=[(0,.k .ptr),(1,.k .sl),(9,.k .str)],refs:=[(3,0),(4,1)],cj:=[(0,[.lk .sl]),(1,[.lk (.int .i64)])],tU:=[(2,123,[none,some 0,some 1])]},xs:={bZ:=[(0,.k .ptr),(1,.k .sl),(9,.k .str)],cj:=[(0,[.lk .sl]),(1,[.lk (.int .i64)])],tU:=[(2,123,[none,some 0,some 1])]},rt:={cj:=[(0,[.lk .sl]),(1,[.lk (.int .i64)])]},ex:=1,fx:=[0,1]}
def Kd:Code:=cN (cF Tryz.f123) 12
def ID:List (Nat×LI):=[(12,Ek)]
def C8(a0:AV)(a1:AV)(a3_0:AV)(a4_0:Int):Tree :=
 NZ a0<|NZ a0<|.aj (LK.has (.int .u8) (a0.deref.hA)/\1<=a0.deref.length)<|.test (((a0.deref.hA).toInt)==(110:Int)) (NZ a0<|NZ a0<|mc (a0.deref.drop 1)<|.done 0 [VS (((a0.deref.drop 1).hA).toStr)] [.cells [a3_0],.cells [VI a4_0]]) (.test (((a0.deref.hA).toInt)==(98:Int)) (NL a1<|NZ a0<|NZ a0<|.aj (LK.has (.int .i64) ((a0.deref.drop 2).hA)/\1<=(a0.deref.drop 2).length)<|.aj (LK.has .sl a1/\0<=(IntKind.wrap .i64 ((IntKind.wrap .i64 ((a1.elems.length:Int)-1))-(((a0.deref.drop 2).hA).toInt)))/\(IntKind.wrap .i64 ((IntKind.wrap .i64 ((a1.elems.length:Int)-1))-(((a0.deref.drop 2).hA).toInt)))<a1.elems.length/\(a1.ix (IntKind.wrap .i64 ((IntKind.wrap .i64 ((a1.elems.length:Int)-1))-(((a0.deref.drop 2).hA).toInt)))).length=1)<|mc (a1.ix (IntKind.wrap .i64 ((IntKind.wrap .i64 ((a1.elems.length:Int)-1))-(((a0.deref.drop 2).hA).toInt))))<|.done 0 [VS (((a1.ix (IntKind.wrap .i64 ((IntKind.wrap .i64 ((a1.elems.length:Int)-1))-(((a0.deref.drop 2).hA).toInt)))).hA).toStr)] [.cells [a3_0],.cells [VI a4_0]]) (.test (((a0.deref.hA).toInt)==(43:Int)) (NZ a0<|NZ a0<|dY (a0.deref.drop 3)<|.call 123 [((a0.deref.drop 3).hA),a1,.gf 123 [none,some 0,some 1],.ref 0 0,.ref 1 0] [.cells [a3_0],.cells [VI a4_0]] fun r1 o1=>.aj ((o1.hO)=.cells (o1.hO).cs)<|.aj (aM [.lk .sl] ((o1.hO).cs) 0 1 o1.tail)<|.aj ((o1.tail.hO)=.cells (o1.tail.hO).cs)<|.aj (aM [.lk (.int .i64)] ((o1.tail.hO).cs) 0 2 o1.tail.tail)<|NS r1<|NZ a0<|NZ a0<|.aj (LK.has (.int .u8) (a0.deref.hA)/\1<=a0.deref.length)<|.aj (jh [[.v (.int .u8 ((a0.deref.hA).toInt))]])<|.aj (ae (mk [40])+ae (⟨(bytesOf [[.v (.int .u8 ((a0.deref.hA).toInt))]]).toArray⟩)<=9223372036854775807)<|.aj (ae (((mk [40]):ByteArray)++(⟨(bytesOf [[.v (.int .u8 ((a0.deref.hA).toInt))]]).toArray⟩))+ae (mk [32])<=9223372036854775807)<|.aj (ae (((((mk [40]):ByteArray)++(⟨(bytesOf [[.v (.int .u8 ((a0.deref.hA).toInt))]]).toArray⟩)):ByteArray)++(mk [32]))+ae r1.toStr<=9223372036854775807)<|.aj (ae (((((((mk [40]):ByteArray)++(⟨(bytesOf [[.v (.int .u8 ((a0.deref.hA).toInt))]]).toArray⟩)):ByteArray)++(mk [32])):ByteArray)++r1.toStr)+ae (mk [32])<=9223372036854775807)<|NZ a0<|NZ a0<|dY (a0.deref.drop 4)<|.call 123 [((a0.deref.drop 4).hA),a1,.gf 123 [none,some 0,some 1],.ref 0 0,.ref 1 0] [.cells [((o1.hO).cs.getD 0 .any)],.cells [VI (((o1.tail.hO).cs.getD 0 .any).toInt)]] fun r2 o2=>.aj ((o2.hO)=.cells (o2.hO).cs)<|.aj (aM [.lk .sl] ((o2.hO).cs) 0 1 o2.tail)<|.aj ((o2.tail.hO)=.cells (o2.tail.hO).cs)<|.aj (aM [.lk (.int .i64)] ((o2.tail.hO).cs) 0 2 o2.tail.tail)<|NS r2<|.aj (ae (((((((((mk [40]):ByteArray)++(⟨(bytesOf [[.v (.int .u8 ((a0.deref.hA).toInt))]]).toArray⟩)):ByteArray)++(mk [32])):ByteArray)++r1.toStr):ByteArray)++(mk [32]))+ae r2.toStr<=9223372036854775807)<|.aj (ae (((((((((((mk [40]):ByteArray)++(⟨(bytesOf [[.v (.int .u8 ((a0.deref.hA).toInt))]]).toArray⟩)):ByteArray)++(mk [32])):ByteArray)++r1.toStr):ByteArray)++(mk [32])):ByteArray)++r2.toStr)+ae (mk [41])<=9223372036854775807)<|.done 0 [VS (((((((((((((mk [40]):ByteArray)++(⟨(bytesOf [[.v (.int .u8 ((a0.deref.hA).toInt))]]).toArray⟩)):ByteArray)++(mk [32])):ByteArray)++r1.toStr):ByteArray)++(mk [32])):ByteArray)++r2.toStr):ByteArray)++(mk [41]))] [.cells [((o2.hO).cs.getD 0 .any)],.cells [VI (((o2.tail.hO).cs.getD 0 .any).toInt)]]) (.test (((a0.deref.hA).toInt)==(42:Int)) (NZ a0<|NZ a0<|dY (a0.deref.drop 3)<|.call 123 [((a0.deref.drop 3).hA),a1,.gf 123 [none,some 0,some 1],.ref 0 0,.ref 1 0] [.cells [a3_0],.cells [VI a4_0]] fun r3 o3=>.aj ((o3.hO)=.cells (o3.hO).cs)<|.aj (aM [.lk .sl] ((o3.hO).cs) 0 1 o3.tail)<|.aj ((o3.tail.hO)=.cells (o3.tail.hO).cs)<|.aj (aM [.lk (.int .i64)] ((o3.tail.hO).cs) 0 2 o3.tail.tail)<|NS r3<|NZ a0<|NZ a0<|.aj (LK.has (.int .u8) (a0.deref.hA)/\1<=a0.deref.length)<|.aj (jh [[.v (.int .u8 ((a0.deref.hA).toInt))]])<|.aj (ae (mk [40])+ae (⟨(bytesOf [[.v (.int .u8 ((a0.deref.hA).toInt))]]).toArray⟩)<=9223372036854775807)<|.aj (ae (((mk [40]):ByteArray)++(⟨(bytesOf [[.v (.int .u8 ((a0.deref.hA).toInt))]]).toArray⟩))+ae (mk [32])<=9223372036854775807)<|.aj (ae (((((mk [40]):ByteArray)++(⟨(bytesOf [[.v (.int .u8 ((a0.deref.hA).toInt))]]).toArray⟩)):ByteArray)++(mk [32]))+ae r3.toStr<=9223372036854775807)<|.aj (ae (((((((mk [40]):ByteArray)++(⟨(bytesOf [[.v (.int .u8 ((a0.deref.hA).toInt))]]).toArray⟩)):ByteArray)++(mk [32])):ByteArray)++r3.toStr)+ae (mk [32])<=9223372036854775807)<|NZ a0<|NZ a0<|dY (a0.deref.drop 4)<|.call 123 [((a0.deref.drop 4).hA),a1,.gf 123 [none,some 0,some 1],.ref 0 0,.ref 1 0] [.cells [((o3.hO).cs.getD 0 .any)],.cells [VI (((o3.tail.hO).cs.getD 0 .any).toInt)]] fun r4 o4=>.aj ((o4.hO)=.cells (o4.hO).cs)<|.aj (aM [.lk .sl] ((o4.hO).cs) 0 1 o4.tail)<|.aj ((o4.tail.hO)=.cells (o4.tail.hO).cs)<|.aj (aM [.lk (.int .i64)] ((o4.tail.hO).cs) 0 2 o4.tail.tail)<|NS r4<|.aj (ae (((((((((mk [40]):ByteArray)++(⟨(bytesOf [[.v (.int .u8 ((a0.deref.hA).toInt))]]).toArray⟩)):ByteArray)++(mk [32])):ByteArray)++r3.toStr):ByteArray)++(mk [32]))+ae r4.toStr<=9223372036854775807)<|.aj (ae (((((((((((mk [40]):ByteArray)++(⟨(bytesOf [[.v (.int .u8 ((a0.deref.hA).toInt))]]).toArray⟩)):ByteArray)++(mk [32])):ByteArray)++r3.toStr):ByteArray)++(mk [32])):ByteArray)++r4.toStr)+ae (mk [41])<=9223372036854775807)<|.done 0 [VS (((((((((((((mk [40]):ByteArray)++(⟨(bytesOf [[.v (.int .u8 ((a0.deref.hA).toInt))]]).toArray⟩)):ByteArray)++(mk [32])):ByteArray)++r3.toStr):ByteArray)++(mk [32])):ByteArray)++r4.toStr):ByteArray)++(mk [41]))] [.cells [((o4.hO).cs.getD 0 .any)],.cells [VI (((o4.tail.hO).cs.getD 0 .any).toInt)]]) (.test (((a0.deref.hA).toInt)==(114:Int)) (.loop Kd Ek [a0,a1,VS (mk [])] [.cells [a3_0],.cells [VI a4_0]] (fun y8 q8=>NP (y8.hA)<|NL (y8.tail.hA)<|NS (y8.tail.tail.hA)<|.aj ((q8.hO)=.cells (q8.hO).cs)<|.aj (af [.lk .sl] ((q8.hO).cs) 0 q8.tail)<|.aj (((q8.tail.drop 0).hO)=.cells ((q8.tail.drop 0).hO).cs)<|.aj (af [.lk (.int .i64)] (((q8.tail.drop 0).hO).cs) 0 ((q8.tail.drop 0).tail))<|.aj (ae (mk [40,114,101,99,32])+ae ((y8.tail.tail.hA).toStr)<=9223372036854775807)<|.aj (ae (((mk [40,114,101,99,32]):ByteArray)++((y8.tail.tail.hA).toStr))+ae (mk [32])<=9223372036854775807)<|NZ (y8.hA)<|NZ (y8.hA)<|dY ((y8.hA).deref.drop 3)<|.aj (LK.has .sl (y8.tail.hA)/\cx 1 ((y8.tail.hA).elems)/\((([]:List (List AV)).length)+((y8.tail.hA).elems).length)*16<=140737488355328)<|.aj (cx 1 [[VS ((y8.tail.tail.hA).toStr)]]/\(((([]:List (List AV))++((y8.tail.hA).elems)).length)+([[VS ((y8.tail.tail.hA).toStr)]]:List (List AV)).length)*16<=140737488355328)<|.call 123 [(((y8.hA).deref.drop 3).hA),.sl ((([]:List (List AV))++((y8.tail.hA).elems))++([[VS ((y8.tail.tail.hA).toStr)]]:List (List AV))),.gf 123 [none,some 0,some 1],.ref 0 0,.ref 1 0] [.cells [((q8.hO).cs.getD 0 .any)],.cells [VI (((q8.tail.hO).cs.getD 0 .any).toInt)]] fun r9 o9=>.aj ((o9.hO)=.cells (o9.hO).cs)<|.aj (aM [.lk .sl] ((o9.hO).cs) 0 1 o9.tail)<|.aj ((o9.tail.hO)=.cells (o9.tail.hO).cs)<|.aj (aM [.lk (.int .i64)] ((o9.tail.hO).cs) 0 2 o9.tail.tail)<|NS r9<|.aj (ae (((((mk [40,114,101,99,32]):ByteArray)++((y8.tail.tail.hA).toStr)):ByteArray)++(mk [32]))+ae r9.toStr<=9223372036854775807)<|.aj (ae (((((((mk [40,114,101,99,32]):ByteArray)++((y8.tail.tail.hA).toStr)):ByteArray)++(mk [32])):ByteArray)++r9.toStr)+ae (mk [41])<=9223372036854775807)<|.done 0 [VS (((((((((mk [40,114,101,99,32]):ByteArray)++((y8.tail.tail.hA).toStr)):ByteArray)++(mk [32])):ByteArray)++r9.toStr):ByteArray)++(mk [41]))] [.cells [((o9.hO).cs.getD 0 .any)],.cells [VI (((o9.tail.hO).cs.getD 0 .any).toInt)]]) (fun y8 q8=>.aj ((q8.hO)=.cells (q8.hO).cs)<|.aj (af [.lk .sl] ((q8.hO).cs) 0 q8.tail)<|.aj (((q8.tail.drop 0).hO)=.cells ((q8.tail.drop 0).hO).cs)<|.aj (af [.lk (.int .i64)] (((q8.tail.drop 0).hO).cs) 0 ((q8.tail.drop 0).tail))<|.done 0 [.any] [.cells [((q8.hO).cs.getD 0 .any)],.cells [VI (((q8.tail.hO).cs.getD 0 .any).toInt)]])) (NZ a0<|NZ a0<|.aj (LK.has (.int .u8) (a0.deref.hA)/\1<=a0.deref.length)<|.aj (jh [[.v (.int .u8 ((a0.deref.hA).toInt))]])<|.done 0 [VS (⟨(bytesOf [[.v (.int .u8 ((a0.deref.hA).toInt))]]).toArray⟩)] [.cells [a3_0],.cells [VI a4_0]])))))
theorem DJ(a0:AV)(a1:AV)(a3_0:AV)(a4_0:Int)(ha0:LK.has .ptr a0)(ha1:LK.has .sl a1)(ha3_0:LK.has .sl a3_0)(h:du 100 (C8 a0 a1 a3_0 a4_0) R):aq Tryz.prog 123 [a0,a1,.gf 123 [none,some 0,some 1],.ref 0 0,.ref 1 0] [.cells [a3_0],.cells [VI a4_0]] R :=
 aq.nM (bo (bX (ah (cb ha3_0) aF)) (bo (bX (ah (aC _) aF)) cu)) (aq.up (ah (bu ha0) (ah (cb ha1) (ah (aC _) (ah (aC _) (ah (aC _) aF))))) (oF ID {mu:=[(2,.yQ 123 [none,some 0,some 1]),(3,.one (.obj [.lk .sl])),(4,.one (.obj [.lk (.int .i64)]))],own:=[]} Tryz.f123 h))
def Ft(x0:AV)(x1:AV)(x9:ByteArray)(o0_0:AV)(o1_0:Int):Tree :=
 NP x0<|NL x1<|NS (VS x9)<|.aj (Ob.cells [o0_0]=.cells [o0_0])<|.aj (af [.lk .sl] [o0_0] 0 [.cells [VI o1_0]])<|.aj (Ob.cells [VI o1_0]=.cells [VI o1_0])<|.aj (af [.lk (.int .i64)] [VI o1_0] 0 [])<|.test (ag x9==ag (mk [])) (.call 120 [VI o1_0] [] fun r1 o1=>NS r1<|.aj (ae (mk [116])+ae r1.toStr<=9223372036854775807)<|.done 0 [x0,x1,VS (((mk [116]):ByteArray)++r1.toStr)] [.cells [o0_0],.cells [VI (IntKind.wrap .i64 (o1_0+1))]]) (.call 124 [o0_0,VS x9] [] fun r2 o2=>NB r2<|.test r2.toBool (.call 120 [VI o1_0] [] fun r3 o3=>NS r3<|.aj (ae (mk [116])+ae r3.toStr<=9223372036854775807)<|.done 0 [x0,x1,VS (((mk [116]):ByteArray)++r3.toStr)] [.cells [o0_0],.cells [VI (IntKind.wrap .i64 (o1_0+1))]]) (.done 1 [x0,x1,VS x9] [.cells [o0_0],.cells [VI o1_0]]))
abbrev CT:=cA Tryz.prog 100 Kd Ek
theorem GR(x0:AV)(x1:AV)(x9:ByteArray)(o0_0:AV)(o1_0:Int)(h:lM 100 (Ft x0 x1 x9 o0_0 o1_0) CT U):CT [x0,x1,VS x9] [.cells [o0_0],.cells [VI o1_0]] U :=
 gQ ID h
def JK(a0:AV)(a1:ByteArray):Tree :=
 .call 149 [a0,VS a1] [] fun r1 o1=>NI r1<|.done 0 [VB (decide (r1.toInt≥(0:Int)))] []
theorem Mh(a0:AV)(a1:ByteArray)(ha0:LK.has .sl a0)(h:du 9 (JK a0 a1) R):aq Tryz.prog 124 [a0,VS a1] [] R :=
 uQ (ah (cb ha0) (ah (aC _) aF)) (oQ [] Tryz.f124 h)
def G7(a0:AV):Tree :=
 .call 122 [a0] [] fun r1 o1=>NL r1<|.call 150 [r1,.v (.func (.func 118) #[] #[])] [] fun r2 o2=>NB r2<|.done 0 [VB (!r2.toBool)] []
theorem OM(a0:AV)(ha0:LK.has .ptr a0)(h:du 7 (G7 a0) R):aq Tryz.prog 125 [a0] [] R :=
 uQ (ah (bu ha0) aF) (oQ [] Tryz.f125 h)
def EK:LI:={hd:={bZ:=[(3,.k .ptr),(10,.k (.int .i64)),(11,.k (.int .i64))]},xs:={bZ:=[(3,.k .ptr)]},rt:={},ex:=0}
def KG:Code:=cN (cF Tryz.f127) 3
def Kt:List (Nat×LI):=[(3,EK)]
def Gv(a0_0:AV)(a0_1:AV):Tree :=
 NZ a0_0<|NZ a0_0<|.aj (LK.has (.int .i64) ((a0_0.deref.drop 2).hA)/\1<=(a0_0.deref.drop 2).length)<|.loop KG EK [a0_1,VI (((a0_0.deref.drop 2).hA).toInt),VI 0] [] (fun y1 q1=>NP (y1.hA)<|NZ (y1.hA)<|NZ (y1.hA)<|.aj (LK.has .ptr ((y1.hA).deref.hA)/\1<=((y1.hA).deref).length)<|.done 0 [((y1.hA).deref.hA)] []) (fun y1 q1=>.done 0 [.any] [])
theorem KL(a0_0:AV)(a0_1:AV)(ha0_0:LK.has .ptr a0_0)(ha0_1:LK.has .ptr a0_1)(h:du 22 (Gv a0_0 a0_1) R):aq Tryz.prog 127 [.agg [a0_0,a0_1]] [] R :=
 uQ (ah (cL (ah (bu ha0_0) (ah (bu ha0_1) aF))) aF) (oQ Kt Tryz.f127 h)
def A1(x3:AV)(x10:Int)(x11:Int):Tree :=
 NP x3<|NI (VI x10)<|NI (VI x11)<|.test (decide (x11<x10)) (NZ x3<|NZ x3<|dY (x3.deref.drop 1)<|.done 0 [((x3.deref.drop 1).hA),VI x10,VI (IntKind.wrap .i64 (x11+1))] []) (.done 1 [x3] [])
abbrev BG:=cA Tryz.prog 22 KG EK
theorem CQ(x3:AV)(x10:Int)(x11:Int)(h:lM 22 (A1 x3 x10 x11) BG U):BG [x3,VI x10,VI x11] [] U :=
 gQ Kt h
def JE(a0:ByteArray):Tree :=
 .test (decide ((ae a0:Int)<(2:Int))) (.done 0 [VB false] []) (.test (decide ((ae a0:Int)>(3:Int))) (.done 0 [VB false] []) (.aj (0<=(0:Int)/\(0:Int)<ae a0)<|.test ((bt a0 0) != (101:Int)) (.done 0 [VB false] []) (.aj (0<=(1:Int)/\(1:Int)<=(ae a0:Int)/\(ae a0:Int)<=(ae a0:Int))<|.call 153 [VS (bV a0 (bR 1) (bR (ae a0:Int))),VS (mk [48,49,50,51,52,53,54,55,56,57])] [] fun r1 o1=>NS r1<|.test (!(ag r1.toStr==ag (mk []))) (.done 0 [VB false] []) (.test ((ae a0:Int)==(2:Int)) (.done 0 [VB true] []) (.aj (0<=(1:Int)/\(1:Int)<ae a0)<|.done 0 [VB ((bt a0 1) != (48:Int))] [])))))
theorem L9(a0:ByteArray)(h:du 30 (JE a0) R):aq Tryz.prog 128 [VS a0] [] R :=
 uQ (ah (aC _) aF) (oQ [] Tryz.f128 h)
def LF(a0:AV)(a1:ByteArray):Tree :=
 .aj (LK.has .sl a0/\cx 1 a0.elems/\((([]:List (List AV)).length)+a0.elems.length)*16<=140737488355328)<|.aj (cx 1 [[VS a1]]/\(((([]:List (List AV))++a0.elems).length)+([[VS a1]]:List (List AV)).length)*16<=140737488355328)<|.done 0 [.vec 0] [.vec 1 ((([]:List (List AV))++a0.elems)++([[VS a1]]:List (List AV)))]
theorem Nu(a0:AV)(a1:ByteArray)(ha0:LK.has .sl a0)(h:du 11 (LF a0 a1) R):aq Tryz.prog 129 [a0,VS a1] [] R :=
 uQ (ah (cb ha0) (ah (aC _) aF)) (oF [] {mu:=[],own:=[0]} Tryz.f129 h)
def Ac(a0_0:ByteArray)(a0_1:AV)(a1:AV):Tree :=
 .call 54 [.agg [VS a0_0,a0_1]] [] fun r1 o1=>NS r1<|.test (ag r1.toStr==ag (mk [43])) (NG a0_1 1 2<|NE (a0_1.ix (1:Int))<|.call 133 [.agg [VS (((a0_1.ix (1:Int)).getD 0 .any).toStr),((a0_1.ix (1:Int)).getD 1 .any)],a1] [] fun r2 o2=>NB r2<|.test r2.toBool (NG a0_1 2 2<|NE (a0_1.ix (2:Int))<|.call 133 [.agg [VS (((a0_1.ix (2:Int)).getD 0 .any).toStr),((a0_1.ix (2:Int)).getD 1 .any)],a1] [] fun r3 o3=>NB r3<|.done 0 [VB r3.toBool] []) (.done 0 [VB false] [])) (.test (ag r1.toStr==ag (mk [42])) (NG a0_1 1 2<|NE (a0_1.ix (1:Int))<|.call 133 [.agg [VS (((a0_1.ix (1:Int)).getD 0 .any).toStr),((a0_1.ix (1:Int)).getD 1 .any)],a1] [] fun r4 o4=>NB r4<|.test r4.toBool (.done 0 [VB true] []) (NG a0_1 2 2<|NE (a0_1.ix (2:Int))<|.call 133 [.agg [VS (((a0_1.ix (2:Int)).getD 0 .any).toStr),((a0_1.ix (2:Int)).getD 1 .any)],a1] [] fun r5 o5=>NB r5<|.done 0 [VB r5.toBool] [])) (.test (ag r1.toStr==ag (mk [114,101,99])) (NG a0_1 2 2<|NE (a0_1.ix (2:Int))<|NG a0_1 1 2<|mc (a0_1.ix (1:Int))<|.call 129 [a1,VS (((a0_1.ix (1:Int)).hA).toStr)] [] fun r6 o6=>.aj (r6=.vec 0/\(o6.hO)=.vec 1 (o6.hO).es)<|.aj (∀x,x∈o6->jn x)<|.call 133 [.agg [VS (((a0_1.ix (2:Int)).getD 0 .any).toStr),((a0_1.ix (2:Int)).getD 1 .any)],.sl ((o6.hO).es)] [] fun r7 o7=>NB r7<|.done 0 [VB r7.toBool] []) (.test (ag a0_0==ag (mk [48])) (.done 0 [VB true] []) (.call 139 [a1,VS a0_0] [] fun r8 o8=>NB r8<|.done 0 [VB r8.toBool] []))))
theorem BZ(a0_0:ByteArray)(a0_1:AV)(a1:AV)(ha0_1:LK.has .sl a0_1)(ha1:LK.has .sl a1)(h:du 62 (Ac a0_0 a0_1 a1) R):aq Tryz.prog 133 [.agg [VS a0_0,a0_1],a1] [] R :=
 uQ (ah (cL (ah (aC _) (ah (cb ha0_1) aF))) (ah (cb ha1) aF)) (oQ [] Tryz.f133 h)
def Gb:LI:={hd:={bZ:=[(3,.k (.int .i64)),(4,.k (.int .i64))],refs:=[(1,1)],cj:=[(1,[.lk .str,.lk .sl])]},xs:={bZ:=[(3,.k (.int .i64))]},rt:={},ex:=0}
def Ki:Code:=cN (cF Tryz.f134) 5
def Lb:List (Nat×LI):=[(5,Gb)]
def FL(a0_0:ByteArray)(a0_1:AV):Tree :=
 .test (!(ag a0_0==ag (mk []))) (.done 0 [VI 1] []) (.loop Ki Gb [VI 0,VI 0] [.cells [VS a0_0,a0_1]] (fun y2 q2=>NI (y2.hA)<|.done 0 [VI ((y2.hA).toInt)] []) (fun y2 q2=>.done 0 [.any] []))
theorem KK(a0_0:ByteArray)(a0_1:AV)(ha0_1:LK.has .sl a0_1)(h:du 24 (FL a0_0 a0_1) R):aq Tryz.prog 134 [.agg [VS a0_0,a0_1]] [] R :=
 uQ (ah (cL (ah (aC _) (ah (cb ha0_1) aF))) aF) (oQ Lb Tryz.f134 h)
def DM(x3:Int)(x4:Int)(o1_0:ByteArray)(o1_1:AV):Tree :=
 NI (VI x3)<|NI (VI x4)<|.aj (Ob.cells [VS o1_0,o1_1]=.cells [VS o1_0,o1_1])<|.aj (af [.lk .str,.lk .sl] [VS o1_0,o1_1] 0 [])<|NL o1_1<|.test (decide (x4<(o1_1.elems.length:Int))) (NG o1_1 x4 2<|NE (o1_1.ix x4)<|.call 134 [.agg [VS (((o1_1.ix x4).getD 0 .any).toStr),((o1_1.ix x4).getD 1 .any)]] [] fun r1 o1=>NI r1<|.done 0 [VI (IntKind.wrap .i64 (x3+r1.toInt)),VI (IntKind.wrap .i64 (x4+1))] [.cells [VS o1_0,o1_1]]) (.done 1 [VI x3] [])
abbrev Ea:=cA Tryz.prog 24 Ki Gb
theorem Kf(x3:Int)(x4:Int)(o1_0:ByteArray)(o1_1:AV)(h:lM 24 (DM x3 x4 o1_0 o1_1) Ea U):Ea [VI x3,VI x4] [.cells [VS o1_0,o1_1]] U :=
 gQ Lb h
def GN(a0_0:ByteArray)(a0_1:AV):Tree :=
 NG a0_1 1 2<|mc (a0_1.ix (1:Int))<|NG a0_1 2 2<|NE (a0_1.ix (2:Int))<|.call 156 [.agg [VS (((a0_1.ix (2:Int)).getD 0 .any).toStr),((a0_1.ix (2:Int)).getD 1 .any)],VS (((a0_1.ix (1:Int)).hA).toStr),.agg [VS a0_0,a0_1]] [] fun r1 o1=>NB r1<|.test (!r1.toBool) (.done 0 [.cW [.agg [VS a0_0,a0_1],VB false]] []) (NG a0_1 2 2<|NE (a0_1.ix (2:Int))<|.call 157 [.agg [VS (((a0_1.ix (2:Int)).getD 0 .any).toStr),((a0_1.ix (2:Int)).getD 1 .any)],VS (((a0_1.ix (1:Int)).hA).toStr),.agg [VS a0_0,a0_1]] [] fun r2 o2=>NA r2<|.done 0 [.cW [.agg [VS ((r2.cs.getD 0 .any).toStr),(r2.cs.getD 1 .any)],VB true]] [])
theorem NX(a0_0:ByteArray)(a0_1:AV)(ha0_1:LK.has .sl a0_1)(h:du 26 (GN a0_0 a0_1) R):aq Tryz.prog 135 [.agg [VS a0_0,a0_1]] [] R :=
 uQ (ah (cL (ah (aC _) (ah (cb ha0_1) aF))) aF) (oQ [] Tryz.f135 h)
def Jm(a0:Int):Tree :=
 .test (decide (a0<((-9223372036854775807):Int))) (.done 0 [VS (mk [45,57,50,50,51,51,55,50,48,51,54,56,53,52,55,55,53,56,48,56])] []) (.test (decide (a0<(0:Int))) (.call 136 [VI (IntKind.wrap .i64 (0-a0))] [] fun r1 o1=>NS r1<|.aj (ae (mk [45])+ae r1.toStr<=9223372036854775807)<|.done 0 [VS (((mk [45]):ByteArray)++r1.toStr)] []) (.test (decide (a0<(10:Int))) (.aj (jh [[.v (.int .u8 (IntKind.wrap .u8 (IntKind.wrap .i64 (48+a0))))]])<|.done 0 [VS (⟨(bytesOf [[.v (.int .u8 (IntKind.wrap .u8 (IntKind.wrap .i64 (48+a0))))]]).toArray⟩)] []) (.aj (¬(10:Int)=0)<|.call 136 [VI (IntKind.wrap .i64 (Int.tdiv a0 10))] [] fun r2 o2=>NS r2<|.aj (¬(10:Int)=0)<|.aj (jh [[.v (.int .u8 (IntKind.wrap .u8 (IntKind.wrap .i64 (48+(dj a0 10)))))]])<|.aj (ae r2.toStr+ae (⟨(bytesOf [[.v (.int .u8 (IntKind.wrap .u8 (IntKind.wrap .i64 (48+(dj a0 10)))))]]).toArray⟩)<=9223372036854775807)<|.done 0 [VS ((r2.toStr:ByteArray)++(⟨(bytesOf [[.v (.int .u8 (IntKind.wrap .u8 (IntKind.wrap .i64 (48+(dj a0 10)))))]]).toArray⟩))] [])))
theorem M3(a0:Int)(h:du 28 (Jm a0) R):aq Tryz.prog 136 [VI a0] [] R :=
 uQ (ah (aC _) aF) (oQ [] Tryz.f136 h)
def FM:LI:={hd:={bZ:=[(1,.k .sl),(2,.k .sl),(9,.k (.int .i64))],refs:=[(4,4),(8,8)],cj:=[(4,[.lk .str,.lk .sl]),(8,[.lk .str,.lk .sl]),(0,[.vec 1,.lk (.int .i64)])]},xs:={refs:=[(4,4),(8,8)],cj:=[(4,[.lk .str,.lk .sl]),(8,[.lk .str,.lk .sl]),(0,[.vec 1,.lk (.int .i64)])]},rt:={refs:=[(8,8)],cj:=[(8,[.lk .str,.lk .sl]),(0,[.vec 1,.lk (.int .i64)])]},ex:=0,fx:=[0]}
def JO:Code:=cN (cF Tryz.f137) 3
def Fp:LI:={hd:={bZ:=[(1,.k .sl),(2,.k .sl),(10,.k .str)],refs:=[(3,0),(4,4),(8,8)],cj:=[(0,[.vec 1,.lk (.int .i64)]),(4,[.lk .str,.lk .sl]),(8,[.lk .str,.lk .sl])]},xs:={bZ:=[(1,.k .sl),(2,.k .sl),(10,.k .str)],refs:=[(3,0),(4,4),(8,8)],cj:=[(0,[.vec 1,.lk (.int .i64)]),(4,[.lk .str,.lk .sl]),(8,[.lk .str,.lk .sl])]},rt:={cj:=[(0,[.vec 1,.lk (.int .i64)])]},ex:=2,fx:=[0]}
def IS:Code:=cN (cF Tryz.f137) 10
def F0:List (Nat×LI):=[(3,FM),(10,Fp)]
def A4(a0_0:ByteArray)(a0_1:AV)(a1:AV)(a2:AV)(e3_0:List (List AV))(a3_1:Int):Tree :=
 .test (!(ag a0_0==ag (mk []))) (NL a1<|.loop JO FM [a1,a2,VI (IntKind.wrap .i64 ((a1.elems.length:Int)-1))] [.cells [VS a0_0,a0_1],.cells [VS (mk []),.v (.slice none 0 0)],.cells [.any,VI a3_1],.vec 1 e3_0] (fun y1 q1=>.aj ((q1.hO)=.cells (q1.hO).cs)<|.aj (af [.lk .str,.lk .sl] ((q1.hO).cs) 0 q1.tail)<|.aj (((q1.tail.drop 0).hO)=.cells ((q1.tail.drop 0).hO).cs)<|.aj (af [.lk .str,.lk .sl] (((q1.tail.drop 0).hO).cs) 0 ((q1.tail.drop 0).tail))<|.aj ((((q1.tail.drop 0).tail.drop 0).hO)=.cells (((q1.tail.drop 0).tail.drop 0).hO).cs)<|.aj (af [.vec 1,.lk (.int .i64)] ((((q1.tail.drop 0).tail.drop 0).hO).cs) 0 (((q1.tail.drop 0).tail.drop 0).tail))<|.done 0 [.agg [VS (((q1.hO).cs.getD 0 .any).toStr),((q1.hO).cs.getD 1 .any)]] [.cells [.vec 1,VI (((q1.tail.tail.hO).cs.getD 1 .any).toInt)],.vec 1 ((q1.tail.tail.tail.hO).es)]) (fun y1 q1=>.aj ((q1.hO)=.cells (q1.hO).cs)<|.aj (af [.lk .str,.lk .sl] ((q1.hO).cs) 0 q1.tail)<|.aj (((q1.tail.drop 0).hO)=.cells ((q1.tail.drop 0).hO).cs)<|.aj (af [.vec 1,.lk (.int .i64)] (((q1.tail.drop 0).hO).cs) 0 ((q1.tail.drop 0).tail))<|.done 0 [.agg [VS (((q1.hO).cs.getD 0 .any).toStr),((q1.hO).cs.getD 1 .any)]] [.cells [.vec 1,VI (((q1.tail.hO).cs.getD 1 .any).toInt)],.vec 1 ((q1.tail.tail.hO).es)])) (.call 54 [.agg [VS a0_0,a0_1]] [] fun r2 o2=>NS r2<|.test (ag r2.toStr==ag (mk [114,101,99])) (.call 136 [VI a3_1] [] fun r3 o3=>NS r3<|.aj (ae (mk [116])+ae r3.toStr<=9223372036854775807)<|.loop IS Fp [a1,a2,VS (((mk [116]):ByteArray)++r3.toStr)] [.cells [.any,VI a3_1],.vec 1 e3_0,.cells [VS a0_0,a0_1],.cells [VS (mk []),.v (.slice none 0 0)]] (fun y6 q6=>NL (y6.hA)<|NL (y6.tail.hA)<|NS (y6.tail.tail.hA)<|.aj ((q6.hO)=.cells (q6.hO).cs)<|.aj (af [.vec 1,.lk (.int .i64)] ((q6.hO).cs) 0 q6.tail)<|.aj (((q6.tail.drop 1).hO)=.cells ((q6.tail.drop 1).hO).cs)<|.aj (af [.lk .str,.lk .sl] (((q6.tail.drop 1).hO).cs) 0 ((q6.tail.drop 1).tail))<|.aj ((((q6.tail.drop 1).tail.drop 0).hO)=.cells (((q6.tail.drop 1).tail.drop 0).hO).cs)<|.aj (af [.lk .str,.lk .sl] ((((q6.tail.drop 1).tail.drop 0).hO).cs) 0 (((q6.tail.drop 1).tail.drop 0).tail))<|NG ((q6.tail.tail.hO).cs.getD 1 .any) 2 2<|NE (((q6.tail.tail.hO).cs.getD 1 .any).ix (2:Int))<|NG ((q6.tail.tail.hO).cs.getD 1 .any) 1 2<|mc (((q6.tail.tail.hO).cs.getD 1 .any).ix (1:Int))<|.call 129 [(y6.hA),VS (((((q6.tail.tail.hO).cs.getD 1 .any).ix (1:Int)).hA).toStr)] [] fun r7 o7=>.aj (r7=.vec 0/\(o7.hO)=.vec 1 (o7.hO).es)<|.aj (∀x,x∈o7->jn x)<|.call 129 [(y6.tail.hA),VS ((y6.tail.tail.hA).toStr)] [] fun r8 o8=>.aj (r8=.vec 0/\(o8.hO)=.vec 1 (o8.hO).es)<|.aj (∀x,x∈o8->jn x)<|.call 137 [.agg [VS (((((q6.tail.tail.hO).cs.getD 1 .any).ix (2:Int)).getD 0 .any).toStr),((((q6.tail.tail.hO).cs.getD 1 .any).ix (2:Int)).getD 1 .any)],.sl ((o7.hO).es),.sl ((o8.hO).es),.ref 0 0] [.cells [.vec 1,VI (IntKind.wrap .i64 ((((q6.hO).cs.getD 1 .any).toInt)+1))],.vec 1 ((q6.tail.hO).es)] fun r9 o9=>.aj ((o9.hO)=.cells (o9.hO).cs)<|.aj (aM [.vec 1,.lk (.int .i64)] ((o9.hO).cs) 0 1 o9.tail)<|NA r9<|.call 61 [VS (mk [114,101,99]),.sl [[VS ((y6.tail.tail.hA).toStr),.v (.slice none 0 0)],[VS ((r9.cs.getD 0 .any).toStr),(r9.cs.getD 1 .any)]]] [] fun r10 o10=>NA r10<|.done 0 [.agg [VS ((r10.cs.getD 0 .any).toStr),(r10.cs.getD 1 .any)]] [.cells [.vec 1,VI (((o9.hO).cs.getD 1 .any).toInt)],.vec 1 ((o9.tail.hO).es)]) (fun y6 q6=>.aj ((q6.hO)=.cells (q6.hO).cs)<|.aj (af [.vec 1,.lk (.int .i64)] ((q6.hO).cs) 0 q6.tail)<|.fail)) (NG a0_1 1 2<|NE (a0_1.ix (1:Int))<|.call 137 [.agg [VS (((a0_1.ix (1:Int)).getD 0 .any).toStr),((a0_1.ix (1:Int)).getD 1 .any)],a1,a2,.ref 0 0] [.cells [.vec 1,VI a3_1],.vec 1 e3_0] fun r11 o11=>.aj ((o11.hO)=.cells (o11.hO).cs)<|.aj (aM [.vec 1,.lk (.int .i64)] ((o11.hO).cs) 0 1 o11.tail)<|NA r11<|.call 54 [.agg [VS a0_0,a0_1]] [] fun r12 o12=>NS r12<|NG a0_1 2 2<|NE (a0_1.ix (2:Int))<|.call 137 [.agg [VS (((a0_1.ix (2:Int)).getD 0 .any).toStr),((a0_1.ix (2:Int)).getD 1 .any)],a1,a2,.ref 0 0] [.cells [.vec 1,VI (((o11.hO).cs.getD 1 .any).toInt)],.vec 1 ((o11.tail.hO).es)] fun r13 o13=>.aj ((o13.hO)=.cells (o13.hO).cs)<|.aj (aM [.vec 1,.lk (.int .i64)] ((o13.hO).cs) 0 1 o13.tail)<|NA r13<|.call 61 [VS r12.toStr,.sl [[VS ((r11.cs.getD 0 .any).toStr),(r11.cs.getD 1 .any)],[VS ((r13.cs.getD 0 .any).toStr),(r13.cs.getD 1 .any)]]] [] fun r14 o14=>NA r14<|.done 0 [.agg [VS ((r14.cs.getD 0 .any).toStr),(r14.cs.getD 1 .any)]] [.cells [.vec 1,VI (((o13.hO).cs.getD 1 .any).toInt)],.vec 1 ((o13.tail.hO).es)]))
theorem Cc(a0_0:ByteArray)(a0_1:AV)(a1:AV)(a2:AV)(e3_0:List (List AV))(a3_1:Int)(ha0_1:LK.has .sl a0_1)(ha1:LK.has .sl a1)(ha2:LK.has .sl a2)(h:du 113 (A4 a0_0 a0_1 a1 a2 e3_0 a3_1) R):aq Tryz.prog 137 [.agg [VS a0_0,a0_1],a1,a2,.ref 0 0] [.cells [.vec 1,VI a3_1],.vec 1 e3_0] R :=
 aq.nM (bo (bX (ah (aC _) (ah (aC _) aF))) (bo (fY _) cu)) (aq.up (ah (cL (ah (aC _) (ah (cb ha0_1) aF))) (ah (cb ha1) (ah (cb ha2) (ah (aC _) aF)))) (oF F0 {mu:=[(3,.one (.obj [.vec 1,.lk (.int .i64)]))],own:=[]} Tryz.f137 h))
def FE(x1:AV)(x2:AV)(x9:Int)(o4_0:ByteArray)(o4_1:AV)(o8_0:ByteArray)(o8_1:AV)(o0_0:List (List AV))(o0_1:Int):Tree :=
 NL x1<|NL x2<|NI (VI x9)<|.aj (Ob.cells [VS o4_0,o4_1]=.cells [VS o4_0,o4_1])<|.aj (af [.lk .str,.lk .sl] [VS o4_0,o4_1] 0 [.cells [VS o8_0,o8_1],.cells [.any,VI o0_1],.vec 1 o0_0])<|.aj (Ob.cells [VS o8_0,o8_1]=.cells [VS o8_0,o8_1])<|.aj (af [.lk .str,.lk .sl] [VS o8_0,o8_1] 0 [.cells [.any,VI o0_1],.vec 1 o0_0])<|.aj (Ob.cells [.any,VI o0_1]=.cells [.any,VI o0_1])<|.aj (af [.vec 1,.lk (.int .i64)] [.any,VI o0_1] 0 [.vec 1 o0_0])<|.test (decide (x9≥(0:Int))) (NG x1 x9 1<|mc (x1.ix x9)<|.test (ag (((x1.ix x9).hA).toStr)==ag o4_0) (NG x2 x9 1<|mc (x2.ix x9)<|.done 2 [] [.cells [VS (((x2.ix x9).hA).toStr),.v (.slice none 0 0)],.cells [.any,VI o0_1],.vec 1 o0_0]) (.done 0 [x1,x2,VI (IntKind.wrap .i64 (x9-1))] [.cells [VS o4_0,o4_1],.cells [VS o8_0,o8_1],.cells [.any,VI o0_1],.vec 1 o0_0])) (.done 1 [] [.cells [VS o4_0,o4_1],.cells [VS o8_0,o8_1],.cells [.any,VI o0_1],.vec 1 o0_0])
abbrev GB:=cA Tryz.prog 113 JO FM
theorem Hi(x1:AV)(x2:AV)(x9:Int)(o4_0:ByteArray)(o4_1:AV)(o8_0:ByteArray)(o8_1:AV)(o0_0:List (List AV))(o0_1:Int)(h:lM 113 (FE x1 x2 x9 o4_0 o4_1 o8_0 o8_1 o0_0 o0_1) GB U):GB [x1,x2,VI x9] [.cells [VS o4_0,o4_1],.cells [VS o8_0,o8_1],.cells [.any,VI o0_1],.vec 1 o0_0] U :=
 gQ F0 h
def JV(x1:AV)(x2:AV)(x10:ByteArray)(o0_0:List (List AV))(o0_1:Int)(o4_0:ByteArray)(o4_1:AV)(o8_0:ByteArray)(o8_1:AV):Tree :=
 NL x1<|NL x2<|NS (VS x10)<|.aj (Ob.cells [.any,VI o0_1]=.cells [.any,VI o0_1])<|.aj (af [.vec 1,.lk (.int .i64)] [.any,VI o0_1] 0 [.vec 1 o0_0,.cells [VS o4_0,o4_1],.cells [VS o8_0,o8_1]])<|.aj (Ob.cells [VS o4_0,o4_1]=.cells [VS o4_0,o4_1])<|.aj (af [.lk .str,.lk .sl] [VS o4_0,o4_1] 0 [.cells [VS o8_0,o8_1]])<|.aj (Ob.cells [VS o8_0,o8_1]=.cells [VS o8_0,o8_1])<|.aj (af [.lk .str,.lk .sl] [VS o8_0,o8_1] 0 [])<|.call 139 [.sl o0_0,VS x10] [] fun r1 o1=>NB r1<|.test r1.toBool (.call 136 [VI (IntKind.wrap .i64 (o0_1+1))] [] fun r2 o2=>NS r2<|.aj (ae (mk [116])+ae r2.toStr<=9223372036854775807)<|.done 0 [x1,x2,VS (((mk [116]):ByteArray)++r2.toStr)] [.cells [.any,VI (IntKind.wrap .i64 (o0_1+1))],.vec 1 o0_0,.cells [VS o4_0,o4_1],.cells [VS o8_0,o8_1]]) (.done 1 [x1,x2,VS x10] [.cells [.any,VI o0_1],.vec 1 o0_0,.cells [VS o4_0,o4_1],.cells [VS o8_0,o8_1]])
abbrev DE:=cA Tryz.prog 113 IS Fp
theorem MT(x1:AV)(x2:AV)(x10:ByteArray)(o0_0:List (List AV))(o0_1:Int)(o4_0:ByteArray)(o4_1:AV)(o8_0:ByteArray)(o8_1:AV)(h:lM 113 (JV x1 x2 x10 o0_0 o0_1 o4_0 o4_1 o8_0 o8_1) DE U):DE [x1,x2,VS x10] [.cells [.any,VI o0_1],.vec 1 o0_0,.cells [VS o4_0,o4_1],.cells [VS o8_0,o8_1]] U :=
 gQ F0 h
def DF(a0_0:ByteArray)(a0_1:AV):Tree :=
 .test (!(ag a0_0==ag (mk []))) (.test (ag a0_0==ag (mk [48])) (.done 0 [VB true] []) (.test (ag a0_0==ag (mk [49])) (.done 0 [VB true] []) (.call 101 [VS a0_0] [] fun r1 o1=>NB r1<|.test r1.toBool (.done 0 [VB true] []) (.call 99 [VS a0_0] [] fun r2 o2=>NB r2<|.done 0 [VB r2.toBool] [])))) (NL a0_1<|.test ((a0_1.elems.length:Int) != (3:Int)) (.done 0 [VB false] []) (.call 54 [.agg [VS a0_0,a0_1]] [] fun r3 o3=>NS r3<|.test (ag r3.toStr==ag (mk [43])) (NG a0_1 1 2<|NE (a0_1.ix (1:Int))<|.call 138 [.agg [VS (((a0_1.ix (1:Int)).getD 0 .any).toStr),((a0_1.ix (1:Int)).getD 1 .any)]] [] fun r4 o4=>NB r4<|.test r4.toBool (NG a0_1 2 2<|NE (a0_1.ix (2:Int))<|.call 138 [.agg [VS (((a0_1.ix (2:Int)).getD 0 .any).toStr),((a0_1.ix (2:Int)).getD 1 .any)]] [] fun r5 o5=>NB r5<|.done 0 [VB r5.toBool] []) (.done 0 [VB false] [])) (.test (ag r3.toStr==ag (mk [42])) (NG a0_1 1 2<|NE (a0_1.ix (1:Int))<|.call 138 [.agg [VS (((a0_1.ix (1:Int)).getD 0 .any).toStr),((a0_1.ix (1:Int)).getD 1 .any)]] [] fun r6 o6=>NB r6<|.test r6.toBool (NG a0_1 2 2<|NE (a0_1.ix (2:Int))<|.call 138 [.agg [VS (((a0_1.ix (2:Int)).getD 0 .any).toStr),((a0_1.ix (2:Int)).getD 1 .any)]] [] fun r7 o7=>NB r7<|.done 0 [VB r7.toBool] []) (.done 0 [VB false] [])) (.test (ag r3.toStr==ag (mk [114,101,99])) (NG a0_1 1 2<|mc (a0_1.ix (1:Int))<|.call 99 [VS (((a0_1.ix (1:Int)).hA).toStr)] [] fun r8 o8=>NB r8<|.test r8.toBool (NG a0_1 2 2<|NE (a0_1.ix (2:Int))<|.call 138 [.agg [VS (((a0_1.ix (2:Int)).getD 0 .any).toStr),((a0_1.ix (2:Int)).getD 1 .any)]] [] fun r9 o9=>NB r9<|.done 0 [VB r9.toBool] []) (.done 0 [VB false] [])) (.done 0 [VB false] [])))))
theorem Iy(a0_0:ByteArray)(a0_1:AV)(ha0_1:LK.has .sl a0_1)(h:du 60 (DF a0_0 a0_1) R):aq Tryz.prog 138 [.agg [VS a0_0,a0_1]] [] R :=
 uQ (ah (cL (ah (aC _) (ah (cb ha0_1) aF))) aF) (oQ [] Tryz.f138 h)
def Ew:LI:={hd:={bZ:=[(0,.k .sl),(1,.k .str),(5,.k (.int .i64))]},xs:={},rt:={bZ:=[(4,.k .bool)]},ex:=0}
def K2:Code:=cN (cF Tryz.f139) 2
def Lc:List (Nat×LI):=[(2,Ew)]
def KR(a0:AV)(a1:ByteArray):Tree :=
 .loop K2 Ew [a0,VS a1,VI 0] [] (fun y1 q1=>.done 0 [VB false] []) (fun y1 q1=>NB (y1.hA)<|.done 0 [VB ((y1.hA).toBool)] [])
theorem M4(a0:AV)(a1:ByteArray)(ha0:LK.has .sl a0)(h:du 18 (KR a0 a1) R):aq Tryz.prog 139 [a0,VS a1] [] R :=
 uQ (ah (cb ha0) (ah (aC _) aF)) (oQ Lc Tryz.f139 h)
def D6(x0:AV)(x1:ByteArray)(x5:Int):Tree :=
 NL x0<|NS (VS x1)<|NI (VI x5)<|NL x0<|.test (decide (x5<(x0.elems.length:Int))) (NG x0 x5 1<|mc (x0.ix x5)<|.test (ag (((x0.ix x5).hA).toStr)==ag x1) (.done 2 [VB true] []) (.done 0 [x0,VS x1,VI (IntKind.wrap .i64 (x5+1))] [])) (.done 1 [] [])
abbrev Ep:=cA Tryz.prog 18 K2 Ew
theorem IX(x0:AV)(x1:ByteArray)(x5:Int)(h:lM 18 (D6 x0 x1 x5) Ep U):Ep [x0,VS x1,VI x5] [] U :=
 gQ Lc h
def Ej:LI:={hd:={bZ:=[(0,.k .str),(7,.k (.int .i64))]},xs:={},rt:={bZ:=[(6,.k .bool)]},ex:=0}
def H5:Code:=cN (cF Tryz.f140) 4
def Hw:List (Nat×LI):=[(4,Ej)]
def HY(a0:ByteArray)(a1:Int)(a2:Int):Tree :=
 .call 55 [VI (ae a0:Int),VI 1,VI 3] [] fun r1 o1=>NB r1<|.test (!r1.toBool) (.done 0 [VB false] []) (.aj (0<=(0:Int)/\(0:Int)<ae a0)<|.test (decide ((bt a0 0)<a1)) (.done 0 [VB false] []) (.aj (0<=(0:Int)/\(0:Int)<ae a0)<|.test (decide ((bt a0 0)>a2)) (.done 0 [VB false] []) (.loop H5 Ej [VS a0,VI 1] [] (fun y2 q2=>.done 0 [VB true] []) (fun y2 q2=>NB (y2.hA)<|.done 0 [VB ((y2.hA).toBool)] []))))
theorem M5(a0:ByteArray)(a1:Int)(a2:Int)(h:du 40 (HY a0 a1 a2) R):aq Tryz.prog 140 [VS a0,.v (.int .u8 a1),.v (.int .u8 a2)] [] R :=
 uQ (ah (aC _) (ah (aC _) (ah (aC _) aF))) (oQ Hw Tryz.f140 h)
def Gk(x0:ByteArray)(x7:Int):Tree :=
 NS (VS x0)<|NI (VI x7)<|.test (decide (x7<(ae x0:Int))) (.aj (0<=x7/\x7<ae x0)<|.test (decide ((bt x0 x7)<(48:Int))) (.done 2 [VB false] []) (.aj (0<=x7/\x7<ae x0)<|.test (decide ((bt x0 x7)>(57:Int))) (.done 2 [VB false] []) (.done 0 [VS x0,VI (IntKind.wrap .i64 (x7+1))] []))) (.done 1 [] [])
abbrev FV:=cA Tryz.prog 40 H5 Ej
theorem G1(x0:ByteArray)(x7:Int)(h:lM 40 (Gk x0 x7) FV U):FV [VS x0,VI x7] [] U :=
 gQ Hw h
def I7(a0:Int):Tree :=
 .test (decide (a0≥(97:Int))) (.test (decide (a0<=(122:Int))) (.done 0 [VB true] []) (.test (decide (a0≥(48:Int))) (.test (decide (a0<=(57:Int))) (.done 0 [VB true] []) (.test (a0==(42:Int)) (.done 0 [VB true] []) (.done 0 [VB (a0==(43:Int))] []))) (.test (a0==(42:Int)) (.done 0 [VB true] []) (.done 0 [VB (a0==(43:Int))] [])))) (.test (decide (a0≥(48:Int))) (.test (decide (a0<=(57:Int))) (.done 0 [VB true] []) (.test (a0==(42:Int)) (.done 0 [VB true] []) (.done 0 [VB (a0==(43:Int))] []))) (.test (a0==(42:Int)) (.done 0 [VB true] []) (.done 0 [VB (a0==(43:Int))] [])))
theorem NV(a0:Int)(h:du 25 (I7 a0) R):aq Tryz.prog 141 [.v (.int .u8 a0)] [] R :=
 uQ (ah (aC _) aF) (oQ [] Tryz.f141 h)
def Jf(a0_0:AV)(a0_1:Int):Tree :=
 .call 45 [.ref 0 0,VI 12] [.cells [a0_0,VI a0_1]] fun r1 o1=>.aj ((o1.hO)=.cells (o1.hO).cs)<|.aj (aM [.lk .sl,.lk (.int .i64)] ((o1.hO).cs) 0 1 o1.tail)<|NI r1<|.test (r1.toInt==(0:Int)) (.call 94 [.ref 0 0,.sl [[VS (mk [])],[VS (mk [97])],[VS (mk [40,43,32,49,41])],[VS (mk [40,114,101,99,32,120,32,49,41])],[VS (mk [40,114,101,99,32,116,41])],[VS (mk [40,43,32,32,49,32,49,41])],[VS (mk [40,42,32,49,32,49,32,49,41])],[VS (mk [116,49,48,48])],[VS (mk [120,32,49])]]] [.cells [((o1.hO).cs.getD 0 .any),VI (((o1.hO).cs.getD 1 .any).toInt)]] fun r2 o2=>.aj ((o2.hO)=.cells (o2.hO).cs)<|.aj (aM [.lk .sl,.lk (.int .i64)] ((o2.hO).cs) 0 1 o2.tail)<|NS r2<|.done 0 [VS r2.toStr] [.cells [((o2.hO).cs.getD 0 .any),VI (((o2.hO).cs.getD 1 .any).toInt)]]) (.test (r1.toInt==(1:Int)) (.call 68 [.ref 0 0] [.cells [((o1.hO).cs.getD 0 .any),VI (((o1.hO).cs.getD 1 .any).toInt)]] fun r3 o3=>.aj ((o3.hO)=.cells (o3.hO).cs)<|.aj (aM [.lk .sl,.lk (.int .i64)] ((o3.hO).cs) 0 1 o3.tail)<|NS r3<|.done 0 [VS r3.toStr] [.cells [((o3.hO).cs.getD 0 .any),VI (((o3.hO).cs.getD 1 .any).toInt)]]) (.test (r1.toInt==(2:Int)) (.call 68 [.ref 0 0] [.cells [((o1.hO).cs.getD 0 .any),VI (((o1.hO).cs.getD 1 .any).toInt)]] fun r4 o4=>.aj ((o4.hO)=.cells (o4.hO).cs)<|.aj (aM [.lk .sl,.lk (.int .i64)] ((o4.hO).cs) 0 1 o4.tail)<|NS r4<|.done 0 [VS r4.toStr] [.cells [((o4.hO).cs.getD 0 .any),VI (((o4.hO).cs.getD 1 .any).toInt)]]) (.test (r1.toInt==(3:Int)) (.call 68 [.ref 0 0] [.cells [((o1.hO).cs.getD 0 .any),VI (((o1.hO).cs.getD 1 .any).toInt)]] fun r5 o5=>.aj ((o5.hO)=.cells (o5.hO).cs)<|.aj (aM [.lk .sl,.lk (.int .i64)] ((o5.hO).cs) 0 1 o5.tail)<|NS r5<|.done 0 [VS r5.toStr] [.cells [((o5.hO).cs.getD 0 .any),VI (((o5.hO).cs.getD 1 .any).toInt)]]) (.test (r1.toInt==(4:Int)) (.call 143 [.ref 0 0,.sl [[VS (mk [116])],[VS (mk [116,49])]],VI 2] [.cells [((o1.hO).cs.getD 0 .any),VI (((o1.hO).cs.getD 1 .any).toInt)]] fun r6 o6=>.aj ((o6.hO)=.cells (o6.hO).cs)<|.aj (aM [.lk .sl,.lk (.int .i64)] ((o6.hO).cs) 0 1 o6.tail)<|NS r6<|.done 0 [VS r6.toStr] [.cells [((o6.hO).cs.getD 0 .any),VI (((o6.hO).cs.getD 1 .any).toInt)]]) (.call 143 [.ref 0 0,.sl [],VI 3] [.cells [((o1.hO).cs.getD 0 .any),VI (((o1.hO).cs.getD 1 .any).toInt)]] fun r7 o7=>.aj ((o7.hO)=.cells (o7.hO).cs)<|.aj (aM [.lk .sl,.lk (.int .i64)] ((o7.hO).cs) 0 1 o7.tail)<|NS r7<|.done 0 [VS r7.toStr] [.cells [((o7.hO).cs.getD 0 .any),VI (((o7.hO).cs.getD 1 .any).toInt)]])))))
theorem Oh(a0_0:AV)(a0_1:Int)(ha0_0:LK.has .sl a0_0)(h:du 24 (Jf a0_0 a0_1) R):aq Tryz.prog 142 [.ref 0 0] [.cells [a0_0,VI a0_1]] R :=
 aq.nM (bo (bX (ah (cb ha0_0) (ah (aC _) aF))) cu) (aq.up (ah (aC _) aF) (oF [] {mu:=[(0,.one (.obj [.lk .sl,.lk (.int .i64)]))],own:=[]} Tryz.f142 h))
def EH(a0_0:AV)(a0_1:Int)(a1:AV)(a2:Int):Tree :=
 .test (decide (a2<=(0:Int))) (NL a1<|.test (decide ((a1.elems.length:Int)>(0:Int))) (.call 45 [.ref 0 0,VI 3] [.cells [a0_0,VI a0_1]] fun r1 o1=>.aj ((o1.hO)=.cells (o1.hO).cs)<|.aj (aM [.lk .sl,.lk (.int .i64)] ((o1.hO).cs) 0 1 o1.tail)<|NI r1<|.test (r1.toInt==(0:Int)) (NL a1<|.call 45 [.ref 0 0,VI (a1.elems.length:Int)] [.cells [((o1.hO).cs.getD 0 .any),VI (((o1.hO).cs.getD 1 .any).toInt)]] fun r2 o2=>.aj ((o2.hO)=.cells (o2.hO).cs)<|.aj (aM [.lk .sl,.lk (.int .i64)] ((o2.hO).cs) 0 1 o2.tail)<|NI r2<|.aj (LK.has .sl a1/\0<=r2.toInt/\r2.toInt<a1.elems.length/\(a1.elems.getD r2.toInt.toNat []).length=1)<|mc (a1.elems.getD r2.toInt.toNat [])<|.done 0 [VS (((a1.elems.getD r2.toInt.toNat []).hA).toStr)] [.cells [((o2.hO).cs.getD 0 .any),VI (((o2.hO).cs.getD 1 .any).toInt)]]) (.call 94 [.ref 0 0,.sl [[VS (mk [120])],[VS (mk [49])],[VS (mk [120])],[VS (mk [121])],[VS (mk [48])],[VS (mk [49])]]] [.cells [((o1.hO).cs.getD 0 .any),VI (((o1.hO).cs.getD 1 .any).toInt)]] fun r3 o3=>.aj ((o3.hO)=.cells (o3.hO).cs)<|.aj (aM [.lk .sl,.lk (.int .i64)] ((o3.hO).cs) 0 1 o3.tail)<|NS r3<|.done 0 [VS r3.toStr] [.cells [((o3.hO).cs.getD 0 .any),VI (((o3.hO).cs.getD 1 .any).toInt)]])) (.call 94 [.ref 0 0,.sl [[VS (mk [120])],[VS (mk [49])],[VS (mk [120])],[VS (mk [121])],[VS (mk [48])],[VS (mk [49])]]] [.cells [a0_0,VI a0_1]] fun r4 o4=>.aj ((o4.hO)=.cells (o4.hO).cs)<|.aj (aM [.lk .sl,.lk (.int .i64)] ((o4.hO).cs) 0 1 o4.tail)<|NS r4<|.done 0 [VS r4.toStr] [.cells [((o4.hO).cs.getD 0 .any),VI (((o4.hO).cs.getD 1 .any).toInt)]])) (.call 45 [.ref 0 0,VI 4] [.cells [a0_0,VI a0_1]] fun r5 o5=>.aj ((o5.hO)=.cells (o5.hO).cs)<|.aj (aM [.lk .sl,.lk (.int .i64)] ((o5.hO).cs) 0 1 o5.tail)<|NI r5<|.test (r5.toInt==(0:Int)) (NL a1<|.test (decide ((a1.elems.length:Int)>(0:Int))) (.call 45 [.ref 0 0,VI 3] [.cells [((o5.hO).cs.getD 0 .any),VI (((o5.hO).cs.getD 1 .any).toInt)]] fun r6 o6=>.aj ((o6.hO)=.cells (o6.hO).cs)<|.aj (aM [.lk .sl,.lk (.int .i64)] ((o6.hO).cs) 0 1 o6.tail)<|NI r6<|.test (r6.toInt==(0:Int)) (NL a1<|.call 45 [.ref 0 0,VI (a1.elems.length:Int)] [.cells [((o6.hO).cs.getD 0 .any),VI (((o6.hO).cs.getD 1 .any).toInt)]] fun r7 o7=>.aj ((o7.hO)=.cells (o7.hO).cs)<|.aj (aM [.lk .sl,.lk (.int .i64)] ((o7.hO).cs) 0 1 o7.tail)<|NI r7<|.aj (LK.has .sl a1/\0<=r7.toInt/\r7.toInt<a1.elems.length/\(a1.elems.getD r7.toInt.toNat []).length=1)<|mc (a1.elems.getD r7.toInt.toNat [])<|.done 0 [VS (((a1.elems.getD r7.toInt.toNat []).hA).toStr)] [.cells [((o7.hO).cs.getD 0 .any),VI (((o7.hO).cs.getD 1 .any).toInt)]]) (.call 94 [.ref 0 0,.sl [[VS (mk [120])],[VS (mk [49])],[VS (mk [120])],[VS (mk [121])],[VS (mk [48])],[VS (mk [49])]]] [.cells [((o6.hO).cs.getD 0 .any),VI (((o6.hO).cs.getD 1 .any).toInt)]] fun r8 o8=>.aj ((o8.hO)=.cells (o8.hO).cs)<|.aj (aM [.lk .sl,.lk (.int .i64)] ((o8.hO).cs) 0 1 o8.tail)<|NS r8<|.done 0 [VS r8.toStr] [.cells [((o8.hO).cs.getD 0 .any),VI (((o8.hO).cs.getD 1 .any).toInt)]])) (.call 94 [.ref 0 0,.sl [[VS (mk [120])],[VS (mk [49])],[VS (mk [120])],[VS (mk [121])],[VS (mk [48])],[VS (mk [49])]]] [.cells [((o5.hO).cs.getD 0 .any),VI (((o5.hO).cs.getD 1 .any).toInt)]] fun r9 o9=>.aj ((o9.hO)=.cells (o9.hO).cs)<|.aj (aM [.lk .sl,.lk (.int .i64)] ((o9.hO).cs) 0 1 o9.tail)<|NS r9<|.done 0 [VS r9.toStr] [.cells [((o9.hO).cs.getD 0 .any),VI (((o9.hO).cs.getD 1 .any).toInt)]])) (.call 45 [.ref 0 0,VI 5] [.cells [((o5.hO).cs.getD 0 .any),VI (((o5.hO).cs.getD 1 .any).toInt)]] fun r10 o10=>.aj ((o10.hO)=.cells (o10.hO).cs)<|.aj (aM [.lk .sl,.lk (.int .i64)] ((o10.hO).cs) 0 1 o10.tail)<|NI r10<|.test (r10.toInt==(0:Int)) (.call 143 [.ref 0 0,a1,VI (IntKind.wrap .i64 (a2-1))] [.cells [((o10.hO).cs.getD 0 .any),VI (((o10.hO).cs.getD 1 .any).toInt)]] fun r11 o11=>.aj ((o11.hO)=.cells (o11.hO).cs)<|.aj (aM [.lk .sl,.lk (.int .i64)] ((o11.hO).cs) 0 1 o11.tail)<|NS r11<|.aj (ae (mk [40,43,32])+ae r11.toStr<=9223372036854775807)<|.aj (ae (((mk [40,43,32]):ByteArray)++r11.toStr)+ae (mk [32])<=9223372036854775807)<|.call 143 [.ref 0 0,a1,VI (IntKind.wrap .i64 (a2-1))] [.cells [((o11.hO).cs.getD 0 .any),VI (((o11.hO).cs.getD 1 .any).toInt)]] fun r12 o12=>.aj ((o12.hO)=.cells (o12.hO).cs)<|.aj (aM [.lk .sl,.lk (.int .i64)] ((o12.hO).cs) 0 1 o12.tail)<|NS r12<|.aj (ae (((((mk [40,43,32]):ByteArray)++r11.toStr):ByteArray)++(mk [32]))+ae r12.toStr<=9223372036854775807)<|.aj (ae (((((((mk [40,43,32]):ByteArray)++r11.toStr):ByteArray)++(mk [32])):ByteArray)++r12.toStr)+ae (mk [41])<=9223372036854775807)<|.done 0 [VS (((((((((mk [40,43,32]):ByteArray)++r11.toStr):ByteArray)++(mk [32])):ByteArray)++r12.toStr):ByteArray)++(mk [41]))] [.cells [((o12.hO).cs.getD 0 .any),VI (((o12.hO).cs.getD 1 .any).toInt)]]) (.test (r10.toInt==(1:Int)) (.call 143 [.ref 0 0,a1,VI (IntKind.wrap .i64 (a2-1))] [.cells [((o10.hO).cs.getD 0 .any),VI (((o10.hO).cs.getD 1 .any).toInt)]] fun r13 o13=>.aj ((o13.hO)=.cells (o13.hO).cs)<|.aj (aM [.lk .sl,.lk (.int .i64)] ((o13.hO).cs) 0 1 o13.tail)<|NS r13<|.aj (ae (mk [40,43,32])+ae r13.toStr<=9223372036854775807)<|.aj (ae (((mk [40,43,32]):ByteArray)++r13.toStr)+ae (mk [32])<=9223372036854775807)<|.call 143 [.ref 0 0,a1,VI (IntKind.wrap .i64 (a2-1))] [.cells [((o13.hO).cs.getD 0 .any),VI (((o13.hO).cs.getD 1 .any).toInt)]] fun r14 o14=>.aj ((o14.hO)=.cells (o14.hO).cs)<|.aj (aM [.lk .sl,.lk (.int .i64)] ((o14.hO).cs) 0 1 o14.tail)<|NS r14<|.aj (ae (((((mk [40,43,32]):ByteArray)++r13.toStr):ByteArray)++(mk [32]))+ae r14.toStr<=9223372036854775807)<|.aj (ae (((((((mk [40,43,32]):ByteArray)++r13.toStr):ByteArray)++(mk [32])):ByteArray)++r14.toStr)+ae (mk [41])<=9223372036854775807)<|.done 0 [VS (((((((((mk [40,43,32]):ByteArray)++r13.toStr):ByteArray)++(mk [32])):ByteArray)++r14.toStr):ByteArray)++(mk [41]))] [.cells [((o14.hO).cs.getD 0 .any),VI (((o14.hO).cs.getD 1 .any).toInt)]]) (.test (r10.toInt==(2:Int)) (.call 143 [.ref 0 0,a1,VI (IntKind.wrap .i64 (a2-1))] [.cells [((o10.hO).cs.getD 0 .any),VI (((o10.hO).cs.getD 1 .any).toInt)]] fun r15 o15=>.aj ((o15.hO)=.cells (o15.hO).cs)<|.aj (aM [.lk .sl,.lk (.int .i64)] ((o15.hO).cs) 0 1 o15.tail)<|NS r15<|.aj (ae (mk [40,42,32])+ae r15.toStr<=9223372036854775807)<|.aj (ae (((mk [40,42,32]):ByteArray)++r15.toStr)+ae (mk [32])<=9223372036854775807)<|.call 143 [.ref 0 0,a1,VI (IntKind.wrap .i64 (a2-1))] [.cells [((o15.hO).cs.getD 0 .any),VI (((o15.hO).cs.getD 1 .any).toInt)]] fun r16 o16=>.aj ((o16.hO)=.cells (o16.hO).cs)<|.aj (aM [.lk .sl,.lk (.int .i64)] ((o16.hO).cs) 0 1 o16.tail)<|NS r16<|.aj (ae (((((mk [40,42,32]):ByteArray)++r15.toStr):ByteArray)++(mk [32]))+ae r16.toStr<=9223372036854775807)<|.aj (ae (((((((mk [40,42,32]):ByteArray)++r15.toStr):ByteArray)++(mk [32])):ByteArray)++r16.toStr)+ae (mk [41])<=9223372036854775807)<|.done 0 [VS (((((((((mk [40,42,32]):ByteArray)++r15.toStr):ByteArray)++(mk [32])):ByteArray)++r16.toStr):ByteArray)++(mk [41]))] [.cells [((o16.hO).cs.getD 0 .any),VI (((o16.hO).cs.getD 1 .any).toInt)]]) (.test (r10.toInt==(3:Int)) (.call 143 [.ref 0 0,a1,VI (IntKind.wrap .i64 (a2-1))] [.cells [((o10.hO).cs.getD 0 .any),VI (((o10.hO).cs.getD 1 .any).toInt)]] fun r17 o17=>.aj ((o17.hO)=.cells (o17.hO).cs)<|.aj (aM [.lk .sl,.lk (.int .i64)] ((o17.hO).cs) 0 1 o17.tail)<|NS r17<|.aj (ae (mk [40,42,32])+ae r17.toStr<=9223372036854775807)<|.aj (ae (((mk [40,42,32]):ByteArray)++r17.toStr)+ae (mk [32])<=9223372036854775807)<|.call 143 [.ref 0 0,a1,VI (IntKind.wrap .i64 (a2-1))] [.cells [((o17.hO).cs.getD 0 .any),VI (((o17.hO).cs.getD 1 .any).toInt)]] fun r18 o18=>.aj ((o18.hO)=.cells (o18.hO).cs)<|.aj (aM [.lk .sl,.lk (.int .i64)] ((o18.hO).cs) 0 1 o18.tail)<|NS r18<|.aj (ae (((((mk [40,42,32]):ByteArray)++r17.toStr):ByteArray)++(mk [32]))+ae r18.toStr<=9223372036854775807)<|.aj (ae (((((((mk [40,42,32]):ByteArray)++r17.toStr):ByteArray)++(mk [32])):ByteArray)++r18.toStr)+ae (mk [41])<=9223372036854775807)<|.done 0 [VS (((((((((mk [40,42,32]):ByteArray)++r17.toStr):ByteArray)++(mk [32])):ByteArray)++r18.toStr):ByteArray)++(mk [41]))] [.cells [((o18.hO).cs.getD 0 .any),VI (((o18.hO).cs.getD 1 .any).toInt)]]) (.call 94 [.ref 0 0,.sl [[VS (mk [116])],[VS (mk [116,49])],[VS (mk [116,48])]]] [.cells [((o10.hO).cs.getD 0 .any),VI (((o10.hO).cs.getD 1 .any).toInt)]] fun r19 o19=>.aj ((o19.hO)=.cells (o19.hO).cs)<|.aj (aM [.lk .sl,.lk (.int .i64)] ((o19.hO).cs) 0 1 o19.tail)<|NS r19<|.aj (ae (mk [40,114,101,99,32])+ae r19.toStr<=9223372036854775807)<|.aj (ae (((mk [40,114,101,99,32]):ByteArray)++r19.toStr)+ae (mk [32,40,43,32,49,32])<=9223372036854775807)<|.call 129 [a1,VS r19.toStr] [] fun r20 o20=>.aj (r20=.vec 0/\(o20.hO)=.vec 1 (o20.hO).es)<|.aj (∀x,x∈o20->jn x)<|.call 143 [.ref 0 0,.sl ((o20.hO).es),VI (IntKind.wrap .i64 (a2-1))] [.cells [((o19.hO).cs.getD 0 .any),VI (((o19.hO).cs.getD 1 .any).toInt)]] fun r21 o21=>.aj ((o21.hO)=.cells (o21.hO).cs)<|.aj (aM [.lk .sl,.lk (.int .i64)] ((o21.hO).cs) 0 1 o21.tail)<|NS r21<|.aj (ae (((((mk [40,114,101,99,32]):ByteArray)++r19.toStr):ByteArray)++(mk [32,40,43,32,49,32]))+ae r21.toStr<=9223372036854775807)<|.aj (ae (((((((mk [40,114,101,99,32]):ByteArray)++r19.toStr):ByteArray)++(mk [32,40,43,32,49,32])):ByteArray)++r21.toStr)+ae (mk [41,41])<=9223372036854775807)<|.done 0 [VS (((((((((mk [40,114,101,99,32]):ByteArray)++r19.toStr):ByteArray)++(mk [32,40,43,32,49,32])):ByteArray)++r21.toStr):ByteArray)++(mk [41,41]))] [.cells [((o21.hO).cs.getD 0 .any),VI (((o21.hO).cs.getD 1 .any).toInt)]]))))))
theorem Lh(a0_0:AV)(a0_1:Int)(a1:AV)(a2:Int)(ha1:LK.has .sl a1)(ha0_0:LK.has .sl a0_0)(h:du 82 (EH a0_0 a0_1 a1 a2) R):aq Tryz.prog 143 [.ref 0 0,a1,VI a2] [.cells [a0_0,VI a0_1]] R :=
 aq.nM (bo (bX (ah (cb ha0_0) (ah (aC _) aF))) cu) (aq.up (ah (aC _) (ah (cb ha1) (ah (aC _) aF))) (oF [] {mu:=[(0,.one (.obj [.lk .sl,.lk (.int .i64)]))],own:=[]} Tryz.f143 h))
def G5(a0:Int):Tree :=
 .test (decide (a0≥(97:Int))) (.test (decide (a0<=(122:Int))) (.done 0 [VB true] []) (.test (decide (a0≥(48:Int))) (.test (decide (a0<=(57:Int))) (.done 0 [VB true] []) (.test (a0==(43:Int)) (.done 0 [VB true] []) (.done 0 [VB (a0==(42:Int))] []))) (.test (a0==(43:Int)) (.done 0 [VB true] []) (.done 0 [VB (a0==(42:Int))] [])))) (.test (decide (a0≥(48:Int))) (.test (decide (a0<=(57:Int))) (.done 0 [VB true] []) (.test (a0==(43:Int)) (.done 0 [VB true] []) (.done 0 [VB (a0==(42:Int))] []))) (.test (a0==(43:Int)) (.done 0 [VB true] []) (.done 0 [VB (a0==(42:Int))] [])))
theorem Mi(a0:Int)(h:du 25 (G5 a0) R):aq Tryz.prog 144 [.v (.int .u8 a0)] [] R :=
 uQ (ah (aC _) aF) (oQ [] Tryz.f144 h)
def Ht(a0:ByteArray)(a1:ByteArray):Tree :=
 .test (decide ((ae a0:Int)≥(1:Int))) (.test (decide ((ae a0:Int)<=(3:Int))) (.aj (0<=(0:Int)/\(0:Int)<=(1:Int)/\(1:Int)<=(ae a0:Int))<|.call 158 [VS a1,VS (bV a0 (bR 0) (bR 1))] [] fun r1 o1=>NB r1<|.test r1.toBool (.aj (0<=(1:Int)/\(1:Int)<=(ae a0:Int)/\(ae a0:Int)<=(ae a0:Int))<|.call 153 [VS (bV a0 (bR 1) (bR (ae a0:Int))),VS (mk [48,49,50,51,52,53,54,55,56,57])] [] fun r2 o2=>NS r2<|.done 0 [VB (ag r2.toStr==ag (mk []))] []) (.done 0 [VB false] [])) (.done 0 [VB false] [])) (.done 0 [VB false] [])
theorem MZ(a0:ByteArray)(a1:ByteArray)(h:du 25 (Ht a0 a1) R):aq Tryz.prog 145 [VS a0,VS a1] [] R :=
 uQ (ah (aC _) (ah (aC _) aF)) (oQ [] Tryz.f145 h)
def Dx(a0:AV)(e1_0_0:List (List AV)):Tree :=
 .call 148 [a0,.ref 0 0] [.cells [.vec 1],.vec 1 e1_0_0] fun r1 o1=>.aj ((o1.hO)=.cells (o1.hO).cs)<|.aj (aM [.vec 1] ((o1.hO).cs) 0 1 o1.tail)<|NZ a0<|NZ a0<|dY (a0.deref.drop 3)<|NP ((a0.deref.drop 3).hA)<|.test (!((a0.deref.drop 3).hA).isNil) (NZ a0<|NZ a0<|dY (a0.deref.drop 3)<|.call 147 [((a0.deref.drop 3).hA),.fn 148 [.ref 0 0]] [.cells [.vec 1],.vec 1 ((o1.tail.hO).es)] fun r2 o2=>.aj ((o2.hO)=.cells (o2.hO).cs)<|.aj (aM [.vec 1] ((o2.hO).cs) 0 1 o2.tail)<|NZ a0<|NZ a0<|dY (a0.deref.drop 4)<|NP ((a0.deref.drop 4).hA)<|.test (!((a0.deref.drop 4).hA).isNil) (NZ a0<|NZ a0<|dY (a0.deref.drop 4)<|.call 147 [((a0.deref.drop 4).hA),.fn 148 [.ref 0 0]] [.cells [.vec 1],.vec 1 ((o2.tail.hO).es)] fun r3 o3=>.aj ((o3.hO)=.cells (o3.hO).cs)<|.aj (aM [.vec 1] ((o3.hO).cs) 0 1 o3.tail)<|.done 0 [.any] [.cells [.vec 1],.vec 1 ((o3.tail.hO).es)]) (.done 0 [.any] [.cells [.vec 1],.vec 1 ((o2.tail.hO).es)])) (NZ a0<|NZ a0<|dY (a0.deref.drop 4)<|NP ((a0.deref.drop 4).hA)<|.test (!((a0.deref.drop 4).hA).isNil) (NZ a0<|NZ a0<|dY (a0.deref.drop 4)<|.call 147 [((a0.deref.drop 4).hA),.fn 148 [.ref 0 0]] [.cells [.vec 1],.vec 1 ((o1.tail.hO).es)] fun r4 o4=>.aj ((o4.hO)=.cells (o4.hO).cs)<|.aj (aM [.vec 1] ((o4.hO).cs) 0 1 o4.tail)<|.done 0 [.any] [.cells [.vec 1],.vec 1 ((o4.tail.hO).es)]) (.done 0 [.any] [.cells [.vec 1],.vec 1 ((o1.tail.hO).es)]))
theorem vj(a0:AV)(e1_0_0:List (List AV))(ha0:LK.has .ptr a0)(h:du 29 (Dx a0 e1_0_0) R):aq Tryz.prog 147 [a0,.fn 148 [.ref 0 0]] [.cells [.vec 1],.vec 1 e1_0_0] R :=
 aq.nM (bo (bX (ah (aC _) aF)) (bo (fY _) cu)) (aq.up (ah (bu ha0) (ah (aC _) aF)) (oF [] {mu:=[(1,.fn [some (.obj [.vec 1])])],own:=[]} Tryz.f147 h))
def DS(a0:AV)(e1_0:List (List AV)):Tree :=
 NZ a0<|NZ a0<|.aj (LK.has (.int .u8) (a0.deref.hA)/\1<=a0.deref.length)<|.test (((a0.deref.hA).toInt)==(110:Int)) (NZ a0<|NZ a0<|mc (a0.deref.drop 1)<|.call 124 [.sl e1_0,VS (((a0.deref.drop 1).hA).toStr)] [] fun r1 o1=>NB r1<|.test (!r1.toBool) (NZ a0<|NZ a0<|mc (a0.deref.drop 1)<|.aj (cx 1 [[VS (((a0.deref.drop 1).hA).toStr)]]/\((e1_0.length)+([[VS (((a0.deref.drop 1).hA).toStr)]]:List (List AV)).length)*16<=140737488355328)<|.done 0 [.any] [.cells [.vec 1],.vec 1 (e1_0++([[VS (((a0.deref.drop 1).hA).toStr)]]:List (List AV)))]) (.done 0 [.any] [.cells [.vec 1],.vec 1 e1_0])) (.done 0 [.any] [.cells [.vec 1],.vec 1 e1_0])
theorem N0(a0:AV)(e1_0:List (List AV))(ha0:LK.has .ptr a0)(h:du 24 (DS a0 e1_0) R):aq Tryz.prog 148 [a0,.ref 0 0] [.cells [.vec 1],.vec 1 e1_0] R :=
 aq.nM (bo (bX (ah (aC _) aF)) (bo (fY _) cu)) (aq.up (ah (bu ha0) (ah (aC _) aF)) (oF [] {mu:=[(1,.one (.obj [.vec 1]))],own:=[]} Tryz.f148 h))
def FK:LI:={hd:={bZ:=[(0,.k .sl),(1,.k .str),(7,.k (.int .i64)),(8,.k (.int .i64))]},xs:={},rt:={bZ:=[(4,.k (.int .i64))]},ex:=0}
def Ir:Code:=cN (cF Tryz.f149) 2
def JP:List (Nat×LI):=[(2,FK)]
def JX(a0:AV)(a1:ByteArray):Tree :=
 NL a0<|.loop Ir FK [a0,VS a1,VI (a0.elems.length:Int),VI 0] [] (fun y1 q1=>.done 0 [VI (-1)] []) (fun y1 q1=>NI (y1.hA)<|.done 0 [VI ((y1.hA).toInt)] [])
theorem MV(a0:AV)(a1:ByteArray)(ha0:LK.has .sl a0)(h:du 19 (JX a0 a1) R):aq Tryz.prog 149 [a0,VS a1] [] R :=
 uQ (ah (cb ha0) (ah (aC _) aF)) (oQ JP Tryz.f149 h)
def FD(x0:AV)(x1:ByteArray)(x7:Int)(x8:Int):Tree :=
 NL x0<|NS (VS x1)<|NI (VI x7)<|NI (VI x8)<|.test (decide (x8<x7)) (NG x0 x8 1<|mc (x0.ix x8)<|.test (ag x1==ag (((x0.ix x8).hA).toStr)) (.done 2 [VI x8] []) (.done 0 [x0,VS x1,VI x7,VI (IntKind.wrap .i64 (x8+1))] [])) (.done 1 [] [])
abbrev FA:=cA Tryz.prog 19 Ir FK
theorem JY(x0:AV)(x1:ByteArray)(x7:Int)(x8:Int)(h:lM 19 (FD x0 x1 x7 x8) FA U):FA [x0,VS x1,VI x7,VI x8] [] U :=
 gQ JP h
def Hb(a0:AV):Tree :=
 .call 160 [a0,.v (.func (.func 118) #[] #[])] [] fun r1 o1=>NI r1<|.done 0 [VB (decide (r1.toInt≥(0:Int)))] []
theorem O0(a0:AV)(ha0:LK.has .sl a0)(h:du 9 (Hb a0) R):aq Tryz.prog 150 [a0,.v (.func (.func 118) #[] #[])] [] R :=
 uQ (ah (cb ha0) (ah (aC _) aF)) (oQ [] Tryz.f150 h)
def JS(a0_0:ByteArray)(a0_1:AV)(a1:ByteArray)(a2_0:ByteArray)(a2_1:AV):Tree :=
 .call 134 [.agg [VS a0_0,a0_1]] [] fun r1 o1=>NI r1<|.call 175 [.agg [VS a0_0,a0_1],VS a1] [] fun r2 o2=>NI r2<|.call 134 [.agg [VS a2_0,a2_1]] [] fun r3 o3=>NI r3<|.done 0 [VB (decide ((IntKind.wrap .i64 (r1.toInt+(IntKind.wrap .i64 (r2.toInt*(IntKind.wrap .i64 (r3.toInt-1))))))<=(400:Int)))] []
theorem Nz(a0_0:ByteArray)(a0_1:AV)(a1:ByteArray)(a2_0:ByteArray)(a2_1:AV)(ha0_1:LK.has .sl a0_1)(ha2_1:LK.has .sl a2_1)(h:du 18 (JS a0_0 a0_1 a1 a2_0 a2_1) R):aq Tryz.prog 156 [.agg [VS a0_0,a0_1],VS a1,.agg [VS a2_0,a2_1]] [] R :=
 uQ (ah (cL (ah (aC _) (ah (cb ha0_1) aF))) (ah (aC _) (ah (cL (ah (aC _) (ah (cb ha2_1) aF))) aF))) (oQ [] Tryz.f156 h)
def Kx(a0_0:ByteArray)(a0_1:AV)(a1:ByteArray)(a2_0:ByteArray)(a2_1:AV):Tree :=
 .call 96 [.agg [VS a0_0,a0_1],.sl [[VS a2_0,a2_1],[VS a1,.v (.slice none 0 0)]]] [] fun r1 o1=>NA r1<|.call 176 [.agg [VS ((r1.cs.getD 0 .any).toStr),(r1.cs.getD 1 .any)],VS a1,.agg [VS a2_0,a2_1]] [] fun r2 o2=>NA r2<|.done 0 [.agg [VS ((r2.cs.getD 0 .any).toStr),(r2.cs.getD 1 .any)]] []
theorem OE(a0_0:ByteArray)(a0_1:AV)(a1:ByteArray)(a2_0:ByteArray)(a2_1:AV)(ha0_1:LK.has .sl a0_1)(ha2_1:LK.has .sl a2_1)(h:du 16 (Kx a0_0 a0_1 a1 a2_0 a2_1) R):aq Tryz.prog 157 [.agg [VS a0_0,a0_1],VS a1,.agg [VS a2_0,a2_1]] [] R :=
 uQ (ah (cL (ah (aC _) (ah (cb ha0_1) aF))) (ah (aC _) (ah (cL (ah (aC _) (ah (cb ha2_1) aF))) aF))) (oQ [] Tryz.f157 h)
def Fi:LI:={hd:={bZ:=[(0,.k .sl),(1,.c (.func (.func 118) #[] #[])),(7,.k (.int .i64)),(8,.k (.int .i64))]},xs:={},rt:={bZ:=[(4,.k (.int .i64))]},ex:=0}
def LM:Code:=cN (cF Tryz.f160) 2
def Il:List (Nat×LI):=[(2,Fi)]
def K4(a0:AV):Tree :=
 NL a0<|.loop LM Fi [a0,.v (.func (.func 118) #[] #[]),VI (a0.elems.length:Int),VI 0] [] (fun y2 q2=>.done 0 [VI (-1)] []) (fun y2 q2=>NI (y2.hA)<|.done 0 [VI ((y2.hA).toInt)] [])
theorem Oi(a0:AV)(ha0:LK.has .sl a0)(h:du 19 (K4 a0) R):aq Tryz.prog 160 [a0,.v (.func (.func 118) #[] #[])] [] R :=
 uQ (ah (cb ha0) (ah (aC _) aF)) (oQ Il Tryz.f160 h)
def Gx(x0:AV)(x7:Int)(x8:Int):Tree :=
 NL x0<|.aj (AV.v (.func (.func 118) #[] #[])=.v (.func (.func 118) #[] #[]))<|NI (VI x7)<|NI (VI x8)<|.test (decide (x8<x7)) (NG x0 x8 1<|mc (x0.ix x8)<|.call 118 [VS (((x0.ix x8).hA).toStr)] [] fun r1 o1=>NB r1<|.test r1.toBool (.done 2 [VI x8] []) (.done 0 [x0,.v (.func (.func 118) #[] #[]),VI x7,VI (IntKind.wrap .i64 (x8+1))] [])) (.done 1 [] [])
abbrev FT:=cA Tryz.prog 19 LM Fi
theorem H7(x0:AV)(x7:Int)(x8:Int)(h:lM 19 (Gx x0 x7 x8) FT U):FT [x0,.v (.func (.func 118) #[] #[]),VI x7,VI x8] [] U :=
 gQ Il h
def zk(a0_0:ByteArray)(a0_1:AV)(a1:ByteArray):Tree :=
 .test (!(ag a0_0==ag (mk []))) (.test (ag a0_0==ag a1) (.done 0 [VI 1] []) (.done 0 [VI 0] [])) (.call 54 [.agg [VS a0_0,a0_1]] [] fun r1 o1=>NS r1<|.test (ag r1.toStr==ag (mk [114,101,99])) (NG a0_1 1 2<|mc (a0_1.ix (1:Int))<|.test (ag (((a0_1.ix (1:Int)).hA).toStr)==ag a1) (.done 0 [VI 0] []) (NG a0_1 2 2<|NE (a0_1.ix (2:Int))<|.call 175 [.agg [VS (((a0_1.ix (2:Int)).getD 0 .any).toStr),((a0_1.ix (2:Int)).getD 1 .any)],VS a1] [] fun r2 o2=>NI r2<|.done 0 [VI r2.toInt] [])) (NG a0_1 1 2<|NE (a0_1.ix (1:Int))<|.call 175 [.agg [VS (((a0_1.ix (1:Int)).getD 0 .any).toStr),((a0_1.ix (1:Int)).getD 1 .any)],VS a1] [] fun r3 o3=>NI r3<|NG a0_1 2 2<|NE (a0_1.ix (2:Int))<|.call 175 [.agg [VS (((a0_1.ix (2:Int)).getD 0 .any).toStr),((a0_1.ix (2:Int)).getD 1 .any)],VS a1] [] fun r4 o4=>NI r4<|.done 0 [VI (IntKind.wrap .i64 (r3.toInt+r4.toInt))] []))
theorem Cl(a0_0:ByteArray)(a0_1:AV)(a1:ByteArray)(ha0_1:LK.has .sl a0_1)(h:du 41 (zk a0_0 a0_1 a1) R):aq Tryz.prog 175 [.agg [VS a0_0,a0_1],VS a1] [] R :=
 uQ (ah (cL (ah (aC _) (ah (cb ha0_1) aF))) (ah (aC _) aF)) (oQ [] Tryz.f175 h)
def A6(a0_0:ByteArray)(a0_1:AV)(a1:ByteArray)(a2_0:ByteArray)(a2_1:AV):Tree :=
 .test (!(ag a0_0==ag (mk []))) (.test (ag a0_0==ag a1) (.done 0 [.agg [VS a2_0,a2_1]] []) (.done 0 [.agg [VS a0_0,a0_1]] [])) (.call 54 [.agg [VS a0_0,a0_1]] [] fun r1 o1=>NS r1<|.test (ag r1.toStr==ag (mk [114,101,99])) (NG a0_1 1 2<|mc (a0_1.ix (1:Int))<|.test (ag (((a0_1.ix (1:Int)).hA).toStr)==ag a1) (.done 0 [.agg [VS a0_0,a0_1]] []) (NG a0_1 1 2<|NE (a0_1.ix (1:Int))<|NG a0_1 2 2<|NE (a0_1.ix (2:Int))<|.call 176 [.agg [VS (((a0_1.ix (2:Int)).getD 0 .any).toStr),((a0_1.ix (2:Int)).getD 1 .any)],VS a1,.agg [VS a2_0,a2_1]] [] fun r2 o2=>NA r2<|.call 61 [VS (mk [114,101,99]),.sl [[VS (((a0_1.ix (1:Int)).getD 0 .any).toStr),((a0_1.ix (1:Int)).getD 1 .any)],[VS ((r2.cs.getD 0 .any).toStr),(r2.cs.getD 1 .any)]]] [] fun r3 o3=>NA r3<|.done 0 [.agg [VS ((r3.cs.getD 0 .any).toStr),(r3.cs.getD 1 .any)]] [])) (.call 54 [.agg [VS a0_0,a0_1]] [] fun r4 o4=>NS r4<|NG a0_1 1 2<|NE (a0_1.ix (1:Int))<|.call 176 [.agg [VS (((a0_1.ix (1:Int)).getD 0 .any).toStr),((a0_1.ix (1:Int)).getD 1 .any)],VS a1,.agg [VS a2_0,a2_1]] [] fun r5 o5=>NA r5<|NG a0_1 2 2<|NE (a0_1.ix (2:Int))<|.call 176 [.agg [VS (((a0_1.ix (2:Int)).getD 0 .any).toStr),((a0_1.ix (2:Int)).getD 1 .any)],VS a1,.agg [VS a2_0,a2_1]] [] fun r6 o6=>NA r6<|.call 61 [VS r4.toStr,.sl [[VS ((r5.cs.getD 0 .any).toStr),(r5.cs.getD 1 .any)],[VS ((r6.cs.getD 0 .any).toStr),(r6.cs.getD 1 .any)]]] [] fun r7 o7=>NA r7<|.done 0 [.agg [VS ((r7.cs.getD 0 .any).toStr),(r7.cs.getD 1 .any)]] []))
theorem Cy(a0_0:ByteArray)(a0_1:AV)(a1:ByteArray)(a2_0:ByteArray)(a2_1:AV)(ha0_1:LK.has .sl a0_1)(ha2_1:LK.has .sl a2_1)(h:du 58 (A6 a0_0 a0_1 a1 a2_0 a2_1) R):aq Tryz.prog 176 [.agg [VS a0_0,a0_1],VS a1,.agg [VS a2_0,a2_1]] [] R :=
 uQ (ah (cL (ah (aC _) (ah (cb ha0_1) aF))) (ah (aC _) (ah (cL (ah (aC _) (ah (cb ha2_1) aF))) aF))) (oQ [] Tryz.f176 h)
end
end Go.Proofs.Trees
namespace Go.Proofs.Trees
open Go Go.VL
theorem bw(i:Nat)(h:i<1000000000000):IntKind.wrap .i64 ((i:Int)+1)=((i+1:Nat):Int):=by rw[wrap64]<;>omega
inductive E where
 |atom (s:List UInt8)
 |list (l:List E)
mutual
def E.cn:E->AV
 | .atom s=>.ptr [.v (.string (mk s)),.v (.slice none 0 0)]
 | .list l=>.ptr [.v (.string (mk [])),.sl (E.lK l)]
def E.lK:List E->List (List AV)
 |[]=>[]
 |e::l=>[e.cn]::E.lK l
end
mutual
def E.gR:E->List AV
 | .atom s=>[.v (.string (mk s)),.v (.slice none 0 0)]
 | .list l=>[.v (.string (mk [])),.sl (E.bf l)]
def E.bf:List E->List (List AV)
 |[]=>[]
 |e::l=>e.gR::E.bf l
end
def E.kb(e:E):AV:=.agg e.gR
theorem uZ(l r:List E):E.lK (l++r)=E.lK l++E.lK r:=by
 induction l with
 |nil=>rfl
 |cons e l ih=>simp[E.lK,ih]
theorem pF(l r:List E):E.bf (l++r)=E.bf l++E.bf r:=by
 induction l with
 |nil=>rfl
 |cons e l ih=>simp[E.bf,ih]
theorem p8(l:List E):(E.lK l).length=l.length:=by
 induction l with
 |nil=>rfl
 |cons e l ih=>simp[E.lK,ih]
theorem dN(l:List E):(E.bf l).length=l.length:=by
 induction l with
 |nil=>rfl
 |cons e l ih=>simp[E.bf,ih]
def eJ(b:UInt8):Bool:=decide ((97<=b.toNat/\b.toNat<=122)\/(48<=b.toNat/\b.toNat<=57)\/b.toNat=43\/b.toNat=42)
def qZ(f:List UInt8->Option (E×List UInt8)):Nat->List UInt8->List E->Option (E×List UInt8)
 |0,_,_=>none
 |
  n+1,s,acc=>match f s with
  |some (p,c::r)=>if c.toNat=41 then some (.list (acc++[p]),r)else if c.toNat=32 then qZ f n r (acc++[p])else none
  |_=>none
def rd:Nat->List UInt8->Option (E×List UInt8)
 |0,s=>if s.takeWhile eJ=[]then none else some (.atom (s.takeWhile eJ),s.dropWhile eJ)
 |k+1,s=>if s.takeWhile eJ=[]then(match s with
  |c::r=>if c.toNat=40 then qZ (rd k) (r.length+1) r []else none
  |[]=>none)else some (.atom (s.takeWhile eJ),s.dropWhile eJ)
theorem Au{f:List UInt8->Option (E×List UInt8)}(hf:∀s e r,f s=some (e,r)->r.length<s.length):∀(n:Nat) (s:List UInt8) (acc:List E) (e:E) (r:List UInt8),qZ f n s acc=some (e,r)->r.length<s.length
 |0,s,acc,e,r,h=>by cases h
 |
  n+1,s,acc,e,r,h=>by
  simp only[qZ]at h
  split at h
  ·rename_i p c r' hs
   have:=hf _ _ _ hs
   simp only[aw]at this
   split at h
   ·cases h;omega
   ·split at h
    ·have:=Au hf n _ _ _ _ h;omega
    ·cases h
  ·cases h
theorem ny{s:List UInt8}(h:¬s.takeWhile eJ=[]):(s.dropWhile eJ).length<s.length:=by
 have h1:=congrArg List.length (bQ (p:=eJ) (l:=s))
 simp only[an]at h1
 have:0<(s.takeWhile eJ).length:=List.length_pos_iff.2 h
 omega
theorem wM:∀(k:Nat) (s:List UInt8) (e:E) (r:List UInt8),rd k s=some (e,r)->r.length<s.length
 |
  0,s,e,r,h=>by
  simp only[rd]at h
  split at h
  ·cases h
  ·rename_i hn;cases h;exact ny hn
 |
  k+1,s,e,r,h=>by
  simp only[rd]at h
  split at h
  ·split at h
   ·split at h
    ·have:=Au (wM k) _ _ _ _ _ h
     simp only[aw];omega
    ·cases h
   ·cases h
  ·rename_i hn;cases h;exact ny hn
theorem Mb(b:UInt8):aq Tryz.prog 144 [.v (.int .u8 (b.toNat:Int))] [] (bz (.v (.bool (eJ b)))):=by
 refine Mi _ ?_
 simp only[G5,↓zq,zs,af,bz,eJ]
 repeat' (apply aH<;>intro _)
 all_goals first|(congr 2;rw[cr];simp;omega)|(congr 2;simp;omega)
theorem wJ{s:List UInt8}{i:Nat}(hi:i<s.length)(hb:eJ (s.getD i 0)=true):((s.drop i).takeWhile eJ).length=((s.drop (i+1)).takeWhile eJ).length+1:=by
 have e:s.drop i=s.getD i 0::s.drop (i+1):=by
  rw[aV hi];simp[aa,hi]
 rw[e,List.takeWhile_cons_of_pos hb];simp
theorem pY{s:List UInt8}{i:Nat}(hi:i<s.length)(hb:eJ (s.getD i 0)=false):(s.drop i).takeWhile eJ=[]:=by
 have e:s.drop i=s.getD i 0::s.drop (i+1):=by
  rw[aV hi];simp[aa,hi]
 rw[e,List.takeWhile_cons_of_neg (by rw[hb];simp)]
theorem EE(s:List UInt8)(hs:s.length<=8000)(d:Int):∀(k i:Nat),i+k=s.length->Gz [.v (.string (mk s)),.v (.int .i64 d),.v (.int .i64 (i:Int))] [] (hZ 1 [.v (.string (mk s)),.v (.int .i64 d),.v (.int .i64 ((i+((s.drop i).takeWhile eJ).length:Nat):Int))] [])
 |
  0,i,hi=>by
  refine Lt _ _ _ ?_
  have hd:s.drop i=[]:=bE (by omega)
  simp only[Ff,↓zq,zs,af,zt]
  exact⟨fun h=>by omega,fun _=>by simp[hZ,hd]⟩
 |
  k+1,i,hi=>by
  have hlt:i<s.length:=by omega
  refine Lt _ _ _ ?_
  simp only[Ff,↓zq,zs,af,zt,lH s i hlt]
  refine⟨fun _=>⟨by omega,?_⟩,fun h=>by omega⟩
  refine ak (Mb _) ?_
  simp only[↓zq,zs,af]
  refine⟨fun hb=>?_,fun hb=>?_⟩
  ·rw[bw i (by omega)]
   have:=EE s hs d k (i+1) (by omega)
   rw[wJ hlt hb,show i+(((s.drop (i+1)).takeWhile eJ).length+1)=i+1+((s.drop (i+1)).takeWhile eJ).length by omega]
   exact this
  ·simp[hZ,pY hlt hb]
def nE(s:List UInt8):Option (E×List UInt8)->AV
 |some (e,r)=>.cW [e.cn,.v (.string (mk r))]
 |none=>.cW [.v (.pointer none),.v (.string (mk s))]
theorem cD(e:E):LK.has .ptr e.cn=True:=by cases e<;>simp[E.cn,cc]
theorem dU(e:E):e.cn.isNil=false:=by cases e<;>rfl
theorem tj(s:List UInt8):s.take (s.takeWhile eJ).length=s.takeWhile eJ:=by
 have h:=bQ (p:=eJ) (l:=s)
 have:(s.takeWhile eJ++s.dropWhile eJ).take (s.takeWhile eJ).length=s.takeWhile eJ:=List.take_left
 rw[h]at this;exact this
theorem xy(s:List UInt8):s.drop (s.takeWhile eJ).length=s.dropWhile eJ:=by
 have h:=bQ (p:=eJ) (l:=s)
 have:(s.takeWhile eJ++s.dropWhile eJ).drop (s.takeWhile eJ).length=s.dropWhile eJ:=List.drop_left
 rw[h]at this;exact this
theorem Ar(c:UInt8)(r:List UInt8):(List.take (r.length+1) (c::r)).drop (bR 1)=r:=by simp
theorem JL(s0:List UInt8)(k:Nat)(hk:k<300)(ih:∀s,s.length<=8000->aq Tryz.prog 116 [.v (.string (mk s)),.v (.int .i64 ((300-k:Nat):Int))] [] (bz (nE s (rd k s)))) :
 ∀(n:Nat) (s:List UInt8) (acc:List E),s.length<n->s.length+acc.length<=8000->Fy [.v (.string (mk s0)),.v (.int .i64 ((300-(k+1):Nat):Int)),.v (.string (mk s))] [.cells [.v (.string (mk [])),.any],.vec 1 (E.lK acc)]
  (rm (match qZ (rd k) n s acc with|some (e,r)=>(2,[e.cn,.v (.string (mk r))],[])|none=>(2,[.v (.pointer none),.v (.string (mk s0))],[])))
 |0,s,acc,hn,_=>by omega
 |
  n+1,s,acc,hn,hl=>by
  refine NU _ _ _ _ _ ?_
  simp only[Lq,↓zq,zs,af,Aq]
  have hd:IntKind.wrap .i64 (((300-(k+1):Nat):Int)+1)=((300-k:Nat):Int):=by rw[wrap64]<;>omega
  rw[hd]
  refine ak (ih s (by omega)) ?_
  have hlt:=wM k s
  cases hr:rd k s with
  |
   none =>
   simp only[nE,↓zq,zs,af,qZ,hr]
   simp[rm]
  |
   some q =>
   obtain⟨e,r⟩:=q
   have:=hlt e r hr
   cases r with
   |
    nil =>
    simp only[nE,↓zq,zs,af,zt,qZ,hr,cD,dU]
    simp[rm]
   |
    cons c r =>
    simp only[aw]at this
    have hb:=lH (c::r) 0 (by simp)
    simp only[cC,cS]at hb
    have e2:(List.take (c::r).length (c::r)).drop 1=r:=by simp
    simp only[nE,↓zq,zs,af,zt,qZ,hr,cD,dU,hb,e2,p8]
    refine⟨fun h=>(by cases h),fun _=>⟨fun h=>(by cases h),fun _=>⟨⟨fun c hc=>(by simp at hc;rw[hc];rfl),by omega⟩,by omega,by omega,fun h41=>?_,fun h41=>⟨by omega,fun h32=>?_,fun h32=>?_⟩⟩⟩⟩
    ·have h41':c.toNat=41:=by omega
     rw[Ar,if_pos h41']
     simp[rm,E.cn,uZ,E.lK]
    ·have h41':¬c.toNat=41:=by omega
     have h32':¬c.toNat=32:=by omega
     rw[if_neg h41',if_neg h32']
    ·have h41':¬c.toNat=41:=by omega
     have h32':c.toNat=32:=by omega
     rw[Ar,if_neg h41',if_pos h32']
     have:=JL s0 k hk ih n r (acc++[e]) (by omega) (by simp;omega)
     simpa[uZ,E.lK]using this
theorem OQ:∀(k:Nat),k<=300->∀s:List UInt8,s.length<=8000->aq Tryz.prog 116 [.v (.string (mk s)),.v (.int .i64 ((300-k:Nat):Int))] [] (bz (nE s (rd k s))):=by
 intro k
 induction k with
 |
  zero =>
  intro hk s hs
  refine Lj _ _ ?_
  unfold DI
  refine cm (EE s hs _ s.length 0 (by omega)) ?_
  simp only[↓zq,zs,af,zt,aS,bz]
  have hw:(s.takeWhile eJ).length<=s.length:=by
   have:=congrArg List.length (bQ (p:=eJ) (l:=s))
   simp only[an]at this;omega
  refine⟨fun h=>⟨by omega,by omega,?_⟩,fun h=>?_⟩
  ·have hne:¬s.takeWhile eJ=[]:=fun e=>by rw[e]at h;simp at h
   simp only[rd,if_neg hne,nE,E.cn,tj,xy]
  ·have hnil:s.takeWhile eJ=[]:=List.eq_nil_of_length_eq_zero (by omega)
   simp only[rd,if_pos hnil,nE]
   refine⟨fun _=>trivial,fun hne=>⟨?_,?_⟩⟩
   ·cases s with
    |nil=>exact absurd rfl hne
    |cons c s=>simp
   ·exact⟨fun _=>trivial,fun _=>⟨fun _=>trivial,fun h=>absurd rfl h⟩⟩
 |
  succ k ih =>
  intro hk s hs
  refine Lj _ _ ?_
  unfold DI
  refine cm (EE s hs _ s.length 0 (by omega)) ?_
  simp only[↓zq,zs,af,zt,aS,bz]
  have hw:(s.takeWhile eJ).length<=s.length:=by
   have:=congrArg List.length (bQ (p:=eJ) (l:=s))
   simp only[an]at this;omega
  refine⟨fun h=>⟨by omega,by omega,?_⟩,fun h=>?_⟩
  ·have hne:¬s.takeWhile eJ=[]:=fun e=>by rw[e]at h;simp at h
   simp only[rd,if_neg hne,nE,E.cn,tj,xy]
  ·have hnil:s.takeWhile eJ=[]:=List.eq_nil_of_length_eq_zero (by omega)
   simp only[rd,if_pos hnil]
   cases s with
   |nil=>simp[nE]
   |
    cons c s =>
    have hb:=lH (c::s) 0 (by simp)
    simp only[cC,cS]at hb
    simp only[aw]at hs
    simp only[↓zq,zs,af,hb,Ar]
    refine⟨fun h=>(by cases h),fun _=>⟨by omega,fun h40=>?_,fun h40=>⟨fun h300=>?_,fun h300=>⟨by omega,?_⟩⟩⟩⟩
    ·have:¬c.toNat=40:=by omega
     rw[if_neg this];rfl
    ·omega
    ·have h40':c.toNat=40:=by omega
     rw[if_pos h40']
     refine iX (JL (c::s) k (by omega) (ih (by omega)) (s.length+1) s [] (by omega) (by simp;omega)) (fun ys o e=>?_) (fun ys o e=>?_)
     ·split at e<;>cases e
     ·split at e<;>cases e
      ·rename_i e' r' hr
       simp only[↓zq,zs,af,cD]
       simp only[hr,nE]
      ·rename_i hr
       simp only[↓zq,zs,af]
       simp only[hr,nE]
end Go.Proofs.Trees
namespace Go.Proofs.Trees
open Go Go.VL
mutual
def E.sz:E->Nat
 | .atom _=>1
 | .list l=>1+E.je l
def E.je:List E->Nat
 |[]=>0
 |e::l=>e.sz+E.je l
end
mutual
def E.ok:E->Prop
 | .atom s=>s≠[]
 | .list l=>E.Cf l
def E.Cf:List E->Prop
 |[]=>True
 |e::l=>e.ok/\E.Cf l
end
theorem w6(l r:List E):E.je (l++r)=E.je l+E.je r:=by
 induction l with
 |nil=>simp[E.je]
 |cons e l ih=>simp[E.je,ih];omega
theorem xm(l r:List E):E.Cf (l++r)↔E.Cf l/\E.Cf r:=by
 induction l with
 |nil=>simp[E.Cf]
 |cons e l ih=>simp[E.Cf,ih,and_assoc]
theorem zT{f:List UInt8->Option (E×List UInt8)}(hf:∀s e r,f s=some (e,r)->e.ok/\e.sz+r.length<=s.length):∀(n:Nat) (s:List UInt8) (acc:List E) (e:E) (r:List UInt8),qZ f n s acc=some (e,r)->E.Cf acc->e.ok/\e.sz+r.length<=s.length+1+E.je acc
 |0,s,acc,e,r,h,_=>by cases h
 |
  n+1,s,acc,e,r,h,ha=>by
  simp only[qZ]at h
  split at h
  ·rename_i p c r' hs
   obtain⟨h1,h2⟩:=hf _ _ _ hs
   simp only[aw]at h2
   split at h
   ·cases h
    refine⟨(xm _ _).2 ⟨ha,h1,trivial⟩,?_⟩
    simp only[E.sz,w6,E.je];omega
   ·split at h
    ·have:=zT hf n _ _ _ _ h ((xm _ _).2 ⟨ha,h1,trivial⟩)
     refine⟨this.1,?_⟩
     have h3:=this.2
     simp only[w6,E.je]at h3;omega
    ·cases h
  ·cases h
theorem sP(s:List UInt8):(s.takeWhile eJ).length+(s.dropWhile eJ).length=s.length:=by
 have:=congrArg List.length (bQ (p:=eJ) (l:=s))
 simpa only[an]using this
theorem Dk:∀(k:Nat) (s:List UInt8) (e:E) (r:List UInt8),rd k s=some (e,r)->e.ok/\e.sz+r.length<=s.length
 |
  0,s,e,r,h=>by
  simp only[rd]at h
  split at h
  ·cases h
  ·rename_i hn;cases h
   have:=sP s
   have:0<(s.takeWhile eJ).length:=List.length_pos_iff.2 hn
   exact⟨hn,by simp only[E.sz];omega⟩
 |
  k+1,s,e,r,h=>by
  simp only[rd]at h
  split at h
  ·split at h
   ·split at h
    ·have:=zT (Dk k) _ _ _ _ _ h trivial
     refine⟨this.1,?_⟩
     have h3:=this.2
     simp only[E.je,aw]at h3 |-;omega
    ·cases h
   ·cases h
  ·rename_i hn;cases h
   have:=sP s
   have:0<(s.takeWhile eJ).length:=List.length_pos_iff.2 hn
   exact⟨hn,by simp only[E.sz];omega⟩
def pZ(s:List UInt8):Option E:=if s.length>8000 then none else match rd 300 s with|some (e,[])=>some e|_=>none
theorem nj{s:List UInt8}{e:E}(h:pZ s=some e):e.ok/\e.sz<=8000:=by
 unfold pZ at h
 split at h
 ·cases h
 ·split at h
  ·rename_i e' hr
   cases h
   have:=Dk _ _ _ _ hr
   exact⟨this.1,by have:=this.2;simp at this;omega⟩
  ·cases h
def sQ:Option E->AV
 |some e=>e.cn
 |none=>.v (.pointer none)
theorem Ip(s:List UInt8):aq Tryz.prog 73 [.v (.string (mk s))] [] (bz (sQ (pZ s))):=by
 refine N9 _ ?_
 simp only[Jt,↓zq,zs,af,zt,bz,pZ]
 refine⟨fun h=>?_,fun h=>?_⟩
 ·rw[if_pos (by omega)];simp[sQ]
 ·rw[if_neg (by omega)]
  refine ak (OQ 300 (by omega) s (by omega)) ?_
  cases hr:rd 300 s with
  |
   none =>
   simp only[nE,↓zq,zs,af,zt,sQ]
   refine⟨fun _=>trivial,fun _=>trivial⟩
  |
   some q =>
   obtain⟨e,r⟩:=q
   cases r with
   |nil=>simp only[nE,↓zq,zs,af,zt,sQ,cD];simp
   |cons c r=>simp only[nE,↓zq,zs,af,zt,sQ,cD];simp
def gL(b:UInt8):Bool:=decide (48<=b.toNat/\b.toNat<=57)
def named(lo hi:Nat):List UInt8->Bool
 |[]=>false
 |c::r=>decide (r.length<=2)&&decide (lo<=c.toNat/\c.toNat<=hi)&&r.all gL
def gC(s:List UInt8):Bool:=named 120 122 s
def cP(s:List UInt8):Bool:=named 116 116 s
def Dn(v lo hi:Int):Bool:=decide (lo<=v/\v<=hi)
theorem BH(v lo hi:Int):aq Tryz.prog 55 [.v (.int .i64 v),.v (.int .i64 lo),.v (.int .i64 hi)] [] (bz (.v (.bool (Dn v lo hi)))):=by
 refine O7 _ _ _ ?_
 simp only[Hp,↓zq,zs,af,bz,Dn]
 constructor<;>intro h<;>simp at h<;>simp[h]
 omega
theorem Hk(s:List UInt8)(hs:s.length<=3):∀(k i:Nat),i+k=s.length->FV [.v (.string (mk s)),.v (.int .i64 (i:Int))] [] (rm (if(s.drop i).all gL=true then(1,[],[])else(2,[.v (.bool false)],[])))
 |
  0,i,hi=>by
  have hd:s.drop i=[]:=bE (by omega)
  refine G1 _ _ ?_
  simp only[Gk,↓zq,zs,af,zt]
  exact⟨fun h=>by omega,fun _=>by simp[rm,hd]⟩
 |
  k+1,i,hi=>by
  have hlt:i<s.length:=by omega
  have e:s.drop i=s.getD i 0::s.drop (i+1):=by
   rw[aV hlt];simp[aa,hlt]
  refine G1 _ _ ?_
  simp only[Gk,↓zq,zs,af,zt,lH s i hlt,e,cI]
  generalize hb:s.getD i 0=b
  refine⟨fun _=>⟨by omega,fun h=>?_,fun h=>⟨by omega,fun h2=>?_,fun h2=>?_⟩⟩,fun h=>by omega⟩
  ·have:gL b=false:=by simp[gL];omega
   simp only[this,zf,rm]
  ·have:gL b=false:=by simp[gL];omega
   simp only[this,zf,rm]
  ·have:gL b=true:=by simp[gL];omega
   rw[bw i (by omega),this,bG]
   exact Hk s hs k (i+1) (by omega)
theorem GQ(s:List UInt8)(lo hi:Nat):aq Tryz.prog 140 [.v (.string (mk s)),.v (.int .u8 (lo:Int)),.v (.int .u8 (hi:Int))] [] (bz (.v (.bool (named lo hi s)))):=by
 refine M5 _ _ _ ?_
 unfold HY
 rw[cU]
 refine ak (BH _ _ _) ?_
 simp only[↓zq,zs,af,zt,bz]
 refine⟨fun h=>?_,fun h=>?_⟩
 ·cases s with
  |nil=>rfl
  |
   cons c s =>
   simp[Dn]at h
   have:¬s.length<=2:=by omega
   simp[named,this]
 ·cases s with
  |nil=>simp[Dn]at h
  |
   cons c s =>
   simp[Dn]at h
   have hl:s.length<=2:=by omega
   have hb:=lH (c::s) 0 (by simp)
   simp only[cC,cS]at hb
   simp only[↓zq,zs,af,hb]
   refine⟨by omega,fun h1=>?_,fun h1=>⟨by omega,fun h2=>?_,fun h2=>?_⟩⟩
   ·have:¬lo<=c.toNat:=by omega
    simp[named,this]
   ·have:¬c.toNat<=hi:=by omega
    simp[named,this]
   ·refine iX (Hk (c::s) (by simp;omega) s.length 1 (by simp;omega)) (fun ys o e=>?_) (fun ys o e=>?_)
    ·split at e<;>cases e
     rename_i ha
     simp at ha
     simp only[↓zq,zs,af]
     simp[named,hl]
     exact⟨⟨by omega,by omega⟩,fun x hx=>by simpa using ha x hx⟩
    ·split at e<;>cases e
     rename_i ha
     simp only[↓zq,zs,af]
     have:s.all gL=false:=by simpa using ha
     simp[named,this]
theorem D3(s:List UInt8):aq Tryz.prog 101 [.v (.string (mk s))] [] (bz (.v (.bool (gC s)))):=by
 refine OB _ ?_
 unfold J1
 refine ak (GQ s 120 122) ?_
 simp only[↓zq,zs,af,bz,gC]
theorem F3(s:List UInt8):aq Tryz.prog 99 [.v (.string (mk s))] [] (bz (.v (.bool (cP s)))):=by
 refine M8 _ ?_
 unfold HZ
 refine ak (GQ s 116 116) ?_
 simp only[↓zq,zs,af,bz,cP]
end Go.Proofs.Trees
namespace Go.Proofs.Trees
open Go Go.VL Go.RowKit
theorem NO(l:List UInt8)(c:UInt8):aq Tryz.prog 158 [.v (.string (mk l)),.v (.string (mk [c]))] [] (bz (.v (.bool (decide (0<=Lib.indexByte l c))))):=by
 refine aq.Pd (xs:=[.string (mk l),.string (mk [c])]) ⟨mH,by kernel_rfl,by kernel_rfl,by kernel_rfl⟩ fun w=>?_
 have:=Any.strings_Contains_one Tryz.Cp (mk l) c w
 refine Calls.mono this fun e w' ⟨h1,h2⟩=>?_
 rw[h2]
 have hd:(mk l).data.toList=l:=by simp[mk]
 exact⟨by rw[h1,hd],Below.refl _ _⟩
theorem Js(l cs:List UInt8)(hl:l.length<=1000000)(hc:cs.length<=1000)(ha:∀b,b∈cs->b.toNat<128):aq Tryz.prog 153 [.v (.string (mk l)),.v (.string (mk cs))] [] (bz (.v (.string (mk (Lib.trimS l cs))))):=by
 refine aq.Pd (xs:=[.string (mk l),.string (mk cs)]) ⟨pO,by kernel_rfl,by kernel_rfl,by kernel_rfl⟩ fun w=>?_
 have:=Any.strings_Trim_laid Tryz.BN (by kernel_rfl) (mk l) (mk cs) w (by rw[cU];omega) (by rw[cU];omega) (fun j b hj=>ha b (by
  have:(mk cs).data.toList=cs:=by simp[mk]
  rw[this]at hj
  exact List.mem_of_getElem? hj))
 refine Calls.mono this fun e w' ⟨h1,h2⟩=>⟨?_,h2⟩
 rw[h1]
 simp[mk]
theorem mN:∀(l:List UInt8) (c:UInt8),(0<=Lib.indexByte l c↔c∈l)/\-1<=Lib.indexByte l c
 |[],c=>by simp[Lib.indexByte]
 |
  b::l,c=>by
  obtain⟨h1,h2⟩:=mN l c
  unfold Lib.indexByte
  by_cases e:b=c
  ·subst e;simp
  ·have e':(b==c)=false:=by simp[e]
   rw[e']
   by_cases q:Lib.indexByte l c = -1
   ·have:c∉l:=fun h=>by have:=h1.2 h;omega
    simp[q,this,Ne.symm e]
   ·have q':(Lib.indexByte l c==-1)=false:=by simp[q]
    simp only[q',Bool.false_eq_true,if_false,aJ]
    constructor
    ·constructor
     ·intro h;exact .inr (h1.1 (by omega))
     ·intro h
      rcases h with h|h
      ·exact absurd h.symm e
      ·have:=h1.2 h;omega
    ·omega
theorem dropWhile_nil{p:UInt8->Bool}:∀(l:List UInt8),l.dropWhile p=[]↔l.all p=true
 |[]=>by simp
 |
  b::l=>by
  cases h:p b with
  |true=>rw[List.dropWhile_cons_of_pos h,dropWhile_nil l];simp[h]
  |false=>rw[List.dropWhile_cons_of_neg (by rw[h];simp)];simp[h]
theorem rD(l cs:List UInt8):Lib.trimS l cs=[]↔l.all (cs.contains ·)=true:=by
 unfold Lib.trimS Lib.trimLeftS
 rw[dropWhile_nil]
 unfold Lib.trimRightS
 constructor
 ·intro h
  by_cases hn:l.reverse.dropWhile (cs.contains ·)=[]
  ·rw[dropWhile_nil]at hn
   simpa using hn
  ·exfalso
   rw[List.all_reverse]at h
   obtain⟨b,r,e⟩:=List.exists_cons_of_ne_nil hn
   have h1:cs.contains b=false:=by
    have:=List.head_dropWhile_not (p:=(cs.contains ·)) (l:=l.reverse) hn
    simp only[e,List.head_cons]at this
    exact this
   rw[e]at h
   simp only[cI,au]at h
   rw[h1]at h;cases h.1
 ·intro h
  have:l.reverse.dropWhile (cs.contains ·)=[]:=by rw[dropWhile_nil];simpa using h
  rw[this];rfl
def DT:List UInt8:=[48,49,50,51,52,53,54,55,56,57]
theorem tX(b:UInt8):DT.contains b=gL b:=by
 have:∀n:Fin 256,DT.contains (aZ n.val)=gL (aZ n.val):=by decide +kernel
 have:=this ⟨b.toNat,b.toNat_lt⟩
 simpa using this
theorem Hu(s ls:List UInt8)(lo hi:Nat)(hls:∀c:UInt8,c∈ls↔lo<=c.toNat/\c.toNat<=hi):aq Tryz.prog 145 [.v (.string (mk s)),.v (.string (mk ls))] [] (bz (.v (.bool (named lo hi s)))):=by
 refine MZ _ _ ?_
 simp only[Ht,↓zq,zs,af,zt,bz]
 cases s with
 |nil=>exact⟨fun h=>by simp at h,fun _=>rfl⟩
 |
  cons c s =>
  have e1:(List.take (bR 1) (c::s))=[c]:=rfl
  have e2:(List.take (s.length+1) (c::s)).drop (bR 1)=s:=by simp
  simp only[aw,e1,e2]
  refine⟨fun _=>⟨fun h3=>⟨by omega,?_⟩,fun h3=>?_⟩,fun h=>by omega⟩
  ·have hl:s.length<=2:=by omega
   refine ak (NO ls c) ?_
   simp only[↓zq,zs,af]
   have hi1:=(mN ls c).1
   refine⟨fun h=>⟨by omega,?_⟩,fun h=>?_⟩
   ·refine ak (Js s DT (by omega) (by decide) (by decide)) ?_
    simp only[↓zq,zs,af,zt]
    have hc:=(hls c).1 (hi1.1 h)
    congr 2
    rw[cr,beq_iff_eq,rD]
    simp only[named,hl,hc,decide_true,bG,and_self]
    have:(fun x=>DT.contains x)=gL:=funext tX
    rw[this]
   ·have hc:¬(lo<=c.toNat/\c.toNat<=hi):=fun h'=>h (hi1.2 ((hls c).2 h'))
    simp only[named,hc,zf]
  ·have hl:¬s.length<=2:=by omega
   simp only[named,hl,zf]
theorem HB(s:List UInt8):aq Tryz.prog 117 [.v (.string (mk s))] [] (bz (.v (.bool (gC s)))):=by
 refine Oy _ ?_
 unfold GP
 have h:∀n:Fin 256,(aZ n.val∈[(120:UInt8),121,122])↔120<=(aZ n.val).toNat/\(aZ n.val).toNat<=122:=by decide +kernel
 refine ak (Hu s [120,121,122] 120 122 fun c=>by simpa using h ⟨c.toNat,c.toNat_lt⟩) ?_
 simp only[↓zq,zs,af,bz,gC]
theorem BE(s:List UInt8):aq Tryz.prog 118 [.v (.string (mk s))] [] (bz (.v (.bool (cP s)))):=by
 refine N1 _ ?_
 unfold J7
 have h:∀n:Fin 256,(aZ n.val∈[(116:UInt8)])↔116<=(aZ n.val).toNat/\(aZ n.val).toNat<=116:=by decide +kernel
 refine ak (Hu s [116] 116 116 fun c=>by simpa using h ⟨c.toNat,c.toNat_lt⟩) ?_
 simp only[↓zq,zs,af,bz,cP]
end Go.Proofs.Trees
namespace Go.Proofs.Trees
open Go Go.VL
inductive Ty where
 |zero|one
 |name (s:List UInt8)
 |bound (up:Nat)
 |plus (a b:Ty)
 |times (a b:Ty)
 |rc (a:Ty)
def Ty.av:Ty->AV
 | .zero=>.ptr [.v (.int .u8 48),.v (.string (mk [])),.v (.int .i64 0),.v (.pointer none),.v (.pointer none)]
 | .one=>.ptr [.v (.int .u8 49),.v (.string (mk [])),.v (.int .i64 0),.v (.pointer none),.v (.pointer none)]
 | .name s=>.ptr [.v (.int .u8 110),.v (.string (mk s)),.v (.int .i64 0),.v (.pointer none),.v (.pointer none)]
 | .bound up=>.ptr [.v (.int .u8 98),.v (.string (mk [])),.v (.int .i64 (up:Int)),.v (.pointer none),.v (.pointer none)]
 | .plus a b=>.ptr [.v (.int .u8 43),.v (.string (mk [])),.v (.int .i64 0),a.av,b.av]
 | .times a b=>.ptr [.v (.int .u8 42),.v (.string (mk [])),.v (.int .i64 0),a.av,b.av]
 | .rc a=>.ptr [.v (.int .u8 114),.v (.string (mk [])),.v (.int .i64 0),a.av,.v (.pointer none)]
theorem aE(t:Ty):LK.has .ptr t.av=True:=by cases t<;>simp[Ty.av,cc]
theorem fk(t:Ty):t.av.isNil=false:=by cases t<;>rfl
def gK:Option Ty->AV
 |some t=>t.av
 |none=>.v (.pointer none)
theorem fH(t:Option Ty):LK.has .ptr (gK t)=True:=by cases t<;>simp[gK,aE,iG]
def E.at:E->List UInt8
 | .atom s=>s
 | .list _=>[]
def bH(s:List UInt8)(ar:List (List UInt8)):Nat->Option Nat
 |0=>none
 |i+1=>if ar.getD i []=s then some (ar.length-1-i)else bH s ar i
def cB:E->List (List UInt8)->Option Ty
 | .atom s,ar=>if s=[48]then some .zero else if s=[49]then some .one else if gC s=true then some (.name s)else if cP s=true then(match bH s ar ar.length with|some u=>some (.bound u)|none=>some (.name s))else none
 |
  .list [x,a,b],ar =>
  if x.at=[43]then(match cB a ar,cB b ar with|some t,some u=>some (.plus t u)|_,_=>none)
  else if x.at=[42]then(match cB a ar,cB b ar with|some t,some u=>some (.times t u)|_,_=>none)
  else if x.at=[114,101,99]then(if cP a.at=true then(match cB b (ar++[a.at])with|some t=>some (.rc t)|none=>none)else none)
  else none
 | .list _,_=>none
def cg(l:List (List UInt8)):List (List AV):=l.map fun s=>[.v (.string (mk s))]
def dG(a:AV)(l:List (List UInt8)):Prop:=LK.sl.has a/\a.elems=cg l
theorem dG.len{a:AV}{l:List (List UInt8)}(h:dG a l):a.elems.length=l.length:=by rw[h.2];simp[cg]
theorem dG.idx{a:AV}{l:List (List UInt8)}(h:dG a l){i:Nat}(hi:i<l.length):a.elems.getD i []=[.v (.string (mk (l.getD i [])))]:=by
 rw[h.2];simp[cg,aa,hi]
theorem dG.of(l:List (List UInt8)):dG (.sl (cg l)) l:=⟨(ck _).mpr trivial,rfl⟩
theorem dG.nil:dG (.v (.slice none 0 0)) []:=⟨(bp).mpr trivial,rfl⟩
theorem wo(e:E)(w:List UInt8):aq Tryz.prog 119 [e.cn,.v (.string (mk w)),.v (.int .i64 3)] [] (bz (.v (.bool (match e with| .list [x,_,_]=>x.at==w|_=>false)))):=by
 refine JM _ _ _ ((cD e).mpr trivial) ?_
 cases e with
 |atom s=>simp only[At,E.cn,↓zq,zs,af,zt,bz];exact⟨by omega,fun h=>by omega,fun _=>trivial⟩
 |
  list l =>
  simp only[At,E.cn,↓zq,zs,af,zt,bz,p8]
  match l with
  |[]=>exact⟨by simp,fun h=>by simp at h,fun _=>rfl⟩
  |[_]=>exact⟨by simp,fun h=>by simp at h,fun _=>rfl⟩
  |[_,_]=>exact⟨by simp,fun h=>by simp at h,fun _=>rfl⟩
  |
   [x,y,z] =>
   refine⟨by simp,fun _=>?_,fun h=>by simp at h⟩
   cases x<;>simp[E.lK,E.cn,cc,oV,ju,eX,s4,toList_mk,E.at]
  |_::_::_::_::l=>exact⟨by simp,fun h=>by simp at h;omega,fun _=>rfl⟩
theorem JN(e:E)(a:AV)(ar:List (List UInt8))(ha:dG a ar)(hl:ar.length<1000000):∀(i:Nat),i<=ar.length->ER [e.cn,a,.v (.int .i64 ((i:Int)-1))] []
 (rm (match bH e.at ar i with|some u=>(2,[],[.cells [.v (.int .u8 98),.v (.string (mk [])),.v (.int .i64 (u:Int)),.v (.pointer none),.v (.pointer none)]])|none=>(1,[e.cn],[])))
 |
  0,hi=>by
  refine J5 _ _ _ ?_
  simp only[EZ,↓zq,zs,af,cD]
  exact⟨ha.1,fun h=>by omega,fun _=>rfl⟩
 |
  i+1,hi=>by
  have hlt:i<ar.length:=by omega
  have e1:((i+1:Nat):Int)-1=(i:Int):=by omega
  rw[e1]
  refine J5 _ _ _ ?_
  have hd:e.cn.deref.headD .any=.v (.string (mk e.at)):=by cases e<;>rfl
  have hdl:1<=e.cn.deref.length:=by cases e<;>simp[E.cn,ju]
  simp only[EZ,↓zq,zs,af,zt,cD,dU,ha.len,ha.idx hlt,hd,qc]
  refine⟨ha.1,fun _=>⟨⟨ha.1,by omega,by omega⟩,by omega,hdl,fun h=>⟨ha.1,?_⟩,fun h=>?_⟩,fun h=>by omega⟩
  ·simp only[bH,h,if_true,rm]
   rw[wrap64 ((ar.length:Int)-1) (by omega) (by omega),wrap64 _ (by omega) (by omega)]
   have:(ar.length:Int)-1-(i:Int)=((ar.length-1-i:Nat):Int):=by omega
   rw[this]
  ·simp only[bH,h,if_false]
   rw[wrap64 _ (by omega) (by omega)]
   exact JN e a ar ha hl i (by omega)
end Go.Proofs.Trees
namespace Go.Proofs.Trees
open Go Go.VL
theorem nh(e:E):e.cn.deref.headD .any=.v (.string (mk e.at)):=by cases e<;>rfl
theorem lf(e:E):1<=e.cn.deref.length:=by cases e<;>simp[E.cn,ju]
theorem toNat_one:bR 1=1:=rfl
theorem bq:bR 2=2:=rfl
theorem DO{ar:List (List UInt8)}(s:List UInt8):cg ar++[[.v (.string (mk s))]]=cg (ar++[s]):=by simp[cg]
theorem j2(ar:List (List UInt8)):cx 1 (cg ar):=fun c hc=>by
 obtain⟨s,_,rfl⟩:=cd.1 hc;rfl
theorem kq{x a b:E}(ar:List (List UInt8))(hx:x.at=[43]):cB (.list [x,a,b]) ar=match cB a ar,cB b ar with|some t,some u=>some (.plus t u)|_,_=>none:=by rw[cB,if_pos hx]<;>cases cB a ar<;>cases cB b ar<;>rfl
end Go.Proofs.Trees
