/-
  Part of a proof: Go functions read by values, trees of functions, their contracts.
-/
import Derived.Test.YtmdlogdmjkfojaaGreatDoorP3
import Derived.Shelf.Lays
import Derived.Shelf.LaysM
import Derived.Shelf.Strconv.Itoa3
import Derived.Shelf.Strconv.Atoi
import Derived.Shelf.Strings.SlTrimAscii
import Derived.Shelf.Strings.Search3
import Derived.Test.YtmdlogdmjkfojaaGreatDoorProg
set_option linter.unusedVariables false
set_option linter.unusedSimpArgs false
open And renaming intro→aI
open ByteArray renaming extract→cm,size→af,toList→ae
open Int renaming tmod→dG,toNat→bM
namespace Go.Proofs
open Go.Shelf
def Tryz.vz:Go.Shelf.Ren:=⟨fun|160=>169|232=>181|231=>180|227=>182|234=>184|233=>183|236=>186|235=>185|228=>196|271=>199|151=>198|197=>197|120=>210|152=>209|260=>208|137=>217|119=>218|224=>213|225=>212|217=>211|266=>219|n=>n,fun|9=>9|4=>4|3=>3|5=>5|117=>237|116=>236|0=>0|124=>240|21=>21|105=>255|46=>244|119=>272|139=>275|138=>274|n=>n,fun|3=>4|4=>5|n=>n⟩
theorem Tryz.Ee:Go.Proofs.Lays.n160 Tryz.prog Tryz.vz:={
 mixed:=by kernel_rfl,
 f119:=Tryz.func218.trans (congrArg some (by kernel_rfl)),
 f120:=Tryz.func210.trans (congrArg some (by kernel_rfl)),
 f137:=Tryz.func217.trans (congrArg some (by kernel_rfl)),
 f151:=Tryz.func198.trans (congrArg some (by kernel_rfl)),
 f152:=Tryz.func209.trans (congrArg some (by kernel_rfl)),
 f160:=Tryz.func169.trans (congrArg some (by kernel_rfl)),
 f197:=Tryz.func197.trans (congrArg some (by kernel_rfl)),
 f217:=Tryz.func211.trans (congrArg some (by kernel_rfl)),
 f224:=Tryz.func213.trans (congrArg some (by kernel_rfl)),
 f225:=Tryz.func212.trans (congrArg some (by kernel_rfl)),
 f227:=Tryz.func182.trans (congrArg some (by kernel_rfl)),
 f228:=Tryz.func196.trans (congrArg some (by kernel_rfl)),
 f231:=Tryz.func180.trans (congrArg some (by kernel_rfl)),
 f232:=Tryz.func181.trans (congrArg some (by kernel_rfl)),
 f233:=Tryz.func183.trans (congrArg some (by kernel_rfl)),
 f234:=Tryz.func184.trans (congrArg some (by kernel_rfl)),
 f235:=Tryz.func185.trans (congrArg some (by kernel_rfl)),
 f236:=Tryz.func186.trans (congrArg some (by kernel_rfl)),
 f260:=Tryz.func208.trans (congrArg some (by kernel_rfl)),
 f266:=Tryz.func219.trans (congrArg some (by kernel_rfl)),
 f271:=Tryz.func199.trans (congrArg some (by kernel_rfl)),
 t0:=Tryz.underlying0,
 a0:=Tryz.isAgg0,
 z0:=Tryz.sizeOf0,
 v0:=Tryz.zeroValue0,
 t3:=Tryz.underlying3,
 a3:=Tryz.isAgg3,
 z3:=Tryz.sizeOf3,
 v3:=Tryz.zeroValue3,
 t4:=Tryz.underlying4,
 a4:=Tryz.isAgg4,
 z4:=Tryz.sizeOf4,
 v4:=Tryz.zeroValue4,
 t5:=Tryz.underlying5,
 a5:=Tryz.isAgg5,
 z5:=Tryz.sizeOf5,
 v5:=Tryz.zeroValue5,
 t9:=Tryz.underlying9,
 a9:=Tryz.isAgg9,
 z9:=Tryz.sizeOf9,
 v9:=Tryz.zeroValue9,
 t21:=Tryz.underlying21,
 a21:=Tryz.isAgg21,
 z21:=Tryz.sizeOf21,
 v21:=Tryz.zeroValue21,
 t46:=Tryz.underlying244,
 a46:=Tryz.isAgg244,
 z46:=Tryz.sizeOf244,
 v46:=Tryz.zeroValue244,
 t105:=Tryz.underlying255,
 a105:=Tryz.isAgg255,
 z105:=Tryz.sizeOf255,
 v105:=Tryz.zeroValue255,
 t116:=Tryz.underlying236,
 a116:=Tryz.isAgg236,
 z116:=Tryz.sizeOf236,
 t117:=Tryz.underlying237,
 a117:=Tryz.isAgg237,
 z117:=Tryz.sizeOf237,
 v117:=Tryz.zeroValue237,
 t119:=Tryz.underlying272,
 a119:=Tryz.isAgg272,
 z119:=Tryz.sizeOf272,
 t124:=Tryz.underlying240,
 a124:=Tryz.isAgg240,
 z124:=Tryz.sizeOf240,
 v124:=Tryz.zeroValue240,
 t138:=Tryz.underlying274,
 a138:=Tryz.isAgg274,
 z138:=Tryz.sizeOf274,
 v138:=Tryz.zeroValue274,
 t139:=Tryz.underlying275,
 a139:=Tryz.isAgg275,
 z139:=Tryz.sizeOf275,
 v139:=Tryz.zeroValue275,
 g3:=by kernel_rfl,
 g4:=by kernel_rfl}
def Tryz.wy:Go.Shelf.Ren:=⟨fun|144=>178|143=>191|219=>202|217=>211|225=>212|224=>213|267=>214|266=>219|314=>220|n=>n,fun|9=>9|4=>4|3=>3|5=>5|46=>244|146=>277|51=>265|n=>n,fun|1=>3|n=>n⟩
theorem Tryz.EO:Go.Proofs.Lays.n144 Tryz.prog Tryz.wy:={
 mixed:=by kernel_rfl,
 f143:=Tryz.func191.trans (congrArg some (by kernel_rfl)),
 f144:=Tryz.func178.trans (congrArg some (by kernel_rfl)),
 f217:=Tryz.func211.trans (congrArg some (by kernel_rfl)),
 f219:=Tryz.func202.trans (congrArg some (by kernel_rfl)),
 f224:=Tryz.func213.trans (congrArg some (by kernel_rfl)),
 f225:=Tryz.func212.trans (congrArg some (by kernel_rfl)),
 f266:=Tryz.func219.trans (congrArg some (by kernel_rfl)),
 f267:=Tryz.func214.trans (congrArg some (by kernel_rfl)),
 f314:=Tryz.func220.trans (congrArg some (by kernel_rfl)),
 t3:=Tryz.underlying3,
 a3:=Tryz.isAgg3,
 z3:=Tryz.sizeOf3,
 v3:=Tryz.zeroValue3,
 t4:=Tryz.underlying4,
 a4:=Tryz.isAgg4,
 z4:=Tryz.sizeOf4,
 v4:=Tryz.zeroValue4,
 t5:=Tryz.underlying5,
 a5:=Tryz.isAgg5,
 z5:=Tryz.sizeOf5,
 v5:=Tryz.zeroValue5,
 t9:=Tryz.underlying9,
 a9:=Tryz.isAgg9,
 z9:=Tryz.sizeOf9,
 v9:=Tryz.zeroValue9,
 t46:=Tryz.underlying244,
 a46:=Tryz.isAgg244,
 z46:=Tryz.sizeOf244,
 v46:=Tryz.zeroValue244,
 t51:=Tryz.underlying265,
 a51:=Tryz.isAgg265,
 z51:=Tryz.sizeOf265,
 v51:=Tryz.zeroValue265,
 t146:=Tryz.underlying277,
 a146:=Tryz.isAgg277,
 z146:=Tryz.sizeOf277,
 v146:=Tryz.zeroValue277,
 g1:=by kernel_rfl}
def Tryz.wj:Go.Shelf.Ren:=⟨fun|172=>124|244=>155|245=>156|247=>170|279=>171|280=>172|281=>173|282=>174|287=>187|316=>188|171=>148|205=>189|321=>200|322=>201|243=>164|246=>179|283=>192|284=>193|285=>194|286=>195|129=>204|317=>203|318=>205|319=>206|320=>207|337=>215|338=>216|n=>n,fun|9=>9|3=>3|75=>185|76=>186|4=>4|5=>5|167=>225|37=>22|0=>0|85=>226|2=>2|168=>228|53=>241|175=>242|46=>244|210=>247|127=>259|145=>262|143=>260|21=>21|171=>250|173=>253|212=>264|51=>265|20=>20|213=>266|232=>279|233=>280|80=>73|n=>n,fun|15=>0|16=>1|17=>2|18=>6|19=>7|n=>n⟩
theorem Tryz.EH:Go.Proofs.Lays.n172 Tryz.prog Tryz.wj:={
 mixed:=by kernel_rfl,
 f129:=Tryz.func204.trans (congrArg some (by kernel_rfl)),
 f171:=Tryz.func148.trans (congrArg some (by kernel_rfl)),
 f172:=Tryz.func124.trans (congrArg some (by kernel_rfl)),
 f205:=Tryz.func189.trans (congrArg some (by kernel_rfl)),
 f243:=Tryz.func164.trans (congrArg some (by kernel_rfl)),
 f244:=Tryz.func155.trans (congrArg some (by kernel_rfl)),
 f245:=Tryz.func156.trans (congrArg some (by kernel_rfl)),
 f246:=Tryz.func179.trans (congrArg some (by kernel_rfl)),
 f247:=Tryz.func170.trans (congrArg some (by kernel_rfl)),
 f279:=Tryz.func171.trans (congrArg some (by kernel_rfl)),
 f280:=Tryz.func172.trans (congrArg some (by kernel_rfl)),
 f281:=Tryz.func173.trans (congrArg some (by kernel_rfl)),
 f282:=Tryz.func174.trans (congrArg some (by kernel_rfl)),
 f283:=Tryz.func192.trans (congrArg some (by kernel_rfl)),
 f284:=Tryz.func193.trans (congrArg some (by kernel_rfl)),
 f285:=Tryz.func194.trans (congrArg some (by kernel_rfl)),
 f286:=Tryz.func195.trans (congrArg some (by kernel_rfl)),
 f287:=Tryz.func187.trans (congrArg some (by kernel_rfl)),
 f316:=Tryz.func188.trans (congrArg some (by kernel_rfl)),
 f317:=Tryz.func203.trans (congrArg some (by kernel_rfl)),
 f318:=Tryz.func205.trans (congrArg some (by kernel_rfl)),
 f319:=Tryz.func206.trans (congrArg some (by kernel_rfl)),
 f320:=Tryz.func207.trans (congrArg some (by kernel_rfl)),
 f321:=Tryz.func200.trans (congrArg some (by kernel_rfl)),
 f322:=Tryz.func201.trans (congrArg some (by kernel_rfl)),
 f337:=Tryz.func215.trans (congrArg some (by kernel_rfl)),
 f338:=Tryz.func216.trans (congrArg some (by kernel_rfl)),
 t0:=Tryz.underlying0,
 a0:=Tryz.isAgg0,
 z0:=Tryz.sizeOf0,
 v0:=Tryz.zeroValue0,
 t2:=Tryz.underlying2,
 a2:=Tryz.isAgg2,
 z2:=Tryz.sizeOf2,
 v2:=Tryz.zeroValue2,
 t3:=Tryz.underlying3,
 a3:=Tryz.isAgg3,
 z3:=Tryz.sizeOf3,
 v3:=Tryz.zeroValue3,
 t4:=Tryz.underlying4,
 a4:=Tryz.isAgg4,
 z4:=Tryz.sizeOf4,
 v4:=Tryz.zeroValue4,
 t5:=Tryz.underlying5,
 a5:=Tryz.isAgg5,
 z5:=Tryz.sizeOf5,
 v5:=Tryz.zeroValue5,
 t9:=Tryz.underlying9,
 a9:=Tryz.isAgg9,
 z9:=Tryz.sizeOf9,
 v9:=Tryz.zeroValue9,
 t20:=Tryz.underlying20,
 a20:=Tryz.isAgg20,
 z20:=Tryz.sizeOf20,
 v20:=Tryz.zeroValue20,
 t21:=Tryz.underlying21,
 a21:=Tryz.isAgg21,
 z21:=Tryz.sizeOf21,
 v21:=Tryz.zeroValue21,
 t37:=Tryz.underlying22,
 a37:=Tryz.isAgg22,
 z37:=Tryz.sizeOf22,
 v37:=Tryz.zeroValue22,
 t46:=Tryz.underlying244,
 a46:=Tryz.isAgg244,
 z46:=Tryz.sizeOf244,
 v46:=Tryz.zeroValue244,
 t51:=Tryz.underlying265,
 a51:=Tryz.isAgg265,
 z51:=Tryz.sizeOf265,
 v51:=Tryz.zeroValue265,
 t53:=Tryz.underlying241,
 a53:=Tryz.isAgg241,
 z53:=Tryz.sizeOf241,
 v53:=Tryz.zeroValue241,
 t75:=Tryz.underlying185,
 a75:=Tryz.isAgg185,
 z75:=Tryz.sizeOf185,
 v75:=Tryz.zeroValue185,
 t76:=Tryz.underlying186,
 a76:=Tryz.isAgg186,
 z76:=Tryz.sizeOf186,
 v76:=Tryz.zeroValue186,
 t85:=Tryz.underlying226,
 a85:=Tryz.isAgg226,
 z85:=Tryz.sizeOf226,
 v85:=Tryz.zeroValue226,
 t127:=Tryz.underlying259,
 a127:=Tryz.isAgg259,
 z127:=Tryz.sizeOf259,
 v127:=Tryz.zeroValue259,
 t143:=Tryz.underlying260,
 a143:=Tryz.isAgg260,
 z143:=Tryz.sizeOf260,
 v143:=Tryz.zeroValue260,
 t145:=Tryz.underlying262,
 a145:=Tryz.isAgg262,
 z145:=Tryz.sizeOf262,
 v145:=Tryz.zeroValue262,
 t167:=Tryz.underlying225,
 a167:=Tryz.isAgg225,
 z167:=Tryz.sizeOf225,
 v167:=Tryz.zeroValue225,
 t168:=Tryz.underlying228,
 a168:=Tryz.isAgg228,
 z168:=Tryz.sizeOf228,
 v168:=Tryz.zeroValue228,
 t171:=Tryz.underlying250,
 a171:=Tryz.isAgg250,
 z171:=Tryz.sizeOf250,
 v171:=Tryz.zeroValue250,
 t173:=Tryz.underlying253,
 a173:=Tryz.isAgg253,
 z173:=Tryz.sizeOf253,
 v173:=Tryz.zeroValue253,
 t175:=Tryz.underlying242,
 a175:=Tryz.isAgg242,
 z175:=Tryz.sizeOf242,
 v175:=Tryz.zeroValue242,
 t210:=Tryz.underlying247,
 a210:=Tryz.isAgg247,
 z210:=Tryz.sizeOf247,
 v210:=Tryz.zeroValue247,
 t212:=Tryz.underlying264,
 a212:=Tryz.isAgg264,
 z212:=Tryz.sizeOf264,
 v212:=Tryz.zeroValue264,
 t213:=Tryz.underlying266,
 a213:=Tryz.isAgg266,
 z213:=Tryz.sizeOf266,
 t232:=Tryz.underlying279,
 a232:=Tryz.isAgg279,
 z232:=Tryz.sizeOf279,
 v232:=Tryz.zeroValue279,
 t233:=Tryz.underlying280,
 a233:=Tryz.isAgg280,
 z233:=Tryz.sizeOf280,
 v233:=Tryz.zeroValue280,
 g15:=by kernel_rfl,
 g16:=by kernel_rfl,
 g17:=by kernel_rfl,
 g18:=by kernel_rfl,
 g19:=by kernel_rfl}
def Tryz.vg:Go.Shelf.Ren:=⟨fun|171=>148|243=>164|246=>179|283=>192|284=>193|285=>194|286=>195|129=>204|317=>203|318=>205|319=>206|320=>207|337=>215|338=>216|n=>n,fun|3=>3|9=>9|2=>2|4=>4|171=>250|0=>0|53=>241|37=>22|5=>5|173=>253|212=>264|51=>265|20=>20|213=>266|46=>244|232=>279|233=>280|n=>n,fun|17=>2|18=>6|19=>7|n=>n⟩
theorem Tryz.Ca:Go.Proofs.LaysM.n171 Tryz.prog Tryz.vg:={
 mixed:=by kernel_rfl,
 f129:=Tryz.func204.trans (congrArg some (by kernel_rfl)),
 f171:=Tryz.func148.trans (congrArg some (by kernel_rfl)),
 f243:=Tryz.func164.trans (congrArg some (by kernel_rfl)),
 f246:=Tryz.func179.trans (congrArg some (by kernel_rfl)),
 f283:=Tryz.func192.trans (congrArg some (by kernel_rfl)),
 f284:=Tryz.func193.trans (congrArg some (by kernel_rfl)),
 f285:=Tryz.func194.trans (congrArg some (by kernel_rfl)),
 f286:=Tryz.func195.trans (congrArg some (by kernel_rfl)),
 f317:=Tryz.func203.trans (congrArg some (by kernel_rfl)),
 f318:=Tryz.func205.trans (congrArg some (by kernel_rfl)),
 f319:=Tryz.func206.trans (congrArg some (by kernel_rfl)),
 f320:=Tryz.func207.trans (congrArg some (by kernel_rfl)),
 f337:=Tryz.func215.trans (congrArg some (by kernel_rfl)),
 f338:=Tryz.func216.trans (congrArg some (by kernel_rfl)),
 t0:=Tryz.underlying0,
 a0:=Tryz.isAgg0,
 z0:=Tryz.sizeOf0,
 v0:=Tryz.zeroValue0,
 t2:=Tryz.underlying2,
 a2:=Tryz.isAgg2,
 z2:=Tryz.sizeOf2,
 v2:=Tryz.zeroValue2,
 t3:=Tryz.underlying3,
 a3:=Tryz.isAgg3,
 z3:=Tryz.sizeOf3,
 v3:=Tryz.zeroValue3,
 t4:=Tryz.underlying4,
 a4:=Tryz.isAgg4,
 z4:=Tryz.sizeOf4,
 v4:=Tryz.zeroValue4,
 t5:=Tryz.underlying5,
 a5:=Tryz.isAgg5,
 z5:=Tryz.sizeOf5,
 v5:=Tryz.zeroValue5,
 t9:=Tryz.underlying9,
 a9:=Tryz.isAgg9,
 z9:=Tryz.sizeOf9,
 v9:=Tryz.zeroValue9,
 t20:=Tryz.underlying20,
 a20:=Tryz.isAgg20,
 z20:=Tryz.sizeOf20,
 v20:=Tryz.zeroValue20,
 t37:=Tryz.underlying22,
 a37:=Tryz.isAgg22,
 z37:=Tryz.sizeOf22,
 v37:=Tryz.zeroValue22,
 t46:=Tryz.underlying244,
 a46:=Tryz.isAgg244,
 z46:=Tryz.sizeOf244,
 v46:=Tryz.zeroValue244,
 t51:=Tryz.underlying265,
 a51:=Tryz.isAgg265,
 z51:=Tryz.sizeOf265,
 v51:=Tryz.zeroValue265,
 t53:=Tryz.underlying241,
 a53:=Tryz.isAgg241,
 z53:=Tryz.sizeOf241,
 v53:=Tryz.zeroValue241,
 t171:=Tryz.underlying250,
 a171:=Tryz.isAgg250,
 z171:=Tryz.sizeOf250,
 v171:=Tryz.zeroValue250,
 t173:=Tryz.underlying253,
 a173:=Tryz.isAgg253,
 z173:=Tryz.sizeOf253,
 v173:=Tryz.zeroValue253,
 t212:=Tryz.underlying264,
 a212:=Tryz.isAgg264,
 z212:=Tryz.sizeOf264,
 v212:=Tryz.zeroValue264,
 t213:=Tryz.underlying266,
 a213:=Tryz.isAgg266,
 z213:=Tryz.sizeOf266,
 t232:=Tryz.underlying279,
 a232:=Tryz.isAgg279,
 z232:=Tryz.sizeOf279,
 v232:=Tryz.zeroValue279,
 t233:=Tryz.underlying280,
 a233:=Tryz.isAgg280,
 z233:=Tryz.sizeOf280,
 v233:=Tryz.zeroValue280,
 g17:=by kernel_rfl,
 g18:=by kernel_rfl,
 g19:=by kernel_rfl,
 i0:=by kernel_rfl,
 i2:=by kernel_rfl,
 i3:=by kernel_rfl,
 i4:=by kernel_rfl,
 i5:=by kernel_rfl,
 i9:=by kernel_rfl,
 i20:=by kernel_rfl,
 i37:=by kernel_rfl,
 i46:=by kernel_rfl,
 i51:=by kernel_rfl,
 i53:=by kernel_rfl,
 i171:=by kernel_rfl,
 i173:=by kernel_rfl,
 i212:=by kernel_rfl,
 i232:=by kernel_rfl,
 i233:=by kernel_rfl,
 m17:=by kernel_rfl,
 m18:=by kernel_rfl,
 m19:=by kernel_rfl}
end Go.Proofs
namespace Go.Proofs.Trees
open Go Go.VL
noncomputable section
def PJ:List (Nat×TI):=[
 (0,⟨false,[],false,0,.tuple [],false⟩),
 (2,⟨true,[.int .i64],false,8,.num .i64,false⟩),
 (3,⟨true,[.int .i64],false,8,.num .i64,false⟩),
 (4,⟨true,[.bool],false,1,.bl,false⟩),
 (5,⟨true,[.int .u8],false,1,.num .u8,false⟩),
 (9,⟨true,[.str],false,16,.str,false⟩),
 (20,⟨true,[.kz],false,16,.other,false⟩),
 (21,⟨true,[.int .i32],false,4,.num .i32,false⟩),
 (22,⟨true,[.sl],false,24,.slice 5,false⟩),
 (23,⟨true,[.sl],false,24,.slice 3,false⟩),
 (24,⟨false,[],false,0,.tuple [9,9,23],false⟩),
 (26,⟨true,[.sl],false,24,.slice 9,false⟩),
 (28,⟨true,[.str,.sl,.str],true,56,.struct [(0,9),(1,26),(2,9)],false⟩),
 (29,⟨false,[],false,0,.tuple [28,4],false⟩),
 (32,⟨false,[],false,0,.tuple [23,4],false⟩),
 (34,⟨false,[],false,0,.tuple [9,4],false⟩),
 (38,⟨false,[],false,0,.tuple [9,9],false⟩),
 (40,⟨false,[],false,0,.tuple [26,4],false⟩),
 (43,⟨true,[.sl],false,24,.slice 23,false⟩),
 (44,⟨false,[],false,0,.tuple [43,4],false⟩),
 (47,⟨false,[],false,0,.tuple [9,9,9],false⟩),
 (50,⟨true,[.sl,.str,.str],true,56,.struct [(0,23),(1,9),(2,9)],false⟩),
 (51,⟨false,[],false,0,.tuple [50,4],false⟩),
 (55,⟨true,[.ptr],false,8,.pt,true⟩),
 (59,⟨true,[.ptr],false,8,.pt,true⟩),
 (65,⟨true,[.ptr],false,8,.pt,true⟩),
 (66,⟨true,[.sl],false,24,.slice 67,false⟩),
 (67,⟨true,[.ptr],false,8,.pt,true⟩),
 (69,⟨true,[.str,.ptr,.sl,.ptr],true,56,.struct [(0,9),(1,65),(2,66),(3,67)],false⟩),
 (74,⟨true,[.sl],false,24,.slice 78,false⟩),
 (75,⟨false,[],false,0,.tuple [74,4],false⟩),
 (78,⟨true,[.ptr,.sl],true,32,.struct [(0,67),(1,23)],false⟩),
 (79,⟨true,[.sl],false,24,.slice 50,false⟩),
 (80,⟨false,[],false,0,.tuple [79,4],false⟩),
 (83,⟨false,[],false,0,.tuple [65,67],false⟩),
 (86,⟨true,[.sl],false,24,.slice 88,false⟩),
 (88,⟨true,[.str,.sl],true,40,.struct [(0,9),(1,86)],false⟩),
 (89,⟨false,[],false,0,.tuple [88,4],false⟩),
 (95,⟨true,[.sl,.int .i64],true,32,.struct [(0,22),(1,3)],false⟩),
 (100,⟨true,[.sl],false,24,.slice 103,false⟩),
 (103,⟨true,[.ptr,.ptr],true,16,.struct [(0,67),(1,67)],false⟩),
 (107,⟨true,[.sl],false,24,.slice 113,false⟩),
 (108,⟨false,[],false,0,.tuple [107,4],false⟩),
 (113,⟨true,[.str,.str],true,32,.struct [(0,9),(1,9)],false⟩),
 (116,⟨true,[.kz],false,8,.other,false⟩),
 (118,⟨true,[.int .u8,.str,.ptr,.ptr],true,40,.struct [(0,5),(1,9),(2,67),(3,67)],false⟩),
 (119,⟨true,[.kz],false,8,.other,false⟩),
 (124,⟨true,[.sl],false,24,.slice 201,false⟩),
 (127,⟨true,[.sl],false,24,.slice 130,false⟩),
 (130,⟨true,[.str,.sl,.str,.sl],true,80,.struct [(0,88),(2,88)],false⟩),
 (137,⟨true,[.int .u8,.str,.int .i64,.ptr,.ptr],true,48,.struct [(0,5),(1,9),(2,3),(3,65),(4,65)],false⟩),
 (138,⟨false,[],false,0,.tuple [65,4],false⟩),
 (143,⟨true,[.ptr],false,8,.pt,true⟩),
 (145,⟨true,[.ptr,.ptr],true,16,.struct [(0,65),(1,143)],false⟩),
 (146,⟨true,[.ptr],false,8,.pt,true⟩),
 (147,⟨false,[],false,0,.tuple [145,146],false⟩),
 (151,⟨true,[.str,.ptr],true,24,.struct [(0,9),(1,146)],false⟩),
 (156,⟨true,[.kz],false,8,.other,false⟩),
 (157,⟨false,[],false,0,.tuple [88,124],false⟩),
 (160,⟨false,[],false,0,.tuple [88,3],false⟩),
 (168,⟨true,[.ptr],false,8,.pt,true⟩),
 (170,⟨true,[.sl,.int .i64],true,32,.struct [(0,26),(1,3)],false⟩),
 (171,⟨true,[.ptr],false,8,.pt,true⟩),
 (174,⟨true,[.ptr],false,8,.pt,true⟩),
 (176,⟨true,[.int .i64,.bool],true,16,.struct [(0,3),(1,4)],false⟩),
 (185,⟨true,[.kz],false,16,.other,false⟩),
 (186,⟨false,[],false,0,.tuple [3,185],false⟩),
 (189,⟨true,[.ptr,.ptr],true,16,.struct [(0,145)],false⟩),
 (193,⟨true,[.ptr,.ptr],true,16,.struct [(0,146),(1,143)],false⟩),
 (195,⟨true,[.kz],false,8,.other,false⟩),
 (196,⟨true,[.kz],false,8,.other,false⟩),
 (201,⟨true,[.str,.str,.sl,.sl],true,80,.struct [(0,9),(1,88),(3,124)],false⟩),
 (205,⟨false,[],false,0,.tuple [171,9],false⟩),
 (207,⟨true,[.sl],false,24,.slice 171,false⟩),
 (209,⟨true,[.str,.sl],true,40,.struct [(0,9),(1,207)],false⟩),
 (213,⟨true,[.kz],false,8,.other,false⟩),
 (221,⟨true,[.kz],false,8,.other,false⟩),
 (226,⟨false,[],false,0,.tuple [2,185],false⟩),
 (228,⟨true,[.ptr],false,8,.pt,true⟩),
 (237,⟨false,[],false,0,.tuple [236,4],false⟩),
 (240,⟨true,[.ptr],false,8,.pt,true⟩),
 (241,⟨true,[.int .u64],false,8,.num .u64,false⟩),
 (242,⟨false,[],false,0,.tuple [241,185],false⟩),
 (244,⟨true,[.int .u64],false,8,.num .u64,false⟩),
 (247,⟨true,[.str,.str,.kz],true,48,.struct [(0,9),(1,9),(2,185)],false⟩),
 (250,⟨true,[.int .u8,.int .u8,.int .u8,.int .u8,.int .u8,.int .u8,.int .u8,.int .u8,.int .u8,.int .u8,.int .u8,.int .u8,.int .u8,.int .u8,.int .u8,.int .u8,.int .u8,.int .u8,.int .u8,.int .u8,.int .u8,.int .u8,.int .u8,.int .u8],true,24,.array 24 5,false⟩),
 (253,⟨false,[],false,0,.tuple [22,9],false⟩),
 (255,⟨false,[],false,0,.tuple [21,3],false⟩),
 (259,⟨true,[.ptr],false,8,.pt,true⟩),
 (260,⟨true,[.ptr],false,8,.pt,true⟩),
 (262,⟨true,[.str],true,16,.struct [(0,9)],false⟩),
 (264,⟨true,[.int .u64,.int .u64,.int .u64,.int .u64,.int .u64,.int .u64,.int .u64,.int .u64,.int .u64,.int .u64,.int .u64,.int .u64,.int .u64,.int .u64,.int .u64,.int .u64,.int .u64,.int .u64,.int .u64,.int .u64],true,160,.array 20 241,false⟩),
 (265,⟨true,[.int .u32],false,4,.num .u32,false⟩),
 (274,⟨true,[.int .u8,.int .u8],true,2,.struct [(0,5),(1,5)],false⟩),
 (275,⟨true,[.int .u8,.int .u8,.int .u8,.int .u8,.int .u8,.int .u8,.int .u8,.int .u8,.int .u8,.int .u8,.int .u8,.int .u8,.int .u8,.int .u8,.int .u8,.int .u8,.int .u8,.int .u8,.int .u8,.int .u8,.int .u8,.int .u8,.int .u8,.int .u8,.int .u8,.int .u8,.int .u8,.int .u8,.int .u8,.int .u8,.int .u8,.int .u8],true,32,.array 16 274,false⟩),
 (277,⟨false,[],false,0,.tuple [265,265],false⟩),
 (279,⟨true,[.int .u8,.int .u8,.int .u8,.int .u8,.int .u8,.int .u8,.int .u8,.int .u8,.int .u8,.int .u8,.int .u8,.int .u8,.int .u8,.int .u8,.int .u8,.int .u8,.int .u8,.int .u8,.int .u8,.int .u8,.int .u8,.int .u8,.int .u8,.int .u8,.int .u8,.int .u8,.int .u8,.int .u8,.int .u8,.int .u8,.int .u8,.int .u8],true,32,.array 32 5,false⟩)]
def N8(t:Nat):TI:=yU PJ t
abbrev eu:Func:=Tryz.f90
abbrev qI:Func:=Tryz.f124
abbrev qK:Func:=Tryz.f148
abbrev qD:Func:=Tryz.f169
abbrev nI:Func:=Tryz.f178
def Tq:List (Nat×FC):=[(166,{mu:=[(1,.one (.obj [.vec 1]))],own:=[]}),(98,{mu:=[(2,.one (.vec))],own:=[0]}),(16700165,{mu:=[(1,.fn [some (.obj [.vec 1])])],own:=[]}),(129,{mu:=[(2,.one (.obj [.vec 2]))],own:=[]}),(13100129,{mu:=[(1,.fn [some (.obj [.lk .ptr])]),(2,.one (.obj [.vec 2]))],own:=[]}),(13200129,{mu:=[(1,.fn [some (.obj [.lk .ptr])]),(2,.one (.obj [.vec 2]))],own:=[]}),(13400129,{mu:=[(1,.fn [some (.obj [.lk .ptr])]),(2,.one (.obj [.vec 2]))],own:=[]}),(13600129,{mu:=[(1,.fn [some (.obj [.lk .ptr,.lk .ptr])]),(2,.one (.obj [.vec 2]))],own:=[]}),(130,{mu:=[(1,.one (.obj [.lk .ptr]))],own:=[]}),(131,{mu:=[(1,.one (.obj [.lk .ptr]))],own:=[]}),(133,{mu:=[(1,.one (.obj [.lk .ptr]))],own:=[]}),(135,{mu:=[(1,.one (.obj [.lk .ptr,.lk .ptr]))],own:=[]}),(65,{mu:=[(1,.one (.obj [.vec 2])),(2,.one (.obj [.lk .ptr])),(3,.qF 65 [some 0,some 2,none])],own:=[]}),(151,{mu:=[(2,.qF 151 [none,some 0,some 1]),(3,.one (.obj [.lk .sl])),(4,.one (.obj [.lk (.int .i64)]))],own:=[]}),(66,{mu:=[(3,.one (.vec))],own:=[0]}),(105,{mu:=[(2,.one (.vec))],own:=[0]}),(29,{mu:=[(0,.one (.obj [.lk .sl,.lk (.int .i64)]))],own:=[]}),(112,{mu:=[(3,.one (.obj [.vec 1,.lk (.int .i64)]))],own:=[]}),(80,{mu:=[(0,.one (.obj [.lk .sl,.lk (.int .i64)]))],own:=[]}),(27,{mu:=[],own:=[0],ow:=[.sl,.int .i64]}),(15,{mu:=[],own:=[0]}),(23,{mu:=[],own:=[0],oa:=[.vec 1,.lk .str,.lk .str]}),(44,{mu:=[],own:=[0],oa:=[.vec 1,.lk .str,.lk .str]}),(116,{mu:=[(0,.one (.obj [.lk (.int .i64),.lk .bool]))],own:=[]}),(117,{mu:=[(0,.one (.obj [.lk (.int .i64),.lk .bool]))],own:=[]}),(118,{mu:=[(0,.one (.obj [.lk (.int .i64),.lk .bool]))],own:=[]}),(107,{mu:=[(0,.one (.obj [.lk .sl,.lk (.int .i64)]))],own:=[]}),(50,{mu:=[(0,.one (.obj [.lk .sl,.lk (.int .i64)]))],own:=[]}),(106,{mu:=[(0,.one (.obj [.lk .sl,.lk (.int .i64)]))],own:=[]}),(82,{mu:=[(0,.one (.obj [.lk .sl,.lk (.int .i64)]))],own:=[]}),(52,{mu:=[(0,.one (.obj [.lk .sl,.lk (.int .i64)]))],own:=[]}),(81,{mu:=[(0,.one (.obj [.lk .sl,.lk (.int .i64)]))],own:=[]}),(51,{mu:=[(0,.one (.obj [.lk .sl,.lk (.int .i64)]))],own:=[]}),(28,{mu:=[(0,.one (.obj [.lk .sl,.lk (.int .i64)]))],own:=[]}),(42,{mu:=[(0,.one (.obj [.lk .sl,.lk (.int .i64)]))],own:=[]}),(49,{mu:=[],own:=[0],oa:=[.lk .str,.vec 1,.lk .str]}),(8,{mu:=[],own:=[0],oa:=[.lk .str,.vec 1,.lk .str]}),(32,{mu:=[],own:=[0],oa:=[.lk .str,.vec 1,.lk .str]}),(11,{mu:=[],own:=[0]}),(64,{mu:=[(1,.one (.obj [.lk .str]))],own:=[]}),(6500063,{mu:=[(1,.fn [some (.obj [.lk .str])])],own:=[]}),(38,{mu:=[(0,.one (.cM false [.vec 1]))],own:=[]})]
def cL(f:Nat):FC:=CC Tq f
theorem D8:(PJ.all fun p=>!p.2.kn||p.2.nO Tryz.prog p.1)=true:=by kernel_rfl
theorem vi:dq Tryz.prog N8:=wg D8
theorem mixed:Tryz.prog.follows .mixedOrders=true:=by kernel_rfl
abbrev NZ(r:AV)(k:Tree):Tree:=.aj (LK.has .ptr r/\r.isNil=false) k
abbrev NP(r:AV)(k:Tree):Tree:=.aj (LK.has .ptr r) k
abbrev NS(r:AV)(k:Tree):Tree:=.aj (LK.has .str r) k
abbrev NB(r:AV)(k:Tree):Tree:=.aj (LK.has .bool r) k
abbrev NL(r:AV)(k:Tree):Tree:=.aj (LK.has .sl r) k
abbrev NI(r:AV)(k:Tree):Tree:=.aj (LK.has (.int .i64) r) k
abbrev dR(l:List AV)(k:Tree):Tree:=.aj (LK.has .ptr (l.headD .any)/\1<=l.length) k
abbrev kK(l:List AV)(k:Tree):Tree:=.aj (LK.has .str (l.headD .any)/\1<=l.length) k
abbrev mE(l:List AV)(k:Tree):Tree:=.aj (LK.has .sl (l.headD .any)/\1<=l.length) k
abbrev NT(r:AV)(k:Tree):Tree:=.aj (r=.cA [r.comp 0,r.comp 1]) k
abbrev NA(r:AV)(k:Tree):Tree:=.aj (r=.agg r.cs/\r.cs.length=2/\bz [.str,.sl] r.cs 0) k
abbrev NE(l:List AV)(k:Tree):Tree:=.aj (bz [.str,.sl] l 0/\2<=l.length) k
abbrev NG(r:AV)(i:Int)(z:Nat)(k:Tree):Tree:=.aj (LK.has .sl r/\0<=i/\i<r.aJ.length/\(r.aJ.getD i.toNat []).length=z) k
abbrev RL:Type:=Nat->List AV->List Ob->Prop
abbrev VS(x:ByteArray):AV:=.v (.string x)
abbrev VI(x:Int):AV:=.v (.int .i64 x)
abbrev VB(x:Bool):AV:=.v (.bool x)
abbrev _root_.List.hA(l:List AV):AV:=l.headD .any
abbrev _root_.List.hO(l:List Ob):Ob:=l.headD .dead
abbrev _root_.Go.VL.AV.ix(a:AV)(i:Int):List AV:=a.aJ.getD i.toNat []
abbrev di(n:Nat)(t:Tree)(R:AV->List Ob->Prop):Prop:=eN Tryz.prog n t fun _ xs obs=>R (xs.headD .any) obs
abbrev jx(n:Nat)(t:Tree)(S:List AV->List Ob->RL->Prop)(R:RL):Prop:=eN Tryz.prog n t (Dl (fun ys o=>S ys o R) R)
theorem gQ{n:Nat}{c:Code}{li:LI}{xs:List AV}{obs:List Ob}{R:RL}{t:Tree}(lis:List (Nat×LI))(h:eN Tryz.prog n t (Dl (fun ys o=>cy Tryz.prog n c li ys o R) R))(e:round N8 cL n lis c li xs obs=t:=by kernel_rfl):cy Tryz.prog n c li xs obs R:=cy.Qa (cL:=cL) (lis:=lis) vi mixed e h
theorem RB(n:Nat)(t:Tree)(R:AV->List Ob->Prop):di n t R=eN Tryz.prog n t fun _ xs obs=>R (xs.headD .any) obs:=rfl
theorem Ql(n:Nat)(t:Tree)(S:List AV->List Ob->RL->Prop)(R:RL):jx n t S R=eN Tryz.prog n t (Dl (fun ys o=>S ys o R) R):=rfl
theorem Ub(x:ByteArray):VS x=.v (.string x):=rfl
theorem Uu(x:Int):VI x=.v (.int .i64 x):=rfl
theorem T9(x:Bool):VB x=.v (.bool x):=rfl
theorem Ut(l:List AV):l.hA=l.headD .any:=rfl
theorem Ug(l:List Ob):l.hO=l.headD .dead:=rfl
theorem Uj(a:AV)(i:Int):a.ix i=a.aJ.getD i.toNat []:=rfl
theorem oQ{f:Nat}{asq:List AV}{ins:List Ob}{R:AV->List Ob->Prop}{t:Tree}(lis:List (Nat×LI))(F:Func)(h:eN Tryz.prog F.ntmps t fun _ xs obs=>R (xs.headD .any) obs)(hf:Tryz.prog.funcs[f]?=some F:=by kernel_rfl)(hnm:(F.name=="runtime.NumGoroutine")=false:=by kernel_rfl)(e:main N8 cL lis {} F asq ins=t:=by kernel_rfl):ap Tryz.prog f asq ins R:=ap.Qa (cL:=cL) (lis:=lis) (fc:={}) vi mixed hf hnm e h
theorem oF{f:Nat}{asq:List AV}{ins:List Ob}{R:AV->List Ob->Prop}{t:Tree}(lis:List (Nat×LI))(fc:FC)(F:Func)(h:eN Tryz.prog F.ntmps t fun _ xs obs=>R (xs.headD .any) obs)(hf:Tryz.prog.funcs[f]?=some F:=by kernel_rfl)(hnm:(F.name=="runtime.NumGoroutine")=false:=by kernel_rfl)(e:main N8 cL lis fc F asq ins=t:=by kernel_rfl):ap Tryz.prog f asq ins R:=ap.Qa (cL:=cL) (lis:=lis) (fc:=fc) vi mixed hf hnm e h
theorem uQ{P:Program}{f:Nat}{asq bs:List AV}{R:AV->List Ob->Prop}(h:xV asq bs)(hf:ap P f bs [] R):ap P f asq [] R:=ap.nE cz (ap.up h hf)
theorem Ua(r:AV)(k:Tree):NZ r k=.aj (LK.has .ptr r/\r.isNil=false) k:=rfl
theorem Uk(r:AV)(k:Tree):NP r k=.aj (LK.has .ptr r) k:=rfl
theorem Ue(r:AV)(k:Tree):NS r k=.aj (LK.has .str r) k:=rfl
theorem Ul(r:AV)(k:Tree):NB r k=.aj (LK.has .bool r) k:=rfl
theorem T7(r:AV)(k:Tree):NL r k=.aj (LK.has .sl r) k:=rfl
theorem Ur(r:AV)(k:Tree):NI r k=.aj (LK.has (.int .i64) r) k:=rfl
theorem QP(l:List AV)(k:Tree):dR l k=.aj (LK.has .ptr (l.headD .any)/\1<=l.length) k:=rfl
theorem SO(l:List AV)(k:Tree):kK l k=.aj (LK.has .str (l.headD .any)/\1<=l.length) k:=rfl
theorem QW(l:List AV)(k:Tree):mE l k=.aj (LK.has .sl (l.headD .any)/\1<=l.length) k:=rfl
theorem Uv(r:AV)(k:Tree):NT r k=.aj (r=.cA [r.comp 0,r.comp 1]) k:=rfl
theorem Uf(r:AV)(k:Tree):NA r k=.aj (r=.agg r.cs/\r.cs.length=2/\bz [.str,.sl] r.cs 0) k:=rfl
theorem Ud(l:List AV)(k:Tree):NE l k=.aj (bz [.str,.sl] l 0/\2<=l.length) k:=rfl
theorem Uq(r:AV)(i:Int)(z:Nat)(k:Tree):NG r i z k=.aj (LK.has .sl r/\0<=i/\i<r.aJ.length/\(r.aJ.getD i.toNat []).length=z) k:=rfl
set_option linter.defProp false in
def zq:=aI @Ua (aI @Uk (aI @Ue (aI @Ul (aI @T7 (aI @Ur (aI @QP (aI @SO (aI @QW (aI @Uv (aI @Uf (aI @Ud (aI @Uq (aI @RB (aI @Ql (aI @Ub (aI @Uu (aI @T9 ((aI @Ut (aI @Ug (aI @Uj @zp)))))))))))))))))))))
variable {R:AV->List Ob->Prop} {U:RL}
def M4(a0:AV):Tree :=
 NL a0<|.test (decide ((a0.aJ.length:Int)>(1048576:Int))) (.done 0 [VB true] []) (.call 7 [a0] [] fun r1 o1=>.aj (r1=.cA [r1.comp 0,r1.comp 1,r1.comp 2])<|NS (r1.comp 0)<|NS (r1.comp 1)<|NL (r1.comp 2)<|.call 8 [VS ((r1.comp 0).ah),VS ((r1.comp 1).ah),(r1.comp 2)] [] fun r2 o2=>NT r2<|.aj ((r2.comp 0)=.agg (r2.comp 0).cs/\aM [.lk .str,.vec 1,.lk .str] ((r2.comp 0).cs) 0 0 o2)<|NB (r2.comp 1)<|.aj (∀x,x∈o2->km x)<|.call 9 [VS ((r1.comp 0).ah),VS ((r1.comp 1).ah),(r1.comp 2)] [] fun r3 o3=>NT r3<|.aj ((r3.comp 0)=.agg (r3.comp 0).cs/\(r3.comp 0).cs.length=3/\bz [.str,.sl,.str] ((r3.comp 0).cs) 0)<|NB (r3.comp 1)<|.test (!(((r2.comp 1).toBool)==((r3.comp 1).toBool))) (.test (((r2.comp 1).toBool)==((r3.comp 1).toBool)) (.call 10 [.agg [VS (((r2.comp 0).cs.getD 0 .any).ah),.sl ((o2.hO).es),VS (((r2.comp 0).cs.getD 2 .any).ah)],.agg [VS (((r3.comp 0).cs.getD 0 .any).ah),((r3.comp 0).cs.getD 1 .any),VS (((r3.comp 0).cs.getD 2 .any).ah)]] [] fun r4 o4=>NB r4<|.done 0 [VB r4.toBool] []) (.done 0 [VB false] [])) (.call 10 [.agg [VS (((r2.comp 0).cs.getD 0 .any).ah),.sl ((o2.hO).es),VS (((r2.comp 0).cs.getD 2 .any).ah)],.agg [VS (((r3.comp 0).cs.getD 0 .any).ah),((r3.comp 0).cs.getD 1 .any),VS (((r3.comp 0).cs.getD 2 .any).ah)]] [] fun r5 o5=>NB r5<|.test (!r5.toBool) (.test (((r2.comp 1).toBool)==((r3.comp 1).toBool)) (.call 10 [.agg [VS (((r2.comp 0).cs.getD 0 .any).ah),.sl ((o2.hO).es),VS (((r2.comp 0).cs.getD 2 .any).ah)],.agg [VS (((r3.comp 0).cs.getD 0 .any).ah),((r3.comp 0).cs.getD 1 .any),VS (((r3.comp 0).cs.getD 2 .any).ah)]] [] fun r6 o6=>NB r6<|.done 0 [VB r6.toBool] []) (.done 0 [VB false] [])) (.test (!((r2.comp 1).toBool)) (.test (((r2.comp 1).toBool)==((r3.comp 1).toBool)) (.call 10 [.agg [VS (((r2.comp 0).cs.getD 0 .any).ah),.sl ((o2.hO).es),VS (((r2.comp 0).cs.getD 2 .any).ah)],.agg [VS (((r3.comp 0).cs.getD 0 .any).ah),((r3.comp 0).cs.getD 1 .any),VS (((r3.comp 0).cs.getD 2 .any).ah)]] [] fun r7 o7=>NB r7<|.done 0 [VB r7.toBool] []) (.done 0 [VB false] [])) (.call 11 [.agg [VS (((r2.comp 0).cs.getD 0 .any).ah),.sl ((o2.hO).es),VS (((r2.comp 0).cs.getD 2 .any).ah)]] [] fun r8 o8=>NT r8<|.aj (r8.comp 0=.vec 0/\(o8.hO)=.vec 1 (o8.hO).es)<|NB (r8.comp 1)<|.aj (∀x,x∈o8->km x)<|.call 12 [.agg [VS (((r2.comp 0).cs.getD 0 .any).ah),.sl ((o2.hO).es),VS (((r2.comp 0).cs.getD 2 .any).ah)]] [] fun r9 o9=>NT r9<|NS (r9.comp 0)<|NB (r9.comp 1)<|.test ((r8.comp 1).toBool) (.test ((r9.comp 1).toBool) (.call 13 [.sl ((o8.hO).es),(r1.comp 2)] [] fun r10 o10=>NB r10<|.test r10.toBool (.done 0 [VB (ae ((r9.comp 0).ah)==ae ((r1.comp 1).ah))] []) (.done 0 [VB false] [])) (.done 0 [VB false] [])) (.done 0 [VB false] [])))))
theorem Rh(a0:AV)(ha0:LK.has .sl a0)(h:di 82 (M4 a0) R):ap Tryz.prog 3 [a0] [] R :=
 uQ (ag (bJ ha0) aA) (oQ [] Tryz.f3 h)
def OT(a0:AV):Tree :=
 .call 27 [a0] [] fun r1 o1=>.aj (r1=.ref 0 0/\(o1.hO)=.cells (o1.hO).cs/\(o1.hO).cs.length=2/\bz [.sl,.int .i64] ((o1.hO).cs) 0)<|.call 28 [.ref 0 0] [.cells [((o1.hO).cs.getD 0 .any),VI (((o1.hO).cs.getD 1 .any).toInt)]] fun r2 o2=>.aj ((o2.hO)=.cells (o2.hO).cs)<|.aj (aM [.lk .sl,.lk (.int .i64)] ((o2.hO).cs) 0 1 o2.tail)<|NT r2<|NS (r2.comp 0)<|NS (r2.comp 1)<|.call 20 [VS ((r2.comp 0).ah),VS ((r2.comp 1).ah)] [] fun r3 o3=>NT r3<|NL (r3.comp 0)<|NB (r3.comp 1)<|.test ((r3.comp 1).toBool) (.call 29 [.ref 0 0,VI 6] [.cells [((o2.hO).cs.getD 0 .any),VI (((o2.hO).cs.getD 1 .any).toInt)]] fun r4 o4=>.aj ((o4.hO)=.cells (o4.hO).cs)<|.aj (aM [.lk .sl,.lk (.int .i64)] ((o4.hO).cs) 0 1 o4.tail)<|NI r4<|.test (decide (r4.toInt>(0:Int))) (NL (r3.comp 0)<|.call 29 [.ref 0 0,VI (((r3.comp 0).aJ).length:Int)] [.cells [((o4.hO).cs.getD 0 .any),VI (((o4.hO).cs.getD 1 .any).toInt)]] fun r5 o5=>.aj ((o5.hO)=.cells (o5.hO).cs)<|.aj (aM [.lk .sl,.lk (.int .i64)] ((o5.hO).cs) 0 1 o5.tail)<|NI r5<|.aj (LK.has .sl (r3.comp 0)/\0<=r5.toInt/\r5.toInt<(r3.comp 0).aJ.length/\((r3.comp 0).aJ.getD r5.toInt.toNat []).length=1)<|mE ((r3.comp 0).aJ.getD r5.toInt.toNat [])<|.done 0 [.cA [VS ((r2.comp 0).ah),VS ((r2.comp 1).ah),(((r3.comp 0).aJ.getD r5.toInt.toNat []).hA)]] []) (.call 29 [.ref 0 0,VI 3] [.cells [((o4.hO).cs.getD 0 .any),VI (((o4.hO).cs.getD 1 .any).toInt)]] fun r6 o6=>.aj ((o6.hO)=.cells (o6.hO).cs)<|.aj (aM [.lk .sl,.lk (.int .i64)] ((o6.hO).cs) 0 1 o6.tail)<|NI r6<|.call 29 [.ref 0 0,VI 3] [.cells [((o6.hO).cs.getD 0 .any),VI (((o6.hO).cs.getD 1 .any).toInt)]] fun r7 o7=>.aj ((o7.hO)=.cells (o7.hO).cs)<|.aj (aM [.lk .sl,.lk (.int .i64)] ((o7.hO).cs) 0 1 o7.tail)<|NI r7<|.call 29 [.ref 0 0,VI 8] [.cells [((o7.hO).cs.getD 0 .any),VI (((o7.hO).cs.getD 1 .any).toInt)]] fun r8 o8=>.aj ((o8.hO)=.cells (o8.hO).cs)<|.aj (aM [.lk .sl,.lk (.int .i64)] ((o8.hO).cs) 0 1 o8.tail)<|NI r8<|.aj (¬(7:Int)=0)<|.done 0 [.cA [VS ((r2.comp 0).ah),VS ((r2.comp 1).ah),.sl [[VI r6.toInt],[VI (IntKind.wrap .i64 (r7.toInt-(IntKind.wrap .i64 (Int.tdiv r8.toInt 7))))]]]] [])) (.call 29 [.ref 0 0,VI 3] [.cells [((o2.hO).cs.getD 0 .any),VI (((o2.hO).cs.getD 1 .any).toInt)]] fun r9 o9=>.aj ((o9.hO)=.cells (o9.hO).cs)<|.aj (aM [.lk .sl,.lk (.int .i64)] ((o9.hO).cs) 0 1 o9.tail)<|NI r9<|.call 29 [.ref 0 0,VI 3] [.cells [((o9.hO).cs.getD 0 .any),VI (((o9.hO).cs.getD 1 .any).toInt)]] fun r10 o10=>.aj ((o10.hO)=.cells (o10.hO).cs)<|.aj (aM [.lk .sl,.lk (.int .i64)] ((o10.hO).cs) 0 1 o10.tail)<|NI r10<|.call 29 [.ref 0 0,VI 8] [.cells [((o10.hO).cs.getD 0 .any),VI (((o10.hO).cs.getD 1 .any).toInt)]] fun r11 o11=>.aj ((o11.hO)=.cells (o11.hO).cs)<|.aj (aM [.lk .sl,.lk (.int .i64)] ((o11.hO).cs) 0 1 o11.tail)<|NI r11<|.aj (¬(7:Int)=0)<|.done 0 [.cA [VS ((r2.comp 0).ah),VS ((r2.comp 1).ah),.sl [[VI r9.toInt],[VI (IntKind.wrap .i64 (r10.toInt-(IntKind.wrap .i64 (Int.tdiv r11.toInt 7))))]]]] [])
theorem QN(a0:AV)(ha0:LK.has .sl a0)(h:di 49 (OT a0) R):ap Tryz.prog 7 [a0] [] R :=
 uQ (ag (bJ ha0) aA) (oQ [] Tryz.f7 h)
def Iw:LI:={hd:={bL:=[(8,.k .ptr),(15,.k .sl),(16,.k (.int .i64)),(17,.k (.int .i64))],refs:=[(6,6)],ck:=[(6,[.lk .str,.lk .sl,.lk .str])]},xs:={bL:=[(8,.k .ptr)],refs:=[(6,6)],ck:=[(6,[.lk .str,.lk .sl,.lk .str])]},rt:={},ex:=0}
def Nw:Code:=cC (cw Tryz.f8) 3
def J2:List (Nat×LI):=[(3,Iw)]
def PO(a0:ByteArray)(a1:ByteArray)(a2:AV):Tree :=
 .call 30 [.agg [VS a0,.v (.slice none 0 0),VS a1]] [] fun r1 o1=>NP r1<|NL a2<|.loop Nw Iw [r1,a2,VI (a2.aJ.length:Int),VI 0] [.cells [VS (mk []),.v (.slice none 0 0),VS (mk [])]] (fun y3 q3=>NP (y3.hA)<|.aj ((q3.hO)=.cells (q3.hO).cs)<|.aj (ac [.lk .str,.lk .sl,.lk .str] ((q3.hO).cs) 0 q3.tail)<|.call 32 [(y3.hA)] [] fun r4 o4=>NT r4<|.aj ((r4.comp 0)=.agg (r4.comp 0).cs/\aM [.lk .str,.vec 1,.lk .str] ((r4.comp 0).cs) 0 0 o4)<|NB (r4.comp 1)<|.aj (∀x,x∈o4->km x)<|.done 0 [.cA [.agg [VS (((r4.comp 0).cs.getD 0 .any).ah),.vec 0,VS (((r4.comp 0).cs.getD 2 .any).ah)],VB ((r4.comp 1).toBool)]] [.vec 1 ((o4.hO).es)]) (fun y3 q3=>.fail)
theorem SN(a0:ByteArray)(a1:ByteArray)(a2:AV)(ha2:LK.has .sl a2)(h:di 29 (PO a0 a1 a2) R):ap Tryz.prog 8 [VS a0,VS a1,a2] [] R :=
 uQ (ag (aw _) (ag (aw _) (ag (bJ ha2) aA))) (oF J2 {mu:=[],own:=[0],oa:=[.lk .str,.vec 1,.lk .str]} Tryz.f8 h)
def GW(x8:AV)(x15:AV)(x16:Int)(x17:Int)(o6_0:ByteArray)(o6_1:AV)(o6_2:ByteArray):Tree :=
 NP x8<|NL x15<|NI (VI x16)<|NI (VI x17)<|.aj (Ob.cells [VS o6_0,o6_1,VS o6_2]=.cells [VS o6_0,o6_1,VS o6_2])<|.aj (ac [.lk .str,.lk .sl,.lk .str] [VS o6_0,o6_1,VS o6_2] 0 [])<|.test (decide (x17<x16)) (NG x15 x17 1<|.aj (LK.has (.int .i64) ((x15.ix x17).hA)/\1<=(x15.ix x17).length)<|.call 31 [x8,VI (((x15.ix x17).hA).toInt)] [] fun r1 o1=>NP r1<|.done 0 [r1,x15,VI x16,VI (IntKind.wrap .i64 (x17+1))] [.cells [VS o6_0,o6_1,VS o6_2]]) (.done 1 [x8] [.cells [VS o6_0,o6_1,VS o6_2]])
abbrev HG:=cy Tryz.prog 29 Nw Iw
theorem Ln(x8:AV)(x15:AV)(x16:Int)(x17:Int)(o6_0:ByteArray)(o6_1:AV)(o6_2:ByteArray)(h:jx 29 (GW x8 x15 x16 x17 o6_0 o6_1 o6_2) HG U):HG [x8,x15,VI x16,VI x17] [.cells [VS o6_0,o6_1,VS o6_2]] U :=
 gQ J2 h
def FH:LI:={hd:={bL:=[(2,.k .sl),(10,.k (.int .i64))],refs:=[(6,6),(8,8)],ck:=[(6,[.lk .str,.lk .sl,.lk .str]),(8,[.lk .str,.lk .sl,.lk .str])]},xs:={refs:=[(6,6),(8,8)],ck:=[(6,[.lk .str,.lk .sl,.lk .str]),(8,[.lk .str,.lk .sl,.lk .str])]},rt:={bL:=[(7,.k .bool)],refs:=[(6,6)],ck:=[(6,[.lk .str,.lk .sl,.lk .str])]},ex:=0}
def OC:Code:=cC (cw Tryz.f9) 5
def KH:List (Nat×LI):=[(5,FH)]
def OU(a0:ByteArray)(a1:ByteArray)(a2:AV):Tree :=
 .call 33 [VS a0,VS a1] [] fun r1 o1=>NT r1<|.aj ((r1.comp 0)=.agg (r1.comp 0).cs/\(r1.comp 0).cs.length=3/\bz [.str,.sl,.str] ((r1.comp 0).cs) 0)<|NB (r1.comp 1)<|.test (!((r1.comp 1).toBool)) (.done 0 [.cA [.agg [VS (mk []),.v (.slice none 0 0),VS (mk [])],VB false]] []) (NL a2<|.test (decide ((a2.aJ.length:Int)>(50:Int))) (.done 0 [.cA [.agg [VS (mk []),.v (.slice none 0 0),VS (mk [])],VB false]] []) (.loop OC FH [a2,VI 0] [.cells [VS (mk []),.v (.slice none 0 0),VS (mk [])],.cells [VS (((r1.comp 0).cs.getD 0 .any).ah),((r1.comp 0).cs.getD 1 .any),VS (((r1.comp 0).cs.getD 2 .any).ah)]] (fun y3 q3=>.aj ((q3.hO)=.cells (q3.hO).cs)<|.aj (ac [.lk .str,.lk .sl,.lk .str] ((q3.hO).cs) 0 q3.tail)<|.aj (((q3.tail.drop 0).hO)=.cells ((q3.tail.drop 0).hO).cs)<|.aj (ac [.lk .str,.lk .sl,.lk .str] (((q3.tail.drop 0).hO).cs) 0 ((q3.tail.drop 0).tail))<|.done 0 [.cA [.agg [VS (((q3.tail.hO).cs.getD 0 .any).ah),((q3.tail.hO).cs.getD 1 .any),VS (((q3.tail.hO).cs.getD 2 .any).ah)],VB true]] []) (fun y3 q3=>NB (y3.hA)<|.aj ((q3.hO)=.cells (q3.hO).cs)<|.aj (ac [.lk .str,.lk .sl,.lk .str] ((q3.hO).cs) 0 q3.tail)<|.done 0 [.cA [.agg [VS (((q3.hO).cs.getD 0 .any).ah),((q3.hO).cs.getD 1 .any),VS (((q3.hO).cs.getD 2 .any).ah)],VB ((y3.hA).toBool)]] [])))
theorem RS(a0:ByteArray)(a1:ByteArray)(a2:AV)(ha2:LK.has .sl a2)(h:di 47 (OU a0 a1 a2) R):ap Tryz.prog 9 [VS a0,VS a1,a2] [] R :=
 uQ (ag (aw _) (ag (aw _) (ag (bJ ha2) aA))) (oQ KH Tryz.f9 h)
def Gd(x2:AV)(x10:Int)(o6_0:ByteArray)(o6_1:AV)(o6_2:ByteArray)(o8_0:ByteArray)(o8_1:AV)(o8_2:ByteArray):Tree :=
 NL x2<|NI (VI x10)<|.aj (Ob.cells [VS o6_0,o6_1,VS o6_2]=.cells [VS o6_0,o6_1,VS o6_2])<|.aj (ac [.lk .str,.lk .sl,.lk .str] [VS o6_0,o6_1,VS o6_2] 0 [.cells [VS o8_0,o8_1,VS o8_2]])<|.aj (Ob.cells [VS o8_0,o8_1,VS o8_2]=.cells [VS o8_0,o8_1,VS o8_2])<|.aj (ac [.lk .str,.lk .sl,.lk .str] [VS o8_0,o8_1,VS o8_2] 0 [])<|NL x2<|.test (decide (x10<(x2.aJ.length:Int))) (NG x2 x10 1<|.aj (LK.has (.int .i64) ((x2.ix x10).hA)/\1<=(x2.ix x10).length)<|.call 34 [.agg [VS o8_0,o8_1,VS o8_2],VI (((x2.ix x10).hA).toInt)] [] fun r1 o1=>NT r1<|.aj ((r1.comp 0)=.agg (r1.comp 0).cs/\(r1.comp 0).cs.length=3/\bz [.str,.sl,.str] ((r1.comp 0).cs) 0)<|NB (r1.comp 1)<|.test (!((r1.comp 1).toBool)) (.done 2 [VB false] [.cells [VS (mk []),.v (.slice none 0 0),VS (mk [])]]) (.done 0 [x2,VI (IntKind.wrap .i64 (x10+1))] [.cells [VS o6_0,o6_1,VS o6_2],.cells [VS (((r1.comp 0).cs.getD 0 .any).ah),((r1.comp 0).cs.getD 1 .any),VS (((r1.comp 0).cs.getD 2 .any).ah)]])) (.done 1 [] [.cells [VS o6_0,o6_1,VS o6_2],.cells [VS o8_0,o8_1,VS o8_2]])
abbrev H7:=cy Tryz.prog 47 OC FH
theorem LL(x2:AV)(x10:Int)(o6_0:ByteArray)(o6_1:AV)(o6_2:ByteArray)(o8_0:ByteArray)(o8_1:AV)(o8_2:ByteArray)(h:jx 47 (Gd x2 x10 o6_0 o6_1 o6_2 o8_0 o8_1 o8_2) H7 U):H7 [x2,VI x10] [.cells [VS o6_0,o6_1,VS o6_2],.cells [VS o8_0,o8_1,VS o8_2]] U :=
 gQ KH h
def Li(a0_0:ByteArray)(a0_1:AV)(a0_2:ByteArray)(a1_0:ByteArray)(a1_1:AV)(a1_2:ByteArray):Tree :=
 .test (ae a0_0==ae a1_0) (.test (ae a0_2==ae a1_2) (.call 17 [a0_1,a1_1] [] fun r1 o1=>NB r1<|.done 0 [VB r1.toBool] []) (.done 0 [VB false] [])) (.done 0 [VB false] [])
theorem Qh(a0_0:ByteArray)(a0_1:AV)(a0_2:ByteArray)(a1_0:ByteArray)(a1_1:AV)(a1_2:ByteArray)(ha0_1:LK.has .sl a0_1)(ha1_1:LK.has .sl a1_1)(h:di 24 (Li a0_0 a0_1 a0_2 a1_0 a1_1 a1_2) R):ap Tryz.prog 10 [.agg [VS a0_0,a0_1,VS a0_2],.agg [VS a1_0,a1_1,VS a1_2]] [] R :=
 uQ (ag (ca (ag (aw _) (ag (bJ ha0_1) (ag (aw _) aA)))) (ag (ca (ag (aw _) (ag (bJ ha1_1) (ag (aw _) aA)))) aA)) (oQ [] Tryz.f10 h)
def Hg:LI:={hd:={bL:=[(4,.k .ptr)],eA:=[(5,1)]},xs:={eA:=[(5,1)]},rt:={},ex:=0}
def Pu:Code:=cC (cw Tryz.f11) 5
def MN:List (Nat×LI):=[(5,Hg)]
def JB(a0_0:ByteArray)(a0_1:AV)(a0_2:ByteArray):Tree :=
 .call 35 [.agg [VS a0_0,a0_1,VS a0_2]] [] fun r1 o1=>NP r1<|NP r1<|.test r1.isNil (.done 0 [.cA [.vec 0,VB false]] [.vec 1 []]) (.loop Pu Hg [r1] [.vec 1 []] (fun y4 q4=>.aj (((q4.drop 0).hO)=.vec 1 ((q4.drop 0).hO).es)<|.call 38 [.vec 0] [.vec 1 ((q4.hO).es)] fun r5 o5=>.aj ((o5.hO)=.kH 1 (o5.hO).es)<|.done 0 [.cA [.vec 0,VB true]] [.vec 1 ((o5.hO).es)]) (fun y4 q4=>.fail))
theorem Qe(a0_0:ByteArray)(a0_1:AV)(a0_2:ByteArray)(ha0_1:LK.has .sl a0_1)(h:di 30 (JB a0_0 a0_1 a0_2) R):ap Tryz.prog 11 [.agg [VS a0_0,a0_1,VS a0_2]] [] R :=
 uQ (ag (ca (ag (aw _) (ag (bJ ha0_1) (ag (aw _) aA)))) aA) (oF MN {mu:=[],own:=[0]} Tryz.f11 h)
def IL(x4:AV)(e5:List (List AV)):Tree :=
 NP x4<|.aj (Ob.vec 1 e5=.vec 1 e5)<|NZ x4<|NZ x4<|mE (x4.deref.drop 2)<|NL ((x4.deref.drop 2).hA)<|.test (decide (((((x4.deref.drop 2).hA).aJ).length:Int)>(0:Int))) (.call 36 [x4] [] fun r1 o1=>NP r1<|.call 37 [x4,r1] [] fun r2 o2=>NI r2<|.aj (cr 1 [[VI r2.toInt]]/\((e5.length)+([[VI r2.toInt]]:List (List AV)).length)*8<=140737488355328)<|.done 0 [r1] [.vec 1 (e5++([[VI r2.toInt]]:List (List AV)))]) (.done 1 [] [.vec 1 e5])
abbrev I6:=cy Tryz.prog 30 Pu Hg
theorem Km(x4:AV)(e5:List (List AV))(h:jx 30 (IL x4 e5) I6 U):I6 [x4] [.vec 1 e5] U :=
 gQ MN h
def H4:LI:={hd:={bL:=[(4,.k .ptr)]},xs:={bL:=[(4,.k .ptr)]},rt:={},ex:=0}
def P1:Code:=cC (cw Tryz.f12) 4
def MM:List (Nat×LI):=[(4,H4)]
def Mb(a0_0:ByteArray)(a0_1:AV)(a0_2:ByteArray):Tree :=
 .call 35 [.agg [VS a0_0,a0_1,VS a0_2]] [] fun r1 o1=>NP r1<|NP r1<|.test r1.isNil (.done 0 [.cA [VS (mk []),VB false]] []) (.loop P1 H4 [r1] [] (fun y3 q3=>NP (y3.hA)<|NZ (y3.hA)<|NZ (y3.hA)<|dR ((y3.hA).deref.drop 3)<|.call 39 [(((y3.hA).deref.drop 3).hA)] [] fun r4 o4=>NS r4<|.done 0 [.cA [VS r4.ah,VB true]] []) (fun y3 q3=>.done 0 [.cA [.any,.any]] []))
theorem Rm(a0_0:ByteArray)(a0_1:AV)(a0_2:ByteArray)(ha0_1:LK.has .sl a0_1)(h:di 22 (Mb a0_0 a0_1 a0_2) R):ap Tryz.prog 12 [.agg [VS a0_0,a0_1,VS a0_2]] [] R :=
 uQ (ag (ca (ag (aw _) (ag (bJ ha0_1) (ag (aw _) aA)))) aA) (oQ MM Tryz.f12 h)
def He(x4:AV):Tree :=
 NP x4<|NZ x4<|NZ x4<|mE (x4.deref.drop 2)<|NL ((x4.deref.drop 2).hA)<|.test (decide (((((x4.deref.drop 2).hA).aJ).length:Int)>(0:Int))) (.call 36 [x4] [] fun r1 o1=>NP r1<|.done 0 [r1] []) (.done 1 [x4] [])
abbrev GD:=cy Tryz.prog 22 P1 H4
theorem PZ(x4:AV)(h:jx 22 (He x4) GD U):GD [x4] [] U :=
 gQ MM h
def Hy:LI:={hd:={bL:=[(0,.k .sl),(1,.k .sl),(5,.k (.int .i64))]},xs:={},rt:={bL:=[(4,.k .bool)]},ex:=0}
def Po:Code:=cC (cw Tryz.f13) 4
def KI:List (Nat×LI):=[(4,Hy)]
def Lk(a0:AV)(a1:AV):Tree :=
 NL a0<|NL a1<|.test ((a0.aJ.length:Int) != (a1.aJ.length:Int)) (.done 0 [VB false] []) (.loop Po Hy [a0,a1,VI 0] [] (fun y1 q1=>.done 0 [VB true] []) (fun y1 q1=>NB (y1.hA)<|.done 0 [VB ((y1.hA).toBool)] []))
theorem TX(a0:AV)(a1:AV)(ha0:LK.has .sl a0)(ha1:LK.has .sl a1)(h:di 26 (Lk a0 a1) R):ap Tryz.prog 13 [a0,a1] [] R :=
 uQ (ag (bJ ha0) (ag (bJ ha1) aA)) (oQ KI Tryz.f13 h)
def Ih(x0:AV)(x1:AV)(x5:Int):Tree :=
 NL x0<|NL x1<|NI (VI x5)<|NL x0<|.test (decide (x5<(x0.aJ.length:Int))) (NG x0 x5 1<|.aj (LK.has (.int .i64) ((x0.ix x5).hA)/\1<=(x0.ix x5).length)<|NG x1 x5 1<|.aj (LK.has (.int .i64) ((x1.ix x5).hA)/\1<=(x1.ix x5).length)<|.test ((((x0.ix x5).hA).toInt) != (((x1.ix x5).hA).toInt)) (.done 2 [VB false] []) (.done 0 [x0,x1,VI (IntKind.wrap .i64 (x5+1))] [])) (.done 1 [] [])
abbrev HZ:=cy Tryz.prog 26 Po Hy
theorem Mr(x0:AV)(x1:AV)(x5:Int)(h:jx 26 (Ih x0 x1 x5) HZ U):HZ [x0,x1,VI x5] [] U :=
 gQ KI h
def Gy:LI:={hd:={bL:=[(0,.k .sl),(1,.k .sl),(5,.k (.int .i64))]},xs:={},rt:={bL:=[(4,.k .bool)]},ex:=0}
def Oc:Code:=cC (cw Tryz.f17) 4
def KN:List (Nat×LI):=[(4,Gy)]
def J9(a0:AV)(a1:AV):Tree :=
 NL a0<|NL a1<|.test ((a0.aJ.length:Int) != (a1.aJ.length:Int)) (.done 0 [VB false] []) (.loop Oc Gy [a0,a1,VI 0] [] (fun y1 q1=>.done 0 [VB true] []) (fun y1 q1=>NB (y1.hA)<|.done 0 [VB ((y1.hA).toBool)] []))
theorem Ru(a0:AV)(a1:AV)(ha0:LK.has .sl a0)(ha1:LK.has .sl a1)(h:di 26 (J9 a0 a1) R):ap Tryz.prog 17 [a0,a1] [] R :=
 uQ (ag (bJ ha0) (ag (bJ ha1) aA)) (oQ KN Tryz.f17 h)
def Hf(x0:AV)(x1:AV)(x5:Int):Tree :=
 NL x0<|NL x1<|NI (VI x5)<|NL x0<|.test (decide (x5<(x0.aJ.length:Int))) (NG x0 x5 1<|kK (x0.ix x5)<|NG x1 x5 1<|kK (x1.ix x5)<|.test (!(ae (((x0.ix x5).hA).ah)==ae (((x1.ix x5).hA).ah))) (.done 2 [VB false] []) (.done 0 [x0,x1,VI (IntKind.wrap .i64 (x5+1))] [])) (.done 1 [] [])
abbrev G3:=cy Tryz.prog 26 Oc Gy
theorem PS(x0:AV)(x1:AV)(x5:Int)(h:jx 26 (Hf x0 x1 x5) G3 U):G3 [x0,x1,VI x5] [] U :=
 gQ KN h
def II:LI:={hd:={bL:=[(6,.k .sl),(7,.k .bool),(9,.k (.int .i64))],eA:=[(8,1)]},xs:={bL:=[(7,.k .bool)],eA:=[(8,1)]},rt:={},ex:=0}
def LJ:Code:=cC (cw Tryz.f20) 4
def NH:List (Nat×LI):=[(4,II)]
def Jz(a0:ByteArray)(a1:ByteArray):Tree :=
 .call 41 [VS a0,VS a1] [] fun r1 o1=>NT r1<|NL (r1.comp 0)<|NB (r1.comp 1)<|.loop LJ II [(r1.comp 0),VB ((r1.comp 1).toBool),VI 0] [.vec 1 []] (fun y2 q2=>NB (y2.hA)<|.aj (((q2.drop 0).hO)=.vec 1 ((q2.drop 0).hO).es)<|.done 0 [.cA [.sl ((q2.hO).es),VB ((y2.hA).toBool)]] []) (fun y2 q2=>.done 0 [.cA [.any,.any]] [])
theorem Ta(a0:ByteArray)(a1:ByteArray)(h:di 36 (Jz a0 a1) R):ap Tryz.prog 20 [VS a0,VS a1] [] R :=
 uQ (ag (aw _) (ag (aw _) aA)) (oQ NH Tryz.f20 h)
def D5(x6:AV)(x7:Bool)(x9:Int)(e8:List (List AV)):Tree :=
 NL x6<|NB (VB x7)<|NI (VI x9)<|.aj (Ob.vec 1 e8=.vec 1 e8)<|NL x6<|.test (decide (x9<(x6.aJ.length:Int))) (.test x7 (NG x6 x9 3<|mE (x6.ix x9)<|.aj (cr 1 [[((x6.ix x9).hA)]]/\((e8.length)+([[((x6.ix x9).hA)]]:List (List AV)).length)*24<=140737488355328)<|.done 0 [x6,VB x7,VI (IntKind.wrap .i64 (x9+1))] [.vec 1 (e8++([[((x6.ix x9).hA)]]:List (List AV)))]) (.done 1 [VB x7] [.vec 1 e8])) (.done 1 [VB x7] [.vec 1 e8])
abbrev I5:=cy Tryz.prog 36 LJ II
theorem IX(x6:AV)(x7:Bool)(x9:Int)(e8:List (List AV))(h:jx 36 (D5 x6 x7 x9 e8) I5 U):I5 [x6,VB x7,VI x9] [.vec 1 e8] U :=
 gQ NH h
def M5(a0:AV):Tree :=
 NL a0<|.test (decide ((a0.aJ.length:Int)>(2000:Int))) (.aj (LK.has .sl a0/\0<=(0:Int)/\(0:Int)<=(2000:Int)/\(2000:Int)<=(a0.aJ.length:Int))<|.done 0 [.ref 0 0] [.cells [.sl ((a0.aJ.take (bM 2000)).drop (bM 0)),VI 0]]) (.done 0 [.ref 0 0] [.cells [a0,VI 0]])
theorem Sp(a0:AV)(ha0:LK.has .sl a0)(h:di 11 (M5 a0) R):ap Tryz.prog 27 [a0] [] R :=
 uQ (ag (bJ ha0) aA) (oF [] {mu:=[],own:=[0],ow:=[.sl,.int .i64]} Tryz.f27 h)
def JL(a0_0:AV)(a0_1:Int):Tree :=
 .call 50 [.ref 0 0] [.cells [a0_0,VI a0_1]] fun r1 o1=>.aj ((o1.hO)=.cells (o1.hO).cs)<|.aj (aM [.lk .sl,.lk (.int .i64)] ((o1.hO).cs) 0 1 o1.tail)<|NS r1<|.call 29 [.ref 0 0,VI 12] [.cells [((o1.hO).cs.getD 0 .any),VI (((o1.hO).cs.getD 1 .any).toInt)]] fun r2 o2=>.aj ((o2.hO)=.cells (o2.hO).cs)<|.aj (aM [.lk .sl,.lk (.int .i64)] ((o2.hO).cs) 0 1 o2.tail)<|NI r2<|.test (r2.toInt==(0:Int)) (.call 51 [.ref 0 0] [.cells [((o2.hO).cs.getD 0 .any),VI (((o2.hO).cs.getD 1 .any).toInt)]] fun r3 o3=>.aj ((o3.hO)=.cells (o3.hO).cs)<|.aj (aM [.lk .sl,.lk (.int .i64)] ((o3.hO).cs) 0 1 o3.tail)<|NT r3<|NS (r3.comp 0)<|NS (r3.comp 1)<|.done 0 [.cA [VS ((r3.comp 0).ah),VS ((r3.comp 1).ah)]] [.cells [((o3.hO).cs.getD 0 .any),VI (((o3.hO).cs.getD 1 .any).toInt)]]) (.call 52 [.ref 0 0,VS r1.ah] [.cells [((o2.hO).cs.getD 0 .any),VI (((o2.hO).cs.getD 1 .any).toInt)]] fun r4 o4=>.aj ((o4.hO)=.cells (o4.hO).cs)<|.aj (aM [.lk .sl,.lk (.int .i64)] ((o4.hO).cs) 0 1 o4.tail)<|NS r4<|.done 0 [.cA [VS r1.ah,VS r4.ah]] [.cells [((o4.hO).cs.getD 0 .any),VI (((o4.hO).cs.getD 1 .any).toInt)]])
theorem QT(a0_0:AV)(a0_1:Int)(ha0_0:LK.has .sl a0_0)(h:di 18 (JL a0_0 a0_1) R):ap Tryz.prog 28 [.ref 0 0] [.cells [a0_0,VI a0_1]] R :=
 ap.nE (bA (cd (ag (bJ ha0_0) (ag (aw _) aA))) cz) (ap.up (ag (aw _) aA) (oF [] {mu:=[(0,.one (.obj [.lk .sl,.lk (.int .i64)]))],own:=[]} Tryz.f28 h))
def Ps(a0_0:AV)(a0_1:Int)(a1:Int):Tree :=
 .test (decide (a1<(1:Int))) (.done 0 [VI 0] [.cells [a0_0,VI (IntKind.wrap .i64 (a0_1+1))]]) (NL a0_0<|.test ((a0_0.aJ.length:Int)==(0:Int)) (.done 0 [VI 0] [.cells [a0_0,VI (IntKind.wrap .i64 (a0_1+1))]]) (NL a0_0<|.test (decide ((IntKind.wrap .i64 ((IntKind.wrap .i64 (a0_1+1))-1))<(a0_0.aJ.length:Int))) (.aj (LK.has .sl a0_0/\0<=(IntKind.wrap .i64 ((IntKind.wrap .i64 (a0_1+1))-1))/\(IntKind.wrap .i64 ((IntKind.wrap .i64 (a0_1+1))-1))<a0_0.aJ.length/\(a0_0.ix (IntKind.wrap .i64 ((IntKind.wrap .i64 (a0_1+1))-1))).length=1)<|.aj (LK.has (.int .u8) ((a0_0.ix (IntKind.wrap .i64 ((IntKind.wrap .i64 (a0_1+1))-1))).hA)/\1<=(a0_0.ix (IntKind.wrap .i64 ((IntKind.wrap .i64 (a0_1+1))-1))).length)<|.aj (¬a1=0)<|.done 0 [VI (dG (IntKind.wrap .i64 (((a0_0.ix (IntKind.wrap .i64 ((IntKind.wrap .i64 (a0_1+1))-1))).hA).toInt)) a1)] [.cells [a0_0,VI (IntKind.wrap .i64 (a0_1+1))]]) (NL a0_0<|.aj (¬(a0_0.aJ.length:Int)=0)<|.aj (LK.has .sl a0_0/\0<=(dG (IntKind.wrap .i64 ((IntKind.wrap .i64 (a0_1+1))-1)) (a0_0.aJ.length:Int))/\(dG (IntKind.wrap .i64 ((IntKind.wrap .i64 (a0_1+1))-1)) (a0_0.aJ.length:Int))<a0_0.aJ.length/\(a0_0.ix (dG (IntKind.wrap .i64 ((IntKind.wrap .i64 (a0_1+1))-1)) (a0_0.aJ.length:Int))).length=1)<|.aj (LK.has (.int .u8) ((a0_0.ix (dG (IntKind.wrap .i64 ((IntKind.wrap .i64 (a0_1+1))-1)) (a0_0.aJ.length:Int))).hA)/\1<=(a0_0.ix (dG (IntKind.wrap .i64 ((IntKind.wrap .i64 (a0_1+1))-1)) (a0_0.aJ.length:Int))).length)<|NL a0_0<|.aj (¬(a0_0.aJ.length:Int)=0)<|.aj (LK.has .sl a0_0/\0<=(dG (IntKind.wrap .i64 ((IntKind.wrap .i64 ((IntKind.wrap .i64 ((IntKind.wrap .i64 (a0_1+1))-1))*7))+3)) (a0_0.aJ.length:Int))/\(dG (IntKind.wrap .i64 ((IntKind.wrap .i64 ((IntKind.wrap .i64 ((IntKind.wrap .i64 (a0_1+1))-1))*7))+3)) (a0_0.aJ.length:Int))<a0_0.aJ.length/\(a0_0.ix (dG (IntKind.wrap .i64 ((IntKind.wrap .i64 ((IntKind.wrap .i64 ((IntKind.wrap .i64 (a0_1+1))-1))*7))+3)) (a0_0.aJ.length:Int))).length=1)<|.aj (LK.has (.int .u8) ((a0_0.ix (dG (IntKind.wrap .i64 ((IntKind.wrap .i64 ((IntKind.wrap .i64 ((IntKind.wrap .i64 (a0_1+1))-1))*7))+3)) (a0_0.aJ.length:Int))).hA)/\1<=(a0_0.ix (dG (IntKind.wrap .i64 ((IntKind.wrap .i64 ((IntKind.wrap .i64 ((IntKind.wrap .i64 (a0_1+1))-1))*7))+3)) (a0_0.aJ.length:Int))).length)<|NL a0_0<|.aj (¬(a0_0.aJ.length:Int)=0)<|.aj (¬(64:Int)=0)<|.aj (¬a1=0)<|.done 0 [VI (dG (Bb .i64 (IntKind.wrap .i64 ((IntKind.wrap .i64 ((IntKind.wrap .i64 ((IntKind.wrap .i64 ((IntKind.wrap .i64 (((a0_0.ix (dG (IntKind.wrap .i64 ((IntKind.wrap .i64 (a0_1+1))-1)) (a0_0.aJ.length:Int))).hA).toInt))*131))+(IntKind.wrap .i64 ((IntKind.wrap .i64 (((a0_0.ix (dG (IntKind.wrap .i64 ((IntKind.wrap .i64 ((IntKind.wrap .i64 ((IntKind.wrap .i64 (a0_1+1))-1))*7))+3)) (a0_0.aJ.length:Int))).hA).toInt))*1117))))+(IntKind.wrap .i64 ((IntKind.wrap .i64 ((IntKind.wrap .i64 (a0_1+1))-1))*29))))+(IntKind.wrap .i64 ((IntKind.wrap .i64 (Int.tdiv (IntKind.wrap .i64 ((IntKind.wrap .i64 (a0_1+1))-1)) (a0_0.aJ.length:Int)))*53)))) (IntKind.wrap .i64 (Int.tdiv (IntKind.wrap .i64 ((IntKind.wrap .i64 ((IntKind.wrap .i64 ((IntKind.wrap .i64 ((IntKind.wrap .i64 (((a0_0.ix (dG (IntKind.wrap .i64 ((IntKind.wrap .i64 (a0_1+1))-1)) (a0_0.aJ.length:Int))).hA).toInt))*131))+(IntKind.wrap .i64 ((IntKind.wrap .i64 (((a0_0.ix (dG (IntKind.wrap .i64 ((IntKind.wrap .i64 ((IntKind.wrap .i64 ((IntKind.wrap .i64 (a0_1+1))-1))*7))+3)) (a0_0.aJ.length:Int))).hA).toInt))*1117))))+(IntKind.wrap .i64 ((IntKind.wrap .i64 ((IntKind.wrap .i64 (a0_1+1))-1))*29))))+(IntKind.wrap .i64 ((IntKind.wrap .i64 (Int.tdiv (IntKind.wrap .i64 ((IntKind.wrap .i64 (a0_1+1))-1)) (a0_0.aJ.length:Int)))*53)))) 64))) a1)] [.cells [a0_0,VI (IntKind.wrap .i64 (a0_1+1))]])))
theorem SR(a0_0:AV)(a0_1:Int)(a1:Int)(ha0_0:LK.has .sl a0_0)(h:di 99 (Ps a0_0 a0_1 a1) R):ap Tryz.prog 29 [.ref 0 0,VI a1] [.cells [a0_0,VI a0_1]] R :=
 ap.nE (bA (cd (ag (bJ ha0_0) (ag (aw _) aA))) cz) (ap.up (ag (aw _) (ag (aw _) aA)) (oF [] {mu:=[(0,.one (.obj [.lk .sl,.lk (.int .i64)]))],own:=[]} Tryz.f29 h))
def F4:LI:={hd:={bL:=[(5,.k .str),(45,.k .sl),(46,.k (.int .i64)),(47,.k (.int .i64))],refs:=[(7,43)],ck:=[(43,[.lk .str,.lk .ptr,.vec 1,.lk .ptr])]},xs:={refs:=[(7,43)],ck:=[(43,[.lk .str,.lk .ptr,.vec 1,.lk .ptr])]},rt:={bL:=[(2,.k .ptr)]},ex:=0}
def Jv:Code:=cC (cw Tryz.f30) 7
def PB:List (Nat×LI):=[(7,F4)]
def OJ(a0_0:ByteArray)(a0_1:AV)(a0_2:ByteArray):Tree :=
 .call 43 [VS a0_0,VS a0_2] [] fun r1 o1=>NT r1<|NP (r1.comp 0)<|NP (r1.comp 1)<|.call 53 [VS a0_0] [] fun r2 o2=>NT r2<|NS (r2.comp 0)<|NB (r2.comp 1)<|NP (r1.comp 1)<|.test ((r1.comp 1).isNil) (.done 0 [.v (.pointer none)] []) (.test (!((r2.comp 1).toBool)) (.done 0 [.v (.pointer none)] []) (NL a0_1<|.test (decide ((a0_1.aJ.length:Int)>(50:Int))) (.done 0 [.v (.pointer none)] []) (NL a0_1<|.loop Jv F4 [VS ((r2.comp 0).ah),a0_1,VI (a0_1.aJ.length:Int),VI 0] [.cells [VS a0_0,(r1.comp 0),.any,(r1.comp 1)],.vec 1 []] (fun y5 q5=>.aj ((q5.hO)=.cells (q5.hO).cs)<|.aj (ac [.lk .str,.lk .ptr,.vec 1,.lk .ptr] ((q5.hO).cs) 0 q5.tail)<|.done 0 [.ptr [VS (((q5.hO).cs.getD 0 .any).ah),((q5.hO).cs.getD 1 .any),.sl ((q5.tail.hO).es),((q5.hO).cs.getD 3 .any)]] []) (fun y5 q5=>NP (y5.hA)<|.done 0 [(y5.hA)] []))))
theorem RD(a0_0:ByteArray)(a0_1:AV)(a0_2:ByteArray)(ha0_1:LK.has .sl a0_1)(h:di 71 (OJ a0_0 a0_1 a0_2) R):ap Tryz.prog 30 [.agg [VS a0_0,a0_1,VS a0_2]] [] R :=
 uQ (ag (ca (ag (aw _) (ag (bJ ha0_1) (ag (aw _) aA)))) aA) (oQ PB Tryz.f30 h)
def HL(x5:ByteArray)(x45:AV)(x46:Int)(x47:Int)(o43_0:ByteArray)(o43_1:AV)(o43_2:List (List AV))(o43_3:AV):Tree :=
 NS (VS x5)<|NL x45<|NI (VI x46)<|NI (VI x47)<|.aj (Ob.cells [VS o43_0,o43_1,.any,o43_3]=.cells [VS o43_0,o43_1,.any,o43_3])<|.aj (ac [.lk .str,.lk .ptr,.vec 1,.lk .ptr] [VS o43_0,o43_1,.any,o43_3] 0 [.vec 1 o43_2])<|.test (decide (x47<x46)) (NG x45 x47 1<|kK (x45.ix x47)<|.call 54 [VS x5,VS (((x45.ix x47).hA).ah),VI 100] [] fun r1 o1=>NT r1<|NP (r1.comp 0)<|NP (r1.comp 1)<|NP (r1.comp 1)<|.test ((r1.comp 1).isNil) (.done 2 [.v (.pointer none)] []) (.aj (cr 1 [[(r1.comp 1)]]/\((o43_2.length)+([[(r1.comp 1)]]:List (List AV)).length)*8<=140737488355328)<|.done 0 [VS x5,x45,VI x46,VI (IntKind.wrap .i64 (x47+1))] [.cells [VS o43_0,o43_1,.any,o43_3],.vec 1 (o43_2++([[(r1.comp 1)]]:List (List AV)))])) (.done 1 [] [.cells [VS o43_0,o43_1,.any,o43_3],.vec 1 o43_2])
abbrev GK:=cy Tryz.prog 71 Jv F4
theorem KG(x5:ByteArray)(x45:AV)(x46:Int)(x47:Int)(o43_0:ByteArray)(o43_1:AV)(o43_2:List (List AV))(o43_3:AV)(h:jx 71 (HL x5 x45 x46 x47 o43_0 o43_1 o43_2 o43_3) GK U):GK [VS x5,x45,VI x46,VI x47] [.cells [VS o43_0,o43_1,.any,o43_3],.vec 1 o43_2] U :=
 gQ PB h
def GC(a0:AV)(a1:Int):Tree :=
 NP a0<|.test a0.isNil (.done 0 [.v (.pointer none)] []) (NZ a0<|NZ a0<|mE (a0.deref.drop 2)<|NL ((a0.deref.drop 2).hA)<|.test (((((a0.deref.drop 2).hA).aJ).length:Int)==(50:Int)) (.done 0 [.v (.pointer none)] []) (NZ a0<|NZ a0<|dR (a0.deref.drop 1)<|NZ a0<|NZ a0<|dR (a0.deref.drop 3)<|.call 55 [((a0.deref.drop 1).hA),((a0.deref.drop 3).hA)] [] fun r1 o1=>NL r1<|.test (decide (a1<(0:Int))) (.done 0 [.v (.pointer none)] []) (NL r1<|.test (decide (a1≥(r1.aJ.length:Int))) (.done 0 [.v (.pointer none)] []) (NG r1 a1 2<|dR (r1.ix a1)<|.call 56 [((r1.ix a1).hA)] [] fun r2 o2=>NI r2<|.test (decide (r2.toInt>(200:Int))) (.done 0 [.v (.pointer none)] []) (NZ a0<|NZ a0<|mE (a0.deref.drop 2)<|.aj (LK.has .sl ((a0.deref.drop 2).hA)/\cr 1 (((a0.deref.drop 2).hA).aJ)/\((([]:List (List AV)).length)+(((a0.deref.drop 2).hA).aJ).length)*8<=140737488355328)<|NG r1 a1 2<|dR (r1.ix a1)<|.aj (cr 1 [[((r1.ix a1).hA)]]/\(((([]:List (List AV))++(((a0.deref.drop 2).hA).aJ)).length)+([[((r1.ix a1).hA)]]:List (List AV)).length)*8<=140737488355328)<|NZ a0<|NZ a0<|.aj (LK.has .str (a0.deref.hA)/\1<=a0.deref.length)<|NZ a0<|NZ a0<|dR (a0.deref.drop 1)<|NG r1 a1 2<|dR ((r1.ix a1).drop 1)<|.done 0 [.ptr [VS ((a0.deref.hA).ah),((a0.deref.drop 1).hA),.sl ((([]:List (List AV))++(((a0.deref.drop 2).hA).aJ))++([[((r1.ix a1).hA)]]:List (List AV))),(((r1.ix a1).drop 1).hA)]] [])))))
theorem Pk(a0:AV)(a1:Int)(ha0:LK.has .ptr a0)(h:di 72 (GC a0 a1) R):ap Tryz.prog 31 [a0,VI a1] [] R :=
 uQ (ag (bD ha0) (ag (aw _) aA)) (oQ [] Tryz.f31 h)
def IS:LI:={hd:={bL:=[(23,.k .sl),(24,.k (.int .i64)),(25,.k (.int .i64))],refs:=[(2,2),(4,4)],ck:=[(2,[.lk .str,.lk .sl,.lk .str]),(4,[.lk .str,.vec 1,.lk .str])]},xs:={refs:=[(2,2),(4,4)],ck:=[(2,[.lk .str,.lk .sl,.lk .str]),(4,[.lk .str,.vec 1,.lk .str])]},rt:={},ex:=0}
def KM:Code:=cC (cw Tryz.f32) 5
def Oo:List (Nat×LI):=[(5,IS)]
def N2(a0:AV):Tree :=
 NP a0<|.test a0.isNil (.done 0 [.cA [.agg [VS (mk []),.vec 0,VS (mk [])],VB false]] [.vec 1 []]) (NZ a0<|NZ a0<|.aj (LK.has .str (a0.deref.hA)/\1<=a0.deref.length)<|NZ a0<|NZ a0<|dR (a0.deref.drop 3)<|.call 39 [((a0.deref.drop 3).hA)] [] fun r1 o1=>NS r1<|NZ a0<|NZ a0<|mE (a0.deref.drop 2)<|NL ((a0.deref.drop 2).hA)<|.loop KM IS [((a0.deref.drop 2).hA),VI ((((a0.deref.drop 2).hA).aJ).length:Int),VI 0] [.cells [VS (mk []),.v (.slice none 0 0),VS (mk [])],.cells [VS ((a0.deref.hA).ah),.any,VS r1.ah],.vec 1 []] (fun y4 q4=>.aj ((q4.hO)=.cells (q4.hO).cs)<|.aj (ac [.lk .str,.lk .sl,.lk .str] ((q4.hO).cs) 0 q4.tail)<|.aj (((q4.tail.drop 0).hO)=.cells ((q4.tail.drop 0).hO).cs)<|.aj (ac [.lk .str,.vec 1,.lk .str] (((q4.tail.drop 0).hO).cs) 0 ((q4.tail.drop 0).tail))<|.done 0 [.cA [.agg [VS (((q4.tail.hO).cs.getD 0 .any).ah),.vec 0,VS (((q4.tail.hO).cs.getD 2 .any).ah)],VB true]] [.vec 1 ((q4.tail.tail.hO).es)]) (fun y4 q4=>.fail))
theorem Ry(a0:AV)(ha0:LK.has .ptr a0)(h:di 38 (N2 a0) R):ap Tryz.prog 32 [a0] [] R :=
 uQ (ag (bD ha0) aA) (oF Oo {mu:=[],own:=[0],oa:=[.lk .str,.vec 1,.lk .str]} Tryz.f32 h)
def FG(x23:AV)(x24:Int)(x25:Int)(o2_0:ByteArray)(o2_1:AV)(o2_2:ByteArray)(o4_0:ByteArray)(o4_1:List (List AV))(o4_2:ByteArray):Tree :=
 NL x23<|NI (VI x24)<|NI (VI x25)<|.aj (Ob.cells [VS o2_0,o2_1,VS o2_2]=.cells [VS o2_0,o2_1,VS o2_2])<|.aj (ac [.lk .str,.lk .sl,.lk .str] [VS o2_0,o2_1,VS o2_2] 0 [.cells [VS o4_0,.any,VS o4_2],.vec 1 o4_1])<|.aj (Ob.cells [VS o4_0,.any,VS o4_2]=.cells [VS o4_0,.any,VS o4_2])<|.aj (ac [.lk .str,.vec 1,.lk .str] [VS o4_0,.any,VS o4_2] 0 [.vec 1 o4_1])<|.test (decide (x25<x24)) (NG x23 x25 1<|dR (x23.ix x25)<|.call 39 [((x23.ix x25).hA)] [] fun r1 o1=>NS r1<|.aj (cr 1 [[VS r1.ah]]/\((o4_1.length)+([[VS r1.ah]]:List (List AV)).length)*16<=140737488355328)<|.done 0 [x23,VI x24,VI (IntKind.wrap .i64 (x25+1))] [.cells [VS o2_0,o2_1,VS o2_2],.cells [VS o4_0,.any,VS o4_2],.vec 1 (o4_1++([[VS r1.ah]]:List (List AV)))]) (.done 1 [] [.cells [VS o2_0,o2_1,VS o2_2],.cells [VS o4_0,.any,VS o4_2],.vec 1 o4_1])
abbrev IR:=cy Tryz.prog 38 KM IS
theorem JG(x23:AV)(x24:Int)(x25:Int)(o2_0:ByteArray)(o2_1:AV)(o2_2:ByteArray)(o4_0:ByteArray)(o4_1:List (List AV))(o4_2:ByteArray)(h:jx 38 (FG x23 x24 x25 o2_0 o2_1 o2_2 o4_0 o4_1 o4_2) IR U):IR [x23,VI x24,VI x25] [.cells [VS o2_0,o2_1,VS o2_2],.cells [VS o4_0,.any,VS o4_2],.vec 1 o4_1] U :=
 gQ Oo h
def N5(a0:ByteArray)(a1:ByteArray):Tree :=
 .call 57 [.agg [VS a0,.sl [],VS a1]] [] fun r1 o1=>NT r1<|.aj ((r1.comp 0)=.agg (r1.comp 0).cs/\(r1.comp 0).cs.length=3/\bz [.str,.sl,.str] ((r1.comp 0).cs) 0)<|NB (r1.comp 1)<|.done 0 [.cA [.agg [VS (((r1.comp 0).cs.getD 0 .any).ah),((r1.comp 0).cs.getD 1 .any),VS (((r1.comp 0).cs.getD 2 .any).ah)],VB ((r1.comp 1).toBool)]] []
theorem R8(a0:ByteArray)(a1:ByteArray)(h:di 13 (N5 a0 a1) R):ap Tryz.prog 33 [VS a0,VS a1] [] R :=
 uQ (ag (aw _) (ag (aw _) aA)) (oQ [] Tryz.f33 h)
def Mn(a0_0:ByteArray)(a0_1:AV)(a0_2:ByteArray)(a1:Int):Tree :=
 .call 58 [.agg [VS a0_0,a0_1,VS a0_2]] [] fun r1 o1=>NB r1<|.test (!r1.toBool) (.done 0 [.cA [.agg [VS (mk []),.v (.slice none 0 0),VS (mk [])],VB false]] []) (.call 59 [VS a0_0,VS a0_2] [] fun r2 o2=>NT r2<|NL (r2.comp 0)<|NB (r2.comp 1)<|NL (r2.comp 0)<|.call 60 [VI a1,VI 0,VI (IntKind.wrap .i64 ((((r2.comp 0).aJ).length:Int)-1))] [] fun r3 o3=>NB r3<|.test (!r3.toBool) (.done 0 [.cA [.agg [VS (mk []),.v (.slice none 0 0),VS (mk [])],VB false]] []) (NG (r2.comp 0) a1 2<|kK ((r2.comp 0).ix a1)<|.call 61 [a0_1,VS ((((r2.comp 0).ix a1).hA).ah)] [] fun r4 o4=>NL r4<|NG (r2.comp 0) a1 2<|kK (((r2.comp 0).ix a1).drop 1)<|.call 57 [.agg [VS a0_0,r4,VS (((((r2.comp 0).ix a1).drop 1).hA).ah)]] [] fun r5 o5=>NT r5<|.aj ((r5.comp 0)=.agg (r5.comp 0).cs/\(r5.comp 0).cs.length=3/\bz [.str,.sl,.str] ((r5.comp 0).cs) 0)<|NB (r5.comp 1)<|.done 0 [.cA [.agg [VS (((r5.comp 0).cs.getD 0 .any).ah),((r5.comp 0).cs.getD 1 .any),VS (((r5.comp 0).cs.getD 2 .any).ah)],VB ((r5.comp 1).toBool)]] []))
theorem TQ(a0_0:ByteArray)(a0_1:AV)(a0_2:ByteArray)(a1:Int)(ha0_1:LK.has .sl a0_1)(h:di 46 (Mn a0_0 a0_1 a0_2 a1) R):ap Tryz.prog 34 [.agg [VS a0_0,a0_1,VS a0_2],VI a1] [] R :=
 uQ (ag (ca (ag (aw _) (ag (bJ ha0_1) (ag (aw _) aA)))) (ag (aw _) aA)) (oQ [] Tryz.f34 h)
def HY:LI:={hd:={bL:=[(3,.k .ptr),(4,.k .ptr)]},xs:={bL:=[(3,.k .ptr)]},rt:={bL:=[(2,.k .ptr)]},ex:=0}
def PI:Code:=cC (cw Tryz.f35) 5
def Pp:List (Nat×LI):=[(5,HY)]
def Mv(a0_0:ByteArray)(a0_1:AV)(a0_2:ByteArray):Tree :=
 .call 30 [.agg [VS a0_0,a0_1,VS a0_2]] [] fun r1 o1=>NP r1<|NP r1<|.test r1.isNil (.done 0 [.v (.pointer none)] []) (.loop PI HY [r1,r1] [] (fun y3 q3=>NP (y3.hA)<|.done 0 [(y3.hA)] []) (fun y3 q3=>NP (y3.hA)<|.done 0 [(y3.hA)] []))
theorem SD(a0_0:ByteArray)(a0_1:AV)(a0_2:ByteArray)(ha0_1:LK.has .sl a0_1)(h:di 21 (Mv a0_0 a0_1 a0_2) R):ap Tryz.prog 35 [.agg [VS a0_0,a0_1,VS a0_2]] [] R :=
 uQ (ag (ca (ag (aw _) (ag (bJ ha0_1) (ag (aw _) aA)))) aA) (oQ Pp Tryz.f35 h)
def HB(x3:AV)(x4:AV):Tree :=
 NP x3<|NP x4<|NZ x4<|NZ x4<|mE (x4.deref.drop 2)<|NL ((x4.deref.drop 2).hA)<|.test (decide (((((x4.deref.drop 2).hA).aJ).length:Int)>(0:Int))) (.call 36 [x4] [] fun r1 o1=>NP r1<|NP r1<|.test r1.isNil (.done 2 [.v (.pointer none)] []) (.done 0 [x3,r1] [])) (.done 1 [x3] [])
abbrev Gf:=cy Tryz.prog 21 PI HY
theorem Lt(x3:AV)(x4:AV)(h:jx 21 (HB x3 x4) Gf U):Gf [x3,x4] [] U :=
 gQ Pp h
def KK(a0:AV):Tree :=
 NP a0<|.test a0.isNil (.done 0 [.v (.pointer none)] []) (NZ a0<|NZ a0<|mE (a0.deref.drop 2)<|NL ((a0.deref.drop 2).hA)<|.test (((((a0.deref.drop 2).hA).aJ).length:Int)==(0:Int)) (.done 0 [.v (.pointer none)] []) (NZ a0<|NZ a0<|mE (a0.deref.drop 2)<|NL ((a0.deref.drop 2).hA)<|NZ a0<|NZ a0<|dR (a0.deref.drop 1)<|NZ a0<|NZ a0<|mE (a0.deref.drop 2)<|.aj (LK.has .sl ((a0.deref.drop 2).hA)/\0<=(IntKind.wrap .i64 (((((a0.deref.drop 2).hA).aJ).length:Int)-1))/\(IntKind.wrap .i64 (((((a0.deref.drop 2).hA).aJ).length:Int)-1))<((a0.deref.drop 2).hA).aJ.length/\(((a0.deref.drop 2).hA).ix (IntKind.wrap .i64 (((((a0.deref.drop 2).hA).aJ).length:Int)-1))).length=1)<|.aj (LK.has .ptr ((((a0.deref.drop 2).hA).ix (IntKind.wrap .i64 (((((a0.deref.drop 2).hA).aJ).length:Int)-1))).hA)/\1<=(((a0.deref.drop 2).hA).ix (IntKind.wrap .i64 (((((a0.deref.drop 2).hA).aJ).length:Int)-1))).length)<|NZ a0<|NZ a0<|dR (a0.deref.drop 3)<|.call 62 [((a0.deref.drop 1).hA),((((a0.deref.drop 2).hA).ix (IntKind.wrap .i64 (((((a0.deref.drop 2).hA).aJ).length:Int)-1))).hA),((a0.deref.drop 3).hA)] [] fun r1 o1=>NP r1<|.call 56 [r1] [] fun r2 o2=>NI r2<|.test (decide (r2.toInt>(200:Int))) (.done 0 [.v (.pointer none)] []) (NZ a0<|NZ a0<|.aj (LK.has .str (a0.deref.hA)/\1<=a0.deref.length)<|NZ a0<|NZ a0<|dR (a0.deref.drop 1)<|NZ a0<|NZ a0<|mE (a0.deref.drop 2)<|.aj (LK.has .sl ((a0.deref.drop 2).hA)/\0<=(0:Int)/\(0:Int)<=(IntKind.wrap .i64 (((((a0.deref.drop 2).hA).aJ).length:Int)-1))/\(IntKind.wrap .i64 (((((a0.deref.drop 2).hA).aJ).length:Int)-1))<=((((a0.deref.drop 2).hA).aJ).length:Int))<|.done 0 [.ptr [VS ((a0.deref.hA).ah),((a0.deref.drop 1).hA),.sl (((((a0.deref.drop 2).hA).aJ).take (bM (IntKind.wrap .i64 (((((a0.deref.drop 2).hA).aJ).length:Int)-1)))).drop (bM 0)),r1]] [])))
theorem SM(a0:AV)(ha0:LK.has .ptr a0)(h:di 57 (KK a0) R):ap Tryz.prog 36 [a0] [] R :=
 uQ (ag (bD ha0) aA) (oQ [] Tryz.f36 h)
def NM(a0:AV)(a1:AV):Tree :=
 NZ a0<|NZ a0<|mE (a0.deref.drop 2)<|NZ a0<|NZ a0<|mE (a0.deref.drop 2)<|NL ((a0.deref.drop 2).hA)<|.aj (LK.has .sl ((a0.deref.drop 2).hA)/\0<=(IntKind.wrap .i64 (((((a0.deref.drop 2).hA).aJ).length:Int)-1))/\(IntKind.wrap .i64 (((((a0.deref.drop 2).hA).aJ).length:Int)-1))<((a0.deref.drop 2).hA).aJ.length/\(((a0.deref.drop 2).hA).ix (IntKind.wrap .i64 (((((a0.deref.drop 2).hA).aJ).length:Int)-1))).length=1)<|.aj (LK.has .ptr ((((a0.deref.drop 2).hA).ix (IntKind.wrap .i64 (((((a0.deref.drop 2).hA).aJ).length:Int)-1))).hA)/\1<=(((a0.deref.drop 2).hA).ix (IntKind.wrap .i64 (((((a0.deref.drop 2).hA).aJ).length:Int)-1))).length)<|.call 39 [((((a0.deref.drop 2).hA).ix (IntKind.wrap .i64 (((((a0.deref.drop 2).hA).aJ).length:Int)-1))).hA)] [] fun r1 o1=>NS r1<|NZ a1<|NZ a1<|dR (a1.deref.drop 1)<|NZ a1<|NZ a1<|dR (a1.deref.drop 3)<|.call 55 [((a1.deref.drop 1).hA),((a1.deref.drop 3).hA)] [] fun r2 o2=>NL r2<|.call 63 [r2,.fn 64 [.ref 0 0]] [.cells [VS r1.ah]] fun r3 o3=>.aj ((o3.hO)=.cells (o3.hO).cs)<|.aj (aM [.lk .str] ((o3.hO).cs) 0 1 o3.tail)<|NI r3<|.done 0 [VI r3.toInt] []
theorem TT(a0:AV)(a1:AV)(ha0:LK.has .ptr a0)(ha1:LK.has .ptr a1)(h:di 30 (NM a0 a1) R):ap Tryz.prog 37 [a0,a1] [] R :=
 uQ (ag (bD ha0) (ag (bD ha1) aA)) (oQ [] Tryz.f37 h)
def G9:LI:={hd:={bL:=[(2,.k (.int .i64)),(3,.k (.int .i64))],kv:=[(0,0,1)]},xs:={kv:=[(0,0,1)]},rt:={kv:=[(0,0,1)]},ex:=0,fx:=[0]}
def JZ:Code:=cC (cw Tryz.f38) 1
def K3:List (Nat×LI):=[(1,G9)]
def Lr(e0:List (List AV)):Tree :=
 .loop JZ G9 [VI 0,VI (IntKind.wrap .i64 ((e0.length:Int)-1))] [.vec 1 e0] (fun y1 q1=>.aj (((((q1.drop 0).drop 0).drop 0).hO)=.vec 1 ((((q1.drop 0).drop 0).drop 0).hO).es)<|.done 0 [.any] [.kH 1 ((((q1.drop 0).drop 0).hO).es)]) (fun y1 q1=>.aj (((((q1.drop 0).drop 0).drop 0).hO)=.vec 1 ((((q1.drop 0).drop 0).drop 0).hO).es)<|.done 0 [.any] [.kH 1 ((((q1.drop 0).drop 0).hO).es)])
theorem Qi(e0:List (List AV))(h:di 28 (Lr e0) R):ap Tryz.prog 38 [.vec 0] [.vec 1 e0] R :=
 ap.nE (bA (fC _) cz) (ap.up (ag (aw _) aA) (oF K3 {mu:=[(0,.one (.cM false [.vec 1]))],own:=[]} Tryz.f38 h))
def IF(x2:Int)(x3:Int)(k0:List (List AV)):Tree :=
 NI (VI x2)<|NI (VI x3)<|.aj (Ob.vec 1 k0=.vec 1 k0)<|.test (decide (x2<x3)) (.aj (0<=x3/\x3<k0.length)<|.aj (x3.toNat<k0.length/\0<(k0.getD x3.toNat []).length/\LK.has (.int .i64) ((k0.getD x3.toNat []).getD 0 .any))<|.aj (0<=x2/\x2<k0.length)<|.aj (x2.toNat<k0.length/\0<(k0.getD x2.toNat []).length/\LK.has (.int .i64) ((k0.getD x2.toNat []).getD 0 .any))<|.aj (0<=x2/\x2<k0.length)<|.aj (x2.toNat<k0.length/\0+1<=1)<|.aj (0<=x3/\x3<(k0.set x2.toNat ((k0.getD x2.toNat []).set 0 (VI (((k0.getD x3.toNat []).getD 0 .any).toInt)))).length)<|.aj (x3.toNat<(k0.set x2.toNat ((k0.getD x2.toNat []).set 0 (VI (((k0.getD x3.toNat []).getD 0 .any).toInt)))).length/\0+1<=1)<|.done 0 [VI (IntKind.wrap .i64 (x2+1)),VI (IntKind.wrap .i64 (x3-1))] [.vec 1 ((k0.set x2.toNat ((k0.getD x2.toNat []).set 0 (VI (((k0.getD x3.toNat []).getD 0 .any).toInt)))).set x3.toNat (((k0.set x2.toNat ((k0.getD x2.toNat []).set 0 (VI (((k0.getD x3.toNat []).getD 0 .any).toInt)))).getD x3.toNat []).set 0 (VI (((k0.getD x2.toNat []).getD 0 .any).toInt))))]) (.done 1 [] [.vec 1 k0])
abbrev Gq:=cy Tryz.prog 28 JZ G9
theorem Q0(x2:Int)(x3:Int)(k0:List (List AV))(h:jx 28 (IF x2 x3 k0) Gq U):Gq [VI x2,VI x3] [.vec 1 k0] U :=
 gQ K3 h
def xS(a0:AV):Tree :=
 NZ a0<|NZ a0<|.aj (LK.has (.int .u8) (a0.deref.hA)/\1<=a0.deref.length)<|.test (((a0.deref.hA).toInt)==(117:Int)) (.done 0 [VS (mk [117])] []) (.test (((a0.deref.hA).toInt)==(101:Int)) (NZ a0<|NZ a0<|kK (a0.deref.drop 1)<|.done 0 [VS (((a0.deref.drop 1).hA).ah)] []) (.test (((a0.deref.hA).toInt)==(112:Int)) (NZ a0<|NZ a0<|dR (a0.deref.drop 2)<|.call 39 [((a0.deref.drop 2).hA)] [] fun r1 o1=>NS r1<|.aj (af (mk [40,112,32])+af r1.ah<=9223372036854775807)<|.aj (af (((mk [40,112,32]):ByteArray)++r1.ah)+af (mk [32])<=9223372036854775807)<|NZ a0<|NZ a0<|dR (a0.deref.drop 3)<|.call 39 [((a0.deref.drop 3).hA)] [] fun r2 o2=>NS r2<|.aj (af (((((mk [40,112,32]):ByteArray)++r1.ah):ByteArray)++(mk [32]))+af r2.ah<=9223372036854775807)<|.aj (af (((((((mk [40,112,32]):ByteArray)++r1.ah):ByteArray)++(mk [32])):ByteArray)++r2.ah)+af (mk [41])<=9223372036854775807)<|.done 0 [VS (((((((((mk [40,112,32]):ByteArray)++r1.ah):ByteArray)++(mk [32])):ByteArray)++r2.ah):ByteArray)++(mk [41]))] []) (NZ a0<|NZ a0<|.aj (LK.has (.int .u8) (a0.deref.hA)/\1<=a0.deref.length)<|.aj (jy [[.v (.int .u8 ((a0.deref.hA).toInt))]])<|.aj (af (mk [40])+af (⟨(bytesOf [[.v (.int .u8 ((a0.deref.hA).toInt))]]).toArray⟩)<=9223372036854775807)<|.aj (af (((mk [40]):ByteArray)++(⟨(bytesOf [[.v (.int .u8 ((a0.deref.hA).toInt))]]).toArray⟩))+af (mk [32])<=9223372036854775807)<|NZ a0<|NZ a0<|dR (a0.deref.drop 2)<|.call 39 [((a0.deref.drop 2).hA)] [] fun r3 o3=>NS r3<|.aj (af (((((mk [40]):ByteArray)++(⟨(bytesOf [[.v (.int .u8 ((a0.deref.hA).toInt))]]).toArray⟩)):ByteArray)++(mk [32]))+af r3.ah<=9223372036854775807)<|.aj (af (((((((mk [40]):ByteArray)++(⟨(bytesOf [[.v (.int .u8 ((a0.deref.hA).toInt))]]).toArray⟩)):ByteArray)++(mk [32])):ByteArray)++r3.ah)+af (mk [41])<=9223372036854775807)<|.done 0 [VS (((((((((mk [40]):ByteArray)++(⟨(bytesOf [[.v (.int .u8 ((a0.deref.hA).toInt))]]).toArray⟩)):ByteArray)++(mk [32])):ByteArray)++r3.ah):ByteArray)++(mk [41]))] [])))
theorem AI(a0:AV)(ha0:LK.has .ptr a0)(h:di 46 (xS a0) R):ap Tryz.prog 39 [a0] [] R :=
 uQ (ag (bD ha0) aA) (oQ [] Tryz.f39 h)
def KO(a0:ByteArray)(a1:ByteArray):Tree :=
 .call 45 [VS a0] [] fun r1 o1=>NT r1<|.aj ((r1.comp 0)=.agg (r1.comp 0).cs/\(r1.comp 0).cs.length=2/\bz [.str,.sl] ((r1.comp 0).cs) 0)<|NB (r1.comp 1)<|.call 47 [VS a1] [] fun r2 o2=>NT r2<|.aj ((r2.comp 0)=.agg (r2.comp 0).cs/\(r2.comp 0).cs.length=2/\bz [.str,.sl] ((r2.comp 0).cs) 0)<|NB (r2.comp 1)<|.test (!((r1.comp 1).toBool)) (.done 0 [.cA [.sl [],VB false]] []) (.call 46 [VS a0,VS a1,VI 100] [] fun r3 o3=>NB r3<|.test (!r3.toBool) (.done 0 [.cA [.sl [],VB false]] []) (.call 66 [.agg [VS (((r1.comp 0).cs.getD 0 .any).ah),((r1.comp 0).cs.getD 1 .any)],.agg [VS (((r2.comp 0).cs.getD 0 .any).ah),((r2.comp 0).cs.getD 1 .any)],.sl [],.vec 0] [.vec 3 []] fun r4 o4=>.aj (r4=.vec 1/\(o4.tail.hO)=.vec 3 (o4.tail.hO).es)<|.done 0 [.cA [.sl ((o4.tail.hO).es),VB (decide ((((o4.tail.hO).es).length:Int)<=(100:Int)))]] []))
theorem S8(a0:ByteArray)(a1:ByteArray)(h:di 39 (KO a0 a1) R):ap Tryz.prog 41 [VS a0,VS a1] [] R :=
 uQ (ag (aw _) (ag (aw _) aA)) (oQ [] Tryz.f41 h)
def Kn(a0:ByteArray)(a1:ByteArray):Tree :=
 .call 69 [VS a0] [] fun r1 o1=>NP r1<|NP r1<|.test r1.isNil (.done 0 [.cA [.v (.pointer none),.v (.pointer none)]] []) (.call 54 [VS a0,VS a1,VI 100] [] fun r2 o2=>NT r2<|NP (r2.comp 0)<|NP (r2.comp 1)<|.done 0 [.cA [(r2.comp 0),(r2.comp 1)]] [])
theorem SS(a0:ByteArray)(a1:ByteArray)(h:di 14 (Kn a0 a1) R):ap Tryz.prog 43 [VS a0,VS a1] [] R :=
 uQ (ag (aw _) (ag (aw _) aA)) (oQ [] Tryz.f43 h)
def MD(a0:ByteArray):Tree :=
 .call 70 [VS a0] [] fun r1 o1=>NT r1<|.aj ((r1.comp 0)=.agg (r1.comp 0).cs/\(r1.comp 0).cs.length=2/\bz [.str,.sl] ((r1.comp 0).cs) 0)<|NB (r1.comp 1)<|.test ((r1.comp 1).toBool) (.call 71 [.agg [VS (((r1.comp 0).cs.getD 0 .any).ah),((r1.comp 0).cs.getD 1 .any)]] [] fun r2 o2=>NS r2<|.done 0 [.cA [.agg [VS (((r1.comp 0).cs.getD 0 .any).ah),((r1.comp 0).cs.getD 1 .any)],VB (ae r2.ah==ae (mk [114,101,99]))]] []) (.done 0 [.cA [.agg [VS (((r1.comp 0).cs.getD 0 .any).ah),((r1.comp 0).cs.getD 1 .any)],VB false]] [])
theorem R3(a0:ByteArray)(h:di 18 (MD a0) R):ap Tryz.prog 45 [VS a0] [] R :=
 uQ (ag (aw _) aA) (oQ [] Tryz.f45 h)
def Of(a0:ByteArray)(a1:ByteArray)(a2:Int):Tree :=
 .call 70 [VS a0] [] fun r1 o1=>NT r1<|.aj ((r1.comp 0)=.agg (r1.comp 0).cs/\(r1.comp 0).cs.length=2/\bz [.str,.sl] ((r1.comp 0).cs) 0)<|NB (r1.comp 1)<|.call 47 [VS a1] [] fun r2 o2=>NT r2<|.aj ((r2.comp 0)=.agg (r2.comp 0).cs/\(r2.comp 0).cs.length=2/\bz [.str,.sl] ((r2.comp 0).cs) 0)<|NB (r2.comp 1)<|.test ((r1.comp 1).toBool) (.test ((r2.comp 1).toBool) (.call 60 [VI a2,VI 0,VI 100] [] fun r3 o3=>NB r3<|.test r3.toBool (.call 72 [.agg [VS (((r1.comp 0).cs.getD 0 .any).ah),((r1.comp 0).cs.getD 1 .any)],.sl [],.agg [VS (((r2.comp 0).cs.getD 0 .any).ah),((r2.comp 0).cs.getD 1 .any)],VI a2] [] fun r4 o4=>NB r4<|.done 0 [VB r4.toBool] []) (.done 0 [VB false] [])) (.done 0 [VB false] [])) (.done 0 [VB false] [])
theorem Re(a0:ByteArray)(a1:ByteArray)(a2:Int)(h:di 36 (Of a0 a1 a2) R):ap Tryz.prog 46 [VS a0,VS a1,VI a2] [] R :=
 uQ (ag (aw _) (ag (aw _) (ag (aw _) aA))) (oQ [] Tryz.f46 h)
def OQ(a0:ByteArray):Tree :=
 .call 73 [VS a0] [] fun r1 o1=>NT r1<|.aj ((r1.comp 0)=.agg (r1.comp 0).cs/\(r1.comp 0).cs.length=2/\bz [.str,.sl] ((r1.comp 0).cs) 0)<|NB (r1.comp 1)<|.test ((r1.comp 1).toBool) (.call 74 [.agg [VS (((r1.comp 0).cs.getD 0 .any).ah),((r1.comp 0).cs.getD 1 .any)]] [] fun r2 o2=>NB r2<|.test r2.toBool (.call 75 [.agg [VS (((r1.comp 0).cs.getD 0 .any).ah),((r1.comp 0).cs.getD 1 .any)]] [] fun r3 o3=>NI r3<|.done 0 [.cA [.agg [VS (((r1.comp 0).cs.getD 0 .any).ah),((r1.comp 0).cs.getD 1 .any)],VB (decide (r3.toInt<=(200:Int)))]] []) (.done 0 [.cA [.agg [VS (((r1.comp 0).cs.getD 0 .any).ah),((r1.comp 0).cs.getD 1 .any)],VB false]] [])) (.done 0 [.cA [.agg [VS (((r1.comp 0).cs.getD 0 .any).ah),((r1.comp 0).cs.getD 1 .any)],VB false]] [])
theorem SI(a0:ByteArray)(h:di 22 (OQ a0) R):ap Tryz.prog 47 [VS a0] [] R :=
 uQ (ag (aw _) aA) (oQ [] Tryz.f47 h)
def OP(a0_0:AV)(a0_1:Int):Tree :=
 .call 80 [.ref 0 0,.sl [[VS (mk [40,114,101,99,32,116,32,40,43,32,49,32,40,42,32,120,32,116,41,41,41])],[VS (mk [40,114,101,99,32,116,32,40,43,32,120,32,40,42,32,116,32,116,41,41,41])],[VS (mk [40,114,101,99,32,116,32,40,43,32,49,32,40,42,32,116,32,40,42,32,120,32,116,41,41,41,41])],[VS (mk [40,114,101,99,32,116,32,40,43,32,49,32,116,41,41])],[VS (mk [40,114,101,99,32,116,32,40,42,32,120,32,40,114,101,99,32,116,49,32,40,43,32,49,32,40,42,32,116,32,116,49,41,41,41,41,41])],[VS (mk [40,114,101,99,32,116,48,32,40,43,32,40,42,32,120,32,121,41,32,40,43,32,116,48,32,40,42,32,116,48,32,116,48,41,41,41,41])],[VS (mk [40,114,101,99,32,116,32,40,43,32,121,32,40,42,32,116,32,40,42,32,116,32,116,41,41,41,41])]]] [.cells [a0_0,VI a0_1]] fun r1 o1=>.aj ((o1.hO)=.cells (o1.hO).cs)<|.aj (aM [.lk .sl,.lk (.int .i64)] ((o1.hO).cs) 0 1 o1.tail)<|NS r1<|.done 0 [VS r1.ah] [.cells [((o1.hO).cs.getD 0 .any),VI (((o1.hO).cs.getD 1 .any).toInt)]]
theorem Sb(a0_0:AV)(a0_1:Int)(ha0_0:LK.has .sl a0_0)(h:di 6 (OP a0_0 a0_1) R):ap Tryz.prog 50 [.ref 0 0] [.cells [a0_0,VI a0_1]] R :=
 ap.nE (bA (cd (ag (bJ ha0_0) (ag (aw _) aA))) cz) (ap.up (ag (aw _) aA) (oF [] {mu:=[(0,.one (.obj [.lk .sl,.lk (.int .i64)]))],own:=[]} Tryz.f50 h))
def ND(a0_0:AV)(a0_1:Int):Tree :=
 .call 81 [.ref 0 0] [.cells [a0_0,VI a0_1]] fun r1 o1=>.aj ((o1.hO)=.cells (o1.hO).cs)<|.aj (aM [.lk .sl,.lk (.int .i64)] ((o1.hO).cs) 0 1 o1.tail)<|NS r1<|.call 52 [.ref 0 0,VS r1.ah] [.cells [((o1.hO).cs.getD 0 .any),VI (((o1.hO).cs.getD 1 .any).toInt)]] fun r2 o2=>.aj ((o2.hO)=.cells (o2.hO).cs)<|.aj (aM [.lk .sl,.lk (.int .i64)] ((o2.hO).cs) 0 1 o2.tail)<|NS r2<|.done 0 [.cA [VS r1.ah,VS r2.ah]] [.cells [((o2.hO).cs.getD 0 .any),VI (((o2.hO).cs.getD 1 .any).toInt)]]
theorem Tt(a0_0:AV)(a0_1:Int)(ha0_0:LK.has .sl a0_0)(h:di 11 (ND a0_0 a0_1) R):ap Tryz.prog 51 [.ref 0 0] [.cells [a0_0,VI a0_1]] R :=
 ap.nE (bA (cd (ag (bJ ha0_0) (ag (aw _) aA))) cz) (ap.up (ag (aw _) aA) (oF [] {mu:=[(0,.one (.obj [.lk .sl,.lk (.int .i64)]))],own:=[]} Tryz.f51 h))
def Nv(a0_0:AV)(a0_1:Int)(a1:ByteArray):Tree :=
 .call 70 [VS a1] [] fun r1 o1=>NT r1<|.aj ((r1.comp 0)=.agg (r1.comp 0).cs/\(r1.comp 0).cs.length=2/\bz [.str,.sl] ((r1.comp 0).cs) 0)<|NB (r1.comp 1)<|.test (!((r1.comp 1).toBool)) (.call 80 [.ref 0 0,.sl [[VS (mk [])],[VS (mk [117])],[VS (mk [101,48])],[VS (mk [101,48,48])],[VS (mk [101,49,48,48])],[VS (mk [40,108,32,117,41])],[VS (mk [40,112,32,117,41])],[VS (mk [40,102,32,40,108,32,117,41,41])],[VS (mk [40,120,32,117,41])],[VS (mk [40,108,32,32,117,41])]]] [.cells [a0_0,VI a0_1]] fun r2 o2=>.aj ((o2.hO)=.cells (o2.hO).cs)<|.aj (aM [.lk .sl,.lk (.int .i64)] ((o2.hO).cs) 0 1 o2.tail)<|NS r2<|.done 0 [VS r2.ah] [.cells [((o2.hO).cs.getD 0 .any),VI (((o2.hO).cs.getD 1 .any).toInt)]]) (.call 29 [.ref 0 0,VI 16] [.cells [a0_0,VI a0_1]] fun r3 o3=>.aj ((o3.hO)=.cells (o3.hO).cs)<|.aj (aM [.lk .sl,.lk (.int .i64)] ((o3.hO).cs) 0 1 o3.tail)<|NI r3<|.test (r3.toInt==(0:Int)) (.call 80 [.ref 0 0,.sl [[VS (mk [])],[VS (mk [117])],[VS (mk [101,48])],[VS (mk [101,48,48])],[VS (mk [101,49,48,48])],[VS (mk [40,108,32,117,41])],[VS (mk [40,112,32,117,41])],[VS (mk [40,102,32,40,108,32,117,41,41])],[VS (mk [40,120,32,117,41])],[VS (mk [40,108,32,32,117,41])]]] [.cells [((o3.hO).cs.getD 0 .any),VI (((o3.hO).cs.getD 1 .any).toInt)]] fun r4 o4=>.aj ((o4.hO)=.cells (o4.hO).cs)<|.aj (aM [.lk .sl,.lk (.int .i64)] ((o4.hO).cs) 0 1 o4.tail)<|NS r4<|.done 0 [VS r4.ah] [.cells [((o4.hO).cs.getD 0 .any),VI (((o4.hO).cs.getD 1 .any).toInt)]]) (.call 83 [.agg [VS (((r1.comp 0).cs.getD 0 .any).ah),((r1.comp 0).cs.getD 1 .any)],.v (.slice none 0 0)] [] fun r5 o5=>NA r5<|.call 29 [.ref 0 0,VI 5] [.cells [((o3.hO).cs.getD 0 .any),VI (((o3.hO).cs.getD 1 .any).toInt)]] fun r6 o6=>.aj ((o6.hO)=.cells (o6.hO).cs)<|.aj (aM [.lk .sl,.lk (.int .i64)] ((o6.hO).cs) 0 1 o6.tail)<|NI r6<|.call 82 [.ref 0 0,.agg [VS ((r5.cs.getD 0 .any).ah),(r5.cs.getD 1 .any)],VI (IntKind.wrap .i64 (5+r6.toInt))] [.cells [((o6.hO).cs.getD 0 .any),VI (((o6.hO).cs.getD 1 .any).toInt)]] fun r7 o7=>.aj ((o7.hO)=.cells (o7.hO).cs)<|.aj (aM [.lk .sl,.lk (.int .i64)] ((o7.hO).cs) 0 1 o7.tail)<|NA r7<|.call 76 [.agg [VS ((r7.cs.getD 0 .any).ah),(r7.cs.getD 1 .any)]] [] fun r8 o8=>NS r8<|.done 0 [VS r8.ah] [.cells [((o7.hO).cs.getD 0 .any),VI (((o7.hO).cs.getD 1 .any).toInt)]]))
theorem RV(a0_0:AV)(a0_1:Int)(a1:ByteArray)(ha0_0:LK.has .sl a0_0)(h:di 30 (Nv a0_0 a0_1 a1) R):ap Tryz.prog 52 [.ref 0 0,VS a1] [.cells [a0_0,VI a0_1]] R :=
 ap.nE (bA (cd (ag (bJ ha0_0) (ag (aw _) aA))) cz) (ap.up (ag (aw _) (ag (aw _) aA)) (oF [] {mu:=[(0,.one (.obj [.lk .sl,.lk (.int .i64)]))],own:=[]} Tryz.f52 h))
def J7(a0:ByteArray):Tree :=
 .call 84 [VS a0] [] fun r1 o1=>NP r1<|NP r1<|.test r1.isNil (.done 0 [.cA [VS (mk []),VB false]] []) (NZ r1<|NZ r1<|.aj (LK.has (.int .u8) (r1.deref.hA)/\1<=r1.deref.length)<|.test (((r1.deref.hA).toInt) != (114:Int)) (.done 0 [.cA [VS (mk []),VB false]] []) (.call 85 [r1] [] fun r2 o2=>NT r2<|NP (r2.comp 0)<|NB (r2.comp 1)<|.test (!((r2.comp 1).toBool)) (.done 0 [.cA [VS (mk []),VB false]] []) (.call 86 [(r2.comp 0)] [] fun r3 o3=>NT r3<|NS (r3.comp 0)<|NB (r3.comp 1)<|.done 0 [.cA [VS ((r3.comp 0).ah),VB ((r3.comp 1).toBool)]] [])))
theorem S3(a0:ByteArray)(h:di 29 (J7 a0) R):ap Tryz.prog 53 [VS a0] [] R :=
 uQ (ag (aw _) aA) (oQ [] Tryz.f53 h)
def Jy(a0:ByteArray)(a1:ByteArray)(a2:Int):Tree :=
 .call 87 [VS a0] [] fun r1 o1=>NP r1<|.call 88 [VS a1] [] fun r2 o2=>NP r2<|NP r1<|.test r1.isNil (.done 0 [.cA [r1,.v (.pointer none)]] []) (NP r2<|.test r2.isNil (.done 0 [.cA [r1,.v (.pointer none)]] []) (.test (decide (a2<(0:Int))) (.done 0 [.cA [r1,.v (.pointer none)]] []) (.test (decide (a2>(100:Int))) (.done 0 [.cA [r1,.v (.pointer none)]] []) (.call 89 [.agg [r1,.v (.pointer none)],r2,VI a2] [] fun r3 o3=>NB r3<|.test (!r3.toBool) (.done 0 [.cA [r1,.v (.pointer none)]] []) (.done 0 [.cA [r1,r2]] [])))))
theorem QF(a0:ByteArray)(a1:ByteArray)(a2:Int)(h:di 39 (Jy a0 a1 a2) R):ap Tryz.prog 54 [VS a0,VS a1,VI a2] [] R :=
 uQ (ag (aw _) (ag (aw _) (ag (aw _) aA))) (oQ [] Tryz.f54 h)
def N3(a0:AV)(a1:AV):Tree :=
 .call 90 [.agg [a0,.v (.pointer none)]] [] fun r1 o1=>NT r1<|.aj ((r1.comp 0)=.agg (r1.comp 0).cs/\(r1.comp 0).cs.length=2/\bz [.ptr,.ptr] ((r1.comp 0).cs) 0)<|NP (r1.comp 1)<|NZ a1<|NZ a1<|dR (a1.deref.drop 2)<|.call 91 [.agg [((r1.comp 0).cs.getD 0 .any),((r1.comp 0).cs.getD 1 .any)],((a1.deref.drop 2).hA),.agg [VS (mk []),(r1.comp 1)]] [] fun r2 o2=>NL r2<|.done 0 [r2] []
theorem Qx(a0:AV)(a1:AV)(ha0:LK.has .ptr a0)(ha1:LK.has .ptr a1)(h:di 21 (N3 a0 a1) R):ap Tryz.prog 55 [a0,a1] [] R :=
 uQ (ag (bD ha0) (ag (bD ha1) aA)) (oQ [] Tryz.f55 h)
def I9(a0:AV):Tree :=
 NZ a0<|NZ a0<|dR (a0.deref.drop 2)<|NP ((a0.deref.drop 2).hA)<|.test (!((a0.deref.drop 2).hA).isNil) (NZ a0<|NZ a0<|dR (a0.deref.drop 2)<|.call 56 [((a0.deref.drop 2).hA)] [] fun r1 o1=>NI r1<|NZ a0<|NZ a0<|dR (a0.deref.drop 3)<|NP ((a0.deref.drop 3).hA)<|.test (!((a0.deref.drop 3).hA).isNil) (NZ a0<|NZ a0<|dR (a0.deref.drop 3)<|.call 56 [((a0.deref.drop 3).hA)] [] fun r2 o2=>NI r2<|.done 0 [VI (IntKind.wrap .i64 ((IntKind.wrap .i64 (1+r1.toInt))+r2.toInt))] []) (.done 0 [VI (IntKind.wrap .i64 (1+r1.toInt))] [])) (NZ a0<|NZ a0<|dR (a0.deref.drop 3)<|NP ((a0.deref.drop 3).hA)<|.test (!((a0.deref.drop 3).hA).isNil) (NZ a0<|NZ a0<|dR (a0.deref.drop 3)<|.call 56 [((a0.deref.drop 3).hA)] [] fun r3 o3=>NI r3<|.done 0 [VI (IntKind.wrap .i64 (1+r3.toInt))] []) (.done 0 [VI 1] []))
theorem zX(a0:AV)(ha0:LK.has .ptr a0)(h:di 29 (I9 a0) R):ap Tryz.prog 56 [a0] [] R :=
 uQ (ag (bD ha0) aA) (oQ [] Tryz.f56 h)
def Kx(a0_0:ByteArray)(a0_1:AV)(a0_2:ByteArray):Tree :=
 .call 58 [.agg [VS a0_0,a0_1,VS a0_2]] [] fun r1 o1=>NB r1<|.test (!r1.toBool) (.done 0 [.cA [.agg [VS (mk []),.v (.slice none 0 0),VS (mk [])],VB false]] []) (.done 0 [.cA [.agg [VS a0_0,a0_1,VS a0_2],VB true]] [])
theorem TE(a0_0:ByteArray)(a0_1:AV)(a0_2:ByteArray)(ha0_1:LK.has .sl a0_1)(h:di 9 (Kx a0_0 a0_1 a0_2) R):ap Tryz.prog 57 [.agg [VS a0_0,a0_1,VS a0_2]] [] R :=
 uQ (ag (ca (ag (aw _) (ag (bJ ha0_1) (ag (aw _) aA)))) aA) (oQ [] Tryz.f57 h)
def O0(a0_0:ByteArray)(a0_1:AV)(a0_2:ByteArray):Tree :=
 .call 92 [.agg [VS a0_0,a0_1,VS a0_2]] [] fun r1 o1=>NB r1<|.test (!r1.toBool) (.done 0 [VB false] []) (.call 93 [.agg [VS a0_0,a0_1,VS a0_2]] [] fun r2 o2=>NT r2<|.aj ((r2.comp 0)=.agg (r2.comp 0).cs/\(r2.comp 0).cs.length=3/\bz [.str,.sl,.str] ((r2.comp 0).cs) 0)<|NB (r2.comp 1)<|.done 0 [VB ((r2.comp 1).toBool)] [])
theorem Sm(a0_0:ByteArray)(a0_1:AV)(a0_2:ByteArray)(ha0_1:LK.has .sl a0_1)(h:di 14 (O0 a0_0 a0_1 a0_2) R):ap Tryz.prog 58 [.agg [VS a0_0,a0_1,VS a0_2]] [] R :=
 uQ (ag (ca (ag (aw _) (ag (bJ ha0_1) (ag (aw _) aA)))) aA) (oQ [] Tryz.f58 h)
def LU(a0:ByteArray)(a1:ByteArray):Tree :=
 .call 45 [VS a0] [] fun r1 o1=>NT r1<|.aj ((r1.comp 0)=.agg (r1.comp 0).cs/\(r1.comp 0).cs.length=2/\bz [.str,.sl] ((r1.comp 0).cs) 0)<|NB (r1.comp 1)<|.call 47 [VS a1] [] fun r2 o2=>NT r2<|.aj ((r2.comp 0)=.agg (r2.comp 0).cs/\(r2.comp 0).cs.length=2/\bz [.str,.sl] ((r2.comp 0).cs) 0)<|NB (r2.comp 1)<|.test (!((r1.comp 1).toBool)) (.done 0 [.cA [.sl [],VB false]] []) (.call 46 [VS a0,VS a1,VI 100] [] fun r3 o3=>NB r3<|.test (!r3.toBool) (.done 0 [.cA [.sl [],VB false]] []) (NG ((r1.comp 0).cs.getD 1 .any) 2 2<|NE (((r1.comp 0).cs.getD 1 .any).ix (2:Int))<|NG ((r1.comp 0).cs.getD 1 .any) 1 2<|kK (((r1.comp 0).cs.getD 1 .any).ix (1:Int))<|NG ((r2.comp 0).cs.getD 1 .any) 1 2<|NE (((r2.comp 0).cs.getD 1 .any).ix (1:Int))<|.call 77 [.agg [VS (((((r1.comp 0).cs.getD 1 .any).ix (2:Int)).getD 0 .any).ah),((((r1.comp 0).cs.getD 1 .any).ix (2:Int)).getD 1 .any)],VS (((((r1.comp 0).cs.getD 1 .any).ix (1:Int)).hA).ah),.agg [VS (((((r2.comp 0).cs.getD 1 .any).ix (1:Int)).getD 0 .any).ah),((((r2.comp 0).cs.getD 1 .any).ix (1:Int)).getD 1 .any)]] [] fun r4 o4=>NL r4<|.call 94 [r4] [] fun r5 o5=>NL r5<|.done 0 [.cA [r5,VB true]] []))
theorem Qp(a0:ByteArray)(a1:ByteArray)(h:di 44 (LU a0 a1) R):ap Tryz.prog 59 [VS a0,VS a1] [] R :=
 uQ (ag (aw _) (ag (aw _) aA)) (oQ [] Tryz.f59 h)
def Px(a0:Int)(a1:Int)(a2:Int):Tree :=
 .test (decide (a0≥a1)) (.done 0 [VB (decide (a0<=a2))] []) (.done 0 [VB false] [])
theorem Q6(a0:Int)(a1:Int)(a2:Int)(h:di 15 (Px a0 a1 a2) R):ap Tryz.prog 60 [VI a0,VI a1,VI a2] [] R :=
 uQ (ag (aw _) (ag (aw _) (ag (aw _) aA))) (oQ [] Tryz.f60 h)
def FL(a0:AV)(a1:ByteArray):Tree :=
 .aj (LK.has .sl a0/\cr 1 a0.aJ/\((([]:List (List AV)).length)+a0.aJ.length)*16<=140737488355328)<|.aj (cr 1 [[VS a1]]/\(((([]:List (List AV))++a0.aJ).length)+([[VS a1]]:List (List AV)).length)*16<=140737488355328)<|.done 0 [.sl ((([]:List (List AV))++a0.aJ)++([[VS a1]]:List (List AV)))] []
theorem KY(a0:AV)(a1:ByteArray)(ha0:LK.has .sl a0)(h:di 11 (FL a0 a1) R):ap Tryz.prog 61 [a0,VS a1] [] R :=
 uQ (ag (bJ ha0) (ag (aw _) aA)) (oQ [] Tryz.f61 h)
def KP(a0:AV)(a1:AV)(a2:AV):Tree :=
 .call 90 [.agg [a0,.v (.pointer none)]] [] fun r1 o1=>NT r1<|.aj ((r1.comp 0)=.agg (r1.comp 0).cs/\(r1.comp 0).cs.length=2/\bz [.ptr,.ptr] ((r1.comp 0).cs) 0)<|NP (r1.comp 1)<|.call 96 [.agg [((r1.comp 0).cs.getD 0 .any),((r1.comp 0).cs.getD 1 .any)],a1,.agg [VS (mk []),(r1.comp 1)],a2] [] fun r2 o2=>NP r2<|.call 95 [.v (.int .u8 102),r2] [] fun r3 o3=>NP r3<|.done 0 [r3] []
theorem Qs(a0:AV)(a1:AV)(a2:AV)(ha0:LK.has .ptr a0)(ha1:LK.has .ptr a1)(ha2:LK.has .ptr a2)(h:di 22 (KP a0 a1 a2) R):ap Tryz.prog 62 [a0,a1,a2] [] R :=
 uQ (ag (bD ha0) (ag (bD ha1) (ag (bD ha2) aA))) (oQ [] Tryz.f62 h)
def HT:LI:={hd:={bL:=[(0,.k .sl),(7,.k (.int .i64)),(8,.k (.int .i64))],ck:=[(0,[.lk .str])],AW:=[(1,64,[0])]},xs:={ck:=[(0,[.lk .str])]},rt:={bL:=[(4,.k (.int .i64))],ck:=[(0,[.lk .str])]},ex:=0,fx:=[0]}
def Pm:Code:=cC (cw Tryz.f63) 2
def KC:List (Nat×LI):=[(2,HT)]
def KE(a0:AV)(a1_0_0:ByteArray):Tree :=
 NL a0<|.loop Pm HT [a0,VI (a0.aJ.length:Int),VI 0] [.cells [VS a1_0_0]] (fun y2 q2=>.aj ((q2.hO)=.cells (q2.hO).cs)<|.aj (ac [.lk .str] ((q2.hO).cs) 0 q2.tail)<|.done 0 [VI (-1)] [.cells [VS (((q2.hO).cs.getD 0 .any).ah)]]) (fun y2 q2=>NI (y2.hA)<|.aj ((q2.hO)=.cells (q2.hO).cs)<|.aj (ac [.lk .str] ((q2.hO).cs) 0 q2.tail)<|.done 0 [VI ((y2.hA).toInt)] [.cells [VS (((q2.hO).cs.getD 0 .any).ah)]])
theorem RE(a0:AV)(a1_0_0:ByteArray)(ha0:LK.has .sl a0)(h:di 19 (KE a0 a1_0_0) R):ap Tryz.prog 63 [a0,.fn 64 [.ref 0 0]] [.cells [VS a1_0_0]] R :=
 ap.nE (bA (cd (ag (aw _) aA)) cz) (ap.up (ag (bJ ha0) (ag (aw _) aA)) (oF KC {mu:=[(1,.fn [some (.obj [.lk .str])])],own:=[]} Tryz.f63 h))
def FU(x0:AV)(x7:Int)(x8:Int)(o0_0:ByteArray):Tree :=
 NL x0<|NI (VI x7)<|NI (VI x8)<|.aj (Ob.cells [VS o0_0]=.cells [VS o0_0])<|.aj (ac [.lk .str] [VS o0_0] 0 [])<|.test (decide (x8<x7)) (NG x0 x8 2<|.aj (bz [.ptr,.ptr] (x0.ix x8) 0/\2<=(x0.ix x8).length)<|.call 64 [.agg [((x0.ix x8).getD 0 .any),((x0.ix x8).getD 1 .any)],.ref 0 0] [.cells [VS o0_0]] fun r1 o1=>.aj ((o1.hO)=.cells (o1.hO).cs)<|.aj (aM [.lk .str] ((o1.hO).cs) 0 1 o1.tail)<|NB r1<|.test r1.toBool (.done 2 [VI x8] [.cells [VS (((o1.hO).cs.getD 0 .any).ah)]]) (.done 0 [x0,VI x7,VI (IntKind.wrap .i64 (x8+1))] [.cells [VS (((o1.hO).cs.getD 0 .any).ah)]])) (.done 1 [] [.cells [VS o0_0]])
abbrev HM:=cy Tryz.prog 19 Pm HT
theorem Pr(x0:AV)(x7:Int)(x8:Int)(o0_0:ByteArray)(h:jx 19 (FU x0 x7 x8 o0_0) HM U):HM [x0,VI x7,VI x8] [.cells [VS o0_0]] U :=
 gQ KC h
def K4(a0_0:AV)(a0_1:AV)(a1_0:ByteArray):Tree :=
 .call 39 [a0_0] [] fun r1 o1=>NS r1<|.done 0 [VB (ae r1.ah==ae a1_0)] [.cells [VS a1_0]]
theorem Q9(a0_0:AV)(a0_1:AV)(a1_0:ByteArray)(ha0_0:LK.has .ptr a0_0)(ha0_1:LK.has .ptr a0_1)(h:di 9 (K4 a0_0 a0_1 a1_0) R):ap Tryz.prog 64 [.agg [a0_0,a0_1],.ref 0 0] [.cells [VS a1_0]] R :=
 ap.nE (bA (cd (ag (aw _) aA)) cz) (ap.up (ag (ca (ag (bD ha0_0) (ag (bD ha0_1) aA))) (ag (aw _) aA)) (oF [] {mu:=[(1,.one (.obj [.lk .str]))],own:=[]} Tryz.f64 h))
def GS:LI:={hd:={bL:=[(2,.k .sl),(9,.k .sl),(10,.k (.int .i64))],refs:=[(4,4)],ck:=[(4,[.lk .str,.lk .sl])],eA:=[(3,3)]},xs:={eA:=[(3,3)]},rt:={},ex:=0}
def OF:Code:=cC (cw Tryz.f66) 4
def JO:List (Nat×LI):=[(4,GS)]
def Ok(a0_0:ByteArray)(a0_1:AV)(a1_0:ByteArray)(a1_1:AV)(a2:AV)(e3:List (List AV)):Tree :=
 .call 76 [.agg [VS a1_0,a1_1]] [] fun r1 o1=>NS r1<|.aj (cr 3 [[a2,VS r1.ah,VS (mk [])]]/\((e3.length)+([[a2,VS r1.ah,VS (mk [])]]:List (List AV)).length)*56<=140737488355328)<|NG a0_1 2 2<|NE (a0_1.ix (2:Int))<|NG a0_1 1 2<|kK (a0_1.ix (1:Int))<|NG a1_1 1 2<|NE (a1_1.ix (1:Int))<|.call 77 [.agg [VS (((a0_1.ix (2:Int)).getD 0 .any).ah),((a0_1.ix (2:Int)).getD 1 .any)],VS (((a0_1.ix (1:Int)).hA).ah),.agg [VS (((a1_1.ix (1:Int)).getD 0 .any).ah),((a1_1.ix (1:Int)).getD 1 .any)]] [] fun r2 o2=>NL r2<|.loop OF GS [a2,r2,VI 0] [.cells [VS a0_0,a0_1],.vec 3 (e3++([[a2,VS r1.ah,VS (mk [])]]:List (List AV)))] (fun y4 q4=>.aj (((q4.drop 0).hO)=.vec 3 ((q4.drop 0).hO).es)<|.done 0 [.vec 1] [.dead,.vec 3 ((q4.hO).es)]) (fun y4 q4=>.fail)
theorem QJ(a0_0:ByteArray)(a0_1:AV)(a1_0:ByteArray)(a1_1:AV)(a2:AV)(e3:List (List AV))(ha0_1:LK.has .sl a0_1)(ha1_1:LK.has .sl a1_1)(ha2:LK.has .sl a2)(h:di 58 (Ok a0_0 a0_1 a1_0 a1_1 a2 e3) R):ap Tryz.prog 66 [.agg [VS a0_0,a0_1],.agg [VS a1_0,a1_1],a2,.vec 0] [.vec 3 e3] R :=
 ap.nE (bA (fC _) cz) (ap.up (ag (ca (ag (aw _) (ag (bJ ha0_1) aA))) (ag (ca (ag (aw _) (ag (bJ ha1_1) aA))) (ag (bJ ha2) (ag (aw _) aA)))) (oF JO {mu:=[(3,.one (.vec))],own:=[0]} Tryz.f66 h))
def I3(x2:AV)(x9:AV)(x10:Int)(o4_0:ByteArray)(o4_1:AV)(e3:List (List AV)):Tree :=
 NL x2<|NL x9<|NI (VI x10)<|.aj (Ob.cells [VS o4_0,o4_1]=.cells [VS o4_0,o4_1])<|.aj (ac [.lk .str,.lk .sl] [VS o4_0,o4_1] 0 [.vec 3 e3])<|.aj (Ob.vec 3 e3=.vec 3 e3)<|NL x9<|.test (decide (x10<(x9.aJ.length:Int))) (.test (decide ((e3.length:Int)<=(100:Int))) (NG x9 x10 4<|NE ((x9.ix x10).drop 2)<|.aj (LK.has .sl x2/\cr 1 x2.aJ/\((([]:List (List AV)).length)+x2.aJ.length)*8<=140737488355328)<|.aj (cr 1 [[VI x10]]/\(((([]:List (List AV))++x2.aJ).length)+([[VI x10]]:List (List AV)).length)*8<=140737488355328)<|.call 66 [.agg [VS o4_0,o4_1],.agg [VS ((((x9.ix x10).drop 2).getD 0 .any).ah),(((x9.ix x10).drop 2).getD 1 .any)],.sl ((([]:List (List AV))++x2.aJ)++([[VI x10]]:List (List AV))),.vec 0] [.vec 3 e3] fun r1 o1=>.aj (r1=.vec 1/\(o1.tail.hO)=.vec 3 (o1.tail.hO).es)<|.done 0 [x2,x9,VI (IntKind.wrap .i64 (x10+1))] [.cells [VS o4_0,o4_1],.vec 3 ((o1.tail.hO).es)]) (.done 1 [] [.vec 3 e3])) (.done 1 [] [.vec 3 e3])
abbrev HA:=cy Tryz.prog 58 OF GS
theorem Pc(x2:AV)(x9:AV)(x10:Int)(o4_0:ByteArray)(o4_1:AV)(e3:List (List AV))(h:jx 58 (I3 x2 x9 x10 o4_0 o4_1 e3) HA U):HA [x2,x9,VI x10] [.cells [VS o4_0,o4_1],.vec 3 e3] U :=
 gQ JO h
def MA(a0:ByteArray):Tree :=
 .call 87 [VS a0] [] fun r1 o1=>NP r1<|NP r1<|.test r1.isNil (.done 0 [.v (.pointer none)] []) (NZ r1<|NZ r1<|.aj (LK.has (.int .u8) (r1.deref.hA)/\1<=r1.deref.length)<|.test (((r1.deref.hA).toInt) != (114:Int)) (.done 0 [.v (.pointer none)] []) (.done 0 [r1] []))
theorem S1(a0:ByteArray)(h:di 16 (MA a0) R):ap Tryz.prog 69 [VS a0] [] R :=
 uQ (ag (aw _) aA) (oQ [] Tryz.f69 h)
def HK:LI:={hd:={bL:=[(7,.k (.int .i64))],refs:=[(2,2),(4,4)],ck:=[(2,[.lk .str,.lk .sl]),(4,[.lk .str,.lk .sl])],eA:=[(6,1)]},xs:={refs:=[(2,2),(4,4)],ck:=[(2,[.lk .str,.lk .sl]),(4,[.lk .str,.lk .sl])]},rt:={bL:=[(3,.k .bool)],refs:=[(2,2)],ck:=[(2,[.lk .str,.lk .sl])]},ex:=0}
def PQ:Code:=cC (cw Tryz.f70) 6
def Ot:List (Nat×LI):=[(6,HK)]
def LX(a0:ByteArray):Tree :=
 .call 97 [VS a0] [] fun r1 o1=>NT r1<|.aj ((r1.comp 0)=.agg (r1.comp 0).cs/\(r1.comp 0).cs.length=2/\bz [.str,.sl] ((r1.comp 0).cs) 0)<|NB (r1.comp 1)<|.test (!((r1.comp 1).toBool)) (.done 0 [.cA [.agg [VS (((r1.comp 0).cs.getD 0 .any).ah),((r1.comp 0).cs.getD 1 .any)],VB false]] []) (.call 98 [.agg [VS (((r1.comp 0).cs.getD 0 .any).ah),((r1.comp 0).cs.getD 1 .any)],.sl [],.vec 0] [.vec 1 []] fun r2 o2=>.aj (r2=.vec 1/\(o2.tail.hO)=.vec 1 (o2.tail.hO).es)<|.loop PQ HK [VI 0] [.cells [VS (mk []),.v (.slice none 0 0)],.cells [VS (((r1.comp 0).cs.getD 0 .any).ah),((r1.comp 0).cs.getD 1 .any)],.vec 1 ((o2.tail.hO).es)] (fun y4 q4=>.aj ((q4.hO)=.cells (q4.hO).cs)<|.aj (ac [.lk .str,.lk .sl] ((q4.hO).cs) 0 q4.tail)<|.aj (((q4.tail.drop 0).hO)=.cells ((q4.tail.drop 0).hO).cs)<|.aj (ac [.lk .str,.lk .sl] (((q4.tail.drop 0).hO).cs) 0 ((q4.tail.drop 0).tail))<|.done 0 [.cA [.agg [VS (((q4.tail.hO).cs.getD 0 .any).ah),((q4.tail.hO).cs.getD 1 .any)],VB true]] []) (fun y4 q4=>NB (y4.hA)<|.aj ((q4.hO)=.cells (q4.hO).cs)<|.aj (ac [.lk .str,.lk .sl] ((q4.hO).cs) 0 q4.tail)<|.done 0 [.cA [.agg [VS (((q4.hO).cs.getD 0 .any).ah),((q4.hO).cs.getD 1 .any)],VB ((y4.hA).toBool)]] []))
theorem RI(a0:ByteArray)(h:di 33 (LX a0) R):ap Tryz.prog 70 [VS a0] [] R :=
 uQ (ag (aw _) aA) (oQ Ot Tryz.f70 h)
def Hv(x7:Int)(o2_0:ByteArray)(o2_1:AV)(o4_0:ByteArray)(o4_1:AV)(e6:List (List AV)):Tree :=
 NI (VI x7)<|.aj (Ob.cells [VS o2_0,o2_1]=.cells [VS o2_0,o2_1])<|.aj (ac [.lk .str,.lk .sl] [VS o2_0,o2_1] 0 [.cells [VS o4_0,o4_1],.vec 1 e6])<|.aj (Ob.cells [VS o4_0,o4_1]=.cells [VS o4_0,o4_1])<|.aj (ac [.lk .str,.lk .sl] [VS o4_0,o4_1] 0 [.vec 1 e6])<|.aj (Ob.vec 1 e6=.vec 1 e6)<|.test (decide (x7<(e6.length:Int))) (.aj (0<=x7/\x7<e6.length)<|.aj (x7.toNat<e6.length/\0<(e6.getD x7.toNat []).length/\LK.has .str ((e6.getD x7.toNat []).getD 0 .any))<|.call 99 [VS (((e6.getD x7.toNat []).getD 0 .any).ah)] [] fun r1 o1=>NB r1<|.test r1.toBool (.done 2 [VB false] [.cells [VS o4_0,o4_1]]) (.done 0 [VI (IntKind.wrap .i64 (x7+1))] [.cells [VS o2_0,o2_1],.cells [VS o4_0,o4_1],.vec 1 e6])) (.done 1 [] [.cells [VS o2_0,o2_1],.cells [VS o4_0,o4_1]])
abbrev G8:=cy Tryz.prog 33 PQ HK
theorem PF(x7:Int)(o2_0:ByteArray)(o2_1:AV)(o4_0:ByteArray)(o4_1:AV)(e6:List (List AV))(h:jx 33 (Hv x7 o2_0 o2_1 o4_0 o4_1 e6) G8 U):G8 [VI x7] [.cells [VS o2_0,o2_1],.cells [VS o4_0,o4_1],.vec 1 e6] U :=
 gQ Ot h
def EL(a0_0:ByteArray)(a0_1:AV):Tree :=
 .test (!(ae a0_0==ae (mk []))) (.done 0 [VS (mk [])] []) (NL a0_1<|.test ((a0_1.aJ.length:Int)==(0:Int)) (.done 0 [VS (mk [])] []) (NG a0_1 0 2<|kK (a0_1.ix (0:Int))<|.done 0 [VS (((a0_1.ix (0:Int)).hA).ah)] []))
theorem Hx(a0_0:ByteArray)(a0_1:AV)(ha0_1:LK.has .sl a0_1)(h:di 17 (EL a0_0 a0_1) R):ap Tryz.prog 71 [.agg [VS a0_0,a0_1]] [] R :=
 uQ (ag (ca (ag (aw _) (ag (bJ ha0_1) aA))) aA) (oQ [] Tryz.f71 h)
def NV(a0_0:ByteArray)(a0_1:AV)(a1:AV)(a2_0:ByteArray)(a2_1:AV)(a3:Int):Tree :=
 .call 100 [.agg [VS a0_0,a0_1],a1] [] fun r1 o1=>NT r1<|.aj ((r1.comp 0)=.agg (r1.comp 0).cs/\(r1.comp 0).cs.length=2/\bz [.str,.sl] ((r1.comp 0).cs) 0)<|NL (r1.comp 1)<|.test (!(ae (((r1.comp 0).cs.getD 0 .any).ah)==ae (mk []))) (.test (ae (((r1.comp 0).cs.getD 0 .any).ah)==ae (mk [49])) (.done 0 [VB (ae a2_0==ae (mk [117]))] []) (.call 101 [VS (((r1.comp 0).cs.getD 0 .any).ah)] [] fun r2 o2=>NB r2<|.test r2.toBool (.call 102 [VS a2_0] [] fun r3 o3=>NI r3<|.call 60 [VI r3.toInt,VI 0,VI (IntKind.wrap .i64 (a3-1))] [] fun r4 o4=>NB r4<|.done 0 [VB r4.toBool] []) (.done 0 [VB false] []))) (.call 71 [.agg [VS (((r1.comp 0).cs.getD 0 .any).ah),((r1.comp 0).cs.getD 1 .any)]] [] fun r5 o5=>NS r5<|.call 71 [.agg [VS a2_0,a2_1]] [] fun r6 o6=>NS r6<|.aj (af r5.ah+af r6.ah<=9223372036854775807)<|.test (ae ((r5.ah:ByteArray)++r6.ah)==ae (mk [43,108])) (NG ((r1.comp 0).cs.getD 1 .any) 1 2<|NE (((r1.comp 0).cs.getD 1 .any).ix (1:Int))<|NG a2_1 1 2<|NE (a2_1.ix (1:Int))<|.call 72 [.agg [VS (((((r1.comp 0).cs.getD 1 .any).ix (1:Int)).getD 0 .any).ah),((((r1.comp 0).cs.getD 1 .any).ix (1:Int)).getD 1 .any)],(r1.comp 1),.agg [VS (((a2_1.ix (1:Int)).getD 0 .any).ah),((a2_1.ix (1:Int)).getD 1 .any)],VI a3] [] fun r7 o7=>NB r7<|.done 0 [VB r7.toBool] []) (.test (ae ((r5.ah:ByteArray)++r6.ah)==ae (mk [43,114])) (NG ((r1.comp 0).cs.getD 1 .any) 2 2<|NE (((r1.comp 0).cs.getD 1 .any).ix (2:Int))<|NG a2_1 1 2<|NE (a2_1.ix (1:Int))<|.call 72 [.agg [VS (((((r1.comp 0).cs.getD 1 .any).ix (2:Int)).getD 0 .any).ah),((((r1.comp 0).cs.getD 1 .any).ix (2:Int)).getD 1 .any)],(r1.comp 1),.agg [VS (((a2_1.ix (1:Int)).getD 0 .any).ah),((a2_1.ix (1:Int)).getD 1 .any)],VI a3] [] fun r8 o8=>NB r8<|.done 0 [VB r8.toBool] []) (.test (ae ((r5.ah:ByteArray)++r6.ah)==ae (mk [42,112])) (NG ((r1.comp 0).cs.getD 1 .any) 1 2<|NE (((r1.comp 0).cs.getD 1 .any).ix (1:Int))<|NG a2_1 1 2<|NE (a2_1.ix (1:Int))<|.call 72 [.agg [VS (((((r1.comp 0).cs.getD 1 .any).ix (1:Int)).getD 0 .any).ah),((((r1.comp 0).cs.getD 1 .any).ix (1:Int)).getD 1 .any)],(r1.comp 1),.agg [VS (((a2_1.ix (1:Int)).getD 0 .any).ah),((a2_1.ix (1:Int)).getD 1 .any)],VI a3] [] fun r9 o9=>NB r9<|.test r9.toBool (NG ((r1.comp 0).cs.getD 1 .any) 2 2<|NE (((r1.comp 0).cs.getD 1 .any).ix (2:Int))<|NG a2_1 2 2<|NE (a2_1.ix (2:Int))<|.call 72 [.agg [VS (((((r1.comp 0).cs.getD 1 .any).ix (2:Int)).getD 0 .any).ah),((((r1.comp 0).cs.getD 1 .any).ix (2:Int)).getD 1 .any)],(r1.comp 1),.agg [VS (((a2_1.ix (2:Int)).getD 0 .any).ah),((a2_1.ix (2:Int)).getD 1 .any)],VI a3] [] fun r10 o10=>NB r10<|.done 0 [VB r10.toBool] []) (.done 0 [VB false] [])) (.test (ae ((r5.ah:ByteArray)++r6.ah)==ae (mk [114,101,99,102])) (.call 103 [.agg [VS (((r1.comp 0).cs.getD 0 .any).ah),((r1.comp 0).cs.getD 1 .any)],(r1.comp 1)] [] fun r11 o11=>NT r11<|.aj ((r11.comp 0)=.agg (r11.comp 0).cs/\(r11.comp 0).cs.length=2/\bz [.str,.sl] ((r11.comp 0).cs) 0)<|NL (r11.comp 1)<|NG a2_1 1 2<|NE (a2_1.ix (1:Int))<|.call 72 [.agg [VS (((r11.comp 0).cs.getD 0 .any).ah),((r11.comp 0).cs.getD 1 .any)],(r11.comp 1),.agg [VS (((a2_1.ix (1:Int)).getD 0 .any).ah),((a2_1.ix (1:Int)).getD 1 .any)],VI a3] [] fun r12 o12=>NB r12<|.done 0 [VB r12.toBool] []) (.done 0 [VB false] [])))))
theorem SQ(a0_0:ByteArray)(a0_1:AV)(a1:AV)(a2_0:ByteArray)(a2_1:AV)(a3:Int)(ha0_1:LK.has .sl a0_1)(ha1:LK.has .sl a1)(ha2_1:LK.has .sl a2_1)(h:di 110 (NV a0_0 a0_1 a1 a2_0 a2_1 a3) R):ap Tryz.prog 72 [.agg [VS a0_0,a0_1],a1,.agg [VS a2_0,a2_1],VI a3] [] R :=
 uQ (ag (ca (ag (aw _) (ag (bJ ha0_1) aA))) (ag (bJ ha1) (ag (ca (ag (aw _) (ag (bJ ha2_1) aA))) (ag (aw _) aA)))) (oQ [] Tryz.f72 h)
def MC(a0:ByteArray):Tree :=
 .test (decide ((af a0:Int)>(8000:Int))) (.done 0 [.cA [.agg [VS (mk []),.v (.slice none 0 0)],VB false]] []) (.call 104 [VS a0,VI 0,VI 0] [] fun r1 o1=>NT r1<|.aj ((r1.comp 0)=.agg (r1.comp 0).cs/\(r1.comp 0).cs.length=2/\bz [.str,.sl] ((r1.comp 0).cs) 0)<|NI (r1.comp 1)<|.done 0 [.cA [.agg [VS (((r1.comp 0).cs.getD 0 .any).ah),((r1.comp 0).cs.getD 1 .any)],VB (((r1.comp 1).toInt)==(af a0:Int))]] [])
theorem Q8(a0:ByteArray)(h:di 20 (MC a0) R):ap Tryz.prog 73 [VS a0] [] R :=
 uQ (ag (aw _) aA) (oQ [] Tryz.f73 h)
def wW(a0_0:ByteArray)(a0_1:AV):Tree :=
 .test (!(ae a0_0==ae (mk []))) (.test (ae a0_0==ae (mk [117])) (.done 0 [VB true] []) (.call 102 [VS a0_0] [] fun r1 o1=>NI r1<|.done 0 [VB (decide (r1.toInt≥(0:Int)))] [])) (.call 71 [.agg [VS a0_0,a0_1]] [] fun r2 o2=>NS r2<|.test (ae r2.ah==ae (mk [108])) (NL a0_1<|.test ((a0_1.aJ.length:Int)==(2:Int)) (NG a0_1 1 2<|NE (a0_1.ix (1:Int))<|.call 74 [.agg [VS (((a0_1.ix (1:Int)).getD 0 .any).ah),((a0_1.ix (1:Int)).getD 1 .any)]] [] fun r3 o3=>NB r3<|.done 0 [VB r3.toBool] []) (.done 0 [VB false] [])) (.test (ae r2.ah==ae (mk [114])) (NL a0_1<|.test ((a0_1.aJ.length:Int)==(2:Int)) (NG a0_1 1 2<|NE (a0_1.ix (1:Int))<|.call 74 [.agg [VS (((a0_1.ix (1:Int)).getD 0 .any).ah),((a0_1.ix (1:Int)).getD 1 .any)]] [] fun r4 o4=>NB r4<|.done 0 [VB r4.toBool] []) (.done 0 [VB false] [])) (.test (ae r2.ah==ae (mk [102])) (NL a0_1<|.test ((a0_1.aJ.length:Int)==(2:Int)) (NG a0_1 1 2<|NE (a0_1.ix (1:Int))<|.call 74 [.agg [VS (((a0_1.ix (1:Int)).getD 0 .any).ah),((a0_1.ix (1:Int)).getD 1 .any)]] [] fun r5 o5=>NB r5<|.done 0 [VB r5.toBool] []) (.done 0 [VB false] [])) (.test (ae r2.ah==ae (mk [112])) (NL a0_1<|.test ((a0_1.aJ.length:Int)==(3:Int)) (NG a0_1 1 2<|NE (a0_1.ix (1:Int))<|.call 74 [.agg [VS (((a0_1.ix (1:Int)).getD 0 .any).ah),((a0_1.ix (1:Int)).getD 1 .any)]] [] fun r6 o6=>NB r6<|.test r6.toBool (NG a0_1 2 2<|NE (a0_1.ix (2:Int))<|.call 74 [.agg [VS (((a0_1.ix (2:Int)).getD 0 .any).ah),((a0_1.ix (2:Int)).getD 1 .any)]] [] fun r7 o7=>NB r7<|.done 0 [VB r7.toBool] []) (.done 0 [VB false] [])) (.done 0 [VB false] [])) (.done 0 [VB false] [])))))
theorem zO(a0_0:ByteArray)(a0_1:AV)(ha0_1:LK.has .sl a0_1)(h:di 52 (wW a0_0 a0_1) R):ap Tryz.prog 74 [.agg [VS a0_0,a0_1]] [] R :=
 uQ (ag (ca (ag (aw _) (ag (bJ ha0_1) aA))) aA) (oQ [] Tryz.f74 h)
def Gw:LI:={hd:={bL:=[(3,.k (.int .i64)),(4,.k (.int .i64))],refs:=[(1,1)],ck:=[(1,[.lk .str,.lk .sl])]},xs:={bL:=[(3,.k (.int .i64))]},rt:={},ex:=0}
def JK:Code:=cC (cw Tryz.f75) 3
def L4:List (Nat×LI):=[(3,Gw)]
def Hi(a0_0:ByteArray)(a0_1:AV):Tree :=
 .loop JK Gw [VI 1,VI 1] [.cells [VS a0_0,a0_1]] (fun y2 q2=>NI (y2.hA)<|.done 0 [VI ((y2.hA).toInt)] []) (fun y2 q2=>.done 0 [.any] [])
theorem NU(a0_0:ByteArray)(a0_1:AV)(ha0_1:LK.has .sl a0_1)(h:di 21 (Hi a0_0 a0_1) R):ap Tryz.prog 75 [.agg [VS a0_0,a0_1]] [] R :=
 uQ (ag (ca (ag (aw _) (ag (bJ ha0_1) aA))) aA) (oQ L4 Tryz.f75 h)
def Cf(x3:Int)(x4:Int)(o1_0:ByteArray)(o1_1:AV):Tree :=
 NI (VI x3)<|NI (VI x4)<|.aj (Ob.cells [VS o1_0,o1_1]=.cells [VS o1_0,o1_1])<|.aj (ac [.lk .str,.lk .sl] [VS o1_0,o1_1] 0 [])<|NL o1_1<|.test (decide (x4<(o1_1.aJ.length:Int))) (NG o1_1 x4 2<|NE (o1_1.ix x4)<|.call 75 [.agg [VS (((o1_1.ix x4).getD 0 .any).ah),((o1_1.ix x4).getD 1 .any)]] [] fun r1 o1=>NI r1<|.done 0 [VI (IntKind.wrap .i64 (x3+r1.toInt)),VI (IntKind.wrap .i64 (x4+1))] [.cells [VS o1_0,o1_1]]) (.done 1 [VI x3] [])
abbrev Bo:=cy Tryz.prog 21 JK Gw
theorem ED(x3:Int)(x4:Int)(o1_0:ByteArray)(o1_1:AV)(h:jx 21 (Cf x3 x4 o1_0 o1_1) Bo U):Bo [VI x3,VI x4] [.cells [VS o1_0,o1_1]] U :=
 gQ L4 h
def GX:LI:={hd:={bL:=[(3,.k .str),(4,.k (.int .i64))],refs:=[(1,1)],ck:=[(1,[.lk .str,.lk .sl])]},xs:={bL:=[(3,.k .str)]},rt:={},ex:=0}
def JF:Code:=cC (cw Tryz.f76) 5
def Oi:List (Nat×LI):=[(5,GX)]
def Du(a0_0:ByteArray)(a0_1:AV):Tree :=
 .test (!(ae a0_0==ae (mk []))) (.done 0 [VS a0_0] []) (.loop JF GX [VS (mk [40]),VI 0] [.cells [VS a0_0,a0_1]] (fun y3 q3=>NS (y3.hA)<|.aj (af ((y3.hA).ah)+af (mk [41])<=9223372036854775807)<|.done 0 [VS ((((y3.hA).ah):ByteArray)++(mk [41]))] []) (fun y3 q3=>.done 0 [.any] []))
theorem Gh(a0_0:ByteArray)(a0_1:AV)(ha0_1:LK.has .sl a0_1)(h:di 31 (Du a0_0 a0_1) R):ap Tryz.prog 76 [.agg [VS a0_0,a0_1]] [] R :=
 uQ (ag (ca (ag (aw _) (ag (bJ ha0_1) aA))) aA) (oQ Oi Tryz.f76 h)
def Be(x3:ByteArray)(x4:Int)(o1_0:ByteArray)(o1_1:AV):Tree :=
 NS (VS x3)<|NI (VI x4)<|.aj (Ob.cells [VS o1_0,o1_1]=.cells [VS o1_0,o1_1])<|.aj (ac [.lk .str,.lk .sl] [VS o1_0,o1_1] 0 [])<|NL o1_1<|.test (decide (x4<(o1_1.aJ.length:Int))) (.test (decide (x4>(0:Int))) (.aj (af x3+af (mk [32])<=9223372036854775807)<|NG o1_1 x4 2<|NE (o1_1.ix x4)<|.call 76 [.agg [VS (((o1_1.ix x4).getD 0 .any).ah),((o1_1.ix x4).getD 1 .any)]] [] fun r1 o1=>NS r1<|.aj (af ((x3:ByteArray)++(mk [32]))+af r1.ah<=9223372036854775807)<|.done 0 [VS ((((x3:ByteArray)++(mk [32])):ByteArray)++r1.ah),VI (IntKind.wrap .i64 (x4+1))] [.cells [VS o1_0,o1_1]]) (NG o1_1 x4 2<|NE (o1_1.ix x4)<|.call 76 [.agg [VS (((o1_1.ix x4).getD 0 .any).ah),((o1_1.ix x4).getD 1 .any)]] [] fun r2 o2=>NS r2<|.aj (af x3+af r2.ah<=9223372036854775807)<|.done 0 [VS ((x3:ByteArray)++r2.ah),VI (IntKind.wrap .i64 (x4+1))] [.cells [VS o1_0,o1_1]])) (.done 1 [VS x3] [])
abbrev Cz:=cy Tryz.prog 31 JF GX
theorem Ec(x3:ByteArray)(x4:Int)(o1_0:ByteArray)(o1_1:AV)(h:jx 31 (Be x3 x4 o1_0 o1_1) Cz U):Cz [VS x3,VI x4] [.cells [VS o1_0,o1_1]] U :=
 gQ Oi h
def ID:LI:={hd:={bL:=[(1,.k .str),(8,.k .sl),(9,.k (.int .i64))],refs:=[(3,3),(5,5)],ck:=[(3,[.lk .str,.lk .sl]),(5,[.lk .str,.lk .sl])],eA:=[(7,4)]},xs:={bL:=[(1,.k .str)],refs:=[(3,3),(5,5)],ck:=[(3,[.lk .str,.lk .sl]),(5,[.lk .str,.lk .sl])],eA:=[(7,4)]},rt:={},ex:=1}
def LM:Code:=cC (cw Tryz.f77) 14
def Gc:LI:={hd:={bL:=[(10,.k .sl),(11,.k (.int .i64))],refs:=[(5,5)],ck:=[(5,[.lk .str,.lk .sl])],eA:=[(7,4)]},xs:={eA:=[(7,4)]},rt:={},ex:=3}
def OL:Code:=cC (cw Tryz.f77) 19
def F2:LI:={hd:={bL:=[(1,.k .str),(12,.k .str),(13,.k .sl),(14,.k (.int .i64))],refs:=[(3,3),(5,5)],ck:=[(3,[.lk .str,.lk .sl]),(5,[.lk .str,.lk .sl])],eA:=[(7,4)]},xs:={bL:=[(1,.k .str),(12,.k .str)],refs:=[(3,3),(5,5)],ck:=[(3,[.lk .str,.lk .sl]),(5,[.lk .str,.lk .sl])],eA:=[(7,4)]},rt:={},ex:=5}
def KW:Code:=cC (cw Tryz.f77) 28
def Ig:LI:={hd:={bL:=[(1,.k .str),(15,.k .sl),(16,.k (.int .i64))],refs:=[(3,3)],ck:=[(3,[.lk .str,.lk .sl])],eA:=[(7,4)]},xs:={eA:=[(7,4)]},rt:={},ex:=7}
def L9:Code:=cC (cw Tryz.f77) 33
def HF:LI:={hd:={bL:=[(1,.k .str),(15,.k .sl),(16,.k (.int .i64)),(17,.k .sl),(18,.k (.int .i64))],refs:=[(3,3)],ck:=[(3,[.lk .str,.lk .sl])],eA:=[(7,4)]},xs:={bL:=[(1,.k .str),(15,.k .sl),(16,.k (.int .i64))],refs:=[(3,3)],ck:=[(3,[.lk .str,.lk .sl])],eA:=[(7,4)]},rt:={},ex:=9}
def M3:Code:=cC (cw Tryz.f77) 37
def Ag:List (Nat×LI):=[(14,ID),(19,Gc),(28,F2),(33,Ig),(37,HF)]
def I2(a0_0:ByteArray)(a0_1:AV)(a1:ByteArray)(a2_0:ByteArray)(a2_1:AV):Tree :=
 .test (!(ae a0_0==ae (mk []))) (.test (ae a0_0==ae a1) (.aj (cr 4 [[VS (mk [117]),.v (.slice none 0 0),VS a2_0,a2_1]]/\((([]:List (List AV)).length)+([[VS (mk [117]),.v (.slice none 0 0),VS a2_0,a2_1]]:List (List AV)).length)*80<=140737488355328)<|.done 0 [.sl [[VS (mk [117]),.v (.slice none 0 0),VS a2_0,a2_1]]] []) (.done 0 [.sl []] [])) (.call 71 [.agg [VS a2_0,a2_1]] [] fun r1 o1=>NS r1<|.test (ae r1.ah==ae (mk [108])) (NG a0_1 1 2<|NE (a0_1.ix (1:Int))<|NG a2_1 1 2<|NE (a2_1.ix (1:Int))<|.call 77 [.agg [VS (((a0_1.ix (1:Int)).getD 0 .any).ah),((a0_1.ix (1:Int)).getD 1 .any)],VS a1,.agg [VS (((a2_1.ix (1:Int)).getD 0 .any).ah),((a2_1.ix (1:Int)).getD 1 .any)]] [] fun r2 o2=>NL r2<|.call 105 [r2,VS (mk [108]),.vec 0] [.vec 4 []] fun r3 o3=>.aj (r3=.vec 1/\(o3.tail.hO)=.vec 4 (o3.tail.hO).es)<|.done 0 [.sl ((o3.tail.hO).es)] []) (.test (ae r1.ah==ae (mk [114])) (NG a0_1 2 2<|NE (a0_1.ix (2:Int))<|NG a2_1 1 2<|NE (a2_1.ix (1:Int))<|.call 77 [.agg [VS (((a0_1.ix (2:Int)).getD 0 .any).ah),((a0_1.ix (2:Int)).getD 1 .any)],VS a1,.agg [VS (((a2_1.ix (1:Int)).getD 0 .any).ah),((a2_1.ix (1:Int)).getD 1 .any)]] [] fun r4 o4=>NL r4<|.call 105 [r4,VS (mk [114]),.vec 0] [.vec 4 []] fun r5 o5=>.aj (r5=.vec 1/\(o5.tail.hO)=.vec 4 (o5.tail.hO).es)<|.done 0 [.sl ((o5.tail.hO).es)] []) (.test (ae r1.ah==ae (mk [112])) (NG a0_1 1 2<|NE (a0_1.ix (1:Int))<|NG a2_1 1 2<|NE (a2_1.ix (1:Int))<|.call 77 [.agg [VS (((a0_1.ix (1:Int)).getD 0 .any).ah),((a0_1.ix (1:Int)).getD 1 .any)],VS a1,.agg [VS (((a2_1.ix (1:Int)).getD 0 .any).ah),((a2_1.ix (1:Int)).getD 1 .any)]] [] fun r6 o6=>NL r6<|.loop LM ID [VS a1,r6,VI 0] [.cells [VS a0_0,a0_1],.cells [VS a2_0,a2_1],.vec 4 []] (fun y9 q9=>NS (y9.hA)<|.aj ((q9.hO)=.cells (q9.hO).cs)<|.aj (ac [.lk .str,.lk .sl] ((q9.hO).cs) 0 q9.tail)<|.aj (((q9.tail.drop 0).hO)=.cells ((q9.tail.drop 0).hO).cs)<|.aj (ac [.lk .str,.lk .sl] (((q9.tail.drop 0).hO).cs) 0 ((q9.tail.drop 0).tail))<|.aj (((q9.drop 2).hO)=.vec 4 ((q9.drop 2).hO).es)<|NG ((q9.hO).cs.getD 1 .any) 2 2<|NE (((q9.hO).cs.getD 1 .any).ix (2:Int))<|NG ((q9.tail.hO).cs.getD 1 .any) 2 2<|NE (((q9.tail.hO).cs.getD 1 .any).ix (2:Int))<|.call 77 [.agg [VS (((((q9.hO).cs.getD 1 .any).ix (2:Int)).getD 0 .any).ah),((((q9.hO).cs.getD 1 .any).ix (2:Int)).getD 1 .any)],VS ((y9.hA).ah),.agg [VS (((((q9.tail.hO).cs.getD 1 .any).ix (2:Int)).getD 0 .any).ah),((((q9.tail.hO).cs.getD 1 .any).ix (2:Int)).getD 1 .any)]] [] fun r10 o10=>NL r10<|.loop OL Gc [r10,VI 0] [.cells [VS (((q9.tail.hO).cs.getD 0 .any).ah),((q9.tail.hO).cs.getD 1 .any)],.vec 4 ((q9.tail.tail.hO).es)] (fun y13 q13=>.aj (((q13.drop 0).hO)=.vec 4 ((q13.drop 0).hO).es)<|.done 0 [.sl ((q13.hO).es)] []) (fun y13 q13=>.done 0 [.any] [])) (fun y9 q9=>.done 0 [.any] [])) (NG a0_1 1 2<|kK (a0_1.ix (1:Int))<|.test (ae (((a0_1.ix (1:Int)).hA).ah)==ae a1) (.done 0 [.sl []] []) (NG a0_1 2 2<|NE (a0_1.ix (2:Int))<|NG a2_1 1 2<|NE (a2_1.ix (1:Int))<|.call 77 [.agg [VS (((a0_1.ix (2:Int)).getD 0 .any).ah),((a0_1.ix (2:Int)).getD 1 .any)],VS a1,.agg [VS (((a2_1.ix (1:Int)).getD 0 .any).ah),((a2_1.ix (1:Int)).getD 1 .any)]] [] fun r14 o14=>NL r14<|.loop KW F2 [VS a1,VS (((a0_1.ix (1:Int)).hA).ah),r14,VI 0] [.cells [VS a0_0,a0_1],.cells [VS a2_0,a2_1],.vec 4 []] (fun y17 q17=>NS (y17.hA)<|NS (y17.tail.hA)<|.aj ((q17.hO)=.cells (q17.hO).cs)<|.aj (ac [.lk .str,.lk .sl] ((q17.hO).cs) 0 q17.tail)<|.aj (((q17.tail.drop 0).hO)=.cells ((q17.tail.drop 0).hO).cs)<|.aj (ac [.lk .str,.lk .sl] (((q17.tail.drop 0).hO).cs) 0 ((q17.tail.drop 0).tail))<|.aj (((q17.drop 2).hO)=.vec 4 ((q17.drop 2).hO).es)<|NG ((q17.hO).cs.getD 1 .any) 2 2<|NE (((q17.hO).cs.getD 1 .any).ix (2:Int))<|NG ((q17.tail.hO).cs.getD 1 .any) 1 2<|NE (((q17.tail.hO).cs.getD 1 .any).ix (1:Int))<|.call 77 [.agg [VS (((((q17.hO).cs.getD 1 .any).ix (2:Int)).getD 0 .any).ah),((((q17.hO).cs.getD 1 .any).ix (2:Int)).getD 1 .any)],VS ((y17.tail.hA).ah),.agg [VS (((((q17.tail.hO).cs.getD 1 .any).ix (1:Int)).getD 0 .any).ah),((((q17.tail.hO).cs.getD 1 .any).ix (1:Int)).getD 1 .any)]] [] fun r18 o18=>NL r18<|.loop L9 Ig [VS ((y17.hA).ah),r18,VI 0] [.cells [VS (((q17.hO).cs.getD 0 .any).ah),((q17.hO).cs.getD 1 .any)],.vec 4 ((q17.tail.tail.hO).es)] (fun y24 q24=>.aj (((q24.drop 0).hO)=.vec 4 ((q24.drop 0).hO).es)<|.done 0 [.sl ((q24.hO).es)] []) (fun y24 q24=>.done 0 [.any] [])) (fun y17 q17=>.done 0 [.any] []))))))
theorem QQ(a0_0:ByteArray)(a0_1:AV)(a1:ByteArray)(a2_0:ByteArray)(a2_1:AV)(ha0_1:LK.has .sl a0_1)(ha2_1:LK.has .sl a2_1)(h:di 244 (I2 a0_0 a0_1 a1 a2_0 a2_1) R):ap Tryz.prog 77 [.agg [VS a0_0,a0_1],VS a1,.agg [VS a2_0,a2_1]] [] R :=
 uQ (ag (ca (ag (aw _) (ag (bJ ha0_1) aA))) (ag (aw _) (ag (ca (ag (aw _) (ag (bJ ha2_1) aA))) aA))) (oQ Ag Tryz.f77 h)
def FO(x1:ByteArray)(x8:AV)(x9:Int)(o3_0:ByteArray)(o3_1:AV)(o5_0:ByteArray)(o5_1:AV)(e7:List (List AV)):Tree :=
 NS (VS x1)<|NL x8<|NI (VI x9)<|.aj (Ob.cells [VS o3_0,o3_1]=.cells [VS o3_0,o3_1])<|.aj (ac [.lk .str,.lk .sl] [VS o3_0,o3_1] 0 [.cells [VS o5_0,o5_1],.vec 4 e7])<|.aj (Ob.cells [VS o5_0,o5_1]=.cells [VS o5_0,o5_1])<|.aj (ac [.lk .str,.lk .sl] [VS o5_0,o5_1] 0 [.vec 4 e7])<|.aj (Ob.vec 4 e7=.vec 4 e7)<|NL x8<|.test (decide (x9<(x8.aJ.length:Int))) (NG x8 x9 4<|NE (x8.ix x9)<|NG o5_1 2 2<|NE (o5_1.ix (2:Int))<|.call 78 [VS (mk [112]),.sl [[VS (((x8.ix x9).getD 0 .any).ah),((x8.ix x9).getD 1 .any)],[VS (((o5_1.ix (2:Int)).getD 0 .any).ah),((o5_1.ix (2:Int)).getD 1 .any)]]] [] fun r1 o1=>NA r1<|.call 78 [VS (mk [108]),.sl [[VS ((r1.cs.getD 0 .any).ah),(r1.cs.getD 1 .any)]]] [] fun r2 o2=>NA r2<|NG x8 x9 4<|NE ((x8.ix x9).drop 2)<|.aj (cr 4 [[VS ((r2.cs.getD 0 .any).ah),(r2.cs.getD 1 .any),VS ((((x8.ix x9).drop 2).getD 0 .any).ah),(((x8.ix x9).drop 2).getD 1 .any)]]/\((e7.length)+([[VS ((r2.cs.getD 0 .any).ah),(r2.cs.getD 1 .any),VS ((((x8.ix x9).drop 2).getD 0 .any).ah),(((x8.ix x9).drop 2).getD 1 .any)]]:List (List AV)).length)*80<=140737488355328)<|.done 0 [VS x1,x8,VI (IntKind.wrap .i64 (x9+1))] [.cells [VS o3_0,o3_1],.cells [VS o5_0,o5_1],.vec 4 (e7++([[VS ((r2.cs.getD 0 .any).ah),(r2.cs.getD 1 .any),VS ((((x8.ix x9).drop 2).getD 0 .any).ah),(((x8.ix x9).drop 2).getD 1 .any)]]:List (List AV)))]) (.done 1 [VS x1] [.cells [VS o3_0,o3_1],.cells [VS o5_0,o5_1],.vec 4 e7])
abbrev GP:=cy Tryz.prog 244 LM ID
theorem Mz(x1:ByteArray)(x8:AV)(x9:Int)(o3_0:ByteArray)(o3_1:AV)(o5_0:ByteArray)(o5_1:AV)(e7:List (List AV))(h:jx 244 (FO x1 x8 x9 o3_0 o3_1 o5_0 o5_1 e7) GP U):GP [VS x1,x8,VI x9] [.cells [VS o3_0,o3_1],.cells [VS o5_0,o5_1],.vec 4 e7] U :=
 gQ Ag h
def F5(x10:AV)(x11:Int)(o5_0:ByteArray)(o5_1:AV)(e7:List (List AV)):Tree :=
 NL x10<|NI (VI x11)<|.aj (Ob.cells [VS o5_0,o5_1]=.cells [VS o5_0,o5_1])<|.aj (ac [.lk .str,.lk .sl] [VS o5_0,o5_1] 0 [.vec 4 e7])<|.aj (Ob.vec 4 e7=.vec 4 e7)<|NL x10<|.test (decide (x11<(x10.aJ.length:Int))) (NG o5_1 1 2<|NE (o5_1.ix (1:Int))<|NG x10 x11 4<|NE (x10.ix x11)<|.call 78 [VS (mk [112]),.sl [[VS (((o5_1.ix (1:Int)).getD 0 .any).ah),((o5_1.ix (1:Int)).getD 1 .any)],[VS (((x10.ix x11).getD 0 .any).ah),((x10.ix x11).getD 1 .any)]]] [] fun r1 o1=>NA r1<|.call 78 [VS (mk [114]),.sl [[VS ((r1.cs.getD 0 .any).ah),(r1.cs.getD 1 .any)]]] [] fun r2 o2=>NA r2<|NG x10 x11 4<|NE ((x10.ix x11).drop 2)<|.aj (cr 4 [[VS ((r2.cs.getD 0 .any).ah),(r2.cs.getD 1 .any),VS ((((x10.ix x11).drop 2).getD 0 .any).ah),(((x10.ix x11).drop 2).getD 1 .any)]]/\((e7.length)+([[VS ((r2.cs.getD 0 .any).ah),(r2.cs.getD 1 .any),VS ((((x10.ix x11).drop 2).getD 0 .any).ah),(((x10.ix x11).drop 2).getD 1 .any)]]:List (List AV)).length)*80<=140737488355328)<|.done 0 [x10,VI (IntKind.wrap .i64 (x11+1))] [.cells [VS o5_0,o5_1],.vec 4 (e7++([[VS ((r2.cs.getD 0 .any).ah),(r2.cs.getD 1 .any),VS ((((x10.ix x11).drop 2).getD 0 .any).ah),(((x10.ix x11).drop 2).getD 1 .any)]]:List (List AV)))]) (.done 1 [] [.vec 4 e7])
abbrev Gg:=cy Tryz.prog 244 OL Gc
theorem Oj(x10:AV)(x11:Int)(o5_0:ByteArray)(o5_1:AV)(e7:List (List AV))(h:jx 244 (F5 x10 x11 o5_0 o5_1 e7) Gg U):Gg [x10,VI x11] [.cells [VS o5_0,o5_1],.vec 4 e7] U :=
 gQ Ag h
def GF(x1:ByteArray)(x12:ByteArray)(x13:AV)(x14:Int)(o3_0:ByteArray)(o3_1:AV)(o5_0:ByteArray)(o5_1:AV)(e7:List (List AV)):Tree :=
 NS (VS x1)<|NS (VS x12)<|NL x13<|NI (VI x14)<|.aj (Ob.cells [VS o3_0,o3_1]=.cells [VS o3_0,o3_1])<|.aj (ac [.lk .str,.lk .sl] [VS o3_0,o3_1] 0 [.cells [VS o5_0,o5_1],.vec 4 e7])<|.aj (Ob.cells [VS o5_0,o5_1]=.cells [VS o5_0,o5_1])<|.aj (ac [.lk .str,.lk .sl] [VS o5_0,o5_1] 0 [.vec 4 e7])<|.aj (Ob.vec 4 e7=.vec 4 e7)<|NL x13<|.test (decide (x14<(x13.aJ.length:Int))) (NG x13 x14 4<|NE (x13.ix x14)<|.call 78 [VS (mk [108]),.sl [[VS (((x13.ix x14).getD 0 .any).ah),((x13.ix x14).getD 1 .any)]]] [] fun r1 o1=>NA r1<|.call 78 [VS (mk [102]),.sl [[VS ((r1.cs.getD 0 .any).ah),(r1.cs.getD 1 .any)]]] [] fun r2 o2=>NA r2<|NG x13 x14 4<|NE ((x13.ix x14).drop 2)<|.aj (cr 4 [[VS ((r2.cs.getD 0 .any).ah),(r2.cs.getD 1 .any),VS ((((x13.ix x14).drop 2).getD 0 .any).ah),(((x13.ix x14).drop 2).getD 1 .any)]]/\((e7.length)+([[VS ((r2.cs.getD 0 .any).ah),(r2.cs.getD 1 .any),VS ((((x13.ix x14).drop 2).getD 0 .any).ah),(((x13.ix x14).drop 2).getD 1 .any)]]:List (List AV)).length)*80<=140737488355328)<|.done 0 [VS x1,VS x12,x13,VI (IntKind.wrap .i64 (x14+1))] [.cells [VS o3_0,o3_1],.cells [VS o5_0,o5_1],.vec 4 (e7++([[VS ((r2.cs.getD 0 .any).ah),(r2.cs.getD 1 .any),VS ((((x13.ix x14).drop 2).getD 0 .any).ah),(((x13.ix x14).drop 2).getD 1 .any)]]:List (List AV)))]) (.done 1 [VS x1,VS x12] [.cells [VS o3_0,o3_1],.cells [VS o5_0,o5_1],.vec 4 e7])
abbrev Hh:=cy Tryz.prog 244 KW F2
theorem O3(x1:ByteArray)(x12:ByteArray)(x13:AV)(x14:Int)(o3_0:ByteArray)(o3_1:AV)(o5_0:ByteArray)(o5_1:AV)(e7:List (List AV))(h:jx 244 (GF x1 x12 x13 x14 o3_0 o3_1 o5_0 o5_1 e7) Hh U):Hh [VS x1,VS x12,x13,VI x14] [.cells [VS o3_0,o3_1],.cells [VS o5_0,o5_1],.vec 4 e7] U :=
 gQ Ag h
def Hn(x1:ByteArray)(x15:AV)(x16:Int)(o3_0:ByteArray)(o3_1:AV)(e7:List (List AV)):Tree :=
 NS (VS x1)<|NL x15<|NI (VI x16)<|.aj (Ob.cells [VS o3_0,o3_1]=.cells [VS o3_0,o3_1])<|.aj (ac [.lk .str,.lk .sl] [VS o3_0,o3_1] 0 [.vec 4 e7])<|.aj (Ob.vec 4 e7=.vec 4 e7)<|NL x15<|.test (decide (x16<(x15.aJ.length:Int))) (NG x15 x16 4<|NE ((x15.ix x16).drop 2)<|.call 77 [.agg [VS o3_0,o3_1],VS x1,.agg [VS ((((x15.ix x16).drop 2).getD 0 .any).ah),(((x15.ix x16).drop 2).getD 1 .any)]] [] fun r1 o1=>NL r1<|.loop M3 HF [VS x1,x15,VI x16,r1,VI 0] [.cells [VS o3_0,o3_1],.vec 4 e7] (fun y2 q2=>NS (y2.hA)<|NL (y2.tail.hA)<|NI (y2.tail.tail.hA)<|.aj ((q2.hO)=.cells (q2.hO).cs)<|.aj (ac [.lk .str,.lk .sl] ((q2.hO).cs) 0 q2.tail)<|.aj (((q2.drop 1).hO)=.vec 4 ((q2.drop 1).hO).es)<|.done 0 [VS ((y2.hA).ah),(y2.tail.hA),VI (IntKind.wrap .i64 (((y2.tail.tail.hA).toInt)+1))] [.cells [VS (((q2.hO).cs.getD 0 .any).ah),((q2.hO).cs.getD 1 .any)],.vec 4 ((q2.tail.hO).es)]) (fun y2 q2=>.done 2 [] [])) (.done 1 [] [.vec 4 e7])
abbrev Hk:=cy Tryz.prog 244 L9 Ig
theorem JW(x1:ByteArray)(x15:AV)(x16:Int)(o3_0:ByteArray)(o3_1:AV)(e7:List (List AV))(h:jx 244 (Hn x1 x15 x16 o3_0 o3_1 e7) Hk U):Hk [VS x1,x15,VI x16] [.cells [VS o3_0,o3_1],.vec 4 e7] U :=
 gQ Ag h
def Ij(x1:ByteArray)(x15:AV)(x16:Int)(x17:AV)(x18:Int)(o3_0:ByteArray)(o3_1:AV)(e7:List (List AV)):Tree :=
 NS (VS x1)<|NL x15<|NI (VI x16)<|NL x17<|NI (VI x18)<|.aj (Ob.cells [VS o3_0,o3_1]=.cells [VS o3_0,o3_1])<|.aj (ac [.lk .str,.lk .sl] [VS o3_0,o3_1] 0 [.vec 4 e7])<|.aj (Ob.vec 4 e7=.vec 4 e7)<|NL x17<|.test (decide (x18<(x17.aJ.length:Int))) (NG x15 x16 4<|NE (x15.ix x16)<|NG x17 x18 4<|NE (x17.ix x18)<|.call 78 [VS (mk [112]),.sl [[VS (((x15.ix x16).getD 0 .any).ah),((x15.ix x16).getD 1 .any)],[VS (((x17.ix x18).getD 0 .any).ah),((x17.ix x18).getD 1 .any)]]] [] fun r1 o1=>NA r1<|.call 78 [VS (mk [114]),.sl [[VS ((r1.cs.getD 0 .any).ah),(r1.cs.getD 1 .any)]]] [] fun r2 o2=>NA r2<|.call 78 [VS (mk [102]),.sl [[VS ((r2.cs.getD 0 .any).ah),(r2.cs.getD 1 .any)]]] [] fun r3 o3=>NA r3<|NG x17 x18 4<|NE ((x17.ix x18).drop 2)<|.aj (cr 4 [[VS ((r3.cs.getD 0 .any).ah),(r3.cs.getD 1 .any),VS ((((x17.ix x18).drop 2).getD 0 .any).ah),(((x17.ix x18).drop 2).getD 1 .any)]]/\((e7.length)+([[VS ((r3.cs.getD 0 .any).ah),(r3.cs.getD 1 .any),VS ((((x17.ix x18).drop 2).getD 0 .any).ah),(((x17.ix x18).drop 2).getD 1 .any)]]:List (List AV)).length)*80<=140737488355328)<|.done 0 [VS x1,x15,VI x16,x17,VI (IntKind.wrap .i64 (x18+1))] [.cells [VS o3_0,o3_1],.vec 4 (e7++([[VS ((r3.cs.getD 0 .any).ah),(r3.cs.getD 1 .any),VS ((((x17.ix x18).drop 2).getD 0 .any).ah),(((x17.ix x18).drop 2).getD 1 .any)]]:List (List AV)))]) (.done 1 [VS x1,x15,VI x16] [.cells [VS o3_0,o3_1],.vec 4 e7])
abbrev HX:=cy Tryz.prog 244 M3 HF
theorem J0(x1:ByteArray)(x15:AV)(x16:Int)(x17:AV)(x18:Int)(o3_0:ByteArray)(o3_1:AV)(e7:List (List AV))(h:jx 244 (Ij x1 x15 x16 x17 x18 o3_0 o3_1 e7) HX U):HX [VS x1,x15,VI x16,x17,VI x18] [.cells [VS o3_0,o3_1],.vec 4 e7] U :=
 gQ Ag h
def G2(a0:ByteArray)(a1:AV):Tree :=
 .aj (LK.has .sl a1/\cr 2 a1.aJ/\((([[VS a0,.v (.slice none 0 0)]]:List (List AV)).length)+a1.aJ.length)*40<=140737488355328)<|.done 0 [.agg [VS (mk []),.sl (([[VS a0,.v (.slice none 0 0)]]:List (List AV))++a1.aJ)]] []
theorem Pe(a0:ByteArray)(a1:AV)(ha1:LK.has .sl a1)(h:di 11 (G2 a0 a1) R):ap Tryz.prog 78 [VS a0,a1] [] R :=
 uQ (ag (aw _) (ag (bJ ha1) aA)) (oQ [] Tryz.f78 h)
def EE(a0_0:ByteArray)(a0_1:AV)(a1:ByteArray)(a2_0:ByteArray)(a2_1:AV)(a3_0:ByteArray)(a3_1:AV):Tree :=
 .test (!(ae a0_0==ae (mk []))) (.done 0 [.agg [VS a3_0,a3_1]] []) (NG a2_1 1 2<|NE (a2_1.ix (1:Int))<|.call 71 [.agg [VS a0_0,a0_1]] [] fun r1 o1=>NS r1<|.call 71 [.agg [VS a2_0,a2_1]] [] fun r2 o2=>NS r2<|.aj (af r1.ah+af r2.ah<=9223372036854775807)<|.test (ae ((r1.ah:ByteArray)++r2.ah)==ae (mk [43,108])) (NG a0_1 1 2<|NE (a0_1.ix (1:Int))<|.call 79 [.agg [VS (((a0_1.ix (1:Int)).getD 0 .any).ah),((a0_1.ix (1:Int)).getD 1 .any)],VS a1,.agg [VS (((a2_1.ix (1:Int)).getD 0 .any).ah),((a2_1.ix (1:Int)).getD 1 .any)],.agg [VS a3_0,a3_1]] [] fun r3 o3=>NA r3<|.call 78 [VS (mk [108]),.sl [[VS ((r3.cs.getD 0 .any).ah),(r3.cs.getD 1 .any)]]] [] fun r4 o4=>NA r4<|.done 0 [.agg [VS ((r4.cs.getD 0 .any).ah),(r4.cs.getD 1 .any)]] []) (.test (ae ((r1.ah:ByteArray)++r2.ah)==ae (mk [43,114])) (NG a0_1 2 2<|NE (a0_1.ix (2:Int))<|.call 79 [.agg [VS (((a0_1.ix (2:Int)).getD 0 .any).ah),((a0_1.ix (2:Int)).getD 1 .any)],VS a1,.agg [VS (((a2_1.ix (1:Int)).getD 0 .any).ah),((a2_1.ix (1:Int)).getD 1 .any)],.agg [VS a3_0,a3_1]] [] fun r5 o5=>NA r5<|.call 78 [VS (mk [114]),.sl [[VS ((r5.cs.getD 0 .any).ah),(r5.cs.getD 1 .any)]]] [] fun r6 o6=>NA r6<|.done 0 [.agg [VS ((r6.cs.getD 0 .any).ah),(r6.cs.getD 1 .any)]] []) (.test (ae ((r1.ah:ByteArray)++r2.ah)==ae (mk [42,108])) (NG a0_1 1 2<|NE (a0_1.ix (1:Int))<|NG ((a2_1.ix (1:Int)).getD 1 .any) 1 2<|NE (((a2_1.ix (1:Int)).getD 1 .any).ix (1:Int))<|.call 79 [.agg [VS (((a0_1.ix (1:Int)).getD 0 .any).ah),((a0_1.ix (1:Int)).getD 1 .any)],VS a1,.agg [VS (((((a2_1.ix (1:Int)).getD 1 .any).ix (1:Int)).getD 0 .any).ah),((((a2_1.ix (1:Int)).getD 1 .any).ix (1:Int)).getD 1 .any)],.agg [VS a3_0,a3_1]] [] fun r7 o7=>NA r7<|NG ((a2_1.ix (1:Int)).getD 1 .any) 2 2<|NE (((a2_1.ix (1:Int)).getD 1 .any).ix (2:Int))<|.call 78 [VS (mk [112]),.sl [[VS ((r7.cs.getD 0 .any).ah),(r7.cs.getD 1 .any)],[VS (((((a2_1.ix (1:Int)).getD 1 .any).ix (2:Int)).getD 0 .any).ah),((((a2_1.ix (1:Int)).getD 1 .any).ix (2:Int)).getD 1 .any)]]] [] fun r8 o8=>NA r8<|.done 0 [.agg [VS ((r8.cs.getD 0 .any).ah),(r8.cs.getD 1 .any)]] []) (.test (ae ((r1.ah:ByteArray)++r2.ah)==ae (mk [42,114])) (NG ((a2_1.ix (1:Int)).getD 1 .any) 1 2<|NE (((a2_1.ix (1:Int)).getD 1 .any).ix (1:Int))<|NG a0_1 2 2<|NE (a0_1.ix (2:Int))<|NG ((a2_1.ix (1:Int)).getD 1 .any) 2 2<|NE (((a2_1.ix (1:Int)).getD 1 .any).ix (2:Int))<|.call 79 [.agg [VS (((a0_1.ix (2:Int)).getD 0 .any).ah),((a0_1.ix (2:Int)).getD 1 .any)],VS a1,.agg [VS (((((a2_1.ix (1:Int)).getD 1 .any).ix (2:Int)).getD 0 .any).ah),((((a2_1.ix (1:Int)).getD 1 .any).ix (2:Int)).getD 1 .any)],.agg [VS a3_0,a3_1]] [] fun r9 o9=>NA r9<|.call 78 [VS (mk [112]),.sl [[VS (((((a2_1.ix (1:Int)).getD 1 .any).ix (1:Int)).getD 0 .any).ah),((((a2_1.ix (1:Int)).getD 1 .any).ix (1:Int)).getD 1 .any)],[VS ((r9.cs.getD 0 .any).ah),(r9.cs.getD 1 .any)]]] [] fun r10 o10=>NA r10<|.done 0 [.agg [VS ((r10.cs.getD 0 .any).ah),(r10.cs.getD 1 .any)]] []) (.call 71 [.agg [VS (((a2_1.ix (1:Int)).getD 0 .any).ah),((a2_1.ix (1:Int)).getD 1 .any)]] [] fun r11 o11=>NS r11<|.test (ae r11.ah==ae (mk [108])) (NG a0_1 2 2<|NE (a0_1.ix (2:Int))<|NG ((a2_1.ix (1:Int)).getD 1 .any) 1 2<|NE (((a2_1.ix (1:Int)).getD 1 .any).ix (1:Int))<|.call 79 [.agg [VS (((a0_1.ix (2:Int)).getD 0 .any).ah),((a0_1.ix (2:Int)).getD 1 .any)],VS a1,.agg [VS (((((a2_1.ix (1:Int)).getD 1 .any).ix (1:Int)).getD 0 .any).ah),((((a2_1.ix (1:Int)).getD 1 .any).ix (1:Int)).getD 1 .any)],.agg [VS a3_0,a3_1]] [] fun r12 o12=>NA r12<|.call 78 [VS (mk [102]),.sl [[VS ((r12.cs.getD 0 .any).ah),(r12.cs.getD 1 .any)]]] [] fun r13 o13=>NA r13<|.done 0 [.agg [VS ((r13.cs.getD 0 .any).ah),(r13.cs.getD 1 .any)]] []) (NG ((a2_1.ix (1:Int)).getD 1 .any) 1 2<|NE (((a2_1.ix (1:Int)).getD 1 .any).ix (1:Int))<|NG ((((a2_1.ix (1:Int)).getD 1 .any).ix (1:Int)).getD 1 .any) 2 2<|NE (((((a2_1.ix (1:Int)).getD 1 .any).ix (1:Int)).getD 1 .any).ix (2:Int))<|.call 79 [.agg [VS a0_0,a0_1],VS a1,.agg [VS (((((((a2_1.ix (1:Int)).getD 1 .any).ix (1:Int)).getD 1 .any).ix (2:Int)).getD 0 .any).ah),((((((a2_1.ix (1:Int)).getD 1 .any).ix (1:Int)).getD 1 .any).ix (2:Int)).getD 1 .any)],.agg [VS a3_0,a3_1]] [] fun r14 o14=>NA r14<|NG a0_1 2 2<|NE (a0_1.ix (2:Int))<|NG a0_1 1 2<|kK (a0_1.ix (1:Int))<|NG ((((a2_1.ix (1:Int)).getD 1 .any).ix (1:Int)).getD 1 .any) 1 2<|NE (((((a2_1.ix (1:Int)).getD 1 .any).ix (1:Int)).getD 1 .any).ix (1:Int))<|.call 79 [.agg [VS (((a0_1.ix (2:Int)).getD 0 .any).ah),((a0_1.ix (2:Int)).getD 1 .any)],VS (((a0_1.ix (1:Int)).hA).ah),.agg [VS (((((((a2_1.ix (1:Int)).getD 1 .any).ix (1:Int)).getD 1 .any).ix (1:Int)).getD 0 .any).ah),((((((a2_1.ix (1:Int)).getD 1 .any).ix (1:Int)).getD 1 .any).ix (1:Int)).getD 1 .any)],.agg [VS ((r14.cs.getD 0 .any).ah),(r14.cs.getD 1 .any)]] [] fun r15 o15=>NA r15<|.call 78 [VS (mk [102]),.sl [[VS ((r15.cs.getD 0 .any).ah),(r15.cs.getD 1 .any)]]] [] fun r16 o16=>NA r16<|.done 0 [.agg [VS ((r16.cs.getD 0 .any).ah),(r16.cs.getD 1 .any)]] []))))))
theorem Tr(a0_0:ByteArray)(a0_1:AV)(a1:ByteArray)(a2_0:ByteArray)(a2_1:AV)(a3_0:ByteArray)(a3_1:AV)(ha0_1:LK.has .sl a0_1)(ha2_1:LK.has .sl a2_1)(ha3_1:LK.has .sl a3_1)(h:di 132 (EE a0_0 a0_1 a1 a2_0 a2_1 a3_0 a3_1) R):ap Tryz.prog 79 [.agg [VS a0_0,a0_1],VS a1,.agg [VS a2_0,a2_1],.agg [VS a3_0,a3_1]] [] R :=
 uQ (ag (ca (ag (aw _) (ag (bJ ha0_1) aA))) (ag (aw _) (ag (ca (ag (aw _) (ag (bJ ha2_1) aA))) (ag (ca (ag (aw _) (ag (bJ ha3_1) aA))) aA)))) (oQ [] Tryz.f79 h)
def JE(a0_0:AV)(a0_1:Int)(a1:AV):Tree :=
 NL a1<|.call 29 [.ref 0 0,VI (a1.aJ.length:Int)] [.cells [a0_0,VI a0_1]] fun r1 o1=>.aj ((o1.hO)=.cells (o1.hO).cs)<|.aj (aM [.lk .sl,.lk (.int .i64)] ((o1.hO).cs) 0 1 o1.tail)<|NI r1<|.aj (LK.has .sl a1/\0<=r1.toInt/\r1.toInt<a1.aJ.length/\(a1.aJ.getD r1.toInt.toNat []).length=1)<|kK (a1.aJ.getD r1.toInt.toNat [])<|.done 0 [VS (((a1.aJ.getD r1.toInt.toNat []).hA).ah)] [.cells [((o1.hO).cs.getD 0 .any),VI (((o1.hO).cs.getD 1 .any).toInt)]]
theorem Tv(a0_0:AV)(a0_1:Int)(a1:AV)(ha1:LK.has .sl a1)(ha0_0:LK.has .sl a0_0)(h:di 12 (JE a0_0 a0_1 a1) R):ap Tryz.prog 80 [.ref 0 0,a1] [.cells [a0_0,VI a0_1]] R :=
 ap.nE (bA (cd (ag (bJ ha0_0) (ag (aw _) aA))) cz) (ap.up (ag (aw _) (ag (bJ ha1) aA)) (oF [] {mu:=[(0,.one (.obj [.lk .sl,.lk (.int .i64)]))],own:=[]} Tryz.f80 h))
def La(a0_0:AV)(a0_1:Int):Tree :=
 .call 29 [.ref 0 0,VI 8] [.cells [a0_0,VI a0_1]] fun r1 o1=>.aj ((o1.hO)=.cells (o1.hO).cs)<|.aj (aM [.lk .sl,.lk (.int .i64)] ((o1.hO).cs) 0 1 o1.tail)<|NI r1<|.test (r1.toInt==(0:Int)) (.call 106 [.ref 0 0] [.cells [((o1.hO).cs.getD 0 .any),VI (((o1.hO).cs.getD 1 .any).toInt)]] fun r2 o2=>.aj ((o2.hO)=.cells (o2.hO).cs)<|.aj (aM [.lk .sl,.lk (.int .i64)] ((o2.hO).cs) 0 1 o2.tail)<|NS r2<|.done 0 [VS r2.ah] [.cells [((o2.hO).cs.getD 0 .any),VI (((o2.hO).cs.getD 1 .any).toInt)]]) (.test (r1.toInt==(1:Int)) (.call 107 [.ref 0 0,.sl [],VI 3] [.cells [((o1.hO).cs.getD 0 .any),VI (((o1.hO).cs.getD 1 .any).toInt)]] fun r3 o3=>.aj ((o3.hO)=.cells (o3.hO).cs)<|.aj (aM [.lk .sl,.lk (.int .i64)] ((o3.hO).cs) 0 1 o3.tail)<|NS r3<|.done 0 [VS r3.ah] [.cells [((o3.hO).cs.getD 0 .any),VI (((o3.hO).cs.getD 1 .any).toInt)]]) (.test (r1.toInt==(2:Int)) (.call 107 [.ref 0 0,.sl [],VI 3] [.cells [((o1.hO).cs.getD 0 .any),VI (((o1.hO).cs.getD 1 .any).toInt)]] fun r4 o4=>.aj ((o4.hO)=.cells (o4.hO).cs)<|.aj (aM [.lk .sl,.lk (.int .i64)] ((o4.hO).cs) 0 1 o4.tail)<|NS r4<|.done 0 [VS r4.ah] [.cells [((o4.hO).cs.getD 0 .any),VI (((o4.hO).cs.getD 1 .any).toInt)]]) (.test (r1.toInt==(3:Int)) (.call 107 [.ref 0 0,.sl [],VI 3] [.cells [((o1.hO).cs.getD 0 .any),VI (((o1.hO).cs.getD 1 .any).toInt)]] fun r5 o5=>.aj ((o5.hO)=.cells (o5.hO).cs)<|.aj (aM [.lk .sl,.lk (.int .i64)] ((o5.hO).cs) 0 1 o5.tail)<|NS r5<|.done 0 [VS r5.ah] [.cells [((o5.hO).cs.getD 0 .any),VI (((o5.hO).cs.getD 1 .any).toInt)]]) (.call 50 [.ref 0 0] [.cells [((o1.hO).cs.getD 0 .any),VI (((o1.hO).cs.getD 1 .any).toInt)]] fun r6 o6=>.aj ((o6.hO)=.cells (o6.hO).cs)<|.aj (aM [.lk .sl,.lk (.int .i64)] ((o6.hO).cs) 0 1 o6.tail)<|NS r6<|.done 0 [VS r6.ah] [.cells [((o6.hO).cs.getD 0 .any),VI (((o6.hO).cs.getD 1 .any).toInt)]]))))
theorem Sy(a0_0:AV)(a0_1:Int)(ha0_0:LK.has .sl a0_0)(h:di 18 (La a0_0 a0_1) R):ap Tryz.prog 81 [.ref 0 0] [.cells [a0_0,VI a0_1]] R :=
 ap.nE (bA (cd (ag (bJ ha0_0) (ag (aw _) aA))) cz) (ap.up (ag (aw _) aA) (oF [] {mu:=[(0,.one (.obj [.lk .sl,.lk (.int .i64)]))],own:=[]} Tryz.f81 h))
def BU(a0_0:AV)(a0_1:Int)(a1_0:ByteArray)(a1_1:AV)(a2:Int):Tree :=
 .call 71 [.agg [VS a1_0,a1_1]] [] fun r1 o1=>NS r1<|.test (ae r1.ah==ae (mk [43])) (.call 29 [.ref 0 0,VI 2] [.cells [a0_0,VI a0_1]] fun r2 o2=>.aj ((o2.hO)=.cells (o2.hO).cs)<|.aj (aM [.lk .sl,.lk (.int .i64)] ((o2.hO).cs) 0 1 o2.tail)<|NI r2<|NG a1_1 1 2<|NE (a1_1.ix (1:Int))<|.call 108 [.agg [VS (((a1_1.ix (1:Int)).getD 0 .any).ah),((a1_1.ix (1:Int)).getD 1 .any)],.sl []] [] fun r3 o3=>NB r3<|.test r3.toBool (.test ((1:Int)==(0:Int)) (NG a1_1 1 2<|NE (a1_1.ix (1:Int))<|.call 82 [.ref 0 0,.agg [VS (((a1_1.ix (1:Int)).getD 0 .any).ah),((a1_1.ix (1:Int)).getD 1 .any)],VI (IntKind.wrap .i64 (a2-1))] [.cells [((o2.hO).cs.getD 0 .any),VI (((o2.hO).cs.getD 1 .any).toInt)]] fun r4 o4=>.aj ((o4.hO)=.cells (o4.hO).cs)<|.aj (aM [.lk .sl,.lk (.int .i64)] ((o4.hO).cs) 0 1 o4.tail)<|NA r4<|.call 78 [VS (mk [108]),.sl [[VS ((r4.cs.getD 0 .any).ah),(r4.cs.getD 1 .any)]]] [] fun r5 o5=>NA r5<|.done 0 [.agg [VS ((r5.cs.getD 0 .any).ah),(r5.cs.getD 1 .any)]] [.cells [((o4.hO).cs.getD 0 .any),VI (((o4.hO).cs.getD 1 .any).toInt)]]) (NG a1_1 2 2<|NE (a1_1.ix (2:Int))<|.call 82 [.ref 0 0,.agg [VS (((a1_1.ix (2:Int)).getD 0 .any).ah),((a1_1.ix (2:Int)).getD 1 .any)],VI (IntKind.wrap .i64 (a2-1))] [.cells [((o2.hO).cs.getD 0 .any),VI (((o2.hO).cs.getD 1 .any).toInt)]] fun r6 o6=>.aj ((o6.hO)=.cells (o6.hO).cs)<|.aj (aM [.lk .sl,.lk (.int .i64)] ((o6.hO).cs) 0 1 o6.tail)<|NA r6<|.call 78 [VS (mk [114]),.sl [[VS ((r6.cs.getD 0 .any).ah),(r6.cs.getD 1 .any)]]] [] fun r7 o7=>NA r7<|.done 0 [.agg [VS ((r7.cs.getD 0 .any).ah),(r7.cs.getD 1 .any)]] [.cells [((o6.hO).cs.getD 0 .any),VI (((o6.hO).cs.getD 1 .any).toInt)]])) (.test (decide (a2<=(0:Int))) (NG a1_1 1 2<|NE (a1_1.ix (1:Int))<|.call 109 [.agg [VS (((a1_1.ix (1:Int)).getD 0 .any).ah),((a1_1.ix (1:Int)).getD 1 .any)]] [] fun r8 o8=>NI r8<|NG a1_1 2 2<|NE (a1_1.ix (2:Int))<|.call 109 [.agg [VS (((a1_1.ix (2:Int)).getD 0 .any).ah),((a1_1.ix (2:Int)).getD 1 .any)]] [] fun r9 o9=>NI r9<|.test (decide (r8.toInt>r9.toInt)) (NG a1_1 2 2<|NE (a1_1.ix (2:Int))<|.call 108 [.agg [VS (((a1_1.ix (2:Int)).getD 0 .any).ah),((a1_1.ix (2:Int)).getD 1 .any)],.sl []] [] fun r10 o10=>NB r10<|.test (!r10.toBool) (.test ((1:Int)==(0:Int)) (NG a1_1 1 2<|NE (a1_1.ix (1:Int))<|.call 82 [.ref 0 0,.agg [VS (((a1_1.ix (1:Int)).getD 0 .any).ah),((a1_1.ix (1:Int)).getD 1 .any)],VI (IntKind.wrap .i64 (a2-1))] [.cells [((o2.hO).cs.getD 0 .any),VI (((o2.hO).cs.getD 1 .any).toInt)]] fun r11 o11=>.aj ((o11.hO)=.cells (o11.hO).cs)<|.aj (aM [.lk .sl,.lk (.int .i64)] ((o11.hO).cs) 0 1 o11.tail)<|NA r11<|.call 78 [VS (mk [108]),.sl [[VS ((r11.cs.getD 0 .any).ah),(r11.cs.getD 1 .any)]]] [] fun r12 o12=>NA r12<|.done 0 [.agg [VS ((r12.cs.getD 0 .any).ah),(r12.cs.getD 1 .any)]] [.cells [((o11.hO).cs.getD 0 .any),VI (((o11.hO).cs.getD 1 .any).toInt)]]) (NG a1_1 2 2<|NE (a1_1.ix (2:Int))<|.call 82 [.ref 0 0,.agg [VS (((a1_1.ix (2:Int)).getD 0 .any).ah),((a1_1.ix (2:Int)).getD 1 .any)],VI (IntKind.wrap .i64 (a2-1))] [.cells [((o2.hO).cs.getD 0 .any),VI (((o2.hO).cs.getD 1 .any).toInt)]] fun r13 o13=>.aj ((o13.hO)=.cells (o13.hO).cs)<|.aj (aM [.lk .sl,.lk (.int .i64)] ((o13.hO).cs) 0 1 o13.tail)<|NA r13<|.call 78 [VS (mk [114]),.sl [[VS ((r13.cs.getD 0 .any).ah),(r13.cs.getD 1 .any)]]] [] fun r14 o14=>NA r14<|.done 0 [.agg [VS ((r14.cs.getD 0 .any).ah),(r14.cs.getD 1 .any)]] [.cells [((o13.hO).cs.getD 0 .any),VI (((o13.hO).cs.getD 1 .any).toInt)]])) (NG a1_1 2 2<|NE (a1_1.ix (2:Int))<|.call 108 [.agg [VS (((a1_1.ix (2:Int)).getD 0 .any).ah),((a1_1.ix (2:Int)).getD 1 .any)],.sl []] [] fun r15 o15=>NB r15<|.test r15.toBool (.test ((0:Int)==(0:Int)) (NG a1_1 1 2<|NE (a1_1.ix (1:Int))<|.call 82 [.ref 0 0,.agg [VS (((a1_1.ix (1:Int)).getD 0 .any).ah),((a1_1.ix (1:Int)).getD 1 .any)],VI (IntKind.wrap .i64 (a2-1))] [.cells [((o2.hO).cs.getD 0 .any),VI (((o2.hO).cs.getD 1 .any).toInt)]] fun r16 o16=>.aj ((o16.hO)=.cells (o16.hO).cs)<|.aj (aM [.lk .sl,.lk (.int .i64)] ((o16.hO).cs) 0 1 o16.tail)<|NA r16<|.call 78 [VS (mk [108]),.sl [[VS ((r16.cs.getD 0 .any).ah),(r16.cs.getD 1 .any)]]] [] fun r17 o17=>NA r17<|.done 0 [.agg [VS ((r17.cs.getD 0 .any).ah),(r17.cs.getD 1 .any)]] [.cells [((o16.hO).cs.getD 0 .any),VI (((o16.hO).cs.getD 1 .any).toInt)]]) (NG a1_1 2 2<|NE (a1_1.ix (2:Int))<|.call 82 [.ref 0 0,.agg [VS (((a1_1.ix (2:Int)).getD 0 .any).ah),((a1_1.ix (2:Int)).getD 1 .any)],VI (IntKind.wrap .i64 (a2-1))] [.cells [((o2.hO).cs.getD 0 .any),VI (((o2.hO).cs.getD 1 .any).toInt)]] fun r18 o18=>.aj ((o18.hO)=.cells (o18.hO).cs)<|.aj (aM [.lk .sl,.lk (.int .i64)] ((o18.hO).cs) 0 1 o18.tail)<|NA r18<|.call 78 [VS (mk [114]),.sl [[VS ((r18.cs.getD 0 .any).ah),(r18.cs.getD 1 .any)]]] [] fun r19 o19=>NA r19<|.done 0 [.agg [VS ((r19.cs.getD 0 .any).ah),(r19.cs.getD 1 .any)]] [.cells [((o18.hO).cs.getD 0 .any),VI (((o18.hO).cs.getD 1 .any).toInt)]])) (.test (decide (a2<=(0:Int))) (.test ((0:Int)==(0:Int)) (NG a1_1 1 2<|NE (a1_1.ix (1:Int))<|.call 82 [.ref 0 0,.agg [VS (((a1_1.ix (1:Int)).getD 0 .any).ah),((a1_1.ix (1:Int)).getD 1 .any)],VI (IntKind.wrap .i64 (a2-1))] [.cells [((o2.hO).cs.getD 0 .any),VI (((o2.hO).cs.getD 1 .any).toInt)]] fun r20 o20=>.aj ((o20.hO)=.cells (o20.hO).cs)<|.aj (aM [.lk .sl,.lk (.int .i64)] ((o20.hO).cs) 0 1 o20.tail)<|NA r20<|.call 78 [VS (mk [108]),.sl [[VS ((r20.cs.getD 0 .any).ah),(r20.cs.getD 1 .any)]]] [] fun r21 o21=>NA r21<|.done 0 [.agg [VS ((r21.cs.getD 0 .any).ah),(r21.cs.getD 1 .any)]] [.cells [((o20.hO).cs.getD 0 .any),VI (((o20.hO).cs.getD 1 .any).toInt)]]) (NG a1_1 2 2<|NE (a1_1.ix (2:Int))<|.call 82 [.ref 0 0,.agg [VS (((a1_1.ix (2:Int)).getD 0 .any).ah),((a1_1.ix (2:Int)).getD 1 .any)],VI (IntKind.wrap .i64 (a2-1))] [.cells [((o2.hO).cs.getD 0 .any),VI (((o2.hO).cs.getD 1 .any).toInt)]] fun r22 o22=>.aj ((o22.hO)=.cells (o22.hO).cs)<|.aj (aM [.lk .sl,.lk (.int .i64)] ((o22.hO).cs) 0 1 o22.tail)<|NA r22<|.call 78 [VS (mk [114]),.sl [[VS ((r22.cs.getD 0 .any).ah),(r22.cs.getD 1 .any)]]] [] fun r23 o23=>NA r23<|.done 0 [.agg [VS ((r23.cs.getD 0 .any).ah),(r23.cs.getD 1 .any)]] [.cells [((o22.hO).cs.getD 0 .any),VI (((o22.hO).cs.getD 1 .any).toInt)]])) (.test (r2.toInt==(0:Int)) (NG a1_1 1 2<|NE (a1_1.ix (1:Int))<|.call 82 [.ref 0 0,.agg [VS (((a1_1.ix (1:Int)).getD 0 .any).ah),((a1_1.ix (1:Int)).getD 1 .any)],VI (IntKind.wrap .i64 (a2-1))] [.cells [((o2.hO).cs.getD 0 .any),VI (((o2.hO).cs.getD 1 .any).toInt)]] fun r24 o24=>.aj ((o24.hO)=.cells (o24.hO).cs)<|.aj (aM [.lk .sl,.lk (.int .i64)] ((o24.hO).cs) 0 1 o24.tail)<|NA r24<|.call 78 [VS (mk [108]),.sl [[VS ((r24.cs.getD 0 .any).ah),(r24.cs.getD 1 .any)]]] [] fun r25 o25=>NA r25<|.done 0 [.agg [VS ((r25.cs.getD 0 .any).ah),(r25.cs.getD 1 .any)]] [.cells [((o24.hO).cs.getD 0 .any),VI (((o24.hO).cs.getD 1 .any).toInt)]]) (NG a1_1 2 2<|NE (a1_1.ix (2:Int))<|.call 82 [.ref 0 0,.agg [VS (((a1_1.ix (2:Int)).getD 0 .any).ah),((a1_1.ix (2:Int)).getD 1 .any)],VI (IntKind.wrap .i64 (a2-1))] [.cells [((o2.hO).cs.getD 0 .any),VI (((o2.hO).cs.getD 1 .any).toInt)]] fun r26 o26=>.aj ((o26.hO)=.cells (o26.hO).cs)<|.aj (aM [.lk .sl,.lk (.int .i64)] ((o26.hO).cs) 0 1 o26.tail)<|NA r26<|.call 78 [VS (mk [114]),.sl [[VS ((r26.cs.getD 0 .any).ah),(r26.cs.getD 1 .any)]]] [] fun r27 o27=>NA r27<|.done 0 [.agg [VS ((r27.cs.getD 0 .any).ah),(r27.cs.getD 1 .any)]] [.cells [((o26.hO).cs.getD 0 .any),VI (((o26.hO).cs.getD 1 .any).toInt)]]))))) (NG a1_1 2 2<|NE (a1_1.ix (2:Int))<|.call 108 [.agg [VS (((a1_1.ix (2:Int)).getD 0 .any).ah),((a1_1.ix (2:Int)).getD 1 .any)],.sl []] [] fun r28 o28=>NB r28<|.test r28.toBool (.test ((0:Int)==(0:Int)) (NG a1_1 1 2<|NE (a1_1.ix (1:Int))<|.call 82 [.ref 0 0,.agg [VS (((a1_1.ix (1:Int)).getD 0 .any).ah),((a1_1.ix (1:Int)).getD 1 .any)],VI (IntKind.wrap .i64 (a2-1))] [.cells [((o2.hO).cs.getD 0 .any),VI (((o2.hO).cs.getD 1 .any).toInt)]] fun r29 o29=>.aj ((o29.hO)=.cells (o29.hO).cs)<|.aj (aM [.lk .sl,.lk (.int .i64)] ((o29.hO).cs) 0 1 o29.tail)<|NA r29<|.call 78 [VS (mk [108]),.sl [[VS ((r29.cs.getD 0 .any).ah),(r29.cs.getD 1 .any)]]] [] fun r30 o30=>NA r30<|.done 0 [.agg [VS ((r30.cs.getD 0 .any).ah),(r30.cs.getD 1 .any)]] [.cells [((o29.hO).cs.getD 0 .any),VI (((o29.hO).cs.getD 1 .any).toInt)]]) (NG a1_1 2 2<|NE (a1_1.ix (2:Int))<|.call 82 [.ref 0 0,.agg [VS (((a1_1.ix (2:Int)).getD 0 .any).ah),((a1_1.ix (2:Int)).getD 1 .any)],VI (IntKind.wrap .i64 (a2-1))] [.cells [((o2.hO).cs.getD 0 .any),VI (((o2.hO).cs.getD 1 .any).toInt)]] fun r31 o31=>.aj ((o31.hO)=.cells (o31.hO).cs)<|.aj (aM [.lk .sl,.lk (.int .i64)] ((o31.hO).cs) 0 1 o31.tail)<|NA r31<|.call 78 [VS (mk [114]),.sl [[VS ((r31.cs.getD 0 .any).ah),(r31.cs.getD 1 .any)]]] [] fun r32 o32=>NA r32<|.done 0 [.agg [VS ((r32.cs.getD 0 .any).ah),(r32.cs.getD 1 .any)]] [.cells [((o31.hO).cs.getD 0 .any),VI (((o31.hO).cs.getD 1 .any).toInt)]])) (.test (decide (a2<=(0:Int))) (.test ((0:Int)==(0:Int)) (NG a1_1 1 2<|NE (a1_1.ix (1:Int))<|.call 82 [.ref 0 0,.agg [VS (((a1_1.ix (1:Int)).getD 0 .any).ah),((a1_1.ix (1:Int)).getD 1 .any)],VI (IntKind.wrap .i64 (a2-1))] [.cells [((o2.hO).cs.getD 0 .any),VI (((o2.hO).cs.getD 1 .any).toInt)]] fun r33 o33=>.aj ((o33.hO)=.cells (o33.hO).cs)<|.aj (aM [.lk .sl,.lk (.int .i64)] ((o33.hO).cs) 0 1 o33.tail)<|NA r33<|.call 78 [VS (mk [108]),.sl [[VS ((r33.cs.getD 0 .any).ah),(r33.cs.getD 1 .any)]]] [] fun r34 o34=>NA r34<|.done 0 [.agg [VS ((r34.cs.getD 0 .any).ah),(r34.cs.getD 1 .any)]] [.cells [((o33.hO).cs.getD 0 .any),VI (((o33.hO).cs.getD 1 .any).toInt)]]) (NG a1_1 2 2<|NE (a1_1.ix (2:Int))<|.call 82 [.ref 0 0,.agg [VS (((a1_1.ix (2:Int)).getD 0 .any).ah),((a1_1.ix (2:Int)).getD 1 .any)],VI (IntKind.wrap .i64 (a2-1))] [.cells [((o2.hO).cs.getD 0 .any),VI (((o2.hO).cs.getD 1 .any).toInt)]] fun r35 o35=>.aj ((o35.hO)=.cells (o35.hO).cs)<|.aj (aM [.lk .sl,.lk (.int .i64)] ((o35.hO).cs) 0 1 o35.tail)<|NA r35<|.call 78 [VS (mk [114]),.sl [[VS ((r35.cs.getD 0 .any).ah),(r35.cs.getD 1 .any)]]] [] fun r36 o36=>NA r36<|.done 0 [.agg [VS ((r36.cs.getD 0 .any).ah),(r36.cs.getD 1 .any)]] [.cells [((o35.hO).cs.getD 0 .any),VI (((o35.hO).cs.getD 1 .any).toInt)]])) (.test (r2.toInt==(0:Int)) (NG a1_1 1 2<|NE (a1_1.ix (1:Int))<|.call 82 [.ref 0 0,.agg [VS (((a1_1.ix (1:Int)).getD 0 .any).ah),((a1_1.ix (1:Int)).getD 1 .any)],VI (IntKind.wrap .i64 (a2-1))] [.cells [((o2.hO).cs.getD 0 .any),VI (((o2.hO).cs.getD 1 .any).toInt)]] fun r37 o37=>.aj ((o37.hO)=.cells (o37.hO).cs)<|.aj (aM [.lk .sl,.lk (.int .i64)] ((o37.hO).cs) 0 1 o37.tail)<|NA r37<|.call 78 [VS (mk [108]),.sl [[VS ((r37.cs.getD 0 .any).ah),(r37.cs.getD 1 .any)]]] [] fun r38 o38=>NA r38<|.done 0 [.agg [VS ((r38.cs.getD 0 .any).ah),(r38.cs.getD 1 .any)]] [.cells [((o37.hO).cs.getD 0 .any),VI (((o37.hO).cs.getD 1 .any).toInt)]]) (NG a1_1 2 2<|NE (a1_1.ix (2:Int))<|.call 82 [.ref 0 0,.agg [VS (((a1_1.ix (2:Int)).getD 0 .any).ah),((a1_1.ix (2:Int)).getD 1 .any)],VI (IntKind.wrap .i64 (a2-1))] [.cells [((o2.hO).cs.getD 0 .any),VI (((o2.hO).cs.getD 1 .any).toInt)]] fun r39 o39=>.aj ((o39.hO)=.cells (o39.hO).cs)<|.aj (aM [.lk .sl,.lk (.int .i64)] ((o39.hO).cs) 0 1 o39.tail)<|NA r39<|.call 78 [VS (mk [114]),.sl [[VS ((r39.cs.getD 0 .any).ah),(r39.cs.getD 1 .any)]]] [] fun r40 o40=>NA r40<|.done 0 [.agg [VS ((r40.cs.getD 0 .any).ah),(r40.cs.getD 1 .any)]] [.cells [((o39.hO).cs.getD 0 .any),VI (((o39.hO).cs.getD 1 .any).toInt)]]))))) (NG a1_1 2 2<|NE (a1_1.ix (2:Int))<|.call 108 [.agg [VS (((a1_1.ix (2:Int)).getD 0 .any).ah),((a1_1.ix (2:Int)).getD 1 .any)],.sl []] [] fun r41 o41=>NB r41<|.test r41.toBool (.test ((0:Int)==(0:Int)) (NG a1_1 1 2<|NE (a1_1.ix (1:Int))<|.call 82 [.ref 0 0,.agg [VS (((a1_1.ix (1:Int)).getD 0 .any).ah),((a1_1.ix (1:Int)).getD 1 .any)],VI (IntKind.wrap .i64 (a2-1))] [.cells [((o2.hO).cs.getD 0 .any),VI (((o2.hO).cs.getD 1 .any).toInt)]] fun r42 o42=>.aj ((o42.hO)=.cells (o42.hO).cs)<|.aj (aM [.lk .sl,.lk (.int .i64)] ((o42.hO).cs) 0 1 o42.tail)<|NA r42<|.call 78 [VS (mk [108]),.sl [[VS ((r42.cs.getD 0 .any).ah),(r42.cs.getD 1 .any)]]] [] fun r43 o43=>NA r43<|.done 0 [.agg [VS ((r43.cs.getD 0 .any).ah),(r43.cs.getD 1 .any)]] [.cells [((o42.hO).cs.getD 0 .any),VI (((o42.hO).cs.getD 1 .any).toInt)]]) (NG a1_1 2 2<|NE (a1_1.ix (2:Int))<|.call 82 [.ref 0 0,.agg [VS (((a1_1.ix (2:Int)).getD 0 .any).ah),((a1_1.ix (2:Int)).getD 1 .any)],VI (IntKind.wrap .i64 (a2-1))] [.cells [((o2.hO).cs.getD 0 .any),VI (((o2.hO).cs.getD 1 .any).toInt)]] fun r44 o44=>.aj ((o44.hO)=.cells (o44.hO).cs)<|.aj (aM [.lk .sl,.lk (.int .i64)] ((o44.hO).cs) 0 1 o44.tail)<|NA r44<|.call 78 [VS (mk [114]),.sl [[VS ((r44.cs.getD 0 .any).ah),(r44.cs.getD 1 .any)]]] [] fun r45 o45=>NA r45<|.done 0 [.agg [VS ((r45.cs.getD 0 .any).ah),(r45.cs.getD 1 .any)]] [.cells [((o44.hO).cs.getD 0 .any),VI (((o44.hO).cs.getD 1 .any).toInt)]])) (.test (decide (a2<=(0:Int))) (.test ((0:Int)==(0:Int)) (NG a1_1 1 2<|NE (a1_1.ix (1:Int))<|.call 82 [.ref 0 0,.agg [VS (((a1_1.ix (1:Int)).getD 0 .any).ah),((a1_1.ix (1:Int)).getD 1 .any)],VI (IntKind.wrap .i64 (a2-1))] [.cells [((o2.hO).cs.getD 0 .any),VI (((o2.hO).cs.getD 1 .any).toInt)]] fun r46 o46=>.aj ((o46.hO)=.cells (o46.hO).cs)<|.aj (aM [.lk .sl,.lk (.int .i64)] ((o46.hO).cs) 0 1 o46.tail)<|NA r46<|.call 78 [VS (mk [108]),.sl [[VS ((r46.cs.getD 0 .any).ah),(r46.cs.getD 1 .any)]]] [] fun r47 o47=>NA r47<|.done 0 [.agg [VS ((r47.cs.getD 0 .any).ah),(r47.cs.getD 1 .any)]] [.cells [((o46.hO).cs.getD 0 .any),VI (((o46.hO).cs.getD 1 .any).toInt)]]) (NG a1_1 2 2<|NE (a1_1.ix (2:Int))<|.call 82 [.ref 0 0,.agg [VS (((a1_1.ix (2:Int)).getD 0 .any).ah),((a1_1.ix (2:Int)).getD 1 .any)],VI (IntKind.wrap .i64 (a2-1))] [.cells [((o2.hO).cs.getD 0 .any),VI (((o2.hO).cs.getD 1 .any).toInt)]] fun r48 o48=>.aj ((o48.hO)=.cells (o48.hO).cs)<|.aj (aM [.lk .sl,.lk (.int .i64)] ((o48.hO).cs) 0 1 o48.tail)<|NA r48<|.call 78 [VS (mk [114]),.sl [[VS ((r48.cs.getD 0 .any).ah),(r48.cs.getD 1 .any)]]] [] fun r49 o49=>NA r49<|.done 0 [.agg [VS ((r49.cs.getD 0 .any).ah),(r49.cs.getD 1 .any)]] [.cells [((o48.hO).cs.getD 0 .any),VI (((o48.hO).cs.getD 1 .any).toInt)]])) (.test (r2.toInt==(0:Int)) (NG a1_1 1 2<|NE (a1_1.ix (1:Int))<|.call 82 [.ref 0 0,.agg [VS (((a1_1.ix (1:Int)).getD 0 .any).ah),((a1_1.ix (1:Int)).getD 1 .any)],VI (IntKind.wrap .i64 (a2-1))] [.cells [((o2.hO).cs.getD 0 .any),VI (((o2.hO).cs.getD 1 .any).toInt)]] fun r50 o50=>.aj ((o50.hO)=.cells (o50.hO).cs)<|.aj (aM [.lk .sl,.lk (.int .i64)] ((o50.hO).cs) 0 1 o50.tail)<|NA r50<|.call 78 [VS (mk [108]),.sl [[VS ((r50.cs.getD 0 .any).ah),(r50.cs.getD 1 .any)]]] [] fun r51 o51=>NA r51<|.done 0 [.agg [VS ((r51.cs.getD 0 .any).ah),(r51.cs.getD 1 .any)]] [.cells [((o50.hO).cs.getD 0 .any),VI (((o50.hO).cs.getD 1 .any).toInt)]]) (NG a1_1 2 2<|NE (a1_1.ix (2:Int))<|.call 82 [.ref 0 0,.agg [VS (((a1_1.ix (2:Int)).getD 0 .any).ah),((a1_1.ix (2:Int)).getD 1 .any)],VI (IntKind.wrap .i64 (a2-1))] [.cells [((o2.hO).cs.getD 0 .any),VI (((o2.hO).cs.getD 1 .any).toInt)]] fun r52 o52=>.aj ((o52.hO)=.cells (o52.hO).cs)<|.aj (aM [.lk .sl,.lk (.int .i64)] ((o52.hO).cs) 0 1 o52.tail)<|NA r52<|.call 78 [VS (mk [114]),.sl [[VS ((r52.cs.getD 0 .any).ah),(r52.cs.getD 1 .any)]]] [] fun r53 o53=>NA r53<|.done 0 [.agg [VS ((r53.cs.getD 0 .any).ah),(r53.cs.getD 1 .any)]] [.cells [((o52.hO).cs.getD 0 .any),VI (((o52.hO).cs.getD 1 .any).toInt)]])))))) (.test (ae r1.ah==ae (mk [42])) (NG a1_1 1 2<|NE (a1_1.ix (1:Int))<|.call 82 [.ref 0 0,.agg [VS (((a1_1.ix (1:Int)).getD 0 .any).ah),((a1_1.ix (1:Int)).getD 1 .any)],VI (IntKind.wrap .i64 (a2-1))] [.cells [a0_0,VI a0_1]] fun r54 o54=>.aj ((o54.hO)=.cells (o54.hO).cs)<|.aj (aM [.lk .sl,.lk (.int .i64)] ((o54.hO).cs) 0 1 o54.tail)<|NA r54<|NG a1_1 2 2<|NE (a1_1.ix (2:Int))<|.call 82 [.ref 0 0,.agg [VS (((a1_1.ix (2:Int)).getD 0 .any).ah),((a1_1.ix (2:Int)).getD 1 .any)],VI (IntKind.wrap .i64 (a2-1))] [.cells [((o54.hO).cs.getD 0 .any),VI (((o54.hO).cs.getD 1 .any).toInt)]] fun r55 o55=>.aj ((o55.hO)=.cells (o55.hO).cs)<|.aj (aM [.lk .sl,.lk (.int .i64)] ((o55.hO).cs) 0 1 o55.tail)<|NA r55<|.call 78 [VS (mk [112]),.sl [[VS ((r54.cs.getD 0 .any).ah),(r54.cs.getD 1 .any)],[VS ((r55.cs.getD 0 .any).ah),(r55.cs.getD 1 .any)]]] [] fun r56 o56=>NA r56<|.done 0 [.agg [VS ((r56.cs.getD 0 .any).ah),(r56.cs.getD 1 .any)]] [.cells [((o55.hO).cs.getD 0 .any),VI (((o55.hO).cs.getD 1 .any).toInt)]]) (.test (ae r1.ah==ae (mk [114,101,99])) (.call 110 [.agg [VS a1_0,a1_1]] [] fun r57 o57=>NT r57<|.aj ((r57.comp 0)=.agg (r57.comp 0).cs/\(r57.comp 0).cs.length=2/\bz [.str,.sl] ((r57.comp 0).cs) 0)<|NB (r57.comp 1)<|.test (!((r57.comp 1).toBool)) (.done 0 [.agg [VS (mk [117]),.v (.slice none 0 0)]] [.cells [a0_0,VI a0_1]]) (.test (decide (a2<((-12):Int))) (.done 0 [.agg [VS (mk [117]),.v (.slice none 0 0)]] [.cells [a0_0,VI a0_1]]) (.call 82 [.ref 0 0,.agg [VS (((r57.comp 0).cs.getD 0 .any).ah),((r57.comp 0).cs.getD 1 .any)],VI (IntKind.wrap .i64 (a2-1))] [.cells [a0_0,VI a0_1]] fun r58 o58=>.aj ((o58.hO)=.cells (o58.hO).cs)<|.aj (aM [.lk .sl,.lk (.int .i64)] ((o58.hO).cs) 0 1 o58.tail)<|NA r58<|.call 78 [VS (mk [102]),.sl [[VS ((r58.cs.getD 0 .any).ah),(r58.cs.getD 1 .any)]]] [] fun r59 o59=>NA r59<|.done 0 [.agg [VS ((r59.cs.getD 0 .any).ah),(r59.cs.getD 1 .any)]] [.cells [((o58.hO).cs.getD 0 .any),VI (((o58.hO).cs.getD 1 .any).toInt)]]))) (.test (ae a1_0==ae (mk [49])) (.done 0 [.agg [VS (mk [117]),.v (.slice none 0 0)]] [.cells [a0_0,VI a0_1]]) (.call 29 [.ref 0 0,VI 3] [.cells [a0_0,VI a0_1]] fun r60 o60=>.aj ((o60.hO)=.cells (o60.hO).cs)<|.aj (aM [.lk .sl,.lk (.int .i64)] ((o60.hO).cs) 0 1 o60.tail)<|NI r60<|.call 111 [VI r60.toInt] [] fun r61 o61=>NS r61<|.aj (af (mk [101])+af r61.ah<=9223372036854775807)<|.done 0 [.agg [VS (((mk [101]):ByteArray)++r61.ah),.v (.slice none 0 0)]] [.cells [((o60.hO).cs.getD 0 .any),VI (((o60.hO).cs.getD 1 .any).toInt)]]))))
theorem EK(a0_0:AV)(a0_1:Int)(a1_0:ByteArray)(a1_1:AV)(a2:Int)(ha1_1:LK.has .sl a1_1)(ha0_0:LK.has .sl a0_0)(h:di 132 (BU a0_0 a0_1 a1_0 a1_1 a2) R):ap Tryz.prog 82 [.ref 0 0,.agg [VS a1_0,a1_1],VI a2] [.cells [a0_0,VI a0_1]] R :=
 ap.nE (bA (cd (ag (bJ ha0_0) (ag (aw _) aA))) cz) (ap.up (ag (aw _) (ag (ca (ag (aw _) (ag (bJ ha1_1) aA))) (ag (aw _) aA))) (oF [] {mu:=[(0,.one (.obj [.lk .sl,.lk (.int .i64)]))],own:=[]} Tryz.f82 h))
def Jf:LI:={hd:={bL:=[(1,.k .sl),(6,.k (.int .i64))],refs:=[(2,2),(4,4)],ck:=[(2,[.lk .str,.lk .sl]),(4,[.lk .str,.lk .sl])],eA:=[(5,1)]},xs:={refs:=[(2,2),(4,4)],ck:=[(2,[.lk .str,.lk .sl]),(4,[.lk .str,.lk .sl])],eA:=[(5,1)]},rt:={},ex:=0}
def Mf:Code:=cC (cw Tryz.f83) 3
def MF:List (Nat×LI):=[(3,Jf)]
def NW(a0_0:ByteArray)(a0_1:AV)(a1:AV):Tree :=
 .call 98 [.agg [VS a0_0,a0_1],.sl [],.vec 0] [.vec 1 []] fun r1 o1=>.aj (r1=.vec 1/\(o1.tail.hO)=.vec 1 (o1.tail.hO).es)<|.loop Mf Jf [a1,VI 0] [.cells [VS a0_0,a0_1],.cells [VS (mk []),.v (.slice none 0 0)],.vec 1 ((o1.tail.hO).es)] (fun y3 q3=>.aj ((q3.hO)=.cells (q3.hO).cs)<|.aj (ac [.lk .str,.lk .sl] ((q3.hO).cs) 0 q3.tail)<|.aj (((q3.tail.drop 0).hO)=.cells ((q3.tail.drop 0).hO).cs)<|.aj (ac [.lk .str,.lk .sl] (((q3.tail.drop 0).hO).cs) 0 ((q3.tail.drop 0).tail))<|.aj (((q3.drop 2).hO)=.vec 1 ((q3.drop 2).hO).es)<|.call 112 [.agg [VS (((q3.hO).cs.getD 0 .any).ah),((q3.hO).cs.getD 1 .any)],.sl [],.sl [],.ref 0 0] [.cells [.vec 1,VI 0],.vec 1 ((q3.tail.tail.hO).es)] fun r4 o4=>.aj ((o4.hO)=.cells (o4.hO).cs)<|.aj (aM [.vec 1,.lk (.int .i64)] ((o4.hO).cs) 0 1 o4.tail)<|NA r4<|.done 0 [.agg [VS ((r4.cs.getD 0 .any).ah),(r4.cs.getD 1 .any)]] []) (fun y3 q3=>.fail)
theorem Rg(a0_0:ByteArray)(a0_1:AV)(a1:AV)(ha0_1:LK.has .sl a0_1)(ha1:LK.has .sl a1)(h:di 33 (NW a0_0 a0_1 a1) R):ap Tryz.prog 83 [.agg [VS a0_0,a0_1],a1] [] R :=
 uQ (ag (ca (ag (aw _) (ag (bJ ha0_1) aA))) (ag (bJ ha1) aA)) (oQ MF Tryz.f83 h)
def Gi(x1:AV)(x6:Int)(o2_0:ByteArray)(o2_1:AV)(o4_0:ByteArray)(o4_1:AV)(e5:List (List AV)):Tree :=
 NL x1<|NI (VI x6)<|.aj (Ob.cells [VS o2_0,o2_1]=.cells [VS o2_0,o2_1])<|.aj (ac [.lk .str,.lk .sl] [VS o2_0,o2_1] 0 [.cells [VS o4_0,o4_1],.vec 1 e5])<|.aj (Ob.cells [VS o4_0,o4_1]=.cells [VS o4_0,o4_1])<|.aj (ac [.lk .str,.lk .sl] [VS o4_0,o4_1] 0 [.vec 1 e5])<|.aj (Ob.vec 1 e5=.vec 1 e5)<|NL x1<|.test (decide (x6<(x1.aJ.length:Int))) (NG x1 x6 2<|NE (x1.ix x6)<|.call 98 [.agg [VS (((x1.ix x6).getD 0 .any).ah),((x1.ix x6).getD 1 .any)],.sl [],.vec 0] [.vec 1 []] fun r1 o1=>.aj (r1=.vec 1/\(o1.tail.hO)=.vec 1 (o1.tail.hO).es)<|.aj (cr 1 ((o1.tail.hO).es)/\((e5.length)+((o1.tail.hO).es).length)*16<=140737488355328)<|.done 0 [x1,VI (IntKind.wrap .i64 (x6+1))] [.cells [VS o2_0,o2_1],.cells [VS o4_0,o4_1],.vec 1 (e5++((o1.tail.hO).es))]) (.done 1 [] [.cells [VS o2_0,o2_1],.cells [VS o4_0,o4_1],.vec 1 e5])
abbrev Iy:=cy Tryz.prog 33 Mf Jf
theorem Pq(x1:AV)(x6:Int)(o2_0:ByteArray)(o2_1:AV)(o4_0:ByteArray)(o4_1:AV)(e5:List (List AV))(h:jx 33 (Gi x1 x6 o2_0 o2_1 o4_0 o4_1 e5) Iy U):Iy [x1,VI x6] [.cells [VS o2_0,o2_1],.cells [VS o4_0,o4_1],.vec 1 e5] U :=
 gQ MF h
def Mh(a0:ByteArray):Tree :=
 .call 113 [VS a0] [] fun r1 o1=>NP r1<|NP r1<|.test r1.isNil (.done 0 [.v (.pointer none)] []) (.call 114 [r1,.v (.slice none 0 0)] [] fun r2 o2=>NP r2<|NP r2<|.test r2.isNil (.done 0 [.v (.pointer none)] []) (.call 115 [r2] [] fun r3 o3=>NI r3<|.test (decide (r3.toInt>(400:Int))) (.done 0 [.v (.pointer none)] []) (.done 0 [r2] [])))
theorem Rf(a0:ByteArray)(h:di 19 (Mh a0) R):ap Tryz.prog 84 [VS a0] [] R :=
 uQ (ag (aw _) aA) (oQ [] Tryz.f84 h)
def My(a0:AV):Tree :=
 .call 116 [.ref 0 0] [.cells [VI 0,VB false]] fun r1 o1=>.aj ((o1.hO)=.cells (o1.hO).cs)<|.aj (aM [.lk (.int .i64),.lk .bool] ((o1.hO).cs) 0 1 o1.tail)<|NS r1<|NZ a0<|NZ a0<|dR (a0.deref.drop 3)<|.call 119 [((a0.deref.drop 3).hA),.ptr [.v (.int .u8 110),VS r1.ah,VI 0,.v (.pointer none),.v (.pointer none)],VI 0] [] fun r2 o2=>NP r2<|.call 118 [.ref 0 0,r2,VS r1.ah] [.cells [VI (((o1.hO).cs.getD 0 .any).toInt),VB (((o1.hO).cs.getD 1 .any).toBool)]] fun r3 o3=>.aj ((o3.hO)=.cells (o3.hO).cs)<|.aj (aM [.lk (.int .i64),.lk .bool] ((o3.hO).cs) 0 1 o3.tail)<|NP r3<|.call 117 [.ref 0 0,r3] [.cells [VI (((o3.hO).cs.getD 0 .any).toInt),VB (((o3.hO).cs.getD 1 .any).toBool)]] fun r4 o4=>.aj ((o4.hO)=.cells (o4.hO).cs)<|.aj (aM [.lk (.int .i64),.lk .bool] ((o4.hO).cs) 0 1 o4.tail)<|NP r4<|.test (((o4.hO).cs.getD 1 .any).toBool) (.done 0 [.cA [.v (.pointer none),VB false]] []) (.call 120 [r4,VS r1.ah,a0] [] fun r5 o5=>NP r5<|.call 117 [.ref 0 0,r5] [.cells [VI (((o4.hO).cs.getD 0 .any).toInt),VB (((o4.hO).cs.getD 1 .any).toBool)]] fun r6 o6=>.aj ((o6.hO)=.cells (o6.hO).cs)<|.aj (aM [.lk (.int .i64),.lk .bool] ((o6.hO).cs) 0 1 o6.tail)<|NP r6<|.done 0 [.cA [r6,VB (!(((o6.hO).cs.getD 1 .any).toBool))]] [])
theorem TB(a0:AV)(ha0:LK.has .ptr a0)(h:di 40 (My a0) R):ap Tryz.prog 85 [a0] [] R :=
 uQ (ag (bD ha0) aA) (oQ [] Tryz.f85 h)
def OM(a0:AV):Tree :=
 .call 115 [a0] [] fun r1 o1=>NI r1<|.test (decide (r1.toInt>(400:Int))) (.done 0 [.cA [VS (mk []),VB false]] []) (.call 121 [a0] [] fun r2 o2=>NS r2<|.call 84 [VS r2.ah] [] fun r3 o3=>NP r3<|NP r3<|.test r3.isNil (.done 0 [.cA [VS (mk []),VB false]] []) (.done 0 [.cA [VS r2.ah,VB true]] []))
theorem SC(a0:AV)(ha0:LK.has .ptr a0)(h:di 14 (OM a0) R):ap Tryz.prog 86 [a0] [] R :=
 uQ (ag (bD ha0) aA) (oQ [] Tryz.f86 h)
def NY(a0:ByteArray):Tree :=
 .call 84 [VS a0] [] fun r1 o1=>NP r1<|NP r1<|.test r1.isNil (.done 0 [.v (.pointer none)] []) (.call 122 [r1] [] fun r2 o2=>NB r2<|.test (!r2.toBool) (.done 0 [.v (.pointer none)] []) (.done 0 [r1] []))
theorem SB(a0:ByteArray)(h:di 14 (NY a0) R):ap Tryz.prog 87 [VS a0] [] R :=
 uQ (ag (aw _) aA) (oQ [] Tryz.f87 h)
def PN(a0:ByteArray):Tree :=
 .call 113 [VS a0] [] fun r1 o1=>NP r1<|NP r1<|.test r1.isNil (.done 0 [.v (.pointer none)] []) (.call 123 [r1] [] fun r2 o2=>NP r2<|NP r2<|.test r2.isNil (.done 0 [.v (.pointer none)] []) (.call 56 [r2] [] fun r3 o3=>NI r3<|.test (decide (r3.toInt>(200:Int))) (.done 0 [.v (.pointer none)] []) (.done 0 [r2] [])))
theorem TG(a0:ByteArray)(h:di 19 (PN a0) R):ap Tryz.prog 88 [VS a0] [] R :=
 uQ (ag (aw _) aA) (oQ [] Tryz.f88 h)
def A0(a0_0:AV)(a0_1:AV)(a1:AV)(a2:Int):Tree :=
 NZ a0_0<|NZ a0_0<|.aj (LK.has (.int .u8) (a0_0.deref.hA)/\1<=a0_0.deref.length)<|.test (((a0_0.deref.hA).toInt)==(49:Int)) (NZ a1<|NZ a1<|.aj (LK.has (.int .u8) (a1.deref.hA)/\1<=a1.deref.length)<|.done 0 [VB (((a1.deref.hA).toInt)==(117:Int))] []) (.test (((a0_0.deref.hA).toInt)==(110:Int)) (NZ a1<|NZ a1<|.aj (LK.has (.int .u8) (a1.deref.hA)/\1<=a1.deref.length)<|.test (((a1.deref.hA).toInt) != (101:Int)) (.done 0 [VB false] []) (NZ a1<|NZ a1<|kK (a1.deref.drop 1)<|.aj (0<=(1:Int)/\(1:Int)<=(af (((a1.deref.drop 1).hA).ah):Int)/\(af (((a1.deref.drop 1).hA).ah):Int)<=(af (((a1.deref.drop 1).hA).ah):Int))<|.call 124 [VS (cm (((a1.deref.drop 1).hA).ah) (bM 1) (bM (af (((a1.deref.drop 1).hA).ah):Int)))] [] fun r1 o1=>NT r1<|NI (r1.comp 0)<|.aj (LK.has .kz (r1.comp 1))<|.done 0 [VB (decide (((r1.comp 0).toInt)<a2))] [])) (.test (((a0_0.deref.hA).toInt)==(98:Int)) (.call 125 [.agg [a0_0,a0_1]] [] fun r2 o2=>NP r2<|NZ r2<|NZ r2<|.aj (bz [.ptr,.ptr] r2.deref 0/\2<=r2.deref.length)<|.call 89 [.agg [(r2.deref.getD 0 .any),(r2.deref.getD 1 .any)],a1,VI a2] [] fun r3 o3=>NB r3<|.done 0 [VB r3.toBool] []) (.test (((a0_0.deref.hA).toInt)==(43:Int)) (NZ a1<|NZ a1<|.aj (LK.has (.int .u8) (a1.deref.hA)/\1<=a1.deref.length)<|.test (((a1.deref.hA).toInt)==(108:Int)) (.call 126 [.agg [a0_0,a0_1]] [] fun r4 o4=>.aj (r4=.agg r4.cs/\r4.cs.length=2/\bz [.ptr,.ptr] r4.cs 0)<|NZ a1<|NZ a1<|dR (a1.deref.drop 2)<|.call 89 [.agg [(r4.cs.getD 0 .any),(r4.cs.getD 1 .any)],((a1.deref.drop 2).hA),VI a2] [] fun r5 o5=>NB r5<|.test r5.toBool (.done 0 [VB true] []) (NZ a1<|NZ a1<|.aj (LK.has (.int .u8) (a1.deref.hA)/\1<=a1.deref.length)<|.test (((a1.deref.hA).toInt)==(114:Int)) (.call 127 [.agg [a0_0,a0_1]] [] fun r6 o6=>.aj (r6=.agg r6.cs/\r6.cs.length=2/\bz [.ptr,.ptr] r6.cs 0)<|NZ a1<|NZ a1<|dR (a1.deref.drop 2)<|.call 89 [.agg [(r6.cs.getD 0 .any),(r6.cs.getD 1 .any)],((a1.deref.drop 2).hA),VI a2] [] fun r7 o7=>NB r7<|.done 0 [VB r7.toBool] []) (.done 0 [VB false] []))) (NZ a1<|NZ a1<|.aj (LK.has (.int .u8) (a1.deref.hA)/\1<=a1.deref.length)<|.test (((a1.deref.hA).toInt)==(114:Int)) (.call 127 [.agg [a0_0,a0_1]] [] fun r8 o8=>.aj (r8=.agg r8.cs/\r8.cs.length=2/\bz [.ptr,.ptr] r8.cs 0)<|NZ a1<|NZ a1<|dR (a1.deref.drop 2)<|.call 89 [.agg [(r8.cs.getD 0 .any),(r8.cs.getD 1 .any)],((a1.deref.drop 2).hA),VI a2] [] fun r9 o9=>NB r9<|.done 0 [VB r9.toBool] []) (.done 0 [VB false] []))) (.test (((a0_0.deref.hA).toInt)==(42:Int)) (NZ a1<|NZ a1<|.aj (LK.has (.int .u8) (a1.deref.hA)/\1<=a1.deref.length)<|.test (((a1.deref.hA).toInt)==(112:Int)) (.call 126 [.agg [a0_0,a0_1]] [] fun r10 o10=>.aj (r10=.agg r10.cs/\r10.cs.length=2/\bz [.ptr,.ptr] r10.cs 0)<|NZ a1<|NZ a1<|dR (a1.deref.drop 2)<|.call 89 [.agg [(r10.cs.getD 0 .any),(r10.cs.getD 1 .any)],((a1.deref.drop 2).hA),VI a2] [] fun r11 o11=>NB r11<|.test r11.toBool (.call 127 [.agg [a0_0,a0_1]] [] fun r12 o12=>.aj (r12=.agg r12.cs/\r12.cs.length=2/\bz [.ptr,.ptr] r12.cs 0)<|NZ a1<|NZ a1<|dR (a1.deref.drop 3)<|.call 89 [.agg [(r12.cs.getD 0 .any),(r12.cs.getD 1 .any)],((a1.deref.drop 3).hA),VI a2] [] fun r13 o13=>NB r13<|.done 0 [VB r13.toBool] []) (.done 0 [VB false] [])) (.done 0 [VB false] [])) (.test (((a0_0.deref.hA).toInt)==(114:Int)) (.call 90 [.agg [a0_0,a0_1]] [] fun r14 o14=>NT r14<|.aj ((r14.comp 0)=.agg (r14.comp 0).cs/\(r14.comp 0).cs.length=2/\bz [.ptr,.ptr] ((r14.comp 0).cs) 0)<|NP (r14.comp 1)<|NZ a1<|NZ a1<|.aj (LK.has (.int .u8) (a1.deref.hA)/\1<=a1.deref.length)<|.test (((a1.deref.hA).toInt)==(102:Int)) (NZ a1<|NZ a1<|dR (a1.deref.drop 2)<|.call 89 [.agg [((r14.comp 0).cs.getD 0 .any),((r14.comp 0).cs.getD 1 .any)],((a1.deref.drop 2).hA),VI a2] [] fun r15 o15=>NB r15<|.done 0 [VB r15.toBool] []) (.done 0 [VB false] [])) (.done 0 [VB false] []))))))
theorem PW(a0_0:AV)(a0_1:AV)(a1:AV)(a2:Int)(ha0_0:LK.has .ptr a0_0)(ha0_1:LK.has .ptr a0_1)(ha1:LK.has .ptr a1)(h:di 134 (A0 a0_0 a0_1 a1 a2) R):ap Tryz.prog 89 [.agg [a0_0,a0_1],a1,VI a2] [] R :=
 uQ (ag (ca (ag (bD ha0_0) (ag (bD ha0_1) aA))) (ag (bD ha1) (ag (aw _) aA))) (oQ [] Tryz.f89 h)
def Pw(a0_0:AV)(a0_1:AV):Tree :=
 NZ a0_0<|NZ a0_0<|dR (a0_0.deref.drop 3)<|.done 0 [.cA [.agg [((a0_0.deref.drop 3).hA),.ptr [.ptr [a0_0,a0_1],a0_1]],.ptr [a0_0,a0_1]]] []
theorem SA(a0_0:AV)(a0_1:AV)(ha0_0:LK.has .ptr a0_0)(ha0_1:LK.has .ptr a0_1)(h:di 20 (Pw a0_0 a0_1) R):ap Tryz.prog 90 [.agg [a0_0,a0_1]] [] R :=
 uQ (ag (ca (ag (bD ha0_0) (ag (bD ha0_1) aA))) aA) (oQ [] Tryz.f90 h)
def GU:LI:={hd:={bL:=[(97,.k .sl),(98,.k (.int .i64)),(99,.k (.int .i64))],refs:=[(3,3),(5,5),(7,7)],ck:=[(3,[.lk .ptr,.lk .ptr]),(5,[.lk .str,.lk .ptr]),(7,[.vec 2])],AW:=[(8,129,[7])]},xs:={refs:=[(7,7)],ck:=[(7,[.vec 2])]},rt:={},ex:=1}
def OD:Code:=cC (cw Tryz.f91) 18
def NN:List (Nat×LI):=[(18,GU)]
def Oy(a0_0:AV)(a0_1:AV)(a1:AV)(a2_0:ByteArray)(a2_1:AV):Tree :=
 .call 128 [.agg [VS a2_0,a2_1],.agg [a0_0,a0_1]] [] fun r1 o1=>NB r1<|.test r1.toBool (.done 0 [.sl [[.ptr [.v (.int .u8 117),VS (mk []),.v (.pointer none),.v (.pointer none)],a1]]] []) (NZ a0_0<|NZ a0_0<|.aj (LK.has (.int .u8) (a0_0.deref.hA)/\1<=a0_0.deref.length)<|.test (((a0_0.deref.hA).toInt)==(43:Int)) (.call 126 [.agg [a0_0,a0_1]] [] fun r2 o2=>.aj (r2=.agg r2.cs/\r2.cs.length=2/\bz [.ptr,.ptr] r2.cs 0)<|NZ a1<|NZ a1<|.aj (LK.has (.int .u8) (a1.deref.hA)/\1<=a1.deref.length)<|.test (((a1.deref.hA).toInt)==(114:Int)) (.call 127 [.agg [a0_0,a0_1]] [] fun r3 o3=>.aj (r3=.agg r3.cs/\r3.cs.length=2/\bz [.ptr,.ptr] r3.cs 0)<|NZ a1<|NZ a1<|dR (a1.deref.drop 2)<|.call 91 [.agg [(r3.cs.getD 0 .any),(r3.cs.getD 1 .any)],((a1.deref.drop 2).hA),.agg [VS a2_0,a2_1]] [] fun r4 o4=>NL r4<|.call 129 [r4,.fn 130 [.ref 0 0],.ref 1 0] [.cells [a1],.cells [.vec 2],.vec 2 []] fun r5 o5=>.aj ((o5.hO)=.cells (o5.hO).cs)<|.aj (aM [.lk .ptr] ((o5.hO).cs) 0 1 o5.tail)<|.aj ((o5.tail.hO)=.cells (o5.tail.hO).cs)<|.aj (aM [.vec 2] ((o5.tail.hO).cs) 0 2 o5.tail.tail)<|.done 0 [.sl ((o5.tail.tail.hO).es)] []) (NZ a1<|NZ a1<|dR (a1.deref.drop 2)<|.call 91 [.agg [(r2.cs.getD 0 .any),(r2.cs.getD 1 .any)],((a1.deref.drop 2).hA),.agg [VS a2_0,a2_1]] [] fun r6 o6=>NL r6<|.call 129 [r6,.fn 130 [.ref 0 0],.ref 1 0] [.cells [a1],.cells [.vec 2],.vec 2 []] fun r7 o7=>.aj ((o7.hO)=.cells (o7.hO).cs)<|.aj (aM [.lk .ptr] ((o7.hO).cs) 0 1 o7.tail)<|.aj ((o7.tail.hO)=.cells (o7.tail.hO).cs)<|.aj (aM [.vec 2] ((o7.tail.hO).cs) 0 2 o7.tail.tail)<|.done 0 [.sl ((o7.tail.tail.hO).es)] [])) (.test (((a0_0.deref.hA).toInt)==(42:Int)) (.call 126 [.agg [a0_0,a0_1]] [] fun r8 o8=>.aj (r8=.agg r8.cs/\r8.cs.length=2/\bz [.ptr,.ptr] r8.cs 0)<|NZ a1<|NZ a1<|dR (a1.deref.drop 2)<|.call 91 [.agg [(r8.cs.getD 0 .any),(r8.cs.getD 1 .any)],((a1.deref.drop 2).hA),.agg [VS a2_0,a2_1]] [] fun r9 o9=>NL r9<|.call 129 [r9,.fn 131 [.ref 0 0],.ref 1 0] [.cells [a1],.cells [.vec 2],.vec 2 []] fun r10 o10=>.aj ((o10.hO)=.cells (o10.hO).cs)<|.aj (aM [.lk .ptr] ((o10.hO).cs) 0 1 o10.tail)<|.aj ((o10.tail.hO)=.cells (o10.tail.hO).cs)<|.aj (aM [.vec 2] ((o10.tail.hO).cs) 0 2 o10.tail.tail)<|.call 127 [.agg [a0_0,a0_1]] [] fun r11 o11=>.aj (r11=.agg r11.cs/\r11.cs.length=2/\bz [.ptr,.ptr] r11.cs 0)<|NZ ((o10.hO).cs.getD 0 .any)<|NZ ((o10.hO).cs.getD 0 .any)<|dR (((o10.hO).cs.getD 0 .any).deref.drop 3)<|.call 91 [.agg [(r11.cs.getD 0 .any),(r11.cs.getD 1 .any)],((((o10.hO).cs.getD 0 .any).deref.drop 3).hA),.agg [VS a2_0,a2_1]] [] fun r12 o12=>NL r12<|.call 129 [r12,.fn 133 [.ref 0 0],.ref 1 0] [.cells [((o10.hO).cs.getD 0 .any)],.cells [.vec 2],.vec 2 ((o10.tail.tail.hO).es)] fun r13 o13=>.aj ((o13.hO)=.cells (o13.hO).cs)<|.aj (aM [.lk .ptr] ((o13.hO).cs) 0 1 o13.tail)<|.aj ((o13.tail.hO)=.cells (o13.tail.hO).cs)<|.aj (aM [.vec 2] ((o13.tail.hO).cs) 0 2 o13.tail.tail)<|.done 0 [.sl ((o13.tail.tail.hO).es)] []) (.test (((a0_0.deref.hA).toInt)==(114:Int)) (.call 90 [.agg [a0_0,a0_1]] [] fun r14 o14=>NT r14<|.aj ((r14.comp 0)=.agg (r14.comp 0).cs/\(r14.comp 0).cs.length=2/\bz [.ptr,.ptr] ((r14.comp 0).cs) 0)<|NP (r14.comp 1)<|NZ a1<|NZ a1<|dR (a1.deref.drop 2)<|.call 91 [.agg [((r14.comp 0).cs.getD 0 .any),((r14.comp 0).cs.getD 1 .any)],((a1.deref.drop 2).hA),.agg [VS a2_0,a2_1]] [] fun r15 o15=>NL r15<|.call 129 [r15,.v (.func (.func 134) #[] #[]),.ref 0 0] [.cells [.vec 1],.vec 2 []] fun r16 o16=>.aj ((o16.hO)=.cells (o16.hO).cs)<|.aj (aM [.vec 2] ((o16.hO).cs) 0 1 o16.tail)<|NZ a1<|NZ a1<|dR (a1.deref.drop 2)<|.call 91 [.agg [((r14.comp 0).cs.getD 0 .any),((r14.comp 0).cs.getD 1 .any)],((a1.deref.drop 2).hA),.agg [VS (mk []),(r14.comp 1)]] [] fun r17 o17=>NL r17<|NL r17<|.loop OD GU [r17,VI (r17.aJ.length:Int),VI 0] [.cells [a0_0,a0_1],.cells [VS a2_0,a2_1],.cells [.any],.vec 2 ((o16.tail.hO).es)] (fun y20 q20=>.aj ((q20.hO)=.cells (q20.hO).cs)<|.aj (ac [.vec 2] ((q20.hO).cs) 0 q20.tail)<|.done 0 [.sl ((q20.tail.hO).es)] []) (fun y20 q20=>.done 0 [.any] [])) (.done 0 [.sl []] []))))
theorem RT(a0_0:AV)(a0_1:AV)(a1:AV)(a2_0:ByteArray)(a2_1:AV)(ha0_0:LK.has .ptr a0_0)(ha0_1:LK.has .ptr a0_1)(ha1:LK.has .ptr a1)(ha2_1:LK.has .ptr a2_1)(h:di 113 (Oy a0_0 a0_1 a1 a2_0 a2_1) R):ap Tryz.prog 91 [.agg [a0_0,a0_1],a1,.agg [VS a2_0,a2_1]] [] R :=
 uQ (ag (ca (ag (bD ha0_0) (ag (bD ha0_1) aA))) (ag (bD ha1) (ag (ca (ag (aw _) (ag (bD ha2_1) aA))) aA))) (oQ NN Tryz.f91 h)
def IP(x97:AV)(x98:Int)(x99:Int)(o3_0:AV)(o3_1:AV)(o5_0:ByteArray)(o5_1:AV)(o7_0:List (List AV)):Tree :=
 NL x97<|NI (VI x98)<|NI (VI x99)<|.aj (Ob.cells [o3_0,o3_1]=.cells [o3_0,o3_1])<|.aj (ac [.lk .ptr,.lk .ptr] [o3_0,o3_1] 0 [.cells [VS o5_0,o5_1],.cells [.any],.vec 2 o7_0])<|.aj (Ob.cells [VS o5_0,o5_1]=.cells [VS o5_0,o5_1])<|.aj (ac [.lk .str,.lk .ptr] [VS o5_0,o5_1] 0 [.cells [.any],.vec 2 o7_0])<|.aj (Ob.cells [.any]=.cells [.any])<|.aj (ac [.vec 2] [.any] 0 [.vec 2 o7_0])<|.test (decide (x99<x98)) (NG x97 x99 2<|.aj (bz [.ptr,.ptr] (x97.ix x99) 0/\2<=(x97.ix x99).length)<|.call 91 [.agg [o3_0,o3_1],((x97.ix x99).getD 1 .any),.agg [VS o5_0,o5_1]] [] fun r1 o1=>NL r1<|.call 129 [r1,.fn 135 [.ref 0 0],.ref 1 0] [.cells [((x97.ix x99).getD 0 .any),((x97.ix x99).getD 1 .any)],.cells [.vec 2],.vec 2 o7_0] fun r2 o2=>.aj ((o2.hO)=.cells (o2.hO).cs)<|.aj (aM [.lk .ptr,.lk .ptr] ((o2.hO).cs) 0 1 o2.tail)<|.aj ((o2.tail.hO)=.cells (o2.tail.hO).cs)<|.aj (aM [.vec 2] ((o2.tail.hO).cs) 0 2 o2.tail.tail)<|.done 0 [x97,VI x98,VI (IntKind.wrap .i64 (x99+1))] [.cells [o3_0,o3_1],.cells [VS o5_0,o5_1],.cells [.any],.vec 2 ((o2.tail.tail.hO).es)]) (.done 1 [] [.cells [.any],.vec 2 o7_0])
abbrev Hj:=cy Tryz.prog 113 OD GU
theorem KZ(x97:AV)(x98:Int)(x99:Int)(o3_0:AV)(o3_1:AV)(o5_0:ByteArray)(o5_1:AV)(o7_0:List (List AV))(h:jx 113 (IP x97 x98 x99 o3_0 o3_1 o5_0 o5_1 o7_0) Hj U):Hj [x97,VI x98,VI x99] [.cells [o3_0,o3_1],.cells [VS o5_0,o5_1],.cells [.any],.vec 2 o7_0] U :=
 gQ NN h
def HR:LI:={hd:={bL:=[(3,.k .str),(7,.k (.int .i64))],refs:=[(1,1)],ck:=[(1,[.lk .str,.lk .sl,.lk .str])]},xs:={},rt:={bL:=[(2,.k .bool)]},ex:=0}
def MS:Code:=cC (cw Tryz.f92) 6
def PR:List (Nat×LI):=[(6,HR)]
def O9(a0_0:ByteArray)(a0_1:AV)(a0_2:ByteArray):Tree :=
 .call 136 [VS a0_0] [] fun r1 o1=>NT r1<|NS (r1.comp 0)<|NB (r1.comp 1)<|.call 45 [VS a0_0] [] fun r2 o2=>NT r2<|.aj ((r2.comp 0)=.agg (r2.comp 0).cs/\(r2.comp 0).cs.length=2/\bz [.str,.sl] ((r2.comp 0).cs) 0)<|NB (r2.comp 1)<|.test (!((r1.comp 1).toBool)) (.done 0 [VB false] []) (.test (!((r2.comp 1).toBool)) (.done 0 [VB false] []) (NL a0_1<|.test (decide ((a0_1.aJ.length:Int)>(50:Int))) (.done 0 [VB false] []) (.call 46 [VS a0_0,VS a0_2,VI 100] [] fun r3 o3=>NB r3<|.test (!r3.toBool) (.done 0 [VB false] []) (.loop MS HR [VS ((r1.comp 0).ah),VI 0] [.cells [VS a0_0,a0_1,VS a0_2]] (fun y5 q5=>.done 0 [VB true] []) (fun y5 q5=>NB (y5.hA)<|.done 0 [VB ((y5.hA).toBool)] [])))))
theorem QB(a0_0:ByteArray)(a0_1:AV)(a0_2:ByteArray)(ha0_1:LK.has .sl a0_1)(h:di 55 (O9 a0_0 a0_1 a0_2) R):ap Tryz.prog 92 [.agg [VS a0_0,a0_1,VS a0_2]] [] R :=
 uQ (ag (ca (ag (aw _) (ag (bJ ha0_1) (ag (aw _) aA)))) aA) (oQ PR Tryz.f92 h)
def Hq(x3:ByteArray)(x7:Int)(o1_0:ByteArray)(o1_1:AV)(o1_2:ByteArray):Tree :=
 NS (VS x3)<|NI (VI x7)<|.aj (Ob.cells [VS o1_0,o1_1,VS o1_2]=.cells [VS o1_0,o1_1,VS o1_2])<|.aj (ac [.lk .str,.lk .sl,.lk .str] [VS o1_0,o1_1,VS o1_2] 0 [])<|NL o1_1<|.test (decide (x7<(o1_1.aJ.length:Int))) (NG o1_1 x7 1<|kK (o1_1.ix x7)<|.call 46 [VS x3,VS (((o1_1.ix x7).hA).ah),VI 100] [] fun r1 o1=>NB r1<|.test (!r1.toBool) (.done 2 [VB false] []) (.done 0 [VS x3,VI (IntKind.wrap .i64 (x7+1))] [.cells [VS o1_0,o1_1,VS o1_2]])) (.done 1 [] [])
abbrev FK:=cy Tryz.prog 55 MS HR
theorem JA(x3:ByteArray)(x7:Int)(o1_0:ByteArray)(o1_1:AV)(o1_2:ByteArray)(h:jx 55 (Hq x3 x7 o1_0 o1_1 o1_2) FK U):FK [VS x3,VI x7] [.cells [VS o1_0,o1_1,VS o1_2]] U :=
 gQ PR h
def F6:LI:={hd:={refs:=[(1,1),(2,2)],ck:=[(1,[.lk .str,.lk .sl,.lk .str]),(2,[.lk .str,.lk .sl,.lk .str])]},xs:={refs:=[(1,1),(2,2)],ck:=[(1,[.lk .str,.lk .sl,.lk .str]),(2,[.lk .str,.lk .sl,.lk .str])]},rt:={bL:=[(3,.k .bool)],refs:=[(2,2)],ck:=[(2,[.lk .str,.lk .sl,.lk .str])]},ex:=0}
def LQ:Code:=cC (cw Tryz.f93) 1
def Md:List (Nat×LI):=[(1,F6)]
def L5(a0_0:ByteArray)(a0_1:AV)(a0_2:ByteArray):Tree :=
 .loop LQ F6 [] [.cells [VS a0_0,a0_1,VS a0_2],.cells [VS (mk []),.v (.slice none 0 0),VS (mk [])]] (fun y2 q2=>.aj ((q2.hO)=.cells (q2.hO).cs)<|.aj (ac [.lk .str,.lk .sl,.lk .str] ((q2.hO).cs) 0 q2.tail)<|.aj (((q2.tail.drop 0).hO)=.cells ((q2.tail.drop 0).hO).cs)<|.aj (ac [.lk .str,.lk .sl,.lk .str] (((q2.tail.drop 0).hO).cs) 0 ((q2.tail.drop 0).tail))<|.done 0 [.cA [.agg [VS (((q2.hO).cs.getD 0 .any).ah),((q2.hO).cs.getD 1 .any),VS (((q2.hO).cs.getD 2 .any).ah)],VB true]] []) (fun y2 q2=>NB (y2.hA)<|.aj ((q2.hO)=.cells (q2.hO).cs)<|.aj (ac [.lk .str,.lk .sl,.lk .str] ((q2.hO).cs) 0 q2.tail)<|.done 0 [.cA [.agg [VS (((q2.hO).cs.getD 0 .any).ah),((q2.hO).cs.getD 1 .any),VS (((q2.hO).cs.getD 2 .any).ah)],VB ((y2.hA).toBool)]] [])
theorem Sg(a0_0:ByteArray)(a0_1:AV)(a0_2:ByteArray)(ha0_1:LK.has .sl a0_1)(h:di 20 (L5 a0_0 a0_1 a0_2) R):ap Tryz.prog 93 [.agg [VS a0_0,a0_1,VS a0_2]] [] R :=
 uQ (ag (ca (ag (aw _) (ag (bJ ha0_1) (ag (aw _) aA)))) aA) (oQ Md Tryz.f93 h)
def HU(o1_0:ByteArray)(o1_1:AV)(o1_2:ByteArray)(o2_0:ByteArray)(o2_1:AV)(o2_2:ByteArray):Tree :=
 .aj (Ob.cells [VS o1_0,o1_1,VS o1_2]=.cells [VS o1_0,o1_1,VS o1_2])<|.aj (ac [.lk .str,.lk .sl,.lk .str] [VS o1_0,o1_1,VS o1_2] 0 [.cells [VS o2_0,o2_1,VS o2_2]])<|.aj (Ob.cells [VS o2_0,o2_1,VS o2_2]=.cells [VS o2_0,o2_1,VS o2_2])<|.aj (ac [.lk .str,.lk .sl,.lk .str] [VS o2_0,o2_1,VS o2_2] 0 [])<|NL o1_1<|.test (decide ((o1_1.aJ.length:Int)>(0:Int))) (.call 137 [.agg [VS o1_0,o1_1,VS o1_2]] [] fun r1 o1=>NT r1<|.aj ((r1.comp 0)=.agg (r1.comp 0).cs/\(r1.comp 0).cs.length=3/\bz [.str,.sl,.str] ((r1.comp 0).cs) 0)<|NB (r1.comp 1)<|.test (!((r1.comp 1).toBool)) (.done 2 [VB false] [.cells [VS o1_0,o1_1,VS o1_2]]) (.done 0 [] [.cells [VS (((r1.comp 0).cs.getD 0 .any).ah),((r1.comp 0).cs.getD 1 .any),VS (((r1.comp 0).cs.getD 2 .any).ah)],.cells [VS o2_0,o2_1,VS o2_2]])) (.done 1 [] [.cells [VS o1_0,o1_1,VS o1_2],.cells [VS o2_0,o2_1,VS o2_2]])
abbrev Hs:=cy Tryz.prog 20 LQ F6
theorem OS(o1_0:ByteArray)(o1_1:AV)(o1_2:ByteArray)(o2_0:ByteArray)(o2_1:AV)(o2_2:ByteArray)(h:jx 20 (HU o1_0 o1_1 o1_2 o2_0 o2_1 o2_2) Hs U):Hs [] [.cells [VS o1_0,o1_1,VS o1_2],.cells [VS o2_0,o2_1,VS o2_2]] U :=
 gQ Md h
def GN:LI:={hd:={bL:=[(0,.k .sl),(4,.k (.int .i64))],eA:=[(3,2)]},xs:={eA:=[(3,2)]},rt:={},ex:=0}
def Lv:Code:=cC (cw Tryz.f94) 3
def J4:List (Nat×LI):=[(3,GN)]
def Ll(a0:AV):Tree :=
 .loop Lv GN [a0,VI 0] [.vec 2 []] (fun y3 q3=>.aj (((q3.drop 0).hO)=.vec 2 ((q3.drop 0).hO).es)<|.done 0 [.sl ((q3.hO).es)] []) (fun y3 q3=>.done 0 [.any] [])
theorem Tl(a0:AV)(ha0:LK.has .sl a0)(h:di 29 (Ll a0) R):ap Tryz.prog 94 [a0] [] R :=
 uQ (ag (bJ ha0) aA) (oQ J4 Tryz.f94 h)
def IJ(x0:AV)(x4:Int)(e3:List (List AV)):Tree :=
 NL x0<|NI (VI x4)<|.aj (Ob.vec 2 e3=.vec 2 e3)<|NL x0<|.test (decide (x4<(x0.aJ.length:Int))) (NG x0 x4 4<|NE (x0.ix x4)<|.call 76 [.agg [VS (((x0.ix x4).getD 0 .any).ah),((x0.ix x4).getD 1 .any)]] [] fun r1 o1=>NS r1<|NG x0 x4 4<|NE ((x0.ix x4).drop 2)<|.call 76 [.agg [VS ((((x0.ix x4).drop 2).getD 0 .any).ah),(((x0.ix x4).drop 2).getD 1 .any)]] [] fun r2 o2=>NS r2<|.aj (cr 2 [[VS r1.ah,VS r2.ah]]/\((e3.length)+([[VS r1.ah,VS r2.ah]]:List (List AV)).length)*32<=140737488355328)<|.done 0 [x0,VI (IntKind.wrap .i64 (x4+1))] [.vec 2 (e3++([[VS r1.ah,VS r2.ah]]:List (List AV)))]) (.done 1 [] [.vec 2 e3])
abbrev IY:=cy Tryz.prog 29 Lv GN
theorem Py(x0:AV)(x4:Int)(e3:List (List AV))(h:jx 29 (IJ x0 x4 e3) IY U):IY [x0,VI x4] [.vec 2 e3] U :=
 gQ J4 h
def MY(a0:Int)(a1:AV):Tree :=
 .done 0 [.ptr [.v (.int .u8 a0),VS (mk []),a1,.v (.pointer none)]] []
theorem Sz(a0:Int)(a1:AV)(ha1:LK.has .ptr a1)(h:di 9 (MY a0 a1) R):ap Tryz.prog 95 [.v (.int .u8 a0),a1] [] R :=
 uQ (ag (aw _) (ag (bD ha1) aA)) (oQ [] Tryz.f95 h)
def CS(a0_0:AV)(a0_1:AV)(a1:AV)(a2_0:ByteArray)(a2_1:AV)(a3:AV):Tree :=
 NZ a0_0<|NZ a0_0<|.aj (LK.has (.int .u8) (a0_0.deref.hA)/\1<=a0_0.deref.length)<|.test (((a0_0.deref.hA).toInt)==(43:Int)) (.call 126 [.agg [a0_0,a0_1]] [] fun r1 o1=>.aj (r1=.agg r1.cs/\r1.cs.length=2/\bz [.ptr,.ptr] r1.cs 0)<|NZ a1<|NZ a1<|.aj (LK.has (.int .u8) (a1.deref.hA)/\1<=a1.deref.length)<|.test (((a1.deref.hA).toInt)==(114:Int)) (.call 127 [.agg [a0_0,a0_1]] [] fun r2 o2=>.aj (r2=.agg r2.cs/\r2.cs.length=2/\bz [.ptr,.ptr] r2.cs 0)<|NZ a1<|NZ a1<|.aj (LK.has (.int .u8) (a1.deref.hA)/\1<=a1.deref.length)<|NZ a1<|NZ a1<|dR (a1.deref.drop 2)<|.call 96 [.agg [(r2.cs.getD 0 .any),(r2.cs.getD 1 .any)],((a1.deref.drop 2).hA),.agg [VS a2_0,a2_1],a3] [] fun r3 o3=>NP r3<|.call 95 [.v (.int .u8 ((a1.deref.hA).toInt)),r3] [] fun r4 o4=>NP r4<|.done 0 [r4] []) (NZ a1<|NZ a1<|.aj (LK.has (.int .u8) (a1.deref.hA)/\1<=a1.deref.length)<|NZ a1<|NZ a1<|dR (a1.deref.drop 2)<|.call 96 [.agg [(r1.cs.getD 0 .any),(r1.cs.getD 1 .any)],((a1.deref.drop 2).hA),.agg [VS a2_0,a2_1],a3] [] fun r5 o5=>NP r5<|.call 95 [.v (.int .u8 ((a1.deref.hA).toInt)),r5] [] fun r6 o6=>NP r6<|.done 0 [r6] [])) (.test (((a0_0.deref.hA).toInt)==(42:Int)) (NZ a1<|NZ a1<|.aj (LK.has (.int .u8) (a1.deref.hA)/\1<=a1.deref.length)<|.test (((a1.deref.hA).toInt)==(108:Int)) (.call 126 [.agg [a0_0,a0_1]] [] fun r7 o7=>.aj (r7=.agg r7.cs/\r7.cs.length=2/\bz [.ptr,.ptr] r7.cs 0)<|NZ a1<|NZ a1<|dR (a1.deref.drop 2)<|NZ ((a1.deref.drop 2).hA)<|NZ ((a1.deref.drop 2).hA)<|dR (((a1.deref.drop 2).hA).deref.drop 2)<|.call 96 [.agg [(r7.cs.getD 0 .any),(r7.cs.getD 1 .any)],((((a1.deref.drop 2).hA).deref.drop 2).hA),.agg [VS a2_0,a2_1],a3] [] fun r8 o8=>NP r8<|NZ a1<|NZ a1<|dR (a1.deref.drop 2)<|NZ ((a1.deref.drop 2).hA)<|NZ ((a1.deref.drop 2).hA)<|dR (((a1.deref.drop 2).hA).deref.drop 3)<|.call 132 [r8,((((a1.deref.drop 2).hA).deref.drop 3).hA)] [] fun r9 o9=>NP r9<|.done 0 [r9] []) (NZ a1<|NZ a1<|dR (a1.deref.drop 2)<|NZ ((a1.deref.drop 2).hA)<|NZ ((a1.deref.drop 2).hA)<|dR (((a1.deref.drop 2).hA).deref.drop 2)<|.call 127 [.agg [a0_0,a0_1]] [] fun r10 o10=>.aj (r10=.agg r10.cs/\r10.cs.length=2/\bz [.ptr,.ptr] r10.cs 0)<|NZ a1<|NZ a1<|dR (a1.deref.drop 2)<|NZ ((a1.deref.drop 2).hA)<|NZ ((a1.deref.drop 2).hA)<|dR (((a1.deref.drop 2).hA).deref.drop 3)<|.call 96 [.agg [(r10.cs.getD 0 .any),(r10.cs.getD 1 .any)],((((a1.deref.drop 2).hA).deref.drop 3).hA),.agg [VS a2_0,a2_1],a3] [] fun r11 o11=>NP r11<|.call 132 [((((a1.deref.drop 2).hA).deref.drop 2).hA),r11] [] fun r12 o12=>NP r12<|.done 0 [r12] [])) (.test (((a0_0.deref.hA).toInt)==(114:Int)) (.call 90 [.agg [a0_0,a0_1]] [] fun r13 o13=>NT r13<|.aj ((r13.comp 0)=.agg (r13.comp 0).cs/\(r13.comp 0).cs.length=2/\bz [.ptr,.ptr] ((r13.comp 0).cs) 0)<|NP (r13.comp 1)<|NZ a1<|NZ a1<|dR (a1.deref.drop 2)<|NZ ((a1.deref.drop 2).hA)<|NZ ((a1.deref.drop 2).hA)<|.aj (LK.has (.int .u8) (((a1.deref.drop 2).hA).deref.hA)/\1<=(((a1.deref.drop 2).hA).deref).length)<|.test (((((a1.deref.drop 2).hA).deref.hA).toInt)==(108:Int)) (NZ a1<|NZ a1<|dR (a1.deref.drop 2)<|NZ ((a1.deref.drop 2).hA)<|NZ ((a1.deref.drop 2).hA)<|dR (((a1.deref.drop 2).hA).deref.drop 2)<|.call 96 [.agg [((r13.comp 0).cs.getD 0 .any),((r13.comp 0).cs.getD 1 .any)],((((a1.deref.drop 2).hA).deref.drop 2).hA),.agg [VS a2_0,a2_1],a3] [] fun r14 o14=>NP r14<|.call 95 [.v (.int .u8 102),r14] [] fun r15 o15=>NP r15<|.done 0 [r15] []) (NZ a1<|NZ a1<|dR (a1.deref.drop 2)<|NZ ((a1.deref.drop 2).hA)<|NZ ((a1.deref.drop 2).hA)<|dR (((a1.deref.drop 2).hA).deref.drop 2)<|NZ ((((a1.deref.drop 2).hA).deref.drop 2).hA)<|NZ ((((a1.deref.drop 2).hA).deref.drop 2).hA)<|dR (((((a1.deref.drop 2).hA).deref.drop 2).hA).deref.drop 3)<|.call 96 [.agg [a0_0,a0_1],((((((a1.deref.drop 2).hA).deref.drop 2).hA).deref.drop 3).hA),.agg [VS a2_0,a2_1],a3] [] fun r16 o16=>NP r16<|NZ a1<|NZ a1<|dR (a1.deref.drop 2)<|NZ ((a1.deref.drop 2).hA)<|NZ ((a1.deref.drop 2).hA)<|dR (((a1.deref.drop 2).hA).deref.drop 2)<|NZ ((((a1.deref.drop 2).hA).deref.drop 2).hA)<|NZ ((((a1.deref.drop 2).hA).deref.drop 2).hA)<|dR (((((a1.deref.drop 2).hA).deref.drop 2).hA).deref.drop 2)<|.call 96 [.agg [((r13.comp 0).cs.getD 0 .any),((r13.comp 0).cs.getD 1 .any)],((((((a1.deref.drop 2).hA).deref.drop 2).hA).deref.drop 2).hA),.agg [VS (mk []),(r13.comp 1)],r16] [] fun r17 o17=>NP r17<|.call 95 [.v (.int .u8 102),r17] [] fun r18 o18=>NP r18<|.done 0 [r18] [])) (.done 0 [a3] [])))
theorem SL(a0_0:AV)(a0_1:AV)(a1:AV)(a2_0:ByteArray)(a2_1:AV)(a3:AV)(ha0_0:LK.has .ptr a0_0)(ha0_1:LK.has .ptr a0_1)(ha1:LK.has .ptr a1)(ha2_1:LK.has .ptr a2_1)(ha3:LK.has .ptr a3)(h:di 147 (CS a0_0 a0_1 a1 a2_0 a2_1 a3) R):ap Tryz.prog 96 [.agg [a0_0,a0_1],a1,.agg [VS a2_0,a2_1],a3] [] R :=
 uQ (ag (ca (ag (bD ha0_0) (ag (bD ha0_1) aA))) (ag (bD ha1) (ag (ca (ag (aw _) (ag (bD ha2_1) aA))) (ag (bD ha3) aA)))) (oQ [] Tryz.f96 h)
def Kh(a0:ByteArray):Tree :=
 .call 73 [VS a0] [] fun r1 o1=>NT r1<|.aj ((r1.comp 0)=.agg (r1.comp 0).cs/\(r1.comp 0).cs.length=2/\bz [.str,.sl] ((r1.comp 0).cs) 0)<|NB (r1.comp 1)<|.test ((r1.comp 1).toBool) (.call 138 [.agg [VS (((r1.comp 0).cs.getD 0 .any).ah),((r1.comp 0).cs.getD 1 .any)]] [] fun r2 o2=>NB r2<|.test r2.toBool (.call 109 [.agg [VS (((r1.comp 0).cs.getD 0 .any).ah),((r1.comp 0).cs.getD 1 .any)]] [] fun r3 o3=>NI r3<|.done 0 [.cA [.agg [VS (((r1.comp 0).cs.getD 0 .any).ah),((r1.comp 0).cs.getD 1 .any)],VB (decide (r3.toInt<=(400:Int)))]] []) (.done 0 [.cA [.agg [VS (((r1.comp 0).cs.getD 0 .any).ah),((r1.comp 0).cs.getD 1 .any)],VB false]] [])) (.done 0 [.cA [.agg [VS (((r1.comp 0).cs.getD 0 .any).ah),((r1.comp 0).cs.getD 1 .any)],VB false]] [])
theorem RG(a0:ByteArray)(h:di 22 (Kh a0) R):ap Tryz.prog 97 [VS a0] [] R :=
 uQ (ag (aw _) aA) (oQ [] Tryz.f97 h)
def xq(a0_0:ByteArray)(a0_1:AV)(a1:AV)(e2:List (List AV)):Tree :=
 .test (!(ae a0_0==ae (mk []))) (.test (ae a0_0==ae (mk [48])) (.done 0 [.vec 1] [.dead,.vec 1 e2]) (.test (ae a0_0==ae (mk [49])) (.done 0 [.vec 1] [.dead,.vec 1 e2]) (.call 139 [a1,VS a0_0] [] fun r1 o1=>NB r1<|.test r1.toBool (.done 0 [.vec 1] [.dead,.vec 1 e2]) (.call 139 [.sl e2,VS a0_0] [] fun r2 o2=>NB r2<|.test r2.toBool (.done 0 [.vec 1] [.dead,.vec 1 e2]) (.aj (cr 1 [[VS a0_0]]/\((e2.length)+([[VS a0_0]]:List (List AV)).length)*16<=140737488355328)<|.done 0 [.vec 1] [.dead,.vec 1 (e2++([[VS a0_0]]:List (List AV)))]))))) (.call 71 [.agg [VS a0_0,a0_1]] [] fun r3 o3=>NS r3<|.test (ae r3.ah==ae (mk [114,101,99])) (NG a0_1 2 2<|NE (a0_1.ix (2:Int))<|NG a0_1 1 2<|kK (a0_1.ix (1:Int))<|.call 61 [a1,VS (((a0_1.ix (1:Int)).hA).ah)] [] fun r4 o4=>NL r4<|.call 98 [.agg [VS (((a0_1.ix (2:Int)).getD 0 .any).ah),((a0_1.ix (2:Int)).getD 1 .any)],r4,.vec 0] [.vec 1 e2] fun r5 o5=>.aj (r5=.vec 1/\(o5.tail.hO)=.vec 1 (o5.tail.hO).es)<|.done 0 [.vec 1] [.dead,.vec 1 ((o5.tail.hO).es)]) (NG a0_1 2 2<|NE (a0_1.ix (2:Int))<|NG a0_1 1 2<|NE (a0_1.ix (1:Int))<|.call 98 [.agg [VS (((a0_1.ix (1:Int)).getD 0 .any).ah),((a0_1.ix (1:Int)).getD 1 .any)],a1,.vec 0] [.vec 1 e2] fun r6 o6=>.aj (r6=.vec 1/\(o6.tail.hO)=.vec 1 (o6.tail.hO).es)<|.call 98 [.agg [VS (((a0_1.ix (2:Int)).getD 0 .any).ah),((a0_1.ix (2:Int)).getD 1 .any)],a1,.vec 0] [.vec 1 ((o6.tail.hO).es)] fun r7 o7=>.aj (r7=.vec 1/\(o7.tail.hO)=.vec 1 (o7.tail.hO).es)<|.done 0 [.vec 1] [.dead,.vec 1 ((o7.tail.hO).es)]))
theorem Ah(a0_0:ByteArray)(a0_1:AV)(a1:AV)(e2:List (List AV))(ha0_1:LK.has .sl a0_1)(ha1:LK.has .sl a1)(h:di 65 (xq a0_0 a0_1 a1 e2) R):ap Tryz.prog 98 [.agg [VS a0_0,a0_1],a1,.vec 0] [.vec 1 e2] R :=
 ap.nE (bA (fC _) cz) (ap.up (ag (ca (ag (aw _) (ag (bJ ha0_1) aA))) (ag (bJ ha1) (ag (aw _) aA))) (oF [] {mu:=[(2,.one (.vec))],own:=[0]} Tryz.f98 h))
def Nc(a0:ByteArray):Tree :=
 .call 140 [VS a0,.v (.int .u8 116),.v (.int .u8 116)] [] fun r1 o1=>NB r1<|.done 0 [VB r1.toBool] []
theorem Qy(a0:ByteArray)(h:di 5 (Nc a0) R):ap Tryz.prog 99 [VS a0] [] R :=
 uQ (ag (aw _) aA) (oQ [] Tryz.f99 h)
def Iv:LI:={hd:={bL:=[(1,.k .sl),(6,.k (.int .i64))],refs:=[(2,2),(4,4)],ck:=[(2,[.lk .str,.lk .sl]),(4,[.lk .str,.lk .sl])]},xs:={bL:=[(1,.k .sl)],refs:=[(2,2),(4,4)],ck:=[(2,[.lk .str,.lk .sl]),(4,[.lk .str,.lk .sl])]},rt:={bL:=[(5,.k .sl)],refs:=[(4,4)],ck:=[(4,[.lk .str,.lk .sl])]},ex:=0}
def O5:Code:=cC (cw Tryz.f100) 2
def PX:List (Nat×LI):=[(2,Iv)]
def MW(a0_0:ByteArray)(a0_1:AV)(a1:AV):Tree :=
 NL a1<|.loop O5 Iv [a1,VI (IntKind.wrap .i64 ((a1.aJ.length:Int)-1))] [.cells [VS a0_0,a0_1],.cells [VS (mk []),.v (.slice none 0 0)]] (fun y1 q1=>NL (y1.hA)<|.aj ((q1.hO)=.cells (q1.hO).cs)<|.aj (ac [.lk .str,.lk .sl] ((q1.hO).cs) 0 q1.tail)<|.aj (((q1.tail.drop 0).hO)=.cells ((q1.tail.drop 0).hO).cs)<|.aj (ac [.lk .str,.lk .sl] (((q1.tail.drop 0).hO).cs) 0 ((q1.tail.drop 0).tail))<|.done 0 [.cA [.agg [VS (((q1.hO).cs.getD 0 .any).ah),((q1.hO).cs.getD 1 .any)],(y1.hA)]] []) (fun y1 q1=>NL (y1.hA)<|.aj ((q1.hO)=.cells (q1.hO).cs)<|.aj (ac [.lk .str,.lk .sl] ((q1.hO).cs) 0 q1.tail)<|.done 0 [.cA [.agg [VS (((q1.hO).cs.getD 0 .any).ah),((q1.hO).cs.getD 1 .any)],(y1.hA)]] [])
theorem S9(a0_0:ByteArray)(a0_1:AV)(a1:AV)(ha0_1:LK.has .sl a0_1)(ha1:LK.has .sl a1)(h:di 34 (MW a0_0 a0_1 a1) R):ap Tryz.prog 100 [.agg [VS a0_0,a0_1],a1] [] R :=
 uQ (ag (ca (ag (aw _) (ag (bJ ha0_1) aA))) (ag (bJ ha1) aA)) (oQ PX Tryz.f100 h)
def HS(x1:AV)(x6:Int)(o2_0:ByteArray)(o2_1:AV)(o4_0:ByteArray)(o4_1:AV):Tree :=
 NL x1<|NI (VI x6)<|.aj (Ob.cells [VS o2_0,o2_1]=.cells [VS o2_0,o2_1])<|.aj (ac [.lk .str,.lk .sl] [VS o2_0,o2_1] 0 [.cells [VS o4_0,o4_1]])<|.aj (Ob.cells [VS o4_0,o4_1]=.cells [VS o4_0,o4_1])<|.aj (ac [.lk .str,.lk .sl] [VS o4_0,o4_1] 0 [])<|.test (decide (x6≥(0:Int))) (NG x1 x6 4<|kK (x1.ix x6)<|.test (ae (((x1.ix x6).hA).ah)==ae o2_0) (NG x1 x6 4<|NE ((x1.ix x6).drop 1)<|NG x1 x6 4<|mE ((x1.ix x6).drop 3)<|.done 2 [(((x1.ix x6).drop 3).hA)] [.cells [VS ((((x1.ix x6).drop 1).getD 0 .any).ah),(((x1.ix x6).drop 1).getD 1 .any)]]) (.done 0 [x1,VI (IntKind.wrap .i64 (x6-1))] [.cells [VS o2_0,o2_1],.cells [VS o4_0,o4_1]])) (.done 1 [x1] [.cells [VS o2_0,o2_1],.cells [VS o4_0,o4_1]])
abbrev F9:=cy Tryz.prog 34 O5 Iv
theorem Nu(x1:AV)(x6:Int)(o2_0:ByteArray)(o2_1:AV)(o4_0:ByteArray)(o4_1:AV)(h:jx 34 (HS x1 x6 o2_0 o2_1 o4_0 o4_1) F9 U):F9 [x1,VI x6] [.cells [VS o2_0,o2_1],.cells [VS o4_0,o4_1]] U :=
 gQ PX h
def L7(a0:ByteArray):Tree :=
 .call 140 [VS a0,.v (.int .u8 120),.v (.int .u8 122)] [] fun r1 o1=>NB r1<|.done 0 [VB r1.toBool] []
theorem Rx(a0:ByteArray)(h:di 5 (L7 a0) R):ap Tryz.prog 101 [VS a0] [] R :=
 uQ (ag (aw _) aA) (oQ [] Tryz.f101 h)
def Ba:LI:={hd:={bL:=[(0,.k .str),(3,.k (.int .i64)),(4,.k (.int .i64))]},xs:={bL:=[(3,.k (.int .i64))]},rt:={bL:=[(2,.k (.int .i64))]},ex:=0}
def El:Code:=cC (cw Tryz.f102) 5
def N7:List (Nat×LI):=[(5,Ba)]
def N0(a0:ByteArray):Tree :=
 .call 60 [VI (af a0:Int),VI 2,VI 3] [] fun r1 o1=>NB r1<|.test (!r1.toBool) (.done 0 [VI (-1)] []) (.aj (0<=(0:Int)/\(0:Int)<af a0)<|.test ((bt a0 0) != (101:Int)) (.done 0 [VI (-1)] []) (.test ((af a0:Int)==(3:Int)) (.aj (0<=(1:Int)/\(1:Int)<af a0)<|.test ((bt a0 1)==(48:Int)) (.done 0 [VI (-1)] []) (.loop El Ba [VS a0,VI 0,VI 1] [] (fun y2 q2=>NI (y2.hA)<|.done 0 [VI ((y2.hA).toInt)] []) (fun y2 q2=>NI (y2.hA)<|.done 0 [VI ((y2.hA).toInt)] []))) (.loop El Ba [VS a0,VI 0,VI 1] [] (fun y3 q3=>NI (y3.hA)<|.done 0 [VI ((y3.hA).toInt)] []) (fun y3 q3=>NI (y3.hA)<|.done 0 [VI ((y3.hA).toInt)] []))))
theorem Tb(a0:ByteArray)(h:di 49 (N0 a0) R):ap Tryz.prog 102 [VS a0] [] R :=
 uQ (ag (aw _) aA) (oQ N7 Tryz.f102 h)
def Jg(x0:ByteArray)(x3:Int)(x4:Int):Tree :=
 NS (VS x0)<|NI (VI x3)<|NI (VI x4)<|.test (decide (x4<(af x0:Int))) (.aj (0<=x4/\x4<af x0)<|.test (decide ((bt x0 x4)<(48:Int))) (.done 2 [VI (-1)] []) (.aj (0<=x4/\x4<af x0)<|.test (decide ((bt x0 x4)>(57:Int))) (.done 2 [VI (-1)] []) (.aj (0<=x4/\x4<af x0)<|.done 0 [VS x0,VI (IntKind.wrap .i64 ((IntKind.wrap .i64 (10*x3))+(IntKind.wrap .i64 (IntKind.wrap .u8 ((bt x0 x4)-48))))),VI (IntKind.wrap .i64 (x4+1))] []))) (.done 1 [VI x3] [])
abbrev Ie:=cy Tryz.prog 49 El Ba
theorem N9(x0:ByteArray)(x3:Int)(x4:Int)(h:jx 49 (Jg x0 x3 x4) Ie U):Ie [VS x0,VI x3,VI x4] [] U :=
 gQ N7 h
def Lx(a0_0:ByteArray)(a0_1:AV)(a1:AV):Tree :=
 NG a0_1 2 2<|NE (a0_1.ix (2:Int))<|.aj (LK.has .sl a1/\cr 4 a1.aJ/\((([]:List (List AV)).length)+a1.aJ.length)*80<=140737488355328)<|NG a0_1 1 2<|kK (a0_1.ix (1:Int))<|.aj (cr 4 [[VS (((a0_1.ix (1:Int)).hA).ah),VS a0_0,a0_1,a1]]/\(((([]:List (List AV))++a1.aJ).length)+([[VS (((a0_1.ix (1:Int)).hA).ah),VS a0_0,a0_1,a1]]:List (List AV)).length)*80<=140737488355328)<|.done 0 [.cA [.agg [VS (((a0_1.ix (2:Int)).getD 0 .any).ah),((a0_1.ix (2:Int)).getD 1 .any)],.sl ((([]:List (List AV))++a1.aJ)++([[VS (((a0_1.ix (1:Int)).hA).ah),VS a0_0,a0_1,a1]]:List (List AV)))]] []
theorem TD(a0_0:ByteArray)(a0_1:AV)(a1:AV)(ha0_1:LK.has .sl a0_1)(ha1:LK.has .sl a1)(h:di 23 (Lx a0_0 a0_1 a1) R):ap Tryz.prog 103 [.agg [VS a0_0,a0_1],a1] [] R :=
 uQ (ag (ca (ag (aw _) (ag (bJ ha0_1) aA))) (ag (bJ ha1) aA)) (oQ [] Tryz.f103 h)
def HC:LI:={hd:={bL:=[(0,.k .str),(1,.k (.int .i64)),(9,.k (.int .i64))],refs:=[(6,6),(8,8)],ck:=[(6,[.lk .str,.lk .sl]),(8,[.lk .str,.lk .sl])]},xs:={bL:=[(0,.k .str),(1,.k (.int .i64)),(9,.k (.int .i64))],refs:=[(6,6),(8,8)],ck:=[(6,[.lk .str,.lk .sl]),(8,[.lk .str,.lk .sl])]},rt:={},ex:=0}
def MB:Code:=cC (cw Tryz.f104) 6
def GO:LI:={hd:={bL:=[(0,.k .str),(1,.k (.int .i64)),(2,.k (.int .i64))],refs:=[(6,6),(8,8)],ck:=[(6,[.lk .str,.lk .sl]),(8,[.lk .str,.vec 2])]},xs:={},rt:={bL:=[(7,.k (.int .i64))],refs:=[(6,6)],ck:=[(6,[.lk .str,.vec 2])]},ex:=999}
def JV:Code:=cC (cw Tryz.f104) 12
def Gm:List (Nat×LI):=[(6,HC),(12,GO)]
def HJ(a0:ByteArray)(a1:Int)(a2:Int):Tree :=
 .test (decide (a2>(300:Int))) (.done 0 [.cA [.agg [VS (mk []),.v (.slice none 0 0)],VI (-1)]] []) (.test (decide (a1≥(af a0:Int))) (.done 0 [.cA [.agg [VS (mk []),.v (.slice none 0 0)],VI (-1)]] []) (.aj (0<=a1/\a1<af a0)<|.test ((bt a0 a1) != (40:Int)) (.loop MB HC [VS a0,VI a1,VI a1] [.cells [VS (mk []),.v (.slice none 0 0)],.cells [VS (mk []),.v (.slice none 0 0)]] (fun y2 q2=>NS (y2.hA)<|NI (y2.tail.hA)<|NI (y2.tail.tail.hA)<|.aj ((q2.hO)=.cells (q2.hO).cs)<|.aj (ac [.lk .str,.lk .sl] ((q2.hO).cs) 0 q2.tail)<|.aj (((q2.tail.drop 0).hO)=.cells ((q2.tail.drop 0).hO).cs)<|.aj (ac [.lk .str,.lk .sl] (((q2.tail.drop 0).hO).cs) 0 ((q2.tail.drop 0).tail))<|.aj (0<=((y2.tail.tail.hA).toInt)/\((y2.tail.tail.hA).toInt)<=((y2.tail.hA).toInt)/\((y2.tail.hA).toInt)<=(af ((y2.hA).ah):Int))<|.test (ae (cm ((y2.hA).ah) (bM ((y2.tail.tail.hA).toInt)) (bM ((y2.tail.hA).toInt)))==ae (mk [])) (.done 0 [.cA [.agg [VS (cm ((y2.hA).ah) (bM ((y2.tail.tail.hA).toInt)) (bM ((y2.tail.hA).toInt))),((q2.tail.hO).cs.getD 1 .any)],VI (-1)]] []) (.done 0 [.cA [.agg [VS (cm ((y2.hA).ah) (bM ((y2.tail.tail.hA).toInt)) (bM ((y2.tail.hA).toInt))),((q2.tail.hO).cs.getD 1 .any)],VI ((y2.tail.hA).toInt)]] [])) (fun y2 q2=>.fail)) (.loop JV GO [VS a0,VI a1,VI a2] [.cells [VS (mk []),.v (.slice none 0 0)],.cells [VS (mk []),.any],.vec 2 []] (fun y5 q5=>.fail) (fun y5 q5=>NI (y5.hA)<|.aj ((q5.hO)=.cells (q5.hO).cs)<|.aj (ac [.lk .str,.vec 2] ((q5.hO).cs) 0 q5.tail)<|.done 0 [.cA [.agg [VS (((q5.hO).cs.getD 0 .any).ah),.sl ((q5.tail.hO).es)],VI ((y5.hA).toInt)]] []))))
theorem Mj(a0:ByteArray)(a1:Int)(a2:Int)(h:di 87 (HJ a0 a1 a2) R):ap Tryz.prog 104 [VS a0,VI a1,VI a2] [] R :=
 uQ (ag (aw _) (ag (aw _) (ag (aw _) aA))) (oQ Gm Tryz.f104 h)
def FV(x0:ByteArray)(x1:Int)(x9:Int)(o6_0:ByteArray)(o6_1:AV)(o8_0:ByteArray)(o8_1:AV):Tree :=
 NS (VS x0)<|NI (VI x1)<|NI (VI x9)<|.aj (Ob.cells [VS o6_0,o6_1]=.cells [VS o6_0,o6_1])<|.aj (ac [.lk .str,.lk .sl] [VS o6_0,o6_1] 0 [.cells [VS o8_0,o8_1]])<|.aj (Ob.cells [VS o8_0,o8_1]=.cells [VS o8_0,o8_1])<|.aj (ac [.lk .str,.lk .sl] [VS o8_0,o8_1] 0 [])<|.test (decide (x1<(af x0:Int))) (.aj (0<=x1/\x1<af x0)<|.call 141 [.v (.int .u8 (bt x0 x1))] [] fun r1 o1=>NB r1<|.test r1.toBool (.done 0 [VS x0,VI (IntKind.wrap .i64 (x1+1)),VI x9] [.cells [VS o6_0,o6_1],.cells [VS o8_0,o8_1]]) (.done 1 [VS x0,VI x1,VI x9] [.cells [VS o6_0,o6_1],.cells [VS o8_0,o8_1]])) (.done 1 [VS x0,VI x1,VI x9] [.cells [VS o6_0,o6_1],.cells [VS o8_0,o8_1]])
abbrev G4:=cy Tryz.prog 87 MB HC
theorem Mi(x0:ByteArray)(x1:Int)(x9:Int)(o6_0:ByteArray)(o6_1:AV)(o8_0:ByteArray)(o8_1:AV)(h:jx 87 (FV x0 x1 x9 o6_0 o6_1 o8_0 o8_1) G4 U):G4 [VS x0,VI x1,VI x9] [.cells [VS o6_0,o6_1],.cells [VS o8_0,o8_1]] U :=
 gQ Gm h
def Oq(x0:ByteArray)(x1:Int)(x2:Int)(o6_0:ByteArray)(o6_1:AV)(o8_0:ByteArray)(o8_1:List (List AV)):Tree :=
 NS (VS x0)<|NI (VI x1)<|NI (VI x2)<|.aj (Ob.cells [VS o6_0,o6_1]=.cells [VS o6_0,o6_1])<|.aj (ac [.lk .str,.lk .sl] [VS o6_0,o6_1] 0 [.cells [VS o8_0,.any],.vec 2 o8_1])<|.aj (Ob.cells [VS o8_0,.any]=.cells [VS o8_0,.any])<|.aj (ac [.lk .str,.vec 2] [VS o8_0,.any] 0 [.vec 2 o8_1])<|.call 104 [VS x0,VI (IntKind.wrap .i64 (x1+1)),VI (IntKind.wrap .i64 (x2+1))] [] fun r1 o1=>NT r1<|.aj ((r1.comp 0)=.agg (r1.comp 0).cs/\(r1.comp 0).cs.length=2/\bz [.str,.sl] ((r1.comp 0).cs) 0)<|NI (r1.comp 1)<|.test (decide (((r1.comp 1).toInt)<(0:Int))) (.done 2 [VI (-1)] [.cells [VS o8_0,.any],.vec 2 o8_1]) (.test (decide (((r1.comp 1).toInt)≥(af x0:Int))) (.done 2 [VI (-1)] [.cells [VS o8_0,.any],.vec 2 o8_1]) (.aj (cr 2 [[VS (((r1.comp 0).cs.getD 0 .any).ah),((r1.comp 0).cs.getD 1 .any)]]/\((o8_1.length)+([[VS (((r1.comp 0).cs.getD 0 .any).ah),((r1.comp 0).cs.getD 1 .any)]]:List (List AV)).length)*40<=140737488355328)<|.aj (0<=((r1.comp 1).toInt)/\((r1.comp 1).toInt)<af x0)<|.test ((bt x0 ((r1.comp 1).toInt))==(41:Int)) (.done 2 [VI (IntKind.wrap .i64 (((r1.comp 1).toInt)+1))] [.cells [VS o8_0,.any],.vec 2 (o8_1++([[VS (((r1.comp 0).cs.getD 0 .any).ah),((r1.comp 0).cs.getD 1 .any)]]:List (List AV)))]) (.aj (0<=((r1.comp 1).toInt)/\((r1.comp 1).toInt)<af x0)<|.test ((bt x0 ((r1.comp 1).toInt)) != (32:Int)) (.done 2 [VI (-1)] [.cells [VS o8_0,.any],.vec 2 (o8_1++([[VS (((r1.comp 0).cs.getD 0 .any).ah),((r1.comp 0).cs.getD 1 .any)]]:List (List AV)))]) (.done 0 [VS x0,VI ((r1.comp 1).toInt),VI x2] [.cells [VS o6_0,o6_1],.cells [VS o8_0,.any],.vec 2 (o8_1++([[VS (((r1.comp 0).cs.getD 0 .any).ah),((r1.comp 0).cs.getD 1 .any)]]:List (List AV)))]))))
abbrev Gj:=cy Tryz.prog 87 JV GO
theorem R5(x0:ByteArray)(x1:Int)(x2:Int)(o6_0:ByteArray)(o6_1:AV)(o8_0:ByteArray)(o8_1:List (List AV))(h:jx 87 (Oq x0 x1 x2 o6_0 o6_1 o8_0 o8_1) Gj U):Gj [VS x0,VI x1,VI x2] [.cells [VS o6_0,o6_1],.cells [VS o8_0,.any],.vec 2 o8_1] U :=
 gQ Gm h
def Gs:LI:={hd:={bL:=[(0,.k .sl),(1,.k .str),(7,.k (.int .i64))],eA:=[(2,4)]},xs:={eA:=[(2,4)]},rt:={},ex:=0}
def K0:Code:=cC (cw Tryz.f105) 2
def Og:List (Nat×LI):=[(2,Gs)]
def Kd(a0:AV)(a1:ByteArray)(e2:List (List AV)):Tree :=
 .loop K0 Gs [a0,VS a1,VI 0] [.vec 4 e2] (fun y2 q2=>.aj (((q2.drop 0).hO)=.vec 4 ((q2.drop 0).hO).es)<|.done 0 [.vec 1] [.dead,.vec 4 ((q2.hO).es)]) (fun y2 q2=>.fail)
theorem QK(a0:AV)(a1:ByteArray)(e2:List (List AV))(ha0:LK.has .sl a0)(h:di 32 (Kd a0 a1 e2) R):ap Tryz.prog 105 [a0,VS a1,.vec 0] [.vec 4 e2] R :=
 ap.nE (bA (fC _) cz) (ap.up (ag (bJ ha0) (ag (aw _) (ag (aw _) aA))) (oF Og {mu:=[(2,.one (.vec))],own:=[0]} Tryz.f105 h))
def F0(x0:AV)(x1:ByteArray)(x7:Int)(e2:List (List AV)):Tree :=
 NL x0<|NS (VS x1)<|NI (VI x7)<|.aj (Ob.vec 4 e2=.vec 4 e2)<|NL x0<|.test (decide (x7<(x0.aJ.length:Int))) (NG x0 x7 4<|NE (x0.ix x7)<|.call 78 [VS x1,.sl [[VS (((x0.ix x7).getD 0 .any).ah),((x0.ix x7).getD 1 .any)]]] [] fun r1 o1=>NA r1<|NG x0 x7 4<|NE ((x0.ix x7).drop 2)<|.aj (cr 4 [[VS ((r1.cs.getD 0 .any).ah),(r1.cs.getD 1 .any),VS ((((x0.ix x7).drop 2).getD 0 .any).ah),(((x0.ix x7).drop 2).getD 1 .any)]]/\((e2.length)+([[VS ((r1.cs.getD 0 .any).ah),(r1.cs.getD 1 .any),VS ((((x0.ix x7).drop 2).getD 0 .any).ah),(((x0.ix x7).drop 2).getD 1 .any)]]:List (List AV)).length)*80<=140737488355328)<|.done 0 [x0,VS x1,VI (IntKind.wrap .i64 (x7+1))] [.vec 4 (e2++([[VS ((r1.cs.getD 0 .any).ah),(r1.cs.getD 1 .any),VS ((((x0.ix x7).drop 2).getD 0 .any).ah),(((x0.ix x7).drop 2).getD 1 .any)]]:List (List AV)))]) (.done 1 [] [.vec 4 e2])
abbrev G1:=cy Tryz.prog 32 K0 Gs
theorem ON(x0:AV)(x1:ByteArray)(x7:Int)(e2:List (List AV))(h:jx 32 (F0 x0 x1 x7 e2) G1 U):G1 [x0,VS x1,VI x7] [.vec 4 e2] U :=
 gQ Og h
def Lb(a0_0:AV)(a0_1:Int):Tree :=
 .call 29 [.ref 0 0,VI 12] [.cells [a0_0,VI a0_1]] fun r1 o1=>.aj ((o1.hO)=.cells (o1.hO).cs)<|.aj (aM [.lk .sl,.lk (.int .i64)] ((o1.hO).cs) 0 1 o1.tail)<|NI r1<|.test (r1.toInt==(0:Int)) (.call 80 [.ref 0 0,.sl [[VS (mk [])],[VS (mk [97])],[VS (mk [40,43,32,49,41])],[VS (mk [40,114,101,99,32,120,32,49,41])],[VS (mk [40,114,101,99,32,116,41])],[VS (mk [40,43,32,32,49,32,49,41])],[VS (mk [40,42,32,49,32,49,32,49,41])],[VS (mk [116,49,48,48])],[VS (mk [120,32,49])]]] [.cells [((o1.hO).cs.getD 0 .any),VI (((o1.hO).cs.getD 1 .any).toInt)]] fun r2 o2=>.aj ((o2.hO)=.cells (o2.hO).cs)<|.aj (aM [.lk .sl,.lk (.int .i64)] ((o2.hO).cs) 0 1 o2.tail)<|NS r2<|.done 0 [VS r2.ah] [.cells [((o2.hO).cs.getD 0 .any),VI (((o2.hO).cs.getD 1 .any).toInt)]]) (.test (r1.toInt==(1:Int)) (.call 50 [.ref 0 0] [.cells [((o1.hO).cs.getD 0 .any),VI (((o1.hO).cs.getD 1 .any).toInt)]] fun r3 o3=>.aj ((o3.hO)=.cells (o3.hO).cs)<|.aj (aM [.lk .sl,.lk (.int .i64)] ((o3.hO).cs) 0 1 o3.tail)<|NS r3<|.done 0 [VS r3.ah] [.cells [((o3.hO).cs.getD 0 .any),VI (((o3.hO).cs.getD 1 .any).toInt)]]) (.test (r1.toInt==(2:Int)) (.call 50 [.ref 0 0] [.cells [((o1.hO).cs.getD 0 .any),VI (((o1.hO).cs.getD 1 .any).toInt)]] fun r4 o4=>.aj ((o4.hO)=.cells (o4.hO).cs)<|.aj (aM [.lk .sl,.lk (.int .i64)] ((o4.hO).cs) 0 1 o4.tail)<|NS r4<|.done 0 [VS r4.ah] [.cells [((o4.hO).cs.getD 0 .any),VI (((o4.hO).cs.getD 1 .any).toInt)]]) (.test (r1.toInt==(3:Int)) (.call 50 [.ref 0 0] [.cells [((o1.hO).cs.getD 0 .any),VI (((o1.hO).cs.getD 1 .any).toInt)]] fun r5 o5=>.aj ((o5.hO)=.cells (o5.hO).cs)<|.aj (aM [.lk .sl,.lk (.int .i64)] ((o5.hO).cs) 0 1 o5.tail)<|NS r5<|.done 0 [VS r5.ah] [.cells [((o5.hO).cs.getD 0 .any),VI (((o5.hO).cs.getD 1 .any).toInt)]]) (.test (r1.toInt==(4:Int)) (.call 107 [.ref 0 0,.sl [[VS (mk [116])],[VS (mk [116,49])]],VI 2] [.cells [((o1.hO).cs.getD 0 .any),VI (((o1.hO).cs.getD 1 .any).toInt)]] fun r6 o6=>.aj ((o6.hO)=.cells (o6.hO).cs)<|.aj (aM [.lk .sl,.lk (.int .i64)] ((o6.hO).cs) 0 1 o6.tail)<|NS r6<|.done 0 [VS r6.ah] [.cells [((o6.hO).cs.getD 0 .any),VI (((o6.hO).cs.getD 1 .any).toInt)]]) (.call 107 [.ref 0 0,.sl [],VI 3] [.cells [((o1.hO).cs.getD 0 .any),VI (((o1.hO).cs.getD 1 .any).toInt)]] fun r7 o7=>.aj ((o7.hO)=.cells (o7.hO).cs)<|.aj (aM [.lk .sl,.lk (.int .i64)] ((o7.hO).cs) 0 1 o7.tail)<|NS r7<|.done 0 [VS r7.ah] [.cells [((o7.hO).cs.getD 0 .any),VI (((o7.hO).cs.getD 1 .any).toInt)]])))))
theorem R7(a0_0:AV)(a0_1:Int)(ha0_0:LK.has .sl a0_0)(h:di 24 (Lb a0_0 a0_1) R):ap Tryz.prog 106 [.ref 0 0] [.cells [a0_0,VI a0_1]] R :=
 ap.nE (bA (cd (ag (bJ ha0_0) (ag (aw _) aA))) cz) (ap.up (ag (aw _) aA) (oF [] {mu:=[(0,.one (.obj [.lk .sl,.lk (.int .i64)]))],own:=[]} Tryz.f106 h))
def GR(a0_0:AV)(a0_1:Int)(a1:AV)(a2:Int):Tree :=
 .test (decide (a2<=(0:Int))) (NL a1<|.test (decide ((a1.aJ.length:Int)>(0:Int))) (.call 29 [.ref 0 0,VI 3] [.cells [a0_0,VI a0_1]] fun r1 o1=>.aj ((o1.hO)=.cells (o1.hO).cs)<|.aj (aM [.lk .sl,.lk (.int .i64)] ((o1.hO).cs) 0 1 o1.tail)<|NI r1<|.test (r1.toInt==(0:Int)) (NL a1<|.call 29 [.ref 0 0,VI (a1.aJ.length:Int)] [.cells [((o1.hO).cs.getD 0 .any),VI (((o1.hO).cs.getD 1 .any).toInt)]] fun r2 o2=>.aj ((o2.hO)=.cells (o2.hO).cs)<|.aj (aM [.lk .sl,.lk (.int .i64)] ((o2.hO).cs) 0 1 o2.tail)<|NI r2<|.aj (LK.has .sl a1/\0<=r2.toInt/\r2.toInt<a1.aJ.length/\(a1.aJ.getD r2.toInt.toNat []).length=1)<|kK (a1.aJ.getD r2.toInt.toNat [])<|.done 0 [VS (((a1.aJ.getD r2.toInt.toNat []).hA).ah)] [.cells [((o2.hO).cs.getD 0 .any),VI (((o2.hO).cs.getD 1 .any).toInt)]]) (.call 80 [.ref 0 0,.sl [[VS (mk [120])],[VS (mk [49])],[VS (mk [120])],[VS (mk [121])],[VS (mk [48])],[VS (mk [49])]]] [.cells [((o1.hO).cs.getD 0 .any),VI (((o1.hO).cs.getD 1 .any).toInt)]] fun r3 o3=>.aj ((o3.hO)=.cells (o3.hO).cs)<|.aj (aM [.lk .sl,.lk (.int .i64)] ((o3.hO).cs) 0 1 o3.tail)<|NS r3<|.done 0 [VS r3.ah] [.cells [((o3.hO).cs.getD 0 .any),VI (((o3.hO).cs.getD 1 .any).toInt)]])) (.call 80 [.ref 0 0,.sl [[VS (mk [120])],[VS (mk [49])],[VS (mk [120])],[VS (mk [121])],[VS (mk [48])],[VS (mk [49])]]] [.cells [a0_0,VI a0_1]] fun r4 o4=>.aj ((o4.hO)=.cells (o4.hO).cs)<|.aj (aM [.lk .sl,.lk (.int .i64)] ((o4.hO).cs) 0 1 o4.tail)<|NS r4<|.done 0 [VS r4.ah] [.cells [((o4.hO).cs.getD 0 .any),VI (((o4.hO).cs.getD 1 .any).toInt)]])) (.call 29 [.ref 0 0,VI 4] [.cells [a0_0,VI a0_1]] fun r5 o5=>.aj ((o5.hO)=.cells (o5.hO).cs)<|.aj (aM [.lk .sl,.lk (.int .i64)] ((o5.hO).cs) 0 1 o5.tail)<|NI r5<|.test (r5.toInt==(0:Int)) (NL a1<|.test (decide ((a1.aJ.length:Int)>(0:Int))) (.call 29 [.ref 0 0,VI 3] [.cells [((o5.hO).cs.getD 0 .any),VI (((o5.hO).cs.getD 1 .any).toInt)]] fun r6 o6=>.aj ((o6.hO)=.cells (o6.hO).cs)<|.aj (aM [.lk .sl,.lk (.int .i64)] ((o6.hO).cs) 0 1 o6.tail)<|NI r6<|.test (r6.toInt==(0:Int)) (NL a1<|.call 29 [.ref 0 0,VI (a1.aJ.length:Int)] [.cells [((o6.hO).cs.getD 0 .any),VI (((o6.hO).cs.getD 1 .any).toInt)]] fun r7 o7=>.aj ((o7.hO)=.cells (o7.hO).cs)<|.aj (aM [.lk .sl,.lk (.int .i64)] ((o7.hO).cs) 0 1 o7.tail)<|NI r7<|.aj (LK.has .sl a1/\0<=r7.toInt/\r7.toInt<a1.aJ.length/\(a1.aJ.getD r7.toInt.toNat []).length=1)<|kK (a1.aJ.getD r7.toInt.toNat [])<|.done 0 [VS (((a1.aJ.getD r7.toInt.toNat []).hA).ah)] [.cells [((o7.hO).cs.getD 0 .any),VI (((o7.hO).cs.getD 1 .any).toInt)]]) (.call 80 [.ref 0 0,.sl [[VS (mk [120])],[VS (mk [49])],[VS (mk [120])],[VS (mk [121])],[VS (mk [48])],[VS (mk [49])]]] [.cells [((o6.hO).cs.getD 0 .any),VI (((o6.hO).cs.getD 1 .any).toInt)]] fun r8 o8=>.aj ((o8.hO)=.cells (o8.hO).cs)<|.aj (aM [.lk .sl,.lk (.int .i64)] ((o8.hO).cs) 0 1 o8.tail)<|NS r8<|.done 0 [VS r8.ah] [.cells [((o8.hO).cs.getD 0 .any),VI (((o8.hO).cs.getD 1 .any).toInt)]])) (.call 80 [.ref 0 0,.sl [[VS (mk [120])],[VS (mk [49])],[VS (mk [120])],[VS (mk [121])],[VS (mk [48])],[VS (mk [49])]]] [.cells [((o5.hO).cs.getD 0 .any),VI (((o5.hO).cs.getD 1 .any).toInt)]] fun r9 o9=>.aj ((o9.hO)=.cells (o9.hO).cs)<|.aj (aM [.lk .sl,.lk (.int .i64)] ((o9.hO).cs) 0 1 o9.tail)<|NS r9<|.done 0 [VS r9.ah] [.cells [((o9.hO).cs.getD 0 .any),VI (((o9.hO).cs.getD 1 .any).toInt)]])) (.call 29 [.ref 0 0,VI 5] [.cells [((o5.hO).cs.getD 0 .any),VI (((o5.hO).cs.getD 1 .any).toInt)]] fun r10 o10=>.aj ((o10.hO)=.cells (o10.hO).cs)<|.aj (aM [.lk .sl,.lk (.int .i64)] ((o10.hO).cs) 0 1 o10.tail)<|NI r10<|.test (r10.toInt==(0:Int)) (.call 107 [.ref 0 0,a1,VI (IntKind.wrap .i64 (a2-1))] [.cells [((o10.hO).cs.getD 0 .any),VI (((o10.hO).cs.getD 1 .any).toInt)]] fun r11 o11=>.aj ((o11.hO)=.cells (o11.hO).cs)<|.aj (aM [.lk .sl,.lk (.int .i64)] ((o11.hO).cs) 0 1 o11.tail)<|NS r11<|.aj (af (mk [40,43,32])+af r11.ah<=9223372036854775807)<|.aj (af (((mk [40,43,32]):ByteArray)++r11.ah)+af (mk [32])<=9223372036854775807)<|.call 107 [.ref 0 0,a1,VI (IntKind.wrap .i64 (a2-1))] [.cells [((o11.hO).cs.getD 0 .any),VI (((o11.hO).cs.getD 1 .any).toInt)]] fun r12 o12=>.aj ((o12.hO)=.cells (o12.hO).cs)<|.aj (aM [.lk .sl,.lk (.int .i64)] ((o12.hO).cs) 0 1 o12.tail)<|NS r12<|.aj (af (((((mk [40,43,32]):ByteArray)++r11.ah):ByteArray)++(mk [32]))+af r12.ah<=9223372036854775807)<|.aj (af (((((((mk [40,43,32]):ByteArray)++r11.ah):ByteArray)++(mk [32])):ByteArray)++r12.ah)+af (mk [41])<=9223372036854775807)<|.done 0 [VS (((((((((mk [40,43,32]):ByteArray)++r11.ah):ByteArray)++(mk [32])):ByteArray)++r12.ah):ByteArray)++(mk [41]))] [.cells [((o12.hO).cs.getD 0 .any),VI (((o12.hO).cs.getD 1 .any).toInt)]]) (.test (r10.toInt==(1:Int)) (.call 107 [.ref 0 0,a1,VI (IntKind.wrap .i64 (a2-1))] [.cells [((o10.hO).cs.getD 0 .any),VI (((o10.hO).cs.getD 1 .any).toInt)]] fun r13 o13=>.aj ((o13.hO)=.cells (o13.hO).cs)<|.aj (aM [.lk .sl,.lk (.int .i64)] ((o13.hO).cs) 0 1 o13.tail)<|NS r13<|.aj (af (mk [40,43,32])+af r13.ah<=9223372036854775807)<|.aj (af (((mk [40,43,32]):ByteArray)++r13.ah)+af (mk [32])<=9223372036854775807)<|.call 107 [.ref 0 0,a1,VI (IntKind.wrap .i64 (a2-1))] [.cells [((o13.hO).cs.getD 0 .any),VI (((o13.hO).cs.getD 1 .any).toInt)]] fun r14 o14=>.aj ((o14.hO)=.cells (o14.hO).cs)<|.aj (aM [.lk .sl,.lk (.int .i64)] ((o14.hO).cs) 0 1 o14.tail)<|NS r14<|.aj (af (((((mk [40,43,32]):ByteArray)++r13.ah):ByteArray)++(mk [32]))+af r14.ah<=9223372036854775807)<|.aj (af (((((((mk [40,43,32]):ByteArray)++r13.ah):ByteArray)++(mk [32])):ByteArray)++r14.ah)+af (mk [41])<=9223372036854775807)<|.done 0 [VS (((((((((mk [40,43,32]):ByteArray)++r13.ah):ByteArray)++(mk [32])):ByteArray)++r14.ah):ByteArray)++(mk [41]))] [.cells [((o14.hO).cs.getD 0 .any),VI (((o14.hO).cs.getD 1 .any).toInt)]]) (.test (r10.toInt==(2:Int)) (.call 107 [.ref 0 0,a1,VI (IntKind.wrap .i64 (a2-1))] [.cells [((o10.hO).cs.getD 0 .any),VI (((o10.hO).cs.getD 1 .any).toInt)]] fun r15 o15=>.aj ((o15.hO)=.cells (o15.hO).cs)<|.aj (aM [.lk .sl,.lk (.int .i64)] ((o15.hO).cs) 0 1 o15.tail)<|NS r15<|.aj (af (mk [40,42,32])+af r15.ah<=9223372036854775807)<|.aj (af (((mk [40,42,32]):ByteArray)++r15.ah)+af (mk [32])<=9223372036854775807)<|.call 107 [.ref 0 0,a1,VI (IntKind.wrap .i64 (a2-1))] [.cells [((o15.hO).cs.getD 0 .any),VI (((o15.hO).cs.getD 1 .any).toInt)]] fun r16 o16=>.aj ((o16.hO)=.cells (o16.hO).cs)<|.aj (aM [.lk .sl,.lk (.int .i64)] ((o16.hO).cs) 0 1 o16.tail)<|NS r16<|.aj (af (((((mk [40,42,32]):ByteArray)++r15.ah):ByteArray)++(mk [32]))+af r16.ah<=9223372036854775807)<|.aj (af (((((((mk [40,42,32]):ByteArray)++r15.ah):ByteArray)++(mk [32])):ByteArray)++r16.ah)+af (mk [41])<=9223372036854775807)<|.done 0 [VS (((((((((mk [40,42,32]):ByteArray)++r15.ah):ByteArray)++(mk [32])):ByteArray)++r16.ah):ByteArray)++(mk [41]))] [.cells [((o16.hO).cs.getD 0 .any),VI (((o16.hO).cs.getD 1 .any).toInt)]]) (.test (r10.toInt==(3:Int)) (.call 107 [.ref 0 0,a1,VI (IntKind.wrap .i64 (a2-1))] [.cells [((o10.hO).cs.getD 0 .any),VI (((o10.hO).cs.getD 1 .any).toInt)]] fun r17 o17=>.aj ((o17.hO)=.cells (o17.hO).cs)<|.aj (aM [.lk .sl,.lk (.int .i64)] ((o17.hO).cs) 0 1 o17.tail)<|NS r17<|.aj (af (mk [40,42,32])+af r17.ah<=9223372036854775807)<|.aj (af (((mk [40,42,32]):ByteArray)++r17.ah)+af (mk [32])<=9223372036854775807)<|.call 107 [.ref 0 0,a1,VI (IntKind.wrap .i64 (a2-1))] [.cells [((o17.hO).cs.getD 0 .any),VI (((o17.hO).cs.getD 1 .any).toInt)]] fun r18 o18=>.aj ((o18.hO)=.cells (o18.hO).cs)<|.aj (aM [.lk .sl,.lk (.int .i64)] ((o18.hO).cs) 0 1 o18.tail)<|NS r18<|.aj (af (((((mk [40,42,32]):ByteArray)++r17.ah):ByteArray)++(mk [32]))+af r18.ah<=9223372036854775807)<|.aj (af (((((((mk [40,42,32]):ByteArray)++r17.ah):ByteArray)++(mk [32])):ByteArray)++r18.ah)+af (mk [41])<=9223372036854775807)<|.done 0 [VS (((((((((mk [40,42,32]):ByteArray)++r17.ah):ByteArray)++(mk [32])):ByteArray)++r18.ah):ByteArray)++(mk [41]))] [.cells [((o18.hO).cs.getD 0 .any),VI (((o18.hO).cs.getD 1 .any).toInt)]]) (.call 80 [.ref 0 0,.sl [[VS (mk [116])],[VS (mk [116,49])],[VS (mk [116,48])]]] [.cells [((o10.hO).cs.getD 0 .any),VI (((o10.hO).cs.getD 1 .any).toInt)]] fun r19 o19=>.aj ((o19.hO)=.cells (o19.hO).cs)<|.aj (aM [.lk .sl,.lk (.int .i64)] ((o19.hO).cs) 0 1 o19.tail)<|NS r19<|.aj (af (mk [40,114,101,99,32])+af r19.ah<=9223372036854775807)<|.aj (af (((mk [40,114,101,99,32]):ByteArray)++r19.ah)+af (mk [32,40,43,32,49,32])<=9223372036854775807)<|.call 61 [a1,VS r19.ah] [] fun r20 o20=>NL r20<|.call 107 [.ref 0 0,r20,VI (IntKind.wrap .i64 (a2-1))] [.cells [((o19.hO).cs.getD 0 .any),VI (((o19.hO).cs.getD 1 .any).toInt)]] fun r21 o21=>.aj ((o21.hO)=.cells (o21.hO).cs)<|.aj (aM [.lk .sl,.lk (.int .i64)] ((o21.hO).cs) 0 1 o21.tail)<|NS r21<|.aj (af (((((mk [40,114,101,99,32]):ByteArray)++r19.ah):ByteArray)++(mk [32,40,43,32,49,32]))+af r21.ah<=9223372036854775807)<|.aj (af (((((((mk [40,114,101,99,32]):ByteArray)++r19.ah):ByteArray)++(mk [32,40,43,32,49,32])):ByteArray)++r21.ah)+af (mk [41,41])<=9223372036854775807)<|.done 0 [VS (((((((((mk [40,114,101,99,32]):ByteArray)++r19.ah):ByteArray)++(mk [32,40,43,32,49,32])):ByteArray)++r21.ah):ByteArray)++(mk [41,41]))] [.cells [((o21.hO).cs.getD 0 .any),VI (((o21.hO).cs.getD 1 .any).toInt)]]))))))
theorem MX(a0_0:AV)(a0_1:Int)(a1:AV)(a2:Int)(ha1:LK.has .sl a1)(ha0_0:LK.has .sl a0_0)(h:di 82 (GR a0_0 a0_1 a1 a2) R):ap Tryz.prog 107 [.ref 0 0,a1,VI a2] [.cells [a0_0,VI a0_1]] R :=
 ap.nE (bA (cd (ag (bJ ha0_0) (ag (aw _) aA))) cz) (ap.up (ag (aw _) (ag (bJ ha1) (ag (aw _) aA))) (oF [] {mu:=[(0,.one (.obj [.lk .sl,.lk (.int .i64)]))],own:=[]} Tryz.f107 h))
def Da(a0_0:ByteArray)(a0_1:AV)(a1:AV):Tree :=
 .call 71 [.agg [VS a0_0,a0_1]] [] fun r1 o1=>NS r1<|.test (ae r1.ah==ae (mk [43])) (NG a0_1 1 2<|NE (a0_1.ix (1:Int))<|.call 108 [.agg [VS (((a0_1.ix (1:Int)).getD 0 .any).ah),((a0_1.ix (1:Int)).getD 1 .any)],a1] [] fun r2 o2=>NB r2<|.test r2.toBool (NG a0_1 2 2<|NE (a0_1.ix (2:Int))<|.call 108 [.agg [VS (((a0_1.ix (2:Int)).getD 0 .any).ah),((a0_1.ix (2:Int)).getD 1 .any)],a1] [] fun r3 o3=>NB r3<|.done 0 [VB r3.toBool] []) (.done 0 [VB false] [])) (.test (ae r1.ah==ae (mk [42])) (NG a0_1 1 2<|NE (a0_1.ix (1:Int))<|.call 108 [.agg [VS (((a0_1.ix (1:Int)).getD 0 .any).ah),((a0_1.ix (1:Int)).getD 1 .any)],a1] [] fun r4 o4=>NB r4<|.test r4.toBool (.done 0 [VB true] []) (NG a0_1 2 2<|NE (a0_1.ix (2:Int))<|.call 108 [.agg [VS (((a0_1.ix (2:Int)).getD 0 .any).ah),((a0_1.ix (2:Int)).getD 1 .any)],a1] [] fun r5 o5=>NB r5<|.done 0 [VB r5.toBool] [])) (.test (ae r1.ah==ae (mk [114,101,99])) (NG a0_1 2 2<|NE (a0_1.ix (2:Int))<|NG a0_1 1 2<|kK (a0_1.ix (1:Int))<|.call 61 [a1,VS (((a0_1.ix (1:Int)).hA).ah)] [] fun r6 o6=>NL r6<|.call 108 [.agg [VS (((a0_1.ix (2:Int)).getD 0 .any).ah),((a0_1.ix (2:Int)).getD 1 .any)],r6] [] fun r7 o7=>NB r7<|.done 0 [VB r7.toBool] []) (.test (ae a0_0==ae (mk [48])) (.done 0 [VB true] []) (.call 139 [a1,VS a0_0] [] fun r8 o8=>NB r8<|.done 0 [VB r8.toBool] []))))
theorem EJ(a0_0:ByteArray)(a0_1:AV)(a1:AV)(ha0_1:LK.has .sl a0_1)(ha1:LK.has .sl a1)(h:di 62 (Da a0_0 a0_1 a1) R):ap Tryz.prog 108 [.agg [VS a0_0,a0_1],a1] [] R :=
 uQ (ag (ca (ag (aw _) (ag (bJ ha0_1) aA))) (ag (bJ ha1) aA)) (oQ [] Tryz.f108 h)
def HO:LI:={hd:={bL:=[(3,.k (.int .i64)),(4,.k (.int .i64))],refs:=[(1,1)],ck:=[(1,[.lk .str,.lk .sl])]},xs:={bL:=[(3,.k (.int .i64))]},rt:={},ex:=0}
def Nd:Code:=cC (cw Tryz.f109) 5
def KF:List (Nat×LI):=[(5,HO)]
def Ic(a0_0:ByteArray)(a0_1:AV):Tree :=
 .test (!(ae a0_0==ae (mk []))) (.done 0 [VI 1] []) (.loop Nd HO [VI 0,VI 0] [.cells [VS a0_0,a0_1]] (fun y2 q2=>NI (y2.hA)<|.done 0 [VI ((y2.hA).toInt)] []) (fun y2 q2=>.done 0 [.any] []))
theorem PE(a0_0:ByteArray)(a0_1:AV)(ha0_1:LK.has .sl a0_1)(h:di 24 (Ic a0_0 a0_1) R):ap Tryz.prog 109 [.agg [VS a0_0,a0_1]] [] R :=
 uQ (ag (ca (ag (aw _) (ag (bJ ha0_1) aA))) aA) (oQ KF Tryz.f109 h)
def FQ(x3:Int)(x4:Int)(o1_0:ByteArray)(o1_1:AV):Tree :=
 NI (VI x3)<|NI (VI x4)<|.aj (Ob.cells [VS o1_0,o1_1]=.cells [VS o1_0,o1_1])<|.aj (ac [.lk .str,.lk .sl] [VS o1_0,o1_1] 0 [])<|NL o1_1<|.test (decide (x4<(o1_1.aJ.length:Int))) (NG o1_1 x4 2<|NE (o1_1.ix x4)<|.call 109 [.agg [VS (((o1_1.ix x4).getD 0 .any).ah),((o1_1.ix x4).getD 1 .any)]] [] fun r1 o1=>NI r1<|.done 0 [VI (IntKind.wrap .i64 (x3+r1.toInt)),VI (IntKind.wrap .i64 (x4+1))] [.cells [VS o1_0,o1_1]]) (.done 1 [VI x3] [])
abbrev FY:=cy Tryz.prog 24 Nd HO
theorem MJ(x3:Int)(x4:Int)(o1_0:ByteArray)(o1_1:AV)(h:jx 24 (FQ x3 x4 o1_0 o1_1) FY U):FY [VI x3,VI x4] [.cells [VS o1_0,o1_1]] U :=
 gQ KF h
def JS(a0_0:ByteArray)(a0_1:AV):Tree :=
 NG a0_1 1 2<|kK (a0_1.ix (1:Int))<|NG a0_1 2 2<|NE (a0_1.ix (2:Int))<|.call 142 [.agg [VS (((a0_1.ix (2:Int)).getD 0 .any).ah),((a0_1.ix (2:Int)).getD 1 .any)],VS (((a0_1.ix (1:Int)).hA).ah),.agg [VS a0_0,a0_1]] [] fun r1 o1=>NB r1<|.test (!r1.toBool) (.done 0 [.cA [.agg [VS a0_0,a0_1],VB false]] []) (NG a0_1 2 2<|NE (a0_1.ix (2:Int))<|.call 143 [.agg [VS (((a0_1.ix (2:Int)).getD 0 .any).ah),((a0_1.ix (2:Int)).getD 1 .any)],VS (((a0_1.ix (1:Int)).hA).ah),.agg [VS a0_0,a0_1]] [] fun r2 o2=>NA r2<|.done 0 [.cA [.agg [VS ((r2.cs.getD 0 .any).ah),(r2.cs.getD 1 .any)],VB true]] [])
theorem Se(a0_0:ByteArray)(a0_1:AV)(ha0_1:LK.has .sl a0_1)(h:di 26 (JS a0_0 a0_1) R):ap Tryz.prog 110 [.agg [VS a0_0,a0_1]] [] R :=
 uQ (ag (ca (ag (aw _) (ag (bJ ha0_1) aA))) aA) (oQ [] Tryz.f110 h)
def Kb(a0:Int):Tree :=
 .test (decide (a0<((-9223372036854775807):Int))) (.done 0 [VS (mk [45,57,50,50,51,51,55,50,48,51,54,56,53,52,55,55,53,56,48,56])] []) (.test (decide (a0<(0:Int))) (.call 111 [VI (IntKind.wrap .i64 (0-a0))] [] fun r1 o1=>NS r1<|.aj (af (mk [45])+af r1.ah<=9223372036854775807)<|.done 0 [VS (((mk [45]):ByteArray)++r1.ah)] []) (.test (decide (a0<(10:Int))) (.aj (jy [[.v (.int .u8 (IntKind.wrap .u8 (IntKind.wrap .i64 (48+a0))))]])<|.done 0 [VS (⟨(bytesOf [[.v (.int .u8 (IntKind.wrap .u8 (IntKind.wrap .i64 (48+a0))))]]).toArray⟩)] []) (.aj (¬(10:Int)=0)<|.call 111 [VI (IntKind.wrap .i64 (Int.tdiv a0 10))] [] fun r2 o2=>NS r2<|.aj (¬(10:Int)=0)<|.aj (jy [[.v (.int .u8 (IntKind.wrap .u8 (IntKind.wrap .i64 (48+(dG a0 10)))))]])<|.aj (af r2.ah+af (⟨(bytesOf [[.v (.int .u8 (IntKind.wrap .u8 (IntKind.wrap .i64 (48+(dG a0 10)))))]]).toArray⟩)<=9223372036854775807)<|.done 0 [VS ((r2.ah:ByteArray)++(⟨(bytesOf [[.v (.int .u8 (IntKind.wrap .u8 (IntKind.wrap .i64 (48+(dG a0 10)))))]]).toArray⟩))] [])))
theorem TV(a0:Int)(h:di 28 (Kb a0) R):ap Tryz.prog 111 [VI a0] [] R :=
 uQ (ag (aw _) aA) (oQ [] Tryz.f111 h)
def Hc:LI:={hd:={bL:=[(1,.k .sl),(2,.k .sl),(9,.k (.int .i64))],refs:=[(4,4),(8,8)],ck:=[(4,[.lk .str,.lk .sl]),(8,[.lk .str,.lk .sl]),(0,[.vec 1,.lk (.int .i64)])]},xs:={refs:=[(4,4),(8,8)],ck:=[(4,[.lk .str,.lk .sl]),(8,[.lk .str,.lk .sl]),(0,[.vec 1,.lk (.int .i64)])]},rt:={refs:=[(8,8)],ck:=[(8,[.lk .str,.lk .sl]),(0,[.vec 1,.lk (.int .i64)])]},ex:=0,fx:=[0]}
def OA:Code:=cC (cw Tryz.f112) 3
def Ii:LI:={hd:={bL:=[(1,.k .sl),(2,.k .sl),(10,.k .str)],refs:=[(3,0),(4,4),(8,8)],ck:=[(0,[.vec 1,.lk (.int .i64)]),(4,[.lk .str,.lk .sl]),(8,[.lk .str,.lk .sl])]},xs:={bL:=[(1,.k .sl),(2,.k .sl),(10,.k .str)],refs:=[(3,0),(4,4),(8,8)],ck:=[(0,[.vec 1,.lk (.int .i64)]),(4,[.lk .str,.lk .sl]),(8,[.lk .str,.lk .sl])]},rt:={ck:=[(0,[.vec 1,.lk (.int .i64)])]},ex:=2,fx:=[0]}
def Kc:Code:=cC (cw Tryz.f112) 10
def IV:List (Nat×LI):=[(3,Hc),(10,Ii)]
def C7(a0_0:ByteArray)(a0_1:AV)(a1:AV)(a2:AV)(e3_0:List (List AV))(a3_1:Int):Tree :=
 .test (!(ae a0_0==ae (mk []))) (NL a1<|.loop OA Hc [a1,a2,VI (IntKind.wrap .i64 ((a1.aJ.length:Int)-1))] [.cells [VS a0_0,a0_1],.cells [VS (mk []),.v (.slice none 0 0)],.cells [.any,VI a3_1],.vec 1 e3_0] (fun y1 q1=>.aj ((q1.hO)=.cells (q1.hO).cs)<|.aj (ac [.lk .str,.lk .sl] ((q1.hO).cs) 0 q1.tail)<|.aj (((q1.tail.drop 0).hO)=.cells ((q1.tail.drop 0).hO).cs)<|.aj (ac [.lk .str,.lk .sl] (((q1.tail.drop 0).hO).cs) 0 ((q1.tail.drop 0).tail))<|.aj ((((q1.tail.drop 0).tail.drop 0).hO)=.cells (((q1.tail.drop 0).tail.drop 0).hO).cs)<|.aj (ac [.vec 1,.lk (.int .i64)] ((((q1.tail.drop 0).tail.drop 0).hO).cs) 0 (((q1.tail.drop 0).tail.drop 0).tail))<|.done 0 [.agg [VS (((q1.hO).cs.getD 0 .any).ah),((q1.hO).cs.getD 1 .any)]] [.cells [.vec 1,VI (((q1.tail.tail.hO).cs.getD 1 .any).toInt)],.vec 1 ((q1.tail.tail.tail.hO).es)]) (fun y1 q1=>.aj ((q1.hO)=.cells (q1.hO).cs)<|.aj (ac [.lk .str,.lk .sl] ((q1.hO).cs) 0 q1.tail)<|.aj (((q1.tail.drop 0).hO)=.cells ((q1.tail.drop 0).hO).cs)<|.aj (ac [.vec 1,.lk (.int .i64)] (((q1.tail.drop 0).hO).cs) 0 ((q1.tail.drop 0).tail))<|.done 0 [.agg [VS (((q1.hO).cs.getD 0 .any).ah),((q1.hO).cs.getD 1 .any)]] [.cells [.vec 1,VI (((q1.tail.hO).cs.getD 1 .any).toInt)],.vec 1 ((q1.tail.tail.hO).es)])) (.call 71 [.agg [VS a0_0,a0_1]] [] fun r2 o2=>NS r2<|.test (ae r2.ah==ae (mk [114,101,99])) (.call 111 [VI a3_1] [] fun r3 o3=>NS r3<|.aj (af (mk [116])+af r3.ah<=9223372036854775807)<|.loop Kc Ii [a1,a2,VS (((mk [116]):ByteArray)++r3.ah)] [.cells [.any,VI a3_1],.vec 1 e3_0,.cells [VS a0_0,a0_1],.cells [VS (mk []),.v (.slice none 0 0)]] (fun y6 q6=>NL (y6.hA)<|NL (y6.tail.hA)<|NS (y6.tail.tail.hA)<|.aj ((q6.hO)=.cells (q6.hO).cs)<|.aj (ac [.vec 1,.lk (.int .i64)] ((q6.hO).cs) 0 q6.tail)<|.aj (((q6.tail.drop 1).hO)=.cells ((q6.tail.drop 1).hO).cs)<|.aj (ac [.lk .str,.lk .sl] (((q6.tail.drop 1).hO).cs) 0 ((q6.tail.drop 1).tail))<|.aj ((((q6.tail.drop 1).tail.drop 0).hO)=.cells (((q6.tail.drop 1).tail.drop 0).hO).cs)<|.aj (ac [.lk .str,.lk .sl] ((((q6.tail.drop 1).tail.drop 0).hO).cs) 0 (((q6.tail.drop 1).tail.drop 0).tail))<|NG ((q6.tail.tail.hO).cs.getD 1 .any) 2 2<|NE (((q6.tail.tail.hO).cs.getD 1 .any).ix (2:Int))<|NG ((q6.tail.tail.hO).cs.getD 1 .any) 1 2<|kK (((q6.tail.tail.hO).cs.getD 1 .any).ix (1:Int))<|.call 61 [(y6.hA),VS (((((q6.tail.tail.hO).cs.getD 1 .any).ix (1:Int)).hA).ah)] [] fun r7 o7=>NL r7<|.call 61 [(y6.tail.hA),VS ((y6.tail.tail.hA).ah)] [] fun r8 o8=>NL r8<|.call 112 [.agg [VS (((((q6.tail.tail.hO).cs.getD 1 .any).ix (2:Int)).getD 0 .any).ah),((((q6.tail.tail.hO).cs.getD 1 .any).ix (2:Int)).getD 1 .any)],r7,r8,.ref 0 0] [.cells [.vec 1,VI (IntKind.wrap .i64 ((((q6.hO).cs.getD 1 .any).toInt)+1))],.vec 1 ((q6.tail.hO).es)] fun r9 o9=>.aj ((o9.hO)=.cells (o9.hO).cs)<|.aj (aM [.vec 1,.lk (.int .i64)] ((o9.hO).cs) 0 1 o9.tail)<|NA r9<|.call 78 [VS (mk [114,101,99]),.sl [[VS ((y6.tail.tail.hA).ah),.v (.slice none 0 0)],[VS ((r9.cs.getD 0 .any).ah),(r9.cs.getD 1 .any)]]] [] fun r10 o10=>NA r10<|.done 0 [.agg [VS ((r10.cs.getD 0 .any).ah),(r10.cs.getD 1 .any)]] [.cells [.vec 1,VI (((o9.hO).cs.getD 1 .any).toInt)],.vec 1 ((o9.tail.hO).es)]) (fun y6 q6=>.aj ((q6.hO)=.cells (q6.hO).cs)<|.aj (ac [.vec 1,.lk (.int .i64)] ((q6.hO).cs) 0 q6.tail)<|.fail)) (NG a0_1 1 2<|NE (a0_1.ix (1:Int))<|.call 112 [.agg [VS (((a0_1.ix (1:Int)).getD 0 .any).ah),((a0_1.ix (1:Int)).getD 1 .any)],a1,a2,.ref 0 0] [.cells [.vec 1,VI a3_1],.vec 1 e3_0] fun r11 o11=>.aj ((o11.hO)=.cells (o11.hO).cs)<|.aj (aM [.vec 1,.lk (.int .i64)] ((o11.hO).cs) 0 1 o11.tail)<|NA r11<|.call 71 [.agg [VS a0_0,a0_1]] [] fun r12 o12=>NS r12<|NG a0_1 2 2<|NE (a0_1.ix (2:Int))<|.call 112 [.agg [VS (((a0_1.ix (2:Int)).getD 0 .any).ah),((a0_1.ix (2:Int)).getD 1 .any)],a1,a2,.ref 0 0] [.cells [.vec 1,VI (((o11.hO).cs.getD 1 .any).toInt)],.vec 1 ((o11.tail.hO).es)] fun r13 o13=>.aj ((o13.hO)=.cells (o13.hO).cs)<|.aj (aM [.vec 1,.lk (.int .i64)] ((o13.hO).cs) 0 1 o13.tail)<|NA r13<|.call 78 [VS r12.ah,.sl [[VS ((r11.cs.getD 0 .any).ah),(r11.cs.getD 1 .any)],[VS ((r13.cs.getD 0 .any).ah),(r13.cs.getD 1 .any)]]] [] fun r14 o14=>NA r14<|.done 0 [.agg [VS ((r14.cs.getD 0 .any).ah),(r14.cs.getD 1 .any)]] [.cells [.vec 1,VI (((o13.hO).cs.getD 1 .any).toInt)],.vec 1 ((o13.tail.hO).es)]))
theorem Et(a0_0:ByteArray)(a0_1:AV)(a1:AV)(a2:AV)(e3_0:List (List AV))(a3_1:Int)(ha0_1:LK.has .sl a0_1)(ha1:LK.has .sl a1)(ha2:LK.has .sl a2)(h:di 113 (C7 a0_0 a0_1 a1 a2 e3_0 a3_1) R):ap Tryz.prog 112 [.agg [VS a0_0,a0_1],a1,a2,.ref 0 0] [.cells [.vec 1,VI a3_1],.vec 1 e3_0] R :=
 ap.nE (bA (cd (ag (aw _) (ag (aw _) aA))) (bA (fC _) cz)) (ap.up (ag (ca (ag (aw _) (ag (bJ ha0_1) aA))) (ag (bJ ha1) (ag (bJ ha2) (ag (aw _) aA)))) (oF IV {mu:=[(3,.one (.obj [.vec 1,.lk (.int .i64)]))],own:=[]} Tryz.f112 h))
def Ja(x1:AV)(x2:AV)(x9:Int)(o4_0:ByteArray)(o4_1:AV)(o8_0:ByteArray)(o8_1:AV)(o0_0:List (List AV))(o0_1:Int):Tree :=
 NL x1<|NL x2<|NI (VI x9)<|.aj (Ob.cells [VS o4_0,o4_1]=.cells [VS o4_0,o4_1])<|.aj (ac [.lk .str,.lk .sl] [VS o4_0,o4_1] 0 [.cells [VS o8_0,o8_1],.cells [.any,VI o0_1],.vec 1 o0_0])<|.aj (Ob.cells [VS o8_0,o8_1]=.cells [VS o8_0,o8_1])<|.aj (ac [.lk .str,.lk .sl] [VS o8_0,o8_1] 0 [.cells [.any,VI o0_1],.vec 1 o0_0])<|.aj (Ob.cells [.any,VI o0_1]=.cells [.any,VI o0_1])<|.aj (ac [.vec 1,.lk (.int .i64)] [.any,VI o0_1] 0 [.vec 1 o0_0])<|.test (decide (x9≥(0:Int))) (NG x1 x9 1<|kK (x1.ix x9)<|.test (ae (((x1.ix x9).hA).ah)==ae o4_0) (NG x2 x9 1<|kK (x2.ix x9)<|.done 2 [] [.cells [VS (((x2.ix x9).hA).ah),.v (.slice none 0 0)],.cells [.any,VI o0_1],.vec 1 o0_0]) (.done 0 [x1,x2,VI (IntKind.wrap .i64 (x9-1))] [.cells [VS o4_0,o4_1],.cells [VS o8_0,o8_1],.cells [.any,VI o0_1],.vec 1 o0_0])) (.done 1 [] [.cells [VS o4_0,o4_1],.cells [VS o8_0,o8_1],.cells [.any,VI o0_1],.vec 1 o0_0])
abbrev IK:=cy Tryz.prog 113 OA Hc
theorem Nz(x1:AV)(x2:AV)(x9:Int)(o4_0:ByteArray)(o4_1:AV)(o8_0:ByteArray)(o8_1:AV)(o0_0:List (List AV))(o0_1:Int)(h:jx 113 (Ja x1 x2 x9 o4_0 o4_1 o8_0 o8_1 o0_0 o0_1) IK U):IK [x1,x2,VI x9] [.cells [VS o4_0,o4_1],.cells [VS o8_0,o8_1],.cells [.any,VI o0_1],.vec 1 o0_0] U :=
 gQ IV h
def Kv(x1:AV)(x2:AV)(x10:ByteArray)(o0_0:List (List AV))(o0_1:Int)(o4_0:ByteArray)(o4_1:AV)(o8_0:ByteArray)(o8_1:AV):Tree :=
 NL x1<|NL x2<|NS (VS x10)<|.aj (Ob.cells [.any,VI o0_1]=.cells [.any,VI o0_1])<|.aj (ac [.vec 1,.lk (.int .i64)] [.any,VI o0_1] 0 [.vec 1 o0_0,.cells [VS o4_0,o4_1],.cells [VS o8_0,o8_1]])<|.aj (Ob.cells [VS o4_0,o4_1]=.cells [VS o4_0,o4_1])<|.aj (ac [.lk .str,.lk .sl] [VS o4_0,o4_1] 0 [.cells [VS o8_0,o8_1]])<|.aj (Ob.cells [VS o8_0,o8_1]=.cells [VS o8_0,o8_1])<|.aj (ac [.lk .str,.lk .sl] [VS o8_0,o8_1] 0 [])<|.call 139 [.sl o0_0,VS x10] [] fun r1 o1=>NB r1<|.test r1.toBool (.call 111 [VI (IntKind.wrap .i64 (o0_1+1))] [] fun r2 o2=>NS r2<|.aj (af (mk [116])+af r2.ah<=9223372036854775807)<|.done 0 [x1,x2,VS (((mk [116]):ByteArray)++r2.ah)] [.cells [.any,VI (IntKind.wrap .i64 (o0_1+1))],.vec 1 o0_0,.cells [VS o4_0,o4_1],.cells [VS o8_0,o8_1]]) (.done 1 [x1,x2,VS x10] [.cells [.any,VI o0_1],.vec 1 o0_0,.cells [VS o4_0,o4_1],.cells [VS o8_0,o8_1]])
abbrev IB:=cy Tryz.prog 113 Kc Ii
theorem QV(x1:AV)(x2:AV)(x10:ByteArray)(o0_0:List (List AV))(o0_1:Int)(o4_0:ByteArray)(o4_1:AV)(o8_0:ByteArray)(o8_1:AV)(h:jx 113 (Kv x1 x2 x10 o0_0 o0_1 o4_0 o4_1 o8_0 o8_1) IB U):IB [x1,x2,VS x10] [.cells [.any,VI o0_1],.vec 1 o0_0,.cells [VS o4_0,o4_1],.cells [VS o8_0,o8_1]] U :=
 gQ IV h
def Kz(a0:ByteArray):Tree :=
 .test (decide ((af a0:Int)>(8000:Int))) (.done 0 [.v (.pointer none)] []) (.call 144 [VS a0,VI 0] [] fun r1 o1=>NT r1<|NP (r1.comp 0)<|NS (r1.comp 1)<|.test (!(ae ((r1.comp 1).ah)==ae (mk []))) (.done 0 [.v (.pointer none)] []) (.done 0 [(r1.comp 0)] []))
theorem Tp(a0:ByteArray)(h:di 16 (Kz a0) R):ap Tryz.prog 113 [VS a0] [] R :=
 uQ (ag (aw _) aA) (oQ [] Tryz.f113 h)
def F8:LI:={hd:={bL:=[(0,.k .ptr),(1,.k .sl),(5,.k (.int .i64))]},xs:={bL:=[(0,.k .ptr)]},rt:={refs:=[(4,69)],ck:=[(69,[.lk (.int .u8),.lk .str,.lk (.int .i64),.lk .ptr,.lk .ptr])]},ex:=1}
def N6:Code:=cC (cw Tryz.f114) 7
def Mc:List (Nat×LI):=[(7,F8)]
def Ix(a0:AV)(a1:AV):Tree :=
 NZ a0<|NZ a0<|.aj (LK.has .str (a0.deref.hA)/\1<=a0.deref.length)<|.test (ae ((a0.deref.hA).ah)==ae (mk [48])) (NZ a0<|NZ a0<|.aj (LK.has .str (a0.deref.hA)/\1<=a0.deref.length)<|.aj (0<=(0:Int)/\(0:Int)<af ((a0.deref.hA).ah))<|.done 0 [.ptr [.v (.int .u8 (bt ((a0.deref.hA).ah) 0)),VS (mk []),VI 0,.v (.pointer none),.v (.pointer none)]] []) (NZ a0<|NZ a0<|.aj (LK.has .str (a0.deref.hA)/\1<=a0.deref.length)<|.test (ae ((a0.deref.hA).ah)==ae (mk [49])) (NZ a0<|NZ a0<|.aj (LK.has .str (a0.deref.hA)/\1<=a0.deref.length)<|.aj (0<=(0:Int)/\(0:Int)<af ((a0.deref.hA).ah))<|.done 0 [.ptr [.v (.int .u8 (bt ((a0.deref.hA).ah) 0)),VS (mk []),VI 0,.v (.pointer none),.v (.pointer none)]] []) (NZ a0<|NZ a0<|.aj (LK.has .str (a0.deref.hA)/\1<=a0.deref.length)<|.call 145 [VS ((a0.deref.hA).ah)] [] fun r1 o1=>NB r1<|.test r1.toBool (NZ a0<|NZ a0<|.aj (LK.has .str (a0.deref.hA)/\1<=a0.deref.length)<|.done 0 [.ptr [.v (.int .u8 110),VS ((a0.deref.hA).ah),VI 0,.v (.pointer none),.v (.pointer none)]] []) (NZ a0<|NZ a0<|.aj (LK.has .str (a0.deref.hA)/\1<=a0.deref.length)<|.call 146 [VS ((a0.deref.hA).ah)] [] fun r2 o2=>NB r2<|.test r2.toBool (NL a1<|.loop N6 F8 [a0,a1,VI (IntKind.wrap .i64 ((a1.aJ.length:Int)-1))] [] (fun y3 q3=>NP (y3.hA)<|NZ (y3.hA)<|NZ (y3.hA)<|.aj (LK.has .str ((y3.hA).deref.hA)/\1<=((y3.hA).deref).length)<|.done 0 [.ptr [.v (.int .u8 110),VS (((y3.hA).deref.hA).ah),VI 0,.v (.pointer none),.v (.pointer none)]] []) (fun y3 q3=>.aj ((q3.hO)=.cells (q3.hO).cs)<|.aj (ac [.lk (.int .u8),.lk .str,.lk (.int .i64),.lk .ptr,.lk .ptr] ((q3.hO).cs) 0 q3.tail)<|.done 0 [.ptr [.v (.int .u8 (((q3.hO).cs.getD 0 .any).toInt)),VS (((q3.hO).cs.getD 1 .any).ah),VI (((q3.hO).cs.getD 2 .any).toInt),((q3.hO).cs.getD 3 .any),((q3.hO).cs.getD 4 .any)]] [])) (.call 147 [a0,VS (mk [43]),VI 3] [] fun r4 o4=>NB r4<|.test r4.toBool (NZ a0<|NZ a0<|mE (a0.deref.drop 1)<|NG ((a0.deref.drop 1).hA) 1 1<|dR (((a0.deref.drop 1).hA).ix (1:Int))<|.call 114 [((((a0.deref.drop 1).hA).ix (1:Int)).hA),a1] [] fun r5 o5=>NP r5<|NZ a0<|NZ a0<|mE (a0.deref.drop 1)<|NG ((a0.deref.drop 1).hA) 2 1<|dR (((a0.deref.drop 1).hA).ix (2:Int))<|.call 114 [((((a0.deref.drop 1).hA).ix (2:Int)).hA),a1] [] fun r6 o6=>NP r6<|NP r5<|.test r5.isNil (.done 0 [.v (.pointer none)] []) (NP r6<|.test r6.isNil (.done 0 [.v (.pointer none)] []) (NZ a0<|NZ a0<|mE (a0.deref.drop 1)<|NG ((a0.deref.drop 1).hA) 0 1<|dR (((a0.deref.drop 1).hA).ix (0:Int))<|NZ ((((a0.deref.drop 1).hA).ix (0:Int)).hA)<|NZ ((((a0.deref.drop 1).hA).ix (0:Int)).hA)<|.aj (LK.has .str (((((a0.deref.drop 1).hA).ix (0:Int)).hA).deref.hA)/\1<=(((((a0.deref.drop 1).hA).ix (0:Int)).hA).deref).length)<|.aj (0<=(0:Int)/\(0:Int)<af ((((((a0.deref.drop 1).hA).ix (0:Int)).hA).deref.hA).ah))<|.done 0 [.ptr [.v (.int .u8 (bt ((((((a0.deref.drop 1).hA).ix (0:Int)).hA).deref.hA).ah) 0)),VS (mk []),VI 0,r5,r6]] []))) (.call 147 [a0,VS (mk [42]),VI 3] [] fun r7 o7=>NB r7<|.test r7.toBool (NZ a0<|NZ a0<|mE (a0.deref.drop 1)<|NG ((a0.deref.drop 1).hA) 1 1<|dR (((a0.deref.drop 1).hA).ix (1:Int))<|.call 114 [((((a0.deref.drop 1).hA).ix (1:Int)).hA),a1] [] fun r8 o8=>NP r8<|NZ a0<|NZ a0<|mE (a0.deref.drop 1)<|NG ((a0.deref.drop 1).hA) 2 1<|dR (((a0.deref.drop 1).hA).ix (2:Int))<|.call 114 [((((a0.deref.drop 1).hA).ix (2:Int)).hA),a1] [] fun r9 o9=>NP r9<|NP r8<|.test r8.isNil (.done 0 [.v (.pointer none)] []) (NP r9<|.test r9.isNil (.done 0 [.v (.pointer none)] []) (NZ a0<|NZ a0<|mE (a0.deref.drop 1)<|NG ((a0.deref.drop 1).hA) 0 1<|dR (((a0.deref.drop 1).hA).ix (0:Int))<|NZ ((((a0.deref.drop 1).hA).ix (0:Int)).hA)<|NZ ((((a0.deref.drop 1).hA).ix (0:Int)).hA)<|.aj (LK.has .str (((((a0.deref.drop 1).hA).ix (0:Int)).hA).deref.hA)/\1<=(((((a0.deref.drop 1).hA).ix (0:Int)).hA).deref).length)<|.aj (0<=(0:Int)/\(0:Int)<af ((((((a0.deref.drop 1).hA).ix (0:Int)).hA).deref.hA).ah))<|.done 0 [.ptr [.v (.int .u8 (bt ((((((a0.deref.drop 1).hA).ix (0:Int)).hA).deref.hA).ah) 0)),VS (mk []),VI 0,r8,r9]] []))) (.call 147 [a0,VS (mk [114,101,99]),VI 3] [] fun r10 o10=>NB r10<|.test r10.toBool (NZ a0<|NZ a0<|mE (a0.deref.drop 1)<|NG ((a0.deref.drop 1).hA) 1 1<|dR (((a0.deref.drop 1).hA).ix (1:Int))<|NZ ((((a0.deref.drop 1).hA).ix (1:Int)).hA)<|NZ ((((a0.deref.drop 1).hA).ix (1:Int)).hA)<|.aj (LK.has .str (((((a0.deref.drop 1).hA).ix (1:Int)).hA).deref.hA)/\1<=(((((a0.deref.drop 1).hA).ix (1:Int)).hA).deref).length)<|.call 146 [VS ((((((a0.deref.drop 1).hA).ix (1:Int)).hA).deref.hA).ah)] [] fun r11 o11=>NB r11<|.test r11.toBool (NZ a0<|NZ a0<|mE (a0.deref.drop 1)<|NG ((a0.deref.drop 1).hA) 2 1<|dR (((a0.deref.drop 1).hA).ix (2:Int))<|.aj (LK.has .sl a1/\cr 1 a1.aJ/\((([]:List (List AV)).length)+a1.aJ.length)*16<=140737488355328)<|NZ a0<|NZ a0<|mE (a0.deref.drop 1)<|NG ((a0.deref.drop 1).hA) 1 1<|dR (((a0.deref.drop 1).hA).ix (1:Int))<|NZ ((((a0.deref.drop 1).hA).ix (1:Int)).hA)<|NZ ((((a0.deref.drop 1).hA).ix (1:Int)).hA)<|.aj (LK.has .str (((((a0.deref.drop 1).hA).ix (1:Int)).hA).deref.hA)/\1<=(((((a0.deref.drop 1).hA).ix (1:Int)).hA).deref).length)<|.aj (cr 1 [[VS ((((((a0.deref.drop 1).hA).ix (1:Int)).hA).deref.hA).ah)]]/\(((([]:List (List AV))++a1.aJ).length)+([[VS ((((((a0.deref.drop 1).hA).ix (1:Int)).hA).deref.hA).ah)]]:List (List AV)).length)*16<=140737488355328)<|.call 114 [((((a0.deref.drop 1).hA).ix (2:Int)).hA),.sl ((([]:List (List AV))++a1.aJ)++([[VS ((((((a0.deref.drop 1).hA).ix (1:Int)).hA).deref.hA).ah)]]:List (List AV)))] [] fun r12 o12=>NP r12<|NP r12<|.test r12.isNil (.done 0 [.v (.pointer none)] []) (.done 0 [.ptr [.v (.int .u8 114),VS (mk []),VI 0,r12,.v (.pointer none)]] [])) (.done 0 [.v (.pointer none)] [])) (.done 0 [.v (.pointer none)] [])))))))
theorem Ky(a0:AV)(a1:AV)(ha0:LK.has .ptr a0)(ha1:LK.has .sl a1)(h:di 160 (Ix a0 a1) R):ap Tryz.prog 114 [a0,a1] [] R :=
 uQ (ag (bD ha0) (ag (bJ ha1) aA)) (oQ Mc Tryz.f114 h)
def Ip(x0:AV)(x1:AV)(x5:Int):Tree :=
 NP x0<|NL x1<|NI (VI x5)<|.test (decide (x5≥(0:Int))) (NG x1 x5 1<|kK (x1.ix x5)<|NZ x0<|NZ x0<|.aj (LK.has .str (x0.deref.hA)/\1<=x0.deref.length)<|.test (ae (((x1.ix x5).hA).ah)==ae ((x0.deref.hA).ah)) (NL x1<|.done 2 [] [.cells [.v (.int .u8 98),VS (mk []),VI (IntKind.wrap .i64 ((IntKind.wrap .i64 ((x1.aJ.length:Int)-1))-x5)),.v (.pointer none),.v (.pointer none)]]) (.done 0 [x0,x1,VI (IntKind.wrap .i64 (x5-1))] [])) (.done 1 [x0] [])
abbrev Gu:=cy Tryz.prog 160 N6 F8
theorem JC(x0:AV)(x1:AV)(x5:Int)(h:jx 160 (Ip x0 x1 x5) Gu U):Gu [x0,x1,VI x5] [] U :=
 gQ Mc h
def FA(a0:AV):Tree :=
 NZ a0<|NZ a0<|.aj (LK.has (.int .u8) (a0.deref.hA)/\1<=a0.deref.length)<|.test (((a0.deref.hA).toInt)==(43:Int)) (NZ a0<|NZ a0<|dR (a0.deref.drop 3)<|.call 115 [((a0.deref.drop 3).hA)] [] fun r1 o1=>NI r1<|NZ a0<|NZ a0<|dR (a0.deref.drop 4)<|.call 115 [((a0.deref.drop 4).hA)] [] fun r2 o2=>NI r2<|.done 0 [VI (IntKind.wrap .i64 ((IntKind.wrap .i64 (1+r1.toInt))+r2.toInt))] []) (.test (((a0.deref.hA).toInt)==(42:Int)) (NZ a0<|NZ a0<|dR (a0.deref.drop 3)<|.call 115 [((a0.deref.drop 3).hA)] [] fun r3 o3=>NI r3<|NZ a0<|NZ a0<|dR (a0.deref.drop 4)<|.call 115 [((a0.deref.drop 4).hA)] [] fun r4 o4=>NI r4<|.done 0 [VI (IntKind.wrap .i64 ((IntKind.wrap .i64 (1+r3.toInt))+r4.toInt))] []) (.test (((a0.deref.hA).toInt)==(114:Int)) (NZ a0<|NZ a0<|dR (a0.deref.drop 3)<|.call 115 [((a0.deref.drop 3).hA)] [] fun r5 o5=>NI r5<|.done 0 [VI (IntKind.wrap .i64 (2+r5.toInt))] []) (.done 0 [VI 1] [])))
theorem xJ(a0:AV)(ha0:LK.has .ptr a0)(h:di 30 (FA a0) R):ap Tryz.prog 115 [a0] [] R :=
 uQ (ag (bD ha0) aA) (oQ [] Tryz.f115 h)
def Pn(a0_0:Int)(a0_1:Bool):Tree :=
 .call 148 [VI (IntKind.wrap .i64 (a0_0+1))] [] fun r1 o1=>NS r1<|.aj (af (mk [35])+af r1.ah<=9223372036854775807)<|.done 0 [VS (((mk [35]):ByteArray)++r1.ah)] [.cells [VI (IntKind.wrap .i64 (a0_0+1)),VB a0_1]]
theorem R4(a0_0:Int)(a0_1:Bool)(h:di 16 (Pn a0_0 a0_1) R):ap Tryz.prog 116 [.ref 0 0] [.cells [VI a0_0,VB a0_1]] R :=
 ap.nE (bA (cd (ag (aw _) (ag (IM _) aA))) cz) (ap.up (ag (aw _) aA) (oF [] {mu:=[(0,.one (.obj [.lk (.int .i64),.lk .bool]))],own:=[]} Tryz.f116 h))
def K1(a0_0:Int)(a0_1:Bool)(a1:AV):Tree :=
 .test a0_1 (.done 0 [.ptr [.v (.int .u8 48),VS (mk []),VI 0,.v (.pointer none),.v (.pointer none)]] [.cells [VI a0_0,VB true]]) (.call 115 [a1] [] fun r1 o1=>NI r1<|.test (decide (r1.toInt>(400:Int))) (.done 0 [.ptr [.v (.int .u8 48),VS (mk []),VI 0,.v (.pointer none),.v (.pointer none)]] [.cells [VI a0_0,VB true]]) (.done 0 [a1] [.cells [VI a0_0,VB a0_1]]))
theorem SU(a0_0:Int)(a0_1:Bool)(a1:AV)(ha1:LK.has .ptr a1)(h:di 20 (K1 a0_0 a0_1 a1) R):ap Tryz.prog 117 [.ref 0 0,a1] [.cells [VI a0_0,VB a0_1]] R :=
 ap.nE (bA (cd (ag (aw _) (ag (IM _) aA))) cz) (ap.up (ag (aw _) (ag (bD ha1) aA)) (oF [] {mu:=[(0,.one (.obj [.lk (.int .i64),.lk .bool]))],own:=[]} Tryz.f117 h))
def Di(a0_0:Int)(a0_1:Bool)(a1:AV)(a2:ByteArray):Tree :=
 .test a0_1 (.done 0 [.ptr [.v (.int .u8 48),VS (mk []),VI 0,.v (.pointer none),.v (.pointer none)]] [.cells [VI a0_0,VB a0_1]]) (NZ a1<|NZ a1<|.aj (LK.has (.int .u8) (a1.deref.hA)/\1<=a1.deref.length)<|.test (((a1.deref.hA).toInt)==(110:Int)) (NZ a1<|NZ a1<|kK (a1.deref.drop 1)<|.test (ae (((a1.deref.drop 1).hA).ah)==ae a2) (.done 0 [.ptr [.v (.int .u8 49),VS (mk []),VI 0,.v (.pointer none),.v (.pointer none)]] [.cells [VI a0_0,VB a0_1]]) (.done 0 [.ptr [.v (.int .u8 48),VS (mk []),VI 0,.v (.pointer none),.v (.pointer none)]] [.cells [VI a0_0,VB a0_1]])) (.test (((a1.deref.hA).toInt)==(43:Int)) (NZ a1<|NZ a1<|dR (a1.deref.drop 3)<|.call 118 [.ref 0 0,((a1.deref.drop 3).hA),VS a2] [.cells [VI a0_0,VB a0_1]] fun r1 o1=>.aj ((o1.hO)=.cells (o1.hO).cs)<|.aj (aM [.lk (.int .i64),.lk .bool] ((o1.hO).cs) 0 1 o1.tail)<|NP r1<|NZ a1<|NZ a1<|dR (a1.deref.drop 4)<|.call 118 [.ref 0 0,((a1.deref.drop 4).hA),VS a2] [.cells [VI (((o1.hO).cs.getD 0 .any).toInt),VB (((o1.hO).cs.getD 1 .any).toBool)]] fun r2 o2=>.aj ((o2.hO)=.cells (o2.hO).cs)<|.aj (aM [.lk (.int .i64),.lk .bool] ((o2.hO).cs) 0 1 o2.tail)<|NP r2<|.call 149 [.v (.int .u8 43),r1,r2] [] fun r3 o3=>NP r3<|.call 117 [.ref 0 0,r3] [.cells [VI (((o2.hO).cs.getD 0 .any).toInt),VB (((o2.hO).cs.getD 1 .any).toBool)]] fun r4 o4=>.aj ((o4.hO)=.cells (o4.hO).cs)<|.aj (aM [.lk (.int .i64),.lk .bool] ((o4.hO).cs) 0 1 o4.tail)<|NP r4<|.done 0 [r4] [.cells [VI (((o4.hO).cs.getD 0 .any).toInt),VB (((o4.hO).cs.getD 1 .any).toBool)]]) (.test (((a1.deref.hA).toInt)==(42:Int)) (NZ a1<|NZ a1<|dR (a1.deref.drop 3)<|.call 118 [.ref 0 0,((a1.deref.drop 3).hA),VS a2] [.cells [VI a0_0,VB a0_1]] fun r5 o5=>.aj ((o5.hO)=.cells (o5.hO).cs)<|.aj (aM [.lk (.int .i64),.lk .bool] ((o5.hO).cs) 0 1 o5.tail)<|NP r5<|NZ a1<|NZ a1<|dR (a1.deref.drop 4)<|.call 149 [.v (.int .u8 42),r5,((a1.deref.drop 4).hA)] [] fun r6 o6=>NP r6<|NZ a1<|NZ a1<|dR (a1.deref.drop 3)<|NZ a1<|NZ a1<|dR (a1.deref.drop 4)<|.call 118 [.ref 0 0,((a1.deref.drop 4).hA),VS a2] [.cells [VI (((o5.hO).cs.getD 0 .any).toInt),VB (((o5.hO).cs.getD 1 .any).toBool)]] fun r7 o7=>.aj ((o7.hO)=.cells (o7.hO).cs)<|.aj (aM [.lk (.int .i64),.lk .bool] ((o7.hO).cs) 0 1 o7.tail)<|NP r7<|.call 149 [.v (.int .u8 42),((a1.deref.drop 3).hA),r7] [] fun r8 o8=>NP r8<|.call 149 [.v (.int .u8 43),r6,r8] [] fun r9 o9=>NP r9<|.call 117 [.ref 0 0,r9] [.cells [VI (((o7.hO).cs.getD 0 .any).toInt),VB (((o7.hO).cs.getD 1 .any).toBool)]] fun r10 o10=>.aj ((o10.hO)=.cells (o10.hO).cs)<|.aj (aM [.lk (.int .i64),.lk .bool] ((o10.hO).cs) 0 1 o10.tail)<|NP r10<|.done 0 [r10] [.cells [VI (((o10.hO).cs.getD 0 .any).toInt),VB (((o10.hO).cs.getD 1 .any).toBool)]]) (.test (((a1.deref.hA).toInt)==(114:Int)) (.call 116 [.ref 0 0] [.cells [VI a0_0,VB a0_1]] fun r11 o11=>.aj ((o11.hO)=.cells (o11.hO).cs)<|.aj (aM [.lk (.int .i64),.lk .bool] ((o11.hO).cs) 0 1 o11.tail)<|NS r11<|NZ a1<|NZ a1<|dR (a1.deref.drop 3)<|.call 119 [((a1.deref.drop 3).hA),.ptr [.v (.int .u8 110),VS r11.ah,VI 0,.v (.pointer none),.v (.pointer none)],VI 0] [] fun r12 o12=>NP r12<|.call 118 [.ref 0 0,r12,VS a2] [.cells [VI (((o11.hO).cs.getD 0 .any).toInt),VB (((o11.hO).cs.getD 1 .any).toBool)]] fun r13 o13=>.aj ((o13.hO)=.cells (o13.hO).cs)<|.aj (aM [.lk (.int .i64),.lk .bool] ((o13.hO).cs) 0 1 o13.tail)<|NP r13<|.call 117 [.ref 0 0,r13] [.cells [VI (((o13.hO).cs.getD 0 .any).toInt),VB (((o13.hO).cs.getD 1 .any).toBool)]] fun r14 o14=>.aj ((o14.hO)=.cells (o14.hO).cs)<|.aj (aM [.lk (.int .i64),.lk .bool] ((o14.hO).cs) 0 1 o14.tail)<|NP r14<|.call 120 [r14,VS r11.ah,a1] [] fun r15 o15=>NP r15<|.call 118 [.ref 0 0,r12,VS r11.ah] [.cells [VI (((o14.hO).cs.getD 0 .any).toInt),VB (((o14.hO).cs.getD 1 .any).toBool)]] fun r16 o16=>.aj ((o16.hO)=.cells (o16.hO).cs)<|.aj (aM [.lk (.int .i64),.lk .bool] ((o16.hO).cs) 0 1 o16.tail)<|NP r16<|.call 117 [.ref 0 0,r16] [.cells [VI (((o16.hO).cs.getD 0 .any).toInt),VB (((o16.hO).cs.getD 1 .any).toBool)]] fun r17 o17=>.aj ((o17.hO)=.cells (o17.hO).cs)<|.aj (aM [.lk (.int .i64),.lk .bool] ((o17.hO).cs) 0 1 o17.tail)<|NP r17<|.call 120 [r17,VS r11.ah,a1] [] fun r18 o18=>NP r18<|.call 149 [.v (.int .u8 42),r18,.ptr [.v (.int .u8 98),VS (mk []),VI 0,.v (.pointer none),.v (.pointer none)]] [] fun r19 o19=>NP r19<|.call 149 [.v (.int .u8 43),r15,r19] [] fun r20 o20=>NP r20<|.call 117 [.ref 0 0,.ptr [.v (.int .u8 114),VS (mk []),VI 0,r20,.v (.pointer none)]] [.cells [VI (((o17.hO).cs.getD 0 .any).toInt),VB (((o17.hO).cs.getD 1 .any).toBool)]] fun r21 o21=>.aj ((o21.hO)=.cells (o21.hO).cs)<|.aj (aM [.lk (.int .i64),.lk .bool] ((o21.hO).cs) 0 1 o21.tail)<|NP r21<|.done 0 [r21] [.cells [VI (((o21.hO).cs.getD 0 .any).toInt),VB (((o21.hO).cs.getD 1 .any).toBool)]]) (.done 0 [.ptr [.v (.int .u8 48),VS (mk []),VI 0,.v (.pointer none),.v (.pointer none)]] [.cells [VI a0_0,VB a0_1]])))))
theorem OK(a0_0:Int)(a0_1:Bool)(a1:AV)(a2:ByteArray)(ha1:LK.has .ptr a1)(h:di 121 (Di a0_0 a0_1 a1 a2) R):ap Tryz.prog 118 [.ref 0 0,a1,VS a2] [.cells [VI a0_0,VB a0_1]] R :=
 ap.nE (bA (cd (ag (aw _) (ag (IM _) aA))) cz) (ap.up (ag (aw _) (ag (bD ha1) (ag (aw _) aA))) (oF [] {mu:=[(0,.one (.obj [.lk (.int .i64),.lk .bool]))],own:=[]} Tryz.f118 h))
def E5(a0:AV)(a1:AV)(a2:Int):Tree :=
 NZ a0<|NZ a0<|.aj (LK.has (.int .u8) (a0.deref.hA)/\1<=a0.deref.length)<|.test (((a0.deref.hA).toInt)==(98:Int)) (NZ a0<|NZ a0<|.aj (LK.has (.int .i64) ((a0.deref.drop 2).hA)/\1<=(a0.deref.drop 2).length)<|.test ((((a0.deref.drop 2).hA).toInt)==a2) (.done 0 [a1] []) (.done 0 [a0] [])) (.test (((a0.deref.hA).toInt)==(43:Int)) (NZ a0<|NZ a0<|.aj (LK.has (.int .u8) (a0.deref.hA)/\1<=a0.deref.length)<|NZ a0<|NZ a0<|dR (a0.deref.drop 3)<|.call 119 [((a0.deref.drop 3).hA),a1,VI a2] [] fun r1 o1=>NP r1<|NZ a0<|NZ a0<|dR (a0.deref.drop 4)<|.call 119 [((a0.deref.drop 4).hA),a1,VI a2] [] fun r2 o2=>NP r2<|.done 0 [.ptr [.v (.int .u8 ((a0.deref.hA).toInt)),VS (mk []),VI 0,r1,r2]] []) (.test (((a0.deref.hA).toInt)==(42:Int)) (NZ a0<|NZ a0<|.aj (LK.has (.int .u8) (a0.deref.hA)/\1<=a0.deref.length)<|NZ a0<|NZ a0<|dR (a0.deref.drop 3)<|.call 119 [((a0.deref.drop 3).hA),a1,VI a2] [] fun r3 o3=>NP r3<|NZ a0<|NZ a0<|dR (a0.deref.drop 4)<|.call 119 [((a0.deref.drop 4).hA),a1,VI a2] [] fun r4 o4=>NP r4<|.done 0 [.ptr [.v (.int .u8 ((a0.deref.hA).toInt)),VS (mk []),VI 0,r3,r4]] []) (.test (((a0.deref.hA).toInt)==(114:Int)) (NZ a0<|NZ a0<|dR (a0.deref.drop 3)<|.call 119 [((a0.deref.drop 3).hA),a1,VI (IntKind.wrap .i64 (a2+1))] [] fun r5 o5=>NP r5<|.done 0 [.ptr [.v (.int .u8 114),VS (mk []),VI 0,r5,.v (.pointer none)]] []) (.done 0 [a0] []))))
theorem Is(a0:AV)(a1:AV)(a2:Int)(ha0:LK.has .ptr a0)(ha1:LK.has .ptr a1)(h:di 56 (E5 a0 a1 a2) R):ap Tryz.prog 119 [a0,a1,VI a2] [] R :=
 uQ (ag (bD ha0) (ag (bD ha1) (ag (aw _) aA))) (oQ [] Tryz.f119 h)
def Fi(a0:AV)(a1:ByteArray)(a2:AV):Tree :=
 NZ a0<|NZ a0<|.aj (LK.has (.int .u8) (a0.deref.hA)/\1<=a0.deref.length)<|.test (((a0.deref.hA).toInt)==(110:Int)) (NZ a0<|NZ a0<|kK (a0.deref.drop 1)<|.test (ae (((a0.deref.drop 1).hA).ah)==ae a1) (.done 0 [a2] []) (.done 0 [a0] [])) (.test (((a0.deref.hA).toInt)==(43:Int)) (NZ a0<|NZ a0<|.aj (LK.has (.int .u8) (a0.deref.hA)/\1<=a0.deref.length)<|NZ a0<|NZ a0<|dR (a0.deref.drop 3)<|.call 120 [((a0.deref.drop 3).hA),VS a1,a2] [] fun r1 o1=>NP r1<|NZ a0<|NZ a0<|dR (a0.deref.drop 4)<|.call 120 [((a0.deref.drop 4).hA),VS a1,a2] [] fun r2 o2=>NP r2<|.done 0 [.ptr [.v (.int .u8 ((a0.deref.hA).toInt)),VS (mk []),VI 0,r1,r2]] []) (.test (((a0.deref.hA).toInt)==(42:Int)) (NZ a0<|NZ a0<|.aj (LK.has (.int .u8) (a0.deref.hA)/\1<=a0.deref.length)<|NZ a0<|NZ a0<|dR (a0.deref.drop 3)<|.call 120 [((a0.deref.drop 3).hA),VS a1,a2] [] fun r3 o3=>NP r3<|NZ a0<|NZ a0<|dR (a0.deref.drop 4)<|.call 120 [((a0.deref.drop 4).hA),VS a1,a2] [] fun r4 o4=>NP r4<|.done 0 [.ptr [.v (.int .u8 ((a0.deref.hA).toInt)),VS (mk []),VI 0,r3,r4]] []) (.test (((a0.deref.hA).toInt)==(114:Int)) (NZ a0<|NZ a0<|dR (a0.deref.drop 3)<|.call 120 [((a0.deref.drop 3).hA),VS a1,a2] [] fun r5 o5=>NP r5<|.done 0 [.ptr [.v (.int .u8 114),VS (mk []),VI 0,r5,.v (.pointer none)]] []) (.done 0 [a0] []))))
theorem xy(a0:AV)(a1:ByteArray)(a2:AV)(ha0:LK.has .ptr a0)(ha2:LK.has .ptr a2)(h:di 55 (Fi a0 a1 a2) R):ap Tryz.prog 120 [a0,VS a1,a2] [] R :=
 uQ (ag (bD ha0) (ag (aw _) (ag (bD ha2) aA))) (oQ [] Tryz.f120 h)
def OH(a0:AV):Tree :=
 .call 150 [a0] [] fun r1 o1=>NL r1<|.call 151 [a0,.v (.slice none 0 0),.gK 151 [none,some 0,some 1],.ref 0 0,.ref 1 0] [.cells [r1],.cells [VI 0]] fun r2 o2=>.aj ((o2.hO)=.cells (o2.hO).cs)<|.aj (aM [.lk .sl] ((o2.hO).cs) 0 1 o2.tail)<|.aj ((o2.tail.hO)=.cells (o2.tail.hO).cs)<|.aj (aM [.lk (.int .i64)] ((o2.tail.hO).cs) 0 2 o2.tail.tail)<|NS r2<|.done 0 [VS r2.ah] []
theorem Sf(a0:AV)(ha0:LK.has .ptr a0)(h:di 12 (OH a0) R):ap Tryz.prog 121 [a0] [] R :=
 uQ (ag (bD ha0) aA) (oQ [] Tryz.f121 h)
def O2(a0:AV):Tree :=
 .call 150 [a0] [] fun r1 o1=>NL r1<|.call 153 [r1,.v (.func (.func 146) #[] #[])] [] fun r2 o2=>NB r2<|.done 0 [VB (!r2.toBool)] []
theorem Qc(a0:AV)(ha0:LK.has .ptr a0)(h:di 7 (O2 a0) R):ap Tryz.prog 122 [a0] [] R :=
 uQ (ag (bD ha0) aA) (oQ [] Tryz.f122 h)
def FP(a0:AV):Tree :=
 NZ a0<|NZ a0<|.aj (LK.has .str (a0.deref.hA)/\1<=a0.deref.length)<|.test (ae ((a0.deref.hA).ah)==ae (mk [117])) (.done 0 [.ptr [.v (.int .u8 117),VS (mk []),.v (.pointer none),.v (.pointer none)]] []) (NZ a0<|NZ a0<|.aj (LK.has .str (a0.deref.hA)/\1<=a0.deref.length)<|.call 154 [VS ((a0.deref.hA).ah)] [] fun r1 o1=>NB r1<|.test r1.toBool (NZ a0<|NZ a0<|.aj (LK.has .str (a0.deref.hA)/\1<=a0.deref.length)<|.done 0 [.ptr [.v (.int .u8 101),VS ((a0.deref.hA).ah),.v (.pointer none),.v (.pointer none)]] []) (.call 147 [a0,VS (mk [108]),VI 2] [] fun r2 o2=>NB r2<|.test r2.toBool (NZ a0<|NZ a0<|mE (a0.deref.drop 1)<|NG ((a0.deref.drop 1).hA) 1 1<|dR (((a0.deref.drop 1).hA).ix (1:Int))<|.call 123 [((((a0.deref.drop 1).hA).ix (1:Int)).hA)] [] fun r3 o3=>NP r3<|NP r3<|.test r3.isNil (.done 0 [.v (.pointer none)] []) (NZ a0<|NZ a0<|mE (a0.deref.drop 1)<|NG ((a0.deref.drop 1).hA) 0 1<|dR (((a0.deref.drop 1).hA).ix (0:Int))<|NZ ((((a0.deref.drop 1).hA).ix (0:Int)).hA)<|NZ ((((a0.deref.drop 1).hA).ix (0:Int)).hA)<|.aj (LK.has .str (((((a0.deref.drop 1).hA).ix (0:Int)).hA).deref.hA)/\1<=(((((a0.deref.drop 1).hA).ix (0:Int)).hA).deref).length)<|.aj (0<=(0:Int)/\(0:Int)<af ((((((a0.deref.drop 1).hA).ix (0:Int)).hA).deref.hA).ah))<|.done 0 [.ptr [.v (.int .u8 (bt ((((((a0.deref.drop 1).hA).ix (0:Int)).hA).deref.hA).ah) 0)),VS (mk []),r3,.v (.pointer none)]] [])) (.call 147 [a0,VS (mk [114]),VI 2] [] fun r4 o4=>NB r4<|.test r4.toBool (NZ a0<|NZ a0<|mE (a0.deref.drop 1)<|NG ((a0.deref.drop 1).hA) 1 1<|dR (((a0.deref.drop 1).hA).ix (1:Int))<|.call 123 [((((a0.deref.drop 1).hA).ix (1:Int)).hA)] [] fun r5 o5=>NP r5<|NP r5<|.test r5.isNil (.done 0 [.v (.pointer none)] []) (NZ a0<|NZ a0<|mE (a0.deref.drop 1)<|NG ((a0.deref.drop 1).hA) 0 1<|dR (((a0.deref.drop 1).hA).ix (0:Int))<|NZ ((((a0.deref.drop 1).hA).ix (0:Int)).hA)<|NZ ((((a0.deref.drop 1).hA).ix (0:Int)).hA)<|.aj (LK.has .str (((((a0.deref.drop 1).hA).ix (0:Int)).hA).deref.hA)/\1<=(((((a0.deref.drop 1).hA).ix (0:Int)).hA).deref).length)<|.aj (0<=(0:Int)/\(0:Int)<af ((((((a0.deref.drop 1).hA).ix (0:Int)).hA).deref.hA).ah))<|.done 0 [.ptr [.v (.int .u8 (bt ((((((a0.deref.drop 1).hA).ix (0:Int)).hA).deref.hA).ah) 0)),VS (mk []),r5,.v (.pointer none)]] [])) (.call 147 [a0,VS (mk [102]),VI 2] [] fun r6 o6=>NB r6<|.test r6.toBool (NZ a0<|NZ a0<|mE (a0.deref.drop 1)<|NG ((a0.deref.drop 1).hA) 1 1<|dR (((a0.deref.drop 1).hA).ix (1:Int))<|.call 123 [((((a0.deref.drop 1).hA).ix (1:Int)).hA)] [] fun r7 o7=>NP r7<|NP r7<|.test r7.isNil (.done 0 [.v (.pointer none)] []) (NZ a0<|NZ a0<|mE (a0.deref.drop 1)<|NG ((a0.deref.drop 1).hA) 0 1<|dR (((a0.deref.drop 1).hA).ix (0:Int))<|NZ ((((a0.deref.drop 1).hA).ix (0:Int)).hA)<|NZ ((((a0.deref.drop 1).hA).ix (0:Int)).hA)<|.aj (LK.has .str (((((a0.deref.drop 1).hA).ix (0:Int)).hA).deref.hA)/\1<=(((((a0.deref.drop 1).hA).ix (0:Int)).hA).deref).length)<|.aj (0<=(0:Int)/\(0:Int)<af ((((((a0.deref.drop 1).hA).ix (0:Int)).hA).deref.hA).ah))<|.done 0 [.ptr [.v (.int .u8 (bt ((((((a0.deref.drop 1).hA).ix (0:Int)).hA).deref.hA).ah) 0)),VS (mk []),r7,.v (.pointer none)]] [])) (.call 147 [a0,VS (mk [112]),VI 3] [] fun r8 o8=>NB r8<|.test r8.toBool (NZ a0<|NZ a0<|mE (a0.deref.drop 1)<|NG ((a0.deref.drop 1).hA) 1 1<|dR (((a0.deref.drop 1).hA).ix (1:Int))<|.call 123 [((((a0.deref.drop 1).hA).ix (1:Int)).hA)] [] fun r9 o9=>NP r9<|NZ a0<|NZ a0<|mE (a0.deref.drop 1)<|NG ((a0.deref.drop 1).hA) 2 1<|dR (((a0.deref.drop 1).hA).ix (2:Int))<|.call 123 [((((a0.deref.drop 1).hA).ix (2:Int)).hA)] [] fun r10 o10=>NP r10<|NP r9<|.test r9.isNil (.done 0 [.v (.pointer none)] []) (NP r10<|.test r10.isNil (.done 0 [.v (.pointer none)] []) (.call 132 [r9,r10] [] fun r11 o11=>NP r11<|.done 0 [r11] []))) (.done 0 [.v (.pointer none)] []))))))
theorem JU(a0:AV)(ha0:LK.has .ptr a0)(h:di 85 (FP a0) R):ap Tryz.prog 123 [a0] [] R :=
 uQ (ag (bD ha0) aA) (oQ [] Tryz.f123 h)
def H3:LI:={hd:={bL:=[(3,.k .ptr),(10,.k (.int .i64)),(11,.k (.int .i64))]},xs:={bL:=[(3,.k .ptr)]},rt:={},ex:=0}
def JH:Code:=cC (cw Tryz.f125) 3
def KL:List (Nat×LI):=[(3,H3)]
def HW(a0_0:AV)(a0_1:AV):Tree :=
 NZ a0_0<|NZ a0_0<|.aj (LK.has (.int .i64) ((a0_0.deref.drop 2).hA)/\1<=(a0_0.deref.drop 2).length)<|.loop JH H3 [a0_1,VI (((a0_0.deref.drop 2).hA).toInt),VI 0] [] (fun y1 q1=>NP (y1.hA)<|NZ (y1.hA)<|NZ (y1.hA)<|.aj (LK.has .ptr ((y1.hA).deref.hA)/\1<=((y1.hA).deref).length)<|.done 0 [((y1.hA).deref.hA)] []) (fun y1 q1=>.done 0 [.any] [])
theorem Ls(a0_0:AV)(a0_1:AV)(ha0_0:LK.has .ptr a0_0)(ha0_1:LK.has .ptr a0_1)(h:di 22 (HW a0_0 a0_1) R):ap Tryz.prog 125 [.agg [a0_0,a0_1]] [] R :=
 uQ (ag (ca (ag (bD ha0_0) (ag (bD ha0_1) aA))) aA) (oQ KL Tryz.f125 h)
def CZ(x3:AV)(x10:Int)(x11:Int):Tree :=
 NP x3<|NI (VI x10)<|NI (VI x11)<|.test (decide (x11<x10)) (NZ x3<|NZ x3<|dR (x3.deref.drop 1)<|.done 0 [((x3.deref.drop 1).hA),VI x10,VI (IntKind.wrap .i64 (x11+1))] []) (.done 1 [x3] [])
abbrev Dz:=cy Tryz.prog 22 JH H3
theorem Dk(x3:AV)(x10:Int)(x11:Int)(h:jx 22 (CZ x3 x10 x11) Dz U):Dz [x3,VI x10,VI x11] [] U :=
 gQ KL h
def Nb(a0_0:AV)(a0_1:AV):Tree :=
 NZ a0_0<|NZ a0_0<|dR (a0_0.deref.drop 3)<|.done 0 [.agg [((a0_0.deref.drop 3).hA),a0_1]] []
theorem SV(a0_0:AV)(a0_1:AV)(ha0_0:LK.has .ptr a0_0)(ha0_1:LK.has .ptr a0_1)(h:di 11 (Nb a0_0 a0_1) R):ap Tryz.prog 126 [.agg [a0_0,a0_1]] [] R :=
 uQ (ag (ca (ag (bD ha0_0) (ag (bD ha0_1) aA))) aA) (oQ [] Tryz.f126 h)
def Ml(a0_0:AV)(a0_1:AV):Tree :=
 NZ a0_0<|NZ a0_0<|dR (a0_0.deref.drop 4)<|.done 0 [.agg [((a0_0.deref.drop 4).hA),a0_1]] []
theorem Tf(a0_0:AV)(a0_1:AV)(ha0_0:LK.has .ptr a0_0)(ha0_1:LK.has .ptr a0_1)(h:di 11 (Ml a0_0 a0_1) R):ap Tryz.prog 127 [.agg [a0_0,a0_1]] [] R :=
 uQ (ag (ca (ag (bD ha0_0) (ag (bD ha0_1) aA))) aA) (oQ [] Tryz.f127 h)
def EX(a0_0:ByteArray)(a0_1:AV)(a1_0:AV)(a1_1:AV):Tree :=
 NP a0_1<|.test (!a0_1.isNil) (NZ a1_0<|NZ a1_0<|.aj (LK.has (.int .u8) (a1_0.deref.hA)/\1<=a1_0.deref.length)<|.test (((a1_0.deref.hA).toInt)==(98:Int)) (.call 125 [.agg [a1_0,a1_1]] [] fun r1 o1=>NP r1<|.aj (AV.se r1/\AV.se a0_1)<|.done 0 [VB (AV.BQ r1 a0_1)] []) (.done 0 [VB false] [])) (NZ a1_0<|NZ a1_0<|.aj (LK.has (.int .u8) (a1_0.deref.hA)/\1<=a1_0.deref.length)<|.test (((a1_0.deref.hA).toInt)==(110:Int)) (NZ a1_0<|NZ a1_0<|kK (a1_0.deref.drop 1)<|.done 0 [VB (ae (((a1_0.deref.drop 1).hA).ah)==ae a0_0)] []) (.done 0 [VB false] []))
theorem R0(a0_0:ByteArray)(a0_1:AV)(a1_0:AV)(a1_1:AV)(ha0_1:LK.has .ptr a0_1)(ha1_0:LK.has .ptr a1_0)(ha1_1:LK.has .ptr a1_1)(h:di 37 (EX a0_0 a0_1 a1_0 a1_1) R):ap Tryz.prog 128 [.agg [VS a0_0,a0_1],.agg [a1_0,a1_1]] [] R :=
 uQ (ag (ca (ag (aw _) (ag (bD ha0_1) aA))) (ag (ca (ag (bD ha1_0) (ag (bD ha1_1) aA))) aA)) (oQ [] Tryz.f128 h)
def IT:LI:={hd:={bL:=[(7,.k .sl),(8,.k (.int .i64)),(9,.k (.int .i64))],refs:=[(2,1)],ck:=[(0,[.lk .ptr]),(1,[.vec 2])],AW:=[(1,130,[0])]},xs:={ck:=[(0,[.lk .ptr]),(1,[.vec 2])]},rt:={ck:=[(0,[.lk .ptr]),(1,[.vec 2])]},ex:=0,fx:=[0,1]}
def Nq:Code:=cC (cw Tryz.f129) 1
def M6:List (Nat×LI):=[(1,IT)]
def MI(a0:AV)(a1_0_0:AV)(e2_0:List (List AV)):Tree :=
 NL a0<|.loop Nq IT [a0,VI (a0.aJ.length:Int),VI 0] [.cells [a1_0_0],.cells [.any],.vec 2 e2_0] (fun y2 q2=>.aj ((q2.hO)=.cells (q2.hO).cs)<|.aj (ac [.lk .ptr] ((q2.hO).cs) 0 q2.tail)<|.aj (((q2.tail.drop 0).hO)=.cells ((q2.tail.drop 0).hO).cs)<|.aj (ac [.vec 2] (((q2.tail.drop 0).hO).cs) 0 ((q2.tail.drop 0).tail))<|.done 0 [.any] [.cells [((q2.hO).cs.getD 0 .any)],.cells [.vec 2],.vec 2 ((q2.tail.tail.hO).es)]) (fun y2 q2=>.aj ((q2.hO)=.cells (q2.hO).cs)<|.aj (ac [.lk .ptr] ((q2.hO).cs) 0 q2.tail)<|.aj (((q2.tail.drop 0).hO)=.cells ((q2.tail.drop 0).hO).cs)<|.aj (ac [.vec 2] (((q2.tail.drop 0).hO).cs) 0 ((q2.tail.drop 0).tail))<|.done 0 [.any] [.cells [((q2.hO).cs.getD 0 .any)],.cells [.vec 2],.vec 2 ((q2.tail.tail.hO).es)])
theorem To(a0:AV)(a1_0_0:AV)(e2_0:List (List AV))(ha0:LK.has .sl a0)(ha1_0_0:LK.has .ptr a1_0_0)(h:di 24 (MI a0 a1_0_0 e2_0) R):ap Tryz.prog 129 [a0,.fn 130 [.ref 0 0],.ref 1 0] [.cells [a1_0_0],.cells [.vec 2],.vec 2 e2_0] R :=
 ap.nE (bA (cd (ag (bD ha1_0_0) aA)) (bA (cd (ag (aw _) aA)) (bA (fC _) cz))) (ap.up (ag (bJ ha0) (ag (aw _) (ag (aw _) aA))) (oF M6 {mu:=[(1,.fn [some (.obj [.lk .ptr])]),(2,.one (.obj [.vec 2]))],own:=[]} Tryz.f129 h))
def Hz(x7:AV)(x8:Int)(x9:Int)(o0_0:AV)(o1_0:List (List AV)):Tree :=
 NL x7<|NI (VI x8)<|NI (VI x9)<|.aj (Ob.cells [o0_0]=.cells [o0_0])<|.aj (ac [.lk .ptr] [o0_0] 0 [.cells [.any],.vec 2 o1_0])<|.aj (Ob.cells [.any]=.cells [.any])<|.aj (ac [.vec 2] [.any] 0 [.vec 2 o1_0])<|.test (decide (x9<x8)) (NG x7 x9 2<|.aj (bz [.ptr,.ptr] (x7.ix x9) 0/\2<=(x7.ix x9).length)<|.call 130 [((x7.ix x9).getD 0 .any),.ref 0 0] [.cells [o0_0]] fun r1 o1=>.aj ((o1.hO)=.cells (o1.hO).cs)<|.aj (aM [.lk .ptr] ((o1.hO).cs) 0 1 o1.tail)<|NP r1<|.aj (cr 2 [[r1,((x7.ix x9).getD 1 .any)]]/\((o1_0.length)+([[r1,((x7.ix x9).getD 1 .any)]]:List (List AV)).length)*16<=140737488355328)<|.done 0 [x7,VI x8,VI (IntKind.wrap .i64 (x9+1))] [.cells [((o1.hO).cs.getD 0 .any)],.cells [.any],.vec 2 (o1_0++([[r1,((x7.ix x9).getD 1 .any)]]:List (List AV)))]) (.done 1 [] [.cells [o0_0],.cells [.any],.vec 2 o1_0])
abbrev GV:=cy Tryz.prog 24 Nq IT
theorem JD(x7:AV)(x8:Int)(x9:Int)(o0_0:AV)(o1_0:List (List AV))(h:jx 24 (Hz x7 x8 x9 o0_0 o1_0) GV U):GV [x7,VI x8,VI x9] [.cells [o0_0],.cells [.any],.vec 2 o1_0] U :=
 gQ M6 h
def I8:LI:={hd:={bL:=[(7,.k .sl),(8,.k (.int .i64)),(9,.k (.int .i64))],refs:=[(2,1)],ck:=[(0,[.lk .ptr]),(1,[.vec 2])],AW:=[(1,131,[0])]},xs:={ck:=[(0,[.lk .ptr]),(1,[.vec 2])]},rt:={ck:=[(0,[.lk .ptr]),(1,[.vec 2])]},ex:=0,fx:=[0,1]}
def OR:Code:=cC (cw Tryz.f129) 1
def Ni:List (Nat×LI):=[(1,I8)]
def Ph(a0:AV)(a1_0_0:AV)(e2_0:List (List AV)):Tree :=
 NL a0<|.loop OR I8 [a0,VI (a0.aJ.length:Int),VI 0] [.cells [a1_0_0],.cells [.any],.vec 2 e2_0] (fun y2 q2=>.aj ((q2.hO)=.cells (q2.hO).cs)<|.aj (ac [.lk .ptr] ((q2.hO).cs) 0 q2.tail)<|.aj (((q2.tail.drop 0).hO)=.cells ((q2.tail.drop 0).hO).cs)<|.aj (ac [.vec 2] (((q2.tail.drop 0).hO).cs) 0 ((q2.tail.drop 0).tail))<|.done 0 [.any] [.cells [((q2.hO).cs.getD 0 .any)],.cells [.vec 2],.vec 2 ((q2.tail.tail.hO).es)]) (fun y2 q2=>.aj ((q2.hO)=.cells (q2.hO).cs)<|.aj (ac [.lk .ptr] ((q2.hO).cs) 0 q2.tail)<|.aj (((q2.tail.drop 0).hO)=.cells ((q2.tail.drop 0).hO).cs)<|.aj (ac [.vec 2] (((q2.tail.drop 0).hO).cs) 0 ((q2.tail.drop 0).tail))<|.done 0 [.any] [.cells [((q2.hO).cs.getD 0 .any)],.cells [.vec 2],.vec 2 ((q2.tail.tail.hO).es)])
theorem Rs(a0:AV)(a1_0_0:AV)(e2_0:List (List AV))(ha0:LK.has .sl a0)(ha1_0_0:LK.has .ptr a1_0_0)(h:di 24 (Ph a0 a1_0_0 e2_0) R):ap Tryz.prog 129 [a0,.fn 131 [.ref 0 0],.ref 1 0] [.cells [a1_0_0],.cells [.vec 2],.vec 2 e2_0] R :=
 ap.nE (bA (cd (ag (bD ha1_0_0) aA)) (bA (cd (ag (aw _) aA)) (bA (fC _) cz))) (ap.up (ag (bJ ha0) (ag (aw _) (ag (aw _) aA))) (oF Ni {mu:=[(1,.fn [some (.obj [.lk .ptr])]),(2,.one (.obj [.vec 2]))],own:=[]} Tryz.f129 h))
def Ik(x7:AV)(x8:Int)(x9:Int)(o0_0:AV)(o1_0:List (List AV)):Tree :=
 NL x7<|NI (VI x8)<|NI (VI x9)<|.aj (Ob.cells [o0_0]=.cells [o0_0])<|.aj (ac [.lk .ptr] [o0_0] 0 [.cells [.any],.vec 2 o1_0])<|.aj (Ob.cells [.any]=.cells [.any])<|.aj (ac [.vec 2] [.any] 0 [.vec 2 o1_0])<|.test (decide (x9<x8)) (NG x7 x9 2<|.aj (bz [.ptr,.ptr] (x7.ix x9) 0/\2<=(x7.ix x9).length)<|.call 131 [((x7.ix x9).getD 0 .any),.ref 0 0] [.cells [o0_0]] fun r1 o1=>.aj ((o1.hO)=.cells (o1.hO).cs)<|.aj (aM [.lk .ptr] ((o1.hO).cs) 0 1 o1.tail)<|NP r1<|.aj (cr 2 [[r1,((x7.ix x9).getD 1 .any)]]/\((o1_0.length)+([[r1,((x7.ix x9).getD 1 .any)]]:List (List AV)).length)*16<=140737488355328)<|.done 0 [x7,VI x8,VI (IntKind.wrap .i64 (x9+1))] [.cells [((o1.hO).cs.getD 0 .any)],.cells [.any],.vec 2 (o1_0++([[r1,((x7.ix x9).getD 1 .any)]]:List (List AV)))]) (.done 1 [] [.cells [o0_0],.cells [.any],.vec 2 o1_0])
abbrev Hr:=cy Tryz.prog 24 OR I8
theorem Nr(x7:AV)(x8:Int)(x9:Int)(o0_0:AV)(o1_0:List (List AV))(h:jx 24 (Ik x7 x8 x9 o0_0 o1_0) Hr U):Hr [x7,VI x8,VI x9] [.cells [o0_0],.cells [.any],.vec 2 o1_0] U :=
 gQ Ni h
def HD:LI:={hd:={bL:=[(7,.k .sl),(8,.k (.int .i64)),(9,.k (.int .i64))],refs:=[(2,1)],ck:=[(0,[.lk .ptr]),(1,[.vec 2])],AW:=[(1,133,[0])]},xs:={ck:=[(0,[.lk .ptr]),(1,[.vec 2])]},rt:={ck:=[(0,[.lk .ptr]),(1,[.vec 2])]},ex:=0,fx:=[0,1]}
def L0:Code:=cC (cw Tryz.f129) 1
def Nt:List (Nat×LI):=[(1,HD)]
def LO(a0:AV)(a1_0_0:AV)(e2_0:List (List AV)):Tree :=
 NL a0<|.loop L0 HD [a0,VI (a0.aJ.length:Int),VI 0] [.cells [a1_0_0],.cells [.any],.vec 2 e2_0] (fun y2 q2=>.aj ((q2.hO)=.cells (q2.hO).cs)<|.aj (ac [.lk .ptr] ((q2.hO).cs) 0 q2.tail)<|.aj (((q2.tail.drop 0).hO)=.cells ((q2.tail.drop 0).hO).cs)<|.aj (ac [.vec 2] (((q2.tail.drop 0).hO).cs) 0 ((q2.tail.drop 0).tail))<|.done 0 [.any] [.cells [((q2.hO).cs.getD 0 .any)],.cells [.vec 2],.vec 2 ((q2.tail.tail.hO).es)]) (fun y2 q2=>.aj ((q2.hO)=.cells (q2.hO).cs)<|.aj (ac [.lk .ptr] ((q2.hO).cs) 0 q2.tail)<|.aj (((q2.tail.drop 0).hO)=.cells ((q2.tail.drop 0).hO).cs)<|.aj (ac [.vec 2] (((q2.tail.drop 0).hO).cs) 0 ((q2.tail.drop 0).tail))<|.done 0 [.any] [.cells [((q2.hO).cs.getD 0 .any)],.cells [.vec 2],.vec 2 ((q2.tail.tail.hO).es)])
theorem Td(a0:AV)(a1_0_0:AV)(e2_0:List (List AV))(ha0:LK.has .sl a0)(ha1_0_0:LK.has .ptr a1_0_0)(h:di 24 (LO a0 a1_0_0 e2_0) R):ap Tryz.prog 129 [a0,.fn 133 [.ref 0 0],.ref 1 0] [.cells [a1_0_0],.cells [.vec 2],.vec 2 e2_0] R :=
 ap.nE (bA (cd (ag (bD ha1_0_0) aA)) (bA (cd (ag (aw _) aA)) (bA (fC _) cz))) (ap.up (ag (bJ ha0) (ag (aw _) (ag (aw _) aA))) (oF Nt {mu:=[(1,.fn [some (.obj [.lk .ptr])]),(2,.one (.obj [.vec 2]))],own:=[]} Tryz.f129 h))
def GB(x7:AV)(x8:Int)(x9:Int)(o0_0:AV)(o1_0:List (List AV)):Tree :=
 NL x7<|NI (VI x8)<|NI (VI x9)<|.aj (Ob.cells [o0_0]=.cells [o0_0])<|.aj (ac [.lk .ptr] [o0_0] 0 [.cells [.any],.vec 2 o1_0])<|.aj (Ob.cells [.any]=.cells [.any])<|.aj (ac [.vec 2] [.any] 0 [.vec 2 o1_0])<|.test (decide (x9<x8)) (NG x7 x9 2<|.aj (bz [.ptr,.ptr] (x7.ix x9) 0/\2<=(x7.ix x9).length)<|.call 133 [((x7.ix x9).getD 0 .any),.ref 0 0] [.cells [o0_0]] fun r1 o1=>.aj ((o1.hO)=.cells (o1.hO).cs)<|.aj (aM [.lk .ptr] ((o1.hO).cs) 0 1 o1.tail)<|NP r1<|.aj (cr 2 [[r1,((x7.ix x9).getD 1 .any)]]/\((o1_0.length)+([[r1,((x7.ix x9).getD 1 .any)]]:List (List AV)).length)*16<=140737488355328)<|.done 0 [x7,VI x8,VI (IntKind.wrap .i64 (x9+1))] [.cells [((o1.hO).cs.getD 0 .any)],.cells [.any],.vec 2 (o1_0++([[r1,((x7.ix x9).getD 1 .any)]]:List (List AV)))]) (.done 1 [] [.cells [o0_0],.cells [.any],.vec 2 o1_0])
abbrev Jm:=cy Tryz.prog 24 L0 HD
theorem JR(x7:AV)(x8:Int)(x9:Int)(o0_0:AV)(o1_0:List (List AV))(h:jx 24 (GB x7 x8 x9 o0_0 o1_0) Jm U):Jm [x7,VI x8,VI x9] [.cells [o0_0],.cells [.any],.vec 2 o1_0] U :=
 gQ Nt h
def Jb:LI:={hd:={bL:=[(1,.c (.func (.func 134) #[] #[])),(7,.k .sl),(8,.k (.int .i64)),(9,.k (.int .i64))],refs:=[(2,0)],ck:=[(0,[.vec 2])]},xs:={ck:=[(0,[.vec 2])]},rt:={ck:=[(0,[.vec 2])]},ex:=0,fx:=[0]}
def PP:Code:=cC (cw Tryz.f129) 1
def Lh:List (Nat×LI):=[(1,Jb)]
def Nn(a0:AV)(e2_0:List (List AV)):Tree :=
 NL a0<|.loop PP Jb [.v (.func (.func 134) #[] #[]),a0,VI (a0.aJ.length:Int),VI 0] [.cells [.any],.vec 2 e2_0] (fun y2 q2=>.aj ((q2.hO)=.cells (q2.hO).cs)<|.aj (ac [.vec 2] ((q2.hO).cs) 0 q2.tail)<|.done 0 [.any] [.cells [.vec 1],.vec 2 ((q2.tail.hO).es)]) (fun y2 q2=>.aj ((q2.hO)=.cells (q2.hO).cs)<|.aj (ac [.vec 2] ((q2.hO).cs) 0 q2.tail)<|.done 0 [.any] [.cells [.vec 1],.vec 2 ((q2.tail.hO).es)])
theorem Rt(a0:AV)(e2_0:List (List AV))(ha0:LK.has .sl a0)(h:di 24 (Nn a0 e2_0) R):ap Tryz.prog 129 [a0,.v (.func (.func 134) #[] #[]),.ref 0 0] [.cells [.vec 1],.vec 2 e2_0] R :=
 ap.nE (bA (cd (ag (aw _) aA)) (bA (fC _) cz)) (ap.up (ag (bJ ha0) (ag (aw _) (ag (aw _) aA))) (oF Lh {mu:=[(2,.one (.obj [.vec 2]))],own:=[]} Tryz.f129 h))
def FW(x7:AV)(x8:Int)(x9:Int)(o0_0:List (List AV)):Tree :=
 .aj (AV.v (.func (.func 134) #[] #[])=.v (.func (.func 134) #[] #[]))<|NL x7<|NI (VI x8)<|NI (VI x9)<|.aj (Ob.cells [.any]=.cells [.any])<|.aj (ac [.vec 2] [.any] 0 [.vec 2 o0_0])<|.test (decide (x9<x8)) (NG x7 x9 2<|.aj (bz [.ptr,.ptr] (x7.ix x9) 0/\2<=(x7.ix x9).length)<|.call 134 [((x7.ix x9).getD 0 .any)] [] fun r1 o1=>NP r1<|.aj (cr 2 [[r1,((x7.ix x9).getD 1 .any)]]/\((o0_0.length)+([[r1,((x7.ix x9).getD 1 .any)]]:List (List AV)).length)*16<=140737488355328)<|.done 0 [.v (.func (.func 134) #[] #[]),x7,VI x8,VI (IntKind.wrap .i64 (x9+1))] [.cells [.any],.vec 2 (o0_0++([[r1,((x7.ix x9).getD 1 .any)]]:List (List AV)))]) (.done 1 [] [.cells [.any],.vec 2 o0_0])
abbrev FT:=cy Tryz.prog 24 PP Jb
theorem LD(x7:AV)(x8:Int)(x9:Int)(o0_0:List (List AV))(h:jx 24 (FW x7 x8 x9 o0_0) FT U):FT [.v (.func (.func 134) #[] #[]),x7,VI x8,VI x9] [.cells [.any],.vec 2 o0_0] U :=
 gQ Lh h
def Gz:LI:={hd:={bL:=[(7,.k .sl),(8,.k (.int .i64)),(9,.k (.int .i64))],refs:=[(2,1)],ck:=[(0,[.lk .ptr,.lk .ptr]),(1,[.vec 2])],AW:=[(1,135,[0])]},xs:={ck:=[(0,[.lk .ptr,.lk .ptr]),(1,[.vec 2])]},rt:={ck:=[(0,[.lk .ptr,.lk .ptr]),(1,[.vec 2])]},ex:=0,fx:=[0,1]}
def Ow:Code:=cC (cw Tryz.f129) 1
def Mu:List (Nat×LI):=[(1,Gz)]
def Lc(a0:AV)(a1_0_0:AV)(a1_0_1:AV)(e2_0:List (List AV)):Tree :=
 NL a0<|.loop Ow Gz [a0,VI (a0.aJ.length:Int),VI 0] [.cells [a1_0_0,a1_0_1],.cells [.any],.vec 2 e2_0] (fun y2 q2=>.aj ((q2.hO)=.cells (q2.hO).cs)<|.aj (ac [.lk .ptr,.lk .ptr] ((q2.hO).cs) 0 q2.tail)<|.aj (((q2.tail.drop 0).hO)=.cells ((q2.tail.drop 0).hO).cs)<|.aj (ac [.vec 2] (((q2.tail.drop 0).hO).cs) 0 ((q2.tail.drop 0).tail))<|.done 0 [.any] [.cells [((q2.hO).cs.getD 0 .any),((q2.hO).cs.getD 1 .any)],.cells [.vec 2],.vec 2 ((q2.tail.tail.hO).es)]) (fun y2 q2=>.aj ((q2.hO)=.cells (q2.hO).cs)<|.aj (ac [.lk .ptr,.lk .ptr] ((q2.hO).cs) 0 q2.tail)<|.aj (((q2.tail.drop 0).hO)=.cells ((q2.tail.drop 0).hO).cs)<|.aj (ac [.vec 2] (((q2.tail.drop 0).hO).cs) 0 ((q2.tail.drop 0).tail))<|.done 0 [.any] [.cells [((q2.hO).cs.getD 0 .any),((q2.hO).cs.getD 1 .any)],.cells [.vec 2],.vec 2 ((q2.tail.tail.hO).es)])
theorem TA(a0:AV)(a1_0_0:AV)(a1_0_1:AV)(e2_0:List (List AV))(ha0:LK.has .sl a0)(ha1_0_0:LK.has .ptr a1_0_0)(ha1_0_1:LK.has .ptr a1_0_1)(h:di 24 (Lc a0 a1_0_0 a1_0_1 e2_0) R):ap Tryz.prog 129 [a0,.fn 135 [.ref 0 0],.ref 1 0] [.cells [a1_0_0,a1_0_1],.cells [.vec 2],.vec 2 e2_0] R :=
 ap.nE (bA (cd (ag (bD ha1_0_0) (ag (bD ha1_0_1) aA))) (bA (cd (ag (aw _) aA)) (bA (fC _) cz))) (ap.up (ag (bJ ha0) (ag (aw _) (ag (aw _) aA))) (oF Mu {mu:=[(1,.fn [some (.obj [.lk .ptr,.lk .ptr])]),(2,.one (.obj [.vec 2]))],own:=[]} Tryz.f129 h))
def G5(x7:AV)(x8:Int)(x9:Int)(o0_0:AV)(o0_1:AV)(o1_0:List (List AV)):Tree :=
 NL x7<|NI (VI x8)<|NI (VI x9)<|.aj (Ob.cells [o0_0,o0_1]=.cells [o0_0,o0_1])<|.aj (ac [.lk .ptr,.lk .ptr] [o0_0,o0_1] 0 [.cells [.any],.vec 2 o1_0])<|.aj (Ob.cells [.any]=.cells [.any])<|.aj (ac [.vec 2] [.any] 0 [.vec 2 o1_0])<|.test (decide (x9<x8)) (NG x7 x9 2<|.aj (bz [.ptr,.ptr] (x7.ix x9) 0/\2<=(x7.ix x9).length)<|.call 135 [((x7.ix x9).getD 0 .any),.ref 0 0] [.cells [o0_0,o0_1]] fun r1 o1=>.aj ((o1.hO)=.cells (o1.hO).cs)<|.aj (aM [.lk .ptr,.lk .ptr] ((o1.hO).cs) 0 1 o1.tail)<|NP r1<|.aj (cr 2 [[r1,((x7.ix x9).getD 1 .any)]]/\((o1_0.length)+([[r1,((x7.ix x9).getD 1 .any)]]:List (List AV)).length)*16<=140737488355328)<|.done 0 [x7,VI x8,VI (IntKind.wrap .i64 (x9+1))] [.cells [((o1.hO).cs.getD 0 .any),((o1.hO).cs.getD 1 .any)],.cells [.any],.vec 2 (o1_0++([[r1,((x7.ix x9).getD 1 .any)]]:List (List AV)))]) (.done 1 [] [.cells [o0_0,o0_1],.cells [.any],.vec 2 o1_0])
abbrev If:=cy Tryz.prog 24 Ow Gz
theorem O8(x7:AV)(x8:Int)(x9:Int)(o0_0:AV)(o0_1:AV)(o1_0:List (List AV))(h:jx 24 (G5 x7 x8 x9 o0_0 o0_1 o1_0) If U):If [x7,VI x8,VI x9] [.cells [o0_0,o0_1],.cells [.any],.vec 2 o1_0] U :=
 gQ Mu h
def GH(a0:AV)(a1_0:AV):Tree :=
 NZ a1_0<|NZ a1_0<|.aj (LK.has (.int .u8) (a1_0.deref.hA)/\1<=a1_0.deref.length)<|.call 95 [.v (.int .u8 ((a1_0.deref.hA).toInt)),a0] [] fun r1 o1=>NP r1<|.done 0 [r1] [.cells [a1_0]]
theorem Ko(a0:AV)(a1_0:AV)(ha0:LK.has .ptr a0)(ha1_0:LK.has .ptr a1_0)(h:di 10 (GH a0 a1_0) R):ap Tryz.prog 130 [a0,.ref 0 0] [.cells [a1_0]] R :=
 ap.nE (bA (cd (ag (bD ha1_0) aA)) cz) (ap.up (ag (bD ha0) (ag (aw _) aA)) (oF [] {mu:=[(1,.one (.obj [.lk .ptr]))],own:=[]} Tryz.f130 h))
def Nh(a0:AV)(a1_0:AV):Tree :=
 NZ a1_0<|NZ a1_0<|dR (a1_0.deref.drop 3)<|.call 132 [a0,((a1_0.deref.drop 3).hA)] [] fun r1 o1=>NP r1<|.call 95 [.v (.int .u8 108),r1] [] fun r2 o2=>NP r2<|.done 0 [r2] [.cells [a1_0]]
theorem Qg(a0:AV)(a1_0:AV)(ha0:LK.has .ptr a0)(ha1_0:LK.has .ptr a1_0)(h:di 11 (Nh a0 a1_0) R):ap Tryz.prog 131 [a0,.ref 0 0] [.cells [a1_0]] R :=
 ap.nE (bA (cd (ag (bD ha1_0) aA)) cz) (ap.up (ag (bD ha0) (ag (aw _) aA)) (oF [] {mu:=[(1,.one (.obj [.lk .ptr]))],own:=[]} Tryz.f131 h))
def PA(a0:AV)(a1:AV):Tree :=
 .done 0 [.ptr [.v (.int .u8 112),VS (mk []),a0,a1]] []
theorem QI(a0:AV)(a1:AV)(ha0:LK.has .ptr a0)(ha1:LK.has .ptr a1)(h:di 9 (PA a0 a1) R):ap Tryz.prog 132 [a0,a1] [] R :=
 uQ (ag (bD ha0) (ag (bD ha1) aA)) (oQ [] Tryz.f132 h)
def MQ(a0:AV)(a1_0:AV):Tree :=
 NZ a1_0<|NZ a1_0<|dR (a1_0.deref.drop 2)<|.call 132 [((a1_0.deref.drop 2).hA),a0] [] fun r1 o1=>NP r1<|.call 95 [.v (.int .u8 114),r1] [] fun r2 o2=>NP r2<|.done 0 [r2] [.cells [a1_0]]
theorem TM(a0:AV)(a1_0:AV)(ha0:LK.has .ptr a0)(ha1_0:LK.has .ptr a1_0)(h:di 11 (MQ a0 a1_0) R):ap Tryz.prog 133 [a0,.ref 0 0] [.cells [a1_0]] R :=
 ap.nE (bA (cd (ag (bD ha1_0) aA)) cz) (ap.up (ag (bD ha0) (ag (aw _) aA)) (oF [] {mu:=[(1,.one (.obj [.lk .ptr]))],own:=[]} Tryz.f133 h))
def NJ(a0:AV):Tree :=
 .call 95 [.v (.int .u8 108),a0] [] fun r1 o1=>NP r1<|.call 95 [.v (.int .u8 102),r1] [] fun r2 o2=>NP r2<|.done 0 [r2] []
theorem Qo(a0:AV)(ha0:LK.has .ptr a0)(h:di 6 (NJ a0) R):ap Tryz.prog 134 [a0] [] R :=
 uQ (ag (bD ha0) aA) (oQ [] Tryz.f134 h)
def JM(a0:AV)(a1_0:AV)(a1_1:AV):Tree :=
 .call 132 [a1_0,a0] [] fun r1 o1=>NP r1<|.call 95 [.v (.int .u8 114),r1] [] fun r2 o2=>NP r2<|.call 95 [.v (.int .u8 102),r2] [] fun r3 o3=>NP r3<|.done 0 [r3] [.cells [a1_0,a1_1]]
theorem Rk(a0:AV)(a1_0:AV)(a1_1:AV)(ha0:LK.has .ptr a0)(ha1_0:LK.has .ptr a1_0)(ha1_1:LK.has .ptr a1_1)(h:di 10 (JM a0 a1_0 a1_1) R):ap Tryz.prog 135 [a0,.ref 0 0] [.cells [a1_0,a1_1]] R :=
 ap.nE (bA (cd (ag (bD ha1_0) (ag (bD ha1_1) aA))) cz) (ap.up (ag (bD ha0) (ag (aw _) aA)) (oF [] {mu:=[(1,.one (.obj [.lk .ptr,.lk .ptr]))],own:=[]} Tryz.f135 h))
def Np(a0:ByteArray):Tree :=
 .call 97 [VS a0] [] fun r1 o1=>NT r1<|.aj ((r1.comp 0)=.agg (r1.comp 0).cs/\(r1.comp 0).cs.length=2/\bz [.str,.sl] ((r1.comp 0).cs) 0)<|NB (r1.comp 1)<|.test (!((r1.comp 1).toBool)) (.done 0 [.cA [VS (mk []),VB false]] []) (.call 71 [.agg [VS (((r1.comp 0).cs.getD 0 .any).ah),((r1.comp 0).cs.getD 1 .any)]] [] fun r2 o2=>NS r2<|.test (!(ae r2.ah==ae (mk [114,101,99]))) (.done 0 [.cA [VS (mk []),VB false]] []) (.call 157 [.agg [VS (((r1.comp 0).cs.getD 0 .any).ah),((r1.comp 0).cs.getD 1 .any)]] [] fun r3 o3=>NT r3<|.aj ((r3.comp 0)=.agg (r3.comp 0).cs/\(r3.comp 0).cs.length=2/\bz [.str,.sl] ((r3.comp 0).cs) 0)<|NB (r3.comp 1)<|.test (!((r3.comp 1).toBool)) (.done 0 [.cA [VS (mk []),VB false]] []) (.call 158 [.agg [VS (((r3.comp 0).cs.getD 0 .any).ah),((r3.comp 0).cs.getD 1 .any)]] [] fun r4 o4=>NT r4<|NS (r4.comp 0)<|NB (r4.comp 1)<|.done 0 [.cA [VS ((r4.comp 0).ah),VB ((r4.comp 1).toBool)]] [])))
theorem R1(a0:ByteArray)(h:di 31 (Np a0) R):ap Tryz.prog 136 [VS a0] [] R :=
 uQ (ag (aw _) aA) (oQ [] Tryz.f136 h)
def J6(a0_0:ByteArray)(a0_1:AV)(a0_2:ByteArray):Tree :=
 NL a0_1<|.test ((a0_1.aJ.length:Int)==(0:Int)) (.done 0 [.cA [.agg [VS a0_0,a0_1,VS a0_2],VB false]] []) (.aj (LK.has .sl a0_1/\0<=(IntKind.wrap .i64 ((a0_1.aJ.length:Int)-1))/\(IntKind.wrap .i64 ((a0_1.aJ.length:Int)-1))<a0_1.aJ.length/\(a0_1.ix (IntKind.wrap .i64 ((a0_1.aJ.length:Int)-1))).length=1)<|kK (a0_1.ix (IntKind.wrap .i64 ((a0_1.aJ.length:Int)-1)))<|.call 159 [VS a0_0,VS (((a0_1.ix (IntKind.wrap .i64 ((a0_1.aJ.length:Int)-1))).hA).ah),VS a0_2] [] fun r1 o1=>NT r1<|NS (r1.comp 0)<|NB (r1.comp 1)<|.aj (LK.has .sl a0_1/\0<=(0:Int)/\(0:Int)<=(IntKind.wrap .i64 ((a0_1.aJ.length:Int)-1))/\(IntKind.wrap .i64 ((a0_1.aJ.length:Int)-1))<=(a0_1.aJ.length:Int))<|.aj (cr 1 ((a0_1.aJ.take (bM (IntKind.wrap .i64 ((a0_1.aJ.length:Int)-1)))).drop (bM 0))/\((([]:List (List AV)).length)+((a0_1.aJ.take (bM (IntKind.wrap .i64 ((a0_1.aJ.length:Int)-1)))).drop (bM 0)).length)*16<=140737488355328)<|.done 0 [.cA [.agg [VS a0_0,.sl (([]:List (List AV))++((a0_1.aJ.take (bM (IntKind.wrap .i64 ((a0_1.aJ.length:Int)-1)))).drop (bM 0))),VS ((r1.comp 0).ah)],VB ((r1.comp 1).toBool)]] [])
theorem SZ(a0_0:ByteArray)(a0_1:AV)(a0_2:ByteArray)(ha0_1:LK.has .sl a0_1)(h:di 39 (J6 a0_0 a0_1 a0_2) R):ap Tryz.prog 137 [.agg [VS a0_0,a0_1,VS a0_2]] [] R :=
 uQ (ag (ca (ag (aw _) (ag (bJ ha0_1) (ag (aw _) aA)))) aA) (oQ [] Tryz.f137 h)
def w4(a0_0:ByteArray)(a0_1:AV):Tree :=
 .test (!(ae a0_0==ae (mk []))) (.test (ae a0_0==ae (mk [48])) (.done 0 [VB true] []) (.test (ae a0_0==ae (mk [49])) (.done 0 [VB true] []) (.call 101 [VS a0_0] [] fun r1 o1=>NB r1<|.test r1.toBool (.done 0 [VB true] []) (.call 99 [VS a0_0] [] fun r2 o2=>NB r2<|.done 0 [VB r2.toBool] [])))) (NL a0_1<|.test ((a0_1.aJ.length:Int) != (3:Int)) (.done 0 [VB false] []) (.call 71 [.agg [VS a0_0,a0_1]] [] fun r3 o3=>NS r3<|.test (ae r3.ah==ae (mk [43])) (NG a0_1 1 2<|NE (a0_1.ix (1:Int))<|.call 138 [.agg [VS (((a0_1.ix (1:Int)).getD 0 .any).ah),((a0_1.ix (1:Int)).getD 1 .any)]] [] fun r4 o4=>NB r4<|.test r4.toBool (NG a0_1 2 2<|NE (a0_1.ix (2:Int))<|.call 138 [.agg [VS (((a0_1.ix (2:Int)).getD 0 .any).ah),((a0_1.ix (2:Int)).getD 1 .any)]] [] fun r5 o5=>NB r5<|.done 0 [VB r5.toBool] []) (.done 0 [VB false] [])) (.test (ae r3.ah==ae (mk [42])) (NG a0_1 1 2<|NE (a0_1.ix (1:Int))<|.call 138 [.agg [VS (((a0_1.ix (1:Int)).getD 0 .any).ah),((a0_1.ix (1:Int)).getD 1 .any)]] [] fun r6 o6=>NB r6<|.test r6.toBool (NG a0_1 2 2<|NE (a0_1.ix (2:Int))<|.call 138 [.agg [VS (((a0_1.ix (2:Int)).getD 0 .any).ah),((a0_1.ix (2:Int)).getD 1 .any)]] [] fun r7 o7=>NB r7<|.done 0 [VB r7.toBool] []) (.done 0 [VB false] [])) (.test (ae r3.ah==ae (mk [114,101,99])) (NG a0_1 1 2<|kK (a0_1.ix (1:Int))<|.call 99 [VS (((a0_1.ix (1:Int)).hA).ah)] [] fun r8 o8=>NB r8<|.test r8.toBool (NG a0_1 2 2<|NE (a0_1.ix (2:Int))<|.call 138 [.agg [VS (((a0_1.ix (2:Int)).getD 0 .any).ah),((a0_1.ix (2:Int)).getD 1 .any)]] [] fun r9 o9=>NB r9<|.done 0 [VB r9.toBool] []) (.done 0 [VB false] [])) (.done 0 [VB false] [])))))
theorem Pb(a0_0:ByteArray)(a0_1:AV)(ha0_1:LK.has .sl a0_1)(h:di 60 (w4 a0_0 a0_1) R):ap Tryz.prog 138 [.agg [VS a0_0,a0_1]] [] R :=
 uQ (ag (ca (ag (aw _) (ag (bJ ha0_1) aA))) aA) (oQ [] Tryz.f138 h)
def GA:LI:={hd:={bL:=[(0,.k .sl),(1,.k .str),(5,.k (.int .i64))]},xs:={},rt:={bL:=[(4,.k .bool)]},ex:=0}
def LS:Code:=cC (cw Tryz.f139) 2
def Na:List (Nat×LI):=[(2,GA)]
def OX(a0:AV)(a1:ByteArray):Tree :=
 .loop LS GA [a0,VS a1,VI 0] [] (fun y1 q1=>.done 0 [VB false] []) (fun y1 q1=>NB (y1.hA)<|.done 0 [VB ((y1.hA).toBool)] [])
theorem RO(a0:AV)(a1:ByteArray)(ha0:LK.has .sl a0)(h:di 18 (OX a0 a1) R):ap Tryz.prog 139 [a0,VS a1] [] R :=
 uQ (ag (bJ ha0) (ag (aw _) aA)) (oQ Na Tryz.f139 h)
def I0(x0:AV)(x1:ByteArray)(x5:Int):Tree :=
 NL x0<|NS (VS x1)<|NI (VI x5)<|NL x0<|.test (decide (x5<(x0.aJ.length:Int))) (NG x0 x5 1<|kK (x0.ix x5)<|.test (ae (((x0.ix x5).hA).ah)==ae x1) (.done 2 [VB true] []) (.done 0 [x0,VS x1,VI (IntKind.wrap .i64 (x5+1))] [])) (.done 1 [] [])
abbrev Gx:=cy Tryz.prog 18 LS GA
theorem KR(x0:AV)(x1:ByteArray)(x5:Int)(h:jx 18 (I0 x0 x1 x5) Gx U):Gx [x0,VS x1,VI x5] [] U :=
 gQ Na h
def I1:LI:={hd:={bL:=[(0,.k .str),(7,.k (.int .i64))]},xs:={},rt:={bL:=[(6,.k .bool)]},ex:=0}
def Ki:Code:=cC (cw Tryz.f140) 4
def JI:List (Nat×LI):=[(4,I1)]
def Pd(a0:ByteArray)(a1:Int)(a2:Int):Tree :=
 .call 60 [VI (af a0:Int),VI 1,VI 3] [] fun r1 o1=>NB r1<|.test (!r1.toBool) (.done 0 [VB false] []) (.aj (0<=(0:Int)/\(0:Int)<af a0)<|.test (decide ((bt a0 0)<a1)) (.done 0 [VB false] []) (.aj (0<=(0:Int)/\(0:Int)<af a0)<|.test (decide ((bt a0 0)>a2)) (.done 0 [VB false] []) (.loop Ki I1 [VS a0,VI 1] [] (fun y2 q2=>.done 0 [VB true] []) (fun y2 q2=>NB (y2.hA)<|.done 0 [VB ((y2.hA).toBool)] []))))
theorem Tm(a0:ByteArray)(a1:Int)(a2:Int)(h:di 40 (Pd a0 a1 a2) R):ap Tryz.prog 140 [VS a0,.v (.int .u8 a1),.v (.int .u8 a2)] [] R :=
 uQ (ag (aw _) (ag (aw _) (ag (aw _) aA))) (oQ JI Tryz.f140 h)
def GI(x0:ByteArray)(x7:Int):Tree :=
 NS (VS x0)<|NI (VI x7)<|.test (decide (x7<(af x0:Int))) (.aj (0<=x7/\x7<af x0)<|.test (decide ((bt x0 x7)<(48:Int))) (.done 2 [VB false] []) (.aj (0<=x7/\x7<af x0)<|.test (decide ((bt x0 x7)>(57:Int))) (.done 2 [VB false] []) (.done 0 [VS x0,VI (IntKind.wrap .i64 (x7+1))] []))) (.done 1 [] [])
abbrev IC:=cy Tryz.prog 40 Ki I1
theorem Nl(x0:ByteArray)(x7:Int)(h:jx 40 (GI x0 x7) IC U):IC [VS x0,VI x7] [] U :=
 gQ JI h
def LP(a0:Int):Tree :=
 .test (decide (a0≥(97:Int))) (.test (decide (a0<=(122:Int))) (.done 0 [VB true] []) (.test (decide (a0≥(48:Int))) (.test (decide (a0<=(57:Int))) (.done 0 [VB true] []) (.test (a0==(42:Int)) (.done 0 [VB true] []) (.done 0 [VB (a0==(43:Int))] []))) (.test (a0==(42:Int)) (.done 0 [VB true] []) (.done 0 [VB (a0==(43:Int))] [])))) (.test (decide (a0≥(48:Int))) (.test (decide (a0<=(57:Int))) (.done 0 [VB true] []) (.test (a0==(42:Int)) (.done 0 [VB true] []) (.done 0 [VB (a0==(43:Int))] []))) (.test (a0==(42:Int)) (.done 0 [VB true] []) (.done 0 [VB (a0==(43:Int))] [])))
theorem R9(a0:Int)(h:di 25 (LP a0) R):ap Tryz.prog 141 [.v (.int .u8 a0)] [] R :=
 uQ (ag (aw _) aA) (oQ [] Tryz.f141 h)
def JY(a0_0:ByteArray)(a0_1:AV)(a1:ByteArray)(a2_0:ByteArray)(a2_1:AV):Tree :=
 .call 109 [.agg [VS a0_0,a0_1]] [] fun r1 o1=>NI r1<|.call 160 [.agg [VS a0_0,a0_1],VS a1] [] fun r2 o2=>NI r2<|.call 109 [.agg [VS a2_0,a2_1]] [] fun r3 o3=>NI r3<|.done 0 [VB (decide ((IntKind.wrap .i64 (r1.toInt+(IntKind.wrap .i64 (r2.toInt*(IntKind.wrap .i64 (r3.toInt-1))))))<=(400:Int)))] []
theorem Rq(a0_0:ByteArray)(a0_1:AV)(a1:ByteArray)(a2_0:ByteArray)(a2_1:AV)(ha0_1:LK.has .sl a0_1)(ha2_1:LK.has .sl a2_1)(h:di 18 (JY a0_0 a0_1 a1 a2_0 a2_1) R):ap Tryz.prog 142 [.agg [VS a0_0,a0_1],VS a1,.agg [VS a2_0,a2_1]] [] R :=
 uQ (ag (ca (ag (aw _) (ag (bJ ha0_1) aA))) (ag (aw _) (ag (ca (ag (aw _) (ag (bJ ha2_1) aA))) aA))) (oQ [] Tryz.f142 h)
def Kl(a0_0:ByteArray)(a0_1:AV)(a1:ByteArray)(a2_0:ByteArray)(a2_1:AV):Tree :=
 .call 83 [.agg [VS a0_0,a0_1],.sl [[VS a2_0,a2_1],[VS a1,.v (.slice none 0 0)]]] [] fun r1 o1=>NA r1<|.call 161 [.agg [VS ((r1.cs.getD 0 .any).ah),(r1.cs.getD 1 .any)],VS a1,.agg [VS a2_0,a2_1]] [] fun r2 o2=>NA r2<|.done 0 [.agg [VS ((r2.cs.getD 0 .any).ah),(r2.cs.getD 1 .any)]] []
theorem TF(a0_0:ByteArray)(a0_1:AV)(a1:ByteArray)(a2_0:ByteArray)(a2_1:AV)(ha0_1:LK.has .sl a0_1)(ha2_1:LK.has .sl a2_1)(h:di 16 (Kl a0_0 a0_1 a1 a2_0 a2_1) R):ap Tryz.prog 143 [.agg [VS a0_0,a0_1],VS a1,.agg [VS a2_0,a2_1]] [] R :=
 uQ (ag (ca (ag (aw _) (ag (bJ ha0_1) aA))) (ag (aw _) (ag (ca (ag (aw _) (ag (bJ ha2_1) aA))) aA))) (oQ [] Tryz.f143 h)
def Ir:LI:={hd:={bL:=[(0,.k .str),(1,.k (.int .i64)),(6,.k (.int .i64))]},xs:={bL:=[(0,.k .str),(1,.k (.int .i64)),(6,.k (.int .i64))]},rt:={},ex:=0}
def LW:Code:=cC (cw Tryz.f144) 2
def H5:LI:={hd:={bL:=[(0,.k .str),(1,.k (.int .i64)),(7,.k .str)],refs:=[(8,48)],ck:=[(48,[.lk .str,.vec 1])]},xs:={},rt:={bL:=[(4,.k .ptr),(5,.k .str)]},ex:=999}
def Pg:Code:=cC (cw Tryz.f144) 10
def Iu:List (Nat×LI):=[(2,Ir),(10,H5)]
def IU(a0:ByteArray)(a1:Int):Tree :=
 .loop LW Ir [VS a0,VI a1,VI 0] [] (fun y2 q2=>NS (y2.hA)<|NI (y2.tail.hA)<|NI (y2.tail.tail.hA)<|.test (decide (((y2.tail.tail.hA).toInt)>(0:Int))) (.aj (0<=(0:Int)/\(0:Int)<=((y2.tail.tail.hA).toInt)/\((y2.tail.tail.hA).toInt)<=(af ((y2.hA).ah):Int))<|.aj (0<=((y2.tail.tail.hA).toInt)/\((y2.tail.tail.hA).toInt)<=(af ((y2.hA).ah):Int)/\(af ((y2.hA).ah):Int)<=(af ((y2.hA).ah):Int))<|.done 0 [.cA [.ptr [VS (cm ((y2.hA).ah) (bM 0) (bM ((y2.tail.tail.hA).toInt))),.v (.slice none 0 0)],VS (cm ((y2.hA).ah) (bM ((y2.tail.tail.hA).toInt)) (bM (af ((y2.hA).ah):Int)))]] []) (.test (ae ((y2.hA).ah)==ae (mk [])) (.done 0 [.cA [.v (.pointer none),VS ((y2.hA).ah)]] []) (.aj (0<=(0:Int)/\(0:Int)<af ((y2.hA).ah))<|.test ((bt ((y2.hA).ah) 0) != (40:Int)) (.done 0 [.cA [.v (.pointer none),VS ((y2.hA).ah)]] []) (.test (((y2.tail.hA).toInt)==(300:Int)) (.done 0 [.cA [.v (.pointer none),VS ((y2.hA).ah)]] []) (.aj (0<=(1:Int)/\(1:Int)<=(af ((y2.hA).ah):Int)/\(af ((y2.hA).ah):Int)<=(af ((y2.hA).ah):Int))<|.loop Pg H5 [VS ((y2.hA).ah),VI ((y2.tail.hA).toInt),VS (cm ((y2.hA).ah) (bM 1) (bM (af ((y2.hA).ah):Int)))] [.cells [VS (mk []),.any],.vec 1 []] (fun y5 q5=>.fail) (fun y5 q5=>NP (y5.hA)<|NS (y5.tail.hA)<|.done 0 [.cA [(y5.hA),VS ((y5.tail.hA).ah)]] [])))))) (fun y2 q2=>.done 0 [.cA [.any,.any]] [])
theorem Lu(a0:ByteArray)(a1:Int)(h:di 84 (IU a0 a1) R):ap Tryz.prog 144 [VS a0,VI a1] [] R :=
 uQ (ag (aw _) (ag (aw _) aA)) (oQ Iu Tryz.f144 h)
def Im(x0:ByteArray)(x1:Int)(x6:Int):Tree :=
 NS (VS x0)<|NI (VI x1)<|NI (VI x6)<|.test (decide (x6<(af x0:Int))) (.aj (0<=x6/\x6<af x0)<|.call 162 [.v (.int .u8 (bt x0 x6))] [] fun r1 o1=>NB r1<|.test r1.toBool (.done 0 [VS x0,VI x1,VI (IntKind.wrap .i64 (x6+1))] []) (.done 1 [VS x0,VI x1,VI x6] [])) (.done 1 [VS x0,VI x1,VI x6] [])
abbrev Ht:=cy Tryz.prog 84 LW Ir
theorem MG(x0:ByteArray)(x1:Int)(x6:Int)(h:jx 84 (Im x0 x1 x6) Ht U):Ht [VS x0,VI x1,VI x6] [] U :=
 gQ Iu h
def LF(x0:ByteArray)(x1:Int)(x7:ByteArray)(o48_0:ByteArray)(o48_1:List (List AV)):Tree :=
 NS (VS x0)<|NI (VI x1)<|NS (VS x7)<|.aj (Ob.cells [VS o48_0,.any]=.cells [VS o48_0,.any])<|.aj (ac [.lk .str,.vec 1] [VS o48_0,.any] 0 [.vec 1 o48_1])<|.call 144 [VS x7,VI (IntKind.wrap .i64 (x1+1))] [] fun r1 o1=>NT r1<|NP (r1.comp 0)<|NS (r1.comp 1)<|NP (r1.comp 0)<|.test ((r1.comp 0).isNil) (.done 2 [.v (.pointer none),VS x0] []) (.test (ae ((r1.comp 1).ah)==ae (mk [])) (.done 2 [.v (.pointer none),VS x0] []) (.aj (cr 1 [[(r1.comp 0)]]/\((o48_1.length)+([[(r1.comp 0)]]:List (List AV)).length)*8<=140737488355328)<|.aj (0<=(1:Int)/\(1:Int)<=(af ((r1.comp 1).ah):Int)/\(af ((r1.comp 1).ah):Int)<=(af ((r1.comp 1).ah):Int))<|.aj (0<=(0:Int)/\(0:Int)<af ((r1.comp 1).ah))<|.test ((bt ((r1.comp 1).ah) 0)==(41:Int)) (.done 2 [.ptr [VS o48_0,.sl (o48_1++([[(r1.comp 0)]]:List (List AV)))],VS (cm ((r1.comp 1).ah) (bM 1) (bM (af ((r1.comp 1).ah):Int)))] []) (.aj (0<=(0:Int)/\(0:Int)<af ((r1.comp 1).ah))<|.test ((bt ((r1.comp 1).ah) 0) != (32:Int)) (.done 2 [.v (.pointer none),VS x0] []) (.done 0 [VS x0,VI x1,VS (cm ((r1.comp 1).ah) (bM 1) (bM (af ((r1.comp 1).ah):Int)))] [.cells [VS o48_0,.any],.vec 1 (o48_1++([[(r1.comp 0)]]:List (List AV)))]))))
abbrev H0:=cy Tryz.prog 84 Pg H5
theorem So(x0:ByteArray)(x1:Int)(x7:ByteArray)(o48_0:ByteArray)(o48_1:List (List AV))(h:jx 84 (LF x0 x1 x7 o48_0 o48_1) H0 U):H0 [VS x0,VI x1,VS x7] [.cells [VS o48_0,.any],.vec 1 o48_1] U :=
 gQ Iu h
def Oh(a0:ByteArray):Tree :=
 .call 163 [VS a0,VS (mk [120,121,122])] [] fun r1 o1=>NB r1<|.done 0 [VB r1.toBool] []
theorem RZ(a0:ByteArray)(h:di 5 (Oh a0) R):ap Tryz.prog 145 [VS a0] [] R :=
 uQ (ag (aw _) aA) (oQ [] Tryz.f145 h)
def KD(a0:ByteArray):Tree :=
 .call 163 [VS a0,VS (mk [116])] [] fun r1 o1=>NB r1<|.done 0 [VB r1.toBool] []
theorem RC(a0:ByteArray)(h:di 5 (KD a0) R):ap Tryz.prog 146 [VS a0] [] R :=
 uQ (ag (aw _) aA) (oQ [] Tryz.f146 h)
def A2(a0:AV)(a1:ByteArray)(a2:Int):Tree :=
 NZ a0<|NZ a0<|mE (a0.deref.drop 1)<|NL ((a0.deref.drop 1).hA)<|.test (((((a0.deref.drop 1).hA).aJ).length:Int)==a2) (NZ a0<|NZ a0<|mE (a0.deref.drop 1)<|NG ((a0.deref.drop 1).hA) 0 1<|dR (((a0.deref.drop 1).hA).ix (0:Int))<|NZ ((((a0.deref.drop 1).hA).ix (0:Int)).hA)<|NZ ((((a0.deref.drop 1).hA).ix (0:Int)).hA)<|.aj (LK.has .str (((((a0.deref.drop 1).hA).ix (0:Int)).hA).deref.hA)/\1<=(((((a0.deref.drop 1).hA).ix (0:Int)).hA).deref).length)<|.done 0 [VB (ae ((((((a0.deref.drop 1).hA).ix (0:Int)).hA).deref.hA).ah)==ae a1)] []) (.done 0 [VB false] [])
theorem Pf(a0:AV)(a1:ByteArray)(a2:Int)(ha0:LK.has .ptr a0)(h:di 27 (A2 a0 a1 a2) R):ap Tryz.prog 147 [a0,VS a1,VI a2] [] R :=
 uQ (ag (bD ha0) (ag (aw _) (ag (aw _) aA))) (oQ [] Tryz.f147 h)
def OY(a0:Int)(a1:AV)(a2:AV):Tree :=
 .done 0 [.ptr [.v (.int .u8 a0),VS (mk []),VI 0,a1,a2]] []
theorem Q1(a0:Int)(a1:AV)(a2:AV)(ha1:LK.has .ptr a1)(ha2:LK.has .ptr a2)(h:di 12 (OY a0 a1 a2) R):ap Tryz.prog 149 [.v (.int .u8 a0),a1,a2] [] R :=
 uQ (ag (aw _) (ag (bD ha1) (ag (bD ha2) aA))) (oQ [] Tryz.f149 h)
def PC(a0:AV):Tree :=
 .call 165 [a0,.fn 166 [.ref 0 0]] [.cells [.vec 1],.vec 1 []] fun r1 o1=>.aj ((o1.hO)=.cells (o1.hO).cs)<|.aj (aM [.vec 1] ((o1.hO).cs) 0 1 o1.tail)<|.done 0 [.sl ((o1.tail.hO).es)] []
theorem Ro(a0:AV)(ha0:LK.has .ptr a0)(h:di 9 (PC a0) R):ap Tryz.prog 150 [a0] [] R :=
 uQ (ag (bD ha0) aA) (oQ [] Tryz.f150 h)
def Hb:LI:={hd:={bL:=[(0,.k .ptr),(1,.k .sl),(9,.k .str)],refs:=[(3,0),(4,1)],ck:=[(0,[.lk .sl]),(1,[.lk (.int .i64)])],vW:=[(2,151,[none,some 0,some 1])]},xs:={bL:=[(0,.k .ptr),(1,.k .sl),(9,.k .str)],ck:=[(0,[.lk .sl]),(1,[.lk (.int .i64)])],vW:=[(2,151,[none,some 0,some 1])]},rt:={ck:=[(0,[.lk .sl]),(1,[.lk (.int .i64)])]},ex:=1,fx:=[0,1]}
def KU:Code:=cC (cw Tryz.f151) 12
def Ny:List (Nat×LI):=[(12,Hb)]
end
end Go.Proofs.Trees
