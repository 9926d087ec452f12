/-
  Part of a proof: Go functions read by values, trees of functions, their contracts.
-/
import Derived.Test.YtmdlogdmjkfojaaGreatDoorP3
import Derived.Shelf.Lays
import Derived.Shelf.LaysM
import Derived.Shelf.Strconv.Itoa3
import Derived.Shelf.Strconv.Atoi
import Derived.Shelf.Strings.SlTrimAscii
import Derived.Shelf.Strings.Search3
import Derived.Test.YtmdlogdmjkfojaaGreatDoorProg
set_option linter.unusedVariables false
set_option linter.unusedSimpArgs false
open And renaming intro→aI
open Bool renaming eq_iff_iff→cq,true_and→bJ
open ByteArray renaming extract→bX,size→ac,toList→af
open Int renaming cast_ofNat_Int→cV,ofNat_eq_natCast→cE,tmod→du,toNat→bT
open List renaming all_cons→cL,drop_eq_getElem_cons→aL,drop_eq_nil_of_le→bG,getD_eq_getElem?_getD→aa,length_append→al,length_cons→au,takeWhile_append_dropWhile→bS
open Nat renaming zero_add→aW
namespace Go.Proofs
open Go.Shelf
def Tryz.uZ:Go.Shelf.Ren:=⟨fun|160=>169|232=>181|231=>180|227=>182|234=>184|233=>183|236=>186|235=>185|228=>196|271=>199|151=>198|197=>197|120=>210|152=>209|260=>208|137=>217|119=>218|224=>213|225=>212|217=>211|266=>219|n=>n,fun|9=>9|4=>4|3=>3|5=>5|117=>237|116=>236|0=>0|124=>240|21=>21|105=>255|46=>244|119=>272|139=>275|138=>274|n=>n,fun|3=>4|4=>5|n=>n⟩
theorem Tryz.CY:Go.Proofs.Lays.n160 Tryz.prog Tryz.uZ:={
 mixed:=by kernel_rfl,
 f119:=Tryz.func218.trans (congrArg some (by kernel_rfl)),
 f120:=Tryz.func210.trans (congrArg some (by kernel_rfl)),
 f137:=Tryz.func217.trans (congrArg some (by kernel_rfl)),
 f151:=Tryz.func198.trans (congrArg some (by kernel_rfl)),
 f152:=Tryz.func209.trans (congrArg some (by kernel_rfl)),
 f160:=Tryz.func169.trans (congrArg some (by kernel_rfl)),
 f197:=Tryz.func197.trans (congrArg some (by kernel_rfl)),
 f217:=Tryz.func211.trans (congrArg some (by kernel_rfl)),
 f224:=Tryz.func213.trans (congrArg some (by kernel_rfl)),
 f225:=Tryz.func212.trans (congrArg some (by kernel_rfl)),
 f227:=Tryz.func182.trans (congrArg some (by kernel_rfl)),
 f228:=Tryz.func196.trans (congrArg some (by kernel_rfl)),
 f231:=Tryz.func180.trans (congrArg some (by kernel_rfl)),
 f232:=Tryz.func181.trans (congrArg some (by kernel_rfl)),
 f233:=Tryz.func183.trans (congrArg some (by kernel_rfl)),
 f234:=Tryz.func184.trans (congrArg some (by kernel_rfl)),
 f235:=Tryz.func185.trans (congrArg some (by kernel_rfl)),
 f236:=Tryz.func186.trans (congrArg some (by kernel_rfl)),
 f260:=Tryz.func208.trans (congrArg some (by kernel_rfl)),
 f266:=Tryz.func219.trans (congrArg some (by kernel_rfl)),
 f271:=Tryz.func199.trans (congrArg some (by kernel_rfl)),
 t0:=Tryz.underlying0,
 a0:=Tryz.isAgg0,
 z0:=Tryz.sizeOf0,
 v0:=Tryz.zeroValue0,
 t3:=Tryz.underlying3,
 a3:=Tryz.isAgg3,
 z3:=Tryz.sizeOf3,
 v3:=Tryz.zeroValue3,
 t4:=Tryz.underlying4,
 a4:=Tryz.isAgg4,
 z4:=Tryz.sizeOf4,
 v4:=Tryz.zeroValue4,
 t5:=Tryz.underlying5,
 a5:=Tryz.isAgg5,
 z5:=Tryz.sizeOf5,
 v5:=Tryz.zeroValue5,
 t9:=Tryz.underlying9,
 a9:=Tryz.isAgg9,
 z9:=Tryz.sizeOf9,
 v9:=Tryz.zeroValue9,
 t21:=Tryz.underlying21,
 a21:=Tryz.isAgg21,
 z21:=Tryz.sizeOf21,
 v21:=Tryz.zeroValue21,
 t46:=Tryz.underlying244,
 a46:=Tryz.isAgg244,
 z46:=Tryz.sizeOf244,
 v46:=Tryz.zeroValue244,
 t105:=Tryz.underlying255,
 a105:=Tryz.isAgg255,
 z105:=Tryz.sizeOf255,
 v105:=Tryz.zeroValue255,
 t116:=Tryz.underlying236,
 a116:=Tryz.isAgg236,
 z116:=Tryz.sizeOf236,
 t117:=Tryz.underlying237,
 a117:=Tryz.isAgg237,
 z117:=Tryz.sizeOf237,
 v117:=Tryz.zeroValue237,
 t119:=Tryz.underlying272,
 a119:=Tryz.isAgg272,
 z119:=Tryz.sizeOf272,
 t124:=Tryz.underlying240,
 a124:=Tryz.isAgg240,
 z124:=Tryz.sizeOf240,
 v124:=Tryz.zeroValue240,
 t138:=Tryz.underlying274,
 a138:=Tryz.isAgg274,
 z138:=Tryz.sizeOf274,
 v138:=Tryz.zeroValue274,
 t139:=Tryz.underlying275,
 a139:=Tryz.isAgg275,
 z139:=Tryz.sizeOf275,
 v139:=Tryz.zeroValue275,
 g3:=by kernel_rfl,
 g4:=by kernel_rfl}
def Tryz.vo:Go.Shelf.Ren:=⟨fun|144=>178|143=>191|219=>202|217=>211|225=>212|224=>213|267=>214|266=>219|314=>220|n=>n,fun|9=>9|4=>4|3=>3|5=>5|46=>244|146=>277|51=>265|n=>n,fun|1=>3|n=>n⟩
theorem Tryz.DG:Go.Proofs.Lays.n144 Tryz.prog Tryz.vo:={
 mixed:=by kernel_rfl,
 f143:=Tryz.func191.trans (congrArg some (by kernel_rfl)),
 f144:=Tryz.func178.trans (congrArg some (by kernel_rfl)),
 f217:=Tryz.func211.trans (congrArg some (by kernel_rfl)),
 f219:=Tryz.func202.trans (congrArg some (by kernel_rfl)),
 f224:=Tryz.func213.trans (congrArg some (by kernel_rfl)),
 f225:=Tryz.func212.trans (congrArg some (by kernel_rfl)),
 f266:=Tryz.func219.trans (congrArg some (by kernel_rfl)),
 f267:=Tryz.func214.trans (congrArg some (by kernel_rfl)),
 f314:=Tryz.func220.trans (congrArg some (by kernel_rfl)),
 t3:=Tryz.underlying3,
 a3:=Tryz.isAgg3,
 z3:=Tryz.sizeOf3,
 v3:=Tryz.zeroValue3,
 t4:=Tryz.underlying4,
 a4:=Tryz.isAgg4,
 z4:=Tryz.sizeOf4,
 v4:=Tryz.zeroValue4,
 t5:=Tryz.underlying5,
 a5:=Tryz.isAgg5,
 z5:=Tryz.sizeOf5,
 v5:=Tryz.zeroValue5,
 t9:=Tryz.underlying9,
 a9:=Tryz.isAgg9,
 z9:=Tryz.sizeOf9,
 v9:=Tryz.zeroValue9,
 t46:=Tryz.underlying244,
 a46:=Tryz.isAgg244,
 z46:=Tryz.sizeOf244,
 v46:=Tryz.zeroValue244,
 t51:=Tryz.underlying265,
 a51:=Tryz.isAgg265,
 z51:=Tryz.sizeOf265,
 v51:=Tryz.zeroValue265,
 t146:=Tryz.underlying277,
 a146:=Tryz.isAgg277,
 z146:=Tryz.sizeOf277,
 v146:=Tryz.zeroValue277,
 g1:=by kernel_rfl}
def Tryz.u9:Go.Shelf.Ren:=⟨fun|172=>124|244=>155|245=>156|247=>170|279=>171|280=>172|281=>173|282=>174|287=>187|316=>188|171=>148|205=>189|321=>200|322=>201|243=>164|246=>179|283=>192|284=>193|285=>194|286=>195|129=>204|317=>203|318=>205|319=>206|320=>207|337=>215|338=>216|n=>n,fun|9=>9|3=>3|75=>185|76=>186|4=>4|5=>5|167=>225|37=>22|0=>0|85=>226|2=>2|168=>228|53=>241|175=>242|46=>244|210=>247|127=>259|145=>262|143=>260|21=>21|171=>250|173=>253|212=>264|51=>265|20=>20|213=>266|232=>279|233=>280|80=>73|n=>n,fun|15=>0|16=>1|17=>2|18=>6|19=>7|n=>n⟩
theorem Tryz.Cl:Go.Proofs.Lays.n172 Tryz.prog Tryz.u9:={
 mixed:=by kernel_rfl,
 f129:=Tryz.func204.trans (congrArg some (by kernel_rfl)),
 f171:=Tryz.func148.trans (congrArg some (by kernel_rfl)),
 f172:=Tryz.func124.trans (congrArg some (by kernel_rfl)),
 f205:=Tryz.func189.trans (congrArg some (by kernel_rfl)),
 f243:=Tryz.func164.trans (congrArg some (by kernel_rfl)),
 f244:=Tryz.func155.trans (congrArg some (by kernel_rfl)),
 f245:=Tryz.func156.trans (congrArg some (by kernel_rfl)),
 f246:=Tryz.func179.trans (congrArg some (by kernel_rfl)),
 f247:=Tryz.func170.trans (congrArg some (by kernel_rfl)),
 f279:=Tryz.func171.trans (congrArg some (by kernel_rfl)),
 f280:=Tryz.func172.trans (congrArg some (by kernel_rfl)),
 f281:=Tryz.func173.trans (congrArg some (by kernel_rfl)),
 f282:=Tryz.func174.trans (congrArg some (by kernel_rfl)),
 f283:=Tryz.func192.trans (congrArg some (by kernel_rfl)),
 f284:=Tryz.func193.trans (congrArg some (by kernel_rfl)),
 f285:=Tryz.func194.trans (congrArg some (by kernel_rfl)),
 f286:=Tryz.func195.trans (congrArg some (by kernel_rfl)),
 f287:=Tryz.func187.trans (congrArg some (by kernel_rfl)),
 f316:=Tryz.func188.trans (congrArg some (by kernel_rfl)),
 f317:=Tryz.func203.trans (congrArg some (by kernel_rfl)),
 f318:=Tryz.func205.trans (congrArg some (by kernel_rfl)),
 f319:=Tryz.func206.trans (congrArg some (by kernel_rfl)),
 f320:=Tryz.func207.trans (congrArg some (by kernel_rfl)),
 f321:=Tryz.func200.trans (congrArg some (by kernel_rfl)),
 f322:=Tryz.func201.trans (congrArg some (by kernel_rfl)),
 f337:=Tryz.func215.trans (congrArg some (by kernel_rfl)),
 f338:=Tryz.func216.trans (congrArg some (by kernel_rfl)),
 t0:=Tryz.underlying0,
 a0:=Tryz.isAgg0,
 z0:=Tryz.sizeOf0,
 v0:=Tryz.zeroValue0,
 t2:=Tryz.underlying2,
 a2:=Tryz.isAgg2,
 z2:=Tryz.sizeOf2,
 v2:=Tryz.zeroValue2,
 t3:=Tryz.underlying3,
 a3:=Tryz.isAgg3,
 z3:=Tryz.sizeOf3,
 v3:=Tryz.zeroValue3,
 t4:=Tryz.underlying4,
 a4:=Tryz.isAgg4,
 z4:=Tryz.sizeOf4,
 v4:=Tryz.zeroValue4,
 t5:=Tryz.underlying5,
 a5:=Tryz.isAgg5,
 z5:=Tryz.sizeOf5,
 v5:=Tryz.zeroValue5,
 t9:=Tryz.underlying9,
 a9:=Tryz.isAgg9,
 z9:=Tryz.sizeOf9,
 v9:=Tryz.zeroValue9,
 t20:=Tryz.underlying20,
 a20:=Tryz.isAgg20,
 z20:=Tryz.sizeOf20,
 v20:=Tryz.zeroValue20,
 t21:=Tryz.underlying21,
 a21:=Tryz.isAgg21,
 z21:=Tryz.sizeOf21,
 v21:=Tryz.zeroValue21,
 t37:=Tryz.underlying22,
 a37:=Tryz.isAgg22,
 z37:=Tryz.sizeOf22,
 v37:=Tryz.zeroValue22,
 t46:=Tryz.underlying244,
 a46:=Tryz.isAgg244,
 z46:=Tryz.sizeOf244,
 v46:=Tryz.zeroValue244,
 t51:=Tryz.underlying265,
 a51:=Tryz.isAgg265,
 z51:=Tryz.sizeOf265,
 v51:=Tryz.zeroValue265,
 t53:=Tryz.underlying241,
 a53:=Tryz.isAgg241,
 z53:=Tryz.sizeOf241,
 v53:=Tryz.zeroValue241,
 t75:=Tryz.underlying185,
 a75:=Tryz.isAgg185,
 z75:=Tryz.sizeOf185,
 v75:=Tryz.zeroValue185,
 t76:=Tryz.underlying186,
 a76:=Tryz.isAgg186,
 z76:=Tryz.sizeOf186,
 v76:=Tryz.zeroValue186,
 t85:=Tryz.underlying226,
 a85:=Tryz.isAgg226,
 z85:=Tryz.sizeOf226,
 v85:=Tryz.zeroValue226,
 t127:=Tryz.underlying259,
 a127:=Tryz.isAgg259,
 z127:=Tryz.sizeOf259,
 v127:=Tryz.zeroValue259,
 t143:=Tryz.underlying260,
 a143:=Tryz.isAgg260,
 z143:=Tryz.sizeOf260,
 v143:=Tryz.zeroValue260,
 t145:=Tryz.underlying262,
 a145:=Tryz.isAgg262,
 z145:=Tryz.sizeOf262,
 v145:=Tryz.zeroValue262,
 t167:=Tryz.underlying225,
 a167:=Tryz.isAgg225,
 z167:=Tryz.sizeOf225,
 v167:=Tryz.zeroValue225,
 t168:=Tryz.underlying228,
 a168:=Tryz.isAgg228,
 z168:=Tryz.sizeOf228,
 v168:=Tryz.zeroValue228,
 t171:=Tryz.underlying250,
 a171:=Tryz.isAgg250,
 z171:=Tryz.sizeOf250,
 v171:=Tryz.zeroValue250,
 t173:=Tryz.underlying253,
 a173:=Tryz.isAgg253,
 z173:=Tryz.sizeOf253,
 v173:=Tryz.zeroValue253,
 t175:=Tryz.underlying242,
 a175:=Tryz.isAgg242,
 z175:=Tryz.sizeOf242,
 v175:=Tryz.zeroValue242,
 t210:=Tryz.underlying247,
 a210:=Tryz.isAgg247,
 z210:=Tryz.sizeOf247,
 v210:=Tryz.zeroValue247,
 t212:=Tryz.underlying264,
 a212:=Tryz.isAgg264,
 z212:=Tryz.sizeOf264,
 v212:=Tryz.zeroValue264,
 t213:=Tryz.underlying266,
 a213:=Tryz.isAgg266,
 z213:=Tryz.sizeOf266,
 t232:=Tryz.underlying279,
 a232:=Tryz.isAgg279,
 z232:=Tryz.sizeOf279,
 v232:=Tryz.zeroValue279,
 t233:=Tryz.underlying280,
 a233:=Tryz.isAgg280,
 z233:=Tryz.sizeOf280,
 v233:=Tryz.zeroValue280,
 g15:=by kernel_rfl,
 g16:=by kernel_rfl,
 g17:=by kernel_rfl,
 g18:=by kernel_rfl,
 g19:=by kernel_rfl}
def Tryz.uo:Go.Shelf.Ren:=⟨fun|171=>148|243=>164|246=>179|283=>192|284=>193|285=>194|286=>195|129=>204|317=>203|318=>205|319=>206|320=>207|337=>215|338=>216|n=>n,fun|3=>3|9=>9|2=>2|4=>4|171=>250|0=>0|53=>241|37=>22|5=>5|173=>253|212=>264|51=>265|20=>20|213=>266|46=>244|232=>279|233=>280|n=>n,fun|17=>2|18=>6|19=>7|n=>n⟩
theorem Tryz.AU:Go.Proofs.LaysM.n171 Tryz.prog Tryz.uo:={
 mixed:=by kernel_rfl,
 f129:=Tryz.func204.trans (congrArg some (by kernel_rfl)),
 f171:=Tryz.func148.trans (congrArg some (by kernel_rfl)),
 f243:=Tryz.func164.trans (congrArg some (by kernel_rfl)),
 f246:=Tryz.func179.trans (congrArg some (by kernel_rfl)),
 f283:=Tryz.func192.trans (congrArg some (by kernel_rfl)),
 f284:=Tryz.func193.trans (congrArg some (by kernel_rfl)),
 f285:=Tryz.func194.trans (congrArg some (by kernel_rfl)),
 f286:=Tryz.func195.trans (congrArg some (by kernel_rfl)),
 f317:=Tryz.func203.trans (congrArg some (by kernel_rfl)),
 f318:=Tryz.func205.trans (congrArg some (by kernel_rfl)),
 f319:=Tryz.func206.trans (congrArg some (by kernel_rfl)),
 f320:=Tryz.func207.trans (congrArg some (by kernel_rfl)),
 f337:=Tryz.func215.trans (congrArg some (by kernel_rfl)),
 f338:=Tryz.func216.trans (congrArg some (by kernel_rfl)),
 t0:=Tryz.underlying0,
 a0:=Tryz.isAgg0,
 z0:=Tryz.sizeOf0,
 v0:=Tryz.zeroValue0,
 t2:=Tryz.underlying2,
 a2:=Tryz.isAgg2,
 z2:=Tryz.sizeOf2,
 v2:=Tryz.zeroValue2,
 t3:=Tryz.underlying3,
 a3:=Tryz.isAgg3,
 z3:=Tryz.sizeOf3,
 v3:=Tryz.zeroValue3,
 t4:=Tryz.underlying4,
 a4:=Tryz.isAgg4,
 z4:=Tryz.sizeOf4,
 v4:=Tryz.zeroValue4,
 t5:=Tryz.underlying5,
 a5:=Tryz.isAgg5,
 z5:=Tryz.sizeOf5,
 v5:=Tryz.zeroValue5,
 t9:=Tryz.underlying9,
 a9:=Tryz.isAgg9,
 z9:=Tryz.sizeOf9,
 v9:=Tryz.zeroValue9,
 t20:=Tryz.underlying20,
 a20:=Tryz.isAgg20,
 z20:=Tryz.sizeOf20,
 v20:=Tryz.zeroValue20,
 t37:=Tryz.underlying22,
 a37:=Tryz.isAgg22,
 z37:=Tryz.sizeOf22,
 v37:=Tryz.zeroValue22,
 t46:=Tryz.underlying244,
 a46:=Tryz.isAgg244,
 z46:=Tryz.sizeOf244,
 v46:=Tryz.zeroValue244,
 t51:=Tryz.underlying265,
 a51:=Tryz.isAgg265,
 z51:=Tryz.sizeOf265,
 v51:=Tryz.zeroValue265,
 t53:=Tryz.underlying241,
 a53:=Tryz.isAgg241,
 z53:=Tryz.sizeOf241,
 v53:=Tryz.zeroValue241,
 t171:=Tryz.underlying250,
 a171:=Tryz.isAgg250,
 z171:=Tryz.sizeOf250,
 v171:=Tryz.zeroValue250,
 t173:=Tryz.underlying253,
 a173:=Tryz.isAgg253,
 z173:=Tryz.sizeOf253,
 v173:=Tryz.zeroValue253,
 t212:=Tryz.underlying264,
 a212:=Tryz.isAgg264,
 z212:=Tryz.sizeOf264,
 v212:=Tryz.zeroValue264,
 t213:=Tryz.underlying266,
 a213:=Tryz.isAgg266,
 z213:=Tryz.sizeOf266,
 t232:=Tryz.underlying279,
 a232:=Tryz.isAgg279,
 z232:=Tryz.sizeOf279,
 v232:=Tryz.zeroValue279,
 t233:=Tryz.underlying280,
 a233:=Tryz.isAgg280,
 z233:=Tryz.sizeOf280,
 v233:=Tryz.zeroValue280,
 g17:=by kernel_rfl,
 g18:=by kernel_rfl,
 g19:=by kernel_rfl,
 i0:=by kernel_rfl,
 i2:=by kernel_rfl,
 i3:=by kernel_rfl,
 i4:=by kernel_rfl,
 i5:=by kernel_rfl,
 i9:=by kernel_rfl,
 i20:=by kernel_rfl,
 i37:=by kernel_rfl,
 i46:=by kernel_rfl,
 i51:=by kernel_rfl,
 i53:=by kernel_rfl,
 i171:=by kernel_rfl,
 i173:=by kernel_rfl,
 i212:=by kernel_rfl,
 i232:=by kernel_rfl,
 i233:=by kernel_rfl,
 m17:=by kernel_rfl,
 m18:=by kernel_rfl,
 m19:=by kernel_rfl}
end Go.Proofs
namespace Go.Proofs.Trees
open Go Go.VL
noncomputable section
def Me:List (Nat×TI):=[
 (0,⟨false,[],false,0,.tuple [],false⟩),
 (2,⟨true,[.int .i64],false,8,.num .i64,false⟩),
 (3,⟨true,[.int .i64],false,8,.num .i64,false⟩),
 (4,⟨true,[.bool],false,1,.bl,false⟩),
 (5,⟨true,[.int .u8],false,1,.num .u8,false⟩),
 (9,⟨true,[.str],false,16,.str,false⟩),
 (20,⟨true,[.ke],false,16,.other,false⟩),
 (21,⟨true,[.int .i32],false,4,.num .i32,false⟩),
 (22,⟨true,[.sl],false,24,.slice 5,false⟩),
 (23,⟨true,[.sl],false,24,.slice 3,false⟩),
 (24,⟨false,[],false,0,.tuple [9,9,23],false⟩),
 (26,⟨true,[.sl],false,24,.slice 9,false⟩),
 (28,⟨true,[.str,.sl,.str],true,56,.struct [(0,9),(1,26),(2,9)],false⟩),
 (29,⟨false,[],false,0,.tuple [28,4],false⟩),
 (32,⟨false,[],false,0,.tuple [23,4],false⟩),
 (34,⟨false,[],false,0,.tuple [9,4],false⟩),
 (38,⟨false,[],false,0,.tuple [9,9],false⟩),
 (40,⟨false,[],false,0,.tuple [26,4],false⟩),
 (43,⟨true,[.sl],false,24,.slice 23,false⟩),
 (44,⟨false,[],false,0,.tuple [43,4],false⟩),
 (47,⟨false,[],false,0,.tuple [9,9,9],false⟩),
 (50,⟨true,[.sl,.str,.str],true,56,.struct [(0,23),(1,9),(2,9)],false⟩),
 (51,⟨false,[],false,0,.tuple [50,4],false⟩),
 (55,⟨true,[.ptr],false,8,.pt,true⟩),
 (59,⟨true,[.ptr],false,8,.pt,true⟩),
 (65,⟨true,[.ptr],false,8,.pt,true⟩),
 (66,⟨true,[.sl],false,24,.slice 67,false⟩),
 (67,⟨true,[.ptr],false,8,.pt,true⟩),
 (69,⟨true,[.str,.ptr,.sl,.ptr],true,56,.struct [(0,9),(1,65),(2,66),(3,67)],false⟩),
 (74,⟨true,[.sl],false,24,.slice 78,false⟩),
 (75,⟨false,[],false,0,.tuple [74,4],false⟩),
 (78,⟨true,[.ptr,.sl],true,32,.struct [(0,67),(1,23)],false⟩),
 (79,⟨true,[.sl],false,24,.slice 50,false⟩),
 (80,⟨false,[],false,0,.tuple [79,4],false⟩),
 (83,⟨false,[],false,0,.tuple [65,67],false⟩),
 (86,⟨true,[.sl],false,24,.slice 88,false⟩),
 (88,⟨true,[.str,.sl],true,40,.struct [(0,9),(1,86)],false⟩),
 (89,⟨false,[],false,0,.tuple [88,4],false⟩),
 (95,⟨true,[.sl,.int .i64],true,32,.struct [(0,22),(1,3)],false⟩),
 (100,⟨true,[.sl],false,24,.slice 103,false⟩),
 (103,⟨true,[.ptr,.ptr],true,16,.struct [(0,67),(1,67)],false⟩),
 (107,⟨true,[.sl],false,24,.slice 113,false⟩),
 (108,⟨false,[],false,0,.tuple [107,4],false⟩),
 (113,⟨true,[.str,.str],true,32,.struct [(0,9),(1,9)],false⟩),
 (116,⟨true,[.ke],false,8,.other,false⟩),
 (118,⟨true,[.int .u8,.str,.ptr,.ptr],true,40,.struct [(0,5),(1,9),(2,67),(3,67)],false⟩),
 (119,⟨true,[.ke],false,8,.other,false⟩),
 (124,⟨true,[.sl],false,24,.slice 201,false⟩),
 (127,⟨true,[.sl],false,24,.slice 130,false⟩),
 (130,⟨true,[.str,.sl,.str,.sl],true,80,.struct [(0,88),(2,88)],false⟩),
 (137,⟨true,[.int .u8,.str,.int .i64,.ptr,.ptr],true,48,.struct [(0,5),(1,9),(2,3),(3,65),(4,65)],false⟩),
 (138,⟨false,[],false,0,.tuple [65,4],false⟩),
 (143,⟨true,[.ptr],false,8,.pt,true⟩),
 (145,⟨true,[.ptr,.ptr],true,16,.struct [(0,65),(1,143)],false⟩),
 (146,⟨true,[.ptr],false,8,.pt,true⟩),
 (147,⟨false,[],false,0,.tuple [145,146],false⟩),
 (151,⟨true,[.str,.ptr],true,24,.struct [(0,9),(1,146)],false⟩),
 (156,⟨true,[.ke],false,8,.other,false⟩),
 (157,⟨false,[],false,0,.tuple [88,124],false⟩),
 (160,⟨false,[],false,0,.tuple [88,3],false⟩),
 (168,⟨true,[.ptr],false,8,.pt,true⟩),
 (170,⟨true,[.sl,.int .i64],true,32,.struct [(0,26),(1,3)],false⟩),
 (171,⟨true,[.ptr],false,8,.pt,true⟩),
 (174,⟨true,[.ptr],false,8,.pt,true⟩),
 (176,⟨true,[.int .i64,.bool],true,16,.struct [(0,3),(1,4)],false⟩),
 (185,⟨true,[.ke],false,16,.other,false⟩),
 (186,⟨false,[],false,0,.tuple [3,185],false⟩),
 (189,⟨true,[.ptr,.ptr],true,16,.struct [(0,145)],false⟩),
 (193,⟨true,[.ptr,.ptr],true,16,.struct [(0,146),(1,143)],false⟩),
 (195,⟨true,[.ke],false,8,.other,false⟩),
 (196,⟨true,[.ke],false,8,.other,false⟩),
 (201,⟨true,[.str,.str,.sl,.sl],true,80,.struct [(0,9),(1,88),(3,124)],false⟩),
 (205,⟨false,[],false,0,.tuple [171,9],false⟩),
 (207,⟨true,[.sl],false,24,.slice 171,false⟩),
 (209,⟨true,[.str,.sl],true,40,.struct [(0,9),(1,207)],false⟩),
 (213,⟨true,[.ke],false,8,.other,false⟩),
 (221,⟨true,[.ke],false,8,.other,false⟩),
 (226,⟨false,[],false,0,.tuple [2,185],false⟩),
 (228,⟨true,[.ptr],false,8,.pt,true⟩),
 (237,⟨false,[],false,0,.tuple [236,4],false⟩),
 (240,⟨true,[.ptr],false,8,.pt,true⟩),
 (241,⟨true,[.int .u64],false,8,.num .u64,false⟩),
 (242,⟨false,[],false,0,.tuple [241,185],false⟩),
 (244,⟨true,[.int .u64],false,8,.num .u64,false⟩),
 (247,⟨true,[.str,.str,.ke],true,48,.struct [(0,9),(1,9),(2,185)],false⟩),
 (250,⟨true,[.int .u8,.int .u8,.int .u8,.int .u8,.int .u8,.int .u8,.int .u8,.int .u8,.int .u8,.int .u8,.int .u8,.int .u8,.int .u8,.int .u8,.int .u8,.int .u8,.int .u8,.int .u8,.int .u8,.int .u8,.int .u8,.int .u8,.int .u8,.int .u8],true,24,.array 24 5,false⟩),
 (253,⟨false,[],false,0,.tuple [22,9],false⟩),
 (255,⟨false,[],false,0,.tuple [21,3],false⟩),
 (259,⟨true,[.ptr],false,8,.pt,true⟩),
 (260,⟨true,[.ptr],false,8,.pt,true⟩),
 (262,⟨true,[.str],true,16,.struct [(0,9)],false⟩),
 (264,⟨true,[.int .u64,.int .u64,.int .u64,.int .u64,.int .u64,.int .u64,.int .u64,.int .u64,.int .u64,.int .u64,.int .u64,.int .u64,.int .u64,.int .u64,.int .u64,.int .u64,.int .u64,.int .u64,.int .u64,.int .u64],true,160,.array 20 241,false⟩),
 (265,⟨true,[.int .u32],false,4,.num .u32,false⟩),
 (274,⟨true,[.int .u8,.int .u8],true,2,.struct [(0,5),(1,5)],false⟩),
 (275,⟨true,[.int .u8,.int .u8,.int .u8,.int .u8,.int .u8,.int .u8,.int .u8,.int .u8,.int .u8,.int .u8,.int .u8,.int .u8,.int .u8,.int .u8,.int .u8,.int .u8,.int .u8,.int .u8,.int .u8,.int .u8,.int .u8,.int .u8,.int .u8,.int .u8,.int .u8,.int .u8,.int .u8,.int .u8,.int .u8,.int .u8,.int .u8,.int .u8],true,32,.array 16 274,false⟩),
 (277,⟨false,[],false,0,.tuple [265,265],false⟩),
 (279,⟨true,[.int .u8,.int .u8,.int .u8,.int .u8,.int .u8,.int .u8,.int .u8,.int .u8,.int .u8,.int .u8,.int .u8,.int .u8,.int .u8,.int .u8,.int .u8,.int .u8,.int .u8,.int .u8,.int .u8,.int .u8,.int .u8,.int .u8,.int .u8,.int .u8,.int .u8,.int .u8,.int .u8,.int .u8,.int .u8,.int .u8,.int .u8,.int .u8],true,32,.array 32 5,false⟩)]
def Km(t:Nat):TI:=xB Me t
abbrev ec:Func:=Tryz.f90
abbrev qe:Func:=Tryz.f124
abbrev qh:Func:=Tryz.f148
abbrev p8:Func:=Tryz.f169
abbrev nh:Func:=Tryz.f178
def PS:List (Nat×FC):=[(166,{mu:=[(1,.one (.obj [.vec 1]))],own:=[]}),(98,{mu:=[(2,.one (.vec))],own:=[0]}),(16700165,{mu:=[(1,.fn [some (.obj [.vec 1])])],own:=[]}),(129,{mu:=[(2,.one (.obj [.vec 2]))],own:=[]}),(13100129,{mu:=[(1,.fn [some (.obj [.lk .ptr])]),(2,.one (.obj [.vec 2]))],own:=[]}),(13200129,{mu:=[(1,.fn [some (.obj [.lk .ptr])]),(2,.one (.obj [.vec 2]))],own:=[]}),(13400129,{mu:=[(1,.fn [some (.obj [.lk .ptr])]),(2,.one (.obj [.vec 2]))],own:=[]}),(13600129,{mu:=[(1,.fn [some (.obj [.lk .ptr,.lk .ptr])]),(2,.one (.obj [.vec 2]))],own:=[]}),(130,{mu:=[(1,.one (.obj [.lk .ptr]))],own:=[]}),(131,{mu:=[(1,.one (.obj [.lk .ptr]))],own:=[]}),(133,{mu:=[(1,.one (.obj [.lk .ptr]))],own:=[]}),(135,{mu:=[(1,.one (.obj [.lk .ptr,.lk .ptr]))],own:=[]}),(65,{mu:=[(1,.one (.obj [.vec 2])),(2,.one (.obj [.lk .ptr])),(3,.w4 65 [some 0,some 2,none])],own:=[]}),(151,{mu:=[(2,.w4 151 [none,some 0,some 1]),(3,.one (.obj [.lk .sl])),(4,.one (.obj [.lk (.int .i64)]))],own:=[]}),(66,{mu:=[(3,.one (.vec))],own:=[0]}),(105,{mu:=[(2,.one (.vec))],own:=[0]}),(29,{mu:=[(0,.one (.obj [.lk .sl,.lk (.int .i64)]))],own:=[]}),(112,{mu:=[(3,.one (.obj [.vec 1,.lk (.int .i64)]))],own:=[]}),(80,{mu:=[(0,.one (.obj [.lk .sl,.lk (.int .i64)]))],own:=[]}),(27,{mu:=[],own:=[0],ow:=[.sl,.int .i64]}),(15,{mu:=[],own:=[0]}),(23,{mu:=[],own:=[0],oa:=[.vec 1,.lk .str,.lk .str]}),(44,{mu:=[],own:=[0],oa:=[.vec 1,.lk .str,.lk .str]}),(116,{mu:=[(0,.one (.obj [.lk (.int .i64),.lk .bool]))],own:=[]}),(117,{mu:=[(0,.one (.obj [.lk (.int .i64),.lk .bool]))],own:=[]}),(118,{mu:=[(0,.one (.obj [.lk (.int .i64),.lk .bool]))],own:=[]}),(107,{mu:=[(0,.one (.obj [.lk .sl,.lk (.int .i64)]))],own:=[]}),(50,{mu:=[(0,.one (.obj [.lk .sl,.lk (.int .i64)]))],own:=[]}),(106,{mu:=[(0,.one (.obj [.lk .sl,.lk (.int .i64)]))],own:=[]}),(82,{mu:=[(0,.one (.obj [.lk .sl,.lk (.int .i64)]))],own:=[]}),(52,{mu:=[(0,.one (.obj [.lk .sl,.lk (.int .i64)]))],own:=[]}),(81,{mu:=[(0,.one (.obj [.lk .sl,.lk (.int .i64)]))],own:=[]}),(51,{mu:=[(0,.one (.obj [.lk .sl,.lk (.int .i64)]))],own:=[]}),(28,{mu:=[(0,.one (.obj [.lk .sl,.lk (.int .i64)]))],own:=[]}),(42,{mu:=[(0,.one (.obj [.lk .sl,.lk (.int .i64)]))],own:=[]}),(49,{mu:=[],own:=[0],oa:=[.lk .str,.vec 1,.lk .str]}),(8,{mu:=[],own:=[0],oa:=[.lk .str,.vec 1,.lk .str]}),(32,{mu:=[],own:=[0],oa:=[.lk .str,.vec 1,.lk .str]}),(11,{mu:=[],own:=[0]}),(64,{mu:=[(1,.one (.obj [.lk .str]))],own:=[]}),(6500063,{mu:=[(1,.fn [some (.obj [.lk .str])])],own:=[]}),(38,{mu:=[(0,.one (.cA false [.vec 1]))],own:=[]})]
def cw(f:Nat):FC:=A6 PS f
theorem CM:(Me.all fun p=>!p.2.kn||p.2.v8 Tryz.prog p.1)=true:=by kernel_rfl
theorem tT:cT Tryz.prog Km:=uL CM
theorem mixed:Tryz.prog.follows .mixedOrders=true:=by kernel_rfl
abbrev NZ(r:AV)(k:Tree):Tree:=.aj (LK.has .ptr r/\r.isNil=false) k
abbrev NP(r:AV)(k:Tree):Tree:=.aj (LK.has .ptr r) k
abbrev NS(r:AV)(k:Tree):Tree:=.aj (LK.has .str r) k
abbrev NB(r:AV)(k:Tree):Tree:=.aj (LK.has .bool r) k
abbrev NL(r:AV)(k:Tree):Tree:=.aj (LK.has .sl r) k
abbrev NI(r:AV)(k:Tree):Tree:=.aj (LK.has (.int .i64) r) k
abbrev eE(l:List AV)(k:Tree):Tree:=.aj (LK.has .ptr (l.headD .any)/\1<=l.length) k
abbrev mG(l:List AV)(k:Tree):Tree:=.aj (LK.has .str (l.headD .any)/\1<=l.length) k
abbrev qg(l:List AV)(k:Tree):Tree:=.aj (LK.has .sl (l.headD .any)/\1<=l.length) k
abbrev NT(r:AV)(k:Tree):Tree:=.aj (r=.cQ [r.comp 0,r.comp 1]) k
abbrev NA(r:AV)(k:Tree):Tree:=.aj (r=.agg r.cs/\r.cs.length=2/\cc [.str,.sl] r.cs 0) k
abbrev NE(l:List AV)(k:Tree):Tree:=.aj (cc [.str,.sl] l 0/\2<=l.length) k
abbrev NG(r:AV)(i:Int)(z:Nat)(k:Tree):Tree:=.aj (LK.has .sl r/\0<=i/\i<r.aO.length/\(r.aO.getD i.toNat []).length=z) k
abbrev RL:Type:=Nat->List AV->List Ob->Prop
abbrev VS(x:ByteArray):AV:=.v (.string x)
abbrev VI(x:Int):AV:=.v (.int .i64 x)
abbrev VB(x:Bool):AV:=.v (.bool x)
abbrev _root_.List.hA(l:List AV):AV:=l.headD .any
abbrev _root_.List.hO(l:List Ob):Ob:=l.headD .dead
abbrev _root_.Go.VL.AV.ix(a:AV)(i:Int):List AV:=a.aO.getD i.toNat []
abbrev dz(n:Nat)(t:Tree)(R:AV->List Ob->Prop):Prop:=eF Tryz.prog n t fun _ xs obs=>R (xs.headD .any) obs
abbrev kk(n:Nat)(t:Tree)(S:List AV->List Ob->RL->Prop)(R:RL):Prop:=eF Tryz.prog n t (CI (fun ys o=>S ys o R) R)
theorem gQ{n:Nat}{c:Code}{li:LI}{xs:List AV}{obs:List Ob}{R:RL}{t:Tree}(lis:List (Nat×LI))(h:eF Tryz.prog n t (CI (fun ys o=>cn Tryz.prog n c li ys o R) R))(e:round Km cw n lis c li xs obs=t:=by kernel_rfl):cn Tryz.prog n c li xs obs R:=cn.Nr (cw:=cw) (lis:=lis) tT mixed e h
theorem Qh(n:Nat)(t:Tree)(R:AV->List Ob->Prop):dz n t R=eF Tryz.prog n t fun _ xs obs=>R (xs.headD .any) obs:=rfl
theorem O5(n:Nat)(t:Tree)(S:List AV->List Ob->RL->Prop)(R:RL):kk n t S R=eF Tryz.prog n t (CI (fun ys o=>S ys o R) R):=rfl
theorem Rh(x:ByteArray):VS x=.v (.string x):=rfl
theorem Q6(x:Int):VI x=.v (.int .i64 x):=rfl
theorem Q3(x:Bool):VB x=.v (.bool x):=rfl
theorem Ra(l:List AV):l.hA=l.headD .any:=rfl
theorem Rj(l:List Ob):l.hO=l.headD .dead:=rfl
theorem Rb(a:AV)(i:Int):a.ix i=a.aO.getD i.toNat []:=rfl
theorem oQ{f:Nat}{asq:List AV}{ins:List Ob}{R:AV->List Ob->Prop}{t:Tree}(lis:List (Nat×LI))(F:Func)(h:eF Tryz.prog F.ntmps t fun _ xs obs=>R (xs.headD .any) obs)(hf:Tryz.prog.funcs[f]?=some F:=by kernel_rfl)(hnm:(F.name=="runtime.NumGoroutine")=false:=by kernel_rfl)(e:main Km cw lis {} F asq ins=t:=by kernel_rfl):ap Tryz.prog f asq ins R:=ap.Nr (cw:=cw) (lis:=lis) (fc:={}) tT mixed hf hnm e h
theorem oF{f:Nat}{asq:List AV}{ins:List Ob}{R:AV->List Ob->Prop}{t:Tree}(lis:List (Nat×LI))(fc:FC)(F:Func)(h:eF Tryz.prog F.ntmps t fun _ xs obs=>R (xs.headD .any) obs)(hf:Tryz.prog.funcs[f]?=some F:=by kernel_rfl)(hnm:(F.name=="runtime.NumGoroutine")=false:=by kernel_rfl)(e:main Km cw lis fc F asq ins=t:=by kernel_rfl):ap Tryz.prog f asq ins R:=ap.Nr (cw:=cw) (lis:=lis) (fc:=fc) tT mixed hf hnm e h
theorem uQ{P:Program}{f:Nat}{asq bs:List AV}{R:AV->List Ob->Prop}(h:wR asq bs)(hf:ap P f bs [] R):ap P f asq [] R:=ap.nu cm (ap.up h hf)
theorem Q1(r:AV)(k:Tree):NZ r k=.aj (LK.has .ptr r/\r.isNil=false) k:=rfl
theorem Rg(r:AV)(k:Tree):NP r k=.aj (LK.has .ptr r) k:=rfl
theorem Rd(r:AV)(k:Tree):NS r k=.aj (LK.has .str r) k:=rfl
theorem Rf(r:AV)(k:Tree):NB r k=.aj (LK.has .bool r) k:=rfl
theorem QY(r:AV)(k:Tree):NL r k=.aj (LK.has .sl r) k:=rfl
theorem Q7(r:AV)(k:Tree):NI r k=.aj (LK.has (.int .i64) r) k:=rfl
theorem Ox(l:List AV)(k:Tree):eE l k=.aj (LK.has .ptr (l.headD .any)/\1<=l.length) k:=rfl
theorem OX(l:List AV)(k:Tree):mG l k=.aj (LK.has .str (l.headD .any)/\1<=l.length) k:=rfl
theorem OU(l:List AV)(k:Tree):qg l k=.aj (LK.has .sl (l.headD .any)/\1<=l.length) k:=rfl
theorem QZ(r:AV)(k:Tree):NT r k=.aj (r=.cQ [r.comp 0,r.comp 1]) k:=rfl
theorem QW(r:AV)(k:Tree):NA r k=.aj (r=.agg r.cs/\r.cs.length=2/\cc [.str,.sl] r.cs 0) k:=rfl
theorem Q9(l:List AV)(k:Tree):NE l k=.aj (cc [.str,.sl] l 0/\2<=l.length) k:=rfl
theorem Re(r:AV)(i:Int)(z:Nat)(k:Tree):NG r i z k=.aj (LK.has .sl r/\0<=i/\i<r.aO.length/\(r.aO.getD i.toNat []).length=z) k:=rfl
set_option linter.defProp false in
def zq:=aI @Q1 (aI @Rg (aI @Rd (aI @Rf (aI @QY (aI @Q7 (aI @Ox (aI @OX (aI @OU (aI @QZ (aI @QW (aI @Q9 (aI @Re (aI @Qh (aI @O5 (aI @Rh (aI @Q6 (aI @Q3 ((aI @Ra (aI @Rj (aI @Rb @zp)))))))))))))))))))))
variable {R:AV->List Ob->Prop} {U:RL}
def FF:LI:={hd:={bN:=[(3,.k .str),(4,.k .str),(9,.k .sl),(10,.k .bool),(11,.k (.int .i64))],dZ:=[(5,1)]},xs:={bN:=[(4,.k .str),(9,.k .sl),(10,.k .bool)],dZ:=[(5,1)]},rt:={bN:=[(2,.k .bool)]},ex:=0}
def Jj:Code:=cz (ct Tryz.f4) 10
def Mx:List (Nat×LI):=[(10,FF)]
def Jd(a0:AV):Tree :=
 NL a0<|.test (decide ((a0.aO.length:Int)>(1048576:Int))) (.done 0 [VB true] []) (.call 14 [a0] [] fun r1 o1=>NT r1<|NS (r1.comp 0)<|NS (r1.comp 1)<|.call 15 [VS ((r1.comp 0).ah),VS ((r1.comp 1).ah)] [] fun r2 o2=>NT r2<|.aj (r2.comp 0=.vec 0/\(o2.hO)=.vec 1 (o2.hO).es)<|NB (r2.comp 1)<|.aj (∀x,x∈o2->kZ x)<|.call 16 [VS ((r1.comp 0).ah),VS ((r1.comp 1).ah)] [] fun r3 o3=>NT r3<|NL (r3.comp 0)<|NB (r3.comp 1)<|.test (!(((r2.comp 1).toBool)==((r3.comp 1).toBool))) (.test (((r2.comp 1).toBool)==((r3.comp 1).toBool)) (.call 17 [.sl ((o2.hO).es),(r3.comp 0)] [] fun r4 o4=>NB r4<|.done 0 [VB r4.toBool] []) (.done 0 [VB false] [])) (.call 17 [.sl ((o2.hO).es),(r3.comp 0)] [] fun r5 o5=>NB r5<|.test (!r5.toBool) (.test (((r2.comp 1).toBool)==((r3.comp 1).toBool)) (.call 17 [.sl ((o2.hO).es),(r3.comp 0)] [] fun r6 o6=>NB r6<|.done 0 [VB r6.toBool] []) (.done 0 [VB false] [])) (.test (!((r2.comp 1).toBool)) (.test (((r2.comp 1).toBool)==((r3.comp 1).toBool)) (.call 17 [.sl ((o2.hO).es),(r3.comp 0)] [] fun r7 o7=>NB r7<|.done 0 [VB r7.toBool] []) (.done 0 [VB false] [])) (.call 18 [VS ((r1.comp 0).ah),VS ((r1.comp 1).ah)] [] fun r8 o8=>NT r8<|NL (r8.comp 0)<|NB (r8.comp 1)<|.loop Jj FF [VS ((r1.comp 0).ah),VS ((r1.comp 1).ah),(r8.comp 0),VB ((r8.comp 1).toBool),VI 0] [.vec 1 ((o2.hO).es)] (fun y10 q10=>NS (y10.hA)<|NL (y10.tail.hA)<|NB (y10.tail.tail.hA)<|.aj (((q10.drop 0).hO)=.vec 1 ((q10.drop 0).hO).es)<|.test ((y10.tail.tail.hA).toBool) (NL (y10.tail.hA)<|.test ((((q10.hO).es).length:Int)==(((y10.tail.hA).aO).length:Int)) (.aj (0<=(0:Int)/\(0:Int)<((q10.hO).es).length)<|.aj ((0:Int).toNat<((q10.hO).es).length/\0<(((q10.hO).es).getD ((0:Int).toNat) []).length/\LK.has .str ((((q10.hO).es).getD ((0:Int).toNat) []).getD 0 .any))<|.done 0 [VB (af (((((q10.hO).es).getD ((0:Int).toNat) []).getD 0 .any).ah)==af ((y10.hA).ah))] []) (.done 0 [VB false] [])) (.done 0 [VB false] [])) (fun y10 q10=>NB (y10.hA)<|.done 0 [VB ((y10.hA).toBool)] [])))))
theorem Qp(a0:AV)(ha0:LK.has .sl a0)(h:dz 108 (Jd a0) R):ap Tryz.prog 4 [a0] [] R :=
 uQ (ag (ca ha0) aE) (oQ Mx Tryz.f4 h)
def Es(x3:ByteArray)(x4:ByteArray)(x9:AV)(x10:Bool)(x11:Int)(e5:List (List AV)):Tree :=
 NS (VS x3)<|NS (VS x4)<|NL x9<|NB (VB x10)<|NI (VI x11)<|.aj (Ob.vec 1 e5=.vec 1 e5)<|.test (decide (x11<(e5.length:Int))) (NL x9<|.test (decide (x11<(x9.aO.length:Int))) (NG x9 x11 1<|qg (x9.ix x11)<|.call 8 [VS x3,VS x4,((x9.ix x11).hA)] [] fun r1 o1=>NT r1<|.aj ((r1.comp 0)=.agg (r1.comp 0).cs/\aK [.lk .str,.vec 1,.lk .str] ((r1.comp 0).cs) 0 0 o1)<|NB (r1.comp 1)<|.aj (∀x,x∈o1->kZ x)<|.test ((r1.comp 1).toBool) (.aj (0<=x11/\x11<e5.length)<|.aj (x11.toNat<e5.length/\0<(e5.getD x11.toNat []).length/\LK.has .str ((e5.getD x11.toNat []).getD 0 .any))<|.test (!(af (((r1.comp 0).cs.getD 2 .any).ah)==af (((e5.getD x11.toNat []).getD 0 .any).ah))) (.done 2 [VB false] []) (.done 0 [VS x3,VS x4,x9,VB x10,VI (IntKind.wrap .i64 (x11+1))] [.vec 1 e5])) (.done 0 [VS x3,VS x4,x9,VB x10,VI (IntKind.wrap .i64 (x11+1))] [.vec 1 e5])) (.done 1 [VS x4,x9,VB x10] [.vec 1 e5])) (.done 1 [VS x4,x9,VB x10] [.vec 1 e5])
abbrev ES:=cn Tryz.prog 108 Jj FF
theorem JP(x3:ByteArray)(x4:ByteArray)(x9:AV)(x10:Bool)(x11:Int)(e5:List (List AV))(h:kk 108 (Es x3 x4 x9 x10 x11 e5) ES U):ES [VS x3,VS x4,x9,VB x10,VI x11] [.vec 1 e5] U :=
 gQ Mx h
def Gq:LI:={hd:={bN:=[(8,.k .ptr),(15,.k .sl),(16,.k (.int .i64)),(17,.k (.int .i64))],refs:=[(6,6)],cg:=[(6,[.lk .str,.lk .sl,.lk .str])]},xs:={bN:=[(8,.k .ptr)],refs:=[(6,6)],cg:=[(6,[.lk .str,.lk .sl,.lk .str])]},rt:={},ex:=0}
def Lf:Code:=cz (ct Tryz.f8) 3
def LX:List (Nat×LI):=[(3,Gq)]
def Ic(a0:ByteArray)(a1:ByteArray)(a2:AV):Tree :=
 .call 30 [.agg [VS a0,.v (.slice none 0 0),VS a1]] [] fun r1 o1=>NP r1<|NL a2<|.loop Lf Gq [r1,a2,VI (a2.aO.length:Int),VI 0] [.cells [VS (mk []),.v (.slice none 0 0),VS (mk [])]] (fun y3 q3=>NP (y3.hA)<|.aj ((q3.hO)=.cells (q3.hO).cs)<|.aj (ae [.lk .str,.lk .sl,.lk .str] ((q3.hO).cs) 0 q3.tail)<|.call 32 [(y3.hA)] [] fun r4 o4=>NT r4<|.aj ((r4.comp 0)=.agg (r4.comp 0).cs/\aK [.lk .str,.vec 1,.lk .str] ((r4.comp 0).cs) 0 0 o4)<|NB (r4.comp 1)<|.aj (∀x,x∈o4->kZ x)<|.done 0 [.cQ [.agg [VS (((r4.comp 0).cs.getD 0 .any).ah),.vec 0,VS (((r4.comp 0).cs.getD 2 .any).ah)],VB ((r4.comp 1).toBool)]] [.vec 1 ((o4.hO).es)]) (fun y3 q3=>.fail)
theorem Qq(a0:ByteArray)(a1:ByteArray)(a2:AV)(ha2:LK.has .sl a2)(h:dz 29 (Ic a0 a1 a2) R):ap Tryz.prog 8 [VS a0,VS a1,a2] [] R :=
 uQ (ag (aA _) (ag (aA _) (ag (ca ha2) aE))) (oF LX {mu:=[],own:=[0],oa:=[.lk .str,.vec 1,.lk .str]} Tryz.f8 h)
def HD(x8:AV)(x15:AV)(x16:Int)(x17:Int)(o6_0:ByteArray)(o6_1:AV)(o6_2:ByteArray):Tree :=
 NP x8<|NL x15<|NI (VI x16)<|NI (VI x17)<|.aj (Ob.cells [VS o6_0,o6_1,VS o6_2]=.cells [VS o6_0,o6_1,VS o6_2])<|.aj (ae [.lk .str,.lk .sl,.lk .str] [VS o6_0,o6_1,VS o6_2] 0 [])<|.test (decide (x17<x16)) (NG x15 x17 1<|.aj (LK.has (.int .i64) ((x15.ix x17).hA)/\1<=(x15.ix x17).length)<|.call 31 [x8,VI (((x15.ix x17).hA).toInt)] [] fun r1 o1=>NP r1<|.done 0 [r1,x15,VI x16,VI (IntKind.wrap .i64 (x17+1))] [.cells [VS o6_0,o6_1,VS o6_2]]) (.done 1 [x8] [.cells [VS o6_0,o6_1,VS o6_2]])
abbrev Fj:=cn Tryz.prog 29 Lf Gq
theorem LS(x8:AV)(x15:AV)(x16:Int)(x17:Int)(o6_0:ByteArray)(o6_1:AV)(o6_2:ByteArray)(h:kk 29 (HD x8 x15 x16 x17 o6_0 o6_1 o6_2) Fj U):Fj [x8,x15,VI x16,VI x17] [.cells [VS o6_0,o6_1,VS o6_2]] U :=
 gQ LX h
def Lu(a0:AV):Tree :=
 .call 27 [a0] [] fun r1 o1=>.aj (r1=.ref 0 0/\(o1.hO)=.cells (o1.hO).cs/\(o1.hO).cs.length=2/\cc [.sl,.int .i64] ((o1.hO).cs) 0)<|.call 28 [.ref 0 0] [.cells [((o1.hO).cs.getD 0 .any),VI (((o1.hO).cs.getD 1 .any).toInt)]] fun r2 o2=>.aj ((o2.hO)=.cells (o2.hO).cs)<|.aj (aK [.lk .sl,.lk (.int .i64)] ((o2.hO).cs) 0 1 o2.tail)<|NT r2<|NS (r2.comp 0)<|NS (r2.comp 1)<|.done 0 [.cQ [VS ((r2.comp 0).ah),VS ((r2.comp 1).ah)]] []
theorem PJ(a0:AV)(ha0:LK.has .sl a0)(h:dz 9 (Lu a0) R):ap Tryz.prog 14 [a0] [] R :=
 uQ (ag (ca ha0) aE) (oQ [] Tryz.f14 h)
def EJ:LI:={hd:={bN:=[(20,.k .sl),(21,.k (.int .i64)),(22,.k (.int .i64))],dZ:=[(8,1)]},xs:={dZ:=[(8,1)]},rt:={},ex:=0}
def LG:Code:=cz (ct Tryz.f15) 6
def Nf:List (Nat×LI):=[(6,EJ)]
def Ip(a0:ByteArray)(a1:ByteArray):Tree :=
 .call 40 [VS a0,VS a1] [] fun r1 o1=>NT r1<|NL (r1.comp 0)<|NB (r1.comp 1)<|.test (!((r1.comp 1).toBool)) (.done 0 [.cQ [.vec 0,VB false]] [.vec 1 []]) (NL (r1.comp 0)<|.loop LG EJ [(r1.comp 0),VI (((r1.comp 0).aO).length:Int),VI 0] [.vec 1 []] (fun y3 q3=>.aj (((q3.drop 0).hO)=.vec 1 ((q3.drop 0).hO).es)<|.done 0 [.cQ [.vec 0,VB true]] [.vec 1 ((q3.hO).es)]) (fun y3 q3=>.fail))
theorem QN(a0:ByteArray)(a1:ByteArray)(h:dz 34 (Ip a0 a1) R):ap Tryz.prog 15 [VS a0,VS a1] [] R :=
 uQ (ag (aA _) (ag (aA _) aE)) (oF Nf {mu:=[],own:=[0]} Tryz.f15 h)
def ET(x20:AV)(x21:Int)(x22:Int)(e8:List (List AV)):Tree :=
 NL x20<|NI (VI x21)<|NI (VI x22)<|.aj (Ob.vec 1 e8=.vec 1 e8)<|.test (decide (x22<x21)) (NG x20 x22 2<|.aj (cc [.ptr,.sl] (x20.ix x22) 0/\2<=(x20.ix x22).length)<|.call 39 [((x20.ix x22).getD 0 .any)] [] fun r1 o1=>NS r1<|.aj (bV 1 [[VS r1.ah]]/\((e8.length)+([[VS r1.ah]]:List (List AV)).length)*16<=140737488355328)<|.done 0 [x20,VI x21,VI (IntKind.wrap .i64 (x22+1))] [.vec 1 (e8++([[VS r1.ah]]:List (List AV)))]) (.done 1 [] [.vec 1 e8])
abbrev E2:=cn Tryz.prog 34 LG EJ
theorem Ll(x20:AV)(x21:Int)(x22:Int)(e8:List (List AV))(h:kk 34 (ET x20 x21 x22 e8) E2 U):E2 [x20,VI x21,VI x22] [.vec 1 e8] U :=
 gQ Nf h
def Ge:LI:={hd:={bN:=[(6,.k .sl),(7,.k .bool),(9,.k (.int .i64))],dZ:=[(8,1)]},xs:={bN:=[(7,.k .bool)],dZ:=[(8,1)]},rt:={},ex:=0}
def M5:Code:=cz (ct Tryz.f16) 4
def Nj:List (Nat×LI):=[(4,Ge)]
def L6(a0:ByteArray)(a1:ByteArray):Tree :=
 .call 41 [VS a0,VS a1] [] fun r1 o1=>NT r1<|NL (r1.comp 0)<|NB (r1.comp 1)<|.loop M5 Ge [(r1.comp 0),VB ((r1.comp 1).toBool),VI 0] [.vec 1 []] (fun y2 q2=>NB (y2.hA)<|.aj (((q2.drop 0).hO)=.vec 1 ((q2.drop 0).hO).es)<|.done 0 [.cQ [.sl ((q2.hO).es),VB ((y2.hA).toBool)]] []) (fun y2 q2=>.done 0 [.cQ [.any,.any]] [])
theorem Pc(a0:ByteArray)(a1:ByteArray)(h:dz 36 (L6 a0 a1) R):ap Tryz.prog 16 [VS a0,VS a1] [] R :=
 uQ (ag (aA _) (ag (aA _) aE)) (oQ Nj Tryz.f16 h)
def DK(x6:AV)(x7:Bool)(x9:Int)(e8:List (List AV)):Tree :=
 NL x6<|NB (VB x7)<|NI (VI x9)<|.aj (Ob.vec 1 e8=.vec 1 e8)<|NL x6<|.test (decide (x9<(x6.aO.length:Int))) (.test x7 (NG x6 x9 3<|mG ((x6.ix x9).drop 1)<|.aj (bV 1 [[VS ((((x6.ix x9).drop 1).hA).ah)]]/\((e8.length)+([[VS ((((x6.ix x9).drop 1).hA).ah)]]:List (List AV)).length)*16<=140737488355328)<|.done 0 [x6,VB x7,VI (IntKind.wrap .i64 (x9+1))] [.vec 1 (e8++([[VS ((((x6.ix x9).drop 1).hA).ah)]]:List (List AV)))]) (.done 1 [VB x7] [.vec 1 e8])) (.done 1 [VB x7] [.vec 1 e8])
abbrev Fx:=cn Tryz.prog 36 M5 Ge
theorem Hr(x6:AV)(x7:Bool)(x9:Int)(e8:List (List AV))(h:kk 36 (DK x6 x7 x9 e8) Fx U):Fx [x6,VB x7,VI x9] [.vec 1 e8] U :=
 gQ Nj h
def HA:LI:={hd:={bN:=[(0,.k .sl),(1,.k .sl),(5,.k (.int .i64))]},xs:={},rt:={bN:=[(4,.k .bool)]},ex:=0}
def Lc:Code:=cz (ct Tryz.f17) 4
def Iv:List (Nat×LI):=[(4,HA)]
def Lg(a0:AV)(a1:AV):Tree :=
 NL a0<|NL a1<|.test ((a0.aO.length:Int) != (a1.aO.length:Int)) (.done 0 [VB false] []) (.loop Lc HA [a0,a1,VI 0] [] (fun y1 q1=>.done 0 [VB true] []) (fun y1 q1=>NB (y1.hA)<|.done 0 [VB ((y1.hA).toBool)] []))
theorem Pe(a0:AV)(a1:AV)(ha0:LK.has .sl a0)(ha1:LK.has .sl a1)(h:dz 26 (Lg a0 a1) R):ap Tryz.prog 17 [a0,a1] [] R :=
 uQ (ag (ca ha0) (ag (ca ha1) aE)) (oQ Iv Tryz.f17 h)
def Hs(x0:AV)(x1:AV)(x5:Int):Tree :=
 NL x0<|NL x1<|NI (VI x5)<|NL x0<|.test (decide (x5<(x0.aO.length:Int))) (NG x0 x5 1<|mG (x0.ix x5)<|NG x1 x5 1<|mG (x1.ix x5)<|.test (!(af (((x0.ix x5).hA).ah)==af (((x1.ix x5).hA).ah))) (.done 2 [VB false] []) (.done 0 [x0,x1,VI (IntKind.wrap .i64 (x5+1))] [])) (.done 1 [] [])
abbrev HG:=cn Tryz.prog 26 Lc HA
theorem I4(x0:AV)(x1:AV)(x5:Int)(h:kk 26 (Hs x0 x1 x5) HG U):HG [x0,x1,VI x5] [] U :=
 gQ Iv h
def F9:LI:={hd:={bN:=[(20,.k .sl),(21,.k (.int .i64)),(22,.k (.int .i64))],dZ:=[(8,1)]},xs:={dZ:=[(8,1)]},rt:={},ex:=0}
def Ly:Code:=cz (ct Tryz.f18) 6
def LJ:List (Nat×LI):=[(6,F9)]
def H5(a0:ByteArray)(a1:ByteArray):Tree :=
 .call 40 [VS a0,VS a1] [] fun r1 o1=>NT r1<|NL (r1.comp 0)<|NB (r1.comp 1)<|.test (!((r1.comp 1).toBool)) (.done 0 [.cQ [.v (.slice none 0 0),VB false]] []) (NL (r1.comp 0)<|.loop Ly F9 [(r1.comp 0),VI (((r1.comp 0).aO).length:Int),VI 0] [.vec 1 []] (fun y2 q2=>.aj (((q2.drop 0).hO)=.vec 1 ((q2.drop 0).hO).es)<|.done 0 [.cQ [.sl ((q2.hO).es),VB true]] []) (fun y2 q2=>.done 0 [.cQ [.any,.any]] []))
theorem O9(a0:ByteArray)(a1:ByteArray)(h:dz 33 (H5 a0 a1) R):ap Tryz.prog 18 [VS a0,VS a1] [] R :=
 uQ (ag (aA _) (ag (aA _) aE)) (oQ LJ Tryz.f18 h)
def Hm(x20:AV)(x21:Int)(x22:Int)(e8:List (List AV)):Tree :=
 NL x20<|NI (VI x21)<|NI (VI x22)<|.aj (Ob.vec 1 e8=.vec 1 e8)<|.test (decide (x22<x21)) (NG x20 x22 2<|.aj (cc [.ptr,.sl] (x20.ix x22) 0/\2<=(x20.ix x22).length)<|.aj (bV 1 [[((x20.ix x22).getD 1 .any)]]/\((e8.length)+([[((x20.ix x22).getD 1 .any)]]:List (List AV)).length)*24<=140737488355328)<|.done 0 [x20,VI x21,VI (IntKind.wrap .i64 (x22+1))] [.vec 1 (e8++([[((x20.ix x22).getD 1 .any)]]:List (List AV)))]) (.done 1 [] [.vec 1 e8])
abbrev GP:=cn Tryz.prog 33 Ly F9
theorem Lr(x20:AV)(x21:Int)(x22:Int)(e8:List (List AV))(h:kk 33 (Hm x20 x21 x22 e8) GP U):GP [x20,VI x21,VI x22] [.vec 1 e8] U :=
 gQ LJ h
def Jm(a0:AV):Tree :=
 NL a0<|.test (decide ((a0.aO.length:Int)>(2000:Int))) (.aj (LK.has .sl a0/\0<=(0:Int)/\(0:Int)<=(2000:Int)/\(2000:Int)<=(a0.aO.length:Int))<|.done 0 [.ref 0 0] [.cells [.sl ((a0.aO.take (bT 2000)).drop (bT 0)),VI 0]]) (.done 0 [.ref 0 0] [.cells [a0,VI 0]])
theorem Ot(a0:AV)(ha0:LK.has .sl a0)(h:dz 11 (Jm a0) R):ap Tryz.prog 27 [a0] [] R :=
 uQ (ag (ca ha0) aE) (oF [] {mu:=[],own:=[0],ow:=[.sl,.int .i64]} Tryz.f27 h)
def KH(a0_0:AV)(a0_1:Int):Tree :=
 .call 50 [.ref 0 0] [.cells [a0_0,VI a0_1]] fun r1 o1=>.aj ((o1.hO)=.cells (o1.hO).cs)<|.aj (aK [.lk .sl,.lk (.int .i64)] ((o1.hO).cs) 0 1 o1.tail)<|NS r1<|.call 29 [.ref 0 0,VI 12] [.cells [((o1.hO).cs.getD 0 .any),VI (((o1.hO).cs.getD 1 .any).toInt)]] fun r2 o2=>.aj ((o2.hO)=.cells (o2.hO).cs)<|.aj (aK [.lk .sl,.lk (.int .i64)] ((o2.hO).cs) 0 1 o2.tail)<|NI r2<|.test (r2.toInt==(0:Int)) (.call 51 [.ref 0 0] [.cells [((o2.hO).cs.getD 0 .any),VI (((o2.hO).cs.getD 1 .any).toInt)]] fun r3 o3=>.aj ((o3.hO)=.cells (o3.hO).cs)<|.aj (aK [.lk .sl,.lk (.int .i64)] ((o3.hO).cs) 0 1 o3.tail)<|NT r3<|NS (r3.comp 0)<|NS (r3.comp 1)<|.done 0 [.cQ [VS ((r3.comp 0).ah),VS ((r3.comp 1).ah)]] [.cells [((o3.hO).cs.getD 0 .any),VI (((o3.hO).cs.getD 1 .any).toInt)]]) (.call 52 [.ref 0 0,VS r1.ah] [.cells [((o2.hO).cs.getD 0 .any),VI (((o2.hO).cs.getD 1 .any).toInt)]] fun r4 o4=>.aj ((o4.hO)=.cells (o4.hO).cs)<|.aj (aK [.lk .sl,.lk (.int .i64)] ((o4.hO).cs) 0 1 o4.tail)<|NS r4<|.done 0 [.cQ [VS r1.ah,VS r4.ah]] [.cells [((o4.hO).cs.getD 0 .any),VI (((o4.hO).cs.getD 1 .any).toInt)]])
theorem PF(a0_0:AV)(a0_1:Int)(ha0_0:LK.has .sl a0_0)(h:dz 18 (KH a0_0 a0_1) R):ap Tryz.prog 28 [.ref 0 0] [.cells [a0_0,VI a0_1]] R :=
 ap.nu (bi (bQ (ag (ca ha0_0) (ag (aA _) aE))) cm) (ap.up (ag (aA _) aE) (oF [] {mu:=[(0,.one (.obj [.lk .sl,.lk (.int .i64)]))],own:=[]} Tryz.f28 h))
def Mr(a0_0:AV)(a0_1:Int)(a1:Int):Tree :=
 .test (decide (a1<(1:Int))) (.done 0 [VI 0] [.cells [a0_0,VI (IntKind.wrap .i64 (a0_1+1))]]) (NL a0_0<|.test ((a0_0.aO.length:Int)==(0:Int)) (.done 0 [VI 0] [.cells [a0_0,VI (IntKind.wrap .i64 (a0_1+1))]]) (NL a0_0<|.test (decide ((IntKind.wrap .i64 ((IntKind.wrap .i64 (a0_1+1))-1))<(a0_0.aO.length:Int))) (.aj (LK.has .sl a0_0/\0<=(IntKind.wrap .i64 ((IntKind.wrap .i64 (a0_1+1))-1))/\(IntKind.wrap .i64 ((IntKind.wrap .i64 (a0_1+1))-1))<a0_0.aO.length/\(a0_0.ix (IntKind.wrap .i64 ((IntKind.wrap .i64 (a0_1+1))-1))).length=1)<|.aj (LK.has (.int .u8) ((a0_0.ix (IntKind.wrap .i64 ((IntKind.wrap .i64 (a0_1+1))-1))).hA)/\1<=(a0_0.ix (IntKind.wrap .i64 ((IntKind.wrap .i64 (a0_1+1))-1))).length)<|.aj (¬a1=0)<|.done 0 [VI (du (IntKind.wrap .i64 (((a0_0.ix (IntKind.wrap .i64 ((IntKind.wrap .i64 (a0_1+1))-1))).hA).toInt)) a1)] [.cells [a0_0,VI (IntKind.wrap .i64 (a0_1+1))]]) (NL a0_0<|.aj (¬(a0_0.aO.length:Int)=0)<|.aj (LK.has .sl a0_0/\0<=(du (IntKind.wrap .i64 ((IntKind.wrap .i64 (a0_1+1))-1)) (a0_0.aO.length:Int))/\(du (IntKind.wrap .i64 ((IntKind.wrap .i64 (a0_1+1))-1)) (a0_0.aO.length:Int))<a0_0.aO.length/\(a0_0.ix (du (IntKind.wrap .i64 ((IntKind.wrap .i64 (a0_1+1))-1)) (a0_0.aO.length:Int))).length=1)<|.aj (LK.has (.int .u8) ((a0_0.ix (du (IntKind.wrap .i64 ((IntKind.wrap .i64 (a0_1+1))-1)) (a0_0.aO.length:Int))).hA)/\1<=(a0_0.ix (du (IntKind.wrap .i64 ((IntKind.wrap .i64 (a0_1+1))-1)) (a0_0.aO.length:Int))).length)<|NL a0_0<|.aj (¬(a0_0.aO.length:Int)=0)<|.aj (LK.has .sl a0_0/\0<=(du (IntKind.wrap .i64 ((IntKind.wrap .i64 ((IntKind.wrap .i64 ((IntKind.wrap .i64 (a0_1+1))-1))*7))+3)) (a0_0.aO.length:Int))/\(du (IntKind.wrap .i64 ((IntKind.wrap .i64 ((IntKind.wrap .i64 ((IntKind.wrap .i64 (a0_1+1))-1))*7))+3)) (a0_0.aO.length:Int))<a0_0.aO.length/\(a0_0.ix (du (IntKind.wrap .i64 ((IntKind.wrap .i64 ((IntKind.wrap .i64 ((IntKind.wrap .i64 (a0_1+1))-1))*7))+3)) (a0_0.aO.length:Int))).length=1)<|.aj (LK.has (.int .u8) ((a0_0.ix (du (IntKind.wrap .i64 ((IntKind.wrap .i64 ((IntKind.wrap .i64 ((IntKind.wrap .i64 (a0_1+1))-1))*7))+3)) (a0_0.aO.length:Int))).hA)/\1<=(a0_0.ix (du (IntKind.wrap .i64 ((IntKind.wrap .i64 ((IntKind.wrap .i64 ((IntKind.wrap .i64 (a0_1+1))-1))*7))+3)) (a0_0.aO.length:Int))).length)<|NL a0_0<|.aj (¬(a0_0.aO.length:Int)=0)<|.aj (¬(64:Int)=0)<|.aj (¬a1=0)<|.done 0 [VI (du (AF .i64 (IntKind.wrap .i64 ((IntKind.wrap .i64 ((IntKind.wrap .i64 ((IntKind.wrap .i64 ((IntKind.wrap .i64 (((a0_0.ix (du (IntKind.wrap .i64 ((IntKind.wrap .i64 (a0_1+1))-1)) (a0_0.aO.length:Int))).hA).toInt))*131))+(IntKind.wrap .i64 ((IntKind.wrap .i64 (((a0_0.ix (du (IntKind.wrap .i64 ((IntKind.wrap .i64 ((IntKind.wrap .i64 ((IntKind.wrap .i64 (a0_1+1))-1))*7))+3)) (a0_0.aO.length:Int))).hA).toInt))*1117))))+(IntKind.wrap .i64 ((IntKind.wrap .i64 ((IntKind.wrap .i64 (a0_1+1))-1))*29))))+(IntKind.wrap .i64 ((IntKind.wrap .i64 (Int.tdiv (IntKind.wrap .i64 ((IntKind.wrap .i64 (a0_1+1))-1)) (a0_0.aO.length:Int)))*53)))) (IntKind.wrap .i64 (Int.tdiv (IntKind.wrap .i64 ((IntKind.wrap .i64 ((IntKind.wrap .i64 ((IntKind.wrap .i64 ((IntKind.wrap .i64 (((a0_0.ix (du (IntKind.wrap .i64 ((IntKind.wrap .i64 (a0_1+1))-1)) (a0_0.aO.length:Int))).hA).toInt))*131))+(IntKind.wrap .i64 ((IntKind.wrap .i64 (((a0_0.ix (du (IntKind.wrap .i64 ((IntKind.wrap .i64 ((IntKind.wrap .i64 ((IntKind.wrap .i64 (a0_1+1))-1))*7))+3)) (a0_0.aO.length:Int))).hA).toInt))*1117))))+(IntKind.wrap .i64 ((IntKind.wrap .i64 ((IntKind.wrap .i64 (a0_1+1))-1))*29))))+(IntKind.wrap .i64 ((IntKind.wrap .i64 (Int.tdiv (IntKind.wrap .i64 ((IntKind.wrap .i64 (a0_1+1))-1)) (a0_0.aO.length:Int)))*53)))) 64))) a1)] [.cells [a0_0,VI (IntKind.wrap .i64 (a0_1+1))]])))
theorem O3(a0_0:AV)(a0_1:Int)(a1:Int)(ha0_0:LK.has .sl a0_0)(h:dz 99 (Mr a0_0 a0_1 a1) R):ap Tryz.prog 29 [.ref 0 0,VI a1] [.cells [a0_0,VI a0_1]] R :=
 ap.nu (bi (bQ (ag (ca ha0_0) (ag (aA _) aE))) cm) (ap.up (ag (aA _) (ag (aA _) aE)) (oF [] {mu:=[(0,.one (.obj [.lk .sl,.lk (.int .i64)]))],own:=[]} Tryz.f29 h))
def HC:LI:={hd:={bN:=[(5,.k .str),(45,.k .sl),(46,.k (.int .i64)),(47,.k (.int .i64))],refs:=[(7,43)],cg:=[(43,[.lk .str,.lk .ptr,.vec 1,.lk .ptr])]},xs:={refs:=[(7,43)],cg:=[(43,[.lk .str,.lk .ptr,.vec 1,.lk .ptr])]},rt:={bN:=[(2,.k .ptr)]},ex:=0}
def IQ:Code:=cz (ct Tryz.f30) 7
def Mq:List (Nat×LI):=[(7,HC)]
def MM(a0_0:ByteArray)(a0_1:AV)(a0_2:ByteArray):Tree :=
 .call 43 [VS a0_0,VS a0_2] [] fun r1 o1=>NT r1<|NP (r1.comp 0)<|NP (r1.comp 1)<|.call 53 [VS a0_0] [] fun r2 o2=>NT r2<|NS (r2.comp 0)<|NB (r2.comp 1)<|NP (r1.comp 1)<|.test ((r1.comp 1).isNil) (.done 0 [.v (.pointer none)] []) (.test (!((r2.comp 1).toBool)) (.done 0 [.v (.pointer none)] []) (NL a0_1<|.test (decide ((a0_1.aO.length:Int)>(50:Int))) (.done 0 [.v (.pointer none)] []) (NL a0_1<|.loop IQ HC [VS ((r2.comp 0).ah),a0_1,VI (a0_1.aO.length:Int),VI 0] [.cells [VS a0_0,(r1.comp 0),.any,(r1.comp 1)],.vec 1 []] (fun y5 q5=>.aj ((q5.hO)=.cells (q5.hO).cs)<|.aj (ae [.lk .str,.lk .ptr,.vec 1,.lk .ptr] ((q5.hO).cs) 0 q5.tail)<|.done 0 [.ptr [VS (((q5.hO).cs.getD 0 .any).ah),((q5.hO).cs.getD 1 .any),.sl ((q5.tail.hO).es),((q5.hO).cs.getD 3 .any)]] []) (fun y5 q5=>NP (y5.hA)<|.done 0 [(y5.hA)] []))))
theorem Ou(a0_0:ByteArray)(a0_1:AV)(a0_2:ByteArray)(ha0_1:LK.has .sl a0_1)(h:dz 71 (MM a0_0 a0_1 a0_2) R):ap Tryz.prog 30 [.agg [VS a0_0,a0_1,VS a0_2]] [] R :=
 uQ (ag (cF (ag (aA _) (ag (ca ha0_1) (ag (aA _) aE)))) aE) (oQ Mq Tryz.f30 h)
def GO(x5:ByteArray)(x45:AV)(x46:Int)(x47:Int)(o43_0:ByteArray)(o43_1:AV)(o43_2:List (List AV))(o43_3:AV):Tree :=
 NS (VS x5)<|NL x45<|NI (VI x46)<|NI (VI x47)<|.aj (Ob.cells [VS o43_0,o43_1,.any,o43_3]=.cells [VS o43_0,o43_1,.any,o43_3])<|.aj (ae [.lk .str,.lk .ptr,.vec 1,.lk .ptr] [VS o43_0,o43_1,.any,o43_3] 0 [.vec 1 o43_2])<|.test (decide (x47<x46)) (NG x45 x47 1<|mG (x45.ix x47)<|.call 54 [VS x5,VS (((x45.ix x47).hA).ah),VI 100] [] fun r1 o1=>NT r1<|NP (r1.comp 0)<|NP (r1.comp 1)<|NP (r1.comp 1)<|.test ((r1.comp 1).isNil) (.done 2 [.v (.pointer none)] []) (.aj (bV 1 [[(r1.comp 1)]]/\((o43_2.length)+([[(r1.comp 1)]]:List (List AV)).length)*8<=140737488355328)<|.done 0 [VS x5,x45,VI x46,VI (IntKind.wrap .i64 (x47+1))] [.cells [VS o43_0,o43_1,.any,o43_3],.vec 1 (o43_2++([[(r1.comp 1)]]:List (List AV)))])) (.done 1 [] [.cells [VS o43_0,o43_1,.any,o43_3],.vec 1 o43_2])
abbrev Gw:=cn Tryz.prog 71 IQ HC
theorem Kg(x5:ByteArray)(x45:AV)(x46:Int)(x47:Int)(o43_0:ByteArray)(o43_1:AV)(o43_2:List (List AV))(o43_3:AV)(h:kk 71 (GO x5 x45 x46 x47 o43_0 o43_1 o43_2 o43_3) Gw U):Gw [VS x5,x45,VI x46,VI x47] [.cells [VS o43_0,o43_1,.any,o43_3],.vec 1 o43_2] U :=
 gQ Mq h
def Hg(a0:AV)(a1:Int):Tree :=
 NP a0<|.test a0.isNil (.done 0 [.v (.pointer none)] []) (NZ a0<|NZ a0<|qg (a0.deref.drop 2)<|NL ((a0.deref.drop 2).hA)<|.test (((((a0.deref.drop 2).hA).aO).length:Int)==(50:Int)) (.done 0 [.v (.pointer none)] []) (NZ a0<|NZ a0<|eE (a0.deref.drop 1)<|NZ a0<|NZ a0<|eE (a0.deref.drop 3)<|.call 55 [((a0.deref.drop 1).hA),((a0.deref.drop 3).hA)] [] fun r1 o1=>NL r1<|.test (decide (a1<(0:Int))) (.done 0 [.v (.pointer none)] []) (NL r1<|.test (decide (a1≥(r1.aO.length:Int))) (.done 0 [.v (.pointer none)] []) (NG r1 a1 2<|eE (r1.ix a1)<|.call 56 [((r1.ix a1).hA)] [] fun r2 o2=>NI r2<|.test (decide (r2.toInt>(200:Int))) (.done 0 [.v (.pointer none)] []) (NZ a0<|NZ a0<|qg (a0.deref.drop 2)<|.aj (LK.has .sl ((a0.deref.drop 2).hA)/\bV 1 (((a0.deref.drop 2).hA).aO)/\((([]:List (List AV)).length)+(((a0.deref.drop 2).hA).aO).length)*8<=140737488355328)<|NG r1 a1 2<|eE (r1.ix a1)<|.aj (bV 1 [[((r1.ix a1).hA)]]/\(((([]:List (List AV))++(((a0.deref.drop 2).hA).aO)).length)+([[((r1.ix a1).hA)]]:List (List AV)).length)*8<=140737488355328)<|NZ a0<|NZ a0<|.aj (LK.has .str (a0.deref.hA)/\1<=a0.deref.length)<|NZ a0<|NZ a0<|eE (a0.deref.drop 1)<|NG r1 a1 2<|eE ((r1.ix a1).drop 1)<|.done 0 [.ptr [VS ((a0.deref.hA).ah),((a0.deref.drop 1).hA),.sl ((([]:List (List AV))++(((a0.deref.drop 2).hA).aO))++([[((r1.ix a1).hA)]]:List (List AV))),(((r1.ix a1).drop 1).hA)]] [])))))
theorem LQ(a0:AV)(a1:Int)(ha0:LK.has .ptr a0)(h:dz 72 (Hg a0 a1) R):ap Tryz.prog 31 [a0,VI a1] [] R :=
 uQ (ag (bD ha0) (ag (aA _) aE)) (oQ [] Tryz.f31 h)
def Fl:LI:={hd:={bN:=[(23,.k .sl),(24,.k (.int .i64)),(25,.k (.int .i64))],refs:=[(2,2),(4,4)],cg:=[(2,[.lk .str,.lk .sl,.lk .str]),(4,[.lk .str,.vec 1,.lk .str])]},xs:={refs:=[(2,2),(4,4)],cg:=[(2,[.lk .str,.lk .sl,.lk .str]),(4,[.lk .str,.vec 1,.lk .str])]},rt:={},ex:=0}
def JZ:Code:=cz (ct Tryz.f32) 5
def Mg:List (Nat×LI):=[(5,Fl)]
def Mi(a0:AV):Tree :=
 NP a0<|.test a0.isNil (.done 0 [.cQ [.agg [VS (mk []),.vec 0,VS (mk [])],VB false]] [.vec 1 []]) (NZ a0<|NZ a0<|.aj (LK.has .str (a0.deref.hA)/\1<=a0.deref.length)<|NZ a0<|NZ a0<|eE (a0.deref.drop 3)<|.call 39 [((a0.deref.drop 3).hA)] [] fun r1 o1=>NS r1<|NZ a0<|NZ a0<|qg (a0.deref.drop 2)<|NL ((a0.deref.drop 2).hA)<|.loop JZ Fl [((a0.deref.drop 2).hA),VI ((((a0.deref.drop 2).hA).aO).length:Int),VI 0] [.cells [VS (mk []),.v (.slice none 0 0),VS (mk [])],.cells [VS ((a0.deref.hA).ah),.any,VS r1.ah],.vec 1 []] (fun y4 q4=>.aj ((q4.hO)=.cells (q4.hO).cs)<|.aj (ae [.lk .str,.lk .sl,.lk .str] ((q4.hO).cs) 0 q4.tail)<|.aj (((q4.tail.drop 0).hO)=.cells ((q4.tail.drop 0).hO).cs)<|.aj (ae [.lk .str,.vec 1,.lk .str] (((q4.tail.drop 0).hO).cs) 0 ((q4.tail.drop 0).tail))<|.done 0 [.cQ [.agg [VS (((q4.tail.hO).cs.getD 0 .any).ah),.vec 0,VS (((q4.tail.hO).cs.getD 2 .any).ah)],VB true]] [.vec 1 ((q4.tail.tail.hO).es)]) (fun y4 q4=>.fail))
theorem OI(a0:AV)(ha0:LK.has .ptr a0)(h:dz 38 (Mi a0) R):ap Tryz.prog 32 [a0] [] R :=
 uQ (ag (bD ha0) aE) (oF Mg {mu:=[],own:=[0],oa:=[.lk .str,.vec 1,.lk .str]} Tryz.f32 h)
def EY(x23:AV)(x24:Int)(x25:Int)(o2_0:ByteArray)(o2_1:AV)(o2_2:ByteArray)(o4_0:ByteArray)(o4_1:List (List AV))(o4_2:ByteArray):Tree :=
 NL x23<|NI (VI x24)<|NI (VI x25)<|.aj (Ob.cells [VS o2_0,o2_1,VS o2_2]=.cells [VS o2_0,o2_1,VS o2_2])<|.aj (ae [.lk .str,.lk .sl,.lk .str] [VS o2_0,o2_1,VS o2_2] 0 [.cells [VS o4_0,.any,VS o4_2],.vec 1 o4_1])<|.aj (Ob.cells [VS o4_0,.any,VS o4_2]=.cells [VS o4_0,.any,VS o4_2])<|.aj (ae [.lk .str,.vec 1,.lk .str] [VS o4_0,.any,VS o4_2] 0 [.vec 1 o4_1])<|.test (decide (x25<x24)) (NG x23 x25 1<|eE (x23.ix x25)<|.call 39 [((x23.ix x25).hA)] [] fun r1 o1=>NS r1<|.aj (bV 1 [[VS r1.ah]]/\((o4_1.length)+([[VS r1.ah]]:List (List AV)).length)*16<=140737488355328)<|.done 0 [x23,VI x24,VI (IntKind.wrap .i64 (x25+1))] [.cells [VS o2_0,o2_1,VS o2_2],.cells [VS o4_0,.any,VS o4_2],.vec 1 (o4_1++([[VS r1.ah]]:List (List AV)))]) (.done 1 [] [.cells [VS o2_0,o2_1,VS o2_2],.cells [VS o4_0,.any,VS o4_2],.vec 1 o4_1])
abbrev GG:=cn Tryz.prog 38 JZ Fl
theorem J7(x23:AV)(x24:Int)(x25:Int)(o2_0:ByteArray)(o2_1:AV)(o2_2:ByteArray)(o4_0:ByteArray)(o4_1:List (List AV))(o4_2:ByteArray)(h:kk 38 (EY x23 x24 x25 o2_0 o2_1 o2_2 o4_0 o4_1 o4_2) GG U):GG [x23,VI x24,VI x25] [.cells [VS o2_0,o2_1,VS o2_2],.cells [VS o4_0,.any,VS o4_2],.vec 1 o4_1] U :=
 gQ Mg h
def vO(a0:AV):Tree :=
 NZ a0<|NZ a0<|.aj (LK.has (.int .u8) (a0.deref.hA)/\1<=a0.deref.length)<|.test (((a0.deref.hA).toInt)==(117:Int)) (.done 0 [VS (mk [117])] []) (.test (((a0.deref.hA).toInt)==(101:Int)) (NZ a0<|NZ a0<|mG (a0.deref.drop 1)<|.done 0 [VS (((a0.deref.drop 1).hA).ah)] []) (.test (((a0.deref.hA).toInt)==(112:Int)) (NZ a0<|NZ a0<|eE (a0.deref.drop 2)<|.call 39 [((a0.deref.drop 2).hA)] [] fun r1 o1=>NS r1<|.aj (ac (mk [40,112,32])+ac r1.ah<=9223372036854775807)<|.aj (ac (((mk [40,112,32]):ByteArray)++r1.ah)+ac (mk [32])<=9223372036854775807)<|NZ a0<|NZ a0<|eE (a0.deref.drop 3)<|.call 39 [((a0.deref.drop 3).hA)] [] fun r2 o2=>NS r2<|.aj (ac (((((mk [40,112,32]):ByteArray)++r1.ah):ByteArray)++(mk [32]))+ac r2.ah<=9223372036854775807)<|.aj (ac (((((((mk [40,112,32]):ByteArray)++r1.ah):ByteArray)++(mk [32])):ByteArray)++r2.ah)+ac (mk [41])<=9223372036854775807)<|.done 0 [VS (((((((((mk [40,112,32]):ByteArray)++r1.ah):ByteArray)++(mk [32])):ByteArray)++r2.ah):ByteArray)++(mk [41]))] []) (NZ a0<|NZ a0<|.aj (LK.has (.int .u8) (a0.deref.hA)/\1<=a0.deref.length)<|.aj (jo [[.v (.int .u8 ((a0.deref.hA).toInt))]])<|.aj (ac (mk [40])+ac (⟨(bytesOf [[.v (.int .u8 ((a0.deref.hA).toInt))]]).toArray⟩)<=9223372036854775807)<|.aj (ac (((mk [40]):ByteArray)++(⟨(bytesOf [[.v (.int .u8 ((a0.deref.hA).toInt))]]).toArray⟩))+ac (mk [32])<=9223372036854775807)<|NZ a0<|NZ a0<|eE (a0.deref.drop 2)<|.call 39 [((a0.deref.drop 2).hA)] [] fun r3 o3=>NS r3<|.aj (ac (((((mk [40]):ByteArray)++(⟨(bytesOf [[.v (.int .u8 ((a0.deref.hA).toInt))]]).toArray⟩)):ByteArray)++(mk [32]))+ac r3.ah<=9223372036854775807)<|.aj (ac (((((((mk [40]):ByteArray)++(⟨(bytesOf [[.v (.int .u8 ((a0.deref.hA).toInt))]]).toArray⟩)):ByteArray)++(mk [32])):ByteArray)++r3.ah)+ac (mk [41])<=9223372036854775807)<|.done 0 [VS (((((((((mk [40]):ByteArray)++(⟨(bytesOf [[.v (.int .u8 ((a0.deref.hA).toInt))]]).toArray⟩)):ByteArray)++(mk [32])):ByteArray)++r3.ah):ByteArray)++(mk [41]))] [])))
theorem yX(a0:AV)(ha0:LK.has .ptr a0)(h:dz 46 (vO a0) R):ap Tryz.prog 39 [a0] [] R :=
 uQ (ag (bD ha0) aE) (oQ [] Tryz.f39 h)
def KD(a0:ByteArray)(a1:ByteArray):Tree :=
 .call 43 [VS a0,VS a1] [] fun r1 o1=>NT r1<|NP (r1.comp 0)<|NP (r1.comp 1)<|NP (r1.comp 1)<|.test ((r1.comp 1).isNil) (.done 0 [.cQ [.v (.slice none 0 0),VB false]] []) (.call 65 [.agg [(r1.comp 1),.v (.slice none 0 0)],.ref 0 0,.ref 2 0,.fM 65 [some 0,some 2,none]] [.cells [.vec 1],.vec 2 [],.cells [(r1.comp 0)]] fun r2 o2=>.aj ((o2.hO)=.cells (o2.hO).cs)<|.aj (aK [.vec 2] ((o2.hO).cs) 0 1 o2.tail)<|.aj ((o2.tail.tail.hO)=.cells (o2.tail.tail.hO).cs)<|.aj (aK [.lk .ptr] ((o2.tail.tail.hO).cs) 0 3 o2.tail.tail.tail)<|.done 0 [.cQ [.sl ((o2.tail.hO).es),VB (decide ((((o2.tail.hO).es).length:Int)<=(100:Int)))]] [])
theorem Pz(a0:ByteArray)(a1:ByteArray)(h:dz 28 (KD a0 a1) R):ap Tryz.prog 40 [VS a0,VS a1] [] R :=
 uQ (ag (aA _) (ag (aA _) aE)) (oQ [] Tryz.f40 h)
def Ms(a0:ByteArray)(a1:ByteArray):Tree :=
 .call 45 [VS a0] [] fun r1 o1=>NT r1<|.aj ((r1.comp 0)=.agg (r1.comp 0).cs/\(r1.comp 0).cs.length=2/\cc [.str,.sl] ((r1.comp 0).cs) 0)<|NB (r1.comp 1)<|.call 47 [VS a1] [] fun r2 o2=>NT r2<|.aj ((r2.comp 0)=.agg (r2.comp 0).cs/\(r2.comp 0).cs.length=2/\cc [.str,.sl] ((r2.comp 0).cs) 0)<|NB (r2.comp 1)<|.test (!((r1.comp 1).toBool)) (.done 0 [.cQ [.sl [],VB false]] []) (.call 46 [VS a0,VS a1,VI 100] [] fun r3 o3=>NB r3<|.test (!r3.toBool) (.done 0 [.cQ [.sl [],VB false]] []) (.call 66 [.agg [VS (((r1.comp 0).cs.getD 0 .any).ah),((r1.comp 0).cs.getD 1 .any)],.agg [VS (((r2.comp 0).cs.getD 0 .any).ah),((r2.comp 0).cs.getD 1 .any)],.sl [],.vec 0] [.vec 3 []] fun r4 o4=>.aj (r4=.vec 1/\(o4.tail.hO)=.vec 3 (o4.tail.hO).es)<|.done 0 [.cQ [.sl ((o4.tail.hO).es),VB (decide ((((o4.tail.hO).es).length:Int)<=(100:Int)))]] []))
theorem PQ(a0:ByteArray)(a1:ByteArray)(h:dz 39 (Ms a0 a1) R):ap Tryz.prog 41 [VS a0,VS a1] [] R :=
 uQ (ag (aA _) (ag (aA _) aE)) (oQ [] Tryz.f41 h)
def MS(a0:ByteArray)(a1:ByteArray):Tree :=
 .call 69 [VS a0] [] fun r1 o1=>NP r1<|NP r1<|.test r1.isNil (.done 0 [.cQ [.v (.pointer none),.v (.pointer none)]] []) (.call 54 [VS a0,VS a1,VI 100] [] fun r2 o2=>NT r2<|NP (r2.comp 0)<|NP (r2.comp 1)<|.done 0 [.cQ [(r2.comp 0),(r2.comp 1)]] [])
theorem QE(a0:ByteArray)(a1:ByteArray)(h:dz 14 (MS a0 a1) R):ap Tryz.prog 43 [VS a0,VS a1] [] R :=
 uQ (ag (aA _) (ag (aA _) aE)) (oQ [] Tryz.f43 h)
def Ii(a0:ByteArray):Tree :=
 .call 70 [VS a0] [] fun r1 o1=>NT r1<|.aj ((r1.comp 0)=.agg (r1.comp 0).cs/\(r1.comp 0).cs.length=2/\cc [.str,.sl] ((r1.comp 0).cs) 0)<|NB (r1.comp 1)<|.test ((r1.comp 1).toBool) (.call 71 [.agg [VS (((r1.comp 0).cs.getD 0 .any).ah),((r1.comp 0).cs.getD 1 .any)]] [] fun r2 o2=>NS r2<|.done 0 [.cQ [.agg [VS (((r1.comp 0).cs.getD 0 .any).ah),((r1.comp 0).cs.getD 1 .any)],VB (af r2.ah==af (mk [114,101,99]))]] []) (.done 0 [.cQ [.agg [VS (((r1.comp 0).cs.getD 0 .any).ah),((r1.comp 0).cs.getD 1 .any)],VB false]] [])
theorem Od(a0:ByteArray)(h:dz 18 (Ii a0) R):ap Tryz.prog 45 [VS a0] [] R :=
 uQ (ag (aA _) aE) (oQ [] Tryz.f45 h)
def IB(a0:ByteArray)(a1:ByteArray)(a2:Int):Tree :=
 .call 70 [VS a0] [] fun r1 o1=>NT r1<|.aj ((r1.comp 0)=.agg (r1.comp 0).cs/\(r1.comp 0).cs.length=2/\cc [.str,.sl] ((r1.comp 0).cs) 0)<|NB (r1.comp 1)<|.call 47 [VS a1] [] fun r2 o2=>NT r2<|.aj ((r2.comp 0)=.agg (r2.comp 0).cs/\(r2.comp 0).cs.length=2/\cc [.str,.sl] ((r2.comp 0).cs) 0)<|NB (r2.comp 1)<|.test ((r1.comp 1).toBool) (.test ((r2.comp 1).toBool) (.call 60 [VI a2,VI 0,VI 100] [] fun r3 o3=>NB r3<|.test r3.toBool (.call 72 [.agg [VS (((r1.comp 0).cs.getD 0 .any).ah),((r1.comp 0).cs.getD 1 .any)],.sl [],.agg [VS (((r2.comp 0).cs.getD 0 .any).ah),((r2.comp 0).cs.getD 1 .any)],VI a2] [] fun r4 o4=>NB r4<|.done 0 [VB r4.toBool] []) (.done 0 [VB false] [])) (.done 0 [VB false] [])) (.done 0 [VB false] [])
theorem Oy(a0:ByteArray)(a1:ByteArray)(a2:Int)(h:dz 36 (IB a0 a1 a2) R):ap Tryz.prog 46 [VS a0,VS a1,VI a2] [] R :=
 uQ (ag (aA _) (ag (aA _) (ag (aA _) aE))) (oQ [] Tryz.f46 h)
def MA(a0:ByteArray):Tree :=
 .call 73 [VS a0] [] fun r1 o1=>NT r1<|.aj ((r1.comp 0)=.agg (r1.comp 0).cs/\(r1.comp 0).cs.length=2/\cc [.str,.sl] ((r1.comp 0).cs) 0)<|NB (r1.comp 1)<|.test ((r1.comp 1).toBool) (.call 74 [.agg [VS (((r1.comp 0).cs.getD 0 .any).ah),((r1.comp 0).cs.getD 1 .any)]] [] fun r2 o2=>NB r2<|.test r2.toBool (.call 75 [.agg [VS (((r1.comp 0).cs.getD 0 .any).ah),((r1.comp 0).cs.getD 1 .any)]] [] fun r3 o3=>NI r3<|.done 0 [.cQ [.agg [VS (((r1.comp 0).cs.getD 0 .any).ah),((r1.comp 0).cs.getD 1 .any)],VB (decide (r3.toInt<=(200:Int)))]] []) (.done 0 [.cQ [.agg [VS (((r1.comp 0).cs.getD 0 .any).ah),((r1.comp 0).cs.getD 1 .any)],VB false]] [])) (.done 0 [.cQ [.agg [VS (((r1.comp 0).cs.getD 0 .any).ah),((r1.comp 0).cs.getD 1 .any)],VB false]] [])
theorem Py(a0:ByteArray)(h:dz 22 (MA a0) R):ap Tryz.prog 47 [VS a0] [] R :=
 uQ (ag (aA _) aE) (oQ [] Tryz.f47 h)
def IW(a0_0:AV)(a0_1:Int):Tree :=
 .call 80 [.ref 0 0,.sl [[VS (mk [40,114,101,99,32,116,32,40,43,32,49,32,40,42,32,120,32,116,41,41,41])],[VS (mk [40,114,101,99,32,116,32,40,43,32,120,32,40,42,32,116,32,116,41,41,41])],[VS (mk [40,114,101,99,32,116,32,40,43,32,49,32,40,42,32,116,32,40,42,32,120,32,116,41,41,41,41])],[VS (mk [40,114,101,99,32,116,32,40,43,32,49,32,116,41,41])],[VS (mk [40,114,101,99,32,116,32,40,42,32,120,32,40,114,101,99,32,116,49,32,40,43,32,49,32,40,42,32,116,32,116,49,41,41,41,41,41])],[VS (mk [40,114,101,99,32,116,48,32,40,43,32,40,42,32,120,32,121,41,32,40,43,32,116,48,32,40,42,32,116,48,32,116,48,41,41,41,41])],[VS (mk [40,114,101,99,32,116,32,40,43,32,121,32,40,42,32,116,32,40,42,32,116,32,116,41,41,41,41])]]] [.cells [a0_0,VI a0_1]] fun r1 o1=>.aj ((o1.hO)=.cells (o1.hO).cs)<|.aj (aK [.lk .sl,.lk (.int .i64)] ((o1.hO).cs) 0 1 o1.tail)<|NS r1<|.done 0 [VS r1.ah] [.cells [((o1.hO).cs.getD 0 .any),VI (((o1.hO).cs.getD 1 .any).toInt)]]
theorem OD(a0_0:AV)(a0_1:Int)(ha0_0:LK.has .sl a0_0)(h:dz 6 (IW a0_0 a0_1) R):ap Tryz.prog 50 [.ref 0 0] [.cells [a0_0,VI a0_1]] R :=
 ap.nu (bi (bQ (ag (ca ha0_0) (ag (aA _) aE))) cm) (ap.up (ag (aA _) aE) (oF [] {mu:=[(0,.one (.obj [.lk .sl,.lk (.int .i64)]))],own:=[]} Tryz.f50 h))
def IL(a0_0:AV)(a0_1:Int):Tree :=
 .call 81 [.ref 0 0] [.cells [a0_0,VI a0_1]] fun r1 o1=>.aj ((o1.hO)=.cells (o1.hO).cs)<|.aj (aK [.lk .sl,.lk (.int .i64)] ((o1.hO).cs) 0 1 o1.tail)<|NS r1<|.call 52 [.ref 0 0,VS r1.ah] [.cells [((o1.hO).cs.getD 0 .any),VI (((o1.hO).cs.getD 1 .any).toInt)]] fun r2 o2=>.aj ((o2.hO)=.cells (o2.hO).cs)<|.aj (aK [.lk .sl,.lk (.int .i64)] ((o2.hO).cs) 0 1 o2.tail)<|NS r2<|.done 0 [.cQ [VS r1.ah,VS r2.ah]] [.cells [((o2.hO).cs.getD 0 .any),VI (((o2.hO).cs.getD 1 .any).toInt)]]
theorem Po(a0_0:AV)(a0_1:Int)(ha0_0:LK.has .sl a0_0)(h:dz 11 (IL a0_0 a0_1) R):ap Tryz.prog 51 [.ref 0 0] [.cells [a0_0,VI a0_1]] R :=
 ap.nu (bi (bQ (ag (ca ha0_0) (ag (aA _) aE))) cm) (ap.up (ag (aA _) aE) (oF [] {mu:=[(0,.one (.obj [.lk .sl,.lk (.int .i64)]))],own:=[]} Tryz.f51 h))
def Jc(a0_0:AV)(a0_1:Int)(a1:ByteArray):Tree :=
 .call 70 [VS a1] [] fun r1 o1=>NT r1<|.aj ((r1.comp 0)=.agg (r1.comp 0).cs/\(r1.comp 0).cs.length=2/\cc [.str,.sl] ((r1.comp 0).cs) 0)<|NB (r1.comp 1)<|.test (!((r1.comp 1).toBool)) (.call 80 [.ref 0 0,.sl [[VS (mk [])],[VS (mk [117])],[VS (mk [101,48])],[VS (mk [101,48,48])],[VS (mk [101,49,48,48])],[VS (mk [40,108,32,117,41])],[VS (mk [40,112,32,117,41])],[VS (mk [40,102,32,40,108,32,117,41,41])],[VS (mk [40,120,32,117,41])],[VS (mk [40,108,32,32,117,41])]]] [.cells [a0_0,VI a0_1]] fun r2 o2=>.aj ((o2.hO)=.cells (o2.hO).cs)<|.aj (aK [.lk .sl,.lk (.int .i64)] ((o2.hO).cs) 0 1 o2.tail)<|NS r2<|.done 0 [VS r2.ah] [.cells [((o2.hO).cs.getD 0 .any),VI (((o2.hO).cs.getD 1 .any).toInt)]]) (.call 29 [.ref 0 0,VI 16] [.cells [a0_0,VI a0_1]] fun r3 o3=>.aj ((o3.hO)=.cells (o3.hO).cs)<|.aj (aK [.lk .sl,.lk (.int .i64)] ((o3.hO).cs) 0 1 o3.tail)<|NI r3<|.test (r3.toInt==(0:Int)) (.call 80 [.ref 0 0,.sl [[VS (mk [])],[VS (mk [117])],[VS (mk [101,48])],[VS (mk [101,48,48])],[VS (mk [101,49,48,48])],[VS (mk [40,108,32,117,41])],[VS (mk [40,112,32,117,41])],[VS (mk [40,102,32,40,108,32,117,41,41])],[VS (mk [40,120,32,117,41])],[VS (mk [40,108,32,32,117,41])]]] [.cells [((o3.hO).cs.getD 0 .any),VI (((o3.hO).cs.getD 1 .any).toInt)]] fun r4 o4=>.aj ((o4.hO)=.cells (o4.hO).cs)<|.aj (aK [.lk .sl,.lk (.int .i64)] ((o4.hO).cs) 0 1 o4.tail)<|NS r4<|.done 0 [VS r4.ah] [.cells [((o4.hO).cs.getD 0 .any),VI (((o4.hO).cs.getD 1 .any).toInt)]]) (.call 83 [.agg [VS (((r1.comp 0).cs.getD 0 .any).ah),((r1.comp 0).cs.getD 1 .any)],.v (.slice none 0 0)] [] fun r5 o5=>NA r5<|.call 29 [.ref 0 0,VI 5] [.cells [((o3.hO).cs.getD 0 .any),VI (((o3.hO).cs.getD 1 .any).toInt)]] fun r6 o6=>.aj ((o6.hO)=.cells (o6.hO).cs)<|.aj (aK [.lk .sl,.lk (.int .i64)] ((o6.hO).cs) 0 1 o6.tail)<|NI r6<|.call 82 [.ref 0 0,.agg [VS ((r5.cs.getD 0 .any).ah),(r5.cs.getD 1 .any)],VI (IntKind.wrap .i64 (5+r6.toInt))] [.cells [((o6.hO).cs.getD 0 .any),VI (((o6.hO).cs.getD 1 .any).toInt)]] fun r7 o7=>.aj ((o7.hO)=.cells (o7.hO).cs)<|.aj (aK [.lk .sl,.lk (.int .i64)] ((o7.hO).cs) 0 1 o7.tail)<|NA r7<|.call 76 [.agg [VS ((r7.cs.getD 0 .any).ah),(r7.cs.getD 1 .any)]] [] fun r8 o8=>NS r8<|.done 0 [VS r8.ah] [.cells [((o7.hO).cs.getD 0 .any),VI (((o7.hO).cs.getD 1 .any).toInt)]]))
theorem Pu(a0_0:AV)(a0_1:Int)(a1:ByteArray)(ha0_0:LK.has .sl a0_0)(h:dz 30 (Jc a0_0 a0_1 a1) R):ap Tryz.prog 52 [.ref 0 0,VS a1] [.cells [a0_0,VI a0_1]] R :=
 ap.nu (bi (bQ (ag (ca ha0_0) (ag (aA _) aE))) cm) (ap.up (ag (aA _) (ag (aA _) aE)) (oF [] {mu:=[(0,.one (.obj [.lk .sl,.lk (.int .i64)]))],own:=[]} Tryz.f52 h))
def J0(a0:ByteArray):Tree :=
 .call 84 [VS a0] [] fun r1 o1=>NP r1<|NP r1<|.test r1.isNil (.done 0 [.cQ [VS (mk []),VB false]] []) (NZ r1<|NZ r1<|.aj (LK.has (.int .u8) (r1.deref.hA)/\1<=r1.deref.length)<|.test (((r1.deref.hA).toInt) != (114:Int)) (.done 0 [.cQ [VS (mk []),VB false]] []) (.call 85 [r1] [] fun r2 o2=>NT r2<|NP (r2.comp 0)<|NB (r2.comp 1)<|.test (!((r2.comp 1).toBool)) (.done 0 [.cQ [VS (mk []),VB false]] []) (.call 86 [(r2.comp 0)] [] fun r3 o3=>NT r3<|NS (r3.comp 0)<|NB (r3.comp 1)<|.done 0 [.cQ [VS ((r3.comp 0).ah),VB ((r3.comp 1).toBool)]] [])))
theorem PW(a0:ByteArray)(h:dz 29 (J0 a0) R):ap Tryz.prog 53 [VS a0] [] R :=
 uQ (ag (aA _) aE) (oQ [] Tryz.f53 h)
def MP(a0:ByteArray)(a1:ByteArray)(a2:Int):Tree :=
 .call 87 [VS a0] [] fun r1 o1=>NP r1<|.call 88 [VS a1] [] fun r2 o2=>NP r2<|NP r1<|.test r1.isNil (.done 0 [.cQ [r1,.v (.pointer none)]] []) (NP r2<|.test r2.isNil (.done 0 [.cQ [r1,.v (.pointer none)]] []) (.test (decide (a2<(0:Int))) (.done 0 [.cQ [r1,.v (.pointer none)]] []) (.test (decide (a2>(100:Int))) (.done 0 [.cQ [r1,.v (.pointer none)]] []) (.call 89 [.agg [r1,.v (.pointer none)],r2,VI a2] [] fun r3 o3=>NB r3<|.test (!r3.toBool) (.done 0 [.cQ [r1,.v (.pointer none)]] []) (.done 0 [.cQ [r1,r2]] [])))))
theorem Oc(a0:ByteArray)(a1:ByteArray)(a2:Int)(h:dz 39 (MP a0 a1 a2) R):ap Tryz.prog 54 [VS a0,VS a1,VI a2] [] R :=
 uQ (ag (aA _) (ag (aA _) (ag (aA _) aE))) (oQ [] Tryz.f54 h)
def Iq(a0:AV)(a1:AV):Tree :=
 .call 90 [.agg [a0,.v (.pointer none)]] [] fun r1 o1=>NT r1<|.aj ((r1.comp 0)=.agg (r1.comp 0).cs/\(r1.comp 0).cs.length=2/\cc [.ptr,.ptr] ((r1.comp 0).cs) 0)<|NP (r1.comp 1)<|NZ a1<|NZ a1<|eE (a1.deref.drop 2)<|.call 91 [.agg [((r1.comp 0).cs.getD 0 .any),((r1.comp 0).cs.getD 1 .any)],((a1.deref.drop 2).hA),.agg [VS (mk []),(r1.comp 1)]] [] fun r2 o2=>NL r2<|.done 0 [r2] []
theorem Qv(a0:AV)(a1:AV)(ha0:LK.has .ptr a0)(ha1:LK.has .ptr a1)(h:dz 21 (Iq a0 a1) R):ap Tryz.prog 55 [a0,a1] [] R :=
 uQ (ag (bD ha0) (ag (bD ha1) aE)) (oQ [] Tryz.f55 h)
def He(a0:AV):Tree :=
 NZ a0<|NZ a0<|eE (a0.deref.drop 2)<|NP ((a0.deref.drop 2).hA)<|.test (!((a0.deref.drop 2).hA).isNil) (NZ a0<|NZ a0<|eE (a0.deref.drop 2)<|.call 56 [((a0.deref.drop 2).hA)] [] fun r1 o1=>NI r1<|NZ a0<|NZ a0<|eE (a0.deref.drop 3)<|NP ((a0.deref.drop 3).hA)<|.test (!((a0.deref.drop 3).hA).isNil) (NZ a0<|NZ a0<|eE (a0.deref.drop 3)<|.call 56 [((a0.deref.drop 3).hA)] [] fun r2 o2=>NI r2<|.done 0 [VI (IntKind.wrap .i64 ((IntKind.wrap .i64 (1+r1.toInt))+r2.toInt))] []) (.done 0 [VI (IntKind.wrap .i64 (1+r1.toInt))] [])) (NZ a0<|NZ a0<|eE (a0.deref.drop 3)<|NP ((a0.deref.drop 3).hA)<|.test (!((a0.deref.drop 3).hA).isNil) (NZ a0<|NZ a0<|eE (a0.deref.drop 3)<|.call 56 [((a0.deref.drop 3).hA)] [] fun r3 o3=>NI r3<|.done 0 [VI (IntKind.wrap .i64 (1+r3.toInt))] []) (.done 0 [VI 1] []))
theorem yO(a0:AV)(ha0:LK.has .ptr a0)(h:dz 29 (He a0) R):ap Tryz.prog 56 [a0] [] R :=
 uQ (ag (bD ha0) aE) (oQ [] Tryz.f56 h)
def JQ(a0:Int)(a1:Int)(a2:Int):Tree :=
 .test (decide (a0≥a1)) (.done 0 [VB (decide (a0<=a2))] []) (.done 0 [VB false] [])
theorem NJ(a0:Int)(a1:Int)(a2:Int)(h:dz 15 (JQ a0 a1 a2) R):ap Tryz.prog 60 [VI a0,VI a1,VI a2] [] R :=
 uQ (ag (aA _) (ag (aA _) (ag (aA _) aE))) (oQ [] Tryz.f60 h)
def Np(a0:AV)(a1:ByteArray):Tree :=
 .aj (LK.has .sl a0/\bV 1 a0.aO/\((([]:List (List AV)).length)+a0.aO.length)*16<=140737488355328)<|.aj (bV 1 [[VS a1]]/\(((([]:List (List AV))++a0.aO).length)+([[VS a1]]:List (List AV)).length)*16<=140737488355328)<|.done 0 [.sl ((([]:List (List AV))++a0.aO)++([[VS a1]]:List (List AV)))] []
theorem N8(a0:AV)(a1:ByteArray)(ha0:LK.has .sl a0)(h:dz 11 (Np a0 a1) R):ap Tryz.prog 61 [a0,VS a1] [] R :=
 uQ (ag (ca ha0) (ag (aA _) aE)) (oQ [] Tryz.f61 h)
def FR:LI:={hd:={bN:=[(17,.k .sl),(18,.k (.int .i64)),(19,.k (.int .i64))],refs:=[(4,4)],cg:=[(4,[.lk .ptr,.lk .sl]),(0,[.vec 2]),(2,[.lk .ptr])],tH:=[(3,65,[some 0,some 2,none])]},xs:={cg:=[(0,[.vec 2]),(2,[.lk .ptr])]},rt:={cg:=[(0,[.vec 2]),(2,[.lk .ptr])]},ex:=0,fx:=[0,2]}
def Lt:Code:=cz (ct Tryz.f65) 4
def KI:List (Nat×LI):=[(4,FR)]
def I6(a0_0:AV)(a0_1:AV)(e1_0:List (List AV))(a2_0:AV):Tree :=
 .aj (bV 2 [[a0_0,a0_1]]/\((e1_0.length)+([[a0_0,a0_1]]:List (List AV)).length)*32<=140737488355328)<|.test (decide (((e1_0++([[a0_0,a0_1]]:List (List AV))).length:Int)>(100:Int))) (.done 0 [.any] [.cells [.vec 1],.vec 2 (e1_0++([[a0_0,a0_1]]:List (List AV))),.cells [a2_0]]) (.call 55 [a2_0,a0_0] [] fun r1 o1=>NL r1<|NL r1<|.loop Lt FR [r1,VI (r1.aO.length:Int),VI 0] [.cells [a0_0,a0_1],.cells [.any],.vec 2 (e1_0++([[a0_0,a0_1]]:List (List AV))),.cells [a2_0]] (fun y3 q3=>.aj ((q3.hO)=.cells (q3.hO).cs)<|.aj (ae [.vec 2] ((q3.hO).cs) 0 q3.tail)<|.aj (((q3.tail.drop 1).hO)=.cells ((q3.tail.drop 1).hO).cs)<|.aj (ae [.lk .ptr] (((q3.tail.drop 1).hO).cs) 0 ((q3.tail.drop 1).tail))<|.done 0 [.any] [.cells [.vec 1],.vec 2 ((q3.tail.hO).es),.cells [((q3.tail.tail.hO).cs.getD 0 .any)]]) (fun y3 q3=>.aj ((q3.hO)=.cells (q3.hO).cs)<|.aj (ae [.vec 2] ((q3.hO).cs) 0 q3.tail)<|.aj (((q3.tail.drop 1).hO)=.cells ((q3.tail.drop 1).hO).cs)<|.aj (ae [.lk .ptr] (((q3.tail.drop 1).hO).cs) 0 ((q3.tail.drop 1).tail))<|.done 0 [.any] [.cells [.vec 1],.vec 2 ((q3.tail.hO).es),.cells [((q3.tail.tail.hO).cs.getD 0 .any)]]))
theorem P6(a0_0:AV)(a0_1:AV)(e1_0:List (List AV))(a2_0:AV)(ha0_0:LK.has .ptr a0_0)(ha0_1:LK.has .sl a0_1)(ha2_0:LK.has .ptr a2_0)(h:dz 37 (I6 a0_0 a0_1 e1_0 a2_0) R):ap Tryz.prog 65 [.agg [a0_0,a0_1],.ref 0 0,.ref 2 0,.fM 65 [some 0,some 2,none]] [.cells [.vec 1],.vec 2 e1_0,.cells [a2_0]] R :=
 ap.nu (bi (bQ (ag (aA _) aE)) (bi (fg _) (bi (bQ (ag (bD ha2_0) aE)) cm))) (ap.up (ag (cF (ag (bD ha0_0) (ag (ca ha0_1) aE))) (ag (aA _) (ag (aA _) (ag (aA _) aE)))) (oF KI {mu:=[(1,.one (.obj [.vec 2])),(2,.one (.obj [.lk .ptr])),(3,.w4 65 [some 0,some 2,none])],own:=[]} Tryz.f65 h))
def F8(x17:AV)(x18:Int)(x19:Int)(o4_0:AV)(o4_1:AV)(o0_0:List (List AV))(o2_0:AV):Tree :=
 NL x17<|NI (VI x18)<|NI (VI x19)<|.aj (Ob.cells [o4_0,o4_1]=.cells [o4_0,o4_1])<|.aj (ae [.lk .ptr,.lk .sl] [o4_0,o4_1] 0 [.cells [.any],.vec 2 o0_0,.cells [o2_0]])<|.aj (Ob.cells [.any]=.cells [.any])<|.aj (ae [.vec 2] [.any] 0 [.vec 2 o0_0,.cells [o2_0]])<|.aj (Ob.cells [o2_0]=.cells [o2_0])<|.aj (ae [.lk .ptr] [o2_0] 0 [])<|.test (decide (x19<x18)) (NG x17 x19 2<|.aj (cc [.ptr,.ptr] (x17.ix x19) 0/\2<=(x17.ix x19).length)<|.aj (LK.has .sl o4_1/\bV 1 o4_1.aO/\((([]:List (List AV)).length)+o4_1.aO.length)*8<=140737488355328)<|.aj (bV 1 [[VI x19]]/\(((([]:List (List AV))++o4_1.aO).length)+([[VI x19]]:List (List AV)).length)*8<=140737488355328)<|.call 65 [.agg [((x17.ix x19).getD 1 .any),.sl ((([]:List (List AV))++o4_1.aO)++([[VI x19]]:List (List AV)))],.ref 0 0,.ref 2 0,.fM 65 [some 0,some 2,none]] [.cells [.vec 1],.vec 2 o0_0,.cells [o2_0]] fun r1 o1=>.aj ((o1.hO)=.cells (o1.hO).cs)<|.aj (aK [.vec 2] ((o1.hO).cs) 0 1 o1.tail)<|.aj ((o1.tail.tail.hO)=.cells (o1.tail.tail.hO).cs)<|.aj (aK [.lk .ptr] ((o1.tail.tail.hO).cs) 0 3 o1.tail.tail.tail)<|.done 0 [x17,VI x18,VI (IntKind.wrap .i64 (x19+1))] [.cells [o4_0,o4_1],.cells [.any],.vec 2 ((o1.tail.hO).es),.cells [((o1.tail.tail.hO).cs.getD 0 .any)]]) (.done 1 [] [.cells [.any],.vec 2 o0_0,.cells [o2_0]])
abbrev HI:=cn Tryz.prog 37 Lt FR
theorem LL(x17:AV)(x18:Int)(x19:Int)(o4_0:AV)(o4_1:AV)(o0_0:List (List AV))(o2_0:AV)(h:kk 37 (F8 x17 x18 x19 o4_0 o4_1 o0_0 o2_0) HI U):HI [x17,VI x18,VI x19] [.cells [o4_0,o4_1],.cells [.any],.vec 2 o0_0,.cells [o2_0]] U :=
 gQ KI h
def E1:LI:={hd:={bN:=[(2,.k .sl),(9,.k .sl),(10,.k (.int .i64))],refs:=[(4,4)],cg:=[(4,[.lk .str,.lk .sl])],dZ:=[(3,3)]},xs:={dZ:=[(3,3)]},rt:={},ex:=0}
def IZ:Code:=cz (ct Tryz.f66) 4
def Nn:List (Nat×LI):=[(4,E1)]
def Im(a0_0:ByteArray)(a0_1:AV)(a1_0:ByteArray)(a1_1:AV)(a2:AV)(e3:List (List AV)):Tree :=
 .call 76 [.agg [VS a1_0,a1_1]] [] fun r1 o1=>NS r1<|.aj (bV 3 [[a2,VS r1.ah,VS (mk [])]]/\((e3.length)+([[a2,VS r1.ah,VS (mk [])]]:List (List AV)).length)*56<=140737488355328)<|NG a0_1 2 2<|NE (a0_1.ix (2:Int))<|NG a0_1 1 2<|mG (a0_1.ix (1:Int))<|NG a1_1 1 2<|NE (a1_1.ix (1:Int))<|.call 77 [.agg [VS (((a0_1.ix (2:Int)).getD 0 .any).ah),((a0_1.ix (2:Int)).getD 1 .any)],VS (((a0_1.ix (1:Int)).hA).ah),.agg [VS (((a1_1.ix (1:Int)).getD 0 .any).ah),((a1_1.ix (1:Int)).getD 1 .any)]] [] fun r2 o2=>NL r2<|.loop IZ E1 [a2,r2,VI 0] [.cells [VS a0_0,a0_1],.vec 3 (e3++([[a2,VS r1.ah,VS (mk [])]]:List (List AV)))] (fun y4 q4=>.aj (((q4.drop 0).hO)=.vec 3 ((q4.drop 0).hO).es)<|.done 0 [.vec 1] [.dead,.vec 3 ((q4.hO).es)]) (fun y4 q4=>.fail)
theorem Pj(a0_0:ByteArray)(a0_1:AV)(a1_0:ByteArray)(a1_1:AV)(a2:AV)(e3:List (List AV))(ha0_1:LK.has .sl a0_1)(ha1_1:LK.has .sl a1_1)(ha2:LK.has .sl a2)(h:dz 58 (Im a0_0 a0_1 a1_0 a1_1 a2 e3) R):ap Tryz.prog 66 [.agg [VS a0_0,a0_1],.agg [VS a1_0,a1_1],a2,.vec 0] [.vec 3 e3] R :=
 ap.nu (bi (fg _) cm) (ap.up (ag (cF (ag (aA _) (ag (ca ha0_1) aE))) (ag (cF (ag (aA _) (ag (ca ha1_1) aE))) (ag (ca ha2) (ag (aA _) aE)))) (oF Nn {mu:=[(3,.one (.vec))],own:=[0]} Tryz.f66 h))
def Gm(x2:AV)(x9:AV)(x10:Int)(o4_0:ByteArray)(o4_1:AV)(e3:List (List AV)):Tree :=
 NL x2<|NL x9<|NI (VI x10)<|.aj (Ob.cells [VS o4_0,o4_1]=.cells [VS o4_0,o4_1])<|.aj (ae [.lk .str,.lk .sl] [VS o4_0,o4_1] 0 [.vec 3 e3])<|.aj (Ob.vec 3 e3=.vec 3 e3)<|NL x9<|.test (decide (x10<(x9.aO.length:Int))) (.test (decide ((e3.length:Int)<=(100:Int))) (NG x9 x10 4<|NE ((x9.ix x10).drop 2)<|.aj (LK.has .sl x2/\bV 1 x2.aO/\((([]:List (List AV)).length)+x2.aO.length)*8<=140737488355328)<|.aj (bV 1 [[VI x10]]/\(((([]:List (List AV))++x2.aO).length)+([[VI x10]]:List (List AV)).length)*8<=140737488355328)<|.call 66 [.agg [VS o4_0,o4_1],.agg [VS ((((x9.ix x10).drop 2).getD 0 .any).ah),(((x9.ix x10).drop 2).getD 1 .any)],.sl ((([]:List (List AV))++x2.aO)++([[VI x10]]:List (List AV))),.vec 0] [.vec 3 e3] fun r1 o1=>.aj (r1=.vec 1/\(o1.tail.hO)=.vec 3 (o1.tail.hO).es)<|.done 0 [x2,x9,VI (IntKind.wrap .i64 (x10+1))] [.cells [VS o4_0,o4_1],.vec 3 ((o1.tail.hO).es)]) (.done 1 [] [.vec 3 e3])) (.done 1 [] [.vec 3 e3])
abbrev EO:=cn Tryz.prog 58 IZ E1
theorem Jb(x2:AV)(x9:AV)(x10:Int)(o4_0:ByteArray)(o4_1:AV)(e3:List (List AV))(h:kk 58 (Gm x2 x9 x10 o4_0 o4_1 e3) EO U):EO [x2,x9,VI x10] [.cells [VS o4_0,o4_1],.vec 3 e3] U :=
 gQ Nn h
def JF(a0:ByteArray):Tree :=
 .call 87 [VS a0] [] fun r1 o1=>NP r1<|NP r1<|.test r1.isNil (.done 0 [.v (.pointer none)] []) (NZ r1<|NZ r1<|.aj (LK.has (.int .u8) (r1.deref.hA)/\1<=r1.deref.length)<|.test (((r1.deref.hA).toInt) != (114:Int)) (.done 0 [.v (.pointer none)] []) (.done 0 [r1] []))
theorem Qr(a0:ByteArray)(h:dz 16 (JF a0) R):ap Tryz.prog 69 [VS a0] [] R :=
 uQ (ag (aA _) aE) (oQ [] Tryz.f69 h)
def Fe:LI:={hd:={bN:=[(7,.k (.int .i64))],refs:=[(2,2),(4,4)],cg:=[(2,[.lk .str,.lk .sl]),(4,[.lk .str,.lk .sl])],dZ:=[(6,1)]},xs:={refs:=[(2,2),(4,4)],cg:=[(2,[.lk .str,.lk .sl]),(4,[.lk .str,.lk .sl])]},rt:={bN:=[(3,.k .bool)],refs:=[(2,2)],cg:=[(2,[.lk .str,.lk .sl])]},ex:=0}
def MC:Code:=cz (ct Tryz.f70) 6
def MY:List (Nat×LI):=[(6,Fe)]
def Iu(a0:ByteArray):Tree :=
 .call 97 [VS a0] [] fun r1 o1=>NT r1<|.aj ((r1.comp 0)=.agg (r1.comp 0).cs/\(r1.comp 0).cs.length=2/\cc [.str,.sl] ((r1.comp 0).cs) 0)<|NB (r1.comp 1)<|.test (!((r1.comp 1).toBool)) (.done 0 [.cQ [.agg [VS (((r1.comp 0).cs.getD 0 .any).ah),((r1.comp 0).cs.getD 1 .any)],VB false]] []) (.call 98 [.agg [VS (((r1.comp 0).cs.getD 0 .any).ah),((r1.comp 0).cs.getD 1 .any)],.sl [],.vec 0] [.vec 1 []] fun r2 o2=>.aj (r2=.vec 1/\(o2.tail.hO)=.vec 1 (o2.tail.hO).es)<|.loop MC Fe [VI 0] [.cells [VS (mk []),.v (.slice none 0 0)],.cells [VS (((r1.comp 0).cs.getD 0 .any).ah),((r1.comp 0).cs.getD 1 .any)],.vec 1 ((o2.tail.hO).es)] (fun y4 q4=>.aj ((q4.hO)=.cells (q4.hO).cs)<|.aj (ae [.lk .str,.lk .sl] ((q4.hO).cs) 0 q4.tail)<|.aj (((q4.tail.drop 0).hO)=.cells ((q4.tail.drop 0).hO).cs)<|.aj (ae [.lk .str,.lk .sl] (((q4.tail.drop 0).hO).cs) 0 ((q4.tail.drop 0).tail))<|.done 0 [.cQ [.agg [VS (((q4.tail.hO).cs.getD 0 .any).ah),((q4.tail.hO).cs.getD 1 .any)],VB true]] []) (fun y4 q4=>NB (y4.hA)<|.aj ((q4.hO)=.cells (q4.hO).cs)<|.aj (ae [.lk .str,.lk .sl] ((q4.hO).cs) 0 q4.tail)<|.done 0 [.cQ [.agg [VS (((q4.hO).cs.getD 0 .any).ah),((q4.hO).cs.getD 1 .any)],VB ((y4.hA).toBool)]] []))
theorem OJ(a0:ByteArray)(h:dz 33 (Iu a0) R):ap Tryz.prog 70 [VS a0] [] R :=
 uQ (ag (aA _) aE) (oQ MY Tryz.f70 h)
def Ha(x7:Int)(o2_0:ByteArray)(o2_1:AV)(o4_0:ByteArray)(o4_1:AV)(e6:List (List AV)):Tree :=
 NI (VI x7)<|.aj (Ob.cells [VS o2_0,o2_1]=.cells [VS o2_0,o2_1])<|.aj (ae [.lk .str,.lk .sl] [VS o2_0,o2_1] 0 [.cells [VS o4_0,o4_1],.vec 1 e6])<|.aj (Ob.cells [VS o4_0,o4_1]=.cells [VS o4_0,o4_1])<|.aj (ae [.lk .str,.lk .sl] [VS o4_0,o4_1] 0 [.vec 1 e6])<|.aj (Ob.vec 1 e6=.vec 1 e6)<|.test (decide (x7<(e6.length:Int))) (.aj (0<=x7/\x7<e6.length)<|.aj (x7.toNat<e6.length/\0<(e6.getD x7.toNat []).length/\LK.has .str ((e6.getD x7.toNat []).getD 0 .any))<|.call 99 [VS (((e6.getD x7.toNat []).getD 0 .any).ah)] [] fun r1 o1=>NB r1<|.test r1.toBool (.done 2 [VB false] [.cells [VS o4_0,o4_1]]) (.done 0 [VI (IntKind.wrap .i64 (x7+1))] [.cells [VS o2_0,o2_1],.cells [VS o4_0,o4_1],.vec 1 e6])) (.done 1 [] [.cells [VS o2_0,o2_1],.cells [VS o4_0,o4_1]])
abbrev E0:=cn Tryz.prog 33 MC Fe
theorem Kr(x7:Int)(o2_0:ByteArray)(o2_1:AV)(o4_0:ByteArray)(o4_1:AV)(e6:List (List AV))(h:kk 33 (Ha x7 o2_0 o2_1 o4_0 o4_1 e6) E0 U):E0 [VI x7] [.cells [VS o2_0,o2_1],.cells [VS o4_0,o4_1],.vec 1 e6] U :=
 gQ MY h
def BX(a0_0:ByteArray)(a0_1:AV):Tree :=
 .test (!(af a0_0==af (mk []))) (.done 0 [VS (mk [])] []) (NL a0_1<|.test ((a0_1.aO.length:Int)==(0:Int)) (.done 0 [VS (mk [])] []) (NG a0_1 0 2<|mG (a0_1.ix (0:Int))<|.done 0 [VS (((a0_1.ix (0:Int)).hA).ah)] []))
theorem Ht(a0_0:ByteArray)(a0_1:AV)(ha0_1:LK.has .sl a0_1)(h:dz 17 (BX a0_0 a0_1) R):ap Tryz.prog 71 [.agg [VS a0_0,a0_1]] [] R :=
 uQ (ag (cF (ag (aA _) (ag (ca ha0_1) aE))) aE) (oQ [] Tryz.f71 h)
def Lw(a0_0:ByteArray)(a0_1:AV)(a1:AV)(a2_0:ByteArray)(a2_1:AV)(a3:Int):Tree :=
 .call 100 [.agg [VS a0_0,a0_1],a1] [] fun r1 o1=>NT r1<|.aj ((r1.comp 0)=.agg (r1.comp 0).cs/\(r1.comp 0).cs.length=2/\cc [.str,.sl] ((r1.comp 0).cs) 0)<|NL (r1.comp 1)<|.test (!(af (((r1.comp 0).cs.getD 0 .any).ah)==af (mk []))) (.test (af (((r1.comp 0).cs.getD 0 .any).ah)==af (mk [49])) (.done 0 [VB (af a2_0==af (mk [117]))] []) (.call 101 [VS (((r1.comp 0).cs.getD 0 .any).ah)] [] fun r2 o2=>NB r2<|.test r2.toBool (.call 102 [VS a2_0] [] fun r3 o3=>NI r3<|.call 60 [VI r3.toInt,VI 0,VI (IntKind.wrap .i64 (a3-1))] [] fun r4 o4=>NB r4<|.done 0 [VB r4.toBool] []) (.done 0 [VB false] []))) (.call 71 [.agg [VS (((r1.comp 0).cs.getD 0 .any).ah),((r1.comp 0).cs.getD 1 .any)]] [] fun r5 o5=>NS r5<|.call 71 [.agg [VS a2_0,a2_1]] [] fun r6 o6=>NS r6<|.aj (ac r5.ah+ac r6.ah<=9223372036854775807)<|.test (af ((r5.ah:ByteArray)++r6.ah)==af (mk [43,108])) (NG ((r1.comp 0).cs.getD 1 .any) 1 2<|NE (((r1.comp 0).cs.getD 1 .any).ix (1:Int))<|NG a2_1 1 2<|NE (a2_1.ix (1:Int))<|.call 72 [.agg [VS (((((r1.comp 0).cs.getD 1 .any).ix (1:Int)).getD 0 .any).ah),((((r1.comp 0).cs.getD 1 .any).ix (1:Int)).getD 1 .any)],(r1.comp 1),.agg [VS (((a2_1.ix (1:Int)).getD 0 .any).ah),((a2_1.ix (1:Int)).getD 1 .any)],VI a3] [] fun r7 o7=>NB r7<|.done 0 [VB r7.toBool] []) (.test (af ((r5.ah:ByteArray)++r6.ah)==af (mk [43,114])) (NG ((r1.comp 0).cs.getD 1 .any) 2 2<|NE (((r1.comp 0).cs.getD 1 .any).ix (2:Int))<|NG a2_1 1 2<|NE (a2_1.ix (1:Int))<|.call 72 [.agg [VS (((((r1.comp 0).cs.getD 1 .any).ix (2:Int)).getD 0 .any).ah),((((r1.comp 0).cs.getD 1 .any).ix (2:Int)).getD 1 .any)],(r1.comp 1),.agg [VS (((a2_1.ix (1:Int)).getD 0 .any).ah),((a2_1.ix (1:Int)).getD 1 .any)],VI a3] [] fun r8 o8=>NB r8<|.done 0 [VB r8.toBool] []) (.test (af ((r5.ah:ByteArray)++r6.ah)==af (mk [42,112])) (NG ((r1.comp 0).cs.getD 1 .any) 1 2<|NE (((r1.comp 0).cs.getD 1 .any).ix (1:Int))<|NG a2_1 1 2<|NE (a2_1.ix (1:Int))<|.call 72 [.agg [VS (((((r1.comp 0).cs.getD 1 .any).ix (1:Int)).getD 0 .any).ah),((((r1.comp 0).cs.getD 1 .any).ix (1:Int)).getD 1 .any)],(r1.comp 1),.agg [VS (((a2_1.ix (1:Int)).getD 0 .any).ah),((a2_1.ix (1:Int)).getD 1 .any)],VI a3] [] fun r9 o9=>NB r9<|.test r9.toBool (NG ((r1.comp 0).cs.getD 1 .any) 2 2<|NE (((r1.comp 0).cs.getD 1 .any).ix (2:Int))<|NG a2_1 2 2<|NE (a2_1.ix (2:Int))<|.call 72 [.agg [VS (((((r1.comp 0).cs.getD 1 .any).ix (2:Int)).getD 0 .any).ah),((((r1.comp 0).cs.getD 1 .any).ix (2:Int)).getD 1 .any)],(r1.comp 1),.agg [VS (((a2_1.ix (2:Int)).getD 0 .any).ah),((a2_1.ix (2:Int)).getD 1 .any)],VI a3] [] fun r10 o10=>NB r10<|.done 0 [VB r10.toBool] []) (.done 0 [VB false] [])) (.test (af ((r5.ah:ByteArray)++r6.ah)==af (mk [114,101,99,102])) (.call 103 [.agg [VS (((r1.comp 0).cs.getD 0 .any).ah),((r1.comp 0).cs.getD 1 .any)],(r1.comp 1)] [] fun r11 o11=>NT r11<|.aj ((r11.comp 0)=.agg (r11.comp 0).cs/\(r11.comp 0).cs.length=2/\cc [.str,.sl] ((r11.comp 0).cs) 0)<|NL (r11.comp 1)<|NG a2_1 1 2<|NE (a2_1.ix (1:Int))<|.call 72 [.agg [VS (((r11.comp 0).cs.getD 0 .any).ah),((r11.comp 0).cs.getD 1 .any)],(r11.comp 1),.agg [VS (((a2_1.ix (1:Int)).getD 0 .any).ah),((a2_1.ix (1:Int)).getD 1 .any)],VI a3] [] fun r12 o12=>NB r12<|.done 0 [VB r12.toBool] []) (.done 0 [VB false] [])))))
theorem NC(a0_0:ByteArray)(a0_1:AV)(a1:AV)(a2_0:ByteArray)(a2_1:AV)(a3:Int)(ha0_1:LK.has .sl a0_1)(ha1:LK.has .sl a1)(ha2_1:LK.has .sl a2_1)(h:dz 110 (Lw a0_0 a0_1 a1 a2_0 a2_1 a3) R):ap Tryz.prog 72 [.agg [VS a0_0,a0_1],a1,.agg [VS a2_0,a2_1],VI a3] [] R :=
 uQ (ag (cF (ag (aA _) (ag (ca ha0_1) aE))) (ag (ca ha1) (ag (cF (ag (aA _) (ag (ca ha2_1) aE))) (ag (aA _) aE)))) (oQ [] Tryz.f72 h)
def JT(a0:ByteArray):Tree :=
 .test (decide ((ac a0:Int)>(8000:Int))) (.done 0 [.cQ [.agg [VS (mk []),.v (.slice none 0 0)],VB false]] []) (.call 104 [VS a0,VI 0,VI 0] [] fun r1 o1=>NT r1<|.aj ((r1.comp 0)=.agg (r1.comp 0).cs/\(r1.comp 0).cs.length=2/\cc [.str,.sl] ((r1.comp 0).cs) 0)<|NI (r1.comp 1)<|.done 0 [.cQ [.agg [VS (((r1.comp 0).cs.getD 0 .any).ah),((r1.comp 0).cs.getD 1 .any)],VB (((r1.comp 1).toInt)==(ac a0:Int))]] [])
theorem PG(a0:ByteArray)(h:dz 20 (JT a0) R):ap Tryz.prog 73 [VS a0] [] R :=
 uQ (ag (aA _) aE) (oQ [] Tryz.f73 h)
def vM(a0_0:ByteArray)(a0_1:AV):Tree :=
 .test (!(af a0_0==af (mk []))) (.test (af a0_0==af (mk [117])) (.done 0 [VB true] []) (.call 102 [VS a0_0] [] fun r1 o1=>NI r1<|.done 0 [VB (decide (r1.toInt≥(0:Int)))] [])) (.call 71 [.agg [VS a0_0,a0_1]] [] fun r2 o2=>NS r2<|.test (af r2.ah==af (mk [108])) (NL a0_1<|.test ((a0_1.aO.length:Int)==(2:Int)) (NG a0_1 1 2<|NE (a0_1.ix (1:Int))<|.call 74 [.agg [VS (((a0_1.ix (1:Int)).getD 0 .any).ah),((a0_1.ix (1:Int)).getD 1 .any)]] [] fun r3 o3=>NB r3<|.done 0 [VB r3.toBool] []) (.done 0 [VB false] [])) (.test (af r2.ah==af (mk [114])) (NL a0_1<|.test ((a0_1.aO.length:Int)==(2:Int)) (NG a0_1 1 2<|NE (a0_1.ix (1:Int))<|.call 74 [.agg [VS (((a0_1.ix (1:Int)).getD 0 .any).ah),((a0_1.ix (1:Int)).getD 1 .any)]] [] fun r4 o4=>NB r4<|.done 0 [VB r4.toBool] []) (.done 0 [VB false] [])) (.test (af r2.ah==af (mk [102])) (NL a0_1<|.test ((a0_1.aO.length:Int)==(2:Int)) (NG a0_1 1 2<|NE (a0_1.ix (1:Int))<|.call 74 [.agg [VS (((a0_1.ix (1:Int)).getD 0 .any).ah),((a0_1.ix (1:Int)).getD 1 .any)]] [] fun r5 o5=>NB r5<|.done 0 [VB r5.toBool] []) (.done 0 [VB false] [])) (.test (af r2.ah==af (mk [112])) (NL a0_1<|.test ((a0_1.aO.length:Int)==(3:Int)) (NG a0_1 1 2<|NE (a0_1.ix (1:Int))<|.call 74 [.agg [VS (((a0_1.ix (1:Int)).getD 0 .any).ah),((a0_1.ix (1:Int)).getD 1 .any)]] [] fun r6 o6=>NB r6<|.test r6.toBool (NG a0_1 2 2<|NE (a0_1.ix (2:Int))<|.call 74 [.agg [VS (((a0_1.ix (2:Int)).getD 0 .any).ah),((a0_1.ix (2:Int)).getD 1 .any)]] [] fun r7 o7=>NB r7<|.done 0 [VB r7.toBool] []) (.done 0 [VB false] [])) (.done 0 [VB false] [])) (.done 0 [VB false] [])))))
theorem zd(a0_0:ByteArray)(a0_1:AV)(ha0_1:LK.has .sl a0_1)(h:dz 52 (vM a0_0 a0_1) R):ap Tryz.prog 74 [.agg [VS a0_0,a0_1]] [] R :=
 uQ (ag (cF (ag (aA _) (ag (ca ha0_1) aE))) aE) (oQ [] Tryz.f74 h)
def FV:LI:={hd:={bN:=[(3,.k (.int .i64)),(4,.k (.int .i64))],refs:=[(1,1)],cg:=[(1,[.lk .str,.lk .sl])]},xs:={bN:=[(3,.k (.int .i64))]},rt:={},ex:=0}
def IY:Code:=cz (ct Tryz.f75) 3
def J3:List (Nat×LI):=[(3,FV)]
def Fs(a0_0:ByteArray)(a0_1:AV):Tree :=
 .loop IY FV [VI 1,VI 1] [.cells [VS a0_0,a0_1]] (fun y2 q2=>NI (y2.hA)<|.done 0 [VI ((y2.hA).toInt)] []) (fun y2 q2=>.done 0 [.any] [])
theorem Mf(a0_0:ByteArray)(a0_1:AV)(ha0_1:LK.has .sl a0_1)(h:dz 21 (Fs a0_0 a0_1) R):ap Tryz.prog 75 [.agg [VS a0_0,a0_1]] [] R :=
 uQ (ag (cF (ag (aA _) (ag (ca ha0_1) aE))) aE) (oQ J3 Tryz.f75 h)
def A9(x3:Int)(x4:Int)(o1_0:ByteArray)(o1_1:AV):Tree :=
 NI (VI x3)<|NI (VI x4)<|.aj (Ob.cells [VS o1_0,o1_1]=.cells [VS o1_0,o1_1])<|.aj (ae [.lk .str,.lk .sl] [VS o1_0,o1_1] 0 [])<|NL o1_1<|.test (decide (x4<(o1_1.aO.length:Int))) (NG o1_1 x4 2<|NE (o1_1.ix x4)<|.call 75 [.agg [VS (((o1_1.ix x4).getD 0 .any).ah),((o1_1.ix x4).getD 1 .any)]] [] fun r1 o1=>NI r1<|.done 0 [VI (IntKind.wrap .i64 (x3+r1.toInt)),VI (IntKind.wrap .i64 (x4+1))] [.cells [VS o1_0,o1_1]]) (.done 1 [VI x3] [])
abbrev AX:=cn Tryz.prog 21 IY FV
theorem Dy(x3:Int)(x4:Int)(o1_0:ByteArray)(o1_1:AV)(h:kk 21 (A9 x3 x4 o1_0 o1_1) AX U):AX [VI x3,VI x4] [.cells [VS o1_0,o1_1]] U :=
 gQ J3 h
def GL:LI:={hd:={bN:=[(3,.k .str),(4,.k (.int .i64))],refs:=[(1,1)],cg:=[(1,[.lk .str,.lk .sl])]},xs:={bN:=[(3,.k .str)]},rt:={},ex:=0}
def KN:Code:=cz (ct Tryz.f76) 5
def Ji:List (Nat×LI):=[(5,GL)]
def CA(a0_0:ByteArray)(a0_1:AV):Tree :=
 .test (!(af a0_0==af (mk []))) (.done 0 [VS a0_0] []) (.loop KN GL [VS (mk [40]),VI 0] [.cells [VS a0_0,a0_1]] (fun y3 q3=>NS (y3.hA)<|.aj (ac ((y3.hA).ah)+ac (mk [41])<=9223372036854775807)<|.done 0 [VS ((((y3.hA).ah):ByteArray)++(mk [41]))] []) (fun y3 q3=>.done 0 [.any] []))
theorem GW(a0_0:ByteArray)(a0_1:AV)(ha0_1:LK.has .sl a0_1)(h:dz 31 (CA a0_0 a0_1) R):ap Tryz.prog 76 [.agg [VS a0_0,a0_1]] [] R :=
 uQ (ag (cF (ag (aA _) (ag (ca ha0_1) aE))) aE) (oQ Ji Tryz.f76 h)
def BB(x3:ByteArray)(x4:Int)(o1_0:ByteArray)(o1_1:AV):Tree :=
 NS (VS x3)<|NI (VI x4)<|.aj (Ob.cells [VS o1_0,o1_1]=.cells [VS o1_0,o1_1])<|.aj (ae [.lk .str,.lk .sl] [VS o1_0,o1_1] 0 [])<|NL o1_1<|.test (decide (x4<(o1_1.aO.length:Int))) (.test (decide (x4>(0:Int))) (.aj (ac x3+ac (mk [32])<=9223372036854775807)<|NG o1_1 x4 2<|NE (o1_1.ix x4)<|.call 76 [.agg [VS (((o1_1.ix x4).getD 0 .any).ah),((o1_1.ix x4).getD 1 .any)]] [] fun r1 o1=>NS r1<|.aj (ac ((x3:ByteArray)++(mk [32]))+ac r1.ah<=9223372036854775807)<|.done 0 [VS ((((x3:ByteArray)++(mk [32])):ByteArray)++r1.ah),VI (IntKind.wrap .i64 (x4+1))] [.cells [VS o1_0,o1_1]]) (NG o1_1 x4 2<|NE (o1_1.ix x4)<|.call 76 [.agg [VS (((o1_1.ix x4).getD 0 .any).ah),((o1_1.ix x4).getD 1 .any)]] [] fun r2 o2=>NS r2<|.aj (ac x3+ac r2.ah<=9223372036854775807)<|.done 0 [VS ((x3:ByteArray)++r2.ah),VI (IntKind.wrap .i64 (x4+1))] [.cells [VS o1_0,o1_1]])) (.done 1 [VS x3] [])
abbrev Bw:=cn Tryz.prog 31 KN GL
theorem Cs(x3:ByteArray)(x4:Int)(o1_0:ByteArray)(o1_1:AV)(h:kk 31 (BB x3 x4 o1_0 o1_1) Bw U):Bw [VS x3,VI x4] [.cells [VS o1_0,o1_1]] U :=
 gQ Ji h
def EZ:LI:={hd:={bN:=[(1,.k .str),(8,.k .sl),(9,.k (.int .i64))],refs:=[(3,3),(5,5)],cg:=[(3,[.lk .str,.lk .sl]),(5,[.lk .str,.lk .sl])],dZ:=[(7,4)]},xs:={bN:=[(1,.k .str)],refs:=[(3,3),(5,5)],cg:=[(3,[.lk .str,.lk .sl]),(5,[.lk .str,.lk .sl])],dZ:=[(7,4)]},rt:={},ex:=1}
def Kk:Code:=cz (ct Tryz.f77) 14
def Ek:LI:={hd:={bN:=[(10,.k .sl),(11,.k (.int .i64))],refs:=[(5,5)],cg:=[(5,[.lk .str,.lk .sl])],dZ:=[(7,4)]},xs:={dZ:=[(7,4)]},rt:={},ex:=3}
def L0:Code:=cz (ct Tryz.f77) 19
def Hy:LI:={hd:={bN:=[(1,.k .str),(12,.k .str),(13,.k .sl),(14,.k (.int .i64))],refs:=[(3,3),(5,5)],cg:=[(3,[.lk .str,.lk .sl]),(5,[.lk .str,.lk .sl])],dZ:=[(7,4)]},xs:={bN:=[(1,.k .str),(12,.k .str)],refs:=[(3,3),(5,5)],cg:=[(3,[.lk .str,.lk .sl]),(5,[.lk .str,.lk .sl])],dZ:=[(7,4)]},rt:={},ex:=5}
def LR:Code:=cz (ct Tryz.f77) 28
def EP:LI:={hd:={bN:=[(1,.k .str),(15,.k .sl),(16,.k (.int .i64))],refs:=[(3,3)],cg:=[(3,[.lk .str,.lk .sl])],dZ:=[(7,4)]},xs:={dZ:=[(7,4)]},rt:={},ex:=7}
def JK:Code:=cz (ct Tryz.f77) 33
def Fc:LI:={hd:={bN:=[(1,.k .str),(15,.k .sl),(16,.k (.int .i64)),(17,.k .sl),(18,.k (.int .i64))],refs:=[(3,3)],cg:=[(3,[.lk .str,.lk .sl])],dZ:=[(7,4)]},xs:={bN:=[(1,.k .str),(15,.k .sl),(16,.k (.int .i64))],refs:=[(3,3)],cg:=[(3,[.lk .str,.lk .sl])],dZ:=[(7,4)]},rt:={},ex:=9}
def Mu:Code:=cz (ct Tryz.f77) 37
def y0:List (Nat×LI):=[(14,EZ),(19,Ek),(28,Hy),(33,EP),(37,Fc)]
def Hj(a0_0:ByteArray)(a0_1:AV)(a1:ByteArray)(a2_0:ByteArray)(a2_1:AV):Tree :=
 .test (!(af a0_0==af (mk []))) (.test (af a0_0==af a1) (.aj (bV 4 [[VS (mk [117]),.v (.slice none 0 0),VS a2_0,a2_1]]/\((([]:List (List AV)).length)+([[VS (mk [117]),.v (.slice none 0 0),VS a2_0,a2_1]]:List (List AV)).length)*80<=140737488355328)<|.done 0 [.sl [[VS (mk [117]),.v (.slice none 0 0),VS a2_0,a2_1]]] []) (.done 0 [.sl []] [])) (.call 71 [.agg [VS a2_0,a2_1]] [] fun r1 o1=>NS r1<|.test (af r1.ah==af (mk [108])) (NG a0_1 1 2<|NE (a0_1.ix (1:Int))<|NG a2_1 1 2<|NE (a2_1.ix (1:Int))<|.call 77 [.agg [VS (((a0_1.ix (1:Int)).getD 0 .any).ah),((a0_1.ix (1:Int)).getD 1 .any)],VS a1,.agg [VS (((a2_1.ix (1:Int)).getD 0 .any).ah),((a2_1.ix (1:Int)).getD 1 .any)]] [] fun r2 o2=>NL r2<|.call 105 [r2,VS (mk [108]),.vec 0] [.vec 4 []] fun r3 o3=>.aj (r3=.vec 1/\(o3.tail.hO)=.vec 4 (o3.tail.hO).es)<|.done 0 [.sl ((o3.tail.hO).es)] []) (.test (af r1.ah==af (mk [114])) (NG a0_1 2 2<|NE (a0_1.ix (2:Int))<|NG a2_1 1 2<|NE (a2_1.ix (1:Int))<|.call 77 [.agg [VS (((a0_1.ix (2:Int)).getD 0 .any).ah),((a0_1.ix (2:Int)).getD 1 .any)],VS a1,.agg [VS (((a2_1.ix (1:Int)).getD 0 .any).ah),((a2_1.ix (1:Int)).getD 1 .any)]] [] fun r4 o4=>NL r4<|.call 105 [r4,VS (mk [114]),.vec 0] [.vec 4 []] fun r5 o5=>.aj (r5=.vec 1/\(o5.tail.hO)=.vec 4 (o5.tail.hO).es)<|.done 0 [.sl ((o5.tail.hO).es)] []) (.test (af r1.ah==af (mk [112])) (NG a0_1 1 2<|NE (a0_1.ix (1:Int))<|NG a2_1 1 2<|NE (a2_1.ix (1:Int))<|.call 77 [.agg [VS (((a0_1.ix (1:Int)).getD 0 .any).ah),((a0_1.ix (1:Int)).getD 1 .any)],VS a1,.agg [VS (((a2_1.ix (1:Int)).getD 0 .any).ah),((a2_1.ix (1:Int)).getD 1 .any)]] [] fun r6 o6=>NL r6<|.loop Kk EZ [VS a1,r6,VI 0] [.cells [VS a0_0,a0_1],.cells [VS a2_0,a2_1],.vec 4 []] (fun y9 q9=>NS (y9.hA)<|.aj ((q9.hO)=.cells (q9.hO).cs)<|.aj (ae [.lk .str,.lk .sl] ((q9.hO).cs) 0 q9.tail)<|.aj (((q9.tail.drop 0).hO)=.cells ((q9.tail.drop 0).hO).cs)<|.aj (ae [.lk .str,.lk .sl] (((q9.tail.drop 0).hO).cs) 0 ((q9.tail.drop 0).tail))<|.aj (((q9.drop 2).hO)=.vec 4 ((q9.drop 2).hO).es)<|NG ((q9.hO).cs.getD 1 .any) 2 2<|NE (((q9.hO).cs.getD 1 .any).ix (2:Int))<|NG ((q9.tail.hO).cs.getD 1 .any) 2 2<|NE (((q9.tail.hO).cs.getD 1 .any).ix (2:Int))<|.call 77 [.agg [VS (((((q9.hO).cs.getD 1 .any).ix (2:Int)).getD 0 .any).ah),((((q9.hO).cs.getD 1 .any).ix (2:Int)).getD 1 .any)],VS ((y9.hA).ah),.agg [VS (((((q9.tail.hO).cs.getD 1 .any).ix (2:Int)).getD 0 .any).ah),((((q9.tail.hO).cs.getD 1 .any).ix (2:Int)).getD 1 .any)]] [] fun r10 o10=>NL r10<|.loop L0 Ek [r10,VI 0] [.cells [VS (((q9.tail.hO).cs.getD 0 .any).ah),((q9.tail.hO).cs.getD 1 .any)],.vec 4 ((q9.tail.tail.hO).es)] (fun y13 q13=>.aj (((q13.drop 0).hO)=.vec 4 ((q13.drop 0).hO).es)<|.done 0 [.sl ((q13.hO).es)] []) (fun y13 q13=>.done 0 [.any] [])) (fun y9 q9=>.done 0 [.any] [])) (NG a0_1 1 2<|mG (a0_1.ix (1:Int))<|.test (af (((a0_1.ix (1:Int)).hA).ah)==af a1) (.done 0 [.sl []] []) (NG a0_1 2 2<|NE (a0_1.ix (2:Int))<|NG a2_1 1 2<|NE (a2_1.ix (1:Int))<|.call 77 [.agg [VS (((a0_1.ix (2:Int)).getD 0 .any).ah),((a0_1.ix (2:Int)).getD 1 .any)],VS a1,.agg [VS (((a2_1.ix (1:Int)).getD 0 .any).ah),((a2_1.ix (1:Int)).getD 1 .any)]] [] fun r14 o14=>NL r14<|.loop LR Hy [VS a1,VS (((a0_1.ix (1:Int)).hA).ah),r14,VI 0] [.cells [VS a0_0,a0_1],.cells [VS a2_0,a2_1],.vec 4 []] (fun y17 q17=>NS (y17.hA)<|NS (y17.tail.hA)<|.aj ((q17.hO)=.cells (q17.hO).cs)<|.aj (ae [.lk .str,.lk .sl] ((q17.hO).cs) 0 q17.tail)<|.aj (((q17.tail.drop 0).hO)=.cells ((q17.tail.drop 0).hO).cs)<|.aj (ae [.lk .str,.lk .sl] (((q17.tail.drop 0).hO).cs) 0 ((q17.tail.drop 0).tail))<|.aj (((q17.drop 2).hO)=.vec 4 ((q17.drop 2).hO).es)<|NG ((q17.hO).cs.getD 1 .any) 2 2<|NE (((q17.hO).cs.getD 1 .any).ix (2:Int))<|NG ((q17.tail.hO).cs.getD 1 .any) 1 2<|NE (((q17.tail.hO).cs.getD 1 .any).ix (1:Int))<|.call 77 [.agg [VS (((((q17.hO).cs.getD 1 .any).ix (2:Int)).getD 0 .any).ah),((((q17.hO).cs.getD 1 .any).ix (2:Int)).getD 1 .any)],VS ((y17.tail.hA).ah),.agg [VS (((((q17.tail.hO).cs.getD 1 .any).ix (1:Int)).getD 0 .any).ah),((((q17.tail.hO).cs.getD 1 .any).ix (1:Int)).getD 1 .any)]] [] fun r18 o18=>NL r18<|.loop JK EP [VS ((y17.hA).ah),r18,VI 0] [.cells [VS (((q17.hO).cs.getD 0 .any).ah),((q17.hO).cs.getD 1 .any)],.vec 4 ((q17.tail.tail.hO).es)] (fun y24 q24=>.aj (((q24.drop 0).hO)=.vec 4 ((q24.drop 0).hO).es)<|.done 0 [.sl ((q24.hO).es)] []) (fun y24 q24=>.done 0 [.any] [])) (fun y17 q17=>.done 0 [.any] []))))))
theorem PX(a0_0:ByteArray)(a0_1:AV)(a1:ByteArray)(a2_0:ByteArray)(a2_1:AV)(ha0_1:LK.has .sl a0_1)(ha2_1:LK.has .sl a2_1)(h:dz 244 (Hj a0_0 a0_1 a1 a2_0 a2_1) R):ap Tryz.prog 77 [.agg [VS a0_0,a0_1],VS a1,.agg [VS a2_0,a2_1]] [] R :=
 uQ (ag (cF (ag (aA _) (ag (ca ha0_1) aE))) (ag (aA _) (ag (cF (ag (aA _) (ag (ca ha2_1) aE))) aE))) (oQ y0 Tryz.f77 h)
def Ep(x1:ByteArray)(x8:AV)(x9:Int)(o3_0:ByteArray)(o3_1:AV)(o5_0:ByteArray)(o5_1:AV)(e7:List (List AV)):Tree :=
 NS (VS x1)<|NL x8<|NI (VI x9)<|.aj (Ob.cells [VS o3_0,o3_1]=.cells [VS o3_0,o3_1])<|.aj (ae [.lk .str,.lk .sl] [VS o3_0,o3_1] 0 [.cells [VS o5_0,o5_1],.vec 4 e7])<|.aj (Ob.cells [VS o5_0,o5_1]=.cells [VS o5_0,o5_1])<|.aj (ae [.lk .str,.lk .sl] [VS o5_0,o5_1] 0 [.vec 4 e7])<|.aj (Ob.vec 4 e7=.vec 4 e7)<|NL x8<|.test (decide (x9<(x8.aO.length:Int))) (NG x8 x9 4<|NE (x8.ix x9)<|NG o5_1 2 2<|NE (o5_1.ix (2:Int))<|.call 78 [VS (mk [112]),.sl [[VS (((x8.ix x9).getD 0 .any).ah),((x8.ix x9).getD 1 .any)],[VS (((o5_1.ix (2:Int)).getD 0 .any).ah),((o5_1.ix (2:Int)).getD 1 .any)]]] [] fun r1 o1=>NA r1<|.call 78 [VS (mk [108]),.sl [[VS ((r1.cs.getD 0 .any).ah),(r1.cs.getD 1 .any)]]] [] fun r2 o2=>NA r2<|NG x8 x9 4<|NE ((x8.ix x9).drop 2)<|.aj (bV 4 [[VS ((r2.cs.getD 0 .any).ah),(r2.cs.getD 1 .any),VS ((((x8.ix x9).drop 2).getD 0 .any).ah),(((x8.ix x9).drop 2).getD 1 .any)]]/\((e7.length)+([[VS ((r2.cs.getD 0 .any).ah),(r2.cs.getD 1 .any),VS ((((x8.ix x9).drop 2).getD 0 .any).ah),(((x8.ix x9).drop 2).getD 1 .any)]]:List (List AV)).length)*80<=140737488355328)<|.done 0 [VS x1,x8,VI (IntKind.wrap .i64 (x9+1))] [.cells [VS o3_0,o3_1],.cells [VS o5_0,o5_1],.vec 4 (e7++([[VS ((r2.cs.getD 0 .any).ah),(r2.cs.getD 1 .any),VS ((((x8.ix x9).drop 2).getD 0 .any).ah),(((x8.ix x9).drop 2).getD 1 .any)]]:List (List AV)))]) (.done 1 [VS x1] [.cells [VS o3_0,o3_1],.cells [VS o5_0,o5_1],.vec 4 e7])
abbrev GB:=cn Tryz.prog 244 Kk EZ
theorem MQ(x1:ByteArray)(x8:AV)(x9:Int)(o3_0:ByteArray)(o3_1:AV)(o5_0:ByteArray)(o5_1:AV)(e7:List (List AV))(h:kk 244 (Ep x1 x8 x9 o3_0 o3_1 o5_0 o5_1 e7) GB U):GB [VS x1,x8,VI x9] [.cells [VS o3_0,o3_1],.cells [VS o5_0,o5_1],.vec 4 e7] U :=
 gQ y0 h
def G9(x10:AV)(x11:Int)(o5_0:ByteArray)(o5_1:AV)(e7:List (List AV)):Tree :=
 NL x10<|NI (VI x11)<|.aj (Ob.cells [VS o5_0,o5_1]=.cells [VS o5_0,o5_1])<|.aj (ae [.lk .str,.lk .sl] [VS o5_0,o5_1] 0 [.vec 4 e7])<|.aj (Ob.vec 4 e7=.vec 4 e7)<|NL x10<|.test (decide (x11<(x10.aO.length:Int))) (NG o5_1 1 2<|NE (o5_1.ix (1:Int))<|NG x10 x11 4<|NE (x10.ix x11)<|.call 78 [VS (mk [112]),.sl [[VS (((o5_1.ix (1:Int)).getD 0 .any).ah),((o5_1.ix (1:Int)).getD 1 .any)],[VS (((x10.ix x11).getD 0 .any).ah),((x10.ix x11).getD 1 .any)]]] [] fun r1 o1=>NA r1<|.call 78 [VS (mk [114]),.sl [[VS ((r1.cs.getD 0 .any).ah),(r1.cs.getD 1 .any)]]] [] fun r2 o2=>NA r2<|NG x10 x11 4<|NE ((x10.ix x11).drop 2)<|.aj (bV 4 [[VS ((r2.cs.getD 0 .any).ah),(r2.cs.getD 1 .any),VS ((((x10.ix x11).drop 2).getD 0 .any).ah),(((x10.ix x11).drop 2).getD 1 .any)]]/\((e7.length)+([[VS ((r2.cs.getD 0 .any).ah),(r2.cs.getD 1 .any),VS ((((x10.ix x11).drop 2).getD 0 .any).ah),(((x10.ix x11).drop 2).getD 1 .any)]]:List (List AV)).length)*80<=140737488355328)<|.done 0 [x10,VI (IntKind.wrap .i64 (x11+1))] [.cells [VS o5_0,o5_1],.vec 4 (e7++([[VS ((r2.cs.getD 0 .any).ah),(r2.cs.getD 1 .any),VS ((((x10.ix x11).drop 2).getD 0 .any).ah),(((x10.ix x11).drop 2).getD 1 .any)]]:List (List AV)))]) (.done 1 [] [.vec 4 e7])
abbrev E5:=cn Tryz.prog 244 L0 Ek
theorem MV(x10:AV)(x11:Int)(o5_0:ByteArray)(o5_1:AV)(e7:List (List AV))(h:kk 244 (G9 x10 x11 o5_0 o5_1 e7) E5 U):E5 [x10,VI x11] [.cells [VS o5_0,o5_1],.vec 4 e7] U :=
 gQ y0 h
def E8(x1:ByteArray)(x12:ByteArray)(x13:AV)(x14:Int)(o3_0:ByteArray)(o3_1:AV)(o5_0:ByteArray)(o5_1:AV)(e7:List (List AV)):Tree :=
 NS (VS x1)<|NS (VS x12)<|NL x13<|NI (VI x14)<|.aj (Ob.cells [VS o3_0,o3_1]=.cells [VS o3_0,o3_1])<|.aj (ae [.lk .str,.lk .sl] [VS o3_0,o3_1] 0 [.cells [VS o5_0,o5_1],.vec 4 e7])<|.aj (Ob.cells [VS o5_0,o5_1]=.cells [VS o5_0,o5_1])<|.aj (ae [.lk .str,.lk .sl] [VS o5_0,o5_1] 0 [.vec 4 e7])<|.aj (Ob.vec 4 e7=.vec 4 e7)<|NL x13<|.test (decide (x14<(x13.aO.length:Int))) (NG x13 x14 4<|NE (x13.ix x14)<|.call 78 [VS (mk [108]),.sl [[VS (((x13.ix x14).getD 0 .any).ah),((x13.ix x14).getD 1 .any)]]] [] fun r1 o1=>NA r1<|.call 78 [VS (mk [102]),.sl [[VS ((r1.cs.getD 0 .any).ah),(r1.cs.getD 1 .any)]]] [] fun r2 o2=>NA r2<|NG x13 x14 4<|NE ((x13.ix x14).drop 2)<|.aj (bV 4 [[VS ((r2.cs.getD 0 .any).ah),(r2.cs.getD 1 .any),VS ((((x13.ix x14).drop 2).getD 0 .any).ah),(((x13.ix x14).drop 2).getD 1 .any)]]/\((e7.length)+([[VS ((r2.cs.getD 0 .any).ah),(r2.cs.getD 1 .any),VS ((((x13.ix x14).drop 2).getD 0 .any).ah),(((x13.ix x14).drop 2).getD 1 .any)]]:List (List AV)).length)*80<=140737488355328)<|.done 0 [VS x1,VS x12,x13,VI (IntKind.wrap .i64 (x14+1))] [.cells [VS o3_0,o3_1],.cells [VS o5_0,o5_1],.vec 4 (e7++([[VS ((r2.cs.getD 0 .any).ah),(r2.cs.getD 1 .any),VS ((((x13.ix x14).drop 2).getD 0 .any).ah),(((x13.ix x14).drop 2).getD 1 .any)]]:List (List AV)))]) (.done 1 [VS x1,VS x12] [.cells [VS o3_0,o3_1],.cells [VS o5_0,o5_1],.vec 4 e7])
abbrev FN:=cn Tryz.prog 244 LR Hy
theorem Js(x1:ByteArray)(x12:ByteArray)(x13:AV)(x14:Int)(o3_0:ByteArray)(o3_1:AV)(o5_0:ByteArray)(o5_1:AV)(e7:List (List AV))(h:kk 244 (E8 x1 x12 x13 x14 o3_0 o3_1 o5_0 o5_1 e7) FN U):FN [VS x1,VS x12,x13,VI x14] [.cells [VS o3_0,o3_1],.cells [VS o5_0,o5_1],.vec 4 e7] U :=
 gQ y0 h
def Fy(x1:ByteArray)(x15:AV)(x16:Int)(o3_0:ByteArray)(o3_1:AV)(e7:List (List AV)):Tree :=
 NS (VS x1)<|NL x15<|NI (VI x16)<|.aj (Ob.cells [VS o3_0,o3_1]=.cells [VS o3_0,o3_1])<|.aj (ae [.lk .str,.lk .sl] [VS o3_0,o3_1] 0 [.vec 4 e7])<|.aj (Ob.vec 4 e7=.vec 4 e7)<|NL x15<|.test (decide (x16<(x15.aO.length:Int))) (NG x15 x16 4<|NE ((x15.ix x16).drop 2)<|.call 77 [.agg [VS o3_0,o3_1],VS x1,.agg [VS ((((x15.ix x16).drop 2).getD 0 .any).ah),(((x15.ix x16).drop 2).getD 1 .any)]] [] fun r1 o1=>NL r1<|.loop Mu Fc [VS x1,x15,VI x16,r1,VI 0] [.cells [VS o3_0,o3_1],.vec 4 e7] (fun y2 q2=>NS (y2.hA)<|NL (y2.tail.hA)<|NI (y2.tail.tail.hA)<|.aj ((q2.hO)=.cells (q2.hO).cs)<|.aj (ae [.lk .str,.lk .sl] ((q2.hO).cs) 0 q2.tail)<|.aj (((q2.drop 1).hO)=.vec 4 ((q2.drop 1).hO).es)<|.done 0 [VS ((y2.hA).ah),(y2.tail.hA),VI (IntKind.wrap .i64 (((y2.tail.tail.hA).toInt)+1))] [.cells [VS (((q2.hO).cs.getD 0 .any).ah),((q2.hO).cs.getD 1 .any)],.vec 4 ((q2.tail.hO).es)]) (fun y2 q2=>.done 2 [] [])) (.done 1 [] [.vec 4 e7])
abbrev Ew:=cn Tryz.prog 244 JK EP
theorem Ij(x1:ByteArray)(x15:AV)(x16:Int)(o3_0:ByteArray)(o3_1:AV)(e7:List (List AV))(h:kk 244 (Fy x1 x15 x16 o3_0 o3_1 e7) Ew U):Ew [VS x1,x15,VI x16] [.cells [VS o3_0,o3_1],.vec 4 e7] U :=
 gQ y0 h
def E3(x1:ByteArray)(x15:AV)(x16:Int)(x17:AV)(x18:Int)(o3_0:ByteArray)(o3_1:AV)(e7:List (List AV)):Tree :=
 NS (VS x1)<|NL x15<|NI (VI x16)<|NL x17<|NI (VI x18)<|.aj (Ob.cells [VS o3_0,o3_1]=.cells [VS o3_0,o3_1])<|.aj (ae [.lk .str,.lk .sl] [VS o3_0,o3_1] 0 [.vec 4 e7])<|.aj (Ob.vec 4 e7=.vec 4 e7)<|NL x17<|.test (decide (x18<(x17.aO.length:Int))) (NG x15 x16 4<|NE (x15.ix x16)<|NG x17 x18 4<|NE (x17.ix x18)<|.call 78 [VS (mk [112]),.sl [[VS (((x15.ix x16).getD 0 .any).ah),((x15.ix x16).getD 1 .any)],[VS (((x17.ix x18).getD 0 .any).ah),((x17.ix x18).getD 1 .any)]]] [] fun r1 o1=>NA r1<|.call 78 [VS (mk [114]),.sl [[VS ((r1.cs.getD 0 .any).ah),(r1.cs.getD 1 .any)]]] [] fun r2 o2=>NA r2<|.call 78 [VS (mk [102]),.sl [[VS ((r2.cs.getD 0 .any).ah),(r2.cs.getD 1 .any)]]] [] fun r3 o3=>NA r3<|NG x17 x18 4<|NE ((x17.ix x18).drop 2)<|.aj (bV 4 [[VS ((r3.cs.getD 0 .any).ah),(r3.cs.getD 1 .any),VS ((((x17.ix x18).drop 2).getD 0 .any).ah),(((x17.ix x18).drop 2).getD 1 .any)]]/\((e7.length)+([[VS ((r3.cs.getD 0 .any).ah),(r3.cs.getD 1 .any),VS ((((x17.ix x18).drop 2).getD 0 .any).ah),(((x17.ix x18).drop 2).getD 1 .any)]]:List (List AV)).length)*80<=140737488355328)<|.done 0 [VS x1,x15,VI x16,x17,VI (IntKind.wrap .i64 (x18+1))] [.cells [VS o3_0,o3_1],.vec 4 (e7++([[VS ((r3.cs.getD 0 .any).ah),(r3.cs.getD 1 .any),VS ((((x17.ix x18).drop 2).getD 0 .any).ah),(((x17.ix x18).drop 2).getD 1 .any)]]:List (List AV)))]) (.done 1 [VS x1,x15,VI x16] [.cells [VS o3_0,o3_1],.vec 4 e7])
abbrev Eo:=cn Tryz.prog 244 Mu Fc
theorem Jf(x1:ByteArray)(x15:AV)(x16:Int)(x17:AV)(x18:Int)(o3_0:ByteArray)(o3_1:AV)(e7:List (List AV))(h:kk 244 (E3 x1 x15 x16 x17 x18 o3_0 o3_1 e7) Eo U):Eo [VS x1,x15,VI x16,x17,VI x18] [.cells [VS o3_0,o3_1],.vec 4 e7] U :=
 gQ y0 h
def IT(a0:ByteArray)(a1:AV):Tree :=
 .aj (LK.has .sl a1/\bV 2 a1.aO/\((([[VS a0,.v (.slice none 0 0)]]:List (List AV)).length)+a1.aO.length)*40<=140737488355328)<|.done 0 [.agg [VS (mk []),.sl (([[VS a0,.v (.slice none 0 0)]]:List (List AV))++a1.aO)]] []
theorem PP(a0:ByteArray)(a1:AV)(ha1:LK.has .sl a1)(h:dz 11 (IT a0 a1) R):ap Tryz.prog 78 [VS a0,a1] [] R :=
 uQ (ag (aA _) (ag (ca ha1) aE)) (oQ [] Tryz.f78 h)
def KM(a0_0:AV)(a0_1:Int)(a1:AV):Tree :=
 NL a1<|.call 29 [.ref 0 0,VI (a1.aO.length:Int)] [.cells [a0_0,VI a0_1]] fun r1 o1=>.aj ((o1.hO)=.cells (o1.hO).cs)<|.aj (aK [.lk .sl,.lk (.int .i64)] ((o1.hO).cs) 0 1 o1.tail)<|NI r1<|.aj (LK.has .sl a1/\0<=r1.toInt/\r1.toInt<a1.aO.length/\(a1.aO.getD r1.toInt.toNat []).length=1)<|mG (a1.aO.getD r1.toInt.toNat [])<|.done 0 [VS (((a1.aO.getD r1.toInt.toNat []).hA).ah)] [.cells [((o1.hO).cs.getD 0 .any),VI (((o1.hO).cs.getD 1 .any).toInt)]]
theorem OK(a0_0:AV)(a0_1:Int)(a1:AV)(ha1:LK.has .sl a1)(ha0_0:LK.has .sl a0_0)(h:dz 12 (KM a0_0 a0_1 a1) R):ap Tryz.prog 80 [.ref 0 0,a1] [.cells [a0_0,VI a0_1]] R :=
 ap.nu (bi (bQ (ag (ca ha0_0) (ag (aA _) aE))) cm) (ap.up (ag (aA _) (ag (ca ha1) aE)) (oF [] {mu:=[(0,.one (.obj [.lk .sl,.lk (.int .i64)]))],own:=[]} Tryz.f80 h))
def LD(a0_0:AV)(a0_1:Int):Tree :=
 .call 29 [.ref 0 0,VI 8] [.cells [a0_0,VI a0_1]] fun r1 o1=>.aj ((o1.hO)=.cells (o1.hO).cs)<|.aj (aK [.lk .sl,.lk (.int .i64)] ((o1.hO).cs) 0 1 o1.tail)<|NI r1<|.test (r1.toInt==(0:Int)) (.call 106 [.ref 0 0] [.cells [((o1.hO).cs.getD 0 .any),VI (((o1.hO).cs.getD 1 .any).toInt)]] fun r2 o2=>.aj ((o2.hO)=.cells (o2.hO).cs)<|.aj (aK [.lk .sl,.lk (.int .i64)] ((o2.hO).cs) 0 1 o2.tail)<|NS r2<|.done 0 [VS r2.ah] [.cells [((o2.hO).cs.getD 0 .any),VI (((o2.hO).cs.getD 1 .any).toInt)]]) (.test (r1.toInt==(1:Int)) (.call 107 [.ref 0 0,.sl [],VI 3] [.cells [((o1.hO).cs.getD 0 .any),VI (((o1.hO).cs.getD 1 .any).toInt)]] fun r3 o3=>.aj ((o3.hO)=.cells (o3.hO).cs)<|.aj (aK [.lk .sl,.lk (.int .i64)] ((o3.hO).cs) 0 1 o3.tail)<|NS r3<|.done 0 [VS r3.ah] [.cells [((o3.hO).cs.getD 0 .any),VI (((o3.hO).cs.getD 1 .any).toInt)]]) (.test (r1.toInt==(2:Int)) (.call 107 [.ref 0 0,.sl [],VI 3] [.cells [((o1.hO).cs.getD 0 .any),VI (((o1.hO).cs.getD 1 .any).toInt)]] fun r4 o4=>.aj ((o4.hO)=.cells (o4.hO).cs)<|.aj (aK [.lk .sl,.lk (.int .i64)] ((o4.hO).cs) 0 1 o4.tail)<|NS r4<|.done 0 [VS r4.ah] [.cells [((o4.hO).cs.getD 0 .any),VI (((o4.hO).cs.getD 1 .any).toInt)]]) (.test (r1.toInt==(3:Int)) (.call 107 [.ref 0 0,.sl [],VI 3] [.cells [((o1.hO).cs.getD 0 .any),VI (((o1.hO).cs.getD 1 .any).toInt)]] fun r5 o5=>.aj ((o5.hO)=.cells (o5.hO).cs)<|.aj (aK [.lk .sl,.lk (.int .i64)] ((o5.hO).cs) 0 1 o5.tail)<|NS r5<|.done 0 [VS r5.ah] [.cells [((o5.hO).cs.getD 0 .any),VI (((o5.hO).cs.getD 1 .any).toInt)]]) (.call 50 [.ref 0 0] [.cells [((o1.hO).cs.getD 0 .any),VI (((o1.hO).cs.getD 1 .any).toInt)]] fun r6 o6=>.aj ((o6.hO)=.cells (o6.hO).cs)<|.aj (aK [.lk .sl,.lk (.int .i64)] ((o6.hO).cs) 0 1 o6.tail)<|NS r6<|.done 0 [VS r6.ah] [.cells [((o6.hO).cs.getD 0 .any),VI (((o6.hO).cs.getD 1 .any).toInt)]]))))
theorem O4(a0_0:AV)(a0_1:Int)(ha0_0:LK.has .sl a0_0)(h:dz 18 (LD a0_0 a0_1) R):ap Tryz.prog 81 [.ref 0 0] [.cells [a0_0,VI a0_1]] R :=
 ap.nu (bi (bQ (ag (ca ha0_0) (ag (aA _) aE))) cm) (ap.up (ag (aA _) aE) (oF [] {mu:=[(0,.one (.obj [.lk .sl,.lk (.int .i64)]))],own:=[]} Tryz.f81 h))
def Ad(a0_0:AV)(a0_1:Int)(a1_0:ByteArray)(a1_1:AV)(a2:Int):Tree :=
 .call 71 [.agg [VS a1_0,a1_1]] [] fun r1 o1=>NS r1<|.test (af r1.ah==af (mk [43])) (.call 29 [.ref 0 0,VI 2] [.cells [a0_0,VI a0_1]] fun r2 o2=>.aj ((o2.hO)=.cells (o2.hO).cs)<|.aj (aK [.lk .sl,.lk (.int .i64)] ((o2.hO).cs) 0 1 o2.tail)<|NI r2<|NG a1_1 1 2<|NE (a1_1.ix (1:Int))<|.call 108 [.agg [VS (((a1_1.ix (1:Int)).getD 0 .any).ah),((a1_1.ix (1:Int)).getD 1 .any)],.sl []] [] fun r3 o3=>NB r3<|.test r3.toBool (.test ((1:Int)==(0:Int)) (NG a1_1 1 2<|NE (a1_1.ix (1:Int))<|.call 82 [.ref 0 0,.agg [VS (((a1_1.ix (1:Int)).getD 0 .any).ah),((a1_1.ix (1:Int)).getD 1 .any)],VI (IntKind.wrap .i64 (a2-1))] [.cells [((o2.hO).cs.getD 0 .any),VI (((o2.hO).cs.getD 1 .any).toInt)]] fun r4 o4=>.aj ((o4.hO)=.cells (o4.hO).cs)<|.aj (aK [.lk .sl,.lk (.int .i64)] ((o4.hO).cs) 0 1 o4.tail)<|NA r4<|.call 78 [VS (mk [108]),.sl [[VS ((r4.cs.getD 0 .any).ah),(r4.cs.getD 1 .any)]]] [] fun r5 o5=>NA r5<|.done 0 [.agg [VS ((r5.cs.getD 0 .any).ah),(r5.cs.getD 1 .any)]] [.cells [((o4.hO).cs.getD 0 .any),VI (((o4.hO).cs.getD 1 .any).toInt)]]) (NG a1_1 2 2<|NE (a1_1.ix (2:Int))<|.call 82 [.ref 0 0,.agg [VS (((a1_1.ix (2:Int)).getD 0 .any).ah),((a1_1.ix (2:Int)).getD 1 .any)],VI (IntKind.wrap .i64 (a2-1))] [.cells [((o2.hO).cs.getD 0 .any),VI (((o2.hO).cs.getD 1 .any).toInt)]] fun r6 o6=>.aj ((o6.hO)=.cells (o6.hO).cs)<|.aj (aK [.lk .sl,.lk (.int .i64)] ((o6.hO).cs) 0 1 o6.tail)<|NA r6<|.call 78 [VS (mk [114]),.sl [[VS ((r6.cs.getD 0 .any).ah),(r6.cs.getD 1 .any)]]] [] fun r7 o7=>NA r7<|.done 0 [.agg [VS ((r7.cs.getD 0 .any).ah),(r7.cs.getD 1 .any)]] [.cells [((o6.hO).cs.getD 0 .any),VI (((o6.hO).cs.getD 1 .any).toInt)]])) (.test (decide (a2<=(0:Int))) (NG a1_1 1 2<|NE (a1_1.ix (1:Int))<|.call 109 [.agg [VS (((a1_1.ix (1:Int)).getD 0 .any).ah),((a1_1.ix (1:Int)).getD 1 .any)]] [] fun r8 o8=>NI r8<|NG a1_1 2 2<|NE (a1_1.ix (2:Int))<|.call 109 [.agg [VS (((a1_1.ix (2:Int)).getD 0 .any).ah),((a1_1.ix (2:Int)).getD 1 .any)]] [] fun r9 o9=>NI r9<|.test (decide (r8.toInt>r9.toInt)) (NG a1_1 2 2<|NE (a1_1.ix (2:Int))<|.call 108 [.agg [VS (((a1_1.ix (2:Int)).getD 0 .any).ah),((a1_1.ix (2:Int)).getD 1 .any)],.sl []] [] fun r10 o10=>NB r10<|.test (!r10.toBool) (.test ((1:Int)==(0:Int)) (NG a1_1 1 2<|NE (a1_1.ix (1:Int))<|.call 82 [.ref 0 0,.agg [VS (((a1_1.ix (1:Int)).getD 0 .any).ah),((a1_1.ix (1:Int)).getD 1 .any)],VI (IntKind.wrap .i64 (a2-1))] [.cells [((o2.hO).cs.getD 0 .any),VI (((o2.hO).cs.getD 1 .any).toInt)]] fun r11 o11=>.aj ((o11.hO)=.cells (o11.hO).cs)<|.aj (aK [.lk .sl,.lk (.int .i64)] ((o11.hO).cs) 0 1 o11.tail)<|NA r11<|.call 78 [VS (mk [108]),.sl [[VS ((r11.cs.getD 0 .any).ah),(r11.cs.getD 1 .any)]]] [] fun r12 o12=>NA r12<|.done 0 [.agg [VS ((r12.cs.getD 0 .any).ah),(r12.cs.getD 1 .any)]] [.cells [((o11.hO).cs.getD 0 .any),VI (((o11.hO).cs.getD 1 .any).toInt)]]) (NG a1_1 2 2<|NE (a1_1.ix (2:Int))<|.call 82 [.ref 0 0,.agg [VS (((a1_1.ix (2:Int)).getD 0 .any).ah),((a1_1.ix (2:Int)).getD 1 .any)],VI (IntKind.wrap .i64 (a2-1))] [.cells [((o2.hO).cs.getD 0 .any),VI (((o2.hO).cs.getD 1 .any).toInt)]] fun r13 o13=>.aj ((o13.hO)=.cells (o13.hO).cs)<|.aj (aK [.lk .sl,.lk (.int .i64)] ((o13.hO).cs) 0 1 o13.tail)<|NA r13<|.call 78 [VS (mk [114]),.sl [[VS ((r13.cs.getD 0 .any).ah),(r13.cs.getD 1 .any)]]] [] fun r14 o14=>NA r14<|.done 0 [.agg [VS ((r14.cs.getD 0 .any).ah),(r14.cs.getD 1 .any)]] [.cells [((o13.hO).cs.getD 0 .any),VI (((o13.hO).cs.getD 1 .any).toInt)]])) (NG a1_1 2 2<|NE (a1_1.ix (2:Int))<|.call 108 [.agg [VS (((a1_1.ix (2:Int)).getD 0 .any).ah),((a1_1.ix (2:Int)).getD 1 .any)],.sl []] [] fun r15 o15=>NB r15<|.test r15.toBool (.test ((0:Int)==(0:Int)) (NG a1_1 1 2<|NE (a1_1.ix (1:Int))<|.call 82 [.ref 0 0,.agg [VS (((a1_1.ix (1:Int)).getD 0 .any).ah),((a1_1.ix (1:Int)).getD 1 .any)],VI (IntKind.wrap .i64 (a2-1))] [.cells [((o2.hO).cs.getD 0 .any),VI (((o2.hO).cs.getD 1 .any).toInt)]] fun r16 o16=>.aj ((o16.hO)=.cells (o16.hO).cs)<|.aj (aK [.lk .sl,.lk (.int .i64)] ((o16.hO).cs) 0 1 o16.tail)<|NA r16<|.call 78 [VS (mk [108]),.sl [[VS ((r16.cs.getD 0 .any).ah),(r16.cs.getD 1 .any)]]] [] fun r17 o17=>NA r17<|.done 0 [.agg [VS ((r17.cs.getD 0 .any).ah),(r17.cs.getD 1 .any)]] [.cells [((o16.hO).cs.getD 0 .any),VI (((o16.hO).cs.getD 1 .any).toInt)]]) (NG a1_1 2 2<|NE (a1_1.ix (2:Int))<|.call 82 [.ref 0 0,.agg [VS (((a1_1.ix (2:Int)).getD 0 .any).ah),((a1_1.ix (2:Int)).getD 1 .any)],VI (IntKind.wrap .i64 (a2-1))] [.cells [((o2.hO).cs.getD 0 .any),VI (((o2.hO).cs.getD 1 .any).toInt)]] fun r18 o18=>.aj ((o18.hO)=.cells (o18.hO).cs)<|.aj (aK [.lk .sl,.lk (.int .i64)] ((o18.hO).cs) 0 1 o18.tail)<|NA r18<|.call 78 [VS (mk [114]),.sl [[VS ((r18.cs.getD 0 .any).ah),(r18.cs.getD 1 .any)]]] [] fun r19 o19=>NA r19<|.done 0 [.agg [VS ((r19.cs.getD 0 .any).ah),(r19.cs.getD 1 .any)]] [.cells [((o18.hO).cs.getD 0 .any),VI (((o18.hO).cs.getD 1 .any).toInt)]])) (.test (decide (a2<=(0:Int))) (.test ((0:Int)==(0:Int)) (NG a1_1 1 2<|NE (a1_1.ix (1:Int))<|.call 82 [.ref 0 0,.agg [VS (((a1_1.ix (1:Int)).getD 0 .any).ah),((a1_1.ix (1:Int)).getD 1 .any)],VI (IntKind.wrap .i64 (a2-1))] [.cells [((o2.hO).cs.getD 0 .any),VI (((o2.hO).cs.getD 1 .any).toInt)]] fun r20 o20=>.aj ((o20.hO)=.cells (o20.hO).cs)<|.aj (aK [.lk .sl,.lk (.int .i64)] ((o20.hO).cs) 0 1 o20.tail)<|NA r20<|.call 78 [VS (mk [108]),.sl [[VS ((r20.cs.getD 0 .any).ah),(r20.cs.getD 1 .any)]]] [] fun r21 o21=>NA r21<|.done 0 [.agg [VS ((r21.cs.getD 0 .any).ah),(r21.cs.getD 1 .any)]] [.cells [((o20.hO).cs.getD 0 .any),VI (((o20.hO).cs.getD 1 .any).toInt)]]) (NG a1_1 2 2<|NE (a1_1.ix (2:Int))<|.call 82 [.ref 0 0,.agg [VS (((a1_1.ix (2:Int)).getD 0 .any).ah),((a1_1.ix (2:Int)).getD 1 .any)],VI (IntKind.wrap .i64 (a2-1))] [.cells [((o2.hO).cs.getD 0 .any),VI (((o2.hO).cs.getD 1 .any).toInt)]] fun r22 o22=>.aj ((o22.hO)=.cells (o22.hO).cs)<|.aj (aK [.lk .sl,.lk (.int .i64)] ((o22.hO).cs) 0 1 o22.tail)<|NA r22<|.call 78 [VS (mk [114]),.sl [[VS ((r22.cs.getD 0 .any).ah),(r22.cs.getD 1 .any)]]] [] fun r23 o23=>NA r23<|.done 0 [.agg [VS ((r23.cs.getD 0 .any).ah),(r23.cs.getD 1 .any)]] [.cells [((o22.hO).cs.getD 0 .any),VI (((o22.hO).cs.getD 1 .any).toInt)]])) (.test (r2.toInt==(0:Int)) (NG a1_1 1 2<|NE (a1_1.ix (1:Int))<|.call 82 [.ref 0 0,.agg [VS (((a1_1.ix (1:Int)).getD 0 .any).ah),((a1_1.ix (1:Int)).getD 1 .any)],VI (IntKind.wrap .i64 (a2-1))] [.cells [((o2.hO).cs.getD 0 .any),VI (((o2.hO).cs.getD 1 .any).toInt)]] fun r24 o24=>.aj ((o24.hO)=.cells (o24.hO).cs)<|.aj (aK [.lk .sl,.lk (.int .i64)] ((o24.hO).cs) 0 1 o24.tail)<|NA r24<|.call 78 [VS (mk [108]),.sl [[VS ((r24.cs.getD 0 .any).ah),(r24.cs.getD 1 .any)]]] [] fun r25 o25=>NA r25<|.done 0 [.agg [VS ((r25.cs.getD 0 .any).ah),(r25.cs.getD 1 .any)]] [.cells [((o24.hO).cs.getD 0 .any),VI (((o24.hO).cs.getD 1 .any).toInt)]]) (NG a1_1 2 2<|NE (a1_1.ix (2:Int))<|.call 82 [.ref 0 0,.agg [VS (((a1_1.ix (2:Int)).getD 0 .any).ah),((a1_1.ix (2:Int)).getD 1 .any)],VI (IntKind.wrap .i64 (a2-1))] [.cells [((o2.hO).cs.getD 0 .any),VI (((o2.hO).cs.getD 1 .any).toInt)]] fun r26 o26=>.aj ((o26.hO)=.cells (o26.hO).cs)<|.aj (aK [.lk .sl,.lk (.int .i64)] ((o26.hO).cs) 0 1 o26.tail)<|NA r26<|.call 78 [VS (mk [114]),.sl [[VS ((r26.cs.getD 0 .any).ah),(r26.cs.getD 1 .any)]]] [] fun r27 o27=>NA r27<|.done 0 [.agg [VS ((r27.cs.getD 0 .any).ah),(r27.cs.getD 1 .any)]] [.cells [((o26.hO).cs.getD 0 .any),VI (((o26.hO).cs.getD 1 .any).toInt)]]))))) (NG a1_1 2 2<|NE (a1_1.ix (2:Int))<|.call 108 [.agg [VS (((a1_1.ix (2:Int)).getD 0 .any).ah),((a1_1.ix (2:Int)).getD 1 .any)],.sl []] [] fun r28 o28=>NB r28<|.test r28.toBool (.test ((0:Int)==(0:Int)) (NG a1_1 1 2<|NE (a1_1.ix (1:Int))<|.call 82 [.ref 0 0,.agg [VS (((a1_1.ix (1:Int)).getD 0 .any).ah),((a1_1.ix (1:Int)).getD 1 .any)],VI (IntKind.wrap .i64 (a2-1))] [.cells [((o2.hO).cs.getD 0 .any),VI (((o2.hO).cs.getD 1 .any).toInt)]] fun r29 o29=>.aj ((o29.hO)=.cells (o29.hO).cs)<|.aj (aK [.lk .sl,.lk (.int .i64)] ((o29.hO).cs) 0 1 o29.tail)<|NA r29<|.call 78 [VS (mk [108]),.sl [[VS ((r29.cs.getD 0 .any).ah),(r29.cs.getD 1 .any)]]] [] fun r30 o30=>NA r30<|.done 0 [.agg [VS ((r30.cs.getD 0 .any).ah),(r30.cs.getD 1 .any)]] [.cells [((o29.hO).cs.getD 0 .any),VI (((o29.hO).cs.getD 1 .any).toInt)]]) (NG a1_1 2 2<|NE (a1_1.ix (2:Int))<|.call 82 [.ref 0 0,.agg [VS (((a1_1.ix (2:Int)).getD 0 .any).ah),((a1_1.ix (2:Int)).getD 1 .any)],VI (IntKind.wrap .i64 (a2-1))] [.cells [((o2.hO).cs.getD 0 .any),VI (((o2.hO).cs.getD 1 .any).toInt)]] fun r31 o31=>.aj ((o31.hO)=.cells (o31.hO).cs)<|.aj (aK [.lk .sl,.lk (.int .i64)] ((o31.hO).cs) 0 1 o31.tail)<|NA r31<|.call 78 [VS (mk [114]),.sl [[VS ((r31.cs.getD 0 .any).ah),(r31.cs.getD 1 .any)]]] [] fun r32 o32=>NA r32<|.done 0 [.agg [VS ((r32.cs.getD 0 .any).ah),(r32.cs.getD 1 .any)]] [.cells [((o31.hO).cs.getD 0 .any),VI (((o31.hO).cs.getD 1 .any).toInt)]])) (.test (decide (a2<=(0:Int))) (.test ((0:Int)==(0:Int)) (NG a1_1 1 2<|NE (a1_1.ix (1:Int))<|.call 82 [.ref 0 0,.agg [VS (((a1_1.ix (1:Int)).getD 0 .any).ah),((a1_1.ix (1:Int)).getD 1 .any)],VI (IntKind.wrap .i64 (a2-1))] [.cells [((o2.hO).cs.getD 0 .any),VI (((o2.hO).cs.getD 1 .any).toInt)]] fun r33 o33=>.aj ((o33.hO)=.cells (o33.hO).cs)<|.aj (aK [.lk .sl,.lk (.int .i64)] ((o33.hO).cs) 0 1 o33.tail)<|NA r33<|.call 78 [VS (mk [108]),.sl [[VS ((r33.cs.getD 0 .any).ah),(r33.cs.getD 1 .any)]]] [] fun r34 o34=>NA r34<|.done 0 [.agg [VS ((r34.cs.getD 0 .any).ah),(r34.cs.getD 1 .any)]] [.cells [((o33.hO).cs.getD 0 .any),VI (((o33.hO).cs.getD 1 .any).toInt)]]) (NG a1_1 2 2<|NE (a1_1.ix (2:Int))<|.call 82 [.ref 0 0,.agg [VS (((a1_1.ix (2:Int)).getD 0 .any).ah),((a1_1.ix (2:Int)).getD 1 .any)],VI (IntKind.wrap .i64 (a2-1))] [.cells [((o2.hO).cs.getD 0 .any),VI (((o2.hO).cs.getD 1 .any).toInt)]] fun r35 o35=>.aj ((o35.hO)=.cells (o35.hO).cs)<|.aj (aK [.lk .sl,.lk (.int .i64)] ((o35.hO).cs) 0 1 o35.tail)<|NA r35<|.call 78 [VS (mk [114]),.sl [[VS ((r35.cs.getD 0 .any).ah),(r35.cs.getD 1 .any)]]] [] fun r36 o36=>NA r36<|.done 0 [.agg [VS ((r36.cs.getD 0 .any).ah),(r36.cs.getD 1 .any)]] [.cells [((o35.hO).cs.getD 0 .any),VI (((o35.hO).cs.getD 1 .any).toInt)]])) (.test (r2.toInt==(0:Int)) (NG a1_1 1 2<|NE (a1_1.ix (1:Int))<|.call 82 [.ref 0 0,.agg [VS (((a1_1.ix (1:Int)).getD 0 .any).ah),((a1_1.ix (1:Int)).getD 1 .any)],VI (IntKind.wrap .i64 (a2-1))] [.cells [((o2.hO).cs.getD 0 .any),VI (((o2.hO).cs.getD 1 .any).toInt)]] fun r37 o37=>.aj ((o37.hO)=.cells (o37.hO).cs)<|.aj (aK [.lk .sl,.lk (.int .i64)] ((o37.hO).cs) 0 1 o37.tail)<|NA r37<|.call 78 [VS (mk [108]),.sl [[VS ((r37.cs.getD 0 .any).ah),(r37.cs.getD 1 .any)]]] [] fun r38 o38=>NA r38<|.done 0 [.agg [VS ((r38.cs.getD 0 .any).ah),(r38.cs.getD 1 .any)]] [.cells [((o37.hO).cs.getD 0 .any),VI (((o37.hO).cs.getD 1 .any).toInt)]]) (NG a1_1 2 2<|NE (a1_1.ix (2:Int))<|.call 82 [.ref 0 0,.agg [VS (((a1_1.ix (2:Int)).getD 0 .any).ah),((a1_1.ix (2:Int)).getD 1 .any)],VI (IntKind.wrap .i64 (a2-1))] [.cells [((o2.hO).cs.getD 0 .any),VI (((o2.hO).cs.getD 1 .any).toInt)]] fun r39 o39=>.aj ((o39.hO)=.cells (o39.hO).cs)<|.aj (aK [.lk .sl,.lk (.int .i64)] ((o39.hO).cs) 0 1 o39.tail)<|NA r39<|.call 78 [VS (mk [114]),.sl [[VS ((r39.cs.getD 0 .any).ah),(r39.cs.getD 1 .any)]]] [] fun r40 o40=>NA r40<|.done 0 [.agg [VS ((r40.cs.getD 0 .any).ah),(r40.cs.getD 1 .any)]] [.cells [((o39.hO).cs.getD 0 .any),VI (((o39.hO).cs.getD 1 .any).toInt)]]))))) (NG a1_1 2 2<|NE (a1_1.ix (2:Int))<|.call 108 [.agg [VS (((a1_1.ix (2:Int)).getD 0 .any).ah),((a1_1.ix (2:Int)).getD 1 .any)],.sl []] [] fun r41 o41=>NB r41<|.test r41.toBool (.test ((0:Int)==(0:Int)) (NG a1_1 1 2<|NE (a1_1.ix (1:Int))<|.call 82 [.ref 0 0,.agg [VS (((a1_1.ix (1:Int)).getD 0 .any).ah),((a1_1.ix (1:Int)).getD 1 .any)],VI (IntKind.wrap .i64 (a2-1))] [.cells [((o2.hO).cs.getD 0 .any),VI (((o2.hO).cs.getD 1 .any).toInt)]] fun r42 o42=>.aj ((o42.hO)=.cells (o42.hO).cs)<|.aj (aK [.lk .sl,.lk (.int .i64)] ((o42.hO).cs) 0 1 o42.tail)<|NA r42<|.call 78 [VS (mk [108]),.sl [[VS ((r42.cs.getD 0 .any).ah),(r42.cs.getD 1 .any)]]] [] fun r43 o43=>NA r43<|.done 0 [.agg [VS ((r43.cs.getD 0 .any).ah),(r43.cs.getD 1 .any)]] [.cells [((o42.hO).cs.getD 0 .any),VI (((o42.hO).cs.getD 1 .any).toInt)]]) (NG a1_1 2 2<|NE (a1_1.ix (2:Int))<|.call 82 [.ref 0 0,.agg [VS (((a1_1.ix (2:Int)).getD 0 .any).ah),((a1_1.ix (2:Int)).getD 1 .any)],VI (IntKind.wrap .i64 (a2-1))] [.cells [((o2.hO).cs.getD 0 .any),VI (((o2.hO).cs.getD 1 .any).toInt)]] fun r44 o44=>.aj ((o44.hO)=.cells (o44.hO).cs)<|.aj (aK [.lk .sl,.lk (.int .i64)] ((o44.hO).cs) 0 1 o44.tail)<|NA r44<|.call 78 [VS (mk [114]),.sl [[VS ((r44.cs.getD 0 .any).ah),(r44.cs.getD 1 .any)]]] [] fun r45 o45=>NA r45<|.done 0 [.agg [VS ((r45.cs.getD 0 .any).ah),(r45.cs.getD 1 .any)]] [.cells [((o44.hO).cs.getD 0 .any),VI (((o44.hO).cs.getD 1 .any).toInt)]])) (.test (decide (a2<=(0:Int))) (.test ((0:Int)==(0:Int)) (NG a1_1 1 2<|NE (a1_1.ix (1:Int))<|.call 82 [.ref 0 0,.agg [VS (((a1_1.ix (1:Int)).getD 0 .any).ah),((a1_1.ix (1:Int)).getD 1 .any)],VI (IntKind.wrap .i64 (a2-1))] [.cells [((o2.hO).cs.getD 0 .any),VI (((o2.hO).cs.getD 1 .any).toInt)]] fun r46 o46=>.aj ((o46.hO)=.cells (o46.hO).cs)<|.aj (aK [.lk .sl,.lk (.int .i64)] ((o46.hO).cs) 0 1 o46.tail)<|NA r46<|.call 78 [VS (mk [108]),.sl [[VS ((r46.cs.getD 0 .any).ah),(r46.cs.getD 1 .any)]]] [] fun r47 o47=>NA r47<|.done 0 [.agg [VS ((r47.cs.getD 0 .any).ah),(r47.cs.getD 1 .any)]] [.cells [((o46.hO).cs.getD 0 .any),VI (((o46.hO).cs.getD 1 .any).toInt)]]) (NG a1_1 2 2<|NE (a1_1.ix (2:Int))<|.call 82 [.ref 0 0,.agg [VS (((a1_1.ix (2:Int)).getD 0 .any).ah),((a1_1.ix (2:Int)).getD 1 .any)],VI (IntKind.wrap .i64 (a2-1))] [.cells [((o2.hO).cs.getD 0 .any),VI (((o2.hO).cs.getD 1 .any).toInt)]] fun r48 o48=>.aj ((o48.hO)=.cells (o48.hO).cs)<|.aj (aK [.lk .sl,.lk (.int .i64)] ((o48.hO).cs) 0 1 o48.tail)<|NA r48<|.call 78 [VS (mk [114]),.sl [[VS ((r48.cs.getD 0 .any).ah),(r48.cs.getD 1 .any)]]] [] fun r49 o49=>NA r49<|.done 0 [.agg [VS ((r49.cs.getD 0 .any).ah),(r49.cs.getD 1 .any)]] [.cells [((o48.hO).cs.getD 0 .any),VI (((o48.hO).cs.getD 1 .any).toInt)]])) (.test (r2.toInt==(0:Int)) (NG a1_1 1 2<|NE (a1_1.ix (1:Int))<|.call 82 [.ref 0 0,.agg [VS (((a1_1.ix (1:Int)).getD 0 .any).ah),((a1_1.ix (1:Int)).getD 1 .any)],VI (IntKind.wrap .i64 (a2-1))] [.cells [((o2.hO).cs.getD 0 .any),VI (((o2.hO).cs.getD 1 .any).toInt)]] fun r50 o50=>.aj ((o50.hO)=.cells (o50.hO).cs)<|.aj (aK [.lk .sl,.lk (.int .i64)] ((o50.hO).cs) 0 1 o50.tail)<|NA r50<|.call 78 [VS (mk [108]),.sl [[VS ((r50.cs.getD 0 .any).ah),(r50.cs.getD 1 .any)]]] [] fun r51 o51=>NA r51<|.done 0 [.agg [VS ((r51.cs.getD 0 .any).ah),(r51.cs.getD 1 .any)]] [.cells [((o50.hO).cs.getD 0 .any),VI (((o50.hO).cs.getD 1 .any).toInt)]]) (NG a1_1 2 2<|NE (a1_1.ix (2:Int))<|.call 82 [.ref 0 0,.agg [VS (((a1_1.ix (2:Int)).getD 0 .any).ah),((a1_1.ix (2:Int)).getD 1 .any)],VI (IntKind.wrap .i64 (a2-1))] [.cells [((o2.hO).cs.getD 0 .any),VI (((o2.hO).cs.getD 1 .any).toInt)]] fun r52 o52=>.aj ((o52.hO)=.cells (o52.hO).cs)<|.aj (aK [.lk .sl,.lk (.int .i64)] ((o52.hO).cs) 0 1 o52.tail)<|NA r52<|.call 78 [VS (mk [114]),.sl [[VS ((r52.cs.getD 0 .any).ah),(r52.cs.getD 1 .any)]]] [] fun r53 o53=>NA r53<|.done 0 [.agg [VS ((r53.cs.getD 0 .any).ah),(r53.cs.getD 1 .any)]] [.cells [((o52.hO).cs.getD 0 .any),VI (((o52.hO).cs.getD 1 .any).toInt)]])))))) (.test (af r1.ah==af (mk [42])) (NG a1_1 1 2<|NE (a1_1.ix (1:Int))<|.call 82 [.ref 0 0,.agg [VS (((a1_1.ix (1:Int)).getD 0 .any).ah),((a1_1.ix (1:Int)).getD 1 .any)],VI (IntKind.wrap .i64 (a2-1))] [.cells [a0_0,VI a0_1]] fun r54 o54=>.aj ((o54.hO)=.cells (o54.hO).cs)<|.aj (aK [.lk .sl,.lk (.int .i64)] ((o54.hO).cs) 0 1 o54.tail)<|NA r54<|NG a1_1 2 2<|NE (a1_1.ix (2:Int))<|.call 82 [.ref 0 0,.agg [VS (((a1_1.ix (2:Int)).getD 0 .any).ah),((a1_1.ix (2:Int)).getD 1 .any)],VI (IntKind.wrap .i64 (a2-1))] [.cells [((o54.hO).cs.getD 0 .any),VI (((o54.hO).cs.getD 1 .any).toInt)]] fun r55 o55=>.aj ((o55.hO)=.cells (o55.hO).cs)<|.aj (aK [.lk .sl,.lk (.int .i64)] ((o55.hO).cs) 0 1 o55.tail)<|NA r55<|.call 78 [VS (mk [112]),.sl [[VS ((r54.cs.getD 0 .any).ah),(r54.cs.getD 1 .any)],[VS ((r55.cs.getD 0 .any).ah),(r55.cs.getD 1 .any)]]] [] fun r56 o56=>NA r56<|.done 0 [.agg [VS ((r56.cs.getD 0 .any).ah),(r56.cs.getD 1 .any)]] [.cells [((o55.hO).cs.getD 0 .any),VI (((o55.hO).cs.getD 1 .any).toInt)]]) (.test (af r1.ah==af (mk [114,101,99])) (.call 110 [.agg [VS a1_0,a1_1]] [] fun r57 o57=>NT r57<|.aj ((r57.comp 0)=.agg (r57.comp 0).cs/\(r57.comp 0).cs.length=2/\cc [.str,.sl] ((r57.comp 0).cs) 0)<|NB (r57.comp 1)<|.test (!((r57.comp 1).toBool)) (.done 0 [.agg [VS (mk [117]),.v (.slice none 0 0)]] [.cells [a0_0,VI a0_1]]) (.test (decide (a2<((-12):Int))) (.done 0 [.agg [VS (mk [117]),.v (.slice none 0 0)]] [.cells [a0_0,VI a0_1]]) (.call 82 [.ref 0 0,.agg [VS (((r57.comp 0).cs.getD 0 .any).ah),((r57.comp 0).cs.getD 1 .any)],VI (IntKind.wrap .i64 (a2-1))] [.cells [a0_0,VI a0_1]] fun r58 o58=>.aj ((o58.hO)=.cells (o58.hO).cs)<|.aj (aK [.lk .sl,.lk (.int .i64)] ((o58.hO).cs) 0 1 o58.tail)<|NA r58<|.call 78 [VS (mk [102]),.sl [[VS ((r58.cs.getD 0 .any).ah),(r58.cs.getD 1 .any)]]] [] fun r59 o59=>NA r59<|.done 0 [.agg [VS ((r59.cs.getD 0 .any).ah),(r59.cs.getD 1 .any)]] [.cells [((o58.hO).cs.getD 0 .any),VI (((o58.hO).cs.getD 1 .any).toInt)]]))) (.test (af a1_0==af (mk [49])) (.done 0 [.agg [VS (mk [117]),.v (.slice none 0 0)]] [.cells [a0_0,VI a0_1]]) (.call 29 [.ref 0 0,VI 3] [.cells [a0_0,VI a0_1]] fun r60 o60=>.aj ((o60.hO)=.cells (o60.hO).cs)<|.aj (aK [.lk .sl,.lk (.int .i64)] ((o60.hO).cs) 0 1 o60.tail)<|NI r60<|.call 111 [VI r60.toInt] [] fun r61 o61=>NS r61<|.aj (ac (mk [101])+ac r61.ah<=9223372036854775807)<|.done 0 [.agg [VS (((mk [101]):ByteArray)++r61.ah),.v (.slice none 0 0)]] [.cells [((o60.hO).cs.getD 0 .any),VI (((o60.hO).cs.getD 1 .any).toInt)]]))))
theorem Co(a0_0:AV)(a0_1:Int)(a1_0:ByteArray)(a1_1:AV)(a2:Int)(ha1_1:LK.has .sl a1_1)(ha0_0:LK.has .sl a0_0)(h:dz 132 (Ad a0_0 a0_1 a1_0 a1_1 a2) R):ap Tryz.prog 82 [.ref 0 0,.agg [VS a1_0,a1_1],VI a2] [.cells [a0_0,VI a0_1]] R :=
 ap.nu (bi (bQ (ag (ca ha0_0) (ag (aA _) aE))) cm) (ap.up (ag (aA _) (ag (cF (ag (aA _) (ag (ca ha1_1) aE))) (ag (aA _) aE))) (oF [] {mu:=[(0,.one (.obj [.lk .sl,.lk (.int .i64)]))],own:=[]} Tryz.f82 h))
def FZ:LI:={hd:={bN:=[(1,.k .sl),(6,.k (.int .i64))],refs:=[(2,2),(4,4)],cg:=[(2,[.lk .str,.lk .sl]),(4,[.lk .str,.lk .sl])],dZ:=[(5,1)]},xs:={refs:=[(2,2),(4,4)],cg:=[(2,[.lk .str,.lk .sl]),(4,[.lk .str,.lk .sl])],dZ:=[(5,1)]},rt:={},ex:=0}
def LP:Code:=cz (ct Tryz.f83) 3
def JY:List (Nat×LI):=[(3,FZ)]
def L4(a0_0:ByteArray)(a0_1:AV)(a1:AV):Tree :=
 .call 98 [.agg [VS a0_0,a0_1],.sl [],.vec 0] [.vec 1 []] fun r1 o1=>.aj (r1=.vec 1/\(o1.tail.hO)=.vec 1 (o1.tail.hO).es)<|.loop LP FZ [a1,VI 0] [.cells [VS a0_0,a0_1],.cells [VS (mk []),.v (.slice none 0 0)],.vec 1 ((o1.tail.hO).es)] (fun y3 q3=>.aj ((q3.hO)=.cells (q3.hO).cs)<|.aj (ae [.lk .str,.lk .sl] ((q3.hO).cs) 0 q3.tail)<|.aj (((q3.tail.drop 0).hO)=.cells ((q3.tail.drop 0).hO).cs)<|.aj (ae [.lk .str,.lk .sl] (((q3.tail.drop 0).hO).cs) 0 ((q3.tail.drop 0).tail))<|.aj (((q3.drop 2).hO)=.vec 1 ((q3.drop 2).hO).es)<|.call 112 [.agg [VS (((q3.hO).cs.getD 0 .any).ah),((q3.hO).cs.getD 1 .any)],.sl [],.sl [],.ref 0 0] [.cells [.vec 1,VI 0],.vec 1 ((q3.tail.tail.hO).es)] fun r4 o4=>.aj ((o4.hO)=.cells (o4.hO).cs)<|.aj (aK [.vec 1,.lk (.int .i64)] ((o4.hO).cs) 0 1 o4.tail)<|NA r4<|.done 0 [.agg [VS ((r4.cs.getD 0 .any).ah),(r4.cs.getD 1 .any)]] []) (fun y3 q3=>.fail)
theorem N6(a0_0:ByteArray)(a0_1:AV)(a1:AV)(ha0_1:LK.has .sl a0_1)(ha1:LK.has .sl a1)(h:dz 33 (L4 a0_0 a0_1 a1) R):ap Tryz.prog 83 [.agg [VS a0_0,a0_1],a1] [] R :=
 uQ (ag (cF (ag (aA _) (ag (ca ha0_1) aE))) (ag (ca ha1) aE)) (oQ JY Tryz.f83 h)
def G2(x1:AV)(x6:Int)(o2_0:ByteArray)(o2_1:AV)(o4_0:ByteArray)(o4_1:AV)(e5:List (List AV)):Tree :=
 NL x1<|NI (VI x6)<|.aj (Ob.cells [VS o2_0,o2_1]=.cells [VS o2_0,o2_1])<|.aj (ae [.lk .str,.lk .sl] [VS o2_0,o2_1] 0 [.cells [VS o4_0,o4_1],.vec 1 e5])<|.aj (Ob.cells [VS o4_0,o4_1]=.cells [VS o4_0,o4_1])<|.aj (ae [.lk .str,.lk .sl] [VS o4_0,o4_1] 0 [.vec 1 e5])<|.aj (Ob.vec 1 e5=.vec 1 e5)<|NL x1<|.test (decide (x6<(x1.aO.length:Int))) (NG x1 x6 2<|NE (x1.ix x6)<|.call 98 [.agg [VS (((x1.ix x6).getD 0 .any).ah),((x1.ix x6).getD 1 .any)],.sl [],.vec 0] [.vec 1 []] fun r1 o1=>.aj (r1=.vec 1/\(o1.tail.hO)=.vec 1 (o1.tail.hO).es)<|.aj (bV 1 ((o1.tail.hO).es)/\((e5.length)+((o1.tail.hO).es).length)*16<=140737488355328)<|.done 0 [x1,VI (IntKind.wrap .i64 (x6+1))] [.cells [VS o2_0,o2_1],.cells [VS o4_0,o4_1],.vec 1 (e5++((o1.tail.hO).es))]) (.done 1 [] [.cells [VS o2_0,o2_1],.cells [VS o4_0,o4_1],.vec 1 e5])
abbrev FB:=cn Tryz.prog 33 LP FZ
theorem Ig(x1:AV)(x6:Int)(o2_0:ByteArray)(o2_1:AV)(o4_0:ByteArray)(o4_1:AV)(e5:List (List AV))(h:kk 33 (G2 x1 x6 o2_0 o2_1 o4_0 o4_1 e5) FB U):FB [x1,VI x6] [.cells [VS o2_0,o2_1],.cells [VS o4_0,o4_1],.vec 1 e5] U :=
 gQ JY h
def Kz(a0:ByteArray):Tree :=
 .call 113 [VS a0] [] fun r1 o1=>NP r1<|NP r1<|.test r1.isNil (.done 0 [.v (.pointer none)] []) (.call 114 [r1,.v (.slice none 0 0)] [] fun r2 o2=>NP r2<|NP r2<|.test r2.isNil (.done 0 [.v (.pointer none)] []) (.call 115 [r2] [] fun r3 o3=>NI r3<|.test (decide (r3.toInt>(400:Int))) (.done 0 [.v (.pointer none)] []) (.done 0 [r2] [])))
theorem Qz(a0:ByteArray)(h:dz 19 (Kz a0) R):ap Tryz.prog 84 [VS a0] [] R :=
 uQ (ag (aA _) aE) (oQ [] Tryz.f84 h)
def MG(a0:AV):Tree :=
 .call 116 [.ref 0 0] [.cells [VI 0,VB false]] fun r1 o1=>.aj ((o1.hO)=.cells (o1.hO).cs)<|.aj (aK [.lk (.int .i64),.lk .bool] ((o1.hO).cs) 0 1 o1.tail)<|NS r1<|NZ a0<|NZ a0<|eE (a0.deref.drop 3)<|.call 119 [((a0.deref.drop 3).hA),.ptr [.v (.int .u8 110),VS r1.ah,VI 0,.v (.pointer none),.v (.pointer none)],VI 0] [] fun r2 o2=>NP r2<|.call 118 [.ref 0 0,r2,VS r1.ah] [.cells [VI (((o1.hO).cs.getD 0 .any).toInt),VB (((o1.hO).cs.getD 1 .any).toBool)]] fun r3 o3=>.aj ((o3.hO)=.cells (o3.hO).cs)<|.aj (aK [.lk (.int .i64),.lk .bool] ((o3.hO).cs) 0 1 o3.tail)<|NP r3<|.call 117 [.ref 0 0,r3] [.cells [VI (((o3.hO).cs.getD 0 .any).toInt),VB (((o3.hO).cs.getD 1 .any).toBool)]] fun r4 o4=>.aj ((o4.hO)=.cells (o4.hO).cs)<|.aj (aK [.lk (.int .i64),.lk .bool] ((o4.hO).cs) 0 1 o4.tail)<|NP r4<|.test (((o4.hO).cs.getD 1 .any).toBool) (.done 0 [.cQ [.v (.pointer none),VB false]] []) (.call 120 [r4,VS r1.ah,a0] [] fun r5 o5=>NP r5<|.call 117 [.ref 0 0,r5] [.cells [VI (((o4.hO).cs.getD 0 .any).toInt),VB (((o4.hO).cs.getD 1 .any).toBool)]] fun r6 o6=>.aj ((o6.hO)=.cells (o6.hO).cs)<|.aj (aK [.lk (.int .i64),.lk .bool] ((o6.hO).cs) 0 1 o6.tail)<|NP r6<|.done 0 [.cQ [r6,VB (!(((o6.hO).cs.getD 1 .any).toBool))]] [])
theorem Qk(a0:AV)(ha0:LK.has .ptr a0)(h:dz 40 (MG a0) R):ap Tryz.prog 85 [a0] [] R :=
 uQ (ag (bD ha0) aE) (oQ [] Tryz.f85 h)
def Lh(a0:AV):Tree :=
 .call 115 [a0] [] fun r1 o1=>NI r1<|.test (decide (r1.toInt>(400:Int))) (.done 0 [.cQ [VS (mk []),VB false]] []) (.call 121 [a0] [] fun r2 o2=>NS r2<|.call 84 [VS r2.ah] [] fun r3 o3=>NP r3<|NP r3<|.test r3.isNil (.done 0 [.cQ [VS (mk []),VB false]] []) (.done 0 [.cQ [VS r2.ah,VB true]] []))
theorem Qf(a0:AV)(ha0:LK.has .ptr a0)(h:dz 14 (Lh a0) R):ap Tryz.prog 86 [a0] [] R :=
 uQ (ag (bD ha0) aE) (oQ [] Tryz.f86 h)
def Md(a0:ByteArray):Tree :=
 .call 84 [VS a0] [] fun r1 o1=>NP r1<|NP r1<|.test r1.isNil (.done 0 [.v (.pointer none)] []) (.call 122 [r1] [] fun r2 o2=>NB r2<|.test (!r2.toBool) (.done 0 [.v (.pointer none)] []) (.done 0 [r1] []))
theorem Ok(a0:ByteArray)(h:dz 14 (Md a0) R):ap Tryz.prog 87 [VS a0] [] R :=
 uQ (ag (aA _) aE) (oQ [] Tryz.f87 h)
def Ld(a0:ByteArray):Tree :=
 .call 113 [VS a0] [] fun r1 o1=>NP r1<|NP r1<|.test r1.isNil (.done 0 [.v (.pointer none)] []) (.call 123 [r1] [] fun r2 o2=>NP r2<|NP r2<|.test r2.isNil (.done 0 [.v (.pointer none)] []) (.call 56 [r2] [] fun r3 o3=>NI r3<|.test (decide (r3.toInt>(200:Int))) (.done 0 [.v (.pointer none)] []) (.done 0 [r2] [])))
theorem PZ(a0:ByteArray)(h:dz 19 (Ld a0) R):ap Tryz.prog 88 [VS a0] [] R :=
 uQ (ag (aA _) aE) (oQ [] Tryz.f88 h)
def zM(a0_0:AV)(a0_1:AV)(a1:AV)(a2:Int):Tree :=
 NZ a0_0<|NZ a0_0<|.aj (LK.has (.int .u8) (a0_0.deref.hA)/\1<=a0_0.deref.length)<|.test (((a0_0.deref.hA).toInt)==(49:Int)) (NZ a1<|NZ a1<|.aj (LK.has (.int .u8) (a1.deref.hA)/\1<=a1.deref.length)<|.done 0 [VB (((a1.deref.hA).toInt)==(117:Int))] []) (.test (((a0_0.deref.hA).toInt)==(110:Int)) (NZ a1<|NZ a1<|.aj (LK.has (.int .u8) (a1.deref.hA)/\1<=a1.deref.length)<|.test (((a1.deref.hA).toInt) != (101:Int)) (.done 0 [VB false] []) (NZ a1<|NZ a1<|mG (a1.deref.drop 1)<|.aj (0<=(1:Int)/\(1:Int)<=(ac (((a1.deref.drop 1).hA).ah):Int)/\(ac (((a1.deref.drop 1).hA).ah):Int)<=(ac (((a1.deref.drop 1).hA).ah):Int))<|.call 124 [VS (bX (((a1.deref.drop 1).hA).ah) (bT 1) (bT (ac (((a1.deref.drop 1).hA).ah):Int)))] [] fun r1 o1=>NT r1<|NI (r1.comp 0)<|.aj (LK.has .ke (r1.comp 1))<|.done 0 [VB (decide (((r1.comp 0).toInt)<a2))] [])) (.test (((a0_0.deref.hA).toInt)==(98:Int)) (.call 125 [.agg [a0_0,a0_1]] [] fun r2 o2=>NP r2<|NZ r2<|NZ r2<|.aj (cc [.ptr,.ptr] r2.deref 0/\2<=r2.deref.length)<|.call 89 [.agg [(r2.deref.getD 0 .any),(r2.deref.getD 1 .any)],a1,VI a2] [] fun r3 o3=>NB r3<|.done 0 [VB r3.toBool] []) (.test (((a0_0.deref.hA).toInt)==(43:Int)) (NZ a1<|NZ a1<|.aj (LK.has (.int .u8) (a1.deref.hA)/\1<=a1.deref.length)<|.test (((a1.deref.hA).toInt)==(108:Int)) (.call 126 [.agg [a0_0,a0_1]] [] fun r4 o4=>.aj (r4=.agg r4.cs/\r4.cs.length=2/\cc [.ptr,.ptr] r4.cs 0)<|NZ a1<|NZ a1<|eE (a1.deref.drop 2)<|.call 89 [.agg [(r4.cs.getD 0 .any),(r4.cs.getD 1 .any)],((a1.deref.drop 2).hA),VI a2] [] fun r5 o5=>NB r5<|.test r5.toBool (.done 0 [VB true] []) (NZ a1<|NZ a1<|.aj (LK.has (.int .u8) (a1.deref.hA)/\1<=a1.deref.length)<|.test (((a1.deref.hA).toInt)==(114:Int)) (.call 127 [.agg [a0_0,a0_1]] [] fun r6 o6=>.aj (r6=.agg r6.cs/\r6.cs.length=2/\cc [.ptr,.ptr] r6.cs 0)<|NZ a1<|NZ a1<|eE (a1.deref.drop 2)<|.call 89 [.agg [(r6.cs.getD 0 .any),(r6.cs.getD 1 .any)],((a1.deref.drop 2).hA),VI a2] [] fun r7 o7=>NB r7<|.done 0 [VB r7.toBool] []) (.done 0 [VB false] []))) (NZ a1<|NZ a1<|.aj (LK.has (.int .u8) (a1.deref.hA)/\1<=a1.deref.length)<|.test (((a1.deref.hA).toInt)==(114:Int)) (.call 127 [.agg [a0_0,a0_1]] [] fun r8 o8=>.aj (r8=.agg r8.cs/\r8.cs.length=2/\cc [.ptr,.ptr] r8.cs 0)<|NZ a1<|NZ a1<|eE (a1.deref.drop 2)<|.call 89 [.agg [(r8.cs.getD 0 .any),(r8.cs.getD 1 .any)],((a1.deref.drop 2).hA),VI a2] [] fun r9 o9=>NB r9<|.done 0 [VB r9.toBool] []) (.done 0 [VB false] []))) (.test (((a0_0.deref.hA).toInt)==(42:Int)) (NZ a1<|NZ a1<|.aj (LK.has (.int .u8) (a1.deref.hA)/\1<=a1.deref.length)<|.test (((a1.deref.hA).toInt)==(112:Int)) (.call 126 [.agg [a0_0,a0_1]] [] fun r10 o10=>.aj (r10=.agg r10.cs/\r10.cs.length=2/\cc [.ptr,.ptr] r10.cs 0)<|NZ a1<|NZ a1<|eE (a1.deref.drop 2)<|.call 89 [.agg [(r10.cs.getD 0 .any),(r10.cs.getD 1 .any)],((a1.deref.drop 2).hA),VI a2] [] fun r11 o11=>NB r11<|.test r11.toBool (.call 127 [.agg [a0_0,a0_1]] [] fun r12 o12=>.aj (r12=.agg r12.cs/\r12.cs.length=2/\cc [.ptr,.ptr] r12.cs 0)<|NZ a1<|NZ a1<|eE (a1.deref.drop 3)<|.call 89 [.agg [(r12.cs.getD 0 .any),(r12.cs.getD 1 .any)],((a1.deref.drop 3).hA),VI a2] [] fun r13 o13=>NB r13<|.done 0 [VB r13.toBool] []) (.done 0 [VB false] [])) (.done 0 [VB false] [])) (.test (((a0_0.deref.hA).toInt)==(114:Int)) (.call 90 [.agg [a0_0,a0_1]] [] fun r14 o14=>NT r14<|.aj ((r14.comp 0)=.agg (r14.comp 0).cs/\(r14.comp 0).cs.length=2/\cc [.ptr,.ptr] ((r14.comp 0).cs) 0)<|NP (r14.comp 1)<|NZ a1<|NZ a1<|.aj (LK.has (.int .u8) (a1.deref.hA)/\1<=a1.deref.length)<|.test (((a1.deref.hA).toInt)==(102:Int)) (NZ a1<|NZ a1<|eE (a1.deref.drop 2)<|.call 89 [.agg [((r14.comp 0).cs.getD 0 .any),((r14.comp 0).cs.getD 1 .any)],((a1.deref.drop 2).hA),VI a2] [] fun r15 o15=>NB r15<|.done 0 [VB r15.toBool] []) (.done 0 [VB false] [])) (.done 0 [VB false] []))))))
theorem IX(a0_0:AV)(a0_1:AV)(a1:AV)(a2:Int)(ha0_0:LK.has .ptr a0_0)(ha0_1:LK.has .ptr a0_1)(ha1:LK.has .ptr a1)(h:dz 134 (zM a0_0 a0_1 a1 a2) R):ap Tryz.prog 89 [.agg [a0_0,a0_1],a1,VI a2] [] R :=
 uQ (ag (cF (ag (bD ha0_0) (ag (bD ha0_1) aE))) (ag (bD ha1) (ag (aA _) aE))) (oQ [] Tryz.f89 h)
def Ku(a0_0:AV)(a0_1:AV):Tree :=
 NZ a0_0<|NZ a0_0<|eE (a0_0.deref.drop 3)<|.done 0 [.cQ [.agg [((a0_0.deref.drop 3).hA),.ptr [.ptr [a0_0,a0_1],a0_1]],.ptr [a0_0,a0_1]]] []
theorem QG(a0_0:AV)(a0_1:AV)(ha0_0:LK.has .ptr a0_0)(ha0_1:LK.has .ptr a0_1)(h:dz 20 (Ku a0_0 a0_1) R):ap Tryz.prog 90 [.agg [a0_0,a0_1]] [] R :=
 uQ (ag (cF (ag (bD ha0_0) (ag (bD ha0_1) aE))) aE) (oQ [] Tryz.f90 h)
def Hp:LI:={hd:={bN:=[(97,.k .sl),(98,.k (.int .i64)),(99,.k (.int .i64))],refs:=[(3,3),(5,5),(7,7)],cg:=[(3,[.lk .ptr,.lk .ptr]),(5,[.lk .str,.lk .ptr]),(7,[.vec 2])],By:=[(8,129,[7])]},xs:={refs:=[(7,7)],cg:=[(7,[.vec 2])]},rt:={},ex:=1}
def J4:Code:=cz (ct Tryz.f91) 18
def Nh:List (Nat×LI):=[(18,Hp)]
def I0(a0_0:AV)(a0_1:AV)(a1:AV)(a2_0:ByteArray)(a2_1:AV):Tree :=
 .call 128 [.agg [VS a2_0,a2_1],.agg [a0_0,a0_1]] [] fun r1 o1=>NB r1<|.test r1.toBool (.done 0 [.sl [[.ptr [.v (.int .u8 117),VS (mk []),.v (.pointer none),.v (.pointer none)],a1]]] []) (NZ a0_0<|NZ a0_0<|.aj (LK.has (.int .u8) (a0_0.deref.hA)/\1<=a0_0.deref.length)<|.test (((a0_0.deref.hA).toInt)==(43:Int)) (.call 126 [.agg [a0_0,a0_1]] [] fun r2 o2=>.aj (r2=.agg r2.cs/\r2.cs.length=2/\cc [.ptr,.ptr] r2.cs 0)<|NZ a1<|NZ a1<|.aj (LK.has (.int .u8) (a1.deref.hA)/\1<=a1.deref.length)<|.test (((a1.deref.hA).toInt)==(114:Int)) (.call 127 [.agg [a0_0,a0_1]] [] fun r3 o3=>.aj (r3=.agg r3.cs/\r3.cs.length=2/\cc [.ptr,.ptr] r3.cs 0)<|NZ a1<|NZ a1<|eE (a1.deref.drop 2)<|.call 91 [.agg [(r3.cs.getD 0 .any),(r3.cs.getD 1 .any)],((a1.deref.drop 2).hA),.agg [VS a2_0,a2_1]] [] fun r4 o4=>NL r4<|.call 129 [r4,.fn 130 [.ref 0 0],.ref 1 0] [.cells [a1],.cells [.vec 2],.vec 2 []] fun r5 o5=>.aj ((o5.hO)=.cells (o5.hO).cs)<|.aj (aK [.lk .ptr] ((o5.hO).cs) 0 1 o5.tail)<|.aj ((o5.tail.hO)=.cells (o5.tail.hO).cs)<|.aj (aK [.vec 2] ((o5.tail.hO).cs) 0 2 o5.tail.tail)<|.done 0 [.sl ((o5.tail.tail.hO).es)] []) (NZ a1<|NZ a1<|eE (a1.deref.drop 2)<|.call 91 [.agg [(r2.cs.getD 0 .any),(r2.cs.getD 1 .any)],((a1.deref.drop 2).hA),.agg [VS a2_0,a2_1]] [] fun r6 o6=>NL r6<|.call 129 [r6,.fn 130 [.ref 0 0],.ref 1 0] [.cells [a1],.cells [.vec 2],.vec 2 []] fun r7 o7=>.aj ((o7.hO)=.cells (o7.hO).cs)<|.aj (aK [.lk .ptr] ((o7.hO).cs) 0 1 o7.tail)<|.aj ((o7.tail.hO)=.cells (o7.tail.hO).cs)<|.aj (aK [.vec 2] ((o7.tail.hO).cs) 0 2 o7.tail.tail)<|.done 0 [.sl ((o7.tail.tail.hO).es)] [])) (.test (((a0_0.deref.hA).toInt)==(42:Int)) (.call 126 [.agg [a0_0,a0_1]] [] fun r8 o8=>.aj (r8=.agg r8.cs/\r8.cs.length=2/\cc [.ptr,.ptr] r8.cs 0)<|NZ a1<|NZ a1<|eE (a1.deref.drop 2)<|.call 91 [.agg [(r8.cs.getD 0 .any),(r8.cs.getD 1 .any)],((a1.deref.drop 2).hA),.agg [VS a2_0,a2_1]] [] fun r9 o9=>NL r9<|.call 129 [r9,.fn 131 [.ref 0 0],.ref 1 0] [.cells [a1],.cells [.vec 2],.vec 2 []] fun r10 o10=>.aj ((o10.hO)=.cells (o10.hO).cs)<|.aj (aK [.lk .ptr] ((o10.hO).cs) 0 1 o10.tail)<|.aj ((o10.tail.hO)=.cells (o10.tail.hO).cs)<|.aj (aK [.vec 2] ((o10.tail.hO).cs) 0 2 o10.tail.tail)<|.call 127 [.agg [a0_0,a0_1]] [] fun r11 o11=>.aj (r11=.agg r11.cs/\r11.cs.length=2/\cc [.ptr,.ptr] r11.cs 0)<|NZ ((o10.hO).cs.getD 0 .any)<|NZ ((o10.hO).cs.getD 0 .any)<|eE (((o10.hO).cs.getD 0 .any).deref.drop 3)<|.call 91 [.agg [(r11.cs.getD 0 .any),(r11.cs.getD 1 .any)],((((o10.hO).cs.getD 0 .any).deref.drop 3).hA),.agg [VS a2_0,a2_1]] [] fun r12 o12=>NL r12<|.call 129 [r12,.fn 133 [.ref 0 0],.ref 1 0] [.cells [((o10.hO).cs.getD 0 .any)],.cells [.vec 2],.vec 2 ((o10.tail.tail.hO).es)] fun r13 o13=>.aj ((o13.hO)=.cells (o13.hO).cs)<|.aj (aK [.lk .ptr] ((o13.hO).cs) 0 1 o13.tail)<|.aj ((o13.tail.hO)=.cells (o13.tail.hO).cs)<|.aj (aK [.vec 2] ((o13.tail.hO).cs) 0 2 o13.tail.tail)<|.done 0 [.sl ((o13.tail.tail.hO).es)] []) (.test (((a0_0.deref.hA).toInt)==(114:Int)) (.call 90 [.agg [a0_0,a0_1]] [] fun r14 o14=>NT r14<|.aj ((r14.comp 0)=.agg (r14.comp 0).cs/\(r14.comp 0).cs.length=2/\cc [.ptr,.ptr] ((r14.comp 0).cs) 0)<|NP (r14.comp 1)<|NZ a1<|NZ a1<|eE (a1.deref.drop 2)<|.call 91 [.agg [((r14.comp 0).cs.getD 0 .any),((r14.comp 0).cs.getD 1 .any)],((a1.deref.drop 2).hA),.agg [VS a2_0,a2_1]] [] fun r15 o15=>NL r15<|.call 129 [r15,.v (.func (.func 134) #[] #[]),.ref 0 0] [.cells [.vec 1],.vec 2 []] fun r16 o16=>.aj ((o16.hO)=.cells (o16.hO).cs)<|.aj (aK [.vec 2] ((o16.hO).cs) 0 1 o16.tail)<|NZ a1<|NZ a1<|eE (a1.deref.drop 2)<|.call 91 [.agg [((r14.comp 0).cs.getD 0 .any),((r14.comp 0).cs.getD 1 .any)],((a1.deref.drop 2).hA),.agg [VS (mk []),(r14.comp 1)]] [] fun r17 o17=>NL r17<|NL r17<|.loop J4 Hp [r17,VI (r17.aO.length:Int),VI 0] [.cells [a0_0,a0_1],.cells [VS a2_0,a2_1],.cells [.any],.vec 2 ((o16.tail.hO).es)] (fun y20 q20=>.aj ((q20.hO)=.cells (q20.hO).cs)<|.aj (ae [.vec 2] ((q20.hO).cs) 0 q20.tail)<|.done 0 [.sl ((q20.tail.hO).es)] []) (fun y20 q20=>.done 0 [.any] [])) (.done 0 [.sl []] []))))
theorem PC(a0_0:AV)(a0_1:AV)(a1:AV)(a2_0:ByteArray)(a2_1:AV)(ha0_0:LK.has .ptr a0_0)(ha0_1:LK.has .ptr a0_1)(ha1:LK.has .ptr a1)(ha2_1:LK.has .ptr a2_1)(h:dz 113 (I0 a0_0 a0_1 a1 a2_0 a2_1) R):ap Tryz.prog 91 [.agg [a0_0,a0_1],a1,.agg [VS a2_0,a2_1]] [] R :=
 uQ (ag (cF (ag (bD ha0_0) (ag (bD ha0_1) aE))) (ag (bD ha1) (ag (cF (ag (aA _) (ag (bD ha2_1) aE))) aE))) (oQ Nh Tryz.f91 h)
def GV(x97:AV)(x98:Int)(x99:Int)(o3_0:AV)(o3_1:AV)(o5_0:ByteArray)(o5_1:AV)(o7_0:List (List AV)):Tree :=
 NL x97<|NI (VI x98)<|NI (VI x99)<|.aj (Ob.cells [o3_0,o3_1]=.cells [o3_0,o3_1])<|.aj (ae [.lk .ptr,.lk .ptr] [o3_0,o3_1] 0 [.cells [VS o5_0,o5_1],.cells [.any],.vec 2 o7_0])<|.aj (Ob.cells [VS o5_0,o5_1]=.cells [VS o5_0,o5_1])<|.aj (ae [.lk .str,.lk .ptr] [VS o5_0,o5_1] 0 [.cells [.any],.vec 2 o7_0])<|.aj (Ob.cells [.any]=.cells [.any])<|.aj (ae [.vec 2] [.any] 0 [.vec 2 o7_0])<|.test (decide (x99<x98)) (NG x97 x99 2<|.aj (cc [.ptr,.ptr] (x97.ix x99) 0/\2<=(x97.ix x99).length)<|.call 91 [.agg [o3_0,o3_1],((x97.ix x99).getD 1 .any),.agg [VS o5_0,o5_1]] [] fun r1 o1=>NL r1<|.call 129 [r1,.fn 135 [.ref 0 0],.ref 1 0] [.cells [((x97.ix x99).getD 0 .any),((x97.ix x99).getD 1 .any)],.cells [.vec 2],.vec 2 o7_0] fun r2 o2=>.aj ((o2.hO)=.cells (o2.hO).cs)<|.aj (aK [.lk .ptr,.lk .ptr] ((o2.hO).cs) 0 1 o2.tail)<|.aj ((o2.tail.hO)=.cells (o2.tail.hO).cs)<|.aj (aK [.vec 2] ((o2.tail.hO).cs) 0 2 o2.tail.tail)<|.done 0 [x97,VI x98,VI (IntKind.wrap .i64 (x99+1))] [.cells [o3_0,o3_1],.cells [VS o5_0,o5_1],.cells [.any],.vec 2 ((o2.tail.tail.hO).es)]) (.done 1 [] [.cells [.any],.vec 2 o7_0])
abbrev E6:=cn Tryz.prog 113 J4 Hp
theorem Ks(x97:AV)(x98:Int)(x99:Int)(o3_0:AV)(o3_1:AV)(o5_0:ByteArray)(o5_1:AV)(o7_0:List (List AV))(h:kk 113 (GV x97 x98 x99 o3_0 o3_1 o5_0 o5_1 o7_0) E6 U):E6 [x97,VI x98,VI x99] [.cells [o3_0,o3_1],.cells [VS o5_0,o5_1],.cells [.any],.vec 2 o7_0] U :=
 gQ Nh h
def JJ(a0:Int)(a1:AV):Tree :=
 .done 0 [.ptr [.v (.int .u8 a0),VS (mk []),a1,.v (.pointer none)]] []
theorem OE(a0:Int)(a1:AV)(ha1:LK.has .ptr a1)(h:dz 9 (JJ a0 a1) R):ap Tryz.prog 95 [.v (.int .u8 a0),a1] [] R :=
 uQ (ag (aA _) (ag (bD ha1) aE)) (oQ [] Tryz.f95 h)
def K8(a0:ByteArray):Tree :=
 .call 73 [VS a0] [] fun r1 o1=>NT r1<|.aj ((r1.comp 0)=.agg (r1.comp 0).cs/\(r1.comp 0).cs.length=2/\cc [.str,.sl] ((r1.comp 0).cs) 0)<|NB (r1.comp 1)<|.test ((r1.comp 1).toBool) (.call 138 [.agg [VS (((r1.comp 0).cs.getD 0 .any).ah),((r1.comp 0).cs.getD 1 .any)]] [] fun r2 o2=>NB r2<|.test r2.toBool (.call 109 [.agg [VS (((r1.comp 0).cs.getD 0 .any).ah),((r1.comp 0).cs.getD 1 .any)]] [] fun r3 o3=>NI r3<|.done 0 [.cQ [.agg [VS (((r1.comp 0).cs.getD 0 .any).ah),((r1.comp 0).cs.getD 1 .any)],VB (decide (r3.toInt<=(400:Int)))]] []) (.done 0 [.cQ [.agg [VS (((r1.comp 0).cs.getD 0 .any).ah),((r1.comp 0).cs.getD 1 .any)],VB false]] [])) (.done 0 [.cQ [.agg [VS (((r1.comp 0).cs.getD 0 .any).ah),((r1.comp 0).cs.getD 1 .any)],VB false]] [])
theorem Pv(a0:ByteArray)(h:dz 22 (K8 a0) R):ap Tryz.prog 97 [VS a0] [] R :=
 uQ (ag (aA _) aE) (oQ [] Tryz.f97 h)
def wN(a0_0:ByteArray)(a0_1:AV)(a1:AV)(e2:List (List AV)):Tree :=
 .test (!(af a0_0==af (mk []))) (.test (af a0_0==af (mk [48])) (.done 0 [.vec 1] [.dead,.vec 1 e2]) (.test (af a0_0==af (mk [49])) (.done 0 [.vec 1] [.dead,.vec 1 e2]) (.call 139 [a1,VS a0_0] [] fun r1 o1=>NB r1<|.test r1.toBool (.done 0 [.vec 1] [.dead,.vec 1 e2]) (.call 139 [.sl e2,VS a0_0] [] fun r2 o2=>NB r2<|.test r2.toBool (.done 0 [.vec 1] [.dead,.vec 1 e2]) (.aj (bV 1 [[VS a0_0]]/\((e2.length)+([[VS a0_0]]:List (List AV)).length)*16<=140737488355328)<|.done 0 [.vec 1] [.dead,.vec 1 (e2++([[VS a0_0]]:List (List AV)))]))))) (.call 71 [.agg [VS a0_0,a0_1]] [] fun r3 o3=>NS r3<|.test (af r3.ah==af (mk [114,101,99])) (NG a0_1 2 2<|NE (a0_1.ix (2:Int))<|NG a0_1 1 2<|mG (a0_1.ix (1:Int))<|.call 61 [a1,VS (((a0_1.ix (1:Int)).hA).ah)] [] fun r4 o4=>NL r4<|.call 98 [.agg [VS (((a0_1.ix (2:Int)).getD 0 .any).ah),((a0_1.ix (2:Int)).getD 1 .any)],r4,.vec 0] [.vec 1 e2] fun r5 o5=>.aj (r5=.vec 1/\(o5.tail.hO)=.vec 1 (o5.tail.hO).es)<|.done 0 [.vec 1] [.dead,.vec 1 ((o5.tail.hO).es)]) (NG a0_1 2 2<|NE (a0_1.ix (2:Int))<|NG a0_1 1 2<|NE (a0_1.ix (1:Int))<|.call 98 [.agg [VS (((a0_1.ix (1:Int)).getD 0 .any).ah),((a0_1.ix (1:Int)).getD 1 .any)],a1,.vec 0] [.vec 1 e2] fun r6 o6=>.aj (r6=.vec 1/\(o6.tail.hO)=.vec 1 (o6.tail.hO).es)<|.call 98 [.agg [VS (((a0_1.ix (2:Int)).getD 0 .any).ah),((a0_1.ix (2:Int)).getD 1 .any)],a1,.vec 0] [.vec 1 ((o6.tail.hO).es)] fun r7 o7=>.aj (r7=.vec 1/\(o7.tail.hO)=.vec 1 (o7.tail.hO).es)<|.done 0 [.vec 1] [.dead,.vec 1 ((o7.tail.hO).es)]))
theorem zm(a0_0:ByteArray)(a0_1:AV)(a1:AV)(e2:List (List AV))(ha0_1:LK.has .sl a0_1)(ha1:LK.has .sl a1)(h:dz 65 (wN a0_0 a0_1 a1 e2) R):ap Tryz.prog 98 [.agg [VS a0_0,a0_1],a1,.vec 0] [.vec 1 e2] R :=
 ap.nu (bi (fg _) cm) (ap.up (ag (cF (ag (aA _) (ag (ca ha0_1) aE))) (ag (ca ha1) (ag (aA _) aE))) (oF [] {mu:=[(2,.one (.vec))],own:=[0]} Tryz.f98 h))
def Jk(a0:ByteArray):Tree :=
 .call 140 [VS a0,.v (.int .u8 116),.v (.int .u8 116)] [] fun r1 o1=>NB r1<|.done 0 [VB r1.toBool] []
theorem Px(a0:ByteArray)(h:dz 5 (Jk a0) R):ap Tryz.prog 99 [VS a0] [] R :=
 uQ (ag (aA _) aE) (oQ [] Tryz.f99 h)
def Ff:LI:={hd:={bN:=[(1,.k .sl),(6,.k (.int .i64))],refs:=[(2,2),(4,4)],cg:=[(2,[.lk .str,.lk .sl]),(4,[.lk .str,.lk .sl])]},xs:={bN:=[(1,.k .sl)],refs:=[(2,2),(4,4)],cg:=[(2,[.lk .str,.lk .sl]),(4,[.lk .str,.lk .sl])]},rt:={bN:=[(5,.k .sl)],refs:=[(4,4)],cg:=[(4,[.lk .str,.lk .sl])]},ex:=0}
def KU:Code:=cz (ct Tryz.f100) 2
def Kt:List (Nat×LI):=[(2,Ff)]
def KQ(a0_0:ByteArray)(a0_1:AV)(a1:AV):Tree :=
 NL a1<|.loop KU Ff [a1,VI (IntKind.wrap .i64 ((a1.aO.length:Int)-1))] [.cells [VS a0_0,a0_1],.cells [VS (mk []),.v (.slice none 0 0)]] (fun y1 q1=>NL (y1.hA)<|.aj ((q1.hO)=.cells (q1.hO).cs)<|.aj (ae [.lk .str,.lk .sl] ((q1.hO).cs) 0 q1.tail)<|.aj (((q1.tail.drop 0).hO)=.cells ((q1.tail.drop 0).hO).cs)<|.aj (ae [.lk .str,.lk .sl] (((q1.tail.drop 0).hO).cs) 0 ((q1.tail.drop 0).tail))<|.done 0 [.cQ [.agg [VS (((q1.hO).cs.getD 0 .any).ah),((q1.hO).cs.getD 1 .any)],(y1.hA)]] []) (fun y1 q1=>NL (y1.hA)<|.aj ((q1.hO)=.cells (q1.hO).cs)<|.aj (ae [.lk .str,.lk .sl] ((q1.hO).cs) 0 q1.tail)<|.done 0 [.cQ [.agg [VS (((q1.hO).cs.getD 0 .any).ah),((q1.hO).cs.getD 1 .any)],(y1.hA)]] [])
theorem ND(a0_0:ByteArray)(a0_1:AV)(a1:AV)(ha0_1:LK.has .sl a0_1)(ha1:LK.has .sl a1)(h:dz 34 (KQ a0_0 a0_1 a1) R):ap Tryz.prog 100 [.agg [VS a0_0,a0_1],a1] [] R :=
 uQ (ag (cF (ag (aA _) (ag (ca ha0_1) aE))) (ag (ca ha1) aE)) (oQ Kt Tryz.f100 h)
def G7(x1:AV)(x6:Int)(o2_0:ByteArray)(o2_1:AV)(o4_0:ByteArray)(o4_1:AV):Tree :=
 NL x1<|NI (VI x6)<|.aj (Ob.cells [VS o2_0,o2_1]=.cells [VS o2_0,o2_1])<|.aj (ae [.lk .str,.lk .sl] [VS o2_0,o2_1] 0 [.cells [VS o4_0,o4_1]])<|.aj (Ob.cells [VS o4_0,o4_1]=.cells [VS o4_0,o4_1])<|.aj (ae [.lk .str,.lk .sl] [VS o4_0,o4_1] 0 [])<|.test (decide (x6≥(0:Int))) (NG x1 x6 4<|mG (x1.ix x6)<|.test (af (((x1.ix x6).hA).ah)==af o2_0) (NG x1 x6 4<|NE ((x1.ix x6).drop 1)<|NG x1 x6 4<|qg ((x1.ix x6).drop 3)<|.done 2 [(((x1.ix x6).drop 3).hA)] [.cells [VS ((((x1.ix x6).drop 1).getD 0 .any).ah),(((x1.ix x6).drop 1).getD 1 .any)]]) (.done 0 [x1,VI (IntKind.wrap .i64 (x6-1))] [.cells [VS o2_0,o2_1],.cells [VS o4_0,o4_1]])) (.done 1 [x1] [.cells [VS o2_0,o2_1],.cells [VS o4_0,o4_1]])
abbrev Er:=cn Tryz.prog 34 KU Ff
theorem Iz(x1:AV)(x6:Int)(o2_0:ByteArray)(o2_1:AV)(o4_0:ByteArray)(o4_1:AV)(h:kk 34 (G7 x1 x6 o2_0 o2_1 o4_0 o4_1) Er U):Er [x1,VI x6] [.cells [VS o2_0,o2_1],.cells [VS o4_0,o4_1]] U :=
 gQ Kt h
def Lp(a0:ByteArray):Tree :=
 .call 140 [VS a0,.v (.int .u8 120),.v (.int .u8 122)] [] fun r1 o1=>NB r1<|.done 0 [VB r1.toBool] []
theorem OA(a0:ByteArray)(h:dz 5 (Lp a0) R):ap Tryz.prog 101 [VS a0] [] R :=
 uQ (ag (aA _) aE) (oQ [] Tryz.f101 h)
def BL:LI:={hd:={bN:=[(0,.k .str),(3,.k (.int .i64)),(4,.k (.int .i64))]},xs:={bN:=[(3,.k (.int .i64))]},rt:={bN:=[(2,.k (.int .i64))]},ex:=0}
def Ck:Code:=cz (ct Tryz.f102) 5
def HZ:List (Nat×LI):=[(5,BL)]
def M9(a0:ByteArray):Tree :=
 .call 60 [VI (ac a0:Int),VI 2,VI 3] [] fun r1 o1=>NB r1<|.test (!r1.toBool) (.done 0 [VI (-1)] []) (.aj (0<=(0:Int)/\(0:Int)<ac a0)<|.test ((bt a0 0) != (101:Int)) (.done 0 [VI (-1)] []) (.test ((ac a0:Int)==(3:Int)) (.aj (0<=(1:Int)/\(1:Int)<ac a0)<|.test ((bt a0 1)==(48:Int)) (.done 0 [VI (-1)] []) (.loop Ck BL [VS a0,VI 0,VI 1] [] (fun y2 q2=>NI (y2.hA)<|.done 0 [VI ((y2.hA).toInt)] []) (fun y2 q2=>NI (y2.hA)<|.done 0 [VI ((y2.hA).toInt)] []))) (.loop Ck BL [VS a0,VI 0,VI 1] [] (fun y3 q3=>NI (y3.hA)<|.done 0 [VI ((y3.hA).toInt)] []) (fun y3 q3=>NI (y3.hA)<|.done 0 [VI ((y3.hA).toInt)] []))))
theorem P0(a0:ByteArray)(h:dz 49 (M9 a0) R):ap Tryz.prog 102 [VS a0] [] R :=
 uQ (ag (aA _) aE) (oQ HZ Tryz.f102 h)
def Ft(x0:ByteArray)(x3:Int)(x4:Int):Tree :=
 NS (VS x0)<|NI (VI x3)<|NI (VI x4)<|.test (decide (x4<(ac x0:Int))) (.aj (0<=x4/\x4<ac x0)<|.test (decide ((bt x0 x4)<(48:Int))) (.done 2 [VI (-1)] []) (.aj (0<=x4/\x4<ac x0)<|.test (decide ((bt x0 x4)>(57:Int))) (.done 2 [VI (-1)] []) (.aj (0<=x4/\x4<ac x0)<|.done 0 [VS x0,VI (IntKind.wrap .i64 ((IntKind.wrap .i64 (10*x3))+(IntKind.wrap .i64 (IntKind.wrap .u8 ((bt x0 x4)-48))))),VI (IntKind.wrap .i64 (x4+1))] []))) (.done 1 [VI x3] [])
abbrev El:=cn Tryz.prog 49 Ck BL
theorem H2(x0:ByteArray)(x3:Int)(x4:Int)(h:kk 49 (Ft x0 x3 x4) El U):El [VS x0,VI x3,VI x4] [] U :=
 gQ HZ h
def KS(a0_0:ByteArray)(a0_1:AV)(a1:AV):Tree :=
 NG a0_1 2 2<|NE (a0_1.ix (2:Int))<|.aj (LK.has .sl a1/\bV 4 a1.aO/\((([]:List (List AV)).length)+a1.aO.length)*80<=140737488355328)<|NG a0_1 1 2<|mG (a0_1.ix (1:Int))<|.aj (bV 4 [[VS (((a0_1.ix (1:Int)).hA).ah),VS a0_0,a0_1,a1]]/\(((([]:List (List AV))++a1.aO).length)+([[VS (((a0_1.ix (1:Int)).hA).ah),VS a0_0,a0_1,a1]]:List (List AV)).length)*80<=140737488355328)<|.done 0 [.cQ [.agg [VS (((a0_1.ix (2:Int)).getD 0 .any).ah),((a0_1.ix (2:Int)).getD 1 .any)],.sl ((([]:List (List AV))++a1.aO)++([[VS (((a0_1.ix (1:Int)).hA).ah),VS a0_0,a0_1,a1]]:List (List AV)))]] []
theorem Ov(a0_0:ByteArray)(a0_1:AV)(a1:AV)(ha0_1:LK.has .sl a0_1)(ha1:LK.has .sl a1)(h:dz 23 (KS a0_0 a0_1 a1) R):ap Tryz.prog 103 [.agg [VS a0_0,a0_1],a1] [] R :=
 uQ (ag (cF (ag (aA _) (ag (ca ha0_1) aE))) (ag (ca ha1) aE)) (oQ [] Tryz.f103 h)
def Gk:LI:={hd:={bN:=[(0,.k .str),(1,.k (.int .i64)),(9,.k (.int .i64))],refs:=[(6,6),(8,8)],cg:=[(6,[.lk .str,.lk .sl]),(8,[.lk .str,.lk .sl])]},xs:={bN:=[(0,.k .str),(1,.k (.int .i64)),(9,.k (.int .i64))],refs:=[(6,6),(8,8)],cg:=[(6,[.lk .str,.lk .sl]),(8,[.lk .str,.lk .sl])]},rt:={},ex:=0}
def Kp:Code:=cz (ct Tryz.f104) 6
def FJ:LI:={hd:={bN:=[(0,.k .str),(1,.k (.int .i64)),(2,.k (.int .i64))],refs:=[(6,6),(8,8)],cg:=[(6,[.lk .str,.lk .sl]),(8,[.lk .str,.vec 2])]},xs:={},rt:={bN:=[(7,.k (.int .i64))],refs:=[(6,6)],cg:=[(6,[.lk .str,.vec 2])]},ex:=999}
def IP:Code:=cz (ct Tryz.f104) 12
def GH:List (Nat×LI):=[(6,Gk),(12,FJ)]
def EM(a0:ByteArray)(a1:Int)(a2:Int):Tree :=
 .test (decide (a2>(300:Int))) (.done 0 [.cQ [.agg [VS (mk []),.v (.slice none 0 0)],VI (-1)]] []) (.test (decide (a1≥(ac a0:Int))) (.done 0 [.cQ [.agg [VS (mk []),.v (.slice none 0 0)],VI (-1)]] []) (.aj (0<=a1/\a1<ac a0)<|.test ((bt a0 a1) != (40:Int)) (.loop Kp Gk [VS a0,VI a1,VI a1] [.cells [VS (mk []),.v (.slice none 0 0)],.cells [VS (mk []),.v (.slice none 0 0)]] (fun y2 q2=>NS (y2.hA)<|NI (y2.tail.hA)<|NI (y2.tail.tail.hA)<|.aj ((q2.hO)=.cells (q2.hO).cs)<|.aj (ae [.lk .str,.lk .sl] ((q2.hO).cs) 0 q2.tail)<|.aj (((q2.tail.drop 0).hO)=.cells ((q2.tail.drop 0).hO).cs)<|.aj (ae [.lk .str,.lk .sl] (((q2.tail.drop 0).hO).cs) 0 ((q2.tail.drop 0).tail))<|.aj (0<=((y2.tail.tail.hA).toInt)/\((y2.tail.tail.hA).toInt)<=((y2.tail.hA).toInt)/\((y2.tail.hA).toInt)<=(ac ((y2.hA).ah):Int))<|.test (af (bX ((y2.hA).ah) (bT ((y2.tail.tail.hA).toInt)) (bT ((y2.tail.hA).toInt)))==af (mk [])) (.done 0 [.cQ [.agg [VS (bX ((y2.hA).ah) (bT ((y2.tail.tail.hA).toInt)) (bT ((y2.tail.hA).toInt))),((q2.tail.hO).cs.getD 1 .any)],VI (-1)]] []) (.done 0 [.cQ [.agg [VS (bX ((y2.hA).ah) (bT ((y2.tail.tail.hA).toInt)) (bT ((y2.tail.hA).toInt))),((q2.tail.hO).cs.getD 1 .any)],VI ((y2.tail.hA).toInt)]] [])) (fun y2 q2=>.fail)) (.loop IP FJ [VS a0,VI a1,VI a2] [.cells [VS (mk []),.v (.slice none 0 0)],.cells [VS (mk []),.any],.vec 2 []] (fun y5 q5=>.fail) (fun y5 q5=>NI (y5.hA)<|.aj ((q5.hO)=.cells (q5.hO).cs)<|.aj (ae [.lk .str,.vec 2] ((q5.hO).cs) 0 q5.tail)<|.done 0 [.cQ [.agg [VS (((q5.hO).cs.getD 0 .any).ah),.sl ((q5.tail.hO).es)],VI ((y5.hA).toInt)]] []))))
theorem MJ(a0:ByteArray)(a1:Int)(a2:Int)(h:dz 87 (EM a0 a1 a2) R):ap Tryz.prog 104 [VS a0,VI a1,VI a2] [] R :=
 uQ (ag (aA _) (ag (aA _) (ag (aA _) aE))) (oQ GH Tryz.f104 h)
def E7(x0:ByteArray)(x1:Int)(x9:Int)(o6_0:ByteArray)(o6_1:AV)(o8_0:ByteArray)(o8_1:AV):Tree :=
 NS (VS x0)<|NI (VI x1)<|NI (VI x9)<|.aj (Ob.cells [VS o6_0,o6_1]=.cells [VS o6_0,o6_1])<|.aj (ae [.lk .str,.lk .sl] [VS o6_0,o6_1] 0 [.cells [VS o8_0,o8_1]])<|.aj (Ob.cells [VS o8_0,o8_1]=.cells [VS o8_0,o8_1])<|.aj (ae [.lk .str,.lk .sl] [VS o8_0,o8_1] 0 [])<|.test (decide (x1<(ac x0:Int))) (.aj (0<=x1/\x1<ac x0)<|.call 141 [.v (.int .u8 (bt x0 x1))] [] fun r1 o1=>NB r1<|.test r1.toBool (.done 0 [VS x0,VI (IntKind.wrap .i64 (x1+1)),VI x9] [.cells [VS o6_0,o6_1],.cells [VS o8_0,o8_1]]) (.done 1 [VS x0,VI x1,VI x9] [.cells [VS o6_0,o6_1],.cells [VS o8_0,o8_1]])) (.done 1 [VS x0,VI x1,VI x9] [.cells [VS o6_0,o6_1],.cells [VS o8_0,o8_1]])
abbrev Fq:=cn Tryz.prog 87 Kp Gk
theorem Lz(x0:ByteArray)(x1:Int)(x9:Int)(o6_0:ByteArray)(o6_1:AV)(o8_0:ByteArray)(o8_1:AV)(h:kk 87 (E7 x0 x1 x9 o6_0 o6_1 o8_0 o8_1) Fq U):Fq [VS x0,VI x1,VI x9] [.cells [VS o6_0,o6_1],.cells [VS o8_0,o8_1]] U :=
 gQ GH h
def Lx(x0:ByteArray)(x1:Int)(x2:Int)(o6_0:ByteArray)(o6_1:AV)(o8_0:ByteArray)(o8_1:List (List AV)):Tree :=
 NS (VS x0)<|NI (VI x1)<|NI (VI x2)<|.aj (Ob.cells [VS o6_0,o6_1]=.cells [VS o6_0,o6_1])<|.aj (ae [.lk .str,.lk .sl] [VS o6_0,o6_1] 0 [.cells [VS o8_0,.any],.vec 2 o8_1])<|.aj (Ob.cells [VS o8_0,.any]=.cells [VS o8_0,.any])<|.aj (ae [.lk .str,.vec 2] [VS o8_0,.any] 0 [.vec 2 o8_1])<|.call 104 [VS x0,VI (IntKind.wrap .i64 (x1+1)),VI (IntKind.wrap .i64 (x2+1))] [] fun r1 o1=>NT r1<|.aj ((r1.comp 0)=.agg (r1.comp 0).cs/\(r1.comp 0).cs.length=2/\cc [.str,.sl] ((r1.comp 0).cs) 0)<|NI (r1.comp 1)<|.test (decide (((r1.comp 1).toInt)<(0:Int))) (.done 2 [VI (-1)] [.cells [VS o8_0,.any],.vec 2 o8_1]) (.test (decide (((r1.comp 1).toInt)≥(ac x0:Int))) (.done 2 [VI (-1)] [.cells [VS o8_0,.any],.vec 2 o8_1]) (.aj (bV 2 [[VS (((r1.comp 0).cs.getD 0 .any).ah),((r1.comp 0).cs.getD 1 .any)]]/\((o8_1.length)+([[VS (((r1.comp 0).cs.getD 0 .any).ah),((r1.comp 0).cs.getD 1 .any)]]:List (List AV)).length)*40<=140737488355328)<|.aj (0<=((r1.comp 1).toInt)/\((r1.comp 1).toInt)<ac x0)<|.test ((bt x0 ((r1.comp 1).toInt))==(41:Int)) (.done 2 [VI (IntKind.wrap .i64 (((r1.comp 1).toInt)+1))] [.cells [VS o8_0,.any],.vec 2 (o8_1++([[VS (((r1.comp 0).cs.getD 0 .any).ah),((r1.comp 0).cs.getD 1 .any)]]:List (List AV)))]) (.aj (0<=((r1.comp 1).toInt)/\((r1.comp 1).toInt)<ac x0)<|.test ((bt x0 ((r1.comp 1).toInt)) != (32:Int)) (.done 2 [VI (-1)] [.cells [VS o8_0,.any],.vec 2 (o8_1++([[VS (((r1.comp 0).cs.getD 0 .any).ah),((r1.comp 0).cs.getD 1 .any)]]:List (List AV)))]) (.done 0 [VS x0,VI ((r1.comp 1).toInt),VI x2] [.cells [VS o6_0,o6_1],.cells [VS o8_0,.any],.vec 2 (o8_1++([[VS (((r1.comp 0).cs.getD 0 .any).ah),((r1.comp 0).cs.getD 1 .any)]]:List (List AV)))]))))
abbrev FL:=cn Tryz.prog 87 IP FJ
theorem OW(x0:ByteArray)(x1:Int)(x2:Int)(o6_0:ByteArray)(o6_1:AV)(o8_0:ByteArray)(o8_1:List (List AV))(h:kk 87 (Lx x0 x1 x2 o6_0 o6_1 o8_0 o8_1) FL U):FL [VS x0,VI x1,VI x2] [.cells [VS o6_0,o6_1],.cells [VS o8_0,.any],.vec 2 o8_1] U :=
 gQ GH h
def GJ:LI:={hd:={bN:=[(0,.k .sl),(1,.k .str),(7,.k (.int .i64))],dZ:=[(2,4)]},xs:={dZ:=[(2,4)]},rt:={},ex:=0}
def Je:Code:=cz (ct Tryz.f105) 2
def H3:List (Nat×LI):=[(2,GJ)]
def K4(a0:AV)(a1:ByteArray)(e2:List (List AV)):Tree :=
 .loop Je GJ [a0,VS a1,VI 0] [.vec 4 e2] (fun y2 q2=>.aj (((q2.drop 0).hO)=.vec 4 ((q2.drop 0).hO).es)<|.done 0 [.vec 1] [.dead,.vec 4 ((q2.hO).es)]) (fun y2 q2=>.fail)
theorem NF(a0:AV)(a1:ByteArray)(e2:List (List AV))(ha0:LK.has .sl a0)(h:dz 32 (K4 a0 a1 e2) R):ap Tryz.prog 105 [a0,VS a1,.vec 0] [.vec 4 e2] R :=
 ap.nu (bi (fg _) cm) (ap.up (ag (ca ha0) (ag (aA _) (ag (aA _) aE))) (oF H3 {mu:=[(2,.one (.vec))],own:=[0]} Tryz.f105 h))
def HJ(x0:AV)(x1:ByteArray)(x7:Int)(e2:List (List AV)):Tree :=
 NL x0<|NS (VS x1)<|NI (VI x7)<|.aj (Ob.vec 4 e2=.vec 4 e2)<|NL x0<|.test (decide (x7<(x0.aO.length:Int))) (NG x0 x7 4<|NE (x0.ix x7)<|.call 78 [VS x1,.sl [[VS (((x0.ix x7).getD 0 .any).ah),((x0.ix x7).getD 1 .any)]]] [] fun r1 o1=>NA r1<|NG x0 x7 4<|NE ((x0.ix x7).drop 2)<|.aj (bV 4 [[VS ((r1.cs.getD 0 .any).ah),(r1.cs.getD 1 .any),VS ((((x0.ix x7).drop 2).getD 0 .any).ah),(((x0.ix x7).drop 2).getD 1 .any)]]/\((e2.length)+([[VS ((r1.cs.getD 0 .any).ah),(r1.cs.getD 1 .any),VS ((((x0.ix x7).drop 2).getD 0 .any).ah),(((x0.ix x7).drop 2).getD 1 .any)]]:List (List AV)).length)*80<=140737488355328)<|.done 0 [x0,VS x1,VI (IntKind.wrap .i64 (x7+1))] [.vec 4 (e2++([[VS ((r1.cs.getD 0 .any).ah),(r1.cs.getD 1 .any),VS ((((x0.ix x7).drop 2).getD 0 .any).ah),(((x0.ix x7).drop 2).getD 1 .any)]]:List (List AV)))]) (.done 1 [] [.vec 4 e2])
abbrev F5:=cn Tryz.prog 32 Je GJ
theorem KL(x0:AV)(x1:ByteArray)(x7:Int)(e2:List (List AV))(h:kk 32 (HJ x0 x1 x7 e2) F5 U):F5 [x0,VS x1,VI x7] [.vec 4 e2] U :=
 gQ H3 h
def Ja(a0_0:AV)(a0_1:Int):Tree :=
 .call 29 [.ref 0 0,VI 12] [.cells [a0_0,VI a0_1]] fun r1 o1=>.aj ((o1.hO)=.cells (o1.hO).cs)<|.aj (aK [.lk .sl,.lk (.int .i64)] ((o1.hO).cs) 0 1 o1.tail)<|NI r1<|.test (r1.toInt==(0:Int)) (.call 80 [.ref 0 0,.sl [[VS (mk [])],[VS (mk [97])],[VS (mk [40,43,32,49,41])],[VS (mk [40,114,101,99,32,120,32,49,41])],[VS (mk [40,114,101,99,32,116,41])],[VS (mk [40,43,32,32,49,32,49,41])],[VS (mk [40,42,32,49,32,49,32,49,41])],[VS (mk [116,49,48,48])],[VS (mk [120,32,49])]]] [.cells [((o1.hO).cs.getD 0 .any),VI (((o1.hO).cs.getD 1 .any).toInt)]] fun r2 o2=>.aj ((o2.hO)=.cells (o2.hO).cs)<|.aj (aK [.lk .sl,.lk (.int .i64)] ((o2.hO).cs) 0 1 o2.tail)<|NS r2<|.done 0 [VS r2.ah] [.cells [((o2.hO).cs.getD 0 .any),VI (((o2.hO).cs.getD 1 .any).toInt)]]) (.test (r1.toInt==(1:Int)) (.call 50 [.ref 0 0] [.cells [((o1.hO).cs.getD 0 .any),VI (((o1.hO).cs.getD 1 .any).toInt)]] fun r3 o3=>.aj ((o3.hO)=.cells (o3.hO).cs)<|.aj (aK [.lk .sl,.lk (.int .i64)] ((o3.hO).cs) 0 1 o3.tail)<|NS r3<|.done 0 [VS r3.ah] [.cells [((o3.hO).cs.getD 0 .any),VI (((o3.hO).cs.getD 1 .any).toInt)]]) (.test (r1.toInt==(2:Int)) (.call 50 [.ref 0 0] [.cells [((o1.hO).cs.getD 0 .any),VI (((o1.hO).cs.getD 1 .any).toInt)]] fun r4 o4=>.aj ((o4.hO)=.cells (o4.hO).cs)<|.aj (aK [.lk .sl,.lk (.int .i64)] ((o4.hO).cs) 0 1 o4.tail)<|NS r4<|.done 0 [VS r4.ah] [.cells [((o4.hO).cs.getD 0 .any),VI (((o4.hO).cs.getD 1 .any).toInt)]]) (.test (r1.toInt==(3:Int)) (.call 50 [.ref 0 0] [.cells [((o1.hO).cs.getD 0 .any),VI (((o1.hO).cs.getD 1 .any).toInt)]] fun r5 o5=>.aj ((o5.hO)=.cells (o5.hO).cs)<|.aj (aK [.lk .sl,.lk (.int .i64)] ((o5.hO).cs) 0 1 o5.tail)<|NS r5<|.done 0 [VS r5.ah] [.cells [((o5.hO).cs.getD 0 .any),VI (((o5.hO).cs.getD 1 .any).toInt)]]) (.test (r1.toInt==(4:Int)) (.call 107 [.ref 0 0,.sl [[VS (mk [116])],[VS (mk [116,49])]],VI 2] [.cells [((o1.hO).cs.getD 0 .any),VI (((o1.hO).cs.getD 1 .any).toInt)]] fun r6 o6=>.aj ((o6.hO)=.cells (o6.hO).cs)<|.aj (aK [.lk .sl,.lk (.int .i64)] ((o6.hO).cs) 0 1 o6.tail)<|NS r6<|.done 0 [VS r6.ah] [.cells [((o6.hO).cs.getD 0 .any),VI (((o6.hO).cs.getD 1 .any).toInt)]]) (.call 107 [.ref 0 0,.sl [],VI 3] [.cells [((o1.hO).cs.getD 0 .any),VI (((o1.hO).cs.getD 1 .any).toInt)]] fun r7 o7=>.aj ((o7.hO)=.cells (o7.hO).cs)<|.aj (aK [.lk .sl,.lk (.int .i64)] ((o7.hO).cs) 0 1 o7.tail)<|NS r7<|.done 0 [VS r7.ah] [.cells [((o7.hO).cs.getD 0 .any),VI (((o7.hO).cs.getD 1 .any).toInt)]])))))
theorem OQ(a0_0:AV)(a0_1:Int)(ha0_0:LK.has .sl a0_0)(h:dz 24 (Ja a0_0 a0_1) R):ap Tryz.prog 106 [.ref 0 0] [.cells [a0_0,VI a0_1]] R :=
 ap.nu (bi (bQ (ag (ca ha0_0) (ag (aA _) aE))) cm) (ap.up (ag (aA _) aE) (oF [] {mu:=[(0,.one (.obj [.lk .sl,.lk (.int .i64)]))],own:=[]} Tryz.f106 h))
def Fk(a0_0:AV)(a0_1:Int)(a1:AV)(a2:Int):Tree :=
 .test (decide (a2<=(0:Int))) (NL a1<|.test (decide ((a1.aO.length:Int)>(0:Int))) (.call 29 [.ref 0 0,VI 3] [.cells [a0_0,VI a0_1]] fun r1 o1=>.aj ((o1.hO)=.cells (o1.hO).cs)<|.aj (aK [.lk .sl,.lk (.int .i64)] ((o1.hO).cs) 0 1 o1.tail)<|NI r1<|.test (r1.toInt==(0:Int)) (NL a1<|.call 29 [.ref 0 0,VI (a1.aO.length:Int)] [.cells [((o1.hO).cs.getD 0 .any),VI (((o1.hO).cs.getD 1 .any).toInt)]] fun r2 o2=>.aj ((o2.hO)=.cells (o2.hO).cs)<|.aj (aK [.lk .sl,.lk (.int .i64)] ((o2.hO).cs) 0 1 o2.tail)<|NI r2<|.aj (LK.has .sl a1/\0<=r2.toInt/\r2.toInt<a1.aO.length/\(a1.aO.getD r2.toInt.toNat []).length=1)<|mG (a1.aO.getD r2.toInt.toNat [])<|.done 0 [VS (((a1.aO.getD r2.toInt.toNat []).hA).ah)] [.cells [((o2.hO).cs.getD 0 .any),VI (((o2.hO).cs.getD 1 .any).toInt)]]) (.call 80 [.ref 0 0,.sl [[VS (mk [120])],[VS (mk [49])],[VS (mk [120])],[VS (mk [121])],[VS (mk [48])],[VS (mk [49])]]] [.cells [((o1.hO).cs.getD 0 .any),VI (((o1.hO).cs.getD 1 .any).toInt)]] fun r3 o3=>.aj ((o3.hO)=.cells (o3.hO).cs)<|.aj (aK [.lk .sl,.lk (.int .i64)] ((o3.hO).cs) 0 1 o3.tail)<|NS r3<|.done 0 [VS r3.ah] [.cells [((o3.hO).cs.getD 0 .any),VI (((o3.hO).cs.getD 1 .any).toInt)]])) (.call 80 [.ref 0 0,.sl [[VS (mk [120])],[VS (mk [49])],[VS (mk [120])],[VS (mk [121])],[VS (mk [48])],[VS (mk [49])]]] [.cells [a0_0,VI a0_1]] fun r4 o4=>.aj ((o4.hO)=.cells (o4.hO).cs)<|.aj (aK [.lk .sl,.lk (.int .i64)] ((o4.hO).cs) 0 1 o4.tail)<|NS r4<|.done 0 [VS r4.ah] [.cells [((o4.hO).cs.getD 0 .any),VI (((o4.hO).cs.getD 1 .any).toInt)]])) (.call 29 [.ref 0 0,VI 4] [.cells [a0_0,VI a0_1]] fun r5 o5=>.aj ((o5.hO)=.cells (o5.hO).cs)<|.aj (aK [.lk .sl,.lk (.int .i64)] ((o5.hO).cs) 0 1 o5.tail)<|NI r5<|.test (r5.toInt==(0:Int)) (NL a1<|.test (decide ((a1.aO.length:Int)>(0:Int))) (.call 29 [.ref 0 0,VI 3] [.cells [((o5.hO).cs.getD 0 .any),VI (((o5.hO).cs.getD 1 .any).toInt)]] fun r6 o6=>.aj ((o6.hO)=.cells (o6.hO).cs)<|.aj (aK [.lk .sl,.lk (.int .i64)] ((o6.hO).cs) 0 1 o6.tail)<|NI r6<|.test (r6.toInt==(0:Int)) (NL a1<|.call 29 [.ref 0 0,VI (a1.aO.length:Int)] [.cells [((o6.hO).cs.getD 0 .any),VI (((o6.hO).cs.getD 1 .any).toInt)]] fun r7 o7=>.aj ((o7.hO)=.cells (o7.hO).cs)<|.aj (aK [.lk .sl,.lk (.int .i64)] ((o7.hO).cs) 0 1 o7.tail)<|NI r7<|.aj (LK.has .sl a1/\0<=r7.toInt/\r7.toInt<a1.aO.length/\(a1.aO.getD r7.toInt.toNat []).length=1)<|mG (a1.aO.getD r7.toInt.toNat [])<|.done 0 [VS (((a1.aO.getD r7.toInt.toNat []).hA).ah)] [.cells [((o7.hO).cs.getD 0 .any),VI (((o7.hO).cs.getD 1 .any).toInt)]]) (.call 80 [.ref 0 0,.sl [[VS (mk [120])],[VS (mk [49])],[VS (mk [120])],[VS (mk [121])],[VS (mk [48])],[VS (mk [49])]]] [.cells [((o6.hO).cs.getD 0 .any),VI (((o6.hO).cs.getD 1 .any).toInt)]] fun r8 o8=>.aj ((o8.hO)=.cells (o8.hO).cs)<|.aj (aK [.lk .sl,.lk (.int .i64)] ((o8.hO).cs) 0 1 o8.tail)<|NS r8<|.done 0 [VS r8.ah] [.cells [((o8.hO).cs.getD 0 .any),VI (((o8.hO).cs.getD 1 .any).toInt)]])) (.call 80 [.ref 0 0,.sl [[VS (mk [120])],[VS (mk [49])],[VS (mk [120])],[VS (mk [121])],[VS (mk [48])],[VS (mk [49])]]] [.cells [((o5.hO).cs.getD 0 .any),VI (((o5.hO).cs.getD 1 .any).toInt)]] fun r9 o9=>.aj ((o9.hO)=.cells (o9.hO).cs)<|.aj (aK [.lk .sl,.lk (.int .i64)] ((o9.hO).cs) 0 1 o9.tail)<|NS r9<|.done 0 [VS r9.ah] [.cells [((o9.hO).cs.getD 0 .any),VI (((o9.hO).cs.getD 1 .any).toInt)]])) (.call 29 [.ref 0 0,VI 5] [.cells [((o5.hO).cs.getD 0 .any),VI (((o5.hO).cs.getD 1 .any).toInt)]] fun r10 o10=>.aj ((o10.hO)=.cells (o10.hO).cs)<|.aj (aK [.lk .sl,.lk (.int .i64)] ((o10.hO).cs) 0 1 o10.tail)<|NI r10<|.test (r10.toInt==(0:Int)) (.call 107 [.ref 0 0,a1,VI (IntKind.wrap .i64 (a2-1))] [.cells [((o10.hO).cs.getD 0 .any),VI (((o10.hO).cs.getD 1 .any).toInt)]] fun r11 o11=>.aj ((o11.hO)=.cells (o11.hO).cs)<|.aj (aK [.lk .sl,.lk (.int .i64)] ((o11.hO).cs) 0 1 o11.tail)<|NS r11<|.aj (ac (mk [40,43,32])+ac r11.ah<=9223372036854775807)<|.aj (ac (((mk [40,43,32]):ByteArray)++r11.ah)+ac (mk [32])<=9223372036854775807)<|.call 107 [.ref 0 0,a1,VI (IntKind.wrap .i64 (a2-1))] [.cells [((o11.hO).cs.getD 0 .any),VI (((o11.hO).cs.getD 1 .any).toInt)]] fun r12 o12=>.aj ((o12.hO)=.cells (o12.hO).cs)<|.aj (aK [.lk .sl,.lk (.int .i64)] ((o12.hO).cs) 0 1 o12.tail)<|NS r12<|.aj (ac (((((mk [40,43,32]):ByteArray)++r11.ah):ByteArray)++(mk [32]))+ac r12.ah<=9223372036854775807)<|.aj (ac (((((((mk [40,43,32]):ByteArray)++r11.ah):ByteArray)++(mk [32])):ByteArray)++r12.ah)+ac (mk [41])<=9223372036854775807)<|.done 0 [VS (((((((((mk [40,43,32]):ByteArray)++r11.ah):ByteArray)++(mk [32])):ByteArray)++r12.ah):ByteArray)++(mk [41]))] [.cells [((o12.hO).cs.getD 0 .any),VI (((o12.hO).cs.getD 1 .any).toInt)]]) (.test (r10.toInt==(1:Int)) (.call 107 [.ref 0 0,a1,VI (IntKind.wrap .i64 (a2-1))] [.cells [((o10.hO).cs.getD 0 .any),VI (((o10.hO).cs.getD 1 .any).toInt)]] fun r13 o13=>.aj ((o13.hO)=.cells (o13.hO).cs)<|.aj (aK [.lk .sl,.lk (.int .i64)] ((o13.hO).cs) 0 1 o13.tail)<|NS r13<|.aj (ac (mk [40,43,32])+ac r13.ah<=9223372036854775807)<|.aj (ac (((mk [40,43,32]):ByteArray)++r13.ah)+ac (mk [32])<=9223372036854775807)<|.call 107 [.ref 0 0,a1,VI (IntKind.wrap .i64 (a2-1))] [.cells [((o13.hO).cs.getD 0 .any),VI (((o13.hO).cs.getD 1 .any).toInt)]] fun r14 o14=>.aj ((o14.hO)=.cells (o14.hO).cs)<|.aj (aK [.lk .sl,.lk (.int .i64)] ((o14.hO).cs) 0 1 o14.tail)<|NS r14<|.aj (ac (((((mk [40,43,32]):ByteArray)++r13.ah):ByteArray)++(mk [32]))+ac r14.ah<=9223372036854775807)<|.aj (ac (((((((mk [40,43,32]):ByteArray)++r13.ah):ByteArray)++(mk [32])):ByteArray)++r14.ah)+ac (mk [41])<=9223372036854775807)<|.done 0 [VS (((((((((mk [40,43,32]):ByteArray)++r13.ah):ByteArray)++(mk [32])):ByteArray)++r14.ah):ByteArray)++(mk [41]))] [.cells [((o14.hO).cs.getD 0 .any),VI (((o14.hO).cs.getD 1 .any).toInt)]]) (.test (r10.toInt==(2:Int)) (.call 107 [.ref 0 0,a1,VI (IntKind.wrap .i64 (a2-1))] [.cells [((o10.hO).cs.getD 0 .any),VI (((o10.hO).cs.getD 1 .any).toInt)]] fun r15 o15=>.aj ((o15.hO)=.cells (o15.hO).cs)<|.aj (aK [.lk .sl,.lk (.int .i64)] ((o15.hO).cs) 0 1 o15.tail)<|NS r15<|.aj (ac (mk [40,42,32])+ac r15.ah<=9223372036854775807)<|.aj (ac (((mk [40,42,32]):ByteArray)++r15.ah)+ac (mk [32])<=9223372036854775807)<|.call 107 [.ref 0 0,a1,VI (IntKind.wrap .i64 (a2-1))] [.cells [((o15.hO).cs.getD 0 .any),VI (((o15.hO).cs.getD 1 .any).toInt)]] fun r16 o16=>.aj ((o16.hO)=.cells (o16.hO).cs)<|.aj (aK [.lk .sl,.lk (.int .i64)] ((o16.hO).cs) 0 1 o16.tail)<|NS r16<|.aj (ac (((((mk [40,42,32]):ByteArray)++r15.ah):ByteArray)++(mk [32]))+ac r16.ah<=9223372036854775807)<|.aj (ac (((((((mk [40,42,32]):ByteArray)++r15.ah):ByteArray)++(mk [32])):ByteArray)++r16.ah)+ac (mk [41])<=9223372036854775807)<|.done 0 [VS (((((((((mk [40,42,32]):ByteArray)++r15.ah):ByteArray)++(mk [32])):ByteArray)++r16.ah):ByteArray)++(mk [41]))] [.cells [((o16.hO).cs.getD 0 .any),VI (((o16.hO).cs.getD 1 .any).toInt)]]) (.test (r10.toInt==(3:Int)) (.call 107 [.ref 0 0,a1,VI (IntKind.wrap .i64 (a2-1))] [.cells [((o10.hO).cs.getD 0 .any),VI (((o10.hO).cs.getD 1 .any).toInt)]] fun r17 o17=>.aj ((o17.hO)=.cells (o17.hO).cs)<|.aj (aK [.lk .sl,.lk (.int .i64)] ((o17.hO).cs) 0 1 o17.tail)<|NS r17<|.aj (ac (mk [40,42,32])+ac r17.ah<=9223372036854775807)<|.aj (ac (((mk [40,42,32]):ByteArray)++r17.ah)+ac (mk [32])<=9223372036854775807)<|.call 107 [.ref 0 0,a1,VI (IntKind.wrap .i64 (a2-1))] [.cells [((o17.hO).cs.getD 0 .any),VI (((o17.hO).cs.getD 1 .any).toInt)]] fun r18 o18=>.aj ((o18.hO)=.cells (o18.hO).cs)<|.aj (aK [.lk .sl,.lk (.int .i64)] ((o18.hO).cs) 0 1 o18.tail)<|NS r18<|.aj (ac (((((mk [40,42,32]):ByteArray)++r17.ah):ByteArray)++(mk [32]))+ac r18.ah<=9223372036854775807)<|.aj (ac (((((((mk [40,42,32]):ByteArray)++r17.ah):ByteArray)++(mk [32])):ByteArray)++r18.ah)+ac (mk [41])<=9223372036854775807)<|.done 0 [VS (((((((((mk [40,42,32]):ByteArray)++r17.ah):ByteArray)++(mk [32])):ByteArray)++r18.ah):ByteArray)++(mk [41]))] [.cells [((o18.hO).cs.getD 0 .any),VI (((o18.hO).cs.getD 1 .any).toInt)]]) (.call 80 [.ref 0 0,.sl [[VS (mk [116])],[VS (mk [116,49])],[VS (mk [116,48])]]] [.cells [((o10.hO).cs.getD 0 .any),VI (((o10.hO).cs.getD 1 .any).toInt)]] fun r19 o19=>.aj ((o19.hO)=.cells (o19.hO).cs)<|.aj (aK [.lk .sl,.lk (.int .i64)] ((o19.hO).cs) 0 1 o19.tail)<|NS r19<|.aj (ac (mk [40,114,101,99,32])+ac r19.ah<=9223372036854775807)<|.aj (ac (((mk [40,114,101,99,32]):ByteArray)++r19.ah)+ac (mk [32,40,43,32,49,32])<=9223372036854775807)<|.call 61 [a1,VS r19.ah] [] fun r20 o20=>NL r20<|.call 107 [.ref 0 0,r20,VI (IntKind.wrap .i64 (a2-1))] [.cells [((o19.hO).cs.getD 0 .any),VI (((o19.hO).cs.getD 1 .any).toInt)]] fun r21 o21=>.aj ((o21.hO)=.cells (o21.hO).cs)<|.aj (aK [.lk .sl,.lk (.int .i64)] ((o21.hO).cs) 0 1 o21.tail)<|NS r21<|.aj (ac (((((mk [40,114,101,99,32]):ByteArray)++r19.ah):ByteArray)++(mk [32,40,43,32,49,32]))+ac r21.ah<=9223372036854775807)<|.aj (ac (((((((mk [40,114,101,99,32]):ByteArray)++r19.ah):ByteArray)++(mk [32,40,43,32,49,32])):ByteArray)++r21.ah)+ac (mk [41,41])<=9223372036854775807)<|.done 0 [VS (((((((((mk [40,114,101,99,32]):ByteArray)++r19.ah):ByteArray)++(mk [32,40,43,32,49,32])):ByteArray)++r21.ah):ByteArray)++(mk [41,41]))] [.cells [((o21.hO).cs.getD 0 .any),VI (((o21.hO).cs.getD 1 .any).toInt)]]))))))
theorem JR(a0_0:AV)(a0_1:Int)(a1:AV)(a2:Int)(ha1:LK.has .sl a1)(ha0_0:LK.has .sl a0_0)(h:dz 82 (Fk a0_0 a0_1 a1 a2) R):ap Tryz.prog 107 [.ref 0 0,a1,VI a2] [.cells [a0_0,VI a0_1]] R :=
 ap.nu (bi (bQ (ag (ca ha0_0) (ag (aA _) aE))) cm) (ap.up (ag (aA _) (ag (ca ha1) (ag (aA _) aE))) (oF [] {mu:=[(0,.one (.obj [.lk .sl,.lk (.int .i64)]))],own:=[]} Tryz.f107 h))
def Bu(a0_0:ByteArray)(a0_1:AV)(a1:AV):Tree :=
 .call 71 [.agg [VS a0_0,a0_1]] [] fun r1 o1=>NS r1<|.test (af r1.ah==af (mk [43])) (NG a0_1 1 2<|NE (a0_1.ix (1:Int))<|.call 108 [.agg [VS (((a0_1.ix (1:Int)).getD 0 .any).ah),((a0_1.ix (1:Int)).getD 1 .any)],a1] [] fun r2 o2=>NB r2<|.test r2.toBool (NG a0_1 2 2<|NE (a0_1.ix (2:Int))<|.call 108 [.agg [VS (((a0_1.ix (2:Int)).getD 0 .any).ah),((a0_1.ix (2:Int)).getD 1 .any)],a1] [] fun r3 o3=>NB r3<|.done 0 [VB r3.toBool] []) (.done 0 [VB false] [])) (.test (af r1.ah==af (mk [42])) (NG a0_1 1 2<|NE (a0_1.ix (1:Int))<|.call 108 [.agg [VS (((a0_1.ix (1:Int)).getD 0 .any).ah),((a0_1.ix (1:Int)).getD 1 .any)],a1] [] fun r4 o4=>NB r4<|.test r4.toBool (.done 0 [VB true] []) (NG a0_1 2 2<|NE (a0_1.ix (2:Int))<|.call 108 [.agg [VS (((a0_1.ix (2:Int)).getD 0 .any).ah),((a0_1.ix (2:Int)).getD 1 .any)],a1] [] fun r5 o5=>NB r5<|.done 0 [VB r5.toBool] [])) (.test (af r1.ah==af (mk [114,101,99])) (NG a0_1 2 2<|NE (a0_1.ix (2:Int))<|NG a0_1 1 2<|mG (a0_1.ix (1:Int))<|.call 61 [a1,VS (((a0_1.ix (1:Int)).hA).ah)] [] fun r6 o6=>NL r6<|.call 108 [.agg [VS (((a0_1.ix (2:Int)).getD 0 .any).ah),((a0_1.ix (2:Int)).getD 1 .any)],r6] [] fun r7 o7=>NB r7<|.done 0 [VB r7.toBool] []) (.test (af a0_0==af (mk [48])) (.done 0 [VB true] []) (.call 139 [a1,VS a0_0] [] fun r8 o8=>NB r8<|.done 0 [VB r8.toBool] []))))
theorem Cg(a0_0:ByteArray)(a0_1:AV)(a1:AV)(ha0_1:LK.has .sl a0_1)(ha1:LK.has .sl a1)(h:dz 62 (Bu a0_0 a0_1 a1) R):ap Tryz.prog 108 [.agg [VS a0_0,a0_1],a1] [] R :=
 uQ (ag (cF (ag (aA _) (ag (ca ha0_1) aE))) (ag (ca ha1) aE)) (oQ [] Tryz.f108 h)
def GR:LI:={hd:={bN:=[(3,.k (.int .i64)),(4,.k (.int .i64))],refs:=[(1,1)],cg:=[(1,[.lk .str,.lk .sl])]},xs:={bN:=[(3,.k (.int .i64))]},rt:={},ex:=0}
def Ir:Code:=cz (ct Tryz.f109) 5
def H9:List (Nat×LI):=[(5,GR)]
def GX(a0_0:ByteArray)(a0_1:AV):Tree :=
 .test (!(af a0_0==af (mk []))) (.done 0 [VI 1] []) (.loop Ir GR [VI 0,VI 0] [.cells [VS a0_0,a0_1]] (fun y2 q2=>NI (y2.hA)<|.done 0 [VI ((y2.hA).toInt)] []) (fun y2 q2=>.done 0 [.any] []))
theorem JW(a0_0:ByteArray)(a0_1:AV)(ha0_1:LK.has .sl a0_1)(h:dz 24 (GX a0_0 a0_1) R):ap Tryz.prog 109 [.agg [VS a0_0,a0_1]] [] R :=
 uQ (ag (cF (ag (aA _) (ag (ca ha0_1) aE))) aE) (oQ H9 Tryz.f109 h)
def GK(x3:Int)(x4:Int)(o1_0:ByteArray)(o1_1:AV):Tree :=
 NI (VI x3)<|NI (VI x4)<|.aj (Ob.cells [VS o1_0,o1_1]=.cells [VS o1_0,o1_1])<|.aj (ae [.lk .str,.lk .sl] [VS o1_0,o1_1] 0 [])<|NL o1_1<|.test (decide (x4<(o1_1.aO.length:Int))) (NG o1_1 x4 2<|NE (o1_1.ix x4)<|.call 109 [.agg [VS (((o1_1.ix x4).getD 0 .any).ah),((o1_1.ix x4).getD 1 .any)]] [] fun r1 o1=>NI r1<|.done 0 [VI (IntKind.wrap .i64 (x3+r1.toInt)),VI (IntKind.wrap .i64 (x4+1))] [.cells [VS o1_0,o1_1]]) (.done 1 [VI x3] [])
abbrev F2:=cn Tryz.prog 24 Ir GR
theorem KJ(x3:Int)(x4:Int)(o1_0:ByteArray)(o1_1:AV)(h:kk 24 (GK x3 x4 o1_0 o1_1) F2 U):F2 [VI x3,VI x4] [.cells [VS o1_0,o1_1]] U :=
 gQ H9 h
def KT(a0_0:ByteArray)(a0_1:AV):Tree :=
 NG a0_1 1 2<|mG (a0_1.ix (1:Int))<|NG a0_1 2 2<|NE (a0_1.ix (2:Int))<|.call 142 [.agg [VS (((a0_1.ix (2:Int)).getD 0 .any).ah),((a0_1.ix (2:Int)).getD 1 .any)],VS (((a0_1.ix (1:Int)).hA).ah),.agg [VS a0_0,a0_1]] [] fun r1 o1=>NB r1<|.test (!r1.toBool) (.done 0 [.cQ [.agg [VS a0_0,a0_1],VB false]] []) (NG a0_1 2 2<|NE (a0_1.ix (2:Int))<|.call 143 [.agg [VS (((a0_1.ix (2:Int)).getD 0 .any).ah),((a0_1.ix (2:Int)).getD 1 .any)],VS (((a0_1.ix (1:Int)).hA).ah),.agg [VS a0_0,a0_1]] [] fun r2 o2=>NA r2<|.done 0 [.cQ [.agg [VS ((r2.cs.getD 0 .any).ah),(r2.cs.getD 1 .any)],VB true]] [])
theorem Qj(a0_0:ByteArray)(a0_1:AV)(ha0_1:LK.has .sl a0_1)(h:dz 26 (KT a0_0 a0_1) R):ap Tryz.prog 110 [.agg [VS a0_0,a0_1]] [] R :=
 uQ (ag (cF (ag (aA _) (ag (ca ha0_1) aE))) aE) (oQ [] Tryz.f110 h)
def JN(a0:Int):Tree :=
 .test (decide (a0<((-9223372036854775807):Int))) (.done 0 [VS (mk [45,57,50,50,51,51,55,50,48,51,54,56,53,52,55,55,53,56,48,56])] []) (.test (decide (a0<(0:Int))) (.call 111 [VI (IntKind.wrap .i64 (0-a0))] [] fun r1 o1=>NS r1<|.aj (ac (mk [45])+ac r1.ah<=9223372036854775807)<|.done 0 [VS (((mk [45]):ByteArray)++r1.ah)] []) (.test (decide (a0<(10:Int))) (.aj (jo [[.v (.int .u8 (IntKind.wrap .u8 (IntKind.wrap .i64 (48+a0))))]])<|.done 0 [VS (⟨(bytesOf [[.v (.int .u8 (IntKind.wrap .u8 (IntKind.wrap .i64 (48+a0))))]]).toArray⟩)] []) (.aj (¬(10:Int)=0)<|.call 111 [VI (IntKind.wrap .i64 (Int.tdiv a0 10))] [] fun r2 o2=>NS r2<|.aj (¬(10:Int)=0)<|.aj (jo [[.v (.int .u8 (IntKind.wrap .u8 (IntKind.wrap .i64 (48+(du a0 10)))))]])<|.aj (ac r2.ah+ac (⟨(bytesOf [[.v (.int .u8 (IntKind.wrap .u8 (IntKind.wrap .i64 (48+(du a0 10)))))]]).toArray⟩)<=9223372036854775807)<|.done 0 [VS ((r2.ah:ByteArray)++(⟨(bytesOf [[.v (.int .u8 (IntKind.wrap .u8 (IntKind.wrap .i64 (48+(du a0 10)))))]]).toArray⟩))] [])))
theorem Pk(a0:Int)(h:dz 28 (JN a0) R):ap Tryz.prog 111 [VI a0] [] R :=
 uQ (ag (aA _) aE) (oQ [] Tryz.f111 h)
def ER:LI:={hd:={bN:=[(1,.k .sl),(2,.k .sl),(9,.k (.int .i64))],refs:=[(4,4),(8,8)],cg:=[(4,[.lk .str,.lk .sl]),(8,[.lk .str,.lk .sl]),(0,[.vec 1,.lk (.int .i64)])]},xs:={refs:=[(4,4),(8,8)],cg:=[(4,[.lk .str,.lk .sl]),(8,[.lk .str,.lk .sl]),(0,[.vec 1,.lk (.int .i64)])]},rt:={refs:=[(8,8)],cg:=[(8,[.lk .str,.lk .sl]),(0,[.vec 1,.lk (.int .i64)])]},ex:=0,fx:=[0]}
def I2:Code:=cz (ct Tryz.f112) 3
def HH:LI:={hd:={bN:=[(1,.k .sl),(2,.k .sl),(10,.k .str)],refs:=[(3,0),(4,4),(8,8)],cg:=[(0,[.vec 1,.lk (.int .i64)]),(4,[.lk .str,.lk .sl]),(8,[.lk .str,.lk .sl])]},xs:={bN:=[(1,.k .sl),(2,.k .sl),(10,.k .str)],refs:=[(3,0),(4,4),(8,8)],cg:=[(0,[.vec 1,.lk (.int .i64)]),(4,[.lk .str,.lk .sl]),(8,[.lk .str,.lk .sl])]},rt:={cg:=[(0,[.vec 1,.lk (.int .i64)])]},ex:=2,fx:=[0]}
def ID:Code:=cz (ct Tryz.f112) 10
def GQ:List (Nat×LI):=[(3,ER),(10,HH)]
def Aj(a0_0:ByteArray)(a0_1:AV)(a1:AV)(a2:AV)(e3_0:List (List AV))(a3_1:Int):Tree :=
 .test (!(af a0_0==af (mk []))) (NL a1<|.loop I2 ER [a1,a2,VI (IntKind.wrap .i64 ((a1.aO.length:Int)-1))] [.cells [VS a0_0,a0_1],.cells [VS (mk []),.v (.slice none 0 0)],.cells [.any,VI a3_1],.vec 1 e3_0] (fun y1 q1=>.aj ((q1.hO)=.cells (q1.hO).cs)<|.aj (ae [.lk .str,.lk .sl] ((q1.hO).cs) 0 q1.tail)<|.aj (((q1.tail.drop 0).hO)=.cells ((q1.tail.drop 0).hO).cs)<|.aj (ae [.lk .str,.lk .sl] (((q1.tail.drop 0).hO).cs) 0 ((q1.tail.drop 0).tail))<|.aj ((((q1.tail.drop 0).tail.drop 0).hO)=.cells (((q1.tail.drop 0).tail.drop 0).hO).cs)<|.aj (ae [.vec 1,.lk (.int .i64)] ((((q1.tail.drop 0).tail.drop 0).hO).cs) 0 (((q1.tail.drop 0).tail.drop 0).tail))<|.done 0 [.agg [VS (((q1.hO).cs.getD 0 .any).ah),((q1.hO).cs.getD 1 .any)]] [.cells [.vec 1,VI (((q1.tail.tail.hO).cs.getD 1 .any).toInt)],.vec 1 ((q1.tail.tail.tail.hO).es)]) (fun y1 q1=>.aj ((q1.hO)=.cells (q1.hO).cs)<|.aj (ae [.lk .str,.lk .sl] ((q1.hO).cs) 0 q1.tail)<|.aj (((q1.tail.drop 0).hO)=.cells ((q1.tail.drop 0).hO).cs)<|.aj (ae [.vec 1,.lk (.int .i64)] (((q1.tail.drop 0).hO).cs) 0 ((q1.tail.drop 0).tail))<|.done 0 [.agg [VS (((q1.hO).cs.getD 0 .any).ah),((q1.hO).cs.getD 1 .any)]] [.cells [.vec 1,VI (((q1.tail.hO).cs.getD 1 .any).toInt)],.vec 1 ((q1.tail.tail.hO).es)])) (.call 71 [.agg [VS a0_0,a0_1]] [] fun r2 o2=>NS r2<|.test (af r2.ah==af (mk [114,101,99])) (.call 111 [VI a3_1] [] fun r3 o3=>NS r3<|.aj (ac (mk [116])+ac r3.ah<=9223372036854775807)<|.loop ID HH [a1,a2,VS (((mk [116]):ByteArray)++r3.ah)] [.cells [.any,VI a3_1],.vec 1 e3_0,.cells [VS a0_0,a0_1],.cells [VS (mk []),.v (.slice none 0 0)]] (fun y6 q6=>NL (y6.hA)<|NL (y6.tail.hA)<|NS (y6.tail.tail.hA)<|.aj ((q6.hO)=.cells (q6.hO).cs)<|.aj (ae [.vec 1,.lk (.int .i64)] ((q6.hO).cs) 0 q6.tail)<|.aj (((q6.tail.drop 1).hO)=.cells ((q6.tail.drop 1).hO).cs)<|.aj (ae [.lk .str,.lk .sl] (((q6.tail.drop 1).hO).cs) 0 ((q6.tail.drop 1).tail))<|.aj ((((q6.tail.drop 1).tail.drop 0).hO)=.cells (((q6.tail.drop 1).tail.drop 0).hO).cs)<|.aj (ae [.lk .str,.lk .sl] ((((q6.tail.drop 1).tail.drop 0).hO).cs) 0 (((q6.tail.drop 1).tail.drop 0).tail))<|NG ((q6.tail.tail.hO).cs.getD 1 .any) 2 2<|NE (((q6.tail.tail.hO).cs.getD 1 .any).ix (2:Int))<|NG ((q6.tail.tail.hO).cs.getD 1 .any) 1 2<|mG (((q6.tail.tail.hO).cs.getD 1 .any).ix (1:Int))<|.call 61 [(y6.hA),VS (((((q6.tail.tail.hO).cs.getD 1 .any).ix (1:Int)).hA).ah)] [] fun r7 o7=>NL r7<|.call 61 [(y6.tail.hA),VS ((y6.tail.tail.hA).ah)] [] fun r8 o8=>NL r8<|.call 112 [.agg [VS (((((q6.tail.tail.hO).cs.getD 1 .any).ix (2:Int)).getD 0 .any).ah),((((q6.tail.tail.hO).cs.getD 1 .any).ix (2:Int)).getD 1 .any)],r7,r8,.ref 0 0] [.cells [.vec 1,VI (IntKind.wrap .i64 ((((q6.hO).cs.getD 1 .any).toInt)+1))],.vec 1 ((q6.tail.hO).es)] fun r9 o9=>.aj ((o9.hO)=.cells (o9.hO).cs)<|.aj (aK [.vec 1,.lk (.int .i64)] ((o9.hO).cs) 0 1 o9.tail)<|NA r9<|.call 78 [VS (mk [114,101,99]),.sl [[VS ((y6.tail.tail.hA).ah),.v (.slice none 0 0)],[VS ((r9.cs.getD 0 .any).ah),(r9.cs.getD 1 .any)]]] [] fun r10 o10=>NA r10<|.done 0 [.agg [VS ((r10.cs.getD 0 .any).ah),(r10.cs.getD 1 .any)]] [.cells [.vec 1,VI (((o9.hO).cs.getD 1 .any).toInt)],.vec 1 ((o9.tail.hO).es)]) (fun y6 q6=>.aj ((q6.hO)=.cells (q6.hO).cs)<|.aj (ae [.vec 1,.lk (.int .i64)] ((q6.hO).cs) 0 q6.tail)<|.fail)) (NG a0_1 1 2<|NE (a0_1.ix (1:Int))<|.call 112 [.agg [VS (((a0_1.ix (1:Int)).getD 0 .any).ah),((a0_1.ix (1:Int)).getD 1 .any)],a1,a2,.ref 0 0] [.cells [.vec 1,VI a3_1],.vec 1 e3_0] fun r11 o11=>.aj ((o11.hO)=.cells (o11.hO).cs)<|.aj (aK [.vec 1,.lk (.int .i64)] ((o11.hO).cs) 0 1 o11.tail)<|NA r11<|.call 71 [.agg [VS a0_0,a0_1]] [] fun r12 o12=>NS r12<|NG a0_1 2 2<|NE (a0_1.ix (2:Int))<|.call 112 [.agg [VS (((a0_1.ix (2:Int)).getD 0 .any).ah),((a0_1.ix (2:Int)).getD 1 .any)],a1,a2,.ref 0 0] [.cells [.vec 1,VI (((o11.hO).cs.getD 1 .any).toInt)],.vec 1 ((o11.tail.hO).es)] fun r13 o13=>.aj ((o13.hO)=.cells (o13.hO).cs)<|.aj (aK [.vec 1,.lk (.int .i64)] ((o13.hO).cs) 0 1 o13.tail)<|NA r13<|.call 78 [VS r12.ah,.sl [[VS ((r11.cs.getD 0 .any).ah),(r11.cs.getD 1 .any)],[VS ((r13.cs.getD 0 .any).ah),(r13.cs.getD 1 .any)]]] [] fun r14 o14=>NA r14<|.done 0 [.agg [VS ((r14.cs.getD 0 .any).ah),(r14.cs.getD 1 .any)]] [.cells [.vec 1,VI (((o13.hO).cs.getD 1 .any).toInt)],.vec 1 ((o13.tail.hO).es)]))
theorem CO(a0_0:ByteArray)(a0_1:AV)(a1:AV)(a2:AV)(e3_0:List (List AV))(a3_1:Int)(ha0_1:LK.has .sl a0_1)(ha1:LK.has .sl a1)(ha2:LK.has .sl a2)(h:dz 113 (Aj a0_0 a0_1 a1 a2 e3_0 a3_1) R):ap Tryz.prog 112 [.agg [VS a0_0,a0_1],a1,a2,.ref 0 0] [.cells [.vec 1,VI a3_1],.vec 1 e3_0] R :=
 ap.nu (bi (bQ (ag (aA _) (ag (aA _) aE))) (bi (fg _) cm)) (ap.up (ag (cF (ag (aA _) (ag (ca ha0_1) aE))) (ag (ca ha1) (ag (ca ha2) (ag (aA _) aE)))) (oF GQ {mu:=[(3,.one (.obj [.vec 1,.lk (.int .i64)]))],own:=[]} Tryz.f112 h))
def FU(x1:AV)(x2:AV)(x9:Int)(o4_0:ByteArray)(o4_1:AV)(o8_0:ByteArray)(o8_1:AV)(o0_0:List (List AV))(o0_1:Int):Tree :=
 NL x1<|NL x2<|NI (VI x9)<|.aj (Ob.cells [VS o4_0,o4_1]=.cells [VS o4_0,o4_1])<|.aj (ae [.lk .str,.lk .sl] [VS o4_0,o4_1] 0 [.cells [VS o8_0,o8_1],.cells [.any,VI o0_1],.vec 1 o0_0])<|.aj (Ob.cells [VS o8_0,o8_1]=.cells [VS o8_0,o8_1])<|.aj (ae [.lk .str,.lk .sl] [VS o8_0,o8_1] 0 [.cells [.any,VI o0_1],.vec 1 o0_0])<|.aj (Ob.cells [.any,VI o0_1]=.cells [.any,VI o0_1])<|.aj (ae [.vec 1,.lk (.int .i64)] [.any,VI o0_1] 0 [.vec 1 o0_0])<|.test (decide (x9≥(0:Int))) (NG x1 x9 1<|mG (x1.ix x9)<|.test (af (((x1.ix x9).hA).ah)==af o4_0) (NG x2 x9 1<|mG (x2.ix x9)<|.done 2 [] [.cells [VS (((x2.ix x9).hA).ah),.v (.slice none 0 0)],.cells [.any,VI o0_1],.vec 1 o0_0]) (.done 0 [x1,x2,VI (IntKind.wrap .i64 (x9-1))] [.cells [VS o4_0,o4_1],.cells [VS o8_0,o8_1],.cells [.any,VI o0_1],.vec 1 o0_0])) (.done 1 [] [.cells [VS o4_0,o4_1],.cells [VS o8_0,o8_1],.cells [.any,VI o0_1],.vec 1 o0_0])
abbrev EV:=cn Tryz.prog 113 I2 ER
theorem M7(x1:AV)(x2:AV)(x9:Int)(o4_0:ByteArray)(o4_1:AV)(o8_0:ByteArray)(o8_1:AV)(o0_0:List (List AV))(o0_1:Int)(h:kk 113 (FU x1 x2 x9 o4_0 o4_1 o8_0 o8_1 o0_0 o0_1) EV U):EV [x1,x2,VI x9] [.cells [VS o4_0,o4_1],.cells [VS o8_0,o8_1],.cells [.any,VI o0_1],.vec 1 o0_0] U :=
 gQ GQ h
def Mz(x1:AV)(x2:AV)(x10:ByteArray)(o0_0:List (List AV))(o0_1:Int)(o4_0:ByteArray)(o4_1:AV)(o8_0:ByteArray)(o8_1:AV):Tree :=
 NL x1<|NL x2<|NS (VS x10)<|.aj (Ob.cells [.any,VI o0_1]=.cells [.any,VI o0_1])<|.aj (ae [.vec 1,.lk (.int .i64)] [.any,VI o0_1] 0 [.vec 1 o0_0,.cells [VS o4_0,o4_1],.cells [VS o8_0,o8_1]])<|.aj (Ob.cells [VS o4_0,o4_1]=.cells [VS o4_0,o4_1])<|.aj (ae [.lk .str,.lk .sl] [VS o4_0,o4_1] 0 [.cells [VS o8_0,o8_1]])<|.aj (Ob.cells [VS o8_0,o8_1]=.cells [VS o8_0,o8_1])<|.aj (ae [.lk .str,.lk .sl] [VS o8_0,o8_1] 0 [])<|.call 139 [.sl o0_0,VS x10] [] fun r1 o1=>NB r1<|.test r1.toBool (.call 111 [VI (IntKind.wrap .i64 (o0_1+1))] [] fun r2 o2=>NS r2<|.aj (ac (mk [116])+ac r2.ah<=9223372036854775807)<|.done 0 [x1,x2,VS (((mk [116]):ByteArray)++r2.ah)] [.cells [.any,VI (IntKind.wrap .i64 (o0_1+1))],.vec 1 o0_0,.cells [VS o4_0,o4_1],.cells [VS o8_0,o8_1]]) (.done 1 [x1,x2,VS x10] [.cells [.any,VI o0_1],.vec 1 o0_0,.cells [VS o4_0,o4_1],.cells [VS o8_0,o8_1]])
abbrev FE:=cn Tryz.prog 113 ID HH
theorem Pm(x1:AV)(x2:AV)(x10:ByteArray)(o0_0:List (List AV))(o0_1:Int)(o4_0:ByteArray)(o4_1:AV)(o8_0:ByteArray)(o8_1:AV)(h:kk 113 (Mz x1 x2 x10 o0_0 o0_1 o4_0 o4_1 o8_0 o8_1) FE U):FE [x1,x2,VS x10] [.cells [.any,VI o0_1],.vec 1 o0_0,.cells [VS o4_0,o4_1],.cells [VS o8_0,o8_1]] U :=
 gQ GQ h
def Jo(a0:ByteArray):Tree :=
 .test (decide ((ac a0:Int)>(8000:Int))) (.done 0 [.v (.pointer none)] []) (.call 144 [VS a0,VI 0] [] fun r1 o1=>NT r1<|NP (r1.comp 0)<|NS (r1.comp 1)<|.test (!(af ((r1.comp 1).ah)==af (mk []))) (.done 0 [.v (.pointer none)] []) (.done 0 [(r1.comp 0)] []))
theorem OS(a0:ByteArray)(h:dz 16 (Jo a0) R):ap Tryz.prog 113 [VS a0] [] R :=
 uQ (ag (aA _) aE) (oQ [] Tryz.f113 h)
def GA:LI:={hd:={bN:=[(0,.k .ptr),(1,.k .sl),(5,.k (.int .i64))]},xs:={bN:=[(0,.k .ptr)]},rt:={refs:=[(4,69)],cg:=[(69,[.lk (.int .u8),.lk .str,.lk (.int .i64),.lk .ptr,.lk .ptr])]},ex:=1}
def JV:Code:=cz (ct Tryz.f114) 7
def I9:List (Nat×LI):=[(7,GA)]
def EC(a0:AV)(a1:AV):Tree :=
 NZ a0<|NZ a0<|.aj (LK.has .str (a0.deref.hA)/\1<=a0.deref.length)<|.test (af ((a0.deref.hA).ah)==af (mk [48])) (NZ a0<|NZ a0<|.aj (LK.has .str (a0.deref.hA)/\1<=a0.deref.length)<|.aj (0<=(0:Int)/\(0:Int)<ac ((a0.deref.hA).ah))<|.done 0 [.ptr [.v (.int .u8 (bt ((a0.deref.hA).ah) 0)),VS (mk []),VI 0,.v (.pointer none),.v (.pointer none)]] []) (NZ a0<|NZ a0<|.aj (LK.has .str (a0.deref.hA)/\1<=a0.deref.length)<|.test (af ((a0.deref.hA).ah)==af (mk [49])) (NZ a0<|NZ a0<|.aj (LK.has .str (a0.deref.hA)/\1<=a0.deref.length)<|.aj (0<=(0:Int)/\(0:Int)<ac ((a0.deref.hA).ah))<|.done 0 [.ptr [.v (.int .u8 (bt ((a0.deref.hA).ah) 0)),VS (mk []),VI 0,.v (.pointer none),.v (.pointer none)]] []) (NZ a0<|NZ a0<|.aj (LK.has .str (a0.deref.hA)/\1<=a0.deref.length)<|.call 145 [VS ((a0.deref.hA).ah)] [] fun r1 o1=>NB r1<|.test r1.toBool (NZ a0<|NZ a0<|.aj (LK.has .str (a0.deref.hA)/\1<=a0.deref.length)<|.done 0 [.ptr [.v (.int .u8 110),VS ((a0.deref.hA).ah),VI 0,.v (.pointer none),.v (.pointer none)]] []) (NZ a0<|NZ a0<|.aj (LK.has .str (a0.deref.hA)/\1<=a0.deref.length)<|.call 146 [VS ((a0.deref.hA).ah)] [] fun r2 o2=>NB r2<|.test r2.toBool (NL a1<|.loop JV GA [a0,a1,VI (IntKind.wrap .i64 ((a1.aO.length:Int)-1))] [] (fun y3 q3=>NP (y3.hA)<|NZ (y3.hA)<|NZ (y3.hA)<|.aj (LK.has .str ((y3.hA).deref.hA)/\1<=((y3.hA).deref).length)<|.done 0 [.ptr [.v (.int .u8 110),VS (((y3.hA).deref.hA).ah),VI 0,.v (.pointer none),.v (.pointer none)]] []) (fun y3 q3=>.aj ((q3.hO)=.cells (q3.hO).cs)<|.aj (ae [.lk (.int .u8),.lk .str,.lk (.int .i64),.lk .ptr,.lk .ptr] ((q3.hO).cs) 0 q3.tail)<|.done 0 [.ptr [.v (.int .u8 (((q3.hO).cs.getD 0 .any).toInt)),VS (((q3.hO).cs.getD 1 .any).ah),VI (((q3.hO).cs.getD 2 .any).toInt),((q3.hO).cs.getD 3 .any),((q3.hO).cs.getD 4 .any)]] [])) (.call 147 [a0,VS (mk [43]),VI 3] [] fun r4 o4=>NB r4<|.test r4.toBool (NZ a0<|NZ a0<|qg (a0.deref.drop 1)<|NG ((a0.deref.drop 1).hA) 1 1<|eE (((a0.deref.drop 1).hA).ix (1:Int))<|.call 114 [((((a0.deref.drop 1).hA).ix (1:Int)).hA),a1] [] fun r5 o5=>NP r5<|NZ a0<|NZ a0<|qg (a0.deref.drop 1)<|NG ((a0.deref.drop 1).hA) 2 1<|eE (((a0.deref.drop 1).hA).ix (2:Int))<|.call 114 [((((a0.deref.drop 1).hA).ix (2:Int)).hA),a1] [] fun r6 o6=>NP r6<|NP r5<|.test r5.isNil (.done 0 [.v (.pointer none)] []) (NP r6<|.test r6.isNil (.done 0 [.v (.pointer none)] []) (NZ a0<|NZ a0<|qg (a0.deref.drop 1)<|NG ((a0.deref.drop 1).hA) 0 1<|eE (((a0.deref.drop 1).hA).ix (0:Int))<|NZ ((((a0.deref.drop 1).hA).ix (0:Int)).hA)<|NZ ((((a0.deref.drop 1).hA).ix (0:Int)).hA)<|.aj (LK.has .str (((((a0.deref.drop 1).hA).ix (0:Int)).hA).deref.hA)/\1<=(((((a0.deref.drop 1).hA).ix (0:Int)).hA).deref).length)<|.aj (0<=(0:Int)/\(0:Int)<ac ((((((a0.deref.drop 1).hA).ix (0:Int)).hA).deref.hA).ah))<|.done 0 [.ptr [.v (.int .u8 (bt ((((((a0.deref.drop 1).hA).ix (0:Int)).hA).deref.hA).ah) 0)),VS (mk []),VI 0,r5,r6]] []))) (.call 147 [a0,VS (mk [42]),VI 3] [] fun r7 o7=>NB r7<|.test r7.toBool (NZ a0<|NZ a0<|qg (a0.deref.drop 1)<|NG ((a0.deref.drop 1).hA) 1 1<|eE (((a0.deref.drop 1).hA).ix (1:Int))<|.call 114 [((((a0.deref.drop 1).hA).ix (1:Int)).hA),a1] [] fun r8 o8=>NP r8<|NZ a0<|NZ a0<|qg (a0.deref.drop 1)<|NG ((a0.deref.drop 1).hA) 2 1<|eE (((a0.deref.drop 1).hA).ix (2:Int))<|.call 114 [((((a0.deref.drop 1).hA).ix (2:Int)).hA),a1] [] fun r9 o9=>NP r9<|NP r8<|.test r8.isNil (.done 0 [.v (.pointer none)] []) (NP r9<|.test r9.isNil (.done 0 [.v (.pointer none)] []) (NZ a0<|NZ a0<|qg (a0.deref.drop 1)<|NG ((a0.deref.drop 1).hA) 0 1<|eE (((a0.deref.drop 1).hA).ix (0:Int))<|NZ ((((a0.deref.drop 1).hA).ix (0:Int)).hA)<|NZ ((((a0.deref.drop 1).hA).ix (0:Int)).hA)<|.aj (LK.has .str (((((a0.deref.drop 1).hA).ix (0:Int)).hA).deref.hA)/\1<=(((((a0.deref.drop 1).hA).ix (0:Int)).hA).deref).length)<|.aj (0<=(0:Int)/\(0:Int)<ac ((((((a0.deref.drop 1).hA).ix (0:Int)).hA).deref.hA).ah))<|.done 0 [.ptr [.v (.int .u8 (bt ((((((a0.deref.drop 1).hA).ix (0:Int)).hA).deref.hA).ah) 0)),VS (mk []),VI 0,r8,r9]] []))) (.call 147 [a0,VS (mk [114,101,99]),VI 3] [] fun r10 o10=>NB r10<|.test r10.toBool (NZ a0<|NZ a0<|qg (a0.deref.drop 1)<|NG ((a0.deref.drop 1).hA) 1 1<|eE (((a0.deref.drop 1).hA).ix (1:Int))<|NZ ((((a0.deref.drop 1).hA).ix (1:Int)).hA)<|NZ ((((a0.deref.drop 1).hA).ix (1:Int)).hA)<|.aj (LK.has .str (((((a0.deref.drop 1).hA).ix (1:Int)).hA).deref.hA)/\1<=(((((a0.deref.drop 1).hA).ix (1:Int)).hA).deref).length)<|.call 146 [VS ((((((a0.deref.drop 1).hA).ix (1:Int)).hA).deref.hA).ah)] [] fun r11 o11=>NB r11<|.test r11.toBool (NZ a0<|NZ a0<|qg (a0.deref.drop 1)<|NG ((a0.deref.drop 1).hA) 2 1<|eE (((a0.deref.drop 1).hA).ix (2:Int))<|.aj (LK.has .sl a1/\bV 1 a1.aO/\((([]:List (List AV)).length)+a1.aO.length)*16<=140737488355328)<|NZ a0<|NZ a0<|qg (a0.deref.drop 1)<|NG ((a0.deref.drop 1).hA) 1 1<|eE (((a0.deref.drop 1).hA).ix (1:Int))<|NZ ((((a0.deref.drop 1).hA).ix (1:Int)).hA)<|NZ ((((a0.deref.drop 1).hA).ix (1:Int)).hA)<|.aj (LK.has .str (((((a0.deref.drop 1).hA).ix (1:Int)).hA).deref.hA)/\1<=(((((a0.deref.drop 1).hA).ix (1:Int)).hA).deref).length)<|.aj (bV 1 [[VS ((((((a0.deref.drop 1).hA).ix (1:Int)).hA).deref.hA).ah)]]/\(((([]:List (List AV))++a1.aO).length)+([[VS ((((((a0.deref.drop 1).hA).ix (1:Int)).hA).deref.hA).ah)]]:List (List AV)).length)*16<=140737488355328)<|.call 114 [((((a0.deref.drop 1).hA).ix (2:Int)).hA),.sl ((([]:List (List AV))++a1.aO)++([[VS ((((((a0.deref.drop 1).hA).ix (1:Int)).hA).deref.hA).ah)]]:List (List AV)))] [] fun r12 o12=>NP r12<|NP r12<|.test r12.isNil (.done 0 [.v (.pointer none)] []) (.done 0 [.ptr [.v (.int .u8 114),VS (mk []),VI 0,r12,.v (.pointer none)]] [])) (.done 0 [.v (.pointer none)] [])) (.done 0 [.v (.pointer none)] [])))))))
theorem If(a0:AV)(a1:AV)(ha0:LK.has .ptr a0)(ha1:LK.has .sl a1)(h:dz 160 (EC a0 a1) R):ap Tryz.prog 114 [a0,a1] [] R :=
 uQ (ag (bD ha0) (ag (ca ha1) aE)) (oQ I9 Tryz.f114 h)
def Gc(x0:AV)(x1:AV)(x5:Int):Tree :=
 NP x0<|NL x1<|NI (VI x5)<|.test (decide (x5≥(0:Int))) (NG x1 x5 1<|mG (x1.ix x5)<|NZ x0<|NZ x0<|.aj (LK.has .str (x0.deref.hA)/\1<=x0.deref.length)<|.test (af (((x1.ix x5).hA).ah)==af ((x0.deref.hA).ah)) (NL x1<|.done 2 [] [.cells [.v (.int .u8 98),VS (mk []),VI (IntKind.wrap .i64 ((IntKind.wrap .i64 ((x1.aO.length:Int)-1))-x5)),.v (.pointer none),.v (.pointer none)]]) (.done 0 [x0,x1,VI (IntKind.wrap .i64 (x5-1))] [])) (.done 1 [x0] [])
abbrev Hk:=cn Tryz.prog 160 JV GA
theorem KR(x0:AV)(x1:AV)(x5:Int)(h:kk 160 (Gc x0 x1 x5) Hk U):Hk [x0,x1,VI x5] [] U :=
 gQ I9 h
def D2(a0:AV):Tree :=
 NZ a0<|NZ a0<|.aj (LK.has (.int .u8) (a0.deref.hA)/\1<=a0.deref.length)<|.test (((a0.deref.hA).toInt)==(43:Int)) (NZ a0<|NZ a0<|eE (a0.deref.drop 3)<|.call 115 [((a0.deref.drop 3).hA)] [] fun r1 o1=>NI r1<|NZ a0<|NZ a0<|eE (a0.deref.drop 4)<|.call 115 [((a0.deref.drop 4).hA)] [] fun r2 o2=>NI r2<|.done 0 [VI (IntKind.wrap .i64 ((IntKind.wrap .i64 (1+r1.toInt))+r2.toInt))] []) (.test (((a0.deref.hA).toInt)==(42:Int)) (NZ a0<|NZ a0<|eE (a0.deref.drop 3)<|.call 115 [((a0.deref.drop 3).hA)] [] fun r3 o3=>NI r3<|NZ a0<|NZ a0<|eE (a0.deref.drop 4)<|.call 115 [((a0.deref.drop 4).hA)] [] fun r4 o4=>NI r4<|.done 0 [VI (IntKind.wrap .i64 ((IntKind.wrap .i64 (1+r3.toInt))+r4.toInt))] []) (.test (((a0.deref.hA).toInt)==(114:Int)) (NZ a0<|NZ a0<|eE (a0.deref.drop 3)<|.call 115 [((a0.deref.drop 3).hA)] [] fun r5 o5=>NI r5<|.done 0 [VI (IntKind.wrap .i64 (2+r5.toInt))] []) (.done 0 [VI 1] [])))
theorem FI(a0:AV)(ha0:LK.has .ptr a0)(h:dz 30 (D2 a0) R):ap Tryz.prog 115 [a0] [] R :=
 uQ (ag (bD ha0) aE) (oQ [] Tryz.f115 h)
def Jz(a0_0:Int)(a0_1:Bool):Tree :=
 .call 148 [VI (IntKind.wrap .i64 (a0_0+1))] [] fun r1 o1=>NS r1<|.aj (ac (mk [35])+ac r1.ah<=9223372036854775807)<|.done 0 [VS (((mk [35]):ByteArray)++r1.ah)] [.cells [VI (IntKind.wrap .i64 (a0_0+1)),VB a0_1]]
theorem Oi(a0_0:Int)(a0_1:Bool)(h:dz 16 (Jz a0_0 a0_1) R):ap Tryz.prog 116 [.ref 0 0] [.cells [VI a0_0,VB a0_1]] R :=
 ap.nu (bi (bQ (ag (aA _) (ag (Gh _) aE))) cm) (ap.up (ag (aA _) aE) (oF [] {mu:=[(0,.one (.obj [.lk (.int .i64),.lk .bool]))],own:=[]} Tryz.f116 h))
def Kx(a0_0:Int)(a0_1:Bool)(a1:AV):Tree :=
 .test a0_1 (.done 0 [.ptr [.v (.int .u8 48),VS (mk []),VI 0,.v (.pointer none),.v (.pointer none)]] [.cells [VI a0_0,VB true]]) (.call 115 [a1] [] fun r1 o1=>NI r1<|.test (decide (r1.toInt>(400:Int))) (.done 0 [.ptr [.v (.int .u8 48),VS (mk []),VI 0,.v (.pointer none),.v (.pointer none)]] [.cells [VI a0_0,VB true]]) (.done 0 [a1] [.cells [VI a0_0,VB a0_1]]))
theorem Oa(a0_0:Int)(a0_1:Bool)(a1:AV)(ha1:LK.has .ptr a1)(h:dz 20 (Kx a0_0 a0_1 a1) R):ap Tryz.prog 117 [.ref 0 0,a1] [.cells [VI a0_0,VB a0_1]] R :=
 ap.nu (bi (bQ (ag (aA _) (ag (Gh _) aE))) cm) (ap.up (ag (aA _) (ag (bD ha1) aE)) (oF [] {mu:=[(0,.one (.obj [.lk (.int .i64),.lk .bool]))],own:=[]} Tryz.f117 h))
def DD(a0_0:Int)(a0_1:Bool)(a1:AV)(a2:ByteArray):Tree :=
 .test a0_1 (.done 0 [.ptr [.v (.int .u8 48),VS (mk []),VI 0,.v (.pointer none),.v (.pointer none)]] [.cells [VI a0_0,VB a0_1]]) (NZ a1<|NZ a1<|.aj (LK.has (.int .u8) (a1.deref.hA)/\1<=a1.deref.length)<|.test (((a1.deref.hA).toInt)==(110:Int)) (NZ a1<|NZ a1<|mG (a1.deref.drop 1)<|.test (af (((a1.deref.drop 1).hA).ah)==af a2) (.done 0 [.ptr [.v (.int .u8 49),VS (mk []),VI 0,.v (.pointer none),.v (.pointer none)]] [.cells [VI a0_0,VB a0_1]]) (.done 0 [.ptr [.v (.int .u8 48),VS (mk []),VI 0,.v (.pointer none),.v (.pointer none)]] [.cells [VI a0_0,VB a0_1]])) (.test (((a1.deref.hA).toInt)==(43:Int)) (NZ a1<|NZ a1<|eE (a1.deref.drop 3)<|.call 118 [.ref 0 0,((a1.deref.drop 3).hA),VS a2] [.cells [VI a0_0,VB a0_1]] fun r1 o1=>.aj ((o1.hO)=.cells (o1.hO).cs)<|.aj (aK [.lk (.int .i64),.lk .bool] ((o1.hO).cs) 0 1 o1.tail)<|NP r1<|NZ a1<|NZ a1<|eE (a1.deref.drop 4)<|.call 118 [.ref 0 0,((a1.deref.drop 4).hA),VS a2] [.cells [VI (((o1.hO).cs.getD 0 .any).toInt),VB (((o1.hO).cs.getD 1 .any).toBool)]] fun r2 o2=>.aj ((o2.hO)=.cells (o2.hO).cs)<|.aj (aK [.lk (.int .i64),.lk .bool] ((o2.hO).cs) 0 1 o2.tail)<|NP r2<|.call 149 [.v (.int .u8 43),r1,r2] [] fun r3 o3=>NP r3<|.call 117 [.ref 0 0,r3] [.cells [VI (((o2.hO).cs.getD 0 .any).toInt),VB (((o2.hO).cs.getD 1 .any).toBool)]] fun r4 o4=>.aj ((o4.hO)=.cells (o4.hO).cs)<|.aj (aK [.lk (.int .i64),.lk .bool] ((o4.hO).cs) 0 1 o4.tail)<|NP r4<|.done 0 [r4] [.cells [VI (((o4.hO).cs.getD 0 .any).toInt),VB (((o4.hO).cs.getD 1 .any).toBool)]]) (.test (((a1.deref.hA).toInt)==(42:Int)) (NZ a1<|NZ a1<|eE (a1.deref.drop 3)<|.call 118 [.ref 0 0,((a1.deref.drop 3).hA),VS a2] [.cells [VI a0_0,VB a0_1]] fun r5 o5=>.aj ((o5.hO)=.cells (o5.hO).cs)<|.aj (aK [.lk (.int .i64),.lk .bool] ((o5.hO).cs) 0 1 o5.tail)<|NP r5<|NZ a1<|NZ a1<|eE (a1.deref.drop 4)<|.call 149 [.v (.int .u8 42),r5,((a1.deref.drop 4).hA)] [] fun r6 o6=>NP r6<|NZ a1<|NZ a1<|eE (a1.deref.drop 3)<|NZ a1<|NZ a1<|eE (a1.deref.drop 4)<|.call 118 [.ref 0 0,((a1.deref.drop 4).hA),VS a2] [.cells [VI (((o5.hO).cs.getD 0 .any).toInt),VB (((o5.hO).cs.getD 1 .any).toBool)]] fun r7 o7=>.aj ((o7.hO)=.cells (o7.hO).cs)<|.aj (aK [.lk (.int .i64),.lk .bool] ((o7.hO).cs) 0 1 o7.tail)<|NP r7<|.call 149 [.v (.int .u8 42),((a1.deref.drop 3).hA),r7] [] fun r8 o8=>NP r8<|.call 149 [.v (.int .u8 43),r6,r8] [] fun r9 o9=>NP r9<|.call 117 [.ref 0 0,r9] [.cells [VI (((o7.hO).cs.getD 0 .any).toInt),VB (((o7.hO).cs.getD 1 .any).toBool)]] fun r10 o10=>.aj ((o10.hO)=.cells (o10.hO).cs)<|.aj (aK [.lk (.int .i64),.lk .bool] ((o10.hO).cs) 0 1 o10.tail)<|NP r10<|.done 0 [r10] [.cells [VI (((o10.hO).cs.getD 0 .any).toInt),VB (((o10.hO).cs.getD 1 .any).toBool)]]) (.test (((a1.deref.hA).toInt)==(114:Int)) (.call 116 [.ref 0 0] [.cells [VI a0_0,VB a0_1]] fun r11 o11=>.aj ((o11.hO)=.cells (o11.hO).cs)<|.aj (aK [.lk (.int .i64),.lk .bool] ((o11.hO).cs) 0 1 o11.tail)<|NS r11<|NZ a1<|NZ a1<|eE (a1.deref.drop 3)<|.call 119 [((a1.deref.drop 3).hA),.ptr [.v (.int .u8 110),VS r11.ah,VI 0,.v (.pointer none),.v (.pointer none)],VI 0] [] fun r12 o12=>NP r12<|.call 118 [.ref 0 0,r12,VS a2] [.cells [VI (((o11.hO).cs.getD 0 .any).toInt),VB (((o11.hO).cs.getD 1 .any).toBool)]] fun r13 o13=>.aj ((o13.hO)=.cells (o13.hO).cs)<|.aj (aK [.lk (.int .i64),.lk .bool] ((o13.hO).cs) 0 1 o13.tail)<|NP r13<|.call 117 [.ref 0 0,r13] [.cells [VI (((o13.hO).cs.getD 0 .any).toInt),VB (((o13.hO).cs.getD 1 .any).toBool)]] fun r14 o14=>.aj ((o14.hO)=.cells (o14.hO).cs)<|.aj (aK [.lk (.int .i64),.lk .bool] ((o14.hO).cs) 0 1 o14.tail)<|NP r14<|.call 120 [r14,VS r11.ah,a1] [] fun r15 o15=>NP r15<|.call 118 [.ref 0 0,r12,VS r11.ah] [.cells [VI (((o14.hO).cs.getD 0 .any).toInt),VB (((o14.hO).cs.getD 1 .any).toBool)]] fun r16 o16=>.aj ((o16.hO)=.cells (o16.hO).cs)<|.aj (aK [.lk (.int .i64),.lk .bool] ((o16.hO).cs) 0 1 o16.tail)<|NP r16<|.call 117 [.ref 0 0,r16] [.cells [VI (((o16.hO).cs.getD 0 .any).toInt),VB (((o16.hO).cs.getD 1 .any).toBool)]] fun r17 o17=>.aj ((o17.hO)=.cells (o17.hO).cs)<|.aj (aK [.lk (.int .i64),.lk .bool] ((o17.hO).cs) 0 1 o17.tail)<|NP r17<|.call 120 [r17,VS r11.ah,a1] [] fun r18 o18=>NP r18<|.call 149 [.v (.int .u8 42),r18,.ptr [.v (.int .u8 98),VS (mk []),VI 0,.v (.pointer none),.v (.pointer none)]] [] fun r19 o19=>NP r19<|.call 149 [.v (.int .u8 43),r15,r19] [] fun r20 o20=>NP r20<|.call 117 [.ref 0 0,.ptr [.v (.int .u8 114),VS (mk []),VI 0,r20,.v (.pointer none)]] [.cells [VI (((o17.hO).cs.getD 0 .any).toInt),VB (((o17.hO).cs.getD 1 .any).toBool)]] fun r21 o21=>.aj ((o21.hO)=.cells (o21.hO).cs)<|.aj (aK [.lk (.int .i64),.lk .bool] ((o21.hO).cs) 0 1 o21.tail)<|NP r21<|.done 0 [r21] [.cells [VI (((o21.hO).cs.getD 0 .any).toInt),VB (((o21.hO).cs.getD 1 .any).toBool)]]) (.done 0 [.ptr [.v (.int .u8 48),VS (mk []),VI 0,.v (.pointer none),.v (.pointer none)]] [.cells [VI a0_0,VB a0_1]])))))
theorem Mw(a0_0:Int)(a0_1:Bool)(a1:AV)(a2:ByteArray)(ha1:LK.has .ptr a1)(h:dz 121 (DD a0_0 a0_1 a1 a2) R):ap Tryz.prog 118 [.ref 0 0,a1,VS a2] [.cells [VI a0_0,VB a0_1]] R :=
 ap.nu (bi (bQ (ag (aA _) (ag (Gh _) aE))) cm) (ap.up (ag (aA _) (ag (bD ha1) (ag (aA _) aE))) (oF [] {mu:=[(0,.one (.obj [.lk (.int .i64),.lk .bool]))],own:=[]} Tryz.f118 h))
def Ea(a0:AV)(a1:AV)(a2:Int):Tree :=
 NZ a0<|NZ a0<|.aj (LK.has (.int .u8) (a0.deref.hA)/\1<=a0.deref.length)<|.test (((a0.deref.hA).toInt)==(98:Int)) (NZ a0<|NZ a0<|.aj (LK.has (.int .i64) ((a0.deref.drop 2).hA)/\1<=(a0.deref.drop 2).length)<|.test ((((a0.deref.drop 2).hA).toInt)==a2) (.done 0 [a1] []) (.done 0 [a0] [])) (.test (((a0.deref.hA).toInt)==(43:Int)) (NZ a0<|NZ a0<|.aj (LK.has (.int .u8) (a0.deref.hA)/\1<=a0.deref.length)<|NZ a0<|NZ a0<|eE (a0.deref.drop 3)<|.call 119 [((a0.deref.drop 3).hA),a1,VI a2] [] fun r1 o1=>NP r1<|NZ a0<|NZ a0<|eE (a0.deref.drop 4)<|.call 119 [((a0.deref.drop 4).hA),a1,VI a2] [] fun r2 o2=>NP r2<|.done 0 [.ptr [.v (.int .u8 ((a0.deref.hA).toInt)),VS (mk []),VI 0,r1,r2]] []) (.test (((a0.deref.hA).toInt)==(42:Int)) (NZ a0<|NZ a0<|.aj (LK.has (.int .u8) (a0.deref.hA)/\1<=a0.deref.length)<|NZ a0<|NZ a0<|eE (a0.deref.drop 3)<|.call 119 [((a0.deref.drop 3).hA),a1,VI a2] [] fun r3 o3=>NP r3<|NZ a0<|NZ a0<|eE (a0.deref.drop 4)<|.call 119 [((a0.deref.drop 4).hA),a1,VI a2] [] fun r4 o4=>NP r4<|.done 0 [.ptr [.v (.int .u8 ((a0.deref.hA).toInt)),VS (mk []),VI 0,r3,r4]] []) (.test (((a0.deref.hA).toInt)==(114:Int)) (NZ a0<|NZ a0<|eE (a0.deref.drop 3)<|.call 119 [((a0.deref.drop 3).hA),a1,VI (IntKind.wrap .i64 (a2+1))] [] fun r5 o5=>NP r5<|.done 0 [.ptr [.v (.int .u8 114),VS (mk []),VI 0,r5,.v (.pointer none)]] []) (.done 0 [a0] []))))
theorem Fg(a0:AV)(a1:AV)(a2:Int)(ha0:LK.has .ptr a0)(ha1:LK.has .ptr a1)(h:dz 56 (Ea a0 a1 a2) R):ap Tryz.prog 119 [a0,a1,VI a2] [] R :=
 uQ (ag (bD ha0) (ag (bD ha1) (ag (aA _) aE))) (oQ [] Tryz.f119 h)
def DN(a0:AV)(a1:ByteArray)(a2:AV):Tree :=
 NZ a0<|NZ a0<|.aj (LK.has (.int .u8) (a0.deref.hA)/\1<=a0.deref.length)<|.test (((a0.deref.hA).toInt)==(110:Int)) (NZ a0<|NZ a0<|mG (a0.deref.drop 1)<|.test (af (((a0.deref.drop 1).hA).ah)==af a1) (.done 0 [a2] []) (.done 0 [a0] [])) (.test (((a0.deref.hA).toInt)==(43:Int)) (NZ a0<|NZ a0<|.aj (LK.has (.int .u8) (a0.deref.hA)/\1<=a0.deref.length)<|NZ a0<|NZ a0<|eE (a0.deref.drop 3)<|.call 120 [((a0.deref.drop 3).hA),VS a1,a2] [] fun r1 o1=>NP r1<|NZ a0<|NZ a0<|eE (a0.deref.drop 4)<|.call 120 [((a0.deref.drop 4).hA),VS a1,a2] [] fun r2 o2=>NP r2<|.done 0 [.ptr [.v (.int .u8 ((a0.deref.hA).toInt)),VS (mk []),VI 0,r1,r2]] []) (.test (((a0.deref.hA).toInt)==(42:Int)) (NZ a0<|NZ a0<|.aj (LK.has (.int .u8) (a0.deref.hA)/\1<=a0.deref.length)<|NZ a0<|NZ a0<|eE (a0.deref.drop 3)<|.call 120 [((a0.deref.drop 3).hA),VS a1,a2] [] fun r3 o3=>NP r3<|NZ a0<|NZ a0<|eE (a0.deref.drop 4)<|.call 120 [((a0.deref.drop 4).hA),VS a1,a2] [] fun r4 o4=>NP r4<|.done 0 [.ptr [.v (.int .u8 ((a0.deref.hA).toInt)),VS (mk []),VI 0,r3,r4]] []) (.test (((a0.deref.hA).toInt)==(114:Int)) (NZ a0<|NZ a0<|eE (a0.deref.drop 3)<|.call 120 [((a0.deref.drop 3).hA),VS a1,a2] [] fun r5 o5=>NP r5<|.done 0 [.ptr [.v (.int .u8 114),VS (mk []),VI 0,r5,.v (.pointer none)]] []) (.done 0 [a0] []))))
theorem ED(a0:AV)(a1:ByteArray)(a2:AV)(ha0:LK.has .ptr a0)(ha2:LK.has .ptr a2)(h:dz 55 (DN a0 a1 a2) R):ap Tryz.prog 120 [a0,VS a1,a2] [] R :=
 uQ (ag (bD ha0) (ag (aA _) (ag (bD ha2) aE))) (oQ [] Tryz.f120 h)
def IM(a0:AV):Tree :=
 .call 150 [a0] [] fun r1 o1=>NL r1<|.call 151 [a0,.v (.slice none 0 0),.fM 151 [none,some 0,some 1],.ref 0 0,.ref 1 0] [.cells [r1],.cells [VI 0]] fun r2 o2=>.aj ((o2.hO)=.cells (o2.hO).cs)<|.aj (aK [.lk .sl] ((o2.hO).cs) 0 1 o2.tail)<|.aj ((o2.tail.hO)=.cells (o2.tail.hO).cs)<|.aj (aK [.lk (.int .i64)] ((o2.tail.hO).cs) 0 2 o2.tail.tail)<|NS r2<|.done 0 [VS r2.ah] []
theorem PE(a0:AV)(ha0:LK.has .ptr a0)(h:dz 12 (IM a0) R):ap Tryz.prog 121 [a0] [] R :=
 uQ (ag (bD ha0) aE) (oQ [] Tryz.f121 h)
def Ky(a0:AV):Tree :=
 .call 150 [a0] [] fun r1 o1=>NL r1<|.call 153 [r1,.v (.func (.func 146) #[] #[])] [] fun r2 o2=>NB r2<|.done 0 [VB (!r2.toBool)] []
theorem NN(a0:AV)(ha0:LK.has .ptr a0)(h:dz 7 (Ky a0) R):ap Tryz.prog 122 [a0] [] R :=
 uQ (ag (bD ha0) aE) (oQ [] Tryz.f122 h)
def Fw(a0:AV):Tree :=
 NZ a0<|NZ a0<|.aj (LK.has .str (a0.deref.hA)/\1<=a0.deref.length)<|.test (af ((a0.deref.hA).ah)==af (mk [117])) (.done 0 [.ptr [.v (.int .u8 117),VS (mk []),.v (.pointer none),.v (.pointer none)]] []) (NZ a0<|NZ a0<|.aj (LK.has .str (a0.deref.hA)/\1<=a0.deref.length)<|.call 154 [VS ((a0.deref.hA).ah)] [] fun r1 o1=>NB r1<|.test r1.toBool (NZ a0<|NZ a0<|.aj (LK.has .str (a0.deref.hA)/\1<=a0.deref.length)<|.done 0 [.ptr [.v (.int .u8 101),VS ((a0.deref.hA).ah),.v (.pointer none),.v (.pointer none)]] []) (.call 147 [a0,VS (mk [108]),VI 2] [] fun r2 o2=>NB r2<|.test r2.toBool (NZ a0<|NZ a0<|qg (a0.deref.drop 1)<|NG ((a0.deref.drop 1).hA) 1 1<|eE (((a0.deref.drop 1).hA).ix (1:Int))<|.call 123 [((((a0.deref.drop 1).hA).ix (1:Int)).hA)] [] fun r3 o3=>NP r3<|NP r3<|.test r3.isNil (.done 0 [.v (.pointer none)] []) (NZ a0<|NZ a0<|qg (a0.deref.drop 1)<|NG ((a0.deref.drop 1).hA) 0 1<|eE (((a0.deref.drop 1).hA).ix (0:Int))<|NZ ((((a0.deref.drop 1).hA).ix (0:Int)).hA)<|NZ ((((a0.deref.drop 1).hA).ix (0:Int)).hA)<|.aj (LK.has .str (((((a0.deref.drop 1).hA).ix (0:Int)).hA).deref.hA)/\1<=(((((a0.deref.drop 1).hA).ix (0:Int)).hA).deref).length)<|.aj (0<=(0:Int)/\(0:Int)<ac ((((((a0.deref.drop 1).hA).ix (0:Int)).hA).deref.hA).ah))<|.done 0 [.ptr [.v (.int .u8 (bt ((((((a0.deref.drop 1).hA).ix (0:Int)).hA).deref.hA).ah) 0)),VS (mk []),r3,.v (.pointer none)]] [])) (.call 147 [a0,VS (mk [114]),VI 2] [] fun r4 o4=>NB r4<|.test r4.toBool (NZ a0<|NZ a0<|qg (a0.deref.drop 1)<|NG ((a0.deref.drop 1).hA) 1 1<|eE (((a0.deref.drop 1).hA).ix (1:Int))<|.call 123 [((((a0.deref.drop 1).hA).ix (1:Int)).hA)] [] fun r5 o5=>NP r5<|NP r5<|.test r5.isNil (.done 0 [.v (.pointer none)] []) (NZ a0<|NZ a0<|qg (a0.deref.drop 1)<|NG ((a0.deref.drop 1).hA) 0 1<|eE (((a0.deref.drop 1).hA).ix (0:Int))<|NZ ((((a0.deref.drop 1).hA).ix (0:Int)).hA)<|NZ ((((a0.deref.drop 1).hA).ix (0:Int)).hA)<|.aj (LK.has .str (((((a0.deref.drop 1).hA).ix (0:Int)).hA).deref.hA)/\1<=(((((a0.deref.drop 1).hA).ix (0:Int)).hA).deref).length)<|.aj (0<=(0:Int)/\(0:Int)<ac ((((((a0.deref.drop 1).hA).ix (0:Int)).hA).deref.hA).ah))<|.done 0 [.ptr [.v (.int .u8 (bt ((((((a0.deref.drop 1).hA).ix (0:Int)).hA).deref.hA).ah) 0)),VS (mk []),r5,.v (.pointer none)]] [])) (.call 147 [a0,VS (mk [102]),VI 2] [] fun r6 o6=>NB r6<|.test r6.toBool (NZ a0<|NZ a0<|qg (a0.deref.drop 1)<|NG ((a0.deref.drop 1).hA) 1 1<|eE (((a0.deref.drop 1).hA).ix (1:Int))<|.call 123 [((((a0.deref.drop 1).hA).ix (1:Int)).hA)] [] fun r7 o7=>NP r7<|NP r7<|.test r7.isNil (.done 0 [.v (.pointer none)] []) (NZ a0<|NZ a0<|qg (a0.deref.drop 1)<|NG ((a0.deref.drop 1).hA) 0 1<|eE (((a0.deref.drop 1).hA).ix (0:Int))<|NZ ((((a0.deref.drop 1).hA).ix (0:Int)).hA)<|NZ ((((a0.deref.drop 1).hA).ix (0:Int)).hA)<|.aj (LK.has .str (((((a0.deref.drop 1).hA).ix (0:Int)).hA).deref.hA)/\1<=(((((a0.deref.drop 1).hA).ix (0:Int)).hA).deref).length)<|.aj (0<=(0:Int)/\(0:Int)<ac ((((((a0.deref.drop 1).hA).ix (0:Int)).hA).deref.hA).ah))<|.done 0 [.ptr [.v (.int .u8 (bt ((((((a0.deref.drop 1).hA).ix (0:Int)).hA).deref.hA).ah) 0)),VS (mk []),r7,.v (.pointer none)]] [])) (.call 147 [a0,VS (mk [112]),VI 3] [] fun r8 o8=>NB r8<|.test r8.toBool (NZ a0<|NZ a0<|qg (a0.deref.drop 1)<|NG ((a0.deref.drop 1).hA) 1 1<|eE (((a0.deref.drop 1).hA).ix (1:Int))<|.call 123 [((((a0.deref.drop 1).hA).ix (1:Int)).hA)] [] fun r9 o9=>NP r9<|NZ a0<|NZ a0<|qg (a0.deref.drop 1)<|NG ((a0.deref.drop 1).hA) 2 1<|eE (((a0.deref.drop 1).hA).ix (2:Int))<|.call 123 [((((a0.deref.drop 1).hA).ix (2:Int)).hA)] [] fun r10 o10=>NP r10<|NP r9<|.test r9.isNil (.done 0 [.v (.pointer none)] []) (NP r10<|.test r10.isNil (.done 0 [.v (.pointer none)] []) (.call 132 [r9,r10] [] fun r11 o11=>NP r11<|.done 0 [r11] []))) (.done 0 [.v (.pointer none)] []))))))
theorem H7(a0:AV)(ha0:LK.has .ptr a0)(h:dz 85 (Fw a0) R):ap Tryz.prog 123 [a0] [] R :=
 uQ (ag (bD ha0) aE) (oQ [] Tryz.f123 h)
def Em:LI:={hd:={bN:=[(3,.k .ptr),(10,.k (.int .i64)),(11,.k (.int .i64))]},xs:={bN:=[(3,.k .ptr)]},rt:={},ex:=0}
def Jg:Code:=cz (ct Tryz.f125) 3
def JH:List (Nat×LI):=[(3,Em)]
def Gi(a0_0:AV)(a0_1:AV):Tree :=
 NZ a0_0<|NZ a0_0<|.aj (LK.has (.int .i64) ((a0_0.deref.drop 2).hA)/\1<=(a0_0.deref.drop 2).length)<|.loop Jg Em [a0_1,VI (((a0_0.deref.drop 2).hA).toInt),VI 0] [] (fun y1 q1=>NP (y1.hA)<|NZ (y1.hA)<|NZ (y1.hA)<|.aj (LK.has .ptr ((y1.hA).deref.hA)/\1<=((y1.hA).deref).length)<|.done 0 [((y1.hA).deref.hA)] []) (fun y1 q1=>.done 0 [.any] [])
theorem Jt(a0_0:AV)(a0_1:AV)(ha0_0:LK.has .ptr a0_0)(ha0_1:LK.has .ptr a0_1)(h:dz 22 (Gi a0_0 a0_1) R):ap Tryz.prog 125 [.agg [a0_0,a0_1]] [] R :=
 uQ (ag (cF (ag (bD ha0_0) (ag (bD ha0_1) aE))) aE) (oQ JH Tryz.f125 h)
def Bl(x3:AV)(x10:Int)(x11:Int):Tree :=
 NP x3<|NI (VI x10)<|NI (VI x11)<|.test (decide (x11<x10)) (NZ x3<|NZ x3<|eE (x3.deref.drop 1)<|.done 0 [((x3.deref.drop 1).hA),VI x10,VI (IntKind.wrap .i64 (x11+1))] []) (.done 1 [x3] [])
abbrev Dd:=cn Tryz.prog 22 Jg Em
theorem B6(x3:AV)(x10:Int)(x11:Int)(h:kk 22 (Bl x3 x10 x11) Dd U):Dd [x3,VI x10,VI x11] [] U :=
 gQ JH h
def KO(a0_0:AV)(a0_1:AV):Tree :=
 NZ a0_0<|NZ a0_0<|eE (a0_0.deref.drop 3)<|.done 0 [.agg [((a0_0.deref.drop 3).hA),a0_1]] []
theorem Qb(a0_0:AV)(a0_1:AV)(ha0_0:LK.has .ptr a0_0)(ha0_1:LK.has .ptr a0_1)(h:dz 11 (KO a0_0 a0_1) R):ap Tryz.prog 126 [.agg [a0_0,a0_1]] [] R :=
 uQ (ag (cF (ag (bD ha0_0) (ag (bD ha0_1) aE))) aE) (oQ [] Tryz.f126 h)
def HY(a0_0:AV)(a0_1:AV):Tree :=
 NZ a0_0<|NZ a0_0<|eE (a0_0.deref.drop 4)<|.done 0 [.agg [((a0_0.deref.drop 4).hA),a0_1]] []
theorem Qy(a0_0:AV)(a0_1:AV)(ha0_0:LK.has .ptr a0_0)(ha0_1:LK.has .ptr a0_1)(h:dz 11 (HY a0_0 a0_1) R):ap Tryz.prog 127 [.agg [a0_0,a0_1]] [] R :=
 uQ (ag (cF (ag (bD ha0_0) (ag (bD ha0_1) aE))) aE) (oQ [] Tryz.f127 h)
def Cb(a0_0:ByteArray)(a0_1:AV)(a1_0:AV)(a1_1:AV):Tree :=
 NP a0_1<|.test (!a0_1.isNil) (NZ a1_0<|NZ a1_0<|.aj (LK.has (.int .u8) (a1_0.deref.hA)/\1<=a1_0.deref.length)<|.test (((a1_0.deref.hA).toInt)==(98:Int)) (.call 125 [.agg [a1_0,a1_1]] [] fun r1 o1=>NP r1<|.aj (AV.re r1/\AV.re a0_1)<|.done 0 [VB (AV.Bx r1 a0_1)] []) (.done 0 [VB false] [])) (NZ a1_0<|NZ a1_0<|.aj (LK.has (.int .u8) (a1_0.deref.hA)/\1<=a1_0.deref.length)<|.test (((a1_0.deref.hA).toInt)==(110:Int)) (NZ a1_0<|NZ a1_0<|mG (a1_0.deref.drop 1)<|.done 0 [VB (af (((a1_0.deref.drop 1).hA).ah)==af a0_0)] []) (.done 0 [VB false] []))
theorem OV(a0_0:ByteArray)(a0_1:AV)(a1_0:AV)(a1_1:AV)(ha0_1:LK.has .ptr a0_1)(ha1_0:LK.has .ptr a1_0)(ha1_1:LK.has .ptr a1_1)(h:dz 37 (Cb a0_0 a0_1 a1_0 a1_1) R):ap Tryz.prog 128 [.agg [VS a0_0,a0_1],.agg [a1_0,a1_1]] [] R :=
 uQ (ag (cF (ag (aA _) (ag (bD ha0_1) aE))) (ag (cF (ag (bD ha1_0) (ag (bD ha1_1) aE))) aE)) (oQ [] Tryz.f128 h)
def FA:LI:={hd:={bN:=[(7,.k .sl),(8,.k (.int .i64)),(9,.k (.int .i64))],refs:=[(2,1)],cg:=[(0,[.lk .ptr]),(1,[.vec 2])],By:=[(1,130,[0])]},xs:={cg:=[(0,[.lk .ptr]),(1,[.vec 2])]},rt:={cg:=[(0,[.lk .ptr]),(1,[.vec 2])]},ex:=0,fx:=[0,1]}
def Mk:Code:=cz (ct Tryz.f129) 1
def KC:List (Nat×LI):=[(1,FA)]
def K2(a0:AV)(a1_0_0:AV)(e2_0:List (List AV)):Tree :=
 NL a0<|.loop Mk FA [a0,VI (a0.aO.length:Int),VI 0] [.cells [a1_0_0],.cells [.any],.vec 2 e2_0] (fun y2 q2=>.aj ((q2.hO)=.cells (q2.hO).cs)<|.aj (ae [.lk .ptr] ((q2.hO).cs) 0 q2.tail)<|.aj (((q2.tail.drop 0).hO)=.cells ((q2.tail.drop 0).hO).cs)<|.aj (ae [.vec 2] (((q2.tail.drop 0).hO).cs) 0 ((q2.tail.drop 0).tail))<|.done 0 [.any] [.cells [((q2.hO).cs.getD 0 .any)],.cells [.vec 2],.vec 2 ((q2.tail.tail.hO).es)]) (fun y2 q2=>.aj ((q2.hO)=.cells (q2.hO).cs)<|.aj (ae [.lk .ptr] ((q2.hO).cs) 0 q2.tail)<|.aj (((q2.tail.drop 0).hO)=.cells ((q2.tail.drop 0).hO).cs)<|.aj (ae [.vec 2] (((q2.tail.drop 0).hO).cs) 0 ((q2.tail.drop 0).tail))<|.done 0 [.any] [.cells [((q2.hO).cs.getD 0 .any)],.cells [.vec 2],.vec 2 ((q2.tail.tail.hO).es)])
theorem O1(a0:AV)(a1_0_0:AV)(e2_0:List (List AV))(ha0:LK.has .sl a0)(ha1_0_0:LK.has .ptr a1_0_0)(h:dz 24 (K2 a0 a1_0_0 e2_0) R):ap Tryz.prog 129 [a0,.fn 130 [.ref 0 0],.ref 1 0] [.cells [a1_0_0],.cells [.vec 2],.vec 2 e2_0] R :=
 ap.nu (bi (bQ (ag (bD ha1_0_0) aE)) (bi (bQ (ag (aA _) aE)) (bi (fg _) cm))) (ap.up (ag (ca ha0) (ag (aA _) (ag (aA _) aE))) (oF KC {mu:=[(1,.fn [some (.obj [.lk .ptr])]),(2,.one (.obj [.vec 2]))],own:=[]} Tryz.f129 h))
def Gv(x7:AV)(x8:Int)(x9:Int)(o0_0:AV)(o1_0:List (List AV)):Tree :=
 NL x7<|NI (VI x8)<|NI (VI x9)<|.aj (Ob.cells [o0_0]=.cells [o0_0])<|.aj (ae [.lk .ptr] [o0_0] 0 [.cells [.any],.vec 2 o1_0])<|.aj (Ob.cells [.any]=.cells [.any])<|.aj (ae [.vec 2] [.any] 0 [.vec 2 o1_0])<|.test (decide (x9<x8)) (NG x7 x9 2<|.aj (cc [.ptr,.ptr] (x7.ix x9) 0/\2<=(x7.ix x9).length)<|.call 130 [((x7.ix x9).getD 0 .any),.ref 0 0] [.cells [o0_0]] fun r1 o1=>.aj ((o1.hO)=.cells (o1.hO).cs)<|.aj (aK [.lk .ptr] ((o1.hO).cs) 0 1 o1.tail)<|NP r1<|.aj (bV 2 [[r1,((x7.ix x9).getD 1 .any)]]/\((o1_0.length)+([[r1,((x7.ix x9).getD 1 .any)]]:List (List AV)).length)*16<=140737488355328)<|.done 0 [x7,VI x8,VI (IntKind.wrap .i64 (x9+1))] [.cells [((o1.hO).cs.getD 0 .any)],.cells [.any],.vec 2 (o1_0++([[r1,((x7.ix x9).getD 1 .any)]]:List (List AV)))]) (.done 1 [] [.cells [o0_0],.cells [.any],.vec 2 o1_0])
abbrev Gb:=cn Tryz.prog 24 Mk FA
theorem M4(x7:AV)(x8:Int)(x9:Int)(o0_0:AV)(o1_0:List (List AV))(h:kk 24 (Gv x7 x8 x9 o0_0 o1_0) Gb U):Gb [x7,VI x8,VI x9] [.cells [o0_0],.cells [.any],.vec 2 o1_0] U :=
 gQ KC h
def F7:LI:={hd:={bN:=[(7,.k .sl),(8,.k (.int .i64)),(9,.k (.int .i64))],refs:=[(2,1)],cg:=[(0,[.lk .ptr]),(1,[.vec 2])],By:=[(1,131,[0])]},xs:={cg:=[(0,[.lk .ptr]),(1,[.vec 2])]},rt:={cg:=[(0,[.lk .ptr]),(1,[.vec 2])]},ex:=0,fx:=[0,1]}
def Mj:Code:=cz (ct Tryz.f129) 1
def MX:List (Nat×LI):=[(1,F7)]
def MT(a0:AV)(a1_0_0:AV)(e2_0:List (List AV)):Tree :=
 NL a0<|.loop Mj F7 [a0,VI (a0.aO.length:Int),VI 0] [.cells [a1_0_0],.cells [.any],.vec 2 e2_0] (fun y2 q2=>.aj ((q2.hO)=.cells (q2.hO).cs)<|.aj (ae [.lk .ptr] ((q2.hO).cs) 0 q2.tail)<|.aj (((q2.tail.drop 0).hO)=.cells ((q2.tail.drop 0).hO).cs)<|.aj (ae [.vec 2] (((q2.tail.drop 0).hO).cs) 0 ((q2.tail.drop 0).tail))<|.done 0 [.any] [.cells [((q2.hO).cs.getD 0 .any)],.cells [.vec 2],.vec 2 ((q2.tail.tail.hO).es)]) (fun y2 q2=>.aj ((q2.hO)=.cells (q2.hO).cs)<|.aj (ae [.lk .ptr] ((q2.hO).cs) 0 q2.tail)<|.aj (((q2.tail.drop 0).hO)=.cells ((q2.tail.drop 0).hO).cs)<|.aj (ae [.vec 2] (((q2.tail.drop 0).hO).cs) 0 ((q2.tail.drop 0).tail))<|.done 0 [.any] [.cells [((q2.hO).cs.getD 0 .any)],.cells [.vec 2],.vec 2 ((q2.tail.tail.hO).es)])
theorem Qd(a0:AV)(a1_0_0:AV)(e2_0:List (List AV))(ha0:LK.has .sl a0)(ha1_0_0:LK.has .ptr a1_0_0)(h:dz 24 (MT a0 a1_0_0 e2_0) R):ap Tryz.prog 129 [a0,.fn 131 [.ref 0 0],.ref 1 0] [.cells [a1_0_0],.cells [.vec 2],.vec 2 e2_0] R :=
 ap.nu (bi (bQ (ag (bD ha1_0_0) aE)) (bi (bQ (ag (aA _) aE)) (bi (fg _) cm))) (ap.up (ag (ca ha0) (ag (aA _) (ag (aA _) aE))) (oF MX {mu:=[(1,.fn [some (.obj [.lk .ptr])]),(2,.one (.obj [.vec 2]))],own:=[]} Tryz.f129 h))
def Ga(x7:AV)(x8:Int)(x9:Int)(o0_0:AV)(o1_0:List (List AV)):Tree :=
 NL x7<|NI (VI x8)<|NI (VI x9)<|.aj (Ob.cells [o0_0]=.cells [o0_0])<|.aj (ae [.lk .ptr] [o0_0] 0 [.cells [.any],.vec 2 o1_0])<|.aj (Ob.cells [.any]=.cells [.any])<|.aj (ae [.vec 2] [.any] 0 [.vec 2 o1_0])<|.test (decide (x9<x8)) (NG x7 x9 2<|.aj (cc [.ptr,.ptr] (x7.ix x9) 0/\2<=(x7.ix x9).length)<|.call 131 [((x7.ix x9).getD 0 .any),.ref 0 0] [.cells [o0_0]] fun r1 o1=>.aj ((o1.hO)=.cells (o1.hO).cs)<|.aj (aK [.lk .ptr] ((o1.hO).cs) 0 1 o1.tail)<|NP r1<|.aj (bV 2 [[r1,((x7.ix x9).getD 1 .any)]]/\((o1_0.length)+([[r1,((x7.ix x9).getD 1 .any)]]:List (List AV)).length)*16<=140737488355328)<|.done 0 [x7,VI x8,VI (IntKind.wrap .i64 (x9+1))] [.cells [((o1.hO).cs.getD 0 .any)],.cells [.any],.vec 2 (o1_0++([[r1,((x7.ix x9).getD 1 .any)]]:List (List AV)))]) (.done 1 [] [.cells [o0_0],.cells [.any],.vec 2 o1_0])
abbrev Gg:=cn Tryz.prog 24 Mj F7
theorem Ib(x7:AV)(x8:Int)(x9:Int)(o0_0:AV)(o1_0:List (List AV))(h:kk 24 (Ga x7 x8 x9 o0_0 o1_0) Gg U):Gg [x7,VI x8,VI x9] [.cells [o0_0],.cells [.any],.vec 2 o1_0] U :=
 gQ MX h
def GN:LI:={hd:={bN:=[(7,.k .sl),(8,.k (.int .i64)),(9,.k (.int .i64))],refs:=[(2,1)],cg:=[(0,[.lk .ptr]),(1,[.vec 2])],By:=[(1,133,[0])]},xs:={cg:=[(0,[.lk .ptr]),(1,[.vec 2])]},rt:={cg:=[(0,[.lk .ptr]),(1,[.vec 2])]},ex:=0,fx:=[0,1]}
def Lq:Code:=cz (ct Tryz.f129) 1
def KB:List (Nat×LI):=[(1,GN)]
def LA(a0:AV)(a1_0_0:AV)(e2_0:List (List AV)):Tree :=
 NL a0<|.loop Lq GN [a0,VI (a0.aO.length:Int),VI 0] [.cells [a1_0_0],.cells [.any],.vec 2 e2_0] (fun y2 q2=>.aj ((q2.hO)=.cells (q2.hO).cs)<|.aj (ae [.lk .ptr] ((q2.hO).cs) 0 q2.tail)<|.aj (((q2.tail.drop 0).hO)=.cells ((q2.tail.drop 0).hO).cs)<|.aj (ae [.vec 2] (((q2.tail.drop 0).hO).cs) 0 ((q2.tail.drop 0).tail))<|.done 0 [.any] [.cells [((q2.hO).cs.getD 0 .any)],.cells [.vec 2],.vec 2 ((q2.tail.tail.hO).es)]) (fun y2 q2=>.aj ((q2.hO)=.cells (q2.hO).cs)<|.aj (ae [.lk .ptr] ((q2.hO).cs) 0 q2.tail)<|.aj (((q2.tail.drop 0).hO)=.cells ((q2.tail.drop 0).hO).cs)<|.aj (ae [.vec 2] (((q2.tail.drop 0).hO).cs) 0 ((q2.tail.drop 0).tail))<|.done 0 [.any] [.cells [((q2.hO).cs.getD 0 .any)],.cells [.vec 2],.vec 2 ((q2.tail.tail.hO).es)])
theorem Pf(a0:AV)(a1_0_0:AV)(e2_0:List (List AV))(ha0:LK.has .sl a0)(ha1_0_0:LK.has .ptr a1_0_0)(h:dz 24 (LA a0 a1_0_0 e2_0) R):ap Tryz.prog 129 [a0,.fn 133 [.ref 0 0],.ref 1 0] [.cells [a1_0_0],.cells [.vec 2],.vec 2 e2_0] R :=
 ap.nu (bi (bQ (ag (bD ha1_0_0) aE)) (bi (bQ (ag (aA _) aE)) (bi (fg _) cm))) (ap.up (ag (ca ha0) (ag (aA _) (ag (aA _) aE))) (oF KB {mu:=[(1,.fn [some (.obj [.lk .ptr])]),(2,.one (.obj [.vec 2]))],own:=[]} Tryz.f129 h))
def Gf(x7:AV)(x8:Int)(x9:Int)(o0_0:AV)(o1_0:List (List AV)):Tree :=
 NL x7<|NI (VI x8)<|NI (VI x9)<|.aj (Ob.cells [o0_0]=.cells [o0_0])<|.aj (ae [.lk .ptr] [o0_0] 0 [.cells [.any],.vec 2 o1_0])<|.aj (Ob.cells [.any]=.cells [.any])<|.aj (ae [.vec 2] [.any] 0 [.vec 2 o1_0])<|.test (decide (x9<x8)) (NG x7 x9 2<|.aj (cc [.ptr,.ptr] (x7.ix x9) 0/\2<=(x7.ix x9).length)<|.call 133 [((x7.ix x9).getD 0 .any),.ref 0 0] [.cells [o0_0]] fun r1 o1=>.aj ((o1.hO)=.cells (o1.hO).cs)<|.aj (aK [.lk .ptr] ((o1.hO).cs) 0 1 o1.tail)<|NP r1<|.aj (bV 2 [[r1,((x7.ix x9).getD 1 .any)]]/\((o1_0.length)+([[r1,((x7.ix x9).getD 1 .any)]]:List (List AV)).length)*16<=140737488355328)<|.done 0 [x7,VI x8,VI (IntKind.wrap .i64 (x9+1))] [.cells [((o1.hO).cs.getD 0 .any)],.cells [.any],.vec 2 (o1_0++([[r1,((x7.ix x9).getD 1 .any)]]:List (List AV)))]) (.done 1 [] [.cells [o0_0],.cells [.any],.vec 2 o1_0])
abbrev E9:=cn Tryz.prog 24 Lq GN
theorem I7(x7:AV)(x8:Int)(x9:Int)(o0_0:AV)(o1_0:List (List AV))(h:kk 24 (Gf x7 x8 x9 o0_0 o1_0) E9 U):E9 [x7,VI x8,VI x9] [.cells [o0_0],.cells [.any],.vec 2 o1_0] U :=
 gQ KB h
def HK:LI:={hd:={bN:=[(1,.c (.func (.func 134) #[] #[])),(7,.k .sl),(8,.k (.int .i64)),(9,.k (.int .i64))],refs:=[(2,0)],cg:=[(0,[.vec 2])]},xs:={cg:=[(0,[.vec 2])]},rt:={cg:=[(0,[.vec 2])]},ex:=0,fx:=[0]}
def JO:Code:=cz (ct Tryz.f129) 1
def Lk:List (Nat×LI):=[(1,HK)]
def Ng(a0:AV)(e2_0:List (List AV)):Tree :=
 NL a0<|.loop JO HK [.v (.func (.func 134) #[] #[]),a0,VI (a0.aO.length:Int),VI 0] [.cells [.any],.vec 2 e2_0] (fun y2 q2=>.aj ((q2.hO)=.cells (q2.hO).cs)<|.aj (ae [.vec 2] ((q2.hO).cs) 0 q2.tail)<|.done 0 [.any] [.cells [.vec 1],.vec 2 ((q2.tail.hO).es)]) (fun y2 q2=>.aj ((q2.hO)=.cells (q2.hO).cs)<|.aj (ae [.vec 2] ((q2.hO).cs) 0 q2.tail)<|.done 0 [.any] [.cells [.vec 1],.vec 2 ((q2.tail.hO).es)])
theorem Ol(a0:AV)(e2_0:List (List AV))(ha0:LK.has .sl a0)(h:dz 24 (Ng a0 e2_0) R):ap Tryz.prog 129 [a0,.v (.func (.func 134) #[] #[]),.ref 0 0] [.cells [.vec 1],.vec 2 e2_0] R :=
 ap.nu (bi (bQ (ag (aA _) aE)) (bi (fg _) cm)) (ap.up (ag (ca ha0) (ag (aA _) (ag (aA _) aE))) (oF Lk {mu:=[(2,.one (.obj [.vec 2]))],own:=[]} Tryz.f129 h))
def Fu(x7:AV)(x8:Int)(x9:Int)(o0_0:List (List AV)):Tree :=
 .aj (AV.v (.func (.func 134) #[] #[])=.v (.func (.func 134) #[] #[]))<|NL x7<|NI (VI x8)<|NI (VI x9)<|.aj (Ob.cells [.any]=.cells [.any])<|.aj (ae [.vec 2] [.any] 0 [.vec 2 o0_0])<|.test (decide (x9<x8)) (NG x7 x9 2<|.aj (cc [.ptr,.ptr] (x7.ix x9) 0/\2<=(x7.ix x9).length)<|.call 134 [((x7.ix x9).getD 0 .any)] [] fun r1 o1=>NP r1<|.aj (bV 2 [[r1,((x7.ix x9).getD 1 .any)]]/\((o0_0.length)+([[r1,((x7.ix x9).getD 1 .any)]]:List (List AV)).length)*16<=140737488355328)<|.done 0 [.v (.func (.func 134) #[] #[]),x7,VI x8,VI (IntKind.wrap .i64 (x9+1))] [.cells [.any],.vec 2 (o0_0++([[r1,((x7.ix x9).getD 1 .any)]]:List (List AV)))]) (.done 1 [] [.cells [.any],.vec 2 o0_0])
abbrev GM:=cn Tryz.prog 24 JO HK
theorem MU(x7:AV)(x8:Int)(x9:Int)(o0_0:List (List AV))(h:kk 24 (Fu x7 x8 x9 o0_0) GM U):GM [.v (.func (.func 134) #[] #[]),x7,VI x8,VI x9] [.cells [.any],.vec 2 o0_0] U :=
 gQ Lk h
def Gl:LI:={hd:={bN:=[(7,.k .sl),(8,.k (.int .i64)),(9,.k (.int .i64))],refs:=[(2,1)],cg:=[(0,[.lk .ptr,.lk .ptr]),(1,[.vec 2])],By:=[(1,135,[0])]},xs:={cg:=[(0,[.lk .ptr,.lk .ptr]),(1,[.vec 2])]},rt:={cg:=[(0,[.lk .ptr,.lk .ptr]),(1,[.vec 2])]},ex:=0,fx:=[0,1]}
def LN:Code:=cz (ct Tryz.f129) 1
def Jq:List (Nat×LI):=[(1,Gl)]
def Ie(a0:AV)(a1_0_0:AV)(a1_0_1:AV)(e2_0:List (List AV)):Tree :=
 NL a0<|.loop LN Gl [a0,VI (a0.aO.length:Int),VI 0] [.cells [a1_0_0,a1_0_1],.cells [.any],.vec 2 e2_0] (fun y2 q2=>.aj ((q2.hO)=.cells (q2.hO).cs)<|.aj (ae [.lk .ptr,.lk .ptr] ((q2.hO).cs) 0 q2.tail)<|.aj (((q2.tail.drop 0).hO)=.cells ((q2.tail.drop 0).hO).cs)<|.aj (ae [.vec 2] (((q2.tail.drop 0).hO).cs) 0 ((q2.tail.drop 0).tail))<|.done 0 [.any] [.cells [((q2.hO).cs.getD 0 .any),((q2.hO).cs.getD 1 .any)],.cells [.vec 2],.vec 2 ((q2.tail.tail.hO).es)]) (fun y2 q2=>.aj ((q2.hO)=.cells (q2.hO).cs)<|.aj (ae [.lk .ptr,.lk .ptr] ((q2.hO).cs) 0 q2.tail)<|.aj (((q2.tail.drop 0).hO)=.cells ((q2.tail.drop 0).hO).cs)<|.aj (ae [.vec 2] (((q2.tail.drop 0).hO).cs) 0 ((q2.tail.drop 0).tail))<|.done 0 [.any] [.cells [((q2.hO).cs.getD 0 .any),((q2.hO).cs.getD 1 .any)],.cells [.vec 2],.vec 2 ((q2.tail.tail.hO).es)])
theorem P7(a0:AV)(a1_0_0:AV)(a1_0_1:AV)(e2_0:List (List AV))(ha0:LK.has .sl a0)(ha1_0_0:LK.has .ptr a1_0_0)(ha1_0_1:LK.has .ptr a1_0_1)(h:dz 24 (Ie a0 a1_0_0 a1_0_1 e2_0) R):ap Tryz.prog 129 [a0,.fn 135 [.ref 0 0],.ref 1 0] [.cells [a1_0_0,a1_0_1],.cells [.vec 2],.vec 2 e2_0] R :=
 ap.nu (bi (bQ (ag (bD ha1_0_0) (ag (bD ha1_0_1) aE))) (bi (bQ (ag (aA _) aE)) (bi (fg _) cm))) (ap.up (ag (ca ha0) (ag (aA _) (ag (aA _) aE))) (oF Jq {mu:=[(1,.fn [some (.obj [.lk .ptr,.lk .ptr])]),(2,.one (.obj [.vec 2]))],own:=[]} Tryz.f129 h))
def HB(x7:AV)(x8:Int)(x9:Int)(o0_0:AV)(o0_1:AV)(o1_0:List (List AV)):Tree :=
 NL x7<|NI (VI x8)<|NI (VI x9)<|.aj (Ob.cells [o0_0,o0_1]=.cells [o0_0,o0_1])<|.aj (ae [.lk .ptr,.lk .ptr] [o0_0,o0_1] 0 [.cells [.any],.vec 2 o1_0])<|.aj (Ob.cells [.any]=.cells [.any])<|.aj (ae [.vec 2] [.any] 0 [.vec 2 o1_0])<|.test (decide (x9<x8)) (NG x7 x9 2<|.aj (cc [.ptr,.ptr] (x7.ix x9) 0/\2<=(x7.ix x9).length)<|.call 135 [((x7.ix x9).getD 0 .any),.ref 0 0] [.cells [o0_0,o0_1]] fun r1 o1=>.aj ((o1.hO)=.cells (o1.hO).cs)<|.aj (aK [.lk .ptr,.lk .ptr] ((o1.hO).cs) 0 1 o1.tail)<|NP r1<|.aj (bV 2 [[r1,((x7.ix x9).getD 1 .any)]]/\((o1_0.length)+([[r1,((x7.ix x9).getD 1 .any)]]:List (List AV)).length)*16<=140737488355328)<|.done 0 [x7,VI x8,VI (IntKind.wrap .i64 (x9+1))] [.cells [((o1.hO).cs.getD 0 .any),((o1.hO).cs.getD 1 .any)],.cells [.any],.vec 2 (o1_0++([[r1,((x7.ix x9).getD 1 .any)]]:List (List AV)))]) (.done 1 [] [.cells [o0_0,o0_1],.cells [.any],.vec 2 o1_0])
abbrev G3:=cn Tryz.prog 24 LN Gl
theorem K6(x7:AV)(x8:Int)(x9:Int)(o0_0:AV)(o0_1:AV)(o1_0:List (List AV))(h:kk 24 (HB x7 x8 x9 o0_0 o0_1 o1_0) G3 U):G3 [x7,VI x8,VI x9] [.cells [o0_0,o0_1],.cells [.any],.vec 2 o1_0] U :=
 gQ Jq h
def Fi(a0:AV)(a1_0:AV):Tree :=
 NZ a1_0<|NZ a1_0<|.aj (LK.has (.int .u8) (a1_0.deref.hA)/\1<=a1_0.deref.length)<|.call 95 [.v (.int .u8 ((a1_0.deref.hA).toInt)),a0] [] fun r1 o1=>NP r1<|.done 0 [r1] [.cells [a1_0]]
theorem JA(a0:AV)(a1_0:AV)(ha0:LK.has .ptr a0)(ha1_0:LK.has .ptr a1_0)(h:dz 10 (Fi a0 a1_0) R):ap Tryz.prog 130 [a0,.ref 0 0] [.cells [a1_0]] R :=
 ap.nu (bi (bQ (ag (bD ha1_0) aE)) cm) (ap.up (ag (bD ha0) (ag (aA _) aE)) (oF [] {mu:=[(1,.one (.obj [.lk .ptr]))],own:=[]} Tryz.f130 h))
def Lm(a0:AV)(a1_0:AV):Tree :=
 NZ a1_0<|NZ a1_0<|eE (a1_0.deref.drop 3)<|.call 132 [a0,((a1_0.deref.drop 3).hA)] [] fun r1 o1=>NP r1<|.call 95 [.v (.int .u8 108),r1] [] fun r2 o2=>NP r2<|.done 0 [r2] [.cells [a1_0]]
theorem Oh(a0:AV)(a1_0:AV)(ha0:LK.has .ptr a0)(ha1_0:LK.has .ptr a1_0)(h:dz 11 (Lm a0 a1_0) R):ap Tryz.prog 131 [a0,.ref 0 0] [.cells [a1_0]] R :=
 ap.nu (bi (bQ (ag (bD ha1_0) aE)) cm) (ap.up (ag (bD ha0) (ag (aA _) aE)) (oF [] {mu:=[(1,.one (.obj [.lk .ptr]))],own:=[]} Tryz.f131 h))
def Nd(a0:AV)(a1:AV):Tree :=
 .done 0 [.ptr [.v (.int .u8 112),VS (mk []),a0,a1]] []
theorem Ph(a0:AV)(a1:AV)(ha0:LK.has .ptr a0)(ha1:LK.has .ptr a1)(h:dz 9 (Nd a0 a1) R):ap Tryz.prog 132 [a0,a1] [] R :=
 uQ (ag (bD ha0) (ag (bD ha1) aE)) (oQ [] Tryz.f132 h)
def MZ(a0:AV)(a1_0:AV):Tree :=
 NZ a1_0<|NZ a1_0<|eE (a1_0.deref.drop 2)<|.call 132 [((a1_0.deref.drop 2).hA),a0] [] fun r1 o1=>NP r1<|.call 95 [.v (.int .u8 114),r1] [] fun r2 o2=>NP r2<|.done 0 [r2] [.cells [a1_0]]
theorem PN(a0:AV)(a1_0:AV)(ha0:LK.has .ptr a0)(ha1_0:LK.has .ptr a1_0)(h:dz 11 (MZ a0 a1_0) R):ap Tryz.prog 133 [a0,.ref 0 0] [.cells [a1_0]] R :=
 ap.nu (bi (bQ (ag (bD ha1_0) aE)) cm) (ap.up (ag (bD ha0) (ag (aA _) aE)) (oF [] {mu:=[(1,.one (.obj [.lk .ptr]))],own:=[]} Tryz.f133 h))
def H0(a0:AV):Tree :=
 .call 95 [.v (.int .u8 108),a0] [] fun r1 o1=>NP r1<|.call 95 [.v (.int .u8 102),r1] [] fun r2 o2=>NP r2<|.done 0 [r2] []
theorem O6(a0:AV)(ha0:LK.has .ptr a0)(h:dz 6 (H0 a0) R):ap Tryz.prog 134 [a0] [] R :=
 uQ (ag (bD ha0) aE) (oQ [] Tryz.f134 h)
def LW(a0:AV)(a1_0:AV)(a1_1:AV):Tree :=
 .call 132 [a1_0,a0] [] fun r1 o1=>NP r1<|.call 95 [.v (.int .u8 114),r1] [] fun r2 o2=>NP r2<|.call 95 [.v (.int .u8 102),r2] [] fun r3 o3=>NP r3<|.done 0 [r3] [.cells [a1_0,a1_1]]
theorem PM(a0:AV)(a1_0:AV)(a1_1:AV)(ha0:LK.has .ptr a0)(ha1_0:LK.has .ptr a1_0)(ha1_1:LK.has .ptr a1_1)(h:dz 10 (LW a0 a1_0 a1_1) R):ap Tryz.prog 135 [a0,.ref 0 0] [.cells [a1_0,a1_1]] R :=
 ap.nu (bi (bQ (ag (bD ha1_0) (ag (bD ha1_1) aE))) cm) (ap.up (ag (bD ha0) (ag (aA _) aE)) (oF [] {mu:=[(1,.one (.obj [.lk .ptr,.lk .ptr]))],own:=[]} Tryz.f135 h))
def wg(a0_0:ByteArray)(a0_1:AV):Tree :=
 .test (!(af a0_0==af (mk []))) (.test (af a0_0==af (mk [48])) (.done 0 [VB true] []) (.test (af a0_0==af (mk [49])) (.done 0 [VB true] []) (.call 101 [VS a0_0] [] fun r1 o1=>NB r1<|.test r1.toBool (.done 0 [VB true] []) (.call 99 [VS a0_0] [] fun r2 o2=>NB r2<|.done 0 [VB r2.toBool] [])))) (NL a0_1<|.test ((a0_1.aO.length:Int) != (3:Int)) (.done 0 [VB false] []) (.call 71 [.agg [VS a0_0,a0_1]] [] fun r3 o3=>NS r3<|.test (af r3.ah==af (mk [43])) (NG a0_1 1 2<|NE (a0_1.ix (1:Int))<|.call 138 [.agg [VS (((a0_1.ix (1:Int)).getD 0 .any).ah),((a0_1.ix (1:Int)).getD 1 .any)]] [] fun r4 o4=>NB r4<|.test r4.toBool (NG a0_1 2 2<|NE (a0_1.ix (2:Int))<|.call 138 [.agg [VS (((a0_1.ix (2:Int)).getD 0 .any).ah),((a0_1.ix (2:Int)).getD 1 .any)]] [] fun r5 o5=>NB r5<|.done 0 [VB r5.toBool] []) (.done 0 [VB false] [])) (.test (af r3.ah==af (mk [42])) (NG a0_1 1 2<|NE (a0_1.ix (1:Int))<|.call 138 [.agg [VS (((a0_1.ix (1:Int)).getD 0 .any).ah),((a0_1.ix (1:Int)).getD 1 .any)]] [] fun r6 o6=>NB r6<|.test r6.toBool (NG a0_1 2 2<|NE (a0_1.ix (2:Int))<|.call 138 [.agg [VS (((a0_1.ix (2:Int)).getD 0 .any).ah),((a0_1.ix (2:Int)).getD 1 .any)]] [] fun r7 o7=>NB r7<|.done 0 [VB r7.toBool] []) (.done 0 [VB false] [])) (.test (af r3.ah==af (mk [114,101,99])) (NG a0_1 1 2<|mG (a0_1.ix (1:Int))<|.call 99 [VS (((a0_1.ix (1:Int)).hA).ah)] [] fun r8 o8=>NB r8<|.test r8.toBool (NG a0_1 2 2<|NE (a0_1.ix (2:Int))<|.call 138 [.agg [VS (((a0_1.ix (2:Int)).getD 0 .any).ah),((a0_1.ix (2:Int)).getD 1 .any)]] [] fun r9 o9=>NB r9<|.done 0 [VB r9.toBool] []) (.done 0 [VB false] [])) (.done 0 [VB false] [])))))
theorem LH(a0_0:ByteArray)(a0_1:AV)(ha0_1:LK.has .sl a0_1)(h:dz 60 (wg a0_0 a0_1) R):ap Tryz.prog 138 [.agg [VS a0_0,a0_1]] [] R :=
 uQ (ag (cF (ag (aA _) (ag (ca ha0_1) aE))) aE) (oQ [] Tryz.f138 h)
def FD:LI:={hd:={bN:=[(0,.k .sl),(1,.k .str),(5,.k (.int .i64))]},xs:={},rt:={bN:=[(4,.k .bool)]},ex:=0}
def MB:Code:=cz (ct Tryz.f139) 2
def Li:List (Nat×LI):=[(2,FD)]
def I5(a0:AV)(a1:ByteArray):Tree :=
 .loop MB FD [a0,VS a1,VI 0] [] (fun y1 q1=>.done 0 [VB false] []) (fun y1 q1=>NB (y1.hA)<|.done 0 [VB ((y1.hA).toBool)] [])
theorem NM(a0:AV)(a1:ByteArray)(ha0:LK.has .sl a0)(h:dz 18 (I5 a0 a1) R):ap Tryz.prog 139 [a0,VS a1] [] R :=
 uQ (ag (ca ha0) (ag (aA _) aE)) (oQ Li Tryz.f139 h)
def G4(x0:AV)(x1:ByteArray)(x5:Int):Tree :=
 NL x0<|NS (VS x1)<|NI (VI x5)<|NL x0<|.test (decide (x5<(x0.aO.length:Int))) (NG x0 x5 1<|mG (x0.ix x5)<|.test (af (((x0.ix x5).hA).ah)==af x1) (.done 2 [VB true] []) (.done 0 [x0,VS x1,VI (IntKind.wrap .i64 (x5+1))] [])) (.done 1 [] [])
abbrev Gp:=cn Tryz.prog 18 MB FD
theorem ME(x0:AV)(x1:ByteArray)(x5:Int)(h:kk 18 (G4 x0 x1 x5) Gp U):Gp [x0,VS x1,VI x5] [] U :=
 gQ Li h
def G5:LI:={hd:={bN:=[(0,.k .str),(7,.k (.int .i64))]},xs:={},rt:={bN:=[(6,.k .bool)]},ex:=0}
def II:Code:=cz (ct Tryz.f140) 4
def Lb:List (Nat×LI):=[(4,G5)]
def KY(a0:ByteArray)(a1:Int)(a2:Int):Tree :=
 .call 60 [VI (ac a0:Int),VI 1,VI 3] [] fun r1 o1=>NB r1<|.test (!r1.toBool) (.done 0 [VB false] []) (.aj (0<=(0:Int)/\(0:Int)<ac a0)<|.test (decide ((bt a0 0)<a1)) (.done 0 [VB false] []) (.aj (0<=(0:Int)/\(0:Int)<ac a0)<|.test (decide ((bt a0 0)>a2)) (.done 0 [VB false] []) (.loop II G5 [VS a0,VI 1] [] (fun y2 q2=>.done 0 [VB true] []) (fun y2 q2=>NB (y2.hA)<|.done 0 [VB ((y2.hA).toBool)] []))))
theorem O0(a0:ByteArray)(a1:Int)(a2:Int)(h:dz 40 (KY a0 a1 a2) R):ap Tryz.prog 140 [VS a0,.v (.int .u8 a1),.v (.int .u8 a2)] [] R :=
 uQ (ag (aA _) (ag (aA _) (ag (aA _) aE))) (oQ Lb Tryz.f140 h)
def Gr(x0:ByteArray)(x7:Int):Tree :=
 NS (VS x0)<|NI (VI x7)<|.test (decide (x7<(ac x0:Int))) (.aj (0<=x7/\x7<ac x0)<|.test (decide ((bt x0 x7)<(48:Int))) (.done 2 [VB false] []) (.aj (0<=x7/\x7<ac x0)<|.test (decide ((bt x0 x7)>(57:Int))) (.done 2 [VB false] []) (.done 0 [VS x0,VI (IntKind.wrap .i64 (x7+1))] []))) (.done 1 [] [])
abbrev E4:=cn Tryz.prog 40 II G5
theorem Mt(x0:ByteArray)(x7:Int)(h:kk 40 (Gr x0 x7) E4 U):E4 [VS x0,VI x7] [] U :=
 gQ Lb h
def Il(a0:Int):Tree :=
 .test (decide (a0≥(97:Int))) (.test (decide (a0<=(122:Int))) (.done 0 [VB true] []) (.test (decide (a0≥(48:Int))) (.test (decide (a0<=(57:Int))) (.done 0 [VB true] []) (.test (a0==(42:Int)) (.done 0 [VB true] []) (.done 0 [VB (a0==(43:Int))] []))) (.test (a0==(42:Int)) (.done 0 [VB true] []) (.done 0 [VB (a0==(43:Int))] [])))) (.test (decide (a0≥(48:Int))) (.test (decide (a0<=(57:Int))) (.done 0 [VB true] []) (.test (a0==(42:Int)) (.done 0 [VB true] []) (.done 0 [VB (a0==(43:Int))] []))) (.test (a0==(42:Int)) (.done 0 [VB true] []) (.done 0 [VB (a0==(43:Int))] [])))
theorem Qm(a0:Int)(h:dz 25 (Il a0) R):ap Tryz.prog 141 [.v (.int .u8 a0)] [] R :=
 uQ (ag (aA _) aE) (oQ [] Tryz.f141 h)
def K0(a0_0:ByteArray)(a0_1:AV)(a1:ByteArray)(a2_0:ByteArray)(a2_1:AV):Tree :=
 .call 109 [.agg [VS a0_0,a0_1]] [] fun r1 o1=>NI r1<|.call 160 [.agg [VS a0_0,a0_1],VS a1] [] fun r2 o2=>NI r2<|.call 109 [.agg [VS a2_0,a2_1]] [] fun r3 o3=>NI r3<|.done 0 [VB (decide ((IntKind.wrap .i64 (r1.toInt+(IntKind.wrap .i64 (r2.toInt*(IntKind.wrap .i64 (r3.toInt-1))))))<=(400:Int)))] []
theorem PD(a0_0:ByteArray)(a0_1:AV)(a1:ByteArray)(a2_0:ByteArray)(a2_1:AV)(ha0_1:LK.has .sl a0_1)(ha2_1:LK.has .sl a2_1)(h:dz 18 (K0 a0_0 a0_1 a1 a2_0 a2_1) R):ap Tryz.prog 142 [.agg [VS a0_0,a0_1],VS a1,.agg [VS a2_0,a2_1]] [] R :=
 uQ (ag (cF (ag (aA _) (ag (ca ha0_1) aE))) (ag (aA _) (ag (cF (ag (aA _) (ag (ca ha2_1) aE))) aE))) (oQ [] Tryz.f142 h)
def KG(a0_0:ByteArray)(a0_1:AV)(a1:ByteArray)(a2_0:ByteArray)(a2_1:AV):Tree :=
 .call 83 [.agg [VS a0_0,a0_1],.sl [[VS a2_0,a2_1],[VS a1,.v (.slice none 0 0)]]] [] fun r1 o1=>NA r1<|.call 161 [.agg [VS ((r1.cs.getD 0 .any).ah),(r1.cs.getD 1 .any)],VS a1,.agg [VS a2_0,a2_1]] [] fun r2 o2=>NA r2<|.done 0 [.agg [VS ((r2.cs.getD 0 .any).ah),(r2.cs.getD 1 .any)]] []
theorem Pp(a0_0:ByteArray)(a0_1:AV)(a1:ByteArray)(a2_0:ByteArray)(a2_1:AV)(ha0_1:LK.has .sl a0_1)(ha2_1:LK.has .sl a2_1)(h:dz 16 (KG a0_0 a0_1 a1 a2_0 a2_1) R):ap Tryz.prog 143 [.agg [VS a0_0,a0_1],VS a1,.agg [VS a2_0,a2_1]] [] R :=
 uQ (ag (cF (ag (aA _) (ag (ca ha0_1) aE))) (ag (aA _) (ag (cF (ag (aA _) (ag (ca ha2_1) aE))) aE))) (oQ [] Tryz.f143 h)
def GD:LI:={hd:={bN:=[(0,.k .str),(1,.k (.int .i64)),(6,.k (.int .i64))]},xs:={bN:=[(0,.k .str),(1,.k (.int .i64)),(6,.k (.int .i64))]},rt:={},ex:=0}
def KX:Code:=cz (ct Tryz.f144) 2
def F1:LI:={hd:={bN:=[(0,.k .str),(1,.k (.int .i64)),(7,.k .str)],refs:=[(8,48)],cg:=[(48,[.lk .str,.vec 1])]},xs:={},rt:={bN:=[(4,.k .ptr),(5,.k .str)]},ex:=999}
def JE:Code:=cz (ct Tryz.f144) 10
def Hu:List (Nat×LI):=[(2,GD),(10,F1)]
def Fv(a0:ByteArray)(a1:Int):Tree :=
 .loop KX GD [VS a0,VI a1,VI 0] [] (fun y2 q2=>NS (y2.hA)<|NI (y2.tail.hA)<|NI (y2.tail.tail.hA)<|.test (decide (((y2.tail.tail.hA).toInt)>(0:Int))) (.aj (0<=(0:Int)/\(0:Int)<=((y2.tail.tail.hA).toInt)/\((y2.tail.tail.hA).toInt)<=(ac ((y2.hA).ah):Int))<|.aj (0<=((y2.tail.tail.hA).toInt)/\((y2.tail.tail.hA).toInt)<=(ac ((y2.hA).ah):Int)/\(ac ((y2.hA).ah):Int)<=(ac ((y2.hA).ah):Int))<|.done 0 [.cQ [.ptr [VS (bX ((y2.hA).ah) (bT 0) (bT ((y2.tail.tail.hA).toInt))),.v (.slice none 0 0)],VS (bX ((y2.hA).ah) (bT ((y2.tail.tail.hA).toInt)) (bT (ac ((y2.hA).ah):Int)))]] []) (.test (af ((y2.hA).ah)==af (mk [])) (.done 0 [.cQ [.v (.pointer none),VS ((y2.hA).ah)]] []) (.aj (0<=(0:Int)/\(0:Int)<ac ((y2.hA).ah))<|.test ((bt ((y2.hA).ah) 0) != (40:Int)) (.done 0 [.cQ [.v (.pointer none),VS ((y2.hA).ah)]] []) (.test (((y2.tail.hA).toInt)==(300:Int)) (.done 0 [.cQ [.v (.pointer none),VS ((y2.hA).ah)]] []) (.aj (0<=(1:Int)/\(1:Int)<=(ac ((y2.hA).ah):Int)/\(ac ((y2.hA).ah):Int)<=(ac ((y2.hA).ah):Int))<|.loop JE F1 [VS ((y2.hA).ah),VI ((y2.tail.hA).toInt),VS (bX ((y2.hA).ah) (bT 1) (bT (ac ((y2.hA).ah):Int)))] [.cells [VS (mk []),.any],.vec 1 []] (fun y5 q5=>.fail) (fun y5 q5=>NP (y5.hA)<|NS (y5.tail.hA)<|.done 0 [.cQ [(y5.hA),VS ((y5.tail.hA).ah)]] [])))))) (fun y2 q2=>.done 0 [.cQ [.any,.any]] [])
theorem HU(a0:ByteArray)(a1:Int)(h:dz 84 (Fv a0 a1) R):ap Tryz.prog 144 [VS a0,VI a1] [] R :=
 uQ (ag (aA _) (ag (aA _) aE)) (oQ Hu Tryz.f144 h)
def EX(x0:ByteArray)(x1:Int)(x6:Int):Tree :=
 NS (VS x0)<|NI (VI x1)<|NI (VI x6)<|.test (decide (x6<(ac x0:Int))) (.aj (0<=x6/\x6<ac x0)<|.call 162 [.v (.int .u8 (bt x0 x6))] [] fun r1 o1=>NB r1<|.test r1.toBool (.done 0 [VS x0,VI x1,VI (IntKind.wrap .i64 (x6+1))] []) (.done 1 [VS x0,VI x1,VI x6] [])) (.done 1 [VS x0,VI x1,VI x6] [])
abbrev FY:=cn Tryz.prog 84 KX GD
theorem MF(x0:ByteArray)(x1:Int)(x6:Int)(h:kk 84 (EX x0 x1 x6) FY U):FY [VS x0,VI x1,VI x6] [] U :=
 gQ Hu h
def Jy(x0:ByteArray)(x1:Int)(x7:ByteArray)(o48_0:ByteArray)(o48_1:List (List AV)):Tree :=
 NS (VS x0)<|NI (VI x1)<|NS (VS x7)<|.aj (Ob.cells [VS o48_0,.any]=.cells [VS o48_0,.any])<|.aj (ae [.lk .str,.vec 1] [VS o48_0,.any] 0 [.vec 1 o48_1])<|.call 144 [VS x7,VI (IntKind.wrap .i64 (x1+1))] [] fun r1 o1=>NT r1<|NP (r1.comp 0)<|NS (r1.comp 1)<|NP (r1.comp 0)<|.test ((r1.comp 0).isNil) (.done 2 [.v (.pointer none),VS x0] []) (.test (af ((r1.comp 1).ah)==af (mk [])) (.done 2 [.v (.pointer none),VS x0] []) (.aj (bV 1 [[(r1.comp 0)]]/\((o48_1.length)+([[(r1.comp 0)]]:List (List AV)).length)*8<=140737488355328)<|.aj (0<=(1:Int)/\(1:Int)<=(ac ((r1.comp 1).ah):Int)/\(ac ((r1.comp 1).ah):Int)<=(ac ((r1.comp 1).ah):Int))<|.aj (0<=(0:Int)/\(0:Int)<ac ((r1.comp 1).ah))<|.test ((bt ((r1.comp 1).ah) 0)==(41:Int)) (.done 2 [.ptr [VS o48_0,.sl (o48_1++([[(r1.comp 0)]]:List (List AV)))],VS (bX ((r1.comp 1).ah) (bT 1) (bT (ac ((r1.comp 1).ah):Int)))] []) (.aj (0<=(0:Int)/\(0:Int)<ac ((r1.comp 1).ah))<|.test ((bt ((r1.comp 1).ah) 0) != (32:Int)) (.done 2 [.v (.pointer none),VS x0] []) (.done 0 [VS x0,VI x1,VS (bX ((r1.comp 1).ah) (bT 1) (bT (ac ((r1.comp 1).ah):Int)))] [.cells [VS o48_0,.any],.vec 1 (o48_1++([[(r1.comp 0)]]:List (List AV)))]))))
abbrev Hc:=cn Tryz.prog 84 JE F1
theorem Oj(x0:ByteArray)(x1:Int)(x7:ByteArray)(o48_0:ByteArray)(o48_1:List (List AV))(h:kk 84 (Jy x0 x1 x7 o48_0 o48_1) Hc U):Hc [VS x0,VI x1,VS x7] [.cells [VS o48_0,.any],.vec 1 o48_1] U :=
 gQ Hu h
def Ju(a0:ByteArray):Tree :=
 .call 163 [VS a0,VS (mk [120,121,122])] [] fun r1 o1=>NB r1<|.done 0 [VB r1.toBool] []
theorem Om(a0:ByteArray)(h:dz 5 (Ju a0) R):ap Tryz.prog 145 [VS a0] [] R :=
 uQ (ag (aA _) aE) (oQ [] Tryz.f145 h)
def LC(a0:ByteArray):Tree :=
 .call 163 [VS a0,VS (mk [116])] [] fun r1 o1=>NB r1<|.done 0 [VB r1.toBool] []
theorem Ps(a0:ByteArray)(h:dz 5 (LC a0) R):ap Tryz.prog 146 [VS a0] [] R :=
 uQ (ag (aA _) aE) (oQ [] Tryz.f146 h)
def AN(a0:AV)(a1:ByteArray)(a2:Int):Tree :=
 NZ a0<|NZ a0<|qg (a0.deref.drop 1)<|NL ((a0.deref.drop 1).hA)<|.test (((((a0.deref.drop 1).hA).aO).length:Int)==a2) (NZ a0<|NZ a0<|qg (a0.deref.drop 1)<|NG ((a0.deref.drop 1).hA) 0 1<|eE (((a0.deref.drop 1).hA).ix (0:Int))<|NZ ((((a0.deref.drop 1).hA).ix (0:Int)).hA)<|NZ ((((a0.deref.drop 1).hA).ix (0:Int)).hA)<|.aj (LK.has .str (((((a0.deref.drop 1).hA).ix (0:Int)).hA).deref.hA)/\1<=(((((a0.deref.drop 1).hA).ix (0:Int)).hA).deref).length)<|.done 0 [VB (af ((((((a0.deref.drop 1).hA).ix (0:Int)).hA).deref.hA).ah)==af a1)] []) (.done 0 [VB false] [])
theorem L8(a0:AV)(a1:ByteArray)(a2:Int)(ha0:LK.has .ptr a0)(h:dz 27 (AN a0 a1 a2) R):ap Tryz.prog 147 [a0,VS a1,VI a2] [] R :=
 uQ (ag (bD ha0) (ag (aA _) (ag (aA _) aE))) (oQ [] Tryz.f147 h)
def MI(a0:Int)(a1:AV)(a2:AV):Tree :=
 .done 0 [.ptr [.v (.int .u8 a0),VS (mk []),VI 0,a1,a2]] []
theorem OB(a0:Int)(a1:AV)(a2:AV)(ha1:LK.has .ptr a1)(ha2:LK.has .ptr a2)(h:dz 12 (MI a0 a1 a2) R):ap Tryz.prog 149 [.v (.int .u8 a0),a1,a2] [] R :=
 uQ (ag (aA _) (ag (bD ha1) (ag (bD ha2) aE))) (oQ [] Tryz.f149 h)
def Io(a0:AV):Tree :=
 .call 165 [a0,.fn 166 [.ref 0 0]] [.cells [.vec 1],.vec 1 []] fun r1 o1=>.aj ((o1.hO)=.cells (o1.hO).cs)<|.aj (aK [.vec 1] ((o1.hO).cs) 0 1 o1.tail)<|.done 0 [.sl ((o1.tail.hO).es)] []
theorem OC(a0:AV)(ha0:LK.has .ptr a0)(h:dz 9 (Io a0) R):ap Tryz.prog 150 [a0] [] R :=
 uQ (ag (bD ha0) aE) (oQ [] Tryz.f150 h)
def EH:LI:={hd:={bN:=[(0,.k .ptr),(1,.k .sl),(9,.k .str)],refs:=[(3,0),(4,1)],cg:=[(0,[.lk .sl]),(1,[.lk (.int .i64)])],tH:=[(2,151,[none,some 0,some 1])]},xs:={bN:=[(0,.k .ptr),(1,.k .sl),(9,.k .str)],cg:=[(0,[.lk .sl]),(1,[.lk (.int .i64)])],tH:=[(2,151,[none,some 0,some 1])]},rt:={cg:=[(0,[.lk .sl]),(1,[.lk (.int .i64)])]},ex:=1,fx:=[0,1]}
def KW:Code:=cz (ct Tryz.f151) 12
def Mc:List (Nat×LI):=[(12,EH)]
def D4(a0:AV)(a1:AV)(a3_0:AV)(a4_0:Int):Tree :=
 NZ a0<|NZ a0<|.aj (LK.has (.int .u8) (a0.deref.hA)/\1<=a0.deref.length)<|.test (((a0.deref.hA).toInt)==(110:Int)) (NZ a0<|NZ a0<|mG (a0.deref.drop 1)<|.done 0 [VS (((a0.deref.drop 1).hA).ah)] [.cells [a3_0],.cells [VI a4_0]]) (.test (((a0.deref.hA).toInt)==(98:Int)) (NL a1<|NZ a0<|NZ a0<|.aj (LK.has (.int .i64) ((a0.deref.drop 2).hA)/\1<=(a0.deref.drop 2).length)<|.aj (LK.has .sl a1/\0<=(IntKind.wrap .i64 ((IntKind.wrap .i64 ((a1.aO.length:Int)-1))-(((a0.deref.drop 2).hA).toInt)))/\(IntKind.wrap .i64 ((IntKind.wrap .i64 ((a1.aO.length:Int)-1))-(((a0.deref.drop 2).hA).toInt)))<a1.aO.length/\(a1.ix (IntKind.wrap .i64 ((IntKind.wrap .i64 ((a1.aO.length:Int)-1))-(((a0.deref.drop 2).hA).toInt)))).length=1)<|mG (a1.ix (IntKind.wrap .i64 ((IntKind.wrap .i64 ((a1.aO.length:Int)-1))-(((a0.deref.drop 2).hA).toInt))))<|.done 0 [VS (((a1.ix (IntKind.wrap .i64 ((IntKind.wrap .i64 ((a1.aO.length:Int)-1))-(((a0.deref.drop 2).hA).toInt)))).hA).ah)] [.cells [a3_0],.cells [VI a4_0]]) (.test (((a0.deref.hA).toInt)==(43:Int)) (NZ a0<|NZ a0<|eE (a0.deref.drop 3)<|.call 151 [((a0.deref.drop 3).hA),a1,.fM 151 [none,some 0,some 1],.ref 0 0,.ref 1 0] [.cells [a3_0],.cells [VI a4_0]] fun r1 o1=>.aj ((o1.hO)=.cells (o1.hO).cs)<|.aj (aK [.lk .sl] ((o1.hO).cs) 0 1 o1.tail)<|.aj ((o1.tail.hO)=.cells (o1.tail.hO).cs)<|.aj (aK [.lk (.int .i64)] ((o1.tail.hO).cs) 0 2 o1.tail.tail)<|NS r1<|NZ a0<|NZ a0<|.aj (LK.has (.int .u8) (a0.deref.hA)/\1<=a0.deref.length)<|.aj (jo [[.v (.int .u8 ((a0.deref.hA).toInt))]])<|.aj (ac (mk [40])+ac (⟨(bytesOf [[.v (.int .u8 ((a0.deref.hA).toInt))]]).toArray⟩)<=9223372036854775807)<|.aj (ac (((mk [40]):ByteArray)++(⟨(bytesOf [[.v (.int .u8 ((a0.deref.hA).toInt))]]).toArray⟩))+ac (mk [32])<=9223372036854775807)<|.aj (ac (((((mk [40]):ByteArray)++(⟨(bytesOf [[.v (.int .u8 ((a0.deref.hA).toInt))]]).toArray⟩)):ByteArray)++(mk [32]))+ac r1.ah<=9223372036854775807)<|.aj (ac (((((((mk [40]):ByteArray)++(⟨(bytesOf [[.v (.int .u8 ((a0.deref.hA).toInt))]]).toArray⟩)):ByteArray)++(mk [32])):ByteArray)++r1.ah)+ac (mk [32])<=9223372036854775807)<|NZ a0<|NZ a0<|eE (a0.deref.drop 4)<|.call 151 [((a0.deref.drop 4).hA),a1,.fM 151 [none,some 0,some 1],.ref 0 0,.ref 1 0] [.cells [((o1.hO).cs.getD 0 .any)],.cells [VI (((o1.tail.hO).cs.getD 0 .any).toInt)]] fun r2 o2=>.aj ((o2.hO)=.cells (o2.hO).cs)<|.aj (aK [.lk .sl] ((o2.hO).cs) 0 1 o2.tail)<|.aj ((o2.tail.hO)=.cells (o2.tail.hO).cs)<|.aj (aK [.lk (.int .i64)] ((o2.tail.hO).cs) 0 2 o2.tail.tail)<|NS r2<|.aj (ac (((((((((mk [40]):ByteArray)++(⟨(bytesOf [[.v (.int .u8 ((a0.deref.hA).toInt))]]).toArray⟩)):ByteArray)++(mk [32])):ByteArray)++r1.ah):ByteArray)++(mk [32]))+ac r2.ah<=9223372036854775807)<|.aj (ac (((((((((((mk [40]):ByteArray)++(⟨(bytesOf [[.v (.int .u8 ((a0.deref.hA).toInt))]]).toArray⟩)):ByteArray)++(mk [32])):ByteArray)++r1.ah):ByteArray)++(mk [32])):ByteArray)++r2.ah)+ac (mk [41])<=9223372036854775807)<|.done 0 [VS (((((((((((((mk [40]):ByteArray)++(⟨(bytesOf [[.v (.int .u8 ((a0.deref.hA).toInt))]]).toArray⟩)):ByteArray)++(mk [32])):ByteArray)++r1.ah):ByteArray)++(mk [32])):ByteArray)++r2.ah):ByteArray)++(mk [41]))] [.cells [((o2.hO).cs.getD 0 .any)],.cells [VI (((o2.tail.hO).cs.getD 0 .any).toInt)]]) (.test (((a0.deref.hA).toInt)==(42:Int)) (NZ a0<|NZ a0<|eE (a0.deref.drop 3)<|.call 151 [((a0.deref.drop 3).hA),a1,.fM 151 [none,some 0,some 1],.ref 0 0,.ref 1 0] [.cells [a3_0],.cells [VI a4_0]] fun r3 o3=>.aj ((o3.hO)=.cells (o3.hO).cs)<|.aj (aK [.lk .sl] ((o3.hO).cs) 0 1 o3.tail)<|.aj ((o3.tail.hO)=.cells (o3.tail.hO).cs)<|.aj (aK [.lk (.int .i64)] ((o3.tail.hO).cs) 0 2 o3.tail.tail)<|NS r3<|NZ a0<|NZ a0<|.aj (LK.has (.int .u8) (a0.deref.hA)/\1<=a0.deref.length)<|.aj (jo [[.v (.int .u8 ((a0.deref.hA).toInt))]])<|.aj (ac (mk [40])+ac (⟨(bytesOf [[.v (.int .u8 ((a0.deref.hA).toInt))]]).toArray⟩)<=9223372036854775807)<|.aj (ac (((mk [40]):ByteArray)++(⟨(bytesOf [[.v (.int .u8 ((a0.deref.hA).toInt))]]).toArray⟩))+ac (mk [32])<=9223372036854775807)<|.aj (ac (((((mk [40]):ByteArray)++(⟨(bytesOf [[.v (.int .u8 ((a0.deref.hA).toInt))]]).toArray⟩)):ByteArray)++(mk [32]))+ac r3.ah<=9223372036854775807)<|.aj (ac (((((((mk [40]):ByteArray)++(⟨(bytesOf [[.v (.int .u8 ((a0.deref.hA).toInt))]]).toArray⟩)):ByteArray)++(mk [32])):ByteArray)++r3.ah)+ac (mk [32])<=9223372036854775807)<|NZ a0<|NZ a0<|eE (a0.deref.drop 4)<|.call 151 [((a0.deref.drop 4).hA),a1,.fM 151 [none,some 0,some 1],.ref 0 0,.ref 1 0] [.cells [((o3.hO).cs.getD 0 .any)],.cells [VI (((o3.tail.hO).cs.getD 0 .any).toInt)]] fun r4 o4=>.aj ((o4.hO)=.cells (o4.hO).cs)<|.aj (aK [.lk .sl] ((o4.hO).cs) 0 1 o4.tail)<|.aj ((o4.tail.hO)=.cells (o4.tail.hO).cs)<|.aj (aK [.lk (.int .i64)] ((o4.tail.hO).cs) 0 2 o4.tail.tail)<|NS r4<|.aj (ac (((((((((mk [40]):ByteArray)++(⟨(bytesOf [[.v (.int .u8 ((a0.deref.hA).toInt))]]).toArray⟩)):ByteArray)++(mk [32])):ByteArray)++r3.ah):ByteArray)++(mk [32]))+ac r4.ah<=9223372036854775807)<|.aj (ac (((((((((((mk [40]):ByteArray)++(⟨(bytesOf [[.v (.int .u8 ((a0.deref.hA).toInt))]]).toArray⟩)):ByteArray)++(mk [32])):ByteArray)++r3.ah):ByteArray)++(mk [32])):ByteArray)++r4.ah)+ac (mk [41])<=9223372036854775807)<|.done 0 [VS (((((((((((((mk [40]):ByteArray)++(⟨(bytesOf [[.v (.int .u8 ((a0.deref.hA).toInt))]]).toArray⟩)):ByteArray)++(mk [32])):ByteArray)++r3.ah):ByteArray)++(mk [32])):ByteArray)++r4.ah):ByteArray)++(mk [41]))] [.cells [((o4.hO).cs.getD 0 .any)],.cells [VI (((o4.tail.hO).cs.getD 0 .any).toInt)]]) (.test (((a0.deref.hA).toInt)==(114:Int)) (.loop KW EH [a0,a1,VS (mk [])] [.cells [a3_0],.cells [VI a4_0]] (fun y8 q8=>NP (y8.hA)<|NL (y8.tail.hA)<|NS (y8.tail.tail.hA)<|.aj ((q8.hO)=.cells (q8.hO).cs)<|.aj (ae [.lk .sl] ((q8.hO).cs) 0 q8.tail)<|.aj (((q8.tail.drop 0).hO)=.cells ((q8.tail.drop 0).hO).cs)<|.aj (ae [.lk (.int .i64)] (((q8.tail.drop 0).hO).cs) 0 ((q8.tail.drop 0).tail))<|.aj (ac (mk [40,114,101,99,32])+ac ((y8.tail.tail.hA).ah)<=9223372036854775807)<|.aj (ac (((mk [40,114,101,99,32]):ByteArray)++((y8.tail.tail.hA).ah))+ac (mk [32])<=9223372036854775807)<|NZ (y8.hA)<|NZ (y8.hA)<|eE ((y8.hA).deref.drop 3)<|.aj (LK.has .sl (y8.tail.hA)/\bV 1 ((y8.tail.hA).aO)/\((([]:List (List AV)).length)+((y8.tail.hA).aO).length)*16<=140737488355328)<|.aj (bV 1 [[VS ((y8.tail.tail.hA).ah)]]/\(((([]:List (List AV))++((y8.tail.hA).aO)).length)+([[VS ((y8.tail.tail.hA).ah)]]:List (List AV)).length)*16<=140737488355328)<|.call 151 [(((y8.hA).deref.drop 3).hA),.sl ((([]:List (List AV))++((y8.tail.hA).aO))++([[VS ((y8.tail.tail.hA).ah)]]:List (List AV))),.fM 151 [none,some 0,some 1],.ref 0 0,.ref 1 0] [.cells [((q8.hO).cs.getD 0 .any)],.cells [VI (((q8.tail.hO).cs.getD 0 .any).toInt)]] fun r9 o9=>.aj ((o9.hO)=.cells (o9.hO).cs)<|.aj (aK [.lk .sl] ((o9.hO).cs) 0 1 o9.tail)<|.aj ((o9.tail.hO)=.cells (o9.tail.hO).cs)<|.aj (aK [.lk (.int .i64)] ((o9.tail.hO).cs) 0 2 o9.tail.tail)<|NS r9<|.aj (ac (((((mk [40,114,101,99,32]):ByteArray)++((y8.tail.tail.hA).ah)):ByteArray)++(mk [32]))+ac r9.ah<=9223372036854775807)<|.aj (ac (((((((mk [40,114,101,99,32]):ByteArray)++((y8.tail.tail.hA).ah)):ByteArray)++(mk [32])):ByteArray)++r9.ah)+ac (mk [41])<=9223372036854775807)<|.done 0 [VS (((((((((mk [40,114,101,99,32]):ByteArray)++((y8.tail.tail.hA).ah)):ByteArray)++(mk [32])):ByteArray)++r9.ah):ByteArray)++(mk [41]))] [.cells [((o9.hO).cs.getD 0 .any)],.cells [VI (((o9.tail.hO).cs.getD 0 .any).toInt)]]) (fun y8 q8=>.aj ((q8.hO)=.cells (q8.hO).cs)<|.aj (ae [.lk .sl] ((q8.hO).cs) 0 q8.tail)<|.aj (((q8.tail.drop 0).hO)=.cells ((q8.tail.drop 0).hO).cs)<|.aj (ae [.lk (.int .i64)] (((q8.tail.drop 0).hO).cs) 0 ((q8.tail.drop 0).tail))<|.done 0 [.any] [.cells [((q8.hO).cs.getD 0 .any)],.cells [VI (((q8.tail.hO).cs.getD 0 .any).toInt)]])) (NZ a0<|NZ a0<|.aj (LK.has (.int .u8) (a0.deref.hA)/\1<=a0.deref.length)<|.aj (jo [[.v (.int .u8 ((a0.deref.hA).toInt))]])<|.done 0 [VS (⟨(bytesOf [[.v (.int .u8 ((a0.deref.hA).toInt))]]).toArray⟩)] [.cells [a3_0],.cells [VI a4_0]])))))
theorem GU(a0:AV)(a1:AV)(a3_0:AV)(a4_0:Int)(ha0:LK.has .ptr a0)(ha1:LK.has .sl a1)(ha3_0:LK.has .sl a3_0)(h:dz 100 (D4 a0 a1 a3_0 a4_0) R):ap Tryz.prog 151 [a0,a1,.fM 151 [none,some 0,some 1],.ref 0 0,.ref 1 0] [.cells [a3_0],.cells [VI a4_0]] R :=
 ap.nu (bi (bQ (ag (ca ha3_0) aE)) (bi (bQ (ag (aA _) aE)) cm)) (ap.up (ag (bD ha0) (ag (ca ha1) (ag (aA _) (ag (aA _) (ag (aA _) aE))))) (oF Mc {mu:=[(2,.w4 151 [none,some 0,some 1]),(3,.one (.obj [.lk .sl])),(4,.one (.obj [.lk (.int .i64)]))],own:=[]} Tryz.f151 h))
def Fa(x0:AV)(x1:AV)(x9:ByteArray)(o0_0:AV)(o1_0:Int):Tree :=
 NP x0<|NL x1<|NS (VS x9)<|.aj (Ob.cells [o0_0]=.cells [o0_0])<|.aj (ae [.lk .sl] [o0_0] 0 [.cells [VI o1_0]])<|.aj (Ob.cells [VI o1_0]=.cells [VI o1_0])<|.aj (ae [.lk (.int .i64)] [VI o1_0] 0 [])<|.test (af x9==af (mk [])) (.call 148 [VI o1_0] [] fun r1 o1=>NS r1<|.aj (ac (mk [116])+ac r1.ah<=9223372036854775807)<|.done 0 [x0,x1,VS (((mk [116]):ByteArray)++r1.ah)] [.cells [o0_0],.cells [VI (IntKind.wrap .i64 (o1_0+1))]]) (.call 152 [o0_0,VS x9] [] fun r2 o2=>NB r2<|.test r2.toBool (.call 148 [VI o1_0] [] fun r3 o3=>NS r3<|.aj (ac (mk [116])+ac r3.ah<=9223372036854775807)<|.done 0 [x0,x1,VS (((mk [116]):ByteArray)++r3.ah)] [.cells [o0_0],.cells [VI (IntKind.wrap .i64 (o1_0+1))]]) (.done 1 [x0,x1,VS x9] [.cells [o0_0],.cells [VI o1_0]]))
abbrev Ch:=cn Tryz.prog 100 KW EH
theorem IF(x0:AV)(x1:AV)(x9:ByteArray)(o0_0:AV)(o1_0:Int)(h:kk 100 (Fa x0 x1 x9 o0_0 o1_0) Ch U):Ch [x0,x1,VS x9] [.cells [o0_0],.cells [VI o1_0]] U :=
 gQ Mc h
def J1(a0:AV)(a1:ByteArray):Tree :=
 .call 167 [a0,VS a1] [] fun r1 o1=>NI r1<|.done 0 [VB (decide (r1.toInt≥(0:Int)))] []
theorem QJ(a0:AV)(a1:ByteArray)(ha0:LK.has .sl a0)(h:dz 9 (J1 a0 a1) R):ap Tryz.prog 152 [a0,VS a1] [] R :=
 uQ (ag (ca ha0) (ag (aA _) aE)) (oQ [] Tryz.f152 h)
def Le(a0:AV):Tree :=
 .call 168 [a0,.v (.func (.func 146) #[] #[])] [] fun r1 o1=>NI r1<|.done 0 [VB (decide (r1.toInt≥(0:Int)))] []
theorem Pw(a0:AV)(ha0:LK.has .sl a0)(h:dz 9 (Le a0) R):ap Tryz.prog 153 [a0,.v (.func (.func 146) #[] #[])] [] R :=
 uQ (ag (ca ha0) (ag (aA _) aE)) (oQ [] Tryz.f153 h)
def JU(a0:ByteArray):Tree :=
 .test (decide ((ac a0:Int)<(2:Int))) (.done 0 [VB false] []) (.test (decide ((ac a0:Int)>(3:Int))) (.done 0 [VB false] []) (.aj (0<=(0:Int)/\(0:Int)<ac a0)<|.test ((bt a0 0) != (101:Int)) (.done 0 [VB false] []) (.aj (0<=(1:Int)/\(1:Int)<=(ac a0:Int)/\(ac a0:Int)<=(ac a0:Int))<|.call 169 [VS (bX a0 (bT 1) (bT (ac a0:Int))),VS (mk [48,49,50,51,52,53,54,55,56,57])] [] fun r1 o1=>NS r1<|.test (!(af r1.ah==af (mk []))) (.done 0 [VB false] []) (.test ((ac a0:Int)==(2:Int)) (.done 0 [VB true] []) (.aj (0<=(1:Int)/\(1:Int)<ac a0)<|.done 0 [VB ((bt a0 1) != (48:Int))] [])))))
theorem Qo(a0:ByteArray)(h:dz 30 (JU a0) R):ap Tryz.prog 154 [VS a0] [] R :=
 uQ (ag (aA _) aE) (oQ [] Tryz.f154 h)
def Ap(a0_0:ByteArray)(a0_1:AV)(a1:ByteArray):Tree :=
 .test (!(af a0_0==af (mk []))) (.test (af a0_0==af a1) (.done 0 [VI 1] []) (.done 0 [VI 0] [])) (.call 71 [.agg [VS a0_0,a0_1]] [] fun r1 o1=>NS r1<|.test (af r1.ah==af (mk [114,101,99])) (NG a0_1 1 2<|mG (a0_1.ix (1:Int))<|.test (af (((a0_1.ix (1:Int)).hA).ah)==af a1) (.done 0 [VI 0] []) (NG a0_1 2 2<|NE (a0_1.ix (2:Int))<|.call 160 [.agg [VS (((a0_1.ix (2:Int)).getD 0 .any).ah),((a0_1.ix (2:Int)).getD 1 .any)],VS a1] [] fun r2 o2=>NI r2<|.done 0 [VI r2.toInt] [])) (NG a0_1 1 2<|NE (a0_1.ix (1:Int))<|.call 160 [.agg [VS (((a0_1.ix (1:Int)).getD 0 .any).ah),((a0_1.ix (1:Int)).getD 1 .any)],VS a1] [] fun r3 o3=>NI r3<|NG a0_1 2 2<|NE (a0_1.ix (2:Int))<|.call 160 [.agg [VS (((a0_1.ix (2:Int)).getD 0 .any).ah),((a0_1.ix (2:Int)).getD 1 .any)],VS a1] [] fun r4 o4=>NI r4<|.done 0 [VI (IntKind.wrap .i64 (r3.toInt+r4.toInt))] []))
theorem CW(a0_0:ByteArray)(a0_1:AV)(a1:ByteArray)(ha0_1:LK.has .sl a0_1)(h:dz 41 (Ap a0_0 a0_1 a1) R):ap Tryz.prog 160 [.agg [VS a0_0,a0_1],VS a1] [] R :=
 uQ (ag (cF (ag (aA _) (ag (ca ha0_1) aE))) (ag (aA _) aE)) (oQ [] Tryz.f160 h)
def Aw(a0_0:ByteArray)(a0_1:AV)(a1:ByteArray)(a2_0:ByteArray)(a2_1:AV):Tree :=
 .test (!(af a0_0==af (mk []))) (.test (af a0_0==af a1) (.done 0 [.agg [VS a2_0,a2_1]] []) (.done 0 [.agg [VS a0_0,a0_1]] [])) (.call 71 [.agg [VS a0_0,a0_1]] [] fun r1 o1=>NS r1<|.test (af r1.ah==af (mk [114,101,99])) (NG a0_1 1 2<|mG (a0_1.ix (1:Int))<|.test (af (((a0_1.ix (1:Int)).hA).ah)==af a1) (.done 0 [.agg [VS a0_0,a0_1]] []) (NG a0_1 1 2<|NE (a0_1.ix (1:Int))<|NG a0_1 2 2<|NE (a0_1.ix (2:Int))<|.call 161 [.agg [VS (((a0_1.ix (2:Int)).getD 0 .any).ah),((a0_1.ix (2:Int)).getD 1 .any)],VS a1,.agg [VS a2_0,a2_1]] [] fun r2 o2=>NA r2<|.call 78 [VS (mk [114,101,99]),.sl [[VS (((a0_1.ix (1:Int)).getD 0 .any).ah),((a0_1.ix (1:Int)).getD 1 .any)],[VS ((r2.cs.getD 0 .any).ah),(r2.cs.getD 1 .any)]]] [] fun r3 o3=>NA r3<|.done 0 [.agg [VS ((r3.cs.getD 0 .any).ah),(r3.cs.getD 1 .any)]] [])) (.call 71 [.agg [VS a0_0,a0_1]] [] fun r4 o4=>NS r4<|NG a0_1 1 2<|NE (a0_1.ix (1:Int))<|.call 161 [.agg [VS (((a0_1.ix (1:Int)).getD 0 .any).ah),((a0_1.ix (1:Int)).getD 1 .any)],VS a1,.agg [VS a2_0,a2_1]] [] fun r5 o5=>NA r5<|NG a0_1 2 2<|NE (a0_1.ix (2:Int))<|.call 161 [.agg [VS (((a0_1.ix (2:Int)).getD 0 .any).ah),((a0_1.ix (2:Int)).getD 1 .any)],VS a1,.agg [VS a2_0,a2_1]] [] fun r6 o6=>NA r6<|.call 78 [VS r4.ah,.sl [[VS ((r5.cs.getD 0 .any).ah),(r5.cs.getD 1 .any)],[VS ((r6.cs.getD 0 .any).ah),(r6.cs.getD 1 .any)]]] [] fun r7 o7=>NA r7<|.done 0 [.agg [VS ((r7.cs.getD 0 .any).ah),(r7.cs.getD 1 .any)]] []))
theorem Du(a0_0:ByteArray)(a0_1:AV)(a1:ByteArray)(a2_0:ByteArray)(a2_1:AV)(ha0_1:LK.has .sl a0_1)(ha2_1:LK.has .sl a2_1)(h:dz 58 (Aw a0_0 a0_1 a1 a2_0 a2_1) R):ap Tryz.prog 161 [.agg [VS a0_0,a0_1],VS a1,.agg [VS a2_0,a2_1]] [] R :=
 uQ (ag (cF (ag (aA _) (ag (ca ha0_1) aE))) (ag (aA _) (ag (cF (ag (aA _) (ag (ca ha2_1) aE))) aE))) (oQ [] Tryz.f161 h)
def Ml(a0:Int):Tree :=
 .test (decide (a0≥(97:Int))) (.test (decide (a0<=(122:Int))) (.done 0 [VB true] []) (.test (decide (a0≥(48:Int))) (.test (decide (a0<=(57:Int))) (.done 0 [VB true] []) (.test (a0==(43:Int)) (.done 0 [VB true] []) (.done 0 [VB (a0==(42:Int))] []))) (.test (a0==(43:Int)) (.done 0 [VB true] []) (.done 0 [VB (a0==(42:Int))] [])))) (.test (decide (a0≥(48:Int))) (.test (decide (a0<=(57:Int))) (.done 0 [VB true] []) (.test (a0==(43:Int)) (.done 0 [VB true] []) (.done 0 [VB (a0==(42:Int))] []))) (.test (a0==(43:Int)) (.done 0 [VB true] []) (.done 0 [VB (a0==(42:Int))] [])))
theorem Pq(a0:Int)(h:dz 25 (Ml a0) R):ap Tryz.prog 162 [.v (.int .u8 a0)] [] R :=
 uQ (ag (aA _) aE) (oQ [] Tryz.f162 h)
def Jr(a0:ByteArray)(a1:ByteArray):Tree :=
 .test (decide ((ac a0:Int)≥(1:Int))) (.test (decide ((ac a0:Int)<=(3:Int))) (.aj (0<=(0:Int)/\(0:Int)<=(1:Int)/\(1:Int)<=(ac a0:Int))<|.call 178 [VS a1,VS (bX a0 (bT 0) (bT 1))] [] fun r1 o1=>NB r1<|.test r1.toBool (.aj (0<=(1:Int)/\(1:Int)<=(ac a0:Int)/\(ac a0:Int)<=(ac a0:Int))<|.call 169 [VS (bX a0 (bT 1) (bT (ac a0:Int))),VS (mk [48,49,50,51,52,53,54,55,56,57])] [] fun r2 o2=>NS r2<|.done 0 [VB (af r2.ah==af (mk []))] []) (.done 0 [VB false] [])) (.done 0 [VB false] [])) (.done 0 [VB false] [])
theorem Oe(a0:ByteArray)(a1:ByteArray)(h:dz 25 (Jr a0 a1) R):ap Tryz.prog 163 [VS a0,VS a1] [] R :=
 uQ (ag (aA _) (ag (aA _) aE)) (oQ [] Tryz.f163 h)
def Eg(a0:AV)(e1_0_0:List (List AV)):Tree :=
 .call 166 [a0,.ref 0 0] [.cells [.vec 1],.vec 1 e1_0_0] fun r1 o1=>.aj ((o1.hO)=.cells (o1.hO).cs)<|.aj (aK [.vec 1] ((o1.hO).cs) 0 1 o1.tail)<|NZ a0<|NZ a0<|eE (a0.deref.drop 3)<|NP ((a0.deref.drop 3).hA)<|.test (!((a0.deref.drop 3).hA).isNil) (NZ a0<|NZ a0<|eE (a0.deref.drop 3)<|.call 165 [((a0.deref.drop 3).hA),.fn 166 [.ref 0 0]] [.cells [.vec 1],.vec 1 ((o1.tail.hO).es)] fun r2 o2=>.aj ((o2.hO)=.cells (o2.hO).cs)<|.aj (aK [.vec 1] ((o2.hO).cs) 0 1 o2.tail)<|NZ a0<|NZ a0<|eE (a0.deref.drop 4)<|NP ((a0.deref.drop 4).hA)<|.test (!((a0.deref.drop 4).hA).isNil) (NZ a0<|NZ a0<|eE (a0.deref.drop 4)<|.call 165 [((a0.deref.drop 4).hA),.fn 166 [.ref 0 0]] [.cells [.vec 1],.vec 1 ((o2.tail.hO).es)] fun r3 o3=>.aj ((o3.hO)=.cells (o3.hO).cs)<|.aj (aK [.vec 1] ((o3.hO).cs) 0 1 o3.tail)<|.done 0 [.any] [.cells [.vec 1],.vec 1 ((o3.tail.hO).es)]) (.done 0 [.any] [.cells [.vec 1],.vec 1 ((o2.tail.hO).es)])) (NZ a0<|NZ a0<|eE (a0.deref.drop 4)<|NP ((a0.deref.drop 4).hA)<|.test (!((a0.deref.drop 4).hA).isNil) (NZ a0<|NZ a0<|eE (a0.deref.drop 4)<|.call 165 [((a0.deref.drop 4).hA),.fn 166 [.ref 0 0]] [.cells [.vec 1],.vec 1 ((o1.tail.hO).es)] fun r4 o4=>.aj ((o4.hO)=.cells (o4.hO).cs)<|.aj (aK [.vec 1] ((o4.hO).cs) 0 1 o4.tail)<|.done 0 [.any] [.cells [.vec 1],.vec 1 ((o4.tail.hO).es)]) (.done 0 [.any] [.cells [.vec 1],.vec 1 ((o1.tail.hO).es)]))
theorem wi(a0:AV)(e1_0_0:List (List AV))(ha0:LK.has .ptr a0)(h:dz 29 (Eg a0 e1_0_0) R):ap Tryz.prog 165 [a0,.fn 166 [.ref 0 0]] [.cells [.vec 1],.vec 1 e1_0_0] R :=
 ap.nu (bi (bQ (ag (aA _) aE)) (bi (fg _) cm)) (ap.up (ag (bD ha0) (ag (aA _) aE)) (oF [] {mu:=[(1,.fn [some (.obj [.vec 1])])],own:=[]} Tryz.f165 h))
def EE(a0:AV)(e1_0:List (List AV)):Tree :=
 NZ a0<|NZ a0<|.aj (LK.has (.int .u8) (a0.deref.hA)/\1<=a0.deref.length)<|.test (((a0.deref.hA).toInt)==(110:Int)) (NZ a0<|NZ a0<|mG (a0.deref.drop 1)<|.call 152 [.sl e1_0,VS (((a0.deref.drop 1).hA).ah)] [] fun r1 o1=>NB r1<|.test (!r1.toBool) (NZ a0<|NZ a0<|mG (a0.deref.drop 1)<|.aj (bV 1 [[VS (((a0.deref.drop 1).hA).ah)]]/\((e1_0.length)+([[VS (((a0.deref.drop 1).hA).ah)]]:List (List AV)).length)*16<=140737488355328)<|.done 0 [.any] [.cells [.vec 1],.vec 1 (e1_0++([[VS (((a0.deref.drop 1).hA).ah)]]:List (List AV)))]) (.done 0 [.any] [.cells [.vec 1],.vec 1 e1_0])) (.done 0 [.any] [.cells [.vec 1],.vec 1 e1_0])
theorem OH(a0:AV)(e1_0:List (List AV))(ha0:LK.has .ptr a0)(h:dz 24 (EE a0 e1_0) R):ap Tryz.prog 166 [a0,.ref 0 0] [.cells [.vec 1],.vec 1 e1_0] R :=
 ap.nu (bi (bQ (ag (aA _) aE)) (bi (fg _) cm)) (ap.up (ag (bD ha0) (ag (aA _) aE)) (oF [] {mu:=[(1,.one (.obj [.vec 1]))],own:=[]} Tryz.f166 h))
def FG:LI:={hd:={bN:=[(0,.k .sl),(1,.k .str),(7,.k (.int .i64)),(8,.k (.int .i64))]},xs:={},rt:={bN:=[(4,.k (.int .i64))]},ex:=0}
def LY:Code:=cz (ct Tryz.f167) 2
def Lj:List (Nat×LI):=[(2,FG)]
def Ke(a0:AV)(a1:ByteArray):Tree :=
 NL a0<|.loop LY FG [a0,VS a1,VI (a0.aO.length:Int),VI 0] [] (fun y1 q1=>.done 0 [VI (-1)] []) (fun y1 q1=>NI (y1.hA)<|.done 0 [VI ((y1.hA).toInt)] [])
theorem QD(a0:AV)(a1:ByteArray)(ha0:LK.has .sl a0)(h:dz 19 (Ke a0 a1) R):ap Tryz.prog 167 [a0,VS a1] [] R :=
 uQ (ag (ca ha0) (ag (aA _) aE)) (oQ Lj Tryz.f167 h)
def EW(x0:AV)(x1:ByteArray)(x7:Int)(x8:Int):Tree :=
 NL x0<|NS (VS x1)<|NI (VI x7)<|NI (VI x8)<|.test (decide (x8<x7)) (NG x0 x8 1<|mG (x0.ix x8)<|.test (af x1==af (((x0.ix x8).hA).ah)) (.done 2 [VI x8] []) (.done 0 [x0,VS x1,VI x7,VI (IntKind.wrap .i64 (x8+1))] [])) (.done 1 [] [])
abbrev FM:=cn Tryz.prog 19 LY FG
theorem Lv(x0:AV)(x1:ByteArray)(x7:Int)(x8:Int)(h:kk 19 (EW x0 x1 x7 x8) FM U):FM [x0,VS x1,VI x7,VI x8] [] U :=
 gQ Lj h
def Gx:LI:={hd:={bN:=[(0,.k .sl),(1,.c (.func (.func 146) #[] #[])),(7,.k (.int .i64)),(8,.k (.int .i64))]},xs:={},rt:={bN:=[(4,.k (.int .i64))]},ex:=0}
def H4:Code:=cz (ct Tryz.f168) 2
def MH:List (Nat×LI):=[(2,Gx)]
def Is(a0:AV):Tree :=
 NL a0<|.loop H4 Gx [a0,.v (.func (.func 146) #[] #[]),VI (a0.aO.length:Int),VI 0] [] (fun y2 q2=>.done 0 [VI (-1)] []) (fun y2 q2=>NI (y2.hA)<|.done 0 [VI ((y2.hA).toInt)] [])
theorem Pb(a0:AV)(ha0:LK.has .sl a0)(h:dz 19 (Is a0) R):ap Tryz.prog 168 [a0,.v (.func (.func 146) #[] #[])] [] R :=
 uQ (ag (ca ha0) (ag (aA _) aE)) (oQ MH Tryz.f168 h)
def Eu(x0:AV)(x7:Int)(x8:Int):Tree :=
 NL x0<|.aj (AV.v (.func (.func 146) #[] #[])=.v (.func (.func 146) #[] #[]))<|NI (VI x7)<|NI (VI x8)<|.test (decide (x8<x7)) (NG x0 x8 1<|mG (x0.ix x8)<|.call 146 [VS (((x0.ix x8).hA).ah)] [] fun r1 o1=>NB r1<|.test r1.toBool (.done 2 [VI x8] []) (.done 0 [x0,.v (.func (.func 146) #[] #[]),VI x7,VI (IntKind.wrap .i64 (x8+1))] [])) (.done 1 [] [])
abbrev F0:=cn Tryz.prog 19 H4 Gx
theorem My(x0:AV)(x7:Int)(x8:Int)(h:kk 19 (Eu x0 x7 x8) F0 U):F0 [x0,.v (.func (.func 146) #[] #[]),VI x7,VI x8] [] U :=
 gQ MH h
end
end Go.Proofs.Trees
namespace Go.Proofs.Trees
open Go Go.VL
theorem bh(i:Nat)(h:i<1000000000000):IntKind.wrap .i64 ((i:Int)+1)=((i+1:Nat):Int):=by rw[wrap64]<;>omega
inductive E where
 |atom (s:List UInt8)
 |list (l:List E)
mutual
def E.cx:E->AV
 | .atom s=>.ptr [.v (.string (mk s)),.v (.slice none 0 0)]
 | .list l=>.ptr [.v (.string (mk [])),.sl (E.lX l)]
def E.lX:List E->List (List AV)
 |[]=>[]
 |e::l=>[e.cx]::E.lX l
end
mutual
def E.hJ:E->List AV
 | .atom s=>[.v (.string (mk s)),.v (.slice none 0 0)]
 | .list l=>[.v (.string (mk [])),.sl (E.bj l)]
def E.bj:List E->List (List AV)
 |[]=>[]
 |e::l=>e.hJ::E.bj l
end
def E.ko(e:E):AV:=.agg e.hJ
theorem uK(l r:List E):E.lX (l++r)=E.lX l++E.lX r:=by
 induction l with
 |nil=>rfl
 |cons e l ih=>simp[E.lX,ih]
theorem pL(l r:List E):E.bj (l++r)=E.bj l++E.bj r:=by
 induction l with
 |nil=>rfl
 |cons e l ih=>simp[E.bj,ih]
theorem rM(l:List E):(E.lX l).length=l.length:=by
 induction l with
 |nil=>rfl
 |cons e l ih=>simp[E.lX,ih]
theorem dO(l:List E):(E.bj l).length=l.length:=by
 induction l with
 |nil=>rfl
 |cons e l ih=>simp[E.bj,ih]
def eH(b:UInt8):Bool:=decide ((97<=b.toNat/\b.toNat<=122)\/(48<=b.toNat/\b.toNat<=57)\/b.toNat=43\/b.toNat=42)
def rV(f:List UInt8->Option (E×List UInt8)):Nat->List UInt8->List E->Option (E×List UInt8)
 |0,_,_=>none
 |
  n+1,s,acc=>match f s with
  |some (p,c::r)=>if c.toNat=41 then some (.list (acc++[p]),r)else if c.toNat=32 then rV f n r (acc++[p])else none
  |_=>none
def rd:Nat->List UInt8->Option (E×List UInt8)
 |0,s=>if s.takeWhile eH=[]then none else some (.atom (s.takeWhile eH),s.dropWhile eH)
 |k+1,s=>if s.takeWhile eH=[]then(match s with
  |c::r=>if c.toNat=40 then rV (rd k) (r.length+1) r []else none
  |[]=>none)else some (.atom (s.takeWhile eH),s.dropWhile eH)
theorem Ai{f:List UInt8->Option (E×List UInt8)}(hf:∀s e r,f s=some (e,r)->r.length<s.length):∀(n:Nat) (s:List UInt8) (acc:List E) (e:E) (r:List UInt8),rV f n s acc=some (e,r)->r.length<s.length
 |0,s,acc,e,r,h=>by cases h
 |
  n+1,s,acc,e,r,h=>by
  simp only[rV]at h
  split at h
  ·rename_i p c r' hs
   have:=hf _ _ _ hs
   simp only[au]at this
   split at h
   ·cases h;omega
   ·split at h
    ·have:=Ai hf n _ _ _ _ h;omega
    ·cases h
  ·cases h
theorem n6{s:List UInt8}(h:¬s.takeWhile eH=[]):(s.dropWhile eH).length<s.length:=by
 have h1:=congrArg List.length (bS (p:=eH) (l:=s))
 simp only[al]at h1
 have:0<(s.takeWhile eH).length:=List.length_pos_iff.2 h
 omega
theorem xY:∀(k:Nat) (s:List UInt8) (e:E) (r:List UInt8),rd k s=some (e,r)->r.length<s.length
 |
  0,s,e,r,h=>by
  simp only[rd]at h
  split at h
  ·cases h
  ·rename_i hn;cases h;exact n6 hn
 |
  k+1,s,e,r,h=>by
  simp only[rd]at h
  split at h
  ·split at h
   ·split at h
    ·have:=Ai (xY k) _ _ _ _ _ h
     simp only[au];omega
    ·cases h
   ·cases h
  ·rename_i hn;cases h;exact n6 hn
theorem Pr(b:UInt8):ap Tryz.prog 162 [.v (.int .u8 (b.toNat:Int))] [] (bH (.v (.bool (eH b)))):=by
 refine Pq _ ?_
 simp only[Ml,↓zq,zs,ae,bH,eH]
 repeat' (apply aI<;>intro _)
 all_goals first|(congr 2;rw[cq];simp;omega)|(congr 2;simp;omega)
theorem xl{s:List UInt8}{i:Nat}(hi:i<s.length)(hb:eH (s.getD i 0)=true):((s.drop i).takeWhile eH).length=((s.drop (i+1)).takeWhile eH).length+1:=by
 have e:s.drop i=s.getD i 0::s.drop (i+1):=by
  rw[aL hi];simp[aa,hi]
 rw[e,List.takeWhile_cons_of_pos hb];simp
theorem qi{s:List UInt8}{i:Nat}(hi:i<s.length)(hb:eH (s.getD i 0)=false):(s.drop i).takeWhile eH=[]:=by
 have e:s.drop i=s.getD i 0::s.drop (i+1):=by
  rw[aL hi];simp[aa,hi]
 rw[e,List.takeWhile_cons_of_neg (by rw[hb];simp)]
theorem En(s:List UInt8)(hs:s.length<=8000)(d:Int):∀(k i:Nat),i+k=s.length->FY [.v (.string (mk s)),.v (.int .i64 d),.v (.int .i64 (i:Int))] [] (ga 1 [.v (.string (mk s)),.v (.int .i64 d),.v (.int .i64 ((i+((s.drop i).takeWhile eH).length:Nat):Int))] [])
 |
  0,i,hi=>by
  refine MF _ _ _ ?_
  have hd:s.drop i=[]:=bG (by omega)
  simp only[EX,↓zq,zs,ae,zt]
  exact⟨fun h=>by omega,fun _=>by simp[ga,hd]⟩
 |
  k+1,i,hi=>by
  have hlt:i<s.length:=by omega
  refine MF _ _ _ ?_
  simp only[EX,↓zq,zs,ae,zt,lN s i hlt]
  refine⟨fun _=>⟨by omega,?_⟩,fun h=>by omega⟩
  refine an (Pr _) ?_
  simp only[↓zq,zs,ae]
  refine⟨fun hb=>?_,fun hb=>?_⟩
  ·rw[bh i (by omega)]
   have:=En s hs d k (i+1) (by omega)
   rw[xl hlt hb,show i+(((s.drop (i+1)).takeWhile eH).length+1)=i+1+((s.drop (i+1)).takeWhile eH).length by omega]
   exact this
  ·simp[ga,qi hlt hb]
def oi(s:List UInt8):Option (E×List UInt8)->AV
 |some (e,r)=>.cQ [e.cx,.v (.string (mk r))]
 |none=>.cQ [.v (.pointer none),.v (.string (mk s))]
theorem cG(e:E):LK.has .ptr e.cx=True:=by cases e<;>simp[E.cx,cu]
theorem dU(e:E):e.cx.isNil=false:=by cases e<;>rfl
theorem tn(s:List UInt8):s.take (s.takeWhile eH).length=s.takeWhile eH:=by
 have h:=bS (p:=eH) (l:=s)
 have:(s.takeWhile eH++s.dropWhile eH).take (s.takeWhile eH).length=s.takeWhile eH:=List.take_left
 rw[h]at this;exact this
theorem xZ(s:List UInt8):s.drop (s.takeWhile eH).length=s.dropWhile eH:=by
 have h:=bS (p:=eH) (l:=s)
 have:(s.takeWhile eH++s.dropWhile eH).drop (s.takeWhile eH).length=s.dropWhile eH:=List.drop_left
 rw[h]at this;exact this
theorem AQ(c:UInt8)(r:List UInt8):(List.take (r.length+1) (c::r)).drop (bT 1)=r:=by simp
theorem M3(s0:List UInt8)(k:Nat)(hk:k<300)(ih:∀s,s.length<=8000->ap Tryz.prog 144 [.v (.string (mk s)),.v (.int .i64 ((300-k:Nat):Int))] [] (bH (oi s (rd k s)))) :
 ∀(n:Nat) (s:List UInt8) (acc:List E),s.length<n->s.length+acc.length<=8000->Hc [.v (.string (mk s0)),.v (.int .i64 ((300-(k+1):Nat):Int)),.v (.string (mk s))] [.cells [.v (.string (mk [])),.any],.vec 1 (E.lX acc)]
  (ru (match rV (rd k) n s acc with|some (e,r)=>(2,[e.cx,.v (.string (mk r))],[])|none=>(2,[.v (.pointer none),.v (.string (mk s0))],[])))
 |0,s,acc,hn,_=>by omega
 |
  n+1,s,acc,hn,hl=>by
  refine Oj _ _ _ _ _ ?_
  simp only[Jy,↓zq,zs,ae,BH]
  have hd:IntKind.wrap .i64 (((300-(k+1):Nat):Int)+1)=((300-k:Nat):Int):=by rw[wrap64]<;>omega
  rw[hd]
  refine an (ih s (by omega)) ?_
  have hlt:=xY k s
  cases hr:rd k s with
  |
   none =>
   simp only[oi,↓zq,zs,ae,rV,hr]
   simp[ru]
  |
   some q =>
   obtain⟨e,r⟩:=q
   have:=hlt e r hr
   cases r with
   |
    nil =>
    simp only[oi,↓zq,zs,ae,zt,rV,hr,cG,dU]
    simp[ru]
   |
    cons c r =>
    simp only[au]at this
    have hb:=lN (c::r) 0 (by simp)
    simp only[cE,cV]at hb
    have e2:(List.take (c::r).length (c::r)).drop 1=r:=by simp
    simp only[oi,↓zq,zs,ae,zt,rV,hr,cG,dU,hb,e2,rM]
    refine⟨fun h=>(by cases h),fun _=>⟨fun h=>(by cases h),fun _=>⟨⟨fun c hc=>(by simp at hc;rw[hc];rfl),by omega⟩,by omega,by omega,fun h41=>?_,fun h41=>⟨by omega,fun h32=>?_,fun h32=>?_⟩⟩⟩⟩
    ·have h41':c.toNat=41:=by omega
     rw[AQ,if_pos h41']
     simp[ru,E.cx,uK,E.lX]
    ·have h41':¬c.toNat=41:=by omega
     have h32':¬c.toNat=32:=by omega
     rw[if_neg h41',if_neg h32']
    ·have h41':¬c.toNat=41:=by omega
     have h32':c.toNat=32:=by omega
     rw[AQ,if_neg h41',if_pos h32']
     have:=M3 s0 k hk ih n r (acc++[e]) (by omega) (by simp;omega)
     simpa[uK,E.lX]using this
theorem PH:∀(k:Nat),k<=300->∀s:List UInt8,s.length<=8000->ap Tryz.prog 144 [.v (.string (mk s)),.v (.int .i64 ((300-k:Nat):Int))] [] (bH (oi s (rd k s))):=by
 intro k
 induction k with
 |
  zero =>
  intro hk s hs
  refine HU _ _ ?_
  unfold Fv
  refine cb (En s hs _ s.length 0 (by omega)) ?_
  simp only[↓zq,zs,ae,zt,aW,bH]
  have hw:(s.takeWhile eH).length<=s.length:=by
   have:=congrArg List.length (bS (p:=eH) (l:=s))
   simp only[al]at this;omega
  refine⟨fun h=>⟨by omega,by omega,?_⟩,fun h=>?_⟩
  ·have hne:¬s.takeWhile eH=[]:=fun e=>by rw[e]at h;simp at h
   simp only[rd,if_neg hne,oi,E.cx,tn,xZ]
  ·have hnil:s.takeWhile eH=[]:=List.eq_nil_of_length_eq_zero (by omega)
   simp only[rd,if_pos hnil,oi]
   refine⟨fun _=>trivial,fun hne=>⟨?_,?_⟩⟩
   ·cases s with
    |nil=>exact absurd rfl hne
    |cons c s=>simp
   ·exact⟨fun _=>trivial,fun _=>⟨fun _=>trivial,fun h=>absurd rfl h⟩⟩
 |
  succ k ih =>
  intro hk s hs
  refine HU _ _ ?_
  unfold Fv
  refine cb (En s hs _ s.length 0 (by omega)) ?_
  simp only[↓zq,zs,ae,zt,aW,bH]
  have hw:(s.takeWhile eH).length<=s.length:=by
   have:=congrArg List.length (bS (p:=eH) (l:=s))
   simp only[al]at this;omega
  refine⟨fun h=>⟨by omega,by omega,?_⟩,fun h=>?_⟩
  ·have hne:¬s.takeWhile eH=[]:=fun e=>by rw[e]at h;simp at h
   simp only[rd,if_neg hne,oi,E.cx,tn,xZ]
  ·have hnil:s.takeWhile eH=[]:=List.eq_nil_of_length_eq_zero (by omega)
   simp only[rd,if_pos hnil]
   cases s with
   |nil=>simp[oi]
   |
    cons c s =>
    have hb:=lN (c::s) 0 (by simp)
    simp only[cE,cV]at hb
    simp only[au]at hs
    simp only[↓zq,zs,ae,hb,AQ]
    refine⟨fun h=>(by cases h),fun _=>⟨by omega,fun h40=>?_,fun h40=>⟨fun h300=>?_,fun h300=>⟨by omega,?_⟩⟩⟩⟩
    ·have:¬c.toNat=40:=by omega
     rw[if_neg this];rfl
    ·omega
    ·have h40':c.toNat=40:=by omega
     rw[if_pos h40']
     refine hH (M3 (c::s) k (by omega) (ih (by omega)) (s.length+1) s [] (by omega) (by simp;omega)) (fun ys o e=>?_) (fun ys o e=>?_)
     ·split at e<;>cases e
     ·split at e<;>cases e
      ·rename_i e' r' hr
       simp only[↓zq,zs,ae,cG]
       simp only[hr,oi]
      ·rename_i hr
       simp only[↓zq,zs,ae]
       simp only[hr,oi]
end Go.Proofs.Trees
namespace Go.Proofs.Trees
open Go Go.VL
mutual
def E.sz:E->Nat
 | .atom _=>1
 | .list l=>1+E.ji l
def E.ji:List E->Nat
 |[]=>0
 |e::l=>e.sz+E.ji l
end
mutual
def E.ok:E->Prop
 | .atom s=>s≠[]
 | .list l=>E.CV l
def E.CV:List E->Prop
 |[]=>True
 |e::l=>e.ok/\E.CV l
end
theorem yj(l r:List E):E.ji (l++r)=E.ji l+E.ji r:=by
 induction l with
 |nil=>simp[E.ji]
 |cons e l ih=>simp[E.ji,ih];omega
theorem yo(l r:List E):E.CV (l++r)↔E.CV l/\E.CV r:=by
 induction l with
 |nil=>simp[E.CV]
 |cons e l ih=>simp[E.CV,ih,and_assoc]
theorem An{f:List UInt8->Option (E×List UInt8)}(hf:∀s e r,f s=some (e,r)->e.ok/\e.sz+r.length<=s.length):∀(n:Nat) (s:List UInt8) (acc:List E) (e:E) (r:List UInt8),rV f n s acc=some (e,r)->E.CV acc->e.ok/\e.sz+r.length<=s.length+1+E.ji acc
 |0,s,acc,e,r,h,_=>by cases h
 |
  n+1,s,acc,e,r,h,ha=>by
  simp only[rV]at h
  split at h
  ·rename_i p c r' hs
   obtain⟨h1,h2⟩:=hf _ _ _ hs
   simp only[au]at h2
   split at h
   ·cases h
    refine⟨(yo _ _).2 ⟨ha,h1,trivial⟩,?_⟩
    simp only[E.sz,yj,E.ji];omega
   ·split at h
    ·have:=An hf n _ _ _ _ h ((yo _ _).2 ⟨ha,h1,trivial⟩)
     refine⟨this.1,?_⟩
     have h3:=this.2
     simp only[yj,E.ji]at h3;omega
    ·cases h
  ·cases h
theorem tW(s:List UInt8):(s.takeWhile eH).length+(s.dropWhile eH).length=s.length:=by
 have:=congrArg List.length (bS (p:=eH) (l:=s))
 simpa only[al]using this
theorem Ei:∀(k:Nat) (s:List UInt8) (e:E) (r:List UInt8),rd k s=some (e,r)->e.ok/\e.sz+r.length<=s.length
 |
  0,s,e,r,h=>by
  simp only[rd]at h
  split at h
  ·cases h
  ·rename_i hn;cases h
   have:=tW s
   have:0<(s.takeWhile eH).length:=List.length_pos_iff.2 hn
   exact⟨hn,by simp only[E.sz];omega⟩
 |
  k+1,s,e,r,h=>by
  simp only[rd]at h
  split at h
  ·split at h
   ·split at h
    ·have:=An (Ei k) _ _ _ _ _ h trivial
     refine⟨this.1,?_⟩
     have h3:=this.2
     simp only[E.ji,au]at h3 |-;omega
    ·cases h
   ·cases h
  ·rename_i hn;cases h
   have:=tW s
   have:0<(s.takeWhile eH).length:=List.length_pos_iff.2 hn
   exact⟨hn,by simp only[E.sz];omega⟩
def qk(s:List UInt8):Option E:=if s.length>8000 then none else match rd 300 s with|some (e,[])=>some e|_=>none
theorem nJ{s:List UInt8}{e:E}(h:qk s=some e):e.ok/\e.sz<=8000:=by
 unfold qk at h
 split at h
 ·cases h
 ·split at h
  ·rename_i e' hr
   cases h
   have:=Ei _ _ _ _ hr
   exact⟨this.1,by have:=this.2;simp at this;omega⟩
  ·cases h
def tY:Option E->AV
 |some e=>e.cx
 |none=>.v (.pointer none)
theorem JD(s:List UInt8):ap Tryz.prog 113 [.v (.string (mk s))] [] (bH (tY (qk s))):=by
 refine OS _ ?_
 simp only[Jo,↓zq,zs,ae,zt,bH,qk]
 refine⟨fun h=>?_,fun h=>?_⟩
 ·rw[if_pos (by omega)];simp[tY]
 ·rw[if_neg (by omega)]
  refine an (PH 300 (by omega) s (by omega)) ?_
  cases hr:rd 300 s with
  |
   none =>
   simp only[oi,↓zq,zs,ae,zt,tY]
   refine⟨fun _=>trivial,fun _=>trivial⟩
  |
   some q =>
   obtain⟨e,r⟩:=q
   cases r with
   |nil=>simp only[oi,↓zq,zs,ae,zt,tY,cG];simp
   |cons c r=>simp only[oi,↓zq,zs,ae,zt,tY,cG];simp
def hD(b:UInt8):Bool:=decide (48<=b.toNat/\b.toNat<=57)
def named(lo hi:Nat):List UInt8->Bool
 |[]=>false
 |c::r=>decide (r.length<=2)&&decide (lo<=c.toNat/\c.toNat<=hi)&&r.all hD
def gH(s:List UInt8):Bool:=named 120 122 s
def cS(s:List UInt8):Bool:=named 116 116 s
def DL(v lo hi:Int):Bool:=decide (lo<=v/\v<=hi)
theorem Dx(v lo hi:Int):ap Tryz.prog 60 [.v (.int .i64 v),.v (.int .i64 lo),.v (.int .i64 hi)] [] (bH (.v (.bool (DL v lo hi)))):=by
 refine NJ _ _ _ ?_
 simp only[JQ,↓zq,zs,ae,bH,DL]
 constructor<;>intro h<;>simp at h<;>simp[h]
 omega
theorem Kd(s:List UInt8)(hs:s.length<=3):∀(k i:Nat),i+k=s.length->E4 [.v (.string (mk s)),.v (.int .i64 (i:Int))] [] (ru (if(s.drop i).all hD=true then(1,[],[])else(2,[.v (.bool false)],[])))
 |
  0,i,hi=>by
  have hd:s.drop i=[]:=bG (by omega)
  refine Mt _ _ ?_
  simp only[Gr,↓zq,zs,ae,zt]
  exact⟨fun h=>by omega,fun _=>by simp[ru,hd]⟩
 |
  k+1,i,hi=>by
  have hlt:i<s.length:=by omega
  have e:s.drop i=s.getD i 0::s.drop (i+1):=by
   rw[aL hlt];simp[aa,hlt]
  refine Mt _ _ ?_
  simp only[Gr,↓zq,zs,ae,zt,lN s i hlt,e,cL]
  generalize hb:s.getD i 0=b
  refine⟨fun _=>⟨by omega,fun h=>?_,fun h=>⟨by omega,fun h2=>?_,fun h2=>?_⟩⟩,fun h=>by omega⟩
  ·have:hD b=false:=by simp[hD];omega
   simp only[this,zf,ru]
  ·have:hD b=false:=by simp[hD];omega
   simp only[this,zf,ru]
  ·have:hD b=true:=by simp[hD];omega
   rw[bh i (by omega),this,bJ]
   exact Kd s hs k (i+1) (by omega)
end Go.Proofs.Trees
