/-
  Part of a proof: Go functions read by values, trees of functions, their contracts.
-/
import Derived.Test.YtfdpbglppfohhaaGreatDoorP3
import Derived.Shelf.Lays
import Derived.Shelf.LaysM
import Derived.Shelf.Strconv.Itoa3
import Derived.Shelf.Strconv.Atoi
import Derived.Shelf.Strings.SlTrimAscii
import Derived.Shelf.Strings.Search3
import Derived.Test.YtfdpbglppfohhaaGreatDoorProg
set_option linter.unusedVariables false
set_option linter.unusedSimpArgs false
open And renaming intro→aE
open Bool renaming and_eq_true→ap,eq_iff_iff→ct,true_and→bO
open ByteArray renaming extract→cd,size→ag,toList→ae
open Int renaming cast_ofNat_Int→dc,ofNat_eq_natCast→cQ,toNat→bD
open List renaming all_cons→cW,drop_eq_getElem_cons→aL,drop_eq_nil_of_le→bL,eq_nil_of_length_eq_zero→bV,getD_eq_getElem?_getD→aa,length_append→ax,length_cons→aB,mem_cons→aF,takeWhile_append_dropWhile→bZ
open Nat renaming zero_add→aV
open UInt8 renaming ofNat→bi
namespace Go.Proofs
open Go.Shelf
def Tryz.u7:Go.Shelf.Ren:=⟨fun|160=>184|232=>197|231=>196|227=>198|234=>200|233=>199|236=>202|235=>201|228=>208|271=>211|151=>210|197=>209|120=>221|152=>220|260=>219|137=>231|119=>232|224=>229|225=>228|217=>227|266=>235|n=>n,fun|9=>9|4=>4|3=>3|5=>5|117=>228|116=>227|0=>0|124=>231|21=>21|105=>242|46=>235|119=>263|139=>266|138=>265|n=>n,fun|3=>4|4=>5|n=>n⟩
theorem Tryz.B8:Go.Proofs.Lays.n160 Tryz.prog Tryz.u7:={
 mixed:=by kernel_rfl,
 f119:=Tryz.func232.trans (congrArg some (by kernel_rfl)),
 f120:=Tryz.func221.trans (congrArg some (by kernel_rfl)),
 f137:=Tryz.func231.trans (congrArg some (by kernel_rfl)),
 f151:=Tryz.func210.trans (congrArg some (by kernel_rfl)),
 f152:=Tryz.func220.trans (congrArg some (by kernel_rfl)),
 f160:=Tryz.func184.trans (congrArg some (by kernel_rfl)),
 f197:=Tryz.func209.trans (congrArg some (by kernel_rfl)),
 f217:=Tryz.func227.trans (congrArg some (by kernel_rfl)),
 f224:=Tryz.func229.trans (congrArg some (by kernel_rfl)),
 f225:=Tryz.func228.trans (congrArg some (by kernel_rfl)),
 f227:=Tryz.func198.trans (congrArg some (by kernel_rfl)),
 f228:=Tryz.func208.trans (congrArg some (by kernel_rfl)),
 f231:=Tryz.func196.trans (congrArg some (by kernel_rfl)),
 f232:=Tryz.func197.trans (congrArg some (by kernel_rfl)),
 f233:=Tryz.func199.trans (congrArg some (by kernel_rfl)),
 f234:=Tryz.func200.trans (congrArg some (by kernel_rfl)),
 f235:=Tryz.func201.trans (congrArg some (by kernel_rfl)),
 f236:=Tryz.func202.trans (congrArg some (by kernel_rfl)),
 f260:=Tryz.func219.trans (congrArg some (by kernel_rfl)),
 f266:=Tryz.func235.trans (congrArg some (by kernel_rfl)),
 f271:=Tryz.func211.trans (congrArg some (by kernel_rfl)),
 t0:=Tryz.underlying0,
 a0:=Tryz.isAgg0,
 z0:=Tryz.sizeOf0,
 v0:=Tryz.zeroValue0,
 t3:=Tryz.underlying3,
 a3:=Tryz.isAgg3,
 z3:=Tryz.sizeOf3,
 v3:=Tryz.zeroValue3,
 t4:=Tryz.underlying4,
 a4:=Tryz.isAgg4,
 z4:=Tryz.sizeOf4,
 v4:=Tryz.zeroValue4,
 t5:=Tryz.underlying5,
 a5:=Tryz.isAgg5,
 z5:=Tryz.sizeOf5,
 v5:=Tryz.zeroValue5,
 t9:=Tryz.underlying9,
 a9:=Tryz.isAgg9,
 z9:=Tryz.sizeOf9,
 v9:=Tryz.zeroValue9,
 t21:=Tryz.underlying21,
 a21:=Tryz.isAgg21,
 z21:=Tryz.sizeOf21,
 v21:=Tryz.zeroValue21,
 t46:=Tryz.underlying235,
 a46:=Tryz.isAgg235,
 z46:=Tryz.sizeOf235,
 v46:=Tryz.zeroValue235,
 t105:=Tryz.underlying242,
 a105:=Tryz.isAgg242,
 z105:=Tryz.sizeOf242,
 v105:=Tryz.zeroValue242,
 t116:=Tryz.underlying227,
 a116:=Tryz.isAgg227,
 z116:=Tryz.sizeOf227,
 t117:=Tryz.underlying228,
 a117:=Tryz.isAgg228,
 z117:=Tryz.sizeOf228,
 v117:=Tryz.zeroValue228,
 t119:=Tryz.underlying263,
 a119:=Tryz.isAgg263,
 z119:=Tryz.sizeOf263,
 t124:=Tryz.underlying231,
 a124:=Tryz.isAgg231,
 z124:=Tryz.sizeOf231,
 v124:=Tryz.zeroValue231,
 t138:=Tryz.underlying265,
 a138:=Tryz.isAgg265,
 z138:=Tryz.sizeOf265,
 v138:=Tryz.zeroValue265,
 t139:=Tryz.underlying266,
 a139:=Tryz.isAgg266,
 z139:=Tryz.sizeOf266,
 v139:=Tryz.zeroValue266,
 g3:=by kernel_rfl,
 g4:=by kernel_rfl}
def Tryz.uO:Go.Shelf.Ren:=⟨fun|144=>195|143=>207|219=>218|217=>227|225=>228|224=>229|267=>230|266=>235|314=>236|n=>n,fun|9=>9|4=>4|3=>3|5=>5|46=>235|146=>269|51=>258|n=>n,fun|1=>3|n=>n⟩
theorem Tryz.C1:Go.Proofs.Lays.n144 Tryz.prog Tryz.uO:={
 mixed:=by kernel_rfl,
 f143:=Tryz.func207.trans (congrArg some (by kernel_rfl)),
 f144:=Tryz.func195.trans (congrArg some (by kernel_rfl)),
 f217:=Tryz.func227.trans (congrArg some (by kernel_rfl)),
 f219:=Tryz.func218.trans (congrArg some (by kernel_rfl)),
 f224:=Tryz.func229.trans (congrArg some (by kernel_rfl)),
 f225:=Tryz.func228.trans (congrArg some (by kernel_rfl)),
 f266:=Tryz.func235.trans (congrArg some (by kernel_rfl)),
 f267:=Tryz.func230.trans (congrArg some (by kernel_rfl)),
 f314:=Tryz.func236.trans (congrArg some (by kernel_rfl)),
 t3:=Tryz.underlying3,
 a3:=Tryz.isAgg3,
 z3:=Tryz.sizeOf3,
 v3:=Tryz.zeroValue3,
 t4:=Tryz.underlying4,
 a4:=Tryz.isAgg4,
 z4:=Tryz.sizeOf4,
 v4:=Tryz.zeroValue4,
 t5:=Tryz.underlying5,
 a5:=Tryz.isAgg5,
 z5:=Tryz.sizeOf5,
 v5:=Tryz.zeroValue5,
 t9:=Tryz.underlying9,
 a9:=Tryz.isAgg9,
 z9:=Tryz.sizeOf9,
 v9:=Tryz.zeroValue9,
 t46:=Tryz.underlying235,
 a46:=Tryz.isAgg235,
 z46:=Tryz.sizeOf235,
 v46:=Tryz.zeroValue235,
 t51:=Tryz.underlying258,
 a51:=Tryz.isAgg258,
 z51:=Tryz.sizeOf258,
 v51:=Tryz.zeroValue258,
 t146:=Tryz.underlying269,
 a146:=Tryz.isAgg269,
 z146:=Tryz.sizeOf269,
 v146:=Tryz.zeroValue269,
 g1:=by kernel_rfl}
def Tryz.vw:Go.Shelf.Ren:=⟨fun|172=>130|244=>163|245=>164|247=>185|279=>186|280=>187|281=>188|282=>189|287=>203|316=>204|171=>174|205=>205|321=>212|322=>213|243=>193|246=>206|283=>214|284=>215|285=>216|286=>217|129=>223|317=>222|318=>224|319=>225|320=>226|337=>233|338=>234|n=>n,fun|9=>9|3=>3|75=>164|76=>165|4=>4|5=>5|167=>217|37=>48|0=>0|85=>218|2=>2|168=>220|53=>232|175=>233|46=>235|210=>238|127=>246|145=>249|143=>247|21=>21|171=>250|173=>253|212=>257|51=>258|20=>20|213=>259|232=>271|233=>272|80=>81|n=>n,fun|15=>0|16=>1|17=>2|18=>6|19=>7|n=>n⟩
theorem Tryz.CF:Go.Proofs.Lays.n172 Tryz.prog Tryz.vw:={
 mixed:=by kernel_rfl,
 f129:=Tryz.func223.trans (congrArg some (by kernel_rfl)),
 f171:=Tryz.func174.trans (congrArg some (by kernel_rfl)),
 f172:=Tryz.func130.trans (congrArg some (by kernel_rfl)),
 f205:=Tryz.func205.trans (congrArg some (by kernel_rfl)),
 f243:=Tryz.func193.trans (congrArg some (by kernel_rfl)),
 f244:=Tryz.func163.trans (congrArg some (by kernel_rfl)),
 f245:=Tryz.func164.trans (congrArg some (by kernel_rfl)),
 f246:=Tryz.func206.trans (congrArg some (by kernel_rfl)),
 f247:=Tryz.func185.trans (congrArg some (by kernel_rfl)),
 f279:=Tryz.func186.trans (congrArg some (by kernel_rfl)),
 f280:=Tryz.func187.trans (congrArg some (by kernel_rfl)),
 f281:=Tryz.func188.trans (congrArg some (by kernel_rfl)),
 f282:=Tryz.func189.trans (congrArg some (by kernel_rfl)),
 f283:=Tryz.func214.trans (congrArg some (by kernel_rfl)),
 f284:=Tryz.func215.trans (congrArg some (by kernel_rfl)),
 f285:=Tryz.func216.trans (congrArg some (by kernel_rfl)),
 f286:=Tryz.func217.trans (congrArg some (by kernel_rfl)),
 f287:=Tryz.func203.trans (congrArg some (by kernel_rfl)),
 f316:=Tryz.func204.trans (congrArg some (by kernel_rfl)),
 f317:=Tryz.func222.trans (congrArg some (by kernel_rfl)),
 f318:=Tryz.func224.trans (congrArg some (by kernel_rfl)),
 f319:=Tryz.func225.trans (congrArg some (by kernel_rfl)),
 f320:=Tryz.func226.trans (congrArg some (by kernel_rfl)),
 f321:=Tryz.func212.trans (congrArg some (by kernel_rfl)),
 f322:=Tryz.func213.trans (congrArg some (by kernel_rfl)),
 f337:=Tryz.func233.trans (congrArg some (by kernel_rfl)),
 f338:=Tryz.func234.trans (congrArg some (by kernel_rfl)),
 t0:=Tryz.underlying0,
 a0:=Tryz.isAgg0,
 z0:=Tryz.sizeOf0,
 v0:=Tryz.zeroValue0,
 t2:=Tryz.underlying2,
 a2:=Tryz.isAgg2,
 z2:=Tryz.sizeOf2,
 v2:=Tryz.zeroValue2,
 t3:=Tryz.underlying3,
 a3:=Tryz.isAgg3,
 z3:=Tryz.sizeOf3,
 v3:=Tryz.zeroValue3,
 t4:=Tryz.underlying4,
 a4:=Tryz.isAgg4,
 z4:=Tryz.sizeOf4,
 v4:=Tryz.zeroValue4,
 t5:=Tryz.underlying5,
 a5:=Tryz.isAgg5,
 z5:=Tryz.sizeOf5,
 v5:=Tryz.zeroValue5,
 t9:=Tryz.underlying9,
 a9:=Tryz.isAgg9,
 z9:=Tryz.sizeOf9,
 v9:=Tryz.zeroValue9,
 t20:=Tryz.underlying20,
 a20:=Tryz.isAgg20,
 z20:=Tryz.sizeOf20,
 v20:=Tryz.zeroValue20,
 t21:=Tryz.underlying21,
 a21:=Tryz.isAgg21,
 z21:=Tryz.sizeOf21,
 v21:=Tryz.zeroValue21,
 t37:=Tryz.underlying48,
 a37:=Tryz.isAgg48,
 z37:=Tryz.sizeOf48,
 v37:=Tryz.zeroValue48,
 t46:=Tryz.underlying235,
 a46:=Tryz.isAgg235,
 z46:=Tryz.sizeOf235,
 v46:=Tryz.zeroValue235,
 t51:=Tryz.underlying258,
 a51:=Tryz.isAgg258,
 z51:=Tryz.sizeOf258,
 v51:=Tryz.zeroValue258,
 t53:=Tryz.underlying232,
 a53:=Tryz.isAgg232,
 z53:=Tryz.sizeOf232,
 v53:=Tryz.zeroValue232,
 t75:=Tryz.underlying164,
 a75:=Tryz.isAgg164,
 z75:=Tryz.sizeOf164,
 v75:=Tryz.zeroValue164,
 t76:=Tryz.underlying165,
 a76:=Tryz.isAgg165,
 z76:=Tryz.sizeOf165,
 v76:=Tryz.zeroValue165,
 t85:=Tryz.underlying218,
 a85:=Tryz.isAgg218,
 z85:=Tryz.sizeOf218,
 v85:=Tryz.zeroValue218,
 t127:=Tryz.underlying246,
 a127:=Tryz.isAgg246,
 z127:=Tryz.sizeOf246,
 v127:=Tryz.zeroValue246,
 t143:=Tryz.underlying247,
 a143:=Tryz.isAgg247,
 z143:=Tryz.sizeOf247,
 v143:=Tryz.zeroValue247,
 t145:=Tryz.underlying249,
 a145:=Tryz.isAgg249,
 z145:=Tryz.sizeOf249,
 v145:=Tryz.zeroValue249,
 t167:=Tryz.underlying217,
 a167:=Tryz.isAgg217,
 z167:=Tryz.sizeOf217,
 v167:=Tryz.zeroValue217,
 t168:=Tryz.underlying220,
 a168:=Tryz.isAgg220,
 z168:=Tryz.sizeOf220,
 v168:=Tryz.zeroValue220,
 t171:=Tryz.underlying250,
 a171:=Tryz.isAgg250,
 z171:=Tryz.sizeOf250,
 v171:=Tryz.zeroValue250,
 t173:=Tryz.underlying253,
 a173:=Tryz.isAgg253,
 z173:=Tryz.sizeOf253,
 v173:=Tryz.zeroValue253,
 t175:=Tryz.underlying233,
 a175:=Tryz.isAgg233,
 z175:=Tryz.sizeOf233,
 v175:=Tryz.zeroValue233,
 t210:=Tryz.underlying238,
 a210:=Tryz.isAgg238,
 z210:=Tryz.sizeOf238,
 v210:=Tryz.zeroValue238,
 t212:=Tryz.underlying257,
 a212:=Tryz.isAgg257,
 z212:=Tryz.sizeOf257,
 v212:=Tryz.zeroValue257,
 t213:=Tryz.underlying259,
 a213:=Tryz.isAgg259,
 z213:=Tryz.sizeOf259,
 t232:=Tryz.underlying271,
 a232:=Tryz.isAgg271,
 z232:=Tryz.sizeOf271,
 v232:=Tryz.zeroValue271,
 t233:=Tryz.underlying272,
 a233:=Tryz.isAgg272,
 z233:=Tryz.sizeOf272,
 v233:=Tryz.zeroValue272,
 g15:=by kernel_rfl,
 g16:=by kernel_rfl,
 g17:=by kernel_rfl,
 g18:=by kernel_rfl,
 g19:=by kernel_rfl}
def Tryz.tY:Go.Shelf.Ren:=⟨fun|171=>174|243=>193|246=>206|283=>214|284=>215|285=>216|286=>217|129=>223|317=>222|318=>224|319=>225|320=>226|337=>233|338=>234|n=>n,fun|3=>3|9=>9|2=>2|4=>4|171=>250|0=>0|53=>232|37=>48|5=>5|173=>253|212=>257|51=>258|20=>20|213=>259|46=>235|232=>271|233=>272|n=>n,fun|17=>2|18=>6|19=>7|n=>n⟩
theorem Tryz.Bp:Go.Proofs.LaysM.n171 Tryz.prog Tryz.tY:={
 mixed:=by kernel_rfl,
 f129:=Tryz.func223.trans (congrArg some (by kernel_rfl)),
 f171:=Tryz.func174.trans (congrArg some (by kernel_rfl)),
 f243:=Tryz.func193.trans (congrArg some (by kernel_rfl)),
 f246:=Tryz.func206.trans (congrArg some (by kernel_rfl)),
 f283:=Tryz.func214.trans (congrArg some (by kernel_rfl)),
 f284:=Tryz.func215.trans (congrArg some (by kernel_rfl)),
 f285:=Tryz.func216.trans (congrArg some (by kernel_rfl)),
 f286:=Tryz.func217.trans (congrArg some (by kernel_rfl)),
 f317:=Tryz.func222.trans (congrArg some (by kernel_rfl)),
 f318:=Tryz.func224.trans (congrArg some (by kernel_rfl)),
 f319:=Tryz.func225.trans (congrArg some (by kernel_rfl)),
 f320:=Tryz.func226.trans (congrArg some (by kernel_rfl)),
 f337:=Tryz.func233.trans (congrArg some (by kernel_rfl)),
 f338:=Tryz.func234.trans (congrArg some (by kernel_rfl)),
 t0:=Tryz.underlying0,
 a0:=Tryz.isAgg0,
 z0:=Tryz.sizeOf0,
 v0:=Tryz.zeroValue0,
 t2:=Tryz.underlying2,
 a2:=Tryz.isAgg2,
 z2:=Tryz.sizeOf2,
 v2:=Tryz.zeroValue2,
 t3:=Tryz.underlying3,
 a3:=Tryz.isAgg3,
 z3:=Tryz.sizeOf3,
 v3:=Tryz.zeroValue3,
 t4:=Tryz.underlying4,
 a4:=Tryz.isAgg4,
 z4:=Tryz.sizeOf4,
 v4:=Tryz.zeroValue4,
 t5:=Tryz.underlying5,
 a5:=Tryz.isAgg5,
 z5:=Tryz.sizeOf5,
 v5:=Tryz.zeroValue5,
 t9:=Tryz.underlying9,
 a9:=Tryz.isAgg9,
 z9:=Tryz.sizeOf9,
 v9:=Tryz.zeroValue9,
 t20:=Tryz.underlying20,
 a20:=Tryz.isAgg20,
 z20:=Tryz.sizeOf20,
 v20:=Tryz.zeroValue20,
 t37:=Tryz.underlying48,
 a37:=Tryz.isAgg48,
 z37:=Tryz.sizeOf48,
 v37:=Tryz.zeroValue48,
 t46:=Tryz.underlying235,
 a46:=Tryz.isAgg235,
 z46:=Tryz.sizeOf235,
 v46:=Tryz.zeroValue235,
 t51:=Tryz.underlying258,
 a51:=Tryz.isAgg258,
 z51:=Tryz.sizeOf258,
 v51:=Tryz.zeroValue258,
 t53:=Tryz.underlying232,
 a53:=Tryz.isAgg232,
 z53:=Tryz.sizeOf232,
 v53:=Tryz.zeroValue232,
 t171:=Tryz.underlying250,
 a171:=Tryz.isAgg250,
 z171:=Tryz.sizeOf250,
 v171:=Tryz.zeroValue250,
 t173:=Tryz.underlying253,
 a173:=Tryz.isAgg253,
 z173:=Tryz.sizeOf253,
 v173:=Tryz.zeroValue253,
 t212:=Tryz.underlying257,
 a212:=Tryz.isAgg257,
 z212:=Tryz.sizeOf257,
 v212:=Tryz.zeroValue257,
 t213:=Tryz.underlying259,
 a213:=Tryz.isAgg259,
 z213:=Tryz.sizeOf259,
 t232:=Tryz.underlying271,
 a232:=Tryz.isAgg271,
 z232:=Tryz.sizeOf271,
 v232:=Tryz.zeroValue271,
 t233:=Tryz.underlying272,
 a233:=Tryz.isAgg272,
 z233:=Tryz.sizeOf272,
 v233:=Tryz.zeroValue272,
 g17:=by kernel_rfl,
 g18:=by kernel_rfl,
 g19:=by kernel_rfl,
 i0:=by kernel_rfl,
 i2:=by kernel_rfl,
 i3:=by kernel_rfl,
 i4:=by kernel_rfl,
 i5:=by kernel_rfl,
 i9:=by kernel_rfl,
 i20:=by kernel_rfl,
 i37:=by kernel_rfl,
 i46:=by kernel_rfl,
 i51:=by kernel_rfl,
 i53:=by kernel_rfl,
 i171:=by kernel_rfl,
 i173:=by kernel_rfl,
 i212:=by kernel_rfl,
 i232:=by kernel_rfl,
 i233:=by kernel_rfl,
 m17:=by kernel_rfl,
 m18:=by kernel_rfl,
 m19:=by kernel_rfl}
end Go.Proofs
namespace Go.Proofs.Trees
open Go Go.VL
noncomputable section
def KI:List (Nat×TI):=[
 (0,⟨false,[],false,0,.tuple [],false⟩),
 (2,⟨true,[.int .i64],false,8,.num .i64,false⟩),
 (3,⟨true,[.int .i64],false,8,.num .i64,false⟩),
 (4,⟨true,[.bool],false,1,.bl,false⟩),
 (5,⟨true,[.int .u8],false,1,.num .u8,false⟩),
 (9,⟨true,[.str],false,16,.str,false⟩),
 (20,⟨true,[.j2],false,16,.other,false⟩),
 (21,⟨true,[.int .i32],false,4,.num .i32,false⟩),
 (22,⟨true,[.sl],false,24,.slice 9,false⟩),
 (24,⟨true,[.str,.sl,.str],true,56,.struct [(0,9),(1,22),(2,9)],false⟩),
 (26,⟨true,[.sl],false,24,.slice 3,false⟩),
 (27,⟨false,[],false,0,.tuple [26,4],false⟩),
 (29,⟨true,[.str,.sl,.str],true,56,.struct [(0,9),(1,22),(2,9)],false⟩),
 (37,⟨true,[.sl,.str,.str],true,56,.struct [(0,26),(1,9),(2,9)],false⟩),
 (39,⟨false,[],false,0,.tuple [9,4],false⟩),
 (41,⟨true,[.sl,.str,.str],true,56,.struct [(0,26),(1,9),(2,9)],false⟩),
 (45,⟨false,[],false,0,.tuple [29,4],false⟩),
 (48,⟨true,[.sl],false,24,.slice 5,false⟩),
 (49,⟨false,[],false,0,.tuple [9,9],false⟩),
 (62,⟨true,[.ptr],false,8,.pt,true⟩),
 (64,⟨true,[.ptr],false,8,.pt,true⟩),
 (65,⟨true,[.sl],false,24,.slice 66,false⟩),
 (66,⟨true,[.ptr],false,8,.pt,true⟩),
 (68,⟨true,[.str,.ptr,.sl,.ptr],true,56,.struct [(0,9),(1,64),(2,65),(3,66)],false⟩),
 (79,⟨true,[.ptr],false,8,.pt,true⟩),
 (83,⟨true,[.sl],false,24,.slice 97,false⟩),
 (85,⟨true,[.sl],false,24,.slice 91,false⟩),
 (86,⟨false,[],false,0,.tuple [85,4],false⟩),
 (88,⟨false,[],false,0,.tuple [64,66],false⟩),
 (91,⟨true,[.str,.str],true,32,.struct [(0,9),(1,9)],false⟩),
 (97,⟨true,[.ptr,.ptr],true,16,.struct [(0,66),(1,66)],false⟩),
 (98,⟨true,[.j2],false,8,.other,false⟩),
 (105,⟨true,[.sl,.int .i64],true,32,.struct [(0,48),(1,3)],false⟩),
 (109,⟨true,[.int .u8,.str,.ptr,.ptr],true,40,.struct [(0,5),(1,9),(2,66),(3,66)],false⟩),
 (110,⟨true,[.ptr],false,8,.pt,true⟩),
 (112,⟨true,[.ptr,.ptr],true,16,.struct [(0,64),(1,110)],false⟩),
 (113,⟨true,[.ptr],false,8,.pt,true⟩),
 (114,⟨false,[],false,0,.tuple [112,113],false⟩),
 (118,⟨true,[.str,.ptr],true,24,.struct [(0,9),(1,113)],false⟩),
 (119,⟨true,[.sl],false,24,.slice 121,false⟩),
 (121,⟨true,[.str,.sl],true,40,.struct [(0,9),(1,119)],false⟩),
 (122,⟨false,[],false,0,.tuple [121,4],false⟩),
 (125,⟨true,[.sl],false,24,.slice 157,false⟩),
 (139,⟨true,[.int .u8,.str,.int .i64,.ptr,.ptr],true,48,.struct [(0,5),(1,9),(2,3),(3,64),(4,64)],false⟩),
 (140,⟨false,[],false,0,.tuple [64,4],false⟩),
 (144,⟨true,[.ptr,.ptr],true,16,.struct [(0,112)],false⟩),
 (146,⟨true,[.ptr,.ptr],true,16,.struct [(0,113),(1,110)],false⟩),
 (148,⟨true,[.j2],false,8,.other,false⟩),
 (149,⟨true,[.j2],false,8,.other,false⟩),
 (155,⟨true,[.sl],false,24,.slice 211,false⟩),
 (157,⟨true,[.str,.sl,.str,.sl],true,80,.struct [(0,121),(2,121)],false⟩),
 (160,⟨true,[.ptr],false,8,.pt,true⟩),
 (164,⟨true,[.j2],false,16,.other,false⟩),
 (165,⟨false,[],false,0,.tuple [3,164],false⟩),
 (172,⟨true,[.j2],false,8,.other,false⟩),
 (175,⟨true,[.ptr],false,8,.pt,true⟩),
 (177,⟨true,[.sl,.int .i64],true,32,.struct [(0,22),(1,3)],false⟩),
 (179,⟨true,[.ptr],false,8,.pt,true⟩),
 (181,⟨true,[.int .i64,.bool],true,16,.struct [(0,3),(1,4)],false⟩),
 (187,⟨false,[],false,0,.tuple [121,3],false⟩),
 (190,⟨false,[],false,0,.tuple [121,155],false⟩),
 (194,⟨false,[],false,0,.tuple [160,9],false⟩),
 (196,⟨true,[.sl],false,24,.slice 160,false⟩),
 (198,⟨true,[.str,.sl],true,40,.struct [(0,9),(1,196)],false⟩),
 (208,⟨true,[.j2],false,8,.other,false⟩),
 (211,⟨true,[.str,.str,.sl,.sl],true,80,.struct [(0,9),(1,121),(3,155)],false⟩),
 (214,⟨true,[.j2],false,8,.other,false⟩),
 (218,⟨false,[],false,0,.tuple [2,164],false⟩),
 (220,⟨true,[.ptr],false,8,.pt,true⟩),
 (228,⟨false,[],false,0,.tuple [227,4],false⟩),
 (231,⟨true,[.ptr],false,8,.pt,true⟩),
 (232,⟨true,[.int .u64],false,8,.num .u64,false⟩),
 (233,⟨false,[],false,0,.tuple [232,164],false⟩),
 (235,⟨true,[.int .u64],false,8,.num .u64,false⟩),
 (238,⟨true,[.str,.str,.j2],true,48,.struct [(0,9),(1,9),(2,164)],false⟩),
 (242,⟨false,[],false,0,.tuple [21,3],false⟩),
 (246,⟨true,[.ptr],false,8,.pt,true⟩),
 (247,⟨true,[.ptr],false,8,.pt,true⟩),
 (249,⟨true,[.str],true,16,.struct [(0,9)],false⟩),
 (250,⟨true,[.int .u8,.int .u8,.int .u8,.int .u8,.int .u8,.int .u8,.int .u8,.int .u8,.int .u8,.int .u8,.int .u8,.int .u8,.int .u8,.int .u8,.int .u8,.int .u8,.int .u8,.int .u8,.int .u8,.int .u8,.int .u8,.int .u8,.int .u8,.int .u8],true,24,.array 24 5,false⟩),
 (253,⟨false,[],false,0,.tuple [48,9],false⟩),
 (257,⟨true,[.int .u64,.int .u64,.int .u64,.int .u64,.int .u64,.int .u64,.int .u64,.int .u64,.int .u64,.int .u64,.int .u64,.int .u64,.int .u64,.int .u64,.int .u64,.int .u64,.int .u64,.int .u64,.int .u64,.int .u64],true,160,.array 20 232,false⟩),
 (258,⟨true,[.int .u32],false,4,.num .u32,false⟩),
 (265,⟨true,[.int .u8,.int .u8],true,2,.struct [(0,5),(1,5)],false⟩),
 (266,⟨true,[.int .u8,.int .u8,.int .u8,.int .u8,.int .u8,.int .u8,.int .u8,.int .u8,.int .u8,.int .u8,.int .u8,.int .u8,.int .u8,.int .u8,.int .u8,.int .u8,.int .u8,.int .u8,.int .u8,.int .u8,.int .u8,.int .u8,.int .u8,.int .u8,.int .u8,.int .u8,.int .u8,.int .u8,.int .u8,.int .u8,.int .u8,.int .u8],true,32,.array 16 265,false⟩),
 (269,⟨false,[],false,0,.tuple [258,258],false⟩),
 (271,⟨true,[.int .u8,.int .u8,.int .u8,.int .u8,.int .u8,.int .u8,.int .u8,.int .u8,.int .u8,.int .u8,.int .u8,.int .u8,.int .u8,.int .u8,.int .u8,.int .u8,.int .u8,.int .u8,.int .u8,.int .u8,.int .u8,.int .u8,.int .u8,.int .u8,.int .u8,.int .u8,.int .u8,.int .u8,.int .u8,.int .u8,.int .u8,.int .u8],true,32,.array 32 5,false⟩)]
def Ms(t:Nat):TI:=xl KI t
abbrev ek:Func:=Tryz.f86
abbrev pO:Func:=Tryz.f130
abbrev pX:Func:=Tryz.f174
abbrev pR:Func:=Tryz.f184
abbrev mS:Func:=Tryz.f195
def O4:List (Nat×FC):=[(181,{mu:=[(1,.one (.obj [.vec 1]))],own:=[]}),(137,{mu:=[(2,.one (.vec))],own:=[0]}),(18200180,{mu:=[(1,.fn [some (.obj [.vec 1])])],own:=[]}),(112,{mu:=[(2,.one (.obj [.vec 2]))],own:=[]}),(11600112,{mu:=[(1,.fn [some (.obj [.lk .ptr])]),(2,.one (.obj [.vec 2]))],own:=[]}),(11700112,{mu:=[(1,.fn [some (.obj [.lk .ptr])]),(2,.one (.obj [.vec 2]))],own:=[]}),(11900112,{mu:=[(1,.fn [some (.obj [.lk .ptr])]),(2,.one (.obj [.vec 2]))],own:=[]}),(12100112,{mu:=[(1,.fn [some (.obj [.lk .ptr,.lk .ptr])]),(2,.one (.obj [.vec 2]))],own:=[]}),(115,{mu:=[(1,.one (.obj [.lk .ptr]))],own:=[]}),(116,{mu:=[(1,.one (.obj [.lk .ptr]))],own:=[]}),(118,{mu:=[(1,.one (.obj [.lk .ptr]))],own:=[]}),(120,{mu:=[(1,.one (.obj [.lk .ptr,.lk .ptr]))],own:=[]}),(176,{mu:=[(2,.ud 176 [none,some 0,some 1]),(3,.one (.obj [.lk .sl])),(4,.one (.obj [.lk (.int .i64)]))],own:=[]}),(126,{mu:=[(2,.one (.vec))],own:=[0]}),(81,{mu:=[(0,.one (.obj [.lk .sl,.lk (.int .i64)]))],own:=[]}),(143,{mu:=[(3,.one (.obj [.vec 1,.lk (.int .i64)]))],own:=[]}),(102,{mu:=[(0,.one (.obj [.lk .sl,.lk (.int .i64)]))],own:=[]}),(62,{mu:=[],own:=[0],ow:=[.sl,.int .i64]}),(16,{mu:=[(0,.one (.cD false [.vec 1]))],own:=[]}),(50,{mu:=[(0,.one (.cD false [.vec 1]))],own:=[]}),(146,{mu:=[(0,.one (.obj [.lk (.int .i64),.lk .bool]))],own:=[]}),(147,{mu:=[(0,.one (.obj [.lk (.int .i64),.lk .bool]))],own:=[]}),(148,{mu:=[(0,.one (.obj [.lk (.int .i64),.lk .bool]))],own:=[]}),(136,{mu:=[(0,.one (.obj [.lk .sl,.lk (.int .i64)]))],own:=[]}),(80,{mu:=[(0,.one (.obj [.lk .sl,.lk (.int .i64)]))],own:=[]}),(135,{mu:=[(0,.one (.obj [.lk .sl,.lk (.int .i64)]))],own:=[]}),(105,{mu:=[(0,.one (.obj [.lk .sl,.lk (.int .i64)]))],own:=[]}),(83,{mu:=[(0,.one (.obj [.lk .sl,.lk (.int .i64)]))],own:=[]}),(103,{mu:=[(0,.one (.obj [.lk .sl,.lk (.int .i64)]))],own:=[]}),(82,{mu:=[(0,.one (.obj [.lk .sl,.lk (.int .i64)]))],own:=[]}),(61,{mu:=[(0,.one (.obj [.lk .sl,.lk (.int .i64)]))],own:=[]}),(67,{mu:=[(0,.one (.obj [.lk .sl,.lk (.int .i64)]))],own:=[]}),(15,{mu:=[(0,.one (.cD true [.lk .str,.vec 1,.lk .str]))],own:=[]}),(27,{mu:=[],own:=[0],oa:=[.lk .str,.vec 1,.lk .str]}),(31,{mu:=[],own:=[0],oa:=[.lk .str,.vec 1,.lk .str]}),(55,{mu:=[],own:=[0],oa:=[.lk .str,.vec 1,.lk .str]}),(35,{mu:=[],own:=[0],oa:=[.lk .str,.vec 1,.lk .str]}),(24,{mu:=[],own:=[0],oa:=[.lk .str,.vec 1,.lk .str]}),(38,{mu:=[],own:=[0],oa:=[.lk .str,.vec 1,.lk .str]}),(58,{mu:=[],own:=[0],oa:=[.lk .str,.vec 1,.lk .str]}),(12,{mu:=[],own:=[0]}),(44,{mu:=[],own:=[0]}),(11,{mu:=[],own:=[0],oa:=[.lk .str,.vec 1,.lk .str]}),(54,{mu:=[],own:=[0]}),(20,{mu:=[],own:=[0],oa:=[.vec 1,.lk .str,.lk .str]}),(77,{mu:=[(1,.one (.obj [.lk .str]))],own:=[]}),(7800076,{mu:=[(1,.fn [some (.obj [.lk .str])])],own:=[]}),(48,{mu:=[(0,.one (.cD false [.vec 1]))],own:=[]})]
def cF(f:Nat):FC:=Af O4 f
theorem Cb:(KI.all fun p=>!p.2.kn||p.2.mX Tryz.prog p.1)=true:=by kernel_rfl
theorem s4:da Tryz.prog Ms:=uT Cb
theorem mixed:Tryz.prog.follows .mixedOrders=true:=by kernel_rfl
abbrev NZ(r:AV)(k:Tree):Tree:=.al (LK.has .ptr r/\r.isNil=false) k
abbrev NP(r:AV)(k:Tree):Tree:=.al (LK.has .ptr r) k
abbrev NS(r:AV)(k:Tree):Tree:=.al (LK.has .str r) k
abbrev NB(r:AV)(k:Tree):Tree:=.al (LK.has .bool r) k
abbrev NL(r:AV)(k:Tree):Tree:=.al (LK.has .sl r) k
abbrev NI(r:AV)(k:Tree):Tree:=.al (LK.has (.int .i64) r) k
abbrev dQ(l:List AV)(k:Tree):Tree:=.al (LK.has .ptr (l.headD .any)/\1<=l.length) k
abbrev l9(l:List AV)(k:Tree):Tree:=.al (LK.has .str (l.headD .any)/\1<=l.length) k
abbrev nD(l:List AV)(k:Tree):Tree:=.al (LK.has .sl (l.headD .any)/\1<=l.length) k
abbrev NT(r:AV)(k:Tree):Tree:=.al (r=.cv [r.comp 0,r.comp 1]) k
abbrev NA(r:AV)(k:Tree):Tree:=.al (r=.agg r.cs/\r.cs.length=2/\bu [.str,.sl] r.cs 0) k
abbrev NE(l:List AV)(k:Tree):Tree:=.al (bu [.str,.sl] l 0/\2<=l.length) k
abbrev NG(r:AV)(i:Int)(z:Nat)(k:Tree):Tree:=.al (LK.has .sl r/\0<=i/\i<r.aS.length/\(r.aS.getD i.toNat []).length=z) k
abbrev RL:Type:=Nat->List AV->List Ob->Prop
abbrev VS(x:ByteArray):AV:=.v (.string x)
abbrev VI(x:Int):AV:=.v (.int .i64 x)
abbrev VB(x:Bool):AV:=.v (.bool x)
abbrev _root_.List.hA(l:List AV):AV:=l.headD .any
abbrev _root_.List.hO(l:List Ob):Ob:=l.headD .dead
abbrev _root_.Go.VL.AV.ix(a:AV)(i:Int):List AV:=a.aS.getD i.toNat []
abbrev dm(n:Nat)(t:Tree)(R:AV->List Ob->Prop):Prop:=eK Tryz.prog n t fun _ xs obs=>R (xs.headD .any) obs
abbrev jV(n:Nat)(t:Tree)(S:List AV->List Ob->RL->Prop)(R:RL):Prop:=eK Tryz.prog n t (BN (fun ys o=>S ys o R) R)
theorem gQ{n:Nat}{c:Code}{li:LI}{xs:List AV}{obs:List Ob}{R:RL}{t:Tree}(lis:List (Nat×LI))(h:eK Tryz.prog n t (BN (fun ys o=>cx Tryz.prog n c li ys o R) R))(e:round Ms cF n lis c li xs obs=t:=by kernel_rfl):cx Tryz.prog n c li xs obs R:=cx.Nb (cF:=cF) (lis:=lis) s4 mixed e h
theorem OH(n:Nat)(t:Tree)(R:AV->List Ob->Prop):dm n t R=eK Tryz.prog n t fun _ xs obs=>R (xs.headD .any) obs:=rfl
theorem Ps(n:Nat)(t:Tree)(S:List AV->List Ob->RL->Prop)(R:RL):jV n t S R=eK Tryz.prog n t (BN (fun ys o=>S ys o R) R):=rfl
theorem QX(x:ByteArray):VS x=.v (.string x):=rfl
theorem Rb(x:Int):VI x=.v (.int .i64 x):=rfl
theorem Rg(x:Bool):VB x=.v (.bool x):=rfl
theorem Rh(l:List AV):l.hA=l.headD .any:=rfl
theorem Q6(l:List Ob):l.hO=l.headD .dead:=rfl
theorem Q1(a:AV)(i:Int):a.ix i=a.aS.getD i.toNat []:=rfl
theorem oQ{f:Nat}{asq:List AV}{ins:List Ob}{R:AV->List Ob->Prop}{t:Tree}(lis:List (Nat×LI))(F:Func)(h:eK Tryz.prog F.ntmps t fun _ xs obs=>R (xs.headD .any) obs)(hf:Tryz.prog.funcs[f]?=some F:=by kernel_rfl)(hnm:(F.name=="runtime.NumGoroutine")=false:=by kernel_rfl)(e:main Ms cF lis {} F asq ins=t:=by kernel_rfl):an Tryz.prog f asq ins R:=an.Nb (cF:=cF) (lis:=lis) (fc:={}) s4 mixed hf hnm e h
theorem oF{f:Nat}{asq:List AV}{ins:List Ob}{R:AV->List Ob->Prop}{t:Tree}(lis:List (Nat×LI))(fc:FC)(F:Func)(h:eK Tryz.prog F.ntmps t fun _ xs obs=>R (xs.headD .any) obs)(hf:Tryz.prog.funcs[f]?=some F:=by kernel_rfl)(hnm:(F.name=="runtime.NumGoroutine")=false:=by kernel_rfl)(e:main Ms cF lis fc F asq ins=t:=by kernel_rfl):an Tryz.prog f asq ins R:=an.Nb (cF:=cF) (lis:=lis) (fc:=fc) s4 mixed hf hnm e h
theorem uQ{P:Program}{f:Nat}{asq bs:List AV}{R:AV->List Ob->Prop}(h:vI asq bs)(hf:an P f bs [] R):an P f asq [] R:=an.tE dI (an.up h hf)
theorem Ra(r:AV)(k:Tree):NZ r k=.al (LK.has .ptr r/\r.isNil=false) k:=rfl
theorem Q2(r:AV)(k:Tree):NP r k=.al (LK.has .ptr r) k:=rfl
theorem Re(r:AV)(k:Tree):NS r k=.al (LK.has .str r) k:=rfl
theorem QW(r:AV)(k:Tree):NB r k=.al (LK.has .bool r) k:=rfl
theorem Rc(r:AV)(k:Tree):NL r k=.al (LK.has .sl r) k:=rfl
theorem QZ(r:AV)(k:Tree):NI r k=.al (LK.has (.int .i64) r) k:=rfl
theorem OY(l:List AV)(k:Tree):dQ l k=.al (LK.has .ptr (l.headD .any)/\1<=l.length) k:=rfl
theorem Nv(l:List AV)(k:Tree):l9 l k=.al (LK.has .str (l.headD .any)/\1<=l.length) k:=rfl
theorem Ok(l:List AV)(k:Tree):nD l k=.al (LK.has .sl (l.headD .any)/\1<=l.length) k:=rfl
theorem Q5(r:AV)(k:Tree):NT r k=.al (r=.cv [r.comp 0,r.comp 1]) k:=rfl
theorem Q9(r:AV)(k:Tree):NA r k=.al (r=.agg r.cs/\r.cs.length=2/\bu [.str,.sl] r.cs 0) k:=rfl
theorem Q3(l:List AV)(k:Tree):NE l k=.al (bu [.str,.sl] l 0/\2<=l.length) k:=rfl
theorem QY(r:AV)(i:Int)(z:Nat)(k:Tree):NG r i z k=.al (LK.has .sl r/\0<=i/\i<r.aS.length/\(r.aS.getD i.toNat []).length=z) k:=rfl
set_option linter.defProp false in
def zq:=aE @Ra (aE @Q2 (aE @Re (aE @QW (aE @Rc (aE @QZ (aE @OY (aE @Nv (aE @Ok (aE @Q5 (aE @Q9 (aE @Q3 (aE @QY (aE @OH (aE @Ps (aE @QX (aE @Rb (aE @Rg ((aE @Rh (aE @Q6 (aE @Q1 @zp)))))))))))))))))))))
variable {R:AV->List Ob->Prop} {U:RL}
def JS(a0:ByteArray)(a1:ByteArray)(a2_0:AV)(a2_1:ByteArray)(a2_2:ByteArray):Tree :=
 .test (decide ((ag a0:Int)>(1048576:Int))) (.done 0 [VB true] []) (.test (decide ((ag a1:Int)>(1048576:Int))) (.done 0 [VB true] []) (.call 18 [.agg [a2_0,VS a2_1,VS a2_2],VI 1048576] [] fun r1 o1=>NI r1<|.test (decide (r1.toInt<(0:Int))) (.done 0 [VB true] []) (.call 20 [.agg [a2_0,VS a2_1,VS a2_2]] [] fun r2 o2=>.al (r2=.agg r2.cs/\bo [.vec 1,.lk .str,.lk .str] r2.cs 0 0 o2)<|.al (∀x,x∈o2->fW x)<|.call 19 [VS a0,VS a1,.agg [.sl ((o2.hO).es),VS ((r2.cs.getD 1 .any).ai),VS ((r2.cs.getD 2 .any).ai)]] [] fun r3 o3=>NT r3<|NS (r3.comp 0)<|NB (r3.comp 1)<|.call 20 [.agg [a2_0,VS a2_1,VS a2_2]] [] fun r4 o4=>.al (r4=.agg r4.cs/\bo [.vec 1,.lk .str,.lk .str] r4.cs 0 0 o4)<|.al (∀x,x∈o4->fW x)<|.call 21 [VS a0,VS a1,.agg [.sl ((o4.hO).es),VS ((r4.cs.getD 1 .any).ai),VS ((r4.cs.getD 2 .any).ai)]] [] fun r5 o5=>NT r5<|NS (r5.comp 0)<|NB (r5.comp 1)<|.test (!(ae ((r5.comp 0).ai)==ae ((r3.comp 0).ai))) (.done 0 [VB false] []) (.test (!(((r5.comp 1).toBool)==((r3.comp 1).toBool))) (.done 0 [VB false] []) (.call 20 [.agg [a2_0,VS a2_1,VS a2_2]] [] fun r6 o6=>.al (r6=.agg r6.cs/\bo [.vec 1,.lk .str,.lk .str] r6.cs 0 0 o6)<|.al (∀x,x∈o6->fW x)<|.call 22 [.agg [.sl ((o4.hO).es),VS ((r4.cs.getD 1 .any).ai),VS ((r4.cs.getD 2 .any).ai)],.agg [.sl ((o6.hO).es),VS ((r6.cs.getD 1 .any).ai),VS ((r6.cs.getD 2 .any).ai)]] [] fun r7 o7=>NB r7<|.test (!r7.toBool) (.done 0 [VB false] []) (.done 0 [VB true] []))))))
theorem PF(a0:ByteArray)(a1:ByteArray)(a2_0:AV)(a2_1:ByteArray)(a2_2:ByteArray)(ha2_0:LK.has .sl a2_0)(h:dm 54 (JS a0 a1 a2_0 a2_1 a2_2) R):an Tryz.prog 4 [VS a0,VS a1,.agg [a2_0,VS a2_1,VS a2_2]] [] R :=
 uQ (af (au _) (af (au _) (af (bP (af (bU ha2_0) (af (au _) (af (au _) aA)))) aA))) (oQ [] Tryz.f4 h)
def D9:LI:={hd:={bJ:=[(0,.k .sl),(1,.k .sl),(5,.k (.int .i64))]},xs:={},rt:={bJ:=[(4,.k .bool)]},ex:=0}
def HR:Code:=cB (cy Tryz.f13) 4
def Jm:List (Nat×LI):=[(4,D9)]
def K4(a0:AV)(a1:AV):Tree :=
 NL a0<|NL a1<|.test ((a0.aS.length:Int) != (a1.aS.length:Int)) (.done 0 [VB false] []) (.loop HR D9 [a0,a1,VI 0] [] (fun y1 q1=>.done 0 [VB true] []) (fun y1 q1=>NB (y1.hA)<|.done 0 [VB ((y1.hA).toBool)] []))
theorem Qd(a0:AV)(a1:AV)(ha0:LK.has .sl a0)(ha1:LK.has .sl a1)(h:dm 26 (K4 a0 a1) R):an Tryz.prog 13 [a0,a1] [] R :=
 uQ (af (bU ha0) (af (bU ha1) aA)) (oQ Jm Tryz.f13 h)
def GU(x0:AV)(x1:AV)(x5:Int):Tree :=
 NL x0<|NL x1<|NI (VI x5)<|NL x0<|.test (decide (x5<(x0.aS.length:Int))) (NG x0 x5 1<|.al (LK.has (.int .i64) ((x0.ix x5).hA)/\1<=(x0.ix x5).length)<|NG x1 x5 1<|.al (LK.has (.int .i64) ((x1.ix x5).hA)/\1<=(x1.ix x5).length)<|.test ((((x0.ix x5).hA).toInt) != (((x1.ix x5).hA).toInt)) (.done 2 [VB false] []) (.done 0 [x0,x1,VI (IntKind.wrap .i64 (x5+1))] [])) (.done 1 [] [])
abbrev ES:=cx Tryz.prog 26 HR D9
theorem K7(x0:AV)(x1:AV)(x5:Int)(h:jV 26 (GU x0 x1 x5) ES U):ES [x0,x1,VI x5] [] U :=
 gQ Jm h
def L9(a0_0:AV)(a0_1:ByteArray)(a0_2:ByteArray)(a1:Int):Tree :=
 .call 51 [a0_0,VI a1] [] fun r1 o1=>NI r1<|.test (decide (r1.toInt<(0:Int))) (.done 0 [VI (-1)] []) (.test (decide ((IntKind.wrap .i64 (r1.toInt-(ag a0_1:Int)))<(0:Int))) (.done 0 [VI (-1)] []) (.test (decide ((IntKind.wrap .i64 ((IntKind.wrap .i64 (r1.toInt-(ag a0_1:Int)))-(ag a0_2:Int)))<(0:Int))) (.done 0 [VI (-1)] []) (.done 0 [VI (IntKind.wrap .i64 ((IntKind.wrap .i64 (r1.toInt-(ag a0_1:Int)))-(ag a0_2:Int)))] [])))
theorem Oa(a0_0:AV)(a0_1:ByteArray)(a0_2:ByteArray)(a1:Int)(ha0_0:LK.has .sl a0_0)(h:dm 26 (L9 a0_0 a0_1 a0_2 a1) R):an Tryz.prog 18 [.agg [a0_0,VS a0_1,VS a0_2],VI a1] [] R :=
 uQ (af (bP (af (bU ha0_0) (af (au _) (af (au _) aA)))) (af (au _) aA)) (oQ [] Tryz.f18 h)
def J9(a0:ByteArray)(a1:ByteArray)(a2_0:AV)(a2_1:ByteArray)(a2_2:ByteArray):Tree :=
 .call 52 [VS a0,VS a1,a2_0] [] fun r1 o1=>NT r1<|.al ((r1.comp 0)=.agg (r1.comp 0).cs/\(r1.comp 0).cs.length=3/\bu [.str,.sl,.str] ((r1.comp 0).cs) 0)<|NB (r1.comp 1)<|.test (!((r1.comp 1).toBool)) (.done 0 [.cv [VS (mk []),VB false]] []) (.test (!(ae (((r1.comp 0).cs.getD 2 .any).ai)==ae a2_1)) (.done 0 [.cv [VS (mk []),VB false]] []) (.call 53 [.agg [VS (((r1.comp 0).cs.getD 0 .any).ai),((r1.comp 0).cs.getD 1 .any),VS (((r1.comp 0).cs.getD 2 .any).ai)],VS a2_2] [] fun r2 o2=>NT r2<|.al ((r2.comp 0)=.agg (r2.comp 0).cs/\(r2.comp 0).cs.length=3/\bu [.str,.sl,.str] ((r2.comp 0).cs) 0)<|NB (r2.comp 1)<|.test (!((r2.comp 1).toBool)) (.done 0 [.cv [VS (mk []),VB false]] []) (.call 37 [.agg [VS (((r2.comp 0).cs.getD 0 .any).ai),((r2.comp 0).cs.getD 1 .any),VS (((r2.comp 0).cs.getD 2 .any).ai)]] [] fun r3 o3=>NT r3<|NS (r3.comp 0)<|NB (r3.comp 1)<|.done 0 [.cv [VS ((r3.comp 0).ai),VB ((r3.comp 1).toBool)]] [])))
theorem Pt(a0:ByteArray)(a1:ByteArray)(a2_0:AV)(a2_1:ByteArray)(a2_2:ByteArray)(ha2_0:LK.has .sl a2_0)(h:dm 42 (J9 a0 a1 a2_0 a2_1 a2_2) R):an Tryz.prog 19 [VS a0,VS a1,.agg [a2_0,VS a2_1,VS a2_2]] [] R :=
 uQ (af (au _) (af (au _) (af (bP (af (bU ha2_0) (af (au _) (af (au _) aA)))) aA))) (oQ [] Tryz.f19 h)
def MF(a0_0:AV)(a0_1:ByteArray)(a0_2:ByteArray):Tree :=
 .call 54 [a0_0] [] fun r1 o1=>.al (r1=.vec 0/\(o1.hO)=.vec 1 (o1.hO).es)<|.al (∀x,x∈o1->fW x)<|.done 0 [.agg [.vec 0,VS a0_1,VS a0_2]] [.vec 1 ((o1.hO).es)]
theorem PT(a0_0:AV)(a0_1:ByteArray)(a0_2:ByteArray)(ha0_0:LK.has .sl a0_0)(h:dm 15 (MF a0_0 a0_1 a0_2) R):an Tryz.prog 20 [.agg [a0_0,VS a0_1,VS a0_2]] [] R :=
 uQ (af (bP (af (bU ha0_0) (af (au _) (af (au _) aA)))) aA) (oF [] {mu:=[],own:=[0],oa:=[.vec 1,.lk .str,.lk .str]} Tryz.f20 h)
def H6(a0:ByteArray)(a1:ByteArray)(a2_0:AV)(a2_1:ByteArray)(a2_2:ByteArray):Tree :=
 .call 38 [VS a0,VS a1,a2_0] [] fun r1 o1=>NT r1<|.al ((r1.comp 0)=.agg (r1.comp 0).cs/\bo [.lk .str,.vec 1,.lk .str] ((r1.comp 0).cs) 0 0 o1)<|NB (r1.comp 1)<|.al (∀x,x∈o1->fW x)<|.test (!((r1.comp 1).toBool)) (.done 0 [.cv [VS (mk []),VB false]] []) (.test (!(ae (((r1.comp 0).cs.getD 2 .any).ai)==ae a2_1)) (.done 0 [.cv [VS (mk []),VB false]] []) (.call 55 [.agg [VS (((r1.comp 0).cs.getD 0 .any).ai),.sl ((o1.hO).es),VS (((r1.comp 0).cs.getD 2 .any).ai)],VS a2_2] [] fun r2 o2=>NT r2<|.al ((r2.comp 0)=.agg (r2.comp 0).cs/\bo [.lk .str,.vec 1,.lk .str] ((r2.comp 0).cs) 0 0 o2)<|NB (r2.comp 1)<|.al (∀x,x∈o2->fW x)<|.test (!((r2.comp 1).toBool)) (.done 0 [.cv [VS (mk []),VB false]] []) (.call 30 [.agg [VS (((r2.comp 0).cs.getD 0 .any).ai),.sl ((o2.hO).es),VS (((r2.comp 0).cs.getD 2 .any).ai)]] [] fun r3 o3=>NT r3<|NS (r3.comp 0)<|NB (r3.comp 1)<|.done 0 [.cv [VS ((r3.comp 0).ai),VB ((r3.comp 1).toBool)]] [])))
theorem Qh(a0:ByteArray)(a1:ByteArray)(a2_0:AV)(a2_1:ByteArray)(a2_2:ByteArray)(ha2_0:LK.has .sl a2_0)(h:dm 40 (H6 a0 a1 a2_0 a2_1 a2_2) R):an Tryz.prog 21 [VS a0,VS a1,.agg [a2_0,VS a2_1,VS a2_2]] [] R :=
 uQ (af (au _) (af (au _) (af (bP (af (bU ha2_0) (af (au _) (af (au _) aA)))) aA))) (oQ [] Tryz.f21 h)
def JG(a0_0:AV)(a0_1:ByteArray)(a0_2:ByteArray)(a1_0:AV)(a1_1:ByteArray)(a1_2:ByteArray):Tree :=
 .call 13 [a0_0,a1_0] [] fun r1 o1=>NB r1<|.test (!r1.toBool) (.done 0 [VB false] []) (.test (!(ae a0_1==ae a1_1)) (.done 0 [VB false] []) (.test (!(ae a0_2==ae a1_2)) (.done 0 [VB false] []) (.done 0 [VB true] [])))
theorem Oj(a0_0:AV)(a0_1:ByteArray)(a0_2:ByteArray)(a1_0:AV)(a1_1:ByteArray)(a1_2:ByteArray)(ha0_0:LK.has .sl a0_0)(ha1_0:LK.has .sl a1_0)(h:dm 21 (JG a0_0 a0_1 a0_2 a1_0 a1_1 a1_2) R):an Tryz.prog 22 [.agg [a0_0,VS a0_1,VS a0_2],.agg [a1_0,VS a1_1,VS a1_2]] [] R :=
 uQ (af (bP (af (bU ha0_0) (af (au _) (af (au _) aA)))) (af (bP (af (bU ha1_0) (af (au _) (af (au _) aA)))) aA)) (oQ [] Tryz.f22 h)
def Jx(a0:ByteArray)(a1:ByteArray):Tree :=
 .call 64 [.agg [VS a0,.sl [],VS a1]] [] fun r1 o1=>NT r1<|.al ((r1.comp 0)=.agg (r1.comp 0).cs/\(r1.comp 0).cs.length=3/\bu [.str,.sl,.str] ((r1.comp 0).cs) 0)<|NB (r1.comp 1)<|.done 0 [.cv [.agg [VS (((r1.comp 0).cs.getD 0 .any).ai),((r1.comp 0).cs.getD 1 .any),VS (((r1.comp 0).cs.getD 2 .any).ai)],VB ((r1.comp 1).toBool)]] []
theorem NJ(a0:ByteArray)(a1:ByteArray)(h:dm 13 (Jx a0 a1) R):an Tryz.prog 28 [VS a0,VS a1] [] R :=
 uQ (af (au _) (af (au _) aA)) (oQ [] Tryz.f28 h)
def Ef:LI:={hd:={bJ:=[(4,.k .ptr)]},xs:={bJ:=[(4,.k .ptr)]},rt:={},ex:=0}
def H4:Code:=cB (cy Tryz.f30) 4
def L6:List (Nat×LI):=[(4,Ef)]
def IL(a0_0:ByteArray)(a0_1:AV)(a0_2:ByteArray):Tree :=
 .call 45 [.agg [VS a0_0,a0_1,VS a0_2]] [] fun r1 o1=>NP r1<|NP r1<|.test r1.isNil (.done 0 [.cv [VS (mk []),VB false]] []) (.loop H4 Ef [r1] [] (fun y3 q3=>NP (y3.hA)<|NZ (y3.hA)<|NZ (y3.hA)<|dQ ((y3.hA).deref.drop 3)<|.call 66 [(((y3.hA).deref.drop 3).hA)] [] fun r4 o4=>NS r4<|.done 0 [.cv [VS r4.ai,VB true]] []) (fun y3 q3=>.done 0 [.cv [.any,.any]] []))
theorem ND(a0_0:ByteArray)(a0_1:AV)(a0_2:ByteArray)(ha0_1:LK.has .sl a0_1)(h:dm 22 (IL a0_0 a0_1 a0_2) R):an Tryz.prog 30 [.agg [VS a0_0,a0_1,VS a0_2]] [] R :=
 uQ (af (bP (af (au _) (af (bU ha0_1) (af (au _) aA)))) aA) (oQ L6 Tryz.f30 h)
def FZ(x4:AV):Tree :=
 NP x4<|NZ x4<|NZ x4<|nD (x4.deref.drop 2)<|NL ((x4.deref.drop 2).hA)<|.test (decide (((((x4.deref.drop 2).hA).aS).length:Int)>(0:Int))) (.call 46 [x4] [] fun r1 o1=>NP r1<|.done 0 [r1] []) (.done 1 [x4] [])
abbrev GY:=cx Tryz.prog 22 H4 Ef
theorem Lv(x4:AV)(h:jV 22 (FZ x4) GY U):GY [x4] [] U :=
 gQ L6 h
def Kj(a0_0:ByteArray)(a0_1:AV)(a0_2:ByteArray):Tree :=
 .call 41 [.agg [VS a0_0,a0_1,VS a0_2]] [] fun r1 o1=>NB r1<|.test (!r1.toBool) (.done 0 [.cv [VS (mk []),VB false]] []) (.call 70 [.agg [VS a0_0,a0_1,VS a0_2]] [] fun r2 o2=>NT r2<|.al ((r2.comp 0)=.agg (r2.comp 0).cs/\(r2.comp 0).cs.length=3/\bu [.str,.sl,.str] ((r2.comp 0).cs) 0)<|NB (r2.comp 1)<|.done 0 [.cv [VS (((r2.comp 0).cs.getD 2 .any).ai),VB true]] [])
theorem PG(a0_0:ByteArray)(a0_1:AV)(a0_2:ByteArray)(ha0_1:LK.has .sl a0_1)(h:dm 16 (Kj a0_0 a0_1 a0_2) R):an Tryz.prog 37 [.agg [VS a0_0,a0_1,VS a0_2]] [] R :=
 uQ (af (bP (af (au _) (af (bU ha0_1) (af (au _) aA)))) aA) (oQ [] Tryz.f37 h)
def F4:LI:={hd:={bJ:=[(8,.k .ptr),(15,.k .sl),(16,.k (.int .i64)),(17,.k (.int .i64))],refs:=[(6,6)],ck:=[(6,[.lk .str,.lk .sl,.lk .str])]},xs:={bJ:=[(8,.k .ptr)],refs:=[(6,6)],ck:=[(6,[.lk .str,.lk .sl,.lk .str])]},rt:={},ex:=0}
def LW:Code:=cB (cy Tryz.f38) 3
def J3:List (Nat×LI):=[(3,F4)]
def J1(a0:ByteArray)(a1:ByteArray)(a2:AV):Tree :=
 .call 63 [.agg [VS a0,.v (.slice none 0 0),VS a1]] [] fun r1 o1=>NP r1<|NL a2<|.loop LW F4 [r1,a2,VI (a2.aS.length:Int),VI 0] [.cells [VS (mk []),.v (.slice none 0 0),VS (mk [])]] (fun y3 q3=>NP (y3.hA)<|.al ((q3.hO)=.cells (q3.hO).cs)<|.al (ac [.lk .str,.lk .sl,.lk .str] ((q3.hO).cs) 0 q3.tail)<|.call 58 [(y3.hA)] [] fun r4 o4=>NT r4<|.al ((r4.comp 0)=.agg (r4.comp 0).cs/\bo [.lk .str,.vec 1,.lk .str] ((r4.comp 0).cs) 0 0 o4)<|NB (r4.comp 1)<|.al (∀x,x∈o4->fW x)<|.done 0 [.cv [.agg [VS (((r4.comp 0).cs.getD 0 .any).ai),.vec 0,VS (((r4.comp 0).cs.getD 2 .any).ai)],VB ((r4.comp 1).toBool)]] [.vec 1 ((o4.hO).es)]) (fun y3 q3=>.fail)
theorem Pk(a0:ByteArray)(a1:ByteArray)(a2:AV)(ha2:LK.has .sl a2)(h:dm 29 (J1 a0 a1 a2) R):an Tryz.prog 38 [VS a0,VS a1,a2] [] R :=
 uQ (af (au _) (af (au _) (af (bU ha2) aA))) (oF J3 {mu:=[],own:=[0],oa:=[.lk .str,.vec 1,.lk .str]} Tryz.f38 h)
def EU(x8:AV)(x15:AV)(x16:Int)(x17:Int)(o6_0:ByteArray)(o6_1:AV)(o6_2:ByteArray):Tree :=
 NP x8<|NL x15<|NI (VI x16)<|NI (VI x17)<|.al (Ob.cells [VS o6_0,o6_1,VS o6_2]=.cells [VS o6_0,o6_1,VS o6_2])<|.al (ac [.lk .str,.lk .sl,.lk .str] [VS o6_0,o6_1,VS o6_2] 0 [])<|.test (decide (x17<x16)) (NG x15 x17 1<|.al (LK.has (.int .i64) ((x15.ix x17).hA)/\1<=(x15.ix x17).length)<|.call 59 [x8,VI (((x15.ix x17).hA).toInt)] [] fun r1 o1=>NP r1<|.done 0 [r1,x15,VI x16,VI (IntKind.wrap .i64 (x17+1))] [.cells [VS o6_0,o6_1,VS o6_2]]) (.done 1 [x8] [.cells [VS o6_0,o6_1,VS o6_2]])
abbrev FX:=cx Tryz.prog 29 LW F4
theorem LP(x8:AV)(x15:AV)(x16:Int)(x17:Int)(o6_0:ByteArray)(o6_1:AV)(o6_2:ByteArray)(h:jV 29 (EU x8 x15 x16 x17 o6_0 o6_1 o6_2) FX U):FX [x8,x15,VI x16,VI x17] [.cells [VS o6_0,o6_1,VS o6_2]] U :=
 gQ J3 h
def Lh(a0_0:ByteArray)(a0_1:AV)(a0_2:ByteArray):Tree :=
 .call 72 [.agg [VS a0_0,a0_1,VS a0_2]] [] fun r1 o1=>NB r1<|.test (!r1.toBool) (.done 0 [VB false] []) (.call 70 [.agg [VS a0_0,a0_1,VS a0_2]] [] fun r2 o2=>NT r2<|.al ((r2.comp 0)=.agg (r2.comp 0).cs/\(r2.comp 0).cs.length=3/\bu [.str,.sl,.str] ((r2.comp 0).cs) 0)<|NB (r2.comp 1)<|.done 0 [VB ((r2.comp 1).toBool)] [])
theorem QG(a0_0:ByteArray)(a0_1:AV)(a0_2:ByteArray)(ha0_1:LK.has .sl a0_1)(h:dm 14 (Lh a0_0 a0_1 a0_2) R):an Tryz.prog 41 [.agg [VS a0_0,a0_1,VS a0_2]] [] R :=
 uQ (af (bP (af (au _) (af (bU ha0_1) (af (au _) aA)))) aA) (oQ [] Tryz.f41 h)
def HS(a0_0:ByteArray)(a0_1:AV)(a0_2:ByteArray):Tree :=
 NL a0_1<|.test ((a0_1.aS.length:Int)==(0:Int)) (.done 0 [.cv [.agg [VS a0_0,a0_1,VS a0_2],VB false]] []) (.al (LK.has .sl a0_1/\0<=(IntKind.wrap .i64 ((a0_1.aS.length:Int)-1))/\(IntKind.wrap .i64 ((a0_1.aS.length:Int)-1))<a0_1.aS.length/\(a0_1.ix (IntKind.wrap .i64 ((a0_1.aS.length:Int)-1))).length=1)<|l9 (a0_1.ix (IntKind.wrap .i64 ((a0_1.aS.length:Int)-1)))<|.call 73 [VS a0_0,VS (((a0_1.ix (IntKind.wrap .i64 ((a0_1.aS.length:Int)-1))).hA).ai),VS a0_2] [] fun r1 o1=>NT r1<|NS (r1.comp 0)<|NB (r1.comp 1)<|.al (LK.has .sl a0_1/\0<=(0:Int)/\(0:Int)<=(IntKind.wrap .i64 ((a0_1.aS.length:Int)-1))/\(IntKind.wrap .i64 ((a0_1.aS.length:Int)-1))<=(a0_1.aS.length:Int))<|.al (cw 1 ((a0_1.aS.take (bD (IntKind.wrap .i64 ((a0_1.aS.length:Int)-1)))).drop (bD 0))/\((([]:List (List AV)).length)+((a0_1.aS.take (bD (IntKind.wrap .i64 ((a0_1.aS.length:Int)-1)))).drop (bD 0)).length)*16<=140737488355328)<|.done 0 [.cv [.agg [VS a0_0,.sl (([]:List (List AV))++((a0_1.aS.take (bD (IntKind.wrap .i64 ((a0_1.aS.length:Int)-1)))).drop (bD 0))),VS ((r1.comp 0).ai)],VB ((r1.comp 1).toBool)]] [])
theorem OF(a0_0:ByteArray)(a0_1:AV)(a0_2:ByteArray)(ha0_1:LK.has .sl a0_1)(h:dm 39 (HS a0_0 a0_1 a0_2) R):an Tryz.prog 43 [.agg [VS a0_0,a0_1,VS a0_2]] [] R :=
 uQ (af (bP (af (au _) (af (bU ha0_1) (af (au _) aA)))) aA) (oQ [] Tryz.f43 h)
def GF:LI:={hd:={bJ:=[(3,.k .ptr),(4,.k .ptr)]},xs:={bJ:=[(3,.k .ptr)]},rt:={bJ:=[(2,.k .ptr)]},ex:=0}
def KS:Code:=cB (cy Tryz.f45) 5
def Ld:List (Nat×LI):=[(5,GF)]
def Lx(a0_0:ByteArray)(a0_1:AV)(a0_2:ByteArray):Tree :=
 .call 63 [.agg [VS a0_0,a0_1,VS a0_2]] [] fun r1 o1=>NP r1<|NP r1<|.test r1.isNil (.done 0 [.v (.pointer none)] []) (.loop KS GF [r1,r1] [] (fun y3 q3=>NP (y3.hA)<|.done 0 [(y3.hA)] []) (fun y3 q3=>NP (y3.hA)<|.done 0 [(y3.hA)] []))
theorem Qr(a0_0:ByteArray)(a0_1:AV)(a0_2:ByteArray)(ha0_1:LK.has .sl a0_1)(h:dm 21 (Lx a0_0 a0_1 a0_2) R):an Tryz.prog 45 [.agg [VS a0_0,a0_1,VS a0_2]] [] R :=
 uQ (af (bP (af (au _) (af (bU ha0_1) (af (au _) aA)))) aA) (oQ Ld Tryz.f45 h)
def Eh(x3:AV)(x4:AV):Tree :=
 NP x3<|NP x4<|NZ x4<|NZ x4<|nD (x4.deref.drop 2)<|NL ((x4.deref.drop 2).hA)<|.test (decide (((((x4.deref.drop 2).hA).aS).length:Int)>(0:Int))) (.call 46 [x4] [] fun r1 o1=>NP r1<|NP r1<|.test r1.isNil (.done 2 [.v (.pointer none)] []) (.done 0 [x3,r1] [])) (.done 1 [x3] [])
abbrev Gg:=cx Tryz.prog 21 KS GF
theorem Mw(x3:AV)(x4:AV)(h:jV 21 (Eh x3 x4) Gg U):Gg [x3,x4] [] U :=
 gQ Ld h
def IC(a0:AV):Tree :=
 NP a0<|.test a0.isNil (.done 0 [.v (.pointer none)] []) (NZ a0<|NZ a0<|nD (a0.deref.drop 2)<|NL ((a0.deref.drop 2).hA)<|.test (((((a0.deref.drop 2).hA).aS).length:Int)==(0:Int)) (.done 0 [.v (.pointer none)] []) (NZ a0<|NZ a0<|nD (a0.deref.drop 2)<|NL ((a0.deref.drop 2).hA)<|NZ a0<|NZ a0<|dQ (a0.deref.drop 1)<|NZ a0<|NZ a0<|nD (a0.deref.drop 2)<|.al (LK.has .sl ((a0.deref.drop 2).hA)/\0<=(IntKind.wrap .i64 (((((a0.deref.drop 2).hA).aS).length:Int)-1))/\(IntKind.wrap .i64 (((((a0.deref.drop 2).hA).aS).length:Int)-1))<((a0.deref.drop 2).hA).aS.length/\(((a0.deref.drop 2).hA).ix (IntKind.wrap .i64 (((((a0.deref.drop 2).hA).aS).length:Int)-1))).length=1)<|.al (LK.has .ptr ((((a0.deref.drop 2).hA).ix (IntKind.wrap .i64 (((((a0.deref.drop 2).hA).aS).length:Int)-1))).hA)/\1<=(((a0.deref.drop 2).hA).ix (IntKind.wrap .i64 (((((a0.deref.drop 2).hA).aS).length:Int)-1))).length)<|NZ a0<|NZ a0<|dQ (a0.deref.drop 3)<|.call 74 [((a0.deref.drop 1).hA),((((a0.deref.drop 2).hA).ix (IntKind.wrap .i64 (((((a0.deref.drop 2).hA).aS).length:Int)-1))).hA),((a0.deref.drop 3).hA)] [] fun r1 o1=>NP r1<|.call 75 [r1] [] fun r2 o2=>NI r2<|.test (decide (r2.toInt>(200:Int))) (.done 0 [.v (.pointer none)] []) (NZ a0<|NZ a0<|.al (LK.has .str (a0.deref.hA)/\1<=a0.deref.length)<|NZ a0<|NZ a0<|dQ (a0.deref.drop 1)<|NZ a0<|NZ a0<|nD (a0.deref.drop 2)<|.al (LK.has .sl ((a0.deref.drop 2).hA)/\0<=(0:Int)/\(0:Int)<=(IntKind.wrap .i64 (((((a0.deref.drop 2).hA).aS).length:Int)-1))/\(IntKind.wrap .i64 (((((a0.deref.drop 2).hA).aS).length:Int)-1))<=((((a0.deref.drop 2).hA).aS).length:Int))<|.done 0 [.ptr [VS ((a0.deref.hA).ai),((a0.deref.drop 1).hA),.sl (((((a0.deref.drop 2).hA).aS).take (bD (IntKind.wrap .i64 (((((a0.deref.drop 2).hA).aS).length:Int)-1)))).drop (bD 0)),r1]] [])))
theorem N5(a0:AV)(ha0:LK.has .ptr a0)(h:dm 57 (IC a0) R):an Tryz.prog 46 [a0] [] R :=
 uQ (af (bz ha0) aA) (oQ [] Tryz.f46 h)
def Kg(a0:AV)(a1:Int):Tree :=
 NL a0<|.test (decide ((IntKind.wrap .i64 (a1-(a0.aS.length:Int)))<(0:Int))) (.done 0 [VI (-1)] []) (.done 0 [VI (IntKind.wrap .i64 (a1-(a0.aS.length:Int)))] [])
theorem Nk(a0:AV)(a1:Int)(ha0:LK.has .sl a0)(h:dm 12 (Kg a0 a1) R):an Tryz.prog 51 [a0,VI a1] [] R :=
 uQ (af (bU ha0) (af (au _) aA)) (oQ [] Tryz.f51 h)
def Gx:LI:={hd:={bJ:=[(2,.k .sl),(10,.k (.int .i64))],refs:=[(6,6),(8,8)],ck:=[(6,[.lk .str,.lk .sl,.lk .str]),(8,[.lk .str,.lk .sl,.lk .str])]},xs:={refs:=[(6,6),(8,8)],ck:=[(6,[.lk .str,.lk .sl,.lk .str]),(8,[.lk .str,.lk .sl,.lk .str])]},rt:={bJ:=[(7,.k .bool)],refs:=[(6,6)],ck:=[(6,[.lk .str,.lk .sl,.lk .str])]},ex:=0}
def H3:Code:=cB (cy Tryz.f52) 5
def HM:List (Nat×LI):=[(5,Gx)]
def MY(a0:ByteArray)(a1:ByteArray)(a2:AV):Tree :=
 .call 28 [VS a0,VS a1] [] fun r1 o1=>NT r1<|.al ((r1.comp 0)=.agg (r1.comp 0).cs/\(r1.comp 0).cs.length=3/\bu [.str,.sl,.str] ((r1.comp 0).cs) 0)<|NB (r1.comp 1)<|.test (!((r1.comp 1).toBool)) (.done 0 [.cv [.agg [VS (mk []),.v (.slice none 0 0),VS (mk [])],VB false]] []) (NL a2<|.test (decide ((a2.aS.length:Int)>(50:Int))) (.done 0 [.cv [.agg [VS (mk []),.v (.slice none 0 0),VS (mk [])],VB false]] []) (.loop H3 Gx [a2,VI 0] [.cells [VS (mk []),.v (.slice none 0 0),VS (mk [])],.cells [VS (((r1.comp 0).cs.getD 0 .any).ai),((r1.comp 0).cs.getD 1 .any),VS (((r1.comp 0).cs.getD 2 .any).ai)]] (fun y3 q3=>.al ((q3.hO)=.cells (q3.hO).cs)<|.al (ac [.lk .str,.lk .sl,.lk .str] ((q3.hO).cs) 0 q3.tail)<|.al (((q3.tail.drop 0).hO)=.cells ((q3.tail.drop 0).hO).cs)<|.al (ac [.lk .str,.lk .sl,.lk .str] (((q3.tail.drop 0).hO).cs) 0 ((q3.tail.drop 0).tail))<|.done 0 [.cv [.agg [VS (((q3.tail.hO).cs.getD 0 .any).ai),((q3.tail.hO).cs.getD 1 .any),VS (((q3.tail.hO).cs.getD 2 .any).ai)],VB true]] []) (fun y3 q3=>NB (y3.hA)<|.al ((q3.hO)=.cells (q3.hO).cs)<|.al (ac [.lk .str,.lk .sl,.lk .str] ((q3.hO).cs) 0 q3.tail)<|.done 0 [.cv [.agg [VS (((q3.hO).cs.getD 0 .any).ai),((q3.hO).cs.getD 1 .any),VS (((q3.hO).cs.getD 2 .any).ai)],VB ((y3.hA).toBool)]] [])))
theorem OK(a0:ByteArray)(a1:ByteArray)(a2:AV)(ha2:LK.has .sl a2)(h:dm 47 (MY a0 a1 a2) R):an Tryz.prog 52 [VS a0,VS a1,a2] [] R :=
 uQ (af (au _) (af (au _) (af (bU ha2) aA))) (oQ HM Tryz.f52 h)
def Ec(x2:AV)(x10:Int)(o6_0:ByteArray)(o6_1:AV)(o6_2:ByteArray)(o8_0:ByteArray)(o8_1:AV)(o8_2:ByteArray):Tree :=
 NL x2<|NI (VI x10)<|.al (Ob.cells [VS o6_0,o6_1,VS o6_2]=.cells [VS o6_0,o6_1,VS o6_2])<|.al (ac [.lk .str,.lk .sl,.lk .str] [VS o6_0,o6_1,VS o6_2] 0 [.cells [VS o8_0,o8_1,VS o8_2]])<|.al (Ob.cells [VS o8_0,o8_1,VS o8_2]=.cells [VS o8_0,o8_1,VS o8_2])<|.al (ac [.lk .str,.lk .sl,.lk .str] [VS o8_0,o8_1,VS o8_2] 0 [])<|NL x2<|.test (decide (x10<(x2.aS.length:Int))) (NG x2 x10 1<|.al (LK.has (.int .i64) ((x2.ix x10).hA)/\1<=(x2.ix x10).length)<|.call 57 [.agg [VS o8_0,o8_1,VS o8_2],VI (((x2.ix x10).hA).toInt)] [] fun r1 o1=>NT r1<|.al ((r1.comp 0)=.agg (r1.comp 0).cs/\(r1.comp 0).cs.length=3/\bu [.str,.sl,.str] ((r1.comp 0).cs) 0)<|NB (r1.comp 1)<|.test (!((r1.comp 1).toBool)) (.done 2 [VB false] [.cells [VS (mk []),.v (.slice none 0 0),VS (mk [])]]) (.done 0 [x2,VI (IntKind.wrap .i64 (x10+1))] [.cells [VS o6_0,o6_1,VS o6_2],.cells [VS (((r1.comp 0).cs.getD 0 .any).ai),((r1.comp 0).cs.getD 1 .any),VS (((r1.comp 0).cs.getD 2 .any).ai)]])) (.done 1 [] [.cells [VS o6_0,o6_1,VS o6_2],.cells [VS o8_0,o8_1,VS o8_2]])
abbrev DT:=cx Tryz.prog 47 H3 Gx
theorem K9(x2:AV)(x10:Int)(o6_0:ByteArray)(o6_1:AV)(o6_2:ByteArray)(o8_0:ByteArray)(o8_1:AV)(o8_2:ByteArray)(h:jV 47 (Ec x2 x10 o6_0 o6_1 o6_2 o8_0 o8_1 o8_2) DT U):DT [x2,VI x10] [.cells [VS o6_0,o6_1,VS o6_2],.cells [VS o8_0,o8_1,VS o8_2]] U :=
 gQ HM h
def HV(a0_0:ByteArray)(a0_1:AV)(a0_2:ByteArray)(a1:ByteArray):Tree :=
 .call 41 [.agg [VS a0_0,a0_1,VS a0_2]] [] fun r1 o1=>NB r1<|.test (!r1.toBool) (.done 0 [.cv [.agg [VS (mk []),.v (.slice none 0 0),VS (mk [])],VB false]] []) (.al (LK.has .sl a0_1/\cw 1 a0_1.aS/\((([]:List (List AV)).length)+a0_1.aS.length)*16<=140737488355328)<|.call 64 [.agg [VS a0_0,.sl (([]:List (List AV))++a0_1.aS),VS a1]] [] fun r2 o2=>NT r2<|.al ((r2.comp 0)=.agg (r2.comp 0).cs/\(r2.comp 0).cs.length=3/\bu [.str,.sl,.str] ((r2.comp 0).cs) 0)<|NB (r2.comp 1)<|.done 0 [.cv [.agg [VS (((r2.comp 0).cs.getD 0 .any).ai),((r2.comp 0).cs.getD 1 .any),VS (((r2.comp 0).cs.getD 2 .any).ai)],VB ((r2.comp 1).toBool)]] [])
theorem QN(a0_0:ByteArray)(a0_1:AV)(a0_2:ByteArray)(a1:ByteArray)(ha0_1:LK.has .sl a0_1)(h:dm 21 (HV a0_0 a0_1 a0_2 a1) R):an Tryz.prog 53 [.agg [VS a0_0,a0_1,VS a0_2],VS a1] [] R :=
 uQ (af (bP (af (au _) (af (bU ha0_1) (af (au _) aA)))) (af (au _) aA)) (oQ [] Tryz.f53 h)
def E7:LI:={hd:={bJ:=[(0,.k .sl),(4,.k (.int .i64))],eE:=[(3,1)]},xs:={eE:=[(3,1)]},rt:={},ex:=0}
def I9:Code:=cB (cy Tryz.f54) 3
def Lp:List (Nat×LI):=[(3,E7)]
def JP(a0:AV):Tree :=
 NL a0<|.al (0<=(a0.aS.length:Int)/\(a0.aS.length:Int)*8<=140737488355328)<|.loop I9 E7 [a0,VI 0] [.vec 1 (List.replicate (bD (a0.aS.length:Int)) [VI 0])] (fun y1 q1=>.al (((q1.drop 0).hO)=.vec 1 ((q1.drop 0).hO).es)<|.done 0 [.vec 0] [.vec 1 ((q1.hO).es)]) (fun y1 q1=>.fail)
theorem Oh(a0:AV)(ha0:LK.has .sl a0)(h:dm 22 (JP a0) R):an Tryz.prog 54 [a0] [] R :=
 uQ (af (bU ha0) aA) (oF Lp {mu:=[],own:=[0]} Tryz.f54 h)
def D3(x0:AV)(x4:Int)(e3:List (List AV)):Tree :=
 NL x0<|NI (VI x4)<|.al (Ob.vec 1 e3=.vec 1 e3)<|NL x0<|.test (decide (x4<(x0.aS.length:Int))) (NG x0 x4 1<|.al (LK.has (.int .i64) ((x0.ix x4).hA)/\1<=(x0.ix x4).length)<|.al (0<=x4/\x4<e3.length)<|.al (x4.toNat<e3.length/\0+1<=1)<|.done 0 [x0,VI (IntKind.wrap .i64 (x4+1))] [.vec 1 (e3.set x4.toNat ((e3.getD x4.toNat []).set 0 (VI (((x0.ix x4).hA).toInt))))]) (.done 1 [] [.vec 1 e3])
abbrev EQ:=cx Tryz.prog 22 I9 E7
theorem JN(x0:AV)(x4:Int)(e3:List (List AV))(h:jV 22 (D3 x0 x4 e3) EQ U):EQ [x0,VI x4] [.vec 1 e3] U :=
 gQ Lp h
def M5(a0_0:ByteArray)(a0_1:AV)(a0_2:ByteArray)(a1:ByteArray):Tree :=
 .call 45 [.agg [VS a0_0,a0_1,VS a0_2]] [] fun r1 o1=>NP r1<|NP r1<|.test r1.isNil (.done 0 [.cv [.agg [VS (mk []),.vec 0,VS (mk [])],VB false]] [.vec 1 []]) (.call 45 [.agg [VS a0_0,a0_1,VS a1]] [] fun r2 o2=>NP r2<|.call 58 [r2] [] fun r3 o3=>NT r3<|.al ((r3.comp 0)=.agg (r3.comp 0).cs/\bo [.lk .str,.vec 1,.lk .str] ((r3.comp 0).cs) 0 0 o3)<|NB (r3.comp 1)<|.al (∀x,x∈o3->fW x)<|.done 0 [.cv [.agg [VS (((r3.comp 0).cs.getD 0 .any).ai),.vec 0,VS (((r3.comp 0).cs.getD 2 .any).ai)],VB ((r3.comp 1).toBool)]] [.vec 1 ((o3.hO).es)])
theorem PA(a0_0:ByteArray)(a0_1:AV)(a0_2:ByteArray)(a1:ByteArray)(ha0_1:LK.has .sl a0_1)(h:dm 20 (M5 a0_0 a0_1 a0_2 a1) R):an Tryz.prog 55 [.agg [VS a0_0,a0_1,VS a0_2],VS a1] [] R :=
 uQ (af (bP (af (au _) (af (bU ha0_1) (af (au _) aA)))) (af (au _) aA)) (oF [] {mu:=[],own:=[0],oa:=[.lk .str,.vec 1,.lk .str]} Tryz.f55 h)
def IG(a0:Int)(a1:Int)(a2:Int):Tree :=
 .test (decide (a0≥a1)) (.done 0 [VB (decide (a0<=a2))] []) (.done 0 [VB false] [])
theorem QP(a0:Int)(a1:Int)(a2:Int)(h:dm 15 (IG a0 a1 a2) R):an Tryz.prog 56 [VI a0,VI a1,VI a2] [] R :=
 uQ (af (au _) (af (au _) (af (au _) aA))) (oQ [] Tryz.f56 h)
def Lw(a0_0:ByteArray)(a0_1:AV)(a0_2:ByteArray)(a1:Int):Tree :=
 .call 41 [.agg [VS a0_0,a0_1,VS a0_2]] [] fun r1 o1=>NB r1<|.test (!r1.toBool) (.done 0 [.cv [.agg [VS (mk []),.v (.slice none 0 0),VS (mk [])],VB false]] []) (.call 69 [VS a0_0,VS a0_2] [] fun r2 o2=>NT r2<|NL (r2.comp 0)<|NB (r2.comp 1)<|NL (r2.comp 0)<|.call 56 [VI a1,VI 0,VI (IntKind.wrap .i64 ((((r2.comp 0).aS).length:Int)-1))] [] fun r3 o3=>NB r3<|.test (!r3.toBool) (.done 0 [.cv [.agg [VS (mk []),.v (.slice none 0 0),VS (mk [])],VB false]] []) (NG (r2.comp 0) a1 2<|l9 ((r2.comp 0).ix a1)<|.call 79 [a0_1,VS ((((r2.comp 0).ix a1).hA).ai)] [] fun r4 o4=>NL r4<|NG (r2.comp 0) a1 2<|l9 (((r2.comp 0).ix a1).drop 1)<|.call 64 [.agg [VS a0_0,r4,VS (((((r2.comp 0).ix a1).drop 1).hA).ai)]] [] fun r5 o5=>NT r5<|.al ((r5.comp 0)=.agg (r5.comp 0).cs/\(r5.comp 0).cs.length=3/\bu [.str,.sl,.str] ((r5.comp 0).cs) 0)<|NB (r5.comp 1)<|.done 0 [.cv [.agg [VS (((r5.comp 0).cs.getD 0 .any).ai),((r5.comp 0).cs.getD 1 .any),VS (((r5.comp 0).cs.getD 2 .any).ai)],VB ((r5.comp 1).toBool)]] []))
theorem NN(a0_0:ByteArray)(a0_1:AV)(a0_2:ByteArray)(a1:Int)(ha0_1:LK.has .sl a0_1)(h:dm 46 (Lw a0_0 a0_1 a0_2 a1) R):an Tryz.prog 57 [.agg [VS a0_0,a0_1,VS a0_2],VI a1] [] R :=
 uQ (af (bP (af (au _) (af (bU ha0_1) (af (au _) aA)))) (af (au _) aA)) (oQ [] Tryz.f57 h)
def FN:LI:={hd:={bJ:=[(23,.k .sl),(24,.k (.int .i64)),(25,.k (.int .i64))],refs:=[(2,2),(4,4)],ck:=[(2,[.lk .str,.lk .sl,.lk .str]),(4,[.lk .str,.vec 1,.lk .str])]},xs:={refs:=[(2,2),(4,4)],ck:=[(2,[.lk .str,.lk .sl,.lk .str]),(4,[.lk .str,.vec 1,.lk .str])]},rt:={},ex:=0}
def Lr:Code:=cB (cy Tryz.f58) 5
def KG:List (Nat×LI):=[(5,FN)]
def J0(a0:AV):Tree :=
 NP a0<|.test a0.isNil (.done 0 [.cv [.agg [VS (mk []),.vec 0,VS (mk [])],VB false]] [.vec 1 []]) (NZ a0<|NZ a0<|.al (LK.has .str (a0.deref.hA)/\1<=a0.deref.length)<|NZ a0<|NZ a0<|dQ (a0.deref.drop 3)<|.call 66 [((a0.deref.drop 3).hA)] [] fun r1 o1=>NS r1<|NZ a0<|NZ a0<|nD (a0.deref.drop 2)<|NL ((a0.deref.drop 2).hA)<|.loop Lr FN [((a0.deref.drop 2).hA),VI ((((a0.deref.drop 2).hA).aS).length:Int),VI 0] [.cells [VS (mk []),.v (.slice none 0 0),VS (mk [])],.cells [VS ((a0.deref.hA).ai),.any,VS r1.ai],.vec 1 []] (fun y4 q4=>.al ((q4.hO)=.cells (q4.hO).cs)<|.al (ac [.lk .str,.lk .sl,.lk .str] ((q4.hO).cs) 0 q4.tail)<|.al (((q4.tail.drop 0).hO)=.cells ((q4.tail.drop 0).hO).cs)<|.al (ac [.lk .str,.vec 1,.lk .str] (((q4.tail.drop 0).hO).cs) 0 ((q4.tail.drop 0).tail))<|.done 0 [.cv [.agg [VS (((q4.tail.hO).cs.getD 0 .any).ai),.vec 0,VS (((q4.tail.hO).cs.getD 2 .any).ai)],VB true]] [.vec 1 ((q4.tail.tail.hO).es)]) (fun y4 q4=>.fail))
theorem Oy(a0:AV)(ha0:LK.has .ptr a0)(h:dm 38 (J0 a0) R):an Tryz.prog 58 [a0] [] R :=
 uQ (af (bz ha0) aA) (oF KG {mu:=[],own:=[0],oa:=[.lk .str,.vec 1,.lk .str]} Tryz.f58 h)
def FA(x23:AV)(x24:Int)(x25:Int)(o2_0:ByteArray)(o2_1:AV)(o2_2:ByteArray)(o4_0:ByteArray)(o4_1:List (List AV))(o4_2:ByteArray):Tree :=
 NL x23<|NI (VI x24)<|NI (VI x25)<|.al (Ob.cells [VS o2_0,o2_1,VS o2_2]=.cells [VS o2_0,o2_1,VS o2_2])<|.al (ac [.lk .str,.lk .sl,.lk .str] [VS o2_0,o2_1,VS o2_2] 0 [.cells [VS o4_0,.any,VS o4_2],.vec 1 o4_1])<|.al (Ob.cells [VS o4_0,.any,VS o4_2]=.cells [VS o4_0,.any,VS o4_2])<|.al (ac [.lk .str,.vec 1,.lk .str] [VS o4_0,.any,VS o4_2] 0 [.vec 1 o4_1])<|.test (decide (x25<x24)) (NG x23 x25 1<|dQ (x23.ix x25)<|.call 66 [((x23.ix x25).hA)] [] fun r1 o1=>NS r1<|.al (cw 1 [[VS r1.ai]]/\((o4_1.length)+([[VS r1.ai]]:List (List AV)).length)*16<=140737488355328)<|.done 0 [x23,VI x24,VI (IntKind.wrap .i64 (x25+1))] [.cells [VS o2_0,o2_1,VS o2_2],.cells [VS o4_0,.any,VS o4_2],.vec 1 (o4_1++([[VS r1.ai]]:List (List AV)))]) (.done 1 [] [.cells [VS o2_0,o2_1,VS o2_2],.cells [VS o4_0,.any,VS o4_2],.vec 1 o4_1])
abbrev G4:=cx Tryz.prog 38 Lr FN
theorem LH(x23:AV)(x24:Int)(x25:Int)(o2_0:ByteArray)(o2_1:AV)(o2_2:ByteArray)(o4_0:ByteArray)(o4_1:List (List AV))(o4_2:ByteArray)(h:jV 38 (FA x23 x24 x25 o2_0 o2_1 o2_2 o4_0 o4_1 o4_2) G4 U):G4 [x23,VI x24,VI x25] [.cells [VS o2_0,o2_1,VS o2_2],.cells [VS o4_0,.any,VS o4_2],.vec 1 o4_1] U :=
 gQ KG h
def Gf(a0:AV)(a1:Int):Tree :=
 NP a0<|.test a0.isNil (.done 0 [.v (.pointer none)] []) (NZ a0<|NZ a0<|nD (a0.deref.drop 2)<|NL ((a0.deref.drop 2).hA)<|.test (((((a0.deref.drop 2).hA).aS).length:Int)==(50:Int)) (.done 0 [.v (.pointer none)] []) (NZ a0<|NZ a0<|dQ (a0.deref.drop 1)<|NZ a0<|NZ a0<|dQ (a0.deref.drop 3)<|.call 68 [((a0.deref.drop 1).hA),((a0.deref.drop 3).hA)] [] fun r1 o1=>NL r1<|.test (decide (a1<(0:Int))) (.done 0 [.v (.pointer none)] []) (NL r1<|.test (decide (a1≥(r1.aS.length:Int))) (.done 0 [.v (.pointer none)] []) (NG r1 a1 2<|dQ (r1.ix a1)<|.call 75 [((r1.ix a1).hA)] [] fun r2 o2=>NI r2<|.test (decide (r2.toInt>(200:Int))) (.done 0 [.v (.pointer none)] []) (NZ a0<|NZ a0<|nD (a0.deref.drop 2)<|.al (LK.has .sl ((a0.deref.drop 2).hA)/\cw 1 (((a0.deref.drop 2).hA).aS)/\((([]:List (List AV)).length)+(((a0.deref.drop 2).hA).aS).length)*8<=140737488355328)<|NG r1 a1 2<|dQ (r1.ix a1)<|.al (cw 1 [[((r1.ix a1).hA)]]/\(((([]:List (List AV))++(((a0.deref.drop 2).hA).aS)).length)+([[((r1.ix a1).hA)]]:List (List AV)).length)*8<=140737488355328)<|NZ a0<|NZ a0<|.al (LK.has .str (a0.deref.hA)/\1<=a0.deref.length)<|NZ a0<|NZ a0<|dQ (a0.deref.drop 1)<|NG r1 a1 2<|dQ ((r1.ix a1).drop 1)<|.done 0 [.ptr [VS ((a0.deref.hA).ai),((a0.deref.drop 1).hA),.sl ((([]:List (List AV))++(((a0.deref.drop 2).hA).aS))++([[((r1.ix a1).hA)]]:List (List AV))),(((r1.ix a1).drop 1).hA)]] [])))))
theorem Ic(a0:AV)(a1:Int)(ha0:LK.has .ptr a0)(h:dm 72 (Gf a0 a1) R):an Tryz.prog 59 [a0,VI a1] [] R :=
 uQ (af (bz ha0) (af (au _) aA)) (oQ [] Tryz.f59 h)
def GQ:LI:={hd:={bJ:=[(5,.k .str),(45,.k .sl),(46,.k (.int .i64)),(47,.k (.int .i64))],refs:=[(7,43)],ck:=[(43,[.lk .str,.lk .ptr,.vec 1,.lk .ptr])]},xs:={refs:=[(7,43)],ck:=[(43,[.lk .str,.lk .ptr,.vec 1,.lk .ptr])]},rt:={bJ:=[(2,.k .ptr)]},ex:=0}
def KO:Code:=cB (cy Tryz.f63) 7
def Jq:List (Nat×LI):=[(7,GQ)]
def Ml(a0_0:ByteArray)(a0_1:AV)(a0_2:ByteArray):Tree :=
 .call 84 [VS a0_0,VS a0_2] [] fun r1 o1=>NT r1<|NP (r1.comp 0)<|NP (r1.comp 1)<|.call 85 [VS a0_0] [] fun r2 o2=>NT r2<|NS (r2.comp 0)<|NB (r2.comp 1)<|NP (r1.comp 1)<|.test ((r1.comp 1).isNil) (.done 0 [.v (.pointer none)] []) (.test (!((r2.comp 1).toBool)) (.done 0 [.v (.pointer none)] []) (NL a0_1<|.test (decide ((a0_1.aS.length:Int)>(50:Int))) (.done 0 [.v (.pointer none)] []) (NL a0_1<|.loop KO GQ [VS ((r2.comp 0).ai),a0_1,VI (a0_1.aS.length:Int),VI 0] [.cells [VS a0_0,(r1.comp 0),.any,(r1.comp 1)],.vec 1 []] (fun y5 q5=>.al ((q5.hO)=.cells (q5.hO).cs)<|.al (ac [.lk .str,.lk .ptr,.vec 1,.lk .ptr] ((q5.hO).cs) 0 q5.tail)<|.done 0 [.ptr [VS (((q5.hO).cs.getD 0 .any).ai),((q5.hO).cs.getD 1 .any),.sl ((q5.tail.hO).es),((q5.hO).cs.getD 3 .any)]] []) (fun y5 q5=>NP (y5.hA)<|.done 0 [(y5.hA)] []))))
theorem PE(a0_0:ByteArray)(a0_1:AV)(a0_2:ByteArray)(ha0_1:LK.has .sl a0_1)(h:dm 71 (Ml a0_0 a0_1 a0_2) R):an Tryz.prog 63 [.agg [VS a0_0,a0_1,VS a0_2]] [] R :=
 uQ (af (bP (af (au _) (af (bU ha0_1) (af (au _) aA)))) aA) (oQ Jq Tryz.f63 h)
def G9(x5:ByteArray)(x45:AV)(x46:Int)(x47:Int)(o43_0:ByteArray)(o43_1:AV)(o43_2:List (List AV))(o43_3:AV):Tree :=
 NS (VS x5)<|NL x45<|NI (VI x46)<|NI (VI x47)<|.al (Ob.cells [VS o43_0,o43_1,.any,o43_3]=.cells [VS o43_0,o43_1,.any,o43_3])<|.al (ac [.lk .str,.lk .ptr,.vec 1,.lk .ptr] [VS o43_0,o43_1,.any,o43_3] 0 [.vec 1 o43_2])<|.test (decide (x47<x46)) (NG x45 x47 1<|l9 (x45.ix x47)<|.call 71 [VS x5,VS (((x45.ix x47).hA).ai),VI 100] [] fun r1 o1=>NT r1<|NP (r1.comp 0)<|NP (r1.comp 1)<|NP (r1.comp 1)<|.test ((r1.comp 1).isNil) (.done 2 [.v (.pointer none)] []) (.al (cw 1 [[(r1.comp 1)]]/\((o43_2.length)+([[(r1.comp 1)]]:List (List AV)).length)*8<=140737488355328)<|.done 0 [VS x5,x45,VI x46,VI (IntKind.wrap .i64 (x47+1))] [.cells [VS o43_0,o43_1,.any,o43_3],.vec 1 (o43_2++([[(r1.comp 1)]]:List (List AV)))])) (.done 1 [] [.cells [VS o43_0,o43_1,.any,o43_3],.vec 1 o43_2])
abbrev EJ:=cx Tryz.prog 71 KO GQ
theorem JE(x5:ByteArray)(x45:AV)(x46:Int)(x47:Int)(o43_0:ByteArray)(o43_1:AV)(o43_2:List (List AV))(o43_3:AV)(h:jV 71 (G9 x5 x45 x46 x47 o43_0 o43_1 o43_2 o43_3) EJ U):EJ [VS x5,x45,VI x46,VI x47] [.cells [VS o43_0,o43_1,.any,o43_3],.vec 1 o43_2] U :=
 gQ Jq h
def IZ(a0_0:ByteArray)(a0_1:AV)(a0_2:ByteArray):Tree :=
 .call 41 [.agg [VS a0_0,a0_1,VS a0_2]] [] fun r1 o1=>NB r1<|.test (!r1.toBool) (.done 0 [.cv [.agg [VS (mk []),.v (.slice none 0 0),VS (mk [])],VB false]] []) (.done 0 [.cv [.agg [VS a0_0,a0_1,VS a0_2],VB true]] [])
theorem Pr(a0_0:ByteArray)(a0_1:AV)(a0_2:ByteArray)(ha0_1:LK.has .sl a0_1)(h:dm 9 (IZ a0_0 a0_1 a0_2) R):an Tryz.prog 64 [.agg [VS a0_0,a0_1,VS a0_2]] [] R :=
 uQ (af (bP (af (au _) (af (bU ha0_1) (af (au _) aA)))) aA) (oQ [] Tryz.f64 h)
def Gw(a0:AV):Tree :=
 NZ a0<|NZ a0<|.al (LK.has (.int .u8) (a0.deref.hA)/\1<=a0.deref.length)<|.test (((a0.deref.hA).toInt)==(117:Int)) (.done 0 [VS (mk [117])] []) (.test (((a0.deref.hA).toInt)==(101:Int)) (NZ a0<|NZ a0<|l9 (a0.deref.drop 1)<|.done 0 [VS (((a0.deref.drop 1).hA).ai)] []) (.test (((a0.deref.hA).toInt)==(112:Int)) (NZ a0<|NZ a0<|dQ (a0.deref.drop 2)<|.call 66 [((a0.deref.drop 2).hA)] [] fun r1 o1=>NS r1<|.al (ag (mk [40,112,32])+ag r1.ai<=9223372036854775807)<|.al (ag (((mk [40,112,32]):ByteArray)++r1.ai)+ag (mk [32])<=9223372036854775807)<|NZ a0<|NZ a0<|dQ (a0.deref.drop 3)<|.call 66 [((a0.deref.drop 3).hA)] [] fun r2 o2=>NS r2<|.al (ag (((((mk [40,112,32]):ByteArray)++r1.ai):ByteArray)++(mk [32]))+ag r2.ai<=9223372036854775807)<|.al (ag (((((((mk [40,112,32]):ByteArray)++r1.ai):ByteArray)++(mk [32])):ByteArray)++r2.ai)+ag (mk [41])<=9223372036854775807)<|.done 0 [VS (((((((((mk [40,112,32]):ByteArray)++r1.ai):ByteArray)++(mk [32])):ByteArray)++r2.ai):ByteArray)++(mk [41]))] []) (NZ a0<|NZ a0<|.al (LK.has (.int .u8) (a0.deref.hA)/\1<=a0.deref.length)<|.al (jn [[.v (.int .u8 ((a0.deref.hA).toInt))]])<|.al (ag (mk [40])+ag (⟨(bytesOf [[.v (.int .u8 ((a0.deref.hA).toInt))]]).toArray⟩)<=9223372036854775807)<|.al (ag (((mk [40]):ByteArray)++(⟨(bytesOf [[.v (.int .u8 ((a0.deref.hA).toInt))]]).toArray⟩))+ag (mk [32])<=9223372036854775807)<|NZ a0<|NZ a0<|dQ (a0.deref.drop 2)<|.call 66 [((a0.deref.drop 2).hA)] [] fun r3 o3=>NS r3<|.al (ag (((((mk [40]):ByteArray)++(⟨(bytesOf [[.v (.int .u8 ((a0.deref.hA).toInt))]]).toArray⟩)):ByteArray)++(mk [32]))+ag r3.ai<=9223372036854775807)<|.al (ag (((((((mk [40]):ByteArray)++(⟨(bytesOf [[.v (.int .u8 ((a0.deref.hA).toInt))]]).toArray⟩)):ByteArray)++(mk [32])):ByteArray)++r3.ai)+ag (mk [41])<=9223372036854775807)<|.done 0 [VS (((((((((mk [40]):ByteArray)++(⟨(bytesOf [[.v (.int .u8 ((a0.deref.hA).toInt))]]).toArray⟩)):ByteArray)++(mk [32])):ByteArray)++r3.ai):ByteArray)++(mk [41]))] [])))
theorem yX(a0:AV)(ha0:LK.has .ptr a0)(h:dm 46 (Gw a0) R):an Tryz.prog 66 [a0] [] R :=
 uQ (af (bz ha0) aA) (oQ [] Tryz.f66 h)
def JX(a0:AV)(a1:AV):Tree :=
 .call 86 [.agg [a0,.v (.pointer none)]] [] fun r1 o1=>NT r1<|.al ((r1.comp 0)=.agg (r1.comp 0).cs/\(r1.comp 0).cs.length=2/\bu [.ptr,.ptr] ((r1.comp 0).cs) 0)<|NP (r1.comp 1)<|NZ a1<|NZ a1<|dQ (a1.deref.drop 2)<|.call 87 [.agg [((r1.comp 0).cs.getD 0 .any),((r1.comp 0).cs.getD 1 .any)],((a1.deref.drop 2).hA),.agg [VS (mk []),(r1.comp 1)]] [] fun r2 o2=>NL r2<|.done 0 [r2] []
theorem Py(a0:AV)(a1:AV)(ha0:LK.has .ptr a0)(ha1:LK.has .ptr a1)(h:dm 21 (JX a0 a1) R):an Tryz.prog 68 [a0,a1] [] R :=
 uQ (af (bz ha0) (af (bz ha1) aA)) (oQ [] Tryz.f68 h)
def HZ(a0:ByteArray)(a1:ByteArray):Tree :=
 .call 88 [VS a0] [] fun r1 o1=>NT r1<|.al ((r1.comp 0)=.agg (r1.comp 0).cs/\(r1.comp 0).cs.length=2/\bu [.str,.sl] ((r1.comp 0).cs) 0)<|NB (r1.comp 1)<|.call 89 [VS a1] [] fun r2 o2=>NT r2<|.al ((r2.comp 0)=.agg (r2.comp 0).cs/\(r2.comp 0).cs.length=2/\bu [.str,.sl] ((r2.comp 0).cs) 0)<|NB (r2.comp 1)<|.test (!((r1.comp 1).toBool)) (.done 0 [.cv [.sl [],VB false]] []) (.call 90 [VS a0,VS a1,VI 100] [] fun r3 o3=>NB r3<|.test (!r3.toBool) (.done 0 [.cv [.sl [],VB false]] []) (NG ((r1.comp 0).cs.getD 1 .any) 2 2<|NE (((r1.comp 0).cs.getD 1 .any).ix (2:Int))<|NG ((r1.comp 0).cs.getD 1 .any) 1 2<|l9 (((r1.comp 0).cs.getD 1 .any).ix (1:Int))<|NG ((r2.comp 0).cs.getD 1 .any) 1 2<|NE (((r2.comp 0).cs.getD 1 .any).ix (1:Int))<|.call 92 [.agg [VS (((((r1.comp 0).cs.getD 1 .any).ix (2:Int)).getD 0 .any).ai),((((r1.comp 0).cs.getD 1 .any).ix (2:Int)).getD 1 .any)],VS (((((r1.comp 0).cs.getD 1 .any).ix (1:Int)).hA).ai),.agg [VS (((((r2.comp 0).cs.getD 1 .any).ix (1:Int)).getD 0 .any).ai),((((r2.comp 0).cs.getD 1 .any).ix (1:Int)).getD 1 .any)]] [] fun r4 o4=>NL r4<|.call 91 [r4] [] fun r5 o5=>NL r5<|.done 0 [.cv [r5,VB true]] []))
theorem Om(a0:ByteArray)(a1:ByteArray)(h:dm 44 (HZ a0 a1) R):an Tryz.prog 69 [VS a0,VS a1] [] R :=
 uQ (af (au _) (af (au _) aA)) (oQ [] Tryz.f69 h)
def EK:LI:={hd:={refs:=[(1,1),(2,2)],ck:=[(1,[.lk .str,.lk .sl,.lk .str]),(2,[.lk .str,.lk .sl,.lk .str])]},xs:={refs:=[(1,1),(2,2)],ck:=[(1,[.lk .str,.lk .sl,.lk .str]),(2,[.lk .str,.lk .sl,.lk .str])]},rt:={bJ:=[(3,.k .bool)],refs:=[(2,2)],ck:=[(2,[.lk .str,.lk .sl,.lk .str])]},ex:=0}
def I1:Code:=cB (cy Tryz.f70) 1
def Ju:List (Nat×LI):=[(1,EK)]
def Iv(a0_0:ByteArray)(a0_1:AV)(a0_2:ByteArray):Tree :=
 .loop I1 EK [] [.cells [VS a0_0,a0_1,VS a0_2],.cells [VS (mk []),.v (.slice none 0 0),VS (mk [])]] (fun y2 q2=>.al ((q2.hO)=.cells (q2.hO).cs)<|.al (ac [.lk .str,.lk .sl,.lk .str] ((q2.hO).cs) 0 q2.tail)<|.al (((q2.tail.drop 0).hO)=.cells ((q2.tail.drop 0).hO).cs)<|.al (ac [.lk .str,.lk .sl,.lk .str] (((q2.tail.drop 0).hO).cs) 0 ((q2.tail.drop 0).tail))<|.done 0 [.cv [.agg [VS (((q2.hO).cs.getD 0 .any).ai),((q2.hO).cs.getD 1 .any),VS (((q2.hO).cs.getD 2 .any).ai)],VB true]] []) (fun y2 q2=>NB (y2.hA)<|.al ((q2.hO)=.cells (q2.hO).cs)<|.al (ac [.lk .str,.lk .sl,.lk .str] ((q2.hO).cs) 0 q2.tail)<|.done 0 [.cv [.agg [VS (((q2.hO).cs.getD 0 .any).ai),((q2.hO).cs.getD 1 .any),VS (((q2.hO).cs.getD 2 .any).ai)],VB ((y2.hA).toBool)]] [])
theorem PJ(a0_0:ByteArray)(a0_1:AV)(a0_2:ByteArray)(ha0_1:LK.has .sl a0_1)(h:dm 20 (Iv a0_0 a0_1 a0_2) R):an Tryz.prog 70 [.agg [VS a0_0,a0_1,VS a0_2]] [] R :=
 uQ (af (bP (af (au _) (af (bU ha0_1) (af (au _) aA)))) aA) (oQ Ju Tryz.f70 h)
def ET(o1_0:ByteArray)(o1_1:AV)(o1_2:ByteArray)(o2_0:ByteArray)(o2_1:AV)(o2_2:ByteArray):Tree :=
 .al (Ob.cells [VS o1_0,o1_1,VS o1_2]=.cells [VS o1_0,o1_1,VS o1_2])<|.al (ac [.lk .str,.lk .sl,.lk .str] [VS o1_0,o1_1,VS o1_2] 0 [.cells [VS o2_0,o2_1,VS o2_2]])<|.al (Ob.cells [VS o2_0,o2_1,VS o2_2]=.cells [VS o2_0,o2_1,VS o2_2])<|.al (ac [.lk .str,.lk .sl,.lk .str] [VS o2_0,o2_1,VS o2_2] 0 [])<|NL o1_1<|.test (decide ((o1_1.aS.length:Int)>(0:Int))) (.call 43 [.agg [VS o1_0,o1_1,VS o1_2]] [] fun r1 o1=>NT r1<|.al ((r1.comp 0)=.agg (r1.comp 0).cs/\(r1.comp 0).cs.length=3/\bu [.str,.sl,.str] ((r1.comp 0).cs) 0)<|NB (r1.comp 1)<|.test (!((r1.comp 1).toBool)) (.done 2 [VB false] [.cells [VS o1_0,o1_1,VS o1_2]]) (.done 0 [] [.cells [VS (((r1.comp 0).cs.getD 0 .any).ai),((r1.comp 0).cs.getD 1 .any),VS (((r1.comp 0).cs.getD 2 .any).ai)],.cells [VS o2_0,o2_1,VS o2_2]])) (.done 1 [] [.cells [VS o1_0,o1_1,VS o1_2],.cells [VS o2_0,o2_1,VS o2_2]])
abbrev Hh:=cx Tryz.prog 20 I1 EK
theorem Ky(o1_0:ByteArray)(o1_1:AV)(o1_2:ByteArray)(o2_0:ByteArray)(o2_1:AV)(o2_2:ByteArray)(h:jV 20 (ET o1_0 o1_1 o1_2 o2_0 o2_1 o2_2) Hh U):Hh [] [.cells [VS o1_0,o1_1,VS o1_2],.cells [VS o2_0,o2_1,VS o2_2]] U :=
 gQ Ju h
def Kd(a0:ByteArray)(a1:ByteArray)(a2:Int):Tree :=
 .call 93 [VS a0] [] fun r1 o1=>NP r1<|.call 94 [VS a1] [] fun r2 o2=>NP r2<|NP r1<|.test r1.isNil (.done 0 [.cv [r1,.v (.pointer none)]] []) (NP r2<|.test r2.isNil (.done 0 [.cv [r1,.v (.pointer none)]] []) (.test (decide (a2<(0:Int))) (.done 0 [.cv [r1,.v (.pointer none)]] []) (.test (decide (a2>(100:Int))) (.done 0 [.cv [r1,.v (.pointer none)]] []) (.call 95 [.agg [r1,.v (.pointer none)],r2,VI a2] [] fun r3 o3=>NB r3<|.test (!r3.toBool) (.done 0 [.cv [r1,.v (.pointer none)]] []) (.done 0 [.cv [r1,r2]] [])))))
theorem PD(a0:ByteArray)(a1:ByteArray)(a2:Int)(h:dm 39 (Kd a0 a1 a2) R):an Tryz.prog 71 [VS a0,VS a1,VI a2] [] R :=
 uQ (af (au _) (af (au _) (af (au _) aA))) (oQ [] Tryz.f71 h)
def FK:LI:={hd:={bJ:=[(3,.k .str),(7,.k (.int .i64))],refs:=[(1,1)],ck:=[(1,[.lk .str,.lk .sl,.lk .str])]},xs:={},rt:={bJ:=[(2,.k .bool)]},ex:=0}
def KD:Code:=cB (cy Tryz.f72) 6
def LM:List (Nat×LI):=[(6,FK)]
def Ku(a0_0:ByteArray)(a0_1:AV)(a0_2:ByteArray):Tree :=
 .call 96 [VS a0_0] [] fun r1 o1=>NT r1<|NS (r1.comp 0)<|NB (r1.comp 1)<|.call 88 [VS a0_0] [] fun r2 o2=>NT r2<|.al ((r2.comp 0)=.agg (r2.comp 0).cs/\(r2.comp 0).cs.length=2/\bu [.str,.sl] ((r2.comp 0).cs) 0)<|NB (r2.comp 1)<|.test (!((r1.comp 1).toBool)) (.done 0 [VB false] []) (.test (!((r2.comp 1).toBool)) (.done 0 [VB false] []) (NL a0_1<|.test (decide ((a0_1.aS.length:Int)>(50:Int))) (.done 0 [VB false] []) (.call 90 [VS a0_0,VS a0_2,VI 100] [] fun r3 o3=>NB r3<|.test (!r3.toBool) (.done 0 [VB false] []) (.loop KD FK [VS ((r1.comp 0).ai),VI 0] [.cells [VS a0_0,a0_1,VS a0_2]] (fun y5 q5=>.done 0 [VB true] []) (fun y5 q5=>NB (y5.hA)<|.done 0 [VB ((y5.hA).toBool)] [])))))
theorem OL(a0_0:ByteArray)(a0_1:AV)(a0_2:ByteArray)(ha0_1:LK.has .sl a0_1)(h:dm 55 (Ku a0_0 a0_1 a0_2) R):an Tryz.prog 72 [.agg [VS a0_0,a0_1,VS a0_2]] [] R :=
 uQ (af (bP (af (au _) (af (bU ha0_1) (af (au _) aA)))) aA) (oQ LM Tryz.f72 h)
def Gd(x3:ByteArray)(x7:Int)(o1_0:ByteArray)(o1_1:AV)(o1_2:ByteArray):Tree :=
 NS (VS x3)<|NI (VI x7)<|.al (Ob.cells [VS o1_0,o1_1,VS o1_2]=.cells [VS o1_0,o1_1,VS o1_2])<|.al (ac [.lk .str,.lk .sl,.lk .str] [VS o1_0,o1_1,VS o1_2] 0 [])<|NL o1_1<|.test (decide (x7<(o1_1.aS.length:Int))) (NG o1_1 x7 1<|l9 (o1_1.ix x7)<|.call 90 [VS x3,VS (((o1_1.ix x7).hA).ai),VI 100] [] fun r1 o1=>NB r1<|.test (!r1.toBool) (.done 2 [VB false] []) (.done 0 [VS x3,VI (IntKind.wrap .i64 (x7+1))] [.cells [VS o1_0,o1_1,VS o1_2]])) (.done 1 [] [])
abbrev G7:=cx Tryz.prog 55 KD FK
theorem MU(x3:ByteArray)(x7:Int)(o1_0:ByteArray)(o1_1:AV)(o1_2:ByteArray)(h:jV 55 (Gd x3 x7 o1_0 o1_1 o1_2) G7 U):G7 [VS x3,VI x7] [.cells [VS o1_0,o1_1,VS o1_2]] U :=
 gQ LM h
def Me(a0:ByteArray)(a1:ByteArray)(a2:ByteArray):Tree :=
 .call 88 [VS a0] [] fun r1 o1=>NT r1<|.al ((r1.comp 0)=.agg (r1.comp 0).cs/\(r1.comp 0).cs.length=2/\bu [.str,.sl] ((r1.comp 0).cs) 0)<|NB (r1.comp 1)<|.call 96 [VS a0] [] fun r2 o2=>NT r2<|NS (r2.comp 0)<|NB (r2.comp 1)<|.test (!((r1.comp 1).toBool)) (.done 0 [.cv [VS (mk []),VB false]] []) (.test (!((r2.comp 1).toBool)) (.done 0 [.cv [VS (mk []),VB false]] []) (.call 90 [VS ((r2.comp 0).ai),VS a1,VI 100] [] fun r3 o3=>NB r3<|.test (!r3.toBool) (.done 0 [.cv [VS (mk []),VB false]] []) (.call 90 [VS a0,VS a2,VI 100] [] fun r4 o4=>NB r4<|.test (!r4.toBool) (.done 0 [.cv [VS (mk []),VB false]] []) (.call 89 [VS a1] [] fun r5 o5=>NT r5<|.al ((r5.comp 0)=.agg (r5.comp 0).cs/\(r5.comp 0).cs.length=2/\bu [.str,.sl] ((r5.comp 0).cs) 0)<|NB (r5.comp 1)<|.call 89 [VS a2] [] fun r6 o6=>NT r6<|.al ((r6.comp 0)=.agg (r6.comp 0).cs/\(r6.comp 0).cs.length=2/\bu [.str,.sl] ((r6.comp 0).cs) 0)<|NB (r6.comp 1)<|NG ((r1.comp 0).cs.getD 1 .any) 2 2<|NE (((r1.comp 0).cs.getD 1 .any).ix (2:Int))<|NG ((r1.comp 0).cs.getD 1 .any) 1 2<|l9 (((r1.comp 0).cs.getD 1 .any).ix (1:Int))<|.call 99 [.agg [VS (((((r1.comp 0).cs.getD 1 .any).ix (2:Int)).getD 0 .any).ai),((((r1.comp 0).cs.getD 1 .any).ix (2:Int)).getD 1 .any)],VS (((((r1.comp 0).cs.getD 1 .any).ix (1:Int)).hA).ai),.agg [VS (((r5.comp 0).cs.getD 0 .any).ai),((r5.comp 0).cs.getD 1 .any)],.agg [VS (((r6.comp 0).cs.getD 0 .any).ai),((r6.comp 0).cs.getD 1 .any)]] [] fun r7 o7=>NA r7<|.call 98 [VS (mk [102]),.sl [[VS ((r7.cs.getD 0 .any).ai),(r7.cs.getD 1 .any)]]] [] fun r8 o8=>NA r8<|.call 97 [.agg [VS ((r8.cs.getD 0 .any).ai),(r8.cs.getD 1 .any)]] [] fun r9 o9=>NS r9<|.call 90 [VS a0,VS r9.ai,VI 100] [] fun r10 o10=>NB r10<|.test (!r10.toBool) (.done 0 [.cv [VS (mk []),VB false]] []) (.done 0 [.cv [VS r9.ai,VB true]] [])))))
theorem Oi(a0:ByteArray)(a1:ByteArray)(a2:ByteArray)(h:dm 75 (Me a0 a1 a2) R):an Tryz.prog 73 [VS a0,VS a1,VS a2] [] R :=
 uQ (af (au _) (af (au _) (af (au _) aA))) (oQ [] Tryz.f73 h)
def Kl(a0:AV)(a1:AV)(a2:AV):Tree :=
 .call 86 [.agg [a0,.v (.pointer none)]] [] fun r1 o1=>NT r1<|.al ((r1.comp 0)=.agg (r1.comp 0).cs/\(r1.comp 0).cs.length=2/\bu [.ptr,.ptr] ((r1.comp 0).cs) 0)<|NP (r1.comp 1)<|.call 101 [.agg [((r1.comp 0).cs.getD 0 .any),((r1.comp 0).cs.getD 1 .any)],a1,.agg [VS (mk []),(r1.comp 1)],a2] [] fun r2 o2=>NP r2<|.call 100 [.v (.int .u8 102),r2] [] fun r3 o3=>NP r3<|.done 0 [r3] []
theorem Np(a0:AV)(a1:AV)(a2:AV)(ha0:LK.has .ptr a0)(ha1:LK.has .ptr a1)(ha2:LK.has .ptr a2)(h:dm 22 (Kl a0 a1 a2) R):an Tryz.prog 74 [a0,a1,a2] [] R :=
 uQ (af (bz ha0) (af (bz ha1) (af (bz ha2) aA))) (oQ [] Tryz.f74 h)
def wz(a0:AV):Tree :=
 NZ a0<|NZ a0<|dQ (a0.deref.drop 2)<|NP ((a0.deref.drop 2).hA)<|.test (!((a0.deref.drop 2).hA).isNil) (NZ a0<|NZ a0<|dQ (a0.deref.drop 2)<|.call 75 [((a0.deref.drop 2).hA)] [] fun r1 o1=>NI r1<|NZ a0<|NZ a0<|dQ (a0.deref.drop 3)<|NP ((a0.deref.drop 3).hA)<|.test (!((a0.deref.drop 3).hA).isNil) (NZ a0<|NZ a0<|dQ (a0.deref.drop 3)<|.call 75 [((a0.deref.drop 3).hA)] [] fun r2 o2=>NI r2<|.done 0 [VI (IntKind.wrap .i64 ((IntKind.wrap .i64 (1+r1.toInt))+r2.toInt))] []) (.done 0 [VI (IntKind.wrap .i64 (1+r1.toInt))] [])) (NZ a0<|NZ a0<|dQ (a0.deref.drop 3)<|NP ((a0.deref.drop 3).hA)<|.test (!((a0.deref.drop 3).hA).isNil) (NZ a0<|NZ a0<|dQ (a0.deref.drop 3)<|.call 75 [((a0.deref.drop 3).hA)] [] fun r3 o3=>NI r3<|.done 0 [VI (IntKind.wrap .i64 (1+r3.toInt))] []) (.done 0 [VI 1] []))
theorem yD(a0:AV)(ha0:LK.has .ptr a0)(h:dm 29 (wz a0) R):an Tryz.prog 75 [a0] [] R :=
 uQ (af (bz ha0) aA) (oQ [] Tryz.f75 h)
def DZ(a0:AV)(a1:ByteArray):Tree :=
 .al (LK.has .sl a0/\cw 1 a0.aS/\((([]:List (List AV)).length)+a0.aS.length)*16<=140737488355328)<|.al (cw 1 [[VS a1]]/\(((([]:List (List AV))++a0.aS).length)+([[VS a1]]:List (List AV)).length)*16<=140737488355328)<|.done 0 [.sl ((([]:List (List AV))++a0.aS)++([[VS a1]]:List (List AV)))] []
theorem KE(a0:AV)(a1:ByteArray)(ha0:LK.has .sl a0)(h:dm 11 (DZ a0 a1) R):an Tryz.prog 79 [a0,VS a1] [] R :=
 uQ (af (bU ha0) (af (au _) aA)) (oQ [] Tryz.f79 h)
def KL(a0:ByteArray)(a1:ByteArray):Tree :=
 .call 107 [VS a0] [] fun r1 o1=>NP r1<|NP r1<|.test r1.isNil (.done 0 [.cv [.v (.pointer none),.v (.pointer none)]] []) (.call 71 [VS a0,VS a1,VI 100] [] fun r2 o2=>NT r2<|NP (r2.comp 0)<|NP (r2.comp 1)<|.done 0 [.cv [(r2.comp 0),(r2.comp 1)]] [])
theorem Qc(a0:ByteArray)(a1:ByteArray)(h:dm 14 (KL a0 a1) R):an Tryz.prog 84 [VS a0,VS a1] [] R :=
 uQ (af (au _) (af (au _) aA)) (oQ [] Tryz.f84 h)
def Iz(a0:ByteArray):Tree :=
 .call 108 [VS a0] [] fun r1 o1=>NP r1<|NP r1<|.test r1.isNil (.done 0 [.cv [VS (mk []),VB false]] []) (NZ r1<|NZ r1<|.al (LK.has (.int .u8) (r1.deref.hA)/\1<=r1.deref.length)<|.test (((r1.deref.hA).toInt) != (114:Int)) (.done 0 [.cv [VS (mk []),VB false]] []) (.call 109 [r1] [] fun r2 o2=>NT r2<|NP (r2.comp 0)<|NB (r2.comp 1)<|.test (!((r2.comp 1).toBool)) (.done 0 [.cv [VS (mk []),VB false]] []) (.call 110 [(r2.comp 0)] [] fun r3 o3=>NT r3<|NS (r3.comp 0)<|NB (r3.comp 1)<|.done 0 [.cv [VS ((r3.comp 0).ai),VB ((r3.comp 1).toBool)]] [])))
theorem Pz(a0:ByteArray)(h:dm 29 (Iz a0) R):an Tryz.prog 85 [VS a0] [] R :=
 uQ (af (au _) aA) (oQ [] Tryz.f85 h)
def Ib(a0_0:AV)(a0_1:AV):Tree :=
 NZ a0_0<|NZ a0_0<|dQ (a0_0.deref.drop 3)<|.done 0 [.cv [.agg [((a0_0.deref.drop 3).hA),.ptr [.ptr [a0_0,a0_1],a0_1]],.ptr [a0_0,a0_1]]] []
theorem PO(a0_0:AV)(a0_1:AV)(ha0_0:LK.has .ptr a0_0)(ha0_1:LK.has .ptr a0_1)(h:dm 20 (Ib a0_0 a0_1) R):an Tryz.prog 86 [.agg [a0_0,a0_1]] [] R :=
 uQ (af (bP (af (bz ha0_0) (af (bz ha0_1) aA))) aA) (oQ [] Tryz.f86 h)
def Hg:LI:={hd:={bJ:=[(97,.k .sl),(98,.k (.int .i64)),(99,.k (.int .i64))],refs:=[(3,3),(5,5),(7,7)],ck:=[(3,[.lk .ptr,.lk .ptr]),(5,[.lk .str,.lk .ptr]),(7,[.vec 2])],Ay:=[(8,112,[7])]},xs:={refs:=[(7,7)],ck:=[(7,[.vec 2])]},rt:={},ex:=1}
def M4:Code:=cB (cy Tryz.f87) 18
def IQ:List (Nat×LI):=[(18,Hg)]
def Jw(a0_0:AV)(a0_1:AV)(a1:AV)(a2_0:ByteArray)(a2_1:AV):Tree :=
 .call 111 [.agg [VS a2_0,a2_1],.agg [a0_0,a0_1]] [] fun r1 o1=>NB r1<|.test r1.toBool (.done 0 [.sl [[.ptr [.v (.int .u8 117),VS (mk []),.v (.pointer none),.v (.pointer none)],a1]]] []) (NZ a0_0<|NZ a0_0<|.al (LK.has (.int .u8) (a0_0.deref.hA)/\1<=a0_0.deref.length)<|.test (((a0_0.deref.hA).toInt)==(43:Int)) (.call 113 [.agg [a0_0,a0_1]] [] fun r2 o2=>.al (r2=.agg r2.cs/\r2.cs.length=2/\bu [.ptr,.ptr] r2.cs 0)<|NZ a1<|NZ a1<|.al (LK.has (.int .u8) (a1.deref.hA)/\1<=a1.deref.length)<|.test (((a1.deref.hA).toInt)==(114:Int)) (.call 114 [.agg [a0_0,a0_1]] [] fun r3 o3=>.al (r3=.agg r3.cs/\r3.cs.length=2/\bu [.ptr,.ptr] r3.cs 0)<|NZ a1<|NZ a1<|dQ (a1.deref.drop 2)<|.call 87 [.agg [(r3.cs.getD 0 .any),(r3.cs.getD 1 .any)],((a1.deref.drop 2).hA),.agg [VS a2_0,a2_1]] [] fun r4 o4=>NL r4<|.call 112 [r4,.fn 115 [.ref 0 0],.ref 1 0] [.cells [a1],.cells [.vec 2],.vec 2 []] fun r5 o5=>.al ((o5.hO)=.cells (o5.hO).cs)<|.al (bo [.lk .ptr] ((o5.hO).cs) 0 1 o5.tail)<|.al ((o5.tail.hO)=.cells (o5.tail.hO).cs)<|.al (bo [.vec 2] ((o5.tail.hO).cs) 0 2 o5.tail.tail)<|.done 0 [.sl ((o5.tail.tail.hO).es)] []) (NZ a1<|NZ a1<|dQ (a1.deref.drop 2)<|.call 87 [.agg [(r2.cs.getD 0 .any),(r2.cs.getD 1 .any)],((a1.deref.drop 2).hA),.agg [VS a2_0,a2_1]] [] fun r6 o6=>NL r6<|.call 112 [r6,.fn 115 [.ref 0 0],.ref 1 0] [.cells [a1],.cells [.vec 2],.vec 2 []] fun r7 o7=>.al ((o7.hO)=.cells (o7.hO).cs)<|.al (bo [.lk .ptr] ((o7.hO).cs) 0 1 o7.tail)<|.al ((o7.tail.hO)=.cells (o7.tail.hO).cs)<|.al (bo [.vec 2] ((o7.tail.hO).cs) 0 2 o7.tail.tail)<|.done 0 [.sl ((o7.tail.tail.hO).es)] [])) (.test (((a0_0.deref.hA).toInt)==(42:Int)) (.call 113 [.agg [a0_0,a0_1]] [] fun r8 o8=>.al (r8=.agg r8.cs/\r8.cs.length=2/\bu [.ptr,.ptr] r8.cs 0)<|NZ a1<|NZ a1<|dQ (a1.deref.drop 2)<|.call 87 [.agg [(r8.cs.getD 0 .any),(r8.cs.getD 1 .any)],((a1.deref.drop 2).hA),.agg [VS a2_0,a2_1]] [] fun r9 o9=>NL r9<|.call 112 [r9,.fn 116 [.ref 0 0],.ref 1 0] [.cells [a1],.cells [.vec 2],.vec 2 []] fun r10 o10=>.al ((o10.hO)=.cells (o10.hO).cs)<|.al (bo [.lk .ptr] ((o10.hO).cs) 0 1 o10.tail)<|.al ((o10.tail.hO)=.cells (o10.tail.hO).cs)<|.al (bo [.vec 2] ((o10.tail.hO).cs) 0 2 o10.tail.tail)<|.call 114 [.agg [a0_0,a0_1]] [] fun r11 o11=>.al (r11=.agg r11.cs/\r11.cs.length=2/\bu [.ptr,.ptr] r11.cs 0)<|NZ ((o10.hO).cs.getD 0 .any)<|NZ ((o10.hO).cs.getD 0 .any)<|dQ (((o10.hO).cs.getD 0 .any).deref.drop 3)<|.call 87 [.agg [(r11.cs.getD 0 .any),(r11.cs.getD 1 .any)],((((o10.hO).cs.getD 0 .any).deref.drop 3).hA),.agg [VS a2_0,a2_1]] [] fun r12 o12=>NL r12<|.call 112 [r12,.fn 118 [.ref 0 0],.ref 1 0] [.cells [((o10.hO).cs.getD 0 .any)],.cells [.vec 2],.vec 2 ((o10.tail.tail.hO).es)] fun r13 o13=>.al ((o13.hO)=.cells (o13.hO).cs)<|.al (bo [.lk .ptr] ((o13.hO).cs) 0 1 o13.tail)<|.al ((o13.tail.hO)=.cells (o13.tail.hO).cs)<|.al (bo [.vec 2] ((o13.tail.hO).cs) 0 2 o13.tail.tail)<|.done 0 [.sl ((o13.tail.tail.hO).es)] []) (.test (((a0_0.deref.hA).toInt)==(114:Int)) (.call 86 [.agg [a0_0,a0_1]] [] fun r14 o14=>NT r14<|.al ((r14.comp 0)=.agg (r14.comp 0).cs/\(r14.comp 0).cs.length=2/\bu [.ptr,.ptr] ((r14.comp 0).cs) 0)<|NP (r14.comp 1)<|NZ a1<|NZ a1<|dQ (a1.deref.drop 2)<|.call 87 [.agg [((r14.comp 0).cs.getD 0 .any),((r14.comp 0).cs.getD 1 .any)],((a1.deref.drop 2).hA),.agg [VS a2_0,a2_1]] [] fun r15 o15=>NL r15<|.call 112 [r15,.v (.func (.func 119) #[] #[]),.ref 0 0] [.cells [.vec 1],.vec 2 []] fun r16 o16=>.al ((o16.hO)=.cells (o16.hO).cs)<|.al (bo [.vec 2] ((o16.hO).cs) 0 1 o16.tail)<|NZ a1<|NZ a1<|dQ (a1.deref.drop 2)<|.call 87 [.agg [((r14.comp 0).cs.getD 0 .any),((r14.comp 0).cs.getD 1 .any)],((a1.deref.drop 2).hA),.agg [VS (mk []),(r14.comp 1)]] [] fun r17 o17=>NL r17<|NL r17<|.loop M4 Hg [r17,VI (r17.aS.length:Int),VI 0] [.cells [a0_0,a0_1],.cells [VS a2_0,a2_1],.cells [.any],.vec 2 ((o16.tail.hO).es)] (fun y20 q20=>.al ((q20.hO)=.cells (q20.hO).cs)<|.al (ac [.vec 2] ((q20.hO).cs) 0 q20.tail)<|.done 0 [.sl ((q20.tail.hO).es)] []) (fun y20 q20=>.done 0 [.any] [])) (.done 0 [.sl []] []))))
theorem QK(a0_0:AV)(a0_1:AV)(a1:AV)(a2_0:ByteArray)(a2_1:AV)(ha0_0:LK.has .ptr a0_0)(ha0_1:LK.has .ptr a0_1)(ha1:LK.has .ptr a1)(ha2_1:LK.has .ptr a2_1)(h:dm 113 (Jw a0_0 a0_1 a1 a2_0 a2_1) R):an Tryz.prog 87 [.agg [a0_0,a0_1],a1,.agg [VS a2_0,a2_1]] [] R :=
 uQ (af (bP (af (bz ha0_0) (af (bz ha0_1) aA))) (af (bz ha1) (af (bP (af (au _) (af (bz ha2_1) aA))) aA))) (oQ IQ Tryz.f87 h)
def Gi(x97:AV)(x98:Int)(x99:Int)(o3_0:AV)(o3_1:AV)(o5_0:ByteArray)(o5_1:AV)(o7_0:List (List AV)):Tree :=
 NL x97<|NI (VI x98)<|NI (VI x99)<|.al (Ob.cells [o3_0,o3_1]=.cells [o3_0,o3_1])<|.al (ac [.lk .ptr,.lk .ptr] [o3_0,o3_1] 0 [.cells [VS o5_0,o5_1],.cells [.any],.vec 2 o7_0])<|.al (Ob.cells [VS o5_0,o5_1]=.cells [VS o5_0,o5_1])<|.al (ac [.lk .str,.lk .ptr] [VS o5_0,o5_1] 0 [.cells [.any],.vec 2 o7_0])<|.al (Ob.cells [.any]=.cells [.any])<|.al (ac [.vec 2] [.any] 0 [.vec 2 o7_0])<|.test (decide (x99<x98)) (NG x97 x99 2<|.al (bu [.ptr,.ptr] (x97.ix x99) 0/\2<=(x97.ix x99).length)<|.call 87 [.agg [o3_0,o3_1],((x97.ix x99).getD 1 .any),.agg [VS o5_0,o5_1]] [] fun r1 o1=>NL r1<|.call 112 [r1,.fn 120 [.ref 0 0],.ref 1 0] [.cells [((x97.ix x99).getD 0 .any),((x97.ix x99).getD 1 .any)],.cells [.vec 2],.vec 2 o7_0] fun r2 o2=>.al ((o2.hO)=.cells (o2.hO).cs)<|.al (bo [.lk .ptr,.lk .ptr] ((o2.hO).cs) 0 1 o2.tail)<|.al ((o2.tail.hO)=.cells (o2.tail.hO).cs)<|.al (bo [.vec 2] ((o2.tail.hO).cs) 0 2 o2.tail.tail)<|.done 0 [x97,VI x98,VI (IntKind.wrap .i64 (x99+1))] [.cells [o3_0,o3_1],.cells [VS o5_0,o5_1],.cells [.any],.vec 2 ((o2.tail.tail.hO).es)]) (.done 1 [] [.cells [.any],.vec 2 o7_0])
abbrev Hj:=cx Tryz.prog 113 M4 Hg
theorem Mt(x97:AV)(x98:Int)(x99:Int)(o3_0:AV)(o3_1:AV)(o5_0:ByteArray)(o5_1:AV)(o7_0:List (List AV))(h:jV 113 (Gi x97 x98 x99 o3_0 o3_1 o5_0 o5_1 o7_0) Hj U):Hj [x97,VI x98,VI x99] [.cells [o3_0,o3_1],.cells [VS o5_0,o5_1],.cells [.any],.vec 2 o7_0] U :=
 gQ IQ h
def Jj(a0:ByteArray):Tree :=
 .call 104 [VS a0] [] fun r1 o1=>NT r1<|.al ((r1.comp 0)=.agg (r1.comp 0).cs/\(r1.comp 0).cs.length=2/\bu [.str,.sl] ((r1.comp 0).cs) 0)<|NB (r1.comp 1)<|.test ((r1.comp 1).toBool) (.call 121 [.agg [VS (((r1.comp 0).cs.getD 0 .any).ai),((r1.comp 0).cs.getD 1 .any)]] [] fun r2 o2=>NS r2<|.done 0 [.cv [.agg [VS (((r1.comp 0).cs.getD 0 .any).ai),((r1.comp 0).cs.getD 1 .any)],VB (ae r2.ai==ae (mk [114,101,99]))]] []) (.done 0 [.cv [.agg [VS (((r1.comp 0).cs.getD 0 .any).ai),((r1.comp 0).cs.getD 1 .any)],VB false]] [])
theorem PZ(a0:ByteArray)(h:dm 18 (Jj a0) R):an Tryz.prog 88 [VS a0] [] R :=
 uQ (af (au _) aA) (oQ [] Tryz.f88 h)
def HB(a0:ByteArray):Tree :=
 .call 122 [VS a0] [] fun r1 o1=>NT r1<|.al ((r1.comp 0)=.agg (r1.comp 0).cs/\(r1.comp 0).cs.length=2/\bu [.str,.sl] ((r1.comp 0).cs) 0)<|NB (r1.comp 1)<|.test ((r1.comp 1).toBool) (.call 123 [.agg [VS (((r1.comp 0).cs.getD 0 .any).ai),((r1.comp 0).cs.getD 1 .any)]] [] fun r2 o2=>NB r2<|.test r2.toBool (.call 124 [.agg [VS (((r1.comp 0).cs.getD 0 .any).ai),((r1.comp 0).cs.getD 1 .any)]] [] fun r3 o3=>NI r3<|.done 0 [.cv [.agg [VS (((r1.comp 0).cs.getD 0 .any).ai),((r1.comp 0).cs.getD 1 .any)],VB (decide (r3.toInt<=(200:Int)))]] []) (.done 0 [.cv [.agg [VS (((r1.comp 0).cs.getD 0 .any).ai),((r1.comp 0).cs.getD 1 .any)],VB false]] [])) (.done 0 [.cv [.agg [VS (((r1.comp 0).cs.getD 0 .any).ai),((r1.comp 0).cs.getD 1 .any)],VB false]] [])
theorem NQ(a0:ByteArray)(h:dm 22 (HB a0) R):an Tryz.prog 89 [VS a0] [] R :=
 uQ (af (au _) aA) (oQ [] Tryz.f89 h)
def JY(a0:ByteArray)(a1:ByteArray)(a2:Int):Tree :=
 .call 104 [VS a0] [] fun r1 o1=>NT r1<|.al ((r1.comp 0)=.agg (r1.comp 0).cs/\(r1.comp 0).cs.length=2/\bu [.str,.sl] ((r1.comp 0).cs) 0)<|NB (r1.comp 1)<|.call 89 [VS a1] [] fun r2 o2=>NT r2<|.al ((r2.comp 0)=.agg (r2.comp 0).cs/\(r2.comp 0).cs.length=2/\bu [.str,.sl] ((r2.comp 0).cs) 0)<|NB (r2.comp 1)<|.test ((r1.comp 1).toBool) (.test ((r2.comp 1).toBool) (.call 56 [VI a2,VI 0,VI 100] [] fun r3 o3=>NB r3<|.test r3.toBool (.call 125 [.agg [VS (((r1.comp 0).cs.getD 0 .any).ai),((r1.comp 0).cs.getD 1 .any)],.sl [],.agg [VS (((r2.comp 0).cs.getD 0 .any).ai),((r2.comp 0).cs.getD 1 .any)],VI a2] [] fun r4 o4=>NB r4<|.done 0 [VB r4.toBool] []) (.done 0 [VB false] [])) (.done 0 [VB false] [])) (.done 0 [VB false] [])
theorem Pw(a0:ByteArray)(a1:ByteArray)(a2:Int)(h:dm 36 (JY a0 a1 a2) R):an Tryz.prog 90 [VS a0,VS a1,VI a2] [] R :=
 uQ (af (au _) (af (au _) (af (au _) aA))) (oQ [] Tryz.f90 h)
def EV:LI:={hd:={bJ:=[(0,.k .sl),(4,.k (.int .i64))],eE:=[(3,2)]},xs:={eE:=[(3,2)]},rt:={},ex:=0}
def MW:Code:=cB (cy Tryz.f91) 3
def KM:List (Nat×LI):=[(3,EV)]
def K5(a0:AV):Tree :=
 .loop MW EV [a0,VI 0] [.vec 2 []] (fun y3 q3=>.al (((q3.drop 0).hO)=.vec 2 ((q3.drop 0).hO).es)<|.done 0 [.sl ((q3.hO).es)] []) (fun y3 q3=>.done 0 [.any] [])
theorem Qp(a0:AV)(ha0:LK.has .sl a0)(h:dm 29 (K5 a0) R):an Tryz.prog 91 [a0] [] R :=
 uQ (af (bU ha0) aA) (oQ KM Tryz.f91 h)
def GC(x0:AV)(x4:Int)(e3:List (List AV)):Tree :=
 NL x0<|NI (VI x4)<|.al (Ob.vec 2 e3=.vec 2 e3)<|NL x0<|.test (decide (x4<(x0.aS.length:Int))) (NG x0 x4 4<|NE (x0.ix x4)<|.call 97 [.agg [VS (((x0.ix x4).getD 0 .any).ai),((x0.ix x4).getD 1 .any)]] [] fun r1 o1=>NS r1<|NG x0 x4 4<|NE ((x0.ix x4).drop 2)<|.call 97 [.agg [VS ((((x0.ix x4).drop 2).getD 0 .any).ai),(((x0.ix x4).drop 2).getD 1 .any)]] [] fun r2 o2=>NS r2<|.al (cw 2 [[VS r1.ai,VS r2.ai]]/\((e3.length)+([[VS r1.ai,VS r2.ai]]:List (List AV)).length)*32<=140737488355328)<|.done 0 [x0,VI (IntKind.wrap .i64 (x4+1))] [.vec 2 (e3++([[VS r1.ai,VS r2.ai]]:List (List AV)))]) (.done 1 [] [.vec 2 e3])
abbrev FY:=cx Tryz.prog 29 MW EV
theorem IY(x0:AV)(x4:Int)(e3:List (List AV))(h:jV 29 (GC x0 x4 e3) FY U):FY [x0,VI x4] [.vec 2 e3] U :=
 gQ KM h
def EE:LI:={hd:={bJ:=[(1,.k .str),(8,.k .sl),(9,.k (.int .i64))],refs:=[(3,3),(5,5)],ck:=[(3,[.lk .str,.lk .sl]),(5,[.lk .str,.lk .sl])],eE:=[(7,4)]},xs:={bJ:=[(1,.k .str)],refs:=[(3,3),(5,5)],ck:=[(3,[.lk .str,.lk .sl]),(5,[.lk .str,.lk .sl])],eE:=[(7,4)]},rt:={},ex:=1}
def I3:Code:=cB (cy Tryz.f92) 14
def Gl:LI:={hd:={bJ:=[(10,.k .sl),(11,.k (.int .i64))],refs:=[(5,5)],ck:=[(5,[.lk .str,.lk .sl])],eE:=[(7,4)]},xs:={eE:=[(7,4)]},rt:={},ex:=3}
def HK:Code:=cB (cy Tryz.f92) 19
def Gt:LI:={hd:={bJ:=[(1,.k .str),(12,.k .str),(13,.k .sl),(14,.k (.int .i64))],refs:=[(3,3),(5,5)],ck:=[(3,[.lk .str,.lk .sl]),(5,[.lk .str,.lk .sl])],eE:=[(7,4)]},xs:={bJ:=[(1,.k .str),(12,.k .str)],refs:=[(3,3),(5,5)],ck:=[(3,[.lk .str,.lk .sl]),(5,[.lk .str,.lk .sl])],eE:=[(7,4)]},rt:={},ex:=5}
def L7:Code:=cB (cy Tryz.f92) 28
def Ew:LI:={hd:={bJ:=[(1,.k .str),(15,.k .sl),(16,.k (.int .i64))],refs:=[(3,3)],ck:=[(3,[.lk .str,.lk .sl])],eE:=[(7,4)]},xs:={eE:=[(7,4)]},rt:={},ex:=7}
def IE:Code:=cB (cy Tryz.f92) 33
def GW:LI:={hd:={bJ:=[(1,.k .str),(15,.k .sl),(16,.k (.int .i64)),(17,.k .sl),(18,.k (.int .i64))],refs:=[(3,3)],ck:=[(3,[.lk .str,.lk .sl])],eE:=[(7,4)]},xs:={bJ:=[(1,.k .str),(15,.k .sl),(16,.k (.int .i64))],refs:=[(3,3)],ck:=[(3,[.lk .str,.lk .sl])],eE:=[(7,4)]},rt:={},ex:=9}
def I2:Code:=cB (cy Tryz.f92) 37
def yo:List (Nat×LI):=[(14,EE),(19,Gl),(28,Gt),(33,Ew),(37,GW)]
def Fl(a0_0:ByteArray)(a0_1:AV)(a1:ByteArray)(a2_0:ByteArray)(a2_1:AV):Tree :=
 .test (!(ae a0_0==ae (mk []))) (.test (ae a0_0==ae a1) (.al (cw 4 [[VS (mk [117]),.v (.slice none 0 0),VS a2_0,a2_1]]/\((([]:List (List AV)).length)+([[VS (mk [117]),.v (.slice none 0 0),VS a2_0,a2_1]]:List (List AV)).length)*80<=140737488355328)<|.done 0 [.sl [[VS (mk [117]),.v (.slice none 0 0),VS a2_0,a2_1]]] []) (.done 0 [.sl []] [])) (.call 121 [.agg [VS a2_0,a2_1]] [] fun r1 o1=>NS r1<|.test (ae r1.ai==ae (mk [108])) (NG a0_1 1 2<|NE (a0_1.ix (1:Int))<|NG a2_1 1 2<|NE (a2_1.ix (1:Int))<|.call 92 [.agg [VS (((a0_1.ix (1:Int)).getD 0 .any).ai),((a0_1.ix (1:Int)).getD 1 .any)],VS a1,.agg [VS (((a2_1.ix (1:Int)).getD 0 .any).ai),((a2_1.ix (1:Int)).getD 1 .any)]] [] fun r2 o2=>NL r2<|.call 126 [r2,VS (mk [108]),.vec 0] [.vec 4 []] fun r3 o3=>.al (r3=.vec 1/\(o3.tail.hO)=.vec 4 (o3.tail.hO).es)<|.done 0 [.sl ((o3.tail.hO).es)] []) (.test (ae r1.ai==ae (mk [114])) (NG a0_1 2 2<|NE (a0_1.ix (2:Int))<|NG a2_1 1 2<|NE (a2_1.ix (1:Int))<|.call 92 [.agg [VS (((a0_1.ix (2:Int)).getD 0 .any).ai),((a0_1.ix (2:Int)).getD 1 .any)],VS a1,.agg [VS (((a2_1.ix (1:Int)).getD 0 .any).ai),((a2_1.ix (1:Int)).getD 1 .any)]] [] fun r4 o4=>NL r4<|.call 126 [r4,VS (mk [114]),.vec 0] [.vec 4 []] fun r5 o5=>.al (r5=.vec 1/\(o5.tail.hO)=.vec 4 (o5.tail.hO).es)<|.done 0 [.sl ((o5.tail.hO).es)] []) (.test (ae r1.ai==ae (mk [112])) (NG a0_1 1 2<|NE (a0_1.ix (1:Int))<|NG a2_1 1 2<|NE (a2_1.ix (1:Int))<|.call 92 [.agg [VS (((a0_1.ix (1:Int)).getD 0 .any).ai),((a0_1.ix (1:Int)).getD 1 .any)],VS a1,.agg [VS (((a2_1.ix (1:Int)).getD 0 .any).ai),((a2_1.ix (1:Int)).getD 1 .any)]] [] fun r6 o6=>NL r6<|.loop I3 EE [VS a1,r6,VI 0] [.cells [VS a0_0,a0_1],.cells [VS a2_0,a2_1],.vec 4 []] (fun y9 q9=>NS (y9.hA)<|.al ((q9.hO)=.cells (q9.hO).cs)<|.al (ac [.lk .str,.lk .sl] ((q9.hO).cs) 0 q9.tail)<|.al (((q9.tail.drop 0).hO)=.cells ((q9.tail.drop 0).hO).cs)<|.al (ac [.lk .str,.lk .sl] (((q9.tail.drop 0).hO).cs) 0 ((q9.tail.drop 0).tail))<|.al (((q9.drop 2).hO)=.vec 4 ((q9.drop 2).hO).es)<|NG ((q9.hO).cs.getD 1 .any) 2 2<|NE (((q9.hO).cs.getD 1 .any).ix (2:Int))<|NG ((q9.tail.hO).cs.getD 1 .any) 2 2<|NE (((q9.tail.hO).cs.getD 1 .any).ix (2:Int))<|.call 92 [.agg [VS (((((q9.hO).cs.getD 1 .any).ix (2:Int)).getD 0 .any).ai),((((q9.hO).cs.getD 1 .any).ix (2:Int)).getD 1 .any)],VS ((y9.hA).ai),.agg [VS (((((q9.tail.hO).cs.getD 1 .any).ix (2:Int)).getD 0 .any).ai),((((q9.tail.hO).cs.getD 1 .any).ix (2:Int)).getD 1 .any)]] [] fun r10 o10=>NL r10<|.loop HK Gl [r10,VI 0] [.cells [VS (((q9.tail.hO).cs.getD 0 .any).ai),((q9.tail.hO).cs.getD 1 .any)],.vec 4 ((q9.tail.tail.hO).es)] (fun y13 q13=>.al (((q13.drop 0).hO)=.vec 4 ((q13.drop 0).hO).es)<|.done 0 [.sl ((q13.hO).es)] []) (fun y13 q13=>.done 0 [.any] [])) (fun y9 q9=>.done 0 [.any] [])) (NG a0_1 1 2<|l9 (a0_1.ix (1:Int))<|.test (ae (((a0_1.ix (1:Int)).hA).ai)==ae a1) (.done 0 [.sl []] []) (NG a0_1 2 2<|NE (a0_1.ix (2:Int))<|NG a2_1 1 2<|NE (a2_1.ix (1:Int))<|.call 92 [.agg [VS (((a0_1.ix (2:Int)).getD 0 .any).ai),((a0_1.ix (2:Int)).getD 1 .any)],VS a1,.agg [VS (((a2_1.ix (1:Int)).getD 0 .any).ai),((a2_1.ix (1:Int)).getD 1 .any)]] [] fun r14 o14=>NL r14<|.loop L7 Gt [VS a1,VS (((a0_1.ix (1:Int)).hA).ai),r14,VI 0] [.cells [VS a0_0,a0_1],.cells [VS a2_0,a2_1],.vec 4 []] (fun y17 q17=>NS (y17.hA)<|NS (y17.tail.hA)<|.al ((q17.hO)=.cells (q17.hO).cs)<|.al (ac [.lk .str,.lk .sl] ((q17.hO).cs) 0 q17.tail)<|.al (((q17.tail.drop 0).hO)=.cells ((q17.tail.drop 0).hO).cs)<|.al (ac [.lk .str,.lk .sl] (((q17.tail.drop 0).hO).cs) 0 ((q17.tail.drop 0).tail))<|.al (((q17.drop 2).hO)=.vec 4 ((q17.drop 2).hO).es)<|NG ((q17.hO).cs.getD 1 .any) 2 2<|NE (((q17.hO).cs.getD 1 .any).ix (2:Int))<|NG ((q17.tail.hO).cs.getD 1 .any) 1 2<|NE (((q17.tail.hO).cs.getD 1 .any).ix (1:Int))<|.call 92 [.agg [VS (((((q17.hO).cs.getD 1 .any).ix (2:Int)).getD 0 .any).ai),((((q17.hO).cs.getD 1 .any).ix (2:Int)).getD 1 .any)],VS ((y17.tail.hA).ai),.agg [VS (((((q17.tail.hO).cs.getD 1 .any).ix (1:Int)).getD 0 .any).ai),((((q17.tail.hO).cs.getD 1 .any).ix (1:Int)).getD 1 .any)]] [] fun r18 o18=>NL r18<|.loop IE Ew [VS ((y17.hA).ai),r18,VI 0] [.cells [VS (((q17.hO).cs.getD 0 .any).ai),((q17.hO).cs.getD 1 .any)],.vec 4 ((q17.tail.tail.hO).es)] (fun y24 q24=>.al (((q24.drop 0).hO)=.vec 4 ((q24.drop 0).hO).es)<|.done 0 [.sl ((q24.hO).es)] []) (fun y24 q24=>.done 0 [.any] [])) (fun y17 q17=>.done 0 [.any] []))))))
theorem O7(a0_0:ByteArray)(a0_1:AV)(a1:ByteArray)(a2_0:ByteArray)(a2_1:AV)(ha0_1:LK.has .sl a0_1)(ha2_1:LK.has .sl a2_1)(h:dm 244 (Fl a0_0 a0_1 a1 a2_0 a2_1) R):an Tryz.prog 92 [.agg [VS a0_0,a0_1],VS a1,.agg [VS a2_0,a2_1]] [] R :=
 uQ (af (bP (af (au _) (af (bU ha0_1) aA))) (af (au _) (af (bP (af (au _) (af (bU ha2_1) aA))) aA))) (oQ yo Tryz.f92 h)
def Hk(x1:ByteArray)(x8:AV)(x9:Int)(o3_0:ByteArray)(o3_1:AV)(o5_0:ByteArray)(o5_1:AV)(e7:List (List AV)):Tree :=
 NS (VS x1)<|NL x8<|NI (VI x9)<|.al (Ob.cells [VS o3_0,o3_1]=.cells [VS o3_0,o3_1])<|.al (ac [.lk .str,.lk .sl] [VS o3_0,o3_1] 0 [.cells [VS o5_0,o5_1],.vec 4 e7])<|.al (Ob.cells [VS o5_0,o5_1]=.cells [VS o5_0,o5_1])<|.al (ac [.lk .str,.lk .sl] [VS o5_0,o5_1] 0 [.vec 4 e7])<|.al (Ob.vec 4 e7=.vec 4 e7)<|NL x8<|.test (decide (x9<(x8.aS.length:Int))) (NG x8 x9 4<|NE (x8.ix x9)<|NG o5_1 2 2<|NE (o5_1.ix (2:Int))<|.call 98 [VS (mk [112]),.sl [[VS (((x8.ix x9).getD 0 .any).ai),((x8.ix x9).getD 1 .any)],[VS (((o5_1.ix (2:Int)).getD 0 .any).ai),((o5_1.ix (2:Int)).getD 1 .any)]]] [] fun r1 o1=>NA r1<|.call 98 [VS (mk [108]),.sl [[VS ((r1.cs.getD 0 .any).ai),(r1.cs.getD 1 .any)]]] [] fun r2 o2=>NA r2<|NG x8 x9 4<|NE ((x8.ix x9).drop 2)<|.al (cw 4 [[VS ((r2.cs.getD 0 .any).ai),(r2.cs.getD 1 .any),VS ((((x8.ix x9).drop 2).getD 0 .any).ai),(((x8.ix x9).drop 2).getD 1 .any)]]/\((e7.length)+([[VS ((r2.cs.getD 0 .any).ai),(r2.cs.getD 1 .any),VS ((((x8.ix x9).drop 2).getD 0 .any).ai),(((x8.ix x9).drop 2).getD 1 .any)]]:List (List AV)).length)*80<=140737488355328)<|.done 0 [VS x1,x8,VI (IntKind.wrap .i64 (x9+1))] [.cells [VS o3_0,o3_1],.cells [VS o5_0,o5_1],.vec 4 (e7++([[VS ((r2.cs.getD 0 .any).ai),(r2.cs.getD 1 .any),VS ((((x8.ix x9).drop 2).getD 0 .any).ai),(((x8.ix x9).drop 2).getD 1 .any)]]:List (List AV)))]) (.done 1 [VS x1] [.cells [VS o3_0,o3_1],.cells [VS o5_0,o5_1],.vec 4 e7])
abbrev EX:=cx Tryz.prog 244 I3 EE
theorem KB(x1:ByteArray)(x8:AV)(x9:Int)(o3_0:ByteArray)(o3_1:AV)(o5_0:ByteArray)(o5_1:AV)(e7:List (List AV))(h:jV 244 (Hk x1 x8 x9 o3_0 o3_1 o5_0 o5_1 e7) EX U):EX [VS x1,x8,VI x9] [.cells [VS o3_0,o3_1],.cells [VS o5_0,o5_1],.vec 4 e7] U :=
 gQ yo h
def EA(x10:AV)(x11:Int)(o5_0:ByteArray)(o5_1:AV)(e7:List (List AV)):Tree :=
 NL x10<|NI (VI x11)<|.al (Ob.cells [VS o5_0,o5_1]=.cells [VS o5_0,o5_1])<|.al (ac [.lk .str,.lk .sl] [VS o5_0,o5_1] 0 [.vec 4 e7])<|.al (Ob.vec 4 e7=.vec 4 e7)<|NL x10<|.test (decide (x11<(x10.aS.length:Int))) (NG o5_1 1 2<|NE (o5_1.ix (1:Int))<|NG x10 x11 4<|NE (x10.ix x11)<|.call 98 [VS (mk [112]),.sl [[VS (((o5_1.ix (1:Int)).getD 0 .any).ai),((o5_1.ix (1:Int)).getD 1 .any)],[VS (((x10.ix x11).getD 0 .any).ai),((x10.ix x11).getD 1 .any)]]] [] fun r1 o1=>NA r1<|.call 98 [VS (mk [114]),.sl [[VS ((r1.cs.getD 0 .any).ai),(r1.cs.getD 1 .any)]]] [] fun r2 o2=>NA r2<|NG x10 x11 4<|NE ((x10.ix x11).drop 2)<|.al (cw 4 [[VS ((r2.cs.getD 0 .any).ai),(r2.cs.getD 1 .any),VS ((((x10.ix x11).drop 2).getD 0 .any).ai),(((x10.ix x11).drop 2).getD 1 .any)]]/\((e7.length)+([[VS ((r2.cs.getD 0 .any).ai),(r2.cs.getD 1 .any),VS ((((x10.ix x11).drop 2).getD 0 .any).ai),(((x10.ix x11).drop 2).getD 1 .any)]]:List (List AV)).length)*80<=140737488355328)<|.done 0 [x10,VI (IntKind.wrap .i64 (x11+1))] [.cells [VS o5_0,o5_1],.vec 4 (e7++([[VS ((r2.cs.getD 0 .any).ai),(r2.cs.getD 1 .any),VS ((((x10.ix x11).drop 2).getD 0 .any).ai),(((x10.ix x11).drop 2).getD 1 .any)]]:List (List AV)))]) (.done 1 [] [.vec 4 e7])
abbrev Fi:=cx Tryz.prog 244 HK Gl
theorem Ke(x10:AV)(x11:Int)(o5_0:ByteArray)(o5_1:AV)(e7:List (List AV))(h:jV 244 (EA x10 x11 o5_0 o5_1 e7) Fi U):Fi [x10,VI x11] [.cells [VS o5_0,o5_1],.vec 4 e7] U :=
 gQ yo h
def FE(x1:ByteArray)(x12:ByteArray)(x13:AV)(x14:Int)(o3_0:ByteArray)(o3_1:AV)(o5_0:ByteArray)(o5_1:AV)(e7:List (List AV)):Tree :=
 NS (VS x1)<|NS (VS x12)<|NL x13<|NI (VI x14)<|.al (Ob.cells [VS o3_0,o3_1]=.cells [VS o3_0,o3_1])<|.al (ac [.lk .str,.lk .sl] [VS o3_0,o3_1] 0 [.cells [VS o5_0,o5_1],.vec 4 e7])<|.al (Ob.cells [VS o5_0,o5_1]=.cells [VS o5_0,o5_1])<|.al (ac [.lk .str,.lk .sl] [VS o5_0,o5_1] 0 [.vec 4 e7])<|.al (Ob.vec 4 e7=.vec 4 e7)<|NL x13<|.test (decide (x14<(x13.aS.length:Int))) (NG x13 x14 4<|NE (x13.ix x14)<|.call 98 [VS (mk [108]),.sl [[VS (((x13.ix x14).getD 0 .any).ai),((x13.ix x14).getD 1 .any)]]] [] fun r1 o1=>NA r1<|.call 98 [VS (mk [102]),.sl [[VS ((r1.cs.getD 0 .any).ai),(r1.cs.getD 1 .any)]]] [] fun r2 o2=>NA r2<|NG x13 x14 4<|NE ((x13.ix x14).drop 2)<|.al (cw 4 [[VS ((r2.cs.getD 0 .any).ai),(r2.cs.getD 1 .any),VS ((((x13.ix x14).drop 2).getD 0 .any).ai),(((x13.ix x14).drop 2).getD 1 .any)]]/\((e7.length)+([[VS ((r2.cs.getD 0 .any).ai),(r2.cs.getD 1 .any),VS ((((x13.ix x14).drop 2).getD 0 .any).ai),(((x13.ix x14).drop 2).getD 1 .any)]]:List (List AV)).length)*80<=140737488355328)<|.done 0 [VS x1,VS x12,x13,VI (IntKind.wrap .i64 (x14+1))] [.cells [VS o3_0,o3_1],.cells [VS o5_0,o5_1],.vec 4 (e7++([[VS ((r2.cs.getD 0 .any).ai),(r2.cs.getD 1 .any),VS ((((x13.ix x14).drop 2).getD 0 .any).ai),(((x13.ix x14).drop 2).getD 1 .any)]]:List (List AV)))]) (.done 1 [VS x1,VS x12] [.cells [VS o3_0,o3_1],.cells [VS o5_0,o5_1],.vec 4 e7])
abbrev G2:=cx Tryz.prog 244 L7 Gt
theorem Il(x1:ByteArray)(x12:ByteArray)(x13:AV)(x14:Int)(o3_0:ByteArray)(o3_1:AV)(o5_0:ByteArray)(o5_1:AV)(e7:List (List AV))(h:jV 244 (FE x1 x12 x13 x14 o3_0 o3_1 o5_0 o5_1 e7) G2 U):G2 [VS x1,VS x12,x13,VI x14] [.cells [VS o3_0,o3_1],.cells [VS o5_0,o5_1],.vec 4 e7] U :=
 gQ yo h
def GA(x1:ByteArray)(x15:AV)(x16:Int)(o3_0:ByteArray)(o3_1:AV)(e7:List (List AV)):Tree :=
 NS (VS x1)<|NL x15<|NI (VI x16)<|.al (Ob.cells [VS o3_0,o3_1]=.cells [VS o3_0,o3_1])<|.al (ac [.lk .str,.lk .sl] [VS o3_0,o3_1] 0 [.vec 4 e7])<|.al (Ob.vec 4 e7=.vec 4 e7)<|NL x15<|.test (decide (x16<(x15.aS.length:Int))) (NG x15 x16 4<|NE ((x15.ix x16).drop 2)<|.call 92 [.agg [VS o3_0,o3_1],VS x1,.agg [VS ((((x15.ix x16).drop 2).getD 0 .any).ai),(((x15.ix x16).drop 2).getD 1 .any)]] [] fun r1 o1=>NL r1<|.loop I2 GW [VS x1,x15,VI x16,r1,VI 0] [.cells [VS o3_0,o3_1],.vec 4 e7] (fun y2 q2=>NS (y2.hA)<|NL (y2.tail.hA)<|NI (y2.tail.tail.hA)<|.al ((q2.hO)=.cells (q2.hO).cs)<|.al (ac [.lk .str,.lk .sl] ((q2.hO).cs) 0 q2.tail)<|.al (((q2.drop 1).hO)=.vec 4 ((q2.drop 1).hO).es)<|.done 0 [VS ((y2.hA).ai),(y2.tail.hA),VI (IntKind.wrap .i64 (((y2.tail.tail.hA).toInt)+1))] [.cells [VS (((q2.hO).cs.getD 0 .any).ai),((q2.hO).cs.getD 1 .any)],.vec 4 ((q2.tail.hO).es)]) (fun y2 q2=>.done 2 [] [])) (.done 1 [] [.vec 4 e7])
abbrev Gj:=cx Tryz.prog 244 IE Ew
theorem Jf(x1:ByteArray)(x15:AV)(x16:Int)(o3_0:ByteArray)(o3_1:AV)(e7:List (List AV))(h:jV 244 (GA x1 x15 x16 o3_0 o3_1 e7) Gj U):Gj [VS x1,x15,VI x16] [.cells [VS o3_0,o3_1],.vec 4 e7] U :=
 gQ yo h
def Fp(x1:ByteArray)(x15:AV)(x16:Int)(x17:AV)(x18:Int)(o3_0:ByteArray)(o3_1:AV)(e7:List (List AV)):Tree :=
 NS (VS x1)<|NL x15<|NI (VI x16)<|NL x17<|NI (VI x18)<|.al (Ob.cells [VS o3_0,o3_1]=.cells [VS o3_0,o3_1])<|.al (ac [.lk .str,.lk .sl] [VS o3_0,o3_1] 0 [.vec 4 e7])<|.al (Ob.vec 4 e7=.vec 4 e7)<|NL x17<|.test (decide (x18<(x17.aS.length:Int))) (NG x15 x16 4<|NE (x15.ix x16)<|NG x17 x18 4<|NE (x17.ix x18)<|.call 98 [VS (mk [112]),.sl [[VS (((x15.ix x16).getD 0 .any).ai),((x15.ix x16).getD 1 .any)],[VS (((x17.ix x18).getD 0 .any).ai),((x17.ix x18).getD 1 .any)]]] [] fun r1 o1=>NA r1<|.call 98 [VS (mk [114]),.sl [[VS ((r1.cs.getD 0 .any).ai),(r1.cs.getD 1 .any)]]] [] fun r2 o2=>NA r2<|.call 98 [VS (mk [102]),.sl [[VS ((r2.cs.getD 0 .any).ai),(r2.cs.getD 1 .any)]]] [] fun r3 o3=>NA r3<|NG x17 x18 4<|NE ((x17.ix x18).drop 2)<|.al (cw 4 [[VS ((r3.cs.getD 0 .any).ai),(r3.cs.getD 1 .any),VS ((((x17.ix x18).drop 2).getD 0 .any).ai),(((x17.ix x18).drop 2).getD 1 .any)]]/\((e7.length)+([[VS ((r3.cs.getD 0 .any).ai),(r3.cs.getD 1 .any),VS ((((x17.ix x18).drop 2).getD 0 .any).ai),(((x17.ix x18).drop 2).getD 1 .any)]]:List (List AV)).length)*80<=140737488355328)<|.done 0 [VS x1,x15,VI x16,x17,VI (IntKind.wrap .i64 (x18+1))] [.cells [VS o3_0,o3_1],.vec 4 (e7++([[VS ((r3.cs.getD 0 .any).ai),(r3.cs.getD 1 .any),VS ((((x17.ix x18).drop 2).getD 0 .any).ai),(((x17.ix x18).drop 2).getD 1 .any)]]:List (List AV)))]) (.done 1 [VS x1,x15,VI x16] [.cells [VS o3_0,o3_1],.vec 4 e7])
abbrev EZ:=cx Tryz.prog 244 I2 GW
theorem Lq(x1:ByteArray)(x15:AV)(x16:Int)(x17:AV)(x18:Int)(o3_0:ByteArray)(o3_1:AV)(e7:List (List AV))(h:jV 244 (Fp x1 x15 x16 x17 x18 o3_0 o3_1 e7) EZ U):EZ [VS x1,x15,VI x16,x17,VI x18] [.cells [VS o3_0,o3_1],.vec 4 e7] U :=
 gQ yo h
def LJ(a0:ByteArray):Tree :=
 .call 108 [VS a0] [] fun r1 o1=>NP r1<|NP r1<|.test r1.isNil (.done 0 [.v (.pointer none)] []) (.call 127 [r1] [] fun r2 o2=>NB r2<|.test (!r2.toBool) (.done 0 [.v (.pointer none)] []) (.done 0 [r1] []))
theorem O6(a0:ByteArray)(h:dm 14 (LJ a0) R):an Tryz.prog 93 [VS a0] [] R :=
 uQ (af (au _) aA) (oQ [] Tryz.f93 h)
def Jt(a0:ByteArray):Tree :=
 .call 128 [VS a0] [] fun r1 o1=>NP r1<|NP r1<|.test r1.isNil (.done 0 [.v (.pointer none)] []) (.call 129 [r1] [] fun r2 o2=>NP r2<|NP r2<|.test r2.isNil (.done 0 [.v (.pointer none)] []) (.call 75 [r2] [] fun r3 o3=>NI r3<|.test (decide (r3.toInt>(200:Int))) (.done 0 [.v (.pointer none)] []) (.done 0 [r2] [])))
theorem Pp(a0:ByteArray)(h:dm 19 (Jt a0) R):an Tryz.prog 94 [VS a0] [] R :=
 uQ (af (au _) aA) (oQ [] Tryz.f94 h)
def zv(a0_0:AV)(a0_1:AV)(a1:AV)(a2:Int):Tree :=
 NZ a0_0<|NZ a0_0<|.al (LK.has (.int .u8) (a0_0.deref.hA)/\1<=a0_0.deref.length)<|.test (((a0_0.deref.hA).toInt)==(49:Int)) (NZ a1<|NZ a1<|.al (LK.has (.int .u8) (a1.deref.hA)/\1<=a1.deref.length)<|.done 0 [VB (((a1.deref.hA).toInt)==(117:Int))] []) (.test (((a0_0.deref.hA).toInt)==(110:Int)) (NZ a1<|NZ a1<|.al (LK.has (.int .u8) (a1.deref.hA)/\1<=a1.deref.length)<|.test (((a1.deref.hA).toInt) != (101:Int)) (.done 0 [VB false] []) (NZ a1<|NZ a1<|l9 (a1.deref.drop 1)<|.al (0<=(1:Int)/\(1:Int)<=(ag (((a1.deref.drop 1).hA).ai):Int)/\(ag (((a1.deref.drop 1).hA).ai):Int)<=(ag (((a1.deref.drop 1).hA).ai):Int))<|.call 130 [VS (cd (((a1.deref.drop 1).hA).ai) (bD 1) (bD (ag (((a1.deref.drop 1).hA).ai):Int)))] [] fun r1 o1=>NT r1<|NI (r1.comp 0)<|.al (LK.has .j2 (r1.comp 1))<|.done 0 [VB (decide (((r1.comp 0).toInt)<a2))] [])) (.test (((a0_0.deref.hA).toInt)==(98:Int)) (.call 131 [.agg [a0_0,a0_1]] [] fun r2 o2=>NP r2<|NZ r2<|NZ r2<|.al (bu [.ptr,.ptr] r2.deref 0/\2<=r2.deref.length)<|.call 95 [.agg [(r2.deref.getD 0 .any),(r2.deref.getD 1 .any)],a1,VI a2] [] fun r3 o3=>NB r3<|.done 0 [VB r3.toBool] []) (.test (((a0_0.deref.hA).toInt)==(43:Int)) (NZ a1<|NZ a1<|.al (LK.has (.int .u8) (a1.deref.hA)/\1<=a1.deref.length)<|.test (((a1.deref.hA).toInt)==(108:Int)) (.call 113 [.agg [a0_0,a0_1]] [] fun r4 o4=>.al (r4=.agg r4.cs/\r4.cs.length=2/\bu [.ptr,.ptr] r4.cs 0)<|NZ a1<|NZ a1<|dQ (a1.deref.drop 2)<|.call 95 [.agg [(r4.cs.getD 0 .any),(r4.cs.getD 1 .any)],((a1.deref.drop 2).hA),VI a2] [] fun r5 o5=>NB r5<|.test r5.toBool (.done 0 [VB true] []) (NZ a1<|NZ a1<|.al (LK.has (.int .u8) (a1.deref.hA)/\1<=a1.deref.length)<|.test (((a1.deref.hA).toInt)==(114:Int)) (.call 114 [.agg [a0_0,a0_1]] [] fun r6 o6=>.al (r6=.agg r6.cs/\r6.cs.length=2/\bu [.ptr,.ptr] r6.cs 0)<|NZ a1<|NZ a1<|dQ (a1.deref.drop 2)<|.call 95 [.agg [(r6.cs.getD 0 .any),(r6.cs.getD 1 .any)],((a1.deref.drop 2).hA),VI a2] [] fun r7 o7=>NB r7<|.done 0 [VB r7.toBool] []) (.done 0 [VB false] []))) (NZ a1<|NZ a1<|.al (LK.has (.int .u8) (a1.deref.hA)/\1<=a1.deref.length)<|.test (((a1.deref.hA).toInt)==(114:Int)) (.call 114 [.agg [a0_0,a0_1]] [] fun r8 o8=>.al (r8=.agg r8.cs/\r8.cs.length=2/\bu [.ptr,.ptr] r8.cs 0)<|NZ a1<|NZ a1<|dQ (a1.deref.drop 2)<|.call 95 [.agg [(r8.cs.getD 0 .any),(r8.cs.getD 1 .any)],((a1.deref.drop 2).hA),VI a2] [] fun r9 o9=>NB r9<|.done 0 [VB r9.toBool] []) (.done 0 [VB false] []))) (.test (((a0_0.deref.hA).toInt)==(42:Int)) (NZ a1<|NZ a1<|.al (LK.has (.int .u8) (a1.deref.hA)/\1<=a1.deref.length)<|.test (((a1.deref.hA).toInt)==(112:Int)) (.call 113 [.agg [a0_0,a0_1]] [] fun r10 o10=>.al (r10=.agg r10.cs/\r10.cs.length=2/\bu [.ptr,.ptr] r10.cs 0)<|NZ a1<|NZ a1<|dQ (a1.deref.drop 2)<|.call 95 [.agg [(r10.cs.getD 0 .any),(r10.cs.getD 1 .any)],((a1.deref.drop 2).hA),VI a2] [] fun r11 o11=>NB r11<|.test r11.toBool (.call 114 [.agg [a0_0,a0_1]] [] fun r12 o12=>.al (r12=.agg r12.cs/\r12.cs.length=2/\bu [.ptr,.ptr] r12.cs 0)<|NZ a1<|NZ a1<|dQ (a1.deref.drop 3)<|.call 95 [.agg [(r12.cs.getD 0 .any),(r12.cs.getD 1 .any)],((a1.deref.drop 3).hA),VI a2] [] fun r13 o13=>NB r13<|.done 0 [VB r13.toBool] []) (.done 0 [VB false] [])) (.done 0 [VB false] [])) (.test (((a0_0.deref.hA).toInt)==(114:Int)) (.call 86 [.agg [a0_0,a0_1]] [] fun r14 o14=>NT r14<|.al ((r14.comp 0)=.agg (r14.comp 0).cs/\(r14.comp 0).cs.length=2/\bu [.ptr,.ptr] ((r14.comp 0).cs) 0)<|NP (r14.comp 1)<|NZ a1<|NZ a1<|.al (LK.has (.int .u8) (a1.deref.hA)/\1<=a1.deref.length)<|.test (((a1.deref.hA).toInt)==(102:Int)) (NZ a1<|NZ a1<|dQ (a1.deref.drop 2)<|.call 95 [.agg [((r14.comp 0).cs.getD 0 .any),((r14.comp 0).cs.getD 1 .any)],((a1.deref.drop 2).hA),VI a2] [] fun r15 o15=>NB r15<|.done 0 [VB r15.toBool] []) (.done 0 [VB false] [])) (.done 0 [VB false] []))))))
theorem Lb(a0_0:AV)(a0_1:AV)(a1:AV)(a2:Int)(ha0_0:LK.has .ptr a0_0)(ha0_1:LK.has .ptr a0_1)(ha1:LK.has .ptr a1)(h:dm 134 (zv a0_0 a0_1 a1 a2) R):an Tryz.prog 95 [.agg [a0_0,a0_1],a1,VI a2] [] R :=
 uQ (af (bP (af (bz ha0_0) (af (bz ha0_1) aA))) (af (bz ha1) (af (au _) aA))) (oQ [] Tryz.f95 h)
def Ja(a0:ByteArray):Tree :=
 .call 132 [VS a0] [] fun r1 o1=>NT r1<|.al ((r1.comp 0)=.agg (r1.comp 0).cs/\(r1.comp 0).cs.length=2/\bu [.str,.sl] ((r1.comp 0).cs) 0)<|NB (r1.comp 1)<|.test (!((r1.comp 1).toBool)) (.done 0 [.cv [VS (mk []),VB false]] []) (.call 121 [.agg [VS (((r1.comp 0).cs.getD 0 .any).ai),((r1.comp 0).cs.getD 1 .any)]] [] fun r2 o2=>NS r2<|.test (!(ae r2.ai==ae (mk [114,101,99]))) (.done 0 [.cv [VS (mk []),VB false]] []) (.call 133 [.agg [VS (((r1.comp 0).cs.getD 0 .any).ai),((r1.comp 0).cs.getD 1 .any)]] [] fun r3 o3=>NT r3<|.al ((r3.comp 0)=.agg (r3.comp 0).cs/\(r3.comp 0).cs.length=2/\bu [.str,.sl] ((r3.comp 0).cs) 0)<|NB (r3.comp 1)<|.test (!((r3.comp 1).toBool)) (.done 0 [.cv [VS (mk []),VB false]] []) (.call 134 [.agg [VS (((r3.comp 0).cs.getD 0 .any).ai),((r3.comp 0).cs.getD 1 .any)]] [] fun r4 o4=>NT r4<|NS (r4.comp 0)<|NB (r4.comp 1)<|.done 0 [.cv [VS ((r4.comp 0).ai),VB ((r4.comp 1).toBool)]] [])))
theorem ON(a0:ByteArray)(h:dm 31 (Ja a0) R):an Tryz.prog 96 [VS a0] [] R :=
 uQ (af (au _) aA) (oQ [] Tryz.f96 h)
def EW:LI:={hd:={bJ:=[(3,.k .str),(4,.k (.int .i64))],refs:=[(1,1)],ck:=[(1,[.lk .str,.lk .sl])]},xs:={bJ:=[(3,.k .str)]},rt:={},ex:=0}
def K1:Code:=cB (cy Tryz.f97) 5
def M8:List (Nat×LI):=[(5,EW)]
def CN(a0_0:ByteArray)(a0_1:AV):Tree :=
 .test (!(ae a0_0==ae (mk []))) (.done 0 [VS a0_0] []) (.loop K1 EW [VS (mk [40]),VI 0] [.cells [VS a0_0,a0_1]] (fun y3 q3=>NS (y3.hA)<|.al (ag ((y3.hA).ai)+ag (mk [41])<=9223372036854775807)<|.done 0 [VS ((((y3.hA).ai):ByteArray)++(mk [41]))] []) (fun y3 q3=>.done 0 [.any] []))
theorem Ha(a0_0:ByteArray)(a0_1:AV)(ha0_1:LK.has .sl a0_1)(h:dm 31 (CN a0_0 a0_1) R):an Tryz.prog 97 [.agg [VS a0_0,a0_1]] [] R :=
 uQ (af (bP (af (au _) (af (bU ha0_1) aA))) aA) (oQ M8 Tryz.f97 h)
def z6(x3:ByteArray)(x4:Int)(o1_0:ByteArray)(o1_1:AV):Tree :=
 NS (VS x3)<|NI (VI x4)<|.al (Ob.cells [VS o1_0,o1_1]=.cells [VS o1_0,o1_1])<|.al (ac [.lk .str,.lk .sl] [VS o1_0,o1_1] 0 [])<|NL o1_1<|.test (decide (x4<(o1_1.aS.length:Int))) (.test (decide (x4>(0:Int))) (.al (ag x3+ag (mk [32])<=9223372036854775807)<|NG o1_1 x4 2<|NE (o1_1.ix x4)<|.call 97 [.agg [VS (((o1_1.ix x4).getD 0 .any).ai),((o1_1.ix x4).getD 1 .any)]] [] fun r1 o1=>NS r1<|.al (ag ((x3:ByteArray)++(mk [32]))+ag r1.ai<=9223372036854775807)<|.done 0 [VS ((((x3:ByteArray)++(mk [32])):ByteArray)++r1.ai),VI (IntKind.wrap .i64 (x4+1))] [.cells [VS o1_0,o1_1]]) (NG o1_1 x4 2<|NE (o1_1.ix x4)<|.call 97 [.agg [VS (((o1_1.ix x4).getD 0 .any).ai),((o1_1.ix x4).getD 1 .any)]] [] fun r2 o2=>NS r2<|.al (ag x3+ag r2.ai<=9223372036854775807)<|.done 0 [VS ((x3:ByteArray)++r2.ai),VI (IntKind.wrap .i64 (x4+1))] [.cells [VS o1_0,o1_1]])) (.done 1 [VS x3] [])
abbrev Aj:=cx Tryz.prog 31 K1 EW
theorem B6(x3:ByteArray)(x4:Int)(o1_0:ByteArray)(o1_1:AV)(h:jV 31 (z6 x3 x4 o1_0 o1_1) Aj U):Aj [VS x3,VI x4] [.cells [VS o1_0,o1_1]] U :=
 gQ M8 h
def Hb(a0:ByteArray)(a1:AV):Tree :=
 .al (LK.has .sl a1/\cw 2 a1.aS/\((([[VS a0,.v (.slice none 0 0)]]:List (List AV)).length)+a1.aS.length)*40<=140737488355328)<|.done 0 [.agg [VS (mk []),.sl (([[VS a0,.v (.slice none 0 0)]]:List (List AV))++a1.aS)]] []
theorem M6(a0:ByteArray)(a1:AV)(ha1:LK.has .sl a1)(h:dm 11 (Hb a0 a1) R):an Tryz.prog 98 [VS a0,a1] [] R :=
 uQ (af (au _) (af (bU ha1) aA)) (oQ [] Tryz.f98 h)
def CG(a0_0:ByteArray)(a0_1:AV)(a1:ByteArray)(a2_0:ByteArray)(a2_1:AV)(a3_0:ByteArray)(a3_1:AV):Tree :=
 .test (!(ae a0_0==ae (mk []))) (.done 0 [.agg [VS a3_0,a3_1]] []) (NG a2_1 1 2<|NE (a2_1.ix (1:Int))<|.call 121 [.agg [VS a0_0,a0_1]] [] fun r1 o1=>NS r1<|.call 121 [.agg [VS a2_0,a2_1]] [] fun r2 o2=>NS r2<|.al (ag r1.ai+ag r2.ai<=9223372036854775807)<|.test (ae ((r1.ai:ByteArray)++r2.ai)==ae (mk [43,108])) (NG a0_1 1 2<|NE (a0_1.ix (1:Int))<|.call 99 [.agg [VS (((a0_1.ix (1:Int)).getD 0 .any).ai),((a0_1.ix (1:Int)).getD 1 .any)],VS a1,.agg [VS (((a2_1.ix (1:Int)).getD 0 .any).ai),((a2_1.ix (1:Int)).getD 1 .any)],.agg [VS a3_0,a3_1]] [] fun r3 o3=>NA r3<|.call 98 [VS (mk [108]),.sl [[VS ((r3.cs.getD 0 .any).ai),(r3.cs.getD 1 .any)]]] [] fun r4 o4=>NA r4<|.done 0 [.agg [VS ((r4.cs.getD 0 .any).ai),(r4.cs.getD 1 .any)]] []) (.test (ae ((r1.ai:ByteArray)++r2.ai)==ae (mk [43,114])) (NG a0_1 2 2<|NE (a0_1.ix (2:Int))<|.call 99 [.agg [VS (((a0_1.ix (2:Int)).getD 0 .any).ai),((a0_1.ix (2:Int)).getD 1 .any)],VS a1,.agg [VS (((a2_1.ix (1:Int)).getD 0 .any).ai),((a2_1.ix (1:Int)).getD 1 .any)],.agg [VS a3_0,a3_1]] [] fun r5 o5=>NA r5<|.call 98 [VS (mk [114]),.sl [[VS ((r5.cs.getD 0 .any).ai),(r5.cs.getD 1 .any)]]] [] fun r6 o6=>NA r6<|.done 0 [.agg [VS ((r6.cs.getD 0 .any).ai),(r6.cs.getD 1 .any)]] []) (.test (ae ((r1.ai:ByteArray)++r2.ai)==ae (mk [42,108])) (NG a0_1 1 2<|NE (a0_1.ix (1:Int))<|NG ((a2_1.ix (1:Int)).getD 1 .any) 1 2<|NE (((a2_1.ix (1:Int)).getD 1 .any).ix (1:Int))<|.call 99 [.agg [VS (((a0_1.ix (1:Int)).getD 0 .any).ai),((a0_1.ix (1:Int)).getD 1 .any)],VS a1,.agg [VS (((((a2_1.ix (1:Int)).getD 1 .any).ix (1:Int)).getD 0 .any).ai),((((a2_1.ix (1:Int)).getD 1 .any).ix (1:Int)).getD 1 .any)],.agg [VS a3_0,a3_1]] [] fun r7 o7=>NA r7<|NG ((a2_1.ix (1:Int)).getD 1 .any) 2 2<|NE (((a2_1.ix (1:Int)).getD 1 .any).ix (2:Int))<|.call 98 [VS (mk [112]),.sl [[VS ((r7.cs.getD 0 .any).ai),(r7.cs.getD 1 .any)],[VS (((((a2_1.ix (1:Int)).getD 1 .any).ix (2:Int)).getD 0 .any).ai),((((a2_1.ix (1:Int)).getD 1 .any).ix (2:Int)).getD 1 .any)]]] [] fun r8 o8=>NA r8<|.done 0 [.agg [VS ((r8.cs.getD 0 .any).ai),(r8.cs.getD 1 .any)]] []) (.test (ae ((r1.ai:ByteArray)++r2.ai)==ae (mk [42,114])) (NG ((a2_1.ix (1:Int)).getD 1 .any) 1 2<|NE (((a2_1.ix (1:Int)).getD 1 .any).ix (1:Int))<|NG a0_1 2 2<|NE (a0_1.ix (2:Int))<|NG ((a2_1.ix (1:Int)).getD 1 .any) 2 2<|NE (((a2_1.ix (1:Int)).getD 1 .any).ix (2:Int))<|.call 99 [.agg [VS (((a0_1.ix (2:Int)).getD 0 .any).ai),((a0_1.ix (2:Int)).getD 1 .any)],VS a1,.agg [VS (((((a2_1.ix (1:Int)).getD 1 .any).ix (2:Int)).getD 0 .any).ai),((((a2_1.ix (1:Int)).getD 1 .any).ix (2:Int)).getD 1 .any)],.agg [VS a3_0,a3_1]] [] fun r9 o9=>NA r9<|.call 98 [VS (mk [112]),.sl [[VS (((((a2_1.ix (1:Int)).getD 1 .any).ix (1:Int)).getD 0 .any).ai),((((a2_1.ix (1:Int)).getD 1 .any).ix (1:Int)).getD 1 .any)],[VS ((r9.cs.getD 0 .any).ai),(r9.cs.getD 1 .any)]]] [] fun r10 o10=>NA r10<|.done 0 [.agg [VS ((r10.cs.getD 0 .any).ai),(r10.cs.getD 1 .any)]] []) (.call 121 [.agg [VS (((a2_1.ix (1:Int)).getD 0 .any).ai),((a2_1.ix (1:Int)).getD 1 .any)]] [] fun r11 o11=>NS r11<|.test (ae r11.ai==ae (mk [108])) (NG a0_1 2 2<|NE (a0_1.ix (2:Int))<|NG ((a2_1.ix (1:Int)).getD 1 .any) 1 2<|NE (((a2_1.ix (1:Int)).getD 1 .any).ix (1:Int))<|.call 99 [.agg [VS (((a0_1.ix (2:Int)).getD 0 .any).ai),((a0_1.ix (2:Int)).getD 1 .any)],VS a1,.agg [VS (((((a2_1.ix (1:Int)).getD 1 .any).ix (1:Int)).getD 0 .any).ai),((((a2_1.ix (1:Int)).getD 1 .any).ix (1:Int)).getD 1 .any)],.agg [VS a3_0,a3_1]] [] fun r12 o12=>NA r12<|.call 98 [VS (mk [102]),.sl [[VS ((r12.cs.getD 0 .any).ai),(r12.cs.getD 1 .any)]]] [] fun r13 o13=>NA r13<|.done 0 [.agg [VS ((r13.cs.getD 0 .any).ai),(r13.cs.getD 1 .any)]] []) (NG ((a2_1.ix (1:Int)).getD 1 .any) 1 2<|NE (((a2_1.ix (1:Int)).getD 1 .any).ix (1:Int))<|NG ((((a2_1.ix (1:Int)).getD 1 .any).ix (1:Int)).getD 1 .any) 2 2<|NE (((((a2_1.ix (1:Int)).getD 1 .any).ix (1:Int)).getD 1 .any).ix (2:Int))<|.call 99 [.agg [VS a0_0,a0_1],VS a1,.agg [VS (((((((a2_1.ix (1:Int)).getD 1 .any).ix (1:Int)).getD 1 .any).ix (2:Int)).getD 0 .any).ai),((((((a2_1.ix (1:Int)).getD 1 .any).ix (1:Int)).getD 1 .any).ix (2:Int)).getD 1 .any)],.agg [VS a3_0,a3_1]] [] fun r14 o14=>NA r14<|NG a0_1 2 2<|NE (a0_1.ix (2:Int))<|NG a0_1 1 2<|l9 (a0_1.ix (1:Int))<|NG ((((a2_1.ix (1:Int)).getD 1 .any).ix (1:Int)).getD 1 .any) 1 2<|NE (((((a2_1.ix (1:Int)).getD 1 .any).ix (1:Int)).getD 1 .any).ix (1:Int))<|.call 99 [.agg [VS (((a0_1.ix (2:Int)).getD 0 .any).ai),((a0_1.ix (2:Int)).getD 1 .any)],VS (((a0_1.ix (1:Int)).hA).ai),.agg [VS (((((((a2_1.ix (1:Int)).getD 1 .any).ix (1:Int)).getD 1 .any).ix (1:Int)).getD 0 .any).ai),((((((a2_1.ix (1:Int)).getD 1 .any).ix (1:Int)).getD 1 .any).ix (1:Int)).getD 1 .any)],.agg [VS ((r14.cs.getD 0 .any).ai),(r14.cs.getD 1 .any)]] [] fun r15 o15=>NA r15<|.call 98 [VS (mk [102]),.sl [[VS ((r15.cs.getD 0 .any).ai),(r15.cs.getD 1 .any)]]] [] fun r16 o16=>NA r16<|.done 0 [.agg [VS ((r16.cs.getD 0 .any).ai),(r16.cs.getD 1 .any)]] []))))))
theorem QM(a0_0:ByteArray)(a0_1:AV)(a1:ByteArray)(a2_0:ByteArray)(a2_1:AV)(a3_0:ByteArray)(a3_1:AV)(ha0_1:LK.has .sl a0_1)(ha2_1:LK.has .sl a2_1)(ha3_1:LK.has .sl a3_1)(h:dm 132 (CG a0_0 a0_1 a1 a2_0 a2_1 a3_0 a3_1) R):an Tryz.prog 99 [.agg [VS a0_0,a0_1],VS a1,.agg [VS a2_0,a2_1],.agg [VS a3_0,a3_1]] [] R :=
 uQ (af (bP (af (au _) (af (bU ha0_1) aA))) (af (au _) (af (bP (af (au _) (af (bU ha2_1) aA))) (af (bP (af (au _) (af (bU ha3_1) aA))) aA)))) (oQ [] Tryz.f99 h)
def KV(a0:Int)(a1:AV):Tree :=
 .done 0 [.ptr [.v (.int .u8 a0),VS (mk []),a1,.v (.pointer none)]] []
theorem No(a0:Int)(a1:AV)(ha1:LK.has .ptr a1)(h:dm 9 (KV a0 a1) R):an Tryz.prog 100 [.v (.int .u8 a0),a1] [] R :=
 uQ (af (au _) (af (bz ha1) aA)) (oQ [] Tryz.f100 h)
def Bh(a0_0:AV)(a0_1:AV)(a1:AV)(a2_0:ByteArray)(a2_1:AV)(a3:AV):Tree :=
 NZ a0_0<|NZ a0_0<|.al (LK.has (.int .u8) (a0_0.deref.hA)/\1<=a0_0.deref.length)<|.test (((a0_0.deref.hA).toInt)==(43:Int)) (.call 113 [.agg [a0_0,a0_1]] [] fun r1 o1=>.al (r1=.agg r1.cs/\r1.cs.length=2/\bu [.ptr,.ptr] r1.cs 0)<|NZ a1<|NZ a1<|.al (LK.has (.int .u8) (a1.deref.hA)/\1<=a1.deref.length)<|.test (((a1.deref.hA).toInt)==(114:Int)) (.call 114 [.agg [a0_0,a0_1]] [] fun r2 o2=>.al (r2=.agg r2.cs/\r2.cs.length=2/\bu [.ptr,.ptr] r2.cs 0)<|NZ a1<|NZ a1<|.al (LK.has (.int .u8) (a1.deref.hA)/\1<=a1.deref.length)<|NZ a1<|NZ a1<|dQ (a1.deref.drop 2)<|.call 101 [.agg [(r2.cs.getD 0 .any),(r2.cs.getD 1 .any)],((a1.deref.drop 2).hA),.agg [VS a2_0,a2_1],a3] [] fun r3 o3=>NP r3<|.call 100 [.v (.int .u8 ((a1.deref.hA).toInt)),r3] [] fun r4 o4=>NP r4<|.done 0 [r4] []) (NZ a1<|NZ a1<|.al (LK.has (.int .u8) (a1.deref.hA)/\1<=a1.deref.length)<|NZ a1<|NZ a1<|dQ (a1.deref.drop 2)<|.call 101 [.agg [(r1.cs.getD 0 .any),(r1.cs.getD 1 .any)],((a1.deref.drop 2).hA),.agg [VS a2_0,a2_1],a3] [] fun r5 o5=>NP r5<|.call 100 [.v (.int .u8 ((a1.deref.hA).toInt)),r5] [] fun r6 o6=>NP r6<|.done 0 [r6] [])) (.test (((a0_0.deref.hA).toInt)==(42:Int)) (NZ a1<|NZ a1<|.al (LK.has (.int .u8) (a1.deref.hA)/\1<=a1.deref.length)<|.test (((a1.deref.hA).toInt)==(108:Int)) (.call 113 [.agg [a0_0,a0_1]] [] fun r7 o7=>.al (r7=.agg r7.cs/\r7.cs.length=2/\bu [.ptr,.ptr] r7.cs 0)<|NZ a1<|NZ a1<|dQ (a1.deref.drop 2)<|NZ ((a1.deref.drop 2).hA)<|NZ ((a1.deref.drop 2).hA)<|dQ (((a1.deref.drop 2).hA).deref.drop 2)<|.call 101 [.agg [(r7.cs.getD 0 .any),(r7.cs.getD 1 .any)],((((a1.deref.drop 2).hA).deref.drop 2).hA),.agg [VS a2_0,a2_1],a3] [] fun r8 o8=>NP r8<|NZ a1<|NZ a1<|dQ (a1.deref.drop 2)<|NZ ((a1.deref.drop 2).hA)<|NZ ((a1.deref.drop 2).hA)<|dQ (((a1.deref.drop 2).hA).deref.drop 3)<|.call 117 [r8,((((a1.deref.drop 2).hA).deref.drop 3).hA)] [] fun r9 o9=>NP r9<|.done 0 [r9] []) (NZ a1<|NZ a1<|dQ (a1.deref.drop 2)<|NZ ((a1.deref.drop 2).hA)<|NZ ((a1.deref.drop 2).hA)<|dQ (((a1.deref.drop 2).hA).deref.drop 2)<|.call 114 [.agg [a0_0,a0_1]] [] fun r10 o10=>.al (r10=.agg r10.cs/\r10.cs.length=2/\bu [.ptr,.ptr] r10.cs 0)<|NZ a1<|NZ a1<|dQ (a1.deref.drop 2)<|NZ ((a1.deref.drop 2).hA)<|NZ ((a1.deref.drop 2).hA)<|dQ (((a1.deref.drop 2).hA).deref.drop 3)<|.call 101 [.agg [(r10.cs.getD 0 .any),(r10.cs.getD 1 .any)],((((a1.deref.drop 2).hA).deref.drop 3).hA),.agg [VS a2_0,a2_1],a3] [] fun r11 o11=>NP r11<|.call 117 [((((a1.deref.drop 2).hA).deref.drop 2).hA),r11] [] fun r12 o12=>NP r12<|.done 0 [r12] [])) (.test (((a0_0.deref.hA).toInt)==(114:Int)) (.call 86 [.agg [a0_0,a0_1]] [] fun r13 o13=>NT r13<|.al ((r13.comp 0)=.agg (r13.comp 0).cs/\(r13.comp 0).cs.length=2/\bu [.ptr,.ptr] ((r13.comp 0).cs) 0)<|NP (r13.comp 1)<|NZ a1<|NZ a1<|dQ (a1.deref.drop 2)<|NZ ((a1.deref.drop 2).hA)<|NZ ((a1.deref.drop 2).hA)<|.al (LK.has (.int .u8) (((a1.deref.drop 2).hA).deref.hA)/\1<=(((a1.deref.drop 2).hA).deref).length)<|.test (((((a1.deref.drop 2).hA).deref.hA).toInt)==(108:Int)) (NZ a1<|NZ a1<|dQ (a1.deref.drop 2)<|NZ ((a1.deref.drop 2).hA)<|NZ ((a1.deref.drop 2).hA)<|dQ (((a1.deref.drop 2).hA).deref.drop 2)<|.call 101 [.agg [((r13.comp 0).cs.getD 0 .any),((r13.comp 0).cs.getD 1 .any)],((((a1.deref.drop 2).hA).deref.drop 2).hA),.agg [VS a2_0,a2_1],a3] [] fun r14 o14=>NP r14<|.call 100 [.v (.int .u8 102),r14] [] fun r15 o15=>NP r15<|.done 0 [r15] []) (NZ a1<|NZ a1<|dQ (a1.deref.drop 2)<|NZ ((a1.deref.drop 2).hA)<|NZ ((a1.deref.drop 2).hA)<|dQ (((a1.deref.drop 2).hA).deref.drop 2)<|NZ ((((a1.deref.drop 2).hA).deref.drop 2).hA)<|NZ ((((a1.deref.drop 2).hA).deref.drop 2).hA)<|dQ (((((a1.deref.drop 2).hA).deref.drop 2).hA).deref.drop 3)<|.call 101 [.agg [a0_0,a0_1],((((((a1.deref.drop 2).hA).deref.drop 2).hA).deref.drop 3).hA),.agg [VS a2_0,a2_1],a3] [] fun r16 o16=>NP r16<|NZ a1<|NZ a1<|dQ (a1.deref.drop 2)<|NZ ((a1.deref.drop 2).hA)<|NZ ((a1.deref.drop 2).hA)<|dQ (((a1.deref.drop 2).hA).deref.drop 2)<|NZ ((((a1.deref.drop 2).hA).deref.drop 2).hA)<|NZ ((((a1.deref.drop 2).hA).deref.drop 2).hA)<|dQ (((((a1.deref.drop 2).hA).deref.drop 2).hA).deref.drop 2)<|.call 101 [.agg [((r13.comp 0).cs.getD 0 .any),((r13.comp 0).cs.getD 1 .any)],((((((a1.deref.drop 2).hA).deref.drop 2).hA).deref.drop 2).hA),.agg [VS (mk []),(r13.comp 1)],r16] [] fun r17 o17=>NP r17<|.call 100 [.v (.int .u8 102),r17] [] fun r18 o18=>NP r18<|.done 0 [r18] [])) (.done 0 [a3] [])))
theorem NF(a0_0:AV)(a0_1:AV)(a1:AV)(a2_0:ByteArray)(a2_1:AV)(a3:AV)(ha0_0:LK.has .ptr a0_0)(ha0_1:LK.has .ptr a0_1)(ha1:LK.has .ptr a1)(ha2_1:LK.has .ptr a2_1)(ha3:LK.has .ptr a3)(h:dm 147 (Bh a0_0 a0_1 a1 a2_0 a2_1 a3) R):an Tryz.prog 101 [.agg [a0_0,a0_1],a1,.agg [VS a2_0,a2_1],a3] [] R :=
 uQ (af (bP (af (bz ha0_0) (af (bz ha0_1) aA))) (af (bz ha1) (af (bP (af (au _) (af (bz ha2_1) aA))) (af (bz ha3) aA)))) (oQ [] Tryz.f101 h)
def D0:LI:={hd:={bJ:=[(7,.k (.int .i64))],refs:=[(2,2),(4,4)],ck:=[(2,[.lk .str,.lk .sl]),(4,[.lk .str,.lk .sl])],eE:=[(6,1)]},xs:={refs:=[(2,2),(4,4)],ck:=[(2,[.lk .str,.lk .sl]),(4,[.lk .str,.lk .sl])]},rt:={bJ:=[(3,.k .bool)],refs:=[(2,2)],ck:=[(2,[.lk .str,.lk .sl])]},ex:=0}
def KY:Code:=cB (cy Tryz.f104) 6
def II:List (Nat×LI):=[(6,D0)]
def Mj(a0:ByteArray):Tree :=
 .call 132 [VS a0] [] fun r1 o1=>NT r1<|.al ((r1.comp 0)=.agg (r1.comp 0).cs/\(r1.comp 0).cs.length=2/\bu [.str,.sl] ((r1.comp 0).cs) 0)<|NB (r1.comp 1)<|.test (!((r1.comp 1).toBool)) (.done 0 [.cv [.agg [VS (((r1.comp 0).cs.getD 0 .any).ai),((r1.comp 0).cs.getD 1 .any)],VB false]] []) (.call 137 [.agg [VS (((r1.comp 0).cs.getD 0 .any).ai),((r1.comp 0).cs.getD 1 .any)],.sl [],.vec 0] [.vec 1 []] fun r2 o2=>.al (r2=.vec 1/\(o2.tail.hO)=.vec 1 (o2.tail.hO).es)<|.loop KY D0 [VI 0] [.cells [VS (mk []),.v (.slice none 0 0)],.cells [VS (((r1.comp 0).cs.getD 0 .any).ai),((r1.comp 0).cs.getD 1 .any)],.vec 1 ((o2.tail.hO).es)] (fun y4 q4=>.al ((q4.hO)=.cells (q4.hO).cs)<|.al (ac [.lk .str,.lk .sl] ((q4.hO).cs) 0 q4.tail)<|.al (((q4.tail.drop 0).hO)=.cells ((q4.tail.drop 0).hO).cs)<|.al (ac [.lk .str,.lk .sl] (((q4.tail.drop 0).hO).cs) 0 ((q4.tail.drop 0).tail))<|.done 0 [.cv [.agg [VS (((q4.tail.hO).cs.getD 0 .any).ai),((q4.tail.hO).cs.getD 1 .any)],VB true]] []) (fun y4 q4=>NB (y4.hA)<|.al ((q4.hO)=.cells (q4.hO).cs)<|.al (ac [.lk .str,.lk .sl] ((q4.hO).cs) 0 q4.tail)<|.done 0 [.cv [.agg [VS (((q4.hO).cs.getD 0 .any).ai),((q4.hO).cs.getD 1 .any)],VB ((y4.hA).toBool)]] []))
theorem P7(a0:ByteArray)(h:dm 33 (Mj a0) R):an Tryz.prog 104 [VS a0] [] R :=
 uQ (af (au _) aA) (oQ II Tryz.f104 h)
def EN(x7:Int)(o2_0:ByteArray)(o2_1:AV)(o4_0:ByteArray)(o4_1:AV)(e6:List (List AV)):Tree :=
 NI (VI x7)<|.al (Ob.cells [VS o2_0,o2_1]=.cells [VS o2_0,o2_1])<|.al (ac [.lk .str,.lk .sl] [VS o2_0,o2_1] 0 [.cells [VS o4_0,o4_1],.vec 1 e6])<|.al (Ob.cells [VS o4_0,o4_1]=.cells [VS o4_0,o4_1])<|.al (ac [.lk .str,.lk .sl] [VS o4_0,o4_1] 0 [.vec 1 e6])<|.al (Ob.vec 1 e6=.vec 1 e6)<|.test (decide (x7<(e6.length:Int))) (.al (0<=x7/\x7<e6.length)<|.al (x7.toNat<e6.length/\0<(e6.getD x7.toNat []).length/\LK.has .str ((e6.getD x7.toNat []).getD 0 .any))<|.call 138 [VS (((e6.getD x7.toNat []).getD 0 .any).ai)] [] fun r1 o1=>NB r1<|.test r1.toBool (.done 2 [VB false] [.cells [VS o4_0,o4_1]]) (.done 0 [VI (IntKind.wrap .i64 (x7+1))] [.cells [VS o2_0,o2_1],.cells [VS o4_0,o4_1],.vec 1 e6])) (.done 1 [] [.cells [VS o2_0,o2_1],.cells [VS o4_0,o4_1]])
abbrev EY:=cx Tryz.prog 33 KY D0
theorem Hw(x7:Int)(o2_0:ByteArray)(o2_1:AV)(o4_0:ByteArray)(o4_1:AV)(e6:List (List AV))(h:jV 33 (EN x7 o2_0 o2_1 o4_0 o4_1 e6) EY U):EY [VI x7] [.cells [VS o2_0,o2_1],.cells [VS o4_0,o4_1],.vec 1 e6] U :=
 gQ II h
def FW:LI:={hd:={bJ:=[(1,.k .sl),(6,.k (.int .i64))],refs:=[(2,2),(4,4)],ck:=[(2,[.lk .str,.lk .sl]),(4,[.lk .str,.lk .sl])],eE:=[(5,1)]},xs:={refs:=[(2,2),(4,4)],ck:=[(2,[.lk .str,.lk .sl]),(4,[.lk .str,.lk .sl])],eE:=[(5,1)]},rt:={},ex:=0}
def HT:Code:=cB (cy Tryz.f106) 3
def IW:List (Nat×LI):=[(3,FW)]
def If(a0_0:ByteArray)(a0_1:AV)(a1:AV):Tree :=
 .call 137 [.agg [VS a0_0,a0_1],.sl [],.vec 0] [.vec 1 []] fun r1 o1=>.al (r1=.vec 1/\(o1.tail.hO)=.vec 1 (o1.tail.hO).es)<|.loop HT FW [a1,VI 0] [.cells [VS a0_0,a0_1],.cells [VS (mk []),.v (.slice none 0 0)],.vec 1 ((o1.tail.hO).es)] (fun y3 q3=>.al ((q3.hO)=.cells (q3.hO).cs)<|.al (ac [.lk .str,.lk .sl] ((q3.hO).cs) 0 q3.tail)<|.al (((q3.tail.drop 0).hO)=.cells ((q3.tail.drop 0).hO).cs)<|.al (ac [.lk .str,.lk .sl] (((q3.tail.drop 0).hO).cs) 0 ((q3.tail.drop 0).tail))<|.al (((q3.drop 2).hO)=.vec 1 ((q3.drop 2).hO).es)<|.call 143 [.agg [VS (((q3.hO).cs.getD 0 .any).ai),((q3.hO).cs.getD 1 .any)],.sl [],.sl [],.ref 0 0] [.cells [.vec 1,VI 0],.vec 1 ((q3.tail.tail.hO).es)] fun r4 o4=>.al ((o4.hO)=.cells (o4.hO).cs)<|.al (bo [.vec 1,.lk (.int .i64)] ((o4.hO).cs) 0 1 o4.tail)<|NA r4<|.done 0 [.agg [VS ((r4.cs.getD 0 .any).ai),(r4.cs.getD 1 .any)]] []) (fun y3 q3=>.fail)
theorem Ou(a0_0:ByteArray)(a0_1:AV)(a1:AV)(ha0_1:LK.has .sl a0_1)(ha1:LK.has .sl a1)(h:dm 33 (If a0_0 a0_1 a1) R):an Tryz.prog 106 [.agg [VS a0_0,a0_1],a1] [] R :=
 uQ (af (bP (af (au _) (af (bU ha0_1) aA))) (af (bU ha1) aA)) (oQ IW Tryz.f106 h)
def F1(x1:AV)(x6:Int)(o2_0:ByteArray)(o2_1:AV)(o4_0:ByteArray)(o4_1:AV)(e5:List (List AV)):Tree :=
 NL x1<|NI (VI x6)<|.al (Ob.cells [VS o2_0,o2_1]=.cells [VS o2_0,o2_1])<|.al (ac [.lk .str,.lk .sl] [VS o2_0,o2_1] 0 [.cells [VS o4_0,o4_1],.vec 1 e5])<|.al (Ob.cells [VS o4_0,o4_1]=.cells [VS o4_0,o4_1])<|.al (ac [.lk .str,.lk .sl] [VS o4_0,o4_1] 0 [.vec 1 e5])<|.al (Ob.vec 1 e5=.vec 1 e5)<|NL x1<|.test (decide (x6<(x1.aS.length:Int))) (NG x1 x6 2<|NE (x1.ix x6)<|.call 137 [.agg [VS (((x1.ix x6).getD 0 .any).ai),((x1.ix x6).getD 1 .any)],.sl [],.vec 0] [.vec 1 []] fun r1 o1=>.al (r1=.vec 1/\(o1.tail.hO)=.vec 1 (o1.tail.hO).es)<|.al (cw 1 ((o1.tail.hO).es)/\((e5.length)+((o1.tail.hO).es).length)*16<=140737488355328)<|.done 0 [x1,VI (IntKind.wrap .i64 (x6+1))] [.cells [VS o2_0,o2_1],.cells [VS o4_0,o4_1],.vec 1 (e5++((o1.tail.hO).es))]) (.done 1 [] [.cells [VS o2_0,o2_1],.cells [VS o4_0,o4_1],.vec 1 e5])
abbrev Eu:=cx Tryz.prog 33 HT FW
theorem KT(x1:AV)(x6:Int)(o2_0:ByteArray)(o2_1:AV)(o4_0:ByteArray)(o4_1:AV)(e5:List (List AV))(h:jV 33 (F1 x1 x6 o2_0 o2_1 o4_0 o4_1 e5) Eu U):Eu [x1,VI x6] [.cells [VS o2_0,o2_1],.cells [VS o4_0,o4_1],.vec 1 e5] U :=
 gQ IW h
def Mm(a0:ByteArray):Tree :=
 .call 93 [VS a0] [] fun r1 o1=>NP r1<|NP r1<|.test r1.isNil (.done 0 [.v (.pointer none)] []) (NZ r1<|NZ r1<|.al (LK.has (.int .u8) (r1.deref.hA)/\1<=r1.deref.length)<|.test (((r1.deref.hA).toInt) != (114:Int)) (.done 0 [.v (.pointer none)] []) (.done 0 [r1] []))
theorem NR(a0:ByteArray)(h:dm 16 (Mm a0) R):an Tryz.prog 107 [VS a0] [] R :=
 uQ (af (au _) aA) (oQ [] Tryz.f107 h)
def K2(a0:ByteArray):Tree :=
 .call 128 [VS a0] [] fun r1 o1=>NP r1<|NP r1<|.test r1.isNil (.done 0 [.v (.pointer none)] []) (.call 144 [r1,.v (.slice none 0 0)] [] fun r2 o2=>NP r2<|NP r2<|.test r2.isNil (.done 0 [.v (.pointer none)] []) (.call 145 [r2] [] fun r3 o3=>NI r3<|.test (decide (r3.toInt>(400:Int))) (.done 0 [.v (.pointer none)] []) (.done 0 [r2] [])))
theorem Qg(a0:ByteArray)(h:dm 19 (K2 a0) R):an Tryz.prog 108 [VS a0] [] R :=
 uQ (af (au _) aA) (oQ [] Tryz.f108 h)
def Kh(a0:AV):Tree :=
 .call 146 [.ref 0 0] [.cells [VI 0,VB false]] fun r1 o1=>.al ((o1.hO)=.cells (o1.hO).cs)<|.al (bo [.lk (.int .i64),.lk .bool] ((o1.hO).cs) 0 1 o1.tail)<|NS r1<|NZ a0<|NZ a0<|dQ (a0.deref.drop 3)<|.call 149 [((a0.deref.drop 3).hA),.ptr [.v (.int .u8 110),VS r1.ai,VI 0,.v (.pointer none),.v (.pointer none)],VI 0] [] fun r2 o2=>NP r2<|.call 148 [.ref 0 0,r2,VS r1.ai] [.cells [VI (((o1.hO).cs.getD 0 .any).toInt),VB (((o1.hO).cs.getD 1 .any).toBool)]] fun r3 o3=>.al ((o3.hO)=.cells (o3.hO).cs)<|.al (bo [.lk (.int .i64),.lk .bool] ((o3.hO).cs) 0 1 o3.tail)<|NP r3<|.call 147 [.ref 0 0,r3] [.cells [VI (((o3.hO).cs.getD 0 .any).toInt),VB (((o3.hO).cs.getD 1 .any).toBool)]] fun r4 o4=>.al ((o4.hO)=.cells (o4.hO).cs)<|.al (bo [.lk (.int .i64),.lk .bool] ((o4.hO).cs) 0 1 o4.tail)<|NP r4<|.test (((o4.hO).cs.getD 1 .any).toBool) (.done 0 [.cv [.v (.pointer none),VB false]] []) (.call 150 [r4,VS r1.ai,a0] [] fun r5 o5=>NP r5<|.call 147 [.ref 0 0,r5] [.cells [VI (((o4.hO).cs.getD 0 .any).toInt),VB (((o4.hO).cs.getD 1 .any).toBool)]] fun r6 o6=>.al ((o6.hO)=.cells (o6.hO).cs)<|.al (bo [.lk (.int .i64),.lk .bool] ((o6.hO).cs) 0 1 o6.tail)<|NP r6<|.done 0 [.cv [r6,VB (!(((o6.hO).cs.getD 1 .any).toBool))]] [])
theorem Od(a0:AV)(ha0:LK.has .ptr a0)(h:dm 40 (Kh a0) R):an Tryz.prog 109 [a0] [] R :=
 uQ (af (bz ha0) aA) (oQ [] Tryz.f109 h)
def H7(a0:AV):Tree :=
 .call 145 [a0] [] fun r1 o1=>NI r1<|.test (decide (r1.toInt>(400:Int))) (.done 0 [.cv [VS (mk []),VB false]] []) (.call 151 [a0] [] fun r2 o2=>NS r2<|.call 108 [VS r2.ai] [] fun r3 o3=>NP r3<|NP r3<|.test r3.isNil (.done 0 [.cv [VS (mk []),VB false]] []) (.done 0 [.cv [VS r2.ai,VB true]] []))
theorem QD(a0:AV)(ha0:LK.has .ptr a0)(h:dm 14 (H7 a0) R):an Tryz.prog 110 [a0] [] R :=
 uQ (af (bz ha0) aA) (oQ [] Tryz.f110 h)
def Df(a0_0:ByteArray)(a0_1:AV)(a1_0:AV)(a1_1:AV):Tree :=
 NP a0_1<|.test (!a0_1.isNil) (NZ a1_0<|NZ a1_0<|.al (LK.has (.int .u8) (a1_0.deref.hA)/\1<=a1_0.deref.length)<|.test (((a1_0.deref.hA).toInt)==(98:Int)) (.call 131 [.agg [a1_0,a1_1]] [] fun r1 o1=>NP r1<|.al (AV.qI r1/\AV.qI a0_1)<|.done 0 [VB (AV.BG r1 a0_1)] []) (.done 0 [VB false] [])) (NZ a1_0<|NZ a1_0<|.al (LK.has (.int .u8) (a1_0.deref.hA)/\1<=a1_0.deref.length)<|.test (((a1_0.deref.hA).toInt)==(110:Int)) (NZ a1_0<|NZ a1_0<|l9 (a1_0.deref.drop 1)<|.done 0 [VB (ae (((a1_0.deref.drop 1).hA).ai)==ae a0_0)] []) (.done 0 [VB false] []))
theorem N1(a0_0:ByteArray)(a0_1:AV)(a1_0:AV)(a1_1:AV)(ha0_1:LK.has .ptr a0_1)(ha1_0:LK.has .ptr a1_0)(ha1_1:LK.has .ptr a1_1)(h:dm 37 (Df a0_0 a0_1 a1_0 a1_1) R):an Tryz.prog 111 [.agg [VS a0_0,a0_1],.agg [a1_0,a1_1]] [] R :=
 uQ (af (bP (af (au _) (af (bz ha0_1) aA))) (af (bP (af (bz ha1_0) (af (bz ha1_1) aA))) aA)) (oQ [] Tryz.f111 h)
def GP:LI:={hd:={bJ:=[(7,.k .sl),(8,.k (.int .i64)),(9,.k (.int .i64))],refs:=[(2,1)],ck:=[(0,[.lk .ptr]),(1,[.vec 2])],Ay:=[(1,115,[0])]},xs:={ck:=[(0,[.lk .ptr]),(1,[.vec 2])]},rt:={ck:=[(0,[.lk .ptr]),(1,[.vec 2])]},ex:=0,fx:=[0,1]}
def K6:Code:=cB (cy Tryz.f112) 1
def Ki:List (Nat×LI):=[(1,GP)]
def IN(a0:AV)(a1_0_0:AV)(e2_0:List (List AV)):Tree :=
 NL a0<|.loop K6 GP [a0,VI (a0.aS.length:Int),VI 0] [.cells [a1_0_0],.cells [.any],.vec 2 e2_0] (fun y2 q2=>.al ((q2.hO)=.cells (q2.hO).cs)<|.al (ac [.lk .ptr] ((q2.hO).cs) 0 q2.tail)<|.al (((q2.tail.drop 0).hO)=.cells ((q2.tail.drop 0).hO).cs)<|.al (ac [.vec 2] (((q2.tail.drop 0).hO).cs) 0 ((q2.tail.drop 0).tail))<|.done 0 [.any] [.cells [((q2.hO).cs.getD 0 .any)],.cells [.vec 2],.vec 2 ((q2.tail.tail.hO).es)]) (fun y2 q2=>.al ((q2.hO)=.cells (q2.hO).cs)<|.al (ac [.lk .ptr] ((q2.hO).cs) 0 q2.tail)<|.al (((q2.tail.drop 0).hO)=.cells ((q2.tail.drop 0).hO).cs)<|.al (ac [.vec 2] (((q2.tail.drop 0).hO).cs) 0 ((q2.tail.drop 0).tail))<|.done 0 [.any] [.cells [((q2.hO).cs.getD 0 .any)],.cells [.vec 2],.vec 2 ((q2.tail.tail.hO).es)])
theorem PB(a0:AV)(a1_0_0:AV)(e2_0:List (List AV))(ha0:LK.has .sl a0)(ha1_0_0:LK.has .ptr a1_0_0)(h:dm 24 (IN a0 a1_0_0 e2_0) R):an Tryz.prog 112 [a0,.fn 115 [.ref 0 0],.ref 1 0] [.cells [a1_0_0],.cells [.vec 2],.vec 2 e2_0] R :=
 an.tE (cg (cV (af (bz ha1_0_0) aA)) (cg (cV (af (au _) aA)) (cg (gk _) dI))) (an.up (af (bU ha0) (af (au _) (af (au _) aA))) (oF Ki {mu:=[(1,.fn [some (.obj [.lk .ptr])]),(2,.one (.obj [.vec 2]))],own:=[]} Tryz.f112 h))
def DW(x7:AV)(x8:Int)(x9:Int)(o0_0:AV)(o1_0:List (List AV)):Tree :=
 NL x7<|NI (VI x8)<|NI (VI x9)<|.al (Ob.cells [o0_0]=.cells [o0_0])<|.al (ac [.lk .ptr] [o0_0] 0 [.cells [.any],.vec 2 o1_0])<|.al (Ob.cells [.any]=.cells [.any])<|.al (ac [.vec 2] [.any] 0 [.vec 2 o1_0])<|.test (decide (x9<x8)) (NG x7 x9 2<|.al (bu [.ptr,.ptr] (x7.ix x9) 0/\2<=(x7.ix x9).length)<|.call 115 [((x7.ix x9).getD 0 .any),.ref 0 0] [.cells [o0_0]] fun r1 o1=>.al ((o1.hO)=.cells (o1.hO).cs)<|.al (bo [.lk .ptr] ((o1.hO).cs) 0 1 o1.tail)<|NP r1<|.al (cw 2 [[r1,((x7.ix x9).getD 1 .any)]]/\((o1_0.length)+([[r1,((x7.ix x9).getD 1 .any)]]:List (List AV)).length)*16<=140737488355328)<|.done 0 [x7,VI x8,VI (IntKind.wrap .i64 (x9+1))] [.cells [((o1.hO).cs.getD 0 .any)],.cells [.any],.vec 2 (o1_0++([[r1,((x7.ix x9).getD 1 .any)]]:List (List AV)))]) (.done 1 [] [.cells [o0_0],.cells [.any],.vec 2 o1_0])
abbrev FQ:=cx Tryz.prog 24 K6 GP
theorem H9(x7:AV)(x8:Int)(x9:Int)(o0_0:AV)(o1_0:List (List AV))(h:jV 24 (DW x7 x8 x9 o0_0 o1_0) FQ U):FQ [x7,VI x8,VI x9] [.cells [o0_0],.cells [.any],.vec 2 o1_0] U :=
 gQ Ki h
def FR:LI:={hd:={bJ:=[(7,.k .sl),(8,.k (.int .i64)),(9,.k (.int .i64))],refs:=[(2,1)],ck:=[(0,[.lk .ptr]),(1,[.vec 2])],Ay:=[(1,116,[0])]},xs:={ck:=[(0,[.lk .ptr]),(1,[.vec 2])]},rt:={ck:=[(0,[.lk .ptr]),(1,[.vec 2])]},ex:=0,fx:=[0,1]}
def KA:Code:=cB (cy Tryz.f112) 1
def Mv:List (Nat×LI):=[(1,FR)]
def H5(a0:AV)(a1_0_0:AV)(e2_0:List (List AV)):Tree :=
 NL a0<|.loop KA FR [a0,VI (a0.aS.length:Int),VI 0] [.cells [a1_0_0],.cells [.any],.vec 2 e2_0] (fun y2 q2=>.al ((q2.hO)=.cells (q2.hO).cs)<|.al (ac [.lk .ptr] ((q2.hO).cs) 0 q2.tail)<|.al (((q2.tail.drop 0).hO)=.cells ((q2.tail.drop 0).hO).cs)<|.al (ac [.vec 2] (((q2.tail.drop 0).hO).cs) 0 ((q2.tail.drop 0).tail))<|.done 0 [.any] [.cells [((q2.hO).cs.getD 0 .any)],.cells [.vec 2],.vec 2 ((q2.tail.tail.hO).es)]) (fun y2 q2=>.al ((q2.hO)=.cells (q2.hO).cs)<|.al (ac [.lk .ptr] ((q2.hO).cs) 0 q2.tail)<|.al (((q2.tail.drop 0).hO)=.cells ((q2.tail.drop 0).hO).cs)<|.al (ac [.vec 2] (((q2.tail.drop 0).hO).cs) 0 ((q2.tail.drop 0).tail))<|.done 0 [.any] [.cells [((q2.hO).cs.getD 0 .any)],.cells [.vec 2],.vec 2 ((q2.tail.tail.hO).es)])
theorem O9(a0:AV)(a1_0_0:AV)(e2_0:List (List AV))(ha0:LK.has .sl a0)(ha1_0_0:LK.has .ptr a1_0_0)(h:dm 24 (H5 a0 a1_0_0 e2_0) R):an Tryz.prog 112 [a0,.fn 116 [.ref 0 0],.ref 1 0] [.cells [a1_0_0],.cells [.vec 2],.vec 2 e2_0] R :=
 an.tE (cg (cV (af (bz ha1_0_0) aA)) (cg (cV (af (au _) aA)) (cg (gk _) dI))) (an.up (af (bU ha0) (af (au _) (af (au _) aA))) (oF Mv {mu:=[(1,.fn [some (.obj [.lk .ptr])]),(2,.one (.obj [.vec 2]))],own:=[]} Tryz.f112 h))
def Ho(x7:AV)(x8:Int)(x9:Int)(o0_0:AV)(o1_0:List (List AV)):Tree :=
 NL x7<|NI (VI x8)<|NI (VI x9)<|.al (Ob.cells [o0_0]=.cells [o0_0])<|.al (ac [.lk .ptr] [o0_0] 0 [.cells [.any],.vec 2 o1_0])<|.al (Ob.cells [.any]=.cells [.any])<|.al (ac [.vec 2] [.any] 0 [.vec 2 o1_0])<|.test (decide (x9<x8)) (NG x7 x9 2<|.al (bu [.ptr,.ptr] (x7.ix x9) 0/\2<=(x7.ix x9).length)<|.call 116 [((x7.ix x9).getD 0 .any),.ref 0 0] [.cells [o0_0]] fun r1 o1=>.al ((o1.hO)=.cells (o1.hO).cs)<|.al (bo [.lk .ptr] ((o1.hO).cs) 0 1 o1.tail)<|NP r1<|.al (cw 2 [[r1,((x7.ix x9).getD 1 .any)]]/\((o1_0.length)+([[r1,((x7.ix x9).getD 1 .any)]]:List (List AV)).length)*16<=140737488355328)<|.done 0 [x7,VI x8,VI (IntKind.wrap .i64 (x9+1))] [.cells [((o1.hO).cs.getD 0 .any)],.cells [.any],.vec 2 (o1_0++([[r1,((x7.ix x9).getD 1 .any)]]:List (List AV)))]) (.done 1 [] [.cells [o0_0],.cells [.any],.vec 2 o1_0])
abbrev Fu:=cx Tryz.prog 24 KA FR
theorem KC(x7:AV)(x8:Int)(x9:Int)(o0_0:AV)(o1_0:List (List AV))(h:jV 24 (Ho x7 x8 x9 o0_0 o1_0) Fu U):Fu [x7,VI x8,VI x9] [.cells [o0_0],.cells [.any],.vec 2 o1_0] U :=
 gQ Mv h
def D1:LI:={hd:={bJ:=[(7,.k .sl),(8,.k (.int .i64)),(9,.k (.int .i64))],refs:=[(2,1)],ck:=[(0,[.lk .ptr]),(1,[.vec 2])],Ay:=[(1,118,[0])]},xs:={ck:=[(0,[.lk .ptr]),(1,[.vec 2])]},rt:={ck:=[(0,[.lk .ptr]),(1,[.vec 2])]},ex:=0,fx:=[0,1]}
def JL:Code:=cB (cy Tryz.f112) 1
def IX:List (Nat×LI):=[(1,D1)]
def Hx(a0:AV)(a1_0_0:AV)(e2_0:List (List AV)):Tree :=
 NL a0<|.loop JL D1 [a0,VI (a0.aS.length:Int),VI 0] [.cells [a1_0_0],.cells [.any],.vec 2 e2_0] (fun y2 q2=>.al ((q2.hO)=.cells (q2.hO).cs)<|.al (ac [.lk .ptr] ((q2.hO).cs) 0 q2.tail)<|.al (((q2.tail.drop 0).hO)=.cells ((q2.tail.drop 0).hO).cs)<|.al (ac [.vec 2] (((q2.tail.drop 0).hO).cs) 0 ((q2.tail.drop 0).tail))<|.done 0 [.any] [.cells [((q2.hO).cs.getD 0 .any)],.cells [.vec 2],.vec 2 ((q2.tail.tail.hO).es)]) (fun y2 q2=>.al ((q2.hO)=.cells (q2.hO).cs)<|.al (ac [.lk .ptr] ((q2.hO).cs) 0 q2.tail)<|.al (((q2.tail.drop 0).hO)=.cells ((q2.tail.drop 0).hO).cs)<|.al (ac [.vec 2] (((q2.tail.drop 0).hO).cs) 0 ((q2.tail.drop 0).tail))<|.done 0 [.any] [.cells [((q2.hO).cs.getD 0 .any)],.cells [.vec 2],.vec 2 ((q2.tail.tail.hO).es)])
theorem Nj(a0:AV)(a1_0_0:AV)(e2_0:List (List AV))(ha0:LK.has .sl a0)(ha1_0_0:LK.has .ptr a1_0_0)(h:dm 24 (Hx a0 a1_0_0 e2_0) R):an Tryz.prog 112 [a0,.fn 118 [.ref 0 0],.ref 1 0] [.cells [a1_0_0],.cells [.vec 2],.vec 2 e2_0] R :=
 an.tE (cg (cV (af (bz ha1_0_0) aA)) (cg (cV (af (au _) aA)) (cg (gk _) dI))) (an.up (af (bU ha0) (af (au _) (af (au _) aA))) (oF IX {mu:=[(1,.fn [some (.obj [.lk .ptr])]),(2,.one (.obj [.vec 2]))],own:=[]} Tryz.f112 h))
def Hc(x7:AV)(x8:Int)(x9:Int)(o0_0:AV)(o1_0:List (List AV)):Tree :=
 NL x7<|NI (VI x8)<|NI (VI x9)<|.al (Ob.cells [o0_0]=.cells [o0_0])<|.al (ac [.lk .ptr] [o0_0] 0 [.cells [.any],.vec 2 o1_0])<|.al (Ob.cells [.any]=.cells [.any])<|.al (ac [.vec 2] [.any] 0 [.vec 2 o1_0])<|.test (decide (x9<x8)) (NG x7 x9 2<|.al (bu [.ptr,.ptr] (x7.ix x9) 0/\2<=(x7.ix x9).length)<|.call 118 [((x7.ix x9).getD 0 .any),.ref 0 0] [.cells [o0_0]] fun r1 o1=>.al ((o1.hO)=.cells (o1.hO).cs)<|.al (bo [.lk .ptr] ((o1.hO).cs) 0 1 o1.tail)<|NP r1<|.al (cw 2 [[r1,((x7.ix x9).getD 1 .any)]]/\((o1_0.length)+([[r1,((x7.ix x9).getD 1 .any)]]:List (List AV)).length)*16<=140737488355328)<|.done 0 [x7,VI x8,VI (IntKind.wrap .i64 (x9+1))] [.cells [((o1.hO).cs.getD 0 .any)],.cells [.any],.vec 2 (o1_0++([[r1,((x7.ix x9).getD 1 .any)]]:List (List AV)))]) (.done 1 [] [.cells [o0_0],.cells [.any],.vec 2 o1_0])
abbrev Fe:=cx Tryz.prog 24 JL D1
theorem MD(x7:AV)(x8:Int)(x9:Int)(o0_0:AV)(o1_0:List (List AV))(h:jV 24 (Hc x7 x8 x9 o0_0 o1_0) Fe U):Fe [x7,VI x8,VI x9] [.cells [o0_0],.cells [.any],.vec 2 o1_0] U :=
 gQ IX h
def E6:LI:={hd:={bJ:=[(1,.c (.func (.func 119) #[] #[])),(7,.k .sl),(8,.k (.int .i64)),(9,.k (.int .i64))],refs:=[(2,0)],ck:=[(0,[.vec 2])]},xs:={ck:=[(0,[.vec 2])]},rt:={ck:=[(0,[.vec 2])]},ex:=0,fx:=[0]}
def L5:Code:=cB (cy Tryz.f112) 1
def LZ:List (Nat×LI):=[(1,E6)]
def M7(a0:AV)(e2_0:List (List AV)):Tree :=
 NL a0<|.loop L5 E6 [.v (.func (.func 119) #[] #[]),a0,VI (a0.aS.length:Int),VI 0] [.cells [.any],.vec 2 e2_0] (fun y2 q2=>.al ((q2.hO)=.cells (q2.hO).cs)<|.al (ac [.vec 2] ((q2.hO).cs) 0 q2.tail)<|.done 0 [.any] [.cells [.vec 1],.vec 2 ((q2.tail.hO).es)]) (fun y2 q2=>.al ((q2.hO)=.cells (q2.hO).cs)<|.al (ac [.vec 2] ((q2.hO).cs) 0 q2.tail)<|.done 0 [.any] [.cells [.vec 1],.vec 2 ((q2.tail.hO).es)])
theorem Qs(a0:AV)(e2_0:List (List AV))(ha0:LK.has .sl a0)(h:dm 24 (M7 a0 e2_0) R):an Tryz.prog 112 [a0,.v (.func (.func 119) #[] #[]),.ref 0 0] [.cells [.vec 1],.vec 2 e2_0] R :=
 an.tE (cg (cV (af (au _) aA)) (cg (gk _) dI)) (an.up (af (bU ha0) (af (au _) (af (au _) aA))) (oF LZ {mu:=[(2,.one (.obj [.vec 2]))],own:=[]} Tryz.f112 h))
def GJ(x7:AV)(x8:Int)(x9:Int)(o0_0:List (List AV)):Tree :=
 .al (AV.v (.func (.func 119) #[] #[])=.v (.func (.func 119) #[] #[]))<|NL x7<|NI (VI x8)<|NI (VI x9)<|.al (Ob.cells [.any]=.cells [.any])<|.al (ac [.vec 2] [.any] 0 [.vec 2 o0_0])<|.test (decide (x9<x8)) (NG x7 x9 2<|.al (bu [.ptr,.ptr] (x7.ix x9) 0/\2<=(x7.ix x9).length)<|.call 119 [((x7.ix x9).getD 0 .any)] [] fun r1 o1=>NP r1<|.al (cw 2 [[r1,((x7.ix x9).getD 1 .any)]]/\((o0_0.length)+([[r1,((x7.ix x9).getD 1 .any)]]:List (List AV)).length)*16<=140737488355328)<|.done 0 [.v (.func (.func 119) #[] #[]),x7,VI x8,VI (IntKind.wrap .i64 (x9+1))] [.cells [.any],.vec 2 (o0_0++([[r1,((x7.ix x9).getD 1 .any)]]:List (List AV)))]) (.done 1 [] [.cells [.any],.vec 2 o0_0])
abbrev Eo:=cx Tryz.prog 24 L5 E6
theorem Lm(x7:AV)(x8:Int)(x9:Int)(o0_0:List (List AV))(h:jV 24 (GJ x7 x8 x9 o0_0) Eo U):Eo [.v (.func (.func 119) #[] #[]),x7,VI x8,VI x9] [.cells [.any],.vec 2 o0_0] U :=
 gQ LZ h
def Ga:LI:={hd:={bJ:=[(7,.k .sl),(8,.k (.int .i64)),(9,.k (.int .i64))],refs:=[(2,1)],ck:=[(0,[.lk .ptr,.lk .ptr]),(1,[.vec 2])],Ay:=[(1,120,[0])]},xs:={ck:=[(0,[.lk .ptr,.lk .ptr]),(1,[.vec 2])]},rt:={ck:=[(0,[.lk .ptr,.lk .ptr]),(1,[.vec 2])]},ex:=0,fx:=[0,1]}
def LG:Code:=cB (cy Tryz.f112) 1
def IM:List (Nat×LI):=[(1,Ga)]
def J4(a0:AV)(a1_0_0:AV)(a1_0_1:AV)(e2_0:List (List AV)):Tree :=
 NL a0<|.loop LG Ga [a0,VI (a0.aS.length:Int),VI 0] [.cells [a1_0_0,a1_0_1],.cells [.any],.vec 2 e2_0] (fun y2 q2=>.al ((q2.hO)=.cells (q2.hO).cs)<|.al (ac [.lk .ptr,.lk .ptr] ((q2.hO).cs) 0 q2.tail)<|.al (((q2.tail.drop 0).hO)=.cells ((q2.tail.drop 0).hO).cs)<|.al (ac [.vec 2] (((q2.tail.drop 0).hO).cs) 0 ((q2.tail.drop 0).tail))<|.done 0 [.any] [.cells [((q2.hO).cs.getD 0 .any),((q2.hO).cs.getD 1 .any)],.cells [.vec 2],.vec 2 ((q2.tail.tail.hO).es)]) (fun y2 q2=>.al ((q2.hO)=.cells (q2.hO).cs)<|.al (ac [.lk .ptr,.lk .ptr] ((q2.hO).cs) 0 q2.tail)<|.al (((q2.tail.drop 0).hO)=.cells ((q2.tail.drop 0).hO).cs)<|.al (ac [.vec 2] (((q2.tail.drop 0).hO).cs) 0 ((q2.tail.drop 0).tail))<|.done 0 [.any] [.cells [((q2.hO).cs.getD 0 .any),((q2.hO).cs.getD 1 .any)],.cells [.vec 2],.vec 2 ((q2.tail.tail.hO).es)])
theorem Qn(a0:AV)(a1_0_0:AV)(a1_0_1:AV)(e2_0:List (List AV))(ha0:LK.has .sl a0)(ha1_0_0:LK.has .ptr a1_0_0)(ha1_0_1:LK.has .ptr a1_0_1)(h:dm 24 (J4 a0 a1_0_0 a1_0_1 e2_0) R):an Tryz.prog 112 [a0,.fn 120 [.ref 0 0],.ref 1 0] [.cells [a1_0_0,a1_0_1],.cells [.vec 2],.vec 2 e2_0] R :=
 an.tE (cg (cV (af (bz ha1_0_0) (af (bz ha1_0_1) aA))) (cg (cV (af (au _) aA)) (cg (gk _) dI))) (an.up (af (bU ha0) (af (au _) (af (au _) aA))) (oF IM {mu:=[(1,.fn [some (.obj [.lk .ptr,.lk .ptr])]),(2,.one (.obj [.vec 2]))],own:=[]} Tryz.f112 h))
def Fk(x7:AV)(x8:Int)(x9:Int)(o0_0:AV)(o0_1:AV)(o1_0:List (List AV)):Tree :=
 NL x7<|NI (VI x8)<|NI (VI x9)<|.al (Ob.cells [o0_0,o0_1]=.cells [o0_0,o0_1])<|.al (ac [.lk .ptr,.lk .ptr] [o0_0,o0_1] 0 [.cells [.any],.vec 2 o1_0])<|.al (Ob.cells [.any]=.cells [.any])<|.al (ac [.vec 2] [.any] 0 [.vec 2 o1_0])<|.test (decide (x9<x8)) (NG x7 x9 2<|.al (bu [.ptr,.ptr] (x7.ix x9) 0/\2<=(x7.ix x9).length)<|.call 120 [((x7.ix x9).getD 0 .any),.ref 0 0] [.cells [o0_0,o0_1]] fun r1 o1=>.al ((o1.hO)=.cells (o1.hO).cs)<|.al (bo [.lk .ptr,.lk .ptr] ((o1.hO).cs) 0 1 o1.tail)<|NP r1<|.al (cw 2 [[r1,((x7.ix x9).getD 1 .any)]]/\((o1_0.length)+([[r1,((x7.ix x9).getD 1 .any)]]:List (List AV)).length)*16<=140737488355328)<|.done 0 [x7,VI x8,VI (IntKind.wrap .i64 (x9+1))] [.cells [((o1.hO).cs.getD 0 .any),((o1.hO).cs.getD 1 .any)],.cells [.any],.vec 2 (o1_0++([[r1,((x7.ix x9).getD 1 .any)]]:List (List AV)))]) (.done 1 [] [.cells [o0_0,o0_1],.cells [.any],.vec 2 o1_0])
abbrev Fc:=cx Tryz.prog 24 LG Ga
theorem K0(x7:AV)(x8:Int)(x9:Int)(o0_0:AV)(o0_1:AV)(o1_0:List (List AV))(h:jV 24 (Fk x7 x8 x9 o0_0 o0_1 o1_0) Fc U):Fc [x7,VI x8,VI x9] [.cells [o0_0,o0_1],.cells [.any],.vec 2 o1_0] U :=
 gQ IM h
def Jp(a0_0:AV)(a0_1:AV):Tree :=
 NZ a0_0<|NZ a0_0<|dQ (a0_0.deref.drop 3)<|.done 0 [.agg [((a0_0.deref.drop 3).hA),a0_1]] []
theorem PN(a0_0:AV)(a0_1:AV)(ha0_0:LK.has .ptr a0_0)(ha0_1:LK.has .ptr a0_1)(h:dm 11 (Jp a0_0 a0_1) R):an Tryz.prog 113 [.agg [a0_0,a0_1]] [] R :=
 uQ (af (bP (af (bz ha0_0) (af (bz ha0_1) aA))) aA) (oQ [] Tryz.f113 h)
def LQ(a0_0:AV)(a0_1:AV):Tree :=
 NZ a0_0<|NZ a0_0<|dQ (a0_0.deref.drop 4)<|.done 0 [.agg [((a0_0.deref.drop 4).hA),a0_1]] []
theorem Px(a0_0:AV)(a0_1:AV)(ha0_0:LK.has .ptr a0_0)(ha0_1:LK.has .ptr a0_1)(h:dm 11 (LQ a0_0 a0_1) R):an Tryz.prog 114 [.agg [a0_0,a0_1]] [] R :=
 uQ (af (bP (af (bz ha0_0) (af (bz ha0_1) aA))) aA) (oQ [] Tryz.f114 h)
def Gz(a0:AV)(a1_0:AV):Tree :=
 NZ a1_0<|NZ a1_0<|.al (LK.has (.int .u8) (a1_0.deref.hA)/\1<=a1_0.deref.length)<|.call 100 [.v (.int .u8 ((a1_0.deref.hA).toInt)),a0] [] fun r1 o1=>NP r1<|.done 0 [r1] [.cells [a1_0]]
theorem Mb(a0:AV)(a1_0:AV)(ha0:LK.has .ptr a0)(ha1_0:LK.has .ptr a1_0)(h:dm 10 (Gz a0 a1_0) R):an Tryz.prog 115 [a0,.ref 0 0] [.cells [a1_0]] R :=
 an.tE (cg (cV (af (bz ha1_0) aA)) dI) (an.up (af (bz ha0) (af (au _) aA)) (oF [] {mu:=[(1,.one (.obj [.lk .ptr]))],own:=[]} Tryz.f115 h))
def MQ(a0:AV)(a1_0:AV):Tree :=
 NZ a1_0<|NZ a1_0<|dQ (a1_0.deref.drop 3)<|.call 117 [a0,((a1_0.deref.drop 3).hA)] [] fun r1 o1=>NP r1<|.call 100 [.v (.int .u8 108),r1] [] fun r2 o2=>NP r2<|.done 0 [r2] [.cells [a1_0]]
theorem P9(a0:AV)(a1_0:AV)(ha0:LK.has .ptr a0)(ha1_0:LK.has .ptr a1_0)(h:dm 11 (MQ a0 a1_0) R):an Tryz.prog 116 [a0,.ref 0 0] [.cells [a1_0]] R :=
 an.tE (cg (cV (af (bz ha1_0) aA)) dI) (an.up (af (bz ha0) (af (au _) aA)) (oF [] {mu:=[(1,.one (.obj [.lk .ptr]))],own:=[]} Tryz.f116 h))
def Ix(a0:AV)(a1:AV):Tree :=
 .done 0 [.ptr [.v (.int .u8 112),VS (mk []),a0,a1]] []
theorem Qi(a0:AV)(a1:AV)(ha0:LK.has .ptr a0)(ha1:LK.has .ptr a1)(h:dm 9 (Ix a0 a1) R):an Tryz.prog 117 [a0,a1] [] R :=
 uQ (af (bz ha0) (af (bz ha1) aA)) (oQ [] Tryz.f117 h)
def Jl(a0:AV)(a1_0:AV):Tree :=
 NZ a1_0<|NZ a1_0<|dQ (a1_0.deref.drop 2)<|.call 117 [((a1_0.deref.drop 2).hA),a0] [] fun r1 o1=>NP r1<|.call 100 [.v (.int .u8 114),r1] [] fun r2 o2=>NP r2<|.done 0 [r2] [.cells [a1_0]]
theorem Nx(a0:AV)(a1_0:AV)(ha0:LK.has .ptr a0)(ha1_0:LK.has .ptr a1_0)(h:dm 11 (Jl a0 a1_0) R):an Tryz.prog 118 [a0,.ref 0 0] [.cells [a1_0]] R :=
 an.tE (cg (cV (af (bz ha1_0) aA)) dI) (an.up (af (bz ha0) (af (au _) aA)) (oF [] {mu:=[(1,.one (.obj [.lk .ptr]))],own:=[]} Tryz.f118 h))
def JC(a0:AV):Tree :=
 .call 100 [.v (.int .u8 108),a0] [] fun r1 o1=>NP r1<|.call 100 [.v (.int .u8 102),r1] [] fun r2 o2=>NP r2<|.done 0 [r2] []
theorem P4(a0:AV)(ha0:LK.has .ptr a0)(h:dm 6 (JC a0) R):an Tryz.prog 119 [a0] [] R :=
 uQ (af (bz ha0) aA) (oQ [] Tryz.f119 h)
def Ks(a0:AV)(a1_0:AV)(a1_1:AV):Tree :=
 .call 117 [a1_0,a0] [] fun r1 o1=>NP r1<|.call 100 [.v (.int .u8 114),r1] [] fun r2 o2=>NP r2<|.call 100 [.v (.int .u8 102),r2] [] fun r3 o3=>NP r3<|.done 0 [r3] [.cells [a1_0,a1_1]]
theorem Qe(a0:AV)(a1_0:AV)(a1_1:AV)(ha0:LK.has .ptr a0)(ha1_0:LK.has .ptr a1_0)(ha1_1:LK.has .ptr a1_1)(h:dm 10 (Ks a0 a1_0 a1_1) R):an Tryz.prog 120 [a0,.ref 0 0] [.cells [a1_0,a1_1]] R :=
 an.tE (cg (cV (af (bz ha1_0) (af (bz ha1_1) aA))) dI) (an.up (af (bz ha0) (af (au _) aA)) (oF [] {mu:=[(1,.one (.obj [.lk .ptr,.lk .ptr]))],own:=[]} Tryz.f120 h))
def BM(a0_0:ByteArray)(a0_1:AV):Tree :=
 .test (!(ae a0_0==ae (mk []))) (.done 0 [VS (mk [])] []) (NL a0_1<|.test ((a0_1.aS.length:Int)==(0:Int)) (.done 0 [VS (mk [])] []) (NG a0_1 0 2<|l9 (a0_1.ix (0:Int))<|.done 0 [VS (((a0_1.ix (0:Int)).hA).ai)] []))
theorem Hi(a0_0:ByteArray)(a0_1:AV)(ha0_1:LK.has .sl a0_1)(h:dm 17 (BM a0_0 a0_1) R):an Tryz.prog 121 [.agg [VS a0_0,a0_1]] [] R :=
 uQ (af (bP (af (au _) (af (bU ha0_1) aA))) aA) (oQ [] Tryz.f121 h)
def HN(a0:ByteArray):Tree :=
 .test (decide ((ag a0:Int)>(8000:Int))) (.done 0 [.cv [.agg [VS (mk []),.v (.slice none 0 0)],VB false]] []) (.call 152 [VS a0,VI 0,VI 0] [] fun r1 o1=>NT r1<|.al ((r1.comp 0)=.agg (r1.comp 0).cs/\(r1.comp 0).cs.length=2/\bu [.str,.sl] ((r1.comp 0).cs) 0)<|NI (r1.comp 1)<|.done 0 [.cv [.agg [VS (((r1.comp 0).cs.getD 0 .any).ai),((r1.comp 0).cs.getD 1 .any)],VB (((r1.comp 1).toInt)==(ag a0:Int))]] [])
theorem Nt(a0:ByteArray)(h:dm 20 (HN a0) R):an Tryz.prog 122 [VS a0] [] R :=
 uQ (af (au _) aA) (oQ [] Tryz.f122 h)
def vG(a0_0:ByteArray)(a0_1:AV):Tree :=
 .test (!(ae a0_0==ae (mk []))) (.test (ae a0_0==ae (mk [117])) (.done 0 [VB true] []) (.call 153 [VS a0_0] [] fun r1 o1=>NI r1<|.done 0 [VB (decide (r1.toInt≥(0:Int)))] [])) (.call 121 [.agg [VS a0_0,a0_1]] [] fun r2 o2=>NS r2<|.test (ae r2.ai==ae (mk [108])) (NL a0_1<|.test ((a0_1.aS.length:Int)==(2:Int)) (NG a0_1 1 2<|NE (a0_1.ix (1:Int))<|.call 123 [.agg [VS (((a0_1.ix (1:Int)).getD 0 .any).ai),((a0_1.ix (1:Int)).getD 1 .any)]] [] fun r3 o3=>NB r3<|.done 0 [VB r3.toBool] []) (.done 0 [VB false] [])) (.test (ae r2.ai==ae (mk [114])) (NL a0_1<|.test ((a0_1.aS.length:Int)==(2:Int)) (NG a0_1 1 2<|NE (a0_1.ix (1:Int))<|.call 123 [.agg [VS (((a0_1.ix (1:Int)).getD 0 .any).ai),((a0_1.ix (1:Int)).getD 1 .any)]] [] fun r4 o4=>NB r4<|.done 0 [VB r4.toBool] []) (.done 0 [VB false] [])) (.test (ae r2.ai==ae (mk [102])) (NL a0_1<|.test ((a0_1.aS.length:Int)==(2:Int)) (NG a0_1 1 2<|NE (a0_1.ix (1:Int))<|.call 123 [.agg [VS (((a0_1.ix (1:Int)).getD 0 .any).ai),((a0_1.ix (1:Int)).getD 1 .any)]] [] fun r5 o5=>NB r5<|.done 0 [VB r5.toBool] []) (.done 0 [VB false] [])) (.test (ae r2.ai==ae (mk [112])) (NL a0_1<|.test ((a0_1.aS.length:Int)==(3:Int)) (NG a0_1 1 2<|NE (a0_1.ix (1:Int))<|.call 123 [.agg [VS (((a0_1.ix (1:Int)).getD 0 .any).ai),((a0_1.ix (1:Int)).getD 1 .any)]] [] fun r6 o6=>NB r6<|.test r6.toBool (NG a0_1 2 2<|NE (a0_1.ix (2:Int))<|.call 123 [.agg [VS (((a0_1.ix (2:Int)).getD 0 .any).ai),((a0_1.ix (2:Int)).getD 1 .any)]] [] fun r7 o7=>NB r7<|.done 0 [VB r7.toBool] []) (.done 0 [VB false] [])) (.done 0 [VB false] [])) (.done 0 [VB false] [])))))
theorem yH(a0_0:ByteArray)(a0_1:AV)(ha0_1:LK.has .sl a0_1)(h:dm 52 (vG a0_0 a0_1) R):an Tryz.prog 123 [.agg [VS a0_0,a0_1]] [] R :=
 uQ (af (bP (af (au _) (af (bU ha0_1) aA))) aA) (oQ [] Tryz.f123 h)
def E4:LI:={hd:={bJ:=[(3,.k (.int .i64)),(4,.k (.int .i64))],refs:=[(1,1)],ck:=[(1,[.lk .str,.lk .sl])]},xs:={bJ:=[(3,.k (.int .i64))]},rt:={},ex:=0}
def JQ:Code:=cB (cy Tryz.f124) 3
def JH:List (Nat×LI):=[(3,E4)]
def Fj(a0_0:ByteArray)(a0_1:AV):Tree :=
 .loop JQ E4 [VI 1,VI 1] [.cells [VS a0_0,a0_1]] (fun y2 q2=>NI (y2.hA)<|.done 0 [VI ((y2.hA).toInt)] []) (fun y2 q2=>.done 0 [.any] [])
theorem LL(a0_0:ByteArray)(a0_1:AV)(ha0_1:LK.has .sl a0_1)(h:dm 21 (Fj a0_0 a0_1) R):an Tryz.prog 124 [.agg [VS a0_0,a0_1]] [] R :=
 uQ (af (bP (af (au _) (af (bU ha0_1) aA))) aA) (oQ JH Tryz.f124 h)
def zL(x3:Int)(x4:Int)(o1_0:ByteArray)(o1_1:AV):Tree :=
 NI (VI x3)<|NI (VI x4)<|.al (Ob.cells [VS o1_0,o1_1]=.cells [VS o1_0,o1_1])<|.al (ac [.lk .str,.lk .sl] [VS o1_0,o1_1] 0 [])<|NL o1_1<|.test (decide (x4<(o1_1.aS.length:Int))) (NG o1_1 x4 2<|NE (o1_1.ix x4)<|.call 124 [.agg [VS (((o1_1.ix x4).getD 0 .any).ai),((o1_1.ix x4).getD 1 .any)]] [] fun r1 o1=>NI r1<|.done 0 [VI (IntKind.wrap .i64 (x3+r1.toInt)),VI (IntKind.wrap .i64 (x4+1))] [.cells [VS o1_0,o1_1]]) (.done 1 [VI x3] [])
abbrev Ax:=cx Tryz.prog 21 JQ E4
theorem Dd(x3:Int)(x4:Int)(o1_0:ByteArray)(o1_1:AV)(h:jV 21 (zL x3 x4 o1_0 o1_1) Ax U):Ax [VI x3,VI x4] [.cells [VS o1_0,o1_1]] U :=
 gQ JH h
def Iu(a0_0:ByteArray)(a0_1:AV)(a1:AV)(a2_0:ByteArray)(a2_1:AV)(a3:Int):Tree :=
 .call 154 [.agg [VS a0_0,a0_1],a1] [] fun r1 o1=>NT r1<|.al ((r1.comp 0)=.agg (r1.comp 0).cs/\(r1.comp 0).cs.length=2/\bu [.str,.sl] ((r1.comp 0).cs) 0)<|NL (r1.comp 1)<|.test (!(ae (((r1.comp 0).cs.getD 0 .any).ai)==ae (mk []))) (.test (ae (((r1.comp 0).cs.getD 0 .any).ai)==ae (mk [49])) (.done 0 [VB (ae a2_0==ae (mk [117]))] []) (.call 155 [VS (((r1.comp 0).cs.getD 0 .any).ai)] [] fun r2 o2=>NB r2<|.test r2.toBool (.call 153 [VS a2_0] [] fun r3 o3=>NI r3<|.call 56 [VI r3.toInt,VI 0,VI (IntKind.wrap .i64 (a3-1))] [] fun r4 o4=>NB r4<|.done 0 [VB r4.toBool] []) (.done 0 [VB false] []))) (.call 121 [.agg [VS (((r1.comp 0).cs.getD 0 .any).ai),((r1.comp 0).cs.getD 1 .any)]] [] fun r5 o5=>NS r5<|.call 121 [.agg [VS a2_0,a2_1]] [] fun r6 o6=>NS r6<|.al (ag r5.ai+ag r6.ai<=9223372036854775807)<|.test (ae ((r5.ai:ByteArray)++r6.ai)==ae (mk [43,108])) (NG ((r1.comp 0).cs.getD 1 .any) 1 2<|NE (((r1.comp 0).cs.getD 1 .any).ix (1:Int))<|NG a2_1 1 2<|NE (a2_1.ix (1:Int))<|.call 125 [.agg [VS (((((r1.comp 0).cs.getD 1 .any).ix (1:Int)).getD 0 .any).ai),((((r1.comp 0).cs.getD 1 .any).ix (1:Int)).getD 1 .any)],(r1.comp 1),.agg [VS (((a2_1.ix (1:Int)).getD 0 .any).ai),((a2_1.ix (1:Int)).getD 1 .any)],VI a3] [] fun r7 o7=>NB r7<|.done 0 [VB r7.toBool] []) (.test (ae ((r5.ai:ByteArray)++r6.ai)==ae (mk [43,114])) (NG ((r1.comp 0).cs.getD 1 .any) 2 2<|NE (((r1.comp 0).cs.getD 1 .any).ix (2:Int))<|NG a2_1 1 2<|NE (a2_1.ix (1:Int))<|.call 125 [.agg [VS (((((r1.comp 0).cs.getD 1 .any).ix (2:Int)).getD 0 .any).ai),((((r1.comp 0).cs.getD 1 .any).ix (2:Int)).getD 1 .any)],(r1.comp 1),.agg [VS (((a2_1.ix (1:Int)).getD 0 .any).ai),((a2_1.ix (1:Int)).getD 1 .any)],VI a3] [] fun r8 o8=>NB r8<|.done 0 [VB r8.toBool] []) (.test (ae ((r5.ai:ByteArray)++r6.ai)==ae (mk [42,112])) (NG ((r1.comp 0).cs.getD 1 .any) 1 2<|NE (((r1.comp 0).cs.getD 1 .any).ix (1:Int))<|NG a2_1 1 2<|NE (a2_1.ix (1:Int))<|.call 125 [.agg [VS (((((r1.comp 0).cs.getD 1 .any).ix (1:Int)).getD 0 .any).ai),((((r1.comp 0).cs.getD 1 .any).ix (1:Int)).getD 1 .any)],(r1.comp 1),.agg [VS (((a2_1.ix (1:Int)).getD 0 .any).ai),((a2_1.ix (1:Int)).getD 1 .any)],VI a3] [] fun r9 o9=>NB r9<|.test r9.toBool (NG ((r1.comp 0).cs.getD 1 .any) 2 2<|NE (((r1.comp 0).cs.getD 1 .any).ix (2:Int))<|NG a2_1 2 2<|NE (a2_1.ix (2:Int))<|.call 125 [.agg [VS (((((r1.comp 0).cs.getD 1 .any).ix (2:Int)).getD 0 .any).ai),((((r1.comp 0).cs.getD 1 .any).ix (2:Int)).getD 1 .any)],(r1.comp 1),.agg [VS (((a2_1.ix (2:Int)).getD 0 .any).ai),((a2_1.ix (2:Int)).getD 1 .any)],VI a3] [] fun r10 o10=>NB r10<|.done 0 [VB r10.toBool] []) (.done 0 [VB false] [])) (.test (ae ((r5.ai:ByteArray)++r6.ai)==ae (mk [114,101,99,102])) (.call 156 [.agg [VS (((r1.comp 0).cs.getD 0 .any).ai),((r1.comp 0).cs.getD 1 .any)],(r1.comp 1)] [] fun r11 o11=>NT r11<|.al ((r11.comp 0)=.agg (r11.comp 0).cs/\(r11.comp 0).cs.length=2/\bu [.str,.sl] ((r11.comp 0).cs) 0)<|NL (r11.comp 1)<|NG a2_1 1 2<|NE (a2_1.ix (1:Int))<|.call 125 [.agg [VS (((r11.comp 0).cs.getD 0 .any).ai),((r11.comp 0).cs.getD 1 .any)],(r11.comp 1),.agg [VS (((a2_1.ix (1:Int)).getD 0 .any).ai),((a2_1.ix (1:Int)).getD 1 .any)],VI a3] [] fun r12 o12=>NB r12<|.done 0 [VB r12.toBool] []) (.done 0 [VB false] [])))))
theorem Pv(a0_0:ByteArray)(a0_1:AV)(a1:AV)(a2_0:ByteArray)(a2_1:AV)(a3:Int)(ha0_1:LK.has .sl a0_1)(ha1:LK.has .sl a1)(ha2_1:LK.has .sl a2_1)(h:dm 110 (Iu a0_0 a0_1 a1 a2_0 a2_1 a3) R):an Tryz.prog 125 [.agg [VS a0_0,a0_1],a1,.agg [VS a2_0,a2_1],VI a3] [] R :=
 uQ (af (bP (af (au _) (af (bU ha0_1) aA))) (af (bU ha1) (af (bP (af (au _) (af (bU ha2_1) aA))) (af (au _) aA)))) (oQ [] Tryz.f125 h)
def E0:LI:={hd:={bJ:=[(0,.k .sl),(1,.k .str),(7,.k (.int .i64))],eE:=[(2,4)]},xs:={eE:=[(2,4)]},rt:={},ex:=0}
def KF:Code:=cB (cy Tryz.f126) 2
def IK:List (Nat×LI):=[(2,E0)]
def KJ(a0:AV)(a1:ByteArray)(e2:List (List AV)):Tree :=
 .loop KF E0 [a0,VS a1,VI 0] [.vec 4 e2] (fun y2 q2=>.al (((q2.drop 0).hO)=.vec 4 ((q2.drop 0).hO).es)<|.done 0 [.vec 1] [.dead,.vec 4 ((q2.hO).es)]) (fun y2 q2=>.fail)
theorem Ol(a0:AV)(a1:ByteArray)(e2:List (List AV))(ha0:LK.has .sl a0)(h:dm 32 (KJ a0 a1 e2) R):an Tryz.prog 126 [a0,VS a1,.vec 0] [.vec 4 e2] R :=
 an.tE (cg (gk _) dI) (an.up (af (bU ha0) (af (au _) (af (au _) aA))) (oF IK {mu:=[(2,.one (.vec))],own:=[0]} Tryz.f126 h))
def Gs(x0:AV)(x1:ByteArray)(x7:Int)(e2:List (List AV)):Tree :=
 NL x0<|NS (VS x1)<|NI (VI x7)<|.al (Ob.vec 4 e2=.vec 4 e2)<|NL x0<|.test (decide (x7<(x0.aS.length:Int))) (NG x0 x7 4<|NE (x0.ix x7)<|.call 98 [VS x1,.sl [[VS (((x0.ix x7).getD 0 .any).ai),((x0.ix x7).getD 1 .any)]]] [] fun r1 o1=>NA r1<|NG x0 x7 4<|NE ((x0.ix x7).drop 2)<|.al (cw 4 [[VS ((r1.cs.getD 0 .any).ai),(r1.cs.getD 1 .any),VS ((((x0.ix x7).drop 2).getD 0 .any).ai),(((x0.ix x7).drop 2).getD 1 .any)]]/\((e2.length)+([[VS ((r1.cs.getD 0 .any).ai),(r1.cs.getD 1 .any),VS ((((x0.ix x7).drop 2).getD 0 .any).ai),(((x0.ix x7).drop 2).getD 1 .any)]]:List (List AV)).length)*80<=140737488355328)<|.done 0 [x0,VS x1,VI (IntKind.wrap .i64 (x7+1))] [.vec 4 (e2++([[VS ((r1.cs.getD 0 .any).ai),(r1.cs.getD 1 .any),VS ((((x0.ix x7).drop 2).getD 0 .any).ai),(((x0.ix x7).drop 2).getD 1 .any)]]:List (List AV)))]) (.done 1 [] [.vec 4 e2])
abbrev D6:=cx Tryz.prog 32 KF E0
theorem Ma(x0:AV)(x1:ByteArray)(x7:Int)(e2:List (List AV))(h:jV 32 (Gs x0 x1 x7 e2) D6 U):D6 [x0,VS x1,VI x7] [.vec 4 e2] U :=
 gQ IK h
def MJ(a0:AV):Tree :=
 .call 158 [a0] [] fun r1 o1=>NL r1<|.call 157 [r1,.v (.func (.func 159) #[] #[])] [] fun r2 o2=>NB r2<|.done 0 [VB (!r2.toBool)] []
theorem Pe(a0:AV)(ha0:LK.has .ptr a0)(h:dm 7 (MJ a0) R):an Tryz.prog 127 [a0] [] R :=
 uQ (af (bz ha0) aA) (oQ [] Tryz.f127 h)
def KQ(a0:ByteArray):Tree :=
 .test (decide ((ag a0:Int)>(8000:Int))) (.done 0 [.v (.pointer none)] []) (.call 160 [VS a0,VI 0] [] fun r1 o1=>NT r1<|NP (r1.comp 0)<|NS (r1.comp 1)<|.test (!(ae ((r1.comp 1).ai)==ae (mk []))) (.done 0 [.v (.pointer none)] []) (.done 0 [(r1.comp 0)] []))
theorem OU(a0:ByteArray)(h:dm 16 (KQ a0) R):an Tryz.prog 128 [VS a0] [] R :=
 uQ (af (au _) aA) (oQ [] Tryz.f128 h)
def Eb(a0:AV):Tree :=
 NZ a0<|NZ a0<|.al (LK.has .str (a0.deref.hA)/\1<=a0.deref.length)<|.test (ae ((a0.deref.hA).ai)==ae (mk [117])) (.done 0 [.ptr [.v (.int .u8 117),VS (mk []),.v (.pointer none),.v (.pointer none)]] []) (NZ a0<|NZ a0<|.al (LK.has .str (a0.deref.hA)/\1<=a0.deref.length)<|.call 161 [VS ((a0.deref.hA).ai)] [] fun r1 o1=>NB r1<|.test r1.toBool (NZ a0<|NZ a0<|.al (LK.has .str (a0.deref.hA)/\1<=a0.deref.length)<|.done 0 [.ptr [.v (.int .u8 101),VS ((a0.deref.hA).ai),.v (.pointer none),.v (.pointer none)]] []) (.call 162 [a0,VS (mk [108]),VI 2] [] fun r2 o2=>NB r2<|.test r2.toBool (NZ a0<|NZ a0<|nD (a0.deref.drop 1)<|NG ((a0.deref.drop 1).hA) 1 1<|dQ (((a0.deref.drop 1).hA).ix (1:Int))<|.call 129 [((((a0.deref.drop 1).hA).ix (1:Int)).hA)] [] fun r3 o3=>NP r3<|NP r3<|.test r3.isNil (.done 0 [.v (.pointer none)] []) (NZ a0<|NZ a0<|nD (a0.deref.drop 1)<|NG ((a0.deref.drop 1).hA) 0 1<|dQ (((a0.deref.drop 1).hA).ix (0:Int))<|NZ ((((a0.deref.drop 1).hA).ix (0:Int)).hA)<|NZ ((((a0.deref.drop 1).hA).ix (0:Int)).hA)<|.al (LK.has .str (((((a0.deref.drop 1).hA).ix (0:Int)).hA).deref.hA)/\1<=(((((a0.deref.drop 1).hA).ix (0:Int)).hA).deref).length)<|.al (0<=(0:Int)/\(0:Int)<ag ((((((a0.deref.drop 1).hA).ix (0:Int)).hA).deref.hA).ai))<|.done 0 [.ptr [.v (.int .u8 (bt ((((((a0.deref.drop 1).hA).ix (0:Int)).hA).deref.hA).ai) 0)),VS (mk []),r3,.v (.pointer none)]] [])) (.call 162 [a0,VS (mk [114]),VI 2] [] fun r4 o4=>NB r4<|.test r4.toBool (NZ a0<|NZ a0<|nD (a0.deref.drop 1)<|NG ((a0.deref.drop 1).hA) 1 1<|dQ (((a0.deref.drop 1).hA).ix (1:Int))<|.call 129 [((((a0.deref.drop 1).hA).ix (1:Int)).hA)] [] fun r5 o5=>NP r5<|NP r5<|.test r5.isNil (.done 0 [.v (.pointer none)] []) (NZ a0<|NZ a0<|nD (a0.deref.drop 1)<|NG ((a0.deref.drop 1).hA) 0 1<|dQ (((a0.deref.drop 1).hA).ix (0:Int))<|NZ ((((a0.deref.drop 1).hA).ix (0:Int)).hA)<|NZ ((((a0.deref.drop 1).hA).ix (0:Int)).hA)<|.al (LK.has .str (((((a0.deref.drop 1).hA).ix (0:Int)).hA).deref.hA)/\1<=(((((a0.deref.drop 1).hA).ix (0:Int)).hA).deref).length)<|.al (0<=(0:Int)/\(0:Int)<ag ((((((a0.deref.drop 1).hA).ix (0:Int)).hA).deref.hA).ai))<|.done 0 [.ptr [.v (.int .u8 (bt ((((((a0.deref.drop 1).hA).ix (0:Int)).hA).deref.hA).ai) 0)),VS (mk []),r5,.v (.pointer none)]] [])) (.call 162 [a0,VS (mk [102]),VI 2] [] fun r6 o6=>NB r6<|.test r6.toBool (NZ a0<|NZ a0<|nD (a0.deref.drop 1)<|NG ((a0.deref.drop 1).hA) 1 1<|dQ (((a0.deref.drop 1).hA).ix (1:Int))<|.call 129 [((((a0.deref.drop 1).hA).ix (1:Int)).hA)] [] fun r7 o7=>NP r7<|NP r7<|.test r7.isNil (.done 0 [.v (.pointer none)] []) (NZ a0<|NZ a0<|nD (a0.deref.drop 1)<|NG ((a0.deref.drop 1).hA) 0 1<|dQ (((a0.deref.drop 1).hA).ix (0:Int))<|NZ ((((a0.deref.drop 1).hA).ix (0:Int)).hA)<|NZ ((((a0.deref.drop 1).hA).ix (0:Int)).hA)<|.al (LK.has .str (((((a0.deref.drop 1).hA).ix (0:Int)).hA).deref.hA)/\1<=(((((a0.deref.drop 1).hA).ix (0:Int)).hA).deref).length)<|.al (0<=(0:Int)/\(0:Int)<ag ((((((a0.deref.drop 1).hA).ix (0:Int)).hA).deref.hA).ai))<|.done 0 [.ptr [.v (.int .u8 (bt ((((((a0.deref.drop 1).hA).ix (0:Int)).hA).deref.hA).ai) 0)),VS (mk []),r7,.v (.pointer none)]] [])) (.call 162 [a0,VS (mk [112]),VI 3] [] fun r8 o8=>NB r8<|.test r8.toBool (NZ a0<|NZ a0<|nD (a0.deref.drop 1)<|NG ((a0.deref.drop 1).hA) 1 1<|dQ (((a0.deref.drop 1).hA).ix (1:Int))<|.call 129 [((((a0.deref.drop 1).hA).ix (1:Int)).hA)] [] fun r9 o9=>NP r9<|NZ a0<|NZ a0<|nD (a0.deref.drop 1)<|NG ((a0.deref.drop 1).hA) 2 1<|dQ (((a0.deref.drop 1).hA).ix (2:Int))<|.call 129 [((((a0.deref.drop 1).hA).ix (2:Int)).hA)] [] fun r10 o10=>NP r10<|NP r9<|.test r9.isNil (.done 0 [.v (.pointer none)] []) (NP r10<|.test r10.isNil (.done 0 [.v (.pointer none)] []) (.call 117 [r9,r10] [] fun r11 o11=>NP r11<|.done 0 [r11] []))) (.done 0 [.v (.pointer none)] []))))))
theorem MP(a0:AV)(ha0:LK.has .ptr a0)(h:dm 85 (Eb a0) R):an Tryz.prog 129 [a0] [] R :=
 uQ (af (bz ha0) aA) (oQ [] Tryz.f129 h)
def Gy:LI:={hd:={bJ:=[(3,.k .ptr),(10,.k (.int .i64)),(11,.k (.int .i64))]},xs:={bJ:=[(3,.k .ptr)]},rt:={},ex:=0}
def MV:Code:=cB (cy Tryz.f131) 3
def LA:List (Nat×LI):=[(3,Gy)]
def Ez(a0_0:AV)(a0_1:AV):Tree :=
 NZ a0_0<|NZ a0_0<|.al (LK.has (.int .i64) ((a0_0.deref.drop 2).hA)/\1<=(a0_0.deref.drop 2).length)<|.loop MV Gy [a0_1,VI (((a0_0.deref.drop 2).hA).toInt),VI 0] [] (fun y1 q1=>NP (y1.hA)<|NZ (y1.hA)<|NZ (y1.hA)<|.al (LK.has .ptr ((y1.hA).deref.hA)/\1<=((y1.hA).deref).length)<|.done 0 [((y1.hA).deref.hA)] []) (fun y1 q1=>.done 0 [.any] [])
theorem JF(a0_0:AV)(a0_1:AV)(ha0_0:LK.has .ptr a0_0)(ha0_1:LK.has .ptr a0_1)(h:dm 22 (Ez a0_0 a0_1) R):an Tryz.prog 131 [.agg [a0_0,a0_1]] [] R :=
 uQ (af (bP (af (bz ha0_0) (af (bz ha0_1) aA))) aA) (oQ LA Tryz.f131 h)
def zX(x3:AV)(x10:Int)(x11:Int):Tree :=
 NP x3<|NI (VI x10)<|NI (VI x11)<|.test (decide (x11<x10)) (NZ x3<|NZ x3<|dQ (x3.deref.drop 1)<|.done 0 [((x3.deref.drop 1).hA),VI x10,VI (IntKind.wrap .i64 (x11+1))] []) (.done 1 [x3] [])
abbrev Cr:=cx Tryz.prog 22 MV Gy
theorem Cl(x3:AV)(x10:Int)(x11:Int)(h:jV 22 (zX x3 x10 x11) Cr U):Cr [x3,VI x10,VI x11] [] U :=
 gQ LA h
def Jk(a0:ByteArray):Tree :=
 .call 122 [VS a0] [] fun r1 o1=>NT r1<|.al ((r1.comp 0)=.agg (r1.comp 0).cs/\(r1.comp 0).cs.length=2/\bu [.str,.sl] ((r1.comp 0).cs) 0)<|NB (r1.comp 1)<|.test ((r1.comp 1).toBool) (.call 165 [.agg [VS (((r1.comp 0).cs.getD 0 .any).ai),((r1.comp 0).cs.getD 1 .any)]] [] fun r2 o2=>NB r2<|.test r2.toBool (.call 140 [.agg [VS (((r1.comp 0).cs.getD 0 .any).ai),((r1.comp 0).cs.getD 1 .any)]] [] fun r3 o3=>NI r3<|.done 0 [.cv [.agg [VS (((r1.comp 0).cs.getD 0 .any).ai),((r1.comp 0).cs.getD 1 .any)],VB (decide (r3.toInt<=(400:Int)))]] []) (.done 0 [.cv [.agg [VS (((r1.comp 0).cs.getD 0 .any).ai),((r1.comp 0).cs.getD 1 .any)],VB false]] [])) (.done 0 [.cv [.agg [VS (((r1.comp 0).cs.getD 0 .any).ai),((r1.comp 0).cs.getD 1 .any)],VB false]] [])
theorem N3(a0:ByteArray)(h:dm 22 (Jk a0) R):an Tryz.prog 132 [VS a0] [] R :=
 uQ (af (au _) aA) (oQ [] Tryz.f132 h)
def HC(a0_0:ByteArray)(a0_1:AV):Tree :=
 NG a0_1 1 2<|l9 (a0_1.ix (1:Int))<|NG a0_1 2 2<|NE (a0_1.ix (2:Int))<|.call 166 [.agg [VS (((a0_1.ix (2:Int)).getD 0 .any).ai),((a0_1.ix (2:Int)).getD 1 .any)],VS (((a0_1.ix (1:Int)).hA).ai)] [] fun r1 o1=>NT r1<|.al ((r1.comp 0)=.agg (r1.comp 0).cs/\(r1.comp 0).cs.length=2/\bu [.str,.sl] ((r1.comp 0).cs) 0)<|NB (r1.comp 1)<|.test (!((r1.comp 1).toBool)) (.done 0 [.cv [.agg [VS a0_0,a0_1],VB false]] []) (.call 167 [.agg [VS (((r1.comp 0).cs.getD 0 .any).ai),((r1.comp 0).cs.getD 1 .any)],VS (((a0_1.ix (1:Int)).hA).ai),.agg [VS a0_0,a0_1]] [] fun r2 o2=>NT r2<|.al ((r2.comp 0)=.agg (r2.comp 0).cs/\(r2.comp 0).cs.length=2/\bu [.str,.sl] ((r2.comp 0).cs) 0)<|NB (r2.comp 1)<|.done 0 [.cv [.agg [VS (((r2.comp 0).cs.getD 0 .any).ai),((r2.comp 0).cs.getD 1 .any)],VB ((r2.comp 1).toBool)]] [])
theorem PV(a0_0:ByteArray)(a0_1:AV)(ha0_1:LK.has .sl a0_1)(h:dm 30 (HC a0_0 a0_1) R):an Tryz.prog 133 [.agg [VS a0_0,a0_1]] [] R :=
 uQ (af (bP (af (au _) (af (bU ha0_1) aA))) aA) (oQ [] Tryz.f133 h)
def ML(a0_0:ByteArray)(a0_1:AV):Tree :=
 .call 140 [.agg [VS a0_0,a0_1]] [] fun r1 o1=>NI r1<|.test (decide (r1.toInt>(400:Int))) (.done 0 [.cv [VS (mk []),VB false]] []) (.call 106 [.agg [VS a0_0,a0_1],.v (.slice none 0 0)] [] fun r2 o2=>NA r2<|.call 97 [.agg [VS ((r2.cs.getD 0 .any).ai),(r2.cs.getD 1 .any)]] [] fun r3 o3=>NS r3<|.call 168 [VS r3.ai] [] fun r4 o4=>NB r4<|.test (!r4.toBool) (.done 0 [.cv [VS (mk []),VB false]] []) (.done 0 [.cv [VS r3.ai,VB true]] []))
theorem Ny(a0_0:ByteArray)(a0_1:AV)(ha0_1:LK.has .sl a0_1)(h:dm 15 (ML a0_0 a0_1) R):an Tryz.prog 134 [.agg [VS a0_0,a0_1]] [] R :=
 uQ (af (bP (af (au _) (af (bU ha0_1) aA))) aA) (oQ [] Tryz.f134 h)
def GL(a0_0:ByteArray)(a0_1:AV)(a1:AV)(e2:List (List AV)):Tree :=
 .test (!(ae a0_0==ae (mk []))) (.test (ae a0_0==ae (mk [48])) (.done 0 [.vec 1] [.dead,.vec 1 e2]) (.test (ae a0_0==ae (mk [49])) (.done 0 [.vec 1] [.dead,.vec 1 e2]) (.call 169 [a1,VS a0_0] [] fun r1 o1=>NB r1<|.test r1.toBool (.done 0 [.vec 1] [.dead,.vec 1 e2]) (.call 169 [.sl e2,VS a0_0] [] fun r2 o2=>NB r2<|.test r2.toBool (.done 0 [.vec 1] [.dead,.vec 1 e2]) (.al (cw 1 [[VS a0_0]]/\((e2.length)+([[VS a0_0]]:List (List AV)).length)*16<=140737488355328)<|.done 0 [.vec 1] [.dead,.vec 1 (e2++([[VS a0_0]]:List (List AV)))]))))) (.call 121 [.agg [VS a0_0,a0_1]] [] fun r3 o3=>NS r3<|.test (ae r3.ai==ae (mk [114,101,99])) (NG a0_1 2 2<|NE (a0_1.ix (2:Int))<|NG a0_1 1 2<|l9 (a0_1.ix (1:Int))<|.call 79 [a1,VS (((a0_1.ix (1:Int)).hA).ai)] [] fun r4 o4=>NL r4<|.call 137 [.agg [VS (((a0_1.ix (2:Int)).getD 0 .any).ai),((a0_1.ix (2:Int)).getD 1 .any)],r4,.vec 0] [.vec 1 e2] fun r5 o5=>.al (r5=.vec 1/\(o5.tail.hO)=.vec 1 (o5.tail.hO).es)<|.done 0 [.vec 1] [.dead,.vec 1 ((o5.tail.hO).es)]) (NG a0_1 2 2<|NE (a0_1.ix (2:Int))<|NG a0_1 1 2<|NE (a0_1.ix (1:Int))<|.call 137 [.agg [VS (((a0_1.ix (1:Int)).getD 0 .any).ai),((a0_1.ix (1:Int)).getD 1 .any)],a1,.vec 0] [.vec 1 e2] fun r6 o6=>.al (r6=.vec 1/\(o6.tail.hO)=.vec 1 (o6.tail.hO).es)<|.call 137 [.agg [VS (((a0_1.ix (2:Int)).getD 0 .any).ai),((a0_1.ix (2:Int)).getD 1 .any)],a1,.vec 0] [.vec 1 ((o6.tail.hO).es)] fun r7 o7=>.al (r7=.vec 1/\(o7.tail.hO)=.vec 1 (o7.tail.hO).es)<|.done 0 [.vec 1] [.dead,.vec 1 ((o7.tail.hO).es)]))
theorem yV(a0_0:ByteArray)(a0_1:AV)(a1:AV)(e2:List (List AV))(ha0_1:LK.has .sl a0_1)(ha1:LK.has .sl a1)(h:dm 65 (GL a0_0 a0_1 a1 e2) R):an Tryz.prog 137 [.agg [VS a0_0,a0_1],a1,.vec 0] [.vec 1 e2] R :=
 an.tE (cg (gk _) dI) (an.up (af (bP (af (au _) (af (bU ha0_1) aA))) (af (bU ha1) (af (au _) aA))) (oF [] {mu:=[(2,.one (.vec))],own:=[0]} Tryz.f137 h))
def Iw(a0:ByteArray):Tree :=
 .call 170 [VS a0,.v (.int .u8 116),.v (.int .u8 116)] [] fun r1 o1=>NB r1<|.done 0 [VB r1.toBool] []
theorem O1(a0:ByteArray)(h:dm 5 (Iw a0) R):an Tryz.prog 138 [VS a0] [] R :=
 uQ (af (au _) aA) (oQ [] Tryz.f138 h)
def Ek:LI:={hd:={bJ:=[(3,.k (.int .i64)),(4,.k (.int .i64))],refs:=[(1,1)],ck:=[(1,[.lk .str,.lk .sl])]},xs:={bJ:=[(3,.k (.int .i64))]},rt:={},ex:=0}
def MN:Code:=cB (cy Tryz.f140) 5
def Mq:List (Nat×LI):=[(5,Ek)]
def Ey(a0_0:ByteArray)(a0_1:AV):Tree :=
 .test (!(ae a0_0==ae (mk []))) (.done 0 [VI 1] []) (.loop MN Ek [VI 0,VI 0] [.cells [VS a0_0,a0_1]] (fun y2 q2=>NI (y2.hA)<|.done 0 [VI ((y2.hA).toInt)] []) (fun y2 q2=>.done 0 [.any] []))
theorem Kk(a0_0:ByteArray)(a0_1:AV)(ha0_1:LK.has .sl a0_1)(h:dm 24 (Ey a0_0 a0_1) R):an Tryz.prog 140 [.agg [VS a0_0,a0_1]] [] R :=
 uQ (af (bP (af (au _) (af (bU ha0_1) aA))) aA) (oQ Mq Tryz.f140 h)
def E8(x3:Int)(x4:Int)(o1_0:ByteArray)(o1_1:AV):Tree :=
 NI (VI x3)<|NI (VI x4)<|.al (Ob.cells [VS o1_0,o1_1]=.cells [VS o1_0,o1_1])<|.al (ac [.lk .str,.lk .sl] [VS o1_0,o1_1] 0 [])<|NL o1_1<|.test (decide (x4<(o1_1.aS.length:Int))) (NG o1_1 x4 2<|NE (o1_1.ix x4)<|.call 140 [.agg [VS (((o1_1.ix x4).getD 0 .any).ai),((o1_1.ix x4).getD 1 .any)]] [] fun r1 o1=>NI r1<|.done 0 [VI (IntKind.wrap .i64 (x3+r1.toInt)),VI (IntKind.wrap .i64 (x4+1))] [.cells [VS o1_0,o1_1]]) (.done 1 [VI x3] [])
abbrev F5:=cx Tryz.prog 24 MN Ek
theorem KP(x3:Int)(x4:Int)(o1_0:ByteArray)(o1_1:AV)(h:jV 24 (E8 x3 x4 o1_0 o1_1) F5 U):F5 [VI x3,VI x4] [.cells [VS o1_0,o1_1]] U :=
 gQ Mq h
def LS(a0:Int):Tree :=
 .test (decide (a0<((-9223372036854775807):Int))) (.done 0 [VS (mk [45,57,50,50,51,51,55,50,48,51,54,56,53,52,55,55,53,56,48,56])] []) (.test (decide (a0<(0:Int))) (.call 142 [VI (IntKind.wrap .i64 (0-a0))] [] fun r1 o1=>NS r1<|.al (ag (mk [45])+ag r1.ai<=9223372036854775807)<|.done 0 [VS (((mk [45]):ByteArray)++r1.ai)] []) (.test (decide (a0<(10:Int))) (.al (jn [[.v (.int .u8 (IntKind.wrap .u8 (IntKind.wrap .i64 (48+a0))))]])<|.done 0 [VS (⟨(bytesOf [[.v (.int .u8 (IntKind.wrap .u8 (IntKind.wrap .i64 (48+a0))))]]).toArray⟩)] []) (.al (¬(10:Int)=0)<|.call 142 [VI (IntKind.wrap .i64 (Int.tdiv a0 10))] [] fun r2 o2=>NS r2<|.al (¬(10:Int)=0)<|.al (jn [[.v (.int .u8 (IntKind.wrap .u8 (IntKind.wrap .i64 (48+(Int.tmod a0 10)))))]])<|.al (ag r2.ai+ag (⟨(bytesOf [[.v (.int .u8 (IntKind.wrap .u8 (IntKind.wrap .i64 (48+(Int.tmod a0 10)))))]]).toArray⟩)<=9223372036854775807)<|.done 0 [VS ((r2.ai:ByteArray)++(⟨(bytesOf [[.v (.int .u8 (IntKind.wrap .u8 (IntKind.wrap .i64 (48+(Int.tmod a0 10)))))]]).toArray⟩))] [])))
theorem Pb(a0:Int)(h:dm 28 (LS a0) R):an Tryz.prog 142 [VI a0] [] R :=
 uQ (af (au _) aA) (oQ [] Tryz.f142 h)
def GG:LI:={hd:={bJ:=[(1,.k .sl),(2,.k .sl),(9,.k (.int .i64))],refs:=[(4,4),(8,8)],ck:=[(4,[.lk .str,.lk .sl]),(8,[.lk .str,.lk .sl]),(0,[.vec 1,.lk (.int .i64)])]},xs:={refs:=[(4,4),(8,8)],ck:=[(4,[.lk .str,.lk .sl]),(8,[.lk .str,.lk .sl]),(0,[.vec 1,.lk (.int .i64)])]},rt:={refs:=[(8,8)],ck:=[(8,[.lk .str,.lk .sl]),(0,[.vec 1,.lk (.int .i64)])]},ex:=0,fx:=[0]}
def IB:Code:=cB (cy Tryz.f143) 3
def F0:LI:={hd:={bJ:=[(1,.k .sl),(2,.k .sl),(10,.k .str)],refs:=[(3,0),(4,4),(8,8)],ck:=[(0,[.vec 1,.lk (.int .i64)]),(4,[.lk .str,.lk .sl]),(8,[.lk .str,.lk .sl])]},xs:={bJ:=[(1,.k .sl),(2,.k .sl),(10,.k .str)],refs:=[(3,0),(4,4),(8,8)],ck:=[(0,[.vec 1,.lk (.int .i64)]),(4,[.lk .str,.lk .sl]),(8,[.lk .str,.lk .sl])]},rt:={ck:=[(0,[.vec 1,.lk (.int .i64)])]},ex:=2,fx:=[0]}
def HO:Code:=cB (cy Tryz.f143) 10
def EB:List (Nat×LI):=[(3,GG),(10,F0)]
def zM(a0_0:ByteArray)(a0_1:AV)(a1:AV)(a2:AV)(e3_0:List (List AV))(a3_1:Int):Tree :=
 .test (!(ae a0_0==ae (mk []))) (NL a1<|.loop IB GG [a1,a2,VI (IntKind.wrap .i64 ((a1.aS.length:Int)-1))] [.cells [VS a0_0,a0_1],.cells [VS (mk []),.v (.slice none 0 0)],.cells [.any,VI a3_1],.vec 1 e3_0] (fun y1 q1=>.al ((q1.hO)=.cells (q1.hO).cs)<|.al (ac [.lk .str,.lk .sl] ((q1.hO).cs) 0 q1.tail)<|.al (((q1.tail.drop 0).hO)=.cells ((q1.tail.drop 0).hO).cs)<|.al (ac [.lk .str,.lk .sl] (((q1.tail.drop 0).hO).cs) 0 ((q1.tail.drop 0).tail))<|.al ((((q1.tail.drop 0).tail.drop 0).hO)=.cells (((q1.tail.drop 0).tail.drop 0).hO).cs)<|.al (ac [.vec 1,.lk (.int .i64)] ((((q1.tail.drop 0).tail.drop 0).hO).cs) 0 (((q1.tail.drop 0).tail.drop 0).tail))<|.done 0 [.agg [VS (((q1.hO).cs.getD 0 .any).ai),((q1.hO).cs.getD 1 .any)]] [.cells [.vec 1,VI (((q1.tail.tail.hO).cs.getD 1 .any).toInt)],.vec 1 ((q1.tail.tail.tail.hO).es)]) (fun y1 q1=>.al ((q1.hO)=.cells (q1.hO).cs)<|.al (ac [.lk .str,.lk .sl] ((q1.hO).cs) 0 q1.tail)<|.al (((q1.tail.drop 0).hO)=.cells ((q1.tail.drop 0).hO).cs)<|.al (ac [.vec 1,.lk (.int .i64)] (((q1.tail.drop 0).hO).cs) 0 ((q1.tail.drop 0).tail))<|.done 0 [.agg [VS (((q1.hO).cs.getD 0 .any).ai),((q1.hO).cs.getD 1 .any)]] [.cells [.vec 1,VI (((q1.tail.hO).cs.getD 1 .any).toInt)],.vec 1 ((q1.tail.tail.hO).es)])) (.call 121 [.agg [VS a0_0,a0_1]] [] fun r2 o2=>NS r2<|.test (ae r2.ai==ae (mk [114,101,99])) (.call 142 [VI a3_1] [] fun r3 o3=>NS r3<|.al (ag (mk [116])+ag r3.ai<=9223372036854775807)<|.loop HO F0 [a1,a2,VS (((mk [116]):ByteArray)++r3.ai)] [.cells [.any,VI a3_1],.vec 1 e3_0,.cells [VS a0_0,a0_1],.cells [VS (mk []),.v (.slice none 0 0)]] (fun y6 q6=>NL (y6.hA)<|NL (y6.tail.hA)<|NS (y6.tail.tail.hA)<|.al ((q6.hO)=.cells (q6.hO).cs)<|.al (ac [.vec 1,.lk (.int .i64)] ((q6.hO).cs) 0 q6.tail)<|.al (((q6.tail.drop 1).hO)=.cells ((q6.tail.drop 1).hO).cs)<|.al (ac [.lk .str,.lk .sl] (((q6.tail.drop 1).hO).cs) 0 ((q6.tail.drop 1).tail))<|.al ((((q6.tail.drop 1).tail.drop 0).hO)=.cells (((q6.tail.drop 1).tail.drop 0).hO).cs)<|.al (ac [.lk .str,.lk .sl] ((((q6.tail.drop 1).tail.drop 0).hO).cs) 0 (((q6.tail.drop 1).tail.drop 0).tail))<|NG ((q6.tail.tail.hO).cs.getD 1 .any) 2 2<|NE (((q6.tail.tail.hO).cs.getD 1 .any).ix (2:Int))<|NG ((q6.tail.tail.hO).cs.getD 1 .any) 1 2<|l9 (((q6.tail.tail.hO).cs.getD 1 .any).ix (1:Int))<|.call 79 [(y6.hA),VS (((((q6.tail.tail.hO).cs.getD 1 .any).ix (1:Int)).hA).ai)] [] fun r7 o7=>NL r7<|.call 79 [(y6.tail.hA),VS ((y6.tail.tail.hA).ai)] [] fun r8 o8=>NL r8<|.call 143 [.agg [VS (((((q6.tail.tail.hO).cs.getD 1 .any).ix (2:Int)).getD 0 .any).ai),((((q6.tail.tail.hO).cs.getD 1 .any).ix (2:Int)).getD 1 .any)],r7,r8,.ref 0 0] [.cells [.vec 1,VI (IntKind.wrap .i64 ((((q6.hO).cs.getD 1 .any).toInt)+1))],.vec 1 ((q6.tail.hO).es)] fun r9 o9=>.al ((o9.hO)=.cells (o9.hO).cs)<|.al (bo [.vec 1,.lk (.int .i64)] ((o9.hO).cs) 0 1 o9.tail)<|NA r9<|.call 98 [VS (mk [114,101,99]),.sl [[VS ((y6.tail.tail.hA).ai),.v (.slice none 0 0)],[VS ((r9.cs.getD 0 .any).ai),(r9.cs.getD 1 .any)]]] [] fun r10 o10=>NA r10<|.done 0 [.agg [VS ((r10.cs.getD 0 .any).ai),(r10.cs.getD 1 .any)]] [.cells [.vec 1,VI (((o9.hO).cs.getD 1 .any).toInt)],.vec 1 ((o9.tail.hO).es)]) (fun y6 q6=>.al ((q6.hO)=.cells (q6.hO).cs)<|.al (ac [.vec 1,.lk (.int .i64)] ((q6.hO).cs) 0 q6.tail)<|.fail)) (NG a0_1 1 2<|NE (a0_1.ix (1:Int))<|.call 143 [.agg [VS (((a0_1.ix (1:Int)).getD 0 .any).ai),((a0_1.ix (1:Int)).getD 1 .any)],a1,a2,.ref 0 0] [.cells [.vec 1,VI a3_1],.vec 1 e3_0] fun r11 o11=>.al ((o11.hO)=.cells (o11.hO).cs)<|.al (bo [.vec 1,.lk (.int .i64)] ((o11.hO).cs) 0 1 o11.tail)<|NA r11<|.call 121 [.agg [VS a0_0,a0_1]] [] fun r12 o12=>NS r12<|NG a0_1 2 2<|NE (a0_1.ix (2:Int))<|.call 143 [.agg [VS (((a0_1.ix (2:Int)).getD 0 .any).ai),((a0_1.ix (2:Int)).getD 1 .any)],a1,a2,.ref 0 0] [.cells [.vec 1,VI (((o11.hO).cs.getD 1 .any).toInt)],.vec 1 ((o11.tail.hO).es)] fun r13 o13=>.al ((o13.hO)=.cells (o13.hO).cs)<|.al (bo [.vec 1,.lk (.int .i64)] ((o13.hO).cs) 0 1 o13.tail)<|NA r13<|.call 98 [VS r12.ai,.sl [[VS ((r11.cs.getD 0 .any).ai),(r11.cs.getD 1 .any)],[VS ((r13.cs.getD 0 .any).ai),(r13.cs.getD 1 .any)]]] [] fun r14 o14=>NA r14<|.done 0 [.agg [VS ((r14.cs.getD 0 .any).ai),(r14.cs.getD 1 .any)]] [.cells [.vec 1,VI (((o13.hO).cs.getD 1 .any).toInt)],.vec 1 ((o13.tail.hO).es)]))
theorem B7(a0_0:ByteArray)(a0_1:AV)(a1:AV)(a2:AV)(e3_0:List (List AV))(a3_1:Int)(ha0_1:LK.has .sl a0_1)(ha1:LK.has .sl a1)(ha2:LK.has .sl a2)(h:dm 113 (zM a0_0 a0_1 a1 a2 e3_0 a3_1) R):an Tryz.prog 143 [.agg [VS a0_0,a0_1],a1,a2,.ref 0 0] [.cells [.vec 1,VI a3_1],.vec 1 e3_0] R :=
 an.tE (cg (cV (af (au _) (af (au _) aA))) (cg (gk _) dI)) (an.up (af (bP (af (au _) (af (bU ha0_1) aA))) (af (bU ha1) (af (bU ha2) (af (au _) aA)))) (oF EB {mu:=[(3,.one (.obj [.vec 1,.lk (.int .i64)]))],own:=[]} Tryz.f143 h))
def Et(x1:AV)(x2:AV)(x9:Int)(o4_0:ByteArray)(o4_1:AV)(o8_0:ByteArray)(o8_1:AV)(o0_0:List (List AV))(o0_1:Int):Tree :=
 NL x1<|NL x2<|NI (VI x9)<|.al (Ob.cells [VS o4_0,o4_1]=.cells [VS o4_0,o4_1])<|.al (ac [.lk .str,.lk .sl] [VS o4_0,o4_1] 0 [.cells [VS o8_0,o8_1],.cells [.any,VI o0_1],.vec 1 o0_0])<|.al (Ob.cells [VS o8_0,o8_1]=.cells [VS o8_0,o8_1])<|.al (ac [.lk .str,.lk .sl] [VS o8_0,o8_1] 0 [.cells [.any,VI o0_1],.vec 1 o0_0])<|.al (Ob.cells [.any,VI o0_1]=.cells [.any,VI o0_1])<|.al (ac [.vec 1,.lk (.int .i64)] [.any,VI o0_1] 0 [.vec 1 o0_0])<|.test (decide (x9≥(0:Int))) (NG x1 x9 1<|l9 (x1.ix x9)<|.test (ae (((x1.ix x9).hA).ai)==ae o4_0) (NG x2 x9 1<|l9 (x2.ix x9)<|.done 2 [] [.cells [VS (((x2.ix x9).hA).ai),.v (.slice none 0 0)],.cells [.any,VI o0_1],.vec 1 o0_0]) (.done 0 [x1,x2,VI (IntKind.wrap .i64 (x9-1))] [.cells [VS o4_0,o4_1],.cells [VS o8_0,o8_1],.cells [.any,VI o0_1],.vec 1 o0_0])) (.done 1 [] [.cells [VS o4_0,o4_1],.cells [VS o8_0,o8_1],.cells [.any,VI o0_1],.vec 1 o0_0])
abbrev F8:=cx Tryz.prog 113 IB GG
theorem Mo(x1:AV)(x2:AV)(x9:Int)(o4_0:ByteArray)(o4_1:AV)(o8_0:ByteArray)(o8_1:AV)(o0_0:List (List AV))(o0_1:Int)(h:jV 113 (Et x1 x2 x9 o4_0 o4_1 o8_0 o8_1 o0_0 o0_1) F8 U):F8 [x1,x2,VI x9] [.cells [VS o4_0,o4_1],.cells [VS o8_0,o8_1],.cells [.any,VI o0_1],.vec 1 o0_0] U :=
 gQ EB h
def Ia(x1:AV)(x2:AV)(x10:ByteArray)(o0_0:List (List AV))(o0_1:Int)(o4_0:ByteArray)(o4_1:AV)(o8_0:ByteArray)(o8_1:AV):Tree :=
 NL x1<|NL x2<|NS (VS x10)<|.al (Ob.cells [.any,VI o0_1]=.cells [.any,VI o0_1])<|.al (ac [.vec 1,.lk (.int .i64)] [.any,VI o0_1] 0 [.vec 1 o0_0,.cells [VS o4_0,o4_1],.cells [VS o8_0,o8_1]])<|.al (Ob.cells [VS o4_0,o4_1]=.cells [VS o4_0,o4_1])<|.al (ac [.lk .str,.lk .sl] [VS o4_0,o4_1] 0 [.cells [VS o8_0,o8_1]])<|.al (Ob.cells [VS o8_0,o8_1]=.cells [VS o8_0,o8_1])<|.al (ac [.lk .str,.lk .sl] [VS o8_0,o8_1] 0 [])<|.call 169 [.sl o0_0,VS x10] [] fun r1 o1=>NB r1<|.test r1.toBool (.call 142 [VI (IntKind.wrap .i64 (o0_1+1))] [] fun r2 o2=>NS r2<|.al (ag (mk [116])+ag r2.ai<=9223372036854775807)<|.done 0 [x1,x2,VS (((mk [116]):ByteArray)++r2.ai)] [.cells [.any,VI (IntKind.wrap .i64 (o0_1+1))],.vec 1 o0_0,.cells [VS o4_0,o4_1],.cells [VS o8_0,o8_1]]) (.done 1 [x1,x2,VS x10] [.cells [.any,VI o0_1],.vec 1 o0_0,.cells [VS o4_0,o4_1],.cells [VS o8_0,o8_1]])
abbrev GS:=cx Tryz.prog 113 HO F0
theorem Qt(x1:AV)(x2:AV)(x10:ByteArray)(o0_0:List (List AV))(o0_1:Int)(o4_0:ByteArray)(o4_1:AV)(o8_0:ByteArray)(o8_1:AV)(h:jV 113 (Ia x1 x2 x10 o0_0 o0_1 o4_0 o4_1 o8_0 o8_1) GS U):GS [x1,x2,VS x10] [.cells [.any,VI o0_1],.vec 1 o0_0,.cells [VS o4_0,o4_1],.cells [VS o8_0,o8_1]] U :=
 gQ EB h
def ED:LI:={hd:={bJ:=[(0,.k .ptr),(1,.k .sl),(5,.k (.int .i64))]},xs:={bJ:=[(0,.k .ptr)]},rt:={refs:=[(4,69)],ck:=[(69,[.lk (.int .u8),.lk .str,.lk (.int .i64),.lk .ptr,.lk .ptr])]},ex:=1}
def JU:Code:=cB (cy Tryz.f144) 7
def I0:List (Nat×LI):=[(7,ED)]
def EL(a0:AV)(a1:AV):Tree :=
 NZ a0<|NZ a0<|.al (LK.has .str (a0.deref.hA)/\1<=a0.deref.length)<|.test (ae ((a0.deref.hA).ai)==ae (mk [48])) (NZ a0<|NZ a0<|.al (LK.has .str (a0.deref.hA)/\1<=a0.deref.length)<|.al (0<=(0:Int)/\(0:Int)<ag ((a0.deref.hA).ai))<|.done 0 [.ptr [.v (.int .u8 (bt ((a0.deref.hA).ai) 0)),VS (mk []),VI 0,.v (.pointer none),.v (.pointer none)]] []) (NZ a0<|NZ a0<|.al (LK.has .str (a0.deref.hA)/\1<=a0.deref.length)<|.test (ae ((a0.deref.hA).ai)==ae (mk [49])) (NZ a0<|NZ a0<|.al (LK.has .str (a0.deref.hA)/\1<=a0.deref.length)<|.al (0<=(0:Int)/\(0:Int)<ag ((a0.deref.hA).ai))<|.done 0 [.ptr [.v (.int .u8 (bt ((a0.deref.hA).ai) 0)),VS (mk []),VI 0,.v (.pointer none),.v (.pointer none)]] []) (NZ a0<|NZ a0<|.al (LK.has .str (a0.deref.hA)/\1<=a0.deref.length)<|.call 173 [VS ((a0.deref.hA).ai)] [] fun r1 o1=>NB r1<|.test r1.toBool (NZ a0<|NZ a0<|.al (LK.has .str (a0.deref.hA)/\1<=a0.deref.length)<|.done 0 [.ptr [.v (.int .u8 110),VS ((a0.deref.hA).ai),VI 0,.v (.pointer none),.v (.pointer none)]] []) (NZ a0<|NZ a0<|.al (LK.has .str (a0.deref.hA)/\1<=a0.deref.length)<|.call 159 [VS ((a0.deref.hA).ai)] [] fun r2 o2=>NB r2<|.test r2.toBool (NL a1<|.loop JU ED [a0,a1,VI (IntKind.wrap .i64 ((a1.aS.length:Int)-1))] [] (fun y3 q3=>NP (y3.hA)<|NZ (y3.hA)<|NZ (y3.hA)<|.al (LK.has .str ((y3.hA).deref.hA)/\1<=((y3.hA).deref).length)<|.done 0 [.ptr [.v (.int .u8 110),VS (((y3.hA).deref.hA).ai),VI 0,.v (.pointer none),.v (.pointer none)]] []) (fun y3 q3=>.al ((q3.hO)=.cells (q3.hO).cs)<|.al (ac [.lk (.int .u8),.lk .str,.lk (.int .i64),.lk .ptr,.lk .ptr] ((q3.hO).cs) 0 q3.tail)<|.done 0 [.ptr [.v (.int .u8 (((q3.hO).cs.getD 0 .any).toInt)),VS (((q3.hO).cs.getD 1 .any).ai),VI (((q3.hO).cs.getD 2 .any).toInt),((q3.hO).cs.getD 3 .any),((q3.hO).cs.getD 4 .any)]] [])) (.call 162 [a0,VS (mk [43]),VI 3] [] fun r4 o4=>NB r4<|.test r4.toBool (NZ a0<|NZ a0<|nD (a0.deref.drop 1)<|NG ((a0.deref.drop 1).hA) 1 1<|dQ (((a0.deref.drop 1).hA).ix (1:Int))<|.call 144 [((((a0.deref.drop 1).hA).ix (1:Int)).hA),a1] [] fun r5 o5=>NP r5<|NZ a0<|NZ a0<|nD (a0.deref.drop 1)<|NG ((a0.deref.drop 1).hA) 2 1<|dQ (((a0.deref.drop 1).hA).ix (2:Int))<|.call 144 [((((a0.deref.drop 1).hA).ix (2:Int)).hA),a1] [] fun r6 o6=>NP r6<|NP r5<|.test r5.isNil (.done 0 [.v (.pointer none)] []) (NP r6<|.test r6.isNil (.done 0 [.v (.pointer none)] []) (NZ a0<|NZ a0<|nD (a0.deref.drop 1)<|NG ((a0.deref.drop 1).hA) 0 1<|dQ (((a0.deref.drop 1).hA).ix (0:Int))<|NZ ((((a0.deref.drop 1).hA).ix (0:Int)).hA)<|NZ ((((a0.deref.drop 1).hA).ix (0:Int)).hA)<|.al (LK.has .str (((((a0.deref.drop 1).hA).ix (0:Int)).hA).deref.hA)/\1<=(((((a0.deref.drop 1).hA).ix (0:Int)).hA).deref).length)<|.al (0<=(0:Int)/\(0:Int)<ag ((((((a0.deref.drop 1).hA).ix (0:Int)).hA).deref.hA).ai))<|.done 0 [.ptr [.v (.int .u8 (bt ((((((a0.deref.drop 1).hA).ix (0:Int)).hA).deref.hA).ai) 0)),VS (mk []),VI 0,r5,r6]] []))) (.call 162 [a0,VS (mk [42]),VI 3] [] fun r7 o7=>NB r7<|.test r7.toBool (NZ a0<|NZ a0<|nD (a0.deref.drop 1)<|NG ((a0.deref.drop 1).hA) 1 1<|dQ (((a0.deref.drop 1).hA).ix (1:Int))<|.call 144 [((((a0.deref.drop 1).hA).ix (1:Int)).hA),a1] [] fun r8 o8=>NP r8<|NZ a0<|NZ a0<|nD (a0.deref.drop 1)<|NG ((a0.deref.drop 1).hA) 2 1<|dQ (((a0.deref.drop 1).hA).ix (2:Int))<|.call 144 [((((a0.deref.drop 1).hA).ix (2:Int)).hA),a1] [] fun r9 o9=>NP r9<|NP r8<|.test r8.isNil (.done 0 [.v (.pointer none)] []) (NP r9<|.test r9.isNil (.done 0 [.v (.pointer none)] []) (NZ a0<|NZ a0<|nD (a0.deref.drop 1)<|NG ((a0.deref.drop 1).hA) 0 1<|dQ (((a0.deref.drop 1).hA).ix (0:Int))<|NZ ((((a0.deref.drop 1).hA).ix (0:Int)).hA)<|NZ ((((a0.deref.drop 1).hA).ix (0:Int)).hA)<|.al (LK.has .str (((((a0.deref.drop 1).hA).ix (0:Int)).hA).deref.hA)/\1<=(((((a0.deref.drop 1).hA).ix (0:Int)).hA).deref).length)<|.al (0<=(0:Int)/\(0:Int)<ag ((((((a0.deref.drop 1).hA).ix (0:Int)).hA).deref.hA).ai))<|.done 0 [.ptr [.v (.int .u8 (bt ((((((a0.deref.drop 1).hA).ix (0:Int)).hA).deref.hA).ai) 0)),VS (mk []),VI 0,r8,r9]] []))) (.call 162 [a0,VS (mk [114,101,99]),VI 3] [] fun r10 o10=>NB r10<|.test r10.toBool (NZ a0<|NZ a0<|nD (a0.deref.drop 1)<|NG ((a0.deref.drop 1).hA) 1 1<|dQ (((a0.deref.drop 1).hA).ix (1:Int))<|NZ ((((a0.deref.drop 1).hA).ix (1:Int)).hA)<|NZ ((((a0.deref.drop 1).hA).ix (1:Int)).hA)<|.al (LK.has .str (((((a0.deref.drop 1).hA).ix (1:Int)).hA).deref.hA)/\1<=(((((a0.deref.drop 1).hA).ix (1:Int)).hA).deref).length)<|.call 159 [VS ((((((a0.deref.drop 1).hA).ix (1:Int)).hA).deref.hA).ai)] [] fun r11 o11=>NB r11<|.test r11.toBool (NZ a0<|NZ a0<|nD (a0.deref.drop 1)<|NG ((a0.deref.drop 1).hA) 2 1<|dQ (((a0.deref.drop 1).hA).ix (2:Int))<|.al (LK.has .sl a1/\cw 1 a1.aS/\((([]:List (List AV)).length)+a1.aS.length)*16<=140737488355328)<|NZ a0<|NZ a0<|nD (a0.deref.drop 1)<|NG ((a0.deref.drop 1).hA) 1 1<|dQ (((a0.deref.drop 1).hA).ix (1:Int))<|NZ ((((a0.deref.drop 1).hA).ix (1:Int)).hA)<|NZ ((((a0.deref.drop 1).hA).ix (1:Int)).hA)<|.al (LK.has .str (((((a0.deref.drop 1).hA).ix (1:Int)).hA).deref.hA)/\1<=(((((a0.deref.drop 1).hA).ix (1:Int)).hA).deref).length)<|.al (cw 1 [[VS ((((((a0.deref.drop 1).hA).ix (1:Int)).hA).deref.hA).ai)]]/\(((([]:List (List AV))++a1.aS).length)+([[VS ((((((a0.deref.drop 1).hA).ix (1:Int)).hA).deref.hA).ai)]]:List (List AV)).length)*16<=140737488355328)<|.call 144 [((((a0.deref.drop 1).hA).ix (2:Int)).hA),.sl ((([]:List (List AV))++a1.aS)++([[VS ((((((a0.deref.drop 1).hA).ix (1:Int)).hA).deref.hA).ai)]]:List (List AV)))] [] fun r12 o12=>NP r12<|NP r12<|.test r12.isNil (.done 0 [.v (.pointer none)] []) (.done 0 [.ptr [.v (.int .u8 114),VS (mk []),VI 0,r12,.v (.pointer none)]] [])) (.done 0 [.v (.pointer none)] [])) (.done 0 [.v (.pointer none)] [])))))))
theorem J7(a0:AV)(a1:AV)(ha0:LK.has .ptr a0)(ha1:LK.has .sl a1)(h:dm 160 (EL a0 a1) R):an Tryz.prog 144 [a0,a1] [] R :=
 uQ (af (bz ha0) (af (bU ha1) aA)) (oQ I0 Tryz.f144 h)
def Gp(x0:AV)(x1:AV)(x5:Int):Tree :=
 NP x0<|NL x1<|NI (VI x5)<|.test (decide (x5≥(0:Int))) (NG x1 x5 1<|l9 (x1.ix x5)<|NZ x0<|NZ x0<|.al (LK.has .str (x0.deref.hA)/\1<=x0.deref.length)<|.test (ae (((x1.ix x5).hA).ai)==ae ((x0.deref.hA).ai)) (NL x1<|.done 2 [] [.cells [.v (.int .u8 98),VS (mk []),VI (IntKind.wrap .i64 ((IntKind.wrap .i64 ((x1.aS.length:Int)-1))-x5)),.v (.pointer none),.v (.pointer none)]]) (.done 0 [x0,x1,VI (IntKind.wrap .i64 (x5-1))] [])) (.done 1 [x0] [])
abbrev Gq:=cx Tryz.prog 160 JU ED
theorem Hy(x0:AV)(x1:AV)(x5:Int)(h:jV 160 (Gp x0 x1 x5) Gq U):Gq [x0,x1,VI x5] [] U :=
 gQ I0 h
def Du(a0:AV):Tree :=
 NZ a0<|NZ a0<|.al (LK.has (.int .u8) (a0.deref.hA)/\1<=a0.deref.length)<|.test (((a0.deref.hA).toInt)==(43:Int)) (NZ a0<|NZ a0<|dQ (a0.deref.drop 3)<|.call 145 [((a0.deref.drop 3).hA)] [] fun r1 o1=>NI r1<|NZ a0<|NZ a0<|dQ (a0.deref.drop 4)<|.call 145 [((a0.deref.drop 4).hA)] [] fun r2 o2=>NI r2<|.done 0 [VI (IntKind.wrap .i64 ((IntKind.wrap .i64 (1+r1.toInt))+r2.toInt))] []) (.test (((a0.deref.hA).toInt)==(42:Int)) (NZ a0<|NZ a0<|dQ (a0.deref.drop 3)<|.call 145 [((a0.deref.drop 3).hA)] [] fun r3 o3=>NI r3<|NZ a0<|NZ a0<|dQ (a0.deref.drop 4)<|.call 145 [((a0.deref.drop 4).hA)] [] fun r4 o4=>NI r4<|.done 0 [VI (IntKind.wrap .i64 ((IntKind.wrap .i64 (1+r3.toInt))+r4.toInt))] []) (.test (((a0.deref.hA).toInt)==(114:Int)) (NZ a0<|NZ a0<|dQ (a0.deref.drop 3)<|.call 145 [((a0.deref.drop 3).hA)] [] fun r5 o5=>NI r5<|.done 0 [VI (IntKind.wrap .i64 (2+r5.toInt))] []) (.done 0 [VI 1] [])))
theorem vJ(a0:AV)(ha0:LK.has .ptr a0)(h:dm 30 (Du a0) R):an Tryz.prog 145 [a0] [] R :=
 uQ (af (bz ha0) aA) (oQ [] Tryz.f145 h)
def Mi(a0_0:Int)(a0_1:Bool):Tree :=
 .call 174 [VI (IntKind.wrap .i64 (a0_0+1))] [] fun r1 o1=>NS r1<|.al (ag (mk [35])+ag r1.ai<=9223372036854775807)<|.done 0 [VS (((mk [35]):ByteArray)++r1.ai)] [.cells [VI (IntKind.wrap .i64 (a0_0+1)),VB a0_1]]
theorem NY(a0_0:Int)(a0_1:Bool)(h:dm 16 (Mi a0_0 a0_1) R):an Tryz.prog 146 [.ref 0 0] [.cells [VI a0_0,VB a0_1]] R :=
 an.tE (cg (cV (af (au _) (af (GR _) aA))) dI) (an.up (af (au _) aA) (oF [] {mu:=[(0,.one (.obj [.lk (.int .i64),.lk .bool]))],own:=[]} Tryz.f146 h))
def KU(a0_0:Int)(a0_1:Bool)(a1:AV):Tree :=
 .test a0_1 (.done 0 [.ptr [.v (.int .u8 48),VS (mk []),VI 0,.v (.pointer none),.v (.pointer none)]] [.cells [VI a0_0,VB true]]) (.call 145 [a1] [] fun r1 o1=>NI r1<|.test (decide (r1.toInt>(400:Int))) (.done 0 [.ptr [.v (.int .u8 48),VS (mk []),VI 0,.v (.pointer none),.v (.pointer none)]] [.cells [VI a0_0,VB true]]) (.done 0 [a1] [.cells [VI a0_0,VB a0_1]]))
theorem OZ(a0_0:Int)(a0_1:Bool)(a1:AV)(ha1:LK.has .ptr a1)(h:dm 20 (KU a0_0 a0_1 a1) R):an Tryz.prog 147 [.ref 0 0,a1] [.cells [VI a0_0,VB a0_1]] R :=
 an.tE (cg (cV (af (au _) (af (GR _) aA))) dI) (an.up (af (au _) (af (bz ha1) aA)) (oF [] {mu:=[(0,.one (.obj [.lk (.int .i64),.lk .bool]))],own:=[]} Tryz.f147 h))
def CA(a0_0:Int)(a0_1:Bool)(a1:AV)(a2:ByteArray):Tree :=
 .test a0_1 (.done 0 [.ptr [.v (.int .u8 48),VS (mk []),VI 0,.v (.pointer none),.v (.pointer none)]] [.cells [VI a0_0,VB a0_1]]) (NZ a1<|NZ a1<|.al (LK.has (.int .u8) (a1.deref.hA)/\1<=a1.deref.length)<|.test (((a1.deref.hA).toInt)==(110:Int)) (NZ a1<|NZ a1<|l9 (a1.deref.drop 1)<|.test (ae (((a1.deref.drop 1).hA).ai)==ae a2) (.done 0 [.ptr [.v (.int .u8 49),VS (mk []),VI 0,.v (.pointer none),.v (.pointer none)]] [.cells [VI a0_0,VB a0_1]]) (.done 0 [.ptr [.v (.int .u8 48),VS (mk []),VI 0,.v (.pointer none),.v (.pointer none)]] [.cells [VI a0_0,VB a0_1]])) (.test (((a1.deref.hA).toInt)==(43:Int)) (NZ a1<|NZ a1<|dQ (a1.deref.drop 3)<|.call 148 [.ref 0 0,((a1.deref.drop 3).hA),VS a2] [.cells [VI a0_0,VB a0_1]] fun r1 o1=>.al ((o1.hO)=.cells (o1.hO).cs)<|.al (bo [.lk (.int .i64),.lk .bool] ((o1.hO).cs) 0 1 o1.tail)<|NP r1<|NZ a1<|NZ a1<|dQ (a1.deref.drop 4)<|.call 148 [.ref 0 0,((a1.deref.drop 4).hA),VS a2] [.cells [VI (((o1.hO).cs.getD 0 .any).toInt),VB (((o1.hO).cs.getD 1 .any).toBool)]] fun r2 o2=>.al ((o2.hO)=.cells (o2.hO).cs)<|.al (bo [.lk (.int .i64),.lk .bool] ((o2.hO).cs) 0 1 o2.tail)<|NP r2<|.call 175 [.v (.int .u8 43),r1,r2] [] fun r3 o3=>NP r3<|.call 147 [.ref 0 0,r3] [.cells [VI (((o2.hO).cs.getD 0 .any).toInt),VB (((o2.hO).cs.getD 1 .any).toBool)]] fun r4 o4=>.al ((o4.hO)=.cells (o4.hO).cs)<|.al (bo [.lk (.int .i64),.lk .bool] ((o4.hO).cs) 0 1 o4.tail)<|NP r4<|.done 0 [r4] [.cells [VI (((o4.hO).cs.getD 0 .any).toInt),VB (((o4.hO).cs.getD 1 .any).toBool)]]) (.test (((a1.deref.hA).toInt)==(42:Int)) (NZ a1<|NZ a1<|dQ (a1.deref.drop 3)<|.call 148 [.ref 0 0,((a1.deref.drop 3).hA),VS a2] [.cells [VI a0_0,VB a0_1]] fun r5 o5=>.al ((o5.hO)=.cells (o5.hO).cs)<|.al (bo [.lk (.int .i64),.lk .bool] ((o5.hO).cs) 0 1 o5.tail)<|NP r5<|NZ a1<|NZ a1<|dQ (a1.deref.drop 4)<|.call 175 [.v (.int .u8 42),r5,((a1.deref.drop 4).hA)] [] fun r6 o6=>NP r6<|NZ a1<|NZ a1<|dQ (a1.deref.drop 3)<|NZ a1<|NZ a1<|dQ (a1.deref.drop 4)<|.call 148 [.ref 0 0,((a1.deref.drop 4).hA),VS a2] [.cells [VI (((o5.hO).cs.getD 0 .any).toInt),VB (((o5.hO).cs.getD 1 .any).toBool)]] fun r7 o7=>.al ((o7.hO)=.cells (o7.hO).cs)<|.al (bo [.lk (.int .i64),.lk .bool] ((o7.hO).cs) 0 1 o7.tail)<|NP r7<|.call 175 [.v (.int .u8 42),((a1.deref.drop 3).hA),r7] [] fun r8 o8=>NP r8<|.call 175 [.v (.int .u8 43),r6,r8] [] fun r9 o9=>NP r9<|.call 147 [.ref 0 0,r9] [.cells [VI (((o7.hO).cs.getD 0 .any).toInt),VB (((o7.hO).cs.getD 1 .any).toBool)]] fun r10 o10=>.al ((o10.hO)=.cells (o10.hO).cs)<|.al (bo [.lk (.int .i64),.lk .bool] ((o10.hO).cs) 0 1 o10.tail)<|NP r10<|.done 0 [r10] [.cells [VI (((o10.hO).cs.getD 0 .any).toInt),VB (((o10.hO).cs.getD 1 .any).toBool)]]) (.test (((a1.deref.hA).toInt)==(114:Int)) (.call 146 [.ref 0 0] [.cells [VI a0_0,VB a0_1]] fun r11 o11=>.al ((o11.hO)=.cells (o11.hO).cs)<|.al (bo [.lk (.int .i64),.lk .bool] ((o11.hO).cs) 0 1 o11.tail)<|NS r11<|NZ a1<|NZ a1<|dQ (a1.deref.drop 3)<|.call 149 [((a1.deref.drop 3).hA),.ptr [.v (.int .u8 110),VS r11.ai,VI 0,.v (.pointer none),.v (.pointer none)],VI 0] [] fun r12 o12=>NP r12<|.call 148 [.ref 0 0,r12,VS a2] [.cells [VI (((o11.hO).cs.getD 0 .any).toInt),VB (((o11.hO).cs.getD 1 .any).toBool)]] fun r13 o13=>.al ((o13.hO)=.cells (o13.hO).cs)<|.al (bo [.lk (.int .i64),.lk .bool] ((o13.hO).cs) 0 1 o13.tail)<|NP r13<|.call 147 [.ref 0 0,r13] [.cells [VI (((o13.hO).cs.getD 0 .any).toInt),VB (((o13.hO).cs.getD 1 .any).toBool)]] fun r14 o14=>.al ((o14.hO)=.cells (o14.hO).cs)<|.al (bo [.lk (.int .i64),.lk .bool] ((o14.hO).cs) 0 1 o14.tail)<|NP r14<|.call 150 [r14,VS r11.ai,a1] [] fun r15 o15=>NP r15<|.call 148 [.ref 0 0,r12,VS r11.ai] [.cells [VI (((o14.hO).cs.getD 0 .any).toInt),VB (((o14.hO).cs.getD 1 .any).toBool)]] fun r16 o16=>.al ((o16.hO)=.cells (o16.hO).cs)<|.al (bo [.lk (.int .i64),.lk .bool] ((o16.hO).cs) 0 1 o16.tail)<|NP r16<|.call 147 [.ref 0 0,r16] [.cells [VI (((o16.hO).cs.getD 0 .any).toInt),VB (((o16.hO).cs.getD 1 .any).toBool)]] fun r17 o17=>.al ((o17.hO)=.cells (o17.hO).cs)<|.al (bo [.lk (.int .i64),.lk .bool] ((o17.hO).cs) 0 1 o17.tail)<|NP r17<|.call 150 [r17,VS r11.ai,a1] [] fun r18 o18=>NP r18<|.call 175 [.v (.int .u8 42),r18,.ptr [.v (.int .u8 98),VS (mk []),VI 0,.v (.pointer none),.v (.pointer none)]] [] fun r19 o19=>NP r19<|.call 175 [.v (.int .u8 43),r15,r19] [] fun r20 o20=>NP r20<|.call 147 [.ref 0 0,.ptr [.v (.int .u8 114),VS (mk []),VI 0,r20,.v (.pointer none)]] [.cells [VI (((o17.hO).cs.getD 0 .any).toInt),VB (((o17.hO).cs.getD 1 .any).toBool)]] fun r21 o21=>.al ((o21.hO)=.cells (o21.hO).cs)<|.al (bo [.lk (.int .i64),.lk .bool] ((o21.hO).cs) 0 1 o21.tail)<|NP r21<|.done 0 [r21] [.cells [VI (((o21.hO).cs.getD 0 .any).toInt),VB (((o21.hO).cs.getD 1 .any).toBool)]]) (.done 0 [.ptr [.v (.int .u8 48),VS (mk []),VI 0,.v (.pointer none),.v (.pointer none)]] [.cells [VI a0_0,VB a0_1]])))))
theorem HY(a0_0:Int)(a0_1:Bool)(a1:AV)(a2:ByteArray)(ha1:LK.has .ptr a1)(h:dm 121 (CA a0_0 a0_1 a1 a2) R):an Tryz.prog 148 [.ref 0 0,a1,VS a2] [.cells [VI a0_0,VB a0_1]] R :=
 an.tE (cg (cV (af (au _) (af (GR _) aA))) dI) (an.up (af (au _) (af (bz ha1) (af (au _) aA))) (oF [] {mu:=[(0,.one (.obj [.lk (.int .i64),.lk .bool]))],own:=[]} Tryz.f148 h))
def Dy(a0:AV)(a1:AV)(a2:Int):Tree :=
 NZ a0<|NZ a0<|.al (LK.has (.int .u8) (a0.deref.hA)/\1<=a0.deref.length)<|.test (((a0.deref.hA).toInt)==(98:Int)) (NZ a0<|NZ a0<|.al (LK.has (.int .i64) ((a0.deref.drop 2).hA)/\1<=(a0.deref.drop 2).length)<|.test ((((a0.deref.drop 2).hA).toInt)==a2) (.done 0 [a1] []) (.done 0 [a0] [])) (.test (((a0.deref.hA).toInt)==(43:Int)) (NZ a0<|NZ a0<|.al (LK.has (.int .u8) (a0.deref.hA)/\1<=a0.deref.length)<|NZ a0<|NZ a0<|dQ (a0.deref.drop 3)<|.call 149 [((a0.deref.drop 3).hA),a1,VI a2] [] fun r1 o1=>NP r1<|NZ a0<|NZ a0<|dQ (a0.deref.drop 4)<|.call 149 [((a0.deref.drop 4).hA),a1,VI a2] [] fun r2 o2=>NP r2<|.done 0 [.ptr [.v (.int .u8 ((a0.deref.hA).toInt)),VS (mk []),VI 0,r1,r2]] []) (.test (((a0.deref.hA).toInt)==(42:Int)) (NZ a0<|NZ a0<|.al (LK.has (.int .u8) (a0.deref.hA)/\1<=a0.deref.length)<|NZ a0<|NZ a0<|dQ (a0.deref.drop 3)<|.call 149 [((a0.deref.drop 3).hA),a1,VI a2] [] fun r3 o3=>NP r3<|NZ a0<|NZ a0<|dQ (a0.deref.drop 4)<|.call 149 [((a0.deref.drop 4).hA),a1,VI a2] [] fun r4 o4=>NP r4<|.done 0 [.ptr [.v (.int .u8 ((a0.deref.hA).toInt)),VS (mk []),VI 0,r3,r4]] []) (.test (((a0.deref.hA).toInt)==(114:Int)) (NZ a0<|NZ a0<|dQ (a0.deref.drop 3)<|.call 149 [((a0.deref.drop 3).hA),a1,VI (IntKind.wrap .i64 (a2+1))] [] fun r5 o5=>NP r5<|.done 0 [.ptr [.v (.int .u8 114),VS (mk []),VI 0,r5,.v (.pointer none)]] []) (.done 0 [a0] []))))
theorem Fw(a0:AV)(a1:AV)(a2:Int)(ha0:LK.has .ptr a0)(ha1:LK.has .ptr a1)(h:dm 56 (Dy a0 a1 a2) R):an Tryz.prog 149 [a0,a1,VI a2] [] R :=
 uQ (af (bz ha0) (af (bz ha1) (af (au _) aA))) (oQ [] Tryz.f149 h)
def DK(a0:AV)(a1:ByteArray)(a2:AV):Tree :=
 NZ a0<|NZ a0<|.al (LK.has (.int .u8) (a0.deref.hA)/\1<=a0.deref.length)<|.test (((a0.deref.hA).toInt)==(110:Int)) (NZ a0<|NZ a0<|l9 (a0.deref.drop 1)<|.test (ae (((a0.deref.drop 1).hA).ai)==ae a1) (.done 0 [a2] []) (.done 0 [a0] [])) (.test (((a0.deref.hA).toInt)==(43:Int)) (NZ a0<|NZ a0<|.al (LK.has (.int .u8) (a0.deref.hA)/\1<=a0.deref.length)<|NZ a0<|NZ a0<|dQ (a0.deref.drop 3)<|.call 150 [((a0.deref.drop 3).hA),VS a1,a2] [] fun r1 o1=>NP r1<|NZ a0<|NZ a0<|dQ (a0.deref.drop 4)<|.call 150 [((a0.deref.drop 4).hA),VS a1,a2] [] fun r2 o2=>NP r2<|.done 0 [.ptr [.v (.int .u8 ((a0.deref.hA).toInt)),VS (mk []),VI 0,r1,r2]] []) (.test (((a0.deref.hA).toInt)==(42:Int)) (NZ a0<|NZ a0<|.al (LK.has (.int .u8) (a0.deref.hA)/\1<=a0.deref.length)<|NZ a0<|NZ a0<|dQ (a0.deref.drop 3)<|.call 150 [((a0.deref.drop 3).hA),VS a1,a2] [] fun r3 o3=>NP r3<|NZ a0<|NZ a0<|dQ (a0.deref.drop 4)<|.call 150 [((a0.deref.drop 4).hA),VS a1,a2] [] fun r4 o4=>NP r4<|.done 0 [.ptr [.v (.int .u8 ((a0.deref.hA).toInt)),VS (mk []),VI 0,r3,r4]] []) (.test (((a0.deref.hA).toInt)==(114:Int)) (NZ a0<|NZ a0<|dQ (a0.deref.drop 3)<|.call 150 [((a0.deref.drop 3).hA),VS a1,a2] [] fun r5 o5=>NP r5<|.done 0 [.ptr [.v (.int .u8 114),VS (mk []),VI 0,r5,.v (.pointer none)]] []) (.done 0 [a0] []))))
theorem wG(a0:AV)(a1:ByteArray)(a2:AV)(ha0:LK.has .ptr a0)(ha2:LK.has .ptr a2)(h:dm 55 (DK a0 a1 a2) R):an Tryz.prog 150 [a0,VS a1,a2] [] R :=
 uQ (af (bz ha0) (af (au _) (af (bz ha2) aA))) (oQ [] Tryz.f150 h)
def HF(a0:AV):Tree :=
 .call 158 [a0] [] fun r1 o1=>NL r1<|.call 176 [a0,.v (.slice none 0 0),.gF 176 [none,some 0,some 1],.ref 0 0,.ref 1 0] [.cells [r1],.cells [VI 0]] fun r2 o2=>.al ((o2.hO)=.cells (o2.hO).cs)<|.al (bo [.lk .sl] ((o2.hO).cs) 0 1 o2.tail)<|.al ((o2.tail.hO)=.cells (o2.tail.hO).cs)<|.al (bo [.lk (.int .i64)] ((o2.tail.hO).cs) 0 2 o2.tail.tail)<|NS r2<|.done 0 [VS r2.ai] []
theorem QA(a0:AV)(ha0:LK.has .ptr a0)(h:dm 12 (HF a0) R):an Tryz.prog 151 [a0] [] R :=
 uQ (af (bz ha0) aA) (oQ [] Tryz.f151 h)
def G1:LI:={hd:={bJ:=[(0,.k .str),(1,.k (.int .i64)),(9,.k (.int .i64))],refs:=[(6,6),(8,8)],ck:=[(6,[.lk .str,.lk .sl]),(8,[.lk .str,.lk .sl])]},xs:={bJ:=[(0,.k .str),(1,.k (.int .i64)),(9,.k (.int .i64))],refs:=[(6,6),(8,8)],ck:=[(6,[.lk .str,.lk .sl]),(8,[.lk .str,.lk .sl])]},rt:={},ex:=0}
def Mp:Code:=cB (cy Tryz.f152) 6
def Gu:LI:={hd:={bJ:=[(0,.k .str),(1,.k (.int .i64)),(2,.k (.int .i64))],refs:=[(6,6),(8,8)],ck:=[(6,[.lk .str,.lk .sl]),(8,[.lk .str,.vec 2])]},xs:={},rt:={bJ:=[(7,.k (.int .i64))],refs:=[(6,6)],ck:=[(6,[.lk .str,.vec 2])]},ex:=999}
def Kq:Code:=cB (cy Tryz.f152) 12
def EP:List (Nat×LI):=[(6,G1),(12,Gu)]
def Er(a0:ByteArray)(a1:Int)(a2:Int):Tree :=
 .test (decide (a2>(300:Int))) (.done 0 [.cv [.agg [VS (mk []),.v (.slice none 0 0)],VI (-1)]] []) (.test (decide (a1≥(ag a0:Int))) (.done 0 [.cv [.agg [VS (mk []),.v (.slice none 0 0)],VI (-1)]] []) (.al (0<=a1/\a1<ag a0)<|.test ((bt a0 a1) != (40:Int)) (.loop Mp G1 [VS a0,VI a1,VI a1] [.cells [VS (mk []),.v (.slice none 0 0)],.cells [VS (mk []),.v (.slice none 0 0)]] (fun y2 q2=>NS (y2.hA)<|NI (y2.tail.hA)<|NI (y2.tail.tail.hA)<|.al ((q2.hO)=.cells (q2.hO).cs)<|.al (ac [.lk .str,.lk .sl] ((q2.hO).cs) 0 q2.tail)<|.al (((q2.tail.drop 0).hO)=.cells ((q2.tail.drop 0).hO).cs)<|.al (ac [.lk .str,.lk .sl] (((q2.tail.drop 0).hO).cs) 0 ((q2.tail.drop 0).tail))<|.al (0<=((y2.tail.tail.hA).toInt)/\((y2.tail.tail.hA).toInt)<=((y2.tail.hA).toInt)/\((y2.tail.hA).toInt)<=(ag ((y2.hA).ai):Int))<|.test (ae (cd ((y2.hA).ai) (bD ((y2.tail.tail.hA).toInt)) (bD ((y2.tail.hA).toInt)))==ae (mk [])) (.done 0 [.cv [.agg [VS (cd ((y2.hA).ai) (bD ((y2.tail.tail.hA).toInt)) (bD ((y2.tail.hA).toInt))),((q2.tail.hO).cs.getD 1 .any)],VI (-1)]] []) (.done 0 [.cv [.agg [VS (cd ((y2.hA).ai) (bD ((y2.tail.tail.hA).toInt)) (bD ((y2.tail.hA).toInt))),((q2.tail.hO).cs.getD 1 .any)],VI ((y2.tail.hA).toInt)]] [])) (fun y2 q2=>.fail)) (.loop Kq Gu [VS a0,VI a1,VI a2] [.cells [VS (mk []),.v (.slice none 0 0)],.cells [VS (mk []),.any],.vec 2 []] (fun y5 q5=>.fail) (fun y5 q5=>NI (y5.hA)<|.al ((q5.hO)=.cells (q5.hO).cs)<|.al (ac [.lk .str,.vec 2] ((q5.hO).cs) 0 q5.tail)<|.done 0 [.cv [.agg [VS (((q5.hO).cs.getD 0 .any).ai),.sl ((q5.tail.hO).es)],VI ((y5.hA).toInt)]] []))))
theorem Kc(a0:ByteArray)(a1:Int)(a2:Int)(h:dm 87 (Er a0 a1 a2) R):an Tryz.prog 152 [VS a0,VI a1,VI a2] [] R :=
 uQ (af (au _) (af (au _) (af (au _) aA))) (oQ EP Tryz.f152 h)
def El(x0:ByteArray)(x1:Int)(x9:Int)(o6_0:ByteArray)(o6_1:AV)(o8_0:ByteArray)(o8_1:AV):Tree :=
 NS (VS x0)<|NI (VI x1)<|NI (VI x9)<|.al (Ob.cells [VS o6_0,o6_1]=.cells [VS o6_0,o6_1])<|.al (ac [.lk .str,.lk .sl] [VS o6_0,o6_1] 0 [.cells [VS o8_0,o8_1]])<|.al (Ob.cells [VS o8_0,o8_1]=.cells [VS o8_0,o8_1])<|.al (ac [.lk .str,.lk .sl] [VS o8_0,o8_1] 0 [])<|.test (decide (x1<(ag x0:Int))) (.al (0<=x1/\x1<ag x0)<|.call 178 [.v (.int .u8 (bt x0 x1))] [] fun r1 o1=>NB r1<|.test r1.toBool (.done 0 [VS x0,VI (IntKind.wrap .i64 (x1+1)),VI x9] [.cells [VS o6_0,o6_1],.cells [VS o8_0,o8_1]]) (.done 1 [VS x0,VI x1,VI x9] [.cells [VS o6_0,o6_1],.cells [VS o8_0,o8_1]])) (.done 1 [VS x0,VI x1,VI x9] [.cells [VS o6_0,o6_1],.cells [VS o8_0,o8_1]])
abbrev GN:=cx Tryz.prog 87 Mp G1
theorem Ji(x0:ByteArray)(x1:Int)(x9:Int)(o6_0:ByteArray)(o6_1:AV)(o8_0:ByteArray)(o8_1:AV)(h:jV 87 (El x0 x1 x9 o6_0 o6_1 o8_0 o8_1) GN U):GN [VS x0,VI x1,VI x9] [.cells [VS o6_0,o6_1],.cells [VS o8_0,o8_1]] U :=
 gQ EP h
def JV(x0:ByteArray)(x1:Int)(x2:Int)(o6_0:ByteArray)(o6_1:AV)(o8_0:ByteArray)(o8_1:List (List AV)):Tree :=
 NS (VS x0)<|NI (VI x1)<|NI (VI x2)<|.al (Ob.cells [VS o6_0,o6_1]=.cells [VS o6_0,o6_1])<|.al (ac [.lk .str,.lk .sl] [VS o6_0,o6_1] 0 [.cells [VS o8_0,.any],.vec 2 o8_1])<|.al (Ob.cells [VS o8_0,.any]=.cells [VS o8_0,.any])<|.al (ac [.lk .str,.vec 2] [VS o8_0,.any] 0 [.vec 2 o8_1])<|.call 152 [VS x0,VI (IntKind.wrap .i64 (x1+1)),VI (IntKind.wrap .i64 (x2+1))] [] fun r1 o1=>NT r1<|.al ((r1.comp 0)=.agg (r1.comp 0).cs/\(r1.comp 0).cs.length=2/\bu [.str,.sl] ((r1.comp 0).cs) 0)<|NI (r1.comp 1)<|.test (decide (((r1.comp 1).toInt)<(0:Int))) (.done 2 [VI (-1)] [.cells [VS o8_0,.any],.vec 2 o8_1]) (.test (decide (((r1.comp 1).toInt)≥(ag x0:Int))) (.done 2 [VI (-1)] [.cells [VS o8_0,.any],.vec 2 o8_1]) (.al (cw 2 [[VS (((r1.comp 0).cs.getD 0 .any).ai),((r1.comp 0).cs.getD 1 .any)]]/\((o8_1.length)+([[VS (((r1.comp 0).cs.getD 0 .any).ai),((r1.comp 0).cs.getD 1 .any)]]:List (List AV)).length)*40<=140737488355328)<|.al (0<=((r1.comp 1).toInt)/\((r1.comp 1).toInt)<ag x0)<|.test ((bt x0 ((r1.comp 1).toInt))==(41:Int)) (.done 2 [VI (IntKind.wrap .i64 (((r1.comp 1).toInt)+1))] [.cells [VS o8_0,.any],.vec 2 (o8_1++([[VS (((r1.comp 0).cs.getD 0 .any).ai),((r1.comp 0).cs.getD 1 .any)]]:List (List AV)))]) (.al (0<=((r1.comp 1).toInt)/\((r1.comp 1).toInt)<ag x0)<|.test ((bt x0 ((r1.comp 1).toInt)) != (32:Int)) (.done 2 [VI (-1)] [.cells [VS o8_0,.any],.vec 2 (o8_1++([[VS (((r1.comp 0).cs.getD 0 .any).ai),((r1.comp 0).cs.getD 1 .any)]]:List (List AV)))]) (.done 0 [VS x0,VI ((r1.comp 1).toInt),VI x2] [.cells [VS o6_0,o6_1],.cells [VS o8_0,.any],.vec 2 (o8_1++([[VS (((r1.comp 0).cs.getD 0 .any).ai),((r1.comp 0).cs.getD 1 .any)]]:List (List AV)))]))))
abbrev Ep:=cx Tryz.prog 87 Kq Gu
theorem OM(x0:ByteArray)(x1:Int)(x2:Int)(o6_0:ByteArray)(o6_1:AV)(o8_0:ByteArray)(o8_1:List (List AV))(h:jV 87 (JV x0 x1 x2 o6_0 o6_1 o8_0 o8_1) Ep U):Ep [VS x0,VI x1,VI x2] [.cells [VS o6_0,o6_1],.cells [VS o8_0,.any],.vec 2 o8_1] U :=
 gQ EP h
def zR:LI:={hd:={bJ:=[(0,.k .str),(3,.k (.int .i64)),(4,.k (.int .i64))]},xs:={bJ:=[(3,.k (.int .i64))]},rt:={bJ:=[(2,.k (.int .i64))]},ex:=0}
def Dc:Code:=cB (cy Tryz.f153) 5
def Jy:List (Nat×LI):=[(5,zR)]
def Ig(a0:ByteArray):Tree :=
 .call 56 [VI (ag a0:Int),VI 2,VI 3] [] fun r1 o1=>NB r1<|.test (!r1.toBool) (.done 0 [VI (-1)] []) (.al (0<=(0:Int)/\(0:Int)<ag a0)<|.test ((bt a0 0) != (101:Int)) (.done 0 [VI (-1)] []) (.test ((ag a0:Int)==(3:Int)) (.al (0<=(1:Int)/\(1:Int)<ag a0)<|.test ((bt a0 1)==(48:Int)) (.done 0 [VI (-1)] []) (.loop Dc zR [VS a0,VI 0,VI 1] [] (fun y2 q2=>NI (y2.hA)<|.done 0 [VI ((y2.hA).toInt)] []) (fun y2 q2=>NI (y2.hA)<|.done 0 [VI ((y2.hA).toInt)] []))) (.loop Dc zR [VS a0,VI 0,VI 1] [] (fun y3 q3=>NI (y3.hA)<|.done 0 [VI ((y3.hA).toInt)] []) (fun y3 q3=>NI (y3.hA)<|.done 0 [VI ((y3.hA).toInt)] []))))
theorem PS(a0:ByteArray)(h:dm 49 (Ig a0) R):an Tryz.prog 153 [VS a0] [] R :=
 uQ (af (au _) aA) (oQ Jy Tryz.f153 h)
def FH(x0:ByteArray)(x3:Int)(x4:Int):Tree :=
 NS (VS x0)<|NI (VI x3)<|NI (VI x4)<|.test (decide (x4<(ag x0:Int))) (.al (0<=x4/\x4<ag x0)<|.test (decide ((bt x0 x4)<(48:Int))) (.done 2 [VI (-1)] []) (.al (0<=x4/\x4<ag x0)<|.test (decide ((bt x0 x4)>(57:Int))) (.done 2 [VI (-1)] []) (.al (0<=x4/\x4<ag x0)<|.done 0 [VS x0,VI (IntKind.wrap .i64 ((IntKind.wrap .i64 (10*x3))+(IntKind.wrap .i64 (IntKind.wrap .u8 ((bt x0 x4)-48))))),VI (IntKind.wrap .i64 (x4+1))] []))) (.done 1 [VI x3] [])
abbrev DY:=cx Tryz.prog 49 Dc zR
theorem I4(x0:ByteArray)(x3:Int)(x4:Int)(h:jV 49 (FH x0 x3 x4) DY U):DY [VS x0,VI x3,VI x4] [] U :=
 gQ Jy h
def Ft:LI:={hd:={bJ:=[(1,.k .sl),(6,.k (.int .i64))],refs:=[(2,2),(4,4)],ck:=[(2,[.lk .str,.lk .sl]),(4,[.lk .str,.lk .sl])]},xs:={bJ:=[(1,.k .sl)],refs:=[(2,2),(4,4)],ck:=[(2,[.lk .str,.lk .sl]),(4,[.lk .str,.lk .sl])]},rt:={bJ:=[(5,.k .sl)],refs:=[(4,4)],ck:=[(4,[.lk .str,.lk .sl])]},ex:=0}
def Mu:Code:=cB (cy Tryz.f154) 2
def KR:List (Nat×LI):=[(2,Ft)]
def Lf(a0_0:ByteArray)(a0_1:AV)(a1:AV):Tree :=
 NL a1<|.loop Mu Ft [a1,VI (IntKind.wrap .i64 ((a1.aS.length:Int)-1))] [.cells [VS a0_0,a0_1],.cells [VS (mk []),.v (.slice none 0 0)]] (fun y1 q1=>NL (y1.hA)<|.al ((q1.hO)=.cells (q1.hO).cs)<|.al (ac [.lk .str,.lk .sl] ((q1.hO).cs) 0 q1.tail)<|.al (((q1.tail.drop 0).hO)=.cells ((q1.tail.drop 0).hO).cs)<|.al (ac [.lk .str,.lk .sl] (((q1.tail.drop 0).hO).cs) 0 ((q1.tail.drop 0).tail))<|.done 0 [.cv [.agg [VS (((q1.hO).cs.getD 0 .any).ai),((q1.hO).cs.getD 1 .any)],(y1.hA)]] []) (fun y1 q1=>NL (y1.hA)<|.al ((q1.hO)=.cells (q1.hO).cs)<|.al (ac [.lk .str,.lk .sl] ((q1.hO).cs) 0 q1.tail)<|.done 0 [.cv [.agg [VS (((q1.hO).cs.getD 0 .any).ai),((q1.hO).cs.getD 1 .any)],(y1.hA)]] [])
theorem Pm(a0_0:ByteArray)(a0_1:AV)(a1:AV)(ha0_1:LK.has .sl a0_1)(ha1:LK.has .sl a1)(h:dm 34 (Lf a0_0 a0_1 a1) R):an Tryz.prog 154 [.agg [VS a0_0,a0_1],a1] [] R :=
 uQ (af (bP (af (au _) (af (bU ha0_1) aA))) (af (bU ha1) aA)) (oQ KR Tryz.f154 h)
def Hd(x1:AV)(x6:Int)(o2_0:ByteArray)(o2_1:AV)(o4_0:ByteArray)(o4_1:AV):Tree :=
 NL x1<|NI (VI x6)<|.al (Ob.cells [VS o2_0,o2_1]=.cells [VS o2_0,o2_1])<|.al (ac [.lk .str,.lk .sl] [VS o2_0,o2_1] 0 [.cells [VS o4_0,o4_1]])<|.al (Ob.cells [VS o4_0,o4_1]=.cells [VS o4_0,o4_1])<|.al (ac [.lk .str,.lk .sl] [VS o4_0,o4_1] 0 [])<|.test (decide (x6≥(0:Int))) (NG x1 x6 4<|l9 (x1.ix x6)<|.test (ae (((x1.ix x6).hA).ai)==ae o2_0) (NG x1 x6 4<|NE ((x1.ix x6).drop 1)<|NG x1 x6 4<|nD ((x1.ix x6).drop 3)<|.done 2 [(((x1.ix x6).drop 3).hA)] [.cells [VS ((((x1.ix x6).drop 1).getD 0 .any).ai),(((x1.ix x6).drop 1).getD 1 .any)]]) (.done 0 [x1,VI (IntKind.wrap .i64 (x6-1))] [.cells [VS o2_0,o2_1],.cells [VS o4_0,o4_1]])) (.done 1 [x1] [.cells [VS o2_0,o2_1],.cells [VS o4_0,o4_1]])
abbrev E9:=cx Tryz.prog 34 Mu Ft
theorem Md(x1:AV)(x6:Int)(o2_0:ByteArray)(o2_1:AV)(o4_0:ByteArray)(o4_1:AV)(h:jV 34 (Hd x1 x6 o2_0 o2_1 o4_0 o4_1) E9 U):E9 [x1,VI x6] [.cells [VS o2_0,o2_1],.cells [VS o4_0,o4_1]] U :=
 gQ KR h
def HU(a0:ByteArray):Tree :=
 .call 170 [VS a0,.v (.int .u8 120),.v (.int .u8 122)] [] fun r1 o1=>NB r1<|.done 0 [VB r1.toBool] []
theorem QI(a0:ByteArray)(h:dm 5 (HU a0) R):an Tryz.prog 155 [VS a0] [] R :=
 uQ (af (au _) aA) (oQ [] Tryz.f155 h)
def HL(a0_0:ByteArray)(a0_1:AV)(a1:AV):Tree :=
 NG a0_1 2 2<|NE (a0_1.ix (2:Int))<|.al (LK.has .sl a1/\cw 4 a1.aS/\((([]:List (List AV)).length)+a1.aS.length)*80<=140737488355328)<|NG a0_1 1 2<|l9 (a0_1.ix (1:Int))<|.al (cw 4 [[VS (((a0_1.ix (1:Int)).hA).ai),VS a0_0,a0_1,a1]]/\(((([]:List (List AV))++a1.aS).length)+([[VS (((a0_1.ix (1:Int)).hA).ai),VS a0_0,a0_1,a1]]:List (List AV)).length)*80<=140737488355328)<|.done 0 [.cv [.agg [VS (((a0_1.ix (2:Int)).getD 0 .any).ai),((a0_1.ix (2:Int)).getD 1 .any)],.sl ((([]:List (List AV))++a1.aS)++([[VS (((a0_1.ix (1:Int)).hA).ai),VS a0_0,a0_1,a1]]:List (List AV)))]] []
theorem Nh(a0_0:ByteArray)(a0_1:AV)(a1:AV)(ha0_1:LK.has .sl a0_1)(ha1:LK.has .sl a1)(h:dm 23 (HL a0_0 a0_1 a1) R):an Tryz.prog 156 [.agg [VS a0_0,a0_1],a1] [] R :=
 uQ (af (bP (af (au _) (af (bU ha0_1) aA))) (af (bU ha1) aA)) (oQ [] Tryz.f156 h)
def MI(a0:AV):Tree :=
 .call 179 [a0,.v (.func (.func 159) #[] #[])] [] fun r1 o1=>NI r1<|.done 0 [VB (decide (r1.toInt≥(0:Int)))] []
theorem Qm(a0:AV)(ha0:LK.has .sl a0)(h:dm 9 (MI a0) R):an Tryz.prog 157 [a0,.v (.func (.func 159) #[] #[])] [] R :=
 uQ (af (bU ha0) (af (au _) aA)) (oQ [] Tryz.f157 h)
def Kp(a0:AV):Tree :=
 .call 180 [a0,.fn 181 [.ref 0 0]] [.cells [.vec 1],.vec 1 []] fun r1 o1=>.al ((o1.hO)=.cells (o1.hO).cs)<|.al (bo [.vec 1] ((o1.hO).cs) 0 1 o1.tail)<|.done 0 [.sl ((o1.tail.hO).es)] []
theorem QL(a0:AV)(ha0:LK.has .ptr a0)(h:dm 9 (Kp a0) R):an Tryz.prog 158 [a0] [] R :=
 uQ (af (bz ha0) aA) (oQ [] Tryz.f158 h)
def Kr(a0:ByteArray):Tree :=
 .call 182 [VS a0,VS (mk [116])] [] fun r1 o1=>NB r1<|.done 0 [VB r1.toBool] []
theorem OQ(a0:ByteArray)(h:dm 5 (Kr a0) R):an Tryz.prog 159 [VS a0] [] R :=
 uQ (af (au _) aA) (oQ [] Tryz.f159 h)
def E5:LI:={hd:={bJ:=[(0,.k .str),(1,.k (.int .i64)),(6,.k (.int .i64))]},xs:={bJ:=[(0,.k .str),(1,.k (.int .i64)),(6,.k (.int .i64))]},rt:={},ex:=0}
def Kt:Code:=cB (cy Tryz.f160) 2
def En:LI:={hd:={bJ:=[(0,.k .str),(1,.k (.int .i64)),(7,.k .str)],refs:=[(8,48)],ck:=[(48,[.lk .str,.vec 1])]},xs:={},rt:={bJ:=[(4,.k .ptr),(5,.k .str)]},ex:=999}
def L4:Code:=cB (cy Tryz.f160) 10
def Ee:List (Nat×LI):=[(2,E5),(10,En)]
def DX(a0:ByteArray)(a1:Int):Tree :=
 .loop Kt E5 [VS a0,VI a1,VI 0] [] (fun y2 q2=>NS (y2.hA)<|NI (y2.tail.hA)<|NI (y2.tail.tail.hA)<|.test (decide (((y2.tail.tail.hA).toInt)>(0:Int))) (.al (0<=(0:Int)/\(0:Int)<=((y2.tail.tail.hA).toInt)/\((y2.tail.tail.hA).toInt)<=(ag ((y2.hA).ai):Int))<|.al (0<=((y2.tail.tail.hA).toInt)/\((y2.tail.tail.hA).toInt)<=(ag ((y2.hA).ai):Int)/\(ag ((y2.hA).ai):Int)<=(ag ((y2.hA).ai):Int))<|.done 0 [.cv [.ptr [VS (cd ((y2.hA).ai) (bD 0) (bD ((y2.tail.tail.hA).toInt))),.v (.slice none 0 0)],VS (cd ((y2.hA).ai) (bD ((y2.tail.tail.hA).toInt)) (bD (ag ((y2.hA).ai):Int)))]] []) (.test (ae ((y2.hA).ai)==ae (mk [])) (.done 0 [.cv [.v (.pointer none),VS ((y2.hA).ai)]] []) (.al (0<=(0:Int)/\(0:Int)<ag ((y2.hA).ai))<|.test ((bt ((y2.hA).ai) 0) != (40:Int)) (.done 0 [.cv [.v (.pointer none),VS ((y2.hA).ai)]] []) (.test (((y2.tail.hA).toInt)==(300:Int)) (.done 0 [.cv [.v (.pointer none),VS ((y2.hA).ai)]] []) (.al (0<=(1:Int)/\(1:Int)<=(ag ((y2.hA).ai):Int)/\(ag ((y2.hA).ai):Int)<=(ag ((y2.hA).ai):Int))<|.loop L4 En [VS ((y2.hA).ai),VI ((y2.tail.hA).toInt),VS (cd ((y2.hA).ai) (bD 1) (bD (ag ((y2.hA).ai):Int)))] [.cells [VS (mk []),.any],.vec 1 []] (fun y5 q5=>.fail) (fun y5 q5=>NP (y5.hA)<|NS (y5.tail.hA)<|.done 0 [.cv [(y5.hA),VS ((y5.tail.hA).ai)]] [])))))) (fun y2 q2=>.done 0 [.cv [.any,.any]] [])
theorem HA(a0:ByteArray)(a1:Int)(h:dm 84 (DX a0 a1) R):an Tryz.prog 160 [VS a0,VI a1] [] R :=
 uQ (af (au _) (af (au _) aA)) (oQ Ee Tryz.f160 h)
def Gr(x0:ByteArray)(x1:Int)(x6:Int):Tree :=
 NS (VS x0)<|NI (VI x1)<|NI (VI x6)<|.test (decide (x6<(ag x0:Int))) (.al (0<=x6/\x6<ag x0)<|.call 183 [.v (.int .u8 (bt x0 x6))] [] fun r1 o1=>NB r1<|.test r1.toBool (.done 0 [VS x0,VI x1,VI (IntKind.wrap .i64 (x6+1))] []) (.done 1 [VS x0,VI x1,VI x6] [])) (.done 1 [VS x0,VI x1,VI x6] [])
abbrev Ej:=cx Tryz.prog 84 Kt E5
theorem Lz(x0:ByteArray)(x1:Int)(x6:Int)(h:jV 84 (Gr x0 x1 x6) Ej U):Ej [VS x0,VI x1,VI x6] [] U :=
 gQ Ee h
def Jh(x0:ByteArray)(x1:Int)(x7:ByteArray)(o48_0:ByteArray)(o48_1:List (List AV)):Tree :=
 NS (VS x0)<|NI (VI x1)<|NS (VS x7)<|.al (Ob.cells [VS o48_0,.any]=.cells [VS o48_0,.any])<|.al (ac [.lk .str,.vec 1] [VS o48_0,.any] 0 [.vec 1 o48_1])<|.call 160 [VS x7,VI (IntKind.wrap .i64 (x1+1))] [] fun r1 o1=>NT r1<|NP (r1.comp 0)<|NS (r1.comp 1)<|NP (r1.comp 0)<|.test ((r1.comp 0).isNil) (.done 2 [.v (.pointer none),VS x0] []) (.test (ae ((r1.comp 1).ai)==ae (mk [])) (.done 2 [.v (.pointer none),VS x0] []) (.al (cw 1 [[(r1.comp 0)]]/\((o48_1.length)+([[(r1.comp 0)]]:List (List AV)).length)*8<=140737488355328)<|.al (0<=(1:Int)/\(1:Int)<=(ag ((r1.comp 1).ai):Int)/\(ag ((r1.comp 1).ai):Int)<=(ag ((r1.comp 1).ai):Int))<|.al (0<=(0:Int)/\(0:Int)<ag ((r1.comp 1).ai))<|.test ((bt ((r1.comp 1).ai) 0)==(41:Int)) (.done 2 [.ptr [VS o48_0,.sl (o48_1++([[(r1.comp 0)]]:List (List AV)))],VS (cd ((r1.comp 1).ai) (bD 1) (bD (ag ((r1.comp 1).ai):Int)))] []) (.al (0<=(0:Int)/\(0:Int)<ag ((r1.comp 1).ai))<|.test ((bt ((r1.comp 1).ai) 0) != (32:Int)) (.done 2 [.v (.pointer none),VS x0] []) (.done 0 [VS x0,VI x1,VS (cd ((r1.comp 1).ai) (bD 1) (bD (ag ((r1.comp 1).ai):Int)))] [.cells [VS o48_0,.any],.vec 1 (o48_1++([[(r1.comp 0)]]:List (List AV)))]))))
abbrev Ed:=cx Tryz.prog 84 L4 En
theorem NC(x0:ByteArray)(x1:Int)(x7:ByteArray)(o48_0:ByteArray)(o48_1:List (List AV))(h:jV 84 (Jh x0 x1 x7 o48_0 o48_1) Ed U):Ed [VS x0,VI x1,VS x7] [.cells [VS o48_0,.any],.vec 1 o48_1] U :=
 gQ Ee h
def JR(a0:ByteArray):Tree :=
 .test (decide ((ag a0:Int)<(2:Int))) (.done 0 [VB false] []) (.test (decide ((ag a0:Int)>(3:Int))) (.done 0 [VB false] []) (.al (0<=(0:Int)/\(0:Int)<ag a0)<|.test ((bt a0 0) != (101:Int)) (.done 0 [VB false] []) (.al (0<=(1:Int)/\(1:Int)<=(ag a0:Int)/\(ag a0:Int)<=(ag a0:Int))<|.call 184 [VS (cd a0 (bD 1) (bD (ag a0:Int))),VS (mk [48,49,50,51,52,53,54,55,56,57])] [] fun r1 o1=>NS r1<|.test (!(ae r1.ai==ae (mk []))) (.done 0 [VB false] []) (.test ((ag a0:Int)==(2:Int)) (.done 0 [VB true] []) (.al (0<=(1:Int)/\(1:Int)<ag a0)<|.done 0 [VB ((bt a0 1) != (48:Int))] [])))))
theorem O5(a0:ByteArray)(h:dm 30 (JR a0) R):an Tryz.prog 161 [VS a0] [] R :=
 uQ (af (au _) aA) (oQ [] Tryz.f161 h)
def AQ(a0:AV)(a1:ByteArray)(a2:Int):Tree :=
 NZ a0<|NZ a0<|nD (a0.deref.drop 1)<|NL ((a0.deref.drop 1).hA)<|.test (((((a0.deref.drop 1).hA).aS).length:Int)==a2) (NZ a0<|NZ a0<|nD (a0.deref.drop 1)<|NG ((a0.deref.drop 1).hA) 0 1<|dQ (((a0.deref.drop 1).hA).ix (0:Int))<|NZ ((((a0.deref.drop 1).hA).ix (0:Int)).hA)<|NZ ((((a0.deref.drop 1).hA).ix (0:Int)).hA)<|.al (LK.has .str (((((a0.deref.drop 1).hA).ix (0:Int)).hA).deref.hA)/\1<=(((((a0.deref.drop 1).hA).ix (0:Int)).hA).deref).length)<|.done 0 [VB (ae ((((((a0.deref.drop 1).hA).ix (0:Int)).hA).deref.hA).ai)==ae a1)] []) (.done 0 [VB false] [])
theorem KH(a0:AV)(a1:ByteArray)(a2:Int)(ha0:LK.has .ptr a0)(h:dm 27 (AQ a0 a1 a2) R):an Tryz.prog 162 [a0,VS a1,VI a2] [] R :=
 uQ (af (bz ha0) (af (au _) (af (au _) aA))) (oQ [] Tryz.f162 h)
def wH(a0_0:ByteArray)(a0_1:AV):Tree :=
 .test (!(ae a0_0==ae (mk []))) (.test (ae a0_0==ae (mk [48])) (.done 0 [VB true] []) (.test (ae a0_0==ae (mk [49])) (.done 0 [VB true] []) (.call 155 [VS a0_0] [] fun r1 o1=>NB r1<|.test r1.toBool (.done 0 [VB true] []) (.call 138 [VS a0_0] [] fun r2 o2=>NB r2<|.done 0 [VB r2.toBool] [])))) (NL a0_1<|.test ((a0_1.aS.length:Int) != (3:Int)) (.done 0 [VB false] []) (.call 121 [.agg [VS a0_0,a0_1]] [] fun r3 o3=>NS r3<|.test (ae r3.ai==ae (mk [43])) (NG a0_1 1 2<|NE (a0_1.ix (1:Int))<|.call 165 [.agg [VS (((a0_1.ix (1:Int)).getD 0 .any).ai),((a0_1.ix (1:Int)).getD 1 .any)]] [] fun r4 o4=>NB r4<|.test r4.toBool (NG a0_1 2 2<|NE (a0_1.ix (2:Int))<|.call 165 [.agg [VS (((a0_1.ix (2:Int)).getD 0 .any).ai),((a0_1.ix (2:Int)).getD 1 .any)]] [] fun r5 o5=>NB r5<|.done 0 [VB r5.toBool] []) (.done 0 [VB false] [])) (.test (ae r3.ai==ae (mk [42])) (NG a0_1 1 2<|NE (a0_1.ix (1:Int))<|.call 165 [.agg [VS (((a0_1.ix (1:Int)).getD 0 .any).ai),((a0_1.ix (1:Int)).getD 1 .any)]] [] fun r6 o6=>NB r6<|.test r6.toBool (NG a0_1 2 2<|NE (a0_1.ix (2:Int))<|.call 165 [.agg [VS (((a0_1.ix (2:Int)).getD 0 .any).ai),((a0_1.ix (2:Int)).getD 1 .any)]] [] fun r7 o7=>NB r7<|.done 0 [VB r7.toBool] []) (.done 0 [VB false] [])) (.test (ae r3.ai==ae (mk [114,101,99])) (NG a0_1 1 2<|l9 (a0_1.ix (1:Int))<|.call 138 [VS (((a0_1.ix (1:Int)).hA).ai)] [] fun r8 o8=>NB r8<|.test r8.toBool (NG a0_1 2 2<|NE (a0_1.ix (2:Int))<|.call 165 [.agg [VS (((a0_1.ix (2:Int)).getD 0 .any).ai),((a0_1.ix (2:Int)).getD 1 .any)]] [] fun r9 o9=>NB r9<|.done 0 [VB r9.toBool] []) (.done 0 [VB false] [])) (.done 0 [VB false] [])))))
theorem KK(a0_0:ByteArray)(a0_1:AV)(ha0_1:LK.has .sl a0_1)(h:dm 60 (wH a0_0 a0_1) R):an Tryz.prog 165 [.agg [VS a0_0,a0_1]] [] R :=
 uQ (af (bP (af (au _) (af (bU ha0_1) aA))) aA) (oQ [] Tryz.f165 h)
def BF(a0_0:ByteArray)(a0_1:AV)(a1:ByteArray):Tree :=
 .test (!(ae a0_0==ae (mk []))) (.test (ae a0_0==ae a1) (.done 0 [.cv [.agg [VS (mk [49]),.v (.slice none 0 0)],VB true]] []) (.done 0 [.cv [.agg [VS (mk [48]),.v (.slice none 0 0)],VB true]] [])) (.call 121 [.agg [VS a0_0,a0_1]] [] fun r1 o1=>NS r1<|.test (ae r1.ai==ae (mk [114,101,99])) (.call 190 [.agg [VS a0_0,a0_1],VS a1] [] fun r2 o2=>NT r2<|.al ((r2.comp 0)=.agg (r2.comp 0).cs/\(r2.comp 0).cs.length=2/\bu [.str,.sl] ((r2.comp 0).cs) 0)<|NB (r2.comp 1)<|.done 0 [.cv [.agg [VS (((r2.comp 0).cs.getD 0 .any).ai),((r2.comp 0).cs.getD 1 .any)],VB ((r2.comp 1).toBool)]] []) (NG a0_1 1 2<|NE (a0_1.ix (1:Int))<|.call 166 [.agg [VS (((a0_1.ix (1:Int)).getD 0 .any).ai),((a0_1.ix (1:Int)).getD 1 .any)],VS a1] [] fun r3 o3=>NT r3<|.al ((r3.comp 0)=.agg (r3.comp 0).cs/\(r3.comp 0).cs.length=2/\bu [.str,.sl] ((r3.comp 0).cs) 0)<|NB (r3.comp 1)<|NG a0_1 2 2<|NE (a0_1.ix (2:Int))<|.call 166 [.agg [VS (((a0_1.ix (2:Int)).getD 0 .any).ai),((a0_1.ix (2:Int)).getD 1 .any)],VS a1] [] fun r4 o4=>NT r4<|.al ((r4.comp 0)=.agg (r4.comp 0).cs/\(r4.comp 0).cs.length=2/\bu [.str,.sl] ((r4.comp 0).cs) 0)<|NB (r4.comp 1)<|.call 98 [VS (mk [43]),.sl [[VS (((r3.comp 0).cs.getD 0 .any).ai),((r3.comp 0).cs.getD 1 .any)],[VS (((r4.comp 0).cs.getD 0 .any).ai),((r4.comp 0).cs.getD 1 .any)]]] [] fun r5 o5=>NA r5<|.call 121 [.agg [VS a0_0,a0_1]] [] fun r6 o6=>NS r6<|.test (ae r6.ai==ae (mk [42])) (NG a0_1 2 2<|NE (a0_1.ix (2:Int))<|.call 98 [VS (mk [42]),.sl [[VS (((r3.comp 0).cs.getD 0 .any).ai),((r3.comp 0).cs.getD 1 .any)],[VS (((a0_1.ix (2:Int)).getD 0 .any).ai),((a0_1.ix (2:Int)).getD 1 .any)]]] [] fun r7 o7=>NA r7<|NG a0_1 1 2<|NE (a0_1.ix (1:Int))<|.call 98 [VS (mk [42]),.sl [[VS (((a0_1.ix (1:Int)).getD 0 .any).ai),((a0_1.ix (1:Int)).getD 1 .any)],[VS (((r4.comp 0).cs.getD 0 .any).ai),((r4.comp 0).cs.getD 1 .any)]]] [] fun r8 o8=>NA r8<|.call 98 [VS (mk [43]),.sl [[VS ((r7.cs.getD 0 .any).ai),(r7.cs.getD 1 .any)],[VS ((r8.cs.getD 0 .any).ai),(r8.cs.getD 1 .any)]]] [] fun r9 o9=>NA r9<|.test ((r3.comp 1).toBool) (.test ((r4.comp 1).toBool) (.call 140 [.agg [VS ((r9.cs.getD 0 .any).ai),(r9.cs.getD 1 .any)]] [] fun r10 o10=>NI r10<|.done 0 [.cv [.agg [VS ((r9.cs.getD 0 .any).ai),(r9.cs.getD 1 .any)],VB (decide (r10.toInt<=(400:Int)))]] []) (.done 0 [.cv [.agg [VS ((r9.cs.getD 0 .any).ai),(r9.cs.getD 1 .any)],VB false]] [])) (.done 0 [.cv [.agg [VS ((r9.cs.getD 0 .any).ai),(r9.cs.getD 1 .any)],VB false]] [])) (.test ((r3.comp 1).toBool) (.test ((r4.comp 1).toBool) (.call 140 [.agg [VS ((r5.cs.getD 0 .any).ai),(r5.cs.getD 1 .any)]] [] fun r11 o11=>NI r11<|.done 0 [.cv [.agg [VS ((r5.cs.getD 0 .any).ai),(r5.cs.getD 1 .any)],VB (decide (r11.toInt<=(400:Int)))]] []) (.done 0 [.cv [.agg [VS ((r5.cs.getD 0 .any).ai),(r5.cs.getD 1 .any)],VB false]] [])) (.done 0 [.cv [.agg [VS ((r5.cs.getD 0 .any).ai),(r5.cs.getD 1 .any)],VB false]] []))))
theorem Db(a0_0:ByteArray)(a0_1:AV)(a1:ByteArray)(ha0_1:LK.has .sl a0_1)(h:dm 79 (BF a0_0 a0_1 a1) R):an Tryz.prog 166 [.agg [VS a0_0,a0_1],VS a1] [] R :=
 uQ (af (bP (af (au _) (af (bU ha0_1) aA))) (af (au _) aA)) (oQ [] Tryz.f166 h)
def Mc(a0_0:ByteArray)(a0_1:AV)(a1:ByteArray)(a2_0:ByteArray)(a2_1:AV):Tree :=
 .call 171 [.agg [VS a0_0,a0_1],VS a1,.agg [VS a2_0,a2_1]] [] fun r1 o1=>NB r1<|.test (!r1.toBool) (.done 0 [.cv [.agg [VS a0_0,a0_1],VB false]] []) (.call 172 [.agg [VS a0_0,a0_1],VS a1,.agg [VS a2_0,a2_1]] [] fun r2 o2=>NA r2<|.done 0 [.cv [.agg [VS ((r2.cs.getD 0 .any).ai),(r2.cs.getD 1 .any)],VB true]] [])
theorem PY(a0_0:ByteArray)(a0_1:AV)(a1:ByteArray)(a2_0:ByteArray)(a2_1:AV)(ha0_1:LK.has .sl a0_1)(ha2_1:LK.has .sl a2_1)(h:dm 18 (Mc a0_0 a0_1 a1 a2_0 a2_1) R):an Tryz.prog 167 [.agg [VS a0_0,a0_1],VS a1,.agg [VS a2_0,a2_1]] [] R :=
 uQ (af (bP (af (au _) (af (bU ha0_1) aA))) (af (au _) (af (bP (af (au _) (af (bU ha2_1) aA))) aA))) (oQ [] Tryz.f167 h)
def JA(a0:ByteArray):Tree :=
 .call 132 [VS a0] [] fun r1 o1=>NT r1<|.al ((r1.comp 0)=.agg (r1.comp 0).cs/\(r1.comp 0).cs.length=2/\bu [.str,.sl] ((r1.comp 0).cs) 0)<|NB (r1.comp 1)<|.done 0 [VB ((r1.comp 1).toBool)] []
theorem N2(a0:ByteArray)(h:dm 11 (JA a0) R):an Tryz.prog 168 [VS a0] [] R :=
 uQ (af (au _) aA) (oQ [] Tryz.f168 h)
def D2:LI:={hd:={bJ:=[(0,.k .sl),(1,.k .str),(5,.k (.int .i64))]},xs:={},rt:={bJ:=[(4,.k .bool)]},ex:=0}
def Li:Code:=cB (cy Tryz.f169) 2
def I5:List (Nat×LI):=[(2,D2)]
def Jn(a0:AV)(a1:ByteArray):Tree :=
 .loop Li D2 [a0,VS a1,VI 0] [] (fun y1 q1=>.done 0 [VB false] []) (fun y1 q1=>NB (y1.hA)<|.done 0 [VB ((y1.hA).toBool)] [])
theorem N0(a0:AV)(a1:ByteArray)(ha0:LK.has .sl a0)(h:dm 18 (Jn a0 a1) R):an Tryz.prog 169 [a0,VS a1] [] R :=
 uQ (af (bU ha0) (af (au _) aA)) (oQ I5 Tryz.f169 h)
def FM(x0:AV)(x1:ByteArray)(x5:Int):Tree :=
 NL x0<|NS (VS x1)<|NI (VI x5)<|NL x0<|.test (decide (x5<(x0.aS.length:Int))) (NG x0 x5 1<|l9 (x0.ix x5)<|.test (ae (((x0.ix x5).hA).ai)==ae x1) (.done 2 [VB true] []) (.done 0 [x0,VS x1,VI (IntKind.wrap .i64 (x5+1))] [])) (.done 1 [] [])
abbrev D7:=cx Tryz.prog 18 Li D2
theorem MA(x0:AV)(x1:ByteArray)(x5:Int)(h:jV 18 (FM x0 x1 x5) D7 U):D7 [x0,VS x1,VI x5] [] U :=
 gQ I5 h
def D8:LI:={hd:={bJ:=[(0,.k .str),(7,.k (.int .i64))]},xs:={},rt:={bJ:=[(6,.k .bool)]},ex:=0}
def KZ:Code:=cB (cy Tryz.f170) 4
def KW:List (Nat×LI):=[(4,D8)]
def Is(a0:ByteArray)(a1:Int)(a2:Int):Tree :=
 .call 56 [VI (ag a0:Int),VI 1,VI 3] [] fun r1 o1=>NB r1<|.test (!r1.toBool) (.done 0 [VB false] []) (.al (0<=(0:Int)/\(0:Int)<ag a0)<|.test (decide ((bt a0 0)<a1)) (.done 0 [VB false] []) (.al (0<=(0:Int)/\(0:Int)<ag a0)<|.test (decide ((bt a0 0)>a2)) (.done 0 [VB false] []) (.loop KZ D8 [VS a0,VI 1] [] (fun y2 q2=>.done 0 [VB true] []) (fun y2 q2=>NB (y2.hA)<|.done 0 [VB ((y2.hA).toBool)] []))))
theorem Pq(a0:ByteArray)(a1:Int)(a2:Int)(h:dm 40 (Is a0 a1 a2) R):an Tryz.prog 170 [VS a0,.v (.int .u8 a1),.v (.int .u8 a2)] [] R :=
 uQ (af (au _) (af (au _) (af (au _) aA))) (oQ KW Tryz.f170 h)
def FU(x0:ByteArray)(x7:Int):Tree :=
 NS (VS x0)<|NI (VI x7)<|.test (decide (x7<(ag x0:Int))) (.al (0<=x7/\x7<ag x0)<|.test (decide ((bt x0 x7)<(48:Int))) (.done 2 [VB false] []) (.al (0<=x7/\x7<ag x0)<|.test (decide ((bt x0 x7)>(57:Int))) (.done 2 [VB false] []) (.done 0 [VS x0,VI (IntKind.wrap .i64 (x7+1))] []))) (.done 1 [] [])
abbrev Fy:=cx Tryz.prog 40 KZ D8
theorem JB(x0:ByteArray)(x7:Int)(h:jV 40 (FU x0 x7) Fy U):Fy [VS x0,VI x7] [] U :=
 gQ KW h
def JM(a0_0:ByteArray)(a0_1:AV)(a1:ByteArray)(a2_0:ByteArray)(a2_1:AV):Tree :=
 .call 140 [.agg [VS a0_0,a0_1]] [] fun r1 o1=>NI r1<|.call 191 [.agg [VS a0_0,a0_1],VS a1] [] fun r2 o2=>NI r2<|.call 140 [.agg [VS a2_0,a2_1]] [] fun r3 o3=>NI r3<|.done 0 [VB (decide ((IntKind.wrap .i64 (r1.toInt+(IntKind.wrap .i64 (r2.toInt*(IntKind.wrap .i64 (r3.toInt-1))))))<=(400:Int)))] []
theorem Qb(a0_0:ByteArray)(a0_1:AV)(a1:ByteArray)(a2_0:ByteArray)(a2_1:AV)(ha0_1:LK.has .sl a0_1)(ha2_1:LK.has .sl a2_1)(h:dm 18 (JM a0_0 a0_1 a1 a2_0 a2_1) R):an Tryz.prog 171 [.agg [VS a0_0,a0_1],VS a1,.agg [VS a2_0,a2_1]] [] R :=
 uQ (af (bP (af (au _) (af (bU ha0_1) aA))) (af (au _) (af (bP (af (au _) (af (bU ha2_1) aA))) aA))) (oQ [] Tryz.f171 h)
def HQ(a0_0:ByteArray)(a0_1:AV)(a1:ByteArray)(a2_0:ByteArray)(a2_1:AV):Tree :=
 .call 106 [.agg [VS a0_0,a0_1],.sl [[VS a2_0,a2_1],[VS a1,.v (.slice none 0 0)]]] [] fun r1 o1=>NA r1<|.call 192 [.agg [VS ((r1.cs.getD 0 .any).ai),(r1.cs.getD 1 .any)],VS a1,.agg [VS a2_0,a2_1]] [] fun r2 o2=>NA r2<|.done 0 [.agg [VS ((r2.cs.getD 0 .any).ai),(r2.cs.getD 1 .any)]] []
theorem Qo(a0_0:ByteArray)(a0_1:AV)(a1:ByteArray)(a2_0:ByteArray)(a2_1:AV)(ha0_1:LK.has .sl a0_1)(ha2_1:LK.has .sl a2_1)(h:dm 16 (HQ a0_0 a0_1 a1 a2_0 a2_1) R):an Tryz.prog 172 [.agg [VS a0_0,a0_1],VS a1,.agg [VS a2_0,a2_1]] [] R :=
 uQ (af (bP (af (au _) (af (bU ha0_1) aA))) (af (au _) (af (bP (af (au _) (af (bU ha2_1) aA))) aA))) (oQ [] Tryz.f172 h)
def MC(a0:ByteArray):Tree :=
 .call 182 [VS a0,VS (mk [120,121,122])] [] fun r1 o1=>NB r1<|.done 0 [VB r1.toBool] []
theorem Og(a0:ByteArray)(h:dm 5 (MC a0) R):an Tryz.prog 173 [VS a0] [] R :=
 uQ (af (au _) aA) (oQ [] Tryz.f173 h)
def J8(a0:Int)(a1:AV)(a2:AV):Tree :=
 .done 0 [.ptr [.v (.int .u8 a0),VS (mk []),VI 0,a1,a2]] []
theorem Qx(a0:Int)(a1:AV)(a2:AV)(ha1:LK.has .ptr a1)(ha2:LK.has .ptr a2)(h:dm 12 (J8 a0 a1 a2) R):an Tryz.prog 175 [.v (.int .u8 a0),a1,a2] [] R :=
 uQ (af (au _) (af (bz ha1) (af (bz ha2) aA))) (oQ [] Tryz.f175 h)
def Fm:LI:={hd:={bJ:=[(0,.k .ptr),(1,.k .sl),(9,.k .str)],refs:=[(3,0),(4,1)],ck:=[(0,[.lk .sl]),(1,[.lk (.int .i64)])],vi:=[(2,176,[none,some 0,some 1])]},xs:={bJ:=[(0,.k .ptr),(1,.k .sl),(9,.k .str)],ck:=[(0,[.lk .sl]),(1,[.lk (.int .i64)])],vi:=[(2,176,[none,some 0,some 1])]},rt:={ck:=[(0,[.lk .sl]),(1,[.lk (.int .i64)])]},ex:=1,fx:=[0,1]}
def HW:Code:=cB (cy Tryz.f176) 12
def HI:List (Nat×LI):=[(12,Fm)]
def DA(a0:AV)(a1:AV)(a3_0:AV)(a4_0:Int):Tree :=
 NZ a0<|NZ a0<|.al (LK.has (.int .u8) (a0.deref.hA)/\1<=a0.deref.length)<|.test (((a0.deref.hA).toInt)==(110:Int)) (NZ a0<|NZ a0<|l9 (a0.deref.drop 1)<|.done 0 [VS (((a0.deref.drop 1).hA).ai)] [.cells [a3_0],.cells [VI a4_0]]) (.test (((a0.deref.hA).toInt)==(98:Int)) (NL a1<|NZ a0<|NZ a0<|.al (LK.has (.int .i64) ((a0.deref.drop 2).hA)/\1<=(a0.deref.drop 2).length)<|.al (LK.has .sl a1/\0<=(IntKind.wrap .i64 ((IntKind.wrap .i64 ((a1.aS.length:Int)-1))-(((a0.deref.drop 2).hA).toInt)))/\(IntKind.wrap .i64 ((IntKind.wrap .i64 ((a1.aS.length:Int)-1))-(((a0.deref.drop 2).hA).toInt)))<a1.aS.length/\(a1.ix (IntKind.wrap .i64 ((IntKind.wrap .i64 ((a1.aS.length:Int)-1))-(((a0.deref.drop 2).hA).toInt)))).length=1)<|l9 (a1.ix (IntKind.wrap .i64 ((IntKind.wrap .i64 ((a1.aS.length:Int)-1))-(((a0.deref.drop 2).hA).toInt))))<|.done 0 [VS (((a1.ix (IntKind.wrap .i64 ((IntKind.wrap .i64 ((a1.aS.length:Int)-1))-(((a0.deref.drop 2).hA).toInt)))).hA).ai)] [.cells [a3_0],.cells [VI a4_0]]) (.test (((a0.deref.hA).toInt)==(43:Int)) (NZ a0<|NZ a0<|dQ (a0.deref.drop 3)<|.call 176 [((a0.deref.drop 3).hA),a1,.gF 176 [none,some 0,some 1],.ref 0 0,.ref 1 0] [.cells [a3_0],.cells [VI a4_0]] fun r1 o1=>.al ((o1.hO)=.cells (o1.hO).cs)<|.al (bo [.lk .sl] ((o1.hO).cs) 0 1 o1.tail)<|.al ((o1.tail.hO)=.cells (o1.tail.hO).cs)<|.al (bo [.lk (.int .i64)] ((o1.tail.hO).cs) 0 2 o1.tail.tail)<|NS r1<|NZ a0<|NZ a0<|.al (LK.has (.int .u8) (a0.deref.hA)/\1<=a0.deref.length)<|.al (jn [[.v (.int .u8 ((a0.deref.hA).toInt))]])<|.al (ag (mk [40])+ag (⟨(bytesOf [[.v (.int .u8 ((a0.deref.hA).toInt))]]).toArray⟩)<=9223372036854775807)<|.al (ag (((mk [40]):ByteArray)++(⟨(bytesOf [[.v (.int .u8 ((a0.deref.hA).toInt))]]).toArray⟩))+ag (mk [32])<=9223372036854775807)<|.al (ag (((((mk [40]):ByteArray)++(⟨(bytesOf [[.v (.int .u8 ((a0.deref.hA).toInt))]]).toArray⟩)):ByteArray)++(mk [32]))+ag r1.ai<=9223372036854775807)<|.al (ag (((((((mk [40]):ByteArray)++(⟨(bytesOf [[.v (.int .u8 ((a0.deref.hA).toInt))]]).toArray⟩)):ByteArray)++(mk [32])):ByteArray)++r1.ai)+ag (mk [32])<=9223372036854775807)<|NZ a0<|NZ a0<|dQ (a0.deref.drop 4)<|.call 176 [((a0.deref.drop 4).hA),a1,.gF 176 [none,some 0,some 1],.ref 0 0,.ref 1 0] [.cells [((o1.hO).cs.getD 0 .any)],.cells [VI (((o1.tail.hO).cs.getD 0 .any).toInt)]] fun r2 o2=>.al ((o2.hO)=.cells (o2.hO).cs)<|.al (bo [.lk .sl] ((o2.hO).cs) 0 1 o2.tail)<|.al ((o2.tail.hO)=.cells (o2.tail.hO).cs)<|.al (bo [.lk (.int .i64)] ((o2.tail.hO).cs) 0 2 o2.tail.tail)<|NS r2<|.al (ag (((((((((mk [40]):ByteArray)++(⟨(bytesOf [[.v (.int .u8 ((a0.deref.hA).toInt))]]).toArray⟩)):ByteArray)++(mk [32])):ByteArray)++r1.ai):ByteArray)++(mk [32]))+ag r2.ai<=9223372036854775807)<|.al (ag (((((((((((mk [40]):ByteArray)++(⟨(bytesOf [[.v (.int .u8 ((a0.deref.hA).toInt))]]).toArray⟩)):ByteArray)++(mk [32])):ByteArray)++r1.ai):ByteArray)++(mk [32])):ByteArray)++r2.ai)+ag (mk [41])<=9223372036854775807)<|.done 0 [VS (((((((((((((mk [40]):ByteArray)++(⟨(bytesOf [[.v (.int .u8 ((a0.deref.hA).toInt))]]).toArray⟩)):ByteArray)++(mk [32])):ByteArray)++r1.ai):ByteArray)++(mk [32])):ByteArray)++r2.ai):ByteArray)++(mk [41]))] [.cells [((o2.hO).cs.getD 0 .any)],.cells [VI (((o2.tail.hO).cs.getD 0 .any).toInt)]]) (.test (((a0.deref.hA).toInt)==(42:Int)) (NZ a0<|NZ a0<|dQ (a0.deref.drop 3)<|.call 176 [((a0.deref.drop 3).hA),a1,.gF 176 [none,some 0,some 1],.ref 0 0,.ref 1 0] [.cells [a3_0],.cells [VI a4_0]] fun r3 o3=>.al ((o3.hO)=.cells (o3.hO).cs)<|.al (bo [.lk .sl] ((o3.hO).cs) 0 1 o3.tail)<|.al ((o3.tail.hO)=.cells (o3.tail.hO).cs)<|.al (bo [.lk (.int .i64)] ((o3.tail.hO).cs) 0 2 o3.tail.tail)<|NS r3<|NZ a0<|NZ a0<|.al (LK.has (.int .u8) (a0.deref.hA)/\1<=a0.deref.length)<|.al (jn [[.v (.int .u8 ((a0.deref.hA).toInt))]])<|.al (ag (mk [40])+ag (⟨(bytesOf [[.v (.int .u8 ((a0.deref.hA).toInt))]]).toArray⟩)<=9223372036854775807)<|.al (ag (((mk [40]):ByteArray)++(⟨(bytesOf [[.v (.int .u8 ((a0.deref.hA).toInt))]]).toArray⟩))+ag (mk [32])<=9223372036854775807)<|.al (ag (((((mk [40]):ByteArray)++(⟨(bytesOf [[.v (.int .u8 ((a0.deref.hA).toInt))]]).toArray⟩)):ByteArray)++(mk [32]))+ag r3.ai<=9223372036854775807)<|.al (ag (((((((mk [40]):ByteArray)++(⟨(bytesOf [[.v (.int .u8 ((a0.deref.hA).toInt))]]).toArray⟩)):ByteArray)++(mk [32])):ByteArray)++r3.ai)+ag (mk [32])<=9223372036854775807)<|NZ a0<|NZ a0<|dQ (a0.deref.drop 4)<|.call 176 [((a0.deref.drop 4).hA),a1,.gF 176 [none,some 0,some 1],.ref 0 0,.ref 1 0] [.cells [((o3.hO).cs.getD 0 .any)],.cells [VI (((o3.tail.hO).cs.getD 0 .any).toInt)]] fun r4 o4=>.al ((o4.hO)=.cells (o4.hO).cs)<|.al (bo [.lk .sl] ((o4.hO).cs) 0 1 o4.tail)<|.al ((o4.tail.hO)=.cells (o4.tail.hO).cs)<|.al (bo [.lk (.int .i64)] ((o4.tail.hO).cs) 0 2 o4.tail.tail)<|NS r4<|.al (ag (((((((((mk [40]):ByteArray)++(⟨(bytesOf [[.v (.int .u8 ((a0.deref.hA).toInt))]]).toArray⟩)):ByteArray)++(mk [32])):ByteArray)++r3.ai):ByteArray)++(mk [32]))+ag r4.ai<=9223372036854775807)<|.al (ag (((((((((((mk [40]):ByteArray)++(⟨(bytesOf [[.v (.int .u8 ((a0.deref.hA).toInt))]]).toArray⟩)):ByteArray)++(mk [32])):ByteArray)++r3.ai):ByteArray)++(mk [32])):ByteArray)++r4.ai)+ag (mk [41])<=9223372036854775807)<|.done 0 [VS (((((((((((((mk [40]):ByteArray)++(⟨(bytesOf [[.v (.int .u8 ((a0.deref.hA).toInt))]]).toArray⟩)):ByteArray)++(mk [32])):ByteArray)++r3.ai):ByteArray)++(mk [32])):ByteArray)++r4.ai):ByteArray)++(mk [41]))] [.cells [((o4.hO).cs.getD 0 .any)],.cells [VI (((o4.tail.hO).cs.getD 0 .any).toInt)]]) (.test (((a0.deref.hA).toInt)==(114:Int)) (.loop HW Fm [a0,a1,VS (mk [])] [.cells [a3_0],.cells [VI a4_0]] (fun y8 q8=>NP (y8.hA)<|NL (y8.tail.hA)<|NS (y8.tail.tail.hA)<|.al ((q8.hO)=.cells (q8.hO).cs)<|.al (ac [.lk .sl] ((q8.hO).cs) 0 q8.tail)<|.al (((q8.tail.drop 0).hO)=.cells ((q8.tail.drop 0).hO).cs)<|.al (ac [.lk (.int .i64)] (((q8.tail.drop 0).hO).cs) 0 ((q8.tail.drop 0).tail))<|.al (ag (mk [40,114,101,99,32])+ag ((y8.tail.tail.hA).ai)<=9223372036854775807)<|.al (ag (((mk [40,114,101,99,32]):ByteArray)++((y8.tail.tail.hA).ai))+ag (mk [32])<=9223372036854775807)<|NZ (y8.hA)<|NZ (y8.hA)<|dQ ((y8.hA).deref.drop 3)<|.al (LK.has .sl (y8.tail.hA)/\cw 1 ((y8.tail.hA).aS)/\((([]:List (List AV)).length)+((y8.tail.hA).aS).length)*16<=140737488355328)<|.al (cw 1 [[VS ((y8.tail.tail.hA).ai)]]/\(((([]:List (List AV))++((y8.tail.hA).aS)).length)+([[VS ((y8.tail.tail.hA).ai)]]:List (List AV)).length)*16<=140737488355328)<|.call 176 [(((y8.hA).deref.drop 3).hA),.sl ((([]:List (List AV))++((y8.tail.hA).aS))++([[VS ((y8.tail.tail.hA).ai)]]:List (List AV))),.gF 176 [none,some 0,some 1],.ref 0 0,.ref 1 0] [.cells [((q8.hO).cs.getD 0 .any)],.cells [VI (((q8.tail.hO).cs.getD 0 .any).toInt)]] fun r9 o9=>.al ((o9.hO)=.cells (o9.hO).cs)<|.al (bo [.lk .sl] ((o9.hO).cs) 0 1 o9.tail)<|.al ((o9.tail.hO)=.cells (o9.tail.hO).cs)<|.al (bo [.lk (.int .i64)] ((o9.tail.hO).cs) 0 2 o9.tail.tail)<|NS r9<|.al (ag (((((mk [40,114,101,99,32]):ByteArray)++((y8.tail.tail.hA).ai)):ByteArray)++(mk [32]))+ag r9.ai<=9223372036854775807)<|.al (ag (((((((mk [40,114,101,99,32]):ByteArray)++((y8.tail.tail.hA).ai)):ByteArray)++(mk [32])):ByteArray)++r9.ai)+ag (mk [41])<=9223372036854775807)<|.done 0 [VS (((((((((mk [40,114,101,99,32]):ByteArray)++((y8.tail.tail.hA).ai)):ByteArray)++(mk [32])):ByteArray)++r9.ai):ByteArray)++(mk [41]))] [.cells [((o9.hO).cs.getD 0 .any)],.cells [VI (((o9.tail.hO).cs.getD 0 .any).toInt)]]) (fun y8 q8=>.al ((q8.hO)=.cells (q8.hO).cs)<|.al (ac [.lk .sl] ((q8.hO).cs) 0 q8.tail)<|.al (((q8.tail.drop 0).hO)=.cells ((q8.tail.drop 0).hO).cs)<|.al (ac [.lk (.int .i64)] (((q8.tail.drop 0).hO).cs) 0 ((q8.tail.drop 0).tail))<|.done 0 [.any] [.cells [((q8.hO).cs.getD 0 .any)],.cells [VI (((q8.tail.hO).cs.getD 0 .any).toInt)]])) (NZ a0<|NZ a0<|.al (LK.has (.int .u8) (a0.deref.hA)/\1<=a0.deref.length)<|.al (jn [[.v (.int .u8 ((a0.deref.hA).toInt))]])<|.done 0 [VS (⟨(bytesOf [[.v (.int .u8 ((a0.deref.hA).toInt))]]).toArray⟩)] [.cells [a3_0],.cells [VI a4_0]])))))
theorem Gv(a0:AV)(a1:AV)(a3_0:AV)(a4_0:Int)(ha0:LK.has .ptr a0)(ha1:LK.has .sl a1)(ha3_0:LK.has .sl a3_0)(h:dm 100 (DA a0 a1 a3_0 a4_0) R):an Tryz.prog 176 [a0,a1,.gF 176 [none,some 0,some 1],.ref 0 0,.ref 1 0] [.cells [a3_0],.cells [VI a4_0]] R :=
 an.tE (cg (cV (af (bU ha3_0) aA)) (cg (cV (af (au _) aA)) dI)) (an.up (af (bz ha0) (af (bU ha1) (af (au _) (af (au _) (af (au _) aA))))) (oF HI {mu:=[(2,.ud 176 [none,some 0,some 1]),(3,.one (.obj [.lk .sl])),(4,.one (.obj [.lk (.int .i64)]))],own:=[]} Tryz.f176 h))
def FO(x0:AV)(x1:AV)(x9:ByteArray)(o0_0:AV)(o1_0:Int):Tree :=
 NP x0<|NL x1<|NS (VS x9)<|.al (Ob.cells [o0_0]=.cells [o0_0])<|.al (ac [.lk .sl] [o0_0] 0 [.cells [VI o1_0]])<|.al (Ob.cells [VI o1_0]=.cells [VI o1_0])<|.al (ac [.lk (.int .i64)] [VI o1_0] 0 [])<|.test (ae x9==ae (mk [])) (.call 174 [VI o1_0] [] fun r1 o1=>NS r1<|.al (ag (mk [116])+ag r1.ai<=9223372036854775807)<|.done 0 [x0,x1,VS (((mk [116]):ByteArray)++r1.ai)] [.cells [o0_0],.cells [VI (IntKind.wrap .i64 (o1_0+1))]]) (.call 177 [o0_0,VS x9] [] fun r2 o2=>NB r2<|.test r2.toBool (.call 174 [VI o1_0] [] fun r3 o3=>NS r3<|.al (ag (mk [116])+ag r3.ai<=9223372036854775807)<|.done 0 [x0,x1,VS (((mk [116]):ByteArray)++r3.ai)] [.cells [o0_0],.cells [VI (IntKind.wrap .i64 (o1_0+1))]]) (.done 1 [x0,x1,VS x9] [.cells [o0_0],.cells [VI o1_0]]))
abbrev B5:=cx Tryz.prog 100 HW Fm
theorem Kv(x0:AV)(x1:AV)(x9:ByteArray)(o0_0:AV)(o1_0:Int)(h:jV 100 (FO x0 x1 x9 o0_0 o1_0) B5 U):B5 [x0,x1,VS x9] [.cells [o0_0],.cells [VI o1_0]] U :=
 gQ HI h
def HG(a0:AV)(a1:ByteArray):Tree :=
 .call 194 [a0,VS a1] [] fun r1 o1=>NI r1<|.done 0 [VB (decide (r1.toInt≥(0:Int)))] []
theorem Qf(a0:AV)(a1:ByteArray)(ha0:LK.has .sl a0)(h:dm 9 (HG a0 a1) R):an Tryz.prog 177 [a0,VS a1] [] R :=
 uQ (af (bU ha0) (af (au _) aA)) (oQ [] Tryz.f177 h)
def Mg(a0:Int):Tree :=
 .test (decide (a0≥(97:Int))) (.test (decide (a0<=(122:Int))) (.done 0 [VB true] []) (.test (decide (a0≥(48:Int))) (.test (decide (a0<=(57:Int))) (.done 0 [VB true] []) (.test (a0==(42:Int)) (.done 0 [VB true] []) (.done 0 [VB (a0==(43:Int))] []))) (.test (a0==(42:Int)) (.done 0 [VB true] []) (.done 0 [VB (a0==(43:Int))] [])))) (.test (decide (a0≥(48:Int))) (.test (decide (a0<=(57:Int))) (.done 0 [VB true] []) (.test (a0==(42:Int)) (.done 0 [VB true] []) (.done 0 [VB (a0==(43:Int))] []))) (.test (a0==(42:Int)) (.done 0 [VB true] []) (.done 0 [VB (a0==(43:Int))] [])))
theorem QC(a0:Int)(h:dm 25 (Mg a0) R):an Tryz.prog 178 [.v (.int .u8 a0)] [] R :=
 uQ (af (au _) aA) (oQ [] Tryz.f178 h)
def D4:LI:={hd:={bJ:=[(0,.k .sl),(1,.c (.func (.func 159) #[] #[])),(7,.k (.int .i64)),(8,.k (.int .i64))]},xs:={},rt:={bJ:=[(4,.k (.int .i64))]},ex:=0}
def J2:Code:=cB (cy Tryz.f179) 2
def Hv:List (Nat×LI):=[(2,D4)]
def LR(a0:AV):Tree :=
 NL a0<|.loop J2 D4 [a0,.v (.func (.func 159) #[] #[]),VI (a0.aS.length:Int),VI 0] [] (fun y2 q2=>.done 0 [VI (-1)] []) (fun y2 q2=>NI (y2.hA)<|.done 0 [VI ((y2.hA).toInt)] [])
theorem O8(a0:AV)(ha0:LK.has .sl a0)(h:dm 19 (LR a0) R):an Tryz.prog 179 [a0,.v (.func (.func 159) #[] #[])] [] R :=
 uQ (af (bU ha0) (af (au _) aA)) (oQ Hv Tryz.f179 h)
def EC(x0:AV)(x7:Int)(x8:Int):Tree :=
 NL x0<|.al (AV.v (.func (.func 159) #[] #[])=.v (.func (.func 159) #[] #[]))<|NI (VI x7)<|NI (VI x8)<|.test (decide (x8<x7)) (NG x0 x8 1<|l9 (x0.ix x8)<|.call 159 [VS (((x0.ix x8).hA).ai)] [] fun r1 o1=>NB r1<|.test r1.toBool (.done 2 [VI x8] []) (.done 0 [x0,.v (.func (.func 159) #[] #[]),VI x7,VI (IntKind.wrap .i64 (x8+1))] [])) (.done 1 [] [])
abbrev EO:=cx Tryz.prog 19 J2 D4
theorem Js(x0:AV)(x7:Int)(x8:Int)(h:jV 19 (EC x0 x7 x8) EO U):EO [x0,.v (.func (.func 159) #[] #[]),VI x7,VI x8] [] U :=
 gQ Hv h
def DQ(a0:AV)(e1_0_0:List (List AV)):Tree :=
 .call 181 [a0,.ref 0 0] [.cells [.vec 1],.vec 1 e1_0_0] fun r1 o1=>.al ((o1.hO)=.cells (o1.hO).cs)<|.al (bo [.vec 1] ((o1.hO).cs) 0 1 o1.tail)<|NZ a0<|NZ a0<|dQ (a0.deref.drop 3)<|NP ((a0.deref.drop 3).hA)<|.test (!((a0.deref.drop 3).hA).isNil) (NZ a0<|NZ a0<|dQ (a0.deref.drop 3)<|.call 180 [((a0.deref.drop 3).hA),.fn 181 [.ref 0 0]] [.cells [.vec 1],.vec 1 ((o1.tail.hO).es)] fun r2 o2=>.al ((o2.hO)=.cells (o2.hO).cs)<|.al (bo [.vec 1] ((o2.hO).cs) 0 1 o2.tail)<|NZ a0<|NZ a0<|dQ (a0.deref.drop 4)<|NP ((a0.deref.drop 4).hA)<|.test (!((a0.deref.drop 4).hA).isNil) (NZ a0<|NZ a0<|dQ (a0.deref.drop 4)<|.call 180 [((a0.deref.drop 4).hA),.fn 181 [.ref 0 0]] [.cells [.vec 1],.vec 1 ((o2.tail.hO).es)] fun r3 o3=>.al ((o3.hO)=.cells (o3.hO).cs)<|.al (bo [.vec 1] ((o3.hO).cs) 0 1 o3.tail)<|.done 0 [.any] [.cells [.vec 1],.vec 1 ((o3.tail.hO).es)]) (.done 0 [.any] [.cells [.vec 1],.vec 1 ((o2.tail.hO).es)])) (NZ a0<|NZ a0<|dQ (a0.deref.drop 4)<|NP ((a0.deref.drop 4).hA)<|.test (!((a0.deref.drop 4).hA).isNil) (NZ a0<|NZ a0<|dQ (a0.deref.drop 4)<|.call 180 [((a0.deref.drop 4).hA),.fn 181 [.ref 0 0]] [.cells [.vec 1],.vec 1 ((o1.tail.hO).es)] fun r4 o4=>.al ((o4.hO)=.cells (o4.hO).cs)<|.al (bo [.vec 1] ((o4.hO).cs) 0 1 o4.tail)<|.done 0 [.any] [.cells [.vec 1],.vec 1 ((o4.tail.hO).es)]) (.done 0 [.any] [.cells [.vec 1],.vec 1 ((o1.tail.hO).es)]))
theorem EF(a0:AV)(e1_0_0:List (List AV))(ha0:LK.has .ptr a0)(h:dm 29 (DQ a0 e1_0_0) R):an Tryz.prog 180 [a0,.fn 181 [.ref 0 0]] [.cells [.vec 1],.vec 1 e1_0_0] R :=
 an.tE (cg (cV (af (au _) aA)) (cg (gk _) dI)) (an.up (af (bz ha0) (af (au _) aA)) (oF [] {mu:=[(1,.fn [some (.obj [.vec 1])])],own:=[]} Tryz.f180 h))
def GM(a0:AV)(e1_0:List (List AV)):Tree :=
 NZ a0<|NZ a0<|.al (LK.has (.int .u8) (a0.deref.hA)/\1<=a0.deref.length)<|.test (((a0.deref.hA).toInt)==(110:Int)) (NZ a0<|NZ a0<|l9 (a0.deref.drop 1)<|.call 177 [.sl e1_0,VS (((a0.deref.drop 1).hA).ai)] [] fun r1 o1=>NB r1<|.test (!r1.toBool) (NZ a0<|NZ a0<|l9 (a0.deref.drop 1)<|.al (cw 1 [[VS (((a0.deref.drop 1).hA).ai)]]/\((e1_0.length)+([[VS (((a0.deref.drop 1).hA).ai)]]:List (List AV)).length)*16<=140737488355328)<|.done 0 [.any] [.cells [.vec 1],.vec 1 (e1_0++([[VS (((a0.deref.drop 1).hA).ai)]]:List (List AV)))]) (.done 0 [.any] [.cells [.vec 1],.vec 1 e1_0])) (.done 0 [.any] [.cells [.vec 1],.vec 1 e1_0])
theorem Pg(a0:AV)(e1_0:List (List AV))(ha0:LK.has .ptr a0)(h:dm 24 (GM a0 e1_0) R):an Tryz.prog 181 [a0,.ref 0 0] [.cells [.vec 1],.vec 1 e1_0] R :=
 an.tE (cg (cV (af (au _) aA)) (cg (gk _) dI)) (an.up (af (bz ha0) (af (au _) aA)) (oF [] {mu:=[(1,.one (.obj [.vec 1]))],own:=[]} Tryz.f181 h))
def MO(a0:ByteArray)(a1:ByteArray):Tree :=
 .test (decide ((ag a0:Int)≥(1:Int))) (.test (decide ((ag a0:Int)<=(3:Int))) (.al (0<=(0:Int)/\(0:Int)<=(1:Int)/\(1:Int)<=(ag a0:Int))<|.call 195 [VS a1,VS (cd a0 (bD 0) (bD 1))] [] fun r1 o1=>NB r1<|.test r1.toBool (.al (0<=(1:Int)/\(1:Int)<=(ag a0:Int)/\(ag a0:Int)<=(ag a0:Int))<|.call 184 [VS (cd a0 (bD 1) (bD (ag a0:Int))),VS (mk [48,49,50,51,52,53,54,55,56,57])] [] fun r2 o2=>NS r2<|.done 0 [VB (ae r2.ai==ae (mk []))] []) (.done 0 [VB false] [])) (.done 0 [VB false] [])) (.done 0 [VB false] [])
theorem N7(a0:ByteArray)(a1:ByteArray)(h:dm 25 (MO a0 a1) R):an Tryz.prog 182 [VS a0,VS a1] [] R :=
 uQ (af (au _) (af (au _) aA)) (oQ [] Tryz.f182 h)
def Lt(a0:Int):Tree :=
 .test (decide (a0≥(97:Int))) (.test (decide (a0<=(122:Int))) (.done 0 [VB true] []) (.test (decide (a0≥(48:Int))) (.test (decide (a0<=(57:Int))) (.done 0 [VB true] []) (.test (a0==(43:Int)) (.done 0 [VB true] []) (.done 0 [VB (a0==(42:Int))] []))) (.test (a0==(43:Int)) (.done 0 [VB true] []) (.done 0 [VB (a0==(42:Int))] [])))) (.test (decide (a0≥(48:Int))) (.test (decide (a0<=(57:Int))) (.done 0 [VB true] []) (.test (a0==(43:Int)) (.done 0 [VB true] []) (.done 0 [VB (a0==(42:Int))] []))) (.test (a0==(43:Int)) (.done 0 [VB true] []) (.done 0 [VB (a0==(42:Int))] [])))
theorem OC(a0:Int)(h:dm 25 (Lt a0) R):an Tryz.prog 183 [.v (.int .u8 a0)] [] R :=
 uQ (af (au _) aA) (oQ [] Tryz.f183 h)
def GK:LI:={hd:={bJ:=[(17,.k (.int .i64))],refs:=[(4,4),(12,12),(14,14)],ck:=[(4,[.lk .str,.lk .sl]),(12,[.lk .str,.lk .sl]),(14,[.lk .str,.lk .sl])],eE:=[(16,1)]},xs:={bJ:=[(17,.k (.int .i64))],refs:=[(4,4),(12,12),(14,14)],ck:=[(4,[.lk .str,.lk .sl]),(12,[.lk .str,.lk .sl]),(14,[.lk .str,.lk .sl])]},rt:={},ex:=0}
def Mr:Code:=cB (cy Tryz.f190) 13
def K8:List (Nat×LI):=[(13,GK)]
def Lu(a0_0:ByteArray)(a0_1:AV)(a1:ByteArray):Tree :=
 .call 106 [.agg [VS a0_0,a0_1],.sl [[VS a1,.v (.slice none 0 0)]]] [] fun r1 o1=>NA r1<|NG (r1.cs.getD 1 .any) 1 2<|l9 ((r1.cs.getD 1 .any).ix (1:Int))<|NG (r1.cs.getD 1 .any) 2 2<|NE ((r1.cs.getD 1 .any).ix (2:Int))<|.call 166 [.agg [VS ((((r1.cs.getD 1 .any).ix (2:Int)).getD 0 .any).ai),(((r1.cs.getD 1 .any).ix (2:Int)).getD 1 .any)],VS a1] [] fun r2 o2=>NT r2<|.al ((r2.comp 0)=.agg (r2.comp 0).cs/\(r2.comp 0).cs.length=2/\bu [.str,.sl] ((r2.comp 0).cs) 0)<|NB (r2.comp 1)<|NG (r1.cs.getD 1 .any) 2 2<|NE ((r1.cs.getD 1 .any).ix (2:Int))<|.call 166 [.agg [VS ((((r1.cs.getD 1 .any).ix (2:Int)).getD 0 .any).ai),(((r1.cs.getD 1 .any).ix (2:Int)).getD 1 .any)],VS ((((r1.cs.getD 1 .any).ix (1:Int)).hA).ai)] [] fun r3 o3=>NT r3<|.al ((r3.comp 0)=.agg (r3.comp 0).cs/\(r3.comp 0).cs.length=2/\bu [.str,.sl] ((r3.comp 0).cs) 0)<|NB (r3.comp 1)<|.test (!((r2.comp 1).toBool)) (.done 0 [.cv [.agg [VS ((r1.cs.getD 0 .any).ai),(r1.cs.getD 1 .any)],VB false]] []) (.test (!((r3.comp 1).toBool)) (.done 0 [.cv [.agg [VS ((r1.cs.getD 0 .any).ai),(r1.cs.getD 1 .any)],VB false]] []) (.call 167 [.agg [VS (((r2.comp 0).cs.getD 0 .any).ai),((r2.comp 0).cs.getD 1 .any)],VS ((((r1.cs.getD 1 .any).ix (1:Int)).hA).ai),.agg [VS ((r1.cs.getD 0 .any).ai),(r1.cs.getD 1 .any)]] [] fun r4 o4=>NT r4<|.al ((r4.comp 0)=.agg (r4.comp 0).cs/\(r4.comp 0).cs.length=2/\bu [.str,.sl] ((r4.comp 0).cs) 0)<|NB (r4.comp 1)<|.call 167 [.agg [VS (((r3.comp 0).cs.getD 0 .any).ai),((r3.comp 0).cs.getD 1 .any)],VS ((((r1.cs.getD 1 .any).ix (1:Int)).hA).ai),.agg [VS ((r1.cs.getD 0 .any).ai),(r1.cs.getD 1 .any)]] [] fun r5 o5=>NT r5<|.al ((r5.comp 0)=.agg (r5.comp 0).cs/\(r5.comp 0).cs.length=2/\bu [.str,.sl] ((r5.comp 0).cs) 0)<|NB (r5.comp 1)<|.test (!((r4.comp 1).toBool)) (.done 0 [.cv [.agg [VS ((r1.cs.getD 0 .any).ai),(r1.cs.getD 1 .any)],VB false]] []) (.test (!((r5.comp 1).toBool)) (.done 0 [.cv [.agg [VS ((r1.cs.getD 0 .any).ai),(r1.cs.getD 1 .any)],VB false]] []) (.call 137 [.agg [VS (((r5.comp 0).cs.getD 0 .any).ai),((r5.comp 0).cs.getD 1 .any)],.sl [],.vec 0] [.vec 1 []] fun r6 o6=>.al (r6=.vec 1/\(o6.tail.hO)=.vec 1 (o6.tail.hO).es)<|.call 137 [.agg [VS (((r4.comp 0).cs.getD 0 .any).ai),((r4.comp 0).cs.getD 1 .any)],.sl [],.vec 0] [.vec 1 ((o6.tail.hO).es)] fun r7 o7=>.al (r7=.vec 1/\(o7.tail.hO)=.vec 1 (o7.tail.hO).es)<|.loop Mr GK [VI 0] [.cells [VS (mk []),.v (.slice none 0 0)],.cells [VS (((r4.comp 0).cs.getD 0 .any).ai),((r4.comp 0).cs.getD 1 .any)],.cells [VS (((r5.comp 0).cs.getD 0 .any).ai),((r5.comp 0).cs.getD 1 .any)],.vec 1 ((o7.tail.hO).es)] (fun y10 q10=>NI (y10.hA)<|.al ((q10.hO)=.cells (q10.hO).cs)<|.al (ac [.lk .str,.lk .sl] ((q10.hO).cs) 0 q10.tail)<|.al (((q10.tail.drop 0).hO)=.cells ((q10.tail.drop 0).hO).cs)<|.al (ac [.lk .str,.lk .sl] (((q10.tail.drop 0).hO).cs) 0 ((q10.tail.drop 0).tail))<|.al ((((q10.tail.drop 0).tail.drop 0).hO)=.cells (((q10.tail.drop 0).tail.drop 0).hO).cs)<|.al (ac [.lk .str,.lk .sl] ((((q10.tail.drop 0).tail.drop 0).hO).cs) 0 (((q10.tail.drop 0).tail.drop 0).tail))<|.call 142 [VI ((y10.hA).toInt)] [] fun r11 o11=>NS r11<|.al (ag (mk [116])+ag r11.ai<=9223372036854775807)<|.call 98 [VS (mk [42]),.sl [[VS (((q10.tail.tail.hO).cs.getD 0 .any).ai),((q10.tail.tail.hO).cs.getD 1 .any)],[VS (((mk [116]):ByteArray)++r11.ai),.v (.slice none 0 0)]]] [] fun r12 o12=>NA r12<|.call 98 [VS (mk [43]),.sl [[VS (((q10.tail.hO).cs.getD 0 .any).ai),((q10.tail.hO).cs.getD 1 .any)],[VS ((r12.cs.getD 0 .any).ai),(r12.cs.getD 1 .any)]]] [] fun r13 o13=>NA r13<|.call 98 [VS (mk [114,101,99]),.sl [[VS (((mk [116]):ByteArray)++r11.ai),.v (.slice none 0 0)],[VS ((r13.cs.getD 0 .any).ai),(r13.cs.getD 1 .any)]]] [] fun r14 o14=>NA r14<|.call 140 [.agg [VS ((r14.cs.getD 0 .any).ai),(r14.cs.getD 1 .any)]] [] fun r15 o15=>NI r15<|.done 0 [.cv [.agg [VS ((r14.cs.getD 0 .any).ai),(r14.cs.getD 1 .any)],VB (decide (r15.toInt<=(400:Int)))]] []) (fun y10 q10=>.fail)))))
theorem PX(a0_0:ByteArray)(a0_1:AV)(a1:ByteArray)(ha0_1:LK.has .sl a0_1)(h:dm 108 (Lu a0_0 a0_1 a1) R):an Tryz.prog 190 [.agg [VS a0_0,a0_1],VS a1] [] R :=
 uQ (af (bP (af (au _) (af (bU ha0_1) aA))) (af (au _) aA)) (oQ K8 Tryz.f190 h)
def M3(x17:Int)(o4_0:ByteArray)(o4_1:AV)(o12_0:ByteArray)(o12_1:AV)(o14_0:ByteArray)(o14_1:AV)(e16:List (List AV)):Tree :=
 NI (VI x17)<|.al (Ob.cells [VS o4_0,o4_1]=.cells [VS o4_0,o4_1])<|.al (ac [.lk .str,.lk .sl] [VS o4_0,o4_1] 0 [.cells [VS o12_0,o12_1],.cells [VS o14_0,o14_1],.vec 1 e16])<|.al (Ob.cells [VS o12_0,o12_1]=.cells [VS o12_0,o12_1])<|.al (ac [.lk .str,.lk .sl] [VS o12_0,o12_1] 0 [.cells [VS o14_0,o14_1],.vec 1 e16])<|.al (Ob.cells [VS o14_0,o14_1]=.cells [VS o14_0,o14_1])<|.al (ac [.lk .str,.lk .sl] [VS o14_0,o14_1] 0 [.vec 1 e16])<|.al (Ob.vec 1 e16=.vec 1 e16)<|.call 142 [VI x17] [] fun r1 o1=>NS r1<|.al (ag (mk [116])+ag r1.ai<=9223372036854775807)<|.call 169 [.sl e16,VS (((mk [116]):ByteArray)++r1.ai)] [] fun r2 o2=>NB r2<|.test r2.toBool (.done 0 [VI (IntKind.wrap .i64 (x17+1))] [.cells [VS o4_0,o4_1],.cells [VS o12_0,o12_1],.cells [VS o14_0,o14_1],.vec 1 e16]) (.done 1 [VI x17] [.cells [VS o4_0,o4_1],.cells [VS o12_0,o12_1],.cells [VS o14_0,o14_1]])
abbrev EI:=cx Tryz.prog 108 Mr GK
theorem OT(x17:Int)(o4_0:ByteArray)(o4_1:AV)(o12_0:ByteArray)(o12_1:AV)(o14_0:ByteArray)(o14_1:AV)(e16:List (List AV))(h:jV 108 (M3 x17 o4_0 o4_1 o12_0 o12_1 o14_0 o14_1 e16) EI U):EI [VI x17] [.cells [VS o4_0,o4_1],.cells [VS o12_0,o12_1],.cells [VS o14_0,o14_1],.vec 1 e16] U :=
 gQ K8 h
def BA(a0_0:ByteArray)(a0_1:AV)(a1:ByteArray):Tree :=
 .test (!(ae a0_0==ae (mk []))) (.test (ae a0_0==ae a1) (.done 0 [VI 1] []) (.done 0 [VI 0] [])) (.call 121 [.agg [VS a0_0,a0_1]] [] fun r1 o1=>NS r1<|.test (ae r1.ai==ae (mk [114,101,99])) (NG a0_1 1 2<|l9 (a0_1.ix (1:Int))<|.test (ae (((a0_1.ix (1:Int)).hA).ai)==ae a1) (.done 0 [VI 0] []) (NG a0_1 2 2<|NE (a0_1.ix (2:Int))<|.call 191 [.agg [VS (((a0_1.ix (2:Int)).getD 0 .any).ai),((a0_1.ix (2:Int)).getD 1 .any)],VS a1] [] fun r2 o2=>NI r2<|.done 0 [VI r2.toInt] [])) (NG a0_1 1 2<|NE (a0_1.ix (1:Int))<|.call 191 [.agg [VS (((a0_1.ix (1:Int)).getD 0 .any).ai),((a0_1.ix (1:Int)).getD 1 .any)],VS a1] [] fun r3 o3=>NI r3<|NG a0_1 2 2<|NE (a0_1.ix (2:Int))<|.call 191 [.agg [VS (((a0_1.ix (2:Int)).getD 0 .any).ai),((a0_1.ix (2:Int)).getD 1 .any)],VS a1] [] fun r4 o4=>NI r4<|.done 0 [VI (IntKind.wrap .i64 (r3.toInt+r4.toInt))] []))
theorem Cy(a0_0:ByteArray)(a0_1:AV)(a1:ByteArray)(ha0_1:LK.has .sl a0_1)(h:dm 41 (BA a0_0 a0_1 a1) R):an Tryz.prog 191 [.agg [VS a0_0,a0_1],VS a1] [] R :=
 uQ (af (bP (af (au _) (af (bU ha0_1) aA))) (af (au _) aA)) (oQ [] Tryz.f191 h)
def A8(a0_0:ByteArray)(a0_1:AV)(a1:ByteArray)(a2_0:ByteArray)(a2_1:AV):Tree :=
 .test (!(ae a0_0==ae (mk []))) (.test (ae a0_0==ae a1) (.done 0 [.agg [VS a2_0,a2_1]] []) (.done 0 [.agg [VS a0_0,a0_1]] [])) (.call 121 [.agg [VS a0_0,a0_1]] [] fun r1 o1=>NS r1<|.test (ae r1.ai==ae (mk [114,101,99])) (NG a0_1 1 2<|l9 (a0_1.ix (1:Int))<|.test (ae (((a0_1.ix (1:Int)).hA).ai)==ae a1) (.done 0 [.agg [VS a0_0,a0_1]] []) (NG a0_1 1 2<|NE (a0_1.ix (1:Int))<|NG a0_1 2 2<|NE (a0_1.ix (2:Int))<|.call 192 [.agg [VS (((a0_1.ix (2:Int)).getD 0 .any).ai),((a0_1.ix (2:Int)).getD 1 .any)],VS a1,.agg [VS a2_0,a2_1]] [] fun r2 o2=>NA r2<|.call 98 [VS (mk [114,101,99]),.sl [[VS (((a0_1.ix (1:Int)).getD 0 .any).ai),((a0_1.ix (1:Int)).getD 1 .any)],[VS ((r2.cs.getD 0 .any).ai),(r2.cs.getD 1 .any)]]] [] fun r3 o3=>NA r3<|.done 0 [.agg [VS ((r3.cs.getD 0 .any).ai),(r3.cs.getD 1 .any)]] [])) (.call 121 [.agg [VS a0_0,a0_1]] [] fun r4 o4=>NS r4<|NG a0_1 1 2<|NE (a0_1.ix (1:Int))<|.call 192 [.agg [VS (((a0_1.ix (1:Int)).getD 0 .any).ai),((a0_1.ix (1:Int)).getD 1 .any)],VS a1,.agg [VS a2_0,a2_1]] [] fun r5 o5=>NA r5<|NG a0_1 2 2<|NE (a0_1.ix (2:Int))<|.call 192 [.agg [VS (((a0_1.ix (2:Int)).getD 0 .any).ai),((a0_1.ix (2:Int)).getD 1 .any)],VS a1,.agg [VS a2_0,a2_1]] [] fun r6 o6=>NA r6<|.call 98 [VS r4.ai,.sl [[VS ((r5.cs.getD 0 .any).ai),(r5.cs.getD 1 .any)],[VS ((r6.cs.getD 0 .any).ai),(r6.cs.getD 1 .any)]]] [] fun r7 o7=>NA r7<|.done 0 [.agg [VS ((r7.cs.getD 0 .any).ai),(r7.cs.getD 1 .any)]] []))
theorem BS(a0_0:ByteArray)(a0_1:AV)(a1:ByteArray)(a2_0:ByteArray)(a2_1:AV)(ha0_1:LK.has .sl a0_1)(ha2_1:LK.has .sl a2_1)(h:dm 58 (A8 a0_0 a0_1 a1 a2_0 a2_1) R):an Tryz.prog 192 [.agg [VS a0_0,a0_1],VS a1,.agg [VS a2_0,a2_1]] [] R :=
 uQ (af (bP (af (au _) (af (bU ha0_1) aA))) (af (au _) (af (bP (af (au _) (af (bU ha2_1) aA))) aA))) (oQ [] Tryz.f192 h)
def Ge:LI:={hd:={bJ:=[(0,.k .sl),(1,.k .str),(7,.k (.int .i64)),(8,.k (.int .i64))]},xs:={},rt:={bJ:=[(4,.k (.int .i64))]},ex:=0}
def JK:Code:=cB (cy Tryz.f194) 2
def Ip:List (Nat×LI):=[(2,Ge)]
def MM(a0:AV)(a1:ByteArray):Tree :=
 NL a0<|.loop JK Ge [a0,VS a1,VI (a0.aS.length:Int),VI 0] [] (fun y1 q1=>.done 0 [VI (-1)] []) (fun y1 q1=>NI (y1.hA)<|.done 0 [VI ((y1.hA).toInt)] [])
theorem Ns(a0:AV)(a1:ByteArray)(ha0:LK.has .sl a0)(h:dm 19 (MM a0 a1) R):an Tryz.prog 194 [a0,VS a1] [] R :=
 uQ (af (bU ha0) (af (au _) aA)) (oQ Ip Tryz.f194 h)
def GD(x0:AV)(x1:ByteArray)(x7:Int)(x8:Int):Tree :=
 NL x0<|NS (VS x1)<|NI (VI x7)<|NI (VI x8)<|.test (decide (x8<x7)) (NG x0 x8 1<|l9 (x0.ix x8)<|.test (ae x1==ae (((x0.ix x8).hA).ai)) (.done 2 [VI x8] []) (.done 0 [x0,VS x1,VI x7,VI (IntKind.wrap .i64 (x8+1))] [])) (.done 1 [] [])
abbrev G6:=cx Tryz.prog 19 JK Ge
theorem H0(x0:AV)(x1:ByteArray)(x7:Int)(x8:Int)(h:jV 19 (GD x0 x1 x7 x8) G6 U):G6 [x0,VS x1,VI x7,VI x8] [] U :=
 gQ Ip h
end
end Go.Proofs.Trees
namespace Go.Proofs.Trees
open Go Go.VL
theorem bq(i:Nat)(h:i<1000000000000):IntKind.wrap .i64 ((i:Int)+1)=((i+1:Nat):Int):=by rw[wrap64]<;>omega
inductive E where
 |atom (s:List UInt8)
 |list (l:List E)
mutual
def E.cu:E->AV
 | .atom s=>.ptr [.v (.string (mk s)),.v (.slice none 0 0)]
 | .list l=>.ptr [.v (.string (mk [])),.sl (E.lR l)]
def E.lR:List E->List (List AV)
 |[]=>[]
 |e::l=>[e.cu]::E.lR l
end
mutual
def E.hJ:E->List AV
 | .atom s=>[.v (.string (mk s)),.v (.slice none 0 0)]
 | .list l=>[.v (.string (mk [])),.sl (E.bn l)]
def E.bn:List E->List (List AV)
 |[]=>[]
 |e::l=>e.hJ::E.bn l
end
def E.kj(e:E):AV:=.agg e.hJ
theorem vj(l r:List E):E.lR (l++r)=E.lR l++E.lR r:=by
 induction l with
 |nil=>rfl
 |cons e l ih=>simp[E.lR,ih]
theorem pz(l r:List E):E.bn (l++r)=E.bn l++E.bn r:=by
 induction l with
 |nil=>rfl
 |cons e l ih=>simp[E.bn,ih]
theorem qs(l:List E):(E.lR l).length=l.length:=by
 induction l with
 |nil=>rfl
 |cons e l ih=>simp[E.lR,ih]
theorem dV(l:List E):(E.bn l).length=l.length:=by
 induction l with
 |nil=>rfl
 |cons e l ih=>simp[E.bn,ih]
def eM(b:UInt8):Bool:=decide ((97<=b.toNat/\b.toNat<=122)\/(48<=b.toNat/\b.toNat<=57)\/b.toNat=43\/b.toNat=42)
def rG(f:List UInt8->Option (E×List UInt8)):Nat->List UInt8->List E->Option (E×List UInt8)
 |0,_,_=>none
 |
  n+1,s,acc=>match f s with
  |some (p,c::r)=>if c.toNat=41 then some (.list (acc++[p]),r)else if c.toNat=32 then rG f n r (acc++[p])else none
  |_=>none
def rd:Nat->List UInt8->Option (E×List UInt8)
 |0,s=>if s.takeWhile eM=[]then none else some (.atom (s.takeWhile eM),s.dropWhile eM)
 |k+1,s=>if s.takeWhile eM=[]then(match s with
  |c::r=>if c.toNat=40 then rG (rd k) (r.length+1) r []else none
  |[]=>none)else some (.atom (s.takeWhile eM),s.dropWhile eM)
theorem Bv{f:List UInt8->Option (E×List UInt8)}(hf:∀s e r,f s=some (e,r)->r.length<s.length):∀(n:Nat) (s:List UInt8) (acc:List E) (e:E) (r:List UInt8),rG f n s acc=some (e,r)->r.length<s.length
 |0,s,acc,e,r,h=>by cases h
 |
  n+1,s,acc,e,r,h=>by
  simp only[rG]at h
  split at h
  ·rename_i p c r' hs
   have:=hf _ _ _ hs
   simp only[aB]at this
   split at h
   ·cases h;omega
   ·split at h
    ·have:=Bv hf n _ _ _ _ h;omega
    ·cases h
  ·cases h
theorem ov{s:List UInt8}(h:¬s.takeWhile eM=[]):(s.dropWhile eM).length<s.length:=by
 have h1:=congrArg List.length (bZ (p:=eM) (l:=s))
 simp only[ax]at h1
 have:0<(s.takeWhile eM).length:=List.length_pos_iff.2 h
 omega
theorem xL:∀(k:Nat) (s:List UInt8) (e:E) (r:List UInt8),rd k s=some (e,r)->r.length<s.length
 |
  0,s,e,r,h=>by
  simp only[rd]at h
  split at h
  ·cases h
  ·rename_i hn;cases h;exact ov hn
 |
  k+1,s,e,r,h=>by
  simp only[rd]at h
  split at h
  ·split at h
   ·split at h
    ·have:=Bv (xL k) _ _ _ _ _ h
     simp only[aB];omega
    ·cases h
   ·cases h
  ·rename_i hn;cases h;exact ov hn
theorem P1(b:UInt8):an Tryz.prog 183 [.v (.int .u8 (b.toNat:Int))] [] (bB (.v (.bool (eM b)))):=by
 refine OC _ ?_
 simp only[Lt,↓zq,zs,ac,bB,eM]
 repeat' (apply aE<;>intro _)
 all_goals first|(congr 2;rw[ct];simp;omega)|(congr 2;simp;omega)
theorem wR{s:List UInt8}{i:Nat}(hi:i<s.length)(hb:eM (s.getD i 0)=true):((s.drop i).takeWhile eM).length=((s.drop (i+1)).takeWhile eM).length+1:=by
 have e:s.drop i=s.getD i 0::s.drop (i+1):=by
  rw[aL hi];simp[aa,hi]
 rw[e,List.takeWhile_cons_of_pos hb];simp
theorem qa{s:List UInt8}{i:Nat}(hi:i<s.length)(hb:eM (s.getD i 0)=false):(s.drop i).takeWhile eM=[]:=by
 have e:s.drop i=s.getD i 0::s.drop (i+1):=by
  rw[aL hi];simp[aa,hi]
 rw[e,List.takeWhile_cons_of_neg (by rw[hb];simp)]
theorem FB(s:List UInt8)(hs:s.length<=8000)(d:Int):∀(k i:Nat),i+k=s.length->Ej [.v (.string (mk s)),.v (.int .i64 d),.v (.int .i64 (i:Int))] [] (gX 1 [.v (.string (mk s)),.v (.int .i64 d),.v (.int .i64 ((i+((s.drop i).takeWhile eM).length:Nat):Int))] [])
 |
  0,i,hi=>by
  refine Lz _ _ _ ?_
  have hd:s.drop i=[]:=bL (by omega)
  simp only[Gr,↓zq,zs,ac,zt]
  exact⟨fun h=>by omega,fun _=>by simp[gX,hd]⟩
 |
  k+1,i,hi=>by
  have hlt:i<s.length:=by omega
  refine Lz _ _ _ ?_
  simp only[Gr,↓zq,zs,ac,zt,lK s i hlt]
  refine⟨fun _=>⟨by omega,?_⟩,fun h=>by omega⟩
  refine ah (P1 _) ?_
  simp only[↓zq,zs,ac]
  refine⟨fun hb=>?_,fun hb=>?_⟩
  ·rw[bq i (by omega)]
   have:=FB s hs d k (i+1) (by omega)
   rw[wR hlt hb,show i+(((s.drop (i+1)).takeWhile eM).length+1)=i+1+((s.drop (i+1)).takeWhile eM).length by omega]
   exact this
  ·simp[gX,qa hlt hb]
def nH(s:List UInt8):Option (E×List UInt8)->AV
 |some (e,r)=>.cv [e.cu,.v (.string (mk r))]
 |none=>.cv [.v (.pointer none),.v (.string (mk s))]
theorem cT(e:E):LK.has .ptr e.cu=True:=by cases e<;>simp[E.cu,bY]
theorem dZ(e:E):e.cu.isNil=false:=by cases e<;>rfl
theorem tF(s:List UInt8):s.take (s.takeWhile eM).length=s.takeWhile eM:=by
 have h:=bZ (p:=eM) (l:=s)
 have:(s.takeWhile eM++s.dropWhile eM).take (s.takeWhile eM).length=s.takeWhile eM:=List.take_left
 rw[h]at this;exact this
theorem xO(s:List UInt8):s.drop (s.takeWhile eM).length=s.dropWhile eM:=by
 have h:=bZ (p:=eM) (l:=s)
 have:(s.takeWhile eM++s.dropWhile eM).drop (s.takeWhile eM).length=s.dropWhile eM:=List.drop_left
 rw[h]at this;exact this
theorem zU(c:UInt8)(r:List UInt8):(List.take (r.length+1) (c::r)).drop (bD 1)=r:=by simp
theorem LN(s0:List UInt8)(k:Nat)(hk:k<300)(ih:∀s,s.length<=8000->an Tryz.prog 160 [.v (.string (mk s)),.v (.int .i64 ((300-k:Nat):Int))] [] (bB (nH s (rd k s)))) :
 ∀(n:Nat) (s:List UInt8) (acc:List E),s.length<n->s.length+acc.length<=8000->Ed [.v (.string (mk s0)),.v (.int .i64 ((300-(k+1):Nat):Int)),.v (.string (mk s))] [.cells [.v (.string (mk [])),.any],.vec 1 (E.lR acc)]
  (ph (match rG (rd k) n s acc with|some (e,r)=>(2,[e.cu,.v (.string (mk r))],[])|none=>(2,[.v (.pointer none),.v (.string (mk s0))],[])))
 |0,s,acc,hn,_=>by omega
 |
  n+1,s,acc,hn,hl=>by
  refine NC _ _ _ _ _ ?_
  simp only[Jh,↓zq,zs,ac,Bk]
  have hd:IntKind.wrap .i64 (((300-(k+1):Nat):Int)+1)=((300-k:Nat):Int):=by rw[wrap64]<;>omega
  rw[hd]
  refine ah (ih s (by omega)) ?_
  have hlt:=xL k s
  cases hr:rd k s with
  |
   none =>
   simp only[nH,↓zq,zs,ac,rG,hr]
   simp[ph]
  |
   some q =>
   obtain⟨e,r⟩:=q
   have:=hlt e r hr
   cases r with
   |
    nil =>
    simp only[nH,↓zq,zs,ac,zt,rG,hr,cT,dZ]
    simp[ph]
   |
    cons c r =>
    simp only[aB]at this
    have hb:=lK (c::r) 0 (by simp)
    simp only[cQ,dc]at hb
    have e2:(List.take (c::r).length (c::r)).drop 1=r:=by simp
    simp only[nH,↓zq,zs,ac,zt,rG,hr,cT,dZ,hb,e2,qs]
    refine⟨fun h=>(by cases h),fun _=>⟨fun h=>(by cases h),fun _=>⟨⟨fun c hc=>(by simp at hc;rw[hc];rfl),by omega⟩,by omega,by omega,fun h41=>?_,fun h41=>⟨by omega,fun h32=>?_,fun h32=>?_⟩⟩⟩⟩
    ·have h41':c.toNat=41:=by omega
     rw[zU,if_pos h41']
     simp[ph,E.cu,vj,E.lR]
    ·have h41':¬c.toNat=41:=by omega
     have h32':¬c.toNat=32:=by omega
     rw[if_neg h41',if_neg h32']
    ·have h41':¬c.toNat=41:=by omega
     have h32':c.toNat=32:=by omega
     rw[zU,if_neg h41',if_pos h32']
     have:=LN s0 k hk ih n r (acc++[e]) (by omega) (by simp;omega)
     simpa[vj,E.lR]using this
theorem Qa:∀(k:Nat),k<=300->∀s:List UInt8,s.length<=8000->an Tryz.prog 160 [.v (.string (mk s)),.v (.int .i64 ((300-k:Nat):Int))] [] (bB (nH s (rd k s))):=by
 intro k
 induction k with
 |
  zero =>
  intro hk s hs
  refine HA _ _ ?_
  unfold DX
  refine cq (FB s hs _ s.length 0 (by omega)) ?_
  simp only[↓zq,zs,ac,zt,aV,bB]
  have hw:(s.takeWhile eM).length<=s.length:=by
   have:=congrArg List.length (bZ (p:=eM) (l:=s))
   simp only[ax]at this;omega
  refine⟨fun h=>⟨by omega,by omega,?_⟩,fun h=>?_⟩
  ·have hne:¬s.takeWhile eM=[]:=fun e=>by rw[e]at h;simp at h
   simp only[rd,if_neg hne,nH,E.cu,tF,xO]
  ·have hnil:s.takeWhile eM=[]:=bV (by omega)
   simp only[rd,if_pos hnil,nH]
   refine⟨fun _=>trivial,fun hne=>⟨?_,?_⟩⟩
   ·cases s with
    |nil=>exact absurd rfl hne
    |cons c s=>simp
   ·exact⟨fun _=>trivial,fun _=>⟨fun _=>trivial,fun h=>absurd rfl h⟩⟩
 |
  succ k ih =>
  intro hk s hs
  refine HA _ _ ?_
  unfold DX
  refine cq (FB s hs _ s.length 0 (by omega)) ?_
  simp only[↓zq,zs,ac,zt,aV,bB]
  have hw:(s.takeWhile eM).length<=s.length:=by
   have:=congrArg List.length (bZ (p:=eM) (l:=s))
   simp only[ax]at this;omega
  refine⟨fun h=>⟨by omega,by omega,?_⟩,fun h=>?_⟩
  ·have hne:¬s.takeWhile eM=[]:=fun e=>by rw[e]at h;simp at h
   simp only[rd,if_neg hne,nH,E.cu,tF,xO]
  ·have hnil:s.takeWhile eM=[]:=bV (by omega)
   simp only[rd,if_pos hnil]
   cases s with
   |nil=>simp[nH]
   |
    cons c s =>
    have hb:=lK (c::s) 0 (by simp)
    simp only[cQ,dc]at hb
    simp only[aB]at hs
    simp only[↓zq,zs,ac,hb,zU]
    refine⟨fun h=>(by cases h),fun _=>⟨by omega,fun h40=>?_,fun h40=>⟨fun h300=>?_,fun h300=>⟨by omega,?_⟩⟩⟩⟩
    ·have:¬c.toNat=40:=by omega
     rw[if_neg this];rfl
    ·omega
    ·have h40':c.toNat=40:=by omega
     rw[if_pos h40']
     refine fR (LN (c::s) k (by omega) (ih (by omega)) (s.length+1) s [] (by omega) (by simp;omega)) (fun ys o e=>?_) (fun ys o e=>?_)
     ·split at e<;>cases e
     ·split at e<;>cases e
      ·rename_i e' r' hr
       simp only[↓zq,zs,ac,cT]
       simp only[hr,nH]
      ·rename_i hr
       simp only[↓zq,zs,ac]
       simp only[hr,nH]
end Go.Proofs.Trees
namespace Go.Proofs.Trees
open Go Go.VL
mutual
def E.sz:E->Nat
 | .atom _=>1
 | .list l=>1+E.jM l
def E.jM:List E->Nat
 |[]=>0
 |e::l=>e.sz+E.jM l
end
mutual
def E.ok:E->Prop
 | .atom s=>s≠[]
 | .list l=>E.Cg l
def E.Cg:List E->Prop
 |[]=>True
 |e::l=>e.ok/\E.Cg l
end
theorem wK(l r:List E):E.jM (l++r)=E.jM l+E.jM r:=by
 induction l with
 |nil=>simp[E.jM]
 |cons e l ih=>simp[E.jM,ih];omega
theorem w9(l r:List E):E.Cg (l++r)↔E.Cg l/\E.Cg r:=by
 induction l with
 |nil=>simp[E.Cg]
 |cons e l ih=>simp[E.Cg,ih,and_assoc]
theorem Ag{f:List UInt8->Option (E×List UInt8)}(hf:∀s e r,f s=some (e,r)->e.ok/\e.sz+r.length<=s.length):∀(n:Nat) (s:List UInt8) (acc:List E) (e:E) (r:List UInt8),rG f n s acc=some (e,r)->E.Cg acc->e.ok/\e.sz+r.length<=s.length+1+E.jM acc
 |0,s,acc,e,r,h,_=>by cases h
 |
  n+1,s,acc,e,r,h,ha=>by
  simp only[rG]at h
  split at h
  ·rename_i p c r' hs
   obtain⟨h1,h2⟩:=hf _ _ _ hs
   simp only[aB]at h2
   split at h
   ·cases h
    refine⟨(w9 _ _).2 ⟨ha,h1,trivial⟩,?_⟩
    simp only[E.sz,wK,E.jM];omega
   ·split at h
    ·have:=Ag hf n _ _ _ _ h ((w9 _ _).2 ⟨ha,h1,trivial⟩)
     refine⟨this.1,?_⟩
     have h3:=this.2
     simp only[wK,E.jM]at h3;omega
    ·cases h
  ·cases h
theorem tH(s:List UInt8):(s.takeWhile eM).length+(s.dropWhile eM).length=s.length:=by
 have:=congrArg List.length (bZ (p:=eM) (l:=s))
 simpa only[ax]using this
theorem DL:∀(k:Nat) (s:List UInt8) (e:E) (r:List UInt8),rd k s=some (e,r)->e.ok/\e.sz+r.length<=s.length
 |
  0,s,e,r,h=>by
  simp only[rd]at h
  split at h
  ·cases h
  ·rename_i hn;cases h
   have:=tH s
   have:0<(s.takeWhile eM).length:=List.length_pos_iff.2 hn
   exact⟨hn,by simp only[E.sz];omega⟩
 |
  k+1,s,e,r,h=>by
  simp only[rd]at h
  split at h
  ·split at h
   ·split at h
    ·have:=Ag (DL k) _ _ _ _ _ h trivial
     refine⟨this.1,?_⟩
     have h3:=this.2
     simp only[E.jM,aB]at h3 |-;omega
    ·cases h
   ·cases h
  ·rename_i hn;cases h
   have:=tH s
   have:0<(s.takeWhile eM).length:=List.length_pos_iff.2 hn
   exact⟨hn,by simp only[E.sz];omega⟩
def qk(s:List UInt8):Option E:=if s.length>8000 then none else match rd 300 s with|some (e,[])=>some e|_=>none
theorem ny{s:List UInt8}{e:E}(h:qk s=some e):e.ok/\e.sz<=8000:=by
 unfold qk at h
 split at h
 ·cases h
 ·split at h
  ·rename_i e' hr
   cases h
   have:=DL _ _ _ _ hr
   exact⟨this.1,by have:=this.2;simp at this;omega⟩
  ·cases h
def s3:Option E->AV
 |some e=>e.cu
 |none=>.v (.pointer none)
theorem Mz(s:List UInt8):an Tryz.prog 128 [.v (.string (mk s))] [] (bB (s3 (qk s))):=by
 refine OU _ ?_
 simp only[KQ,↓zq,zs,ac,zt,bB,qk]
 refine⟨fun h=>?_,fun h=>?_⟩
 ·rw[if_pos (by omega)];simp[s3]
 ·rw[if_neg (by omega)]
  refine ah (Qa 300 (by omega) s (by omega)) ?_
  cases hr:rd 300 s with
  |
   none =>
   simp only[nH,↓zq,zs,ac,zt,s3]
   refine⟨fun _=>trivial,fun _=>trivial⟩
  |
   some q =>
   obtain⟨e,r⟩:=q
   cases r with
   |nil=>simp only[nH,↓zq,zs,ac,zt,s3,cT];simp
   |cons c r=>simp only[nH,↓zq,zs,ac,zt,s3,cT];simp
def hD(b:UInt8):Bool:=decide (48<=b.toNat/\b.toNat<=57)
def named(lo hi:Nat):List UInt8->Bool
 |[]=>false
 |c::r=>decide (r.length<=2)&&decide (lo<=c.toNat/\c.toNat<=hi)&&r.all hD
def gO(s:List UInt8):Bool:=named 120 122 s
def cZ(s:List UInt8):Bool:=named 116 116 s
def BJ(v lo hi:Int):Bool:=decide (lo<=v/\v<=hi)
theorem zJ(v lo hi:Int):an Tryz.prog 56 [.v (.int .i64 v),.v (.int .i64 lo),.v (.int .i64 hi)] [] (bB (.v (.bool (BJ v lo hi)))):=by
 refine QP _ _ _ ?_
 simp only[IG,↓zq,zs,ac,bB,BJ]
 constructor<;>intro h<;>simp at h<;>simp[h]
 omega
theorem Ij(s:List UInt8)(hs:s.length<=3):∀(k i:Nat),i+k=s.length->Fy [.v (.string (mk s)),.v (.int .i64 (i:Int))] [] (ph (if(s.drop i).all hD=true then(1,[],[])else(2,[.v (.bool false)],[])))
 |
  0,i,hi=>by
  have hd:s.drop i=[]:=bL (by omega)
  refine JB _ _ ?_
  simp only[FU,↓zq,zs,ac,zt]
  exact⟨fun h=>by omega,fun _=>by simp[ph,hd]⟩
 |
  k+1,i,hi=>by
  have hlt:i<s.length:=by omega
  have e:s.drop i=s.getD i 0::s.drop (i+1):=by
   rw[aL hlt];simp[aa,hlt]
  refine JB _ _ ?_
  simp only[FU,↓zq,zs,ac,zt,lK s i hlt,e,cW]
  generalize hb:s.getD i 0=b
  refine⟨fun _=>⟨by omega,fun h=>?_,fun h=>⟨by omega,fun h2=>?_,fun h2=>?_⟩⟩,fun h=>by omega⟩
  ·have:hD b=false:=by simp[hD];omega
   simp only[this,zf,ph]
  ·have:hD b=false:=by simp[hD];omega
   simp only[this,zf,ph]
  ·have:hD b=true:=by simp[hD];omega
   rw[bq i (by omega),this,bO]
   exact Ij s hs k (i+1) (by omega)
theorem IS(s:List UInt8)(lo hi:Nat):an Tryz.prog 170 [.v (.string (mk s)),.v (.int .u8 (lo:Int)),.v (.int .u8 (hi:Int))] [] (bB (.v (.bool (named lo hi s)))):=by
 refine Pq _ _ _ ?_
 unfold Is
 rw[cG]
 refine ah (zJ _ _ _) ?_
 simp only[↓zq,zs,ac,zt,bB]
 refine⟨fun h=>?_,fun h=>?_⟩
 ·cases s with
  |nil=>rfl
  |
   cons c s =>
   simp[BJ]at h
   have:¬s.length<=2:=by omega
   simp[named,this]
 ·cases s with
  |nil=>simp[BJ]at h
  |
   cons c s =>
   simp[BJ]at h
   have hl:s.length<=2:=by omega
   have hb:=lK (c::s) 0 (by simp)
   simp only[cQ,dc]at hb
   simp only[↓zq,zs,ac,hb]
   refine⟨by omega,fun h1=>?_,fun h1=>⟨by omega,fun h2=>?_,fun h2=>?_⟩⟩
   ·have:¬lo<=c.toNat:=by omega
    simp[named,this]
   ·have:¬c.toNat<=hi:=by omega
    simp[named,this]
   ·refine fR (Ij (c::s) (by simp;omega) s.length 1 (by simp;omega)) (fun ys o e=>?_) (fun ys o e=>?_)
    ·split at e<;>cases e
     rename_i ha
     simp at ha
     simp only[↓zq,zs,ac]
     simp[named,hl]
     exact⟨⟨by omega,by omega⟩,fun x hx=>by simpa using ha x hx⟩
    ·split at e<;>cases e
     rename_i ha
     simp only[↓zq,zs,ac]
     have:s.all hD=false:=by simpa using ha
     simp[named,this]
theorem Es(s:List UInt8):an Tryz.prog 155 [.v (.string (mk s))] [] (bB (.v (.bool (gO s)))):=by
 refine QI _ ?_
 unfold HU
 refine ah (IS s 120 122) ?_
 simp only[↓zq,zs,ac,bB,gO]
theorem Fa(s:List UInt8):an Tryz.prog 138 [.v (.string (mk s))] [] (bB (.v (.bool (cZ s)))):=by
 refine O1 _ ?_
 unfold Iw
 refine ah (IS s 116 116) ?_
 simp only[↓zq,zs,ac,bB,cZ]
end Go.Proofs.Trees
namespace Go.Proofs.Trees
open Go Go.VL Go.RowKit
theorem Oe(l:List UInt8)(c:UInt8):an Tryz.prog 195 [.v (.string (mk l)),.v (.string (mk [c]))] [] (bB (.v (.bool (decide (0<=Lib.indexByte l c))))):=by
 refine an.QS (xs:=[.string (mk l),.string (mk [c])]) ⟨mS,by kernel_rfl,by kernel_rfl,by kernel_rfl⟩ fun w=>?_
 have:=Any.strings_Contains_one Tryz.C1 (mk l) c w
 refine Calls.mono this fun e w' ⟨h1,h2⟩=>?_
 rw[h2]
 have hd:(mk l).data.toList=l:=by simp[mk]
 exact⟨by rw[h1,hd],Below.refl _ _⟩
theorem Ii(l cs:List UInt8)(hl:l.length<=1000000)(hc:cs.length<=1000)(ha:∀b,b∈cs->b.toNat<128):an Tryz.prog 184 [.v (.string (mk l)),.v (.string (mk cs))] [] (bB (.v (.string (mk (Lib.trimS l cs))))):=by
 refine an.QS (xs:=[.string (mk l),.string (mk cs)]) ⟨pR,by kernel_rfl,by kernel_rfl,by kernel_rfl⟩ fun w=>?_
 have:=Any.strings_Trim_laid Tryz.B8 (by kernel_rfl) (mk l) (mk cs) w (by rw[cG];omega) (by rw[cG];omega) (fun j b hj=>ha b (by
  have:(mk cs).data.toList=cs:=by simp[mk]
  rw[this]at hj
  exact List.mem_of_getElem? hj))
 refine Calls.mono this fun e w' ⟨h1,h2⟩=>⟨?_,h2⟩
 rw[h1]
 simp[mk]
theorem mZ:∀(l:List UInt8) (c:UInt8),(0<=Lib.indexByte l c↔c∈l)/\-1<=Lib.indexByte l c
 |[],c=>by simp[Lib.indexByte]
 |
  b::l,c=>by
  obtain⟨h1,h2⟩:=mZ l c
  unfold Lib.indexByte
  by_cases e:b=c
  ·subst e;simp
  ·have e':(b==c)=false:=by simp[e]
   rw[e']
   by_cases q:Lib.indexByte l c = -1
   ·have:c∉l:=fun h=>by have:=h1.2 h;omega
    simp[q,this,Ne.symm e]
   ·have q':(Lib.indexByte l c==-1)=false:=by simp[q]
    simp only[q',Bool.false_eq_true,if_false,aF]
    constructor
    ·constructor
     ·intro h;exact .inr (h1.1 (by omega))
     ·intro h
      rcases h with h|h
      ·exact absurd h.symm e
      ·have:=h1.2 h;omega
    ·omega
theorem dropWhile_nil{p:UInt8->Bool}:∀(l:List UInt8),l.dropWhile p=[]↔l.all p=true
 |[]=>by simp
 |
  b::l=>by
  cases h:p b with
  |true=>rw[List.dropWhile_cons_of_pos h,dropWhile_nil l];simp[h]
  |false=>rw[List.dropWhile_cons_of_neg (by rw[h];simp)];simp[h]
theorem su(l cs:List UInt8):Lib.trimS l cs=[]↔l.all (cs.contains ·)=true:=by
 unfold Lib.trimS Lib.trimLeftS
 rw[dropWhile_nil]
 unfold Lib.trimRightS
 constructor
 ·intro h
  by_cases hn:l.reverse.dropWhile (cs.contains ·)=[]
  ·rw[dropWhile_nil]at hn
   simpa using hn
  ·exfalso
   rw[List.all_reverse]at h
   obtain⟨b,r,e⟩:=List.exists_cons_of_ne_nil hn
   have h1:cs.contains b=false:=by
    have:=List.head_dropWhile_not (p:=(cs.contains ·)) (l:=l.reverse) hn
    simp only[e,List.head_cons]at this
    exact this
   rw[e]at h
   simp only[cW,ap]at h
   rw[h1]at h;cases h.1
 ·intro h
  have:l.reverse.dropWhile (cs.contains ·)=[]:=by rw[dropWhile_nil];simpa using h
  rw[this];rfl
def EG:List UInt8:=[48,49,50,51,52,53,54,55,56,57]
theorem uE(b:UInt8):EG.contains b=hD b:=by
 have:∀n:Fin 256,EG.contains (bi n.val)=hD (bi n.val):=by decide +kernel
 have:=this ⟨b.toNat,b.toNat_lt⟩
 simpa using this
theorem MZ(s ls:List UInt8)(lo hi:Nat)(hls:∀c:UInt8,c∈ls↔lo<=c.toNat/\c.toNat<=hi):an Tryz.prog 182 [.v (.string (mk s)),.v (.string (mk ls))] [] (bB (.v (.bool (named lo hi s)))):=by
 refine N7 _ _ ?_
 simp only[MO,↓zq,zs,ac,zt,bB]
 cases s with
 |nil=>exact⟨fun h=>by simp at h,fun _=>rfl⟩
 |
  cons c s =>
  have e1:(List.take (bD 1) (c::s))=[c]:=rfl
  have e2:(List.take (s.length+1) (c::s)).drop (bD 1)=s:=by simp
  simp only[aB,e1,e2]
  refine⟨fun _=>⟨fun h3=>⟨by omega,?_⟩,fun h3=>?_⟩,fun h=>by omega⟩
  ·have hl:s.length<=2:=by omega
   refine ah (Oe ls c) ?_
   simp only[↓zq,zs,ac]
   have hi1:=(mZ ls c).1
   refine⟨fun h=>⟨by omega,?_⟩,fun h=>?_⟩
   ·refine ah (Ii s EG (by omega) (by decide) (by decide)) ?_
    simp only[↓zq,zs,ac,zt]
    have hc:=(hls c).1 (hi1.1 h)
    congr 2
    rw[ct,beq_iff_eq,su]
    simp only[named,hl,hc,decide_true,bO,and_self]
    have:(fun x=>EG.contains x)=hD:=funext uE
    rw[this]
   ·have hc:¬(lo<=c.toNat/\c.toNat<=hi):=fun h'=>h (hi1.2 ((hls c).2 h'))
    simp only[named,hc,zf]
  ·have hl:¬s.length<=2:=by omega
   simp only[named,hl,zf]
theorem Ko(s:List UInt8):an Tryz.prog 173 [.v (.string (mk s))] [] (bB (.v (.bool (gO s)))):=by
 refine Og _ ?_
 unfold MC
 have h:∀n:Fin 256,(bi n.val∈[(120:UInt8),121,122])↔120<=(bi n.val).toNat/\(bi n.val).toNat<=122:=by decide +kernel
 refine ah (MZ s [120,121,122] 120 122 fun c=>by simpa using h ⟨c.toNat,c.toNat_lt⟩) ?_
 simp only[↓zq,zs,ac,bB,gO]
theorem Cm(s:List UInt8):an Tryz.prog 159 [.v (.string (mk s))] [] (bB (.v (.bool (cZ s)))):=by
 refine OQ _ ?_
 unfold Kr
 have h:∀n:Fin 256,(bi n.val∈[(116:UInt8)])↔116<=(bi n.val).toNat/\(bi n.val).toNat<=116:=by decide +kernel
 refine ah (MZ s [116] 116 116 fun c=>by simpa using h ⟨c.toNat,c.toNat_lt⟩) ?_
 simp only[↓zq,zs,ac,bB,cZ]
end Go.Proofs.Trees
namespace Go.Proofs.Trees
open Go Go.VL
inductive Ty where
 |zero|one
 |name (s:List UInt8)
 |bN (up:Nat)
 |plus (a b:Ty)
 |times (a b:Ty)
 |rc (a:Ty)
def Ty.av:Ty->AV
 | .zero=>.ptr [.v (.int .u8 48),.v (.string (mk [])),.v (.int .i64 0),.v (.pointer none),.v (.pointer none)]
 | .one=>.ptr [.v (.int .u8 49),.v (.string (mk [])),.v (.int .i64 0),.v (.pointer none),.v (.pointer none)]
 | .name s=>.ptr [.v (.int .u8 110),.v (.string (mk s)),.v (.int .i64 0),.v (.pointer none),.v (.pointer none)]
 | .bN up=>.ptr [.v (.int .u8 98),.v (.string (mk [])),.v (.int .i64 (up:Int)),.v (.pointer none),.v (.pointer none)]
 | .plus a b=>.ptr [.v (.int .u8 43),.v (.string (mk [])),.v (.int .i64 0),a.av,b.av]
 | .times a b=>.ptr [.v (.int .u8 42),.v (.string (mk [])),.v (.int .i64 0),a.av,b.av]
 | .rc a=>.ptr [.v (.int .u8 114),.v (.string (mk [])),.v (.int .i64 0),a.av,.v (.pointer none)]
theorem aC(t:Ty):LK.has .ptr t.av=True:=by cases t<;>simp[Ty.av,bY]
theorem fD(t:Ty):t.av.isNil=false:=by cases t<;>rfl
def gZ:Option Ty->AV
 |some t=>t.av
 |none=>.v (.pointer none)
theorem ic(t:Option Ty):LK.has .ptr (gZ t)=True:=by cases t<;>simp[gZ,aC,ib]
def E.at:E->List UInt8
 | .atom s=>s
 | .list _=>[]
def bH(s:List UInt8)(ar:List (List UInt8)):Nat->Option Nat
 |0=>none
 |i+1=>if ar.getD i []=s then some (ar.length-1-i)else bH s ar i
end Go.Proofs.Trees
