/-
  Part of a proof: Go functions read by values, trees of functions, their contracts.
-/
import Derived.Test.YtfdpbglppfohhaaGreatDoorP3
import Derived.Shelf.Lays
import Derived.Shelf.LaysM
import Derived.Shelf.Strconv.Itoa3
import Derived.Shelf.Strconv.Atoi
import Derived.Shelf.Strings.SlTrimAscii
import Derived.Shelf.Strings.Search3
import Derived.Test.YtfdpbglppfohhaaGreatDoorProg
set_option linter.unusedVariables false
set_option linter.unusedSimpArgs false
open And renaming intro→aE
open Bool renaming and_eq_true→ap,eq_iff_iff→cz,true_and→bQ
open ByteArray renaming extract→ci,size→ag,toList→ae
open Int renaming cast_ofNat_Int→dh,ofNat_eq_natCast→cQ,toNat→bE
open List renaming all_cons→cY,drop_eq_getElem_cons→aN,drop_eq_nil_of_le→bN,eq_nil_of_length_eq_zero→bT,getD_eq_getElem?_getD→aa,length_append→ax,length_cons→aB,mem_cons→aF,takeWhile_append_dropWhile→cb
open Nat renaming zero_add→aT
open UInt8 renaming ofNat→ba
namespace Go.Proofs
open Go.Shelf
def Tryz.vx:Go.Shelf.Ren:=⟨fun|160=>184|232=>197|231=>196|227=>198|234=>200|233=>199|236=>202|235=>201|228=>208|271=>211|151=>210|197=>209|120=>221|152=>220|260=>219|137=>231|119=>232|224=>229|225=>228|217=>227|266=>235|n=>n,fun|9=>9|4=>4|3=>3|5=>5|117=>228|116=>227|0=>0|124=>231|21=>21|105=>242|46=>235|119=>263|139=>266|138=>265|n=>n,fun|3=>4|4=>5|n=>n⟩
theorem Tryz.B4:Go.Proofs.Lays.n160 Tryz.prog Tryz.vx:={
 mixed:=by kernel_rfl,
 f119:=Tryz.func232.trans (congrArg some (by kernel_rfl)),
 f120:=Tryz.func221.trans (congrArg some (by kernel_rfl)),
 f137:=Tryz.func231.trans (congrArg some (by kernel_rfl)),
 f151:=Tryz.func210.trans (congrArg some (by kernel_rfl)),
 f152:=Tryz.func220.trans (congrArg some (by kernel_rfl)),
 f160:=Tryz.func184.trans (congrArg some (by kernel_rfl)),
 f197:=Tryz.func209.trans (congrArg some (by kernel_rfl)),
 f217:=Tryz.func227.trans (congrArg some (by kernel_rfl)),
 f224:=Tryz.func229.trans (congrArg some (by kernel_rfl)),
 f225:=Tryz.func228.trans (congrArg some (by kernel_rfl)),
 f227:=Tryz.func198.trans (congrArg some (by kernel_rfl)),
 f228:=Tryz.func208.trans (congrArg some (by kernel_rfl)),
 f231:=Tryz.func196.trans (congrArg some (by kernel_rfl)),
 f232:=Tryz.func197.trans (congrArg some (by kernel_rfl)),
 f233:=Tryz.func199.trans (congrArg some (by kernel_rfl)),
 f234:=Tryz.func200.trans (congrArg some (by kernel_rfl)),
 f235:=Tryz.func201.trans (congrArg some (by kernel_rfl)),
 f236:=Tryz.func202.trans (congrArg some (by kernel_rfl)),
 f260:=Tryz.func219.trans (congrArg some (by kernel_rfl)),
 f266:=Tryz.func235.trans (congrArg some (by kernel_rfl)),
 f271:=Tryz.func211.trans (congrArg some (by kernel_rfl)),
 t0:=Tryz.underlying0,
 a0:=Tryz.isAgg0,
 z0:=Tryz.sizeOf0,
 v0:=Tryz.zeroValue0,
 t3:=Tryz.underlying3,
 a3:=Tryz.isAgg3,
 z3:=Tryz.sizeOf3,
 v3:=Tryz.zeroValue3,
 t4:=Tryz.underlying4,
 a4:=Tryz.isAgg4,
 z4:=Tryz.sizeOf4,
 v4:=Tryz.zeroValue4,
 t5:=Tryz.underlying5,
 a5:=Tryz.isAgg5,
 z5:=Tryz.sizeOf5,
 v5:=Tryz.zeroValue5,
 t9:=Tryz.underlying9,
 a9:=Tryz.isAgg9,
 z9:=Tryz.sizeOf9,
 v9:=Tryz.zeroValue9,
 t21:=Tryz.underlying21,
 a21:=Tryz.isAgg21,
 z21:=Tryz.sizeOf21,
 v21:=Tryz.zeroValue21,
 t46:=Tryz.underlying235,
 a46:=Tryz.isAgg235,
 z46:=Tryz.sizeOf235,
 v46:=Tryz.zeroValue235,
 t105:=Tryz.underlying242,
 a105:=Tryz.isAgg242,
 z105:=Tryz.sizeOf242,
 v105:=Tryz.zeroValue242,
 t116:=Tryz.underlying227,
 a116:=Tryz.isAgg227,
 z116:=Tryz.sizeOf227,
 t117:=Tryz.underlying228,
 a117:=Tryz.isAgg228,
 z117:=Tryz.sizeOf228,
 v117:=Tryz.zeroValue228,
 t119:=Tryz.underlying263,
 a119:=Tryz.isAgg263,
 z119:=Tryz.sizeOf263,
 t124:=Tryz.underlying231,
 a124:=Tryz.isAgg231,
 z124:=Tryz.sizeOf231,
 v124:=Tryz.zeroValue231,
 t138:=Tryz.underlying265,
 a138:=Tryz.isAgg265,
 z138:=Tryz.sizeOf265,
 v138:=Tryz.zeroValue265,
 t139:=Tryz.underlying266,
 a139:=Tryz.isAgg266,
 z139:=Tryz.sizeOf266,
 v139:=Tryz.zeroValue266,
 g3:=by kernel_rfl,
 g4:=by kernel_rfl}
def Tryz.uG:Go.Shelf.Ren:=⟨fun|144=>195|143=>207|219=>218|217=>227|225=>228|224=>229|267=>230|266=>235|314=>236|n=>n,fun|9=>9|4=>4|3=>3|5=>5|46=>235|146=>269|51=>258|n=>n,fun|1=>3|n=>n⟩
theorem Tryz.B2:Go.Proofs.Lays.n144 Tryz.prog Tryz.uG:={
 mixed:=by kernel_rfl,
 f143:=Tryz.func207.trans (congrArg some (by kernel_rfl)),
 f144:=Tryz.func195.trans (congrArg some (by kernel_rfl)),
 f217:=Tryz.func227.trans (congrArg some (by kernel_rfl)),
 f219:=Tryz.func218.trans (congrArg some (by kernel_rfl)),
 f224:=Tryz.func229.trans (congrArg some (by kernel_rfl)),
 f225:=Tryz.func228.trans (congrArg some (by kernel_rfl)),
 f266:=Tryz.func235.trans (congrArg some (by kernel_rfl)),
 f267:=Tryz.func230.trans (congrArg some (by kernel_rfl)),
 f314:=Tryz.func236.trans (congrArg some (by kernel_rfl)),
 t3:=Tryz.underlying3,
 a3:=Tryz.isAgg3,
 z3:=Tryz.sizeOf3,
 v3:=Tryz.zeroValue3,
 t4:=Tryz.underlying4,
 a4:=Tryz.isAgg4,
 z4:=Tryz.sizeOf4,
 v4:=Tryz.zeroValue4,
 t5:=Tryz.underlying5,
 a5:=Tryz.isAgg5,
 z5:=Tryz.sizeOf5,
 v5:=Tryz.zeroValue5,
 t9:=Tryz.underlying9,
 a9:=Tryz.isAgg9,
 z9:=Tryz.sizeOf9,
 v9:=Tryz.zeroValue9,
 t46:=Tryz.underlying235,
 a46:=Tryz.isAgg235,
 z46:=Tryz.sizeOf235,
 v46:=Tryz.zeroValue235,
 t51:=Tryz.underlying258,
 a51:=Tryz.isAgg258,
 z51:=Tryz.sizeOf258,
 v51:=Tryz.zeroValue258,
 t146:=Tryz.underlying269,
 a146:=Tryz.isAgg269,
 z146:=Tryz.sizeOf269,
 v146:=Tryz.zeroValue269,
 g1:=by kernel_rfl}
def Tryz.vC:Go.Shelf.Ren:=⟨fun|172=>130|244=>163|245=>164|247=>185|279=>186|280=>187|281=>188|282=>189|287=>203|316=>204|171=>174|205=>205|321=>212|322=>213|243=>193|246=>206|283=>214|284=>215|285=>216|286=>217|129=>223|317=>222|318=>224|319=>225|320=>226|337=>233|338=>234|n=>n,fun|9=>9|3=>3|75=>164|76=>165|4=>4|5=>5|167=>217|37=>48|0=>0|85=>218|2=>2|168=>220|53=>232|175=>233|46=>235|210=>238|127=>246|145=>249|143=>247|21=>21|171=>250|173=>253|212=>257|51=>258|20=>20|213=>259|232=>271|233=>272|80=>81|n=>n,fun|15=>0|16=>1|17=>2|18=>6|19=>7|n=>n⟩
theorem Tryz.BK:Go.Proofs.Lays.n172 Tryz.prog Tryz.vC:={
 mixed:=by kernel_rfl,
 f129:=Tryz.func223.trans (congrArg some (by kernel_rfl)),
 f171:=Tryz.func174.trans (congrArg some (by kernel_rfl)),
 f172:=Tryz.func130.trans (congrArg some (by kernel_rfl)),
 f205:=Tryz.func205.trans (congrArg some (by kernel_rfl)),
 f243:=Tryz.func193.trans (congrArg some (by kernel_rfl)),
 f244:=Tryz.func163.trans (congrArg some (by kernel_rfl)),
 f245:=Tryz.func164.trans (congrArg some (by kernel_rfl)),
 f246:=Tryz.func206.trans (congrArg some (by kernel_rfl)),
 f247:=Tryz.func185.trans (congrArg some (by kernel_rfl)),
 f279:=Tryz.func186.trans (congrArg some (by kernel_rfl)),
 f280:=Tryz.func187.trans (congrArg some (by kernel_rfl)),
 f281:=Tryz.func188.trans (congrArg some (by kernel_rfl)),
 f282:=Tryz.func189.trans (congrArg some (by kernel_rfl)),
 f283:=Tryz.func214.trans (congrArg some (by kernel_rfl)),
 f284:=Tryz.func215.trans (congrArg some (by kernel_rfl)),
 f285:=Tryz.func216.trans (congrArg some (by kernel_rfl)),
 f286:=Tryz.func217.trans (congrArg some (by kernel_rfl)),
 f287:=Tryz.func203.trans (congrArg some (by kernel_rfl)),
 f316:=Tryz.func204.trans (congrArg some (by kernel_rfl)),
 f317:=Tryz.func222.trans (congrArg some (by kernel_rfl)),
 f318:=Tryz.func224.trans (congrArg some (by kernel_rfl)),
 f319:=Tryz.func225.trans (congrArg some (by kernel_rfl)),
 f320:=Tryz.func226.trans (congrArg some (by kernel_rfl)),
 f321:=Tryz.func212.trans (congrArg some (by kernel_rfl)),
 f322:=Tryz.func213.trans (congrArg some (by kernel_rfl)),
 f337:=Tryz.func233.trans (congrArg some (by kernel_rfl)),
 f338:=Tryz.func234.trans (congrArg some (by kernel_rfl)),
 t0:=Tryz.underlying0,
 a0:=Tryz.isAgg0,
 z0:=Tryz.sizeOf0,
 v0:=Tryz.zeroValue0,
 t2:=Tryz.underlying2,
 a2:=Tryz.isAgg2,
 z2:=Tryz.sizeOf2,
 v2:=Tryz.zeroValue2,
 t3:=Tryz.underlying3,
 a3:=Tryz.isAgg3,
 z3:=Tryz.sizeOf3,
 v3:=Tryz.zeroValue3,
 t4:=Tryz.underlying4,
 a4:=Tryz.isAgg4,
 z4:=Tryz.sizeOf4,
 v4:=Tryz.zeroValue4,
 t5:=Tryz.underlying5,
 a5:=Tryz.isAgg5,
 z5:=Tryz.sizeOf5,
 v5:=Tryz.zeroValue5,
 t9:=Tryz.underlying9,
 a9:=Tryz.isAgg9,
 z9:=Tryz.sizeOf9,
 v9:=Tryz.zeroValue9,
 t20:=Tryz.underlying20,
 a20:=Tryz.isAgg20,
 z20:=Tryz.sizeOf20,
 v20:=Tryz.zeroValue20,
 t21:=Tryz.underlying21,
 a21:=Tryz.isAgg21,
 z21:=Tryz.sizeOf21,
 v21:=Tryz.zeroValue21,
 t37:=Tryz.underlying48,
 a37:=Tryz.isAgg48,
 z37:=Tryz.sizeOf48,
 v37:=Tryz.zeroValue48,
 t46:=Tryz.underlying235,
 a46:=Tryz.isAgg235,
 z46:=Tryz.sizeOf235,
 v46:=Tryz.zeroValue235,
 t51:=Tryz.underlying258,
 a51:=Tryz.isAgg258,
 z51:=Tryz.sizeOf258,
 v51:=Tryz.zeroValue258,
 t53:=Tryz.underlying232,
 a53:=Tryz.isAgg232,
 z53:=Tryz.sizeOf232,
 v53:=Tryz.zeroValue232,
 t75:=Tryz.underlying164,
 a75:=Tryz.isAgg164,
 z75:=Tryz.sizeOf164,
 v75:=Tryz.zeroValue164,
 t76:=Tryz.underlying165,
 a76:=Tryz.isAgg165,
 z76:=Tryz.sizeOf165,
 v76:=Tryz.zeroValue165,
 t85:=Tryz.underlying218,
 a85:=Tryz.isAgg218,
 z85:=Tryz.sizeOf218,
 v85:=Tryz.zeroValue218,
 t127:=Tryz.underlying246,
 a127:=Tryz.isAgg246,
 z127:=Tryz.sizeOf246,
 v127:=Tryz.zeroValue246,
 t143:=Tryz.underlying247,
 a143:=Tryz.isAgg247,
 z143:=Tryz.sizeOf247,
 v143:=Tryz.zeroValue247,
 t145:=Tryz.underlying249,
 a145:=Tryz.isAgg249,
 z145:=Tryz.sizeOf249,
 v145:=Tryz.zeroValue249,
 t167:=Tryz.underlying217,
 a167:=Tryz.isAgg217,
 z167:=Tryz.sizeOf217,
 v167:=Tryz.zeroValue217,
 t168:=Tryz.underlying220,
 a168:=Tryz.isAgg220,
 z168:=Tryz.sizeOf220,
 v168:=Tryz.zeroValue220,
 t171:=Tryz.underlying250,
 a171:=Tryz.isAgg250,
 z171:=Tryz.sizeOf250,
 v171:=Tryz.zeroValue250,
 t173:=Tryz.underlying253,
 a173:=Tryz.isAgg253,
 z173:=Tryz.sizeOf253,
 v173:=Tryz.zeroValue253,
 t175:=Tryz.underlying233,
 a175:=Tryz.isAgg233,
 z175:=Tryz.sizeOf233,
 v175:=Tryz.zeroValue233,
 t210:=Tryz.underlying238,
 a210:=Tryz.isAgg238,
 z210:=Tryz.sizeOf238,
 v210:=Tryz.zeroValue238,
 t212:=Tryz.underlying257,
 a212:=Tryz.isAgg257,
 z212:=Tryz.sizeOf257,
 v212:=Tryz.zeroValue257,
 t213:=Tryz.underlying259,
 a213:=Tryz.isAgg259,
 z213:=Tryz.sizeOf259,
 t232:=Tryz.underlying271,
 a232:=Tryz.isAgg271,
 z232:=Tryz.sizeOf271,
 v232:=Tryz.zeroValue271,
 t233:=Tryz.underlying272,
 a233:=Tryz.isAgg272,
 z233:=Tryz.sizeOf272,
 v233:=Tryz.zeroValue272,
 g15:=by kernel_rfl,
 g16:=by kernel_rfl,
 g17:=by kernel_rfl,
 g18:=by kernel_rfl,
 g19:=by kernel_rfl}
def Tryz.tF:Go.Shelf.Ren:=⟨fun|171=>174|243=>193|246=>206|283=>214|284=>215|285=>216|286=>217|129=>223|317=>222|318=>224|319=>225|320=>226|337=>233|338=>234|n=>n,fun|3=>3|9=>9|2=>2|4=>4|171=>250|0=>0|53=>232|37=>48|5=>5|173=>253|212=>257|51=>258|20=>20|213=>259|46=>235|232=>271|233=>272|n=>n,fun|17=>2|18=>6|19=>7|n=>n⟩
theorem Tryz.AS:Go.Proofs.LaysM.n171 Tryz.prog Tryz.tF:={
 mixed:=by kernel_rfl,
 f129:=Tryz.func223.trans (congrArg some (by kernel_rfl)),
 f171:=Tryz.func174.trans (congrArg some (by kernel_rfl)),
 f243:=Tryz.func193.trans (congrArg some (by kernel_rfl)),
 f246:=Tryz.func206.trans (congrArg some (by kernel_rfl)),
 f283:=Tryz.func214.trans (congrArg some (by kernel_rfl)),
 f284:=Tryz.func215.trans (congrArg some (by kernel_rfl)),
 f285:=Tryz.func216.trans (congrArg some (by kernel_rfl)),
 f286:=Tryz.func217.trans (congrArg some (by kernel_rfl)),
 f317:=Tryz.func222.trans (congrArg some (by kernel_rfl)),
 f318:=Tryz.func224.trans (congrArg some (by kernel_rfl)),
 f319:=Tryz.func225.trans (congrArg some (by kernel_rfl)),
 f320:=Tryz.func226.trans (congrArg some (by kernel_rfl)),
 f337:=Tryz.func233.trans (congrArg some (by kernel_rfl)),
 f338:=Tryz.func234.trans (congrArg some (by kernel_rfl)),
 t0:=Tryz.underlying0,
 a0:=Tryz.isAgg0,
 z0:=Tryz.sizeOf0,
 v0:=Tryz.zeroValue0,
 t2:=Tryz.underlying2,
 a2:=Tryz.isAgg2,
 z2:=Tryz.sizeOf2,
 v2:=Tryz.zeroValue2,
 t3:=Tryz.underlying3,
 a3:=Tryz.isAgg3,
 z3:=Tryz.sizeOf3,
 v3:=Tryz.zeroValue3,
 t4:=Tryz.underlying4,
 a4:=Tryz.isAgg4,
 z4:=Tryz.sizeOf4,
 v4:=Tryz.zeroValue4,
 t5:=Tryz.underlying5,
 a5:=Tryz.isAgg5,
 z5:=Tryz.sizeOf5,
 v5:=Tryz.zeroValue5,
 t9:=Tryz.underlying9,
 a9:=Tryz.isAgg9,
 z9:=Tryz.sizeOf9,
 v9:=Tryz.zeroValue9,
 t20:=Tryz.underlying20,
 a20:=Tryz.isAgg20,
 z20:=Tryz.sizeOf20,
 v20:=Tryz.zeroValue20,
 t37:=Tryz.underlying48,
 a37:=Tryz.isAgg48,
 z37:=Tryz.sizeOf48,
 v37:=Tryz.zeroValue48,
 t46:=Tryz.underlying235,
 a46:=Tryz.isAgg235,
 z46:=Tryz.sizeOf235,
 v46:=Tryz.zeroValue235,
 t51:=Tryz.underlying258,
 a51:=Tryz.isAgg258,
 z51:=Tryz.sizeOf258,
 v51:=Tryz.zeroValue258,
 t53:=Tryz.underlying232,
 a53:=Tryz.isAgg232,
 z53:=Tryz.sizeOf232,
 v53:=Tryz.zeroValue232,
 t171:=Tryz.underlying250,
 a171:=Tryz.isAgg250,
 z171:=Tryz.sizeOf250,
 v171:=Tryz.zeroValue250,
 t173:=Tryz.underlying253,
 a173:=Tryz.isAgg253,
 z173:=Tryz.sizeOf253,
 v173:=Tryz.zeroValue253,
 t212:=Tryz.underlying257,
 a212:=Tryz.isAgg257,
 z212:=Tryz.sizeOf257,
 v212:=Tryz.zeroValue257,
 t213:=Tryz.underlying259,
 a213:=Tryz.isAgg259,
 z213:=Tryz.sizeOf259,
 t232:=Tryz.underlying271,
 a232:=Tryz.isAgg271,
 z232:=Tryz.sizeOf271,
 v232:=Tryz.zeroValue271,
 t233:=Tryz.underlying272,
 a233:=Tryz.isAgg272,
 z233:=Tryz.sizeOf272,
 v233:=Tryz.zeroValue272,
 g17:=by kernel_rfl,
 g18:=by kernel_rfl,
 g19:=by kernel_rfl,
 i0:=by kernel_rfl,
 i2:=by kernel_rfl,
 i3:=by kernel_rfl,
 i4:=by kernel_rfl,
 i5:=by kernel_rfl,
 i9:=by kernel_rfl,
 i20:=by kernel_rfl,
 i37:=by kernel_rfl,
 i46:=by kernel_rfl,
 i51:=by kernel_rfl,
 i53:=by kernel_rfl,
 i171:=by kernel_rfl,
 i173:=by kernel_rfl,
 i212:=by kernel_rfl,
 i232:=by kernel_rfl,
 i233:=by kernel_rfl,
 m17:=by kernel_rfl,
 m18:=by kernel_rfl,
 m19:=by kernel_rfl}
end Go.Proofs
namespace Go.Proofs.Trees
open Go Go.VL
noncomputable section
def IG:List (Nat×TI):=[
 (0,⟨false,[],false,0,.tuple [],false⟩),
 (2,⟨true,[.int .i64],false,8,.num .i64,false⟩),
 (3,⟨true,[.int .i64],false,8,.num .i64,false⟩),
 (4,⟨true,[.bool],false,1,.bl,false⟩),
 (5,⟨true,[.int .u8],false,1,.num .u8,false⟩),
 (9,⟨true,[.str],false,16,.str,false⟩),
 (20,⟨true,[.j4],false,16,.other,false⟩),
 (21,⟨true,[.int .i32],false,4,.num .i32,false⟩),
 (22,⟨true,[.sl],false,24,.slice 9,false⟩),
 (24,⟨true,[.str,.sl,.str],true,56,.struct [(0,9),(1,22),(2,9)],false⟩),
 (26,⟨true,[.sl],false,24,.slice 3,false⟩),
 (27,⟨false,[],false,0,.tuple [26,4],false⟩),
 (29,⟨true,[.str,.sl,.str],true,56,.struct [(0,9),(1,22),(2,9)],false⟩),
 (37,⟨true,[.sl,.str,.str],true,56,.struct [(0,26),(1,9),(2,9)],false⟩),
 (39,⟨false,[],false,0,.tuple [9,4],false⟩),
 (41,⟨true,[.sl,.str,.str],true,56,.struct [(0,26),(1,9),(2,9)],false⟩),
 (45,⟨false,[],false,0,.tuple [29,4],false⟩),
 (48,⟨true,[.sl],false,24,.slice 5,false⟩),
 (49,⟨false,[],false,0,.tuple [9,9],false⟩),
 (62,⟨true,[.ptr],false,8,.pt,true⟩),
 (64,⟨true,[.ptr],false,8,.pt,true⟩),
 (65,⟨true,[.sl],false,24,.slice 66,false⟩),
 (66,⟨true,[.ptr],false,8,.pt,true⟩),
 (68,⟨true,[.str,.ptr,.sl,.ptr],true,56,.struct [(0,9),(1,64),(2,65),(3,66)],false⟩),
 (79,⟨true,[.ptr],false,8,.pt,true⟩),
 (83,⟨true,[.sl],false,24,.slice 97,false⟩),
 (85,⟨true,[.sl],false,24,.slice 91,false⟩),
 (86,⟨false,[],false,0,.tuple [85,4],false⟩),
 (88,⟨false,[],false,0,.tuple [64,66],false⟩),
 (91,⟨true,[.str,.str],true,32,.struct [(0,9),(1,9)],false⟩),
 (97,⟨true,[.ptr,.ptr],true,16,.struct [(0,66),(1,66)],false⟩),
 (98,⟨true,[.j4],false,8,.other,false⟩),
 (105,⟨true,[.sl,.int .i64],true,32,.struct [(0,48),(1,3)],false⟩),
 (109,⟨true,[.int .u8,.str,.ptr,.ptr],true,40,.struct [(0,5),(1,9),(2,66),(3,66)],false⟩),
 (110,⟨true,[.ptr],false,8,.pt,true⟩),
 (112,⟨true,[.ptr,.ptr],true,16,.struct [(0,64),(1,110)],false⟩),
 (113,⟨true,[.ptr],false,8,.pt,true⟩),
 (114,⟨false,[],false,0,.tuple [112,113],false⟩),
 (118,⟨true,[.str,.ptr],true,24,.struct [(0,9),(1,113)],false⟩),
 (119,⟨true,[.sl],false,24,.slice 121,false⟩),
 (121,⟨true,[.str,.sl],true,40,.struct [(0,9),(1,119)],false⟩),
 (122,⟨false,[],false,0,.tuple [121,4],false⟩),
 (125,⟨true,[.sl],false,24,.slice 157,false⟩),
 (139,⟨true,[.int .u8,.str,.int .i64,.ptr,.ptr],true,48,.struct [(0,5),(1,9),(2,3),(3,64),(4,64)],false⟩),
 (140,⟨false,[],false,0,.tuple [64,4],false⟩),
 (144,⟨true,[.ptr,.ptr],true,16,.struct [(0,112)],false⟩),
 (146,⟨true,[.ptr,.ptr],true,16,.struct [(0,113),(1,110)],false⟩),
 (148,⟨true,[.j4],false,8,.other,false⟩),
 (149,⟨true,[.j4],false,8,.other,false⟩),
 (155,⟨true,[.sl],false,24,.slice 211,false⟩),
 (157,⟨true,[.str,.sl,.str,.sl],true,80,.struct [(0,121),(2,121)],false⟩),
 (160,⟨true,[.ptr],false,8,.pt,true⟩),
 (164,⟨true,[.j4],false,16,.other,false⟩),
 (165,⟨false,[],false,0,.tuple [3,164],false⟩),
 (172,⟨true,[.j4],false,8,.other,false⟩),
 (175,⟨true,[.ptr],false,8,.pt,true⟩),
 (177,⟨true,[.sl,.int .i64],true,32,.struct [(0,22),(1,3)],false⟩),
 (179,⟨true,[.ptr],false,8,.pt,true⟩),
 (181,⟨true,[.int .i64,.bool],true,16,.struct [(0,3),(1,4)],false⟩),
 (187,⟨false,[],false,0,.tuple [121,3],false⟩),
 (190,⟨false,[],false,0,.tuple [121,155],false⟩),
 (194,⟨false,[],false,0,.tuple [160,9],false⟩),
 (196,⟨true,[.sl],false,24,.slice 160,false⟩),
 (198,⟨true,[.str,.sl],true,40,.struct [(0,9),(1,196)],false⟩),
 (208,⟨true,[.j4],false,8,.other,false⟩),
 (211,⟨true,[.str,.str,.sl,.sl],true,80,.struct [(0,9),(1,121),(3,155)],false⟩),
 (214,⟨true,[.j4],false,8,.other,false⟩),
 (218,⟨false,[],false,0,.tuple [2,164],false⟩),
 (220,⟨true,[.ptr],false,8,.pt,true⟩),
 (228,⟨false,[],false,0,.tuple [227,4],false⟩),
 (231,⟨true,[.ptr],false,8,.pt,true⟩),
 (232,⟨true,[.int .u64],false,8,.num .u64,false⟩),
 (233,⟨false,[],false,0,.tuple [232,164],false⟩),
 (235,⟨true,[.int .u64],false,8,.num .u64,false⟩),
 (238,⟨true,[.str,.str,.j4],true,48,.struct [(0,9),(1,9),(2,164)],false⟩),
 (242,⟨false,[],false,0,.tuple [21,3],false⟩),
 (246,⟨true,[.ptr],false,8,.pt,true⟩),
 (247,⟨true,[.ptr],false,8,.pt,true⟩),
 (249,⟨true,[.str],true,16,.struct [(0,9)],false⟩),
 (250,⟨true,[.int .u8,.int .u8,.int .u8,.int .u8,.int .u8,.int .u8,.int .u8,.int .u8,.int .u8,.int .u8,.int .u8,.int .u8,.int .u8,.int .u8,.int .u8,.int .u8,.int .u8,.int .u8,.int .u8,.int .u8,.int .u8,.int .u8,.int .u8,.int .u8],true,24,.array 24 5,false⟩),
 (253,⟨false,[],false,0,.tuple [48,9],false⟩),
 (257,⟨true,[.int .u64,.int .u64,.int .u64,.int .u64,.int .u64,.int .u64,.int .u64,.int .u64,.int .u64,.int .u64,.int .u64,.int .u64,.int .u64,.int .u64,.int .u64,.int .u64,.int .u64,.int .u64,.int .u64,.int .u64],true,160,.array 20 232,false⟩),
 (258,⟨true,[.int .u32],false,4,.num .u32,false⟩),
 (265,⟨true,[.int .u8,.int .u8],true,2,.struct [(0,5),(1,5)],false⟩),
 (266,⟨true,[.int .u8,.int .u8,.int .u8,.int .u8,.int .u8,.int .u8,.int .u8,.int .u8,.int .u8,.int .u8,.int .u8,.int .u8,.int .u8,.int .u8,.int .u8,.int .u8,.int .u8,.int .u8,.int .u8,.int .u8,.int .u8,.int .u8,.int .u8,.int .u8,.int .u8,.int .u8,.int .u8,.int .u8,.int .u8,.int .u8,.int .u8,.int .u8],true,32,.array 16 265,false⟩),
 (269,⟨false,[],false,0,.tuple [258,258],false⟩),
 (271,⟨true,[.int .u8,.int .u8,.int .u8,.int .u8,.int .u8,.int .u8,.int .u8,.int .u8,.int .u8,.int .u8,.int .u8,.int .u8,.int .u8,.int .u8,.int .u8,.int .u8,.int .u8,.int .u8,.int .u8,.int .u8,.int .u8,.int .u8,.int .u8,.int .u8,.int .u8,.int .u8,.int .u8,.int .u8,.int .u8,.int .u8,.int .u8,.int .u8],true,32,.array 32 5,false⟩)]
def HZ(t:Nat):TI:=xE IG t
abbrev ew:Func:=Tryz.f86
abbrev p5:Func:=Tryz.f130
abbrev pS:Func:=Tryz.f174
abbrev pY:Func:=Tryz.f184
abbrev mW:Func:=Tryz.f195
def Oz:List (Nat×FC):=[(181,{mu:=[(1,.one (.obj [.vec 1]))],own:=[]}),(137,{mu:=[(2,.one (.vec))],own:=[0]}),(18200180,{mu:=[(1,.fn [some (.obj [.vec 1])])],own:=[]}),(112,{mu:=[(2,.one (.obj [.vec 2]))],own:=[]}),(11600112,{mu:=[(1,.fn [some (.obj [.lk .ptr])]),(2,.one (.obj [.vec 2]))],own:=[]}),(11700112,{mu:=[(1,.fn [some (.obj [.lk .ptr])]),(2,.one (.obj [.vec 2]))],own:=[]}),(11900112,{mu:=[(1,.fn [some (.obj [.lk .ptr])]),(2,.one (.obj [.vec 2]))],own:=[]}),(12100112,{mu:=[(1,.fn [some (.obj [.lk .ptr,.lk .ptr])]),(2,.one (.obj [.vec 2]))],own:=[]}),(115,{mu:=[(1,.one (.obj [.lk .ptr]))],own:=[]}),(116,{mu:=[(1,.one (.obj [.lk .ptr]))],own:=[]}),(118,{mu:=[(1,.one (.obj [.lk .ptr]))],own:=[]}),(120,{mu:=[(1,.one (.obj [.lk .ptr,.lk .ptr]))],own:=[]}),(176,{mu:=[(2,.u7 176 [none,some 0,some 1]),(3,.one (.obj [.lk .sl])),(4,.one (.obj [.lk (.int .i64)]))],own:=[]}),(126,{mu:=[(2,.one (.vec))],own:=[0]}),(81,{mu:=[(0,.one (.obj [.lk .sl,.lk (.int .i64)]))],own:=[]}),(143,{mu:=[(3,.one (.obj [.vec 1,.lk (.int .i64)]))],own:=[]}),(102,{mu:=[(0,.one (.obj [.lk .sl,.lk (.int .i64)]))],own:=[]}),(62,{mu:=[],own:=[0],ow:=[.sl,.int .i64]}),(16,{mu:=[(0,.one (.cC false [.vec 1]))],own:=[]}),(50,{mu:=[(0,.one (.cC false [.vec 1]))],own:=[]}),(146,{mu:=[(0,.one (.obj [.lk (.int .i64),.lk .bool]))],own:=[]}),(147,{mu:=[(0,.one (.obj [.lk (.int .i64),.lk .bool]))],own:=[]}),(148,{mu:=[(0,.one (.obj [.lk (.int .i64),.lk .bool]))],own:=[]}),(136,{mu:=[(0,.one (.obj [.lk .sl,.lk (.int .i64)]))],own:=[]}),(80,{mu:=[(0,.one (.obj [.lk .sl,.lk (.int .i64)]))],own:=[]}),(135,{mu:=[(0,.one (.obj [.lk .sl,.lk (.int .i64)]))],own:=[]}),(105,{mu:=[(0,.one (.obj [.lk .sl,.lk (.int .i64)]))],own:=[]}),(83,{mu:=[(0,.one (.obj [.lk .sl,.lk (.int .i64)]))],own:=[]}),(103,{mu:=[(0,.one (.obj [.lk .sl,.lk (.int .i64)]))],own:=[]}),(82,{mu:=[(0,.one (.obj [.lk .sl,.lk (.int .i64)]))],own:=[]}),(61,{mu:=[(0,.one (.obj [.lk .sl,.lk (.int .i64)]))],own:=[]}),(67,{mu:=[(0,.one (.obj [.lk .sl,.lk (.int .i64)]))],own:=[]}),(15,{mu:=[(0,.one (.cC true [.lk .str,.vec 1,.lk .str]))],own:=[]}),(27,{mu:=[],own:=[0],oa:=[.lk .str,.vec 1,.lk .str]}),(31,{mu:=[],own:=[0],oa:=[.lk .str,.vec 1,.lk .str]}),(55,{mu:=[],own:=[0],oa:=[.lk .str,.vec 1,.lk .str]}),(35,{mu:=[],own:=[0],oa:=[.lk .str,.vec 1,.lk .str]}),(24,{mu:=[],own:=[0],oa:=[.lk .str,.vec 1,.lk .str]}),(38,{mu:=[],own:=[0],oa:=[.lk .str,.vec 1,.lk .str]}),(58,{mu:=[],own:=[0],oa:=[.lk .str,.vec 1,.lk .str]}),(12,{mu:=[],own:=[0]}),(44,{mu:=[],own:=[0]}),(11,{mu:=[],own:=[0],oa:=[.lk .str,.vec 1,.lk .str]}),(54,{mu:=[],own:=[0]}),(20,{mu:=[],own:=[0],oa:=[.vec 1,.lk .str,.lk .str]}),(77,{mu:=[(1,.one (.obj [.lk .str]))],own:=[]}),(7800076,{mu:=[(1,.fn [some (.obj [.lk .str])])],own:=[]}),(48,{mu:=[(0,.one (.cC false [.vec 1]))],own:=[]})]
def cH(f:Nat):FC:=Bn Oz f
theorem CE:(IG.all fun p=>!p.2.kn||p.2.mX Tryz.prog p.1)=true:=by kernel_rfl
theorem tU:db Tryz.prog HZ:=uB CE
theorem mixed:Tryz.prog.follows .mixedOrders=true:=by kernel_rfl
abbrev NZ(r:AV)(k:Tree):Tree:=.al (LK.has .ptr r/\r.isNil=false) k
abbrev NP(r:AV)(k:Tree):Tree:=.al (LK.has .ptr r) k
abbrev NS(r:AV)(k:Tree):Tree:=.al (LK.has .str r) k
abbrev NB(r:AV)(k:Tree):Tree:=.al (LK.has .bool r) k
abbrev NL(r:AV)(k:Tree):Tree:=.al (LK.has .sl r) k
abbrev NI(r:AV)(k:Tree):Tree:=.al (LK.has (.int .i64) r) k
abbrev ef(l:List AV)(k:Tree):Tree:=.al (LK.has .ptr (l.headD .any)/\1<=l.length) k
abbrev lI(l:List AV)(k:Tree):Tree:=.al (LK.has .str (l.headD .any)/\1<=l.length) k
abbrev ou(l:List AV)(k:Tree):Tree:=.al (LK.has .sl (l.headD .any)/\1<=l.length) k
abbrev NT(r:AV)(k:Tree):Tree:=.al (r=.cN [r.comp 0,r.comp 1]) k
abbrev NA(r:AV)(k:Tree):Tree:=.al (r=.agg r.cs/\r.cs.length=2/\bC [.str,.sl] r.cs 0) k
abbrev NE(l:List AV)(k:Tree):Tree:=.al (bC [.str,.sl] l 0/\2<=l.length) k
abbrev NG(r:AV)(i:Int)(z:Nat)(k:Tree):Tree:=.al (LK.has .sl r/\0<=i/\i<r.aQ.length/\(r.aQ.getD i.toNat []).length=z) k
abbrev RL:Type:=Nat->List AV->List Ob->Prop
abbrev VS(x:ByteArray):AV:=.v (.string x)
abbrev VI(x:Int):AV:=.v (.int .i64 x)
abbrev VB(x:Bool):AV:=.v (.bool x)
abbrev _root_.List.hA(l:List AV):AV:=l.headD .any
abbrev _root_.List.hO(l:List Ob):Ob:=l.headD .dead
abbrev _root_.Go.VL.AV.ix(a:AV)(i:Int):List AV:=a.aQ.getD i.toNat []
abbrev dr(n:Nat)(t:Tree)(R:AV->List Ob->Prop):Prop:=eN Tryz.prog n t fun _ xs obs=>R (xs.headD .any) obs
abbrev jk(n:Nat)(t:Tree)(S:List AV->List Ob->RL->Prop)(R:RL):Prop:=eN Tryz.prog n t (Cp (fun ys o=>S ys o R) R)
theorem gQ{n:Nat}{c:Code}{li:LI}{xs:List AV}{obs:List Ob}{R:RL}{t:Tree}(lis:List (Nat×LI))(h:eN Tryz.prog n t (Cp (fun ys o=>cq Tryz.prog n c li ys o R) R))(e:round HZ cH n lis c li xs obs=t:=by kernel_rfl):cq Tryz.prog n c li xs obs R:=cq.N5 (cH:=cH) (lis:=lis) tU mixed e h
theorem QB(n:Nat)(t:Tree)(R:AV->List Ob->Prop):dr n t R=eN Tryz.prog n t fun _ xs obs=>R (xs.headD .any) obs:=rfl
theorem Pm(n:Nat)(t:Tree)(S:List AV->List Ob->RL->Prop)(R:RL):jk n t S R=eN Tryz.prog n t (Cp (fun ys o=>S ys o R) R):=rfl
theorem R1(x:ByteArray):VS x=.v (.string x):=rfl
theorem RV(x:Int):VI x=.v (.int .i64 x):=rfl
theorem R9(x:Bool):VB x=.v (.bool x):=rfl
theorem RU(l:List AV):l.hA=l.headD .any:=rfl
theorem Se(l:List Ob):l.hO=l.headD .dead:=rfl
theorem Sb(a:AV)(i:Int):a.ix i=a.aQ.getD i.toNat []:=rfl
theorem oQ{f:Nat}{asq:List AV}{ins:List Ob}{R:AV->List Ob->Prop}{t:Tree}(lis:List (Nat×LI))(F:Func)(h:eN Tryz.prog F.ntmps t fun _ xs obs=>R (xs.headD .any) obs)(hf:Tryz.prog.funcs[f]?=some F:=by kernel_rfl)(hnm:(F.name=="runtime.NumGoroutine")=false:=by kernel_rfl)(e:main HZ cH lis {} F asq ins=t:=by kernel_rfl):an Tryz.prog f asq ins R:=an.N5 (cH:=cH) (lis:=lis) (fc:={}) tU mixed hf hnm e h
theorem oF{f:Nat}{asq:List AV}{ins:List Ob}{R:AV->List Ob->Prop}{t:Tree}(lis:List (Nat×LI))(fc:FC)(F:Func)(h:eN Tryz.prog F.ntmps t fun _ xs obs=>R (xs.headD .any) obs)(hf:Tryz.prog.funcs[f]?=some F:=by kernel_rfl)(hnm:(F.name=="runtime.NumGoroutine")=false:=by kernel_rfl)(e:main HZ cH lis fc F asq ins=t:=by kernel_rfl):an Tryz.prog f asq ins R:=an.N5 (cH:=cH) (lis:=lis) (fc:=fc) tU mixed hf hnm e h
theorem uQ{P:Program}{f:Nat}{asq bs:List AV}{R:AV->List Ob->Prop}(h:wg asq bs)(hf:an P f bs [] R):an P f asq [] R:=an.pQ cX (an.up h hf)
theorem Sd(r:AV)(k:Tree):NZ r k=.al (LK.has .ptr r/\r.isNil=false) k:=rfl
theorem R3(r:AV)(k:Tree):NP r k=.al (LK.has .ptr r) k:=rfl
theorem RZ(r:AV)(k:Tree):NS r k=.al (LK.has .str r) k:=rfl
theorem RW(r:AV)(k:Tree):NB r k=.al (LK.has .bool r) k:=rfl
theorem RS(r:AV)(k:Tree):NL r k=.al (LK.has .sl r) k:=rfl
theorem RR(r:AV)(k:Tree):NI r k=.al (LK.has (.int .i64) r) k:=rfl
theorem OG(l:List AV)(k:Tree):ef l k=.al (LK.has .ptr (l.headD .any)/\1<=l.length) k:=rfl
theorem Q2(l:List AV)(k:Tree):lI l k=.al (LK.has .str (l.headD .any)/\1<=l.length) k:=rfl
theorem Pz(l:List AV)(k:Tree):ou l k=.al (LK.has .sl (l.headD .any)/\1<=l.length) k:=rfl
theorem R2(r:AV)(k:Tree):NT r k=.al (r=.cN [r.comp 0,r.comp 1]) k:=rfl
theorem RT(r:AV)(k:Tree):NA r k=.al (r=.agg r.cs/\r.cs.length=2/\bC [.str,.sl] r.cs 0) k:=rfl
theorem R7(l:List AV)(k:Tree):NE l k=.al (bC [.str,.sl] l 0/\2<=l.length) k:=rfl
theorem R4(r:AV)(i:Int)(z:Nat)(k:Tree):NG r i z k=.al (LK.has .sl r/\0<=i/\i<r.aQ.length/\(r.aQ.getD i.toNat []).length=z) k:=rfl
set_option linter.defProp false in
def zq:=aE @Sd (aE @R3 (aE @RZ (aE @RW (aE @RS (aE @RR (aE @OG (aE @Q2 (aE @Pz (aE @R2 (aE @RT (aE @R7 (aE @R4 (aE @QB (aE @Pm (aE @R1 (aE @RV (aE @R9 ((aE @RU (aE @Se (aE @Sb @zp)))))))))))))))))))))
variable {R:AV->List Ob->Prop} {U:RL}
def KH(a0_0:ByteArray)(a0_1:AV)(a0_2:ByteArray):Tree :=
 .call 9 [.agg [VS a0_0,a0_1,VS a0_2],VI 1048576] [] fun r1 o1=>NI r1<|.test (decide (r1.toInt<(0:Int))) (.done 0 [VB true] []) (.call 11 [.agg [VS a0_0,a0_1,VS a0_2]] [] fun r2 o2=>.al (r2=.agg r2.cs/\bm [.lk .str,.vec 1,.lk .str] r2.cs 0 0 o2)<|.al (∀x,x∈o2->gz x)<|.call 10 [.agg [VS ((r2.cs.getD 0 .any).ai),.sl ((o2.hO).es),VS ((r2.cs.getD 2 .any).ai)]] [] fun r3 o3=>NT r3<|NL (r3.comp 0)<|NB (r3.comp 1)<|.call 11 [.agg [VS a0_0,a0_1,VS a0_2]] [] fun r4 o4=>.al (r4=.agg r4.cs/\bm [.lk .str,.vec 1,.lk .str] r4.cs 0 0 o4)<|.al (∀x,x∈o4->gz x)<|.call 12 [.agg [VS ((r4.cs.getD 0 .any).ai),.sl ((o4.hO).es),VS ((r4.cs.getD 2 .any).ai)]] [] fun r5 o5=>NT r5<|.al (r5.comp 0=.vec 0/\(o5.hO)=.vec 1 (o5.hO).es)<|NB (r5.comp 1)<|.al (∀x,x∈o5->gz x)<|.call 13 [.sl ((o5.hO).es),(r3.comp 0)] [] fun r6 o6=>NB r6<|.test (!r6.toBool) (.done 0 [VB false] []) (.test (!(((r5.comp 1).toBool)==((r3.comp 1).toBool))) (.done 0 [VB false] []) (.call 11 [.agg [VS a0_0,a0_1,VS a0_2]] [] fun r7 o7=>.al (r7=.agg r7.cs/\bm [.lk .str,.vec 1,.lk .str] r7.cs 0 0 o7)<|.al (∀x,x∈o7->gz x)<|.call 14 [.agg [VS ((r4.cs.getD 0 .any).ai),.sl ((o4.hO).es),VS ((r4.cs.getD 2 .any).ai)],.agg [VS ((r7.cs.getD 0 .any).ai),.sl ((o7.hO).es),VS ((r7.cs.getD 2 .any).ai)]] [] fun r8 o8=>NB r8<|.test (!r8.toBool) (.done 0 [VB false] []) (.call 15 [.agg [VS ((r4.cs.getD 0 .any).ai),.vec 0,VS ((r4.cs.getD 2 .any).ai)],VI 1] [.vec 1 ((o4.hO).es)] fun r9 o9=>.al ((o9.hO)=.gm 1 (o9.hO).es)<|NI r9<|.test (decide (r9.toInt<(0:Int))) (.done 0 [VB false] []) (.call 13 [.sl ((o5.hO).es),(r3.comp 0)] [] fun r10 o10=>NB r10<|.test (!r10.toBool) (.done 0 [VB false] []) (.test (!(((r5.comp 1).toBool)==((r3.comp 1).toBool))) (.done 0 [VB false] []) (.call 16 [.vec 0,VI 1] [.vec 1 ((o5.hO).es)] fun r11 o11=>.al ((o11.hO)=.gm 1 (o11.hO).es)<|NI r11<|.call 17 [.sl ((o11.hO).es),VI 1] [] fun r12 o12=>NI r12<|.test (decide (r12.toInt<(0:Int))) (.done 0 [VB false] []) (.test (r12.toInt != r11.toInt) (.done 0 [VB false] []) (.call 11 [.agg [VS a0_0,a0_1,VS a0_2]] [] fun r13 o13=>.al (r13=.agg r13.cs/\bm [.lk .str,.vec 1,.lk .str] r13.cs 0 0 o13)<|.al (∀x,x∈o13->gz x)<|.call 12 [.agg [VS ((r13.cs.getD 0 .any).ai),.sl ((o13.hO).es),VS ((r13.cs.getD 2 .any).ai)]] [] fun r14 o14=>NT r14<|.al (r14.comp 0=.vec 0/\(o14.hO)=.vec 1 (o14.hO).es)<|NB (r14.comp 1)<|.al (∀x,x∈o14->gz x)<|.call 13 [.sl ((o14.hO).es),(r3.comp 0)] [] fun r15 o15=>NB r15<|.test (!r15.toBool) (.done 0 [VB false] []) (.test (!(((r14.comp 1).toBool)==((r3.comp 1).toBool))) (.done 0 [VB false] []) (.call 17 [.sl ((o11.hO).es),VI 1] [] fun r16 o16=>NI r16<|.test (decide (r16.toInt<(0:Int))) (.done 0 [VB false] []) (.test (r16.toInt != r11.toInt) (.done 0 [VB false] []) (.done 0 [VB true] [])))))))))))))
theorem Qy(a0_0:ByteArray)(a0_1:AV)(a0_2:ByteArray)(ha0_1:LK.has .sl a0_1)(h:dr 96 (KH a0_0 a0_1 a0_2) R):an Tryz.prog 3 [.agg [VS a0_0,a0_1,VS a0_2]] [] R :=
 uQ (af (bX (af (aw _) (af (bZ ha0_1) (af (aw _) aA)))) aA) (oQ [] Tryz.f3 h)
def Mb(a0_0:ByteArray)(a0_1:AV)(a0_2:ByteArray)(a1:Int):Tree :=
 .test (decide ((IntKind.wrap .i64 (a1-(ag a0_0:Int)))<(0:Int))) (.done 0 [VI (-1)] []) (.call 40 [a0_1,VI (IntKind.wrap .i64 (a1-(ag a0_0:Int)))] [] fun r1 o1=>NI r1<|.test (decide (r1.toInt<(0:Int))) (.done 0 [VI (-1)] []) (.test (decide ((IntKind.wrap .i64 (r1.toInt-(ag a0_2:Int)))<(0:Int))) (.done 0 [VI (-1)] []) (.done 0 [VI (IntKind.wrap .i64 (r1.toInt-(ag a0_2:Int)))] [])))
theorem QT(a0_0:ByteArray)(a0_1:AV)(a0_2:ByteArray)(a1:Int)(ha0_1:LK.has .sl a0_1)(h:dr 26 (Mb a0_0 a0_1 a0_2 a1) R):an Tryz.prog 9 [.agg [VS a0_0,a0_1,VS a0_2],VI a1] [] R :=
 uQ (af (bX (af (aw _) (af (bZ ha0_1) (af (aw _) aA)))) (af (aw _) aA)) (oQ [] Tryz.f9 h)
def Ea:LI:={hd:={refs:=[(1,1)],co:=[(1,[.lk .str,.lk .sl,.lk .str])],eB:=[(4,1)]},xs:={eB:=[(4,1)]},rt:={},ex:=0}
def IR:Code:=cu (cn Tryz.f10) 4
def J5:List (Nat×LI):=[(4,Ea)]
def J4(a0_0:ByteArray)(a0_1:AV)(a0_2:ByteArray):Tree :=
 .call 41 [.agg [VS a0_0,a0_1,VS a0_2]] [] fun r1 o1=>NB r1<|.test (!r1.toBool) (.done 0 [.cN [.sl [],VB false]] []) (.loop IR Ea [] [.cells [VS a0_0,a0_1,VS a0_2],.vec 1 []] (fun y4 q4=>.al (((q4.drop 0).hO)=.vec 1 ((q4.drop 0).hO).es)<|.done 0 [.cN [.sl ((q4.hO).es),VB true]] []) (fun y4 q4=>.done 0 [.cN [.any,.any]] []))
theorem Qv(a0_0:ByteArray)(a0_1:AV)(a0_2:ByteArray)(ha0_1:LK.has .sl a0_1)(h:dr 28 (J4 a0_0 a0_1 a0_2) R):an Tryz.prog 10 [.agg [VS a0_0,a0_1,VS a0_2]] [] R :=
 uQ (af (bX (af (aw _) (af (bZ ha0_1) (af (aw _) aA)))) aA) (oQ J5 Tryz.f10 h)
def GI(o1_0:ByteArray)(o1_1:AV)(o1_2:ByteArray)(e4:List (List AV)):Tree :=
 .al (Ob.cells [VS o1_0,o1_1,VS o1_2]=.cells [VS o1_0,o1_1,VS o1_2])<|.al (ac [.lk .str,.lk .sl,.lk .str] [VS o1_0,o1_1,VS o1_2] 0 [.vec 1 e4])<|.al (Ob.vec 1 e4=.vec 1 e4)<|NL o1_1<|.test (decide ((o1_1.aQ.length:Int)>(0:Int))) (.call 42 [.agg [VS o1_0,o1_1,VS o1_2]] [] fun r1 o1=>NI r1<|.al (cD 1 e4/\((([[VI r1.toInt]]:List (List AV)).length)+e4.length)*8<=140737488355328)<|.call 43 [.agg [VS o1_0,o1_1,VS o1_2]] [] fun r2 o2=>NT r2<|.al ((r2.comp 0)=.agg (r2.comp 0).cs/\(r2.comp 0).cs.length=3/\bC [.str,.sl,.str] ((r2.comp 0).cs) 0)<|NB (r2.comp 1)<|.done 0 [] [.cells [VS (((r2.comp 0).cs.getD 0 .any).ai),((r2.comp 0).cs.getD 1 .any),VS (((r2.comp 0).cs.getD 2 .any).ai)],.vec 1 (([[VI r1.toInt]]:List (List AV))++e4)]) (.done 1 [] [.vec 1 e4])
abbrev ED:=cq Tryz.prog 28 IR Ea
theorem IY(o1_0:ByteArray)(o1_1:AV)(o1_2:ByteArray)(e4:List (List AV))(h:jk 28 (GI o1_0 o1_1 o1_2 e4) ED U):ED [] [.cells [VS o1_0,o1_1,VS o1_2],.vec 1 e4] U :=
 gQ J5 h
def KI(a0_0:ByteArray)(a0_1:AV)(a0_2:ByteArray):Tree :=
 .call 44 [a0_1] [] fun r1 o1=>.al (r1=.vec 0/\(o1.hO)=.vec 1 (o1.hO).es)<|.al (∀x,x∈o1->gz x)<|.done 0 [.agg [VS a0_0,.vec 0,VS a0_2]] [.vec 1 ((o1.hO).es)]
theorem Qf(a0_0:ByteArray)(a0_1:AV)(a0_2:ByteArray)(ha0_1:LK.has .sl a0_1)(h:dr 15 (KI a0_0 a0_1 a0_2) R):an Tryz.prog 11 [.agg [VS a0_0,a0_1,VS a0_2]] [] R :=
 uQ (af (bX (af (aw _) (af (bZ ha0_1) (af (aw _) aA)))) aA) (oF [] {mu:=[],own:=[0],oa:=[.lk .str,.vec 1,.lk .str]} Tryz.f11 h)
def FY:LI:={hd:={bu:=[(4,.k .ptr)],eB:=[(5,1)]},xs:={eB:=[(5,1)]},rt:={},ex:=0}
def Lq:Code:=cu (cn Tryz.f12) 5
def If:List (Nat×LI):=[(5,FY)]
def IB(a0_0:ByteArray)(a0_1:AV)(a0_2:ByteArray):Tree :=
 .call 45 [.agg [VS a0_0,a0_1,VS a0_2]] [] fun r1 o1=>NP r1<|NP r1<|.test r1.isNil (.done 0 [.cN [.vec 0,VB false]] [.vec 1 []]) (.loop Lq FY [r1] [.vec 1 []] (fun y4 q4=>.al (((q4.drop 0).hO)=.vec 1 ((q4.drop 0).hO).es)<|.call 48 [.vec 0] [.vec 1 ((q4.hO).es)] fun r5 o5=>.al ((o5.hO)=.gm 1 (o5.hO).es)<|.done 0 [.cN [.vec 0,VB true]] [.vec 1 ((o5.hO).es)]) (fun y4 q4=>.fail))
theorem Pn(a0_0:ByteArray)(a0_1:AV)(a0_2:ByteArray)(ha0_1:LK.has .sl a0_1)(h:dr 30 (IB a0_0 a0_1 a0_2) R):an Tryz.prog 12 [.agg [VS a0_0,a0_1,VS a0_2]] [] R :=
 uQ (af (bX (af (aw _) (af (bZ ha0_1) (af (aw _) aA)))) aA) (oF If {mu:=[],own:=[0]} Tryz.f12 h)
def FW(x4:AV)(e5:List (List AV)):Tree :=
 NP x4<|.al (Ob.vec 1 e5=.vec 1 e5)<|NZ x4<|NZ x4<|ou (x4.deref.drop 2)<|NL ((x4.deref.drop 2).hA)<|.test (decide (((((x4.deref.drop 2).hA).aQ).length:Int)>(0:Int))) (.call 46 [x4] [] fun r1 o1=>NP r1<|.call 47 [x4,r1] [] fun r2 o2=>NI r2<|.al (cD 1 [[VI r2.toInt]]/\((e5.length)+([[VI r2.toInt]]:List (List AV)).length)*8<=140737488355328)<|.done 0 [r1] [.vec 1 (e5++([[VI r2.toInt]]:List (List AV)))]) (.done 1 [] [.vec 1 e5])
abbrev Fe:=cq Tryz.prog 30 Lq FY
theorem Lh(x4:AV)(e5:List (List AV))(h:jk 30 (FW x4 e5) Fe U):Fe [x4] [.vec 1 e5] U :=
 gQ If h
def HF:LI:={hd:={bu:=[(0,.k .sl),(1,.k .sl),(5,.k (.int .i64))]},xs:={},rt:={bu:=[(4,.k .bool)]},ex:=0}
def Mk:Code:=cu (cn Tryz.f13) 4
def H5:List (Nat×LI):=[(4,HF)]
def HV(a0:AV)(a1:AV):Tree :=
 NL a0<|NL a1<|.test ((a0.aQ.length:Int) != (a1.aQ.length:Int)) (.done 0 [VB false] []) (.loop Mk HF [a0,a1,VI 0] [] (fun y1 q1=>.done 0 [VB true] []) (fun y1 q1=>NB (y1.hA)<|.done 0 [VB ((y1.hA).toBool)] []))
theorem QL(a0:AV)(a1:AV)(ha0:LK.has .sl a0)(ha1:LK.has .sl a1)(h:dr 26 (HV a0 a1) R):an Tryz.prog 13 [a0,a1] [] R :=
 uQ (af (bZ ha0) (af (bZ ha1) aA)) (oQ H5 Tryz.f13 h)
def G3(x0:AV)(x1:AV)(x5:Int):Tree :=
 NL x0<|NL x1<|NI (VI x5)<|NL x0<|.test (decide (x5<(x0.aQ.length:Int))) (NG x0 x5 1<|.al (LK.has (.int .i64) ((x0.ix x5).hA)/\1<=(x0.ix x5).length)<|NG x1 x5 1<|.al (LK.has (.int .i64) ((x1.ix x5).hA)/\1<=(x1.ix x5).length)<|.test ((((x0.ix x5).hA).toInt) != (((x1.ix x5).hA).toInt)) (.done 2 [VB false] []) (.done 0 [x0,x1,VI (IntKind.wrap .i64 (x5+1))] [])) (.done 1 [] [])
abbrev Fi:=cq Tryz.prog 26 Mk HF
theorem LH(x0:AV)(x1:AV)(x5:Int)(h:jk 26 (G3 x0 x1 x5) Fi U):Fi [x0,x1,VI x5] [] U :=
 gQ H5 h
def MJ(a0_0:ByteArray)(a0_1:AV)(a0_2:ByteArray)(a1_0:ByteArray)(a1_1:AV)(a1_2:ByteArray):Tree :=
 .test (!(ae a0_0==ae a1_0)) (.done 0 [VB false] []) (.call 49 [a0_1,a1_1] [] fun r1 o1=>NB r1<|.test (!r1.toBool) (.done 0 [VB false] []) (.test (!(ae a0_2==ae a1_2)) (.done 0 [VB false] []) (.done 0 [VB true] [])))
theorem P6(a0_0:ByteArray)(a0_1:AV)(a0_2:ByteArray)(a1_0:ByteArray)(a1_1:AV)(a1_2:ByteArray)(ha0_1:LK.has .sl a0_1)(ha1_1:LK.has .sl a1_1)(h:dr 21 (MJ a0_0 a0_1 a0_2 a1_0 a1_1 a1_2) R):an Tryz.prog 14 [.agg [VS a0_0,a0_1,VS a0_2],.agg [VS a1_0,a1_1,VS a1_2]] [] R :=
 uQ (af (bX (af (aw _) (af (bZ ha0_1) (af (aw _) aA)))) (af (bX (af (aw _) (af (bZ ha1_1) (af (aw _) aA)))) aA)) (oQ [] Tryz.f14 h)
def IQ(a0_0:ByteArray)(e0:List (List AV))(a0_2:ByteArray)(a1:Int):Tree :=
 .call 50 [.vec 0,VI a1] [.vec 1 e0] fun r1 o1=>.al ((o1.hO)=.gm 1 (o1.hO).es)<|NI r1<|.done 0 [VI r1.toInt] [.gm 1 ((o1.hO).es)]
theorem Qz(a0_0:ByteArray)(e0:List (List AV))(a0_2:ByteArray)(a1:Int)(h:dr 10 (IQ a0_0 e0 a0_2 a1) R):an Tryz.prog 15 [.agg [VS a0_0,.vec 0,VS a0_2],VI a1] [.vec 1 e0] R :=
 an.pQ (bK (eK _) cX) (an.up (af (aw _) (af (aw _) aA)) (oF [] {mu:=[(0,.one (.cC true [.lk .str,.vec 1,.lk .str]))],own:=[]} Tryz.f15 h))
def Fu:LI:={hd:={bu:=[(1,.k (.int .i64)),(5,.k (.int .i64))],kv:=[(0,0,1)]},xs:={bu:=[(1,.k (.int .i64))],kv:=[(0,0,1)]},rt:={kv:=[(0,0,1)]},ex:=0,fx:=[0]}
def My:Code:=cu (cn Tryz.f16) 2
def Nl:List (Nat×LI):=[(2,Fu)]
def L8(e0:List (List AV))(a1:Int):Tree :=
 .loop My Fu [VI a1,VI 0] [.vec 1 e0] (fun y1 q1=>NI (y1.hA)<|.al (((((q1.drop 0).drop 0).drop 0).hO)=.vec 1 ((((q1.drop 0).drop 0).drop 0).hO).es)<|.done 0 [VI ((y1.hA).toInt)] [.gm 1 ((((q1.drop 0).drop 0).hO).es)]) (fun y1 q1=>.al (((((q1.drop 0).drop 0).drop 0).hO)=.vec 1 ((((q1.drop 0).drop 0).drop 0).hO).es)<|.done 0 [.any] [.gm 1 ((((q1.drop 0).drop 0).hO).es)])
theorem PD(e0:List (List AV))(a1:Int)(h:dr 19 (L8 e0 a1) R):an Tryz.prog 16 [.vec 0,VI a1] [.vec 1 e0] R :=
 an.pQ (bK (eK _) cX) (an.up (af (aw _) (af (aw _) aA)) (oF Nl {mu:=[(0,.one (.cC false [.vec 1]))],own:=[]} Tryz.f16 h))
def Ei(x1:Int)(x5:Int)(k0:List (List AV)):Tree :=
 NI (VI x1)<|NI (VI x5)<|.al (Ob.vec 1 k0=.vec 1 k0)<|.test (decide (x5<(k0.length:Int))) (.al (0<=x5/\x5<k0.length)<|.al (x5.toNat<k0.length/\0+1<=1)<|.done 0 [VI (IntKind.wrap .i64 (x1+1)),VI (IntKind.wrap .i64 (x5+1))] [.vec 1 (k0.set x5.toNat ((k0.getD x5.toNat []).set 0 (VI x1)))]) (.done 1 [VI x1] [.vec 1 k0])
abbrev HJ:=cq Tryz.prog 19 My Fu
theorem Ll(x1:Int)(x5:Int)(k0:List (List AV))(h:jk 19 (Ei x1 x5 k0) HJ U):HJ [VI x1,VI x5] [.vec 1 k0] U :=
 gQ Nl h
def FB:LI:={hd:={bu:=[(0,.k .sl),(1,.k (.int .i64)),(5,.k (.int .i64))]},xs:={bu:=[(1,.k (.int .i64))]},rt:={bu:=[(4,.k (.int .i64))]},ex:=0}
def Lm:Code:=cu (cn Tryz.f17) 2
def J8:List (Nat×LI):=[(2,FB)]
def Mw(a0:AV)(a1:Int):Tree :=
 .loop Lm FB [a0,VI a1,VI 0] [] (fun y1 q1=>NI (y1.hA)<|.done 0 [VI ((y1.hA).toInt)] []) (fun y1 q1=>NI (y1.hA)<|.done 0 [VI ((y1.hA).toInt)] [])
theorem Ok(a0:AV)(a1:Int)(ha0:LK.has .sl a0)(h:dr 21 (Mw a0 a1) R):an Tryz.prog 17 [a0,VI a1] [] R :=
 uQ (af (bZ ha0) (af (aw _) aA)) (oQ J8 Tryz.f17 h)
def Gr(x0:AV)(x1:Int)(x5:Int):Tree :=
 NL x0<|NI (VI x1)<|NI (VI x5)<|NL x0<|.test (decide (x5<(x0.aQ.length:Int))) (NG x0 x5 1<|.al (LK.has (.int .i64) ((x0.ix x5).hA)/\1<=(x0.ix x5).length)<|.test ((((x0.ix x5).hA).toInt) != x1) (.done 2 [VI (-1)] []) (.done 0 [x0,VI (IntKind.wrap .i64 (x1+1)),VI (IntKind.wrap .i64 (x5+1))] [])) (.done 1 [VI x1] [])
abbrev GX:=cq Tryz.prog 21 Lm FB
theorem JF(x0:AV)(x1:Int)(x5:Int)(h:jk 21 (Gr x0 x1 x5) GX U):GX [x0,VI x1,VI x5] [] U :=
 gQ J8 h
def Hu:LI:={hd:={bu:=[(0,.k .sl),(1,.k (.int .i64)),(5,.k (.int .i64))]},xs:={bu:=[(1,.k (.int .i64))]},rt:={bu:=[(4,.k (.int .i64))]},ex:=0}
def Km:Code:=cu (cn Tryz.f40) 5
def Kz:List (Nat×LI):=[(5,Hu)]
def K3(a0:AV)(a1:Int):Tree :=
 NL a0<|.test (decide ((IntKind.wrap .i64 (a1-(a0.aQ.length:Int)))<(0:Int))) (.done 0 [VI (-1)] []) (.loop Km Hu [a0,VI (IntKind.wrap .i64 (a1-(a0.aQ.length:Int))),VI 0] [] (fun y1 q1=>NI (y1.hA)<|.done 0 [VI ((y1.hA).toInt)] []) (fun y1 q1=>NI (y1.hA)<|.done 0 [VI ((y1.hA).toInt)] []))
theorem RA(a0:AV)(a1:Int)(ha0:LK.has .sl a0)(h:dr 28 (K3 a0 a1) R):an Tryz.prog 40 [a0,VI a1] [] R :=
 uQ (af (bZ ha0) (af (aw _) aA)) (oQ Kz Tryz.f40 h)
def EL(x0:AV)(x1:Int)(x5:Int):Tree :=
 NL x0<|NI (VI x1)<|NI (VI x5)<|NL x0<|.test (decide (x5<(x0.aQ.length:Int))) (NG x0 x5 1<|lI (x0.ix x5)<|.test (decide ((IntKind.wrap .i64 (x1-(ag (((x0.ix x5).hA).ai):Int)))<(0:Int))) (.done 2 [VI (-1)] []) (.done 0 [x0,VI (IntKind.wrap .i64 (x1-(ag (((x0.ix x5).hA).ai):Int))),VI (IntKind.wrap .i64 (x5+1))] [])) (.done 1 [VI x1] [])
abbrev Fj:=cq Tryz.prog 28 Km Hu
theorem Ku(x0:AV)(x1:Int)(x5:Int)(h:jk 28 (EL x0 x1 x5) Fj U):Fj [x0,VI x1,VI x5] [] U :=
 gQ Kz h
def LM(a0_0:ByteArray)(a0_1:AV)(a0_2:ByteArray):Tree :=
 .call 72 [.agg [VS a0_0,a0_1,VS a0_2]] [] fun r1 o1=>NB r1<|.test (!r1.toBool) (.done 0 [VB false] []) (.call 70 [.agg [VS a0_0,a0_1,VS a0_2]] [] fun r2 o2=>NT r2<|.al ((r2.comp 0)=.agg (r2.comp 0).cs/\(r2.comp 0).cs.length=3/\bC [.str,.sl,.str] ((r2.comp 0).cs) 0)<|NB (r2.comp 1)<|.done 0 [VB ((r2.comp 1).toBool)] [])
theorem Pr(a0_0:ByteArray)(a0_1:AV)(a0_2:ByteArray)(ha0_1:LK.has .sl a0_1)(h:dr 14 (LM a0_0 a0_1 a0_2) R):an Tryz.prog 41 [.agg [VS a0_0,a0_1,VS a0_2]] [] R :=
 uQ (af (bX (af (aw _) (af (bZ ha0_1) (af (aw _) aA)))) aA) (oQ [] Tryz.f41 h)
def EW:LI:={hd:={bu:=[(5,.k .sl),(7,.k (.int .i64))],refs:=[(1,1)],co:=[(1,[.lk .str,.lk .sl,.lk .str])]},xs:={},rt:={bu:=[(2,.k (.int .i64))]},ex:=0}
def JA:Code:=cu (cn Tryz.f42) 4
def Ma:List (Nat×LI):=[(4,EW)]
def KZ(a0_0:ByteArray)(a0_1:AV)(a0_2:ByteArray):Tree :=
 .call 43 [.agg [VS a0_0,a0_1,VS a0_2]] [] fun r1 o1=>NT r1<|.al ((r1.comp 0)=.agg (r1.comp 0).cs/\(r1.comp 0).cs.length=3/\bC [.str,.sl,.str] ((r1.comp 0).cs) 0)<|NB (r1.comp 1)<|.call 69 [VS a0_0,VS (((r1.comp 0).cs.getD 2 .any).ai)] [] fun r2 o2=>NT r2<|NL (r2.comp 0)<|NB (r2.comp 1)<|.loop JA EW [(r2.comp 0),VI 0] [.cells [VS a0_0,a0_1,VS a0_2]] (fun y3 q3=>.done 0 [VI (-1)] []) (fun y3 q3=>NI (y3.hA)<|.done 0 [VI ((y3.hA).toInt)] [])
theorem PS(a0_0:ByteArray)(a0_1:AV)(a0_2:ByteArray)(ha0_1:LK.has .sl a0_1)(h:dr 42 (KZ a0_0 a0_1 a0_2) R):an Tryz.prog 42 [.agg [VS a0_0,a0_1,VS a0_2]] [] R :=
 uQ (af (bX (af (aw _) (af (bZ ha0_1) (af (aw _) aA)))) aA) (oQ Ma Tryz.f42 h)
def FK(x5:AV)(x7:Int)(o1_0:ByteArray)(o1_1:AV)(o1_2:ByteArray):Tree :=
 NL x5<|NI (VI x7)<|.al (Ob.cells [VS o1_0,o1_1,VS o1_2]=.cells [VS o1_0,o1_1,VS o1_2])<|.al (ac [.lk .str,.lk .sl,.lk .str] [VS o1_0,o1_1,VS o1_2] 0 [])<|NL x5<|.test (decide (x7<(x5.aQ.length:Int))) (NG x5 x7 2<|lI (x5.ix x7)<|NL o1_1<|.al (LK.has .sl o1_1/\0<=(IntKind.wrap .i64 ((o1_1.aQ.length:Int)-1))/\(IntKind.wrap .i64 ((o1_1.aQ.length:Int)-1))<o1_1.aQ.length/\(o1_1.ix (IntKind.wrap .i64 ((o1_1.aQ.length:Int)-1))).length=1)<|lI (o1_1.ix (IntKind.wrap .i64 ((o1_1.aQ.length:Int)-1)))<|.test (ae (((x5.ix x7).hA).ai)==ae (((o1_1.ix (IntKind.wrap .i64 ((o1_1.aQ.length:Int)-1))).hA).ai)) (.done 2 [VI x7] []) (.done 0 [x5,VI (IntKind.wrap .i64 (x7+1))] [.cells [VS o1_0,o1_1,VS o1_2]])) (.done 1 [] [])
abbrev F8:=cq Tryz.prog 42 JA EW
theorem Jv(x5:AV)(x7:Int)(o1_0:ByteArray)(o1_1:AV)(o1_2:ByteArray)(h:jk 42 (FK x5 x7 o1_0 o1_1 o1_2) F8 U):F8 [x5,VI x7] [.cells [VS o1_0,o1_1,VS o1_2]] U :=
 gQ Ma h
def Lg(a0_0:ByteArray)(a0_1:AV)(a0_2:ByteArray):Tree :=
 NL a0_1<|.test ((a0_1.aQ.length:Int)==(0:Int)) (.done 0 [.cN [.agg [VS a0_0,a0_1,VS a0_2],VB false]] []) (.al (LK.has .sl a0_1/\0<=(IntKind.wrap .i64 ((a0_1.aQ.length:Int)-1))/\(IntKind.wrap .i64 ((a0_1.aQ.length:Int)-1))<a0_1.aQ.length/\(a0_1.ix (IntKind.wrap .i64 ((a0_1.aQ.length:Int)-1))).length=1)<|lI (a0_1.ix (IntKind.wrap .i64 ((a0_1.aQ.length:Int)-1)))<|.call 73 [VS a0_0,VS (((a0_1.ix (IntKind.wrap .i64 ((a0_1.aQ.length:Int)-1))).hA).ai),VS a0_2] [] fun r1 o1=>NT r1<|NS (r1.comp 0)<|NB (r1.comp 1)<|.al (LK.has .sl a0_1/\0<=(0:Int)/\(0:Int)<=(IntKind.wrap .i64 ((a0_1.aQ.length:Int)-1))/\(IntKind.wrap .i64 ((a0_1.aQ.length:Int)-1))<=(a0_1.aQ.length:Int))<|.al (cD 1 ((a0_1.aQ.take (bE (IntKind.wrap .i64 ((a0_1.aQ.length:Int)-1)))).drop (bE 0))/\((([]:List (List AV)).length)+((a0_1.aQ.take (bE (IntKind.wrap .i64 ((a0_1.aQ.length:Int)-1)))).drop (bE 0)).length)*16<=140737488355328)<|.done 0 [.cN [.agg [VS a0_0,.sl (([]:List (List AV))++((a0_1.aQ.take (bE (IntKind.wrap .i64 ((a0_1.aQ.length:Int)-1)))).drop (bE 0))),VS ((r1.comp 0).ai)],VB ((r1.comp 1).toBool)]] [])
theorem QE(a0_0:ByteArray)(a0_1:AV)(a0_2:ByteArray)(ha0_1:LK.has .sl a0_1)(h:dr 39 (Lg a0_0 a0_1 a0_2) R):an Tryz.prog 43 [.agg [VS a0_0,a0_1,VS a0_2]] [] R :=
 uQ (af (bX (af (aw _) (af (bZ ha0_1) (af (aw _) aA)))) aA) (oQ [] Tryz.f43 h)
def Gm:LI:={hd:={bu:=[(0,.k .sl),(4,.k (.int .i64))],eB:=[(3,1)]},xs:={eB:=[(3,1)]},rt:={},ex:=0}
def H4:Code:=cu (cn Tryz.f44) 3
def Je:List (Nat×LI):=[(3,Gm)]
def Kr(a0:AV):Tree :=
 NL a0<|.al (0<=(a0.aQ.length:Int)/\(a0.aQ.length:Int)*16<=140737488355328)<|.loop H4 Gm [a0,VI 0] [.vec 1 (List.replicate (bE (a0.aQ.length:Int)) [VS (mk [])])] (fun y1 q1=>.al (((q1.drop 0).hO)=.vec 1 ((q1.drop 0).hO).es)<|.done 0 [.vec 0] [.vec 1 ((q1.hO).es)]) (fun y1 q1=>.fail)
theorem Qm(a0:AV)(ha0:LK.has .sl a0)(h:dr 22 (Kr a0) R):an Tryz.prog 44 [a0] [] R :=
 uQ (af (bZ ha0) aA) (oF Je {mu:=[],own:=[0]} Tryz.f44 h)
def EB(x0:AV)(x4:Int)(e3:List (List AV)):Tree :=
 NL x0<|NI (VI x4)<|.al (Ob.vec 1 e3=.vec 1 e3)<|NL x0<|.test (decide (x4<(x0.aQ.length:Int))) (NG x0 x4 1<|lI (x0.ix x4)<|.al (0<=x4/\x4<e3.length)<|.al (x4.toNat<e3.length/\0+1<=1)<|.done 0 [x0,VI (IntKind.wrap .i64 (x4+1))] [.vec 1 (e3.set x4.toNat ((e3.getD x4.toNat []).set 0 (VS (((x0.ix x4).hA).ai))))]) (.done 1 [] [.vec 1 e3])
abbrev GC:=cq Tryz.prog 22 H4 Gm
theorem MD(x0:AV)(x4:Int)(e3:List (List AV))(h:jk 22 (EB x0 x4 e3) GC U):GC [x0,VI x4] [.vec 1 e3] U :=
 gQ Je h
def EG:LI:={hd:={bu:=[(3,.k .ptr),(4,.k .ptr)]},xs:={bu:=[(3,.k .ptr)]},rt:={bu:=[(2,.k .ptr)]},ex:=0}
def Jy:Code:=cu (cn Tryz.f45) 5
def LA:List (Nat×LI):=[(5,EG)]
def Mg(a0_0:ByteArray)(a0_1:AV)(a0_2:ByteArray):Tree :=
 .call 63 [.agg [VS a0_0,a0_1,VS a0_2]] [] fun r1 o1=>NP r1<|NP r1<|.test r1.isNil (.done 0 [.v (.pointer none)] []) (.loop Jy EG [r1,r1] [] (fun y3 q3=>NP (y3.hA)<|.done 0 [(y3.hA)] []) (fun y3 q3=>NP (y3.hA)<|.done 0 [(y3.hA)] []))
theorem PO(a0_0:ByteArray)(a0_1:AV)(a0_2:ByteArray)(ha0_1:LK.has .sl a0_1)(h:dr 21 (Mg a0_0 a0_1 a0_2) R):an Tryz.prog 45 [.agg [VS a0_0,a0_1,VS a0_2]] [] R :=
 uQ (af (bX (af (aw _) (af (bZ ha0_1) (af (aw _) aA)))) aA) (oQ LA Tryz.f45 h)
def Fx(x3:AV)(x4:AV):Tree :=
 NP x3<|NP x4<|NZ x4<|NZ x4<|ou (x4.deref.drop 2)<|NL ((x4.deref.drop 2).hA)<|.test (decide (((((x4.deref.drop 2).hA).aQ).length:Int)>(0:Int))) (.call 46 [x4] [] fun r1 o1=>NP r1<|NP r1<|.test r1.isNil (.done 2 [.v (.pointer none)] []) (.done 0 [x3,r1] [])) (.done 1 [x3] [])
abbrev D3:=cq Tryz.prog 21 Jy EG
theorem MI(x3:AV)(x4:AV)(h:jk 21 (Fx x3 x4) D3 U):D3 [x3,x4] [] U :=
 gQ LA h
def LB(a0:AV):Tree :=
 NP a0<|.test a0.isNil (.done 0 [.v (.pointer none)] []) (NZ a0<|NZ a0<|ou (a0.deref.drop 2)<|NL ((a0.deref.drop 2).hA)<|.test (((((a0.deref.drop 2).hA).aQ).length:Int)==(0:Int)) (.done 0 [.v (.pointer none)] []) (NZ a0<|NZ a0<|ou (a0.deref.drop 2)<|NL ((a0.deref.drop 2).hA)<|NZ a0<|NZ a0<|ef (a0.deref.drop 1)<|NZ a0<|NZ a0<|ou (a0.deref.drop 2)<|.al (LK.has .sl ((a0.deref.drop 2).hA)/\0<=(IntKind.wrap .i64 (((((a0.deref.drop 2).hA).aQ).length:Int)-1))/\(IntKind.wrap .i64 (((((a0.deref.drop 2).hA).aQ).length:Int)-1))<((a0.deref.drop 2).hA).aQ.length/\(((a0.deref.drop 2).hA).ix (IntKind.wrap .i64 (((((a0.deref.drop 2).hA).aQ).length:Int)-1))).length=1)<|.al (LK.has .ptr ((((a0.deref.drop 2).hA).ix (IntKind.wrap .i64 (((((a0.deref.drop 2).hA).aQ).length:Int)-1))).hA)/\1<=(((a0.deref.drop 2).hA).ix (IntKind.wrap .i64 (((((a0.deref.drop 2).hA).aQ).length:Int)-1))).length)<|NZ a0<|NZ a0<|ef (a0.deref.drop 3)<|.call 74 [((a0.deref.drop 1).hA),((((a0.deref.drop 2).hA).ix (IntKind.wrap .i64 (((((a0.deref.drop 2).hA).aQ).length:Int)-1))).hA),((a0.deref.drop 3).hA)] [] fun r1 o1=>NP r1<|.call 75 [r1] [] fun r2 o2=>NI r2<|.test (decide (r2.toInt>(200:Int))) (.done 0 [.v (.pointer none)] []) (NZ a0<|NZ a0<|.al (LK.has .str (a0.deref.hA)/\1<=a0.deref.length)<|NZ a0<|NZ a0<|ef (a0.deref.drop 1)<|NZ a0<|NZ a0<|ou (a0.deref.drop 2)<|.al (LK.has .sl ((a0.deref.drop 2).hA)/\0<=(0:Int)/\(0:Int)<=(IntKind.wrap .i64 (((((a0.deref.drop 2).hA).aQ).length:Int)-1))/\(IntKind.wrap .i64 (((((a0.deref.drop 2).hA).aQ).length:Int)-1))<=((((a0.deref.drop 2).hA).aQ).length:Int))<|.done 0 [.ptr [VS ((a0.deref.hA).ai),((a0.deref.drop 1).hA),.sl (((((a0.deref.drop 2).hA).aQ).take (bE (IntKind.wrap .i64 (((((a0.deref.drop 2).hA).aQ).length:Int)-1)))).drop (bE 0)),r1]] [])))
theorem Rs(a0:AV)(ha0:LK.has .ptr a0)(h:dr 57 (LB a0) R):an Tryz.prog 46 [a0] [] R :=
 uQ (af (bq ha0) aA) (oQ [] Tryz.f46 h)
def No(a0:AV)(a1:AV):Tree :=
 NZ a0<|NZ a0<|ou (a0.deref.drop 2)<|NZ a0<|NZ a0<|ou (a0.deref.drop 2)<|NL ((a0.deref.drop 2).hA)<|.al (LK.has .sl ((a0.deref.drop 2).hA)/\0<=(IntKind.wrap .i64 (((((a0.deref.drop 2).hA).aQ).length:Int)-1))/\(IntKind.wrap .i64 (((((a0.deref.drop 2).hA).aQ).length:Int)-1))<((a0.deref.drop 2).hA).aQ.length/\(((a0.deref.drop 2).hA).ix (IntKind.wrap .i64 (((((a0.deref.drop 2).hA).aQ).length:Int)-1))).length=1)<|.al (LK.has .ptr ((((a0.deref.drop 2).hA).ix (IntKind.wrap .i64 (((((a0.deref.drop 2).hA).aQ).length:Int)-1))).hA)/\1<=(((a0.deref.drop 2).hA).ix (IntKind.wrap .i64 (((((a0.deref.drop 2).hA).aQ).length:Int)-1))).length)<|.call 66 [((((a0.deref.drop 2).hA).ix (IntKind.wrap .i64 (((((a0.deref.drop 2).hA).aQ).length:Int)-1))).hA)] [] fun r1 o1=>NS r1<|NZ a1<|NZ a1<|ef (a1.deref.drop 1)<|NZ a1<|NZ a1<|ef (a1.deref.drop 3)<|.call 68 [((a1.deref.drop 1).hA),((a1.deref.drop 3).hA)] [] fun r2 o2=>NL r2<|.call 76 [r2,.fn 77 [.ref 0 0]] [.cells [VS r1.ai]] fun r3 o3=>.al ((o3.hO)=.cells (o3.hO).cs)<|.al (bm [.lk .str] ((o3.hO).cs) 0 1 o3.tail)<|NI r3<|.done 0 [VI r3.toInt] []
theorem QN(a0:AV)(a1:AV)(ha0:LK.has .ptr a0)(ha1:LK.has .ptr a1)(h:dr 30 (No a0 a1) R):an Tryz.prog 47 [a0,a1] [] R :=
 uQ (af (bq ha0) (af (bq ha1) aA)) (oQ [] Tryz.f47 h)
def EN:LI:={hd:={bu:=[(2,.k (.int .i64)),(3,.k (.int .i64))],kv:=[(0,0,1)]},xs:={kv:=[(0,0,1)]},rt:={kv:=[(0,0,1)]},ex:=0,fx:=[0]}
def IE:Code:=cu (cn Tryz.f48) 1
def KY:List (Nat×LI):=[(1,EN)]
def Nk(e0:List (List AV)):Tree :=
 .loop IE EN [VI 0,VI (IntKind.wrap .i64 ((e0.length:Int)-1))] [.vec 1 e0] (fun y1 q1=>.al (((((q1.drop 0).drop 0).drop 0).hO)=.vec 1 ((((q1.drop 0).drop 0).drop 0).hO).es)<|.done 0 [.any] [.gm 1 ((((q1.drop 0).drop 0).hO).es)]) (fun y1 q1=>.al (((((q1.drop 0).drop 0).drop 0).hO)=.vec 1 ((((q1.drop 0).drop 0).drop 0).hO).es)<|.done 0 [.any] [.gm 1 ((((q1.drop 0).drop 0).hO).es)])
theorem Pb(e0:List (List AV))(h:dr 28 (Nk e0) R):an Tryz.prog 48 [.vec 0] [.vec 1 e0] R :=
 an.pQ (bK (eK _) cX) (an.up (af (aw _) aA) (oF KY {mu:=[(0,.one (.cC false [.vec 1]))],own:=[]} Tryz.f48 h))
def GF(x2:Int)(x3:Int)(k0:List (List AV)):Tree :=
 NI (VI x2)<|NI (VI x3)<|.al (Ob.vec 1 k0=.vec 1 k0)<|.test (decide (x2<x3)) (.al (0<=x3/\x3<k0.length)<|.al (x3.toNat<k0.length/\0<(k0.getD x3.toNat []).length/\LK.has (.int .i64) ((k0.getD x3.toNat []).getD 0 .any))<|.al (0<=x2/\x2<k0.length)<|.al (x2.toNat<k0.length/\0<(k0.getD x2.toNat []).length/\LK.has (.int .i64) ((k0.getD x2.toNat []).getD 0 .any))<|.al (0<=x2/\x2<k0.length)<|.al (x2.toNat<k0.length/\0+1<=1)<|.al (0<=x3/\x3<(k0.set x2.toNat ((k0.getD x2.toNat []).set 0 (VI (((k0.getD x3.toNat []).getD 0 .any).toInt)))).length)<|.al (x3.toNat<(k0.set x2.toNat ((k0.getD x2.toNat []).set 0 (VI (((k0.getD x3.toNat []).getD 0 .any).toInt)))).length/\0+1<=1)<|.done 0 [VI (IntKind.wrap .i64 (x2+1)),VI (IntKind.wrap .i64 (x3-1))] [.vec 1 ((k0.set x2.toNat ((k0.getD x2.toNat []).set 0 (VI (((k0.getD x3.toNat []).getD 0 .any).toInt)))).set x3.toNat (((k0.set x2.toNat ((k0.getD x2.toNat []).set 0 (VI (((k0.getD x3.toNat []).getD 0 .any).toInt)))).getD x3.toNat []).set 0 (VI (((k0.getD x2.toNat []).getD 0 .any).toInt))))]) (.done 1 [] [.vec 1 k0])
abbrev Ge:=cq Tryz.prog 28 IE EN
theorem Pe(x2:Int)(x3:Int)(k0:List (List AV))(h:jk 28 (GF x2 x3 k0) Ge U):Ge [VI x2,VI x3] [.vec 1 k0] U :=
 gQ KY h
def Ff:LI:={hd:={bu:=[(0,.k .sl),(1,.k .sl),(5,.k (.int .i64))]},xs:={},rt:={bu:=[(4,.k .bool)]},ex:=0}
def Mi:Code:=cu (cn Tryz.f49) 4
def L0:List (Nat×LI):=[(4,Ff)]
def L3(a0:AV)(a1:AV):Tree :=
 NL a0<|NL a1<|.test ((a0.aQ.length:Int) != (a1.aQ.length:Int)) (.done 0 [VB false] []) (.loop Mi Ff [a0,a1,VI 0] [] (fun y1 q1=>.done 0 [VB true] []) (fun y1 q1=>NB (y1.hA)<|.done 0 [VB ((y1.hA).toBool)] []))
theorem Om(a0:AV)(a1:AV)(ha0:LK.has .sl a0)(ha1:LK.has .sl a1)(h:dr 26 (L3 a0 a1) R):an Tryz.prog 49 [a0,a1] [] R :=
 uQ (af (bZ ha0) (af (bZ ha1) aA)) (oQ L0 Tryz.f49 h)
def Hh(x0:AV)(x1:AV)(x5:Int):Tree :=
 NL x0<|NL x1<|NI (VI x5)<|NL x0<|.test (decide (x5<(x0.aQ.length:Int))) (NG x0 x5 1<|lI (x0.ix x5)<|NG x1 x5 1<|lI (x1.ix x5)<|.test (!(ae (((x0.ix x5).hA).ai)==ae (((x1.ix x5).hA).ai))) (.done 2 [VB false] []) (.done 0 [x0,x1,VI (IntKind.wrap .i64 (x5+1))] [])) (.done 1 [] [])
abbrev GH:=cq Tryz.prog 26 Mi Ff
theorem Lb(x0:AV)(x1:AV)(x5:Int)(h:jk 26 (Hh x0 x1 x5) GH U):GH [x0,x1,VI x5] [] U :=
 gQ L0 h
def GW:LI:={hd:={bu:=[(1,.k (.int .i64)),(5,.k (.int .i64))],kv:=[(0,0,1)]},xs:={bu:=[(1,.k (.int .i64))],kv:=[(0,0,1)]},rt:={kv:=[(0,0,1)]},ex:=0,fx:=[0]}
def L5:Code:=cu (cn Tryz.f50) 2
def Ng:List (Nat×LI):=[(2,GW)]
def Nd(e0:List (List AV))(a1:Int):Tree :=
 .loop L5 GW [VI a1,VI 0] [.vec 1 e0] (fun y2 q2=>NI (y2.hA)<|.al (((((q2.drop 0).drop 0).drop 0).hO)=.vec 1 ((((q2.drop 0).drop 0).drop 0).hO).es)<|.done 0 [VI ((y2.hA).toInt)] [.gm 1 ((((q2.drop 0).drop 0).hO).es)]) (fun y2 q2=>.al (((((q2.drop 0).drop 0).drop 0).hO)=.vec 1 ((((q2.drop 0).drop 0).drop 0).hO).es)<|.done 0 [.any] [.gm 1 ((((q2.drop 0).drop 0).hO).es)])
theorem Px(e0:List (List AV))(a1:Int)(h:dr 20 (Nd e0 a1) R):an Tryz.prog 50 [.vec 0,VI a1] [.vec 1 e0] R :=
 an.pQ (bK (eK _) cX) (an.up (af (aw _) (af (aw _) aA)) (oF Ng {mu:=[(0,.one (.cC false [.vec 1]))],own:=[]} Tryz.f50 h))
def Fl(x1:Int)(x5:Int)(k0:List (List AV)):Tree :=
 NI (VI x1)<|NI (VI x5)<|.al (Ob.vec 1 k0=.vec 1 k0)<|.test (decide (x5<(k0.length:Int))) (.call 78 [VI x1] [] fun r1 o1=>NS r1<|.al (0<=x5/\x5<k0.length)<|.al (x5.toNat<k0.length/\0+1<=1)<|.done 0 [VI (IntKind.wrap .i64 (x1+1)),VI (IntKind.wrap .i64 (x5+1))] [.vec 1 (k0.set x5.toNat ((k0.getD x5.toNat []).set 0 (VS r1.ai)))]) (.done 1 [VI x1] [.vec 1 k0])
abbrev HD:=cq Tryz.prog 20 L5 GW
theorem Ls(x1:Int)(x5:Int)(k0:List (List AV))(h:jk 20 (Fl x1 x5 k0) HD U):HD [VI x1,VI x5] [.vec 1 k0] U :=
 gQ Ng h
def KL(a0:Int)(a1:Int)(a2:Int):Tree :=
 .test (decide (a0≥a1)) (.done 0 [VB (decide (a0<=a2))] []) (.done 0 [VB false] [])
theorem OK(a0:Int)(a1:Int)(a2:Int)(h:dr 15 (KL a0 a1 a2) R):an Tryz.prog 56 [VI a0,VI a1,VI a2] [] R :=
 uQ (af (aw _) (af (aw _) (af (aw _) aA))) (oQ [] Tryz.f56 h)
def Ez:LI:={hd:={bu:=[(5,.k .str),(45,.k .sl),(46,.k (.int .i64)),(47,.k (.int .i64))],refs:=[(7,43)],co:=[(43,[.lk .str,.lk .ptr,.vec 1,.lk .ptr])]},xs:={refs:=[(7,43)],co:=[(43,[.lk .str,.lk .ptr,.vec 1,.lk .ptr])]},rt:={bu:=[(2,.k .ptr)]},ex:=0}
def MA:Code:=cu (cn Tryz.f63) 7
def Mo:List (Nat×LI):=[(7,Ez)]
def NH(a0_0:ByteArray)(a0_1:AV)(a0_2:ByteArray):Tree :=
 .call 84 [VS a0_0,VS a0_2] [] fun r1 o1=>NT r1<|NP (r1.comp 0)<|NP (r1.comp 1)<|.call 85 [VS a0_0] [] fun r2 o2=>NT r2<|NS (r2.comp 0)<|NB (r2.comp 1)<|NP (r1.comp 1)<|.test ((r1.comp 1).isNil) (.done 0 [.v (.pointer none)] []) (.test (!((r2.comp 1).toBool)) (.done 0 [.v (.pointer none)] []) (NL a0_1<|.test (decide ((a0_1.aQ.length:Int)>(50:Int))) (.done 0 [.v (.pointer none)] []) (NL a0_1<|.loop MA Ez [VS ((r2.comp 0).ai),a0_1,VI (a0_1.aQ.length:Int),VI 0] [.cells [VS a0_0,(r1.comp 0),.any,(r1.comp 1)],.vec 1 []] (fun y5 q5=>.al ((q5.hO)=.cells (q5.hO).cs)<|.al (ac [.lk .str,.lk .ptr,.vec 1,.lk .ptr] ((q5.hO).cs) 0 q5.tail)<|.done 0 [.ptr [VS (((q5.hO).cs.getD 0 .any).ai),((q5.hO).cs.getD 1 .any),.sl ((q5.tail.hO).es),((q5.hO).cs.getD 3 .any)]] []) (fun y5 q5=>NP (y5.hA)<|.done 0 [(y5.hA)] []))))
theorem PE(a0_0:ByteArray)(a0_1:AV)(a0_2:ByteArray)(ha0_1:LK.has .sl a0_1)(h:dr 71 (NH a0_0 a0_1 a0_2) R):an Tryz.prog 63 [.agg [VS a0_0,a0_1,VS a0_2]] [] R :=
 uQ (af (bX (af (aw _) (af (bZ ha0_1) (af (aw _) aA)))) aA) (oQ Mo Tryz.f63 h)
def EX(x5:ByteArray)(x45:AV)(x46:Int)(x47:Int)(o43_0:ByteArray)(o43_1:AV)(o43_2:List (List AV))(o43_3:AV):Tree :=
 NS (VS x5)<|NL x45<|NI (VI x46)<|NI (VI x47)<|.al (Ob.cells [VS o43_0,o43_1,.any,o43_3]=.cells [VS o43_0,o43_1,.any,o43_3])<|.al (ac [.lk .str,.lk .ptr,.vec 1,.lk .ptr] [VS o43_0,o43_1,.any,o43_3] 0 [.vec 1 o43_2])<|.test (decide (x47<x46)) (NG x45 x47 1<|lI (x45.ix x47)<|.call 71 [VS x5,VS (((x45.ix x47).hA).ai),VI 100] [] fun r1 o1=>NT r1<|NP (r1.comp 0)<|NP (r1.comp 1)<|NP (r1.comp 1)<|.test ((r1.comp 1).isNil) (.done 2 [.v (.pointer none)] []) (.al (cD 1 [[(r1.comp 1)]]/\((o43_2.length)+([[(r1.comp 1)]]:List (List AV)).length)*8<=140737488355328)<|.done 0 [VS x5,x45,VI x46,VI (IntKind.wrap .i64 (x47+1))] [.cells [VS o43_0,o43_1,.any,o43_3],.vec 1 (o43_2++([[(r1.comp 1)]]:List (List AV)))])) (.done 1 [] [.cells [VS o43_0,o43_1,.any,o43_3],.vec 1 o43_2])
abbrev Ee:=cq Tryz.prog 71 MA Ez
theorem Is(x5:ByteArray)(x45:AV)(x46:Int)(x47:Int)(o43_0:ByteArray)(o43_1:AV)(o43_2:List (List AV))(o43_3:AV)(h:jk 71 (EX x5 x45 x46 x47 o43_0 o43_1 o43_2 o43_3) Ee U):Ee [VS x5,x45,VI x46,VI x47] [.cells [VS o43_0,o43_1,.any,o43_3],.vec 1 o43_2] U :=
 gQ Mo h
def wo(a0:AV):Tree :=
 NZ a0<|NZ a0<|.al (LK.has (.int .u8) (a0.deref.hA)/\1<=a0.deref.length)<|.test (((a0.deref.hA).toInt)==(117:Int)) (.done 0 [VS (mk [117])] []) (.test (((a0.deref.hA).toInt)==(101:Int)) (NZ a0<|NZ a0<|lI (a0.deref.drop 1)<|.done 0 [VS (((a0.deref.drop 1).hA).ai)] []) (.test (((a0.deref.hA).toInt)==(112:Int)) (NZ a0<|NZ a0<|ef (a0.deref.drop 2)<|.call 66 [((a0.deref.drop 2).hA)] [] fun r1 o1=>NS r1<|.al (ag (mk [40,112,32])+ag r1.ai<=9223372036854775807)<|.al (ag (((mk [40,112,32]):ByteArray)++r1.ai)+ag (mk [32])<=9223372036854775807)<|NZ a0<|NZ a0<|ef (a0.deref.drop 3)<|.call 66 [((a0.deref.drop 3).hA)] [] fun r2 o2=>NS r2<|.al (ag (((((mk [40,112,32]):ByteArray)++r1.ai):ByteArray)++(mk [32]))+ag r2.ai<=9223372036854775807)<|.al (ag (((((((mk [40,112,32]):ByteArray)++r1.ai):ByteArray)++(mk [32])):ByteArray)++r2.ai)+ag (mk [41])<=9223372036854775807)<|.done 0 [VS (((((((((mk [40,112,32]):ByteArray)++r1.ai):ByteArray)++(mk [32])):ByteArray)++r2.ai):ByteArray)++(mk [41]))] []) (NZ a0<|NZ a0<|.al (LK.has (.int .u8) (a0.deref.hA)/\1<=a0.deref.length)<|.al (i6 [[.v (.int .u8 ((a0.deref.hA).toInt))]])<|.al (ag (mk [40])+ag (⟨(bytesOf [[.v (.int .u8 ((a0.deref.hA).toInt))]]).toArray⟩)<=9223372036854775807)<|.al (ag (((mk [40]):ByteArray)++(⟨(bytesOf [[.v (.int .u8 ((a0.deref.hA).toInt))]]).toArray⟩))+ag (mk [32])<=9223372036854775807)<|NZ a0<|NZ a0<|ef (a0.deref.drop 2)<|.call 66 [((a0.deref.drop 2).hA)] [] fun r3 o3=>NS r3<|.al (ag (((((mk [40]):ByteArray)++(⟨(bytesOf [[.v (.int .u8 ((a0.deref.hA).toInt))]]).toArray⟩)):ByteArray)++(mk [32]))+ag r3.ai<=9223372036854775807)<|.al (ag (((((((mk [40]):ByteArray)++(⟨(bytesOf [[.v (.int .u8 ((a0.deref.hA).toInt))]]).toArray⟩)):ByteArray)++(mk [32])):ByteArray)++r3.ai)+ag (mk [41])<=9223372036854775807)<|.done 0 [VS (((((((((mk [40]):ByteArray)++(⟨(bytesOf [[.v (.int .u8 ((a0.deref.hA).toInt))]]).toArray⟩)):ByteArray)++(mk [32])):ByteArray)++r3.ai):ByteArray)++(mk [41]))] [])))
theorem yL(a0:AV)(ha0:LK.has .ptr a0)(h:dr 46 (wo a0) R):an Tryz.prog 66 [a0] [] R :=
 uQ (af (bq ha0) aA) (oQ [] Tryz.f66 h)
def Le(a0:AV)(a1:AV):Tree :=
 .call 86 [.agg [a0,.v (.pointer none)]] [] fun r1 o1=>NT r1<|.al ((r1.comp 0)=.agg (r1.comp 0).cs/\(r1.comp 0).cs.length=2/\bC [.ptr,.ptr] ((r1.comp 0).cs) 0)<|NP (r1.comp 1)<|NZ a1<|NZ a1<|ef (a1.deref.drop 2)<|.call 87 [.agg [((r1.comp 0).cs.getD 0 .any),((r1.comp 0).cs.getD 1 .any)],((a1.deref.drop 2).hA),.agg [VS (mk []),(r1.comp 1)]] [] fun r2 o2=>NL r2<|.done 0 [r2] []
theorem Pa(a0:AV)(a1:AV)(ha0:LK.has .ptr a0)(ha1:LK.has .ptr a1)(h:dr 21 (Le a0 a1) R):an Tryz.prog 68 [a0,a1] [] R :=
 uQ (af (bq ha0) (af (bq ha1) aA)) (oQ [] Tryz.f68 h)
def M8(a0:ByteArray)(a1:ByteArray):Tree :=
 .call 88 [VS a0] [] fun r1 o1=>NT r1<|.al ((r1.comp 0)=.agg (r1.comp 0).cs/\(r1.comp 0).cs.length=2/\bC [.str,.sl] ((r1.comp 0).cs) 0)<|NB (r1.comp 1)<|.call 89 [VS a1] [] fun r2 o2=>NT r2<|.al ((r2.comp 0)=.agg (r2.comp 0).cs/\(r2.comp 0).cs.length=2/\bC [.str,.sl] ((r2.comp 0).cs) 0)<|NB (r2.comp 1)<|.test (!((r1.comp 1).toBool)) (.done 0 [.cN [.sl [],VB false]] []) (.call 90 [VS a0,VS a1,VI 100] [] fun r3 o3=>NB r3<|.test (!r3.toBool) (.done 0 [.cN [.sl [],VB false]] []) (NG ((r1.comp 0).cs.getD 1 .any) 2 2<|NE (((r1.comp 0).cs.getD 1 .any).ix (2:Int))<|NG ((r1.comp 0).cs.getD 1 .any) 1 2<|lI (((r1.comp 0).cs.getD 1 .any).ix (1:Int))<|NG ((r2.comp 0).cs.getD 1 .any) 1 2<|NE (((r2.comp 0).cs.getD 1 .any).ix (1:Int))<|.call 92 [.agg [VS (((((r1.comp 0).cs.getD 1 .any).ix (2:Int)).getD 0 .any).ai),((((r1.comp 0).cs.getD 1 .any).ix (2:Int)).getD 1 .any)],VS (((((r1.comp 0).cs.getD 1 .any).ix (1:Int)).hA).ai),.agg [VS (((((r2.comp 0).cs.getD 1 .any).ix (1:Int)).getD 0 .any).ai),((((r2.comp 0).cs.getD 1 .any).ix (1:Int)).getD 1 .any)]] [] fun r4 o4=>NL r4<|.call 91 [r4] [] fun r5 o5=>NL r5<|.done 0 [.cN [r5,VB true]] []))
theorem O3(a0:ByteArray)(a1:ByteArray)(h:dr 44 (M8 a0 a1) R):an Tryz.prog 69 [VS a0,VS a1] [] R :=
 uQ (af (aw _) (af (aw _) aA)) (oQ [] Tryz.f69 h)
def D9:LI:={hd:={refs:=[(1,1),(2,2)],co:=[(1,[.lk .str,.lk .sl,.lk .str]),(2,[.lk .str,.lk .sl,.lk .str])]},xs:={refs:=[(1,1),(2,2)],co:=[(1,[.lk .str,.lk .sl,.lk .str]),(2,[.lk .str,.lk .sl,.lk .str])]},rt:={bu:=[(3,.k .bool)],refs:=[(2,2)],co:=[(2,[.lk .str,.lk .sl,.lk .str])]},ex:=0}
def NV:Code:=cu (cn Tryz.f70) 1
def Nz:List (Nat×LI):=[(1,D9)]
def Ln(a0_0:ByteArray)(a0_1:AV)(a0_2:ByteArray):Tree :=
 .loop NV D9 [] [.cells [VS a0_0,a0_1,VS a0_2],.cells [VS (mk []),.v (.slice none 0 0),VS (mk [])]] (fun y2 q2=>.al ((q2.hO)=.cells (q2.hO).cs)<|.al (ac [.lk .str,.lk .sl,.lk .str] ((q2.hO).cs) 0 q2.tail)<|.al (((q2.tail.drop 0).hO)=.cells ((q2.tail.drop 0).hO).cs)<|.al (ac [.lk .str,.lk .sl,.lk .str] (((q2.tail.drop 0).hO).cs) 0 ((q2.tail.drop 0).tail))<|.done 0 [.cN [.agg [VS (((q2.hO).cs.getD 0 .any).ai),((q2.hO).cs.getD 1 .any),VS (((q2.hO).cs.getD 2 .any).ai)],VB true]] []) (fun y2 q2=>NB (y2.hA)<|.al ((q2.hO)=.cells (q2.hO).cs)<|.al (ac [.lk .str,.lk .sl,.lk .str] ((q2.hO).cs) 0 q2.tail)<|.done 0 [.cN [.agg [VS (((q2.hO).cs.getD 0 .any).ai),((q2.hO).cs.getD 1 .any),VS (((q2.hO).cs.getD 2 .any).ai)],VB ((y2.hA).toBool)]] [])
theorem Qk(a0_0:ByteArray)(a0_1:AV)(a0_2:ByteArray)(ha0_1:LK.has .sl a0_1)(h:dr 20 (Ln a0_0 a0_1 a0_2) R):an Tryz.prog 70 [.agg [VS a0_0,a0_1,VS a0_2]] [] R :=
 uQ (af (bX (af (aw _) (af (bZ ha0_1) (af (aw _) aA)))) aA) (oQ Nz Tryz.f70 h)
def HI(o1_0:ByteArray)(o1_1:AV)(o1_2:ByteArray)(o2_0:ByteArray)(o2_1:AV)(o2_2:ByteArray):Tree :=
 .al (Ob.cells [VS o1_0,o1_1,VS o1_2]=.cells [VS o1_0,o1_1,VS o1_2])<|.al (ac [.lk .str,.lk .sl,.lk .str] [VS o1_0,o1_1,VS o1_2] 0 [.cells [VS o2_0,o2_1,VS o2_2]])<|.al (Ob.cells [VS o2_0,o2_1,VS o2_2]=.cells [VS o2_0,o2_1,VS o2_2])<|.al (ac [.lk .str,.lk .sl,.lk .str] [VS o2_0,o2_1,VS o2_2] 0 [])<|NL o1_1<|.test (decide ((o1_1.aQ.length:Int)>(0:Int))) (.call 43 [.agg [VS o1_0,o1_1,VS o1_2]] [] fun r1 o1=>NT r1<|.al ((r1.comp 0)=.agg (r1.comp 0).cs/\(r1.comp 0).cs.length=3/\bC [.str,.sl,.str] ((r1.comp 0).cs) 0)<|NB (r1.comp 1)<|.test (!((r1.comp 1).toBool)) (.done 2 [VB false] [.cells [VS o1_0,o1_1,VS o1_2]]) (.done 0 [] [.cells [VS (((r1.comp 0).cs.getD 0 .any).ai),((r1.comp 0).cs.getD 1 .any),VS (((r1.comp 0).cs.getD 2 .any).ai)],.cells [VS o2_0,o2_1,VS o2_2]])) (.done 1 [] [.cells [VS o1_0,o1_1,VS o1_2],.cells [VS o2_0,o2_1,VS o2_2]])
abbrev FV:=cq Tryz.prog 20 NV D9
theorem KS(o1_0:ByteArray)(o1_1:AV)(o1_2:ByteArray)(o2_0:ByteArray)(o2_1:AV)(o2_2:ByteArray)(h:jk 20 (HI o1_0 o1_1 o1_2 o2_0 o2_1 o2_2) FV U):FV [] [.cells [VS o1_0,o1_1,VS o1_2],.cells [VS o2_0,o2_1,VS o2_2]] U :=
 gQ Nz h
def MW(a0:ByteArray)(a1:ByteArray)(a2:Int):Tree :=
 .call 93 [VS a0] [] fun r1 o1=>NP r1<|.call 94 [VS a1] [] fun r2 o2=>NP r2<|NP r1<|.test r1.isNil (.done 0 [.cN [r1,.v (.pointer none)]] []) (NP r2<|.test r2.isNil (.done 0 [.cN [r1,.v (.pointer none)]] []) (.test (decide (a2<(0:Int))) (.done 0 [.cN [r1,.v (.pointer none)]] []) (.test (decide (a2>(100:Int))) (.done 0 [.cN [r1,.v (.pointer none)]] []) (.call 95 [.agg [r1,.v (.pointer none)],r2,VI a2] [] fun r3 o3=>NB r3<|.test (!r3.toBool) (.done 0 [.cN [r1,.v (.pointer none)]] []) (.done 0 [.cN [r1,r2]] [])))))
theorem Rr(a0:ByteArray)(a1:ByteArray)(a2:Int)(h:dr 39 (MW a0 a1 a2) R):an Tryz.prog 71 [VS a0,VS a1,VI a2] [] R :=
 uQ (af (aw _) (af (aw _) (af (aw _) aA))) (oQ [] Tryz.f71 h)
def Gi:LI:={hd:={bu:=[(3,.k .str),(7,.k (.int .i64))],refs:=[(1,1)],co:=[(1,[.lk .str,.lk .sl,.lk .str])]},xs:={},rt:={bu:=[(2,.k .bool)]},ex:=0}
def Jh:Code:=cu (cn Tryz.f72) 6
def MM:List (Nat×LI):=[(6,Gi)]
def NF(a0_0:ByteArray)(a0_1:AV)(a0_2:ByteArray):Tree :=
 .call 96 [VS a0_0] [] fun r1 o1=>NT r1<|NS (r1.comp 0)<|NB (r1.comp 1)<|.call 88 [VS a0_0] [] fun r2 o2=>NT r2<|.al ((r2.comp 0)=.agg (r2.comp 0).cs/\(r2.comp 0).cs.length=2/\bC [.str,.sl] ((r2.comp 0).cs) 0)<|NB (r2.comp 1)<|.test (!((r1.comp 1).toBool)) (.done 0 [VB false] []) (.test (!((r2.comp 1).toBool)) (.done 0 [VB false] []) (NL a0_1<|.test (decide ((a0_1.aQ.length:Int)>(50:Int))) (.done 0 [VB false] []) (.call 90 [VS a0_0,VS a0_2,VI 100] [] fun r3 o3=>NB r3<|.test (!r3.toBool) (.done 0 [VB false] []) (.loop Jh Gi [VS ((r1.comp 0).ai),VI 0] [.cells [VS a0_0,a0_1,VS a0_2]] (fun y5 q5=>.done 0 [VB true] []) (fun y5 q5=>NB (y5.hA)<|.done 0 [VB ((y5.hA).toBool)] [])))))
theorem O6(a0_0:ByteArray)(a0_1:AV)(a0_2:ByteArray)(ha0_1:LK.has .sl a0_1)(h:dr 55 (NF a0_0 a0_1 a0_2) R):an Tryz.prog 72 [.agg [VS a0_0,a0_1,VS a0_2]] [] R :=
 uQ (af (bX (af (aw _) (af (bZ ha0_1) (af (aw _) aA)))) aA) (oQ MM Tryz.f72 h)
def Gf(x3:ByteArray)(x7:Int)(o1_0:ByteArray)(o1_1:AV)(o1_2:ByteArray):Tree :=
 NS (VS x3)<|NI (VI x7)<|.al (Ob.cells [VS o1_0,o1_1,VS o1_2]=.cells [VS o1_0,o1_1,VS o1_2])<|.al (ac [.lk .str,.lk .sl,.lk .str] [VS o1_0,o1_1,VS o1_2] 0 [])<|NL o1_1<|.test (decide (x7<(o1_1.aQ.length:Int))) (NG o1_1 x7 1<|lI (o1_1.ix x7)<|.call 90 [VS x3,VS (((o1_1.ix x7).hA).ai),VI 100] [] fun r1 o1=>NB r1<|.test (!r1.toBool) (.done 2 [VB false] []) (.done 0 [VS x3,VI (IntKind.wrap .i64 (x7+1))] [.cells [VS o1_0,o1_1,VS o1_2]])) (.done 1 [] [])
abbrev Eo:=cq Tryz.prog 55 Jh Gi
theorem KN(x3:ByteArray)(x7:Int)(o1_0:ByteArray)(o1_1:AV)(o1_2:ByteArray)(h:jk 55 (Gf x3 x7 o1_0 o1_1 o1_2) Eo U):Eo [VS x3,VI x7] [.cells [VS o1_0,o1_1,VS o1_2]] U :=
 gQ MM h
def IA(a0:ByteArray)(a1:ByteArray)(a2:ByteArray):Tree :=
 .call 88 [VS a0] [] fun r1 o1=>NT r1<|.al ((r1.comp 0)=.agg (r1.comp 0).cs/\(r1.comp 0).cs.length=2/\bC [.str,.sl] ((r1.comp 0).cs) 0)<|NB (r1.comp 1)<|.call 96 [VS a0] [] fun r2 o2=>NT r2<|NS (r2.comp 0)<|NB (r2.comp 1)<|.test (!((r1.comp 1).toBool)) (.done 0 [.cN [VS (mk []),VB false]] []) (.test (!((r2.comp 1).toBool)) (.done 0 [.cN [VS (mk []),VB false]] []) (.call 90 [VS ((r2.comp 0).ai),VS a1,VI 100] [] fun r3 o3=>NB r3<|.test (!r3.toBool) (.done 0 [.cN [VS (mk []),VB false]] []) (.call 90 [VS a0,VS a2,VI 100] [] fun r4 o4=>NB r4<|.test (!r4.toBool) (.done 0 [.cN [VS (mk []),VB false]] []) (.call 89 [VS a1] [] fun r5 o5=>NT r5<|.al ((r5.comp 0)=.agg (r5.comp 0).cs/\(r5.comp 0).cs.length=2/\bC [.str,.sl] ((r5.comp 0).cs) 0)<|NB (r5.comp 1)<|.call 89 [VS a2] [] fun r6 o6=>NT r6<|.al ((r6.comp 0)=.agg (r6.comp 0).cs/\(r6.comp 0).cs.length=2/\bC [.str,.sl] ((r6.comp 0).cs) 0)<|NB (r6.comp 1)<|NG ((r1.comp 0).cs.getD 1 .any) 2 2<|NE (((r1.comp 0).cs.getD 1 .any).ix (2:Int))<|NG ((r1.comp 0).cs.getD 1 .any) 1 2<|lI (((r1.comp 0).cs.getD 1 .any).ix (1:Int))<|.call 99 [.agg [VS (((((r1.comp 0).cs.getD 1 .any).ix (2:Int)).getD 0 .any).ai),((((r1.comp 0).cs.getD 1 .any).ix (2:Int)).getD 1 .any)],VS (((((r1.comp 0).cs.getD 1 .any).ix (1:Int)).hA).ai),.agg [VS (((r5.comp 0).cs.getD 0 .any).ai),((r5.comp 0).cs.getD 1 .any)],.agg [VS (((r6.comp 0).cs.getD 0 .any).ai),((r6.comp 0).cs.getD 1 .any)]] [] fun r7 o7=>NA r7<|.call 98 [VS (mk [102]),.sl [[VS ((r7.cs.getD 0 .any).ai),(r7.cs.getD 1 .any)]]] [] fun r8 o8=>NA r8<|.call 97 [.agg [VS ((r8.cs.getD 0 .any).ai),(r8.cs.getD 1 .any)]] [] fun r9 o9=>NS r9<|.call 90 [VS a0,VS r9.ai,VI 100] [] fun r10 o10=>NB r10<|.test (!r10.toBool) (.done 0 [.cN [VS (mk []),VB false]] []) (.done 0 [.cN [VS r9.ai,VB true]] [])))))
theorem RH(a0:ByteArray)(a1:ByteArray)(a2:ByteArray)(h:dr 75 (IA a0 a1 a2) R):an Tryz.prog 73 [VS a0,VS a1,VS a2] [] R :=
 uQ (af (aw _) (af (aw _) (af (aw _) aA))) (oQ [] Tryz.f73 h)
def Ii(a0:AV)(a1:AV)(a2:AV):Tree :=
 .call 86 [.agg [a0,.v (.pointer none)]] [] fun r1 o1=>NT r1<|.al ((r1.comp 0)=.agg (r1.comp 0).cs/\(r1.comp 0).cs.length=2/\bC [.ptr,.ptr] ((r1.comp 0).cs) 0)<|NP (r1.comp 1)<|.call 101 [.agg [((r1.comp 0).cs.getD 0 .any),((r1.comp 0).cs.getD 1 .any)],a1,.agg [VS (mk []),(r1.comp 1)],a2] [] fun r2 o2=>NP r2<|.call 100 [.v (.int .u8 102),r2] [] fun r3 o3=>NP r3<|.done 0 [r3] []
theorem P8(a0:AV)(a1:AV)(a2:AV)(ha0:LK.has .ptr a0)(ha1:LK.has .ptr a1)(ha2:LK.has .ptr a2)(h:dr 22 (Ii a0 a1 a2) R):an Tryz.prog 74 [a0,a1,a2] [] R :=
 uQ (af (bq ha0) (af (bq ha1) (af (bq ha2) aA))) (oQ [] Tryz.f74 h)
def D6(a0:AV):Tree :=
 NZ a0<|NZ a0<|ef (a0.deref.drop 2)<|NP ((a0.deref.drop 2).hA)<|.test (!((a0.deref.drop 2).hA).isNil) (NZ a0<|NZ a0<|ef (a0.deref.drop 2)<|.call 75 [((a0.deref.drop 2).hA)] [] fun r1 o1=>NI r1<|NZ a0<|NZ a0<|ef (a0.deref.drop 3)<|NP ((a0.deref.drop 3).hA)<|.test (!((a0.deref.drop 3).hA).isNil) (NZ a0<|NZ a0<|ef (a0.deref.drop 3)<|.call 75 [((a0.deref.drop 3).hA)] [] fun r2 o2=>NI r2<|.done 0 [VI (IntKind.wrap .i64 ((IntKind.wrap .i64 (1+r1.toInt))+r2.toInt))] []) (.done 0 [VI (IntKind.wrap .i64 (1+r1.toInt))] [])) (NZ a0<|NZ a0<|ef (a0.deref.drop 3)<|NP ((a0.deref.drop 3).hA)<|.test (!((a0.deref.drop 3).hA).isNil) (NZ a0<|NZ a0<|ef (a0.deref.drop 3)<|.call 75 [((a0.deref.drop 3).hA)] [] fun r3 o3=>NI r3<|.done 0 [VI (IntKind.wrap .i64 (1+r3.toInt))] []) (.done 0 [VI 1] []))
theorem yD(a0:AV)(ha0:LK.has .ptr a0)(h:dr 29 (D6 a0) R):an Tryz.prog 75 [a0] [] R :=
 uQ (af (bq ha0) aA) (oQ [] Tryz.f75 h)
def Hj:LI:={hd:={bu:=[(0,.k .sl),(7,.k (.int .i64)),(8,.k (.int .i64))],co:=[(0,[.lk .str])],zu:=[(1,77,[0])]},xs:={co:=[(0,[.lk .str])]},rt:={bu:=[(4,.k (.int .i64))],co:=[(0,[.lk .str])]},ex:=0,fx:=[0]}
def JP:Code:=cu (cn Tryz.f76) 2
def Jk:List (Nat×LI):=[(2,Hj)]
def JC(a0:AV)(a1_0_0:ByteArray):Tree :=
 NL a0<|.loop JP Hj [a0,VI (a0.aQ.length:Int),VI 0] [.cells [VS a1_0_0]] (fun y2 q2=>.al ((q2.hO)=.cells (q2.hO).cs)<|.al (ac [.lk .str] ((q2.hO).cs) 0 q2.tail)<|.done 0 [VI (-1)] [.cells [VS (((q2.hO).cs.getD 0 .any).ai)]]) (fun y2 q2=>NI (y2.hA)<|.al ((q2.hO)=.cells (q2.hO).cs)<|.al (ac [.lk .str] ((q2.hO).cs) 0 q2.tail)<|.done 0 [VI ((y2.hA).toInt)] [.cells [VS (((q2.hO).cs.getD 0 .any).ai)]])
theorem ON(a0:AV)(a1_0_0:ByteArray)(ha0:LK.has .sl a0)(h:dr 19 (JC a0 a1_0_0) R):an Tryz.prog 76 [a0,.fn 77 [.ref 0 0]] [.cells [VS a1_0_0]] R :=
 an.pQ (bK (cL (af (aw _) aA)) cX) (an.up (af (bZ ha0) (af (aw _) aA)) (oF Jk {mu:=[(1,.fn [some (.obj [.lk .str])])],own:=[]} Tryz.f76 h))
def Gv(x0:AV)(x7:Int)(x8:Int)(o0_0:ByteArray):Tree :=
 NL x0<|NI (VI x7)<|NI (VI x8)<|.al (Ob.cells [VS o0_0]=.cells [VS o0_0])<|.al (ac [.lk .str] [VS o0_0] 0 [])<|.test (decide (x8<x7)) (NG x0 x8 2<|.al (bC [.ptr,.ptr] (x0.ix x8) 0/\2<=(x0.ix x8).length)<|.call 77 [.agg [((x0.ix x8).getD 0 .any),((x0.ix x8).getD 1 .any)],.ref 0 0] [.cells [VS o0_0]] fun r1 o1=>.al ((o1.hO)=.cells (o1.hO).cs)<|.al (bm [.lk .str] ((o1.hO).cs) 0 1 o1.tail)<|NB r1<|.test r1.toBool (.done 2 [VI x8] [.cells [VS (((o1.hO).cs.getD 0 .any).ai)]]) (.done 0 [x0,VI x7,VI (IntKind.wrap .i64 (x8+1))] [.cells [VS (((o1.hO).cs.getD 0 .any).ai)]])) (.done 1 [] [.cells [VS o0_0]])
abbrev Eu:=cq Tryz.prog 19 JP Hj
theorem M4(x0:AV)(x7:Int)(x8:Int)(o0_0:ByteArray)(h:jk 19 (Gv x0 x7 x8 o0_0) Eu U):Eu [x0,VI x7,VI x8] [.cells [VS o0_0]] U :=
 gQ Jk h
def Jc(a0_0:AV)(a0_1:AV)(a1_0:ByteArray):Tree :=
 .call 66 [a0_0] [] fun r1 o1=>NS r1<|.done 0 [VB (ae r1.ai==ae a1_0)] [.cells [VS a1_0]]
theorem O2(a0_0:AV)(a0_1:AV)(a1_0:ByteArray)(ha0_0:LK.has .ptr a0_0)(ha0_1:LK.has .ptr a0_1)(h:dr 9 (Jc a0_0 a0_1 a1_0) R):an Tryz.prog 77 [.agg [a0_0,a0_1],.ref 0 0] [.cells [VS a1_0]] R :=
 an.pQ (bK (cL (af (aw _) aA)) cX) (an.up (af (bX (af (bq ha0_0) (af (bq ha0_1) aA))) (af (aw _) aA)) (oF [] {mu:=[(1,.one (.obj [.lk .str]))],own:=[]} Tryz.f77 h))
def Fk:LI:={hd:={bu:=[(0,.k (.int .i64)),(3,.k .str)]},xs:={bu:=[(3,.k .str)]},rt:={},ex:=0}
def Iw:Code:=cu (cn Tryz.f78) 4
def JJ:List (Nat×LI):=[(4,Fk)]
def J6(a0:Int):Tree :=
 .test (decide (a0<=(0:Int))) (.done 0 [VS (mk [109,48])] []) (.loop Iw Fk [VI a0,VS (mk [])] [] (fun y1 q1=>NS (y1.hA)<|.al (ag (mk [109])+ag ((y1.hA).ai)<=9223372036854775807)<|.done 0 [VS (((mk [109]):ByteArray)++((y1.hA).ai))] []) (fun y1 q1=>.done 0 [.any] []))
theorem O9(a0:Int)(h:dr 20 (J6 a0) R):an Tryz.prog 78 [VI a0] [] R :=
 uQ (af (aw _) aA) (oQ JJ Tryz.f78 h)
def Jp(x0:Int)(x3:ByteArray):Tree :=
 NI (VI x0)<|NS (VS x3)<|.test (decide (x0>(0:Int))) (.al (¬(10:Int)=0)<|.al (i6 [[.v (.int .u8 (IntKind.wrap .u8 (IntKind.wrap .i64 (48+(Int.tmod x0 10)))))]])<|.al (ag (⟨(bytesOf [[.v (.int .u8 (IntKind.wrap .u8 (IntKind.wrap .i64 (48+(Int.tmod x0 10)))))]]).toArray⟩)+ag x3<=9223372036854775807)<|.al (¬(10:Int)=0)<|.done 0 [VI (IntKind.wrap .i64 (Int.tdiv x0 10)),VS (((⟨(bytesOf [[.v (.int .u8 (IntKind.wrap .u8 (IntKind.wrap .i64 (48+(Int.tmod x0 10)))))]]).toArray⟩):ByteArray)++x3)] []) (.done 1 [VS x3] [])
abbrev Dg:=cq Tryz.prog 20 Iw Fk
theorem OP(x0:Int)(x3:ByteArray)(h:jk 20 (Jp x0 x3) Dg U):Dg [VI x0,VS x3] [] U :=
 gQ JJ h
def Ir(a0:AV)(a1:ByteArray):Tree :=
 .al (LK.has .sl a0/\cD 1 a0.aQ/\((([]:List (List AV)).length)+a0.aQ.length)*16<=140737488355328)<|.al (cD 1 [[VS a1]]/\(((([]:List (List AV))++a0.aQ).length)+([[VS a1]]:List (List AV)).length)*16<=140737488355328)<|.done 0 [.sl ((([]:List (List AV))++a0.aQ)++([[VS a1]]:List (List AV)))] []
theorem RF(a0:AV)(a1:ByteArray)(ha0:LK.has .sl a0)(h:dr 11 (Ir a0 a1) R):an Tryz.prog 79 [a0,VS a1] [] R :=
 uQ (af (bZ ha0) (af (aw _) aA)) (oQ [] Tryz.f79 h)
def Lp(a0:ByteArray)(a1:ByteArray):Tree :=
 .call 107 [VS a0] [] fun r1 o1=>NP r1<|NP r1<|.test r1.isNil (.done 0 [.cN [.v (.pointer none),.v (.pointer none)]] []) (.call 71 [VS a0,VS a1,VI 100] [] fun r2 o2=>NT r2<|NP (r2.comp 0)<|NP (r2.comp 1)<|.done 0 [.cN [(r2.comp 0),(r2.comp 1)]] [])
theorem PL(a0:ByteArray)(a1:ByteArray)(h:dr 14 (Lp a0 a1) R):an Tryz.prog 84 [VS a0,VS a1] [] R :=
 uQ (af (aw _) (af (aw _) aA)) (oQ [] Tryz.f84 h)
def IM(a0:ByteArray):Tree :=
 .call 108 [VS a0] [] fun r1 o1=>NP r1<|NP r1<|.test r1.isNil (.done 0 [.cN [VS (mk []),VB false]] []) (NZ r1<|NZ r1<|.al (LK.has (.int .u8) (r1.deref.hA)/\1<=r1.deref.length)<|.test (((r1.deref.hA).toInt) != (114:Int)) (.done 0 [.cN [VS (mk []),VB false]] []) (.call 109 [r1] [] fun r2 o2=>NT r2<|NP (r2.comp 0)<|NB (r2.comp 1)<|.test (!((r2.comp 1).toBool)) (.done 0 [.cN [VS (mk []),VB false]] []) (.call 110 [(r2.comp 0)] [] fun r3 o3=>NT r3<|NS (r3.comp 0)<|NB (r3.comp 1)<|.done 0 [.cN [VS ((r3.comp 0).ai),VB ((r3.comp 1).toBool)]] [])))
theorem Oy(a0:ByteArray)(h:dr 29 (IM a0) R):an Tryz.prog 85 [VS a0] [] R :=
 uQ (af (aw _) aA) (oQ [] Tryz.f85 h)
def Jx(a0_0:AV)(a0_1:AV):Tree :=
 NZ a0_0<|NZ a0_0<|ef (a0_0.deref.drop 3)<|.done 0 [.cN [.agg [((a0_0.deref.drop 3).hA),.ptr [.ptr [a0_0,a0_1],a0_1]],.ptr [a0_0,a0_1]]] []
theorem Rm(a0_0:AV)(a0_1:AV)(ha0_0:LK.has .ptr a0_0)(ha0_1:LK.has .ptr a0_1)(h:dr 20 (Jx a0_0 a0_1) R):an Tryz.prog 86 [.agg [a0_0,a0_1]] [] R :=
 uQ (af (bX (af (bq ha0_0) (af (bq ha0_1) aA))) aA) (oQ [] Tryz.f86 h)
def Fa:LI:={hd:={bu:=[(97,.k .sl),(98,.k (.int .i64)),(99,.k (.int .i64))],refs:=[(3,3),(5,5),(7,7)],co:=[(3,[.lk .ptr,.lk .ptr]),(5,[.lk .str,.lk .ptr]),(7,[.vec 2])],zu:=[(8,112,[7])]},xs:={refs:=[(7,7)],co:=[(7,[.vec 2])]},rt:={},ex:=1}
def MC:Code:=cu (cn Tryz.f87) 18
def Ke:List (Nat×LI):=[(18,Fa)]
def Nr(a0_0:AV)(a0_1:AV)(a1:AV)(a2_0:ByteArray)(a2_1:AV):Tree :=
 .call 111 [.agg [VS a2_0,a2_1],.agg [a0_0,a0_1]] [] fun r1 o1=>NB r1<|.test r1.toBool (.done 0 [.sl [[.ptr [.v (.int .u8 117),VS (mk []),.v (.pointer none),.v (.pointer none)],a1]]] []) (NZ a0_0<|NZ a0_0<|.al (LK.has (.int .u8) (a0_0.deref.hA)/\1<=a0_0.deref.length)<|.test (((a0_0.deref.hA).toInt)==(43:Int)) (.call 113 [.agg [a0_0,a0_1]] [] fun r2 o2=>.al (r2=.agg r2.cs/\r2.cs.length=2/\bC [.ptr,.ptr] r2.cs 0)<|NZ a1<|NZ a1<|.al (LK.has (.int .u8) (a1.deref.hA)/\1<=a1.deref.length)<|.test (((a1.deref.hA).toInt)==(114:Int)) (.call 114 [.agg [a0_0,a0_1]] [] fun r3 o3=>.al (r3=.agg r3.cs/\r3.cs.length=2/\bC [.ptr,.ptr] r3.cs 0)<|NZ a1<|NZ a1<|ef (a1.deref.drop 2)<|.call 87 [.agg [(r3.cs.getD 0 .any),(r3.cs.getD 1 .any)],((a1.deref.drop 2).hA),.agg [VS a2_0,a2_1]] [] fun r4 o4=>NL r4<|.call 112 [r4,.fn 115 [.ref 0 0],.ref 1 0] [.cells [a1],.cells [.vec 2],.vec 2 []] fun r5 o5=>.al ((o5.hO)=.cells (o5.hO).cs)<|.al (bm [.lk .ptr] ((o5.hO).cs) 0 1 o5.tail)<|.al ((o5.tail.hO)=.cells (o5.tail.hO).cs)<|.al (bm [.vec 2] ((o5.tail.hO).cs) 0 2 o5.tail.tail)<|.done 0 [.sl ((o5.tail.tail.hO).es)] []) (NZ a1<|NZ a1<|ef (a1.deref.drop 2)<|.call 87 [.agg [(r2.cs.getD 0 .any),(r2.cs.getD 1 .any)],((a1.deref.drop 2).hA),.agg [VS a2_0,a2_1]] [] fun r6 o6=>NL r6<|.call 112 [r6,.fn 115 [.ref 0 0],.ref 1 0] [.cells [a1],.cells [.vec 2],.vec 2 []] fun r7 o7=>.al ((o7.hO)=.cells (o7.hO).cs)<|.al (bm [.lk .ptr] ((o7.hO).cs) 0 1 o7.tail)<|.al ((o7.tail.hO)=.cells (o7.tail.hO).cs)<|.al (bm [.vec 2] ((o7.tail.hO).cs) 0 2 o7.tail.tail)<|.done 0 [.sl ((o7.tail.tail.hO).es)] [])) (.test (((a0_0.deref.hA).toInt)==(42:Int)) (.call 113 [.agg [a0_0,a0_1]] [] fun r8 o8=>.al (r8=.agg r8.cs/\r8.cs.length=2/\bC [.ptr,.ptr] r8.cs 0)<|NZ a1<|NZ a1<|ef (a1.deref.drop 2)<|.call 87 [.agg [(r8.cs.getD 0 .any),(r8.cs.getD 1 .any)],((a1.deref.drop 2).hA),.agg [VS a2_0,a2_1]] [] fun r9 o9=>NL r9<|.call 112 [r9,.fn 116 [.ref 0 0],.ref 1 0] [.cells [a1],.cells [.vec 2],.vec 2 []] fun r10 o10=>.al ((o10.hO)=.cells (o10.hO).cs)<|.al (bm [.lk .ptr] ((o10.hO).cs) 0 1 o10.tail)<|.al ((o10.tail.hO)=.cells (o10.tail.hO).cs)<|.al (bm [.vec 2] ((o10.tail.hO).cs) 0 2 o10.tail.tail)<|.call 114 [.agg [a0_0,a0_1]] [] fun r11 o11=>.al (r11=.agg r11.cs/\r11.cs.length=2/\bC [.ptr,.ptr] r11.cs 0)<|NZ ((o10.hO).cs.getD 0 .any)<|NZ ((o10.hO).cs.getD 0 .any)<|ef (((o10.hO).cs.getD 0 .any).deref.drop 3)<|.call 87 [.agg [(r11.cs.getD 0 .any),(r11.cs.getD 1 .any)],((((o10.hO).cs.getD 0 .any).deref.drop 3).hA),.agg [VS a2_0,a2_1]] [] fun r12 o12=>NL r12<|.call 112 [r12,.fn 118 [.ref 0 0],.ref 1 0] [.cells [((o10.hO).cs.getD 0 .any)],.cells [.vec 2],.vec 2 ((o10.tail.tail.hO).es)] fun r13 o13=>.al ((o13.hO)=.cells (o13.hO).cs)<|.al (bm [.lk .ptr] ((o13.hO).cs) 0 1 o13.tail)<|.al ((o13.tail.hO)=.cells (o13.tail.hO).cs)<|.al (bm [.vec 2] ((o13.tail.hO).cs) 0 2 o13.tail.tail)<|.done 0 [.sl ((o13.tail.tail.hO).es)] []) (.test (((a0_0.deref.hA).toInt)==(114:Int)) (.call 86 [.agg [a0_0,a0_1]] [] fun r14 o14=>NT r14<|.al ((r14.comp 0)=.agg (r14.comp 0).cs/\(r14.comp 0).cs.length=2/\bC [.ptr,.ptr] ((r14.comp 0).cs) 0)<|NP (r14.comp 1)<|NZ a1<|NZ a1<|ef (a1.deref.drop 2)<|.call 87 [.agg [((r14.comp 0).cs.getD 0 .any),((r14.comp 0).cs.getD 1 .any)],((a1.deref.drop 2).hA),.agg [VS a2_0,a2_1]] [] fun r15 o15=>NL r15<|.call 112 [r15,.v (.func (.func 119) #[] #[]),.ref 0 0] [.cells [.vec 1],.vec 2 []] fun r16 o16=>.al ((o16.hO)=.cells (o16.hO).cs)<|.al (bm [.vec 2] ((o16.hO).cs) 0 1 o16.tail)<|NZ a1<|NZ a1<|ef (a1.deref.drop 2)<|.call 87 [.agg [((r14.comp 0).cs.getD 0 .any),((r14.comp 0).cs.getD 1 .any)],((a1.deref.drop 2).hA),.agg [VS (mk []),(r14.comp 1)]] [] fun r17 o17=>NL r17<|NL r17<|.loop MC Fa [r17,VI (r17.aQ.length:Int),VI 0] [.cells [a0_0,a0_1],.cells [VS a2_0,a2_1],.cells [.any],.vec 2 ((o16.tail.hO).es)] (fun y20 q20=>.al ((q20.hO)=.cells (q20.hO).cs)<|.al (ac [.vec 2] ((q20.hO).cs) 0 q20.tail)<|.done 0 [.sl ((q20.tail.hO).es)] []) (fun y20 q20=>.done 0 [.any] [])) (.done 0 [.sl []] []))))
theorem QG(a0_0:AV)(a0_1:AV)(a1:AV)(a2_0:ByteArray)(a2_1:AV)(ha0_0:LK.has .ptr a0_0)(ha0_1:LK.has .ptr a0_1)(ha1:LK.has .ptr a1)(ha2_1:LK.has .ptr a2_1)(h:dr 113 (Nr a0_0 a0_1 a1 a2_0 a2_1) R):an Tryz.prog 87 [.agg [a0_0,a0_1],a1,.agg [VS a2_0,a2_1]] [] R :=
 uQ (af (bX (af (bq ha0_0) (af (bq ha0_1) aA))) (af (bq ha1) (af (bX (af (aw _) (af (bq ha2_1) aA))) aA))) (oQ Ke Tryz.f87 h)
def EA(x97:AV)(x98:Int)(x99:Int)(o3_0:AV)(o3_1:AV)(o5_0:ByteArray)(o5_1:AV)(o7_0:List (List AV)):Tree :=
 NL x97<|NI (VI x98)<|NI (VI x99)<|.al (Ob.cells [o3_0,o3_1]=.cells [o3_0,o3_1])<|.al (ac [.lk .ptr,.lk .ptr] [o3_0,o3_1] 0 [.cells [VS o5_0,o5_1],.cells [.any],.vec 2 o7_0])<|.al (Ob.cells [VS o5_0,o5_1]=.cells [VS o5_0,o5_1])<|.al (ac [.lk .str,.lk .ptr] [VS o5_0,o5_1] 0 [.cells [.any],.vec 2 o7_0])<|.al (Ob.cells [.any]=.cells [.any])<|.al (ac [.vec 2] [.any] 0 [.vec 2 o7_0])<|.test (decide (x99<x98)) (NG x97 x99 2<|.al (bC [.ptr,.ptr] (x97.ix x99) 0/\2<=(x97.ix x99).length)<|.call 87 [.agg [o3_0,o3_1],((x97.ix x99).getD 1 .any),.agg [VS o5_0,o5_1]] [] fun r1 o1=>NL r1<|.call 112 [r1,.fn 120 [.ref 0 0],.ref 1 0] [.cells [((x97.ix x99).getD 0 .any),((x97.ix x99).getD 1 .any)],.cells [.vec 2],.vec 2 o7_0] fun r2 o2=>.al ((o2.hO)=.cells (o2.hO).cs)<|.al (bm [.lk .ptr,.lk .ptr] ((o2.hO).cs) 0 1 o2.tail)<|.al ((o2.tail.hO)=.cells (o2.tail.hO).cs)<|.al (bm [.vec 2] ((o2.tail.hO).cs) 0 2 o2.tail.tail)<|.done 0 [x97,VI x98,VI (IntKind.wrap .i64 (x99+1))] [.cells [o3_0,o3_1],.cells [VS o5_0,o5_1],.cells [.any],.vec 2 ((o2.tail.tail.hO).es)]) (.done 1 [] [.cells [.any],.vec 2 o7_0])
abbrev D7:=cq Tryz.prog 113 MC Fa
theorem MB(x97:AV)(x98:Int)(x99:Int)(o3_0:AV)(o3_1:AV)(o5_0:ByteArray)(o5_1:AV)(o7_0:List (List AV))(h:jk 113 (EA x97 x98 x99 o3_0 o3_1 o5_0 o5_1 o7_0) D7 U):D7 [x97,VI x98,VI x99] [.cells [o3_0,o3_1],.cells [VS o5_0,o5_1],.cells [.any],.vec 2 o7_0] U :=
 gQ Ke h
def Mq(a0:ByteArray):Tree :=
 .call 104 [VS a0] [] fun r1 o1=>NT r1<|.al ((r1.comp 0)=.agg (r1.comp 0).cs/\(r1.comp 0).cs.length=2/\bC [.str,.sl] ((r1.comp 0).cs) 0)<|NB (r1.comp 1)<|.test ((r1.comp 1).toBool) (.call 121 [.agg [VS (((r1.comp 0).cs.getD 0 .any).ai),((r1.comp 0).cs.getD 1 .any)]] [] fun r2 o2=>NS r2<|.done 0 [.cN [.agg [VS (((r1.comp 0).cs.getD 0 .any).ai),((r1.comp 0).cs.getD 1 .any)],VB (ae r2.ai==ae (mk [114,101,99]))]] []) (.done 0 [.cN [.agg [VS (((r1.comp 0).cs.getD 0 .any).ai),((r1.comp 0).cs.getD 1 .any)],VB false]] [])
theorem Qu(a0:ByteArray)(h:dr 18 (Mq a0) R):an Tryz.prog 88 [VS a0] [] R :=
 uQ (af (aw _) aA) (oQ [] Tryz.f88 h)
def Ju(a0:ByteArray):Tree :=
 .call 122 [VS a0] [] fun r1 o1=>NT r1<|.al ((r1.comp 0)=.agg (r1.comp 0).cs/\(r1.comp 0).cs.length=2/\bC [.str,.sl] ((r1.comp 0).cs) 0)<|NB (r1.comp 1)<|.test ((r1.comp 1).toBool) (.call 123 [.agg [VS (((r1.comp 0).cs.getD 0 .any).ai),((r1.comp 0).cs.getD 1 .any)]] [] fun r2 o2=>NB r2<|.test r2.toBool (.call 124 [.agg [VS (((r1.comp 0).cs.getD 0 .any).ai),((r1.comp 0).cs.getD 1 .any)]] [] fun r3 o3=>NI r3<|.done 0 [.cN [.agg [VS (((r1.comp 0).cs.getD 0 .any).ai),((r1.comp 0).cs.getD 1 .any)],VB (decide (r3.toInt<=(200:Int)))]] []) (.done 0 [.cN [.agg [VS (((r1.comp 0).cs.getD 0 .any).ai),((r1.comp 0).cs.getD 1 .any)],VB false]] [])) (.done 0 [.cN [.agg [VS (((r1.comp 0).cs.getD 0 .any).ai),((r1.comp 0).cs.getD 1 .any)],VB false]] [])
theorem Qb(a0:ByteArray)(h:dr 22 (Ju a0) R):an Tryz.prog 89 [VS a0] [] R :=
 uQ (af (aw _) aA) (oQ [] Tryz.f89 h)
def MO(a0:ByteArray)(a1:ByteArray)(a2:Int):Tree :=
 .call 104 [VS a0] [] fun r1 o1=>NT r1<|.al ((r1.comp 0)=.agg (r1.comp 0).cs/\(r1.comp 0).cs.length=2/\bC [.str,.sl] ((r1.comp 0).cs) 0)<|NB (r1.comp 1)<|.call 89 [VS a1] [] fun r2 o2=>NT r2<|.al ((r2.comp 0)=.agg (r2.comp 0).cs/\(r2.comp 0).cs.length=2/\bC [.str,.sl] ((r2.comp 0).cs) 0)<|NB (r2.comp 1)<|.test ((r1.comp 1).toBool) (.test ((r2.comp 1).toBool) (.call 56 [VI a2,VI 0,VI 100] [] fun r3 o3=>NB r3<|.test r3.toBool (.call 125 [.agg [VS (((r1.comp 0).cs.getD 0 .any).ai),((r1.comp 0).cs.getD 1 .any)],.sl [],.agg [VS (((r2.comp 0).cs.getD 0 .any).ai),((r2.comp 0).cs.getD 1 .any)],VI a2] [] fun r4 o4=>NB r4<|.done 0 [VB r4.toBool] []) (.done 0 [VB false] [])) (.done 0 [VB false] [])) (.done 0 [VB false] [])
theorem Ou(a0:ByteArray)(a1:ByteArray)(a2:Int)(h:dr 36 (MO a0 a1 a2) R):an Tryz.prog 90 [VS a0,VS a1,VI a2] [] R :=
 uQ (af (aw _) (af (aw _) (af (aw _) aA))) (oQ [] Tryz.f90 h)
def G2:LI:={hd:={bu:=[(0,.k .sl),(4,.k (.int .i64))],eB:=[(3,2)]},xs:={eB:=[(3,2)]},rt:={},ex:=0}
def MT:Code:=cu (cn Tryz.f91) 3
def N1:List (Nat×LI):=[(3,G2)]
def LR(a0:AV):Tree :=
 .loop MT G2 [a0,VI 0] [.vec 2 []] (fun y3 q3=>.al (((q3.drop 0).hO)=.vec 2 ((q3.drop 0).hO).es)<|.done 0 [.sl ((q3.hO).es)] []) (fun y3 q3=>.done 0 [.any] [])
theorem Qo(a0:AV)(ha0:LK.has .sl a0)(h:dr 29 (LR a0) R):an Tryz.prog 91 [a0] [] R :=
 uQ (af (bZ ha0) aA) (oQ N1 Tryz.f91 h)
def Hb(x0:AV)(x4:Int)(e3:List (List AV)):Tree :=
 NL x0<|NI (VI x4)<|.al (Ob.vec 2 e3=.vec 2 e3)<|NL x0<|.test (decide (x4<(x0.aQ.length:Int))) (NG x0 x4 4<|NE (x0.ix x4)<|.call 97 [.agg [VS (((x0.ix x4).getD 0 .any).ai),((x0.ix x4).getD 1 .any)]] [] fun r1 o1=>NS r1<|NG x0 x4 4<|NE ((x0.ix x4).drop 2)<|.call 97 [.agg [VS ((((x0.ix x4).drop 2).getD 0 .any).ai),(((x0.ix x4).drop 2).getD 1 .any)]] [] fun r2 o2=>NS r2<|.al (cD 2 [[VS r1.ai,VS r2.ai]]/\((e3.length)+([[VS r1.ai,VS r2.ai]]:List (List AV)).length)*32<=140737488355328)<|.done 0 [x0,VI (IntKind.wrap .i64 (x4+1))] [.vec 2 (e3++([[VS r1.ai,VS r2.ai]]:List (List AV)))]) (.done 1 [] [.vec 2 e3])
abbrev Er:=cq Tryz.prog 29 MT G2
theorem Ns(x0:AV)(x4:Int)(e3:List (List AV))(h:jk 29 (Hb x0 x4 e3) Er U):Er [x0,VI x4] [.vec 2 e3] U :=
 gQ N1 h
def EE:LI:={hd:={bu:=[(1,.k .str),(8,.k .sl),(9,.k (.int .i64))],refs:=[(3,3),(5,5)],co:=[(3,[.lk .str,.lk .sl]),(5,[.lk .str,.lk .sl])],eB:=[(7,4)]},xs:={bu:=[(1,.k .str)],refs:=[(3,3),(5,5)],co:=[(3,[.lk .str,.lk .sl]),(5,[.lk .str,.lk .sl])],eB:=[(7,4)]},rt:={},ex:=1}
def Ld:Code:=cu (cn Tryz.f92) 14
def F2:LI:={hd:={bu:=[(10,.k .sl),(11,.k (.int .i64))],refs:=[(5,5)],co:=[(5,[.lk .str,.lk .sl])],eB:=[(7,4)]},xs:={eB:=[(7,4)]},rt:={},ex:=3}
def I8:Code:=cu (cn Tryz.f92) 19
def Fg:LI:={hd:={bu:=[(1,.k .str),(12,.k .str),(13,.k .sl),(14,.k (.int .i64))],refs:=[(3,3),(5,5)],co:=[(3,[.lk .str,.lk .sl]),(5,[.lk .str,.lk .sl])],eB:=[(7,4)]},xs:={bu:=[(1,.k .str),(12,.k .str)],refs:=[(3,3),(5,5)],co:=[(3,[.lk .str,.lk .sl]),(5,[.lk .str,.lk .sl])],eB:=[(7,4)]},rt:={},ex:=5}
def Nv:Code:=cu (cn Tryz.f92) 28
def G8:LI:={hd:={bu:=[(1,.k .str),(15,.k .sl),(16,.k (.int .i64))],refs:=[(3,3)],co:=[(3,[.lk .str,.lk .sl])],eB:=[(7,4)]},xs:={eB:=[(7,4)]},rt:={},ex:=7}
def NO:Code:=cu (cn Tryz.f92) 33
def Gy:LI:={hd:={bu:=[(1,.k .str),(15,.k .sl),(16,.k (.int .i64)),(17,.k .sl),(18,.k (.int .i64))],refs:=[(3,3)],co:=[(3,[.lk .str,.lk .sl])],eB:=[(7,4)]},xs:={bu:=[(1,.k .str),(15,.k .sl),(16,.k (.int .i64))],refs:=[(3,3)],co:=[(3,[.lk .str,.lk .sl])],eB:=[(7,4)]},rt:={},ex:=9}
def LW:Code:=cu (cn Tryz.f92) 37
def zg:List (Nat×LI):=[(14,EE),(19,F2),(28,Fg),(33,G8),(37,Gy)]
def Ey(a0_0:ByteArray)(a0_1:AV)(a1:ByteArray)(a2_0:ByteArray)(a2_1:AV):Tree :=
 .test (!(ae a0_0==ae (mk []))) (.test (ae a0_0==ae a1) (.al (cD 4 [[VS (mk [117]),.v (.slice none 0 0),VS a2_0,a2_1]]/\((([]:List (List AV)).length)+([[VS (mk [117]),.v (.slice none 0 0),VS a2_0,a2_1]]:List (List AV)).length)*80<=140737488355328)<|.done 0 [.sl [[VS (mk [117]),.v (.slice none 0 0),VS a2_0,a2_1]]] []) (.done 0 [.sl []] [])) (.call 121 [.agg [VS a2_0,a2_1]] [] fun r1 o1=>NS r1<|.test (ae r1.ai==ae (mk [108])) (NG a0_1 1 2<|NE (a0_1.ix (1:Int))<|NG a2_1 1 2<|NE (a2_1.ix (1:Int))<|.call 92 [.agg [VS (((a0_1.ix (1:Int)).getD 0 .any).ai),((a0_1.ix (1:Int)).getD 1 .any)],VS a1,.agg [VS (((a2_1.ix (1:Int)).getD 0 .any).ai),((a2_1.ix (1:Int)).getD 1 .any)]] [] fun r2 o2=>NL r2<|.call 126 [r2,VS (mk [108]),.vec 0] [.vec 4 []] fun r3 o3=>.al (r3=.vec 1/\(o3.tail.hO)=.vec 4 (o3.tail.hO).es)<|.done 0 [.sl ((o3.tail.hO).es)] []) (.test (ae r1.ai==ae (mk [114])) (NG a0_1 2 2<|NE (a0_1.ix (2:Int))<|NG a2_1 1 2<|NE (a2_1.ix (1:Int))<|.call 92 [.agg [VS (((a0_1.ix (2:Int)).getD 0 .any).ai),((a0_1.ix (2:Int)).getD 1 .any)],VS a1,.agg [VS (((a2_1.ix (1:Int)).getD 0 .any).ai),((a2_1.ix (1:Int)).getD 1 .any)]] [] fun r4 o4=>NL r4<|.call 126 [r4,VS (mk [114]),.vec 0] [.vec 4 []] fun r5 o5=>.al (r5=.vec 1/\(o5.tail.hO)=.vec 4 (o5.tail.hO).es)<|.done 0 [.sl ((o5.tail.hO).es)] []) (.test (ae r1.ai==ae (mk [112])) (NG a0_1 1 2<|NE (a0_1.ix (1:Int))<|NG a2_1 1 2<|NE (a2_1.ix (1:Int))<|.call 92 [.agg [VS (((a0_1.ix (1:Int)).getD 0 .any).ai),((a0_1.ix (1:Int)).getD 1 .any)],VS a1,.agg [VS (((a2_1.ix (1:Int)).getD 0 .any).ai),((a2_1.ix (1:Int)).getD 1 .any)]] [] fun r6 o6=>NL r6<|.loop Ld EE [VS a1,r6,VI 0] [.cells [VS a0_0,a0_1],.cells [VS a2_0,a2_1],.vec 4 []] (fun y9 q9=>NS (y9.hA)<|.al ((q9.hO)=.cells (q9.hO).cs)<|.al (ac [.lk .str,.lk .sl] ((q9.hO).cs) 0 q9.tail)<|.al (((q9.tail.drop 0).hO)=.cells ((q9.tail.drop 0).hO).cs)<|.al (ac [.lk .str,.lk .sl] (((q9.tail.drop 0).hO).cs) 0 ((q9.tail.drop 0).tail))<|.al (((q9.drop 2).hO)=.vec 4 ((q9.drop 2).hO).es)<|NG ((q9.hO).cs.getD 1 .any) 2 2<|NE (((q9.hO).cs.getD 1 .any).ix (2:Int))<|NG ((q9.tail.hO).cs.getD 1 .any) 2 2<|NE (((q9.tail.hO).cs.getD 1 .any).ix (2:Int))<|.call 92 [.agg [VS (((((q9.hO).cs.getD 1 .any).ix (2:Int)).getD 0 .any).ai),((((q9.hO).cs.getD 1 .any).ix (2:Int)).getD 1 .any)],VS ((y9.hA).ai),.agg [VS (((((q9.tail.hO).cs.getD 1 .any).ix (2:Int)).getD 0 .any).ai),((((q9.tail.hO).cs.getD 1 .any).ix (2:Int)).getD 1 .any)]] [] fun r10 o10=>NL r10<|.loop I8 F2 [r10,VI 0] [.cells [VS (((q9.tail.hO).cs.getD 0 .any).ai),((q9.tail.hO).cs.getD 1 .any)],.vec 4 ((q9.tail.tail.hO).es)] (fun y13 q13=>.al (((q13.drop 0).hO)=.vec 4 ((q13.drop 0).hO).es)<|.done 0 [.sl ((q13.hO).es)] []) (fun y13 q13=>.done 0 [.any] [])) (fun y9 q9=>.done 0 [.any] [])) (NG a0_1 1 2<|lI (a0_1.ix (1:Int))<|.test (ae (((a0_1.ix (1:Int)).hA).ai)==ae a1) (.done 0 [.sl []] []) (NG a0_1 2 2<|NE (a0_1.ix (2:Int))<|NG a2_1 1 2<|NE (a2_1.ix (1:Int))<|.call 92 [.agg [VS (((a0_1.ix (2:Int)).getD 0 .any).ai),((a0_1.ix (2:Int)).getD 1 .any)],VS a1,.agg [VS (((a2_1.ix (1:Int)).getD 0 .any).ai),((a2_1.ix (1:Int)).getD 1 .any)]] [] fun r14 o14=>NL r14<|.loop Nv Fg [VS a1,VS (((a0_1.ix (1:Int)).hA).ai),r14,VI 0] [.cells [VS a0_0,a0_1],.cells [VS a2_0,a2_1],.vec 4 []] (fun y17 q17=>NS (y17.hA)<|NS (y17.tail.hA)<|.al ((q17.hO)=.cells (q17.hO).cs)<|.al (ac [.lk .str,.lk .sl] ((q17.hO).cs) 0 q17.tail)<|.al (((q17.tail.drop 0).hO)=.cells ((q17.tail.drop 0).hO).cs)<|.al (ac [.lk .str,.lk .sl] (((q17.tail.drop 0).hO).cs) 0 ((q17.tail.drop 0).tail))<|.al (((q17.drop 2).hO)=.vec 4 ((q17.drop 2).hO).es)<|NG ((q17.hO).cs.getD 1 .any) 2 2<|NE (((q17.hO).cs.getD 1 .any).ix (2:Int))<|NG ((q17.tail.hO).cs.getD 1 .any) 1 2<|NE (((q17.tail.hO).cs.getD 1 .any).ix (1:Int))<|.call 92 [.agg [VS (((((q17.hO).cs.getD 1 .any).ix (2:Int)).getD 0 .any).ai),((((q17.hO).cs.getD 1 .any).ix (2:Int)).getD 1 .any)],VS ((y17.tail.hA).ai),.agg [VS (((((q17.tail.hO).cs.getD 1 .any).ix (1:Int)).getD 0 .any).ai),((((q17.tail.hO).cs.getD 1 .any).ix (1:Int)).getD 1 .any)]] [] fun r18 o18=>NL r18<|.loop NO G8 [VS ((y17.hA).ai),r18,VI 0] [.cells [VS (((q17.hO).cs.getD 0 .any).ai),((q17.hO).cs.getD 1 .any)],.vec 4 ((q17.tail.tail.hO).es)] (fun y24 q24=>.al (((q24.drop 0).hO)=.vec 4 ((q24.drop 0).hO).es)<|.done 0 [.sl ((q24.hO).es)] []) (fun y24 q24=>.done 0 [.any] [])) (fun y17 q17=>.done 0 [.any] []))))))
theorem Ol(a0_0:ByteArray)(a0_1:AV)(a1:ByteArray)(a2_0:ByteArray)(a2_1:AV)(ha0_1:LK.has .sl a0_1)(ha2_1:LK.has .sl a2_1)(h:dr 244 (Ey a0_0 a0_1 a1 a2_0 a2_1) R):an Tryz.prog 92 [.agg [VS a0_0,a0_1],VS a1,.agg [VS a2_0,a2_1]] [] R :=
 uQ (af (bX (af (aw _) (af (bZ ha0_1) aA))) (af (aw _) (af (bX (af (aw _) (af (bZ ha2_1) aA))) aA))) (oQ zg Tryz.f92 h)
def EP(x1:ByteArray)(x8:AV)(x9:Int)(o3_0:ByteArray)(o3_1:AV)(o5_0:ByteArray)(o5_1:AV)(e7:List (List AV)):Tree :=
 NS (VS x1)<|NL x8<|NI (VI x9)<|.al (Ob.cells [VS o3_0,o3_1]=.cells [VS o3_0,o3_1])<|.al (ac [.lk .str,.lk .sl] [VS o3_0,o3_1] 0 [.cells [VS o5_0,o5_1],.vec 4 e7])<|.al (Ob.cells [VS o5_0,o5_1]=.cells [VS o5_0,o5_1])<|.al (ac [.lk .str,.lk .sl] [VS o5_0,o5_1] 0 [.vec 4 e7])<|.al (Ob.vec 4 e7=.vec 4 e7)<|NL x8<|.test (decide (x9<(x8.aQ.length:Int))) (NG x8 x9 4<|NE (x8.ix x9)<|NG o5_1 2 2<|NE (o5_1.ix (2:Int))<|.call 98 [VS (mk [112]),.sl [[VS (((x8.ix x9).getD 0 .any).ai),((x8.ix x9).getD 1 .any)],[VS (((o5_1.ix (2:Int)).getD 0 .any).ai),((o5_1.ix (2:Int)).getD 1 .any)]]] [] fun r1 o1=>NA r1<|.call 98 [VS (mk [108]),.sl [[VS ((r1.cs.getD 0 .any).ai),(r1.cs.getD 1 .any)]]] [] fun r2 o2=>NA r2<|NG x8 x9 4<|NE ((x8.ix x9).drop 2)<|.al (cD 4 [[VS ((r2.cs.getD 0 .any).ai),(r2.cs.getD 1 .any),VS ((((x8.ix x9).drop 2).getD 0 .any).ai),(((x8.ix x9).drop 2).getD 1 .any)]]/\((e7.length)+([[VS ((r2.cs.getD 0 .any).ai),(r2.cs.getD 1 .any),VS ((((x8.ix x9).drop 2).getD 0 .any).ai),(((x8.ix x9).drop 2).getD 1 .any)]]:List (List AV)).length)*80<=140737488355328)<|.done 0 [VS x1,x8,VI (IntKind.wrap .i64 (x9+1))] [.cells [VS o3_0,o3_1],.cells [VS o5_0,o5_1],.vec 4 (e7++([[VS ((r2.cs.getD 0 .any).ai),(r2.cs.getD 1 .any),VS ((((x8.ix x9).drop 2).getD 0 .any).ai),(((x8.ix x9).drop 2).getD 1 .any)]]:List (List AV)))]) (.done 1 [VS x1] [.cells [VS o3_0,o3_1],.cells [VS o5_0,o5_1],.vec 4 e7])
abbrev G1:=cq Tryz.prog 244 Ld EE
theorem MG(x1:ByteArray)(x8:AV)(x9:Int)(o3_0:ByteArray)(o3_1:AV)(o5_0:ByteArray)(o5_1:AV)(e7:List (List AV))(h:jk 244 (EP x1 x8 x9 o3_0 o3_1 o5_0 o5_1 e7) G1 U):G1 [VS x1,x8,VI x9] [.cells [VS o3_0,o3_1],.cells [VS o5_0,o5_1],.vec 4 e7] U :=
 gQ zg h
def Hs(x10:AV)(x11:Int)(o5_0:ByteArray)(o5_1:AV)(e7:List (List AV)):Tree :=
 NL x10<|NI (VI x11)<|.al (Ob.cells [VS o5_0,o5_1]=.cells [VS o5_0,o5_1])<|.al (ac [.lk .str,.lk .sl] [VS o5_0,o5_1] 0 [.vec 4 e7])<|.al (Ob.vec 4 e7=.vec 4 e7)<|NL x10<|.test (decide (x11<(x10.aQ.length:Int))) (NG o5_1 1 2<|NE (o5_1.ix (1:Int))<|NG x10 x11 4<|NE (x10.ix x11)<|.call 98 [VS (mk [112]),.sl [[VS (((o5_1.ix (1:Int)).getD 0 .any).ai),((o5_1.ix (1:Int)).getD 1 .any)],[VS (((x10.ix x11).getD 0 .any).ai),((x10.ix x11).getD 1 .any)]]] [] fun r1 o1=>NA r1<|.call 98 [VS (mk [114]),.sl [[VS ((r1.cs.getD 0 .any).ai),(r1.cs.getD 1 .any)]]] [] fun r2 o2=>NA r2<|NG x10 x11 4<|NE ((x10.ix x11).drop 2)<|.al (cD 4 [[VS ((r2.cs.getD 0 .any).ai),(r2.cs.getD 1 .any),VS ((((x10.ix x11).drop 2).getD 0 .any).ai),(((x10.ix x11).drop 2).getD 1 .any)]]/\((e7.length)+([[VS ((r2.cs.getD 0 .any).ai),(r2.cs.getD 1 .any),VS ((((x10.ix x11).drop 2).getD 0 .any).ai),(((x10.ix x11).drop 2).getD 1 .any)]]:List (List AV)).length)*80<=140737488355328)<|.done 0 [x10,VI (IntKind.wrap .i64 (x11+1))] [.cells [VS o5_0,o5_1],.vec 4 (e7++([[VS ((r2.cs.getD 0 .any).ai),(r2.cs.getD 1 .any),VS ((((x10.ix x11).drop 2).getD 0 .any).ai),(((x10.ix x11).drop 2).getD 1 .any)]]:List (List AV)))]) (.done 1 [] [.vec 4 e7])
abbrev He:=cq Tryz.prog 244 I8 F2
theorem Nw(x10:AV)(x11:Int)(o5_0:ByteArray)(o5_1:AV)(e7:List (List AV))(h:jk 244 (Hs x10 x11 o5_0 o5_1 e7) He U):He [x10,VI x11] [.cells [VS o5_0,o5_1],.vec 4 e7] U :=
 gQ zg h
def Fc(x1:ByteArray)(x12:ByteArray)(x13:AV)(x14:Int)(o3_0:ByteArray)(o3_1:AV)(o5_0:ByteArray)(o5_1:AV)(e7:List (List AV)):Tree :=
 NS (VS x1)<|NS (VS x12)<|NL x13<|NI (VI x14)<|.al (Ob.cells [VS o3_0,o3_1]=.cells [VS o3_0,o3_1])<|.al (ac [.lk .str,.lk .sl] [VS o3_0,o3_1] 0 [.cells [VS o5_0,o5_1],.vec 4 e7])<|.al (Ob.cells [VS o5_0,o5_1]=.cells [VS o5_0,o5_1])<|.al (ac [.lk .str,.lk .sl] [VS o5_0,o5_1] 0 [.vec 4 e7])<|.al (Ob.vec 4 e7=.vec 4 e7)<|NL x13<|.test (decide (x14<(x13.aQ.length:Int))) (NG x13 x14 4<|NE (x13.ix x14)<|.call 98 [VS (mk [108]),.sl [[VS (((x13.ix x14).getD 0 .any).ai),((x13.ix x14).getD 1 .any)]]] [] fun r1 o1=>NA r1<|.call 98 [VS (mk [102]),.sl [[VS ((r1.cs.getD 0 .any).ai),(r1.cs.getD 1 .any)]]] [] fun r2 o2=>NA r2<|NG x13 x14 4<|NE ((x13.ix x14).drop 2)<|.al (cD 4 [[VS ((r2.cs.getD 0 .any).ai),(r2.cs.getD 1 .any),VS ((((x13.ix x14).drop 2).getD 0 .any).ai),(((x13.ix x14).drop 2).getD 1 .any)]]/\((e7.length)+([[VS ((r2.cs.getD 0 .any).ai),(r2.cs.getD 1 .any),VS ((((x13.ix x14).drop 2).getD 0 .any).ai),(((x13.ix x14).drop 2).getD 1 .any)]]:List (List AV)).length)*80<=140737488355328)<|.done 0 [VS x1,VS x12,x13,VI (IntKind.wrap .i64 (x14+1))] [.cells [VS o3_0,o3_1],.cells [VS o5_0,o5_1],.vec 4 (e7++([[VS ((r2.cs.getD 0 .any).ai),(r2.cs.getD 1 .any),VS ((((x13.ix x14).drop 2).getD 0 .any).ai),(((x13.ix x14).drop 2).getD 1 .any)]]:List (List AV)))]) (.done 1 [VS x1,VS x12] [.cells [VS o3_0,o3_1],.cells [VS o5_0,o5_1],.vec 4 e7])
abbrev E4:=cq Tryz.prog 244 Nv Fg
theorem Ih(x1:ByteArray)(x12:ByteArray)(x13:AV)(x14:Int)(o3_0:ByteArray)(o3_1:AV)(o5_0:ByteArray)(o5_1:AV)(e7:List (List AV))(h:jk 244 (Fc x1 x12 x13 x14 o3_0 o3_1 o5_0 o5_1 e7) E4 U):E4 [VS x1,VS x12,x13,VI x14] [.cells [VS o3_0,o3_1],.cells [VS o5_0,o5_1],.vec 4 e7] U :=
 gQ zg h
def G9(x1:ByteArray)(x15:AV)(x16:Int)(o3_0:ByteArray)(o3_1:AV)(e7:List (List AV)):Tree :=
 NS (VS x1)<|NL x15<|NI (VI x16)<|.al (Ob.cells [VS o3_0,o3_1]=.cells [VS o3_0,o3_1])<|.al (ac [.lk .str,.lk .sl] [VS o3_0,o3_1] 0 [.vec 4 e7])<|.al (Ob.vec 4 e7=.vec 4 e7)<|NL x15<|.test (decide (x16<(x15.aQ.length:Int))) (NG x15 x16 4<|NE ((x15.ix x16).drop 2)<|.call 92 [.agg [VS o3_0,o3_1],VS x1,.agg [VS ((((x15.ix x16).drop 2).getD 0 .any).ai),(((x15.ix x16).drop 2).getD 1 .any)]] [] fun r1 o1=>NL r1<|.loop LW Gy [VS x1,x15,VI x16,r1,VI 0] [.cells [VS o3_0,o3_1],.vec 4 e7] (fun y2 q2=>NS (y2.hA)<|NL (y2.tail.hA)<|NI (y2.tail.tail.hA)<|.al ((q2.hO)=.cells (q2.hO).cs)<|.al (ac [.lk .str,.lk .sl] ((q2.hO).cs) 0 q2.tail)<|.al (((q2.drop 1).hO)=.vec 4 ((q2.drop 1).hO).es)<|.done 0 [VS ((y2.hA).ai),(y2.tail.hA),VI (IntKind.wrap .i64 (((y2.tail.tail.hA).toInt)+1))] [.cells [VS (((q2.hO).cs.getD 0 .any).ai),((q2.hO).cs.getD 1 .any)],.vec 4 ((q2.tail.hO).es)]) (fun y2 q2=>.done 2 [] [])) (.done 1 [] [.vec 4 e7])
abbrev F0:=cq Tryz.prog 244 NO G8
theorem LJ(x1:ByteArray)(x15:AV)(x16:Int)(o3_0:ByteArray)(o3_1:AV)(e7:List (List AV))(h:jk 244 (G9 x1 x15 x16 o3_0 o3_1 e7) F0 U):F0 [VS x1,x15,VI x16] [.cells [VS o3_0,o3_1],.vec 4 e7] U :=
 gQ zg h
def D5(x1:ByteArray)(x15:AV)(x16:Int)(x17:AV)(x18:Int)(o3_0:ByteArray)(o3_1:AV)(e7:List (List AV)):Tree :=
 NS (VS x1)<|NL x15<|NI (VI x16)<|NL x17<|NI (VI x18)<|.al (Ob.cells [VS o3_0,o3_1]=.cells [VS o3_0,o3_1])<|.al (ac [.lk .str,.lk .sl] [VS o3_0,o3_1] 0 [.vec 4 e7])<|.al (Ob.vec 4 e7=.vec 4 e7)<|NL x17<|.test (decide (x18<(x17.aQ.length:Int))) (NG x15 x16 4<|NE (x15.ix x16)<|NG x17 x18 4<|NE (x17.ix x18)<|.call 98 [VS (mk [112]),.sl [[VS (((x15.ix x16).getD 0 .any).ai),((x15.ix x16).getD 1 .any)],[VS (((x17.ix x18).getD 0 .any).ai),((x17.ix x18).getD 1 .any)]]] [] fun r1 o1=>NA r1<|.call 98 [VS (mk [114]),.sl [[VS ((r1.cs.getD 0 .any).ai),(r1.cs.getD 1 .any)]]] [] fun r2 o2=>NA r2<|.call 98 [VS (mk [102]),.sl [[VS ((r2.cs.getD 0 .any).ai),(r2.cs.getD 1 .any)]]] [] fun r3 o3=>NA r3<|NG x17 x18 4<|NE ((x17.ix x18).drop 2)<|.al (cD 4 [[VS ((r3.cs.getD 0 .any).ai),(r3.cs.getD 1 .any),VS ((((x17.ix x18).drop 2).getD 0 .any).ai),(((x17.ix x18).drop 2).getD 1 .any)]]/\((e7.length)+([[VS ((r3.cs.getD 0 .any).ai),(r3.cs.getD 1 .any),VS ((((x17.ix x18).drop 2).getD 0 .any).ai),(((x17.ix x18).drop 2).getD 1 .any)]]:List (List AV)).length)*80<=140737488355328)<|.done 0 [VS x1,x15,VI x16,x17,VI (IntKind.wrap .i64 (x18+1))] [.cells [VS o3_0,o3_1],.vec 4 (e7++([[VS ((r3.cs.getD 0 .any).ai),(r3.cs.getD 1 .any),VS ((((x17.ix x18).drop 2).getD 0 .any).ai),(((x17.ix x18).drop 2).getD 1 .any)]]:List (List AV)))]) (.done 1 [VS x1,x15,VI x16] [.cells [VS o3_0,o3_1],.vec 4 e7])
abbrev Ft:=cq Tryz.prog 244 LW Gy
theorem K7(x1:ByteArray)(x15:AV)(x16:Int)(x17:AV)(x18:Int)(o3_0:ByteArray)(o3_1:AV)(e7:List (List AV))(h:jk 244 (D5 x1 x15 x16 x17 x18 o3_0 o3_1 e7) Ft U):Ft [VS x1,x15,VI x16,x17,VI x18] [.cells [VS o3_0,o3_1],.vec 4 e7] U :=
 gQ zg h
def HX(a0:ByteArray):Tree :=
 .call 108 [VS a0] [] fun r1 o1=>NP r1<|NP r1<|.test r1.isNil (.done 0 [.v (.pointer none)] []) (.call 127 [r1] [] fun r2 o2=>NB r2<|.test (!r2.toBool) (.done 0 [.v (.pointer none)] []) (.done 0 [r1] []))
theorem Rz(a0:ByteArray)(h:dr 14 (HX a0) R):an Tryz.prog 93 [VS a0] [] R :=
 uQ (af (aw _) aA) (oQ [] Tryz.f93 h)
def H7(a0:ByteArray):Tree :=
 .call 128 [VS a0] [] fun r1 o1=>NP r1<|NP r1<|.test r1.isNil (.done 0 [.v (.pointer none)] []) (.call 129 [r1] [] fun r2 o2=>NP r2<|NP r2<|.test r2.isNil (.done 0 [.v (.pointer none)] []) (.call 75 [r2] [] fun r3 o3=>NI r3<|.test (decide (r3.toInt>(200:Int))) (.done 0 [.v (.pointer none)] []) (.done 0 [r2] [])))
theorem QI(a0:ByteArray)(h:dr 19 (H7 a0) R):an Tryz.prog 94 [VS a0] [] R :=
 uQ (af (aw _) aA) (oQ [] Tryz.f94 h)
def zv(a0_0:AV)(a0_1:AV)(a1:AV)(a2:Int):Tree :=
 NZ a0_0<|NZ a0_0<|.al (LK.has (.int .u8) (a0_0.deref.hA)/\1<=a0_0.deref.length)<|.test (((a0_0.deref.hA).toInt)==(49:Int)) (NZ a1<|NZ a1<|.al (LK.has (.int .u8) (a1.deref.hA)/\1<=a1.deref.length)<|.done 0 [VB (((a1.deref.hA).toInt)==(117:Int))] []) (.test (((a0_0.deref.hA).toInt)==(110:Int)) (NZ a1<|NZ a1<|.al (LK.has (.int .u8) (a1.deref.hA)/\1<=a1.deref.length)<|.test (((a1.deref.hA).toInt) != (101:Int)) (.done 0 [VB false] []) (NZ a1<|NZ a1<|lI (a1.deref.drop 1)<|.al (0<=(1:Int)/\(1:Int)<=(ag (((a1.deref.drop 1).hA).ai):Int)/\(ag (((a1.deref.drop 1).hA).ai):Int)<=(ag (((a1.deref.drop 1).hA).ai):Int))<|.call 130 [VS (ci (((a1.deref.drop 1).hA).ai) (bE 1) (bE (ag (((a1.deref.drop 1).hA).ai):Int)))] [] fun r1 o1=>NT r1<|NI (r1.comp 0)<|.al (LK.has .j4 (r1.comp 1))<|.done 0 [VB (decide (((r1.comp 0).toInt)<a2))] [])) (.test (((a0_0.deref.hA).toInt)==(98:Int)) (.call 131 [.agg [a0_0,a0_1]] [] fun r2 o2=>NP r2<|NZ r2<|NZ r2<|.al (bC [.ptr,.ptr] r2.deref 0/\2<=r2.deref.length)<|.call 95 [.agg [(r2.deref.getD 0 .any),(r2.deref.getD 1 .any)],a1,VI a2] [] fun r3 o3=>NB r3<|.done 0 [VB r3.toBool] []) (.test (((a0_0.deref.hA).toInt)==(43:Int)) (NZ a1<|NZ a1<|.al (LK.has (.int .u8) (a1.deref.hA)/\1<=a1.deref.length)<|.test (((a1.deref.hA).toInt)==(108:Int)) (.call 113 [.agg [a0_0,a0_1]] [] fun r4 o4=>.al (r4=.agg r4.cs/\r4.cs.length=2/\bC [.ptr,.ptr] r4.cs 0)<|NZ a1<|NZ a1<|ef (a1.deref.drop 2)<|.call 95 [.agg [(r4.cs.getD 0 .any),(r4.cs.getD 1 .any)],((a1.deref.drop 2).hA),VI a2] [] fun r5 o5=>NB r5<|.test r5.toBool (.done 0 [VB true] []) (NZ a1<|NZ a1<|.al (LK.has (.int .u8) (a1.deref.hA)/\1<=a1.deref.length)<|.test (((a1.deref.hA).toInt)==(114:Int)) (.call 114 [.agg [a0_0,a0_1]] [] fun r6 o6=>.al (r6=.agg r6.cs/\r6.cs.length=2/\bC [.ptr,.ptr] r6.cs 0)<|NZ a1<|NZ a1<|ef (a1.deref.drop 2)<|.call 95 [.agg [(r6.cs.getD 0 .any),(r6.cs.getD 1 .any)],((a1.deref.drop 2).hA),VI a2] [] fun r7 o7=>NB r7<|.done 0 [VB r7.toBool] []) (.done 0 [VB false] []))) (NZ a1<|NZ a1<|.al (LK.has (.int .u8) (a1.deref.hA)/\1<=a1.deref.length)<|.test (((a1.deref.hA).toInt)==(114:Int)) (.call 114 [.agg [a0_0,a0_1]] [] fun r8 o8=>.al (r8=.agg r8.cs/\r8.cs.length=2/\bC [.ptr,.ptr] r8.cs 0)<|NZ a1<|NZ a1<|ef (a1.deref.drop 2)<|.call 95 [.agg [(r8.cs.getD 0 .any),(r8.cs.getD 1 .any)],((a1.deref.drop 2).hA),VI a2] [] fun r9 o9=>NB r9<|.done 0 [VB r9.toBool] []) (.done 0 [VB false] []))) (.test (((a0_0.deref.hA).toInt)==(42:Int)) (NZ a1<|NZ a1<|.al (LK.has (.int .u8) (a1.deref.hA)/\1<=a1.deref.length)<|.test (((a1.deref.hA).toInt)==(112:Int)) (.call 113 [.agg [a0_0,a0_1]] [] fun r10 o10=>.al (r10=.agg r10.cs/\r10.cs.length=2/\bC [.ptr,.ptr] r10.cs 0)<|NZ a1<|NZ a1<|ef (a1.deref.drop 2)<|.call 95 [.agg [(r10.cs.getD 0 .any),(r10.cs.getD 1 .any)],((a1.deref.drop 2).hA),VI a2] [] fun r11 o11=>NB r11<|.test r11.toBool (.call 114 [.agg [a0_0,a0_1]] [] fun r12 o12=>.al (r12=.agg r12.cs/\r12.cs.length=2/\bC [.ptr,.ptr] r12.cs 0)<|NZ a1<|NZ a1<|ef (a1.deref.drop 3)<|.call 95 [.agg [(r12.cs.getD 0 .any),(r12.cs.getD 1 .any)],((a1.deref.drop 3).hA),VI a2] [] fun r13 o13=>NB r13<|.done 0 [VB r13.toBool] []) (.done 0 [VB false] [])) (.done 0 [VB false] [])) (.test (((a0_0.deref.hA).toInt)==(114:Int)) (.call 86 [.agg [a0_0,a0_1]] [] fun r14 o14=>NT r14<|.al ((r14.comp 0)=.agg (r14.comp 0).cs/\(r14.comp 0).cs.length=2/\bC [.ptr,.ptr] ((r14.comp 0).cs) 0)<|NP (r14.comp 1)<|NZ a1<|NZ a1<|.al (LK.has (.int .u8) (a1.deref.hA)/\1<=a1.deref.length)<|.test (((a1.deref.hA).toInt)==(102:Int)) (NZ a1<|NZ a1<|ef (a1.deref.drop 2)<|.call 95 [.agg [((r14.comp 0).cs.getD 0 .any),((r14.comp 0).cs.getD 1 .any)],((a1.deref.drop 2).hA),VI a2] [] fun r15 o15=>NB r15<|.done 0 [VB r15.toBool] []) (.done 0 [VB false] [])) (.done 0 [VB false] []))))))
theorem MV(a0_0:AV)(a0_1:AV)(a1:AV)(a2:Int)(ha0_0:LK.has .ptr a0_0)(ha0_1:LK.has .ptr a0_1)(ha1:LK.has .ptr a1)(h:dr 134 (zv a0_0 a0_1 a1 a2) R):an Tryz.prog 95 [.agg [a0_0,a0_1],a1,VI a2] [] R :=
 uQ (af (bX (af (bq ha0_0) (af (bq ha0_1) aA))) (af (bq ha1) (af (aw _) aA))) (oQ [] Tryz.f95 h)
def Ji(a0:ByteArray):Tree :=
 .call 132 [VS a0] [] fun r1 o1=>NT r1<|.al ((r1.comp 0)=.agg (r1.comp 0).cs/\(r1.comp 0).cs.length=2/\bC [.str,.sl] ((r1.comp 0).cs) 0)<|NB (r1.comp 1)<|.test (!((r1.comp 1).toBool)) (.done 0 [.cN [VS (mk []),VB false]] []) (.call 121 [.agg [VS (((r1.comp 0).cs.getD 0 .any).ai),((r1.comp 0).cs.getD 1 .any)]] [] fun r2 o2=>NS r2<|.test (!(ae r2.ai==ae (mk [114,101,99]))) (.done 0 [.cN [VS (mk []),VB false]] []) (.call 133 [.agg [VS (((r1.comp 0).cs.getD 0 .any).ai),((r1.comp 0).cs.getD 1 .any)]] [] fun r3 o3=>NT r3<|.al ((r3.comp 0)=.agg (r3.comp 0).cs/\(r3.comp 0).cs.length=2/\bC [.str,.sl] ((r3.comp 0).cs) 0)<|NB (r3.comp 1)<|.test (!((r3.comp 1).toBool)) (.done 0 [.cN [VS (mk []),VB false]] []) (.call 134 [.agg [VS (((r3.comp 0).cs.getD 0 .any).ai),((r3.comp 0).cs.getD 1 .any)]] [] fun r4 o4=>NT r4<|NS (r4.comp 0)<|NB (r4.comp 1)<|.done 0 [.cN [VS ((r4.comp 0).ai),VB ((r4.comp 1).toBool)]] [])))
theorem P0(a0:ByteArray)(h:dr 31 (Ji a0) R):an Tryz.prog 96 [VS a0] [] R :=
 uQ (af (aw _) aA) (oQ [] Tryz.f96 h)
def Gw:LI:={hd:={bu:=[(3,.k .str),(4,.k (.int .i64))],refs:=[(1,1)],co:=[(1,[.lk .str,.lk .sl])]},xs:={bu:=[(3,.k .str)]},rt:={},ex:=0}
def Kb:Code:=cu (cn Tryz.f97) 5
def Lf:List (Nat×LI):=[(5,Gw)]
def BV(a0_0:ByteArray)(a0_1:AV):Tree :=
 .test (!(ae a0_0==ae (mk []))) (.done 0 [VS a0_0] []) (.loop Kb Gw [VS (mk [40]),VI 0] [.cells [VS a0_0,a0_1]] (fun y3 q3=>NS (y3.hA)<|.al (ag ((y3.hA).ai)+ag (mk [41])<=9223372036854775807)<|.done 0 [VS ((((y3.hA).ai):ByteArray)++(mk [41]))] []) (fun y3 q3=>.done 0 [.any] []))
theorem GO(a0_0:ByteArray)(a0_1:AV)(ha0_1:LK.has .sl a0_1)(h:dr 31 (BV a0_0 a0_1) R):an Tryz.prog 97 [.agg [VS a0_0,a0_1]] [] R :=
 uQ (af (bX (af (aw _) (af (bZ ha0_1) aA))) aA) (oQ Lf Tryz.f97 h)
def AZ(x3:ByteArray)(x4:Int)(o1_0:ByteArray)(o1_1:AV):Tree :=
 NS (VS x3)<|NI (VI x4)<|.al (Ob.cells [VS o1_0,o1_1]=.cells [VS o1_0,o1_1])<|.al (ac [.lk .str,.lk .sl] [VS o1_0,o1_1] 0 [])<|NL o1_1<|.test (decide (x4<(o1_1.aQ.length:Int))) (.test (decide (x4>(0:Int))) (.al (ag x3+ag (mk [32])<=9223372036854775807)<|NG o1_1 x4 2<|NE (o1_1.ix x4)<|.call 97 [.agg [VS (((o1_1.ix x4).getD 0 .any).ai),((o1_1.ix x4).getD 1 .any)]] [] fun r1 o1=>NS r1<|.al (ag ((x3:ByteArray)++(mk [32]))+ag r1.ai<=9223372036854775807)<|.done 0 [VS ((((x3:ByteArray)++(mk [32])):ByteArray)++r1.ai),VI (IntKind.wrap .i64 (x4+1))] [.cells [VS o1_0,o1_1]]) (NG o1_1 x4 2<|NE (o1_1.ix x4)<|.call 97 [.agg [VS (((o1_1.ix x4).getD 0 .any).ai),((o1_1.ix x4).getD 1 .any)]] [] fun r2 o2=>NS r2<|.al (ag x3+ag r2.ai<=9223372036854775807)<|.done 0 [VS ((x3:ByteArray)++r2.ai),VI (IntKind.wrap .i64 (x4+1))] [.cells [VS o1_0,o1_1]])) (.done 1 [VS x3] [])
abbrev zM:=cq Tryz.prog 31 Kb Gw
theorem C5(x3:ByteArray)(x4:Int)(o1_0:ByteArray)(o1_1:AV)(h:jk 31 (AZ x3 x4 o1_0 o1_1) zM U):zM [VS x3,VI x4] [.cells [VS o1_0,o1_1]] U :=
 gQ Lf h
def FH(a0:ByteArray)(a1:AV):Tree :=
 .al (LK.has .sl a1/\cD 2 a1.aQ/\((([[VS a0,.v (.slice none 0 0)]]:List (List AV)).length)+a1.aQ.length)*40<=140737488355328)<|.done 0 [.agg [VS (mk []),.sl (([[VS a0,.v (.slice none 0 0)]]:List (List AV))++a1.aQ)]] []
theorem HU(a0:ByteArray)(a1:AV)(ha1:LK.has .sl a1)(h:dr 11 (FH a0 a1) R):an Tryz.prog 98 [VS a0,a1] [] R :=
 uQ (af (aw _) (af (bZ ha1) aA)) (oQ [] Tryz.f98 h)
def CY(a0_0:ByteArray)(a0_1:AV)(a1:ByteArray)(a2_0:ByteArray)(a2_1:AV)(a3_0:ByteArray)(a3_1:AV):Tree :=
 .test (!(ae a0_0==ae (mk []))) (.done 0 [.agg [VS a3_0,a3_1]] []) (NG a2_1 1 2<|NE (a2_1.ix (1:Int))<|.call 121 [.agg [VS a0_0,a0_1]] [] fun r1 o1=>NS r1<|.call 121 [.agg [VS a2_0,a2_1]] [] fun r2 o2=>NS r2<|.al (ag r1.ai+ag r2.ai<=9223372036854775807)<|.test (ae ((r1.ai:ByteArray)++r2.ai)==ae (mk [43,108])) (NG a0_1 1 2<|NE (a0_1.ix (1:Int))<|.call 99 [.agg [VS (((a0_1.ix (1:Int)).getD 0 .any).ai),((a0_1.ix (1:Int)).getD 1 .any)],VS a1,.agg [VS (((a2_1.ix (1:Int)).getD 0 .any).ai),((a2_1.ix (1:Int)).getD 1 .any)],.agg [VS a3_0,a3_1]] [] fun r3 o3=>NA r3<|.call 98 [VS (mk [108]),.sl [[VS ((r3.cs.getD 0 .any).ai),(r3.cs.getD 1 .any)]]] [] fun r4 o4=>NA r4<|.done 0 [.agg [VS ((r4.cs.getD 0 .any).ai),(r4.cs.getD 1 .any)]] []) (.test (ae ((r1.ai:ByteArray)++r2.ai)==ae (mk [43,114])) (NG a0_1 2 2<|NE (a0_1.ix (2:Int))<|.call 99 [.agg [VS (((a0_1.ix (2:Int)).getD 0 .any).ai),((a0_1.ix (2:Int)).getD 1 .any)],VS a1,.agg [VS (((a2_1.ix (1:Int)).getD 0 .any).ai),((a2_1.ix (1:Int)).getD 1 .any)],.agg [VS a3_0,a3_1]] [] fun r5 o5=>NA r5<|.call 98 [VS (mk [114]),.sl [[VS ((r5.cs.getD 0 .any).ai),(r5.cs.getD 1 .any)]]] [] fun r6 o6=>NA r6<|.done 0 [.agg [VS ((r6.cs.getD 0 .any).ai),(r6.cs.getD 1 .any)]] []) (.test (ae ((r1.ai:ByteArray)++r2.ai)==ae (mk [42,108])) (NG a0_1 1 2<|NE (a0_1.ix (1:Int))<|NG ((a2_1.ix (1:Int)).getD 1 .any) 1 2<|NE (((a2_1.ix (1:Int)).getD 1 .any).ix (1:Int))<|.call 99 [.agg [VS (((a0_1.ix (1:Int)).getD 0 .any).ai),((a0_1.ix (1:Int)).getD 1 .any)],VS a1,.agg [VS (((((a2_1.ix (1:Int)).getD 1 .any).ix (1:Int)).getD 0 .any).ai),((((a2_1.ix (1:Int)).getD 1 .any).ix (1:Int)).getD 1 .any)],.agg [VS a3_0,a3_1]] [] fun r7 o7=>NA r7<|NG ((a2_1.ix (1:Int)).getD 1 .any) 2 2<|NE (((a2_1.ix (1:Int)).getD 1 .any).ix (2:Int))<|.call 98 [VS (mk [112]),.sl [[VS ((r7.cs.getD 0 .any).ai),(r7.cs.getD 1 .any)],[VS (((((a2_1.ix (1:Int)).getD 1 .any).ix (2:Int)).getD 0 .any).ai),((((a2_1.ix (1:Int)).getD 1 .any).ix (2:Int)).getD 1 .any)]]] [] fun r8 o8=>NA r8<|.done 0 [.agg [VS ((r8.cs.getD 0 .any).ai),(r8.cs.getD 1 .any)]] []) (.test (ae ((r1.ai:ByteArray)++r2.ai)==ae (mk [42,114])) (NG ((a2_1.ix (1:Int)).getD 1 .any) 1 2<|NE (((a2_1.ix (1:Int)).getD 1 .any).ix (1:Int))<|NG a0_1 2 2<|NE (a0_1.ix (2:Int))<|NG ((a2_1.ix (1:Int)).getD 1 .any) 2 2<|NE (((a2_1.ix (1:Int)).getD 1 .any).ix (2:Int))<|.call 99 [.agg [VS (((a0_1.ix (2:Int)).getD 0 .any).ai),((a0_1.ix (2:Int)).getD 1 .any)],VS a1,.agg [VS (((((a2_1.ix (1:Int)).getD 1 .any).ix (2:Int)).getD 0 .any).ai),((((a2_1.ix (1:Int)).getD 1 .any).ix (2:Int)).getD 1 .any)],.agg [VS a3_0,a3_1]] [] fun r9 o9=>NA r9<|.call 98 [VS (mk [112]),.sl [[VS (((((a2_1.ix (1:Int)).getD 1 .any).ix (1:Int)).getD 0 .any).ai),((((a2_1.ix (1:Int)).getD 1 .any).ix (1:Int)).getD 1 .any)],[VS ((r9.cs.getD 0 .any).ai),(r9.cs.getD 1 .any)]]] [] fun r10 o10=>NA r10<|.done 0 [.agg [VS ((r10.cs.getD 0 .any).ai),(r10.cs.getD 1 .any)]] []) (.call 121 [.agg [VS (((a2_1.ix (1:Int)).getD 0 .any).ai),((a2_1.ix (1:Int)).getD 1 .any)]] [] fun r11 o11=>NS r11<|.test (ae r11.ai==ae (mk [108])) (NG a0_1 2 2<|NE (a0_1.ix (2:Int))<|NG ((a2_1.ix (1:Int)).getD 1 .any) 1 2<|NE (((a2_1.ix (1:Int)).getD 1 .any).ix (1:Int))<|.call 99 [.agg [VS (((a0_1.ix (2:Int)).getD 0 .any).ai),((a0_1.ix (2:Int)).getD 1 .any)],VS a1,.agg [VS (((((a2_1.ix (1:Int)).getD 1 .any).ix (1:Int)).getD 0 .any).ai),((((a2_1.ix (1:Int)).getD 1 .any).ix (1:Int)).getD 1 .any)],.agg [VS a3_0,a3_1]] [] fun r12 o12=>NA r12<|.call 98 [VS (mk [102]),.sl [[VS ((r12.cs.getD 0 .any).ai),(r12.cs.getD 1 .any)]]] [] fun r13 o13=>NA r13<|.done 0 [.agg [VS ((r13.cs.getD 0 .any).ai),(r13.cs.getD 1 .any)]] []) (NG ((a2_1.ix (1:Int)).getD 1 .any) 1 2<|NE (((a2_1.ix (1:Int)).getD 1 .any).ix (1:Int))<|NG ((((a2_1.ix (1:Int)).getD 1 .any).ix (1:Int)).getD 1 .any) 2 2<|NE (((((a2_1.ix (1:Int)).getD 1 .any).ix (1:Int)).getD 1 .any).ix (2:Int))<|.call 99 [.agg [VS a0_0,a0_1],VS a1,.agg [VS (((((((a2_1.ix (1:Int)).getD 1 .any).ix (1:Int)).getD 1 .any).ix (2:Int)).getD 0 .any).ai),((((((a2_1.ix (1:Int)).getD 1 .any).ix (1:Int)).getD 1 .any).ix (2:Int)).getD 1 .any)],.agg [VS a3_0,a3_1]] [] fun r14 o14=>NA r14<|NG a0_1 2 2<|NE (a0_1.ix (2:Int))<|NG a0_1 1 2<|lI (a0_1.ix (1:Int))<|NG ((((a2_1.ix (1:Int)).getD 1 .any).ix (1:Int)).getD 1 .any) 1 2<|NE (((((a2_1.ix (1:Int)).getD 1 .any).ix (1:Int)).getD 1 .any).ix (1:Int))<|.call 99 [.agg [VS (((a0_1.ix (2:Int)).getD 0 .any).ai),((a0_1.ix (2:Int)).getD 1 .any)],VS (((a0_1.ix (1:Int)).hA).ai),.agg [VS (((((((a2_1.ix (1:Int)).getD 1 .any).ix (1:Int)).getD 1 .any).ix (1:Int)).getD 0 .any).ai),((((((a2_1.ix (1:Int)).getD 1 .any).ix (1:Int)).getD 1 .any).ix (1:Int)).getD 1 .any)],.agg [VS ((r14.cs.getD 0 .any).ai),(r14.cs.getD 1 .any)]] [] fun r15 o15=>NA r15<|.call 98 [VS (mk [102]),.sl [[VS ((r15.cs.getD 0 .any).ai),(r15.cs.getD 1 .any)]]] [] fun r16 o16=>NA r16<|.done 0 [.agg [VS ((r16.cs.getD 0 .any).ai),(r16.cs.getD 1 .any)]] []))))))
theorem RE(a0_0:ByteArray)(a0_1:AV)(a1:ByteArray)(a2_0:ByteArray)(a2_1:AV)(a3_0:ByteArray)(a3_1:AV)(ha0_1:LK.has .sl a0_1)(ha2_1:LK.has .sl a2_1)(ha3_1:LK.has .sl a3_1)(h:dr 132 (CY a0_0 a0_1 a1 a2_0 a2_1 a3_0 a3_1) R):an Tryz.prog 99 [.agg [VS a0_0,a0_1],VS a1,.agg [VS a2_0,a2_1],.agg [VS a3_0,a3_1]] [] R :=
 uQ (af (bX (af (aw _) (af (bZ ha0_1) aA))) (af (aw _) (af (bX (af (aw _) (af (bZ ha2_1) aA))) (af (bX (af (aw _) (af (bZ ha3_1) aA))) aA)))) (oQ [] Tryz.f99 h)
def Iz(a0:Int)(a1:AV):Tree :=
 .done 0 [.ptr [.v (.int .u8 a0),VS (mk []),a1,.v (.pointer none)]] []
theorem OR(a0:Int)(a1:AV)(ha1:LK.has .ptr a1)(h:dr 9 (Iz a0 a1) R):an Tryz.prog 100 [.v (.int .u8 a0),a1] [] R :=
 uQ (af (aw _) (af (bq ha1) aA)) (oQ [] Tryz.f100 h)
def Ag(a0_0:AV)(a0_1:AV)(a1:AV)(a2_0:ByteArray)(a2_1:AV)(a3:AV):Tree :=
 NZ a0_0<|NZ a0_0<|.al (LK.has (.int .u8) (a0_0.deref.hA)/\1<=a0_0.deref.length)<|.test (((a0_0.deref.hA).toInt)==(43:Int)) (.call 113 [.agg [a0_0,a0_1]] [] fun r1 o1=>.al (r1=.agg r1.cs/\r1.cs.length=2/\bC [.ptr,.ptr] r1.cs 0)<|NZ a1<|NZ a1<|.al (LK.has (.int .u8) (a1.deref.hA)/\1<=a1.deref.length)<|.test (((a1.deref.hA).toInt)==(114:Int)) (.call 114 [.agg [a0_0,a0_1]] [] fun r2 o2=>.al (r2=.agg r2.cs/\r2.cs.length=2/\bC [.ptr,.ptr] r2.cs 0)<|NZ a1<|NZ a1<|.al (LK.has (.int .u8) (a1.deref.hA)/\1<=a1.deref.length)<|NZ a1<|NZ a1<|ef (a1.deref.drop 2)<|.call 101 [.agg [(r2.cs.getD 0 .any),(r2.cs.getD 1 .any)],((a1.deref.drop 2).hA),.agg [VS a2_0,a2_1],a3] [] fun r3 o3=>NP r3<|.call 100 [.v (.int .u8 ((a1.deref.hA).toInt)),r3] [] fun r4 o4=>NP r4<|.done 0 [r4] []) (NZ a1<|NZ a1<|.al (LK.has (.int .u8) (a1.deref.hA)/\1<=a1.deref.length)<|NZ a1<|NZ a1<|ef (a1.deref.drop 2)<|.call 101 [.agg [(r1.cs.getD 0 .any),(r1.cs.getD 1 .any)],((a1.deref.drop 2).hA),.agg [VS a2_0,a2_1],a3] [] fun r5 o5=>NP r5<|.call 100 [.v (.int .u8 ((a1.deref.hA).toInt)),r5] [] fun r6 o6=>NP r6<|.done 0 [r6] [])) (.test (((a0_0.deref.hA).toInt)==(42:Int)) (NZ a1<|NZ a1<|.al (LK.has (.int .u8) (a1.deref.hA)/\1<=a1.deref.length)<|.test (((a1.deref.hA).toInt)==(108:Int)) (.call 113 [.agg [a0_0,a0_1]] [] fun r7 o7=>.al (r7=.agg r7.cs/\r7.cs.length=2/\bC [.ptr,.ptr] r7.cs 0)<|NZ a1<|NZ a1<|ef (a1.deref.drop 2)<|NZ ((a1.deref.drop 2).hA)<|NZ ((a1.deref.drop 2).hA)<|ef (((a1.deref.drop 2).hA).deref.drop 2)<|.call 101 [.agg [(r7.cs.getD 0 .any),(r7.cs.getD 1 .any)],((((a1.deref.drop 2).hA).deref.drop 2).hA),.agg [VS a2_0,a2_1],a3] [] fun r8 o8=>NP r8<|NZ a1<|NZ a1<|ef (a1.deref.drop 2)<|NZ ((a1.deref.drop 2).hA)<|NZ ((a1.deref.drop 2).hA)<|ef (((a1.deref.drop 2).hA).deref.drop 3)<|.call 117 [r8,((((a1.deref.drop 2).hA).deref.drop 3).hA)] [] fun r9 o9=>NP r9<|.done 0 [r9] []) (NZ a1<|NZ a1<|ef (a1.deref.drop 2)<|NZ ((a1.deref.drop 2).hA)<|NZ ((a1.deref.drop 2).hA)<|ef (((a1.deref.drop 2).hA).deref.drop 2)<|.call 114 [.agg [a0_0,a0_1]] [] fun r10 o10=>.al (r10=.agg r10.cs/\r10.cs.length=2/\bC [.ptr,.ptr] r10.cs 0)<|NZ a1<|NZ a1<|ef (a1.deref.drop 2)<|NZ ((a1.deref.drop 2).hA)<|NZ ((a1.deref.drop 2).hA)<|ef (((a1.deref.drop 2).hA).deref.drop 3)<|.call 101 [.agg [(r10.cs.getD 0 .any),(r10.cs.getD 1 .any)],((((a1.deref.drop 2).hA).deref.drop 3).hA),.agg [VS a2_0,a2_1],a3] [] fun r11 o11=>NP r11<|.call 117 [((((a1.deref.drop 2).hA).deref.drop 2).hA),r11] [] fun r12 o12=>NP r12<|.done 0 [r12] [])) (.test (((a0_0.deref.hA).toInt)==(114:Int)) (.call 86 [.agg [a0_0,a0_1]] [] fun r13 o13=>NT r13<|.al ((r13.comp 0)=.agg (r13.comp 0).cs/\(r13.comp 0).cs.length=2/\bC [.ptr,.ptr] ((r13.comp 0).cs) 0)<|NP (r13.comp 1)<|NZ a1<|NZ a1<|ef (a1.deref.drop 2)<|NZ ((a1.deref.drop 2).hA)<|NZ ((a1.deref.drop 2).hA)<|.al (LK.has (.int .u8) (((a1.deref.drop 2).hA).deref.hA)/\1<=(((a1.deref.drop 2).hA).deref).length)<|.test (((((a1.deref.drop 2).hA).deref.hA).toInt)==(108:Int)) (NZ a1<|NZ a1<|ef (a1.deref.drop 2)<|NZ ((a1.deref.drop 2).hA)<|NZ ((a1.deref.drop 2).hA)<|ef (((a1.deref.drop 2).hA).deref.drop 2)<|.call 101 [.agg [((r13.comp 0).cs.getD 0 .any),((r13.comp 0).cs.getD 1 .any)],((((a1.deref.drop 2).hA).deref.drop 2).hA),.agg [VS a2_0,a2_1],a3] [] fun r14 o14=>NP r14<|.call 100 [.v (.int .u8 102),r14] [] fun r15 o15=>NP r15<|.done 0 [r15] []) (NZ a1<|NZ a1<|ef (a1.deref.drop 2)<|NZ ((a1.deref.drop 2).hA)<|NZ ((a1.deref.drop 2).hA)<|ef (((a1.deref.drop 2).hA).deref.drop 2)<|NZ ((((a1.deref.drop 2).hA).deref.drop 2).hA)<|NZ ((((a1.deref.drop 2).hA).deref.drop 2).hA)<|ef (((((a1.deref.drop 2).hA).deref.drop 2).hA).deref.drop 3)<|.call 101 [.agg [a0_0,a0_1],((((((a1.deref.drop 2).hA).deref.drop 2).hA).deref.drop 3).hA),.agg [VS a2_0,a2_1],a3] [] fun r16 o16=>NP r16<|NZ a1<|NZ a1<|ef (a1.deref.drop 2)<|NZ ((a1.deref.drop 2).hA)<|NZ ((a1.deref.drop 2).hA)<|ef (((a1.deref.drop 2).hA).deref.drop 2)<|NZ ((((a1.deref.drop 2).hA).deref.drop 2).hA)<|NZ ((((a1.deref.drop 2).hA).deref.drop 2).hA)<|ef (((((a1.deref.drop 2).hA).deref.drop 2).hA).deref.drop 2)<|.call 101 [.agg [((r13.comp 0).cs.getD 0 .any),((r13.comp 0).cs.getD 1 .any)],((((((a1.deref.drop 2).hA).deref.drop 2).hA).deref.drop 2).hA),.agg [VS (mk []),(r13.comp 1)],r16] [] fun r17 o17=>NP r17<|.call 100 [.v (.int .u8 102),r17] [] fun r18 o18=>NP r18<|.done 0 [r18] [])) (.done 0 [a3] [])))
theorem QR(a0_0:AV)(a0_1:AV)(a1:AV)(a2_0:ByteArray)(a2_1:AV)(a3:AV)(ha0_0:LK.has .ptr a0_0)(ha0_1:LK.has .ptr a0_1)(ha1:LK.has .ptr a1)(ha2_1:LK.has .ptr a2_1)(ha3:LK.has .ptr a3)(h:dr 147 (Ag a0_0 a0_1 a1 a2_0 a2_1 a3) R):an Tryz.prog 101 [.agg [a0_0,a0_1],a1,.agg [VS a2_0,a2_1],a3] [] R :=
 uQ (af (bX (af (bq ha0_0) (af (bq ha0_1) aA))) (af (bq ha1) (af (bX (af (aw _) (af (bq ha2_1) aA))) (af (bq ha3) aA)))) (oQ [] Tryz.f101 h)
def FU:LI:={hd:={bu:=[(7,.k (.int .i64))],refs:=[(2,2),(4,4)],co:=[(2,[.lk .str,.lk .sl]),(4,[.lk .str,.lk .sl])],eB:=[(6,1)]},xs:={refs:=[(2,2),(4,4)],co:=[(2,[.lk .str,.lk .sl]),(4,[.lk .str,.lk .sl])]},rt:={bu:=[(3,.k .bool)],refs:=[(2,2)],co:=[(2,[.lk .str,.lk .sl])]},ex:=0}
def KD:Code:=cu (cn Tryz.f104) 6
def Na:List (Nat×LI):=[(6,FU)]
def Mf(a0:ByteArray):Tree :=
 .call 132 [VS a0] [] fun r1 o1=>NT r1<|.al ((r1.comp 0)=.agg (r1.comp 0).cs/\(r1.comp 0).cs.length=2/\bC [.str,.sl] ((r1.comp 0).cs) 0)<|NB (r1.comp 1)<|.test (!((r1.comp 1).toBool)) (.done 0 [.cN [.agg [VS (((r1.comp 0).cs.getD 0 .any).ai),((r1.comp 0).cs.getD 1 .any)],VB false]] []) (.call 137 [.agg [VS (((r1.comp 0).cs.getD 0 .any).ai),((r1.comp 0).cs.getD 1 .any)],.sl [],.vec 0] [.vec 1 []] fun r2 o2=>.al (r2=.vec 1/\(o2.tail.hO)=.vec 1 (o2.tail.hO).es)<|.loop KD FU [VI 0] [.cells [VS (mk []),.v (.slice none 0 0)],.cells [VS (((r1.comp 0).cs.getD 0 .any).ai),((r1.comp 0).cs.getD 1 .any)],.vec 1 ((o2.tail.hO).es)] (fun y4 q4=>.al ((q4.hO)=.cells (q4.hO).cs)<|.al (ac [.lk .str,.lk .sl] ((q4.hO).cs) 0 q4.tail)<|.al (((q4.tail.drop 0).hO)=.cells ((q4.tail.drop 0).hO).cs)<|.al (ac [.lk .str,.lk .sl] (((q4.tail.drop 0).hO).cs) 0 ((q4.tail.drop 0).tail))<|.done 0 [.cN [.agg [VS (((q4.tail.hO).cs.getD 0 .any).ai),((q4.tail.hO).cs.getD 1 .any)],VB true]] []) (fun y4 q4=>NB (y4.hA)<|.al ((q4.hO)=.cells (q4.hO).cs)<|.al (ac [.lk .str,.lk .sl] ((q4.hO).cs) 0 q4.tail)<|.done 0 [.cN [.agg [VS (((q4.hO).cs.getD 0 .any).ai),((q4.hO).cs.getD 1 .any)],VB ((y4.hA).toBool)]] []))
theorem OW(a0:ByteArray)(h:dr 33 (Mf a0) R):an Tryz.prog 104 [VS a0] [] R :=
 uQ (af (aw _) aA) (oQ Na Tryz.f104 h)
def EU(x7:Int)(o2_0:ByteArray)(o2_1:AV)(o4_0:ByteArray)(o4_1:AV)(e6:List (List AV)):Tree :=
 NI (VI x7)<|.al (Ob.cells [VS o2_0,o2_1]=.cells [VS o2_0,o2_1])<|.al (ac [.lk .str,.lk .sl] [VS o2_0,o2_1] 0 [.cells [VS o4_0,o4_1],.vec 1 e6])<|.al (Ob.cells [VS o4_0,o4_1]=.cells [VS o4_0,o4_1])<|.al (ac [.lk .str,.lk .sl] [VS o4_0,o4_1] 0 [.vec 1 e6])<|.al (Ob.vec 1 e6=.vec 1 e6)<|.test (decide (x7<(e6.length:Int))) (.al (0<=x7/\x7<e6.length)<|.al (x7.toNat<e6.length/\0<(e6.getD x7.toNat []).length/\LK.has .str ((e6.getD x7.toNat []).getD 0 .any))<|.call 138 [VS (((e6.getD x7.toNat []).getD 0 .any).ai)] [] fun r1 o1=>NB r1<|.test r1.toBool (.done 2 [VB false] [.cells [VS o4_0,o4_1]]) (.done 0 [VI (IntKind.wrap .i64 (x7+1))] [.cells [VS o2_0,o2_1],.cells [VS o4_0,o4_1],.vec 1 e6])) (.done 1 [] [.cells [VS o2_0,o2_1],.cells [VS o4_0,o4_1]])
abbrev FX:=cq Tryz.prog 33 KD FU
theorem Jr(x7:Int)(o2_0:ByteArray)(o2_1:AV)(o4_0:ByteArray)(o4_1:AV)(e6:List (List AV))(h:jk 33 (EU x7 o2_0 o2_1 o4_0 o4_1 e6) FX U):FX [VI x7] [.cells [VS o2_0,o2_1],.cells [VS o4_0,o4_1],.vec 1 e6] U :=
 gQ Na h
def F1:LI:={hd:={bu:=[(1,.k .sl),(6,.k (.int .i64))],refs:=[(2,2),(4,4)],co:=[(2,[.lk .str,.lk .sl]),(4,[.lk .str,.lk .sl])],eB:=[(5,1)]},xs:={refs:=[(2,2),(4,4)],co:=[(2,[.lk .str,.lk .sl]),(4,[.lk .str,.lk .sl])],eB:=[(5,1)]},rt:={},ex:=0}
def Mp:Code:=cu (cn Tryz.f106) 3
def ME:List (Nat×LI):=[(3,F1)]
def Mn(a0_0:ByteArray)(a0_1:AV)(a1:AV):Tree :=
 .call 137 [.agg [VS a0_0,a0_1],.sl [],.vec 0] [.vec 1 []] fun r1 o1=>.al (r1=.vec 1/\(o1.tail.hO)=.vec 1 (o1.tail.hO).es)<|.loop Mp F1 [a1,VI 0] [.cells [VS a0_0,a0_1],.cells [VS (mk []),.v (.slice none 0 0)],.vec 1 ((o1.tail.hO).es)] (fun y3 q3=>.al ((q3.hO)=.cells (q3.hO).cs)<|.al (ac [.lk .str,.lk .sl] ((q3.hO).cs) 0 q3.tail)<|.al (((q3.tail.drop 0).hO)=.cells ((q3.tail.drop 0).hO).cs)<|.al (ac [.lk .str,.lk .sl] (((q3.tail.drop 0).hO).cs) 0 ((q3.tail.drop 0).tail))<|.al (((q3.drop 2).hO)=.vec 1 ((q3.drop 2).hO).es)<|.call 143 [.agg [VS (((q3.hO).cs.getD 0 .any).ai),((q3.hO).cs.getD 1 .any)],.sl [],.sl [],.ref 0 0] [.cells [.vec 1,VI 0],.vec 1 ((q3.tail.tail.hO).es)] fun r4 o4=>.al ((o4.hO)=.cells (o4.hO).cs)<|.al (bm [.vec 1,.lk (.int .i64)] ((o4.hO).cs) 0 1 o4.tail)<|NA r4<|.done 0 [.agg [VS ((r4.cs.getD 0 .any).ai),(r4.cs.getD 1 .any)]] []) (fun y3 q3=>.fail)
theorem OX(a0_0:ByteArray)(a0_1:AV)(a1:AV)(ha0_1:LK.has .sl a0_1)(ha1:LK.has .sl a1)(h:dr 33 (Mn a0_0 a0_1 a1) R):an Tryz.prog 106 [.agg [VS a0_0,a0_1],a1] [] R :=
 uQ (af (bX (af (aw _) (af (bZ ha0_1) aA))) (af (bZ ha1) aA)) (oQ ME Tryz.f106 h)
def DY(x1:AV)(x6:Int)(o2_0:ByteArray)(o2_1:AV)(o4_0:ByteArray)(o4_1:AV)(e5:List (List AV)):Tree :=
 NL x1<|NI (VI x6)<|.al (Ob.cells [VS o2_0,o2_1]=.cells [VS o2_0,o2_1])<|.al (ac [.lk .str,.lk .sl] [VS o2_0,o2_1] 0 [.cells [VS o4_0,o4_1],.vec 1 e5])<|.al (Ob.cells [VS o4_0,o4_1]=.cells [VS o4_0,o4_1])<|.al (ac [.lk .str,.lk .sl] [VS o4_0,o4_1] 0 [.vec 1 e5])<|.al (Ob.vec 1 e5=.vec 1 e5)<|NL x1<|.test (decide (x6<(x1.aQ.length:Int))) (NG x1 x6 2<|NE (x1.ix x6)<|.call 137 [.agg [VS (((x1.ix x6).getD 0 .any).ai),((x1.ix x6).getD 1 .any)],.sl [],.vec 0] [.vec 1 []] fun r1 o1=>.al (r1=.vec 1/\(o1.tail.hO)=.vec 1 (o1.tail.hO).es)<|.al (cD 1 ((o1.tail.hO).es)/\((e5.length)+((o1.tail.hO).es).length)*16<=140737488355328)<|.done 0 [x1,VI (IntKind.wrap .i64 (x6+1))] [.cells [VS o2_0,o2_1],.cells [VS o4_0,o4_1],.vec 1 (e5++((o1.tail.hO).es))]) (.done 1 [] [.cells [VS o2_0,o2_1],.cells [VS o4_0,o4_1],.vec 1 e5])
abbrev GU:=cq Tryz.prog 33 Mp F1
theorem Mu(x1:AV)(x6:Int)(o2_0:ByteArray)(o2_1:AV)(o4_0:ByteArray)(o4_1:AV)(e5:List (List AV))(h:jk 33 (DY x1 x6 o2_0 o2_1 o4_0 o4_1 e5) GU U):GU [x1,VI x6] [.cells [VS o2_0,o2_1],.cells [VS o4_0,o4_1],.vec 1 e5] U :=
 gQ ME h
def Ix(a0:ByteArray):Tree :=
 .call 93 [VS a0] [] fun r1 o1=>NP r1<|NP r1<|.test r1.isNil (.done 0 [.v (.pointer none)] []) (NZ r1<|NZ r1<|.al (LK.has (.int .u8) (r1.deref.hA)/\1<=r1.deref.length)<|.test (((r1.deref.hA).toInt) != (114:Int)) (.done 0 [.v (.pointer none)] []) (.done 0 [r1] []))
theorem RB(a0:ByteArray)(h:dr 16 (Ix a0) R):an Tryz.prog 107 [VS a0] [] R :=
 uQ (af (aw _) aA) (oQ [] Tryz.f107 h)
def Jg(a0:ByteArray):Tree :=
 .call 128 [VS a0] [] fun r1 o1=>NP r1<|NP r1<|.test r1.isNil (.done 0 [.v (.pointer none)] []) (.call 144 [r1,.v (.slice none 0 0)] [] fun r2 o2=>NP r2<|NP r2<|.test r2.isNil (.done 0 [.v (.pointer none)] []) (.call 145 [r2] [] fun r3 o3=>NI r3<|.test (decide (r3.toInt>(400:Int))) (.done 0 [.v (.pointer none)] []) (.done 0 [r2] [])))
theorem Ox(a0:ByteArray)(h:dr 19 (Jg a0) R):an Tryz.prog 108 [VS a0] [] R :=
 uQ (af (aw _) aA) (oQ [] Tryz.f108 h)
def N0(a0:AV):Tree :=
 .call 146 [.ref 0 0] [.cells [VI 0,VB false]] fun r1 o1=>.al ((o1.hO)=.cells (o1.hO).cs)<|.al (bm [.lk (.int .i64),.lk .bool] ((o1.hO).cs) 0 1 o1.tail)<|NS r1<|NZ a0<|NZ a0<|ef (a0.deref.drop 3)<|.call 149 [((a0.deref.drop 3).hA),.ptr [.v (.int .u8 110),VS r1.ai,VI 0,.v (.pointer none),.v (.pointer none)],VI 0] [] fun r2 o2=>NP r2<|.call 148 [.ref 0 0,r2,VS r1.ai] [.cells [VI (((o1.hO).cs.getD 0 .any).toInt),VB (((o1.hO).cs.getD 1 .any).toBool)]] fun r3 o3=>.al ((o3.hO)=.cells (o3.hO).cs)<|.al (bm [.lk (.int .i64),.lk .bool] ((o3.hO).cs) 0 1 o3.tail)<|NP r3<|.call 147 [.ref 0 0,r3] [.cells [VI (((o3.hO).cs.getD 0 .any).toInt),VB (((o3.hO).cs.getD 1 .any).toBool)]] fun r4 o4=>.al ((o4.hO)=.cells (o4.hO).cs)<|.al (bm [.lk (.int .i64),.lk .bool] ((o4.hO).cs) 0 1 o4.tail)<|NP r4<|.test (((o4.hO).cs.getD 1 .any).toBool) (.done 0 [.cN [.v (.pointer none),VB false]] []) (.call 150 [r4,VS r1.ai,a0] [] fun r5 o5=>NP r5<|.call 147 [.ref 0 0,r5] [.cells [VI (((o4.hO).cs.getD 0 .any).toInt),VB (((o4.hO).cs.getD 1 .any).toBool)]] fun r6 o6=>.al ((o6.hO)=.cells (o6.hO).cs)<|.al (bm [.lk (.int .i64),.lk .bool] ((o6.hO).cs) 0 1 o6.tail)<|NP r6<|.done 0 [.cN [r6,VB (!(((o6.hO).cs.getD 1 .any).toBool))]] [])
theorem Ot(a0:AV)(ha0:LK.has .ptr a0)(h:dr 40 (N0 a0) R):an Tryz.prog 109 [a0] [] R :=
 uQ (af (bq ha0) aA) (oQ [] Tryz.f109 h)
def ML(a0:AV):Tree :=
 .call 145 [a0] [] fun r1 o1=>NI r1<|.test (decide (r1.toInt>(400:Int))) (.done 0 [.cN [VS (mk []),VB false]] []) (.call 151 [a0] [] fun r2 o2=>NS r2<|.call 108 [VS r2.ai] [] fun r3 o3=>NP r3<|NP r3<|.test r3.isNil (.done 0 [.cN [VS (mk []),VB false]] []) (.done 0 [.cN [VS r2.ai,VB true]] []))
theorem Ov(a0:AV)(ha0:LK.has .ptr a0)(h:dr 14 (ML a0) R):an Tryz.prog 110 [a0] [] R :=
 uQ (af (bq ha0) aA) (oQ [] Tryz.f110 h)
def Cb(a0_0:ByteArray)(a0_1:AV)(a1_0:AV)(a1_1:AV):Tree :=
 NP a0_1<|.test (!a0_1.isNil) (NZ a1_0<|NZ a1_0<|.al (LK.has (.int .u8) (a1_0.deref.hA)/\1<=a1_0.deref.length)<|.test (((a1_0.deref.hA).toInt)==(98:Int)) (.call 131 [.agg [a1_0,a1_1]] [] fun r1 o1=>NP r1<|.al (AV.rI r1/\AV.rI a0_1)<|.done 0 [VB (AV.Aw r1 a0_1)] []) (.done 0 [VB false] [])) (NZ a1_0<|NZ a1_0<|.al (LK.has (.int .u8) (a1_0.deref.hA)/\1<=a1_0.deref.length)<|.test (((a1_0.deref.hA).toInt)==(110:Int)) (NZ a1_0<|NZ a1_0<|lI (a1_0.deref.drop 1)<|.done 0 [VB (ae (((a1_0.deref.drop 1).hA).ai)==ae a0_0)] []) (.done 0 [VB false] []))
theorem PB(a0_0:ByteArray)(a0_1:AV)(a1_0:AV)(a1_1:AV)(ha0_1:LK.has .ptr a0_1)(ha1_0:LK.has .ptr a1_0)(ha1_1:LK.has .ptr a1_1)(h:dr 37 (Cb a0_0 a0_1 a1_0 a1_1) R):an Tryz.prog 111 [.agg [VS a0_0,a0_1],.agg [a1_0,a1_1]] [] R :=
 uQ (af (bX (af (aw _) (af (bq ha0_1) aA))) (af (bX (af (bq ha1_0) (af (bq ha1_1) aA))) aA)) (oQ [] Tryz.f111 h)
def Hm:LI:={hd:={bu:=[(7,.k .sl),(8,.k (.int .i64)),(9,.k (.int .i64))],refs:=[(2,1)],co:=[(0,[.lk .ptr]),(1,[.vec 2])],zu:=[(1,115,[0])]},xs:={co:=[(0,[.lk .ptr]),(1,[.vec 2])]},rt:={co:=[(0,[.lk .ptr]),(1,[.vec 2])]},ex:=0,fx:=[0,1]}
def J0:Code:=cu (cn Tryz.f112) 1
def KT:List (Nat×LI):=[(1,Hm)]
def LF(a0:AV)(a1_0_0:AV)(e2_0:List (List AV)):Tree :=
 NL a0<|.loop J0 Hm [a0,VI (a0.aQ.length:Int),VI 0] [.cells [a1_0_0],.cells [.any],.vec 2 e2_0] (fun y2 q2=>.al ((q2.hO)=.cells (q2.hO).cs)<|.al (ac [.lk .ptr] ((q2.hO).cs) 0 q2.tail)<|.al (((q2.tail.drop 0).hO)=.cells ((q2.tail.drop 0).hO).cs)<|.al (ac [.vec 2] (((q2.tail.drop 0).hO).cs) 0 ((q2.tail.drop 0).tail))<|.done 0 [.any] [.cells [((q2.hO).cs.getD 0 .any)],.cells [.vec 2],.vec 2 ((q2.tail.tail.hO).es)]) (fun y2 q2=>.al ((q2.hO)=.cells (q2.hO).cs)<|.al (ac [.lk .ptr] ((q2.hO).cs) 0 q2.tail)<|.al (((q2.tail.drop 0).hO)=.cells ((q2.tail.drop 0).hO).cs)<|.al (ac [.vec 2] (((q2.tail.drop 0).hO).cs) 0 ((q2.tail.drop 0).tail))<|.done 0 [.any] [.cells [((q2.hO).cs.getD 0 .any)],.cells [.vec 2],.vec 2 ((q2.tail.tail.hO).es)])
theorem Rd(a0:AV)(a1_0_0:AV)(e2_0:List (List AV))(ha0:LK.has .sl a0)(ha1_0_0:LK.has .ptr a1_0_0)(h:dr 24 (LF a0 a1_0_0 e2_0) R):an Tryz.prog 112 [a0,.fn 115 [.ref 0 0],.ref 1 0] [.cells [a1_0_0],.cells [.vec 2],.vec 2 e2_0] R :=
 an.pQ (bK (cL (af (bq ha1_0_0) aA)) (bK (cL (af (aw _) aA)) (bK (eK _) cX))) (an.up (af (bZ ha0) (af (aw _) (af (aw _) aA))) (oF KT {mu:=[(1,.fn [some (.obj [.lk .ptr])]),(2,.one (.obj [.vec 2]))],own:=[]} Tryz.f112 h))
def E7(x7:AV)(x8:Int)(x9:Int)(o0_0:AV)(o1_0:List (List AV)):Tree :=
 NL x7<|NI (VI x8)<|NI (VI x9)<|.al (Ob.cells [o0_0]=.cells [o0_0])<|.al (ac [.lk .ptr] [o0_0] 0 [.cells [.any],.vec 2 o1_0])<|.al (Ob.cells [.any]=.cells [.any])<|.al (ac [.vec 2] [.any] 0 [.vec 2 o1_0])<|.test (decide (x9<x8)) (NG x7 x9 2<|.al (bC [.ptr,.ptr] (x7.ix x9) 0/\2<=(x7.ix x9).length)<|.call 115 [((x7.ix x9).getD 0 .any),.ref 0 0] [.cells [o0_0]] fun r1 o1=>.al ((o1.hO)=.cells (o1.hO).cs)<|.al (bm [.lk .ptr] ((o1.hO).cs) 0 1 o1.tail)<|NP r1<|.al (cD 2 [[r1,((x7.ix x9).getD 1 .any)]]/\((o1_0.length)+([[r1,((x7.ix x9).getD 1 .any)]]:List (List AV)).length)*16<=140737488355328)<|.done 0 [x7,VI x8,VI (IntKind.wrap .i64 (x9+1))] [.cells [((o1.hO).cs.getD 0 .any)],.cells [.any],.vec 2 (o1_0++([[r1,((x7.ix x9).getD 1 .any)]]:List (List AV)))]) (.done 1 [] [.cells [o0_0],.cells [.any],.vec 2 o1_0])
abbrev FE:=cq Tryz.prog 24 J0 Hm
theorem Nn(x7:AV)(x8:Int)(x9:Int)(o0_0:AV)(o1_0:List (List AV))(h:jk 24 (E7 x7 x8 x9 o0_0 o1_0) FE U):FE [x7,VI x8,VI x9] [.cells [o0_0],.cells [.any],.vec 2 o1_0] U :=
 gQ KT h
def F6:LI:={hd:={bu:=[(7,.k .sl),(8,.k (.int .i64)),(9,.k (.int .i64))],refs:=[(2,1)],co:=[(0,[.lk .ptr]),(1,[.vec 2])],zu:=[(1,116,[0])]},xs:={co:=[(0,[.lk .ptr]),(1,[.vec 2])]},rt:={co:=[(0,[.lk .ptr]),(1,[.vec 2])]},ex:=0,fx:=[0,1]}
def M7:Code:=cu (cn Tryz.f112) 1
def I4:List (Nat×LI):=[(1,F6)]
def IJ(a0:AV)(a1_0_0:AV)(e2_0:List (List AV)):Tree :=
 NL a0<|.loop M7 F6 [a0,VI (a0.aQ.length:Int),VI 0] [.cells [a1_0_0],.cells [.any],.vec 2 e2_0] (fun y2 q2=>.al ((q2.hO)=.cells (q2.hO).cs)<|.al (ac [.lk .ptr] ((q2.hO).cs) 0 q2.tail)<|.al (((q2.tail.drop 0).hO)=.cells ((q2.tail.drop 0).hO).cs)<|.al (ac [.vec 2] (((q2.tail.drop 0).hO).cs) 0 ((q2.tail.drop 0).tail))<|.done 0 [.any] [.cells [((q2.hO).cs.getD 0 .any)],.cells [.vec 2],.vec 2 ((q2.tail.tail.hO).es)]) (fun y2 q2=>.al ((q2.hO)=.cells (q2.hO).cs)<|.al (ac [.lk .ptr] ((q2.hO).cs) 0 q2.tail)<|.al (((q2.tail.drop 0).hO)=.cells ((q2.tail.drop 0).hO).cs)<|.al (ac [.vec 2] (((q2.tail.drop 0).hO).cs) 0 ((q2.tail.drop 0).tail))<|.done 0 [.any] [.cells [((q2.hO).cs.getD 0 .any)],.cells [.vec 2],.vec 2 ((q2.tail.tail.hO).es)])
theorem Qr(a0:AV)(a1_0_0:AV)(e2_0:List (List AV))(ha0:LK.has .sl a0)(ha1_0_0:LK.has .ptr a1_0_0)(h:dr 24 (IJ a0 a1_0_0 e2_0) R):an Tryz.prog 112 [a0,.fn 116 [.ref 0 0],.ref 1 0] [.cells [a1_0_0],.cells [.vec 2],.vec 2 e2_0] R :=
 an.pQ (bK (cL (af (bq ha1_0_0) aA)) (bK (cL (af (aw _) aA)) (bK (eK _) cX))) (an.up (af (bZ ha0) (af (aw _) (af (aw _) aA))) (oF I4 {mu:=[(1,.fn [some (.obj [.lk .ptr])]),(2,.one (.obj [.vec 2]))],own:=[]} Tryz.f112 h))
def Gk(x7:AV)(x8:Int)(x9:Int)(o0_0:AV)(o1_0:List (List AV)):Tree :=
 NL x7<|NI (VI x8)<|NI (VI x9)<|.al (Ob.cells [o0_0]=.cells [o0_0])<|.al (ac [.lk .ptr] [o0_0] 0 [.cells [.any],.vec 2 o1_0])<|.al (Ob.cells [.any]=.cells [.any])<|.al (ac [.vec 2] [.any] 0 [.vec 2 o1_0])<|.test (decide (x9<x8)) (NG x7 x9 2<|.al (bC [.ptr,.ptr] (x7.ix x9) 0/\2<=(x7.ix x9).length)<|.call 116 [((x7.ix x9).getD 0 .any),.ref 0 0] [.cells [o0_0]] fun r1 o1=>.al ((o1.hO)=.cells (o1.hO).cs)<|.al (bm [.lk .ptr] ((o1.hO).cs) 0 1 o1.tail)<|NP r1<|.al (cD 2 [[r1,((x7.ix x9).getD 1 .any)]]/\((o1_0.length)+([[r1,((x7.ix x9).getD 1 .any)]]:List (List AV)).length)*16<=140737488355328)<|.done 0 [x7,VI x8,VI (IntKind.wrap .i64 (x9+1))] [.cells [((o1.hO).cs.getD 0 .any)],.cells [.any],.vec 2 (o1_0++([[r1,((x7.ix x9).getD 1 .any)]]:List (List AV)))]) (.done 1 [] [.cells [o0_0],.cells [.any],.vec 2 o1_0])
abbrev EV:=cq Tryz.prog 24 M7 F6
theorem KR(x7:AV)(x8:Int)(x9:Int)(o0_0:AV)(o1_0:List (List AV))(h:jk 24 (Gk x7 x8 x9 o0_0 o1_0) EV U):EV [x7,VI x8,VI x9] [.cells [o0_0],.cells [.any],.vec 2 o1_0] U :=
 gQ I4 h
def FR:LI:={hd:={bu:=[(7,.k .sl),(8,.k (.int .i64)),(9,.k (.int .i64))],refs:=[(2,1)],co:=[(0,[.lk .ptr]),(1,[.vec 2])],zu:=[(1,118,[0])]},xs:={co:=[(0,[.lk .ptr]),(1,[.vec 2])]},rt:={co:=[(0,[.lk .ptr]),(1,[.vec 2])]},ex:=0,fx:=[0,1]}
def Nh:Code:=cu (cn Tryz.f112) 1
def JE:List (Nat×LI):=[(1,FR)]
def Js(a0:AV)(a1_0_0:AV)(e2_0:List (List AV)):Tree :=
 NL a0<|.loop Nh FR [a0,VI (a0.aQ.length:Int),VI 0] [.cells [a1_0_0],.cells [.any],.vec 2 e2_0] (fun y2 q2=>.al ((q2.hO)=.cells (q2.hO).cs)<|.al (ac [.lk .ptr] ((q2.hO).cs) 0 q2.tail)<|.al (((q2.tail.drop 0).hO)=.cells ((q2.tail.drop 0).hO).cs)<|.al (ac [.vec 2] (((q2.tail.drop 0).hO).cs) 0 ((q2.tail.drop 0).tail))<|.done 0 [.any] [.cells [((q2.hO).cs.getD 0 .any)],.cells [.vec 2],.vec 2 ((q2.tail.tail.hO).es)]) (fun y2 q2=>.al ((q2.hO)=.cells (q2.hO).cs)<|.al (ac [.lk .ptr] ((q2.hO).cs) 0 q2.tail)<|.al (((q2.tail.drop 0).hO)=.cells ((q2.tail.drop 0).hO).cs)<|.al (ac [.vec 2] (((q2.tail.drop 0).hO).cs) 0 ((q2.tail.drop 0).tail))<|.done 0 [.any] [.cells [((q2.hO).cs.getD 0 .any)],.cells [.vec 2],.vec 2 ((q2.tail.tail.hO).es)])
theorem O0(a0:AV)(a1_0_0:AV)(e2_0:List (List AV))(ha0:LK.has .sl a0)(ha1_0_0:LK.has .ptr a1_0_0)(h:dr 24 (Js a0 a1_0_0 e2_0) R):an Tryz.prog 112 [a0,.fn 118 [.ref 0 0],.ref 1 0] [.cells [a1_0_0],.cells [.vec 2],.vec 2 e2_0] R :=
 an.pQ (bK (cL (af (bq ha1_0_0) aA)) (bK (cL (af (aw _) aA)) (bK (eK _) cX))) (an.up (af (bZ ha0) (af (aw _) (af (aw _) aA))) (oF JE {mu:=[(1,.fn [some (.obj [.lk .ptr])]),(2,.one (.obj [.vec 2]))],own:=[]} Tryz.f112 h))
def EC(x7:AV)(x8:Int)(x9:Int)(o0_0:AV)(o1_0:List (List AV)):Tree :=
 NL x7<|NI (VI x8)<|NI (VI x9)<|.al (Ob.cells [o0_0]=.cells [o0_0])<|.al (ac [.lk .ptr] [o0_0] 0 [.cells [.any],.vec 2 o1_0])<|.al (Ob.cells [.any]=.cells [.any])<|.al (ac [.vec 2] [.any] 0 [.vec 2 o1_0])<|.test (decide (x9<x8)) (NG x7 x9 2<|.al (bC [.ptr,.ptr] (x7.ix x9) 0/\2<=(x7.ix x9).length)<|.call 118 [((x7.ix x9).getD 0 .any),.ref 0 0] [.cells [o0_0]] fun r1 o1=>.al ((o1.hO)=.cells (o1.hO).cs)<|.al (bm [.lk .ptr] ((o1.hO).cs) 0 1 o1.tail)<|NP r1<|.al (cD 2 [[r1,((x7.ix x9).getD 1 .any)]]/\((o1_0.length)+([[r1,((x7.ix x9).getD 1 .any)]]:List (List AV)).length)*16<=140737488355328)<|.done 0 [x7,VI x8,VI (IntKind.wrap .i64 (x9+1))] [.cells [((o1.hO).cs.getD 0 .any)],.cells [.any],.vec 2 (o1_0++([[r1,((x7.ix x9).getD 1 .any)]]:List (List AV)))]) (.done 1 [] [.cells [o0_0],.cells [.any],.vec 2 o1_0])
abbrev E0:=cq Tryz.prog 24 Nh FR
theorem Kq(x7:AV)(x8:Int)(x9:Int)(o0_0:AV)(o1_0:List (List AV))(h:jk 24 (EC x7 x8 x9 o0_0 o1_0) E0 U):E0 [x7,VI x8,VI x9] [.cells [o0_0],.cells [.any],.vec 2 o1_0] U :=
 gQ JE h
def GD:LI:={hd:={bu:=[(1,.c (.func (.func 119) #[] #[])),(7,.k .sl),(8,.k (.int .i64)),(9,.k (.int .i64))],refs:=[(2,0)],co:=[(0,[.vec 2])]},xs:={co:=[(0,[.vec 2])]},rt:={co:=[(0,[.vec 2])]},ex:=0,fx:=[0]}
def Io:Code:=cu (cn Tryz.f112) 1
def KA:List (Nat×LI):=[(1,GD)]
def Kv(a0:AV)(e2_0:List (List AV)):Tree :=
 NL a0<|.loop Io GD [.v (.func (.func 119) #[] #[]),a0,VI (a0.aQ.length:Int),VI 0] [.cells [.any],.vec 2 e2_0] (fun y2 q2=>.al ((q2.hO)=.cells (q2.hO).cs)<|.al (ac [.vec 2] ((q2.hO).cs) 0 q2.tail)<|.done 0 [.any] [.cells [.vec 1],.vec 2 ((q2.tail.hO).es)]) (fun y2 q2=>.al ((q2.hO)=.cells (q2.hO).cs)<|.al (ac [.vec 2] ((q2.hO).cs) 0 q2.tail)<|.done 0 [.any] [.cells [.vec 1],.vec 2 ((q2.tail.hO).es)])
theorem Pv(a0:AV)(e2_0:List (List AV))(ha0:LK.has .sl a0)(h:dr 24 (Kv a0 e2_0) R):an Tryz.prog 112 [a0,.v (.func (.func 119) #[] #[]),.ref 0 0] [.cells [.vec 1],.vec 2 e2_0] R :=
 an.pQ (bK (cL (af (aw _) aA)) (bK (eK _) cX)) (an.up (af (bZ ha0) (af (aw _) (af (aw _) aA))) (oF KA {mu:=[(2,.one (.obj [.vec 2]))],own:=[]} Tryz.f112 h))
def Gc(x7:AV)(x8:Int)(x9:Int)(o0_0:List (List AV)):Tree :=
 .al (AV.v (.func (.func 119) #[] #[])=.v (.func (.func 119) #[] #[]))<|NL x7<|NI (VI x8)<|NI (VI x9)<|.al (Ob.cells [.any]=.cells [.any])<|.al (ac [.vec 2] [.any] 0 [.vec 2 o0_0])<|.test (decide (x9<x8)) (NG x7 x9 2<|.al (bC [.ptr,.ptr] (x7.ix x9) 0/\2<=(x7.ix x9).length)<|.call 119 [((x7.ix x9).getD 0 .any)] [] fun r1 o1=>NP r1<|.al (cD 2 [[r1,((x7.ix x9).getD 1 .any)]]/\((o0_0.length)+([[r1,((x7.ix x9).getD 1 .any)]]:List (List AV)).length)*16<=140737488355328)<|.done 0 [.v (.func (.func 119) #[] #[]),x7,VI x8,VI (IntKind.wrap .i64 (x9+1))] [.cells [.any],.vec 2 (o0_0++([[r1,((x7.ix x9).getD 1 .any)]]:List (List AV)))]) (.done 1 [] [.cells [.any],.vec 2 o0_0])
abbrev Fw:=cq Tryz.prog 24 Io GD
theorem K0(x7:AV)(x8:Int)(x9:Int)(o0_0:List (List AV))(h:jk 24 (Gc x7 x8 x9 o0_0) Fw U):Fw [.v (.func (.func 119) #[] #[]),x7,VI x8,VI x9] [.cells [.any],.vec 2 o0_0] U :=
 gQ KA h
def Gu:LI:={hd:={bu:=[(7,.k .sl),(8,.k (.int .i64)),(9,.k (.int .i64))],refs:=[(2,1)],co:=[(0,[.lk .ptr,.lk .ptr]),(1,[.vec 2])],zu:=[(1,120,[0])]},xs:={co:=[(0,[.lk .ptr,.lk .ptr]),(1,[.vec 2])]},rt:={co:=[(0,[.lk .ptr,.lk .ptr]),(1,[.vec 2])]},ex:=0,fx:=[0,1]}
def JL:Code:=cu (cn Tryz.f112) 1
def La:List (Nat×LI):=[(1,Gu)]
def LP(a0:AV)(a1_0_0:AV)(a1_0_1:AV)(e2_0:List (List AV)):Tree :=
 NL a0<|.loop JL Gu [a0,VI (a0.aQ.length:Int),VI 0] [.cells [a1_0_0,a1_0_1],.cells [.any],.vec 2 e2_0] (fun y2 q2=>.al ((q2.hO)=.cells (q2.hO).cs)<|.al (ac [.lk .ptr,.lk .ptr] ((q2.hO).cs) 0 q2.tail)<|.al (((q2.tail.drop 0).hO)=.cells ((q2.tail.drop 0).hO).cs)<|.al (ac [.vec 2] (((q2.tail.drop 0).hO).cs) 0 ((q2.tail.drop 0).tail))<|.done 0 [.any] [.cells [((q2.hO).cs.getD 0 .any),((q2.hO).cs.getD 1 .any)],.cells [.vec 2],.vec 2 ((q2.tail.tail.hO).es)]) (fun y2 q2=>.al ((q2.hO)=.cells (q2.hO).cs)<|.al (ac [.lk .ptr,.lk .ptr] ((q2.hO).cs) 0 q2.tail)<|.al (((q2.tail.drop 0).hO)=.cells ((q2.tail.drop 0).hO).cs)<|.al (ac [.vec 2] (((q2.tail.drop 0).hO).cs) 0 ((q2.tail.drop 0).tail))<|.done 0 [.any] [.cells [((q2.hO).cs.getD 0 .any),((q2.hO).cs.getD 1 .any)],.cells [.vec 2],.vec 2 ((q2.tail.tail.hO).es)])
theorem Rc(a0:AV)(a1_0_0:AV)(a1_0_1:AV)(e2_0:List (List AV))(ha0:LK.has .sl a0)(ha1_0_0:LK.has .ptr a1_0_0)(ha1_0_1:LK.has .ptr a1_0_1)(h:dr 24 (LP a0 a1_0_0 a1_0_1 e2_0) R):an Tryz.prog 112 [a0,.fn 120 [.ref 0 0],.ref 1 0] [.cells [a1_0_0,a1_0_1],.cells [.vec 2],.vec 2 e2_0] R :=
 an.pQ (bK (cL (af (bq ha1_0_0) (af (bq ha1_0_1) aA))) (bK (cL (af (aw _) aA)) (bK (eK _) cX))) (an.up (af (bZ ha0) (af (aw _) (af (aw _) aA))) (oF La {mu:=[(1,.fn [some (.obj [.lk .ptr,.lk .ptr])]),(2,.one (.obj [.vec 2]))],own:=[]} Tryz.f112 h))
def Ej(x7:AV)(x8:Int)(x9:Int)(o0_0:AV)(o0_1:AV)(o1_0:List (List AV)):Tree :=
 NL x7<|NI (VI x8)<|NI (VI x9)<|.al (Ob.cells [o0_0,o0_1]=.cells [o0_0,o0_1])<|.al (ac [.lk .ptr,.lk .ptr] [o0_0,o0_1] 0 [.cells [.any],.vec 2 o1_0])<|.al (Ob.cells [.any]=.cells [.any])<|.al (ac [.vec 2] [.any] 0 [.vec 2 o1_0])<|.test (decide (x9<x8)) (NG x7 x9 2<|.al (bC [.ptr,.ptr] (x7.ix x9) 0/\2<=(x7.ix x9).length)<|.call 120 [((x7.ix x9).getD 0 .any),.ref 0 0] [.cells [o0_0,o0_1]] fun r1 o1=>.al ((o1.hO)=.cells (o1.hO).cs)<|.al (bm [.lk .ptr,.lk .ptr] ((o1.hO).cs) 0 1 o1.tail)<|NP r1<|.al (cD 2 [[r1,((x7.ix x9).getD 1 .any)]]/\((o1_0.length)+([[r1,((x7.ix x9).getD 1 .any)]]:List (List AV)).length)*16<=140737488355328)<|.done 0 [x7,VI x8,VI (IntKind.wrap .i64 (x9+1))] [.cells [((o1.hO).cs.getD 0 .any),((o1.hO).cs.getD 1 .any)],.cells [.any],.vec 2 (o1_0++([[r1,((x7.ix x9).getD 1 .any)]]:List (List AV)))]) (.done 1 [] [.cells [o0_0,o0_1],.cells [.any],.vec 2 o1_0])
abbrev D0:=cq Tryz.prog 24 JL Gu
theorem Ik(x7:AV)(x8:Int)(x9:Int)(o0_0:AV)(o0_1:AV)(o1_0:List (List AV))(h:jk 24 (Ej x7 x8 x9 o0_0 o0_1 o1_0) D0 U):D0 [x7,VI x8,VI x9] [.cells [o0_0,o0_1],.cells [.any],.vec 2 o1_0] U :=
 gQ La h
def Nc(a0_0:AV)(a0_1:AV):Tree :=
 NZ a0_0<|NZ a0_0<|ef (a0_0.deref.drop 3)<|.done 0 [.agg [((a0_0.deref.drop 3).hA),a0_1]] []
theorem Ry(a0_0:AV)(a0_1:AV)(ha0_0:LK.has .ptr a0_0)(ha0_1:LK.has .ptr a0_1)(h:dr 11 (Nc a0_0 a0_1) R):an Tryz.prog 113 [.agg [a0_0,a0_1]] [] R :=
 uQ (af (bX (af (bq ha0_0) (af (bq ha0_1) aA))) aA) (oQ [] Tryz.f113 h)
def Ml(a0_0:AV)(a0_1:AV):Tree :=
 NZ a0_0<|NZ a0_0<|ef (a0_0.deref.drop 4)<|.done 0 [.agg [((a0_0.deref.drop 4).hA),a0_1]] []
theorem O4(a0_0:AV)(a0_1:AV)(ha0_0:LK.has .ptr a0_0)(ha0_1:LK.has .ptr a0_1)(h:dr 11 (Ml a0_0 a0_1) R):an Tryz.prog 114 [.agg [a0_0,a0_1]] [] R :=
 uQ (af (bX (af (bq ha0_0) (af (bq ha0_1) aA))) aA) (oQ [] Tryz.f114 h)
def EZ(a0:AV)(a1_0:AV):Tree :=
 NZ a1_0<|NZ a1_0<|.al (LK.has (.int .u8) (a1_0.deref.hA)/\1<=a1_0.deref.length)<|.call 100 [.v (.int .u8 ((a1_0.deref.hA).toInt)),a0] [] fun r1 o1=>NP r1<|.done 0 [r1] [.cells [a1_0]]
theorem Nu(a0:AV)(a1_0:AV)(ha0:LK.has .ptr a0)(ha1_0:LK.has .ptr a1_0)(h:dr 10 (EZ a0 a1_0) R):an Tryz.prog 115 [a0,.ref 0 0] [.cells [a1_0]] R :=
 an.pQ (bK (cL (af (bq ha1_0) aA)) cX) (an.up (af (bq ha0) (af (aw _) aA)) (oF [] {mu:=[(1,.one (.obj [.lk .ptr]))],own:=[]} Tryz.f115 h))
def KV(a0:AV)(a1_0:AV):Tree :=
 NZ a1_0<|NZ a1_0<|ef (a1_0.deref.drop 3)<|.call 117 [a0,((a1_0.deref.drop 3).hA)] [] fun r1 o1=>NP r1<|.call 100 [.v (.int .u8 108),r1] [] fun r2 o2=>NP r2<|.done 0 [r2] [.cells [a1_0]]
theorem Rp(a0:AV)(a1_0:AV)(ha0:LK.has .ptr a0)(ha1_0:LK.has .ptr a1_0)(h:dr 11 (KV a0 a1_0) R):an Tryz.prog 116 [a0,.ref 0 0] [.cells [a1_0]] R :=
 an.pQ (bK (cL (af (bq ha1_0) aA)) cX) (an.up (af (bq ha0) (af (aw _) aA)) (oF [] {mu:=[(1,.one (.obj [.lk .ptr]))],own:=[]} Tryz.f116 h))
def MP(a0:AV)(a1:AV):Tree :=
 .done 0 [.ptr [.v (.int .u8 112),VS (mk []),a0,a1]] []
theorem Rf(a0:AV)(a1:AV)(ha0:LK.has .ptr a0)(ha1:LK.has .ptr a1)(h:dr 9 (MP a0 a1) R):an Tryz.prog 117 [a0,a1] [] R :=
 uQ (af (bq ha0) (af (bq ha1) aA)) (oQ [] Tryz.f117 h)
def Ni(a0:AV)(a1_0:AV):Tree :=
 NZ a1_0<|NZ a1_0<|ef (a1_0.deref.drop 2)<|.call 117 [((a1_0.deref.drop 2).hA),a0] [] fun r1 o1=>NP r1<|.call 100 [.v (.int .u8 114),r1] [] fun r2 o2=>NP r2<|.done 0 [r2] [.cells [a1_0]]
theorem Pp(a0:AV)(a1_0:AV)(ha0:LK.has .ptr a0)(ha1_0:LK.has .ptr a1_0)(h:dr 11 (Ni a0 a1_0) R):an Tryz.prog 118 [a0,.ref 0 0] [.cells [a1_0]] R :=
 an.pQ (bK (cL (af (bq ha1_0) aA)) cX) (an.up (af (bq ha0) (af (aw _) aA)) (oF [] {mu:=[(1,.one (.obj [.lk .ptr]))],own:=[]} Tryz.f118 h))
def JX(a0:AV):Tree :=
 .call 100 [.v (.int .u8 108),a0] [] fun r1 o1=>NP r1<|.call 100 [.v (.int .u8 102),r1] [] fun r2 o2=>NP r2<|.done 0 [r2] []
theorem PX(a0:AV)(ha0:LK.has .ptr a0)(h:dr 6 (JX a0) R):an Tryz.prog 119 [a0] [] R :=
 uQ (af (bq ha0) aA) (oQ [] Tryz.f119 h)
def JG(a0:AV)(a1_0:AV)(a1_1:AV):Tree :=
 .call 117 [a1_0,a0] [] fun r1 o1=>NP r1<|.call 100 [.v (.int .u8 114),r1] [] fun r2 o2=>NP r2<|.call 100 [.v (.int .u8 102),r2] [] fun r3 o3=>NP r3<|.done 0 [r3] [.cells [a1_0,a1_1]]
theorem QA(a0:AV)(a1_0:AV)(a1_1:AV)(ha0:LK.has .ptr a0)(ha1_0:LK.has .ptr a1_0)(ha1_1:LK.has .ptr a1_1)(h:dr 10 (JG a0 a1_0 a1_1) R):an Tryz.prog 120 [a0,.ref 0 0] [.cells [a1_0,a1_1]] R :=
 an.pQ (bK (cL (af (bq ha1_0) (af (bq ha1_1) aA))) cX) (an.up (af (bq ha0) (af (aw _) aA)) (oF [] {mu:=[(1,.one (.obj [.lk .ptr,.lk .ptr]))],own:=[]} Tryz.f120 h))
def BL(a0_0:ByteArray)(a0_1:AV):Tree :=
 .test (!(ae a0_0==ae (mk []))) (.done 0 [VS (mk [])] []) (NL a0_1<|.test ((a0_1.aQ.length:Int)==(0:Int)) (.done 0 [VS (mk [])] []) (NG a0_1 0 2<|lI (a0_1.ix (0:Int))<|.done 0 [VS (((a0_1.ix (0:Int)).hA).ai)] []))
theorem DV(a0_0:ByteArray)(a0_1:AV)(ha0_1:LK.has .sl a0_1)(h:dr 17 (BL a0_0 a0_1) R):an Tryz.prog 121 [.agg [VS a0_0,a0_1]] [] R :=
 uQ (af (bX (af (aw _) (af (bZ ha0_1) aA))) aA) (oQ [] Tryz.f121 h)
def NY(a0:ByteArray):Tree :=
 .test (decide ((ag a0:Int)>(8000:Int))) (.done 0 [.cN [.agg [VS (mk []),.v (.slice none 0 0)],VB false]] []) (.call 152 [VS a0,VI 0,VI 0] [] fun r1 o1=>NT r1<|.al ((r1.comp 0)=.agg (r1.comp 0).cs/\(r1.comp 0).cs.length=2/\bC [.str,.sl] ((r1.comp 0).cs) 0)<|NI (r1.comp 1)<|.done 0 [.cN [.agg [VS (((r1.comp 0).cs.getD 0 .any).ai),((r1.comp 0).cs.getD 1 .any)],VB (((r1.comp 1).toInt)==(ag a0:Int))]] [])
theorem P4(a0:ByteArray)(h:dr 20 (NY a0) R):an Tryz.prog 122 [VS a0] [] R :=
 uQ (af (aw _) aA) (oQ [] Tryz.f122 h)
def E3(a0_0:ByteArray)(a0_1:AV):Tree :=
 .test (!(ae a0_0==ae (mk []))) (.test (ae a0_0==ae (mk [117])) (.done 0 [VB true] []) (.call 153 [VS a0_0] [] fun r1 o1=>NI r1<|.done 0 [VB (decide (r1.toInt≥(0:Int)))] [])) (.call 121 [.agg [VS a0_0,a0_1]] [] fun r2 o2=>NS r2<|.test (ae r2.ai==ae (mk [108])) (NL a0_1<|.test ((a0_1.aQ.length:Int)==(2:Int)) (NG a0_1 1 2<|NE (a0_1.ix (1:Int))<|.call 123 [.agg [VS (((a0_1.ix (1:Int)).getD 0 .any).ai),((a0_1.ix (1:Int)).getD 1 .any)]] [] fun r3 o3=>NB r3<|.done 0 [VB r3.toBool] []) (.done 0 [VB false] [])) (.test (ae r2.ai==ae (mk [114])) (NL a0_1<|.test ((a0_1.aQ.length:Int)==(2:Int)) (NG a0_1 1 2<|NE (a0_1.ix (1:Int))<|.call 123 [.agg [VS (((a0_1.ix (1:Int)).getD 0 .any).ai),((a0_1.ix (1:Int)).getD 1 .any)]] [] fun r4 o4=>NB r4<|.done 0 [VB r4.toBool] []) (.done 0 [VB false] [])) (.test (ae r2.ai==ae (mk [102])) (NL a0_1<|.test ((a0_1.aQ.length:Int)==(2:Int)) (NG a0_1 1 2<|NE (a0_1.ix (1:Int))<|.call 123 [.agg [VS (((a0_1.ix (1:Int)).getD 0 .any).ai),((a0_1.ix (1:Int)).getD 1 .any)]] [] fun r5 o5=>NB r5<|.done 0 [VB r5.toBool] []) (.done 0 [VB false] [])) (.test (ae r2.ai==ae (mk [112])) (NL a0_1<|.test ((a0_1.aQ.length:Int)==(3:Int)) (NG a0_1 1 2<|NE (a0_1.ix (1:Int))<|.call 123 [.agg [VS (((a0_1.ix (1:Int)).getD 0 .any).ai),((a0_1.ix (1:Int)).getD 1 .any)]] [] fun r6 o6=>NB r6<|.test r6.toBool (NG a0_1 2 2<|NE (a0_1.ix (2:Int))<|.call 123 [.agg [VS (((a0_1.ix (2:Int)).getD 0 .any).ai),((a0_1.ix (2:Int)).getD 1 .any)]] [] fun r7 o7=>NB r7<|.done 0 [VB r7.toBool] []) (.done 0 [VB false] [])) (.done 0 [VB false] [])) (.done 0 [VB false] [])))))
theorem yZ(a0_0:ByteArray)(a0_1:AV)(ha0_1:LK.has .sl a0_1)(h:dr 52 (E3 a0_0 a0_1) R):an Tryz.prog 123 [.agg [VS a0_0,a0_1]] [] R :=
 uQ (af (bX (af (aw _) (af (bZ ha0_1) aA))) aA) (oQ [] Tryz.f123 h)
def ER:LI:={hd:={bu:=[(3,.k (.int .i64)),(4,.k (.int .i64))],refs:=[(1,1)],co:=[(1,[.lk .str,.lk .sl])]},xs:={bu:=[(3,.k (.int .i64))]},rt:={},ex:=0}
def JY:Code:=cu (cn Tryz.f124) 3
def Kj:List (Nat×LI):=[(3,ER)]
def Ek(a0_0:ByteArray)(a0_1:AV):Tree :=
 .loop JY ER [VI 1,VI 1] [.cells [VS a0_0,a0_1]] (fun y2 q2=>NI (y2.hA)<|.done 0 [VI ((y2.hA).toInt)] []) (fun y2 q2=>.done 0 [.any] [])
theorem Lv(a0_0:ByteArray)(a0_1:AV)(ha0_1:LK.has .sl a0_1)(h:dr 21 (Ek a0_0 a0_1) R):an Tryz.prog 124 [.agg [VS a0_0,a0_1]] [] R :=
 uQ (af (bX (af (aw _) (af (bZ ha0_1) aA))) aA) (oQ Kj Tryz.f124 h)
def AA(x3:Int)(x4:Int)(o1_0:ByteArray)(o1_1:AV):Tree :=
 NI (VI x3)<|NI (VI x4)<|.al (Ob.cells [VS o1_0,o1_1]=.cells [VS o1_0,o1_1])<|.al (ac [.lk .str,.lk .sl] [VS o1_0,o1_1] 0 [])<|NL o1_1<|.test (decide (x4<(o1_1.aQ.length:Int))) (NG o1_1 x4 2<|NE (o1_1.ix x4)<|.call 124 [.agg [VS (((o1_1.ix x4).getD 0 .any).ai),((o1_1.ix x4).getD 1 .any)]] [] fun r1 o1=>NI r1<|.done 0 [VI (IntKind.wrap .i64 (x3+r1.toInt)),VI (IntKind.wrap .i64 (x4+1))] [.cells [VS o1_0,o1_1]]) (.done 1 [VI x3] [])
abbrev Bi:=cq Tryz.prog 21 JY ER
theorem Cl(x3:Int)(x4:Int)(o1_0:ByteArray)(o1_1:AV)(h:jk 21 (AA x3 x4 o1_0 o1_1) Bi U):Bi [VI x3,VI x4] [.cells [VS o1_0,o1_1]] U :=
 gQ Kj h
def I6(a0_0:ByteArray)(a0_1:AV)(a1:AV)(a2_0:ByteArray)(a2_1:AV)(a3:Int):Tree :=
 .call 154 [.agg [VS a0_0,a0_1],a1] [] fun r1 o1=>NT r1<|.al ((r1.comp 0)=.agg (r1.comp 0).cs/\(r1.comp 0).cs.length=2/\bC [.str,.sl] ((r1.comp 0).cs) 0)<|NL (r1.comp 1)<|.test (!(ae (((r1.comp 0).cs.getD 0 .any).ai)==ae (mk []))) (.test (ae (((r1.comp 0).cs.getD 0 .any).ai)==ae (mk [49])) (.done 0 [VB (ae a2_0==ae (mk [117]))] []) (.call 155 [VS (((r1.comp 0).cs.getD 0 .any).ai)] [] fun r2 o2=>NB r2<|.test r2.toBool (.call 153 [VS a2_0] [] fun r3 o3=>NI r3<|.call 56 [VI r3.toInt,VI 0,VI (IntKind.wrap .i64 (a3-1))] [] fun r4 o4=>NB r4<|.done 0 [VB r4.toBool] []) (.done 0 [VB false] []))) (.call 121 [.agg [VS (((r1.comp 0).cs.getD 0 .any).ai),((r1.comp 0).cs.getD 1 .any)]] [] fun r5 o5=>NS r5<|.call 121 [.agg [VS a2_0,a2_1]] [] fun r6 o6=>NS r6<|.al (ag r5.ai+ag r6.ai<=9223372036854775807)<|.test (ae ((r5.ai:ByteArray)++r6.ai)==ae (mk [43,108])) (NG ((r1.comp 0).cs.getD 1 .any) 1 2<|NE (((r1.comp 0).cs.getD 1 .any).ix (1:Int))<|NG a2_1 1 2<|NE (a2_1.ix (1:Int))<|.call 125 [.agg [VS (((((r1.comp 0).cs.getD 1 .any).ix (1:Int)).getD 0 .any).ai),((((r1.comp 0).cs.getD 1 .any).ix (1:Int)).getD 1 .any)],(r1.comp 1),.agg [VS (((a2_1.ix (1:Int)).getD 0 .any).ai),((a2_1.ix (1:Int)).getD 1 .any)],VI a3] [] fun r7 o7=>NB r7<|.done 0 [VB r7.toBool] []) (.test (ae ((r5.ai:ByteArray)++r6.ai)==ae (mk [43,114])) (NG ((r1.comp 0).cs.getD 1 .any) 2 2<|NE (((r1.comp 0).cs.getD 1 .any).ix (2:Int))<|NG a2_1 1 2<|NE (a2_1.ix (1:Int))<|.call 125 [.agg [VS (((((r1.comp 0).cs.getD 1 .any).ix (2:Int)).getD 0 .any).ai),((((r1.comp 0).cs.getD 1 .any).ix (2:Int)).getD 1 .any)],(r1.comp 1),.agg [VS (((a2_1.ix (1:Int)).getD 0 .any).ai),((a2_1.ix (1:Int)).getD 1 .any)],VI a3] [] fun r8 o8=>NB r8<|.done 0 [VB r8.toBool] []) (.test (ae ((r5.ai:ByteArray)++r6.ai)==ae (mk [42,112])) (NG ((r1.comp 0).cs.getD 1 .any) 1 2<|NE (((r1.comp 0).cs.getD 1 .any).ix (1:Int))<|NG a2_1 1 2<|NE (a2_1.ix (1:Int))<|.call 125 [.agg [VS (((((r1.comp 0).cs.getD 1 .any).ix (1:Int)).getD 0 .any).ai),((((r1.comp 0).cs.getD 1 .any).ix (1:Int)).getD 1 .any)],(r1.comp 1),.agg [VS (((a2_1.ix (1:Int)).getD 0 .any).ai),((a2_1.ix (1:Int)).getD 1 .any)],VI a3] [] fun r9 o9=>NB r9<|.test r9.toBool (NG ((r1.comp 0).cs.getD 1 .any) 2 2<|NE (((r1.comp 0).cs.getD 1 .any).ix (2:Int))<|NG a2_1 2 2<|NE (a2_1.ix (2:Int))<|.call 125 [.agg [VS (((((r1.comp 0).cs.getD 1 .any).ix (2:Int)).getD 0 .any).ai),((((r1.comp 0).cs.getD 1 .any).ix (2:Int)).getD 1 .any)],(r1.comp 1),.agg [VS (((a2_1.ix (2:Int)).getD 0 .any).ai),((a2_1.ix (2:Int)).getD 1 .any)],VI a3] [] fun r10 o10=>NB r10<|.done 0 [VB r10.toBool] []) (.done 0 [VB false] [])) (.test (ae ((r5.ai:ByteArray)++r6.ai)==ae (mk [114,101,99,102])) (.call 156 [.agg [VS (((r1.comp 0).cs.getD 0 .any).ai),((r1.comp 0).cs.getD 1 .any)],(r1.comp 1)] [] fun r11 o11=>NT r11<|.al ((r11.comp 0)=.agg (r11.comp 0).cs/\(r11.comp 0).cs.length=2/\bC [.str,.sl] ((r11.comp 0).cs) 0)<|NL (r11.comp 1)<|NG a2_1 1 2<|NE (a2_1.ix (1:Int))<|.call 125 [.agg [VS (((r11.comp 0).cs.getD 0 .any).ai),((r11.comp 0).cs.getD 1 .any)],(r11.comp 1),.agg [VS (((a2_1.ix (1:Int)).getD 0 .any).ai),((a2_1.ix (1:Int)).getD 1 .any)],VI a3] [] fun r12 o12=>NB r12<|.done 0 [VB r12.toBool] []) (.done 0 [VB false] [])))))
theorem Ps(a0_0:ByteArray)(a0_1:AV)(a1:AV)(a2_0:ByteArray)(a2_1:AV)(a3:Int)(ha0_1:LK.has .sl a0_1)(ha1:LK.has .sl a1)(ha2_1:LK.has .sl a2_1)(h:dr 110 (I6 a0_0 a0_1 a1 a2_0 a2_1 a3) R):an Tryz.prog 125 [.agg [VS a0_0,a0_1],a1,.agg [VS a2_0,a2_1],VI a3] [] R :=
 uQ (af (bX (af (aw _) (af (bZ ha0_1) aA))) (af (bZ ha1) (af (bX (af (aw _) (af (bZ ha2_1) aA))) (af (aw _) aA)))) (oQ [] Tryz.f125 h)
def Gp:LI:={hd:={bu:=[(0,.k .sl),(1,.k .str),(7,.k (.int .i64))],eB:=[(2,4)]},xs:={eB:=[(2,4)]},rt:={},ex:=0}
def Kk:Code:=cu (cn Tryz.f126) 2
def Lj:List (Nat×LI):=[(2,Gp)]
def J2(a0:AV)(a1:ByteArray)(e2:List (List AV)):Tree :=
 .loop Kk Gp [a0,VS a1,VI 0] [.vec 4 e2] (fun y2 q2=>.al (((q2.drop 0).hO)=.vec 4 ((q2.drop 0).hO).es)<|.done 0 [.vec 1] [.dead,.vec 4 ((q2.hO).es)]) (fun y2 q2=>.fail)
theorem Qq(a0:AV)(a1:ByteArray)(e2:List (List AV))(ha0:LK.has .sl a0)(h:dr 32 (J2 a0 a1 e2) R):an Tryz.prog 126 [a0,VS a1,.vec 0] [.vec 4 e2] R :=
 an.pQ (bK (eK _) cX) (an.up (af (bZ ha0) (af (aw _) (af (aw _) aA))) (oF Lj {mu:=[(2,.one (.vec))],own:=[0]} Tryz.f126 h))
def Fm(x0:AV)(x1:ByteArray)(x7:Int)(e2:List (List AV)):Tree :=
 NL x0<|NS (VS x1)<|NI (VI x7)<|.al (Ob.vec 4 e2=.vec 4 e2)<|NL x0<|.test (decide (x7<(x0.aQ.length:Int))) (NG x0 x7 4<|NE (x0.ix x7)<|.call 98 [VS x1,.sl [[VS (((x0.ix x7).getD 0 .any).ai),((x0.ix x7).getD 1 .any)]]] [] fun r1 o1=>NA r1<|NG x0 x7 4<|NE ((x0.ix x7).drop 2)<|.al (cD 4 [[VS ((r1.cs.getD 0 .any).ai),(r1.cs.getD 1 .any),VS ((((x0.ix x7).drop 2).getD 0 .any).ai),(((x0.ix x7).drop 2).getD 1 .any)]]/\((e2.length)+([[VS ((r1.cs.getD 0 .any).ai),(r1.cs.getD 1 .any),VS ((((x0.ix x7).drop 2).getD 0 .any).ai),(((x0.ix x7).drop 2).getD 1 .any)]]:List (List AV)).length)*80<=140737488355328)<|.done 0 [x0,VS x1,VI (IntKind.wrap .i64 (x7+1))] [.vec 4 (e2++([[VS ((r1.cs.getD 0 .any).ai),(r1.cs.getD 1 .any),VS ((((x0.ix x7).drop 2).getD 0 .any).ai),(((x0.ix x7).drop 2).getD 1 .any)]]:List (List AV)))]) (.done 1 [] [.vec 4 e2])
abbrev Gt:=cq Tryz.prog 32 Kk Gp
theorem NR(x0:AV)(x1:ByteArray)(x7:Int)(e2:List (List AV))(h:jk 32 (Fm x0 x1 x7 e2) Gt U):Gt [x0,VS x1,VI x7] [.vec 4 e2] U :=
 gQ Lj h
def Kx(a0:AV):Tree :=
 .call 158 [a0] [] fun r1 o1=>NL r1<|.call 157 [r1,.v (.func (.func 159) #[] #[])] [] fun r2 o2=>NB r2<|.done 0 [VB (!r2.toBool)] []
theorem P9(a0:AV)(ha0:LK.has .ptr a0)(h:dr 7 (Kx a0) R):an Tryz.prog 127 [a0] [] R :=
 uQ (af (bq ha0) aA) (oQ [] Tryz.f127 h)
def KM(a0:ByteArray):Tree :=
 .test (decide ((ag a0:Int)>(8000:Int))) (.done 0 [.v (.pointer none)] []) (.call 160 [VS a0,VI 0] [] fun r1 o1=>NT r1<|NP (r1.comp 0)<|NS (r1.comp 1)<|.test (!(ae ((r1.comp 1).ai)==ae (mk []))) (.done 0 [.v (.pointer none)] []) (.done 0 [(r1.comp 0)] []))
theorem Qs(a0:ByteArray)(h:dr 16 (KM a0) R):an Tryz.prog 128 [VS a0] [] R :=
 uQ (af (aw _) aA) (oQ [] Tryz.f128 h)
def Hc(a0:AV):Tree :=
 NZ a0<|NZ a0<|.al (LK.has .str (a0.deref.hA)/\1<=a0.deref.length)<|.test (ae ((a0.deref.hA).ai)==ae (mk [117])) (.done 0 [.ptr [.v (.int .u8 117),VS (mk []),.v (.pointer none),.v (.pointer none)]] []) (NZ a0<|NZ a0<|.al (LK.has .str (a0.deref.hA)/\1<=a0.deref.length)<|.call 161 [VS ((a0.deref.hA).ai)] [] fun r1 o1=>NB r1<|.test r1.toBool (NZ a0<|NZ a0<|.al (LK.has .str (a0.deref.hA)/\1<=a0.deref.length)<|.done 0 [.ptr [.v (.int .u8 101),VS ((a0.deref.hA).ai),.v (.pointer none),.v (.pointer none)]] []) (.call 162 [a0,VS (mk [108]),VI 2] [] fun r2 o2=>NB r2<|.test r2.toBool (NZ a0<|NZ a0<|ou (a0.deref.drop 1)<|NG ((a0.deref.drop 1).hA) 1 1<|ef (((a0.deref.drop 1).hA).ix (1:Int))<|.call 129 [((((a0.deref.drop 1).hA).ix (1:Int)).hA)] [] fun r3 o3=>NP r3<|NP r3<|.test r3.isNil (.done 0 [.v (.pointer none)] []) (NZ a0<|NZ a0<|ou (a0.deref.drop 1)<|NG ((a0.deref.drop 1).hA) 0 1<|ef (((a0.deref.drop 1).hA).ix (0:Int))<|NZ ((((a0.deref.drop 1).hA).ix (0:Int)).hA)<|NZ ((((a0.deref.drop 1).hA).ix (0:Int)).hA)<|.al (LK.has .str (((((a0.deref.drop 1).hA).ix (0:Int)).hA).deref.hA)/\1<=(((((a0.deref.drop 1).hA).ix (0:Int)).hA).deref).length)<|.al (0<=(0:Int)/\(0:Int)<ag ((((((a0.deref.drop 1).hA).ix (0:Int)).hA).deref.hA).ai))<|.done 0 [.ptr [.v (.int .u8 (bt ((((((a0.deref.drop 1).hA).ix (0:Int)).hA).deref.hA).ai) 0)),VS (mk []),r3,.v (.pointer none)]] [])) (.call 162 [a0,VS (mk [114]),VI 2] [] fun r4 o4=>NB r4<|.test r4.toBool (NZ a0<|NZ a0<|ou (a0.deref.drop 1)<|NG ((a0.deref.drop 1).hA) 1 1<|ef (((a0.deref.drop 1).hA).ix (1:Int))<|.call 129 [((((a0.deref.drop 1).hA).ix (1:Int)).hA)] [] fun r5 o5=>NP r5<|NP r5<|.test r5.isNil (.done 0 [.v (.pointer none)] []) (NZ a0<|NZ a0<|ou (a0.deref.drop 1)<|NG ((a0.deref.drop 1).hA) 0 1<|ef (((a0.deref.drop 1).hA).ix (0:Int))<|NZ ((((a0.deref.drop 1).hA).ix (0:Int)).hA)<|NZ ((((a0.deref.drop 1).hA).ix (0:Int)).hA)<|.al (LK.has .str (((((a0.deref.drop 1).hA).ix (0:Int)).hA).deref.hA)/\1<=(((((a0.deref.drop 1).hA).ix (0:Int)).hA).deref).length)<|.al (0<=(0:Int)/\(0:Int)<ag ((((((a0.deref.drop 1).hA).ix (0:Int)).hA).deref.hA).ai))<|.done 0 [.ptr [.v (.int .u8 (bt ((((((a0.deref.drop 1).hA).ix (0:Int)).hA).deref.hA).ai) 0)),VS (mk []),r5,.v (.pointer none)]] [])) (.call 162 [a0,VS (mk [102]),VI 2] [] fun r6 o6=>NB r6<|.test r6.toBool (NZ a0<|NZ a0<|ou (a0.deref.drop 1)<|NG ((a0.deref.drop 1).hA) 1 1<|ef (((a0.deref.drop 1).hA).ix (1:Int))<|.call 129 [((((a0.deref.drop 1).hA).ix (1:Int)).hA)] [] fun r7 o7=>NP r7<|NP r7<|.test r7.isNil (.done 0 [.v (.pointer none)] []) (NZ a0<|NZ a0<|ou (a0.deref.drop 1)<|NG ((a0.deref.drop 1).hA) 0 1<|ef (((a0.deref.drop 1).hA).ix (0:Int))<|NZ ((((a0.deref.drop 1).hA).ix (0:Int)).hA)<|NZ ((((a0.deref.drop 1).hA).ix (0:Int)).hA)<|.al (LK.has .str (((((a0.deref.drop 1).hA).ix (0:Int)).hA).deref.hA)/\1<=(((((a0.deref.drop 1).hA).ix (0:Int)).hA).deref).length)<|.al (0<=(0:Int)/\(0:Int)<ag ((((((a0.deref.drop 1).hA).ix (0:Int)).hA).deref.hA).ai))<|.done 0 [.ptr [.v (.int .u8 (bt ((((((a0.deref.drop 1).hA).ix (0:Int)).hA).deref.hA).ai) 0)),VS (mk []),r7,.v (.pointer none)]] [])) (.call 162 [a0,VS (mk [112]),VI 3] [] fun r8 o8=>NB r8<|.test r8.toBool (NZ a0<|NZ a0<|ou (a0.deref.drop 1)<|NG ((a0.deref.drop 1).hA) 1 1<|ef (((a0.deref.drop 1).hA).ix (1:Int))<|.call 129 [((((a0.deref.drop 1).hA).ix (1:Int)).hA)] [] fun r9 o9=>NP r9<|NZ a0<|NZ a0<|ou (a0.deref.drop 1)<|NG ((a0.deref.drop 1).hA) 2 1<|ef (((a0.deref.drop 1).hA).ix (2:Int))<|.call 129 [((((a0.deref.drop 1).hA).ix (2:Int)).hA)] [] fun r10 o10=>NP r10<|NP r9<|.test r9.isNil (.done 0 [.v (.pointer none)] []) (NP r10<|.test r10.isNil (.done 0 [.v (.pointer none)] []) (.call 117 [r9,r10] [] fun r11 o11=>NP r11<|.done 0 [r11] []))) (.done 0 [.v (.pointer none)] []))))))
theorem IU(a0:AV)(ha0:LK.has .ptr a0)(h:dr 85 (Hc a0) R):an Tryz.prog 129 [a0] [] R :=
 uQ (af (bq ha0) aA) (oQ [] Tryz.f129 h)
def F5:LI:={hd:={bu:=[(3,.k .ptr),(10,.k (.int .i64)),(11,.k (.int .i64))]},xs:={bu:=[(3,.k .ptr)]},rt:={},ex:=0}
def Kf:Code:=cu (cn Tryz.f131) 3
def KU:List (Nat×LI):=[(3,F5)]
def Ev(a0_0:AV)(a0_1:AV):Tree :=
 NZ a0_0<|NZ a0_0<|.al (LK.has (.int .i64) ((a0_0.deref.drop 2).hA)/\1<=(a0_0.deref.drop 2).length)<|.loop Kf F5 [a0_1,VI (((a0_0.deref.drop 2).hA).toInt),VI 0] [] (fun y1 q1=>NP (y1.hA)<|NZ (y1.hA)<|NZ (y1.hA)<|.al (LK.has .ptr ((y1.hA).deref.hA)/\1<=((y1.hA).deref).length)<|.done 0 [((y1.hA).deref.hA)] []) (fun y1 q1=>.done 0 [.any] [])
theorem IV(a0_0:AV)(a0_1:AV)(ha0_0:LK.has .ptr a0_0)(ha0_1:LK.has .ptr a0_1)(h:dr 22 (Ev a0_0 a0_1) R):an Tryz.prog 131 [.agg [a0_0,a0_1]] [] R :=
 uQ (af (bX (af (bq ha0_0) (af (bq ha0_1) aA))) aA) (oQ KU Tryz.f131 h)
def Bh(x3:AV)(x10:Int)(x11:Int):Tree :=
 NP x3<|NI (VI x10)<|NI (VI x11)<|.test (decide (x11<x10)) (NZ x3<|NZ x3<|ef (x3.deref.drop 1)<|.done 0 [((x3.deref.drop 1).hA),VI x10,VI (IntKind.wrap .i64 (x11+1))] []) (.done 1 [x3] [])
abbrev B6:=cq Tryz.prog 22 Kf F5
theorem BO(x3:AV)(x10:Int)(x11:Int)(h:jk 22 (Bh x3 x10 x11) B6 U):B6 [x3,VI x10,VI x11] [] U :=
 gQ KU h
def IK(a0:ByteArray):Tree :=
 .call 122 [VS a0] [] fun r1 o1=>NT r1<|.al ((r1.comp 0)=.agg (r1.comp 0).cs/\(r1.comp 0).cs.length=2/\bC [.str,.sl] ((r1.comp 0).cs) 0)<|NB (r1.comp 1)<|.test ((r1.comp 1).toBool) (.call 165 [.agg [VS (((r1.comp 0).cs.getD 0 .any).ai),((r1.comp 0).cs.getD 1 .any)]] [] fun r2 o2=>NB r2<|.test r2.toBool (.call 140 [.agg [VS (((r1.comp 0).cs.getD 0 .any).ai),((r1.comp 0).cs.getD 1 .any)]] [] fun r3 o3=>NI r3<|.done 0 [.cN [.agg [VS (((r1.comp 0).cs.getD 0 .any).ai),((r1.comp 0).cs.getD 1 .any)],VB (decide (r3.toInt<=(400:Int)))]] []) (.done 0 [.cN [.agg [VS (((r1.comp 0).cs.getD 0 .any).ai),((r1.comp 0).cs.getD 1 .any)],VB false]] [])) (.done 0 [.cN [.agg [VS (((r1.comp 0).cs.getD 0 .any).ai),((r1.comp 0).cs.getD 1 .any)],VB false]] [])
theorem Rt(a0:ByteArray)(h:dr 22 (IK a0) R):an Tryz.prog 132 [VS a0] [] R :=
 uQ (af (aw _) aA) (oQ [] Tryz.f132 h)
def Ja(a0_0:ByteArray)(a0_1:AV):Tree :=
 NG a0_1 1 2<|lI (a0_1.ix (1:Int))<|NG a0_1 2 2<|NE (a0_1.ix (2:Int))<|.call 166 [.agg [VS (((a0_1.ix (2:Int)).getD 0 .any).ai),((a0_1.ix (2:Int)).getD 1 .any)],VS (((a0_1.ix (1:Int)).hA).ai)] [] fun r1 o1=>NT r1<|.al ((r1.comp 0)=.agg (r1.comp 0).cs/\(r1.comp 0).cs.length=2/\bC [.str,.sl] ((r1.comp 0).cs) 0)<|NB (r1.comp 1)<|.test (!((r1.comp 1).toBool)) (.done 0 [.cN [.agg [VS a0_0,a0_1],VB false]] []) (.call 167 [.agg [VS (((r1.comp 0).cs.getD 0 .any).ai),((r1.comp 0).cs.getD 1 .any)],VS (((a0_1.ix (1:Int)).hA).ai),.agg [VS a0_0,a0_1]] [] fun r2 o2=>NT r2<|.al ((r2.comp 0)=.agg (r2.comp 0).cs/\(r2.comp 0).cs.length=2/\bC [.str,.sl] ((r2.comp 0).cs) 0)<|NB (r2.comp 1)<|.done 0 [.cN [.agg [VS (((r2.comp 0).cs.getD 0 .any).ai),((r2.comp 0).cs.getD 1 .any)],VB ((r2.comp 1).toBool)]] [])
theorem Qi(a0_0:ByteArray)(a0_1:AV)(ha0_1:LK.has .sl a0_1)(h:dr 30 (Ja a0_0 a0_1) R):an Tryz.prog 133 [.agg [VS a0_0,a0_1]] [] R :=
 uQ (af (bX (af (aw _) (af (bZ ha0_1) aA))) aA) (oQ [] Tryz.f133 h)
def KW(a0_0:ByteArray)(a0_1:AV):Tree :=
 .call 140 [.agg [VS a0_0,a0_1]] [] fun r1 o1=>NI r1<|.test (decide (r1.toInt>(400:Int))) (.done 0 [.cN [VS (mk []),VB false]] []) (.call 106 [.agg [VS a0_0,a0_1],.v (.slice none 0 0)] [] fun r2 o2=>NA r2<|.call 97 [.agg [VS ((r2.cs.getD 0 .any).ai),(r2.cs.getD 1 .any)]] [] fun r3 o3=>NS r3<|.call 168 [VS r3.ai] [] fun r4 o4=>NB r4<|.test (!r4.toBool) (.done 0 [.cN [VS (mk []),VB false]] []) (.done 0 [.cN [VS r3.ai,VB true]] []))
theorem Rn(a0_0:ByteArray)(a0_1:AV)(ha0_1:LK.has .sl a0_1)(h:dr 15 (KW a0_0 a0_1) R):an Tryz.prog 134 [.agg [VS a0_0,a0_1]] [] R :=
 uQ (af (bX (af (aw _) (af (bZ ha0_1) aA))) aA) (oQ [] Tryz.f134 h)
def Hp(a0_0:ByteArray)(a0_1:AV)(a1:AV)(e2:List (List AV)):Tree :=
 .test (!(ae a0_0==ae (mk []))) (.test (ae a0_0==ae (mk [48])) (.done 0 [.vec 1] [.dead,.vec 1 e2]) (.test (ae a0_0==ae (mk [49])) (.done 0 [.vec 1] [.dead,.vec 1 e2]) (.call 169 [a1,VS a0_0] [] fun r1 o1=>NB r1<|.test r1.toBool (.done 0 [.vec 1] [.dead,.vec 1 e2]) (.call 169 [.sl e2,VS a0_0] [] fun r2 o2=>NB r2<|.test r2.toBool (.done 0 [.vec 1] [.dead,.vec 1 e2]) (.al (cD 1 [[VS a0_0]]/\((e2.length)+([[VS a0_0]]:List (List AV)).length)*16<=140737488355328)<|.done 0 [.vec 1] [.dead,.vec 1 (e2++([[VS a0_0]]:List (List AV)))]))))) (.call 121 [.agg [VS a0_0,a0_1]] [] fun r3 o3=>NS r3<|.test (ae r3.ai==ae (mk [114,101,99])) (NG a0_1 2 2<|NE (a0_1.ix (2:Int))<|NG a0_1 1 2<|lI (a0_1.ix (1:Int))<|.call 79 [a1,VS (((a0_1.ix (1:Int)).hA).ai)] [] fun r4 o4=>NL r4<|.call 137 [.agg [VS (((a0_1.ix (2:Int)).getD 0 .any).ai),((a0_1.ix (2:Int)).getD 1 .any)],r4,.vec 0] [.vec 1 e2] fun r5 o5=>.al (r5=.vec 1/\(o5.tail.hO)=.vec 1 (o5.tail.hO).es)<|.done 0 [.vec 1] [.dead,.vec 1 ((o5.tail.hO).es)]) (NG a0_1 2 2<|NE (a0_1.ix (2:Int))<|NG a0_1 1 2<|NE (a0_1.ix (1:Int))<|.call 137 [.agg [VS (((a0_1.ix (1:Int)).getD 0 .any).ai),((a0_1.ix (1:Int)).getD 1 .any)],a1,.vec 0] [.vec 1 e2] fun r6 o6=>.al (r6=.vec 1/\(o6.tail.hO)=.vec 1 (o6.tail.hO).es)<|.call 137 [.agg [VS (((a0_1.ix (2:Int)).getD 0 .any).ai),((a0_1.ix (2:Int)).getD 1 .any)],a1,.vec 0] [.vec 1 ((o6.tail.hO).es)] fun r7 o7=>.al (r7=.vec 1/\(o7.tail.hO)=.vec 1 (o7.tail.hO).es)<|.done 0 [.vec 1] [.dead,.vec 1 ((o7.tail.hO).es)]))
theorem yu(a0_0:ByteArray)(a0_1:AV)(a1:AV)(e2:List (List AV))(ha0_1:LK.has .sl a0_1)(ha1:LK.has .sl a1)(h:dr 65 (Hp a0_0 a0_1 a1 e2) R):an Tryz.prog 137 [.agg [VS a0_0,a0_1],a1,.vec 0] [.vec 1 e2] R :=
 an.pQ (bK (eK _) cX) (an.up (af (bX (af (aw _) (af (bZ ha0_1) aA))) (af (bZ ha1) (af (aw _) aA))) (oF [] {mu:=[(2,.one (.vec))],own:=[0]} Tryz.f137 h))
def Kg(a0:ByteArray):Tree :=
 .call 170 [VS a0,.v (.int .u8 116),.v (.int .u8 116)] [] fun r1 o1=>NB r1<|.done 0 [VB r1.toBool] []
theorem Q1(a0:ByteArray)(h:dr 5 (Kg a0) R):an Tryz.prog 138 [VS a0] [] R :=
 uQ (af (aw _) aA) (oQ [] Tryz.f138 h)
def GV:LI:={hd:={bu:=[(3,.k (.int .i64)),(4,.k (.int .i64))],refs:=[(1,1)],co:=[(1,[.lk .str,.lk .sl])]},xs:={bu:=[(3,.k (.int .i64))]},rt:={},ex:=0}
def Nb:Code:=cu (cn Tryz.f140) 5
def Iq:List (Nat×LI):=[(5,GV)]
def EK(a0_0:ByteArray)(a0_1:AV):Tree :=
 .test (!(ae a0_0==ae (mk []))) (.done 0 [VI 1] []) (.loop Nb GV [VI 0,VI 0] [.cells [VS a0_0,a0_1]] (fun y2 q2=>NI (y2.hA)<|.done 0 [VI ((y2.hA).toInt)] []) (fun y2 q2=>.done 0 [.any] []))
theorem Mc(a0_0:ByteArray)(a0_1:AV)(ha0_1:LK.has .sl a0_1)(h:dr 24 (EK a0_0 a0_1) R):an Tryz.prog 140 [.agg [VS a0_0,a0_1]] [] R :=
 uQ (af (bX (af (aw _) (af (bZ ha0_1) aA))) aA) (oQ Iq Tryz.f140 h)
def EI(x3:Int)(x4:Int)(o1_0:ByteArray)(o1_1:AV):Tree :=
 NI (VI x3)<|NI (VI x4)<|.al (Ob.cells [VS o1_0,o1_1]=.cells [VS o1_0,o1_1])<|.al (ac [.lk .str,.lk .sl] [VS o1_0,o1_1] 0 [])<|NL o1_1<|.test (decide (x4<(o1_1.aQ.length:Int))) (NG o1_1 x4 2<|NE (o1_1.ix x4)<|.call 140 [.agg [VS (((o1_1.ix x4).getD 0 .any).ai),((o1_1.ix x4).getD 1 .any)]] [] fun r1 o1=>NI r1<|.done 0 [VI (IntKind.wrap .i64 (x3+r1.toInt)),VI (IntKind.wrap .i64 (x4+1))] [.cells [VS o1_0,o1_1]]) (.done 1 [VI x3] [])
abbrev F4:=cq Tryz.prog 24 Nb GV
theorem MH(x3:Int)(x4:Int)(o1_0:ByteArray)(o1_1:AV)(h:jk 24 (EI x3 x4 o1_0 o1_1) F4 U):F4 [VI x3,VI x4] [.cells [VS o1_0,o1_1]] U :=
 gQ Iq h
def Ip(a0:Int):Tree :=
 .test (decide (a0<((-9223372036854775807):Int))) (.done 0 [VS (mk [45,57,50,50,51,51,55,50,48,51,54,56,53,52,55,55,53,56,48,56])] []) (.test (decide (a0<(0:Int))) (.call 142 [VI (IntKind.wrap .i64 (0-a0))] [] fun r1 o1=>NS r1<|.al (ag (mk [45])+ag r1.ai<=9223372036854775807)<|.done 0 [VS (((mk [45]):ByteArray)++r1.ai)] []) (.test (decide (a0<(10:Int))) (.al (i6 [[.v (.int .u8 (IntKind.wrap .u8 (IntKind.wrap .i64 (48+a0))))]])<|.done 0 [VS (⟨(bytesOf [[.v (.int .u8 (IntKind.wrap .u8 (IntKind.wrap .i64 (48+a0))))]]).toArray⟩)] []) (.al (¬(10:Int)=0)<|.call 142 [VI (IntKind.wrap .i64 (Int.tdiv a0 10))] [] fun r2 o2=>NS r2<|.al (¬(10:Int)=0)<|.al (i6 [[.v (.int .u8 (IntKind.wrap .u8 (IntKind.wrap .i64 (48+(Int.tmod a0 10)))))]])<|.al (ag r2.ai+ag (⟨(bytesOf [[.v (.int .u8 (IntKind.wrap .u8 (IntKind.wrap .i64 (48+(Int.tmod a0 10)))))]]).toArray⟩)<=9223372036854775807)<|.done 0 [VS ((r2.ai:ByteArray)++(⟨(bytesOf [[.v (.int .u8 (IntKind.wrap .u8 (IntKind.wrap .i64 (48+(Int.tmod a0 10)))))]]).toArray⟩))] [])))
theorem PM(a0:Int)(h:dr 28 (Ip a0) R):an Tryz.prog 142 [VI a0] [] R :=
 uQ (af (aw _) aA) (oQ [] Tryz.f142 h)
def Fb:LI:={hd:={bu:=[(1,.k .sl),(2,.k .sl),(9,.k (.int .i64))],refs:=[(4,4),(8,8)],co:=[(4,[.lk .str,.lk .sl]),(8,[.lk .str,.lk .sl]),(0,[.vec 1,.lk (.int .i64)])]},xs:={refs:=[(4,4),(8,8)],co:=[(4,[.lk .str,.lk .sl]),(8,[.lk .str,.lk .sl]),(0,[.vec 1,.lk (.int .i64)])]},rt:={refs:=[(8,8)],co:=[(8,[.lk .str,.lk .sl]),(0,[.vec 1,.lk (.int .i64)])]},ex:=0,fx:=[0]}
def Lr:Code:=cu (cn Tryz.f143) 3
def FT:LI:={hd:={bu:=[(1,.k .sl),(2,.k .sl),(10,.k .str)],refs:=[(3,0),(4,4),(8,8)],co:=[(0,[.vec 1,.lk (.int .i64)]),(4,[.lk .str,.lk .sl]),(8,[.lk .str,.lk .sl])]},xs:={bu:=[(1,.k .sl),(2,.k .sl),(10,.k .str)],refs:=[(3,0),(4,4),(8,8)],co:=[(0,[.vec 1,.lk (.int .i64)]),(4,[.lk .str,.lk .sl]),(8,[.lk .str,.lk .sl])]},rt:={co:=[(0,[.vec 1,.lk (.int .i64)])]},ex:=2,fx:=[0]}
def MQ:Code:=cu (cn Tryz.f143) 10
def G5:List (Nat×LI):=[(3,Fb),(10,FT)]
def Ah(a0_0:ByteArray)(a0_1:AV)(a1:AV)(a2:AV)(e3_0:List (List AV))(a3_1:Int):Tree :=
 .test (!(ae a0_0==ae (mk []))) (NL a1<|.loop Lr Fb [a1,a2,VI (IntKind.wrap .i64 ((a1.aQ.length:Int)-1))] [.cells [VS a0_0,a0_1],.cells [VS (mk []),.v (.slice none 0 0)],.cells [.any,VI a3_1],.vec 1 e3_0] (fun y1 q1=>.al ((q1.hO)=.cells (q1.hO).cs)<|.al (ac [.lk .str,.lk .sl] ((q1.hO).cs) 0 q1.tail)<|.al (((q1.tail.drop 0).hO)=.cells ((q1.tail.drop 0).hO).cs)<|.al (ac [.lk .str,.lk .sl] (((q1.tail.drop 0).hO).cs) 0 ((q1.tail.drop 0).tail))<|.al ((((q1.tail.drop 0).tail.drop 0).hO)=.cells (((q1.tail.drop 0).tail.drop 0).hO).cs)<|.al (ac [.vec 1,.lk (.int .i64)] ((((q1.tail.drop 0).tail.drop 0).hO).cs) 0 (((q1.tail.drop 0).tail.drop 0).tail))<|.done 0 [.agg [VS (((q1.hO).cs.getD 0 .any).ai),((q1.hO).cs.getD 1 .any)]] [.cells [.vec 1,VI (((q1.tail.tail.hO).cs.getD 1 .any).toInt)],.vec 1 ((q1.tail.tail.tail.hO).es)]) (fun y1 q1=>.al ((q1.hO)=.cells (q1.hO).cs)<|.al (ac [.lk .str,.lk .sl] ((q1.hO).cs) 0 q1.tail)<|.al (((q1.tail.drop 0).hO)=.cells ((q1.tail.drop 0).hO).cs)<|.al (ac [.vec 1,.lk (.int .i64)] (((q1.tail.drop 0).hO).cs) 0 ((q1.tail.drop 0).tail))<|.done 0 [.agg [VS (((q1.hO).cs.getD 0 .any).ai),((q1.hO).cs.getD 1 .any)]] [.cells [.vec 1,VI (((q1.tail.hO).cs.getD 1 .any).toInt)],.vec 1 ((q1.tail.tail.hO).es)])) (.call 121 [.agg [VS a0_0,a0_1]] [] fun r2 o2=>NS r2<|.test (ae r2.ai==ae (mk [114,101,99])) (.call 142 [VI a3_1] [] fun r3 o3=>NS r3<|.al (ag (mk [116])+ag r3.ai<=9223372036854775807)<|.loop MQ FT [a1,a2,VS (((mk [116]):ByteArray)++r3.ai)] [.cells [.any,VI a3_1],.vec 1 e3_0,.cells [VS a0_0,a0_1],.cells [VS (mk []),.v (.slice none 0 0)]] (fun y6 q6=>NL (y6.hA)<|NL (y6.tail.hA)<|NS (y6.tail.tail.hA)<|.al ((q6.hO)=.cells (q6.hO).cs)<|.al (ac [.vec 1,.lk (.int .i64)] ((q6.hO).cs) 0 q6.tail)<|.al (((q6.tail.drop 1).hO)=.cells ((q6.tail.drop 1).hO).cs)<|.al (ac [.lk .str,.lk .sl] (((q6.tail.drop 1).hO).cs) 0 ((q6.tail.drop 1).tail))<|.al ((((q6.tail.drop 1).tail.drop 0).hO)=.cells (((q6.tail.drop 1).tail.drop 0).hO).cs)<|.al (ac [.lk .str,.lk .sl] ((((q6.tail.drop 1).tail.drop 0).hO).cs) 0 (((q6.tail.drop 1).tail.drop 0).tail))<|NG ((q6.tail.tail.hO).cs.getD 1 .any) 2 2<|NE (((q6.tail.tail.hO).cs.getD 1 .any).ix (2:Int))<|NG ((q6.tail.tail.hO).cs.getD 1 .any) 1 2<|lI (((q6.tail.tail.hO).cs.getD 1 .any).ix (1:Int))<|.call 79 [(y6.hA),VS (((((q6.tail.tail.hO).cs.getD 1 .any).ix (1:Int)).hA).ai)] [] fun r7 o7=>NL r7<|.call 79 [(y6.tail.hA),VS ((y6.tail.tail.hA).ai)] [] fun r8 o8=>NL r8<|.call 143 [.agg [VS (((((q6.tail.tail.hO).cs.getD 1 .any).ix (2:Int)).getD 0 .any).ai),((((q6.tail.tail.hO).cs.getD 1 .any).ix (2:Int)).getD 1 .any)],r7,r8,.ref 0 0] [.cells [.vec 1,VI (IntKind.wrap .i64 ((((q6.hO).cs.getD 1 .any).toInt)+1))],.vec 1 ((q6.tail.hO).es)] fun r9 o9=>.al ((o9.hO)=.cells (o9.hO).cs)<|.al (bm [.vec 1,.lk (.int .i64)] ((o9.hO).cs) 0 1 o9.tail)<|NA r9<|.call 98 [VS (mk [114,101,99]),.sl [[VS ((y6.tail.tail.hA).ai),.v (.slice none 0 0)],[VS ((r9.cs.getD 0 .any).ai),(r9.cs.getD 1 .any)]]] [] fun r10 o10=>NA r10<|.done 0 [.agg [VS ((r10.cs.getD 0 .any).ai),(r10.cs.getD 1 .any)]] [.cells [.vec 1,VI (((o9.hO).cs.getD 1 .any).toInt)],.vec 1 ((o9.tail.hO).es)]) (fun y6 q6=>.al ((q6.hO)=.cells (q6.hO).cs)<|.al (ac [.vec 1,.lk (.int .i64)] ((q6.hO).cs) 0 q6.tail)<|.fail)) (NG a0_1 1 2<|NE (a0_1.ix (1:Int))<|.call 143 [.agg [VS (((a0_1.ix (1:Int)).getD 0 .any).ai),((a0_1.ix (1:Int)).getD 1 .any)],a1,a2,.ref 0 0] [.cells [.vec 1,VI a3_1],.vec 1 e3_0] fun r11 o11=>.al ((o11.hO)=.cells (o11.hO).cs)<|.al (bm [.vec 1,.lk (.int .i64)] ((o11.hO).cs) 0 1 o11.tail)<|NA r11<|.call 121 [.agg [VS a0_0,a0_1]] [] fun r12 o12=>NS r12<|NG a0_1 2 2<|NE (a0_1.ix (2:Int))<|.call 143 [.agg [VS (((a0_1.ix (2:Int)).getD 0 .any).ai),((a0_1.ix (2:Int)).getD 1 .any)],a1,a2,.ref 0 0] [.cells [.vec 1,VI (((o11.hO).cs.getD 1 .any).toInt)],.vec 1 ((o11.tail.hO).es)] fun r13 o13=>.al ((o13.hO)=.cells (o13.hO).cs)<|.al (bm [.vec 1,.lk (.int .i64)] ((o13.hO).cs) 0 1 o13.tail)<|NA r13<|.call 98 [VS r12.ai,.sl [[VS ((r11.cs.getD 0 .any).ai),(r11.cs.getD 1 .any)],[VS ((r13.cs.getD 0 .any).ai),(r13.cs.getD 1 .any)]]] [] fun r14 o14=>NA r14<|.done 0 [.agg [VS ((r14.cs.getD 0 .any).ai),(r14.cs.getD 1 .any)]] [.cells [.vec 1,VI (((o13.hO).cs.getD 1 .any).toInt)],.vec 1 ((o13.tail.hO).es)]))
theorem BS(a0_0:ByteArray)(a0_1:AV)(a1:AV)(a2:AV)(e3_0:List (List AV))(a3_1:Int)(ha0_1:LK.has .sl a0_1)(ha1:LK.has .sl a1)(ha2:LK.has .sl a2)(h:dr 113 (Ah a0_0 a0_1 a1 a2 e3_0 a3_1) R):an Tryz.prog 143 [.agg [VS a0_0,a0_1],a1,a2,.ref 0 0] [.cells [.vec 1,VI a3_1],.vec 1 e3_0] R :=
 an.pQ (bK (cL (af (aw _) (af (aw _) aA))) (bK (eK _) cX)) (an.up (af (bX (af (aw _) (af (bZ ha0_1) aA))) (af (bZ ha1) (af (bZ ha2) (af (aw _) aA)))) (oF G5 {mu:=[(3,.one (.obj [.vec 1,.lk (.int .i64)]))],own:=[]} Tryz.f143 h))
def Es(x1:AV)(x2:AV)(x9:Int)(o4_0:ByteArray)(o4_1:AV)(o8_0:ByteArray)(o8_1:AV)(o0_0:List (List AV))(o0_1:Int):Tree :=
 NL x1<|NL x2<|NI (VI x9)<|.al (Ob.cells [VS o4_0,o4_1]=.cells [VS o4_0,o4_1])<|.al (ac [.lk .str,.lk .sl] [VS o4_0,o4_1] 0 [.cells [VS o8_0,o8_1],.cells [.any,VI o0_1],.vec 1 o0_0])<|.al (Ob.cells [VS o8_0,o8_1]=.cells [VS o8_0,o8_1])<|.al (ac [.lk .str,.lk .sl] [VS o8_0,o8_1] 0 [.cells [.any,VI o0_1],.vec 1 o0_0])<|.al (Ob.cells [.any,VI o0_1]=.cells [.any,VI o0_1])<|.al (ac [.vec 1,.lk (.int .i64)] [.any,VI o0_1] 0 [.vec 1 o0_0])<|.test (decide (x9≥(0:Int))) (NG x1 x9 1<|lI (x1.ix x9)<|.test (ae (((x1.ix x9).hA).ai)==ae o4_0) (NG x2 x9 1<|lI (x2.ix x9)<|.done 2 [] [.cells [VS (((x2.ix x9).hA).ai),.v (.slice none 0 0)],.cells [.any,VI o0_1],.vec 1 o0_0]) (.done 0 [x1,x2,VI (IntKind.wrap .i64 (x9-1))] [.cells [VS o4_0,o4_1],.cells [VS o8_0,o8_1],.cells [.any,VI o0_1],.vec 1 o0_0])) (.done 1 [] [.cells [VS o4_0,o4_1],.cells [VS o8_0,o8_1],.cells [.any,VI o0_1],.vec 1 o0_0])
abbrev Hv:=cq Tryz.prog 113 Lr Fb
theorem NN(x1:AV)(x2:AV)(x9:Int)(o4_0:ByteArray)(o4_1:AV)(o8_0:ByteArray)(o8_1:AV)(o0_0:List (List AV))(o0_1:Int)(h:jk 113 (Es x1 x2 x9 o4_0 o4_1 o8_0 o8_1 o0_0 o0_1) Hv U):Hv [x1,x2,VI x9] [.cells [VS o4_0,o4_1],.cells [VS o8_0,o8_1],.cells [.any,VI o0_1],.vec 1 o0_0] U :=
 gQ G5 h
def Mx(x1:AV)(x2:AV)(x10:ByteArray)(o0_0:List (List AV))(o0_1:Int)(o4_0:ByteArray)(o4_1:AV)(o8_0:ByteArray)(o8_1:AV):Tree :=
 NL x1<|NL x2<|NS (VS x10)<|.al (Ob.cells [.any,VI o0_1]=.cells [.any,VI o0_1])<|.al (ac [.vec 1,.lk (.int .i64)] [.any,VI o0_1] 0 [.vec 1 o0_0,.cells [VS o4_0,o4_1],.cells [VS o8_0,o8_1]])<|.al (Ob.cells [VS o4_0,o4_1]=.cells [VS o4_0,o4_1])<|.al (ac [.lk .str,.lk .sl] [VS o4_0,o4_1] 0 [.cells [VS o8_0,o8_1]])<|.al (Ob.cells [VS o8_0,o8_1]=.cells [VS o8_0,o8_1])<|.al (ac [.lk .str,.lk .sl] [VS o8_0,o8_1] 0 [])<|.call 169 [.sl o0_0,VS x10] [] fun r1 o1=>NB r1<|.test r1.toBool (.call 142 [VI (IntKind.wrap .i64 (o0_1+1))] [] fun r2 o2=>NS r2<|.al (ag (mk [116])+ag r2.ai<=9223372036854775807)<|.done 0 [x1,x2,VS (((mk [116]):ByteArray)++r2.ai)] [.cells [.any,VI (IntKind.wrap .i64 (o0_1+1))],.vec 1 o0_0,.cells [VS o4_0,o4_1],.cells [VS o8_0,o8_1]]) (.done 1 [x1,x2,VS x10] [.cells [.any,VI o0_1],.vec 1 o0_0,.cells [VS o4_0,o4_1],.cells [VS o8_0,o8_1]])
abbrev Gg:=cq Tryz.prog 113 MQ FT
theorem Oo(x1:AV)(x2:AV)(x10:ByteArray)(o0_0:List (List AV))(o0_1:Int)(o4_0:ByteArray)(o4_1:AV)(o8_0:ByteArray)(o8_1:AV)(h:jk 113 (Mx x1 x2 x10 o0_0 o0_1 o4_0 o4_1 o8_0 o8_1) Gg U):Gg [x1,x2,VS x10] [.cells [.any,VI o0_1],.vec 1 o0_0,.cells [VS o4_0,o4_1],.cells [VS o8_0,o8_1]] U :=
 gQ G5 h
def FD:LI:={hd:={bu:=[(0,.k .ptr),(1,.k .sl),(5,.k (.int .i64))]},xs:={bu:=[(0,.k .ptr)]},rt:={refs:=[(4,69)],co:=[(69,[.lk (.int .u8),.lk .str,.lk (.int .i64),.lk .ptr,.lk .ptr])]},ex:=1}
def Ia:Code:=cu (cn Tryz.f144) 7
def JI:List (Nat×LI):=[(7,FD)]
def Hq(a0:AV)(a1:AV):Tree :=
 NZ a0<|NZ a0<|.al (LK.has .str (a0.deref.hA)/\1<=a0.deref.length)<|.test (ae ((a0.deref.hA).ai)==ae (mk [48])) (NZ a0<|NZ a0<|.al (LK.has .str (a0.deref.hA)/\1<=a0.deref.length)<|.al (0<=(0:Int)/\(0:Int)<ag ((a0.deref.hA).ai))<|.done 0 [.ptr [.v (.int .u8 (bt ((a0.deref.hA).ai) 0)),VS (mk []),VI 0,.v (.pointer none),.v (.pointer none)]] []) (NZ a0<|NZ a0<|.al (LK.has .str (a0.deref.hA)/\1<=a0.deref.length)<|.test (ae ((a0.deref.hA).ai)==ae (mk [49])) (NZ a0<|NZ a0<|.al (LK.has .str (a0.deref.hA)/\1<=a0.deref.length)<|.al (0<=(0:Int)/\(0:Int)<ag ((a0.deref.hA).ai))<|.done 0 [.ptr [.v (.int .u8 (bt ((a0.deref.hA).ai) 0)),VS (mk []),VI 0,.v (.pointer none),.v (.pointer none)]] []) (NZ a0<|NZ a0<|.al (LK.has .str (a0.deref.hA)/\1<=a0.deref.length)<|.call 173 [VS ((a0.deref.hA).ai)] [] fun r1 o1=>NB r1<|.test r1.toBool (NZ a0<|NZ a0<|.al (LK.has .str (a0.deref.hA)/\1<=a0.deref.length)<|.done 0 [.ptr [.v (.int .u8 110),VS ((a0.deref.hA).ai),VI 0,.v (.pointer none),.v (.pointer none)]] []) (NZ a0<|NZ a0<|.al (LK.has .str (a0.deref.hA)/\1<=a0.deref.length)<|.call 159 [VS ((a0.deref.hA).ai)] [] fun r2 o2=>NB r2<|.test r2.toBool (NL a1<|.loop Ia FD [a0,a1,VI (IntKind.wrap .i64 ((a1.aQ.length:Int)-1))] [] (fun y3 q3=>NP (y3.hA)<|NZ (y3.hA)<|NZ (y3.hA)<|.al (LK.has .str ((y3.hA).deref.hA)/\1<=((y3.hA).deref).length)<|.done 0 [.ptr [.v (.int .u8 110),VS (((y3.hA).deref.hA).ai),VI 0,.v (.pointer none),.v (.pointer none)]] []) (fun y3 q3=>.al ((q3.hO)=.cells (q3.hO).cs)<|.al (ac [.lk (.int .u8),.lk .str,.lk (.int .i64),.lk .ptr,.lk .ptr] ((q3.hO).cs) 0 q3.tail)<|.done 0 [.ptr [.v (.int .u8 (((q3.hO).cs.getD 0 .any).toInt)),VS (((q3.hO).cs.getD 1 .any).ai),VI (((q3.hO).cs.getD 2 .any).toInt),((q3.hO).cs.getD 3 .any),((q3.hO).cs.getD 4 .any)]] [])) (.call 162 [a0,VS (mk [43]),VI 3] [] fun r4 o4=>NB r4<|.test r4.toBool (NZ a0<|NZ a0<|ou (a0.deref.drop 1)<|NG ((a0.deref.drop 1).hA) 1 1<|ef (((a0.deref.drop 1).hA).ix (1:Int))<|.call 144 [((((a0.deref.drop 1).hA).ix (1:Int)).hA),a1] [] fun r5 o5=>NP r5<|NZ a0<|NZ a0<|ou (a0.deref.drop 1)<|NG ((a0.deref.drop 1).hA) 2 1<|ef (((a0.deref.drop 1).hA).ix (2:Int))<|.call 144 [((((a0.deref.drop 1).hA).ix (2:Int)).hA),a1] [] fun r6 o6=>NP r6<|NP r5<|.test r5.isNil (.done 0 [.v (.pointer none)] []) (NP r6<|.test r6.isNil (.done 0 [.v (.pointer none)] []) (NZ a0<|NZ a0<|ou (a0.deref.drop 1)<|NG ((a0.deref.drop 1).hA) 0 1<|ef (((a0.deref.drop 1).hA).ix (0:Int))<|NZ ((((a0.deref.drop 1).hA).ix (0:Int)).hA)<|NZ ((((a0.deref.drop 1).hA).ix (0:Int)).hA)<|.al (LK.has .str (((((a0.deref.drop 1).hA).ix (0:Int)).hA).deref.hA)/\1<=(((((a0.deref.drop 1).hA).ix (0:Int)).hA).deref).length)<|.al (0<=(0:Int)/\(0:Int)<ag ((((((a0.deref.drop 1).hA).ix (0:Int)).hA).deref.hA).ai))<|.done 0 [.ptr [.v (.int .u8 (bt ((((((a0.deref.drop 1).hA).ix (0:Int)).hA).deref.hA).ai) 0)),VS (mk []),VI 0,r5,r6]] []))) (.call 162 [a0,VS (mk [42]),VI 3] [] fun r7 o7=>NB r7<|.test r7.toBool (NZ a0<|NZ a0<|ou (a0.deref.drop 1)<|NG ((a0.deref.drop 1).hA) 1 1<|ef (((a0.deref.drop 1).hA).ix (1:Int))<|.call 144 [((((a0.deref.drop 1).hA).ix (1:Int)).hA),a1] [] fun r8 o8=>NP r8<|NZ a0<|NZ a0<|ou (a0.deref.drop 1)<|NG ((a0.deref.drop 1).hA) 2 1<|ef (((a0.deref.drop 1).hA).ix (2:Int))<|.call 144 [((((a0.deref.drop 1).hA).ix (2:Int)).hA),a1] [] fun r9 o9=>NP r9<|NP r8<|.test r8.isNil (.done 0 [.v (.pointer none)] []) (NP r9<|.test r9.isNil (.done 0 [.v (.pointer none)] []) (NZ a0<|NZ a0<|ou (a0.deref.drop 1)<|NG ((a0.deref.drop 1).hA) 0 1<|ef (((a0.deref.drop 1).hA).ix (0:Int))<|NZ ((((a0.deref.drop 1).hA).ix (0:Int)).hA)<|NZ ((((a0.deref.drop 1).hA).ix (0:Int)).hA)<|.al (LK.has .str (((((a0.deref.drop 1).hA).ix (0:Int)).hA).deref.hA)/\1<=(((((a0.deref.drop 1).hA).ix (0:Int)).hA).deref).length)<|.al (0<=(0:Int)/\(0:Int)<ag ((((((a0.deref.drop 1).hA).ix (0:Int)).hA).deref.hA).ai))<|.done 0 [.ptr [.v (.int .u8 (bt ((((((a0.deref.drop 1).hA).ix (0:Int)).hA).deref.hA).ai) 0)),VS (mk []),VI 0,r8,r9]] []))) (.call 162 [a0,VS (mk [114,101,99]),VI 3] [] fun r10 o10=>NB r10<|.test r10.toBool (NZ a0<|NZ a0<|ou (a0.deref.drop 1)<|NG ((a0.deref.drop 1).hA) 1 1<|ef (((a0.deref.drop 1).hA).ix (1:Int))<|NZ ((((a0.deref.drop 1).hA).ix (1:Int)).hA)<|NZ ((((a0.deref.drop 1).hA).ix (1:Int)).hA)<|.al (LK.has .str (((((a0.deref.drop 1).hA).ix (1:Int)).hA).deref.hA)/\1<=(((((a0.deref.drop 1).hA).ix (1:Int)).hA).deref).length)<|.call 159 [VS ((((((a0.deref.drop 1).hA).ix (1:Int)).hA).deref.hA).ai)] [] fun r11 o11=>NB r11<|.test r11.toBool (NZ a0<|NZ a0<|ou (a0.deref.drop 1)<|NG ((a0.deref.drop 1).hA) 2 1<|ef (((a0.deref.drop 1).hA).ix (2:Int))<|.al (LK.has .sl a1/\cD 1 a1.aQ/\((([]:List (List AV)).length)+a1.aQ.length)*16<=140737488355328)<|NZ a0<|NZ a0<|ou (a0.deref.drop 1)<|NG ((a0.deref.drop 1).hA) 1 1<|ef (((a0.deref.drop 1).hA).ix (1:Int))<|NZ ((((a0.deref.drop 1).hA).ix (1:Int)).hA)<|NZ ((((a0.deref.drop 1).hA).ix (1:Int)).hA)<|.al (LK.has .str (((((a0.deref.drop 1).hA).ix (1:Int)).hA).deref.hA)/\1<=(((((a0.deref.drop 1).hA).ix (1:Int)).hA).deref).length)<|.al (cD 1 [[VS ((((((a0.deref.drop 1).hA).ix (1:Int)).hA).deref.hA).ai)]]/\(((([]:List (List AV))++a1.aQ).length)+([[VS ((((((a0.deref.drop 1).hA).ix (1:Int)).hA).deref.hA).ai)]]:List (List AV)).length)*16<=140737488355328)<|.call 144 [((((a0.deref.drop 1).hA).ix (2:Int)).hA),.sl ((([]:List (List AV))++a1.aQ)++([[VS ((((((a0.deref.drop 1).hA).ix (1:Int)).hA).deref.hA).ai)]]:List (List AV)))] [] fun r12 o12=>NP r12<|NP r12<|.test r12.isNil (.done 0 [.v (.pointer none)] []) (.done 0 [.ptr [.v (.int .u8 114),VS (mk []),VI 0,r12,.v (.pointer none)]] [])) (.done 0 [.v (.pointer none)] [])) (.done 0 [.v (.pointer none)] [])))))))
theorem Ic(a0:AV)(a1:AV)(ha0:LK.has .ptr a0)(ha1:LK.has .sl a1)(h:dr 160 (Hq a0 a1) R):an Tryz.prog 144 [a0,a1] [] R :=
 uQ (af (bq ha0) (af (bZ ha1) aA)) (oQ JI Tryz.f144 h)
def EH(x0:AV)(x1:AV)(x5:Int):Tree :=
 NP x0<|NL x1<|NI (VI x5)<|.test (decide (x5≥(0:Int))) (NG x1 x5 1<|lI (x1.ix x5)<|NZ x0<|NZ x0<|.al (LK.has .str (x0.deref.hA)/\1<=x0.deref.length)<|.test (ae (((x1.ix x5).hA).ai)==ae ((x0.deref.hA).ai)) (NL x1<|.done 2 [] [.cells [.v (.int .u8 98),VS (mk []),VI (IntKind.wrap .i64 ((IntKind.wrap .i64 ((x1.aQ.length:Int)-1))-x5)),.v (.pointer none),.v (.pointer none)]]) (.done 0 [x0,x1,VI (IntKind.wrap .i64 (x5-1))] [])) (.done 1 [x0] [])
abbrev Ef:=cq Tryz.prog 160 Ia FD
theorem LU(x0:AV)(x1:AV)(x5:Int)(h:jk 160 (EH x0 x1 x5) Ef U):Ef [x0,x1,VI x5] [] U :=
 gQ JI h
def DG(a0:AV):Tree :=
 NZ a0<|NZ a0<|.al (LK.has (.int .u8) (a0.deref.hA)/\1<=a0.deref.length)<|.test (((a0.deref.hA).toInt)==(43:Int)) (NZ a0<|NZ a0<|ef (a0.deref.drop 3)<|.call 145 [((a0.deref.drop 3).hA)] [] fun r1 o1=>NI r1<|NZ a0<|NZ a0<|ef (a0.deref.drop 4)<|.call 145 [((a0.deref.drop 4).hA)] [] fun r2 o2=>NI r2<|.done 0 [VI (IntKind.wrap .i64 ((IntKind.wrap .i64 (1+r1.toInt))+r2.toInt))] []) (.test (((a0.deref.hA).toInt)==(42:Int)) (NZ a0<|NZ a0<|ef (a0.deref.drop 3)<|.call 145 [((a0.deref.drop 3).hA)] [] fun r3 o3=>NI r3<|NZ a0<|NZ a0<|ef (a0.deref.drop 4)<|.call 145 [((a0.deref.drop 4).hA)] [] fun r4 o4=>NI r4<|.done 0 [VI (IntKind.wrap .i64 ((IntKind.wrap .i64 (1+r3.toInt))+r4.toInt))] []) (.test (((a0.deref.hA).toInt)==(114:Int)) (NZ a0<|NZ a0<|ef (a0.deref.drop 3)<|.call 145 [((a0.deref.drop 3).hA)] [] fun r5 o5=>NI r5<|.done 0 [VI (IntKind.wrap .i64 (2+r5.toInt))] []) (.done 0 [VI 1] [])))
theorem vO(a0:AV)(ha0:LK.has .ptr a0)(h:dr 30 (DG a0) R):an Tryz.prog 145 [a0] [] R :=
 uQ (af (bq ha0) aA) (oQ [] Tryz.f145 h)
def Mr(a0_0:Int)(a0_1:Bool):Tree :=
 .call 174 [VI (IntKind.wrap .i64 (a0_0+1))] [] fun r1 o1=>NS r1<|.al (ag (mk [35])+ag r1.ai<=9223372036854775807)<|.done 0 [VS (((mk [35]):ByteArray)++r1.ai)] [.cells [VI (IntKind.wrap .i64 (a0_0+1)),VB a0_1]]
theorem QD(a0_0:Int)(a0_1:Bool)(h:dr 16 (Mr a0_0 a0_1) R):an Tryz.prog 146 [.ref 0 0] [.cells [VI a0_0,VB a0_1]] R :=
 an.pQ (bK (cL (af (aw _) (af (DX _) aA))) cX) (an.up (af (aw _) aA) (oF [] {mu:=[(0,.one (.obj [.lk (.int .i64),.lk .bool]))],own:=[]} Tryz.f146 h))
def J7(a0_0:Int)(a0_1:Bool)(a1:AV):Tree :=
 .test a0_1 (.done 0 [.ptr [.v (.int .u8 48),VS (mk []),VI 0,.v (.pointer none),.v (.pointer none)]] [.cells [VI a0_0,VB true]]) (.call 145 [a1] [] fun r1 o1=>NI r1<|.test (decide (r1.toInt>(400:Int))) (.done 0 [.ptr [.v (.int .u8 48),VS (mk []),VI 0,.v (.pointer none),.v (.pointer none)]] [.cells [VI a0_0,VB true]]) (.done 0 [a1] [.cells [VI a0_0,VB a0_1]]))
theorem Q5(a0_0:Int)(a0_1:Bool)(a1:AV)(ha1:LK.has .ptr a1)(h:dr 20 (J7 a0_0 a0_1 a1) R):an Tryz.prog 147 [.ref 0 0,a1] [.cells [VI a0_0,VB a0_1]] R :=
 an.pQ (bK (cL (af (aw _) (af (DX _) aA))) cX) (an.up (af (aw _) (af (bq ha1) aA)) (oF [] {mu:=[(0,.one (.obj [.lk (.int .i64),.lk .bool]))],own:=[]} Tryz.f147 h))
def Cj(a0_0:Int)(a0_1:Bool)(a1:AV)(a2:ByteArray):Tree :=
 .test a0_1 (.done 0 [.ptr [.v (.int .u8 48),VS (mk []),VI 0,.v (.pointer none),.v (.pointer none)]] [.cells [VI a0_0,VB a0_1]]) (NZ a1<|NZ a1<|.al (LK.has (.int .u8) (a1.deref.hA)/\1<=a1.deref.length)<|.test (((a1.deref.hA).toInt)==(110:Int)) (NZ a1<|NZ a1<|lI (a1.deref.drop 1)<|.test (ae (((a1.deref.drop 1).hA).ai)==ae a2) (.done 0 [.ptr [.v (.int .u8 49),VS (mk []),VI 0,.v (.pointer none),.v (.pointer none)]] [.cells [VI a0_0,VB a0_1]]) (.done 0 [.ptr [.v (.int .u8 48),VS (mk []),VI 0,.v (.pointer none),.v (.pointer none)]] [.cells [VI a0_0,VB a0_1]])) (.test (((a1.deref.hA).toInt)==(43:Int)) (NZ a1<|NZ a1<|ef (a1.deref.drop 3)<|.call 148 [.ref 0 0,((a1.deref.drop 3).hA),VS a2] [.cells [VI a0_0,VB a0_1]] fun r1 o1=>.al ((o1.hO)=.cells (o1.hO).cs)<|.al (bm [.lk (.int .i64),.lk .bool] ((o1.hO).cs) 0 1 o1.tail)<|NP r1<|NZ a1<|NZ a1<|ef (a1.deref.drop 4)<|.call 148 [.ref 0 0,((a1.deref.drop 4).hA),VS a2] [.cells [VI (((o1.hO).cs.getD 0 .any).toInt),VB (((o1.hO).cs.getD 1 .any).toBool)]] fun r2 o2=>.al ((o2.hO)=.cells (o2.hO).cs)<|.al (bm [.lk (.int .i64),.lk .bool] ((o2.hO).cs) 0 1 o2.tail)<|NP r2<|.call 175 [.v (.int .u8 43),r1,r2] [] fun r3 o3=>NP r3<|.call 147 [.ref 0 0,r3] [.cells [VI (((o2.hO).cs.getD 0 .any).toInt),VB (((o2.hO).cs.getD 1 .any).toBool)]] fun r4 o4=>.al ((o4.hO)=.cells (o4.hO).cs)<|.al (bm [.lk (.int .i64),.lk .bool] ((o4.hO).cs) 0 1 o4.tail)<|NP r4<|.done 0 [r4] [.cells [VI (((o4.hO).cs.getD 0 .any).toInt),VB (((o4.hO).cs.getD 1 .any).toBool)]]) (.test (((a1.deref.hA).toInt)==(42:Int)) (NZ a1<|NZ a1<|ef (a1.deref.drop 3)<|.call 148 [.ref 0 0,((a1.deref.drop 3).hA),VS a2] [.cells [VI a0_0,VB a0_1]] fun r5 o5=>.al ((o5.hO)=.cells (o5.hO).cs)<|.al (bm [.lk (.int .i64),.lk .bool] ((o5.hO).cs) 0 1 o5.tail)<|NP r5<|NZ a1<|NZ a1<|ef (a1.deref.drop 4)<|.call 175 [.v (.int .u8 42),r5,((a1.deref.drop 4).hA)] [] fun r6 o6=>NP r6<|NZ a1<|NZ a1<|ef (a1.deref.drop 3)<|NZ a1<|NZ a1<|ef (a1.deref.drop 4)<|.call 148 [.ref 0 0,((a1.deref.drop 4).hA),VS a2] [.cells [VI (((o5.hO).cs.getD 0 .any).toInt),VB (((o5.hO).cs.getD 1 .any).toBool)]] fun r7 o7=>.al ((o7.hO)=.cells (o7.hO).cs)<|.al (bm [.lk (.int .i64),.lk .bool] ((o7.hO).cs) 0 1 o7.tail)<|NP r7<|.call 175 [.v (.int .u8 42),((a1.deref.drop 3).hA),r7] [] fun r8 o8=>NP r8<|.call 175 [.v (.int .u8 43),r6,r8] [] fun r9 o9=>NP r9<|.call 147 [.ref 0 0,r9] [.cells [VI (((o7.hO).cs.getD 0 .any).toInt),VB (((o7.hO).cs.getD 1 .any).toBool)]] fun r10 o10=>.al ((o10.hO)=.cells (o10.hO).cs)<|.al (bm [.lk (.int .i64),.lk .bool] ((o10.hO).cs) 0 1 o10.tail)<|NP r10<|.done 0 [r10] [.cells [VI (((o10.hO).cs.getD 0 .any).toInt),VB (((o10.hO).cs.getD 1 .any).toBool)]]) (.test (((a1.deref.hA).toInt)==(114:Int)) (.call 146 [.ref 0 0] [.cells [VI a0_0,VB a0_1]] fun r11 o11=>.al ((o11.hO)=.cells (o11.hO).cs)<|.al (bm [.lk (.int .i64),.lk .bool] ((o11.hO).cs) 0 1 o11.tail)<|NS r11<|NZ a1<|NZ a1<|ef (a1.deref.drop 3)<|.call 149 [((a1.deref.drop 3).hA),.ptr [.v (.int .u8 110),VS r11.ai,VI 0,.v (.pointer none),.v (.pointer none)],VI 0] [] fun r12 o12=>NP r12<|.call 148 [.ref 0 0,r12,VS a2] [.cells [VI (((o11.hO).cs.getD 0 .any).toInt),VB (((o11.hO).cs.getD 1 .any).toBool)]] fun r13 o13=>.al ((o13.hO)=.cells (o13.hO).cs)<|.al (bm [.lk (.int .i64),.lk .bool] ((o13.hO).cs) 0 1 o13.tail)<|NP r13<|.call 147 [.ref 0 0,r13] [.cells [VI (((o13.hO).cs.getD 0 .any).toInt),VB (((o13.hO).cs.getD 1 .any).toBool)]] fun r14 o14=>.al ((o14.hO)=.cells (o14.hO).cs)<|.al (bm [.lk (.int .i64),.lk .bool] ((o14.hO).cs) 0 1 o14.tail)<|NP r14<|.call 150 [r14,VS r11.ai,a1] [] fun r15 o15=>NP r15<|.call 148 [.ref 0 0,r12,VS r11.ai] [.cells [VI (((o14.hO).cs.getD 0 .any).toInt),VB (((o14.hO).cs.getD 1 .any).toBool)]] fun r16 o16=>.al ((o16.hO)=.cells (o16.hO).cs)<|.al (bm [.lk (.int .i64),.lk .bool] ((o16.hO).cs) 0 1 o16.tail)<|NP r16<|.call 147 [.ref 0 0,r16] [.cells [VI (((o16.hO).cs.getD 0 .any).toInt),VB (((o16.hO).cs.getD 1 .any).toBool)]] fun r17 o17=>.al ((o17.hO)=.cells (o17.hO).cs)<|.al (bm [.lk (.int .i64),.lk .bool] ((o17.hO).cs) 0 1 o17.tail)<|NP r17<|.call 150 [r17,VS r11.ai,a1] [] fun r18 o18=>NP r18<|.call 175 [.v (.int .u8 42),r18,.ptr [.v (.int .u8 98),VS (mk []),VI 0,.v (.pointer none),.v (.pointer none)]] [] fun r19 o19=>NP r19<|.call 175 [.v (.int .u8 43),r15,r19] [] fun r20 o20=>NP r20<|.call 147 [.ref 0 0,.ptr [.v (.int .u8 114),VS (mk []),VI 0,r20,.v (.pointer none)]] [.cells [VI (((o17.hO).cs.getD 0 .any).toInt),VB (((o17.hO).cs.getD 1 .any).toBool)]] fun r21 o21=>.al ((o21.hO)=.cells (o21.hO).cs)<|.al (bm [.lk (.int .i64),.lk .bool] ((o21.hO).cs) 0 1 o21.tail)<|NP r21<|.done 0 [r21] [.cells [VI (((o21.hO).cs.getD 0 .any).toInt),VB (((o21.hO).cs.getD 1 .any).toBool)]]) (.done 0 [.ptr [.v (.int .u8 48),VS (mk []),VI 0,.v (.pointer none),.v (.pointer none)]] [.cells [VI a0_0,VB a0_1]])))))
theorem IT(a0_0:Int)(a0_1:Bool)(a1:AV)(a2:ByteArray)(ha1:LK.has .ptr a1)(h:dr 121 (Cj a0_0 a0_1 a1 a2) R):an Tryz.prog 148 [.ref 0 0,a1,VS a2] [.cells [VI a0_0,VB a0_1]] R :=
 an.pQ (bK (cL (af (aw _) (af (DX _) aA))) cX) (an.up (af (aw _) (af (bq ha1) (af (aw _) aA))) (oF [] {mu:=[(0,.one (.obj [.lk (.int .i64),.lk .bool]))],own:=[]} Tryz.f148 h))
def DH(a0:AV)(a1:AV)(a2:Int):Tree :=
 NZ a0<|NZ a0<|.al (LK.has (.int .u8) (a0.deref.hA)/\1<=a0.deref.length)<|.test (((a0.deref.hA).toInt)==(98:Int)) (NZ a0<|NZ a0<|.al (LK.has (.int .i64) ((a0.deref.drop 2).hA)/\1<=(a0.deref.drop 2).length)<|.test ((((a0.deref.drop 2).hA).toInt)==a2) (.done 0 [a1] []) (.done 0 [a0] [])) (.test (((a0.deref.hA).toInt)==(43:Int)) (NZ a0<|NZ a0<|.al (LK.has (.int .u8) (a0.deref.hA)/\1<=a0.deref.length)<|NZ a0<|NZ a0<|ef (a0.deref.drop 3)<|.call 149 [((a0.deref.drop 3).hA),a1,VI a2] [] fun r1 o1=>NP r1<|NZ a0<|NZ a0<|ef (a0.deref.drop 4)<|.call 149 [((a0.deref.drop 4).hA),a1,VI a2] [] fun r2 o2=>NP r2<|.done 0 [.ptr [.v (.int .u8 ((a0.deref.hA).toInt)),VS (mk []),VI 0,r1,r2]] []) (.test (((a0.deref.hA).toInt)==(42:Int)) (NZ a0<|NZ a0<|.al (LK.has (.int .u8) (a0.deref.hA)/\1<=a0.deref.length)<|NZ a0<|NZ a0<|ef (a0.deref.drop 3)<|.call 149 [((a0.deref.drop 3).hA),a1,VI a2] [] fun r3 o3=>NP r3<|NZ a0<|NZ a0<|ef (a0.deref.drop 4)<|.call 149 [((a0.deref.drop 4).hA),a1,VI a2] [] fun r4 o4=>NP r4<|.done 0 [.ptr [.v (.int .u8 ((a0.deref.hA).toInt)),VS (mk []),VI 0,r3,r4]] []) (.test (((a0.deref.hA).toInt)==(114:Int)) (NZ a0<|NZ a0<|ef (a0.deref.drop 3)<|.call 149 [((a0.deref.drop 3).hA),a1,VI (IntKind.wrap .i64 (a2+1))] [] fun r5 o5=>NP r5<|.done 0 [.ptr [.v (.int .u8 114),VS (mk []),VI 0,r5,.v (.pointer none)]] []) (.done 0 [a0] []))))
theorem vN(a0:AV)(a1:AV)(a2:Int)(ha0:LK.has .ptr a0)(ha1:LK.has .ptr a1)(h:dr 56 (DH a0 a1 a2) R):an Tryz.prog 149 [a0,a1,VI a2] [] R :=
 uQ (af (bq ha0) (af (bq ha1) (af (aw _) aA))) (oQ [] Tryz.f149 h)
def DB(a0:AV)(a1:ByteArray)(a2:AV):Tree :=
 NZ a0<|NZ a0<|.al (LK.has (.int .u8) (a0.deref.hA)/\1<=a0.deref.length)<|.test (((a0.deref.hA).toInt)==(110:Int)) (NZ a0<|NZ a0<|lI (a0.deref.drop 1)<|.test (ae (((a0.deref.drop 1).hA).ai)==ae a1) (.done 0 [a2] []) (.done 0 [a0] [])) (.test (((a0.deref.hA).toInt)==(43:Int)) (NZ a0<|NZ a0<|.al (LK.has (.int .u8) (a0.deref.hA)/\1<=a0.deref.length)<|NZ a0<|NZ a0<|ef (a0.deref.drop 3)<|.call 150 [((a0.deref.drop 3).hA),VS a1,a2] [] fun r1 o1=>NP r1<|NZ a0<|NZ a0<|ef (a0.deref.drop 4)<|.call 150 [((a0.deref.drop 4).hA),VS a1,a2] [] fun r2 o2=>NP r2<|.done 0 [.ptr [.v (.int .u8 ((a0.deref.hA).toInt)),VS (mk []),VI 0,r1,r2]] []) (.test (((a0.deref.hA).toInt)==(42:Int)) (NZ a0<|NZ a0<|.al (LK.has (.int .u8) (a0.deref.hA)/\1<=a0.deref.length)<|NZ a0<|NZ a0<|ef (a0.deref.drop 3)<|.call 150 [((a0.deref.drop 3).hA),VS a1,a2] [] fun r3 o3=>NP r3<|NZ a0<|NZ a0<|ef (a0.deref.drop 4)<|.call 150 [((a0.deref.drop 4).hA),VS a1,a2] [] fun r4 o4=>NP r4<|.done 0 [.ptr [.v (.int .u8 ((a0.deref.hA).toInt)),VS (mk []),VI 0,r3,r4]] []) (.test (((a0.deref.hA).toInt)==(114:Int)) (NZ a0<|NZ a0<|ef (a0.deref.drop 3)<|.call 150 [((a0.deref.drop 3).hA),VS a1,a2] [] fun r5 o5=>NP r5<|.done 0 [.ptr [.v (.int .u8 114),VS (mk []),VI 0,r5,.v (.pointer none)]] []) (.done 0 [a0] []))))
theorem wJ(a0:AV)(a1:ByteArray)(a2:AV)(ha0:LK.has .ptr a0)(ha2:LK.has .ptr a2)(h:dr 55 (DB a0 a1 a2) R):an Tryz.prog 150 [a0,VS a1,a2] [] R :=
 uQ (af (bq ha0) (af (aw _) (af (bq ha2) aA))) (oQ [] Tryz.f150 h)
def Ky(a0:AV):Tree :=
 .call 158 [a0] [] fun r1 o1=>NL r1<|.call 176 [a0,.v (.slice none 0 0),.gG 176 [none,some 0,some 1],.ref 0 0,.ref 1 0] [.cells [r1],.cells [VI 0]] fun r2 o2=>.al ((o2.hO)=.cells (o2.hO).cs)<|.al (bm [.lk .sl] ((o2.hO).cs) 0 1 o2.tail)<|.al ((o2.tail.hO)=.cells (o2.tail.hO).cs)<|.al (bm [.lk (.int .i64)] ((o2.tail.hO).cs) 0 2 o2.tail.tail)<|NS r2<|.done 0 [VS r2.ai] []
theorem P7(a0:AV)(ha0:LK.has .ptr a0)(h:dr 12 (Ky a0) R):an Tryz.prog 151 [a0] [] R :=
 uQ (af (bq ha0) aA) (oQ [] Tryz.f151 h)
def DZ:LI:={hd:={bu:=[(0,.k .str),(1,.k (.int .i64)),(9,.k (.int .i64))],refs:=[(6,6),(8,8)],co:=[(6,[.lk .str,.lk .sl]),(8,[.lk .str,.lk .sl])]},xs:={bu:=[(0,.k .str),(1,.k (.int .i64)),(9,.k (.int .i64))],refs:=[(6,6),(8,8)],co:=[(6,[.lk .str,.lk .sl]),(8,[.lk .str,.lk .sl])]},rt:={},ex:=0}
def Iv:Code:=cu (cn Tryz.f152) 6
def Eh:LI:={hd:={bu:=[(0,.k .str),(1,.k (.int .i64)),(2,.k (.int .i64))],refs:=[(6,6),(8,8)],co:=[(6,[.lk .str,.lk .sl]),(8,[.lk .str,.vec 2])]},xs:={},rt:={bu:=[(7,.k (.int .i64))],refs:=[(6,6)],co:=[(6,[.lk .str,.vec 2])]},ex:=999}
def JD:Code:=cu (cn Tryz.f152) 12
def Fp:List (Nat×LI):=[(6,DZ),(12,Eh)]
def G0(a0:ByteArray)(a1:Int)(a2:Int):Tree :=
 .test (decide (a2>(300:Int))) (.done 0 [.cN [.agg [VS (mk []),.v (.slice none 0 0)],VI (-1)]] []) (.test (decide (a1≥(ag a0:Int))) (.done 0 [.cN [.agg [VS (mk []),.v (.slice none 0 0)],VI (-1)]] []) (.al (0<=a1/\a1<ag a0)<|.test ((bt a0 a1) != (40:Int)) (.loop Iv DZ [VS a0,VI a1,VI a1] [.cells [VS (mk []),.v (.slice none 0 0)],.cells [VS (mk []),.v (.slice none 0 0)]] (fun y2 q2=>NS (y2.hA)<|NI (y2.tail.hA)<|NI (y2.tail.tail.hA)<|.al ((q2.hO)=.cells (q2.hO).cs)<|.al (ac [.lk .str,.lk .sl] ((q2.hO).cs) 0 q2.tail)<|.al (((q2.tail.drop 0).hO)=.cells ((q2.tail.drop 0).hO).cs)<|.al (ac [.lk .str,.lk .sl] (((q2.tail.drop 0).hO).cs) 0 ((q2.tail.drop 0).tail))<|.al (0<=((y2.tail.tail.hA).toInt)/\((y2.tail.tail.hA).toInt)<=((y2.tail.hA).toInt)/\((y2.tail.hA).toInt)<=(ag ((y2.hA).ai):Int))<|.test (ae (ci ((y2.hA).ai) (bE ((y2.tail.tail.hA).toInt)) (bE ((y2.tail.hA).toInt)))==ae (mk [])) (.done 0 [.cN [.agg [VS (ci ((y2.hA).ai) (bE ((y2.tail.tail.hA).toInt)) (bE ((y2.tail.hA).toInt))),((q2.tail.hO).cs.getD 1 .any)],VI (-1)]] []) (.done 0 [.cN [.agg [VS (ci ((y2.hA).ai) (bE ((y2.tail.tail.hA).toInt)) (bE ((y2.tail.hA).toInt))),((q2.tail.hO).cs.getD 1 .any)],VI ((y2.tail.hA).toInt)]] [])) (fun y2 q2=>.fail)) (.loop JD Eh [VS a0,VI a1,VI a2] [.cells [VS (mk []),.v (.slice none 0 0)],.cells [VS (mk []),.any],.vec 2 []] (fun y5 q5=>.fail) (fun y5 q5=>NI (y5.hA)<|.al ((q5.hO)=.cells (q5.hO).cs)<|.al (ac [.lk .str,.vec 2] ((q5.hO).cs) 0 q5.tail)<|.done 0 [.cN [.agg [VS (((q5.hO).cs.getD 0 .any).ai),.sl ((q5.tail.hO).es)],VI ((y5.hA).toInt)]] []))))
theorem LX(a0:ByteArray)(a1:Int)(a2:Int)(h:dr 87 (G0 a0 a1 a2) R):an Tryz.prog 152 [VS a0,VI a1,VI a2] [] R :=
 uQ (af (aw _) (af (aw _) (af (aw _) aA))) (oQ Fp Tryz.f152 h)
def D1(x0:ByteArray)(x1:Int)(x9:Int)(o6_0:ByteArray)(o6_1:AV)(o8_0:ByteArray)(o8_1:AV):Tree :=
 NS (VS x0)<|NI (VI x1)<|NI (VI x9)<|.al (Ob.cells [VS o6_0,o6_1]=.cells [VS o6_0,o6_1])<|.al (ac [.lk .str,.lk .sl] [VS o6_0,o6_1] 0 [.cells [VS o8_0,o8_1]])<|.al (Ob.cells [VS o8_0,o8_1]=.cells [VS o8_0,o8_1])<|.al (ac [.lk .str,.lk .sl] [VS o8_0,o8_1] 0 [])<|.test (decide (x1<(ag x0:Int))) (.al (0<=x1/\x1<ag x0)<|.call 178 [.v (.int .u8 (bt x0 x1))] [] fun r1 o1=>NB r1<|.test r1.toBool (.done 0 [VS x0,VI (IntKind.wrap .i64 (x1+1)),VI x9] [.cells [VS o6_0,o6_1],.cells [VS o8_0,o8_1]]) (.done 1 [VS x0,VI x1,VI x9] [.cells [VS o6_0,o6_1],.cells [VS o8_0,o8_1]])) (.done 1 [VS x0,VI x1,VI x9] [.cells [VS o6_0,o6_1],.cells [VS o8_0,o8_1]])
abbrev FO:=cq Tryz.prog 87 Iv DZ
theorem LZ(x0:ByteArray)(x1:Int)(x9:Int)(o6_0:ByteArray)(o6_1:AV)(o8_0:ByteArray)(o8_1:AV)(h:jk 87 (D1 x0 x1 x9 o6_0 o6_1 o8_0 o8_1) FO U):FO [VS x0,VI x1,VI x9] [.cells [VS o6_0,o6_1],.cells [VS o8_0,o8_1]] U :=
 gQ Fp h
def Mm(x0:ByteArray)(x1:Int)(x2:Int)(o6_0:ByteArray)(o6_1:AV)(o8_0:ByteArray)(o8_1:List (List AV)):Tree :=
 NS (VS x0)<|NI (VI x1)<|NI (VI x2)<|.al (Ob.cells [VS o6_0,o6_1]=.cells [VS o6_0,o6_1])<|.al (ac [.lk .str,.lk .sl] [VS o6_0,o6_1] 0 [.cells [VS o8_0,.any],.vec 2 o8_1])<|.al (Ob.cells [VS o8_0,.any]=.cells [VS o8_0,.any])<|.al (ac [.lk .str,.vec 2] [VS o8_0,.any] 0 [.vec 2 o8_1])<|.call 152 [VS x0,VI (IntKind.wrap .i64 (x1+1)),VI (IntKind.wrap .i64 (x2+1))] [] fun r1 o1=>NT r1<|.al ((r1.comp 0)=.agg (r1.comp 0).cs/\(r1.comp 0).cs.length=2/\bC [.str,.sl] ((r1.comp 0).cs) 0)<|NI (r1.comp 1)<|.test (decide (((r1.comp 1).toInt)<(0:Int))) (.done 2 [VI (-1)] [.cells [VS o8_0,.any],.vec 2 o8_1]) (.test (decide (((r1.comp 1).toInt)≥(ag x0:Int))) (.done 2 [VI (-1)] [.cells [VS o8_0,.any],.vec 2 o8_1]) (.al (cD 2 [[VS (((r1.comp 0).cs.getD 0 .any).ai),((r1.comp 0).cs.getD 1 .any)]]/\((o8_1.length)+([[VS (((r1.comp 0).cs.getD 0 .any).ai),((r1.comp 0).cs.getD 1 .any)]]:List (List AV)).length)*40<=140737488355328)<|.al (0<=((r1.comp 1).toInt)/\((r1.comp 1).toInt)<ag x0)<|.test ((bt x0 ((r1.comp 1).toInt))==(41:Int)) (.done 2 [VI (IntKind.wrap .i64 (((r1.comp 1).toInt)+1))] [.cells [VS o8_0,.any],.vec 2 (o8_1++([[VS (((r1.comp 0).cs.getD 0 .any).ai),((r1.comp 0).cs.getD 1 .any)]]:List (List AV)))]) (.al (0<=((r1.comp 1).toInt)/\((r1.comp 1).toInt)<ag x0)<|.test ((bt x0 ((r1.comp 1).toInt)) != (32:Int)) (.done 2 [VI (-1)] [.cells [VS o8_0,.any],.vec 2 (o8_1++([[VS (((r1.comp 0).cs.getD 0 .any).ai),((r1.comp 0).cs.getD 1 .any)]]:List (List AV)))]) (.done 0 [VS x0,VI ((r1.comp 1).toInt),VI x2] [.cells [VS o6_0,o6_1],.cells [VS o8_0,.any],.vec 2 (o8_1++([[VS (((r1.comp 0).cs.getD 0 .any).ai),((r1.comp 0).cs.getD 1 .any)]]:List (List AV)))]))))
abbrev Fs:=cq Tryz.prog 87 JD Eh
theorem Qh(x0:ByteArray)(x1:Int)(x2:Int)(o6_0:ByteArray)(o6_1:AV)(o8_0:ByteArray)(o8_1:List (List AV))(h:jk 87 (Mm x0 x1 x2 o6_0 o6_1 o8_0 o8_1) Fs U):Fs [VS x0,VI x1,VI x2] [.cells [VS o6_0,o6_1],.cells [VS o8_0,.any],.vec 2 o8_1] U :=
 gQ Fp h
def BA:LI:={hd:={bu:=[(0,.k .str),(3,.k (.int .i64)),(4,.k (.int .i64))]},xs:={bu:=[(3,.k (.int .i64))]},rt:={bu:=[(2,.k (.int .i64))]},ex:=0}
def Cf:Code:=cu (cn Tryz.f153) 5
def Jw:List (Nat×LI):=[(5,BA)]
def H8(a0:ByteArray):Tree :=
 .call 56 [VI (ag a0:Int),VI 2,VI 3] [] fun r1 o1=>NB r1<|.test (!r1.toBool) (.done 0 [VI (-1)] []) (.al (0<=(0:Int)/\(0:Int)<ag a0)<|.test ((bt a0 0) != (101:Int)) (.done 0 [VI (-1)] []) (.test ((ag a0:Int)==(3:Int)) (.al (0<=(1:Int)/\(1:Int)<ag a0)<|.test ((bt a0 1)==(48:Int)) (.done 0 [VI (-1)] []) (.loop Cf BA [VS a0,VI 0,VI 1] [] (fun y2 q2=>NI (y2.hA)<|.done 0 [VI ((y2.hA).toInt)] []) (fun y2 q2=>NI (y2.hA)<|.done 0 [VI ((y2.hA).toInt)] []))) (.loop Cf BA [VS a0,VI 0,VI 1] [] (fun y3 q3=>NI (y3.hA)<|.done 0 [VI ((y3.hA).toInt)] []) (fun y3 q3=>NI (y3.hA)<|.done 0 [VI ((y3.hA).toInt)] []))))
theorem Oi(a0:ByteArray)(h:dr 49 (H8 a0) R):an Tryz.prog 153 [VS a0] [] R :=
 uQ (af (aw _) aA) (oQ Jw Tryz.f153 h)
def FM(x0:ByteArray)(x3:Int)(x4:Int):Tree :=
 NS (VS x0)<|NI (VI x3)<|NI (VI x4)<|.test (decide (x4<(ag x0:Int))) (.al (0<=x4/\x4<ag x0)<|.test (decide ((bt x0 x4)<(48:Int))) (.done 2 [VI (-1)] []) (.al (0<=x4/\x4<ag x0)<|.test (decide ((bt x0 x4)>(57:Int))) (.done 2 [VI (-1)] []) (.al (0<=x4/\x4<ag x0)<|.done 0 [VS x0,VI (IntKind.wrap .i64 ((IntKind.wrap .i64 (10*x3))+(IntKind.wrap .i64 (IntKind.wrap .u8 ((bt x0 x4)-48))))),VI (IntKind.wrap .i64 (x4+1))] []))) (.done 1 [VI x3] [])
abbrev Ew:=cq Tryz.prog 49 Cf BA
theorem Iu(x0:ByteArray)(x3:Int)(x4:Int)(h:jk 49 (FM x0 x3 x4) Ew U):Ew [VS x0,VI x3,VI x4] [] U :=
 gQ Jw h
def El:LI:={hd:={bu:=[(1,.k .sl),(6,.k (.int .i64))],refs:=[(2,2),(4,4)],co:=[(2,[.lk .str,.lk .sl]),(4,[.lk .str,.lk .sl])]},xs:={bu:=[(1,.k .sl)],refs:=[(2,2),(4,4)],co:=[(2,[.lk .str,.lk .sl]),(4,[.lk .str,.lk .sl])]},rt:={bu:=[(5,.k .sl)],refs:=[(4,4)],co:=[(4,[.lk .str,.lk .sl])]},ex:=0}
def IN:Code:=cu (cn Tryz.f154) 2
def LC:List (Nat×LI):=[(2,El)]
def IX(a0_0:ByteArray)(a0_1:AV)(a1:AV):Tree :=
 NL a1<|.loop IN El [a1,VI (IntKind.wrap .i64 ((a1.aQ.length:Int)-1))] [.cells [VS a0_0,a0_1],.cells [VS (mk []),.v (.slice none 0 0)]] (fun y1 q1=>NL (y1.hA)<|.al ((q1.hO)=.cells (q1.hO).cs)<|.al (ac [.lk .str,.lk .sl] ((q1.hO).cs) 0 q1.tail)<|.al (((q1.tail.drop 0).hO)=.cells ((q1.tail.drop 0).hO).cs)<|.al (ac [.lk .str,.lk .sl] (((q1.tail.drop 0).hO).cs) 0 ((q1.tail.drop 0).tail))<|.done 0 [.cN [.agg [VS (((q1.hO).cs.getD 0 .any).ai),((q1.hO).cs.getD 1 .any)],(y1.hA)]] []) (fun y1 q1=>NL (y1.hA)<|.al ((q1.hO)=.cells (q1.hO).cs)<|.al (ac [.lk .str,.lk .sl] ((q1.hO).cs) 0 q1.tail)<|.done 0 [.cN [.agg [VS (((q1.hO).cs.getD 0 .any).ai),((q1.hO).cs.getD 1 .any)],(y1.hA)]] [])
theorem O5(a0_0:ByteArray)(a0_1:AV)(a1:AV)(ha0_1:LK.has .sl a0_1)(ha1:LK.has .sl a1)(h:dr 34 (IX a0_0 a0_1 a1) R):an Tryz.prog 154 [.agg [VS a0_0,a0_1],a1] [] R :=
 uQ (af (bX (af (aw _) (af (bZ ha0_1) aA))) (af (bZ ha1) aA)) (oQ LC Tryz.f154 h)
def HB(x1:AV)(x6:Int)(o2_0:ByteArray)(o2_1:AV)(o4_0:ByteArray)(o4_1:AV):Tree :=
 NL x1<|NI (VI x6)<|.al (Ob.cells [VS o2_0,o2_1]=.cells [VS o2_0,o2_1])<|.al (ac [.lk .str,.lk .sl] [VS o2_0,o2_1] 0 [.cells [VS o4_0,o4_1]])<|.al (Ob.cells [VS o4_0,o4_1]=.cells [VS o4_0,o4_1])<|.al (ac [.lk .str,.lk .sl] [VS o4_0,o4_1] 0 [])<|.test (decide (x6≥(0:Int))) (NG x1 x6 4<|lI (x1.ix x6)<|.test (ae (((x1.ix x6).hA).ai)==ae o2_0) (NG x1 x6 4<|NE ((x1.ix x6).drop 1)<|NG x1 x6 4<|ou ((x1.ix x6).drop 3)<|.done 2 [(((x1.ix x6).drop 3).hA)] [.cells [VS ((((x1.ix x6).drop 1).getD 0 .any).ai),(((x1.ix x6).drop 1).getD 1 .any)]]) (.done 0 [x1,VI (IntKind.wrap .i64 (x6-1))] [.cells [VS o2_0,o2_1],.cells [VS o4_0,o4_1]])) (.done 1 [x1] [.cells [VS o2_0,o2_1],.cells [VS o4_0,o4_1]])
abbrev E2:=cq Tryz.prog 34 IN El
theorem JZ(x1:AV)(x6:Int)(o2_0:ByteArray)(o2_1:AV)(o4_0:ByteArray)(o4_1:AV)(h:jk 34 (HB x1 x6 o2_0 o2_1 o4_0 o4_1) E2 U):E2 [x1,VI x6] [.cells [VS o2_0,o2_1],.cells [VS o4_0,o4_1]] U :=
 gQ LC h
def LG(a0:ByteArray):Tree :=
 .call 170 [VS a0,.v (.int .u8 120),.v (.int .u8 122)] [] fun r1 o1=>NB r1<|.done 0 [VB r1.toBool] []
theorem OE(a0:ByteArray)(h:dr 5 (LG a0) R):an Tryz.prog 155 [VS a0] [] R :=
 uQ (af (aw _) aA) (oQ [] Tryz.f155 h)
def ID(a0_0:ByteArray)(a0_1:AV)(a1:AV):Tree :=
 NG a0_1 2 2<|NE (a0_1.ix (2:Int))<|.al (LK.has .sl a1/\cD 4 a1.aQ/\((([]:List (List AV)).length)+a1.aQ.length)*80<=140737488355328)<|NG a0_1 1 2<|lI (a0_1.ix (1:Int))<|.al (cD 4 [[VS (((a0_1.ix (1:Int)).hA).ai),VS a0_0,a0_1,a1]]/\(((([]:List (List AV))++a1.aQ).length)+([[VS (((a0_1.ix (1:Int)).hA).ai),VS a0_0,a0_1,a1]]:List (List AV)).length)*80<=140737488355328)<|.done 0 [.cN [.agg [VS (((a0_1.ix (2:Int)).getD 0 .any).ai),((a0_1.ix (2:Int)).getD 1 .any)],.sl ((([]:List (List AV))++a1.aQ)++([[VS (((a0_1.ix (1:Int)).hA).ai),VS a0_0,a0_1,a1]]:List (List AV)))]] []
theorem Oj(a0_0:ByteArray)(a0_1:AV)(a1:AV)(ha0_1:LK.has .sl a0_1)(ha1:LK.has .sl a1)(h:dr 23 (ID a0_0 a0_1 a1) R):an Tryz.prog 156 [.agg [VS a0_0,a0_1],a1] [] R :=
 uQ (af (bX (af (aw _) (af (bZ ha0_1) aA))) (af (bZ ha1) aA)) (oQ [] Tryz.f156 h)
def Jf(a0:AV):Tree :=
 .call 179 [a0,.v (.func (.func 159) #[] #[])] [] fun r1 o1=>NI r1<|.done 0 [VB (decide (r1.toInt≥(0:Int)))] []
theorem Oq(a0:AV)(ha0:LK.has .sl a0)(h:dr 9 (Jf a0) R):an Tryz.prog 157 [a0,.v (.func (.func 159) #[] #[])] [] R :=
 uQ (af (bZ ha0) (af (aw _) aA)) (oQ [] Tryz.f157 h)
def MR(a0:AV):Tree :=
 .call 180 [a0,.fn 181 [.ref 0 0]] [.cells [.vec 1],.vec 1 []] fun r1 o1=>.al ((o1.hO)=.cells (o1.hO).cs)<|.al (bm [.vec 1] ((o1.hO).cs) 0 1 o1.tail)<|.done 0 [.sl ((o1.tail.hO).es)] []
theorem Qa(a0:AV)(ha0:LK.has .ptr a0)(h:dr 9 (MR a0) R):an Tryz.prog 158 [a0] [] R :=
 uQ (af (bq ha0) aA) (oQ [] Tryz.f158 h)
def JN(a0:ByteArray):Tree :=
 .call 182 [VS a0,VS (mk [116])] [] fun r1 o1=>NB r1<|.done 0 [VB r1.toBool] []
theorem OA(a0:ByteArray)(h:dr 5 (JN a0) R):an Tryz.prog 159 [VS a0] [] R :=
 uQ (af (aw _) aA) (oQ [] Tryz.f159 h)
def GR:LI:={hd:={bu:=[(0,.k .str),(1,.k (.int .i64)),(6,.k (.int .i64))]},xs:={bu:=[(0,.k .str),(1,.k (.int .i64)),(6,.k (.int .i64))]},rt:={},ex:=0}
def Mj:Code:=cu (cn Tryz.f160) 2
def Fy:LI:={hd:={bu:=[(0,.k .str),(1,.k (.int .i64)),(7,.k .str)],refs:=[(8,48)],co:=[(48,[.lk .str,.vec 1])]},xs:={},rt:={bu:=[(4,.k .ptr),(5,.k .str)]},ex:=999}
def IL:Code:=cu (cn Tryz.f160) 10
def E8:List (Nat×LI):=[(2,GR),(10,Fy)]
def Ht(a0:ByteArray)(a1:Int):Tree :=
 .loop Mj GR [VS a0,VI a1,VI 0] [] (fun y2 q2=>NS (y2.hA)<|NI (y2.tail.hA)<|NI (y2.tail.tail.hA)<|.test (decide (((y2.tail.tail.hA).toInt)>(0:Int))) (.al (0<=(0:Int)/\(0:Int)<=((y2.tail.tail.hA).toInt)/\((y2.tail.tail.hA).toInt)<=(ag ((y2.hA).ai):Int))<|.al (0<=((y2.tail.tail.hA).toInt)/\((y2.tail.tail.hA).toInt)<=(ag ((y2.hA).ai):Int)/\(ag ((y2.hA).ai):Int)<=(ag ((y2.hA).ai):Int))<|.done 0 [.cN [.ptr [VS (ci ((y2.hA).ai) (bE 0) (bE ((y2.tail.tail.hA).toInt))),.v (.slice none 0 0)],VS (ci ((y2.hA).ai) (bE ((y2.tail.tail.hA).toInt)) (bE (ag ((y2.hA).ai):Int)))]] []) (.test (ae ((y2.hA).ai)==ae (mk [])) (.done 0 [.cN [.v (.pointer none),VS ((y2.hA).ai)]] []) (.al (0<=(0:Int)/\(0:Int)<ag ((y2.hA).ai))<|.test ((bt ((y2.hA).ai) 0) != (40:Int)) (.done 0 [.cN [.v (.pointer none),VS ((y2.hA).ai)]] []) (.test (((y2.tail.hA).toInt)==(300:Int)) (.done 0 [.cN [.v (.pointer none),VS ((y2.hA).ai)]] []) (.al (0<=(1:Int)/\(1:Int)<=(ag ((y2.hA).ai):Int)/\(ag ((y2.hA).ai):Int)<=(ag ((y2.hA).ai):Int))<|.loop IL Fy [VS ((y2.hA).ai),VI ((y2.tail.hA).toInt),VS (ci ((y2.hA).ai) (bE 1) (bE (ag ((y2.hA).ai):Int)))] [.cells [VS (mk []),.any],.vec 1 []] (fun y5 q5=>.fail) (fun y5 q5=>NP (y5.hA)<|NS (y5.tail.hA)<|.done 0 [.cN [(y5.hA),VS ((y5.tail.hA).ai)]] [])))))) (fun y2 q2=>.done 0 [.cN [.any,.any]] [])
theorem Jj(a0:ByteArray)(a1:Int)(h:dr 84 (Ht a0 a1) R):an Tryz.prog 160 [VS a0,VI a1] [] R :=
 uQ (af (aw _) (af (aw _) aA)) (oQ E8 Tryz.f160 h)
def D2(x0:ByteArray)(x1:Int)(x6:Int):Tree :=
 NS (VS x0)<|NI (VI x1)<|NI (VI x6)<|.test (decide (x6<(ag x0:Int))) (.al (0<=x6/\x6<ag x0)<|.call 183 [.v (.int .u8 (bt x0 x6))] [] fun r1 o1=>NB r1<|.test r1.toBool (.done 0 [VS x0,VI x1,VI (IntKind.wrap .i64 (x6+1))] []) (.done 1 [VS x0,VI x1,VI x6] [])) (.done 1 [VS x0,VI x1,VI x6] [])
abbrev FZ:=cq Tryz.prog 84 Mj GR
theorem J9(x0:ByteArray)(x1:Int)(x6:Int)(h:jk 84 (D2 x0 x1 x6) FZ U):FZ [VS x0,VI x1,VI x6] [] U :=
 gQ E8 h
def NJ(x0:ByteArray)(x1:Int)(x7:ByteArray)(o48_0:ByteArray)(o48_1:List (List AV)):Tree :=
 NS (VS x0)<|NI (VI x1)<|NS (VS x7)<|.al (Ob.cells [VS o48_0,.any]=.cells [VS o48_0,.any])<|.al (ac [.lk .str,.vec 1] [VS o48_0,.any] 0 [.vec 1 o48_1])<|.call 160 [VS x7,VI (IntKind.wrap .i64 (x1+1))] [] fun r1 o1=>NT r1<|NP (r1.comp 0)<|NS (r1.comp 1)<|NP (r1.comp 0)<|.test ((r1.comp 0).isNil) (.done 2 [.v (.pointer none),VS x0] []) (.test (ae ((r1.comp 1).ai)==ae (mk [])) (.done 2 [.v (.pointer none),VS x0] []) (.al (cD 1 [[(r1.comp 0)]]/\((o48_1.length)+([[(r1.comp 0)]]:List (List AV)).length)*8<=140737488355328)<|.al (0<=(1:Int)/\(1:Int)<=(ag ((r1.comp 1).ai):Int)/\(ag ((r1.comp 1).ai):Int)<=(ag ((r1.comp 1).ai):Int))<|.al (0<=(0:Int)/\(0:Int)<ag ((r1.comp 1).ai))<|.test ((bt ((r1.comp 1).ai) 0)==(41:Int)) (.done 2 [.ptr [VS o48_0,.sl (o48_1++([[(r1.comp 0)]]:List (List AV)))],VS (ci ((r1.comp 1).ai) (bE 1) (bE (ag ((r1.comp 1).ai):Int)))] []) (.al (0<=(0:Int)/\(0:Int)<ag ((r1.comp 1).ai))<|.test ((bt ((r1.comp 1).ai) 0) != (32:Int)) (.done 2 [.v (.pointer none),VS x0] []) (.done 0 [VS x0,VI x1,VS (ci ((r1.comp 1).ai) (bE 1) (bE (ag ((r1.comp 1).ai):Int)))] [.cells [VS o48_0,.any],.vec 1 (o48_1++([[(r1.comp 0)]]:List (List AV)))]))))
abbrev Hw:=cq Tryz.prog 84 IL Fy
theorem Qd(x0:ByteArray)(x1:Int)(x7:ByteArray)(o48_0:ByteArray)(o48_1:List (List AV))(h:jk 84 (NJ x0 x1 x7 o48_0 o48_1) Hw U):Hw [VS x0,VI x1,VS x7] [.cells [VS o48_0,.any],.vec 1 o48_1] U :=
 gQ E8 h
def MN(a0:ByteArray):Tree :=
 .test (decide ((ag a0:Int)<(2:Int))) (.done 0 [VB false] []) (.test (decide ((ag a0:Int)>(3:Int))) (.done 0 [VB false] []) (.al (0<=(0:Int)/\(0:Int)<ag a0)<|.test ((bt a0 0) != (101:Int)) (.done 0 [VB false] []) (.al (0<=(1:Int)/\(1:Int)<=(ag a0:Int)/\(ag a0:Int)<=(ag a0:Int))<|.call 184 [VS (ci a0 (bE 1) (bE (ag a0:Int))),VS (mk [48,49,50,51,52,53,54,55,56,57])] [] fun r1 o1=>NS r1<|.test (!(ae r1.ai==ae (mk []))) (.done 0 [VB false] []) (.test ((ag a0:Int)==(2:Int)) (.done 0 [VB true] []) (.al (0<=(1:Int)/\(1:Int)<ag a0)<|.done 0 [VB ((bt a0 1) != (48:Int))] [])))))
theorem Qc(a0:ByteArray)(h:dr 30 (MN a0) R):an Tryz.prog 161 [VS a0] [] R :=
 uQ (af (aw _) aA) (oQ [] Tryz.f161 h)
def AY(a0:AV)(a1:ByteArray)(a2:Int):Tree :=
 NZ a0<|NZ a0<|ou (a0.deref.drop 1)<|NL ((a0.deref.drop 1).hA)<|.test (((((a0.deref.drop 1).hA).aQ).length:Int)==a2) (NZ a0<|NZ a0<|ou (a0.deref.drop 1)<|NG ((a0.deref.drop 1).hA) 0 1<|ef (((a0.deref.drop 1).hA).ix (0:Int))<|NZ ((((a0.deref.drop 1).hA).ix (0:Int)).hA)<|NZ ((((a0.deref.drop 1).hA).ix (0:Int)).hA)<|.al (LK.has .str (((((a0.deref.drop 1).hA).ix (0:Int)).hA).deref.hA)/\1<=(((((a0.deref.drop 1).hA).ix (0:Int)).hA).deref).length)<|.done 0 [VB (ae ((((((a0.deref.drop 1).hA).ix (0:Int)).hA).deref.hA).ai)==ae a1)] []) (.done 0 [VB false] [])
theorem Mv(a0:AV)(a1:ByteArray)(a2:Int)(ha0:LK.has .ptr a0)(h:dr 27 (AY a0 a1 a2) R):an Tryz.prog 162 [a0,VS a1,VI a2] [] R :=
 uQ (af (bq ha0) (af (aw _) (af (aw _) aA))) (oQ [] Tryz.f162 h)
def E1(a0_0:ByteArray)(a0_1:AV):Tree :=
 .test (!(ae a0_0==ae (mk []))) (.test (ae a0_0==ae (mk [48])) (.done 0 [VB true] []) (.test (ae a0_0==ae (mk [49])) (.done 0 [VB true] []) (.call 155 [VS a0_0] [] fun r1 o1=>NB r1<|.test r1.toBool (.done 0 [VB true] []) (.call 138 [VS a0_0] [] fun r2 o2=>NB r2<|.done 0 [VB r2.toBool] [])))) (NL a0_1<|.test ((a0_1.aQ.length:Int) != (3:Int)) (.done 0 [VB false] []) (.call 121 [.agg [VS a0_0,a0_1]] [] fun r3 o3=>NS r3<|.test (ae r3.ai==ae (mk [43])) (NG a0_1 1 2<|NE (a0_1.ix (1:Int))<|.call 165 [.agg [VS (((a0_1.ix (1:Int)).getD 0 .any).ai),((a0_1.ix (1:Int)).getD 1 .any)]] [] fun r4 o4=>NB r4<|.test r4.toBool (NG a0_1 2 2<|NE (a0_1.ix (2:Int))<|.call 165 [.agg [VS (((a0_1.ix (2:Int)).getD 0 .any).ai),((a0_1.ix (2:Int)).getD 1 .any)]] [] fun r5 o5=>NB r5<|.done 0 [VB r5.toBool] []) (.done 0 [VB false] [])) (.test (ae r3.ai==ae (mk [42])) (NG a0_1 1 2<|NE (a0_1.ix (1:Int))<|.call 165 [.agg [VS (((a0_1.ix (1:Int)).getD 0 .any).ai),((a0_1.ix (1:Int)).getD 1 .any)]] [] fun r6 o6=>NB r6<|.test r6.toBool (NG a0_1 2 2<|NE (a0_1.ix (2:Int))<|.call 165 [.agg [VS (((a0_1.ix (2:Int)).getD 0 .any).ai),((a0_1.ix (2:Int)).getD 1 .any)]] [] fun r7 o7=>NB r7<|.done 0 [VB r7.toBool] []) (.done 0 [VB false] [])) (.test (ae r3.ai==ae (mk [114,101,99])) (NG a0_1 1 2<|lI (a0_1.ix (1:Int))<|.call 138 [VS (((a0_1.ix (1:Int)).hA).ai)] [] fun r8 o8=>NB r8<|.test r8.toBool (NG a0_1 2 2<|NE (a0_1.ix (2:Int))<|.call 165 [.agg [VS (((a0_1.ix (2:Int)).getD 0 .any).ai),((a0_1.ix (2:Int)).getD 1 .any)]] [] fun r9 o9=>NB r9<|.done 0 [VB r9.toBool] []) (.done 0 [VB false] [])) (.done 0 [VB false] [])))))
theorem MF(a0_0:ByteArray)(a0_1:AV)(ha0_1:LK.has .sl a0_1)(h:dr 60 (E1 a0_0 a0_1) R):an Tryz.prog 165 [.agg [VS a0_0,a0_1]] [] R :=
 uQ (af (bX (af (aw _) (af (bZ ha0_1) aA))) aA) (oQ [] Tryz.f165 h)
def Ax(a0_0:ByteArray)(a0_1:AV)(a1:ByteArray):Tree :=
 .test (!(ae a0_0==ae (mk []))) (.test (ae a0_0==ae a1) (.done 0 [.cN [.agg [VS (mk [49]),.v (.slice none 0 0)],VB true]] []) (.done 0 [.cN [.agg [VS (mk [48]),.v (.slice none 0 0)],VB true]] [])) (.call 121 [.agg [VS a0_0,a0_1]] [] fun r1 o1=>NS r1<|.test (ae r1.ai==ae (mk [114,101,99])) (.call 190 [.agg [VS a0_0,a0_1],VS a1] [] fun r2 o2=>NT r2<|.al ((r2.comp 0)=.agg (r2.comp 0).cs/\(r2.comp 0).cs.length=2/\bC [.str,.sl] ((r2.comp 0).cs) 0)<|NB (r2.comp 1)<|.done 0 [.cN [.agg [VS (((r2.comp 0).cs.getD 0 .any).ai),((r2.comp 0).cs.getD 1 .any)],VB ((r2.comp 1).toBool)]] []) (NG a0_1 1 2<|NE (a0_1.ix (1:Int))<|.call 166 [.agg [VS (((a0_1.ix (1:Int)).getD 0 .any).ai),((a0_1.ix (1:Int)).getD 1 .any)],VS a1] [] fun r3 o3=>NT r3<|.al ((r3.comp 0)=.agg (r3.comp 0).cs/\(r3.comp 0).cs.length=2/\bC [.str,.sl] ((r3.comp 0).cs) 0)<|NB (r3.comp 1)<|NG a0_1 2 2<|NE (a0_1.ix (2:Int))<|.call 166 [.agg [VS (((a0_1.ix (2:Int)).getD 0 .any).ai),((a0_1.ix (2:Int)).getD 1 .any)],VS a1] [] fun r4 o4=>NT r4<|.al ((r4.comp 0)=.agg (r4.comp 0).cs/\(r4.comp 0).cs.length=2/\bC [.str,.sl] ((r4.comp 0).cs) 0)<|NB (r4.comp 1)<|.call 98 [VS (mk [43]),.sl [[VS (((r3.comp 0).cs.getD 0 .any).ai),((r3.comp 0).cs.getD 1 .any)],[VS (((r4.comp 0).cs.getD 0 .any).ai),((r4.comp 0).cs.getD 1 .any)]]] [] fun r5 o5=>NA r5<|.call 121 [.agg [VS a0_0,a0_1]] [] fun r6 o6=>NS r6<|.test (ae r6.ai==ae (mk [42])) (NG a0_1 2 2<|NE (a0_1.ix (2:Int))<|.call 98 [VS (mk [42]),.sl [[VS (((r3.comp 0).cs.getD 0 .any).ai),((r3.comp 0).cs.getD 1 .any)],[VS (((a0_1.ix (2:Int)).getD 0 .any).ai),((a0_1.ix (2:Int)).getD 1 .any)]]] [] fun r7 o7=>NA r7<|NG a0_1 1 2<|NE (a0_1.ix (1:Int))<|.call 98 [VS (mk [42]),.sl [[VS (((a0_1.ix (1:Int)).getD 0 .any).ai),((a0_1.ix (1:Int)).getD 1 .any)],[VS (((r4.comp 0).cs.getD 0 .any).ai),((r4.comp 0).cs.getD 1 .any)]]] [] fun r8 o8=>NA r8<|.call 98 [VS (mk [43]),.sl [[VS ((r7.cs.getD 0 .any).ai),(r7.cs.getD 1 .any)],[VS ((r8.cs.getD 0 .any).ai),(r8.cs.getD 1 .any)]]] [] fun r9 o9=>NA r9<|.test ((r3.comp 1).toBool) (.test ((r4.comp 1).toBool) (.call 140 [.agg [VS ((r9.cs.getD 0 .any).ai),(r9.cs.getD 1 .any)]] [] fun r10 o10=>NI r10<|.done 0 [.cN [.agg [VS ((r9.cs.getD 0 .any).ai),(r9.cs.getD 1 .any)],VB (decide (r10.toInt<=(400:Int)))]] []) (.done 0 [.cN [.agg [VS ((r9.cs.getD 0 .any).ai),(r9.cs.getD 1 .any)],VB false]] [])) (.done 0 [.cN [.agg [VS ((r9.cs.getD 0 .any).ai),(r9.cs.getD 1 .any)],VB false]] [])) (.test ((r3.comp 1).toBool) (.test ((r4.comp 1).toBool) (.call 140 [.agg [VS ((r5.cs.getD 0 .any).ai),(r5.cs.getD 1 .any)]] [] fun r11 o11=>NI r11<|.done 0 [.cN [.agg [VS ((r5.cs.getD 0 .any).ai),(r5.cs.getD 1 .any)],VB (decide (r11.toInt<=(400:Int)))]] []) (.done 0 [.cN [.agg [VS ((r5.cs.getD 0 .any).ai),(r5.cs.getD 1 .any)],VB false]] [])) (.done 0 [.cN [.agg [VS ((r5.cs.getD 0 .any).ai),(r5.cs.getD 1 .any)],VB false]] []))))
theorem C3(a0_0:ByteArray)(a0_1:AV)(a1:ByteArray)(ha0_1:LK.has .sl a0_1)(h:dr 79 (Ax a0_0 a0_1 a1) R):an Tryz.prog 166 [.agg [VS a0_0,a0_1],VS a1] [] R :=
 uQ (af (bX (af (aw _) (af (bZ ha0_1) aA))) (af (aw _) aA)) (oQ [] Tryz.f166 h)
def N3(a0_0:ByteArray)(a0_1:AV)(a1:ByteArray)(a2_0:ByteArray)(a2_1:AV):Tree :=
 .call 171 [.agg [VS a0_0,a0_1],VS a1,.agg [VS a2_0,a2_1]] [] fun r1 o1=>NB r1<|.test (!r1.toBool) (.done 0 [.cN [.agg [VS a0_0,a0_1],VB false]] []) (.call 172 [.agg [VS a0_0,a0_1],VS a1,.agg [VS a2_0,a2_1]] [] fun r2 o2=>NA r2<|.done 0 [.cN [.agg [VS ((r2.cs.getD 0 .any).ai),(r2.cs.getD 1 .any)],VB true]] [])
theorem Q7(a0_0:ByteArray)(a0_1:AV)(a1:ByteArray)(a2_0:ByteArray)(a2_1:AV)(ha0_1:LK.has .sl a0_1)(ha2_1:LK.has .sl a2_1)(h:dr 18 (N3 a0_0 a0_1 a1 a2_0 a2_1) R):an Tryz.prog 167 [.agg [VS a0_0,a0_1],VS a1,.agg [VS a2_0,a2_1]] [] R :=
 uQ (af (bX (af (aw _) (af (bZ ha0_1) aA))) (af (aw _) (af (bX (af (aw _) (af (bZ ha2_1) aA))) aA))) (oQ [] Tryz.f167 h)
def M9(a0:ByteArray):Tree :=
 .call 132 [VS a0] [] fun r1 o1=>NT r1<|.al ((r1.comp 0)=.agg (r1.comp 0).cs/\(r1.comp 0).cs.length=2/\bC [.str,.sl] ((r1.comp 0).cs) 0)<|NB (r1.comp 1)<|.done 0 [VB ((r1.comp 1).toBool)] []
theorem QF(a0:ByteArray)(h:dr 11 (M9 a0) R):an Tryz.prog 168 [VS a0] [] R :=
 uQ (af (aw _) aA) (oQ [] Tryz.f168 h)
def Fq:LI:={hd:={bu:=[(0,.k .sl),(1,.k .str),(5,.k (.int .i64))]},xs:={},rt:={bu:=[(4,.k .bool)]},ex:=0}
def IC:Code:=cu (cn Tryz.f169) 2
def MY:List (Nat×LI):=[(2,Fq)]
def K8(a0:AV)(a1:ByteArray):Tree :=
 .loop IC Fq [a0,VS a1,VI 0] [] (fun y1 q1=>.done 0 [VB false] []) (fun y1 q1=>NB (y1.hA)<|.done 0 [VB ((y1.hA).toBool)] [])
theorem Oh(a0:AV)(a1:ByteArray)(ha0:LK.has .sl a0)(h:dr 18 (K8 a0 a1) R):an Tryz.prog 169 [a0,VS a1] [] R :=
 uQ (af (bZ ha0) (af (aw _) aA)) (oQ MY Tryz.f169 h)
def Gx(x0:AV)(x1:ByteArray)(x5:Int):Tree :=
 NL x0<|NS (VS x1)<|NI (VI x5)<|NL x0<|.test (decide (x5<(x0.aQ.length:Int))) (NG x0 x5 1<|lI (x0.ix x5)<|.test (ae (((x0.ix x5).hA).ai)==ae x1) (.done 2 [VB true] []) (.done 0 [x0,VS x1,VI (IntKind.wrap .i64 (x5+1))] [])) (.done 1 [] [])
abbrev HH:=cq Tryz.prog 18 IC Fq
theorem NQ(x0:AV)(x1:ByteArray)(x5:Int)(h:jk 18 (Gx x0 x1 x5) HH U):HH [x0,VS x1,VI x5] [] U :=
 gQ MY h
def Gd:LI:={hd:={bu:=[(0,.k .str),(7,.k (.int .i64))]},xs:={},rt:={bu:=[(6,.k .bool)]},ex:=0}
def I0:Code:=cu (cn Tryz.f170) 4
def Jl:List (Nat×LI):=[(4,Gd)]
def Ib(a0:ByteArray)(a1:Int)(a2:Int):Tree :=
 .call 56 [VI (ag a0:Int),VI 1,VI 3] [] fun r1 o1=>NB r1<|.test (!r1.toBool) (.done 0 [VB false] []) (.al (0<=(0:Int)/\(0:Int)<ag a0)<|.test (decide ((bt a0 0)<a1)) (.done 0 [VB false] []) (.al (0<=(0:Int)/\(0:Int)<ag a0)<|.test (decide ((bt a0 0)>a2)) (.done 0 [VB false] []) (.loop I0 Gd [VS a0,VI 1] [] (fun y2 q2=>.done 0 [VB true] []) (fun y2 q2=>NB (y2.hA)<|.done 0 [VB ((y2.hA).toBool)] []))))
theorem Q0(a0:ByteArray)(a1:Int)(a2:Int)(h:dr 40 (Ib a0 a1 a2) R):an Tryz.prog 170 [VS a0,.v (.int .u8 a1),.v (.int .u8 a2)] [] R :=
 uQ (af (aw _) (af (aw _) (af (aw _) aA))) (oQ Jl Tryz.f170 h)
def En(x0:ByteArray)(x7:Int):Tree :=
 NS (VS x0)<|NI (VI x7)<|.test (decide (x7<(ag x0:Int))) (.al (0<=x7/\x7<ag x0)<|.test (decide ((bt x0 x7)<(48:Int))) (.done 2 [VB false] []) (.al (0<=x7/\x7<ag x0)<|.test (decide ((bt x0 x7)>(57:Int))) (.done 2 [VB false] []) (.done 0 [VS x0,VI (IntKind.wrap .i64 (x7+1))] []))) (.done 1 [] [])
abbrev ES:=cq Tryz.prog 40 I0 Gd
theorem Ko(x0:ByteArray)(x7:Int)(h:jk 40 (En x0 x7) ES U):ES [VS x0,VI x7] [] U :=
 gQ Jl h
def IF(a0_0:ByteArray)(a0_1:AV)(a1:ByteArray)(a2_0:ByteArray)(a2_1:AV):Tree :=
 .call 140 [.agg [VS a0_0,a0_1]] [] fun r1 o1=>NI r1<|.call 191 [.agg [VS a0_0,a0_1],VS a1] [] fun r2 o2=>NI r2<|.call 140 [.agg [VS a2_0,a2_1]] [] fun r3 o3=>NI r3<|.done 0 [VB (decide ((IntKind.wrap .i64 (r1.toInt+(IntKind.wrap .i64 (r2.toInt*(IntKind.wrap .i64 (r3.toInt-1))))))<=(400:Int)))] []
theorem Q8(a0_0:ByteArray)(a0_1:AV)(a1:ByteArray)(a2_0:ByteArray)(a2_1:AV)(ha0_1:LK.has .sl a0_1)(ha2_1:LK.has .sl a2_1)(h:dr 18 (IF a0_0 a0_1 a1 a2_0 a2_1) R):an Tryz.prog 171 [.agg [VS a0_0,a0_1],VS a1,.agg [VS a2_0,a2_1]] [] R :=
 uQ (af (bX (af (aw _) (af (bZ ha0_1) aA))) (af (aw _) (af (bX (af (aw _) (af (bZ ha2_1) aA))) aA))) (oQ [] Tryz.f171 h)
def Lw(a0_0:ByteArray)(a0_1:AV)(a1:ByteArray)(a2_0:ByteArray)(a2_1:AV):Tree :=
 .call 106 [.agg [VS a0_0,a0_1],.sl [[VS a2_0,a2_1],[VS a1,.v (.slice none 0 0)]]] [] fun r1 o1=>NA r1<|.call 192 [.agg [VS ((r1.cs.getD 0 .any).ai),(r1.cs.getD 1 .any)],VS a1,.agg [VS a2_0,a2_1]] [] fun r2 o2=>NA r2<|.done 0 [.agg [VS ((r2.cs.getD 0 .any).ai),(r2.cs.getD 1 .any)]] []
theorem Ra(a0_0:ByteArray)(a0_1:AV)(a1:ByteArray)(a2_0:ByteArray)(a2_1:AV)(ha0_1:LK.has .sl a0_1)(ha2_1:LK.has .sl a2_1)(h:dr 16 (Lw a0_0 a0_1 a1 a2_0 a2_1) R):an Tryz.prog 172 [.agg [VS a0_0,a0_1],VS a1,.agg [VS a2_0,a2_1]] [] R :=
 uQ (af (bX (af (aw _) (af (bZ ha0_1) aA))) (af (aw _) (af (bX (af (aw _) (af (bZ ha2_1) aA))) aA))) (oQ [] Tryz.f172 h)
def I1(a0:ByteArray):Tree :=
 .call 182 [VS a0,VS (mk [120,121,122])] [] fun r1 o1=>NB r1<|.done 0 [VB r1.toBool] []
theorem PA(a0:ByteArray)(h:dr 5 (I1 a0) R):an Tryz.prog 173 [VS a0] [] R :=
 uQ (af (aw _) aA) (oQ [] Tryz.f173 h)
def H0(a0:Int)(a1:AV)(a2:AV):Tree :=
 .done 0 [.ptr [.v (.int .u8 a0),VS (mk []),VI 0,a1,a2]] []
theorem PN(a0:Int)(a1:AV)(a2:AV)(ha1:LK.has .ptr a1)(ha2:LK.has .ptr a2)(h:dr 12 (H0 a0 a1 a2) R):an Tryz.prog 175 [.v (.int .u8 a0),a1,a2] [] R :=
 uQ (af (aw _) (af (bq ha1) (af (bq ha2) aA))) (oQ [] Tryz.f175 h)
def Gz:LI:={hd:={bu:=[(0,.k .ptr),(1,.k .sl),(9,.k .str)],refs:=[(3,0),(4,1)],co:=[(0,[.lk .sl]),(1,[.lk (.int .i64)])],u9:=[(2,176,[none,some 0,some 1])]},xs:={bu:=[(0,.k .ptr),(1,.k .sl),(9,.k .str)],co:=[(0,[.lk .sl]),(1,[.lk (.int .i64)])],u9:=[(2,176,[none,some 0,some 1])]},rt:={co:=[(0,[.lk .sl]),(1,[.lk (.int .i64)])]},ex:=1,fx:=[0,1]}
def Kn:Code:=cu (cn Tryz.f176) 12
def L7:List (Nat×LI):=[(12,Gz)]
def DD(a0:AV)(a1:AV)(a3_0:AV)(a4_0:Int):Tree :=
 NZ a0<|NZ a0<|.al (LK.has (.int .u8) (a0.deref.hA)/\1<=a0.deref.length)<|.test (((a0.deref.hA).toInt)==(110:Int)) (NZ a0<|NZ a0<|lI (a0.deref.drop 1)<|.done 0 [VS (((a0.deref.drop 1).hA).ai)] [.cells [a3_0],.cells [VI a4_0]]) (.test (((a0.deref.hA).toInt)==(98:Int)) (NL a1<|NZ a0<|NZ a0<|.al (LK.has (.int .i64) ((a0.deref.drop 2).hA)/\1<=(a0.deref.drop 2).length)<|.al (LK.has .sl a1/\0<=(IntKind.wrap .i64 ((IntKind.wrap .i64 ((a1.aQ.length:Int)-1))-(((a0.deref.drop 2).hA).toInt)))/\(IntKind.wrap .i64 ((IntKind.wrap .i64 ((a1.aQ.length:Int)-1))-(((a0.deref.drop 2).hA).toInt)))<a1.aQ.length/\(a1.ix (IntKind.wrap .i64 ((IntKind.wrap .i64 ((a1.aQ.length:Int)-1))-(((a0.deref.drop 2).hA).toInt)))).length=1)<|lI (a1.ix (IntKind.wrap .i64 ((IntKind.wrap .i64 ((a1.aQ.length:Int)-1))-(((a0.deref.drop 2).hA).toInt))))<|.done 0 [VS (((a1.ix (IntKind.wrap .i64 ((IntKind.wrap .i64 ((a1.aQ.length:Int)-1))-(((a0.deref.drop 2).hA).toInt)))).hA).ai)] [.cells [a3_0],.cells [VI a4_0]]) (.test (((a0.deref.hA).toInt)==(43:Int)) (NZ a0<|NZ a0<|ef (a0.deref.drop 3)<|.call 176 [((a0.deref.drop 3).hA),a1,.gG 176 [none,some 0,some 1],.ref 0 0,.ref 1 0] [.cells [a3_0],.cells [VI a4_0]] fun r1 o1=>.al ((o1.hO)=.cells (o1.hO).cs)<|.al (bm [.lk .sl] ((o1.hO).cs) 0 1 o1.tail)<|.al ((o1.tail.hO)=.cells (o1.tail.hO).cs)<|.al (bm [.lk (.int .i64)] ((o1.tail.hO).cs) 0 2 o1.tail.tail)<|NS r1<|NZ a0<|NZ a0<|.al (LK.has (.int .u8) (a0.deref.hA)/\1<=a0.deref.length)<|.al (i6 [[.v (.int .u8 ((a0.deref.hA).toInt))]])<|.al (ag (mk [40])+ag (⟨(bytesOf [[.v (.int .u8 ((a0.deref.hA).toInt))]]).toArray⟩)<=9223372036854775807)<|.al (ag (((mk [40]):ByteArray)++(⟨(bytesOf [[.v (.int .u8 ((a0.deref.hA).toInt))]]).toArray⟩))+ag (mk [32])<=9223372036854775807)<|.al (ag (((((mk [40]):ByteArray)++(⟨(bytesOf [[.v (.int .u8 ((a0.deref.hA).toInt))]]).toArray⟩)):ByteArray)++(mk [32]))+ag r1.ai<=9223372036854775807)<|.al (ag (((((((mk [40]):ByteArray)++(⟨(bytesOf [[.v (.int .u8 ((a0.deref.hA).toInt))]]).toArray⟩)):ByteArray)++(mk [32])):ByteArray)++r1.ai)+ag (mk [32])<=9223372036854775807)<|NZ a0<|NZ a0<|ef (a0.deref.drop 4)<|.call 176 [((a0.deref.drop 4).hA),a1,.gG 176 [none,some 0,some 1],.ref 0 0,.ref 1 0] [.cells [((o1.hO).cs.getD 0 .any)],.cells [VI (((o1.tail.hO).cs.getD 0 .any).toInt)]] fun r2 o2=>.al ((o2.hO)=.cells (o2.hO).cs)<|.al (bm [.lk .sl] ((o2.hO).cs) 0 1 o2.tail)<|.al ((o2.tail.hO)=.cells (o2.tail.hO).cs)<|.al (bm [.lk (.int .i64)] ((o2.tail.hO).cs) 0 2 o2.tail.tail)<|NS r2<|.al (ag (((((((((mk [40]):ByteArray)++(⟨(bytesOf [[.v (.int .u8 ((a0.deref.hA).toInt))]]).toArray⟩)):ByteArray)++(mk [32])):ByteArray)++r1.ai):ByteArray)++(mk [32]))+ag r2.ai<=9223372036854775807)<|.al (ag (((((((((((mk [40]):ByteArray)++(⟨(bytesOf [[.v (.int .u8 ((a0.deref.hA).toInt))]]).toArray⟩)):ByteArray)++(mk [32])):ByteArray)++r1.ai):ByteArray)++(mk [32])):ByteArray)++r2.ai)+ag (mk [41])<=9223372036854775807)<|.done 0 [VS (((((((((((((mk [40]):ByteArray)++(⟨(bytesOf [[.v (.int .u8 ((a0.deref.hA).toInt))]]).toArray⟩)):ByteArray)++(mk [32])):ByteArray)++r1.ai):ByteArray)++(mk [32])):ByteArray)++r2.ai):ByteArray)++(mk [41]))] [.cells [((o2.hO).cs.getD 0 .any)],.cells [VI (((o2.tail.hO).cs.getD 0 .any).toInt)]]) (.test (((a0.deref.hA).toInt)==(42:Int)) (NZ a0<|NZ a0<|ef (a0.deref.drop 3)<|.call 176 [((a0.deref.drop 3).hA),a1,.gG 176 [none,some 0,some 1],.ref 0 0,.ref 1 0] [.cells [a3_0],.cells [VI a4_0]] fun r3 o3=>.al ((o3.hO)=.cells (o3.hO).cs)<|.al (bm [.lk .sl] ((o3.hO).cs) 0 1 o3.tail)<|.al ((o3.tail.hO)=.cells (o3.tail.hO).cs)<|.al (bm [.lk (.int .i64)] ((o3.tail.hO).cs) 0 2 o3.tail.tail)<|NS r3<|NZ a0<|NZ a0<|.al (LK.has (.int .u8) (a0.deref.hA)/\1<=a0.deref.length)<|.al (i6 [[.v (.int .u8 ((a0.deref.hA).toInt))]])<|.al (ag (mk [40])+ag (⟨(bytesOf [[.v (.int .u8 ((a0.deref.hA).toInt))]]).toArray⟩)<=9223372036854775807)<|.al (ag (((mk [40]):ByteArray)++(⟨(bytesOf [[.v (.int .u8 ((a0.deref.hA).toInt))]]).toArray⟩))+ag (mk [32])<=9223372036854775807)<|.al (ag (((((mk [40]):ByteArray)++(⟨(bytesOf [[.v (.int .u8 ((a0.deref.hA).toInt))]]).toArray⟩)):ByteArray)++(mk [32]))+ag r3.ai<=9223372036854775807)<|.al (ag (((((((mk [40]):ByteArray)++(⟨(bytesOf [[.v (.int .u8 ((a0.deref.hA).toInt))]]).toArray⟩)):ByteArray)++(mk [32])):ByteArray)++r3.ai)+ag (mk [32])<=9223372036854775807)<|NZ a0<|NZ a0<|ef (a0.deref.drop 4)<|.call 176 [((a0.deref.drop 4).hA),a1,.gG 176 [none,some 0,some 1],.ref 0 0,.ref 1 0] [.cells [((o3.hO).cs.getD 0 .any)],.cells [VI (((o3.tail.hO).cs.getD 0 .any).toInt)]] fun r4 o4=>.al ((o4.hO)=.cells (o4.hO).cs)<|.al (bm [.lk .sl] ((o4.hO).cs) 0 1 o4.tail)<|.al ((o4.tail.hO)=.cells (o4.tail.hO).cs)<|.al (bm [.lk (.int .i64)] ((o4.tail.hO).cs) 0 2 o4.tail.tail)<|NS r4<|.al (ag (((((((((mk [40]):ByteArray)++(⟨(bytesOf [[.v (.int .u8 ((a0.deref.hA).toInt))]]).toArray⟩)):ByteArray)++(mk [32])):ByteArray)++r3.ai):ByteArray)++(mk [32]))+ag r4.ai<=9223372036854775807)<|.al (ag (((((((((((mk [40]):ByteArray)++(⟨(bytesOf [[.v (.int .u8 ((a0.deref.hA).toInt))]]).toArray⟩)):ByteArray)++(mk [32])):ByteArray)++r3.ai):ByteArray)++(mk [32])):ByteArray)++r4.ai)+ag (mk [41])<=9223372036854775807)<|.done 0 [VS (((((((((((((mk [40]):ByteArray)++(⟨(bytesOf [[.v (.int .u8 ((a0.deref.hA).toInt))]]).toArray⟩)):ByteArray)++(mk [32])):ByteArray)++r3.ai):ByteArray)++(mk [32])):ByteArray)++r4.ai):ByteArray)++(mk [41]))] [.cells [((o4.hO).cs.getD 0 .any)],.cells [VI (((o4.tail.hO).cs.getD 0 .any).toInt)]]) (.test (((a0.deref.hA).toInt)==(114:Int)) (.loop Kn Gz [a0,a1,VS (mk [])] [.cells [a3_0],.cells [VI a4_0]] (fun y8 q8=>NP (y8.hA)<|NL (y8.tail.hA)<|NS (y8.tail.tail.hA)<|.al ((q8.hO)=.cells (q8.hO).cs)<|.al (ac [.lk .sl] ((q8.hO).cs) 0 q8.tail)<|.al (((q8.tail.drop 0).hO)=.cells ((q8.tail.drop 0).hO).cs)<|.al (ac [.lk (.int .i64)] (((q8.tail.drop 0).hO).cs) 0 ((q8.tail.drop 0).tail))<|.al (ag (mk [40,114,101,99,32])+ag ((y8.tail.tail.hA).ai)<=9223372036854775807)<|.al (ag (((mk [40,114,101,99,32]):ByteArray)++((y8.tail.tail.hA).ai))+ag (mk [32])<=9223372036854775807)<|NZ (y8.hA)<|NZ (y8.hA)<|ef ((y8.hA).deref.drop 3)<|.al (LK.has .sl (y8.tail.hA)/\cD 1 ((y8.tail.hA).aQ)/\((([]:List (List AV)).length)+((y8.tail.hA).aQ).length)*16<=140737488355328)<|.al (cD 1 [[VS ((y8.tail.tail.hA).ai)]]/\(((([]:List (List AV))++((y8.tail.hA).aQ)).length)+([[VS ((y8.tail.tail.hA).ai)]]:List (List AV)).length)*16<=140737488355328)<|.call 176 [(((y8.hA).deref.drop 3).hA),.sl ((([]:List (List AV))++((y8.tail.hA).aQ))++([[VS ((y8.tail.tail.hA).ai)]]:List (List AV))),.gG 176 [none,some 0,some 1],.ref 0 0,.ref 1 0] [.cells [((q8.hO).cs.getD 0 .any)],.cells [VI (((q8.tail.hO).cs.getD 0 .any).toInt)]] fun r9 o9=>.al ((o9.hO)=.cells (o9.hO).cs)<|.al (bm [.lk .sl] ((o9.hO).cs) 0 1 o9.tail)<|.al ((o9.tail.hO)=.cells (o9.tail.hO).cs)<|.al (bm [.lk (.int .i64)] ((o9.tail.hO).cs) 0 2 o9.tail.tail)<|NS r9<|.al (ag (((((mk [40,114,101,99,32]):ByteArray)++((y8.tail.tail.hA).ai)):ByteArray)++(mk [32]))+ag r9.ai<=9223372036854775807)<|.al (ag (((((((mk [40,114,101,99,32]):ByteArray)++((y8.tail.tail.hA).ai)):ByteArray)++(mk [32])):ByteArray)++r9.ai)+ag (mk [41])<=9223372036854775807)<|.done 0 [VS (((((((((mk [40,114,101,99,32]):ByteArray)++((y8.tail.tail.hA).ai)):ByteArray)++(mk [32])):ByteArray)++r9.ai):ByteArray)++(mk [41]))] [.cells [((o9.hO).cs.getD 0 .any)],.cells [VI (((o9.tail.hO).cs.getD 0 .any).toInt)]]) (fun y8 q8=>.al ((q8.hO)=.cells (q8.hO).cs)<|.al (ac [.lk .sl] ((q8.hO).cs) 0 q8.tail)<|.al (((q8.tail.drop 0).hO)=.cells ((q8.tail.drop 0).hO).cs)<|.al (ac [.lk (.int .i64)] (((q8.tail.drop 0).hO).cs) 0 ((q8.tail.drop 0).tail))<|.done 0 [.any] [.cells [((q8.hO).cs.getD 0 .any)],.cells [VI (((q8.tail.hO).cs.getD 0 .any).toInt)]])) (NZ a0<|NZ a0<|.al (LK.has (.int .u8) (a0.deref.hA)/\1<=a0.deref.length)<|.al (i6 [[.v (.int .u8 ((a0.deref.hA).toInt))]])<|.done 0 [VS (⟨(bytesOf [[.v (.int .u8 ((a0.deref.hA).toInt))]]).toArray⟩)] [.cells [a3_0],.cells [VI a4_0]])))))
theorem GL(a0:AV)(a1:AV)(a3_0:AV)(a4_0:Int)(ha0:LK.has .ptr a0)(ha1:LK.has .sl a1)(ha3_0:LK.has .sl a3_0)(h:dr 100 (DD a0 a1 a3_0 a4_0) R):an Tryz.prog 176 [a0,a1,.gG 176 [none,some 0,some 1],.ref 0 0,.ref 1 0] [.cells [a3_0],.cells [VI a4_0]] R :=
 an.pQ (bK (cL (af (bZ ha3_0) aA)) (bK (cL (af (aw _) aA)) cX)) (an.up (af (bq ha0) (af (bZ ha1) (af (aw _) (af (aw _) (af (aw _) aA))))) (oF L7 {mu:=[(2,.u7 176 [none,some 0,some 1]),(3,.one (.obj [.lk .sl])),(4,.one (.obj [.lk (.int .i64)]))],own:=[]} Tryz.f176 h))
def GB(x0:AV)(x1:AV)(x9:ByteArray)(o0_0:AV)(o1_0:Int):Tree :=
 NP x0<|NL x1<|NS (VS x9)<|.al (Ob.cells [o0_0]=.cells [o0_0])<|.al (ac [.lk .sl] [o0_0] 0 [.cells [VI o1_0]])<|.al (Ob.cells [VI o1_0]=.cells [VI o1_0])<|.al (ac [.lk (.int .i64)] [VI o1_0] 0 [])<|.test (ae x9==ae (mk [])) (.call 174 [VI o1_0] [] fun r1 o1=>NS r1<|.al (ag (mk [116])+ag r1.ai<=9223372036854775807)<|.done 0 [x0,x1,VS (((mk [116]):ByteArray)++r1.ai)] [.cells [o0_0],.cells [VI (IntKind.wrap .i64 (o1_0+1))]]) (.call 177 [o0_0,VS x9] [] fun r2 o2=>NB r2<|.test r2.toBool (.call 174 [VI o1_0] [] fun r3 o3=>NS r3<|.al (ag (mk [116])+ag r3.ai<=9223372036854775807)<|.done 0 [x0,x1,VS (((mk [116]):ByteArray)++r3.ai)] [.cells [o0_0],.cells [VI (IntKind.wrap .i64 (o1_0+1))]]) (.done 1 [x0,x1,VS x9] [.cells [o0_0],.cells [VI o1_0]]))
abbrev BP:=cq Tryz.prog 100 Kn Gz
theorem Jz(x0:AV)(x1:AV)(x9:ByteArray)(o0_0:AV)(o1_0:Int)(h:jk 100 (GB x0 x1 x9 o0_0 o1_0) BP U):BP [x0,x1,VS x9] [.cells [o0_0],.cells [VI o1_0]] U :=
 gQ L7 h
def K1(a0:AV)(a1:ByteArray):Tree :=
 .call 194 [a0,VS a1] [] fun r1 o1=>NI r1<|.done 0 [VB (decide (r1.toInt≥(0:Int)))] []
theorem Of(a0:AV)(a1:ByteArray)(ha0:LK.has .sl a0)(h:dr 9 (K1 a0 a1) R):an Tryz.prog 177 [a0,VS a1] [] R :=
 uQ (af (bZ ha0) (af (aw _) aA)) (oQ [] Tryz.f177 h)
def II(a0:Int):Tree :=
 .test (decide (a0≥(97:Int))) (.test (decide (a0<=(122:Int))) (.done 0 [VB true] []) (.test (decide (a0≥(48:Int))) (.test (decide (a0<=(57:Int))) (.done 0 [VB true] []) (.test (a0==(42:Int)) (.done 0 [VB true] []) (.done 0 [VB (a0==(43:Int))] []))) (.test (a0==(42:Int)) (.done 0 [VB true] []) (.done 0 [VB (a0==(43:Int))] [])))) (.test (decide (a0≥(48:Int))) (.test (decide (a0<=(57:Int))) (.done 0 [VB true] []) (.test (a0==(42:Int)) (.done 0 [VB true] []) (.done 0 [VB (a0==(43:Int))] []))) (.test (a0==(42:Int)) (.done 0 [VB true] []) (.done 0 [VB (a0==(43:Int))] [])))
theorem Rv(a0:Int)(h:dr 25 (II a0) R):an Tryz.prog 178 [.v (.int .u8 a0)] [] R :=
 uQ (af (aw _) aA) (oQ [] Tryz.f178 h)
def Ep:LI:={hd:={bu:=[(0,.k .sl),(1,.c (.func (.func 159) #[] #[])),(7,.k (.int .i64)),(8,.k (.int .i64))]},xs:={},rt:={bu:=[(4,.k (.int .i64))]},ex:=0}
def JM:Code:=cu (cn Tryz.f179) 2
def NK:List (Nat×LI):=[(2,Ep)]
def M3(a0:AV):Tree :=
 NL a0<|.loop JM Ep [a0,.v (.func (.func 159) #[] #[]),VI (a0.aQ.length:Int),VI 0] [] (fun y2 q2=>.done 0 [VI (-1)] []) (fun y2 q2=>NI (y2.hA)<|.done 0 [VI ((y2.hA).toInt)] [])
theorem On(a0:AV)(ha0:LK.has .sl a0)(h:dr 19 (M3 a0) R):an Tryz.prog 179 [a0,.v (.func (.func 159) #[] #[])] [] R :=
 uQ (af (bZ ha0) (af (aw _) aA)) (oQ NK Tryz.f179 h)
def Hz(x0:AV)(x7:Int)(x8:Int):Tree :=
 NL x0<|.al (AV.v (.func (.func 159) #[] #[])=.v (.func (.func 159) #[] #[]))<|NI (VI x7)<|NI (VI x8)<|.test (decide (x8<x7)) (NG x0 x8 1<|lI (x0.ix x8)<|.call 159 [VS (((x0.ix x8).hA).ai)] [] fun r1 o1=>NB r1<|.test r1.toBool (.done 2 [VI x8] []) (.done 0 [x0,.v (.func (.func 159) #[] #[]),VI x7,VI (IntKind.wrap .i64 (x8+1))] [])) (.done 1 [] [])
abbrev HC:=cq Tryz.prog 19 JM Ep
theorem HY(x0:AV)(x7:Int)(x8:Int)(h:jk 19 (Hz x0 x7 x8) HC U):HC [x0,.v (.func (.func 159) #[] #[]),VI x7,VI x8] [] U :=
 gQ NK h
def DO(a0:AV)(e1_0_0:List (List AV)):Tree :=
 .call 181 [a0,.ref 0 0] [.cells [.vec 1],.vec 1 e1_0_0] fun r1 o1=>.al ((o1.hO)=.cells (o1.hO).cs)<|.al (bm [.vec 1] ((o1.hO).cs) 0 1 o1.tail)<|NZ a0<|NZ a0<|ef (a0.deref.drop 3)<|NP ((a0.deref.drop 3).hA)<|.test (!((a0.deref.drop 3).hA).isNil) (NZ a0<|NZ a0<|ef (a0.deref.drop 3)<|.call 180 [((a0.deref.drop 3).hA),.fn 181 [.ref 0 0]] [.cells [.vec 1],.vec 1 ((o1.tail.hO).es)] fun r2 o2=>.al ((o2.hO)=.cells (o2.hO).cs)<|.al (bm [.vec 1] ((o2.hO).cs) 0 1 o2.tail)<|NZ a0<|NZ a0<|ef (a0.deref.drop 4)<|NP ((a0.deref.drop 4).hA)<|.test (!((a0.deref.drop 4).hA).isNil) (NZ a0<|NZ a0<|ef (a0.deref.drop 4)<|.call 180 [((a0.deref.drop 4).hA),.fn 181 [.ref 0 0]] [.cells [.vec 1],.vec 1 ((o2.tail.hO).es)] fun r3 o3=>.al ((o3.hO)=.cells (o3.hO).cs)<|.al (bm [.vec 1] ((o3.hO).cs) 0 1 o3.tail)<|.done 0 [.any] [.cells [.vec 1],.vec 1 ((o3.tail.hO).es)]) (.done 0 [.any] [.cells [.vec 1],.vec 1 ((o2.tail.hO).es)])) (NZ a0<|NZ a0<|ef (a0.deref.drop 4)<|NP ((a0.deref.drop 4).hA)<|.test (!((a0.deref.drop 4).hA).isNil) (NZ a0<|NZ a0<|ef (a0.deref.drop 4)<|.call 180 [((a0.deref.drop 4).hA),.fn 181 [.ref 0 0]] [.cells [.vec 1],.vec 1 ((o1.tail.hO).es)] fun r4 o4=>.al ((o4.hO)=.cells (o4.hO).cs)<|.al (bm [.vec 1] ((o4.hO).cs) 0 1 o4.tail)<|.done 0 [.any] [.cells [.vec 1],.vec 1 ((o4.tail.hO).es)]) (.done 0 [.any] [.cells [.vec 1],.vec 1 ((o1.tail.hO).es)]))
theorem F7(a0:AV)(e1_0_0:List (List AV))(ha0:LK.has .ptr a0)(h:dr 29 (DO a0 e1_0_0) R):an Tryz.prog 180 [a0,.fn 181 [.ref 0 0]] [.cells [.vec 1],.vec 1 e1_0_0] R :=
 an.pQ (bK (cL (af (aw _) aA)) (bK (eK _) cX)) (an.up (af (bq ha0) (af (aw _) aA)) (oF [] {mu:=[(1,.fn [some (.obj [.vec 1])])],own:=[]} Tryz.f180 h))
def GS(a0:AV)(e1_0:List (List AV)):Tree :=
 NZ a0<|NZ a0<|.al (LK.has (.int .u8) (a0.deref.hA)/\1<=a0.deref.length)<|.test (((a0.deref.hA).toInt)==(110:Int)) (NZ a0<|NZ a0<|lI (a0.deref.drop 1)<|.call 177 [.sl e1_0,VS (((a0.deref.drop 1).hA).ai)] [] fun r1 o1=>NB r1<|.test (!r1.toBool) (NZ a0<|NZ a0<|lI (a0.deref.drop 1)<|.al (cD 1 [[VS (((a0.deref.drop 1).hA).ai)]]/\((e1_0.length)+([[VS (((a0.deref.drop 1).hA).ai)]]:List (List AV)).length)*16<=140737488355328)<|.done 0 [.any] [.cells [.vec 1],.vec 1 (e1_0++([[VS (((a0.deref.drop 1).hA).ai)]]:List (List AV)))]) (.done 0 [.any] [.cells [.vec 1],.vec 1 e1_0])) (.done 0 [.any] [.cells [.vec 1],.vec 1 e1_0])
theorem PJ(a0:AV)(e1_0:List (List AV))(ha0:LK.has .ptr a0)(h:dr 24 (GS a0 e1_0) R):an Tryz.prog 181 [a0,.ref 0 0] [.cells [.vec 1],.vec 1 e1_0] R :=
 an.pQ (bK (cL (af (aw _) aA)) (bK (eK _) cX)) (an.up (af (bq ha0) (af (aw _) aA)) (oF [] {mu:=[(1,.one (.obj [.vec 1]))],own:=[]} Tryz.f181 h))
def LL(a0:ByteArray)(a1:ByteArray):Tree :=
 .test (decide ((ag a0:Int)≥(1:Int))) (.test (decide ((ag a0:Int)<=(3:Int))) (.al (0<=(0:Int)/\(0:Int)<=(1:Int)/\(1:Int)<=(ag a0:Int))<|.call 195 [VS a1,VS (ci a0 (bE 0) (bE 1))] [] fun r1 o1=>NB r1<|.test r1.toBool (.al (0<=(1:Int)/\(1:Int)<=(ag a0:Int)/\(ag a0:Int)<=(ag a0:Int))<|.call 184 [VS (ci a0 (bE 1) (bE (ag a0:Int))),VS (mk [48,49,50,51,52,53,54,55,56,57])] [] fun r2 o2=>NS r2<|.done 0 [VB (ae r2.ai==ae (mk []))] []) (.done 0 [VB false] [])) (.done 0 [VB false] [])) (.done 0 [VB false] [])
theorem Ro(a0:ByteArray)(a1:ByteArray)(h:dr 25 (LL a0 a1) R):an Tryz.prog 182 [VS a0,VS a1] [] R :=
 uQ (af (aw _) (af (aw _) aA)) (oQ [] Tryz.f182 h)
def HS(a0:Int):Tree :=
 .test (decide (a0≥(97:Int))) (.test (decide (a0<=(122:Int))) (.done 0 [VB true] []) (.test (decide (a0≥(48:Int))) (.test (decide (a0<=(57:Int))) (.done 0 [VB true] []) (.test (a0==(43:Int)) (.done 0 [VB true] []) (.done 0 [VB (a0==(42:Int))] []))) (.test (a0==(43:Int)) (.done 0 [VB true] []) (.done 0 [VB (a0==(42:Int))] [])))) (.test (decide (a0≥(48:Int))) (.test (decide (a0<=(57:Int))) (.done 0 [VB true] []) (.test (a0==(43:Int)) (.done 0 [VB true] []) (.done 0 [VB (a0==(42:Int))] []))) (.test (a0==(43:Int)) (.done 0 [VB true] []) (.done 0 [VB (a0==(42:Int))] [])))
theorem Q6(a0:Int)(h:dr 25 (HS a0) R):an Tryz.prog 183 [.v (.int .u8 a0)] [] R :=
 uQ (af (aw _) aA) (oQ [] Tryz.f183 h)
def Ga:LI:={hd:={bu:=[(17,.k (.int .i64))],refs:=[(4,4),(12,12),(14,14)],co:=[(4,[.lk .str,.lk .sl]),(12,[.lk .str,.lk .sl]),(14,[.lk .str,.lk .sl])],eB:=[(16,1)]},xs:={bu:=[(17,.k (.int .i64))],refs:=[(4,4),(12,12),(14,14)],co:=[(4,[.lk .str,.lk .sl]),(12,[.lk .str,.lk .sl]),(14,[.lk .str,.lk .sl])]},rt:={},ex:=0}
def I7:Code:=cu (cn Tryz.f190) 13
def Ka:List (Nat×LI):=[(13,Ga)]
def K9(a0_0:ByteArray)(a0_1:AV)(a1:ByteArray):Tree :=
 .call 106 [.agg [VS a0_0,a0_1],.sl [[VS a1,.v (.slice none 0 0)]]] [] fun r1 o1=>NA r1<|NG (r1.cs.getD 1 .any) 1 2<|lI ((r1.cs.getD 1 .any).ix (1:Int))<|NG (r1.cs.getD 1 .any) 2 2<|NE ((r1.cs.getD 1 .any).ix (2:Int))<|.call 166 [.agg [VS ((((r1.cs.getD 1 .any).ix (2:Int)).getD 0 .any).ai),(((r1.cs.getD 1 .any).ix (2:Int)).getD 1 .any)],VS a1] [] fun r2 o2=>NT r2<|.al ((r2.comp 0)=.agg (r2.comp 0).cs/\(r2.comp 0).cs.length=2/\bC [.str,.sl] ((r2.comp 0).cs) 0)<|NB (r2.comp 1)<|NG (r1.cs.getD 1 .any) 2 2<|NE ((r1.cs.getD 1 .any).ix (2:Int))<|.call 166 [.agg [VS ((((r1.cs.getD 1 .any).ix (2:Int)).getD 0 .any).ai),(((r1.cs.getD 1 .any).ix (2:Int)).getD 1 .any)],VS ((((r1.cs.getD 1 .any).ix (1:Int)).hA).ai)] [] fun r3 o3=>NT r3<|.al ((r3.comp 0)=.agg (r3.comp 0).cs/\(r3.comp 0).cs.length=2/\bC [.str,.sl] ((r3.comp 0).cs) 0)<|NB (r3.comp 1)<|.test (!((r2.comp 1).toBool)) (.done 0 [.cN [.agg [VS ((r1.cs.getD 0 .any).ai),(r1.cs.getD 1 .any)],VB false]] []) (.test (!((r3.comp 1).toBool)) (.done 0 [.cN [.agg [VS ((r1.cs.getD 0 .any).ai),(r1.cs.getD 1 .any)],VB false]] []) (.call 167 [.agg [VS (((r2.comp 0).cs.getD 0 .any).ai),((r2.comp 0).cs.getD 1 .any)],VS ((((r1.cs.getD 1 .any).ix (1:Int)).hA).ai),.agg [VS ((r1.cs.getD 0 .any).ai),(r1.cs.getD 1 .any)]] [] fun r4 o4=>NT r4<|.al ((r4.comp 0)=.agg (r4.comp 0).cs/\(r4.comp 0).cs.length=2/\bC [.str,.sl] ((r4.comp 0).cs) 0)<|NB (r4.comp 1)<|.call 167 [.agg [VS (((r3.comp 0).cs.getD 0 .any).ai),((r3.comp 0).cs.getD 1 .any)],VS ((((r1.cs.getD 1 .any).ix (1:Int)).hA).ai),.agg [VS ((r1.cs.getD 0 .any).ai),(r1.cs.getD 1 .any)]] [] fun r5 o5=>NT r5<|.al ((r5.comp 0)=.agg (r5.comp 0).cs/\(r5.comp 0).cs.length=2/\bC [.str,.sl] ((r5.comp 0).cs) 0)<|NB (r5.comp 1)<|.test (!((r4.comp 1).toBool)) (.done 0 [.cN [.agg [VS ((r1.cs.getD 0 .any).ai),(r1.cs.getD 1 .any)],VB false]] []) (.test (!((r5.comp 1).toBool)) (.done 0 [.cN [.agg [VS ((r1.cs.getD 0 .any).ai),(r1.cs.getD 1 .any)],VB false]] []) (.call 137 [.agg [VS (((r5.comp 0).cs.getD 0 .any).ai),((r5.comp 0).cs.getD 1 .any)],.sl [],.vec 0] [.vec 1 []] fun r6 o6=>.al (r6=.vec 1/\(o6.tail.hO)=.vec 1 (o6.tail.hO).es)<|.call 137 [.agg [VS (((r4.comp 0).cs.getD 0 .any).ai),((r4.comp 0).cs.getD 1 .any)],.sl [],.vec 0] [.vec 1 ((o6.tail.hO).es)] fun r7 o7=>.al (r7=.vec 1/\(o7.tail.hO)=.vec 1 (o7.tail.hO).es)<|.loop I7 Ga [VI 0] [.cells [VS (mk []),.v (.slice none 0 0)],.cells [VS (((r4.comp 0).cs.getD 0 .any).ai),((r4.comp 0).cs.getD 1 .any)],.cells [VS (((r5.comp 0).cs.getD 0 .any).ai),((r5.comp 0).cs.getD 1 .any)],.vec 1 ((o7.tail.hO).es)] (fun y10 q10=>NI (y10.hA)<|.al ((q10.hO)=.cells (q10.hO).cs)<|.al (ac [.lk .str,.lk .sl] ((q10.hO).cs) 0 q10.tail)<|.al (((q10.tail.drop 0).hO)=.cells ((q10.tail.drop 0).hO).cs)<|.al (ac [.lk .str,.lk .sl] (((q10.tail.drop 0).hO).cs) 0 ((q10.tail.drop 0).tail))<|.al ((((q10.tail.drop 0).tail.drop 0).hO)=.cells (((q10.tail.drop 0).tail.drop 0).hO).cs)<|.al (ac [.lk .str,.lk .sl] ((((q10.tail.drop 0).tail.drop 0).hO).cs) 0 (((q10.tail.drop 0).tail.drop 0).tail))<|.call 142 [VI ((y10.hA).toInt)] [] fun r11 o11=>NS r11<|.al (ag (mk [116])+ag r11.ai<=9223372036854775807)<|.call 98 [VS (mk [42]),.sl [[VS (((q10.tail.tail.hO).cs.getD 0 .any).ai),((q10.tail.tail.hO).cs.getD 1 .any)],[VS (((mk [116]):ByteArray)++r11.ai),.v (.slice none 0 0)]]] [] fun r12 o12=>NA r12<|.call 98 [VS (mk [43]),.sl [[VS (((q10.tail.hO).cs.getD 0 .any).ai),((q10.tail.hO).cs.getD 1 .any)],[VS ((r12.cs.getD 0 .any).ai),(r12.cs.getD 1 .any)]]] [] fun r13 o13=>NA r13<|.call 98 [VS (mk [114,101,99]),.sl [[VS (((mk [116]):ByteArray)++r11.ai),.v (.slice none 0 0)],[VS ((r13.cs.getD 0 .any).ai),(r13.cs.getD 1 .any)]]] [] fun r14 o14=>NA r14<|.call 140 [.agg [VS ((r14.cs.getD 0 .any).ai),(r14.cs.getD 1 .any)]] [] fun r15 o15=>NI r15<|.done 0 [.cN [.agg [VS ((r14.cs.getD 0 .any).ai),(r14.cs.getD 1 .any)],VB (decide (r15.toInt<=(400:Int)))]] []) (fun y10 q10=>.fail)))))
theorem Qj(a0_0:ByteArray)(a0_1:AV)(a1:ByteArray)(ha0_1:LK.has .sl a0_1)(h:dr 108 (K9 a0_0 a0_1 a1) R):an Tryz.prog 190 [.agg [VS a0_0,a0_1],VS a1] [] R :=
 uQ (af (bX (af (aw _) (af (bZ ha0_1) aA))) (af (aw _) aA)) (oQ Ka Tryz.f190 h)
def Lc(x17:Int)(o4_0:ByteArray)(o4_1:AV)(o12_0:ByteArray)(o12_1:AV)(o14_0:ByteArray)(o14_1:AV)(e16:List (List AV)):Tree :=
 NI (VI x17)<|.al (Ob.cells [VS o4_0,o4_1]=.cells [VS o4_0,o4_1])<|.al (ac [.lk .str,.lk .sl] [VS o4_0,o4_1] 0 [.cells [VS o12_0,o12_1],.cells [VS o14_0,o14_1],.vec 1 e16])<|.al (Ob.cells [VS o12_0,o12_1]=.cells [VS o12_0,o12_1])<|.al (ac [.lk .str,.lk .sl] [VS o12_0,o12_1] 0 [.cells [VS o14_0,o14_1],.vec 1 e16])<|.al (Ob.cells [VS o14_0,o14_1]=.cells [VS o14_0,o14_1])<|.al (ac [.lk .str,.lk .sl] [VS o14_0,o14_1] 0 [.vec 1 e16])<|.al (Ob.vec 1 e16=.vec 1 e16)<|.call 142 [VI x17] [] fun r1 o1=>NS r1<|.al (ag (mk [116])+ag r1.ai<=9223372036854775807)<|.call 169 [.sl e16,VS (((mk [116]):ByteArray)++r1.ai)] [] fun r2 o2=>NB r2<|.test r2.toBool (.done 0 [VI (IntKind.wrap .i64 (x17+1))] [.cells [VS o4_0,o4_1],.cells [VS o12_0,o12_1],.cells [VS o14_0,o14_1],.vec 1 e16]) (.done 1 [VI x17] [.cells [VS o4_0,o4_1],.cells [VS o12_0,o12_1],.cells [VS o14_0,o14_1]])
abbrev Gl:=cq Tryz.prog 108 I7 Ga
theorem RG(x17:Int)(o4_0:ByteArray)(o4_1:AV)(o12_0:ByteArray)(o12_1:AV)(o14_0:ByteArray)(o14_1:AV)(e16:List (List AV))(h:jk 108 (Lc x17 o4_0 o4_1 o12_0 o12_1 o14_0 o14_1 e16) Gl U):Gl [VI x17] [.cells [VS o4_0,o4_1],.cells [VS o12_0,o12_1],.cells [VS o14_0,o14_1],.vec 1 e16] U :=
 gQ Ka h
def AP(a0_0:ByteArray)(a0_1:AV)(a1:ByteArray):Tree :=
 .test (!(ae a0_0==ae (mk []))) (.test (ae a0_0==ae a1) (.done 0 [VI 1] []) (.done 0 [VI 0] [])) (.call 121 [.agg [VS a0_0,a0_1]] [] fun r1 o1=>NS r1<|.test (ae r1.ai==ae (mk [114,101,99])) (NG a0_1 1 2<|lI (a0_1.ix (1:Int))<|.test (ae (((a0_1.ix (1:Int)).hA).ai)==ae a1) (.done 0 [VI 0] []) (NG a0_1 2 2<|NE (a0_1.ix (2:Int))<|.call 191 [.agg [VS (((a0_1.ix (2:Int)).getD 0 .any).ai),((a0_1.ix (2:Int)).getD 1 .any)],VS a1] [] fun r2 o2=>NI r2<|.done 0 [VI r2.toInt] [])) (NG a0_1 1 2<|NE (a0_1.ix (1:Int))<|.call 191 [.agg [VS (((a0_1.ix (1:Int)).getD 0 .any).ai),((a0_1.ix (1:Int)).getD 1 .any)],VS a1] [] fun r3 o3=>NI r3<|NG a0_1 2 2<|NE (a0_1.ix (2:Int))<|.call 191 [.agg [VS (((a0_1.ix (2:Int)).getD 0 .any).ai),((a0_1.ix (2:Int)).getD 1 .any)],VS a1] [] fun r4 o4=>NI r4<|.done 0 [VI (IntKind.wrap .i64 (r3.toInt+r4.toInt))] []))
theorem CB(a0_0:ByteArray)(a0_1:AV)(a1:ByteArray)(ha0_1:LK.has .sl a0_1)(h:dr 41 (AP a0_0 a0_1 a1) R):an Tryz.prog 191 [.agg [VS a0_0,a0_1],VS a1] [] R :=
 uQ (af (bX (af (aw _) (af (bZ ha0_1) aA))) (af (aw _) aA)) (oQ [] Tryz.f191 h)
def AB(a0_0:ByteArray)(a0_1:AV)(a1:ByteArray)(a2_0:ByteArray)(a2_1:AV):Tree :=
 .test (!(ae a0_0==ae (mk []))) (.test (ae a0_0==ae a1) (.done 0 [.agg [VS a2_0,a2_1]] []) (.done 0 [.agg [VS a0_0,a0_1]] [])) (.call 121 [.agg [VS a0_0,a0_1]] [] fun r1 o1=>NS r1<|.test (ae r1.ai==ae (mk [114,101,99])) (NG a0_1 1 2<|lI (a0_1.ix (1:Int))<|.test (ae (((a0_1.ix (1:Int)).hA).ai)==ae a1) (.done 0 [.agg [VS a0_0,a0_1]] []) (NG a0_1 1 2<|NE (a0_1.ix (1:Int))<|NG a0_1 2 2<|NE (a0_1.ix (2:Int))<|.call 192 [.agg [VS (((a0_1.ix (2:Int)).getD 0 .any).ai),((a0_1.ix (2:Int)).getD 1 .any)],VS a1,.agg [VS a2_0,a2_1]] [] fun r2 o2=>NA r2<|.call 98 [VS (mk [114,101,99]),.sl [[VS (((a0_1.ix (1:Int)).getD 0 .any).ai),((a0_1.ix (1:Int)).getD 1 .any)],[VS ((r2.cs.getD 0 .any).ai),(r2.cs.getD 1 .any)]]] [] fun r3 o3=>NA r3<|.done 0 [.agg [VS ((r3.cs.getD 0 .any).ai),(r3.cs.getD 1 .any)]] [])) (.call 121 [.agg [VS a0_0,a0_1]] [] fun r4 o4=>NS r4<|NG a0_1 1 2<|NE (a0_1.ix (1:Int))<|.call 192 [.agg [VS (((a0_1.ix (1:Int)).getD 0 .any).ai),((a0_1.ix (1:Int)).getD 1 .any)],VS a1,.agg [VS a2_0,a2_1]] [] fun r5 o5=>NA r5<|NG a0_1 2 2<|NE (a0_1.ix (2:Int))<|.call 192 [.agg [VS (((a0_1.ix (2:Int)).getD 0 .any).ai),((a0_1.ix (2:Int)).getD 1 .any)],VS a1,.agg [VS a2_0,a2_1]] [] fun r6 o6=>NA r6<|.call 98 [VS r4.ai,.sl [[VS ((r5.cs.getD 0 .any).ai),(r5.cs.getD 1 .any)],[VS ((r6.cs.getD 0 .any).ai),(r6.cs.getD 1 .any)]]] [] fun r7 o7=>NA r7<|.done 0 [.agg [VS ((r7.cs.getD 0 .any).ai),(r7.cs.getD 1 .any)]] []))
theorem BY(a0_0:ByteArray)(a0_1:AV)(a1:ByteArray)(a2_0:ByteArray)(a2_1:AV)(ha0_1:LK.has .sl a0_1)(ha2_1:LK.has .sl a2_1)(h:dr 58 (AB a0_0 a0_1 a1 a2_0 a2_1) R):an Tryz.prog 192 [.agg [VS a0_0,a0_1],VS a1,.agg [VS a2_0,a2_1]] [] R :=
 uQ (af (bX (af (aw _) (af (bZ ha0_1) aA))) (af (aw _) (af (bX (af (aw _) (af (bZ ha2_1) aA))) aA))) (oQ [] Tryz.f192 h)
def Gh:LI:={hd:={bu:=[(0,.k .sl),(1,.k .str),(7,.k (.int .i64)),(8,.k (.int .i64))]},xs:={},rt:={bu:=[(4,.k (.int .i64))]},ex:=0}
def M6:Code:=cu (cn Tryz.f194) 2
def KQ:List (Nat×LI):=[(2,Gh)]
def JO(a0:AV)(a1:ByteArray):Tree :=
 NL a0<|.loop M6 Gh [a0,VS a1,VI (a0.aQ.length:Int),VI 0] [] (fun y1 q1=>.done 0 [VI (-1)] []) (fun y1 q1=>NI (y1.hA)<|.done 0 [VI ((y1.hA).toInt)] [])
theorem Q9(a0:AV)(a1:ByteArray)(ha0:LK.has .sl a0)(h:dr 19 (JO a0 a1) R):an Tryz.prog 194 [a0,VS a1] [] R :=
 uQ (af (bZ ha0) (af (aw _) aA)) (oQ KQ Tryz.f194 h)
def E9(x0:AV)(x1:ByteArray)(x7:Int)(x8:Int):Tree :=
 NL x0<|NS (VS x1)<|NI (VI x7)<|NI (VI x8)<|.test (decide (x8<x7)) (NG x0 x8 1<|lI (x0.ix x8)<|.test (ae x1==ae (((x0.ix x8).hA).ai)) (.done 2 [VI x8] []) (.done 0 [x0,VS x1,VI x7,VI (IntKind.wrap .i64 (x8+1))] [])) (.done 1 [] [])
abbrev F9:=cq Tryz.prog 19 M6 Gh
theorem Nq(x0:AV)(x1:ByteArray)(x7:Int)(x8:Int)(h:jk 19 (E9 x0 x1 x7 x8) F9 U):F9 [x0,VS x1,VI x7,VI x8] [] U :=
 gQ KQ h
end
end Go.Proofs.Trees
namespace Go.Proofs.Trees
open Go Go.VL
theorem a7(i:Nat)(h:i<1000000000000):IntKind.wrap .i64 ((i:Int)+1)=((i+1:Nat):Int):=by rw[wrap64]<;>omega
inductive E where
 |atom (s:List UInt8)
 |list (l:List E)
mutual
def E.cB:E->AV
 | .atom s=>.ptr [.v (.string (mk s)),.v (.slice none 0 0)]
 | .list l=>.ptr [.v (.string (mk [])),.sl (E.lX l)]
def E.lX:List E->List (List AV)
 |[]=>[]
 |e::l=>[e.cB]::E.lX l
end
mutual
def E.im:E->List AV
 | .atom s=>[.v (.string (mk s)),.v (.slice none 0 0)]
 | .list l=>[.v (.string (mk [])),.sl (E.bj l)]
def E.bj:List E->List (List AV)
 |[]=>[]
 |e::l=>e.im::E.bj l
end
def E.ko(e:E):AV:=.agg e.im
theorem uL(l r:List E):E.lX (l++r)=E.lX l++E.lX r:=by
 induction l with
 |nil=>rfl
 |cons e l ih=>simp[E.lX,ih]
theorem pL(l r:List E):E.bj (l++r)=E.bj l++E.bj r:=by
 induction l with
 |nil=>rfl
 |cons e l ih=>simp[E.bj,ih]
theorem qM(l:List E):(E.lX l).length=l.length:=by
 induction l with
 |nil=>rfl
 |cons e l ih=>simp[E.lX,ih]
theorem dW(l:List E):(E.bj l).length=l.length:=by
 induction l with
 |nil=>rfl
 |cons e l ih=>simp[E.bj,ih]
def eS(b:UInt8):Bool:=decide ((97<=b.toNat/\b.toNat<=122)\/(48<=b.toNat/\b.toNat<=57)\/b.toNat=43\/b.toNat=42)
def rL(f:List UInt8->Option (E×List UInt8)):Nat->List UInt8->List E->Option (E×List UInt8)
 |0,_,_=>none
 |
  n+1,s,acc=>match f s with
  |some (p,c::r)=>if c.toNat=41 then some (.list (acc++[p]),r)else if c.toNat=32 then rL f n r (acc++[p])else none
  |_=>none
def rd:Nat->List UInt8->Option (E×List UInt8)
 |0,s=>if s.takeWhile eS=[]then none else some (.atom (s.takeWhile eS),s.dropWhile eS)
 |k+1,s=>if s.takeWhile eS=[]then(match s with
  |c::r=>if c.toNat=40 then rL (rd k) (r.length+1) r []else none
  |[]=>none)else some (.atom (s.takeWhile eS),s.dropWhile eS)
theorem zJ{f:List UInt8->Option (E×List UInt8)}(hf:∀s e r,f s=some (e,r)->r.length<s.length):∀(n:Nat) (s:List UInt8) (acc:List E) (e:E) (r:List UInt8),rL f n s acc=some (e,r)->r.length<s.length
 |0,s,acc,e,r,h=>by cases h
 |
  n+1,s,acc,e,r,h=>by
  simp only[rL]at h
  split at h
  ·rename_i p c r' hs
   have:=hf _ _ _ hs
   simp only[aB]at this
   split at h
   ·cases h;omega
   ·split at h
    ·have:=zJ hf n _ _ _ _ h;omega
    ·cases h
  ·cases h
theorem oJ{s:List UInt8}(h:¬s.takeWhile eS=[]):(s.dropWhile eS).length<s.length:=by
 have h1:=congrArg List.length (cb (p:=eS) (l:=s))
 simp only[ax]at h1
 have:0<(s.takeWhile eS).length:=List.length_pos_iff.2 h
 omega
theorem w4:∀(k:Nat) (s:List UInt8) (e:E) (r:List UInt8),rd k s=some (e,r)->r.length<s.length
 |
  0,s,e,r,h=>by
  simp only[rd]at h
  split at h
  ·cases h
  ·rename_i hn;cases h;exact oJ hn
 |
  k+1,s,e,r,h=>by
  simp only[rd]at h
  split at h
  ·split at h
   ·split at h
    ·have:=zJ (w4 k) _ _ _ _ _ h
     simp only[aB];omega
    ·cases h
   ·cases h
  ·rename_i hn;cases h;exact oJ hn
theorem OZ(b:UInt8):an Tryz.prog 183 [.v (.int .u8 (b.toNat:Int))] [] (bA (.v (.bool (eS b)))):=by
 refine Q6 _ ?_
 simp only[HS,↓zq,zs,ac,bA,eS]
 repeat' (apply aE<;>intro _)
 all_goals first|(congr 2;rw[cz];simp;omega)|(congr 2;simp;omega)
theorem xS{s:List UInt8}{i:Nat}(hi:i<s.length)(hb:eS (s.getD i 0)=true):((s.drop i).takeWhile eS).length=((s.drop (i+1)).takeWhile eS).length+1:=by
 have e:s.drop i=s.getD i 0::s.drop (i+1):=by
  rw[aN hi];simp[aa,hi]
 rw[e,List.takeWhile_cons_of_pos hb];simp
theorem qm{s:List UInt8}{i:Nat}(hi:i<s.length)(hb:eS (s.getD i 0)=false):(s.drop i).takeWhile eS=[]:=by
 have e:s.drop i=s.getD i 0::s.drop (i+1):=by
  rw[aN hi];simp[aa,hi]
 rw[e,List.takeWhile_cons_of_neg (by rw[hb];simp)]
theorem GM(s:List UInt8)(hs:s.length<=8000)(d:Int):∀(k i:Nat),i+k=s.length->FZ [.v (.string (mk s)),.v (.int .i64 d),.v (.int .i64 (i:Int))] [] (fX 1 [.v (.string (mk s)),.v (.int .i64 d),.v (.int .i64 ((i+((s.drop i).takeWhile eS).length:Nat):Int))] [])
 |
  0,i,hi=>by
  refine J9 _ _ _ ?_
  have hd:s.drop i=[]:=bN (by omega)
  simp only[D2,↓zq,zs,ac,zt]
  exact⟨fun h=>by omega,fun _=>by simp[fX,hd]⟩
 |
  k+1,i,hi=>by
  have hlt:i<s.length:=by omega
  refine J9 _ _ _ ?_
  simp only[D2,↓zq,zs,ac,zt,lR s i hlt]
  refine⟨fun _=>⟨by omega,?_⟩,fun h=>by omega⟩
  refine ah (OZ _) ?_
  simp only[↓zq,zs,ac]
  refine⟨fun hb=>?_,fun hb=>?_⟩
  ·rw[a7 i (by omega)]
   have:=GM s hs d k (i+1) (by omega)
   rw[xS hlt hb,show i+(((s.drop (i+1)).takeWhile eS).length+1)=i+1+((s.drop (i+1)).takeWhile eS).length by omega]
   exact this
  ·simp[fX,qm hlt hb]
def nP(s:List UInt8):Option (E×List UInt8)->AV
 |some (e,r)=>.cN [e.cB,.v (.string (mk r))]
 |none=>.cN [.v (.pointer none),.v (.string (mk s))]
theorem cS(e:E):LK.has .ptr e.cB=True:=by cases e<;>simp[E.cB,bY]
theorem eh(e:E):e.cB.isNil=false:=by cases e<;>rfl
theorem tT(s:List UInt8):s.take (s.takeWhile eS).length=s.takeWhile eS:=by
 have h:=cb (p:=eS) (l:=s)
 have:(s.takeWhile eS++s.dropWhile eS).take (s.takeWhile eS).length=s.takeWhile eS:=List.take_left
 rw[h]at this;exact this
theorem wZ(s:List UInt8):s.drop (s.takeWhile eS).length=s.dropWhile eS:=by
 have h:=cb (p:=eS) (l:=s)
 have:(s.takeWhile eS++s.dropWhile eS).drop (s.takeWhile eS).length=s.dropWhile eS:=List.drop_left
 rw[h]at this;exact this
theorem zL(c:UInt8)(r:List UInt8):(List.take (r.length+1) (c::r)).drop (bE 1)=r:=by simp
theorem HW(s0:List UInt8)(k:Nat)(hk:k<300)(ih:∀s,s.length<=8000->an Tryz.prog 160 [.v (.string (mk s)),.v (.int .i64 ((300-k:Nat):Int))] [] (bA (nP s (rd k s)))) :
 ∀(n:Nat) (s:List UInt8) (acc:List E),s.length<n->s.length+acc.length<=8000->Hw [.v (.string (mk s0)),.v (.int .i64 ((300-(k+1):Nat):Int)),.v (.string (mk s))] [.cells [.v (.string (mk [])),.any],.vec 1 (E.lX acc)]
  (nr (match rL (rd k) n s acc with|some (e,r)=>(2,[e.cB,.v (.string (mk r))],[])|none=>(2,[.v (.pointer none),.v (.string (mk s0))],[])))
 |0,s,acc,hn,_=>by omega
 |
  n+1,s,acc,hn,hl=>by
  refine Qd _ _ _ _ _ ?_
  simp only[NJ,↓zq,zs,ac,z6]
  have hd:IntKind.wrap .i64 (((300-(k+1):Nat):Int)+1)=((300-k:Nat):Int):=by rw[wrap64]<;>omega
  rw[hd]
  refine ah (ih s (by omega)) ?_
  have hlt:=w4 k s
  cases hr:rd k s with
  |
   none =>
   simp only[nP,↓zq,zs,ac,rL,hr]
   simp[nr]
  |
   some q =>
   obtain⟨e,r⟩:=q
   have:=hlt e r hr
   cases r with
   |
    nil =>
    simp only[nP,↓zq,zs,ac,zt,rL,hr,cS,eh]
    simp[nr]
   |
    cons c r =>
    simp only[aB]at this
    have hb:=lR (c::r) 0 (by simp)
    simp only[cQ,dh]at hb
    have e2:(List.take (c::r).length (c::r)).drop 1=r:=by simp
    simp only[nP,↓zq,zs,ac,zt,rL,hr,cS,eh,hb,e2,qM]
    refine⟨fun h=>(by cases h),fun _=>⟨fun h=>(by cases h),fun _=>⟨⟨fun c hc=>(by simp at hc;rw[hc];rfl),by omega⟩,by omega,by omega,fun h41=>?_,fun h41=>⟨by omega,fun h32=>?_,fun h32=>?_⟩⟩⟩⟩
    ·have h41':c.toNat=41:=by omega
     rw[zL,if_pos h41']
     simp[nr,E.cB,uL,E.lX]
    ·have h41':¬c.toNat=41:=by omega
     have h32':¬c.toNat=32:=by omega
     rw[if_neg h41',if_neg h32']
    ·have h41':¬c.toNat=41:=by omega
     have h32':c.toNat=32:=by omega
     rw[zL,if_neg h41',if_pos h32']
     have:=HW s0 k hk ih n r (acc++[e]) (by omega) (by simp;omega)
     simpa[uL,E.lX]using this
theorem OH:∀(k:Nat),k<=300->∀s:List UInt8,s.length<=8000->an Tryz.prog 160 [.v (.string (mk s)),.v (.int .i64 ((300-k:Nat):Int))] [] (bA (nP s (rd k s))):=by
 intro k
 induction k with
 |
  zero =>
  intro hk s hs
  refine Jj _ _ ?_
  unfold Ht
  refine cf (GM s hs _ s.length 0 (by omega)) ?_
  simp only[↓zq,zs,ac,zt,aT,bA]
  have hw:(s.takeWhile eS).length<=s.length:=by
   have:=congrArg List.length (cb (p:=eS) (l:=s))
   simp only[ax]at this;omega
  refine⟨fun h=>⟨by omega,by omega,?_⟩,fun h=>?_⟩
  ·have hne:¬s.takeWhile eS=[]:=fun e=>by rw[e]at h;simp at h
   simp only[rd,if_neg hne,nP,E.cB,tT,wZ]
  ·have hnil:s.takeWhile eS=[]:=bT (by omega)
   simp only[rd,if_pos hnil,nP]
   refine⟨fun _=>trivial,fun hne=>⟨?_,?_⟩⟩
   ·cases s with
    |nil=>exact absurd rfl hne
    |cons c s=>simp
   ·exact⟨fun _=>trivial,fun _=>⟨fun _=>trivial,fun h=>absurd rfl h⟩⟩
 |
  succ k ih =>
  intro hk s hs
  refine Jj _ _ ?_
  unfold Ht
  refine cf (GM s hs _ s.length 0 (by omega)) ?_
  simp only[↓zq,zs,ac,zt,aT,bA]
  have hw:(s.takeWhile eS).length<=s.length:=by
   have:=congrArg List.length (cb (p:=eS) (l:=s))
   simp only[ax]at this;omega
  refine⟨fun h=>⟨by omega,by omega,?_⟩,fun h=>?_⟩
  ·have hne:¬s.takeWhile eS=[]:=fun e=>by rw[e]at h;simp at h
   simp only[rd,if_neg hne,nP,E.cB,tT,wZ]
  ·have hnil:s.takeWhile eS=[]:=bT (by omega)
   simp only[rd,if_pos hnil]
   cases s with
   |nil=>simp[nP]
   |
    cons c s =>
    have hb:=lR (c::s) 0 (by simp)
    simp only[cQ,dh]at hb
    simp only[aB]at hs
    simp only[↓zq,zs,ac,hb,zL]
    refine⟨fun h=>(by cases h),fun _=>⟨by omega,fun h40=>?_,fun h40=>⟨fun h300=>?_,fun h300=>⟨by omega,?_⟩⟩⟩⟩
    ·have:¬c.toNat=40:=by omega
     rw[if_neg this];rfl
    ·omega
    ·have h40':c.toNat=40:=by omega
     rw[if_pos h40']
     refine eX (HW (c::s) k (by omega) (ih (by omega)) (s.length+1) s [] (by omega) (by simp;omega)) (fun ys o e=>?_) (fun ys o e=>?_)
     ·split at e<;>cases e
     ·split at e<;>cases e
      ·rename_i e' r' hr
       simp only[↓zq,zs,ac,cS]
       simp only[hr,nP]
      ·rename_i hr
       simp only[↓zq,zs,ac]
       simp only[hr,nP]
end Go.Proofs.Trees
namespace Go.Proofs.Trees
open Go Go.VL
mutual
def E.sz:E->Nat
 | .atom _=>1
 | .list l=>1+E.jP l
def E.jP:List E->Nat
 |[]=>0
 |e::l=>e.sz+E.jP l
end
mutual
def E.ok:E->Prop
 | .atom s=>s≠[]
 | .list l=>E.Cz l
def E.Cz:List E->Prop
 |[]=>True
 |e::l=>e.ok/\E.Cz l
end
theorem xr(l r:List E):E.jP (l++r)=E.jP l+E.jP r:=by
 induction l with
 |nil=>simp[E.jP]
 |cons e l ih=>simp[E.jP,ih];omega
theorem xZ(l r:List E):E.Cz (l++r)↔E.Cz l/\E.Cz r:=by
 induction l with
 |nil=>simp[E.Cz]
 |cons e l ih=>simp[E.Cz,ih,and_assoc]
theorem A1{f:List UInt8->Option (E×List UInt8)}(hf:∀s e r,f s=some (e,r)->e.ok/\e.sz+r.length<=s.length):∀(n:Nat) (s:List UInt8) (acc:List E) (e:E) (r:List UInt8),rL f n s acc=some (e,r)->E.Cz acc->e.ok/\e.sz+r.length<=s.length+1+E.jP acc
 |0,s,acc,e,r,h,_=>by cases h
 |
  n+1,s,acc,e,r,h,ha=>by
  simp only[rL]at h
  split at h
  ·rename_i p c r' hs
   obtain⟨h1,h2⟩:=hf _ _ _ hs
   simp only[aB]at h2
   split at h
   ·cases h
    refine⟨(xZ _ _).2 ⟨ha,h1,trivial⟩,?_⟩
    simp only[E.sz,xr,E.jP];omega
   ·split at h
    ·have:=A1 hf n _ _ _ _ h ((xZ _ _).2 ⟨ha,h1,trivial⟩)
     refine⟨this.1,?_⟩
     have h3:=this.2
     simp only[xr,E.jP]at h3;omega
    ·cases h
  ·cases h
theorem tu(s:List UInt8):(s.takeWhile eS).length+(s.dropWhile eS).length=s.length:=by
 have:=congrArg List.length (cb (p:=eS) (l:=s))
 simpa only[ax]using this
theorem Dt:∀(k:Nat) (s:List UInt8) (e:E) (r:List UInt8),rd k s=some (e,r)->e.ok/\e.sz+r.length<=s.length
 |
  0,s,e,r,h=>by
  simp only[rd]at h
  split at h
  ·cases h
  ·rename_i hn;cases h
   have:=tu s
   have:0<(s.takeWhile eS).length:=List.length_pos_iff.2 hn
   exact⟨hn,by simp only[E.sz];omega⟩
 |
  k+1,s,e,r,h=>by
  simp only[rd]at h
  split at h
  ·split at h
   ·split at h
    ·have:=A1 (Dt k) _ _ _ _ _ h trivial
     refine⟨this.1,?_⟩
     have h3:=this.2
     simp only[E.jP,aB]at h3 |-;omega
    ·cases h
   ·cases h
  ·rename_i hn;cases h
   have:=tu s
   have:0<(s.takeWhile eS).length:=List.length_pos_iff.2 hn
   exact⟨hn,by simp only[E.sz];omega⟩
def p8(s:List UInt8):Option E:=if s.length>8000 then none else match rd 300 s with|some (e,[])=>some e|_=>none
theorem ny{s:List UInt8}{e:E}(h:p8 s=some e):e.ok/\e.sz<=8000:=by
 unfold p8 at h
 split at h
 ·cases h
 ·split at h
  ·rename_i e' hr
   cases h
   have:=Dt _ _ _ _ hr
   exact⟨this.1,by have:=this.2;simp at this;omega⟩
  ·cases h
def tf:Option E->AV
 |some e=>e.cB
 |none=>.v (.pointer none)
theorem Nx(s:List UInt8):an Tryz.prog 128 [.v (.string (mk s))] [] (bA (tf (p8 s))):=by
 refine Qs _ ?_
 simp only[KM,↓zq,zs,ac,zt,bA,p8]
 refine⟨fun h=>?_,fun h=>?_⟩
 ·rw[if_pos (by omega)];simp[tf]
 ·rw[if_neg (by omega)]
  refine ah (OH 300 (by omega) s (by omega)) ?_
  cases hr:rd 300 s with
  |
   none =>
   simp only[nP,↓zq,zs,ac,zt,tf]
   refine⟨fun _=>trivial,fun _=>trivial⟩
  |
   some q =>
   obtain⟨e,r⟩:=q
   cases r with
   |nil=>simp only[nP,↓zq,zs,ac,zt,tf,cS];simp
   |cons c r=>simp only[nP,↓zq,zs,ac,zt,tf,cS];simp
def gY(b:UInt8):Bool:=decide (48<=b.toNat/\b.toNat<=57)
def named(lo hi:Nat):List UInt8->Bool
 |[]=>false
 |c::r=>decide (r.length<=2)&&decide (lo<=c.toNat/\c.toNat<=hi)&&r.all gY
def gJ(s:List UInt8):Bool:=named 120 122 s
def dc(s:List UInt8):Bool:=named 116 116 s
def Ds(v lo hi:Int):Bool:=decide (lo<=v/\v<=hi)
theorem C7(v lo hi:Int):an Tryz.prog 56 [.v (.int .i64 v),.v (.int .i64 lo),.v (.int .i64 hi)] [] (bA (.v (.bool (Ds v lo hi)))):=by
 refine OK _ _ _ ?_
 simp only[KL,↓zq,zs,ac,bA,Ds]
 constructor<;>intro h<;>simp at h<;>simp[h]
 omega
theorem J1(s:List UInt8)(hs:s.length<=3):∀(k i:Nat),i+k=s.length->ES [.v (.string (mk s)),.v (.int .i64 (i:Int))] [] (nr (if(s.drop i).all gY=true then(1,[],[])else(2,[.v (.bool false)],[])))
 |
  0,i,hi=>by
  have hd:s.drop i=[]:=bN (by omega)
  refine Ko _ _ ?_
  simp only[En,↓zq,zs,ac,zt]
  exact⟨fun h=>by omega,fun _=>by simp[nr,hd]⟩
 |
  k+1,i,hi=>by
  have hlt:i<s.length:=by omega
  have e:s.drop i=s.getD i 0::s.drop (i+1):=by
   rw[aN hlt];simp[aa,hlt]
  refine Ko _ _ ?_
  simp only[En,↓zq,zs,ac,zt,lR s i hlt,e,cY]
  generalize hb:s.getD i 0=b
  refine⟨fun _=>⟨by omega,fun h=>?_,fun h=>⟨by omega,fun h2=>?_,fun h2=>?_⟩⟩,fun h=>by omega⟩
  ·have:gY b=false:=by simp[gY];omega
   simp only[this,zf,nr]
  ·have:gY b=false:=by simp[gY];omega
   simp only[this,zf,nr]
  ·have:gY b=true:=by simp[gY];omega
   rw[a7 i (by omega),this,bQ]
   exact J1 s hs k (i+1) (by omega)
theorem Li(s:List UInt8)(lo hi:Nat):an Tryz.prog 170 [.v (.string (mk s)),.v (.int .u8 (lo:Int)),.v (.int .u8 (hi:Int))] [] (bA (.v (.bool (named lo hi s)))):=by
 refine Q0 _ _ _ ?_
 unfold Ib
 rw[cy]
 refine ah (C7 _ _ _) ?_
 simp only[↓zq,zs,ac,zt,bA]
 refine⟨fun h=>?_,fun h=>?_⟩
 ·cases s with
  |nil=>rfl
  |
   cons c s =>
   simp[Ds]at h
   have:¬s.length<=2:=by omega
   simp[named,this]
 ·cases s with
  |nil=>simp[Ds]at h
  |
   cons c s =>
   simp[Ds]at h
   have hl:s.length<=2:=by omega
   have hb:=lR (c::s) 0 (by simp)
   simp only[cQ,dh]at hb
   simp only[↓zq,zs,ac,hb]
   refine⟨by omega,fun h1=>?_,fun h1=>⟨by omega,fun h2=>?_,fun h2=>?_⟩⟩
   ·have:¬lo<=c.toNat:=by omega
    simp[named,this]
   ·have:¬c.toNat<=hi:=by omega
    simp[named,this]
   ·refine eX (J1 (c::s) (by simp;omega) s.length 1 (by simp;omega)) (fun ys o e=>?_) (fun ys o e=>?_)
    ·split at e<;>cases e
     rename_i ha
     simp at ha
     simp only[↓zq,zs,ac]
     simp[named,hl]
     exact⟨⟨by omega,by omega⟩,fun x hx=>by simpa using ha x hx⟩
    ·split at e<;>cases e
     rename_i ha
     simp only[↓zq,zs,ac]
     have:s.all gY=false:=by simpa using ha
     simp[named,this]
theorem FA(s:List UInt8):an Tryz.prog 155 [.v (.string (mk s))] [] (bA (.v (.bool (gJ s)))):=by
 refine OE _ ?_
 unfold LG
 refine ah (Li s 120 122) ?_
 simp only[↓zq,zs,ac,bA,gJ]
theorem FL(s:List UInt8):an Tryz.prog 138 [.v (.string (mk s))] [] (bA (.v (.bool (dc s)))):=by
 refine Q1 _ ?_
 unfold Kg
 refine ah (Li s 116 116) ?_
 simp only[↓zq,zs,ac,bA,dc]
end Go.Proofs.Trees
namespace Go.Proofs.Trees
open Go Go.VL Go.RowKit
theorem QJ(l:List UInt8)(c:UInt8):an Tryz.prog 195 [.v (.string (mk l)),.v (.string (mk [c]))] [] (bA (.v (.bool (decide (0<=Lib.indexByte l c))))):=by
 refine an.RI (xs:=[.string (mk l),.string (mk [c])]) ⟨mW,by kernel_rfl,by kernel_rfl,by kernel_rfl⟩ fun w=>?_
 have:=Any.strings_Contains_one Tryz.B2 (mk l) c w
 refine Calls.mono this fun e w' ⟨h1,h2⟩=>?_
 rw[h2]
 have hd:(mk l).data.toList=l:=by simp[mk]
 exact⟨by rw[h1,hd],Below.refl _ _⟩
theorem KK(l cs:List UInt8)(hl:l.length<=1000000)(hc:cs.length<=1000)(ha:∀b,b∈cs->b.toNat<128):an Tryz.prog 184 [.v (.string (mk l)),.v (.string (mk cs))] [] (bA (.v (.string (mk (Lib.trimS l cs))))):=by
 refine an.RI (xs:=[.string (mk l),.string (mk cs)]) ⟨pY,by kernel_rfl,by kernel_rfl,by kernel_rfl⟩ fun w=>?_
 have:=Any.strings_Trim_laid Tryz.B4 (by kernel_rfl) (mk l) (mk cs) w (by rw[cy];omega) (by rw[cy];omega) (fun j b hj=>ha b (by
  have:(mk cs).data.toList=cs:=by simp[mk]
  rw[this]at hj
  exact List.mem_of_getElem? hj))
 refine Calls.mono this fun e w' ⟨h1,h2⟩=>⟨?_,h2⟩
 rw[h1]
 simp[mk]
theorem ng:∀(l:List UInt8) (c:UInt8),(0<=Lib.indexByte l c↔c∈l)/\-1<=Lib.indexByte l c
 |[],c=>by simp[Lib.indexByte]
 |
  b::l,c=>by
  obtain⟨h1,h2⟩:=ng l c
  unfold Lib.indexByte
  by_cases e:b=c
  ·subst e;simp
  ·have e':(b==c)=false:=by simp[e]
   rw[e']
   by_cases q:Lib.indexByte l c = -1
   ·have:c∉l:=fun h=>by have:=h1.2 h;omega
    simp[q,this,Ne.symm e]
   ·have q':(Lib.indexByte l c==-1)=false:=by simp[q]
    simp only[q',Bool.false_eq_true,if_false,aF]
    constructor
    ·constructor
     ·intro h;exact .inr (h1.1 (by omega))
     ·intro h
      rcases h with h|h
      ·exact absurd h.symm e
      ·have:=h1.2 h;omega
    ·omega
theorem dropWhile_nil{p:UInt8->Bool}:∀(l:List UInt8),l.dropWhile p=[]↔l.all p=true
 |[]=>by simp
 |
  b::l=>by
  cases h:p b with
  |true=>rw[List.dropWhile_cons_of_pos h,dropWhile_nil l];simp[h]
  |false=>rw[List.dropWhile_cons_of_neg (by rw[h];simp)];simp[h]
theorem sR(l cs:List UInt8):Lib.trimS l cs=[]↔l.all (cs.contains ·)=true:=by
 unfold Lib.trimS Lib.trimLeftS
 rw[dropWhile_nil]
 unfold Lib.trimRightS
 constructor
 ·intro h
  by_cases hn:l.reverse.dropWhile (cs.contains ·)=[]
  ·rw[dropWhile_nil]at hn
   simpa using hn
  ·exfalso
   rw[List.all_reverse]at h
   obtain⟨b,r,e⟩:=List.exists_cons_of_ne_nil hn
   have h1:cs.contains b=false:=by
    have:=List.head_dropWhile_not (p:=(cs.contains ·)) (l:=l.reverse) hn
    simp only[e,List.head_cons]at this
    exact this
   rw[e]at h
   simp only[cY,ap]at h
   rw[h1]at h;cases h.1
 ·intro h
  have:l.reverse.dropWhile (cs.contains ·)=[]:=by rw[dropWhile_nil];simpa using h
  rw[this];rfl
def Hk:List UInt8:=[48,49,50,51,52,53,54,55,56,57]
theorem uN(b:UInt8):Hk.contains b=gY b:=by
 have:∀n:Fin 256,Hk.contains (ba n.val)=gY (ba n.val):=by decide +kernel
 have:=this ⟨b.toNat,b.toNat_lt⟩
 simpa using this
theorem LD(s ls:List UInt8)(lo hi:Nat)(hls:∀c:UInt8,c∈ls↔lo<=c.toNat/\c.toNat<=hi):an Tryz.prog 182 [.v (.string (mk s)),.v (.string (mk ls))] [] (bA (.v (.bool (named lo hi s)))):=by
 refine Ro _ _ ?_
 simp only[LL,↓zq,zs,ac,zt,bA]
 cases s with
 |nil=>exact⟨fun h=>by simp at h,fun _=>rfl⟩
 |
  cons c s =>
  have e1:(List.take (bE 1) (c::s))=[c]:=rfl
  have e2:(List.take (s.length+1) (c::s)).drop (bE 1)=s:=by simp
  simp only[aB,e1,e2]
  refine⟨fun _=>⟨fun h3=>⟨by omega,?_⟩,fun h3=>?_⟩,fun h=>by omega⟩
  ·have hl:s.length<=2:=by omega
   refine ah (QJ ls c) ?_
   simp only[↓zq,zs,ac]
   have hi1:=(ng ls c).1
   refine⟨fun h=>⟨by omega,?_⟩,fun h=>?_⟩
   ·refine ah (KK s Hk (by omega) (by decide) (by decide)) ?_
    simp only[↓zq,zs,ac,zt]
    have hc:=(hls c).1 (hi1.1 h)
    congr 2
    rw[cz,beq_iff_eq,sR]
    simp only[named,hl,hc,decide_true,bQ,and_self]
    have:(fun x=>Hk.contains x)=gY:=funext uN
    rw[this]
   ·have hc:¬(lo<=c.toNat/\c.toNat<=hi):=fun h'=>h (hi1.2 ((hls c).2 h'))
    simp only[named,hc,zf]
  ·have hl:¬s.length<=2:=by omega
   simp only[named,hl,zf]
theorem LN(s:List UInt8):an Tryz.prog 173 [.v (.string (mk s))] [] (bA (.v (.bool (gJ s)))):=by
 refine PA _ ?_
 unfold I1
 have h:∀n:Fin 256,(ba n.val∈[(120:UInt8),121,122])↔120<=(ba n.val).toNat/\(ba n.val).toNat<=122:=by decide +kernel
 refine ah (LD s [120,121,122] 120 122 fun c=>by simpa using h ⟨c.toNat,c.toNat_lt⟩) ?_
 simp only[↓zq,zs,ac,bA,gJ]
theorem CO(s:List UInt8):an Tryz.prog 159 [.v (.string (mk s))] [] (bA (.v (.bool (dc s)))):=by
 refine OA _ ?_
 unfold JN
 have h:∀n:Fin 256,(ba n.val∈[(116:UInt8)])↔116<=(ba n.val).toNat/\(ba n.val).toNat<=116:=by decide +kernel
 refine ah (LD s [116] 116 116 fun c=>by simpa using h ⟨c.toNat,c.toNat_lt⟩) ?_
 simp only[↓zq,zs,ac,bA,dc]
end Go.Proofs.Trees
namespace Go.Proofs.Trees
open Go Go.VL
inductive Ty where
 |zero|one
 |name (s:List UInt8)
 |bO (up:Nat)
 |plus (a b:Ty)
 |times (a b:Ty)
 |rc (a:Ty)
end Go.Proofs.Trees
