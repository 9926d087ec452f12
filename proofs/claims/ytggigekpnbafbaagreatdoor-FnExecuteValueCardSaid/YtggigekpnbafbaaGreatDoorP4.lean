/-
  Part of a proof: Go functions read by values, trees of functions, their contracts.
-/
import Derived.Test.YtggigekpnbafbaaGreatDoorP3
import Derived.Shelf.Lays
import Derived.Shelf.LaysM
import Derived.Shelf.Strconv.Itoa3
import Derived.Shelf.Strconv.Atoi
import Derived.Shelf.Strings.SlTrimAscii
import Derived.Shelf.Strings.Search3
import Derived.Test.YtggigekpnbafbaaGreatDoorProg
set_option linter.unusedVariables false
set_option linter.unusedSimpArgs false
open And renaming intro→aI
open ByteArray renaming extract→cd,size→af,toList→ae
open Int renaming tmod→da,toNat→bq
namespace Go.Proofs
open Go.Shelf
def Tryz.uX:Go.Shelf.Ren:=⟨fun|160=>134|232=>180|231=>179|227=>181|234=>183|233=>182|236=>185|235=>184|228=>228|271=>230|151=>229|197=>127|120=>246|152=>245|260=>171|137=>250|119=>251|224=>174|225=>173|217=>172|266=>216|n=>n,fun|9=>9|4=>4|3=>3|5=>5|117=>227|116=>226|0=>0|124=>230|21=>21|105=>175|46=>213|119=>258|139=>261|138=>260|n=>n,fun|3=>2|4=>3|n=>n⟩
theorem Tryz.Eb:Go.Proofs.Lays.n160 Tryz.prog Tryz.uX:={
 mixed:=by kernel_rfl,
 f119:=Tryz.func251.trans (congrArg some (by kernel_rfl)),
 f120:=Tryz.func246.trans (congrArg some (by kernel_rfl)),
 f137:=Tryz.func250.trans (congrArg some (by kernel_rfl)),
 f151:=Tryz.func229.trans (congrArg some (by kernel_rfl)),
 f152:=Tryz.func245.trans (congrArg some (by kernel_rfl)),
 f160:=Tryz.func134.trans (congrArg some (by kernel_rfl)),
 f197:=Tryz.func127.trans (congrArg some (by kernel_rfl)),
 f217:=Tryz.func172.trans (congrArg some (by kernel_rfl)),
 f224:=Tryz.func174.trans (congrArg some (by kernel_rfl)),
 f225:=Tryz.func173.trans (congrArg some (by kernel_rfl)),
 f227:=Tryz.func181.trans (congrArg some (by kernel_rfl)),
 f228:=Tryz.func228.trans (congrArg some (by kernel_rfl)),
 f231:=Tryz.func179.trans (congrArg some (by kernel_rfl)),
 f232:=Tryz.func180.trans (congrArg some (by kernel_rfl)),
 f233:=Tryz.func182.trans (congrArg some (by kernel_rfl)),
 f234:=Tryz.func183.trans (congrArg some (by kernel_rfl)),
 f235:=Tryz.func184.trans (congrArg some (by kernel_rfl)),
 f236:=Tryz.func185.trans (congrArg some (by kernel_rfl)),
 f260:=Tryz.func171.trans (congrArg some (by kernel_rfl)),
 f266:=Tryz.func216.trans (congrArg some (by kernel_rfl)),
 f271:=Tryz.func230.trans (congrArg some (by kernel_rfl)),
 t0:=Tryz.underlying0,
 a0:=Tryz.isAgg0,
 z0:=Tryz.sizeOf0,
 v0:=Tryz.zeroValue0,
 t3:=Tryz.underlying3,
 a3:=Tryz.isAgg3,
 z3:=Tryz.sizeOf3,
 v3:=Tryz.zeroValue3,
 t4:=Tryz.underlying4,
 a4:=Tryz.isAgg4,
 z4:=Tryz.sizeOf4,
 v4:=Tryz.zeroValue4,
 t5:=Tryz.underlying5,
 a5:=Tryz.isAgg5,
 z5:=Tryz.sizeOf5,
 v5:=Tryz.zeroValue5,
 t9:=Tryz.underlying9,
 a9:=Tryz.isAgg9,
 z9:=Tryz.sizeOf9,
 v9:=Tryz.zeroValue9,
 t21:=Tryz.underlying21,
 a21:=Tryz.isAgg21,
 z21:=Tryz.sizeOf21,
 v21:=Tryz.zeroValue21,
 t46:=Tryz.underlying213,
 a46:=Tryz.isAgg213,
 z46:=Tryz.sizeOf213,
 v46:=Tryz.zeroValue213,
 t105:=Tryz.underlying175,
 a105:=Tryz.isAgg175,
 z105:=Tryz.sizeOf175,
 v105:=Tryz.zeroValue175,
 t116:=Tryz.underlying226,
 a116:=Tryz.isAgg226,
 z116:=Tryz.sizeOf226,
 t117:=Tryz.underlying227,
 a117:=Tryz.isAgg227,
 z117:=Tryz.sizeOf227,
 v117:=Tryz.zeroValue227,
 t119:=Tryz.underlying258,
 a119:=Tryz.isAgg258,
 z119:=Tryz.sizeOf258,
 t124:=Tryz.underlying230,
 a124:=Tryz.isAgg230,
 z124:=Tryz.sizeOf230,
 v124:=Tryz.zeroValue230,
 t138:=Tryz.underlying260,
 a138:=Tryz.isAgg260,
 z138:=Tryz.sizeOf260,
 v138:=Tryz.zeroValue260,
 t139:=Tryz.underlying261,
 a139:=Tryz.isAgg261,
 z139:=Tryz.sizeOf261,
 v139:=Tryz.zeroValue261,
 g3:=by kernel_rfl,
 g4:=by kernel_rfl}
def Tryz.vM:Go.Shelf.Ren:=⟨fun|144=>231|143=>68|219=>129|217=>172|225=>173|224=>174|267=>175|266=>216|314=>217|n=>n,fun|9=>9|4=>4|3=>3|5=>5|46=>213|146=>262|51=>237|n=>n,fun|1=>0|n=>n⟩
theorem Tryz.C8:Go.Proofs.Lays.n144 Tryz.prog Tryz.vM:={
 mixed:=by kernel_rfl,
 f143:=Tryz.func68.trans (congrArg some (by kernel_rfl)),
 f144:=Tryz.func231.trans (congrArg some (by kernel_rfl)),
 f217:=Tryz.func172.trans (congrArg some (by kernel_rfl)),
 f219:=Tryz.func129.trans (congrArg some (by kernel_rfl)),
 f224:=Tryz.func174.trans (congrArg some (by kernel_rfl)),
 f225:=Tryz.func173.trans (congrArg some (by kernel_rfl)),
 f266:=Tryz.func216.trans (congrArg some (by kernel_rfl)),
 f267:=Tryz.func175.trans (congrArg some (by kernel_rfl)),
 f314:=Tryz.func217.trans (congrArg some (by kernel_rfl)),
 t3:=Tryz.underlying3,
 a3:=Tryz.isAgg3,
 z3:=Tryz.sizeOf3,
 v3:=Tryz.zeroValue3,
 t4:=Tryz.underlying4,
 a4:=Tryz.isAgg4,
 z4:=Tryz.sizeOf4,
 v4:=Tryz.zeroValue4,
 t5:=Tryz.underlying5,
 a5:=Tryz.isAgg5,
 z5:=Tryz.sizeOf5,
 v5:=Tryz.zeroValue5,
 t9:=Tryz.underlying9,
 a9:=Tryz.isAgg9,
 z9:=Tryz.sizeOf9,
 v9:=Tryz.zeroValue9,
 t46:=Tryz.underlying213,
 a46:=Tryz.isAgg213,
 z46:=Tryz.sizeOf213,
 v46:=Tryz.zeroValue213,
 t51:=Tryz.underlying237,
 a51:=Tryz.isAgg237,
 z51:=Tryz.sizeOf237,
 v51:=Tryz.zeroValue237,
 t146:=Tryz.underlying262,
 a146:=Tryz.isAgg262,
 z146:=Tryz.sizeOf262,
 v146:=Tryz.zeroValue262,
 g1:=by kernel_rfl}
def Tryz.v7:Go.Shelf.Ren:=⟨fun|172=>120|244=>163|245=>164|247=>202|279=>203|280=>204|281=>205|282=>206|287=>235|316=>236|171=>21|205=>237|321=>247|322=>248|243=>46|246=>83|283=>144|284=>145|285=>146|286=>147|129=>190|317=>189|318=>191|319=>192|320=>193|337=>232|338=>233|n=>n,fun|9=>9|3=>3|75=>129|76=>130|4=>4|5=>5|167=>247|37=>22|0=>0|85=>248|2=>2|168=>250|53=>190|175=>274|46=>213|210=>277|127=>188|145=>293|143=>291|21=>21|171=>189|173=>193|212=>236|51=>237|20=>20|213=>238|232=>288|233=>289|80=>31|n=>n,fun|15=>4|16=>5|17=>1|18=>6|19=>7|n=>n⟩
theorem Tryz.Dh:Go.Proofs.Lays.n172 Tryz.prog Tryz.v7:={
 mixed:=by kernel_rfl,
 f129:=Tryz.func190.trans (congrArg some (by kernel_rfl)),
 f171:=Tryz.func21.trans (congrArg some (by kernel_rfl)),
 f172:=Tryz.func120.trans (congrArg some (by kernel_rfl)),
 f205:=Tryz.func237.trans (congrArg some (by kernel_rfl)),
 f243:=Tryz.func46.trans (congrArg some (by kernel_rfl)),
 f244:=Tryz.func163.trans (congrArg some (by kernel_rfl)),
 f245:=Tryz.func164.trans (congrArg some (by kernel_rfl)),
 f246:=Tryz.func83.trans (congrArg some (by kernel_rfl)),
 f247:=Tryz.func202.trans (congrArg some (by kernel_rfl)),
 f279:=Tryz.func203.trans (congrArg some (by kernel_rfl)),
 f280:=Tryz.func204.trans (congrArg some (by kernel_rfl)),
 f281:=Tryz.func205.trans (congrArg some (by kernel_rfl)),
 f282:=Tryz.func206.trans (congrArg some (by kernel_rfl)),
 f283:=Tryz.func144.trans (congrArg some (by kernel_rfl)),
 f284:=Tryz.func145.trans (congrArg some (by kernel_rfl)),
 f285:=Tryz.func146.trans (congrArg some (by kernel_rfl)),
 f286:=Tryz.func147.trans (congrArg some (by kernel_rfl)),
 f287:=Tryz.func235.trans (congrArg some (by kernel_rfl)),
 f316:=Tryz.func236.trans (congrArg some (by kernel_rfl)),
 f317:=Tryz.func189.trans (congrArg some (by kernel_rfl)),
 f318:=Tryz.func191.trans (congrArg some (by kernel_rfl)),
 f319:=Tryz.func192.trans (congrArg some (by kernel_rfl)),
 f320:=Tryz.func193.trans (congrArg some (by kernel_rfl)),
 f321:=Tryz.func247.trans (congrArg some (by kernel_rfl)),
 f322:=Tryz.func248.trans (congrArg some (by kernel_rfl)),
 f337:=Tryz.func232.trans (congrArg some (by kernel_rfl)),
 f338:=Tryz.func233.trans (congrArg some (by kernel_rfl)),
 t0:=Tryz.underlying0,
 a0:=Tryz.isAgg0,
 z0:=Tryz.sizeOf0,
 v0:=Tryz.zeroValue0,
 t2:=Tryz.underlying2,
 a2:=Tryz.isAgg2,
 z2:=Tryz.sizeOf2,
 v2:=Tryz.zeroValue2,
 t3:=Tryz.underlying3,
 a3:=Tryz.isAgg3,
 z3:=Tryz.sizeOf3,
 v3:=Tryz.zeroValue3,
 t4:=Tryz.underlying4,
 a4:=Tryz.isAgg4,
 z4:=Tryz.sizeOf4,
 v4:=Tryz.zeroValue4,
 t5:=Tryz.underlying5,
 a5:=Tryz.isAgg5,
 z5:=Tryz.sizeOf5,
 v5:=Tryz.zeroValue5,
 t9:=Tryz.underlying9,
 a9:=Tryz.isAgg9,
 z9:=Tryz.sizeOf9,
 v9:=Tryz.zeroValue9,
 t20:=Tryz.underlying20,
 a20:=Tryz.isAgg20,
 z20:=Tryz.sizeOf20,
 v20:=Tryz.zeroValue20,
 t21:=Tryz.underlying21,
 a21:=Tryz.isAgg21,
 z21:=Tryz.sizeOf21,
 v21:=Tryz.zeroValue21,
 t37:=Tryz.underlying22,
 a37:=Tryz.isAgg22,
 z37:=Tryz.sizeOf22,
 v37:=Tryz.zeroValue22,
 t46:=Tryz.underlying213,
 a46:=Tryz.isAgg213,
 z46:=Tryz.sizeOf213,
 v46:=Tryz.zeroValue213,
 t51:=Tryz.underlying237,
 a51:=Tryz.isAgg237,
 z51:=Tryz.sizeOf237,
 v51:=Tryz.zeroValue237,
 t53:=Tryz.underlying190,
 a53:=Tryz.isAgg190,
 z53:=Tryz.sizeOf190,
 v53:=Tryz.zeroValue190,
 t75:=Tryz.underlying129,
 a75:=Tryz.isAgg129,
 z75:=Tryz.sizeOf129,
 v75:=Tryz.zeroValue129,
 t76:=Tryz.underlying130,
 a76:=Tryz.isAgg130,
 z76:=Tryz.sizeOf130,
 v76:=Tryz.zeroValue130,
 t85:=Tryz.underlying248,
 a85:=Tryz.isAgg248,
 z85:=Tryz.sizeOf248,
 v85:=Tryz.zeroValue248,
 t127:=Tryz.underlying188,
 a127:=Tryz.isAgg188,
 z127:=Tryz.sizeOf188,
 v127:=Tryz.zeroValue188,
 t143:=Tryz.underlying291,
 a143:=Tryz.isAgg291,
 z143:=Tryz.sizeOf291,
 v143:=Tryz.zeroValue291,
 t145:=Tryz.underlying293,
 a145:=Tryz.isAgg293,
 z145:=Tryz.sizeOf293,
 v145:=Tryz.zeroValue293,
 t167:=Tryz.underlying247,
 a167:=Tryz.isAgg247,
 z167:=Tryz.sizeOf247,
 v167:=Tryz.zeroValue247,
 t168:=Tryz.underlying250,
 a168:=Tryz.isAgg250,
 z168:=Tryz.sizeOf250,
 v168:=Tryz.zeroValue250,
 t171:=Tryz.underlying189,
 a171:=Tryz.isAgg189,
 z171:=Tryz.sizeOf189,
 v171:=Tryz.zeroValue189,
 t173:=Tryz.underlying193,
 a173:=Tryz.isAgg193,
 z173:=Tryz.sizeOf193,
 v173:=Tryz.zeroValue193,
 t175:=Tryz.underlying274,
 a175:=Tryz.isAgg274,
 z175:=Tryz.sizeOf274,
 v175:=Tryz.zeroValue274,
 t210:=Tryz.underlying277,
 a210:=Tryz.isAgg277,
 z210:=Tryz.sizeOf277,
 v210:=Tryz.zeroValue277,
 t212:=Tryz.underlying236,
 a212:=Tryz.isAgg236,
 z212:=Tryz.sizeOf236,
 v212:=Tryz.zeroValue236,
 t213:=Tryz.underlying238,
 a213:=Tryz.isAgg238,
 z213:=Tryz.sizeOf238,
 t232:=Tryz.underlying288,
 a232:=Tryz.isAgg288,
 z232:=Tryz.sizeOf288,
 v232:=Tryz.zeroValue288,
 t233:=Tryz.underlying289,
 a233:=Tryz.isAgg289,
 z233:=Tryz.sizeOf289,
 v233:=Tryz.zeroValue289,
 g15:=by kernel_rfl,
 g16:=by kernel_rfl,
 g17:=by kernel_rfl,
 g18:=by kernel_rfl,
 g19:=by kernel_rfl}
def Tryz.ui:Go.Shelf.Ren:=⟨fun|171=>21|243=>46|246=>83|283=>144|284=>145|285=>146|286=>147|129=>190|317=>189|318=>191|319=>192|320=>193|337=>232|338=>233|n=>n,fun|3=>3|9=>9|2=>2|4=>4|171=>189|0=>0|53=>190|37=>22|5=>5|173=>193|212=>236|51=>237|20=>20|213=>238|46=>213|232=>288|233=>289|n=>n,fun|17=>1|18=>6|19=>7|n=>n⟩
theorem Tryz.BJ:Go.Proofs.LaysM.n171 Tryz.prog Tryz.ui:={
 mixed:=by kernel_rfl,
 f129:=Tryz.func190.trans (congrArg some (by kernel_rfl)),
 f171:=Tryz.func21.trans (congrArg some (by kernel_rfl)),
 f243:=Tryz.func46.trans (congrArg some (by kernel_rfl)),
 f246:=Tryz.func83.trans (congrArg some (by kernel_rfl)),
 f283:=Tryz.func144.trans (congrArg some (by kernel_rfl)),
 f284:=Tryz.func145.trans (congrArg some (by kernel_rfl)),
 f285:=Tryz.func146.trans (congrArg some (by kernel_rfl)),
 f286:=Tryz.func147.trans (congrArg some (by kernel_rfl)),
 f317:=Tryz.func189.trans (congrArg some (by kernel_rfl)),
 f318:=Tryz.func191.trans (congrArg some (by kernel_rfl)),
 f319:=Tryz.func192.trans (congrArg some (by kernel_rfl)),
 f320:=Tryz.func193.trans (congrArg some (by kernel_rfl)),
 f337:=Tryz.func232.trans (congrArg some (by kernel_rfl)),
 f338:=Tryz.func233.trans (congrArg some (by kernel_rfl)),
 t0:=Tryz.underlying0,
 a0:=Tryz.isAgg0,
 z0:=Tryz.sizeOf0,
 v0:=Tryz.zeroValue0,
 t2:=Tryz.underlying2,
 a2:=Tryz.isAgg2,
 z2:=Tryz.sizeOf2,
 v2:=Tryz.zeroValue2,
 t3:=Tryz.underlying3,
 a3:=Tryz.isAgg3,
 z3:=Tryz.sizeOf3,
 v3:=Tryz.zeroValue3,
 t4:=Tryz.underlying4,
 a4:=Tryz.isAgg4,
 z4:=Tryz.sizeOf4,
 v4:=Tryz.zeroValue4,
 t5:=Tryz.underlying5,
 a5:=Tryz.isAgg5,
 z5:=Tryz.sizeOf5,
 v5:=Tryz.zeroValue5,
 t9:=Tryz.underlying9,
 a9:=Tryz.isAgg9,
 z9:=Tryz.sizeOf9,
 v9:=Tryz.zeroValue9,
 t20:=Tryz.underlying20,
 a20:=Tryz.isAgg20,
 z20:=Tryz.sizeOf20,
 v20:=Tryz.zeroValue20,
 t37:=Tryz.underlying22,
 a37:=Tryz.isAgg22,
 z37:=Tryz.sizeOf22,
 v37:=Tryz.zeroValue22,
 t46:=Tryz.underlying213,
 a46:=Tryz.isAgg213,
 z46:=Tryz.sizeOf213,
 v46:=Tryz.zeroValue213,
 t51:=Tryz.underlying237,
 a51:=Tryz.isAgg237,
 z51:=Tryz.sizeOf237,
 v51:=Tryz.zeroValue237,
 t53:=Tryz.underlying190,
 a53:=Tryz.isAgg190,
 z53:=Tryz.sizeOf190,
 v53:=Tryz.zeroValue190,
 t171:=Tryz.underlying189,
 a171:=Tryz.isAgg189,
 z171:=Tryz.sizeOf189,
 v171:=Tryz.zeroValue189,
 t173:=Tryz.underlying193,
 a173:=Tryz.isAgg193,
 z173:=Tryz.sizeOf193,
 v173:=Tryz.zeroValue193,
 t212:=Tryz.underlying236,
 a212:=Tryz.isAgg236,
 z212:=Tryz.sizeOf236,
 v212:=Tryz.zeroValue236,
 t213:=Tryz.underlying238,
 a213:=Tryz.isAgg238,
 z213:=Tryz.sizeOf238,
 t232:=Tryz.underlying288,
 a232:=Tryz.isAgg288,
 z232:=Tryz.sizeOf288,
 v232:=Tryz.zeroValue288,
 t233:=Tryz.underlying289,
 a233:=Tryz.isAgg289,
 z233:=Tryz.sizeOf289,
 v233:=Tryz.zeroValue289,
 g17:=by kernel_rfl,
 g18:=by kernel_rfl,
 g19:=by kernel_rfl,
 i0:=by kernel_rfl,
 i2:=by kernel_rfl,
 i3:=by kernel_rfl,
 i4:=by kernel_rfl,
 i5:=by kernel_rfl,
 i9:=by kernel_rfl,
 i20:=by kernel_rfl,
 i37:=by kernel_rfl,
 i46:=by kernel_rfl,
 i51:=by kernel_rfl,
 i53:=by kernel_rfl,
 i171:=by kernel_rfl,
 i173:=by kernel_rfl,
 i212:=by kernel_rfl,
 i232:=by kernel_rfl,
 i233:=by kernel_rfl,
 m17:=by kernel_rfl,
 m18:=by kernel_rfl,
 m19:=by kernel_rfl}
def Tryz.pZ:Go.Shelf.Ren:=⟨fun|145=>36|220=>69|219=>129|217=>172|225=>173|224=>174|267=>175|266=>216|314=>217|n=>n,fun|9=>9|4=>4|59=>70|3=>3|5=>5|46=>213|146=>262|51=>237|n=>n,fun|1=>0|n=>n⟩
theorem Tryz.CL:Go.Proofs.Lays.n145 Tryz.prog Tryz.pZ:={
 mixed:=by kernel_rfl,
 f145:=Tryz.func36.trans (congrArg some (by kernel_rfl)),
 f217:=Tryz.func172.trans (congrArg some (by kernel_rfl)),
 f219:=Tryz.func129.trans (congrArg some (by kernel_rfl)),
 f220:=Tryz.func69.trans (congrArg some (by kernel_rfl)),
 f224:=Tryz.func174.trans (congrArg some (by kernel_rfl)),
 f225:=Tryz.func173.trans (congrArg some (by kernel_rfl)),
 f266:=Tryz.func216.trans (congrArg some (by kernel_rfl)),
 f267:=Tryz.func175.trans (congrArg some (by kernel_rfl)),
 f314:=Tryz.func217.trans (congrArg some (by kernel_rfl)),
 t3:=Tryz.underlying3,
 a3:=Tryz.isAgg3,
 z3:=Tryz.sizeOf3,
 v3:=Tryz.zeroValue3,
 t4:=Tryz.underlying4,
 a4:=Tryz.isAgg4,
 z4:=Tryz.sizeOf4,
 v4:=Tryz.zeroValue4,
 t5:=Tryz.underlying5,
 a5:=Tryz.isAgg5,
 z5:=Tryz.sizeOf5,
 v5:=Tryz.zeroValue5,
 t9:=Tryz.underlying9,
 a9:=Tryz.isAgg9,
 z9:=Tryz.sizeOf9,
 v9:=Tryz.zeroValue9,
 t46:=Tryz.underlying213,
 a46:=Tryz.isAgg213,
 z46:=Tryz.sizeOf213,
 v46:=Tryz.zeroValue213,
 t51:=Tryz.underlying237,
 a51:=Tryz.isAgg237,
 z51:=Tryz.sizeOf237,
 v51:=Tryz.zeroValue237,
 t59:=Tryz.underlying70,
 a59:=Tryz.isAgg70,
 z59:=Tryz.sizeOf70,
 v59:=Tryz.zeroValue70,
 t146:=Tryz.underlying262,
 a146:=Tryz.isAgg262,
 z146:=Tryz.sizeOf262,
 v146:=Tryz.zeroValue262,
 g1:=by kernel_rfl}
def Tryz.l4:Go.Shelf.Ren:=⟨fun|146=>19|221=>35|268=>66|138=>67|143=>68|195=>126|197=>127|218=>128|219=>129|260=>171|217=>172|225=>173|224=>174|267=>175|266=>216|314=>217|n=>n,fun|9=>9|31=>25|3=>3|4=>4|0=>0|105=>175|21=>21|5=>5|46=>213|119=>258|139=>261|138=>260|146=>262|51=>237|n=>n,fun|1=>0|3=>2|4=>3|n=>n⟩
theorem Tryz.DK:Go.Proofs.Lays.n146 Tryz.prog Tryz.l4:={
 mixed:=by kernel_rfl,
 f138:=Tryz.func67.trans (congrArg some (by kernel_rfl)),
 f143:=Tryz.func68.trans (congrArg some (by kernel_rfl)),
 f146:=Tryz.func19.trans (congrArg some (by kernel_rfl)),
 f195:=Tryz.func126.trans (congrArg some (by kernel_rfl)),
 f197:=Tryz.func127.trans (congrArg some (by kernel_rfl)),
 f217:=Tryz.func172.trans (congrArg some (by kernel_rfl)),
 f218:=Tryz.func128.trans (congrArg some (by kernel_rfl)),
 f219:=Tryz.func129.trans (congrArg some (by kernel_rfl)),
 f221:=Tryz.func35.trans (congrArg some (by kernel_rfl)),
 f224:=Tryz.func174.trans (congrArg some (by kernel_rfl)),
 f225:=Tryz.func173.trans (congrArg some (by kernel_rfl)),
 f260:=Tryz.func171.trans (congrArg some (by kernel_rfl)),
 f266:=Tryz.func216.trans (congrArg some (by kernel_rfl)),
 f267:=Tryz.func175.trans (congrArg some (by kernel_rfl)),
 f268:=Tryz.func66.trans (congrArg some (by kernel_rfl)),
 f314:=Tryz.func217.trans (congrArg some (by kernel_rfl)),
 t0:=Tryz.underlying0,
 a0:=Tryz.isAgg0,
 z0:=Tryz.sizeOf0,
 v0:=Tryz.zeroValue0,
 t3:=Tryz.underlying3,
 a3:=Tryz.isAgg3,
 z3:=Tryz.sizeOf3,
 v3:=Tryz.zeroValue3,
 t4:=Tryz.underlying4,
 a4:=Tryz.isAgg4,
 z4:=Tryz.sizeOf4,
 v4:=Tryz.zeroValue4,
 t5:=Tryz.underlying5,
 a5:=Tryz.isAgg5,
 z5:=Tryz.sizeOf5,
 v5:=Tryz.zeroValue5,
 t9:=Tryz.underlying9,
 a9:=Tryz.isAgg9,
 z9:=Tryz.sizeOf9,
 v9:=Tryz.zeroValue9,
 t21:=Tryz.underlying21,
 a21:=Tryz.isAgg21,
 z21:=Tryz.sizeOf21,
 v21:=Tryz.zeroValue21,
 t31:=Tryz.underlying25,
 a31:=Tryz.isAgg25,
 z31:=Tryz.sizeOf25,
 v31:=Tryz.zeroValue25,
 t46:=Tryz.underlying213,
 a46:=Tryz.isAgg213,
 z46:=Tryz.sizeOf213,
 v46:=Tryz.zeroValue213,
 t51:=Tryz.underlying237,
 a51:=Tryz.isAgg237,
 z51:=Tryz.sizeOf237,
 v51:=Tryz.zeroValue237,
 t105:=Tryz.underlying175,
 a105:=Tryz.isAgg175,
 z105:=Tryz.sizeOf175,
 v105:=Tryz.zeroValue175,
 t119:=Tryz.underlying258,
 a119:=Tryz.isAgg258,
 z119:=Tryz.sizeOf258,
 t138:=Tryz.underlying260,
 a138:=Tryz.isAgg260,
 z138:=Tryz.sizeOf260,
 v138:=Tryz.zeroValue260,
 t139:=Tryz.underlying261,
 a139:=Tryz.isAgg261,
 z139:=Tryz.sizeOf261,
 v139:=Tryz.zeroValue261,
 t146:=Tryz.underlying262,
 a146:=Tryz.isAgg262,
 z146:=Tryz.sizeOf262,
 v146:=Tryz.zeroValue262,
 g1:=by kernel_rfl,
 g3:=by kernel_rfl,
 g4:=by kernel_rfl}
end Go.Proofs
namespace Go.Proofs.Trees
open Go Go.VL
noncomputable section
def Jl:List (Nat×TI):=[
 (0,⟨false,[],false,0,.tuple [],false⟩),
 (2,⟨true,[.int .i64],false,8,.num .i64,false⟩),
 (3,⟨true,[.int .i64],false,8,.num .i64,false⟩),
 (4,⟨true,[.bool],false,1,.bl,false⟩),
 (5,⟨true,[.int .u8],false,1,.num .u8,false⟩),
 (9,⟨true,[.str],false,16,.str,false⟩),
 (20,⟨true,[.jK],false,16,.other,false⟩),
 (21,⟨true,[.int .i32],false,4,.num .i32,false⟩),
 (22,⟨true,[.sl],false,24,.slice 5,false⟩),
 (23,⟨false,[],false,0,.tuple [9,9],false⟩),
 (25,⟨true,[.sl],false,24,.slice 9,false⟩),
 (27,⟨true,[.str,.sl,.str],true,56,.struct [(0,9),(1,25),(2,9)],false⟩),
 (28,⟨false,[],false,0,.tuple [27,4],false⟩),
 (38,⟨true,[.ptr],false,8,.pt,true⟩),
 (41,⟨true,[.ptr],false,8,.pt,true⟩),
 (45,⟨true,[.ptr],false,8,.pt,true⟩),
 (47,⟨true,[.str,.sl,.str],true,56,.struct [(0,27)],false⟩),
 (49,⟨true,[.sl],false,24,.slice 140,false⟩),
 (51,⟨true,[.ptr],false,8,.pt,true⟩),
 (52,⟨true,[.sl],false,24,.slice 53,false⟩),
 (53,⟨true,[.ptr],false,8,.pt,true⟩),
 (55,⟨true,[.str,.ptr,.sl,.ptr],true,56,.struct [(0,9),(1,51),(2,52),(3,53)],false⟩),
 (62,⟨true,[.sl,.int .i64],true,32,.struct [(0,22),(1,3)],false⟩),
 (63,⟨false,[],false,0,.tuple [51,53],false⟩),
 (65,⟨false,[],false,0,.tuple [9,4],false⟩),
 (70,⟨false,[],false,0,.tuple [9,9,4],false⟩),
 (77,⟨true,[.sl],false,24,.slice 3,false⟩),
 (78,⟨false,[],false,0,.tuple [77,4],false⟩),
 (82,⟨true,[.ptr],false,8,.pt,true⟩),
 (84,⟨true,[.ptr,.ptr],true,16,.struct [(0,51),(1,82)],false⟩),
 (85,⟨true,[.ptr],false,8,.pt,true⟩),
 (86,⟨false,[],false,0,.tuple [84,85],false⟩),
 (90,⟨true,[.int .u8,.str,.ptr,.ptr],true,40,.struct [(0,5),(1,9),(2,53),(3,53)],false⟩),
 (92,⟨true,[.str,.ptr],true,24,.struct [(0,9),(1,85)],false⟩),
 (93,⟨true,[.ptr],false,8,.pt,true⟩),
 (97,⟨true,[.sl],false,24,.slice 99,false⟩),
 (99,⟨true,[.str,.sl],true,40,.struct [(0,9),(1,97)],false⟩),
 (100,⟨false,[],false,0,.tuple [99,4],false⟩),
 (107,⟨true,[.int .u8,.str,.int .i64,.ptr,.ptr],true,48,.struct [(0,5),(1,9),(2,3),(3,51),(4,51)],false⟩),
 (108,⟨false,[],false,0,.tuple [51,4],false⟩),
 (114,⟨false,[],false,0,.tuple [25,4],false⟩),
 (119,⟨false,[],false,0,.tuple [9,3,4],false⟩),
 (124,⟨true,[.ptr],false,8,.pt,true⟩),
 (126,⟨true,[.ptr,.sl],true,32,.struct [(0,124),(1,22)],false⟩),
 (129,⟨true,[.jK],false,16,.other,false⟩),
 (130,⟨false,[],false,0,.tuple [3,129],false⟩),
 (135,⟨true,[.ptr,.ptr],true,16,.struct [(0,84)],false⟩),
 (137,⟨true,[.ptr,.ptr],true,16,.struct [(0,85),(1,82)],false⟩),
 (140,⟨true,[.ptr,.ptr],true,16,.struct [(0,53),(1,53)],false⟩),
 (141,⟨true,[.jK],false,8,.other,false⟩),
 (142,⟨true,[.jK],false,8,.other,false⟩),
 (146,⟨false,[],false,0,.tuple [93,9],false⟩),
 (148,⟨true,[.sl],false,24,.slice 93,false⟩),
 (150,⟨true,[.str,.sl],true,40,.struct [(0,9),(1,148)],false⟩),
 (151,⟨true,[.jK],false,8,.other,false⟩),
 (160,⟨true,[.ptr],false,8,.pt,true⟩),
 (162,⟨true,[.sl,.int .i64],true,32,.struct [(0,25),(1,3)],false⟩),
 (164,⟨true,[.ptr],false,8,.pt,true⟩),
 (166,⟨true,[.int .i64,.bool],true,16,.struct [(0,3),(1,4)],false⟩),
 (175,⟨false,[],false,0,.tuple [21,3],false⟩),
 (178,⟨true,[.ptr],false,8,.pt,true⟩),
 (187,⟨true,[.jK],false,8,.other,false⟩),
 (188,⟨true,[.ptr],false,8,.pt,true⟩),
 (189,⟨true,[.int .u8,.int .u8,.int .u8,.int .u8,.int .u8,.int .u8,.int .u8,.int .u8,.int .u8,.int .u8,.int .u8,.int .u8,.int .u8,.int .u8,.int .u8,.int .u8,.int .u8,.int .u8,.int .u8,.int .u8,.int .u8,.int .u8,.int .u8,.int .u8],true,24,.array 24 5,false⟩),
 (190,⟨true,[.int .u64],false,8,.num .u64,false⟩),
 (193,⟨false,[],false,0,.tuple [22,9],false⟩),
 (205,⟨true,[.jK],false,8,.other,false⟩),
 (211,⟨true,[.sl],false,24,.slice 280,false⟩),
 (213,⟨true,[.int .u64],false,8,.num .u64,false⟩),
 (214,⟨true,[.jK],false,8,.other,false⟩),
 (215,⟨true,[.jK],false,8,.other,false⟩),
 (217,⟨true,[.int .i64,.jK,.jK],true,24,.struct [(0,3),(1,214),(2,215)],false⟩),
 (219,⟨true,[.ptr,.ptr,.int .i64],true,24,.struct [(0,84),(2,3)],false⟩),
 (220,⟨false,[],false,0,.tuple [3,4],false⟩),
 (227,⟨false,[],false,0,.tuple [226,4],false⟩),
 (230,⟨true,[.ptr],false,8,.pt,true⟩),
 (232,⟨true,[.ptr],false,8,.other,false⟩),
 (236,⟨true,[.int .u64,.int .u64,.int .u64,.int .u64,.int .u64,.int .u64,.int .u64,.int .u64,.int .u64,.int .u64,.int .u64,.int .u64,.int .u64,.int .u64,.int .u64,.int .u64,.int .u64,.int .u64,.int .u64,.int .u64],true,160,.array 20 190,false⟩),
 (237,⟨true,[.int .u32],false,4,.num .u32,false⟩),
 (240,⟨false,[],false,0,.tuple [99,3],false⟩),
 (244,⟨true,[.jK],false,8,.other,false⟩),
 (248,⟨false,[],false,0,.tuple [2,129],false⟩),
 (250,⟨true,[.ptr],false,8,.pt,true⟩),
 (255,⟨false,[],false,0,.tuple [99,211],false⟩),
 (260,⟨true,[.int .u8,.int .u8],true,2,.struct [(0,5),(1,5)],false⟩),
 (261,⟨true,[.int .u8,.int .u8,.int .u8,.int .u8,.int .u8,.int .u8,.int .u8,.int .u8,.int .u8,.int .u8,.int .u8,.int .u8,.int .u8,.int .u8,.int .u8,.int .u8,.int .u8,.int .u8,.int .u8,.int .u8,.int .u8,.int .u8,.int .u8,.int .u8,.int .u8,.int .u8,.int .u8,.int .u8,.int .u8,.int .u8,.int .u8,.int .u8],true,32,.array 16 260,false⟩),
 (262,⟨false,[],false,0,.tuple [237,237],false⟩),
 (264,⟨false,[],false,0,.tuple [84,4],false⟩),
 (266,⟨true,[.int .i64],false,8,.num .i64,false⟩),
 (267,⟨false,[],false,0,.tuple [3,266],false⟩),
 (274,⟨false,[],false,0,.tuple [190,129],false⟩),
 (277,⟨true,[.str,.str,.jK],true,48,.struct [(0,9),(1,9),(2,129)],false⟩),
 (280,⟨true,[.str,.str,.sl,.sl],true,80,.struct [(0,9),(1,99),(3,211)],false⟩),
 (281,⟨true,[.int .u64],false,8,.num .u64,false⟩),
 (285,⟨true,[.ptr],false,8,.pt,true⟩),
 (288,⟨true,[.int .u8,.int .u8,.int .u8,.int .u8,.int .u8,.int .u8,.int .u8,.int .u8,.int .u8,.int .u8,.int .u8,.int .u8,.int .u8,.int .u8,.int .u8,.int .u8,.int .u8,.int .u8,.int .u8,.int .u8,.int .u8,.int .u8,.int .u8,.int .u8,.int .u8,.int .u8,.int .u8,.int .u8,.int .u8,.int .u8,.int .u8,.int .u8],true,32,.array 32 5,false⟩),
 (291,⟨true,[.ptr],false,8,.pt,true⟩),
 (293,⟨true,[.str],true,16,.struct [(0,9)],false⟩),
 (294,⟨true,[.ptr],false,8,.pt,true⟩),
 (295,⟨false,[],false,0,.tuple [3,3],false⟩)]
def Jc(t:Nat):TI:=yt Jl t
abbrev ph:Func:=Tryz.f19
abbrev qd:Func:=Tryz.f21
abbrev rO:Func:=Tryz.f36
abbrev ep:Func:=Tryz.f48
abbrev qg:Func:=Tryz.f120
abbrev qi:Func:=Tryz.f134
abbrev mV:Func:=Tryz.f231
def N6:List (Nat×FC):=[(199,{mu:=[(1,.one (.obj [.vec 1]))],own:=[]}),(102,{mu:=[(2,.one (.vec))],own:=[0]}),(20000198,{mu:=[(1,.fn [some (.obj [.vec 1])])],own:=[]}),(86,{mu:=[(2,.one (.obj [.vec 2]))],own:=[]}),(9000086,{mu:=[(1,.fn [some (.obj [.lk .ptr])]),(2,.one (.obj [.vec 2]))],own:=[]}),(9200086,{mu:=[(1,.fn [some (.obj [.lk .ptr])]),(2,.one (.obj [.vec 2]))],own:=[]}),(9400086,{mu:=[(1,.fn [some (.obj [.lk .ptr])]),(2,.one (.obj [.vec 2]))],own:=[]}),(9600086,{mu:=[(1,.fn [some (.obj [.lk .ptr,.lk .ptr])]),(2,.one (.obj [.vec 2]))],own:=[]}),(89,{mu:=[(1,.one (.obj [.lk .ptr]))],own:=[]}),(91,{mu:=[(1,.one (.obj [.lk .ptr]))],own:=[]}),(93,{mu:=[(1,.one (.obj [.lk .ptr]))],own:=[]}),(95,{mu:=[(1,.one (.obj [.lk .ptr,.lk .ptr]))],own:=[]}),(160,{mu:=[(2,.su 160 [none,some 0,some 1]),(3,.one (.obj [.lk .sl])),(4,.one (.obj [.lk (.int .i64)]))],own:=[]}),(27,{mu:=[(0,.one (.obj [.lk .sl,.lk (.int .i64)]))],own:=[]}),(110,{mu:=[(3,.one (.obj [.vec 1,.lk (.int .i64)]))],own:=[]}),(52,{mu:=[(0,.one (.obj [.lk .sl,.lk (.int .i64)]))],own:=[]}),(14,{mu:=[],own:=[0],ow:=[.sl,.int .i64]}),(113,{mu:=[(0,.one (.obj [.lk (.int .i64),.lk .bool]))],own:=[]}),(114,{mu:=[(0,.one (.obj [.lk (.int .i64),.lk .bool]))],own:=[]}),(115,{mu:=[(0,.one (.obj [.lk (.int .i64),.lk .bool]))],own:=[]}),(100,{mu:=[(0,.one (.obj [.lk .sl,.lk (.int .i64)]))],own:=[]}),(26,{mu:=[(0,.one (.obj [.lk .sl,.lk (.int .i64)]))],own:=[]}),(99,{mu:=[(0,.one (.obj [.lk .sl,.lk (.int .i64)]))],own:=[]}),(56,{mu:=[(0,.one (.obj [.lk .sl,.lk (.int .i64)]))],own:=[]}),(29,{mu:=[(0,.one (.obj [.lk .sl,.lk (.int .i64)]))],own:=[]}),(53,{mu:=[(0,.one (.obj [.lk .sl,.lk (.int .i64)]))],own:=[]}),(28,{mu:=[(0,.one (.obj [.lk .sl,.lk (.int .i64)]))],own:=[]}),(13,{mu:=[(0,.one (.obj [.lk .sl,.lk (.int .i64)]))],own:=[]}),(5,{mu:=[],own:=[0],oa:=[.lk .str,.vec 1,.lk .str]}),(39,{mu:=[],own:=[0],oa:=[.lk .str,.vec 1,.lk .str]}),(73,{mu:=[],own:=[0],oa:=[.lk .str,.vec 1,.lk .str]}),(71,{mu:=[],own:=[0],oa:=[.lk .str,.vec 1,.lk .str]}),(40,{mu:=[],own:=[0],oa:=[.lk .str,.vec 1,.lk .str]}),(15,{mu:=[],own:=[0],oa:=[.lk .str,.vec 1,.lk .str]}),(43,{mu:=[],own:=[0]}),(141,{mu:=[(1,.one (.obj [.lk .str]))],own:=[]}),(14200140,{mu:=[(1,.fn [some (.obj [.lk .str])])],own:=[]}),(79,{mu:=[(0,.one (.cC false [.vec 1]))],own:=[]}),(150,{mu:=[],own:=[0]}),(17,{mu:=[(0,.one (.sn [.lk .str,.vec 1,.lk .str]))],own:=[0],oa:=[.lk .str,.vec 1,.lk .str]}),(6,{mu:=[],own:=[0],oa:=[.lk .str,.vec 1,.lk .str]}),(137,{mu:=[(1,.one (.obj [.lk .ptr])),(2,.one (.obj [.lk (.int .i64)])),(3,.one (.obj [.lk .ptr])),(4,.one (.obj [.lk .ptr])),(5,.su 137 [some 0,some 1,some 2,some 3,none])],own:=[]}),(13800138,{mu:=[(3,.FH [some (.obj [.lk .ptr]),some (.obj [.lk (.int .i64)]),some (.obj [.lk .ptr]),some (.obj [.lk .ptr])] 137 [some 0,some 1,some 2,some 3,none])],own:=[]}),(20,{mu:=[(0,.one (.obj [.lk .str,.vec 1,.lk .str]))],own:=[]}),(37,{mu:=[(0,.one (.obj [.lk .str,.vec 1,.lk .str]))],own:=[]}),(38,{mu:=[(0,.one (.obj [.lk .str,.vec 1,.lk .str])),(1,.one (.sn [.lk .str,.vec 1,.lk .str]))],own:=[]})]
def cfg(f:Nat):FC:=B6 N6 f
theorem Dk:(Jl.all fun p=>!p.2.kn||p.2.m8 Tryz.prog p.1)=true:=by kernel_rfl
theorem tF:dc Tryz.prog Jc:=u7 Dk
theorem mixed:Tryz.prog.follows .mixedOrders=true:=by kernel_rfl
abbrev NZ(r:AV)(k:Tree):Tree:=.aj (LK.has .ptr r/\r.isNil=false) k
abbrev NP(r:AV)(k:Tree):Tree:=.aj (LK.has .ptr r) k
abbrev NS(r:AV)(k:Tree):Tree:=.aj (LK.has .str r) k
abbrev NB(r:AV)(k:Tree):Tree:=.aj (LK.has .bool r) k
abbrev NL(r:AV)(k:Tree):Tree:=.aj (LK.has .sl r) k
abbrev NI(r:AV)(k:Tree):Tree:=.aj (LK.has (.int .i64) r) k
abbrev dV(l:List AV)(k:Tree):Tree:=.aj (LK.has .ptr (l.headD .any)/\1<=l.length) k
abbrev kS(l:List AV)(k:Tree):Tree:=.aj (LK.has .str (l.headD .any)/\1<=l.length) k
abbrev oT(l:List AV)(k:Tree):Tree:=.aj (LK.has .sl (l.headD .any)/\1<=l.length) k
abbrev NT(r:AV)(k:Tree):Tree:=.aj (r=.cy [r.comp 0,r.comp 1]) k
abbrev NA(r:AV)(k:Tree):Tree:=.aj (r=.agg r.cs/\r.cs.length=2/\bF [.str,.sl] r.cs 0) k
abbrev NE(l:List AV)(k:Tree):Tree:=.aj (bF [.str,.sl] l 0/\2<=l.length) k
abbrev NG(r:AV)(i:Int)(z:Nat)(k:Tree):Tree:=.aj (LK.has .sl r/\0<=i/\i<r.elems.length/\(r.elems.getD i.toNat []).length=z) k
abbrev RL:Type:=Nat->List AV->List Ob->Prop
abbrev VS(x:ByteArray):AV:=.v (.string x)
abbrev VI(x:Int):AV:=.v (.int .i64 x)
abbrev VB(x:Bool):AV:=.v (.bool x)
abbrev _root_.List.hA(l:List AV):AV:=l.headD .any
abbrev _root_.List.hO(l:List Ob):Ob:=l.headD .dead
abbrev _root_.Go.VL.AV.ix(a:AV)(i:Int):List AV:=a.elems.getD i.toNat []
abbrev dj(n:Nat)(t:Tree)(R:AV->List Ob->Prop):Prop:=eU Tryz.prog n t fun _ xs obs=>R (xs.headD .any) obs
abbrev mi(n:Nat)(t:Tree)(S:List AV->List Ob->RL->Prop)(R:RL):Prop:=eU Tryz.prog n t (Ev (fun ys o=>S ys o R) R)
theorem gQ{n:Nat}{c:Code}{li:LI}{xs:List AV}{obs:List Ob}{R:RL}{t:Tree}(lis:List (Nat×LI))(h:eU Tryz.prog n t (Ev (fun ys o=>cH Tryz.prog n c li ys o R) R))(e:round Jc cfg n lis c li xs obs=t:=by kernel_rfl):cH Tryz.prog n c li xs obs R:=cH.Nt (cfg:=cfg) (lis:=lis) tF mixed e h
theorem RW(x:ByteArray):VS x=.v (.string x):=rfl
theorem Rx(x:Int):VI x=.v (.int .i64 x):=rfl
theorem RE(x:Bool):VB x=.v (.bool x):=rfl
theorem RV(l:List AV):l.hA=l.headD .any:=rfl
theorem RF(l:List Ob):l.hO=l.headD .dead:=rfl
theorem RB(a:AV)(i:Int):a.ix i=a.elems.getD i.toNat []:=rfl
theorem oQ{f:Nat}{asq:List AV}{ins:List Ob}{R:AV->List Ob->Prop}{t:Tree}(lis:List (Nat×LI))(F:Func)(h:eU Tryz.prog F.ntmps t fun _ xs obs=>R (xs.headD .any) obs)(hf:Tryz.prog.funcs[f]?=some F:=by kernel_rfl)(hnm:(F.name=="runtime.NumGoroutine")=false:=by kernel_rfl)(e:main Jc cfg lis {} F asq ins=t:=by kernel_rfl):an Tryz.prog f asq ins R:=an.Nt (cfg:=cfg) (lis:=lis) (fc:={}) tF mixed hf hnm e h
theorem oF{f:Nat}{asq:List AV}{ins:List Ob}{R:AV->List Ob->Prop}{t:Tree}(lis:List (Nat×LI))(fc:FC)(F:Func)(h:eU Tryz.prog F.ntmps t fun _ xs obs=>R (xs.headD .any) obs)(hf:Tryz.prog.funcs[f]?=some F:=by kernel_rfl)(hnm:(F.name=="runtime.NumGoroutine")=false:=by kernel_rfl)(e:main Jc cfg lis fc F asq ins=t:=by kernel_rfl):an Tryz.prog f asq ins R:=an.Nt (cfg:=cfg) (lis:=lis) (fc:=fc) tF mixed hf hnm e h
theorem uQ{P:Program}{f:Nat}{asq bs:List AV}{R:AV->List Ob->Prop}(h:wi asq bs)(hf:an P f bs [] R):an P f asq [] R:=an.nf ct (an.up h hf)
theorem Rw(r:AV)(k:Tree):NZ r k=.aj (LK.has .ptr r/\r.isNil=false) k:=rfl
theorem RN(r:AV)(k:Tree):NP r k=.aj (LK.has .ptr r) k:=rfl
theorem RO(r:AV)(k:Tree):NS r k=.aj (LK.has .str r) k:=rfl
theorem RT(r:AV)(k:Tree):NB r k=.aj (LK.has .bool r) k:=rfl
theorem RD(r:AV)(k:Tree):NL r k=.aj (LK.has .sl r) k:=rfl
theorem RI(r:AV)(k:Tree):NI r k=.aj (LK.has (.int .i64) r) k:=rfl
theorem N3(l:List AV)(k:Tree):dV l k=.aj (LK.has .ptr (l.headD .any)/\1<=l.length) k:=rfl
theorem Qt(l:List AV)(k:Tree):kS l k=.aj (LK.has .str (l.headD .any)/\1<=l.length) k:=rfl
theorem O9(l:List AV)(k:Tree):oT l k=.aj (LK.has .sl (l.headD .any)/\1<=l.length) k:=rfl
theorem RH(r:AV)(k:Tree):NT r k=.aj (r=.cy [r.comp 0,r.comp 1]) k:=rfl
theorem RP(r:AV)(k:Tree):NA r k=.aj (r=.agg r.cs/\r.cs.length=2/\bF [.str,.sl] r.cs 0) k:=rfl
theorem RJ(l:List AV)(k:Tree):NE l k=.aj (bF [.str,.sl] l 0/\2<=l.length) k:=rfl
theorem RG(r:AV)(i:Int)(z:Nat)(k:Tree):NG r i z k=.aj (LK.has .sl r/\0<=i/\i<r.elems.length/\(r.elems.getD i.toNat []).length=z) k:=rfl
set_option linter.defProp false in
def zq:=aI @Rw (aI @RN (aI @RO (aI @RT (aI @RD (aI @RI (aI @N3 (aI @Qt (aI @O9 (aI @RH (aI @RP (aI @RJ (aI @RG (aI @RW (aI @Rx (aI @RE (aI @RV (aI @RF (aI @RB @zp))))))))))))))))))
variable {R:AV->List Ob->Prop} {U:RL}
def LB(a0:AV):Tree :=
 NL a0<|.test (decide ((a0.elems.length:Int)>(1048576:Int))) (.done 0 [VB true] []) (.call 4 [a0] [] fun r1 o1=>NT r1<|NS (r1.comp 0)<|NS (r1.comp 1)<|.call 5 [VS ((r1.comp 0).toStr),VS ((r1.comp 1).toStr)] [] fun r2 o2=>NT r2<|.aj ((r2.comp 0)=.agg (r2.comp 0).cs/\aL [.lk .str,.vec 1,.lk .str] ((r2.comp 0).cs) 0 0 o2)<|NB (r2.comp 1)<|.aj (∀x,x∈o2->dL x)<|.call 6 [VS ((r1.comp 0).toStr),VS ((r1.comp 1).toStr)] [] fun r3 o3=>NT r3<|.aj ((r3.comp 0)=.agg (r3.comp 0).cs/\aL [.lk .str,.vec 1,.lk .str] ((r3.comp 0).cs) 0 0 o3)<|NB (r3.comp 1)<|.aj (∀x,x∈o3->dL x)<|.test (!(((r2.comp 1).toBool)==((r3.comp 1).toBool))) (.test (((r2.comp 1).toBool)==((r3.comp 1).toBool)) (.call 7 [.agg [VS (((r2.comp 0).cs.getD 0 .any).toStr),.sl ((o2.hO).es),VS (((r2.comp 0).cs.getD 2 .any).toStr)],.agg [VS (((r3.comp 0).cs.getD 0 .any).toStr),.sl ((o3.hO).es),VS (((r3.comp 0).cs.getD 2 .any).toStr)]] [] fun r4 o4=>NB r4<|.done 0 [VB r4.toBool] []) (.done 0 [VB false] [])) (.call 7 [.agg [VS (((r2.comp 0).cs.getD 0 .any).toStr),.sl ((o2.hO).es),VS (((r2.comp 0).cs.getD 2 .any).toStr)],.agg [VS (((r3.comp 0).cs.getD 0 .any).toStr),.sl ((o3.hO).es),VS (((r3.comp 0).cs.getD 2 .any).toStr)]] [] fun r5 o5=>NB r5<|.test (!r5.toBool) (.test (((r2.comp 1).toBool)==((r3.comp 1).toBool)) (.call 7 [.agg [VS (((r2.comp 0).cs.getD 0 .any).toStr),.sl ((o2.hO).es),VS (((r2.comp 0).cs.getD 2 .any).toStr)],.agg [VS (((r3.comp 0).cs.getD 0 .any).toStr),.sl ((o3.hO).es),VS (((r3.comp 0).cs.getD 2 .any).toStr)]] [] fun r6 o6=>NB r6<|.done 0 [VB r6.toBool] []) (.done 0 [VB false] [])) (.test (!((r2.comp 1).toBool)) (.test (((r2.comp 1).toBool)==((r3.comp 1).toBool)) (.call 7 [.agg [VS (((r2.comp 0).cs.getD 0 .any).toStr),.sl ((o2.hO).es),VS (((r2.comp 0).cs.getD 2 .any).toStr)],.agg [VS (((r3.comp 0).cs.getD 0 .any).toStr),.sl ((o3.hO).es),VS (((r3.comp 0).cs.getD 2 .any).toStr)]] [] fun r7 o7=>NB r7<|.done 0 [VB r7.toBool] []) (.done 0 [VB false] [])) (.call 8 [] [] fun r8 o8=>NS r8<|.call 5 [VS r8.toStr,VS ((r1.comp 1).toStr)] [] fun r9 o9=>NT r9<|.aj ((r9.comp 0)=.agg (r9.comp 0).cs/\aL [.lk .str,.vec 1,.lk .str] ((r9.comp 0).cs) 0 0 o9)<|NB (r9.comp 1)<|.aj (∀x,x∈o9->dL x)<|.aj (af (mk [118,97,108,117,101,32])+af ((r1.comp 1).toStr)<=9223372036854775807)<|.aj (af (((mk [118,97,108,117,101,32]):ByteArray)++((r1.comp 1).toStr))+af (mk [10,97,108,108,10,107,105,100,115,10])<=9223372036854775807)<|.test (!((r9.comp 1).toBool)) (.done 0 [VB (ae ((r1.comp 0).toStr)==ae (((r2.comp 0).cs.getD 0 .any).toStr))] []) (.test (decide ((af (((((mk [118,97,108,117,101,32]):ByteArray)++((r1.comp 1).toStr)):ByteArray)++(mk [10,97,108,108,10,107,105,100,115,10])):Int)>(900:Int))) (.done 0 [VB (ae ((r1.comp 0).toStr)==ae (((r2.comp 0).cs.getD 0 .any).toStr))] []) (.call 9 [VS (((((mk [118,97,108,117,101,32]):ByteArray)++((r1.comp 1).toStr)):ByteArray)++(mk [10,97,108,108,10,107,105,100,115,10]))] [] fun r10 o10=>NS r10<|.aj (af (mk [111,107,10])+af ((r1.comp 1).toStr)<=9223372036854775807)<|.aj (af (((mk [111,107,10]):ByteArray)++((r1.comp 1).toStr))+af (mk [10])<=9223372036854775807)<|.call 11 [.agg [VS (((r9.comp 0).cs.getD 0 .any).toStr),.sl ((o9.hO).es),VS (((r9.comp 0).cs.getD 2 .any).toStr)]] [] fun r11 o11=>NI r11<|.call 10 [VI r11.toInt] [] fun r12 o12=>NS r12<|.aj (af (((((mk [111,107,10]):ByteArray)++((r1.comp 1).toStr)):ByteArray)++(mk [10]))+af r12.toStr<=9223372036854775807)<|.aj (af (((((((mk [111,107,10]):ByteArray)++((r1.comp 1).toStr)):ByteArray)++(mk [10])):ByteArray)++r12.toStr)+af (mk [10,110,111,100,101,115,32])<=9223372036854775807)<|.call 12 [VS ((r1.comp 1).toStr)] [] fun r13 o13=>NI r13<|.call 10 [VI r13.toInt] [] fun r14 o14=>NS r14<|.aj (af (((((((((mk [111,107,10]):ByteArray)++((r1.comp 1).toStr)):ByteArray)++(mk [10])):ByteArray)++r12.toStr):ByteArray)++(mk [10,110,111,100,101,115,32]))+af r14.toStr<=9223372036854775807)<|.aj (af (((((((((((mk [111,107,10]):ByteArray)++((r1.comp 1).toStr)):ByteArray)++(mk [10])):ByteArray)++r12.toStr):ByteArray)++(mk [10,110,111,100,101,115,32])):ByteArray)++r14.toStr)+af (mk [10])<=9223372036854775807)<|.done 0 [VB (ae r10.toStr==ae (((((((((((((mk [111,107,10]):ByteArray)++((r1.comp 1).toStr)):ByteArray)++(mk [10])):ByteArray)++r12.toStr):ByteArray)++(mk [10,110,111,100,101,115,32])):ByteArray)++r14.toStr):ByteArray)++(mk [10])))] []))))))
theorem Oi(a0:AV)(ha0:LK.has .sl a0)(h:dj 89 (LB a0) R):an Tryz.prog 3 [a0] [] R :=
 uQ (ah (bT ha0) aD) (oQ [] Tryz.f3 h)
def IV(a0:AV):Tree :=
 .call 14 [a0] [] fun r1 o1=>.aj (r1=.ref 0 0/\(o1.hO)=.cells (o1.hO).cs/\(o1.hO).cs.length=2/\bF [.sl,.int .i64] ((o1.hO).cs) 0)<|.call 13 [.ref 0 0] [.cells [((o1.hO).cs.getD 0 .any),VI (((o1.hO).cs.getD 1 .any).toInt)]] fun r2 o2=>.aj ((o2.hO)=.cells (o2.hO).cs)<|.aj (aL [.lk .sl,.lk (.int .i64)] ((o2.hO).cs) 0 1 o2.tail)<|NT r2<|NS (r2.comp 0)<|NS (r2.comp 1)<|.done 0 [.cy [VS ((r2.comp 0).toStr),VS ((r2.comp 1).toStr)]] []
theorem OV(a0:AV)(ha0:LK.has .sl a0)(h:dj 9 (IV a0) R):an Tryz.prog 4 [a0] [] R :=
 uQ (ah (bT ha0) aD) (oQ [] Tryz.f4 h)
def Ma(a0:ByteArray)(a1:ByteArray):Tree :=
 .call 16 [.agg [VS a0,.v (.slice none 0 0),VS a1]] [] fun r1 o1=>NP r1<|.call 15 [r1] [] fun r2 o2=>NT r2<|.aj ((r2.comp 0)=.agg (r2.comp 0).cs/\aL [.lk .str,.vec 1,.lk .str] ((r2.comp 0).cs) 0 0 o2)<|NB (r2.comp 1)<|.aj (∀x,x∈o2->dL x)<|.done 0 [.cy [.agg [VS (((r2.comp 0).cs.getD 0 .any).toStr),.vec 0,VS (((r2.comp 0).cs.getD 2 .any).toStr)],VB ((r2.comp 1).toBool)]] [.vec 1 ((o2.hO).es)]
theorem OG(a0:ByteArray)(a1:ByteArray)(h:dj 13 (Ma a0 a1) R):an Tryz.prog 5 [VS a0,VS a1] [] R :=
 uQ (ah (aA _) (ah (aA _) aD)) (oF [] {mu:=[],own:=[0],oa:=[.lk .str,.vec 1,.lk .str]} Tryz.f5 h)
def LO(a0:ByteArray)(a1:ByteArray):Tree :=
 .call 17 [.agg [VS a0,.vec 0,VS a1]] [.vec 1 []] fun r1 o1=>NT r1<|.aj ((r1.comp 0)=.agg (r1.comp 0).cs/\aL [.lk .str,.vec 1,.lk .str] ((r1.comp 0).cs) 0 1 o1.tail)<|NB (r1.comp 1)<|.done 0 [.cy [.agg [VS (((r1.comp 0).cs.getD 0 .any).toStr),.vec 0,VS (((r1.comp 0).cs.getD 2 .any).toStr)],VB ((r1.comp 1).toBool)]] [.vec 1 ((o1.tail.hO).es)]
theorem Qb(a0:ByteArray)(a1:ByteArray)(h:dj 13 (LO a0 a1) R):an Tryz.prog 6 [VS a0,VS a1] [] R :=
 uQ (ah (aA _) (ah (aA _) aD)) (oF [] {mu:=[],own:=[0],oa:=[.lk .str,.vec 1,.lk .str]} Tryz.f6 h)
def KM(a0_0:ByteArray)(a0_1:AV)(a0_2:ByteArray)(a1_0:ByteArray)(a1_1:AV)(a1_2:ByteArray):Tree :=
 .test (ae a0_0==ae a1_0) (.test (ae a0_2==ae a1_2) (.call 18 [a0_1,a1_1] [] fun r1 o1=>NB r1<|.done 0 [VB r1.toBool] []) (.done 0 [VB false] [])) (.done 0 [VB false] [])
theorem Ri(a0_0:ByteArray)(a0_1:AV)(a0_2:ByteArray)(a1_0:ByteArray)(a1_1:AV)(a1_2:ByteArray)(ha0_1:LK.has .sl a0_1)(ha1_1:LK.has .sl a1_1)(h:dj 24 (KM a0_0 a0_1 a0_2 a1_0 a1_1 a1_2) R):an Tryz.prog 7 [.agg [VS a0_0,a0_1,VS a0_2],.agg [VS a1_0,a1_1,VS a1_2]] [] R :=
 uQ (ah (cj (ah (aA _) (ah (bT ha0_1) (ah (aA _) aD)))) (ah (cj (ah (aA _) (ah (bT ha1_1) (ah (aA _) aD)))) aD)) (oQ [] Tryz.f7 h)
def MI :Tree :=
 .done 0 [VS (mk [40,114,101,99,32,116,48,32,40,43,32,49,32,40,42,32,120,32,116,48,41,41,41])] []
theorem N9(h:dj 1 (MI ) R):an Tryz.prog 8 [] [] R :=
 uQ aD (oQ [] Tryz.f8 h)
def F2:LI:={hd:={bZ:=[(4,.k .str),(26,.k .sl),(27,.k (.int .i64)),(28,.k (.int .i64))],refs:=[(3,12)],cr:=[(12,[.lk .str,.vec 1,.lk .str])]},xs:={bZ:=[(4,.k .str)],refs:=[(3,12)],cr:=[(12,[.lk .str,.vec 1,.lk .str])]},rt:={},ex:=0}
def KZ:Code:=db (cQ Tryz.f9) 8
def Kb:List (Nat×LI):=[(8,F2)]
def MF(a0:ByteArray):Tree :=
 .test (decide ((af a0:Int)>(900:Int))) (.done 0 [VS (mk [116,111,111,32,108,111,110,103,10])] []) (.call 5 [VS (mk [40,114,101,99,32,116,48,32,40,43,32,49,32,40,42,32,120,32,116,48,41,41,41]),VS (mk [40,102,32,40,108,32,117,41,41])] [] fun r1 o1=>NT r1<|.aj ((r1.comp 0)=.agg (r1.comp 0).cs/\aL [.lk .str,.vec 1,.lk .str] ((r1.comp 0).cs) 0 0 o1)<|NB (r1.comp 1)<|.aj (∀x,x∈o1->dL x)<|.call 19 [VS a0,VS (mk [10])] [] fun r2 o2=>NL r2<|NL r2<|.aj (LK.has .sl r2/\0<=(0:Int)/\(0:Int)<=(IntKind.wrap .i64 ((r2.elems.length:Int)-1))/\(IntKind.wrap .i64 ((r2.elems.length:Int)-1))<=(r2.elems.length:Int))<|.loop KZ F2 [VS (mk []),.sl ((r2.elems.take (bq (IntKind.wrap .i64 ((r2.elems.length:Int)-1)))).drop (bq 0)),VI (((r2.elems.take (bq (IntKind.wrap .i64 ((r2.elems.length:Int)-1)))).drop (bq 0)).length:Int),VI 0] [.cells [VS (((r1.comp 0).cs.getD 0 .any).toStr),.any,VS (((r1.comp 0).cs.getD 2 .any).toStr)],.vec 1 ((o1.hO).es)] (fun y4 q4=>NS (y4.hA)<|.aj ((q4.hO)=.cells (q4.hO).cs)<|.aj (ag [.lk .str,.vec 1,.lk .str] ((q4.hO).cs) 0 q4.tail)<|.aj (af ((y4.hA).toStr)+af (mk [110,111,100,101,115,32])<=9223372036854775807)<|.call 12 [VS (((q4.hO).cs.getD 2 .any).toStr)] [] fun r5 o5=>NI r5<|.call 21 [VI r5.toInt] [] fun r6 o6=>NS r6<|.aj (af ((((y4.hA).toStr):ByteArray)++(mk [110,111,100,101,115,32]))+af r6.toStr<=9223372036854775807)<|.aj (af ((((((y4.hA).toStr):ByteArray)++(mk [110,111,100,101,115,32])):ByteArray)++r6.toStr)+af (mk [10])<=9223372036854775807)<|.done 0 [VS ((((((((y4.hA).toStr):ByteArray)++(mk [110,111,100,101,115,32])):ByteArray)++r6.toStr):ByteArray)++(mk [10]))] []) (fun y4 q4=>.done 0 [.any] []))
theorem Pj(a0:ByteArray)(h:dj 50 (MF a0) R):an Tryz.prog 9 [VS a0] [] R :=
 uQ (ah (aA _) aD) (oQ Kb Tryz.f9 h)
def GU(x4:ByteArray)(x26:AV)(x27:Int)(x28:Int)(o12_0:ByteArray)(o12_1:List (List AV))(o12_2:ByteArray):Tree :=
 NS (VS x4)<|NL x26<|NI (VI x27)<|NI (VI x28)<|.aj (Ob.cells [VS o12_0,.any,VS o12_2]=.cells [VS o12_0,.any,VS o12_2])<|.aj (ag [.lk .str,.vec 1,.lk .str] [VS o12_0,.any,VS o12_2] 0 [.vec 1 o12_1])<|.test (decide (x28<x27)) (NG x26 x28 1<|kS (x26.ix x28)<|.call 20 [.ref 0 0,VS (((x26.ix x28).hA).toStr)] [.cells [VS o12_0,.vec 1,VS o12_2],.vec 1 o12_1] fun r1 o1=>.aj ((o1.hO)=.cells (o1.hO).cs)<|.aj (aL [.lk .str,.vec 1,.lk .str] ((o1.hO).cs) 0 1 o1.tail)<|NS r1<|.aj (af r1.toStr+af (mk [10])<=9223372036854775807)<|.aj (af x4+af ((r1.toStr:ByteArray)++(mk [10]))<=9223372036854775807)<|.done 0 [VS ((x4:ByteArray)++((r1.toStr:ByteArray)++(mk [10]))),x26,VI x27,VI (IntKind.wrap .i64 (x28+1))] [.cells [VS (((o1.hO).cs.getD 0 .any).toStr),.any,VS (((o1.hO).cs.getD 2 .any).toStr)],.vec 1 ((o1.tail.hO).es)]) (.done 1 [VS x4] [.cells [VS o12_0,.any,VS o12_2],.vec 1 o12_1])
abbrev BY:=cH Tryz.prog 50 KZ F2
theorem Kt(x4:ByteArray)(x26:AV)(x27:Int)(x28:Int)(o12_0:ByteArray)(o12_1:List (List AV))(o12_2:ByteArray)(h:mi 50 (GU x4 x26 x27 x28 o12_0 o12_1 o12_2) BY U):BY [VS x4,x26,VI x27,VI x28] [.cells [VS o12_0,.any,VS o12_2],.vec 1 o12_1] U :=
 gQ Kb h
def LS(a0:Int):Tree :=
 .test (decide (a0<(10:Int))) (.aj (im [[.v (.int .u8 (IntKind.wrap .u8 (IntKind.wrap .i64 (48+a0))))]])<|.done 0 [VS (⟨(bytesOf [[.v (.int .u8 (IntKind.wrap .u8 (IntKind.wrap .i64 (48+a0))))]]).toArray⟩)] []) (.aj (¬(10:Int)=0)<|.call 10 [VI (IntKind.wrap .i64 (Int.tdiv a0 10))] [] fun r1 o1=>NS r1<|.aj (¬(10:Int)=0)<|.aj (im [[.v (.int .u8 (IntKind.wrap .u8 (IntKind.wrap .i64 (48+(da a0 10)))))]])<|.aj (af r1.toStr+af (⟨(bytesOf [[.v (.int .u8 (IntKind.wrap .u8 (IntKind.wrap .i64 (48+(da a0 10)))))]]).toArray⟩)<=9223372036854775807)<|.done 0 [VS ((r1.toStr:ByteArray)++(⟨(bytesOf [[.v (.int .u8 (IntKind.wrap .u8 (IntKind.wrap .i64 (48+(da a0 10)))))]]).toArray⟩))] [])
theorem Oy(a0:Int)(h:dj 20 (LS a0) R):an Tryz.prog 10 [VI a0] [] R :=
 uQ (ah (aA _) aD) (oQ [] Tryz.f10 h)
def I7(a0_0:ByteArray)(a0_1:AV)(a0_2:ByteArray):Tree :=
 .call 22 [.agg [VS a0_0,a0_1,VS a0_2]] [] fun r1 o1=>NP r1<|NP r1<|.test r1.isNil (.done 0 [VI (-1)] []) (NZ r1<|NZ r1<|dV (r1.deref.drop 1)<|NZ r1<|NZ r1<|dV (r1.deref.drop 3)<|.call 23 [((r1.deref.drop 1).hA),((r1.deref.drop 3).hA)] [] fun r2 o2=>NL r2<|NL r2<|.done 0 [VI (r2.elems.length:Int)] [])
theorem Ot(a0_0:ByteArray)(a0_1:AV)(a0_2:ByteArray)(ha0_1:LK.has .sl a0_1)(h:dj 18 (I7 a0_0 a0_1 a0_2) R):an Tryz.prog 11 [.agg [VS a0_0,a0_1,VS a0_2]] [] R :=
 uQ (ah (cj (ah (aA _) (ah (bT ha0_1) (ah (aA _) aD)))) aD) (oQ [] Tryz.f11 h)
def Ip(a0:ByteArray):Tree :=
 .call 24 [VS a0] [] fun r1 o1=>NP r1<|NP r1<|.test r1.isNil (.done 0 [VI (-1)] []) (.call 25 [r1] [] fun r2 o2=>NI r2<|.done 0 [VI r2.toInt] [])
theorem Od(a0:ByteArray)(h:dj 10 (Ip a0) R):an Tryz.prog 12 [VS a0] [] R :=
 uQ (ah (aA _) aD) (oQ [] Tryz.f12 h)
def MW(a0_0:AV)(a0_1:Int):Tree :=
 .call 26 [.ref 0 0] [.cells [a0_0,VI a0_1]] fun r1 o1=>.aj ((o1.hO)=.cells (o1.hO).cs)<|.aj (aL [.lk .sl,.lk (.int .i64)] ((o1.hO).cs) 0 1 o1.tail)<|NS r1<|.call 27 [.ref 0 0,VI 12] [.cells [((o1.hO).cs.getD 0 .any),VI (((o1.hO).cs.getD 1 .any).toInt)]] fun r2 o2=>.aj ((o2.hO)=.cells (o2.hO).cs)<|.aj (aL [.lk .sl,.lk (.int .i64)] ((o2.hO).cs) 0 1 o2.tail)<|NI r2<|.test (r2.toInt==(0:Int)) (.call 28 [.ref 0 0] [.cells [((o2.hO).cs.getD 0 .any),VI (((o2.hO).cs.getD 1 .any).toInt)]] fun r3 o3=>.aj ((o3.hO)=.cells (o3.hO).cs)<|.aj (aL [.lk .sl,.lk (.int .i64)] ((o3.hO).cs) 0 1 o3.tail)<|NT r3<|NS (r3.comp 0)<|NS (r3.comp 1)<|.done 0 [.cy [VS ((r3.comp 0).toStr),VS ((r3.comp 1).toStr)]] [.cells [((o3.hO).cs.getD 0 .any),VI (((o3.hO).cs.getD 1 .any).toInt)]]) (.call 29 [.ref 0 0,VS r1.toStr] [.cells [((o2.hO).cs.getD 0 .any),VI (((o2.hO).cs.getD 1 .any).toInt)]] fun r4 o4=>.aj ((o4.hO)=.cells (o4.hO).cs)<|.aj (aL [.lk .sl,.lk (.int .i64)] ((o4.hO).cs) 0 1 o4.tail)<|NS r4<|.done 0 [.cy [VS r1.toStr,VS r4.toStr]] [.cells [((o4.hO).cs.getD 0 .any),VI (((o4.hO).cs.getD 1 .any).toInt)]])
theorem N4(a0_0:AV)(a0_1:Int)(ha0_0:LK.has .sl a0_0)(h:dj 18 (MW a0_0 a0_1) R):an Tryz.prog 13 [.ref 0 0] [.cells [a0_0,VI a0_1]] R :=
 an.nf (bm (bU (ah (bT ha0_0) (ah (aA _) aD))) ct) (an.up (ah (aA _) aD) (oF [] {mu:=[(0,.one (.obj [.lk .sl,.lk (.int .i64)]))],own:=[]} Tryz.f13 h))
def MM(a0:AV):Tree :=
 NL a0<|.test (decide ((a0.elems.length:Int)>(2000:Int))) (.aj (LK.has .sl a0/\0<=(0:Int)/\(0:Int)<=(2000:Int)/\(2000:Int)<=(a0.elems.length:Int))<|.done 0 [.ref 0 0] [.cells [.sl ((a0.elems.take (bq 2000)).drop (bq 0)),VI 0]]) (.done 0 [.ref 0 0] [.cells [a0,VI 0]])
theorem QN(a0:AV)(ha0:LK.has .sl a0)(h:dj 11 (MM a0) R):an Tryz.prog 14 [a0] [] R :=
 uQ (ah (bT ha0) aD) (oF [] {mu:=[],own:=[0],ow:=[.sl,.int .i64]} Tryz.f14 h)
def Hh:LI:={hd:={bZ:=[(23,.k .sl),(24,.k (.int .i64)),(25,.k (.int .i64))],refs:=[(2,2),(4,4)],cr:=[(2,[.lk .str,.lk .sl,.lk .str]),(4,[.lk .str,.vec 1,.lk .str])]},xs:={refs:=[(2,2),(4,4)],cr:=[(2,[.lk .str,.lk .sl,.lk .str]),(4,[.lk .str,.vec 1,.lk .str])]},rt:={},ex:=0}
def Lz:Code:=db (cQ Tryz.f15) 5
def K1:List (Nat×LI):=[(5,Hh)]
def Mc(a0:AV):Tree :=
 NP a0<|.test a0.isNil (.done 0 [.cy [.agg [VS (mk []),.vec 0,VS (mk [])],VB false]] [.vec 1 []]) (NZ a0<|NZ a0<|.aj (LK.has .str (a0.deref.hA)/\1<=a0.deref.length)<|NZ a0<|NZ a0<|dV (a0.deref.drop 3)<|.call 30 [((a0.deref.drop 3).hA)] [] fun r1 o1=>NS r1<|NZ a0<|NZ a0<|oT (a0.deref.drop 2)<|NL ((a0.deref.drop 2).hA)<|.loop Lz Hh [((a0.deref.drop 2).hA),VI ((((a0.deref.drop 2).hA).elems).length:Int),VI 0] [.cells [VS (mk []),.v (.slice none 0 0),VS (mk [])],.cells [VS ((a0.deref.hA).toStr),.any,VS r1.toStr],.vec 1 []] (fun y4 q4=>.aj ((q4.hO)=.cells (q4.hO).cs)<|.aj (ag [.lk .str,.lk .sl,.lk .str] ((q4.hO).cs) 0 q4.tail)<|.aj (((q4.tail.drop 0).hO)=.cells ((q4.tail.drop 0).hO).cs)<|.aj (ag [.lk .str,.vec 1,.lk .str] (((q4.tail.drop 0).hO).cs) 0 ((q4.tail.drop 0).tail))<|.done 0 [.cy [.agg [VS (((q4.tail.hO).cs.getD 0 .any).toStr),.vec 0,VS (((q4.tail.hO).cs.getD 2 .any).toStr)],VB true]] [.vec 1 ((q4.tail.tail.hO).es)]) (fun y4 q4=>.fail))
theorem OE(a0:AV)(ha0:LK.has .ptr a0)(h:dj 38 (Mc a0) R):an Tryz.prog 15 [a0] [] R :=
 uQ (ah (bA ha0) aD) (oF K1 {mu:=[],own:=[0],oa:=[.lk .str,.vec 1,.lk .str]} Tryz.f15 h)
def F9(x23:AV)(x24:Int)(x25:Int)(o2_0:ByteArray)(o2_1:AV)(o2_2:ByteArray)(o4_0:ByteArray)(o4_1:List (List AV))(o4_2:ByteArray):Tree :=
 NL x23<|NI (VI x24)<|NI (VI x25)<|.aj (Ob.cells [VS o2_0,o2_1,VS o2_2]=.cells [VS o2_0,o2_1,VS o2_2])<|.aj (ag [.lk .str,.lk .sl,.lk .str] [VS o2_0,o2_1,VS o2_2] 0 [.cells [VS o4_0,.any,VS o4_2],.vec 1 o4_1])<|.aj (Ob.cells [VS o4_0,.any,VS o4_2]=.cells [VS o4_0,.any,VS o4_2])<|.aj (ag [.lk .str,.vec 1,.lk .str] [VS o4_0,.any,VS o4_2] 0 [.vec 1 o4_1])<|.test (decide (x25<x24)) (NG x23 x25 1<|dV (x23.ix x25)<|.call 30 [((x23.ix x25).hA)] [] fun r1 o1=>NS r1<|.aj (cV 1 [[VS r1.toStr]]/\((o4_1.length)+([[VS r1.toStr]]:List (List AV)).length)*16<=140737488355328)<|.done 0 [x23,VI x24,VI (IntKind.wrap .i64 (x25+1))] [.cells [VS o2_0,o2_1,VS o2_2],.cells [VS o4_0,.any,VS o4_2],.vec 1 (o4_1++([[VS r1.toStr]]:List (List AV)))]) (.done 1 [] [.cells [VS o2_0,o2_1,VS o2_2],.cells [VS o4_0,.any,VS o4_2],.vec 1 o4_1])
abbrev Hj:=cH Tryz.prog 38 Lz Hh
theorem JZ(x23:AV)(x24:Int)(x25:Int)(o2_0:ByteArray)(o2_1:AV)(o2_2:ByteArray)(o4_0:ByteArray)(o4_1:List (List AV))(o4_2:ByteArray)(h:mi 38 (F9 x23 x24 x25 o2_0 o2_1 o2_2 o4_0 o4_1 o4_2) Hj U):Hj [x23,VI x24,VI x25] [.cells [VS o2_0,o2_1,VS o2_2],.cells [VS o4_0,.any,VS o4_2],.vec 1 o4_1] U :=
 gQ K1 h
def Fx:LI:={hd:={bZ:=[(5,.k .str),(45,.k .sl),(46,.k (.int .i64)),(47,.k (.int .i64))],refs:=[(7,43)],cr:=[(43,[.lk .str,.lk .ptr,.vec 1,.lk .ptr])]},xs:={refs:=[(7,43)],cr:=[(43,[.lk .str,.lk .ptr,.vec 1,.lk .ptr])]},rt:={bZ:=[(2,.k .ptr)]},ex:=0}
def Md:Code:=db (cQ Tryz.f16) 7
def IZ:List (Nat×LI):=[(7,Fx)]
def II(a0_0:ByteArray)(a0_1:AV)(a0_2:ByteArray):Tree :=
 .call 31 [VS a0_0,VS a0_2] [] fun r1 o1=>NT r1<|NP (r1.comp 0)<|NP (r1.comp 1)<|.call 32 [VS a0_0] [] fun r2 o2=>NT r2<|NS (r2.comp 0)<|NB (r2.comp 1)<|NP (r1.comp 1)<|.test ((r1.comp 1).isNil) (.done 0 [.v (.pointer none)] []) (.test (!((r2.comp 1).toBool)) (.done 0 [.v (.pointer none)] []) (NL a0_1<|.test (decide ((a0_1.elems.length:Int)>(50:Int))) (.done 0 [.v (.pointer none)] []) (NL a0_1<|.loop Md Fx [VS ((r2.comp 0).toStr),a0_1,VI (a0_1.elems.length:Int),VI 0] [.cells [VS a0_0,(r1.comp 0),.any,(r1.comp 1)],.vec 1 []] (fun y5 q5=>.aj ((q5.hO)=.cells (q5.hO).cs)<|.aj (ag [.lk .str,.lk .ptr,.vec 1,.lk .ptr] ((q5.hO).cs) 0 q5.tail)<|.done 0 [.ptr [VS (((q5.hO).cs.getD 0 .any).toStr),((q5.hO).cs.getD 1 .any),.sl ((q5.tail.hO).es),((q5.hO).cs.getD 3 .any)]] []) (fun y5 q5=>NP (y5.hA)<|.done 0 [(y5.hA)] []))))
theorem Qr(a0_0:ByteArray)(a0_1:AV)(a0_2:ByteArray)(ha0_1:LK.has .sl a0_1)(h:dj 71 (II a0_0 a0_1 a0_2) R):an Tryz.prog 16 [.agg [VS a0_0,a0_1,VS a0_2]] [] R :=
 uQ (ah (cj (ah (aA _) (ah (bT ha0_1) (ah (aA _) aD)))) aD) (oQ IZ Tryz.f16 h)
def Gi(x5:ByteArray)(x45:AV)(x46:Int)(x47:Int)(o43_0:ByteArray)(o43_1:AV)(o43_2:List (List AV))(o43_3:AV):Tree :=
 NS (VS x5)<|NL x45<|NI (VI x46)<|NI (VI x47)<|.aj (Ob.cells [VS o43_0,o43_1,.any,o43_3]=.cells [VS o43_0,o43_1,.any,o43_3])<|.aj (ag [.lk .str,.lk .ptr,.vec 1,.lk .ptr] [VS o43_0,o43_1,.any,o43_3] 0 [.vec 1 o43_2])<|.test (decide (x47<x46)) (NG x45 x47 1<|kS (x45.ix x47)<|.call 33 [VS x5,VS (((x45.ix x47).hA).toStr),VI 100] [] fun r1 o1=>NT r1<|NP (r1.comp 0)<|NP (r1.comp 1)<|NP (r1.comp 1)<|.test ((r1.comp 1).isNil) (.done 2 [.v (.pointer none)] []) (.aj (cV 1 [[(r1.comp 1)]]/\((o43_2.length)+([[(r1.comp 1)]]:List (List AV)).length)*8<=140737488355328)<|.done 0 [VS x5,x45,VI x46,VI (IntKind.wrap .i64 (x47+1))] [.cells [VS o43_0,o43_1,.any,o43_3],.vec 1 (o43_2++([[(r1.comp 1)]]:List (List AV)))])) (.done 1 [] [.cells [VS o43_0,o43_1,.any,o43_3],.vec 1 o43_2])
abbrev GI:=cH Tryz.prog 71 Md Fx
theorem Iu(x5:ByteArray)(x45:AV)(x46:Int)(x47:Int)(o43_0:ByteArray)(o43_1:AV)(o43_2:List (List AV))(o43_3:AV)(h:mi 71 (Gi x5 x45 x46 x47 o43_0 o43_1 o43_2 o43_3) GI U):GI [VS x5,x45,VI x46,VI x47] [.cells [VS o43_0,o43_1,.any,o43_3],.vec 1 o43_2] U :=
 gQ IZ h
def Ku(a0_0:ByteArray)(e0:List (List AV))(a0_2:ByteArray):Tree :=
 .call 34 [.agg [VS a0_0,.sl e0,VS a0_2]] [] fun r1 o1=>NB r1<|.test (!r1.toBool) (.done 0 [.cy [.agg [VS (mk []),.vec 1,VS (mk [])],VB false]] [.dead,.vec 1 []]) (.done 0 [.cy [.agg [VS a0_0,.vec 1,VS a0_2],VB true]] [.dead,.vec 1 e0])
theorem QK(a0_0:ByteArray)(e0:List (List AV))(a0_2:ByteArray)(h:dj 9 (Ku a0_0 e0 a0_2) R):an Tryz.prog 17 [.agg [VS a0_0,.vec 0,VS a0_2]] [.vec 1 e0] R :=
 an.nf (bm (eH _) ct) (an.up (ah (aA _) aD) (oF [] {mu:=[(0,.one (.sn [.lk .str,.vec 1,.lk .str]))],own:=[0],oa:=[.lk .str,.vec 1,.lk .str]} Tryz.f17 h))
def GW:LI:={hd:={bZ:=[(0,.k .sl),(1,.k .sl),(5,.k (.int .i64))]},xs:={},rt:={bZ:=[(4,.k .bool)]},ex:=0}
def Ln:Code:=db (cQ Tryz.f18) 4
def Mb:List (Nat×LI):=[(4,GW)]
def MS(a0:AV)(a1:AV):Tree :=
 NL a0<|NL a1<|.test ((a0.elems.length:Int) != (a1.elems.length:Int)) (.done 0 [VB false] []) (.loop Ln GW [a0,a1,VI 0] [] (fun y1 q1=>.done 0 [VB true] []) (fun y1 q1=>NB (y1.hA)<|.done 0 [VB ((y1.hA).toBool)] []))
theorem OM(a0:AV)(a1:AV)(ha0:LK.has .sl a0)(ha1:LK.has .sl a1)(h:dj 26 (MS a0 a1) R):an Tryz.prog 18 [a0,a1] [] R :=
 uQ (ah (bT ha0) (ah (bT ha1) aD)) (oQ Mb Tryz.f18 h)
def F6(x0:AV)(x1:AV)(x5:Int):Tree :=
 NL x0<|NL x1<|NI (VI x5)<|NL x0<|.test (decide (x5<(x0.elems.length:Int))) (NG x0 x5 1<|kS (x0.ix x5)<|NG x1 x5 1<|kS (x1.ix x5)<|.test (!(ae (((x0.ix x5).hA).toStr)==ae (((x1.ix x5).hA).toStr))) (.done 2 [VB false] []) (.done 0 [x0,x1,VI (IntKind.wrap .i64 (x5+1))] [])) (.done 1 [] [])
abbrev Gg:=cH Tryz.prog 26 Ln GW
theorem M5(x0:AV)(x1:AV)(x5:Int)(h:mi 26 (F6 x0 x1 x5) Gg U):Gg [x0,x1,VI x5] [] U :=
 gQ Mb h
def JB:LI:={hd:={bZ:=[(9,.k .bool),(94,.k (.int .i64)),(95,.k (.int .i64))],cr:=[(0,[.lk .str,.vec 1,.lk .str])],gK:=[(10,1),(93,1)]},xs:={bZ:=[(9,.k .bool)],cr:=[(0,[.lk .str,.vec 1,.lk .str])],gK:=[(10,1)]},rt:={cr:=[(0,[.lk .str,.vec 1,.lk .str])]},ex:=1,fx:=[0]}
def Pk:Code:=db (cQ Tryz.f20) 21
def Qp:List (Nat×LI):=[(21,JB)]
def DJ(a0_0:ByteArray)(e0_1:List (List AV))(a0_2:ByteArray)(a1:ByteArray):Tree :=
 .call 36 [VS a1,VS (mk [32])] [] fun r1 o1=>.aj (r1=.cy [r1.comp 0,r1.comp 1,r1.comp 2])<|NS (r1.comp 0)<|NS (r1.comp 1)<|NB (r1.comp 2)<|.test ((r1.comp 2).toBool) (.call 37 [.ref 0 0,VS ((r1.comp 0).toStr),VS ((r1.comp 1).toStr)] [.cells [VS a0_0,.vec 1,VS a0_2],.vec 1 e0_1] fun r2 o2=>.aj ((o2.hO)=.cells (o2.hO).cs)<|.aj (aL [.lk .str,.vec 1,.lk .str] ((o2.hO).cs) 0 1 o2.tail)<|NS r2<|.done 0 [VS r2.toStr] [.cells [VS (((o2.hO).cs.getD 0 .any).toStr),.vec 1,VS (((o2.hO).cs.getD 2 .any).toStr)],.vec 1 ((o2.tail.hO).es)]) (.test (ae ((r1.comp 0).toStr)==ae (mk [117,112])) (.call 39 [.agg [VS a0_0,.sl e0_1,VS a0_2]] [] fun r3 o3=>NT r3<|.aj ((r3.comp 0)=.agg (r3.comp 0).cs/\aL [.lk .str,.vec 1,.lk .str] ((r3.comp 0).cs) 0 0 o3)<|NB (r3.comp 1)<|.aj (∀x,x∈o3->dL x)<|.call 38 [.ref 0 0,.agg [VS (((r3.comp 0).cs.getD 0 .any).toStr),.vec 2,VS (((r3.comp 0).cs.getD 2 .any).toStr)],VB ((r3.comp 1).toBool)] [.cells [VS a0_0,.vec 1,VS a0_2],.vec 1 e0_1,.vec 1 ((o3.hO).es)] fun r4 o4=>.aj ((o4.hO)=.cells (o4.hO).cs)<|.aj (aL [.lk .str,.vec 1,.lk .str] ((o4.hO).cs) 0 1 o4.tail)<|NS r4<|.done 0 [VS r4.toStr] [.cells [VS (((o4.hO).cs.getD 0 .any).toStr),.vec 1,VS (((o4.hO).cs.getD 2 .any).toStr)],.vec 1 ((o4.tail.hO).es)]) (.test (ae ((r1.comp 0).toStr)==ae (mk [108,101,102,116])) (.call 40 [.agg [VS a0_0,.sl e0_1,VS a0_2],VI (-1)] [] fun r5 o5=>NT r5<|.aj ((r5.comp 0)=.agg (r5.comp 0).cs/\aL [.lk .str,.vec 1,.lk .str] ((r5.comp 0).cs) 0 0 o5)<|NB (r5.comp 1)<|.aj (∀x,x∈o5->dL x)<|.call 38 [.ref 0 0,.agg [VS (((r5.comp 0).cs.getD 0 .any).toStr),.vec 2,VS (((r5.comp 0).cs.getD 2 .any).toStr)],VB ((r5.comp 1).toBool)] [.cells [VS a0_0,.vec 1,VS a0_2],.vec 1 e0_1,.vec 1 ((o5.hO).es)] fun r6 o6=>.aj ((o6.hO)=.cells (o6.hO).cs)<|.aj (aL [.lk .str,.vec 1,.lk .str] ((o6.hO).cs) 0 1 o6.tail)<|NS r6<|.done 0 [VS r6.toStr] [.cells [VS (((o6.hO).cs.getD 0 .any).toStr),.vec 1,VS (((o6.hO).cs.getD 2 .any).toStr)],.vec 1 ((o6.tail.hO).es)]) (.test (ae ((r1.comp 0).toStr)==ae (mk [114,105,103,104,116])) (.call 40 [.agg [VS a0_0,.sl e0_1,VS a0_2],VI 1] [] fun r7 o7=>NT r7<|.aj ((r7.comp 0)=.agg (r7.comp 0).cs/\aL [.lk .str,.vec 1,.lk .str] ((r7.comp 0).cs) 0 0 o7)<|NB (r7.comp 1)<|.aj (∀x,x∈o7->dL x)<|.call 38 [.ref 0 0,.agg [VS (((r7.comp 0).cs.getD 0 .any).toStr),.vec 2,VS (((r7.comp 0).cs.getD 2 .any).toStr)],VB ((r7.comp 1).toBool)] [.cells [VS a0_0,.vec 1,VS a0_2],.vec 1 e0_1,.vec 1 ((o7.hO).es)] fun r8 o8=>.aj ((o8.hO)=.cells (o8.hO).cs)<|.aj (aL [.lk .str,.vec 1,.lk .str] ((o8.hO).cs) 0 1 o8.tail)<|NS r8<|.done 0 [VS r8.toStr] [.cells [VS (((o8.hO).cs.getD 0 .any).toStr),.vec 1,VS (((o8.hO).cs.getD 2 .any).toStr)],.vec 1 ((o8.tail.hO).es)]) (.test (ae ((r1.comp 0).toStr)==ae (mk [115,104,111,119])) (.done 0 [VS a0_2] [.cells [VS a0_0,.vec 1,VS a0_2],.vec 1 e0_1]) (.test (ae ((r1.comp 0).toStr)==ae (mk [97,108,108])) (.call 42 [.agg [VS a0_0,.sl e0_1,VS a0_2]] [] fun r9 o9=>NT r9<|NS (r9.comp 0)<|NB (r9.comp 1)<|.call 41 [VS ((r9.comp 0).toStr),VB ((r9.comp 1).toBool)] [] fun r10 o10=>NS r10<|.done 0 [VS r10.toStr] [.cells [VS a0_0,.vec 1,VS a0_2],.vec 1 e0_1]) (.test (ae ((r1.comp 0).toStr)==ae (mk [116,121,112,101])) (.done 0 [VS a0_0] [.cells [VS a0_0,.vec 1,VS a0_2],.vec 1 e0_1]) (.test (ae ((r1.comp 0).toStr)==ae (mk [112,108,97,99,101])) (.call 43 [.agg [VS a0_0,.sl e0_1,VS a0_2]] [] fun r11 o11=>NT r11<|.aj (r11.comp 0=.vec 0/\(o11.hO)=.vec 1 (o11.hO).es)<|NB (r11.comp 1)<|.aj (∀x,x∈o11->dL x)<|.loop Pk JB [VB ((r11.comp 1).toBool),VI (((o11.hO).es).length:Int),VI 0] [.cells [VS a0_0,.any,VS a0_2],.vec 1 e0_1,.vec 1 [],.vec 1 ((o11.hO).es)] (fun y13 q13=>NB (y13.hA)<|.aj ((q13.hO)=.cells (q13.hO).cs)<|.aj (ag [.lk .str,.vec 1,.lk .str] ((q13.hO).cs) 0 q13.tail)<|.aj (((q13.drop 2).hO)=.vec 1 ((q13.drop 2).hO).es)<|.test ((((q13.tail.tail.hO).es).length:Int)==(0:Int)) (.aj (cV 1 [[VS (mk [116,111,112])]]/\((((q13.tail.tail.hO).es).length)+([[VS (mk [116,111,112])]]:List (List AV)).length)*16<=140737488355328)<|.call 44 [.sl (((q13.tail.tail.hO).es)++([[VS (mk [116,111,112])]]:List (List AV))),VS (mk [32])] [] fun r14 o14=>NS r14<|.call 41 [VS r14.toStr,VB ((y13.hA).toBool)] [] fun r15 o15=>NS r15<|.done 0 [VS r15.toStr] [.cells [VS (((q13.hO).cs.getD 0 .any).toStr),.vec 1,VS (((q13.hO).cs.getD 2 .any).toStr)],.vec 1 ((q13.tail.hO).es)]) (.call 44 [.sl ((q13.tail.tail.hO).es),VS (mk [32])] [] fun r16 o16=>NS r16<|.call 41 [VS r16.toStr,VB ((y13.hA).toBool)] [] fun r17 o17=>NS r17<|.done 0 [VS r17.toStr] [.cells [VS (((q13.hO).cs.getD 0 .any).toStr),.vec 1,VS (((q13.hO).cs.getD 2 .any).toStr)],.vec 1 ((q13.tail.hO).es)])) (fun y13 q13=>.aj ((q13.hO)=.cells (q13.hO).cs)<|.aj (ag [.lk .str,.vec 1,.lk .str] ((q13.hO).cs) 0 q13.tail)<|.done 0 [.any] [.cells [VS (((q13.hO).cs.getD 0 .any).toStr),.vec 1,VS (((q13.hO).cs.getD 2 .any).toStr)],.vec 1 ((q13.tail.hO).es)])) (.test (ae ((r1.comp 0).toStr)==ae (mk [107,105,100,115])) (.call 11 [.agg [VS a0_0,.sl e0_1,VS a0_2]] [] fun r18 o18=>NI r18<|.call 45 [VI r18.toInt] [] fun r19 o19=>NS r19<|.done 0 [VS r19.toStr] [.cells [VS a0_0,.vec 1,VS a0_2],.vec 1 e0_1]) (.test (ae ((r1.comp 0).toStr)==ae (mk [108,111,111,112])) (.call 32 [VS a0_0] [] fun r20 o20=>NT r20<|NS (r20.comp 0)<|NB (r20.comp 1)<|.call 41 [VS ((r20.comp 0).toStr),VB ((r20.comp 1).toBool)] [] fun r21 o21=>NS r21<|.done 0 [VS r21.toStr] [.cells [VS a0_0,.vec 1,VS a0_2],.vec 1 e0_1]) (.done 0 [VS (mk [119,104,97,116])] [.cells [VS a0_0,.vec 1,VS a0_2],.vec 1 e0_1]))))))))))
theorem Gz(a0_0:ByteArray)(e0_1:List (List AV))(a0_2:ByteArray)(a1:ByteArray)(h:dj 134 (DJ a0_0 e0_1 a0_2 a1) R):an Tryz.prog 20 [.ref 0 0,VS a1] [.cells [VS a0_0,.vec 1,VS a0_2],.vec 1 e0_1] R :=
 an.nf (bm (bU (ah (aA _) (ah (aA _) (ah (aA _) aD)))) (bm (eH _) ct)) (an.up (ah (aA _) (ah (aA _) aD)) (oF Qp {mu:=[(0,.one (.obj [.lk .str,.vec 1,.lk .str]))],own:=[]} Tryz.f20 h))
def Gp:LI:={hd:={bZ:=[(3,.k .ptr),(4,.k .ptr)]},xs:={bZ:=[(3,.k .ptr)]},rt:={bZ:=[(2,.k .ptr)]},ex:=0}
def Mq:Code:=db (cQ Tryz.f22) 5
def Mz:List (Nat×LI):=[(5,Gp)]
def MN(a0_0:ByteArray)(a0_1:AV)(a0_2:ByteArray):Tree :=
 .call 16 [.agg [VS a0_0,a0_1,VS a0_2]] [] fun r1 o1=>NP r1<|NP r1<|.test r1.isNil (.done 0 [.v (.pointer none)] []) (.loop Mq Gp [r1,r1] [] (fun y3 q3=>NP (y3.hA)<|.done 0 [(y3.hA)] []) (fun y3 q3=>NP (y3.hA)<|.done 0 [(y3.hA)] []))
theorem PR(a0_0:ByteArray)(a0_1:AV)(a0_2:ByteArray)(ha0_1:LK.has .sl a0_1)(h:dj 21 (MN a0_0 a0_1 a0_2) R):an Tryz.prog 22 [.agg [VS a0_0,a0_1,VS a0_2]] [] R :=
 uQ (ah (cj (ah (aA _) (ah (bT ha0_1) (ah (aA _) aD)))) aD) (oQ Mz Tryz.f22 h)
def EV(x3:AV)(x4:AV):Tree :=
 NP x3<|NP x4<|NZ x4<|NZ x4<|oT (x4.deref.drop 2)<|NL ((x4.deref.drop 2).hA)<|.test (decide (((((x4.deref.drop 2).hA).elems).length:Int)>(0:Int))) (.call 47 [x4] [] fun r1 o1=>NP r1<|NP r1<|.test r1.isNil (.done 2 [.v (.pointer none)] []) (.done 0 [x3,r1] [])) (.done 1 [x3] [])
abbrev HF:=cH Tryz.prog 21 Mq Gp
theorem Jf(x3:AV)(x4:AV)(h:mi 21 (EV x3 x4) HF U):HF [x3,x4] [] U :=
 gQ Mz h
def IN(a0:AV)(a1:AV):Tree :=
 .call 48 [.agg [a0,.v (.pointer none)]] [] fun r1 o1=>NT r1<|.aj ((r1.comp 0)=.agg (r1.comp 0).cs/\(r1.comp 0).cs.length=2/\bF [.ptr,.ptr] ((r1.comp 0).cs) 0)<|NP (r1.comp 1)<|NZ a1<|NZ a1<|dV (a1.deref.drop 2)<|.call 49 [.agg [((r1.comp 0).cs.getD 0 .any),((r1.comp 0).cs.getD 1 .any)],((a1.deref.drop 2).hA),.agg [VS (mk []),(r1.comp 1)]] [] fun r2 o2=>NL r2<|.done 0 [r2] []
theorem PI(a0:AV)(a1:AV)(ha0:LK.has .ptr a0)(ha1:LK.has .ptr a1)(h:dj 21 (IN a0 a1) R):an Tryz.prog 23 [a0,a1] [] R :=
 uQ (ah (bA ha0) (ah (bA ha1) aD)) (oQ [] Tryz.f23 h)
def I8(a0:ByteArray):Tree :=
 .call 50 [VS a0] [] fun r1 o1=>NP r1<|NP r1<|.test r1.isNil (.done 0 [.v (.pointer none)] []) (.call 51 [r1] [] fun r2 o2=>NP r2<|NP r2<|.test r2.isNil (.done 0 [.v (.pointer none)] []) (.call 25 [r2] [] fun r3 o3=>NI r3<|.test (decide (r3.toInt>(200:Int))) (.done 0 [.v (.pointer none)] []) (.done 0 [r2] [])))
theorem Pd(a0:ByteArray)(h:dj 19 (I8 a0) R):an Tryz.prog 24 [VS a0] [] R :=
 uQ (ah (aA _) aD) (oQ [] Tryz.f24 h)
def Fb(a0:AV):Tree :=
 NZ a0<|NZ a0<|dV (a0.deref.drop 2)<|NP ((a0.deref.drop 2).hA)<|.test (!((a0.deref.drop 2).hA).isNil) (NZ a0<|NZ a0<|dV (a0.deref.drop 2)<|.call 25 [((a0.deref.drop 2).hA)] [] fun r1 o1=>NI r1<|NZ a0<|NZ a0<|dV (a0.deref.drop 3)<|NP ((a0.deref.drop 3).hA)<|.test (!((a0.deref.drop 3).hA).isNil) (NZ a0<|NZ a0<|dV (a0.deref.drop 3)<|.call 25 [((a0.deref.drop 3).hA)] [] fun r2 o2=>NI r2<|.done 0 [VI (IntKind.wrap .i64 ((IntKind.wrap .i64 (1+r1.toInt))+r2.toInt))] []) (.done 0 [VI (IntKind.wrap .i64 (1+r1.toInt))] [])) (NZ a0<|NZ a0<|dV (a0.deref.drop 3)<|NP ((a0.deref.drop 3).hA)<|.test (!((a0.deref.drop 3).hA).isNil) (NZ a0<|NZ a0<|dV (a0.deref.drop 3)<|.call 25 [((a0.deref.drop 3).hA)] [] fun r3 o3=>NI r3<|.done 0 [VI (IntKind.wrap .i64 (1+r3.toInt))] []) (.done 0 [VI 1] []))
theorem yX(a0:AV)(ha0:LK.has .ptr a0)(h:dj 29 (Fb a0) R):an Tryz.prog 25 [a0] [] R :=
 uQ (ah (bA ha0) aD) (oQ [] Tryz.f25 h)
def Kn(a0_0:AV)(a0_1:Int):Tree :=
 .call 52 [.ref 0 0,.sl [[VS (mk [40,114,101,99,32,116,32,40,43,32,49,32,40,42,32,120,32,116,41,41,41])],[VS (mk [40,114,101,99,32,116,32,40,43,32,120,32,40,42,32,116,32,116,41,41,41])],[VS (mk [40,114,101,99,32,116,32,40,43,32,49,32,40,42,32,116,32,40,42,32,120,32,116,41,41,41,41])],[VS (mk [40,114,101,99,32,116,32,40,43,32,49,32,116,41,41])],[VS (mk [40,114,101,99,32,116,32,40,42,32,120,32,40,114,101,99,32,116,49,32,40,43,32,49,32,40,42,32,116,32,116,49,41,41,41,41,41])],[VS (mk [40,114,101,99,32,116,48,32,40,43,32,40,42,32,120,32,121,41,32,40,43,32,116,48,32,40,42,32,116,48,32,116,48,41,41,41,41])],[VS (mk [40,114,101,99,32,116,32,40,43,32,121,32,40,42,32,116,32,40,42,32,116,32,116,41,41,41,41])]]] [.cells [a0_0,VI a0_1]] fun r1 o1=>.aj ((o1.hO)=.cells (o1.hO).cs)<|.aj (aL [.lk .sl,.lk (.int .i64)] ((o1.hO).cs) 0 1 o1.tail)<|NS r1<|.done 0 [VS r1.toStr] [.cells [((o1.hO).cs.getD 0 .any),VI (((o1.hO).cs.getD 1 .any).toInt)]]
theorem Qv(a0_0:AV)(a0_1:Int)(ha0_0:LK.has .sl a0_0)(h:dj 6 (Kn a0_0 a0_1) R):an Tryz.prog 26 [.ref 0 0] [.cells [a0_0,VI a0_1]] R :=
 an.nf (bm (bU (ah (bT ha0_0) (ah (aA _) aD))) ct) (an.up (ah (aA _) aD) (oF [] {mu:=[(0,.one (.obj [.lk .sl,.lk (.int .i64)]))],own:=[]} Tryz.f26 h))
def KC(a0_0:AV)(a0_1:Int)(a1:Int):Tree :=
 .test (decide (a1<(1:Int))) (.done 0 [VI 0] [.cells [a0_0,VI (IntKind.wrap .i64 (a0_1+1))]]) (NL a0_0<|.test ((a0_0.elems.length:Int)==(0:Int)) (.done 0 [VI 0] [.cells [a0_0,VI (IntKind.wrap .i64 (a0_1+1))]]) (NL a0_0<|.test (decide ((IntKind.wrap .i64 ((IntKind.wrap .i64 (a0_1+1))-1))<(a0_0.elems.length:Int))) (.aj (LK.has .sl a0_0/\0<=(IntKind.wrap .i64 ((IntKind.wrap .i64 (a0_1+1))-1))/\(IntKind.wrap .i64 ((IntKind.wrap .i64 (a0_1+1))-1))<a0_0.elems.length/\(a0_0.ix (IntKind.wrap .i64 ((IntKind.wrap .i64 (a0_1+1))-1))).length=1)<|.aj (LK.has (.int .u8) ((a0_0.ix (IntKind.wrap .i64 ((IntKind.wrap .i64 (a0_1+1))-1))).hA)/\1<=(a0_0.ix (IntKind.wrap .i64 ((IntKind.wrap .i64 (a0_1+1))-1))).length)<|.aj (¬a1=0)<|.done 0 [VI (da (IntKind.wrap .i64 (((a0_0.ix (IntKind.wrap .i64 ((IntKind.wrap .i64 (a0_1+1))-1))).hA).toInt)) a1)] [.cells [a0_0,VI (IntKind.wrap .i64 (a0_1+1))]]) (NL a0_0<|.aj (¬(a0_0.elems.length:Int)=0)<|.aj (LK.has .sl a0_0/\0<=(da (IntKind.wrap .i64 ((IntKind.wrap .i64 (a0_1+1))-1)) (a0_0.elems.length:Int))/\(da (IntKind.wrap .i64 ((IntKind.wrap .i64 (a0_1+1))-1)) (a0_0.elems.length:Int))<a0_0.elems.length/\(a0_0.ix (da (IntKind.wrap .i64 ((IntKind.wrap .i64 (a0_1+1))-1)) (a0_0.elems.length:Int))).length=1)<|.aj (LK.has (.int .u8) ((a0_0.ix (da (IntKind.wrap .i64 ((IntKind.wrap .i64 (a0_1+1))-1)) (a0_0.elems.length:Int))).hA)/\1<=(a0_0.ix (da (IntKind.wrap .i64 ((IntKind.wrap .i64 (a0_1+1))-1)) (a0_0.elems.length:Int))).length)<|NL a0_0<|.aj (¬(a0_0.elems.length:Int)=0)<|.aj (LK.has .sl a0_0/\0<=(da (IntKind.wrap .i64 ((IntKind.wrap .i64 ((IntKind.wrap .i64 ((IntKind.wrap .i64 (a0_1+1))-1))*7))+3)) (a0_0.elems.length:Int))/\(da (IntKind.wrap .i64 ((IntKind.wrap .i64 ((IntKind.wrap .i64 ((IntKind.wrap .i64 (a0_1+1))-1))*7))+3)) (a0_0.elems.length:Int))<a0_0.elems.length/\(a0_0.ix (da (IntKind.wrap .i64 ((IntKind.wrap .i64 ((IntKind.wrap .i64 ((IntKind.wrap .i64 (a0_1+1))-1))*7))+3)) (a0_0.elems.length:Int))).length=1)<|.aj (LK.has (.int .u8) ((a0_0.ix (da (IntKind.wrap .i64 ((IntKind.wrap .i64 ((IntKind.wrap .i64 ((IntKind.wrap .i64 (a0_1+1))-1))*7))+3)) (a0_0.elems.length:Int))).hA)/\1<=(a0_0.ix (da (IntKind.wrap .i64 ((IntKind.wrap .i64 ((IntKind.wrap .i64 ((IntKind.wrap .i64 (a0_1+1))-1))*7))+3)) (a0_0.elems.length:Int))).length)<|NL a0_0<|.aj (¬(a0_0.elems.length:Int)=0)<|.aj (¬(64:Int)=0)<|.aj (¬a1=0)<|.done 0 [VI (da (A8 .i64 (IntKind.wrap .i64 ((IntKind.wrap .i64 ((IntKind.wrap .i64 ((IntKind.wrap .i64 ((IntKind.wrap .i64 (((a0_0.ix (da (IntKind.wrap .i64 ((IntKind.wrap .i64 (a0_1+1))-1)) (a0_0.elems.length:Int))).hA).toInt))*131))+(IntKind.wrap .i64 ((IntKind.wrap .i64 (((a0_0.ix (da (IntKind.wrap .i64 ((IntKind.wrap .i64 ((IntKind.wrap .i64 ((IntKind.wrap .i64 (a0_1+1))-1))*7))+3)) (a0_0.elems.length:Int))).hA).toInt))*1117))))+(IntKind.wrap .i64 ((IntKind.wrap .i64 ((IntKind.wrap .i64 (a0_1+1))-1))*29))))+(IntKind.wrap .i64 ((IntKind.wrap .i64 (Int.tdiv (IntKind.wrap .i64 ((IntKind.wrap .i64 (a0_1+1))-1)) (a0_0.elems.length:Int)))*53)))) (IntKind.wrap .i64 (Int.tdiv (IntKind.wrap .i64 ((IntKind.wrap .i64 ((IntKind.wrap .i64 ((IntKind.wrap .i64 ((IntKind.wrap .i64 (((a0_0.ix (da (IntKind.wrap .i64 ((IntKind.wrap .i64 (a0_1+1))-1)) (a0_0.elems.length:Int))).hA).toInt))*131))+(IntKind.wrap .i64 ((IntKind.wrap .i64 (((a0_0.ix (da (IntKind.wrap .i64 ((IntKind.wrap .i64 ((IntKind.wrap .i64 ((IntKind.wrap .i64 (a0_1+1))-1))*7))+3)) (a0_0.elems.length:Int))).hA).toInt))*1117))))+(IntKind.wrap .i64 ((IntKind.wrap .i64 ((IntKind.wrap .i64 (a0_1+1))-1))*29))))+(IntKind.wrap .i64 ((IntKind.wrap .i64 (Int.tdiv (IntKind.wrap .i64 ((IntKind.wrap .i64 (a0_1+1))-1)) (a0_0.elems.length:Int)))*53)))) 64))) a1)] [.cells [a0_0,VI (IntKind.wrap .i64 (a0_1+1))]])))
theorem QH(a0_0:AV)(a0_1:Int)(a1:Int)(ha0_0:LK.has .sl a0_0)(h:dj 99 (KC a0_0 a0_1 a1) R):an Tryz.prog 27 [.ref 0 0,VI a1] [.cells [a0_0,VI a0_1]] R :=
 an.nf (bm (bU (ah (bT ha0_0) (ah (aA _) aD))) ct) (an.up (ah (aA _) (ah (aA _) aD)) (oF [] {mu:=[(0,.one (.obj [.lk .sl,.lk (.int .i64)]))],own:=[]} Tryz.f27 h))
def H9(a0_0:AV)(a0_1:Int):Tree :=
 .call 53 [.ref 0 0] [.cells [a0_0,VI a0_1]] fun r1 o1=>.aj ((o1.hO)=.cells (o1.hO).cs)<|.aj (aL [.lk .sl,.lk (.int .i64)] ((o1.hO).cs) 0 1 o1.tail)<|NS r1<|.call 29 [.ref 0 0,VS r1.toStr] [.cells [((o1.hO).cs.getD 0 .any),VI (((o1.hO).cs.getD 1 .any).toInt)]] fun r2 o2=>.aj ((o2.hO)=.cells (o2.hO).cs)<|.aj (aL [.lk .sl,.lk (.int .i64)] ((o2.hO).cs) 0 1 o2.tail)<|NS r2<|.done 0 [.cy [VS r1.toStr,VS r2.toStr]] [.cells [((o2.hO).cs.getD 0 .any),VI (((o2.hO).cs.getD 1 .any).toInt)]]
theorem Qd(a0_0:AV)(a0_1:Int)(ha0_0:LK.has .sl a0_0)(h:dj 11 (H9 a0_0 a0_1) R):an Tryz.prog 28 [.ref 0 0] [.cells [a0_0,VI a0_1]] R :=
 an.nf (bm (bU (ah (bT ha0_0) (ah (aA _) aD))) ct) (an.up (ah (aA _) aD) (oF [] {mu:=[(0,.one (.obj [.lk .sl,.lk (.int .i64)]))],own:=[]} Tryz.f28 h))
def LH(a0_0:AV)(a0_1:Int)(a1:ByteArray):Tree :=
 .call 54 [VS a1] [] fun r1 o1=>NT r1<|.aj ((r1.comp 0)=.agg (r1.comp 0).cs/\(r1.comp 0).cs.length=2/\bF [.str,.sl] ((r1.comp 0).cs) 0)<|NB (r1.comp 1)<|.test (!((r1.comp 1).toBool)) (.call 52 [.ref 0 0,.sl [[VS (mk [])],[VS (mk [117])],[VS (mk [101,48])],[VS (mk [101,48,48])],[VS (mk [101,49,48,48])],[VS (mk [40,108,32,117,41])],[VS (mk [40,112,32,117,41])],[VS (mk [40,102,32,40,108,32,117,41,41])],[VS (mk [40,120,32,117,41])],[VS (mk [40,108,32,32,117,41])]]] [.cells [a0_0,VI a0_1]] fun r2 o2=>.aj ((o2.hO)=.cells (o2.hO).cs)<|.aj (aL [.lk .sl,.lk (.int .i64)] ((o2.hO).cs) 0 1 o2.tail)<|NS r2<|.done 0 [VS r2.toStr] [.cells [((o2.hO).cs.getD 0 .any),VI (((o2.hO).cs.getD 1 .any).toInt)]]) (.call 27 [.ref 0 0,VI 16] [.cells [a0_0,VI a0_1]] fun r3 o3=>.aj ((o3.hO)=.cells (o3.hO).cs)<|.aj (aL [.lk .sl,.lk (.int .i64)] ((o3.hO).cs) 0 1 o3.tail)<|NI r3<|.test (r3.toInt==(0:Int)) (.call 52 [.ref 0 0,.sl [[VS (mk [])],[VS (mk [117])],[VS (mk [101,48])],[VS (mk [101,48,48])],[VS (mk [101,49,48,48])],[VS (mk [40,108,32,117,41])],[VS (mk [40,112,32,117,41])],[VS (mk [40,102,32,40,108,32,117,41,41])],[VS (mk [40,120,32,117,41])],[VS (mk [40,108,32,32,117,41])]]] [.cells [((o3.hO).cs.getD 0 .any),VI (((o3.hO).cs.getD 1 .any).toInt)]] fun r4 o4=>.aj ((o4.hO)=.cells (o4.hO).cs)<|.aj (aL [.lk .sl,.lk (.int .i64)] ((o4.hO).cs) 0 1 o4.tail)<|NS r4<|.done 0 [VS r4.toStr] [.cells [((o4.hO).cs.getD 0 .any),VI (((o4.hO).cs.getD 1 .any).toInt)]]) (.call 57 [.agg [VS (((r1.comp 0).cs.getD 0 .any).toStr),((r1.comp 0).cs.getD 1 .any)],.v (.slice none 0 0)] [] fun r5 o5=>NA r5<|.call 27 [.ref 0 0,VI 5] [.cells [((o3.hO).cs.getD 0 .any),VI (((o3.hO).cs.getD 1 .any).toInt)]] fun r6 o6=>.aj ((o6.hO)=.cells (o6.hO).cs)<|.aj (aL [.lk .sl,.lk (.int .i64)] ((o6.hO).cs) 0 1 o6.tail)<|NI r6<|.call 56 [.ref 0 0,.agg [VS ((r5.cs.getD 0 .any).toStr),(r5.cs.getD 1 .any)],VI (IntKind.wrap .i64 (5+r6.toInt))] [.cells [((o6.hO).cs.getD 0 .any),VI (((o6.hO).cs.getD 1 .any).toInt)]] fun r7 o7=>.aj ((o7.hO)=.cells (o7.hO).cs)<|.aj (aL [.lk .sl,.lk (.int .i64)] ((o7.hO).cs) 0 1 o7.tail)<|NA r7<|.call 55 [.agg [VS ((r7.cs.getD 0 .any).toStr),(r7.cs.getD 1 .any)]] [] fun r8 o8=>NS r8<|.done 0 [VS r8.toStr] [.cells [((o7.hO).cs.getD 0 .any),VI (((o7.hO).cs.getD 1 .any).toInt)]]))
theorem OZ(a0_0:AV)(a0_1:Int)(a1:ByteArray)(ha0_0:LK.has .sl a0_0)(h:dj 30 (LH a0_0 a0_1 a1) R):an Tryz.prog 29 [.ref 0 0,VS a1] [.cells [a0_0,VI a0_1]] R :=
 an.nf (bm (bU (ah (bT ha0_0) (ah (aA _) aD))) ct) (an.up (ah (aA _) (ah (aA _) aD)) (oF [] {mu:=[(0,.one (.obj [.lk .sl,.lk (.int .i64)]))],own:=[]} Tryz.f29 h))
def wQ(a0:AV):Tree :=
 NZ a0<|NZ a0<|.aj (LK.has (.int .u8) (a0.deref.hA)/\1<=a0.deref.length)<|.test (((a0.deref.hA).toInt)==(117:Int)) (.done 0 [VS (mk [117])] []) (.test (((a0.deref.hA).toInt)==(101:Int)) (NZ a0<|NZ a0<|kS (a0.deref.drop 1)<|.done 0 [VS (((a0.deref.drop 1).hA).toStr)] []) (.test (((a0.deref.hA).toInt)==(112:Int)) (NZ a0<|NZ a0<|dV (a0.deref.drop 2)<|.call 30 [((a0.deref.drop 2).hA)] [] fun r1 o1=>NS r1<|.aj (af (mk [40,112,32])+af r1.toStr<=9223372036854775807)<|.aj (af (((mk [40,112,32]):ByteArray)++r1.toStr)+af (mk [32])<=9223372036854775807)<|NZ a0<|NZ a0<|dV (a0.deref.drop 3)<|.call 30 [((a0.deref.drop 3).hA)] [] fun r2 o2=>NS r2<|.aj (af (((((mk [40,112,32]):ByteArray)++r1.toStr):ByteArray)++(mk [32]))+af r2.toStr<=9223372036854775807)<|.aj (af (((((((mk [40,112,32]):ByteArray)++r1.toStr):ByteArray)++(mk [32])):ByteArray)++r2.toStr)+af (mk [41])<=9223372036854775807)<|.done 0 [VS (((((((((mk [40,112,32]):ByteArray)++r1.toStr):ByteArray)++(mk [32])):ByteArray)++r2.toStr):ByteArray)++(mk [41]))] []) (NZ a0<|NZ a0<|.aj (LK.has (.int .u8) (a0.deref.hA)/\1<=a0.deref.length)<|.aj (im [[.v (.int .u8 ((a0.deref.hA).toInt))]])<|.aj (af (mk [40])+af (⟨(bytesOf [[.v (.int .u8 ((a0.deref.hA).toInt))]]).toArray⟩)<=9223372036854775807)<|.aj (af (((mk [40]):ByteArray)++(⟨(bytesOf [[.v (.int .u8 ((a0.deref.hA).toInt))]]).toArray⟩))+af (mk [32])<=9223372036854775807)<|NZ a0<|NZ a0<|dV (a0.deref.drop 2)<|.call 30 [((a0.deref.drop 2).hA)] [] fun r3 o3=>NS r3<|.aj (af (((((mk [40]):ByteArray)++(⟨(bytesOf [[.v (.int .u8 ((a0.deref.hA).toInt))]]).toArray⟩)):ByteArray)++(mk [32]))+af r3.toStr<=9223372036854775807)<|.aj (af (((((((mk [40]):ByteArray)++(⟨(bytesOf [[.v (.int .u8 ((a0.deref.hA).toInt))]]).toArray⟩)):ByteArray)++(mk [32])):ByteArray)++r3.toStr)+af (mk [41])<=9223372036854775807)<|.done 0 [VS (((((((((mk [40]):ByteArray)++(⟨(bytesOf [[.v (.int .u8 ((a0.deref.hA).toInt))]]).toArray⟩)):ByteArray)++(mk [32])):ByteArray)++r3.toStr):ByteArray)++(mk [41]))] [])))
theorem zc(a0:AV)(ha0:LK.has .ptr a0)(h:dj 46 (wQ a0) R):an Tryz.prog 30 [a0] [] R :=
 uQ (ah (bA ha0) aD) (oQ [] Tryz.f30 h)
def Mm(a0:ByteArray)(a1:ByteArray):Tree :=
 .call 58 [VS a0] [] fun r1 o1=>NP r1<|NP r1<|.test r1.isNil (.done 0 [.cy [.v (.pointer none),.v (.pointer none)]] []) (.call 33 [VS a0,VS a1,VI 100] [] fun r2 o2=>NT r2<|NP (r2.comp 0)<|NP (r2.comp 1)<|.done 0 [.cy [(r2.comp 0),(r2.comp 1)]] [])
theorem OD(a0:ByteArray)(a1:ByteArray)(h:dj 14 (Mm a0 a1) R):an Tryz.prog 31 [VS a0,VS a1] [] R :=
 uQ (ah (aA _) (ah (aA _) aD)) (oQ [] Tryz.f31 h)
def H6(a0:ByteArray):Tree :=
 .call 59 [VS a0] [] fun r1 o1=>NP r1<|NP r1<|.test r1.isNil (.done 0 [.cy [VS (mk []),VB false]] []) (NZ r1<|NZ r1<|.aj (LK.has (.int .u8) (r1.deref.hA)/\1<=r1.deref.length)<|.test (((r1.deref.hA).toInt) != (114:Int)) (.done 0 [.cy [VS (mk []),VB false]] []) (.call 60 [r1] [] fun r2 o2=>NT r2<|NP (r2.comp 0)<|NB (r2.comp 1)<|.test (!((r2.comp 1).toBool)) (.done 0 [.cy [VS (mk []),VB false]] []) (.call 61 [(r2.comp 0)] [] fun r3 o3=>NT r3<|NS (r3.comp 0)<|NB (r3.comp 1)<|.done 0 [.cy [VS ((r3.comp 0).toStr),VB ((r3.comp 1).toBool)]] [])))
theorem PH(a0:ByteArray)(h:dj 29 (H6 a0) R):an Tryz.prog 32 [VS a0] [] R :=
 uQ (ah (aA _) aD) (oQ [] Tryz.f32 h)
def Mx(a0:ByteArray)(a1:ByteArray)(a2:Int):Tree :=
 .call 62 [VS a0] [] fun r1 o1=>NP r1<|.call 24 [VS a1] [] fun r2 o2=>NP r2<|NP r1<|.test r1.isNil (.done 0 [.cy [r1,.v (.pointer none)]] []) (NP r2<|.test r2.isNil (.done 0 [.cy [r1,.v (.pointer none)]] []) (.test (decide (a2<(0:Int))) (.done 0 [.cy [r1,.v (.pointer none)]] []) (.test (decide (a2>(100:Int))) (.done 0 [.cy [r1,.v (.pointer none)]] []) (.call 63 [.agg [r1,.v (.pointer none)],r2,VI a2] [] fun r3 o3=>NB r3<|.test (!r3.toBool) (.done 0 [.cy [r1,.v (.pointer none)]] []) (.done 0 [.cy [r1,r2]] [])))))
theorem Pf(a0:ByteArray)(a1:ByteArray)(a2:Int)(h:dj 39 (Mx a0 a1 a2) R):an Tryz.prog 33 [VS a0,VS a1,VI a2] [] R :=
 uQ (ah (aA _) (ah (aA _) (ah (aA _) aD))) (oQ [] Tryz.f33 h)
def L7(a0_0:ByteArray)(a0_1:AV)(a0_2:ByteArray):Tree :=
 .call 64 [.agg [VS a0_0,a0_1,VS a0_2]] [] fun r1 o1=>NB r1<|.test (!r1.toBool) (.done 0 [VB false] []) (.call 65 [.agg [VS a0_0,a0_1,VS a0_2]] [] fun r2 o2=>NT r2<|.aj ((r2.comp 0)=.agg (r2.comp 0).cs/\(r2.comp 0).cs.length=3/\bF [.str,.sl,.str] ((r2.comp 0).cs) 0)<|NB (r2.comp 1)<|.done 0 [VB ((r2.comp 1).toBool)] [])
theorem Qa(a0_0:ByteArray)(a0_1:AV)(a0_2:ByteArray)(ha0_1:LK.has .sl a0_1)(h:dj 14 (L7 a0_0 a0_1 a0_2) R):an Tryz.prog 34 [.agg [VS a0_0,a0_1,VS a0_2]] [] R :=
 uQ (ah (cj (ah (aA _) (ah (bT ha0_1) (ah (aA _) aD)))) aD) (oQ [] Tryz.f34 h)
def HZ(a0_0:ByteArray)(e0_1:List (List AV))(a0_2:ByteArray)(a1:ByteArray)(a2:ByteArray):Tree :=
 .test (ae a1==ae (mk [111,112,101,110])) (.call 70 [VS a2,VI 1,VI 9] [] fun r1 o1=>NT r1<|NL (r1.comp 0)<|NB (r1.comp 1)<|.test (!((r1.comp 1).toBool)) (.done 0 [VS (mk [110,111])] [.cells [VS a0_0,.vec 1,VS a0_2],.vec 1 e0_1]) (NL (r1.comp 0)<|.test ((((r1.comp 0).elems).length:Int)==(0:Int)) (.done 0 [VS (mk [110,111])] [.cells [VS a0_0,.vec 1,VS a0_2],.vec 1 e0_1]) (NG (r1.comp 0) 0 1<|kS ((r1.comp 0).ix (0:Int))<|.call 5 [VS a2,VS ((((r1.comp 0).ix (0:Int)).hA).toStr)] [] fun r2 o2=>NT r2<|.aj ((r2.comp 0)=.agg (r2.comp 0).cs/\aL [.lk .str,.vec 1,.lk .str] ((r2.comp 0).cs) 0 0 o2)<|NB (r2.comp 1)<|.aj (∀x,x∈o2->dL x)<|.call 38 [.ref 0 0,.agg [VS (((r2.comp 0).cs.getD 0 .any).toStr),.vec 2,VS (((r2.comp 0).cs.getD 2 .any).toStr)],VB ((r2.comp 1).toBool)] [.cells [VS a0_0,.vec 1,VS a0_2],.vec 1 e0_1,.vec 1 ((o2.hO).es)] fun r3 o3=>.aj ((o3.hO)=.cells (o3.hO).cs)<|.aj (aL [.lk .str,.vec 1,.lk .str] ((o3.hO).cs) 0 1 o3.tail)<|NS r3<|.done 0 [VS r3.toStr] [.cells [VS (((o3.hO).cs.getD 0 .any).toStr),.vec 1,VS (((o3.hO).cs.getD 2 .any).toStr)],.vec 1 ((o3.tail.hO).es)]))) (.test (ae a1==ae (mk [118,97,108,117,101])) (.call 5 [VS a0_0,VS a2] [] fun r4 o4=>NT r4<|.aj ((r4.comp 0)=.agg (r4.comp 0).cs/\aL [.lk .str,.vec 1,.lk .str] ((r4.comp 0).cs) 0 0 o4)<|NB (r4.comp 1)<|.aj (∀x,x∈o4->dL x)<|.call 38 [.ref 0 0,.agg [VS (((r4.comp 0).cs.getD 0 .any).toStr),.vec 2,VS (((r4.comp 0).cs.getD 2 .any).toStr)],VB ((r4.comp 1).toBool)] [.cells [VS a0_0,.vec 1,VS a0_2],.vec 1 e0_1,.vec 1 ((o4.hO).es)] fun r5 o5=>.aj ((o5.hO)=.cells (o5.hO).cs)<|.aj (aL [.lk .str,.vec 1,.lk .str] ((o5.hO).cs) 0 1 o5.tail)<|NS r5<|.done 0 [VS r5.toStr] [.cells [VS (((o5.hO).cs.getD 0 .any).toStr),.vec 1,VS (((o5.hO).cs.getD 2 .any).toStr)],.vec 1 ((o5.tail.hO).es)]) (.test (ae a1==ae (mk [100,111,119,110])) (.call 72 [VS a2] [] fun r6 o6=>NI r6<|.call 71 [.agg [VS a0_0,.sl e0_1,VS a0_2],VI r6.toInt] [] fun r7 o7=>NT r7<|.aj ((r7.comp 0)=.agg (r7.comp 0).cs/\aL [.lk .str,.vec 1,.lk .str] ((r7.comp 0).cs) 0 0 o7)<|NB (r7.comp 1)<|.aj (∀x,x∈o7->dL x)<|.call 38 [.ref 0 0,.agg [VS (((r7.comp 0).cs.getD 0 .any).toStr),.vec 2,VS (((r7.comp 0).cs.getD 2 .any).toStr)],VB ((r7.comp 1).toBool)] [.cells [VS a0_0,.vec 1,VS a0_2],.vec 1 e0_1,.vec 1 ((o7.hO).es)] fun r8 o8=>.aj ((o8.hO)=.cells (o8.hO).cs)<|.aj (aL [.lk .str,.vec 1,.lk .str] ((o8.hO).cs) 0 1 o8.tail)<|NS r8<|.done 0 [VS r8.toStr] [.cells [VS (((o8.hO).cs.getD 0 .any).toStr),.vec 1,VS (((o8.hO).cs.getD 2 .any).toStr)],.vec 1 ((o8.tail.hO).es)]) (.test (ae a1==ae (mk [115,101,116])) (.call 73 [.agg [VS a0_0,.sl e0_1,VS a0_2],VS a2] [] fun r9 o9=>NT r9<|.aj ((r9.comp 0)=.agg (r9.comp 0).cs/\aL [.lk .str,.vec 1,.lk .str] ((r9.comp 0).cs) 0 0 o9)<|NB (r9.comp 1)<|.aj (∀x,x∈o9->dL x)<|.call 38 [.ref 0 0,.agg [VS (((r9.comp 0).cs.getD 0 .any).toStr),.vec 2,VS (((r9.comp 0).cs.getD 2 .any).toStr)],VB ((r9.comp 1).toBool)] [.cells [VS a0_0,.vec 1,VS a0_2],.vec 1 e0_1,.vec 1 ((o9.hO).es)] fun r10 o10=>.aj ((o10.hO)=.cells (o10.hO).cs)<|.aj (aL [.lk .str,.vec 1,.lk .str] ((o10.hO).cs) 0 1 o10.tail)<|NS r10<|.done 0 [VS r10.toStr] [.cells [VS (((o10.hO).cs.getD 0 .any).toStr),.vec 1,VS (((o10.hO).cs.getD 2 .any).toStr)],.vec 1 ((o10.tail.hO).es)]) (.test (ae a1==ae (mk [100,101,114,105,118])) (.call 74 [VS a0_0,VS a2] [] fun r11 o11=>NT r11<|NS (r11.comp 0)<|NB (r11.comp 1)<|.call 41 [VS ((r11.comp 0).toStr),VB ((r11.comp 1).toBool)] [] fun r12 o12=>NS r12<|.done 0 [VS r12.toStr] [.cells [VS a0_0,.vec 1,VS a0_2],.vec 1 e0_1]) (.test (ae a1==ae (mk [104,111,108,101,115])) (.call 42 [.agg [VS a0_0,.sl e0_1,VS a0_2]] [] fun r13 o13=>NT r13<|NS (r13.comp 0)<|NB (r13.comp 1)<|.call 75 [VS a0_0,VS a2,VS ((r13.comp 0).toStr)] [] fun r14 o14=>NI r14<|.call 45 [VI r14.toInt] [] fun r15 o15=>NS r15<|.done 0 [VS r15.toStr] [.cells [VS a0_0,.vec 1,VS a0_2],.vec 1 e0_1]) (.test (ae a1==ae (mk [114,101,112,108,97,99,101])) (.call 42 [.agg [VS a0_0,.sl e0_1,VS a0_2]] [] fun r16 o16=>NT r16<|NS (r16.comp 0)<|NB (r16.comp 1)<|.call 76 [VS a0_0,VS ((r16.comp 0).toStr),VS a0_2,VS a2] [] fun r17 o17=>.aj (r17=.cy [r17.comp 0,r17.comp 1,r17.comp 2])<|NS (r17.comp 0)<|NI (r17.comp 1)<|NB (r17.comp 2)<|.test (!((r17.comp 2).toBool)) (.done 0 [VS (mk [110,111])] [.cells [VS a0_0,.vec 1,VS a0_2],.vec 1 e0_1]) (.call 5 [VS a0_0,VS ((r17.comp 0).toStr)] [] fun r18 o18=>NT r18<|.aj ((r18.comp 0)=.agg (r18.comp 0).cs/\aL [.lk .str,.vec 1,.lk .str] ((r18.comp 0).cs) 0 0 o18)<|NB (r18.comp 1)<|.aj (∀x,x∈o18->dL x)<|.call 38 [.ref 0 0,.agg [VS (((r18.comp 0).cs.getD 0 .any).toStr),.vec 2,VS (((r18.comp 0).cs.getD 2 .any).toStr)],VB ((r18.comp 1).toBool)] [.cells [VS a0_0,.vec 1,VS a0_2],.vec 1 e0_1,.vec 1 ((o18.hO).es)] fun r19 o19=>.aj ((o19.hO)=.cells (o19.hO).cs)<|.aj (aL [.lk .str,.vec 1,.lk .str] ((o19.hO).cs) 0 1 o19.tail)<|NS r19<|.test (ae r19.toStr==ae (mk [110,111])) (.done 0 [VS (mk [110,111])] [.cells [VS (((o19.hO).cs.getD 0 .any).toStr),.vec 1,VS (((o19.hO).cs.getD 2 .any).toStr)],.vec 1 ((o19.tail.hO).es)]) (.call 21 [VI ((r17.comp 1).toInt)] [] fun r20 o20=>NS r20<|.done 0 [VS r20.toStr] [.cells [VS (((o19.hO).cs.getD 0 .any).toStr),.vec 1,VS (((o19.hO).cs.getD 2 .any).toStr)],.vec 1 ((o19.tail.hO).es)]))) (.done 0 [VS (mk [119,104,97,116])] [.cells [VS a0_0,.vec 1,VS a0_2],.vec 1 e0_1])))))))
theorem Oo(a0_0:ByteArray)(e0_1:List (List AV))(a0_2:ByteArray)(a1:ByteArray)(a2:ByteArray)(h:dj 154 (HZ a0_0 e0_1 a0_2 a1 a2) R):an Tryz.prog 37 [.ref 0 0,VS a1,VS a2] [.cells [VS a0_0,.vec 1,VS a0_2],.vec 1 e0_1] R :=
 an.nf (bm (bU (ah (aA _) (ah (aA _) (ah (aA _) aD)))) (bm (eH _) ct)) (an.up (ah (aA _) (ah (aA _) (ah (aA _) aD))) (oF [] {mu:=[(0,.one (.obj [.lk .str,.vec 1,.lk .str]))],own:=[]} Tryz.f37 h))
def Lr(a0_0:ByteArray)(e0_1:List (List AV))(a0_2:ByteArray)(a1_0:ByteArray)(e1:List (List AV))(a1_2:ByteArray)(a2:Bool):Tree :=
 .test (!a2) (.done 0 [VS (mk [110,111])] [.cells [VS a0_0,.vec 1,VS a0_2],.vec 1 e0_1,.dead]) (.done 0 [VS (mk [111,107])] [.cells [VS a1_0,.vec 1,VS a1_2],.vec 1 e1,.dead])
theorem NQ(a0_0:ByteArray)(e0_1:List (List AV))(a0_2:ByteArray)(a1_0:ByteArray)(e1:List (List AV))(a1_2:ByteArray)(a2:Bool)(h:dj 13 (Lr a0_0 e0_1 a0_2 a1_0 e1 a1_2 a2) R):an Tryz.prog 38 [.ref 0 0,.agg [VS a1_0,.vec 2,VS a1_2],VB a2] [.cells [VS a0_0,.vec 1,VS a0_2],.vec 1 e0_1,.vec 1 e1] R :=
 an.nf (bm (bU (ah (aA _) (ah (aA _) (ah (aA _) aD)))) (bm (eH _) (bm (eH _) ct))) (an.up (ah (aA _) (ah (aA _) (ah (AU _) aD))) (oF [] {mu:=[(0,.one (.obj [.lk .str,.vec 1,.lk .str])),(1,.one (.sn [.lk .str,.vec 1,.lk .str]))],own:=[]} Tryz.f38 h))
def J1(a0:ByteArray)(a1:Bool):Tree :=
 .test (!a1) (.done 0 [VS (mk [110,111])] []) (.done 0 [VS a0] [])
theorem Ou(a0:ByteArray)(a1:Bool)(h:dj 8 (J1 a0 a1) R):an Tryz.prog 41 [VS a0,VB a1] [] R :=
 uQ (ah (aA _) (ah (AU _) aD)) (oQ [] Tryz.f41 h)
def Ge:LI:={hd:={bZ:=[(4,.k .ptr)]},xs:={bZ:=[(4,.k .ptr)]},rt:={},ex:=0}
def H0:Code:=db (cQ Tryz.f42) 4
def Kz:List (Nat×LI):=[(4,Ge)]
def JV(a0_0:ByteArray)(a0_1:AV)(a0_2:ByteArray):Tree :=
 .call 22 [.agg [VS a0_0,a0_1,VS a0_2]] [] fun r1 o1=>NP r1<|NP r1<|.test r1.isNil (.done 0 [.cy [VS (mk []),VB false]] []) (.loop H0 Ge [r1] [] (fun y3 q3=>NP (y3.hA)<|NZ (y3.hA)<|NZ (y3.hA)<|dV ((y3.hA).deref.drop 3)<|.call 30 [(((y3.hA).deref.drop 3).hA)] [] fun r4 o4=>NS r4<|.done 0 [.cy [VS r4.toStr,VB true]] []) (fun y3 q3=>.done 0 [.cy [.any,.any]] []))
theorem QP(a0_0:ByteArray)(a0_1:AV)(a0_2:ByteArray)(ha0_1:LK.has .sl a0_1)(h:dj 22 (JV a0_0 a0_1 a0_2) R):an Tryz.prog 42 [.agg [VS a0_0,a0_1,VS a0_2]] [] R :=
 uQ (ah (cj (ah (aA _) (ah (bT ha0_1) (ah (aA _) aD)))) aD) (oQ Kz Tryz.f42 h)
def HN(x4:AV):Tree :=
 NP x4<|NZ x4<|NZ x4<|oT (x4.deref.drop 2)<|NL ((x4.deref.drop 2).hA)<|.test (decide (((((x4.deref.drop 2).hA).elems).length:Int)>(0:Int))) (.call 47 [x4] [] fun r1 o1=>NP r1<|.done 0 [r1] []) (.done 1 [x4] [])
abbrev Hp:=cH Tryz.prog 22 H0 Ge
theorem JM(x4:AV)(h:mi 22 (HN x4) Hp U):Hp [x4] [] U :=
 gQ Kz h
def J8(a0:Int):Tree :=
 .call 21 [VI a0] [] fun r1 o1=>NS r1<|.call 41 [VS r1.toStr,VB (decide (a0≥(0:Int)))] [] fun r2 o2=>NS r2<|.done 0 [VS r2.toStr] []
theorem QE(a0:Int)(h:dj 8 (J8 a0) R):an Tryz.prog 45 [VI a0] [] R :=
 uQ (ah (aA _) aD) (oQ [] Tryz.f45 h)
def Kk(a0:AV):Tree :=
 NP a0<|.test a0.isNil (.done 0 [.v (.pointer none)] []) (NZ a0<|NZ a0<|oT (a0.deref.drop 2)<|NL ((a0.deref.drop 2).hA)<|.test (((((a0.deref.drop 2).hA).elems).length:Int)==(0:Int)) (.done 0 [.v (.pointer none)] []) (NZ a0<|NZ a0<|oT (a0.deref.drop 2)<|NL ((a0.deref.drop 2).hA)<|NZ a0<|NZ a0<|dV (a0.deref.drop 1)<|NZ a0<|NZ a0<|oT (a0.deref.drop 2)<|.aj (LK.has .sl ((a0.deref.drop 2).hA)/\0<=(IntKind.wrap .i64 (((((a0.deref.drop 2).hA).elems).length:Int)-1))/\(IntKind.wrap .i64 (((((a0.deref.drop 2).hA).elems).length:Int)-1))<((a0.deref.drop 2).hA).elems.length/\(((a0.deref.drop 2).hA).ix (IntKind.wrap .i64 (((((a0.deref.drop 2).hA).elems).length:Int)-1))).length=1)<|.aj (LK.has .ptr ((((a0.deref.drop 2).hA).ix (IntKind.wrap .i64 (((((a0.deref.drop 2).hA).elems).length:Int)-1))).hA)/\1<=(((a0.deref.drop 2).hA).ix (IntKind.wrap .i64 (((((a0.deref.drop 2).hA).elems).length:Int)-1))).length)<|NZ a0<|NZ a0<|dV (a0.deref.drop 3)<|.call 84 [((a0.deref.drop 1).hA),((((a0.deref.drop 2).hA).ix (IntKind.wrap .i64 (((((a0.deref.drop 2).hA).elems).length:Int)-1))).hA),((a0.deref.drop 3).hA)] [] fun r1 o1=>NP r1<|.call 25 [r1] [] fun r2 o2=>NI r2<|.test (decide (r2.toInt>(200:Int))) (.done 0 [.v (.pointer none)] []) (NZ a0<|NZ a0<|.aj (LK.has .str (a0.deref.hA)/\1<=a0.deref.length)<|NZ a0<|NZ a0<|dV (a0.deref.drop 1)<|NZ a0<|NZ a0<|oT (a0.deref.drop 2)<|.aj (LK.has .sl ((a0.deref.drop 2).hA)/\0<=(0:Int)/\(0:Int)<=(IntKind.wrap .i64 (((((a0.deref.drop 2).hA).elems).length:Int)-1))/\(IntKind.wrap .i64 (((((a0.deref.drop 2).hA).elems).length:Int)-1))<=((((a0.deref.drop 2).hA).elems).length:Int))<|.done 0 [.ptr [VS ((a0.deref.hA).toStr),((a0.deref.drop 1).hA),.sl (((((a0.deref.drop 2).hA).elems).take (bq (IntKind.wrap .i64 (((((a0.deref.drop 2).hA).elems).length:Int)-1)))).drop (bq 0)),r1]] [])))
theorem OB(a0:AV)(ha0:LK.has .ptr a0)(h:dj 57 (Kk a0) R):an Tryz.prog 47 [a0] [] R :=
 uQ (ah (bA ha0) aD) (oQ [] Tryz.f47 h)
def JY(a0_0:AV)(a0_1:AV):Tree :=
 NZ a0_0<|NZ a0_0<|dV (a0_0.deref.drop 3)<|.done 0 [.cy [.agg [((a0_0.deref.drop 3).hA),.ptr [.ptr [a0_0,a0_1],a0_1]],.ptr [a0_0,a0_1]]] []
theorem PV(a0_0:AV)(a0_1:AV)(ha0_0:LK.has .ptr a0_0)(ha0_1:LK.has .ptr a0_1)(h:dj 20 (JY a0_0 a0_1) R):an Tryz.prog 48 [.agg [a0_0,a0_1]] [] R :=
 uQ (ah (cj (ah (bA ha0_0) (ah (bA ha0_1) aD))) aD) (oQ [] Tryz.f48 h)
def E7:LI:={hd:={bZ:=[(97,.k .sl),(98,.k (.int .i64)),(99,.k (.int .i64))],refs:=[(3,3),(5,5),(7,7)],cr:=[(3,[.lk .ptr,.lk .ptr]),(5,[.lk .str,.lk .ptr]),(7,[.vec 2])],fns:=[(8,86,[7])]},xs:={refs:=[(7,7)],cr:=[(7,[.vec 2])]},rt:={},ex:=1}
def Mj:Code:=db (cQ Tryz.f49) 18
def LL:List (Nat×LI):=[(18,E7)]
def Ju(a0_0:AV)(a0_1:AV)(a1:AV)(a2_0:ByteArray)(a2_1:AV):Tree :=
 .call 85 [.agg [VS a2_0,a2_1],.agg [a0_0,a0_1]] [] fun r1 o1=>NB r1<|.test r1.toBool (.done 0 [.sl [[.ptr [.v (.int .u8 117),VS (mk []),.v (.pointer none),.v (.pointer none)],a1]]] []) (NZ a0_0<|NZ a0_0<|.aj (LK.has (.int .u8) (a0_0.deref.hA)/\1<=a0_0.deref.length)<|.test (((a0_0.deref.hA).toInt)==(43:Int)) (.call 87 [.agg [a0_0,a0_1]] [] fun r2 o2=>.aj (r2=.agg r2.cs/\r2.cs.length=2/\bF [.ptr,.ptr] r2.cs 0)<|NZ a1<|NZ a1<|.aj (LK.has (.int .u8) (a1.deref.hA)/\1<=a1.deref.length)<|.test (((a1.deref.hA).toInt)==(114:Int)) (.call 88 [.agg [a0_0,a0_1]] [] fun r3 o3=>.aj (r3=.agg r3.cs/\r3.cs.length=2/\bF [.ptr,.ptr] r3.cs 0)<|NZ a1<|NZ a1<|dV (a1.deref.drop 2)<|.call 49 [.agg [(r3.cs.getD 0 .any),(r3.cs.getD 1 .any)],((a1.deref.drop 2).hA),.agg [VS a2_0,a2_1]] [] fun r4 o4=>NL r4<|.call 86 [r4,.fn 89 [.ref 0 0],.ref 1 0] [.cells [a1],.cells [.vec 2],.vec 2 []] fun r5 o5=>.aj ((o5.hO)=.cells (o5.hO).cs)<|.aj (aL [.lk .ptr] ((o5.hO).cs) 0 1 o5.tail)<|.aj ((o5.tail.hO)=.cells (o5.tail.hO).cs)<|.aj (aL [.vec 2] ((o5.tail.hO).cs) 0 2 o5.tail.tail)<|.done 0 [.sl ((o5.tail.tail.hO).es)] []) (NZ a1<|NZ a1<|dV (a1.deref.drop 2)<|.call 49 [.agg [(r2.cs.getD 0 .any),(r2.cs.getD 1 .any)],((a1.deref.drop 2).hA),.agg [VS a2_0,a2_1]] [] fun r6 o6=>NL r6<|.call 86 [r6,.fn 89 [.ref 0 0],.ref 1 0] [.cells [a1],.cells [.vec 2],.vec 2 []] fun r7 o7=>.aj ((o7.hO)=.cells (o7.hO).cs)<|.aj (aL [.lk .ptr] ((o7.hO).cs) 0 1 o7.tail)<|.aj ((o7.tail.hO)=.cells (o7.tail.hO).cs)<|.aj (aL [.vec 2] ((o7.tail.hO).cs) 0 2 o7.tail.tail)<|.done 0 [.sl ((o7.tail.tail.hO).es)] [])) (.test (((a0_0.deref.hA).toInt)==(42:Int)) (.call 87 [.agg [a0_0,a0_1]] [] fun r8 o8=>.aj (r8=.agg r8.cs/\r8.cs.length=2/\bF [.ptr,.ptr] r8.cs 0)<|NZ a1<|NZ a1<|dV (a1.deref.drop 2)<|.call 49 [.agg [(r8.cs.getD 0 .any),(r8.cs.getD 1 .any)],((a1.deref.drop 2).hA),.agg [VS a2_0,a2_1]] [] fun r9 o9=>NL r9<|.call 86 [r9,.fn 91 [.ref 0 0],.ref 1 0] [.cells [a1],.cells [.vec 2],.vec 2 []] fun r10 o10=>.aj ((o10.hO)=.cells (o10.hO).cs)<|.aj (aL [.lk .ptr] ((o10.hO).cs) 0 1 o10.tail)<|.aj ((o10.tail.hO)=.cells (o10.tail.hO).cs)<|.aj (aL [.vec 2] ((o10.tail.hO).cs) 0 2 o10.tail.tail)<|.call 88 [.agg [a0_0,a0_1]] [] fun r11 o11=>.aj (r11=.agg r11.cs/\r11.cs.length=2/\bF [.ptr,.ptr] r11.cs 0)<|NZ ((o10.hO).cs.getD 0 .any)<|NZ ((o10.hO).cs.getD 0 .any)<|dV (((o10.hO).cs.getD 0 .any).deref.drop 3)<|.call 49 [.agg [(r11.cs.getD 0 .any),(r11.cs.getD 1 .any)],((((o10.hO).cs.getD 0 .any).deref.drop 3).hA),.agg [VS a2_0,a2_1]] [] fun r12 o12=>NL r12<|.call 86 [r12,.fn 93 [.ref 0 0],.ref 1 0] [.cells [((o10.hO).cs.getD 0 .any)],.cells [.vec 2],.vec 2 ((o10.tail.tail.hO).es)] fun r13 o13=>.aj ((o13.hO)=.cells (o13.hO).cs)<|.aj (aL [.lk .ptr] ((o13.hO).cs) 0 1 o13.tail)<|.aj ((o13.tail.hO)=.cells (o13.tail.hO).cs)<|.aj (aL [.vec 2] ((o13.tail.hO).cs) 0 2 o13.tail.tail)<|.done 0 [.sl ((o13.tail.tail.hO).es)] []) (.test (((a0_0.deref.hA).toInt)==(114:Int)) (.call 48 [.agg [a0_0,a0_1]] [] fun r14 o14=>NT r14<|.aj ((r14.comp 0)=.agg (r14.comp 0).cs/\(r14.comp 0).cs.length=2/\bF [.ptr,.ptr] ((r14.comp 0).cs) 0)<|NP (r14.comp 1)<|NZ a1<|NZ a1<|dV (a1.deref.drop 2)<|.call 49 [.agg [((r14.comp 0).cs.getD 0 .any),((r14.comp 0).cs.getD 1 .any)],((a1.deref.drop 2).hA),.agg [VS a2_0,a2_1]] [] fun r15 o15=>NL r15<|.call 86 [r15,.v (.func (.func 94) #[] #[]),.ref 0 0] [.cells [.vec 1],.vec 2 []] fun r16 o16=>.aj ((o16.hO)=.cells (o16.hO).cs)<|.aj (aL [.vec 2] ((o16.hO).cs) 0 1 o16.tail)<|NZ a1<|NZ a1<|dV (a1.deref.drop 2)<|.call 49 [.agg [((r14.comp 0).cs.getD 0 .any),((r14.comp 0).cs.getD 1 .any)],((a1.deref.drop 2).hA),.agg [VS (mk []),(r14.comp 1)]] [] fun r17 o17=>NL r17<|NL r17<|.loop Mj E7 [r17,VI (r17.elems.length:Int),VI 0] [.cells [a0_0,a0_1],.cells [VS a2_0,a2_1],.cells [.any],.vec 2 ((o16.tail.hO).es)] (fun y20 q20=>.aj ((q20.hO)=.cells (q20.hO).cs)<|.aj (ag [.vec 2] ((q20.hO).cs) 0 q20.tail)<|.done 0 [.sl ((q20.tail.hO).es)] []) (fun y20 q20=>.done 0 [.any] [])) (.done 0 [.sl []] []))))
theorem Ra(a0_0:AV)(a0_1:AV)(a1:AV)(a2_0:ByteArray)(a2_1:AV)(ha0_0:LK.has .ptr a0_0)(ha0_1:LK.has .ptr a0_1)(ha1:LK.has .ptr a1)(ha2_1:LK.has .ptr a2_1)(h:dj 113 (Ju a0_0 a0_1 a1 a2_0 a2_1) R):an Tryz.prog 49 [.agg [a0_0,a0_1],a1,.agg [VS a2_0,a2_1]] [] R :=
 uQ (ah (cj (ah (bA ha0_0) (ah (bA ha0_1) aD))) (ah (bA ha1) (ah (cj (ah (aA _) (ah (bA ha2_1) aD))) aD))) (oQ LL Tryz.f49 h)
def G4(x97:AV)(x98:Int)(x99:Int)(o3_0:AV)(o3_1:AV)(o5_0:ByteArray)(o5_1:AV)(o7_0:List (List AV)):Tree :=
 NL x97<|NI (VI x98)<|NI (VI x99)<|.aj (Ob.cells [o3_0,o3_1]=.cells [o3_0,o3_1])<|.aj (ag [.lk .ptr,.lk .ptr] [o3_0,o3_1] 0 [.cells [VS o5_0,o5_1],.cells [.any],.vec 2 o7_0])<|.aj (Ob.cells [VS o5_0,o5_1]=.cells [VS o5_0,o5_1])<|.aj (ag [.lk .str,.lk .ptr] [VS o5_0,o5_1] 0 [.cells [.any],.vec 2 o7_0])<|.aj (Ob.cells [.any]=.cells [.any])<|.aj (ag [.vec 2] [.any] 0 [.vec 2 o7_0])<|.test (decide (x99<x98)) (NG x97 x99 2<|.aj (bF [.ptr,.ptr] (x97.ix x99) 0/\2<=(x97.ix x99).length)<|.call 49 [.agg [o3_0,o3_1],((x97.ix x99).getD 1 .any),.agg [VS o5_0,o5_1]] [] fun r1 o1=>NL r1<|.call 86 [r1,.fn 95 [.ref 0 0],.ref 1 0] [.cells [((x97.ix x99).getD 0 .any),((x97.ix x99).getD 1 .any)],.cells [.vec 2],.vec 2 o7_0] fun r2 o2=>.aj ((o2.hO)=.cells (o2.hO).cs)<|.aj (aL [.lk .ptr,.lk .ptr] ((o2.hO).cs) 0 1 o2.tail)<|.aj ((o2.tail.hO)=.cells (o2.tail.hO).cs)<|.aj (aL [.vec 2] ((o2.tail.hO).cs) 0 2 o2.tail.tail)<|.done 0 [x97,VI x98,VI (IntKind.wrap .i64 (x99+1))] [.cells [o3_0,o3_1],.cells [VS o5_0,o5_1],.cells [.any],.vec 2 ((o2.tail.tail.hO).es)]) (.done 1 [] [.cells [.any],.vec 2 o7_0])
abbrev Fv:=cH Tryz.prog 113 Mj E7
theorem MC(x97:AV)(x98:Int)(x99:Int)(o3_0:AV)(o3_1:AV)(o5_0:ByteArray)(o5_1:AV)(o7_0:List (List AV))(h:mi 113 (G4 x97 x98 x99 o3_0 o3_1 o5_0 o5_1 o7_0) Fv U):Fv [x97,VI x98,VI x99] [.cells [o3_0,o3_1],.cells [VS o5_0,o5_1],.cells [.any],.vec 2 o7_0] U :=
 gQ LL h
def Ms(a0:ByteArray):Tree :=
 .test (decide ((af a0:Int)>(8000:Int))) (.done 0 [.v (.pointer none)] []) (.call 96 [VS a0,VI 0] [] fun r1 o1=>NT r1<|NP (r1.comp 0)<|NS (r1.comp 1)<|.test (!(ae ((r1.comp 1).toStr)==ae (mk []))) (.done 0 [.v (.pointer none)] []) (.done 0 [(r1.comp 0)] []))
theorem PE(a0:ByteArray)(h:dj 16 (Ms a0) R):an Tryz.prog 50 [VS a0] [] R :=
 uQ (ah (aA _) aD) (oQ [] Tryz.f50 h)
def Fq(a0:AV):Tree :=
 NZ a0<|NZ a0<|.aj (LK.has .str (a0.deref.hA)/\1<=a0.deref.length)<|.test (ae ((a0.deref.hA).toStr)==ae (mk [117])) (.done 0 [.ptr [.v (.int .u8 117),VS (mk []),.v (.pointer none),.v (.pointer none)]] []) (NZ a0<|NZ a0<|.aj (LK.has .str (a0.deref.hA)/\1<=a0.deref.length)<|.call 97 [VS ((a0.deref.hA).toStr)] [] fun r1 o1=>NB r1<|.test r1.toBool (NZ a0<|NZ a0<|.aj (LK.has .str (a0.deref.hA)/\1<=a0.deref.length)<|.done 0 [.ptr [.v (.int .u8 101),VS ((a0.deref.hA).toStr),.v (.pointer none),.v (.pointer none)]] []) (.call 98 [a0,VS (mk [108]),VI 2] [] fun r2 o2=>NB r2<|.test r2.toBool (NZ a0<|NZ a0<|oT (a0.deref.drop 1)<|NG ((a0.deref.drop 1).hA) 1 1<|dV (((a0.deref.drop 1).hA).ix (1:Int))<|.call 51 [((((a0.deref.drop 1).hA).ix (1:Int)).hA)] [] fun r3 o3=>NP r3<|NP r3<|.test r3.isNil (.done 0 [.v (.pointer none)] []) (NZ a0<|NZ a0<|oT (a0.deref.drop 1)<|NG ((a0.deref.drop 1).hA) 0 1<|dV (((a0.deref.drop 1).hA).ix (0:Int))<|NZ ((((a0.deref.drop 1).hA).ix (0:Int)).hA)<|NZ ((((a0.deref.drop 1).hA).ix (0:Int)).hA)<|.aj (LK.has .str (((((a0.deref.drop 1).hA).ix (0:Int)).hA).deref.hA)/\1<=(((((a0.deref.drop 1).hA).ix (0:Int)).hA).deref).length)<|.aj (0<=(0:Int)/\(0:Int)<af ((((((a0.deref.drop 1).hA).ix (0:Int)).hA).deref.hA).toStr))<|.done 0 [.ptr [.v (.int .u8 (bt ((((((a0.deref.drop 1).hA).ix (0:Int)).hA).deref.hA).toStr) 0)),VS (mk []),r3,.v (.pointer none)]] [])) (.call 98 [a0,VS (mk [114]),VI 2] [] fun r4 o4=>NB r4<|.test r4.toBool (NZ a0<|NZ a0<|oT (a0.deref.drop 1)<|NG ((a0.deref.drop 1).hA) 1 1<|dV (((a0.deref.drop 1).hA).ix (1:Int))<|.call 51 [((((a0.deref.drop 1).hA).ix (1:Int)).hA)] [] fun r5 o5=>NP r5<|NP r5<|.test r5.isNil (.done 0 [.v (.pointer none)] []) (NZ a0<|NZ a0<|oT (a0.deref.drop 1)<|NG ((a0.deref.drop 1).hA) 0 1<|dV (((a0.deref.drop 1).hA).ix (0:Int))<|NZ ((((a0.deref.drop 1).hA).ix (0:Int)).hA)<|NZ ((((a0.deref.drop 1).hA).ix (0:Int)).hA)<|.aj (LK.has .str (((((a0.deref.drop 1).hA).ix (0:Int)).hA).deref.hA)/\1<=(((((a0.deref.drop 1).hA).ix (0:Int)).hA).deref).length)<|.aj (0<=(0:Int)/\(0:Int)<af ((((((a0.deref.drop 1).hA).ix (0:Int)).hA).deref.hA).toStr))<|.done 0 [.ptr [.v (.int .u8 (bt ((((((a0.deref.drop 1).hA).ix (0:Int)).hA).deref.hA).toStr) 0)),VS (mk []),r5,.v (.pointer none)]] [])) (.call 98 [a0,VS (mk [102]),VI 2] [] fun r6 o6=>NB r6<|.test r6.toBool (NZ a0<|NZ a0<|oT (a0.deref.drop 1)<|NG ((a0.deref.drop 1).hA) 1 1<|dV (((a0.deref.drop 1).hA).ix (1:Int))<|.call 51 [((((a0.deref.drop 1).hA).ix (1:Int)).hA)] [] fun r7 o7=>NP r7<|NP r7<|.test r7.isNil (.done 0 [.v (.pointer none)] []) (NZ a0<|NZ a0<|oT (a0.deref.drop 1)<|NG ((a0.deref.drop 1).hA) 0 1<|dV (((a0.deref.drop 1).hA).ix (0:Int))<|NZ ((((a0.deref.drop 1).hA).ix (0:Int)).hA)<|NZ ((((a0.deref.drop 1).hA).ix (0:Int)).hA)<|.aj (LK.has .str (((((a0.deref.drop 1).hA).ix (0:Int)).hA).deref.hA)/\1<=(((((a0.deref.drop 1).hA).ix (0:Int)).hA).deref).length)<|.aj (0<=(0:Int)/\(0:Int)<af ((((((a0.deref.drop 1).hA).ix (0:Int)).hA).deref.hA).toStr))<|.done 0 [.ptr [.v (.int .u8 (bt ((((((a0.deref.drop 1).hA).ix (0:Int)).hA).deref.hA).toStr) 0)),VS (mk []),r7,.v (.pointer none)]] [])) (.call 98 [a0,VS (mk [112]),VI 3] [] fun r8 o8=>NB r8<|.test r8.toBool (NZ a0<|NZ a0<|oT (a0.deref.drop 1)<|NG ((a0.deref.drop 1).hA) 1 1<|dV (((a0.deref.drop 1).hA).ix (1:Int))<|.call 51 [((((a0.deref.drop 1).hA).ix (1:Int)).hA)] [] fun r9 o9=>NP r9<|NZ a0<|NZ a0<|oT (a0.deref.drop 1)<|NG ((a0.deref.drop 1).hA) 2 1<|dV (((a0.deref.drop 1).hA).ix (2:Int))<|.call 51 [((((a0.deref.drop 1).hA).ix (2:Int)).hA)] [] fun r10 o10=>NP r10<|NP r9<|.test r9.isNil (.done 0 [.v (.pointer none)] []) (NP r10<|.test r10.isNil (.done 0 [.v (.pointer none)] []) (.call 92 [r9,r10] [] fun r11 o11=>NP r11<|.done 0 [r11] []))) (.done 0 [.v (.pointer none)] []))))))
theorem JQ(a0:AV)(ha0:LK.has .ptr a0)(h:dj 85 (Fq a0) R):an Tryz.prog 51 [a0] [] R :=
 uQ (ah (bA ha0) aD) (oQ [] Tryz.f51 h)
def I3(a0_0:AV)(a0_1:Int)(a1:AV):Tree :=
 NL a1<|.call 27 [.ref 0 0,VI (a1.elems.length:Int)] [.cells [a0_0,VI a0_1]] fun r1 o1=>.aj ((o1.hO)=.cells (o1.hO).cs)<|.aj (aL [.lk .sl,.lk (.int .i64)] ((o1.hO).cs) 0 1 o1.tail)<|NI r1<|.aj (LK.has .sl a1/\0<=r1.toInt/\r1.toInt<a1.elems.length/\(a1.elems.getD r1.toInt.toNat []).length=1)<|kS (a1.elems.getD r1.toInt.toNat [])<|.done 0 [VS (((a1.elems.getD r1.toInt.toNat []).hA).toStr)] [.cells [((o1.hO).cs.getD 0 .any),VI (((o1.hO).cs.getD 1 .any).toInt)]]
theorem Q4(a0_0:AV)(a0_1:Int)(a1:AV)(ha1:LK.has .sl a1)(ha0_0:LK.has .sl a0_0)(h:dj 12 (I3 a0_0 a0_1 a1) R):an Tryz.prog 52 [.ref 0 0,a1] [.cells [a0_0,VI a0_1]] R :=
 an.nf (bm (bU (ah (bT ha0_0) (ah (aA _) aD))) ct) (an.up (ah (aA _) (ah (bT ha1) aD)) (oF [] {mu:=[(0,.one (.obj [.lk .sl,.lk (.int .i64)]))],own:=[]} Tryz.f52 h))
def KQ(a0_0:AV)(a0_1:Int):Tree :=
 .call 27 [.ref 0 0,VI 8] [.cells [a0_0,VI a0_1]] fun r1 o1=>.aj ((o1.hO)=.cells (o1.hO).cs)<|.aj (aL [.lk .sl,.lk (.int .i64)] ((o1.hO).cs) 0 1 o1.tail)<|NI r1<|.test (r1.toInt==(0:Int)) (.call 99 [.ref 0 0] [.cells [((o1.hO).cs.getD 0 .any),VI (((o1.hO).cs.getD 1 .any).toInt)]] fun r2 o2=>.aj ((o2.hO)=.cells (o2.hO).cs)<|.aj (aL [.lk .sl,.lk (.int .i64)] ((o2.hO).cs) 0 1 o2.tail)<|NS r2<|.done 0 [VS r2.toStr] [.cells [((o2.hO).cs.getD 0 .any),VI (((o2.hO).cs.getD 1 .any).toInt)]]) (.test (r1.toInt==(1:Int)) (.call 100 [.ref 0 0,.sl [],VI 3] [.cells [((o1.hO).cs.getD 0 .any),VI (((o1.hO).cs.getD 1 .any).toInt)]] fun r3 o3=>.aj ((o3.hO)=.cells (o3.hO).cs)<|.aj (aL [.lk .sl,.lk (.int .i64)] ((o3.hO).cs) 0 1 o3.tail)<|NS r3<|.done 0 [VS r3.toStr] [.cells [((o3.hO).cs.getD 0 .any),VI (((o3.hO).cs.getD 1 .any).toInt)]]) (.test (r1.toInt==(2:Int)) (.call 100 [.ref 0 0,.sl [],VI 3] [.cells [((o1.hO).cs.getD 0 .any),VI (((o1.hO).cs.getD 1 .any).toInt)]] fun r4 o4=>.aj ((o4.hO)=.cells (o4.hO).cs)<|.aj (aL [.lk .sl,.lk (.int .i64)] ((o4.hO).cs) 0 1 o4.tail)<|NS r4<|.done 0 [VS r4.toStr] [.cells [((o4.hO).cs.getD 0 .any),VI (((o4.hO).cs.getD 1 .any).toInt)]]) (.test (r1.toInt==(3:Int)) (.call 100 [.ref 0 0,.sl [],VI 3] [.cells [((o1.hO).cs.getD 0 .any),VI (((o1.hO).cs.getD 1 .any).toInt)]] fun r5 o5=>.aj ((o5.hO)=.cells (o5.hO).cs)<|.aj (aL [.lk .sl,.lk (.int .i64)] ((o5.hO).cs) 0 1 o5.tail)<|NS r5<|.done 0 [VS r5.toStr] [.cells [((o5.hO).cs.getD 0 .any),VI (((o5.hO).cs.getD 1 .any).toInt)]]) (.call 26 [.ref 0 0] [.cells [((o1.hO).cs.getD 0 .any),VI (((o1.hO).cs.getD 1 .any).toInt)]] fun r6 o6=>.aj ((o6.hO)=.cells (o6.hO).cs)<|.aj (aL [.lk .sl,.lk (.int .i64)] ((o6.hO).cs) 0 1 o6.tail)<|NS r6<|.done 0 [VS r6.toStr] [.cells [((o6.hO).cs.getD 0 .any),VI (((o6.hO).cs.getD 1 .any).toInt)]]))))
theorem OP(a0_0:AV)(a0_1:Int)(ha0_0:LK.has .sl a0_0)(h:dj 18 (KQ a0_0 a0_1) R):an Tryz.prog 53 [.ref 0 0] [.cells [a0_0,VI a0_1]] R :=
 an.nf (bm (bU (ah (bT ha0_0) (ah (aA _) aD))) ct) (an.up (ah (aA _) aD) (oF [] {mu:=[(0,.one (.obj [.lk .sl,.lk (.int .i64)]))],own:=[]} Tryz.f53 h))
def Gj:LI:={hd:={bZ:=[(7,.k (.int .i64))],refs:=[(2,2),(4,4)],cr:=[(2,[.lk .str,.lk .sl]),(4,[.lk .str,.lk .sl])],gK:=[(6,1)]},xs:={refs:=[(2,2),(4,4)],cr:=[(2,[.lk .str,.lk .sl]),(4,[.lk .str,.lk .sl])]},rt:={bZ:=[(3,.k .bool)],refs:=[(2,2)],cr:=[(2,[.lk .str,.lk .sl])]},ex:=0}
def KG:Code:=db (cQ Tryz.f54) 6
def LU:List (Nat×LI):=[(6,Gj)]
def Jx(a0:ByteArray):Tree :=
 .call 101 [VS a0] [] fun r1 o1=>NT r1<|.aj ((r1.comp 0)=.agg (r1.comp 0).cs/\(r1.comp 0).cs.length=2/\bF [.str,.sl] ((r1.comp 0).cs) 0)<|NB (r1.comp 1)<|.test (!((r1.comp 1).toBool)) (.done 0 [.cy [.agg [VS (((r1.comp 0).cs.getD 0 .any).toStr),((r1.comp 0).cs.getD 1 .any)],VB false]] []) (.call 102 [.agg [VS (((r1.comp 0).cs.getD 0 .any).toStr),((r1.comp 0).cs.getD 1 .any)],.sl [],.vec 0] [.vec 1 []] fun r2 o2=>.aj (r2=.vec 1/\(o2.tail.hO)=.vec 1 (o2.tail.hO).es)<|.loop KG Gj [VI 0] [.cells [VS (mk []),.v (.slice none 0 0)],.cells [VS (((r1.comp 0).cs.getD 0 .any).toStr),((r1.comp 0).cs.getD 1 .any)],.vec 1 ((o2.tail.hO).es)] (fun y4 q4=>.aj ((q4.hO)=.cells (q4.hO).cs)<|.aj (ag [.lk .str,.lk .sl] ((q4.hO).cs) 0 q4.tail)<|.aj (((q4.tail.drop 0).hO)=.cells ((q4.tail.drop 0).hO).cs)<|.aj (ag [.lk .str,.lk .sl] (((q4.tail.drop 0).hO).cs) 0 ((q4.tail.drop 0).tail))<|.done 0 [.cy [.agg [VS (((q4.tail.hO).cs.getD 0 .any).toStr),((q4.tail.hO).cs.getD 1 .any)],VB true]] []) (fun y4 q4=>NB (y4.hA)<|.aj ((q4.hO)=.cells (q4.hO).cs)<|.aj (ag [.lk .str,.lk .sl] ((q4.hO).cs) 0 q4.tail)<|.done 0 [.cy [.agg [VS (((q4.hO).cs.getD 0 .any).toStr),((q4.hO).cs.getD 1 .any)],VB ((y4.hA).toBool)]] []))
theorem OX(a0:ByteArray)(h:dj 33 (Jx a0) R):an Tryz.prog 54 [VS a0] [] R :=
 uQ (ah (aA _) aD) (oQ LU Tryz.f54 h)
def GQ(x7:Int)(o2_0:ByteArray)(o2_1:AV)(o4_0:ByteArray)(o4_1:AV)(e6:List (List AV)):Tree :=
 NI (VI x7)<|.aj (Ob.cells [VS o2_0,o2_1]=.cells [VS o2_0,o2_1])<|.aj (ag [.lk .str,.lk .sl] [VS o2_0,o2_1] 0 [.cells [VS o4_0,o4_1],.vec 1 e6])<|.aj (Ob.cells [VS o4_0,o4_1]=.cells [VS o4_0,o4_1])<|.aj (ag [.lk .str,.lk .sl] [VS o4_0,o4_1] 0 [.vec 1 e6])<|.aj (Ob.vec 1 e6=.vec 1 e6)<|.test (decide (x7<(e6.length:Int))) (.aj (0<=x7/\x7<e6.length)<|.aj (x7.toNat<e6.length/\0<(e6.getD x7.toNat []).length/\LK.has .str ((e6.getD x7.toNat []).getD 0 .any))<|.call 103 [VS (((e6.getD x7.toNat []).getD 0 .any).toStr)] [] fun r1 o1=>NB r1<|.test r1.toBool (.done 2 [VB false] [.cells [VS o4_0,o4_1]]) (.done 0 [VI (IntKind.wrap .i64 (x7+1))] [.cells [VS o2_0,o2_1],.cells [VS o4_0,o4_1],.vec 1 e6])) (.done 1 [] [.cells [VS o2_0,o2_1],.cells [VS o4_0,o4_1]])
abbrev Fp:=cH Tryz.prog 33 KG Gj
theorem LA(x7:Int)(o2_0:ByteArray)(o2_1:AV)(o4_0:ByteArray)(o4_1:AV)(e6:List (List AV))(h:mi 33 (GQ x7 o2_0 o2_1 o4_0 o4_1 e6) Fp U):Fp [VI x7] [.cells [VS o2_0,o2_1],.cells [VS o4_0,o4_1],.vec 1 e6] U :=
 gQ LU h
def FQ:LI:={hd:={bZ:=[(3,.k .str),(4,.k (.int .i64))],refs:=[(1,1)],cr:=[(1,[.lk .str,.lk .sl])]},xs:={bZ:=[(3,.k .str)]},rt:={},ex:=0}
def JA:Code:=db (cQ Tryz.f55) 5
def KW:List (Nat×LI):=[(5,FQ)]
def CW(a0_0:ByteArray)(a0_1:AV):Tree :=
 .test (!(ae a0_0==ae (mk []))) (.done 0 [VS a0_0] []) (.loop JA FQ [VS (mk [40]),VI 0] [.cells [VS a0_0,a0_1]] (fun y3 q3=>NS (y3.hA)<|.aj (af ((y3.hA).toStr)+af (mk [41])<=9223372036854775807)<|.done 0 [VS ((((y3.hA).toStr):ByteArray)++(mk [41]))] []) (fun y3 q3=>.done 0 [.any] []))
theorem FJ(a0_0:ByteArray)(a0_1:AV)(ha0_1:LK.has .sl a0_1)(h:dj 31 (CW a0_0 a0_1) R):an Tryz.prog 55 [.agg [VS a0_0,a0_1]] [] R :=
 uQ (ah (cj (ah (aA _) (ah (bT ha0_1) aD))) aD) (oQ KW Tryz.f55 h)
def Ab(x3:ByteArray)(x4:Int)(o1_0:ByteArray)(o1_1:AV):Tree :=
 NS (VS x3)<|NI (VI x4)<|.aj (Ob.cells [VS o1_0,o1_1]=.cells [VS o1_0,o1_1])<|.aj (ag [.lk .str,.lk .sl] [VS o1_0,o1_1] 0 [])<|NL o1_1<|.test (decide (x4<(o1_1.elems.length:Int))) (.test (decide (x4>(0:Int))) (.aj (af x3+af (mk [32])<=9223372036854775807)<|NG o1_1 x4 2<|NE (o1_1.ix x4)<|.call 55 [.agg [VS (((o1_1.ix x4).getD 0 .any).toStr),((o1_1.ix x4).getD 1 .any)]] [] fun r1 o1=>NS r1<|.aj (af ((x3:ByteArray)++(mk [32]))+af r1.toStr<=9223372036854775807)<|.done 0 [VS ((((x3:ByteArray)++(mk [32])):ByteArray)++r1.toStr),VI (IntKind.wrap .i64 (x4+1))] [.cells [VS o1_0,o1_1]]) (NG o1_1 x4 2<|NE (o1_1.ix x4)<|.call 55 [.agg [VS (((o1_1.ix x4).getD 0 .any).toStr),((o1_1.ix x4).getD 1 .any)]] [] fun r2 o2=>NS r2<|.aj (af x3+af r2.toStr<=9223372036854775807)<|.done 0 [VS ((x3:ByteArray)++r2.toStr),VI (IntKind.wrap .i64 (x4+1))] [.cells [VS o1_0,o1_1]])) (.done 1 [VS x3] [])
abbrev B8:=cH Tryz.prog 31 JA FQ
theorem CN(x3:ByteArray)(x4:Int)(o1_0:ByteArray)(o1_1:AV)(h:mi 31 (Ab x3 x4 o1_0 o1_1) B8 U):B8 [VS x3,VI x4] [.cells [VS o1_0,o1_1]] U :=
 gQ KW h
def Aw(a0_0:AV)(a0_1:Int)(a1_0:ByteArray)(a1_1:AV)(a2:Int):Tree :=
 .call 104 [.agg [VS a1_0,a1_1]] [] fun r1 o1=>NS r1<|.test (ae r1.toStr==ae (mk [43])) (.call 27 [.ref 0 0,VI 2] [.cells [a0_0,VI a0_1]] fun r2 o2=>.aj ((o2.hO)=.cells (o2.hO).cs)<|.aj (aL [.lk .sl,.lk (.int .i64)] ((o2.hO).cs) 0 1 o2.tail)<|NI r2<|NG a1_1 1 2<|NE (a1_1.ix (1:Int))<|.call 105 [.agg [VS (((a1_1.ix (1:Int)).getD 0 .any).toStr),((a1_1.ix (1:Int)).getD 1 .any)],.sl []] [] fun r3 o3=>NB r3<|.test r3.toBool (.test ((1:Int)==(0:Int)) (NG a1_1 1 2<|NE (a1_1.ix (1:Int))<|.call 56 [.ref 0 0,.agg [VS (((a1_1.ix (1:Int)).getD 0 .any).toStr),((a1_1.ix (1:Int)).getD 1 .any)],VI (IntKind.wrap .i64 (a2-1))] [.cells [((o2.hO).cs.getD 0 .any),VI (((o2.hO).cs.getD 1 .any).toInt)]] fun r4 o4=>.aj ((o4.hO)=.cells (o4.hO).cs)<|.aj (aL [.lk .sl,.lk (.int .i64)] ((o4.hO).cs) 0 1 o4.tail)<|NA r4<|.call 107 [VS (mk [108]),.sl [[VS ((r4.cs.getD 0 .any).toStr),(r4.cs.getD 1 .any)]]] [] fun r5 o5=>NA r5<|.done 0 [.agg [VS ((r5.cs.getD 0 .any).toStr),(r5.cs.getD 1 .any)]] [.cells [((o4.hO).cs.getD 0 .any),VI (((o4.hO).cs.getD 1 .any).toInt)]]) (NG a1_1 2 2<|NE (a1_1.ix (2:Int))<|.call 56 [.ref 0 0,.agg [VS (((a1_1.ix (2:Int)).getD 0 .any).toStr),((a1_1.ix (2:Int)).getD 1 .any)],VI (IntKind.wrap .i64 (a2-1))] [.cells [((o2.hO).cs.getD 0 .any),VI (((o2.hO).cs.getD 1 .any).toInt)]] fun r6 o6=>.aj ((o6.hO)=.cells (o6.hO).cs)<|.aj (aL [.lk .sl,.lk (.int .i64)] ((o6.hO).cs) 0 1 o6.tail)<|NA r6<|.call 107 [VS (mk [114]),.sl [[VS ((r6.cs.getD 0 .any).toStr),(r6.cs.getD 1 .any)]]] [] fun r7 o7=>NA r7<|.done 0 [.agg [VS ((r7.cs.getD 0 .any).toStr),(r7.cs.getD 1 .any)]] [.cells [((o6.hO).cs.getD 0 .any),VI (((o6.hO).cs.getD 1 .any).toInt)]])) (.test (decide (a2<=(0:Int))) (NG a1_1 1 2<|NE (a1_1.ix (1:Int))<|.call 106 [.agg [VS (((a1_1.ix (1:Int)).getD 0 .any).toStr),((a1_1.ix (1:Int)).getD 1 .any)]] [] fun r8 o8=>NI r8<|NG a1_1 2 2<|NE (a1_1.ix (2:Int))<|.call 106 [.agg [VS (((a1_1.ix (2:Int)).getD 0 .any).toStr),((a1_1.ix (2:Int)).getD 1 .any)]] [] fun r9 o9=>NI r9<|.test (decide (r8.toInt>r9.toInt)) (NG a1_1 2 2<|NE (a1_1.ix (2:Int))<|.call 105 [.agg [VS (((a1_1.ix (2:Int)).getD 0 .any).toStr),((a1_1.ix (2:Int)).getD 1 .any)],.sl []] [] fun r10 o10=>NB r10<|.test (!r10.toBool) (.test ((1:Int)==(0:Int)) (NG a1_1 1 2<|NE (a1_1.ix (1:Int))<|.call 56 [.ref 0 0,.agg [VS (((a1_1.ix (1:Int)).getD 0 .any).toStr),((a1_1.ix (1:Int)).getD 1 .any)],VI (IntKind.wrap .i64 (a2-1))] [.cells [((o2.hO).cs.getD 0 .any),VI (((o2.hO).cs.getD 1 .any).toInt)]] fun r11 o11=>.aj ((o11.hO)=.cells (o11.hO).cs)<|.aj (aL [.lk .sl,.lk (.int .i64)] ((o11.hO).cs) 0 1 o11.tail)<|NA r11<|.call 107 [VS (mk [108]),.sl [[VS ((r11.cs.getD 0 .any).toStr),(r11.cs.getD 1 .any)]]] [] fun r12 o12=>NA r12<|.done 0 [.agg [VS ((r12.cs.getD 0 .any).toStr),(r12.cs.getD 1 .any)]] [.cells [((o11.hO).cs.getD 0 .any),VI (((o11.hO).cs.getD 1 .any).toInt)]]) (NG a1_1 2 2<|NE (a1_1.ix (2:Int))<|.call 56 [.ref 0 0,.agg [VS (((a1_1.ix (2:Int)).getD 0 .any).toStr),((a1_1.ix (2:Int)).getD 1 .any)],VI (IntKind.wrap .i64 (a2-1))] [.cells [((o2.hO).cs.getD 0 .any),VI (((o2.hO).cs.getD 1 .any).toInt)]] fun r13 o13=>.aj ((o13.hO)=.cells (o13.hO).cs)<|.aj (aL [.lk .sl,.lk (.int .i64)] ((o13.hO).cs) 0 1 o13.tail)<|NA r13<|.call 107 [VS (mk [114]),.sl [[VS ((r13.cs.getD 0 .any).toStr),(r13.cs.getD 1 .any)]]] [] fun r14 o14=>NA r14<|.done 0 [.agg [VS ((r14.cs.getD 0 .any).toStr),(r14.cs.getD 1 .any)]] [.cells [((o13.hO).cs.getD 0 .any),VI (((o13.hO).cs.getD 1 .any).toInt)]])) (NG a1_1 2 2<|NE (a1_1.ix (2:Int))<|.call 105 [.agg [VS (((a1_1.ix (2:Int)).getD 0 .any).toStr),((a1_1.ix (2:Int)).getD 1 .any)],.sl []] [] fun r15 o15=>NB r15<|.test r15.toBool (.test ((0:Int)==(0:Int)) (NG a1_1 1 2<|NE (a1_1.ix (1:Int))<|.call 56 [.ref 0 0,.agg [VS (((a1_1.ix (1:Int)).getD 0 .any).toStr),((a1_1.ix (1:Int)).getD 1 .any)],VI (IntKind.wrap .i64 (a2-1))] [.cells [((o2.hO).cs.getD 0 .any),VI (((o2.hO).cs.getD 1 .any).toInt)]] fun r16 o16=>.aj ((o16.hO)=.cells (o16.hO).cs)<|.aj (aL [.lk .sl,.lk (.int .i64)] ((o16.hO).cs) 0 1 o16.tail)<|NA r16<|.call 107 [VS (mk [108]),.sl [[VS ((r16.cs.getD 0 .any).toStr),(r16.cs.getD 1 .any)]]] [] fun r17 o17=>NA r17<|.done 0 [.agg [VS ((r17.cs.getD 0 .any).toStr),(r17.cs.getD 1 .any)]] [.cells [((o16.hO).cs.getD 0 .any),VI (((o16.hO).cs.getD 1 .any).toInt)]]) (NG a1_1 2 2<|NE (a1_1.ix (2:Int))<|.call 56 [.ref 0 0,.agg [VS (((a1_1.ix (2:Int)).getD 0 .any).toStr),((a1_1.ix (2:Int)).getD 1 .any)],VI (IntKind.wrap .i64 (a2-1))] [.cells [((o2.hO).cs.getD 0 .any),VI (((o2.hO).cs.getD 1 .any).toInt)]] fun r18 o18=>.aj ((o18.hO)=.cells (o18.hO).cs)<|.aj (aL [.lk .sl,.lk (.int .i64)] ((o18.hO).cs) 0 1 o18.tail)<|NA r18<|.call 107 [VS (mk [114]),.sl [[VS ((r18.cs.getD 0 .any).toStr),(r18.cs.getD 1 .any)]]] [] fun r19 o19=>NA r19<|.done 0 [.agg [VS ((r19.cs.getD 0 .any).toStr),(r19.cs.getD 1 .any)]] [.cells [((o18.hO).cs.getD 0 .any),VI (((o18.hO).cs.getD 1 .any).toInt)]])) (.test (decide (a2<=(0:Int))) (.test ((0:Int)==(0:Int)) (NG a1_1 1 2<|NE (a1_1.ix (1:Int))<|.call 56 [.ref 0 0,.agg [VS (((a1_1.ix (1:Int)).getD 0 .any).toStr),((a1_1.ix (1:Int)).getD 1 .any)],VI (IntKind.wrap .i64 (a2-1))] [.cells [((o2.hO).cs.getD 0 .any),VI (((o2.hO).cs.getD 1 .any).toInt)]] fun r20 o20=>.aj ((o20.hO)=.cells (o20.hO).cs)<|.aj (aL [.lk .sl,.lk (.int .i64)] ((o20.hO).cs) 0 1 o20.tail)<|NA r20<|.call 107 [VS (mk [108]),.sl [[VS ((r20.cs.getD 0 .any).toStr),(r20.cs.getD 1 .any)]]] [] fun r21 o21=>NA r21<|.done 0 [.agg [VS ((r21.cs.getD 0 .any).toStr),(r21.cs.getD 1 .any)]] [.cells [((o20.hO).cs.getD 0 .any),VI (((o20.hO).cs.getD 1 .any).toInt)]]) (NG a1_1 2 2<|NE (a1_1.ix (2:Int))<|.call 56 [.ref 0 0,.agg [VS (((a1_1.ix (2:Int)).getD 0 .any).toStr),((a1_1.ix (2:Int)).getD 1 .any)],VI (IntKind.wrap .i64 (a2-1))] [.cells [((o2.hO).cs.getD 0 .any),VI (((o2.hO).cs.getD 1 .any).toInt)]] fun r22 o22=>.aj ((o22.hO)=.cells (o22.hO).cs)<|.aj (aL [.lk .sl,.lk (.int .i64)] ((o22.hO).cs) 0 1 o22.tail)<|NA r22<|.call 107 [VS (mk [114]),.sl [[VS ((r22.cs.getD 0 .any).toStr),(r22.cs.getD 1 .any)]]] [] fun r23 o23=>NA r23<|.done 0 [.agg [VS ((r23.cs.getD 0 .any).toStr),(r23.cs.getD 1 .any)]] [.cells [((o22.hO).cs.getD 0 .any),VI (((o22.hO).cs.getD 1 .any).toInt)]])) (.test (r2.toInt==(0:Int)) (NG a1_1 1 2<|NE (a1_1.ix (1:Int))<|.call 56 [.ref 0 0,.agg [VS (((a1_1.ix (1:Int)).getD 0 .any).toStr),((a1_1.ix (1:Int)).getD 1 .any)],VI (IntKind.wrap .i64 (a2-1))] [.cells [((o2.hO).cs.getD 0 .any),VI (((o2.hO).cs.getD 1 .any).toInt)]] fun r24 o24=>.aj ((o24.hO)=.cells (o24.hO).cs)<|.aj (aL [.lk .sl,.lk (.int .i64)] ((o24.hO).cs) 0 1 o24.tail)<|NA r24<|.call 107 [VS (mk [108]),.sl [[VS ((r24.cs.getD 0 .any).toStr),(r24.cs.getD 1 .any)]]] [] fun r25 o25=>NA r25<|.done 0 [.agg [VS ((r25.cs.getD 0 .any).toStr),(r25.cs.getD 1 .any)]] [.cells [((o24.hO).cs.getD 0 .any),VI (((o24.hO).cs.getD 1 .any).toInt)]]) (NG a1_1 2 2<|NE (a1_1.ix (2:Int))<|.call 56 [.ref 0 0,.agg [VS (((a1_1.ix (2:Int)).getD 0 .any).toStr),((a1_1.ix (2:Int)).getD 1 .any)],VI (IntKind.wrap .i64 (a2-1))] [.cells [((o2.hO).cs.getD 0 .any),VI (((o2.hO).cs.getD 1 .any).toInt)]] fun r26 o26=>.aj ((o26.hO)=.cells (o26.hO).cs)<|.aj (aL [.lk .sl,.lk (.int .i64)] ((o26.hO).cs) 0 1 o26.tail)<|NA r26<|.call 107 [VS (mk [114]),.sl [[VS ((r26.cs.getD 0 .any).toStr),(r26.cs.getD 1 .any)]]] [] fun r27 o27=>NA r27<|.done 0 [.agg [VS ((r27.cs.getD 0 .any).toStr),(r27.cs.getD 1 .any)]] [.cells [((o26.hO).cs.getD 0 .any),VI (((o26.hO).cs.getD 1 .any).toInt)]]))))) (NG a1_1 2 2<|NE (a1_1.ix (2:Int))<|.call 105 [.agg [VS (((a1_1.ix (2:Int)).getD 0 .any).toStr),((a1_1.ix (2:Int)).getD 1 .any)],.sl []] [] fun r28 o28=>NB r28<|.test r28.toBool (.test ((0:Int)==(0:Int)) (NG a1_1 1 2<|NE (a1_1.ix (1:Int))<|.call 56 [.ref 0 0,.agg [VS (((a1_1.ix (1:Int)).getD 0 .any).toStr),((a1_1.ix (1:Int)).getD 1 .any)],VI (IntKind.wrap .i64 (a2-1))] [.cells [((o2.hO).cs.getD 0 .any),VI (((o2.hO).cs.getD 1 .any).toInt)]] fun r29 o29=>.aj ((o29.hO)=.cells (o29.hO).cs)<|.aj (aL [.lk .sl,.lk (.int .i64)] ((o29.hO).cs) 0 1 o29.tail)<|NA r29<|.call 107 [VS (mk [108]),.sl [[VS ((r29.cs.getD 0 .any).toStr),(r29.cs.getD 1 .any)]]] [] fun r30 o30=>NA r30<|.done 0 [.agg [VS ((r30.cs.getD 0 .any).toStr),(r30.cs.getD 1 .any)]] [.cells [((o29.hO).cs.getD 0 .any),VI (((o29.hO).cs.getD 1 .any).toInt)]]) (NG a1_1 2 2<|NE (a1_1.ix (2:Int))<|.call 56 [.ref 0 0,.agg [VS (((a1_1.ix (2:Int)).getD 0 .any).toStr),((a1_1.ix (2:Int)).getD 1 .any)],VI (IntKind.wrap .i64 (a2-1))] [.cells [((o2.hO).cs.getD 0 .any),VI (((o2.hO).cs.getD 1 .any).toInt)]] fun r31 o31=>.aj ((o31.hO)=.cells (o31.hO).cs)<|.aj (aL [.lk .sl,.lk (.int .i64)] ((o31.hO).cs) 0 1 o31.tail)<|NA r31<|.call 107 [VS (mk [114]),.sl [[VS ((r31.cs.getD 0 .any).toStr),(r31.cs.getD 1 .any)]]] [] fun r32 o32=>NA r32<|.done 0 [.agg [VS ((r32.cs.getD 0 .any).toStr),(r32.cs.getD 1 .any)]] [.cells [((o31.hO).cs.getD 0 .any),VI (((o31.hO).cs.getD 1 .any).toInt)]])) (.test (decide (a2<=(0:Int))) (.test ((0:Int)==(0:Int)) (NG a1_1 1 2<|NE (a1_1.ix (1:Int))<|.call 56 [.ref 0 0,.agg [VS (((a1_1.ix (1:Int)).getD 0 .any).toStr),((a1_1.ix (1:Int)).getD 1 .any)],VI (IntKind.wrap .i64 (a2-1))] [.cells [((o2.hO).cs.getD 0 .any),VI (((o2.hO).cs.getD 1 .any).toInt)]] fun r33 o33=>.aj ((o33.hO)=.cells (o33.hO).cs)<|.aj (aL [.lk .sl,.lk (.int .i64)] ((o33.hO).cs) 0 1 o33.tail)<|NA r33<|.call 107 [VS (mk [108]),.sl [[VS ((r33.cs.getD 0 .any).toStr),(r33.cs.getD 1 .any)]]] [] fun r34 o34=>NA r34<|.done 0 [.agg [VS ((r34.cs.getD 0 .any).toStr),(r34.cs.getD 1 .any)]] [.cells [((o33.hO).cs.getD 0 .any),VI (((o33.hO).cs.getD 1 .any).toInt)]]) (NG a1_1 2 2<|NE (a1_1.ix (2:Int))<|.call 56 [.ref 0 0,.agg [VS (((a1_1.ix (2:Int)).getD 0 .any).toStr),((a1_1.ix (2:Int)).getD 1 .any)],VI (IntKind.wrap .i64 (a2-1))] [.cells [((o2.hO).cs.getD 0 .any),VI (((o2.hO).cs.getD 1 .any).toInt)]] fun r35 o35=>.aj ((o35.hO)=.cells (o35.hO).cs)<|.aj (aL [.lk .sl,.lk (.int .i64)] ((o35.hO).cs) 0 1 o35.tail)<|NA r35<|.call 107 [VS (mk [114]),.sl [[VS ((r35.cs.getD 0 .any).toStr),(r35.cs.getD 1 .any)]]] [] fun r36 o36=>NA r36<|.done 0 [.agg [VS ((r36.cs.getD 0 .any).toStr),(r36.cs.getD 1 .any)]] [.cells [((o35.hO).cs.getD 0 .any),VI (((o35.hO).cs.getD 1 .any).toInt)]])) (.test (r2.toInt==(0:Int)) (NG a1_1 1 2<|NE (a1_1.ix (1:Int))<|.call 56 [.ref 0 0,.agg [VS (((a1_1.ix (1:Int)).getD 0 .any).toStr),((a1_1.ix (1:Int)).getD 1 .any)],VI (IntKind.wrap .i64 (a2-1))] [.cells [((o2.hO).cs.getD 0 .any),VI (((o2.hO).cs.getD 1 .any).toInt)]] fun r37 o37=>.aj ((o37.hO)=.cells (o37.hO).cs)<|.aj (aL [.lk .sl,.lk (.int .i64)] ((o37.hO).cs) 0 1 o37.tail)<|NA r37<|.call 107 [VS (mk [108]),.sl [[VS ((r37.cs.getD 0 .any).toStr),(r37.cs.getD 1 .any)]]] [] fun r38 o38=>NA r38<|.done 0 [.agg [VS ((r38.cs.getD 0 .any).toStr),(r38.cs.getD 1 .any)]] [.cells [((o37.hO).cs.getD 0 .any),VI (((o37.hO).cs.getD 1 .any).toInt)]]) (NG a1_1 2 2<|NE (a1_1.ix (2:Int))<|.call 56 [.ref 0 0,.agg [VS (((a1_1.ix (2:Int)).getD 0 .any).toStr),((a1_1.ix (2:Int)).getD 1 .any)],VI (IntKind.wrap .i64 (a2-1))] [.cells [((o2.hO).cs.getD 0 .any),VI (((o2.hO).cs.getD 1 .any).toInt)]] fun r39 o39=>.aj ((o39.hO)=.cells (o39.hO).cs)<|.aj (aL [.lk .sl,.lk (.int .i64)] ((o39.hO).cs) 0 1 o39.tail)<|NA r39<|.call 107 [VS (mk [114]),.sl [[VS ((r39.cs.getD 0 .any).toStr),(r39.cs.getD 1 .any)]]] [] fun r40 o40=>NA r40<|.done 0 [.agg [VS ((r40.cs.getD 0 .any).toStr),(r40.cs.getD 1 .any)]] [.cells [((o39.hO).cs.getD 0 .any),VI (((o39.hO).cs.getD 1 .any).toInt)]]))))) (NG a1_1 2 2<|NE (a1_1.ix (2:Int))<|.call 105 [.agg [VS (((a1_1.ix (2:Int)).getD 0 .any).toStr),((a1_1.ix (2:Int)).getD 1 .any)],.sl []] [] fun r41 o41=>NB r41<|.test r41.toBool (.test ((0:Int)==(0:Int)) (NG a1_1 1 2<|NE (a1_1.ix (1:Int))<|.call 56 [.ref 0 0,.agg [VS (((a1_1.ix (1:Int)).getD 0 .any).toStr),((a1_1.ix (1:Int)).getD 1 .any)],VI (IntKind.wrap .i64 (a2-1))] [.cells [((o2.hO).cs.getD 0 .any),VI (((o2.hO).cs.getD 1 .any).toInt)]] fun r42 o42=>.aj ((o42.hO)=.cells (o42.hO).cs)<|.aj (aL [.lk .sl,.lk (.int .i64)] ((o42.hO).cs) 0 1 o42.tail)<|NA r42<|.call 107 [VS (mk [108]),.sl [[VS ((r42.cs.getD 0 .any).toStr),(r42.cs.getD 1 .any)]]] [] fun r43 o43=>NA r43<|.done 0 [.agg [VS ((r43.cs.getD 0 .any).toStr),(r43.cs.getD 1 .any)]] [.cells [((o42.hO).cs.getD 0 .any),VI (((o42.hO).cs.getD 1 .any).toInt)]]) (NG a1_1 2 2<|NE (a1_1.ix (2:Int))<|.call 56 [.ref 0 0,.agg [VS (((a1_1.ix (2:Int)).getD 0 .any).toStr),((a1_1.ix (2:Int)).getD 1 .any)],VI (IntKind.wrap .i64 (a2-1))] [.cells [((o2.hO).cs.getD 0 .any),VI (((o2.hO).cs.getD 1 .any).toInt)]] fun r44 o44=>.aj ((o44.hO)=.cells (o44.hO).cs)<|.aj (aL [.lk .sl,.lk (.int .i64)] ((o44.hO).cs) 0 1 o44.tail)<|NA r44<|.call 107 [VS (mk [114]),.sl [[VS ((r44.cs.getD 0 .any).toStr),(r44.cs.getD 1 .any)]]] [] fun r45 o45=>NA r45<|.done 0 [.agg [VS ((r45.cs.getD 0 .any).toStr),(r45.cs.getD 1 .any)]] [.cells [((o44.hO).cs.getD 0 .any),VI (((o44.hO).cs.getD 1 .any).toInt)]])) (.test (decide (a2<=(0:Int))) (.test ((0:Int)==(0:Int)) (NG a1_1 1 2<|NE (a1_1.ix (1:Int))<|.call 56 [.ref 0 0,.agg [VS (((a1_1.ix (1:Int)).getD 0 .any).toStr),((a1_1.ix (1:Int)).getD 1 .any)],VI (IntKind.wrap .i64 (a2-1))] [.cells [((o2.hO).cs.getD 0 .any),VI (((o2.hO).cs.getD 1 .any).toInt)]] fun r46 o46=>.aj ((o46.hO)=.cells (o46.hO).cs)<|.aj (aL [.lk .sl,.lk (.int .i64)] ((o46.hO).cs) 0 1 o46.tail)<|NA r46<|.call 107 [VS (mk [108]),.sl [[VS ((r46.cs.getD 0 .any).toStr),(r46.cs.getD 1 .any)]]] [] fun r47 o47=>NA r47<|.done 0 [.agg [VS ((r47.cs.getD 0 .any).toStr),(r47.cs.getD 1 .any)]] [.cells [((o46.hO).cs.getD 0 .any),VI (((o46.hO).cs.getD 1 .any).toInt)]]) (NG a1_1 2 2<|NE (a1_1.ix (2:Int))<|.call 56 [.ref 0 0,.agg [VS (((a1_1.ix (2:Int)).getD 0 .any).toStr),((a1_1.ix (2:Int)).getD 1 .any)],VI (IntKind.wrap .i64 (a2-1))] [.cells [((o2.hO).cs.getD 0 .any),VI (((o2.hO).cs.getD 1 .any).toInt)]] fun r48 o48=>.aj ((o48.hO)=.cells (o48.hO).cs)<|.aj (aL [.lk .sl,.lk (.int .i64)] ((o48.hO).cs) 0 1 o48.tail)<|NA r48<|.call 107 [VS (mk [114]),.sl [[VS ((r48.cs.getD 0 .any).toStr),(r48.cs.getD 1 .any)]]] [] fun r49 o49=>NA r49<|.done 0 [.agg [VS ((r49.cs.getD 0 .any).toStr),(r49.cs.getD 1 .any)]] [.cells [((o48.hO).cs.getD 0 .any),VI (((o48.hO).cs.getD 1 .any).toInt)]])) (.test (r2.toInt==(0:Int)) (NG a1_1 1 2<|NE (a1_1.ix (1:Int))<|.call 56 [.ref 0 0,.agg [VS (((a1_1.ix (1:Int)).getD 0 .any).toStr),((a1_1.ix (1:Int)).getD 1 .any)],VI (IntKind.wrap .i64 (a2-1))] [.cells [((o2.hO).cs.getD 0 .any),VI (((o2.hO).cs.getD 1 .any).toInt)]] fun r50 o50=>.aj ((o50.hO)=.cells (o50.hO).cs)<|.aj (aL [.lk .sl,.lk (.int .i64)] ((o50.hO).cs) 0 1 o50.tail)<|NA r50<|.call 107 [VS (mk [108]),.sl [[VS ((r50.cs.getD 0 .any).toStr),(r50.cs.getD 1 .any)]]] [] fun r51 o51=>NA r51<|.done 0 [.agg [VS ((r51.cs.getD 0 .any).toStr),(r51.cs.getD 1 .any)]] [.cells [((o50.hO).cs.getD 0 .any),VI (((o50.hO).cs.getD 1 .any).toInt)]]) (NG a1_1 2 2<|NE (a1_1.ix (2:Int))<|.call 56 [.ref 0 0,.agg [VS (((a1_1.ix (2:Int)).getD 0 .any).toStr),((a1_1.ix (2:Int)).getD 1 .any)],VI (IntKind.wrap .i64 (a2-1))] [.cells [((o2.hO).cs.getD 0 .any),VI (((o2.hO).cs.getD 1 .any).toInt)]] fun r52 o52=>.aj ((o52.hO)=.cells (o52.hO).cs)<|.aj (aL [.lk .sl,.lk (.int .i64)] ((o52.hO).cs) 0 1 o52.tail)<|NA r52<|.call 107 [VS (mk [114]),.sl [[VS ((r52.cs.getD 0 .any).toStr),(r52.cs.getD 1 .any)]]] [] fun r53 o53=>NA r53<|.done 0 [.agg [VS ((r53.cs.getD 0 .any).toStr),(r53.cs.getD 1 .any)]] [.cells [((o52.hO).cs.getD 0 .any),VI (((o52.hO).cs.getD 1 .any).toInt)]])))))) (.test (ae r1.toStr==ae (mk [42])) (NG a1_1 1 2<|NE (a1_1.ix (1:Int))<|.call 56 [.ref 0 0,.agg [VS (((a1_1.ix (1:Int)).getD 0 .any).toStr),((a1_1.ix (1:Int)).getD 1 .any)],VI (IntKind.wrap .i64 (a2-1))] [.cells [a0_0,VI a0_1]] fun r54 o54=>.aj ((o54.hO)=.cells (o54.hO).cs)<|.aj (aL [.lk .sl,.lk (.int .i64)] ((o54.hO).cs) 0 1 o54.tail)<|NA r54<|NG a1_1 2 2<|NE (a1_1.ix (2:Int))<|.call 56 [.ref 0 0,.agg [VS (((a1_1.ix (2:Int)).getD 0 .any).toStr),((a1_1.ix (2:Int)).getD 1 .any)],VI (IntKind.wrap .i64 (a2-1))] [.cells [((o54.hO).cs.getD 0 .any),VI (((o54.hO).cs.getD 1 .any).toInt)]] fun r55 o55=>.aj ((o55.hO)=.cells (o55.hO).cs)<|.aj (aL [.lk .sl,.lk (.int .i64)] ((o55.hO).cs) 0 1 o55.tail)<|NA r55<|.call 107 [VS (mk [112]),.sl [[VS ((r54.cs.getD 0 .any).toStr),(r54.cs.getD 1 .any)],[VS ((r55.cs.getD 0 .any).toStr),(r55.cs.getD 1 .any)]]] [] fun r56 o56=>NA r56<|.done 0 [.agg [VS ((r56.cs.getD 0 .any).toStr),(r56.cs.getD 1 .any)]] [.cells [((o55.hO).cs.getD 0 .any),VI (((o55.hO).cs.getD 1 .any).toInt)]]) (.test (ae r1.toStr==ae (mk [114,101,99])) (.call 108 [.agg [VS a1_0,a1_1]] [] fun r57 o57=>NT r57<|.aj ((r57.comp 0)=.agg (r57.comp 0).cs/\(r57.comp 0).cs.length=2/\bF [.str,.sl] ((r57.comp 0).cs) 0)<|NB (r57.comp 1)<|.test (!((r57.comp 1).toBool)) (.done 0 [.agg [VS (mk [117]),.v (.slice none 0 0)]] [.cells [a0_0,VI a0_1]]) (.test (decide (a2<((-12):Int))) (.done 0 [.agg [VS (mk [117]),.v (.slice none 0 0)]] [.cells [a0_0,VI a0_1]]) (.call 56 [.ref 0 0,.agg [VS (((r57.comp 0).cs.getD 0 .any).toStr),((r57.comp 0).cs.getD 1 .any)],VI (IntKind.wrap .i64 (a2-1))] [.cells [a0_0,VI a0_1]] fun r58 o58=>.aj ((o58.hO)=.cells (o58.hO).cs)<|.aj (aL [.lk .sl,.lk (.int .i64)] ((o58.hO).cs) 0 1 o58.tail)<|NA r58<|.call 107 [VS (mk [102]),.sl [[VS ((r58.cs.getD 0 .any).toStr),(r58.cs.getD 1 .any)]]] [] fun r59 o59=>NA r59<|.done 0 [.agg [VS ((r59.cs.getD 0 .any).toStr),(r59.cs.getD 1 .any)]] [.cells [((o58.hO).cs.getD 0 .any),VI (((o58.hO).cs.getD 1 .any).toInt)]]))) (.test (ae a1_0==ae (mk [49])) (.done 0 [.agg [VS (mk [117]),.v (.slice none 0 0)]] [.cells [a0_0,VI a0_1]]) (.call 27 [.ref 0 0,VI 3] [.cells [a0_0,VI a0_1]] fun r60 o60=>.aj ((o60.hO)=.cells (o60.hO).cs)<|.aj (aL [.lk .sl,.lk (.int .i64)] ((o60.hO).cs) 0 1 o60.tail)<|NI r60<|.call 109 [VI r60.toInt] [] fun r61 o61=>NS r61<|.aj (af (mk [101])+af r61.toStr<=9223372036854775807)<|.done 0 [.agg [VS (((mk [101]):ByteArray)++r61.toStr),.v (.slice none 0 0)]] [.cells [((o60.hO).cs.getD 0 .any),VI (((o60.hO).cs.getD 1 .any).toInt)]]))))
theorem DM(a0_0:AV)(a0_1:Int)(a1_0:ByteArray)(a1_1:AV)(a2:Int)(ha1_1:LK.has .sl a1_1)(ha0_0:LK.has .sl a0_0)(h:dj 132 (Aw a0_0 a0_1 a1_0 a1_1 a2) R):an Tryz.prog 56 [.ref 0 0,.agg [VS a1_0,a1_1],VI a2] [.cells [a0_0,VI a0_1]] R :=
 an.nf (bm (bU (ah (bT ha0_0) (ah (aA _) aD))) ct) (an.up (ah (aA _) (ah (cj (ah (aA _) (ah (bT ha1_1) aD))) (ah (aA _) aD))) (oF [] {mu:=[(0,.one (.obj [.lk .sl,.lk (.int .i64)]))],own:=[]} Tryz.f56 h))
def HL:LI:={hd:={bZ:=[(1,.k .sl),(6,.k (.int .i64))],refs:=[(2,2),(4,4)],cr:=[(2,[.lk .str,.lk .sl]),(4,[.lk .str,.lk .sl])],gK:=[(5,1)]},xs:={refs:=[(2,2),(4,4)],cr:=[(2,[.lk .str,.lk .sl]),(4,[.lk .str,.lk .sl])],gK:=[(5,1)]},rt:={},ex:=0}
def Kg:Code:=db (cQ Tryz.f57) 3
def Mu:List (Nat×LI):=[(3,HL)]
def Nk(a0_0:ByteArray)(a0_1:AV)(a1:AV):Tree :=
 .call 102 [.agg [VS a0_0,a0_1],.sl [],.vec 0] [.vec 1 []] fun r1 o1=>.aj (r1=.vec 1/\(o1.tail.hO)=.vec 1 (o1.tail.hO).es)<|.loop Kg HL [a1,VI 0] [.cells [VS a0_0,a0_1],.cells [VS (mk []),.v (.slice none 0 0)],.vec 1 ((o1.tail.hO).es)] (fun y3 q3=>.aj ((q3.hO)=.cells (q3.hO).cs)<|.aj (ag [.lk .str,.lk .sl] ((q3.hO).cs) 0 q3.tail)<|.aj (((q3.tail.drop 0).hO)=.cells ((q3.tail.drop 0).hO).cs)<|.aj (ag [.lk .str,.lk .sl] (((q3.tail.drop 0).hO).cs) 0 ((q3.tail.drop 0).tail))<|.aj (((q3.drop 2).hO)=.vec 1 ((q3.drop 2).hO).es)<|.call 110 [.agg [VS (((q3.hO).cs.getD 0 .any).toStr),((q3.hO).cs.getD 1 .any)],.sl [],.sl [],.ref 0 0] [.cells [.vec 1,VI 0],.vec 1 ((q3.tail.tail.hO).es)] fun r4 o4=>.aj ((o4.hO)=.cells (o4.hO).cs)<|.aj (aL [.vec 1,.lk (.int .i64)] ((o4.hO).cs) 0 1 o4.tail)<|NA r4<|.done 0 [.agg [VS ((r4.cs.getD 0 .any).toStr),(r4.cs.getD 1 .any)]] []) (fun y3 q3=>.fail)
theorem Pn(a0_0:ByteArray)(a0_1:AV)(a1:AV)(ha0_1:LK.has .sl a0_1)(ha1:LK.has .sl a1)(h:dj 33 (Nk a0_0 a0_1 a1) R):an Tryz.prog 57 [.agg [VS a0_0,a0_1],a1] [] R :=
 uQ (ah (cj (ah (aA _) (ah (bT ha0_1) aD))) (ah (bT ha1) aD)) (oQ Mu Tryz.f57 h)
def Ft(x1:AV)(x6:Int)(o2_0:ByteArray)(o2_1:AV)(o4_0:ByteArray)(o4_1:AV)(e5:List (List AV)):Tree :=
 NL x1<|NI (VI x6)<|.aj (Ob.cells [VS o2_0,o2_1]=.cells [VS o2_0,o2_1])<|.aj (ag [.lk .str,.lk .sl] [VS o2_0,o2_1] 0 [.cells [VS o4_0,o4_1],.vec 1 e5])<|.aj (Ob.cells [VS o4_0,o4_1]=.cells [VS o4_0,o4_1])<|.aj (ag [.lk .str,.lk .sl] [VS o4_0,o4_1] 0 [.vec 1 e5])<|.aj (Ob.vec 1 e5=.vec 1 e5)<|NL x1<|.test (decide (x6<(x1.elems.length:Int))) (NG x1 x6 2<|NE (x1.ix x6)<|.call 102 [.agg [VS (((x1.ix x6).getD 0 .any).toStr),((x1.ix x6).getD 1 .any)],.sl [],.vec 0] [.vec 1 []] fun r1 o1=>.aj (r1=.vec 1/\(o1.tail.hO)=.vec 1 (o1.tail.hO).es)<|.aj (cV 1 ((o1.tail.hO).es)/\((e5.length)+((o1.tail.hO).es).length)*16<=140737488355328)<|.done 0 [x1,VI (IntKind.wrap .i64 (x6+1))] [.cells [VS o2_0,o2_1],.cells [VS o4_0,o4_1],.vec 1 (e5++((o1.tail.hO).es))]) (.done 1 [] [.cells [VS o2_0,o2_1],.cells [VS o4_0,o4_1],.vec 1 e5])
abbrev HC:=cH Tryz.prog 33 Kg HL
theorem KE(x1:AV)(x6:Int)(o2_0:ByteArray)(o2_1:AV)(o4_0:ByteArray)(o4_1:AV)(e5:List (List AV))(h:mi 33 (Ft x1 x6 o2_0 o2_1 o4_0 o4_1 e5) HC U):HC [x1,VI x6] [.cells [VS o2_0,o2_1],.cells [VS o4_0,o4_1],.vec 1 e5] U :=
 gQ Mu h
def IQ(a0:ByteArray):Tree :=
 .call 62 [VS a0] [] fun r1 o1=>NP r1<|NP r1<|.test r1.isNil (.done 0 [.v (.pointer none)] []) (NZ r1<|NZ r1<|.aj (LK.has (.int .u8) (r1.deref.hA)/\1<=r1.deref.length)<|.test (((r1.deref.hA).toInt) != (114:Int)) (.done 0 [.v (.pointer none)] []) (.done 0 [r1] []))
theorem Rg(a0:ByteArray)(h:dj 16 (IQ a0) R):an Tryz.prog 58 [VS a0] [] R :=
 uQ (ah (aA _) aD) (oQ [] Tryz.f58 h)
def Ji(a0:ByteArray):Tree :=
 .call 50 [VS a0] [] fun r1 o1=>NP r1<|NP r1<|.test r1.isNil (.done 0 [.v (.pointer none)] []) (.call 111 [r1,.v (.slice none 0 0)] [] fun r2 o2=>NP r2<|NP r2<|.test r2.isNil (.done 0 [.v (.pointer none)] []) (.call 112 [r2] [] fun r3 o3=>NI r3<|.test (decide (r3.toInt>(400:Int))) (.done 0 [.v (.pointer none)] []) (.done 0 [r2] [])))
theorem OT(a0:ByteArray)(h:dj 19 (Ji a0) R):an Tryz.prog 59 [VS a0] [] R :=
 uQ (ah (aA _) aD) (oQ [] Tryz.f59 h)
def Lj(a0:AV):Tree :=
 .call 113 [.ref 0 0] [.cells [VI 0,VB false]] fun r1 o1=>.aj ((o1.hO)=.cells (o1.hO).cs)<|.aj (aL [.lk (.int .i64),.lk .bool] ((o1.hO).cs) 0 1 o1.tail)<|NS r1<|NZ a0<|NZ a0<|dV (a0.deref.drop 3)<|.call 116 [((a0.deref.drop 3).hA),.ptr [.v (.int .u8 110),VS r1.toStr,VI 0,.v (.pointer none),.v (.pointer none)],VI 0] [] fun r2 o2=>NP r2<|.call 115 [.ref 0 0,r2,VS r1.toStr] [.cells [VI (((o1.hO).cs.getD 0 .any).toInt),VB (((o1.hO).cs.getD 1 .any).toBool)]] fun r3 o3=>.aj ((o3.hO)=.cells (o3.hO).cs)<|.aj (aL [.lk (.int .i64),.lk .bool] ((o3.hO).cs) 0 1 o3.tail)<|NP r3<|.call 114 [.ref 0 0,r3] [.cells [VI (((o3.hO).cs.getD 0 .any).toInt),VB (((o3.hO).cs.getD 1 .any).toBool)]] fun r4 o4=>.aj ((o4.hO)=.cells (o4.hO).cs)<|.aj (aL [.lk (.int .i64),.lk .bool] ((o4.hO).cs) 0 1 o4.tail)<|NP r4<|.test (((o4.hO).cs.getD 1 .any).toBool) (.done 0 [.cy [.v (.pointer none),VB false]] []) (.call 117 [r4,VS r1.toStr,a0] [] fun r5 o5=>NP r5<|.call 114 [.ref 0 0,r5] [.cells [VI (((o4.hO).cs.getD 0 .any).toInt),VB (((o4.hO).cs.getD 1 .any).toBool)]] fun r6 o6=>.aj ((o6.hO)=.cells (o6.hO).cs)<|.aj (aL [.lk (.int .i64),.lk .bool] ((o6.hO).cs) 0 1 o6.tail)<|NP r6<|.done 0 [.cy [r6,VB (!(((o6.hO).cs.getD 1 .any).toBool))]] [])
theorem Pb(a0:AV)(ha0:LK.has .ptr a0)(h:dj 40 (Lj a0) R):an Tryz.prog 60 [a0] [] R :=
 uQ (ah (bA ha0) aD) (oQ [] Tryz.f60 h)
def Nl(a0:AV):Tree :=
 .call 112 [a0] [] fun r1 o1=>NI r1<|.test (decide (r1.toInt>(400:Int))) (.done 0 [.cy [VS (mk []),VB false]] []) (.call 118 [a0] [] fun r2 o2=>NS r2<|.call 59 [VS r2.toStr] [] fun r3 o3=>NP r3<|NP r3<|.test r3.isNil (.done 0 [.cy [VS (mk []),VB false]] []) (.done 0 [.cy [VS r2.toStr,VB true]] []))
theorem OQ(a0:AV)(ha0:LK.has .ptr a0)(h:dj 14 (Nl a0) R):an Tryz.prog 61 [a0] [] R :=
 uQ (ah (bA ha0) aD) (oQ [] Tryz.f61 h)
def Jd(a0:ByteArray):Tree :=
 .call 59 [VS a0] [] fun r1 o1=>NP r1<|NP r1<|.test r1.isNil (.done 0 [.v (.pointer none)] []) (.call 119 [r1] [] fun r2 o2=>NB r2<|.test (!r2.toBool) (.done 0 [.v (.pointer none)] []) (.done 0 [r1] []))
theorem NY(a0:ByteArray)(h:dj 14 (Jd a0) R):an Tryz.prog 62 [VS a0] [] R :=
 uQ (ah (aA _) aD) (oQ [] Tryz.f62 h)
def zY(a0_0:AV)(a0_1:AV)(a1:AV)(a2:Int):Tree :=
 NZ a0_0<|NZ a0_0<|.aj (LK.has (.int .u8) (a0_0.deref.hA)/\1<=a0_0.deref.length)<|.test (((a0_0.deref.hA).toInt)==(49:Int)) (NZ a1<|NZ a1<|.aj (LK.has (.int .u8) (a1.deref.hA)/\1<=a1.deref.length)<|.done 0 [VB (((a1.deref.hA).toInt)==(117:Int))] []) (.test (((a0_0.deref.hA).toInt)==(110:Int)) (NZ a1<|NZ a1<|.aj (LK.has (.int .u8) (a1.deref.hA)/\1<=a1.deref.length)<|.test (((a1.deref.hA).toInt) != (101:Int)) (.done 0 [VB false] []) (NZ a1<|NZ a1<|kS (a1.deref.drop 1)<|.aj (0<=(1:Int)/\(1:Int)<=(af (((a1.deref.drop 1).hA).toStr):Int)/\(af (((a1.deref.drop 1).hA).toStr):Int)<=(af (((a1.deref.drop 1).hA).toStr):Int))<|.call 120 [VS (cd (((a1.deref.drop 1).hA).toStr) (bq 1) (bq (af (((a1.deref.drop 1).hA).toStr):Int)))] [] fun r1 o1=>NT r1<|NI (r1.comp 0)<|.aj (LK.has .jK (r1.comp 1))<|.done 0 [VB (decide (((r1.comp 0).toInt)<a2))] [])) (.test (((a0_0.deref.hA).toInt)==(98:Int)) (.call 121 [.agg [a0_0,a0_1]] [] fun r2 o2=>NP r2<|NZ r2<|NZ r2<|.aj (bF [.ptr,.ptr] r2.deref 0/\2<=r2.deref.length)<|.call 63 [.agg [(r2.deref.getD 0 .any),(r2.deref.getD 1 .any)],a1,VI a2] [] fun r3 o3=>NB r3<|.done 0 [VB r3.toBool] []) (.test (((a0_0.deref.hA).toInt)==(43:Int)) (NZ a1<|NZ a1<|.aj (LK.has (.int .u8) (a1.deref.hA)/\1<=a1.deref.length)<|.test (((a1.deref.hA).toInt)==(108:Int)) (.call 87 [.agg [a0_0,a0_1]] [] fun r4 o4=>.aj (r4=.agg r4.cs/\r4.cs.length=2/\bF [.ptr,.ptr] r4.cs 0)<|NZ a1<|NZ a1<|dV (a1.deref.drop 2)<|.call 63 [.agg [(r4.cs.getD 0 .any),(r4.cs.getD 1 .any)],((a1.deref.drop 2).hA),VI a2] [] fun r5 o5=>NB r5<|.test r5.toBool (.done 0 [VB true] []) (NZ a1<|NZ a1<|.aj (LK.has (.int .u8) (a1.deref.hA)/\1<=a1.deref.length)<|.test (((a1.deref.hA).toInt)==(114:Int)) (.call 88 [.agg [a0_0,a0_1]] [] fun r6 o6=>.aj (r6=.agg r6.cs/\r6.cs.length=2/\bF [.ptr,.ptr] r6.cs 0)<|NZ a1<|NZ a1<|dV (a1.deref.drop 2)<|.call 63 [.agg [(r6.cs.getD 0 .any),(r6.cs.getD 1 .any)],((a1.deref.drop 2).hA),VI a2] [] fun r7 o7=>NB r7<|.done 0 [VB r7.toBool] []) (.done 0 [VB false] []))) (NZ a1<|NZ a1<|.aj (LK.has (.int .u8) (a1.deref.hA)/\1<=a1.deref.length)<|.test (((a1.deref.hA).toInt)==(114:Int)) (.call 88 [.agg [a0_0,a0_1]] [] fun r8 o8=>.aj (r8=.agg r8.cs/\r8.cs.length=2/\bF [.ptr,.ptr] r8.cs 0)<|NZ a1<|NZ a1<|dV (a1.deref.drop 2)<|.call 63 [.agg [(r8.cs.getD 0 .any),(r8.cs.getD 1 .any)],((a1.deref.drop 2).hA),VI a2] [] fun r9 o9=>NB r9<|.done 0 [VB r9.toBool] []) (.done 0 [VB false] []))) (.test (((a0_0.deref.hA).toInt)==(42:Int)) (NZ a1<|NZ a1<|.aj (LK.has (.int .u8) (a1.deref.hA)/\1<=a1.deref.length)<|.test (((a1.deref.hA).toInt)==(112:Int)) (.call 87 [.agg [a0_0,a0_1]] [] fun r10 o10=>.aj (r10=.agg r10.cs/\r10.cs.length=2/\bF [.ptr,.ptr] r10.cs 0)<|NZ a1<|NZ a1<|dV (a1.deref.drop 2)<|.call 63 [.agg [(r10.cs.getD 0 .any),(r10.cs.getD 1 .any)],((a1.deref.drop 2).hA),VI a2] [] fun r11 o11=>NB r11<|.test r11.toBool (.call 88 [.agg [a0_0,a0_1]] [] fun r12 o12=>.aj (r12=.agg r12.cs/\r12.cs.length=2/\bF [.ptr,.ptr] r12.cs 0)<|NZ a1<|NZ a1<|dV (a1.deref.drop 3)<|.call 63 [.agg [(r12.cs.getD 0 .any),(r12.cs.getD 1 .any)],((a1.deref.drop 3).hA),VI a2] [] fun r13 o13=>NB r13<|.done 0 [VB r13.toBool] []) (.done 0 [VB false] [])) (.done 0 [VB false] [])) (.test (((a0_0.deref.hA).toInt)==(114:Int)) (.call 48 [.agg [a0_0,a0_1]] [] fun r14 o14=>NT r14<|.aj ((r14.comp 0)=.agg (r14.comp 0).cs/\(r14.comp 0).cs.length=2/\bF [.ptr,.ptr] ((r14.comp 0).cs) 0)<|NP (r14.comp 1)<|NZ a1<|NZ a1<|.aj (LK.has (.int .u8) (a1.deref.hA)/\1<=a1.deref.length)<|.test (((a1.deref.hA).toInt)==(102:Int)) (NZ a1<|NZ a1<|dV (a1.deref.drop 2)<|.call 63 [.agg [((r14.comp 0).cs.getD 0 .any),((r14.comp 0).cs.getD 1 .any)],((a1.deref.drop 2).hA),VI a2] [] fun r15 o15=>NB r15<|.done 0 [VB r15.toBool] []) (.done 0 [VB false] [])) (.done 0 [VB false] []))))))
theorem MD(a0_0:AV)(a0_1:AV)(a1:AV)(a2:Int)(ha0_0:LK.has .ptr a0_0)(ha0_1:LK.has .ptr a0_1)(ha1:LK.has .ptr a1)(h:dj 134 (zY a0_0 a0_1 a1 a2) R):an Tryz.prog 63 [.agg [a0_0,a0_1],a1,VI a2] [] R :=
 uQ (ah (cj (ah (bA ha0_0) (ah (bA ha0_1) aD))) (ah (bA ha1) (ah (aA _) aD))) (oQ [] Tryz.f63 h)
def GX:LI:={hd:={bZ:=[(3,.k .str),(7,.k (.int .i64))],refs:=[(1,1)],cr:=[(1,[.lk .str,.lk .sl,.lk .str])]},xs:={},rt:={bZ:=[(2,.k .bool)]},ex:=0}
def KS:Code:=db (cQ Tryz.f64) 6
def IJ:List (Nat×LI):=[(6,GX)]
def KD(a0_0:ByteArray)(a0_1:AV)(a0_2:ByteArray):Tree :=
 .call 122 [VS a0_0] [] fun r1 o1=>NT r1<|NS (r1.comp 0)<|NB (r1.comp 1)<|.call 123 [VS a0_0] [] fun r2 o2=>NT r2<|.aj ((r2.comp 0)=.agg (r2.comp 0).cs/\(r2.comp 0).cs.length=2/\bF [.str,.sl] ((r2.comp 0).cs) 0)<|NB (r2.comp 1)<|.test (!((r1.comp 1).toBool)) (.done 0 [VB false] []) (.test (!((r2.comp 1).toBool)) (.done 0 [VB false] []) (NL a0_1<|.test (decide ((a0_1.elems.length:Int)>(50:Int))) (.done 0 [VB false] []) (.call 124 [VS a0_0,VS a0_2,VI 100] [] fun r3 o3=>NB r3<|.test (!r3.toBool) (.done 0 [VB false] []) (.loop KS GX [VS ((r1.comp 0).toStr),VI 0] [.cells [VS a0_0,a0_1,VS a0_2]] (fun y5 q5=>.done 0 [VB true] []) (fun y5 q5=>NB (y5.hA)<|.done 0 [VB ((y5.hA).toBool)] [])))))
theorem O1(a0_0:ByteArray)(a0_1:AV)(a0_2:ByteArray)(ha0_1:LK.has .sl a0_1)(h:dj 55 (KD a0_0 a0_1 a0_2) R):an Tryz.prog 64 [.agg [VS a0_0,a0_1,VS a0_2]] [] R :=
 uQ (ah (cj (ah (aA _) (ah (bT ha0_1) (ah (aA _) aD)))) aD) (oQ IJ Tryz.f64 h)
def Hd(x3:ByteArray)(x7:Int)(o1_0:ByteArray)(o1_1:AV)(o1_2:ByteArray):Tree :=
 NS (VS x3)<|NI (VI x7)<|.aj (Ob.cells [VS o1_0,o1_1,VS o1_2]=.cells [VS o1_0,o1_1,VS o1_2])<|.aj (ag [.lk .str,.lk .sl,.lk .str] [VS o1_0,o1_1,VS o1_2] 0 [])<|NL o1_1<|.test (decide (x7<(o1_1.elems.length:Int))) (NG o1_1 x7 1<|kS (o1_1.ix x7)<|.call 124 [VS x3,VS (((o1_1.ix x7).hA).toStr),VI 100] [] fun r1 o1=>NB r1<|.test (!r1.toBool) (.done 2 [VB false] []) (.done 0 [VS x3,VI (IntKind.wrap .i64 (x7+1))] [.cells [VS o1_0,o1_1,VS o1_2]])) (.done 1 [] [])
abbrev G9:=cH Tryz.prog 55 KS GX
theorem Jr(x3:ByteArray)(x7:Int)(o1_0:ByteArray)(o1_1:AV)(o1_2:ByteArray)(h:mi 55 (Hd x3 x7 o1_0 o1_1 o1_2) G9 U):G9 [VS x3,VI x7] [.cells [VS o1_0,o1_1,VS o1_2]] U :=
 gQ IJ h
def FY:LI:={hd:={refs:=[(1,1),(2,2)],cr:=[(1,[.lk .str,.lk .sl,.lk .str]),(2,[.lk .str,.lk .sl,.lk .str])]},xs:={refs:=[(1,1),(2,2)],cr:=[(1,[.lk .str,.lk .sl,.lk .str]),(2,[.lk .str,.lk .sl,.lk .str])]},rt:={bZ:=[(3,.k .bool)],refs:=[(2,2)],cr:=[(2,[.lk .str,.lk .sl,.lk .str])]},ex:=0}
def J6:Code:=db (cQ Tryz.f65) 1
def MY:List (Nat×LI):=[(1,FY)]
def JP(a0_0:ByteArray)(a0_1:AV)(a0_2:ByteArray):Tree :=
 .loop J6 FY [] [.cells [VS a0_0,a0_1,VS a0_2],.cells [VS (mk []),.v (.slice none 0 0),VS (mk [])]] (fun y2 q2=>.aj ((q2.hO)=.cells (q2.hO).cs)<|.aj (ag [.lk .str,.lk .sl,.lk .str] ((q2.hO).cs) 0 q2.tail)<|.aj (((q2.tail.drop 0).hO)=.cells ((q2.tail.drop 0).hO).cs)<|.aj (ag [.lk .str,.lk .sl,.lk .str] (((q2.tail.drop 0).hO).cs) 0 ((q2.tail.drop 0).tail))<|.done 0 [.cy [.agg [VS (((q2.hO).cs.getD 0 .any).toStr),((q2.hO).cs.getD 1 .any),VS (((q2.hO).cs.getD 2 .any).toStr)],VB true]] []) (fun y2 q2=>NB (y2.hA)<|.aj ((q2.hO)=.cells (q2.hO).cs)<|.aj (ag [.lk .str,.lk .sl,.lk .str] ((q2.hO).cs) 0 q2.tail)<|.done 0 [.cy [.agg [VS (((q2.hO).cs.getD 0 .any).toStr),((q2.hO).cs.getD 1 .any),VS (((q2.hO).cs.getD 2 .any).toStr)],VB ((y2.hA).toBool)]] [])
theorem QW(a0_0:ByteArray)(a0_1:AV)(a0_2:ByteArray)(ha0_1:LK.has .sl a0_1)(h:dj 20 (JP a0_0 a0_1 a0_2) R):an Tryz.prog 65 [.agg [VS a0_0,a0_1,VS a0_2]] [] R :=
 uQ (ah (cj (ah (aA _) (ah (bT ha0_1) (ah (aA _) aD)))) aD) (oQ MY Tryz.f65 h)
def Hy(o1_0:ByteArray)(o1_1:AV)(o1_2:ByteArray)(o2_0:ByteArray)(o2_1:AV)(o2_2:ByteArray):Tree :=
 .aj (Ob.cells [VS o1_0,o1_1,VS o1_2]=.cells [VS o1_0,o1_1,VS o1_2])<|.aj (ag [.lk .str,.lk .sl,.lk .str] [VS o1_0,o1_1,VS o1_2] 0 [.cells [VS o2_0,o2_1,VS o2_2]])<|.aj (Ob.cells [VS o2_0,o2_1,VS o2_2]=.cells [VS o2_0,o2_1,VS o2_2])<|.aj (ag [.lk .str,.lk .sl,.lk .str] [VS o2_0,o2_1,VS o2_2] 0 [])<|NL o1_1<|.test (decide ((o1_1.elems.length:Int)>(0:Int))) (.call 125 [.agg [VS o1_0,o1_1,VS o1_2]] [] fun r1 o1=>NT r1<|.aj ((r1.comp 0)=.agg (r1.comp 0).cs/\(r1.comp 0).cs.length=3/\bF [.str,.sl,.str] ((r1.comp 0).cs) 0)<|NB (r1.comp 1)<|.test (!((r1.comp 1).toBool)) (.done 2 [VB false] [.cells [VS o1_0,o1_1,VS o1_2]]) (.done 0 [] [.cells [VS (((r1.comp 0).cs.getD 0 .any).toStr),((r1.comp 0).cs.getD 1 .any),VS (((r1.comp 0).cs.getD 2 .any).toStr)],.cells [VS o2_0,o2_1,VS o2_2]])) (.done 1 [] [.cells [VS o1_0,o1_1,VS o1_2],.cells [VS o2_0,o2_1,VS o2_2]])
abbrev Ho:=cH Tryz.prog 20 J6 FY
theorem Mg(o1_0:ByteArray)(o1_1:AV)(o1_2:ByteArray)(o2_0:ByteArray)(o2_1:AV)(o2_2:ByteArray)(h:mi 20 (Hy o1_0 o1_1 o1_2 o2_0 o2_1 o2_2) Ho U):Ho [] [.cells [VS o1_0,o1_1,VS o1_2],.cells [VS o2_0,o2_1,VS o2_2]] U :=
 gQ MY h
def IF(a0:AV)(a1:AV)(a2:AV):Tree :=
 .call 48 [.agg [a0,.v (.pointer none)]] [] fun r1 o1=>NT r1<|.aj ((r1.comp 0)=.agg (r1.comp 0).cs/\(r1.comp 0).cs.length=2/\bF [.ptr,.ptr] ((r1.comp 0).cs) 0)<|NP (r1.comp 1)<|.call 148 [.agg [((r1.comp 0).cs.getD 0 .any),((r1.comp 0).cs.getD 1 .any)],a1,.agg [VS (mk []),(r1.comp 1)],a2] [] fun r2 o2=>NP r2<|.call 90 [.v (.int .u8 102),r2] [] fun r3 o3=>NP r3<|.done 0 [r3] []
theorem Qo(a0:AV)(a1:AV)(a2:AV)(ha0:LK.has .ptr a0)(ha1:LK.has .ptr a1)(ha2:LK.has .ptr a2)(h:dj 22 (IF a0 a1 a2) R):an Tryz.prog 84 [a0,a1,a2] [] R :=
 uQ (ah (bA ha0) (ah (bA ha1) (ah (bA ha2) aD))) (oQ [] Tryz.f84 h)
def CV(a0_0:ByteArray)(a0_1:AV)(a1_0:AV)(a1_1:AV):Tree :=
 NP a0_1<|.test (!a0_1.isNil) (NZ a1_0<|NZ a1_0<|.aj (LK.has (.int .u8) (a1_0.deref.hA)/\1<=a1_0.deref.length)<|.test (((a1_0.deref.hA).toInt)==(98:Int)) (.call 121 [.agg [a1_0,a1_1]] [] fun r1 o1=>NP r1<|.aj (AV.rQ r1/\AV.rQ a0_1)<|.done 0 [VB (AV.Bq r1 a0_1)] []) (.done 0 [VB false] [])) (NZ a1_0<|NZ a1_0<|.aj (LK.has (.int .u8) (a1_0.deref.hA)/\1<=a1_0.deref.length)<|.test (((a1_0.deref.hA).toInt)==(110:Int)) (NZ a1_0<|NZ a1_0<|kS (a1_0.deref.drop 1)<|.done 0 [VB (ae (((a1_0.deref.drop 1).hA).toStr)==ae a0_0)] []) (.done 0 [VB false] []))
theorem Ol(a0_0:ByteArray)(a0_1:AV)(a1_0:AV)(a1_1:AV)(ha0_1:LK.has .ptr a0_1)(ha1_0:LK.has .ptr a1_0)(ha1_1:LK.has .ptr a1_1)(h:dj 37 (CV a0_0 a0_1 a1_0 a1_1) R):an Tryz.prog 85 [.agg [VS a0_0,a0_1],.agg [a1_0,a1_1]] [] R :=
 uQ (ah (cj (ah (aA _) (ah (bA ha0_1) aD))) (ah (cj (ah (bA ha1_0) (ah (bA ha1_1) aD))) aD)) (oQ [] Tryz.f85 h)
def Gu:LI:={hd:={bZ:=[(7,.k .sl),(8,.k (.int .i64)),(9,.k (.int .i64))],refs:=[(2,1)],cr:=[(0,[.lk .ptr]),(1,[.vec 2])],fns:=[(1,89,[0])]},xs:={cr:=[(0,[.lk .ptr]),(1,[.vec 2])]},rt:={cr:=[(0,[.lk .ptr]),(1,[.vec 2])]},ex:=0,fx:=[0,1]}
def Iy:Code:=db (cQ Tryz.f86) 1
def JG:List (Nat×LI):=[(1,Gu)]
def LX(a0:AV)(a1_0_0:AV)(e2_0:List (List AV)):Tree :=
 NL a0<|.loop Iy Gu [a0,VI (a0.elems.length:Int),VI 0] [.cells [a1_0_0],.cells [.any],.vec 2 e2_0] (fun y2 q2=>.aj ((q2.hO)=.cells (q2.hO).cs)<|.aj (ag [.lk .ptr] ((q2.hO).cs) 0 q2.tail)<|.aj (((q2.tail.drop 0).hO)=.cells ((q2.tail.drop 0).hO).cs)<|.aj (ag [.vec 2] (((q2.tail.drop 0).hO).cs) 0 ((q2.tail.drop 0).tail))<|.done 0 [.any] [.cells [((q2.hO).cs.getD 0 .any)],.cells [.vec 2],.vec 2 ((q2.tail.tail.hO).es)]) (fun y2 q2=>.aj ((q2.hO)=.cells (q2.hO).cs)<|.aj (ag [.lk .ptr] ((q2.hO).cs) 0 q2.tail)<|.aj (((q2.tail.drop 0).hO)=.cells ((q2.tail.drop 0).hO).cs)<|.aj (ag [.vec 2] (((q2.tail.drop 0).hO).cs) 0 ((q2.tail.drop 0).tail))<|.done 0 [.any] [.cells [((q2.hO).cs.getD 0 .any)],.cells [.vec 2],.vec 2 ((q2.tail.tail.hO).es)])
theorem NW(a0:AV)(a1_0_0:AV)(e2_0:List (List AV))(ha0:LK.has .sl a0)(ha1_0_0:LK.has .ptr a1_0_0)(h:dj 24 (LX a0 a1_0_0 e2_0) R):an Tryz.prog 86 [a0,.fn 89 [.ref 0 0],.ref 1 0] [.cells [a1_0_0],.cells [.vec 2],.vec 2 e2_0] R :=
 an.nf (bm (bU (ah (bA ha1_0_0) aD)) (bm (bU (ah (aA _) aD)) (bm (eH _) ct))) (an.up (ah (bT ha0) (ah (aA _) (ah (aA _) aD))) (oF JG {mu:=[(1,.fn [some (.obj [.lk .ptr])]),(2,.one (.obj [.vec 2]))],own:=[]} Tryz.f86 h))
def Hk(x7:AV)(x8:Int)(x9:Int)(o0_0:AV)(o1_0:List (List AV)):Tree :=
 NL x7<|NI (VI x8)<|NI (VI x9)<|.aj (Ob.cells [o0_0]=.cells [o0_0])<|.aj (ag [.lk .ptr] [o0_0] 0 [.cells [.any],.vec 2 o1_0])<|.aj (Ob.cells [.any]=.cells [.any])<|.aj (ag [.vec 2] [.any] 0 [.vec 2 o1_0])<|.test (decide (x9<x8)) (NG x7 x9 2<|.aj (bF [.ptr,.ptr] (x7.ix x9) 0/\2<=(x7.ix x9).length)<|.call 89 [((x7.ix x9).getD 0 .any),.ref 0 0] [.cells [o0_0]] fun r1 o1=>.aj ((o1.hO)=.cells (o1.hO).cs)<|.aj (aL [.lk .ptr] ((o1.hO).cs) 0 1 o1.tail)<|NP r1<|.aj (cV 2 [[r1,((x7.ix x9).getD 1 .any)]]/\((o1_0.length)+([[r1,((x7.ix x9).getD 1 .any)]]:List (List AV)).length)*16<=140737488355328)<|.done 0 [x7,VI x8,VI (IntKind.wrap .i64 (x9+1))] [.cells [((o1.hO).cs.getD 0 .any)],.cells [.any],.vec 2 (o1_0++([[r1,((x7.ix x9).getD 1 .any)]]:List (List AV)))]) (.done 1 [] [.cells [o0_0],.cells [.any],.vec 2 o1_0])
abbrev Hs:=cH Tryz.prog 24 Iy Gu
theorem Ij(x7:AV)(x8:Int)(x9:Int)(o0_0:AV)(o1_0:List (List AV))(h:mi 24 (Hk x7 x8 x9 o0_0 o1_0) Hs U):Hs [x7,VI x8,VI x9] [.cells [o0_0],.cells [.any],.vec 2 o1_0] U :=
 gQ JG h
def FO:LI:={hd:={bZ:=[(7,.k .sl),(8,.k (.int .i64)),(9,.k (.int .i64))],refs:=[(2,1)],cr:=[(0,[.lk .ptr]),(1,[.vec 2])],fns:=[(1,91,[0])]},xs:={cr:=[(0,[.lk .ptr]),(1,[.vec 2])]},rt:={cr:=[(0,[.lk .ptr]),(1,[.vec 2])]},ex:=0,fx:=[0,1]}
def Lk:Code:=db (cQ Tryz.f86) 1
def LG:List (Nat×LI):=[(1,FO)]
def KX(a0:AV)(a1_0_0:AV)(e2_0:List (List AV)):Tree :=
 NL a0<|.loop Lk FO [a0,VI (a0.elems.length:Int),VI 0] [.cells [a1_0_0],.cells [.any],.vec 2 e2_0] (fun y2 q2=>.aj ((q2.hO)=.cells (q2.hO).cs)<|.aj (ag [.lk .ptr] ((q2.hO).cs) 0 q2.tail)<|.aj (((q2.tail.drop 0).hO)=.cells ((q2.tail.drop 0).hO).cs)<|.aj (ag [.vec 2] (((q2.tail.drop 0).hO).cs) 0 ((q2.tail.drop 0).tail))<|.done 0 [.any] [.cells [((q2.hO).cs.getD 0 .any)],.cells [.vec 2],.vec 2 ((q2.tail.tail.hO).es)]) (fun y2 q2=>.aj ((q2.hO)=.cells (q2.hO).cs)<|.aj (ag [.lk .ptr] ((q2.hO).cs) 0 q2.tail)<|.aj (((q2.tail.drop 0).hO)=.cells ((q2.tail.drop 0).hO).cs)<|.aj (ag [.vec 2] (((q2.tail.drop 0).hO).cs) 0 ((q2.tail.drop 0).tail))<|.done 0 [.any] [.cells [((q2.hO).cs.getD 0 .any)],.cells [.vec 2],.vec 2 ((q2.tail.tail.hO).es)])
theorem NJ(a0:AV)(a1_0_0:AV)(e2_0:List (List AV))(ha0:LK.has .sl a0)(ha1_0_0:LK.has .ptr a1_0_0)(h:dj 24 (KX a0 a1_0_0 e2_0) R):an Tryz.prog 86 [a0,.fn 91 [.ref 0 0],.ref 1 0] [.cells [a1_0_0],.cells [.vec 2],.vec 2 e2_0] R :=
 an.nf (bm (bU (ah (bA ha1_0_0) aD)) (bm (bU (ah (aA _) aD)) (bm (eH _) ct))) (an.up (ah (bT ha0) (ah (aA _) (ah (aA _) aD))) (oF LG {mu:=[(1,.fn [some (.obj [.lk .ptr])]),(2,.one (.obj [.vec 2]))],own:=[]} Tryz.f86 h))
def Hn(x7:AV)(x8:Int)(x9:Int)(o0_0:AV)(o1_0:List (List AV)):Tree :=
 NL x7<|NI (VI x8)<|NI (VI x9)<|.aj (Ob.cells [o0_0]=.cells [o0_0])<|.aj (ag [.lk .ptr] [o0_0] 0 [.cells [.any],.vec 2 o1_0])<|.aj (Ob.cells [.any]=.cells [.any])<|.aj (ag [.vec 2] [.any] 0 [.vec 2 o1_0])<|.test (decide (x9<x8)) (NG x7 x9 2<|.aj (bF [.ptr,.ptr] (x7.ix x9) 0/\2<=(x7.ix x9).length)<|.call 91 [((x7.ix x9).getD 0 .any),.ref 0 0] [.cells [o0_0]] fun r1 o1=>.aj ((o1.hO)=.cells (o1.hO).cs)<|.aj (aL [.lk .ptr] ((o1.hO).cs) 0 1 o1.tail)<|NP r1<|.aj (cV 2 [[r1,((x7.ix x9).getD 1 .any)]]/\((o1_0.length)+([[r1,((x7.ix x9).getD 1 .any)]]:List (List AV)).length)*16<=140737488355328)<|.done 0 [x7,VI x8,VI (IntKind.wrap .i64 (x9+1))] [.cells [((o1.hO).cs.getD 0 .any)],.cells [.any],.vec 2 (o1_0++([[r1,((x7.ix x9).getD 1 .any)]]:List (List AV)))]) (.done 1 [] [.cells [o0_0],.cells [.any],.vec 2 o1_0])
abbrev EU:=cH Tryz.prog 24 Lk FO
theorem Ko(x7:AV)(x8:Int)(x9:Int)(o0_0:AV)(o1_0:List (List AV))(h:mi 24 (Hn x7 x8 x9 o0_0 o1_0) EU U):EU [x7,VI x8,VI x9] [.cells [o0_0],.cells [.any],.vec 2 o1_0] U :=
 gQ LG h
def Fm:LI:={hd:={bZ:=[(7,.k .sl),(8,.k (.int .i64)),(9,.k (.int .i64))],refs:=[(2,1)],cr:=[(0,[.lk .ptr]),(1,[.vec 2])],fns:=[(1,93,[0])]},xs:={cr:=[(0,[.lk .ptr]),(1,[.vec 2])]},rt:={cr:=[(0,[.lk .ptr]),(1,[.vec 2])]},ex:=0,fx:=[0,1]}
def J4:Code:=db (cQ Tryz.f86) 1
def M6:List (Nat×LI):=[(1,Fm)]
def Mt(a0:AV)(a1_0_0:AV)(e2_0:List (List AV)):Tree :=
 NL a0<|.loop J4 Fm [a0,VI (a0.elems.length:Int),VI 0] [.cells [a1_0_0],.cells [.any],.vec 2 e2_0] (fun y2 q2=>.aj ((q2.hO)=.cells (q2.hO).cs)<|.aj (ag [.lk .ptr] ((q2.hO).cs) 0 q2.tail)<|.aj (((q2.tail.drop 0).hO)=.cells ((q2.tail.drop 0).hO).cs)<|.aj (ag [.vec 2] (((q2.tail.drop 0).hO).cs) 0 ((q2.tail.drop 0).tail))<|.done 0 [.any] [.cells [((q2.hO).cs.getD 0 .any)],.cells [.vec 2],.vec 2 ((q2.tail.tail.hO).es)]) (fun y2 q2=>.aj ((q2.hO)=.cells (q2.hO).cs)<|.aj (ag [.lk .ptr] ((q2.hO).cs) 0 q2.tail)<|.aj (((q2.tail.drop 0).hO)=.cells ((q2.tail.drop 0).hO).cs)<|.aj (ag [.vec 2] (((q2.tail.drop 0).hO).cs) 0 ((q2.tail.drop 0).tail))<|.done 0 [.any] [.cells [((q2.hO).cs.getD 0 .any)],.cells [.vec 2],.vec 2 ((q2.tail.tail.hO).es)])
theorem QJ(a0:AV)(a1_0_0:AV)(e2_0:List (List AV))(ha0:LK.has .sl a0)(ha1_0_0:LK.has .ptr a1_0_0)(h:dj 24 (Mt a0 a1_0_0 e2_0) R):an Tryz.prog 86 [a0,.fn 93 [.ref 0 0],.ref 1 0] [.cells [a1_0_0],.cells [.vec 2],.vec 2 e2_0] R :=
 an.nf (bm (bU (ah (bA ha1_0_0) aD)) (bm (bU (ah (aA _) aD)) (bm (eH _) ct))) (an.up (ah (bT ha0) (ah (aA _) (ah (aA _) aD))) (oF M6 {mu:=[(1,.fn [some (.obj [.lk .ptr])]),(2,.one (.obj [.vec 2]))],own:=[]} Tryz.f86 h))
def Hv(x7:AV)(x8:Int)(x9:Int)(o0_0:AV)(o1_0:List (List AV)):Tree :=
 NL x7<|NI (VI x8)<|NI (VI x9)<|.aj (Ob.cells [o0_0]=.cells [o0_0])<|.aj (ag [.lk .ptr] [o0_0] 0 [.cells [.any],.vec 2 o1_0])<|.aj (Ob.cells [.any]=.cells [.any])<|.aj (ag [.vec 2] [.any] 0 [.vec 2 o1_0])<|.test (decide (x9<x8)) (NG x7 x9 2<|.aj (bF [.ptr,.ptr] (x7.ix x9) 0/\2<=(x7.ix x9).length)<|.call 93 [((x7.ix x9).getD 0 .any),.ref 0 0] [.cells [o0_0]] fun r1 o1=>.aj ((o1.hO)=.cells (o1.hO).cs)<|.aj (aL [.lk .ptr] ((o1.hO).cs) 0 1 o1.tail)<|NP r1<|.aj (cV 2 [[r1,((x7.ix x9).getD 1 .any)]]/\((o1_0.length)+([[r1,((x7.ix x9).getD 1 .any)]]:List (List AV)).length)*16<=140737488355328)<|.done 0 [x7,VI x8,VI (IntKind.wrap .i64 (x9+1))] [.cells [((o1.hO).cs.getD 0 .any)],.cells [.any],.vec 2 (o1_0++([[r1,((x7.ix x9).getD 1 .any)]]:List (List AV)))]) (.done 1 [] [.cells [o0_0],.cells [.any],.vec 2 o1_0])
abbrev F5:=cH Tryz.prog 24 J4 Fm
theorem MV(x7:AV)(x8:Int)(x9:Int)(o0_0:AV)(o1_0:List (List AV))(h:mi 24 (Hv x7 x8 x9 o0_0 o1_0) F5 U):F5 [x7,VI x8,VI x9] [.cells [o0_0],.cells [.any],.vec 2 o1_0] U :=
 gQ M6 h
def GB:LI:={hd:={bZ:=[(1,.c (.func (.func 94) #[] #[])),(7,.k .sl),(8,.k (.int .i64)),(9,.k (.int .i64))],refs:=[(2,0)],cr:=[(0,[.vec 2])]},xs:={cr:=[(0,[.vec 2])]},rt:={cr:=[(0,[.vec 2])]},ex:=0,fx:=[0]}
def IS:Code:=db (cQ Tryz.f86) 1
def Kp:List (Nat×LI):=[(1,GB)]
def IW(a0:AV)(e2_0:List (List AV)):Tree :=
 NL a0<|.loop IS GB [.v (.func (.func 94) #[] #[]),a0,VI (a0.elems.length:Int),VI 0] [.cells [.any],.vec 2 e2_0] (fun y2 q2=>.aj ((q2.hO)=.cells (q2.hO).cs)<|.aj (ag [.vec 2] ((q2.hO).cs) 0 q2.tail)<|.done 0 [.any] [.cells [.vec 1],.vec 2 ((q2.tail.hO).es)]) (fun y2 q2=>.aj ((q2.hO)=.cells (q2.hO).cs)<|.aj (ag [.vec 2] ((q2.hO).cs) 0 q2.tail)<|.done 0 [.any] [.cells [.vec 1],.vec 2 ((q2.tail.hO).es)])
theorem O4(a0:AV)(e2_0:List (List AV))(ha0:LK.has .sl a0)(h:dj 24 (IW a0 e2_0) R):an Tryz.prog 86 [a0,.v (.func (.func 94) #[] #[]),.ref 0 0] [.cells [.vec 1],.vec 2 e2_0] R :=
 an.nf (bm (bU (ah (aA _) aD)) (bm (eH _) ct)) (an.up (ah (bT ha0) (ah (aA _) (ah (aA _) aD))) (oF Kp {mu:=[(2,.one (.obj [.vec 2]))],own:=[]} Tryz.f86 h))
def ES(x7:AV)(x8:Int)(x9:Int)(o0_0:List (List AV)):Tree :=
 .aj (AV.v (.func (.func 94) #[] #[])=.v (.func (.func 94) #[] #[]))<|NL x7<|NI (VI x8)<|NI (VI x9)<|.aj (Ob.cells [.any]=.cells [.any])<|.aj (ag [.vec 2] [.any] 0 [.vec 2 o0_0])<|.test (decide (x9<x8)) (NG x7 x9 2<|.aj (bF [.ptr,.ptr] (x7.ix x9) 0/\2<=(x7.ix x9).length)<|.call 94 [((x7.ix x9).getD 0 .any)] [] fun r1 o1=>NP r1<|.aj (cV 2 [[r1,((x7.ix x9).getD 1 .any)]]/\((o0_0.length)+([[r1,((x7.ix x9).getD 1 .any)]]:List (List AV)).length)*16<=140737488355328)<|.done 0 [.v (.func (.func 94) #[] #[]),x7,VI x8,VI (IntKind.wrap .i64 (x9+1))] [.cells [.any],.vec 2 (o0_0++([[r1,((x7.ix x9).getD 1 .any)]]:List (List AV)))]) (.done 1 [] [.cells [.any],.vec 2 o0_0])
abbrev GD:=cH Tryz.prog 24 IS GB
theorem LQ(x7:AV)(x8:Int)(x9:Int)(o0_0:List (List AV))(h:mi 24 (ES x7 x8 x9 o0_0) GD U):GD [.v (.func (.func 94) #[] #[]),x7,VI x8,VI x9] [.cells [.any],.vec 2 o0_0] U :=
 gQ Kp h
def F4:LI:={hd:={bZ:=[(7,.k .sl),(8,.k (.int .i64)),(9,.k (.int .i64))],refs:=[(2,1)],cr:=[(0,[.lk .ptr,.lk .ptr]),(1,[.vec 2])],fns:=[(1,95,[0])]},xs:={cr:=[(0,[.lk .ptr,.lk .ptr]),(1,[.vec 2])]},rt:={cr:=[(0,[.lk .ptr,.lk .ptr]),(1,[.vec 2])]},ex:=0,fx:=[0,1]}
def I4:Code:=db (cQ Tryz.f86) 1
def M9:List (Nat×LI):=[(1,F4)]
def K0(a0:AV)(a1_0_0:AV)(a1_0_1:AV)(e2_0:List (List AV)):Tree :=
 NL a0<|.loop I4 F4 [a0,VI (a0.elems.length:Int),VI 0] [.cells [a1_0_0,a1_0_1],.cells [.any],.vec 2 e2_0] (fun y2 q2=>.aj ((q2.hO)=.cells (q2.hO).cs)<|.aj (ag [.lk .ptr,.lk .ptr] ((q2.hO).cs) 0 q2.tail)<|.aj (((q2.tail.drop 0).hO)=.cells ((q2.tail.drop 0).hO).cs)<|.aj (ag [.vec 2] (((q2.tail.drop 0).hO).cs) 0 ((q2.tail.drop 0).tail))<|.done 0 [.any] [.cells [((q2.hO).cs.getD 0 .any),((q2.hO).cs.getD 1 .any)],.cells [.vec 2],.vec 2 ((q2.tail.tail.hO).es)]) (fun y2 q2=>.aj ((q2.hO)=.cells (q2.hO).cs)<|.aj (ag [.lk .ptr,.lk .ptr] ((q2.hO).cs) 0 q2.tail)<|.aj (((q2.tail.drop 0).hO)=.cells ((q2.tail.drop 0).hO).cs)<|.aj (ag [.vec 2] (((q2.tail.drop 0).hO).cs) 0 ((q2.tail.drop 0).tail))<|.done 0 [.any] [.cells [((q2.hO).cs.getD 0 .any),((q2.hO).cs.getD 1 .any)],.cells [.vec 2],.vec 2 ((q2.tail.tail.hO).es)])
theorem Pq(a0:AV)(a1_0_0:AV)(a1_0_1:AV)(e2_0:List (List AV))(ha0:LK.has .sl a0)(ha1_0_0:LK.has .ptr a1_0_0)(ha1_0_1:LK.has .ptr a1_0_1)(h:dj 24 (K0 a0 a1_0_0 a1_0_1 e2_0) R):an Tryz.prog 86 [a0,.fn 95 [.ref 0 0],.ref 1 0] [.cells [a1_0_0,a1_0_1],.cells [.vec 2],.vec 2 e2_0] R :=
 an.nf (bm (bU (ah (bA ha1_0_0) (ah (bA ha1_0_1) aD))) (bm (bU (ah (aA _) aD)) (bm (eH _) ct))) (an.up (ah (bT ha0) (ah (aA _) (ah (aA _) aD))) (oF M9 {mu:=[(1,.fn [some (.obj [.lk .ptr,.lk .ptr])]),(2,.one (.obj [.vec 2]))],own:=[]} Tryz.f86 h))
def HD(x7:AV)(x8:Int)(x9:Int)(o0_0:AV)(o0_1:AV)(o1_0:List (List AV)):Tree :=
 NL x7<|NI (VI x8)<|NI (VI x9)<|.aj (Ob.cells [o0_0,o0_1]=.cells [o0_0,o0_1])<|.aj (ag [.lk .ptr,.lk .ptr] [o0_0,o0_1] 0 [.cells [.any],.vec 2 o1_0])<|.aj (Ob.cells [.any]=.cells [.any])<|.aj (ag [.vec 2] [.any] 0 [.vec 2 o1_0])<|.test (decide (x9<x8)) (NG x7 x9 2<|.aj (bF [.ptr,.ptr] (x7.ix x9) 0/\2<=(x7.ix x9).length)<|.call 95 [((x7.ix x9).getD 0 .any),.ref 0 0] [.cells [o0_0,o0_1]] fun r1 o1=>.aj ((o1.hO)=.cells (o1.hO).cs)<|.aj (aL [.lk .ptr,.lk .ptr] ((o1.hO).cs) 0 1 o1.tail)<|NP r1<|.aj (cV 2 [[r1,((x7.ix x9).getD 1 .any)]]/\((o1_0.length)+([[r1,((x7.ix x9).getD 1 .any)]]:List (List AV)).length)*16<=140737488355328)<|.done 0 [x7,VI x8,VI (IntKind.wrap .i64 (x9+1))] [.cells [((o1.hO).cs.getD 0 .any),((o1.hO).cs.getD 1 .any)],.cells [.any],.vec 2 (o1_0++([[r1,((x7.ix x9).getD 1 .any)]]:List (List AV)))]) (.done 1 [] [.cells [o0_0,o0_1],.cells [.any],.vec 2 o1_0])
abbrev Fk:=cH Tryz.prog 24 I4 F4
theorem Kc(x7:AV)(x8:Int)(x9:Int)(o0_0:AV)(o0_1:AV)(o1_0:List (List AV))(h:mi 24 (HD x7 x8 x9 o0_0 o0_1 o1_0) Fk U):Fk [x7,VI x8,VI x9] [.cells [o0_0,o0_1],.cells [.any],.vec 2 o1_0] U :=
 gQ M9 h
def Km(a0_0:AV)(a0_1:AV):Tree :=
 NZ a0_0<|NZ a0_0<|dV (a0_0.deref.drop 3)<|.done 0 [.agg [((a0_0.deref.drop 3).hA),a0_1]] []
theorem Q1(a0_0:AV)(a0_1:AV)(ha0_0:LK.has .ptr a0_0)(ha0_1:LK.has .ptr a0_1)(h:dj 11 (Km a0_0 a0_1) R):an Tryz.prog 87 [.agg [a0_0,a0_1]] [] R :=
 uQ (ah (cj (ah (bA ha0_0) (ah (bA ha0_1) aD))) aD) (oQ [] Tryz.f87 h)
def H2(a0_0:AV)(a0_1:AV):Tree :=
 NZ a0_0<|NZ a0_0<|dV (a0_0.deref.drop 4)<|.done 0 [.agg [((a0_0.deref.drop 4).hA),a0_1]] []
theorem PO(a0_0:AV)(a0_1:AV)(ha0_0:LK.has .ptr a0_0)(ha0_1:LK.has .ptr a0_1)(h:dj 11 (H2 a0_0 a0_1) R):an Tryz.prog 88 [.agg [a0_0,a0_1]] [] R :=
 uQ (ah (cj (ah (bA ha0_0) (ah (bA ha0_1) aD))) aD) (oQ [] Tryz.f88 h)
def ER(a0:AV)(a1_0:AV):Tree :=
 NZ a1_0<|NZ a1_0<|.aj (LK.has (.int .u8) (a1_0.deref.hA)/\1<=a1_0.deref.length)<|.call 90 [.v (.int .u8 ((a1_0.deref.hA).toInt)),a0] [] fun r1 o1=>NP r1<|.done 0 [r1] [.cells [a1_0]]
theorem Ia(a0:AV)(a1_0:AV)(ha0:LK.has .ptr a0)(ha1_0:LK.has .ptr a1_0)(h:dj 10 (ER a0 a1_0) R):an Tryz.prog 89 [a0,.ref 0 0] [.cells [a1_0]] R :=
 an.nf (bm (bU (ah (bA ha1_0) aD)) ct) (an.up (ah (bA ha0) (ah (aA _) aD)) (oF [] {mu:=[(1,.one (.obj [.lk .ptr]))],own:=[]} Tryz.f89 h))
def Iw(a0:Int)(a1:AV):Tree :=
 .done 0 [.ptr [.v (.int .u8 a0),VS (mk []),a1,.v (.pointer none)]] []
theorem QC(a0:Int)(a1:AV)(ha1:LK.has .ptr a1)(h:dj 9 (Iw a0 a1) R):an Tryz.prog 90 [.v (.int .u8 a0),a1] [] R :=
 uQ (ah (aA _) (ah (bA ha1) aD)) (oQ [] Tryz.f90 h)
def MP(a0:AV)(a1_0:AV):Tree :=
 NZ a1_0<|NZ a1_0<|dV (a1_0.deref.drop 3)<|.call 92 [a0,((a1_0.deref.drop 3).hA)] [] fun r1 o1=>NP r1<|.call 90 [.v (.int .u8 108),r1] [] fun r2 o2=>NP r2<|.done 0 [r2] [.cells [a1_0]]
theorem Ov(a0:AV)(a1_0:AV)(ha0:LK.has .ptr a0)(ha1_0:LK.has .ptr a1_0)(h:dj 11 (MP a0 a1_0) R):an Tryz.prog 91 [a0,.ref 0 0] [.cells [a1_0]] R :=
 an.nf (bm (bU (ah (bA ha1_0) aD)) ct) (an.up (ah (bA ha0) (ah (aA _) aD)) (oF [] {mu:=[(1,.one (.obj [.lk .ptr]))],own:=[]} Tryz.f91 h))
def Nj(a0:AV)(a1:AV):Tree :=
 .done 0 [.ptr [.v (.int .u8 112),VS (mk []),a0,a1]] []
theorem Qy(a0:AV)(a1:AV)(ha0:LK.has .ptr a0)(ha1:LK.has .ptr a1)(h:dj 9 (Nj a0 a1) R):an Tryz.prog 92 [a0,a1] [] R :=
 uQ (ah (bA ha0) (ah (bA ha1) aD)) (oQ [] Tryz.f92 h)
def Lw(a0:AV)(a1_0:AV):Tree :=
 NZ a1_0<|NZ a1_0<|dV (a1_0.deref.drop 2)<|.call 92 [((a1_0.deref.drop 2).hA),a0] [] fun r1 o1=>NP r1<|.call 90 [.v (.int .u8 114),r1] [] fun r2 o2=>NP r2<|.done 0 [r2] [.cells [a1_0]]
theorem Q9(a0:AV)(a1_0:AV)(ha0:LK.has .ptr a0)(ha1_0:LK.has .ptr a1_0)(h:dj 11 (Lw a0 a1_0) R):an Tryz.prog 93 [a0,.ref 0 0] [.cells [a1_0]] R :=
 an.nf (bm (bU (ah (bA ha1_0) aD)) ct) (an.up (ah (bA ha0) (ah (aA _) aD)) (oF [] {mu:=[(1,.one (.obj [.lk .ptr]))],own:=[]} Tryz.f93 h))
def Mk(a0:AV):Tree :=
 .call 90 [.v (.int .u8 108),a0] [] fun r1 o1=>NP r1<|.call 90 [.v (.int .u8 102),r1] [] fun r2 o2=>NP r2<|.done 0 [r2] []
theorem Re(a0:AV)(ha0:LK.has .ptr a0)(h:dj 6 (Mk a0) R):an Tryz.prog 94 [a0] [] R :=
 uQ (ah (bA ha0) aD) (oQ [] Tryz.f94 h)
def JD(a0:AV)(a1_0:AV)(a1_1:AV):Tree :=
 .call 92 [a1_0,a0] [] fun r1 o1=>NP r1<|.call 90 [.v (.int .u8 114),r1] [] fun r2 o2=>NP r2<|.call 90 [.v (.int .u8 102),r2] [] fun r3 o3=>NP r3<|.done 0 [r3] [.cells [a1_0,a1_1]]
theorem QU(a0:AV)(a1_0:AV)(a1_1:AV)(ha0:LK.has .ptr a0)(ha1_0:LK.has .ptr a1_0)(ha1_1:LK.has .ptr a1_1)(h:dj 10 (JD a0 a1_0 a1_1) R):an Tryz.prog 95 [a0,.ref 0 0] [.cells [a1_0,a1_1]] R :=
 an.nf (bm (bU (ah (bA ha1_0) (ah (bA ha1_1) aD))) ct) (an.up (ah (bA ha0) (ah (aA _) aD)) (oF [] {mu:=[(1,.one (.obj [.lk .ptr,.lk .ptr]))],own:=[]} Tryz.f95 h))
def HI:LI:={hd:={bZ:=[(0,.k .str),(1,.k (.int .i64)),(6,.k (.int .i64))]},xs:={bZ:=[(0,.k .str),(1,.k (.int .i64)),(6,.k (.int .i64))]},rt:={},ex:=0}
def KT:Code:=db (cQ Tryz.f96) 2
def Fw:LI:={hd:={bZ:=[(0,.k .str),(1,.k (.int .i64)),(7,.k .str)],refs:=[(8,48)],cr:=[(48,[.lk .str,.vec 1])]},xs:={},rt:={bZ:=[(4,.k .ptr),(5,.k .str)]},ex:=999}
def IB:Code:=db (cQ Tryz.f96) 10
def FA:List (Nat×LI):=[(2,HI),(10,Fw)]
def E3(a0:ByteArray)(a1:Int):Tree :=
 .loop KT HI [VS a0,VI a1,VI 0] [] (fun y2 q2=>NS (y2.hA)<|NI (y2.tail.hA)<|NI (y2.tail.tail.hA)<|.test (decide (((y2.tail.tail.hA).toInt)>(0:Int))) (.aj (0<=(0:Int)/\(0:Int)<=((y2.tail.tail.hA).toInt)/\((y2.tail.tail.hA).toInt)<=(af ((y2.hA).toStr):Int))<|.aj (0<=((y2.tail.tail.hA).toInt)/\((y2.tail.tail.hA).toInt)<=(af ((y2.hA).toStr):Int)/\(af ((y2.hA).toStr):Int)<=(af ((y2.hA).toStr):Int))<|.done 0 [.cy [.ptr [VS (cd ((y2.hA).toStr) (bq 0) (bq ((y2.tail.tail.hA).toInt))),.v (.slice none 0 0)],VS (cd ((y2.hA).toStr) (bq ((y2.tail.tail.hA).toInt)) (bq (af ((y2.hA).toStr):Int)))]] []) (.test (ae ((y2.hA).toStr)==ae (mk [])) (.done 0 [.cy [.v (.pointer none),VS ((y2.hA).toStr)]] []) (.aj (0<=(0:Int)/\(0:Int)<af ((y2.hA).toStr))<|.test ((bt ((y2.hA).toStr) 0) != (40:Int)) (.done 0 [.cy [.v (.pointer none),VS ((y2.hA).toStr)]] []) (.test (((y2.tail.hA).toInt)==(300:Int)) (.done 0 [.cy [.v (.pointer none),VS ((y2.hA).toStr)]] []) (.aj (0<=(1:Int)/\(1:Int)<=(af ((y2.hA).toStr):Int)/\(af ((y2.hA).toStr):Int)<=(af ((y2.hA).toStr):Int))<|.loop IB Fw [VS ((y2.hA).toStr),VI ((y2.tail.hA).toInt),VS (cd ((y2.hA).toStr) (bq 1) (bq (af ((y2.hA).toStr):Int)))] [.cells [VS (mk []),.any],.vec 1 []] (fun y5 q5=>.fail) (fun y5 q5=>NP (y5.hA)<|NS (y5.tail.hA)<|.done 0 [.cy [(y5.hA),VS ((y5.tail.hA).toStr)]] [])))))) (fun y2 q2=>.done 0 [.cy [.any,.any]] [])
theorem MX(a0:ByteArray)(a1:Int)(h:dj 84 (E3 a0 a1) R):an Tryz.prog 96 [VS a0,VI a1] [] R :=
 uQ (ah (aA _) (ah (aA _) aD)) (oQ FA Tryz.f96 h)
def FE(x0:ByteArray)(x1:Int)(x6:Int):Tree :=
 NS (VS x0)<|NI (VI x1)<|NI (VI x6)<|.test (decide (x6<(af x0:Int))) (.aj (0<=x6/\x6<af x0)<|.call 149 [.v (.int .u8 (bt x0 x6))] [] fun r1 o1=>NB r1<|.test r1.toBool (.done 0 [VS x0,VI x1,VI (IntKind.wrap .i64 (x6+1))] []) (.done 1 [VS x0,VI x1,VI x6] [])) (.done 1 [VS x0,VI x1,VI x6] [])
abbrev EL:=cH Tryz.prog 84 KT HI
theorem IK(x0:ByteArray)(x1:Int)(x6:Int)(h:mi 84 (FE x0 x1 x6) EL U):EL [VS x0,VI x1,VI x6] [] U :=
 gQ FA h
def JH(x0:ByteArray)(x1:Int)(x7:ByteArray)(o48_0:ByteArray)(o48_1:List (List AV)):Tree :=
 NS (VS x0)<|NI (VI x1)<|NS (VS x7)<|.aj (Ob.cells [VS o48_0,.any]=.cells [VS o48_0,.any])<|.aj (ag [.lk .str,.vec 1] [VS o48_0,.any] 0 [.vec 1 o48_1])<|.call 96 [VS x7,VI (IntKind.wrap .i64 (x1+1))] [] fun r1 o1=>NT r1<|NP (r1.comp 0)<|NS (r1.comp 1)<|NP (r1.comp 0)<|.test ((r1.comp 0).isNil) (.done 2 [.v (.pointer none),VS x0] []) (.test (ae ((r1.comp 1).toStr)==ae (mk [])) (.done 2 [.v (.pointer none),VS x0] []) (.aj (cV 1 [[(r1.comp 0)]]/\((o48_1.length)+([[(r1.comp 0)]]:List (List AV)).length)*8<=140737488355328)<|.aj (0<=(1:Int)/\(1:Int)<=(af ((r1.comp 1).toStr):Int)/\(af ((r1.comp 1).toStr):Int)<=(af ((r1.comp 1).toStr):Int))<|.aj (0<=(0:Int)/\(0:Int)<af ((r1.comp 1).toStr))<|.test ((bt ((r1.comp 1).toStr) 0)==(41:Int)) (.done 2 [.ptr [VS o48_0,.sl (o48_1++([[(r1.comp 0)]]:List (List AV)))],VS (cd ((r1.comp 1).toStr) (bq 1) (bq (af ((r1.comp 1).toStr):Int)))] []) (.aj (0<=(0:Int)/\(0:Int)<af ((r1.comp 1).toStr))<|.test ((bt ((r1.comp 1).toStr) 0) != (32:Int)) (.done 2 [.v (.pointer none),VS x0] []) (.done 0 [VS x0,VI x1,VS (cd ((r1.comp 1).toStr) (bq 1) (bq (af ((r1.comp 1).toStr):Int)))] [.cells [VS o48_0,.any],.vec 1 (o48_1++([[(r1.comp 0)]]:List (List AV)))]))))
abbrev FN:=cH Tryz.prog 84 IB Fw
theorem OL(x0:ByteArray)(x1:Int)(x7:ByteArray)(o48_0:ByteArray)(o48_1:List (List AV))(h:mi 84 (JH x0 x1 x7 o48_0 o48_1) FN U):FN [VS x0,VI x1,VS x7] [.cells [VS o48_0,.any],.vec 1 o48_1] U :=
 gQ FA h
def IL(a0:ByteArray):Tree :=
 .test (decide ((af a0:Int)<(2:Int))) (.done 0 [VB false] []) (.test (decide ((af a0:Int)>(3:Int))) (.done 0 [VB false] []) (.aj (0<=(0:Int)/\(0:Int)<af a0)<|.test ((bt a0 0) != (101:Int)) (.done 0 [VB false] []) (.aj (0<=(1:Int)/\(1:Int)<=(af a0:Int)/\(af a0:Int)<=(af a0:Int))<|.call 134 [VS (cd a0 (bq 1) (bq (af a0:Int))),VS (mk [48,49,50,51,52,53,54,55,56,57])] [] fun r1 o1=>NS r1<|.test (!(ae r1.toStr==ae (mk []))) (.done 0 [VB false] []) (.test ((af a0:Int)==(2:Int)) (.done 0 [VB true] []) (.aj (0<=(1:Int)/\(1:Int)<af a0)<|.done 0 [VB ((bt a0 1) != (48:Int))] [])))))
theorem PJ(a0:ByteArray)(h:dj 30 (IL a0) R):an Tryz.prog 97 [VS a0] [] R :=
 uQ (ah (aA _) aD) (oQ [] Tryz.f97 h)
def Bt(a0:AV)(a1:ByteArray)(a2:Int):Tree :=
 NZ a0<|NZ a0<|oT (a0.deref.drop 1)<|NL ((a0.deref.drop 1).hA)<|.test (((((a0.deref.drop 1).hA).elems).length:Int)==a2) (NZ a0<|NZ a0<|oT (a0.deref.drop 1)<|NG ((a0.deref.drop 1).hA) 0 1<|dV (((a0.deref.drop 1).hA).ix (0:Int))<|NZ ((((a0.deref.drop 1).hA).ix (0:Int)).hA)<|NZ ((((a0.deref.drop 1).hA).ix (0:Int)).hA)<|.aj (LK.has .str (((((a0.deref.drop 1).hA).ix (0:Int)).hA).deref.hA)/\1<=(((((a0.deref.drop 1).hA).ix (0:Int)).hA).deref).length)<|.done 0 [VB (ae ((((((a0.deref.drop 1).hA).ix (0:Int)).hA).deref.hA).toStr)==ae a1)] []) (.done 0 [VB false] [])
theorem Iv(a0:AV)(a1:ByteArray)(a2:Int)(ha0:LK.has .ptr a0)(h:dj 27 (Bt a0 a1 a2) R):an Tryz.prog 98 [a0,VS a1,VI a2] [] R :=
 uQ (ah (bA ha0) (ah (aA _) (ah (aA _) aD))) (oQ [] Tryz.f98 h)
def H7(a0_0:AV)(a0_1:Int):Tree :=
 .call 27 [.ref 0 0,VI 12] [.cells [a0_0,VI a0_1]] fun r1 o1=>.aj ((o1.hO)=.cells (o1.hO).cs)<|.aj (aL [.lk .sl,.lk (.int .i64)] ((o1.hO).cs) 0 1 o1.tail)<|NI r1<|.test (r1.toInt==(0:Int)) (.call 52 [.ref 0 0,.sl [[VS (mk [])],[VS (mk [97])],[VS (mk [40,43,32,49,41])],[VS (mk [40,114,101,99,32,120,32,49,41])],[VS (mk [40,114,101,99,32,116,41])],[VS (mk [40,43,32,32,49,32,49,41])],[VS (mk [40,42,32,49,32,49,32,49,41])],[VS (mk [116,49,48,48])],[VS (mk [120,32,49])]]] [.cells [((o1.hO).cs.getD 0 .any),VI (((o1.hO).cs.getD 1 .any).toInt)]] fun r2 o2=>.aj ((o2.hO)=.cells (o2.hO).cs)<|.aj (aL [.lk .sl,.lk (.int .i64)] ((o2.hO).cs) 0 1 o2.tail)<|NS r2<|.done 0 [VS r2.toStr] [.cells [((o2.hO).cs.getD 0 .any),VI (((o2.hO).cs.getD 1 .any).toInt)]]) (.test (r1.toInt==(1:Int)) (.call 26 [.ref 0 0] [.cells [((o1.hO).cs.getD 0 .any),VI (((o1.hO).cs.getD 1 .any).toInt)]] fun r3 o3=>.aj ((o3.hO)=.cells (o3.hO).cs)<|.aj (aL [.lk .sl,.lk (.int .i64)] ((o3.hO).cs) 0 1 o3.tail)<|NS r3<|.done 0 [VS r3.toStr] [.cells [((o3.hO).cs.getD 0 .any),VI (((o3.hO).cs.getD 1 .any).toInt)]]) (.test (r1.toInt==(2:Int)) (.call 26 [.ref 0 0] [.cells [((o1.hO).cs.getD 0 .any),VI (((o1.hO).cs.getD 1 .any).toInt)]] fun r4 o4=>.aj ((o4.hO)=.cells (o4.hO).cs)<|.aj (aL [.lk .sl,.lk (.int .i64)] ((o4.hO).cs) 0 1 o4.tail)<|NS r4<|.done 0 [VS r4.toStr] [.cells [((o4.hO).cs.getD 0 .any),VI (((o4.hO).cs.getD 1 .any).toInt)]]) (.test (r1.toInt==(3:Int)) (.call 26 [.ref 0 0] [.cells [((o1.hO).cs.getD 0 .any),VI (((o1.hO).cs.getD 1 .any).toInt)]] fun r5 o5=>.aj ((o5.hO)=.cells (o5.hO).cs)<|.aj (aL [.lk .sl,.lk (.int .i64)] ((o5.hO).cs) 0 1 o5.tail)<|NS r5<|.done 0 [VS r5.toStr] [.cells [((o5.hO).cs.getD 0 .any),VI (((o5.hO).cs.getD 1 .any).toInt)]]) (.test (r1.toInt==(4:Int)) (.call 100 [.ref 0 0,.sl [[VS (mk [116])],[VS (mk [116,49])]],VI 2] [.cells [((o1.hO).cs.getD 0 .any),VI (((o1.hO).cs.getD 1 .any).toInt)]] fun r6 o6=>.aj ((o6.hO)=.cells (o6.hO).cs)<|.aj (aL [.lk .sl,.lk (.int .i64)] ((o6.hO).cs) 0 1 o6.tail)<|NS r6<|.done 0 [VS r6.toStr] [.cells [((o6.hO).cs.getD 0 .any),VI (((o6.hO).cs.getD 1 .any).toInt)]]) (.call 100 [.ref 0 0,.sl [],VI 3] [.cells [((o1.hO).cs.getD 0 .any),VI (((o1.hO).cs.getD 1 .any).toInt)]] fun r7 o7=>.aj ((o7.hO)=.cells (o7.hO).cs)<|.aj (aL [.lk .sl,.lk (.int .i64)] ((o7.hO).cs) 0 1 o7.tail)<|NS r7<|.done 0 [VS r7.toStr] [.cells [((o7.hO).cs.getD 0 .any),VI (((o7.hO).cs.getD 1 .any).toInt)]])))))
theorem NN(a0_0:AV)(a0_1:Int)(ha0_0:LK.has .sl a0_0)(h:dj 24 (H7 a0_0 a0_1) R):an Tryz.prog 99 [.ref 0 0] [.cells [a0_0,VI a0_1]] R :=
 an.nf (bm (bU (ah (bT ha0_0) (ah (aA _) aD))) ct) (an.up (ah (aA _) aD) (oF [] {mu:=[(0,.one (.obj [.lk .sl,.lk (.int .i64)]))],own:=[]} Tryz.f99 h))
def GL(a0_0:AV)(a0_1:Int)(a1:AV)(a2:Int):Tree :=
 .test (decide (a2<=(0:Int))) (NL a1<|.test (decide ((a1.elems.length:Int)>(0:Int))) (.call 27 [.ref 0 0,VI 3] [.cells [a0_0,VI a0_1]] fun r1 o1=>.aj ((o1.hO)=.cells (o1.hO).cs)<|.aj (aL [.lk .sl,.lk (.int .i64)] ((o1.hO).cs) 0 1 o1.tail)<|NI r1<|.test (r1.toInt==(0:Int)) (NL a1<|.call 27 [.ref 0 0,VI (a1.elems.length:Int)] [.cells [((o1.hO).cs.getD 0 .any),VI (((o1.hO).cs.getD 1 .any).toInt)]] fun r2 o2=>.aj ((o2.hO)=.cells (o2.hO).cs)<|.aj (aL [.lk .sl,.lk (.int .i64)] ((o2.hO).cs) 0 1 o2.tail)<|NI r2<|.aj (LK.has .sl a1/\0<=r2.toInt/\r2.toInt<a1.elems.length/\(a1.elems.getD r2.toInt.toNat []).length=1)<|kS (a1.elems.getD r2.toInt.toNat [])<|.done 0 [VS (((a1.elems.getD r2.toInt.toNat []).hA).toStr)] [.cells [((o2.hO).cs.getD 0 .any),VI (((o2.hO).cs.getD 1 .any).toInt)]]) (.call 52 [.ref 0 0,.sl [[VS (mk [120])],[VS (mk [49])],[VS (mk [120])],[VS (mk [121])],[VS (mk [48])],[VS (mk [49])]]] [.cells [((o1.hO).cs.getD 0 .any),VI (((o1.hO).cs.getD 1 .any).toInt)]] fun r3 o3=>.aj ((o3.hO)=.cells (o3.hO).cs)<|.aj (aL [.lk .sl,.lk (.int .i64)] ((o3.hO).cs) 0 1 o3.tail)<|NS r3<|.done 0 [VS r3.toStr] [.cells [((o3.hO).cs.getD 0 .any),VI (((o3.hO).cs.getD 1 .any).toInt)]])) (.call 52 [.ref 0 0,.sl [[VS (mk [120])],[VS (mk [49])],[VS (mk [120])],[VS (mk [121])],[VS (mk [48])],[VS (mk [49])]]] [.cells [a0_0,VI a0_1]] fun r4 o4=>.aj ((o4.hO)=.cells (o4.hO).cs)<|.aj (aL [.lk .sl,.lk (.int .i64)] ((o4.hO).cs) 0 1 o4.tail)<|NS r4<|.done 0 [VS r4.toStr] [.cells [((o4.hO).cs.getD 0 .any),VI (((o4.hO).cs.getD 1 .any).toInt)]])) (.call 27 [.ref 0 0,VI 4] [.cells [a0_0,VI a0_1]] fun r5 o5=>.aj ((o5.hO)=.cells (o5.hO).cs)<|.aj (aL [.lk .sl,.lk (.int .i64)] ((o5.hO).cs) 0 1 o5.tail)<|NI r5<|.test (r5.toInt==(0:Int)) (NL a1<|.test (decide ((a1.elems.length:Int)>(0:Int))) (.call 27 [.ref 0 0,VI 3] [.cells [((o5.hO).cs.getD 0 .any),VI (((o5.hO).cs.getD 1 .any).toInt)]] fun r6 o6=>.aj ((o6.hO)=.cells (o6.hO).cs)<|.aj (aL [.lk .sl,.lk (.int .i64)] ((o6.hO).cs) 0 1 o6.tail)<|NI r6<|.test (r6.toInt==(0:Int)) (NL a1<|.call 27 [.ref 0 0,VI (a1.elems.length:Int)] [.cells [((o6.hO).cs.getD 0 .any),VI (((o6.hO).cs.getD 1 .any).toInt)]] fun r7 o7=>.aj ((o7.hO)=.cells (o7.hO).cs)<|.aj (aL [.lk .sl,.lk (.int .i64)] ((o7.hO).cs) 0 1 o7.tail)<|NI r7<|.aj (LK.has .sl a1/\0<=r7.toInt/\r7.toInt<a1.elems.length/\(a1.elems.getD r7.toInt.toNat []).length=1)<|kS (a1.elems.getD r7.toInt.toNat [])<|.done 0 [VS (((a1.elems.getD r7.toInt.toNat []).hA).toStr)] [.cells [((o7.hO).cs.getD 0 .any),VI (((o7.hO).cs.getD 1 .any).toInt)]]) (.call 52 [.ref 0 0,.sl [[VS (mk [120])],[VS (mk [49])],[VS (mk [120])],[VS (mk [121])],[VS (mk [48])],[VS (mk [49])]]] [.cells [((o6.hO).cs.getD 0 .any),VI (((o6.hO).cs.getD 1 .any).toInt)]] fun r8 o8=>.aj ((o8.hO)=.cells (o8.hO).cs)<|.aj (aL [.lk .sl,.lk (.int .i64)] ((o8.hO).cs) 0 1 o8.tail)<|NS r8<|.done 0 [VS r8.toStr] [.cells [((o8.hO).cs.getD 0 .any),VI (((o8.hO).cs.getD 1 .any).toInt)]])) (.call 52 [.ref 0 0,.sl [[VS (mk [120])],[VS (mk [49])],[VS (mk [120])],[VS (mk [121])],[VS (mk [48])],[VS (mk [49])]]] [.cells [((o5.hO).cs.getD 0 .any),VI (((o5.hO).cs.getD 1 .any).toInt)]] fun r9 o9=>.aj ((o9.hO)=.cells (o9.hO).cs)<|.aj (aL [.lk .sl,.lk (.int .i64)] ((o9.hO).cs) 0 1 o9.tail)<|NS r9<|.done 0 [VS r9.toStr] [.cells [((o9.hO).cs.getD 0 .any),VI (((o9.hO).cs.getD 1 .any).toInt)]])) (.call 27 [.ref 0 0,VI 5] [.cells [((o5.hO).cs.getD 0 .any),VI (((o5.hO).cs.getD 1 .any).toInt)]] fun r10 o10=>.aj ((o10.hO)=.cells (o10.hO).cs)<|.aj (aL [.lk .sl,.lk (.int .i64)] ((o10.hO).cs) 0 1 o10.tail)<|NI r10<|.test (r10.toInt==(0:Int)) (.call 100 [.ref 0 0,a1,VI (IntKind.wrap .i64 (a2-1))] [.cells [((o10.hO).cs.getD 0 .any),VI (((o10.hO).cs.getD 1 .any).toInt)]] fun r11 o11=>.aj ((o11.hO)=.cells (o11.hO).cs)<|.aj (aL [.lk .sl,.lk (.int .i64)] ((o11.hO).cs) 0 1 o11.tail)<|NS r11<|.aj (af (mk [40,43,32])+af r11.toStr<=9223372036854775807)<|.aj (af (((mk [40,43,32]):ByteArray)++r11.toStr)+af (mk [32])<=9223372036854775807)<|.call 100 [.ref 0 0,a1,VI (IntKind.wrap .i64 (a2-1))] [.cells [((o11.hO).cs.getD 0 .any),VI (((o11.hO).cs.getD 1 .any).toInt)]] fun r12 o12=>.aj ((o12.hO)=.cells (o12.hO).cs)<|.aj (aL [.lk .sl,.lk (.int .i64)] ((o12.hO).cs) 0 1 o12.tail)<|NS r12<|.aj (af (((((mk [40,43,32]):ByteArray)++r11.toStr):ByteArray)++(mk [32]))+af r12.toStr<=9223372036854775807)<|.aj (af (((((((mk [40,43,32]):ByteArray)++r11.toStr):ByteArray)++(mk [32])):ByteArray)++r12.toStr)+af (mk [41])<=9223372036854775807)<|.done 0 [VS (((((((((mk [40,43,32]):ByteArray)++r11.toStr):ByteArray)++(mk [32])):ByteArray)++r12.toStr):ByteArray)++(mk [41]))] [.cells [((o12.hO).cs.getD 0 .any),VI (((o12.hO).cs.getD 1 .any).toInt)]]) (.test (r10.toInt==(1:Int)) (.call 100 [.ref 0 0,a1,VI (IntKind.wrap .i64 (a2-1))] [.cells [((o10.hO).cs.getD 0 .any),VI (((o10.hO).cs.getD 1 .any).toInt)]] fun r13 o13=>.aj ((o13.hO)=.cells (o13.hO).cs)<|.aj (aL [.lk .sl,.lk (.int .i64)] ((o13.hO).cs) 0 1 o13.tail)<|NS r13<|.aj (af (mk [40,43,32])+af r13.toStr<=9223372036854775807)<|.aj (af (((mk [40,43,32]):ByteArray)++r13.toStr)+af (mk [32])<=9223372036854775807)<|.call 100 [.ref 0 0,a1,VI (IntKind.wrap .i64 (a2-1))] [.cells [((o13.hO).cs.getD 0 .any),VI (((o13.hO).cs.getD 1 .any).toInt)]] fun r14 o14=>.aj ((o14.hO)=.cells (o14.hO).cs)<|.aj (aL [.lk .sl,.lk (.int .i64)] ((o14.hO).cs) 0 1 o14.tail)<|NS r14<|.aj (af (((((mk [40,43,32]):ByteArray)++r13.toStr):ByteArray)++(mk [32]))+af r14.toStr<=9223372036854775807)<|.aj (af (((((((mk [40,43,32]):ByteArray)++r13.toStr):ByteArray)++(mk [32])):ByteArray)++r14.toStr)+af (mk [41])<=9223372036854775807)<|.done 0 [VS (((((((((mk [40,43,32]):ByteArray)++r13.toStr):ByteArray)++(mk [32])):ByteArray)++r14.toStr):ByteArray)++(mk [41]))] [.cells [((o14.hO).cs.getD 0 .any),VI (((o14.hO).cs.getD 1 .any).toInt)]]) (.test (r10.toInt==(2:Int)) (.call 100 [.ref 0 0,a1,VI (IntKind.wrap .i64 (a2-1))] [.cells [((o10.hO).cs.getD 0 .any),VI (((o10.hO).cs.getD 1 .any).toInt)]] fun r15 o15=>.aj ((o15.hO)=.cells (o15.hO).cs)<|.aj (aL [.lk .sl,.lk (.int .i64)] ((o15.hO).cs) 0 1 o15.tail)<|NS r15<|.aj (af (mk [40,42,32])+af r15.toStr<=9223372036854775807)<|.aj (af (((mk [40,42,32]):ByteArray)++r15.toStr)+af (mk [32])<=9223372036854775807)<|.call 100 [.ref 0 0,a1,VI (IntKind.wrap .i64 (a2-1))] [.cells [((o15.hO).cs.getD 0 .any),VI (((o15.hO).cs.getD 1 .any).toInt)]] fun r16 o16=>.aj ((o16.hO)=.cells (o16.hO).cs)<|.aj (aL [.lk .sl,.lk (.int .i64)] ((o16.hO).cs) 0 1 o16.tail)<|NS r16<|.aj (af (((((mk [40,42,32]):ByteArray)++r15.toStr):ByteArray)++(mk [32]))+af r16.toStr<=9223372036854775807)<|.aj (af (((((((mk [40,42,32]):ByteArray)++r15.toStr):ByteArray)++(mk [32])):ByteArray)++r16.toStr)+af (mk [41])<=9223372036854775807)<|.done 0 [VS (((((((((mk [40,42,32]):ByteArray)++r15.toStr):ByteArray)++(mk [32])):ByteArray)++r16.toStr):ByteArray)++(mk [41]))] [.cells [((o16.hO).cs.getD 0 .any),VI (((o16.hO).cs.getD 1 .any).toInt)]]) (.test (r10.toInt==(3:Int)) (.call 100 [.ref 0 0,a1,VI (IntKind.wrap .i64 (a2-1))] [.cells [((o10.hO).cs.getD 0 .any),VI (((o10.hO).cs.getD 1 .any).toInt)]] fun r17 o17=>.aj ((o17.hO)=.cells (o17.hO).cs)<|.aj (aL [.lk .sl,.lk (.int .i64)] ((o17.hO).cs) 0 1 o17.tail)<|NS r17<|.aj (af (mk [40,42,32])+af r17.toStr<=9223372036854775807)<|.aj (af (((mk [40,42,32]):ByteArray)++r17.toStr)+af (mk [32])<=9223372036854775807)<|.call 100 [.ref 0 0,a1,VI (IntKind.wrap .i64 (a2-1))] [.cells [((o17.hO).cs.getD 0 .any),VI (((o17.hO).cs.getD 1 .any).toInt)]] fun r18 o18=>.aj ((o18.hO)=.cells (o18.hO).cs)<|.aj (aL [.lk .sl,.lk (.int .i64)] ((o18.hO).cs) 0 1 o18.tail)<|NS r18<|.aj (af (((((mk [40,42,32]):ByteArray)++r17.toStr):ByteArray)++(mk [32]))+af r18.toStr<=9223372036854775807)<|.aj (af (((((((mk [40,42,32]):ByteArray)++r17.toStr):ByteArray)++(mk [32])):ByteArray)++r18.toStr)+af (mk [41])<=9223372036854775807)<|.done 0 [VS (((((((((mk [40,42,32]):ByteArray)++r17.toStr):ByteArray)++(mk [32])):ByteArray)++r18.toStr):ByteArray)++(mk [41]))] [.cells [((o18.hO).cs.getD 0 .any),VI (((o18.hO).cs.getD 1 .any).toInt)]]) (.call 52 [.ref 0 0,.sl [[VS (mk [116])],[VS (mk [116,49])],[VS (mk [116,48])]]] [.cells [((o10.hO).cs.getD 0 .any),VI (((o10.hO).cs.getD 1 .any).toInt)]] fun r19 o19=>.aj ((o19.hO)=.cells (o19.hO).cs)<|.aj (aL [.lk .sl,.lk (.int .i64)] ((o19.hO).cs) 0 1 o19.tail)<|NS r19<|.aj (af (mk [40,114,101,99,32])+af r19.toStr<=9223372036854775807)<|.aj (af (((mk [40,114,101,99,32]):ByteArray)++r19.toStr)+af (mk [32,40,43,32,49,32])<=9223372036854775807)<|.call 150 [a1,VS r19.toStr] [] fun r20 o20=>.aj (r20=.vec 0/\(o20.hO)=.vec 1 (o20.hO).es)<|.aj (∀x,x∈o20->dL x)<|.call 100 [.ref 0 0,.sl ((o20.hO).es),VI (IntKind.wrap .i64 (a2-1))] [.cells [((o19.hO).cs.getD 0 .any),VI (((o19.hO).cs.getD 1 .any).toInt)]] fun r21 o21=>.aj ((o21.hO)=.cells (o21.hO).cs)<|.aj (aL [.lk .sl,.lk (.int .i64)] ((o21.hO).cs) 0 1 o21.tail)<|NS r21<|.aj (af (((((mk [40,114,101,99,32]):ByteArray)++r19.toStr):ByteArray)++(mk [32,40,43,32,49,32]))+af r21.toStr<=9223372036854775807)<|.aj (af (((((((mk [40,114,101,99,32]):ByteArray)++r19.toStr):ByteArray)++(mk [32,40,43,32,49,32])):ByteArray)++r21.toStr)+af (mk [41,41])<=9223372036854775807)<|.done 0 [VS (((((((((mk [40,114,101,99,32]):ByteArray)++r19.toStr):ByteArray)++(mk [32,40,43,32,49,32])):ByteArray)++r21.toStr):ByteArray)++(mk [41,41]))] [.cells [((o21.hO).cs.getD 0 .any),VI (((o21.hO).cs.getD 1 .any).toInt)]]))))))
theorem MO(a0_0:AV)(a0_1:Int)(a1:AV)(a2:Int)(ha1:LK.has .sl a1)(ha0_0:LK.has .sl a0_0)(h:dj 82 (GL a0_0 a0_1 a1 a2) R):an Tryz.prog 100 [.ref 0 0,a1,VI a2] [.cells [a0_0,VI a0_1]] R :=
 an.nf (bm (bU (ah (bT ha0_0) (ah (aA _) aD))) ct) (an.up (ah (aA _) (ah (bT ha1) (ah (aA _) aD))) (oF [] {mu:=[(0,.one (.obj [.lk .sl,.lk (.int .i64)]))],own:=[]} Tryz.f100 h))
def Ng(a0:ByteArray):Tree :=
 .call 151 [VS a0] [] fun r1 o1=>NT r1<|.aj ((r1.comp 0)=.agg (r1.comp 0).cs/\(r1.comp 0).cs.length=2/\bF [.str,.sl] ((r1.comp 0).cs) 0)<|NB (r1.comp 1)<|.test ((r1.comp 1).toBool) (.call 152 [.agg [VS (((r1.comp 0).cs.getD 0 .any).toStr),((r1.comp 0).cs.getD 1 .any)]] [] fun r2 o2=>NB r2<|.test r2.toBool (.call 106 [.agg [VS (((r1.comp 0).cs.getD 0 .any).toStr),((r1.comp 0).cs.getD 1 .any)]] [] fun r3 o3=>NI r3<|.done 0 [.cy [.agg [VS (((r1.comp 0).cs.getD 0 .any).toStr),((r1.comp 0).cs.getD 1 .any)],VB (decide (r3.toInt<=(400:Int)))]] []) (.done 0 [.cy [.agg [VS (((r1.comp 0).cs.getD 0 .any).toStr),((r1.comp 0).cs.getD 1 .any)],VB false]] [])) (.done 0 [.cy [.agg [VS (((r1.comp 0).cs.getD 0 .any).toStr),((r1.comp 0).cs.getD 1 .any)],VB false]] [])
theorem NU(a0:ByteArray)(h:dj 22 (Ng a0) R):an Tryz.prog 101 [VS a0] [] R :=
 uQ (ah (aA _) aD) (oQ [] Tryz.f101 h)
def wE(a0_0:ByteArray)(a0_1:AV)(a1:AV)(e2:List (List AV)):Tree :=
 .test (!(ae a0_0==ae (mk []))) (.test (ae a0_0==ae (mk [48])) (.done 0 [.vec 1] [.dead,.vec 1 e2]) (.test (ae a0_0==ae (mk [49])) (.done 0 [.vec 1] [.dead,.vec 1 e2]) (.call 153 [a1,VS a0_0] [] fun r1 o1=>NB r1<|.test r1.toBool (.done 0 [.vec 1] [.dead,.vec 1 e2]) (.call 153 [.sl e2,VS a0_0] [] fun r2 o2=>NB r2<|.test r2.toBool (.done 0 [.vec 1] [.dead,.vec 1 e2]) (.aj (cV 1 [[VS a0_0]]/\((e2.length)+([[VS a0_0]]:List (List AV)).length)*16<=140737488355328)<|.done 0 [.vec 1] [.dead,.vec 1 (e2++([[VS a0_0]]:List (List AV)))]))))) (.call 104 [.agg [VS a0_0,a0_1]] [] fun r3 o3=>NS r3<|.test (ae r3.toStr==ae (mk [114,101,99])) (NG a0_1 2 2<|NE (a0_1.ix (2:Int))<|NG a0_1 1 2<|kS (a0_1.ix (1:Int))<|.call 150 [a1,VS (((a0_1.ix (1:Int)).hA).toStr)] [] fun r4 o4=>.aj (r4=.vec 0/\(o4.hO)=.vec 1 (o4.hO).es)<|.aj (∀x,x∈o4->dL x)<|.call 102 [.agg [VS (((a0_1.ix (2:Int)).getD 0 .any).toStr),((a0_1.ix (2:Int)).getD 1 .any)],.sl ((o4.hO).es),.vec 0] [.vec 1 e2] fun r5 o5=>.aj (r5=.vec 1/\(o5.tail.hO)=.vec 1 (o5.tail.hO).es)<|.done 0 [.vec 1] [.dead,.vec 1 ((o5.tail.hO).es)]) (NG a0_1 2 2<|NE (a0_1.ix (2:Int))<|NG a0_1 1 2<|NE (a0_1.ix (1:Int))<|.call 102 [.agg [VS (((a0_1.ix (1:Int)).getD 0 .any).toStr),((a0_1.ix (1:Int)).getD 1 .any)],a1,.vec 0] [.vec 1 e2] fun r6 o6=>.aj (r6=.vec 1/\(o6.tail.hO)=.vec 1 (o6.tail.hO).es)<|.call 102 [.agg [VS (((a0_1.ix (2:Int)).getD 0 .any).toStr),((a0_1.ix (2:Int)).getD 1 .any)],a1,.vec 0] [.vec 1 ((o6.tail.hO).es)] fun r7 o7=>.aj (r7=.vec 1/\(o7.tail.hO)=.vec 1 (o7.tail.hO).es)<|.done 0 [.vec 1] [.dead,.vec 1 ((o7.tail.hO).es)]))
theorem yT(a0_0:ByteArray)(a0_1:AV)(a1:AV)(e2:List (List AV))(ha0_1:LK.has .sl a0_1)(ha1:LK.has .sl a1)(h:dj 65 (wE a0_0 a0_1 a1 e2) R):an Tryz.prog 102 [.agg [VS a0_0,a0_1],a1,.vec 0] [.vec 1 e2] R :=
 an.nf (bm (eH _) ct) (an.up (ah (cj (ah (aA _) (ah (bT ha0_1) aD))) (ah (bT ha1) (ah (aA _) aD))) (oF [] {mu:=[(2,.one (.vec))],own:=[0]} Tryz.f102 h))
def IA(a0:ByteArray):Tree :=
 .call 154 [VS a0,.v (.int .u8 116),.v (.int .u8 116)] [] fun r1 o1=>NB r1<|.done 0 [VB r1.toBool] []
theorem O0(a0:ByteArray)(h:dj 5 (IA a0) R):an Tryz.prog 103 [VS a0] [] R :=
 uQ (ah (aA _) aD) (oQ [] Tryz.f103 h)
def Dn(a0_0:ByteArray)(a0_1:AV):Tree :=
 .test (!(ae a0_0==ae (mk []))) (.done 0 [VS (mk [])] []) (NL a0_1<|.test ((a0_1.elems.length:Int)==(0:Int)) (.done 0 [VS (mk [])] []) (NG a0_1 0 2<|kS (a0_1.ix (0:Int))<|.done 0 [VS (((a0_1.ix (0:Int)).hA).toStr)] []))
theorem Gr(a0_0:ByteArray)(a0_1:AV)(ha0_1:LK.has .sl a0_1)(h:dj 17 (Dn a0_0 a0_1) R):an Tryz.prog 104 [.agg [VS a0_0,a0_1]] [] R :=
 uQ (ah (cj (ah (aA _) (ah (bT ha0_1) aD))) aD) (oQ [] Tryz.f104 h)
def AI(a0_0:ByteArray)(a0_1:AV)(a1:AV):Tree :=
 .call 104 [.agg [VS a0_0,a0_1]] [] fun r1 o1=>NS r1<|.test (ae r1.toStr==ae (mk [43])) (NG a0_1 1 2<|NE (a0_1.ix (1:Int))<|.call 105 [.agg [VS (((a0_1.ix (1:Int)).getD 0 .any).toStr),((a0_1.ix (1:Int)).getD 1 .any)],a1] [] fun r2 o2=>NB r2<|.test r2.toBool (NG a0_1 2 2<|NE (a0_1.ix (2:Int))<|.call 105 [.agg [VS (((a0_1.ix (2:Int)).getD 0 .any).toStr),((a0_1.ix (2:Int)).getD 1 .any)],a1] [] fun r3 o3=>NB r3<|.done 0 [VB r3.toBool] []) (.done 0 [VB false] [])) (.test (ae r1.toStr==ae (mk [42])) (NG a0_1 1 2<|NE (a0_1.ix (1:Int))<|.call 105 [.agg [VS (((a0_1.ix (1:Int)).getD 0 .any).toStr),((a0_1.ix (1:Int)).getD 1 .any)],a1] [] fun r4 o4=>NB r4<|.test r4.toBool (.done 0 [VB true] []) (NG a0_1 2 2<|NE (a0_1.ix (2:Int))<|.call 105 [.agg [VS (((a0_1.ix (2:Int)).getD 0 .any).toStr),((a0_1.ix (2:Int)).getD 1 .any)],a1] [] fun r5 o5=>NB r5<|.done 0 [VB r5.toBool] [])) (.test (ae r1.toStr==ae (mk [114,101,99])) (NG a0_1 2 2<|NE (a0_1.ix (2:Int))<|NG a0_1 1 2<|kS (a0_1.ix (1:Int))<|.call 150 [a1,VS (((a0_1.ix (1:Int)).hA).toStr)] [] fun r6 o6=>.aj (r6=.vec 0/\(o6.hO)=.vec 1 (o6.hO).es)<|.aj (∀x,x∈o6->dL x)<|.call 105 [.agg [VS (((a0_1.ix (2:Int)).getD 0 .any).toStr),((a0_1.ix (2:Int)).getD 1 .any)],.sl ((o6.hO).es)] [] fun r7 o7=>NB r7<|.done 0 [VB r7.toBool] []) (.test (ae a0_0==ae (mk [48])) (.done 0 [VB true] []) (.call 153 [a1,VS a0_0] [] fun r8 o8=>NB r8<|.done 0 [VB r8.toBool] []))))
theorem C9(a0_0:ByteArray)(a0_1:AV)(a1:AV)(ha0_1:LK.has .sl a0_1)(ha1:LK.has .sl a1)(h:dj 62 (AI a0_0 a0_1 a1) R):an Tryz.prog 105 [.agg [VS a0_0,a0_1],a1] [] R :=
 uQ (ah (cj (ah (aA _) (ah (bT ha0_1) aD))) (ah (bT ha1) aD)) (oQ [] Tryz.f105 h)
def Hf:LI:={hd:={bZ:=[(3,.k (.int .i64)),(4,.k (.int .i64))],refs:=[(1,1)],cr:=[(1,[.lk .str,.lk .sl])]},xs:={bZ:=[(3,.k (.int .i64))]},rt:={},ex:=0}
def Kd:Code:=db (cQ Tryz.f106) 5
def JI:List (Nat×LI):=[(5,Hf)]
def EZ(a0_0:ByteArray)(a0_1:AV):Tree :=
 .test (!(ae a0_0==ae (mk []))) (.done 0 [VI 1] []) (.loop Kd Hf [VI 0,VI 0] [.cells [VS a0_0,a0_1]] (fun y2 q2=>NI (y2.hA)<|.done 0 [VI ((y2.hA).toInt)] []) (fun y2 q2=>.done 0 [.any] []))
theorem JC(a0_0:ByteArray)(a0_1:AV)(ha0_1:LK.has .sl a0_1)(h:dj 24 (EZ a0_0 a0_1) R):an Tryz.prog 106 [.agg [VS a0_0,a0_1]] [] R :=
 uQ (ah (cj (ah (aA _) (ah (bT ha0_1) aD))) aD) (oQ JI Tryz.f106 h)
def HH(x3:Int)(x4:Int)(o1_0:ByteArray)(o1_1:AV):Tree :=
 NI (VI x3)<|NI (VI x4)<|.aj (Ob.cells [VS o1_0,o1_1]=.cells [VS o1_0,o1_1])<|.aj (ag [.lk .str,.lk .sl] [VS o1_0,o1_1] 0 [])<|NL o1_1<|.test (decide (x4<(o1_1.elems.length:Int))) (NG o1_1 x4 2<|NE (o1_1.ix x4)<|.call 106 [.agg [VS (((o1_1.ix x4).getD 0 .any).toStr),((o1_1.ix x4).getD 1 .any)]] [] fun r1 o1=>NI r1<|.done 0 [VI (IntKind.wrap .i64 (x3+r1.toInt)),VI (IntKind.wrap .i64 (x4+1))] [.cells [VS o1_0,o1_1]]) (.done 1 [VI x3] [])
abbrev GN:=cH Tryz.prog 24 Kd Hf
theorem Lg(x3:Int)(x4:Int)(o1_0:ByteArray)(o1_1:AV)(h:mi 24 (HH x3 x4 o1_0 o1_1) GN U):GN [VI x3,VI x4] [.cells [VS o1_0,o1_1]] U :=
 gQ JI h
def Hz(a0:ByteArray)(a1:AV):Tree :=
 .aj (LK.has .sl a1/\cV 2 a1.elems/\((([[VS a0,.v (.slice none 0 0)]]:List (List AV)).length)+a1.elems.length)*40<=140737488355328)<|.done 0 [.agg [VS (mk []),.sl (([[VS a0,.v (.slice none 0 0)]]:List (List AV))++a1.elems)]] []
theorem KH(a0:ByteArray)(a1:AV)(ha1:LK.has .sl a1)(h:dj 11 (Hz a0 a1) R):an Tryz.prog 107 [VS a0,a1] [] R :=
 uQ (ah (aA _) (ah (bT ha1) aD)) (oQ [] Tryz.f107 h)
def JU(a0_0:ByteArray)(a0_1:AV):Tree :=
 NG a0_1 1 2<|kS (a0_1.ix (1:Int))<|NG a0_1 2 2<|NE (a0_1.ix (2:Int))<|.call 155 [.agg [VS (((a0_1.ix (2:Int)).getD 0 .any).toStr),((a0_1.ix (2:Int)).getD 1 .any)],VS (((a0_1.ix (1:Int)).hA).toStr),.agg [VS a0_0,a0_1]] [] fun r1 o1=>NB r1<|.test (!r1.toBool) (.done 0 [.cy [.agg [VS a0_0,a0_1],VB false]] []) (NG a0_1 2 2<|NE (a0_1.ix (2:Int))<|.call 156 [.agg [VS (((a0_1.ix (2:Int)).getD 0 .any).toStr),((a0_1.ix (2:Int)).getD 1 .any)],VS (((a0_1.ix (1:Int)).hA).toStr),.agg [VS a0_0,a0_1]] [] fun r2 o2=>NA r2<|.done 0 [.cy [.agg [VS ((r2.cs.getD 0 .any).toStr),(r2.cs.getD 1 .any)],VB true]] [])
theorem Q5(a0_0:ByteArray)(a0_1:AV)(ha0_1:LK.has .sl a0_1)(h:dj 26 (JU a0_0 a0_1) R):an Tryz.prog 108 [.agg [VS a0_0,a0_1]] [] R :=
 uQ (ah (cj (ah (aA _) (ah (bT ha0_1) aD))) aD) (oQ [] Tryz.f108 h)
def Ll(a0:Int):Tree :=
 .test (decide (a0<((-9223372036854775807):Int))) (.done 0 [VS (mk [45,57,50,50,51,51,55,50,48,51,54,56,53,52,55,55,53,56,48,56])] []) (.test (decide (a0<(0:Int))) (.call 109 [VI (IntKind.wrap .i64 (0-a0))] [] fun r1 o1=>NS r1<|.aj (af (mk [45])+af r1.toStr<=9223372036854775807)<|.done 0 [VS (((mk [45]):ByteArray)++r1.toStr)] []) (.test (decide (a0<(10:Int))) (.aj (im [[.v (.int .u8 (IntKind.wrap .u8 (IntKind.wrap .i64 (48+a0))))]])<|.done 0 [VS (⟨(bytesOf [[.v (.int .u8 (IntKind.wrap .u8 (IntKind.wrap .i64 (48+a0))))]]).toArray⟩)] []) (.aj (¬(10:Int)=0)<|.call 109 [VI (IntKind.wrap .i64 (Int.tdiv a0 10))] [] fun r2 o2=>NS r2<|.aj (¬(10:Int)=0)<|.aj (im [[.v (.int .u8 (IntKind.wrap .u8 (IntKind.wrap .i64 (48+(da a0 10)))))]])<|.aj (af r2.toStr+af (⟨(bytesOf [[.v (.int .u8 (IntKind.wrap .u8 (IntKind.wrap .i64 (48+(da a0 10)))))]]).toArray⟩)<=9223372036854775807)<|.done 0 [VS ((r2.toStr:ByteArray)++(⟨(bytesOf [[.v (.int .u8 (IntKind.wrap .u8 (IntKind.wrap .i64 (48+(da a0 10)))))]]).toArray⟩))] [])))
theorem PY(a0:Int)(h:dj 28 (Ll a0) R):an Tryz.prog 109 [VI a0] [] R :=
 uQ (ah (aA _) aD) (oQ [] Tryz.f109 h)
def G5:LI:={hd:={bZ:=[(1,.k .sl),(2,.k .sl),(9,.k (.int .i64))],refs:=[(4,4),(8,8)],cr:=[(4,[.lk .str,.lk .sl]),(8,[.lk .str,.lk .sl]),(0,[.vec 1,.lk (.int .i64)])]},xs:={refs:=[(4,4),(8,8)],cr:=[(4,[.lk .str,.lk .sl]),(8,[.lk .str,.lk .sl]),(0,[.vec 1,.lk (.int .i64)])]},rt:={refs:=[(8,8)],cr:=[(8,[.lk .str,.lk .sl]),(0,[.vec 1,.lk (.int .i64)])]},ex:=0,fx:=[0]}
def Jb:Code:=db (cQ Tryz.f110) 3
def HA:LI:={hd:={bZ:=[(1,.k .sl),(2,.k .sl),(10,.k .str)],refs:=[(3,0),(4,4),(8,8)],cr:=[(0,[.vec 1,.lk (.int .i64)]),(4,[.lk .str,.lk .sl]),(8,[.lk .str,.lk .sl])]},xs:={bZ:=[(1,.k .sl),(2,.k .sl),(10,.k .str)],refs:=[(3,0),(4,4),(8,8)],cr:=[(0,[.vec 1,.lk (.int .i64)]),(4,[.lk .str,.lk .sl]),(8,[.lk .str,.lk .sl])]},rt:={cr:=[(0,[.vec 1,.lk (.int .i64)])]},ex:=2,fx:=[0]}
def IP:Code:=db (cQ Tryz.f110) 10
def G2:List (Nat×LI):=[(3,G5),(10,HA)]
def A1(a0_0:ByteArray)(a0_1:AV)(a1:AV)(a2:AV)(e3_0:List (List AV))(a3_1:Int):Tree :=
 .test (!(ae a0_0==ae (mk []))) (NL a1<|.loop Jb G5 [a1,a2,VI (IntKind.wrap .i64 ((a1.elems.length:Int)-1))] [.cells [VS a0_0,a0_1],.cells [VS (mk []),.v (.slice none 0 0)],.cells [.any,VI a3_1],.vec 1 e3_0] (fun y1 q1=>.aj ((q1.hO)=.cells (q1.hO).cs)<|.aj (ag [.lk .str,.lk .sl] ((q1.hO).cs) 0 q1.tail)<|.aj (((q1.tail.drop 0).hO)=.cells ((q1.tail.drop 0).hO).cs)<|.aj (ag [.lk .str,.lk .sl] (((q1.tail.drop 0).hO).cs) 0 ((q1.tail.drop 0).tail))<|.aj ((((q1.tail.drop 0).tail.drop 0).hO)=.cells (((q1.tail.drop 0).tail.drop 0).hO).cs)<|.aj (ag [.vec 1,.lk (.int .i64)] ((((q1.tail.drop 0).tail.drop 0).hO).cs) 0 (((q1.tail.drop 0).tail.drop 0).tail))<|.done 0 [.agg [VS (((q1.hO).cs.getD 0 .any).toStr),((q1.hO).cs.getD 1 .any)]] [.cells [.vec 1,VI (((q1.tail.tail.hO).cs.getD 1 .any).toInt)],.vec 1 ((q1.tail.tail.tail.hO).es)]) (fun y1 q1=>.aj ((q1.hO)=.cells (q1.hO).cs)<|.aj (ag [.lk .str,.lk .sl] ((q1.hO).cs) 0 q1.tail)<|.aj (((q1.tail.drop 0).hO)=.cells ((q1.tail.drop 0).hO).cs)<|.aj (ag [.vec 1,.lk (.int .i64)] (((q1.tail.drop 0).hO).cs) 0 ((q1.tail.drop 0).tail))<|.done 0 [.agg [VS (((q1.hO).cs.getD 0 .any).toStr),((q1.hO).cs.getD 1 .any)]] [.cells [.vec 1,VI (((q1.tail.hO).cs.getD 1 .any).toInt)],.vec 1 ((q1.tail.tail.hO).es)])) (.call 104 [.agg [VS a0_0,a0_1]] [] fun r2 o2=>NS r2<|.test (ae r2.toStr==ae (mk [114,101,99])) (.call 109 [VI a3_1] [] fun r3 o3=>NS r3<|.aj (af (mk [116])+af r3.toStr<=9223372036854775807)<|.loop IP HA [a1,a2,VS (((mk [116]):ByteArray)++r3.toStr)] [.cells [.any,VI a3_1],.vec 1 e3_0,.cells [VS a0_0,a0_1],.cells [VS (mk []),.v (.slice none 0 0)]] (fun y6 q6=>NL (y6.hA)<|NL (y6.tail.hA)<|NS (y6.tail.tail.hA)<|.aj ((q6.hO)=.cells (q6.hO).cs)<|.aj (ag [.vec 1,.lk (.int .i64)] ((q6.hO).cs) 0 q6.tail)<|.aj (((q6.tail.drop 1).hO)=.cells ((q6.tail.drop 1).hO).cs)<|.aj (ag [.lk .str,.lk .sl] (((q6.tail.drop 1).hO).cs) 0 ((q6.tail.drop 1).tail))<|.aj ((((q6.tail.drop 1).tail.drop 0).hO)=.cells (((q6.tail.drop 1).tail.drop 0).hO).cs)<|.aj (ag [.lk .str,.lk .sl] ((((q6.tail.drop 1).tail.drop 0).hO).cs) 0 (((q6.tail.drop 1).tail.drop 0).tail))<|NG ((q6.tail.tail.hO).cs.getD 1 .any) 2 2<|NE (((q6.tail.tail.hO).cs.getD 1 .any).ix (2:Int))<|NG ((q6.tail.tail.hO).cs.getD 1 .any) 1 2<|kS (((q6.tail.tail.hO).cs.getD 1 .any).ix (1:Int))<|.call 150 [(y6.hA),VS (((((q6.tail.tail.hO).cs.getD 1 .any).ix (1:Int)).hA).toStr)] [] fun r7 o7=>.aj (r7=.vec 0/\(o7.hO)=.vec 1 (o7.hO).es)<|.aj (∀x,x∈o7->dL x)<|.call 150 [(y6.tail.hA),VS ((y6.tail.tail.hA).toStr)] [] fun r8 o8=>.aj (r8=.vec 0/\(o8.hO)=.vec 1 (o8.hO).es)<|.aj (∀x,x∈o8->dL x)<|.call 110 [.agg [VS (((((q6.tail.tail.hO).cs.getD 1 .any).ix (2:Int)).getD 0 .any).toStr),((((q6.tail.tail.hO).cs.getD 1 .any).ix (2:Int)).getD 1 .any)],.sl ((o7.hO).es),.sl ((o8.hO).es),.ref 0 0] [.cells [.vec 1,VI (IntKind.wrap .i64 ((((q6.hO).cs.getD 1 .any).toInt)+1))],.vec 1 ((q6.tail.hO).es)] fun r9 o9=>.aj ((o9.hO)=.cells (o9.hO).cs)<|.aj (aL [.vec 1,.lk (.int .i64)] ((o9.hO).cs) 0 1 o9.tail)<|NA r9<|.call 107 [VS (mk [114,101,99]),.sl [[VS ((y6.tail.tail.hA).toStr),.v (.slice none 0 0)],[VS ((r9.cs.getD 0 .any).toStr),(r9.cs.getD 1 .any)]]] [] fun r10 o10=>NA r10<|.done 0 [.agg [VS ((r10.cs.getD 0 .any).toStr),(r10.cs.getD 1 .any)]] [.cells [.vec 1,VI (((o9.hO).cs.getD 1 .any).toInt)],.vec 1 ((o9.tail.hO).es)]) (fun y6 q6=>.aj ((q6.hO)=.cells (q6.hO).cs)<|.aj (ag [.vec 1,.lk (.int .i64)] ((q6.hO).cs) 0 q6.tail)<|.fail)) (NG a0_1 1 2<|NE (a0_1.ix (1:Int))<|.call 110 [.agg [VS (((a0_1.ix (1:Int)).getD 0 .any).toStr),((a0_1.ix (1:Int)).getD 1 .any)],a1,a2,.ref 0 0] [.cells [.vec 1,VI a3_1],.vec 1 e3_0] fun r11 o11=>.aj ((o11.hO)=.cells (o11.hO).cs)<|.aj (aL [.vec 1,.lk (.int .i64)] ((o11.hO).cs) 0 1 o11.tail)<|NA r11<|.call 104 [.agg [VS a0_0,a0_1]] [] fun r12 o12=>NS r12<|NG a0_1 2 2<|NE (a0_1.ix (2:Int))<|.call 110 [.agg [VS (((a0_1.ix (2:Int)).getD 0 .any).toStr),((a0_1.ix (2:Int)).getD 1 .any)],a1,a2,.ref 0 0] [.cells [.vec 1,VI (((o11.hO).cs.getD 1 .any).toInt)],.vec 1 ((o11.tail.hO).es)] fun r13 o13=>.aj ((o13.hO)=.cells (o13.hO).cs)<|.aj (aL [.vec 1,.lk (.int .i64)] ((o13.hO).cs) 0 1 o13.tail)<|NA r13<|.call 107 [VS r12.toStr,.sl [[VS ((r11.cs.getD 0 .any).toStr),(r11.cs.getD 1 .any)],[VS ((r13.cs.getD 0 .any).toStr),(r13.cs.getD 1 .any)]]] [] fun r14 o14=>NA r14<|.done 0 [.agg [VS ((r14.cs.getD 0 .any).toStr),(r14.cs.getD 1 .any)]] [.cells [.vec 1,VI (((o13.hO).cs.getD 1 .any).toInt)],.vec 1 ((o13.tail.hO).es)]))
theorem D4(a0_0:ByteArray)(a0_1:AV)(a1:AV)(a2:AV)(e3_0:List (List AV))(a3_1:Int)(ha0_1:LK.has .sl a0_1)(ha1:LK.has .sl a1)(ha2:LK.has .sl a2)(h:dj 113 (A1 a0_0 a0_1 a1 a2 e3_0 a3_1) R):an Tryz.prog 110 [.agg [VS a0_0,a0_1],a1,a2,.ref 0 0] [.cells [.vec 1,VI a3_1],.vec 1 e3_0] R :=
 an.nf (bm (bU (ah (aA _) (ah (aA _) aD))) (bm (eH _) ct)) (an.up (ah (cj (ah (aA _) (ah (bT ha0_1) aD))) (ah (bT ha1) (ah (bT ha2) (ah (aA _) aD)))) (oF G2 {mu:=[(3,.one (.obj [.vec 1,.lk (.int .i64)]))],own:=[]} Tryz.f110 h))
def E9(x1:AV)(x2:AV)(x9:Int)(o4_0:ByteArray)(o4_1:AV)(o8_0:ByteArray)(o8_1:AV)(o0_0:List (List AV))(o0_1:Int):Tree :=
 NL x1<|NL x2<|NI (VI x9)<|.aj (Ob.cells [VS o4_0,o4_1]=.cells [VS o4_0,o4_1])<|.aj (ag [.lk .str,.lk .sl] [VS o4_0,o4_1] 0 [.cells [VS o8_0,o8_1],.cells [.any,VI o0_1],.vec 1 o0_0])<|.aj (Ob.cells [VS o8_0,o8_1]=.cells [VS o8_0,o8_1])<|.aj (ag [.lk .str,.lk .sl] [VS o8_0,o8_1] 0 [.cells [.any,VI o0_1],.vec 1 o0_0])<|.aj (Ob.cells [.any,VI o0_1]=.cells [.any,VI o0_1])<|.aj (ag [.vec 1,.lk (.int .i64)] [.any,VI o0_1] 0 [.vec 1 o0_0])<|.test (decide (x9≥(0:Int))) (NG x1 x9 1<|kS (x1.ix x9)<|.test (ae (((x1.ix x9).hA).toStr)==ae o4_0) (NG x2 x9 1<|kS (x2.ix x9)<|.done 2 [] [.cells [VS (((x2.ix x9).hA).toStr),.v (.slice none 0 0)],.cells [.any,VI o0_1],.vec 1 o0_0]) (.done 0 [x1,x2,VI (IntKind.wrap .i64 (x9-1))] [.cells [VS o4_0,o4_1],.cells [VS o8_0,o8_1],.cells [.any,VI o0_1],.vec 1 o0_0])) (.done 1 [] [.cells [VS o4_0,o4_1],.cells [VS o8_0,o8_1],.cells [.any,VI o0_1],.vec 1 o0_0])
abbrev Ha:=cH Tryz.prog 113 Jb G5
theorem Io(x1:AV)(x2:AV)(x9:Int)(o4_0:ByteArray)(o4_1:AV)(o8_0:ByteArray)(o8_1:AV)(o0_0:List (List AV))(o0_1:Int)(h:mi 113 (E9 x1 x2 x9 o4_0 o4_1 o8_0 o8_1 o0_0 o0_1) Ha U):Ha [x1,x2,VI x9] [.cells [VS o4_0,o4_1],.cells [VS o8_0,o8_1],.cells [.any,VI o0_1],.vec 1 o0_0] U :=
 gQ G2 h
def Ix(x1:AV)(x2:AV)(x10:ByteArray)(o0_0:List (List AV))(o0_1:Int)(o4_0:ByteArray)(o4_1:AV)(o8_0:ByteArray)(o8_1:AV):Tree :=
 NL x1<|NL x2<|NS (VS x10)<|.aj (Ob.cells [.any,VI o0_1]=.cells [.any,VI o0_1])<|.aj (ag [.vec 1,.lk (.int .i64)] [.any,VI o0_1] 0 [.vec 1 o0_0,.cells [VS o4_0,o4_1],.cells [VS o8_0,o8_1]])<|.aj (Ob.cells [VS o4_0,o4_1]=.cells [VS o4_0,o4_1])<|.aj (ag [.lk .str,.lk .sl] [VS o4_0,o4_1] 0 [.cells [VS o8_0,o8_1]])<|.aj (Ob.cells [VS o8_0,o8_1]=.cells [VS o8_0,o8_1])<|.aj (ag [.lk .str,.lk .sl] [VS o8_0,o8_1] 0 [])<|.call 153 [.sl o0_0,VS x10] [] fun r1 o1=>NB r1<|.test r1.toBool (.call 109 [VI (IntKind.wrap .i64 (o0_1+1))] [] fun r2 o2=>NS r2<|.aj (af (mk [116])+af r2.toStr<=9223372036854775807)<|.done 0 [x1,x2,VS (((mk [116]):ByteArray)++r2.toStr)] [.cells [.any,VI (IntKind.wrap .i64 (o0_1+1))],.vec 1 o0_0,.cells [VS o4_0,o4_1],.cells [VS o8_0,o8_1]]) (.done 1 [x1,x2,VS x10] [.cells [.any,VI o0_1],.vec 1 o0_0,.cells [VS o4_0,o4_1],.cells [VS o8_0,o8_1]])
abbrev F0:=cH Tryz.prog 113 IP HA
theorem QI(x1:AV)(x2:AV)(x10:ByteArray)(o0_0:List (List AV))(o0_1:Int)(o4_0:ByteArray)(o4_1:AV)(o8_0:ByteArray)(o8_1:AV)(h:mi 113 (Ix x1 x2 x10 o0_0 o0_1 o4_0 o4_1 o8_0 o8_1) F0 U):F0 [x1,x2,VS x10] [.cells [.any,VI o0_1],.vec 1 o0_0,.cells [VS o4_0,o4_1],.cells [VS o8_0,o8_1]] U :=
 gQ G2 h
def Gf:LI:={hd:={bZ:=[(0,.k .ptr),(1,.k .sl),(5,.k (.int .i64))]},xs:={bZ:=[(0,.k .ptr)]},rt:={refs:=[(4,69)],cr:=[(69,[.lk (.int .u8),.lk .str,.lk (.int .i64),.lk .ptr,.lk .ptr])]},ex:=1}
def LY:Code:=db (cQ Tryz.f111) 7
def Mv:List (Nat×LI):=[(7,Gf)]
def E1(a0:AV)(a1:AV):Tree :=
 NZ a0<|NZ a0<|.aj (LK.has .str (a0.deref.hA)/\1<=a0.deref.length)<|.test (ae ((a0.deref.hA).toStr)==ae (mk [48])) (NZ a0<|NZ a0<|.aj (LK.has .str (a0.deref.hA)/\1<=a0.deref.length)<|.aj (0<=(0:Int)/\(0:Int)<af ((a0.deref.hA).toStr))<|.done 0 [.ptr [.v (.int .u8 (bt ((a0.deref.hA).toStr) 0)),VS (mk []),VI 0,.v (.pointer none),.v (.pointer none)]] []) (NZ a0<|NZ a0<|.aj (LK.has .str (a0.deref.hA)/\1<=a0.deref.length)<|.test (ae ((a0.deref.hA).toStr)==ae (mk [49])) (NZ a0<|NZ a0<|.aj (LK.has .str (a0.deref.hA)/\1<=a0.deref.length)<|.aj (0<=(0:Int)/\(0:Int)<af ((a0.deref.hA).toStr))<|.done 0 [.ptr [.v (.int .u8 (bt ((a0.deref.hA).toStr) 0)),VS (mk []),VI 0,.v (.pointer none),.v (.pointer none)]] []) (NZ a0<|NZ a0<|.aj (LK.has .str (a0.deref.hA)/\1<=a0.deref.length)<|.call 135 [VS ((a0.deref.hA).toStr)] [] fun r1 o1=>NB r1<|.test r1.toBool (NZ a0<|NZ a0<|.aj (LK.has .str (a0.deref.hA)/\1<=a0.deref.length)<|.done 0 [.ptr [.v (.int .u8 110),VS ((a0.deref.hA).toStr),VI 0,.v (.pointer none),.v (.pointer none)]] []) (NZ a0<|NZ a0<|.aj (LK.has .str (a0.deref.hA)/\1<=a0.deref.length)<|.call 157 [VS ((a0.deref.hA).toStr)] [] fun r2 o2=>NB r2<|.test r2.toBool (NL a1<|.loop LY Gf [a0,a1,VI (IntKind.wrap .i64 ((a1.elems.length:Int)-1))] [] (fun y3 q3=>NP (y3.hA)<|NZ (y3.hA)<|NZ (y3.hA)<|.aj (LK.has .str ((y3.hA).deref.hA)/\1<=((y3.hA).deref).length)<|.done 0 [.ptr [.v (.int .u8 110),VS (((y3.hA).deref.hA).toStr),VI 0,.v (.pointer none),.v (.pointer none)]] []) (fun y3 q3=>.aj ((q3.hO)=.cells (q3.hO).cs)<|.aj (ag [.lk (.int .u8),.lk .str,.lk (.int .i64),.lk .ptr,.lk .ptr] ((q3.hO).cs) 0 q3.tail)<|.done 0 [.ptr [.v (.int .u8 (((q3.hO).cs.getD 0 .any).toInt)),VS (((q3.hO).cs.getD 1 .any).toStr),VI (((q3.hO).cs.getD 2 .any).toInt),((q3.hO).cs.getD 3 .any),((q3.hO).cs.getD 4 .any)]] [])) (.call 98 [a0,VS (mk [43]),VI 3] [] fun r4 o4=>NB r4<|.test r4.toBool (NZ a0<|NZ a0<|oT (a0.deref.drop 1)<|NG ((a0.deref.drop 1).hA) 1 1<|dV (((a0.deref.drop 1).hA).ix (1:Int))<|.call 111 [((((a0.deref.drop 1).hA).ix (1:Int)).hA),a1] [] fun r5 o5=>NP r5<|NZ a0<|NZ a0<|oT (a0.deref.drop 1)<|NG ((a0.deref.drop 1).hA) 2 1<|dV (((a0.deref.drop 1).hA).ix (2:Int))<|.call 111 [((((a0.deref.drop 1).hA).ix (2:Int)).hA),a1] [] fun r6 o6=>NP r6<|NP r5<|.test r5.isNil (.done 0 [.v (.pointer none)] []) (NP r6<|.test r6.isNil (.done 0 [.v (.pointer none)] []) (NZ a0<|NZ a0<|oT (a0.deref.drop 1)<|NG ((a0.deref.drop 1).hA) 0 1<|dV (((a0.deref.drop 1).hA).ix (0:Int))<|NZ ((((a0.deref.drop 1).hA).ix (0:Int)).hA)<|NZ ((((a0.deref.drop 1).hA).ix (0:Int)).hA)<|.aj (LK.has .str (((((a0.deref.drop 1).hA).ix (0:Int)).hA).deref.hA)/\1<=(((((a0.deref.drop 1).hA).ix (0:Int)).hA).deref).length)<|.aj (0<=(0:Int)/\(0:Int)<af ((((((a0.deref.drop 1).hA).ix (0:Int)).hA).deref.hA).toStr))<|.done 0 [.ptr [.v (.int .u8 (bt ((((((a0.deref.drop 1).hA).ix (0:Int)).hA).deref.hA).toStr) 0)),VS (mk []),VI 0,r5,r6]] []))) (.call 98 [a0,VS (mk [42]),VI 3] [] fun r7 o7=>NB r7<|.test r7.toBool (NZ a0<|NZ a0<|oT (a0.deref.drop 1)<|NG ((a0.deref.drop 1).hA) 1 1<|dV (((a0.deref.drop 1).hA).ix (1:Int))<|.call 111 [((((a0.deref.drop 1).hA).ix (1:Int)).hA),a1] [] fun r8 o8=>NP r8<|NZ a0<|NZ a0<|oT (a0.deref.drop 1)<|NG ((a0.deref.drop 1).hA) 2 1<|dV (((a0.deref.drop 1).hA).ix (2:Int))<|.call 111 [((((a0.deref.drop 1).hA).ix (2:Int)).hA),a1] [] fun r9 o9=>NP r9<|NP r8<|.test r8.isNil (.done 0 [.v (.pointer none)] []) (NP r9<|.test r9.isNil (.done 0 [.v (.pointer none)] []) (NZ a0<|NZ a0<|oT (a0.deref.drop 1)<|NG ((a0.deref.drop 1).hA) 0 1<|dV (((a0.deref.drop 1).hA).ix (0:Int))<|NZ ((((a0.deref.drop 1).hA).ix (0:Int)).hA)<|NZ ((((a0.deref.drop 1).hA).ix (0:Int)).hA)<|.aj (LK.has .str (((((a0.deref.drop 1).hA).ix (0:Int)).hA).deref.hA)/\1<=(((((a0.deref.drop 1).hA).ix (0:Int)).hA).deref).length)<|.aj (0<=(0:Int)/\(0:Int)<af ((((((a0.deref.drop 1).hA).ix (0:Int)).hA).deref.hA).toStr))<|.done 0 [.ptr [.v (.int .u8 (bt ((((((a0.deref.drop 1).hA).ix (0:Int)).hA).deref.hA).toStr) 0)),VS (mk []),VI 0,r8,r9]] []))) (.call 98 [a0,VS (mk [114,101,99]),VI 3] [] fun r10 o10=>NB r10<|.test r10.toBool (NZ a0<|NZ a0<|oT (a0.deref.drop 1)<|NG ((a0.deref.drop 1).hA) 1 1<|dV (((a0.deref.drop 1).hA).ix (1:Int))<|NZ ((((a0.deref.drop 1).hA).ix (1:Int)).hA)<|NZ ((((a0.deref.drop 1).hA).ix (1:Int)).hA)<|.aj (LK.has .str (((((a0.deref.drop 1).hA).ix (1:Int)).hA).deref.hA)/\1<=(((((a0.deref.drop 1).hA).ix (1:Int)).hA).deref).length)<|.call 157 [VS ((((((a0.deref.drop 1).hA).ix (1:Int)).hA).deref.hA).toStr)] [] fun r11 o11=>NB r11<|.test r11.toBool (NZ a0<|NZ a0<|oT (a0.deref.drop 1)<|NG ((a0.deref.drop 1).hA) 2 1<|dV (((a0.deref.drop 1).hA).ix (2:Int))<|.aj (LK.has .sl a1/\cV 1 a1.elems/\((([]:List (List AV)).length)+a1.elems.length)*16<=140737488355328)<|NZ a0<|NZ a0<|oT (a0.deref.drop 1)<|NG ((a0.deref.drop 1).hA) 1 1<|dV (((a0.deref.drop 1).hA).ix (1:Int))<|NZ ((((a0.deref.drop 1).hA).ix (1:Int)).hA)<|NZ ((((a0.deref.drop 1).hA).ix (1:Int)).hA)<|.aj (LK.has .str (((((a0.deref.drop 1).hA).ix (1:Int)).hA).deref.hA)/\1<=(((((a0.deref.drop 1).hA).ix (1:Int)).hA).deref).length)<|.aj (cV 1 [[VS ((((((a0.deref.drop 1).hA).ix (1:Int)).hA).deref.hA).toStr)]]/\(((([]:List (List AV))++a1.elems).length)+([[VS ((((((a0.deref.drop 1).hA).ix (1:Int)).hA).deref.hA).toStr)]]:List (List AV)).length)*16<=140737488355328)<|.call 111 [((((a0.deref.drop 1).hA).ix (2:Int)).hA),.sl ((([]:List (List AV))++a1.elems)++([[VS ((((((a0.deref.drop 1).hA).ix (1:Int)).hA).deref.hA).toStr)]]:List (List AV)))] [] fun r12 o12=>NP r12<|NP r12<|.test r12.isNil (.done 0 [.v (.pointer none)] []) (.done 0 [.ptr [.v (.int .u8 114),VS (mk []),VI 0,r12,.v (.pointer none)]] [])) (.done 0 [.v (.pointer none)] [])) (.done 0 [.v (.pointer none)] [])))))))
theorem Mo(a0:AV)(a1:AV)(ha0:LK.has .ptr a0)(ha1:LK.has .sl a1)(h:dj 160 (E1 a0 a1) R):an Tryz.prog 111 [a0,a1] [] R :=
 uQ (ah (bA ha0) (ah (bT ha1) aD)) (oQ Mv Tryz.f111 h)
def ET(x0:AV)(x1:AV)(x5:Int):Tree :=
 NP x0<|NL x1<|NI (VI x5)<|.test (decide (x5≥(0:Int))) (NG x1 x5 1<|kS (x1.ix x5)<|NZ x0<|NZ x0<|.aj (LK.has .str (x0.deref.hA)/\1<=x0.deref.length)<|.test (ae (((x1.ix x5).hA).toStr)==ae ((x0.deref.hA).toStr)) (NL x1<|.done 2 [] [.cells [.v (.int .u8 98),VS (mk []),VI (IntKind.wrap .i64 ((IntKind.wrap .i64 ((x1.elems.length:Int)-1))-x5)),.v (.pointer none),.v (.pointer none)]]) (.done 0 [x0,x1,VI (IntKind.wrap .i64 (x5-1))] [])) (.done 1 [x0] [])
abbrev GC:=cH Tryz.prog 160 LY Gf
theorem IE(x0:AV)(x1:AV)(x5:Int)(h:mi 160 (ET x0 x1 x5) GC U):GC [x0,x1,VI x5] [] U :=
 gQ Mv h
def EG(a0:AV):Tree :=
 NZ a0<|NZ a0<|.aj (LK.has (.int .u8) (a0.deref.hA)/\1<=a0.deref.length)<|.test (((a0.deref.hA).toInt)==(43:Int)) (NZ a0<|NZ a0<|dV (a0.deref.drop 3)<|.call 112 [((a0.deref.drop 3).hA)] [] fun r1 o1=>NI r1<|NZ a0<|NZ a0<|dV (a0.deref.drop 4)<|.call 112 [((a0.deref.drop 4).hA)] [] fun r2 o2=>NI r2<|.done 0 [VI (IntKind.wrap .i64 ((IntKind.wrap .i64 (1+r1.toInt))+r2.toInt))] []) (.test (((a0.deref.hA).toInt)==(42:Int)) (NZ a0<|NZ a0<|dV (a0.deref.drop 3)<|.call 112 [((a0.deref.drop 3).hA)] [] fun r3 o3=>NI r3<|NZ a0<|NZ a0<|dV (a0.deref.drop 4)<|.call 112 [((a0.deref.drop 4).hA)] [] fun r4 o4=>NI r4<|.done 0 [VI (IntKind.wrap .i64 ((IntKind.wrap .i64 (1+r3.toInt))+r4.toInt))] []) (.test (((a0.deref.hA).toInt)==(114:Int)) (NZ a0<|NZ a0<|dV (a0.deref.drop 3)<|.call 112 [((a0.deref.drop 3).hA)] [] fun r5 o5=>NI r5<|.done 0 [VI (IntKind.wrap .i64 (2+r5.toInt))] []) (.done 0 [VI 1] [])))
theorem wY(a0:AV)(ha0:LK.has .ptr a0)(h:dj 30 (EG a0) R):an Tryz.prog 112 [a0] [] R :=
 uQ (ah (bA ha0) aD) (oQ [] Tryz.f112 h)
def IU(a0_0:Int)(a0_1:Bool):Tree :=
 .call 21 [VI (IntKind.wrap .i64 (a0_0+1))] [] fun r1 o1=>NS r1<|.aj (af (mk [35])+af r1.toStr<=9223372036854775807)<|.done 0 [VS (((mk [35]):ByteArray)++r1.toStr)] [.cells [VI (IntKind.wrap .i64 (a0_0+1)),VB a0_1]]
theorem Qu(a0_0:Int)(a0_1:Bool)(h:dj 16 (IU a0_0 a0_1) R):an Tryz.prog 113 [.ref 0 0] [.cells [VI a0_0,VB a0_1]] R :=
 an.nf (bm (bU (ah (aA _) (ah (AU _) aD))) ct) (an.up (ah (aA _) aD) (oF [] {mu:=[(0,.one (.obj [.lk (.int .i64),.lk .bool]))],own:=[]} Tryz.f113 h))
def MU(a0_0:Int)(a0_1:Bool)(a1:AV):Tree :=
 .test a0_1 (.done 0 [.ptr [.v (.int .u8 48),VS (mk []),VI 0,.v (.pointer none),.v (.pointer none)]] [.cells [VI a0_0,VB true]]) (.call 112 [a1] [] fun r1 o1=>NI r1<|.test (decide (r1.toInt>(400:Int))) (.done 0 [.ptr [.v (.int .u8 48),VS (mk []),VI 0,.v (.pointer none),.v (.pointer none)]] [.cells [VI a0_0,VB true]]) (.done 0 [a1] [.cells [VI a0_0,VB a0_1]]))
theorem Po(a0_0:Int)(a0_1:Bool)(a1:AV)(ha1:LK.has .ptr a1)(h:dj 20 (MU a0_0 a0_1 a1) R):an Tryz.prog 114 [.ref 0 0,a1] [.cells [VI a0_0,VB a0_1]] R :=
 an.nf (bm (bU (ah (aA _) (ah (AU _) aD))) ct) (an.up (ah (aA _) (ah (bA ha1) aD)) (oF [] {mu:=[(0,.one (.obj [.lk (.int .i64),.lk .bool]))],own:=[]} Tryz.f114 h))
def CX(a0_0:Int)(a0_1:Bool)(a1:AV)(a2:ByteArray):Tree :=
 .test a0_1 (.done 0 [.ptr [.v (.int .u8 48),VS (mk []),VI 0,.v (.pointer none),.v (.pointer none)]] [.cells [VI a0_0,VB a0_1]]) (NZ a1<|NZ a1<|.aj (LK.has (.int .u8) (a1.deref.hA)/\1<=a1.deref.length)<|.test (((a1.deref.hA).toInt)==(110:Int)) (NZ a1<|NZ a1<|kS (a1.deref.drop 1)<|.test (ae (((a1.deref.drop 1).hA).toStr)==ae a2) (.done 0 [.ptr [.v (.int .u8 49),VS (mk []),VI 0,.v (.pointer none),.v (.pointer none)]] [.cells [VI a0_0,VB a0_1]]) (.done 0 [.ptr [.v (.int .u8 48),VS (mk []),VI 0,.v (.pointer none),.v (.pointer none)]] [.cells [VI a0_0,VB a0_1]])) (.test (((a1.deref.hA).toInt)==(43:Int)) (NZ a1<|NZ a1<|dV (a1.deref.drop 3)<|.call 115 [.ref 0 0,((a1.deref.drop 3).hA),VS a2] [.cells [VI a0_0,VB a0_1]] fun r1 o1=>.aj ((o1.hO)=.cells (o1.hO).cs)<|.aj (aL [.lk (.int .i64),.lk .bool] ((o1.hO).cs) 0 1 o1.tail)<|NP r1<|NZ a1<|NZ a1<|dV (a1.deref.drop 4)<|.call 115 [.ref 0 0,((a1.deref.drop 4).hA),VS a2] [.cells [VI (((o1.hO).cs.getD 0 .any).toInt),VB (((o1.hO).cs.getD 1 .any).toBool)]] fun r2 o2=>.aj ((o2.hO)=.cells (o2.hO).cs)<|.aj (aL [.lk (.int .i64),.lk .bool] ((o2.hO).cs) 0 1 o2.tail)<|NP r2<|.call 158 [.v (.int .u8 43),r1,r2] [] fun r3 o3=>NP r3<|.call 114 [.ref 0 0,r3] [.cells [VI (((o2.hO).cs.getD 0 .any).toInt),VB (((o2.hO).cs.getD 1 .any).toBool)]] fun r4 o4=>.aj ((o4.hO)=.cells (o4.hO).cs)<|.aj (aL [.lk (.int .i64),.lk .bool] ((o4.hO).cs) 0 1 o4.tail)<|NP r4<|.done 0 [r4] [.cells [VI (((o4.hO).cs.getD 0 .any).toInt),VB (((o4.hO).cs.getD 1 .any).toBool)]]) (.test (((a1.deref.hA).toInt)==(42:Int)) (NZ a1<|NZ a1<|dV (a1.deref.drop 3)<|.call 115 [.ref 0 0,((a1.deref.drop 3).hA),VS a2] [.cells [VI a0_0,VB a0_1]] fun r5 o5=>.aj ((o5.hO)=.cells (o5.hO).cs)<|.aj (aL [.lk (.int .i64),.lk .bool] ((o5.hO).cs) 0 1 o5.tail)<|NP r5<|NZ a1<|NZ a1<|dV (a1.deref.drop 4)<|.call 158 [.v (.int .u8 42),r5,((a1.deref.drop 4).hA)] [] fun r6 o6=>NP r6<|NZ a1<|NZ a1<|dV (a1.deref.drop 3)<|NZ a1<|NZ a1<|dV (a1.deref.drop 4)<|.call 115 [.ref 0 0,((a1.deref.drop 4).hA),VS a2] [.cells [VI (((o5.hO).cs.getD 0 .any).toInt),VB (((o5.hO).cs.getD 1 .any).toBool)]] fun r7 o7=>.aj ((o7.hO)=.cells (o7.hO).cs)<|.aj (aL [.lk (.int .i64),.lk .bool] ((o7.hO).cs) 0 1 o7.tail)<|NP r7<|.call 158 [.v (.int .u8 42),((a1.deref.drop 3).hA),r7] [] fun r8 o8=>NP r8<|.call 158 [.v (.int .u8 43),r6,r8] [] fun r9 o9=>NP r9<|.call 114 [.ref 0 0,r9] [.cells [VI (((o7.hO).cs.getD 0 .any).toInt),VB (((o7.hO).cs.getD 1 .any).toBool)]] fun r10 o10=>.aj ((o10.hO)=.cells (o10.hO).cs)<|.aj (aL [.lk (.int .i64),.lk .bool] ((o10.hO).cs) 0 1 o10.tail)<|NP r10<|.done 0 [r10] [.cells [VI (((o10.hO).cs.getD 0 .any).toInt),VB (((o10.hO).cs.getD 1 .any).toBool)]]) (.test (((a1.deref.hA).toInt)==(114:Int)) (.call 113 [.ref 0 0] [.cells [VI a0_0,VB a0_1]] fun r11 o11=>.aj ((o11.hO)=.cells (o11.hO).cs)<|.aj (aL [.lk (.int .i64),.lk .bool] ((o11.hO).cs) 0 1 o11.tail)<|NS r11<|NZ a1<|NZ a1<|dV (a1.deref.drop 3)<|.call 116 [((a1.deref.drop 3).hA),.ptr [.v (.int .u8 110),VS r11.toStr,VI 0,.v (.pointer none),.v (.pointer none)],VI 0] [] fun r12 o12=>NP r12<|.call 115 [.ref 0 0,r12,VS a2] [.cells [VI (((o11.hO).cs.getD 0 .any).toInt),VB (((o11.hO).cs.getD 1 .any).toBool)]] fun r13 o13=>.aj ((o13.hO)=.cells (o13.hO).cs)<|.aj (aL [.lk (.int .i64),.lk .bool] ((o13.hO).cs) 0 1 o13.tail)<|NP r13<|.call 114 [.ref 0 0,r13] [.cells [VI (((o13.hO).cs.getD 0 .any).toInt),VB (((o13.hO).cs.getD 1 .any).toBool)]] fun r14 o14=>.aj ((o14.hO)=.cells (o14.hO).cs)<|.aj (aL [.lk (.int .i64),.lk .bool] ((o14.hO).cs) 0 1 o14.tail)<|NP r14<|.call 117 [r14,VS r11.toStr,a1] [] fun r15 o15=>NP r15<|.call 115 [.ref 0 0,r12,VS r11.toStr] [.cells [VI (((o14.hO).cs.getD 0 .any).toInt),VB (((o14.hO).cs.getD 1 .any).toBool)]] fun r16 o16=>.aj ((o16.hO)=.cells (o16.hO).cs)<|.aj (aL [.lk (.int .i64),.lk .bool] ((o16.hO).cs) 0 1 o16.tail)<|NP r16<|.call 114 [.ref 0 0,r16] [.cells [VI (((o16.hO).cs.getD 0 .any).toInt),VB (((o16.hO).cs.getD 1 .any).toBool)]] fun r17 o17=>.aj ((o17.hO)=.cells (o17.hO).cs)<|.aj (aL [.lk (.int .i64),.lk .bool] ((o17.hO).cs) 0 1 o17.tail)<|NP r17<|.call 117 [r17,VS r11.toStr,a1] [] fun r18 o18=>NP r18<|.call 158 [.v (.int .u8 42),r18,.ptr [.v (.int .u8 98),VS (mk []),VI 0,.v (.pointer none),.v (.pointer none)]] [] fun r19 o19=>NP r19<|.call 158 [.v (.int .u8 43),r15,r19] [] fun r20 o20=>NP r20<|.call 114 [.ref 0 0,.ptr [.v (.int .u8 114),VS (mk []),VI 0,r20,.v (.pointer none)]] [.cells [VI (((o17.hO).cs.getD 0 .any).toInt),VB (((o17.hO).cs.getD 1 .any).toBool)]] fun r21 o21=>.aj ((o21.hO)=.cells (o21.hO).cs)<|.aj (aL [.lk (.int .i64),.lk .bool] ((o21.hO).cs) 0 1 o21.tail)<|NP r21<|.done 0 [r21] [.cells [VI (((o21.hO).cs.getD 0 .any).toInt),VB (((o21.hO).cs.getD 1 .any).toBool)]]) (.done 0 [.ptr [.v (.int .u8 48),VS (mk []),VI 0,.v (.pointer none),.v (.pointer none)]] [.cells [VI a0_0,VB a0_1]])))))
theorem MG(a0_0:Int)(a0_1:Bool)(a1:AV)(a2:ByteArray)(ha1:LK.has .ptr a1)(h:dj 121 (CX a0_0 a0_1 a1 a2) R):an Tryz.prog 115 [.ref 0 0,a1,VS a2] [.cells [VI a0_0,VB a0_1]] R :=
 an.nf (bm (bU (ah (aA _) (ah (AU _) aD))) ct) (an.up (ah (aA _) (ah (bA ha1) (ah (aA _) aD))) (oF [] {mu:=[(0,.one (.obj [.lk (.int .i64),.lk .bool]))],own:=[]} Tryz.f115 h))
def Eu(a0:AV)(a1:AV)(a2:Int):Tree :=
 NZ a0<|NZ a0<|.aj (LK.has (.int .u8) (a0.deref.hA)/\1<=a0.deref.length)<|.test (((a0.deref.hA).toInt)==(98:Int)) (NZ a0<|NZ a0<|.aj (LK.has (.int .i64) ((a0.deref.drop 2).hA)/\1<=(a0.deref.drop 2).length)<|.test ((((a0.deref.drop 2).hA).toInt)==a2) (.done 0 [a1] []) (.done 0 [a0] [])) (.test (((a0.deref.hA).toInt)==(43:Int)) (NZ a0<|NZ a0<|.aj (LK.has (.int .u8) (a0.deref.hA)/\1<=a0.deref.length)<|NZ a0<|NZ a0<|dV (a0.deref.drop 3)<|.call 116 [((a0.deref.drop 3).hA),a1,VI a2] [] fun r1 o1=>NP r1<|NZ a0<|NZ a0<|dV (a0.deref.drop 4)<|.call 116 [((a0.deref.drop 4).hA),a1,VI a2] [] fun r2 o2=>NP r2<|.done 0 [.ptr [.v (.int .u8 ((a0.deref.hA).toInt)),VS (mk []),VI 0,r1,r2]] []) (.test (((a0.deref.hA).toInt)==(42:Int)) (NZ a0<|NZ a0<|.aj (LK.has (.int .u8) (a0.deref.hA)/\1<=a0.deref.length)<|NZ a0<|NZ a0<|dV (a0.deref.drop 3)<|.call 116 [((a0.deref.drop 3).hA),a1,VI a2] [] fun r3 o3=>NP r3<|NZ a0<|NZ a0<|dV (a0.deref.drop 4)<|.call 116 [((a0.deref.drop 4).hA),a1,VI a2] [] fun r4 o4=>NP r4<|.done 0 [.ptr [.v (.int .u8 ((a0.deref.hA).toInt)),VS (mk []),VI 0,r3,r4]] []) (.test (((a0.deref.hA).toInt)==(114:Int)) (NZ a0<|NZ a0<|dV (a0.deref.drop 3)<|.call 116 [((a0.deref.drop 3).hA),a1,VI (IntKind.wrap .i64 (a2+1))] [] fun r5 o5=>NP r5<|.done 0 [.ptr [.v (.int .u8 114),VS (mk []),VI 0,r5,.v (.pointer none)]] []) (.done 0 [a0] []))))
theorem Ff(a0:AV)(a1:AV)(a2:Int)(ha0:LK.has .ptr a0)(ha1:LK.has .ptr a1)(h:dj 56 (Eu a0 a1 a2) R):an Tryz.prog 116 [a0,a1,VI a2] [] R :=
 uQ (ah (bA ha0) (ah (bA ha1) (ah (aA _) aD))) (oQ [] Tryz.f116 h)
def Ej(a0:AV)(a1:ByteArray)(a2:AV):Tree :=
 NZ a0<|NZ a0<|.aj (LK.has (.int .u8) (a0.deref.hA)/\1<=a0.deref.length)<|.test (((a0.deref.hA).toInt)==(110:Int)) (NZ a0<|NZ a0<|kS (a0.deref.drop 1)<|.test (ae (((a0.deref.drop 1).hA).toStr)==ae a1) (.done 0 [a2] []) (.done 0 [a0] [])) (.test (((a0.deref.hA).toInt)==(43:Int)) (NZ a0<|NZ a0<|.aj (LK.has (.int .u8) (a0.deref.hA)/\1<=a0.deref.length)<|NZ a0<|NZ a0<|dV (a0.deref.drop 3)<|.call 117 [((a0.deref.drop 3).hA),VS a1,a2] [] fun r1 o1=>NP r1<|NZ a0<|NZ a0<|dV (a0.deref.drop 4)<|.call 117 [((a0.deref.drop 4).hA),VS a1,a2] [] fun r2 o2=>NP r2<|.done 0 [.ptr [.v (.int .u8 ((a0.deref.hA).toInt)),VS (mk []),VI 0,r1,r2]] []) (.test (((a0.deref.hA).toInt)==(42:Int)) (NZ a0<|NZ a0<|.aj (LK.has (.int .u8) (a0.deref.hA)/\1<=a0.deref.length)<|NZ a0<|NZ a0<|dV (a0.deref.drop 3)<|.call 117 [((a0.deref.drop 3).hA),VS a1,a2] [] fun r3 o3=>NP r3<|NZ a0<|NZ a0<|dV (a0.deref.drop 4)<|.call 117 [((a0.deref.drop 4).hA),VS a1,a2] [] fun r4 o4=>NP r4<|.done 0 [.ptr [.v (.int .u8 ((a0.deref.hA).toInt)),VS (mk []),VI 0,r3,r4]] []) (.test (((a0.deref.hA).toInt)==(114:Int)) (NZ a0<|NZ a0<|dV (a0.deref.drop 3)<|.call 117 [((a0.deref.drop 3).hA),VS a1,a2] [] fun r5 o5=>NP r5<|.done 0 [.ptr [.v (.int .u8 114),VS (mk []),VI 0,r5,.v (.pointer none)]] []) (.done 0 [a0] []))))
theorem wR(a0:AV)(a1:ByteArray)(a2:AV)(ha0:LK.has .ptr a0)(ha2:LK.has .ptr a2)(h:dj 55 (Ej a0 a1 a2) R):an Tryz.prog 117 [a0,VS a1,a2] [] R :=
 uQ (ah (bA ha0) (ah (aA _) (ah (bA ha2) aD))) (oQ [] Tryz.f117 h)
def KB(a0:AV):Tree :=
 .call 159 [a0] [] fun r1 o1=>NL r1<|.call 160 [a0,.v (.slice none 0 0),.fm 160 [none,some 0,some 1],.ref 0 0,.ref 1 0] [.cells [r1],.cells [VI 0]] fun r2 o2=>.aj ((o2.hO)=.cells (o2.hO).cs)<|.aj (aL [.lk .sl] ((o2.hO).cs) 0 1 o2.tail)<|.aj ((o2.tail.hO)=.cells (o2.tail.hO).cs)<|.aj (aL [.lk (.int .i64)] ((o2.tail.hO).cs) 0 2 o2.tail.tail)<|NS r2<|.done 0 [VS r2.toStr] []
theorem O5(a0:AV)(ha0:LK.has .ptr a0)(h:dj 12 (KB a0) R):an Tryz.prog 118 [a0] [] R :=
 uQ (ah (bA ha0) aD) (oQ [] Tryz.f118 h)
def K8(a0:AV):Tree :=
 .call 159 [a0] [] fun r1 o1=>NL r1<|.call 162 [r1,.v (.func (.func 157) #[] #[])] [] fun r2 o2=>NB r2<|.done 0 [VB (!r2.toBool)] []
theorem Py(a0:AV)(ha0:LK.has .ptr a0)(h:dj 7 (K8 a0) R):an Tryz.prog 119 [a0] [] R :=
 uQ (ah (bA ha0) aD) (oQ [] Tryz.f119 h)
def G6:LI:={hd:={bZ:=[(3,.k .ptr),(10,.k (.int .i64)),(11,.k (.int .i64))]},xs:={bZ:=[(3,.k .ptr)]},rt:={},ex:=0}
def Lf:Code:=db (cQ Tryz.f121) 3
def No:List (Nat×LI):=[(3,G6)]
def GJ(a0_0:AV)(a0_1:AV):Tree :=
 NZ a0_0<|NZ a0_0<|.aj (LK.has (.int .i64) ((a0_0.deref.drop 2).hA)/\1<=(a0_0.deref.drop 2).length)<|.loop Lf G6 [a0_1,VI (((a0_0.deref.drop 2).hA).toInt),VI 0] [] (fun y1 q1=>NP (y1.hA)<|NZ (y1.hA)<|NZ (y1.hA)<|.aj (LK.has .ptr ((y1.hA).deref.hA)/\1<=((y1.hA).deref).length)<|.done 0 [((y1.hA).deref.hA)] []) (fun y1 q1=>.done 0 [.any] [])
theorem IG(a0_0:AV)(a0_1:AV)(ha0_0:LK.has .ptr a0_0)(ha0_1:LK.has .ptr a0_1)(h:dj 22 (GJ a0_0 a0_1) R):an Tryz.prog 121 [.agg [a0_0,a0_1]] [] R :=
 uQ (ah (cj (ah (bA ha0_0) (ah (bA ha0_1) aD))) aD) (oQ No Tryz.f121 h)
def Ax(x3:AV)(x10:Int)(x11:Int):Tree :=
 NP x3<|NI (VI x10)<|NI (VI x11)<|.test (decide (x11<x10)) (NZ x3<|NZ x3<|dV (x3.deref.drop 1)<|.done 0 [((x3.deref.drop 1).hA),VI x10,VI (IntKind.wrap .i64 (x11+1))] []) (.done 1 [x3] [])
abbrev Cg:=cH Tryz.prog 22 Lf G6
theorem CE(x3:AV)(x10:Int)(x11:Int)(h:mi 22 (Ax x3 x10 x11) Cg U):Cg [x3,VI x10,VI x11] [] U :=
 gQ No h
def Kx(a0:ByteArray):Tree :=
 .call 101 [VS a0] [] fun r1 o1=>NT r1<|.aj ((r1.comp 0)=.agg (r1.comp 0).cs/\(r1.comp 0).cs.length=2/\bF [.str,.sl] ((r1.comp 0).cs) 0)<|NB (r1.comp 1)<|.test (!((r1.comp 1).toBool)) (.done 0 [.cy [VS (mk []),VB false]] []) (.call 104 [.agg [VS (((r1.comp 0).cs.getD 0 .any).toStr),((r1.comp 0).cs.getD 1 .any)]] [] fun r2 o2=>NS r2<|.test (!(ae r2.toStr==ae (mk [114,101,99]))) (.done 0 [.cy [VS (mk []),VB false]] []) (.call 165 [.agg [VS (((r1.comp 0).cs.getD 0 .any).toStr),((r1.comp 0).cs.getD 1 .any)]] [] fun r3 o3=>NT r3<|.aj ((r3.comp 0)=.agg (r3.comp 0).cs/\(r3.comp 0).cs.length=2/\bF [.str,.sl] ((r3.comp 0).cs) 0)<|NB (r3.comp 1)<|.test (!((r3.comp 1).toBool)) (.done 0 [.cy [VS (mk []),VB false]] []) (.call 166 [.agg [VS (((r3.comp 0).cs.getD 0 .any).toStr),((r3.comp 0).cs.getD 1 .any)]] [] fun r4 o4=>NT r4<|NS (r4.comp 0)<|NB (r4.comp 1)<|.done 0 [.cy [VS ((r4.comp 0).toStr),VB ((r4.comp 1).toBool)]] [])))
theorem Pe(a0:ByteArray)(h:dj 31 (Kx a0) R):an Tryz.prog 122 [VS a0] [] R :=
 uQ (ah (aA _) aD) (oQ [] Tryz.f122 h)
def JW(a0:ByteArray):Tree :=
 .call 54 [VS a0] [] fun r1 o1=>NT r1<|.aj ((r1.comp 0)=.agg (r1.comp 0).cs/\(r1.comp 0).cs.length=2/\bF [.str,.sl] ((r1.comp 0).cs) 0)<|NB (r1.comp 1)<|.test ((r1.comp 1).toBool) (.call 104 [.agg [VS (((r1.comp 0).cs.getD 0 .any).toStr),((r1.comp 0).cs.getD 1 .any)]] [] fun r2 o2=>NS r2<|.done 0 [.cy [.agg [VS (((r1.comp 0).cs.getD 0 .any).toStr),((r1.comp 0).cs.getD 1 .any)],VB (ae r2.toStr==ae (mk [114,101,99]))]] []) (.done 0 [.cy [.agg [VS (((r1.comp 0).cs.getD 0 .any).toStr),((r1.comp 0).cs.getD 1 .any)],VB false]] [])
theorem Ph(a0:ByteArray)(h:dj 18 (JW a0) R):an Tryz.prog 123 [VS a0] [] R :=
 uQ (ah (aA _) aD) (oQ [] Tryz.f123 h)
def LM(a0:ByteArray)(a1:ByteArray)(a2:Int):Tree :=
 .call 54 [VS a0] [] fun r1 o1=>NT r1<|.aj ((r1.comp 0)=.agg (r1.comp 0).cs/\(r1.comp 0).cs.length=2/\bF [.str,.sl] ((r1.comp 0).cs) 0)<|NB (r1.comp 1)<|.call 167 [VS a1] [] fun r2 o2=>NT r2<|.aj ((r2.comp 0)=.agg (r2.comp 0).cs/\(r2.comp 0).cs.length=2/\bF [.str,.sl] ((r2.comp 0).cs) 0)<|NB (r2.comp 1)<|.test ((r1.comp 1).toBool) (.test ((r2.comp 1).toBool) (.call 168 [VI a2,VI 0,VI 100] [] fun r3 o3=>NB r3<|.test r3.toBool (.call 169 [.agg [VS (((r1.comp 0).cs.getD 0 .any).toStr),((r1.comp 0).cs.getD 1 .any)],.sl [],.agg [VS (((r2.comp 0).cs.getD 0 .any).toStr),((r2.comp 0).cs.getD 1 .any)],VI a2] [] fun r4 o4=>NB r4<|.done 0 [VB r4.toBool] []) (.done 0 [VB false] [])) (.done 0 [VB false] [])) (.done 0 [VB false] [])
theorem OS(a0:ByteArray)(a1:ByteArray)(a2:Int)(h:dj 36 (LM a0 a1 a2) R):an Tryz.prog 124 [VS a0,VS a1,VI a2] [] R :=
 uQ (ah (aA _) (ah (aA _) (ah (aA _) aD))) (oQ [] Tryz.f124 h)
def Im(a0_0:ByteArray)(a0_1:AV)(a0_2:ByteArray):Tree :=
 NL a0_1<|.test ((a0_1.elems.length:Int)==(0:Int)) (.done 0 [.cy [.agg [VS a0_0,a0_1,VS a0_2],VB false]] []) (.aj (LK.has .sl a0_1/\0<=(IntKind.wrap .i64 ((a0_1.elems.length:Int)-1))/\(IntKind.wrap .i64 ((a0_1.elems.length:Int)-1))<a0_1.elems.length/\(a0_1.ix (IntKind.wrap .i64 ((a0_1.elems.length:Int)-1))).length=1)<|kS (a0_1.ix (IntKind.wrap .i64 ((a0_1.elems.length:Int)-1)))<|.call 170 [VS a0_0,VS (((a0_1.ix (IntKind.wrap .i64 ((a0_1.elems.length:Int)-1))).hA).toStr),VS a0_2] [] fun r1 o1=>NT r1<|NS (r1.comp 0)<|NB (r1.comp 1)<|.aj (LK.has .sl a0_1/\0<=(0:Int)/\(0:Int)<=(IntKind.wrap .i64 ((a0_1.elems.length:Int)-1))/\(IntKind.wrap .i64 ((a0_1.elems.length:Int)-1))<=(a0_1.elems.length:Int))<|.aj (cV 1 ((a0_1.elems.take (bq (IntKind.wrap .i64 ((a0_1.elems.length:Int)-1)))).drop (bq 0))/\((([]:List (List AV)).length)+((a0_1.elems.take (bq (IntKind.wrap .i64 ((a0_1.elems.length:Int)-1)))).drop (bq 0)).length)*16<=140737488355328)<|.done 0 [.cy [.agg [VS a0_0,.sl (([]:List (List AV))++((a0_1.elems.take (bq (IntKind.wrap .i64 ((a0_1.elems.length:Int)-1)))).drop (bq 0))),VS ((r1.comp 0).toStr)],VB ((r1.comp 1).toBool)]] [])
theorem ND(a0_0:ByteArray)(a0_1:AV)(a0_2:ByteArray)(ha0_1:LK.has .sl a0_1)(h:dj 39 (Im a0_0 a0_1 a0_2) R):an Tryz.prog 125 [.agg [VS a0_0,a0_1,VS a0_2]] [] R :=
 uQ (ah (cj (ah (aA _) (ah (bT ha0_1) (ah (aA _) aD)))) aD) (oQ [] Tryz.f125 h)
def HX(a0:ByteArray):Tree :=
 .call 186 [VS a0,VS (mk [120,121,122])] [] fun r1 o1=>NB r1<|.done 0 [VB r1.toBool] []
theorem Oq(a0:ByteArray)(h:dj 5 (HX a0) R):an Tryz.prog 135 [VS a0] [] R :=
 uQ (ah (aA _) aD) (oQ [] Tryz.f135 h)
def AR(a0_0:AV)(a0_1:AV)(a1:AV)(a2_0:ByteArray)(a2_1:AV)(a3:AV):Tree :=
 NZ a0_0<|NZ a0_0<|.aj (LK.has (.int .u8) (a0_0.deref.hA)/\1<=a0_0.deref.length)<|.test (((a0_0.deref.hA).toInt)==(43:Int)) (.call 87 [.agg [a0_0,a0_1]] [] fun r1 o1=>.aj (r1=.agg r1.cs/\r1.cs.length=2/\bF [.ptr,.ptr] r1.cs 0)<|NZ a1<|NZ a1<|.aj (LK.has (.int .u8) (a1.deref.hA)/\1<=a1.deref.length)<|.test (((a1.deref.hA).toInt)==(114:Int)) (.call 88 [.agg [a0_0,a0_1]] [] fun r2 o2=>.aj (r2=.agg r2.cs/\r2.cs.length=2/\bF [.ptr,.ptr] r2.cs 0)<|NZ a1<|NZ a1<|.aj (LK.has (.int .u8) (a1.deref.hA)/\1<=a1.deref.length)<|NZ a1<|NZ a1<|dV (a1.deref.drop 2)<|.call 148 [.agg [(r2.cs.getD 0 .any),(r2.cs.getD 1 .any)],((a1.deref.drop 2).hA),.agg [VS a2_0,a2_1],a3] [] fun r3 o3=>NP r3<|.call 90 [.v (.int .u8 ((a1.deref.hA).toInt)),r3] [] fun r4 o4=>NP r4<|.done 0 [r4] []) (NZ a1<|NZ a1<|.aj (LK.has (.int .u8) (a1.deref.hA)/\1<=a1.deref.length)<|NZ a1<|NZ a1<|dV (a1.deref.drop 2)<|.call 148 [.agg [(r1.cs.getD 0 .any),(r1.cs.getD 1 .any)],((a1.deref.drop 2).hA),.agg [VS a2_0,a2_1],a3] [] fun r5 o5=>NP r5<|.call 90 [.v (.int .u8 ((a1.deref.hA).toInt)),r5] [] fun r6 o6=>NP r6<|.done 0 [r6] [])) (.test (((a0_0.deref.hA).toInt)==(42:Int)) (NZ a1<|NZ a1<|.aj (LK.has (.int .u8) (a1.deref.hA)/\1<=a1.deref.length)<|.test (((a1.deref.hA).toInt)==(108:Int)) (.call 87 [.agg [a0_0,a0_1]] [] fun r7 o7=>.aj (r7=.agg r7.cs/\r7.cs.length=2/\bF [.ptr,.ptr] r7.cs 0)<|NZ a1<|NZ a1<|dV (a1.deref.drop 2)<|NZ ((a1.deref.drop 2).hA)<|NZ ((a1.deref.drop 2).hA)<|dV (((a1.deref.drop 2).hA).deref.drop 2)<|.call 148 [.agg [(r7.cs.getD 0 .any),(r7.cs.getD 1 .any)],((((a1.deref.drop 2).hA).deref.drop 2).hA),.agg [VS a2_0,a2_1],a3] [] fun r8 o8=>NP r8<|NZ a1<|NZ a1<|dV (a1.deref.drop 2)<|NZ ((a1.deref.drop 2).hA)<|NZ ((a1.deref.drop 2).hA)<|dV (((a1.deref.drop 2).hA).deref.drop 3)<|.call 92 [r8,((((a1.deref.drop 2).hA).deref.drop 3).hA)] [] fun r9 o9=>NP r9<|.done 0 [r9] []) (NZ a1<|NZ a1<|dV (a1.deref.drop 2)<|NZ ((a1.deref.drop 2).hA)<|NZ ((a1.deref.drop 2).hA)<|dV (((a1.deref.drop 2).hA).deref.drop 2)<|.call 88 [.agg [a0_0,a0_1]] [] fun r10 o10=>.aj (r10=.agg r10.cs/\r10.cs.length=2/\bF [.ptr,.ptr] r10.cs 0)<|NZ a1<|NZ a1<|dV (a1.deref.drop 2)<|NZ ((a1.deref.drop 2).hA)<|NZ ((a1.deref.drop 2).hA)<|dV (((a1.deref.drop 2).hA).deref.drop 3)<|.call 148 [.agg [(r10.cs.getD 0 .any),(r10.cs.getD 1 .any)],((((a1.deref.drop 2).hA).deref.drop 3).hA),.agg [VS a2_0,a2_1],a3] [] fun r11 o11=>NP r11<|.call 92 [((((a1.deref.drop 2).hA).deref.drop 2).hA),r11] [] fun r12 o12=>NP r12<|.done 0 [r12] [])) (.test (((a0_0.deref.hA).toInt)==(114:Int)) (.call 48 [.agg [a0_0,a0_1]] [] fun r13 o13=>NT r13<|.aj ((r13.comp 0)=.agg (r13.comp 0).cs/\(r13.comp 0).cs.length=2/\bF [.ptr,.ptr] ((r13.comp 0).cs) 0)<|NP (r13.comp 1)<|NZ a1<|NZ a1<|dV (a1.deref.drop 2)<|NZ ((a1.deref.drop 2).hA)<|NZ ((a1.deref.drop 2).hA)<|.aj (LK.has (.int .u8) (((a1.deref.drop 2).hA).deref.hA)/\1<=(((a1.deref.drop 2).hA).deref).length)<|.test (((((a1.deref.drop 2).hA).deref.hA).toInt)==(108:Int)) (NZ a1<|NZ a1<|dV (a1.deref.drop 2)<|NZ ((a1.deref.drop 2).hA)<|NZ ((a1.deref.drop 2).hA)<|dV (((a1.deref.drop 2).hA).deref.drop 2)<|.call 148 [.agg [((r13.comp 0).cs.getD 0 .any),((r13.comp 0).cs.getD 1 .any)],((((a1.deref.drop 2).hA).deref.drop 2).hA),.agg [VS a2_0,a2_1],a3] [] fun r14 o14=>NP r14<|.call 90 [.v (.int .u8 102),r14] [] fun r15 o15=>NP r15<|.done 0 [r15] []) (NZ a1<|NZ a1<|dV (a1.deref.drop 2)<|NZ ((a1.deref.drop 2).hA)<|NZ ((a1.deref.drop 2).hA)<|dV (((a1.deref.drop 2).hA).deref.drop 2)<|NZ ((((a1.deref.drop 2).hA).deref.drop 2).hA)<|NZ ((((a1.deref.drop 2).hA).deref.drop 2).hA)<|dV (((((a1.deref.drop 2).hA).deref.drop 2).hA).deref.drop 3)<|.call 148 [.agg [a0_0,a0_1],((((((a1.deref.drop 2).hA).deref.drop 2).hA).deref.drop 3).hA),.agg [VS a2_0,a2_1],a3] [] fun r16 o16=>NP r16<|NZ a1<|NZ a1<|dV (a1.deref.drop 2)<|NZ ((a1.deref.drop 2).hA)<|NZ ((a1.deref.drop 2).hA)<|dV (((a1.deref.drop 2).hA).deref.drop 2)<|NZ ((((a1.deref.drop 2).hA).deref.drop 2).hA)<|NZ ((((a1.deref.drop 2).hA).deref.drop 2).hA)<|dV (((((a1.deref.drop 2).hA).deref.drop 2).hA).deref.drop 2)<|.call 148 [.agg [((r13.comp 0).cs.getD 0 .any),((r13.comp 0).cs.getD 1 .any)],((((((a1.deref.drop 2).hA).deref.drop 2).hA).deref.drop 2).hA),.agg [VS (mk []),(r13.comp 1)],r16] [] fun r17 o17=>NP r17<|.call 90 [.v (.int .u8 102),r17] [] fun r18 o18=>NP r18<|.done 0 [r18] [])) (.done 0 [a3] [])))
theorem OC(a0_0:AV)(a0_1:AV)(a1:AV)(a2_0:ByteArray)(a2_1:AV)(a3:AV)(ha0_0:LK.has .ptr a0_0)(ha0_1:LK.has .ptr a0_1)(ha1:LK.has .ptr a1)(ha2_1:LK.has .ptr a2_1)(ha3:LK.has .ptr a3)(h:dj 147 (AR a0_0 a0_1 a1 a2_0 a2_1 a3) R):an Tryz.prog 148 [.agg [a0_0,a0_1],a1,.agg [VS a2_0,a2_1],a3] [] R :=
 uQ (ah (cj (ah (bA ha0_0) (ah (bA ha0_1) aD))) (ah (bA ha1) (ah (cj (ah (aA _) (ah (bA ha2_1) aD))) (ah (bA ha3) aD)))) (oQ [] Tryz.f148 h)
def KU(a0:Int):Tree :=
 .test (decide (a0≥(97:Int))) (.test (decide (a0<=(122:Int))) (.done 0 [VB true] []) (.test (decide (a0≥(48:Int))) (.test (decide (a0<=(57:Int))) (.done 0 [VB true] []) (.test (a0==(43:Int)) (.done 0 [VB true] []) (.done 0 [VB (a0==(42:Int))] []))) (.test (a0==(43:Int)) (.done 0 [VB true] []) (.done 0 [VB (a0==(42:Int))] [])))) (.test (decide (a0≥(48:Int))) (.test (decide (a0<=(57:Int))) (.done 0 [VB true] []) (.test (a0==(43:Int)) (.done 0 [VB true] []) (.done 0 [VB (a0==(42:Int))] []))) (.test (a0==(43:Int)) (.done 0 [VB true] []) (.done 0 [VB (a0==(42:Int))] [])))
theorem Qx(a0:Int)(h:dj 25 (KU a0) R):an Tryz.prog 149 [.v (.int .u8 a0)] [] R :=
 uQ (ah (aA _) aD) (oQ [] Tryz.f149 h)
def Jh(a0:AV)(a1:ByteArray):Tree :=
 .aj (LK.has .sl a0/\cV 1 a0.elems/\((([]:List (List AV)).length)+a0.elems.length)*16<=140737488355328)<|.aj (cV 1 [[VS a1]]/\(((([]:List (List AV))++a0.elems).length)+([[VS a1]]:List (List AV)).length)*16<=140737488355328)<|.done 0 [.vec 0] [.vec 1 ((([]:List (List AV))++a0.elems)++([[VS a1]]:List (List AV)))]
theorem P1(a0:AV)(a1:ByteArray)(ha0:LK.has .sl a0)(h:dj 11 (Jh a0 a1) R):an Tryz.prog 150 [a0,VS a1] [] R :=
 uQ (ah (bT ha0) (ah (aA _) aD)) (oF [] {mu:=[],own:=[0]} Tryz.f150 h)
def J2(a0:ByteArray):Tree :=
 .test (decide ((af a0:Int)>(8000:Int))) (.done 0 [.cy [.agg [VS (mk []),.v (.slice none 0 0)],VB false]] []) (.call 194 [VS a0,VI 0,VI 0] [] fun r1 o1=>NT r1<|.aj ((r1.comp 0)=.agg (r1.comp 0).cs/\(r1.comp 0).cs.length=2/\bF [.str,.sl] ((r1.comp 0).cs) 0)<|NI (r1.comp 1)<|.done 0 [.cy [.agg [VS (((r1.comp 0).cs.getD 0 .any).toStr),((r1.comp 0).cs.getD 1 .any)],VB (((r1.comp 1).toInt)==(af a0:Int))]] [])
theorem PT(a0:ByteArray)(h:dj 20 (J2 a0) R):an Tryz.prog 151 [VS a0] [] R :=
 uQ (ah (aA _) aD) (oQ [] Tryz.f151 h)
def wI(a0_0:ByteArray)(a0_1:AV):Tree :=
 .test (!(ae a0_0==ae (mk []))) (.test (ae a0_0==ae (mk [48])) (.done 0 [VB true] []) (.test (ae a0_0==ae (mk [49])) (.done 0 [VB true] []) (.call 195 [VS a0_0] [] fun r1 o1=>NB r1<|.test r1.toBool (.done 0 [VB true] []) (.call 103 [VS a0_0] [] fun r2 o2=>NB r2<|.done 0 [VB r2.toBool] [])))) (NL a0_1<|.test ((a0_1.elems.length:Int) != (3:Int)) (.done 0 [VB false] []) (.call 104 [.agg [VS a0_0,a0_1]] [] fun r3 o3=>NS r3<|.test (ae r3.toStr==ae (mk [43])) (NG a0_1 1 2<|NE (a0_1.ix (1:Int))<|.call 152 [.agg [VS (((a0_1.ix (1:Int)).getD 0 .any).toStr),((a0_1.ix (1:Int)).getD 1 .any)]] [] fun r4 o4=>NB r4<|.test r4.toBool (NG a0_1 2 2<|NE (a0_1.ix (2:Int))<|.call 152 [.agg [VS (((a0_1.ix (2:Int)).getD 0 .any).toStr),((a0_1.ix (2:Int)).getD 1 .any)]] [] fun r5 o5=>NB r5<|.done 0 [VB r5.toBool] []) (.done 0 [VB false] [])) (.test (ae r3.toStr==ae (mk [42])) (NG a0_1 1 2<|NE (a0_1.ix (1:Int))<|.call 152 [.agg [VS (((a0_1.ix (1:Int)).getD 0 .any).toStr),((a0_1.ix (1:Int)).getD 1 .any)]] [] fun r6 o6=>NB r6<|.test r6.toBool (NG a0_1 2 2<|NE (a0_1.ix (2:Int))<|.call 152 [.agg [VS (((a0_1.ix (2:Int)).getD 0 .any).toStr),((a0_1.ix (2:Int)).getD 1 .any)]] [] fun r7 o7=>NB r7<|.done 0 [VB r7.toBool] []) (.done 0 [VB false] [])) (.test (ae r3.toStr==ae (mk [114,101,99])) (NG a0_1 1 2<|kS (a0_1.ix (1:Int))<|.call 103 [VS (((a0_1.ix (1:Int)).hA).toStr)] [] fun r8 o8=>NB r8<|.test r8.toBool (NG a0_1 2 2<|NE (a0_1.ix (2:Int))<|.call 152 [.agg [VS (((a0_1.ix (2:Int)).getD 0 .any).toStr),((a0_1.ix (2:Int)).getD 1 .any)]] [] fun r9 o9=>NB r9<|.done 0 [VB r9.toBool] []) (.done 0 [VB false] [])) (.done 0 [VB false] [])))))
theorem I5(a0_0:ByteArray)(a0_1:AV)(ha0_1:LK.has .sl a0_1)(h:dj 60 (wI a0_0 a0_1) R):an Tryz.prog 152 [.agg [VS a0_0,a0_1]] [] R :=
 uQ (ah (cj (ah (aA _) (ah (bT ha0_1) aD))) aD) (oQ [] Tryz.f152 h)
def HO:LI:={hd:={bZ:=[(0,.k .sl),(1,.k .str),(5,.k (.int .i64))]},xs:={},rt:={bZ:=[(4,.k .bool)]},ex:=0}
def Nd:Code:=db (cQ Tryz.f153) 2
def Kf:List (Nat×LI):=[(2,HO)]
def Kj(a0:AV)(a1:ByteArray):Tree :=
 .loop Nd HO [a0,VS a1,VI 0] [] (fun y1 q1=>.done 0 [VB false] []) (fun y1 q1=>NB (y1.hA)<|.done 0 [VB ((y1.hA).toBool)] [])
theorem Oa(a0:AV)(a1:ByteArray)(ha0:LK.has .sl a0)(h:dj 18 (Kj a0 a1) R):an Tryz.prog 153 [a0,VS a1] [] R :=
 uQ (ah (bT ha0) (ah (aA _) aD)) (oQ Kf Tryz.f153 h)
def FI(x0:AV)(x1:ByteArray)(x5:Int):Tree :=
 NL x0<|NS (VS x1)<|NI (VI x5)<|NL x0<|.test (decide (x5<(x0.elems.length:Int))) (NG x0 x5 1<|kS (x0.ix x5)<|.test (ae (((x0.ix x5).hA).toStr)==ae x1) (.done 2 [VB true] []) (.done 0 [x0,VS x1,VI (IntKind.wrap .i64 (x5+1))] [])) (.done 1 [] [])
abbrev Fh:=cH Tryz.prog 18 Nd HO
theorem Ka(x0:AV)(x1:ByteArray)(x5:Int)(h:mi 18 (FI x0 x1 x5) Fh U):Fh [x0,VS x1,VI x5] [] U :=
 gQ Kf h
def GA:LI:={hd:={bZ:=[(0,.k .str),(7,.k (.int .i64))]},xs:={},rt:={bZ:=[(6,.k .bool)]},ex:=0}
def IC:Code:=db (cQ Tryz.f154) 4
def Ie:List (Nat×LI):=[(4,GA)]
def J3(a0:ByteArray)(a1:Int)(a2:Int):Tree :=
 .call 168 [VI (af a0:Int),VI 1,VI 3] [] fun r1 o1=>NB r1<|.test (!r1.toBool) (.done 0 [VB false] []) (.aj (0<=(0:Int)/\(0:Int)<af a0)<|.test (decide ((bt a0 0)<a1)) (.done 0 [VB false] []) (.aj (0<=(0:Int)/\(0:Int)<af a0)<|.test (decide ((bt a0 0)>a2)) (.done 0 [VB false] []) (.loop IC GA [VS a0,VI 1] [] (fun y2 q2=>.done 0 [VB true] []) (fun y2 q2=>NB (y2.hA)<|.done 0 [VB ((y2.hA).toBool)] []))))
theorem Rk(a0:ByteArray)(a1:Int)(a2:Int)(h:dj 40 (J3 a0 a1 a2) R):an Tryz.prog 154 [VS a0,.v (.int .u8 a1),.v (.int .u8 a2)] [] R :=
 uQ (ah (aA _) (ah (aA _) (ah (aA _) aD))) (oQ Ie Tryz.f154 h)
def Fy(x0:ByteArray)(x7:Int):Tree :=
 NS (VS x0)<|NI (VI x7)<|.test (decide (x7<(af x0:Int))) (.aj (0<=x7/\x7<af x0)<|.test (decide ((bt x0 x7)<(48:Int))) (.done 2 [VB false] []) (.aj (0<=x7/\x7<af x0)<|.test (decide ((bt x0 x7)>(57:Int))) (.done 2 [VB false] []) (.done 0 [VS x0,VI (IntKind.wrap .i64 (x7+1))] []))) (.done 1 [] [])
abbrev EP:=cH Tryz.prog 40 IC GA
theorem ML(x0:ByteArray)(x7:Int)(h:mi 40 (Fy x0 x7) EP U):EP [VS x0,VI x7] [] U :=
 gQ Ie h
def LN(a0_0:ByteArray)(a0_1:AV)(a1:ByteArray)(a2_0:ByteArray)(a2_1:AV):Tree :=
 .call 106 [.agg [VS a0_0,a0_1]] [] fun r1 o1=>NI r1<|.call 196 [.agg [VS a0_0,a0_1],VS a1] [] fun r2 o2=>NI r2<|.call 106 [.agg [VS a2_0,a2_1]] [] fun r3 o3=>NI r3<|.done 0 [VB (decide ((IntKind.wrap .i64 (r1.toInt+(IntKind.wrap .i64 (r2.toInt*(IntKind.wrap .i64 (r3.toInt-1))))))<=(400:Int)))] []
theorem Qz(a0_0:ByteArray)(a0_1:AV)(a1:ByteArray)(a2_0:ByteArray)(a2_1:AV)(ha0_1:LK.has .sl a0_1)(ha2_1:LK.has .sl a2_1)(h:dj 18 (LN a0_0 a0_1 a1 a2_0 a2_1) R):an Tryz.prog 155 [.agg [VS a0_0,a0_1],VS a1,.agg [VS a2_0,a2_1]] [] R :=
 uQ (ah (cj (ah (aA _) (ah (bT ha0_1) aD))) (ah (aA _) (ah (cj (ah (aA _) (ah (bT ha2_1) aD))) aD))) (oQ [] Tryz.f155 h)
def MA(a0_0:ByteArray)(a0_1:AV)(a1:ByteArray)(a2_0:ByteArray)(a2_1:AV):Tree :=
 .call 57 [.agg [VS a0_0,a0_1],.sl [[VS a2_0,a2_1],[VS a1,.v (.slice none 0 0)]]] [] fun r1 o1=>NA r1<|.call 197 [.agg [VS ((r1.cs.getD 0 .any).toStr),(r1.cs.getD 1 .any)],VS a1,.agg [VS a2_0,a2_1]] [] fun r2 o2=>NA r2<|.done 0 [.agg [VS ((r2.cs.getD 0 .any).toStr),(r2.cs.getD 1 .any)]] []
theorem PD(a0_0:ByteArray)(a0_1:AV)(a1:ByteArray)(a2_0:ByteArray)(a2_1:AV)(ha0_1:LK.has .sl a0_1)(ha2_1:LK.has .sl a2_1)(h:dj 16 (MA a0_0 a0_1 a1 a2_0 a2_1) R):an Tryz.prog 156 [.agg [VS a0_0,a0_1],VS a1,.agg [VS a2_0,a2_1]] [] R :=
 uQ (ah (cj (ah (aA _) (ah (bT ha0_1) aD))) (ah (aA _) (ah (cj (ah (aA _) (ah (bT ha2_1) aD))) aD))) (oQ [] Tryz.f156 h)
def MT(a0:ByteArray):Tree :=
 .call 186 [VS a0,VS (mk [116])] [] fun r1 o1=>NB r1<|.done 0 [VB r1.toBool] []
theorem Qf(a0:ByteArray)(h:dj 5 (MT a0) R):an Tryz.prog 157 [VS a0] [] R :=
 uQ (ah (aA _) aD) (oQ [] Tryz.f157 h)
def Mn(a0:Int)(a1:AV)(a2:AV):Tree :=
 .done 0 [.ptr [.v (.int .u8 a0),VS (mk []),VI 0,a1,a2]] []
theorem Pm(a0:Int)(a1:AV)(a2:AV)(ha1:LK.has .ptr a1)(ha2:LK.has .ptr a2)(h:dj 12 (Mn a0 a1 a2) R):an Tryz.prog 158 [.v (.int .u8 a0),a1,a2] [] R :=
 uQ (ah (aA _) (ah (bA ha1) (ah (bA ha2) aD))) (oQ [] Tryz.f158 h)
def Ld(a0:AV):Tree :=
 .call 198 [a0,.fn 199 [.ref 0 0]] [.cells [.vec 1],.vec 1 []] fun r1 o1=>.aj ((o1.hO)=.cells (o1.hO).cs)<|.aj (aL [.vec 1] ((o1.hO).cs) 0 1 o1.tail)<|.done 0 [.sl ((o1.tail.hO).es)] []
theorem Q0(a0:AV)(ha0:LK.has .ptr a0)(h:dj 9 (Ld a0) R):an Tryz.prog 159 [a0] [] R :=
 uQ (ah (bA ha0) aD) (oQ [] Tryz.f159 h)
def E8:LI:={hd:={bZ:=[(0,.k .ptr),(1,.k .sl),(9,.k .str)],refs:=[(3,0),(4,1)],cr:=[(0,[.lk .sl]),(1,[.lk (.int .i64)])],vI:=[(2,160,[none,some 0,some 1])]},xs:={bZ:=[(0,.k .ptr),(1,.k .sl),(9,.k .str)],cr:=[(0,[.lk .sl]),(1,[.lk (.int .i64)])],vI:=[(2,160,[none,some 0,some 1])]},rt:={cr:=[(0,[.lk .sl]),(1,[.lk (.int .i64)])]},ex:=1,fx:=[0,1]}
def KR:Code:=db (cQ Tryz.f160) 12
def L0:List (Nat×LI):=[(12,E8)]
def Ep(a0:AV)(a1:AV)(a3_0:AV)(a4_0:Int):Tree :=
 NZ a0<|NZ a0<|.aj (LK.has (.int .u8) (a0.deref.hA)/\1<=a0.deref.length)<|.test (((a0.deref.hA).toInt)==(110:Int)) (NZ a0<|NZ a0<|kS (a0.deref.drop 1)<|.done 0 [VS (((a0.deref.drop 1).hA).toStr)] [.cells [a3_0],.cells [VI a4_0]]) (.test (((a0.deref.hA).toInt)==(98:Int)) (NL a1<|NZ a0<|NZ a0<|.aj (LK.has (.int .i64) ((a0.deref.drop 2).hA)/\1<=(a0.deref.drop 2).length)<|.aj (LK.has .sl a1/\0<=(IntKind.wrap .i64 ((IntKind.wrap .i64 ((a1.elems.length:Int)-1))-(((a0.deref.drop 2).hA).toInt)))/\(IntKind.wrap .i64 ((IntKind.wrap .i64 ((a1.elems.length:Int)-1))-(((a0.deref.drop 2).hA).toInt)))<a1.elems.length/\(a1.ix (IntKind.wrap .i64 ((IntKind.wrap .i64 ((a1.elems.length:Int)-1))-(((a0.deref.drop 2).hA).toInt)))).length=1)<|kS (a1.ix (IntKind.wrap .i64 ((IntKind.wrap .i64 ((a1.elems.length:Int)-1))-(((a0.deref.drop 2).hA).toInt))))<|.done 0 [VS (((a1.ix (IntKind.wrap .i64 ((IntKind.wrap .i64 ((a1.elems.length:Int)-1))-(((a0.deref.drop 2).hA).toInt)))).hA).toStr)] [.cells [a3_0],.cells [VI a4_0]]) (.test (((a0.deref.hA).toInt)==(43:Int)) (NZ a0<|NZ a0<|dV (a0.deref.drop 3)<|.call 160 [((a0.deref.drop 3).hA),a1,.fm 160 [none,some 0,some 1],.ref 0 0,.ref 1 0] [.cells [a3_0],.cells [VI a4_0]] fun r1 o1=>.aj ((o1.hO)=.cells (o1.hO).cs)<|.aj (aL [.lk .sl] ((o1.hO).cs) 0 1 o1.tail)<|.aj ((o1.tail.hO)=.cells (o1.tail.hO).cs)<|.aj (aL [.lk (.int .i64)] ((o1.tail.hO).cs) 0 2 o1.tail.tail)<|NS r1<|NZ a0<|NZ a0<|.aj (LK.has (.int .u8) (a0.deref.hA)/\1<=a0.deref.length)<|.aj (im [[.v (.int .u8 ((a0.deref.hA).toInt))]])<|.aj (af (mk [40])+af (⟨(bytesOf [[.v (.int .u8 ((a0.deref.hA).toInt))]]).toArray⟩)<=9223372036854775807)<|.aj (af (((mk [40]):ByteArray)++(⟨(bytesOf [[.v (.int .u8 ((a0.deref.hA).toInt))]]).toArray⟩))+af (mk [32])<=9223372036854775807)<|.aj (af (((((mk [40]):ByteArray)++(⟨(bytesOf [[.v (.int .u8 ((a0.deref.hA).toInt))]]).toArray⟩)):ByteArray)++(mk [32]))+af r1.toStr<=9223372036854775807)<|.aj (af (((((((mk [40]):ByteArray)++(⟨(bytesOf [[.v (.int .u8 ((a0.deref.hA).toInt))]]).toArray⟩)):ByteArray)++(mk [32])):ByteArray)++r1.toStr)+af (mk [32])<=9223372036854775807)<|NZ a0<|NZ a0<|dV (a0.deref.drop 4)<|.call 160 [((a0.deref.drop 4).hA),a1,.fm 160 [none,some 0,some 1],.ref 0 0,.ref 1 0] [.cells [((o1.hO).cs.getD 0 .any)],.cells [VI (((o1.tail.hO).cs.getD 0 .any).toInt)]] fun r2 o2=>.aj ((o2.hO)=.cells (o2.hO).cs)<|.aj (aL [.lk .sl] ((o2.hO).cs) 0 1 o2.tail)<|.aj ((o2.tail.hO)=.cells (o2.tail.hO).cs)<|.aj (aL [.lk (.int .i64)] ((o2.tail.hO).cs) 0 2 o2.tail.tail)<|NS r2<|.aj (af (((((((((mk [40]):ByteArray)++(⟨(bytesOf [[.v (.int .u8 ((a0.deref.hA).toInt))]]).toArray⟩)):ByteArray)++(mk [32])):ByteArray)++r1.toStr):ByteArray)++(mk [32]))+af r2.toStr<=9223372036854775807)<|.aj (af (((((((((((mk [40]):ByteArray)++(⟨(bytesOf [[.v (.int .u8 ((a0.deref.hA).toInt))]]).toArray⟩)):ByteArray)++(mk [32])):ByteArray)++r1.toStr):ByteArray)++(mk [32])):ByteArray)++r2.toStr)+af (mk [41])<=9223372036854775807)<|.done 0 [VS (((((((((((((mk [40]):ByteArray)++(⟨(bytesOf [[.v (.int .u8 ((a0.deref.hA).toInt))]]).toArray⟩)):ByteArray)++(mk [32])):ByteArray)++r1.toStr):ByteArray)++(mk [32])):ByteArray)++r2.toStr):ByteArray)++(mk [41]))] [.cells [((o2.hO).cs.getD 0 .any)],.cells [VI (((o2.tail.hO).cs.getD 0 .any).toInt)]]) (.test (((a0.deref.hA).toInt)==(42:Int)) (NZ a0<|NZ a0<|dV (a0.deref.drop 3)<|.call 160 [((a0.deref.drop 3).hA),a1,.fm 160 [none,some 0,some 1],.ref 0 0,.ref 1 0] [.cells [a3_0],.cells [VI a4_0]] fun r3 o3=>.aj ((o3.hO)=.cells (o3.hO).cs)<|.aj (aL [.lk .sl] ((o3.hO).cs) 0 1 o3.tail)<|.aj ((o3.tail.hO)=.cells (o3.tail.hO).cs)<|.aj (aL [.lk (.int .i64)] ((o3.tail.hO).cs) 0 2 o3.tail.tail)<|NS r3<|NZ a0<|NZ a0<|.aj (LK.has (.int .u8) (a0.deref.hA)/\1<=a0.deref.length)<|.aj (im [[.v (.int .u8 ((a0.deref.hA).toInt))]])<|.aj (af (mk [40])+af (⟨(bytesOf [[.v (.int .u8 ((a0.deref.hA).toInt))]]).toArray⟩)<=9223372036854775807)<|.aj (af (((mk [40]):ByteArray)++(⟨(bytesOf [[.v (.int .u8 ((a0.deref.hA).toInt))]]).toArray⟩))+af (mk [32])<=9223372036854775807)<|.aj (af (((((mk [40]):ByteArray)++(⟨(bytesOf [[.v (.int .u8 ((a0.deref.hA).toInt))]]).toArray⟩)):ByteArray)++(mk [32]))+af r3.toStr<=9223372036854775807)<|.aj (af (((((((mk [40]):ByteArray)++(⟨(bytesOf [[.v (.int .u8 ((a0.deref.hA).toInt))]]).toArray⟩)):ByteArray)++(mk [32])):ByteArray)++r3.toStr)+af (mk [32])<=9223372036854775807)<|NZ a0<|NZ a0<|dV (a0.deref.drop 4)<|.call 160 [((a0.deref.drop 4).hA),a1,.fm 160 [none,some 0,some 1],.ref 0 0,.ref 1 0] [.cells [((o3.hO).cs.getD 0 .any)],.cells [VI (((o3.tail.hO).cs.getD 0 .any).toInt)]] fun r4 o4=>.aj ((o4.hO)=.cells (o4.hO).cs)<|.aj (aL [.lk .sl] ((o4.hO).cs) 0 1 o4.tail)<|.aj ((o4.tail.hO)=.cells (o4.tail.hO).cs)<|.aj (aL [.lk (.int .i64)] ((o4.tail.hO).cs) 0 2 o4.tail.tail)<|NS r4<|.aj (af (((((((((mk [40]):ByteArray)++(⟨(bytesOf [[.v (.int .u8 ((a0.deref.hA).toInt))]]).toArray⟩)):ByteArray)++(mk [32])):ByteArray)++r3.toStr):ByteArray)++(mk [32]))+af r4.toStr<=9223372036854775807)<|.aj (af (((((((((((mk [40]):ByteArray)++(⟨(bytesOf [[.v (.int .u8 ((a0.deref.hA).toInt))]]).toArray⟩)):ByteArray)++(mk [32])):ByteArray)++r3.toStr):ByteArray)++(mk [32])):ByteArray)++r4.toStr)+af (mk [41])<=9223372036854775807)<|.done 0 [VS (((((((((((((mk [40]):ByteArray)++(⟨(bytesOf [[.v (.int .u8 ((a0.deref.hA).toInt))]]).toArray⟩)):ByteArray)++(mk [32])):ByteArray)++r3.toStr):ByteArray)++(mk [32])):ByteArray)++r4.toStr):ByteArray)++(mk [41]))] [.cells [((o4.hO).cs.getD 0 .any)],.cells [VI (((o4.tail.hO).cs.getD 0 .any).toInt)]]) (.test (((a0.deref.hA).toInt)==(114:Int)) (.loop KR E8 [a0,a1,VS (mk [])] [.cells [a3_0],.cells [VI a4_0]] (fun y8 q8=>NP (y8.hA)<|NL (y8.tail.hA)<|NS (y8.tail.tail.hA)<|.aj ((q8.hO)=.cells (q8.hO).cs)<|.aj (ag [.lk .sl] ((q8.hO).cs) 0 q8.tail)<|.aj (((q8.tail.drop 0).hO)=.cells ((q8.tail.drop 0).hO).cs)<|.aj (ag [.lk (.int .i64)] (((q8.tail.drop 0).hO).cs) 0 ((q8.tail.drop 0).tail))<|.aj (af (mk [40,114,101,99,32])+af ((y8.tail.tail.hA).toStr)<=9223372036854775807)<|.aj (af (((mk [40,114,101,99,32]):ByteArray)++((y8.tail.tail.hA).toStr))+af (mk [32])<=9223372036854775807)<|NZ (y8.hA)<|NZ (y8.hA)<|dV ((y8.hA).deref.drop 3)<|.aj (LK.has .sl (y8.tail.hA)/\cV 1 ((y8.tail.hA).elems)/\((([]:List (List AV)).length)+((y8.tail.hA).elems).length)*16<=140737488355328)<|.aj (cV 1 [[VS ((y8.tail.tail.hA).toStr)]]/\(((([]:List (List AV))++((y8.tail.hA).elems)).length)+([[VS ((y8.tail.tail.hA).toStr)]]:List (List AV)).length)*16<=140737488355328)<|.call 160 [(((y8.hA).deref.drop 3).hA),.sl ((([]:List (List AV))++((y8.tail.hA).elems))++([[VS ((y8.tail.tail.hA).toStr)]]:List (List AV))),.fm 160 [none,some 0,some 1],.ref 0 0,.ref 1 0] [.cells [((q8.hO).cs.getD 0 .any)],.cells [VI (((q8.tail.hO).cs.getD 0 .any).toInt)]] fun r9 o9=>.aj ((o9.hO)=.cells (o9.hO).cs)<|.aj (aL [.lk .sl] ((o9.hO).cs) 0 1 o9.tail)<|.aj ((o9.tail.hO)=.cells (o9.tail.hO).cs)<|.aj (aL [.lk (.int .i64)] ((o9.tail.hO).cs) 0 2 o9.tail.tail)<|NS r9<|.aj (af (((((mk [40,114,101,99,32]):ByteArray)++((y8.tail.tail.hA).toStr)):ByteArray)++(mk [32]))+af r9.toStr<=9223372036854775807)<|.aj (af (((((((mk [40,114,101,99,32]):ByteArray)++((y8.tail.tail.hA).toStr)):ByteArray)++(mk [32])):ByteArray)++r9.toStr)+af (mk [41])<=9223372036854775807)<|.done 0 [VS (((((((((mk [40,114,101,99,32]):ByteArray)++((y8.tail.tail.hA).toStr)):ByteArray)++(mk [32])):ByteArray)++r9.toStr):ByteArray)++(mk [41]))] [.cells [((o9.hO).cs.getD 0 .any)],.cells [VI (((o9.tail.hO).cs.getD 0 .any).toInt)]]) (fun y8 q8=>.aj ((q8.hO)=.cells (q8.hO).cs)<|.aj (ag [.lk .sl] ((q8.hO).cs) 0 q8.tail)<|.aj (((q8.tail.drop 0).hO)=.cells ((q8.tail.drop 0).hO).cs)<|.aj (ag [.lk (.int .i64)] (((q8.tail.drop 0).hO).cs) 0 ((q8.tail.drop 0).tail))<|.done 0 [.any] [.cells [((q8.hO).cs.getD 0 .any)],.cells [VI (((q8.tail.hO).cs.getD 0 .any).toInt)]])) (NZ a0<|NZ a0<|.aj (LK.has (.int .u8) (a0.deref.hA)/\1<=a0.deref.length)<|.aj (im [[.v (.int .u8 ((a0.deref.hA).toInt))]])<|.done 0 [VS (⟨(bytesOf [[.v (.int .u8 ((a0.deref.hA).toInt))]]).toArray⟩)] [.cells [a3_0],.cells [VI a4_0]])))))
theorem w6(a0:AV)(a1:AV)(a3_0:AV)(a4_0:Int)(ha0:LK.has .ptr a0)(ha1:LK.has .sl a1)(ha3_0:LK.has .sl a3_0)(h:dj 100 (Ep a0 a1 a3_0 a4_0) R):an Tryz.prog 160 [a0,a1,.fm 160 [none,some 0,some 1],.ref 0 0,.ref 1 0] [.cells [a3_0],.cells [VI a4_0]] R :=
 an.nf (bm (bU (ah (bT ha3_0) aD)) (bm (bU (ah (aA _) aD)) ct)) (an.up (ah (bA ha0) (ah (bT ha1) (ah (aA _) (ah (aA _) (ah (aA _) aD))))) (oF L0 {mu:=[(2,.su 160 [none,some 0,some 1]),(3,.one (.obj [.lk .sl])),(4,.one (.obj [.lk (.int .i64)]))],own:=[]} Tryz.f160 h))
def F8(x0:AV)(x1:AV)(x9:ByteArray)(o0_0:AV)(o1_0:Int):Tree :=
 NP x0<|NL x1<|NS (VS x9)<|.aj (Ob.cells [o0_0]=.cells [o0_0])<|.aj (ag [.lk .sl] [o0_0] 0 [.cells [VI o1_0]])<|.aj (Ob.cells [VI o1_0]=.cells [VI o1_0])<|.aj (ag [.lk (.int .i64)] [VI o1_0] 0 [])<|.test (ae x9==ae (mk [])) (.call 21 [VI o1_0] [] fun r1 o1=>NS r1<|.aj (af (mk [116])+af r1.toStr<=9223372036854775807)<|.done 0 [x0,x1,VS (((mk [116]):ByteArray)++r1.toStr)] [.cells [o0_0],.cells [VI (IntKind.wrap .i64 (o1_0+1))]]) (.call 161 [o0_0,VS x9] [] fun r2 o2=>NB r2<|.test r2.toBool (.call 21 [VI o1_0] [] fun r3 o3=>NS r3<|.aj (af (mk [116])+af r3.toStr<=9223372036854775807)<|.done 0 [x0,x1,VS (((mk [116]):ByteArray)++r3.toStr)] [.cells [o0_0],.cells [VI (IntKind.wrap .i64 (o1_0+1))]]) (.done 1 [x0,x1,VS x9] [.cells [o0_0],.cells [VI o1_0]]))
abbrev Cs:=cH Tryz.prog 100 KR E8
theorem K9(x0:AV)(x1:AV)(x9:ByteArray)(o0_0:AV)(o1_0:Int)(h:mi 100 (F8 x0 x1 x9 o0_0 o1_0) Cs U):Cs [x0,x1,VS x9] [.cells [o0_0],.cells [VI o1_0]] U :=
 gQ L0 h
def I0(a0:AV)(a1:ByteArray):Tree :=
 .call 200 [a0,VS a1] [] fun r1 o1=>NI r1<|.done 0 [VB (decide (r1.toInt≥(0:Int)))] []
theorem Q8(a0:AV)(a1:ByteArray)(ha0:LK.has .sl a0)(h:dj 9 (I0 a0 a1) R):an Tryz.prog 161 [a0,VS a1] [] R :=
 uQ (ah (bT ha0) (ah (aA _) aD)) (oQ [] Tryz.f161 h)
def MJ(a0:AV):Tree :=
 .call 201 [a0,.v (.func (.func 157) #[] #[])] [] fun r1 o1=>NI r1<|.done 0 [VB (decide (r1.toInt≥(0:Int)))] []
theorem Qi(a0:AV)(ha0:LK.has .sl a0)(h:dj 9 (MJ a0) R):an Tryz.prog 162 [a0,.v (.func (.func 157) #[] #[])] [] R :=
 uQ (ah (bT ha0) (ah (aA _) aD)) (oQ [] Tryz.f162 h)
def HV(a0_0:ByteArray)(a0_1:AV):Tree :=
 NG a0_1 1 2<|kS (a0_1.ix (1:Int))<|NG a0_1 2 2<|NE (a0_1.ix (2:Int))<|.call 207 [.agg [VS (((a0_1.ix (2:Int)).getD 0 .any).toStr),((a0_1.ix (2:Int)).getD 1 .any)],VS (((a0_1.ix (1:Int)).hA).toStr)] [] fun r1 o1=>NT r1<|.aj ((r1.comp 0)=.agg (r1.comp 0).cs/\(r1.comp 0).cs.length=2/\bF [.str,.sl] ((r1.comp 0).cs) 0)<|NB (r1.comp 1)<|.test (!((r1.comp 1).toBool)) (.done 0 [.cy [.agg [VS a0_0,a0_1],VB false]] []) (.call 208 [.agg [VS (((r1.comp 0).cs.getD 0 .any).toStr),((r1.comp 0).cs.getD 1 .any)],VS (((a0_1.ix (1:Int)).hA).toStr),.agg [VS a0_0,a0_1]] [] fun r2 o2=>NT r2<|.aj ((r2.comp 0)=.agg (r2.comp 0).cs/\(r2.comp 0).cs.length=2/\bF [.str,.sl] ((r2.comp 0).cs) 0)<|NB (r2.comp 1)<|.done 0 [.cy [.agg [VS (((r2.comp 0).cs.getD 0 .any).toStr),((r2.comp 0).cs.getD 1 .any)],VB ((r2.comp 1).toBool)]] [])
theorem Rm(a0_0:ByteArray)(a0_1:AV)(ha0_1:LK.has .sl a0_1)(h:dj 30 (HV a0_0 a0_1) R):an Tryz.prog 165 [.agg [VS a0_0,a0_1]] [] R :=
 uQ (ah (cj (ah (aA _) (ah (bT ha0_1) aD))) aD) (oQ [] Tryz.f165 h)
def Ig(a0_0:ByteArray)(a0_1:AV):Tree :=
 .call 106 [.agg [VS a0_0,a0_1]] [] fun r1 o1=>NI r1<|.test (decide (r1.toInt>(400:Int))) (.done 0 [.cy [VS (mk []),VB false]] []) (.call 57 [.agg [VS a0_0,a0_1],.v (.slice none 0 0)] [] fun r2 o2=>NA r2<|.call 55 [.agg [VS ((r2.cs.getD 0 .any).toStr),(r2.cs.getD 1 .any)]] [] fun r3 o3=>NS r3<|.call 209 [VS r3.toStr] [] fun r4 o4=>NB r4<|.test (!r4.toBool) (.done 0 [.cy [VS (mk []),VB false]] []) (.done 0 [.cy [VS r3.toStr,VB true]] []))
theorem QX(a0_0:ByteArray)(a0_1:AV)(ha0_1:LK.has .sl a0_1)(h:dj 15 (Ig a0_0 a0_1) R):an Tryz.prog 166 [.agg [VS a0_0,a0_1]] [] R :=
 uQ (ah (cj (ah (aA _) (ah (bT ha0_1) aD))) aD) (oQ [] Tryz.f166 h)
def KY(a0:ByteArray):Tree :=
 .call 151 [VS a0] [] fun r1 o1=>NT r1<|.aj ((r1.comp 0)=.agg (r1.comp 0).cs/\(r1.comp 0).cs.length=2/\bF [.str,.sl] ((r1.comp 0).cs) 0)<|NB (r1.comp 1)<|.test ((r1.comp 1).toBool) (.call 210 [.agg [VS (((r1.comp 0).cs.getD 0 .any).toStr),((r1.comp 0).cs.getD 1 .any)]] [] fun r2 o2=>NB r2<|.test r2.toBool (.call 211 [.agg [VS (((r1.comp 0).cs.getD 0 .any).toStr),((r1.comp 0).cs.getD 1 .any)]] [] fun r3 o3=>NI r3<|.done 0 [.cy [.agg [VS (((r1.comp 0).cs.getD 0 .any).toStr),((r1.comp 0).cs.getD 1 .any)],VB (decide (r3.toInt<=(200:Int)))]] []) (.done 0 [.cy [.agg [VS (((r1.comp 0).cs.getD 0 .any).toStr),((r1.comp 0).cs.getD 1 .any)],VB false]] [])) (.done 0 [.cy [.agg [VS (((r1.comp 0).cs.getD 0 .any).toStr),((r1.comp 0).cs.getD 1 .any)],VB false]] [])
theorem O2(a0:ByteArray)(h:dj 22 (KY a0) R):an Tryz.prog 167 [VS a0] [] R :=
 uQ (ah (aA _) aD) (oQ [] Tryz.f167 h)
def Lq(a0:Int)(a1:Int)(a2:Int):Tree :=
 .test (decide (a0≥a1)) (.done 0 [VB (decide (a0<=a2))] []) (.done 0 [VB false] [])
theorem Qj(a0:Int)(a1:Int)(a2:Int)(h:dj 15 (Lq a0 a1 a2) R):an Tryz.prog 168 [VI a0,VI a1,VI a2] [] R :=
 uQ (ah (aA _) (ah (aA _) (ah (aA _) aD))) (oQ [] Tryz.f168 h)
def Jv(a0_0:ByteArray)(a0_1:AV)(a1:AV)(a2_0:ByteArray)(a2_1:AV)(a3:Int):Tree :=
 .call 212 [.agg [VS a0_0,a0_1],a1] [] fun r1 o1=>NT r1<|.aj ((r1.comp 0)=.agg (r1.comp 0).cs/\(r1.comp 0).cs.length=2/\bF [.str,.sl] ((r1.comp 0).cs) 0)<|NL (r1.comp 1)<|.test (!(ae (((r1.comp 0).cs.getD 0 .any).toStr)==ae (mk []))) (.test (ae (((r1.comp 0).cs.getD 0 .any).toStr)==ae (mk [49])) (.done 0 [VB (ae a2_0==ae (mk [117]))] []) (.call 195 [VS (((r1.comp 0).cs.getD 0 .any).toStr)] [] fun r2 o2=>NB r2<|.test r2.toBool (.call 213 [VS a2_0] [] fun r3 o3=>NI r3<|.call 168 [VI r3.toInt,VI 0,VI (IntKind.wrap .i64 (a3-1))] [] fun r4 o4=>NB r4<|.done 0 [VB r4.toBool] []) (.done 0 [VB false] []))) (.call 104 [.agg [VS (((r1.comp 0).cs.getD 0 .any).toStr),((r1.comp 0).cs.getD 1 .any)]] [] fun r5 o5=>NS r5<|.call 104 [.agg [VS a2_0,a2_1]] [] fun r6 o6=>NS r6<|.aj (af r5.toStr+af r6.toStr<=9223372036854775807)<|.test (ae ((r5.toStr:ByteArray)++r6.toStr)==ae (mk [43,108])) (NG ((r1.comp 0).cs.getD 1 .any) 1 2<|NE (((r1.comp 0).cs.getD 1 .any).ix (1:Int))<|NG a2_1 1 2<|NE (a2_1.ix (1:Int))<|.call 169 [.agg [VS (((((r1.comp 0).cs.getD 1 .any).ix (1:Int)).getD 0 .any).toStr),((((r1.comp 0).cs.getD 1 .any).ix (1:Int)).getD 1 .any)],(r1.comp 1),.agg [VS (((a2_1.ix (1:Int)).getD 0 .any).toStr),((a2_1.ix (1:Int)).getD 1 .any)],VI a3] [] fun r7 o7=>NB r7<|.done 0 [VB r7.toBool] []) (.test (ae ((r5.toStr:ByteArray)++r6.toStr)==ae (mk [43,114])) (NG ((r1.comp 0).cs.getD 1 .any) 2 2<|NE (((r1.comp 0).cs.getD 1 .any).ix (2:Int))<|NG a2_1 1 2<|NE (a2_1.ix (1:Int))<|.call 169 [.agg [VS (((((r1.comp 0).cs.getD 1 .any).ix (2:Int)).getD 0 .any).toStr),((((r1.comp 0).cs.getD 1 .any).ix (2:Int)).getD 1 .any)],(r1.comp 1),.agg [VS (((a2_1.ix (1:Int)).getD 0 .any).toStr),((a2_1.ix (1:Int)).getD 1 .any)],VI a3] [] fun r8 o8=>NB r8<|.done 0 [VB r8.toBool] []) (.test (ae ((r5.toStr:ByteArray)++r6.toStr)==ae (mk [42,112])) (NG ((r1.comp 0).cs.getD 1 .any) 1 2<|NE (((r1.comp 0).cs.getD 1 .any).ix (1:Int))<|NG a2_1 1 2<|NE (a2_1.ix (1:Int))<|.call 169 [.agg [VS (((((r1.comp 0).cs.getD 1 .any).ix (1:Int)).getD 0 .any).toStr),((((r1.comp 0).cs.getD 1 .any).ix (1:Int)).getD 1 .any)],(r1.comp 1),.agg [VS (((a2_1.ix (1:Int)).getD 0 .any).toStr),((a2_1.ix (1:Int)).getD 1 .any)],VI a3] [] fun r9 o9=>NB r9<|.test r9.toBool (NG ((r1.comp 0).cs.getD 1 .any) 2 2<|NE (((r1.comp 0).cs.getD 1 .any).ix (2:Int))<|NG a2_1 2 2<|NE (a2_1.ix (2:Int))<|.call 169 [.agg [VS (((((r1.comp 0).cs.getD 1 .any).ix (2:Int)).getD 0 .any).toStr),((((r1.comp 0).cs.getD 1 .any).ix (2:Int)).getD 1 .any)],(r1.comp 1),.agg [VS (((a2_1.ix (2:Int)).getD 0 .any).toStr),((a2_1.ix (2:Int)).getD 1 .any)],VI a3] [] fun r10 o10=>NB r10<|.done 0 [VB r10.toBool] []) (.done 0 [VB false] [])) (.test (ae ((r5.toStr:ByteArray)++r6.toStr)==ae (mk [114,101,99,102])) (.call 214 [.agg [VS (((r1.comp 0).cs.getD 0 .any).toStr),((r1.comp 0).cs.getD 1 .any)],(r1.comp 1)] [] fun r11 o11=>NT r11<|.aj ((r11.comp 0)=.agg (r11.comp 0).cs/\(r11.comp 0).cs.length=2/\bF [.str,.sl] ((r11.comp 0).cs) 0)<|NL (r11.comp 1)<|NG a2_1 1 2<|NE (a2_1.ix (1:Int))<|.call 169 [.agg [VS (((r11.comp 0).cs.getD 0 .any).toStr),((r11.comp 0).cs.getD 1 .any)],(r11.comp 1),.agg [VS (((a2_1.ix (1:Int)).getD 0 .any).toStr),((a2_1.ix (1:Int)).getD 1 .any)],VI a3] [] fun r12 o12=>NB r12<|.done 0 [VB r12.toBool] []) (.done 0 [VB false] [])))))
theorem P5(a0_0:ByteArray)(a0_1:AV)(a1:AV)(a2_0:ByteArray)(a2_1:AV)(a3:Int)(ha0_1:LK.has .sl a0_1)(ha1:LK.has .sl a1)(ha2_1:LK.has .sl a2_1)(h:dj 110 (Jv a0_0 a0_1 a1 a2_0 a2_1 a3) R):an Tryz.prog 169 [.agg [VS a0_0,a0_1],a1,.agg [VS a2_0,a2_1],VI a3] [] R :=
 uQ (ah (cj (ah (aA _) (ah (bT ha0_1) aD))) (ah (bT ha1) (ah (cj (ah (aA _) (ah (bT ha2_1) aD))) (ah (aA _) aD)))) (oQ [] Tryz.f169 h)
def Mp(a0:ByteArray)(a1:ByteArray)(a2:ByteArray):Tree :=
 .call 123 [VS a0] [] fun r1 o1=>NT r1<|.aj ((r1.comp 0)=.agg (r1.comp 0).cs/\(r1.comp 0).cs.length=2/\bF [.str,.sl] ((r1.comp 0).cs) 0)<|NB (r1.comp 1)<|.call 122 [VS a0] [] fun r2 o2=>NT r2<|NS (r2.comp 0)<|NB (r2.comp 1)<|.test (!((r1.comp 1).toBool)) (.done 0 [.cy [VS (mk []),VB false]] []) (.test (!((r2.comp 1).toBool)) (.done 0 [.cy [VS (mk []),VB false]] []) (.call 124 [VS ((r2.comp 0).toStr),VS a1,VI 100] [] fun r3 o3=>NB r3<|.test (!r3.toBool) (.done 0 [.cy [VS (mk []),VB false]] []) (.call 124 [VS a0,VS a2,VI 100] [] fun r4 o4=>NB r4<|.test (!r4.toBool) (.done 0 [.cy [VS (mk []),VB false]] []) (.call 167 [VS a1] [] fun r5 o5=>NT r5<|.aj ((r5.comp 0)=.agg (r5.comp 0).cs/\(r5.comp 0).cs.length=2/\bF [.str,.sl] ((r5.comp 0).cs) 0)<|NB (r5.comp 1)<|.call 167 [VS a2] [] fun r6 o6=>NT r6<|.aj ((r6.comp 0)=.agg (r6.comp 0).cs/\(r6.comp 0).cs.length=2/\bF [.str,.sl] ((r6.comp 0).cs) 0)<|NB (r6.comp 1)<|NG ((r1.comp 0).cs.getD 1 .any) 2 2<|NE (((r1.comp 0).cs.getD 1 .any).ix (2:Int))<|NG ((r1.comp 0).cs.getD 1 .any) 1 2<|kS (((r1.comp 0).cs.getD 1 .any).ix (1:Int))<|.call 215 [.agg [VS (((((r1.comp 0).cs.getD 1 .any).ix (2:Int)).getD 0 .any).toStr),((((r1.comp 0).cs.getD 1 .any).ix (2:Int)).getD 1 .any)],VS (((((r1.comp 0).cs.getD 1 .any).ix (1:Int)).hA).toStr),.agg [VS (((r5.comp 0).cs.getD 0 .any).toStr),((r5.comp 0).cs.getD 1 .any)],.agg [VS (((r6.comp 0).cs.getD 0 .any).toStr),((r6.comp 0).cs.getD 1 .any)]] [] fun r7 o7=>NA r7<|.call 107 [VS (mk [102]),.sl [[VS ((r7.cs.getD 0 .any).toStr),(r7.cs.getD 1 .any)]]] [] fun r8 o8=>NA r8<|.call 55 [.agg [VS ((r8.cs.getD 0 .any).toStr),(r8.cs.getD 1 .any)]] [] fun r9 o9=>NS r9<|.call 124 [VS a0,VS r9.toStr,VI 100] [] fun r10 o10=>NB r10<|.test (!r10.toBool) (.done 0 [.cy [VS (mk []),VB false]] []) (.done 0 [.cy [VS r9.toStr,VB true]] [])))))
theorem O8(a0:ByteArray)(a1:ByteArray)(a2:ByteArray)(h:dj 75 (Mp a0 a1 a2) R):an Tryz.prog 170 [VS a0,VS a1,VS a2] [] R :=
 uQ (ah (aA _) (ah (aA _) (ah (aA _) aD))) (oQ [] Tryz.f170 h)
def Ke(a0:ByteArray)(a1:ByteArray):Tree :=
 .test (decide ((af a0:Int)≥(1:Int))) (.test (decide ((af a0:Int)<=(3:Int))) (.aj (0<=(0:Int)/\(0:Int)<=(1:Int)/\(1:Int)<=(af a0:Int))<|.call 231 [VS a1,VS (cd a0 (bq 0) (bq 1))] [] fun r1 o1=>NB r1<|.test r1.toBool (.aj (0<=(1:Int)/\(1:Int)<=(af a0:Int)/\(af a0:Int)<=(af a0:Int))<|.call 134 [VS (cd a0 (bq 1) (bq (af a0:Int))),VS (mk [48,49,50,51,52,53,54,55,56,57])] [] fun r2 o2=>NS r2<|.done 0 [VB (ae r2.toStr==ae (mk []))] []) (.done 0 [VB false] [])) (.done 0 [VB false] [])) (.done 0 [VB false] [])
theorem QZ(a0:ByteArray)(a1:ByteArray)(h:dj 25 (Ke a0 a1) R):an Tryz.prog 186 [VS a0,VS a1] [] R :=
 uQ (ah (aA _) (ah (aA _) aD)) (oQ [] Tryz.f186 h)
def FZ:LI:={hd:={bZ:=[(0,.k .str),(1,.k (.int .i64)),(9,.k (.int .i64))],refs:=[(6,6),(8,8)],cr:=[(6,[.lk .str,.lk .sl]),(8,[.lk .str,.lk .sl])]},xs:={bZ:=[(0,.k .str),(1,.k (.int .i64)),(9,.k (.int .i64))],refs:=[(6,6),(8,8)],cr:=[(6,[.lk .str,.lk .sl]),(8,[.lk .str,.lk .sl])]},rt:={},ex:=0}
def Lh:Code:=db (cQ Tryz.f194) 6
def HK:LI:={hd:={bZ:=[(0,.k .str),(1,.k (.int .i64)),(2,.k (.int .i64))],refs:=[(6,6),(8,8)],cr:=[(6,[.lk .str,.lk .sl]),(8,[.lk .str,.vec 2])]},xs:={},rt:={bZ:=[(7,.k (.int .i64))],refs:=[(6,6)],cr:=[(6,[.lk .str,.vec 2])]},ex:=999}
def Kh:Code:=db (cQ Tryz.f194) 12
def HM:List (Nat×LI):=[(6,FZ),(12,HK)]
def F7(a0:ByteArray)(a1:Int)(a2:Int):Tree :=
 .test (decide (a2>(300:Int))) (.done 0 [.cy [.agg [VS (mk []),.v (.slice none 0 0)],VI (-1)]] []) (.test (decide (a1≥(af a0:Int))) (.done 0 [.cy [.agg [VS (mk []),.v (.slice none 0 0)],VI (-1)]] []) (.aj (0<=a1/\a1<af a0)<|.test ((bt a0 a1) != (40:Int)) (.loop Lh FZ [VS a0,VI a1,VI a1] [.cells [VS (mk []),.v (.slice none 0 0)],.cells [VS (mk []),.v (.slice none 0 0)]] (fun y2 q2=>NS (y2.hA)<|NI (y2.tail.hA)<|NI (y2.tail.tail.hA)<|.aj ((q2.hO)=.cells (q2.hO).cs)<|.aj (ag [.lk .str,.lk .sl] ((q2.hO).cs) 0 q2.tail)<|.aj (((q2.tail.drop 0).hO)=.cells ((q2.tail.drop 0).hO).cs)<|.aj (ag [.lk .str,.lk .sl] (((q2.tail.drop 0).hO).cs) 0 ((q2.tail.drop 0).tail))<|.aj (0<=((y2.tail.tail.hA).toInt)/\((y2.tail.tail.hA).toInt)<=((y2.tail.hA).toInt)/\((y2.tail.hA).toInt)<=(af ((y2.hA).toStr):Int))<|.test (ae (cd ((y2.hA).toStr) (bq ((y2.tail.tail.hA).toInt)) (bq ((y2.tail.hA).toInt)))==ae (mk [])) (.done 0 [.cy [.agg [VS (cd ((y2.hA).toStr) (bq ((y2.tail.tail.hA).toInt)) (bq ((y2.tail.hA).toInt))),((q2.tail.hO).cs.getD 1 .any)],VI (-1)]] []) (.done 0 [.cy [.agg [VS (cd ((y2.hA).toStr) (bq ((y2.tail.tail.hA).toInt)) (bq ((y2.tail.hA).toInt))),((q2.tail.hO).cs.getD 1 .any)],VI ((y2.tail.hA).toInt)]] [])) (fun y2 q2=>.fail)) (.loop Kh HK [VS a0,VI a1,VI a2] [.cells [VS (mk []),.v (.slice none 0 0)],.cells [VS (mk []),.any],.vec 2 []] (fun y5 q5=>.fail) (fun y5 q5=>NI (y5.hA)<|.aj ((q5.hO)=.cells (q5.hO).cs)<|.aj (ag [.lk .str,.vec 2] ((q5.hO).cs) 0 q5.tail)<|.done 0 [.cy [.agg [VS (((q5.hO).cs.getD 0 .any).toStr),.sl ((q5.tail.hO).es)],VI ((y5.hA).toInt)]] []))))
theorem LD(a0:ByteArray)(a1:Int)(a2:Int)(h:dj 87 (F7 a0 a1 a2) R):an Tryz.prog 194 [VS a0,VI a1,VI a2] [] R :=
 uQ (ah (aA _) (ah (aA _) (ah (aA _) aD))) (oQ HM Tryz.f194 h)
def FG(x0:ByteArray)(x1:Int)(x9:Int)(o6_0:ByteArray)(o6_1:AV)(o8_0:ByteArray)(o8_1:AV):Tree :=
 NS (VS x0)<|NI (VI x1)<|NI (VI x9)<|.aj (Ob.cells [VS o6_0,o6_1]=.cells [VS o6_0,o6_1])<|.aj (ag [.lk .str,.lk .sl] [VS o6_0,o6_1] 0 [.cells [VS o8_0,o8_1]])<|.aj (Ob.cells [VS o8_0,o8_1]=.cells [VS o8_0,o8_1])<|.aj (ag [.lk .str,.lk .sl] [VS o8_0,o8_1] 0 [])<|.test (decide (x1<(af x0:Int))) (.aj (0<=x1/\x1<af x0)<|.call 234 [.v (.int .u8 (bt x0 x1))] [] fun r1 o1=>NB r1<|.test r1.toBool (.done 0 [VS x0,VI (IntKind.wrap .i64 (x1+1)),VI x9] [.cells [VS o6_0,o6_1],.cells [VS o8_0,o8_1]]) (.done 1 [VS x0,VI x1,VI x9] [.cells [VS o6_0,o6_1],.cells [VS o8_0,o8_1]])) (.done 1 [VS x0,VI x1,VI x9] [.cells [VS o6_0,o6_1],.cells [VS o8_0,o8_1]])
abbrev GG:=cH Tryz.prog 87 Lh FZ
theorem Jo(x0:ByteArray)(x1:Int)(x9:Int)(o6_0:ByteArray)(o6_1:AV)(o8_0:ByteArray)(o8_1:AV)(h:mi 87 (FG x0 x1 x9 o6_0 o6_1 o8_0 o8_1) GG U):GG [VS x0,VI x1,VI x9] [.cells [VS o6_0,o6_1],.cells [VS o8_0,o8_1]] U :=
 gQ HM h
def Ky(x0:ByteArray)(x1:Int)(x2:Int)(o6_0:ByteArray)(o6_1:AV)(o8_0:ByteArray)(o8_1:List (List AV)):Tree :=
 NS (VS x0)<|NI (VI x1)<|NI (VI x2)<|.aj (Ob.cells [VS o6_0,o6_1]=.cells [VS o6_0,o6_1])<|.aj (ag [.lk .str,.lk .sl] [VS o6_0,o6_1] 0 [.cells [VS o8_0,.any],.vec 2 o8_1])<|.aj (Ob.cells [VS o8_0,.any]=.cells [VS o8_0,.any])<|.aj (ag [.lk .str,.vec 2] [VS o8_0,.any] 0 [.vec 2 o8_1])<|.call 194 [VS x0,VI (IntKind.wrap .i64 (x1+1)),VI (IntKind.wrap .i64 (x2+1))] [] fun r1 o1=>NT r1<|.aj ((r1.comp 0)=.agg (r1.comp 0).cs/\(r1.comp 0).cs.length=2/\bF [.str,.sl] ((r1.comp 0).cs) 0)<|NI (r1.comp 1)<|.test (decide (((r1.comp 1).toInt)<(0:Int))) (.done 2 [VI (-1)] [.cells [VS o8_0,.any],.vec 2 o8_1]) (.test (decide (((r1.comp 1).toInt)≥(af x0:Int))) (.done 2 [VI (-1)] [.cells [VS o8_0,.any],.vec 2 o8_1]) (.aj (cV 2 [[VS (((r1.comp 0).cs.getD 0 .any).toStr),((r1.comp 0).cs.getD 1 .any)]]/\((o8_1.length)+([[VS (((r1.comp 0).cs.getD 0 .any).toStr),((r1.comp 0).cs.getD 1 .any)]]:List (List AV)).length)*40<=140737488355328)<|.aj (0<=((r1.comp 1).toInt)/\((r1.comp 1).toInt)<af x0)<|.test ((bt x0 ((r1.comp 1).toInt))==(41:Int)) (.done 2 [VI (IntKind.wrap .i64 (((r1.comp 1).toInt)+1))] [.cells [VS o8_0,.any],.vec 2 (o8_1++([[VS (((r1.comp 0).cs.getD 0 .any).toStr),((r1.comp 0).cs.getD 1 .any)]]:List (List AV)))]) (.aj (0<=((r1.comp 1).toInt)/\((r1.comp 1).toInt)<af x0)<|.test ((bt x0 ((r1.comp 1).toInt)) != (32:Int)) (.done 2 [VI (-1)] [.cells [VS o8_0,.any],.vec 2 (o8_1++([[VS (((r1.comp 0).cs.getD 0 .any).toStr),((r1.comp 0).cs.getD 1 .any)]]:List (List AV)))]) (.done 0 [VS x0,VI ((r1.comp 1).toInt),VI x2] [.cells [VS o6_0,o6_1],.cells [VS o8_0,.any],.vec 2 (o8_1++([[VS (((r1.comp 0).cs.getD 0 .any).toStr),((r1.comp 0).cs.getD 1 .any)]]:List (List AV)))]))))
abbrev Hg:=cH Tryz.prog 87 Kh HK
theorem PA(x0:ByteArray)(x1:Int)(x2:Int)(o6_0:ByteArray)(o6_1:AV)(o8_0:ByteArray)(o8_1:List (List AV))(h:mi 87 (Ky x0 x1 x2 o6_0 o6_1 o8_0 o8_1) Hg U):Hg [VS x0,VI x1,VI x2] [.cells [VS o6_0,o6_1],.cells [VS o8_0,.any],.vec 2 o8_1] U :=
 gQ HM h
def L4(a0:ByteArray):Tree :=
 .call 154 [VS a0,.v (.int .u8 120),.v (.int .u8 122)] [] fun r1 o1=>NB r1<|.done 0 [VB r1.toBool] []
theorem N8(a0:ByteArray)(h:dj 5 (L4 a0) R):an Tryz.prog 195 [VS a0] [] R :=
 uQ (ah (aA _) aD) (oQ [] Tryz.f195 h)
def Bg(a0_0:ByteArray)(a0_1:AV)(a1:ByteArray):Tree :=
 .test (!(ae a0_0==ae (mk []))) (.test (ae a0_0==ae a1) (.done 0 [VI 1] []) (.done 0 [VI 0] [])) (.call 104 [.agg [VS a0_0,a0_1]] [] fun r1 o1=>NS r1<|.test (ae r1.toStr==ae (mk [114,101,99])) (NG a0_1 1 2<|kS (a0_1.ix (1:Int))<|.test (ae (((a0_1.ix (1:Int)).hA).toStr)==ae a1) (.done 0 [VI 0] []) (NG a0_1 2 2<|NE (a0_1.ix (2:Int))<|.call 196 [.agg [VS (((a0_1.ix (2:Int)).getD 0 .any).toStr),((a0_1.ix (2:Int)).getD 1 .any)],VS a1] [] fun r2 o2=>NI r2<|.done 0 [VI r2.toInt] [])) (NG a0_1 1 2<|NE (a0_1.ix (1:Int))<|.call 196 [.agg [VS (((a0_1.ix (1:Int)).getD 0 .any).toStr),((a0_1.ix (1:Int)).getD 1 .any)],VS a1] [] fun r3 o3=>NI r3<|NG a0_1 2 2<|NE (a0_1.ix (2:Int))<|.call 196 [.agg [VS (((a0_1.ix (2:Int)).getD 0 .any).toStr),((a0_1.ix (2:Int)).getD 1 .any)],VS a1] [] fun r4 o4=>NI r4<|.done 0 [VI (IntKind.wrap .i64 (r3.toInt+r4.toInt))] []))
theorem Ct(a0_0:ByteArray)(a0_1:AV)(a1:ByteArray)(ha0_1:LK.has .sl a0_1)(h:dj 41 (Bg a0_0 a0_1 a1) R):an Tryz.prog 196 [.agg [VS a0_0,a0_1],VS a1] [] R :=
 uQ (ah (cj (ah (aA _) (ah (bT ha0_1) aD))) (ah (aA _) aD)) (oQ [] Tryz.f196 h)
def Af(a0_0:ByteArray)(a0_1:AV)(a1:ByteArray)(a2_0:ByteArray)(a2_1:AV):Tree :=
 .test (!(ae a0_0==ae (mk []))) (.test (ae a0_0==ae a1) (.done 0 [.agg [VS a2_0,a2_1]] []) (.done 0 [.agg [VS a0_0,a0_1]] [])) (.call 104 [.agg [VS a0_0,a0_1]] [] fun r1 o1=>NS r1<|.test (ae r1.toStr==ae (mk [114,101,99])) (NG a0_1 1 2<|kS (a0_1.ix (1:Int))<|.test (ae (((a0_1.ix (1:Int)).hA).toStr)==ae a1) (.done 0 [.agg [VS a0_0,a0_1]] []) (NG a0_1 1 2<|NE (a0_1.ix (1:Int))<|NG a0_1 2 2<|NE (a0_1.ix (2:Int))<|.call 197 [.agg [VS (((a0_1.ix (2:Int)).getD 0 .any).toStr),((a0_1.ix (2:Int)).getD 1 .any)],VS a1,.agg [VS a2_0,a2_1]] [] fun r2 o2=>NA r2<|.call 107 [VS (mk [114,101,99]),.sl [[VS (((a0_1.ix (1:Int)).getD 0 .any).toStr),((a0_1.ix (1:Int)).getD 1 .any)],[VS ((r2.cs.getD 0 .any).toStr),(r2.cs.getD 1 .any)]]] [] fun r3 o3=>NA r3<|.done 0 [.agg [VS ((r3.cs.getD 0 .any).toStr),(r3.cs.getD 1 .any)]] [])) (.call 104 [.agg [VS a0_0,a0_1]] [] fun r4 o4=>NS r4<|NG a0_1 1 2<|NE (a0_1.ix (1:Int))<|.call 197 [.agg [VS (((a0_1.ix (1:Int)).getD 0 .any).toStr),((a0_1.ix (1:Int)).getD 1 .any)],VS a1,.agg [VS a2_0,a2_1]] [] fun r5 o5=>NA r5<|NG a0_1 2 2<|NE (a0_1.ix (2:Int))<|.call 197 [.agg [VS (((a0_1.ix (2:Int)).getD 0 .any).toStr),((a0_1.ix (2:Int)).getD 1 .any)],VS a1,.agg [VS a2_0,a2_1]] [] fun r6 o6=>NA r6<|.call 107 [VS r4.toStr,.sl [[VS ((r5.cs.getD 0 .any).toStr),(r5.cs.getD 1 .any)],[VS ((r6.cs.getD 0 .any).toStr),(r6.cs.getD 1 .any)]]] [] fun r7 o7=>NA r7<|.done 0 [.agg [VS ((r7.cs.getD 0 .any).toStr),(r7.cs.getD 1 .any)]] []))
theorem C6(a0_0:ByteArray)(a0_1:AV)(a1:ByteArray)(a2_0:ByteArray)(a2_1:AV)(ha0_1:LK.has .sl a0_1)(ha2_1:LK.has .sl a2_1)(h:dj 58 (Af a0_0 a0_1 a1 a2_0 a2_1) R):an Tryz.prog 197 [.agg [VS a0_0,a0_1],VS a1,.agg [VS a2_0,a2_1]] [] R :=
 uQ (ah (cj (ah (aA _) (ah (bT ha0_1) aD))) (ah (aA _) (ah (cj (ah (aA _) (ah (bT ha2_1) aD))) aD))) (oQ [] Tryz.f197 h)
def Ed(a0:AV)(e1_0_0:List (List AV)):Tree :=
 .call 199 [a0,.ref 0 0] [.cells [.vec 1],.vec 1 e1_0_0] fun r1 o1=>.aj ((o1.hO)=.cells (o1.hO).cs)<|.aj (aL [.vec 1] ((o1.hO).cs) 0 1 o1.tail)<|NZ a0<|NZ a0<|dV (a0.deref.drop 3)<|NP ((a0.deref.drop 3).hA)<|.test (!((a0.deref.drop 3).hA).isNil) (NZ a0<|NZ a0<|dV (a0.deref.drop 3)<|.call 198 [((a0.deref.drop 3).hA),.fn 199 [.ref 0 0]] [.cells [.vec 1],.vec 1 ((o1.tail.hO).es)] fun r2 o2=>.aj ((o2.hO)=.cells (o2.hO).cs)<|.aj (aL [.vec 1] ((o2.hO).cs) 0 1 o2.tail)<|NZ a0<|NZ a0<|dV (a0.deref.drop 4)<|NP ((a0.deref.drop 4).hA)<|.test (!((a0.deref.drop 4).hA).isNil) (NZ a0<|NZ a0<|dV (a0.deref.drop 4)<|.call 198 [((a0.deref.drop 4).hA),.fn 199 [.ref 0 0]] [.cells [.vec 1],.vec 1 ((o2.tail.hO).es)] fun r3 o3=>.aj ((o3.hO)=.cells (o3.hO).cs)<|.aj (aL [.vec 1] ((o3.hO).cs) 0 1 o3.tail)<|.done 0 [.any] [.cells [.vec 1],.vec 1 ((o3.tail.hO).es)]) (.done 0 [.any] [.cells [.vec 1],.vec 1 ((o2.tail.hO).es)])) (NZ a0<|NZ a0<|dV (a0.deref.drop 4)<|NP ((a0.deref.drop 4).hA)<|.test (!((a0.deref.drop 4).hA).isNil) (NZ a0<|NZ a0<|dV (a0.deref.drop 4)<|.call 198 [((a0.deref.drop 4).hA),.fn 199 [.ref 0 0]] [.cells [.vec 1],.vec 1 ((o1.tail.hO).es)] fun r4 o4=>.aj ((o4.hO)=.cells (o4.hO).cs)<|.aj (aL [.vec 1] ((o4.hO).cs) 0 1 o4.tail)<|.done 0 [.any] [.cells [.vec 1],.vec 1 ((o4.tail.hO).es)]) (.done 0 [.any] [.cells [.vec 1],.vec 1 ((o1.tail.hO).es)]))
theorem FL(a0:AV)(e1_0_0:List (List AV))(ha0:LK.has .ptr a0)(h:dj 29 (Ed a0 e1_0_0) R):an Tryz.prog 198 [a0,.fn 199 [.ref 0 0]] [.cells [.vec 1],.vec 1 e1_0_0] R :=
 an.nf (bm (bU (ah (aA _) aD)) (bm (eH _) ct)) (an.up (ah (bA ha0) (ah (aA _) aD)) (oF [] {mu:=[(1,.fn [some (.obj [.vec 1])])],own:=[]} Tryz.f198 h))
def EO(a0:AV)(e1_0:List (List AV)):Tree :=
 NZ a0<|NZ a0<|.aj (LK.has (.int .u8) (a0.deref.hA)/\1<=a0.deref.length)<|.test (((a0.deref.hA).toInt)==(110:Int)) (NZ a0<|NZ a0<|kS (a0.deref.drop 1)<|.call 161 [.sl e1_0,VS (((a0.deref.drop 1).hA).toStr)] [] fun r1 o1=>NB r1<|.test (!r1.toBool) (NZ a0<|NZ a0<|kS (a0.deref.drop 1)<|.aj (cV 1 [[VS (((a0.deref.drop 1).hA).toStr)]]/\((e1_0.length)+([[VS (((a0.deref.drop 1).hA).toStr)]]:List (List AV)).length)*16<=140737488355328)<|.done 0 [.any] [.cells [.vec 1],.vec 1 (e1_0++([[VS (((a0.deref.drop 1).hA).toStr)]]:List (List AV)))]) (.done 0 [.any] [.cells [.vec 1],.vec 1 e1_0])) (.done 0 [.any] [.cells [.vec 1],.vec 1 e1_0])
theorem O6(a0:AV)(e1_0:List (List AV))(ha0:LK.has .ptr a0)(h:dj 24 (EO a0 e1_0) R):an Tryz.prog 199 [a0,.ref 0 0] [.cells [.vec 1],.vec 1 e1_0] R :=
 an.nf (bm (bU (ah (aA _) aD)) (bm (eH _) ct)) (an.up (ah (bA ha0) (ah (aA _) aD)) (oF [] {mu:=[(1,.one (.obj [.vec 1]))],own:=[]} Tryz.f199 h))
def Gb:LI:={hd:={bZ:=[(0,.k .sl),(1,.k .str),(7,.k (.int .i64)),(8,.k (.int .i64))]},xs:={},rt:={bZ:=[(4,.k (.int .i64))]},ex:=0}
def I2:Code:=db (cQ Tryz.f200) 2
def L8:List (Nat×LI):=[(2,Gb)]
def Nn(a0:AV)(a1:ByteArray):Tree :=
 NL a0<|.loop I2 Gb [a0,VS a1,VI (a0.elems.length:Int),VI 0] [] (fun y1 q1=>.done 0 [VI (-1)] []) (fun y1 q1=>NI (y1.hA)<|.done 0 [VI ((y1.hA).toInt)] [])
theorem On(a0:AV)(a1:ByteArray)(ha0:LK.has .sl a0)(h:dj 19 (Nn a0 a1) R):an Tryz.prog 200 [a0,VS a1] [] R :=
 uQ (ah (bT ha0) (ah (aA _) aD)) (oQ L8 Tryz.f200 h)
def GS(x0:AV)(x1:ByteArray)(x7:Int)(x8:Int):Tree :=
 NL x0<|NS (VS x1)<|NI (VI x7)<|NI (VI x8)<|.test (decide (x8<x7)) (NG x0 x8 1<|kS (x0.ix x8)<|.test (ae x1==ae (((x0.ix x8).hA).toStr)) (.done 2 [VI x8] []) (.done 0 [x0,VS x1,VI x7,VI (IntKind.wrap .i64 (x8+1))] [])) (.done 1 [] [])
abbrev Hc:=cH Tryz.prog 19 I2 Gb
theorem JX(x0:AV)(x1:ByteArray)(x7:Int)(x8:Int)(h:mi 19 (GS x0 x1 x7 x8) Hc U):Hc [x0,VS x1,VI x7,VI x8] [] U :=
 gQ L8 h
def Ht:LI:={hd:={bZ:=[(0,.k .sl),(1,.c (.func (.func 157) #[] #[])),(7,.k (.int .i64)),(8,.k (.int .i64))]},xs:={},rt:={bZ:=[(4,.k (.int .i64))]},ex:=0}
def My:Code:=db (cQ Tryz.f201) 2
def Je:List (Nat×LI):=[(2,Ht)]
def JS(a0:AV):Tree :=
 NL a0<|.loop My Ht [a0,.v (.func (.func 157) #[] #[]),VI (a0.elems.length:Int),VI 0] [] (fun y2 q2=>.done 0 [VI (-1)] []) (fun y2 q2=>NI (y2.hA)<|.done 0 [VI ((y2.hA).toInt)] [])
theorem P4(a0:AV)(ha0:LK.has .sl a0)(h:dj 19 (JS a0) R):an Tryz.prog 201 [a0,.v (.func (.func 157) #[] #[])] [] R :=
 uQ (ah (bT ha0) (ah (aA _) aD)) (oQ Je Tryz.f201 h)
def HB(x0:AV)(x7:Int)(x8:Int):Tree :=
 NL x0<|.aj (AV.v (.func (.func 157) #[] #[])=.v (.func (.func 157) #[] #[]))<|NI (VI x7)<|NI (VI x8)<|.test (decide (x8<x7)) (NG x0 x8 1<|kS (x0.ix x8)<|.call 157 [VS (((x0.ix x8).hA).toStr)] [] fun r1 o1=>NB r1<|.test r1.toBool (.done 2 [VI x8] []) (.done 0 [x0,.v (.func (.func 157) #[] #[]),VI x7,VI (IntKind.wrap .i64 (x8+1))] [])) (.done 1 [] [])
abbrev Gq:=cH Tryz.prog 19 My Ht
theorem Ib(x0:AV)(x7:Int)(x8:Int)(h:mi 19 (HB x0 x7 x8) Gq U):Gq [x0,.v (.func (.func 157) #[] #[]),VI x7,VI x8] [] U :=
 gQ Je h
def AO(a0_0:ByteArray)(a0_1:AV)(a1:ByteArray):Tree :=
 .test (!(ae a0_0==ae (mk []))) (.test (ae a0_0==ae a1) (.done 0 [.cy [.agg [VS (mk [49]),.v (.slice none 0 0)],VB true]] []) (.done 0 [.cy [.agg [VS (mk [48]),.v (.slice none 0 0)],VB true]] [])) (.call 104 [.agg [VS a0_0,a0_1]] [] fun r1 o1=>NS r1<|.test (ae r1.toStr==ae (mk [114,101,99])) (.call 238 [.agg [VS a0_0,a0_1],VS a1] [] fun r2 o2=>NT r2<|.aj ((r2.comp 0)=.agg (r2.comp 0).cs/\(r2.comp 0).cs.length=2/\bF [.str,.sl] ((r2.comp 0).cs) 0)<|NB (r2.comp 1)<|.done 0 [.cy [.agg [VS (((r2.comp 0).cs.getD 0 .any).toStr),((r2.comp 0).cs.getD 1 .any)],VB ((r2.comp 1).toBool)]] []) (NG a0_1 1 2<|NE (a0_1.ix (1:Int))<|.call 207 [.agg [VS (((a0_1.ix (1:Int)).getD 0 .any).toStr),((a0_1.ix (1:Int)).getD 1 .any)],VS a1] [] fun r3 o3=>NT r3<|.aj ((r3.comp 0)=.agg (r3.comp 0).cs/\(r3.comp 0).cs.length=2/\bF [.str,.sl] ((r3.comp 0).cs) 0)<|NB (r3.comp 1)<|NG a0_1 2 2<|NE (a0_1.ix (2:Int))<|.call 207 [.agg [VS (((a0_1.ix (2:Int)).getD 0 .any).toStr),((a0_1.ix (2:Int)).getD 1 .any)],VS a1] [] fun r4 o4=>NT r4<|.aj ((r4.comp 0)=.agg (r4.comp 0).cs/\(r4.comp 0).cs.length=2/\bF [.str,.sl] ((r4.comp 0).cs) 0)<|NB (r4.comp 1)<|.call 107 [VS (mk [43]),.sl [[VS (((r3.comp 0).cs.getD 0 .any).toStr),((r3.comp 0).cs.getD 1 .any)],[VS (((r4.comp 0).cs.getD 0 .any).toStr),((r4.comp 0).cs.getD 1 .any)]]] [] fun r5 o5=>NA r5<|.call 104 [.agg [VS a0_0,a0_1]] [] fun r6 o6=>NS r6<|.test (ae r6.toStr==ae (mk [42])) (NG a0_1 2 2<|NE (a0_1.ix (2:Int))<|.call 107 [VS (mk [42]),.sl [[VS (((r3.comp 0).cs.getD 0 .any).toStr),((r3.comp 0).cs.getD 1 .any)],[VS (((a0_1.ix (2:Int)).getD 0 .any).toStr),((a0_1.ix (2:Int)).getD 1 .any)]]] [] fun r7 o7=>NA r7<|NG a0_1 1 2<|NE (a0_1.ix (1:Int))<|.call 107 [VS (mk [42]),.sl [[VS (((a0_1.ix (1:Int)).getD 0 .any).toStr),((a0_1.ix (1:Int)).getD 1 .any)],[VS (((r4.comp 0).cs.getD 0 .any).toStr),((r4.comp 0).cs.getD 1 .any)]]] [] fun r8 o8=>NA r8<|.call 107 [VS (mk [43]),.sl [[VS ((r7.cs.getD 0 .any).toStr),(r7.cs.getD 1 .any)],[VS ((r8.cs.getD 0 .any).toStr),(r8.cs.getD 1 .any)]]] [] fun r9 o9=>NA r9<|.test ((r3.comp 1).toBool) (.test ((r4.comp 1).toBool) (.call 106 [.agg [VS ((r9.cs.getD 0 .any).toStr),(r9.cs.getD 1 .any)]] [] fun r10 o10=>NI r10<|.done 0 [.cy [.agg [VS ((r9.cs.getD 0 .any).toStr),(r9.cs.getD 1 .any)],VB (decide (r10.toInt<=(400:Int)))]] []) (.done 0 [.cy [.agg [VS ((r9.cs.getD 0 .any).toStr),(r9.cs.getD 1 .any)],VB false]] [])) (.done 0 [.cy [.agg [VS ((r9.cs.getD 0 .any).toStr),(r9.cs.getD 1 .any)],VB false]] [])) (.test ((r3.comp 1).toBool) (.test ((r4.comp 1).toBool) (.call 106 [.agg [VS ((r5.cs.getD 0 .any).toStr),(r5.cs.getD 1 .any)]] [] fun r11 o11=>NI r11<|.done 0 [.cy [.agg [VS ((r5.cs.getD 0 .any).toStr),(r5.cs.getD 1 .any)],VB (decide (r11.toInt<=(400:Int)))]] []) (.done 0 [.cy [.agg [VS ((r5.cs.getD 0 .any).toStr),(r5.cs.getD 1 .any)],VB false]] [])) (.done 0 [.cy [.agg [VS ((r5.cs.getD 0 .any).toStr),(r5.cs.getD 1 .any)],VB false]] []))))
theorem Dt(a0_0:ByteArray)(a0_1:AV)(a1:ByteArray)(ha0_1:LK.has .sl a0_1)(h:dj 79 (AO a0_0 a0_1 a1) R):an Tryz.prog 207 [.agg [VS a0_0,a0_1],VS a1] [] R :=
 uQ (ah (cj (ah (aA _) (ah (bT ha0_1) aD))) (ah (aA _) aD)) (oQ [] Tryz.f207 h)
def Lu(a0_0:ByteArray)(a0_1:AV)(a1:ByteArray)(a2_0:ByteArray)(a2_1:AV):Tree :=
 .call 155 [.agg [VS a0_0,a0_1],VS a1,.agg [VS a2_0,a2_1]] [] fun r1 o1=>NB r1<|.test (!r1.toBool) (.done 0 [.cy [.agg [VS a0_0,a0_1],VB false]] []) (.call 156 [.agg [VS a0_0,a0_1],VS a1,.agg [VS a2_0,a2_1]] [] fun r2 o2=>NA r2<|.done 0 [.cy [.agg [VS ((r2.cs.getD 0 .any).toStr),(r2.cs.getD 1 .any)],VB true]] [])
theorem PN(a0_0:ByteArray)(a0_1:AV)(a1:ByteArray)(a2_0:ByteArray)(a2_1:AV)(ha0_1:LK.has .sl a0_1)(ha2_1:LK.has .sl a2_1)(h:dj 18 (Lu a0_0 a0_1 a1 a2_0 a2_1) R):an Tryz.prog 208 [.agg [VS a0_0,a0_1],VS a1,.agg [VS a2_0,a2_1]] [] R :=
 uQ (ah (cj (ah (aA _) (ah (bT ha0_1) aD))) (ah (aA _) (ah (cj (ah (aA _) (ah (bT ha2_1) aD))) aD))) (oQ [] Tryz.f208 h)
def Na(a0:ByteArray):Tree :=
 .call 101 [VS a0] [] fun r1 o1=>NT r1<|.aj ((r1.comp 0)=.agg (r1.comp 0).cs/\(r1.comp 0).cs.length=2/\bF [.str,.sl] ((r1.comp 0).cs) 0)<|NB (r1.comp 1)<|.done 0 [VB ((r1.comp 1).toBool)] []
theorem Qh(a0:ByteArray)(h:dj 11 (Na a0) R):an Tryz.prog 209 [VS a0] [] R :=
 uQ (ah (aA _) aD) (oQ [] Tryz.f209 h)
def He(a0_0:ByteArray)(a0_1:AV):Tree :=
 .test (!(ae a0_0==ae (mk []))) (.test (ae a0_0==ae (mk [117])) (.done 0 [VB true] []) (.call 213 [VS a0_0] [] fun r1 o1=>NI r1<|.done 0 [VB (decide (r1.toInt≥(0:Int)))] [])) (.call 104 [.agg [VS a0_0,a0_1]] [] fun r2 o2=>NS r2<|.test (ae r2.toStr==ae (mk [108])) (NL a0_1<|.test ((a0_1.elems.length:Int)==(2:Int)) (NG a0_1 1 2<|NE (a0_1.ix (1:Int))<|.call 210 [.agg [VS (((a0_1.ix (1:Int)).getD 0 .any).toStr),((a0_1.ix (1:Int)).getD 1 .any)]] [] fun r3 o3=>NB r3<|.done 0 [VB r3.toBool] []) (.done 0 [VB false] [])) (.test (ae r2.toStr==ae (mk [114])) (NL a0_1<|.test ((a0_1.elems.length:Int)==(2:Int)) (NG a0_1 1 2<|NE (a0_1.ix (1:Int))<|.call 210 [.agg [VS (((a0_1.ix (1:Int)).getD 0 .any).toStr),((a0_1.ix (1:Int)).getD 1 .any)]] [] fun r4 o4=>NB r4<|.done 0 [VB r4.toBool] []) (.done 0 [VB false] [])) (.test (ae r2.toStr==ae (mk [102])) (NL a0_1<|.test ((a0_1.elems.length:Int)==(2:Int)) (NG a0_1 1 2<|NE (a0_1.ix (1:Int))<|.call 210 [.agg [VS (((a0_1.ix (1:Int)).getD 0 .any).toStr),((a0_1.ix (1:Int)).getD 1 .any)]] [] fun r5 o5=>NB r5<|.done 0 [VB r5.toBool] []) (.done 0 [VB false] [])) (.test (ae r2.toStr==ae (mk [112])) (NL a0_1<|.test ((a0_1.elems.length:Int)==(3:Int)) (NG a0_1 1 2<|NE (a0_1.ix (1:Int))<|.call 210 [.agg [VS (((a0_1.ix (1:Int)).getD 0 .any).toStr),((a0_1.ix (1:Int)).getD 1 .any)]] [] fun r6 o6=>NB r6<|.test r6.toBool (NG a0_1 2 2<|NE (a0_1.ix (2:Int))<|.call 210 [.agg [VS (((a0_1.ix (2:Int)).getD 0 .any).toStr),((a0_1.ix (2:Int)).getD 1 .any)]] [] fun r7 o7=>NB r7<|.done 0 [VB r7.toBool] []) (.done 0 [VB false] [])) (.done 0 [VB false] [])) (.done 0 [VB false] [])))))
theorem yU(a0_0:ByteArray)(a0_1:AV)(ha0_1:LK.has .sl a0_1)(h:dj 52 (He a0_0 a0_1) R):an Tryz.prog 210 [.agg [VS a0_0,a0_1]] [] R :=
 uQ (ah (cj (ah (aA _) (ah (bT ha0_1) aD))) aD) (oQ [] Tryz.f210 h)
def GK:LI:={hd:={bZ:=[(3,.k (.int .i64)),(4,.k (.int .i64))],refs:=[(1,1)],cr:=[(1,[.lk .str,.lk .sl])]},xs:={bZ:=[(3,.k (.int .i64))]},rt:={},ex:=0}
def K6:Code:=db (cQ Tryz.f211) 3
def L5:List (Nat×LI):=[(3,GK)]
def F1(a0_0:ByteArray)(a0_1:AV):Tree :=
 .loop K6 GK [VI 1,VI 1] [.cells [VS a0_0,a0_1]] (fun y2 q2=>NI (y2.hA)<|.done 0 [VI ((y2.hA).toInt)] []) (fun y2 q2=>.done 0 [.any] [])
theorem Js(a0_0:ByteArray)(a0_1:AV)(ha0_1:LK.has .sl a0_1)(h:dj 21 (F1 a0_0 a0_1) R):an Tryz.prog 211 [.agg [VS a0_0,a0_1]] [] R :=
 uQ (ah (cj (ah (aA _) (ah (bT ha0_1) aD))) aD) (oQ L5 Tryz.f211 h)
def Bf(x3:Int)(x4:Int)(o1_0:ByteArray)(o1_1:AV):Tree :=
 NI (VI x3)<|NI (VI x4)<|.aj (Ob.cells [VS o1_0,o1_1]=.cells [VS o1_0,o1_1])<|.aj (ag [.lk .str,.lk .sl] [VS o1_0,o1_1] 0 [])<|NL o1_1<|.test (decide (x4<(o1_1.elems.length:Int))) (NG o1_1 x4 2<|NE (o1_1.ix x4)<|.call 211 [.agg [VS (((o1_1.ix x4).getD 0 .any).toStr),((o1_1.ix x4).getD 1 .any)]] [] fun r1 o1=>NI r1<|.done 0 [VI (IntKind.wrap .i64 (x3+r1.toInt)),VI (IntKind.wrap .i64 (x4+1))] [.cells [VS o1_0,o1_1]]) (.done 1 [VI x3] [])
abbrev Bv:=cH Tryz.prog 21 K6 GK
theorem Cj(x3:Int)(x4:Int)(o1_0:ByteArray)(o1_1:AV)(h:mi 21 (Bf x3 x4 o1_0 o1_1) Bv U):Bv [VI x3,VI x4] [.cells [VS o1_0,o1_1]] U :=
 gQ L5 h
def Fs:LI:={hd:={bZ:=[(1,.k .sl),(6,.k (.int .i64))],refs:=[(2,2),(4,4)],cr:=[(2,[.lk .str,.lk .sl]),(4,[.lk .str,.lk .sl])]},xs:={bZ:=[(1,.k .sl)],refs:=[(2,2),(4,4)],cr:=[(2,[.lk .str,.lk .sl]),(4,[.lk .str,.lk .sl])]},rt:={bZ:=[(5,.k .sl)],refs:=[(4,4)],cr:=[(4,[.lk .str,.lk .sl])]},ex:=0}
def K2:Code:=db (cQ Tryz.f212) 2
def Nc:List (Nat×LI):=[(2,Fs)]
end
end Go.Proofs.Trees
