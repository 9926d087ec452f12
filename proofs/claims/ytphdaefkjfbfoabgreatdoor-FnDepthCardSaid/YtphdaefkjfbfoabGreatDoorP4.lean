/-
  Part of a proof: Go functions read by values, trees of functions, their contracts.
-/
import Derived.Test.YtphdaefkjfbfoabGreatDoorP3
import Derived.Shelf.Lays
import Derived.Shelf.LaysM
import Derived.Shelf.Strconv.Itoa3
import Derived.Shelf.Strconv.Atoi
import Derived.Shelf.Strings.SlTrimAscii
import Derived.Shelf.Strings.Search3
import Derived.Test.YtphdaefkjfbfoabGreatDoorProg
set_option linter.unusedVariables false
set_option linter.unusedSimpArgs false
open And renaming intro→aE
open Bool renaming and_eq_true→aq,eq_iff_iff→bV,true_and→bN
open ByteArray renaming extract→bF,size→ag,toList→ac
open Int renaming cast_ofNat_Int→cF,ofNat_eq_natCast→co,tmod→cQ,toNat→bB
open List renaming any_eq_true→bu,drop_eq_getElem_cons→aJ,drop_eq_nil_of_le→bn,getD_eq_getElem?_getD→aa,length_append→an,length_cons→aB,length_drop→bL,mem_append→aL,mem_cons→aF,mem_map→bT,nil_append→bz
open Nat renaming zero_add→aP
open UInt8 renaming ofNat→aY
namespace Go.Proofs
open Go.Shelf
def Tryz.rD:Go.Shelf.Ren:=⟨fun|160=>104|232=>113|231=>112|227=>114|234=>116|233=>115|236=>118|235=>117|228=>124|271=>127|151=>126|197=>125|120=>134|152=>133|260=>132|137=>140|119=>141|224=>138|225=>137|217=>136|266=>146|n=>n,fun|9=>9|4=>4|3=>3|5=>5|117=>167|116=>166|0=>0|124=>170|21=>21|105=>179|46=>174|119=>190|139=>193|138=>192|n=>n,fun|3=>3|4=>4|n=>n⟩
theorem Tryz.yl:Go.Proofs.Lays.n160 Tryz.prog Tryz.rD:={
 mixed:=by kernel_rfl,
 f119:=Tryz.func141.trans (congrArg some (by kernel_rfl)),
 f120:=Tryz.func134.trans (congrArg some (by kernel_rfl)),
 f137:=Tryz.func140.trans (congrArg some (by kernel_rfl)),
 f151:=Tryz.func126.trans (congrArg some (by kernel_rfl)),
 f152:=Tryz.func133.trans (congrArg some (by kernel_rfl)),
 f160:=Tryz.func104.trans (congrArg some (by kernel_rfl)),
 f197:=Tryz.func125.trans (congrArg some (by kernel_rfl)),
 f217:=Tryz.func136.trans (congrArg some (by kernel_rfl)),
 f224:=Tryz.func138.trans (congrArg some (by kernel_rfl)),
 f225:=Tryz.func137.trans (congrArg some (by kernel_rfl)),
 f227:=Tryz.func114.trans (congrArg some (by kernel_rfl)),
 f228:=Tryz.func124.trans (congrArg some (by kernel_rfl)),
 f231:=Tryz.func112.trans (congrArg some (by kernel_rfl)),
 f232:=Tryz.func113.trans (congrArg some (by kernel_rfl)),
 f233:=Tryz.func115.trans (congrArg some (by kernel_rfl)),
 f234:=Tryz.func116.trans (congrArg some (by kernel_rfl)),
 f235:=Tryz.func117.trans (congrArg some (by kernel_rfl)),
 f236:=Tryz.func118.trans (congrArg some (by kernel_rfl)),
 f260:=Tryz.func132.trans (congrArg some (by kernel_rfl)),
 f266:=Tryz.func146.trans (congrArg some (by kernel_rfl)),
 f271:=Tryz.func127.trans (congrArg some (by kernel_rfl)),
 t0:=Tryz.underlying0,
 a0:=Tryz.isAgg0,
 z0:=Tryz.sizeOf0,
 v0:=Tryz.zeroValue0,
 t3:=Tryz.underlying3,
 a3:=Tryz.isAgg3,
 z3:=Tryz.sizeOf3,
 v3:=Tryz.zeroValue3,
 t4:=Tryz.underlying4,
 a4:=Tryz.isAgg4,
 z4:=Tryz.sizeOf4,
 v4:=Tryz.zeroValue4,
 t5:=Tryz.underlying5,
 a5:=Tryz.isAgg5,
 z5:=Tryz.sizeOf5,
 v5:=Tryz.zeroValue5,
 t9:=Tryz.underlying9,
 a9:=Tryz.isAgg9,
 z9:=Tryz.sizeOf9,
 v9:=Tryz.zeroValue9,
 t21:=Tryz.underlying21,
 a21:=Tryz.isAgg21,
 z21:=Tryz.sizeOf21,
 v21:=Tryz.zeroValue21,
 t46:=Tryz.underlying174,
 a46:=Tryz.isAgg174,
 z46:=Tryz.sizeOf174,
 v46:=Tryz.zeroValue174,
 t105:=Tryz.underlying179,
 a105:=Tryz.isAgg179,
 z105:=Tryz.sizeOf179,
 v105:=Tryz.zeroValue179,
 t116:=Tryz.underlying166,
 a116:=Tryz.isAgg166,
 z116:=Tryz.sizeOf166,
 t117:=Tryz.underlying167,
 a117:=Tryz.isAgg167,
 z117:=Tryz.sizeOf167,
 v117:=Tryz.zeroValue167,
 t119:=Tryz.underlying190,
 a119:=Tryz.isAgg190,
 z119:=Tryz.sizeOf190,
 t124:=Tryz.underlying170,
 a124:=Tryz.isAgg170,
 z124:=Tryz.sizeOf170,
 v124:=Tryz.zeroValue170,
 t138:=Tryz.underlying192,
 a138:=Tryz.isAgg192,
 z138:=Tryz.sizeOf192,
 v138:=Tryz.zeroValue192,
 t139:=Tryz.underlying193,
 a139:=Tryz.isAgg193,
 z139:=Tryz.sizeOf193,
 v139:=Tryz.zeroValue193,
 g3:=by kernel_rfl,
 g4:=by kernel_rfl}
def Tryz.rB:Go.Shelf.Ren:=⟨fun|144=>111|143=>123|219=>131|217=>136|225=>137|224=>138|267=>139|266=>146|314=>147|n=>n,fun|9=>9|4=>4|3=>3|5=>5|46=>174|146=>201|51=>200|n=>n,fun|1=>2|n=>n⟩
theorem Tryz.yo:Go.Proofs.Lays.n144 Tryz.prog Tryz.rB:={
 mixed:=by kernel_rfl,
 f143:=Tryz.func123.trans (congrArg some (by kernel_rfl)),
 f144:=Tryz.func111.trans (congrArg some (by kernel_rfl)),
 f217:=Tryz.func136.trans (congrArg some (by kernel_rfl)),
 f219:=Tryz.func131.trans (congrArg some (by kernel_rfl)),
 f224:=Tryz.func138.trans (congrArg some (by kernel_rfl)),
 f225:=Tryz.func137.trans (congrArg some (by kernel_rfl)),
 f266:=Tryz.func146.trans (congrArg some (by kernel_rfl)),
 f267:=Tryz.func139.trans (congrArg some (by kernel_rfl)),
 f314:=Tryz.func147.trans (congrArg some (by kernel_rfl)),
 t3:=Tryz.underlying3,
 a3:=Tryz.isAgg3,
 z3:=Tryz.sizeOf3,
 v3:=Tryz.zeroValue3,
 t4:=Tryz.underlying4,
 a4:=Tryz.isAgg4,
 z4:=Tryz.sizeOf4,
 v4:=Tryz.zeroValue4,
 t5:=Tryz.underlying5,
 a5:=Tryz.isAgg5,
 z5:=Tryz.sizeOf5,
 v5:=Tryz.zeroValue5,
 t9:=Tryz.underlying9,
 a9:=Tryz.isAgg9,
 z9:=Tryz.sizeOf9,
 v9:=Tryz.zeroValue9,
 t46:=Tryz.underlying174,
 a46:=Tryz.isAgg174,
 z46:=Tryz.sizeOf174,
 v46:=Tryz.zeroValue174,
 t51:=Tryz.underlying200,
 a51:=Tryz.isAgg200,
 z51:=Tryz.sizeOf200,
 v51:=Tryz.zeroValue200,
 t146:=Tryz.underlying201,
 a146:=Tryz.isAgg201,
 z146:=Tryz.sizeOf201,
 v146:=Tryz.zeroValue201,
 g1:=by kernel_rfl}
def Tryz.sq:Go.Shelf.Ren:=⟨fun|172=>82|244=>95|245=>96|247=>105|279=>106|280=>107|281=>108|282=>109|287=>119|316=>120|171=>122|205=>121|321=>128|322=>129|243=>130|246=>135|283=>142|284=>143|285=>144|286=>145|129=>149|317=>148|318=>150|319=>151|320=>152|337=>153|338=>154|n=>n,fun|9=>9|3=>3|75=>134|76=>135|4=>4|5=>5|167=>157|37=>22|0=>0|85=>158|2=>2|168=>160|53=>171|175=>172|46=>174|210=>177|127=>183|145=>186|143=>184|21=>21|171=>195|173=>198|212=>204|51=>200|20=>20|213=>205|232=>209|233=>210|80=>211|n=>n,fun|15=>0|16=>1|17=>5|18=>6|19=>7|n=>n⟩
theorem Tryz.yn:Go.Proofs.Lays.n172 Tryz.prog Tryz.sq:={
 mixed:=by kernel_rfl,
 f129:=Tryz.func149.trans (congrArg some (by kernel_rfl)),
 f171:=Tryz.func122.trans (congrArg some (by kernel_rfl)),
 f172:=Tryz.func82.trans (congrArg some (by kernel_rfl)),
 f205:=Tryz.func121.trans (congrArg some (by kernel_rfl)),
 f243:=Tryz.func130.trans (congrArg some (by kernel_rfl)),
 f244:=Tryz.func95.trans (congrArg some (by kernel_rfl)),
 f245:=Tryz.func96.trans (congrArg some (by kernel_rfl)),
 f246:=Tryz.func135.trans (congrArg some (by kernel_rfl)),
 f247:=Tryz.func105.trans (congrArg some (by kernel_rfl)),
 f279:=Tryz.func106.trans (congrArg some (by kernel_rfl)),
 f280:=Tryz.func107.trans (congrArg some (by kernel_rfl)),
 f281:=Tryz.func108.trans (congrArg some (by kernel_rfl)),
 f282:=Tryz.func109.trans (congrArg some (by kernel_rfl)),
 f283:=Tryz.func142.trans (congrArg some (by kernel_rfl)),
 f284:=Tryz.func143.trans (congrArg some (by kernel_rfl)),
 f285:=Tryz.func144.trans (congrArg some (by kernel_rfl)),
 f286:=Tryz.func145.trans (congrArg some (by kernel_rfl)),
 f287:=Tryz.func119.trans (congrArg some (by kernel_rfl)),
 f316:=Tryz.func120.trans (congrArg some (by kernel_rfl)),
 f317:=Tryz.func148.trans (congrArg some (by kernel_rfl)),
 f318:=Tryz.func150.trans (congrArg some (by kernel_rfl)),
 f319:=Tryz.func151.trans (congrArg some (by kernel_rfl)),
 f320:=Tryz.func152.trans (congrArg some (by kernel_rfl)),
 f321:=Tryz.func128.trans (congrArg some (by kernel_rfl)),
 f322:=Tryz.func129.trans (congrArg some (by kernel_rfl)),
 f337:=Tryz.func153.trans (congrArg some (by kernel_rfl)),
 f338:=Tryz.func154.trans (congrArg some (by kernel_rfl)),
 t0:=Tryz.underlying0,
 a0:=Tryz.isAgg0,
 z0:=Tryz.sizeOf0,
 v0:=Tryz.zeroValue0,
 t2:=Tryz.underlying2,
 a2:=Tryz.isAgg2,
 z2:=Tryz.sizeOf2,
 v2:=Tryz.zeroValue2,
 t3:=Tryz.underlying3,
 a3:=Tryz.isAgg3,
 z3:=Tryz.sizeOf3,
 v3:=Tryz.zeroValue3,
 t4:=Tryz.underlying4,
 a4:=Tryz.isAgg4,
 z4:=Tryz.sizeOf4,
 v4:=Tryz.zeroValue4,
 t5:=Tryz.underlying5,
 a5:=Tryz.isAgg5,
 z5:=Tryz.sizeOf5,
 v5:=Tryz.zeroValue5,
 t9:=Tryz.underlying9,
 a9:=Tryz.isAgg9,
 z9:=Tryz.sizeOf9,
 v9:=Tryz.zeroValue9,
 t20:=Tryz.underlying20,
 a20:=Tryz.isAgg20,
 z20:=Tryz.sizeOf20,
 v20:=Tryz.zeroValue20,
 t21:=Tryz.underlying21,
 a21:=Tryz.isAgg21,
 z21:=Tryz.sizeOf21,
 v21:=Tryz.zeroValue21,
 t37:=Tryz.underlying22,
 a37:=Tryz.isAgg22,
 z37:=Tryz.sizeOf22,
 v37:=Tryz.zeroValue22,
 t46:=Tryz.underlying174,
 a46:=Tryz.isAgg174,
 z46:=Tryz.sizeOf174,
 v46:=Tryz.zeroValue174,
 t51:=Tryz.underlying200,
 a51:=Tryz.isAgg200,
 z51:=Tryz.sizeOf200,
 v51:=Tryz.zeroValue200,
 t53:=Tryz.underlying171,
 a53:=Tryz.isAgg171,
 z53:=Tryz.sizeOf171,
 v53:=Tryz.zeroValue171,
 t75:=Tryz.underlying134,
 a75:=Tryz.isAgg134,
 z75:=Tryz.sizeOf134,
 v75:=Tryz.zeroValue134,
 t76:=Tryz.underlying135,
 a76:=Tryz.isAgg135,
 z76:=Tryz.sizeOf135,
 v76:=Tryz.zeroValue135,
 t85:=Tryz.underlying158,
 a85:=Tryz.isAgg158,
 z85:=Tryz.sizeOf158,
 v85:=Tryz.zeroValue158,
 t127:=Tryz.underlying183,
 a127:=Tryz.isAgg183,
 z127:=Tryz.sizeOf183,
 v127:=Tryz.zeroValue183,
 t143:=Tryz.underlying184,
 a143:=Tryz.isAgg184,
 z143:=Tryz.sizeOf184,
 v143:=Tryz.zeroValue184,
 t145:=Tryz.underlying186,
 a145:=Tryz.isAgg186,
 z145:=Tryz.sizeOf186,
 v145:=Tryz.zeroValue186,
 t167:=Tryz.underlying157,
 a167:=Tryz.isAgg157,
 z167:=Tryz.sizeOf157,
 v167:=Tryz.zeroValue157,
 t168:=Tryz.underlying160,
 a168:=Tryz.isAgg160,
 z168:=Tryz.sizeOf160,
 v168:=Tryz.zeroValue160,
 t171:=Tryz.underlying195,
 a171:=Tryz.isAgg195,
 z171:=Tryz.sizeOf195,
 v171:=Tryz.zeroValue195,
 t173:=Tryz.underlying198,
 a173:=Tryz.isAgg198,
 z173:=Tryz.sizeOf198,
 v173:=Tryz.zeroValue198,
 t175:=Tryz.underlying172,
 a175:=Tryz.isAgg172,
 z175:=Tryz.sizeOf172,
 v175:=Tryz.zeroValue172,
 t210:=Tryz.underlying177,
 a210:=Tryz.isAgg177,
 z210:=Tryz.sizeOf177,
 v210:=Tryz.zeroValue177,
 t212:=Tryz.underlying204,
 a212:=Tryz.isAgg204,
 z212:=Tryz.sizeOf204,
 v212:=Tryz.zeroValue204,
 t213:=Tryz.underlying205,
 a213:=Tryz.isAgg205,
 z213:=Tryz.sizeOf205,
 t232:=Tryz.underlying209,
 a232:=Tryz.isAgg209,
 z232:=Tryz.sizeOf209,
 v232:=Tryz.zeroValue209,
 t233:=Tryz.underlying210,
 a233:=Tryz.isAgg210,
 z233:=Tryz.sizeOf210,
 v233:=Tryz.zeroValue210,
 g15:=by kernel_rfl,
 g16:=by kernel_rfl,
 g17:=by kernel_rfl,
 g18:=by kernel_rfl,
 g19:=by kernel_rfl}
end Go.Proofs
namespace Go.Proofs.Trees
open Go Go.VL
noncomputable section
def EQ:List (Nat×TI):=[
 (0,⟨false,[],false,0,.tuple [],false⟩),
 (2,⟨true,[.int .i64],false,8,.num .i64,false⟩),
 (3,⟨true,[.int .i64],false,8,.num .i64,false⟩),
 (4,⟨true,[.bool],false,1,.bl,false⟩),
 (5,⟨true,[.int .u8],false,1,.num .u8,false⟩),
 (9,⟨true,[.str],false,16,.str,false⟩),
 (20,⟨true,[.oth],false,16,.other,false⟩),
 (21,⟨true,[.int .i32],false,4,.num .i32,false⟩),
 (22,⟨true,[.sl],false,24,.slice 5,false⟩),
 (23,⟨false,[],false,0,.tuple [9,9],false⟩),
 (26,⟨true,[.sl],false,24,.slice 29,false⟩),
 (27,⟨false,[],false,0,.tuple [26,4],false⟩),
 (29,⟨true,[.sl],false,24,.slice 3,false⟩),
 (32,⟨true,[.ptr],false,8,.pt,true⟩),
 (34,⟨true,[.sl],false,24,.slice 39,false⟩),
 (35,⟨false,[],false,0,.tuple [34,4],false⟩),
 (37,⟨true,[.ptr],false,8,.pt,true⟩),
 (39,⟨true,[.ptr,.sl],true,32,.struct [(0,37),(1,29)],false⟩),
 (40,⟨true,[.sl],false,24,.slice 44,false⟩),
 (41,⟨false,[],false,0,.tuple [40,4],false⟩),
 (44,⟨true,[.sl,.str,.str],true,56,.struct [(0,29),(1,9),(2,9)],false⟩),
 (49,⟨true,[.sl,.int .i64],true,32,.struct [(0,22),(1,3)],false⟩),
 (50,⟨true,[.ptr],false,8,.pt,true⟩),
 (51,⟨false,[],false,0,.tuple [50,37],false⟩),
 (53,⟨true,[.oth],false,8,.other,false⟩),
 (54,⟨true,[.sl],false,24,.slice 57,false⟩),
 (57,⟨true,[.ptr,.ptr],true,16,.struct [(0,37),(1,37)],false⟩),
 (58,⟨true,[.sl],false,24,.slice 60,false⟩),
 (60,⟨true,[.str,.sl],true,40,.struct [(0,9),(1,58)],false⟩),
 (61,⟨false,[],false,0,.tuple [60,4],false⟩),
 (66,⟨true,[.sl],false,24,.slice 9,false⟩),
 (72,⟨true,[.ptr],false,8,.pt,true⟩),
 (74,⟨true,[.ptr,.ptr],true,16,.struct [(0,50),(1,72)],false⟩),
 (75,⟨true,[.ptr],false,8,.pt,true⟩),
 (76,⟨false,[],false,0,.tuple [74,75],false⟩),
 (80,⟨true,[.int .u8,.str,.ptr,.ptr],true,40,.struct [(0,5),(1,9),(2,37),(3,37)],false⟩),
 (82,⟨true,[.str,.ptr],true,24,.struct [(0,9),(1,75)],false⟩),
 (87,⟨true,[.sl],false,24,.slice 140,false⟩),
 (88,⟨true,[.sl],false,24,.slice 91,false⟩),
 (91,⟨true,[.str,.sl,.str,.sl],true,80,.struct [(0,60),(2,60)],false⟩),
 (94,⟨true,[.oth],false,8,.other,false⟩),
 (100,⟨true,[.ptr],false,8,.pt,true⟩),
 (102,⟨true,[.sl,.int .i64],true,32,.struct [(0,66),(1,3)],false⟩),
 (104,⟨true,[.int .u8,.str,.int .i64,.ptr,.ptr],true,48,.struct [(0,5),(1,9),(2,3),(3,50),(4,50)],false⟩),
 (108,⟨true,[.ptr,.ptr],true,16,.struct [(0,74)],false⟩),
 (110,⟨true,[.ptr,.ptr],true,16,.struct [(0,75),(1,72)],false⟩),
 (112,⟨true,[.oth],false,8,.other,false⟩),
 (113,⟨true,[.oth],false,8,.other,false⟩),
 (117,⟨false,[],false,0,.tuple [60,3],false⟩),
 (120,⟨false,[],false,0,.tuple [60,87],false⟩),
 (129,⟨true,[.ptr],false,8,.pt,true⟩),
 (134,⟨true,[.oth],false,16,.other,false⟩),
 (135,⟨false,[],false,0,.tuple [3,134],false⟩),
 (140,⟨true,[.str,.str,.sl,.sl],true,80,.struct [(0,9),(1,60),(3,87)],false⟩),
 (145,⟨false,[],false,0,.tuple [129,9],false⟩),
 (147,⟨true,[.sl],false,24,.slice 129,false⟩),
 (149,⟨true,[.str,.sl],true,40,.struct [(0,9),(1,147)],false⟩),
 (154,⟨true,[.oth],false,8,.other,false⟩),
 (158,⟨false,[],false,0,.tuple [2,134],false⟩),
 (160,⟨true,[.ptr],false,8,.pt,true⟩),
 (167,⟨false,[],false,0,.tuple [166,4],false⟩),
 (170,⟨true,[.ptr],false,8,.pt,true⟩),
 (171,⟨true,[.int .u64],false,8,.num .u64,false⟩),
 (172,⟨false,[],false,0,.tuple [171,134],false⟩),
 (174,⟨true,[.int .u64],false,8,.num .u64,false⟩),
 (177,⟨true,[.str,.str,.oth],true,48,.struct [(0,9),(1,9),(2,134)],false⟩),
 (179,⟨false,[],false,0,.tuple [21,3],false⟩),
 (183,⟨true,[.ptr],false,8,.pt,true⟩),
 (184,⟨true,[.ptr],false,8,.pt,true⟩),
 (186,⟨true,[.str],true,16,.struct [(0,9)],false⟩),
 (192,⟨true,[.int .u8,.int .u8],true,2,.struct [(0,5),(1,5)],false⟩),
 (193,⟨true,[.int .u8,.int .u8,.int .u8,.int .u8,.int .u8,.int .u8,.int .u8,.int .u8,.int .u8,.int .u8,.int .u8,.int .u8,.int .u8,.int .u8,.int .u8,.int .u8,.int .u8,.int .u8,.int .u8,.int .u8,.int .u8,.int .u8,.int .u8,.int .u8,.int .u8,.int .u8,.int .u8,.int .u8,.int .u8,.int .u8,.int .u8,.int .u8],true,32,.array 16 192,false⟩),
 (195,⟨true,[.int .u8,.int .u8,.int .u8,.int .u8,.int .u8,.int .u8,.int .u8,.int .u8,.int .u8,.int .u8,.int .u8,.int .u8,.int .u8,.int .u8,.int .u8,.int .u8,.int .u8,.int .u8,.int .u8,.int .u8,.int .u8,.int .u8,.int .u8,.int .u8],true,24,.array 24 5,false⟩),
 (198,⟨false,[],false,0,.tuple [22,9],false⟩),
 (200,⟨true,[.int .u32],false,4,.num .u32,false⟩),
 (201,⟨false,[],false,0,.tuple [200,200],false⟩),
 (204,⟨true,[.int .u64,.int .u64,.int .u64,.int .u64,.int .u64,.int .u64,.int .u64,.int .u64,.int .u64,.int .u64,.int .u64,.int .u64,.int .u64,.int .u64,.int .u64,.int .u64,.int .u64,.int .u64,.int .u64,.int .u64],true,160,.array 20 171,false⟩),
 (209,⟨true,[.int .u8,.int .u8,.int .u8,.int .u8,.int .u8,.int .u8,.int .u8,.int .u8,.int .u8,.int .u8,.int .u8,.int .u8,.int .u8,.int .u8,.int .u8,.int .u8,.int .u8,.int .u8,.int .u8,.int .u8,.int .u8,.int .u8,.int .u8,.int .u8,.int .u8,.int .u8,.int .u8,.int .u8,.int .u8,.int .u8,.int .u8,.int .u8],true,32,.array 32 5,false⟩)]
def F1(t:Nat):TI:=tP EQ t
abbrev dv:Func:=Tryz.f31
abbrev nO:Func:=Tryz.f82
abbrev nN:Func:=Tryz.f104
abbrev lc:Func:=Tryz.f111
def IB:List (Nat×FC):=[(100,{mu:=[(1,.one (.obj [.vec 1]))],own:=[]}),(43,{mu:=[(2,.one (.vec))],own:=[0]}),(10100099,{mu:=[(1,.fn [some (.obj [.vec 1])])],own:=[]}),(55,{mu:=[(2,.one (.obj [.vec 2]))],own:=[]}),(5900055,{mu:=[(1,.fn [some (.obj [.lk .ptr])]),(2,.one (.obj [.vec 2]))],own:=[]}),(6100055,{mu:=[(1,.fn [some (.obj [.lk .ptr])]),(2,.one (.obj [.vec 2]))],own:=[]}),(6300055,{mu:=[(1,.fn [some (.obj [.lk .ptr])]),(2,.one (.obj [.vec 2]))],own:=[]}),(6500055,{mu:=[(1,.fn [some (.obj [.lk .ptr,.lk .ptr])]),(2,.one (.obj [.vec 2]))],own:=[]}),(58,{mu:=[(1,.one (.obj [.lk .ptr]))],own:=[]}),(60,{mu:=[(1,.one (.obj [.lk .ptr]))],own:=[]}),(62,{mu:=[(1,.one (.obj [.lk .ptr]))],own:=[]}),(64,{mu:=[(1,.one (.obj [.lk .ptr,.lk .ptr]))],own:=[]}),(17,{mu:=[(1,.one (.obj [.vec 2])),(2,.one (.obj [.lk .ptr])),(3,.clo 17 [some 0,some 2,none])],own:=[]}),(22,{mu:=[(3,.one (.vec))],own:=[0]}),(70,{mu:=[(2,.one (.vec))],own:=[0]}),(13,{mu:=[(0,.one (.obj [.lk .sl,.lk (.int .i64)]))],own:=[]}),(50,{mu:=[(3,.one (.obj [.vec 1,.lk (.int .i64)]))],own:=[]}),(23,{mu:=[(0,.one (.obj [.lk .sl,.lk (.int .i64)]))],own:=[]}),(9,{mu:=[],own:=[0],ow:=[.sl,.int .i64]}),(41,{mu:=[(0,.one (.obj [.lk .sl,.lk (.int .i64)]))],own:=[]}),(12,{mu:=[(0,.one (.obj [.lk .sl,.lk (.int .i64)]))],own:=[]}),(40,{mu:=[(0,.one (.obj [.lk .sl,.lk (.int .i64)]))],own:=[]}),(27,{mu:=[(0,.one (.obj [.lk .sl,.lk (.int .i64)]))],own:=[]}),(15,{mu:=[(0,.one (.obj [.lk .sl,.lk (.int .i64)]))],own:=[]}),(24,{mu:=[(0,.one (.obj [.lk .sl,.lk (.int .i64)]))],own:=[]}),(14,{mu:=[(0,.one (.obj [.lk .sl,.lk (.int .i64)]))],own:=[]}),(8,{mu:=[(0,.one (.obj [.lk .sl,.lk (.int .i64)]))],own:=[]})]
def cd(f:Nat):FC:=wi IB f
theorem yO:(EQ.all fun p=>!p.2.kn||p.2.G4 Tryz.prog p.1)=true:=by kernel_rfl
theorem qT:cD Tryz.prog F1:=rY yO
theorem mixed:Tryz.prog.follows .mixedOrders=true:=by kernel_rfl
abbrev NZ(r:AV)(k:Tree):Tree:=.ak (LK.has .ptr r/\r.isNil=false) k
abbrev NP(r:AV)(k:Tree):Tree:=.ak (LK.has .ptr r) k
abbrev NS(r:AV)(k:Tree):Tree:=.ak (LK.has .str r) k
abbrev NB(r:AV)(k:Tree):Tree:=.ak (LK.has .bool r) k
abbrev NL(r:AV)(k:Tree):Tree:=.ak (LK.has .sl r) k
abbrev NI(r:AV)(k:Tree):Tree:=.ak (LK.has (.int .i64) r) k
abbrev gx(l:List AV)(k:Tree):Tree:=.ak (LK.has .ptr (l.headD .any)/\1<=l.length) k
abbrev nq(l:List AV)(k:Tree):Tree:=.ak (LK.has .str (l.headD .any)/\1<=l.length) k
abbrev nY(l:List AV)(k:Tree):Tree:=.ak (LK.has .sl (l.headD .any)/\1<=l.length) k
abbrev NT(r:AV)(k:Tree):Tree:=.ak (r=.cV [r.comp 0,r.comp 1]) k
abbrev NA(r:AV)(k:Tree):Tree:=.ak (r=.agg r.cs/\r.cs.length=2/\bJ [.str,.sl] r.cs 0) k
abbrev NE(l:List AV)(k:Tree):Tree:=.ak (bJ [.str,.sl] l 0/\2<=l.length) k
abbrev NG(r:AV)(i:Int)(z:Nat)(k:Tree):Tree:=.ak (LK.has .sl r/\0<=i/\i<r.aO.length/\(r.aO.getD i.toNat []).length=z) k
abbrev RL:Type:=Nat->List AV->List Ob->Prop
abbrev VS(x:ByteArray):AV:=.v (.string x)
abbrev VI(x:Int):AV:=.v (.int .i64 x)
abbrev VB(x:Bool):AV:=.v (.bool x)
abbrev _root_.List.hA(l:List AV):AV:=l.headD .any
abbrev _root_.List.hO(l:List Ob):Ob:=l.headD .dead
abbrev _root_.Go.VL.AV.ix(a:AV)(i:Int):List AV:=a.aO.getD i.toNat []
abbrev dl(n:Nat)(t:Tree)(R:AV->List Ob->Prop):Prop:=dM Tryz.prog n t fun _ xs obs=>R (xs.headD .any) obs
abbrev j6(n:Nat)(t:Tree)(S:List AV->List Ob->RL->Prop)(R:RL):Prop:=dM Tryz.prog n t (yu (fun ys o=>S ys o R) R)
theorem gQ{n:Nat}{c:Code}{li:LI}{xs:List AV}{obs:List Ob}{R:RL}{t:Tree}(lis:List (Nat×LI))(h:dM Tryz.prog n t (yu (fun ys o=>cg Tryz.prog n c li ys o R) R))(e:round F1 cd n lis c li xs obs=t:=by kernel_rfl):cg Tryz.prog n c li xs obs R:=cg.Il (cd:=cd) (lis:=lis) qT mixed e h
theorem J3(n:Nat)(t:Tree)(R:AV->List Ob->Prop):dl n t R=dM Tryz.prog n t fun _ xs obs=>R (xs.headD .any) obs:=rfl
theorem K3(n:Nat)(t:Tree)(S:List AV->List Ob->RL->Prop)(R:RL):j6 n t S R=dM Tryz.prog n t (yu (fun ys o=>S ys o R) R):=rfl
theorem Lq(x:ByteArray):VS x=.v (.string x):=rfl
theorem Lm(x:Int):VI x=.v (.int .i64 x):=rfl
theorem La(x:Bool):VB x=.v (.bool x):=rfl
theorem Lp(l:List AV):l.hA=l.headD .any:=rfl
theorem K7(l:List Ob):l.hO=l.headD .dead:=rfl
theorem Lf(a:AV)(i:Int):a.ix i=a.aO.getD i.toNat []:=rfl
theorem oQ{f:Nat}{asq:List AV}{ins:List Ob}{R:AV->List Ob->Prop}{t:Tree}(lis:List (Nat×LI))(F:Func)(h:dM Tryz.prog F.ntmps t fun _ xs obs=>R (xs.headD .any) obs)(hf:Tryz.prog.funcs[f]?=some F:=by kernel_rfl)(hnm:(F.name=="runtime.NumGoroutine")=false:=by kernel_rfl)(e:main F1 cd lis {} F asq ins=t:=by kernel_rfl):ap Tryz.prog f asq ins R:=ap.Il (cd:=cd) (lis:=lis) (fc:={}) qT mixed hf hnm e h
theorem oF{f:Nat}{asq:List AV}{ins:List Ob}{R:AV->List Ob->Prop}{t:Tree}(lis:List (Nat×LI))(fc:FC)(F:Func)(h:dM Tryz.prog F.ntmps t fun _ xs obs=>R (xs.headD .any) obs)(hf:Tryz.prog.funcs[f]?=some F:=by kernel_rfl)(hnm:(F.name=="runtime.NumGoroutine")=false:=by kernel_rfl)(e:main F1 cd lis fc F asq ins=t:=by kernel_rfl):ap Tryz.prog f asq ins R:=ap.Il (cd:=cd) (lis:=lis) (fc:=fc) qT mixed hf hnm e h
theorem uQ{P:Program}{f:Nat}{asq bs:List AV}{R:AV->List Ob->Prop}(h:sU asq bs)(hf:ap P f bs [] R):ap P f asq [] R:=ap.mO cm (ap.up h hf)
theorem Lg(r:AV)(k:Tree):NZ r k=.ak (LK.has .ptr r/\r.isNil=false) k:=rfl
theorem K9(r:AV)(k:Tree):NP r k=.ak (LK.has .ptr r) k:=rfl
theorem Ll(r:AV)(k:Tree):NS r k=.ak (LK.has .str r) k:=rfl
theorem Lj(r:AV)(k:Tree):NB r k=.ak (LK.has .bool r) k:=rfl
theorem Lk(r:AV)(k:Tree):NL r k=.ak (LK.has .sl r) k:=rfl
theorem Ld(r:AV)(k:Tree):NI r k=.ak (LK.has (.int .i64) r) k:=rfl
theorem IW(l:List AV)(k:Tree):gx l k=.ak (LK.has .ptr (l.headD .any)/\1<=l.length) k:=rfl
theorem KN(l:List AV)(k:Tree):nq l k=.ak (LK.has .str (l.headD .any)/\1<=l.length) k:=rfl
theorem JT(l:List AV)(k:Tree):nY l k=.ak (LK.has .sl (l.headD .any)/\1<=l.length) k:=rfl
theorem Li(r:AV)(k:Tree):NT r k=.ak (r=.cV [r.comp 0,r.comp 1]) k:=rfl
theorem Lu(r:AV)(k:Tree):NA r k=.ak (r=.agg r.cs/\r.cs.length=2/\bJ [.str,.sl] r.cs 0) k:=rfl
theorem Lc(l:List AV)(k:Tree):NE l k=.ak (bJ [.str,.sl] l 0/\2<=l.length) k:=rfl
theorem Ls(r:AV)(i:Int)(z:Nat)(k:Tree):NG r i z k=.ak (LK.has .sl r/\0<=i/\i<r.aO.length/\(r.aO.getD i.toNat []).length=z) k:=rfl
set_option linter.defProp false in
def zq:=aE @Lg (aE @K9 (aE @Ll (aE @Lj (aE @Lk (aE @Ld (aE @IW (aE @KN (aE @JT (aE @Li (aE @Lu (aE @Lc (aE @Ls (aE @J3 (aE @K3 (aE @Lq (aE @Lm (aE @La ((aE @Lp (aE @K7 (aE @Lf @zp)))))))))))))))))))))
variable {R:AV->List Ob->Prop} {U:RL}
def AC:LI:={hd:={bD:=[(5,.k (.int .i64)),(7,.k .sl),(8,.k .bool),(9,.k .bool),(10,.k (.int .i64))]},xs:={bD:=[(8,.k .bool),(9,.k .bool)]},rt:={bD:=[(2,.k .bool)]},ex:=0}
def E6:Code:=cz (cr Tryz.f3) 11
def Dt:List (Nat×LI):=[(11,AC)]
def Ff(a0:AV):Tree :=
 NL a0<|.test (decide ((a0.aO.length:Int)>(1048576:Int))) (.done 0 [VB true] []) (.call 4 [a0] [] fun r1 o1=>NT r1<|NS (r1.comp 0)<|NS (r1.comp 1)<|.call 5 [VS ((r1.comp 0).ai),VS ((r1.comp 1).ai)] [] fun r2 o2=>NI r2<|.call 6 [VS ((r1.comp 0).ai),VS ((r1.comp 1).ai)] [] fun r3 o3=>NI r3<|.test (r2.toInt != r3.toInt) (.done 0 [VB (r2.toInt==r3.toInt)] []) (.test (decide (r2.toInt<(0:Int))) (.done 0 [VB (r2.toInt==r3.toInt)] []) (.call 7 [VS ((r1.comp 0).ai),VS ((r1.comp 1).ai)] [] fun r4 o4=>NT r4<|NL (r4.comp 0)<|NB (r4.comp 1)<|.loop E6 AC [VI r2.toInt,(r4.comp 0),VB ((r4.comp 1).toBool),VB false,VI 0] [] (fun y5 q5=>NB (y5.hA)<|NB (y5.tail.hA)<|.test ((y5.hA).toBool) (.done 0 [VB ((y5.tail.hA).toBool)] []) (.done 0 [VB false] [])) (fun y5 q5=>NB (y5.hA)<|.done 0 [VB ((y5.hA).toBool)] []))))
theorem IG(a0:AV)(ha0:LK.has .sl a0)(h:dl 68 (Ff a0) R):ap Tryz.prog 3 [a0] [] R :=
 uQ (ah (bR ha0) aD) (oQ Dt Tryz.f3 h)
def An(x5:Int)(x7:AV)(x8:Bool)(x9:Bool)(x10:Int):Tree :=
 NI (VI x5)<|NL x7<|NB (VB x8)<|NB (VB x9)<|NI (VI x10)<|NL x7<|.test (decide (x10<(x7.aO.length:Int))) (NG x7 x10 1<|nY (x7.ix x10)<|NL ((x7.ix x10).hA)<|.test (decide (((((x7.ix x10).hA).aO).length:Int)>x5)) (.done 2 [VB false] []) (.test x9 (.done 0 [VI x5,x7,VB x8,VB true,VI (IntKind.wrap .i64 (x10+1))] []) (NG x7 x10 1<|nY (x7.ix x10)<|NL ((x7.ix x10).hA)<|.done 0 [VI x5,x7,VB x8,VB (((((x7.ix x10).hA).aO).length:Int)==x5),VI (IntKind.wrap .i64 (x10+1))] []))) (.done 1 [VB x8,VB x9] [])
abbrev CI:=cg Tryz.prog 68 E6 AC
theorem GU(x5:Int)(x7:AV)(x8:Bool)(x9:Bool)(x10:Int)(h:j6 68 (An x5 x7 x8 x9 x10) CI U):CI [VI x5,x7,VB x8,VB x9,VI x10] [] U :=
 gQ Dt h
def Fb(a0:AV):Tree :=
 .call 9 [a0] [] fun r1 o1=>.ak (r1=.ref 0 0/\(o1.hO)=.cells (o1.hO).cs/\(o1.hO).cs.length=2/\bJ [.sl,.int .i64] ((o1.hO).cs) 0)<|.call 8 [.ref 0 0] [.cells [((o1.hO).cs.getD 0 .any),VI (((o1.hO).cs.getD 1 .any).toInt)]] fun r2 o2=>.ak ((o2.hO)=.cells (o2.hO).cs)<|.ak (aN [.lk .sl,.lk (.int .i64)] ((o2.hO).cs) 0 1 o2.tail)<|NT r2<|NS (r2.comp 0)<|NS (r2.comp 1)<|.done 0 [.cV [VS ((r2.comp 0).ai),VS ((r2.comp 1).ai)]] []
theorem J4(a0:AV)(ha0:LK.has .sl a0)(h:dl 9 (Fb a0) R):ap Tryz.prog 4 [a0] [] R :=
 uQ (ah (bR ha0) aD) (oQ [] Tryz.f4 h)
def B7:LI:={hd:={bD:=[(7,.k (.int .i64)),(18,.k .sl),(19,.k (.int .i64)),(20,.k (.int .i64))]},xs:={bD:=[(7,.k (.int .i64))]},rt:={},ex:=0}
def GF:Code:=cz (cr Tryz.f5) 6
def FY:List (Nat×LI):=[(6,B7)]
def H8(a0:ByteArray)(a1:ByteArray):Tree :=
 .call 10 [VS a0,VS a1] [] fun r1 o1=>NT r1<|NL (r1.comp 0)<|NB (r1.comp 1)<|.test (!((r1.comp 1).toBool)) (.done 0 [VI (-1)] []) (NL (r1.comp 0)<|.loop GF B7 [VI 0,(r1.comp 0),VI (((r1.comp 0).aO).length:Int),VI 0] [] (fun y2 q2=>NI (y2.hA)<|.done 0 [VI ((y2.hA).toInt)] []) (fun y2 q2=>.done 0 [.any] []))
theorem IL(a0:ByteArray)(a1:ByteArray)(h:dl 31 (H8 a0 a1) R):ap Tryz.prog 5 [VS a0,VS a1] [] R :=
 uQ (ah (aC _) (ah (aC _) aD)) (oQ FY Tryz.f5 h)
def BC(x7:Int)(x18:AV)(x19:Int)(x20:Int):Tree :=
 NI (VI x7)<|NL x18<|NI (VI x19)<|NI (VI x20)<|.test (decide (x20<x19)) (NG x18 x20 2<|.ak (bJ [.ptr,.sl] (x18.ix x20) 0/\2<=(x18.ix x20).length)<|NL ((x18.ix x20).getD 1 .any)<|.done 0 [VI (if((((x18.ix x20).getD 1 .any).aO).length:Int)>x7 then((((x18.ix x20).getD 1 .any).aO).length:Int)else x7),x18,VI x19,VI (IntKind.wrap .i64 (x20+1))] []) (.done 1 [VI x7] [])
abbrev Bm:=cg Tryz.prog 31 GF B7
theorem H9(x7:Int)(x18:AV)(x19:Int)(x20:Int)(h:j6 31 (BC x7 x18 x19 x20) Bm U):Bm [VI x7,x18,VI x19,VI x20] [] U :=
 gQ FY h
def CB:LI:={hd:={bD:=[(5,.k .sl),(7,.k (.int .i64)),(8,.k (.int .i64))]},xs:={bD:=[(7,.k (.int .i64))]},rt:={},ex:=0}
def FD:Code:=cz (cr Tryz.f6) 6
def FU:List (Nat×LI):=[(6,CB)]
def Ie(a0:ByteArray)(a1:ByteArray):Tree :=
 .call 11 [VS a0,VS a1] [] fun r1 o1=>NT r1<|NL (r1.comp 0)<|NB (r1.comp 1)<|.test (!((r1.comp 1).toBool)) (.done 0 [VI (-1)] []) (.loop FD CB [(r1.comp 0),VI 0,VI 0] [] (fun y2 q2=>NI (y2.hA)<|.done 0 [VI ((y2.hA).toInt)] []) (fun y2 q2=>.done 0 [.any] []))
theorem KW(a0:ByteArray)(a1:ByteArray)(h:dl 32 (Ie a0 a1) R):ap Tryz.prog 6 [VS a0,VS a1] [] R :=
 uQ (ah (aC _) (ah (aC _) aD)) (oQ FU Tryz.f6 h)
def BZ(x5:AV)(x7:Int)(x8:Int):Tree :=
 NL x5<|NI (VI x7)<|NI (VI x8)<|NL x5<|.test (decide (x8<(x5.aO.length:Int))) (NG x5 x8 3<|nY (x5.ix x8)<|NL ((x5.ix x8).hA)<|.done 0 [x5,VI (if((((x5.ix x8).hA).aO).length:Int)>x7 then((((x5.ix x8).hA).aO).length:Int)else x7),VI (IntKind.wrap .i64 (x8+1))] []) (.done 1 [VI x7] [])
abbrev CZ:=cg Tryz.prog 32 FD CB
theorem Ee(x5:AV)(x7:Int)(x8:Int)(h:j6 32 (BZ x5 x7 x8) CZ U):CZ [x5,VI x7,VI x8] [] U :=
 gQ FU h
def B6:LI:={hd:={bD:=[(20,.k .sl),(21,.k (.int .i64)),(22,.k (.int .i64))],dL:=[(8,1)]},xs:={dL:=[(8,1)]},rt:={},ex:=0}
def FP:Code:=cz (cr Tryz.f7) 6
def Du:List (Nat×LI):=[(6,B6)]
def Gd(a0:ByteArray)(a1:ByteArray):Tree :=
 .call 10 [VS a0,VS a1] [] fun r1 o1=>NT r1<|NL (r1.comp 0)<|NB (r1.comp 1)<|.test (!((r1.comp 1).toBool)) (.done 0 [.cV [.v (.slice none 0 0),VB false]] []) (NL (r1.comp 0)<|.loop FP B6 [(r1.comp 0),VI (((r1.comp 0).aO).length:Int),VI 0] [.vec 1 []] (fun y2 q2=>.ak (((q2.drop 0).hO)=.vec 1 ((q2.drop 0).hO).es)<|.done 0 [.cV [.sl ((q2.hO).es),VB true]] []) (fun y2 q2=>.done 0 [.cV [.any,.any]] []))
theorem IU(a0:ByteArray)(a1:ByteArray)(h:dl 33 (Gd a0 a1) R):ap Tryz.prog 7 [VS a0,VS a1] [] R :=
 uQ (ah (aC _) (ah (aC _) aD)) (oQ Du Tryz.f7 h)
def B0(x20:AV)(x21:Int)(x22:Int)(e8:List (List AV)):Tree :=
 NL x20<|NI (VI x21)<|NI (VI x22)<|.ak (Ob.vec 1 e8=.vec 1 e8)<|.test (decide (x22<x21)) (NG x20 x22 2<|.ak (bJ [.ptr,.sl] (x20.ix x22) 0/\2<=(x20.ix x22).length)<|.ak (bU 1 [[((x20.ix x22).getD 1 .any)]]/\((e8.length)+([[((x20.ix x22).getD 1 .any)]]:List (List AV)).length)*24<=140737488355328)<|.done 0 [x20,VI x21,VI (IntKind.wrap .i64 (x22+1))] [.vec 1 (e8++([[((x20.ix x22).getD 1 .any)]]:List (List AV)))]) (.done 1 [] [.vec 1 e8])
abbrev CD:=cg Tryz.prog 33 FP B6
theorem HU(x20:AV)(x21:Int)(x22:Int)(e8:List (List AV))(h:j6 33 (B0 x20 x21 x22 e8) CD U):CD [x20,VI x21,VI x22] [.vec 1 e8] U :=
 gQ Du h
def Gg(a0_0:AV)(a0_1:Int):Tree :=
 .call 12 [.ref 0 0] [.cells [a0_0,VI a0_1]] fun r1 o1=>.ak ((o1.hO)=.cells (o1.hO).cs)<|.ak (aN [.lk .sl,.lk (.int .i64)] ((o1.hO).cs) 0 1 o1.tail)<|NS r1<|.call 13 [.ref 0 0,VI 12] [.cells [((o1.hO).cs.getD 0 .any),VI (((o1.hO).cs.getD 1 .any).toInt)]] fun r2 o2=>.ak ((o2.hO)=.cells (o2.hO).cs)<|.ak (aN [.lk .sl,.lk (.int .i64)] ((o2.hO).cs) 0 1 o2.tail)<|NI r2<|.test (r2.toInt==(0:Int)) (.call 14 [.ref 0 0] [.cells [((o2.hO).cs.getD 0 .any),VI (((o2.hO).cs.getD 1 .any).toInt)]] fun r3 o3=>.ak ((o3.hO)=.cells (o3.hO).cs)<|.ak (aN [.lk .sl,.lk (.int .i64)] ((o3.hO).cs) 0 1 o3.tail)<|NT r3<|NS (r3.comp 0)<|NS (r3.comp 1)<|.done 0 [.cV [VS ((r3.comp 0).ai),VS ((r3.comp 1).ai)]] [.cells [((o3.hO).cs.getD 0 .any),VI (((o3.hO).cs.getD 1 .any).toInt)]]) (.call 15 [.ref 0 0,VS r1.ai] [.cells [((o2.hO).cs.getD 0 .any),VI (((o2.hO).cs.getD 1 .any).toInt)]] fun r4 o4=>.ak ((o4.hO)=.cells (o4.hO).cs)<|.ak (aN [.lk .sl,.lk (.int .i64)] ((o4.hO).cs) 0 1 o4.tail)<|NS r4<|.done 0 [.cV [VS r1.ai,VS r4.ai]] [.cells [((o4.hO).cs.getD 0 .any),VI (((o4.hO).cs.getD 1 .any).toInt)]])
theorem I5(a0_0:AV)(a0_1:Int)(ha0_0:LK.has .sl a0_0)(h:dl 18 (Gg a0_0 a0_1) R):ap Tryz.prog 8 [.ref 0 0] [.cells [a0_0,VI a0_1]] R :=
 ap.mO (bh (bQ (ah (bR ha0_0) (ah (aC _) aD))) cm) (ap.up (ah (aC _) aD) (oF [] {mu:=[(0,.one (.obj [.lk .sl,.lk (.int .i64)]))],own:=[]} Tryz.f8 h))
def GK(a0:AV):Tree :=
 NL a0<|.test (decide ((a0.aO.length:Int)>(2000:Int))) (.ak (LK.has .sl a0/\0<=(0:Int)/\(0:Int)<=(2000:Int)/\(2000:Int)<=(a0.aO.length:Int))<|.done 0 [.ref 0 0] [.cells [.sl ((a0.aO.take (bB 2000)).drop (bB 0)),VI 0]]) (.done 0 [.ref 0 0] [.cells [a0,VI 0]])
theorem Is(a0:AV)(ha0:LK.has .sl a0)(h:dl 11 (GK a0) R):ap Tryz.prog 9 [a0] [] R :=
 uQ (ah (bR ha0) aD) (oF [] {mu:=[],own:=[0],ow:=[.sl,.int .i64]} Tryz.f9 h)
def Ds(a0:ByteArray)(a1:ByteArray):Tree :=
 .call 16 [VS a0,VS a1] [] fun r1 o1=>NT r1<|NP (r1.comp 0)<|NP (r1.comp 1)<|NP (r1.comp 1)<|.test ((r1.comp 1).isNil) (.done 0 [.cV [.v (.slice none 0 0),VB false]] []) (.call 17 [.agg [(r1.comp 1),.v (.slice none 0 0)],.ref 0 0,.ref 2 0,.gm 17 [some 0,some 2,none]] [.cells [.vec 1],.vec 2 [],.cells [(r1.comp 0)]] fun r2 o2=>.ak ((o2.hO)=.cells (o2.hO).cs)<|.ak (aN [.vec 2] ((o2.hO).cs) 0 1 o2.tail)<|.ak ((o2.tail.tail.hO)=.cells (o2.tail.tail.hO).cs)<|.ak (aN [.lk .ptr] ((o2.tail.tail.hO).cs) 0 3 o2.tail.tail.tail)<|.done 0 [.cV [.sl ((o2.tail.hO).es),VB (decide ((((o2.tail.hO).es).length:Int)<=(100:Int)))]] [])
theorem IT(a0:ByteArray)(a1:ByteArray)(h:dl 28 (Ds a0 a1) R):ap Tryz.prog 10 [VS a0,VS a1] [] R :=
 uQ (ah (aC _) (ah (aC _) aD)) (oQ [] Tryz.f10 h)
def EP(a0:ByteArray)(a1:ByteArray):Tree :=
 .call 19 [VS a0] [] fun r1 o1=>NT r1<|.ak ((r1.comp 0)=.agg (r1.comp 0).cs/\(r1.comp 0).cs.length=2/\bJ [.str,.sl] ((r1.comp 0).cs) 0)<|NB (r1.comp 1)<|.call 20 [VS a1] [] fun r2 o2=>NT r2<|.ak ((r2.comp 0)=.agg (r2.comp 0).cs/\(r2.comp 0).cs.length=2/\bJ [.str,.sl] ((r2.comp 0).cs) 0)<|NB (r2.comp 1)<|.test (!((r1.comp 1).toBool)) (.done 0 [.cV [.sl [],VB false]] []) (.call 21 [VS a0,VS a1,VI 100] [] fun r3 o3=>NB r3<|.test (!r3.toBool) (.done 0 [.cV [.sl [],VB false]] []) (.call 22 [.agg [VS (((r1.comp 0).cs.getD 0 .any).ai),((r1.comp 0).cs.getD 1 .any)],.agg [VS (((r2.comp 0).cs.getD 0 .any).ai),((r2.comp 0).cs.getD 1 .any)],.sl [],.vec 0] [.vec 3 []] fun r4 o4=>.ak (r4=.vec 1/\(o4.tail.hO)=.vec 3 (o4.tail.hO).es)<|.done 0 [.cV [.sl ((o4.tail.hO).es),VB (decide ((((o4.tail.hO).es).length:Int)<=(100:Int)))]] []))
theorem Ka(a0:ByteArray)(a1:ByteArray)(h:dl 39 (EP a0 a1) R):ap Tryz.prog 11 [VS a0,VS a1] [] R :=
 uQ (ah (aC _) (ah (aC _) aD)) (oQ [] Tryz.f11 h)
def FZ(a0_0:AV)(a0_1:Int):Tree :=
 .call 23 [.ref 0 0,.sl [[VS (mk [40,114,101,99,32,116,32,40,43,32,49,32,40,42,32,120,32,116,41,41,41])],[VS (mk [40,114,101,99,32,116,32,40,43,32,120,32,40,42,32,116,32,116,41,41,41])],[VS (mk [40,114,101,99,32,116,32,40,43,32,49,32,40,42,32,116,32,40,42,32,120,32,116,41,41,41,41])],[VS (mk [40,114,101,99,32,116,32,40,43,32,49,32,116,41,41])],[VS (mk [40,114,101,99,32,116,32,40,42,32,120,32,40,114,101,99,32,116,49,32,40,43,32,49,32,40,42,32,116,32,116,49,41,41,41,41,41])],[VS (mk [40,114,101,99,32,116,48,32,40,43,32,40,42,32,120,32,121,41,32,40,43,32,116,48,32,40,42,32,116,48,32,116,48,41,41,41,41])],[VS (mk [40,114,101,99,32,116,32,40,43,32,121,32,40,42,32,116,32,40,42,32,116,32,116,41,41,41,41])]]] [.cells [a0_0,VI a0_1]] fun r1 o1=>.ak ((o1.hO)=.cells (o1.hO).cs)<|.ak (aN [.lk .sl,.lk (.int .i64)] ((o1.hO).cs) 0 1 o1.tail)<|NS r1<|.done 0 [VS r1.ai] [.cells [((o1.hO).cs.getD 0 .any),VI (((o1.hO).cs.getD 1 .any).toInt)]]
theorem Iw(a0_0:AV)(a0_1:Int)(ha0_0:LK.has .sl a0_0)(h:dl 6 (FZ a0_0 a0_1) R):ap Tryz.prog 12 [.ref 0 0] [.cells [a0_0,VI a0_1]] R :=
 ap.mO (bh (bQ (ah (bR ha0_0) (ah (aC _) aD))) cm) (ap.up (ah (aC _) aD) (oF [] {mu:=[(0,.one (.obj [.lk .sl,.lk (.int .i64)]))],own:=[]} Tryz.f12 h))
def HL(a0_0:AV)(a0_1:Int)(a1:Int):Tree :=
 .test (decide (a1<(1:Int))) (.done 0 [VI 0] [.cells [a0_0,VI (IntKind.wrap .i64 (a0_1+1))]]) (NL a0_0<|.test ((a0_0.aO.length:Int)==(0:Int)) (.done 0 [VI 0] [.cells [a0_0,VI (IntKind.wrap .i64 (a0_1+1))]]) (NL a0_0<|.test (decide ((IntKind.wrap .i64 ((IntKind.wrap .i64 (a0_1+1))-1))<(a0_0.aO.length:Int))) (.ak (LK.has .sl a0_0/\0<=(IntKind.wrap .i64 ((IntKind.wrap .i64 (a0_1+1))-1))/\(IntKind.wrap .i64 ((IntKind.wrap .i64 (a0_1+1))-1))<a0_0.aO.length/\(a0_0.ix (IntKind.wrap .i64 ((IntKind.wrap .i64 (a0_1+1))-1))).length=1)<|.ak (LK.has (.int .u8) ((a0_0.ix (IntKind.wrap .i64 ((IntKind.wrap .i64 (a0_1+1))-1))).hA)/\1<=(a0_0.ix (IntKind.wrap .i64 ((IntKind.wrap .i64 (a0_1+1))-1))).length)<|.ak (¬a1=0)<|.done 0 [VI (cQ (IntKind.wrap .i64 (((a0_0.ix (IntKind.wrap .i64 ((IntKind.wrap .i64 (a0_1+1))-1))).hA).toInt)) a1)] [.cells [a0_0,VI (IntKind.wrap .i64 (a0_1+1))]]) (NL a0_0<|.ak (¬(a0_0.aO.length:Int)=0)<|.ak (LK.has .sl a0_0/\0<=(cQ (IntKind.wrap .i64 ((IntKind.wrap .i64 (a0_1+1))-1)) (a0_0.aO.length:Int))/\(cQ (IntKind.wrap .i64 ((IntKind.wrap .i64 (a0_1+1))-1)) (a0_0.aO.length:Int))<a0_0.aO.length/\(a0_0.ix (cQ (IntKind.wrap .i64 ((IntKind.wrap .i64 (a0_1+1))-1)) (a0_0.aO.length:Int))).length=1)<|.ak (LK.has (.int .u8) ((a0_0.ix (cQ (IntKind.wrap .i64 ((IntKind.wrap .i64 (a0_1+1))-1)) (a0_0.aO.length:Int))).hA)/\1<=(a0_0.ix (cQ (IntKind.wrap .i64 ((IntKind.wrap .i64 (a0_1+1))-1)) (a0_0.aO.length:Int))).length)<|NL a0_0<|.ak (¬(a0_0.aO.length:Int)=0)<|.ak (LK.has .sl a0_0/\0<=(cQ (IntKind.wrap .i64 ((IntKind.wrap .i64 ((IntKind.wrap .i64 ((IntKind.wrap .i64 (a0_1+1))-1))*7))+3)) (a0_0.aO.length:Int))/\(cQ (IntKind.wrap .i64 ((IntKind.wrap .i64 ((IntKind.wrap .i64 ((IntKind.wrap .i64 (a0_1+1))-1))*7))+3)) (a0_0.aO.length:Int))<a0_0.aO.length/\(a0_0.ix (cQ (IntKind.wrap .i64 ((IntKind.wrap .i64 ((IntKind.wrap .i64 ((IntKind.wrap .i64 (a0_1+1))-1))*7))+3)) (a0_0.aO.length:Int))).length=1)<|.ak (LK.has (.int .u8) ((a0_0.ix (cQ (IntKind.wrap .i64 ((IntKind.wrap .i64 ((IntKind.wrap .i64 ((IntKind.wrap .i64 (a0_1+1))-1))*7))+3)) (a0_0.aO.length:Int))).hA)/\1<=(a0_0.ix (cQ (IntKind.wrap .i64 ((IntKind.wrap .i64 ((IntKind.wrap .i64 ((IntKind.wrap .i64 (a0_1+1))-1))*7))+3)) (a0_0.aO.length:Int))).length)<|NL a0_0<|.ak (¬(a0_0.aO.length:Int)=0)<|.ak (¬(64:Int)=0)<|.ak (¬a1=0)<|.done 0 [VI (cQ (v7 .i64 (IntKind.wrap .i64 ((IntKind.wrap .i64 ((IntKind.wrap .i64 ((IntKind.wrap .i64 ((IntKind.wrap .i64 (((a0_0.ix (cQ (IntKind.wrap .i64 ((IntKind.wrap .i64 (a0_1+1))-1)) (a0_0.aO.length:Int))).hA).toInt))*131))+(IntKind.wrap .i64 ((IntKind.wrap .i64 (((a0_0.ix (cQ (IntKind.wrap .i64 ((IntKind.wrap .i64 ((IntKind.wrap .i64 ((IntKind.wrap .i64 (a0_1+1))-1))*7))+3)) (a0_0.aO.length:Int))).hA).toInt))*1117))))+(IntKind.wrap .i64 ((IntKind.wrap .i64 ((IntKind.wrap .i64 (a0_1+1))-1))*29))))+(IntKind.wrap .i64 ((IntKind.wrap .i64 (Int.tdiv (IntKind.wrap .i64 ((IntKind.wrap .i64 (a0_1+1))-1)) (a0_0.aO.length:Int)))*53)))) (IntKind.wrap .i64 (Int.tdiv (IntKind.wrap .i64 ((IntKind.wrap .i64 ((IntKind.wrap .i64 ((IntKind.wrap .i64 ((IntKind.wrap .i64 (((a0_0.ix (cQ (IntKind.wrap .i64 ((IntKind.wrap .i64 (a0_1+1))-1)) (a0_0.aO.length:Int))).hA).toInt))*131))+(IntKind.wrap .i64 ((IntKind.wrap .i64 (((a0_0.ix (cQ (IntKind.wrap .i64 ((IntKind.wrap .i64 ((IntKind.wrap .i64 ((IntKind.wrap .i64 (a0_1+1))-1))*7))+3)) (a0_0.aO.length:Int))).hA).toInt))*1117))))+(IntKind.wrap .i64 ((IntKind.wrap .i64 ((IntKind.wrap .i64 (a0_1+1))-1))*29))))+(IntKind.wrap .i64 ((IntKind.wrap .i64 (Int.tdiv (IntKind.wrap .i64 ((IntKind.wrap .i64 (a0_1+1))-1)) (a0_0.aO.length:Int)))*53)))) 64))) a1)] [.cells [a0_0,VI (IntKind.wrap .i64 (a0_1+1))]])))
theorem KJ(a0_0:AV)(a0_1:Int)(a1:Int)(ha0_0:LK.has .sl a0_0)(h:dl 99 (HL a0_0 a0_1 a1) R):ap Tryz.prog 13 [.ref 0 0,VI a1] [.cells [a0_0,VI a0_1]] R :=
 ap.mO (bh (bQ (ah (bR ha0_0) (ah (aC _) aD))) cm) (ap.up (ah (aC _) (ah (aC _) aD)) (oF [] {mu:=[(0,.one (.obj [.lk .sl,.lk (.int .i64)]))],own:=[]} Tryz.f13 h))
def GI(a0_0:AV)(a0_1:Int):Tree :=
 .call 24 [.ref 0 0] [.cells [a0_0,VI a0_1]] fun r1 o1=>.ak ((o1.hO)=.cells (o1.hO).cs)<|.ak (aN [.lk .sl,.lk (.int .i64)] ((o1.hO).cs) 0 1 o1.tail)<|NS r1<|.call 15 [.ref 0 0,VS r1.ai] [.cells [((o1.hO).cs.getD 0 .any),VI (((o1.hO).cs.getD 1 .any).toInt)]] fun r2 o2=>.ak ((o2.hO)=.cells (o2.hO).cs)<|.ak (aN [.lk .sl,.lk (.int .i64)] ((o2.hO).cs) 0 1 o2.tail)<|NS r2<|.done 0 [.cV [VS r1.ai,VS r2.ai]] [.cells [((o2.hO).cs.getD 0 .any),VI (((o2.hO).cs.getD 1 .any).toInt)]]
theorem IQ(a0_0:AV)(a0_1:Int)(ha0_0:LK.has .sl a0_0)(h:dl 11 (GI a0_0 a0_1) R):ap Tryz.prog 14 [.ref 0 0] [.cells [a0_0,VI a0_1]] R :=
 ap.mO (bh (bQ (ah (bR ha0_0) (ah (aC _) aD))) cm) (ap.up (ah (aC _) aD) (oF [] {mu:=[(0,.one (.obj [.lk .sl,.lk (.int .i64)]))],own:=[]} Tryz.f14 h))
def DG(a0_0:AV)(a0_1:Int)(a1:ByteArray):Tree :=
 .call 25 [VS a1] [] fun r1 o1=>NT r1<|.ak ((r1.comp 0)=.agg (r1.comp 0).cs/\(r1.comp 0).cs.length=2/\bJ [.str,.sl] ((r1.comp 0).cs) 0)<|NB (r1.comp 1)<|.test (!((r1.comp 1).toBool)) (.call 23 [.ref 0 0,.sl [[VS (mk [])],[VS (mk [117])],[VS (mk [101,48])],[VS (mk [101,48,48])],[VS (mk [101,49,48,48])],[VS (mk [40,108,32,117,41])],[VS (mk [40,112,32,117,41])],[VS (mk [40,102,32,40,108,32,117,41,41])],[VS (mk [40,120,32,117,41])],[VS (mk [40,108,32,32,117,41])]]] [.cells [a0_0,VI a0_1]] fun r2 o2=>.ak ((o2.hO)=.cells (o2.hO).cs)<|.ak (aN [.lk .sl,.lk (.int .i64)] ((o2.hO).cs) 0 1 o2.tail)<|NS r2<|.done 0 [VS r2.ai] [.cells [((o2.hO).cs.getD 0 .any),VI (((o2.hO).cs.getD 1 .any).toInt)]]) (.call 13 [.ref 0 0,VI 16] [.cells [a0_0,VI a0_1]] fun r3 o3=>.ak ((o3.hO)=.cells (o3.hO).cs)<|.ak (aN [.lk .sl,.lk (.int .i64)] ((o3.hO).cs) 0 1 o3.tail)<|NI r3<|.test (r3.toInt==(0:Int)) (.call 23 [.ref 0 0,.sl [[VS (mk [])],[VS (mk [117])],[VS (mk [101,48])],[VS (mk [101,48,48])],[VS (mk [101,49,48,48])],[VS (mk [40,108,32,117,41])],[VS (mk [40,112,32,117,41])],[VS (mk [40,102,32,40,108,32,117,41,41])],[VS (mk [40,120,32,117,41])],[VS (mk [40,108,32,32,117,41])]]] [.cells [((o3.hO).cs.getD 0 .any),VI (((o3.hO).cs.getD 1 .any).toInt)]] fun r4 o4=>.ak ((o4.hO)=.cells (o4.hO).cs)<|.ak (aN [.lk .sl,.lk (.int .i64)] ((o4.hO).cs) 0 1 o4.tail)<|NS r4<|.done 0 [VS r4.ai] [.cells [((o4.hO).cs.getD 0 .any),VI (((o4.hO).cs.getD 1 .any).toInt)]]) (.call 28 [.agg [VS (((r1.comp 0).cs.getD 0 .any).ai),((r1.comp 0).cs.getD 1 .any)],.v (.slice none 0 0)] [] fun r5 o5=>NA r5<|.call 13 [.ref 0 0,VI 5] [.cells [((o3.hO).cs.getD 0 .any),VI (((o3.hO).cs.getD 1 .any).toInt)]] fun r6 o6=>.ak ((o6.hO)=.cells (o6.hO).cs)<|.ak (aN [.lk .sl,.lk (.int .i64)] ((o6.hO).cs) 0 1 o6.tail)<|NI r6<|.call 27 [.ref 0 0,.agg [VS ((r5.cs.getD 0 .any).ai),(r5.cs.getD 1 .any)],VI (IntKind.wrap .i64 (5+r6.toInt))] [.cells [((o6.hO).cs.getD 0 .any),VI (((o6.hO).cs.getD 1 .any).toInt)]] fun r7 o7=>.ak ((o7.hO)=.cells (o7.hO).cs)<|.ak (aN [.lk .sl,.lk (.int .i64)] ((o7.hO).cs) 0 1 o7.tail)<|NA r7<|.call 26 [.agg [VS ((r7.cs.getD 0 .any).ai),(r7.cs.getD 1 .any)]] [] fun r8 o8=>NS r8<|.done 0 [VS r8.ai] [.cells [((o7.hO).cs.getD 0 .any),VI (((o7.hO).cs.getD 1 .any).toInt)]]))
theorem KE(a0_0:AV)(a0_1:Int)(a1:ByteArray)(ha0_0:LK.has .sl a0_0)(h:dl 30 (DG a0_0 a0_1 a1) R):ap Tryz.prog 15 [.ref 0 0,VS a1] [.cells [a0_0,VI a0_1]] R :=
 ap.mO (bh (bQ (ah (bR ha0_0) (ah (aC _) aD))) cm) (ap.up (ah (aC _) (ah (aC _) aD)) (oF [] {mu:=[(0,.one (.obj [.lk .sl,.lk (.int .i64)]))],own:=[]} Tryz.f15 h))
def Fk(a0:ByteArray)(a1:ByteArray):Tree :=
 .call 29 [VS a0] [] fun r1 o1=>NP r1<|NP r1<|.test r1.isNil (.done 0 [.cV [.v (.pointer none),.v (.pointer none)]] []) (.call 30 [VS a0,VS a1,VI 100] [] fun r2 o2=>NT r2<|NP (r2.comp 0)<|NP (r2.comp 1)<|.done 0 [.cV [(r2.comp 0),(r2.comp 1)]] [])
theorem Ke(a0:ByteArray)(a1:ByteArray)(h:dl 14 (Fk a0 a1) R):ap Tryz.prog 16 [VS a0,VS a1] [] R :=
 uQ (ah (aC _) (ah (aC _) aD)) (oQ [] Tryz.f16 h)
def Bc:LI:={hd:={bD:=[(17,.k .sl),(18,.k (.int .i64)),(19,.k (.int .i64))],refs:=[(4,4)],bW:=[(4,[.lk .ptr,.lk .sl]),(0,[.vec 2]),(2,[.lk .ptr])],sW:=[(3,17,[some 0,some 2,none])]},xs:={bW:=[(0,[.vec 2]),(2,[.lk .ptr])]},rt:={bW:=[(0,[.vec 2]),(2,[.lk .ptr])]},ex:=0,fx:=[0,2]}
def FF:Code:=cz (cr Tryz.f17) 4
def GC:List (Nat×LI):=[(4,Bc)]
def EE(a0_0:AV)(a0_1:AV)(e1_0:List (List AV))(a2_0:AV):Tree :=
 .ak (bU 2 [[a0_0,a0_1]]/\((e1_0.length)+([[a0_0,a0_1]]:List (List AV)).length)*32<=140737488355328)<|.test (decide (((e1_0++([[a0_0,a0_1]]:List (List AV))).length:Int)>(100:Int))) (.done 0 [.any] [.cells [.vec 1],.vec 2 (e1_0++([[a0_0,a0_1]]:List (List AV))),.cells [a2_0]]) (.call 18 [a2_0,a0_0] [] fun r1 o1=>NL r1<|NL r1<|.loop FF Bc [r1,VI (r1.aO.length:Int),VI 0] [.cells [a0_0,a0_1],.cells [.any],.vec 2 (e1_0++([[a0_0,a0_1]]:List (List AV))),.cells [a2_0]] (fun y3 q3=>.ak ((q3.hO)=.cells (q3.hO).cs)<|.ak (ae [.vec 2] ((q3.hO).cs) 0 q3.tail)<|.ak (((q3.tail.drop 1).hO)=.cells ((q3.tail.drop 1).hO).cs)<|.ak (ae [.lk .ptr] (((q3.tail.drop 1).hO).cs) 0 ((q3.tail.drop 1).tail))<|.done 0 [.any] [.cells [.vec 1],.vec 2 ((q3.tail.hO).es),.cells [((q3.tail.tail.hO).cs.getD 0 .any)]]) (fun y3 q3=>.ak ((q3.hO)=.cells (q3.hO).cs)<|.ak (ae [.vec 2] ((q3.hO).cs) 0 q3.tail)<|.ak (((q3.tail.drop 1).hO)=.cells ((q3.tail.drop 1).hO).cs)<|.ak (ae [.lk .ptr] (((q3.tail.drop 1).hO).cs) 0 ((q3.tail.drop 1).tail))<|.done 0 [.any] [.cells [.vec 1],.vec 2 ((q3.tail.hO).es),.cells [((q3.tail.tail.hO).cs.getD 0 .any)]]))
theorem JY(a0_0:AV)(a0_1:AV)(e1_0:List (List AV))(a2_0:AV)(ha0_0:LK.has .ptr a0_0)(ha0_1:LK.has .sl a0_1)(ha2_0:LK.has .ptr a2_0)(h:dl 37 (EE a0_0 a0_1 e1_0 a2_0) R):ap Tryz.prog 17 [.agg [a0_0,a0_1],.ref 0 0,.ref 2 0,.gm 17 [some 0,some 2,none]] [.cells [.vec 1],.vec 2 e1_0,.cells [a2_0]] R :=
 ap.mO (bh (bQ (ah (aC _) aD)) (bh (eg _) (bh (bQ (ah (bO ha2_0) aD)) cm))) (ap.up (ah (cw (ah (bO ha0_0) (ah (bR ha0_1) aD))) (ah (aC _) (ah (aC _) (ah (aC _) aD)))) (oF GC {mu:=[(1,.one (.obj [.vec 2])),(2,.one (.obj [.lk .ptr])),(3,.clo 17 [some 0,some 2,none])],own:=[]} Tryz.f17 h))
def B4(x17:AV)(x18:Int)(x19:Int)(o4_0:AV)(o4_1:AV)(o0_0:List (List AV))(o2_0:AV):Tree :=
 NL x17<|NI (VI x18)<|NI (VI x19)<|.ak (Ob.cells [o4_0,o4_1]=.cells [o4_0,o4_1])<|.ak (ae [.lk .ptr,.lk .sl] [o4_0,o4_1] 0 [.cells [.any],.vec 2 o0_0,.cells [o2_0]])<|.ak (Ob.cells [.any]=.cells [.any])<|.ak (ae [.vec 2] [.any] 0 [.vec 2 o0_0,.cells [o2_0]])<|.ak (Ob.cells [o2_0]=.cells [o2_0])<|.ak (ae [.lk .ptr] [o2_0] 0 [])<|.test (decide (x19<x18)) (NG x17 x19 2<|.ak (bJ [.ptr,.ptr] (x17.ix x19) 0/\2<=(x17.ix x19).length)<|.ak (LK.has .sl o4_1/\bU 1 o4_1.aO/\((([]:List (List AV)).length)+o4_1.aO.length)*8<=140737488355328)<|.ak (bU 1 [[VI x19]]/\(((([]:List (List AV))++o4_1.aO).length)+([[VI x19]]:List (List AV)).length)*8<=140737488355328)<|.call 17 [.agg [((x17.ix x19).getD 1 .any),.sl ((([]:List (List AV))++o4_1.aO)++([[VI x19]]:List (List AV)))],.ref 0 0,.ref 2 0,.gm 17 [some 0,some 2,none]] [.cells [.vec 1],.vec 2 o0_0,.cells [o2_0]] fun r1 o1=>.ak ((o1.hO)=.cells (o1.hO).cs)<|.ak (aN [.vec 2] ((o1.hO).cs) 0 1 o1.tail)<|.ak ((o1.tail.tail.hO)=.cells (o1.tail.tail.hO).cs)<|.ak (aN [.lk .ptr] ((o1.tail.tail.hO).cs) 0 3 o1.tail.tail.tail)<|.done 0 [x17,VI x18,VI (IntKind.wrap .i64 (x19+1))] [.cells [o4_0,o4_1],.cells [.any],.vec 2 ((o1.tail.hO).es),.cells [((o1.tail.tail.hO).cs.getD 0 .any)]]) (.done 1 [] [.cells [.any],.vec 2 o0_0,.cells [o2_0]])
abbrev Bz:=cg Tryz.prog 37 FF Bc
theorem Eo(x17:AV)(x18:Int)(x19:Int)(o4_0:AV)(o4_1:AV)(o0_0:List (List AV))(o2_0:AV)(h:j6 37 (B4 x17 x18 x19 o4_0 o4_1 o0_0 o2_0) Bz U):Bz [x17,VI x18,VI x19] [.cells [o4_0,o4_1],.cells [.any],.vec 2 o0_0,.cells [o2_0]] U :=
 gQ GC h
def DI(a0:AV)(a1:AV):Tree :=
 .call 31 [.agg [a0,.v (.pointer none)]] [] fun r1 o1=>NT r1<|.ak ((r1.comp 0)=.agg (r1.comp 0).cs/\(r1.comp 0).cs.length=2/\bJ [.ptr,.ptr] ((r1.comp 0).cs) 0)<|NP (r1.comp 1)<|NZ a1<|NZ a1<|gx (a1.deref.drop 2)<|.call 32 [.agg [((r1.comp 0).cs.getD 0 .any),((r1.comp 0).cs.getD 1 .any)],((a1.deref.drop 2).hA),.agg [VS (mk []),(r1.comp 1)]] [] fun r2 o2=>NL r2<|.done 0 [r2] []
theorem J8(a0:AV)(a1:AV)(ha0:LK.has .ptr a0)(ha1:LK.has .ptr a1)(h:dl 21 (DI a0 a1) R):ap Tryz.prog 18 [a0,a1] [] R :=
 uQ (ah (bO ha0) (ah (bO ha1) aD)) (oQ [] Tryz.f18 h)
def GV(a0:ByteArray):Tree :=
 .call 25 [VS a0] [] fun r1 o1=>NT r1<|.ak ((r1.comp 0)=.agg (r1.comp 0).cs/\(r1.comp 0).cs.length=2/\bJ [.str,.sl] ((r1.comp 0).cs) 0)<|NB (r1.comp 1)<|.test ((r1.comp 1).toBool) (.call 33 [.agg [VS (((r1.comp 0).cs.getD 0 .any).ai),((r1.comp 0).cs.getD 1 .any)]] [] fun r2 o2=>NS r2<|.done 0 [.cV [.agg [VS (((r1.comp 0).cs.getD 0 .any).ai),((r1.comp 0).cs.getD 1 .any)],VB (ac r2.ai==ac (mk [114,101,99]))]] []) (.done 0 [.cV [.agg [VS (((r1.comp 0).cs.getD 0 .any).ai),((r1.comp 0).cs.getD 1 .any)],VB false]] [])
theorem I2(a0:ByteArray)(h:dl 18 (GV a0) R):ap Tryz.prog 19 [VS a0] [] R :=
 uQ (ah (aC _) aD) (oQ [] Tryz.f19 h)
def Ic(a0:ByteArray):Tree :=
 .call 34 [VS a0] [] fun r1 o1=>NT r1<|.ak ((r1.comp 0)=.agg (r1.comp 0).cs/\(r1.comp 0).cs.length=2/\bJ [.str,.sl] ((r1.comp 0).cs) 0)<|NB (r1.comp 1)<|.test ((r1.comp 1).toBool) (.call 35 [.agg [VS (((r1.comp 0).cs.getD 0 .any).ai),((r1.comp 0).cs.getD 1 .any)]] [] fun r2 o2=>NB r2<|.test r2.toBool (.call 36 [.agg [VS (((r1.comp 0).cs.getD 0 .any).ai),((r1.comp 0).cs.getD 1 .any)]] [] fun r3 o3=>NI r3<|.done 0 [.cV [.agg [VS (((r1.comp 0).cs.getD 0 .any).ai),((r1.comp 0).cs.getD 1 .any)],VB (decide (r3.toInt<=(200:Int)))]] []) (.done 0 [.cV [.agg [VS (((r1.comp 0).cs.getD 0 .any).ai),((r1.comp 0).cs.getD 1 .any)],VB false]] [])) (.done 0 [.cV [.agg [VS (((r1.comp 0).cs.getD 0 .any).ai),((r1.comp 0).cs.getD 1 .any)],VB false]] [])
theorem JE(a0:ByteArray)(h:dl 22 (Ic a0) R):ap Tryz.prog 20 [VS a0] [] R :=
 uQ (ah (aC _) aD) (oQ [] Tryz.f20 h)
def FG(a0:ByteArray)(a1:ByteArray)(a2:Int):Tree :=
 .call 25 [VS a0] [] fun r1 o1=>NT r1<|.ak ((r1.comp 0)=.agg (r1.comp 0).cs/\(r1.comp 0).cs.length=2/\bJ [.str,.sl] ((r1.comp 0).cs) 0)<|NB (r1.comp 1)<|.call 20 [VS a1] [] fun r2 o2=>NT r2<|.ak ((r2.comp 0)=.agg (r2.comp 0).cs/\(r2.comp 0).cs.length=2/\bJ [.str,.sl] ((r2.comp 0).cs) 0)<|NB (r2.comp 1)<|.test ((r1.comp 1).toBool) (.test ((r2.comp 1).toBool) (.call 37 [VI a2,VI 0,VI 100] [] fun r3 o3=>NB r3<|.test r3.toBool (.call 38 [.agg [VS (((r1.comp 0).cs.getD 0 .any).ai),((r1.comp 0).cs.getD 1 .any)],.sl [],.agg [VS (((r2.comp 0).cs.getD 0 .any).ai),((r2.comp 0).cs.getD 1 .any)],VI a2] [] fun r4 o4=>NB r4<|.done 0 [VB r4.toBool] []) (.done 0 [VB false] [])) (.done 0 [VB false] [])) (.done 0 [VB false] [])
theorem JO(a0:ByteArray)(a1:ByteArray)(a2:Int)(h:dl 36 (FG a0 a1 a2) R):ap Tryz.prog 21 [VS a0,VS a1,VI a2] [] R :=
 uQ (ah (aC _) (ah (aC _) (ah (aC _) aD))) (oQ [] Tryz.f21 h)
def CO:LI:={hd:={bD:=[(2,.k .sl),(9,.k .sl),(10,.k (.int .i64))],refs:=[(4,4)],bW:=[(4,[.lk .str,.lk .sl])],dL:=[(3,3)]},xs:={dL:=[(3,3)]},rt:={},ex:=0}
def EK:Code:=cz (cr Tryz.f22) 4
def DO:List (Nat×LI):=[(4,CO)]
def F9(a0_0:ByteArray)(a0_1:AV)(a1_0:ByteArray)(a1_1:AV)(a2:AV)(e3:List (List AV)):Tree :=
 .call 26 [.agg [VS a1_0,a1_1]] [] fun r1 o1=>NS r1<|.ak (bU 3 [[a2,VS r1.ai,VS (mk [])]]/\((e3.length)+([[a2,VS r1.ai,VS (mk [])]]:List (List AV)).length)*56<=140737488355328)<|NG a0_1 2 2<|NE (a0_1.ix (2:Int))<|NG a0_1 1 2<|nq (a0_1.ix (1:Int))<|NG a1_1 1 2<|NE (a1_1.ix (1:Int))<|.call 39 [.agg [VS (((a0_1.ix (2:Int)).getD 0 .any).ai),((a0_1.ix (2:Int)).getD 1 .any)],VS (((a0_1.ix (1:Int)).hA).ai),.agg [VS (((a1_1.ix (1:Int)).getD 0 .any).ai),((a1_1.ix (1:Int)).getD 1 .any)]] [] fun r2 o2=>NL r2<|.loop EK CO [a2,r2,VI 0] [.cells [VS a0_0,a0_1],.vec 3 (e3++([[a2,VS r1.ai,VS (mk [])]]:List (List AV)))] (fun y4 q4=>.ak (((q4.drop 0).hO)=.vec 3 ((q4.drop 0).hO).es)<|.done 0 [.vec 1] [.dead,.vec 3 ((q4.hO).es)]) (fun y4 q4=>.fail)
theorem Jl(a0_0:ByteArray)(a0_1:AV)(a1_0:ByteArray)(a1_1:AV)(a2:AV)(e3:List (List AV))(ha0_1:LK.has .sl a0_1)(ha1_1:LK.has .sl a1_1)(ha2:LK.has .sl a2)(h:dl 58 (F9 a0_0 a0_1 a1_0 a1_1 a2 e3) R):ap Tryz.prog 22 [.agg [VS a0_0,a0_1],.agg [VS a1_0,a1_1],a2,.vec 0] [.vec 3 e3] R :=
 ap.mO (bh (eg _) cm) (ap.up (ah (cw (ah (aC _) (ah (bR ha0_1) aD))) (ah (cw (ah (aC _) (ah (bR ha1_1) aD))) (ah (bR ha2) (ah (aC _) aD)))) (oF DO {mu:=[(3,.one (.vec))],own:=[0]} Tryz.f22 h))
def BG(x2:AV)(x9:AV)(x10:Int)(o4_0:ByteArray)(o4_1:AV)(e3:List (List AV)):Tree :=
 NL x2<|NL x9<|NI (VI x10)<|.ak (Ob.cells [VS o4_0,o4_1]=.cells [VS o4_0,o4_1])<|.ak (ae [.lk .str,.lk .sl] [VS o4_0,o4_1] 0 [.vec 3 e3])<|.ak (Ob.vec 3 e3=.vec 3 e3)<|NL x9<|.test (decide (x10<(x9.aO.length:Int))) (.test (decide ((e3.length:Int)<=(100:Int))) (NG x9 x10 4<|NE ((x9.ix x10).drop 2)<|.ak (LK.has .sl x2/\bU 1 x2.aO/\((([]:List (List AV)).length)+x2.aO.length)*8<=140737488355328)<|.ak (bU 1 [[VI x10]]/\(((([]:List (List AV))++x2.aO).length)+([[VI x10]]:List (List AV)).length)*8<=140737488355328)<|.call 22 [.agg [VS o4_0,o4_1],.agg [VS ((((x9.ix x10).drop 2).getD 0 .any).ai),(((x9.ix x10).drop 2).getD 1 .any)],.sl ((([]:List (List AV))++x2.aO)++([[VI x10]]:List (List AV))),.vec 0] [.vec 3 e3] fun r1 o1=>.ak (r1=.vec 1/\(o1.tail.hO)=.vec 3 (o1.tail.hO).es)<|.done 0 [x2,x9,VI (IntKind.wrap .i64 (x10+1))] [.cells [VS o4_0,o4_1],.vec 3 ((o1.tail.hO).es)]) (.done 1 [] [.vec 3 e3])) (.done 1 [] [.vec 3 e3])
abbrev AA:=cg Tryz.prog 58 EK CO
theorem Fh(x2:AV)(x9:AV)(x10:Int)(o4_0:ByteArray)(o4_1:AV)(e3:List (List AV))(h:j6 58 (BG x2 x9 x10 o4_0 o4_1 e3) AA U):AA [x2,x9,VI x10] [.cells [VS o4_0,o4_1],.vec 3 e3] U :=
 gQ DO h
def Fp(a0_0:AV)(a0_1:Int)(a1:AV):Tree :=
 NL a1<|.call 13 [.ref 0 0,VI (a1.aO.length:Int)] [.cells [a0_0,VI a0_1]] fun r1 o1=>.ak ((o1.hO)=.cells (o1.hO).cs)<|.ak (aN [.lk .sl,.lk (.int .i64)] ((o1.hO).cs) 0 1 o1.tail)<|NI r1<|.ak (LK.has .sl a1/\0<=r1.toInt/\r1.toInt<a1.aO.length/\(a1.aO.getD r1.toInt.toNat []).length=1)<|nq (a1.aO.getD r1.toInt.toNat [])<|.done 0 [VS (((a1.aO.getD r1.toInt.toNat []).hA).ai)] [.cells [((o1.hO).cs.getD 0 .any),VI (((o1.hO).cs.getD 1 .any).toInt)]]
theorem Kj(a0_0:AV)(a0_1:Int)(a1:AV)(ha1:LK.has .sl a1)(ha0_0:LK.has .sl a0_0)(h:dl 12 (Fp a0_0 a0_1 a1) R):ap Tryz.prog 23 [.ref 0 0,a1] [.cells [a0_0,VI a0_1]] R :=
 ap.mO (bh (bQ (ah (bR ha0_0) (ah (aC _) aD))) cm) (ap.up (ah (aC _) (ah (bR ha1) aD)) (oF [] {mu:=[(0,.one (.obj [.lk .sl,.lk (.int .i64)]))],own:=[]} Tryz.f23 h))
def Gl(a0_0:AV)(a0_1:Int):Tree :=
 .call 13 [.ref 0 0,VI 8] [.cells [a0_0,VI a0_1]] fun r1 o1=>.ak ((o1.hO)=.cells (o1.hO).cs)<|.ak (aN [.lk .sl,.lk (.int .i64)] ((o1.hO).cs) 0 1 o1.tail)<|NI r1<|.test (r1.toInt==(0:Int)) (.call 40 [.ref 0 0] [.cells [((o1.hO).cs.getD 0 .any),VI (((o1.hO).cs.getD 1 .any).toInt)]] fun r2 o2=>.ak ((o2.hO)=.cells (o2.hO).cs)<|.ak (aN [.lk .sl,.lk (.int .i64)] ((o2.hO).cs) 0 1 o2.tail)<|NS r2<|.done 0 [VS r2.ai] [.cells [((o2.hO).cs.getD 0 .any),VI (((o2.hO).cs.getD 1 .any).toInt)]]) (.test (r1.toInt==(1:Int)) (.call 41 [.ref 0 0,.sl [],VI 3] [.cells [((o1.hO).cs.getD 0 .any),VI (((o1.hO).cs.getD 1 .any).toInt)]] fun r3 o3=>.ak ((o3.hO)=.cells (o3.hO).cs)<|.ak (aN [.lk .sl,.lk (.int .i64)] ((o3.hO).cs) 0 1 o3.tail)<|NS r3<|.done 0 [VS r3.ai] [.cells [((o3.hO).cs.getD 0 .any),VI (((o3.hO).cs.getD 1 .any).toInt)]]) (.test (r1.toInt==(2:Int)) (.call 41 [.ref 0 0,.sl [],VI 3] [.cells [((o1.hO).cs.getD 0 .any),VI (((o1.hO).cs.getD 1 .any).toInt)]] fun r4 o4=>.ak ((o4.hO)=.cells (o4.hO).cs)<|.ak (aN [.lk .sl,.lk (.int .i64)] ((o4.hO).cs) 0 1 o4.tail)<|NS r4<|.done 0 [VS r4.ai] [.cells [((o4.hO).cs.getD 0 .any),VI (((o4.hO).cs.getD 1 .any).toInt)]]) (.test (r1.toInt==(3:Int)) (.call 41 [.ref 0 0,.sl [],VI 3] [.cells [((o1.hO).cs.getD 0 .any),VI (((o1.hO).cs.getD 1 .any).toInt)]] fun r5 o5=>.ak ((o5.hO)=.cells (o5.hO).cs)<|.ak (aN [.lk .sl,.lk (.int .i64)] ((o5.hO).cs) 0 1 o5.tail)<|NS r5<|.done 0 [VS r5.ai] [.cells [((o5.hO).cs.getD 0 .any),VI (((o5.hO).cs.getD 1 .any).toInt)]]) (.call 12 [.ref 0 0] [.cells [((o1.hO).cs.getD 0 .any),VI (((o1.hO).cs.getD 1 .any).toInt)]] fun r6 o6=>.ak ((o6.hO)=.cells (o6.hO).cs)<|.ak (aN [.lk .sl,.lk (.int .i64)] ((o6.hO).cs) 0 1 o6.tail)<|NS r6<|.done 0 [VS r6.ai] [.cells [((o6.hO).cs.getD 0 .any),VI (((o6.hO).cs.getD 1 .any).toInt)]]))))
theorem Jh(a0_0:AV)(a0_1:Int)(ha0_0:LK.has .sl a0_0)(h:dl 18 (Gl a0_0 a0_1) R):ap Tryz.prog 24 [.ref 0 0] [.cells [a0_0,VI a0_1]] R :=
 ap.mO (bh (bQ (ah (bR ha0_0) (ah (aC _) aD))) cm) (ap.up (ah (aC _) aD) (oF [] {mu:=[(0,.one (.obj [.lk .sl,.lk (.int .i64)]))],own:=[]} Tryz.f24 h))
def BM:LI:={hd:={bD:=[(7,.k (.int .i64))],refs:=[(2,2),(4,4)],bW:=[(2,[.lk .str,.lk .sl]),(4,[.lk .str,.lk .sl])],dL:=[(6,1)]},xs:={refs:=[(2,2),(4,4)],bW:=[(2,[.lk .str,.lk .sl]),(4,[.lk .str,.lk .sl])]},rt:={bD:=[(3,.k .bool)],refs:=[(2,2)],bW:=[(2,[.lk .str,.lk .sl])]},ex:=0}
def Ge:Code:=cz (cr Tryz.f25) 6
def D8:List (Nat×LI):=[(6,BM)]
def HC(a0:ByteArray):Tree :=
 .call 42 [VS a0] [] fun r1 o1=>NT r1<|.ak ((r1.comp 0)=.agg (r1.comp 0).cs/\(r1.comp 0).cs.length=2/\bJ [.str,.sl] ((r1.comp 0).cs) 0)<|NB (r1.comp 1)<|.test (!((r1.comp 1).toBool)) (.done 0 [.cV [.agg [VS (((r1.comp 0).cs.getD 0 .any).ai),((r1.comp 0).cs.getD 1 .any)],VB false]] []) (.call 43 [.agg [VS (((r1.comp 0).cs.getD 0 .any).ai),((r1.comp 0).cs.getD 1 .any)],.sl [],.vec 0] [.vec 1 []] fun r2 o2=>.ak (r2=.vec 1/\(o2.tail.hO)=.vec 1 (o2.tail.hO).es)<|.loop Ge BM [VI 0] [.cells [VS (mk []),.v (.slice none 0 0)],.cells [VS (((r1.comp 0).cs.getD 0 .any).ai),((r1.comp 0).cs.getD 1 .any)],.vec 1 ((o2.tail.hO).es)] (fun y4 q4=>.ak ((q4.hO)=.cells (q4.hO).cs)<|.ak (ae [.lk .str,.lk .sl] ((q4.hO).cs) 0 q4.tail)<|.ak (((q4.tail.drop 0).hO)=.cells ((q4.tail.drop 0).hO).cs)<|.ak (ae [.lk .str,.lk .sl] (((q4.tail.drop 0).hO).cs) 0 ((q4.tail.drop 0).tail))<|.done 0 [.cV [.agg [VS (((q4.tail.hO).cs.getD 0 .any).ai),((q4.tail.hO).cs.getD 1 .any)],VB true]] []) (fun y4 q4=>NB (y4.hA)<|.ak ((q4.hO)=.cells (q4.hO).cs)<|.ak (ae [.lk .str,.lk .sl] ((q4.hO).cs) 0 q4.tail)<|.done 0 [.cV [.agg [VS (((q4.hO).cs.getD 0 .any).ai),((q4.hO).cs.getD 1 .any)],VB ((y4.hA).toBool)]] []))
theorem Jf(a0:ByteArray)(h:dl 33 (HC a0) R):ap Tryz.prog 25 [VS a0] [] R :=
 uQ (ah (aC _) aD) (oQ D8 Tryz.f25 h)
def Bl(x7:Int)(o2_0:ByteArray)(o2_1:AV)(o4_0:ByteArray)(o4_1:AV)(e6:List (List AV)):Tree :=
 NI (VI x7)<|.ak (Ob.cells [VS o2_0,o2_1]=.cells [VS o2_0,o2_1])<|.ak (ae [.lk .str,.lk .sl] [VS o2_0,o2_1] 0 [.cells [VS o4_0,o4_1],.vec 1 e6])<|.ak (Ob.cells [VS o4_0,o4_1]=.cells [VS o4_0,o4_1])<|.ak (ae [.lk .str,.lk .sl] [VS o4_0,o4_1] 0 [.vec 1 e6])<|.ak (Ob.vec 1 e6=.vec 1 e6)<|.test (decide (x7<(e6.length:Int))) (.ak (0<=x7/\x7<e6.length)<|.ak (x7.toNat<e6.length/\0<(e6.getD x7.toNat []).length/\LK.has .str ((e6.getD x7.toNat []).getD 0 .any))<|.call 44 [VS (((e6.getD x7.toNat []).getD 0 .any).ai)] [] fun r1 o1=>NB r1<|.test r1.toBool (.done 2 [VB false] [.cells [VS o4_0,o4_1]]) (.done 0 [VI (IntKind.wrap .i64 (x7+1))] [.cells [VS o2_0,o2_1],.cells [VS o4_0,o4_1],.vec 1 e6])) (.done 1 [] [.cells [VS o2_0,o2_1],.cells [VS o4_0,o4_1]])
abbrev Cg:=cg Tryz.prog 33 Ge BM
theorem Hg(x7:Int)(o2_0:ByteArray)(o2_1:AV)(o4_0:ByteArray)(o4_1:AV)(e6:List (List AV))(h:j6 33 (Bl x7 o2_0 o2_1 o4_0 o4_1 e6) Cg U):Cg [VI x7] [.cells [VS o2_0,o2_1],.cells [VS o4_0,o4_1],.vec 1 e6] U :=
 gQ D8 h
def Bv:LI:={hd:={bD:=[(3,.k .str),(4,.k (.int .i64))],refs:=[(1,1)],bW:=[(1,[.lk .str,.lk .sl])]},xs:={bD:=[(3,.k .str)]},rt:={},ex:=0}
def Es:Code:=cz (cr Tryz.f26) 5
def DE:List (Nat×LI):=[(5,Bv)]
def yt(a0_0:ByteArray)(a0_1:AV):Tree :=
 .test (!(ac a0_0==ac (mk []))) (.done 0 [VS a0_0] []) (.loop Es Bv [VS (mk [40]),VI 0] [.cells [VS a0_0,a0_1]] (fun y3 q3=>NS (y3.hA)<|.ak (ag ((y3.hA).ai)+ag (mk [41])<=9223372036854775807)<|.done 0 [VS ((((y3.hA).ai):ByteArray)++(mk [41]))] []) (fun y3 q3=>.done 0 [.any] []))
theorem As(a0_0:ByteArray)(a0_1:AV)(ha0_1:LK.has .sl a0_1)(h:dl 31 (yt a0_0 a0_1) R):ap Tryz.prog 26 [.agg [VS a0_0,a0_1]] [] R :=
 uQ (ah (cw (ah (aC _) (ah (bR ha0_1) aD))) aD) (oQ DE Tryz.f26 h)
def vR(x3:ByteArray)(x4:Int)(o1_0:ByteArray)(o1_1:AV):Tree :=
 NS (VS x3)<|NI (VI x4)<|.ak (Ob.cells [VS o1_0,o1_1]=.cells [VS o1_0,o1_1])<|.ak (ae [.lk .str,.lk .sl] [VS o1_0,o1_1] 0 [])<|NL o1_1<|.test (decide (x4<(o1_1.aO.length:Int))) (.test (decide (x4>(0:Int))) (.ak (ag x3+ag (mk [32])<=9223372036854775807)<|NG o1_1 x4 2<|NE (o1_1.ix x4)<|.call 26 [.agg [VS (((o1_1.ix x4).getD 0 .any).ai),((o1_1.ix x4).getD 1 .any)]] [] fun r1 o1=>NS r1<|.ak (ag ((x3:ByteArray)++(mk [32]))+ag r1.ai<=9223372036854775807)<|.done 0 [VS ((((x3:ByteArray)++(mk [32])):ByteArray)++r1.ai),VI (IntKind.wrap .i64 (x4+1))] [.cells [VS o1_0,o1_1]]) (NG o1_1 x4 2<|NE (o1_1.ix x4)<|.call 26 [.agg [VS (((o1_1.ix x4).getD 0 .any).ai),((o1_1.ix x4).getD 1 .any)]] [] fun r2 o2=>NS r2<|.ak (ag x3+ag r2.ai<=9223372036854775807)<|.done 0 [VS ((x3:ByteArray)++r2.ai),VI (IntKind.wrap .i64 (x4+1))] [.cells [VS o1_0,o1_1]])) (.done 1 [VS x3] [])
abbrev vQ:=cg Tryz.prog 31 Es Bv
theorem zu(x3:ByteArray)(x4:Int)(o1_0:ByteArray)(o1_1:AV)(h:j6 31 (vR x3 x4 o1_0 o1_1) vQ U):vQ [VS x3,VI x4] [.cells [VS o1_0,o1_1]] U :=
 gQ DE h
def xL(a0_0:AV)(a0_1:Int)(a1_0:ByteArray)(a1_1:AV)(a2:Int):Tree :=
 .call 33 [.agg [VS a1_0,a1_1]] [] fun r1 o1=>NS r1<|.test (ac r1.ai==ac (mk [43])) (.call 13 [.ref 0 0,VI 2] [.cells [a0_0,VI a0_1]] fun r2 o2=>.ak ((o2.hO)=.cells (o2.hO).cs)<|.ak (aN [.lk .sl,.lk (.int .i64)] ((o2.hO).cs) 0 1 o2.tail)<|NI r2<|NG a1_1 1 2<|NE (a1_1.ix (1:Int))<|.call 45 [.agg [VS (((a1_1.ix (1:Int)).getD 0 .any).ai),((a1_1.ix (1:Int)).getD 1 .any)],.sl []] [] fun r3 o3=>NB r3<|.test r3.toBool (.test ((1:Int)==(0:Int)) (NG a1_1 1 2<|NE (a1_1.ix (1:Int))<|.call 27 [.ref 0 0,.agg [VS (((a1_1.ix (1:Int)).getD 0 .any).ai),((a1_1.ix (1:Int)).getD 1 .any)],VI (IntKind.wrap .i64 (a2-1))] [.cells [((o2.hO).cs.getD 0 .any),VI (((o2.hO).cs.getD 1 .any).toInt)]] fun r4 o4=>.ak ((o4.hO)=.cells (o4.hO).cs)<|.ak (aN [.lk .sl,.lk (.int .i64)] ((o4.hO).cs) 0 1 o4.tail)<|NA r4<|.call 47 [VS (mk [108]),.sl [[VS ((r4.cs.getD 0 .any).ai),(r4.cs.getD 1 .any)]]] [] fun r5 o5=>NA r5<|.done 0 [.agg [VS ((r5.cs.getD 0 .any).ai),(r5.cs.getD 1 .any)]] [.cells [((o4.hO).cs.getD 0 .any),VI (((o4.hO).cs.getD 1 .any).toInt)]]) (NG a1_1 2 2<|NE (a1_1.ix (2:Int))<|.call 27 [.ref 0 0,.agg [VS (((a1_1.ix (2:Int)).getD 0 .any).ai),((a1_1.ix (2:Int)).getD 1 .any)],VI (IntKind.wrap .i64 (a2-1))] [.cells [((o2.hO).cs.getD 0 .any),VI (((o2.hO).cs.getD 1 .any).toInt)]] fun r6 o6=>.ak ((o6.hO)=.cells (o6.hO).cs)<|.ak (aN [.lk .sl,.lk (.int .i64)] ((o6.hO).cs) 0 1 o6.tail)<|NA r6<|.call 47 [VS (mk [114]),.sl [[VS ((r6.cs.getD 0 .any).ai),(r6.cs.getD 1 .any)]]] [] fun r7 o7=>NA r7<|.done 0 [.agg [VS ((r7.cs.getD 0 .any).ai),(r7.cs.getD 1 .any)]] [.cells [((o6.hO).cs.getD 0 .any),VI (((o6.hO).cs.getD 1 .any).toInt)]])) (.test (decide (a2<=(0:Int))) (NG a1_1 1 2<|NE (a1_1.ix (1:Int))<|.call 46 [.agg [VS (((a1_1.ix (1:Int)).getD 0 .any).ai),((a1_1.ix (1:Int)).getD 1 .any)]] [] fun r8 o8=>NI r8<|NG a1_1 2 2<|NE (a1_1.ix (2:Int))<|.call 46 [.agg [VS (((a1_1.ix (2:Int)).getD 0 .any).ai),((a1_1.ix (2:Int)).getD 1 .any)]] [] fun r9 o9=>NI r9<|.test (decide (r8.toInt>r9.toInt)) (NG a1_1 2 2<|NE (a1_1.ix (2:Int))<|.call 45 [.agg [VS (((a1_1.ix (2:Int)).getD 0 .any).ai),((a1_1.ix (2:Int)).getD 1 .any)],.sl []] [] fun r10 o10=>NB r10<|.test (!r10.toBool) (.test ((1:Int)==(0:Int)) (NG a1_1 1 2<|NE (a1_1.ix (1:Int))<|.call 27 [.ref 0 0,.agg [VS (((a1_1.ix (1:Int)).getD 0 .any).ai),((a1_1.ix (1:Int)).getD 1 .any)],VI (IntKind.wrap .i64 (a2-1))] [.cells [((o2.hO).cs.getD 0 .any),VI (((o2.hO).cs.getD 1 .any).toInt)]] fun r11 o11=>.ak ((o11.hO)=.cells (o11.hO).cs)<|.ak (aN [.lk .sl,.lk (.int .i64)] ((o11.hO).cs) 0 1 o11.tail)<|NA r11<|.call 47 [VS (mk [108]),.sl [[VS ((r11.cs.getD 0 .any).ai),(r11.cs.getD 1 .any)]]] [] fun r12 o12=>NA r12<|.done 0 [.agg [VS ((r12.cs.getD 0 .any).ai),(r12.cs.getD 1 .any)]] [.cells [((o11.hO).cs.getD 0 .any),VI (((o11.hO).cs.getD 1 .any).toInt)]]) (NG a1_1 2 2<|NE (a1_1.ix (2:Int))<|.call 27 [.ref 0 0,.agg [VS (((a1_1.ix (2:Int)).getD 0 .any).ai),((a1_1.ix (2:Int)).getD 1 .any)],VI (IntKind.wrap .i64 (a2-1))] [.cells [((o2.hO).cs.getD 0 .any),VI (((o2.hO).cs.getD 1 .any).toInt)]] fun r13 o13=>.ak ((o13.hO)=.cells (o13.hO).cs)<|.ak (aN [.lk .sl,.lk (.int .i64)] ((o13.hO).cs) 0 1 o13.tail)<|NA r13<|.call 47 [VS (mk [114]),.sl [[VS ((r13.cs.getD 0 .any).ai),(r13.cs.getD 1 .any)]]] [] fun r14 o14=>NA r14<|.done 0 [.agg [VS ((r14.cs.getD 0 .any).ai),(r14.cs.getD 1 .any)]] [.cells [((o13.hO).cs.getD 0 .any),VI (((o13.hO).cs.getD 1 .any).toInt)]])) (NG a1_1 2 2<|NE (a1_1.ix (2:Int))<|.call 45 [.agg [VS (((a1_1.ix (2:Int)).getD 0 .any).ai),((a1_1.ix (2:Int)).getD 1 .any)],.sl []] [] fun r15 o15=>NB r15<|.test r15.toBool (.test ((0:Int)==(0:Int)) (NG a1_1 1 2<|NE (a1_1.ix (1:Int))<|.call 27 [.ref 0 0,.agg [VS (((a1_1.ix (1:Int)).getD 0 .any).ai),((a1_1.ix (1:Int)).getD 1 .any)],VI (IntKind.wrap .i64 (a2-1))] [.cells [((o2.hO).cs.getD 0 .any),VI (((o2.hO).cs.getD 1 .any).toInt)]] fun r16 o16=>.ak ((o16.hO)=.cells (o16.hO).cs)<|.ak (aN [.lk .sl,.lk (.int .i64)] ((o16.hO).cs) 0 1 o16.tail)<|NA r16<|.call 47 [VS (mk [108]),.sl [[VS ((r16.cs.getD 0 .any).ai),(r16.cs.getD 1 .any)]]] [] fun r17 o17=>NA r17<|.done 0 [.agg [VS ((r17.cs.getD 0 .any).ai),(r17.cs.getD 1 .any)]] [.cells [((o16.hO).cs.getD 0 .any),VI (((o16.hO).cs.getD 1 .any).toInt)]]) (NG a1_1 2 2<|NE (a1_1.ix (2:Int))<|.call 27 [.ref 0 0,.agg [VS (((a1_1.ix (2:Int)).getD 0 .any).ai),((a1_1.ix (2:Int)).getD 1 .any)],VI (IntKind.wrap .i64 (a2-1))] [.cells [((o2.hO).cs.getD 0 .any),VI (((o2.hO).cs.getD 1 .any).toInt)]] fun r18 o18=>.ak ((o18.hO)=.cells (o18.hO).cs)<|.ak (aN [.lk .sl,.lk (.int .i64)] ((o18.hO).cs) 0 1 o18.tail)<|NA r18<|.call 47 [VS (mk [114]),.sl [[VS ((r18.cs.getD 0 .any).ai),(r18.cs.getD 1 .any)]]] [] fun r19 o19=>NA r19<|.done 0 [.agg [VS ((r19.cs.getD 0 .any).ai),(r19.cs.getD 1 .any)]] [.cells [((o18.hO).cs.getD 0 .any),VI (((o18.hO).cs.getD 1 .any).toInt)]])) (.test (decide (a2<=(0:Int))) (.test ((0:Int)==(0:Int)) (NG a1_1 1 2<|NE (a1_1.ix (1:Int))<|.call 27 [.ref 0 0,.agg [VS (((a1_1.ix (1:Int)).getD 0 .any).ai),((a1_1.ix (1:Int)).getD 1 .any)],VI (IntKind.wrap .i64 (a2-1))] [.cells [((o2.hO).cs.getD 0 .any),VI (((o2.hO).cs.getD 1 .any).toInt)]] fun r20 o20=>.ak ((o20.hO)=.cells (o20.hO).cs)<|.ak (aN [.lk .sl,.lk (.int .i64)] ((o20.hO).cs) 0 1 o20.tail)<|NA r20<|.call 47 [VS (mk [108]),.sl [[VS ((r20.cs.getD 0 .any).ai),(r20.cs.getD 1 .any)]]] [] fun r21 o21=>NA r21<|.done 0 [.agg [VS ((r21.cs.getD 0 .any).ai),(r21.cs.getD 1 .any)]] [.cells [((o20.hO).cs.getD 0 .any),VI (((o20.hO).cs.getD 1 .any).toInt)]]) (NG a1_1 2 2<|NE (a1_1.ix (2:Int))<|.call 27 [.ref 0 0,.agg [VS (((a1_1.ix (2:Int)).getD 0 .any).ai),((a1_1.ix (2:Int)).getD 1 .any)],VI (IntKind.wrap .i64 (a2-1))] [.cells [((o2.hO).cs.getD 0 .any),VI (((o2.hO).cs.getD 1 .any).toInt)]] fun r22 o22=>.ak ((o22.hO)=.cells (o22.hO).cs)<|.ak (aN [.lk .sl,.lk (.int .i64)] ((o22.hO).cs) 0 1 o22.tail)<|NA r22<|.call 47 [VS (mk [114]),.sl [[VS ((r22.cs.getD 0 .any).ai),(r22.cs.getD 1 .any)]]] [] fun r23 o23=>NA r23<|.done 0 [.agg [VS ((r23.cs.getD 0 .any).ai),(r23.cs.getD 1 .any)]] [.cells [((o22.hO).cs.getD 0 .any),VI (((o22.hO).cs.getD 1 .any).toInt)]])) (.test (r2.toInt==(0:Int)) (NG a1_1 1 2<|NE (a1_1.ix (1:Int))<|.call 27 [.ref 0 0,.agg [VS (((a1_1.ix (1:Int)).getD 0 .any).ai),((a1_1.ix (1:Int)).getD 1 .any)],VI (IntKind.wrap .i64 (a2-1))] [.cells [((o2.hO).cs.getD 0 .any),VI (((o2.hO).cs.getD 1 .any).toInt)]] fun r24 o24=>.ak ((o24.hO)=.cells (o24.hO).cs)<|.ak (aN [.lk .sl,.lk (.int .i64)] ((o24.hO).cs) 0 1 o24.tail)<|NA r24<|.call 47 [VS (mk [108]),.sl [[VS ((r24.cs.getD 0 .any).ai),(r24.cs.getD 1 .any)]]] [] fun r25 o25=>NA r25<|.done 0 [.agg [VS ((r25.cs.getD 0 .any).ai),(r25.cs.getD 1 .any)]] [.cells [((o24.hO).cs.getD 0 .any),VI (((o24.hO).cs.getD 1 .any).toInt)]]) (NG a1_1 2 2<|NE (a1_1.ix (2:Int))<|.call 27 [.ref 0 0,.agg [VS (((a1_1.ix (2:Int)).getD 0 .any).ai),((a1_1.ix (2:Int)).getD 1 .any)],VI (IntKind.wrap .i64 (a2-1))] [.cells [((o2.hO).cs.getD 0 .any),VI (((o2.hO).cs.getD 1 .any).toInt)]] fun r26 o26=>.ak ((o26.hO)=.cells (o26.hO).cs)<|.ak (aN [.lk .sl,.lk (.int .i64)] ((o26.hO).cs) 0 1 o26.tail)<|NA r26<|.call 47 [VS (mk [114]),.sl [[VS ((r26.cs.getD 0 .any).ai),(r26.cs.getD 1 .any)]]] [] fun r27 o27=>NA r27<|.done 0 [.agg [VS ((r27.cs.getD 0 .any).ai),(r27.cs.getD 1 .any)]] [.cells [((o26.hO).cs.getD 0 .any),VI (((o26.hO).cs.getD 1 .any).toInt)]]))))) (NG a1_1 2 2<|NE (a1_1.ix (2:Int))<|.call 45 [.agg [VS (((a1_1.ix (2:Int)).getD 0 .any).ai),((a1_1.ix (2:Int)).getD 1 .any)],.sl []] [] fun r28 o28=>NB r28<|.test r28.toBool (.test ((0:Int)==(0:Int)) (NG a1_1 1 2<|NE (a1_1.ix (1:Int))<|.call 27 [.ref 0 0,.agg [VS (((a1_1.ix (1:Int)).getD 0 .any).ai),((a1_1.ix (1:Int)).getD 1 .any)],VI (IntKind.wrap .i64 (a2-1))] [.cells [((o2.hO).cs.getD 0 .any),VI (((o2.hO).cs.getD 1 .any).toInt)]] fun r29 o29=>.ak ((o29.hO)=.cells (o29.hO).cs)<|.ak (aN [.lk .sl,.lk (.int .i64)] ((o29.hO).cs) 0 1 o29.tail)<|NA r29<|.call 47 [VS (mk [108]),.sl [[VS ((r29.cs.getD 0 .any).ai),(r29.cs.getD 1 .any)]]] [] fun r30 o30=>NA r30<|.done 0 [.agg [VS ((r30.cs.getD 0 .any).ai),(r30.cs.getD 1 .any)]] [.cells [((o29.hO).cs.getD 0 .any),VI (((o29.hO).cs.getD 1 .any).toInt)]]) (NG a1_1 2 2<|NE (a1_1.ix (2:Int))<|.call 27 [.ref 0 0,.agg [VS (((a1_1.ix (2:Int)).getD 0 .any).ai),((a1_1.ix (2:Int)).getD 1 .any)],VI (IntKind.wrap .i64 (a2-1))] [.cells [((o2.hO).cs.getD 0 .any),VI (((o2.hO).cs.getD 1 .any).toInt)]] fun r31 o31=>.ak ((o31.hO)=.cells (o31.hO).cs)<|.ak (aN [.lk .sl,.lk (.int .i64)] ((o31.hO).cs) 0 1 o31.tail)<|NA r31<|.call 47 [VS (mk [114]),.sl [[VS ((r31.cs.getD 0 .any).ai),(r31.cs.getD 1 .any)]]] [] fun r32 o32=>NA r32<|.done 0 [.agg [VS ((r32.cs.getD 0 .any).ai),(r32.cs.getD 1 .any)]] [.cells [((o31.hO).cs.getD 0 .any),VI (((o31.hO).cs.getD 1 .any).toInt)]])) (.test (decide (a2<=(0:Int))) (.test ((0:Int)==(0:Int)) (NG a1_1 1 2<|NE (a1_1.ix (1:Int))<|.call 27 [.ref 0 0,.agg [VS (((a1_1.ix (1:Int)).getD 0 .any).ai),((a1_1.ix (1:Int)).getD 1 .any)],VI (IntKind.wrap .i64 (a2-1))] [.cells [((o2.hO).cs.getD 0 .any),VI (((o2.hO).cs.getD 1 .any).toInt)]] fun r33 o33=>.ak ((o33.hO)=.cells (o33.hO).cs)<|.ak (aN [.lk .sl,.lk (.int .i64)] ((o33.hO).cs) 0 1 o33.tail)<|NA r33<|.call 47 [VS (mk [108]),.sl [[VS ((r33.cs.getD 0 .any).ai),(r33.cs.getD 1 .any)]]] [] fun r34 o34=>NA r34<|.done 0 [.agg [VS ((r34.cs.getD 0 .any).ai),(r34.cs.getD 1 .any)]] [.cells [((o33.hO).cs.getD 0 .any),VI (((o33.hO).cs.getD 1 .any).toInt)]]) (NG a1_1 2 2<|NE (a1_1.ix (2:Int))<|.call 27 [.ref 0 0,.agg [VS (((a1_1.ix (2:Int)).getD 0 .any).ai),((a1_1.ix (2:Int)).getD 1 .any)],VI (IntKind.wrap .i64 (a2-1))] [.cells [((o2.hO).cs.getD 0 .any),VI (((o2.hO).cs.getD 1 .any).toInt)]] fun r35 o35=>.ak ((o35.hO)=.cells (o35.hO).cs)<|.ak (aN [.lk .sl,.lk (.int .i64)] ((o35.hO).cs) 0 1 o35.tail)<|NA r35<|.call 47 [VS (mk [114]),.sl [[VS ((r35.cs.getD 0 .any).ai),(r35.cs.getD 1 .any)]]] [] fun r36 o36=>NA r36<|.done 0 [.agg [VS ((r36.cs.getD 0 .any).ai),(r36.cs.getD 1 .any)]] [.cells [((o35.hO).cs.getD 0 .any),VI (((o35.hO).cs.getD 1 .any).toInt)]])) (.test (r2.toInt==(0:Int)) (NG a1_1 1 2<|NE (a1_1.ix (1:Int))<|.call 27 [.ref 0 0,.agg [VS (((a1_1.ix (1:Int)).getD 0 .any).ai),((a1_1.ix (1:Int)).getD 1 .any)],VI (IntKind.wrap .i64 (a2-1))] [.cells [((o2.hO).cs.getD 0 .any),VI (((o2.hO).cs.getD 1 .any).toInt)]] fun r37 o37=>.ak ((o37.hO)=.cells (o37.hO).cs)<|.ak (aN [.lk .sl,.lk (.int .i64)] ((o37.hO).cs) 0 1 o37.tail)<|NA r37<|.call 47 [VS (mk [108]),.sl [[VS ((r37.cs.getD 0 .any).ai),(r37.cs.getD 1 .any)]]] [] fun r38 o38=>NA r38<|.done 0 [.agg [VS ((r38.cs.getD 0 .any).ai),(r38.cs.getD 1 .any)]] [.cells [((o37.hO).cs.getD 0 .any),VI (((o37.hO).cs.getD 1 .any).toInt)]]) (NG a1_1 2 2<|NE (a1_1.ix (2:Int))<|.call 27 [.ref 0 0,.agg [VS (((a1_1.ix (2:Int)).getD 0 .any).ai),((a1_1.ix (2:Int)).getD 1 .any)],VI (IntKind.wrap .i64 (a2-1))] [.cells [((o2.hO).cs.getD 0 .any),VI (((o2.hO).cs.getD 1 .any).toInt)]] fun r39 o39=>.ak ((o39.hO)=.cells (o39.hO).cs)<|.ak (aN [.lk .sl,.lk (.int .i64)] ((o39.hO).cs) 0 1 o39.tail)<|NA r39<|.call 47 [VS (mk [114]),.sl [[VS ((r39.cs.getD 0 .any).ai),(r39.cs.getD 1 .any)]]] [] fun r40 o40=>NA r40<|.done 0 [.agg [VS ((r40.cs.getD 0 .any).ai),(r40.cs.getD 1 .any)]] [.cells [((o39.hO).cs.getD 0 .any),VI (((o39.hO).cs.getD 1 .any).toInt)]]))))) (NG a1_1 2 2<|NE (a1_1.ix (2:Int))<|.call 45 [.agg [VS (((a1_1.ix (2:Int)).getD 0 .any).ai),((a1_1.ix (2:Int)).getD 1 .any)],.sl []] [] fun r41 o41=>NB r41<|.test r41.toBool (.test ((0:Int)==(0:Int)) (NG a1_1 1 2<|NE (a1_1.ix (1:Int))<|.call 27 [.ref 0 0,.agg [VS (((a1_1.ix (1:Int)).getD 0 .any).ai),((a1_1.ix (1:Int)).getD 1 .any)],VI (IntKind.wrap .i64 (a2-1))] [.cells [((o2.hO).cs.getD 0 .any),VI (((o2.hO).cs.getD 1 .any).toInt)]] fun r42 o42=>.ak ((o42.hO)=.cells (o42.hO).cs)<|.ak (aN [.lk .sl,.lk (.int .i64)] ((o42.hO).cs) 0 1 o42.tail)<|NA r42<|.call 47 [VS (mk [108]),.sl [[VS ((r42.cs.getD 0 .any).ai),(r42.cs.getD 1 .any)]]] [] fun r43 o43=>NA r43<|.done 0 [.agg [VS ((r43.cs.getD 0 .any).ai),(r43.cs.getD 1 .any)]] [.cells [((o42.hO).cs.getD 0 .any),VI (((o42.hO).cs.getD 1 .any).toInt)]]) (NG a1_1 2 2<|NE (a1_1.ix (2:Int))<|.call 27 [.ref 0 0,.agg [VS (((a1_1.ix (2:Int)).getD 0 .any).ai),((a1_1.ix (2:Int)).getD 1 .any)],VI (IntKind.wrap .i64 (a2-1))] [.cells [((o2.hO).cs.getD 0 .any),VI (((o2.hO).cs.getD 1 .any).toInt)]] fun r44 o44=>.ak ((o44.hO)=.cells (o44.hO).cs)<|.ak (aN [.lk .sl,.lk (.int .i64)] ((o44.hO).cs) 0 1 o44.tail)<|NA r44<|.call 47 [VS (mk [114]),.sl [[VS ((r44.cs.getD 0 .any).ai),(r44.cs.getD 1 .any)]]] [] fun r45 o45=>NA r45<|.done 0 [.agg [VS ((r45.cs.getD 0 .any).ai),(r45.cs.getD 1 .any)]] [.cells [((o44.hO).cs.getD 0 .any),VI (((o44.hO).cs.getD 1 .any).toInt)]])) (.test (decide (a2<=(0:Int))) (.test ((0:Int)==(0:Int)) (NG a1_1 1 2<|NE (a1_1.ix (1:Int))<|.call 27 [.ref 0 0,.agg [VS (((a1_1.ix (1:Int)).getD 0 .any).ai),((a1_1.ix (1:Int)).getD 1 .any)],VI (IntKind.wrap .i64 (a2-1))] [.cells [((o2.hO).cs.getD 0 .any),VI (((o2.hO).cs.getD 1 .any).toInt)]] fun r46 o46=>.ak ((o46.hO)=.cells (o46.hO).cs)<|.ak (aN [.lk .sl,.lk (.int .i64)] ((o46.hO).cs) 0 1 o46.tail)<|NA r46<|.call 47 [VS (mk [108]),.sl [[VS ((r46.cs.getD 0 .any).ai),(r46.cs.getD 1 .any)]]] [] fun r47 o47=>NA r47<|.done 0 [.agg [VS ((r47.cs.getD 0 .any).ai),(r47.cs.getD 1 .any)]] [.cells [((o46.hO).cs.getD 0 .any),VI (((o46.hO).cs.getD 1 .any).toInt)]]) (NG a1_1 2 2<|NE (a1_1.ix (2:Int))<|.call 27 [.ref 0 0,.agg [VS (((a1_1.ix (2:Int)).getD 0 .any).ai),((a1_1.ix (2:Int)).getD 1 .any)],VI (IntKind.wrap .i64 (a2-1))] [.cells [((o2.hO).cs.getD 0 .any),VI (((o2.hO).cs.getD 1 .any).toInt)]] fun r48 o48=>.ak ((o48.hO)=.cells (o48.hO).cs)<|.ak (aN [.lk .sl,.lk (.int .i64)] ((o48.hO).cs) 0 1 o48.tail)<|NA r48<|.call 47 [VS (mk [114]),.sl [[VS ((r48.cs.getD 0 .any).ai),(r48.cs.getD 1 .any)]]] [] fun r49 o49=>NA r49<|.done 0 [.agg [VS ((r49.cs.getD 0 .any).ai),(r49.cs.getD 1 .any)]] [.cells [((o48.hO).cs.getD 0 .any),VI (((o48.hO).cs.getD 1 .any).toInt)]])) (.test (r2.toInt==(0:Int)) (NG a1_1 1 2<|NE (a1_1.ix (1:Int))<|.call 27 [.ref 0 0,.agg [VS (((a1_1.ix (1:Int)).getD 0 .any).ai),((a1_1.ix (1:Int)).getD 1 .any)],VI (IntKind.wrap .i64 (a2-1))] [.cells [((o2.hO).cs.getD 0 .any),VI (((o2.hO).cs.getD 1 .any).toInt)]] fun r50 o50=>.ak ((o50.hO)=.cells (o50.hO).cs)<|.ak (aN [.lk .sl,.lk (.int .i64)] ((o50.hO).cs) 0 1 o50.tail)<|NA r50<|.call 47 [VS (mk [108]),.sl [[VS ((r50.cs.getD 0 .any).ai),(r50.cs.getD 1 .any)]]] [] fun r51 o51=>NA r51<|.done 0 [.agg [VS ((r51.cs.getD 0 .any).ai),(r51.cs.getD 1 .any)]] [.cells [((o50.hO).cs.getD 0 .any),VI (((o50.hO).cs.getD 1 .any).toInt)]]) (NG a1_1 2 2<|NE (a1_1.ix (2:Int))<|.call 27 [.ref 0 0,.agg [VS (((a1_1.ix (2:Int)).getD 0 .any).ai),((a1_1.ix (2:Int)).getD 1 .any)],VI (IntKind.wrap .i64 (a2-1))] [.cells [((o2.hO).cs.getD 0 .any),VI (((o2.hO).cs.getD 1 .any).toInt)]] fun r52 o52=>.ak ((o52.hO)=.cells (o52.hO).cs)<|.ak (aN [.lk .sl,.lk (.int .i64)] ((o52.hO).cs) 0 1 o52.tail)<|NA r52<|.call 47 [VS (mk [114]),.sl [[VS ((r52.cs.getD 0 .any).ai),(r52.cs.getD 1 .any)]]] [] fun r53 o53=>NA r53<|.done 0 [.agg [VS ((r53.cs.getD 0 .any).ai),(r53.cs.getD 1 .any)]] [.cells [((o52.hO).cs.getD 0 .any),VI (((o52.hO).cs.getD 1 .any).toInt)]])))))) (.test (ac r1.ai==ac (mk [42])) (NG a1_1 1 2<|NE (a1_1.ix (1:Int))<|.call 27 [.ref 0 0,.agg [VS (((a1_1.ix (1:Int)).getD 0 .any).ai),((a1_1.ix (1:Int)).getD 1 .any)],VI (IntKind.wrap .i64 (a2-1))] [.cells [a0_0,VI a0_1]] fun r54 o54=>.ak ((o54.hO)=.cells (o54.hO).cs)<|.ak (aN [.lk .sl,.lk (.int .i64)] ((o54.hO).cs) 0 1 o54.tail)<|NA r54<|NG a1_1 2 2<|NE (a1_1.ix (2:Int))<|.call 27 [.ref 0 0,.agg [VS (((a1_1.ix (2:Int)).getD 0 .any).ai),((a1_1.ix (2:Int)).getD 1 .any)],VI (IntKind.wrap .i64 (a2-1))] [.cells [((o54.hO).cs.getD 0 .any),VI (((o54.hO).cs.getD 1 .any).toInt)]] fun r55 o55=>.ak ((o55.hO)=.cells (o55.hO).cs)<|.ak (aN [.lk .sl,.lk (.int .i64)] ((o55.hO).cs) 0 1 o55.tail)<|NA r55<|.call 47 [VS (mk [112]),.sl [[VS ((r54.cs.getD 0 .any).ai),(r54.cs.getD 1 .any)],[VS ((r55.cs.getD 0 .any).ai),(r55.cs.getD 1 .any)]]] [] fun r56 o56=>NA r56<|.done 0 [.agg [VS ((r56.cs.getD 0 .any).ai),(r56.cs.getD 1 .any)]] [.cells [((o55.hO).cs.getD 0 .any),VI (((o55.hO).cs.getD 1 .any).toInt)]]) (.test (ac r1.ai==ac (mk [114,101,99])) (.call 48 [.agg [VS a1_0,a1_1]] [] fun r57 o57=>NT r57<|.ak ((r57.comp 0)=.agg (r57.comp 0).cs/\(r57.comp 0).cs.length=2/\bJ [.str,.sl] ((r57.comp 0).cs) 0)<|NB (r57.comp 1)<|.test (!((r57.comp 1).toBool)) (.done 0 [.agg [VS (mk [117]),.v (.slice none 0 0)]] [.cells [a0_0,VI a0_1]]) (.test (decide (a2<((-12):Int))) (.done 0 [.agg [VS (mk [117]),.v (.slice none 0 0)]] [.cells [a0_0,VI a0_1]]) (.call 27 [.ref 0 0,.agg [VS (((r57.comp 0).cs.getD 0 .any).ai),((r57.comp 0).cs.getD 1 .any)],VI (IntKind.wrap .i64 (a2-1))] [.cells [a0_0,VI a0_1]] fun r58 o58=>.ak ((o58.hO)=.cells (o58.hO).cs)<|.ak (aN [.lk .sl,.lk (.int .i64)] ((o58.hO).cs) 0 1 o58.tail)<|NA r58<|.call 47 [VS (mk [102]),.sl [[VS ((r58.cs.getD 0 .any).ai),(r58.cs.getD 1 .any)]]] [] fun r59 o59=>NA r59<|.done 0 [.agg [VS ((r59.cs.getD 0 .any).ai),(r59.cs.getD 1 .any)]] [.cells [((o58.hO).cs.getD 0 .any),VI (((o58.hO).cs.getD 1 .any).toInt)]]))) (.test (ac a1_0==ac (mk [49])) (.done 0 [.agg [VS (mk [117]),.v (.slice none 0 0)]] [.cells [a0_0,VI a0_1]]) (.call 13 [.ref 0 0,VI 3] [.cells [a0_0,VI a0_1]] fun r60 o60=>.ak ((o60.hO)=.cells (o60.hO).cs)<|.ak (aN [.lk .sl,.lk (.int .i64)] ((o60.hO).cs) 0 1 o60.tail)<|NI r60<|.call 49 [VI r60.toInt] [] fun r61 o61=>NS r61<|.ak (ag (mk [101])+ag r61.ai<=9223372036854775807)<|.done 0 [.agg [VS (((mk [101]):ByteArray)++r61.ai),.v (.slice none 0 0)]] [.cells [((o60.hO).cs.getD 0 .any),VI (((o60.hO).cs.getD 1 .any).toInt)]]))))
theorem yC(a0_0:AV)(a0_1:Int)(a1_0:ByteArray)(a1_1:AV)(a2:Int)(ha1_1:LK.has .sl a1_1)(ha0_0:LK.has .sl a0_0)(h:dl 132 (xL a0_0 a0_1 a1_0 a1_1 a2) R):ap Tryz.prog 27 [.ref 0 0,.agg [VS a1_0,a1_1],VI a2] [.cells [a0_0,VI a0_1]] R :=
 ap.mO (bh (bQ (ah (bR ha0_0) (ah (aC _) aD))) cm) (ap.up (ah (aC _) (ah (cw (ah (aC _) (ah (bR ha1_1) aD))) (ah (aC _) aD))) (oF [] {mu:=[(0,.one (.obj [.lk .sl,.lk (.int .i64)]))],own:=[]} Tryz.f27 h))
def BL:LI:={hd:={bD:=[(1,.k .sl),(6,.k (.int .i64))],refs:=[(2,2),(4,4)],bW:=[(2,[.lk .str,.lk .sl]),(4,[.lk .str,.lk .sl])],dL:=[(5,1)]},xs:={refs:=[(2,2),(4,4)],bW:=[(2,[.lk .str,.lk .sl]),(4,[.lk .str,.lk .sl])],dL:=[(5,1)]},rt:={},ex:=0}
def D7:Code:=cz (cr Tryz.f28) 3
def D3:List (Nat×LI):=[(3,BL)]
def HM(a0_0:ByteArray)(a0_1:AV)(a1:AV):Tree :=
 .call 43 [.agg [VS a0_0,a0_1],.sl [],.vec 0] [.vec 1 []] fun r1 o1=>.ak (r1=.vec 1/\(o1.tail.hO)=.vec 1 (o1.tail.hO).es)<|.loop D7 BL [a1,VI 0] [.cells [VS a0_0,a0_1],.cells [VS (mk []),.v (.slice none 0 0)],.vec 1 ((o1.tail.hO).es)] (fun y3 q3=>.ak ((q3.hO)=.cells (q3.hO).cs)<|.ak (ae [.lk .str,.lk .sl] ((q3.hO).cs) 0 q3.tail)<|.ak (((q3.tail.drop 0).hO)=.cells ((q3.tail.drop 0).hO).cs)<|.ak (ae [.lk .str,.lk .sl] (((q3.tail.drop 0).hO).cs) 0 ((q3.tail.drop 0).tail))<|.ak (((q3.drop 2).hO)=.vec 1 ((q3.drop 2).hO).es)<|.call 50 [.agg [VS (((q3.hO).cs.getD 0 .any).ai),((q3.hO).cs.getD 1 .any)],.sl [],.sl [],.ref 0 0] [.cells [.vec 1,VI 0],.vec 1 ((q3.tail.tail.hO).es)] fun r4 o4=>.ak ((o4.hO)=.cells (o4.hO).cs)<|.ak (aN [.vec 1,.lk (.int .i64)] ((o4.hO).cs) 0 1 o4.tail)<|NA r4<|.done 0 [.agg [VS ((r4.cs.getD 0 .any).ai),(r4.cs.getD 1 .any)]] []) (fun y3 q3=>.fail)
theorem JZ(a0_0:ByteArray)(a0_1:AV)(a1:AV)(ha0_1:LK.has .sl a0_1)(ha1:LK.has .sl a1)(h:dl 33 (HM a0_0 a0_1 a1) R):ap Tryz.prog 28 [.agg [VS a0_0,a0_1],a1] [] R :=
 uQ (ah (cw (ah (aC _) (ah (bR ha0_1) aD))) (ah (bR ha1) aD)) (oQ D3 Tryz.f28 h)
def Ah(x1:AV)(x6:Int)(o2_0:ByteArray)(o2_1:AV)(o4_0:ByteArray)(o4_1:AV)(e5:List (List AV)):Tree :=
 NL x1<|NI (VI x6)<|.ak (Ob.cells [VS o2_0,o2_1]=.cells [VS o2_0,o2_1])<|.ak (ae [.lk .str,.lk .sl] [VS o2_0,o2_1] 0 [.cells [VS o4_0,o4_1],.vec 1 e5])<|.ak (Ob.cells [VS o4_0,o4_1]=.cells [VS o4_0,o4_1])<|.ak (ae [.lk .str,.lk .sl] [VS o4_0,o4_1] 0 [.vec 1 e5])<|.ak (Ob.vec 1 e5=.vec 1 e5)<|NL x1<|.test (decide (x6<(x1.aO.length:Int))) (NG x1 x6 2<|NE (x1.ix x6)<|.call 43 [.agg [VS (((x1.ix x6).getD 0 .any).ai),((x1.ix x6).getD 1 .any)],.sl [],.vec 0] [.vec 1 []] fun r1 o1=>.ak (r1=.vec 1/\(o1.tail.hO)=.vec 1 (o1.tail.hO).es)<|.ak (bU 1 ((o1.tail.hO).es)/\((e5.length)+((o1.tail.hO).es).length)*16<=140737488355328)<|.done 0 [x1,VI (IntKind.wrap .i64 (x6+1))] [.cells [VS o2_0,o2_1],.cells [VS o4_0,o4_1],.vec 1 (e5++((o1.tail.hO).es))]) (.done 1 [] [.cells [VS o2_0,o2_1],.cells [VS o4_0,o4_1],.vec 1 e5])
abbrev Ck:=cg Tryz.prog 33 D7 BL
theorem EJ(x1:AV)(x6:Int)(o2_0:ByteArray)(o2_1:AV)(o4_0:ByteArray)(o4_1:AV)(e5:List (List AV))(h:j6 33 (Ah x1 x6 o2_0 o2_1 o4_0 o4_1 e5) Ck U):Ck [x1,VI x6] [.cells [VS o2_0,o2_1],.cells [VS o4_0,o4_1],.vec 1 e5] U :=
 gQ D3 h
def F0(a0:ByteArray):Tree :=
 .call 51 [VS a0] [] fun r1 o1=>NP r1<|NP r1<|.test r1.isNil (.done 0 [.v (.pointer none)] []) (NZ r1<|NZ r1<|.ak (LK.has (.int .u8) (r1.deref.hA)/\1<=r1.deref.length)<|.test (((r1.deref.hA).toInt) != (114:Int)) (.done 0 [.v (.pointer none)] []) (.done 0 [r1] []))
theorem IC(a0:ByteArray)(h:dl 16 (F0 a0) R):ap Tryz.prog 29 [VS a0] [] R :=
 uQ (ah (aC _) aD) (oQ [] Tryz.f29 h)
def Ht(a0:ByteArray)(a1:ByteArray)(a2:Int):Tree :=
 .call 51 [VS a0] [] fun r1 o1=>NP r1<|.call 52 [VS a1] [] fun r2 o2=>NP r2<|NP r1<|.test r1.isNil (.done 0 [.cV [r1,.v (.pointer none)]] []) (NP r2<|.test r2.isNil (.done 0 [.cV [r1,.v (.pointer none)]] []) (.test (decide (a2<(0:Int))) (.done 0 [.cV [r1,.v (.pointer none)]] []) (.test (decide (a2>(100:Int))) (.done 0 [.cV [r1,.v (.pointer none)]] []) (.call 53 [.agg [r1,.v (.pointer none)],r2,VI a2] [] fun r3 o3=>NB r3<|.test (!r3.toBool) (.done 0 [.cV [r1,.v (.pointer none)]] []) (.done 0 [.cV [r1,r2]] [])))))
theorem Kb(a0:ByteArray)(a1:ByteArray)(a2:Int)(h:dl 39 (Ht a0 a1 a2) R):ap Tryz.prog 30 [VS a0,VS a1,VI a2] [] R :=
 uQ (ah (aC _) (ah (aC _) (ah (aC _) aD))) (oQ [] Tryz.f30 h)
def Ej(a0_0:AV)(a0_1:AV):Tree :=
 NZ a0_0<|NZ a0_0<|gx (a0_0.deref.drop 3)<|.done 0 [.cV [.agg [((a0_0.deref.drop 3).hA),.ptr [.ptr [a0_0,a0_1],a0_1]],.ptr [a0_0,a0_1]]] []
theorem KT(a0_0:AV)(a0_1:AV)(ha0_0:LK.has .ptr a0_0)(ha0_1:LK.has .ptr a0_1)(h:dl 20 (Ej a0_0 a0_1) R):ap Tryz.prog 31 [.agg [a0_0,a0_1]] [] R :=
 uQ (ah (cw (ah (bO ha0_0) (ah (bO ha0_1) aD))) aD) (oQ [] Tryz.f31 h)
def CQ:LI:={hd:={bD:=[(97,.k .sl),(98,.k (.int .i64)),(99,.k (.int .i64))],refs:=[(3,3),(5,5),(7,7)],bW:=[(3,[.lk .ptr,.lk .ptr]),(5,[.lk .str,.lk .ptr]),(7,[.vec 2])],xy:=[(8,55,[7])]},xs:={refs:=[(7,7)],bW:=[(7,[.vec 2])]},rt:={},ex:=1}
def Ea:Code:=cz (cr Tryz.f32) 18
def GO:List (Nat×LI):=[(18,CQ)]
def E9(a0_0:AV)(a0_1:AV)(a1:AV)(a2_0:ByteArray)(a2_1:AV):Tree :=
 .call 54 [.agg [VS a2_0,a2_1],.agg [a0_0,a0_1]] [] fun r1 o1=>NB r1<|.test r1.toBool (.done 0 [.sl [[.ptr [.v (.int .u8 117),VS (mk []),.v (.pointer none),.v (.pointer none)],a1]]] []) (NZ a0_0<|NZ a0_0<|.ak (LK.has (.int .u8) (a0_0.deref.hA)/\1<=a0_0.deref.length)<|.test (((a0_0.deref.hA).toInt)==(43:Int)) (.call 56 [.agg [a0_0,a0_1]] [] fun r2 o2=>.ak (r2=.agg r2.cs/\r2.cs.length=2/\bJ [.ptr,.ptr] r2.cs 0)<|NZ a1<|NZ a1<|.ak (LK.has (.int .u8) (a1.deref.hA)/\1<=a1.deref.length)<|.test (((a1.deref.hA).toInt)==(114:Int)) (.call 57 [.agg [a0_0,a0_1]] [] fun r3 o3=>.ak (r3=.agg r3.cs/\r3.cs.length=2/\bJ [.ptr,.ptr] r3.cs 0)<|NZ a1<|NZ a1<|gx (a1.deref.drop 2)<|.call 32 [.agg [(r3.cs.getD 0 .any),(r3.cs.getD 1 .any)],((a1.deref.drop 2).hA),.agg [VS a2_0,a2_1]] [] fun r4 o4=>NL r4<|.call 55 [r4,.fn 58 [.ref 0 0],.ref 1 0] [.cells [a1],.cells [.vec 2],.vec 2 []] fun r5 o5=>.ak ((o5.hO)=.cells (o5.hO).cs)<|.ak (aN [.lk .ptr] ((o5.hO).cs) 0 1 o5.tail)<|.ak ((o5.tail.hO)=.cells (o5.tail.hO).cs)<|.ak (aN [.vec 2] ((o5.tail.hO).cs) 0 2 o5.tail.tail)<|.done 0 [.sl ((o5.tail.tail.hO).es)] []) (NZ a1<|NZ a1<|gx (a1.deref.drop 2)<|.call 32 [.agg [(r2.cs.getD 0 .any),(r2.cs.getD 1 .any)],((a1.deref.drop 2).hA),.agg [VS a2_0,a2_1]] [] fun r6 o6=>NL r6<|.call 55 [r6,.fn 58 [.ref 0 0],.ref 1 0] [.cells [a1],.cells [.vec 2],.vec 2 []] fun r7 o7=>.ak ((o7.hO)=.cells (o7.hO).cs)<|.ak (aN [.lk .ptr] ((o7.hO).cs) 0 1 o7.tail)<|.ak ((o7.tail.hO)=.cells (o7.tail.hO).cs)<|.ak (aN [.vec 2] ((o7.tail.hO).cs) 0 2 o7.tail.tail)<|.done 0 [.sl ((o7.tail.tail.hO).es)] [])) (.test (((a0_0.deref.hA).toInt)==(42:Int)) (.call 56 [.agg [a0_0,a0_1]] [] fun r8 o8=>.ak (r8=.agg r8.cs/\r8.cs.length=2/\bJ [.ptr,.ptr] r8.cs 0)<|NZ a1<|NZ a1<|gx (a1.deref.drop 2)<|.call 32 [.agg [(r8.cs.getD 0 .any),(r8.cs.getD 1 .any)],((a1.deref.drop 2).hA),.agg [VS a2_0,a2_1]] [] fun r9 o9=>NL r9<|.call 55 [r9,.fn 60 [.ref 0 0],.ref 1 0] [.cells [a1],.cells [.vec 2],.vec 2 []] fun r10 o10=>.ak ((o10.hO)=.cells (o10.hO).cs)<|.ak (aN [.lk .ptr] ((o10.hO).cs) 0 1 o10.tail)<|.ak ((o10.tail.hO)=.cells (o10.tail.hO).cs)<|.ak (aN [.vec 2] ((o10.tail.hO).cs) 0 2 o10.tail.tail)<|.call 57 [.agg [a0_0,a0_1]] [] fun r11 o11=>.ak (r11=.agg r11.cs/\r11.cs.length=2/\bJ [.ptr,.ptr] r11.cs 0)<|NZ ((o10.hO).cs.getD 0 .any)<|NZ ((o10.hO).cs.getD 0 .any)<|gx (((o10.hO).cs.getD 0 .any).deref.drop 3)<|.call 32 [.agg [(r11.cs.getD 0 .any),(r11.cs.getD 1 .any)],((((o10.hO).cs.getD 0 .any).deref.drop 3).hA),.agg [VS a2_0,a2_1]] [] fun r12 o12=>NL r12<|.call 55 [r12,.fn 62 [.ref 0 0],.ref 1 0] [.cells [((o10.hO).cs.getD 0 .any)],.cells [.vec 2],.vec 2 ((o10.tail.tail.hO).es)] fun r13 o13=>.ak ((o13.hO)=.cells (o13.hO).cs)<|.ak (aN [.lk .ptr] ((o13.hO).cs) 0 1 o13.tail)<|.ak ((o13.tail.hO)=.cells (o13.tail.hO).cs)<|.ak (aN [.vec 2] ((o13.tail.hO).cs) 0 2 o13.tail.tail)<|.done 0 [.sl ((o13.tail.tail.hO).es)] []) (.test (((a0_0.deref.hA).toInt)==(114:Int)) (.call 31 [.agg [a0_0,a0_1]] [] fun r14 o14=>NT r14<|.ak ((r14.comp 0)=.agg (r14.comp 0).cs/\(r14.comp 0).cs.length=2/\bJ [.ptr,.ptr] ((r14.comp 0).cs) 0)<|NP (r14.comp 1)<|NZ a1<|NZ a1<|gx (a1.deref.drop 2)<|.call 32 [.agg [((r14.comp 0).cs.getD 0 .any),((r14.comp 0).cs.getD 1 .any)],((a1.deref.drop 2).hA),.agg [VS a2_0,a2_1]] [] fun r15 o15=>NL r15<|.call 55 [r15,.v (.func (.func 63) #[] #[]),.ref 0 0] [.cells [.vec 1],.vec 2 []] fun r16 o16=>.ak ((o16.hO)=.cells (o16.hO).cs)<|.ak (aN [.vec 2] ((o16.hO).cs) 0 1 o16.tail)<|NZ a1<|NZ a1<|gx (a1.deref.drop 2)<|.call 32 [.agg [((r14.comp 0).cs.getD 0 .any),((r14.comp 0).cs.getD 1 .any)],((a1.deref.drop 2).hA),.agg [VS (mk []),(r14.comp 1)]] [] fun r17 o17=>NL r17<|NL r17<|.loop Ea CQ [r17,VI (r17.aO.length:Int),VI 0] [.cells [a0_0,a0_1],.cells [VS a2_0,a2_1],.cells [.any],.vec 2 ((o16.tail.hO).es)] (fun y20 q20=>.ak ((q20.hO)=.cells (q20.hO).cs)<|.ak (ae [.vec 2] ((q20.hO).cs) 0 q20.tail)<|.done 0 [.sl ((q20.tail.hO).es)] []) (fun y20 q20=>.done 0 [.any] [])) (.done 0 [.sl []] []))))
theorem KS(a0_0:AV)(a0_1:AV)(a1:AV)(a2_0:ByteArray)(a2_1:AV)(ha0_0:LK.has .ptr a0_0)(ha0_1:LK.has .ptr a0_1)(ha1:LK.has .ptr a1)(ha2_1:LK.has .ptr a2_1)(h:dl 113 (E9 a0_0 a0_1 a1 a2_0 a2_1) R):ap Tryz.prog 32 [.agg [a0_0,a0_1],a1,.agg [VS a2_0,a2_1]] [] R :=
 uQ (ah (cw (ah (bO ha0_0) (ah (bO ha0_1) aD))) (ah (bO ha1) (ah (cw (ah (aC _) (ah (bO ha2_1) aD))) aD))) (oQ GO Tryz.f32 h)
def CT(x97:AV)(x98:Int)(x99:Int)(o3_0:AV)(o3_1:AV)(o5_0:ByteArray)(o5_1:AV)(o7_0:List (List AV)):Tree :=
 NL x97<|NI (VI x98)<|NI (VI x99)<|.ak (Ob.cells [o3_0,o3_1]=.cells [o3_0,o3_1])<|.ak (ae [.lk .ptr,.lk .ptr] [o3_0,o3_1] 0 [.cells [VS o5_0,o5_1],.cells [.any],.vec 2 o7_0])<|.ak (Ob.cells [VS o5_0,o5_1]=.cells [VS o5_0,o5_1])<|.ak (ae [.lk .str,.lk .ptr] [VS o5_0,o5_1] 0 [.cells [.any],.vec 2 o7_0])<|.ak (Ob.cells [.any]=.cells [.any])<|.ak (ae [.vec 2] [.any] 0 [.vec 2 o7_0])<|.test (decide (x99<x98)) (NG x97 x99 2<|.ak (bJ [.ptr,.ptr] (x97.ix x99) 0/\2<=(x97.ix x99).length)<|.call 32 [.agg [o3_0,o3_1],((x97.ix x99).getD 1 .any),.agg [VS o5_0,o5_1]] [] fun r1 o1=>NL r1<|.call 55 [r1,.fn 64 [.ref 0 0],.ref 1 0] [.cells [((x97.ix x99).getD 0 .any),((x97.ix x99).getD 1 .any)],.cells [.vec 2],.vec 2 o7_0] fun r2 o2=>.ak ((o2.hO)=.cells (o2.hO).cs)<|.ak (aN [.lk .ptr,.lk .ptr] ((o2.hO).cs) 0 1 o2.tail)<|.ak ((o2.tail.hO)=.cells (o2.tail.hO).cs)<|.ak (aN [.vec 2] ((o2.tail.hO).cs) 0 2 o2.tail.tail)<|.done 0 [x97,VI x98,VI (IntKind.wrap .i64 (x99+1))] [.cells [o3_0,o3_1],.cells [VS o5_0,o5_1],.cells [.any],.vec 2 ((o2.tail.tail.hO).es)]) (.done 1 [] [.cells [.any],.vec 2 o7_0])
abbrev Bq:=cg Tryz.prog 113 Ea CQ
theorem HN(x97:AV)(x98:Int)(x99:Int)(o3_0:AV)(o3_1:AV)(o5_0:ByteArray)(o5_1:AV)(o7_0:List (List AV))(h:j6 113 (CT x97 x98 x99 o3_0 o3_1 o5_0 o5_1 o7_0) Bq U):Bq [x97,VI x98,VI x99] [.cells [o3_0,o3_1],.cells [VS o5_0,o5_1],.cells [.any],.vec 2 o7_0] U :=
 gQ GO h
def yV(a0_0:ByteArray)(a0_1:AV):Tree :=
 .test (!(ac a0_0==ac (mk []))) (.done 0 [VS (mk [])] []) (NL a0_1<|.test ((a0_1.aO.length:Int)==(0:Int)) (.done 0 [VS (mk [])] []) (NG a0_1 0 2<|nq (a0_1.ix (0:Int))<|.done 0 [VS (((a0_1.ix (0:Int)).hA).ai)] []))
theorem Cn(a0_0:ByteArray)(a0_1:AV)(ha0_1:LK.has .sl a0_1)(h:dl 17 (yV a0_0 a0_1) R):ap Tryz.prog 33 [.agg [VS a0_0,a0_1]] [] R :=
 uQ (ah (cw (ah (aC _) (ah (bR ha0_1) aD))) aD) (oQ [] Tryz.f33 h)
def Fj(a0:ByteArray):Tree :=
 .test (decide ((ag a0:Int)>(8000:Int))) (.done 0 [.cV [.agg [VS (mk []),.v (.slice none 0 0)],VB false]] []) (.call 65 [VS a0,VI 0,VI 0] [] fun r1 o1=>NT r1<|.ak ((r1.comp 0)=.agg (r1.comp 0).cs/\(r1.comp 0).cs.length=2/\bJ [.str,.sl] ((r1.comp 0).cs) 0)<|NI (r1.comp 1)<|.done 0 [.cV [.agg [VS (((r1.comp 0).cs.getD 0 .any).ai),((r1.comp 0).cs.getD 1 .any)],VB (((r1.comp 1).toInt)==(ag a0:Int))]] [])
theorem Kt(a0:ByteArray)(h:dl 20 (Fj a0) R):ap Tryz.prog 34 [VS a0] [] R :=
 uQ (ah (aC _) aD) (oQ [] Tryz.f34 h)
def AM(a0_0:ByteArray)(a0_1:AV):Tree :=
 .test (!(ac a0_0==ac (mk []))) (.test (ac a0_0==ac (mk [117])) (.done 0 [VB true] []) (.call 66 [VS a0_0] [] fun r1 o1=>NI r1<|.done 0 [VB (decide (r1.toInt≥(0:Int)))] [])) (.call 33 [.agg [VS a0_0,a0_1]] [] fun r2 o2=>NS r2<|.test (ac r2.ai==ac (mk [108])) (NL a0_1<|.test ((a0_1.aO.length:Int)==(2:Int)) (NG a0_1 1 2<|NE (a0_1.ix (1:Int))<|.call 35 [.agg [VS (((a0_1.ix (1:Int)).getD 0 .any).ai),((a0_1.ix (1:Int)).getD 1 .any)]] [] fun r3 o3=>NB r3<|.done 0 [VB r3.toBool] []) (.done 0 [VB false] [])) (.test (ac r2.ai==ac (mk [114])) (NL a0_1<|.test ((a0_1.aO.length:Int)==(2:Int)) (NG a0_1 1 2<|NE (a0_1.ix (1:Int))<|.call 35 [.agg [VS (((a0_1.ix (1:Int)).getD 0 .any).ai),((a0_1.ix (1:Int)).getD 1 .any)]] [] fun r4 o4=>NB r4<|.done 0 [VB r4.toBool] []) (.done 0 [VB false] [])) (.test (ac r2.ai==ac (mk [102])) (NL a0_1<|.test ((a0_1.aO.length:Int)==(2:Int)) (NG a0_1 1 2<|NE (a0_1.ix (1:Int))<|.call 35 [.agg [VS (((a0_1.ix (1:Int)).getD 0 .any).ai),((a0_1.ix (1:Int)).getD 1 .any)]] [] fun r5 o5=>NB r5<|.done 0 [VB r5.toBool] []) (.done 0 [VB false] [])) (.test (ac r2.ai==ac (mk [112])) (NL a0_1<|.test ((a0_1.aO.length:Int)==(3:Int)) (NG a0_1 1 2<|NE (a0_1.ix (1:Int))<|.call 35 [.agg [VS (((a0_1.ix (1:Int)).getD 0 .any).ai),((a0_1.ix (1:Int)).getD 1 .any)]] [] fun r6 o6=>NB r6<|.test r6.toBool (NG a0_1 2 2<|NE (a0_1.ix (2:Int))<|.call 35 [.agg [VS (((a0_1.ix (2:Int)).getD 0 .any).ai),((a0_1.ix (2:Int)).getD 1 .any)]] [] fun r7 o7=>NB r7<|.done 0 [VB r7.toBool] []) (.done 0 [VB false] [])) (.done 0 [VB false] [])) (.done 0 [VB false] [])))))
theorem Dm(a0_0:ByteArray)(a0_1:AV)(ha0_1:LK.has .sl a0_1)(h:dl 52 (AM a0_0 a0_1) R):ap Tryz.prog 35 [.agg [VS a0_0,a0_1]] [] R :=
 uQ (ah (cw (ah (aC _) (ah (bR ha0_1) aD))) aD) (oQ [] Tryz.f35 h)
def AY:LI:={hd:={bD:=[(3,.k (.int .i64)),(4,.k (.int .i64))],refs:=[(1,1)],bW:=[(1,[.lk .str,.lk .sl])]},xs:={bD:=[(3,.k (.int .i64))]},rt:={},ex:=0}
def Ey:Code:=cz (cr Tryz.f36) 3
def FL:List (Nat×LI):=[(3,AY)]
def Bo(a0_0:ByteArray)(a0_1:AV):Tree :=
 .loop Ey AY [VI 1,VI 1] [.cells [VS a0_0,a0_1]] (fun y2 q2=>NI (y2.hA)<|.done 0 [VI ((y2.hA).toInt)] []) (fun y2 q2=>.done 0 [.any] [])
theorem DJ(a0_0:ByteArray)(a0_1:AV)(ha0_1:LK.has .sl a0_1)(h:dl 21 (Bo a0_0 a0_1) R):ap Tryz.prog 36 [.agg [VS a0_0,a0_1]] [] R :=
 uQ (ah (cw (ah (aC _) (ah (bR ha0_1) aD))) aD) (oQ FL Tryz.f36 h)
def wm(x3:Int)(x4:Int)(o1_0:ByteArray)(o1_1:AV):Tree :=
 NI (VI x3)<|NI (VI x4)<|.ak (Ob.cells [VS o1_0,o1_1]=.cells [VS o1_0,o1_1])<|.ak (ae [.lk .str,.lk .sl] [VS o1_0,o1_1] 0 [])<|NL o1_1<|.test (decide (x4<(o1_1.aO.length:Int))) (NG o1_1 x4 2<|NE (o1_1.ix x4)<|.call 36 [.agg [VS (((o1_1.ix x4).getD 0 .any).ai),((o1_1.ix x4).getD 1 .any)]] [] fun r1 o1=>NI r1<|.done 0 [VI (IntKind.wrap .i64 (x3+r1.toInt)),VI (IntKind.wrap .i64 (x4+1))] [.cells [VS o1_0,o1_1]]) (.done 1 [VI x3] [])
abbrev vP:=cg Tryz.prog 21 Ey AY
theorem zl(x3:Int)(x4:Int)(o1_0:ByteArray)(o1_1:AV)(h:j6 21 (wm x3 x4 o1_0 o1_1) vP U):vP [VI x3,VI x4] [.cells [VS o1_0,o1_1]] U :=
 gQ FL h
def Fl(a0:Int)(a1:Int)(a2:Int):Tree :=
 .test (decide (a0≥a1)) (.done 0 [VB (decide (a0<=a2))] []) (.done 0 [VB false] [])
theorem IJ(a0:Int)(a1:Int)(a2:Int)(h:dl 15 (Fl a0 a1 a2) R):ap Tryz.prog 37 [VI a0,VI a1,VI a2] [] R :=
 uQ (ah (aC _) (ah (aC _) (ah (aC _) aD))) (oQ [] Tryz.f37 h)
def Gm(a0_0:ByteArray)(a0_1:AV)(a1:AV)(a2_0:ByteArray)(a2_1:AV)(a3:Int):Tree :=
 .call 67 [.agg [VS a0_0,a0_1],a1] [] fun r1 o1=>NT r1<|.ak ((r1.comp 0)=.agg (r1.comp 0).cs/\(r1.comp 0).cs.length=2/\bJ [.str,.sl] ((r1.comp 0).cs) 0)<|NL (r1.comp 1)<|.test (!(ac (((r1.comp 0).cs.getD 0 .any).ai)==ac (mk []))) (.test (ac (((r1.comp 0).cs.getD 0 .any).ai)==ac (mk [49])) (.done 0 [VB (ac a2_0==ac (mk [117]))] []) (.call 68 [VS (((r1.comp 0).cs.getD 0 .any).ai)] [] fun r2 o2=>NB r2<|.test r2.toBool (.call 66 [VS a2_0] [] fun r3 o3=>NI r3<|.call 37 [VI r3.toInt,VI 0,VI (IntKind.wrap .i64 (a3-1))] [] fun r4 o4=>NB r4<|.done 0 [VB r4.toBool] []) (.done 0 [VB false] []))) (.call 33 [.agg [VS (((r1.comp 0).cs.getD 0 .any).ai),((r1.comp 0).cs.getD 1 .any)]] [] fun r5 o5=>NS r5<|.call 33 [.agg [VS a2_0,a2_1]] [] fun r6 o6=>NS r6<|.ak (ag r5.ai+ag r6.ai<=9223372036854775807)<|.test (ac ((r5.ai:ByteArray)++r6.ai)==ac (mk [43,108])) (NG ((r1.comp 0).cs.getD 1 .any) 1 2<|NE (((r1.comp 0).cs.getD 1 .any).ix (1:Int))<|NG a2_1 1 2<|NE (a2_1.ix (1:Int))<|.call 38 [.agg [VS (((((r1.comp 0).cs.getD 1 .any).ix (1:Int)).getD 0 .any).ai),((((r1.comp 0).cs.getD 1 .any).ix (1:Int)).getD 1 .any)],(r1.comp 1),.agg [VS (((a2_1.ix (1:Int)).getD 0 .any).ai),((a2_1.ix (1:Int)).getD 1 .any)],VI a3] [] fun r7 o7=>NB r7<|.done 0 [VB r7.toBool] []) (.test (ac ((r5.ai:ByteArray)++r6.ai)==ac (mk [43,114])) (NG ((r1.comp 0).cs.getD 1 .any) 2 2<|NE (((r1.comp 0).cs.getD 1 .any).ix (2:Int))<|NG a2_1 1 2<|NE (a2_1.ix (1:Int))<|.call 38 [.agg [VS (((((r1.comp 0).cs.getD 1 .any).ix (2:Int)).getD 0 .any).ai),((((r1.comp 0).cs.getD 1 .any).ix (2:Int)).getD 1 .any)],(r1.comp 1),.agg [VS (((a2_1.ix (1:Int)).getD 0 .any).ai),((a2_1.ix (1:Int)).getD 1 .any)],VI a3] [] fun r8 o8=>NB r8<|.done 0 [VB r8.toBool] []) (.test (ac ((r5.ai:ByteArray)++r6.ai)==ac (mk [42,112])) (NG ((r1.comp 0).cs.getD 1 .any) 1 2<|NE (((r1.comp 0).cs.getD 1 .any).ix (1:Int))<|NG a2_1 1 2<|NE (a2_1.ix (1:Int))<|.call 38 [.agg [VS (((((r1.comp 0).cs.getD 1 .any).ix (1:Int)).getD 0 .any).ai),((((r1.comp 0).cs.getD 1 .any).ix (1:Int)).getD 1 .any)],(r1.comp 1),.agg [VS (((a2_1.ix (1:Int)).getD 0 .any).ai),((a2_1.ix (1:Int)).getD 1 .any)],VI a3] [] fun r9 o9=>NB r9<|.test r9.toBool (NG ((r1.comp 0).cs.getD 1 .any) 2 2<|NE (((r1.comp 0).cs.getD 1 .any).ix (2:Int))<|NG a2_1 2 2<|NE (a2_1.ix (2:Int))<|.call 38 [.agg [VS (((((r1.comp 0).cs.getD 1 .any).ix (2:Int)).getD 0 .any).ai),((((r1.comp 0).cs.getD 1 .any).ix (2:Int)).getD 1 .any)],(r1.comp 1),.agg [VS (((a2_1.ix (2:Int)).getD 0 .any).ai),((a2_1.ix (2:Int)).getD 1 .any)],VI a3] [] fun r10 o10=>NB r10<|.done 0 [VB r10.toBool] []) (.done 0 [VB false] [])) (.test (ac ((r5.ai:ByteArray)++r6.ai)==ac (mk [114,101,99,102])) (.call 69 [.agg [VS (((r1.comp 0).cs.getD 0 .any).ai),((r1.comp 0).cs.getD 1 .any)],(r1.comp 1)] [] fun r11 o11=>NT r11<|.ak ((r11.comp 0)=.agg (r11.comp 0).cs/\(r11.comp 0).cs.length=2/\bJ [.str,.sl] ((r11.comp 0).cs) 0)<|NL (r11.comp 1)<|NG a2_1 1 2<|NE (a2_1.ix (1:Int))<|.call 38 [.agg [VS (((r11.comp 0).cs.getD 0 .any).ai),((r11.comp 0).cs.getD 1 .any)],(r11.comp 1),.agg [VS (((a2_1.ix (1:Int)).getD 0 .any).ai),((a2_1.ix (1:Int)).getD 1 .any)],VI a3] [] fun r12 o12=>NB r12<|.done 0 [VB r12.toBool] []) (.done 0 [VB false] [])))))
theorem IM(a0_0:ByteArray)(a0_1:AV)(a1:AV)(a2_0:ByteArray)(a2_1:AV)(a3:Int)(ha0_1:LK.has .sl a0_1)(ha1:LK.has .sl a1)(ha2_1:LK.has .sl a2_1)(h:dl 110 (Gm a0_0 a0_1 a1 a2_0 a2_1 a3) R):ap Tryz.prog 38 [.agg [VS a0_0,a0_1],a1,.agg [VS a2_0,a2_1],VI a3] [] R :=
 uQ (ah (cw (ah (aC _) (ah (bR ha0_1) aD))) (ah (bR ha1) (ah (cw (ah (aC _) (ah (bR ha2_1) aD))) (ah (aC _) aD)))) (oQ [] Tryz.f38 h)
def Az:LI:={hd:={bD:=[(1,.k .str),(8,.k .sl),(9,.k (.int .i64))],refs:=[(3,3),(5,5)],bW:=[(3,[.lk .str,.lk .sl]),(5,[.lk .str,.lk .sl])],dL:=[(7,4)]},xs:={bD:=[(1,.k .str)],refs:=[(3,3),(5,5)],bW:=[(3,[.lk .str,.lk .sl]),(5,[.lk .str,.lk .sl])],dL:=[(7,4)]},rt:={},ex:=1}
def Hp:Code:=cz (cr Tryz.f39) 14
def CX:LI:={hd:={bD:=[(10,.k .sl),(11,.k (.int .i64))],refs:=[(5,5)],bW:=[(5,[.lk .str,.lk .sl])],dL:=[(7,4)]},xs:={dL:=[(7,4)]},rt:={},ex:=3}
def HX:Code:=cz (cr Tryz.f39) 19
def AX:LI:={hd:={bD:=[(1,.k .str),(12,.k .str),(13,.k .sl),(14,.k (.int .i64))],refs:=[(3,3),(5,5)],bW:=[(3,[.lk .str,.lk .sl]),(5,[.lk .str,.lk .sl])],dL:=[(7,4)]},xs:={bD:=[(1,.k .str),(12,.k .str)],refs:=[(3,3),(5,5)],bW:=[(3,[.lk .str,.lk .sl]),(5,[.lk .str,.lk .sl])],dL:=[(7,4)]},rt:={},ex:=5}
def Fu:Code:=cz (cr Tryz.f39) 28
def Au:LI:={hd:={bD:=[(1,.k .str),(15,.k .sl),(16,.k (.int .i64))],refs:=[(3,3)],bW:=[(3,[.lk .str,.lk .sl])],dL:=[(7,4)]},xs:={dL:=[(7,4)]},rt:={},ex:=7}
def GD:Code:=cz (cr Tryz.f39) 33
def CP:LI:={hd:={bD:=[(1,.k .str),(15,.k .sl),(16,.k (.int .i64)),(17,.k .sl),(18,.k (.int .i64))],refs:=[(3,3)],bW:=[(3,[.lk .str,.lk .sl])],dL:=[(7,4)]},xs:={bD:=[(1,.k .str),(15,.k .sl),(16,.k (.int .i64))],refs:=[(3,3)],bW:=[(3,[.lk .str,.lk .sl])],dL:=[(7,4)]},rt:={},ex:=9}
def Hd:Code:=cz (cr Tryz.f39) 37
def Df:List (Nat×LI):=[(14,Az),(19,CX),(28,AX),(33,Au),(37,CP)]
def Ao(a0_0:ByteArray)(a0_1:AV)(a1:ByteArray)(a2_0:ByteArray)(a2_1:AV):Tree :=
 .test (!(ac a0_0==ac (mk []))) (.test (ac a0_0==ac a1) (.ak (bU 4 [[VS (mk [117]),.v (.slice none 0 0),VS a2_0,a2_1]]/\((([]:List (List AV)).length)+([[VS (mk [117]),.v (.slice none 0 0),VS a2_0,a2_1]]:List (List AV)).length)*80<=140737488355328)<|.done 0 [.sl [[VS (mk [117]),.v (.slice none 0 0),VS a2_0,a2_1]]] []) (.done 0 [.sl []] [])) (.call 33 [.agg [VS a2_0,a2_1]] [] fun r1 o1=>NS r1<|.test (ac r1.ai==ac (mk [108])) (NG a0_1 1 2<|NE (a0_1.ix (1:Int))<|NG a2_1 1 2<|NE (a2_1.ix (1:Int))<|.call 39 [.agg [VS (((a0_1.ix (1:Int)).getD 0 .any).ai),((a0_1.ix (1:Int)).getD 1 .any)],VS a1,.agg [VS (((a2_1.ix (1:Int)).getD 0 .any).ai),((a2_1.ix (1:Int)).getD 1 .any)]] [] fun r2 o2=>NL r2<|.call 70 [r2,VS (mk [108]),.vec 0] [.vec 4 []] fun r3 o3=>.ak (r3=.vec 1/\(o3.tail.hO)=.vec 4 (o3.tail.hO).es)<|.done 0 [.sl ((o3.tail.hO).es)] []) (.test (ac r1.ai==ac (mk [114])) (NG a0_1 2 2<|NE (a0_1.ix (2:Int))<|NG a2_1 1 2<|NE (a2_1.ix (1:Int))<|.call 39 [.agg [VS (((a0_1.ix (2:Int)).getD 0 .any).ai),((a0_1.ix (2:Int)).getD 1 .any)],VS a1,.agg [VS (((a2_1.ix (1:Int)).getD 0 .any).ai),((a2_1.ix (1:Int)).getD 1 .any)]] [] fun r4 o4=>NL r4<|.call 70 [r4,VS (mk [114]),.vec 0] [.vec 4 []] fun r5 o5=>.ak (r5=.vec 1/\(o5.tail.hO)=.vec 4 (o5.tail.hO).es)<|.done 0 [.sl ((o5.tail.hO).es)] []) (.test (ac r1.ai==ac (mk [112])) (NG a0_1 1 2<|NE (a0_1.ix (1:Int))<|NG a2_1 1 2<|NE (a2_1.ix (1:Int))<|.call 39 [.agg [VS (((a0_1.ix (1:Int)).getD 0 .any).ai),((a0_1.ix (1:Int)).getD 1 .any)],VS a1,.agg [VS (((a2_1.ix (1:Int)).getD 0 .any).ai),((a2_1.ix (1:Int)).getD 1 .any)]] [] fun r6 o6=>NL r6<|.loop Hp Az [VS a1,r6,VI 0] [.cells [VS a0_0,a0_1],.cells [VS a2_0,a2_1],.vec 4 []] (fun y9 q9=>NS (y9.hA)<|.ak ((q9.hO)=.cells (q9.hO).cs)<|.ak (ae [.lk .str,.lk .sl] ((q9.hO).cs) 0 q9.tail)<|.ak (((q9.tail.drop 0).hO)=.cells ((q9.tail.drop 0).hO).cs)<|.ak (ae [.lk .str,.lk .sl] (((q9.tail.drop 0).hO).cs) 0 ((q9.tail.drop 0).tail))<|.ak (((q9.drop 2).hO)=.vec 4 ((q9.drop 2).hO).es)<|NG ((q9.hO).cs.getD 1 .any) 2 2<|NE (((q9.hO).cs.getD 1 .any).ix (2:Int))<|NG ((q9.tail.hO).cs.getD 1 .any) 2 2<|NE (((q9.tail.hO).cs.getD 1 .any).ix (2:Int))<|.call 39 [.agg [VS (((((q9.hO).cs.getD 1 .any).ix (2:Int)).getD 0 .any).ai),((((q9.hO).cs.getD 1 .any).ix (2:Int)).getD 1 .any)],VS ((y9.hA).ai),.agg [VS (((((q9.tail.hO).cs.getD 1 .any).ix (2:Int)).getD 0 .any).ai),((((q9.tail.hO).cs.getD 1 .any).ix (2:Int)).getD 1 .any)]] [] fun r10 o10=>NL r10<|.loop HX CX [r10,VI 0] [.cells [VS (((q9.tail.hO).cs.getD 0 .any).ai),((q9.tail.hO).cs.getD 1 .any)],.vec 4 ((q9.tail.tail.hO).es)] (fun y13 q13=>.ak (((q13.drop 0).hO)=.vec 4 ((q13.drop 0).hO).es)<|.done 0 [.sl ((q13.hO).es)] []) (fun y13 q13=>.done 0 [.any] [])) (fun y9 q9=>.done 0 [.any] [])) (NG a0_1 1 2<|nq (a0_1.ix (1:Int))<|.test (ac (((a0_1.ix (1:Int)).hA).ai)==ac a1) (.done 0 [.sl []] []) (NG a0_1 2 2<|NE (a0_1.ix (2:Int))<|NG a2_1 1 2<|NE (a2_1.ix (1:Int))<|.call 39 [.agg [VS (((a0_1.ix (2:Int)).getD 0 .any).ai),((a0_1.ix (2:Int)).getD 1 .any)],VS a1,.agg [VS (((a2_1.ix (1:Int)).getD 0 .any).ai),((a2_1.ix (1:Int)).getD 1 .any)]] [] fun r14 o14=>NL r14<|.loop Fu AX [VS a1,VS (((a0_1.ix (1:Int)).hA).ai),r14,VI 0] [.cells [VS a0_0,a0_1],.cells [VS a2_0,a2_1],.vec 4 []] (fun y17 q17=>NS (y17.hA)<|NS (y17.tail.hA)<|.ak ((q17.hO)=.cells (q17.hO).cs)<|.ak (ae [.lk .str,.lk .sl] ((q17.hO).cs) 0 q17.tail)<|.ak (((q17.tail.drop 0).hO)=.cells ((q17.tail.drop 0).hO).cs)<|.ak (ae [.lk .str,.lk .sl] (((q17.tail.drop 0).hO).cs) 0 ((q17.tail.drop 0).tail))<|.ak (((q17.drop 2).hO)=.vec 4 ((q17.drop 2).hO).es)<|NG ((q17.hO).cs.getD 1 .any) 2 2<|NE (((q17.hO).cs.getD 1 .any).ix (2:Int))<|NG ((q17.tail.hO).cs.getD 1 .any) 1 2<|NE (((q17.tail.hO).cs.getD 1 .any).ix (1:Int))<|.call 39 [.agg [VS (((((q17.hO).cs.getD 1 .any).ix (2:Int)).getD 0 .any).ai),((((q17.hO).cs.getD 1 .any).ix (2:Int)).getD 1 .any)],VS ((y17.tail.hA).ai),.agg [VS (((((q17.tail.hO).cs.getD 1 .any).ix (1:Int)).getD 0 .any).ai),((((q17.tail.hO).cs.getD 1 .any).ix (1:Int)).getD 1 .any)]] [] fun r18 o18=>NL r18<|.loop GD Au [VS ((y17.hA).ai),r18,VI 0] [.cells [VS (((q17.hO).cs.getD 0 .any).ai),((q17.hO).cs.getD 1 .any)],.vec 4 ((q17.tail.tail.hO).es)] (fun y24 q24=>.ak (((q24.drop 0).hO)=.vec 4 ((q24.drop 0).hO).es)<|.done 0 [.sl ((q24.hO).es)] []) (fun y24 q24=>.done 0 [.any] [])) (fun y17 q17=>.done 0 [.any] []))))))
theorem IN(a0_0:ByteArray)(a0_1:AV)(a1:ByteArray)(a2_0:ByteArray)(a2_1:AV)(ha0_1:LK.has .sl a0_1)(ha2_1:LK.has .sl a2_1)(h:dl 244 (Ao a0_0 a0_1 a1 a2_0 a2_1) R):ap Tryz.prog 39 [.agg [VS a0_0,a0_1],VS a1,.agg [VS a2_0,a2_1]] [] R :=
 uQ (ah (cw (ah (aC _) (ah (bR ha0_1) aD))) (ah (aC _) (ah (cw (ah (aC _) (ah (bR ha2_1) aD))) aD))) (oQ Df Tryz.f39 h)
def BD(x1:ByteArray)(x8:AV)(x9:Int)(o3_0:ByteArray)(o3_1:AV)(o5_0:ByteArray)(o5_1:AV)(e7:List (List AV)):Tree :=
 NS (VS x1)<|NL x8<|NI (VI x9)<|.ak (Ob.cells [VS o3_0,o3_1]=.cells [VS o3_0,o3_1])<|.ak (ae [.lk .str,.lk .sl] [VS o3_0,o3_1] 0 [.cells [VS o5_0,o5_1],.vec 4 e7])<|.ak (Ob.cells [VS o5_0,o5_1]=.cells [VS o5_0,o5_1])<|.ak (ae [.lk .str,.lk .sl] [VS o5_0,o5_1] 0 [.vec 4 e7])<|.ak (Ob.vec 4 e7=.vec 4 e7)<|NL x8<|.test (decide (x9<(x8.aO.length:Int))) (NG x8 x9 4<|NE (x8.ix x9)<|NG o5_1 2 2<|NE (o5_1.ix (2:Int))<|.call 47 [VS (mk [112]),.sl [[VS (((x8.ix x9).getD 0 .any).ai),((x8.ix x9).getD 1 .any)],[VS (((o5_1.ix (2:Int)).getD 0 .any).ai),((o5_1.ix (2:Int)).getD 1 .any)]]] [] fun r1 o1=>NA r1<|.call 47 [VS (mk [108]),.sl [[VS ((r1.cs.getD 0 .any).ai),(r1.cs.getD 1 .any)]]] [] fun r2 o2=>NA r2<|NG x8 x9 4<|NE ((x8.ix x9).drop 2)<|.ak (bU 4 [[VS ((r2.cs.getD 0 .any).ai),(r2.cs.getD 1 .any),VS ((((x8.ix x9).drop 2).getD 0 .any).ai),(((x8.ix x9).drop 2).getD 1 .any)]]/\((e7.length)+([[VS ((r2.cs.getD 0 .any).ai),(r2.cs.getD 1 .any),VS ((((x8.ix x9).drop 2).getD 0 .any).ai),(((x8.ix x9).drop 2).getD 1 .any)]]:List (List AV)).length)*80<=140737488355328)<|.done 0 [VS x1,x8,VI (IntKind.wrap .i64 (x9+1))] [.cells [VS o3_0,o3_1],.cells [VS o5_0,o5_1],.vec 4 (e7++([[VS ((r2.cs.getD 0 .any).ai),(r2.cs.getD 1 .any),VS ((((x8.ix x9).drop 2).getD 0 .any).ai),(((x8.ix x9).drop 2).getD 1 .any)]]:List (List AV)))]) (.done 1 [VS x1] [.cells [VS o3_0,o3_1],.cells [VS o5_0,o5_1],.vec 4 e7])
abbrev Cc:=cg Tryz.prog 244 Hp Az
theorem FQ(x1:ByteArray)(x8:AV)(x9:Int)(o3_0:ByteArray)(o3_1:AV)(o5_0:ByteArray)(o5_1:AV)(e7:List (List AV))(h:j6 244 (BD x1 x8 x9 o3_0 o3_1 o5_0 o5_1 e7) Cc U):Cc [VS x1,x8,VI x9] [.cells [VS o3_0,o3_1],.cells [VS o5_0,o5_1],.vec 4 e7] U :=
 gQ Df h
def BY(x10:AV)(x11:Int)(o5_0:ByteArray)(o5_1:AV)(e7:List (List AV)):Tree :=
 NL x10<|NI (VI x11)<|.ak (Ob.cells [VS o5_0,o5_1]=.cells [VS o5_0,o5_1])<|.ak (ae [.lk .str,.lk .sl] [VS o5_0,o5_1] 0 [.vec 4 e7])<|.ak (Ob.vec 4 e7=.vec 4 e7)<|NL x10<|.test (decide (x11<(x10.aO.length:Int))) (NG o5_1 1 2<|NE (o5_1.ix (1:Int))<|NG x10 x11 4<|NE (x10.ix x11)<|.call 47 [VS (mk [112]),.sl [[VS (((o5_1.ix (1:Int)).getD 0 .any).ai),((o5_1.ix (1:Int)).getD 1 .any)],[VS (((x10.ix x11).getD 0 .any).ai),((x10.ix x11).getD 1 .any)]]] [] fun r1 o1=>NA r1<|.call 47 [VS (mk [114]),.sl [[VS ((r1.cs.getD 0 .any).ai),(r1.cs.getD 1 .any)]]] [] fun r2 o2=>NA r2<|NG x10 x11 4<|NE ((x10.ix x11).drop 2)<|.ak (bU 4 [[VS ((r2.cs.getD 0 .any).ai),(r2.cs.getD 1 .any),VS ((((x10.ix x11).drop 2).getD 0 .any).ai),(((x10.ix x11).drop 2).getD 1 .any)]]/\((e7.length)+([[VS ((r2.cs.getD 0 .any).ai),(r2.cs.getD 1 .any),VS ((((x10.ix x11).drop 2).getD 0 .any).ai),(((x10.ix x11).drop 2).getD 1 .any)]]:List (List AV)).length)*80<=140737488355328)<|.done 0 [x10,VI (IntKind.wrap .i64 (x11+1))] [.cells [VS o5_0,o5_1],.vec 4 (e7++([[VS ((r2.cs.getD 0 .any).ai),(r2.cs.getD 1 .any),VS ((((x10.ix x11).drop 2).getD 0 .any).ai),(((x10.ix x11).drop 2).getD 1 .any)]]:List (List AV)))]) (.done 1 [] [.vec 4 e7])
abbrev Bk:=cg Tryz.prog 244 HX CX
theorem D9(x10:AV)(x11:Int)(o5_0:ByteArray)(o5_1:AV)(e7:List (List AV))(h:j6 244 (BY x10 x11 o5_0 o5_1 e7) Bk U):Bk [x10,VI x11] [.cells [VS o5_0,o5_1],.vec 4 e7] U :=
 gQ Df h
def CY(x1:ByteArray)(x12:ByteArray)(x13:AV)(x14:Int)(o3_0:ByteArray)(o3_1:AV)(o5_0:ByteArray)(o5_1:AV)(e7:List (List AV)):Tree :=
 NS (VS x1)<|NS (VS x12)<|NL x13<|NI (VI x14)<|.ak (Ob.cells [VS o3_0,o3_1]=.cells [VS o3_0,o3_1])<|.ak (ae [.lk .str,.lk .sl] [VS o3_0,o3_1] 0 [.cells [VS o5_0,o5_1],.vec 4 e7])<|.ak (Ob.cells [VS o5_0,o5_1]=.cells [VS o5_0,o5_1])<|.ak (ae [.lk .str,.lk .sl] [VS o5_0,o5_1] 0 [.vec 4 e7])<|.ak (Ob.vec 4 e7=.vec 4 e7)<|NL x13<|.test (decide (x14<(x13.aO.length:Int))) (NG x13 x14 4<|NE (x13.ix x14)<|.call 47 [VS (mk [108]),.sl [[VS (((x13.ix x14).getD 0 .any).ai),((x13.ix x14).getD 1 .any)]]] [] fun r1 o1=>NA r1<|.call 47 [VS (mk [102]),.sl [[VS ((r1.cs.getD 0 .any).ai),(r1.cs.getD 1 .any)]]] [] fun r2 o2=>NA r2<|NG x13 x14 4<|NE ((x13.ix x14).drop 2)<|.ak (bU 4 [[VS ((r2.cs.getD 0 .any).ai),(r2.cs.getD 1 .any),VS ((((x13.ix x14).drop 2).getD 0 .any).ai),(((x13.ix x14).drop 2).getD 1 .any)]]/\((e7.length)+([[VS ((r2.cs.getD 0 .any).ai),(r2.cs.getD 1 .any),VS ((((x13.ix x14).drop 2).getD 0 .any).ai),(((x13.ix x14).drop 2).getD 1 .any)]]:List (List AV)).length)*80<=140737488355328)<|.done 0 [VS x1,VS x12,x13,VI (IntKind.wrap .i64 (x14+1))] [.cells [VS o3_0,o3_1],.cells [VS o5_0,o5_1],.vec 4 (e7++([[VS ((r2.cs.getD 0 .any).ai),(r2.cs.getD 1 .any),VS ((((x13.ix x14).drop 2).getD 0 .any).ai),(((x13.ix x14).drop 2).getD 1 .any)]]:List (List AV)))]) (.done 1 [VS x1,VS x12] [.cells [VS o3_0,o3_1],.cells [VS o5_0,o5_1],.vec 4 e7])
abbrev BE:=cg Tryz.prog 244 Fu AX
theorem Gt(x1:ByteArray)(x12:ByteArray)(x13:AV)(x14:Int)(o3_0:ByteArray)(o3_1:AV)(o5_0:ByteArray)(o5_1:AV)(e7:List (List AV))(h:j6 244 (CY x1 x12 x13 x14 o3_0 o3_1 o5_0 o5_1 e7) BE U):BE [VS x1,VS x12,x13,VI x14] [.cells [VS o3_0,o3_1],.cells [VS o5_0,o5_1],.vec 4 e7] U :=
 gQ Df h
def A8(x1:ByteArray)(x15:AV)(x16:Int)(o3_0:ByteArray)(o3_1:AV)(e7:List (List AV)):Tree :=
 NS (VS x1)<|NL x15<|NI (VI x16)<|.ak (Ob.cells [VS o3_0,o3_1]=.cells [VS o3_0,o3_1])<|.ak (ae [.lk .str,.lk .sl] [VS o3_0,o3_1] 0 [.vec 4 e7])<|.ak (Ob.vec 4 e7=.vec 4 e7)<|NL x15<|.test (decide (x16<(x15.aO.length:Int))) (NG x15 x16 4<|NE ((x15.ix x16).drop 2)<|.call 39 [.agg [VS o3_0,o3_1],VS x1,.agg [VS ((((x15.ix x16).drop 2).getD 0 .any).ai),(((x15.ix x16).drop 2).getD 1 .any)]] [] fun r1 o1=>NL r1<|.loop Hd CP [VS x1,x15,VI x16,r1,VI 0] [.cells [VS o3_0,o3_1],.vec 4 e7] (fun y2 q2=>NS (y2.hA)<|NL (y2.tail.hA)<|NI (y2.tail.tail.hA)<|.ak ((q2.hO)=.cells (q2.hO).cs)<|.ak (ae [.lk .str,.lk .sl] ((q2.hO).cs) 0 q2.tail)<|.ak (((q2.drop 1).hO)=.vec 4 ((q2.drop 1).hO).es)<|.done 0 [VS ((y2.hA).ai),(y2.tail.hA),VI (IntKind.wrap .i64 (((y2.tail.tail.hA).toInt)+1))] [.cells [VS (((q2.hO).cs.getD 0 .any).ai),((q2.hO).cs.getD 1 .any)],.vec 4 ((q2.tail.hO).es)]) (fun y2 q2=>.done 2 [] [])) (.done 1 [] [.vec 4 e7])
abbrev Bp:=cg Tryz.prog 244 GD Au
theorem F8(x1:ByteArray)(x15:AV)(x16:Int)(o3_0:ByteArray)(o3_1:AV)(e7:List (List AV))(h:j6 244 (A8 x1 x15 x16 o3_0 o3_1 e7) Bp U):Bp [VS x1,x15,VI x16] [.cells [VS o3_0,o3_1],.vec 4 e7] U :=
 gQ Df h
def CF(x1:ByteArray)(x15:AV)(x16:Int)(x17:AV)(x18:Int)(o3_0:ByteArray)(o3_1:AV)(e7:List (List AV)):Tree :=
 NS (VS x1)<|NL x15<|NI (VI x16)<|NL x17<|NI (VI x18)<|.ak (Ob.cells [VS o3_0,o3_1]=.cells [VS o3_0,o3_1])<|.ak (ae [.lk .str,.lk .sl] [VS o3_0,o3_1] 0 [.vec 4 e7])<|.ak (Ob.vec 4 e7=.vec 4 e7)<|NL x17<|.test (decide (x18<(x17.aO.length:Int))) (NG x15 x16 4<|NE (x15.ix x16)<|NG x17 x18 4<|NE (x17.ix x18)<|.call 47 [VS (mk [112]),.sl [[VS (((x15.ix x16).getD 0 .any).ai),((x15.ix x16).getD 1 .any)],[VS (((x17.ix x18).getD 0 .any).ai),((x17.ix x18).getD 1 .any)]]] [] fun r1 o1=>NA r1<|.call 47 [VS (mk [114]),.sl [[VS ((r1.cs.getD 0 .any).ai),(r1.cs.getD 1 .any)]]] [] fun r2 o2=>NA r2<|.call 47 [VS (mk [102]),.sl [[VS ((r2.cs.getD 0 .any).ai),(r2.cs.getD 1 .any)]]] [] fun r3 o3=>NA r3<|NG x17 x18 4<|NE ((x17.ix x18).drop 2)<|.ak (bU 4 [[VS ((r3.cs.getD 0 .any).ai),(r3.cs.getD 1 .any),VS ((((x17.ix x18).drop 2).getD 0 .any).ai),(((x17.ix x18).drop 2).getD 1 .any)]]/\((e7.length)+([[VS ((r3.cs.getD 0 .any).ai),(r3.cs.getD 1 .any),VS ((((x17.ix x18).drop 2).getD 0 .any).ai),(((x17.ix x18).drop 2).getD 1 .any)]]:List (List AV)).length)*80<=140737488355328)<|.done 0 [VS x1,x15,VI x16,x17,VI (IntKind.wrap .i64 (x18+1))] [.cells [VS o3_0,o3_1],.vec 4 (e7++([[VS ((r3.cs.getD 0 .any).ai),(r3.cs.getD 1 .any),VS ((((x17.ix x18).drop 2).getD 0 .any).ai),(((x17.ix x18).drop 2).getD 1 .any)]]:List (List AV)))]) (.done 1 [VS x1,x15,VI x16] [.cells [VS o3_0,o3_1],.vec 4 e7])
abbrev Bb:=cg Tryz.prog 244 Hd CP
theorem Et(x1:ByteArray)(x15:AV)(x16:Int)(x17:AV)(x18:Int)(o3_0:ByteArray)(o3_1:AV)(e7:List (List AV))(h:j6 244 (CF x1 x15 x16 x17 x18 o3_0 o3_1 e7) Bb U):Bb [VS x1,x15,VI x16,x17,VI x18] [.cells [VS o3_0,o3_1],.vec 4 e7] U :=
 gQ Df h
def Hq(a0_0:AV)(a0_1:Int):Tree :=
 .call 13 [.ref 0 0,VI 12] [.cells [a0_0,VI a0_1]] fun r1 o1=>.ak ((o1.hO)=.cells (o1.hO).cs)<|.ak (aN [.lk .sl,.lk (.int .i64)] ((o1.hO).cs) 0 1 o1.tail)<|NI r1<|.test (r1.toInt==(0:Int)) (.call 23 [.ref 0 0,.sl [[VS (mk [])],[VS (mk [97])],[VS (mk [40,43,32,49,41])],[VS (mk [40,114,101,99,32,120,32,49,41])],[VS (mk [40,114,101,99,32,116,41])],[VS (mk [40,43,32,32,49,32,49,41])],[VS (mk [40,42,32,49,32,49,32,49,41])],[VS (mk [116,49,48,48])],[VS (mk [120,32,49])]]] [.cells [((o1.hO).cs.getD 0 .any),VI (((o1.hO).cs.getD 1 .any).toInt)]] fun r2 o2=>.ak ((o2.hO)=.cells (o2.hO).cs)<|.ak (aN [.lk .sl,.lk (.int .i64)] ((o2.hO).cs) 0 1 o2.tail)<|NS r2<|.done 0 [VS r2.ai] [.cells [((o2.hO).cs.getD 0 .any),VI (((o2.hO).cs.getD 1 .any).toInt)]]) (.test (r1.toInt==(1:Int)) (.call 12 [.ref 0 0] [.cells [((o1.hO).cs.getD 0 .any),VI (((o1.hO).cs.getD 1 .any).toInt)]] fun r3 o3=>.ak ((o3.hO)=.cells (o3.hO).cs)<|.ak (aN [.lk .sl,.lk (.int .i64)] ((o3.hO).cs) 0 1 o3.tail)<|NS r3<|.done 0 [VS r3.ai] [.cells [((o3.hO).cs.getD 0 .any),VI (((o3.hO).cs.getD 1 .any).toInt)]]) (.test (r1.toInt==(2:Int)) (.call 12 [.ref 0 0] [.cells [((o1.hO).cs.getD 0 .any),VI (((o1.hO).cs.getD 1 .any).toInt)]] fun r4 o4=>.ak ((o4.hO)=.cells (o4.hO).cs)<|.ak (aN [.lk .sl,.lk (.int .i64)] ((o4.hO).cs) 0 1 o4.tail)<|NS r4<|.done 0 [VS r4.ai] [.cells [((o4.hO).cs.getD 0 .any),VI (((o4.hO).cs.getD 1 .any).toInt)]]) (.test (r1.toInt==(3:Int)) (.call 12 [.ref 0 0] [.cells [((o1.hO).cs.getD 0 .any),VI (((o1.hO).cs.getD 1 .any).toInt)]] fun r5 o5=>.ak ((o5.hO)=.cells (o5.hO).cs)<|.ak (aN [.lk .sl,.lk (.int .i64)] ((o5.hO).cs) 0 1 o5.tail)<|NS r5<|.done 0 [VS r5.ai] [.cells [((o5.hO).cs.getD 0 .any),VI (((o5.hO).cs.getD 1 .any).toInt)]]) (.test (r1.toInt==(4:Int)) (.call 41 [.ref 0 0,.sl [[VS (mk [116])],[VS (mk [116,49])]],VI 2] [.cells [((o1.hO).cs.getD 0 .any),VI (((o1.hO).cs.getD 1 .any).toInt)]] fun r6 o6=>.ak ((o6.hO)=.cells (o6.hO).cs)<|.ak (aN [.lk .sl,.lk (.int .i64)] ((o6.hO).cs) 0 1 o6.tail)<|NS r6<|.done 0 [VS r6.ai] [.cells [((o6.hO).cs.getD 0 .any),VI (((o6.hO).cs.getD 1 .any).toInt)]]) (.call 41 [.ref 0 0,.sl [],VI 3] [.cells [((o1.hO).cs.getD 0 .any),VI (((o1.hO).cs.getD 1 .any).toInt)]] fun r7 o7=>.ak ((o7.hO)=.cells (o7.hO).cs)<|.ak (aN [.lk .sl,.lk (.int .i64)] ((o7.hO).cs) 0 1 o7.tail)<|NS r7<|.done 0 [VS r7.ai] [.cells [((o7.hO).cs.getD 0 .any),VI (((o7.hO).cs.getD 1 .any).toInt)]])))))
theorem IP(a0_0:AV)(a0_1:Int)(ha0_0:LK.has .sl a0_0)(h:dl 24 (Hq a0_0 a0_1) R):ap Tryz.prog 40 [.ref 0 0] [.cells [a0_0,VI a0_1]] R :=
 ap.mO (bh (bQ (ah (bR ha0_0) (ah (aC _) aD))) cm) (ap.up (ah (aC _) aD) (oF [] {mu:=[(0,.one (.obj [.lk .sl,.lk (.int .i64)]))],own:=[]} Tryz.f40 h))
def Ay(a0_0:AV)(a0_1:Int)(a1:AV)(a2:Int):Tree :=
 .test (decide (a2<=(0:Int))) (NL a1<|.test (decide ((a1.aO.length:Int)>(0:Int))) (.call 13 [.ref 0 0,VI 3] [.cells [a0_0,VI a0_1]] fun r1 o1=>.ak ((o1.hO)=.cells (o1.hO).cs)<|.ak (aN [.lk .sl,.lk (.int .i64)] ((o1.hO).cs) 0 1 o1.tail)<|NI r1<|.test (r1.toInt==(0:Int)) (NL a1<|.call 13 [.ref 0 0,VI (a1.aO.length:Int)] [.cells [((o1.hO).cs.getD 0 .any),VI (((o1.hO).cs.getD 1 .any).toInt)]] fun r2 o2=>.ak ((o2.hO)=.cells (o2.hO).cs)<|.ak (aN [.lk .sl,.lk (.int .i64)] ((o2.hO).cs) 0 1 o2.tail)<|NI r2<|.ak (LK.has .sl a1/\0<=r2.toInt/\r2.toInt<a1.aO.length/\(a1.aO.getD r2.toInt.toNat []).length=1)<|nq (a1.aO.getD r2.toInt.toNat [])<|.done 0 [VS (((a1.aO.getD r2.toInt.toNat []).hA).ai)] [.cells [((o2.hO).cs.getD 0 .any),VI (((o2.hO).cs.getD 1 .any).toInt)]]) (.call 23 [.ref 0 0,.sl [[VS (mk [120])],[VS (mk [49])],[VS (mk [120])],[VS (mk [121])],[VS (mk [48])],[VS (mk [49])]]] [.cells [((o1.hO).cs.getD 0 .any),VI (((o1.hO).cs.getD 1 .any).toInt)]] fun r3 o3=>.ak ((o3.hO)=.cells (o3.hO).cs)<|.ak (aN [.lk .sl,.lk (.int .i64)] ((o3.hO).cs) 0 1 o3.tail)<|NS r3<|.done 0 [VS r3.ai] [.cells [((o3.hO).cs.getD 0 .any),VI (((o3.hO).cs.getD 1 .any).toInt)]])) (.call 23 [.ref 0 0,.sl [[VS (mk [120])],[VS (mk [49])],[VS (mk [120])],[VS (mk [121])],[VS (mk [48])],[VS (mk [49])]]] [.cells [a0_0,VI a0_1]] fun r4 o4=>.ak ((o4.hO)=.cells (o4.hO).cs)<|.ak (aN [.lk .sl,.lk (.int .i64)] ((o4.hO).cs) 0 1 o4.tail)<|NS r4<|.done 0 [VS r4.ai] [.cells [((o4.hO).cs.getD 0 .any),VI (((o4.hO).cs.getD 1 .any).toInt)]])) (.call 13 [.ref 0 0,VI 4] [.cells [a0_0,VI a0_1]] fun r5 o5=>.ak ((o5.hO)=.cells (o5.hO).cs)<|.ak (aN [.lk .sl,.lk (.int .i64)] ((o5.hO).cs) 0 1 o5.tail)<|NI r5<|.test (r5.toInt==(0:Int)) (NL a1<|.test (decide ((a1.aO.length:Int)>(0:Int))) (.call 13 [.ref 0 0,VI 3] [.cells [((o5.hO).cs.getD 0 .any),VI (((o5.hO).cs.getD 1 .any).toInt)]] fun r6 o6=>.ak ((o6.hO)=.cells (o6.hO).cs)<|.ak (aN [.lk .sl,.lk (.int .i64)] ((o6.hO).cs) 0 1 o6.tail)<|NI r6<|.test (r6.toInt==(0:Int)) (NL a1<|.call 13 [.ref 0 0,VI (a1.aO.length:Int)] [.cells [((o6.hO).cs.getD 0 .any),VI (((o6.hO).cs.getD 1 .any).toInt)]] fun r7 o7=>.ak ((o7.hO)=.cells (o7.hO).cs)<|.ak (aN [.lk .sl,.lk (.int .i64)] ((o7.hO).cs) 0 1 o7.tail)<|NI r7<|.ak (LK.has .sl a1/\0<=r7.toInt/\r7.toInt<a1.aO.length/\(a1.aO.getD r7.toInt.toNat []).length=1)<|nq (a1.aO.getD r7.toInt.toNat [])<|.done 0 [VS (((a1.aO.getD r7.toInt.toNat []).hA).ai)] [.cells [((o7.hO).cs.getD 0 .any),VI (((o7.hO).cs.getD 1 .any).toInt)]]) (.call 23 [.ref 0 0,.sl [[VS (mk [120])],[VS (mk [49])],[VS (mk [120])],[VS (mk [121])],[VS (mk [48])],[VS (mk [49])]]] [.cells [((o6.hO).cs.getD 0 .any),VI (((o6.hO).cs.getD 1 .any).toInt)]] fun r8 o8=>.ak ((o8.hO)=.cells (o8.hO).cs)<|.ak (aN [.lk .sl,.lk (.int .i64)] ((o8.hO).cs) 0 1 o8.tail)<|NS r8<|.done 0 [VS r8.ai] [.cells [((o8.hO).cs.getD 0 .any),VI (((o8.hO).cs.getD 1 .any).toInt)]])) (.call 23 [.ref 0 0,.sl [[VS (mk [120])],[VS (mk [49])],[VS (mk [120])],[VS (mk [121])],[VS (mk [48])],[VS (mk [49])]]] [.cells [((o5.hO).cs.getD 0 .any),VI (((o5.hO).cs.getD 1 .any).toInt)]] fun r9 o9=>.ak ((o9.hO)=.cells (o9.hO).cs)<|.ak (aN [.lk .sl,.lk (.int .i64)] ((o9.hO).cs) 0 1 o9.tail)<|NS r9<|.done 0 [VS r9.ai] [.cells [((o9.hO).cs.getD 0 .any),VI (((o9.hO).cs.getD 1 .any).toInt)]])) (.call 13 [.ref 0 0,VI 5] [.cells [((o5.hO).cs.getD 0 .any),VI (((o5.hO).cs.getD 1 .any).toInt)]] fun r10 o10=>.ak ((o10.hO)=.cells (o10.hO).cs)<|.ak (aN [.lk .sl,.lk (.int .i64)] ((o10.hO).cs) 0 1 o10.tail)<|NI r10<|.test (r10.toInt==(0:Int)) (.call 41 [.ref 0 0,a1,VI (IntKind.wrap .i64 (a2-1))] [.cells [((o10.hO).cs.getD 0 .any),VI (((o10.hO).cs.getD 1 .any).toInt)]] fun r11 o11=>.ak ((o11.hO)=.cells (o11.hO).cs)<|.ak (aN [.lk .sl,.lk (.int .i64)] ((o11.hO).cs) 0 1 o11.tail)<|NS r11<|.ak (ag (mk [40,43,32])+ag r11.ai<=9223372036854775807)<|.ak (ag (((mk [40,43,32]):ByteArray)++r11.ai)+ag (mk [32])<=9223372036854775807)<|.call 41 [.ref 0 0,a1,VI (IntKind.wrap .i64 (a2-1))] [.cells [((o11.hO).cs.getD 0 .any),VI (((o11.hO).cs.getD 1 .any).toInt)]] fun r12 o12=>.ak ((o12.hO)=.cells (o12.hO).cs)<|.ak (aN [.lk .sl,.lk (.int .i64)] ((o12.hO).cs) 0 1 o12.tail)<|NS r12<|.ak (ag (((((mk [40,43,32]):ByteArray)++r11.ai):ByteArray)++(mk [32]))+ag r12.ai<=9223372036854775807)<|.ak (ag (((((((mk [40,43,32]):ByteArray)++r11.ai):ByteArray)++(mk [32])):ByteArray)++r12.ai)+ag (mk [41])<=9223372036854775807)<|.done 0 [VS (((((((((mk [40,43,32]):ByteArray)++r11.ai):ByteArray)++(mk [32])):ByteArray)++r12.ai):ByteArray)++(mk [41]))] [.cells [((o12.hO).cs.getD 0 .any),VI (((o12.hO).cs.getD 1 .any).toInt)]]) (.test (r10.toInt==(1:Int)) (.call 41 [.ref 0 0,a1,VI (IntKind.wrap .i64 (a2-1))] [.cells [((o10.hO).cs.getD 0 .any),VI (((o10.hO).cs.getD 1 .any).toInt)]] fun r13 o13=>.ak ((o13.hO)=.cells (o13.hO).cs)<|.ak (aN [.lk .sl,.lk (.int .i64)] ((o13.hO).cs) 0 1 o13.tail)<|NS r13<|.ak (ag (mk [40,43,32])+ag r13.ai<=9223372036854775807)<|.ak (ag (((mk [40,43,32]):ByteArray)++r13.ai)+ag (mk [32])<=9223372036854775807)<|.call 41 [.ref 0 0,a1,VI (IntKind.wrap .i64 (a2-1))] [.cells [((o13.hO).cs.getD 0 .any),VI (((o13.hO).cs.getD 1 .any).toInt)]] fun r14 o14=>.ak ((o14.hO)=.cells (o14.hO).cs)<|.ak (aN [.lk .sl,.lk (.int .i64)] ((o14.hO).cs) 0 1 o14.tail)<|NS r14<|.ak (ag (((((mk [40,43,32]):ByteArray)++r13.ai):ByteArray)++(mk [32]))+ag r14.ai<=9223372036854775807)<|.ak (ag (((((((mk [40,43,32]):ByteArray)++r13.ai):ByteArray)++(mk [32])):ByteArray)++r14.ai)+ag (mk [41])<=9223372036854775807)<|.done 0 [VS (((((((((mk [40,43,32]):ByteArray)++r13.ai):ByteArray)++(mk [32])):ByteArray)++r14.ai):ByteArray)++(mk [41]))] [.cells [((o14.hO).cs.getD 0 .any),VI (((o14.hO).cs.getD 1 .any).toInt)]]) (.test (r10.toInt==(2:Int)) (.call 41 [.ref 0 0,a1,VI (IntKind.wrap .i64 (a2-1))] [.cells [((o10.hO).cs.getD 0 .any),VI (((o10.hO).cs.getD 1 .any).toInt)]] fun r15 o15=>.ak ((o15.hO)=.cells (o15.hO).cs)<|.ak (aN [.lk .sl,.lk (.int .i64)] ((o15.hO).cs) 0 1 o15.tail)<|NS r15<|.ak (ag (mk [40,42,32])+ag r15.ai<=9223372036854775807)<|.ak (ag (((mk [40,42,32]):ByteArray)++r15.ai)+ag (mk [32])<=9223372036854775807)<|.call 41 [.ref 0 0,a1,VI (IntKind.wrap .i64 (a2-1))] [.cells [((o15.hO).cs.getD 0 .any),VI (((o15.hO).cs.getD 1 .any).toInt)]] fun r16 o16=>.ak ((o16.hO)=.cells (o16.hO).cs)<|.ak (aN [.lk .sl,.lk (.int .i64)] ((o16.hO).cs) 0 1 o16.tail)<|NS r16<|.ak (ag (((((mk [40,42,32]):ByteArray)++r15.ai):ByteArray)++(mk [32]))+ag r16.ai<=9223372036854775807)<|.ak (ag (((((((mk [40,42,32]):ByteArray)++r15.ai):ByteArray)++(mk [32])):ByteArray)++r16.ai)+ag (mk [41])<=9223372036854775807)<|.done 0 [VS (((((((((mk [40,42,32]):ByteArray)++r15.ai):ByteArray)++(mk [32])):ByteArray)++r16.ai):ByteArray)++(mk [41]))] [.cells [((o16.hO).cs.getD 0 .any),VI (((o16.hO).cs.getD 1 .any).toInt)]]) (.test (r10.toInt==(3:Int)) (.call 41 [.ref 0 0,a1,VI (IntKind.wrap .i64 (a2-1))] [.cells [((o10.hO).cs.getD 0 .any),VI (((o10.hO).cs.getD 1 .any).toInt)]] fun r17 o17=>.ak ((o17.hO)=.cells (o17.hO).cs)<|.ak (aN [.lk .sl,.lk (.int .i64)] ((o17.hO).cs) 0 1 o17.tail)<|NS r17<|.ak (ag (mk [40,42,32])+ag r17.ai<=9223372036854775807)<|.ak (ag (((mk [40,42,32]):ByteArray)++r17.ai)+ag (mk [32])<=9223372036854775807)<|.call 41 [.ref 0 0,a1,VI (IntKind.wrap .i64 (a2-1))] [.cells [((o17.hO).cs.getD 0 .any),VI (((o17.hO).cs.getD 1 .any).toInt)]] fun r18 o18=>.ak ((o18.hO)=.cells (o18.hO).cs)<|.ak (aN [.lk .sl,.lk (.int .i64)] ((o18.hO).cs) 0 1 o18.tail)<|NS r18<|.ak (ag (((((mk [40,42,32]):ByteArray)++r17.ai):ByteArray)++(mk [32]))+ag r18.ai<=9223372036854775807)<|.ak (ag (((((((mk [40,42,32]):ByteArray)++r17.ai):ByteArray)++(mk [32])):ByteArray)++r18.ai)+ag (mk [41])<=9223372036854775807)<|.done 0 [VS (((((((((mk [40,42,32]):ByteArray)++r17.ai):ByteArray)++(mk [32])):ByteArray)++r18.ai):ByteArray)++(mk [41]))] [.cells [((o18.hO).cs.getD 0 .any),VI (((o18.hO).cs.getD 1 .any).toInt)]]) (.call 23 [.ref 0 0,.sl [[VS (mk [116])],[VS (mk [116,49])],[VS (mk [116,48])]]] [.cells [((o10.hO).cs.getD 0 .any),VI (((o10.hO).cs.getD 1 .any).toInt)]] fun r19 o19=>.ak ((o19.hO)=.cells (o19.hO).cs)<|.ak (aN [.lk .sl,.lk (.int .i64)] ((o19.hO).cs) 0 1 o19.tail)<|NS r19<|.ak (ag (mk [40,114,101,99,32])+ag r19.ai<=9223372036854775807)<|.ak (ag (((mk [40,114,101,99,32]):ByteArray)++r19.ai)+ag (mk [32,40,43,32,49,32])<=9223372036854775807)<|.call 71 [a1,VS r19.ai] [] fun r20 o20=>NL r20<|.call 41 [.ref 0 0,r20,VI (IntKind.wrap .i64 (a2-1))] [.cells [((o19.hO).cs.getD 0 .any),VI (((o19.hO).cs.getD 1 .any).toInt)]] fun r21 o21=>.ak ((o21.hO)=.cells (o21.hO).cs)<|.ak (aN [.lk .sl,.lk (.int .i64)] ((o21.hO).cs) 0 1 o21.tail)<|NS r21<|.ak (ag (((((mk [40,114,101,99,32]):ByteArray)++r19.ai):ByteArray)++(mk [32,40,43,32,49,32]))+ag r21.ai<=9223372036854775807)<|.ak (ag (((((((mk [40,114,101,99,32]):ByteArray)++r19.ai):ByteArray)++(mk [32,40,43,32,49,32])):ByteArray)++r21.ai)+ag (mk [41,41])<=9223372036854775807)<|.done 0 [VS (((((((((mk [40,114,101,99,32]):ByteArray)++r19.ai):ByteArray)++(mk [32,40,43,32,49,32])):ByteArray)++r21.ai):ByteArray)++(mk [41,41]))] [.cells [((o21.hO).cs.getD 0 .any),VI (((o21.hO).cs.getD 1 .any).toInt)]]))))))
theorem EZ(a0_0:AV)(a0_1:Int)(a1:AV)(a2:Int)(ha1:LK.has .sl a1)(ha0_0:LK.has .sl a0_0)(h:dl 82 (Ay a0_0 a0_1 a1 a2) R):ap Tryz.prog 41 [.ref 0 0,a1,VI a2] [.cells [a0_0,VI a0_1]] R :=
 ap.mO (bh (bQ (ah (bR ha0_0) (ah (aC _) aD))) cm) (ap.up (ah (aC _) (ah (bR ha1) (ah (aC _) aD))) (oF [] {mu:=[(0,.one (.obj [.lk .sl,.lk (.int .i64)]))],own:=[]} Tryz.f41 h))
def HV(a0:ByteArray):Tree :=
 .call 34 [VS a0] [] fun r1 o1=>NT r1<|.ak ((r1.comp 0)=.agg (r1.comp 0).cs/\(r1.comp 0).cs.length=2/\bJ [.str,.sl] ((r1.comp 0).cs) 0)<|NB (r1.comp 1)<|.test ((r1.comp 1).toBool) (.call 72 [.agg [VS (((r1.comp 0).cs.getD 0 .any).ai),((r1.comp 0).cs.getD 1 .any)]] [] fun r2 o2=>NB r2<|.test r2.toBool (.call 46 [.agg [VS (((r1.comp 0).cs.getD 0 .any).ai),((r1.comp 0).cs.getD 1 .any)]] [] fun r3 o3=>NI r3<|.done 0 [.cV [.agg [VS (((r1.comp 0).cs.getD 0 .any).ai),((r1.comp 0).cs.getD 1 .any)],VB (decide (r3.toInt<=(400:Int)))]] []) (.done 0 [.cV [.agg [VS (((r1.comp 0).cs.getD 0 .any).ai),((r1.comp 0).cs.getD 1 .any)],VB false]] [])) (.done 0 [.cV [.agg [VS (((r1.comp 0).cs.getD 0 .any).ai),((r1.comp 0).cs.getD 1 .any)],VB false]] [])
theorem Kd(a0:ByteArray)(h:dl 22 (HV a0) R):ap Tryz.prog 42 [VS a0] [] R :=
 uQ (ah (aC _) aD) (oQ [] Tryz.f42 h)
def B8(a0_0:ByteArray)(a0_1:AV)(a1:AV)(e2:List (List AV)):Tree :=
 .test (!(ac a0_0==ac (mk []))) (.test (ac a0_0==ac (mk [48])) (.done 0 [.vec 1] [.dead,.vec 1 e2]) (.test (ac a0_0==ac (mk [49])) (.done 0 [.vec 1] [.dead,.vec 1 e2]) (.call 73 [a1,VS a0_0] [] fun r1 o1=>NB r1<|.test r1.toBool (.done 0 [.vec 1] [.dead,.vec 1 e2]) (.call 73 [.sl e2,VS a0_0] [] fun r2 o2=>NB r2<|.test r2.toBool (.done 0 [.vec 1] [.dead,.vec 1 e2]) (.ak (bU 1 [[VS a0_0]]/\((e2.length)+([[VS a0_0]]:List (List AV)).length)*16<=140737488355328)<|.done 0 [.vec 1] [.dead,.vec 1 (e2++([[VS a0_0]]:List (List AV)))]))))) (.call 33 [.agg [VS a0_0,a0_1]] [] fun r3 o3=>NS r3<|.test (ac r3.ai==ac (mk [114,101,99])) (NG a0_1 2 2<|NE (a0_1.ix (2:Int))<|NG a0_1 1 2<|nq (a0_1.ix (1:Int))<|.call 71 [a1,VS (((a0_1.ix (1:Int)).hA).ai)] [] fun r4 o4=>NL r4<|.call 43 [.agg [VS (((a0_1.ix (2:Int)).getD 0 .any).ai),((a0_1.ix (2:Int)).getD 1 .any)],r4,.vec 0] [.vec 1 e2] fun r5 o5=>.ak (r5=.vec 1/\(o5.tail.hO)=.vec 1 (o5.tail.hO).es)<|.done 0 [.vec 1] [.dead,.vec 1 ((o5.tail.hO).es)]) (NG a0_1 2 2<|NE (a0_1.ix (2:Int))<|NG a0_1 1 2<|NE (a0_1.ix (1:Int))<|.call 43 [.agg [VS (((a0_1.ix (1:Int)).getD 0 .any).ai),((a0_1.ix (1:Int)).getD 1 .any)],a1,.vec 0] [.vec 1 e2] fun r6 o6=>.ak (r6=.vec 1/\(o6.tail.hO)=.vec 1 (o6.tail.hO).es)<|.call 43 [.agg [VS (((a0_1.ix (2:Int)).getD 0 .any).ai),((a0_1.ix (2:Int)).getD 1 .any)],a1,.vec 0] [.vec 1 ((o6.tail.hO).es)] fun r7 o7=>.ak (r7=.vec 1/\(o7.tail.hO)=.vec 1 (o7.tail.hO).es)<|.done 0 [.vec 1] [.dead,.vec 1 ((o7.tail.hO).es)]))
theorem C8(a0_0:ByteArray)(a0_1:AV)(a1:AV)(e2:List (List AV))(ha0_1:LK.has .sl a0_1)(ha1:LK.has .sl a1)(h:dl 65 (B8 a0_0 a0_1 a1 e2) R):ap Tryz.prog 43 [.agg [VS a0_0,a0_1],a1,.vec 0] [.vec 1 e2] R :=
 ap.mO (bh (eg _) cm) (ap.up (ah (cw (ah (aC _) (ah (bR ha0_1) aD))) (ah (bR ha1) (ah (aC _) aD))) (oF [] {mu:=[(2,.one (.vec))],own:=[0]} Tryz.f43 h))
def EX(a0:ByteArray):Tree :=
 .call 74 [VS a0,.v (.int .u8 116),.v (.int .u8 116)] [] fun r1 o1=>NB r1<|.done 0 [VB r1.toBool] []
theorem Kr(a0:ByteArray)(h:dl 5 (EX a0) R):ap Tryz.prog 44 [VS a0] [] R :=
 uQ (ah (aC _) aD) (oQ [] Tryz.f44 h)
def Gi(a0_0:ByteArray)(a0_1:AV)(a1:AV):Tree :=
 .call 33 [.agg [VS a0_0,a0_1]] [] fun r1 o1=>NS r1<|.test (ac r1.ai==ac (mk [43])) (NG a0_1 1 2<|NE (a0_1.ix (1:Int))<|.call 45 [.agg [VS (((a0_1.ix (1:Int)).getD 0 .any).ai),((a0_1.ix (1:Int)).getD 1 .any)],a1] [] fun r2 o2=>NB r2<|.test r2.toBool (NG a0_1 2 2<|NE (a0_1.ix (2:Int))<|.call 45 [.agg [VS (((a0_1.ix (2:Int)).getD 0 .any).ai),((a0_1.ix (2:Int)).getD 1 .any)],a1] [] fun r3 o3=>NB r3<|.done 0 [VB r3.toBool] []) (.done 0 [VB false] [])) (.test (ac r1.ai==ac (mk [42])) (NG a0_1 1 2<|NE (a0_1.ix (1:Int))<|.call 45 [.agg [VS (((a0_1.ix (1:Int)).getD 0 .any).ai),((a0_1.ix (1:Int)).getD 1 .any)],a1] [] fun r4 o4=>NB r4<|.test r4.toBool (.done 0 [VB true] []) (NG a0_1 2 2<|NE (a0_1.ix (2:Int))<|.call 45 [.agg [VS (((a0_1.ix (2:Int)).getD 0 .any).ai),((a0_1.ix (2:Int)).getD 1 .any)],a1] [] fun r5 o5=>NB r5<|.done 0 [VB r5.toBool] [])) (.test (ac r1.ai==ac (mk [114,101,99])) (NG a0_1 2 2<|NE (a0_1.ix (2:Int))<|NG a0_1 1 2<|nq (a0_1.ix (1:Int))<|.call 71 [a1,VS (((a0_1.ix (1:Int)).hA).ai)] [] fun r6 o6=>NL r6<|.call 45 [.agg [VS (((a0_1.ix (2:Int)).getD 0 .any).ai),((a0_1.ix (2:Int)).getD 1 .any)],r6] [] fun r7 o7=>NB r7<|.done 0 [VB r7.toBool] []) (.test (ac a0_0==ac (mk [48])) (.done 0 [VB true] []) (.call 73 [a1,VS a0_0] [] fun r8 o8=>NB r8<|.done 0 [VB r8.toBool] []))))
theorem yg(a0_0:ByteArray)(a0_1:AV)(a1:AV)(ha0_1:LK.has .sl a0_1)(ha1:LK.has .sl a1)(h:dl 62 (Gi a0_0 a0_1 a1) R):ap Tryz.prog 45 [.agg [VS a0_0,a0_1],a1] [] R :=
 uQ (ah (cw (ah (aC _) (ah (bR ha0_1) aD))) (ah (bR ha1) aD)) (oQ [] Tryz.f45 h)
def BX:LI:={hd:={bD:=[(3,.k (.int .i64)),(4,.k (.int .i64))],refs:=[(1,1)],bW:=[(1,[.lk .str,.lk .sl])]},xs:={bD:=[(3,.k (.int .i64))]},rt:={},ex:=0}
def G8:Code:=cz (cr Tryz.f46) 5
def Hx:List (Nat×LI):=[(5,BX)]
def CV(a0_0:ByteArray)(a0_1:AV):Tree :=
 .test (!(ac a0_0==ac (mk []))) (.done 0 [VI 1] []) (.loop G8 BX [VI 0,VI 0] [.cells [VS a0_0,a0_1]] (fun y2 q2=>NI (y2.hA)<|.done 0 [VI ((y2.hA).toInt)] []) (fun y2 q2=>.done 0 [.any] []))
theorem E0(a0_0:ByteArray)(a0_1:AV)(ha0_1:LK.has .sl a0_1)(h:dl 24 (CV a0_0 a0_1) R):ap Tryz.prog 46 [.agg [VS a0_0,a0_1]] [] R :=
 uQ (ah (cw (ah (aC _) (ah (bR ha0_1) aD))) aD) (oQ Hx Tryz.f46 h)
def A1(x3:Int)(x4:Int)(o1_0:ByteArray)(o1_1:AV):Tree :=
 NI (VI x3)<|NI (VI x4)<|.ak (Ob.cells [VS o1_0,o1_1]=.cells [VS o1_0,o1_1])<|.ak (ae [.lk .str,.lk .sl] [VS o1_0,o1_1] 0 [])<|NL o1_1<|.test (decide (x4<(o1_1.aO.length:Int))) (NG o1_1 x4 2<|NE (o1_1.ix x4)<|.call 46 [.agg [VS (((o1_1.ix x4).getD 0 .any).ai),((o1_1.ix x4).getD 1 .any)]] [] fun r1 o1=>NI r1<|.done 0 [VI (IntKind.wrap .i64 (x3+r1.toInt)),VI (IntKind.wrap .i64 (x4+1))] [.cells [VS o1_0,o1_1]]) (.done 1 [VI x3] [])
abbrev Cp:=cg Tryz.prog 24 G8 BX
theorem GJ(x3:Int)(x4:Int)(o1_0:ByteArray)(o1_1:AV)(h:j6 24 (A1 x3 x4 o1_0 o1_1) Cp U):Cp [VI x3,VI x4] [.cells [VS o1_0,o1_1]] U :=
 gQ Hx h
def Fq(a0:ByteArray)(a1:AV):Tree :=
 .ak (LK.has .sl a1/\bU 2 a1.aO/\((([[VS a0,.v (.slice none 0 0)]]:List (List AV)).length)+a1.aO.length)*40<=140737488355328)<|.done 0 [.agg [VS (mk []),.sl (([[VS a0,.v (.slice none 0 0)]]:List (List AV))++a1.aO)]] []
theorem Jc(a0:ByteArray)(a1:AV)(ha1:LK.has .sl a1)(h:dl 11 (Fq a0 a1) R):ap Tryz.prog 47 [VS a0,a1] [] R :=
 uQ (ah (aC _) (ah (bR ha1) aD)) (oQ [] Tryz.f47 h)
def E4(a0_0:ByteArray)(a0_1:AV):Tree :=
 NG a0_1 1 2<|nq (a0_1.ix (1:Int))<|NG a0_1 2 2<|NE (a0_1.ix (2:Int))<|.call 75 [.agg [VS (((a0_1.ix (2:Int)).getD 0 .any).ai),((a0_1.ix (2:Int)).getD 1 .any)],VS (((a0_1.ix (1:Int)).hA).ai),.agg [VS a0_0,a0_1]] [] fun r1 o1=>NB r1<|.test (!r1.toBool) (.done 0 [.cV [.agg [VS a0_0,a0_1],VB false]] []) (NG a0_1 2 2<|NE (a0_1.ix (2:Int))<|.call 76 [.agg [VS (((a0_1.ix (2:Int)).getD 0 .any).ai),((a0_1.ix (2:Int)).getD 1 .any)],VS (((a0_1.ix (1:Int)).hA).ai),.agg [VS a0_0,a0_1]] [] fun r2 o2=>NA r2<|.done 0 [.cV [.agg [VS ((r2.cs.getD 0 .any).ai),(r2.cs.getD 1 .any)],VB true]] [])
theorem KL(a0_0:ByteArray)(a0_1:AV)(ha0_1:LK.has .sl a0_1)(h:dl 26 (E4 a0_0 a0_1) R):ap Tryz.prog 48 [.agg [VS a0_0,a0_1]] [] R :=
 uQ (ah (cw (ah (aC _) (ah (bR ha0_1) aD))) aD) (oQ [] Tryz.f48 h)
def G0(a0:Int):Tree :=
 .test (decide (a0<((-9223372036854775807):Int))) (.done 0 [VS (mk [45,57,50,50,51,51,55,50,48,51,54,56,53,52,55,55,53,56,48,56])] []) (.test (decide (a0<(0:Int))) (.call 49 [VI (IntKind.wrap .i64 (0-a0))] [] fun r1 o1=>NS r1<|.ak (ag (mk [45])+ag r1.ai<=9223372036854775807)<|.done 0 [VS (((mk [45]):ByteArray)++r1.ai)] []) (.test (decide (a0<(10:Int))) (.ak (pa [[.v (.int .u8 (IntKind.wrap .u8 (IntKind.wrap .i64 (48+a0))))]])<|.done 0 [VS (⟨(bytesOf [[.v (.int .u8 (IntKind.wrap .u8 (IntKind.wrap .i64 (48+a0))))]]).toArray⟩)] []) (.ak (¬(10:Int)=0)<|.call 49 [VI (IntKind.wrap .i64 (Int.tdiv a0 10))] [] fun r2 o2=>NS r2<|.ak (¬(10:Int)=0)<|.ak (pa [[.v (.int .u8 (IntKind.wrap .u8 (IntKind.wrap .i64 (48+(cQ a0 10)))))]])<|.ak (ag r2.ai+ag (⟨(bytesOf [[.v (.int .u8 (IntKind.wrap .u8 (IntKind.wrap .i64 (48+(cQ a0 10)))))]]).toArray⟩)<=9223372036854775807)<|.done 0 [VS ((r2.ai:ByteArray)++(⟨(bytesOf [[.v (.int .u8 (IntKind.wrap .u8 (IntKind.wrap .i64 (48+(cQ a0 10)))))]]).toArray⟩))] [])))
theorem KG(a0:Int)(h:dl 28 (G0 a0) R):ap Tryz.prog 49 [VI a0] [] R :=
 uQ (ah (aC _) aD) (oQ [] Tryz.f49 h)
def CG:LI:={hd:={bD:=[(1,.k .sl),(2,.k .sl),(9,.k (.int .i64))],refs:=[(4,4),(8,8)],bW:=[(4,[.lk .str,.lk .sl]),(8,[.lk .str,.lk .sl]),(0,[.vec 1,.lk (.int .i64)])]},xs:={refs:=[(4,4),(8,8)],bW:=[(4,[.lk .str,.lk .sl]),(8,[.lk .str,.lk .sl]),(0,[.vec 1,.lk (.int .i64)])]},rt:={refs:=[(8,8)],bW:=[(8,[.lk .str,.lk .sl]),(0,[.vec 1,.lk (.int .i64)])]},ex:=0,fx:=[0]}
def Hh:Code:=cz (cr Tryz.f50) 3
def Ax:LI:={hd:={bD:=[(1,.k .sl),(2,.k .sl),(10,.k .str)],refs:=[(3,0),(4,4),(8,8)],bW:=[(0,[.vec 1,.lk (.int .i64)]),(4,[.lk .str,.lk .sl]),(8,[.lk .str,.lk .sl])]},xs:={bD:=[(1,.k .sl),(2,.k .sl),(10,.k .str)],refs:=[(3,0),(4,4),(8,8)],bW:=[(0,[.vec 1,.lk (.int .i64)]),(4,[.lk .str,.lk .sl]),(8,[.lk .str,.lk .sl])]},rt:={bW:=[(0,[.vec 1,.lk (.int .i64)])]},ex:=2,fx:=[0]}
def Hz:Code:=cz (cr Tryz.f50) 10
def Ac:List (Nat×LI):=[(3,CG),(10,Ax)]
def xK(a0_0:ByteArray)(a0_1:AV)(a1:AV)(a2:AV)(e3_0:List (List AV))(a3_1:Int):Tree :=
 .test (!(ac a0_0==ac (mk []))) (NL a1<|.loop Hh CG [a1,a2,VI (IntKind.wrap .i64 ((a1.aO.length:Int)-1))] [.cells [VS a0_0,a0_1],.cells [VS (mk []),.v (.slice none 0 0)],.cells [.any,VI a3_1],.vec 1 e3_0] (fun y1 q1=>.ak ((q1.hO)=.cells (q1.hO).cs)<|.ak (ae [.lk .str,.lk .sl] ((q1.hO).cs) 0 q1.tail)<|.ak (((q1.tail.drop 0).hO)=.cells ((q1.tail.drop 0).hO).cs)<|.ak (ae [.lk .str,.lk .sl] (((q1.tail.drop 0).hO).cs) 0 ((q1.tail.drop 0).tail))<|.ak ((((q1.tail.drop 0).tail.drop 0).hO)=.cells (((q1.tail.drop 0).tail.drop 0).hO).cs)<|.ak (ae [.vec 1,.lk (.int .i64)] ((((q1.tail.drop 0).tail.drop 0).hO).cs) 0 (((q1.tail.drop 0).tail.drop 0).tail))<|.done 0 [.agg [VS (((q1.hO).cs.getD 0 .any).ai),((q1.hO).cs.getD 1 .any)]] [.cells [.vec 1,VI (((q1.tail.tail.hO).cs.getD 1 .any).toInt)],.vec 1 ((q1.tail.tail.tail.hO).es)]) (fun y1 q1=>.ak ((q1.hO)=.cells (q1.hO).cs)<|.ak (ae [.lk .str,.lk .sl] ((q1.hO).cs) 0 q1.tail)<|.ak (((q1.tail.drop 0).hO)=.cells ((q1.tail.drop 0).hO).cs)<|.ak (ae [.vec 1,.lk (.int .i64)] (((q1.tail.drop 0).hO).cs) 0 ((q1.tail.drop 0).tail))<|.done 0 [.agg [VS (((q1.hO).cs.getD 0 .any).ai),((q1.hO).cs.getD 1 .any)]] [.cells [.vec 1,VI (((q1.tail.hO).cs.getD 1 .any).toInt)],.vec 1 ((q1.tail.tail.hO).es)])) (.call 33 [.agg [VS a0_0,a0_1]] [] fun r2 o2=>NS r2<|.test (ac r2.ai==ac (mk [114,101,99])) (.call 49 [VI a3_1] [] fun r3 o3=>NS r3<|.ak (ag (mk [116])+ag r3.ai<=9223372036854775807)<|.loop Hz Ax [a1,a2,VS (((mk [116]):ByteArray)++r3.ai)] [.cells [.any,VI a3_1],.vec 1 e3_0,.cells [VS a0_0,a0_1],.cells [VS (mk []),.v (.slice none 0 0)]] (fun y6 q6=>NL (y6.hA)<|NL (y6.tail.hA)<|NS (y6.tail.tail.hA)<|.ak ((q6.hO)=.cells (q6.hO).cs)<|.ak (ae [.vec 1,.lk (.int .i64)] ((q6.hO).cs) 0 q6.tail)<|.ak (((q6.tail.drop 1).hO)=.cells ((q6.tail.drop 1).hO).cs)<|.ak (ae [.lk .str,.lk .sl] (((q6.tail.drop 1).hO).cs) 0 ((q6.tail.drop 1).tail))<|.ak ((((q6.tail.drop 1).tail.drop 0).hO)=.cells (((q6.tail.drop 1).tail.drop 0).hO).cs)<|.ak (ae [.lk .str,.lk .sl] ((((q6.tail.drop 1).tail.drop 0).hO).cs) 0 (((q6.tail.drop 1).tail.drop 0).tail))<|NG ((q6.tail.tail.hO).cs.getD 1 .any) 2 2<|NE (((q6.tail.tail.hO).cs.getD 1 .any).ix (2:Int))<|NG ((q6.tail.tail.hO).cs.getD 1 .any) 1 2<|nq (((q6.tail.tail.hO).cs.getD 1 .any).ix (1:Int))<|.call 71 [(y6.hA),VS (((((q6.tail.tail.hO).cs.getD 1 .any).ix (1:Int)).hA).ai)] [] fun r7 o7=>NL r7<|.call 71 [(y6.tail.hA),VS ((y6.tail.tail.hA).ai)] [] fun r8 o8=>NL r8<|.call 50 [.agg [VS (((((q6.tail.tail.hO).cs.getD 1 .any).ix (2:Int)).getD 0 .any).ai),((((q6.tail.tail.hO).cs.getD 1 .any).ix (2:Int)).getD 1 .any)],r7,r8,.ref 0 0] [.cells [.vec 1,VI (IntKind.wrap .i64 ((((q6.hO).cs.getD 1 .any).toInt)+1))],.vec 1 ((q6.tail.hO).es)] fun r9 o9=>.ak ((o9.hO)=.cells (o9.hO).cs)<|.ak (aN [.vec 1,.lk (.int .i64)] ((o9.hO).cs) 0 1 o9.tail)<|NA r9<|.call 47 [VS (mk [114,101,99]),.sl [[VS ((y6.tail.tail.hA).ai),.v (.slice none 0 0)],[VS ((r9.cs.getD 0 .any).ai),(r9.cs.getD 1 .any)]]] [] fun r10 o10=>NA r10<|.done 0 [.agg [VS ((r10.cs.getD 0 .any).ai),(r10.cs.getD 1 .any)]] [.cells [.vec 1,VI (((o9.hO).cs.getD 1 .any).toInt)],.vec 1 ((o9.tail.hO).es)]) (fun y6 q6=>.ak ((q6.hO)=.cells (q6.hO).cs)<|.ak (ae [.vec 1,.lk (.int .i64)] ((q6.hO).cs) 0 q6.tail)<|.fail)) (NG a0_1 1 2<|NE (a0_1.ix (1:Int))<|.call 50 [.agg [VS (((a0_1.ix (1:Int)).getD 0 .any).ai),((a0_1.ix (1:Int)).getD 1 .any)],a1,a2,.ref 0 0] [.cells [.vec 1,VI a3_1],.vec 1 e3_0] fun r11 o11=>.ak ((o11.hO)=.cells (o11.hO).cs)<|.ak (aN [.vec 1,.lk (.int .i64)] ((o11.hO).cs) 0 1 o11.tail)<|NA r11<|.call 33 [.agg [VS a0_0,a0_1]] [] fun r12 o12=>NS r12<|NG a0_1 2 2<|NE (a0_1.ix (2:Int))<|.call 50 [.agg [VS (((a0_1.ix (2:Int)).getD 0 .any).ai),((a0_1.ix (2:Int)).getD 1 .any)],a1,a2,.ref 0 0] [.cells [.vec 1,VI (((o11.hO).cs.getD 1 .any).toInt)],.vec 1 ((o11.tail.hO).es)] fun r13 o13=>.ak ((o13.hO)=.cells (o13.hO).cs)<|.ak (aN [.vec 1,.lk (.int .i64)] ((o13.hO).cs) 0 1 o13.tail)<|NA r13<|.call 47 [VS r12.ai,.sl [[VS ((r11.cs.getD 0 .any).ai),(r11.cs.getD 1 .any)],[VS ((r13.cs.getD 0 .any).ai),(r13.cs.getD 1 .any)]]] [] fun r14 o14=>NA r14<|.done 0 [.agg [VS ((r14.cs.getD 0 .any).ai),(r14.cs.getD 1 .any)]] [.cells [.vec 1,VI (((o13.hO).cs.getD 1 .any).toInt)],.vec 1 ((o13.tail.hO).es)]))
theorem yj(a0_0:ByteArray)(a0_1:AV)(a1:AV)(a2:AV)(e3_0:List (List AV))(a3_1:Int)(ha0_1:LK.has .sl a0_1)(ha1:LK.has .sl a1)(ha2:LK.has .sl a2)(h:dl 113 (xK a0_0 a0_1 a1 a2 e3_0 a3_1) R):ap Tryz.prog 50 [.agg [VS a0_0,a0_1],a1,a2,.ref 0 0] [.cells [.vec 1,VI a3_1],.vec 1 e3_0] R :=
 ap.mO (bh (bQ (ah (aC _) (ah (aC _) aD))) (bh (eg _) cm)) (ap.up (ah (cw (ah (aC _) (ah (bR ha0_1) aD))) (ah (bR ha1) (ah (bR ha2) (ah (aC _) aD)))) (oF Ac {mu:=[(3,.one (.obj [.vec 1,.lk (.int .i64)]))],own:=[]} Tryz.f50 h))
def Bf(x1:AV)(x2:AV)(x9:Int)(o4_0:ByteArray)(o4_1:AV)(o8_0:ByteArray)(o8_1:AV)(o0_0:List (List AV))(o0_1:Int):Tree :=
 NL x1<|NL x2<|NI (VI x9)<|.ak (Ob.cells [VS o4_0,o4_1]=.cells [VS o4_0,o4_1])<|.ak (ae [.lk .str,.lk .sl] [VS o4_0,o4_1] 0 [.cells [VS o8_0,o8_1],.cells [.any,VI o0_1],.vec 1 o0_0])<|.ak (Ob.cells [VS o8_0,o8_1]=.cells [VS o8_0,o8_1])<|.ak (ae [.lk .str,.lk .sl] [VS o8_0,o8_1] 0 [.cells [.any,VI o0_1],.vec 1 o0_0])<|.ak (Ob.cells [.any,VI o0_1]=.cells [.any,VI o0_1])<|.ak (ae [.vec 1,.lk (.int .i64)] [.any,VI o0_1] 0 [.vec 1 o0_0])<|.test (decide (x9≥(0:Int))) (NG x1 x9 1<|nq (x1.ix x9)<|.test (ac (((x1.ix x9).hA).ai)==ac o4_0) (NG x2 x9 1<|nq (x2.ix x9)<|.done 2 [] [.cells [VS (((x2.ix x9).hA).ai),.v (.slice none 0 0)],.cells [.any,VI o0_1],.vec 1 o0_0]) (.done 0 [x1,x2,VI (IntKind.wrap .i64 (x9-1))] [.cells [VS o4_0,o4_1],.cells [VS o8_0,o8_1],.cells [.any,VI o0_1],.vec 1 o0_0])) (.done 1 [] [.cells [VS o4_0,o4_1],.cells [VS o8_0,o8_1],.cells [.any,VI o0_1],.vec 1 o0_0])
abbrev CL:=cg Tryz.prog 113 Hh CG
theorem Fy(x1:AV)(x2:AV)(x9:Int)(o4_0:ByteArray)(o4_1:AV)(o8_0:ByteArray)(o8_1:AV)(o0_0:List (List AV))(o0_1:Int)(h:j6 113 (Bf x1 x2 x9 o4_0 o4_1 o8_0 o8_1 o0_0 o0_1) CL U):CL [x1,x2,VI x9] [.cells [VS o4_0,o4_1],.cells [VS o8_0,o8_1],.cells [.any,VI o0_1],.vec 1 o0_0] U :=
 gQ Ac h
def Ep(x1:AV)(x2:AV)(x10:ByteArray)(o0_0:List (List AV))(o0_1:Int)(o4_0:ByteArray)(o4_1:AV)(o8_0:ByteArray)(o8_1:AV):Tree :=
 NL x1<|NL x2<|NS (VS x10)<|.ak (Ob.cells [.any,VI o0_1]=.cells [.any,VI o0_1])<|.ak (ae [.vec 1,.lk (.int .i64)] [.any,VI o0_1] 0 [.vec 1 o0_0,.cells [VS o4_0,o4_1],.cells [VS o8_0,o8_1]])<|.ak (Ob.cells [VS o4_0,o4_1]=.cells [VS o4_0,o4_1])<|.ak (ae [.lk .str,.lk .sl] [VS o4_0,o4_1] 0 [.cells [VS o8_0,o8_1]])<|.ak (Ob.cells [VS o8_0,o8_1]=.cells [VS o8_0,o8_1])<|.ak (ae [.lk .str,.lk .sl] [VS o8_0,o8_1] 0 [])<|.call 73 [.sl o0_0,VS x10] [] fun r1 o1=>NB r1<|.test r1.toBool (.call 49 [VI (IntKind.wrap .i64 (o0_1+1))] [] fun r2 o2=>NS r2<|.ak (ag (mk [116])+ag r2.ai<=9223372036854775807)<|.done 0 [x1,x2,VS (((mk [116]):ByteArray)++r2.ai)] [.cells [.any,VI (IntKind.wrap .i64 (o0_1+1))],.vec 1 o0_0,.cells [VS o4_0,o4_1],.cells [VS o8_0,o8_1]]) (.done 1 [x1,x2,VS x10] [.cells [.any,VI o0_1],.vec 1 o0_0,.cells [VS o4_0,o4_1],.cells [VS o8_0,o8_1]])
abbrev Cj:=cg Tryz.prog 113 Hz Ax
theorem JQ(x1:AV)(x2:AV)(x10:ByteArray)(o0_0:List (List AV))(o0_1:Int)(o4_0:ByteArray)(o4_1:AV)(o8_0:ByteArray)(o8_1:AV)(h:j6 113 (Ep x1 x2 x10 o0_0 o0_1 o4_0 o4_1 o8_0 o8_1) Cj U):Cj [x1,x2,VS x10] [.cells [.any,VI o0_1],.vec 1 o0_0,.cells [VS o4_0,o4_1],.cells [VS o8_0,o8_1]] U :=
 gQ Ac h
def H4(a0:ByteArray):Tree :=
 .call 77 [VS a0] [] fun r1 o1=>NP r1<|NP r1<|.test r1.isNil (.done 0 [.v (.pointer none)] []) (.call 78 [r1] [] fun r2 o2=>NB r2<|.test (!r2.toBool) (.done 0 [.v (.pointer none)] []) (.done 0 [r1] []))
theorem Jn(a0:ByteArray)(h:dl 14 (H4 a0) R):ap Tryz.prog 51 [VS a0] [] R :=
 uQ (ah (aC _) aD) (oQ [] Tryz.f51 h)
def Eb(a0:ByteArray):Tree :=
 .call 79 [VS a0] [] fun r1 o1=>NP r1<|NP r1<|.test r1.isNil (.done 0 [.v (.pointer none)] []) (.call 80 [r1] [] fun r2 o2=>NP r2<|NP r2<|.test r2.isNil (.done 0 [.v (.pointer none)] []) (.call 81 [r2] [] fun r3 o3=>NI r3<|.test (decide (r3.toInt>(200:Int))) (.done 0 [.v (.pointer none)] []) (.done 0 [r2] [])))
theorem Je(a0:ByteArray)(h:dl 19 (Eb a0) R):ap Tryz.prog 52 [VS a0] [] R :=
 uQ (ah (aC _) aD) (oQ [] Tryz.f52 h)
def vH(a0_0:AV)(a0_1:AV)(a1:AV)(a2:Int):Tree :=
 NZ a0_0<|NZ a0_0<|.ak (LK.has (.int .u8) (a0_0.deref.hA)/\1<=a0_0.deref.length)<|.test (((a0_0.deref.hA).toInt)==(49:Int)) (NZ a1<|NZ a1<|.ak (LK.has (.int .u8) (a1.deref.hA)/\1<=a1.deref.length)<|.done 0 [VB (((a1.deref.hA).toInt)==(117:Int))] []) (.test (((a0_0.deref.hA).toInt)==(110:Int)) (NZ a1<|NZ a1<|.ak (LK.has (.int .u8) (a1.deref.hA)/\1<=a1.deref.length)<|.test (((a1.deref.hA).toInt) != (101:Int)) (.done 0 [VB false] []) (NZ a1<|NZ a1<|nq (a1.deref.drop 1)<|.ak (0<=(1:Int)/\(1:Int)<=(ag (((a1.deref.drop 1).hA).ai):Int)/\(ag (((a1.deref.drop 1).hA).ai):Int)<=(ag (((a1.deref.drop 1).hA).ai):Int))<|.call 82 [VS (bF (((a1.deref.drop 1).hA).ai) (bB 1) (bB (ag (((a1.deref.drop 1).hA).ai):Int)))] [] fun r1 o1=>NT r1<|NI (r1.comp 0)<|.ak (LK.has .oth (r1.comp 1))<|.done 0 [VB (decide (((r1.comp 0).toInt)<a2))] [])) (.test (((a0_0.deref.hA).toInt)==(98:Int)) (.call 83 [.agg [a0_0,a0_1]] [] fun r2 o2=>NP r2<|NZ r2<|NZ r2<|.ak (bJ [.ptr,.ptr] r2.deref 0/\2<=r2.deref.length)<|.call 53 [.agg [(r2.deref.getD 0 .any),(r2.deref.getD 1 .any)],a1,VI a2] [] fun r3 o3=>NB r3<|.done 0 [VB r3.toBool] []) (.test (((a0_0.deref.hA).toInt)==(43:Int)) (NZ a1<|NZ a1<|.ak (LK.has (.int .u8) (a1.deref.hA)/\1<=a1.deref.length)<|.test (((a1.deref.hA).toInt)==(108:Int)) (.call 56 [.agg [a0_0,a0_1]] [] fun r4 o4=>.ak (r4=.agg r4.cs/\r4.cs.length=2/\bJ [.ptr,.ptr] r4.cs 0)<|NZ a1<|NZ a1<|gx (a1.deref.drop 2)<|.call 53 [.agg [(r4.cs.getD 0 .any),(r4.cs.getD 1 .any)],((a1.deref.drop 2).hA),VI a2] [] fun r5 o5=>NB r5<|.test r5.toBool (.done 0 [VB true] []) (NZ a1<|NZ a1<|.ak (LK.has (.int .u8) (a1.deref.hA)/\1<=a1.deref.length)<|.test (((a1.deref.hA).toInt)==(114:Int)) (.call 57 [.agg [a0_0,a0_1]] [] fun r6 o6=>.ak (r6=.agg r6.cs/\r6.cs.length=2/\bJ [.ptr,.ptr] r6.cs 0)<|NZ a1<|NZ a1<|gx (a1.deref.drop 2)<|.call 53 [.agg [(r6.cs.getD 0 .any),(r6.cs.getD 1 .any)],((a1.deref.drop 2).hA),VI a2] [] fun r7 o7=>NB r7<|.done 0 [VB r7.toBool] []) (.done 0 [VB false] []))) (NZ a1<|NZ a1<|.ak (LK.has (.int .u8) (a1.deref.hA)/\1<=a1.deref.length)<|.test (((a1.deref.hA).toInt)==(114:Int)) (.call 57 [.agg [a0_0,a0_1]] [] fun r8 o8=>.ak (r8=.agg r8.cs/\r8.cs.length=2/\bJ [.ptr,.ptr] r8.cs 0)<|NZ a1<|NZ a1<|gx (a1.deref.drop 2)<|.call 53 [.agg [(r8.cs.getD 0 .any),(r8.cs.getD 1 .any)],((a1.deref.drop 2).hA),VI a2] [] fun r9 o9=>NB r9<|.done 0 [VB r9.toBool] []) (.done 0 [VB false] []))) (.test (((a0_0.deref.hA).toInt)==(42:Int)) (NZ a1<|NZ a1<|.ak (LK.has (.int .u8) (a1.deref.hA)/\1<=a1.deref.length)<|.test (((a1.deref.hA).toInt)==(112:Int)) (.call 56 [.agg [a0_0,a0_1]] [] fun r10 o10=>.ak (r10=.agg r10.cs/\r10.cs.length=2/\bJ [.ptr,.ptr] r10.cs 0)<|NZ a1<|NZ a1<|gx (a1.deref.drop 2)<|.call 53 [.agg [(r10.cs.getD 0 .any),(r10.cs.getD 1 .any)],((a1.deref.drop 2).hA),VI a2] [] fun r11 o11=>NB r11<|.test r11.toBool (.call 57 [.agg [a0_0,a0_1]] [] fun r12 o12=>.ak (r12=.agg r12.cs/\r12.cs.length=2/\bJ [.ptr,.ptr] r12.cs 0)<|NZ a1<|NZ a1<|gx (a1.deref.drop 3)<|.call 53 [.agg [(r12.cs.getD 0 .any),(r12.cs.getD 1 .any)],((a1.deref.drop 3).hA),VI a2] [] fun r13 o13=>NB r13<|.done 0 [VB r13.toBool] []) (.done 0 [VB false] [])) (.done 0 [VB false] [])) (.test (((a0_0.deref.hA).toInt)==(114:Int)) (.call 31 [.agg [a0_0,a0_1]] [] fun r14 o14=>NT r14<|.ak ((r14.comp 0)=.agg (r14.comp 0).cs/\(r14.comp 0).cs.length=2/\bJ [.ptr,.ptr] ((r14.comp 0).cs) 0)<|NP (r14.comp 1)<|NZ a1<|NZ a1<|.ak (LK.has (.int .u8) (a1.deref.hA)/\1<=a1.deref.length)<|.test (((a1.deref.hA).toInt)==(102:Int)) (NZ a1<|NZ a1<|gx (a1.deref.drop 2)<|.call 53 [.agg [((r14.comp 0).cs.getD 0 .any),((r14.comp 0).cs.getD 1 .any)],((a1.deref.drop 2).hA),VI a2] [] fun r15 o15=>NB r15<|.done 0 [VB r15.toBool] []) (.done 0 [VB false] [])) (.done 0 [VB false] []))))))
theorem Gq(a0_0:AV)(a0_1:AV)(a1:AV)(a2:Int)(ha0_0:LK.has .ptr a0_0)(ha0_1:LK.has .ptr a0_1)(ha1:LK.has .ptr a1)(h:dl 134 (vH a0_0 a0_1 a1 a2) R):ap Tryz.prog 53 [.agg [a0_0,a0_1],a1,VI a2] [] R :=
 uQ (ah (cw (ah (bO ha0_0) (ah (bO ha0_1) aD))) (ah (bO ha1) (ah (aC _) aD))) (oQ [] Tryz.f53 h)
def yK(a0_0:ByteArray)(a0_1:AV)(a1_0:AV)(a1_1:AV):Tree :=
 NP a0_1<|.test (!a0_1.isNil) (NZ a1_0<|NZ a1_0<|.ak (LK.has (.int .u8) (a1_0.deref.hA)/\1<=a1_0.deref.length)<|.test (((a1_0.deref.hA).toInt)==(98:Int)) (.call 83 [.agg [a1_0,a1_1]] [] fun r1 o1=>NP r1<|.ak (AV.ou r1/\AV.ou a0_1)<|.done 0 [VB (AV.wc r1 a0_1)] []) (.done 0 [VB false] [])) (NZ a1_0<|NZ a1_0<|.ak (LK.has (.int .u8) (a1_0.deref.hA)/\1<=a1_0.deref.length)<|.test (((a1_0.deref.hA).toInt)==(110:Int)) (NZ a1_0<|NZ a1_0<|nq (a1_0.deref.drop 1)<|.done 0 [VB (ac (((a1_0.deref.drop 1).hA).ai)==ac a0_0)] []) (.done 0 [VB false] []))
theorem Kv(a0_0:ByteArray)(a0_1:AV)(a1_0:AV)(a1_1:AV)(ha0_1:LK.has .ptr a0_1)(ha1_0:LK.has .ptr a1_0)(ha1_1:LK.has .ptr a1_1)(h:dl 37 (yK a0_0 a0_1 a1_0 a1_1) R):ap Tryz.prog 54 [.agg [VS a0_0,a0_1],.agg [a1_0,a1_1]] [] R :=
 uQ (ah (cw (ah (aC _) (ah (bO ha0_1) aD))) (ah (cw (ah (bO ha1_0) (ah (bO ha1_1) aD))) aD)) (oQ [] Tryz.f54 h)
def Ai:LI:={hd:={bD:=[(7,.k .sl),(8,.k (.int .i64)),(9,.k (.int .i64))],refs:=[(2,1)],bW:=[(0,[.lk .ptr]),(1,[.vec 2])],xy:=[(1,58,[0])]},xs:={bW:=[(0,[.lk .ptr]),(1,[.vec 2])]},rt:={bW:=[(0,[.lk .ptr]),(1,[.vec 2])]},ex:=0,fx:=[0,1]}
def Ez:Code:=cz (cr Tryz.f55) 1
def DL:List (Nat×LI):=[(1,Ai)]
def Fm(a0:AV)(a1_0_0:AV)(e2_0:List (List AV)):Tree :=
 NL a0<|.loop Ez Ai [a0,VI (a0.aO.length:Int),VI 0] [.cells [a1_0_0],.cells [.any],.vec 2 e2_0] (fun y2 q2=>.ak ((q2.hO)=.cells (q2.hO).cs)<|.ak (ae [.lk .ptr] ((q2.hO).cs) 0 q2.tail)<|.ak (((q2.tail.drop 0).hO)=.cells ((q2.tail.drop 0).hO).cs)<|.ak (ae [.vec 2] (((q2.tail.drop 0).hO).cs) 0 ((q2.tail.drop 0).tail))<|.done 0 [.any] [.cells [((q2.hO).cs.getD 0 .any)],.cells [.vec 2],.vec 2 ((q2.tail.tail.hO).es)]) (fun y2 q2=>.ak ((q2.hO)=.cells (q2.hO).cs)<|.ak (ae [.lk .ptr] ((q2.hO).cs) 0 q2.tail)<|.ak (((q2.tail.drop 0).hO)=.cells ((q2.tail.drop 0).hO).cs)<|.ak (ae [.vec 2] (((q2.tail.drop 0).hO).cs) 0 ((q2.tail.drop 0).tail))<|.done 0 [.any] [.cells [((q2.hO).cs.getD 0 .any)],.cells [.vec 2],.vec 2 ((q2.tail.tail.hO).es)])
theorem KR(a0:AV)(a1_0_0:AV)(e2_0:List (List AV))(ha0:LK.has .sl a0)(ha1_0_0:LK.has .ptr a1_0_0)(h:dl 24 (Fm a0 a1_0_0 e2_0) R):ap Tryz.prog 55 [a0,.fn 58 [.ref 0 0],.ref 1 0] [.cells [a1_0_0],.cells [.vec 2],.vec 2 e2_0] R :=
 ap.mO (bh (bQ (ah (bO ha1_0_0) aD)) (bh (bQ (ah (aC _) aD)) (bh (eg _) cm))) (ap.up (ah (bR ha0) (ah (aC _) (ah (aC _) aD))) (oF DL {mu:=[(1,.fn [some (.obj [.lk .ptr])]),(2,.one (.obj [.vec 2]))],own:=[]} Tryz.f55 h))
def Bd(x7:AV)(x8:Int)(x9:Int)(o0_0:AV)(o1_0:List (List AV)):Tree :=
 NL x7<|NI (VI x8)<|NI (VI x9)<|.ak (Ob.cells [o0_0]=.cells [o0_0])<|.ak (ae [.lk .ptr] [o0_0] 0 [.cells [.any],.vec 2 o1_0])<|.ak (Ob.cells [.any]=.cells [.any])<|.ak (ae [.vec 2] [.any] 0 [.vec 2 o1_0])<|.test (decide (x9<x8)) (NG x7 x9 2<|.ak (bJ [.ptr,.ptr] (x7.ix x9) 0/\2<=(x7.ix x9).length)<|.call 58 [((x7.ix x9).getD 0 .any),.ref 0 0] [.cells [o0_0]] fun r1 o1=>.ak ((o1.hO)=.cells (o1.hO).cs)<|.ak (aN [.lk .ptr] ((o1.hO).cs) 0 1 o1.tail)<|NP r1<|.ak (bU 2 [[r1,((x7.ix x9).getD 1 .any)]]/\((o1_0.length)+([[r1,((x7.ix x9).getD 1 .any)]]:List (List AV)).length)*16<=140737488355328)<|.done 0 [x7,VI x8,VI (IntKind.wrap .i64 (x9+1))] [.cells [((o1.hO).cs.getD 0 .any)],.cells [.any],.vec 2 (o1_0++([[r1,((x7.ix x9).getD 1 .any)]]:List (List AV)))]) (.done 1 [] [.cells [o0_0],.cells [.any],.vec 2 o1_0])
abbrev Cy:=cg Tryz.prog 24 Ez Ai
theorem H2(x7:AV)(x8:Int)(x9:Int)(o0_0:AV)(o1_0:List (List AV))(h:j6 24 (Bd x7 x8 x9 o0_0 o1_0) Cy U):Cy [x7,VI x8,VI x9] [.cells [o0_0],.cells [.any],.vec 2 o1_0] U :=
 gQ DL h
def BH:LI:={hd:={bD:=[(7,.k .sl),(8,.k (.int .i64)),(9,.k (.int .i64))],refs:=[(2,1)],bW:=[(0,[.lk .ptr]),(1,[.vec 2])],xy:=[(1,60,[0])]},xs:={bW:=[(0,[.lk .ptr]),(1,[.vec 2])]},rt:={bW:=[(0,[.lk .ptr]),(1,[.vec 2])]},ex:=0,fx:=[0,1]}
def HQ:Code:=cz (cr Tryz.f55) 1
def DT:List (Nat×LI):=[(1,BH)]
def Dw(a0:AV)(a1_0_0:AV)(e2_0:List (List AV)):Tree :=
 NL a0<|.loop HQ BH [a0,VI (a0.aO.length:Int),VI 0] [.cells [a1_0_0],.cells [.any],.vec 2 e2_0] (fun y2 q2=>.ak ((q2.hO)=.cells (q2.hO).cs)<|.ak (ae [.lk .ptr] ((q2.hO).cs) 0 q2.tail)<|.ak (((q2.tail.drop 0).hO)=.cells ((q2.tail.drop 0).hO).cs)<|.ak (ae [.vec 2] (((q2.tail.drop 0).hO).cs) 0 ((q2.tail.drop 0).tail))<|.done 0 [.any] [.cells [((q2.hO).cs.getD 0 .any)],.cells [.vec 2],.vec 2 ((q2.tail.tail.hO).es)]) (fun y2 q2=>.ak ((q2.hO)=.cells (q2.hO).cs)<|.ak (ae [.lk .ptr] ((q2.hO).cs) 0 q2.tail)<|.ak (((q2.tail.drop 0).hO)=.cells ((q2.tail.drop 0).hO).cs)<|.ak (ae [.vec 2] (((q2.tail.drop 0).hO).cs) 0 ((q2.tail.drop 0).tail))<|.done 0 [.any] [.cells [((q2.hO).cs.getD 0 .any)],.cells [.vec 2],.vec 2 ((q2.tail.tail.hO).es)])
theorem Jo(a0:AV)(a1_0_0:AV)(e2_0:List (List AV))(ha0:LK.has .sl a0)(ha1_0_0:LK.has .ptr a1_0_0)(h:dl 24 (Dw a0 a1_0_0 e2_0) R):ap Tryz.prog 55 [a0,.fn 60 [.ref 0 0],.ref 1 0] [.cells [a1_0_0],.cells [.vec 2],.vec 2 e2_0] R :=
 ap.mO (bh (bQ (ah (bO ha1_0_0) aD)) (bh (bQ (ah (aC _) aD)) (bh (eg _) cm))) (ap.up (ah (bR ha0) (ah (aC _) (ah (aC _) aD))) (oF DT {mu:=[(1,.fn [some (.obj [.lk .ptr])]),(2,.one (.obj [.vec 2]))],own:=[]} Tryz.f55 h))
def Ba(x7:AV)(x8:Int)(x9:Int)(o0_0:AV)(o1_0:List (List AV)):Tree :=
 NL x7<|NI (VI x8)<|NI (VI x9)<|.ak (Ob.cells [o0_0]=.cells [o0_0])<|.ak (ae [.lk .ptr] [o0_0] 0 [.cells [.any],.vec 2 o1_0])<|.ak (Ob.cells [.any]=.cells [.any])<|.ak (ae [.vec 2] [.any] 0 [.vec 2 o1_0])<|.test (decide (x9<x8)) (NG x7 x9 2<|.ak (bJ [.ptr,.ptr] (x7.ix x9) 0/\2<=(x7.ix x9).length)<|.call 60 [((x7.ix x9).getD 0 .any),.ref 0 0] [.cells [o0_0]] fun r1 o1=>.ak ((o1.hO)=.cells (o1.hO).cs)<|.ak (aN [.lk .ptr] ((o1.hO).cs) 0 1 o1.tail)<|NP r1<|.ak (bU 2 [[r1,((x7.ix x9).getD 1 .any)]]/\((o1_0.length)+([[r1,((x7.ix x9).getD 1 .any)]]:List (List AV)).length)*16<=140737488355328)<|.done 0 [x7,VI x8,VI (IntKind.wrap .i64 (x9+1))] [.cells [((o1.hO).cs.getD 0 .any)],.cells [.any],.vec 2 (o1_0++([[r1,((x7.ix x9).getD 1 .any)]]:List (List AV)))]) (.done 1 [] [.cells [o0_0],.cells [.any],.vec 2 o1_0])
abbrev Cz:=cg Tryz.prog 24 HQ BH
theorem E8(x7:AV)(x8:Int)(x9:Int)(o0_0:AV)(o1_0:List (List AV))(h:j6 24 (Ba x7 x8 x9 o0_0 o1_0) Cz U):Cz [x7,VI x8,VI x9] [.cells [o0_0],.cells [.any],.vec 2 o1_0] U :=
 gQ DT h
def Cm:LI:={hd:={bD:=[(7,.k .sl),(8,.k (.int .i64)),(9,.k (.int .i64))],refs:=[(2,1)],bW:=[(0,[.lk .ptr]),(1,[.vec 2])],xy:=[(1,62,[0])]},xs:={bW:=[(0,[.lk .ptr]),(1,[.vec 2])]},rt:={bW:=[(0,[.lk .ptr]),(1,[.vec 2])]},ex:=0,fx:=[0,1]}
def HD:Code:=cz (cr Tryz.f55) 1
def En:List (Nat×LI):=[(1,Cm)]
def GN(a0:AV)(a1_0_0:AV)(e2_0:List (List AV)):Tree :=
 NL a0<|.loop HD Cm [a0,VI (a0.aO.length:Int),VI 0] [.cells [a1_0_0],.cells [.any],.vec 2 e2_0] (fun y2 q2=>.ak ((q2.hO)=.cells (q2.hO).cs)<|.ak (ae [.lk .ptr] ((q2.hO).cs) 0 q2.tail)<|.ak (((q2.tail.drop 0).hO)=.cells ((q2.tail.drop 0).hO).cs)<|.ak (ae [.vec 2] (((q2.tail.drop 0).hO).cs) 0 ((q2.tail.drop 0).tail))<|.done 0 [.any] [.cells [((q2.hO).cs.getD 0 .any)],.cells [.vec 2],.vec 2 ((q2.tail.tail.hO).es)]) (fun y2 q2=>.ak ((q2.hO)=.cells (q2.hO).cs)<|.ak (ae [.lk .ptr] ((q2.hO).cs) 0 q2.tail)<|.ak (((q2.tail.drop 0).hO)=.cells ((q2.tail.drop 0).hO).cs)<|.ak (ae [.vec 2] (((q2.tail.drop 0).hO).cs) 0 ((q2.tail.drop 0).tail))<|.done 0 [.any] [.cells [((q2.hO).cs.getD 0 .any)],.cells [.vec 2],.vec 2 ((q2.tail.tail.hO).es)])
theorem IA(a0:AV)(a1_0_0:AV)(e2_0:List (List AV))(ha0:LK.has .sl a0)(ha1_0_0:LK.has .ptr a1_0_0)(h:dl 24 (GN a0 a1_0_0 e2_0) R):ap Tryz.prog 55 [a0,.fn 62 [.ref 0 0],.ref 1 0] [.cells [a1_0_0],.cells [.vec 2],.vec 2 e2_0] R :=
 ap.mO (bh (bQ (ah (bO ha1_0_0) aD)) (bh (bQ (ah (aC _) aD)) (bh (eg _) cm))) (ap.up (ah (bR ha0) (ah (aC _) (ah (aC _) aD))) (oF En {mu:=[(1,.fn [some (.obj [.lk .ptr])]),(2,.one (.obj [.vec 2]))],own:=[]} Tryz.f55 h))
def Ag(x7:AV)(x8:Int)(x9:Int)(o0_0:AV)(o1_0:List (List AV)):Tree :=
 NL x7<|NI (VI x8)<|NI (VI x9)<|.ak (Ob.cells [o0_0]=.cells [o0_0])<|.ak (ae [.lk .ptr] [o0_0] 0 [.cells [.any],.vec 2 o1_0])<|.ak (Ob.cells [.any]=.cells [.any])<|.ak (ae [.vec 2] [.any] 0 [.vec 2 o1_0])<|.test (decide (x9<x8)) (NG x7 x9 2<|.ak (bJ [.ptr,.ptr] (x7.ix x9) 0/\2<=(x7.ix x9).length)<|.call 62 [((x7.ix x9).getD 0 .any),.ref 0 0] [.cells [o0_0]] fun r1 o1=>.ak ((o1.hO)=.cells (o1.hO).cs)<|.ak (aN [.lk .ptr] ((o1.hO).cs) 0 1 o1.tail)<|NP r1<|.ak (bU 2 [[r1,((x7.ix x9).getD 1 .any)]]/\((o1_0.length)+([[r1,((x7.ix x9).getD 1 .any)]]:List (List AV)).length)*16<=140737488355328)<|.done 0 [x7,VI x8,VI (IntKind.wrap .i64 (x9+1))] [.cells [((o1.hO).cs.getD 0 .any)],.cells [.any],.vec 2 (o1_0++([[r1,((x7.ix x9).getD 1 .any)]]:List (List AV)))]) (.done 1 [] [.cells [o0_0],.cells [.any],.vec 2 o1_0])
abbrev B3:=cg Tryz.prog 24 HD Cm
theorem HB(x7:AV)(x8:Int)(x9:Int)(o0_0:AV)(o1_0:List (List AV))(h:j6 24 (Ag x7 x8 x9 o0_0 o1_0) B3 U):B3 [x7,VI x8,VI x9] [.cells [o0_0],.cells [.any],.vec 2 o1_0] U :=
 gQ En h
def CE:LI:={hd:={bD:=[(1,.c (.func (.func 63) #[] #[])),(7,.k .sl),(8,.k (.int .i64)),(9,.k (.int .i64))],refs:=[(2,0)],bW:=[(0,[.vec 2])]},xs:={bW:=[(0,[.vec 2])]},rt:={bW:=[(0,[.vec 2])]},ex:=0,fx:=[0]}
def Hs:Code:=cz (cr Tryz.f55) 1
def E3:List (Nat×LI):=[(1,CE)]
def G6(a0:AV)(e2_0:List (List AV)):Tree :=
 NL a0<|.loop Hs CE [.v (.func (.func 63) #[] #[]),a0,VI (a0.aO.length:Int),VI 0] [.cells [.any],.vec 2 e2_0] (fun y2 q2=>.ak ((q2.hO)=.cells (q2.hO).cs)<|.ak (ae [.vec 2] ((q2.hO).cs) 0 q2.tail)<|.done 0 [.any] [.cells [.vec 1],.vec 2 ((q2.tail.hO).es)]) (fun y2 q2=>.ak ((q2.hO)=.cells (q2.hO).cs)<|.ak (ae [.vec 2] ((q2.hO).cs) 0 q2.tail)<|.done 0 [.any] [.cells [.vec 1],.vec 2 ((q2.tail.hO).es)])
theorem JF(a0:AV)(e2_0:List (List AV))(ha0:LK.has .sl a0)(h:dl 24 (G6 a0 e2_0) R):ap Tryz.prog 55 [a0,.v (.func (.func 63) #[] #[]),.ref 0 0] [.cells [.vec 1],.vec 2 e2_0] R :=
 ap.mO (bh (bQ (ah (aC _) aD)) (bh (eg _) cm)) (ap.up (ah (bR ha0) (ah (aC _) (ah (aC _) aD))) (oF E3 {mu:=[(2,.one (.obj [.vec 2]))],own:=[]} Tryz.f55 h))
def Aq(x7:AV)(x8:Int)(x9:Int)(o0_0:List (List AV)):Tree :=
 .ak (AV.v (.func (.func 63) #[] #[])=.v (.func (.func 63) #[] #[]))<|NL x7<|NI (VI x8)<|NI (VI x9)<|.ak (Ob.cells [.any]=.cells [.any])<|.ak (ae [.vec 2] [.any] 0 [.vec 2 o0_0])<|.test (decide (x9<x8)) (NG x7 x9 2<|.ak (bJ [.ptr,.ptr] (x7.ix x9) 0/\2<=(x7.ix x9).length)<|.call 63 [((x7.ix x9).getD 0 .any)] [] fun r1 o1=>NP r1<|.ak (bU 2 [[r1,((x7.ix x9).getD 1 .any)]]/\((o0_0.length)+([[r1,((x7.ix x9).getD 1 .any)]]:List (List AV)).length)*16<=140737488355328)<|.done 0 [.v (.func (.func 63) #[] #[]),x7,VI x8,VI (IntKind.wrap .i64 (x9+1))] [.cells [.any],.vec 2 (o0_0++([[r1,((x7.ix x9).getD 1 .any)]]:List (List AV)))]) (.done 1 [] [.cells [.any],.vec 2 o0_0])
abbrev AU:=cg Tryz.prog 24 Hs CE
theorem FV(x7:AV)(x8:Int)(x9:Int)(o0_0:List (List AV))(h:j6 24 (Aq x7 x8 x9 o0_0) AU U):AU [.v (.func (.func 63) #[] #[]),x7,VI x8,VI x9] [.cells [.any],.vec 2 o0_0] U :=
 gQ E3 h
def A7:LI:={hd:={bD:=[(7,.k .sl),(8,.k (.int .i64)),(9,.k (.int .i64))],refs:=[(2,1)],bW:=[(0,[.lk .ptr,.lk .ptr]),(1,[.vec 2])],xy:=[(1,64,[0])]},xs:={bW:=[(0,[.lk .ptr,.lk .ptr]),(1,[.vec 2])]},rt:={bW:=[(0,[.lk .ptr,.lk .ptr]),(1,[.vec 2])]},ex:=0,fx:=[0,1]}
def FX:Code:=cz (cr Tryz.f55) 1
def HF:List (Nat×LI):=[(1,A7)]
def Em(a0:AV)(a1_0_0:AV)(a1_0_1:AV)(e2_0:List (List AV)):Tree :=
 NL a0<|.loop FX A7 [a0,VI (a0.aO.length:Int),VI 0] [.cells [a1_0_0,a1_0_1],.cells [.any],.vec 2 e2_0] (fun y2 q2=>.ak ((q2.hO)=.cells (q2.hO).cs)<|.ak (ae [.lk .ptr,.lk .ptr] ((q2.hO).cs) 0 q2.tail)<|.ak (((q2.tail.drop 0).hO)=.cells ((q2.tail.drop 0).hO).cs)<|.ak (ae [.vec 2] (((q2.tail.drop 0).hO).cs) 0 ((q2.tail.drop 0).tail))<|.done 0 [.any] [.cells [((q2.hO).cs.getD 0 .any),((q2.hO).cs.getD 1 .any)],.cells [.vec 2],.vec 2 ((q2.tail.tail.hO).es)]) (fun y2 q2=>.ak ((q2.hO)=.cells (q2.hO).cs)<|.ak (ae [.lk .ptr,.lk .ptr] ((q2.hO).cs) 0 q2.tail)<|.ak (((q2.tail.drop 0).hO)=.cells ((q2.tail.drop 0).hO).cs)<|.ak (ae [.vec 2] (((q2.tail.drop 0).hO).cs) 0 ((q2.tail.drop 0).tail))<|.done 0 [.any] [.cells [((q2.hO).cs.getD 0 .any),((q2.hO).cs.getD 1 .any)],.cells [.vec 2],.vec 2 ((q2.tail.tail.hO).es)])
theorem Km(a0:AV)(a1_0_0:AV)(a1_0_1:AV)(e2_0:List (List AV))(ha0:LK.has .sl a0)(ha1_0_0:LK.has .ptr a1_0_0)(ha1_0_1:LK.has .ptr a1_0_1)(h:dl 24 (Em a0 a1_0_0 a1_0_1 e2_0) R):ap Tryz.prog 55 [a0,.fn 64 [.ref 0 0],.ref 1 0] [.cells [a1_0_0,a1_0_1],.cells [.vec 2],.vec 2 e2_0] R :=
 ap.mO (bh (bQ (ah (bO ha1_0_0) (ah (bO ha1_0_1) aD))) (bh (bQ (ah (aC _) aD)) (bh (eg _) cm))) (ap.up (ah (bR ha0) (ah (aC _) (ah (aC _) aD))) (oF HF {mu:=[(1,.fn [some (.obj [.lk .ptr,.lk .ptr])]),(2,.one (.obj [.vec 2]))],own:=[]} Tryz.f55 h))
def BA(x7:AV)(x8:Int)(x9:Int)(o0_0:AV)(o0_1:AV)(o1_0:List (List AV)):Tree :=
 NL x7<|NI (VI x8)<|NI (VI x9)<|.ak (Ob.cells [o0_0,o0_1]=.cells [o0_0,o0_1])<|.ak (ae [.lk .ptr,.lk .ptr] [o0_0,o0_1] 0 [.cells [.any],.vec 2 o1_0])<|.ak (Ob.cells [.any]=.cells [.any])<|.ak (ae [.vec 2] [.any] 0 [.vec 2 o1_0])<|.test (decide (x9<x8)) (NG x7 x9 2<|.ak (bJ [.ptr,.ptr] (x7.ix x9) 0/\2<=(x7.ix x9).length)<|.call 64 [((x7.ix x9).getD 0 .any),.ref 0 0] [.cells [o0_0,o0_1]] fun r1 o1=>.ak ((o1.hO)=.cells (o1.hO).cs)<|.ak (aN [.lk .ptr,.lk .ptr] ((o1.hO).cs) 0 1 o1.tail)<|NP r1<|.ak (bU 2 [[r1,((x7.ix x9).getD 1 .any)]]/\((o1_0.length)+([[r1,((x7.ix x9).getD 1 .any)]]:List (List AV)).length)*16<=140737488355328)<|.done 0 [x7,VI x8,VI (IntKind.wrap .i64 (x9+1))] [.cells [((o1.hO).cs.getD 0 .any),((o1.hO).cs.getD 1 .any)],.cells [.any],.vec 2 (o1_0++([[r1,((x7.ix x9).getD 1 .any)]]:List (List AV)))]) (.done 1 [] [.cells [o0_0,o0_1],.cells [.any],.vec 2 o1_0])
abbrev BK:=cg Tryz.prog 24 FX A7
theorem Dq(x7:AV)(x8:Int)(x9:Int)(o0_0:AV)(o0_1:AV)(o1_0:List (List AV))(h:j6 24 (BA x7 x8 x9 o0_0 o0_1 o1_0) BK U):BK [x7,VI x8,VI x9] [.cells [o0_0,o0_1],.cells [.any],.vec 2 o1_0] U :=
 gQ HF h
def HR(a0_0:AV)(a0_1:AV):Tree :=
 NZ a0_0<|NZ a0_0<|gx (a0_0.deref.drop 3)<|.done 0 [.agg [((a0_0.deref.drop 3).hA),a0_1]] []
theorem Jd(a0_0:AV)(a0_1:AV)(ha0_0:LK.has .ptr a0_0)(ha0_1:LK.has .ptr a0_1)(h:dl 11 (HR a0_0 a0_1) R):ap Tryz.prog 56 [.agg [a0_0,a0_1]] [] R :=
 uQ (ah (cw (ah (bO ha0_0) (ah (bO ha0_1) aD))) aD) (oQ [] Tryz.f56 h)
def Hv(a0_0:AV)(a0_1:AV):Tree :=
 NZ a0_0<|NZ a0_0<|gx (a0_0.deref.drop 4)<|.done 0 [.agg [((a0_0.deref.drop 4).hA),a0_1]] []
theorem Jb(a0_0:AV)(a0_1:AV)(ha0_0:LK.has .ptr a0_0)(ha0_1:LK.has .ptr a0_1)(h:dl 11 (Hv a0_0 a0_1) R):ap Tryz.prog 57 [.agg [a0_0,a0_1]] [] R :=
 uQ (ah (cw (ah (bO ha0_0) (ah (bO ha0_1) aD))) aD) (oQ [] Tryz.f57 h)
def BV(a0:AV)(a1_0:AV):Tree :=
 NZ a1_0<|NZ a1_0<|.ak (LK.has (.int .u8) (a1_0.deref.hA)/\1<=a1_0.deref.length)<|.call 59 [.v (.int .u8 ((a1_0.deref.hA).toInt)),a0] [] fun r1 o1=>NP r1<|.done 0 [r1] [.cells [a1_0]]
theorem Ho(a0:AV)(a1_0:AV)(ha0:LK.has .ptr a0)(ha1_0:LK.has .ptr a1_0)(h:dl 10 (BV a0 a1_0) R):ap Tryz.prog 58 [a0,.ref 0 0] [.cells [a1_0]] R :=
 ap.mO (bh (bQ (ah (bO ha1_0) aD)) cm) (ap.up (ah (bO ha0) (ah (aC _) aD)) (oF [] {mu:=[(1,.one (.obj [.lk .ptr]))],own:=[]} Tryz.f58 h))
def D6(a0:Int)(a1:AV):Tree :=
 .done 0 [.ptr [.v (.int .u8 a0),VS (mk []),a1,.v (.pointer none)]] []
theorem KC(a0:Int)(a1:AV)(ha1:LK.has .ptr a1)(h:dl 9 (D6 a0 a1) R):ap Tryz.prog 59 [.v (.int .u8 a0),a1] [] R :=
 uQ (ah (aC _) (ah (bO ha1) aD)) (oQ [] Tryz.f59 h)
def G7(a0:AV)(a1_0:AV):Tree :=
 NZ a1_0<|NZ a1_0<|gx (a1_0.deref.drop 3)<|.call 61 [a0,((a1_0.deref.drop 3).hA)] [] fun r1 o1=>NP r1<|.call 59 [.v (.int .u8 108),r1] [] fun r2 o2=>NP r2<|.done 0 [r2] [.cells [a1_0]]
theorem IS(a0:AV)(a1_0:AV)(ha0:LK.has .ptr a0)(ha1_0:LK.has .ptr a1_0)(h:dl 11 (G7 a0 a1_0) R):ap Tryz.prog 60 [a0,.ref 0 0] [.cells [a1_0]] R :=
 ap.mO (bh (bQ (ah (bO ha1_0) aD)) cm) (ap.up (ah (bO ha0) (ah (aC _) aD)) (oF [] {mu:=[(1,.one (.obj [.lk .ptr]))],own:=[]} Tryz.f60 h))
def Ev(a0:AV)(a1:AV):Tree :=
 .done 0 [.ptr [.v (.int .u8 112),VS (mk []),a0,a1]] []
theorem KA(a0:AV)(a1:AV)(ha0:LK.has .ptr a0)(ha1:LK.has .ptr a1)(h:dl 9 (Ev a0 a1) R):ap Tryz.prog 61 [a0,a1] [] R :=
 uQ (ah (bO ha0) (ah (bO ha1) aD)) (oQ [] Tryz.f61 h)
def GS(a0:AV)(a1_0:AV):Tree :=
 NZ a1_0<|NZ a1_0<|gx (a1_0.deref.drop 2)<|.call 61 [((a1_0.deref.drop 2).hA),a0] [] fun r1 o1=>NP r1<|.call 59 [.v (.int .u8 114),r1] [] fun r2 o2=>NP r2<|.done 0 [r2] [.cells [a1_0]]
theorem Iz(a0:AV)(a1_0:AV)(ha0:LK.has .ptr a0)(ha1_0:LK.has .ptr a1_0)(h:dl 11 (GS a0 a1_0) R):ap Tryz.prog 62 [a0,.ref 0 0] [.cells [a1_0]] R :=
 ap.mO (bh (bQ (ah (bO ha1_0) aD)) cm) (ap.up (ah (bO ha0) (ah (aC _) aD)) (oF [] {mu:=[(1,.one (.obj [.lk .ptr]))],own:=[]} Tryz.f62 h))
def Gx(a0:AV):Tree :=
 .call 59 [.v (.int .u8 108),a0] [] fun r1 o1=>NP r1<|.call 59 [.v (.int .u8 102),r1] [] fun r2 o2=>NP r2<|.done 0 [r2] []
theorem JP(a0:AV)(ha0:LK.has .ptr a0)(h:dl 6 (Gx a0) R):ap Tryz.prog 63 [a0] [] R :=
 uQ (ah (bO ha0) aD) (oQ [] Tryz.f63 h)
def GM(a0:AV)(a1_0:AV)(a1_1:AV):Tree :=
 .call 61 [a1_0,a0] [] fun r1 o1=>NP r1<|.call 59 [.v (.int .u8 114),r1] [] fun r2 o2=>NP r2<|.call 59 [.v (.int .u8 102),r2] [] fun r3 o3=>NP r3<|.done 0 [r3] [.cells [a1_0,a1_1]]
theorem JW(a0:AV)(a1_0:AV)(a1_1:AV)(ha0:LK.has .ptr a0)(ha1_0:LK.has .ptr a1_0)(ha1_1:LK.has .ptr a1_1)(h:dl 10 (GM a0 a1_0 a1_1) R):ap Tryz.prog 64 [a0,.ref 0 0] [.cells [a1_0,a1_1]] R :=
 ap.mO (bh (bQ (ah (bO ha1_0) (ah (bO ha1_1) aD))) cm) (ap.up (ah (bO ha0) (ah (aC _) aD)) (oF [] {mu:=[(1,.one (.obj [.lk .ptr,.lk .ptr]))],own:=[]} Tryz.f64 h))
def Bx:LI:={hd:={bD:=[(0,.k .str),(1,.k (.int .i64)),(9,.k (.int .i64))],refs:=[(6,6),(8,8)],bW:=[(6,[.lk .str,.lk .sl]),(8,[.lk .str,.lk .sl])]},xs:={bD:=[(0,.k .str),(1,.k (.int .i64)),(9,.k (.int .i64))],refs:=[(6,6),(8,8)],bW:=[(6,[.lk .str,.lk .sl]),(8,[.lk .str,.lk .sl])]},rt:={},ex:=0}
def Dy:Code:=cz (cr Tryz.f65) 6
def Co:LI:={hd:={bD:=[(0,.k .str),(1,.k (.int .i64)),(2,.k (.int .i64))],refs:=[(6,6),(8,8)],bW:=[(6,[.lk .str,.lk .sl]),(8,[.lk .str,.vec 2])]},xs:={},rt:={bD:=[(7,.k (.int .i64))],refs:=[(6,6)],bW:=[(6,[.lk .str,.vec 2])]},ex:=999}
def Ec:Code:=cz (cr Tryz.f65) 12
def Br:List (Nat×LI):=[(6,Bx),(12,Co)]
def A6(a0:ByteArray)(a1:Int)(a2:Int):Tree :=
 .test (decide (a2>(300:Int))) (.done 0 [.cV [.agg [VS (mk []),.v (.slice none 0 0)],VI (-1)]] []) (.test (decide (a1≥(ag a0:Int))) (.done 0 [.cV [.agg [VS (mk []),.v (.slice none 0 0)],VI (-1)]] []) (.ak (0<=a1/\a1<ag a0)<|.test ((bt a0 a1) != (40:Int)) (.loop Dy Bx [VS a0,VI a1,VI a1] [.cells [VS (mk []),.v (.slice none 0 0)],.cells [VS (mk []),.v (.slice none 0 0)]] (fun y2 q2=>NS (y2.hA)<|NI (y2.tail.hA)<|NI (y2.tail.tail.hA)<|.ak ((q2.hO)=.cells (q2.hO).cs)<|.ak (ae [.lk .str,.lk .sl] ((q2.hO).cs) 0 q2.tail)<|.ak (((q2.tail.drop 0).hO)=.cells ((q2.tail.drop 0).hO).cs)<|.ak (ae [.lk .str,.lk .sl] (((q2.tail.drop 0).hO).cs) 0 ((q2.tail.drop 0).tail))<|.ak (0<=((y2.tail.tail.hA).toInt)/\((y2.tail.tail.hA).toInt)<=((y2.tail.hA).toInt)/\((y2.tail.hA).toInt)<=(ag ((y2.hA).ai):Int))<|.test (ac (bF ((y2.hA).ai) (bB ((y2.tail.tail.hA).toInt)) (bB ((y2.tail.hA).toInt)))==ac (mk [])) (.done 0 [.cV [.agg [VS (bF ((y2.hA).ai) (bB ((y2.tail.tail.hA).toInt)) (bB ((y2.tail.hA).toInt))),((q2.tail.hO).cs.getD 1 .any)],VI (-1)]] []) (.done 0 [.cV [.agg [VS (bF ((y2.hA).ai) (bB ((y2.tail.tail.hA).toInt)) (bB ((y2.tail.hA).toInt))),((q2.tail.hO).cs.getD 1 .any)],VI ((y2.tail.hA).toInt)]] [])) (fun y2 q2=>.fail)) (.loop Ec Co [VS a0,VI a1,VI a2] [.cells [VS (mk []),.v (.slice none 0 0)],.cells [VS (mk []),.any],.vec 2 []] (fun y5 q5=>.fail) (fun y5 q5=>NI (y5.hA)<|.ak ((q5.hO)=.cells (q5.hO).cs)<|.ak (ae [.lk .str,.vec 2] ((q5.hO).cs) 0 q5.tail)<|.done 0 [.cV [.agg [VS (((q5.hO).cs.getD 0 .any).ai),.sl ((q5.tail.hO).es)],VI ((y5.hA).toInt)]] []))))
theorem H0(a0:ByteArray)(a1:Int)(a2:Int)(h:dl 87 (A6 a0 a1 a2) R):ap Tryz.prog 65 [VS a0,VI a1,VI a2] [] R :=
 uQ (ah (aC _) (ah (aC _) (ah (aC _) aD))) (oQ Br Tryz.f65 h)
def Bg(x0:ByteArray)(x1:Int)(x9:Int)(o6_0:ByteArray)(o6_1:AV)(o8_0:ByteArray)(o8_1:AV):Tree :=
 NS (VS x0)<|NI (VI x1)<|NI (VI x9)<|.ak (Ob.cells [VS o6_0,o6_1]=.cells [VS o6_0,o6_1])<|.ak (ae [.lk .str,.lk .sl] [VS o6_0,o6_1] 0 [.cells [VS o8_0,o8_1]])<|.ak (Ob.cells [VS o8_0,o8_1]=.cells [VS o8_0,o8_1])<|.ak (ae [.lk .str,.lk .sl] [VS o8_0,o8_1] 0 [])<|.test (decide (x1<(ag x0:Int))) (.ak (0<=x1/\x1<ag x0)<|.call 84 [.v (.int .u8 (bt x0 x1))] [] fun r1 o1=>NB r1<|.test r1.toBool (.done 0 [VS x0,VI (IntKind.wrap .i64 (x1+1)),VI x9] [.cells [VS o6_0,o6_1],.cells [VS o8_0,o8_1]]) (.done 1 [VS x0,VI x1,VI x9] [.cells [VS o6_0,o6_1],.cells [VS o8_0,o8_1]])) (.done 1 [VS x0,VI x1,VI x9] [.cells [VS o6_0,o6_1],.cells [VS o8_0,o8_1]])
abbrev AH:=cg Tryz.prog 87 Dy Bx
theorem Gv(x0:ByteArray)(x1:Int)(x9:Int)(o6_0:ByteArray)(o6_1:AV)(o8_0:ByteArray)(o8_1:AV)(h:j6 87 (Bg x0 x1 x9 o6_0 o6_1 o8_0 o8_1) AH U):AH [VS x0,VI x1,VI x9] [.cells [VS o6_0,o6_1],.cells [VS o8_0,o8_1]] U :=
 gQ Br h
def FK(x0:ByteArray)(x1:Int)(x2:Int)(o6_0:ByteArray)(o6_1:AV)(o8_0:ByteArray)(o8_1:List (List AV)):Tree :=
 NS (VS x0)<|NI (VI x1)<|NI (VI x2)<|.ak (Ob.cells [VS o6_0,o6_1]=.cells [VS o6_0,o6_1])<|.ak (ae [.lk .str,.lk .sl] [VS o6_0,o6_1] 0 [.cells [VS o8_0,.any],.vec 2 o8_1])<|.ak (Ob.cells [VS o8_0,.any]=.cells [VS o8_0,.any])<|.ak (ae [.lk .str,.vec 2] [VS o8_0,.any] 0 [.vec 2 o8_1])<|.call 65 [VS x0,VI (IntKind.wrap .i64 (x1+1)),VI (IntKind.wrap .i64 (x2+1))] [] fun r1 o1=>NT r1<|.ak ((r1.comp 0)=.agg (r1.comp 0).cs/\(r1.comp 0).cs.length=2/\bJ [.str,.sl] ((r1.comp 0).cs) 0)<|NI (r1.comp 1)<|.test (decide (((r1.comp 1).toInt)<(0:Int))) (.done 2 [VI (-1)] [.cells [VS o8_0,.any],.vec 2 o8_1]) (.test (decide (((r1.comp 1).toInt)≥(ag x0:Int))) (.done 2 [VI (-1)] [.cells [VS o8_0,.any],.vec 2 o8_1]) (.ak (bU 2 [[VS (((r1.comp 0).cs.getD 0 .any).ai),((r1.comp 0).cs.getD 1 .any)]]/\((o8_1.length)+([[VS (((r1.comp 0).cs.getD 0 .any).ai),((r1.comp 0).cs.getD 1 .any)]]:List (List AV)).length)*40<=140737488355328)<|.ak (0<=((r1.comp 1).toInt)/\((r1.comp 1).toInt)<ag x0)<|.test ((bt x0 ((r1.comp 1).toInt))==(41:Int)) (.done 2 [VI (IntKind.wrap .i64 (((r1.comp 1).toInt)+1))] [.cells [VS o8_0,.any],.vec 2 (o8_1++([[VS (((r1.comp 0).cs.getD 0 .any).ai),((r1.comp 0).cs.getD 1 .any)]]:List (List AV)))]) (.ak (0<=((r1.comp 1).toInt)/\((r1.comp 1).toInt)<ag x0)<|.test ((bt x0 ((r1.comp 1).toInt)) != (32:Int)) (.done 2 [VI (-1)] [.cells [VS o8_0,.any],.vec 2 (o8_1++([[VS (((r1.comp 0).cs.getD 0 .any).ai),((r1.comp 0).cs.getD 1 .any)]]:List (List AV)))]) (.done 0 [VS x0,VI ((r1.comp 1).toInt),VI x2] [.cells [VS o6_0,o6_1],.cells [VS o8_0,.any],.vec 2 (o8_1++([[VS (((r1.comp 0).cs.getD 0 .any).ai),((r1.comp 0).cs.getD 1 .any)]]:List (List AV)))]))))
abbrev Bw:=cg Tryz.prog 87 Ec Co
theorem KP(x0:ByteArray)(x1:Int)(x2:Int)(o6_0:ByteArray)(o6_1:AV)(o8_0:ByteArray)(o8_1:List (List AV))(h:j6 87 (FK x0 x1 x2 o6_0 o6_1 o8_0 o8_1) Bw U):Bw [VS x0,VI x1,VI x2] [.cells [VS o6_0,o6_1],.cells [VS o8_0,.any],.vec 2 o8_1] U :=
 gQ Br h
def xb:LI:={hd:={bD:=[(0,.k .str),(3,.k (.int .i64)),(4,.k (.int .i64))]},xs:={bD:=[(3,.k (.int .i64))]},rt:={bD:=[(2,.k (.int .i64))]},ex:=0}
def xV:Code:=cz (cr Tryz.f66) 5
def D4:List (Nat×LI):=[(5,xb)]
def EV(a0:ByteArray):Tree :=
 .call 37 [VI (ag a0:Int),VI 2,VI 3] [] fun r1 o1=>NB r1<|.test (!r1.toBool) (.done 0 [VI (-1)] []) (.ak (0<=(0:Int)/\(0:Int)<ag a0)<|.test ((bt a0 0) != (101:Int)) (.done 0 [VI (-1)] []) (.test ((ag a0:Int)==(3:Int)) (.ak (0<=(1:Int)/\(1:Int)<ag a0)<|.test ((bt a0 1)==(48:Int)) (.done 0 [VI (-1)] []) (.loop xV xb [VS a0,VI 0,VI 1] [] (fun y2 q2=>NI (y2.hA)<|.done 0 [VI ((y2.hA).toInt)] []) (fun y2 q2=>NI (y2.hA)<|.done 0 [VI ((y2.hA).toInt)] []))) (.loop xV xb [VS a0,VI 0,VI 1] [] (fun y3 q3=>NI (y3.hA)<|.done 0 [VI ((y3.hA).toInt)] []) (fun y3 q3=>NI (y3.hA)<|.done 0 [VI ((y3.hA).toInt)] []))))
theorem Jq(a0:ByteArray)(h:dl 49 (EV a0) R):ap Tryz.prog 66 [VS a0] [] R :=
 uQ (ah (aC _) aD) (oQ D4 Tryz.f66 h)
def At(x0:ByteArray)(x3:Int)(x4:Int):Tree :=
 NS (VS x0)<|NI (VI x3)<|NI (VI x4)<|.test (decide (x4<(ag x0:Int))) (.ak (0<=x4/\x4<ag x0)<|.test (decide ((bt x0 x4)<(48:Int))) (.done 2 [VI (-1)] []) (.ak (0<=x4/\x4<ag x0)<|.test (decide ((bt x0 x4)>(57:Int))) (.done 2 [VI (-1)] []) (.ak (0<=x4/\x4<ag x0)<|.done 0 [VS x0,VI (IntKind.wrap .i64 ((IntKind.wrap .i64 (10*x3))+(IntKind.wrap .i64 (IntKind.wrap .u8 ((bt x0 x4)-48))))),VI (IntKind.wrap .i64 (x4+1))] []))) (.done 1 [VI x3] [])
abbrev Bn:=cg Tryz.prog 49 xV xb
theorem FW(x0:ByteArray)(x3:Int)(x4:Int)(h:j6 49 (At x0 x3 x4) Bn U):Bn [VS x0,VI x3,VI x4] [] U :=
 gQ D4 h
def Cw:LI:={hd:={bD:=[(1,.k .sl),(6,.k (.int .i64))],refs:=[(2,2),(4,4)],bW:=[(2,[.lk .str,.lk .sl]),(4,[.lk .str,.lk .sl])]},xs:={bD:=[(1,.k .sl)],refs:=[(2,2),(4,4)],bW:=[(2,[.lk .str,.lk .sl]),(4,[.lk .str,.lk .sl])]},rt:={bD:=[(5,.k .sl)],refs:=[(4,4)],bW:=[(4,[.lk .str,.lk .sl])]},ex:=0}
def Er:Code:=cz (cr Tryz.f67) 2
def DC:List (Nat×LI):=[(2,Cw)]
def G3(a0_0:ByteArray)(a0_1:AV)(a1:AV):Tree :=
 NL a1<|.loop Er Cw [a1,VI (IntKind.wrap .i64 ((a1.aO.length:Int)-1))] [.cells [VS a0_0,a0_1],.cells [VS (mk []),.v (.slice none 0 0)]] (fun y1 q1=>NL (y1.hA)<|.ak ((q1.hO)=.cells (q1.hO).cs)<|.ak (ae [.lk .str,.lk .sl] ((q1.hO).cs) 0 q1.tail)<|.ak (((q1.tail.drop 0).hO)=.cells ((q1.tail.drop 0).hO).cs)<|.ak (ae [.lk .str,.lk .sl] (((q1.tail.drop 0).hO).cs) 0 ((q1.tail.drop 0).tail))<|.done 0 [.cV [.agg [VS (((q1.hO).cs.getD 0 .any).ai),((q1.hO).cs.getD 1 .any)],(y1.hA)]] []) (fun y1 q1=>NL (y1.hA)<|.ak ((q1.hO)=.cells (q1.hO).cs)<|.ak (ae [.lk .str,.lk .sl] ((q1.hO).cs) 0 q1.tail)<|.done 0 [.cV [.agg [VS (((q1.hO).cs.getD 0 .any).ai),((q1.hO).cs.getD 1 .any)],(y1.hA)]] [])
theorem JI(a0_0:ByteArray)(a0_1:AV)(a1:AV)(ha0_1:LK.has .sl a0_1)(ha1:LK.has .sl a1)(h:dl 34 (G3 a0_0 a0_1 a1) R):ap Tryz.prog 67 [.agg [VS a0_0,a0_1],a1] [] R :=
 uQ (ah (cw (ah (aC _) (ah (bR ha0_1) aD))) (ah (bR ha1) aD)) (oQ DC Tryz.f67 h)
def Bh(x1:AV)(x6:Int)(o2_0:ByteArray)(o2_1:AV)(o4_0:ByteArray)(o4_1:AV):Tree :=
 NL x1<|NI (VI x6)<|.ak (Ob.cells [VS o2_0,o2_1]=.cells [VS o2_0,o2_1])<|.ak (ae [.lk .str,.lk .sl] [VS o2_0,o2_1] 0 [.cells [VS o4_0,o4_1]])<|.ak (Ob.cells [VS o4_0,o4_1]=.cells [VS o4_0,o4_1])<|.ak (ae [.lk .str,.lk .sl] [VS o4_0,o4_1] 0 [])<|.test (decide (x6≥(0:Int))) (NG x1 x6 4<|nq (x1.ix x6)<|.test (ac (((x1.ix x6).hA).ai)==ac o2_0) (NG x1 x6 4<|NE ((x1.ix x6).drop 1)<|NG x1 x6 4<|nY ((x1.ix x6).drop 3)<|.done 2 [(((x1.ix x6).drop 3).hA)] [.cells [VS ((((x1.ix x6).drop 1).getD 0 .any).ai),(((x1.ix x6).drop 1).getD 1 .any)]]) (.done 0 [x1,VI (IntKind.wrap .i64 (x6-1))] [.cells [VS o2_0,o2_1],.cells [VS o4_0,o4_1]])) (.done 1 [x1] [.cells [VS o2_0,o2_1],.cells [VS o4_0,o4_1]])
abbrev CW:=cg Tryz.prog 34 Er Cw
theorem HI(x1:AV)(x6:Int)(o2_0:ByteArray)(o2_1:AV)(o4_0:ByteArray)(o4_1:AV)(h:j6 34 (Bh x1 x6 o2_0 o2_1 o4_0 o4_1) CW U):CW [x1,VI x6] [.cells [VS o2_0,o2_1],.cells [VS o4_0,o4_1]] U :=
 gQ DC h
def G9(a0:ByteArray):Tree :=
 .call 74 [VS a0,.v (.int .u8 120),.v (.int .u8 122)] [] fun r1 o1=>NB r1<|.done 0 [VB r1.toBool] []
theorem Ja(a0:ByteArray)(h:dl 5 (G9 a0) R):ap Tryz.prog 68 [VS a0] [] R :=
 uQ (ah (aC _) aD) (oQ [] Tryz.f68 h)
def Ei(a0_0:ByteArray)(a0_1:AV)(a1:AV):Tree :=
 NG a0_1 2 2<|NE (a0_1.ix (2:Int))<|.ak (LK.has .sl a1/\bU 4 a1.aO/\((([]:List (List AV)).length)+a1.aO.length)*80<=140737488355328)<|NG a0_1 1 2<|nq (a0_1.ix (1:Int))<|.ak (bU 4 [[VS (((a0_1.ix (1:Int)).hA).ai),VS a0_0,a0_1,a1]]/\(((([]:List (List AV))++a1.aO).length)+([[VS (((a0_1.ix (1:Int)).hA).ai),VS a0_0,a0_1,a1]]:List (List AV)).length)*80<=140737488355328)<|.done 0 [.cV [.agg [VS (((a0_1.ix (2:Int)).getD 0 .any).ai),((a0_1.ix (2:Int)).getD 1 .any)],.sl ((([]:List (List AV))++a1.aO)++([[VS (((a0_1.ix (1:Int)).hA).ai),VS a0_0,a0_1,a1]]:List (List AV)))]] []
theorem KM(a0_0:ByteArray)(a0_1:AV)(a1:AV)(ha0_1:LK.has .sl a0_1)(ha1:LK.has .sl a1)(h:dl 23 (Ei a0_0 a0_1 a1) R):ap Tryz.prog 69 [.agg [VS a0_0,a0_1],a1] [] R :=
 uQ (ah (cw (ah (aC _) (ah (bR ha0_1) aD))) (ah (bR ha1) aD)) (oQ [] Tryz.f69 h)
def A5:LI:={hd:={bD:=[(0,.k .sl),(1,.k .str),(7,.k (.int .i64))],dL:=[(2,4)]},xs:={dL:=[(2,4)]},rt:={},ex:=0}
def DD:Code:=cz (cr Tryz.f70) 2
def Fs:List (Nat×LI):=[(2,A5)]
def GB(a0:AV)(a1:ByteArray)(e2:List (List AV)):Tree :=
 .loop DD A5 [a0,VS a1,VI 0] [.vec 4 e2] (fun y2 q2=>.ak (((q2.drop 0).hO)=.vec 4 ((q2.drop 0).hO).es)<|.done 0 [.vec 1] [.dead,.vec 4 ((q2.hO).es)]) (fun y2 q2=>.fail)
theorem I3(a0:AV)(a1:ByteArray)(e2:List (List AV))(ha0:LK.has .sl a0)(h:dl 32 (GB a0 a1 e2) R):ap Tryz.prog 70 [a0,VS a1,.vec 0] [.vec 4 e2] R :=
 ap.mO (bh (eg _) cm) (ap.up (ah (bR ha0) (ah (aC _) (ah (aC _) aD))) (oF Fs {mu:=[(2,.one (.vec))],own:=[0]} Tryz.f70 h))
def A2(x0:AV)(x1:ByteArray)(x7:Int)(e2:List (List AV)):Tree :=
 NL x0<|NS (VS x1)<|NI (VI x7)<|.ak (Ob.vec 4 e2=.vec 4 e2)<|NL x0<|.test (decide (x7<(x0.aO.length:Int))) (NG x0 x7 4<|NE (x0.ix x7)<|.call 47 [VS x1,.sl [[VS (((x0.ix x7).getD 0 .any).ai),((x0.ix x7).getD 1 .any)]]] [] fun r1 o1=>NA r1<|NG x0 x7 4<|NE ((x0.ix x7).drop 2)<|.ak (bU 4 [[VS ((r1.cs.getD 0 .any).ai),(r1.cs.getD 1 .any),VS ((((x0.ix x7).drop 2).getD 0 .any).ai),(((x0.ix x7).drop 2).getD 1 .any)]]/\((e2.length)+([[VS ((r1.cs.getD 0 .any).ai),(r1.cs.getD 1 .any),VS ((((x0.ix x7).drop 2).getD 0 .any).ai),(((x0.ix x7).drop 2).getD 1 .any)]]:List (List AV)).length)*80<=140737488355328)<|.done 0 [x0,VS x1,VI (IntKind.wrap .i64 (x7+1))] [.vec 4 (e2++([[VS ((r1.cs.getD 0 .any).ai),(r1.cs.getD 1 .any),VS ((((x0.ix x7).drop 2).getD 0 .any).ai),(((x0.ix x7).drop 2).getD 1 .any)]]:List (List AV)))]) (.done 1 [] [.vec 4 e2])
abbrev AN:=cg Tryz.prog 32 DD A5
theorem Gf(x0:AV)(x1:ByteArray)(x7:Int)(e2:List (List AV))(h:j6 32 (A2 x0 x1 x7 e2) AN U):AN [x0,VS x1,VI x7] [.vec 4 e2] U :=
 gQ Fs h
def DN(a0:AV)(a1:ByteArray):Tree :=
 .ak (LK.has .sl a0/\bU 1 a0.aO/\((([]:List (List AV)).length)+a0.aO.length)*16<=140737488355328)<|.ak (bU 1 [[VS a1]]/\(((([]:List (List AV))++a0.aO).length)+([[VS a1]]:List (List AV)).length)*16<=140737488355328)<|.done 0 [.sl ((([]:List (List AV))++a0.aO)++([[VS a1]]:List (List AV)))] []
theorem Ku(a0:AV)(a1:ByteArray)(ha0:LK.has .sl a0)(h:dl 11 (DN a0 a1) R):ap Tryz.prog 71 [a0,VS a1] [] R :=
 uQ (ah (bR ha0) (ah (aC _) aD)) (oQ [] Tryz.f71 h)
def Ad(a0_0:ByteArray)(a0_1:AV):Tree :=
 .test (!(ac a0_0==ac (mk []))) (.test (ac a0_0==ac (mk [48])) (.done 0 [VB true] []) (.test (ac a0_0==ac (mk [49])) (.done 0 [VB true] []) (.call 68 [VS a0_0] [] fun r1 o1=>NB r1<|.test r1.toBool (.done 0 [VB true] []) (.call 44 [VS a0_0] [] fun r2 o2=>NB r2<|.done 0 [VB r2.toBool] [])))) (NL a0_1<|.test ((a0_1.aO.length:Int) != (3:Int)) (.done 0 [VB false] []) (.call 33 [.agg [VS a0_0,a0_1]] [] fun r3 o3=>NS r3<|.test (ac r3.ai==ac (mk [43])) (NG a0_1 1 2<|NE (a0_1.ix (1:Int))<|.call 72 [.agg [VS (((a0_1.ix (1:Int)).getD 0 .any).ai),((a0_1.ix (1:Int)).getD 1 .any)]] [] fun r4 o4=>NB r4<|.test r4.toBool (NG a0_1 2 2<|NE (a0_1.ix (2:Int))<|.call 72 [.agg [VS (((a0_1.ix (2:Int)).getD 0 .any).ai),((a0_1.ix (2:Int)).getD 1 .any)]] [] fun r5 o5=>NB r5<|.done 0 [VB r5.toBool] []) (.done 0 [VB false] [])) (.test (ac r3.ai==ac (mk [42])) (NG a0_1 1 2<|NE (a0_1.ix (1:Int))<|.call 72 [.agg [VS (((a0_1.ix (1:Int)).getD 0 .any).ai),((a0_1.ix (1:Int)).getD 1 .any)]] [] fun r6 o6=>NB r6<|.test r6.toBool (NG a0_1 2 2<|NE (a0_1.ix (2:Int))<|.call 72 [.agg [VS (((a0_1.ix (2:Int)).getD 0 .any).ai),((a0_1.ix (2:Int)).getD 1 .any)]] [] fun r7 o7=>NB r7<|.done 0 [VB r7.toBool] []) (.done 0 [VB false] [])) (.test (ac r3.ai==ac (mk [114,101,99])) (NG a0_1 1 2<|nq (a0_1.ix (1:Int))<|.call 44 [VS (((a0_1.ix (1:Int)).hA).ai)] [] fun r8 o8=>NB r8<|.test r8.toBool (NG a0_1 2 2<|NE (a0_1.ix (2:Int))<|.call 72 [.agg [VS (((a0_1.ix (2:Int)).getD 0 .any).ai),((a0_1.ix (2:Int)).getD 1 .any)]] [] fun r9 o9=>NB r9<|.done 0 [VB r9.toBool] []) (.done 0 [VB false] [])) (.done 0 [VB false] [])))))
theorem EH(a0_0:ByteArray)(a0_1:AV)(ha0_1:LK.has .sl a0_1)(h:dl 60 (Ad a0_0 a0_1) R):ap Tryz.prog 72 [.agg [VS a0_0,a0_1]] [] R :=
 uQ (ah (cw (ah (aC _) (ah (bR ha0_1) aD))) aD) (oQ [] Tryz.f72 h)
def BI:LI:={hd:={bD:=[(0,.k .sl),(1,.k .str),(5,.k (.int .i64))]},xs:={},rt:={bD:=[(4,.k .bool)]},ex:=0}
def EA:Code:=cz (cr Tryz.f73) 2
def Gh:List (Nat×LI):=[(2,BI)]
def DM(a0:AV)(a1:ByteArray):Tree :=
 .loop EA BI [a0,VS a1,VI 0] [] (fun y1 q1=>.done 0 [VB false] []) (fun y1 q1=>NB (y1.hA)<|.done 0 [VB ((y1.hA).toBool)] [])
theorem Ir(a0:AV)(a1:ByteArray)(ha0:LK.has .sl a0)(h:dl 18 (DM a0 a1) R):ap Tryz.prog 73 [a0,VS a1] [] R :=
 uQ (ah (bR ha0) (ah (aC _) aD)) (oQ Gh Tryz.f73 h)
def AG(x0:AV)(x1:ByteArray)(x5:Int):Tree :=
 NL x0<|NS (VS x1)<|NI (VI x5)<|NL x0<|.test (decide (x5<(x0.aO.length:Int))) (NG x0 x5 1<|nq (x0.ix x5)<|.test (ac (((x0.ix x5).hA).ai)==ac x1) (.done 2 [VB true] []) (.done 0 [x0,VS x1,VI (IntKind.wrap .i64 (x5+1))] [])) (.done 1 [] [])
abbrev CN:=cg Tryz.prog 18 EA BI
theorem Hi(x0:AV)(x1:ByteArray)(x5:Int)(h:j6 18 (AG x0 x1 x5) CN U):CN [x0,VS x1,VI x5] [] U :=
 gQ Gh h
def By:LI:={hd:={bD:=[(0,.k .str),(7,.k (.int .i64))]},xs:={},rt:={bD:=[(6,.k .bool)]},ex:=0}
def El:Code:=cz (cr Tryz.f74) 4
def GY:List (Nat×LI):=[(4,By)]
def F4(a0:ByteArray)(a1:Int)(a2:Int):Tree :=
 .call 37 [VI (ag a0:Int),VI 1,VI 3] [] fun r1 o1=>NB r1<|.test (!r1.toBool) (.done 0 [VB false] []) (.ak (0<=(0:Int)/\(0:Int)<ag a0)<|.test (decide ((bt a0 0)<a1)) (.done 0 [VB false] []) (.ak (0<=(0:Int)/\(0:Int)<ag a0)<|.test (decide ((bt a0 0)>a2)) (.done 0 [VB false] []) (.loop El By [VS a0,VI 1] [] (fun y2 q2=>.done 0 [VB true] []) (fun y2 q2=>NB (y2.hA)<|.done 0 [VB ((y2.hA).toBool)] []))))
theorem KF(a0:ByteArray)(a1:Int)(a2:Int)(h:dl 40 (F4 a0 a1 a2) R):ap Tryz.prog 74 [VS a0,.v (.int .u8 a1),.v (.int .u8 a2)] [] R :=
 uQ (ah (aC _) (ah (aC _) (ah (aC _) aD))) (oQ GY Tryz.f74 h)
def BP(x0:ByteArray)(x7:Int):Tree :=
 NS (VS x0)<|NI (VI x7)<|.test (decide (x7<(ag x0:Int))) (.ak (0<=x7/\x7<ag x0)<|.test (decide ((bt x0 x7)<(48:Int))) (.done 2 [VB false] []) (.ak (0<=x7/\x7<ag x0)<|.test (decide ((bt x0 x7)>(57:Int))) (.done 2 [VB false] []) (.done 0 [VS x0,VI (IntKind.wrap .i64 (x7+1))] []))) (.done 1 [] [])
abbrev CC:=cg Tryz.prog 40 El By
theorem Dx(x0:ByteArray)(x7:Int)(h:j6 40 (BP x0 x7) CC U):CC [VS x0,VI x7] [] U :=
 gQ GY h
def Eu(a0_0:ByteArray)(a0_1:AV)(a1:ByteArray)(a2_0:ByteArray)(a2_1:AV):Tree :=
 .call 46 [.agg [VS a0_0,a0_1]] [] fun r1 o1=>NI r1<|.call 85 [.agg [VS a0_0,a0_1],VS a1] [] fun r2 o2=>NI r2<|.call 46 [.agg [VS a2_0,a2_1]] [] fun r3 o3=>NI r3<|.done 0 [VB (decide ((IntKind.wrap .i64 (r1.toInt+(IntKind.wrap .i64 (r2.toInt*(IntKind.wrap .i64 (r3.toInt-1))))))<=(400:Int)))] []
theorem Kg(a0_0:ByteArray)(a0_1:AV)(a1:ByteArray)(a2_0:ByteArray)(a2_1:AV)(ha0_1:LK.has .sl a0_1)(ha2_1:LK.has .sl a2_1)(h:dl 18 (Eu a0_0 a0_1 a1 a2_0 a2_1) R):ap Tryz.prog 75 [.agg [VS a0_0,a0_1],VS a1,.agg [VS a2_0,a2_1]] [] R :=
 uQ (ah (cw (ah (aC _) (ah (bR ha0_1) aD))) (ah (aC _) (ah (cw (ah (aC _) (ah (bR ha2_1) aD))) aD))) (oQ [] Tryz.f75 h)
def Fe(a0_0:ByteArray)(a0_1:AV)(a1:ByteArray)(a2_0:ByteArray)(a2_1:AV):Tree :=
 .call 28 [.agg [VS a0_0,a0_1],.sl [[VS a2_0,a2_1],[VS a1,.v (.slice none 0 0)]]] [] fun r1 o1=>NA r1<|.call 86 [.agg [VS ((r1.cs.getD 0 .any).ai),(r1.cs.getD 1 .any)],VS a1,.agg [VS a2_0,a2_1]] [] fun r2 o2=>NA r2<|.done 0 [.agg [VS ((r2.cs.getD 0 .any).ai),(r2.cs.getD 1 .any)]] []
theorem Kp(a0_0:ByteArray)(a0_1:AV)(a1:ByteArray)(a2_0:ByteArray)(a2_1:AV)(ha0_1:LK.has .sl a0_1)(ha2_1:LK.has .sl a2_1)(h:dl 16 (Fe a0_0 a0_1 a1 a2_0 a2_1) R):ap Tryz.prog 76 [.agg [VS a0_0,a0_1],VS a1,.agg [VS a2_0,a2_1]] [] R :=
 uQ (ah (cw (ah (aC _) (ah (bR ha0_1) aD))) (ah (aC _) (ah (cw (ah (aC _) (ah (bR ha2_1) aD))) aD))) (oQ [] Tryz.f76 h)
def ES(a0:ByteArray):Tree :=
 .call 79 [VS a0] [] fun r1 o1=>NP r1<|NP r1<|.test r1.isNil (.done 0 [.v (.pointer none)] []) (.call 87 [r1,.v (.slice none 0 0)] [] fun r2 o2=>NP r2<|NP r2<|.test r2.isNil (.done 0 [.v (.pointer none)] []) (.call 88 [r2] [] fun r3 o3=>NI r3<|.test (decide (r3.toInt>(400:Int))) (.done 0 [.v (.pointer none)] []) (.done 0 [r2] [])))
theorem KQ(a0:ByteArray)(h:dl 19 (ES a0) R):ap Tryz.prog 77 [VS a0] [] R :=
 uQ (ah (aC _) aD) (oQ [] Tryz.f77 h)
def GA(a0:AV):Tree :=
 .call 90 [a0] [] fun r1 o1=>NL r1<|.call 89 [r1,.v (.func (.func 91) #[] #[])] [] fun r2 o2=>NB r2<|.done 0 [VB (!r2.toBool)] []
theorem IX(a0:AV)(ha0:LK.has .ptr a0)(h:dl 7 (GA a0) R):ap Tryz.prog 78 [a0] [] R :=
 uQ (ah (bO ha0) aD) (oQ [] Tryz.f78 h)
def D0(a0:ByteArray):Tree :=
 .test (decide ((ag a0:Int)>(8000:Int))) (.done 0 [.v (.pointer none)] []) (.call 92 [VS a0,VI 0] [] fun r1 o1=>NT r1<|NP (r1.comp 0)<|NS (r1.comp 1)<|.test (!(ac ((r1.comp 1).ai)==ac (mk []))) (.done 0 [.v (.pointer none)] []) (.done 0 [(r1.comp 0)] []))
theorem IV(a0:ByteArray)(h:dl 16 (D0 a0) R):ap Tryz.prog 79 [VS a0] [] R :=
 uQ (ah (aC _) aD) (oQ [] Tryz.f79 h)
def AJ(a0:AV):Tree :=
 NZ a0<|NZ a0<|.ak (LK.has .str (a0.deref.hA)/\1<=a0.deref.length)<|.test (ac ((a0.deref.hA).ai)==ac (mk [117])) (.done 0 [.ptr [.v (.int .u8 117),VS (mk []),.v (.pointer none),.v (.pointer none)]] []) (NZ a0<|NZ a0<|.ak (LK.has .str (a0.deref.hA)/\1<=a0.deref.length)<|.call 93 [VS ((a0.deref.hA).ai)] [] fun r1 o1=>NB r1<|.test r1.toBool (NZ a0<|NZ a0<|.ak (LK.has .str (a0.deref.hA)/\1<=a0.deref.length)<|.done 0 [.ptr [.v (.int .u8 101),VS ((a0.deref.hA).ai),.v (.pointer none),.v (.pointer none)]] []) (.call 94 [a0,VS (mk [108]),VI 2] [] fun r2 o2=>NB r2<|.test r2.toBool (NZ a0<|NZ a0<|nY (a0.deref.drop 1)<|NG ((a0.deref.drop 1).hA) 1 1<|gx (((a0.deref.drop 1).hA).ix (1:Int))<|.call 80 [((((a0.deref.drop 1).hA).ix (1:Int)).hA)] [] fun r3 o3=>NP r3<|NP r3<|.test r3.isNil (.done 0 [.v (.pointer none)] []) (NZ a0<|NZ a0<|nY (a0.deref.drop 1)<|NG ((a0.deref.drop 1).hA) 0 1<|gx (((a0.deref.drop 1).hA).ix (0:Int))<|NZ ((((a0.deref.drop 1).hA).ix (0:Int)).hA)<|NZ ((((a0.deref.drop 1).hA).ix (0:Int)).hA)<|.ak (LK.has .str (((((a0.deref.drop 1).hA).ix (0:Int)).hA).deref.hA)/\1<=(((((a0.deref.drop 1).hA).ix (0:Int)).hA).deref).length)<|.ak (0<=(0:Int)/\(0:Int)<ag ((((((a0.deref.drop 1).hA).ix (0:Int)).hA).deref.hA).ai))<|.done 0 [.ptr [.v (.int .u8 (bt ((((((a0.deref.drop 1).hA).ix (0:Int)).hA).deref.hA).ai) 0)),VS (mk []),r3,.v (.pointer none)]] [])) (.call 94 [a0,VS (mk [114]),VI 2] [] fun r4 o4=>NB r4<|.test r4.toBool (NZ a0<|NZ a0<|nY (a0.deref.drop 1)<|NG ((a0.deref.drop 1).hA) 1 1<|gx (((a0.deref.drop 1).hA).ix (1:Int))<|.call 80 [((((a0.deref.drop 1).hA).ix (1:Int)).hA)] [] fun r5 o5=>NP r5<|NP r5<|.test r5.isNil (.done 0 [.v (.pointer none)] []) (NZ a0<|NZ a0<|nY (a0.deref.drop 1)<|NG ((a0.deref.drop 1).hA) 0 1<|gx (((a0.deref.drop 1).hA).ix (0:Int))<|NZ ((((a0.deref.drop 1).hA).ix (0:Int)).hA)<|NZ ((((a0.deref.drop 1).hA).ix (0:Int)).hA)<|.ak (LK.has .str (((((a0.deref.drop 1).hA).ix (0:Int)).hA).deref.hA)/\1<=(((((a0.deref.drop 1).hA).ix (0:Int)).hA).deref).length)<|.ak (0<=(0:Int)/\(0:Int)<ag ((((((a0.deref.drop 1).hA).ix (0:Int)).hA).deref.hA).ai))<|.done 0 [.ptr [.v (.int .u8 (bt ((((((a0.deref.drop 1).hA).ix (0:Int)).hA).deref.hA).ai) 0)),VS (mk []),r5,.v (.pointer none)]] [])) (.call 94 [a0,VS (mk [102]),VI 2] [] fun r6 o6=>NB r6<|.test r6.toBool (NZ a0<|NZ a0<|nY (a0.deref.drop 1)<|NG ((a0.deref.drop 1).hA) 1 1<|gx (((a0.deref.drop 1).hA).ix (1:Int))<|.call 80 [((((a0.deref.drop 1).hA).ix (1:Int)).hA)] [] fun r7 o7=>NP r7<|NP r7<|.test r7.isNil (.done 0 [.v (.pointer none)] []) (NZ a0<|NZ a0<|nY (a0.deref.drop 1)<|NG ((a0.deref.drop 1).hA) 0 1<|gx (((a0.deref.drop 1).hA).ix (0:Int))<|NZ ((((a0.deref.drop 1).hA).ix (0:Int)).hA)<|NZ ((((a0.deref.drop 1).hA).ix (0:Int)).hA)<|.ak (LK.has .str (((((a0.deref.drop 1).hA).ix (0:Int)).hA).deref.hA)/\1<=(((((a0.deref.drop 1).hA).ix (0:Int)).hA).deref).length)<|.ak (0<=(0:Int)/\(0:Int)<ag ((((((a0.deref.drop 1).hA).ix (0:Int)).hA).deref.hA).ai))<|.done 0 [.ptr [.v (.int .u8 (bt ((((((a0.deref.drop 1).hA).ix (0:Int)).hA).deref.hA).ai) 0)),VS (mk []),r7,.v (.pointer none)]] [])) (.call 94 [a0,VS (mk [112]),VI 3] [] fun r8 o8=>NB r8<|.test r8.toBool (NZ a0<|NZ a0<|nY (a0.deref.drop 1)<|NG ((a0.deref.drop 1).hA) 1 1<|gx (((a0.deref.drop 1).hA).ix (1:Int))<|.call 80 [((((a0.deref.drop 1).hA).ix (1:Int)).hA)] [] fun r9 o9=>NP r9<|NZ a0<|NZ a0<|nY (a0.deref.drop 1)<|NG ((a0.deref.drop 1).hA) 2 1<|gx (((a0.deref.drop 1).hA).ix (2:Int))<|.call 80 [((((a0.deref.drop 1).hA).ix (2:Int)).hA)] [] fun r10 o10=>NP r10<|NP r9<|.test r9.isNil (.done 0 [.v (.pointer none)] []) (NP r10<|.test r10.isNil (.done 0 [.v (.pointer none)] []) (.call 61 [r9,r10] [] fun r11 o11=>NP r11<|.done 0 [r11] []))) (.done 0 [.v (.pointer none)] []))))))
theorem Ek(a0:AV)(ha0:LK.has .ptr a0)(h:dl 85 (AJ a0) R):ap Tryz.prog 80 [a0] [] R :=
 uQ (ah (bO ha0) aD) (oQ [] Tryz.f80 h)
def AL(a0:AV):Tree :=
 NZ a0<|NZ a0<|gx (a0.deref.drop 2)<|NP ((a0.deref.drop 2).hA)<|.test (!((a0.deref.drop 2).hA).isNil) (NZ a0<|NZ a0<|gx (a0.deref.drop 2)<|.call 81 [((a0.deref.drop 2).hA)] [] fun r1 o1=>NI r1<|NZ a0<|NZ a0<|gx (a0.deref.drop 3)<|NP ((a0.deref.drop 3).hA)<|.test (!((a0.deref.drop 3).hA).isNil) (NZ a0<|NZ a0<|gx (a0.deref.drop 3)<|.call 81 [((a0.deref.drop 3).hA)] [] fun r2 o2=>NI r2<|.done 0 [VI (IntKind.wrap .i64 ((IntKind.wrap .i64 (1+r1.toInt))+r2.toInt))] []) (.done 0 [VI (IntKind.wrap .i64 (1+r1.toInt))] [])) (NZ a0<|NZ a0<|gx (a0.deref.drop 3)<|NP ((a0.deref.drop 3).hA)<|.test (!((a0.deref.drop 3).hA).isNil) (NZ a0<|NZ a0<|gx (a0.deref.drop 3)<|.call 81 [((a0.deref.drop 3).hA)] [] fun r3 o3=>NI r3<|.done 0 [VI (IntKind.wrap .i64 (1+r3.toInt))] []) (.done 0 [VI 1] []))
theorem Dl(a0:AV)(ha0:LK.has .ptr a0)(h:dl 29 (AL a0) R):ap Tryz.prog 81 [a0] [] R :=
 uQ (ah (bO ha0) aD) (oQ [] Tryz.f81 h)
def A4:LI:={hd:={bD:=[(3,.k .ptr),(10,.k (.int .i64)),(11,.k (.int .i64))]},xs:={bD:=[(3,.k .ptr)]},rt:={},ex:=0}
def Fw:Code:=cz (cr Tryz.f83) 3
def E2:List (Nat×LI):=[(3,A4)]
def Am(a0_0:AV)(a0_1:AV):Tree :=
 NZ a0_0<|NZ a0_0<|.ak (LK.has (.int .i64) ((a0_0.deref.drop 2).hA)/\1<=(a0_0.deref.drop 2).length)<|.loop Fw A4 [a0_1,VI (((a0_0.deref.drop 2).hA).toInt),VI 0] [] (fun y1 q1=>NP (y1.hA)<|NZ (y1.hA)<|NZ (y1.hA)<|.ak (LK.has .ptr ((y1.hA).deref.hA)/\1<=((y1.hA).deref).length)<|.done 0 [((y1.hA).deref.hA)] []) (fun y1 q1=>.done 0 [.any] [])
theorem HY(a0_0:AV)(a0_1:AV)(ha0_0:LK.has .ptr a0_0)(ha0_1:LK.has .ptr a0_1)(h:dl 22 (Am a0_0 a0_1) R):ap Tryz.prog 83 [.agg [a0_0,a0_1]] [] R :=
 uQ (ah (cw (ah (bO ha0_0) (ah (bO ha0_1) aD))) aD) (oQ E2 Tryz.f83 h)
def xj(x3:AV)(x10:Int)(x11:Int):Tree :=
 NP x3<|NI (VI x10)<|NI (VI x11)<|.test (decide (x11<x10)) (NZ x3<|NZ x3<|gx (x3.deref.drop 1)<|.done 0 [((x3.deref.drop 1).hA),VI x10,VI (IntKind.wrap .i64 (x11+1))] []) (.done 1 [x3] [])
abbrev yz:=cg Tryz.prog 22 Fw A4
theorem y0(x3:AV)(x10:Int)(x11:Int)(h:j6 22 (xj x3 x10 x11) yz U):yz [x3,VI x10,VI x11] [] U :=
 gQ E2 h
def E5(a0:Int):Tree :=
 .test (decide (a0≥(97:Int))) (.test (decide (a0<=(122:Int))) (.done 0 [VB true] []) (.test (decide (a0≥(48:Int))) (.test (decide (a0<=(57:Int))) (.done 0 [VB true] []) (.test (a0==(42:Int)) (.done 0 [VB true] []) (.done 0 [VB (a0==(43:Int))] []))) (.test (a0==(42:Int)) (.done 0 [VB true] []) (.done 0 [VB (a0==(43:Int))] [])))) (.test (decide (a0≥(48:Int))) (.test (decide (a0<=(57:Int))) (.done 0 [VB true] []) (.test (a0==(42:Int)) (.done 0 [VB true] []) (.done 0 [VB (a0==(43:Int))] []))) (.test (a0==(42:Int)) (.done 0 [VB true] []) (.done 0 [VB (a0==(43:Int))] [])))
theorem Kc(a0:Int)(h:dl 25 (E5 a0) R):ap Tryz.prog 84 [.v (.int .u8 a0)] [] R :=
 uQ (ah (aC _) aD) (oQ [] Tryz.f84 h)
def wL(a0_0:ByteArray)(a0_1:AV)(a1:ByteArray):Tree :=
 .test (!(ac a0_0==ac (mk []))) (.test (ac a0_0==ac a1) (.done 0 [VI 1] []) (.done 0 [VI 0] [])) (.call 33 [.agg [VS a0_0,a0_1]] [] fun r1 o1=>NS r1<|.test (ac r1.ai==ac (mk [114,101,99])) (NG a0_1 1 2<|nq (a0_1.ix (1:Int))<|.test (ac (((a0_1.ix (1:Int)).hA).ai)==ac a1) (.done 0 [VI 0] []) (NG a0_1 2 2<|NE (a0_1.ix (2:Int))<|.call 85 [.agg [VS (((a0_1.ix (2:Int)).getD 0 .any).ai),((a0_1.ix (2:Int)).getD 1 .any)],VS a1] [] fun r2 o2=>NI r2<|.done 0 [VI r2.toInt] [])) (NG a0_1 1 2<|NE (a0_1.ix (1:Int))<|.call 85 [.agg [VS (((a0_1.ix (1:Int)).getD 0 .any).ai),((a0_1.ix (1:Int)).getD 1 .any)],VS a1] [] fun r3 o3=>NI r3<|NG a0_1 2 2<|NE (a0_1.ix (2:Int))<|.call 85 [.agg [VS (((a0_1.ix (2:Int)).getD 0 .any).ai),((a0_1.ix (2:Int)).getD 1 .any)],VS a1] [] fun r4 o4=>NI r4<|.done 0 [VI (IntKind.wrap .i64 (r3.toInt+r4.toInt))] []))
theorem yf(a0_0:ByteArray)(a0_1:AV)(a1:ByteArray)(ha0_1:LK.has .sl a0_1)(h:dl 41 (wL a0_0 a0_1 a1) R):ap Tryz.prog 85 [.agg [VS a0_0,a0_1],VS a1] [] R :=
 uQ (ah (cw (ah (aC _) (ah (bR ha0_1) aD))) (ah (aC _) aD)) (oQ [] Tryz.f85 h)
def xe(a0_0:ByteArray)(a0_1:AV)(a1:ByteArray)(a2_0:ByteArray)(a2_1:AV):Tree :=
 .test (!(ac a0_0==ac (mk []))) (.test (ac a0_0==ac a1) (.done 0 [.agg [VS a2_0,a2_1]] []) (.done 0 [.agg [VS a0_0,a0_1]] [])) (.call 33 [.agg [VS a0_0,a0_1]] [] fun r1 o1=>NS r1<|.test (ac r1.ai==ac (mk [114,101,99])) (NG a0_1 1 2<|nq (a0_1.ix (1:Int))<|.test (ac (((a0_1.ix (1:Int)).hA).ai)==ac a1) (.done 0 [.agg [VS a0_0,a0_1]] []) (NG a0_1 1 2<|NE (a0_1.ix (1:Int))<|NG a0_1 2 2<|NE (a0_1.ix (2:Int))<|.call 86 [.agg [VS (((a0_1.ix (2:Int)).getD 0 .any).ai),((a0_1.ix (2:Int)).getD 1 .any)],VS a1,.agg [VS a2_0,a2_1]] [] fun r2 o2=>NA r2<|.call 47 [VS (mk [114,101,99]),.sl [[VS (((a0_1.ix (1:Int)).getD 0 .any).ai),((a0_1.ix (1:Int)).getD 1 .any)],[VS ((r2.cs.getD 0 .any).ai),(r2.cs.getD 1 .any)]]] [] fun r3 o3=>NA r3<|.done 0 [.agg [VS ((r3.cs.getD 0 .any).ai),(r3.cs.getD 1 .any)]] [])) (.call 33 [.agg [VS a0_0,a0_1]] [] fun r4 o4=>NS r4<|NG a0_1 1 2<|NE (a0_1.ix (1:Int))<|.call 86 [.agg [VS (((a0_1.ix (1:Int)).getD 0 .any).ai),((a0_1.ix (1:Int)).getD 1 .any)],VS a1,.agg [VS a2_0,a2_1]] [] fun r5 o5=>NA r5<|NG a0_1 2 2<|NE (a0_1.ix (2:Int))<|.call 86 [.agg [VS (((a0_1.ix (2:Int)).getD 0 .any).ai),((a0_1.ix (2:Int)).getD 1 .any)],VS a1,.agg [VS a2_0,a2_1]] [] fun r6 o6=>NA r6<|.call 47 [VS r4.ai,.sl [[VS ((r5.cs.getD 0 .any).ai),(r5.cs.getD 1 .any)],[VS ((r6.cs.getD 0 .any).ai),(r6.cs.getD 1 .any)]]] [] fun r7 o7=>NA r7<|.done 0 [.agg [VS ((r7.cs.getD 0 .any).ai),(r7.cs.getD 1 .any)]] []))
theorem xX(a0_0:ByteArray)(a0_1:AV)(a1:ByteArray)(a2_0:ByteArray)(a2_1:AV)(ha0_1:LK.has .sl a0_1)(ha2_1:LK.has .sl a2_1)(h:dl 58 (xe a0_0 a0_1 a1 a2_0 a2_1) R):ap Tryz.prog 86 [.agg [VS a0_0,a0_1],VS a1,.agg [VS a2_0,a2_1]] [] R :=
 uQ (ah (cw (ah (aC _) (ah (bR ha0_1) aD))) (ah (aC _) (ah (cw (ah (aC _) (ah (bR ha2_1) aD))) aD))) (oQ [] Tryz.f86 h)
def BO:LI:={hd:={bD:=[(0,.k .ptr),(1,.k .sl),(5,.k (.int .i64))]},xs:={bD:=[(0,.k .ptr)]},rt:={refs:=[(4,69)],bW:=[(69,[.lk (.int .u8),.lk .str,.lk (.int .i64),.lk .ptr,.lk .ptr])]},ex:=1}
def Hj:Code:=cz (cr Tryz.f87) 7
def DV:List (Nat×LI):=[(7,BO)]
def AO(a0:AV)(a1:AV):Tree :=
 NZ a0<|NZ a0<|.ak (LK.has .str (a0.deref.hA)/\1<=a0.deref.length)<|.test (ac ((a0.deref.hA).ai)==ac (mk [48])) (NZ a0<|NZ a0<|.ak (LK.has .str (a0.deref.hA)/\1<=a0.deref.length)<|.ak (0<=(0:Int)/\(0:Int)<ag ((a0.deref.hA).ai))<|.done 0 [.ptr [.v (.int .u8 (bt ((a0.deref.hA).ai) 0)),VS (mk []),VI 0,.v (.pointer none),.v (.pointer none)]] []) (NZ a0<|NZ a0<|.ak (LK.has .str (a0.deref.hA)/\1<=a0.deref.length)<|.test (ac ((a0.deref.hA).ai)==ac (mk [49])) (NZ a0<|NZ a0<|.ak (LK.has .str (a0.deref.hA)/\1<=a0.deref.length)<|.ak (0<=(0:Int)/\(0:Int)<ag ((a0.deref.hA).ai))<|.done 0 [.ptr [.v (.int .u8 (bt ((a0.deref.hA).ai) 0)),VS (mk []),VI 0,.v (.pointer none),.v (.pointer none)]] []) (NZ a0<|NZ a0<|.ak (LK.has .str (a0.deref.hA)/\1<=a0.deref.length)<|.call 97 [VS ((a0.deref.hA).ai)] [] fun r1 o1=>NB r1<|.test r1.toBool (NZ a0<|NZ a0<|.ak (LK.has .str (a0.deref.hA)/\1<=a0.deref.length)<|.done 0 [.ptr [.v (.int .u8 110),VS ((a0.deref.hA).ai),VI 0,.v (.pointer none),.v (.pointer none)]] []) (NZ a0<|NZ a0<|.ak (LK.has .str (a0.deref.hA)/\1<=a0.deref.length)<|.call 91 [VS ((a0.deref.hA).ai)] [] fun r2 o2=>NB r2<|.test r2.toBool (NL a1<|.loop Hj BO [a0,a1,VI (IntKind.wrap .i64 ((a1.aO.length:Int)-1))] [] (fun y3 q3=>NP (y3.hA)<|NZ (y3.hA)<|NZ (y3.hA)<|.ak (LK.has .str ((y3.hA).deref.hA)/\1<=((y3.hA).deref).length)<|.done 0 [.ptr [.v (.int .u8 110),VS (((y3.hA).deref.hA).ai),VI 0,.v (.pointer none),.v (.pointer none)]] []) (fun y3 q3=>.ak ((q3.hO)=.cells (q3.hO).cs)<|.ak (ae [.lk (.int .u8),.lk .str,.lk (.int .i64),.lk .ptr,.lk .ptr] ((q3.hO).cs) 0 q3.tail)<|.done 0 [.ptr [.v (.int .u8 (((q3.hO).cs.getD 0 .any).toInt)),VS (((q3.hO).cs.getD 1 .any).ai),VI (((q3.hO).cs.getD 2 .any).toInt),((q3.hO).cs.getD 3 .any),((q3.hO).cs.getD 4 .any)]] [])) (.call 94 [a0,VS (mk [43]),VI 3] [] fun r4 o4=>NB r4<|.test r4.toBool (NZ a0<|NZ a0<|nY (a0.deref.drop 1)<|NG ((a0.deref.drop 1).hA) 1 1<|gx (((a0.deref.drop 1).hA).ix (1:Int))<|.call 87 [((((a0.deref.drop 1).hA).ix (1:Int)).hA),a1] [] fun r5 o5=>NP r5<|NZ a0<|NZ a0<|nY (a0.deref.drop 1)<|NG ((a0.deref.drop 1).hA) 2 1<|gx (((a0.deref.drop 1).hA).ix (2:Int))<|.call 87 [((((a0.deref.drop 1).hA).ix (2:Int)).hA),a1] [] fun r6 o6=>NP r6<|NP r5<|.test r5.isNil (.done 0 [.v (.pointer none)] []) (NP r6<|.test r6.isNil (.done 0 [.v (.pointer none)] []) (NZ a0<|NZ a0<|nY (a0.deref.drop 1)<|NG ((a0.deref.drop 1).hA) 0 1<|gx (((a0.deref.drop 1).hA).ix (0:Int))<|NZ ((((a0.deref.drop 1).hA).ix (0:Int)).hA)<|NZ ((((a0.deref.drop 1).hA).ix (0:Int)).hA)<|.ak (LK.has .str (((((a0.deref.drop 1).hA).ix (0:Int)).hA).deref.hA)/\1<=(((((a0.deref.drop 1).hA).ix (0:Int)).hA).deref).length)<|.ak (0<=(0:Int)/\(0:Int)<ag ((((((a0.deref.drop 1).hA).ix (0:Int)).hA).deref.hA).ai))<|.done 0 [.ptr [.v (.int .u8 (bt ((((((a0.deref.drop 1).hA).ix (0:Int)).hA).deref.hA).ai) 0)),VS (mk []),VI 0,r5,r6]] []))) (.call 94 [a0,VS (mk [42]),VI 3] [] fun r7 o7=>NB r7<|.test r7.toBool (NZ a0<|NZ a0<|nY (a0.deref.drop 1)<|NG ((a0.deref.drop 1).hA) 1 1<|gx (((a0.deref.drop 1).hA).ix (1:Int))<|.call 87 [((((a0.deref.drop 1).hA).ix (1:Int)).hA),a1] [] fun r8 o8=>NP r8<|NZ a0<|NZ a0<|nY (a0.deref.drop 1)<|NG ((a0.deref.drop 1).hA) 2 1<|gx (((a0.deref.drop 1).hA).ix (2:Int))<|.call 87 [((((a0.deref.drop 1).hA).ix (2:Int)).hA),a1] [] fun r9 o9=>NP r9<|NP r8<|.test r8.isNil (.done 0 [.v (.pointer none)] []) (NP r9<|.test r9.isNil (.done 0 [.v (.pointer none)] []) (NZ a0<|NZ a0<|nY (a0.deref.drop 1)<|NG ((a0.deref.drop 1).hA) 0 1<|gx (((a0.deref.drop 1).hA).ix (0:Int))<|NZ ((((a0.deref.drop 1).hA).ix (0:Int)).hA)<|NZ ((((a0.deref.drop 1).hA).ix (0:Int)).hA)<|.ak (LK.has .str (((((a0.deref.drop 1).hA).ix (0:Int)).hA).deref.hA)/\1<=(((((a0.deref.drop 1).hA).ix (0:Int)).hA).deref).length)<|.ak (0<=(0:Int)/\(0:Int)<ag ((((((a0.deref.drop 1).hA).ix (0:Int)).hA).deref.hA).ai))<|.done 0 [.ptr [.v (.int .u8 (bt ((((((a0.deref.drop 1).hA).ix (0:Int)).hA).deref.hA).ai) 0)),VS (mk []),VI 0,r8,r9]] []))) (.call 94 [a0,VS (mk [114,101,99]),VI 3] [] fun r10 o10=>NB r10<|.test r10.toBool (NZ a0<|NZ a0<|nY (a0.deref.drop 1)<|NG ((a0.deref.drop 1).hA) 1 1<|gx (((a0.deref.drop 1).hA).ix (1:Int))<|NZ ((((a0.deref.drop 1).hA).ix (1:Int)).hA)<|NZ ((((a0.deref.drop 1).hA).ix (1:Int)).hA)<|.ak (LK.has .str (((((a0.deref.drop 1).hA).ix (1:Int)).hA).deref.hA)/\1<=(((((a0.deref.drop 1).hA).ix (1:Int)).hA).deref).length)<|.call 91 [VS ((((((a0.deref.drop 1).hA).ix (1:Int)).hA).deref.hA).ai)] [] fun r11 o11=>NB r11<|.test r11.toBool (NZ a0<|NZ a0<|nY (a0.deref.drop 1)<|NG ((a0.deref.drop 1).hA) 2 1<|gx (((a0.deref.drop 1).hA).ix (2:Int))<|.ak (LK.has .sl a1/\bU 1 a1.aO/\((([]:List (List AV)).length)+a1.aO.length)*16<=140737488355328)<|NZ a0<|NZ a0<|nY (a0.deref.drop 1)<|NG ((a0.deref.drop 1).hA) 1 1<|gx (((a0.deref.drop 1).hA).ix (1:Int))<|NZ ((((a0.deref.drop 1).hA).ix (1:Int)).hA)<|NZ ((((a0.deref.drop 1).hA).ix (1:Int)).hA)<|.ak (LK.has .str (((((a0.deref.drop 1).hA).ix (1:Int)).hA).deref.hA)/\1<=(((((a0.deref.drop 1).hA).ix (1:Int)).hA).deref).length)<|.ak (bU 1 [[VS ((((((a0.deref.drop 1).hA).ix (1:Int)).hA).deref.hA).ai)]]/\(((([]:List (List AV))++a1.aO).length)+([[VS ((((((a0.deref.drop 1).hA).ix (1:Int)).hA).deref.hA).ai)]]:List (List AV)).length)*16<=140737488355328)<|.call 87 [((((a0.deref.drop 1).hA).ix (2:Int)).hA),.sl ((([]:List (List AV))++a1.aO)++([[VS ((((((a0.deref.drop 1).hA).ix (1:Int)).hA).deref.hA).ai)]]:List (List AV)))] [] fun r12 o12=>NP r12<|NP r12<|.test r12.isNil (.done 0 [.v (.pointer none)] []) (.done 0 [.ptr [.v (.int .u8 114),VS (mk []),VI 0,r12,.v (.pointer none)]] [])) (.done 0 [.v (.pointer none)] [])) (.done 0 [.v (.pointer none)] [])))))))
theorem Gk(a0:AV)(a1:AV)(ha0:LK.has .ptr a0)(ha1:LK.has .sl a1)(h:dl 160 (AO a0 a1) R):ap Tryz.prog 87 [a0,a1] [] R :=
 uQ (ah (bO ha0) (ah (bR ha1) aD)) (oQ DV Tryz.f87 h)
def Cb(x0:AV)(x1:AV)(x5:Int):Tree :=
 NP x0<|NL x1<|NI (VI x5)<|.test (decide (x5≥(0:Int))) (NG x1 x5 1<|nq (x1.ix x5)<|NZ x0<|NZ x0<|.ak (LK.has .str (x0.deref.hA)/\1<=x0.deref.length)<|.test (ac (((x1.ix x5).hA).ai)==ac ((x0.deref.hA).ai)) (NL x1<|.done 2 [] [.cells [.v (.int .u8 98),VS (mk []),VI (IntKind.wrap .i64 ((IntKind.wrap .i64 ((x1.aO.length:Int)-1))-x5)),.v (.pointer none),.v (.pointer none)]]) (.done 0 [x0,x1,VI (IntKind.wrap .i64 (x5-1))] [])) (.done 1 [x0] [])
abbrev Cr:=cg Tryz.prog 160 Hj BO
theorem Gy(x0:AV)(x1:AV)(x5:Int)(h:j6 160 (Cb x0 x1 x5) Cr U):Cr [x0,x1,VI x5] [] U :=
 gQ DV h
def zP(a0:AV):Tree :=
 NZ a0<|NZ a0<|.ak (LK.has (.int .u8) (a0.deref.hA)/\1<=a0.deref.length)<|.test (((a0.deref.hA).toInt)==(43:Int)) (NZ a0<|NZ a0<|gx (a0.deref.drop 3)<|.call 88 [((a0.deref.drop 3).hA)] [] fun r1 o1=>NI r1<|NZ a0<|NZ a0<|gx (a0.deref.drop 4)<|.call 88 [((a0.deref.drop 4).hA)] [] fun r2 o2=>NI r2<|.done 0 [VI (IntKind.wrap .i64 ((IntKind.wrap .i64 (1+r1.toInt))+r2.toInt))] []) (.test (((a0.deref.hA).toInt)==(42:Int)) (NZ a0<|NZ a0<|gx (a0.deref.drop 3)<|.call 88 [((a0.deref.drop 3).hA)] [] fun r3 o3=>NI r3<|NZ a0<|NZ a0<|gx (a0.deref.drop 4)<|.call 88 [((a0.deref.drop 4).hA)] [] fun r4 o4=>NI r4<|.done 0 [VI (IntKind.wrap .i64 ((IntKind.wrap .i64 (1+r3.toInt))+r4.toInt))] []) (.test (((a0.deref.hA).toInt)==(114:Int)) (NZ a0<|NZ a0<|gx (a0.deref.drop 3)<|.call 88 [((a0.deref.drop 3).hA)] [] fun r5 o5=>NI r5<|.done 0 [VI (IntKind.wrap .i64 (2+r5.toInt))] []) (.done 0 [VI 1] [])))
theorem CJ(a0:AV)(ha0:LK.has .ptr a0)(h:dl 30 (zP a0) R):ap Tryz.prog 88 [a0] [] R :=
 uQ (ah (bO ha0) aD) (oQ [] Tryz.f88 h)
def He(a0:AV):Tree :=
 .call 98 [a0,.v (.func (.func 91) #[] #[])] [] fun r1 o1=>NI r1<|.done 0 [VB (decide (r1.toInt≥(0:Int)))] []
theorem I9(a0:AV)(ha0:LK.has .sl a0)(h:dl 9 (He a0) R):ap Tryz.prog 89 [a0,.v (.func (.func 91) #[] #[])] [] R :=
 uQ (ah (bR ha0) (ah (aC _) aD)) (oQ [] Tryz.f89 h)
def DA(a0:AV):Tree :=
 .call 99 [a0,.fn 100 [.ref 0 0]] [.cells [.vec 1],.vec 1 []] fun r1 o1=>.ak ((o1.hO)=.cells (o1.hO).cs)<|.ak (aN [.vec 1] ((o1.hO).cs) 0 1 o1.tail)<|.done 0 [.sl ((o1.tail.hO).es)] []
theorem Ju(a0:AV)(ha0:LK.has .ptr a0)(h:dl 9 (DA a0) R):ap Tryz.prog 90 [a0] [] R :=
 uQ (ah (bO ha0) aD) (oQ [] Tryz.f90 h)
def Hw(a0:ByteArray):Tree :=
 .call 102 [VS a0,VS (mk [116])] [] fun r1 o1=>NB r1<|.done 0 [VB r1.toBool] []
theorem KD(a0:ByteArray)(h:dl 5 (Hw a0) R):ap Tryz.prog 91 [VS a0] [] R :=
 uQ (ah (aC _) aD) (oQ [] Tryz.f91 h)
def Ci:LI:={hd:={bD:=[(0,.k .str),(1,.k (.int .i64)),(6,.k (.int .i64))]},xs:={bD:=[(0,.k .str),(1,.k (.int .i64)),(6,.k (.int .i64))]},rt:={},ex:=0}
def EO:Code:=cz (cr Tryz.f92) 2
def Aw:LI:={hd:={bD:=[(0,.k .str),(1,.k (.int .i64)),(7,.k .str)],refs:=[(8,48)],bW:=[(48,[.lk .str,.vec 1])]},xs:={},rt:={bD:=[(4,.k .ptr),(5,.k .str)]},ex:=999}
def Dn:Code:=cz (cr Tryz.f92) 10
def Be:List (Nat×LI):=[(2,Ci),(10,Aw)]
def Bi(a0:ByteArray)(a1:Int):Tree :=
 .loop EO Ci [VS a0,VI a1,VI 0] [] (fun y2 q2=>NS (y2.hA)<|NI (y2.tail.hA)<|NI (y2.tail.tail.hA)<|.test (decide (((y2.tail.tail.hA).toInt)>(0:Int))) (.ak (0<=(0:Int)/\(0:Int)<=((y2.tail.tail.hA).toInt)/\((y2.tail.tail.hA).toInt)<=(ag ((y2.hA).ai):Int))<|.ak (0<=((y2.tail.tail.hA).toInt)/\((y2.tail.tail.hA).toInt)<=(ag ((y2.hA).ai):Int)/\(ag ((y2.hA).ai):Int)<=(ag ((y2.hA).ai):Int))<|.done 0 [.cV [.ptr [VS (bF ((y2.hA).ai) (bB 0) (bB ((y2.tail.tail.hA).toInt))),.v (.slice none 0 0)],VS (bF ((y2.hA).ai) (bB ((y2.tail.tail.hA).toInt)) (bB (ag ((y2.hA).ai):Int)))]] []) (.test (ac ((y2.hA).ai)==ac (mk [])) (.done 0 [.cV [.v (.pointer none),VS ((y2.hA).ai)]] []) (.ak (0<=(0:Int)/\(0:Int)<ag ((y2.hA).ai))<|.test ((bt ((y2.hA).ai) 0) != (40:Int)) (.done 0 [.cV [.v (.pointer none),VS ((y2.hA).ai)]] []) (.test (((y2.tail.hA).toInt)==(300:Int)) (.done 0 [.cV [.v (.pointer none),VS ((y2.hA).ai)]] []) (.ak (0<=(1:Int)/\(1:Int)<=(ag ((y2.hA).ai):Int)/\(ag ((y2.hA).ai):Int)<=(ag ((y2.hA).ai):Int))<|.loop Dn Aw [VS ((y2.hA).ai),VI ((y2.tail.hA).toInt),VS (bF ((y2.hA).ai) (bB 1) (bB (ag ((y2.hA).ai):Int)))] [.cells [VS (mk []),.any],.vec 1 []] (fun y5 q5=>.fail) (fun y5 q5=>NP (y5.hA)<|NS (y5.tail.hA)<|.done 0 [.cV [(y5.hA),VS ((y5.tail.hA).ai)]] [])))))) (fun y2 q2=>.done 0 [.cV [.any,.any]] [])
theorem HS(a0:ByteArray)(a1:Int)(h:dl 84 (Bi a0 a1) R):ap Tryz.prog 92 [VS a0,VI a1] [] R :=
 uQ (ah (aC _) (ah (aC _) aD)) (oQ Be Tryz.f92 h)
def AP(x0:ByteArray)(x1:Int)(x6:Int):Tree :=
 NS (VS x0)<|NI (VI x1)<|NI (VI x6)<|.test (decide (x6<(ag x0:Int))) (.ak (0<=x6/\x6<ag x0)<|.call 103 [.v (.int .u8 (bt x0 x6))] [] fun r1 o1=>NB r1<|.test r1.toBool (.done 0 [VS x0,VI x1,VI (IntKind.wrap .i64 (x6+1))] []) (.done 1 [VS x0,VI x1,VI x6] [])) (.done 1 [VS x0,VI x1,VI x6] [])
abbrev BW:=cg Tryz.prog 84 EO Ci
theorem Ew(x0:ByteArray)(x1:Int)(x6:Int)(h:j6 84 (AP x0 x1 x6) BW U):BW [VS x0,VI x1,VI x6] [] U :=
 gQ Be h
def EL(x0:ByteArray)(x1:Int)(x7:ByteArray)(o48_0:ByteArray)(o48_1:List (List AV)):Tree :=
 NS (VS x0)<|NI (VI x1)<|NS (VS x7)<|.ak (Ob.cells [VS o48_0,.any]=.cells [VS o48_0,.any])<|.ak (ae [.lk .str,.vec 1] [VS o48_0,.any] 0 [.vec 1 o48_1])<|.call 92 [VS x7,VI (IntKind.wrap .i64 (x1+1))] [] fun r1 o1=>NT r1<|NP (r1.comp 0)<|NS (r1.comp 1)<|NP (r1.comp 0)<|.test ((r1.comp 0).isNil) (.done 2 [.v (.pointer none),VS x0] []) (.test (ac ((r1.comp 1).ai)==ac (mk [])) (.done 2 [.v (.pointer none),VS x0] []) (.ak (bU 1 [[(r1.comp 0)]]/\((o48_1.length)+([[(r1.comp 0)]]:List (List AV)).length)*8<=140737488355328)<|.ak (0<=(1:Int)/\(1:Int)<=(ag ((r1.comp 1).ai):Int)/\(ag ((r1.comp 1).ai):Int)<=(ag ((r1.comp 1).ai):Int))<|.ak (0<=(0:Int)/\(0:Int)<ag ((r1.comp 1).ai))<|.test ((bt ((r1.comp 1).ai) 0)==(41:Int)) (.done 2 [.ptr [VS o48_0,.sl (o48_1++([[(r1.comp 0)]]:List (List AV)))],VS (bF ((r1.comp 1).ai) (bB 1) (bB (ag ((r1.comp 1).ai):Int)))] []) (.ak (0<=(0:Int)/\(0:Int)<ag ((r1.comp 1).ai))<|.test ((bt ((r1.comp 1).ai) 0) != (32:Int)) (.done 2 [.v (.pointer none),VS x0] []) (.done 0 [VS x0,VI x1,VS (bF ((r1.comp 1).ai) (bB 1) (bB (ag ((r1.comp 1).ai):Int)))] [.cells [VS o48_0,.any],.vec 1 (o48_1++([[(r1.comp 0)]]:List (List AV)))]))))
abbrev B9:=cg Tryz.prog 84 Dn Aw
theorem I8(x0:ByteArray)(x1:Int)(x7:ByteArray)(o48_0:ByteArray)(o48_1:List (List AV))(h:j6 84 (EL x0 x1 x7 o48_0 o48_1) B9 U):B9 [VS x0,VI x1,VS x7] [.cells [VS o48_0,.any],.vec 1 o48_1] U :=
 gQ Be h
def FE(a0:ByteArray):Tree :=
 .test (decide ((ag a0:Int)<(2:Int))) (.done 0 [VB false] []) (.test (decide ((ag a0:Int)>(3:Int))) (.done 0 [VB false] []) (.ak (0<=(0:Int)/\(0:Int)<ag a0)<|.test ((bt a0 0) != (101:Int)) (.done 0 [VB false] []) (.ak (0<=(1:Int)/\(1:Int)<=(ag a0:Int)/\(ag a0:Int)<=(ag a0:Int))<|.call 104 [VS (bF a0 (bB 1) (bB (ag a0:Int))),VS (mk [48,49,50,51,52,53,54,55,56,57])] [] fun r1 o1=>NS r1<|.test (!(ac r1.ai==ac (mk []))) (.done 0 [VB false] []) (.test ((ag a0:Int)==(2:Int)) (.done 0 [VB true] []) (.ak (0<=(1:Int)/\(1:Int)<ag a0)<|.done 0 [VB ((bt a0 1) != (48:Int))] [])))))
theorem Jk(a0:ByteArray)(h:dl 30 (FE a0) R):ap Tryz.prog 93 [VS a0] [] R :=
 uQ (ah (aC _) aD) (oQ [] Tryz.f93 h)
def wC(a0:AV)(a1:ByteArray)(a2:Int):Tree :=
 NZ a0<|NZ a0<|nY (a0.deref.drop 1)<|NL ((a0.deref.drop 1).hA)<|.test (((((a0.deref.drop 1).hA).aO).length:Int)==a2) (NZ a0<|NZ a0<|nY (a0.deref.drop 1)<|NG ((a0.deref.drop 1).hA) 0 1<|gx (((a0.deref.drop 1).hA).ix (0:Int))<|NZ ((((a0.deref.drop 1).hA).ix (0:Int)).hA)<|NZ ((((a0.deref.drop 1).hA).ix (0:Int)).hA)<|.ak (LK.has .str (((((a0.deref.drop 1).hA).ix (0:Int)).hA).deref.hA)/\1<=(((((a0.deref.drop 1).hA).ix (0:Int)).hA).deref).length)<|.done 0 [VB (ac ((((((a0.deref.drop 1).hA).ix (0:Int)).hA).deref.hA).ai)==ac a1)] []) (.done 0 [VB false] [])
theorem GZ(a0:AV)(a1:ByteArray)(a2:Int)(ha0:LK.has .ptr a0)(h:dl 27 (wC a0 a1 a2) R):ap Tryz.prog 94 [a0,VS a1,VI a2] [] R :=
 uQ (ah (bO ha0) (ah (aC _) (ah (aC _) aD))) (oQ [] Tryz.f94 h)
def EM(a0:ByteArray):Tree :=
 .call 102 [VS a0,VS (mk [120,121,122])] [] fun r1 o1=>NB r1<|.done 0 [VB r1.toBool] []
theorem KX(a0:ByteArray)(h:dl 5 (EM a0) R):ap Tryz.prog 97 [VS a0] [] R :=
 uQ (ah (aC _) aD) (oQ [] Tryz.f97 h)
def BR:LI:={hd:={bD:=[(0,.k .sl),(1,.c (.func (.func 91) #[] #[])),(7,.k (.int .i64)),(8,.k (.int .i64))]},xs:={},rt:={bD:=[(4,.k (.int .i64))]},ex:=0}
def GR:Code:=cz (cr Tryz.f98) 2
def EB:List (Nat×LI):=[(2,BR)]
def DB(a0:AV):Tree :=
 NL a0<|.loop GR BR [a0,.v (.func (.func 91) #[] #[]),VI (a0.aO.length:Int),VI 0] [] (fun y2 q2=>.done 0 [VI (-1)] []) (fun y2 q2=>NI (y2.hA)<|.done 0 [VI ((y2.hA).toInt)] [])
theorem Jw(a0:AV)(ha0:LK.has .sl a0)(h:dl 19 (DB a0) R):ap Tryz.prog 98 [a0,.v (.func (.func 91) #[] #[])] [] R :=
 uQ (ah (bR ha0) (ah (aC _) aD)) (oQ EB Tryz.f98 h)
def Ak(x0:AV)(x7:Int)(x8:Int):Tree :=
 NL x0<|.ak (AV.v (.func (.func 91) #[] #[])=.v (.func (.func 91) #[] #[]))<|NI (VI x7)<|NI (VI x8)<|.test (decide (x8<x7)) (NG x0 x8 1<|nq (x0.ix x8)<|.call 91 [VS (((x0.ix x8).hA).ai)] [] fun r1 o1=>NB r1<|.test r1.toBool (.done 2 [VI x8] []) (.done 0 [x0,.v (.func (.func 91) #[] #[]),VI x7,VI (IntKind.wrap .i64 (x8+1))] [])) (.done 1 [] [])
abbrev AI:=cg Tryz.prog 19 GR BR
theorem GG(x0:AV)(x7:Int)(x8:Int)(h:j6 19 (Ak x0 x7 x8) AI U):AI [x0,.v (.func (.func 91) #[] #[]),VI x7,VI x8] [] U :=
 gQ EB h
def zG(a0:AV)(e1_0_0:List (List AV)):Tree :=
 .call 100 [a0,.ref 0 0] [.cells [.vec 1],.vec 1 e1_0_0] fun r1 o1=>.ak ((o1.hO)=.cells (o1.hO).cs)<|.ak (aN [.vec 1] ((o1.hO).cs) 0 1 o1.tail)<|NZ a0<|NZ a0<|gx (a0.deref.drop 3)<|NP ((a0.deref.drop 3).hA)<|.test (!((a0.deref.drop 3).hA).isNil) (NZ a0<|NZ a0<|gx (a0.deref.drop 3)<|.call 99 [((a0.deref.drop 3).hA),.fn 100 [.ref 0 0]] [.cells [.vec 1],.vec 1 ((o1.tail.hO).es)] fun r2 o2=>.ak ((o2.hO)=.cells (o2.hO).cs)<|.ak (aN [.vec 1] ((o2.hO).cs) 0 1 o2.tail)<|NZ a0<|NZ a0<|gx (a0.deref.drop 4)<|NP ((a0.deref.drop 4).hA)<|.test (!((a0.deref.drop 4).hA).isNil) (NZ a0<|NZ a0<|gx (a0.deref.drop 4)<|.call 99 [((a0.deref.drop 4).hA),.fn 100 [.ref 0 0]] [.cells [.vec 1],.vec 1 ((o2.tail.hO).es)] fun r3 o3=>.ak ((o3.hO)=.cells (o3.hO).cs)<|.ak (aN [.vec 1] ((o3.hO).cs) 0 1 o3.tail)<|.done 0 [.any] [.cells [.vec 1],.vec 1 ((o3.tail.hO).es)]) (.done 0 [.any] [.cells [.vec 1],.vec 1 ((o2.tail.hO).es)])) (NZ a0<|NZ a0<|gx (a0.deref.drop 4)<|NP ((a0.deref.drop 4).hA)<|.test (!((a0.deref.drop 4).hA).isNil) (NZ a0<|NZ a0<|gx (a0.deref.drop 4)<|.call 99 [((a0.deref.drop 4).hA),.fn 100 [.ref 0 0]] [.cells [.vec 1],.vec 1 ((o1.tail.hO).es)] fun r4 o4=>.ak ((o4.hO)=.cells (o4.hO).cs)<|.ak (aN [.vec 1] ((o4.hO).cs) 0 1 o4.tail)<|.done 0 [.any] [.cells [.vec 1],.vec 1 ((o4.tail.hO).es)]) (.done 0 [.any] [.cells [.vec 1],.vec 1 ((o1.tail.hO).es)]))
theorem Ap(a0:AV)(e1_0_0:List (List AV))(ha0:LK.has .ptr a0)(h:dl 29 (zG a0 e1_0_0) R):ap Tryz.prog 99 [a0,.fn 100 [.ref 0 0]] [.cells [.vec 1],.vec 1 e1_0_0] R :=
 ap.mO (bh (bQ (ah (aC _) aD)) (bh (eg _) cm)) (ap.up (ah (bO ha0) (ah (aC _) aD)) (oF [] {mu:=[(1,.fn [some (.obj [.vec 1])])],own:=[]} Tryz.f99 h))
def Cl(a0:AV)(e1_0:List (List AV)):Tree :=
 NZ a0<|NZ a0<|.ak (LK.has (.int .u8) (a0.deref.hA)/\1<=a0.deref.length)<|.test (((a0.deref.hA).toInt)==(110:Int)) (NZ a0<|NZ a0<|nq (a0.deref.drop 1)<|.call 101 [.sl e1_0,VS (((a0.deref.drop 1).hA).ai)] [] fun r1 o1=>NB r1<|.test (!r1.toBool) (NZ a0<|NZ a0<|nq (a0.deref.drop 1)<|.ak (bU 1 [[VS (((a0.deref.drop 1).hA).ai)]]/\((e1_0.length)+([[VS (((a0.deref.drop 1).hA).ai)]]:List (List AV)).length)*16<=140737488355328)<|.done 0 [.any] [.cells [.vec 1],.vec 1 (e1_0++([[VS (((a0.deref.drop 1).hA).ai)]]:List (List AV)))]) (.done 0 [.any] [.cells [.vec 1],.vec 1 e1_0])) (.done 0 [.any] [.cells [.vec 1],.vec 1 e1_0])
theorem KI(a0:AV)(e1_0:List (List AV))(ha0:LK.has .ptr a0)(h:dl 24 (Cl a0 e1_0) R):ap Tryz.prog 100 [a0,.ref 0 0] [.cells [.vec 1],.vec 1 e1_0] R :=
 ap.mO (bh (bQ (ah (aC _) aD)) (bh (eg _) cm)) (ap.up (ah (bO ha0) (ah (aC _) aD)) (oF [] {mu:=[(1,.one (.obj [.vec 1]))],own:=[]} Tryz.f100 h))
def ET(a0:AV)(a1:ByteArray):Tree :=
 .call 110 [a0,VS a1] [] fun r1 o1=>NI r1<|.done 0 [VB (decide (r1.toInt≥(0:Int)))] []
theorem JK(a0:AV)(a1:ByteArray)(ha0:LK.has .sl a0)(h:dl 9 (ET a0 a1) R):ap Tryz.prog 101 [a0,VS a1] [] R :=
 uQ (ah (bR ha0) (ah (aC _) aD)) (oQ [] Tryz.f101 h)
def F7(a0:ByteArray)(a1:ByteArray):Tree :=
 .test (decide ((ag a0:Int)≥(1:Int))) (.test (decide ((ag a0:Int)<=(3:Int))) (.ak (0<=(0:Int)/\(0:Int)<=(1:Int)/\(1:Int)<=(ag a0:Int))<|.call 111 [VS a1,VS (bF a0 (bB 0) (bB 1))] [] fun r1 o1=>NB r1<|.test r1.toBool (.ak (0<=(1:Int)/\(1:Int)<=(ag a0:Int)/\(ag a0:Int)<=(ag a0:Int))<|.call 104 [VS (bF a0 (bB 1) (bB (ag a0:Int))),VS (mk [48,49,50,51,52,53,54,55,56,57])] [] fun r2 o2=>NS r2<|.done 0 [VB (ac r2.ai==ac (mk []))] []) (.done 0 [VB false] [])) (.done 0 [VB false] [])) (.done 0 [VB false] [])
theorem Jx(a0:ByteArray)(a1:ByteArray)(h:dl 25 (F7 a0 a1) R):ap Tryz.prog 102 [VS a0,VS a1] [] R :=
 uQ (ah (aC _) (ah (aC _) aD)) (oQ [] Tryz.f102 h)
def Fi(a0:Int):Tree :=
 .test (decide (a0≥(97:Int))) (.test (decide (a0<=(122:Int))) (.done 0 [VB true] []) (.test (decide (a0≥(48:Int))) (.test (decide (a0<=(57:Int))) (.done 0 [VB true] []) (.test (a0==(43:Int)) (.done 0 [VB true] []) (.done 0 [VB (a0==(42:Int))] []))) (.test (a0==(43:Int)) (.done 0 [VB true] []) (.done 0 [VB (a0==(42:Int))] [])))) (.test (decide (a0≥(48:Int))) (.test (decide (a0<=(57:Int))) (.done 0 [VB true] []) (.test (a0==(43:Int)) (.done 0 [VB true] []) (.done 0 [VB (a0==(42:Int))] []))) (.test (a0==(43:Int)) (.done 0 [VB true] []) (.done 0 [VB (a0==(42:Int))] [])))
theorem I7(a0:Int)(h:dl 25 (Fi a0) R):ap Tryz.prog 103 [.v (.int .u8 a0)] [] R :=
 uQ (ah (aC _) aD) (oQ [] Tryz.f103 h)
def Cf:LI:={hd:={bD:=[(0,.k .sl),(1,.k .str),(7,.k (.int .i64)),(8,.k (.int .i64))]},xs:={},rt:={bD:=[(4,.k (.int .i64))]},ex:=0}
def Gw:Code:=cz (cr Tryz.f110) 2
def FA:List (Nat×LI):=[(2,Cf)]
def EF(a0:AV)(a1:ByteArray):Tree :=
 NL a0<|.loop Gw Cf [a0,VS a1,VI (a0.aO.length:Int),VI 0] [] (fun y1 q1=>.done 0 [VI (-1)] []) (fun y1 q1=>NI (y1.hA)<|.done 0 [VI ((y1.hA).toInt)] [])
theorem JG(a0:AV)(a1:ByteArray)(ha0:LK.has .sl a0)(h:dl 19 (EF a0 a1) R):ap Tryz.prog 110 [a0,VS a1] [] R :=
 uQ (ah (bR ha0) (ah (aC _) aD)) (oQ FA Tryz.f110 h)
def Ch(x0:AV)(x1:ByteArray)(x7:Int)(x8:Int):Tree :=
 NL x0<|NS (VS x1)<|NI (VI x7)<|NI (VI x8)<|.test (decide (x8<x7)) (NG x0 x8 1<|nq (x0.ix x8)<|.test (ac x1==ac (((x0.ix x8).hA).ai)) (.done 2 [VI x8] []) (.done 0 [x0,VS x1,VI x7,VI (IntKind.wrap .i64 (x8+1))] [])) (.done 1 [] [])
abbrev Cv:=cg Tryz.prog 19 Gw Cf
theorem E1(x0:AV)(x1:ByteArray)(x7:Int)(x8:Int)(h:j6 19 (Ch x0 x1 x7 x8) Cv U):Cv [x0,VS x1,VI x7,VI x8] [] U :=
 gQ FA h
end
end Go.Proofs.Trees
namespace Go.Proofs.Trees
open Go Go.VL
theorem bk(i:Nat)(h:i<1000000000000):IntKind.wrap .i64 ((i:Int)+1)=((i+1:Nat):Int):=by rw[wrap64]<;>omega
inductive E where
 |atom (s:List UInt8)
 |list (l:List E)
mutual
def E.cu:E->AV
 | .atom s=>.ptr [.v (.string (mk s)),.v (.slice none 0 0)]
 | .list l=>.ptr [.v (.string (mk [])),.sl (E.j7 l)]
def E.j7:List E->List (List AV)
 |[]=>[]
 |e::l=>[e.cu]::E.j7 l
end
mutual
def E.fP:E->List AV
 | .atom s=>[.v (.string (mk s)),.v (.slice none 0 0)]
 | .list l=>[.v (.string (mk [])),.sl (E.ba l)]
def E.ba:List E->List (List AV)
 |[]=>[]
 |e::l=>e.fP::E.ba l
end
def E.iT(e:E):AV:=.agg e.fP
theorem rL(l r:List E):E.j7 (l++r)=E.j7 l++E.j7 r:=by
 induction l with
 |nil=>rfl
 |cons e l ih=>simp[E.j7,ih]
theorem nw(l r:List E):E.ba (l++r)=E.ba l++E.ba r:=by
 induction l with
 |nil=>rfl
 |cons e l ih=>simp[E.ba,ih]
theorem oK(l:List E):(E.j7 l).length=l.length:=by
 induction l with
 |nil=>rfl
 |cons e l ih=>simp[E.j7,ih]
theorem dj(l:List E):(E.ba l).length=l.length:=by
 induction l with
 |nil=>rfl
 |cons e l ih=>simp[E.ba,ih]
def eV(b:UInt8):Bool:=decide ((97<=b.toNat/\b.toNat<=122)\/(48<=b.toNat/\b.toNat<=57)\/b.toNat=43\/b.toNat=42)
def rH(f:List UInt8->Option (E×List UInt8)):Nat->List UInt8->List E->Option (E×List UInt8)
 |0,_,_=>none
 |
  n+1,s,acc=>match f s with
  |some (p,c::r)=>if c.toNat=41 then some (.list (acc++[p]),r)else if c.toNat=32 then rH f n r (acc++[p])else none
  |_=>none
def rd:Nat->List UInt8->Option (E×List UInt8)
 |0,s=>if s.takeWhile eV=[]then none else some (.atom (s.takeWhile eV),s.dropWhile eV)
 |k+1,s=>if s.takeWhile eV=[]then(match s with
  |c::r=>if c.toNat=40 then rH (rd k) (r.length+1) r []else none
  |[]=>none)else some (.atom (s.takeWhile eV),s.dropWhile eV)
theorem wb{f:List UInt8->Option (E×List UInt8)}(hf:∀s e r,f s=some (e,r)->r.length<s.length):∀(n:Nat) (s:List UInt8) (acc:List E) (e:E) (r:List UInt8),rH f n s acc=some (e,r)->r.length<s.length
 |0,s,acc,e,r,h=>by cases h
 |
  n+1,s,acc,e,r,h=>by
  simp only[rH]at h
  split at h
  ·rename_i p c r' hs
   have:=hf _ _ _ hs
   simp only[aB]at this
   split at h
   ·cases h;omega
   ·split at h
    ·have:=wb hf n _ _ _ _ h;omega
    ·cases h
  ·cases h
theorem mw{s:List UInt8}(h:¬s.takeWhile eV=[]):(s.dropWhile eV).length<s.length:=by
 have h1:=congrArg List.length (List.takeWhile_append_dropWhile (p:=eV) (l:=s))
 simp only[an]at h1
 have:0<(s.takeWhile eV).length:=List.length_pos_iff.2 h
 omega
theorem tI:∀(k:Nat) (s:List UInt8) (e:E) (r:List UInt8),rd k s=some (e,r)->r.length<s.length
 |
  0,s,e,r,h=>by
  simp only[rd]at h
  split at h
  ·cases h
  ·rename_i hn;cases h;exact mw hn
 |
  k+1,s,e,r,h=>by
  simp only[rd]at h
  split at h
  ·split at h
   ·split at h
    ·have:=wb (tI k) _ _ _ _ _ h
     simp only[aB];omega
    ·cases h
   ·cases h
  ·rename_i hn;cases h;exact mw hn
theorem Kx(b:UInt8):ap Tryz.prog 103 [.v (.int .u8 (b.toNat:Int))] [] (bA (.v (.bool (eV b)))):=by
 refine I7 _ ?_
 simp only[Fi,↓zq,zs,ae,bA,eV]
 repeat' (apply aE<;>intro _)
 all_goals first|(congr 2;rw[bV];simp;omega)|(congr 2;simp;omega)
theorem tV{s:List UInt8}{i:Nat}(hi:i<s.length)(hb:eV (s.getD i 0)=true):((s.drop i).takeWhile eV).length=((s.drop (i+1)).takeWhile eV).length+1:=by
 have e:s.drop i=s.getD i 0::s.drop (i+1):=by
  rw[aJ hi];simp[aa,hi]
 rw[e,List.takeWhile_cons_of_pos hb];simp
theorem n0{s:List UInt8}{i:Nat}(hi:i<s.length)(hb:eV (s.getD i 0)=false):(s.drop i).takeWhile eV=[]:=by
 have e:s.drop i=s.getD i 0::s.drop (i+1):=by
  rw[aJ hi];simp[aa,hi]
 rw[e,List.takeWhile_cons_of_neg (by rw[hb];simp)]
theorem Cu(s:List UInt8)(hs:s.length<=8000)(d:Int):∀(k i:Nat),i+k=s.length->BW [.v (.string (mk s)),.v (.int .i64 d),.v (.int .i64 (i:Int))] [] (fI 1 [.v (.string (mk s)),.v (.int .i64 d),.v (.int .i64 ((i+((s.drop i).takeWhile eV).length:Nat):Int))] [])
 |
  0,i,hi=>by
  refine Ew _ _ _ ?_
  have hd:s.drop i=[]:=bn (by omega)
  simp only[AP,↓zq,zs,ae,zt]
  exact⟨fun h=>by omega,fun _=>by simp[fI,hd]⟩
 |
  k+1,i,hi=>by
  have hlt:i<s.length:=by omega
  refine Ew _ _ _ ?_
  simp only[AP,↓zq,zs,ae,zt,j4 s i hlt]
  refine⟨fun _=>⟨by omega,?_⟩,fun h=>by omega⟩
  refine al (Kx _) ?_
  simp only[↓zq,zs,ae]
  refine⟨fun hb=>?_,fun hb=>?_⟩
  ·rw[bk i (by omega)]
   have:=Cu s hs d k (i+1) (by omega)
   rw[tV hlt hb,show i+(((s.drop (i+1)).takeWhile eV).length+1)=i+1+((s.drop (i+1)).takeWhile eV).length by omega]
   exact this
  ·simp[fI,n0 hlt hb]
def l9(s:List UInt8):Option (E×List UInt8)->AV
 |some (e,r)=>.cV [e.cu,.v (.string (mk r))]
 |none=>.cV [.v (.pointer none),.v (.string (mk s))]
theorem cq(e:E):LK.has .ptr e.cu=True:=by cases e<;>simp[E.cu,du]
theorem dm(e:E):e.cu.isNil=false:=by cases e<;>rfl
theorem qW(s:List UInt8):s.take (s.takeWhile eV).length=s.takeWhile eV:=by
 have h:=List.takeWhile_append_dropWhile (p:=eV) (l:=s)
 have:(s.takeWhile eV++s.dropWhile eV).take (s.takeWhile eV).length=s.takeWhile eV:=List.take_left
 rw[h]at this;exact this
theorem tO(s:List UInt8):s.drop (s.takeWhile eV).length=s.dropWhile eV:=by
 have h:=List.takeWhile_append_dropWhile (p:=eV) (l:=s)
 have:(s.takeWhile eV++s.dropWhile eV).drop (s.takeWhile eV).length=s.dropWhile eV:=List.drop_left
 rw[h]at this;exact this
theorem wI(c:UInt8)(r:List UInt8):(List.take (r.length+1) (c::r)).drop (bB 1)=r:=by simp
theorem Gj(s0:List UInt8)(k:Nat)(hk:k<300)(ih:∀s,s.length<=8000->ap Tryz.prog 92 [.v (.string (mk s)),.v (.int .i64 ((300-k:Nat):Int))] [] (bA (l9 s (rd k s)))) :
 ∀(n:Nat) (s:List UInt8) (acc:List E),s.length<n->s.length+acc.length<=8000->B9 [.v (.string (mk s0)),.v (.int .i64 ((300-(k+1):Nat):Int)),.v (.string (mk s))] [.cells [.v (.string (mk [])),.any],.vec 1 (E.j7 acc)]
  (pj (match rH (rd k) n s acc with|some (e,r)=>(2,[e.cu,.v (.string (mk r))],[])|none=>(2,[.v (.pointer none),.v (.string (mk s0))],[])))
 |0,s,acc,hn,_=>by omega
 |
  n+1,s,acc,hn,hl=>by
  refine I8 _ _ _ _ _ ?_
  simp only[EL,↓zq,zs,ae,wu]
  have hd:IntKind.wrap .i64 (((300-(k+1):Nat):Int)+1)=((300-k:Nat):Int):=by rw[wrap64]<;>omega
  rw[hd]
  refine al (ih s (by omega)) ?_
  have hlt:=tI k s
  cases hr:rd k s with
  |
   none =>
   simp only[l9,↓zq,zs,ae,rH,hr]
   simp[pj]
  |
   some q =>
   obtain⟨e,r⟩:=q
   have:=hlt e r hr
   cases r with
   |
    nil =>
    simp only[l9,↓zq,zs,ae,zt,rH,hr,cq,dm]
    simp[pj]
   |
    cons c r =>
    simp only[aB]at this
    have hb:=j4 (c::r) 0 (by simp)
    simp only[co,cF]at hb
    have e2:(List.take (c::r).length (c::r)).drop 1=r:=by simp
    simp only[l9,↓zq,zs,ae,zt,rH,hr,cq,dm,hb,e2,oK]
    refine⟨fun h=>(by cases h),fun _=>⟨fun h=>(by cases h),fun _=>⟨⟨fun c hc=>(by simp at hc;rw[hc];rfl),by omega⟩,by omega,by omega,fun h41=>?_,fun h41=>⟨by omega,fun h32=>?_,fun h32=>?_⟩⟩⟩⟩
    ·have h41':c.toNat=41:=by omega
     rw[wI,if_pos h41']
     simp[pj,E.cu,rL,E.j7]
    ·have h41':¬c.toNat=41:=by omega
     have h32':¬c.toNat=32:=by omega
     rw[if_neg h41',if_neg h32']
    ·have h41':¬c.toNat=41:=by omega
     have h32':c.toNat=32:=by omega
     rw[wI,if_neg h41',if_pos h32']
     have:=Gj s0 k hk ih n r (acc++[e]) (by omega) (by simp;omega)
     simpa[rL,E.j7]using this
theorem Jt:∀(k:Nat),k<=300->∀s:List UInt8,s.length<=8000->ap Tryz.prog 92 [.v (.string (mk s)),.v (.int .i64 ((300-k:Nat):Int))] [] (bA (l9 s (rd k s))):=by
 intro k
 induction k with
 |
  zero =>
  intro hk s hs
  refine HS _ _ ?_
  unfold Bi
  refine bY (Cu s hs _ s.length 0 (by omega)) ?_
  simp only[↓zq,zs,ae,zt,aP,bA]
  have hw:(s.takeWhile eV).length<=s.length:=by
   have:=congrArg List.length (List.takeWhile_append_dropWhile (p:=eV) (l:=s))
   simp only[an]at this;omega
  refine⟨fun h=>⟨by omega,by omega,?_⟩,fun h=>?_⟩
  ·have hne:¬s.takeWhile eV=[]:=fun e=>by rw[e]at h;simp at h
   simp only[rd,if_neg hne,l9,E.cu,qW,tO]
  ·have hnil:s.takeWhile eV=[]:=List.eq_nil_of_length_eq_zero (by omega)
   simp only[rd,if_pos hnil,l9]
   refine⟨fun _=>trivial,fun hne=>⟨?_,?_⟩⟩
   ·cases s with
    |nil=>exact absurd rfl hne
    |cons c s=>simp
   ·exact⟨fun _=>trivial,fun _=>⟨fun _=>trivial,fun h=>absurd rfl h⟩⟩
 |
  succ k ih =>
  intro hk s hs
  refine HS _ _ ?_
  unfold Bi
  refine bY (Cu s hs _ s.length 0 (by omega)) ?_
  simp only[↓zq,zs,ae,zt,aP,bA]
  have hw:(s.takeWhile eV).length<=s.length:=by
   have:=congrArg List.length (List.takeWhile_append_dropWhile (p:=eV) (l:=s))
   simp only[an]at this;omega
  refine⟨fun h=>⟨by omega,by omega,?_⟩,fun h=>?_⟩
  ·have hne:¬s.takeWhile eV=[]:=fun e=>by rw[e]at h;simp at h
   simp only[rd,if_neg hne,l9,E.cu,qW,tO]
  ·have hnil:s.takeWhile eV=[]:=List.eq_nil_of_length_eq_zero (by omega)
   simp only[rd,if_pos hnil]
   cases s with
   |nil=>simp[l9]
   |
    cons c s =>
    have hb:=j4 (c::s) 0 (by simp)
    simp only[co,cF]at hb
    simp only[aB]at hs
    simp only[↓zq,zs,ae,hb,wI]
    refine⟨fun h=>(by cases h),fun _=>⟨by omega,fun h40=>?_,fun h40=>⟨fun h300=>?_,fun h300=>⟨by omega,?_⟩⟩⟩⟩
    ·have:¬c.toNat=40:=by omega
     rw[if_neg this];rfl
    ·omega
    ·have h40':c.toNat=40:=by omega
     rw[if_pos h40']
     refine gF (Gj (c::s) k (by omega) (ih (by omega)) (s.length+1) s [] (by omega) (by simp;omega)) (fun ys o e=>?_) (fun ys o e=>?_)
     ·split at e<;>cases e
     ·split at e<;>cases e
      ·rename_i e' r' hr
       simp only[↓zq,zs,ae,cq]
       simp only[hr,l9]
      ·rename_i hr
       simp only[↓zq,zs,ae]
       simp only[hr,l9]
end Go.Proofs.Trees
namespace Go.Proofs.Trees
open Go Go.VL
mutual
def E.sz:E->Nat
 | .atom _=>1
 | .list l=>1+E.gT l
def E.gT:List E->Nat
 |[]=>0
 |e::l=>e.sz+E.gT l
end
mutual
def E.ok:E->Prop
 | .atom s=>s≠[]
 | .list l=>E.zx l
def E.zx:List E->Prop
 |[]=>True
 |e::l=>e.ok/\E.zx l
end
theorem tC(l r:List E):E.gT (l++r)=E.gT l+E.gT r:=by
 induction l with
 |nil=>simp[E.gT]
 |cons e l ih=>simp[E.gT,ih];omega
theorem tR(l r:List E):E.zx (l++r)↔E.zx l/\E.zx r:=by
 induction l with
 |nil=>simp[E.zx]
 |cons e l ih=>simp[E.zx,ih,and_assoc]
theorem xH{f:List UInt8->Option (E×List UInt8)}(hf:∀s e r,f s=some (e,r)->e.ok/\e.sz+r.length<=s.length):∀(n:Nat) (s:List UInt8) (acc:List E) (e:E) (r:List UInt8),rH f n s acc=some (e,r)->E.zx acc->e.ok/\e.sz+r.length<=s.length+1+E.gT acc
 |0,s,acc,e,r,h,_=>by cases h
 |
  n+1,s,acc,e,r,h,ha=>by
  simp only[rH]at h
  split at h
  ·rename_i p c r' hs
   obtain⟨h1,h2⟩:=hf _ _ _ hs
   simp only[aB]at h2
   split at h
   ·cases h
    refine⟨(tR _ _).2 ⟨ha,h1,trivial⟩,?_⟩
    simp only[E.sz,tC,E.gT];omega
   ·split at h
    ·have:=xH hf n _ _ _ _ h ((tR _ _).2 ⟨ha,h1,trivial⟩)
     refine⟨this.1,?_⟩
     have h3:=this.2
     simp only[tC,E.gT]at h3;omega
    ·cases h
  ·cases h
theorem qS(s:List UInt8):(s.takeWhile eV).length+(s.dropWhile eV).length=s.length:=by
 have:=congrArg List.length (List.takeWhile_append_dropWhile (p:=eV) (l:=s))
 simpa only[an]using this
theorem zL:∀(k:Nat) (s:List UInt8) (e:E) (r:List UInt8),rd k s=some (e,r)->e.ok/\e.sz+r.length<=s.length
 |
  0,s,e,r,h=>by
  simp only[rd]at h
  split at h
  ·cases h
  ·rename_i hn;cases h
   have:=qS s
   have:0<(s.takeWhile eV).length:=List.length_pos_iff.2 hn
   exact⟨hn,by simp only[E.sz];omega⟩
 |
  k+1,s,e,r,h=>by
  simp only[rd]at h
  split at h
  ·split at h
   ·split at h
    ·have:=xH (zL k) _ _ _ _ _ h trivial
     refine⟨this.1,?_⟩
     have h3:=this.2
     simp only[E.gT,aB]at h3 |-;omega
    ·cases h
   ·cases h
  ·rename_i hn;cases h
   have:=qS s
   have:0<(s.takeWhile eV).length:=List.length_pos_iff.2 hn
   exact⟨hn,by simp only[E.sz];omega⟩
def pE(s:List UInt8):Option E:=if s.length>8000 then none else match rd 300 s with|some (e,[])=>some e|_=>none
theorem mZ{s:List UInt8}{e:E}(h:pE s=some e):e.ok/\e.sz<=8000:=by
 unfold pE at h
 split at h
 ·cases h
 ·split at h
  ·rename_i e' hr
   cases h
   have:=zL _ _ _ _ hr
   exact⟨this.1,by have:=this.2;simp at this;omega⟩
  ·cases h
def ql:Option E->AV
 |some e=>e.cu
 |none=>.v (.pointer none)
theorem Hk(s:List UInt8):ap Tryz.prog 79 [.v (.string (mk s))] [] (bA (ql (pE s))):=by
 refine IV _ ?_
 simp only[D0,↓zq,zs,ae,zt,bA,pE]
 refine⟨fun h=>?_,fun h=>?_⟩
 ·rw[if_pos (by omega)];simp[ql]
 ·rw[if_neg (by omega)]
  refine al (Jt 300 (by omega) s (by omega)) ?_
  cases hr:rd 300 s with
  |
   none =>
   simp only[l9,↓zq,zs,ae,zt,ql]
   refine⟨fun _=>trivial,fun _=>trivial⟩
  |
   some q =>
   obtain⟨e,r⟩:=q
   cases r with
   |nil=>simp only[l9,↓zq,zs,ae,zt,ql,cq];simp
   |cons c r=>simp only[l9,↓zq,zs,ae,zt,ql,cq];simp
def ga(b:UInt8):Bool:=decide (48<=b.toNat/\b.toNat<=57)
def named(lo hi:Nat):List UInt8->Bool
 |[]=>false
 |c::r=>decide (r.length<=2)&&decide (lo<=c.toNat/\c.toNat<=hi)&&r.all ga
def gh(s:List UInt8):Bool:=named 120 122 s
def cI(s:List UInt8):Bool:=named 116 116 s
def zM(v lo hi:Int):Bool:=decide (lo<=v/\v<=hi)
theorem ye(v lo hi:Int):ap Tryz.prog 37 [.v (.int .i64 v),.v (.int .i64 lo),.v (.int .i64 hi)] [] (bA (.v (.bool (zM v lo hi)))):=by
 refine IJ _ _ _ ?_
 simp only[Fl,↓zq,zs,ae,bA,zM]
 constructor<;>intro h<;>simp at h<;>simp[h]
 omega
theorem Gr(s:List UInt8)(hs:s.length<=3):∀(k i:Nat),i+k=s.length->CC [.v (.string (mk s)),.v (.int .i64 (i:Int))] [] (pj (if(s.drop i).all ga=true then(1,[],[])else(2,[.v (.bool false)],[])))
 |
  0,i,hi=>by
  have hd:s.drop i=[]:=bn (by omega)
  refine Dx _ _ ?_
  simp only[BP,↓zq,zs,ae,zt]
  exact⟨fun h=>by omega,fun _=>by simp[pj,hd]⟩
 |
  k+1,i,hi=>by
  have hlt:i<s.length:=by omega
  have e:s.drop i=s.getD i 0::s.drop (i+1):=by
   rw[aJ hlt];simp[aa,hlt]
  refine Dx _ _ ?_
  simp only[BP,↓zq,zs,ae,zt,j4 s i hlt,e,List.all_cons]
  generalize hb:s.getD i 0=b
  refine⟨fun _=>⟨by omega,fun h=>?_,fun h=>⟨by omega,fun h2=>?_,fun h2=>?_⟩⟩,fun h=>by omega⟩
  ·have:ga b=false:=by simp[ga];omega
   simp only[this,zf,pj]
  ·have:ga b=false:=by simp[ga];omega
   simp only[this,zf,pj]
  ·have:ga b=true:=by simp[ga];omega
   rw[bk i (by omega),this,bN]
   exact Gr s hs k (i+1) (by omega)
theorem G1(s:List UInt8)(lo hi:Nat):ap Tryz.prog 74 [.v (.string (mk s)),.v (.int .u8 (lo:Int)),.v (.int .u8 (hi:Int))] [] (bA (.v (.bool (named lo hi s)))):=by
 refine KF _ _ _ ?_
 unfold F4
 rw[fO]
 refine al (ye _ _ _) ?_
 simp only[↓zq,zs,ae,zt,bA]
 refine⟨fun h=>?_,fun h=>?_⟩
 ·cases s with
  |nil=>rfl
  |
   cons c s =>
   simp[zM]at h
   have:¬s.length<=2:=by omega
   simp[named,this]
 ·cases s with
  |nil=>simp[zM]at h
  |
   cons c s =>
   simp[zM]at h
   have hl:s.length<=2:=by omega
   have hb:=j4 (c::s) 0 (by simp)
   simp only[co,cF]at hb
   simp only[↓zq,zs,ae,hb]
   refine⟨by omega,fun h1=>?_,fun h1=>⟨by omega,fun h2=>?_,fun h2=>?_⟩⟩
   ·have:¬lo<=c.toNat:=by omega
    simp[named,this]
   ·have:¬c.toNat<=hi:=by omega
    simp[named,this]
   ·refine gF (Gr (c::s) (by simp;omega) s.length 1 (by simp;omega)) (fun ys o e=>?_) (fun ys o e=>?_)
    ·split at e<;>cases e
     rename_i ha
     simp at ha
     simp only[↓zq,zs,ae]
     simp[named,hl]
     exact⟨⟨by omega,by omega⟩,fun x hx=>by simpa using ha x hx⟩
    ·split at e<;>cases e
     rename_i ha
     simp only[↓zq,zs,ae]
     have:s.all ga=false:=by simpa using ha
     simp[named,this]
theorem Cs(s:List UInt8):ap Tryz.prog 68 [.v (.string (mk s))] [] (bA (.v (.bool (gh s)))):=by
 refine Ja _ ?_
 unfold G9
 refine al (G1 s 120 122) ?_
 simp only[↓zq,zs,ae,bA,gh]
theorem Af(s:List UInt8):ap Tryz.prog 44 [.v (.string (mk s))] [] (bA (.v (.bool (cI s)))):=by
 refine Kr _ ?_
 unfold EX
 refine al (G1 s 116 116) ?_
 simp only[↓zq,zs,ae,bA,cI]
end Go.Proofs.Trees
namespace Go.Proofs.Trees
open Go Go.VL Go.RowKit
theorem J7(l:List UInt8)(c:UInt8):ap Tryz.prog 111 [.v (.string (mk l)),.v (.string (mk [c]))] [] (bA (.v (.bool (decide (0<=Lib.indexByte l c))))):=by
 refine ap.K5 (xs:=[.string (mk l),.string (mk [c])]) ⟨lc,by kernel_rfl,by kernel_rfl,by kernel_rfl⟩ fun w=>?_
 have:=Any.strings_Contains_one Tryz.yo (mk l) c w
 refine Calls.mono this fun e w' ⟨h1,h2⟩=>?_
 rw[h2]
 have hd:(mk l).data.toList=l:=by simp[mk]
 exact⟨by rw[h1,hd],Below.refl _ _⟩
theorem D2(l cs:List UInt8)(hl:l.length<=1000000)(hc:cs.length<=1000)(ha:∀b,b∈cs->b.toNat<128):ap Tryz.prog 104 [.v (.string (mk l)),.v (.string (mk cs))] [] (bA (.v (.string (mk (Lib.trimS l cs))))):=by
 refine ap.K5 (xs:=[.string (mk l),.string (mk cs)]) ⟨nN,by kernel_rfl,by kernel_rfl,by kernel_rfl⟩ fun w=>?_
 have:=Any.strings_Trim_laid Tryz.yl (by kernel_rfl) (mk l) (mk cs) w (by rw[fO];omega) (by rw[fO];omega) (fun j b hj=>ha b (by
  have:(mk cs).data.toList=cs:=by simp[mk]
  rw[this]at hj
  exact List.mem_of_getElem? hj))
 refine Calls.mono this fun e w' ⟨h1,h2⟩=>⟨?_,h2⟩
 rw[h1]
 simp[mk]
theorem lj:∀(l:List UInt8) (c:UInt8),(0<=Lib.indexByte l c↔c∈l)/\-1<=Lib.indexByte l c
 |[],c=>by simp[Lib.indexByte]
 |
  b::l,c=>by
  obtain⟨h1,h2⟩:=lj l c
  unfold Lib.indexByte
  by_cases e:b=c
  ·subst e;simp
  ·have e':(b==c)=false:=by simp[e]
   rw[e']
   by_cases q:Lib.indexByte l c = -1
   ·have:c∉l:=fun h=>by have:=h1.2 h;omega
    simp[q,this,Ne.symm e]
   ·have q':(Lib.indexByte l c==-1)=false:=by simp[q]
    simp only[q',Bool.false_eq_true,if_false,aF]
    constructor
    ·constructor
     ·intro h;exact .inr (h1.1 (by omega))
     ·intro h
      rcases h with h|h
      ·exact absurd h.symm e
      ·have:=h1.2 h;omega
    ·omega
theorem dropWhile_nil{p:UInt8->Bool}:∀(l:List UInt8),l.dropWhile p=[]↔l.all p=true
 |[]=>by simp
 |
  b::l=>by
  cases h:p b with
  |true=>rw[List.dropWhile_cons_of_pos h,dropWhile_nil l];simp[h]
  |false=>rw[List.dropWhile_cons_of_neg (by rw[h];simp)];simp[h]
theorem pO(l cs:List UInt8):Lib.trimS l cs=[]↔l.all (cs.contains ·)=true:=by
 unfold Lib.trimS Lib.trimLeftS
 rw[dropWhile_nil]
 unfold Lib.trimRightS
 constructor
 ·intro h
  by_cases hn:l.reverse.dropWhile (cs.contains ·)=[]
  ·rw[dropWhile_nil]at hn
   simpa using hn
  ·exfalso
   rw[List.all_reverse]at h
   obtain⟨b,r,e⟩:=List.exists_cons_of_ne_nil hn
   have h1:cs.contains b=false:=by
    have:=List.head_dropWhile_not (p:=(cs.contains ·)) (l:=l.reverse) hn
    simp only[e,List.head_cons]at this
    exact this
   rw[e]at h
   simp only[List.all_cons,aq]at h
   rw[h1]at h;cases h.1
 ·intro h
  have:l.reverse.dropWhile (cs.contains ·)=[]:=by rw[dropWhile_nil];simpa using h
  rw[this];rfl
def Ca:List UInt8:=[48,49,50,51,52,53,54,55,56,57]
theorem ru(b:UInt8):Ca.contains b=ga b:=by
 have:∀n:Fin 256,Ca.contains (aY n.val)=ga (aY n.val):=by decide +kernel
 have:=this ⟨b.toNat,b.toNat_lt⟩
 simpa using this
theorem DP(s ls:List UInt8)(lo hi:Nat)(hls:∀c:UInt8,c∈ls↔lo<=c.toNat/\c.toNat<=hi):ap Tryz.prog 102 [.v (.string (mk s)),.v (.string (mk ls))] [] (bA (.v (.bool (named lo hi s)))):=by
 refine Jx _ _ ?_
 simp only[F7,↓zq,zs,ae,zt,bA]
 cases s with
 |nil=>exact⟨fun h=>by simp at h,fun _=>rfl⟩
 |
  cons c s =>
  have e1:(List.take (bB 1) (c::s))=[c]:=rfl
  have e2:(List.take (s.length+1) (c::s)).drop (bB 1)=s:=by simp
  simp only[aB,e1,e2]
  refine⟨fun _=>⟨fun h3=>⟨by omega,?_⟩,fun h3=>?_⟩,fun h=>by omega⟩
  ·have hl:s.length<=2:=by omega
   refine al (J7 ls c) ?_
   simp only[↓zq,zs,ae]
   have hi1:=(lj ls c).1
   refine⟨fun h=>⟨by omega,?_⟩,fun h=>?_⟩
   ·refine al (D2 s Ca (by omega) (by decide) (by decide)) ?_
    simp only[↓zq,zs,ae,zt]
    have hc:=(hls c).1 (hi1.1 h)
    congr 2
    rw[bV,beq_iff_eq,pO]
    simp only[named,hl,hc,decide_true,bN,and_self]
    have:(fun x=>Ca.contains x)=ga:=funext ru
    rw[this]
   ·have hc:¬(lo<=c.toNat/\c.toNat<=hi):=fun h'=>h (hi1.2 ((hls c).2 h'))
    simp only[named,hc,zf]
  ·have hl:¬s.length<=2:=by omega
   simp only[named,hl,zf]
theorem Fa(s:List UInt8):ap Tryz.prog 97 [.v (.string (mk s))] [] (bA (.v (.bool (gh s)))):=by
 refine KX _ ?_
 unfold EM
 have h:∀n:Fin 256,(aY n.val∈[(120:UInt8),121,122])↔120<=(aY n.val).toNat/\(aY n.val).toNat<=122:=by decide +kernel
 refine al (DP s [120,121,122] 120 122 fun c=>by simpa using h ⟨c.toNat,c.toNat_lt⟩) ?_
 simp only[↓zq,zs,ae,bA,gh]
theorem xT(s:List UInt8):ap Tryz.prog 91 [.v (.string (mk s))] [] (bA (.v (.bool (cI s)))):=by
 refine KD _ ?_
 unfold Hw
 have h:∀n:Fin 256,(aY n.val∈[(116:UInt8)])↔116<=(aY n.val).toNat/\(aY n.val).toNat<=116:=by decide +kernel
 refine al (DP s [116] 116 116 fun c=>by simpa using h ⟨c.toNat,c.toNat_lt⟩) ?_
 simp only[↓zq,zs,ae,bA,cI]
end Go.Proofs.Trees
namespace Go.Proofs.Trees
open Go Go.VL
inductive Ty where
 |zero|one
 |name (s:List UInt8)
 |cX (up:Nat)
 |plus (a b:Ty)
 |times (a b:Ty)
 |rc (a:Ty)
def Ty.av:Ty->AV
 | .zero=>.ptr [.v (.int .u8 48),.v (.string (mk [])),.v (.int .i64 0),.v (.pointer none),.v (.pointer none)]
 | .one=>.ptr [.v (.int .u8 49),.v (.string (mk [])),.v (.int .i64 0),.v (.pointer none),.v (.pointer none)]
 | .name s=>.ptr [.v (.int .u8 110),.v (.string (mk s)),.v (.int .i64 0),.v (.pointer none),.v (.pointer none)]
 | .cX up=>.ptr [.v (.int .u8 98),.v (.string (mk [])),.v (.int .i64 (up:Int)),.v (.pointer none),.v (.pointer none)]
 | .plus a b=>.ptr [.v (.int .u8 43),.v (.string (mk [])),.v (.int .i64 0),a.av,b.av]
 | .times a b=>.ptr [.v (.int .u8 42),.v (.string (mk [])),.v (.int .i64 0),a.av,b.av]
 | .rc a=>.ptr [.v (.int .u8 114),.v (.string (mk [])),.v (.int .i64 0),a.av,.v (.pointer none)]
theorem bb(t:Ty):LK.has .ptr t.av=True:=by cases t<;>simp[Ty.av,du]
theorem eS(t:Ty):t.av.isNil=false:=by cases t<;>rfl
def gK:Option Ty->AV
 |some t=>t.av
 |none=>.v (.pointer none)
theorem i6(t:Option Ty):LK.has .ptr (gK t)=True:=by cases t<;>simp[gK,bb,jK]
def E.at:E->List UInt8
 | .atom s=>s
 | .list _=>[]
def bq(s:List UInt8)(ar:List (List UInt8)):Nat->Option Nat
 |0=>none
 |i+1=>if ar.getD i []=s then some (ar.length-1-i)else bq s ar i
def cv:E->List (List UInt8)->Option Ty
 | .atom s,ar=>if s=[48]then some .zero else if s=[49]then some .one else if gh s=true then some (.name s)else if cI s=true then(match bq s ar ar.length with|some u=>some (.cX u)|none=>some (.name s))else none
 |
  .list [x,a,b],ar =>
  if x.at=[43]then(match cv a ar,cv b ar with|some t,some u=>some (.plus t u)|_,_=>none)
  else if x.at=[42]then(match cv a ar,cv b ar with|some t,some u=>some (.times t u)|_,_=>none)
  else if x.at=[114,101,99]then(if cI a.at=true then(match cv b (ar++[a.at])with|some t=>some (.rc t)|none=>none)else none)
  else none
 | .list _,_=>none
def bX(l:List (List UInt8)):List (List AV):=l.map fun s=>[.v (.string (mk s))]
def dD(a:AV)(l:List (List UInt8)):Prop:=LK.sl.has a/\a.aO=bX l
theorem dD.len{a:AV}{l:List (List UInt8)}(h:dD a l):a.aO.length=l.length:=by rw[h.2];simp[bX]
theorem dD.idx{a:AV}{l:List (List UInt8)}(h:dD a l){i:Nat}(hi:i<l.length):a.aO.getD i []=[.v (.string (mk (l.getD i [])))]:=by
 rw[h.2];simp[bX,aa,hi]
theorem dD.of(l:List (List UInt8)):dD (.sl (bX l)) l:=⟨(ca _).mpr trivial,rfl⟩
theorem dD.nil:dD (.v (.slice none 0 0)) []:=⟨(bi).mpr trivial,rfl⟩
theorem uE(e:E)(w:List UInt8):ap Tryz.prog 94 [e.cu,.v (.string (mk w)),.v (.int .i64 3)] [] (bA (.v (.bool (match e with| .list [x,_,_]=>x.at==w|_=>false)))):=by
 refine GZ _ _ _ ((cq e).mpr trivial) ?_
 cases e with
 |atom s=>simp only[wC,E.cu,↓zq,zs,ae,zt,bA];exact⟨by omega,fun h=>by omega,fun _=>trivial⟩
 |
  list l =>
  simp only[wC,E.cu,↓zq,zs,ae,zt,bA,oK]
  match l with
  |[]=>exact⟨by simp,fun h=>by simp at h,fun _=>rfl⟩
  |[_]=>exact⟨by simp,fun h=>by simp at h,fun _=>rfl⟩
  |[_,_]=>exact⟨by simp,fun h=>by simp at h,fun _=>rfl⟩
  |
   [x,y,z] =>
   refine⟨by simp,fun _=>?_,fun h=>by simp at h⟩
   cases x<;>simp[E.j7,E.cu,du,mQ,ib,dV,qJ,toList_mk,E.at]
  |_::_::_::_::l=>exact⟨by simp,fun h=>by simp at h;omega,fun _=>rfl⟩
theorem F2(e:E)(a:AV)(ar:List (List UInt8))(ha:dD a ar)(hl:ar.length<1000000):∀(i:Nat),i<=ar.length->Cr [e.cu,a,.v (.int .i64 ((i:Int)-1))] []
 (pj (match bq e.at ar i with|some u=>(2,[],[.cells [.v (.int .u8 98),.v (.string (mk [])),.v (.int .i64 (u:Int)),.v (.pointer none),.v (.pointer none)]])|none=>(1,[e.cu],[])))
 |
  0,hi=>by
  refine Gy _ _ _ ?_
  simp only[Cb,↓zq,zs,ae,cq]
  exact⟨ha.1,fun h=>by omega,fun _=>rfl⟩
 |
  i+1,hi=>by
  have hlt:i<ar.length:=by omega
  have e1:((i+1:Nat):Int)-1=(i:Int):=by omega
  rw[e1]
  refine Gy _ _ _ ?_
  have hd:e.cu.deref.headD .any=.v (.string (mk e.at)):=by cases e<;>rfl
  have hdl:1<=e.cu.deref.length:=by cases e<;>simp[E.cu,ib]
  simp only[Cb,↓zq,zs,ae,zt,cq,dm,ha.len,ha.idx hlt,hd,ot]
  refine⟨ha.1,fun _=>⟨⟨ha.1,by omega,by omega⟩,by omega,hdl,fun h=>⟨ha.1,?_⟩,fun h=>?_⟩,fun h=>by omega⟩
  ·simp only[bq,h,if_true,pj]
   rw[wrap64 ((ar.length:Int)-1) (by omega) (by omega),wrap64 _ (by omega) (by omega)]
   have:(ar.length:Int)-1-(i:Int)=((ar.length-1-i:Nat):Int):=by omega
   rw[this]
  ·simp only[bq,h,if_false]
   rw[wrap64 _ (by omega) (by omega)]
   exact F2 e a ar ha hl i (by omega)
end Go.Proofs.Trees
namespace Go.Proofs.Trees
open Go Go.VL
theorem lC(e:E):e.cu.deref.headD .any=.v (.string (mk e.at)):=by cases e<;>rfl
theorem jH(e:E):1<=e.cu.deref.length:=by cases e<;>simp[E.cu,ib]
theorem toNat_one:bB 1=1:=rfl
theorem bf:bB 2=2:=rfl
theorem xG{ar:List (List UInt8)}(s:List UInt8):bX ar++[[.v (.string (mk s))]]=bX (ar++[s]):=by simp[bX]
theorem ky(ar:List (List UInt8)):bU 1 (bX ar):=fun c hc=>by
 obtain⟨s,_,rfl⟩:=bT.1 hc;rfl
theorem jf{x a b:E}(ar:List (List UInt8))(hx:x.at=[43]):cv (.list [x,a,b]) ar=match cv a ar,cv b ar with|some t,some u=>some (.plus t u)|_,_=>none:=by rw[cv,if_pos hx]<;>cases cv a ar<;>cases cv b ar<;>rfl
theorem im{x a b:E}(ar:List (List UInt8))(hx:x.at=[42]):cv (.list [x,a,b]) ar=match cv a ar,cv b ar with|some t,some u=>some (.times t u)|_,_=>none:=by rw[cv,if_neg (by rw[hx];decide),if_pos hx]<;>cases cv a ar<;>cases cv b ar<;>rfl
theorem kF{x a b:E}(ar:List (List UInt8))(hx:x.at=[114,101,99]):cv (.list [x,a,b]) ar=if cI a.at=true then(match cv b (ar++[a.at])with|some t=>some (.rc t)|none=>none)else none:=by rw[cv,if_neg (by rw[hx];decide),if_neg (by rw[hx];decide),if_pos hx]<;>cases cv b (ar++[a.at])<;>rfl
theorem hD{x a b:E}(ar:List (List UInt8))(h1:x.at≠[43])(h2:x.at≠[42])(h3:x.at≠[114,101,99]):cv (.list [x,a,b]) ar=none:=by rw[cv,if_neg h1,if_neg h2,if_neg h3]
theorem zc:∀(e:E) (ar:List (List UInt8)) (a:AV),e.ok->dD a ar->ar.length+e.sz<100000->ap Tryz.prog 87 [e.cu,a] [] (bA (gK (cv e ar)))
 |
  .atom s,ar,a,hok,ha,hl=>by
  simp only[E.sz]at hl
  refine Gk _ _ ((cq _).mpr trivial) ha.1 ?_
  have hd:=lC (.atom s)
  have hlen:=jH (.atom s)
  simp only[E.at]at hd
  simp only[AO,↓zq,zs,ae,zt,bA,cq,dm,hd,cv]
  refine⟨hlen,fun h=>⟨hlen,?_,?_⟩,fun h=>⟨hlen,fun h1=>⟨hlen,?_,?_⟩,fun h1=>⟨hlen,?_⟩⟩⟩
  ·rw[h];decide
  ·rw[if_pos h,h];rfl
  ·rw[h1];decide
  ·rw[if_neg h,if_pos h1,h1];rfl
  ·rw[if_neg h,if_neg h1]
   refine al (Fa s) ?_
   simp only[↓zq,zs,ae]
   refine⟨fun hp=>⟨hlen,?_⟩,fun hp=>⟨hlen,?_⟩⟩
   ·rw[if_pos hp];rfl
   ·rw[if_neg (by rw[hp];simp)]
    refine al (xT s) ?_
    simp only[↓zq,zs,ae,ha.len]
    refine⟨fun hq=>⟨ha.1,?_⟩,fun hq=>?_⟩
    ·rw[if_pos hq,wrap64 _ (by omega) (by omega)]
     refine gF (F2 (.atom s) a ar ha (by omega) ar.length (by omega)) (fun ys o e=>?_) (fun ys o e=>?_)
     ·simp only[E.at]at e
      cases hq2:bq s ar ar.length<;>rw[hq2]at e<;>cases e
      simp only[↓zq,zs,ae,zt,cq,dm,hd]
      exact⟨hlen,rfl⟩
     ·simp only[E.at]at e
      cases hq2:bq s ar ar.length<;>rw[hq2]at e<;>cases e
      simp only[↓zq,zs,ae,zt,LK.has]
      simp[gK,Ty.av,ae,LK.has]
    ·rw[if_neg (by rw[hq];simp)]
     refine al (uE (.atom s) [43]) ?_
     simp only[↓zq,zs,ae]
     refine⟨fun h=>(by simp at h),fun _=>?_⟩
     refine al (uE (.atom s) [42]) ?_
     simp only[↓zq,zs,ae]
     refine⟨fun h=>(by simp at h),fun _=>?_⟩
     refine al (uE (.atom s) [114,101,99]) ?_
     simp only[↓zq,zs,ae]
     refine⟨fun h=>(by simp at h),fun _=>?_⟩
     trivial
 |
  .list l,ar,a,hok,ha,hl=>by
  simp only[E.sz]at hl
  refine Gk _ _ ((cq _).mpr trivial) ha.1 ?_
  have hd:=lC (.list l)
  have hlen:=jH (.list l)
  simp only[E.at]at hd
  have hp:gh []=false:=rfl
  have hq:cI []=false:=rfl
  simp only[AO,↓zq,zs,ae,zt,bA,cq,dm,hd]
  refine⟨hlen,fun h=>(by simp at h),fun h=>⟨hlen,fun h1=>(by simp at h1),fun h1=>⟨hlen,?_⟩⟩⟩
  refine al (Fa []) ?_
  simp only[↓zq,zs,ae,hp]
  refine⟨fun h=>(by simp at h),fun _=>⟨hlen,?_⟩⟩
  refine al (xT []) ?_
  simp only[↓zq,zs,ae,hq]
  refine⟨fun h=>(by simp at h),fun _=>?_⟩
  refine al (uE (.list l) [43]) ?_
  match l,hok,hl with
  |
   [x,y,z],hok,hl =>
   simp only[E.gT]at hl
   obtain⟨ok1,ok2,ok3,_⟩:=hok
   have iy:=zc y ar a ok2 ha (by omega)
   have iz:=zc z ar a ok3 ha (by omega)
   have hds:((E.list [x,y,z]).cu.deref.drop 1).headD .any=.sl [[x.cu],[y.cu],[z.cu]]:=rfl
   have hdl:1<=((E.list [x,y,z]).cu.deref.drop 1).length:=by simp[E.cu,ib]
   have hxd:=lC x
   have hxl:=jH x
   have hyd:=lC y
   have hyl:=jH y
   have bin:∀(c:UInt8) (mkT:Ty->Ty->Ty),(∀t u:Ty,(mkT t u).av=.ptr [.v (.int .u8 (c.toNat:Int)),.v (.string (mk [])),.v (.int .i64 0),t.av,u.av])->x.at=[c]->bt (mk x.at) 0=(c.toNat:Int):=fun c _ _ hx=>by
    have:=j4 x.at 0 (by rw[hx];simp)
    simp only[co,cF]at this
    rw[this,hx];rfl
   simp only[↓zq,zs,ae,zt,hds,hdl,cq,dm,toNat_one,bf,hxd,hyd,ot]
   refine⟨fun hx=>?_,fun hx=>?_⟩
   ·refine⟨by omega,by omega,?_⟩
    refine al iy ?_
    simp only[↓zq,zs,ae,i6]
    refine⟨by omega,by omega,?_⟩
    refine al iz ?_
    have hb:=bin 43 Ty.plus (fun _ _=>rfl) hx
    rw[jf ar hx]
    simp only[↓zq,zs,ae,zt,i6]
    cases h1:cv y ar with
    |none=>simp[gK,hJ]
    |
     some t =>
     cases h2:cv z ar with
     |none=>simp[gK,hJ,eS]
     |
      some u =>
      simp only[gK,eS,hb]
      refine⟨fun h=>(by cases h),fun _=>⟨fun h=>(by cases h),fun _=>⟨by omega,by omega,hxl,⟨by omega,by rw[hx];simp⟩,rfl⟩⟩⟩
   ·refine al (uE (.list [x,y,z]) [42]) ?_
    simp only[↓zq,zs,ae,hds,hdl,cq,dm,toNat_one,bf,hxd,hyd,ot]
    refine⟨fun hx2=>?_,fun hx2=>?_⟩
    ·refine⟨by omega,by omega,?_⟩
     refine al iy ?_
     simp only[↓zq,zs,ae,i6]
     refine⟨by omega,by omega,?_⟩
     refine al iz ?_
     have hb:=bin 42 Ty.times (fun _ _=>rfl) hx2
     rw[im ar hx2]
     simp only[↓zq,zs,ae,zt,i6]
     cases h1:cv y ar with
     |none=>simp[gK,hJ]
     |
      some t =>
      cases h2:cv z ar with
      |none=>simp[gK,hJ,eS]
      |
       some u =>
       simp only[gK,eS,hb]
       refine⟨fun h=>(by cases h),fun _=>⟨fun h=>(by cases h),fun _=>⟨by omega,by omega,hxl,⟨by omega,by rw[hx2];simp⟩,rfl⟩⟩⟩
    ·refine al (uE (.list [x,y,z]) [114,101,99]) ?_
     simp only[↓zq,zs,ae,zt,hds,hdl,cq,dm,toNat_one,bf,hxd,hyd,ot]
     refine⟨fun hx3=>⟨by omega,by omega,hyl,?_⟩,fun hx3=>?_⟩
     ·refine al (xT y.at) ?_
      rw[kF ar hx3]
      simp only[↓zq,zs,ae]
      have hal:bU 1 a.aO:=by rw[ha.2];exact ky ar
      have hal1:bU 1 [[AV.v (.string (mk y.at))]]:=fun c hc=>by simp at hc;rw[hc];rfl
      refine⟨fun hlo=>⟨by omega,by omega,⟨ha.1,hal,by rw[ha.len];omega⟩,by omega,by omega,hyl,⟨hal1,by rw[bz,ha.len];omega⟩,?_⟩,fun hlo=>?_⟩
      ·rw[bz,ha.2,xG,if_pos hlo]
       refine al (zc z (ar++[y.at]) _ ok3 (.of _) (by simp;omega)) ?_
       simp only[↓zq,zs,ae,i6]
       cases h2:cv z (ar++[y.at])with
       |none=>simp[gK,hJ]
       |
        some u =>
        simp only[gK,eS]
        refine⟨fun h=>(by cases h),fun _=>rfl⟩
      ·rw[if_neg (by rw[hlo];simp)];rfl
     ·rw[hD ar hx hx2 hx3];rfl
  |
   [],_,_ =>
   simp only[↓zq,zs,ae]
   refine⟨fun h=>(by cases h),fun _=>?_⟩
   refine al (uE (.list []) [42]) ?_
   simp only[↓zq,zs,ae]
   refine⟨fun h=>(by cases h),fun _=>?_⟩
   refine al (uE (.list []) [114,101,99]) ?_
   simp only[↓zq,zs,ae]
   refine⟨fun h=>(by cases h),fun _=>?_⟩
   rfl
  |
   [x1],_,_ =>
   simp only[↓zq,zs,ae]
   refine⟨fun h=>(by cases h),fun _=>?_⟩
   refine al (uE (.list [x1]) [42]) ?_
   simp only[↓zq,zs,ae]
   refine⟨fun h=>(by cases h),fun _=>?_⟩
   refine al (uE (.list [x1]) [114,101,99]) ?_
   simp only[↓zq,zs,ae]
   refine⟨fun h=>(by cases h),fun _=>?_⟩
   rfl
  |
   [x1,x2],_,_ =>
   simp only[↓zq,zs,ae]
   refine⟨fun h=>(by cases h),fun _=>?_⟩
   refine al (uE (.list [x1,x2]) [42]) ?_
   simp only[↓zq,zs,ae]
   refine⟨fun h=>(by cases h),fun _=>?_⟩
   refine al (uE (.list [x1,x2]) [114,101,99]) ?_
   simp only[↓zq,zs,ae]
   refine⟨fun h=>(by cases h),fun _=>?_⟩
   rfl
  |
   x1::x2::x3::x4::l,_,_ =>
   simp only[↓zq,zs,ae]
   refine⟨fun h=>(by cases h),fun _=>?_⟩
   refine al (uE (.list (x1::x2::x3::x4::l)) [42]) ?_
   simp only[↓zq,zs,ae]
   refine⟨fun h=>(by cases h),fun _=>?_⟩
   refine al (uE (.list (x1::x2::x3::x4::l)) [114,101,99]) ?_
   simp only[↓zq,zs,ae]
   refine⟨fun h=>(by cases h),fun _=>?_⟩
   rfl
end Go.Proofs.Trees
namespace Go.Proofs.Trees
open Go Go.VL
def cP(v:AV)(obs:List Ob):AV->List Ob->Prop:=fun r o=>r=v/\o=obs
theorem bx{P:Program}{n:Nat}{Q:Nat->List AV->List Ob->Prop}{f:Nat}{xs:List AV}{ins:List Ob}{k:AV->List Ob->Tree}{v:AV}{obs:List Ob}(h:ap P f xs ins (cP v obs))(hk:dM P n (k v obs) Q):dM P n (.call f xs ins k) Q :=
 ⟨cP v obs,h,⟨v,obs,rfl,rfl⟩,fun r o ⟨h1,h2⟩=>by rw[h1,h2];exact hk⟩
def Ty.aZ:Ty->Nat
 | .plus a b=>1+a.aZ+b.aZ
 | .times a b=>1+a.aZ+b.aZ
 | .rc a=>2+a.aZ
 |_=>1
theorem Dg:∀(t:Ty),t.aZ<1000000->ap Tryz.prog 88 [t.av] [] (bA (.v (.int .i64 (t.aZ:Int))))
 | .zero,h=>by refine CJ _ ((bb _).mpr trivial) ?_;simp[zP,Ty.av,↓zq,zs,ae,bA,Ty.aZ]
 | .one,h=>by refine CJ _ ((bb _).mpr trivial) ?_;simp[zP,Ty.av,↓zq,zs,ae,bA,Ty.aZ]
 | .name s,h=>by refine CJ _ ((bb _).mpr trivial) ?_;simp[zP,Ty.av,↓zq,zs,ae,bA,Ty.aZ]
 | .cX u,h=>by refine CJ _ ((bb _).mpr trivial) ?_;simp[zP,Ty.av,↓zq,zs,ae,bA,Ty.aZ]
 |
  .plus a b,h=>by
  simp only[Ty.aZ]at h
  refine CJ _ ((bb _).mpr trivial) ?_
  simp only[zP,Ty.av,↓zq,zs,ae,bb]
  refine⟨by omega,fun _=>⟨by omega,?_⟩,fun h=>absurd rfl h⟩
  refine al (Dg a (by omega)) ?_
  simp only[↓zq,zs,ae,bb]
  refine⟨by omega,?_⟩
  refine al (Dg b (by omega)) ?_
  simp only[↓zq,zs,ae,bA,Ty.aZ]
  rw[wrap64 (1+(a.aZ:Int)) (by omega) (by omega),wrap64 _ (by omega) (by omega)]
  congr 2
 |
  .times a b,h=>by
  simp only[Ty.aZ]at h
  refine CJ _ ((bb _).mpr trivial) ?_
  simp only[zP,Ty.av,↓zq,zs,ae,bb]
  refine⟨by omega,fun h=>by omega,fun _=>⟨fun _=>⟨by omega,?_⟩,fun h=>absurd rfl h⟩⟩
  refine al (Dg a (by omega)) ?_
  simp only[↓zq,zs,ae,bb]
  refine⟨by omega,?_⟩
  refine al (Dg b (by omega)) ?_
  simp only[↓zq,zs,ae,bA,Ty.aZ]
  rw[wrap64 (1+(a.aZ:Int)) (by omega) (by omega),wrap64 _ (by omega) (by omega)]
  congr 2
 |
  .rc a,h=>by
  simp only[Ty.aZ]at h
  refine CJ _ ((bb _).mpr trivial) ?_
  simp only[zP,Ty.av,↓zq,zs,ae,bb]
  refine⟨by omega,fun h=>by omega,fun _=>⟨fun h=>by omega,fun _=>⟨fun _=>⟨by omega,?_⟩,fun h=>absurd rfl h⟩⟩⟩
  refine al (Dg a (by omega)) ?_
  simp only[↓zq,zs,ae,bA,Ty.aZ]
  rw[wrap64 _ (by omega) (by omega)]
  congr 2
theorem gr:∀(e:E) (ar:List (List UInt8)) (t:Ty),cv e ar=some t->t.aZ<=e.sz
 |
  .atom s,ar,t,h=>by
  simp only[cv]at h
  simp only[E.sz]
  split at h
  ·cases h;simp[Ty.aZ]
  ·split at h
   ·cases h;simp[Ty.aZ]
   ·split at h
    ·cases h;simp[Ty.aZ]
    ·split at h
     ·split at h<;>cases h<;>simp[Ty.aZ]
     ·cases h
 |
  .list [x,a,b],ar,t,h=>by
  have hs:∀e:E,1<=e.sz:=fun e=>by cases e<;>simp[E.sz];try omega
  have hx:=hs x
  have ha:=hs a
  simp only[E.sz,E.gT]
  by_cases h1:x.at=[43]
  ·rw[jf ar h1]at h
   split at h
   ·rename_i t1 t2 e1 e2
    cases h
    have:=gr a ar t1 e1
    have:=gr b ar t2 e2
    simp only[Ty.aZ];omega
   ·cases h
  ·by_cases h2:x.at=[42]
   ·rw[im ar h2]at h
    split at h
    ·rename_i t1 t2 e1 e2
     cases h
     have:=gr a ar t1 e1
     have:=gr b ar t2 e2
     simp only[Ty.aZ];omega
    ·cases h
   ·by_cases h3:x.at=[114,101,99]
    ·rw[kF ar h3]at h
     split at h
     ·split at h
      ·rename_i t1 e1
       cases h
       have:=gr b _ t1 e1
       simp only[Ty.aZ];omega
      ·cases h
     ·cases h
    ·rw[hD ar h1 h2 h3]at h;cases h
 | .list [],_,_,h=>by cases h
 | .list [_],_,_,h=>by cases h
 | .list [_,_],_,_,h=>by cases h
 | .list (_::_::_::_::_),_,_,h=>by cases h
def zW(s:List UInt8):Option Ty:=match pE s with
 |none=>none
 |
  some e=>match cv e []with
  |none=>none
  |some t=>if t.aZ>400 then none else some t
theorem Jr(s:List UInt8):ap Tryz.prog 77 [.v (.string (mk s))] [] (bA (gK (zW s))):=by
 refine KQ _ ?_
 unfold ES
 refine al (Hk s) ?_
 unfold zW
 cases he:pE s with
 |none=>simp only[ql,↓zq,zs,ae,bA,gK];simp
 |
  some e =>
  obtain⟨h1,h2⟩:=mZ he
  simp only[ql,↓zq,zs,ae,cq,dm]
  refine⟨fun h=>(by cases h),fun _=>?_⟩
  refine al (zc e [] _ h1 .nil (by simp;omega)) ?_
  cases ht:cv e []with
  |none=>simp only[gK,↓zq,zs,ae,bA];simp
  |
   some t =>
   have:=gr e [] t ht
   simp only[gK,↓zq,zs,ae,bb,eS]
   refine⟨fun h=>(by cases h),fun _=>?_⟩
   refine al (Dg t (by omega)) ?_
   simp only[↓zq,zs,ae,bA]
   refine⟨fun h=>?_,fun h=>?_⟩
   ·rw[if_pos (by omega)]
   ·rw[if_neg (by omega)]
end Go.Proofs.Trees
namespace Go.Proofs.Trees
open Go Go.VL
def xM(p:Prop):Nat->List AV->List Ob->Prop:=fun t ys o=>(t=1/\¬p/\ys=[]/\o=[])\/(t=2/\p/\∃j:Nat,ys=[.v (.int .i64 (j:Int))]/\o=[])
theorem GP(l:List (List UInt8))(a:AV)(ha:dD a l)(s:List UInt8)(hl:l.length<1000000):∀(k i:Nat),i+k=l.length->s∉l.take i->Cv [a,.v (.string (mk s)),.v (.int .i64 (l.length:Int)),.v (.int .i64 (i:Int))] []
 (xM (s∈l))
 |
  0,i,hi,hn=>by
  refine E1 _ _ _ _ ?_
  simp only[Ch,↓zq,zs,ae]
  have:l.take i=l:=List.take_of_length_le (by omega)
  rw[this]at hn
  exact⟨ha.1,fun h=>by omega,fun _=>.inl ⟨rfl,hn,rfl,rfl⟩⟩
 |
  k+1,i,hi,hn=>by
  have hlt:i<l.length:=by omega
  refine E1 _ _ _ _ ?_
  simp only[Ch,↓zq,zs,ae,zt,ha.len,ha.idx hlt]
  have hm:l.getD i []∈l:=by simp[aa,hlt]
  refine⟨ha.1,fun _=>⟨⟨ha.1,by omega,by omega⟩,by omega,fun h=>?_,fun h=>?_⟩,fun h=>by omega⟩
  ·exact .inr ⟨rfl,by rw[h];exact hm,i,rfl,rfl⟩
  ·rw[bk i (by omega)]
   refine GP l a ha s hl k (i+1) (by omega) ?_
   rw[List.take_add_one]
   simp only[aL,not_or]
   refine⟨hn,?_⟩
   have:l[i]?=some (l.getD i []):=by simp[aa,hlt]
   rw[this];simpa using h
theorem I1(l:List (List UInt8))(a:AV)(ha:dD a l)(s:List UInt8)(hl:l.length<1000000):ap Tryz.prog 101 [a,.v (.string (mk s))] [] (bA (.v (.bool (decide (s∈l))))):=by
 have hI:ap Tryz.prog 110 [a,.v (.string (mk s))] [] (fun r o=>∃n:Int,r=.v (.int .i64 n)/\(0<=n↔s∈l)/\o=[]):=by
  refine JG _ _ ha.1 ?_
  simp only[EF,↓zq,zs,ae,ha.len]
  refine⟨ha.1,lQ (GP l a ha s hl l.length 0 (by omega) (by simp)) ?_ ?_⟩
  ·rintro ys o (⟨_,h1,rfl,rfl⟩|⟨h,_⟩)
   ·simp only[↓zq,zs,ae]
    exact⟨-1,rfl,⟨fun h=>(by omega),fun h=>absurd h h1⟩⟩
   ·cases h
  ·rintro ys o (⟨h,_⟩|⟨_,h1,j,rfl,rfl⟩)
   ·cases h
   ·simp only[↓zq,zs,ae]
    exact⟨j,rfl,⟨fun _=>h1,fun _=>(by omega)⟩⟩
 refine JK _ _ ha.1 ?_
 unfold ET
 refine aT hI ⟨.v (.int .i64 (if s∈l then 0 else -1)),[],_,rfl,by split<;>simp_all,rfl⟩ ?_
 rintro r o ⟨n,rfl,hn,rfl⟩
 simp only[↓zq,zs,ae,bA]
 congr 2
 rw[bV];simp[hn]
def mR(out:List (List UInt8)):Ty->List (List UInt8)
 | .name s=>if s∈out then out else out++[s]
 |_=>out
theorem Ar(t:Ty)(out:List (List UInt8))(hl:out.length<100000):ap Tryz.prog 100 [t.av,.ref 0 0] [.cells [.vec 1],.vec 1 (bX out)] (cP .any [.cells [.vec 1],.vec 1 (bX (mR out t))]):=by
 refine KI _ _ ((bb _).mpr trivial) ?_
 have hlen:(bX out).length=out.length:=by simp[bX]
 cases t with
 |
  name s =>
  simp only[Cl,Ty.av,↓zq,zs,ae,cP,hlen]
  refine⟨by omega,fun _=>⟨by omega,?_⟩,fun h=>absurd rfl h⟩
  refine al (I1 out _ (.of out) s (by omega)) ?_
  simp only[↓zq,zs,ae,mR]
  refine⟨fun h=>⟨by omega,⟨fun c hc=>(by simp at hc;rw[hc];rfl),by omega⟩,?_⟩,fun h=>?_⟩
  ·rw[xG,if_neg h]
  ·rw[if_pos h]
 |_=>simp[Cl,Ty.av,↓zq,zs,ae,cP,mR]
def bE:Ty->List (List UInt8)->List (List UInt8)
 | .name s,out=>mR out (.name s)
 | .plus a b,out=>bE b (bE a out)
 | .times a b,out=>bE b (bE a out)
 | .rc a,out=>bE a out
 |_,out=>out
theorem dS:∀(t:Ty) (out:List (List UInt8)),(bE t out).length<=out.length+t.aZ
 | .name s,out=>by simp only[bE,mR,Ty.aZ];split<;>simp
 |
  .plus a b,out=>by
  have:=dS a out
  have:=dS b (bE a out)
  simp only[bE,Ty.aZ];omega
 |
  .times a b,out=>by
  have:=dS a out
  have:=dS b (bE a out)
  simp only[bE,Ty.aZ];omega
 |
  .rc a,out=>by
  have:=dS a out
  simp only[bE,Ty.aZ];omega
 | .zero,out=>by simp[bE]
 | .one,out=>by simp[bE]
 | .cX u,out=>by simp[bE]
theorem Di:∀(t:Ty) (out:List (List UInt8)),out.length+t.aZ<100000->ap Tryz.prog 99 [t.av,.fn 100 [.ref 0 0]] [.cells [.vec 1],.vec 1 (bX out)] (cP .any [.cells [.vec 1],.vec 1 (bX (bE t out))])
 |
  .plus a b,out,hl=>by
  simp only[Ty.aZ]at hl
  have:=dS a out
  refine Ap _ _ ((bb _).mpr trivial) ?_
  unfold zG
  refine bx (Ar (.plus a b) out (by omega)) ?_
  simp only[Ty.av,↓zq,zs,ae,bb,eS,mR,aN,cP]
  refine⟨by omega,fun _=>⟨by omega,?_⟩,fun h=>(by cases h)⟩
  refine bx (Di a out (by omega)) ?_
  simp only[↓zq,zs,ae,bb,eS,aN]
  refine⟨by omega,fun _=>⟨by omega,?_⟩,fun h=>(by cases h)⟩
  refine bx (Di b (bE a out) (by omega)) ?_
  simp only[↓zq,zs,ae,aN,bE]
 |
  .times a b,out,hl=>by
  simp only[Ty.aZ]at hl
  have:=dS a out
  refine Ap _ _ ((bb _).mpr trivial) ?_
  unfold zG
  refine bx (Ar (.times a b) out (by omega)) ?_
  simp only[Ty.av,↓zq,zs,ae,bb,eS,mR,aN,cP]
  refine⟨by omega,fun _=>⟨by omega,?_⟩,fun h=>(by cases h)⟩
  refine bx (Di a out (by omega)) ?_
  simp only[↓zq,zs,ae,bb,eS,aN]
  refine⟨by omega,fun _=>⟨by omega,?_⟩,fun h=>(by cases h)⟩
  refine bx (Di b (bE a out) (by omega)) ?_
  simp only[↓zq,zs,ae,aN,bE]
 |
  .rc a,out,hl=>by
  simp only[Ty.aZ]at hl
  refine Ap _ _ ((bb _).mpr trivial) ?_
  unfold zG
  refine bx (Ar (.rc a) out (by omega)) ?_
  simp only[Ty.av,↓zq,zs,ae,bb,eS,mR,aN,cP]
  refine⟨by omega,fun _=>⟨by omega,?_⟩,fun h=>(by cases h)⟩
  refine bx (Di a out (by omega)) ?_
  simp[↓zq,zs,ae,bb,eS,aN,bE]
 |
  .name s,out,hl=>by
  refine Ap _ _ ((bb _).mpr trivial) ?_
  unfold zG
  refine bx (Ar (.name s) out (by omega)) ?_
  simp[Ty.av,↓zq,zs,ae,aN,cP,bE]
 |
  .zero,out,hl=>by
  refine Ap _ _ ((bb _).mpr trivial) ?_
  unfold zG
  refine bx (Ar .zero out (by omega)) ?_
  simp[Ty.av,↓zq,zs,ae,aN,cP,bE,mR]
 |
  .one,out,hl=>by
  refine Ap _ _ ((bb _).mpr trivial) ?_
  unfold zG
  refine bx (Ar .one out (by omega)) ?_
  simp[Ty.av,↓zq,zs,ae,aN,cP,bE,mR]
 |
  .cX u,out,hl=>by
  refine Ap _ _ ((bb _).mpr trivial) ?_
  unfold zG
  refine bx (Ar (.cX u) out (by omega)) ?_
  simp[Ty.av,↓zq,zs,ae,aN,cP,bE,mR]
theorem Ix(t:Ty)(hl:t.aZ<100000):ap Tryz.prog 90 [t.av] [] (bA (.sl (bX (bE t [])))):=by
 refine Ju _ ((bb _).mpr trivial) ?_
 unfold DA
 refine bx (Di t [] (by simpa using hl)) ?_
 simp[↓zq,zs,ae,aN,bA]
theorem Hb(l:List (List UInt8))(a:AV)(ha:dD a l)(hl:l.length<1000000):∀(k i:Nat),i+k=l.length->(∀s,s∈l.take i->cI s=false)->AI [a,.v (.func (.func 91) #[] #[]),.v (.int .i64 (l.length:Int)),.v (.int .i64 (i:Int))] []
 (xM (l.any cI=true))
 |
  0,i,hi,hn=>by
  refine GG _ _ _ ?_
  simp only[Ak,↓zq,zs,ae]
  have:l.take i=l:=List.take_of_length_le (by omega)
  rw[this]at hn
  exact⟨ha.1,fun h=>by omega,fun _=>.inl ⟨rfl,fun hh=>(by obtain⟨x,hx,hy⟩:=bu.1 hh;rw[hn x hx]at hy;cases hy),rfl,rfl⟩⟩
 |
  k+1,i,hi,hn=>by
  have hlt:i<l.length:=by omega
  refine GG _ _ _ ?_
  simp only[Ak,↓zq,zs,ae,zt,ha.len,ha.idx hlt]
  have hm:l.getD i []∈l:=by simp[aa,hlt]
  refine⟨ha.1,fun _=>⟨⟨ha.1,by omega,by omega⟩,by omega,?_⟩,fun h=>by omega⟩
  refine al (xT _) ?_
  simp only[↓zq,zs,ae]
  refine⟨fun h=>?_,fun h=>?_⟩
  ·exact .inr ⟨rfl,bu.2 ⟨_,hm,h⟩,i,rfl,rfl⟩
  ·rw[bk i (by omega)]
   refine Hb l a ha hl k (i+1) (by omega) ?_
   intro s hs
   rw[List.take_add_one]at hs
   have:l[i]?=some (l.getD i []):=by simp[aa,hlt]
   rw[this]at hs
   rcases aL.1 hs with hs|hs
   ·exact hn s hs
   ·simp at hs;rw[hs];simpa using h
theorem Jj(l:List (List UInt8))(a:AV)(ha:dD a l)(hl:l.length<1000000):ap Tryz.prog 89 [a,.v (.func (.func 91) #[] #[])] [] (bA (.v (.bool (l.any cI)))):=by
 have hI:ap Tryz.prog 98 [a,.v (.func (.func 91) #[] #[])] [] (fun r o=>∃n:Int,r=.v (.int .i64 n)/\(0<=n↔l.any cI=true)/\o=[]):=by
  refine Jw _ ha.1 ?_
  simp only[DB,↓zq,zs,ae,ha.len]
  refine⟨ha.1,lQ (Hb l a ha hl l.length 0 (by omega) (by simp)) ?_ ?_⟩
  ·rintro ys o (⟨_,h1,rfl,rfl⟩|⟨h,_⟩)
   ·simp only[↓zq,zs,ae]
    exact⟨-1,rfl,⟨fun h=>(by omega),fun h=>absurd h h1⟩⟩
   ·cases h
  ·rintro ys o (⟨h,_⟩|⟨_,h1,j,rfl,rfl⟩)
   ·cases h
   ·simp only[↓zq,zs,ae]
    exact⟨j,rfl,⟨fun _=>h1,fun _=>(by omega)⟩⟩
 refine I9 _ ha.1 ?_
 unfold He
 refine aT hI ⟨.v (.int .i64 (if l.any cI=true then 0 else -1)),[],_,rfl,by split<;>simp_all,rfl⟩ ?_
 rintro r o ⟨n,rfl,hn,rfl⟩
 simp only[↓zq,zs,ae,bA]
 congr 2
 rw[bV];simp only[decide_eq_true_eq,ge_iff_le,hn]
def Ty.closed(t:Ty):Bool:=!((bE t []).any cI)
theorem IR(t:Ty)(hl:t.aZ<100000):ap Tryz.prog 78 [t.av] [] (bA (.v (.bool t.closed))):=by
 refine IX _ ((bb _).mpr trivial) ?_
 unfold GA
 refine al (Ix t hl) ?_
 simp only[↓zq,zs,ae]
 have:=dS t []
 refine al (Jj _ _ (.of _) (by simp at this;omega)) ?_
 simp only[↓zq,zs,ae,bA,Ty.closed]
def wx(s:List UInt8):Option Ty:=match zW s with
 |none=>none
 |some t=>if t.closed=true then some t else none
theorem vz{s:List UInt8}{t:Ty}(h:zW s=some t):t.aZ<=400:=by
 unfold zW at h
 split at h
 ·cases h
 ·split at h
  ·cases h
  ·split at h<;>cases h
   omega
theorem HO(s:List UInt8):ap Tryz.prog 51 [.v (.string (mk s))] [] (bA (gK (wx s))):=by
 refine Jn _ ?_
 unfold H4
 refine al (Jr s) ?_
 unfold wx
 cases ht:zW s with
 |none=>simp[gK,↓zq,zs,ae,bA]
 |
  some t =>
  have:=vz ht
  simp only[gK,↓zq,zs,ae,bb,eS]
  refine⟨fun h=>(by cases h),fun _=>?_⟩
  refine al (IR t (by omega)) ?_
  simp only[↓zq,zs,ae,bA]
  refine⟨fun h=>?_,fun h=>?_⟩
  ·rw[if_neg (by rw[h];simp)]
  ·rw[if_pos h]
end Go.Proofs.Trees
namespace Go.Proofs.Trees
open Go Go.VL
theorem Ky(b:UInt8):ap Tryz.prog 84 [.v (.int .u8 (b.toNat:Int))] [] (bA (.v (.bool (eV b)))):=by
 refine Kc _ ?_
 simp only[E5,↓zq,zs,ae,bA,eV]
 repeat' (apply aE<;>intro _)
 all_goals first|(congr 2;rw[bV];simp;omega)|(congr 2;simp;omega)
def zm(s:List UInt8)(x:Option (E×List UInt8)):AV->List Ob->Prop:=fun r o=>o=[] /\
 match x with
 |some (e,u)=>r=.cV [e.iT,.v (.int .i64 ((s.length-u.length:Nat):Int))]
 |none=>∃(c:List UInt8) (d:AV),LK.sl.has d/\r=.cV [.agg [.v (.string (mk c)),d],.v (.int .i64 (-1))]
theorem zm.ne(s:List UInt8)(x:Option (E×List UInt8)):∃r o,zm s x r o:=by
 cases x with
 |some q=>exact⟨_,_,rfl,rfl⟩
 |none=>exact⟨_,_,rfl,[],.v (.slice none 0 0),(bi).mpr trivial,rfl⟩
def jc(c:List UInt8)(d:AV):Ob:=.cells [.v (.string (mk c)),d]
theorem Gp(s:List UInt8)(hs:s.length<=8000)(from_:Int)(c1 c2:List UInt8)(d1 d2:AV)(h1:LK.sl.has d1)(h2:LK.sl.has d2):∀(k i:Nat),i+k=s.length->AH [.v (.string (mk s)),.v (.int .i64 (i:Int)),.v (.int .i64 from_)] [jc c1 d1,jc c2 d2]
 (fI 1 [.v (.string (mk s)),.v (.int .i64 ((i+((s.drop i).takeWhile eV).length:Nat):Int)),.v (.int .i64 from_)] [jc c1 d1,jc c2 d2])
 |
  0,i,hi=>by
  refine Gv _ _ _ _ _ _ _ ?_
  have hd:s.drop i=[]:=bn (by omega)
  simp only[Bg,↓zq,zs,ae,zt]
  exact⟨h1,h2,fun h=>by omega,fun _=>by simp[fI,hd,jc]⟩
 |
  k+1,i,hi=>by
  have hlt:i<s.length:=by omega
  refine Gv _ _ _ _ _ _ _ ?_
  simp only[Bg,↓zq,zs,ae,zt,j4 s i hlt]
  refine⟨h1,h2,fun _=>⟨by omega,?_⟩,fun h=>by omega⟩
  refine al (Ky _) ?_
  simp only[↓zq,zs,ae]
  refine⟨fun hb=>?_,fun hb=>?_⟩
  ·rw[bk i (by omega)]
   have:=Gp s hs from_ c1 c2 d1 d2 h1 h2 k (i+1) (by omega)
   rw[tV hlt hb,show i+(((s.drop (i+1)).takeWhile eV).length+1)=i+1+((s.drop (i+1)).takeWhile eV).length by omega]
   exact this
  ·simp[fI,n0 hlt hb,jc]
def Le(s:List UInt8)(x:Option (E×List UInt8)):Nat->List AV->List Ob->Prop:=fun t ys o=>t=2 /\
 match x with
 |some (e,u)=>∃l,e=.list l/\ys=[.v (.int .i64 ((s.length-u.length:Nat):Int))]/\o=[jc [] .any,.vec 2 (E.ba l)]
 |none=>∃es,ys=[.v (.int .i64 (-1))]/\o=[jc [] .any,.vec 2 es]
theorem tF(e:E):(e.iT=.agg e.iT.cs/\e.iT.cs.length=2/\bJ [.str,.sl] e.iT.cs 0)=True:=by
 apply eq_true
 cases e<;>simp[E.iT,E.fP,vL,bJ,dV,bi,ca]
theorem sP(e:E):[AV.v (.string ((e.iT.cs.getD 0 .any).ai)),e.iT.cs.getD 1 .any]=e.fP:=by
 cases e<;>rfl
theorem drop_cons{s:List UInt8}{j:Nat}(hj:j<s.length):s.drop j=s.getD j 0::s.drop (j+1):=by
 rw[aJ hj];simp[aa,hj]
theorem F6(s:List UInt8)(hs:s.length<=8000)(d:Nat)(hd:d<=300)(f:List UInt8->Option (E×List UInt8))(hf:∀u e r,f u=some (e,r)->∃j,r=u.drop j/\0<j/\j<=u.length)
 (ih:∀j,j<=s.length->ap Tryz.prog 65 [.v (.string (mk s)),.v (.int .i64 (j:Int)),.v (.int .i64 ((d+1:Nat):Int))] [] (zm s (f (s.drop j)))) :
 ∀(n i:Nat) (acc:List E) (c1:List UInt8) (d1:AV),LK.sl.has d1->s.length-(i+1)<n->i<s.length->s.length-i+acc.length<=8001->Bw [.v (.string (mk s)),.v (.int .i64 (i:Int)),.v (.int .i64 (d:Int))] [jc c1 d1,jc [] .any,.vec 2 (E.ba acc)]
  (Le s (rH f n (s.drop (i+1)) acc))
 |0,i,acc,c1,d1,h1,hn,_,_=>by omega
 |
  n+1,i,acc,c1,d1,h1,hn,hi,hl=>by
  refine KP _ _ _ _ _ _ _ ?_
  simp only[FK,↓zq,zs,ae,jc]
  refine⟨h1,?_⟩
  rw[bk i (by omega),bk d (by omega)]
  refine aT (ih (i+1) (by omega)) (zm.ne _ _) ?_
  rintro r o ⟨rfl,hr⟩
  have hff:=hf (s.drop (i+1))
  unfold rH
  cases hq:f (s.drop (i+1))with
  |
   none =>
   rw[hq]at hr
   obtain⟨c,d',hd',rfl⟩:=hr
   simp only[↓zq,zs,ae,zt,bJ]
   refine⟨hd',fun _=>⟨rfl,_,rfl,rfl⟩,fun h=>by omega⟩
  |
   some q =>
   obtain⟨e,u⟩:=q
   rw[hq]at hr
   subst hr
   obtain⟨j,hu,hj0,hj⟩:=hff e u hq
   rw[List.drop_drop]at hu
   simp only[bL]at hj
   have hul:u.length=s.length-(i+1+j):=by rw[hu,bL]
   have hpos:s.length-u.length=i+1+j:=by omega
   simp only[↓zq,zs,ae,zt,tF,hpos,sP,dj]
   refine⟨fun h=>by omega,fun _=>⟨fun h=>?_,fun h=>⟨⟨fun c hc=>(by simp at hc;rw[hc];cases e<;>rfl),by omega⟩,?_⟩⟩⟩
   ·have:u=[]:=by rw[hu];exact bn (by omega)
    subst this
    exact⟨rfl,_,rfl,rfl⟩
   ·have hlt:i+1+j<s.length:=by omega
    rw[drop_cons hlt]at hu
    subst hu
    rw[j4 s _ hlt]
    generalize hb:s.getD (i+1+j) 0=b
    refine⟨by omega,fun h41=>?_,fun h41=>⟨by omega,fun h32=>?_,fun h32=>?_⟩⟩
    ·have h41':b.toNat=41:=by omega
     dsimp only
     rw[if_pos h41',bk _ (by omega)]
     refine⟨rfl,acc++[e],rfl,?_,?_⟩
     ·rw[bL];congr 3;omega
     ·simp[jc,nw,E.ba]
    ·have h41':¬b.toNat=41:=by omega
     have h32':¬b.toNat=32:=by omega
     dsimp only
     rw[if_neg h41',if_neg h32']
     exact⟨rfl,_,rfl,rfl⟩
    ·have h41':¬b.toNat=41:=by omega
     have h32':b.toNat=32:=by omega
     dsimp only
     rw[if_neg h41',if_pos h32']
     have:=F6 s hs d hd f hf ih n (i+1+j) (acc++[e]) c1 d1 h1 (by omega) hlt (by simp;omega)
     simpa[jc,nw,E.ba]using this
theorem yp(k:Nat)(u:List UInt8)(e:E)(r:List UInt8)(h:rd k u=some (e,r)):∃j,r=u.drop j/\0<j/\j<=u.length:=by
 have suf:∀(k:Nat) (u:List UInt8) (e:E) (r:List UInt8),rd k u=some (e,r)->r <:+ u:=by
  intro k
  have tw:∀u:List UInt8,u.dropWhile eV <:+ u:=fun u=>List.dropWhile_suffix _
  have ll:∀(f:List UInt8->Option (E×List UInt8)),(∀u e r,f u=some (e,r)->r <:+ u)->∀(n:Nat) (u:List UInt8) (acc:List E) (e:E) (r:List UInt8),rH f n u acc=some (e,r)->r <:+ u:=by
   intro f hf n
   induction n with
   |zero=>intro u acc e r h;cases h
   |
    succ n ih =>
    intro u acc e r h
    simp only[rH]at h
    split at h
    ·rename_i p c r' hs
     have h1:r' <:+ u:=(List.suffix_cons c r').trans (hf _ _ _ hs)
     split at h
     ·cases h;exact h1
     ·split at h
      ·exact(ih _ _ _ _ h).trans h1
      ·cases h
    ·cases h
  induction k with
  |
   zero =>
   intro u e r h
   simp only[rd]at h
   split at h
   ·cases h
   ·cases h;exact tw u
  |
   succ k ih =>
   intro u e r h
   simp only[rd]at h
   split at h
   ·split at h
    ·split at h
     ·exact(ll _ ih _ _ _ _ _ h).trans (List.suffix_cons _ _)
     ·cases h
    ·cases h
   ·cases h;exact tw u
 obtain⟨p,hp⟩:=suf k u e r h
 have hlt:=tI k u e r h
 have:=congrArg List.length hp
 simp only[an]at this
 exact⟨p.length,by rw[<-hp];simp,by omega,by omega⟩
theorem wt(n:Nat)(u:List UInt8)(acc:List E):rH (fun _=>none) n u acc=none:=by
 cases n<;>rfl
theorem JA(s:List UInt8)(j:Nat):ap Tryz.prog 65 [.v (.string (mk s)),.v (.int .i64 (j:Int)),.v (.int .i64 ((300+1:Nat):Int))] [] (zm s none):=by
 refine H0 _ _ _ ?_
 simp only[A6,↓zq,zs,ae]
 exact⟨fun _=>⟨rfl,[],_,(bi).mpr trivial,rfl⟩,fun h=>by omega⟩
theorem nE(s:List UInt8)(hs:s.length<=8000)(d i:Nat)(hd:d<=300)(hi:i<=s.length)(f:List UInt8->Option (E×List UInt8))(hf:∀u e r,f u=some (e,r)->∃j,r=u.drop j/\0<j/\j<=u.length)
 (ih:∀j,j<=s.length->ap Tryz.prog 65 [.v (.string (mk s)),.v (.int .i64 (j:Int)),.v (.int .i64 ((d+1:Nat):Int))] [] (zm s (f (s.drop j)))) (x:Option (E×List UInt8))
 (h0:i=s.length->x=none)
 (h1:i<s.length->(s.drop i).takeWhile eV≠[]->x=some (.atom ((s.drop i).takeWhile eV),(s.drop i).dropWhile eV))
 (h2:i<s.length->(s.drop i).takeWhile eV=[]->¬(s.getD i 0).toNat=40->x=none)
 (h3:i<s.length->(s.getD i 0).toNat=40->x=rH f (s.length-(i+1)+1) (s.drop (i+1)) []) :
 ap Tryz.prog 65 [.v (.string (mk s)),.v (.int .i64 (i:Int)),.v (.int .i64 (d:Int))] [] (zm s x):=by
 refine H0 _ _ _ ?_
 simp only[A6,↓zq,zs,ae,zt]
 refine⟨fun h=>by omega,fun _=>⟨fun h=>?_,fun h=>⟨by omega,?_⟩⟩⟩
 ·rw[h0 (by omega)]
  exact⟨rfl,[],_,(bi).mpr trivial,rfl⟩
 ·have hlt:i<s.length:=by omega
  rw[j4 s i hlt]
  refine⟨fun h40=>?_,fun h40=>?_⟩
  ·have h40':¬(s.getD i 0).toNat=40:=by omega
   refine bY (Gp s hs _ [] [] _ _ ((bi).mpr trivial) ((bi).mpr trivial) (s.length-i) i (by omega)) ?_
   have hex:(List.take (i+((s.drop i).takeWhile eV).length) s).drop i=(s.drop i).takeWhile eV:=by
    rw[List.drop_take,Nat.add_sub_cancel_left];exact qW _
   have hle:i+((s.drop i).takeWhile eV).length<=s.length:=by
    have:=qS (s.drop i);simp only[bL]at this;omega
   simp only[jc,↓zq,zs,ae,zt,hex]
   refine⟨by omega,fun hnil=>?_,fun hnil=>?_⟩
   ·rw[h2 hlt hnil h40',hnil]
    exact⟨rfl,[],_,(bi).mpr trivial,rfl⟩
   ·rw[h1 hlt hnil]
    refine⟨rfl,?_⟩
    have:=qS (s.drop i)
    simp only[bL]at this
    show _=AV.cV [E.iT (.atom _),_]
    have e:s.length-((s.drop i).dropWhile eV).length=i+((s.drop i).takeWhile eV).length:=by omega
    rw[e];rfl
  ·have h40':(s.getD i 0).toNat=40:=by omega
   rw[h3 hlt h40']
   refine lQ (F6 s hs d hd f hf ih (s.length-(i+1)+1) i [] [] _ ((bi).mpr trivial) (by omega) hlt (by simp;omega)) ?_ ?_
   ·rintro ys o ⟨h,_⟩;cases h
   ·rintro ys o ⟨_,hr⟩
    cases hq:rH f (s.length-(i+1)+1) (s.drop (i+1)) []with
    |
     none =>
     rw[hq]at hr
     obtain⟨es,rfl,rfl⟩:=hr
     simp only[jc,↓zq,zs,ae]
     exact⟨rfl,[],_,(ca _).mpr trivial,rfl⟩
    |
     some q =>
     obtain⟨e,u⟩:=q
     rw[hq]at hr
     obtain⟨l,rfl,rfl,rfl⟩:=hr
     simp only[jc,↓zq,zs,ae]
     exact⟨rfl,rfl⟩
theorem Ji(s:List UInt8)(hs:s.length<=8000):∀(k:Nat),k<=300->∀i,i<=s.length->ap Tryz.prog 65 [.v (.string (mk s)),.v (.int .i64 (i:Int)),.v (.int .i64 ((300-k:Nat):Int))] [] (zm s (rd k (s.drop i))):=by
 intro k
 have hnil:∀k,rd k []=none:=fun k=>by cases k<;>simp[rd]
 have ha40:∀b:UInt8,b.toNat=40->eV b=false:=fun b hb=>by simp[eV,hb]
 induction k with
 |
  zero =>
  intro hk i hi
  refine nE s hs 300 i (by omega) hi (fun _=>none) (fun _ _ _ h=>by cases h) (fun j _=>JA s j) _ (fun h=>?_) (fun hlt h=>?_) (fun hlt h h40=>?_) (fun hlt h40=>?_)
  ·rw[bn (by omega)];exact hnil 0
  ·simp only[rd,if_neg h]
  ·simp only[rd,if_pos h]
  ·rw[wt]
   have:(s.drop i).takeWhile eV=[]:=n0 hlt (ha40 _ h40)
   simp only[rd,if_pos this]
 |
  succ k ih =>
  intro hk i hi
  have hd:300-(k+1)+1=300-k:=by omega
  refine nE s hs (300-(k+1)) i (by omega) hi (rd k) (yp k) (fun j hj=>by rw[hd];exact ih (by omega) j hj) _ (fun h=>?_) (fun hlt h=>?_) (fun hlt h h40=>?_) (fun hlt h40=>?_)
  ·rw[bn (by omega)];exact hnil _
  ·simp only[rd,if_neg h]
  ·rw[drop_cons hlt]at h |-
   simp only[rd,if_pos h,if_neg h40]
  ·have h:=n0 hlt (ha40 _ h40)
   rw[drop_cons hlt]at h |-
   simp only[rd,if_pos h,if_pos h40,bL]
end Go.Proofs.Trees
namespace Go.Proofs.Trees
open Go Go.VL
end Go.Proofs.Trees
