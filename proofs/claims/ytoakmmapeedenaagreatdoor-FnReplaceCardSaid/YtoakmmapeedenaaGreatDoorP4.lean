/-
  Part of a proof: Go functions read by values, trees of functions, their contracts.
-/
import Derived.Test.YtoakmmapeedenaaGreatDoorP3
import Derived.Shelf.Lays
import Derived.Shelf.LaysM
import Derived.Shelf.Strconv.Itoa3
import Derived.Shelf.Strconv.Atoi
import Derived.Shelf.Strings.SlTrimAscii
import Derived.Shelf.Strings.Search3
import Derived.Test.YtoakmmapeedenaaGreatDoorProg
set_option linter.unusedVariables false
set_option linter.unusedSimpArgs false
open And renaming intro→aG
open Bool renaming and_eq_true→au,eq_iff_iff→cL,true_and→bZ
open ByteArray renaming extract→bS,size→af,toList→ae
open Int renaming cast_ofNat_Int→cY,ofNat_eq_natCast→cH,tdiv→eE,tmod→dr,toNat→bQ
open List renaming all_cons→cO,any_eq_true→bT,drop_eq_getElem_cons→aP,drop_eq_nil_of_le→bx,getD_eq_getElem?_getD→aa,length→dX,length_append→ak,length_cons→aw,length_drop→bI,mem_append→aH,mem_cons→aI,mem_map→bD,mem_singleton→aQ,nil_append→bg,takeWhile_append_dropWhile→bP
open Nat renaming zero_add→aR
open UInt8 renaming ofNat→bb
namespace Go.Proofs
open Go.Shelf
def Tryz.vy:Go.Shelf.Ren:=⟨fun|160=>101|232=>110|231=>109|227=>111|234=>113|233=>112|236=>115|235=>114|228=>121|271=>124|151=>123|197=>122|120=>131|152=>130|260=>129|137=>137|119=>138|224=>135|225=>134|217=>133|266=>143|n=>n,fun|9=>9|4=>4|3=>3|5=>5|117=>160|116=>159|0=>0|124=>163|21=>21|105=>173|46=>167|119=>184|139=>187|138=>186|n=>n,fun|3=>3|4=>4|n=>n⟩
theorem Tryz.DJ:Go.Proofs.Lays.n160 Tryz.prog Tryz.vy:={
 mixed:=by kernel_rfl,
 f119:=Tryz.func138.trans (congrArg some (by kernel_rfl)),
 f120:=Tryz.func131.trans (congrArg some (by kernel_rfl)),
 f137:=Tryz.func137.trans (congrArg some (by kernel_rfl)),
 f151:=Tryz.func123.trans (congrArg some (by kernel_rfl)),
 f152:=Tryz.func130.trans (congrArg some (by kernel_rfl)),
 f160:=Tryz.func101.trans (congrArg some (by kernel_rfl)),
 f197:=Tryz.func122.trans (congrArg some (by kernel_rfl)),
 f217:=Tryz.func133.trans (congrArg some (by kernel_rfl)),
 f224:=Tryz.func135.trans (congrArg some (by kernel_rfl)),
 f225:=Tryz.func134.trans (congrArg some (by kernel_rfl)),
 f227:=Tryz.func111.trans (congrArg some (by kernel_rfl)),
 f228:=Tryz.func121.trans (congrArg some (by kernel_rfl)),
 f231:=Tryz.func109.trans (congrArg some (by kernel_rfl)),
 f232:=Tryz.func110.trans (congrArg some (by kernel_rfl)),
 f233:=Tryz.func112.trans (congrArg some (by kernel_rfl)),
 f234:=Tryz.func113.trans (congrArg some (by kernel_rfl)),
 f235:=Tryz.func114.trans (congrArg some (by kernel_rfl)),
 f236:=Tryz.func115.trans (congrArg some (by kernel_rfl)),
 f260:=Tryz.func129.trans (congrArg some (by kernel_rfl)),
 f266:=Tryz.func143.trans (congrArg some (by kernel_rfl)),
 f271:=Tryz.func124.trans (congrArg some (by kernel_rfl)),
 t0:=Tryz.underlying0,
 a0:=Tryz.isAgg0,
 z0:=Tryz.sizeOf0,
 v0:=Tryz.zeroValue0,
 t3:=Tryz.underlying3,
 a3:=Tryz.isAgg3,
 z3:=Tryz.sizeOf3,
 v3:=Tryz.zeroValue3,
 t4:=Tryz.underlying4,
 a4:=Tryz.isAgg4,
 z4:=Tryz.sizeOf4,
 v4:=Tryz.zeroValue4,
 t5:=Tryz.underlying5,
 a5:=Tryz.isAgg5,
 z5:=Tryz.sizeOf5,
 v5:=Tryz.zeroValue5,
 t9:=Tryz.underlying9,
 a9:=Tryz.isAgg9,
 z9:=Tryz.sizeOf9,
 v9:=Tryz.zeroValue9,
 t21:=Tryz.underlying21,
 a21:=Tryz.isAgg21,
 z21:=Tryz.sizeOf21,
 v21:=Tryz.zeroValue21,
 t46:=Tryz.underlying167,
 a46:=Tryz.isAgg167,
 z46:=Tryz.sizeOf167,
 v46:=Tryz.zeroValue167,
 t105:=Tryz.underlying173,
 a105:=Tryz.isAgg173,
 z105:=Tryz.sizeOf173,
 v105:=Tryz.zeroValue173,
 t116:=Tryz.underlying159,
 a116:=Tryz.isAgg159,
 z116:=Tryz.sizeOf159,
 t117:=Tryz.underlying160,
 a117:=Tryz.isAgg160,
 z117:=Tryz.sizeOf160,
 v117:=Tryz.zeroValue160,
 t119:=Tryz.underlying184,
 a119:=Tryz.isAgg184,
 z119:=Tryz.sizeOf184,
 t124:=Tryz.underlying163,
 a124:=Tryz.isAgg163,
 z124:=Tryz.sizeOf163,
 v124:=Tryz.zeroValue163,
 t138:=Tryz.underlying186,
 a138:=Tryz.isAgg186,
 z138:=Tryz.sizeOf186,
 v138:=Tryz.zeroValue186,
 t139:=Tryz.underlying187,
 a139:=Tryz.isAgg187,
 z139:=Tryz.sizeOf187,
 v139:=Tryz.zeroValue187,
 g3:=by kernel_rfl,
 g4:=by kernel_rfl}
def Tryz.uJ:Go.Shelf.Ren:=⟨fun|144=>108|143=>120|219=>128|217=>133|225=>134|224=>135|267=>136|266=>143|314=>144|n=>n,fun|9=>9|4=>4|3=>3|5=>5|46=>167|146=>195|51=>194|n=>n,fun|1=>2|n=>n⟩
theorem Tryz.DT:Go.Proofs.Lays.n144 Tryz.prog Tryz.uJ:={
 mixed:=by kernel_rfl,
 f143:=Tryz.func120.trans (congrArg some (by kernel_rfl)),
 f144:=Tryz.func108.trans (congrArg some (by kernel_rfl)),
 f217:=Tryz.func133.trans (congrArg some (by kernel_rfl)),
 f219:=Tryz.func128.trans (congrArg some (by kernel_rfl)),
 f224:=Tryz.func135.trans (congrArg some (by kernel_rfl)),
 f225:=Tryz.func134.trans (congrArg some (by kernel_rfl)),
 f266:=Tryz.func143.trans (congrArg some (by kernel_rfl)),
 f267:=Tryz.func136.trans (congrArg some (by kernel_rfl)),
 f314:=Tryz.func144.trans (congrArg some (by kernel_rfl)),
 t3:=Tryz.underlying3,
 a3:=Tryz.isAgg3,
 z3:=Tryz.sizeOf3,
 v3:=Tryz.zeroValue3,
 t4:=Tryz.underlying4,
 a4:=Tryz.isAgg4,
 z4:=Tryz.sizeOf4,
 v4:=Tryz.zeroValue4,
 t5:=Tryz.underlying5,
 a5:=Tryz.isAgg5,
 z5:=Tryz.sizeOf5,
 v5:=Tryz.zeroValue5,
 t9:=Tryz.underlying9,
 a9:=Tryz.isAgg9,
 z9:=Tryz.sizeOf9,
 v9:=Tryz.zeroValue9,
 t46:=Tryz.underlying167,
 a46:=Tryz.isAgg167,
 z46:=Tryz.sizeOf167,
 v46:=Tryz.zeroValue167,
 t51:=Tryz.underlying194,
 a51:=Tryz.isAgg194,
 z51:=Tryz.sizeOf194,
 v51:=Tryz.zeroValue194,
 t146:=Tryz.underlying195,
 a146:=Tryz.isAgg195,
 z146:=Tryz.sizeOf195,
 v146:=Tryz.zeroValue195,
 g1:=by kernel_rfl}
def Tryz.uK:Go.Shelf.Ren:=⟨fun|172=>72|244=>90|245=>91|247=>102|279=>103|280=>104|281=>105|282=>106|287=>116|316=>117|171=>119|205=>118|321=>125|322=>126|243=>127|246=>132|283=>139|284=>140|285=>141|286=>142|129=>146|317=>145|318=>147|319=>148|320=>149|337=>150|338=>151|n=>n,fun|9=>9|3=>3|75=>122|76=>123|4=>4|5=>5|167=>150|37=>25|0=>0|85=>151|2=>2|168=>153|53=>164|175=>165|46=>167|210=>170|127=>177|145=>180|143=>178|21=>21|171=>189|173=>192|212=>198|51=>194|20=>20|213=>199|232=>203|233=>204|80=>44|n=>n,fun|15=>0|16=>1|17=>5|18=>6|19=>7|n=>n⟩
theorem Tryz.DB:Go.Proofs.Lays.n172 Tryz.prog Tryz.uK:={
 mixed:=by kernel_rfl,
 f129:=Tryz.func146.trans (congrArg some (by kernel_rfl)),
 f171:=Tryz.func119.trans (congrArg some (by kernel_rfl)),
 f172:=Tryz.func72.trans (congrArg some (by kernel_rfl)),
 f205:=Tryz.func118.trans (congrArg some (by kernel_rfl)),
 f243:=Tryz.func127.trans (congrArg some (by kernel_rfl)),
 f244:=Tryz.func90.trans (congrArg some (by kernel_rfl)),
 f245:=Tryz.func91.trans (congrArg some (by kernel_rfl)),
 f246:=Tryz.func132.trans (congrArg some (by kernel_rfl)),
 f247:=Tryz.func102.trans (congrArg some (by kernel_rfl)),
 f279:=Tryz.func103.trans (congrArg some (by kernel_rfl)),
 f280:=Tryz.func104.trans (congrArg some (by kernel_rfl)),
 f281:=Tryz.func105.trans (congrArg some (by kernel_rfl)),
 f282:=Tryz.func106.trans (congrArg some (by kernel_rfl)),
 f283:=Tryz.func139.trans (congrArg some (by kernel_rfl)),
 f284:=Tryz.func140.trans (congrArg some (by kernel_rfl)),
 f285:=Tryz.func141.trans (congrArg some (by kernel_rfl)),
 f286:=Tryz.func142.trans (congrArg some (by kernel_rfl)),
 f287:=Tryz.func116.trans (congrArg some (by kernel_rfl)),
 f316:=Tryz.func117.trans (congrArg some (by kernel_rfl)),
 f317:=Tryz.func145.trans (congrArg some (by kernel_rfl)),
 f318:=Tryz.func147.trans (congrArg some (by kernel_rfl)),
 f319:=Tryz.func148.trans (congrArg some (by kernel_rfl)),
 f320:=Tryz.func149.trans (congrArg some (by kernel_rfl)),
 f321:=Tryz.func125.trans (congrArg some (by kernel_rfl)),
 f322:=Tryz.func126.trans (congrArg some (by kernel_rfl)),
 f337:=Tryz.func150.trans (congrArg some (by kernel_rfl)),
 f338:=Tryz.func151.trans (congrArg some (by kernel_rfl)),
 t0:=Tryz.underlying0,
 a0:=Tryz.isAgg0,
 z0:=Tryz.sizeOf0,
 v0:=Tryz.zeroValue0,
 t2:=Tryz.underlying2,
 a2:=Tryz.isAgg2,
 z2:=Tryz.sizeOf2,
 v2:=Tryz.zeroValue2,
 t3:=Tryz.underlying3,
 a3:=Tryz.isAgg3,
 z3:=Tryz.sizeOf3,
 v3:=Tryz.zeroValue3,
 t4:=Tryz.underlying4,
 a4:=Tryz.isAgg4,
 z4:=Tryz.sizeOf4,
 v4:=Tryz.zeroValue4,
 t5:=Tryz.underlying5,
 a5:=Tryz.isAgg5,
 z5:=Tryz.sizeOf5,
 v5:=Tryz.zeroValue5,
 t9:=Tryz.underlying9,
 a9:=Tryz.isAgg9,
 z9:=Tryz.sizeOf9,
 v9:=Tryz.zeroValue9,
 t20:=Tryz.underlying20,
 a20:=Tryz.isAgg20,
 z20:=Tryz.sizeOf20,
 v20:=Tryz.zeroValue20,
 t21:=Tryz.underlying21,
 a21:=Tryz.isAgg21,
 z21:=Tryz.sizeOf21,
 v21:=Tryz.zeroValue21,
 t37:=Tryz.underlying25,
 a37:=Tryz.isAgg25,
 z37:=Tryz.sizeOf25,
 v37:=Tryz.zeroValue25,
 t46:=Tryz.underlying167,
 a46:=Tryz.isAgg167,
 z46:=Tryz.sizeOf167,
 v46:=Tryz.zeroValue167,
 t51:=Tryz.underlying194,
 a51:=Tryz.isAgg194,
 z51:=Tryz.sizeOf194,
 v51:=Tryz.zeroValue194,
 t53:=Tryz.underlying164,
 a53:=Tryz.isAgg164,
 z53:=Tryz.sizeOf164,
 v53:=Tryz.zeroValue164,
 t75:=Tryz.underlying122,
 a75:=Tryz.isAgg122,
 z75:=Tryz.sizeOf122,
 v75:=Tryz.zeroValue122,
 t76:=Tryz.underlying123,
 a76:=Tryz.isAgg123,
 z76:=Tryz.sizeOf123,
 v76:=Tryz.zeroValue123,
 t85:=Tryz.underlying151,
 a85:=Tryz.isAgg151,
 z85:=Tryz.sizeOf151,
 v85:=Tryz.zeroValue151,
 t127:=Tryz.underlying177,
 a127:=Tryz.isAgg177,
 z127:=Tryz.sizeOf177,
 v127:=Tryz.zeroValue177,
 t143:=Tryz.underlying178,
 a143:=Tryz.isAgg178,
 z143:=Tryz.sizeOf178,
 v143:=Tryz.zeroValue178,
 t145:=Tryz.underlying180,
 a145:=Tryz.isAgg180,
 z145:=Tryz.sizeOf180,
 v145:=Tryz.zeroValue180,
 t167:=Tryz.underlying150,
 a167:=Tryz.isAgg150,
 z167:=Tryz.sizeOf150,
 v167:=Tryz.zeroValue150,
 t168:=Tryz.underlying153,
 a168:=Tryz.isAgg153,
 z168:=Tryz.sizeOf153,
 v168:=Tryz.zeroValue153,
 t171:=Tryz.underlying189,
 a171:=Tryz.isAgg189,
 z171:=Tryz.sizeOf189,
 v171:=Tryz.zeroValue189,
 t173:=Tryz.underlying192,
 a173:=Tryz.isAgg192,
 z173:=Tryz.sizeOf192,
 v173:=Tryz.zeroValue192,
 t175:=Tryz.underlying165,
 a175:=Tryz.isAgg165,
 z175:=Tryz.sizeOf165,
 v175:=Tryz.zeroValue165,
 t210:=Tryz.underlying170,
 a210:=Tryz.isAgg170,
 z210:=Tryz.sizeOf170,
 v210:=Tryz.zeroValue170,
 t212:=Tryz.underlying198,
 a212:=Tryz.isAgg198,
 z212:=Tryz.sizeOf198,
 v212:=Tryz.zeroValue198,
 t213:=Tryz.underlying199,
 a213:=Tryz.isAgg199,
 z213:=Tryz.sizeOf199,
 t232:=Tryz.underlying203,
 a232:=Tryz.isAgg203,
 z232:=Tryz.sizeOf203,
 v232:=Tryz.zeroValue203,
 t233:=Tryz.underlying204,
 a233:=Tryz.isAgg204,
 z233:=Tryz.sizeOf204,
 v233:=Tryz.zeroValue204,
 g15:=by kernel_rfl,
 g16:=by kernel_rfl,
 g17:=by kernel_rfl,
 g18:=by kernel_rfl,
 g19:=by kernel_rfl}
end Go.Proofs
namespace Go.Proofs.Trees
open Go Go.VL
noncomputable section
def Lx:List (Nat×TI):=[
 (0,⟨false,[],false,0,.tuple [],false⟩),
 (2,⟨true,[.int .i64],false,8,.num .i64,false⟩),
 (3,⟨true,[.int .i64],false,8,.num .i64,false⟩),
 (4,⟨true,[.bool],false,1,.bl,false⟩),
 (5,⟨true,[.int .u8],false,1,.num .u8,false⟩),
 (9,⟨true,[.str],false,16,.str,false⟩),
 (20,⟨true,[.kS],false,16,.other,false⟩),
 (21,⟨true,[.int .i32],false,4,.num .i32,false⟩),
 (22,⟨false,[],false,0,.tuple [9,3,4],false⟩),
 (25,⟨true,[.sl],false,24,.slice 5,false⟩),
 (26,⟨false,[],false,0,.tuple [9,9,9,9],false⟩),
 (30,⟨true,[.sl],false,24,.slice 32,false⟩),
 (32,⟨true,[.str,.sl],true,40,.struct [(0,9),(1,30)],false⟩),
 (33,⟨false,[],false,0,.tuple [32,4],false⟩),
 (35,⟨false,[],false,0,.tuple [32,3],false⟩),
 (39,⟨true,[.ptr],false,8,.pt,true⟩),
 (40,⟨true,[.ptr],false,8,.pt,true⟩),
 (41,⟨false,[],false,0,.tuple [39,40],false⟩),
 (43,⟨true,[.kS],false,8,.other,false⟩),
 (45,⟨true,[.ptr],false,8,.pt,true⟩),
 (47,⟨true,[.ptr,.ptr],true,16,.struct [(0,39),(1,45)],false⟩),
 (48,⟨true,[.ptr],false,8,.pt,true⟩),
 (49,⟨false,[],false,0,.tuple [47,48],false⟩),
 (54,⟨true,[.int .u8,.str,.ptr,.ptr],true,40,.struct [(0,5),(1,9),(2,40),(3,40)],false⟩),
 (55,⟨false,[],false,0,.tuple [9,4],false⟩),
 (57,⟨true,[.ptr],false,8,.pt,true⟩),
 (59,⟨false,[],false,0,.tuple [9,9],false⟩),
 (62,⟨true,[.sl],false,24,.slice 9,false⟩),
 (63,⟨false,[],false,0,.tuple [62,4],false⟩),
 (69,⟨true,[.sl],false,24,.slice 129,false⟩),
 (71,⟨true,[.sl],false,24,.slice 74,false⟩),
 (74,⟨true,[.str,.sl,.str,.sl],true,80,.struct [(0,32),(2,32)],false⟩),
 (79,⟨true,[.ptr,.ptr],true,16,.struct [(0,47)],false⟩),
 (81,⟨true,[.int .u8,.str,.int .i64,.ptr,.ptr],true,48,.struct [(0,5),(1,9),(2,3),(3,39),(4,39)],false⟩),
 (83,⟨true,[.ptr,.ptr],true,16,.struct [(0,48),(1,45)],false⟩),
 (89,⟨true,[.sl,.int .i64],true,32,.struct [(0,25),(1,3)],false⟩),
 (94,⟨true,[.sl],false,24,.slice 99,false⟩),
 (95,⟨false,[],false,0,.tuple [94,4],false⟩),
 (97,⟨true,[.sl],false,24,.slice 3,false⟩),
 (99,⟨true,[.sl,.str,.str],true,56,.struct [(0,97),(1,9),(2,9)],false⟩),
 (103,⟨true,[.kS],false,8,.other,false⟩),
 (104,⟨false,[],false,0,.tuple [32,69],false⟩),
 (113,⟨true,[.ptr],false,8,.pt,true⟩),
 (115,⟨true,[.sl,.int .i64],true,32,.struct [(0,62),(1,3)],false⟩),
 (118,⟨true,[.ptr],false,8,.pt,true⟩),
 (122,⟨true,[.kS],false,16,.other,false⟩),
 (123,⟨false,[],false,0,.tuple [3,122],false⟩),
 (129,⟨true,[.str,.str,.sl,.sl],true,80,.struct [(0,9),(1,32),(3,69)],false⟩),
 (137,⟨false,[],false,0,.tuple [118,9],false⟩),
 (139,⟨true,[.sl],false,24,.slice 118,false⟩),
 (141,⟨true,[.str,.sl],true,40,.struct [(0,9),(1,139)],false⟩),
 (147,⟨true,[.kS],false,8,.other,false⟩),
 (151,⟨false,[],false,0,.tuple [2,122],false⟩),
 (153,⟨true,[.ptr],false,8,.pt,true⟩),
 (160,⟨false,[],false,0,.tuple [159,4],false⟩),
 (163,⟨true,[.ptr],false,8,.pt,true⟩),
 (164,⟨true,[.int .u64],false,8,.num .u64,false⟩),
 (165,⟨false,[],false,0,.tuple [164,122],false⟩),
 (167,⟨true,[.int .u64],false,8,.num .u64,false⟩),
 (170,⟨true,[.str,.str,.kS],true,48,.struct [(0,9),(1,9),(2,122)],false⟩),
 (173,⟨false,[],false,0,.tuple [21,3],false⟩),
 (177,⟨true,[.ptr],false,8,.pt,true⟩),
 (178,⟨true,[.ptr],false,8,.pt,true⟩),
 (180,⟨true,[.str],true,16,.struct [(0,9)],false⟩),
 (186,⟨true,[.int .u8,.int .u8],true,2,.struct [(0,5),(1,5)],false⟩),
 (187,⟨true,[.int .u8,.int .u8,.int .u8,.int .u8,.int .u8,.int .u8,.int .u8,.int .u8,.int .u8,.int .u8,.int .u8,.int .u8,.int .u8,.int .u8,.int .u8,.int .u8,.int .u8,.int .u8,.int .u8,.int .u8,.int .u8,.int .u8,.int .u8,.int .u8,.int .u8,.int .u8,.int .u8,.int .u8,.int .u8,.int .u8,.int .u8,.int .u8],true,32,.array 16 186,false⟩),
 (189,⟨true,[.int .u8,.int .u8,.int .u8,.int .u8,.int .u8,.int .u8,.int .u8,.int .u8,.int .u8,.int .u8,.int .u8,.int .u8,.int .u8,.int .u8,.int .u8,.int .u8,.int .u8,.int .u8,.int .u8,.int .u8,.int .u8,.int .u8,.int .u8,.int .u8],true,24,.array 24 5,false⟩),
 (192,⟨false,[],false,0,.tuple [25,9],false⟩),
 (194,⟨true,[.int .u32],false,4,.num .u32,false⟩),
 (195,⟨false,[],false,0,.tuple [194,194],false⟩),
 (198,⟨true,[.int .u64,.int .u64,.int .u64,.int .u64,.int .u64,.int .u64,.int .u64,.int .u64,.int .u64,.int .u64,.int .u64,.int .u64,.int .u64,.int .u64,.int .u64,.int .u64,.int .u64,.int .u64,.int .u64,.int .u64],true,160,.array 20 164,false⟩),
 (203,⟨true,[.int .u8,.int .u8,.int .u8,.int .u8,.int .u8,.int .u8,.int .u8,.int .u8,.int .u8,.int .u8,.int .u8,.int .u8,.int .u8,.int .u8,.int .u8,.int .u8,.int .u8,.int .u8,.int .u8,.int .u8,.int .u8,.int .u8,.int .u8,.int .u8,.int .u8,.int .u8,.int .u8,.int .u8,.int .u8,.int .u8,.int .u8,.int .u8],true,32,.array 32 5,false⟩)]
def JS(t:Nat):TI:=yp Lx t
abbrev dV:Func:=Tryz.f18
abbrev p8:Func:=Tryz.f72
abbrev p9:Func:=Tryz.f101
abbrev mU:Func:=Tryz.f108
def LQ:List (Nat×FC):=[(97,{mu:=[(1,.one (.obj [.vec 1]))],own:=[]}),(53,{mu:=[(2,.one (.vec))],own:=[0]}),(9800096,{mu:=[(1,.fn [some (.obj [.vec 1])])],own:=[]}),(67,{mu:=[(3,.one (.vec))],own:=[0]}),(60,{mu:=[(2,.one (.vec))],own:=[0]}),(26,{mu:=[(0,.one (.obj [.lk .sl,.lk (.int .i64)]))],own:=[]}),(66,{mu:=[(3,.one (.obj [.vec 1,.lk (.int .i64)]))],own:=[]}),(45,{mu:=[(0,.one (.obj [.lk .sl,.lk (.int .i64)]))],own:=[]}),(22,{mu:=[],own:=[0],ow:=[.sl,.int .i64]}),(79,{mu:=[(0,.one (.obj [.lk .sl,.lk (.int .i64)]))],own:=[]}),(43,{mu:=[(0,.one (.obj [.lk .sl,.lk (.int .i64)]))],own:=[]}),(78,{mu:=[(0,.one (.obj [.lk .sl,.lk (.int .i64)]))],own:=[]}),(46,{mu:=[(0,.one (.obj [.lk .sl,.lk (.int .i64)]))],own:=[]}),(24,{mu:=[(0,.one (.obj [.lk .sl,.lk (.int .i64)]))],own:=[]}),(61,{mu:=[(0,.one (.obj [.lk .sl,.lk (.int .i64)]))],own:=[]}),(44,{mu:=[(0,.one (.obj [.lk .sl,.lk (.int .i64)]))],own:=[]}),(23,{mu:=[(0,.one (.obj [.lk .sl,.lk (.int .i64)]))],own:=[]}),(75,{mu:=[],own:=[0]}),(16,{mu:=[(1,.one (.obj [.lk .ptr])),(2,.one (.obj [.lk (.int .i64)])),(3,.one (.obj [.lk .ptr])),(4,.one (.obj [.lk .ptr])),(5,.yX 16 [some 0,some 1,some 2,some 3,none])],own:=[]}),(1700020,{mu:=[(3,.Ed [some (.obj [.lk .ptr]),some (.obj [.lk (.int .i64)]),some (.obj [.lk .ptr]),some (.obj [.lk .ptr])] 16 [some 0,some 1,some 2,some 3,none])],own:=[]})]
def cfg(f:Nat):FC:=Aw LQ f
theorem CQ:(Lx.all fun p=>!p.2.kn||p.2.D9 Tryz.prog p.1)=true:=by kernel_rfl
theorem tx:cT Tryz.prog JS:=vr CQ
theorem mixed:Tryz.prog.follows .mixedOrders=true:=by kernel_rfl
abbrev NZ(r:AV)(k:Tree):Tree:=.al (LK.has .ptr r/\r.isNil=false) k
abbrev NP(r:AV)(k:Tree):Tree:=.al (LK.has .ptr r) k
abbrev NS(r:AV)(k:Tree):Tree:=.al (LK.has .str r) k
abbrev NB(r:AV)(k:Tree):Tree:=.al (LK.has .bool r) k
abbrev NL(r:AV)(k:Tree):Tree:=.al (LK.has .sl r) k
abbrev NI(r:AV)(k:Tree):Tree:=.al (LK.has (.int .i64) r) k
abbrev im(l:List AV)(k:Tree):Tree:=.al (LK.has .ptr (l.headD .any)/\1<=l.length) k
abbrev nM(l:List AV)(k:Tree):Tree:=.al (LK.has .str (l.headD .any)/\1<=l.length) k
abbrev sc(l:List AV)(k:Tree):Tree:=.al (LK.has .sl (l.headD .any)/\1<=l.length) k
abbrev NT(r:AV)(k:Tree):Tree:=.al (r=.cP [r.comp 0,r.comp 1]) k
abbrev NA(r:AV)(k:Tree):Tree:=.al (r=.agg r.cs/\r.cs.length=2/\cc [.str,.sl] r.cs 0) k
abbrev NE(l:List AV)(k:Tree):Tree:=.al (cc [.str,.sl] l 0/\2<=l.length) k
abbrev NG(r:AV)(i:Int)(z:Nat)(k:Tree):Tree:=.al (LK.has .sl r/\0<=i/\i<r.elems.length/\(r.elems.getD i.toNat []).length=z) k
abbrev RL:Type:=Nat->List AV->List Ob->Prop
abbrev VS(x:ByteArray):AV:=.v (.string x)
abbrev VI(x:Int):AV:=.v (.int .i64 x)
abbrev VB(x:Bool):AV:=.v (.bool x)
abbrev _root_.List.hA(l:List AV):AV:=l.headD .any
abbrev _root_.List.hO(l:List Ob):Ob:=l.headD .dead
abbrev _root_.Go.VL.AV.ix(a:AV)(i:Int):List AV:=a.elems.getD i.toNat []
abbrev eg(n:Nat)(t:Tree)(R:AV->List Ob->Prop):Prop:=eH Tryz.prog n t fun _ xs obs=>R (xs.headD .any) obs
abbrev oW(n:Nat)(t:Tree)(S:List AV->List Ob->RL->Prop)(R:RL):Prop:=eH Tryz.prog n t (D7 (fun ys o=>S ys o R) R)
theorem gQ{n:Nat}{c:Code}{li:LI}{xs:List AV}{obs:List Ob}{R:RL}{t:Tree}(lis:List (Nat×LI))(h:eH Tryz.prog n t (D7 (fun ys o=>cW Tryz.prog n c li ys o R) R))(e:round JS cfg n lis c li xs obs=t:=by kernel_rfl):cW Tryz.prog n c li xs obs R:=cW.LF (cfg:=cfg) (lis:=lis) tx mixed e h
theorem ON(x:ByteArray):VS x=.v (.string x):=rfl
theorem OR(x:Int):VI x=.v (.int .i64 x):=rfl
theorem OI(x:Bool):VB x=.v (.bool x):=rfl
theorem O1(l:List AV):l.hA=l.headD .any:=rfl
theorem OD(l:List Ob):l.hO=l.headD .dead:=rfl
theorem OB(a:AV)(i:Int):a.ix i=a.elems.getD i.toNat []:=rfl
theorem oQ{f:Nat}{asq:List AV}{ins:List Ob}{R:AV->List Ob->Prop}{t:Tree}(lis:List (Nat×LI))(F:Func)(h:eH Tryz.prog F.ntmps t fun _ xs obs=>R (xs.headD .any) obs)(hf:Tryz.prog.funcs[f]?=some F:=by kernel_rfl)(hnm:(F.name=="runtime.NumGoroutine")=false:=by kernel_rfl)(e:main JS cfg lis {} F asq ins=t:=by kernel_rfl):aB Tryz.prog f asq ins R:=aB.LF (cfg:=cfg) (lis:=lis) (fc:={}) tx mixed hf hnm e h
theorem oF{f:Nat}{asq:List AV}{ins:List Ob}{R:AV->List Ob->Prop}{t:Tree}(lis:List (Nat×LI))(fc:FC)(F:Func)(h:eH Tryz.prog F.ntmps t fun _ xs obs=>R (xs.headD .any) obs)(hf:Tryz.prog.funcs[f]?=some F:=by kernel_rfl)(hnm:(F.name=="runtime.NumGoroutine")=false:=by kernel_rfl)(e:main JS cfg lis fc F asq ins=t:=by kernel_rfl):aB Tryz.prog f asq ins R:=aB.LF (cfg:=cfg) (lis:=lis) (fc:=fc) tx mixed hf hnm e h
theorem uQ{P:Program}{f:Nat}{asq bs:List AV}{R:AV->List Ob->Prop}(h:wB asq bs)(hf:aB P f bs [] R):aB P f asq [] R:=aB.uf dC (aB.up h hf)
theorem OE(r:AV)(k:Tree):NZ r k=.al (LK.has .ptr r/\r.isNil=false) k:=rfl
theorem O0(r:AV)(k:Tree):NP r k=.al (LK.has .ptr r) k:=rfl
theorem OX(r:AV)(k:Tree):NS r k=.al (LK.has .str r) k:=rfl
theorem OC(r:AV)(k:Tree):NB r k=.al (LK.has .bool r) k:=rfl
theorem OY(r:AV)(k:Tree):NL r k=.al (LK.has .sl r) k:=rfl
theorem OV(r:AV)(k:Tree):NI r k=.al (LK.has (.int .i64) r) k:=rfl
theorem Od(l:List AV)(k:Tree):im l k=.al (LK.has .ptr (l.headD .any)/\1<=l.length) k:=rfl
theorem MB(l:List AV)(k:Tree):nM l k=.al (LK.has .str (l.headD .any)/\1<=l.length) k:=rfl
theorem MU(l:List AV)(k:Tree):sc l k=.al (LK.has .sl (l.headD .any)/\1<=l.length) k:=rfl
theorem OG(r:AV)(k:Tree):NT r k=.al (r=.cP [r.comp 0,r.comp 1]) k:=rfl
theorem OS(r:AV)(k:Tree):NA r k=.al (r=.agg r.cs/\r.cs.length=2/\cc [.str,.sl] r.cs 0) k:=rfl
theorem OZ(l:List AV)(k:Tree):NE l k=.al (cc [.str,.sl] l 0/\2<=l.length) k:=rfl
theorem OO(r:AV)(i:Int)(z:Nat)(k:Tree):NG r i z k=.al (LK.has .sl r/\0<=i/\i<r.elems.length/\(r.elems.getD i.toNat []).length=z) k:=rfl
set_option linter.defProp false in
def zq:=aG @OE (aG @O0 (aG @OX (aG @OC (aG @OY (aG @OV (aG @Od (aG @MB (aG @MU (aG @OG (aG @OS (aG @OZ (aG @OO (aG @ON (aG @OR (aG @OI (aG @O1 (aG @OD (aG @OB @zp))))))))))))))))))
variable {R:AV->List Ob->Prop} {U:RL}
def Ir(a0:AV):Tree :=
 NL a0<|.test (decide ((a0.elems.length:Int)>(1048576:Int))) (.done 0 [VB true] []) (.call 7 [a0] [] fun r1 o1=>.al (r1=.cP [r1.comp 0,r1.comp 1,r1.comp 2,r1.comp 3])<|NS (r1.comp 0)<|NS (r1.comp 1)<|NS (r1.comp 2)<|NS (r1.comp 3)<|.call 6 [VS ((r1.comp 0).toStr),VS ((r1.comp 1).toStr),VS ((r1.comp 2).toStr),VS ((r1.comp 3).toStr)] [] fun r2 o2=>.al (r2=.cP [r2.comp 0,r2.comp 1,r2.comp 2])<|NS (r2.comp 0)<|NI (r2.comp 1)<|NB (r2.comp 2)<|.call 5 [VS ((r1.comp 0).toStr),VS ((r1.comp 1).toStr),VS ((r1.comp 2).toStr),VS ((r1.comp 3).toStr)] [] fun r3 o3=>.al (r3=.cP [r3.comp 0,r3.comp 1,r3.comp 2])<|NS (r3.comp 0)<|NI (r3.comp 1)<|NB (r3.comp 2)<|.test (!(((r2.comp 2).toBool)==((r3.comp 2).toBool))) (.test (((r2.comp 2).toBool)==((r3.comp 2).toBool)) (.test (((r2.comp 1).toInt)==((r3.comp 1).toInt)) (.done 0 [VB (ae ((r2.comp 0).toStr)==ae ((r3.comp 0).toStr))] []) (.done 0 [VB false] [])) (.done 0 [VB false] [])) (.test (((r2.comp 1).toInt) != ((r3.comp 1).toInt)) (.test (((r2.comp 2).toBool)==((r3.comp 2).toBool)) (.test (((r2.comp 1).toInt)==((r3.comp 1).toInt)) (.done 0 [VB (ae ((r2.comp 0).toStr)==ae ((r3.comp 0).toStr))] []) (.done 0 [VB false] [])) (.done 0 [VB false] [])) (.test (!(ae ((r2.comp 0).toStr)==ae ((r3.comp 0).toStr))) (.test (((r2.comp 2).toBool)==((r3.comp 2).toBool)) (.test (((r2.comp 1).toInt)==((r3.comp 1).toInt)) (.done 0 [VB (ae ((r2.comp 0).toStr)==ae ((r3.comp 0).toStr))] []) (.done 0 [VB false] [])) (.done 0 [VB false] [])) (.test (!((r2.comp 2).toBool)) (.test (((r2.comp 2).toBool)==((r3.comp 2).toBool)) (.test (((r2.comp 1).toInt)==((r3.comp 1).toInt)) (.done 0 [VB (ae ((r2.comp 0).toStr)==ae ((r3.comp 0).toStr))] []) (.done 0 [VB false] [])) (.done 0 [VB false] [])) (.call 6 [VS ((r1.comp 0).toStr),VS ((r1.comp 1).toStr),VS ((r1.comp 2).toStr),VS ((r1.comp 2).toStr)] [] fun r4 o4=>.al (r4=.cP [r4.comp 0,r4.comp 1,r4.comp 2])<|NS (r4.comp 0)<|NI (r4.comp 1)<|NB (r4.comp 2)<|.test ((r4.comp 2).toBool) (.test (ae ((r4.comp 0).toStr)==ae ((r1.comp 1).toStr)) (.test (((r4.comp 1).toInt)==((r2.comp 1).toInt)) (.call 8 [VS ((r1.comp 0).toStr),VS ((r2.comp 0).toStr),VI 100] [] fun r5 o5=>NB r5<|.test r5.toBool (.test (decide (((r2.comp 1).toInt)>(0:Int))) (.done 0 [VB true] []) (.done 0 [VB (ae ((r2.comp 0).toStr)==ae ((r1.comp 1).toStr))] [])) (.done 0 [VB false] [])) (.done 0 [VB false] [])) (.done 0 [VB false] [])) (.done 0 [VB false] []))))))
theorem Nj(a0:AV)(ha0:LK.has .sl a0)(h:eg 108 (Ir a0) R):aB Tryz.prog 4 [a0] [] R :=
 uQ (aj (cd ha0) aJ) (oQ [] Tryz.f4 h)
def HC(a0:ByteArray)(a1:ByteArray)(a2:ByteArray)(a3:ByteArray):Tree :=
 .call 9 [VS a0] [] fun r1 o1=>NT r1<|.al ((r1.comp 0)=.agg (r1.comp 0).cs/\(r1.comp 0).cs.length=2/\cc [.str,.sl] ((r1.comp 0).cs) 0)<|NB (r1.comp 1)<|.test (!((r1.comp 1).toBool)) (.done 0 [.cP [VS (mk []),VI 0,VB false]] []) (.call 10 [VS a0,VS a1,VI 100] [] fun r2 o2=>NB r2<|.test (!r2.toBool) (.done 0 [.cP [VS (mk []),VI 0,VB false]] []) (.call 10 [VS a0,VS a2,VI 100] [] fun r3 o3=>NB r3<|.test (!r3.toBool) (.done 0 [.cP [VS (mk []),VI 0,VB false]] []) (.call 10 [VS a0,VS a3,VI 100] [] fun r4 o4=>NB r4<|.test (!r4.toBool) (.done 0 [.cP [VS (mk []),VI 0,VB false]] []) (.call 11 [VS a1] [] fun r5 o5=>NT r5<|.al ((r5.comp 0)=.agg (r5.comp 0).cs/\(r5.comp 0).cs.length=2/\cc [.str,.sl] ((r5.comp 0).cs) 0)<|NB (r5.comp 1)<|.call 11 [VS a3] [] fun r6 o6=>NT r6<|.al ((r6.comp 0)=.agg (r6.comp 0).cs/\(r6.comp 0).cs.length=2/\cc [.str,.sl] ((r6.comp 0).cs) 0)<|NB (r6.comp 1)<|.call 12 [.agg [VS (((r1.comp 0).cs.getD 0 .any).toStr),((r1.comp 0).cs.getD 1 .any)],.agg [VS (((r5.comp 0).cs.getD 0 .any).toStr),((r5.comp 0).cs.getD 1 .any)],VS a2,.agg [VS (((r6.comp 0).cs.getD 0 .any).toStr),((r6.comp 0).cs.getD 1 .any)]] [] fun r7 o7=>NT r7<|.al ((r7.comp 0)=.agg (r7.comp 0).cs/\(r7.comp 0).cs.length=2/\cc [.str,.sl] ((r7.comp 0).cs) 0)<|NI (r7.comp 1)<|.call 13 [.agg [VS (((r7.comp 0).cs.getD 0 .any).toStr),((r7.comp 0).cs.getD 1 .any)]] [] fun r8 o8=>NI r8<|.test (decide (r8.toInt>(200:Int))) (.done 0 [.cP [VS (mk []),VI 0,VB false]] []) (.call 14 [.agg [VS (((r7.comp 0).cs.getD 0 .any).toStr),((r7.comp 0).cs.getD 1 .any)]] [] fun r9 o9=>NS r9<|.done 0 [.cP [VS r9.toStr,VI ((r7.comp 1).toInt),VB true]] [])))))
theorem Ms(a0:ByteArray)(a1:ByteArray)(a2:ByteArray)(a3:ByteArray)(h:eg 68 (HC a0 a1 a2 a3) R):aB Tryz.prog 5 [VS a0,VS a1,VS a2,VS a3] [] R :=
 uQ (aj (aD _) (aj (aD _) (aj (aD _) (aj (aD _) aJ)))) (oQ [] Tryz.f5 h)
def JK(a0:ByteArray)(a1:ByteArray)(a2:ByteArray)(a3:ByteArray):Tree :=
 .call 15 [VS a0,VS a1] [] fun r1 o1=>NT r1<|NP (r1.comp 0)<|NP (r1.comp 1)<|.call 15 [VS a0,VS a2] [] fun r2 o2=>NT r2<|NP (r2.comp 0)<|NP (r2.comp 1)<|.call 15 [VS a0,VS a3] [] fun r3 o3=>NT r3<|NP (r3.comp 0)<|NP (r3.comp 1)<|NP (r1.comp 1)<|.test ((r1.comp 1).isNil) (.done 0 [.cP [VS (mk []),VI 0,VB false]] []) (NP (r2.comp 1)<|.test ((r2.comp 1).isNil) (.done 0 [.cP [VS (mk []),VI 0,VB false]] []) (NP (r3.comp 1)<|.test ((r3.comp 1).isNil) (.done 0 [.cP [VS (mk []),VI 0,VB false]] []) (.call 16 [(r1.comp 1),.ref 0 0,.ref 1 0,.ref 2 0,.ref 3 0,.eJ 16 [some 0,some 1,some 2,some 3,none]] [.cells [(r2.comp 1)],.cells [VI 0],.cells [(r3.comp 1)],.cells [(r1.comp 0)]] fun r4 o4=>.al ((o4.hO)=.cells (o4.hO).cs)<|.al (aO [.lk .ptr] ((o4.hO).cs) 0 1 o4.tail)<|.al ((o4.tail.hO)=.cells (o4.tail.hO).cs)<|.al (aO [.lk (.int .i64)] ((o4.tail.hO).cs) 0 2 o4.tail.tail)<|.al ((o4.tail.tail.hO)=.cells (o4.tail.tail.hO).cs)<|.al (aO [.lk .ptr] ((o4.tail.tail.hO).cs) 0 3 o4.tail.tail.tail)<|.al ((o4.tail.tail.tail.hO)=.cells (o4.tail.tail.tail.hO).cs)<|.al (aO [.lk .ptr] ((o4.tail.tail.tail.hO).cs) 0 4 o4.tail.tail.tail.tail)<|NP r4<|.call 21 [r4] [] fun r5 o5=>NT r5<|NS (r5.comp 0)<|NB (r5.comp 1)<|.test (!((r5.comp 1).toBool)) (.done 0 [.cP [VS (mk []),VI 0,VB false]] []) (.done 0 [.cP [VS ((r5.comp 0).toStr),VI (((o4.tail.hO).cs.getD 0 .any).toInt),VB true]] []))))
theorem Md(a0:ByteArray)(a1:ByteArray)(a2:ByteArray)(a3:ByteArray)(h:eg 61 (JK a0 a1 a2 a3) R):aB Tryz.prog 6 [VS a0,VS a1,VS a2,VS a3] [] R :=
 uQ (aj (aD _) (aj (aD _) (aj (aD _) (aj (aD _) aJ)))) (oQ [] Tryz.f6 h)
def JW(a0:AV):Tree :=
 .call 22 [a0] [] fun r1 o1=>.al (r1=.ref 0 0/\(o1.hO)=.cells (o1.hO).cs/\(o1.hO).cs.length=2/\cc [.sl,.int .i64] ((o1.hO).cs) 0)<|.call 23 [.ref 0 0] [.cells [((o1.hO).cs.getD 0 .any),VI (((o1.hO).cs.getD 1 .any).toInt)]] fun r2 o2=>.al ((o2.hO)=.cells (o2.hO).cs)<|.al (aO [.lk .sl,.lk (.int .i64)] ((o2.hO).cs) 0 1 o2.tail)<|NT r2<|NS (r2.comp 0)<|NS (r2.comp 1)<|.call 24 [.ref 0 0,VS ((r2.comp 0).toStr)] [.cells [((o2.hO).cs.getD 0 .any),VI (((o2.hO).cs.getD 1 .any).toInt)]] fun r3 o3=>.al ((o3.hO)=.cells (o3.hO).cs)<|.al (aO [.lk .sl,.lk (.int .i64)] ((o3.hO).cs) 0 1 o3.tail)<|NS r3<|.call 25 [VS ((r2.comp 0).toStr),VS ((r2.comp 1).toStr)] [] fun r4 o4=>NT r4<|NL (r4.comp 0)<|NB (r4.comp 1)<|.test ((r4.comp 1).toBool) (.call 26 [.ref 0 0,VI 5] [.cells [((o3.hO).cs.getD 0 .any),VI (((o3.hO).cs.getD 1 .any).toInt)]] fun r5 o5=>.al ((o5.hO)=.cells (o5.hO).cs)<|.al (aO [.lk .sl,.lk (.int .i64)] ((o5.hO).cs) 0 1 o5.tail)<|NI r5<|.test (decide (r5.toInt>(0:Int))) (NL (r4.comp 0)<|NL (r4.comp 0)<|.call 26 [.ref 0 0,VI (((r4.comp 0).elems).length:Int)] [.cells [((o5.hO).cs.getD 0 .any),VI (((o5.hO).cs.getD 1 .any).toInt)]] fun r6 o6=>.al ((o6.hO)=.cells (o6.hO).cs)<|.al (aO [.lk .sl,.lk (.int .i64)] ((o6.hO).cs) 0 1 o6.tail)<|NI r6<|.al (¬(2:Int)=0)<|.al (LK.has .sl (r4.comp 0)/\0<=(IntKind.wrap .i64 ((IntKind.wrap .i64 ((((r4.comp 0).elems).length:Int)-1))-(IntKind.wrap .i64 (eE r6.toInt 2))))/\(IntKind.wrap .i64 ((IntKind.wrap .i64 ((((r4.comp 0).elems).length:Int)-1))-(IntKind.wrap .i64 (eE r6.toInt 2))))<(r4.comp 0).elems.length/\((r4.comp 0).ix (IntKind.wrap .i64 ((IntKind.wrap .i64 ((((r4.comp 0).elems).length:Int)-1))-(IntKind.wrap .i64 (eE r6.toInt 2))))).length=1)<|.al (LK.has .str (((r4.comp 0).ix (IntKind.wrap .i64 ((IntKind.wrap .i64 ((((r4.comp 0).elems).length:Int)-1))-(IntKind.wrap .i64 (eE r6.toInt 2))))).hA)/\1<=((r4.comp 0).ix (IntKind.wrap .i64 ((IntKind.wrap .i64 ((((r4.comp 0).elems).length:Int)-1))-(IntKind.wrap .i64 (eE r6.toInt 2))))).length)<|.done 0 [.cP [VS ((r2.comp 0).toStr),VS ((r2.comp 1).toStr),VS ((((r4.comp 0).ix (IntKind.wrap .i64 ((IntKind.wrap .i64 ((((r4.comp 0).elems).length:Int)-1))-(IntKind.wrap .i64 (eE r6.toInt 2))))).hA).toStr),VS r3.toStr]] []) (.call 24 [.ref 0 0,VS ((r2.comp 0).toStr)] [.cells [((o5.hO).cs.getD 0 .any),VI (((o5.hO).cs.getD 1 .any).toInt)]] fun r7 o7=>.al ((o7.hO)=.cells (o7.hO).cs)<|.al (aO [.lk .sl,.lk (.int .i64)] ((o7.hO).cs) 0 1 o7.tail)<|NS r7<|.done 0 [.cP [VS ((r2.comp 0).toStr),VS ((r2.comp 1).toStr),VS r7.toStr,VS r3.toStr]] [])) (.call 24 [.ref 0 0,VS ((r2.comp 0).toStr)] [.cells [((o3.hO).cs.getD 0 .any),VI (((o3.hO).cs.getD 1 .any).toInt)]] fun r8 o8=>.al ((o8.hO)=.cells (o8.hO).cs)<|.al (aO [.lk .sl,.lk (.int .i64)] ((o8.hO).cs) 0 1 o8.tail)<|NS r8<|.done 0 [.cP [VS ((r2.comp 0).toStr),VS ((r2.comp 1).toStr),VS r8.toStr,VS r3.toStr]] [])
theorem Oh(a0:AV)(ha0:LK.has .sl a0)(h:eg 55 (JW a0) R):aB Tryz.prog 7 [a0] [] R :=
 uQ (aj (cd ha0) aJ) (oQ [] Tryz.f7 h)
def Kl(a0:ByteArray)(a1:ByteArray)(a2:Int):Tree :=
 .call 27 [VS a0,VS a1,VI a2] [] fun r1 o1=>NT r1<|NP (r1.comp 0)<|NP (r1.comp 1)<|NP (r1.comp 1)<|.done 0 [VB (!(r1.comp 1).isNil)] []
theorem Nx(a0:ByteArray)(a1:ByteArray)(a2:Int)(h:eg 18 (Kl a0 a1 a2) R):aB Tryz.prog 8 [VS a0,VS a1,VI a2] [] R :=
 uQ (aj (aD _) (aj (aD _) (aj (aD _) aJ))) (oQ [] Tryz.f8 h)
def Lv(a0:ByteArray):Tree :=
 .call 28 [VS a0] [] fun r1 o1=>NT r1<|.al ((r1.comp 0)=.agg (r1.comp 0).cs/\(r1.comp 0).cs.length=2/\cc [.str,.sl] ((r1.comp 0).cs) 0)<|NB (r1.comp 1)<|.test ((r1.comp 1).toBool) (.call 29 [.agg [VS (((r1.comp 0).cs.getD 0 .any).toStr),((r1.comp 0).cs.getD 1 .any)]] [] fun r2 o2=>NS r2<|.done 0 [.cP [.agg [VS (((r1.comp 0).cs.getD 0 .any).toStr),((r1.comp 0).cs.getD 1 .any)],VB (ae r2.toStr==ae (mk [114,101,99]))]] []) (.done 0 [.cP [.agg [VS (((r1.comp 0).cs.getD 0 .any).toStr),((r1.comp 0).cs.getD 1 .any)],VB false]] [])
theorem MA(a0:ByteArray)(h:eg 18 (Lv a0) R):aB Tryz.prog 9 [VS a0] [] R :=
 uQ (aj (aD _) aJ) (oQ [] Tryz.f9 h)
def Jn(a0:ByteArray)(a1:ByteArray)(a2:Int):Tree :=
 .call 28 [VS a0] [] fun r1 o1=>NT r1<|.al ((r1.comp 0)=.agg (r1.comp 0).cs/\(r1.comp 0).cs.length=2/\cc [.str,.sl] ((r1.comp 0).cs) 0)<|NB (r1.comp 1)<|.call 11 [VS a1] [] fun r2 o2=>NT r2<|.al ((r2.comp 0)=.agg (r2.comp 0).cs/\(r2.comp 0).cs.length=2/\cc [.str,.sl] ((r2.comp 0).cs) 0)<|NB (r2.comp 1)<|.test ((r1.comp 1).toBool) (.test ((r2.comp 1).toBool) (.call 30 [VI a2,VI 0,VI 100] [] fun r3 o3=>NB r3<|.test r3.toBool (.call 31 [.agg [VS (((r1.comp 0).cs.getD 0 .any).toStr),((r1.comp 0).cs.getD 1 .any)],.sl [],.agg [VS (((r2.comp 0).cs.getD 0 .any).toStr),((r2.comp 0).cs.getD 1 .any)],VI a2] [] fun r4 o4=>NB r4<|.done 0 [VB r4.toBool] []) (.done 0 [VB false] [])) (.done 0 [VB false] [])) (.done 0 [VB false] [])
theorem M8(a0:ByteArray)(a1:ByteArray)(a2:Int)(h:eg 36 (Jn a0 a1 a2) R):aB Tryz.prog 10 [VS a0,VS a1,VI a2] [] R :=
 uQ (aj (aD _) (aj (aD _) (aj (aD _) aJ))) (oQ [] Tryz.f10 h)
def Jx(a0:ByteArray):Tree :=
 .call 32 [VS a0] [] fun r1 o1=>NT r1<|.al ((r1.comp 0)=.agg (r1.comp 0).cs/\(r1.comp 0).cs.length=2/\cc [.str,.sl] ((r1.comp 0).cs) 0)<|NB (r1.comp 1)<|.test ((r1.comp 1).toBool) (.call 33 [.agg [VS (((r1.comp 0).cs.getD 0 .any).toStr),((r1.comp 0).cs.getD 1 .any)]] [] fun r2 o2=>NB r2<|.test r2.toBool (.call 13 [.agg [VS (((r1.comp 0).cs.getD 0 .any).toStr),((r1.comp 0).cs.getD 1 .any)]] [] fun r3 o3=>NI r3<|.done 0 [.cP [.agg [VS (((r1.comp 0).cs.getD 0 .any).toStr),((r1.comp 0).cs.getD 1 .any)],VB (decide (r3.toInt<=(200:Int)))]] []) (.done 0 [.cP [.agg [VS (((r1.comp 0).cs.getD 0 .any).toStr),((r1.comp 0).cs.getD 1 .any)],VB false]] [])) (.done 0 [.cP [.agg [VS (((r1.comp 0).cs.getD 0 .any).toStr),((r1.comp 0).cs.getD 1 .any)],VB false]] [])
theorem LY(a0:ByteArray)(h:eg 22 (Jx a0) R):aB Tryz.prog 11 [VS a0] [] R :=
 uQ (aj (aD _) aJ) (oQ [] Tryz.f11 h)
def Fu:LI:={hd:={ck:=[(2,.k .str),(10,.k .str),(11,.k (.int .i64)),(12,.k (.int .i64)),(13,.k (.int .i64))],refs:=[(4,4),(5,5),(7,7),(8,8)],cM:=[(4,[.lk .str,.lk .sl]),(5,[.lk .str,.lk .sl]),(7,[.lk .str,.lk .sl]),(8,[.lk .str,.lk .sl])]},xs:={ck:=[(12,.k (.int .i64))],refs:=[(5,5),(8,8)],cM:=[(5,[.lk .str,.lk .sl]),(8,[.lk .str,.lk .sl])]},rt:={},ex:=0}
def K5:Code:=dF (dx Tryz.f12) 7
def JR:List (Nat×LI):=[(7,Fu)]
def KF(a0_0:ByteArray)(a0_1:AV)(a1_0:ByteArray)(a1_1:AV)(a2:ByteArray)(a3_0:ByteArray)(a3_1:AV):Tree :=
 .call 14 [.agg [VS a1_0,a1_1]] [] fun r1 o1=>NS r1<|.test (ae r1.toStr==ae a2) (.done 0 [.cP [.agg [VS a3_0,a3_1],VI 1]] []) (NG a0_1 1 2<|nM (a0_1.ix (1:Int))<|NG a0_1 2 2<|NE (a0_1.ix (2:Int))<|NG a1_1 1 2<|NE (a1_1.ix (1:Int))<|.call 34 [.agg [VS (((a0_1.ix (2:Int)).getD 0 .any).toStr),((a0_1.ix (2:Int)).getD 1 .any)],VS (((a0_1.ix (1:Int)).hA).toStr),.agg [VS (((a1_1.ix (1:Int)).getD 0 .any).toStr),((a1_1.ix (1:Int)).getD 1 .any)]] [] fun r2 o2=>NL r2<|NL r2<|.loop K5 Fu [VS a2,VS (((a0_1.ix (1:Int)).hA).toStr),VI (r2.elems.length:Int),VI 0,VI 0] [.cells [VS a0_0,a0_1],.cells [VS a1_0,a1_1],.cells [VS a3_0,a3_1],.cells [VS (mk []),.v (.slice none 0 0)]] (fun y7 q7=>NI (y7.hA)<|.al ((q7.hO)=.cells (q7.hO).cs)<|.al (ah [.lk .str,.lk .sl] ((q7.hO).cs) 0 q7.tail)<|.al (((q7.tail.drop 0).hO)=.cells ((q7.tail.drop 0).hO).cs)<|.al (ah [.lk .str,.lk .sl] (((q7.tail.drop 0).hO).cs) 0 ((q7.tail.drop 0).tail))<|.done 0 [.cP [.agg [VS (((q7.hO).cs.getD 0 .any).toStr),((q7.hO).cs.getD 1 .any)],VI ((y7.hA).toInt)]] []) (fun y7 q7=>.fail))
theorem Nq(a0_0:ByteArray)(a0_1:AV)(a1_0:ByteArray)(a1_1:AV)(a2:ByteArray)(a3_0:ByteArray)(a3_1:AV)(ha0_1:LK.has .sl a0_1)(ha1_1:LK.has .sl a1_1)(ha3_1:LK.has .sl a3_1)(h:eg 81 (KF a0_0 a0_1 a1_0 a1_1 a2 a3_0 a3_1) R):aB Tryz.prog 12 [.agg [VS a0_0,a0_1],.agg [VS a1_0,a1_1],VS a2,.agg [VS a3_0,a3_1]] [] R :=
 uQ (aj (cD (aj (aD _) (aj (cd ha0_1) aJ))) (aj (cD (aj (aD _) (aj (cd ha1_1) aJ))) (aj (aD _) (aj (cD (aj (aD _) (aj (cd ha3_1) aJ))) aJ)))) (oQ JR Tryz.f12 h)
def ET(x2:ByteArray)(x10:ByteArray)(x11:Int)(x12:Int)(x13:Int)(o4_0:ByteArray)(o4_1:AV)(o5_0:ByteArray)(o5_1:AV)(o7_0:ByteArray)(o7_1:AV)(o8_0:ByteArray)(o8_1:AV):Tree :=
 NS (VS x2)<|NS (VS x10)<|NI (VI x11)<|NI (VI x12)<|NI (VI x13)<|.al (Ob.cells [VS o4_0,o4_1]=.cells [VS o4_0,o4_1])<|.al (ah [.lk .str,.lk .sl] [VS o4_0,o4_1] 0 [.cells [VS o5_0,o5_1],.cells [VS o7_0,o7_1],.cells [VS o8_0,o8_1]])<|.al (Ob.cells [VS o5_0,o5_1]=.cells [VS o5_0,o5_1])<|.al (ah [.lk .str,.lk .sl] [VS o5_0,o5_1] 0 [.cells [VS o7_0,o7_1],.cells [VS o8_0,o8_1]])<|.al (Ob.cells [VS o7_0,o7_1]=.cells [VS o7_0,o7_1])<|.al (ah [.lk .str,.lk .sl] [VS o7_0,o7_1] 0 [.cells [VS o8_0,o8_1]])<|.al (Ob.cells [VS o8_0,o8_1]=.cells [VS o8_0,o8_1])<|.al (ah [.lk .str,.lk .sl] [VS o8_0,o8_1] 0 [])<|.test (decide (x13<x11)) (NG o4_1 2 2<|NE (o4_1.ix (2:Int))<|NG o5_1 1 2<|NE (o5_1.ix (1:Int))<|.call 34 [.agg [VS (((o4_1.ix (2:Int)).getD 0 .any).toStr),((o4_1.ix (2:Int)).getD 1 .any)],VS x10,.agg [VS (((o5_1.ix (1:Int)).getD 0 .any).toStr),((o5_1.ix (1:Int)).getD 1 .any)]] [] fun r1 o1=>NL r1<|NG r1 x13 4<|.al (cc [.str,.sl,.str,.sl] (r1.ix x13) 0/\4<=(r1.ix x13).length)<|.call 12 [.agg [VS o4_0,o4_1],.agg [VS (((r1.ix x13).getD 2 .any).toStr),((r1.ix x13).getD 3 .any)],VS x2,.agg [VS o7_0,o7_1]] [] fun r2 o2=>NT r2<|.al ((r2.comp 0)=.agg (r2.comp 0).cs/\(r2.comp 0).cs.length=2/\cc [.str,.sl] ((r2.comp 0).cs) 0)<|NI (r2.comp 1)<|NG o4_1 2 2<|NE (o4_1.ix (2:Int))<|.call 36 [.agg [VS (((o4_1.ix (2:Int)).getD 0 .any).toStr),((o4_1.ix (2:Int)).getD 1 .any)],VS x10,.agg [VS (((r1.ix x13).getD 0 .any).toStr),((r1.ix x13).getD 1 .any)],.agg [VS (((r2.comp 0).cs.getD 0 .any).toStr),((r2.comp 0).cs.getD 1 .any)]] [] fun r3 o3=>NA r3<|.call 35 [VS (mk [102]),.sl [[VS ((r3.cs.getD 0 .any).toStr),(r3.cs.getD 1 .any)]]] [] fun r4 o4=>NA r4<|.done 0 [VS x2,VS x10,VI x11,VI (IntKind.wrap .i64 (x12+((r2.comp 1).toInt))),VI (IntKind.wrap .i64 (x13+1))] [.cells [VS o4_0,o4_1],.cells [VS ((r4.cs.getD 0 .any).toStr),(r4.cs.getD 1 .any)],.cells [VS o7_0,o7_1],.cells [VS o8_0,o8_1]]) (.done 1 [VI x12] [.cells [VS o5_0,o5_1],.cells [VS o8_0,o8_1]])
abbrev G4:=cW Tryz.prog 81 K5 Fu
theorem Kv(x2:ByteArray)(x10:ByteArray)(x11:Int)(x12:Int)(x13:Int)(o4_0:ByteArray)(o4_1:AV)(o5_0:ByteArray)(o5_1:AV)(o7_0:ByteArray)(o7_1:AV)(o8_0:ByteArray)(o8_1:AV)(h:oW 81 (ET x2 x10 x11 x12 x13 o4_0 o4_1 o5_0 o5_1 o7_0 o7_1 o8_0 o8_1) G4 U):G4 [VS x2,VS x10,VI x11,VI x12,VI x13] [.cells [VS o4_0,o4_1],.cells [VS o5_0,o5_1],.cells [VS o7_0,o7_1],.cells [VS o8_0,o8_1]] U :=
 gQ JR h
def F3:LI:={hd:={ck:=[(3,.k (.int .i64)),(4,.k (.int .i64))],refs:=[(1,1)],cM:=[(1,[.lk .str,.lk .sl])]},xs:={ck:=[(3,.k (.int .i64))]},rt:={},ex:=0}
def Jg:Code:=dF (dx Tryz.f13) 3
def JJ:List (Nat×LI):=[(3,F3)]
def Fq(a0_0:ByteArray)(a0_1:AV):Tree :=
 .loop Jg F3 [VI 1,VI 1] [.cells [VS a0_0,a0_1]] (fun y2 q2=>NI (y2.hA)<|.done 0 [VI ((y2.hA).toInt)] []) (fun y2 q2=>.done 0 [.any] [])
theorem JT(a0_0:ByteArray)(a0_1:AV)(ha0_1:LK.has .sl a0_1)(h:eg 21 (Fq a0_0 a0_1) R):aB Tryz.prog 13 [.agg [VS a0_0,a0_1]] [] R :=
 uQ (aj (cD (aj (aD _) (aj (cd ha0_1) aJ))) aJ) (oQ JJ Tryz.f13 h)
def zN(x3:Int)(x4:Int)(o1_0:ByteArray)(o1_1:AV):Tree :=
 NI (VI x3)<|NI (VI x4)<|.al (Ob.cells [VS o1_0,o1_1]=.cells [VS o1_0,o1_1])<|.al (ah [.lk .str,.lk .sl] [VS o1_0,o1_1] 0 [])<|NL o1_1<|.test (decide (x4<(o1_1.elems.length:Int))) (NG o1_1 x4 2<|NE (o1_1.ix x4)<|.call 13 [.agg [VS (((o1_1.ix x4).getD 0 .any).toStr),((o1_1.ix x4).getD 1 .any)]] [] fun r1 o1=>NI r1<|.done 0 [VI (IntKind.wrap .i64 (x3+r1.toInt)),VI (IntKind.wrap .i64 (x4+1))] [.cells [VS o1_0,o1_1]]) (.done 1 [VI x3] [])
abbrev At:=cW Tryz.prog 21 Jg F3
theorem CG(x3:Int)(x4:Int)(o1_0:ByteArray)(o1_1:AV)(h:oW 21 (zN x3 x4 o1_0 o1_1) At U):At [VI x3,VI x4] [.cells [VS o1_0,o1_1]] U :=
 gQ JJ h
def G0:LI:={hd:={ck:=[(3,.k .str),(4,.k (.int .i64))],refs:=[(1,1)],cM:=[(1,[.lk .str,.lk .sl])]},xs:={ck:=[(3,.k .str)]},rt:={},ex:=0}
def JB:Code:=dF (dx Tryz.f14) 5
def JI:List (Nat×LI):=[(5,G0)]
def CP(a0_0:ByteArray)(a0_1:AV):Tree :=
 .test (!(ae a0_0==ae (mk []))) (.done 0 [VS a0_0] []) (.loop JB G0 [VS (mk [40]),VI 0] [.cells [VS a0_0,a0_1]] (fun y3 q3=>NS (y3.hA)<|.al (af ((y3.hA).toStr)+af (mk [41])<=9223372036854775807)<|.done 0 [VS ((((y3.hA).toStr):ByteArray)++(mk [41]))] []) (fun y3 q3=>.done 0 [.any] []))
theorem Gf(a0_0:ByteArray)(a0_1:AV)(ha0_1:LK.has .sl a0_1)(h:eg 31 (CP a0_0 a0_1) R):aB Tryz.prog 14 [.agg [VS a0_0,a0_1]] [] R :=
 uQ (aj (cD (aj (aD _) (aj (cd ha0_1) aJ))) aJ) (oQ JI Tryz.f14 h)
def A9(x3:ByteArray)(x4:Int)(o1_0:ByteArray)(o1_1:AV):Tree :=
 NS (VS x3)<|NI (VI x4)<|.al (Ob.cells [VS o1_0,o1_1]=.cells [VS o1_0,o1_1])<|.al (ah [.lk .str,.lk .sl] [VS o1_0,o1_1] 0 [])<|NL o1_1<|.test (decide (x4<(o1_1.elems.length:Int))) (.test (decide (x4>(0:Int))) (.al (af x3+af (mk [32])<=9223372036854775807)<|NG o1_1 x4 2<|NE (o1_1.ix x4)<|.call 14 [.agg [VS (((o1_1.ix x4).getD 0 .any).toStr),((o1_1.ix x4).getD 1 .any)]] [] fun r1 o1=>NS r1<|.al (af ((x3:ByteArray)++(mk [32]))+af r1.toStr<=9223372036854775807)<|.done 0 [VS ((((x3:ByteArray)++(mk [32])):ByteArray)++r1.toStr),VI (IntKind.wrap .i64 (x4+1))] [.cells [VS o1_0,o1_1]]) (NG o1_1 x4 2<|NE (o1_1.ix x4)<|.call 14 [.agg [VS (((o1_1.ix x4).getD 0 .any).toStr),((o1_1.ix x4).getD 1 .any)]] [] fun r2 o2=>NS r2<|.al (af x3+af r2.toStr<=9223372036854775807)<|.done 0 [VS ((x3:ByteArray)++r2.toStr),VI (IntKind.wrap .i64 (x4+1))] [.cells [VS o1_0,o1_1]])) (.done 1 [VS x3] [])
abbrev A7:=cW Tryz.prog 31 JB G0
theorem Dz(x3:ByteArray)(x4:Int)(o1_0:ByteArray)(o1_1:AV)(h:oW 31 (A9 x3 x4 o1_0 o1_1) A7 U):A7 [VS x3,VI x4] [.cells [VS o1_0,o1_1]] U :=
 gQ JI h
def JZ(a0:ByteArray)(a1:ByteArray):Tree :=
 .call 37 [VS a0] [] fun r1 o1=>NP r1<|NP r1<|.test r1.isNil (.done 0 [.cP [.v (.pointer none),.v (.pointer none)]] []) (.call 27 [VS a0,VS a1,VI 100] [] fun r2 o2=>NT r2<|NP (r2.comp 0)<|NP (r2.comp 1)<|.done 0 [.cP [(r2.comp 0),(r2.comp 1)]] [])
theorem Nc(a0:ByteArray)(a1:ByteArray)(h:eg 14 (JZ a0 a1) R):aB Tryz.prog 15 [VS a0,VS a1] [] R :=
 uQ (aj (aD _) (aj (aD _) aJ)) (oQ [] Tryz.f15 h)
def Ky(a0:AV)(a1_0:AV)(a2_0:Int)(a3_0:AV)(a4_0:AV):Tree :=
 .call 17 [a0] [] fun r1 o1=>NS r1<|.call 17 [a1_0] [] fun r2 o2=>NS r2<|.test (ae r1.toStr==ae r2.toStr) (.done 0 [a3_0] [.cells [a1_0],.cells [VI (IntKind.wrap .i64 (a2_0+1))],.cells [a3_0],.cells [a4_0]]) (.call 18 [.agg [a4_0,.v (.pointer none)]] [] fun r3 o3=>NT r3<|.al ((r3.comp 0)=.agg (r3.comp 0).cs/\(r3.comp 0).cs.length=2/\cc [.ptr,.ptr] ((r3.comp 0).cs) 0)<|NP (r3.comp 1)<|NZ a0<|NZ a0<|im (a0.deref.drop 2)<|.call 20 [.agg [((r3.comp 0).cs.getD 0 .any),((r3.comp 0).cs.getD 1 .any)],((a0.deref.drop 2).hA),(r3.comp 1),.fn 16 [.ref 0 0,.ref 1 0,.ref 2 0,.ref 3 0,.eJ 16 [some 0,some 1,some 2,some 3,none]]] [.cells [a1_0],.cells [VI a2_0],.cells [a3_0],.cells [a4_0]] fun r4 o4=>.al ((o4.hO)=.cells (o4.hO).cs)<|.al (aO [.lk .ptr] ((o4.hO).cs) 0 1 o4.tail)<|.al ((o4.tail.hO)=.cells (o4.tail.hO).cs)<|.al (aO [.lk (.int .i64)] ((o4.tail.hO).cs) 0 2 o4.tail.tail)<|.al ((o4.tail.tail.hO)=.cells (o4.tail.tail.hO).cs)<|.al (aO [.lk .ptr] ((o4.tail.tail.hO).cs) 0 3 o4.tail.tail.tail)<|.al ((o4.tail.tail.tail.hO)=.cells (o4.tail.tail.tail.hO).cs)<|.al (aO [.lk .ptr] ((o4.tail.tail.tail.hO).cs) 0 4 o4.tail.tail.tail.tail)<|NP r4<|.call 19 [.v (.int .u8 102),r4] [] fun r5 o5=>NP r5<|.done 0 [r5] [.cells [((o4.hO).cs.getD 0 .any)],.cells [VI (((o4.tail.hO).cs.getD 0 .any).toInt)],.cells [((o4.tail.tail.hO).cs.getD 0 .any)],.cells [((o4.tail.tail.tail.hO).cs.getD 0 .any)]])
theorem M3(a0:AV)(a1_0:AV)(a2_0:Int)(a3_0:AV)(a4_0:AV)(ha0:LK.has .ptr a0)(ha1_0:LK.has .ptr a1_0)(ha3_0:LK.has .ptr a3_0)(ha4_0:LK.has .ptr a4_0)(h:eg 33 (Ky a0 a1_0 a2_0 a3_0 a4_0) R):aB Tryz.prog 16 [a0,.ref 0 0,.ref 1 0,.ref 2 0,.ref 3 0,.eJ 16 [some 0,some 1,some 2,some 3,none]] [.cells [a1_0],.cells [VI a2_0],.cells [a3_0],.cells [a4_0]] R :=
 aB.uf (cf (cN (aj (cK ha1_0) aJ)) (cf (cN (aj (aD _) aJ)) (cf (cN (aj (cK ha3_0) aJ)) (cf (cN (aj (cK ha4_0) aJ)) dC)))) (aB.up (aj (cK ha0) (aj (aD _) (aj (aD _) (aj (aD _) (aj (aD _) (aj (aD _) aJ)))))) (oF [] {mu:=[(1,.one (.obj [.lk .ptr])),(2,.one (.obj [.lk (.int .i64)])),(3,.one (.obj [.lk .ptr])),(4,.one (.obj [.lk .ptr])),(5,.yX 16 [some 0,some 1,some 2,some 3,none])],own:=[]} Tryz.f16 h))
def Ez(a0:AV):Tree :=
 NZ a0<|NZ a0<|.al (LK.has (.int .u8) (a0.deref.hA)/\1<=a0.deref.length)<|.test (((a0.deref.hA).toInt)==(117:Int)) (.done 0 [VS (mk [117])] []) (.test (((a0.deref.hA).toInt)==(101:Int)) (NZ a0<|NZ a0<|nM (a0.deref.drop 1)<|.done 0 [VS (((a0.deref.drop 1).hA).toStr)] []) (.test (((a0.deref.hA).toInt)==(112:Int)) (NZ a0<|NZ a0<|im (a0.deref.drop 2)<|.call 17 [((a0.deref.drop 2).hA)] [] fun r1 o1=>NS r1<|.al (af (mk [40,112,32])+af r1.toStr<=9223372036854775807)<|.al (af (((mk [40,112,32]):ByteArray)++r1.toStr)+af (mk [32])<=9223372036854775807)<|NZ a0<|NZ a0<|im (a0.deref.drop 3)<|.call 17 [((a0.deref.drop 3).hA)] [] fun r2 o2=>NS r2<|.al (af (((((mk [40,112,32]):ByteArray)++r1.toStr):ByteArray)++(mk [32]))+af r2.toStr<=9223372036854775807)<|.al (af (((((((mk [40,112,32]):ByteArray)++r1.toStr):ByteArray)++(mk [32])):ByteArray)++r2.toStr)+af (mk [41])<=9223372036854775807)<|.done 0 [VS (((((((((mk [40,112,32]):ByteArray)++r1.toStr):ByteArray)++(mk [32])):ByteArray)++r2.toStr):ByteArray)++(mk [41]))] []) (NZ a0<|NZ a0<|.al (LK.has (.int .u8) (a0.deref.hA)/\1<=a0.deref.length)<|.al (mB [[.v (.int .u8 ((a0.deref.hA).toInt))]])<|.al (af (mk [40])+af (⟨(bytesOf [[.v (.int .u8 ((a0.deref.hA).toInt))]]).toArray⟩)<=9223372036854775807)<|.al (af (((mk [40]):ByteArray)++(⟨(bytesOf [[.v (.int .u8 ((a0.deref.hA).toInt))]]).toArray⟩))+af (mk [32])<=9223372036854775807)<|NZ a0<|NZ a0<|im (a0.deref.drop 2)<|.call 17 [((a0.deref.drop 2).hA)] [] fun r3 o3=>NS r3<|.al (af (((((mk [40]):ByteArray)++(⟨(bytesOf [[.v (.int .u8 ((a0.deref.hA).toInt))]]).toArray⟩)):ByteArray)++(mk [32]))+af r3.toStr<=9223372036854775807)<|.al (af (((((((mk [40]):ByteArray)++(⟨(bytesOf [[.v (.int .u8 ((a0.deref.hA).toInt))]]).toArray⟩)):ByteArray)++(mk [32])):ByteArray)++r3.toStr)+af (mk [41])<=9223372036854775807)<|.done 0 [VS (((((((((mk [40]):ByteArray)++(⟨(bytesOf [[.v (.int .u8 ((a0.deref.hA).toInt))]]).toArray⟩)):ByteArray)++(mk [32])):ByteArray)++r3.toStr):ByteArray)++(mk [41]))] [])))
theorem zz(a0:AV)(ha0:LK.has .ptr a0)(h:eg 46 (Ez a0) R):aB Tryz.prog 17 [a0] [] R :=
 uQ (aj (cK ha0) aJ) (oQ [] Tryz.f17 h)
def Hy(a0_0:AV)(a0_1:AV):Tree :=
 NZ a0_0<|NZ a0_0<|im (a0_0.deref.drop 3)<|.done 0 [.cP [.agg [((a0_0.deref.drop 3).hA),.ptr [.ptr [a0_0,a0_1],a0_1]],.ptr [a0_0,a0_1]]] []
theorem M6(a0_0:AV)(a0_1:AV)(ha0_0:LK.has .ptr a0_0)(ha0_1:LK.has .ptr a0_1)(h:eg 20 (Hy a0_0 a0_1) R):aB Tryz.prog 18 [.agg [a0_0,a0_1]] [] R :=
 uQ (aj (cD (aj (cK ha0_0) (aj (cK ha0_1) aJ))) aJ) (oQ [] Tryz.f18 h)
def Kc(a0:Int)(a1:AV):Tree :=
 .done 0 [.ptr [.v (.int .u8 a0),VS (mk []),a1,.v (.pointer none)]] []
theorem Ol(a0:Int)(a1:AV)(ha1:LK.has .ptr a1)(h:eg 9 (Kc a0 a1) R):aB Tryz.prog 19 [.v (.int .u8 a0),a1] [] R :=
 uQ (aj (aD _) (aj (cK ha1) aJ)) (oQ [] Tryz.f19 h)
def F1(a0_0:AV)(a0_1:AV)(a1:AV)(a2:AV)(a3_0_0:AV)(a3_1_0:Int)(a3_2_0:AV)(a3_3_0:AV):Tree :=
 NZ a0_0<|NZ a0_0<|.al (LK.has (.int .u8) (a0_0.deref.hA)/\1<=a0_0.deref.length)<|.test (((a0_0.deref.hA).toInt)==(98:Int)) (.call 38 [.agg [a0_0,a0_1]] [] fun r1 o1=>NP r1<|.al (AV.qU r1/\AV.qU a2)<|.test (AV.BL r1 a2) (.call 16 [a1,.ref 0 0,.ref 1 0,.ref 2 0,.ref 3 0,.eJ 16 [some 0,some 1,some 2,some 3,none]] [.cells [a3_0_0],.cells [VI a3_1_0],.cells [a3_2_0],.cells [a3_3_0]] fun r2 o2=>.al ((o2.hO)=.cells (o2.hO).cs)<|.al (aO [.lk .ptr] ((o2.hO).cs) 0 1 o2.tail)<|.al ((o2.tail.hO)=.cells (o2.tail.hO).cs)<|.al (aO [.lk (.int .i64)] ((o2.tail.hO).cs) 0 2 o2.tail.tail)<|.al ((o2.tail.tail.hO)=.cells (o2.tail.tail.hO).cs)<|.al (aO [.lk .ptr] ((o2.tail.tail.hO).cs) 0 3 o2.tail.tail.tail)<|.al ((o2.tail.tail.tail.hO)=.cells (o2.tail.tail.tail.hO).cs)<|.al (aO [.lk .ptr] ((o2.tail.tail.tail.hO).cs) 0 4 o2.tail.tail.tail.tail)<|NP r2<|.done 0 [r2] [.cells [((o2.hO).cs.getD 0 .any)],.cells [VI (((o2.tail.hO).cs.getD 0 .any).toInt)],.cells [((o2.tail.tail.hO).cs.getD 0 .any)],.cells [((o2.tail.tail.tail.hO).cs.getD 0 .any)]]) (.call 38 [.agg [a0_0,a0_1]] [] fun r3 o3=>NP r3<|NZ r3<|NZ r3<|.al (cc [.ptr,.ptr] r3.deref 0/\2<=r3.deref.length)<|.call 20 [.agg [(r3.deref.getD 0 .any),(r3.deref.getD 1 .any)],a1,a2,.fn 16 [.ref 0 0,.ref 1 0,.ref 2 0,.ref 3 0,.eJ 16 [some 0,some 1,some 2,some 3,none]]] [.cells [a3_0_0],.cells [VI a3_1_0],.cells [a3_2_0],.cells [a3_3_0]] fun r4 o4=>.al ((o4.hO)=.cells (o4.hO).cs)<|.al (aO [.lk .ptr] ((o4.hO).cs) 0 1 o4.tail)<|.al ((o4.tail.hO)=.cells (o4.tail.hO).cs)<|.al (aO [.lk (.int .i64)] ((o4.tail.hO).cs) 0 2 o4.tail.tail)<|.al ((o4.tail.tail.hO)=.cells (o4.tail.tail.hO).cs)<|.al (aO [.lk .ptr] ((o4.tail.tail.hO).cs) 0 3 o4.tail.tail.tail)<|.al ((o4.tail.tail.tail.hO)=.cells (o4.tail.tail.tail.hO).cs)<|.al (aO [.lk .ptr] ((o4.tail.tail.tail.hO).cs) 0 4 o4.tail.tail.tail.tail)<|NP r4<|.done 0 [r4] [.cells [((o4.hO).cs.getD 0 .any)],.cells [VI (((o4.tail.hO).cs.getD 0 .any).toInt)],.cells [((o4.tail.tail.hO).cs.getD 0 .any)],.cells [((o4.tail.tail.tail.hO).cs.getD 0 .any)]])) (.test (((a0_0.deref.hA).toInt)==(43:Int)) (NZ a1<|NZ a1<|.al (LK.has (.int .u8) (a1.deref.hA)/\1<=a1.deref.length)<|.test (((a1.deref.hA).toInt)==(108:Int)) (.call 39 [.agg [a0_0,a0_1]] [] fun r5 o5=>.al (r5=.agg r5.cs/\r5.cs.length=2/\cc [.ptr,.ptr] r5.cs 0)<|NZ a1<|NZ a1<|im (a1.deref.drop 2)<|.call 20 [.agg [(r5.cs.getD 0 .any),(r5.cs.getD 1 .any)],((a1.deref.drop 2).hA),a2,.fn 16 [.ref 0 0,.ref 1 0,.ref 2 0,.ref 3 0,.eJ 16 [some 0,some 1,some 2,some 3,none]]] [.cells [a3_0_0],.cells [VI a3_1_0],.cells [a3_2_0],.cells [a3_3_0]] fun r6 o6=>.al ((o6.hO)=.cells (o6.hO).cs)<|.al (aO [.lk .ptr] ((o6.hO).cs) 0 1 o6.tail)<|.al ((o6.tail.hO)=.cells (o6.tail.hO).cs)<|.al (aO [.lk (.int .i64)] ((o6.tail.hO).cs) 0 2 o6.tail.tail)<|.al ((o6.tail.tail.hO)=.cells (o6.tail.tail.hO).cs)<|.al (aO [.lk .ptr] ((o6.tail.tail.hO).cs) 0 3 o6.tail.tail.tail)<|.al ((o6.tail.tail.tail.hO)=.cells (o6.tail.tail.tail.hO).cs)<|.al (aO [.lk .ptr] ((o6.tail.tail.tail.hO).cs) 0 4 o6.tail.tail.tail.tail)<|NP r6<|.call 19 [.v (.int .u8 108),r6] [] fun r7 o7=>NP r7<|.done 0 [r7] [.cells [((o6.hO).cs.getD 0 .any)],.cells [VI (((o6.tail.hO).cs.getD 0 .any).toInt)],.cells [((o6.tail.tail.hO).cs.getD 0 .any)],.cells [((o6.tail.tail.tail.hO).cs.getD 0 .any)]]) (.call 40 [.agg [a0_0,a0_1]] [] fun r8 o8=>.al (r8=.agg r8.cs/\r8.cs.length=2/\cc [.ptr,.ptr] r8.cs 0)<|NZ a1<|NZ a1<|im (a1.deref.drop 2)<|.call 20 [.agg [(r8.cs.getD 0 .any),(r8.cs.getD 1 .any)],((a1.deref.drop 2).hA),a2,.fn 16 [.ref 0 0,.ref 1 0,.ref 2 0,.ref 3 0,.eJ 16 [some 0,some 1,some 2,some 3,none]]] [.cells [a3_0_0],.cells [VI a3_1_0],.cells [a3_2_0],.cells [a3_3_0]] fun r9 o9=>.al ((o9.hO)=.cells (o9.hO).cs)<|.al (aO [.lk .ptr] ((o9.hO).cs) 0 1 o9.tail)<|.al ((o9.tail.hO)=.cells (o9.tail.hO).cs)<|.al (aO [.lk (.int .i64)] ((o9.tail.hO).cs) 0 2 o9.tail.tail)<|.al ((o9.tail.tail.hO)=.cells (o9.tail.tail.hO).cs)<|.al (aO [.lk .ptr] ((o9.tail.tail.hO).cs) 0 3 o9.tail.tail.tail)<|.al ((o9.tail.tail.tail.hO)=.cells (o9.tail.tail.tail.hO).cs)<|.al (aO [.lk .ptr] ((o9.tail.tail.tail.hO).cs) 0 4 o9.tail.tail.tail.tail)<|NP r9<|.call 19 [.v (.int .u8 114),r9] [] fun r10 o10=>NP r10<|.done 0 [r10] [.cells [((o9.hO).cs.getD 0 .any)],.cells [VI (((o9.tail.hO).cs.getD 0 .any).toInt)],.cells [((o9.tail.tail.hO).cs.getD 0 .any)],.cells [((o9.tail.tail.tail.hO).cs.getD 0 .any)]])) (.test (((a0_0.deref.hA).toInt)==(42:Int)) (.call 39 [.agg [a0_0,a0_1]] [] fun r11 o11=>.al (r11=.agg r11.cs/\r11.cs.length=2/\cc [.ptr,.ptr] r11.cs 0)<|NZ a1<|NZ a1<|im (a1.deref.drop 2)<|.call 20 [.agg [(r11.cs.getD 0 .any),(r11.cs.getD 1 .any)],((a1.deref.drop 2).hA),a2,.fn 16 [.ref 0 0,.ref 1 0,.ref 2 0,.ref 3 0,.eJ 16 [some 0,some 1,some 2,some 3,none]]] [.cells [a3_0_0],.cells [VI a3_1_0],.cells [a3_2_0],.cells [a3_3_0]] fun r12 o12=>.al ((o12.hO)=.cells (o12.hO).cs)<|.al (aO [.lk .ptr] ((o12.hO).cs) 0 1 o12.tail)<|.al ((o12.tail.hO)=.cells (o12.tail.hO).cs)<|.al (aO [.lk (.int .i64)] ((o12.tail.hO).cs) 0 2 o12.tail.tail)<|.al ((o12.tail.tail.hO)=.cells (o12.tail.tail.hO).cs)<|.al (aO [.lk .ptr] ((o12.tail.tail.hO).cs) 0 3 o12.tail.tail.tail)<|.al ((o12.tail.tail.tail.hO)=.cells (o12.tail.tail.tail.hO).cs)<|.al (aO [.lk .ptr] ((o12.tail.tail.tail.hO).cs) 0 4 o12.tail.tail.tail.tail)<|NP r12<|.call 40 [.agg [a0_0,a0_1]] [] fun r13 o13=>.al (r13=.agg r13.cs/\r13.cs.length=2/\cc [.ptr,.ptr] r13.cs 0)<|NZ a1<|NZ a1<|im (a1.deref.drop 3)<|.call 20 [.agg [(r13.cs.getD 0 .any),(r13.cs.getD 1 .any)],((a1.deref.drop 3).hA),a2,.fn 16 [.ref 0 0,.ref 1 0,.ref 2 0,.ref 3 0,.eJ 16 [some 0,some 1,some 2,some 3,none]]] [.cells [((o12.hO).cs.getD 0 .any)],.cells [VI (((o12.tail.hO).cs.getD 0 .any).toInt)],.cells [((o12.tail.tail.hO).cs.getD 0 .any)],.cells [((o12.tail.tail.tail.hO).cs.getD 0 .any)]] fun r14 o14=>.al ((o14.hO)=.cells (o14.hO).cs)<|.al (aO [.lk .ptr] ((o14.hO).cs) 0 1 o14.tail)<|.al ((o14.tail.hO)=.cells (o14.tail.hO).cs)<|.al (aO [.lk (.int .i64)] ((o14.tail.hO).cs) 0 2 o14.tail.tail)<|.al ((o14.tail.tail.hO)=.cells (o14.tail.tail.hO).cs)<|.al (aO [.lk .ptr] ((o14.tail.tail.hO).cs) 0 3 o14.tail.tail.tail)<|.al ((o14.tail.tail.tail.hO)=.cells (o14.tail.tail.tail.hO).cs)<|.al (aO [.lk .ptr] ((o14.tail.tail.tail.hO).cs) 0 4 o14.tail.tail.tail.tail)<|NP r14<|.call 41 [r12,r14] [] fun r15 o15=>NP r15<|.done 0 [r15] [.cells [((o14.hO).cs.getD 0 .any)],.cells [VI (((o14.tail.hO).cs.getD 0 .any).toInt)],.cells [((o14.tail.tail.hO).cs.getD 0 .any)],.cells [((o14.tail.tail.tail.hO).cs.getD 0 .any)]]) (.test (((a0_0.deref.hA).toInt)==(114:Int)) (.call 18 [.agg [a0_0,a0_1]] [] fun r16 o16=>NT r16<|.al ((r16.comp 0)=.agg (r16.comp 0).cs/\(r16.comp 0).cs.length=2/\cc [.ptr,.ptr] ((r16.comp 0).cs) 0)<|NP (r16.comp 1)<|NZ a1<|NZ a1<|im (a1.deref.drop 2)<|.call 20 [.agg [((r16.comp 0).cs.getD 0 .any),((r16.comp 0).cs.getD 1 .any)],((a1.deref.drop 2).hA),a2,.fn 16 [.ref 0 0,.ref 1 0,.ref 2 0,.ref 3 0,.eJ 16 [some 0,some 1,some 2,some 3,none]]] [.cells [a3_0_0],.cells [VI a3_1_0],.cells [a3_2_0],.cells [a3_3_0]] fun r17 o17=>.al ((o17.hO)=.cells (o17.hO).cs)<|.al (aO [.lk .ptr] ((o17.hO).cs) 0 1 o17.tail)<|.al ((o17.tail.hO)=.cells (o17.tail.hO).cs)<|.al (aO [.lk (.int .i64)] ((o17.tail.hO).cs) 0 2 o17.tail.tail)<|.al ((o17.tail.tail.hO)=.cells (o17.tail.tail.hO).cs)<|.al (aO [.lk .ptr] ((o17.tail.tail.hO).cs) 0 3 o17.tail.tail.tail)<|.al ((o17.tail.tail.tail.hO)=.cells (o17.tail.tail.tail.hO).cs)<|.al (aO [.lk .ptr] ((o17.tail.tail.tail.hO).cs) 0 4 o17.tail.tail.tail.tail)<|NP r17<|.call 19 [.v (.int .u8 102),r17] [] fun r18 o18=>NP r18<|.done 0 [r18] [.cells [((o17.hO).cs.getD 0 .any)],.cells [VI (((o17.tail.hO).cs.getD 0 .any).toInt)],.cells [((o17.tail.tail.hO).cs.getD 0 .any)],.cells [((o17.tail.tail.tail.hO).cs.getD 0 .any)]]) (.done 0 [a1] [.cells [a3_0_0],.cells [VI a3_1_0],.cells [a3_2_0],.cells [a3_3_0]]))))
theorem MT(a0_0:AV)(a0_1:AV)(a1:AV)(a2:AV)(a3_0_0:AV)(a3_1_0:Int)(a3_2_0:AV)(a3_3_0:AV)(ha0_0:LK.has .ptr a0_0)(ha0_1:LK.has .ptr a0_1)(ha1:LK.has .ptr a1)(ha2:LK.has .ptr a2)(ha3_0_0:LK.has .ptr a3_0_0)(ha3_2_0:LK.has .ptr a3_2_0)(ha3_3_0:LK.has .ptr a3_3_0)(h:eg 101 (F1 a0_0 a0_1 a1 a2 a3_0_0 a3_1_0 a3_2_0 a3_3_0) R):aB Tryz.prog 20 [.agg [a0_0,a0_1],a1,a2,.fn 16 [.ref 0 0,.ref 1 0,.ref 2 0,.ref 3 0,.eJ 16 [some 0,some 1,some 2,some 3,none]]] [.cells [a3_0_0],.cells [VI a3_1_0],.cells [a3_2_0],.cells [a3_3_0]] R :=
 aB.uf (cf (cN (aj (cK ha3_0_0) aJ)) (cf (cN (aj (aD _) aJ)) (cf (cN (aj (cK ha3_2_0) aJ)) (cf (cN (aj (cK ha3_3_0) aJ)) dC)))) (aB.up (aj (cD (aj (cK ha0_0) (aj (cK ha0_1) aJ))) (aj (cK ha1) (aj (cK ha2) (aj (aD _) aJ)))) (oF [] {mu:=[(3,.Ed [some (.obj [.lk .ptr]),some (.obj [.lk (.int .i64)]),some (.obj [.lk .ptr]),some (.obj [.lk .ptr])] 16 [some 0,some 1,some 2,some 3,none])],own:=[]} Tryz.f20 h))
def K4(a0:AV):Tree :=
 .call 42 [a0] [] fun r1 o1=>NI r1<|.test (decide (r1.toInt>(200:Int))) (.done 0 [.cP [VS (mk []),VB false]] []) (.call 17 [a0] [] fun r2 o2=>NS r2<|.done 0 [.cP [VS r2.toStr,VB true]] [])
theorem NK(a0:AV)(ha0:LK.has .ptr a0)(h:eg 9 (K4 a0) R):aB Tryz.prog 21 [a0] [] R :=
 uQ (aj (cK ha0) aJ) (oQ [] Tryz.f21 h)
def Lh(a0:AV):Tree :=
 NL a0<|.test (decide ((a0.elems.length:Int)>(2000:Int))) (.al (LK.has .sl a0/\0<=(0:Int)/\(0:Int)<=(2000:Int)/\(2000:Int)<=(a0.elems.length:Int))<|.done 0 [.ref 0 0] [.cells [.sl ((a0.elems.take (bQ 2000)).drop (bQ 0)),VI 0]]) (.done 0 [.ref 0 0] [.cells [a0,VI 0]])
theorem Nr(a0:AV)(ha0:LK.has .sl a0)(h:eg 11 (Lh a0) R):aB Tryz.prog 22 [a0] [] R :=
 uQ (aj (cd ha0) aJ) (oF [] {mu:=[],own:=[0],ow:=[.sl,.int .i64]} Tryz.f22 h)
def HX(a0_0:AV)(a0_1:Int):Tree :=
 .call 43 [.ref 0 0] [.cells [a0_0,VI a0_1]] fun r1 o1=>.al ((o1.hO)=.cells (o1.hO).cs)<|.al (aO [.lk .sl,.lk (.int .i64)] ((o1.hO).cs) 0 1 o1.tail)<|NS r1<|.call 26 [.ref 0 0,VI 12] [.cells [((o1.hO).cs.getD 0 .any),VI (((o1.hO).cs.getD 1 .any).toInt)]] fun r2 o2=>.al ((o2.hO)=.cells (o2.hO).cs)<|.al (aO [.lk .sl,.lk (.int .i64)] ((o2.hO).cs) 0 1 o2.tail)<|NI r2<|.test (r2.toInt==(0:Int)) (.call 44 [.ref 0 0] [.cells [((o2.hO).cs.getD 0 .any),VI (((o2.hO).cs.getD 1 .any).toInt)]] fun r3 o3=>.al ((o3.hO)=.cells (o3.hO).cs)<|.al (aO [.lk .sl,.lk (.int .i64)] ((o3.hO).cs) 0 1 o3.tail)<|NT r3<|NS (r3.comp 0)<|NS (r3.comp 1)<|.done 0 [.cP [VS ((r3.comp 0).toStr),VS ((r3.comp 1).toStr)]] [.cells [((o3.hO).cs.getD 0 .any),VI (((o3.hO).cs.getD 1 .any).toInt)]]) (.call 24 [.ref 0 0,VS r1.toStr] [.cells [((o2.hO).cs.getD 0 .any),VI (((o2.hO).cs.getD 1 .any).toInt)]] fun r4 o4=>.al ((o4.hO)=.cells (o4.hO).cs)<|.al (aO [.lk .sl,.lk (.int .i64)] ((o4.hO).cs) 0 1 o4.tail)<|NS r4<|.done 0 [.cP [VS r1.toStr,VS r4.toStr]] [.cells [((o4.hO).cs.getD 0 .any),VI (((o4.hO).cs.getD 1 .any).toInt)]])
theorem L0(a0_0:AV)(a0_1:Int)(ha0_0:LK.has .sl a0_0)(h:eg 18 (HX a0_0 a0_1) R):aB Tryz.prog 23 [.ref 0 0] [.cells [a0_0,VI a0_1]] R :=
 aB.uf (cf (cN (aj (cd ha0_0) (aj (aD _) aJ))) dC) (aB.up (aj (aD _) aJ) (oF [] {mu:=[(0,.one (.obj [.lk .sl,.lk (.int .i64)]))],own:=[]} Tryz.f23 h))
def Le(a0_0:AV)(a0_1:Int)(a1:ByteArray):Tree :=
 .call 28 [VS a1] [] fun r1 o1=>NT r1<|.al ((r1.comp 0)=.agg (r1.comp 0).cs/\(r1.comp 0).cs.length=2/\cc [.str,.sl] ((r1.comp 0).cs) 0)<|NB (r1.comp 1)<|.test (!((r1.comp 1).toBool)) (.call 45 [.ref 0 0,.sl [[VS (mk [])],[VS (mk [117])],[VS (mk [101,48])],[VS (mk [101,48,48])],[VS (mk [101,49,48,48])],[VS (mk [40,108,32,117,41])],[VS (mk [40,112,32,117,41])],[VS (mk [40,102,32,40,108,32,117,41,41])],[VS (mk [40,120,32,117,41])],[VS (mk [40,108,32,32,117,41])]]] [.cells [a0_0,VI a0_1]] fun r2 o2=>.al ((o2.hO)=.cells (o2.hO).cs)<|.al (aO [.lk .sl,.lk (.int .i64)] ((o2.hO).cs) 0 1 o2.tail)<|NS r2<|.done 0 [VS r2.toStr] [.cells [((o2.hO).cs.getD 0 .any),VI (((o2.hO).cs.getD 1 .any).toInt)]]) (.call 26 [.ref 0 0,VI 16] [.cells [a0_0,VI a0_1]] fun r3 o3=>.al ((o3.hO)=.cells (o3.hO).cs)<|.al (aO [.lk .sl,.lk (.int .i64)] ((o3.hO).cs) 0 1 o3.tail)<|NI r3<|.test (r3.toInt==(0:Int)) (.call 45 [.ref 0 0,.sl [[VS (mk [])],[VS (mk [117])],[VS (mk [101,48])],[VS (mk [101,48,48])],[VS (mk [101,49,48,48])],[VS (mk [40,108,32,117,41])],[VS (mk [40,112,32,117,41])],[VS (mk [40,102,32,40,108,32,117,41,41])],[VS (mk [40,120,32,117,41])],[VS (mk [40,108,32,32,117,41])]]] [.cells [((o3.hO).cs.getD 0 .any),VI (((o3.hO).cs.getD 1 .any).toInt)]] fun r4 o4=>.al ((o4.hO)=.cells (o4.hO).cs)<|.al (aO [.lk .sl,.lk (.int .i64)] ((o4.hO).cs) 0 1 o4.tail)<|NS r4<|.done 0 [VS r4.toStr] [.cells [((o4.hO).cs.getD 0 .any),VI (((o4.hO).cs.getD 1 .any).toInt)]]) (.call 47 [.agg [VS (((r1.comp 0).cs.getD 0 .any).toStr),((r1.comp 0).cs.getD 1 .any)],.v (.slice none 0 0)] [] fun r5 o5=>NA r5<|.call 26 [.ref 0 0,VI 5] [.cells [((o3.hO).cs.getD 0 .any),VI (((o3.hO).cs.getD 1 .any).toInt)]] fun r6 o6=>.al ((o6.hO)=.cells (o6.hO).cs)<|.al (aO [.lk .sl,.lk (.int .i64)] ((o6.hO).cs) 0 1 o6.tail)<|NI r6<|.call 46 [.ref 0 0,.agg [VS ((r5.cs.getD 0 .any).toStr),(r5.cs.getD 1 .any)],VI (IntKind.wrap .i64 (5+r6.toInt))] [.cells [((o6.hO).cs.getD 0 .any),VI (((o6.hO).cs.getD 1 .any).toInt)]] fun r7 o7=>.al ((o7.hO)=.cells (o7.hO).cs)<|.al (aO [.lk .sl,.lk (.int .i64)] ((o7.hO).cs) 0 1 o7.tail)<|NA r7<|.call 14 [.agg [VS ((r7.cs.getD 0 .any).toStr),(r7.cs.getD 1 .any)]] [] fun r8 o8=>NS r8<|.done 0 [VS r8.toStr] [.cells [((o7.hO).cs.getD 0 .any),VI (((o7.hO).cs.getD 1 .any).toInt)]]))
theorem MS(a0_0:AV)(a0_1:Int)(a1:ByteArray)(ha0_0:LK.has .sl a0_0)(h:eg 30 (Le a0_0 a0_1 a1) R):aB Tryz.prog 24 [.ref 0 0,VS a1] [.cells [a0_0,VI a0_1]] R :=
 aB.uf (cf (cN (aj (cd ha0_0) (aj (aD _) aJ))) dC) (aB.up (aj (aD _) (aj (aD _) aJ)) (oF [] {mu:=[(0,.one (.obj [.lk .sl,.lk (.int .i64)]))],own:=[]} Tryz.f24 h))
def Gp:LI:={hd:={ck:=[(6,.k .sl),(7,.k .bool),(9,.k (.int .i64))],eG:=[(8,1)]},xs:={ck:=[(7,.k .bool)],eG:=[(8,1)]},rt:={},ex:=0}
def Jz:Code:=dF (dx Tryz.f25) 4
def KV:List (Nat×LI):=[(4,Gp)]
def HY(a0:ByteArray)(a1:ByteArray):Tree :=
 .call 48 [VS a0,VS a1] [] fun r1 o1=>NT r1<|NL (r1.comp 0)<|NB (r1.comp 1)<|.loop Jz Gp [(r1.comp 0),VB ((r1.comp 1).toBool),VI 0] [.vec 1 []] (fun y2 q2=>NB (y2.hA)<|.al (((q2.drop 0).hO)=.vec 1 ((q2.drop 0).hO).es)<|.done 0 [.cP [.sl ((q2.hO).es),VB ((y2.hA).toBool)]] []) (fun y2 q2=>.done 0 [.cP [.any,.any]] [])
theorem L6(a0:ByteArray)(a1:ByteArray)(h:eg 36 (HY a0 a1) R):aB Tryz.prog 25 [VS a0,VS a1] [] R :=
 uQ (aj (aD _) (aj (aD _) aJ)) (oQ KV Tryz.f25 h)
def CE(x6:AV)(x7:Bool)(x9:Int)(e8:List (List AV)):Tree :=
 NL x6<|NB (VB x7)<|NI (VI x9)<|.al (Ob.vec 1 e8=.vec 1 e8)<|NL x6<|.test (decide (x9<(x6.elems.length:Int))) (.test x7 (NG x6 x9 3<|nM ((x6.ix x9).drop 1)<|.al (cI 1 [[VS ((((x6.ix x9).drop 1).hA).toStr)]]/\((e8.length)+([[VS ((((x6.ix x9).drop 1).hA).toStr)]]:List (List AV)).length)*16<=140737488355328)<|.done 0 [x6,VB x7,VI (IntKind.wrap .i64 (x9+1))] [.vec 1 (e8++([[VS ((((x6.ix x9).drop 1).hA).toStr)]]:List (List AV)))]) (.done 1 [VB x7] [.vec 1 e8])) (.done 1 [VB x7] [.vec 1 e8])
abbrev FB:=cW Tryz.prog 36 Jz Gp
theorem F0(x6:AV)(x7:Bool)(x9:Int)(e8:List (List AV))(h:oW 36 (CE x6 x7 x9 e8) FB U):FB [x6,VB x7,VI x9] [.vec 1 e8] U :=
 gQ KV h
def Ik(a0_0:AV)(a0_1:Int)(a1:Int):Tree :=
 .test (decide (a1<(1:Int))) (.done 0 [VI 0] [.cells [a0_0,VI (IntKind.wrap .i64 (a0_1+1))]]) (NL a0_0<|.test ((a0_0.elems.length:Int)==(0:Int)) (.done 0 [VI 0] [.cells [a0_0,VI (IntKind.wrap .i64 (a0_1+1))]]) (NL a0_0<|.test (decide ((IntKind.wrap .i64 ((IntKind.wrap .i64 (a0_1+1))-1))<(a0_0.elems.length:Int))) (.al (LK.has .sl a0_0/\0<=(IntKind.wrap .i64 ((IntKind.wrap .i64 (a0_1+1))-1))/\(IntKind.wrap .i64 ((IntKind.wrap .i64 (a0_1+1))-1))<a0_0.elems.length/\(a0_0.ix (IntKind.wrap .i64 ((IntKind.wrap .i64 (a0_1+1))-1))).length=1)<|.al (LK.has (.int .u8) ((a0_0.ix (IntKind.wrap .i64 ((IntKind.wrap .i64 (a0_1+1))-1))).hA)/\1<=(a0_0.ix (IntKind.wrap .i64 ((IntKind.wrap .i64 (a0_1+1))-1))).length)<|.al (¬a1=0)<|.done 0 [VI (dr (IntKind.wrap .i64 (((a0_0.ix (IntKind.wrap .i64 ((IntKind.wrap .i64 (a0_1+1))-1))).hA).toInt)) a1)] [.cells [a0_0,VI (IntKind.wrap .i64 (a0_1+1))]]) (NL a0_0<|.al (¬(a0_0.elems.length:Int)=0)<|.al (LK.has .sl a0_0/\0<=(dr (IntKind.wrap .i64 ((IntKind.wrap .i64 (a0_1+1))-1)) (a0_0.elems.length:Int))/\(dr (IntKind.wrap .i64 ((IntKind.wrap .i64 (a0_1+1))-1)) (a0_0.elems.length:Int))<a0_0.elems.length/\(a0_0.ix (dr (IntKind.wrap .i64 ((IntKind.wrap .i64 (a0_1+1))-1)) (a0_0.elems.length:Int))).length=1)<|.al (LK.has (.int .u8) ((a0_0.ix (dr (IntKind.wrap .i64 ((IntKind.wrap .i64 (a0_1+1))-1)) (a0_0.elems.length:Int))).hA)/\1<=(a0_0.ix (dr (IntKind.wrap .i64 ((IntKind.wrap .i64 (a0_1+1))-1)) (a0_0.elems.length:Int))).length)<|NL a0_0<|.al (¬(a0_0.elems.length:Int)=0)<|.al (LK.has .sl a0_0/\0<=(dr (IntKind.wrap .i64 ((IntKind.wrap .i64 ((IntKind.wrap .i64 ((IntKind.wrap .i64 (a0_1+1))-1))*7))+3)) (a0_0.elems.length:Int))/\(dr (IntKind.wrap .i64 ((IntKind.wrap .i64 ((IntKind.wrap .i64 ((IntKind.wrap .i64 (a0_1+1))-1))*7))+3)) (a0_0.elems.length:Int))<a0_0.elems.length/\(a0_0.ix (dr (IntKind.wrap .i64 ((IntKind.wrap .i64 ((IntKind.wrap .i64 ((IntKind.wrap .i64 (a0_1+1))-1))*7))+3)) (a0_0.elems.length:Int))).length=1)<|.al (LK.has (.int .u8) ((a0_0.ix (dr (IntKind.wrap .i64 ((IntKind.wrap .i64 ((IntKind.wrap .i64 ((IntKind.wrap .i64 (a0_1+1))-1))*7))+3)) (a0_0.elems.length:Int))).hA)/\1<=(a0_0.ix (dr (IntKind.wrap .i64 ((IntKind.wrap .i64 ((IntKind.wrap .i64 ((IntKind.wrap .i64 (a0_1+1))-1))*7))+3)) (a0_0.elems.length:Int))).length)<|NL a0_0<|.al (¬(a0_0.elems.length:Int)=0)<|.al (¬(64:Int)=0)<|.al (¬a1=0)<|.done 0 [VI (dr (Ab .i64 (IntKind.wrap .i64 ((IntKind.wrap .i64 ((IntKind.wrap .i64 ((IntKind.wrap .i64 ((IntKind.wrap .i64 (((a0_0.ix (dr (IntKind.wrap .i64 ((IntKind.wrap .i64 (a0_1+1))-1)) (a0_0.elems.length:Int))).hA).toInt))*131))+(IntKind.wrap .i64 ((IntKind.wrap .i64 (((a0_0.ix (dr (IntKind.wrap .i64 ((IntKind.wrap .i64 ((IntKind.wrap .i64 ((IntKind.wrap .i64 (a0_1+1))-1))*7))+3)) (a0_0.elems.length:Int))).hA).toInt))*1117))))+(IntKind.wrap .i64 ((IntKind.wrap .i64 ((IntKind.wrap .i64 (a0_1+1))-1))*29))))+(IntKind.wrap .i64 ((IntKind.wrap .i64 (eE (IntKind.wrap .i64 ((IntKind.wrap .i64 (a0_1+1))-1)) (a0_0.elems.length:Int)))*53)))) (IntKind.wrap .i64 (eE (IntKind.wrap .i64 ((IntKind.wrap .i64 ((IntKind.wrap .i64 ((IntKind.wrap .i64 ((IntKind.wrap .i64 (((a0_0.ix (dr (IntKind.wrap .i64 ((IntKind.wrap .i64 (a0_1+1))-1)) (a0_0.elems.length:Int))).hA).toInt))*131))+(IntKind.wrap .i64 ((IntKind.wrap .i64 (((a0_0.ix (dr (IntKind.wrap .i64 ((IntKind.wrap .i64 ((IntKind.wrap .i64 ((IntKind.wrap .i64 (a0_1+1))-1))*7))+3)) (a0_0.elems.length:Int))).hA).toInt))*1117))))+(IntKind.wrap .i64 ((IntKind.wrap .i64 ((IntKind.wrap .i64 (a0_1+1))-1))*29))))+(IntKind.wrap .i64 ((IntKind.wrap .i64 (eE (IntKind.wrap .i64 ((IntKind.wrap .i64 (a0_1+1))-1)) (a0_0.elems.length:Int)))*53)))) 64))) a1)] [.cells [a0_0,VI (IntKind.wrap .i64 (a0_1+1))]])))
theorem NF(a0_0:AV)(a0_1:Int)(a1:Int)(ha0_0:LK.has .sl a0_0)(h:eg 99 (Ik a0_0 a0_1 a1) R):aB Tryz.prog 26 [.ref 0 0,VI a1] [.cells [a0_0,VI a0_1]] R :=
 aB.uf (cf (cN (aj (cd ha0_0) (aj (aD _) aJ))) dC) (aB.up (aj (aD _) (aj (aD _) aJ)) (oF [] {mu:=[(0,.one (.obj [.lk .sl,.lk (.int .i64)]))],own:=[]} Tryz.f26 h))
def Ix(a0:ByteArray)(a1:ByteArray)(a2:Int):Tree :=
 .call 49 [VS a0] [] fun r1 o1=>NP r1<|.call 50 [VS a1] [] fun r2 o2=>NP r2<|NP r1<|.test r1.isNil (.done 0 [.cP [r1,.v (.pointer none)]] []) (NP r2<|.test r2.isNil (.done 0 [.cP [r1,.v (.pointer none)]] []) (.test (decide (a2<(0:Int))) (.done 0 [.cP [r1,.v (.pointer none)]] []) (.test (decide (a2>(100:Int))) (.done 0 [.cP [r1,.v (.pointer none)]] []) (.call 51 [.agg [r1,.v (.pointer none)],r2,VI a2] [] fun r3 o3=>NB r3<|.test (!r3.toBool) (.done 0 [.cP [r1,.v (.pointer none)]] []) (.done 0 [.cP [r1,r2]] [])))))
theorem Nh(a0:ByteArray)(a1:ByteArray)(a2:Int)(h:eg 39 (Ix a0 a1 a2) R):aB Tryz.prog 27 [VS a0,VS a1,VI a2] [] R :=
 uQ (aj (aD _) (aj (aD _) (aj (aD _) aJ))) (oQ [] Tryz.f27 h)
def Er:LI:={hd:={ck:=[(7,.k (.int .i64))],refs:=[(2,2),(4,4)],cM:=[(2,[.lk .str,.lk .sl]),(4,[.lk .str,.lk .sl])],eG:=[(6,1)]},xs:={refs:=[(2,2),(4,4)],cM:=[(2,[.lk .str,.lk .sl]),(4,[.lk .str,.lk .sl])]},rt:={ck:=[(3,.k .bool)],refs:=[(2,2)],cM:=[(2,[.lk .str,.lk .sl])]},ex:=0}
def JP:Code:=dF (dx Tryz.f28) 6
def K8:List (Nat×LI):=[(6,Er)]
def J0(a0:ByteArray):Tree :=
 .call 52 [VS a0] [] fun r1 o1=>NT r1<|.al ((r1.comp 0)=.agg (r1.comp 0).cs/\(r1.comp 0).cs.length=2/\cc [.str,.sl] ((r1.comp 0).cs) 0)<|NB (r1.comp 1)<|.test (!((r1.comp 1).toBool)) (.done 0 [.cP [.agg [VS (((r1.comp 0).cs.getD 0 .any).toStr),((r1.comp 0).cs.getD 1 .any)],VB false]] []) (.call 53 [.agg [VS (((r1.comp 0).cs.getD 0 .any).toStr),((r1.comp 0).cs.getD 1 .any)],.sl [],.vec 0] [.vec 1 []] fun r2 o2=>.al (r2=.vec 1/\(o2.tail.hO)=.vec 1 (o2.tail.hO).es)<|.loop JP Er [VI 0] [.cells [VS (mk []),.v (.slice none 0 0)],.cells [VS (((r1.comp 0).cs.getD 0 .any).toStr),((r1.comp 0).cs.getD 1 .any)],.vec 1 ((o2.tail.hO).es)] (fun y4 q4=>.al ((q4.hO)=.cells (q4.hO).cs)<|.al (ah [.lk .str,.lk .sl] ((q4.hO).cs) 0 q4.tail)<|.al (((q4.tail.drop 0).hO)=.cells ((q4.tail.drop 0).hO).cs)<|.al (ah [.lk .str,.lk .sl] (((q4.tail.drop 0).hO).cs) 0 ((q4.tail.drop 0).tail))<|.done 0 [.cP [.agg [VS (((q4.tail.hO).cs.getD 0 .any).toStr),((q4.tail.hO).cs.getD 1 .any)],VB true]] []) (fun y4 q4=>NB (y4.hA)<|.al ((q4.hO)=.cells (q4.hO).cs)<|.al (ah [.lk .str,.lk .sl] ((q4.hO).cs) 0 q4.tail)<|.done 0 [.cP [.agg [VS (((q4.hO).cs.getD 0 .any).toStr),((q4.hO).cs.getD 1 .any)],VB ((y4.hA).toBool)]] []))
theorem Nb(a0:ByteArray)(h:eg 33 (J0 a0) R):aB Tryz.prog 28 [VS a0] [] R :=
 uQ (aj (aD _) aJ) (oQ K8 Tryz.f28 h)
def GO(x7:Int)(o2_0:ByteArray)(o2_1:AV)(o4_0:ByteArray)(o4_1:AV)(e6:List (List AV)):Tree :=
 NI (VI x7)<|.al (Ob.cells [VS o2_0,o2_1]=.cells [VS o2_0,o2_1])<|.al (ah [.lk .str,.lk .sl] [VS o2_0,o2_1] 0 [.cells [VS o4_0,o4_1],.vec 1 e6])<|.al (Ob.cells [VS o4_0,o4_1]=.cells [VS o4_0,o4_1])<|.al (ah [.lk .str,.lk .sl] [VS o4_0,o4_1] 0 [.vec 1 e6])<|.al (Ob.vec 1 e6=.vec 1 e6)<|.test (decide (x7<(e6.length:Int))) (.al (0<=x7/\x7<e6.length)<|.al (x7.toNat<e6.length/\0<(e6.getD x7.toNat []).length/\LK.has .str ((e6.getD x7.toNat []).getD 0 .any))<|.call 54 [VS (((e6.getD x7.toNat []).getD 0 .any).toStr)] [] fun r1 o1=>NB r1<|.test r1.toBool (.done 2 [VB false] [.cells [VS o4_0,o4_1]]) (.done 0 [VI (IntKind.wrap .i64 (x7+1))] [.cells [VS o2_0,o2_1],.cells [VS o4_0,o4_1],.vec 1 e6])) (.done 1 [] [.cells [VS o2_0,o2_1],.cells [VS o4_0,o4_1]])
abbrev FF:=cW Tryz.prog 33 JP Er
theorem Kg(x7:Int)(o2_0:ByteArray)(o2_1:AV)(o4_0:ByteArray)(o4_1:AV)(e6:List (List AV))(h:oW 33 (GO x7 o2_0 o2_1 o4_0 o4_1 e6) FF U):FF [VI x7] [.cells [VS o2_0,o2_1],.cells [VS o4_0,o4_1],.vec 1 e6] U :=
 gQ K8 h
def C4(a0_0:ByteArray)(a0_1:AV):Tree :=
 .test (!(ae a0_0==ae (mk []))) (.done 0 [VS (mk [])] []) (NL a0_1<|.test ((a0_1.elems.length:Int)==(0:Int)) (.done 0 [VS (mk [])] []) (NG a0_1 0 2<|nM (a0_1.ix (0:Int))<|.done 0 [VS (((a0_1.ix (0:Int)).hA).toStr)] []))
theorem Fm(a0_0:ByteArray)(a0_1:AV)(ha0_1:LK.has .sl a0_1)(h:eg 17 (C4 a0_0 a0_1) R):aB Tryz.prog 29 [.agg [VS a0_0,a0_1]] [] R :=
 uQ (aj (cD (aj (aD _) (aj (cd ha0_1) aJ))) aJ) (oQ [] Tryz.f29 h)
def I7(a0:Int)(a1:Int)(a2:Int):Tree :=
 .test (decide (a0≥a1)) (.done 0 [VB (decide (a0<=a2))] []) (.done 0 [VB false] [])
theorem MI(a0:Int)(a1:Int)(a2:Int)(h:eg 15 (I7 a0 a1 a2) R):aB Tryz.prog 30 [VI a0,VI a1,VI a2] [] R :=
 uQ (aj (aD _) (aj (aD _) (aj (aD _) aJ))) (oQ [] Tryz.f30 h)
def IS(a0_0:ByteArray)(a0_1:AV)(a1:AV)(a2_0:ByteArray)(a2_1:AV)(a3:Int):Tree :=
 .call 55 [.agg [VS a0_0,a0_1],a1] [] fun r1 o1=>NT r1<|.al ((r1.comp 0)=.agg (r1.comp 0).cs/\(r1.comp 0).cs.length=2/\cc [.str,.sl] ((r1.comp 0).cs) 0)<|NL (r1.comp 1)<|.test (!(ae (((r1.comp 0).cs.getD 0 .any).toStr)==ae (mk []))) (.test (ae (((r1.comp 0).cs.getD 0 .any).toStr)==ae (mk [49])) (.done 0 [VB (ae a2_0==ae (mk [117]))] []) (.call 56 [VS (((r1.comp 0).cs.getD 0 .any).toStr)] [] fun r2 o2=>NB r2<|.test r2.toBool (.call 57 [VS a2_0] [] fun r3 o3=>NI r3<|.call 30 [VI r3.toInt,VI 0,VI (IntKind.wrap .i64 (a3-1))] [] fun r4 o4=>NB r4<|.done 0 [VB r4.toBool] []) (.done 0 [VB false] []))) (.call 29 [.agg [VS (((r1.comp 0).cs.getD 0 .any).toStr),((r1.comp 0).cs.getD 1 .any)]] [] fun r5 o5=>NS r5<|.call 29 [.agg [VS a2_0,a2_1]] [] fun r6 o6=>NS r6<|.al (af r5.toStr+af r6.toStr<=9223372036854775807)<|.test (ae ((r5.toStr:ByteArray)++r6.toStr)==ae (mk [43,108])) (NG ((r1.comp 0).cs.getD 1 .any) 1 2<|NE (((r1.comp 0).cs.getD 1 .any).ix (1:Int))<|NG a2_1 1 2<|NE (a2_1.ix (1:Int))<|.call 31 [.agg [VS (((((r1.comp 0).cs.getD 1 .any).ix (1:Int)).getD 0 .any).toStr),((((r1.comp 0).cs.getD 1 .any).ix (1:Int)).getD 1 .any)],(r1.comp 1),.agg [VS (((a2_1.ix (1:Int)).getD 0 .any).toStr),((a2_1.ix (1:Int)).getD 1 .any)],VI a3] [] fun r7 o7=>NB r7<|.done 0 [VB r7.toBool] []) (.test (ae ((r5.toStr:ByteArray)++r6.toStr)==ae (mk [43,114])) (NG ((r1.comp 0).cs.getD 1 .any) 2 2<|NE (((r1.comp 0).cs.getD 1 .any).ix (2:Int))<|NG a2_1 1 2<|NE (a2_1.ix (1:Int))<|.call 31 [.agg [VS (((((r1.comp 0).cs.getD 1 .any).ix (2:Int)).getD 0 .any).toStr),((((r1.comp 0).cs.getD 1 .any).ix (2:Int)).getD 1 .any)],(r1.comp 1),.agg [VS (((a2_1.ix (1:Int)).getD 0 .any).toStr),((a2_1.ix (1:Int)).getD 1 .any)],VI a3] [] fun r8 o8=>NB r8<|.done 0 [VB r8.toBool] []) (.test (ae ((r5.toStr:ByteArray)++r6.toStr)==ae (mk [42,112])) (NG ((r1.comp 0).cs.getD 1 .any) 1 2<|NE (((r1.comp 0).cs.getD 1 .any).ix (1:Int))<|NG a2_1 1 2<|NE (a2_1.ix (1:Int))<|.call 31 [.agg [VS (((((r1.comp 0).cs.getD 1 .any).ix (1:Int)).getD 0 .any).toStr),((((r1.comp 0).cs.getD 1 .any).ix (1:Int)).getD 1 .any)],(r1.comp 1),.agg [VS (((a2_1.ix (1:Int)).getD 0 .any).toStr),((a2_1.ix (1:Int)).getD 1 .any)],VI a3] [] fun r9 o9=>NB r9<|.test r9.toBool (NG ((r1.comp 0).cs.getD 1 .any) 2 2<|NE (((r1.comp 0).cs.getD 1 .any).ix (2:Int))<|NG a2_1 2 2<|NE (a2_1.ix (2:Int))<|.call 31 [.agg [VS (((((r1.comp 0).cs.getD 1 .any).ix (2:Int)).getD 0 .any).toStr),((((r1.comp 0).cs.getD 1 .any).ix (2:Int)).getD 1 .any)],(r1.comp 1),.agg [VS (((a2_1.ix (2:Int)).getD 0 .any).toStr),((a2_1.ix (2:Int)).getD 1 .any)],VI a3] [] fun r10 o10=>NB r10<|.done 0 [VB r10.toBool] []) (.done 0 [VB false] [])) (.test (ae ((r5.toStr:ByteArray)++r6.toStr)==ae (mk [114,101,99,102])) (.call 58 [.agg [VS (((r1.comp 0).cs.getD 0 .any).toStr),((r1.comp 0).cs.getD 1 .any)],(r1.comp 1)] [] fun r11 o11=>NT r11<|.al ((r11.comp 0)=.agg (r11.comp 0).cs/\(r11.comp 0).cs.length=2/\cc [.str,.sl] ((r11.comp 0).cs) 0)<|NL (r11.comp 1)<|NG a2_1 1 2<|NE (a2_1.ix (1:Int))<|.call 31 [.agg [VS (((r11.comp 0).cs.getD 0 .any).toStr),((r11.comp 0).cs.getD 1 .any)],(r11.comp 1),.agg [VS (((a2_1.ix (1:Int)).getD 0 .any).toStr),((a2_1.ix (1:Int)).getD 1 .any)],VI a3] [] fun r12 o12=>NB r12<|.done 0 [VB r12.toBool] []) (.done 0 [VB false] [])))))
theorem Mf(a0_0:ByteArray)(a0_1:AV)(a1:AV)(a2_0:ByteArray)(a2_1:AV)(a3:Int)(ha0_1:LK.has .sl a0_1)(ha1:LK.has .sl a1)(ha2_1:LK.has .sl a2_1)(h:eg 110 (IS a0_0 a0_1 a1 a2_0 a2_1 a3) R):aB Tryz.prog 31 [.agg [VS a0_0,a0_1],a1,.agg [VS a2_0,a2_1],VI a3] [] R :=
 uQ (aj (cD (aj (aD _) (aj (cd ha0_1) aJ))) (aj (cd ha1) (aj (cD (aj (aD _) (aj (cd ha2_1) aJ))) (aj (aD _) aJ)))) (oQ [] Tryz.f31 h)
def KG(a0:ByteArray):Tree :=
 .test (decide ((af a0:Int)>(8000:Int))) (.done 0 [.cP [.agg [VS (mk []),.v (.slice none 0 0)],VB false]] []) (.call 59 [VS a0,VI 0,VI 0] [] fun r1 o1=>NT r1<|.al ((r1.comp 0)=.agg (r1.comp 0).cs/\(r1.comp 0).cs.length=2/\cc [.str,.sl] ((r1.comp 0).cs) 0)<|NI (r1.comp 1)<|.done 0 [.cP [.agg [VS (((r1.comp 0).cs.getD 0 .any).toStr),((r1.comp 0).cs.getD 1 .any)],VB (((r1.comp 1).toInt)==(af a0:Int))]] [])
theorem LW(a0:ByteArray)(h:eg 20 (KG a0) R):aB Tryz.prog 32 [VS a0] [] R :=
 uQ (aj (aD _) aJ) (oQ [] Tryz.f32 h)
def GG(a0_0:ByteArray)(a0_1:AV):Tree :=
 .test (!(ae a0_0==ae (mk []))) (.test (ae a0_0==ae (mk [117])) (.done 0 [VB true] []) (.call 57 [VS a0_0] [] fun r1 o1=>NI r1<|.done 0 [VB (decide (r1.toInt≥(0:Int)))] [])) (.call 29 [.agg [VS a0_0,a0_1]] [] fun r2 o2=>NS r2<|.test (ae r2.toStr==ae (mk [108])) (NL a0_1<|.test ((a0_1.elems.length:Int)==(2:Int)) (NG a0_1 1 2<|NE (a0_1.ix (1:Int))<|.call 33 [.agg [VS (((a0_1.ix (1:Int)).getD 0 .any).toStr),((a0_1.ix (1:Int)).getD 1 .any)]] [] fun r3 o3=>NB r3<|.done 0 [VB r3.toBool] []) (.done 0 [VB false] [])) (.test (ae r2.toStr==ae (mk [114])) (NL a0_1<|.test ((a0_1.elems.length:Int)==(2:Int)) (NG a0_1 1 2<|NE (a0_1.ix (1:Int))<|.call 33 [.agg [VS (((a0_1.ix (1:Int)).getD 0 .any).toStr),((a0_1.ix (1:Int)).getD 1 .any)]] [] fun r4 o4=>NB r4<|.done 0 [VB r4.toBool] []) (.done 0 [VB false] [])) (.test (ae r2.toStr==ae (mk [102])) (NL a0_1<|.test ((a0_1.elems.length:Int)==(2:Int)) (NG a0_1 1 2<|NE (a0_1.ix (1:Int))<|.call 33 [.agg [VS (((a0_1.ix (1:Int)).getD 0 .any).toStr),((a0_1.ix (1:Int)).getD 1 .any)]] [] fun r5 o5=>NB r5<|.done 0 [VB r5.toBool] []) (.done 0 [VB false] [])) (.test (ae r2.toStr==ae (mk [112])) (NL a0_1<|.test ((a0_1.elems.length:Int)==(3:Int)) (NG a0_1 1 2<|NE (a0_1.ix (1:Int))<|.call 33 [.agg [VS (((a0_1.ix (1:Int)).getD 0 .any).toStr),((a0_1.ix (1:Int)).getD 1 .any)]] [] fun r6 o6=>NB r6<|.test r6.toBool (NG a0_1 2 2<|NE (a0_1.ix (2:Int))<|.call 33 [.agg [VS (((a0_1.ix (2:Int)).getD 0 .any).toStr),((a0_1.ix (2:Int)).getD 1 .any)]] [] fun r7 o7=>NB r7<|.done 0 [VB r7.toBool] []) (.done 0 [VB false] [])) (.done 0 [VB false] [])) (.done 0 [VB false] [])))))
theorem Ho(a0_0:ByteArray)(a0_1:AV)(ha0_1:LK.has .sl a0_1)(h:eg 52 (GG a0_0 a0_1) R):aB Tryz.prog 33 [.agg [VS a0_0,a0_1]] [] R :=
 uQ (aj (cD (aj (aD _) (aj (cd ha0_1) aJ))) aJ) (oQ [] Tryz.f33 h)
def EJ:LI:={hd:={ck:=[(1,.k .str),(8,.k .sl),(9,.k (.int .i64))],refs:=[(3,3),(5,5)],cM:=[(3,[.lk .str,.lk .sl]),(5,[.lk .str,.lk .sl])],eG:=[(7,4)]},xs:={ck:=[(1,.k .str)],refs:=[(3,3),(5,5)],cM:=[(3,[.lk .str,.lk .sl]),(5,[.lk .str,.lk .sl])],eG:=[(7,4)]},rt:={},ex:=1}
def IB:Code:=dF (dx Tryz.f34) 14
def Gu:LI:={hd:={ck:=[(10,.k .sl),(11,.k (.int .i64))],refs:=[(5,5)],cM:=[(5,[.lk .str,.lk .sl])],eG:=[(7,4)]},xs:={eG:=[(7,4)]},rt:={},ex:=3}
def Ls:Code:=dF (dx Tryz.f34) 19
def F4:LI:={hd:={ck:=[(1,.k .str),(12,.k .str),(13,.k .sl),(14,.k (.int .i64))],refs:=[(3,3),(5,5)],cM:=[(3,[.lk .str,.lk .sl]),(5,[.lk .str,.lk .sl])],eG:=[(7,4)]},xs:={ck:=[(1,.k .str),(12,.k .str)],refs:=[(3,3),(5,5)],cM:=[(3,[.lk .str,.lk .sl]),(5,[.lk .str,.lk .sl])],eG:=[(7,4)]},rt:={},ex:=5}
def H4:Code:=dF (dx Tryz.f34) 28
def EF:LI:={hd:={ck:=[(1,.k .str),(15,.k .sl),(16,.k (.int .i64))],refs:=[(3,3)],cM:=[(3,[.lk .str,.lk .sl])],eG:=[(7,4)]},xs:={eG:=[(7,4)]},rt:={},ex:=7}
def K6:Code:=dF (dx Tryz.f34) 33
def FO:LI:={hd:={ck:=[(1,.k .str),(15,.k .sl),(16,.k (.int .i64)),(17,.k .sl),(18,.k (.int .i64))],refs:=[(3,3)],cM:=[(3,[.lk .str,.lk .sl])],eG:=[(7,4)]},xs:={ck:=[(1,.k .str),(15,.k .sl),(16,.k (.int .i64))],refs:=[(3,3)],cM:=[(3,[.lk .str,.lk .sl])],eG:=[(7,4)]},rt:={},ex:=9}
def Lp:Code:=dF (dx Tryz.f34) 37
def Hd:List (Nat×LI):=[(14,EJ),(19,Gu),(28,F4),(33,EF),(37,FO)]
def GJ(a0_0:ByteArray)(a0_1:AV)(a1:ByteArray)(a2_0:ByteArray)(a2_1:AV):Tree :=
 .test (!(ae a0_0==ae (mk []))) (.test (ae a0_0==ae a1) (.al (cI 4 [[VS (mk [117]),.v (.slice none 0 0),VS a2_0,a2_1]]/\((([]:List (List AV)).length)+([[VS (mk [117]),.v (.slice none 0 0),VS a2_0,a2_1]]:List (List AV)).length)*80<=140737488355328)<|.done 0 [.sl [[VS (mk [117]),.v (.slice none 0 0),VS a2_0,a2_1]]] []) (.done 0 [.sl []] [])) (.call 29 [.agg [VS a2_0,a2_1]] [] fun r1 o1=>NS r1<|.test (ae r1.toStr==ae (mk [108])) (NG a0_1 1 2<|NE (a0_1.ix (1:Int))<|NG a2_1 1 2<|NE (a2_1.ix (1:Int))<|.call 34 [.agg [VS (((a0_1.ix (1:Int)).getD 0 .any).toStr),((a0_1.ix (1:Int)).getD 1 .any)],VS a1,.agg [VS (((a2_1.ix (1:Int)).getD 0 .any).toStr),((a2_1.ix (1:Int)).getD 1 .any)]] [] fun r2 o2=>NL r2<|.call 60 [r2,VS (mk [108]),.vec 0] [.vec 4 []] fun r3 o3=>.al (r3=.vec 1/\(o3.tail.hO)=.vec 4 (o3.tail.hO).es)<|.done 0 [.sl ((o3.tail.hO).es)] []) (.test (ae r1.toStr==ae (mk [114])) (NG a0_1 2 2<|NE (a0_1.ix (2:Int))<|NG a2_1 1 2<|NE (a2_1.ix (1:Int))<|.call 34 [.agg [VS (((a0_1.ix (2:Int)).getD 0 .any).toStr),((a0_1.ix (2:Int)).getD 1 .any)],VS a1,.agg [VS (((a2_1.ix (1:Int)).getD 0 .any).toStr),((a2_1.ix (1:Int)).getD 1 .any)]] [] fun r4 o4=>NL r4<|.call 60 [r4,VS (mk [114]),.vec 0] [.vec 4 []] fun r5 o5=>.al (r5=.vec 1/\(o5.tail.hO)=.vec 4 (o5.tail.hO).es)<|.done 0 [.sl ((o5.tail.hO).es)] []) (.test (ae r1.toStr==ae (mk [112])) (NG a0_1 1 2<|NE (a0_1.ix (1:Int))<|NG a2_1 1 2<|NE (a2_1.ix (1:Int))<|.call 34 [.agg [VS (((a0_1.ix (1:Int)).getD 0 .any).toStr),((a0_1.ix (1:Int)).getD 1 .any)],VS a1,.agg [VS (((a2_1.ix (1:Int)).getD 0 .any).toStr),((a2_1.ix (1:Int)).getD 1 .any)]] [] fun r6 o6=>NL r6<|.loop IB EJ [VS a1,r6,VI 0] [.cells [VS a0_0,a0_1],.cells [VS a2_0,a2_1],.vec 4 []] (fun y9 q9=>NS (y9.hA)<|.al ((q9.hO)=.cells (q9.hO).cs)<|.al (ah [.lk .str,.lk .sl] ((q9.hO).cs) 0 q9.tail)<|.al (((q9.tail.drop 0).hO)=.cells ((q9.tail.drop 0).hO).cs)<|.al (ah [.lk .str,.lk .sl] (((q9.tail.drop 0).hO).cs) 0 ((q9.tail.drop 0).tail))<|.al (((q9.drop 2).hO)=.vec 4 ((q9.drop 2).hO).es)<|NG ((q9.hO).cs.getD 1 .any) 2 2<|NE (((q9.hO).cs.getD 1 .any).ix (2:Int))<|NG ((q9.tail.hO).cs.getD 1 .any) 2 2<|NE (((q9.tail.hO).cs.getD 1 .any).ix (2:Int))<|.call 34 [.agg [VS (((((q9.hO).cs.getD 1 .any).ix (2:Int)).getD 0 .any).toStr),((((q9.hO).cs.getD 1 .any).ix (2:Int)).getD 1 .any)],VS ((y9.hA).toStr),.agg [VS (((((q9.tail.hO).cs.getD 1 .any).ix (2:Int)).getD 0 .any).toStr),((((q9.tail.hO).cs.getD 1 .any).ix (2:Int)).getD 1 .any)]] [] fun r10 o10=>NL r10<|.loop Ls Gu [r10,VI 0] [.cells [VS (((q9.tail.hO).cs.getD 0 .any).toStr),((q9.tail.hO).cs.getD 1 .any)],.vec 4 ((q9.tail.tail.hO).es)] (fun y13 q13=>.al (((q13.drop 0).hO)=.vec 4 ((q13.drop 0).hO).es)<|.done 0 [.sl ((q13.hO).es)] []) (fun y13 q13=>.done 0 [.any] [])) (fun y9 q9=>.done 0 [.any] [])) (NG a0_1 1 2<|nM (a0_1.ix (1:Int))<|.test (ae (((a0_1.ix (1:Int)).hA).toStr)==ae a1) (.done 0 [.sl []] []) (NG a0_1 2 2<|NE (a0_1.ix (2:Int))<|NG a2_1 1 2<|NE (a2_1.ix (1:Int))<|.call 34 [.agg [VS (((a0_1.ix (2:Int)).getD 0 .any).toStr),((a0_1.ix (2:Int)).getD 1 .any)],VS a1,.agg [VS (((a2_1.ix (1:Int)).getD 0 .any).toStr),((a2_1.ix (1:Int)).getD 1 .any)]] [] fun r14 o14=>NL r14<|.loop H4 F4 [VS a1,VS (((a0_1.ix (1:Int)).hA).toStr),r14,VI 0] [.cells [VS a0_0,a0_1],.cells [VS a2_0,a2_1],.vec 4 []] (fun y17 q17=>NS (y17.hA)<|NS (y17.tail.hA)<|.al ((q17.hO)=.cells (q17.hO).cs)<|.al (ah [.lk .str,.lk .sl] ((q17.hO).cs) 0 q17.tail)<|.al (((q17.tail.drop 0).hO)=.cells ((q17.tail.drop 0).hO).cs)<|.al (ah [.lk .str,.lk .sl] (((q17.tail.drop 0).hO).cs) 0 ((q17.tail.drop 0).tail))<|.al (((q17.drop 2).hO)=.vec 4 ((q17.drop 2).hO).es)<|NG ((q17.hO).cs.getD 1 .any) 2 2<|NE (((q17.hO).cs.getD 1 .any).ix (2:Int))<|NG ((q17.tail.hO).cs.getD 1 .any) 1 2<|NE (((q17.tail.hO).cs.getD 1 .any).ix (1:Int))<|.call 34 [.agg [VS (((((q17.hO).cs.getD 1 .any).ix (2:Int)).getD 0 .any).toStr),((((q17.hO).cs.getD 1 .any).ix (2:Int)).getD 1 .any)],VS ((y17.tail.hA).toStr),.agg [VS (((((q17.tail.hO).cs.getD 1 .any).ix (1:Int)).getD 0 .any).toStr),((((q17.tail.hO).cs.getD 1 .any).ix (1:Int)).getD 1 .any)]] [] fun r18 o18=>NL r18<|.loop K6 EF [VS ((y17.hA).toStr),r18,VI 0] [.cells [VS (((q17.hO).cs.getD 0 .any).toStr),((q17.hO).cs.getD 1 .any)],.vec 4 ((q17.tail.tail.hO).es)] (fun y24 q24=>.al (((q24.drop 0).hO)=.vec 4 ((q24.drop 0).hO).es)<|.done 0 [.sl ((q24.hO).es)] []) (fun y24 q24=>.done 0 [.any] [])) (fun y17 q17=>.done 0 [.any] []))))))
theorem MW(a0_0:ByteArray)(a0_1:AV)(a1:ByteArray)(a2_0:ByteArray)(a2_1:AV)(ha0_1:LK.has .sl a0_1)(ha2_1:LK.has .sl a2_1)(h:eg 244 (GJ a0_0 a0_1 a1 a2_0 a2_1) R):aB Tryz.prog 34 [.agg [VS a0_0,a0_1],VS a1,.agg [VS a2_0,a2_1]] [] R :=
 uQ (aj (cD (aj (aD _) (aj (cd ha0_1) aJ))) (aj (aD _) (aj (cD (aj (aD _) (aj (cd ha2_1) aJ))) aJ))) (oQ Hd Tryz.f34 h)
def Fg(x1:ByteArray)(x8:AV)(x9:Int)(o3_0:ByteArray)(o3_1:AV)(o5_0:ByteArray)(o5_1:AV)(e7:List (List AV)):Tree :=
 NS (VS x1)<|NL x8<|NI (VI x9)<|.al (Ob.cells [VS o3_0,o3_1]=.cells [VS o3_0,o3_1])<|.al (ah [.lk .str,.lk .sl] [VS o3_0,o3_1] 0 [.cells [VS o5_0,o5_1],.vec 4 e7])<|.al (Ob.cells [VS o5_0,o5_1]=.cells [VS o5_0,o5_1])<|.al (ah [.lk .str,.lk .sl] [VS o5_0,o5_1] 0 [.vec 4 e7])<|.al (Ob.vec 4 e7=.vec 4 e7)<|NL x8<|.test (decide (x9<(x8.elems.length:Int))) (NG x8 x9 4<|NE (x8.ix x9)<|NG o5_1 2 2<|NE (o5_1.ix (2:Int))<|.call 35 [VS (mk [112]),.sl [[VS (((x8.ix x9).getD 0 .any).toStr),((x8.ix x9).getD 1 .any)],[VS (((o5_1.ix (2:Int)).getD 0 .any).toStr),((o5_1.ix (2:Int)).getD 1 .any)]]] [] fun r1 o1=>NA r1<|.call 35 [VS (mk [108]),.sl [[VS ((r1.cs.getD 0 .any).toStr),(r1.cs.getD 1 .any)]]] [] fun r2 o2=>NA r2<|NG x8 x9 4<|NE ((x8.ix x9).drop 2)<|.al (cI 4 [[VS ((r2.cs.getD 0 .any).toStr),(r2.cs.getD 1 .any),VS ((((x8.ix x9).drop 2).getD 0 .any).toStr),(((x8.ix x9).drop 2).getD 1 .any)]]/\((e7.length)+([[VS ((r2.cs.getD 0 .any).toStr),(r2.cs.getD 1 .any),VS ((((x8.ix x9).drop 2).getD 0 .any).toStr),(((x8.ix x9).drop 2).getD 1 .any)]]:List (List AV)).length)*80<=140737488355328)<|.done 0 [VS x1,x8,VI (IntKind.wrap .i64 (x9+1))] [.cells [VS o3_0,o3_1],.cells [VS o5_0,o5_1],.vec 4 (e7++([[VS ((r2.cs.getD 0 .any).toStr),(r2.cs.getD 1 .any),VS ((((x8.ix x9).drop 2).getD 0 .any).toStr),(((x8.ix x9).drop 2).getD 1 .any)]]:List (List AV)))]) (.done 1 [VS x1] [.cells [VS o3_0,o3_1],.cells [VS o5_0,o5_1],.vec 4 e7])
abbrev GV:=cW Tryz.prog 244 IB EJ
theorem Ht(x1:ByteArray)(x8:AV)(x9:Int)(o3_0:ByteArray)(o3_1:AV)(o5_0:ByteArray)(o5_1:AV)(e7:List (List AV))(h:oW 244 (Fg x1 x8 x9 o3_0 o3_1 o5_0 o5_1 e7) GV U):GV [VS x1,x8,VI x9] [.cells [VS o3_0,o3_1],.cells [VS o5_0,o5_1],.vec 4 e7] U :=
 gQ Hd h
def Fk(x10:AV)(x11:Int)(o5_0:ByteArray)(o5_1:AV)(e7:List (List AV)):Tree :=
 NL x10<|NI (VI x11)<|.al (Ob.cells [VS o5_0,o5_1]=.cells [VS o5_0,o5_1])<|.al (ah [.lk .str,.lk .sl] [VS o5_0,o5_1] 0 [.vec 4 e7])<|.al (Ob.vec 4 e7=.vec 4 e7)<|NL x10<|.test (decide (x11<(x10.elems.length:Int))) (NG o5_1 1 2<|NE (o5_1.ix (1:Int))<|NG x10 x11 4<|NE (x10.ix x11)<|.call 35 [VS (mk [112]),.sl [[VS (((o5_1.ix (1:Int)).getD 0 .any).toStr),((o5_1.ix (1:Int)).getD 1 .any)],[VS (((x10.ix x11).getD 0 .any).toStr),((x10.ix x11).getD 1 .any)]]] [] fun r1 o1=>NA r1<|.call 35 [VS (mk [114]),.sl [[VS ((r1.cs.getD 0 .any).toStr),(r1.cs.getD 1 .any)]]] [] fun r2 o2=>NA r2<|NG x10 x11 4<|NE ((x10.ix x11).drop 2)<|.al (cI 4 [[VS ((r2.cs.getD 0 .any).toStr),(r2.cs.getD 1 .any),VS ((((x10.ix x11).drop 2).getD 0 .any).toStr),(((x10.ix x11).drop 2).getD 1 .any)]]/\((e7.length)+([[VS ((r2.cs.getD 0 .any).toStr),(r2.cs.getD 1 .any),VS ((((x10.ix x11).drop 2).getD 0 .any).toStr),(((x10.ix x11).drop 2).getD 1 .any)]]:List (List AV)).length)*80<=140737488355328)<|.done 0 [x10,VI (IntKind.wrap .i64 (x11+1))] [.cells [VS o5_0,o5_1],.vec 4 (e7++([[VS ((r2.cs.getD 0 .any).toStr),(r2.cs.getD 1 .any),VS ((((x10.ix x11).drop 2).getD 0 .any).toStr),(((x10.ix x11).drop 2).getD 1 .any)]]:List (List AV)))]) (.done 1 [] [.vec 4 e7])
abbrev Ep:=cW Tryz.prog 244 Ls Gu
theorem K9(x10:AV)(x11:Int)(o5_0:ByteArray)(o5_1:AV)(e7:List (List AV))(h:oW 244 (Fk x10 x11 o5_0 o5_1 e7) Ep U):Ep [x10,VI x11] [.cells [VS o5_0,o5_1],.vec 4 e7] U :=
 gQ Hd h
def Gi(x1:ByteArray)(x12:ByteArray)(x13:AV)(x14:Int)(o3_0:ByteArray)(o3_1:AV)(o5_0:ByteArray)(o5_1:AV)(e7:List (List AV)):Tree :=
 NS (VS x1)<|NS (VS x12)<|NL x13<|NI (VI x14)<|.al (Ob.cells [VS o3_0,o3_1]=.cells [VS o3_0,o3_1])<|.al (ah [.lk .str,.lk .sl] [VS o3_0,o3_1] 0 [.cells [VS o5_0,o5_1],.vec 4 e7])<|.al (Ob.cells [VS o5_0,o5_1]=.cells [VS o5_0,o5_1])<|.al (ah [.lk .str,.lk .sl] [VS o5_0,o5_1] 0 [.vec 4 e7])<|.al (Ob.vec 4 e7=.vec 4 e7)<|NL x13<|.test (decide (x14<(x13.elems.length:Int))) (NG x13 x14 4<|NE (x13.ix x14)<|.call 35 [VS (mk [108]),.sl [[VS (((x13.ix x14).getD 0 .any).toStr),((x13.ix x14).getD 1 .any)]]] [] fun r1 o1=>NA r1<|.call 35 [VS (mk [102]),.sl [[VS ((r1.cs.getD 0 .any).toStr),(r1.cs.getD 1 .any)]]] [] fun r2 o2=>NA r2<|NG x13 x14 4<|NE ((x13.ix x14).drop 2)<|.al (cI 4 [[VS ((r2.cs.getD 0 .any).toStr),(r2.cs.getD 1 .any),VS ((((x13.ix x14).drop 2).getD 0 .any).toStr),(((x13.ix x14).drop 2).getD 1 .any)]]/\((e7.length)+([[VS ((r2.cs.getD 0 .any).toStr),(r2.cs.getD 1 .any),VS ((((x13.ix x14).drop 2).getD 0 .any).toStr),(((x13.ix x14).drop 2).getD 1 .any)]]:List (List AV)).length)*80<=140737488355328)<|.done 0 [VS x1,VS x12,x13,VI (IntKind.wrap .i64 (x14+1))] [.cells [VS o3_0,o3_1],.cells [VS o5_0,o5_1],.vec 4 (e7++([[VS ((r2.cs.getD 0 .any).toStr),(r2.cs.getD 1 .any),VS ((((x13.ix x14).drop 2).getD 0 .any).toStr),(((x13.ix x14).drop 2).getD 1 .any)]]:List (List AV)))]) (.done 1 [VS x1,VS x12] [.cells [VS o3_0,o3_1],.cells [VS o5_0,o5_1],.vec 4 e7])
abbrev G6:=cW Tryz.prog 244 H4 F4
theorem H0(x1:ByteArray)(x12:ByteArray)(x13:AV)(x14:Int)(o3_0:ByteArray)(o3_1:AV)(o5_0:ByteArray)(o5_1:AV)(e7:List (List AV))(h:oW 244 (Gi x1 x12 x13 x14 o3_0 o3_1 o5_0 o5_1 e7) G6 U):G6 [VS x1,VS x12,x13,VI x14] [.cells [VS o3_0,o3_1],.cells [VS o5_0,o5_1],.vec 4 e7] U :=
 gQ Hd h
def Fl(x1:ByteArray)(x15:AV)(x16:Int)(o3_0:ByteArray)(o3_1:AV)(e7:List (List AV)):Tree :=
 NS (VS x1)<|NL x15<|NI (VI x16)<|.al (Ob.cells [VS o3_0,o3_1]=.cells [VS o3_0,o3_1])<|.al (ah [.lk .str,.lk .sl] [VS o3_0,o3_1] 0 [.vec 4 e7])<|.al (Ob.vec 4 e7=.vec 4 e7)<|NL x15<|.test (decide (x16<(x15.elems.length:Int))) (NG x15 x16 4<|NE ((x15.ix x16).drop 2)<|.call 34 [.agg [VS o3_0,o3_1],VS x1,.agg [VS ((((x15.ix x16).drop 2).getD 0 .any).toStr),(((x15.ix x16).drop 2).getD 1 .any)]] [] fun r1 o1=>NL r1<|.loop Lp FO [VS x1,x15,VI x16,r1,VI 0] [.cells [VS o3_0,o3_1],.vec 4 e7] (fun y2 q2=>NS (y2.hA)<|NL (y2.tail.hA)<|NI (y2.tail.tail.hA)<|.al ((q2.hO)=.cells (q2.hO).cs)<|.al (ah [.lk .str,.lk .sl] ((q2.hO).cs) 0 q2.tail)<|.al (((q2.drop 1).hO)=.vec 4 ((q2.drop 1).hO).es)<|.done 0 [VS ((y2.hA).toStr),(y2.tail.hA),VI (IntKind.wrap .i64 (((y2.tail.tail.hA).toInt)+1))] [.cells [VS (((q2.hO).cs.getD 0 .any).toStr),((q2.hO).cs.getD 1 .any)],.vec 4 ((q2.tail.hO).es)]) (fun y2 q2=>.done 2 [] [])) (.done 1 [] [.vec 4 e7])
abbrev GN:=cW Tryz.prog 244 K6 EF
theorem IA(x1:ByteArray)(x15:AV)(x16:Int)(o3_0:ByteArray)(o3_1:AV)(e7:List (List AV))(h:oW 244 (Fl x1 x15 x16 o3_0 o3_1 e7) GN U):GN [VS x1,x15,VI x16] [.cells [VS o3_0,o3_1],.vec 4 e7] U :=
 gQ Hd h
def G7(x1:ByteArray)(x15:AV)(x16:Int)(x17:AV)(x18:Int)(o3_0:ByteArray)(o3_1:AV)(e7:List (List AV)):Tree :=
 NS (VS x1)<|NL x15<|NI (VI x16)<|NL x17<|NI (VI x18)<|.al (Ob.cells [VS o3_0,o3_1]=.cells [VS o3_0,o3_1])<|.al (ah [.lk .str,.lk .sl] [VS o3_0,o3_1] 0 [.vec 4 e7])<|.al (Ob.vec 4 e7=.vec 4 e7)<|NL x17<|.test (decide (x18<(x17.elems.length:Int))) (NG x15 x16 4<|NE (x15.ix x16)<|NG x17 x18 4<|NE (x17.ix x18)<|.call 35 [VS (mk [112]),.sl [[VS (((x15.ix x16).getD 0 .any).toStr),((x15.ix x16).getD 1 .any)],[VS (((x17.ix x18).getD 0 .any).toStr),((x17.ix x18).getD 1 .any)]]] [] fun r1 o1=>NA r1<|.call 35 [VS (mk [114]),.sl [[VS ((r1.cs.getD 0 .any).toStr),(r1.cs.getD 1 .any)]]] [] fun r2 o2=>NA r2<|.call 35 [VS (mk [102]),.sl [[VS ((r2.cs.getD 0 .any).toStr),(r2.cs.getD 1 .any)]]] [] fun r3 o3=>NA r3<|NG x17 x18 4<|NE ((x17.ix x18).drop 2)<|.al (cI 4 [[VS ((r3.cs.getD 0 .any).toStr),(r3.cs.getD 1 .any),VS ((((x17.ix x18).drop 2).getD 0 .any).toStr),(((x17.ix x18).drop 2).getD 1 .any)]]/\((e7.length)+([[VS ((r3.cs.getD 0 .any).toStr),(r3.cs.getD 1 .any),VS ((((x17.ix x18).drop 2).getD 0 .any).toStr),(((x17.ix x18).drop 2).getD 1 .any)]]:List (List AV)).length)*80<=140737488355328)<|.done 0 [VS x1,x15,VI x16,x17,VI (IntKind.wrap .i64 (x18+1))] [.cells [VS o3_0,o3_1],.vec 4 (e7++([[VS ((r3.cs.getD 0 .any).toStr),(r3.cs.getD 1 .any),VS ((((x17.ix x18).drop 2).getD 0 .any).toStr),(((x17.ix x18).drop 2).getD 1 .any)]]:List (List AV)))]) (.done 1 [VS x1,x15,VI x16] [.cells [VS o3_0,o3_1],.vec 4 e7])
abbrev E8:=cW Tryz.prog 244 Lp FO
theorem Jd(x1:ByteArray)(x15:AV)(x16:Int)(x17:AV)(x18:Int)(o3_0:ByteArray)(o3_1:AV)(e7:List (List AV))(h:oW 244 (G7 x1 x15 x16 x17 x18 o3_0 o3_1 e7) E8 U):E8 [VS x1,x15,VI x16,x17,VI x18] [.cells [VS o3_0,o3_1],.vec 4 e7] U :=
 gQ Hd h
def IZ(a0:ByteArray)(a1:AV):Tree :=
 .al (LK.has .sl a1/\cI 2 a1.elems/\((([[VS a0,.v (.slice none 0 0)]]:List (List AV)).length)+a1.elems.length)*40<=140737488355328)<|.done 0 [.agg [VS (mk []),.sl (([[VS a0,.v (.slice none 0 0)]]:List (List AV))++a1.elems)]] []
theorem LN(a0:ByteArray)(a1:AV)(ha1:LK.has .sl a1)(h:eg 11 (IZ a0 a1) R):aB Tryz.prog 35 [VS a0,a1] [] R :=
 uQ (aj (aD _) (aj (cd ha1) aJ)) (oQ [] Tryz.f35 h)
def DS(a0_0:ByteArray)(a0_1:AV)(a1:ByteArray)(a2_0:ByteArray)(a2_1:AV)(a3_0:ByteArray)(a3_1:AV):Tree :=
 .test (!(ae a0_0==ae (mk []))) (.done 0 [.agg [VS a3_0,a3_1]] []) (NG a2_1 1 2<|NE (a2_1.ix (1:Int))<|.call 29 [.agg [VS a0_0,a0_1]] [] fun r1 o1=>NS r1<|.call 29 [.agg [VS a2_0,a2_1]] [] fun r2 o2=>NS r2<|.al (af r1.toStr+af r2.toStr<=9223372036854775807)<|.test (ae ((r1.toStr:ByteArray)++r2.toStr)==ae (mk [43,108])) (NG a0_1 1 2<|NE (a0_1.ix (1:Int))<|.call 36 [.agg [VS (((a0_1.ix (1:Int)).getD 0 .any).toStr),((a0_1.ix (1:Int)).getD 1 .any)],VS a1,.agg [VS (((a2_1.ix (1:Int)).getD 0 .any).toStr),((a2_1.ix (1:Int)).getD 1 .any)],.agg [VS a3_0,a3_1]] [] fun r3 o3=>NA r3<|.call 35 [VS (mk [108]),.sl [[VS ((r3.cs.getD 0 .any).toStr),(r3.cs.getD 1 .any)]]] [] fun r4 o4=>NA r4<|.done 0 [.agg [VS ((r4.cs.getD 0 .any).toStr),(r4.cs.getD 1 .any)]] []) (.test (ae ((r1.toStr:ByteArray)++r2.toStr)==ae (mk [43,114])) (NG a0_1 2 2<|NE (a0_1.ix (2:Int))<|.call 36 [.agg [VS (((a0_1.ix (2:Int)).getD 0 .any).toStr),((a0_1.ix (2:Int)).getD 1 .any)],VS a1,.agg [VS (((a2_1.ix (1:Int)).getD 0 .any).toStr),((a2_1.ix (1:Int)).getD 1 .any)],.agg [VS a3_0,a3_1]] [] fun r5 o5=>NA r5<|.call 35 [VS (mk [114]),.sl [[VS ((r5.cs.getD 0 .any).toStr),(r5.cs.getD 1 .any)]]] [] fun r6 o6=>NA r6<|.done 0 [.agg [VS ((r6.cs.getD 0 .any).toStr),(r6.cs.getD 1 .any)]] []) (.test (ae ((r1.toStr:ByteArray)++r2.toStr)==ae (mk [42,108])) (NG a0_1 1 2<|NE (a0_1.ix (1:Int))<|NG ((a2_1.ix (1:Int)).getD 1 .any) 1 2<|NE (((a2_1.ix (1:Int)).getD 1 .any).ix (1:Int))<|.call 36 [.agg [VS (((a0_1.ix (1:Int)).getD 0 .any).toStr),((a0_1.ix (1:Int)).getD 1 .any)],VS a1,.agg [VS (((((a2_1.ix (1:Int)).getD 1 .any).ix (1:Int)).getD 0 .any).toStr),((((a2_1.ix (1:Int)).getD 1 .any).ix (1:Int)).getD 1 .any)],.agg [VS a3_0,a3_1]] [] fun r7 o7=>NA r7<|NG ((a2_1.ix (1:Int)).getD 1 .any) 2 2<|NE (((a2_1.ix (1:Int)).getD 1 .any).ix (2:Int))<|.call 35 [VS (mk [112]),.sl [[VS ((r7.cs.getD 0 .any).toStr),(r7.cs.getD 1 .any)],[VS (((((a2_1.ix (1:Int)).getD 1 .any).ix (2:Int)).getD 0 .any).toStr),((((a2_1.ix (1:Int)).getD 1 .any).ix (2:Int)).getD 1 .any)]]] [] fun r8 o8=>NA r8<|.done 0 [.agg [VS ((r8.cs.getD 0 .any).toStr),(r8.cs.getD 1 .any)]] []) (.test (ae ((r1.toStr:ByteArray)++r2.toStr)==ae (mk [42,114])) (NG ((a2_1.ix (1:Int)).getD 1 .any) 1 2<|NE (((a2_1.ix (1:Int)).getD 1 .any).ix (1:Int))<|NG a0_1 2 2<|NE (a0_1.ix (2:Int))<|NG ((a2_1.ix (1:Int)).getD 1 .any) 2 2<|NE (((a2_1.ix (1:Int)).getD 1 .any).ix (2:Int))<|.call 36 [.agg [VS (((a0_1.ix (2:Int)).getD 0 .any).toStr),((a0_1.ix (2:Int)).getD 1 .any)],VS a1,.agg [VS (((((a2_1.ix (1:Int)).getD 1 .any).ix (2:Int)).getD 0 .any).toStr),((((a2_1.ix (1:Int)).getD 1 .any).ix (2:Int)).getD 1 .any)],.agg [VS a3_0,a3_1]] [] fun r9 o9=>NA r9<|.call 35 [VS (mk [112]),.sl [[VS (((((a2_1.ix (1:Int)).getD 1 .any).ix (1:Int)).getD 0 .any).toStr),((((a2_1.ix (1:Int)).getD 1 .any).ix (1:Int)).getD 1 .any)],[VS ((r9.cs.getD 0 .any).toStr),(r9.cs.getD 1 .any)]]] [] fun r10 o10=>NA r10<|.done 0 [.agg [VS ((r10.cs.getD 0 .any).toStr),(r10.cs.getD 1 .any)]] []) (.call 29 [.agg [VS (((a2_1.ix (1:Int)).getD 0 .any).toStr),((a2_1.ix (1:Int)).getD 1 .any)]] [] fun r11 o11=>NS r11<|.test (ae r11.toStr==ae (mk [108])) (NG a0_1 2 2<|NE (a0_1.ix (2:Int))<|NG ((a2_1.ix (1:Int)).getD 1 .any) 1 2<|NE (((a2_1.ix (1:Int)).getD 1 .any).ix (1:Int))<|.call 36 [.agg [VS (((a0_1.ix (2:Int)).getD 0 .any).toStr),((a0_1.ix (2:Int)).getD 1 .any)],VS a1,.agg [VS (((((a2_1.ix (1:Int)).getD 1 .any).ix (1:Int)).getD 0 .any).toStr),((((a2_1.ix (1:Int)).getD 1 .any).ix (1:Int)).getD 1 .any)],.agg [VS a3_0,a3_1]] [] fun r12 o12=>NA r12<|.call 35 [VS (mk [102]),.sl [[VS ((r12.cs.getD 0 .any).toStr),(r12.cs.getD 1 .any)]]] [] fun r13 o13=>NA r13<|.done 0 [.agg [VS ((r13.cs.getD 0 .any).toStr),(r13.cs.getD 1 .any)]] []) (NG ((a2_1.ix (1:Int)).getD 1 .any) 1 2<|NE (((a2_1.ix (1:Int)).getD 1 .any).ix (1:Int))<|NG ((((a2_1.ix (1:Int)).getD 1 .any).ix (1:Int)).getD 1 .any) 2 2<|NE (((((a2_1.ix (1:Int)).getD 1 .any).ix (1:Int)).getD 1 .any).ix (2:Int))<|.call 36 [.agg [VS a0_0,a0_1],VS a1,.agg [VS (((((((a2_1.ix (1:Int)).getD 1 .any).ix (1:Int)).getD 1 .any).ix (2:Int)).getD 0 .any).toStr),((((((a2_1.ix (1:Int)).getD 1 .any).ix (1:Int)).getD 1 .any).ix (2:Int)).getD 1 .any)],.agg [VS a3_0,a3_1]] [] fun r14 o14=>NA r14<|NG a0_1 2 2<|NE (a0_1.ix (2:Int))<|NG a0_1 1 2<|nM (a0_1.ix (1:Int))<|NG ((((a2_1.ix (1:Int)).getD 1 .any).ix (1:Int)).getD 1 .any) 1 2<|NE (((((a2_1.ix (1:Int)).getD 1 .any).ix (1:Int)).getD 1 .any).ix (1:Int))<|.call 36 [.agg [VS (((a0_1.ix (2:Int)).getD 0 .any).toStr),((a0_1.ix (2:Int)).getD 1 .any)],VS (((a0_1.ix (1:Int)).hA).toStr),.agg [VS (((((((a2_1.ix (1:Int)).getD 1 .any).ix (1:Int)).getD 1 .any).ix (1:Int)).getD 0 .any).toStr),((((((a2_1.ix (1:Int)).getD 1 .any).ix (1:Int)).getD 1 .any).ix (1:Int)).getD 1 .any)],.agg [VS ((r14.cs.getD 0 .any).toStr),(r14.cs.getD 1 .any)]] [] fun r15 o15=>NA r15<|.call 35 [VS (mk [102]),.sl [[VS ((r15.cs.getD 0 .any).toStr),(r15.cs.getD 1 .any)]]] [] fun r16 o16=>NA r16<|.done 0 [.agg [VS ((r16.cs.getD 0 .any).toStr),(r16.cs.getD 1 .any)]] []))))))
theorem LP(a0_0:ByteArray)(a0_1:AV)(a1:ByteArray)(a2_0:ByteArray)(a2_1:AV)(a3_0:ByteArray)(a3_1:AV)(ha0_1:LK.has .sl a0_1)(ha2_1:LK.has .sl a2_1)(ha3_1:LK.has .sl a3_1)(h:eg 132 (DS a0_0 a0_1 a1 a2_0 a2_1 a3_0 a3_1) R):aB Tryz.prog 36 [.agg [VS a0_0,a0_1],VS a1,.agg [VS a2_0,a2_1],.agg [VS a3_0,a3_1]] [] R :=
 uQ (aj (cD (aj (aD _) (aj (cd ha0_1) aJ))) (aj (aD _) (aj (cD (aj (aD _) (aj (cd ha2_1) aJ))) (aj (cD (aj (aD _) (aj (cd ha3_1) aJ))) aJ)))) (oQ [] Tryz.f36 h)
def K1(a0:ByteArray):Tree :=
 .call 49 [VS a0] [] fun r1 o1=>NP r1<|NP r1<|.test r1.isNil (.done 0 [.v (.pointer none)] []) (NZ r1<|NZ r1<|.al (LK.has (.int .u8) (r1.deref.hA)/\1<=r1.deref.length)<|.test (((r1.deref.hA).toInt) != (114:Int)) (.done 0 [.v (.pointer none)] []) (.done 0 [r1] []))
theorem NW(a0:ByteArray)(h:eg 16 (K1 a0) R):aB Tryz.prog 37 [VS a0] [] R :=
 uQ (aj (aD _) aJ) (oQ [] Tryz.f37 h)
def EV:LI:={hd:={ck:=[(3,.k .ptr),(10,.k (.int .i64)),(11,.k (.int .i64))]},xs:={ck:=[(3,.k .ptr)]},rt:={},ex:=0}
def Ii:Code:=dF (dx Tryz.f38) 3
def H5:List (Nat×LI):=[(3,EV)]
def Fb(a0_0:AV)(a0_1:AV):Tree :=
 NZ a0_0<|NZ a0_0<|.al (LK.has (.int .i64) ((a0_0.deref.drop 2).hA)/\1<=(a0_0.deref.drop 2).length)<|.loop Ii EV [a0_1,VI (((a0_0.deref.drop 2).hA).toInt),VI 0] [] (fun y1 q1=>NP (y1.hA)<|NZ (y1.hA)<|NZ (y1.hA)<|.al (LK.has .ptr ((y1.hA).deref.hA)/\1<=((y1.hA).deref).length)<|.done 0 [((y1.hA).deref.hA)] []) (fun y1 q1=>.done 0 [.any] [])
theorem La(a0_0:AV)(a0_1:AV)(ha0_0:LK.has .ptr a0_0)(ha0_1:LK.has .ptr a0_1)(h:eg 22 (Fb a0_0 a0_1) R):aB Tryz.prog 38 [.agg [a0_0,a0_1]] [] R :=
 uQ (aj (cD (aj (cK ha0_0) (aj (cK ha0_1) aJ))) aJ) (oQ H5 Tryz.f38 h)
def IV(x3:AV)(x10:Int)(x11:Int):Tree :=
 NP x3<|NI (VI x10)<|NI (VI x11)<|.test (decide (x11<x10)) (NZ x3<|NZ x3<|im (x3.deref.drop 1)<|.done 0 [((x3.deref.drop 1).hA),VI x10,VI (IntKind.wrap .i64 (x11+1))] []) (.done 1 [x3] [])
abbrev Co:=cW Tryz.prog 22 Ii EV
theorem Du(x3:AV)(x10:Int)(x11:Int)(h:oW 22 (IV x3 x10 x11) Co U):Co [x3,VI x10,VI x11] [] U :=
 gQ H5 h
def Jy(a0_0:AV)(a0_1:AV):Tree :=
 NZ a0_0<|NZ a0_0<|im (a0_0.deref.drop 3)<|.done 0 [.agg [((a0_0.deref.drop 3).hA),a0_1]] []
theorem Oc(a0_0:AV)(a0_1:AV)(ha0_0:LK.has .ptr a0_0)(ha0_1:LK.has .ptr a0_1)(h:eg 11 (Jy a0_0 a0_1) R):aB Tryz.prog 39 [.agg [a0_0,a0_1]] [] R :=
 uQ (aj (cD (aj (cK ha0_0) (aj (cK ha0_1) aJ))) aJ) (oQ [] Tryz.f39 h)
def Iv(a0_0:AV)(a0_1:AV):Tree :=
 NZ a0_0<|NZ a0_0<|im (a0_0.deref.drop 4)<|.done 0 [.agg [((a0_0.deref.drop 4).hA),a0_1]] []
theorem Nk(a0_0:AV)(a0_1:AV)(ha0_0:LK.has .ptr a0_0)(ha0_1:LK.has .ptr a0_1)(h:eg 11 (Iv a0_0 a0_1) R):aB Tryz.prog 40 [.agg [a0_0,a0_1]] [] R :=
 uQ (aj (cD (aj (cK ha0_0) (aj (cK ha0_1) aJ))) aJ) (oQ [] Tryz.f40 h)
def IP(a0:AV)(a1:AV):Tree :=
 .done 0 [.ptr [.v (.int .u8 112),VS (mk []),a0,a1]] []
theorem Mx(a0:AV)(a1:AV)(ha0:LK.has .ptr a0)(ha1:LK.has .ptr a1)(h:eg 9 (IP a0 a1) R):aB Tryz.prog 41 [a0,a1] [] R :=
 uQ (aj (cK ha0) (aj (cK ha1) aJ)) (oQ [] Tryz.f41 h)
def E1(a0:AV):Tree :=
 NZ a0<|NZ a0<|im (a0.deref.drop 2)<|NP ((a0.deref.drop 2).hA)<|.test (!((a0.deref.drop 2).hA).isNil) (NZ a0<|NZ a0<|im (a0.deref.drop 2)<|.call 42 [((a0.deref.drop 2).hA)] [] fun r1 o1=>NI r1<|NZ a0<|NZ a0<|im (a0.deref.drop 3)<|NP ((a0.deref.drop 3).hA)<|.test (!((a0.deref.drop 3).hA).isNil) (NZ a0<|NZ a0<|im (a0.deref.drop 3)<|.call 42 [((a0.deref.drop 3).hA)] [] fun r2 o2=>NI r2<|.done 0 [VI (IntKind.wrap .i64 ((IntKind.wrap .i64 (1+r1.toInt))+r2.toInt))] []) (.done 0 [VI (IntKind.wrap .i64 (1+r1.toInt))] [])) (NZ a0<|NZ a0<|im (a0.deref.drop 3)<|NP ((a0.deref.drop 3).hA)<|.test (!((a0.deref.drop 3).hA).isNil) (NZ a0<|NZ a0<|im (a0.deref.drop 3)<|.call 42 [((a0.deref.drop 3).hA)] [] fun r3 o3=>NI r3<|.done 0 [VI (IntKind.wrap .i64 (1+r3.toInt))] []) (.done 0 [VI 1] []))
theorem yU(a0:AV)(ha0:LK.has .ptr a0)(h:eg 29 (E1 a0) R):aB Tryz.prog 42 [a0] [] R :=
 uQ (aj (cK ha0) aJ) (oQ [] Tryz.f42 h)
def Is(a0_0:AV)(a0_1:Int):Tree :=
 .call 45 [.ref 0 0,.sl [[VS (mk [40,114,101,99,32,116,32,40,43,32,49,32,40,42,32,120,32,116,41,41,41])],[VS (mk [40,114,101,99,32,116,32,40,43,32,120,32,40,42,32,116,32,116,41,41,41])],[VS (mk [40,114,101,99,32,116,32,40,43,32,49,32,40,42,32,116,32,40,42,32,120,32,116,41,41,41,41])],[VS (mk [40,114,101,99,32,116,32,40,43,32,49,32,116,41,41])],[VS (mk [40,114,101,99,32,116,32,40,42,32,120,32,40,114,101,99,32,116,49,32,40,43,32,49,32,40,42,32,116,32,116,49,41,41,41,41,41])],[VS (mk [40,114,101,99,32,116,48,32,40,43,32,40,42,32,120,32,121,41,32,40,43,32,116,48,32,40,42,32,116,48,32,116,48,41,41,41,41])],[VS (mk [40,114,101,99,32,116,32,40,43,32,121,32,40,42,32,116,32,40,42,32,116,32,116,41,41,41,41])]]] [.cells [a0_0,VI a0_1]] fun r1 o1=>.al ((o1.hO)=.cells (o1.hO).cs)<|.al (aO [.lk .sl,.lk (.int .i64)] ((o1.hO).cs) 0 1 o1.tail)<|NS r1<|.done 0 [VS r1.toStr] [.cells [((o1.hO).cs.getD 0 .any),VI (((o1.hO).cs.getD 1 .any).toInt)]]
theorem L8(a0_0:AV)(a0_1:Int)(ha0_0:LK.has .sl a0_0)(h:eg 6 (Is a0_0 a0_1) R):aB Tryz.prog 43 [.ref 0 0] [.cells [a0_0,VI a0_1]] R :=
 aB.uf (cf (cN (aj (cd ha0_0) (aj (aD _) aJ))) dC) (aB.up (aj (aD _) aJ) (oF [] {mu:=[(0,.one (.obj [.lk .sl,.lk (.int .i64)]))],own:=[]} Tryz.f43 h))
def Hw(a0_0:AV)(a0_1:Int):Tree :=
 .call 61 [.ref 0 0] [.cells [a0_0,VI a0_1]] fun r1 o1=>.al ((o1.hO)=.cells (o1.hO).cs)<|.al (aO [.lk .sl,.lk (.int .i64)] ((o1.hO).cs) 0 1 o1.tail)<|NS r1<|.call 24 [.ref 0 0,VS r1.toStr] [.cells [((o1.hO).cs.getD 0 .any),VI (((o1.hO).cs.getD 1 .any).toInt)]] fun r2 o2=>.al ((o2.hO)=.cells (o2.hO).cs)<|.al (aO [.lk .sl,.lk (.int .i64)] ((o2.hO).cs) 0 1 o2.tail)<|NS r2<|.done 0 [.cP [VS r1.toStr,VS r2.toStr]] [.cells [((o2.hO).cs.getD 0 .any),VI (((o2.hO).cs.getD 1 .any).toInt)]]
theorem My(a0_0:AV)(a0_1:Int)(ha0_0:LK.has .sl a0_0)(h:eg 11 (Hw a0_0 a0_1) R):aB Tryz.prog 44 [.ref 0 0] [.cells [a0_0,VI a0_1]] R :=
 aB.uf (cf (cN (aj (cd ha0_0) (aj (aD _) aJ))) dC) (aB.up (aj (aD _) aJ) (oF [] {mu:=[(0,.one (.obj [.lk .sl,.lk (.int .i64)]))],own:=[]} Tryz.f44 h))
def HF(a0_0:AV)(a0_1:Int)(a1:AV):Tree :=
 NL a1<|.call 26 [.ref 0 0,VI (a1.elems.length:Int)] [.cells [a0_0,VI a0_1]] fun r1 o1=>.al ((o1.hO)=.cells (o1.hO).cs)<|.al (aO [.lk .sl,.lk (.int .i64)] ((o1.hO).cs) 0 1 o1.tail)<|NI r1<|.al (LK.has .sl a1/\0<=r1.toInt/\r1.toInt<a1.elems.length/\(a1.elems.getD r1.toInt.toNat []).length=1)<|nM (a1.elems.getD r1.toInt.toNat [])<|.done 0 [VS (((a1.elems.getD r1.toInt.toNat []).hA).toStr)] [.cells [((o1.hO).cs.getD 0 .any),VI (((o1.hO).cs.getD 1 .any).toInt)]]
theorem N6(a0_0:AV)(a0_1:Int)(a1:AV)(ha1:LK.has .sl a1)(ha0_0:LK.has .sl a0_0)(h:eg 12 (HF a0_0 a0_1 a1) R):aB Tryz.prog 45 [.ref 0 0,a1] [.cells [a0_0,VI a0_1]] R :=
 aB.uf (cf (cN (aj (cd ha0_0) (aj (aD _) aJ))) dC) (aB.up (aj (aD _) (aj (cd ha1) aJ)) (oF [] {mu:=[(0,.one (.obj [.lk .sl,.lk (.int .i64)]))],own:=[]} Tryz.f45 h))
def Bj(a0_0:AV)(a0_1:Int)(a1_0:ByteArray)(a1_1:AV)(a2:Int):Tree :=
 .call 29 [.agg [VS a1_0,a1_1]] [] fun r1 o1=>NS r1<|.test (ae r1.toStr==ae (mk [43])) (.call 26 [.ref 0 0,VI 2] [.cells [a0_0,VI a0_1]] fun r2 o2=>.al ((o2.hO)=.cells (o2.hO).cs)<|.al (aO [.lk .sl,.lk (.int .i64)] ((o2.hO).cs) 0 1 o2.tail)<|NI r2<|NG a1_1 1 2<|NE (a1_1.ix (1:Int))<|.call 62 [.agg [VS (((a1_1.ix (1:Int)).getD 0 .any).toStr),((a1_1.ix (1:Int)).getD 1 .any)],.sl []] [] fun r3 o3=>NB r3<|.test r3.toBool (.test ((1:Int)==(0:Int)) (NG a1_1 1 2<|NE (a1_1.ix (1:Int))<|.call 46 [.ref 0 0,.agg [VS (((a1_1.ix (1:Int)).getD 0 .any).toStr),((a1_1.ix (1:Int)).getD 1 .any)],VI (IntKind.wrap .i64 (a2-1))] [.cells [((o2.hO).cs.getD 0 .any),VI (((o2.hO).cs.getD 1 .any).toInt)]] fun r4 o4=>.al ((o4.hO)=.cells (o4.hO).cs)<|.al (aO [.lk .sl,.lk (.int .i64)] ((o4.hO).cs) 0 1 o4.tail)<|NA r4<|.call 35 [VS (mk [108]),.sl [[VS ((r4.cs.getD 0 .any).toStr),(r4.cs.getD 1 .any)]]] [] fun r5 o5=>NA r5<|.done 0 [.agg [VS ((r5.cs.getD 0 .any).toStr),(r5.cs.getD 1 .any)]] [.cells [((o4.hO).cs.getD 0 .any),VI (((o4.hO).cs.getD 1 .any).toInt)]]) (NG a1_1 2 2<|NE (a1_1.ix (2:Int))<|.call 46 [.ref 0 0,.agg [VS (((a1_1.ix (2:Int)).getD 0 .any).toStr),((a1_1.ix (2:Int)).getD 1 .any)],VI (IntKind.wrap .i64 (a2-1))] [.cells [((o2.hO).cs.getD 0 .any),VI (((o2.hO).cs.getD 1 .any).toInt)]] fun r6 o6=>.al ((o6.hO)=.cells (o6.hO).cs)<|.al (aO [.lk .sl,.lk (.int .i64)] ((o6.hO).cs) 0 1 o6.tail)<|NA r6<|.call 35 [VS (mk [114]),.sl [[VS ((r6.cs.getD 0 .any).toStr),(r6.cs.getD 1 .any)]]] [] fun r7 o7=>NA r7<|.done 0 [.agg [VS ((r7.cs.getD 0 .any).toStr),(r7.cs.getD 1 .any)]] [.cells [((o6.hO).cs.getD 0 .any),VI (((o6.hO).cs.getD 1 .any).toInt)]])) (.test (decide (a2<=(0:Int))) (NG a1_1 1 2<|NE (a1_1.ix (1:Int))<|.call 63 [.agg [VS (((a1_1.ix (1:Int)).getD 0 .any).toStr),((a1_1.ix (1:Int)).getD 1 .any)]] [] fun r8 o8=>NI r8<|NG a1_1 2 2<|NE (a1_1.ix (2:Int))<|.call 63 [.agg [VS (((a1_1.ix (2:Int)).getD 0 .any).toStr),((a1_1.ix (2:Int)).getD 1 .any)]] [] fun r9 o9=>NI r9<|.test (decide (r8.toInt>r9.toInt)) (NG a1_1 2 2<|NE (a1_1.ix (2:Int))<|.call 62 [.agg [VS (((a1_1.ix (2:Int)).getD 0 .any).toStr),((a1_1.ix (2:Int)).getD 1 .any)],.sl []] [] fun r10 o10=>NB r10<|.test (!r10.toBool) (.test ((1:Int)==(0:Int)) (NG a1_1 1 2<|NE (a1_1.ix (1:Int))<|.call 46 [.ref 0 0,.agg [VS (((a1_1.ix (1:Int)).getD 0 .any).toStr),((a1_1.ix (1:Int)).getD 1 .any)],VI (IntKind.wrap .i64 (a2-1))] [.cells [((o2.hO).cs.getD 0 .any),VI (((o2.hO).cs.getD 1 .any).toInt)]] fun r11 o11=>.al ((o11.hO)=.cells (o11.hO).cs)<|.al (aO [.lk .sl,.lk (.int .i64)] ((o11.hO).cs) 0 1 o11.tail)<|NA r11<|.call 35 [VS (mk [108]),.sl [[VS ((r11.cs.getD 0 .any).toStr),(r11.cs.getD 1 .any)]]] [] fun r12 o12=>NA r12<|.done 0 [.agg [VS ((r12.cs.getD 0 .any).toStr),(r12.cs.getD 1 .any)]] [.cells [((o11.hO).cs.getD 0 .any),VI (((o11.hO).cs.getD 1 .any).toInt)]]) (NG a1_1 2 2<|NE (a1_1.ix (2:Int))<|.call 46 [.ref 0 0,.agg [VS (((a1_1.ix (2:Int)).getD 0 .any).toStr),((a1_1.ix (2:Int)).getD 1 .any)],VI (IntKind.wrap .i64 (a2-1))] [.cells [((o2.hO).cs.getD 0 .any),VI (((o2.hO).cs.getD 1 .any).toInt)]] fun r13 o13=>.al ((o13.hO)=.cells (o13.hO).cs)<|.al (aO [.lk .sl,.lk (.int .i64)] ((o13.hO).cs) 0 1 o13.tail)<|NA r13<|.call 35 [VS (mk [114]),.sl [[VS ((r13.cs.getD 0 .any).toStr),(r13.cs.getD 1 .any)]]] [] fun r14 o14=>NA r14<|.done 0 [.agg [VS ((r14.cs.getD 0 .any).toStr),(r14.cs.getD 1 .any)]] [.cells [((o13.hO).cs.getD 0 .any),VI (((o13.hO).cs.getD 1 .any).toInt)]])) (NG a1_1 2 2<|NE (a1_1.ix (2:Int))<|.call 62 [.agg [VS (((a1_1.ix (2:Int)).getD 0 .any).toStr),((a1_1.ix (2:Int)).getD 1 .any)],.sl []] [] fun r15 o15=>NB r15<|.test r15.toBool (.test ((0:Int)==(0:Int)) (NG a1_1 1 2<|NE (a1_1.ix (1:Int))<|.call 46 [.ref 0 0,.agg [VS (((a1_1.ix (1:Int)).getD 0 .any).toStr),((a1_1.ix (1:Int)).getD 1 .any)],VI (IntKind.wrap .i64 (a2-1))] [.cells [((o2.hO).cs.getD 0 .any),VI (((o2.hO).cs.getD 1 .any).toInt)]] fun r16 o16=>.al ((o16.hO)=.cells (o16.hO).cs)<|.al (aO [.lk .sl,.lk (.int .i64)] ((o16.hO).cs) 0 1 o16.tail)<|NA r16<|.call 35 [VS (mk [108]),.sl [[VS ((r16.cs.getD 0 .any).toStr),(r16.cs.getD 1 .any)]]] [] fun r17 o17=>NA r17<|.done 0 [.agg [VS ((r17.cs.getD 0 .any).toStr),(r17.cs.getD 1 .any)]] [.cells [((o16.hO).cs.getD 0 .any),VI (((o16.hO).cs.getD 1 .any).toInt)]]) (NG a1_1 2 2<|NE (a1_1.ix (2:Int))<|.call 46 [.ref 0 0,.agg [VS (((a1_1.ix (2:Int)).getD 0 .any).toStr),((a1_1.ix (2:Int)).getD 1 .any)],VI (IntKind.wrap .i64 (a2-1))] [.cells [((o2.hO).cs.getD 0 .any),VI (((o2.hO).cs.getD 1 .any).toInt)]] fun r18 o18=>.al ((o18.hO)=.cells (o18.hO).cs)<|.al (aO [.lk .sl,.lk (.int .i64)] ((o18.hO).cs) 0 1 o18.tail)<|NA r18<|.call 35 [VS (mk [114]),.sl [[VS ((r18.cs.getD 0 .any).toStr),(r18.cs.getD 1 .any)]]] [] fun r19 o19=>NA r19<|.done 0 [.agg [VS ((r19.cs.getD 0 .any).toStr),(r19.cs.getD 1 .any)]] [.cells [((o18.hO).cs.getD 0 .any),VI (((o18.hO).cs.getD 1 .any).toInt)]])) (.test (decide (a2<=(0:Int))) (.test ((0:Int)==(0:Int)) (NG a1_1 1 2<|NE (a1_1.ix (1:Int))<|.call 46 [.ref 0 0,.agg [VS (((a1_1.ix (1:Int)).getD 0 .any).toStr),((a1_1.ix (1:Int)).getD 1 .any)],VI (IntKind.wrap .i64 (a2-1))] [.cells [((o2.hO).cs.getD 0 .any),VI (((o2.hO).cs.getD 1 .any).toInt)]] fun r20 o20=>.al ((o20.hO)=.cells (o20.hO).cs)<|.al (aO [.lk .sl,.lk (.int .i64)] ((o20.hO).cs) 0 1 o20.tail)<|NA r20<|.call 35 [VS (mk [108]),.sl [[VS ((r20.cs.getD 0 .any).toStr),(r20.cs.getD 1 .any)]]] [] fun r21 o21=>NA r21<|.done 0 [.agg [VS ((r21.cs.getD 0 .any).toStr),(r21.cs.getD 1 .any)]] [.cells [((o20.hO).cs.getD 0 .any),VI (((o20.hO).cs.getD 1 .any).toInt)]]) (NG a1_1 2 2<|NE (a1_1.ix (2:Int))<|.call 46 [.ref 0 0,.agg [VS (((a1_1.ix (2:Int)).getD 0 .any).toStr),((a1_1.ix (2:Int)).getD 1 .any)],VI (IntKind.wrap .i64 (a2-1))] [.cells [((o2.hO).cs.getD 0 .any),VI (((o2.hO).cs.getD 1 .any).toInt)]] fun r22 o22=>.al ((o22.hO)=.cells (o22.hO).cs)<|.al (aO [.lk .sl,.lk (.int .i64)] ((o22.hO).cs) 0 1 o22.tail)<|NA r22<|.call 35 [VS (mk [114]),.sl [[VS ((r22.cs.getD 0 .any).toStr),(r22.cs.getD 1 .any)]]] [] fun r23 o23=>NA r23<|.done 0 [.agg [VS ((r23.cs.getD 0 .any).toStr),(r23.cs.getD 1 .any)]] [.cells [((o22.hO).cs.getD 0 .any),VI (((o22.hO).cs.getD 1 .any).toInt)]])) (.test (r2.toInt==(0:Int)) (NG a1_1 1 2<|NE (a1_1.ix (1:Int))<|.call 46 [.ref 0 0,.agg [VS (((a1_1.ix (1:Int)).getD 0 .any).toStr),((a1_1.ix (1:Int)).getD 1 .any)],VI (IntKind.wrap .i64 (a2-1))] [.cells [((o2.hO).cs.getD 0 .any),VI (((o2.hO).cs.getD 1 .any).toInt)]] fun r24 o24=>.al ((o24.hO)=.cells (o24.hO).cs)<|.al (aO [.lk .sl,.lk (.int .i64)] ((o24.hO).cs) 0 1 o24.tail)<|NA r24<|.call 35 [VS (mk [108]),.sl [[VS ((r24.cs.getD 0 .any).toStr),(r24.cs.getD 1 .any)]]] [] fun r25 o25=>NA r25<|.done 0 [.agg [VS ((r25.cs.getD 0 .any).toStr),(r25.cs.getD 1 .any)]] [.cells [((o24.hO).cs.getD 0 .any),VI (((o24.hO).cs.getD 1 .any).toInt)]]) (NG a1_1 2 2<|NE (a1_1.ix (2:Int))<|.call 46 [.ref 0 0,.agg [VS (((a1_1.ix (2:Int)).getD 0 .any).toStr),((a1_1.ix (2:Int)).getD 1 .any)],VI (IntKind.wrap .i64 (a2-1))] [.cells [((o2.hO).cs.getD 0 .any),VI (((o2.hO).cs.getD 1 .any).toInt)]] fun r26 o26=>.al ((o26.hO)=.cells (o26.hO).cs)<|.al (aO [.lk .sl,.lk (.int .i64)] ((o26.hO).cs) 0 1 o26.tail)<|NA r26<|.call 35 [VS (mk [114]),.sl [[VS ((r26.cs.getD 0 .any).toStr),(r26.cs.getD 1 .any)]]] [] fun r27 o27=>NA r27<|.done 0 [.agg [VS ((r27.cs.getD 0 .any).toStr),(r27.cs.getD 1 .any)]] [.cells [((o26.hO).cs.getD 0 .any),VI (((o26.hO).cs.getD 1 .any).toInt)]]))))) (NG a1_1 2 2<|NE (a1_1.ix (2:Int))<|.call 62 [.agg [VS (((a1_1.ix (2:Int)).getD 0 .any).toStr),((a1_1.ix (2:Int)).getD 1 .any)],.sl []] [] fun r28 o28=>NB r28<|.test r28.toBool (.test ((0:Int)==(0:Int)) (NG a1_1 1 2<|NE (a1_1.ix (1:Int))<|.call 46 [.ref 0 0,.agg [VS (((a1_1.ix (1:Int)).getD 0 .any).toStr),((a1_1.ix (1:Int)).getD 1 .any)],VI (IntKind.wrap .i64 (a2-1))] [.cells [((o2.hO).cs.getD 0 .any),VI (((o2.hO).cs.getD 1 .any).toInt)]] fun r29 o29=>.al ((o29.hO)=.cells (o29.hO).cs)<|.al (aO [.lk .sl,.lk (.int .i64)] ((o29.hO).cs) 0 1 o29.tail)<|NA r29<|.call 35 [VS (mk [108]),.sl [[VS ((r29.cs.getD 0 .any).toStr),(r29.cs.getD 1 .any)]]] [] fun r30 o30=>NA r30<|.done 0 [.agg [VS ((r30.cs.getD 0 .any).toStr),(r30.cs.getD 1 .any)]] [.cells [((o29.hO).cs.getD 0 .any),VI (((o29.hO).cs.getD 1 .any).toInt)]]) (NG a1_1 2 2<|NE (a1_1.ix (2:Int))<|.call 46 [.ref 0 0,.agg [VS (((a1_1.ix (2:Int)).getD 0 .any).toStr),((a1_1.ix (2:Int)).getD 1 .any)],VI (IntKind.wrap .i64 (a2-1))] [.cells [((o2.hO).cs.getD 0 .any),VI (((o2.hO).cs.getD 1 .any).toInt)]] fun r31 o31=>.al ((o31.hO)=.cells (o31.hO).cs)<|.al (aO [.lk .sl,.lk (.int .i64)] ((o31.hO).cs) 0 1 o31.tail)<|NA r31<|.call 35 [VS (mk [114]),.sl [[VS ((r31.cs.getD 0 .any).toStr),(r31.cs.getD 1 .any)]]] [] fun r32 o32=>NA r32<|.done 0 [.agg [VS ((r32.cs.getD 0 .any).toStr),(r32.cs.getD 1 .any)]] [.cells [((o31.hO).cs.getD 0 .any),VI (((o31.hO).cs.getD 1 .any).toInt)]])) (.test (decide (a2<=(0:Int))) (.test ((0:Int)==(0:Int)) (NG a1_1 1 2<|NE (a1_1.ix (1:Int))<|.call 46 [.ref 0 0,.agg [VS (((a1_1.ix (1:Int)).getD 0 .any).toStr),((a1_1.ix (1:Int)).getD 1 .any)],VI (IntKind.wrap .i64 (a2-1))] [.cells [((o2.hO).cs.getD 0 .any),VI (((o2.hO).cs.getD 1 .any).toInt)]] fun r33 o33=>.al ((o33.hO)=.cells (o33.hO).cs)<|.al (aO [.lk .sl,.lk (.int .i64)] ((o33.hO).cs) 0 1 o33.tail)<|NA r33<|.call 35 [VS (mk [108]),.sl [[VS ((r33.cs.getD 0 .any).toStr),(r33.cs.getD 1 .any)]]] [] fun r34 o34=>NA r34<|.done 0 [.agg [VS ((r34.cs.getD 0 .any).toStr),(r34.cs.getD 1 .any)]] [.cells [((o33.hO).cs.getD 0 .any),VI (((o33.hO).cs.getD 1 .any).toInt)]]) (NG a1_1 2 2<|NE (a1_1.ix (2:Int))<|.call 46 [.ref 0 0,.agg [VS (((a1_1.ix (2:Int)).getD 0 .any).toStr),((a1_1.ix (2:Int)).getD 1 .any)],VI (IntKind.wrap .i64 (a2-1))] [.cells [((o2.hO).cs.getD 0 .any),VI (((o2.hO).cs.getD 1 .any).toInt)]] fun r35 o35=>.al ((o35.hO)=.cells (o35.hO).cs)<|.al (aO [.lk .sl,.lk (.int .i64)] ((o35.hO).cs) 0 1 o35.tail)<|NA r35<|.call 35 [VS (mk [114]),.sl [[VS ((r35.cs.getD 0 .any).toStr),(r35.cs.getD 1 .any)]]] [] fun r36 o36=>NA r36<|.done 0 [.agg [VS ((r36.cs.getD 0 .any).toStr),(r36.cs.getD 1 .any)]] [.cells [((o35.hO).cs.getD 0 .any),VI (((o35.hO).cs.getD 1 .any).toInt)]])) (.test (r2.toInt==(0:Int)) (NG a1_1 1 2<|NE (a1_1.ix (1:Int))<|.call 46 [.ref 0 0,.agg [VS (((a1_1.ix (1:Int)).getD 0 .any).toStr),((a1_1.ix (1:Int)).getD 1 .any)],VI (IntKind.wrap .i64 (a2-1))] [.cells [((o2.hO).cs.getD 0 .any),VI (((o2.hO).cs.getD 1 .any).toInt)]] fun r37 o37=>.al ((o37.hO)=.cells (o37.hO).cs)<|.al (aO [.lk .sl,.lk (.int .i64)] ((o37.hO).cs) 0 1 o37.tail)<|NA r37<|.call 35 [VS (mk [108]),.sl [[VS ((r37.cs.getD 0 .any).toStr),(r37.cs.getD 1 .any)]]] [] fun r38 o38=>NA r38<|.done 0 [.agg [VS ((r38.cs.getD 0 .any).toStr),(r38.cs.getD 1 .any)]] [.cells [((o37.hO).cs.getD 0 .any),VI (((o37.hO).cs.getD 1 .any).toInt)]]) (NG a1_1 2 2<|NE (a1_1.ix (2:Int))<|.call 46 [.ref 0 0,.agg [VS (((a1_1.ix (2:Int)).getD 0 .any).toStr),((a1_1.ix (2:Int)).getD 1 .any)],VI (IntKind.wrap .i64 (a2-1))] [.cells [((o2.hO).cs.getD 0 .any),VI (((o2.hO).cs.getD 1 .any).toInt)]] fun r39 o39=>.al ((o39.hO)=.cells (o39.hO).cs)<|.al (aO [.lk .sl,.lk (.int .i64)] ((o39.hO).cs) 0 1 o39.tail)<|NA r39<|.call 35 [VS (mk [114]),.sl [[VS ((r39.cs.getD 0 .any).toStr),(r39.cs.getD 1 .any)]]] [] fun r40 o40=>NA r40<|.done 0 [.agg [VS ((r40.cs.getD 0 .any).toStr),(r40.cs.getD 1 .any)]] [.cells [((o39.hO).cs.getD 0 .any),VI (((o39.hO).cs.getD 1 .any).toInt)]]))))) (NG a1_1 2 2<|NE (a1_1.ix (2:Int))<|.call 62 [.agg [VS (((a1_1.ix (2:Int)).getD 0 .any).toStr),((a1_1.ix (2:Int)).getD 1 .any)],.sl []] [] fun r41 o41=>NB r41<|.test r41.toBool (.test ((0:Int)==(0:Int)) (NG a1_1 1 2<|NE (a1_1.ix (1:Int))<|.call 46 [.ref 0 0,.agg [VS (((a1_1.ix (1:Int)).getD 0 .any).toStr),((a1_1.ix (1:Int)).getD 1 .any)],VI (IntKind.wrap .i64 (a2-1))] [.cells [((o2.hO).cs.getD 0 .any),VI (((o2.hO).cs.getD 1 .any).toInt)]] fun r42 o42=>.al ((o42.hO)=.cells (o42.hO).cs)<|.al (aO [.lk .sl,.lk (.int .i64)] ((o42.hO).cs) 0 1 o42.tail)<|NA r42<|.call 35 [VS (mk [108]),.sl [[VS ((r42.cs.getD 0 .any).toStr),(r42.cs.getD 1 .any)]]] [] fun r43 o43=>NA r43<|.done 0 [.agg [VS ((r43.cs.getD 0 .any).toStr),(r43.cs.getD 1 .any)]] [.cells [((o42.hO).cs.getD 0 .any),VI (((o42.hO).cs.getD 1 .any).toInt)]]) (NG a1_1 2 2<|NE (a1_1.ix (2:Int))<|.call 46 [.ref 0 0,.agg [VS (((a1_1.ix (2:Int)).getD 0 .any).toStr),((a1_1.ix (2:Int)).getD 1 .any)],VI (IntKind.wrap .i64 (a2-1))] [.cells [((o2.hO).cs.getD 0 .any),VI (((o2.hO).cs.getD 1 .any).toInt)]] fun r44 o44=>.al ((o44.hO)=.cells (o44.hO).cs)<|.al (aO [.lk .sl,.lk (.int .i64)] ((o44.hO).cs) 0 1 o44.tail)<|NA r44<|.call 35 [VS (mk [114]),.sl [[VS ((r44.cs.getD 0 .any).toStr),(r44.cs.getD 1 .any)]]] [] fun r45 o45=>NA r45<|.done 0 [.agg [VS ((r45.cs.getD 0 .any).toStr),(r45.cs.getD 1 .any)]] [.cells [((o44.hO).cs.getD 0 .any),VI (((o44.hO).cs.getD 1 .any).toInt)]])) (.test (decide (a2<=(0:Int))) (.test ((0:Int)==(0:Int)) (NG a1_1 1 2<|NE (a1_1.ix (1:Int))<|.call 46 [.ref 0 0,.agg [VS (((a1_1.ix (1:Int)).getD 0 .any).toStr),((a1_1.ix (1:Int)).getD 1 .any)],VI (IntKind.wrap .i64 (a2-1))] [.cells [((o2.hO).cs.getD 0 .any),VI (((o2.hO).cs.getD 1 .any).toInt)]] fun r46 o46=>.al ((o46.hO)=.cells (o46.hO).cs)<|.al (aO [.lk .sl,.lk (.int .i64)] ((o46.hO).cs) 0 1 o46.tail)<|NA r46<|.call 35 [VS (mk [108]),.sl [[VS ((r46.cs.getD 0 .any).toStr),(r46.cs.getD 1 .any)]]] [] fun r47 o47=>NA r47<|.done 0 [.agg [VS ((r47.cs.getD 0 .any).toStr),(r47.cs.getD 1 .any)]] [.cells [((o46.hO).cs.getD 0 .any),VI (((o46.hO).cs.getD 1 .any).toInt)]]) (NG a1_1 2 2<|NE (a1_1.ix (2:Int))<|.call 46 [.ref 0 0,.agg [VS (((a1_1.ix (2:Int)).getD 0 .any).toStr),((a1_1.ix (2:Int)).getD 1 .any)],VI (IntKind.wrap .i64 (a2-1))] [.cells [((o2.hO).cs.getD 0 .any),VI (((o2.hO).cs.getD 1 .any).toInt)]] fun r48 o48=>.al ((o48.hO)=.cells (o48.hO).cs)<|.al (aO [.lk .sl,.lk (.int .i64)] ((o48.hO).cs) 0 1 o48.tail)<|NA r48<|.call 35 [VS (mk [114]),.sl [[VS ((r48.cs.getD 0 .any).toStr),(r48.cs.getD 1 .any)]]] [] fun r49 o49=>NA r49<|.done 0 [.agg [VS ((r49.cs.getD 0 .any).toStr),(r49.cs.getD 1 .any)]] [.cells [((o48.hO).cs.getD 0 .any),VI (((o48.hO).cs.getD 1 .any).toInt)]])) (.test (r2.toInt==(0:Int)) (NG a1_1 1 2<|NE (a1_1.ix (1:Int))<|.call 46 [.ref 0 0,.agg [VS (((a1_1.ix (1:Int)).getD 0 .any).toStr),((a1_1.ix (1:Int)).getD 1 .any)],VI (IntKind.wrap .i64 (a2-1))] [.cells [((o2.hO).cs.getD 0 .any),VI (((o2.hO).cs.getD 1 .any).toInt)]] fun r50 o50=>.al ((o50.hO)=.cells (o50.hO).cs)<|.al (aO [.lk .sl,.lk (.int .i64)] ((o50.hO).cs) 0 1 o50.tail)<|NA r50<|.call 35 [VS (mk [108]),.sl [[VS ((r50.cs.getD 0 .any).toStr),(r50.cs.getD 1 .any)]]] [] fun r51 o51=>NA r51<|.done 0 [.agg [VS ((r51.cs.getD 0 .any).toStr),(r51.cs.getD 1 .any)]] [.cells [((o50.hO).cs.getD 0 .any),VI (((o50.hO).cs.getD 1 .any).toInt)]]) (NG a1_1 2 2<|NE (a1_1.ix (2:Int))<|.call 46 [.ref 0 0,.agg [VS (((a1_1.ix (2:Int)).getD 0 .any).toStr),((a1_1.ix (2:Int)).getD 1 .any)],VI (IntKind.wrap .i64 (a2-1))] [.cells [((o2.hO).cs.getD 0 .any),VI (((o2.hO).cs.getD 1 .any).toInt)]] fun r52 o52=>.al ((o52.hO)=.cells (o52.hO).cs)<|.al (aO [.lk .sl,.lk (.int .i64)] ((o52.hO).cs) 0 1 o52.tail)<|NA r52<|.call 35 [VS (mk [114]),.sl [[VS ((r52.cs.getD 0 .any).toStr),(r52.cs.getD 1 .any)]]] [] fun r53 o53=>NA r53<|.done 0 [.agg [VS ((r53.cs.getD 0 .any).toStr),(r53.cs.getD 1 .any)]] [.cells [((o52.hO).cs.getD 0 .any),VI (((o52.hO).cs.getD 1 .any).toInt)]])))))) (.test (ae r1.toStr==ae (mk [42])) (NG a1_1 1 2<|NE (a1_1.ix (1:Int))<|.call 46 [.ref 0 0,.agg [VS (((a1_1.ix (1:Int)).getD 0 .any).toStr),((a1_1.ix (1:Int)).getD 1 .any)],VI (IntKind.wrap .i64 (a2-1))] [.cells [a0_0,VI a0_1]] fun r54 o54=>.al ((o54.hO)=.cells (o54.hO).cs)<|.al (aO [.lk .sl,.lk (.int .i64)] ((o54.hO).cs) 0 1 o54.tail)<|NA r54<|NG a1_1 2 2<|NE (a1_1.ix (2:Int))<|.call 46 [.ref 0 0,.agg [VS (((a1_1.ix (2:Int)).getD 0 .any).toStr),((a1_1.ix (2:Int)).getD 1 .any)],VI (IntKind.wrap .i64 (a2-1))] [.cells [((o54.hO).cs.getD 0 .any),VI (((o54.hO).cs.getD 1 .any).toInt)]] fun r55 o55=>.al ((o55.hO)=.cells (o55.hO).cs)<|.al (aO [.lk .sl,.lk (.int .i64)] ((o55.hO).cs) 0 1 o55.tail)<|NA r55<|.call 35 [VS (mk [112]),.sl [[VS ((r54.cs.getD 0 .any).toStr),(r54.cs.getD 1 .any)],[VS ((r55.cs.getD 0 .any).toStr),(r55.cs.getD 1 .any)]]] [] fun r56 o56=>NA r56<|.done 0 [.agg [VS ((r56.cs.getD 0 .any).toStr),(r56.cs.getD 1 .any)]] [.cells [((o55.hO).cs.getD 0 .any),VI (((o55.hO).cs.getD 1 .any).toInt)]]) (.test (ae r1.toStr==ae (mk [114,101,99])) (.call 64 [.agg [VS a1_0,a1_1]] [] fun r57 o57=>NT r57<|.al ((r57.comp 0)=.agg (r57.comp 0).cs/\(r57.comp 0).cs.length=2/\cc [.str,.sl] ((r57.comp 0).cs) 0)<|NB (r57.comp 1)<|.test (!((r57.comp 1).toBool)) (.done 0 [.agg [VS (mk [117]),.v (.slice none 0 0)]] [.cells [a0_0,VI a0_1]]) (.test (decide (a2<((-12):Int))) (.done 0 [.agg [VS (mk [117]),.v (.slice none 0 0)]] [.cells [a0_0,VI a0_1]]) (.call 46 [.ref 0 0,.agg [VS (((r57.comp 0).cs.getD 0 .any).toStr),((r57.comp 0).cs.getD 1 .any)],VI (IntKind.wrap .i64 (a2-1))] [.cells [a0_0,VI a0_1]] fun r58 o58=>.al ((o58.hO)=.cells (o58.hO).cs)<|.al (aO [.lk .sl,.lk (.int .i64)] ((o58.hO).cs) 0 1 o58.tail)<|NA r58<|.call 35 [VS (mk [102]),.sl [[VS ((r58.cs.getD 0 .any).toStr),(r58.cs.getD 1 .any)]]] [] fun r59 o59=>NA r59<|.done 0 [.agg [VS ((r59.cs.getD 0 .any).toStr),(r59.cs.getD 1 .any)]] [.cells [((o58.hO).cs.getD 0 .any),VI (((o58.hO).cs.getD 1 .any).toInt)]]))) (.test (ae a1_0==ae (mk [49])) (.done 0 [.agg [VS (mk [117]),.v (.slice none 0 0)]] [.cells [a0_0,VI a0_1]]) (.call 26 [.ref 0 0,VI 3] [.cells [a0_0,VI a0_1]] fun r60 o60=>.al ((o60.hO)=.cells (o60.hO).cs)<|.al (aO [.lk .sl,.lk (.int .i64)] ((o60.hO).cs) 0 1 o60.tail)<|NI r60<|.call 65 [VI r60.toInt] [] fun r61 o61=>NS r61<|.al (af (mk [101])+af r61.toStr<=9223372036854775807)<|.done 0 [.agg [VS (((mk [101]):ByteArray)++r61.toStr),.v (.slice none 0 0)]] [.cells [((o60.hO).cs.getD 0 .any),VI (((o60.hO).cs.getD 1 .any).toInt)]]))))
theorem Dh(a0_0:AV)(a0_1:Int)(a1_0:ByteArray)(a1_1:AV)(a2:Int)(ha1_1:LK.has .sl a1_1)(ha0_0:LK.has .sl a0_0)(h:eg 132 (Bj a0_0 a0_1 a1_0 a1_1 a2) R):aB Tryz.prog 46 [.ref 0 0,.agg [VS a1_0,a1_1],VI a2] [.cells [a0_0,VI a0_1]] R :=
 aB.uf (cf (cN (aj (cd ha0_0) (aj (aD _) aJ))) dC) (aB.up (aj (aD _) (aj (cD (aj (aD _) (aj (cd ha1_1) aJ))) (aj (aD _) aJ))) (oF [] {mu:=[(0,.one (.obj [.lk .sl,.lk (.int .i64)]))],own:=[]} Tryz.f46 h))
def EG:LI:={hd:={ck:=[(1,.k .sl),(6,.k (.int .i64))],refs:=[(2,2),(4,4)],cM:=[(2,[.lk .str,.lk .sl]),(4,[.lk .str,.lk .sl])],eG:=[(5,1)]},xs:={refs:=[(2,2),(4,4)],cM:=[(2,[.lk .str,.lk .sl]),(4,[.lk .str,.lk .sl])],eG:=[(5,1)]},rt:={},ex:=0}
def JF:Code:=dF (dx Tryz.f47) 3
def KK:List (Nat×LI):=[(3,EG)]
def KX(a0_0:ByteArray)(a0_1:AV)(a1:AV):Tree :=
 .call 53 [.agg [VS a0_0,a0_1],.sl [],.vec 0] [.vec 1 []] fun r1 o1=>.al (r1=.vec 1/\(o1.tail.hO)=.vec 1 (o1.tail.hO).es)<|.loop JF EG [a1,VI 0] [.cells [VS a0_0,a0_1],.cells [VS (mk []),.v (.slice none 0 0)],.vec 1 ((o1.tail.hO).es)] (fun y3 q3=>.al ((q3.hO)=.cells (q3.hO).cs)<|.al (ah [.lk .str,.lk .sl] ((q3.hO).cs) 0 q3.tail)<|.al (((q3.tail.drop 0).hO)=.cells ((q3.tail.drop 0).hO).cs)<|.al (ah [.lk .str,.lk .sl] (((q3.tail.drop 0).hO).cs) 0 ((q3.tail.drop 0).tail))<|.al (((q3.drop 2).hO)=.vec 1 ((q3.drop 2).hO).es)<|.call 66 [.agg [VS (((q3.hO).cs.getD 0 .any).toStr),((q3.hO).cs.getD 1 .any)],.sl [],.sl [],.ref 0 0] [.cells [.vec 1,VI 0],.vec 1 ((q3.tail.tail.hO).es)] fun r4 o4=>.al ((o4.hO)=.cells (o4.hO).cs)<|.al (aO [.vec 1,.lk (.int .i64)] ((o4.hO).cs) 0 1 o4.tail)<|NA r4<|.done 0 [.agg [VS ((r4.cs.getD 0 .any).toStr),(r4.cs.getD 1 .any)]] []) (fun y3 q3=>.fail)
theorem N3(a0_0:ByteArray)(a0_1:AV)(a1:AV)(ha0_1:LK.has .sl a0_1)(ha1:LK.has .sl a1)(h:eg 33 (KX a0_0 a0_1 a1) R):aB Tryz.prog 47 [.agg [VS a0_0,a0_1],a1] [] R :=
 uQ (aj (cD (aj (aD _) (aj (cd ha0_1) aJ))) (aj (cd ha1) aJ)) (oQ KK Tryz.f47 h)
def FR(x1:AV)(x6:Int)(o2_0:ByteArray)(o2_1:AV)(o4_0:ByteArray)(o4_1:AV)(e5:List (List AV)):Tree :=
 NL x1<|NI (VI x6)<|.al (Ob.cells [VS o2_0,o2_1]=.cells [VS o2_0,o2_1])<|.al (ah [.lk .str,.lk .sl] [VS o2_0,o2_1] 0 [.cells [VS o4_0,o4_1],.vec 1 e5])<|.al (Ob.cells [VS o4_0,o4_1]=.cells [VS o4_0,o4_1])<|.al (ah [.lk .str,.lk .sl] [VS o4_0,o4_1] 0 [.vec 1 e5])<|.al (Ob.vec 1 e5=.vec 1 e5)<|NL x1<|.test (decide (x6<(x1.elems.length:Int))) (NG x1 x6 2<|NE (x1.ix x6)<|.call 53 [.agg [VS (((x1.ix x6).getD 0 .any).toStr),((x1.ix x6).getD 1 .any)],.sl [],.vec 0] [.vec 1 []] fun r1 o1=>.al (r1=.vec 1/\(o1.tail.hO)=.vec 1 (o1.tail.hO).es)<|.al (cI 1 ((o1.tail.hO).es)/\((e5.length)+((o1.tail.hO).es).length)*16<=140737488355328)<|.done 0 [x1,VI (IntKind.wrap .i64 (x6+1))] [.cells [VS o2_0,o2_1],.cells [VS o4_0,o4_1],.vec 1 (e5++((o1.tail.hO).es))]) (.done 1 [] [.cells [VS o2_0,o2_1],.cells [VS o4_0,o4_1],.vec 1 e5])
abbrev GA:=cW Tryz.prog 33 JF EG
theorem K0(x1:AV)(x6:Int)(o2_0:ByteArray)(o2_1:AV)(o4_0:ByteArray)(o4_1:AV)(e5:List (List AV))(h:oW 33 (FR x1 x6 o2_0 o2_1 o4_0 o4_1 e5) GA U):GA [x1,VI x6] [.cells [VS o2_0,o2_1],.cells [VS o4_0,o4_1],.vec 1 e5] U :=
 gQ KK h
def Hx(a0:ByteArray)(a1:ByteArray):Tree :=
 .call 9 [VS a0] [] fun r1 o1=>NT r1<|.al ((r1.comp 0)=.agg (r1.comp 0).cs/\(r1.comp 0).cs.length=2/\cc [.str,.sl] ((r1.comp 0).cs) 0)<|NB (r1.comp 1)<|.call 11 [VS a1] [] fun r2 o2=>NT r2<|.al ((r2.comp 0)=.agg (r2.comp 0).cs/\(r2.comp 0).cs.length=2/\cc [.str,.sl] ((r2.comp 0).cs) 0)<|NB (r2.comp 1)<|.test (!((r1.comp 1).toBool)) (.done 0 [.cP [.sl [],VB false]] []) (.call 10 [VS a0,VS a1,VI 100] [] fun r3 o3=>NB r3<|.test (!r3.toBool) (.done 0 [.cP [.sl [],VB false]] []) (.call 67 [.agg [VS (((r1.comp 0).cs.getD 0 .any).toStr),((r1.comp 0).cs.getD 1 .any)],.agg [VS (((r2.comp 0).cs.getD 0 .any).toStr),((r2.comp 0).cs.getD 1 .any)],.sl [],.vec 0] [.vec 3 []] fun r4 o4=>.al (r4=.vec 1/\(o4.tail.hO)=.vec 3 (o4.tail.hO).es)<|.done 0 [.cP [.sl ((o4.tail.hO).es),VB (decide ((((o4.tail.hO).es).length:Int)<=(100:Int)))]] []))
theorem NU(a0:ByteArray)(a1:ByteArray)(h:eg 39 (Hx a0 a1) R):aB Tryz.prog 48 [VS a0,VS a1] [] R :=
 uQ (aj (aD _) (aj (aD _) aJ)) (oQ [] Tryz.f48 h)
def Kt(a0:ByteArray):Tree :=
 .call 68 [VS a0] [] fun r1 o1=>NP r1<|NP r1<|.test r1.isNil (.done 0 [.v (.pointer none)] []) (.call 69 [r1] [] fun r2 o2=>NB r2<|.test (!r2.toBool) (.done 0 [.v (.pointer none)] []) (.done 0 [r1] []))
theorem Mg(a0:ByteArray)(h:eg 14 (Kt a0) R):aB Tryz.prog 49 [VS a0] [] R :=
 uQ (aj (aD _) aJ) (oQ [] Tryz.f49 h)
def H6(a0:ByteArray):Tree :=
 .call 70 [VS a0] [] fun r1 o1=>NP r1<|NP r1<|.test r1.isNil (.done 0 [.v (.pointer none)] []) (.call 71 [r1] [] fun r2 o2=>NP r2<|NP r2<|.test r2.isNil (.done 0 [.v (.pointer none)] []) (.call 42 [r2] [] fun r3 o3=>NI r3<|.test (decide (r3.toInt>(200:Int))) (.done 0 [.v (.pointer none)] []) (.done 0 [r2] [])))
theorem NY(a0:ByteArray)(h:eg 19 (H6 a0) R):aB Tryz.prog 50 [VS a0] [] R :=
 uQ (aj (aD _) aJ) (oQ [] Tryz.f50 h)
def zI(a0_0:AV)(a0_1:AV)(a1:AV)(a2:Int):Tree :=
 NZ a0_0<|NZ a0_0<|.al (LK.has (.int .u8) (a0_0.deref.hA)/\1<=a0_0.deref.length)<|.test (((a0_0.deref.hA).toInt)==(49:Int)) (NZ a1<|NZ a1<|.al (LK.has (.int .u8) (a1.deref.hA)/\1<=a1.deref.length)<|.done 0 [VB (((a1.deref.hA).toInt)==(117:Int))] []) (.test (((a0_0.deref.hA).toInt)==(110:Int)) (NZ a1<|NZ a1<|.al (LK.has (.int .u8) (a1.deref.hA)/\1<=a1.deref.length)<|.test (((a1.deref.hA).toInt) != (101:Int)) (.done 0 [VB false] []) (NZ a1<|NZ a1<|nM (a1.deref.drop 1)<|.al (0<=(1:Int)/\(1:Int)<=(af (((a1.deref.drop 1).hA).toStr):Int)/\(af (((a1.deref.drop 1).hA).toStr):Int)<=(af (((a1.deref.drop 1).hA).toStr):Int))<|.call 72 [VS (bS (((a1.deref.drop 1).hA).toStr) (bQ 1) (bQ (af (((a1.deref.drop 1).hA).toStr):Int)))] [] fun r1 o1=>NT r1<|NI (r1.comp 0)<|.al (LK.has .kS (r1.comp 1))<|.done 0 [VB (decide (((r1.comp 0).toInt)<a2))] [])) (.test (((a0_0.deref.hA).toInt)==(98:Int)) (.call 38 [.agg [a0_0,a0_1]] [] fun r2 o2=>NP r2<|NZ r2<|NZ r2<|.al (cc [.ptr,.ptr] r2.deref 0/\2<=r2.deref.length)<|.call 51 [.agg [(r2.deref.getD 0 .any),(r2.deref.getD 1 .any)],a1,VI a2] [] fun r3 o3=>NB r3<|.done 0 [VB r3.toBool] []) (.test (((a0_0.deref.hA).toInt)==(43:Int)) (NZ a1<|NZ a1<|.al (LK.has (.int .u8) (a1.deref.hA)/\1<=a1.deref.length)<|.test (((a1.deref.hA).toInt)==(108:Int)) (.call 39 [.agg [a0_0,a0_1]] [] fun r4 o4=>.al (r4=.agg r4.cs/\r4.cs.length=2/\cc [.ptr,.ptr] r4.cs 0)<|NZ a1<|NZ a1<|im (a1.deref.drop 2)<|.call 51 [.agg [(r4.cs.getD 0 .any),(r4.cs.getD 1 .any)],((a1.deref.drop 2).hA),VI a2] [] fun r5 o5=>NB r5<|.test r5.toBool (.done 0 [VB true] []) (NZ a1<|NZ a1<|.al (LK.has (.int .u8) (a1.deref.hA)/\1<=a1.deref.length)<|.test (((a1.deref.hA).toInt)==(114:Int)) (.call 40 [.agg [a0_0,a0_1]] [] fun r6 o6=>.al (r6=.agg r6.cs/\r6.cs.length=2/\cc [.ptr,.ptr] r6.cs 0)<|NZ a1<|NZ a1<|im (a1.deref.drop 2)<|.call 51 [.agg [(r6.cs.getD 0 .any),(r6.cs.getD 1 .any)],((a1.deref.drop 2).hA),VI a2] [] fun r7 o7=>NB r7<|.done 0 [VB r7.toBool] []) (.done 0 [VB false] []))) (NZ a1<|NZ a1<|.al (LK.has (.int .u8) (a1.deref.hA)/\1<=a1.deref.length)<|.test (((a1.deref.hA).toInt)==(114:Int)) (.call 40 [.agg [a0_0,a0_1]] [] fun r8 o8=>.al (r8=.agg r8.cs/\r8.cs.length=2/\cc [.ptr,.ptr] r8.cs 0)<|NZ a1<|NZ a1<|im (a1.deref.drop 2)<|.call 51 [.agg [(r8.cs.getD 0 .any),(r8.cs.getD 1 .any)],((a1.deref.drop 2).hA),VI a2] [] fun r9 o9=>NB r9<|.done 0 [VB r9.toBool] []) (.done 0 [VB false] []))) (.test (((a0_0.deref.hA).toInt)==(42:Int)) (NZ a1<|NZ a1<|.al (LK.has (.int .u8) (a1.deref.hA)/\1<=a1.deref.length)<|.test (((a1.deref.hA).toInt)==(112:Int)) (.call 39 [.agg [a0_0,a0_1]] [] fun r10 o10=>.al (r10=.agg r10.cs/\r10.cs.length=2/\cc [.ptr,.ptr] r10.cs 0)<|NZ a1<|NZ a1<|im (a1.deref.drop 2)<|.call 51 [.agg [(r10.cs.getD 0 .any),(r10.cs.getD 1 .any)],((a1.deref.drop 2).hA),VI a2] [] fun r11 o11=>NB r11<|.test r11.toBool (.call 40 [.agg [a0_0,a0_1]] [] fun r12 o12=>.al (r12=.agg r12.cs/\r12.cs.length=2/\cc [.ptr,.ptr] r12.cs 0)<|NZ a1<|NZ a1<|im (a1.deref.drop 3)<|.call 51 [.agg [(r12.cs.getD 0 .any),(r12.cs.getD 1 .any)],((a1.deref.drop 3).hA),VI a2] [] fun r13 o13=>NB r13<|.done 0 [VB r13.toBool] []) (.done 0 [VB false] [])) (.done 0 [VB false] [])) (.test (((a0_0.deref.hA).toInt)==(114:Int)) (.call 18 [.agg [a0_0,a0_1]] [] fun r14 o14=>NT r14<|.al ((r14.comp 0)=.agg (r14.comp 0).cs/\(r14.comp 0).cs.length=2/\cc [.ptr,.ptr] ((r14.comp 0).cs) 0)<|NP (r14.comp 1)<|NZ a1<|NZ a1<|.al (LK.has (.int .u8) (a1.deref.hA)/\1<=a1.deref.length)<|.test (((a1.deref.hA).toInt)==(102:Int)) (NZ a1<|NZ a1<|im (a1.deref.drop 2)<|.call 51 [.agg [((r14.comp 0).cs.getD 0 .any),((r14.comp 0).cs.getD 1 .any)],((a1.deref.drop 2).hA),VI a2] [] fun r15 o15=>NB r15<|.done 0 [VB r15.toBool] []) (.done 0 [VB false] [])) (.done 0 [VB false] []))))))
theorem HN(a0_0:AV)(a0_1:AV)(a1:AV)(a2:Int)(ha0_0:LK.has .ptr a0_0)(ha0_1:LK.has .ptr a0_1)(ha1:LK.has .ptr a1)(h:eg 134 (zI a0_0 a0_1 a1 a2) R):aB Tryz.prog 51 [.agg [a0_0,a0_1],a1,VI a2] [] R :=
 uQ (aj (cD (aj (cK ha0_0) (aj (cK ha0_1) aJ))) (aj (cK ha1) (aj (aD _) aJ))) (oQ [] Tryz.f51 h)
def Lg(a0:ByteArray):Tree :=
 .call 32 [VS a0] [] fun r1 o1=>NT r1<|.al ((r1.comp 0)=.agg (r1.comp 0).cs/\(r1.comp 0).cs.length=2/\cc [.str,.sl] ((r1.comp 0).cs) 0)<|NB (r1.comp 1)<|.test ((r1.comp 1).toBool) (.call 73 [.agg [VS (((r1.comp 0).cs.getD 0 .any).toStr),((r1.comp 0).cs.getD 1 .any)]] [] fun r2 o2=>NB r2<|.test r2.toBool (.call 63 [.agg [VS (((r1.comp 0).cs.getD 0 .any).toStr),((r1.comp 0).cs.getD 1 .any)]] [] fun r3 o3=>NI r3<|.done 0 [.cP [.agg [VS (((r1.comp 0).cs.getD 0 .any).toStr),((r1.comp 0).cs.getD 1 .any)],VB (decide (r3.toInt<=(400:Int)))]] []) (.done 0 [.cP [.agg [VS (((r1.comp 0).cs.getD 0 .any).toStr),((r1.comp 0).cs.getD 1 .any)],VB false]] [])) (.done 0 [.cP [.agg [VS (((r1.comp 0).cs.getD 0 .any).toStr),((r1.comp 0).cs.getD 1 .any)],VB false]] [])
theorem MD(a0:ByteArray)(h:eg 22 (Lg a0) R):aB Tryz.prog 52 [VS a0] [] R :=
 uQ (aj (aD _) aJ) (oQ [] Tryz.f52 h)
def Fx(a0_0:ByteArray)(a0_1:AV)(a1:AV)(e2:List (List AV)):Tree :=
 .test (!(ae a0_0==ae (mk []))) (.test (ae a0_0==ae (mk [48])) (.done 0 [.vec 1] [.dead,.vec 1 e2]) (.test (ae a0_0==ae (mk [49])) (.done 0 [.vec 1] [.dead,.vec 1 e2]) (.call 74 [a1,VS a0_0] [] fun r1 o1=>NB r1<|.test r1.toBool (.done 0 [.vec 1] [.dead,.vec 1 e2]) (.call 74 [.sl e2,VS a0_0] [] fun r2 o2=>NB r2<|.test r2.toBool (.done 0 [.vec 1] [.dead,.vec 1 e2]) (.al (cI 1 [[VS a0_0]]/\((e2.length)+([[VS a0_0]]:List (List AV)).length)*16<=140737488355328)<|.done 0 [.vec 1] [.dead,.vec 1 (e2++([[VS a0_0]]:List (List AV)))]))))) (.call 29 [.agg [VS a0_0,a0_1]] [] fun r3 o3=>NS r3<|.test (ae r3.toStr==ae (mk [114,101,99])) (NG a0_1 2 2<|NE (a0_1.ix (2:Int))<|NG a0_1 1 2<|nM (a0_1.ix (1:Int))<|.call 75 [a1,VS (((a0_1.ix (1:Int)).hA).toStr)] [] fun r4 o4=>.al (r4=.vec 0/\(o4.hO)=.vec 1 (o4.hO).es)<|.al (∀x,x∈o4->jq x)<|.call 53 [.agg [VS (((a0_1.ix (2:Int)).getD 0 .any).toStr),((a0_1.ix (2:Int)).getD 1 .any)],.sl ((o4.hO).es),.vec 0] [.vec 1 e2] fun r5 o5=>.al (r5=.vec 1/\(o5.tail.hO)=.vec 1 (o5.tail.hO).es)<|.done 0 [.vec 1] [.dead,.vec 1 ((o5.tail.hO).es)]) (NG a0_1 2 2<|NE (a0_1.ix (2:Int))<|NG a0_1 1 2<|NE (a0_1.ix (1:Int))<|.call 53 [.agg [VS (((a0_1.ix (1:Int)).getD 0 .any).toStr),((a0_1.ix (1:Int)).getD 1 .any)],a1,.vec 0] [.vec 1 e2] fun r6 o6=>.al (r6=.vec 1/\(o6.tail.hO)=.vec 1 (o6.tail.hO).es)<|.call 53 [.agg [VS (((a0_1.ix (2:Int)).getD 0 .any).toStr),((a0_1.ix (2:Int)).getD 1 .any)],a1,.vec 0] [.vec 1 ((o6.tail.hO).es)] fun r7 o7=>.al (r7=.vec 1/\(o7.tail.hO)=.vec 1 (o7.tail.hO).es)<|.done 0 [.vec 1] [.dead,.vec 1 ((o7.tail.hO).es)]))
theorem zx(a0_0:ByteArray)(a0_1:AV)(a1:AV)(e2:List (List AV))(ha0_1:LK.has .sl a0_1)(ha1:LK.has .sl a1)(h:eg 65 (Fx a0_0 a0_1 a1 e2) R):aB Tryz.prog 53 [.agg [VS a0_0,a0_1],a1,.vec 0] [.vec 1 e2] R :=
 aB.uf (cf (kQ _) dC) (aB.up (aj (cD (aj (aD _) (aj (cd ha0_1) aJ))) (aj (cd ha1) (aj (aD _) aJ))) (oF [] {mu:=[(2,.one (.vec))],own:=[0]} Tryz.f53 h))
def Lw(a0:ByteArray):Tree :=
 .call 76 [VS a0,.v (.int .u8 116),.v (.int .u8 116)] [] fun r1 o1=>NB r1<|.done 0 [VB r1.toBool] []
theorem L7(a0:ByteArray)(h:eg 5 (Lw a0) R):aB Tryz.prog 54 [VS a0] [] R :=
 uQ (aj (aD _) aJ) (oQ [] Tryz.f54 h)
def FW:LI:={hd:={ck:=[(1,.k .sl),(6,.k (.int .i64))],refs:=[(2,2),(4,4)],cM:=[(2,[.lk .str,.lk .sl]),(4,[.lk .str,.lk .sl])]},xs:={ck:=[(1,.k .sl)],refs:=[(2,2),(4,4)],cM:=[(2,[.lk .str,.lk .sl]),(4,[.lk .str,.lk .sl])]},rt:={ck:=[(5,.k .sl)],refs:=[(4,4)],cM:=[(4,[.lk .str,.lk .sl])]},ex:=0}
def J5:Code:=dF (dx Tryz.f55) 2
def HB:List (Nat×LI):=[(2,FW)]
def HM(a0_0:ByteArray)(a0_1:AV)(a1:AV):Tree :=
 NL a1<|.loop J5 FW [a1,VI (IntKind.wrap .i64 ((a1.elems.length:Int)-1))] [.cells [VS a0_0,a0_1],.cells [VS (mk []),.v (.slice none 0 0)]] (fun y1 q1=>NL (y1.hA)<|.al ((q1.hO)=.cells (q1.hO).cs)<|.al (ah [.lk .str,.lk .sl] ((q1.hO).cs) 0 q1.tail)<|.al (((q1.tail.drop 0).hO)=.cells ((q1.tail.drop 0).hO).cs)<|.al (ah [.lk .str,.lk .sl] (((q1.tail.drop 0).hO).cs) 0 ((q1.tail.drop 0).tail))<|.done 0 [.cP [.agg [VS (((q1.hO).cs.getD 0 .any).toStr),((q1.hO).cs.getD 1 .any)],(y1.hA)]] []) (fun y1 q1=>NL (y1.hA)<|.al ((q1.hO)=.cells (q1.hO).cs)<|.al (ah [.lk .str,.lk .sl] ((q1.hO).cs) 0 q1.tail)<|.done 0 [.cP [.agg [VS (((q1.hO).cs.getD 0 .any).toStr),((q1.hO).cs.getD 1 .any)],(y1.hA)]] [])
theorem Nu(a0_0:ByteArray)(a0_1:AV)(a1:AV)(ha0_1:LK.has .sl a0_1)(ha1:LK.has .sl a1)(h:eg 34 (HM a0_0 a0_1 a1) R):aB Tryz.prog 55 [.agg [VS a0_0,a0_1],a1] [] R :=
 uQ (aj (cD (aj (aD _) (aj (cd ha0_1) aJ))) (aj (cd ha1) aJ)) (oQ HB Tryz.f55 h)
def EH(x1:AV)(x6:Int)(o2_0:ByteArray)(o2_1:AV)(o4_0:ByteArray)(o4_1:AV):Tree :=
 NL x1<|NI (VI x6)<|.al (Ob.cells [VS o2_0,o2_1]=.cells [VS o2_0,o2_1])<|.al (ah [.lk .str,.lk .sl] [VS o2_0,o2_1] 0 [.cells [VS o4_0,o4_1]])<|.al (Ob.cells [VS o4_0,o4_1]=.cells [VS o4_0,o4_1])<|.al (ah [.lk .str,.lk .sl] [VS o4_0,o4_1] 0 [])<|.test (decide (x6≥(0:Int))) (NG x1 x6 4<|nM (x1.ix x6)<|.test (ae (((x1.ix x6).hA).toStr)==ae o2_0) (NG x1 x6 4<|NE ((x1.ix x6).drop 1)<|NG x1 x6 4<|sc ((x1.ix x6).drop 3)<|.done 2 [(((x1.ix x6).drop 3).hA)] [.cells [VS ((((x1.ix x6).drop 1).getD 0 .any).toStr),(((x1.ix x6).drop 1).getD 1 .any)]]) (.done 0 [x1,VI (IntKind.wrap .i64 (x6-1))] [.cells [VS o2_0,o2_1],.cells [VS o4_0,o4_1]])) (.done 1 [x1] [.cells [VS o2_0,o2_1],.cells [VS o4_0,o4_1]])
abbrev E6:=cW Tryz.prog 34 J5 FW
theorem HV(x1:AV)(x6:Int)(o2_0:ByteArray)(o2_1:AV)(o4_0:ByteArray)(o4_1:AV)(h:oW 34 (EH x1 x6 o2_0 o2_1 o4_0 o4_1) E6 U):E6 [x1,VI x6] [.cells [VS o2_0,o2_1],.cells [VS o4_0,o4_1]] U :=
 gQ HB h
def Lu(a0:ByteArray):Tree :=
 .call 76 [VS a0,.v (.int .u8 120),.v (.int .u8 122)] [] fun r1 o1=>NB r1<|.done 0 [VB r1.toBool] []
theorem No(a0:ByteArray)(h:eg 5 (Lu a0) R):aB Tryz.prog 56 [VS a0] [] R :=
 uQ (aj (aD _) aJ) (oQ [] Tryz.f56 h)
def BH:LI:={hd:={ck:=[(0,.k .str),(3,.k (.int .i64)),(4,.k (.int .i64))]},xs:={ck:=[(3,.k (.int .i64))]},rt:={ck:=[(2,.k (.int .i64))]},ex:=0}
def C0:Code:=dF (dx Tryz.f57) 5
def I2:List (Nat×LI):=[(5,BH)]
def KE(a0:ByteArray):Tree :=
 .call 30 [VI (af a0:Int),VI 2,VI 3] [] fun r1 o1=>NB r1<|.test (!r1.toBool) (.done 0 [VI (-1)] []) (.al (0<=(0:Int)/\(0:Int)<af a0)<|.test ((bt a0 0) != (101:Int)) (.done 0 [VI (-1)] []) (.test ((af a0:Int)==(3:Int)) (.al (0<=(1:Int)/\(1:Int)<af a0)<|.test ((bt a0 1)==(48:Int)) (.done 0 [VI (-1)] []) (.loop C0 BH [VS a0,VI 0,VI 1] [] (fun y2 q2=>NI (y2.hA)<|.done 0 [VI ((y2.hA).toInt)] []) (fun y2 q2=>NI (y2.hA)<|.done 0 [VI ((y2.hA).toInt)] []))) (.loop C0 BH [VS a0,VI 0,VI 1] [] (fun y3 q3=>NI (y3.hA)<|.done 0 [VI ((y3.hA).toInt)] []) (fun y3 q3=>NI (y3.hA)<|.done 0 [VI ((y3.hA).toInt)] []))))
theorem NR(a0:ByteArray)(h:eg 49 (KE a0) R):aB Tryz.prog 57 [VS a0] [] R :=
 uQ (aj (aD _) aJ) (oQ I2 Tryz.f57 h)
def FL(x0:ByteArray)(x3:Int)(x4:Int):Tree :=
 NS (VS x0)<|NI (VI x3)<|NI (VI x4)<|.test (decide (x4<(af x0:Int))) (.al (0<=x4/\x4<af x0)<|.test (decide ((bt x0 x4)<(48:Int))) (.done 2 [VI (-1)] []) (.al (0<=x4/\x4<af x0)<|.test (decide ((bt x0 x4)>(57:Int))) (.done 2 [VI (-1)] []) (.al (0<=x4/\x4<af x0)<|.done 0 [VS x0,VI (IntKind.wrap .i64 ((IntKind.wrap .i64 (10*x3))+(IntKind.wrap .i64 (IntKind.wrap .u8 ((bt x0 x4)-48))))),VI (IntKind.wrap .i64 (x4+1))] []))) (.done 1 [VI x3] [])
abbrev GX:=cW Tryz.prog 49 C0 BH
theorem IQ(x0:ByteArray)(x3:Int)(x4:Int)(h:oW 49 (FL x0 x3 x4) GX U):GX [VS x0,VI x3,VI x4] [] U :=
 gQ I2 h
def Ic(a0_0:ByteArray)(a0_1:AV)(a1:AV):Tree :=
 NG a0_1 2 2<|NE (a0_1.ix (2:Int))<|.al (LK.has .sl a1/\cI 4 a1.elems/\((([]:List (List AV)).length)+a1.elems.length)*80<=140737488355328)<|NG a0_1 1 2<|nM (a0_1.ix (1:Int))<|.al (cI 4 [[VS (((a0_1.ix (1:Int)).hA).toStr),VS a0_0,a0_1,a1]]/\(((([]:List (List AV))++a1.elems).length)+([[VS (((a0_1.ix (1:Int)).hA).toStr),VS a0_0,a0_1,a1]]:List (List AV)).length)*80<=140737488355328)<|.done 0 [.cP [.agg [VS (((a0_1.ix (2:Int)).getD 0 .any).toStr),((a0_1.ix (2:Int)).getD 1 .any)],.sl ((([]:List (List AV))++a1.elems)++([[VS (((a0_1.ix (1:Int)).hA).toStr),VS a0_0,a0_1,a1]]:List (List AV)))]] []
theorem NJ(a0_0:ByteArray)(a0_1:AV)(a1:AV)(ha0_1:LK.has .sl a0_1)(ha1:LK.has .sl a1)(h:eg 23 (Ic a0_0 a0_1 a1) R):aB Tryz.prog 58 [.agg [VS a0_0,a0_1],a1] [] R :=
 uQ (aj (cD (aj (aD _) (aj (cd ha0_1) aJ))) (aj (cd ha1) aJ)) (oQ [] Tryz.f58 h)
def FU:LI:={hd:={ck:=[(0,.k .str),(1,.k (.int .i64)),(9,.k (.int .i64))],refs:=[(6,6),(8,8)],cM:=[(6,[.lk .str,.lk .sl]),(8,[.lk .str,.lk .sl])]},xs:={ck:=[(0,.k .str),(1,.k (.int .i64)),(9,.k (.int .i64))],refs:=[(6,6),(8,8)],cM:=[(6,[.lk .str,.lk .sl]),(8,[.lk .str,.lk .sl])]},rt:={},ex:=0}
def KQ:Code:=dF (dx Tryz.f59) 6
def GB:LI:={hd:={ck:=[(0,.k .str),(1,.k (.int .i64)),(2,.k (.int .i64))],refs:=[(6,6),(8,8)],cM:=[(6,[.lk .str,.lk .sl]),(8,[.lk .str,.vec 2])]},xs:={},rt:={ck:=[(7,.k (.int .i64))],refs:=[(6,6)],cM:=[(6,[.lk .str,.vec 2])]},ex:=999}
def IG:Code:=dF (dx Tryz.f59) 12
def Gm:List (Nat×LI):=[(6,FU),(12,GB)]
def E7(a0:ByteArray)(a1:Int)(a2:Int):Tree :=
 .test (decide (a2>(300:Int))) (.done 0 [.cP [.agg [VS (mk []),.v (.slice none 0 0)],VI (-1)]] []) (.test (decide (a1≥(af a0:Int))) (.done 0 [.cP [.agg [VS (mk []),.v (.slice none 0 0)],VI (-1)]] []) (.al (0<=a1/\a1<af a0)<|.test ((bt a0 a1) != (40:Int)) (.loop KQ FU [VS a0,VI a1,VI a1] [.cells [VS (mk []),.v (.slice none 0 0)],.cells [VS (mk []),.v (.slice none 0 0)]] (fun y2 q2=>NS (y2.hA)<|NI (y2.tail.hA)<|NI (y2.tail.tail.hA)<|.al ((q2.hO)=.cells (q2.hO).cs)<|.al (ah [.lk .str,.lk .sl] ((q2.hO).cs) 0 q2.tail)<|.al (((q2.tail.drop 0).hO)=.cells ((q2.tail.drop 0).hO).cs)<|.al (ah [.lk .str,.lk .sl] (((q2.tail.drop 0).hO).cs) 0 ((q2.tail.drop 0).tail))<|.al (0<=((y2.tail.tail.hA).toInt)/\((y2.tail.tail.hA).toInt)<=((y2.tail.hA).toInt)/\((y2.tail.hA).toInt)<=(af ((y2.hA).toStr):Int))<|.test (ae (bS ((y2.hA).toStr) (bQ ((y2.tail.tail.hA).toInt)) (bQ ((y2.tail.hA).toInt)))==ae (mk [])) (.done 0 [.cP [.agg [VS (bS ((y2.hA).toStr) (bQ ((y2.tail.tail.hA).toInt)) (bQ ((y2.tail.hA).toInt))),((q2.tail.hO).cs.getD 1 .any)],VI (-1)]] []) (.done 0 [.cP [.agg [VS (bS ((y2.hA).toStr) (bQ ((y2.tail.tail.hA).toInt)) (bQ ((y2.tail.hA).toInt))),((q2.tail.hO).cs.getD 1 .any)],VI ((y2.tail.hA).toInt)]] [])) (fun y2 q2=>.fail)) (.loop IG GB [VS a0,VI a1,VI a2] [.cells [VS (mk []),.v (.slice none 0 0)],.cells [VS (mk []),.any],.vec 2 []] (fun y5 q5=>.fail) (fun y5 q5=>NI (y5.hA)<|.al ((q5.hO)=.cells (q5.hO).cs)<|.al (ah [.lk .str,.vec 2] ((q5.hO).cs) 0 q5.tail)<|.done 0 [.cP [.agg [VS (((q5.hO).cs.getD 0 .any).toStr),.sl ((q5.tail.hO).es)],VI ((y5.hA).toInt)]] []))))
theorem HO(a0:ByteArray)(a1:Int)(a2:Int)(h:eg 87 (E7 a0 a1 a2) R):aB Tryz.prog 59 [VS a0,VI a1,VI a2] [] R :=
 uQ (aj (aD _) (aj (aD _) (aj (aD _) aJ))) (oQ Gm Tryz.f59 h)
def FE(x0:ByteArray)(x1:Int)(x9:Int)(o6_0:ByteArray)(o6_1:AV)(o8_0:ByteArray)(o8_1:AV):Tree :=
 NS (VS x0)<|NI (VI x1)<|NI (VI x9)<|.al (Ob.cells [VS o6_0,o6_1]=.cells [VS o6_0,o6_1])<|.al (ah [.lk .str,.lk .sl] [VS o6_0,o6_1] 0 [.cells [VS o8_0,o8_1]])<|.al (Ob.cells [VS o8_0,o8_1]=.cells [VS o8_0,o8_1])<|.al (ah [.lk .str,.lk .sl] [VS o8_0,o8_1] 0 [])<|.test (decide (x1<(af x0:Int))) (.al (0<=x1/\x1<af x0)<|.call 77 [.v (.int .u8 (bt x0 x1))] [] fun r1 o1=>NB r1<|.test r1.toBool (.done 0 [VS x0,VI (IntKind.wrap .i64 (x1+1)),VI x9] [.cells [VS o6_0,o6_1],.cells [VS o8_0,o8_1]]) (.done 1 [VS x0,VI x1,VI x9] [.cells [VS o6_0,o6_1],.cells [VS o8_0,o8_1]])) (.done 1 [VS x0,VI x1,VI x9] [.cells [VS o6_0,o6_1],.cells [VS o8_0,o8_1]])
abbrev EU:=cW Tryz.prog 87 KQ FU
theorem Lq(x0:ByteArray)(x1:Int)(x9:Int)(o6_0:ByteArray)(o6_1:AV)(o8_0:ByteArray)(o8_1:AV)(h:oW 87 (FE x0 x1 x9 o6_0 o6_1 o8_0 o8_1) EU U):EU [VS x0,VI x1,VI x9] [.cells [VS o6_0,o6_1],.cells [VS o8_0,o8_1]] U :=
 gQ Gm h
def Lf(x0:ByteArray)(x1:Int)(x2:Int)(o6_0:ByteArray)(o6_1:AV)(o8_0:ByteArray)(o8_1:List (List AV)):Tree :=
 NS (VS x0)<|NI (VI x1)<|NI (VI x2)<|.al (Ob.cells [VS o6_0,o6_1]=.cells [VS o6_0,o6_1])<|.al (ah [.lk .str,.lk .sl] [VS o6_0,o6_1] 0 [.cells [VS o8_0,.any],.vec 2 o8_1])<|.al (Ob.cells [VS o8_0,.any]=.cells [VS o8_0,.any])<|.al (ah [.lk .str,.vec 2] [VS o8_0,.any] 0 [.vec 2 o8_1])<|.call 59 [VS x0,VI (IntKind.wrap .i64 (x1+1)),VI (IntKind.wrap .i64 (x2+1))] [] fun r1 o1=>NT r1<|.al ((r1.comp 0)=.agg (r1.comp 0).cs/\(r1.comp 0).cs.length=2/\cc [.str,.sl] ((r1.comp 0).cs) 0)<|NI (r1.comp 1)<|.test (decide (((r1.comp 1).toInt)<(0:Int))) (.done 2 [VI (-1)] [.cells [VS o8_0,.any],.vec 2 o8_1]) (.test (decide (((r1.comp 1).toInt)≥(af x0:Int))) (.done 2 [VI (-1)] [.cells [VS o8_0,.any],.vec 2 o8_1]) (.al (cI 2 [[VS (((r1.comp 0).cs.getD 0 .any).toStr),((r1.comp 0).cs.getD 1 .any)]]/\((o8_1.length)+([[VS (((r1.comp 0).cs.getD 0 .any).toStr),((r1.comp 0).cs.getD 1 .any)]]:List (List AV)).length)*40<=140737488355328)<|.al (0<=((r1.comp 1).toInt)/\((r1.comp 1).toInt)<af x0)<|.test ((bt x0 ((r1.comp 1).toInt))==(41:Int)) (.done 2 [VI (IntKind.wrap .i64 (((r1.comp 1).toInt)+1))] [.cells [VS o8_0,.any],.vec 2 (o8_1++([[VS (((r1.comp 0).cs.getD 0 .any).toStr),((r1.comp 0).cs.getD 1 .any)]]:List (List AV)))]) (.al (0<=((r1.comp 1).toInt)/\((r1.comp 1).toInt)<af x0)<|.test ((bt x0 ((r1.comp 1).toInt)) != (32:Int)) (.done 2 [VI (-1)] [.cells [VS o8_0,.any],.vec 2 (o8_1++([[VS (((r1.comp 0).cs.getD 0 .any).toStr),((r1.comp 0).cs.getD 1 .any)]]:List (List AV)))]) (.done 0 [VS x0,VI ((r1.comp 1).toInt),VI x2] [.cells [VS o6_0,o6_1],.cells [VS o8_0,.any],.vec 2 (o8_1++([[VS (((r1.comp 0).cs.getD 0 .any).toStr),((r1.comp 0).cs.getD 1 .any)]]:List (List AV)))]))))
abbrev EY:=cW Tryz.prog 87 IG GB
theorem NQ(x0:ByteArray)(x1:Int)(x2:Int)(o6_0:ByteArray)(o6_1:AV)(o8_0:ByteArray)(o8_1:List (List AV))(h:oW 87 (Lf x0 x1 x2 o6_0 o6_1 o8_0 o8_1) EY U):EY [VS x0,VI x1,VI x2] [.cells [VS o6_0,o6_1],.cells [VS o8_0,.any],.vec 2 o8_1] U :=
 gQ Gm h
def FQ:LI:={hd:={ck:=[(0,.k .sl),(1,.k .str),(7,.k (.int .i64))],eG:=[(2,4)]},xs:={eG:=[(2,4)]},rt:={},ex:=0}
def I8:Code:=dF (dx Tryz.f60) 2
def JU:List (Nat×LI):=[(2,FQ)]
def Iw(a0:AV)(a1:ByteArray)(e2:List (List AV)):Tree :=
 .loop I8 FQ [a0,VS a1,VI 0] [.vec 4 e2] (fun y2 q2=>.al (((q2.drop 0).hO)=.vec 4 ((q2.drop 0).hO).es)<|.done 0 [.vec 1] [.dead,.vec 4 ((q2.hO).es)]) (fun y2 q2=>.fail)
theorem ME(a0:AV)(a1:ByteArray)(e2:List (List AV))(ha0:LK.has .sl a0)(h:eg 32 (Iw a0 a1 e2) R):aB Tryz.prog 60 [a0,VS a1,.vec 0] [.vec 4 e2] R :=
 aB.uf (cf (kQ _) dC) (aB.up (aj (cd ha0) (aj (aD _) (aj (aD _) aJ))) (oF JU {mu:=[(2,.one (.vec))],own:=[0]} Tryz.f60 h))
def Ew(x0:AV)(x1:ByteArray)(x7:Int)(e2:List (List AV)):Tree :=
 NL x0<|NS (VS x1)<|NI (VI x7)<|.al (Ob.vec 4 e2=.vec 4 e2)<|NL x0<|.test (decide (x7<(x0.elems.length:Int))) (NG x0 x7 4<|NE (x0.ix x7)<|.call 35 [VS x1,.sl [[VS (((x0.ix x7).getD 0 .any).toStr),((x0.ix x7).getD 1 .any)]]] [] fun r1 o1=>NA r1<|NG x0 x7 4<|NE ((x0.ix x7).drop 2)<|.al (cI 4 [[VS ((r1.cs.getD 0 .any).toStr),(r1.cs.getD 1 .any),VS ((((x0.ix x7).drop 2).getD 0 .any).toStr),(((x0.ix x7).drop 2).getD 1 .any)]]/\((e2.length)+([[VS ((r1.cs.getD 0 .any).toStr),(r1.cs.getD 1 .any),VS ((((x0.ix x7).drop 2).getD 0 .any).toStr),(((x0.ix x7).drop 2).getD 1 .any)]]:List (List AV)).length)*80<=140737488355328)<|.done 0 [x0,VS x1,VI (IntKind.wrap .i64 (x7+1))] [.vec 4 (e2++([[VS ((r1.cs.getD 0 .any).toStr),(r1.cs.getD 1 .any),VS ((((x0.ix x7).drop 2).getD 0 .any).toStr),(((x0.ix x7).drop 2).getD 1 .any)]]:List (List AV)))]) (.done 1 [] [.vec 4 e2])
abbrev F6:=cW Tryz.prog 32 I8 FQ
theorem Jb(x0:AV)(x1:ByteArray)(x7:Int)(e2:List (List AV))(h:oW 32 (Ew x0 x1 x7 e2) F6 U):F6 [x0,VS x1,VI x7] [.vec 4 e2] U :=
 gQ JU h
def JH(a0_0:AV)(a0_1:Int):Tree :=
 .call 26 [.ref 0 0,VI 8] [.cells [a0_0,VI a0_1]] fun r1 o1=>.al ((o1.hO)=.cells (o1.hO).cs)<|.al (aO [.lk .sl,.lk (.int .i64)] ((o1.hO).cs) 0 1 o1.tail)<|NI r1<|.test (r1.toInt==(0:Int)) (.call 78 [.ref 0 0] [.cells [((o1.hO).cs.getD 0 .any),VI (((o1.hO).cs.getD 1 .any).toInt)]] fun r2 o2=>.al ((o2.hO)=.cells (o2.hO).cs)<|.al (aO [.lk .sl,.lk (.int .i64)] ((o2.hO).cs) 0 1 o2.tail)<|NS r2<|.done 0 [VS r2.toStr] [.cells [((o2.hO).cs.getD 0 .any),VI (((o2.hO).cs.getD 1 .any).toInt)]]) (.test (r1.toInt==(1:Int)) (.call 79 [.ref 0 0,.sl [],VI 3] [.cells [((o1.hO).cs.getD 0 .any),VI (((o1.hO).cs.getD 1 .any).toInt)]] fun r3 o3=>.al ((o3.hO)=.cells (o3.hO).cs)<|.al (aO [.lk .sl,.lk (.int .i64)] ((o3.hO).cs) 0 1 o3.tail)<|NS r3<|.done 0 [VS r3.toStr] [.cells [((o3.hO).cs.getD 0 .any),VI (((o3.hO).cs.getD 1 .any).toInt)]]) (.test (r1.toInt==(2:Int)) (.call 79 [.ref 0 0,.sl [],VI 3] [.cells [((o1.hO).cs.getD 0 .any),VI (((o1.hO).cs.getD 1 .any).toInt)]] fun r4 o4=>.al ((o4.hO)=.cells (o4.hO).cs)<|.al (aO [.lk .sl,.lk (.int .i64)] ((o4.hO).cs) 0 1 o4.tail)<|NS r4<|.done 0 [VS r4.toStr] [.cells [((o4.hO).cs.getD 0 .any),VI (((o4.hO).cs.getD 1 .any).toInt)]]) (.test (r1.toInt==(3:Int)) (.call 79 [.ref 0 0,.sl [],VI 3] [.cells [((o1.hO).cs.getD 0 .any),VI (((o1.hO).cs.getD 1 .any).toInt)]] fun r5 o5=>.al ((o5.hO)=.cells (o5.hO).cs)<|.al (aO [.lk .sl,.lk (.int .i64)] ((o5.hO).cs) 0 1 o5.tail)<|NS r5<|.done 0 [VS r5.toStr] [.cells [((o5.hO).cs.getD 0 .any),VI (((o5.hO).cs.getD 1 .any).toInt)]]) (.call 43 [.ref 0 0] [.cells [((o1.hO).cs.getD 0 .any),VI (((o1.hO).cs.getD 1 .any).toInt)]] fun r6 o6=>.al ((o6.hO)=.cells (o6.hO).cs)<|.al (aO [.lk .sl,.lk (.int .i64)] ((o6.hO).cs) 0 1 o6.tail)<|NS r6<|.done 0 [VS r6.toStr] [.cells [((o6.hO).cs.getD 0 .any),VI (((o6.hO).cs.getD 1 .any).toInt)]]))))
theorem MP(a0_0:AV)(a0_1:Int)(ha0_0:LK.has .sl a0_0)(h:eg 18 (JH a0_0 a0_1) R):aB Tryz.prog 61 [.ref 0 0] [.cells [a0_0,VI a0_1]] R :=
 aB.uf (cf (cN (aj (cd ha0_0) (aj (aD _) aJ))) dC) (aB.up (aj (aD _) aJ) (oF [] {mu:=[(0,.one (.obj [.lk .sl,.lk (.int .i64)]))],own:=[]} Tryz.f61 h))
def z8(a0_0:ByteArray)(a0_1:AV)(a1:AV):Tree :=
 .call 29 [.agg [VS a0_0,a0_1]] [] fun r1 o1=>NS r1<|.test (ae r1.toStr==ae (mk [43])) (NG a0_1 1 2<|NE (a0_1.ix (1:Int))<|.call 62 [.agg [VS (((a0_1.ix (1:Int)).getD 0 .any).toStr),((a0_1.ix (1:Int)).getD 1 .any)],a1] [] fun r2 o2=>NB r2<|.test r2.toBool (NG a0_1 2 2<|NE (a0_1.ix (2:Int))<|.call 62 [.agg [VS (((a0_1.ix (2:Int)).getD 0 .any).toStr),((a0_1.ix (2:Int)).getD 1 .any)],a1] [] fun r3 o3=>NB r3<|.done 0 [VB r3.toBool] []) (.done 0 [VB false] [])) (.test (ae r1.toStr==ae (mk [42])) (NG a0_1 1 2<|NE (a0_1.ix (1:Int))<|.call 62 [.agg [VS (((a0_1.ix (1:Int)).getD 0 .any).toStr),((a0_1.ix (1:Int)).getD 1 .any)],a1] [] fun r4 o4=>NB r4<|.test r4.toBool (.done 0 [VB true] []) (NG a0_1 2 2<|NE (a0_1.ix (2:Int))<|.call 62 [.agg [VS (((a0_1.ix (2:Int)).getD 0 .any).toStr),((a0_1.ix (2:Int)).getD 1 .any)],a1] [] fun r5 o5=>NB r5<|.done 0 [VB r5.toBool] [])) (.test (ae r1.toStr==ae (mk [114,101,99])) (NG a0_1 2 2<|NE (a0_1.ix (2:Int))<|NG a0_1 1 2<|nM (a0_1.ix (1:Int))<|.call 75 [a1,VS (((a0_1.ix (1:Int)).hA).toStr)] [] fun r6 o6=>.al (r6=.vec 0/\(o6.hO)=.vec 1 (o6.hO).es)<|.al (∀x,x∈o6->jq x)<|.call 62 [.agg [VS (((a0_1.ix (2:Int)).getD 0 .any).toStr),((a0_1.ix (2:Int)).getD 1 .any)],.sl ((o6.hO).es)] [] fun r7 o7=>NB r7<|.done 0 [VB r7.toBool] []) (.test (ae a0_0==ae (mk [48])) (.done 0 [VB true] []) (.call 74 [a1,VS a0_0] [] fun r8 o8=>NB r8<|.done 0 [VB r8.toBool] []))))
theorem DH(a0_0:ByteArray)(a0_1:AV)(a1:AV)(ha0_1:LK.has .sl a0_1)(ha1:LK.has .sl a1)(h:eg 62 (z8 a0_0 a0_1 a1) R):aB Tryz.prog 62 [.agg [VS a0_0,a0_1],a1] [] R :=
 uQ (aj (cD (aj (aD _) (aj (cd ha0_1) aJ))) (aj (cd ha1) aJ)) (oQ [] Tryz.f62 h)
def FD:LI:={hd:={ck:=[(3,.k (.int .i64)),(4,.k (.int .i64))],refs:=[(1,1)],cM:=[(1,[.lk .str,.lk .sl])]},xs:={ck:=[(3,.k (.int .i64))]},rt:={},ex:=0}
def J1:Code:=dF (dx Tryz.f63) 5
def HW:List (Nat×LI):=[(5,FD)]
def E0(a0_0:ByteArray)(a0_1:AV):Tree :=
 .test (!(ae a0_0==ae (mk []))) (.done 0 [VI 1] []) (.loop J1 FD [VI 0,VI 0] [.cells [VS a0_0,a0_1]] (fun y2 q2=>NI (y2.hA)<|.done 0 [VI ((y2.hA).toInt)] []) (fun y2 q2=>.done 0 [.any] []))
theorem HQ(a0_0:ByteArray)(a0_1:AV)(ha0_1:LK.has .sl a0_1)(h:eg 24 (E0 a0_0 a0_1) R):aB Tryz.prog 63 [.agg [VS a0_0,a0_1]] [] R :=
 uQ (aj (cD (aj (aD _) (aj (cd ha0_1) aJ))) aJ) (oQ HW Tryz.f63 h)
def Hc(x3:Int)(x4:Int)(o1_0:ByteArray)(o1_1:AV):Tree :=
 NI (VI x3)<|NI (VI x4)<|.al (Ob.cells [VS o1_0,o1_1]=.cells [VS o1_0,o1_1])<|.al (ah [.lk .str,.lk .sl] [VS o1_0,o1_1] 0 [])<|NL o1_1<|.test (decide (x4<(o1_1.elems.length:Int))) (NG o1_1 x4 2<|NE (o1_1.ix x4)<|.call 63 [.agg [VS (((o1_1.ix x4).getD 0 .any).toStr),((o1_1.ix x4).getD 1 .any)]] [] fun r1 o1=>NI r1<|.done 0 [VI (IntKind.wrap .i64 (x3+r1.toInt)),VI (IntKind.wrap .i64 (x4+1))] [.cells [VS o1_0,o1_1]]) (.done 1 [VI x3] [])
abbrev FJ:=cW Tryz.prog 24 J1 FD
theorem Lt(x3:Int)(x4:Int)(o1_0:ByteArray)(o1_1:AV)(h:oW 24 (Hc x3 x4 o1_0 o1_1) FJ U):FJ [VI x3,VI x4] [.cells [VS o1_0,o1_1]] U :=
 gQ HW h
def K7(a0_0:ByteArray)(a0_1:AV):Tree :=
 NG a0_1 1 2<|nM (a0_1.ix (1:Int))<|NG a0_1 2 2<|NE (a0_1.ix (2:Int))<|.call 80 [.agg [VS (((a0_1.ix (2:Int)).getD 0 .any).toStr),((a0_1.ix (2:Int)).getD 1 .any)],VS (((a0_1.ix (1:Int)).hA).toStr),.agg [VS a0_0,a0_1]] [] fun r1 o1=>NB r1<|.test (!r1.toBool) (.done 0 [.cP [.agg [VS a0_0,a0_1],VB false]] []) (NG a0_1 2 2<|NE (a0_1.ix (2:Int))<|.call 81 [.agg [VS (((a0_1.ix (2:Int)).getD 0 .any).toStr),((a0_1.ix (2:Int)).getD 1 .any)],VS (((a0_1.ix (1:Int)).hA).toStr),.agg [VS a0_0,a0_1]] [] fun r2 o2=>NA r2<|.done 0 [.cP [.agg [VS ((r2.cs.getD 0 .any).toStr),(r2.cs.getD 1 .any)],VB true]] [])
theorem M5(a0_0:ByteArray)(a0_1:AV)(ha0_1:LK.has .sl a0_1)(h:eg 26 (K7 a0_0 a0_1) R):aB Tryz.prog 64 [.agg [VS a0_0,a0_1]] [] R :=
 uQ (aj (cD (aj (aD _) (aj (cd ha0_1) aJ))) aJ) (oQ [] Tryz.f64 h)
def Ia(a0:Int):Tree :=
 .test (decide (a0<((-9223372036854775807):Int))) (.done 0 [VS (mk [45,57,50,50,51,51,55,50,48,51,54,56,53,52,55,55,53,56,48,56])] []) (.test (decide (a0<(0:Int))) (.call 65 [VI (IntKind.wrap .i64 (0-a0))] [] fun r1 o1=>NS r1<|.al (af (mk [45])+af r1.toStr<=9223372036854775807)<|.done 0 [VS (((mk [45]):ByteArray)++r1.toStr)] []) (.test (decide (a0<(10:Int))) (.al (mB [[.v (.int .u8 (IntKind.wrap .u8 (IntKind.wrap .i64 (48+a0))))]])<|.done 0 [VS (⟨(bytesOf [[.v (.int .u8 (IntKind.wrap .u8 (IntKind.wrap .i64 (48+a0))))]]).toArray⟩)] []) (.al (¬(10:Int)=0)<|.call 65 [VI (IntKind.wrap .i64 (eE a0 10))] [] fun r2 o2=>NS r2<|.al (¬(10:Int)=0)<|.al (mB [[.v (.int .u8 (IntKind.wrap .u8 (IntKind.wrap .i64 (48+(dr a0 10)))))]])<|.al (af r2.toStr+af (⟨(bytesOf [[.v (.int .u8 (IntKind.wrap .u8 (IntKind.wrap .i64 (48+(dr a0 10)))))]]).toArray⟩)<=9223372036854775807)<|.done 0 [VS ((r2.toStr:ByteArray)++(⟨(bytesOf [[.v (.int .u8 (IntKind.wrap .u8 (IntKind.wrap .i64 (48+(dr a0 10)))))]]).toArray⟩))] [])))
theorem NV(a0:Int)(h:eg 28 (Ia a0) R):aB Tryz.prog 65 [VI a0] [] R :=
 uQ (aj (aD _) aJ) (oQ [] Tryz.f65 h)
def Ff:LI:={hd:={ck:=[(1,.k .sl),(2,.k .sl),(9,.k (.int .i64))],refs:=[(4,4),(8,8)],cM:=[(4,[.lk .str,.lk .sl]),(8,[.lk .str,.lk .sl]),(0,[.vec 1,.lk (.int .i64)])]},xs:={refs:=[(4,4),(8,8)],cM:=[(4,[.lk .str,.lk .sl]),(8,[.lk .str,.lk .sl]),(0,[.vec 1,.lk (.int .i64)])]},rt:={refs:=[(8,8)],cM:=[(8,[.lk .str,.lk .sl]),(0,[.vec 1,.lk (.int .i64)])]},ex:=0,fx:=[0]}
def Jw:Code:=dF (dx Tryz.f66) 3
def G1:LI:={hd:={ck:=[(1,.k .sl),(2,.k .sl),(10,.k .str)],refs:=[(3,0),(4,4),(8,8)],cM:=[(0,[.vec 1,.lk (.int .i64)]),(4,[.lk .str,.lk .sl]),(8,[.lk .str,.lk .sl])]},xs:={ck:=[(1,.k .sl),(2,.k .sl),(10,.k .str)],refs:=[(3,0),(4,4),(8,8)],cM:=[(0,[.vec 1,.lk (.int .i64)]),(4,[.lk .str,.lk .sl]),(8,[.lk .str,.lk .sl])]},rt:={cM:=[(0,[.vec 1,.lk (.int .i64)])]},ex:=2,fx:=[0]}
def I1:Code:=dF (dx Tryz.f66) 10
def F9:List (Nat×LI):=[(3,Ff),(10,G1)]
def zR(a0_0:ByteArray)(a0_1:AV)(a1:AV)(a2:AV)(e3_0:List (List AV))(a3_1:Int):Tree :=
 .test (!(ae a0_0==ae (mk []))) (NL a1<|.loop Jw Ff [a1,a2,VI (IntKind.wrap .i64 ((a1.elems.length:Int)-1))] [.cells [VS a0_0,a0_1],.cells [VS (mk []),.v (.slice none 0 0)],.cells [.any,VI a3_1],.vec 1 e3_0] (fun y1 q1=>.al ((q1.hO)=.cells (q1.hO).cs)<|.al (ah [.lk .str,.lk .sl] ((q1.hO).cs) 0 q1.tail)<|.al (((q1.tail.drop 0).hO)=.cells ((q1.tail.drop 0).hO).cs)<|.al (ah [.lk .str,.lk .sl] (((q1.tail.drop 0).hO).cs) 0 ((q1.tail.drop 0).tail))<|.al ((((q1.tail.drop 0).tail.drop 0).hO)=.cells (((q1.tail.drop 0).tail.drop 0).hO).cs)<|.al (ah [.vec 1,.lk (.int .i64)] ((((q1.tail.drop 0).tail.drop 0).hO).cs) 0 (((q1.tail.drop 0).tail.drop 0).tail))<|.done 0 [.agg [VS (((q1.hO).cs.getD 0 .any).toStr),((q1.hO).cs.getD 1 .any)]] [.cells [.vec 1,VI (((q1.tail.tail.hO).cs.getD 1 .any).toInt)],.vec 1 ((q1.tail.tail.tail.hO).es)]) (fun y1 q1=>.al ((q1.hO)=.cells (q1.hO).cs)<|.al (ah [.lk .str,.lk .sl] ((q1.hO).cs) 0 q1.tail)<|.al (((q1.tail.drop 0).hO)=.cells ((q1.tail.drop 0).hO).cs)<|.al (ah [.vec 1,.lk (.int .i64)] (((q1.tail.drop 0).hO).cs) 0 ((q1.tail.drop 0).tail))<|.done 0 [.agg [VS (((q1.hO).cs.getD 0 .any).toStr),((q1.hO).cs.getD 1 .any)]] [.cells [.vec 1,VI (((q1.tail.hO).cs.getD 1 .any).toInt)],.vec 1 ((q1.tail.tail.hO).es)])) (.call 29 [.agg [VS a0_0,a0_1]] [] fun r2 o2=>NS r2<|.test (ae r2.toStr==ae (mk [114,101,99])) (.call 65 [VI a3_1] [] fun r3 o3=>NS r3<|.al (af (mk [116])+af r3.toStr<=9223372036854775807)<|.loop I1 G1 [a1,a2,VS (((mk [116]):ByteArray)++r3.toStr)] [.cells [.any,VI a3_1],.vec 1 e3_0,.cells [VS a0_0,a0_1],.cells [VS (mk []),.v (.slice none 0 0)]] (fun y6 q6=>NL (y6.hA)<|NL (y6.tail.hA)<|NS (y6.tail.tail.hA)<|.al ((q6.hO)=.cells (q6.hO).cs)<|.al (ah [.vec 1,.lk (.int .i64)] ((q6.hO).cs) 0 q6.tail)<|.al (((q6.tail.drop 1).hO)=.cells ((q6.tail.drop 1).hO).cs)<|.al (ah [.lk .str,.lk .sl] (((q6.tail.drop 1).hO).cs) 0 ((q6.tail.drop 1).tail))<|.al ((((q6.tail.drop 1).tail.drop 0).hO)=.cells (((q6.tail.drop 1).tail.drop 0).hO).cs)<|.al (ah [.lk .str,.lk .sl] ((((q6.tail.drop 1).tail.drop 0).hO).cs) 0 (((q6.tail.drop 1).tail.drop 0).tail))<|NG ((q6.tail.tail.hO).cs.getD 1 .any) 2 2<|NE (((q6.tail.tail.hO).cs.getD 1 .any).ix (2:Int))<|NG ((q6.tail.tail.hO).cs.getD 1 .any) 1 2<|nM (((q6.tail.tail.hO).cs.getD 1 .any).ix (1:Int))<|.call 75 [(y6.hA),VS (((((q6.tail.tail.hO).cs.getD 1 .any).ix (1:Int)).hA).toStr)] [] fun r7 o7=>.al (r7=.vec 0/\(o7.hO)=.vec 1 (o7.hO).es)<|.al (∀x,x∈o7->jq x)<|.call 75 [(y6.tail.hA),VS ((y6.tail.tail.hA).toStr)] [] fun r8 o8=>.al (r8=.vec 0/\(o8.hO)=.vec 1 (o8.hO).es)<|.al (∀x,x∈o8->jq x)<|.call 66 [.agg [VS (((((q6.tail.tail.hO).cs.getD 1 .any).ix (2:Int)).getD 0 .any).toStr),((((q6.tail.tail.hO).cs.getD 1 .any).ix (2:Int)).getD 1 .any)],.sl ((o7.hO).es),.sl ((o8.hO).es),.ref 0 0] [.cells [.vec 1,VI (IntKind.wrap .i64 ((((q6.hO).cs.getD 1 .any).toInt)+1))],.vec 1 ((q6.tail.hO).es)] fun r9 o9=>.al ((o9.hO)=.cells (o9.hO).cs)<|.al (aO [.vec 1,.lk (.int .i64)] ((o9.hO).cs) 0 1 o9.tail)<|NA r9<|.call 35 [VS (mk [114,101,99]),.sl [[VS ((y6.tail.tail.hA).toStr),.v (.slice none 0 0)],[VS ((r9.cs.getD 0 .any).toStr),(r9.cs.getD 1 .any)]]] [] fun r10 o10=>NA r10<|.done 0 [.agg [VS ((r10.cs.getD 0 .any).toStr),(r10.cs.getD 1 .any)]] [.cells [.vec 1,VI (((o9.hO).cs.getD 1 .any).toInt)],.vec 1 ((o9.tail.hO).es)]) (fun y6 q6=>.al ((q6.hO)=.cells (q6.hO).cs)<|.al (ah [.vec 1,.lk (.int .i64)] ((q6.hO).cs) 0 q6.tail)<|.fail)) (NG a0_1 1 2<|NE (a0_1.ix (1:Int))<|.call 66 [.agg [VS (((a0_1.ix (1:Int)).getD 0 .any).toStr),((a0_1.ix (1:Int)).getD 1 .any)],a1,a2,.ref 0 0] [.cells [.vec 1,VI a3_1],.vec 1 e3_0] fun r11 o11=>.al ((o11.hO)=.cells (o11.hO).cs)<|.al (aO [.vec 1,.lk (.int .i64)] ((o11.hO).cs) 0 1 o11.tail)<|NA r11<|.call 29 [.agg [VS a0_0,a0_1]] [] fun r12 o12=>NS r12<|NG a0_1 2 2<|NE (a0_1.ix (2:Int))<|.call 66 [.agg [VS (((a0_1.ix (2:Int)).getD 0 .any).toStr),((a0_1.ix (2:Int)).getD 1 .any)],a1,a2,.ref 0 0] [.cells [.vec 1,VI (((o11.hO).cs.getD 1 .any).toInt)],.vec 1 ((o11.tail.hO).es)] fun r13 o13=>.al ((o13.hO)=.cells (o13.hO).cs)<|.al (aO [.vec 1,.lk (.int .i64)] ((o13.hO).cs) 0 1 o13.tail)<|NA r13<|.call 35 [VS r12.toStr,.sl [[VS ((r11.cs.getD 0 .any).toStr),(r11.cs.getD 1 .any)],[VS ((r13.cs.getD 0 .any).toStr),(r13.cs.getD 1 .any)]]] [] fun r14 o14=>NA r14<|.done 0 [.agg [VS ((r14.cs.getD 0 .any).toStr),(r14.cs.getD 1 .any)]] [.cells [.vec 1,VI (((o13.hO).cs.getD 1 .any).toInt)],.vec 1 ((o13.tail.hO).es)]))
theorem C3(a0_0:ByteArray)(a0_1:AV)(a1:AV)(a2:AV)(e3_0:List (List AV))(a3_1:Int)(ha0_1:LK.has .sl a0_1)(ha1:LK.has .sl a1)(ha2:LK.has .sl a2)(h:eg 113 (zR a0_0 a0_1 a1 a2 e3_0 a3_1) R):aB Tryz.prog 66 [.agg [VS a0_0,a0_1],a1,a2,.ref 0 0] [.cells [.vec 1,VI a3_1],.vec 1 e3_0] R :=
 aB.uf (cf (cN (aj (aD _) (aj (aD _) aJ))) (cf (kQ _) dC)) (aB.up (aj (cD (aj (aD _) (aj (cd ha0_1) aJ))) (aj (cd ha1) (aj (cd ha2) (aj (aD _) aJ)))) (oF F9 {mu:=[(3,.one (.obj [.vec 1,.lk (.int .i64)]))],own:=[]} Tryz.f66 h))
def GF(x1:AV)(x2:AV)(x9:Int)(o4_0:ByteArray)(o4_1:AV)(o8_0:ByteArray)(o8_1:AV)(o0_0:List (List AV))(o0_1:Int):Tree :=
 NL x1<|NL x2<|NI (VI x9)<|.al (Ob.cells [VS o4_0,o4_1]=.cells [VS o4_0,o4_1])<|.al (ah [.lk .str,.lk .sl] [VS o4_0,o4_1] 0 [.cells [VS o8_0,o8_1],.cells [.any,VI o0_1],.vec 1 o0_0])<|.al (Ob.cells [VS o8_0,o8_1]=.cells [VS o8_0,o8_1])<|.al (ah [.lk .str,.lk .sl] [VS o8_0,o8_1] 0 [.cells [.any,VI o0_1],.vec 1 o0_0])<|.al (Ob.cells [.any,VI o0_1]=.cells [.any,VI o0_1])<|.al (ah [.vec 1,.lk (.int .i64)] [.any,VI o0_1] 0 [.vec 1 o0_0])<|.test (decide (x9≥(0:Int))) (NG x1 x9 1<|nM (x1.ix x9)<|.test (ae (((x1.ix x9).hA).toStr)==ae o4_0) (NG x2 x9 1<|nM (x2.ix x9)<|.done 2 [] [.cells [VS (((x2.ix x9).hA).toStr),.v (.slice none 0 0)],.cells [.any,VI o0_1],.vec 1 o0_0]) (.done 0 [x1,x2,VI (IntKind.wrap .i64 (x9-1))] [.cells [VS o4_0,o4_1],.cells [VS o8_0,o8_1],.cells [.any,VI o0_1],.vec 1 o0_0])) (.done 1 [] [.cells [VS o4_0,o4_1],.cells [VS o8_0,o8_1],.cells [.any,VI o0_1],.vec 1 o0_0])
abbrev E3:=cW Tryz.prog 113 Jw Ff
theorem Lm(x1:AV)(x2:AV)(x9:Int)(o4_0:ByteArray)(o4_1:AV)(o8_0:ByteArray)(o8_1:AV)(o0_0:List (List AV))(o0_1:Int)(h:oW 113 (GF x1 x2 x9 o4_0 o4_1 o8_0 o8_1 o0_0 o0_1) E3 U):E3 [x1,x2,VI x9] [.cells [VS o4_0,o4_1],.cells [VS o8_0,o8_1],.cells [.any,VI o0_1],.vec 1 o0_0] U :=
 gQ F9 h
def Jp(x1:AV)(x2:AV)(x10:ByteArray)(o0_0:List (List AV))(o0_1:Int)(o4_0:ByteArray)(o4_1:AV)(o8_0:ByteArray)(o8_1:AV):Tree :=
 NL x1<|NL x2<|NS (VS x10)<|.al (Ob.cells [.any,VI o0_1]=.cells [.any,VI o0_1])<|.al (ah [.vec 1,.lk (.int .i64)] [.any,VI o0_1] 0 [.vec 1 o0_0,.cells [VS o4_0,o4_1],.cells [VS o8_0,o8_1]])<|.al (Ob.cells [VS o4_0,o4_1]=.cells [VS o4_0,o4_1])<|.al (ah [.lk .str,.lk .sl] [VS o4_0,o4_1] 0 [.cells [VS o8_0,o8_1]])<|.al (Ob.cells [VS o8_0,o8_1]=.cells [VS o8_0,o8_1])<|.al (ah [.lk .str,.lk .sl] [VS o8_0,o8_1] 0 [])<|.call 74 [.sl o0_0,VS x10] [] fun r1 o1=>NB r1<|.test r1.toBool (.call 65 [VI (IntKind.wrap .i64 (o0_1+1))] [] fun r2 o2=>NS r2<|.al (af (mk [116])+af r2.toStr<=9223372036854775807)<|.done 0 [x1,x2,VS (((mk [116]):ByteArray)++r2.toStr)] [.cells [.any,VI (IntKind.wrap .i64 (o0_1+1))],.vec 1 o0_0,.cells [VS o4_0,o4_1],.cells [VS o8_0,o8_1]]) (.done 1 [x1,x2,VS x10] [.cells [.any,VI o0_1],.vec 1 o0_0,.cells [VS o4_0,o4_1],.cells [VS o8_0,o8_1]])
abbrev Gw:=cW Tryz.prog 113 I1 G1
theorem Ok(x1:AV)(x2:AV)(x10:ByteArray)(o0_0:List (List AV))(o0_1:Int)(o4_0:ByteArray)(o4_1:AV)(o8_0:ByteArray)(o8_1:AV)(h:oW 113 (Jp x1 x2 x10 o0_0 o0_1 o4_0 o4_1 o8_0 o8_1) Gw U):Gw [x1,x2,VS x10] [.cells [.any,VI o0_1],.vec 1 o0_0,.cells [VS o4_0,o4_1],.cells [VS o8_0,o8_1]] U :=
 gQ F9 h
def GI:LI:={hd:={ck:=[(2,.k .sl),(9,.k .sl),(10,.k (.int .i64))],refs:=[(4,4)],cM:=[(4,[.lk .str,.lk .sl])],eG:=[(3,3)]},xs:={eG:=[(3,3)]},rt:={},ex:=0}
def H7:Code:=dF (dx Tryz.f67) 4
def Ku:List (Nat×LI):=[(4,GI)]
def I4(a0_0:ByteArray)(a0_1:AV)(a1_0:ByteArray)(a1_1:AV)(a2:AV)(e3:List (List AV)):Tree :=
 .call 14 [.agg [VS a1_0,a1_1]] [] fun r1 o1=>NS r1<|.al (cI 3 [[a2,VS r1.toStr,VS (mk [])]]/\((e3.length)+([[a2,VS r1.toStr,VS (mk [])]]:List (List AV)).length)*56<=140737488355328)<|NG a0_1 2 2<|NE (a0_1.ix (2:Int))<|NG a0_1 1 2<|nM (a0_1.ix (1:Int))<|NG a1_1 1 2<|NE (a1_1.ix (1:Int))<|.call 34 [.agg [VS (((a0_1.ix (2:Int)).getD 0 .any).toStr),((a0_1.ix (2:Int)).getD 1 .any)],VS (((a0_1.ix (1:Int)).hA).toStr),.agg [VS (((a1_1.ix (1:Int)).getD 0 .any).toStr),((a1_1.ix (1:Int)).getD 1 .any)]] [] fun r2 o2=>NL r2<|.loop H7 GI [a2,r2,VI 0] [.cells [VS a0_0,a0_1],.vec 3 (e3++([[a2,VS r1.toStr,VS (mk [])]]:List (List AV)))] (fun y4 q4=>.al (((q4.drop 0).hO)=.vec 3 ((q4.drop 0).hO).es)<|.done 0 [.vec 1] [.dead,.vec 3 ((q4.hO).es)]) (fun y4 q4=>.fail)
theorem LU(a0_0:ByteArray)(a0_1:AV)(a1_0:ByteArray)(a1_1:AV)(a2:AV)(e3:List (List AV))(ha0_1:LK.has .sl a0_1)(ha1_1:LK.has .sl a1_1)(ha2:LK.has .sl a2)(h:eg 58 (I4 a0_0 a0_1 a1_0 a1_1 a2 e3) R):aB Tryz.prog 67 [.agg [VS a0_0,a0_1],.agg [VS a1_0,a1_1],a2,.vec 0] [.vec 3 e3] R :=
 aB.uf (cf (kQ _) dC) (aB.up (aj (cD (aj (aD _) (aj (cd ha0_1) aJ))) (aj (cD (aj (aD _) (aj (cd ha1_1) aJ))) (aj (cd ha2) (aj (aD _) aJ)))) (oF Ku {mu:=[(3,.one (.vec))],own:=[0]} Tryz.f67 h))
def Fy(x2:AV)(x9:AV)(x10:Int)(o4_0:ByteArray)(o4_1:AV)(e3:List (List AV)):Tree :=
 NL x2<|NL x9<|NI (VI x10)<|.al (Ob.cells [VS o4_0,o4_1]=.cells [VS o4_0,o4_1])<|.al (ah [.lk .str,.lk .sl] [VS o4_0,o4_1] 0 [.vec 3 e3])<|.al (Ob.vec 3 e3=.vec 3 e3)<|NL x9<|.test (decide (x10<(x9.elems.length:Int))) (.test (decide ((e3.length:Int)<=(100:Int))) (NG x9 x10 4<|NE ((x9.ix x10).drop 2)<|.al (LK.has .sl x2/\cI 1 x2.elems/\((([]:List (List AV)).length)+x2.elems.length)*8<=140737488355328)<|.al (cI 1 [[VI x10]]/\(((([]:List (List AV))++x2.elems).length)+([[VI x10]]:List (List AV)).length)*8<=140737488355328)<|.call 67 [.agg [VS o4_0,o4_1],.agg [VS ((((x9.ix x10).drop 2).getD 0 .any).toStr),(((x9.ix x10).drop 2).getD 1 .any)],.sl ((([]:List (List AV))++x2.elems)++([[VI x10]]:List (List AV))),.vec 0] [.vec 3 e3] fun r1 o1=>.al (r1=.vec 1/\(o1.tail.hO)=.vec 3 (o1.tail.hO).es)<|.done 0 [x2,x9,VI (IntKind.wrap .i64 (x10+1))] [.cells [VS o4_0,o4_1],.vec 3 ((o1.tail.hO).es)]) (.done 1 [] [.vec 3 e3])) (.done 1 [] [.vec 3 e3])
abbrev Fs:=cW Tryz.prog 58 H7 GI
theorem JO(x2:AV)(x9:AV)(x10:Int)(o4_0:ByteArray)(o4_1:AV)(e3:List (List AV))(h:oW 58 (Fy x2 x9 x10 o4_0 o4_1 e3) Fs U):Fs [x2,x9,VI x10] [.cells [VS o4_0,o4_1],.vec 3 e3] U :=
 gQ Ku h
def Ie(a0:ByteArray):Tree :=
 .call 70 [VS a0] [] fun r1 o1=>NP r1<|NP r1<|.test r1.isNil (.done 0 [.v (.pointer none)] []) (.call 82 [r1,.v (.slice none 0 0)] [] fun r2 o2=>NP r2<|NP r2<|.test r2.isNil (.done 0 [.v (.pointer none)] []) (.call 83 [r2] [] fun r3 o3=>NI r3<|.test (decide (r3.toInt>(400:Int))) (.done 0 [.v (.pointer none)] []) (.done 0 [r2] [])))
theorem MY(a0:ByteArray)(h:eg 19 (Ie a0) R):aB Tryz.prog 68 [VS a0] [] R :=
 uQ (aj (aD _) aJ) (oQ [] Tryz.f68 h)
def HZ(a0:AV):Tree :=
 .call 85 [a0] [] fun r1 o1=>NL r1<|.call 84 [r1,.v (.func (.func 86) #[] #[])] [] fun r2 o2=>NB r2<|.done 0 [VB (!r2.toBool)] []
theorem Ns(a0:AV)(ha0:LK.has .ptr a0)(h:eg 7 (HZ a0) R):aB Tryz.prog 69 [a0] [] R :=
 uQ (aj (cK ha0) aJ) (oQ [] Tryz.f69 h)
def ID(a0:ByteArray):Tree :=
 .test (decide ((af a0:Int)>(8000:Int))) (.done 0 [.v (.pointer none)] []) (.call 87 [VS a0,VI 0] [] fun r1 o1=>NT r1<|NP (r1.comp 0)<|NS (r1.comp 1)<|.test (!(ae ((r1.comp 1).toStr)==ae (mk []))) (.done 0 [.v (.pointer none)] []) (.done 0 [(r1.comp 0)] []))
theorem Mi(a0:ByteArray)(h:eg 16 (ID a0) R):aB Tryz.prog 70 [VS a0] [] R :=
 uQ (aj (aD _) aJ) (oQ [] Tryz.f70 h)
def E2(a0:AV):Tree :=
 NZ a0<|NZ a0<|.al (LK.has .str (a0.deref.hA)/\1<=a0.deref.length)<|.test (ae ((a0.deref.hA).toStr)==ae (mk [117])) (.done 0 [.ptr [.v (.int .u8 117),VS (mk []),.v (.pointer none),.v (.pointer none)]] []) (NZ a0<|NZ a0<|.al (LK.has .str (a0.deref.hA)/\1<=a0.deref.length)<|.call 88 [VS ((a0.deref.hA).toStr)] [] fun r1 o1=>NB r1<|.test r1.toBool (NZ a0<|NZ a0<|.al (LK.has .str (a0.deref.hA)/\1<=a0.deref.length)<|.done 0 [.ptr [.v (.int .u8 101),VS ((a0.deref.hA).toStr),.v (.pointer none),.v (.pointer none)]] []) (.call 89 [a0,VS (mk [108]),VI 2] [] fun r2 o2=>NB r2<|.test r2.toBool (NZ a0<|NZ a0<|sc (a0.deref.drop 1)<|NG ((a0.deref.drop 1).hA) 1 1<|im (((a0.deref.drop 1).hA).ix (1:Int))<|.call 71 [((((a0.deref.drop 1).hA).ix (1:Int)).hA)] [] fun r3 o3=>NP r3<|NP r3<|.test r3.isNil (.done 0 [.v (.pointer none)] []) (NZ a0<|NZ a0<|sc (a0.deref.drop 1)<|NG ((a0.deref.drop 1).hA) 0 1<|im (((a0.deref.drop 1).hA).ix (0:Int))<|NZ ((((a0.deref.drop 1).hA).ix (0:Int)).hA)<|NZ ((((a0.deref.drop 1).hA).ix (0:Int)).hA)<|.al (LK.has .str (((((a0.deref.drop 1).hA).ix (0:Int)).hA).deref.hA)/\1<=(((((a0.deref.drop 1).hA).ix (0:Int)).hA).deref).length)<|.al (0<=(0:Int)/\(0:Int)<af ((((((a0.deref.drop 1).hA).ix (0:Int)).hA).deref.hA).toStr))<|.done 0 [.ptr [.v (.int .u8 (bt ((((((a0.deref.drop 1).hA).ix (0:Int)).hA).deref.hA).toStr) 0)),VS (mk []),r3,.v (.pointer none)]] [])) (.call 89 [a0,VS (mk [114]),VI 2] [] fun r4 o4=>NB r4<|.test r4.toBool (NZ a0<|NZ a0<|sc (a0.deref.drop 1)<|NG ((a0.deref.drop 1).hA) 1 1<|im (((a0.deref.drop 1).hA).ix (1:Int))<|.call 71 [((((a0.deref.drop 1).hA).ix (1:Int)).hA)] [] fun r5 o5=>NP r5<|NP r5<|.test r5.isNil (.done 0 [.v (.pointer none)] []) (NZ a0<|NZ a0<|sc (a0.deref.drop 1)<|NG ((a0.deref.drop 1).hA) 0 1<|im (((a0.deref.drop 1).hA).ix (0:Int))<|NZ ((((a0.deref.drop 1).hA).ix (0:Int)).hA)<|NZ ((((a0.deref.drop 1).hA).ix (0:Int)).hA)<|.al (LK.has .str (((((a0.deref.drop 1).hA).ix (0:Int)).hA).deref.hA)/\1<=(((((a0.deref.drop 1).hA).ix (0:Int)).hA).deref).length)<|.al (0<=(0:Int)/\(0:Int)<af ((((((a0.deref.drop 1).hA).ix (0:Int)).hA).deref.hA).toStr))<|.done 0 [.ptr [.v (.int .u8 (bt ((((((a0.deref.drop 1).hA).ix (0:Int)).hA).deref.hA).toStr) 0)),VS (mk []),r5,.v (.pointer none)]] [])) (.call 89 [a0,VS (mk [102]),VI 2] [] fun r6 o6=>NB r6<|.test r6.toBool (NZ a0<|NZ a0<|sc (a0.deref.drop 1)<|NG ((a0.deref.drop 1).hA) 1 1<|im (((a0.deref.drop 1).hA).ix (1:Int))<|.call 71 [((((a0.deref.drop 1).hA).ix (1:Int)).hA)] [] fun r7 o7=>NP r7<|NP r7<|.test r7.isNil (.done 0 [.v (.pointer none)] []) (NZ a0<|NZ a0<|sc (a0.deref.drop 1)<|NG ((a0.deref.drop 1).hA) 0 1<|im (((a0.deref.drop 1).hA).ix (0:Int))<|NZ ((((a0.deref.drop 1).hA).ix (0:Int)).hA)<|NZ ((((a0.deref.drop 1).hA).ix (0:Int)).hA)<|.al (LK.has .str (((((a0.deref.drop 1).hA).ix (0:Int)).hA).deref.hA)/\1<=(((((a0.deref.drop 1).hA).ix (0:Int)).hA).deref).length)<|.al (0<=(0:Int)/\(0:Int)<af ((((((a0.deref.drop 1).hA).ix (0:Int)).hA).deref.hA).toStr))<|.done 0 [.ptr [.v (.int .u8 (bt ((((((a0.deref.drop 1).hA).ix (0:Int)).hA).deref.hA).toStr) 0)),VS (mk []),r7,.v (.pointer none)]] [])) (.call 89 [a0,VS (mk [112]),VI 3] [] fun r8 o8=>NB r8<|.test r8.toBool (NZ a0<|NZ a0<|sc (a0.deref.drop 1)<|NG ((a0.deref.drop 1).hA) 1 1<|im (((a0.deref.drop 1).hA).ix (1:Int))<|.call 71 [((((a0.deref.drop 1).hA).ix (1:Int)).hA)] [] fun r9 o9=>NP r9<|NZ a0<|NZ a0<|sc (a0.deref.drop 1)<|NG ((a0.deref.drop 1).hA) 2 1<|im (((a0.deref.drop 1).hA).ix (2:Int))<|.call 71 [((((a0.deref.drop 1).hA).ix (2:Int)).hA)] [] fun r10 o10=>NP r10<|NP r9<|.test r9.isNil (.done 0 [.v (.pointer none)] []) (NP r10<|.test r10.isNil (.done 0 [.v (.pointer none)] []) (.call 41 [r9,r10] [] fun r11 o11=>NP r11<|.done 0 [r11] []))) (.done 0 [.v (.pointer none)] []))))))
theorem Je(a0:AV)(ha0:LK.has .ptr a0)(h:eg 85 (E2 a0) R):aB Tryz.prog 71 [a0] [] R :=
 uQ (aj (cK ha0) aJ) (oQ [] Tryz.f71 h)
def EL(a0_0:ByteArray)(a0_1:AV):Tree :=
 .test (!(ae a0_0==ae (mk []))) (.test (ae a0_0==ae (mk [48])) (.done 0 [VB true] []) (.test (ae a0_0==ae (mk [49])) (.done 0 [VB true] []) (.call 56 [VS a0_0] [] fun r1 o1=>NB r1<|.test r1.toBool (.done 0 [VB true] []) (.call 54 [VS a0_0] [] fun r2 o2=>NB r2<|.done 0 [VB r2.toBool] [])))) (NL a0_1<|.test ((a0_1.elems.length:Int) != (3:Int)) (.done 0 [VB false] []) (.call 29 [.agg [VS a0_0,a0_1]] [] fun r3 o3=>NS r3<|.test (ae r3.toStr==ae (mk [43])) (NG a0_1 1 2<|NE (a0_1.ix (1:Int))<|.call 73 [.agg [VS (((a0_1.ix (1:Int)).getD 0 .any).toStr),((a0_1.ix (1:Int)).getD 1 .any)]] [] fun r4 o4=>NB r4<|.test r4.toBool (NG a0_1 2 2<|NE (a0_1.ix (2:Int))<|.call 73 [.agg [VS (((a0_1.ix (2:Int)).getD 0 .any).toStr),((a0_1.ix (2:Int)).getD 1 .any)]] [] fun r5 o5=>NB r5<|.done 0 [VB r5.toBool] []) (.done 0 [VB false] [])) (.test (ae r3.toStr==ae (mk [42])) (NG a0_1 1 2<|NE (a0_1.ix (1:Int))<|.call 73 [.agg [VS (((a0_1.ix (1:Int)).getD 0 .any).toStr),((a0_1.ix (1:Int)).getD 1 .any)]] [] fun r6 o6=>NB r6<|.test r6.toBool (NG a0_1 2 2<|NE (a0_1.ix (2:Int))<|.call 73 [.agg [VS (((a0_1.ix (2:Int)).getD 0 .any).toStr),((a0_1.ix (2:Int)).getD 1 .any)]] [] fun r7 o7=>NB r7<|.done 0 [VB r7.toBool] []) (.done 0 [VB false] [])) (.test (ae r3.toStr==ae (mk [114,101,99])) (NG a0_1 1 2<|nM (a0_1.ix (1:Int))<|.call 54 [VS (((a0_1.ix (1:Int)).hA).toStr)] [] fun r8 o8=>NB r8<|.test r8.toBool (NG a0_1 2 2<|NE (a0_1.ix (2:Int))<|.call 73 [.agg [VS (((a0_1.ix (2:Int)).getD 0 .any).toStr),((a0_1.ix (2:Int)).getD 1 .any)]] [] fun r9 o9=>NB r9<|.done 0 [VB r9.toBool] []) (.done 0 [VB false] [])) (.done 0 [VB false] [])))))
theorem KJ(a0_0:ByteArray)(a0_1:AV)(ha0_1:LK.has .sl a0_1)(h:eg 60 (EL a0_0 a0_1) R):aB Tryz.prog 73 [.agg [VS a0_0,a0_1]] [] R :=
 uQ (aj (cD (aj (aD _) (aj (cd ha0_1) aJ))) aJ) (oQ [] Tryz.f73 h)
def F7:LI:={hd:={ck:=[(0,.k .sl),(1,.k .str),(5,.k (.int .i64))]},xs:={},rt:={ck:=[(4,.k .bool)]},ex:=0}
def IN:Code:=dF (dx Tryz.f74) 2
def Lk:List (Nat×LI):=[(2,F7)]
def Im(a0:AV)(a1:ByteArray):Tree :=
 .loop IN F7 [a0,VS a1,VI 0] [] (fun y1 q1=>.done 0 [VB false] []) (fun y1 q1=>NB (y1.hA)<|.done 0 [VB ((y1.hA).toBool)] [])
theorem MR(a0:AV)(a1:ByteArray)(ha0:LK.has .sl a0)(h:eg 18 (Im a0 a1) R):aB Tryz.prog 74 [a0,VS a1] [] R :=
 uQ (aj (cd ha0) (aj (aD _) aJ)) (oQ Lk Tryz.f74 h)
def Es(x0:AV)(x1:ByteArray)(x5:Int):Tree :=
 NL x0<|NS (VS x1)<|NI (VI x5)<|NL x0<|.test (decide (x5<(x0.elems.length:Int))) (NG x0 x5 1<|nM (x0.ix x5)<|.test (ae (((x0.ix x5).hA).toStr)==ae x1) (.done 2 [VB true] []) (.done 0 [x0,VS x1,VI (IntKind.wrap .i64 (x5+1))] [])) (.done 1 [] [])
abbrev Fi:=cW Tryz.prog 18 IN F7
theorem Kx(x0:AV)(x1:ByteArray)(x5:Int)(h:oW 18 (Es x0 x1 x5) Fi U):Fi [x0,VS x1,VI x5] [] U :=
 gQ Lk h
def Iz(a0:AV)(a1:ByteArray):Tree :=
 .al (LK.has .sl a0/\cI 1 a0.elems/\((([]:List (List AV)).length)+a0.elems.length)*16<=140737488355328)<|.al (cI 1 [[VS a1]]/\(((([]:List (List AV))++a0.elems).length)+([[VS a1]]:List (List AV)).length)*16<=140737488355328)<|.done 0 [.vec 0] [.vec 1 ((([]:List (List AV))++a0.elems)++([[VS a1]]:List (List AV)))]
theorem Nl(a0:AV)(a1:ByteArray)(ha0:LK.has .sl a0)(h:eg 11 (Iz a0 a1) R):aB Tryz.prog 75 [a0,VS a1] [] R :=
 uQ (aj (cd ha0) (aj (aD _) aJ)) (oF [] {mu:=[],own:=[0]} Tryz.f75 h)
def Gz:LI:={hd:={ck:=[(0,.k .str),(7,.k (.int .i64))]},xs:={},rt:={ck:=[(6,.k .bool)]},ex:=0}
def Ij:Code:=dF (dx Tryz.f76) 4
def IT:List (Nat×LI):=[(4,Gz)]
def JM(a0:ByteArray)(a1:Int)(a2:Int):Tree :=
 .call 30 [VI (af a0:Int),VI 1,VI 3] [] fun r1 o1=>NB r1<|.test (!r1.toBool) (.done 0 [VB false] []) (.al (0<=(0:Int)/\(0:Int)<af a0)<|.test (decide ((bt a0 0)<a1)) (.done 0 [VB false] []) (.al (0<=(0:Int)/\(0:Int)<af a0)<|.test (decide ((bt a0 0)>a2)) (.done 0 [VB false] []) (.loop Ij Gz [VS a0,VI 1] [] (fun y2 q2=>.done 0 [VB true] []) (fun y2 q2=>NB (y2.hA)<|.done 0 [VB ((y2.hA).toBool)] []))))
theorem N7(a0:ByteArray)(a1:Int)(a2:Int)(h:eg 40 (JM a0 a1 a2) R):aB Tryz.prog 76 [VS a0,.v (.int .u8 a1),.v (.int .u8 a2)] [] R :=
 uQ (aj (aD _) (aj (aD _) (aj (aD _) aJ))) (oQ IT Tryz.f76 h)
def GK(x0:ByteArray)(x7:Int):Tree :=
 NS (VS x0)<|NI (VI x7)<|.test (decide (x7<(af x0:Int))) (.al (0<=x7/\x7<af x0)<|.test (decide ((bt x0 x7)<(48:Int))) (.done 2 [VB false] []) (.al (0<=x7/\x7<af x0)<|.test (decide ((bt x0 x7)>(57:Int))) (.done 2 [VB false] []) (.done 0 [VS x0,VI (IntKind.wrap .i64 (x7+1))] []))) (.done 1 [] [])
abbrev ED:=cW Tryz.prog 40 Ij Gz
theorem Ld(x0:ByteArray)(x7:Int)(h:oW 40 (GK x0 x7) ED U):ED [VS x0,VI x7] [] U :=
 gQ IT h
def KA(a0:Int):Tree :=
 .test (decide (a0≥(97:Int))) (.test (decide (a0<=(122:Int))) (.done 0 [VB true] []) (.test (decide (a0≥(48:Int))) (.test (decide (a0<=(57:Int))) (.done 0 [VB true] []) (.test (a0==(42:Int)) (.done 0 [VB true] []) (.done 0 [VB (a0==(43:Int))] []))) (.test (a0==(42:Int)) (.done 0 [VB true] []) (.done 0 [VB (a0==(43:Int))] [])))) (.test (decide (a0≥(48:Int))) (.test (decide (a0<=(57:Int))) (.done 0 [VB true] []) (.test (a0==(42:Int)) (.done 0 [VB true] []) (.done 0 [VB (a0==(43:Int))] []))) (.test (a0==(42:Int)) (.done 0 [VB true] []) (.done 0 [VB (a0==(43:Int))] [])))
theorem Ng(a0:Int)(h:eg 25 (KA a0) R):aB Tryz.prog 77 [.v (.int .u8 a0)] [] R :=
 uQ (aj (aD _) aJ) (oQ [] Tryz.f77 h)
def IE(a0_0:AV)(a0_1:Int):Tree :=
 .call 26 [.ref 0 0,VI 12] [.cells [a0_0,VI a0_1]] fun r1 o1=>.al ((o1.hO)=.cells (o1.hO).cs)<|.al (aO [.lk .sl,.lk (.int .i64)] ((o1.hO).cs) 0 1 o1.tail)<|NI r1<|.test (r1.toInt==(0:Int)) (.call 45 [.ref 0 0,.sl [[VS (mk [])],[VS (mk [97])],[VS (mk [40,43,32,49,41])],[VS (mk [40,114,101,99,32,120,32,49,41])],[VS (mk [40,114,101,99,32,116,41])],[VS (mk [40,43,32,32,49,32,49,41])],[VS (mk [40,42,32,49,32,49,32,49,41])],[VS (mk [116,49,48,48])],[VS (mk [120,32,49])]]] [.cells [((o1.hO).cs.getD 0 .any),VI (((o1.hO).cs.getD 1 .any).toInt)]] fun r2 o2=>.al ((o2.hO)=.cells (o2.hO).cs)<|.al (aO [.lk .sl,.lk (.int .i64)] ((o2.hO).cs) 0 1 o2.tail)<|NS r2<|.done 0 [VS r2.toStr] [.cells [((o2.hO).cs.getD 0 .any),VI (((o2.hO).cs.getD 1 .any).toInt)]]) (.test (r1.toInt==(1:Int)) (.call 43 [.ref 0 0] [.cells [((o1.hO).cs.getD 0 .any),VI (((o1.hO).cs.getD 1 .any).toInt)]] fun r3 o3=>.al ((o3.hO)=.cells (o3.hO).cs)<|.al (aO [.lk .sl,.lk (.int .i64)] ((o3.hO).cs) 0 1 o3.tail)<|NS r3<|.done 0 [VS r3.toStr] [.cells [((o3.hO).cs.getD 0 .any),VI (((o3.hO).cs.getD 1 .any).toInt)]]) (.test (r1.toInt==(2:Int)) (.call 43 [.ref 0 0] [.cells [((o1.hO).cs.getD 0 .any),VI (((o1.hO).cs.getD 1 .any).toInt)]] fun r4 o4=>.al ((o4.hO)=.cells (o4.hO).cs)<|.al (aO [.lk .sl,.lk (.int .i64)] ((o4.hO).cs) 0 1 o4.tail)<|NS r4<|.done 0 [VS r4.toStr] [.cells [((o4.hO).cs.getD 0 .any),VI (((o4.hO).cs.getD 1 .any).toInt)]]) (.test (r1.toInt==(3:Int)) (.call 43 [.ref 0 0] [.cells [((o1.hO).cs.getD 0 .any),VI (((o1.hO).cs.getD 1 .any).toInt)]] fun r5 o5=>.al ((o5.hO)=.cells (o5.hO).cs)<|.al (aO [.lk .sl,.lk (.int .i64)] ((o5.hO).cs) 0 1 o5.tail)<|NS r5<|.done 0 [VS r5.toStr] [.cells [((o5.hO).cs.getD 0 .any),VI (((o5.hO).cs.getD 1 .any).toInt)]]) (.test (r1.toInt==(4:Int)) (.call 79 [.ref 0 0,.sl [[VS (mk [116])],[VS (mk [116,49])]],VI 2] [.cells [((o1.hO).cs.getD 0 .any),VI (((o1.hO).cs.getD 1 .any).toInt)]] fun r6 o6=>.al ((o6.hO)=.cells (o6.hO).cs)<|.al (aO [.lk .sl,.lk (.int .i64)] ((o6.hO).cs) 0 1 o6.tail)<|NS r6<|.done 0 [VS r6.toStr] [.cells [((o6.hO).cs.getD 0 .any),VI (((o6.hO).cs.getD 1 .any).toInt)]]) (.call 79 [.ref 0 0,.sl [],VI 3] [.cells [((o1.hO).cs.getD 0 .any),VI (((o1.hO).cs.getD 1 .any).toInt)]] fun r7 o7=>.al ((o7.hO)=.cells (o7.hO).cs)<|.al (aO [.lk .sl,.lk (.int .i64)] ((o7.hO).cs) 0 1 o7.tail)<|NS r7<|.done 0 [VS r7.toStr] [.cells [((o7.hO).cs.getD 0 .any),VI (((o7.hO).cs.getD 1 .any).toInt)]])))))
theorem Mt(a0_0:AV)(a0_1:Int)(ha0_0:LK.has .sl a0_0)(h:eg 24 (IE a0_0 a0_1) R):aB Tryz.prog 78 [.ref 0 0] [.cells [a0_0,VI a0_1]] R :=
 aB.uf (cf (cN (aj (cd ha0_0) (aj (aD _) aJ))) dC) (aB.up (aj (aD _) aJ) (oF [] {mu:=[(0,.one (.obj [.lk .sl,.lk (.int .i64)]))],own:=[]} Tryz.f78 h))
def FY(a0_0:AV)(a0_1:Int)(a1:AV)(a2:Int):Tree :=
 .test (decide (a2<=(0:Int))) (NL a1<|.test (decide ((a1.elems.length:Int)>(0:Int))) (.call 26 [.ref 0 0,VI 3] [.cells [a0_0,VI a0_1]] fun r1 o1=>.al ((o1.hO)=.cells (o1.hO).cs)<|.al (aO [.lk .sl,.lk (.int .i64)] ((o1.hO).cs) 0 1 o1.tail)<|NI r1<|.test (r1.toInt==(0:Int)) (NL a1<|.call 26 [.ref 0 0,VI (a1.elems.length:Int)] [.cells [((o1.hO).cs.getD 0 .any),VI (((o1.hO).cs.getD 1 .any).toInt)]] fun r2 o2=>.al ((o2.hO)=.cells (o2.hO).cs)<|.al (aO [.lk .sl,.lk (.int .i64)] ((o2.hO).cs) 0 1 o2.tail)<|NI r2<|.al (LK.has .sl a1/\0<=r2.toInt/\r2.toInt<a1.elems.length/\(a1.elems.getD r2.toInt.toNat []).length=1)<|nM (a1.elems.getD r2.toInt.toNat [])<|.done 0 [VS (((a1.elems.getD r2.toInt.toNat []).hA).toStr)] [.cells [((o2.hO).cs.getD 0 .any),VI (((o2.hO).cs.getD 1 .any).toInt)]]) (.call 45 [.ref 0 0,.sl [[VS (mk [120])],[VS (mk [49])],[VS (mk [120])],[VS (mk [121])],[VS (mk [48])],[VS (mk [49])]]] [.cells [((o1.hO).cs.getD 0 .any),VI (((o1.hO).cs.getD 1 .any).toInt)]] fun r3 o3=>.al ((o3.hO)=.cells (o3.hO).cs)<|.al (aO [.lk .sl,.lk (.int .i64)] ((o3.hO).cs) 0 1 o3.tail)<|NS r3<|.done 0 [VS r3.toStr] [.cells [((o3.hO).cs.getD 0 .any),VI (((o3.hO).cs.getD 1 .any).toInt)]])) (.call 45 [.ref 0 0,.sl [[VS (mk [120])],[VS (mk [49])],[VS (mk [120])],[VS (mk [121])],[VS (mk [48])],[VS (mk [49])]]] [.cells [a0_0,VI a0_1]] fun r4 o4=>.al ((o4.hO)=.cells (o4.hO).cs)<|.al (aO [.lk .sl,.lk (.int .i64)] ((o4.hO).cs) 0 1 o4.tail)<|NS r4<|.done 0 [VS r4.toStr] [.cells [((o4.hO).cs.getD 0 .any),VI (((o4.hO).cs.getD 1 .any).toInt)]])) (.call 26 [.ref 0 0,VI 4] [.cells [a0_0,VI a0_1]] fun r5 o5=>.al ((o5.hO)=.cells (o5.hO).cs)<|.al (aO [.lk .sl,.lk (.int .i64)] ((o5.hO).cs) 0 1 o5.tail)<|NI r5<|.test (r5.toInt==(0:Int)) (NL a1<|.test (decide ((a1.elems.length:Int)>(0:Int))) (.call 26 [.ref 0 0,VI 3] [.cells [((o5.hO).cs.getD 0 .any),VI (((o5.hO).cs.getD 1 .any).toInt)]] fun r6 o6=>.al ((o6.hO)=.cells (o6.hO).cs)<|.al (aO [.lk .sl,.lk (.int .i64)] ((o6.hO).cs) 0 1 o6.tail)<|NI r6<|.test (r6.toInt==(0:Int)) (NL a1<|.call 26 [.ref 0 0,VI (a1.elems.length:Int)] [.cells [((o6.hO).cs.getD 0 .any),VI (((o6.hO).cs.getD 1 .any).toInt)]] fun r7 o7=>.al ((o7.hO)=.cells (o7.hO).cs)<|.al (aO [.lk .sl,.lk (.int .i64)] ((o7.hO).cs) 0 1 o7.tail)<|NI r7<|.al (LK.has .sl a1/\0<=r7.toInt/\r7.toInt<a1.elems.length/\(a1.elems.getD r7.toInt.toNat []).length=1)<|nM (a1.elems.getD r7.toInt.toNat [])<|.done 0 [VS (((a1.elems.getD r7.toInt.toNat []).hA).toStr)] [.cells [((o7.hO).cs.getD 0 .any),VI (((o7.hO).cs.getD 1 .any).toInt)]]) (.call 45 [.ref 0 0,.sl [[VS (mk [120])],[VS (mk [49])],[VS (mk [120])],[VS (mk [121])],[VS (mk [48])],[VS (mk [49])]]] [.cells [((o6.hO).cs.getD 0 .any),VI (((o6.hO).cs.getD 1 .any).toInt)]] fun r8 o8=>.al ((o8.hO)=.cells (o8.hO).cs)<|.al (aO [.lk .sl,.lk (.int .i64)] ((o8.hO).cs) 0 1 o8.tail)<|NS r8<|.done 0 [VS r8.toStr] [.cells [((o8.hO).cs.getD 0 .any),VI (((o8.hO).cs.getD 1 .any).toInt)]])) (.call 45 [.ref 0 0,.sl [[VS (mk [120])],[VS (mk [49])],[VS (mk [120])],[VS (mk [121])],[VS (mk [48])],[VS (mk [49])]]] [.cells [((o5.hO).cs.getD 0 .any),VI (((o5.hO).cs.getD 1 .any).toInt)]] fun r9 o9=>.al ((o9.hO)=.cells (o9.hO).cs)<|.al (aO [.lk .sl,.lk (.int .i64)] ((o9.hO).cs) 0 1 o9.tail)<|NS r9<|.done 0 [VS r9.toStr] [.cells [((o9.hO).cs.getD 0 .any),VI (((o9.hO).cs.getD 1 .any).toInt)]])) (.call 26 [.ref 0 0,VI 5] [.cells [((o5.hO).cs.getD 0 .any),VI (((o5.hO).cs.getD 1 .any).toInt)]] fun r10 o10=>.al ((o10.hO)=.cells (o10.hO).cs)<|.al (aO [.lk .sl,.lk (.int .i64)] ((o10.hO).cs) 0 1 o10.tail)<|NI r10<|.test (r10.toInt==(0:Int)) (.call 79 [.ref 0 0,a1,VI (IntKind.wrap .i64 (a2-1))] [.cells [((o10.hO).cs.getD 0 .any),VI (((o10.hO).cs.getD 1 .any).toInt)]] fun r11 o11=>.al ((o11.hO)=.cells (o11.hO).cs)<|.al (aO [.lk .sl,.lk (.int .i64)] ((o11.hO).cs) 0 1 o11.tail)<|NS r11<|.al (af (mk [40,43,32])+af r11.toStr<=9223372036854775807)<|.al (af (((mk [40,43,32]):ByteArray)++r11.toStr)+af (mk [32])<=9223372036854775807)<|.call 79 [.ref 0 0,a1,VI (IntKind.wrap .i64 (a2-1))] [.cells [((o11.hO).cs.getD 0 .any),VI (((o11.hO).cs.getD 1 .any).toInt)]] fun r12 o12=>.al ((o12.hO)=.cells (o12.hO).cs)<|.al (aO [.lk .sl,.lk (.int .i64)] ((o12.hO).cs) 0 1 o12.tail)<|NS r12<|.al (af (((((mk [40,43,32]):ByteArray)++r11.toStr):ByteArray)++(mk [32]))+af r12.toStr<=9223372036854775807)<|.al (af (((((((mk [40,43,32]):ByteArray)++r11.toStr):ByteArray)++(mk [32])):ByteArray)++r12.toStr)+af (mk [41])<=9223372036854775807)<|.done 0 [VS (((((((((mk [40,43,32]):ByteArray)++r11.toStr):ByteArray)++(mk [32])):ByteArray)++r12.toStr):ByteArray)++(mk [41]))] [.cells [((o12.hO).cs.getD 0 .any),VI (((o12.hO).cs.getD 1 .any).toInt)]]) (.test (r10.toInt==(1:Int)) (.call 79 [.ref 0 0,a1,VI (IntKind.wrap .i64 (a2-1))] [.cells [((o10.hO).cs.getD 0 .any),VI (((o10.hO).cs.getD 1 .any).toInt)]] fun r13 o13=>.al ((o13.hO)=.cells (o13.hO).cs)<|.al (aO [.lk .sl,.lk (.int .i64)] ((o13.hO).cs) 0 1 o13.tail)<|NS r13<|.al (af (mk [40,43,32])+af r13.toStr<=9223372036854775807)<|.al (af (((mk [40,43,32]):ByteArray)++r13.toStr)+af (mk [32])<=9223372036854775807)<|.call 79 [.ref 0 0,a1,VI (IntKind.wrap .i64 (a2-1))] [.cells [((o13.hO).cs.getD 0 .any),VI (((o13.hO).cs.getD 1 .any).toInt)]] fun r14 o14=>.al ((o14.hO)=.cells (o14.hO).cs)<|.al (aO [.lk .sl,.lk (.int .i64)] ((o14.hO).cs) 0 1 o14.tail)<|NS r14<|.al (af (((((mk [40,43,32]):ByteArray)++r13.toStr):ByteArray)++(mk [32]))+af r14.toStr<=9223372036854775807)<|.al (af (((((((mk [40,43,32]):ByteArray)++r13.toStr):ByteArray)++(mk [32])):ByteArray)++r14.toStr)+af (mk [41])<=9223372036854775807)<|.done 0 [VS (((((((((mk [40,43,32]):ByteArray)++r13.toStr):ByteArray)++(mk [32])):ByteArray)++r14.toStr):ByteArray)++(mk [41]))] [.cells [((o14.hO).cs.getD 0 .any),VI (((o14.hO).cs.getD 1 .any).toInt)]]) (.test (r10.toInt==(2:Int)) (.call 79 [.ref 0 0,a1,VI (IntKind.wrap .i64 (a2-1))] [.cells [((o10.hO).cs.getD 0 .any),VI (((o10.hO).cs.getD 1 .any).toInt)]] fun r15 o15=>.al ((o15.hO)=.cells (o15.hO).cs)<|.al (aO [.lk .sl,.lk (.int .i64)] ((o15.hO).cs) 0 1 o15.tail)<|NS r15<|.al (af (mk [40,42,32])+af r15.toStr<=9223372036854775807)<|.al (af (((mk [40,42,32]):ByteArray)++r15.toStr)+af (mk [32])<=9223372036854775807)<|.call 79 [.ref 0 0,a1,VI (IntKind.wrap .i64 (a2-1))] [.cells [((o15.hO).cs.getD 0 .any),VI (((o15.hO).cs.getD 1 .any).toInt)]] fun r16 o16=>.al ((o16.hO)=.cells (o16.hO).cs)<|.al (aO [.lk .sl,.lk (.int .i64)] ((o16.hO).cs) 0 1 o16.tail)<|NS r16<|.al (af (((((mk [40,42,32]):ByteArray)++r15.toStr):ByteArray)++(mk [32]))+af r16.toStr<=9223372036854775807)<|.al (af (((((((mk [40,42,32]):ByteArray)++r15.toStr):ByteArray)++(mk [32])):ByteArray)++r16.toStr)+af (mk [41])<=9223372036854775807)<|.done 0 [VS (((((((((mk [40,42,32]):ByteArray)++r15.toStr):ByteArray)++(mk [32])):ByteArray)++r16.toStr):ByteArray)++(mk [41]))] [.cells [((o16.hO).cs.getD 0 .any),VI (((o16.hO).cs.getD 1 .any).toInt)]]) (.test (r10.toInt==(3:Int)) (.call 79 [.ref 0 0,a1,VI (IntKind.wrap .i64 (a2-1))] [.cells [((o10.hO).cs.getD 0 .any),VI (((o10.hO).cs.getD 1 .any).toInt)]] fun r17 o17=>.al ((o17.hO)=.cells (o17.hO).cs)<|.al (aO [.lk .sl,.lk (.int .i64)] ((o17.hO).cs) 0 1 o17.tail)<|NS r17<|.al (af (mk [40,42,32])+af r17.toStr<=9223372036854775807)<|.al (af (((mk [40,42,32]):ByteArray)++r17.toStr)+af (mk [32])<=9223372036854775807)<|.call 79 [.ref 0 0,a1,VI (IntKind.wrap .i64 (a2-1))] [.cells [((o17.hO).cs.getD 0 .any),VI (((o17.hO).cs.getD 1 .any).toInt)]] fun r18 o18=>.al ((o18.hO)=.cells (o18.hO).cs)<|.al (aO [.lk .sl,.lk (.int .i64)] ((o18.hO).cs) 0 1 o18.tail)<|NS r18<|.al (af (((((mk [40,42,32]):ByteArray)++r17.toStr):ByteArray)++(mk [32]))+af r18.toStr<=9223372036854775807)<|.al (af (((((((mk [40,42,32]):ByteArray)++r17.toStr):ByteArray)++(mk [32])):ByteArray)++r18.toStr)+af (mk [41])<=9223372036854775807)<|.done 0 [VS (((((((((mk [40,42,32]):ByteArray)++r17.toStr):ByteArray)++(mk [32])):ByteArray)++r18.toStr):ByteArray)++(mk [41]))] [.cells [((o18.hO).cs.getD 0 .any),VI (((o18.hO).cs.getD 1 .any).toInt)]]) (.call 45 [.ref 0 0,.sl [[VS (mk [116])],[VS (mk [116,49])],[VS (mk [116,48])]]] [.cells [((o10.hO).cs.getD 0 .any),VI (((o10.hO).cs.getD 1 .any).toInt)]] fun r19 o19=>.al ((o19.hO)=.cells (o19.hO).cs)<|.al (aO [.lk .sl,.lk (.int .i64)] ((o19.hO).cs) 0 1 o19.tail)<|NS r19<|.al (af (mk [40,114,101,99,32])+af r19.toStr<=9223372036854775807)<|.al (af (((mk [40,114,101,99,32]):ByteArray)++r19.toStr)+af (mk [32,40,43,32,49,32])<=9223372036854775807)<|.call 75 [a1,VS r19.toStr] [] fun r20 o20=>.al (r20=.vec 0/\(o20.hO)=.vec 1 (o20.hO).es)<|.al (∀x,x∈o20->jq x)<|.call 79 [.ref 0 0,.sl ((o20.hO).es),VI (IntKind.wrap .i64 (a2-1))] [.cells [((o19.hO).cs.getD 0 .any),VI (((o19.hO).cs.getD 1 .any).toInt)]] fun r21 o21=>.al ((o21.hO)=.cells (o21.hO).cs)<|.al (aO [.lk .sl,.lk (.int .i64)] ((o21.hO).cs) 0 1 o21.tail)<|NS r21<|.al (af (((((mk [40,114,101,99,32]):ByteArray)++r19.toStr):ByteArray)++(mk [32,40,43,32,49,32]))+af r21.toStr<=9223372036854775807)<|.al (af (((((((mk [40,114,101,99,32]):ByteArray)++r19.toStr):ByteArray)++(mk [32,40,43,32,49,32])):ByteArray)++r21.toStr)+af (mk [41,41])<=9223372036854775807)<|.done 0 [VS (((((((((mk [40,114,101,99,32]):ByteArray)++r19.toStr):ByteArray)++(mk [32,40,43,32,49,32])):ByteArray)++r21.toStr):ByteArray)++(mk [41,41]))] [.cells [((o21.hO).cs.getD 0 .any),VI (((o21.hO).cs.getD 1 .any).toInt)]]))))))
theorem HU(a0_0:AV)(a0_1:Int)(a1:AV)(a2:Int)(ha1:LK.has .sl a1)(ha0_0:LK.has .sl a0_0)(h:eg 82 (FY a0_0 a0_1 a1 a2) R):aB Tryz.prog 79 [.ref 0 0,a1,VI a2] [.cells [a0_0,VI a0_1]] R :=
 aB.uf (cf (cN (aj (cd ha0_0) (aj (aD _) aJ))) dC) (aB.up (aj (aD _) (aj (cd ha1) (aj (aD _) aJ))) (oF [] {mu:=[(0,.one (.obj [.lk .sl,.lk (.int .i64)]))],own:=[]} Tryz.f79 h))
def HK(a0_0:ByteArray)(a0_1:AV)(a1:ByteArray)(a2_0:ByteArray)(a2_1:AV):Tree :=
 .call 63 [.agg [VS a0_0,a0_1]] [] fun r1 o1=>NI r1<|.call 92 [.agg [VS a0_0,a0_1],VS a1] [] fun r2 o2=>NI r2<|.call 63 [.agg [VS a2_0,a2_1]] [] fun r3 o3=>NI r3<|.done 0 [VB (decide ((IntKind.wrap .i64 (r1.toInt+(IntKind.wrap .i64 (r2.toInt*(IntKind.wrap .i64 (r3.toInt-1))))))<=(400:Int)))] []
theorem MJ(a0_0:ByteArray)(a0_1:AV)(a1:ByteArray)(a2_0:ByteArray)(a2_1:AV)(ha0_1:LK.has .sl a0_1)(ha2_1:LK.has .sl a2_1)(h:eg 18 (HK a0_0 a0_1 a1 a2_0 a2_1) R):aB Tryz.prog 80 [.agg [VS a0_0,a0_1],VS a1,.agg [VS a2_0,a2_1]] [] R :=
 uQ (aj (cD (aj (aD _) (aj (cd ha0_1) aJ))) (aj (aD _) (aj (cD (aj (aD _) (aj (cd ha2_1) aJ))) aJ))) (oQ [] Tryz.f80 h)
def J3(a0_0:ByteArray)(a0_1:AV)(a1:ByteArray)(a2_0:ByteArray)(a2_1:AV):Tree :=
 .call 47 [.agg [VS a0_0,a0_1],.sl [[VS a2_0,a2_1],[VS a1,.v (.slice none 0 0)]]] [] fun r1 o1=>NA r1<|.call 93 [.agg [VS ((r1.cs.getD 0 .any).toStr),(r1.cs.getD 1 .any)],VS a1,.agg [VS a2_0,a2_1]] [] fun r2 o2=>NA r2<|.done 0 [.agg [VS ((r2.cs.getD 0 .any).toStr),(r2.cs.getD 1 .any)]] []
theorem NH(a0_0:ByteArray)(a0_1:AV)(a1:ByteArray)(a2_0:ByteArray)(a2_1:AV)(ha0_1:LK.has .sl a0_1)(ha2_1:LK.has .sl a2_1)(h:eg 16 (J3 a0_0 a0_1 a1 a2_0 a2_1) R):aB Tryz.prog 81 [.agg [VS a0_0,a0_1],VS a1,.agg [VS a2_0,a2_1]] [] R :=
 uQ (aj (cD (aj (aD _) (aj (cd ha0_1) aJ))) (aj (aD _) (aj (cD (aj (aD _) (aj (cd ha2_1) aJ))) aJ))) (oQ [] Tryz.f81 h)
def Ft:LI:={hd:={ck:=[(0,.k .ptr),(1,.k .sl),(5,.k (.int .i64))]},xs:={ck:=[(0,.k .ptr)]},rt:={refs:=[(4,69)],cM:=[(69,[.lk (.int .u8),.lk .str,.lk (.int .i64),.lk .ptr,.lk .ptr])]},ex:=1}
def Ib:Code:=dF (dx Tryz.f82) 7
def Jv:List (Nat×LI):=[(7,Ft)]
def GQ(a0:AV)(a1:AV):Tree :=
 NZ a0<|NZ a0<|.al (LK.has .str (a0.deref.hA)/\1<=a0.deref.length)<|.test (ae ((a0.deref.hA).toStr)==ae (mk [48])) (NZ a0<|NZ a0<|.al (LK.has .str (a0.deref.hA)/\1<=a0.deref.length)<|.al (0<=(0:Int)/\(0:Int)<af ((a0.deref.hA).toStr))<|.done 0 [.ptr [.v (.int .u8 (bt ((a0.deref.hA).toStr) 0)),VS (mk []),VI 0,.v (.pointer none),.v (.pointer none)]] []) (NZ a0<|NZ a0<|.al (LK.has .str (a0.deref.hA)/\1<=a0.deref.length)<|.test (ae ((a0.deref.hA).toStr)==ae (mk [49])) (NZ a0<|NZ a0<|.al (LK.has .str (a0.deref.hA)/\1<=a0.deref.length)<|.al (0<=(0:Int)/\(0:Int)<af ((a0.deref.hA).toStr))<|.done 0 [.ptr [.v (.int .u8 (bt ((a0.deref.hA).toStr) 0)),VS (mk []),VI 0,.v (.pointer none),.v (.pointer none)]] []) (NZ a0<|NZ a0<|.al (LK.has .str (a0.deref.hA)/\1<=a0.deref.length)<|.call 94 [VS ((a0.deref.hA).toStr)] [] fun r1 o1=>NB r1<|.test r1.toBool (NZ a0<|NZ a0<|.al (LK.has .str (a0.deref.hA)/\1<=a0.deref.length)<|.done 0 [.ptr [.v (.int .u8 110),VS ((a0.deref.hA).toStr),VI 0,.v (.pointer none),.v (.pointer none)]] []) (NZ a0<|NZ a0<|.al (LK.has .str (a0.deref.hA)/\1<=a0.deref.length)<|.call 86 [VS ((a0.deref.hA).toStr)] [] fun r2 o2=>NB r2<|.test r2.toBool (NL a1<|.loop Ib Ft [a0,a1,VI (IntKind.wrap .i64 ((a1.elems.length:Int)-1))] [] (fun y3 q3=>NP (y3.hA)<|NZ (y3.hA)<|NZ (y3.hA)<|.al (LK.has .str ((y3.hA).deref.hA)/\1<=((y3.hA).deref).length)<|.done 0 [.ptr [.v (.int .u8 110),VS (((y3.hA).deref.hA).toStr),VI 0,.v (.pointer none),.v (.pointer none)]] []) (fun y3 q3=>.al ((q3.hO)=.cells (q3.hO).cs)<|.al (ah [.lk (.int .u8),.lk .str,.lk (.int .i64),.lk .ptr,.lk .ptr] ((q3.hO).cs) 0 q3.tail)<|.done 0 [.ptr [.v (.int .u8 (((q3.hO).cs.getD 0 .any).toInt)),VS (((q3.hO).cs.getD 1 .any).toStr),VI (((q3.hO).cs.getD 2 .any).toInt),((q3.hO).cs.getD 3 .any),((q3.hO).cs.getD 4 .any)]] [])) (.call 89 [a0,VS (mk [43]),VI 3] [] fun r4 o4=>NB r4<|.test r4.toBool (NZ a0<|NZ a0<|sc (a0.deref.drop 1)<|NG ((a0.deref.drop 1).hA) 1 1<|im (((a0.deref.drop 1).hA).ix (1:Int))<|.call 82 [((((a0.deref.drop 1).hA).ix (1:Int)).hA),a1] [] fun r5 o5=>NP r5<|NZ a0<|NZ a0<|sc (a0.deref.drop 1)<|NG ((a0.deref.drop 1).hA) 2 1<|im (((a0.deref.drop 1).hA).ix (2:Int))<|.call 82 [((((a0.deref.drop 1).hA).ix (2:Int)).hA),a1] [] fun r6 o6=>NP r6<|NP r5<|.test r5.isNil (.done 0 [.v (.pointer none)] []) (NP r6<|.test r6.isNil (.done 0 [.v (.pointer none)] []) (NZ a0<|NZ a0<|sc (a0.deref.drop 1)<|NG ((a0.deref.drop 1).hA) 0 1<|im (((a0.deref.drop 1).hA).ix (0:Int))<|NZ ((((a0.deref.drop 1).hA).ix (0:Int)).hA)<|NZ ((((a0.deref.drop 1).hA).ix (0:Int)).hA)<|.al (LK.has .str (((((a0.deref.drop 1).hA).ix (0:Int)).hA).deref.hA)/\1<=(((((a0.deref.drop 1).hA).ix (0:Int)).hA).deref).length)<|.al (0<=(0:Int)/\(0:Int)<af ((((((a0.deref.drop 1).hA).ix (0:Int)).hA).deref.hA).toStr))<|.done 0 [.ptr [.v (.int .u8 (bt ((((((a0.deref.drop 1).hA).ix (0:Int)).hA).deref.hA).toStr) 0)),VS (mk []),VI 0,r5,r6]] []))) (.call 89 [a0,VS (mk [42]),VI 3] [] fun r7 o7=>NB r7<|.test r7.toBool (NZ a0<|NZ a0<|sc (a0.deref.drop 1)<|NG ((a0.deref.drop 1).hA) 1 1<|im (((a0.deref.drop 1).hA).ix (1:Int))<|.call 82 [((((a0.deref.drop 1).hA).ix (1:Int)).hA),a1] [] fun r8 o8=>NP r8<|NZ a0<|NZ a0<|sc (a0.deref.drop 1)<|NG ((a0.deref.drop 1).hA) 2 1<|im (((a0.deref.drop 1).hA).ix (2:Int))<|.call 82 [((((a0.deref.drop 1).hA).ix (2:Int)).hA),a1] [] fun r9 o9=>NP r9<|NP r8<|.test r8.isNil (.done 0 [.v (.pointer none)] []) (NP r9<|.test r9.isNil (.done 0 [.v (.pointer none)] []) (NZ a0<|NZ a0<|sc (a0.deref.drop 1)<|NG ((a0.deref.drop 1).hA) 0 1<|im (((a0.deref.drop 1).hA).ix (0:Int))<|NZ ((((a0.deref.drop 1).hA).ix (0:Int)).hA)<|NZ ((((a0.deref.drop 1).hA).ix (0:Int)).hA)<|.al (LK.has .str (((((a0.deref.drop 1).hA).ix (0:Int)).hA).deref.hA)/\1<=(((((a0.deref.drop 1).hA).ix (0:Int)).hA).deref).length)<|.al (0<=(0:Int)/\(0:Int)<af ((((((a0.deref.drop 1).hA).ix (0:Int)).hA).deref.hA).toStr))<|.done 0 [.ptr [.v (.int .u8 (bt ((((((a0.deref.drop 1).hA).ix (0:Int)).hA).deref.hA).toStr) 0)),VS (mk []),VI 0,r8,r9]] []))) (.call 89 [a0,VS (mk [114,101,99]),VI 3] [] fun r10 o10=>NB r10<|.test r10.toBool (NZ a0<|NZ a0<|sc (a0.deref.drop 1)<|NG ((a0.deref.drop 1).hA) 1 1<|im (((a0.deref.drop 1).hA).ix (1:Int))<|NZ ((((a0.deref.drop 1).hA).ix (1:Int)).hA)<|NZ ((((a0.deref.drop 1).hA).ix (1:Int)).hA)<|.al (LK.has .str (((((a0.deref.drop 1).hA).ix (1:Int)).hA).deref.hA)/\1<=(((((a0.deref.drop 1).hA).ix (1:Int)).hA).deref).length)<|.call 86 [VS ((((((a0.deref.drop 1).hA).ix (1:Int)).hA).deref.hA).toStr)] [] fun r11 o11=>NB r11<|.test r11.toBool (NZ a0<|NZ a0<|sc (a0.deref.drop 1)<|NG ((a0.deref.drop 1).hA) 2 1<|im (((a0.deref.drop 1).hA).ix (2:Int))<|.al (LK.has .sl a1/\cI 1 a1.elems/\((([]:List (List AV)).length)+a1.elems.length)*16<=140737488355328)<|NZ a0<|NZ a0<|sc (a0.deref.drop 1)<|NG ((a0.deref.drop 1).hA) 1 1<|im (((a0.deref.drop 1).hA).ix (1:Int))<|NZ ((((a0.deref.drop 1).hA).ix (1:Int)).hA)<|NZ ((((a0.deref.drop 1).hA).ix (1:Int)).hA)<|.al (LK.has .str (((((a0.deref.drop 1).hA).ix (1:Int)).hA).deref.hA)/\1<=(((((a0.deref.drop 1).hA).ix (1:Int)).hA).deref).length)<|.al (cI 1 [[VS ((((((a0.deref.drop 1).hA).ix (1:Int)).hA).deref.hA).toStr)]]/\(((([]:List (List AV))++a1.elems).length)+([[VS ((((((a0.deref.drop 1).hA).ix (1:Int)).hA).deref.hA).toStr)]]:List (List AV)).length)*16<=140737488355328)<|.call 82 [((((a0.deref.drop 1).hA).ix (2:Int)).hA),.sl ((([]:List (List AV))++a1.elems)++([[VS ((((((a0.deref.drop 1).hA).ix (1:Int)).hA).deref.hA).toStr)]]:List (List AV)))] [] fun r12 o12=>NP r12<|NP r12<|.test r12.isNil (.done 0 [.v (.pointer none)] []) (.done 0 [.ptr [.v (.int .u8 114),VS (mk []),VI 0,r12,.v (.pointer none)]] [])) (.done 0 [.v (.pointer none)] [])) (.done 0 [.v (.pointer none)] [])))))))
theorem Hs(a0:AV)(a1:AV)(ha0:LK.has .ptr a0)(ha1:LK.has .sl a1)(h:eg 160 (GQ a0 a1) R):aB Tryz.prog 82 [a0,a1] [] R :=
 uQ (aj (cK ha0) (aj (cd ha1) aJ)) (oQ Jv Tryz.f82 h)
def Gx(x0:AV)(x1:AV)(x5:Int):Tree :=
 NP x0<|NL x1<|NI (VI x5)<|.test (decide (x5≥(0:Int))) (NG x1 x5 1<|nM (x1.ix x5)<|NZ x0<|NZ x0<|.al (LK.has .str (x0.deref.hA)/\1<=x0.deref.length)<|.test (ae (((x1.ix x5).hA).toStr)==ae ((x0.deref.hA).toStr)) (NL x1<|.done 2 [] [.cells [.v (.int .u8 98),VS (mk []),VI (IntKind.wrap .i64 ((IntKind.wrap .i64 ((x1.elems.length:Int)-1))-x5)),.v (.pointer none),.v (.pointer none)]]) (.done 0 [x0,x1,VI (IntKind.wrap .i64 (x5-1))] [])) (.done 1 [x0] [])
abbrev EB:=cW Tryz.prog 160 Ib Ft
theorem Ll(x0:AV)(x1:AV)(x5:Int)(h:oW 160 (Gx x0 x1 x5) EB U):EB [x0,x1,VI x5] [] U :=
 gQ Jv h
def D8(a0:AV):Tree :=
 NZ a0<|NZ a0<|.al (LK.has (.int .u8) (a0.deref.hA)/\1<=a0.deref.length)<|.test (((a0.deref.hA).toInt)==(43:Int)) (NZ a0<|NZ a0<|im (a0.deref.drop 3)<|.call 83 [((a0.deref.drop 3).hA)] [] fun r1 o1=>NI r1<|NZ a0<|NZ a0<|im (a0.deref.drop 4)<|.call 83 [((a0.deref.drop 4).hA)] [] fun r2 o2=>NI r2<|.done 0 [VI (IntKind.wrap .i64 ((IntKind.wrap .i64 (1+r1.toInt))+r2.toInt))] []) (.test (((a0.deref.hA).toInt)==(42:Int)) (NZ a0<|NZ a0<|im (a0.deref.drop 3)<|.call 83 [((a0.deref.drop 3).hA)] [] fun r3 o3=>NI r3<|NZ a0<|NZ a0<|im (a0.deref.drop 4)<|.call 83 [((a0.deref.drop 4).hA)] [] fun r4 o4=>NI r4<|.done 0 [VI (IntKind.wrap .i64 ((IntKind.wrap .i64 (1+r3.toInt))+r4.toInt))] []) (.test (((a0.deref.hA).toInt)==(114:Int)) (NZ a0<|NZ a0<|im (a0.deref.drop 3)<|.call 83 [((a0.deref.drop 3).hA)] [] fun r5 o5=>NI r5<|.done 0 [VI (IntKind.wrap .i64 (2+r5.toInt))] []) (.done 0 [VI 1] [])))
theorem EZ(a0:AV)(ha0:LK.has .ptr a0)(h:eg 30 (D8 a0) R):aB Tryz.prog 83 [a0] [] R :=
 uQ (aj (cK ha0) aJ) (oQ [] Tryz.f83 h)
def KH(a0:AV):Tree :=
 .call 95 [a0,.v (.func (.func 86) #[] #[])] [] fun r1 o1=>NI r1<|.done 0 [VB (decide (r1.toInt≥(0:Int)))] []
theorem Ni(a0:AV)(ha0:LK.has .sl a0)(h:eg 9 (KH a0) R):aB Tryz.prog 84 [a0,.v (.func (.func 86) #[] #[])] [] R :=
 uQ (aj (cd ha0) (aj (aD _) aJ)) (oQ [] Tryz.f84 h)
def Ln(a0:AV):Tree :=
 .call 96 [a0,.fn 97 [.ref 0 0]] [.cells [.vec 1],.vec 1 []] fun r1 o1=>.al ((o1.hO)=.cells (o1.hO).cs)<|.al (aO [.vec 1] ((o1.hO).cs) 0 1 o1.tail)<|.done 0 [.sl ((o1.tail.hO).es)] []
theorem N8(a0:AV)(ha0:LK.has .ptr a0)(h:eg 9 (Ln a0) R):aB Tryz.prog 85 [a0] [] R :=
 uQ (aj (cK ha0) aJ) (oQ [] Tryz.f85 h)
def IW(a0:ByteArray):Tree :=
 .call 99 [VS a0,VS (mk [116])] [] fun r1 o1=>NB r1<|.done 0 [VB r1.toBool] []
theorem Mp(a0:ByteArray)(h:eg 5 (IW a0) R):aB Tryz.prog 86 [VS a0] [] R :=
 uQ (aj (aD _) aJ) (oQ [] Tryz.f86 h)
def EI:LI:={hd:={ck:=[(0,.k .str),(1,.k (.int .i64)),(6,.k (.int .i64))]},xs:={ck:=[(0,.k .str),(1,.k (.int .i64)),(6,.k (.int .i64))]},rt:={},ex:=0}
def J6:Code:=dF (dx Tryz.f87) 2
def EE:LI:={hd:={ck:=[(0,.k .str),(1,.k (.int .i64)),(7,.k .str)],refs:=[(8,48)],cM:=[(48,[.lk .str,.vec 1])]},xs:={},rt:={ck:=[(4,.k .ptr),(5,.k .str)]},ex:=999}
def K2:Code:=dF (dx Tryz.f87) 10
def FP:List (Nat×LI):=[(2,EI),(10,EE)]
def En(a0:ByteArray)(a1:Int):Tree :=
 .loop J6 EI [VS a0,VI a1,VI 0] [] (fun y2 q2=>NS (y2.hA)<|NI (y2.tail.hA)<|NI (y2.tail.tail.hA)<|.test (decide (((y2.tail.tail.hA).toInt)>(0:Int))) (.al (0<=(0:Int)/\(0:Int)<=((y2.tail.tail.hA).toInt)/\((y2.tail.tail.hA).toInt)<=(af ((y2.hA).toStr):Int))<|.al (0<=((y2.tail.tail.hA).toInt)/\((y2.tail.tail.hA).toInt)<=(af ((y2.hA).toStr):Int)/\(af ((y2.hA).toStr):Int)<=(af ((y2.hA).toStr):Int))<|.done 0 [.cP [.ptr [VS (bS ((y2.hA).toStr) (bQ 0) (bQ ((y2.tail.tail.hA).toInt))),.v (.slice none 0 0)],VS (bS ((y2.hA).toStr) (bQ ((y2.tail.tail.hA).toInt)) (bQ (af ((y2.hA).toStr):Int)))]] []) (.test (ae ((y2.hA).toStr)==ae (mk [])) (.done 0 [.cP [.v (.pointer none),VS ((y2.hA).toStr)]] []) (.al (0<=(0:Int)/\(0:Int)<af ((y2.hA).toStr))<|.test ((bt ((y2.hA).toStr) 0) != (40:Int)) (.done 0 [.cP [.v (.pointer none),VS ((y2.hA).toStr)]] []) (.test (((y2.tail.hA).toInt)==(300:Int)) (.done 0 [.cP [.v (.pointer none),VS ((y2.hA).toStr)]] []) (.al (0<=(1:Int)/\(1:Int)<=(af ((y2.hA).toStr):Int)/\(af ((y2.hA).toStr):Int)<=(af ((y2.hA).toStr):Int))<|.loop K2 EE [VS ((y2.hA).toStr),VI ((y2.tail.hA).toInt),VS (bS ((y2.hA).toStr) (bQ 1) (bQ (af ((y2.hA).toStr):Int)))] [.cells [VS (mk []),.any],.vec 1 []] (fun y5 q5=>.fail) (fun y5 q5=>NP (y5.hA)<|NS (y5.tail.hA)<|.done 0 [.cP [(y5.hA),VS ((y5.tail.hA).toStr)]] [])))))) (fun y2 q2=>.done 0 [.cP [.any,.any]] [])
theorem JD(a0:ByteArray)(a1:Int)(h:eg 84 (En a0 a1) R):aB Tryz.prog 87 [VS a0,VI a1] [] R :=
 uQ (aj (aD _) (aj (aD _) aJ)) (oQ FP Tryz.f87 h)
def FG(x0:ByteArray)(x1:Int)(x6:Int):Tree :=
 NS (VS x0)<|NI (VI x1)<|NI (VI x6)<|.test (decide (x6<(af x0:Int))) (.al (0<=x6/\x6<af x0)<|.call 100 [.v (.int .u8 (bt x0 x6))] [] fun r1 o1=>NB r1<|.test r1.toBool (.done 0 [VS x0,VI x1,VI (IntKind.wrap .i64 (x6+1))] []) (.done 1 [VS x0,VI x1,VI x6] [])) (.done 1 [VS x0,VI x1,VI x6] [])
abbrev Gh:=cW Tryz.prog 84 J6 EI
theorem Hv(x0:ByteArray)(x1:Int)(x6:Int)(h:oW 84 (FG x0 x1 x6) Gh U):Gh [VS x0,VI x1,VI x6] [] U :=
 gQ FP h
def Jo(x0:ByteArray)(x1:Int)(x7:ByteArray)(o48_0:ByteArray)(o48_1:List (List AV)):Tree :=
 NS (VS x0)<|NI (VI x1)<|NS (VS x7)<|.al (Ob.cells [VS o48_0,.any]=.cells [VS o48_0,.any])<|.al (ah [.lk .str,.vec 1] [VS o48_0,.any] 0 [.vec 1 o48_1])<|.call 87 [VS x7,VI (IntKind.wrap .i64 (x1+1))] [] fun r1 o1=>NT r1<|NP (r1.comp 0)<|NS (r1.comp 1)<|NP (r1.comp 0)<|.test ((r1.comp 0).isNil) (.done 2 [.v (.pointer none),VS x0] []) (.test (ae ((r1.comp 1).toStr)==ae (mk [])) (.done 2 [.v (.pointer none),VS x0] []) (.al (cI 1 [[(r1.comp 0)]]/\((o48_1.length)+([[(r1.comp 0)]]:List (List AV)).length)*8<=140737488355328)<|.al (0<=(1:Int)/\(1:Int)<=(af ((r1.comp 1).toStr):Int)/\(af ((r1.comp 1).toStr):Int)<=(af ((r1.comp 1).toStr):Int))<|.al (0<=(0:Int)/\(0:Int)<af ((r1.comp 1).toStr))<|.test ((bt ((r1.comp 1).toStr) 0)==(41:Int)) (.done 2 [.ptr [VS o48_0,.sl (o48_1++([[(r1.comp 0)]]:List (List AV)))],VS (bS ((r1.comp 1).toStr) (bQ 1) (bQ (af ((r1.comp 1).toStr):Int)))] []) (.al (0<=(0:Int)/\(0:Int)<af ((r1.comp 1).toStr))<|.test ((bt ((r1.comp 1).toStr) 0) != (32:Int)) (.done 2 [.v (.pointer none),VS x0] []) (.done 0 [VS x0,VI x1,VS (bS ((r1.comp 1).toStr) (bQ 1) (bQ (af ((r1.comp 1).toStr):Int)))] [.cells [VS o48_0,.any],.vec 1 (o48_1++([[(r1.comp 0)]]:List (List AV)))]))))
abbrev EN:=cW Tryz.prog 84 K2 EE
theorem M9(x0:ByteArray)(x1:Int)(x7:ByteArray)(o48_0:ByteArray)(o48_1:List (List AV))(h:oW 84 (Jo x0 x1 x7 o48_0 o48_1) EN U):EN [VS x0,VI x1,VS x7] [.cells [VS o48_0,.any],.vec 1 o48_1] U :=
 gQ FP h
def Jf(a0:ByteArray):Tree :=
 .test (decide ((af a0:Int)<(2:Int))) (.done 0 [VB false] []) (.test (decide ((af a0:Int)>(3:Int))) (.done 0 [VB false] []) (.al (0<=(0:Int)/\(0:Int)<af a0)<|.test ((bt a0 0) != (101:Int)) (.done 0 [VB false] []) (.al (0<=(1:Int)/\(1:Int)<=(af a0:Int)/\(af a0:Int)<=(af a0:Int))<|.call 101 [VS (bS a0 (bQ 1) (bQ (af a0:Int))),VS (mk [48,49,50,51,52,53,54,55,56,57])] [] fun r1 o1=>NS r1<|.test (!(ae r1.toStr==ae (mk []))) (.done 0 [VB false] []) (.test ((af a0:Int)==(2:Int)) (.done 0 [VB true] []) (.al (0<=(1:Int)/\(1:Int)<af a0)<|.done 0 [VB ((bt a0 1) != (48:Int))] [])))))
theorem MQ(a0:ByteArray)(h:eg 30 (Jf a0) R):aB Tryz.prog 88 [VS a0] [] R :=
 uQ (aj (aD _) aJ) (oQ [] Tryz.f88 h)
def Af(a0:AV)(a1:ByteArray)(a2:Int):Tree :=
 NZ a0<|NZ a0<|sc (a0.deref.drop 1)<|NL ((a0.deref.drop 1).hA)<|.test (((((a0.deref.drop 1).hA).elems).length:Int)==a2) (NZ a0<|NZ a0<|sc (a0.deref.drop 1)<|NG ((a0.deref.drop 1).hA) 0 1<|im (((a0.deref.drop 1).hA).ix (0:Int))<|NZ ((((a0.deref.drop 1).hA).ix (0:Int)).hA)<|NZ ((((a0.deref.drop 1).hA).ix (0:Int)).hA)<|.al (LK.has .str (((((a0.deref.drop 1).hA).ix (0:Int)).hA).deref.hA)/\1<=(((((a0.deref.drop 1).hA).ix (0:Int)).hA).deref).length)<|.done 0 [VB (ae ((((((a0.deref.drop 1).hA).ix (0:Int)).hA).deref.hA).toStr)==ae a1)] []) (.done 0 [VB false] [])
theorem Hu(a0:AV)(a1:ByteArray)(a2:Int)(ha0:LK.has .ptr a0)(h:eg 27 (Af a0 a1 a2) R):aB Tryz.prog 89 [a0,VS a1,VI a2] [] R :=
 uQ (aj (cK ha0) (aj (aD _) (aj (aD _) aJ))) (oQ [] Tryz.f89 h)
def AQ(a0_0:ByteArray)(a0_1:AV)(a1:ByteArray):Tree :=
 .test (!(ae a0_0==ae (mk []))) (.test (ae a0_0==ae a1) (.done 0 [VI 1] []) (.done 0 [VI 0] [])) (.call 29 [.agg [VS a0_0,a0_1]] [] fun r1 o1=>NS r1<|.test (ae r1.toStr==ae (mk [114,101,99])) (NG a0_1 1 2<|nM (a0_1.ix (1:Int))<|.test (ae (((a0_1.ix (1:Int)).hA).toStr)==ae a1) (.done 0 [VI 0] []) (NG a0_1 2 2<|NE (a0_1.ix (2:Int))<|.call 92 [.agg [VS (((a0_1.ix (2:Int)).getD 0 .any).toStr),((a0_1.ix (2:Int)).getD 1 .any)],VS a1] [] fun r2 o2=>NI r2<|.done 0 [VI r2.toInt] [])) (NG a0_1 1 2<|NE (a0_1.ix (1:Int))<|.call 92 [.agg [VS (((a0_1.ix (1:Int)).getD 0 .any).toStr),((a0_1.ix (1:Int)).getD 1 .any)],VS a1] [] fun r3 o3=>NI r3<|NG a0_1 2 2<|NE (a0_1.ix (2:Int))<|.call 92 [.agg [VS (((a0_1.ix (2:Int)).getD 0 .any).toStr),((a0_1.ix (2:Int)).getD 1 .any)],VS a1] [] fun r4 o4=>NI r4<|.done 0 [VI (IntKind.wrap .i64 (r3.toInt+r4.toInt))] []))
theorem Cn(a0_0:ByteArray)(a0_1:AV)(a1:ByteArray)(ha0_1:LK.has .sl a0_1)(h:eg 41 (AQ a0_0 a0_1 a1) R):aB Tryz.prog 92 [.agg [VS a0_0,a0_1],VS a1] [] R :=
 uQ (aj (cD (aj (aD _) (aj (cd ha0_1) aJ))) (aj (aD _) aJ)) (oQ [] Tryz.f92 h)
def Bn(a0_0:ByteArray)(a0_1:AV)(a1:ByteArray)(a2_0:ByteArray)(a2_1:AV):Tree :=
 .test (!(ae a0_0==ae (mk []))) (.test (ae a0_0==ae a1) (.done 0 [.agg [VS a2_0,a2_1]] []) (.done 0 [.agg [VS a0_0,a0_1]] [])) (.call 29 [.agg [VS a0_0,a0_1]] [] fun r1 o1=>NS r1<|.test (ae r1.toStr==ae (mk [114,101,99])) (NG a0_1 1 2<|nM (a0_1.ix (1:Int))<|.test (ae (((a0_1.ix (1:Int)).hA).toStr)==ae a1) (.done 0 [.agg [VS a0_0,a0_1]] []) (NG a0_1 1 2<|NE (a0_1.ix (1:Int))<|NG a0_1 2 2<|NE (a0_1.ix (2:Int))<|.call 93 [.agg [VS (((a0_1.ix (2:Int)).getD 0 .any).toStr),((a0_1.ix (2:Int)).getD 1 .any)],VS a1,.agg [VS a2_0,a2_1]] [] fun r2 o2=>NA r2<|.call 35 [VS (mk [114,101,99]),.sl [[VS (((a0_1.ix (1:Int)).getD 0 .any).toStr),((a0_1.ix (1:Int)).getD 1 .any)],[VS ((r2.cs.getD 0 .any).toStr),(r2.cs.getD 1 .any)]]] [] fun r3 o3=>NA r3<|.done 0 [.agg [VS ((r3.cs.getD 0 .any).toStr),(r3.cs.getD 1 .any)]] [])) (.call 29 [.agg [VS a0_0,a0_1]] [] fun r4 o4=>NS r4<|NG a0_1 1 2<|NE (a0_1.ix (1:Int))<|.call 93 [.agg [VS (((a0_1.ix (1:Int)).getD 0 .any).toStr),((a0_1.ix (1:Int)).getD 1 .any)],VS a1,.agg [VS a2_0,a2_1]] [] fun r5 o5=>NA r5<|NG a0_1 2 2<|NE (a0_1.ix (2:Int))<|.call 93 [.agg [VS (((a0_1.ix (2:Int)).getD 0 .any).toStr),((a0_1.ix (2:Int)).getD 1 .any)],VS a1,.agg [VS a2_0,a2_1]] [] fun r6 o6=>NA r6<|.call 35 [VS r4.toStr,.sl [[VS ((r5.cs.getD 0 .any).toStr),(r5.cs.getD 1 .any)],[VS ((r6.cs.getD 0 .any).toStr),(r6.cs.getD 1 .any)]]] [] fun r7 o7=>NA r7<|.done 0 [.agg [VS ((r7.cs.getD 0 .any).toStr),(r7.cs.getD 1 .any)]] []))
theorem Dd(a0_0:ByteArray)(a0_1:AV)(a1:ByteArray)(a2_0:ByteArray)(a2_1:AV)(ha0_1:LK.has .sl a0_1)(ha2_1:LK.has .sl a2_1)(h:eg 58 (Bn a0_0 a0_1 a1 a2_0 a2_1) R):aB Tryz.prog 93 [.agg [VS a0_0,a0_1],VS a1,.agg [VS a2_0,a2_1]] [] R :=
 uQ (aj (cD (aj (aD _) (aj (cd ha0_1) aJ))) (aj (aD _) (aj (cD (aj (aD _) (aj (cd ha2_1) aJ))) aJ))) (oQ [] Tryz.f93 h)
def KW(a0:ByteArray):Tree :=
 .call 99 [VS a0,VS (mk [120,121,122])] [] fun r1 o1=>NB r1<|.done 0 [VB r1.toBool] []
theorem LS(a0:ByteArray)(h:eg 5 (KW a0) R):aB Tryz.prog 94 [VS a0] [] R :=
 uQ (aj (aD _) aJ) (oQ [] Tryz.f94 h)
def EP:LI:={hd:={ck:=[(0,.k .sl),(1,.c (.func (.func 86) #[] #[])),(7,.k (.int .i64)),(8,.k (.int .i64))]},xs:={},rt:={ck:=[(4,.k (.int .i64))]},ex:=0}
def Jh:Code:=dF (dx Tryz.f95) 2
def IF:List (Nat×LI):=[(2,EP)]
def Iq(a0:AV):Tree :=
 NL a0<|.loop Jh EP [a0,.v (.func (.func 86) #[] #[]),VI (a0.elems.length:Int),VI 0] [] (fun y2 q2=>.done 0 [VI (-1)] []) (fun y2 q2=>NI (y2.hA)<|.done 0 [VI ((y2.hA).toInt)] [])
theorem Mr(a0:AV)(ha0:LK.has .sl a0)(h:eg 19 (Iq a0) R):aB Tryz.prog 95 [a0,.v (.func (.func 86) #[] #[])] [] R :=
 uQ (aj (cd ha0) (aj (aD _) aJ)) (oQ IF Tryz.f95 h)
def Eu(x0:AV)(x7:Int)(x8:Int):Tree :=
 NL x0<|.al (AV.v (.func (.func 86) #[] #[])=.v (.func (.func 86) #[] #[]))<|NI (VI x7)<|NI (VI x8)<|.test (decide (x8<x7)) (NG x0 x8 1<|nM (x0.ix x8)<|.call 86 [VS (((x0.ix x8).hA).toStr)] [] fun r1 o1=>NB r1<|.test r1.toBool (.done 2 [VI x8] []) (.done 0 [x0,.v (.func (.func 86) #[] #[]),VI x7,VI (IntKind.wrap .i64 (x8+1))] [])) (.done 1 [] [])
abbrev Fv:=cW Tryz.prog 19 Jh EP
theorem Jj(x0:AV)(x7:Int)(x8:Int)(h:oW 19 (Eu x0 x7 x8) Fv U):Fv [x0,.v (.func (.func 86) #[] #[]),VI x7,VI x8] [] U :=
 gQ IF h
def Ef(a0:AV)(e1_0_0:List (List AV)):Tree :=
 .call 97 [a0,.ref 0 0] [.cells [.vec 1],.vec 1 e1_0_0] fun r1 o1=>.al ((o1.hO)=.cells (o1.hO).cs)<|.al (aO [.vec 1] ((o1.hO).cs) 0 1 o1.tail)<|NZ a0<|NZ a0<|im (a0.deref.drop 3)<|NP ((a0.deref.drop 3).hA)<|.test (!((a0.deref.drop 3).hA).isNil) (NZ a0<|NZ a0<|im (a0.deref.drop 3)<|.call 96 [((a0.deref.drop 3).hA),.fn 97 [.ref 0 0]] [.cells [.vec 1],.vec 1 ((o1.tail.hO).es)] fun r2 o2=>.al ((o2.hO)=.cells (o2.hO).cs)<|.al (aO [.vec 1] ((o2.hO).cs) 0 1 o2.tail)<|NZ a0<|NZ a0<|im (a0.deref.drop 4)<|NP ((a0.deref.drop 4).hA)<|.test (!((a0.deref.drop 4).hA).isNil) (NZ a0<|NZ a0<|im (a0.deref.drop 4)<|.call 96 [((a0.deref.drop 4).hA),.fn 97 [.ref 0 0]] [.cells [.vec 1],.vec 1 ((o2.tail.hO).es)] fun r3 o3=>.al ((o3.hO)=.cells (o3.hO).cs)<|.al (aO [.vec 1] ((o3.hO).cs) 0 1 o3.tail)<|.done 0 [.any] [.cells [.vec 1],.vec 1 ((o3.tail.hO).es)]) (.done 0 [.any] [.cells [.vec 1],.vec 1 ((o2.tail.hO).es)])) (NZ a0<|NZ a0<|im (a0.deref.drop 4)<|NP ((a0.deref.drop 4).hA)<|.test (!((a0.deref.drop 4).hA).isNil) (NZ a0<|NZ a0<|im (a0.deref.drop 4)<|.call 96 [((a0.deref.drop 4).hA),.fn 97 [.ref 0 0]] [.cells [.vec 1],.vec 1 ((o1.tail.hO).es)] fun r4 o4=>.al ((o4.hO)=.cells (o4.hO).cs)<|.al (aO [.vec 1] ((o4.hO).cs) 0 1 o4.tail)<|.done 0 [.any] [.cells [.vec 1],.vec 1 ((o4.tail.hO).es)]) (.done 0 [.any] [.cells [.vec 1],.vec 1 ((o1.tail.hO).es)]))
theorem FN(a0:AV)(e1_0_0:List (List AV))(ha0:LK.has .ptr a0)(h:eg 29 (Ef a0 e1_0_0) R):aB Tryz.prog 96 [a0,.fn 97 [.ref 0 0]] [.cells [.vec 1],.vec 1 e1_0_0] R :=
 aB.uf (cf (cN (aj (aD _) aJ)) (cf (kQ _) dC)) (aB.up (aj (cK ha0) (aj (aD _) aJ)) (oF [] {mu:=[(1,.fn [some (.obj [.vec 1])])],own:=[]} Tryz.f96 h))
def EW(a0:AV)(e1_0:List (List AV)):Tree :=
 NZ a0<|NZ a0<|.al (LK.has (.int .u8) (a0.deref.hA)/\1<=a0.deref.length)<|.test (((a0.deref.hA).toInt)==(110:Int)) (NZ a0<|NZ a0<|nM (a0.deref.drop 1)<|.call 98 [.sl e1_0,VS (((a0.deref.drop 1).hA).toStr)] [] fun r1 o1=>NB r1<|.test (!r1.toBool) (NZ a0<|NZ a0<|nM (a0.deref.drop 1)<|.al (cI 1 [[VS (((a0.deref.drop 1).hA).toStr)]]/\((e1_0.length)+([[VS (((a0.deref.drop 1).hA).toStr)]]:List (List AV)).length)*16<=140737488355328)<|.done 0 [.any] [.cells [.vec 1],.vec 1 (e1_0++([[VS (((a0.deref.drop 1).hA).toStr)]]:List (List AV)))]) (.done 0 [.any] [.cells [.vec 1],.vec 1 e1_0])) (.done 0 [.any] [.cells [.vec 1],.vec 1 e1_0])
theorem N1(a0:AV)(e1_0:List (List AV))(ha0:LK.has .ptr a0)(h:eg 24 (EW a0 e1_0) R):aB Tryz.prog 97 [a0,.ref 0 0] [.cells [.vec 1],.vec 1 e1_0] R :=
 aB.uf (cf (cN (aj (aD _) aJ)) (cf (kQ _) dC)) (aB.up (aj (cK ha0) (aj (aD _) aJ)) (oF [] {mu:=[(1,.one (.obj [.vec 1]))],own:=[]} Tryz.f97 h))
def Lj(a0:AV)(a1:ByteArray):Tree :=
 .call 107 [a0,VS a1] [] fun r1 o1=>NI r1<|.done 0 [VB (decide (r1.toInt≥(0:Int)))] []
theorem NX(a0:AV)(a1:ByteArray)(ha0:LK.has .sl a0)(h:eg 9 (Lj a0 a1) R):aB Tryz.prog 98 [a0,VS a1] [] R :=
 uQ (aj (cd ha0) (aj (aD _) aJ)) (oQ [] Tryz.f98 h)
def JA(a0:ByteArray)(a1:ByteArray):Tree :=
 .test (decide ((af a0:Int)≥(1:Int))) (.test (decide ((af a0:Int)<=(3:Int))) (.al (0<=(0:Int)/\(0:Int)<=(1:Int)/\(1:Int)<=(af a0:Int))<|.call 108 [VS a1,VS (bS a0 (bQ 0) (bQ 1))] [] fun r1 o1=>NB r1<|.test r1.toBool (.al (0<=(1:Int)/\(1:Int)<=(af a0:Int)/\(af a0:Int)<=(af a0:Int))<|.call 101 [VS (bS a0 (bQ 1) (bQ (af a0:Int))),VS (mk [48,49,50,51,52,53,54,55,56,57])] [] fun r2 o2=>NS r2<|.done 0 [VB (ae r2.toStr==ae (mk []))] []) (.done 0 [VB false] [])) (.done 0 [VB false] [])) (.done 0 [VB false] [])
theorem Me(a0:ByteArray)(a1:ByteArray)(h:eg 25 (JA a0 a1) R):aB Tryz.prog 99 [VS a0,VS a1] [] R :=
 uQ (aj (aD _) (aj (aD _) aJ)) (oQ [] Tryz.f99 h)
def Iy(a0:Int):Tree :=
 .test (decide (a0≥(97:Int))) (.test (decide (a0<=(122:Int))) (.done 0 [VB true] []) (.test (decide (a0≥(48:Int))) (.test (decide (a0<=(57:Int))) (.done 0 [VB true] []) (.test (a0==(43:Int)) (.done 0 [VB true] []) (.done 0 [VB (a0==(42:Int))] []))) (.test (a0==(43:Int)) (.done 0 [VB true] []) (.done 0 [VB (a0==(42:Int))] [])))) (.test (decide (a0≥(48:Int))) (.test (decide (a0<=(57:Int))) (.done 0 [VB true] []) (.test (a0==(43:Int)) (.done 0 [VB true] []) (.done 0 [VB (a0==(42:Int))] []))) (.test (a0==(43:Int)) (.done 0 [VB true] []) (.done 0 [VB (a0==(42:Int))] [])))
theorem Mm(a0:Int)(h:eg 25 (Iy a0) R):aB Tryz.prog 100 [.v (.int .u8 a0)] [] R :=
 uQ (aj (aD _) aJ) (oQ [] Tryz.f100 h)
def Fh:LI:={hd:={ck:=[(0,.k .sl),(1,.k .str),(7,.k (.int .i64)),(8,.k (.int .i64))]},xs:={},rt:={ck:=[(4,.k (.int .i64))]},ex:=0}
def Hr:Code:=dF (dx Tryz.f107) 2
def I3:List (Nat×LI):=[(2,Fh)]
def KY(a0:AV)(a1:ByteArray):Tree :=
 NL a0<|.loop Hr Fh [a0,VS a1,VI (a0.elems.length:Int),VI 0] [] (fun y1 q1=>.done 0 [VI (-1)] []) (fun y1 q1=>NI (y1.hA)<|.done 0 [VI ((y1.hA).toInt)] [])
theorem M7(a0:AV)(a1:ByteArray)(ha0:LK.has .sl a0)(h:eg 19 (KY a0 a1) R):aB Tryz.prog 107 [a0,VS a1] [] R :=
 uQ (aj (cd ha0) (aj (aD _) aJ)) (oQ I3 Tryz.f107 h)
def EC(x0:AV)(x1:ByteArray)(x7:Int)(x8:Int):Tree :=
 NL x0<|NS (VS x1)<|NI (VI x7)<|NI (VI x8)<|.test (decide (x8<x7)) (NG x0 x8 1<|nM (x0.ix x8)<|.test (ae x1==ae (((x0.ix x8).hA).toStr)) (.done 2 [VI x8] []) (.done 0 [x0,VS x1,VI x7,VI (IntKind.wrap .i64 (x8+1))] [])) (.done 1 [] [])
abbrev G3:=cW Tryz.prog 19 Hr Fh
theorem II(x0:AV)(x1:ByteArray)(x7:Int)(x8:Int)(h:oW 19 (EC x0 x1 x7 x8) G3 U):G3 [x0,VS x1,VI x7,VI x8] [] U :=
 gQ I3 h
end
end Go.Proofs.Trees
namespace Go.Proofs.Trees
open Go Go.VL
theorem bX(i:Nat)(h:i<1000000000000):IntKind.wrap .i64 ((i:Int)+1)=((i+1:Nat):Int):=by rw[wrap64]<;>omega
inductive E where
 |atom (s:List UInt8)
 |list (l:List E)
mutual
def E.ei:E->AV
 | .atom s=>.ptr [.v (.string (mk s)),.v (.slice none 0 0)]
 | .list l=>.ptr [.v (.string (mk [])),.sl (E.lR l)]
def E.lR:List E->List (List AV)
 |[]=>[]
 |e::l=>[e.ei]::E.lR l
end
mutual
def E.gU:E->List AV
 | .atom s=>[.v (.string (mk s)),.v (.slice none 0 0)]
 | .list l=>[.v (.string (mk [])),.sl (E.bj l)]
def E.bj:List E->List (List AV)
 |[]=>[]
 |e::l=>e.gU::E.bj l
end
def E.kh(e:E):AV:=.agg e.gU
theorem vA(l r:List E):E.lR (l++r)=E.lR l++E.lR r:=by
 induction l with
 |nil=>rfl
 |cons e l ih=>simp[E.lR,ih]
theorem pV(l r:List E):E.bj (l++r)=E.bj l++E.bj r:=by
 induction l with
 |nil=>rfl
 |cons e l ih=>simp[E.bj,ih]
theorem rT(l:List E):(E.lR l).length=l.length:=by
 induction l with
 |nil=>rfl
 |cons e l ih=>simp[E.lR,ih]
theorem dM(l:List E):(E.bj l).length=l.length:=by
 induction l with
 |nil=>rfl
 |cons e l ih=>simp[E.bj,ih]
def eK(b:UInt8):Bool:=decide ((97<=b.toNat/\b.toNat<=122)\/(48<=b.toNat/\b.toNat<=57)\/b.toNat=43\/b.toNat=42)
def rU(f:List UInt8->Option (E×List UInt8)):Nat->List UInt8->List E->Option (E×List UInt8)
 |0,_,_=>none
 |
  n+1,s,acc=>match f s with
  |some (p,c::r)=>if c.toNat=41 then some (.list (acc++[p]),r)else if c.toNat=32 then rU f n r (acc++[p])else none
  |_=>none
def rd:Nat->List UInt8->Option (E×List UInt8)
 |0,s=>if s.takeWhile eK=[]then none else some (.atom (s.takeWhile eK),s.dropWhile eK)
 |k+1,s=>if s.takeWhile eK=[]then(match s with
  |c::r=>if c.toNat=40 then rU (rd k) (r.length+1) r []else none
  |[]=>none)else some (.atom (s.takeWhile eK),s.dropWhile eK)
theorem A5{f:List UInt8->Option (E×List UInt8)}(hf:∀s e r,f s=some (e,r)->r.length<s.length):∀(n:Nat) (s:List UInt8) (acc:List E) (e:E) (r:List UInt8),rU f n s acc=some (e,r)->r.length<s.length
 |0,s,acc,e,r,h=>by cases h
 |
  n+1,s,acc,e,r,h=>by
  simp only[rU]at h
  split at h
  ·rename_i p c r' hs
   have:=hf _ _ _ hs
   simp only[aw]at this
   split at h
   ·cases h;omega
   ·split at h
    ·have:=A5 hf n _ _ _ _ h;omega
    ·cases h
  ·cases h
theorem oI{s:List UInt8}(h:¬s.takeWhile eK=[]):(s.dropWhile eK).length<s.length:=by
 have h1:=congrArg dX (bP (p:=eK) (l:=s))
 simp only[ak]at h1
 have:0<(s.takeWhile eK).length:=List.length_pos_iff.2 h
 omega
theorem xF:∀(k:Nat) (s:List UInt8) (e:E) (r:List UInt8),rd k s=some (e,r)->r.length<s.length
 |
  0,s,e,r,h=>by
  simp only[rd]at h
  split at h
  ·cases h
  ·rename_i hn;cases h;exact oI hn
 |
  k+1,s,e,r,h=>by
  simp only[rd]at h
  split at h
  ·split at h
   ·split at h
    ·have:=A5 (xF k) _ _ _ _ _ h
     simp only[aw];omega
    ·cases h
   ·cases h
  ·rename_i hn;cases h;exact oI hn
theorem Mk(b:UInt8):aB Tryz.prog 100 [.v (.int .u8 (b.toNat:Int))] [] (bU (.v (.bool (eK b)))):=by
 refine Mm _ ?_
 simp only[Iy,↓zq,zs,ah,bU,eK]
 repeat' (apply aG<;>intro _)
 all_goals first|(congr 2;rw[cL];simp;omega)|(congr 2;simp;omega)
theorem w4{s:List UInt8}{i:Nat}(hi:i<s.length)(hb:eK (s.getD i 0)=true):((s.drop i).takeWhile eK).length=((s.drop (i+1)).takeWhile eK).length+1:=by
 have e:s.drop i=s.getD i 0::s.drop (i+1):=by
  rw[aP hi];simp[aa,hi]
 rw[e,List.takeWhile_cons_of_pos hb];simp
theorem qk{s:List UInt8}{i:Nat}(hi:i<s.length)(hb:eK (s.getD i 0)=false):(s.drop i).takeWhile eK=[]:=by
 have e:s.drop i=s.getD i 0::s.drop (i+1):=by
  rw[aP hi];simp[aa,hi]
 rw[e,List.takeWhile_cons_of_neg (by rw[hb];simp)]
theorem GL(s:List UInt8)(hs:s.length<=8000)(d:Int):∀(k i:Nat),i+k=s.length->Gh [.v (.string (mk s)),.v (.int .i64 d),.v (.int .i64 (i:Int))] [] (kl 1 [.v (.string (mk s)),.v (.int .i64 d),.v (.int .i64 ((i+((s.drop i).takeWhile eK).length:Nat):Int))] [])
 |
  0,i,hi=>by
  refine Hv _ _ _ ?_
  have hd:s.drop i=[]:=bx (by omega)
  simp only[FG,↓zq,zs,ah,zt]
  exact⟨fun h=>by omega,fun _=>by simp[kl,hd]⟩
 |
  k+1,i,hi=>by
  have hlt:i<s.length:=by omega
  refine Hv _ _ _ ?_
  simp only[FG,↓zq,zs,ah,zt,lO s i hlt]
  refine⟨fun _=>⟨by omega,?_⟩,fun h=>by omega⟩
  refine an (Mk _) ?_
  simp only[↓zq,zs,ah]
  refine⟨fun hb=>?_,fun hb=>?_⟩
  ·rw[bX i (by omega)]
   have:=GL s hs d k (i+1) (by omega)
   rw[w4 hlt hb,show i+(((s.drop (i+1)).takeWhile eK).length+1)=i+1+((s.drop (i+1)).takeWhile eK).length by omega]
   exact this
  ·simp[kl,qk hlt hb]
def og(s:List UInt8):Option (E×List UInt8)->AV
 |some (e,r)=>.cP [e.ei,.v (.string (mk r))]
 |none=>.cP [.v (.pointer none),.v (.string (mk s))]
theorem cJ(e:E):LK.has .ptr e.ei=True:=by cases e<;>simp[E.ei,gY]
theorem dP(e:E):e.ei.isNil=false:=by cases e<;>rfl
theorem uh(s:List UInt8):s.take (s.takeWhile eK).length=s.takeWhile eK:=by
 have h:=bP (p:=eK) (l:=s)
 have:(s.takeWhile eK++s.dropWhile eK).take (s.takeWhile eK).length=s.takeWhile eK:=List.take_left
 rw[h]at this;exact this
theorem yc(s:List UInt8):s.drop (s.takeWhile eK).length=s.dropWhile eK:=by
 have h:=bP (p:=eK) (l:=s)
 have:(s.takeWhile eK++s.dropWhile eK).drop (s.takeWhile eK).length=s.dropWhile eK:=List.drop_left
 rw[h]at this;exact this
theorem zP(c:UInt8)(r:List UInt8):(List.take (r.length+1) (c::r)).drop (bQ 1)=r:=by simp
theorem Ke(s0:List UInt8)(k:Nat)(hk:k<300)(ih:∀s,s.length<=8000->aB Tryz.prog 87 [.v (.string (mk s)),.v (.int .i64 ((300-k:Nat):Int))] [] (bU (og s (rd k s)))) :
 ∀(n:Nat) (s:List UInt8) (acc:List E),s.length<n->s.length+acc.length<=8000->EN [.v (.string (mk s0)),.v (.int .i64 ((300-(k+1):Nat):Int)),.v (.string (mk s))] [.cells [.v (.string (mk [])),.any],.vec 1 (E.lR acc)]
  (se (match rU (rd k) n s acc with|some (e,r)=>(2,[e.ei,.v (.string (mk r))],[])|none=>(2,[.v (.pointer none),.v (.string (mk s0))],[])))
 |0,s,acc,hn,_=>by omega
 |
  n+1,s,acc,hn,hl=>by
  refine M9 _ _ _ _ _ ?_
  simp only[Jo,↓zq,zs,ah,Bp]
  have hd:IntKind.wrap .i64 (((300-(k+1):Nat):Int)+1)=((300-k:Nat):Int):=by rw[wrap64]<;>omega
  rw[hd]
  refine an (ih s (by omega)) ?_
  have hlt:=xF k s
  cases hr:rd k s with
  |
   none =>
   simp only[og,↓zq,zs,ah,rU,hr]
   simp[se]
  |
   some q =>
   obtain⟨e,r⟩:=q
   have:=hlt e r hr
   cases r with
   |
    nil =>
    simp only[og,↓zq,zs,ah,zt,rU,hr,cJ,dP]
    simp[se]
   |
    cons c r =>
    simp only[aw]at this
    have hb:=lO (c::r) 0 (by simp)
    simp only[cH,cY]at hb
    have e2:(List.take (c::r).length (c::r)).drop 1=r:=by simp
    simp only[og,↓zq,zs,ah,zt,rU,hr,cJ,dP,hb,e2,rT]
    refine⟨fun h=>(by cases h),fun _=>⟨fun h=>(by cases h),fun _=>⟨⟨fun c hc=>(by simp at hc;rw[hc];rfl),by omega⟩,by omega,by omega,fun h41=>?_,fun h41=>⟨by omega,fun h32=>?_,fun h32=>?_⟩⟩⟩⟩
    ·have h41':c.toNat=41:=by omega
     rw[zP,if_pos h41']
     simp[se,E.ei,vA,E.lR]
    ·have h41':¬c.toNat=41:=by omega
     have h32':¬c.toNat=32:=by omega
     rw[if_neg h41',if_neg h32']
    ·have h41':¬c.toNat=41:=by omega
     have h32':c.toNat=32:=by omega
     rw[zP,if_neg h41',if_pos h32']
     have:=Ke s0 k hk ih n r (acc++[e]) (by omega) (by simp;omega)
     simpa[vA,E.lR]using this
theorem NC:∀(k:Nat),k<=300->∀s:List UInt8,s.length<=8000->aB Tryz.prog 87 [.v (.string (mk s)),.v (.int .i64 ((300-k:Nat):Int))] [] (bU (og s (rd k s))):=by
 intro k
 induction k with
 |
  zero =>
  intro hk s hs
  refine JD _ _ ?_
  unfold En
  refine db (GL s hs _ s.length 0 (by omega)) ?_
  simp only[↓zq,zs,ah,zt,aR,bU]
  have hw:(s.takeWhile eK).length<=s.length:=by
   have:=congrArg dX (bP (p:=eK) (l:=s))
   simp only[ak]at this;omega
  refine⟨fun h=>⟨by omega,by omega,?_⟩,fun h=>?_⟩
  ·have hne:¬s.takeWhile eK=[]:=fun e=>by rw[e]at h;simp at h
   simp only[rd,if_neg hne,og,E.ei,uh,yc]
  ·have hnil:s.takeWhile eK=[]:=List.eq_nil_of_length_eq_zero (by omega)
   simp only[rd,if_pos hnil,og]
   refine⟨fun _=>trivial,fun hne=>⟨?_,?_⟩⟩
   ·cases s with
    |nil=>exact absurd rfl hne
    |cons c s=>simp
   ·exact⟨fun _=>trivial,fun _=>⟨fun _=>trivial,fun h=>absurd rfl h⟩⟩
 |
  succ k ih =>
  intro hk s hs
  refine JD _ _ ?_
  unfold En
  refine db (GL s hs _ s.length 0 (by omega)) ?_
  simp only[↓zq,zs,ah,zt,aR,bU]
  have hw:(s.takeWhile eK).length<=s.length:=by
   have:=congrArg dX (bP (p:=eK) (l:=s))
   simp only[ak]at this;omega
  refine⟨fun h=>⟨by omega,by omega,?_⟩,fun h=>?_⟩
  ·have hne:¬s.takeWhile eK=[]:=fun e=>by rw[e]at h;simp at h
   simp only[rd,if_neg hne,og,E.ei,uh,yc]
  ·have hnil:s.takeWhile eK=[]:=List.eq_nil_of_length_eq_zero (by omega)
   simp only[rd,if_pos hnil]
   cases s with
   |nil=>simp[og]
   |
    cons c s =>
    have hb:=lO (c::s) 0 (by simp)
    simp only[cH,cY]at hb
    simp only[aw]at hs
    simp only[↓zq,zs,ah,hb,zP]
    refine⟨fun h=>(by cases h),fun _=>⟨by omega,fun h40=>?_,fun h40=>⟨fun h300=>?_,fun h300=>⟨by omega,?_⟩⟩⟩⟩
    ·have:¬c.toNat=40:=by omega
     rw[if_neg this];rfl
    ·omega
    ·have h40':c.toNat=40:=by omega
     rw[if_pos h40']
     refine i4 (Ke (c::s) k (by omega) (ih (by omega)) (s.length+1) s [] (by omega) (by simp;omega)) (fun ys o e=>?_) (fun ys o e=>?_)
     ·split at e<;>cases e
     ·split at e<;>cases e
      ·rename_i e' r' hr
       simp only[↓zq,zs,ah,cJ]
       simp only[hr,og]
      ·rename_i hr
       simp only[↓zq,zs,ah]
       simp only[hr,og]
end Go.Proofs.Trees
namespace Go.Proofs.Trees
open Go Go.VL
mutual
def E.sz:E->Nat
 | .atom _=>1
 | .list l=>1+E.iD l
def E.iD:List E->Nat
 |[]=>0
 |e::l=>e.sz+E.iD l
end
mutual
def E.ok:E->Prop
 | .atom s=>s≠[]
 | .list l=>E.C7 l
def E.C7:List E->Prop
 |[]=>True
 |e::l=>e.ok/\E.C7 l
end
theorem xD(l r:List E):E.iD (l++r)=E.iD l+E.iD r:=by
 induction l with
 |nil=>simp[E.iD]
 |cons e l ih=>simp[E.iD,ih];omega
theorem yg(l r:List E):E.C7 (l++r)↔E.C7 l/\E.C7 r:=by
 induction l with
 |nil=>simp[E.C7]
 |cons e l ih=>simp[E.C7,ih,and_assoc]
theorem A3{f:List UInt8->Option (E×List UInt8)}(hf:∀s e r,f s=some (e,r)->e.ok/\e.sz+r.length<=s.length):∀(n:Nat) (s:List UInt8) (acc:List E) (e:E) (r:List UInt8),rU f n s acc=some (e,r)->E.C7 acc->e.ok/\e.sz+r.length<=s.length+1+E.iD acc
 |0,s,acc,e,r,h,_=>by cases h
 |
  n+1,s,acc,e,r,h,ha=>by
  simp only[rU]at h
  split at h
  ·rename_i p c r' hs
   obtain⟨h1,h2⟩:=hf _ _ _ hs
   simp only[aw]at h2
   split at h
   ·cases h
    refine⟨(yg _ _).2 ⟨ha,h1,trivial⟩,?_⟩
    simp only[E.sz,xD,E.iD];omega
   ·split at h
    ·have:=A3 hf n _ _ _ _ h ((yg _ _).2 ⟨ha,h1,trivial⟩)
     refine⟨this.1,?_⟩
     have h3:=this.2
     simp only[xD,E.iD]at h3;omega
    ·cases h
  ·cases h
theorem tM(s:List UInt8):(s.takeWhile eK).length+(s.dropWhile eK).length=s.length:=by
 have:=congrArg dX (bP (p:=eK) (l:=s))
 simpa only[ak]using this
theorem Eg:∀(k:Nat) (s:List UInt8) (e:E) (r:List UInt8),rd k s=some (e,r)->e.ok/\e.sz+r.length<=s.length
 |
  0,s,e,r,h=>by
  simp only[rd]at h
  split at h
  ·cases h
  ·rename_i hn;cases h
   have:=tM s
   have:0<(s.takeWhile eK).length:=List.length_pos_iff.2 hn
   exact⟨hn,by simp only[E.sz];omega⟩
 |
  k+1,s,e,r,h=>by
  simp only[rd]at h
  split at h
  ·split at h
   ·split at h
    ·have:=A3 (Eg k) _ _ _ _ _ h trivial
     refine⟨this.1,?_⟩
     have h3:=this.2
     simp only[E.iD,aw]at h3 |-;omega
    ·cases h
   ·cases h
  ·rename_i hn;cases h
   have:=tM s
   have:0<(s.takeWhile eK).length:=List.length_pos_iff.2 hn
   exact⟨hn,by simp only[E.sz];omega⟩
def qv(s:List UInt8):Option E:=if s.length>8000 then none else match rd 300 s with|some (e,[])=>some e|_=>none
theorem ny{s:List UInt8}{e:E}(h:qv s=some e):e.ok/\e.sz<=8000:=by
 unfold qv at h
 split at h
 ·cases h
 ·split at h
  ·rename_i e' hr
   cases h
   have:=Eg _ _ _ _ hr
   exact⟨this.1,by have:=this.2;simp at this;omega⟩
  ·cases h
def ub:Option E->AV
 |some e=>e.ei
 |none=>.v (.pointer none)
theorem IK(s:List UInt8):aB Tryz.prog 70 [.v (.string (mk s))] [] (bU (ub (qv s))):=by
 refine Mi _ ?_
 simp only[ID,↓zq,zs,ah,zt,bU,qv]
 refine⟨fun h=>?_,fun h=>?_⟩
 ·rw[if_pos (by omega)];simp[ub]
 ·rw[if_neg (by omega)]
  refine an (NC 300 (by omega) s (by omega)) ?_
  cases hr:rd 300 s with
  |
   none =>
   simp only[og,↓zq,zs,ah,zt,ub]
   refine⟨fun _=>trivial,fun _=>trivial⟩
  |
   some q =>
   obtain⟨e,r⟩:=q
   cases r with
   |nil=>simp only[og,↓zq,zs,ah,zt,ub,cJ];simp
   |cons c r=>simp only[og,↓zq,zs,ah,zt,ub,cJ];simp
def gN(b:UInt8):Bool:=decide (48<=b.toNat/\b.toNat<=57)
def named(lo hi:Nat):List UInt8->Bool
 |[]=>false
 |c::r=>decide (r.length<=2)&&decide (lo<=c.toNat/\c.toNat<=hi)&&r.all gN
def gJ(s:List UInt8):Bool:=named 120 122 s
def cU(s:List UInt8):Bool:=named 116 116 s
def D0(v lo hi:Int):Bool:=decide (lo<=v/\v<=hi)
theorem Ct(v lo hi:Int):aB Tryz.prog 30 [.v (.int .i64 v),.v (.int .i64 lo),.v (.int .i64 hi)] [] (bU (.v (.bool (D0 v lo hi)))):=by
 refine MI _ _ _ ?_
 simp only[I7,↓zq,zs,ah,bU,D0]
 constructor<;>intro h<;>simp at h<;>simp[h]
 omega
theorem KP(s:List UInt8)(hs:s.length<=3):∀(k i:Nat),i+k=s.length->ED [.v (.string (mk s)),.v (.int .i64 (i:Int))] [] (se (if(s.drop i).all gN=true then(1,[],[])else(2,[.v (.bool false)],[])))
 |
  0,i,hi=>by
  have hd:s.drop i=[]:=bx (by omega)
  refine Ld _ _ ?_
  simp only[GK,↓zq,zs,ah,zt]
  exact⟨fun h=>by omega,fun _=>by simp[se,hd]⟩
 |
  k+1,i,hi=>by
  have hlt:i<s.length:=by omega
  have e:s.drop i=s.getD i 0::s.drop (i+1):=by
   rw[aP hlt];simp[aa,hlt]
  refine Ld _ _ ?_
  simp only[GK,↓zq,zs,ah,zt,lO s i hlt,e,cO]
  generalize hb:s.getD i 0=b
  refine⟨fun _=>⟨by omega,fun h=>?_,fun h=>⟨by omega,fun h2=>?_,fun h2=>?_⟩⟩,fun h=>by omega⟩
  ·have:gN b=false:=by simp[gN];omega
   simp only[this,zf,se]
  ·have:gN b=false:=by simp[gN];omega
   simp only[this,zf,se]
  ·have:gN b=true:=by simp[gN];omega
   rw[bX i (by omega),this,bZ]
   exact KP s hs k (i+1) (by omega)
theorem IC(s:List UInt8)(lo hi:Nat):aB Tryz.prog 76 [.v (.string (mk s)),.v (.int .u8 (lo:Int)),.v (.int .u8 (hi:Int))] [] (bU (.v (.bool (named lo hi s)))):=by
 refine N7 _ _ _ ?_
 unfold JM
 rw[dc]
 refine an (Ct _ _ _) ?_
 simp only[↓zq,zs,ah,zt,bU]
 refine⟨fun h=>?_,fun h=>?_⟩
 ·cases s with
  |nil=>rfl
  |
   cons c s =>
   simp[D0]at h
   have:¬s.length<=2:=by omega
   simp[named,this]
 ·cases s with
  |nil=>simp[D0]at h
  |
   cons c s =>
   simp[D0]at h
   have hl:s.length<=2:=by omega
   have hb:=lO (c::s) 0 (by simp)
   simp only[cH,cY]at hb
   simp only[↓zq,zs,ah,hb]
   refine⟨by omega,fun h1=>?_,fun h1=>⟨by omega,fun h2=>?_,fun h2=>?_⟩⟩
   ·have:¬lo<=c.toNat:=by omega
    simp[named,this]
   ·have:¬c.toNat<=hi:=by omega
    simp[named,this]
   ·refine i4 (KP (c::s) (by simp;omega) s.length 1 (by simp;omega)) (fun ys o e=>?_) (fun ys o e=>?_)
    ·split at e<;>cases e
     rename_i ha
     simp at ha
     simp only[↓zq,zs,ah]
     simp[named,hl]
     exact⟨⟨by omega,by omega⟩,fun x hx=>by simpa using ha x hx⟩
    ·split at e<;>cases e
     rename_i ha
     simp only[↓zq,zs,ah]
     have:s.all gN=false:=by simpa using ha
     simp[named,this]
theorem FA(s:List UInt8):aB Tryz.prog 56 [.v (.string (mk s))] [] (bU (.v (.bool (gJ s)))):=by
 refine No _ ?_
 unfold Lu
 refine an (IC s 120 122) ?_
 simp only[↓zq,zs,ah,bU,gJ]
theorem FT(s:List UInt8):aB Tryz.prog 54 [.v (.string (mk s))] [] (bU (.v (.bool (cU s)))):=by
 refine L7 _ ?_
 unfold Lw
 refine an (IC s 116 116) ?_
 simp only[↓zq,zs,ah,bU,cU]
end Go.Proofs.Trees
namespace Go.Proofs.Trees
open Go Go.VL Go.RowKit
theorem Mv(l:List UInt8)(c:UInt8):aB Tryz.prog 108 [.v (.string (mk l)),.v (.string (mk [c]))] [] (bU (.v (.bool (decide (0<=Lib.indexByte l c))))):=by
 refine aB.Oz (xs:=[.string (mk l),.string (mk [c])]) ⟨mU,by kernel_rfl,by kernel_rfl,by kernel_rfl⟩ fun w=>?_
 have:=Any.strings_Contains_one Tryz.DT (mk l) c w
 refine Calls.mono this fun e w' ⟨h1,h2⟩=>?_
 rw[h2]
 have hd:(mk l).data.toList=l:=by simp[mk]
 exact⟨by rw[h1,hd],Below.refl _ _⟩
theorem Ih(l cs:List UInt8)(hl:l.length<=1000000)(hc:cs.length<=1000)(ha:∀b,b∈cs->b.toNat<128):aB Tryz.prog 101 [.v (.string (mk l)),.v (.string (mk cs))] [] (bU (.v (.string (mk (Lib.trimS l cs))))):=by
 refine aB.Oz (xs:=[.string (mk l),.string (mk cs)]) ⟨p9,by kernel_rfl,by kernel_rfl,by kernel_rfl⟩ fun w=>?_
 have:=Any.strings_Trim_laid Tryz.DJ (by kernel_rfl) (mk l) (mk cs) w (by rw[dc];omega) (by rw[dc];omega) (fun j b hj=>ha b (by
  have:(mk cs).data.toList=cs:=by simp[mk]
  rw[this]at hj
  exact List.mem_of_getElem? hj))
 refine Calls.mono this fun e w' ⟨h1,h2⟩=>⟨?_,h2⟩
 rw[h1]
 simp[mk]
theorem m9:∀(l:List UInt8) (c:UInt8),(0<=Lib.indexByte l c↔c∈l)/\-1<=Lib.indexByte l c
 |[],c=>by simp[Lib.indexByte]
 |
  b::l,c=>by
  obtain⟨h1,h2⟩:=m9 l c
  unfold Lib.indexByte
  by_cases e:b=c
  ·subst e;simp
  ·have e':(b==c)=false:=by simp[e]
   rw[e']
   by_cases q:Lib.indexByte l c = -1
   ·have:c∉l:=fun h=>by have:=h1.2 h;omega
    simp[q,this,Ne.symm e]
   ·have q':(Lib.indexByte l c==-1)=false:=by simp[q]
    simp only[q',Bool.false_eq_true,if_false,aI]
    constructor
    ·constructor
     ·intro h;exact .inr (h1.1 (by omega))
     ·intro h
      rcases h with h|h
      ·exact absurd h.symm e
      ·have:=h1.2 h;omega
    ·omega
theorem dropWhile_nil{p:UInt8->Bool}:∀(l:List UInt8),l.dropWhile p=[]↔l.all p=true
 |[]=>by simp
 |
  b::l=>by
  cases h:p b with
  |true=>rw[List.dropWhile_cons_of_pos h,dropWhile_nil l];simp[h]
  |false=>rw[List.dropWhile_cons_of_neg (by rw[h];simp)];simp[h]
theorem tb(l cs:List UInt8):Lib.trimS l cs=[]↔l.all (cs.contains ·)=true:=by
 unfold Lib.trimS Lib.trimLeftS
 rw[dropWhile_nil]
 unfold Lib.trimRightS
 constructor
 ·intro h
  by_cases hn:l.reverse.dropWhile (cs.contains ·)=[]
  ·rw[dropWhile_nil]at hn
   simpa using hn
  ·exfalso
   rw[List.all_reverse]at h
   obtain⟨b,r,e⟩:=List.exists_cons_of_ne_nil hn
   have h1:cs.contains b=false:=by
    have:=List.head_dropWhile_not (p:=(cs.contains ·)) (l:=l.reverse) hn
    simp only[e,List.head_cons]at this
    exact this
   rw[e]at h
   simp only[cO,au]at h
   rw[h1]at h;cases h.1
 ·intro h
  have:l.reverse.dropWhile (cs.contains ·)=[]:=by rw[dropWhile_nil];simpa using h
  rw[this];rfl
def Gy:List UInt8:=[48,49,50,51,52,53,54,55,56,57]
theorem vq(b:UInt8):Gy.contains b=gN b:=by
 have:∀n:Fin 256,Gy.contains (bb n.val)=gN (bb n.val):=by decide +kernel
 have:=this ⟨b.toNat,b.toNat_lt⟩
 simpa using this
theorem Kz(s ls:List UInt8)(lo hi:Nat)(hls:∀c:UInt8,c∈ls↔lo<=c.toNat/\c.toNat<=hi):aB Tryz.prog 99 [.v (.string (mk s)),.v (.string (mk ls))] [] (bU (.v (.bool (named lo hi s)))):=by
 refine Me _ _ ?_
 simp only[JA,↓zq,zs,ah,zt,bU]
 cases s with
 |nil=>exact⟨fun h=>by simp at h,fun _=>rfl⟩
 |
  cons c s =>
  have e1:(List.take (bQ 1) (c::s))=[c]:=rfl
  have e2:(List.take (s.length+1) (c::s)).drop (bQ 1)=s:=by simp
  simp only[aw,e1,e2]
  refine⟨fun _=>⟨fun h3=>⟨by omega,?_⟩,fun h3=>?_⟩,fun h=>by omega⟩
  ·have hl:s.length<=2:=by omega
   refine an (Mv ls c) ?_
   simp only[↓zq,zs,ah]
   have hi1:=(m9 ls c).1
   refine⟨fun h=>⟨by omega,?_⟩,fun h=>?_⟩
   ·refine an (Ih s Gy (by omega) (by decide) (by decide)) ?_
    simp only[↓zq,zs,ah,zt]
    have hc:=(hls c).1 (hi1.1 h)
    congr 2
    rw[cL,beq_iff_eq,tb]
    simp only[named,hl,hc,decide_true,bZ,and_self]
    have:(fun x=>Gy.contains x)=gN:=funext vq
    rw[this]
   ·have hc:¬(lo<=c.toNat/\c.toNat<=hi):=fun h'=>h (hi1.2 ((hls c).2 h'))
    simp only[named,hc,zf]
  ·have hl:¬s.length<=2:=by omega
   simp only[named,hl,zf]
theorem Ig(s:List UInt8):aB Tryz.prog 94 [.v (.string (mk s))] [] (bU (.v (.bool (gJ s)))):=by
 refine LS _ ?_
 unfold KW
 have h:∀n:Fin 256,(bb n.val∈[(120:UInt8),121,122])↔120<=(bb n.val).toNat/\(bb n.val).toNat<=122:=by decide +kernel
 refine an (Kz s [120,121,122] 120 122 fun c=>by simpa using h ⟨c.toNat,c.toNat_lt⟩) ?_
 simp only[↓zq,zs,ah,bU,gJ]
theorem CJ(s:List UInt8):aB Tryz.prog 86 [.v (.string (mk s))] [] (bU (.v (.bool (cU s)))):=by
 refine Mp _ ?_
 unfold IW
 have h:∀n:Fin 256,(bb n.val∈[(116:UInt8)])↔116<=(bb n.val).toNat/\(bb n.val).toNat<=116:=by decide +kernel
 refine an (Kz s [116] 116 116 fun c=>by simpa using h ⟨c.toNat,c.toNat_lt⟩) ?_
 simp only[↓zq,zs,ah,bU,cU]
end Go.Proofs.Trees
namespace Go.Proofs.Trees
open Go Go.VL
inductive Ty where
 |zero|one
 |name (s:List UInt8)
 |bound (up:Nat)
 |plus (a b:Ty)
 |times (a b:Ty)
 |rc (a:Ty)
def Ty.av:Ty->AV
 | .zero=>.ptr [.v (.int .u8 48),.v (.string (mk [])),.v (.int .i64 0),.v (.pointer none),.v (.pointer none)]
 | .one=>.ptr [.v (.int .u8 49),.v (.string (mk [])),.v (.int .i64 0),.v (.pointer none),.v (.pointer none)]
 | .name s=>.ptr [.v (.int .u8 110),.v (.string (mk s)),.v (.int .i64 0),.v (.pointer none),.v (.pointer none)]
 | .bound up=>.ptr [.v (.int .u8 98),.v (.string (mk [])),.v (.int .i64 (up:Int)),.v (.pointer none),.v (.pointer none)]
 | .plus a b=>.ptr [.v (.int .u8 43),.v (.string (mk [])),.v (.int .i64 0),a.av,b.av]
 | .times a b=>.ptr [.v (.int .u8 42),.v (.string (mk [])),.v (.int .i64 0),a.av,b.av]
 | .rc a=>.ptr [.v (.int .u8 114),.v (.string (mk [])),.v (.int .i64 0),a.av,.v (.pointer none)]
theorem bm(t:Ty):LK.has .ptr t.av=True:=by cases t<;>simp[Ty.av,gY]
theorem fW(t:Ty):t.av.isNil=false:=by cases t<;>rfl
def iX:Option Ty->AV
 |some t=>t.av
 |none=>.v (.pointer none)
theorem jQ(t:Option Ty):LK.has .ptr (iX t)=True:=by cases t<;>simp[iX,bm,j3]
def E.at:E->List UInt8
 | .atom s=>s
 | .list _=>[]
def bG(s:List UInt8)(ar:List (List UInt8)):Nat->Option Nat
 |0=>none
 |i+1=>if ar.getD i []=s then some (ar.length-1-i)else bG s ar i
def cF:E->List (List UInt8)->Option Ty
 | .atom s,ar=>if s=[48]then some .zero else if s=[49]then some .one else if gJ s=true then some (.name s)else if cU s=true then(match bG s ar ar.length with|some u=>some (.bound u)|none=>some (.name s))else none
 |
  .list [x,a,b],ar =>
  if x.at=[43]then(match cF a ar,cF b ar with|some t,some u=>some (.plus t u)|_,_=>none)
  else if x.at=[42]then(match cF a ar,cF b ar with|some t,some u=>some (.times t u)|_,_=>none)
  else if x.at=[114,101,99]then(if cU a.at=true then(match cF b (ar++[a.at])with|some t=>some (.rc t)|none=>none)else none)
  else none
 | .list _,_=>none
def bO(l:List (List UInt8)):List (List AV):=l.map fun s=>[.v (.string (mk s))]
def dT(a:AV)(l:List (List UInt8)):Prop:=LK.sl.has a/\a.elems=bO l
theorem dT.len{a:AV}{l:List (List UInt8)}(h:dT a l):a.elems.length=l.length:=by rw[h.2];simp[bO]
theorem dT.idx{a:AV}{l:List (List UInt8)}(h:dT a l){i:Nat}(hi:i<l.length):a.elems.getD i []=[.v (.string (mk (l.getD i [])))]:=by
 rw[h.2];simp[bO,aa,hi]
theorem dT.of(l:List (List UInt8)):dT (.sl (bO l)) l:=⟨(cE _).mpr trivial,rfl⟩
theorem dT.nil:dT (.v (.slice none 0 0)) []:=⟨(bp).mpr trivial,rfl⟩
theorem xE(e:E)(w:List UInt8):aB Tryz.prog 89 [e.ei,.v (.string (mk w)),.v (.int .i64 3)] [] (bU (.v (.bool (match e with| .list [x,_,_]=>x.at==w|_=>false)))):=by
 refine Hu _ _ _ ((cJ e).mpr trivial) ?_
 cases e with
 |atom s=>simp only[Af,E.ei,↓zq,zs,ah,zt,bU];exact⟨by omega,fun h=>by omega,fun _=>trivial⟩
 |
  list l =>
  simp only[Af,E.ei,↓zq,zs,ah,zt,bU,rT]
  match l with
  |[]=>exact⟨by simp,fun h=>by simp at h,fun _=>rfl⟩
  |[_]=>exact⟨by simp,fun h=>by simp at h,fun _=>rfl⟩
  |[_,_]=>exact⟨by simp,fun h=>by simp at h,fun _=>rfl⟩
  |
   [x,y,z] =>
   refine⟨by simp,fun _=>?_,fun h=>by simp at h⟩
   cases x<;>simp[E.lR,E.ei,gY,pg,jt,dU,tP,toList_mk,E.at]
  |_::_::_::_::l=>exact⟨by simp,fun h=>by simp at h;omega,fun _=>rfl⟩
theorem Kb(e:E)(a:AV)(ar:List (List UInt8))(ha:dT a ar)(hl:ar.length<1000000):∀(i:Nat),i<=ar.length->EB [e.ei,a,.v (.int .i64 ((i:Int)-1))] []
 (se (match bG e.at ar i with|some u=>(2,[],[.cells [.v (.int .u8 98),.v (.string (mk [])),.v (.int .i64 (u:Int)),.v (.pointer none),.v (.pointer none)]])|none=>(1,[e.ei],[])))
 |
  0,hi=>by
  refine Ll _ _ _ ?_
  simp only[Gx,↓zq,zs,ah,cJ]
  exact⟨ha.1,fun h=>by omega,fun _=>rfl⟩
 |
  i+1,hi=>by
  have hlt:i<ar.length:=by omega
  have e1:((i+1:Nat):Int)-1=(i:Int):=by omega
  rw[e1]
  refine Ll _ _ _ ?_
  have hd:e.ei.deref.headD .any=.v (.string (mk e.at)):=by cases e<;>rfl
  have hdl:1<=e.ei.deref.length:=by cases e<;>simp[E.ei,jt]
  simp only[Gx,↓zq,zs,ah,zt,cJ,dP,ha.len,ha.idx hlt,hd,rh]
  refine⟨ha.1,fun _=>⟨⟨ha.1,by omega,by omega⟩,by omega,hdl,fun h=>⟨ha.1,?_⟩,fun h=>?_⟩,fun h=>by omega⟩
  ·simp only[bG,h,if_true,se]
   rw[wrap64 ((ar.length:Int)-1) (by omega) (by omega),wrap64 _ (by omega) (by omega)]
   have:(ar.length:Int)-1-(i:Int)=((ar.length-1-i:Nat):Int):=by omega
   rw[this]
  ·simp only[bG,h,if_false]
   rw[wrap64 _ (by omega) (by omega)]
   exact Kb e a ar ha hl i (by omega)
end Go.Proofs.Trees
namespace Go.Proofs.Trees
open Go Go.VL
theorem nC(e:E):e.ei.deref.headD .any=.v (.string (mk e.at)):=by cases e<;>rfl
theorem lC(e:E):1<=e.ei.deref.length:=by cases e<;>simp[E.ei,jt]
theorem toNat_one:bQ 1=1:=rfl
theorem bf:bQ 2=2:=rfl
theorem Gk{ar:List (List UInt8)}(s:List UInt8):bO ar++[[.v (.string (mk s))]]=bO (ar++[s]):=by simp[bO]
theorem mo(ar:List (List UInt8)):cI 1 (bO ar):=fun c hc=>by
 obtain⟨s,_,rfl⟩:=bD.1 hc;rfl
theorem ku{x a b:E}(ar:List (List UInt8))(hx:x.at=[43]):cF (.list [x,a,b]) ar=match cF a ar,cF b ar with|some t,some u=>some (.plus t u)|_,_=>none:=by rw[cF,if_pos hx]<;>cases cF a ar<;>cases cF b ar<;>rfl
theorem jU{x a b:E}(ar:List (List UInt8))(hx:x.at=[42]):cF (.list [x,a,b]) ar=match cF a ar,cF b ar with|some t,some u=>some (.times t u)|_,_=>none:=by rw[cF,if_neg (by rw[hx];decide),if_pos hx]<;>cases cF a ar<;>cases cF b ar<;>rfl
theorem mh{x a b:E}(ar:List (List UInt8))(hx:x.at=[114,101,99]):cF (.list [x,a,b]) ar=if cU a.at=true then(match cF b (ar++[a.at])with|some t=>some (.rc t)|none=>none)else none:=by rw[cF,if_neg (by rw[hx];decide),if_neg (by rw[hx];decide),if_pos hx]<;>cases cF b (ar++[a.at])<;>rfl
theorem iQ{x a b:E}(ar:List (List UInt8))(h1:x.at≠[43])(h2:x.at≠[42])(h3:x.at≠[114,101,99]):cF (.list [x,a,b]) ar=none:=by rw[cF,if_neg h1,if_neg h2,if_neg h3]
theorem DQ:∀(e:E) (ar:List (List UInt8)) (a:AV),e.ok->dT a ar->ar.length+e.sz<100000->aB Tryz.prog 82 [e.ei,a] [] (bU (iX (cF e ar)))
 |
  .atom s,ar,a,hok,ha,hl=>by
  simp only[E.sz]at hl
  refine Hs _ _ ((cJ _).mpr trivial) ha.1 ?_
  have hd:=nC (.atom s)
  have hlen:=lC (.atom s)
  simp only[E.at]at hd
  simp only[GQ,↓zq,zs,ah,zt,bU,cJ,dP,hd,cF]
  refine⟨hlen,fun h=>⟨hlen,?_,?_⟩,fun h=>⟨hlen,fun h1=>⟨hlen,?_,?_⟩,fun h1=>⟨hlen,?_⟩⟩⟩
  ·rw[h];decide
  ·rw[if_pos h,h];rfl
  ·rw[h1];decide
  ·rw[if_neg h,if_pos h1,h1];rfl
  ·rw[if_neg h,if_neg h1]
   refine an (Ig s) ?_
   simp only[↓zq,zs,ah]
   refine⟨fun hp=>⟨hlen,?_⟩,fun hp=>⟨hlen,?_⟩⟩
   ·rw[if_pos hp];rfl
   ·rw[if_neg (by rw[hp];simp)]
    refine an (CJ s) ?_
    simp only[↓zq,zs,ah,ha.len]
    refine⟨fun hq=>⟨ha.1,?_⟩,fun hq=>?_⟩
    ·rw[if_pos hq,wrap64 _ (by omega) (by omega)]
     refine i4 (Kb (.atom s) a ar ha (by omega) ar.length (by omega)) (fun ys o e=>?_) (fun ys o e=>?_)
     ·simp only[E.at]at e
      cases hq2:bG s ar ar.length<;>rw[hq2]at e<;>cases e
      simp only[↓zq,zs,ah,zt,cJ,dP,hd]
      exact⟨hlen,rfl⟩
     ·simp only[E.at]at e
      cases hq2:bG s ar ar.length<;>rw[hq2]at e<;>cases e
      simp only[↓zq,zs,ah,zt,LK.has]
      simp[iX,Ty.av,ah,LK.has]
    ·rw[if_neg (by rw[hq];simp)]
     refine an (xE (.atom s) [43]) ?_
     simp only[↓zq,zs,ah]
     refine⟨fun h=>(by simp at h),fun _=>?_⟩
     refine an (xE (.atom s) [42]) ?_
     simp only[↓zq,zs,ah]
     refine⟨fun h=>(by simp at h),fun _=>?_⟩
     refine an (xE (.atom s) [114,101,99]) ?_
     simp only[↓zq,zs,ah]
     refine⟨fun h=>(by simp at h),fun _=>?_⟩
     trivial
 |
  .list l,ar,a,hok,ha,hl=>by
  simp only[E.sz]at hl
  refine Hs _ _ ((cJ _).mpr trivial) ha.1 ?_
  have hd:=nC (.list l)
  have hlen:=lC (.list l)
  simp only[E.at]at hd
  have hp:gJ []=false:=rfl
  have hq:cU []=false:=rfl
  simp only[GQ,↓zq,zs,ah,zt,bU,cJ,dP,hd]
  refine⟨hlen,fun h=>(by simp at h),fun h=>⟨hlen,fun h1=>(by simp at h1),fun h1=>⟨hlen,?_⟩⟩⟩
  refine an (Ig []) ?_
  simp only[↓zq,zs,ah,hp]
  refine⟨fun h=>(by simp at h),fun _=>⟨hlen,?_⟩⟩
  refine an (CJ []) ?_
  simp only[↓zq,zs,ah,hq]
  refine⟨fun h=>(by simp at h),fun _=>?_⟩
  refine an (xE (.list l) [43]) ?_
  match l,hok,hl with
  |
   [x,y,z],hok,hl =>
   simp only[E.iD]at hl
   obtain⟨ok1,ok2,ok3,_⟩:=hok
   have iy:=DQ y ar a ok2 ha (by omega)
   have iz:=DQ z ar a ok3 ha (by omega)
   have hds:((E.list [x,y,z]).ei.deref.drop 1).headD .any=.sl [[x.ei],[y.ei],[z.ei]]:=rfl
   have hdl:1<=((E.list [x,y,z]).ei.deref.drop 1).length:=by simp[E.ei,jt]
   have hxd:=nC x
   have hxl:=lC x
   have hyd:=nC y
   have hyl:=lC y
   have bin:∀(c:UInt8) (mkT:Ty->Ty->Ty),(∀t u:Ty,(mkT t u).av=.ptr [.v (.int .u8 (c.toNat:Int)),.v (.string (mk [])),.v (.int .i64 0),t.av,u.av])->x.at=[c]->bt (mk x.at) 0=(c.toNat:Int):=fun c _ _ hx=>by
    have:=lO x.at 0 (by rw[hx];simp)
    simp only[cH,cY]at this
    rw[this,hx];rfl
   simp only[↓zq,zs,ah,zt,hds,hdl,cJ,dP,toNat_one,bf,hxd,hyd,rh]
   refine⟨fun hx=>?_,fun hx=>?_⟩
   ·refine⟨by omega,by omega,?_⟩
    refine an iy ?_
    simp only[↓zq,zs,ah,jQ]
    refine⟨by omega,by omega,?_⟩
    refine an iz ?_
    have hb:=bin 43 Ty.plus (fun _ _=>rfl) hx
    rw[ku ar hx]
    simp only[↓zq,zs,ah,zt,jQ]
    cases h1:cF y ar with
    |none=>simp[iX,iE]
    |
     some t =>
     cases h2:cF z ar with
     |none=>simp[iX,iE,fW]
     |
      some u =>
      simp only[iX,fW,hb]
      refine⟨fun h=>(by cases h),fun _=>⟨fun h=>(by cases h),fun _=>⟨by omega,by omega,hxl,⟨by omega,by rw[hx];simp⟩,rfl⟩⟩⟩
   ·refine an (xE (.list [x,y,z]) [42]) ?_
    simp only[↓zq,zs,ah,hds,hdl,cJ,dP,toNat_one,bf,hxd,hyd,rh]
    refine⟨fun hx2=>?_,fun hx2=>?_⟩
    ·refine⟨by omega,by omega,?_⟩
     refine an iy ?_
     simp only[↓zq,zs,ah,jQ]
     refine⟨by omega,by omega,?_⟩
     refine an iz ?_
     have hb:=bin 42 Ty.times (fun _ _=>rfl) hx2
     rw[jU ar hx2]
     simp only[↓zq,zs,ah,zt,jQ]
     cases h1:cF y ar with
     |none=>simp[iX,iE]
     |
      some t =>
      cases h2:cF z ar with
      |none=>simp[iX,iE,fW]
      |
       some u =>
       simp only[iX,fW,hb]
       refine⟨fun h=>(by cases h),fun _=>⟨fun h=>(by cases h),fun _=>⟨by omega,by omega,hxl,⟨by omega,by rw[hx2];simp⟩,rfl⟩⟩⟩
    ·refine an (xE (.list [x,y,z]) [114,101,99]) ?_
     simp only[↓zq,zs,ah,zt,hds,hdl,cJ,dP,toNat_one,bf,hxd,hyd,rh]
     refine⟨fun hx3=>⟨by omega,by omega,hyl,?_⟩,fun hx3=>?_⟩
     ·refine an (CJ y.at) ?_
      rw[mh ar hx3]
      simp only[↓zq,zs,ah]
      have hal:cI 1 a.elems:=by rw[ha.2];exact mo ar
      have hal1:cI 1 [[AV.v (.string (mk y.at))]]:=fun c hc=>by simp at hc;rw[hc];rfl
      refine⟨fun hlo=>⟨by omega,by omega,⟨ha.1,hal,by rw[ha.len];omega⟩,by omega,by omega,hyl,⟨hal1,by rw[bg,ha.len];omega⟩,?_⟩,fun hlo=>?_⟩
      ·rw[bg,ha.2,Gk,if_pos hlo]
       refine an (DQ z (ar++[y.at]) _ ok3 (.of _) (by simp;omega)) ?_
       simp only[↓zq,zs,ah,jQ]
       cases h2:cF z (ar++[y.at])with
       |none=>simp[iX,iE]
       |
        some u =>
        simp only[iX,fW]
        refine⟨fun h=>(by cases h),fun _=>rfl⟩
      ·rw[if_neg (by rw[hlo];simp)];rfl
     ·rw[iQ ar hx hx2 hx3];rfl
  |
   [],_,_ =>
   simp only[↓zq,zs,ah]
   refine⟨fun h=>(by cases h),fun _=>?_⟩
   refine an (xE (.list []) [42]) ?_
   simp only[↓zq,zs,ah]
   refine⟨fun h=>(by cases h),fun _=>?_⟩
   refine an (xE (.list []) [114,101,99]) ?_
   simp only[↓zq,zs,ah]
   refine⟨fun h=>(by cases h),fun _=>?_⟩
   rfl
  |
   [x1],_,_ =>
   simp only[↓zq,zs,ah]
   refine⟨fun h=>(by cases h),fun _=>?_⟩
   refine an (xE (.list [x1]) [42]) ?_
   simp only[↓zq,zs,ah]
   refine⟨fun h=>(by cases h),fun _=>?_⟩
   refine an (xE (.list [x1]) [114,101,99]) ?_
   simp only[↓zq,zs,ah]
   refine⟨fun h=>(by cases h),fun _=>?_⟩
   rfl
  |
   [x1,x2],_,_ =>
   simp only[↓zq,zs,ah]
   refine⟨fun h=>(by cases h),fun _=>?_⟩
   refine an (xE (.list [x1,x2]) [42]) ?_
   simp only[↓zq,zs,ah]
   refine⟨fun h=>(by cases h),fun _=>?_⟩
   refine an (xE (.list [x1,x2]) [114,101,99]) ?_
   simp only[↓zq,zs,ah]
   refine⟨fun h=>(by cases h),fun _=>?_⟩
   rfl
  |
   x1::x2::x3::x4::l,_,_ =>
   simp only[↓zq,zs,ah]
   refine⟨fun h=>(by cases h),fun _=>?_⟩
   refine an (xE (.list (x1::x2::x3::x4::l)) [42]) ?_
   simp only[↓zq,zs,ah]
   refine⟨fun h=>(by cases h),fun _=>?_⟩
   refine an (xE (.list (x1::x2::x3::x4::l)) [114,101,99]) ?_
   simp only[↓zq,zs,ah]
   refine⟨fun h=>(by cases h),fun _=>?_⟩
   rfl
end Go.Proofs.Trees
namespace Go.Proofs.Trees
open Go Go.VL
def fZ(v:AV)(obs:List Ob):AV->List Ob->Prop:=fun r o=>r=v/\o=obs
theorem bJ{P:Program}{n:Nat}{Q:Nat->List AV->List Ob->Prop}{f:Nat}{xs:List AV}{ins:List Ob}{k:AV->List Ob->Tree}{v:AV}{obs:List Ob}(h:aB P f xs ins (fZ v obs))(hk:eH P n (k v obs) Q):eH P n (.call f xs ins k) Q :=
 ⟨fZ v obs,h,⟨v,obs,rfl,rfl⟩,fun r o ⟨h1,h2⟩=>by rw[h1,h2];exact hk⟩
def Ty.atoms:Ty->Nat
 | .plus a b=>1+a.atoms+b.atoms
 | .times a b=>1+a.atoms+b.atoms
 | .rc a=>2+a.atoms
 |_=>1
theorem Hf:∀(t:Ty),t.atoms<1000000->aB Tryz.prog 83 [t.av] [] (bU (.v (.int .i64 (t.atoms:Int))))
 | .zero,h=>by refine EZ _ ((bm _).mpr trivial) ?_;simp[D8,Ty.av,↓zq,zs,ah,bU,Ty.atoms]
 | .one,h=>by refine EZ _ ((bm _).mpr trivial) ?_;simp[D8,Ty.av,↓zq,zs,ah,bU,Ty.atoms]
 | .name s,h=>by refine EZ _ ((bm _).mpr trivial) ?_;simp[D8,Ty.av,↓zq,zs,ah,bU,Ty.atoms]
 | .bound u,h=>by refine EZ _ ((bm _).mpr trivial) ?_;simp[D8,Ty.av,↓zq,zs,ah,bU,Ty.atoms]
 |
  .plus a b,h=>by
  simp only[Ty.atoms]at h
  refine EZ _ ((bm _).mpr trivial) ?_
  simp only[D8,Ty.av,↓zq,zs,ah,bm]
  refine⟨by omega,fun _=>⟨by omega,?_⟩,fun h=>absurd rfl h⟩
  refine an (Hf a (by omega)) ?_
  simp only[↓zq,zs,ah,bm]
  refine⟨by omega,?_⟩
  refine an (Hf b (by omega)) ?_
  simp only[↓zq,zs,ah,bU,Ty.atoms]
  rw[wrap64 (1+(a.atoms:Int)) (by omega) (by omega),wrap64 _ (by omega) (by omega)]
  congr 2
 |
  .times a b,h=>by
  simp only[Ty.atoms]at h
  refine EZ _ ((bm _).mpr trivial) ?_
  simp only[D8,Ty.av,↓zq,zs,ah,bm]
  refine⟨by omega,fun h=>by omega,fun _=>⟨fun _=>⟨by omega,?_⟩,fun h=>absurd rfl h⟩⟩
  refine an (Hf a (by omega)) ?_
  simp only[↓zq,zs,ah,bm]
  refine⟨by omega,?_⟩
  refine an (Hf b (by omega)) ?_
  simp only[↓zq,zs,ah,bU,Ty.atoms]
  rw[wrap64 (1+(a.atoms:Int)) (by omega) (by omega),wrap64 _ (by omega) (by omega)]
  congr 2
 |
  .rc a,h=>by
  simp only[Ty.atoms]at h
  refine EZ _ ((bm _).mpr trivial) ?_
  simp only[D8,Ty.av,↓zq,zs,ah,bm]
  refine⟨by omega,fun h=>by omega,fun _=>⟨fun h=>by omega,fun _=>⟨fun _=>⟨by omega,?_⟩,fun h=>absurd rfl h⟩⟩⟩
  refine an (Hf a (by omega)) ?_
  simp only[↓zq,zs,ah,bU,Ty.atoms]
  rw[wrap64 _ (by omega) (by omega)]
  congr 2
theorem iL:∀(e:E) (ar:List (List UInt8)) (t:Ty),cF e ar=some t->t.atoms<=e.sz
 |
  .atom s,ar,t,h=>by
  simp only[cF]at h
  simp only[E.sz]
  split at h
  ·cases h;simp[Ty.atoms]
  ·split at h
   ·cases h;simp[Ty.atoms]
   ·split at h
    ·cases h;simp[Ty.atoms]
    ·split at h
     ·split at h<;>cases h<;>simp[Ty.atoms]
     ·cases h
 |
  .list [x,a,b],ar,t,h=>by
  have hs:∀e:E,1<=e.sz:=fun e=>by cases e<;>simp[E.sz];try omega
  have hx:=hs x
  have ha:=hs a
  simp only[E.sz,E.iD]
  by_cases h1:x.at=[43]
  ·rw[ku ar h1]at h
   split at h
   ·rename_i t1 t2 e1 e2
    cases h
    have:=iL a ar t1 e1
    have:=iL b ar t2 e2
    simp only[Ty.atoms];omega
   ·cases h
  ·by_cases h2:x.at=[42]
   ·rw[jU ar h2]at h
    split at h
    ·rename_i t1 t2 e1 e2
     cases h
     have:=iL a ar t1 e1
     have:=iL b ar t2 e2
     simp only[Ty.atoms];omega
    ·cases h
   ·by_cases h3:x.at=[114,101,99]
    ·rw[mh ar h3]at h
     split at h
     ·split at h
      ·rename_i t1 e1
       cases h
       have:=iL b _ t1 e1
       simp only[Ty.atoms];omega
      ·cases h
     ·cases h
    ·rw[iQ ar h1 h2 h3]at h;cases h
 | .list [],_,_,h=>by cases h
 | .list [_],_,_,h=>by cases h
 | .list [_,_],_,_,h=>by cases h
 | .list (_::_::_::_::_),_,_,h=>by cases h
def vz(s:List UInt8):Option Ty:=match qv s with
 |none=>none
 |
  some e=>match cF e []with
  |none=>none
  |some t=>if t.atoms>400 then none else some t
theorem Ny(s:List UInt8):aB Tryz.prog 68 [.v (.string (mk s))] [] (bU (iX (vz s))):=by
 refine MY _ ?_
 unfold Ie
 refine an (IK s) ?_
 unfold vz
 cases he:qv s with
 |none=>simp only[ub,↓zq,zs,ah,bU,iX];simp
 |
  some e =>
  obtain⟨h1,h2⟩:=ny he
  simp only[ub,↓zq,zs,ah,cJ,dP]
  refine⟨fun h=>(by cases h),fun _=>?_⟩
  refine an (DQ e [] _ h1 .nil (by simp;omega)) ?_
  cases ht:cF e []with
  |none=>simp only[iX,↓zq,zs,ah,bU];simp
  |
   some t =>
   have:=iL e [] t ht
   simp only[iX,↓zq,zs,ah,bm,fW]
   refine⟨fun h=>(by cases h),fun _=>?_⟩
   refine an (Hf t (by omega)) ?_
   simp only[↓zq,zs,ah,bU]
   refine⟨fun h=>?_,fun h=>?_⟩
   ·rw[if_pos (by omega)]
   ·rw[if_neg (by omega)]
end Go.Proofs.Trees
namespace Go.Proofs.Trees
open Go Go.VL
def Ak(p:Prop):Nat->List AV->List Ob->Prop:=fun t ys o=>(t=1/\¬p/\ys=[]/\o=[])\/(t=2/\p/\∃j:Nat,ys=[.v (.int .i64 (j:Int))]/\o=[])
theorem Jt(l:List (List UInt8))(a:AV)(ha:dT a l)(s:List UInt8)(hl:l.length<1000000):∀(k i:Nat),i+k=l.length->s∉l.take i->G3 [a,.v (.string (mk s)),.v (.int .i64 (l.length:Int)),.v (.int .i64 (i:Int))] []
 (Ak (s∈l))
 |
  0,i,hi,hn=>by
  refine II _ _ _ _ ?_
  simp only[EC,↓zq,zs,ah]
  have:l.take i=l:=List.take_of_length_le (by omega)
  rw[this]at hn
  exact⟨ha.1,fun h=>by omega,fun _=>.inl ⟨rfl,hn,rfl,rfl⟩⟩
 |
  k+1,i,hi,hn=>by
  have hlt:i<l.length:=by omega
  refine II _ _ _ _ ?_
  simp only[EC,↓zq,zs,ah,zt,ha.len,ha.idx hlt]
  have hm:l.getD i []∈l:=by simp[aa,hlt]
  refine⟨ha.1,fun _=>⟨⟨ha.1,by omega,by omega⟩,by omega,fun h=>?_,fun h=>?_⟩,fun h=>by omega⟩
  ·exact .inr ⟨rfl,by rw[h];exact hm,i,rfl,rfl⟩
  ·rw[bX i (by omega)]
   refine Jt l a ha s hl k (i+1) (by omega) ?_
   rw[List.take_add_one]
   simp only[aH,not_or]
   refine⟨hn,?_⟩
   have:l[i]?=some (l.getD i []):=by simp[aa,hlt]
   rw[this];simpa using h
theorem Nn(l:List (List UInt8))(a:AV)(ha:dT a l)(s:List UInt8)(hl:l.length<1000000):aB Tryz.prog 98 [a,.v (.string (mk s))] [] (bU (.v (.bool (decide (s∈l))))):=by
 have hI:aB Tryz.prog 107 [a,.v (.string (mk s))] [] (fun r o=>∃n:Int,r=.v (.int .i64 n)/\(0<=n↔s∈l)/\o=[]):=by
  refine M7 _ _ ha.1 ?_
  simp only[KY,↓zq,zs,ah,ha.len]
  refine⟨ha.1,n0 (Jt l a ha s hl l.length 0 (by omega) (by simp)) ?_ ?_⟩
  ·rintro ys o (⟨_,h1,rfl,rfl⟩|⟨h,_⟩)
   ·simp only[↓zq,zs,ah]
    exact⟨-1,rfl,⟨fun h=>(by omega),fun h=>absurd h h1⟩⟩
   ·cases h
  ·rintro ys o (⟨h,_⟩|⟨_,h1,j,rfl,rfl⟩)
   ·cases h
   ·simp only[↓zq,zs,ah]
    exact⟨j,rfl,⟨fun _=>h1,fun _=>(by omega)⟩⟩
 refine NX _ _ ha.1 ?_
 unfold Lj
 refine aU hI ⟨.v (.int .i64 (if s∈l then 0 else -1)),[],_,rfl,by split<;>simp_all,rfl⟩ ?_
 rintro r o ⟨n,rfl,hn,rfl⟩
 simp only[↓zq,zs,ah,bU]
 congr 2
 rw[cL];simp[hn]
def pk(out:List (List UInt8)):Ty->List (List UInt8)
 | .name s=>if s∈out then out else out++[s]
 |_=>out
theorem Ev(t:Ty)(out:List (List UInt8))(hl:out.length<100000):aB Tryz.prog 97 [t.av,.ref 0 0] [.cells [.vec 1],.vec 1 (bO out)] (fZ .any [.cells [.vec 1],.vec 1 (bO (pk out t))]):=by
 refine N1 _ _ ((bm _).mpr trivial) ?_
 have hlen:(bO out).length=out.length:=by simp[bO]
 cases t with
 |
  name s =>
  simp only[EW,Ty.av,↓zq,zs,ah,fZ,hlen]
  refine⟨by omega,fun _=>⟨by omega,?_⟩,fun h=>absurd rfl h⟩
  refine an (Nn out _ (.of out) s (by omega)) ?_
  simp only[↓zq,zs,ah,pk]
  refine⟨fun h=>⟨by omega,⟨fun c hc=>(by simp at hc;rw[hc];rfl),by omega⟩,?_⟩,fun h=>?_⟩
  ·rw[Gk,if_neg h]
  ·rw[if_pos h]
 |_=>simp[EW,Ty.av,↓zq,zs,ah,fZ,pk]
def bK:Ty->List (List UInt8)->List (List UInt8)
 | .name s,out=>pk out (.name s)
 | .plus a b,out=>bK b (bK a out)
 | .times a b,out=>bK b (bK a out)
 | .rc a,out=>bK a out
 |_,out=>out
theorem eW:∀(t:Ty) (out:List (List UInt8)),(bK t out).length<=out.length+t.atoms
 | .name s,out=>by simp only[bK,pk,Ty.atoms];split<;>simp
 |
  .plus a b,out=>by
  have:=eW a out
  have:=eW b (bK a out)
  simp only[bK,Ty.atoms];omega
 |
  .times a b,out=>by
  have:=eW a out
  have:=eW b (bK a out)
  simp only[bK,Ty.atoms];omega
 |
  .rc a,out=>by
  have:=eW a out
  simp only[bK,Ty.atoms];omega
 | .zero,out=>by simp[bK]
 | .one,out=>by simp[bK]
 | .bound u,out=>by simp[bK]
theorem Hp:∀(t:Ty) (out:List (List UInt8)),out.length+t.atoms<100000->aB Tryz.prog 96 [t.av,.fn 97 [.ref 0 0]] [.cells [.vec 1],.vec 1 (bO out)] (fZ .any [.cells [.vec 1],.vec 1 (bO (bK t out))])
 |
  .plus a b,out,hl=>by
  simp only[Ty.atoms]at hl
  have:=eW a out
  refine FN _ _ ((bm _).mpr trivial) ?_
  unfold Ef
  refine bJ (Ev (.plus a b) out (by omega)) ?_
  simp only[Ty.av,↓zq,zs,ah,bm,fW,pk,aO,fZ]
  refine⟨by omega,fun _=>⟨by omega,?_⟩,fun h=>(by cases h)⟩
  refine bJ (Hp a out (by omega)) ?_
  simp only[↓zq,zs,ah,bm,fW,aO]
  refine⟨by omega,fun _=>⟨by omega,?_⟩,fun h=>(by cases h)⟩
  refine bJ (Hp b (bK a out) (by omega)) ?_
  simp only[↓zq,zs,ah,aO,bK]
 |
  .times a b,out,hl=>by
  simp only[Ty.atoms]at hl
  have:=eW a out
  refine FN _ _ ((bm _).mpr trivial) ?_
  unfold Ef
  refine bJ (Ev (.times a b) out (by omega)) ?_
  simp only[Ty.av,↓zq,zs,ah,bm,fW,pk,aO,fZ]
  refine⟨by omega,fun _=>⟨by omega,?_⟩,fun h=>(by cases h)⟩
  refine bJ (Hp a out (by omega)) ?_
  simp only[↓zq,zs,ah,bm,fW,aO]
  refine⟨by omega,fun _=>⟨by omega,?_⟩,fun h=>(by cases h)⟩
  refine bJ (Hp b (bK a out) (by omega)) ?_
  simp only[↓zq,zs,ah,aO,bK]
 |
  .rc a,out,hl=>by
  simp only[Ty.atoms]at hl
  refine FN _ _ ((bm _).mpr trivial) ?_
  unfold Ef
  refine bJ (Ev (.rc a) out (by omega)) ?_
  simp only[Ty.av,↓zq,zs,ah,bm,fW,pk,aO,fZ]
  refine⟨by omega,fun _=>⟨by omega,?_⟩,fun h=>(by cases h)⟩
  refine bJ (Hp a out (by omega)) ?_
  simp[↓zq,zs,ah,bm,fW,aO,bK]
 |
  .name s,out,hl=>by
  refine FN _ _ ((bm _).mpr trivial) ?_
  unfold Ef
  refine bJ (Ev (.name s) out (by omega)) ?_
  simp[Ty.av,↓zq,zs,ah,aO,fZ,bK]
 |
  .zero,out,hl=>by
  refine FN _ _ ((bm _).mpr trivial) ?_
  unfold Ef
  refine bJ (Ev .zero out (by omega)) ?_
  simp[Ty.av,↓zq,zs,ah,aO,fZ,bK,pk]
 |
  .one,out,hl=>by
  refine FN _ _ ((bm _).mpr trivial) ?_
  unfold Ef
  refine bJ (Ev .one out (by omega)) ?_
  simp[Ty.av,↓zq,zs,ah,aO,fZ,bK,pk]
 |
  .bound u,out,hl=>by
  refine FN _ _ ((bm _).mpr trivial) ?_
  unfold Ef
  refine bJ (Ev (.bound u) out (by omega)) ?_
  simp[Ty.av,↓zq,zs,ah,aO,fZ,bK,pk]
theorem MF(t:Ty)(hl:t.atoms<100000):aB Tryz.prog 85 [t.av] [] (bU (.sl (bO (bK t [])))):=by
 refine N8 _ ((bm _).mpr trivial) ?_
 unfold Ln
 refine bJ (Hp t [] (by simpa using hl)) ?_
 simp[↓zq,zs,ah,aO,bU]
theorem Iu(l:List (List UInt8))(a:AV)(ha:dT a l)(hl:l.length<1000000):∀(k i:Nat),i+k=l.length->(∀s,s∈l.take i->cU s=false)->Fv [a,.v (.func (.func 86) #[] #[]),.v (.int .i64 (l.length:Int)),.v (.int .i64 (i:Int))] []
 (Ak (l.any cU=true))
 |
  0,i,hi,hn=>by
  refine Jj _ _ _ ?_
  simp only[Eu,↓zq,zs,ah]
  have:l.take i=l:=List.take_of_length_le (by omega)
  rw[this]at hn
  exact⟨ha.1,fun h=>by omega,fun _=>.inl ⟨rfl,fun hh=>(by obtain⟨x,hx,hy⟩:=bT.1 hh;rw[hn x hx]at hy;cases hy),rfl,rfl⟩⟩
 |
  k+1,i,hi,hn=>by
  have hlt:i<l.length:=by omega
  refine Jj _ _ _ ?_
  simp only[Eu,↓zq,zs,ah,zt,ha.len,ha.idx hlt]
  have hm:l.getD i []∈l:=by simp[aa,hlt]
  refine⟨ha.1,fun _=>⟨⟨ha.1,by omega,by omega⟩,by omega,?_⟩,fun h=>by omega⟩
  refine an (CJ _) ?_
  simp only[↓zq,zs,ah]
  refine⟨fun h=>?_,fun h=>?_⟩
  ·exact .inr ⟨rfl,bT.2 ⟨_,hm,h⟩,i,rfl,rfl⟩
  ·rw[bX i (by omega)]
   refine Iu l a ha hl k (i+1) (by omega) ?_
   intro s hs
   rw[List.take_add_one]at hs
   have:l[i]?=some (l.getD i []):=by simp[aa,hlt]
   rw[this]at hs
   rcases aH.1 hs with hs|hs
   ·exact hn s hs
   ·simp at hs;rw[hs];simpa using h
theorem MN(l:List (List UInt8))(a:AV)(ha:dT a l)(hl:l.length<1000000):aB Tryz.prog 84 [a,.v (.func (.func 86) #[] #[])] [] (bU (.v (.bool (l.any cU)))):=by
 have hI:aB Tryz.prog 95 [a,.v (.func (.func 86) #[] #[])] [] (fun r o=>∃n:Int,r=.v (.int .i64 n)/\(0<=n↔l.any cU=true)/\o=[]):=by
  refine Mr _ ha.1 ?_
  simp only[Iq,↓zq,zs,ah,ha.len]
  refine⟨ha.1,n0 (Iu l a ha hl l.length 0 (by omega) (by simp)) ?_ ?_⟩
  ·rintro ys o (⟨_,h1,rfl,rfl⟩|⟨h,_⟩)
   ·simp only[↓zq,zs,ah]
    exact⟨-1,rfl,⟨fun h=>(by omega),fun h=>absurd h h1⟩⟩
   ·cases h
  ·rintro ys o (⟨h,_⟩|⟨_,h1,j,rfl,rfl⟩)
   ·cases h
   ·simp only[↓zq,zs,ah]
    exact⟨j,rfl,⟨fun _=>h1,fun _=>(by omega)⟩⟩
 refine Ni _ ha.1 ?_
 unfold KH
 refine aU hI ⟨.v (.int .i64 (if l.any cU=true then 0 else -1)),[],_,rfl,by split<;>simp_all,rfl⟩ ?_
 rintro r o ⟨n,rfl,hn,rfl⟩
 simp only[↓zq,zs,ah,bU]
 congr 2
 rw[cL];simp only[decide_eq_true_eq,ge_iff_le,hn]
def Ty.closed(t:Ty):Bool:=!((bK t []).any cU)
theorem Mj(t:Ty)(hl:t.atoms<100000):aB Tryz.prog 69 [t.av] [] (bU (.v (.bool t.closed))):=by
 refine Ns _ ((bm _).mpr trivial) ?_
 unfold HZ
 refine an (MF t hl) ?_
 simp only[↓zq,zs,ah]
 have:=eW t []
 refine an (MN _ _ (.of _) (by simp at this;omega)) ?_
 simp only[↓zq,zs,ah,bU,Ty.closed]
def wJ(s:List UInt8):Option Ty:=match vz s with
 |none=>none
 |some t=>if t.closed=true then some t else none
theorem yP{s:List UInt8}{t:Ty}(h:vz s=some t):t.atoms<=400:=by
 unfold vz at h
 split at h
 ·cases h
 ·split at h
  ·cases h
  ·split at h<;>cases h
   omega
theorem HI(s:List UInt8):aB Tryz.prog 49 [.v (.string (mk s))] [] (bU (iX (wJ s))):=by
 refine Mg _ ?_
 unfold Kt
 refine an (Ny s) ?_
 unfold wJ
 cases ht:vz s with
 |none=>simp[iX,↓zq,zs,ah,bU]
 |
  some t =>
  have:=yP ht
  simp only[iX,↓zq,zs,ah,bm,fW]
  refine⟨fun h=>(by cases h),fun _=>?_⟩
  refine an (Mj t (by omega)) ?_
  simp only[↓zq,zs,ah,bU]
  refine⟨fun h=>?_,fun h=>?_⟩
  ·rw[if_neg (by rw[h];simp)]
  ·rw[if_pos h]
theorem iu(l:List (List UInt8)):∀x,x∈[Ob.vec 1 (bO l)]->jq x:=by
 intro x hx
 simp only[aQ]at hx
 subst hx
 intro e he c hc
 simp only[bO,bD]at he
 obtain⟨k,_,rfl⟩:=he
 simp only[aQ]at hc
 exact⟨_,hc⟩
end Go.Proofs.Trees
namespace Go.Proofs.Trees
open Go Go.VL
theorem Mb(b:UInt8):aB Tryz.prog 77 [.v (.int .u8 (b.toNat:Int))] [] (bU (.v (.bool (eK b)))):=by
 refine Ng _ ?_
 simp only[KA,↓zq,zs,ah,bU,eK]
 repeat' (apply aG<;>intro _)
 all_goals first|(congr 2;rw[cL];simp;omega)|(congr 2;simp;omega)
def Dn(s:List UInt8)(x:Option (E×List UInt8)):AV->List Ob->Prop:=fun r o=>o=[] /\
 match x with
 |some (e,u)=>r=.cP [e.kh,.v (.int .i64 ((s.length-u.length:Nat):Int))]
 |none=>∃(c:List UInt8) (d:AV),LK.sl.has d/\r=.cP [.agg [.v (.string (mk c)),d],.v (.int .i64 (-1))]
theorem Dn.ne(s:List UInt8)(x:Option (E×List UInt8)):∃r o,Dn s x r o:=by
 cases x with
 |some q=>exact⟨_,_,rfl,rfl⟩
 |none=>exact⟨_,_,rfl,[],.v (.slice none 0 0),(bp).mpr trivial,rfl⟩
def jc(c:List UInt8)(d:AV):Ob:=.cells [.v (.string (mk c)),d]
theorem Lr(s:List UInt8)(hs:s.length<=8000)(from_:Int)(c1 c2:List UInt8)(d1 d2:AV)(h1:LK.sl.has d1)(h2:LK.sl.has d2):∀(k i:Nat),i+k=s.length->EU [.v (.string (mk s)),.v (.int .i64 (i:Int)),.v (.int .i64 from_)] [jc c1 d1,jc c2 d2]
 (kl 1 [.v (.string (mk s)),.v (.int .i64 ((i+((s.drop i).takeWhile eK).length:Nat):Int)),.v (.int .i64 from_)] [jc c1 d1,jc c2 d2])
 |
  0,i,hi=>by
  refine Lq _ _ _ _ _ _ _ ?_
  have hd:s.drop i=[]:=bx (by omega)
  simp only[FE,↓zq,zs,ah,zt]
  exact⟨h1,h2,fun h=>by omega,fun _=>by simp[kl,hd,jc]⟩
 |
  k+1,i,hi=>by
  have hlt:i<s.length:=by omega
  refine Lq _ _ _ _ _ _ _ ?_
  simp only[FE,↓zq,zs,ah,zt,lO s i hlt]
  refine⟨h1,h2,fun _=>⟨by omega,?_⟩,fun h=>by omega⟩
  refine an (Mb _) ?_
  simp only[↓zq,zs,ah]
  refine⟨fun hb=>?_,fun hb=>?_⟩
  ·rw[bX i (by omega)]
   have:=Lr s hs from_ c1 c2 d1 d2 h1 h2 k (i+1) (by omega)
   rw[w4 hlt hb,show i+(((s.drop (i+1)).takeWhile eK).length+1)=i+1+((s.drop (i+1)).takeWhile eK).length by omega]
   exact this
  ·simp[kl,qk hlt hb,jc]
def OP(s:List UInt8)(x:Option (E×List UInt8)):Nat->List AV->List Ob->Prop:=fun t ys o=>t=2 /\
 match x with
 |some (e,u)=>∃l,e=.list l/\ys=[.v (.int .i64 ((s.length-u.length:Nat):Int))]/\o=[jc [] .any,.vec 2 (E.bj l)]
 |none=>∃es,ys=[.v (.int .i64 (-1))]/\o=[jc [] .any,.vec 2 es]
theorem yq(e:E):(e.kh=.agg e.kh.cs/\e.kh.cs.length=2/\cc [.str,.sl] e.kh.cs 0)=True:=by
 apply eq_true
 cases e<;>simp[E.kh,E.gU,AJ,cc,dU,bp,cE]
theorem v7(e:E):[AV.v (.string ((e.kh.cs.getD 0 .any).toStr)),e.kh.cs.getD 1 .any]=e.gU:=by
 cases e<;>rfl
theorem drop_cons{s:List UInt8}{j:Nat}(hj:j<s.length):s.drop j=s.getD j 0::s.drop (j+1):=by
 rw[aP hj];simp[aa,hj]
theorem IX(s:List UInt8)(hs:s.length<=8000)(d:Nat)(hd:d<=300)(f:List UInt8->Option (E×List UInt8))(hf:∀u e r,f u=some (e,r)->∃j,r=u.drop j/\0<j/\j<=u.length)
 (ih:∀j,j<=s.length->aB Tryz.prog 59 [.v (.string (mk s)),.v (.int .i64 (j:Int)),.v (.int .i64 ((d+1:Nat):Int))] [] (Dn s (f (s.drop j)))) :
 ∀(n i:Nat) (acc:List E) (c1:List UInt8) (d1:AV),LK.sl.has d1->s.length-(i+1)<n->i<s.length->s.length-i+acc.length<=8001->EY [.v (.string (mk s)),.v (.int .i64 (i:Int)),.v (.int .i64 (d:Int))] [jc c1 d1,jc [] .any,.vec 2 (E.bj acc)]
  (OP s (rU f n (s.drop (i+1)) acc))
 |0,i,acc,c1,d1,h1,hn,_,_=>by omega
 |
  n+1,i,acc,c1,d1,h1,hn,hi,hl=>by
  refine NQ _ _ _ _ _ _ _ ?_
  simp only[Lf,↓zq,zs,ah,jc]
  refine⟨h1,?_⟩
  rw[bX i (by omega),bX d (by omega)]
  refine aU (ih (i+1) (by omega)) (Dn.ne _ _) ?_
  rintro r o ⟨rfl,hr⟩
  have hff:=hf (s.drop (i+1))
  unfold rU
  cases hq:f (s.drop (i+1))with
  |
   none =>
   rw[hq]at hr
   obtain⟨c,d',hd',rfl⟩:=hr
   simp only[↓zq,zs,ah,zt,cc]
   refine⟨hd',fun _=>⟨rfl,_,rfl,rfl⟩,fun h=>by omega⟩
  |
   some q =>
   obtain⟨e,u⟩:=q
   rw[hq]at hr
   subst hr
   obtain⟨j,hu,hj0,hj⟩:=hff e u hq
   rw[List.drop_drop]at hu
   simp only[bI]at hj
   have hul:u.length=s.length-(i+1+j):=by rw[hu,bI]
   have hpos:s.length-u.length=i+1+j:=by omega
   simp only[↓zq,zs,ah,zt,yq,hpos,v7,dM]
   refine⟨fun h=>by omega,fun _=>⟨fun h=>?_,fun h=>⟨⟨fun c hc=>(by simp at hc;rw[hc];cases e<;>rfl),by omega⟩,?_⟩⟩⟩
   ·have:u=[]:=by rw[hu];exact bx (by omega)
    subst this
    exact⟨rfl,_,rfl,rfl⟩
   ·have hlt:i+1+j<s.length:=by omega
    rw[drop_cons hlt]at hu
    subst hu
    rw[lO s _ hlt]
    generalize hb:s.getD (i+1+j) 0=b
    refine⟨by omega,fun h41=>?_,fun h41=>⟨by omega,fun h32=>?_,fun h32=>?_⟩⟩
    ·have h41':b.toNat=41:=by omega
     dsimp only
     rw[if_pos h41',bX _ (by omega)]
     refine⟨rfl,acc++[e],rfl,?_,?_⟩
     ·rw[bI];congr 3;omega
     ·simp[jc,pV,E.bj]
    ·have h41':¬b.toNat=41:=by omega
     have h32':¬b.toNat=32:=by omega
     dsimp only
     rw[if_neg h41',if_neg h32']
     exact⟨rfl,_,rfl,rfl⟩
    ·have h41':¬b.toNat=41:=by omega
     have h32':b.toNat=32:=by omega
     dsimp only
     rw[if_neg h41',if_pos h32']
     have:=IX s hs d hd f hf ih n (i+1+j) (acc++[e]) c1 d1 h1 (by omega) hlt (by simp;omega)
     simpa[jc,pV,E.bj]using this
theorem Cf(k:Nat)(u:List UInt8)(e:E)(r:List UInt8)(h:rd k u=some (e,r)):∃j,r=u.drop j/\0<j/\j<=u.length:=by
 have suf:∀(k:Nat) (u:List UInt8) (e:E) (r:List UInt8),rd k u=some (e,r)->r <:+ u:=by
  intro k
  have tw:∀u:List UInt8,u.dropWhile eK <:+ u:=fun u=>List.dropWhile_suffix _
  have ll:∀(f:List UInt8->Option (E×List UInt8)),(∀u e r,f u=some (e,r)->r <:+ u)->∀(n:Nat) (u:List UInt8) (acc:List E) (e:E) (r:List UInt8),rU f n u acc=some (e,r)->r <:+ u:=by
   intro f hf n
   induction n with
   |zero=>intro u acc e r h;cases h
   |
    succ n ih =>
    intro u acc e r h
    simp only[rU]at h
    split at h
    ·rename_i p c r' hs
     have h1:r' <:+ u:=(List.suffix_cons c r').trans (hf _ _ _ hs)
     split at h
     ·cases h;exact h1
     ·split at h
      ·exact(ih _ _ _ _ h).trans h1
      ·cases h
    ·cases h
  induction k with
  |
   zero =>
   intro u e r h
   simp only[rd]at h
   split at h
   ·cases h
   ·cases h;exact tw u
  |
   succ k ih =>
   intro u e r h
   simp only[rd]at h
   split at h
   ·split at h
    ·split at h
     ·exact(ll _ ih _ _ _ _ _ h).trans (List.suffix_cons _ _)
     ·cases h
    ·cases h
   ·cases h;exact tw u
 obtain⟨p,hp⟩:=suf k u e r h
 have hlt:=xF k u e r h
 have:=congrArg dX hp
 simp only[ak]at this
 exact⟨p.length,by rw[<-hp];simp,by omega,by omega⟩
theorem AG(n:Nat)(u:List UInt8)(acc:List E):rU (fun _=>none) n u acc=none:=by
 cases n<;>rfl
theorem MV(s:List UInt8)(j:Nat):aB Tryz.prog 59 [.v (.string (mk s)),.v (.int .i64 (j:Int)),.v (.int .i64 ((300+1:Nat):Int))] [] (Dn s none):=by
 refine HO _ _ _ ?_
 simp only[E7,↓zq,zs,ah]
 exact⟨fun _=>⟨rfl,[],_,(bp).mpr trivial,rfl⟩,fun h=>by omega⟩
theorem pX(s:List UInt8)(hs:s.length<=8000)(d i:Nat)(hd:d<=300)(hi:i<=s.length)(f:List UInt8->Option (E×List UInt8))(hf:∀u e r,f u=some (e,r)->∃j,r=u.drop j/\0<j/\j<=u.length)
 (ih:∀j,j<=s.length->aB Tryz.prog 59 [.v (.string (mk s)),.v (.int .i64 (j:Int)),.v (.int .i64 ((d+1:Nat):Int))] [] (Dn s (f (s.drop j)))) (x:Option (E×List UInt8))
 (h0:i=s.length->x=none)
 (h1:i<s.length->(s.drop i).takeWhile eK≠[]->x=some (.atom ((s.drop i).takeWhile eK),(s.drop i).dropWhile eK))
 (h2:i<s.length->(s.drop i).takeWhile eK=[]->¬(s.getD i 0).toNat=40->x=none)
 (h3:i<s.length->(s.getD i 0).toNat=40->x=rU f (s.length-(i+1)+1) (s.drop (i+1)) []) :
 aB Tryz.prog 59 [.v (.string (mk s)),.v (.int .i64 (i:Int)),.v (.int .i64 (d:Int))] [] (Dn s x):=by
 refine HO _ _ _ ?_
 simp only[E7,↓zq,zs,ah,zt]
 refine⟨fun h=>by omega,fun _=>⟨fun h=>?_,fun h=>⟨by omega,?_⟩⟩⟩
 ·rw[h0 (by omega)]
  exact⟨rfl,[],_,(bp).mpr trivial,rfl⟩
 ·have hlt:i<s.length:=by omega
  rw[lO s i hlt]
  refine⟨fun h40=>?_,fun h40=>?_⟩
  ·have h40':¬(s.getD i 0).toNat=40:=by omega
   refine db (Lr s hs _ [] [] _ _ ((bp).mpr trivial) ((bp).mpr trivial) (s.length-i) i (by omega)) ?_
   have hex:(List.take (i+((s.drop i).takeWhile eK).length) s).drop i=(s.drop i).takeWhile eK:=by
    rw[List.drop_take,Nat.add_sub_cancel_left];exact uh _
   have hle:i+((s.drop i).takeWhile eK).length<=s.length:=by
    have:=tM (s.drop i);simp only[bI]at this;omega
   simp only[jc,↓zq,zs,ah,zt,hex]
   refine⟨by omega,fun hnil=>?_,fun hnil=>?_⟩
   ·rw[h2 hlt hnil h40',hnil]
    exact⟨rfl,[],_,(bp).mpr trivial,rfl⟩
   ·rw[h1 hlt hnil]
    refine⟨rfl,?_⟩
    have:=tM (s.drop i)
    simp only[bI]at this
    show _=AV.cP [E.kh (.atom _),_]
    have e:s.length-((s.drop i).dropWhile eK).length=i+((s.drop i).takeWhile eK).length:=by omega
    rw[e];rfl
  ·have h40':(s.getD i 0).toNat=40:=by omega
   rw[h3 hlt h40']
   refine n0 (IX s hs d hd f hf ih (s.length-(i+1)+1) i [] [] _ ((bp).mpr trivial) (by omega) hlt (by simp;omega)) ?_ ?_
   ·rintro ys o ⟨h,_⟩;cases h
   ·rintro ys o ⟨_,hr⟩
    cases hq:rU f (s.length-(i+1)+1) (s.drop (i+1)) []with
    |
     none =>
     rw[hq]at hr
     obtain⟨es,rfl,rfl⟩:=hr
     simp only[jc,↓zq,zs,ah]
     exact⟨rfl,[],_,(cE _).mpr trivial,rfl⟩
    |
     some q =>
     obtain⟨e,u⟩:=q
     rw[hq]at hr
     obtain⟨l,rfl,rfl,rfl⟩:=hr
     simp only[jc,↓zq,zs,ah]
     exact⟨rfl,rfl⟩
end Go.Proofs.Trees
