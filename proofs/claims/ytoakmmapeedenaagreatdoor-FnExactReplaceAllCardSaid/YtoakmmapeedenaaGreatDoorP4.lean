/-
  Part of a proof: Go functions read by values, trees of functions, their contracts.
-/
import Derived.Test.YtoakmmapeedenaaGreatDoorP3
import Derived.Shelf.Lays
import Derived.Shelf.LaysM
import Derived.Shelf.Strconv.Itoa3
import Derived.Shelf.Strconv.Atoi
import Derived.Shelf.Strings.SlTrimAscii
import Derived.Shelf.Strings.Search3
import Derived.Test.YtoakmmapeedenaaGreatDoorProg
set_option linter.unusedVariables false
set_option linter.unusedSimpArgs false
open And renaming intro→aA
open Bool renaming and_eq_true→ai,eq_iff_iff→cA,true_and→bI
open ByteArray renaming extract→bz,size→ag,toList→ab
open Int renaming cast_ofNat_Int→cy,ofNat_eq_natCast→cg,toNat→bC
open List renaming all_cons→cn,any_eq_true→bB,append_assoc→bH,cons_append→bA,drop_eq_getElem_cons→aN,drop_eq_nil_of_le→a8,drop_zero→bw,flatMap_cons→aV,getD_cons_succ→cF,getD_cons_zero→aQ,getD_eq_getElem?_getD→aa,length→dR,length_append→aq,length_cons→aw,length_drop→bh,length_nil→aM,map_cons→aS,mem_append→aC,mem_cons→aB,mem_cons_of_mem→af,mem_cons_self→ae,mem_flatMap→cB,mem_map→bp,mem_singleton→aR,nil_append→bc,sum_cons→cq,takeWhile_append_dropWhile→bu
open Nat renaming add_assoc→dz,le_refl→an,zero_add→aK,zero_le→dj
open Option renaming isSome_iff_exists→aZ
open UInt8 renaming ofNat→aU,toNat_inj→cX
namespace Go.Proofs
open Go.Shelf
def Tryz.sT:Go.Shelf.Ren:=⟨fun|160=>101|232=>110|231=>109|227=>111|234=>113|233=>112|236=>115|235=>114|228=>121|271=>124|151=>123|197=>122|120=>131|152=>130|260=>129|137=>137|119=>138|224=>135|225=>134|217=>133|266=>143|n=>n,fun|9=>9|4=>4|3=>3|5=>5|117=>160|116=>159|0=>0|124=>163|21=>21|105=>173|46=>167|119=>184|139=>187|138=>186|n=>n,fun|3=>3|4=>4|n=>n⟩
theorem Tryz.zc:Go.Proofs.Lays.n160 Tryz.prog Tryz.sT:={
 mixed:=by kernel_rfl,
 f119:=Tryz.func138.trans (congrArg some (by kernel_rfl)),
 f120:=Tryz.func131.trans (congrArg some (by kernel_rfl)),
 f137:=Tryz.func137.trans (congrArg some (by kernel_rfl)),
 f151:=Tryz.func123.trans (congrArg some (by kernel_rfl)),
 f152:=Tryz.func130.trans (congrArg some (by kernel_rfl)),
 f160:=Tryz.func101.trans (congrArg some (by kernel_rfl)),
 f197:=Tryz.func122.trans (congrArg some (by kernel_rfl)),
 f217:=Tryz.func133.trans (congrArg some (by kernel_rfl)),
 f224:=Tryz.func135.trans (congrArg some (by kernel_rfl)),
 f225:=Tryz.func134.trans (congrArg some (by kernel_rfl)),
 f227:=Tryz.func111.trans (congrArg some (by kernel_rfl)),
 f228:=Tryz.func121.trans (congrArg some (by kernel_rfl)),
 f231:=Tryz.func109.trans (congrArg some (by kernel_rfl)),
 f232:=Tryz.func110.trans (congrArg some (by kernel_rfl)),
 f233:=Tryz.func112.trans (congrArg some (by kernel_rfl)),
 f234:=Tryz.func113.trans (congrArg some (by kernel_rfl)),
 f235:=Tryz.func114.trans (congrArg some (by kernel_rfl)),
 f236:=Tryz.func115.trans (congrArg some (by kernel_rfl)),
 f260:=Tryz.func129.trans (congrArg some (by kernel_rfl)),
 f266:=Tryz.func143.trans (congrArg some (by kernel_rfl)),
 f271:=Tryz.func124.trans (congrArg some (by kernel_rfl)),
 t0:=Tryz.underlying0,
 a0:=Tryz.isAgg0,
 z0:=Tryz.sizeOf0,
 v0:=Tryz.zeroValue0,
 t3:=Tryz.underlying3,
 a3:=Tryz.isAgg3,
 z3:=Tryz.sizeOf3,
 v3:=Tryz.zeroValue3,
 t4:=Tryz.underlying4,
 a4:=Tryz.isAgg4,
 z4:=Tryz.sizeOf4,
 v4:=Tryz.zeroValue4,
 t5:=Tryz.underlying5,
 a5:=Tryz.isAgg5,
 z5:=Tryz.sizeOf5,
 v5:=Tryz.zeroValue5,
 t9:=Tryz.underlying9,
 a9:=Tryz.isAgg9,
 z9:=Tryz.sizeOf9,
 v9:=Tryz.zeroValue9,
 t21:=Tryz.underlying21,
 a21:=Tryz.isAgg21,
 z21:=Tryz.sizeOf21,
 v21:=Tryz.zeroValue21,
 t46:=Tryz.underlying167,
 a46:=Tryz.isAgg167,
 z46:=Tryz.sizeOf167,
 v46:=Tryz.zeroValue167,
 t105:=Tryz.underlying173,
 a105:=Tryz.isAgg173,
 z105:=Tryz.sizeOf173,
 v105:=Tryz.zeroValue173,
 t116:=Tryz.underlying159,
 a116:=Tryz.isAgg159,
 z116:=Tryz.sizeOf159,
 t117:=Tryz.underlying160,
 a117:=Tryz.isAgg160,
 z117:=Tryz.sizeOf160,
 v117:=Tryz.zeroValue160,
 t119:=Tryz.underlying184,
 a119:=Tryz.isAgg184,
 z119:=Tryz.sizeOf184,
 t124:=Tryz.underlying163,
 a124:=Tryz.isAgg163,
 z124:=Tryz.sizeOf163,
 v124:=Tryz.zeroValue163,
 t138:=Tryz.underlying186,
 a138:=Tryz.isAgg186,
 z138:=Tryz.sizeOf186,
 v138:=Tryz.zeroValue186,
 t139:=Tryz.underlying187,
 a139:=Tryz.isAgg187,
 z139:=Tryz.sizeOf187,
 v139:=Tryz.zeroValue187,
 g3:=by kernel_rfl,
 g4:=by kernel_rfl}
def Tryz.rR:Go.Shelf.Ren:=⟨fun|144=>108|143=>120|219=>128|217=>133|225=>134|224=>135|267=>136|266=>143|314=>144|n=>n,fun|9=>9|4=>4|3=>3|5=>5|46=>167|146=>195|51=>194|n=>n,fun|1=>2|n=>n⟩
theorem Tryz.yS:Go.Proofs.Lays.n144 Tryz.prog Tryz.rR:={
 mixed:=by kernel_rfl,
 f143:=Tryz.func120.trans (congrArg some (by kernel_rfl)),
 f144:=Tryz.func108.trans (congrArg some (by kernel_rfl)),
 f217:=Tryz.func133.trans (congrArg some (by kernel_rfl)),
 f219:=Tryz.func128.trans (congrArg some (by kernel_rfl)),
 f224:=Tryz.func135.trans (congrArg some (by kernel_rfl)),
 f225:=Tryz.func134.trans (congrArg some (by kernel_rfl)),
 f266:=Tryz.func143.trans (congrArg some (by kernel_rfl)),
 f267:=Tryz.func136.trans (congrArg some (by kernel_rfl)),
 f314:=Tryz.func144.trans (congrArg some (by kernel_rfl)),
 t3:=Tryz.underlying3,
 a3:=Tryz.isAgg3,
 z3:=Tryz.sizeOf3,
 v3:=Tryz.zeroValue3,
 t4:=Tryz.underlying4,
 a4:=Tryz.isAgg4,
 z4:=Tryz.sizeOf4,
 v4:=Tryz.zeroValue4,
 t5:=Tryz.underlying5,
 a5:=Tryz.isAgg5,
 z5:=Tryz.sizeOf5,
 v5:=Tryz.zeroValue5,
 t9:=Tryz.underlying9,
 a9:=Tryz.isAgg9,
 z9:=Tryz.sizeOf9,
 v9:=Tryz.zeroValue9,
 t46:=Tryz.underlying167,
 a46:=Tryz.isAgg167,
 z46:=Tryz.sizeOf167,
 v46:=Tryz.zeroValue167,
 t51:=Tryz.underlying194,
 a51:=Tryz.isAgg194,
 z51:=Tryz.sizeOf194,
 v51:=Tryz.zeroValue194,
 t146:=Tryz.underlying195,
 a146:=Tryz.isAgg195,
 z146:=Tryz.sizeOf195,
 v146:=Tryz.zeroValue195,
 g1:=by kernel_rfl}
def Tryz.rZ:Go.Shelf.Ren:=⟨fun|172=>72|244=>90|245=>91|247=>102|279=>103|280=>104|281=>105|282=>106|287=>116|316=>117|171=>119|205=>118|321=>125|322=>126|243=>127|246=>132|283=>139|284=>140|285=>141|286=>142|129=>146|317=>145|318=>147|319=>148|320=>149|337=>150|338=>151|n=>n,fun|9=>9|3=>3|75=>122|76=>123|4=>4|5=>5|167=>150|37=>25|0=>0|85=>151|2=>2|168=>153|53=>164|175=>165|46=>167|210=>170|127=>177|145=>180|143=>178|21=>21|171=>189|173=>192|212=>198|51=>194|20=>20|213=>199|232=>203|233=>204|80=>44|n=>n,fun|15=>0|16=>1|17=>5|18=>6|19=>7|n=>n⟩
theorem Tryz.zW:Go.Proofs.Lays.n172 Tryz.prog Tryz.rZ:={
 mixed:=by kernel_rfl,
 f129:=Tryz.func146.trans (congrArg some (by kernel_rfl)),
 f171:=Tryz.func119.trans (congrArg some (by kernel_rfl)),
 f172:=Tryz.func72.trans (congrArg some (by kernel_rfl)),
 f205:=Tryz.func118.trans (congrArg some (by kernel_rfl)),
 f243:=Tryz.func127.trans (congrArg some (by kernel_rfl)),
 f244:=Tryz.func90.trans (congrArg some (by kernel_rfl)),
 f245:=Tryz.func91.trans (congrArg some (by kernel_rfl)),
 f246:=Tryz.func132.trans (congrArg some (by kernel_rfl)),
 f247:=Tryz.func102.trans (congrArg some (by kernel_rfl)),
 f279:=Tryz.func103.trans (congrArg some (by kernel_rfl)),
 f280:=Tryz.func104.trans (congrArg some (by kernel_rfl)),
 f281:=Tryz.func105.trans (congrArg some (by kernel_rfl)),
 f282:=Tryz.func106.trans (congrArg some (by kernel_rfl)),
 f283:=Tryz.func139.trans (congrArg some (by kernel_rfl)),
 f284:=Tryz.func140.trans (congrArg some (by kernel_rfl)),
 f285:=Tryz.func141.trans (congrArg some (by kernel_rfl)),
 f286:=Tryz.func142.trans (congrArg some (by kernel_rfl)),
 f287:=Tryz.func116.trans (congrArg some (by kernel_rfl)),
 f316:=Tryz.func117.trans (congrArg some (by kernel_rfl)),
 f317:=Tryz.func145.trans (congrArg some (by kernel_rfl)),
 f318:=Tryz.func147.trans (congrArg some (by kernel_rfl)),
 f319:=Tryz.func148.trans (congrArg some (by kernel_rfl)),
 f320:=Tryz.func149.trans (congrArg some (by kernel_rfl)),
 f321:=Tryz.func125.trans (congrArg some (by kernel_rfl)),
 f322:=Tryz.func126.trans (congrArg some (by kernel_rfl)),
 f337:=Tryz.func150.trans (congrArg some (by kernel_rfl)),
 f338:=Tryz.func151.trans (congrArg some (by kernel_rfl)),
 t0:=Tryz.underlying0,
 a0:=Tryz.isAgg0,
 z0:=Tryz.sizeOf0,
 v0:=Tryz.zeroValue0,
 t2:=Tryz.underlying2,
 a2:=Tryz.isAgg2,
 z2:=Tryz.sizeOf2,
 v2:=Tryz.zeroValue2,
 t3:=Tryz.underlying3,
 a3:=Tryz.isAgg3,
 z3:=Tryz.sizeOf3,
 v3:=Tryz.zeroValue3,
 t4:=Tryz.underlying4,
 a4:=Tryz.isAgg4,
 z4:=Tryz.sizeOf4,
 v4:=Tryz.zeroValue4,
 t5:=Tryz.underlying5,
 a5:=Tryz.isAgg5,
 z5:=Tryz.sizeOf5,
 v5:=Tryz.zeroValue5,
 t9:=Tryz.underlying9,
 a9:=Tryz.isAgg9,
 z9:=Tryz.sizeOf9,
 v9:=Tryz.zeroValue9,
 t20:=Tryz.underlying20,
 a20:=Tryz.isAgg20,
 z20:=Tryz.sizeOf20,
 v20:=Tryz.zeroValue20,
 t21:=Tryz.underlying21,
 a21:=Tryz.isAgg21,
 z21:=Tryz.sizeOf21,
 v21:=Tryz.zeroValue21,
 t37:=Tryz.underlying25,
 a37:=Tryz.isAgg25,
 z37:=Tryz.sizeOf25,
 v37:=Tryz.zeroValue25,
 t46:=Tryz.underlying167,
 a46:=Tryz.isAgg167,
 z46:=Tryz.sizeOf167,
 v46:=Tryz.zeroValue167,
 t51:=Tryz.underlying194,
 a51:=Tryz.isAgg194,
 z51:=Tryz.sizeOf194,
 v51:=Tryz.zeroValue194,
 t53:=Tryz.underlying164,
 a53:=Tryz.isAgg164,
 z53:=Tryz.sizeOf164,
 v53:=Tryz.zeroValue164,
 t75:=Tryz.underlying122,
 a75:=Tryz.isAgg122,
 z75:=Tryz.sizeOf122,
 v75:=Tryz.zeroValue122,
 t76:=Tryz.underlying123,
 a76:=Tryz.isAgg123,
 z76:=Tryz.sizeOf123,
 v76:=Tryz.zeroValue123,
 t85:=Tryz.underlying151,
 a85:=Tryz.isAgg151,
 z85:=Tryz.sizeOf151,
 v85:=Tryz.zeroValue151,
 t127:=Tryz.underlying177,
 a127:=Tryz.isAgg177,
 z127:=Tryz.sizeOf177,
 v127:=Tryz.zeroValue177,
 t143:=Tryz.underlying178,
 a143:=Tryz.isAgg178,
 z143:=Tryz.sizeOf178,
 v143:=Tryz.zeroValue178,
 t145:=Tryz.underlying180,
 a145:=Tryz.isAgg180,
 z145:=Tryz.sizeOf180,
 v145:=Tryz.zeroValue180,
 t167:=Tryz.underlying150,
 a167:=Tryz.isAgg150,
 z167:=Tryz.sizeOf150,
 v167:=Tryz.zeroValue150,
 t168:=Tryz.underlying153,
 a168:=Tryz.isAgg153,
 z168:=Tryz.sizeOf153,
 v168:=Tryz.zeroValue153,
 t171:=Tryz.underlying189,
 a171:=Tryz.isAgg189,
 z171:=Tryz.sizeOf189,
 v171:=Tryz.zeroValue189,
 t173:=Tryz.underlying192,
 a173:=Tryz.isAgg192,
 z173:=Tryz.sizeOf192,
 v173:=Tryz.zeroValue192,
 t175:=Tryz.underlying165,
 a175:=Tryz.isAgg165,
 z175:=Tryz.sizeOf165,
 v175:=Tryz.zeroValue165,
 t210:=Tryz.underlying170,
 a210:=Tryz.isAgg170,
 z210:=Tryz.sizeOf170,
 v210:=Tryz.zeroValue170,
 t212:=Tryz.underlying198,
 a212:=Tryz.isAgg198,
 z212:=Tryz.sizeOf198,
 v212:=Tryz.zeroValue198,
 t213:=Tryz.underlying199,
 a213:=Tryz.isAgg199,
 z213:=Tryz.sizeOf199,
 t232:=Tryz.underlying203,
 a232:=Tryz.isAgg203,
 z232:=Tryz.sizeOf203,
 v232:=Tryz.zeroValue203,
 t233:=Tryz.underlying204,
 a233:=Tryz.isAgg204,
 z233:=Tryz.sizeOf204,
 v233:=Tryz.zeroValue204,
 g15:=by kernel_rfl,
 g16:=by kernel_rfl,
 g17:=by kernel_rfl,
 g18:=by kernel_rfl,
 g19:=by kernel_rfl}
end Go.Proofs
namespace Go.Proofs.Trees
open Go Go.VL
noncomputable section
def FT:List (Nat×TI):=[
 (0,⟨false,[],false,0,.tuple [],false⟩),
 (2,⟨true,[.int .i64],false,8,.num .i64,false⟩),
 (3,⟨true,[.int .i64],false,8,.num .i64,false⟩),
 (4,⟨true,[.bool],false,1,.bl,false⟩),
 (5,⟨true,[.int .u8],false,1,.num .u8,false⟩),
 (9,⟨true,[.str],false,16,.str,false⟩),
 (20,⟨true,[.oth],false,16,.other,false⟩),
 (21,⟨true,[.int .i32],false,4,.num .i32,false⟩),
 (22,⟨false,[],false,0,.tuple [9,3,4],false⟩),
 (25,⟨true,[.sl],false,24,.slice 5,false⟩),
 (26,⟨false,[],false,0,.tuple [9,9,9,9],false⟩),
 (30,⟨true,[.sl],false,24,.slice 32,false⟩),
 (32,⟨true,[.str,.sl],true,40,.struct [(0,9),(1,30)],false⟩),
 (33,⟨false,[],false,0,.tuple [32,4],false⟩),
 (35,⟨false,[],false,0,.tuple [32,3],false⟩),
 (39,⟨true,[.ptr],false,8,.pt,true⟩),
 (40,⟨true,[.ptr],false,8,.pt,true⟩),
 (41,⟨false,[],false,0,.tuple [39,40],false⟩),
 (43,⟨true,[.oth],false,8,.other,false⟩),
 (45,⟨true,[.ptr],false,8,.pt,true⟩),
 (47,⟨true,[.ptr,.ptr],true,16,.struct [(0,39),(1,45)],false⟩),
 (48,⟨true,[.ptr],false,8,.pt,true⟩),
 (49,⟨false,[],false,0,.tuple [47,48],false⟩),
 (54,⟨true,[.int .u8,.str,.ptr,.ptr],true,40,.struct [(0,5),(1,9),(2,40),(3,40)],false⟩),
 (55,⟨false,[],false,0,.tuple [9,4],false⟩),
 (57,⟨true,[.ptr],false,8,.pt,true⟩),
 (59,⟨false,[],false,0,.tuple [9,9],false⟩),
 (62,⟨true,[.sl],false,24,.slice 9,false⟩),
 (63,⟨false,[],false,0,.tuple [62,4],false⟩),
 (69,⟨true,[.sl],false,24,.slice 129,false⟩),
 (71,⟨true,[.sl],false,24,.slice 74,false⟩),
 (74,⟨true,[.str,.sl,.str,.sl],true,80,.struct [(0,32),(2,32)],false⟩),
 (79,⟨true,[.ptr,.ptr],true,16,.struct [(0,47)],false⟩),
 (81,⟨true,[.int .u8,.str,.int .i64,.ptr,.ptr],true,48,.struct [(0,5),(1,9),(2,3),(3,39),(4,39)],false⟩),
 (83,⟨true,[.ptr,.ptr],true,16,.struct [(0,48),(1,45)],false⟩),
 (89,⟨true,[.sl,.int .i64],true,32,.struct [(0,25),(1,3)],false⟩),
 (94,⟨true,[.sl],false,24,.slice 99,false⟩),
 (95,⟨false,[],false,0,.tuple [94,4],false⟩),
 (97,⟨true,[.sl],false,24,.slice 3,false⟩),
 (99,⟨true,[.sl,.str,.str],true,56,.struct [(0,97),(1,9),(2,9)],false⟩),
 (103,⟨true,[.oth],false,8,.other,false⟩),
 (104,⟨false,[],false,0,.tuple [32,69],false⟩),
 (113,⟨true,[.ptr],false,8,.pt,true⟩),
 (115,⟨true,[.sl,.int .i64],true,32,.struct [(0,62),(1,3)],false⟩),
 (118,⟨true,[.ptr],false,8,.pt,true⟩),
 (122,⟨true,[.oth],false,16,.other,false⟩),
 (123,⟨false,[],false,0,.tuple [3,122],false⟩),
 (129,⟨true,[.str,.str,.sl,.sl],true,80,.struct [(0,9),(1,32),(3,69)],false⟩),
 (137,⟨false,[],false,0,.tuple [118,9],false⟩),
 (139,⟨true,[.sl],false,24,.slice 118,false⟩),
 (141,⟨true,[.str,.sl],true,40,.struct [(0,9),(1,139)],false⟩),
 (147,⟨true,[.oth],false,8,.other,false⟩),
 (151,⟨false,[],false,0,.tuple [2,122],false⟩),
 (153,⟨true,[.ptr],false,8,.pt,true⟩),
 (160,⟨false,[],false,0,.tuple [159,4],false⟩),
 (163,⟨true,[.ptr],false,8,.pt,true⟩),
 (164,⟨true,[.int .u64],false,8,.num .u64,false⟩),
 (165,⟨false,[],false,0,.tuple [164,122],false⟩),
 (167,⟨true,[.int .u64],false,8,.num .u64,false⟩),
 (170,⟨true,[.str,.str,.oth],true,48,.struct [(0,9),(1,9),(2,122)],false⟩),
 (173,⟨false,[],false,0,.tuple [21,3],false⟩),
 (177,⟨true,[.ptr],false,8,.pt,true⟩),
 (178,⟨true,[.ptr],false,8,.pt,true⟩),
 (180,⟨true,[.str],true,16,.struct [(0,9)],false⟩),
 (186,⟨true,[.int .u8,.int .u8],true,2,.struct [(0,5),(1,5)],false⟩),
 (187,⟨true,[.int .u8,.int .u8,.int .u8,.int .u8,.int .u8,.int .u8,.int .u8,.int .u8,.int .u8,.int .u8,.int .u8,.int .u8,.int .u8,.int .u8,.int .u8,.int .u8,.int .u8,.int .u8,.int .u8,.int .u8,.int .u8,.int .u8,.int .u8,.int .u8,.int .u8,.int .u8,.int .u8,.int .u8,.int .u8,.int .u8,.int .u8,.int .u8],true,32,.array 16 186,false⟩),
 (189,⟨true,[.int .u8,.int .u8,.int .u8,.int .u8,.int .u8,.int .u8,.int .u8,.int .u8,.int .u8,.int .u8,.int .u8,.int .u8,.int .u8,.int .u8,.int .u8,.int .u8,.int .u8,.int .u8,.int .u8,.int .u8,.int .u8,.int .u8,.int .u8,.int .u8],true,24,.array 24 5,false⟩),
 (192,⟨false,[],false,0,.tuple [25,9],false⟩),
 (194,⟨true,[.int .u32],false,4,.num .u32,false⟩),
 (195,⟨false,[],false,0,.tuple [194,194],false⟩),
 (198,⟨true,[.int .u64,.int .u64,.int .u64,.int .u64,.int .u64,.int .u64,.int .u64,.int .u64,.int .u64,.int .u64,.int .u64,.int .u64,.int .u64,.int .u64,.int .u64,.int .u64,.int .u64,.int .u64,.int .u64,.int .u64],true,160,.array 20 164,false⟩),
 (203,⟨true,[.int .u8,.int .u8,.int .u8,.int .u8,.int .u8,.int .u8,.int .u8,.int .u8,.int .u8,.int .u8,.int .u8,.int .u8,.int .u8,.int .u8,.int .u8,.int .u8,.int .u8,.int .u8,.int .u8,.int .u8,.int .u8,.int .u8,.int .u8,.int .u8,.int .u8,.int .u8,.int .u8,.int .u8,.int .u8,.int .u8,.int .u8,.int .u8],true,32,.array 32 5,false⟩)]
def F9(t:Nat):TI:=uX FT t
abbrev dw:Func:=Tryz.f18
abbrev n7:Func:=Tryz.f72
abbrev n0:Func:=Tryz.f101
abbrev ld:Func:=Tryz.f108
def IC:List (Nat×FC):=[(97,{mu:=[(1,.one (.obj [.vec 1]))],own:=[]}),(53,{mu:=[(2,.one (.vec))],own:=[0]}),(9800096,{mu:=[(1,.fn [some (.obj [.vec 1])])],own:=[]}),(67,{mu:=[(3,.one (.vec))],own:=[0]}),(60,{mu:=[(2,.one (.vec))],own:=[0]}),(26,{mu:=[(0,.one (.obj [.lk .sl,.lk (.int .i64)]))],own:=[]}),(66,{mu:=[(3,.one (.obj [.vec 1,.lk (.int .i64)]))],own:=[]}),(45,{mu:=[(0,.one (.obj [.lk .sl,.lk (.int .i64)]))],own:=[]}),(22,{mu:=[],own:=[0],ow:=[.sl,.int .i64]}),(79,{mu:=[(0,.one (.obj [.lk .sl,.lk (.int .i64)]))],own:=[]}),(43,{mu:=[(0,.one (.obj [.lk .sl,.lk (.int .i64)]))],own:=[]}),(78,{mu:=[(0,.one (.obj [.lk .sl,.lk (.int .i64)]))],own:=[]}),(46,{mu:=[(0,.one (.obj [.lk .sl,.lk (.int .i64)]))],own:=[]}),(24,{mu:=[(0,.one (.obj [.lk .sl,.lk (.int .i64)]))],own:=[]}),(61,{mu:=[(0,.one (.obj [.lk .sl,.lk (.int .i64)]))],own:=[]}),(44,{mu:=[(0,.one (.obj [.lk .sl,.lk (.int .i64)]))],own:=[]}),(23,{mu:=[(0,.one (.obj [.lk .sl,.lk (.int .i64)]))],own:=[]}),(75,{mu:=[],own:=[0]}),(16,{mu:=[(1,.one (.obj [.lk .ptr])),(2,.one (.obj [.lk (.int .i64)])),(3,.one (.obj [.lk .ptr])),(4,.one (.obj [.lk .ptr])),(5,.AT 16 [some 0,some 1,some 2,some 3,none])],own:=[]}),(1700020,{mu:=[(3,.A3 [some (.obj [.lk .ptr]),some (.obj [.lk (.int .i64)]),some (.obj [.lk .ptr]),some (.obj [.lk .ptr])] 16 [some 0,some 1,some 2,some 3,none])],own:=[]})]
def cfg(f:Nat):FC:=yd IC f
theorem yZ:(FT.all fun p=>!p.2.kn||p.2.AO Tryz.prog p.1)=true:=by kernel_rfl
theorem rm:cv Tryz.prog F9:=sx yZ
theorem mixed:Tryz.prog.follows .mixedOrders=true:=by kernel_rfl
abbrev NZ(r:AV)(k:Tree):Tree:=.ax (LK.has .ptr r/\r.isNil=false) k
abbrev NP(r:AV)(k:Tree):Tree:=.ax (LK.has .ptr r) k
abbrev NS(r:AV)(k:Tree):Tree:=.ax (LK.has .str r) k
abbrev NB(r:AV)(k:Tree):Tree:=.ax (LK.has .bool r) k
abbrev NL(r:AV)(k:Tree):Tree:=.ax (LK.has .sl r) k
abbrev NI(r:AV)(k:Tree):Tree:=.ax (LK.has (.int .i64) r) k
abbrev gk(l:List AV)(k:Tree):Tree:=.ax (LK.has .ptr (l.headD .any)/\1<=l.length) k
abbrev sb(l:List AV)(k:Tree):Tree:=.ax (LK.has .str (l.headD .any)/\1<=l.length) k
abbrev pN(l:List AV)(k:Tree):Tree:=.ax (LK.has .sl (l.headD .any)/\1<=l.length) k
abbrev NT(r:AV)(k:Tree):Tree:=.ax (r=.cQ [r.comp 0,r.comp 1]) k
abbrev NA(r:AV)(k:Tree):Tree:=.ax (r=.agg r.cs/\r.cs.length=2/\bT [.str,.sl] r.cs 0) k
abbrev NE(l:List AV)(k:Tree):Tree:=.ax (bT [.str,.sl] l 0/\2<=l.length) k
abbrev NG(r:AV)(i:Int)(z:Nat)(k:Tree):Tree:=.ax (LK.has .sl r/\0<=i/\i<r.elems.length/\(r.elems.getD i.toNat []).length=z) k
abbrev RL:Type:=Nat->List AV->List Ob->Prop
abbrev VS(x:ByteArray):AV:=.v (.string x)
abbrev VI(x:Int):AV:=.v (.int .i64 x)
abbrev VB(x:Bool):AV:=.v (.bool x)
abbrev _root_.List.hA(l:List AV):AV:=l.headD .any
abbrev _root_.List.hO(l:List Ob):Ob:=l.headD .dead
abbrev _root_.Go.VL.AV.ix(a:AV)(i:Int):List AV:=a.elems.getD i.toNat []
abbrev eN(n:Nat)(t:Tree)(R:AV->List Ob->Prop):Prop:=dV Tryz.prog n t fun _ xs obs=>R (xs.headD .any) obs
abbrev px(n:Nat)(t:Tree)(S:List AV->List Ob->RL->Prop)(R:RL):Prop:=dV Tryz.prog n t (AS (fun ys o=>S ys o R) R)
theorem gQ{n:Nat}{c:Code}{li:LI}{xs:List AV}{obs:List Ob}{R:RL}{t:Tree}(lis:List (Nat×LI))(h:dV Tryz.prog n t (AS (fun ys o=>cL Tryz.prog n c li ys o R) R))(e:round F9 cfg n lis c li xs obs=t:=by kernel_rfl):cL Tryz.prog n c li xs obs R:=cL.G3 (cfg:=cfg) (lis:=lis) rm mixed e h
theorem Jw(x:ByteArray):VS x=.v (.string x):=rfl
theorem Jc(x:Int):VI x=.v (.int .i64 x):=rfl
theorem Jt(x:Bool):VB x=.v (.bool x):=rfl
theorem Ja(l:List AV):l.hA=l.headD .any:=rfl
theorem Jq(l:List Ob):l.hO=l.headD .dead:=rfl
theorem Jg(a:AV)(i:Int):a.ix i=a.elems.getD i.toNat []:=rfl
theorem oQ{f:Nat}{asq:List AV}{ins:List Ob}{R:AV->List Ob->Prop}{t:Tree}(lis:List (Nat×LI))(F:Func)(h:dV Tryz.prog F.ntmps t fun _ xs obs=>R (xs.headD .any) obs)(hf:Tryz.prog.funcs[f]?=some F:=by kernel_rfl)(hnm:(F.name=="runtime.NumGoroutine")=false:=by kernel_rfl)(e:main F9 cfg lis {} F asq ins=t:=by kernel_rfl):ay Tryz.prog f asq ins R:=ay.G3 (cfg:=cfg) (lis:=lis) (fc:={}) rm mixed hf hnm e h
theorem oF{f:Nat}{asq:List AV}{ins:List Ob}{R:AV->List Ob->Prop}{t:Tree}(lis:List (Nat×LI))(fc:FC)(F:Func)(h:dV Tryz.prog F.ntmps t fun _ xs obs=>R (xs.headD .any) obs)(hf:Tryz.prog.funcs[f]?=some F:=by kernel_rfl)(hnm:(F.name=="runtime.NumGoroutine")=false:=by kernel_rfl)(e:main F9 cfg lis fc F asq ins=t:=by kernel_rfl):ay Tryz.prog f asq ins R:=ay.G3 (cfg:=cfg) (lis:=lis) (fc:=fc) rm mixed hf hnm e h
theorem uQ{P:Program}{f:Nat}{asq bs:List AV}{R:AV->List Ob->Prop}(h:tF asq bs)(hf:ay P f bs [] R):ay P f asq [] R:=ay.Bq iP (ay.up h hf)
theorem Jb(r:AV)(k:Tree):NZ r k=.ax (LK.has .ptr r/\r.isNil=false) k:=rfl
theorem Jp(r:AV)(k:Tree):NP r k=.ax (LK.has .ptr r) k:=rfl
theorem Jj(r:AV)(k:Tree):NS r k=.ax (LK.has .str r) k:=rfl
theorem Jv(r:AV)(k:Tree):NB r k=.ax (LK.has .bool r) k:=rfl
theorem Je(r:AV)(k:Tree):NL r k=.ax (LK.has .sl r) k:=rfl
theorem I8(r:AV)(k:Tree):NI r k=.ax (LK.has (.int .i64) r) k:=rfl
theorem IU(l:List AV)(k:Tree):gk l k=.ax (LK.has .ptr (l.headD .any)/\1<=l.length) k:=rfl
theorem Iy(l:List AV)(k:Tree):sb l k=.ax (LK.has .str (l.headD .any)/\1<=l.length) k:=rfl
theorem IM(l:List AV)(k:Tree):pN l k=.ax (LK.has .sl (l.headD .any)/\1<=l.length) k:=rfl
theorem Jd(r:AV)(k:Tree):NT r k=.ax (r=.cQ [r.comp 0,r.comp 1]) k:=rfl
theorem I9(r:AV)(k:Tree):NA r k=.ax (r=.agg r.cs/\r.cs.length=2/\bT [.str,.sl] r.cs 0) k:=rfl
theorem Jk(l:List AV)(k:Tree):NE l k=.ax (bT [.str,.sl] l 0/\2<=l.length) k:=rfl
theorem Ju(r:AV)(i:Int)(z:Nat)(k:Tree):NG r i z k=.ax (LK.has .sl r/\0<=i/\i<r.elems.length/\(r.elems.getD i.toNat []).length=z) k:=rfl
set_option linter.defProp false in
def zq:=aA @Jb (aA @Jp (aA @Jj (aA @Jv (aA @Je (aA @I8 (aA @IU (aA @Iy (aA @IM (aA @Jd (aA @I9 (aA @Jk (aA @Ju (aA @Jw (aA @Jc (aA @Jt (aA @Ja (aA @Jq (aA @Jg @zp))))))))))))))))))
variable {R:AV->List Ob->Prop} {U:RL}
def FE(a0:ByteArray)(a1:ByteArray)(a2:ByteArray)(a3:ByteArray):Tree :=
 .test (decide ((ag a0:Int)>(1048576:Int))) (.done 0 [VB true] []) (.test (decide ((ag a1:Int)>(1048576:Int))) (.done 0 [VB true] []) (.test (decide ((ag a2:Int)>(1048576:Int))) (.done 0 [VB true] []) (.test (decide ((ag a3:Int)>(1048576:Int))) (.done 0 [VB true] []) (.call 5 [VS a0,VS a1,VS a2,VS a3] [] fun r1 o1=>.ax (r1=.cQ [r1.comp 0,r1.comp 1,r1.comp 2])<|NS (r1.comp 0)<|NI (r1.comp 1)<|NB (r1.comp 2)<|.call 6 [VS a0,VS a1,VS a2,VS a3] [] fun r2 o2=>.ax (r2=.cQ [r2.comp 0,r2.comp 1,r2.comp 2])<|NS (r2.comp 0)<|NI (r2.comp 1)<|NB (r2.comp 2)<|.test (!(ab ((r2.comp 0).toStr)==ab ((r1.comp 0).toStr))) (.done 0 [VB false] []) (.test (((r2.comp 1).toInt) != ((r1.comp 1).toInt)) (.done 0 [VB false] []) (.test (!(((r2.comp 2).toBool)==((r1.comp 2).toBool))) (.done 0 [VB false] []) (.done 0 [VB true] [])))))))
theorem HX(a0:ByteArray)(a1:ByteArray)(a2:ByteArray)(a3:ByteArray)(h:eN 58 (FE a0 a1 a2 a3) R):ay Tryz.prog 3 [VS a0,VS a1,VS a2,VS a3] [] R :=
 uQ (aj (aE _) (aj (aE _) (aj (aE _) (aj (aE _) aG)))) (oQ [] Tryz.f3 h)
def Dz(a0:ByteArray)(a1:ByteArray)(a2:ByteArray)(a3:ByteArray):Tree :=
 .call 9 [VS a0] [] fun r1 o1=>NT r1<|.ax ((r1.comp 0)=.agg (r1.comp 0).cs/\(r1.comp 0).cs.length=2/\bT [.str,.sl] ((r1.comp 0).cs) 0)<|NB (r1.comp 1)<|.test (!((r1.comp 1).toBool)) (.done 0 [.cQ [VS (mk []),VI 0,VB false]] []) (.call 10 [VS a0,VS a1,VI 100] [] fun r2 o2=>NB r2<|.test (!r2.toBool) (.done 0 [.cQ [VS (mk []),VI 0,VB false]] []) (.call 10 [VS a0,VS a2,VI 100] [] fun r3 o3=>NB r3<|.test (!r3.toBool) (.done 0 [.cQ [VS (mk []),VI 0,VB false]] []) (.call 10 [VS a0,VS a3,VI 100] [] fun r4 o4=>NB r4<|.test (!r4.toBool) (.done 0 [.cQ [VS (mk []),VI 0,VB false]] []) (.call 11 [VS a1] [] fun r5 o5=>NT r5<|.ax ((r5.comp 0)=.agg (r5.comp 0).cs/\(r5.comp 0).cs.length=2/\bT [.str,.sl] ((r5.comp 0).cs) 0)<|NB (r5.comp 1)<|.call 11 [VS a3] [] fun r6 o6=>NT r6<|.ax ((r6.comp 0)=.agg (r6.comp 0).cs/\(r6.comp 0).cs.length=2/\bT [.str,.sl] ((r6.comp 0).cs) 0)<|NB (r6.comp 1)<|.call 12 [.agg [VS (((r1.comp 0).cs.getD 0 .any).toStr),((r1.comp 0).cs.getD 1 .any)],.agg [VS (((r5.comp 0).cs.getD 0 .any).toStr),((r5.comp 0).cs.getD 1 .any)],VS a2,.agg [VS (((r6.comp 0).cs.getD 0 .any).toStr),((r6.comp 0).cs.getD 1 .any)]] [] fun r7 o7=>NT r7<|.ax ((r7.comp 0)=.agg (r7.comp 0).cs/\(r7.comp 0).cs.length=2/\bT [.str,.sl] ((r7.comp 0).cs) 0)<|NI (r7.comp 1)<|.call 13 [.agg [VS (((r7.comp 0).cs.getD 0 .any).toStr),((r7.comp 0).cs.getD 1 .any)]] [] fun r8 o8=>NI r8<|.test (decide (r8.toInt>(200:Int))) (.done 0 [.cQ [VS (mk []),VI 0,VB false]] []) (.call 14 [.agg [VS (((r7.comp 0).cs.getD 0 .any).toStr),((r7.comp 0).cs.getD 1 .any)]] [] fun r9 o9=>NS r9<|.done 0 [.cQ [VS r9.toStr,VI ((r7.comp 1).toInt),VB true]] [])))))
theorem IS(a0:ByteArray)(a1:ByteArray)(a2:ByteArray)(a3:ByteArray)(h:eN 68 (Dz a0 a1 a2 a3) R):ay Tryz.prog 5 [VS a0,VS a1,VS a2,VS a3] [] R :=
 uQ (aj (aE _) (aj (aE _) (aj (aE _) (aj (aE _) aG)))) (oQ [] Tryz.f5 h)
def EF(a0:ByteArray)(a1:ByteArray)(a2:ByteArray)(a3:ByteArray):Tree :=
 .call 15 [VS a0,VS a1] [] fun r1 o1=>NT r1<|NP (r1.comp 0)<|NP (r1.comp 1)<|.call 15 [VS a0,VS a2] [] fun r2 o2=>NT r2<|NP (r2.comp 0)<|NP (r2.comp 1)<|.call 15 [VS a0,VS a3] [] fun r3 o3=>NT r3<|NP (r3.comp 0)<|NP (r3.comp 1)<|NP (r1.comp 1)<|.test ((r1.comp 1).isNil) (.done 0 [.cQ [VS (mk []),VI 0,VB false]] []) (NP (r2.comp 1)<|.test ((r2.comp 1).isNil) (.done 0 [.cQ [VS (mk []),VI 0,VB false]] []) (NP (r3.comp 1)<|.test ((r3.comp 1).isNil) (.done 0 [.cQ [VS (mk []),VI 0,VB false]] []) (.call 16 [(r1.comp 1),.ref 0 0,.ref 1 0,.ref 2 0,.ref 3 0,.dS 16 [some 0,some 1,some 2,some 3,none]] [.cells [(r2.comp 1)],.cells [VI 0],.cells [(r3.comp 1)],.cells [(r1.comp 0)]] fun r4 o4=>.ax ((o4.hO)=.cells (o4.hO).cs)<|.ax (cm [.lk .ptr] ((o4.hO).cs) 0 1 o4.tail)<|.ax ((o4.tail.hO)=.cells (o4.tail.hO).cs)<|.ax (cm [.lk (.int .i64)] ((o4.tail.hO).cs) 0 2 o4.tail.tail)<|.ax ((o4.tail.tail.hO)=.cells (o4.tail.tail.hO).cs)<|.ax (cm [.lk .ptr] ((o4.tail.tail.hO).cs) 0 3 o4.tail.tail.tail)<|.ax ((o4.tail.tail.tail.hO)=.cells (o4.tail.tail.tail.hO).cs)<|.ax (cm [.lk .ptr] ((o4.tail.tail.tail.hO).cs) 0 4 o4.tail.tail.tail.tail)<|NP r4<|.call 21 [r4] [] fun r5 o5=>NT r5<|NS (r5.comp 0)<|NB (r5.comp 1)<|.test (!((r5.comp 1).toBool)) (.done 0 [.cQ [VS (mk []),VI 0,VB false]] []) (.done 0 [.cQ [VS ((r5.comp 0).toStr),VI (((o4.tail.hO).cs.getD 0 .any).toInt),VB true]] []))))
theorem Im(a0:ByteArray)(a1:ByteArray)(a2:ByteArray)(a3:ByteArray)(h:eN 61 (EF a0 a1 a2 a3) R):ay Tryz.prog 6 [VS a0,VS a1,VS a2,VS a3] [] R :=
 uQ (aj (aE _) (aj (aE _) (aj (aE _) (aj (aE _) aG)))) (oQ [] Tryz.f6 h)
def E8(a0:ByteArray):Tree :=
 .call 28 [VS a0] [] fun r1 o1=>NT r1<|.ax ((r1.comp 0)=.agg (r1.comp 0).cs/\(r1.comp 0).cs.length=2/\bT [.str,.sl] ((r1.comp 0).cs) 0)<|NB (r1.comp 1)<|.test ((r1.comp 1).toBool) (.call 29 [.agg [VS (((r1.comp 0).cs.getD 0 .any).toStr),((r1.comp 0).cs.getD 1 .any)]] [] fun r2 o2=>NS r2<|.done 0 [.cQ [.agg [VS (((r1.comp 0).cs.getD 0 .any).toStr),((r1.comp 0).cs.getD 1 .any)],VB (ab r2.toStr==ab (mk [114,101,99]))]] []) (.done 0 [.cQ [.agg [VS (((r1.comp 0).cs.getD 0 .any).toStr),((r1.comp 0).cs.getD 1 .any)],VB false]] [])
theorem Hk(a0:ByteArray)(h:eN 18 (E8 a0) R):ay Tryz.prog 9 [VS a0] [] R :=
 uQ (aj (aE _) aG) (oQ [] Tryz.f9 h)
def FD(a0:ByteArray)(a1:ByteArray)(a2:Int):Tree :=
 .call 28 [VS a0] [] fun r1 o1=>NT r1<|.ax ((r1.comp 0)=.agg (r1.comp 0).cs/\(r1.comp 0).cs.length=2/\bT [.str,.sl] ((r1.comp 0).cs) 0)<|NB (r1.comp 1)<|.call 11 [VS a1] [] fun r2 o2=>NT r2<|.ax ((r2.comp 0)=.agg (r2.comp 0).cs/\(r2.comp 0).cs.length=2/\bT [.str,.sl] ((r2.comp 0).cs) 0)<|NB (r2.comp 1)<|.test ((r1.comp 1).toBool) (.test ((r2.comp 1).toBool) (.call 30 [VI a2,VI 0,VI 100] [] fun r3 o3=>NB r3<|.test r3.toBool (.call 31 [.agg [VS (((r1.comp 0).cs.getD 0 .any).toStr),((r1.comp 0).cs.getD 1 .any)],.sl [],.agg [VS (((r2.comp 0).cs.getD 0 .any).toStr),((r2.comp 0).cs.getD 1 .any)],VI a2] [] fun r4 o4=>NB r4<|.done 0 [VB r4.toBool] []) (.done 0 [VB false] [])) (.done 0 [VB false] [])) (.done 0 [VB false] [])
theorem IW(a0:ByteArray)(a1:ByteArray)(a2:Int)(h:eN 36 (FD a0 a1 a2) R):ay Tryz.prog 10 [VS a0,VS a1,VI a2] [] R :=
 uQ (aj (aE _) (aj (aE _) (aj (aE _) aG))) (oQ [] Tryz.f10 h)
def Gd(a0:ByteArray):Tree :=
 .call 32 [VS a0] [] fun r1 o1=>NT r1<|.ax ((r1.comp 0)=.agg (r1.comp 0).cs/\(r1.comp 0).cs.length=2/\bT [.str,.sl] ((r1.comp 0).cs) 0)<|NB (r1.comp 1)<|.test ((r1.comp 1).toBool) (.call 33 [.agg [VS (((r1.comp 0).cs.getD 0 .any).toStr),((r1.comp 0).cs.getD 1 .any)]] [] fun r2 o2=>NB r2<|.test r2.toBool (.call 13 [.agg [VS (((r1.comp 0).cs.getD 0 .any).toStr),((r1.comp 0).cs.getD 1 .any)]] [] fun r3 o3=>NI r3<|.done 0 [.cQ [.agg [VS (((r1.comp 0).cs.getD 0 .any).toStr),((r1.comp 0).cs.getD 1 .any)],VB (decide (r3.toInt<=(200:Int)))]] []) (.done 0 [.cQ [.agg [VS (((r1.comp 0).cs.getD 0 .any).toStr),((r1.comp 0).cs.getD 1 .any)],VB false]] [])) (.done 0 [.cQ [.agg [VS (((r1.comp 0).cs.getD 0 .any).toStr),((r1.comp 0).cs.getD 1 .any)],VB false]] [])
theorem IB(a0:ByteArray)(h:eN 22 (Gd a0) R):ay Tryz.prog 11 [VS a0] [] R :=
 uQ (aj (aE _) aG) (oQ [] Tryz.f11 h)
def Dg:LI:={hd:={bY:=[(2,.k .str),(10,.k .str),(11,.k (.int .i64)),(12,.k (.int .i64)),(13,.k (.int .i64))],refs:=[(4,4),(5,5),(7,7),(8,8)],cD:=[(4,[.lk .str,.lk .sl]),(5,[.lk .str,.lk .sl]),(7,[.lk .str,.lk .sl]),(8,[.lk .str,.lk .sl])]},xs:={bY:=[(12,.k (.int .i64))],refs:=[(5,5),(8,8)],cD:=[(5,[.lk .str,.lk .sl]),(8,[.lk .str,.lk .sl])]},rt:={},ex:=0}
def Fs:Code:=dE (dr Tryz.f12) 7
def GM:List (Nat×LI):=[(7,Dg)]
def Ge(a0_0:ByteArray)(a0_1:AV)(a1_0:ByteArray)(a1_1:AV)(a2:ByteArray)(a3_0:ByteArray)(a3_1:AV):Tree :=
 .call 14 [.agg [VS a1_0,a1_1]] [] fun r1 o1=>NS r1<|.test (ab r1.toStr==ab a2) (.done 0 [.cQ [.agg [VS a3_0,a3_1],VI 1]] []) (NG a0_1 1 2<|sb (a0_1.ix (1:Int))<|NG a0_1 2 2<|NE (a0_1.ix (2:Int))<|NG a1_1 1 2<|NE (a1_1.ix (1:Int))<|.call 34 [.agg [VS (((a0_1.ix (2:Int)).getD 0 .any).toStr),((a0_1.ix (2:Int)).getD 1 .any)],VS (((a0_1.ix (1:Int)).hA).toStr),.agg [VS (((a1_1.ix (1:Int)).getD 0 .any).toStr),((a1_1.ix (1:Int)).getD 1 .any)]] [] fun r2 o2=>NL r2<|NL r2<|.loop Fs Dg [VS a2,VS (((a0_1.ix (1:Int)).hA).toStr),VI (r2.elems.length:Int),VI 0,VI 0] [.cells [VS a0_0,a0_1],.cells [VS a1_0,a1_1],.cells [VS a3_0,a3_1],.cells [VS (mk []),.v (.slice none 0 0)]] (fun y7 q7=>NI (y7.hA)<|.ax ((q7.hO)=.cells (q7.hO).cs)<|.ax (ah [.lk .str,.lk .sl] ((q7.hO).cs) 0 q7.tail)<|.ax (((q7.tail.drop 0).hO)=.cells ((q7.tail.drop 0).hO).cs)<|.ax (ah [.lk .str,.lk .sl] (((q7.tail.drop 0).hO).cs) 0 ((q7.tail.drop 0).tail))<|.done 0 [.cQ [.agg [VS (((q7.hO).cs.getD 0 .any).toStr),((q7.hO).cs.getD 1 .any)],VI ((y7.hA).toInt)]] []) (fun y7 q7=>.fail))
theorem HO(a0_0:ByteArray)(a0_1:AV)(a1_0:ByteArray)(a1_1:AV)(a2:ByteArray)(a3_0:ByteArray)(a3_1:AV)(ha0_1:LK.has .sl a0_1)(ha1_1:LK.has .sl a1_1)(ha3_1:LK.has .sl a3_1)(h:eN 81 (Ge a0_0 a0_1 a1_0 a1_1 a2 a3_0 a3_1) R):ay Tryz.prog 12 [.agg [VS a0_0,a0_1],.agg [VS a1_0,a1_1],VS a2,.agg [VS a3_0,a3_1]] [] R :=
 uQ (aj (dc (aj (aE _) (aj (dy ha0_1) aG))) (aj (dc (aj (aE _) (aj (dy ha1_1) aG))) (aj (aE _) (aj (dc (aj (aE _) (aj (dy ha3_1) aG))) aG)))) (oQ GM Tryz.f12 h)
def C7(x2:ByteArray)(x10:ByteArray)(x11:Int)(x12:Int)(x13:Int)(o4_0:ByteArray)(o4_1:AV)(o5_0:ByteArray)(o5_1:AV)(o7_0:ByteArray)(o7_1:AV)(o8_0:ByteArray)(o8_1:AV):Tree :=
 NS (VS x2)<|NS (VS x10)<|NI (VI x11)<|NI (VI x12)<|NI (VI x13)<|.ax (Ob.cells [VS o4_0,o4_1]=.cells [VS o4_0,o4_1])<|.ax (ah [.lk .str,.lk .sl] [VS o4_0,o4_1] 0 [.cells [VS o5_0,o5_1],.cells [VS o7_0,o7_1],.cells [VS o8_0,o8_1]])<|.ax (Ob.cells [VS o5_0,o5_1]=.cells [VS o5_0,o5_1])<|.ax (ah [.lk .str,.lk .sl] [VS o5_0,o5_1] 0 [.cells [VS o7_0,o7_1],.cells [VS o8_0,o8_1]])<|.ax (Ob.cells [VS o7_0,o7_1]=.cells [VS o7_0,o7_1])<|.ax (ah [.lk .str,.lk .sl] [VS o7_0,o7_1] 0 [.cells [VS o8_0,o8_1]])<|.ax (Ob.cells [VS o8_0,o8_1]=.cells [VS o8_0,o8_1])<|.ax (ah [.lk .str,.lk .sl] [VS o8_0,o8_1] 0 [])<|.test (decide (x13<x11)) (NG o4_1 2 2<|NE (o4_1.ix (2:Int))<|NG o5_1 1 2<|NE (o5_1.ix (1:Int))<|.call 34 [.agg [VS (((o4_1.ix (2:Int)).getD 0 .any).toStr),((o4_1.ix (2:Int)).getD 1 .any)],VS x10,.agg [VS (((o5_1.ix (1:Int)).getD 0 .any).toStr),((o5_1.ix (1:Int)).getD 1 .any)]] [] fun r1 o1=>NL r1<|NG r1 x13 4<|.ax (bT [.str,.sl,.str,.sl] (r1.ix x13) 0/\4<=(r1.ix x13).length)<|.call 12 [.agg [VS o4_0,o4_1],.agg [VS (((r1.ix x13).getD 2 .any).toStr),((r1.ix x13).getD 3 .any)],VS x2,.agg [VS o7_0,o7_1]] [] fun r2 o2=>NT r2<|.ax ((r2.comp 0)=.agg (r2.comp 0).cs/\(r2.comp 0).cs.length=2/\bT [.str,.sl] ((r2.comp 0).cs) 0)<|NI (r2.comp 1)<|NG o4_1 2 2<|NE (o4_1.ix (2:Int))<|.call 36 [.agg [VS (((o4_1.ix (2:Int)).getD 0 .any).toStr),((o4_1.ix (2:Int)).getD 1 .any)],VS x10,.agg [VS (((r1.ix x13).getD 0 .any).toStr),((r1.ix x13).getD 1 .any)],.agg [VS (((r2.comp 0).cs.getD 0 .any).toStr),((r2.comp 0).cs.getD 1 .any)]] [] fun r3 o3=>NA r3<|.call 35 [VS (mk [102]),.sl [[VS ((r3.cs.getD 0 .any).toStr),(r3.cs.getD 1 .any)]]] [] fun r4 o4=>NA r4<|.done 0 [VS x2,VS x10,VI x11,VI (IntKind.wrap .i64 (x12+((r2.comp 1).toInt))),VI (IntKind.wrap .i64 (x13+1))] [.cells [VS o4_0,o4_1],.cells [VS ((r4.cs.getD 0 .any).toStr),(r4.cs.getD 1 .any)],.cells [VS o7_0,o7_1],.cells [VS o8_0,o8_1]]) (.done 1 [VI x12] [.cells [VS o5_0,o5_1],.cells [VS o8_0,o8_1]])
abbrev Cq:=cL Tryz.prog 81 Fs Dg
theorem E0(x2:ByteArray)(x10:ByteArray)(x11:Int)(x12:Int)(x13:Int)(o4_0:ByteArray)(o4_1:AV)(o5_0:ByteArray)(o5_1:AV)(o7_0:ByteArray)(o7_1:AV)(o8_0:ByteArray)(o8_1:AV)(h:px 81 (C7 x2 x10 x11 x12 x13 o4_0 o4_1 o5_0 o5_1 o7_0 o7_1 o8_0 o8_1) Cq U):Cq [VS x2,VS x10,VI x11,VI x12,VI x13] [.cells [VS o4_0,o4_1],.cells [VS o5_0,o5_1],.cells [VS o7_0,o7_1],.cells [VS o8_0,o8_1]] U :=
 gQ GM h
def CP:LI:={hd:={bY:=[(3,.k (.int .i64)),(4,.k (.int .i64))],refs:=[(1,1)],cD:=[(1,[.lk .str,.lk .sl])]},xs:={bY:=[(3,.k (.int .i64))]},rt:={},ex:=0}
def GA:Code:=dE (dr Tryz.f13) 3
def EE:List (Nat×LI):=[(3,CP)]
def Bw(a0_0:ByteArray)(a0_1:AV):Tree :=
 .loop GA CP [VI 1,VI 1] [.cells [VS a0_0,a0_1]] (fun y2 q2=>NI (y2.hA)<|.done 0 [VI ((y2.hA).toInt)] []) (fun y2 q2=>.done 0 [.any] [])
theorem Eo(a0_0:ByteArray)(a0_1:AV)(ha0_1:LK.has .sl a0_1)(h:eN 21 (Bw a0_0 a0_1) R):ay Tryz.prog 13 [.agg [VS a0_0,a0_1]] [] R :=
 uQ (aj (dc (aj (aE _) (aj (dy ha0_1) aG))) aG) (oQ EE Tryz.f13 h)
def wS(x3:Int)(x4:Int)(o1_0:ByteArray)(o1_1:AV):Tree :=
 NI (VI x3)<|NI (VI x4)<|.ax (Ob.cells [VS o1_0,o1_1]=.cells [VS o1_0,o1_1])<|.ax (ah [.lk .str,.lk .sl] [VS o1_0,o1_1] 0 [])<|NL o1_1<|.test (decide (x4<(o1_1.elems.length:Int))) (NG o1_1 x4 2<|NE (o1_1.ix x4)<|.call 13 [.agg [VS (((o1_1.ix x4).getD 0 .any).toStr),((o1_1.ix x4).getD 1 .any)]] [] fun r1 o1=>NI r1<|.done 0 [VI (IntKind.wrap .i64 (x3+r1.toInt)),VI (IntKind.wrap .i64 (x4+1))] [.cells [VS o1_0,o1_1]]) (.done 1 [VI x3] [])
abbrev xW:=cL Tryz.prog 21 GA CP
theorem Aq(x3:Int)(x4:Int)(o1_0:ByteArray)(o1_1:AV)(h:px 21 (wS x3 x4 o1_0 o1_1) xW U):xW [VI x3,VI x4] [.cells [VS o1_0,o1_1]] U :=
 gQ EE h
def Bv:LI:={hd:={bY:=[(3,.k .str),(4,.k (.int .i64))],refs:=[(1,1)],cD:=[(1,[.lk .str,.lk .sl])]},xs:={bY:=[(3,.k .str)]},rt:={},ex:=0}
def Gt:Code:=dE (dr Tryz.f14) 5
def D8:List (Nat×LI):=[(5,Bv)]
def Aa(a0_0:ByteArray)(a0_1:AV):Tree :=
 .test (!(ab a0_0==ab (mk []))) (.done 0 [VS a0_0] []) (.loop Gt Bv [VS (mk [40]),VI 0] [.cells [VS a0_0,a0_1]] (fun y3 q3=>NS (y3.hA)<|.ax (ag ((y3.hA).toStr)+ag (mk [41])<=9223372036854775807)<|.done 0 [VS ((((y3.hA).toStr):ByteArray)++(mk [41]))] []) (fun y3 q3=>.done 0 [.any] []))
theorem Bf(a0_0:ByteArray)(a0_1:AV)(ha0_1:LK.has .sl a0_1)(h:eN 31 (Aa a0_0 a0_1) R):ay Tryz.prog 14 [.agg [VS a0_0,a0_1]] [] R :=
 uQ (aj (dc (aj (aE _) (aj (dy ha0_1) aG))) aG) (oQ D8 Tryz.f14 h)
def wL(x3:ByteArray)(x4:Int)(o1_0:ByteArray)(o1_1:AV):Tree :=
 NS (VS x3)<|NI (VI x4)<|.ax (Ob.cells [VS o1_0,o1_1]=.cells [VS o1_0,o1_1])<|.ax (ah [.lk .str,.lk .sl] [VS o1_0,o1_1] 0 [])<|NL o1_1<|.test (decide (x4<(o1_1.elems.length:Int))) (.test (decide (x4>(0:Int))) (.ax (ag x3+ag (mk [32])<=9223372036854775807)<|NG o1_1 x4 2<|NE (o1_1.ix x4)<|.call 14 [.agg [VS (((o1_1.ix x4).getD 0 .any).toStr),((o1_1.ix x4).getD 1 .any)]] [] fun r1 o1=>NS r1<|.ax (ag ((x3:ByteArray)++(mk [32]))+ag r1.toStr<=9223372036854775807)<|.done 0 [VS ((((x3:ByteArray)++(mk [32])):ByteArray)++r1.toStr),VI (IntKind.wrap .i64 (x4+1))] [.cells [VS o1_0,o1_1]]) (NG o1_1 x4 2<|NE (o1_1.ix x4)<|.call 14 [.agg [VS (((o1_1.ix x4).getD 0 .any).toStr),((o1_1.ix x4).getD 1 .any)]] [] fun r2 o2=>NS r2<|.ax (ag x3+ag r2.toStr<=9223372036854775807)<|.done 0 [VS ((x3:ByteArray)++r2.toStr),VI (IntKind.wrap .i64 (x4+1))] [.cells [VS o1_0,o1_1]])) (.done 1 [VS x3] [])
abbrev xA:=cL Tryz.prog 31 Gt Bv
theorem zE(x3:ByteArray)(x4:Int)(o1_0:ByteArray)(o1_1:AV)(h:px 31 (wL x3 x4 o1_0 o1_1) xA U):xA [VS x3,VI x4] [.cells [VS o1_0,o1_1]] U :=
 gQ D8 h
def DG(a0:ByteArray)(a1:ByteArray):Tree :=
 .call 37 [VS a0] [] fun r1 o1=>NP r1<|NP r1<|.test r1.isNil (.done 0 [.cQ [.v (.pointer none),.v (.pointer none)]] []) (.call 27 [VS a0,VS a1,VI 100] [] fun r2 o2=>NT r2<|NP (r2.comp 0)<|NP (r2.comp 1)<|.done 0 [.cQ [(r2.comp 0),(r2.comp 1)]] [])
theorem Ij(a0:ByteArray)(a1:ByteArray)(h:eN 14 (DG a0 a1) R):ay Tryz.prog 15 [VS a0,VS a1] [] R :=
 uQ (aj (aE _) (aj (aE _) aG)) (oQ [] Tryz.f15 h)
def Gq(a0:AV)(a1_0:AV)(a2_0:Int)(a3_0:AV)(a4_0:AV):Tree :=
 .call 17 [a0] [] fun r1 o1=>NS r1<|.call 17 [a1_0] [] fun r2 o2=>NS r2<|.test (ab r1.toStr==ab r2.toStr) (.done 0 [a3_0] [.cells [a1_0],.cells [VI (IntKind.wrap .i64 (a2_0+1))],.cells [a3_0],.cells [a4_0]]) (.call 18 [.agg [a4_0,.v (.pointer none)]] [] fun r3 o3=>NT r3<|.ax ((r3.comp 0)=.agg (r3.comp 0).cs/\(r3.comp 0).cs.length=2/\bT [.ptr,.ptr] ((r3.comp 0).cs) 0)<|NP (r3.comp 1)<|NZ a0<|NZ a0<|gk (a0.deref.drop 2)<|.call 20 [.agg [((r3.comp 0).cs.getD 0 .any),((r3.comp 0).cs.getD 1 .any)],((a0.deref.drop 2).hA),(r3.comp 1),.fn 16 [.ref 0 0,.ref 1 0,.ref 2 0,.ref 3 0,.dS 16 [some 0,some 1,some 2,some 3,none]]] [.cells [a1_0],.cells [VI a2_0],.cells [a3_0],.cells [a4_0]] fun r4 o4=>.ax ((o4.hO)=.cells (o4.hO).cs)<|.ax (cm [.lk .ptr] ((o4.hO).cs) 0 1 o4.tail)<|.ax ((o4.tail.hO)=.cells (o4.tail.hO).cs)<|.ax (cm [.lk (.int .i64)] ((o4.tail.hO).cs) 0 2 o4.tail.tail)<|.ax ((o4.tail.tail.hO)=.cells (o4.tail.tail.hO).cs)<|.ax (cm [.lk .ptr] ((o4.tail.tail.hO).cs) 0 3 o4.tail.tail.tail)<|.ax ((o4.tail.tail.tail.hO)=.cells (o4.tail.tail.tail.hO).cs)<|.ax (cm [.lk .ptr] ((o4.tail.tail.tail.hO).cs) 0 4 o4.tail.tail.tail.tail)<|NP r4<|.call 19 [.v (.int .u8 102),r4] [] fun r5 o5=>NP r5<|.done 0 [r5] [.cells [((o4.hO).cs.getD 0 .any)],.cells [VI (((o4.tail.hO).cs.getD 0 .any).toInt)],.cells [((o4.tail.tail.hO).cs.getD 0 .any)],.cells [((o4.tail.tail.tail.hO).cs.getD 0 .any)]])
theorem HR(a0:AV)(a1_0:AV)(a2_0:Int)(a3_0:AV)(a4_0:AV)(ha0:LK.has .ptr a0)(ha1_0:LK.has .ptr a1_0)(ha3_0:LK.has .ptr a3_0)(ha4_0:LK.has .ptr a4_0)(h:eN 33 (Gq a0 a1_0 a2_0 a3_0 a4_0) R):ay Tryz.prog 16 [a0,.ref 0 0,.ref 1 0,.ref 2 0,.ref 3 0,.dS 16 [some 0,some 1,some 2,some 3,none]] [.cells [a1_0],.cells [VI a2_0],.cells [a3_0],.cells [a4_0]] R :=
 ay.Bq (dm (eu (aj (ck ha1_0) aG)) (dm (eu (aj (aE _) aG)) (dm (eu (aj (ck ha3_0) aG)) (dm (eu (aj (ck ha4_0) aG)) iP)))) (ay.up (aj (ck ha0) (aj (aE _) (aj (aE _) (aj (aE _) (aj (aE _) (aj (aE _) aG)))))) (oF [] {mu:=[(1,.one (.obj [.lk .ptr])),(2,.one (.obj [.lk (.int .i64)])),(3,.one (.obj [.lk .ptr])),(4,.one (.obj [.lk .ptr])),(5,.AT 16 [some 0,some 1,some 2,some 3,none])],own:=[]} Tryz.f16 h))
def A7(a0:AV):Tree :=
 NZ a0<|NZ a0<|.ax (LK.has (.int .u8) (a0.deref.hA)/\1<=a0.deref.length)<|.test (((a0.deref.hA).toInt)==(117:Int)) (.done 0 [VS (mk [117])] []) (.test (((a0.deref.hA).toInt)==(101:Int)) (NZ a0<|NZ a0<|sb (a0.deref.drop 1)<|.done 0 [VS (((a0.deref.drop 1).hA).toStr)] []) (.test (((a0.deref.hA).toInt)==(112:Int)) (NZ a0<|NZ a0<|gk (a0.deref.drop 2)<|.call 17 [((a0.deref.drop 2).hA)] [] fun r1 o1=>NS r1<|.ax (ag (mk [40,112,32])+ag r1.toStr<=9223372036854775807)<|.ax (ag (((mk [40,112,32]):ByteArray)++r1.toStr)+ag (mk [32])<=9223372036854775807)<|NZ a0<|NZ a0<|gk (a0.deref.drop 3)<|.call 17 [((a0.deref.drop 3).hA)] [] fun r2 o2=>NS r2<|.ax (ag (((((mk [40,112,32]):ByteArray)++r1.toStr):ByteArray)++(mk [32]))+ag r2.toStr<=9223372036854775807)<|.ax (ag (((((((mk [40,112,32]):ByteArray)++r1.toStr):ByteArray)++(mk [32])):ByteArray)++r2.toStr)+ag (mk [41])<=9223372036854775807)<|.done 0 [VS (((((((((mk [40,112,32]):ByteArray)++r1.toStr):ByteArray)++(mk [32])):ByteArray)++r2.toStr):ByteArray)++(mk [41]))] []) (NZ a0<|NZ a0<|.ax (LK.has (.int .u8) (a0.deref.hA)/\1<=a0.deref.length)<|.ax (mC [[.v (.int .u8 ((a0.deref.hA).toInt))]])<|.ax (ag (mk [40])+ag (⟨(bytesOf [[.v (.int .u8 ((a0.deref.hA).toInt))]]).toArray⟩)<=9223372036854775807)<|.ax (ag (((mk [40]):ByteArray)++(⟨(bytesOf [[.v (.int .u8 ((a0.deref.hA).toInt))]]).toArray⟩))+ag (mk [32])<=9223372036854775807)<|NZ a0<|NZ a0<|gk (a0.deref.drop 2)<|.call 17 [((a0.deref.drop 2).hA)] [] fun r3 o3=>NS r3<|.ax (ag (((((mk [40]):ByteArray)++(⟨(bytesOf [[.v (.int .u8 ((a0.deref.hA).toInt))]]).toArray⟩)):ByteArray)++(mk [32]))+ag r3.toStr<=9223372036854775807)<|.ax (ag (((((((mk [40]):ByteArray)++(⟨(bytesOf [[.v (.int .u8 ((a0.deref.hA).toInt))]]).toArray⟩)):ByteArray)++(mk [32])):ByteArray)++r3.toStr)+ag (mk [41])<=9223372036854775807)<|.done 0 [VS (((((((((mk [40]):ByteArray)++(⟨(bytesOf [[.v (.int .u8 ((a0.deref.hA).toInt))]]).toArray⟩)):ByteArray)++(mk [32])):ByteArray)++r3.toStr):ByteArray)++(mk [41]))] [])))
theorem Dk(a0:AV)(ha0:LK.has .ptr a0)(h:eN 46 (A7 a0) R):ay Tryz.prog 17 [a0] [] R :=
 uQ (aj (ck ha0) aG) (oQ [] Tryz.f17 h)
def Eg(a0_0:AV)(a0_1:AV):Tree :=
 NZ a0_0<|NZ a0_0<|gk (a0_0.deref.drop 3)<|.done 0 [.cQ [.agg [((a0_0.deref.drop 3).hA),.ptr [.ptr [a0_0,a0_1],a0_1]],.ptr [a0_0,a0_1]]] []
theorem HZ(a0_0:AV)(a0_1:AV)(ha0_0:LK.has .ptr a0_0)(ha0_1:LK.has .ptr a0_1)(h:eN 20 (Eg a0_0 a0_1) R):ay Tryz.prog 18 [.agg [a0_0,a0_1]] [] R :=
 uQ (aj (dc (aj (ck ha0_0) (aj (ck ha0_1) aG))) aG) (oQ [] Tryz.f18 h)
def Gy(a0:Int)(a1:AV):Tree :=
 .done 0 [.ptr [.v (.int .u8 a0),VS (mk []),a1,.v (.pointer none)]] []
theorem Ic(a0:Int)(a1:AV)(ha1:LK.has .ptr a1)(h:eN 9 (Gy a0 a1) R):ay Tryz.prog 19 [.v (.int .u8 a0),a1] [] R :=
 uQ (aj (aE _) (aj (ck ha1) aG)) (oQ [] Tryz.f19 h)
def BL(a0_0:AV)(a0_1:AV)(a1:AV)(a2:AV)(a3_0_0:AV)(a3_1_0:Int)(a3_2_0:AV)(a3_3_0:AV):Tree :=
 NZ a0_0<|NZ a0_0<|.ax (LK.has (.int .u8) (a0_0.deref.hA)/\1<=a0_0.deref.length)<|.test (((a0_0.deref.hA).toInt)==(98:Int)) (.call 38 [.agg [a0_0,a0_1]] [] fun r1 o1=>NP r1<|.ax (AV.oR r1/\AV.oR a2)<|.test (AV.xq r1 a2) (.call 16 [a1,.ref 0 0,.ref 1 0,.ref 2 0,.ref 3 0,.dS 16 [some 0,some 1,some 2,some 3,none]] [.cells [a3_0_0],.cells [VI a3_1_0],.cells [a3_2_0],.cells [a3_3_0]] fun r2 o2=>.ax ((o2.hO)=.cells (o2.hO).cs)<|.ax (cm [.lk .ptr] ((o2.hO).cs) 0 1 o2.tail)<|.ax ((o2.tail.hO)=.cells (o2.tail.hO).cs)<|.ax (cm [.lk (.int .i64)] ((o2.tail.hO).cs) 0 2 o2.tail.tail)<|.ax ((o2.tail.tail.hO)=.cells (o2.tail.tail.hO).cs)<|.ax (cm [.lk .ptr] ((o2.tail.tail.hO).cs) 0 3 o2.tail.tail.tail)<|.ax ((o2.tail.tail.tail.hO)=.cells (o2.tail.tail.tail.hO).cs)<|.ax (cm [.lk .ptr] ((o2.tail.tail.tail.hO).cs) 0 4 o2.tail.tail.tail.tail)<|NP r2<|.done 0 [r2] [.cells [((o2.hO).cs.getD 0 .any)],.cells [VI (((o2.tail.hO).cs.getD 0 .any).toInt)],.cells [((o2.tail.tail.hO).cs.getD 0 .any)],.cells [((o2.tail.tail.tail.hO).cs.getD 0 .any)]]) (.call 38 [.agg [a0_0,a0_1]] [] fun r3 o3=>NP r3<|NZ r3<|NZ r3<|.ax (bT [.ptr,.ptr] r3.deref 0/\2<=r3.deref.length)<|.call 20 [.agg [(r3.deref.getD 0 .any),(r3.deref.getD 1 .any)],a1,a2,.fn 16 [.ref 0 0,.ref 1 0,.ref 2 0,.ref 3 0,.dS 16 [some 0,some 1,some 2,some 3,none]]] [.cells [a3_0_0],.cells [VI a3_1_0],.cells [a3_2_0],.cells [a3_3_0]] fun r4 o4=>.ax ((o4.hO)=.cells (o4.hO).cs)<|.ax (cm [.lk .ptr] ((o4.hO).cs) 0 1 o4.tail)<|.ax ((o4.tail.hO)=.cells (o4.tail.hO).cs)<|.ax (cm [.lk (.int .i64)] ((o4.tail.hO).cs) 0 2 o4.tail.tail)<|.ax ((o4.tail.tail.hO)=.cells (o4.tail.tail.hO).cs)<|.ax (cm [.lk .ptr] ((o4.tail.tail.hO).cs) 0 3 o4.tail.tail.tail)<|.ax ((o4.tail.tail.tail.hO)=.cells (o4.tail.tail.tail.hO).cs)<|.ax (cm [.lk .ptr] ((o4.tail.tail.tail.hO).cs) 0 4 o4.tail.tail.tail.tail)<|NP r4<|.done 0 [r4] [.cells [((o4.hO).cs.getD 0 .any)],.cells [VI (((o4.tail.hO).cs.getD 0 .any).toInt)],.cells [((o4.tail.tail.hO).cs.getD 0 .any)],.cells [((o4.tail.tail.tail.hO).cs.getD 0 .any)]])) (.test (((a0_0.deref.hA).toInt)==(43:Int)) (NZ a1<|NZ a1<|.ax (LK.has (.int .u8) (a1.deref.hA)/\1<=a1.deref.length)<|.test (((a1.deref.hA).toInt)==(108:Int)) (.call 39 [.agg [a0_0,a0_1]] [] fun r5 o5=>.ax (r5=.agg r5.cs/\r5.cs.length=2/\bT [.ptr,.ptr] r5.cs 0)<|NZ a1<|NZ a1<|gk (a1.deref.drop 2)<|.call 20 [.agg [(r5.cs.getD 0 .any),(r5.cs.getD 1 .any)],((a1.deref.drop 2).hA),a2,.fn 16 [.ref 0 0,.ref 1 0,.ref 2 0,.ref 3 0,.dS 16 [some 0,some 1,some 2,some 3,none]]] [.cells [a3_0_0],.cells [VI a3_1_0],.cells [a3_2_0],.cells [a3_3_0]] fun r6 o6=>.ax ((o6.hO)=.cells (o6.hO).cs)<|.ax (cm [.lk .ptr] ((o6.hO).cs) 0 1 o6.tail)<|.ax ((o6.tail.hO)=.cells (o6.tail.hO).cs)<|.ax (cm [.lk (.int .i64)] ((o6.tail.hO).cs) 0 2 o6.tail.tail)<|.ax ((o6.tail.tail.hO)=.cells (o6.tail.tail.hO).cs)<|.ax (cm [.lk .ptr] ((o6.tail.tail.hO).cs) 0 3 o6.tail.tail.tail)<|.ax ((o6.tail.tail.tail.hO)=.cells (o6.tail.tail.tail.hO).cs)<|.ax (cm [.lk .ptr] ((o6.tail.tail.tail.hO).cs) 0 4 o6.tail.tail.tail.tail)<|NP r6<|.call 19 [.v (.int .u8 108),r6] [] fun r7 o7=>NP r7<|.done 0 [r7] [.cells [((o6.hO).cs.getD 0 .any)],.cells [VI (((o6.tail.hO).cs.getD 0 .any).toInt)],.cells [((o6.tail.tail.hO).cs.getD 0 .any)],.cells [((o6.tail.tail.tail.hO).cs.getD 0 .any)]]) (.call 40 [.agg [a0_0,a0_1]] [] fun r8 o8=>.ax (r8=.agg r8.cs/\r8.cs.length=2/\bT [.ptr,.ptr] r8.cs 0)<|NZ a1<|NZ a1<|gk (a1.deref.drop 2)<|.call 20 [.agg [(r8.cs.getD 0 .any),(r8.cs.getD 1 .any)],((a1.deref.drop 2).hA),a2,.fn 16 [.ref 0 0,.ref 1 0,.ref 2 0,.ref 3 0,.dS 16 [some 0,some 1,some 2,some 3,none]]] [.cells [a3_0_0],.cells [VI a3_1_0],.cells [a3_2_0],.cells [a3_3_0]] fun r9 o9=>.ax ((o9.hO)=.cells (o9.hO).cs)<|.ax (cm [.lk .ptr] ((o9.hO).cs) 0 1 o9.tail)<|.ax ((o9.tail.hO)=.cells (o9.tail.hO).cs)<|.ax (cm [.lk (.int .i64)] ((o9.tail.hO).cs) 0 2 o9.tail.tail)<|.ax ((o9.tail.tail.hO)=.cells (o9.tail.tail.hO).cs)<|.ax (cm [.lk .ptr] ((o9.tail.tail.hO).cs) 0 3 o9.tail.tail.tail)<|.ax ((o9.tail.tail.tail.hO)=.cells (o9.tail.tail.tail.hO).cs)<|.ax (cm [.lk .ptr] ((o9.tail.tail.tail.hO).cs) 0 4 o9.tail.tail.tail.tail)<|NP r9<|.call 19 [.v (.int .u8 114),r9] [] fun r10 o10=>NP r10<|.done 0 [r10] [.cells [((o9.hO).cs.getD 0 .any)],.cells [VI (((o9.tail.hO).cs.getD 0 .any).toInt)],.cells [((o9.tail.tail.hO).cs.getD 0 .any)],.cells [((o9.tail.tail.tail.hO).cs.getD 0 .any)]])) (.test (((a0_0.deref.hA).toInt)==(42:Int)) (.call 39 [.agg [a0_0,a0_1]] [] fun r11 o11=>.ax (r11=.agg r11.cs/\r11.cs.length=2/\bT [.ptr,.ptr] r11.cs 0)<|NZ a1<|NZ a1<|gk (a1.deref.drop 2)<|.call 20 [.agg [(r11.cs.getD 0 .any),(r11.cs.getD 1 .any)],((a1.deref.drop 2).hA),a2,.fn 16 [.ref 0 0,.ref 1 0,.ref 2 0,.ref 3 0,.dS 16 [some 0,some 1,some 2,some 3,none]]] [.cells [a3_0_0],.cells [VI a3_1_0],.cells [a3_2_0],.cells [a3_3_0]] fun r12 o12=>.ax ((o12.hO)=.cells (o12.hO).cs)<|.ax (cm [.lk .ptr] ((o12.hO).cs) 0 1 o12.tail)<|.ax ((o12.tail.hO)=.cells (o12.tail.hO).cs)<|.ax (cm [.lk (.int .i64)] ((o12.tail.hO).cs) 0 2 o12.tail.tail)<|.ax ((o12.tail.tail.hO)=.cells (o12.tail.tail.hO).cs)<|.ax (cm [.lk .ptr] ((o12.tail.tail.hO).cs) 0 3 o12.tail.tail.tail)<|.ax ((o12.tail.tail.tail.hO)=.cells (o12.tail.tail.tail.hO).cs)<|.ax (cm [.lk .ptr] ((o12.tail.tail.tail.hO).cs) 0 4 o12.tail.tail.tail.tail)<|NP r12<|.call 40 [.agg [a0_0,a0_1]] [] fun r13 o13=>.ax (r13=.agg r13.cs/\r13.cs.length=2/\bT [.ptr,.ptr] r13.cs 0)<|NZ a1<|NZ a1<|gk (a1.deref.drop 3)<|.call 20 [.agg [(r13.cs.getD 0 .any),(r13.cs.getD 1 .any)],((a1.deref.drop 3).hA),a2,.fn 16 [.ref 0 0,.ref 1 0,.ref 2 0,.ref 3 0,.dS 16 [some 0,some 1,some 2,some 3,none]]] [.cells [((o12.hO).cs.getD 0 .any)],.cells [VI (((o12.tail.hO).cs.getD 0 .any).toInt)],.cells [((o12.tail.tail.hO).cs.getD 0 .any)],.cells [((o12.tail.tail.tail.hO).cs.getD 0 .any)]] fun r14 o14=>.ax ((o14.hO)=.cells (o14.hO).cs)<|.ax (cm [.lk .ptr] ((o14.hO).cs) 0 1 o14.tail)<|.ax ((o14.tail.hO)=.cells (o14.tail.hO).cs)<|.ax (cm [.lk (.int .i64)] ((o14.tail.hO).cs) 0 2 o14.tail.tail)<|.ax ((o14.tail.tail.hO)=.cells (o14.tail.tail.hO).cs)<|.ax (cm [.lk .ptr] ((o14.tail.tail.hO).cs) 0 3 o14.tail.tail.tail)<|.ax ((o14.tail.tail.tail.hO)=.cells (o14.tail.tail.tail.hO).cs)<|.ax (cm [.lk .ptr] ((o14.tail.tail.tail.hO).cs) 0 4 o14.tail.tail.tail.tail)<|NP r14<|.call 41 [r12,r14] [] fun r15 o15=>NP r15<|.done 0 [r15] [.cells [((o14.hO).cs.getD 0 .any)],.cells [VI (((o14.tail.hO).cs.getD 0 .any).toInt)],.cells [((o14.tail.tail.hO).cs.getD 0 .any)],.cells [((o14.tail.tail.tail.hO).cs.getD 0 .any)]]) (.test (((a0_0.deref.hA).toInt)==(114:Int)) (.call 18 [.agg [a0_0,a0_1]] [] fun r16 o16=>NT r16<|.ax ((r16.comp 0)=.agg (r16.comp 0).cs/\(r16.comp 0).cs.length=2/\bT [.ptr,.ptr] ((r16.comp 0).cs) 0)<|NP (r16.comp 1)<|NZ a1<|NZ a1<|gk (a1.deref.drop 2)<|.call 20 [.agg [((r16.comp 0).cs.getD 0 .any),((r16.comp 0).cs.getD 1 .any)],((a1.deref.drop 2).hA),a2,.fn 16 [.ref 0 0,.ref 1 0,.ref 2 0,.ref 3 0,.dS 16 [some 0,some 1,some 2,some 3,none]]] [.cells [a3_0_0],.cells [VI a3_1_0],.cells [a3_2_0],.cells [a3_3_0]] fun r17 o17=>.ax ((o17.hO)=.cells (o17.hO).cs)<|.ax (cm [.lk .ptr] ((o17.hO).cs) 0 1 o17.tail)<|.ax ((o17.tail.hO)=.cells (o17.tail.hO).cs)<|.ax (cm [.lk (.int .i64)] ((o17.tail.hO).cs) 0 2 o17.tail.tail)<|.ax ((o17.tail.tail.hO)=.cells (o17.tail.tail.hO).cs)<|.ax (cm [.lk .ptr] ((o17.tail.tail.hO).cs) 0 3 o17.tail.tail.tail)<|.ax ((o17.tail.tail.tail.hO)=.cells (o17.tail.tail.tail.hO).cs)<|.ax (cm [.lk .ptr] ((o17.tail.tail.tail.hO).cs) 0 4 o17.tail.tail.tail.tail)<|NP r17<|.call 19 [.v (.int .u8 102),r17] [] fun r18 o18=>NP r18<|.done 0 [r18] [.cells [((o17.hO).cs.getD 0 .any)],.cells [VI (((o17.tail.hO).cs.getD 0 .any).toInt)],.cells [((o17.tail.tail.hO).cs.getD 0 .any)],.cells [((o17.tail.tail.tail.hO).cs.getD 0 .any)]]) (.done 0 [a1] [.cells [a3_0_0],.cells [VI a3_1_0],.cells [a3_2_0],.cells [a3_3_0]]))))
theorem Hc(a0_0:AV)(a0_1:AV)(a1:AV)(a2:AV)(a3_0_0:AV)(a3_1_0:Int)(a3_2_0:AV)(a3_3_0:AV)(ha0_0:LK.has .ptr a0_0)(ha0_1:LK.has .ptr a0_1)(ha1:LK.has .ptr a1)(ha2:LK.has .ptr a2)(ha3_0_0:LK.has .ptr a3_0_0)(ha3_2_0:LK.has .ptr a3_2_0)(ha3_3_0:LK.has .ptr a3_3_0)(h:eN 101 (BL a0_0 a0_1 a1 a2 a3_0_0 a3_1_0 a3_2_0 a3_3_0) R):ay Tryz.prog 20 [.agg [a0_0,a0_1],a1,a2,.fn 16 [.ref 0 0,.ref 1 0,.ref 2 0,.ref 3 0,.dS 16 [some 0,some 1,some 2,some 3,none]]] [.cells [a3_0_0],.cells [VI a3_1_0],.cells [a3_2_0],.cells [a3_3_0]] R :=
 ay.Bq (dm (eu (aj (ck ha3_0_0) aG)) (dm (eu (aj (aE _) aG)) (dm (eu (aj (ck ha3_2_0) aG)) (dm (eu (aj (ck ha3_3_0) aG)) iP)))) (ay.up (aj (dc (aj (ck ha0_0) (aj (ck ha0_1) aG))) (aj (ck ha1) (aj (ck ha2) (aj (aE _) aG)))) (oF [] {mu:=[(3,.A3 [some (.obj [.lk .ptr]),some (.obj [.lk (.int .i64)]),some (.obj [.lk .ptr]),some (.obj [.lk .ptr])] 16 [some 0,some 1,some 2,some 3,none])],own:=[]} Tryz.f20 h))
def DE(a0:AV):Tree :=
 .call 42 [a0] [] fun r1 o1=>NI r1<|.test (decide (r1.toInt>(200:Int))) (.done 0 [.cQ [VS (mk []),VB false]] []) (.call 17 [a0] [] fun r2 o2=>NS r2<|.done 0 [.cQ [VS r2.toStr,VB true]] [])
theorem H5(a0:AV)(ha0:LK.has .ptr a0)(h:eN 9 (DE a0) R):ay Tryz.prog 21 [a0] [] R :=
 uQ (aj (ck ha0) aG) (oQ [] Tryz.f21 h)
def GW(a0:ByteArray)(a1:ByteArray)(a2:Int):Tree :=
 .call 49 [VS a0] [] fun r1 o1=>NP r1<|.call 50 [VS a1] [] fun r2 o2=>NP r2<|NP r1<|.test r1.isNil (.done 0 [.cQ [r1,.v (.pointer none)]] []) (NP r2<|.test r2.isNil (.done 0 [.cQ [r1,.v (.pointer none)]] []) (.test (decide (a2<(0:Int))) (.done 0 [.cQ [r1,.v (.pointer none)]] []) (.test (decide (a2>(100:Int))) (.done 0 [.cQ [r1,.v (.pointer none)]] []) (.call 51 [.agg [r1,.v (.pointer none)],r2,VI a2] [] fun r3 o3=>NB r3<|.test (!r3.toBool) (.done 0 [.cQ [r1,.v (.pointer none)]] []) (.done 0 [.cQ [r1,r2]] [])))))
theorem Hw(a0:ByteArray)(a1:ByteArray)(a2:Int)(h:eN 39 (GW a0 a1 a2) R):ay Tryz.prog 27 [VS a0,VS a1,VI a2] [] R :=
 uQ (aj (aE _) (aj (aE _) (aj (aE _) aG))) (oQ [] Tryz.f27 h)
def CI:LI:={hd:={bY:=[(7,.k (.int .i64))],refs:=[(2,2),(4,4)],cD:=[(2,[.lk .str,.lk .sl]),(4,[.lk .str,.lk .sl])],ez:=[(6,1)]},xs:={refs:=[(2,2),(4,4)],cD:=[(2,[.lk .str,.lk .sl]),(4,[.lk .str,.lk .sl])]},rt:={bY:=[(3,.k .bool)],refs:=[(2,2)],cD:=[(2,[.lk .str,.lk .sl])]},ex:=0}
def FY:Code:=dE (dr Tryz.f28) 6
def Fq:List (Nat×LI):=[(6,CI)]
def EC(a0:ByteArray):Tree :=
 .call 52 [VS a0] [] fun r1 o1=>NT r1<|.ax ((r1.comp 0)=.agg (r1.comp 0).cs/\(r1.comp 0).cs.length=2/\bT [.str,.sl] ((r1.comp 0).cs) 0)<|NB (r1.comp 1)<|.test (!((r1.comp 1).toBool)) (.done 0 [.cQ [.agg [VS (((r1.comp 0).cs.getD 0 .any).toStr),((r1.comp 0).cs.getD 1 .any)],VB false]] []) (.call 53 [.agg [VS (((r1.comp 0).cs.getD 0 .any).toStr),((r1.comp 0).cs.getD 1 .any)],.sl [],.vec 0] [.vec 1 []] fun r2 o2=>.ax (r2=.vec 1/\(o2.tail.hO)=.vec 1 (o2.tail.hO).es)<|.loop FY CI [VI 0] [.cells [VS (mk []),.v (.slice none 0 0)],.cells [VS (((r1.comp 0).cs.getD 0 .any).toStr),((r1.comp 0).cs.getD 1 .any)],.vec 1 ((o2.tail.hO).es)] (fun y4 q4=>.ax ((q4.hO)=.cells (q4.hO).cs)<|.ax (ah [.lk .str,.lk .sl] ((q4.hO).cs) 0 q4.tail)<|.ax (((q4.tail.drop 0).hO)=.cells ((q4.tail.drop 0).hO).cs)<|.ax (ah [.lk .str,.lk .sl] (((q4.tail.drop 0).hO).cs) 0 ((q4.tail.drop 0).tail))<|.done 0 [.cQ [.agg [VS (((q4.tail.hO).cs.getD 0 .any).toStr),((q4.tail.hO).cs.getD 1 .any)],VB true]] []) (fun y4 q4=>NB (y4.hA)<|.ax ((q4.hO)=.cells (q4.hO).cs)<|.ax (ah [.lk .str,.lk .sl] ((q4.hO).cs) 0 q4.tail)<|.done 0 [.cQ [.agg [VS (((q4.hO).cs.getD 0 .any).toStr),((q4.hO).cs.getD 1 .any)],VB ((y4.hA).toBool)]] []))
theorem H2(a0:ByteArray)(h:eN 33 (EC a0) R):ay Tryz.prog 28 [VS a0] [] R :=
 uQ (aj (aE _) aG) (oQ Fq Tryz.f28 h)
def CA(x7:Int)(o2_0:ByteArray)(o2_1:AV)(o4_0:ByteArray)(o4_1:AV)(e6:List (List AV)):Tree :=
 NI (VI x7)<|.ax (Ob.cells [VS o2_0,o2_1]=.cells [VS o2_0,o2_1])<|.ax (ah [.lk .str,.lk .sl] [VS o2_0,o2_1] 0 [.cells [VS o4_0,o4_1],.vec 1 e6])<|.ax (Ob.cells [VS o4_0,o4_1]=.cells [VS o4_0,o4_1])<|.ax (ah [.lk .str,.lk .sl] [VS o4_0,o4_1] 0 [.vec 1 e6])<|.ax (Ob.vec 1 e6=.vec 1 e6)<|.test (decide (x7<(e6.length:Int))) (.ax (0<=x7/\x7<e6.length)<|.ax (x7.toNat<e6.length/\0<(e6.getD x7.toNat []).length/\LK.has .str ((e6.getD x7.toNat []).getD 0 .any))<|.call 54 [VS (((e6.getD x7.toNat []).getD 0 .any).toStr)] [] fun r1 o1=>NB r1<|.test r1.toBool (.done 2 [VB false] [.cells [VS o4_0,o4_1]]) (.done 0 [VI (IntKind.wrap .i64 (x7+1))] [.cells [VS o2_0,o2_1],.cells [VS o4_0,o4_1],.vec 1 e6])) (.done 1 [] [.cells [VS o2_0,o2_1],.cells [VS o4_0,o4_1]])
abbrev Cs:=cL Tryz.prog 33 FY CI
theorem Fy(x7:Int)(o2_0:ByteArray)(o2_1:AV)(o4_0:ByteArray)(o4_1:AV)(e6:List (List AV))(h:px 33 (CA x7 o2_0 o2_1 o4_0 o4_1 e6) Cs U):Cs [VI x7] [.cells [VS o2_0,o2_1],.cells [VS o4_0,o4_1],.vec 1 e6] U :=
 gQ Fq h
def yU(a0_0:ByteArray)(a0_1:AV):Tree :=
 .test (!(ab a0_0==ab (mk []))) (.done 0 [VS (mk [])] []) (NL a0_1<|.test ((a0_1.elems.length:Int)==(0:Int)) (.done 0 [VS (mk [])] []) (NG a0_1 0 2<|sb (a0_1.ix (0:Int))<|.done 0 [VS (((a0_1.ix (0:Int)).hA).toStr)] []))
theorem Bm(a0_0:ByteArray)(a0_1:AV)(ha0_1:LK.has .sl a0_1)(h:eN 17 (yU a0_0 a0_1) R):ay Tryz.prog 29 [.agg [VS a0_0,a0_1]] [] R :=
 uQ (aj (dc (aj (aE _) (aj (dy ha0_1) aG))) aG) (oQ [] Tryz.f29 h)
def F7(a0:Int)(a1:Int)(a2:Int):Tree :=
 .test (decide (a0≥a1)) (.done 0 [VB (decide (a0<=a2))] []) (.done 0 [VB false] [])
theorem IV(a0:Int)(a1:Int)(a2:Int)(h:eN 15 (F7 a0 a1 a2) R):ay Tryz.prog 30 [VI a0,VI a1,VI a2] [] R :=
 uQ (aj (aE _) (aj (aE _) (aj (aE _) aG))) (oQ [] Tryz.f30 h)
def FP(a0_0:ByteArray)(a0_1:AV)(a1:AV)(a2_0:ByteArray)(a2_1:AV)(a3:Int):Tree :=
 .call 55 [.agg [VS a0_0,a0_1],a1] [] fun r1 o1=>NT r1<|.ax ((r1.comp 0)=.agg (r1.comp 0).cs/\(r1.comp 0).cs.length=2/\bT [.str,.sl] ((r1.comp 0).cs) 0)<|NL (r1.comp 1)<|.test (!(ab (((r1.comp 0).cs.getD 0 .any).toStr)==ab (mk []))) (.test (ab (((r1.comp 0).cs.getD 0 .any).toStr)==ab (mk [49])) (.done 0 [VB (ab a2_0==ab (mk [117]))] []) (.call 56 [VS (((r1.comp 0).cs.getD 0 .any).toStr)] [] fun r2 o2=>NB r2<|.test r2.toBool (.call 57 [VS a2_0] [] fun r3 o3=>NI r3<|.call 30 [VI r3.toInt,VI 0,VI (IntKind.wrap .i64 (a3-1))] [] fun r4 o4=>NB r4<|.done 0 [VB r4.toBool] []) (.done 0 [VB false] []))) (.call 29 [.agg [VS (((r1.comp 0).cs.getD 0 .any).toStr),((r1.comp 0).cs.getD 1 .any)]] [] fun r5 o5=>NS r5<|.call 29 [.agg [VS a2_0,a2_1]] [] fun r6 o6=>NS r6<|.ax (ag r5.toStr+ag r6.toStr<=9223372036854775807)<|.test (ab ((r5.toStr:ByteArray)++r6.toStr)==ab (mk [43,108])) (NG ((r1.comp 0).cs.getD 1 .any) 1 2<|NE (((r1.comp 0).cs.getD 1 .any).ix (1:Int))<|NG a2_1 1 2<|NE (a2_1.ix (1:Int))<|.call 31 [.agg [VS (((((r1.comp 0).cs.getD 1 .any).ix (1:Int)).getD 0 .any).toStr),((((r1.comp 0).cs.getD 1 .any).ix (1:Int)).getD 1 .any)],(r1.comp 1),.agg [VS (((a2_1.ix (1:Int)).getD 0 .any).toStr),((a2_1.ix (1:Int)).getD 1 .any)],VI a3] [] fun r7 o7=>NB r7<|.done 0 [VB r7.toBool] []) (.test (ab ((r5.toStr:ByteArray)++r6.toStr)==ab (mk [43,114])) (NG ((r1.comp 0).cs.getD 1 .any) 2 2<|NE (((r1.comp 0).cs.getD 1 .any).ix (2:Int))<|NG a2_1 1 2<|NE (a2_1.ix (1:Int))<|.call 31 [.agg [VS (((((r1.comp 0).cs.getD 1 .any).ix (2:Int)).getD 0 .any).toStr),((((r1.comp 0).cs.getD 1 .any).ix (2:Int)).getD 1 .any)],(r1.comp 1),.agg [VS (((a2_1.ix (1:Int)).getD 0 .any).toStr),((a2_1.ix (1:Int)).getD 1 .any)],VI a3] [] fun r8 o8=>NB r8<|.done 0 [VB r8.toBool] []) (.test (ab ((r5.toStr:ByteArray)++r6.toStr)==ab (mk [42,112])) (NG ((r1.comp 0).cs.getD 1 .any) 1 2<|NE (((r1.comp 0).cs.getD 1 .any).ix (1:Int))<|NG a2_1 1 2<|NE (a2_1.ix (1:Int))<|.call 31 [.agg [VS (((((r1.comp 0).cs.getD 1 .any).ix (1:Int)).getD 0 .any).toStr),((((r1.comp 0).cs.getD 1 .any).ix (1:Int)).getD 1 .any)],(r1.comp 1),.agg [VS (((a2_1.ix (1:Int)).getD 0 .any).toStr),((a2_1.ix (1:Int)).getD 1 .any)],VI a3] [] fun r9 o9=>NB r9<|.test r9.toBool (NG ((r1.comp 0).cs.getD 1 .any) 2 2<|NE (((r1.comp 0).cs.getD 1 .any).ix (2:Int))<|NG a2_1 2 2<|NE (a2_1.ix (2:Int))<|.call 31 [.agg [VS (((((r1.comp 0).cs.getD 1 .any).ix (2:Int)).getD 0 .any).toStr),((((r1.comp 0).cs.getD 1 .any).ix (2:Int)).getD 1 .any)],(r1.comp 1),.agg [VS (((a2_1.ix (2:Int)).getD 0 .any).toStr),((a2_1.ix (2:Int)).getD 1 .any)],VI a3] [] fun r10 o10=>NB r10<|.done 0 [VB r10.toBool] []) (.done 0 [VB false] [])) (.test (ab ((r5.toStr:ByteArray)++r6.toStr)==ab (mk [114,101,99,102])) (.call 58 [.agg [VS (((r1.comp 0).cs.getD 0 .any).toStr),((r1.comp 0).cs.getD 1 .any)],(r1.comp 1)] [] fun r11 o11=>NT r11<|.ax ((r11.comp 0)=.agg (r11.comp 0).cs/\(r11.comp 0).cs.length=2/\bT [.str,.sl] ((r11.comp 0).cs) 0)<|NL (r11.comp 1)<|NG a2_1 1 2<|NE (a2_1.ix (1:Int))<|.call 31 [.agg [VS (((r11.comp 0).cs.getD 0 .any).toStr),((r11.comp 0).cs.getD 1 .any)],(r11.comp 1),.agg [VS (((a2_1.ix (1:Int)).getD 0 .any).toStr),((a2_1.ix (1:Int)).getD 1 .any)],VI a3] [] fun r12 o12=>NB r12<|.done 0 [VB r12.toBool] []) (.done 0 [VB false] [])))))
theorem IG(a0_0:ByteArray)(a0_1:AV)(a1:AV)(a2_0:ByteArray)(a2_1:AV)(a3:Int)(ha0_1:LK.has .sl a0_1)(ha1:LK.has .sl a1)(ha2_1:LK.has .sl a2_1)(h:eN 110 (FP a0_0 a0_1 a1 a2_0 a2_1 a3) R):ay Tryz.prog 31 [.agg [VS a0_0,a0_1],a1,.agg [VS a2_0,a2_1],VI a3] [] R :=
 uQ (aj (dc (aj (aE _) (aj (dy ha0_1) aG))) (aj (dy ha1) (aj (dc (aj (aE _) (aj (dy ha2_1) aG))) (aj (aE _) aG)))) (oQ [] Tryz.f31 h)
def EY(a0:ByteArray):Tree :=
 .test (decide ((ag a0:Int)>(8000:Int))) (.done 0 [.cQ [.agg [VS (mk []),.v (.slice none 0 0)],VB false]] []) (.call 59 [VS a0,VI 0,VI 0] [] fun r1 o1=>NT r1<|.ax ((r1.comp 0)=.agg (r1.comp 0).cs/\(r1.comp 0).cs.length=2/\bT [.str,.sl] ((r1.comp 0).cs) 0)<|NI (r1.comp 1)<|.done 0 [.cQ [.agg [VS (((r1.comp 0).cs.getD 0 .any).toStr),((r1.comp 0).cs.getD 1 .any)],VB (((r1.comp 1).toInt)==(ag a0:Int))]] [])
theorem HG(a0:ByteArray)(h:eN 20 (EY a0) R):ay Tryz.prog 32 [VS a0] [] R :=
 uQ (aj (aE _) aG) (oQ [] Tryz.f32 h)
def Cu(a0_0:ByteArray)(a0_1:AV):Tree :=
 .test (!(ab a0_0==ab (mk []))) (.test (ab a0_0==ab (mk [117])) (.done 0 [VB true] []) (.call 57 [VS a0_0] [] fun r1 o1=>NI r1<|.done 0 [VB (decide (r1.toInt≥(0:Int)))] [])) (.call 29 [.agg [VS a0_0,a0_1]] [] fun r2 o2=>NS r2<|.test (ab r2.toStr==ab (mk [108])) (NL a0_1<|.test ((a0_1.elems.length:Int)==(2:Int)) (NG a0_1 1 2<|NE (a0_1.ix (1:Int))<|.call 33 [.agg [VS (((a0_1.ix (1:Int)).getD 0 .any).toStr),((a0_1.ix (1:Int)).getD 1 .any)]] [] fun r3 o3=>NB r3<|.done 0 [VB r3.toBool] []) (.done 0 [VB false] [])) (.test (ab r2.toStr==ab (mk [114])) (NL a0_1<|.test ((a0_1.elems.length:Int)==(2:Int)) (NG a0_1 1 2<|NE (a0_1.ix (1:Int))<|.call 33 [.agg [VS (((a0_1.ix (1:Int)).getD 0 .any).toStr),((a0_1.ix (1:Int)).getD 1 .any)]] [] fun r4 o4=>NB r4<|.done 0 [VB r4.toBool] []) (.done 0 [VB false] [])) (.test (ab r2.toStr==ab (mk [102])) (NL a0_1<|.test ((a0_1.elems.length:Int)==(2:Int)) (NG a0_1 1 2<|NE (a0_1.ix (1:Int))<|.call 33 [.agg [VS (((a0_1.ix (1:Int)).getD 0 .any).toStr),((a0_1.ix (1:Int)).getD 1 .any)]] [] fun r5 o5=>NB r5<|.done 0 [VB r5.toBool] []) (.done 0 [VB false] [])) (.test (ab r2.toStr==ab (mk [112])) (NL a0_1<|.test ((a0_1.elems.length:Int)==(3:Int)) (NG a0_1 1 2<|NE (a0_1.ix (1:Int))<|.call 33 [.agg [VS (((a0_1.ix (1:Int)).getD 0 .any).toStr),((a0_1.ix (1:Int)).getD 1 .any)]] [] fun r6 o6=>NB r6<|.test r6.toBool (NG a0_1 2 2<|NE (a0_1.ix (2:Int))<|.call 33 [.agg [VS (((a0_1.ix (2:Int)).getD 0 .any).toStr),((a0_1.ix (2:Int)).getD 1 .any)]] [] fun r7 o7=>NB r7<|.done 0 [VB r7.toBool] []) (.done 0 [VB false] [])) (.done 0 [VB false] [])) (.done 0 [VB false] [])))))
theorem Dq(a0_0:ByteArray)(a0_1:AV)(ha0_1:LK.has .sl a0_1)(h:eN 52 (Cu a0_0 a0_1) R):ay Tryz.prog 33 [.agg [VS a0_0,a0_1]] [] R :=
 uQ (aj (dc (aj (aE _) (aj (dy ha0_1) aG))) aG) (oQ [] Tryz.f33 h)
def B4:LI:={hd:={bY:=[(1,.k .str),(8,.k .sl),(9,.k (.int .i64))],refs:=[(3,3),(5,5)],cD:=[(3,[.lk .str,.lk .sl]),(5,[.lk .str,.lk .sl])],ez:=[(7,4)]},xs:={bY:=[(1,.k .str)],refs:=[(3,3),(5,5)],cD:=[(3,[.lk .str,.lk .sl]),(5,[.lk .str,.lk .sl])],ez:=[(7,4)]},rt:={},ex:=1}
def EZ:Code:=dE (dr Tryz.f34) 14
def BS:LI:={hd:={bY:=[(10,.k .sl),(11,.k (.int .i64))],refs:=[(5,5)],cD:=[(5,[.lk .str,.lk .sl])],ez:=[(7,4)]},xs:={ez:=[(7,4)]},rt:={},ex:=3}
def Fw:Code:=dE (dr Tryz.f34) 19
def Cf:LI:={hd:={bY:=[(1,.k .str),(12,.k .str),(13,.k .sl),(14,.k (.int .i64))],refs:=[(3,3),(5,5)],cD:=[(3,[.lk .str,.lk .sl]),(5,[.lk .str,.lk .sl])],ez:=[(7,4)]},xs:={bY:=[(1,.k .str),(12,.k .str)],refs:=[(3,3),(5,5)],cD:=[(3,[.lk .str,.lk .sl]),(5,[.lk .str,.lk .sl])],ez:=[(7,4)]},rt:={},ex:=5}
def DN:Code:=dE (dr Tryz.f34) 28
def CJ:LI:={hd:={bY:=[(1,.k .str),(15,.k .sl),(16,.k (.int .i64))],refs:=[(3,3)],cD:=[(3,[.lk .str,.lk .sl])],ez:=[(7,4)]},xs:={ez:=[(7,4)]},rt:={},ex:=7}
def E9:Code:=dE (dr Tryz.f34) 33
def CY:LI:={hd:={bY:=[(1,.k .str),(15,.k .sl),(16,.k (.int .i64)),(17,.k .sl),(18,.k (.int .i64))],refs:=[(3,3)],cD:=[(3,[.lk .str,.lk .sl])],ez:=[(7,4)]},xs:={bY:=[(1,.k .str),(15,.k .sl),(16,.k (.int .i64))],refs:=[(3,3)],cD:=[(3,[.lk .str,.lk .sl])],ez:=[(7,4)]},rt:={},ex:=9}
def Em:Code:=dE (dr Tryz.f34) 37
def v7:List (Nat×LI):=[(14,B4),(19,BS),(28,Cf),(33,CJ),(37,CY)]
def Cl(a0_0:ByteArray)(a0_1:AV)(a1:ByteArray)(a2_0:ByteArray)(a2_1:AV):Tree :=
 .test (!(ab a0_0==ab (mk []))) (.test (ab a0_0==ab a1) (.ax (cN 4 [[VS (mk [117]),.v (.slice none 0 0),VS a2_0,a2_1]]/\((([]:List (List AV)).length)+([[VS (mk [117]),.v (.slice none 0 0),VS a2_0,a2_1]]:List (List AV)).length)*80<=140737488355328)<|.done 0 [.sl [[VS (mk [117]),.v (.slice none 0 0),VS a2_0,a2_1]]] []) (.done 0 [.sl []] [])) (.call 29 [.agg [VS a2_0,a2_1]] [] fun r1 o1=>NS r1<|.test (ab r1.toStr==ab (mk [108])) (NG a0_1 1 2<|NE (a0_1.ix (1:Int))<|NG a2_1 1 2<|NE (a2_1.ix (1:Int))<|.call 34 [.agg [VS (((a0_1.ix (1:Int)).getD 0 .any).toStr),((a0_1.ix (1:Int)).getD 1 .any)],VS a1,.agg [VS (((a2_1.ix (1:Int)).getD 0 .any).toStr),((a2_1.ix (1:Int)).getD 1 .any)]] [] fun r2 o2=>NL r2<|.call 60 [r2,VS (mk [108]),.vec 0] [.vec 4 []] fun r3 o3=>.ax (r3=.vec 1/\(o3.tail.hO)=.vec 4 (o3.tail.hO).es)<|.done 0 [.sl ((o3.tail.hO).es)] []) (.test (ab r1.toStr==ab (mk [114])) (NG a0_1 2 2<|NE (a0_1.ix (2:Int))<|NG a2_1 1 2<|NE (a2_1.ix (1:Int))<|.call 34 [.agg [VS (((a0_1.ix (2:Int)).getD 0 .any).toStr),((a0_1.ix (2:Int)).getD 1 .any)],VS a1,.agg [VS (((a2_1.ix (1:Int)).getD 0 .any).toStr),((a2_1.ix (1:Int)).getD 1 .any)]] [] fun r4 o4=>NL r4<|.call 60 [r4,VS (mk [114]),.vec 0] [.vec 4 []] fun r5 o5=>.ax (r5=.vec 1/\(o5.tail.hO)=.vec 4 (o5.tail.hO).es)<|.done 0 [.sl ((o5.tail.hO).es)] []) (.test (ab r1.toStr==ab (mk [112])) (NG a0_1 1 2<|NE (a0_1.ix (1:Int))<|NG a2_1 1 2<|NE (a2_1.ix (1:Int))<|.call 34 [.agg [VS (((a0_1.ix (1:Int)).getD 0 .any).toStr),((a0_1.ix (1:Int)).getD 1 .any)],VS a1,.agg [VS (((a2_1.ix (1:Int)).getD 0 .any).toStr),((a2_1.ix (1:Int)).getD 1 .any)]] [] fun r6 o6=>NL r6<|.loop EZ B4 [VS a1,r6,VI 0] [.cells [VS a0_0,a0_1],.cells [VS a2_0,a2_1],.vec 4 []] (fun y9 q9=>NS (y9.hA)<|.ax ((q9.hO)=.cells (q9.hO).cs)<|.ax (ah [.lk .str,.lk .sl] ((q9.hO).cs) 0 q9.tail)<|.ax (((q9.tail.drop 0).hO)=.cells ((q9.tail.drop 0).hO).cs)<|.ax (ah [.lk .str,.lk .sl] (((q9.tail.drop 0).hO).cs) 0 ((q9.tail.drop 0).tail))<|.ax (((q9.drop 2).hO)=.vec 4 ((q9.drop 2).hO).es)<|NG ((q9.hO).cs.getD 1 .any) 2 2<|NE (((q9.hO).cs.getD 1 .any).ix (2:Int))<|NG ((q9.tail.hO).cs.getD 1 .any) 2 2<|NE (((q9.tail.hO).cs.getD 1 .any).ix (2:Int))<|.call 34 [.agg [VS (((((q9.hO).cs.getD 1 .any).ix (2:Int)).getD 0 .any).toStr),((((q9.hO).cs.getD 1 .any).ix (2:Int)).getD 1 .any)],VS ((y9.hA).toStr),.agg [VS (((((q9.tail.hO).cs.getD 1 .any).ix (2:Int)).getD 0 .any).toStr),((((q9.tail.hO).cs.getD 1 .any).ix (2:Int)).getD 1 .any)]] [] fun r10 o10=>NL r10<|.loop Fw BS [r10,VI 0] [.cells [VS (((q9.tail.hO).cs.getD 0 .any).toStr),((q9.tail.hO).cs.getD 1 .any)],.vec 4 ((q9.tail.tail.hO).es)] (fun y13 q13=>.ax (((q13.drop 0).hO)=.vec 4 ((q13.drop 0).hO).es)<|.done 0 [.sl ((q13.hO).es)] []) (fun y13 q13=>.done 0 [.any] [])) (fun y9 q9=>.done 0 [.any] [])) (NG a0_1 1 2<|sb (a0_1.ix (1:Int))<|.test (ab (((a0_1.ix (1:Int)).hA).toStr)==ab a1) (.done 0 [.sl []] []) (NG a0_1 2 2<|NE (a0_1.ix (2:Int))<|NG a2_1 1 2<|NE (a2_1.ix (1:Int))<|.call 34 [.agg [VS (((a0_1.ix (2:Int)).getD 0 .any).toStr),((a0_1.ix (2:Int)).getD 1 .any)],VS a1,.agg [VS (((a2_1.ix (1:Int)).getD 0 .any).toStr),((a2_1.ix (1:Int)).getD 1 .any)]] [] fun r14 o14=>NL r14<|.loop DN Cf [VS a1,VS (((a0_1.ix (1:Int)).hA).toStr),r14,VI 0] [.cells [VS a0_0,a0_1],.cells [VS a2_0,a2_1],.vec 4 []] (fun y17 q17=>NS (y17.hA)<|NS (y17.tail.hA)<|.ax ((q17.hO)=.cells (q17.hO).cs)<|.ax (ah [.lk .str,.lk .sl] ((q17.hO).cs) 0 q17.tail)<|.ax (((q17.tail.drop 0).hO)=.cells ((q17.tail.drop 0).hO).cs)<|.ax (ah [.lk .str,.lk .sl] (((q17.tail.drop 0).hO).cs) 0 ((q17.tail.drop 0).tail))<|.ax (((q17.drop 2).hO)=.vec 4 ((q17.drop 2).hO).es)<|NG ((q17.hO).cs.getD 1 .any) 2 2<|NE (((q17.hO).cs.getD 1 .any).ix (2:Int))<|NG ((q17.tail.hO).cs.getD 1 .any) 1 2<|NE (((q17.tail.hO).cs.getD 1 .any).ix (1:Int))<|.call 34 [.agg [VS (((((q17.hO).cs.getD 1 .any).ix (2:Int)).getD 0 .any).toStr),((((q17.hO).cs.getD 1 .any).ix (2:Int)).getD 1 .any)],VS ((y17.tail.hA).toStr),.agg [VS (((((q17.tail.hO).cs.getD 1 .any).ix (1:Int)).getD 0 .any).toStr),((((q17.tail.hO).cs.getD 1 .any).ix (1:Int)).getD 1 .any)]] [] fun r18 o18=>NL r18<|.loop E9 CJ [VS ((y17.hA).toStr),r18,VI 0] [.cells [VS (((q17.hO).cs.getD 0 .any).toStr),((q17.hO).cs.getD 1 .any)],.vec 4 ((q17.tail.tail.hO).es)] (fun y24 q24=>.ax (((q24.drop 0).hO)=.vec 4 ((q24.drop 0).hO).es)<|.done 0 [.sl ((q24.hO).es)] []) (fun y24 q24=>.done 0 [.any] [])) (fun y17 q17=>.done 0 [.any] []))))))
theorem IP(a0_0:ByteArray)(a0_1:AV)(a1:ByteArray)(a2_0:ByteArray)(a2_1:AV)(ha0_1:LK.has .sl a0_1)(ha2_1:LK.has .sl a2_1)(h:eN 244 (Cl a0_0 a0_1 a1 a2_0 a2_1) R):ay Tryz.prog 34 [.agg [VS a0_0,a0_1],VS a1,.agg [VS a2_0,a2_1]] [] R :=
 uQ (aj (dc (aj (aE _) (aj (dy ha0_1) aG))) (aj (aE _) (aj (dc (aj (aE _) (aj (dy ha2_1) aG))) aG))) (oQ v7 Tryz.f34 h)
def C3(x1:ByteArray)(x8:AV)(x9:Int)(o3_0:ByteArray)(o3_1:AV)(o5_0:ByteArray)(o5_1:AV)(e7:List (List AV)):Tree :=
 NS (VS x1)<|NL x8<|NI (VI x9)<|.ax (Ob.cells [VS o3_0,o3_1]=.cells [VS o3_0,o3_1])<|.ax (ah [.lk .str,.lk .sl] [VS o3_0,o3_1] 0 [.cells [VS o5_0,o5_1],.vec 4 e7])<|.ax (Ob.cells [VS o5_0,o5_1]=.cells [VS o5_0,o5_1])<|.ax (ah [.lk .str,.lk .sl] [VS o5_0,o5_1] 0 [.vec 4 e7])<|.ax (Ob.vec 4 e7=.vec 4 e7)<|NL x8<|.test (decide (x9<(x8.elems.length:Int))) (NG x8 x9 4<|NE (x8.ix x9)<|NG o5_1 2 2<|NE (o5_1.ix (2:Int))<|.call 35 [VS (mk [112]),.sl [[VS (((x8.ix x9).getD 0 .any).toStr),((x8.ix x9).getD 1 .any)],[VS (((o5_1.ix (2:Int)).getD 0 .any).toStr),((o5_1.ix (2:Int)).getD 1 .any)]]] [] fun r1 o1=>NA r1<|.call 35 [VS (mk [108]),.sl [[VS ((r1.cs.getD 0 .any).toStr),(r1.cs.getD 1 .any)]]] [] fun r2 o2=>NA r2<|NG x8 x9 4<|NE ((x8.ix x9).drop 2)<|.ax (cN 4 [[VS ((r2.cs.getD 0 .any).toStr),(r2.cs.getD 1 .any),VS ((((x8.ix x9).drop 2).getD 0 .any).toStr),(((x8.ix x9).drop 2).getD 1 .any)]]/\((e7.length)+([[VS ((r2.cs.getD 0 .any).toStr),(r2.cs.getD 1 .any),VS ((((x8.ix x9).drop 2).getD 0 .any).toStr),(((x8.ix x9).drop 2).getD 1 .any)]]:List (List AV)).length)*80<=140737488355328)<|.done 0 [VS x1,x8,VI (IntKind.wrap .i64 (x9+1))] [.cells [VS o3_0,o3_1],.cells [VS o5_0,o5_1],.vec 4 (e7++([[VS ((r2.cs.getD 0 .any).toStr),(r2.cs.getD 1 .any),VS ((((x8.ix x9).drop 2).getD 0 .any).toStr),(((x8.ix x9).drop 2).getD 1 .any)]]:List (List AV)))]) (.done 1 [VS x1] [.cells [VS o3_0,o3_1],.cells [VS o5_0,o5_1],.vec 4 e7])
abbrev Cc:=cL Tryz.prog 244 EZ B4
theorem GK(x1:ByteArray)(x8:AV)(x9:Int)(o3_0:ByteArray)(o3_1:AV)(o5_0:ByteArray)(o5_1:AV)(e7:List (List AV))(h:px 244 (C3 x1 x8 x9 o3_0 o3_1 o5_0 o5_1 e7) Cc U):Cc [VS x1,x8,VI x9] [.cells [VS o3_0,o3_1],.cells [VS o5_0,o5_1],.vec 4 e7] U :=
 gQ v7 h
def Cp(x10:AV)(x11:Int)(o5_0:ByteArray)(o5_1:AV)(e7:List (List AV)):Tree :=
 NL x10<|NI (VI x11)<|.ax (Ob.cells [VS o5_0,o5_1]=.cells [VS o5_0,o5_1])<|.ax (ah [.lk .str,.lk .sl] [VS o5_0,o5_1] 0 [.vec 4 e7])<|.ax (Ob.vec 4 e7=.vec 4 e7)<|NL x10<|.test (decide (x11<(x10.elems.length:Int))) (NG o5_1 1 2<|NE (o5_1.ix (1:Int))<|NG x10 x11 4<|NE (x10.ix x11)<|.call 35 [VS (mk [112]),.sl [[VS (((o5_1.ix (1:Int)).getD 0 .any).toStr),((o5_1.ix (1:Int)).getD 1 .any)],[VS (((x10.ix x11).getD 0 .any).toStr),((x10.ix x11).getD 1 .any)]]] [] fun r1 o1=>NA r1<|.call 35 [VS (mk [114]),.sl [[VS ((r1.cs.getD 0 .any).toStr),(r1.cs.getD 1 .any)]]] [] fun r2 o2=>NA r2<|NG x10 x11 4<|NE ((x10.ix x11).drop 2)<|.ax (cN 4 [[VS ((r2.cs.getD 0 .any).toStr),(r2.cs.getD 1 .any),VS ((((x10.ix x11).drop 2).getD 0 .any).toStr),(((x10.ix x11).drop 2).getD 1 .any)]]/\((e7.length)+([[VS ((r2.cs.getD 0 .any).toStr),(r2.cs.getD 1 .any),VS ((((x10.ix x11).drop 2).getD 0 .any).toStr),(((x10.ix x11).drop 2).getD 1 .any)]]:List (List AV)).length)*80<=140737488355328)<|.done 0 [x10,VI (IntKind.wrap .i64 (x11+1))] [.cells [VS o5_0,o5_1],.vec 4 (e7++([[VS ((r2.cs.getD 0 .any).toStr),(r2.cs.getD 1 .any),VS ((((x10.ix x11).drop 2).getD 0 .any).toStr),(((x10.ix x11).drop 2).getD 1 .any)]]:List (List AV)))]) (.done 1 [] [.vec 4 e7])
abbrev C2:=cL Tryz.prog 244 Fw BS
theorem FI(x10:AV)(x11:Int)(o5_0:ByteArray)(o5_1:AV)(e7:List (List AV))(h:px 244 (Cp x10 x11 o5_0 o5_1 e7) C2 U):C2 [x10,VI x11] [.cells [VS o5_0,o5_1],.vec 4 e7] U :=
 gQ v7 h
def CF(x1:ByteArray)(x12:ByteArray)(x13:AV)(x14:Int)(o3_0:ByteArray)(o3_1:AV)(o5_0:ByteArray)(o5_1:AV)(e7:List (List AV)):Tree :=
 NS (VS x1)<|NS (VS x12)<|NL x13<|NI (VI x14)<|.ax (Ob.cells [VS o3_0,o3_1]=.cells [VS o3_0,o3_1])<|.ax (ah [.lk .str,.lk .sl] [VS o3_0,o3_1] 0 [.cells [VS o5_0,o5_1],.vec 4 e7])<|.ax (Ob.cells [VS o5_0,o5_1]=.cells [VS o5_0,o5_1])<|.ax (ah [.lk .str,.lk .sl] [VS o5_0,o5_1] 0 [.vec 4 e7])<|.ax (Ob.vec 4 e7=.vec 4 e7)<|NL x13<|.test (decide (x14<(x13.elems.length:Int))) (NG x13 x14 4<|NE (x13.ix x14)<|.call 35 [VS (mk [108]),.sl [[VS (((x13.ix x14).getD 0 .any).toStr),((x13.ix x14).getD 1 .any)]]] [] fun r1 o1=>NA r1<|.call 35 [VS (mk [102]),.sl [[VS ((r1.cs.getD 0 .any).toStr),(r1.cs.getD 1 .any)]]] [] fun r2 o2=>NA r2<|NG x13 x14 4<|NE ((x13.ix x14).drop 2)<|.ax (cN 4 [[VS ((r2.cs.getD 0 .any).toStr),(r2.cs.getD 1 .any),VS ((((x13.ix x14).drop 2).getD 0 .any).toStr),(((x13.ix x14).drop 2).getD 1 .any)]]/\((e7.length)+([[VS ((r2.cs.getD 0 .any).toStr),(r2.cs.getD 1 .any),VS ((((x13.ix x14).drop 2).getD 0 .any).toStr),(((x13.ix x14).drop 2).getD 1 .any)]]:List (List AV)).length)*80<=140737488355328)<|.done 0 [VS x1,VS x12,x13,VI (IntKind.wrap .i64 (x14+1))] [.cells [VS o3_0,o3_1],.cells [VS o5_0,o5_1],.vec 4 (e7++([[VS ((r2.cs.getD 0 .any).toStr),(r2.cs.getD 1 .any),VS ((((x13.ix x14).drop 2).getD 0 .any).toStr),(((x13.ix x14).drop 2).getD 1 .any)]]:List (List AV)))]) (.done 1 [VS x1,VS x12] [.cells [VS o3_0,o3_1],.cells [VS o5_0,o5_1],.vec 4 e7])
abbrev Bc:=cL Tryz.prog 244 DN Cf
theorem E4(x1:ByteArray)(x12:ByteArray)(x13:AV)(x14:Int)(o3_0:ByteArray)(o3_1:AV)(o5_0:ByteArray)(o5_1:AV)(e7:List (List AV))(h:px 244 (CF x1 x12 x13 x14 o3_0 o3_1 o5_0 o5_1 e7) Bc U):Bc [VS x1,VS x12,x13,VI x14] [.cells [VS o3_0,o3_1],.cells [VS o5_0,o5_1],.vec 4 e7] U :=
 gQ v7 h
def B6(x1:ByteArray)(x15:AV)(x16:Int)(o3_0:ByteArray)(o3_1:AV)(e7:List (List AV)):Tree :=
 NS (VS x1)<|NL x15<|NI (VI x16)<|.ax (Ob.cells [VS o3_0,o3_1]=.cells [VS o3_0,o3_1])<|.ax (ah [.lk .str,.lk .sl] [VS o3_0,o3_1] 0 [.vec 4 e7])<|.ax (Ob.vec 4 e7=.vec 4 e7)<|NL x15<|.test (decide (x16<(x15.elems.length:Int))) (NG x15 x16 4<|NE ((x15.ix x16).drop 2)<|.call 34 [.agg [VS o3_0,o3_1],VS x1,.agg [VS ((((x15.ix x16).drop 2).getD 0 .any).toStr),(((x15.ix x16).drop 2).getD 1 .any)]] [] fun r1 o1=>NL r1<|.loop Em CY [VS x1,x15,VI x16,r1,VI 0] [.cells [VS o3_0,o3_1],.vec 4 e7] (fun y2 q2=>NS (y2.hA)<|NL (y2.tail.hA)<|NI (y2.tail.tail.hA)<|.ax ((q2.hO)=.cells (q2.hO).cs)<|.ax (ah [.lk .str,.lk .sl] ((q2.hO).cs) 0 q2.tail)<|.ax (((q2.drop 1).hO)=.vec 4 ((q2.drop 1).hO).es)<|.done 0 [VS ((y2.hA).toStr),(y2.tail.hA),VI (IntKind.wrap .i64 (((y2.tail.tail.hA).toInt)+1))] [.cells [VS (((q2.hO).cs.getD 0 .any).toStr),((q2.hO).cs.getD 1 .any)],.vec 4 ((q2.tail.hO).es)]) (fun y2 q2=>.done 2 [] [])) (.done 1 [] [.vec 4 e7])
abbrev BR:=cL Tryz.prog 244 E9 CJ
theorem EU(x1:ByteArray)(x15:AV)(x16:Int)(o3_0:ByteArray)(o3_1:AV)(e7:List (List AV))(h:px 244 (B6 x1 x15 x16 o3_0 o3_1 e7) BR U):BR [VS x1,x15,VI x16] [.cells [VS o3_0,o3_1],.vec 4 e7] U :=
 gQ v7 h
def B3(x1:ByteArray)(x15:AV)(x16:Int)(x17:AV)(x18:Int)(o3_0:ByteArray)(o3_1:AV)(e7:List (List AV)):Tree :=
 NS (VS x1)<|NL x15<|NI (VI x16)<|NL x17<|NI (VI x18)<|.ax (Ob.cells [VS o3_0,o3_1]=.cells [VS o3_0,o3_1])<|.ax (ah [.lk .str,.lk .sl] [VS o3_0,o3_1] 0 [.vec 4 e7])<|.ax (Ob.vec 4 e7=.vec 4 e7)<|NL x17<|.test (decide (x18<(x17.elems.length:Int))) (NG x15 x16 4<|NE (x15.ix x16)<|NG x17 x18 4<|NE (x17.ix x18)<|.call 35 [VS (mk [112]),.sl [[VS (((x15.ix x16).getD 0 .any).toStr),((x15.ix x16).getD 1 .any)],[VS (((x17.ix x18).getD 0 .any).toStr),((x17.ix x18).getD 1 .any)]]] [] fun r1 o1=>NA r1<|.call 35 [VS (mk [114]),.sl [[VS ((r1.cs.getD 0 .any).toStr),(r1.cs.getD 1 .any)]]] [] fun r2 o2=>NA r2<|.call 35 [VS (mk [102]),.sl [[VS ((r2.cs.getD 0 .any).toStr),(r2.cs.getD 1 .any)]]] [] fun r3 o3=>NA r3<|NG x17 x18 4<|NE ((x17.ix x18).drop 2)<|.ax (cN 4 [[VS ((r3.cs.getD 0 .any).toStr),(r3.cs.getD 1 .any),VS ((((x17.ix x18).drop 2).getD 0 .any).toStr),(((x17.ix x18).drop 2).getD 1 .any)]]/\((e7.length)+([[VS ((r3.cs.getD 0 .any).toStr),(r3.cs.getD 1 .any),VS ((((x17.ix x18).drop 2).getD 0 .any).toStr),(((x17.ix x18).drop 2).getD 1 .any)]]:List (List AV)).length)*80<=140737488355328)<|.done 0 [VS x1,x15,VI x16,x17,VI (IntKind.wrap .i64 (x18+1))] [.cells [VS o3_0,o3_1],.vec 4 (e7++([[VS ((r3.cs.getD 0 .any).toStr),(r3.cs.getD 1 .any),VS ((((x17.ix x18).drop 2).getD 0 .any).toStr),(((x17.ix x18).drop 2).getD 1 .any)]]:List (List AV)))]) (.done 1 [VS x1,x15,VI x16] [.cells [VS o3_0,o3_1],.vec 4 e7])
abbrev Cr:=cL Tryz.prog 244 Em CY
theorem Gu(x1:ByteArray)(x15:AV)(x16:Int)(x17:AV)(x18:Int)(o3_0:ByteArray)(o3_1:AV)(e7:List (List AV))(h:px 244 (B3 x1 x15 x16 x17 x18 o3_0 o3_1 e7) Cr U):Cr [VS x1,x15,VI x16,x17,VI x18] [.cells [VS o3_0,o3_1],.vec 4 e7] U :=
 gQ v7 h
def D7(a0:ByteArray)(a1:AV):Tree :=
 .ax (LK.has .sl a1/\cN 2 a1.elems/\((([[VS a0,.v (.slice none 0 0)]]:List (List AV)).length)+a1.elems.length)*40<=140737488355328)<|.done 0 [.agg [VS (mk []),.sl (([[VS a0,.v (.slice none 0 0)]]:List (List AV))++a1.elems)]] []
theorem Hg(a0:ByteArray)(a1:AV)(ha1:LK.has .sl a1)(h:eN 11 (D7 a0 a1) R):ay Tryz.prog 35 [VS a0,a1] [] R :=
 uQ (aj (aE _) (aj (dy ha1) aG)) (oQ [] Tryz.f35 h)
def zk(a0_0:ByteArray)(a0_1:AV)(a1:ByteArray)(a2_0:ByteArray)(a2_1:AV)(a3_0:ByteArray)(a3_1:AV):Tree :=
 .test (!(ab a0_0==ab (mk []))) (.done 0 [.agg [VS a3_0,a3_1]] []) (NG a2_1 1 2<|NE (a2_1.ix (1:Int))<|.call 29 [.agg [VS a0_0,a0_1]] [] fun r1 o1=>NS r1<|.call 29 [.agg [VS a2_0,a2_1]] [] fun r2 o2=>NS r2<|.ax (ag r1.toStr+ag r2.toStr<=9223372036854775807)<|.test (ab ((r1.toStr:ByteArray)++r2.toStr)==ab (mk [43,108])) (NG a0_1 1 2<|NE (a0_1.ix (1:Int))<|.call 36 [.agg [VS (((a0_1.ix (1:Int)).getD 0 .any).toStr),((a0_1.ix (1:Int)).getD 1 .any)],VS a1,.agg [VS (((a2_1.ix (1:Int)).getD 0 .any).toStr),((a2_1.ix (1:Int)).getD 1 .any)],.agg [VS a3_0,a3_1]] [] fun r3 o3=>NA r3<|.call 35 [VS (mk [108]),.sl [[VS ((r3.cs.getD 0 .any).toStr),(r3.cs.getD 1 .any)]]] [] fun r4 o4=>NA r4<|.done 0 [.agg [VS ((r4.cs.getD 0 .any).toStr),(r4.cs.getD 1 .any)]] []) (.test (ab ((r1.toStr:ByteArray)++r2.toStr)==ab (mk [43,114])) (NG a0_1 2 2<|NE (a0_1.ix (2:Int))<|.call 36 [.agg [VS (((a0_1.ix (2:Int)).getD 0 .any).toStr),((a0_1.ix (2:Int)).getD 1 .any)],VS a1,.agg [VS (((a2_1.ix (1:Int)).getD 0 .any).toStr),((a2_1.ix (1:Int)).getD 1 .any)],.agg [VS a3_0,a3_1]] [] fun r5 o5=>NA r5<|.call 35 [VS (mk [114]),.sl [[VS ((r5.cs.getD 0 .any).toStr),(r5.cs.getD 1 .any)]]] [] fun r6 o6=>NA r6<|.done 0 [.agg [VS ((r6.cs.getD 0 .any).toStr),(r6.cs.getD 1 .any)]] []) (.test (ab ((r1.toStr:ByteArray)++r2.toStr)==ab (mk [42,108])) (NG a0_1 1 2<|NE (a0_1.ix (1:Int))<|NG ((a2_1.ix (1:Int)).getD 1 .any) 1 2<|NE (((a2_1.ix (1:Int)).getD 1 .any).ix (1:Int))<|.call 36 [.agg [VS (((a0_1.ix (1:Int)).getD 0 .any).toStr),((a0_1.ix (1:Int)).getD 1 .any)],VS a1,.agg [VS (((((a2_1.ix (1:Int)).getD 1 .any).ix (1:Int)).getD 0 .any).toStr),((((a2_1.ix (1:Int)).getD 1 .any).ix (1:Int)).getD 1 .any)],.agg [VS a3_0,a3_1]] [] fun r7 o7=>NA r7<|NG ((a2_1.ix (1:Int)).getD 1 .any) 2 2<|NE (((a2_1.ix (1:Int)).getD 1 .any).ix (2:Int))<|.call 35 [VS (mk [112]),.sl [[VS ((r7.cs.getD 0 .any).toStr),(r7.cs.getD 1 .any)],[VS (((((a2_1.ix (1:Int)).getD 1 .any).ix (2:Int)).getD 0 .any).toStr),((((a2_1.ix (1:Int)).getD 1 .any).ix (2:Int)).getD 1 .any)]]] [] fun r8 o8=>NA r8<|.done 0 [.agg [VS ((r8.cs.getD 0 .any).toStr),(r8.cs.getD 1 .any)]] []) (.test (ab ((r1.toStr:ByteArray)++r2.toStr)==ab (mk [42,114])) (NG ((a2_1.ix (1:Int)).getD 1 .any) 1 2<|NE (((a2_1.ix (1:Int)).getD 1 .any).ix (1:Int))<|NG a0_1 2 2<|NE (a0_1.ix (2:Int))<|NG ((a2_1.ix (1:Int)).getD 1 .any) 2 2<|NE (((a2_1.ix (1:Int)).getD 1 .any).ix (2:Int))<|.call 36 [.agg [VS (((a0_1.ix (2:Int)).getD 0 .any).toStr),((a0_1.ix (2:Int)).getD 1 .any)],VS a1,.agg [VS (((((a2_1.ix (1:Int)).getD 1 .any).ix (2:Int)).getD 0 .any).toStr),((((a2_1.ix (1:Int)).getD 1 .any).ix (2:Int)).getD 1 .any)],.agg [VS a3_0,a3_1]] [] fun r9 o9=>NA r9<|.call 35 [VS (mk [112]),.sl [[VS (((((a2_1.ix (1:Int)).getD 1 .any).ix (1:Int)).getD 0 .any).toStr),((((a2_1.ix (1:Int)).getD 1 .any).ix (1:Int)).getD 1 .any)],[VS ((r9.cs.getD 0 .any).toStr),(r9.cs.getD 1 .any)]]] [] fun r10 o10=>NA r10<|.done 0 [.agg [VS ((r10.cs.getD 0 .any).toStr),(r10.cs.getD 1 .any)]] []) (.call 29 [.agg [VS (((a2_1.ix (1:Int)).getD 0 .any).toStr),((a2_1.ix (1:Int)).getD 1 .any)]] [] fun r11 o11=>NS r11<|.test (ab r11.toStr==ab (mk [108])) (NG a0_1 2 2<|NE (a0_1.ix (2:Int))<|NG ((a2_1.ix (1:Int)).getD 1 .any) 1 2<|NE (((a2_1.ix (1:Int)).getD 1 .any).ix (1:Int))<|.call 36 [.agg [VS (((a0_1.ix (2:Int)).getD 0 .any).toStr),((a0_1.ix (2:Int)).getD 1 .any)],VS a1,.agg [VS (((((a2_1.ix (1:Int)).getD 1 .any).ix (1:Int)).getD 0 .any).toStr),((((a2_1.ix (1:Int)).getD 1 .any).ix (1:Int)).getD 1 .any)],.agg [VS a3_0,a3_1]] [] fun r12 o12=>NA r12<|.call 35 [VS (mk [102]),.sl [[VS ((r12.cs.getD 0 .any).toStr),(r12.cs.getD 1 .any)]]] [] fun r13 o13=>NA r13<|.done 0 [.agg [VS ((r13.cs.getD 0 .any).toStr),(r13.cs.getD 1 .any)]] []) (NG ((a2_1.ix (1:Int)).getD 1 .any) 1 2<|NE (((a2_1.ix (1:Int)).getD 1 .any).ix (1:Int))<|NG ((((a2_1.ix (1:Int)).getD 1 .any).ix (1:Int)).getD 1 .any) 2 2<|NE (((((a2_1.ix (1:Int)).getD 1 .any).ix (1:Int)).getD 1 .any).ix (2:Int))<|.call 36 [.agg [VS a0_0,a0_1],VS a1,.agg [VS (((((((a2_1.ix (1:Int)).getD 1 .any).ix (1:Int)).getD 1 .any).ix (2:Int)).getD 0 .any).toStr),((((((a2_1.ix (1:Int)).getD 1 .any).ix (1:Int)).getD 1 .any).ix (2:Int)).getD 1 .any)],.agg [VS a3_0,a3_1]] [] fun r14 o14=>NA r14<|NG a0_1 2 2<|NE (a0_1.ix (2:Int))<|NG a0_1 1 2<|sb (a0_1.ix (1:Int))<|NG ((((a2_1.ix (1:Int)).getD 1 .any).ix (1:Int)).getD 1 .any) 1 2<|NE (((((a2_1.ix (1:Int)).getD 1 .any).ix (1:Int)).getD 1 .any).ix (1:Int))<|.call 36 [.agg [VS (((a0_1.ix (2:Int)).getD 0 .any).toStr),((a0_1.ix (2:Int)).getD 1 .any)],VS (((a0_1.ix (1:Int)).hA).toStr),.agg [VS (((((((a2_1.ix (1:Int)).getD 1 .any).ix (1:Int)).getD 1 .any).ix (1:Int)).getD 0 .any).toStr),((((((a2_1.ix (1:Int)).getD 1 .any).ix (1:Int)).getD 1 .any).ix (1:Int)).getD 1 .any)],.agg [VS ((r14.cs.getD 0 .any).toStr),(r14.cs.getD 1 .any)]] [] fun r15 o15=>NA r15<|.call 35 [VS (mk [102]),.sl [[VS ((r15.cs.getD 0 .any).toStr),(r15.cs.getD 1 .any)]]] [] fun r16 o16=>NA r16<|.done 0 [.agg [VS ((r16.cs.getD 0 .any).toStr),(r16.cs.getD 1 .any)]] []))))))
theorem Hi(a0_0:ByteArray)(a0_1:AV)(a1:ByteArray)(a2_0:ByteArray)(a2_1:AV)(a3_0:ByteArray)(a3_1:AV)(ha0_1:LK.has .sl a0_1)(ha2_1:LK.has .sl a2_1)(ha3_1:LK.has .sl a3_1)(h:eN 132 (zk a0_0 a0_1 a1 a2_0 a2_1 a3_0 a3_1) R):ay Tryz.prog 36 [.agg [VS a0_0,a0_1],VS a1,.agg [VS a2_0,a2_1],.agg [VS a3_0,a3_1]] [] R :=
 uQ (aj (dc (aj (aE _) (aj (dy ha0_1) aG))) (aj (aE _) (aj (dc (aj (aE _) (aj (dy ha2_1) aG))) (aj (dc (aj (aE _) (aj (dy ha3_1) aG))) aG)))) (oQ [] Tryz.f36 h)
def F3(a0:ByteArray):Tree :=
 .call 49 [VS a0] [] fun r1 o1=>NP r1<|NP r1<|.test r1.isNil (.done 0 [.v (.pointer none)] []) (NZ r1<|NZ r1<|.ax (LK.has (.int .u8) (r1.deref.hA)/\1<=r1.deref.length)<|.test (((r1.deref.hA).toInt) != (114:Int)) (.done 0 [.v (.pointer none)] []) (.done 0 [r1] []))
theorem HF(a0:ByteArray)(h:eN 16 (F3 a0) R):ay Tryz.prog 37 [VS a0] [] R :=
 uQ (aj (aE _) aG) (oQ [] Tryz.f37 h)
def B7:LI:={hd:={bY:=[(3,.k .ptr),(10,.k (.int .i64)),(11,.k (.int .i64))]},xs:={bY:=[(3,.k .ptr)]},rt:={},ex:=0}
def F0:Code:=dE (dr Tryz.f38) 3
def EV:List (Nat×LI):=[(3,B7)]
def Cy(a0_0:AV)(a0_1:AV):Tree :=
 NZ a0_0<|NZ a0_0<|.ax (LK.has (.int .i64) ((a0_0.deref.drop 2).hA)/\1<=(a0_0.deref.drop 2).length)<|.loop F0 B7 [a0_1,VI (((a0_0.deref.drop 2).hA).toInt),VI 0] [] (fun y1 q1=>NP (y1.hA)<|NZ (y1.hA)<|NZ (y1.hA)<|.ax (LK.has .ptr ((y1.hA).deref.hA)/\1<=((y1.hA).deref).length)<|.done 0 [((y1.hA).deref.hA)] []) (fun y1 q1=>.done 0 [.any] [])
theorem Gb(a0_0:AV)(a0_1:AV)(ha0_0:LK.has .ptr a0_0)(ha0_1:LK.has .ptr a0_1)(h:eN 22 (Cy a0_0 a0_1) R):ay Tryz.prog 38 [.agg [a0_0,a0_1]] [] R :=
 uQ (aj (dc (aj (ck ha0_0) (aj (ck ha0_1) aG))) aG) (oQ EV Tryz.f38 h)
def EP(x3:AV)(x10:Int)(x11:Int):Tree :=
 NP x3<|NI (VI x10)<|NI (VI x11)<|.test (decide (x11<x10)) (NZ x3<|NZ x3<|gk (x3.deref.drop 1)<|.done 0 [((x3.deref.drop 1).hA),VI x10,VI (IntKind.wrap .i64 (x11+1))] []) (.done 1 [x3] [])
abbrev yX:=cL Tryz.prog 22 F0 B7
theorem G8(x3:AV)(x10:Int)(x11:Int)(h:px 22 (EP x3 x10 x11) yX U):yX [x3,VI x10,VI x11] [] U :=
 gQ EV h
def D4(a0_0:AV)(a0_1:AV):Tree :=
 NZ a0_0<|NZ a0_0<|gk (a0_0.deref.drop 3)<|.done 0 [.agg [((a0_0.deref.drop 3).hA),a0_1]] []
theorem Hs(a0_0:AV)(a0_1:AV)(ha0_0:LK.has .ptr a0_0)(ha0_1:LK.has .ptr a0_1)(h:eN 11 (D4 a0_0 a0_1) R):ay Tryz.prog 39 [.agg [a0_0,a0_1]] [] R :=
 uQ (aj (dc (aj (ck ha0_0) (aj (ck ha0_1) aG))) aG) (oQ [] Tryz.f39 h)
def Gf(a0_0:AV)(a0_1:AV):Tree :=
 NZ a0_0<|NZ a0_0<|gk (a0_0.deref.drop 4)<|.done 0 [.agg [((a0_0.deref.drop 4).hA),a0_1]] []
theorem IT(a0_0:AV)(a0_1:AV)(ha0_0:LK.has .ptr a0_0)(ha0_1:LK.has .ptr a0_1)(h:eN 11 (Gf a0_0 a0_1) R):ay Tryz.prog 40 [.agg [a0_0,a0_1]] [] R :=
 uQ (aj (dc (aj (ck ha0_0) (aj (ck ha0_1) aG))) aG) (oQ [] Tryz.f40 h)
def GG(a0:AV)(a1:AV):Tree :=
 .done 0 [.ptr [.v (.int .u8 112),VS (mk []),a0,a1]] []
theorem HD(a0:AV)(a1:AV)(ha0:LK.has .ptr a0)(ha1:LK.has .ptr a1)(h:eN 9 (GG a0 a1) R):ay Tryz.prog 41 [a0,a1] [] R :=
 uQ (aj (ck ha0) (aj (ck ha1) aG)) (oQ [] Tryz.f41 h)
def C6(a0:AV):Tree :=
 NZ a0<|NZ a0<|gk (a0.deref.drop 2)<|NP ((a0.deref.drop 2).hA)<|.test (!((a0.deref.drop 2).hA).isNil) (NZ a0<|NZ a0<|gk (a0.deref.drop 2)<|.call 42 [((a0.deref.drop 2).hA)] [] fun r1 o1=>NI r1<|NZ a0<|NZ a0<|gk (a0.deref.drop 3)<|NP ((a0.deref.drop 3).hA)<|.test (!((a0.deref.drop 3).hA).isNil) (NZ a0<|NZ a0<|gk (a0.deref.drop 3)<|.call 42 [((a0.deref.drop 3).hA)] [] fun r2 o2=>NI r2<|.done 0 [VI (IntKind.wrap .i64 ((IntKind.wrap .i64 (1+r1.toInt))+r2.toInt))] []) (.done 0 [VI (IntKind.wrap .i64 (1+r1.toInt))] [])) (NZ a0<|NZ a0<|gk (a0.deref.drop 3)<|NP ((a0.deref.drop 3).hA)<|.test (!((a0.deref.drop 3).hA).isNil) (NZ a0<|NZ a0<|gk (a0.deref.drop 3)<|.call 42 [((a0.deref.drop 3).hA)] [] fun r3 o3=>NI r3<|.done 0 [VI (IntKind.wrap .i64 (1+r3.toInt))] []) (.done 0 [VI 1] []))
theorem Ds(a0:AV)(ha0:LK.has .ptr a0)(h:eN 29 (C6 a0) R):ay Tryz.prog 42 [a0] [] R :=
 uQ (aj (ck ha0) aG) (oQ [] Tryz.f42 h)
def FZ(a0:ByteArray):Tree :=
 .call 68 [VS a0] [] fun r1 o1=>NP r1<|NP r1<|.test r1.isNil (.done 0 [.v (.pointer none)] []) (.call 69 [r1] [] fun r2 o2=>NB r2<|.test (!r2.toBool) (.done 0 [.v (.pointer none)] []) (.done 0 [r1] []))
theorem Hb(a0:ByteArray)(h:eN 14 (FZ a0) R):ay Tryz.prog 49 [VS a0] [] R :=
 uQ (aj (aE _) aG) (oQ [] Tryz.f49 h)
def Fg(a0:ByteArray):Tree :=
 .call 70 [VS a0] [] fun r1 o1=>NP r1<|NP r1<|.test r1.isNil (.done 0 [.v (.pointer none)] []) (.call 71 [r1] [] fun r2 o2=>NP r2<|NP r2<|.test r2.isNil (.done 0 [.v (.pointer none)] []) (.call 42 [r2] [] fun r3 o3=>NI r3<|.test (decide (r3.toInt>(200:Int))) (.done 0 [.v (.pointer none)] []) (.done 0 [r2] [])))
theorem Ig(a0:ByteArray)(h:eN 19 (Fg a0) R):ay Tryz.prog 50 [VS a0] [] R :=
 uQ (aj (aE _) aG) (oQ [] Tryz.f50 h)
def wH(a0_0:AV)(a0_1:AV)(a1:AV)(a2:Int):Tree :=
 NZ a0_0<|NZ a0_0<|.ax (LK.has (.int .u8) (a0_0.deref.hA)/\1<=a0_0.deref.length)<|.test (((a0_0.deref.hA).toInt)==(49:Int)) (NZ a1<|NZ a1<|.ax (LK.has (.int .u8) (a1.deref.hA)/\1<=a1.deref.length)<|.done 0 [VB (((a1.deref.hA).toInt)==(117:Int))] []) (.test (((a0_0.deref.hA).toInt)==(110:Int)) (NZ a1<|NZ a1<|.ax (LK.has (.int .u8) (a1.deref.hA)/\1<=a1.deref.length)<|.test (((a1.deref.hA).toInt) != (101:Int)) (.done 0 [VB false] []) (NZ a1<|NZ a1<|sb (a1.deref.drop 1)<|.ax (0<=(1:Int)/\(1:Int)<=(ag (((a1.deref.drop 1).hA).toStr):Int)/\(ag (((a1.deref.drop 1).hA).toStr):Int)<=(ag (((a1.deref.drop 1).hA).toStr):Int))<|.call 72 [VS (bz (((a1.deref.drop 1).hA).toStr) (bC 1) (bC (ag (((a1.deref.drop 1).hA).toStr):Int)))] [] fun r1 o1=>NT r1<|NI (r1.comp 0)<|.ax (LK.has .oth (r1.comp 1))<|.done 0 [VB (decide (((r1.comp 0).toInt)<a2))] [])) (.test (((a0_0.deref.hA).toInt)==(98:Int)) (.call 38 [.agg [a0_0,a0_1]] [] fun r2 o2=>NP r2<|NZ r2<|NZ r2<|.ax (bT [.ptr,.ptr] r2.deref 0/\2<=r2.deref.length)<|.call 51 [.agg [(r2.deref.getD 0 .any),(r2.deref.getD 1 .any)],a1,VI a2] [] fun r3 o3=>NB r3<|.done 0 [VB r3.toBool] []) (.test (((a0_0.deref.hA).toInt)==(43:Int)) (NZ a1<|NZ a1<|.ax (LK.has (.int .u8) (a1.deref.hA)/\1<=a1.deref.length)<|.test (((a1.deref.hA).toInt)==(108:Int)) (.call 39 [.agg [a0_0,a0_1]] [] fun r4 o4=>.ax (r4=.agg r4.cs/\r4.cs.length=2/\bT [.ptr,.ptr] r4.cs 0)<|NZ a1<|NZ a1<|gk (a1.deref.drop 2)<|.call 51 [.agg [(r4.cs.getD 0 .any),(r4.cs.getD 1 .any)],((a1.deref.drop 2).hA),VI a2] [] fun r5 o5=>NB r5<|.test r5.toBool (.done 0 [VB true] []) (NZ a1<|NZ a1<|.ax (LK.has (.int .u8) (a1.deref.hA)/\1<=a1.deref.length)<|.test (((a1.deref.hA).toInt)==(114:Int)) (.call 40 [.agg [a0_0,a0_1]] [] fun r6 o6=>.ax (r6=.agg r6.cs/\r6.cs.length=2/\bT [.ptr,.ptr] r6.cs 0)<|NZ a1<|NZ a1<|gk (a1.deref.drop 2)<|.call 51 [.agg [(r6.cs.getD 0 .any),(r6.cs.getD 1 .any)],((a1.deref.drop 2).hA),VI a2] [] fun r7 o7=>NB r7<|.done 0 [VB r7.toBool] []) (.done 0 [VB false] []))) (NZ a1<|NZ a1<|.ax (LK.has (.int .u8) (a1.deref.hA)/\1<=a1.deref.length)<|.test (((a1.deref.hA).toInt)==(114:Int)) (.call 40 [.agg [a0_0,a0_1]] [] fun r8 o8=>.ax (r8=.agg r8.cs/\r8.cs.length=2/\bT [.ptr,.ptr] r8.cs 0)<|NZ a1<|NZ a1<|gk (a1.deref.drop 2)<|.call 51 [.agg [(r8.cs.getD 0 .any),(r8.cs.getD 1 .any)],((a1.deref.drop 2).hA),VI a2] [] fun r9 o9=>NB r9<|.done 0 [VB r9.toBool] []) (.done 0 [VB false] []))) (.test (((a0_0.deref.hA).toInt)==(42:Int)) (NZ a1<|NZ a1<|.ax (LK.has (.int .u8) (a1.deref.hA)/\1<=a1.deref.length)<|.test (((a1.deref.hA).toInt)==(112:Int)) (.call 39 [.agg [a0_0,a0_1]] [] fun r10 o10=>.ax (r10=.agg r10.cs/\r10.cs.length=2/\bT [.ptr,.ptr] r10.cs 0)<|NZ a1<|NZ a1<|gk (a1.deref.drop 2)<|.call 51 [.agg [(r10.cs.getD 0 .any),(r10.cs.getD 1 .any)],((a1.deref.drop 2).hA),VI a2] [] fun r11 o11=>NB r11<|.test r11.toBool (.call 40 [.agg [a0_0,a0_1]] [] fun r12 o12=>.ax (r12=.agg r12.cs/\r12.cs.length=2/\bT [.ptr,.ptr] r12.cs 0)<|NZ a1<|NZ a1<|gk (a1.deref.drop 3)<|.call 51 [.agg [(r12.cs.getD 0 .any),(r12.cs.getD 1 .any)],((a1.deref.drop 3).hA),VI a2] [] fun r13 o13=>NB r13<|.done 0 [VB r13.toBool] []) (.done 0 [VB false] [])) (.done 0 [VB false] [])) (.test (((a0_0.deref.hA).toInt)==(114:Int)) (.call 18 [.agg [a0_0,a0_1]] [] fun r14 o14=>NT r14<|.ax ((r14.comp 0)=.agg (r14.comp 0).cs/\(r14.comp 0).cs.length=2/\bT [.ptr,.ptr] ((r14.comp 0).cs) 0)<|NP (r14.comp 1)<|NZ a1<|NZ a1<|.ax (LK.has (.int .u8) (a1.deref.hA)/\1<=a1.deref.length)<|.test (((a1.deref.hA).toInt)==(102:Int)) (NZ a1<|NZ a1<|gk (a1.deref.drop 2)<|.call 51 [.agg [((r14.comp 0).cs.getD 0 .any),((r14.comp 0).cs.getD 1 .any)],((a1.deref.drop 2).hA),VI a2] [] fun r15 o15=>NB r15<|.done 0 [VB r15.toBool] []) (.done 0 [VB false] [])) (.done 0 [VB false] []))))))
theorem E5(a0_0:AV)(a0_1:AV)(a1:AV)(a2:Int)(ha0_0:LK.has .ptr a0_0)(ha0_1:LK.has .ptr a0_1)(ha1:LK.has .ptr a1)(h:eN 134 (wH a0_0 a0_1 a1 a2) R):ay Tryz.prog 51 [.agg [a0_0,a0_1],a1,VI a2] [] R :=
 uQ (aj (dc (aj (ck ha0_0) (aj (ck ha0_1) aG))) (aj (ck ha1) (aj (aE _) aG))) (oQ [] Tryz.f51 h)
def DJ(a0:ByteArray):Tree :=
 .call 32 [VS a0] [] fun r1 o1=>NT r1<|.ax ((r1.comp 0)=.agg (r1.comp 0).cs/\(r1.comp 0).cs.length=2/\bT [.str,.sl] ((r1.comp 0).cs) 0)<|NB (r1.comp 1)<|.test ((r1.comp 1).toBool) (.call 73 [.agg [VS (((r1.comp 0).cs.getD 0 .any).toStr),((r1.comp 0).cs.getD 1 .any)]] [] fun r2 o2=>NB r2<|.test r2.toBool (.call 63 [.agg [VS (((r1.comp 0).cs.getD 0 .any).toStr),((r1.comp 0).cs.getD 1 .any)]] [] fun r3 o3=>NI r3<|.done 0 [.cQ [.agg [VS (((r1.comp 0).cs.getD 0 .any).toStr),((r1.comp 0).cs.getD 1 .any)],VB (decide (r3.toInt<=(400:Int)))]] []) (.done 0 [.cQ [.agg [VS (((r1.comp 0).cs.getD 0 .any).toStr),((r1.comp 0).cs.getD 1 .any)],VB false]] [])) (.done 0 [.cQ [.agg [VS (((r1.comp 0).cs.getD 0 .any).toStr),((r1.comp 0).cs.getD 1 .any)],VB false]] [])
theorem HU(a0:ByteArray)(h:eN 22 (DJ a0) R):ay Tryz.prog 52 [VS a0] [] R :=
 uQ (aj (aE _) aG) (oQ [] Tryz.f52 h)
def HN(a0_0:ByteArray)(a0_1:AV)(a1:AV)(e2:List (List AV)):Tree :=
 .test (!(ab a0_0==ab (mk []))) (.test (ab a0_0==ab (mk [48])) (.done 0 [.vec 1] [.dead,.vec 1 e2]) (.test (ab a0_0==ab (mk [49])) (.done 0 [.vec 1] [.dead,.vec 1 e2]) (.call 74 [a1,VS a0_0] [] fun r1 o1=>NB r1<|.test r1.toBool (.done 0 [.vec 1] [.dead,.vec 1 e2]) (.call 74 [.sl e2,VS a0_0] [] fun r2 o2=>NB r2<|.test r2.toBool (.done 0 [.vec 1] [.dead,.vec 1 e2]) (.ax (cN 1 [[VS a0_0]]/\((e2.length)+([[VS a0_0]]:List (List AV)).length)*16<=140737488355328)<|.done 0 [.vec 1] [.dead,.vec 1 (e2++([[VS a0_0]]:List (List AV)))]))))) (.call 29 [.agg [VS a0_0,a0_1]] [] fun r3 o3=>NS r3<|.test (ab r3.toStr==ab (mk [114,101,99])) (NG a0_1 2 2<|NE (a0_1.ix (2:Int))<|NG a0_1 1 2<|sb (a0_1.ix (1:Int))<|.call 75 [a1,VS (((a0_1.ix (1:Int)).hA).toStr)] [] fun r4 o4=>.ax (r4=.vec 0/\(o4.hO)=.vec 1 (o4.hO).es)<|.ax (∀x,x∈o4->mq x)<|.call 53 [.agg [VS (((a0_1.ix (2:Int)).getD 0 .any).toStr),((a0_1.ix (2:Int)).getD 1 .any)],.sl ((o4.hO).es),.vec 0] [.vec 1 e2] fun r5 o5=>.ax (r5=.vec 1/\(o5.tail.hO)=.vec 1 (o5.tail.hO).es)<|.done 0 [.vec 1] [.dead,.vec 1 ((o5.tail.hO).es)]) (NG a0_1 2 2<|NE (a0_1.ix (2:Int))<|NG a0_1 1 2<|NE (a0_1.ix (1:Int))<|.call 53 [.agg [VS (((a0_1.ix (1:Int)).getD 0 .any).toStr),((a0_1.ix (1:Int)).getD 1 .any)],a1,.vec 0] [.vec 1 e2] fun r6 o6=>.ax (r6=.vec 1/\(o6.tail.hO)=.vec 1 (o6.tail.hO).es)<|.call 53 [.agg [VS (((a0_1.ix (2:Int)).getD 0 .any).toStr),((a0_1.ix (2:Int)).getD 1 .any)],a1,.vec 0] [.vec 1 ((o6.tail.hO).es)] fun r7 o7=>.ax (r7=.vec 1/\(o7.tail.hO)=.vec 1 (o7.tail.hO).es)<|.done 0 [.vec 1] [.dead,.vec 1 ((o7.tail.hO).es)]))
theorem I5(a0_0:ByteArray)(a0_1:AV)(a1:AV)(e2:List (List AV))(ha0_1:LK.has .sl a0_1)(ha1:LK.has .sl a1)(h:eN 65 (HN a0_0 a0_1 a1 e2) R):ay Tryz.prog 53 [.agg [VS a0_0,a0_1],a1,.vec 0] [.vec 1 e2] R :=
 ay.Bq (dm (lU _) iP) (ay.up (aj (dc (aj (aE _) (aj (dy ha0_1) aG))) (aj (dy ha1) (aj (aE _) aG))) (oF [] {mu:=[(2,.one (.vec))],own:=[0]} Tryz.f53 h))
def E2(a0:ByteArray):Tree :=
 .call 76 [VS a0,.v (.int .u8 116),.v (.int .u8 116)] [] fun r1 o1=>NB r1<|.done 0 [VB r1.toBool] []
theorem Ip(a0:ByteArray)(h:eN 5 (E2 a0) R):ay Tryz.prog 54 [VS a0] [] R :=
 uQ (aj (aE _) aG) (oQ [] Tryz.f54 h)
def BD:LI:={hd:={bY:=[(1,.k .sl),(6,.k (.int .i64))],refs:=[(2,2),(4,4)],cD:=[(2,[.lk .str,.lk .sl]),(4,[.lk .str,.lk .sl])]},xs:={bY:=[(1,.k .sl)],refs:=[(2,2),(4,4)],cD:=[(2,[.lk .str,.lk .sl]),(4,[.lk .str,.lk .sl])]},rt:={bY:=[(5,.k .sl)],refs:=[(4,4)],cD:=[(4,[.lk .str,.lk .sl])]},ex:=0}
def D2:Code:=dE (dr Tryz.f55) 2
def GO:List (Nat×LI):=[(2,BD)]
def DF(a0_0:ByteArray)(a0_1:AV)(a1:AV):Tree :=
 NL a1<|.loop D2 BD [a1,VI (IntKind.wrap .i64 ((a1.elems.length:Int)-1))] [.cells [VS a0_0,a0_1],.cells [VS (mk []),.v (.slice none 0 0)]] (fun y1 q1=>NL (y1.hA)<|.ax ((q1.hO)=.cells (q1.hO).cs)<|.ax (ah [.lk .str,.lk .sl] ((q1.hO).cs) 0 q1.tail)<|.ax (((q1.tail.drop 0).hO)=.cells ((q1.tail.drop 0).hO).cs)<|.ax (ah [.lk .str,.lk .sl] (((q1.tail.drop 0).hO).cs) 0 ((q1.tail.drop 0).tail))<|.done 0 [.cQ [.agg [VS (((q1.hO).cs.getD 0 .any).toStr),((q1.hO).cs.getD 1 .any)],(y1.hA)]] []) (fun y1 q1=>NL (y1.hA)<|.ax ((q1.hO)=.cells (q1.hO).cs)<|.ax (ah [.lk .str,.lk .sl] ((q1.hO).cs) 0 q1.tail)<|.done 0 [.cQ [.agg [VS (((q1.hO).cs.getD 0 .any).toStr),((q1.hO).cs.getD 1 .any)],(y1.hA)]] [])
theorem Hd(a0_0:ByteArray)(a0_1:AV)(a1:AV)(ha0_1:LK.has .sl a0_1)(ha1:LK.has .sl a1)(h:eN 34 (DF a0_0 a0_1 a1) R):ay Tryz.prog 55 [.agg [VS a0_0,a0_1],a1] [] R :=
 uQ (aj (dc (aj (aE _) (aj (dy ha0_1) aG))) (aj (dy ha1) aG)) (oQ GO Tryz.f55 h)
def A5(x1:AV)(x6:Int)(o2_0:ByteArray)(o2_1:AV)(o4_0:ByteArray)(o4_1:AV):Tree :=
 NL x1<|NI (VI x6)<|.ax (Ob.cells [VS o2_0,o2_1]=.cells [VS o2_0,o2_1])<|.ax (ah [.lk .str,.lk .sl] [VS o2_0,o2_1] 0 [.cells [VS o4_0,o4_1]])<|.ax (Ob.cells [VS o4_0,o4_1]=.cells [VS o4_0,o4_1])<|.ax (ah [.lk .str,.lk .sl] [VS o4_0,o4_1] 0 [])<|.test (decide (x6≥(0:Int))) (NG x1 x6 4<|sb (x1.ix x6)<|.test (ab (((x1.ix x6).hA).toStr)==ab o2_0) (NG x1 x6 4<|NE ((x1.ix x6).drop 1)<|NG x1 x6 4<|pN ((x1.ix x6).drop 3)<|.done 2 [(((x1.ix x6).drop 3).hA)] [.cells [VS ((((x1.ix x6).drop 1).getD 0 .any).toStr),(((x1.ix x6).drop 1).getD 1 .any)]]) (.done 0 [x1,VI (IntKind.wrap .i64 (x6-1))] [.cells [VS o2_0,o2_1],.cells [VS o4_0,o4_1]])) (.done 1 [x1] [.cells [VS o2_0,o2_1],.cells [VS o4_0,o4_1]])
abbrev Be:=cL Tryz.prog 34 D2 BD
theorem FL(x1:AV)(x6:Int)(o2_0:ByteArray)(o2_1:AV)(o4_0:ByteArray)(o4_1:AV)(h:px 34 (A5 x1 x6 o2_0 o2_1 o4_0 o4_1) Be U):Be [x1,VI x6] [.cells [VS o2_0,o2_1],.cells [VS o4_0,o4_1]] U :=
 gQ GO h
def Ff(a0:ByteArray):Tree :=
 .call 76 [VS a0,.v (.int .u8 120),.v (.int .u8 122)] [] fun r1 o1=>NB r1<|.done 0 [VB r1.toBool] []
theorem IY(a0:ByteArray)(h:eN 5 (Ff a0) R):ay Tryz.prog 56 [VS a0] [] R :=
 uQ (aj (aE _) aG) (oQ [] Tryz.f56 h)
def yA:LI:={hd:={bY:=[(0,.k .str),(3,.k (.int .i64)),(4,.k (.int .i64))]},xs:={bY:=[(3,.k (.int .i64))]},rt:={bY:=[(2,.k (.int .i64))]},ex:=0}
def Av:Code:=dE (dr Tryz.f57) 5
def E7:List (Nat×LI):=[(5,yA)]
def DC(a0:ByteArray):Tree :=
 .call 30 [VI (ag a0:Int),VI 2,VI 3] [] fun r1 o1=>NB r1<|.test (!r1.toBool) (.done 0 [VI (-1)] []) (.ax (0<=(0:Int)/\(0:Int)<ag a0)<|.test ((bt a0 0) != (101:Int)) (.done 0 [VI (-1)] []) (.test ((ag a0:Int)==(3:Int)) (.ax (0<=(1:Int)/\(1:Int)<ag a0)<|.test ((bt a0 1)==(48:Int)) (.done 0 [VI (-1)] []) (.loop Av yA [VS a0,VI 0,VI 1] [] (fun y2 q2=>NI (y2.hA)<|.done 0 [VI ((y2.hA).toInt)] []) (fun y2 q2=>NI (y2.hA)<|.done 0 [VI ((y2.hA).toInt)] []))) (.loop Av yA [VS a0,VI 0,VI 1] [] (fun y3 q3=>NI (y3.hA)<|.done 0 [VI ((y3.hA).toInt)] []) (fun y3 q3=>NI (y3.hA)<|.done 0 [VI ((y3.hA).toInt)] []))))
theorem G9(a0:ByteArray)(h:eN 49 (DC a0) R):ay Tryz.prog 57 [VS a0] [] R :=
 uQ (aj (aE _) aG) (oQ E7 Tryz.f57 h)
def Bh(x0:ByteArray)(x3:Int)(x4:Int):Tree :=
 NS (VS x0)<|NI (VI x3)<|NI (VI x4)<|.test (decide (x4<(ag x0:Int))) (.ax (0<=x4/\x4<ag x0)<|.test (decide ((bt x0 x4)<(48:Int))) (.done 2 [VI (-1)] []) (.ax (0<=x4/\x4<ag x0)<|.test (decide ((bt x0 x4)>(57:Int))) (.done 2 [VI (-1)] []) (.ax (0<=x4/\x4<ag x0)<|.done 0 [VS x0,VI (IntKind.wrap .i64 ((IntKind.wrap .i64 (10*x3))+(IntKind.wrap .i64 (IntKind.wrap .u8 ((bt x0 x4)-48))))),VI (IntKind.wrap .i64 (x4+1))] []))) (.done 1 [VI x3] [])
abbrev BO:=cL Tryz.prog 49 Av yA
theorem GX(x0:ByteArray)(x3:Int)(x4:Int)(h:px 49 (Bh x0 x3 x4) BO U):BO [VS x0,VI x3,VI x4] [] U :=
 gQ E7 h
def ED(a0_0:ByteArray)(a0_1:AV)(a1:AV):Tree :=
 NG a0_1 2 2<|NE (a0_1.ix (2:Int))<|.ax (LK.has .sl a1/\cN 4 a1.elems/\((([]:List (List AV)).length)+a1.elems.length)*80<=140737488355328)<|NG a0_1 1 2<|sb (a0_1.ix (1:Int))<|.ax (cN 4 [[VS (((a0_1.ix (1:Int)).hA).toStr),VS a0_0,a0_1,a1]]/\(((([]:List (List AV))++a1.elems).length)+([[VS (((a0_1.ix (1:Int)).hA).toStr),VS a0_0,a0_1,a1]]:List (List AV)).length)*80<=140737488355328)<|.done 0 [.cQ [.agg [VS (((a0_1.ix (2:Int)).getD 0 .any).toStr),((a0_1.ix (2:Int)).getD 1 .any)],.sl ((([]:List (List AV))++a1.elems)++([[VS (((a0_1.ix (1:Int)).hA).toStr),VS a0_0,a0_1,a1]]:List (List AV)))]] []
theorem IK(a0_0:ByteArray)(a0_1:AV)(a1:AV)(ha0_1:LK.has .sl a0_1)(ha1:LK.has .sl a1)(h:eN 23 (ED a0_0 a0_1 a1) R):ay Tryz.prog 58 [.agg [VS a0_0,a0_1],a1] [] R :=
 uQ (aj (dc (aj (aE _) (aj (dy ha0_1) aG))) (aj (dy ha1) aG)) (oQ [] Tryz.f58 h)
def BN:LI:={hd:={bY:=[(0,.k .str),(1,.k (.int .i64)),(9,.k (.int .i64))],refs:=[(6,6),(8,8)],cD:=[(6,[.lk .str,.lk .sl]),(8,[.lk .str,.lk .sl])]},xs:={bY:=[(0,.k .str),(1,.k (.int .i64)),(9,.k (.int .i64))],refs:=[(6,6),(8,8)],cD:=[(6,[.lk .str,.lk .sl]),(8,[.lk .str,.lk .sl])]},rt:={},ex:=0}
def GI:Code:=dE (dr Tryz.f59) 6
def CD:LI:={hd:={bY:=[(0,.k .str),(1,.k (.int .i64)),(2,.k (.int .i64))],refs:=[(6,6),(8,8)],cD:=[(6,[.lk .str,.lk .sl]),(8,[.lk .str,.vec 2])]},xs:={},rt:={bY:=[(7,.k (.int .i64))],refs:=[(6,6)],cD:=[(6,[.lk .str,.vec 2])]},ex:=999}
def Ec:Code:=dE (dr Tryz.f59) 12
def Cx:List (Nat×LI):=[(6,BN),(12,CD)]
def Da(a0:ByteArray)(a1:Int)(a2:Int):Tree :=
 .test (decide (a2>(300:Int))) (.done 0 [.cQ [.agg [VS (mk []),.v (.slice none 0 0)],VI (-1)]] []) (.test (decide (a1≥(ag a0:Int))) (.done 0 [.cQ [.agg [VS (mk []),.v (.slice none 0 0)],VI (-1)]] []) (.ax (0<=a1/\a1<ag a0)<|.test ((bt a0 a1) != (40:Int)) (.loop GI BN [VS a0,VI a1,VI a1] [.cells [VS (mk []),.v (.slice none 0 0)],.cells [VS (mk []),.v (.slice none 0 0)]] (fun y2 q2=>NS (y2.hA)<|NI (y2.tail.hA)<|NI (y2.tail.tail.hA)<|.ax ((q2.hO)=.cells (q2.hO).cs)<|.ax (ah [.lk .str,.lk .sl] ((q2.hO).cs) 0 q2.tail)<|.ax (((q2.tail.drop 0).hO)=.cells ((q2.tail.drop 0).hO).cs)<|.ax (ah [.lk .str,.lk .sl] (((q2.tail.drop 0).hO).cs) 0 ((q2.tail.drop 0).tail))<|.ax (0<=((y2.tail.tail.hA).toInt)/\((y2.tail.tail.hA).toInt)<=((y2.tail.hA).toInt)/\((y2.tail.hA).toInt)<=(ag ((y2.hA).toStr):Int))<|.test (ab (bz ((y2.hA).toStr) (bC ((y2.tail.tail.hA).toInt)) (bC ((y2.tail.hA).toInt)))==ab (mk [])) (.done 0 [.cQ [.agg [VS (bz ((y2.hA).toStr) (bC ((y2.tail.tail.hA).toInt)) (bC ((y2.tail.hA).toInt))),((q2.tail.hO).cs.getD 1 .any)],VI (-1)]] []) (.done 0 [.cQ [.agg [VS (bz ((y2.hA).toStr) (bC ((y2.tail.tail.hA).toInt)) (bC ((y2.tail.hA).toInt))),((q2.tail.hO).cs.getD 1 .any)],VI ((y2.tail.hA).toInt)]] [])) (fun y2 q2=>.fail)) (.loop Ec CD [VS a0,VI a1,VI a2] [.cells [VS (mk []),.v (.slice none 0 0)],.cells [VS (mk []),.any],.vec 2 []] (fun y5 q5=>.fail) (fun y5 q5=>NI (y5.hA)<|.ax ((q5.hO)=.cells (q5.hO).cs)<|.ax (ah [.lk .str,.vec 2] ((q5.hO).cs) 0 q5.tail)<|.done 0 [.cQ [.agg [VS (((q5.hO).cs.getD 0 .any).toStr),.sl ((q5.tail.hO).es)],VI ((y5.hA).toInt)]] []))))
theorem DW(a0:ByteArray)(a1:Int)(a2:Int)(h:eN 87 (Da a0 a1 a2) R):ay Tryz.prog 59 [VS a0,VI a1,VI a2] [] R :=
 uQ (aj (aE _) (aj (aE _) (aj (aE _) aG))) (oQ Cx Tryz.f59 h)
def Bb(x0:ByteArray)(x1:Int)(x9:Int)(o6_0:ByteArray)(o6_1:AV)(o8_0:ByteArray)(o8_1:AV):Tree :=
 NS (VS x0)<|NI (VI x1)<|NI (VI x9)<|.ax (Ob.cells [VS o6_0,o6_1]=.cells [VS o6_0,o6_1])<|.ax (ah [.lk .str,.lk .sl] [VS o6_0,o6_1] 0 [.cells [VS o8_0,o8_1]])<|.ax (Ob.cells [VS o8_0,o8_1]=.cells [VS o8_0,o8_1])<|.ax (ah [.lk .str,.lk .sl] [VS o8_0,o8_1] 0 [])<|.test (decide (x1<(ag x0:Int))) (.ax (0<=x1/\x1<ag x0)<|.call 77 [.v (.int .u8 (bt x0 x1))] [] fun r1 o1=>NB r1<|.test r1.toBool (.done 0 [VS x0,VI (IntKind.wrap .i64 (x1+1)),VI x9] [.cells [VS o6_0,o6_1],.cells [VS o8_0,o8_1]]) (.done 1 [VS x0,VI x1,VI x9] [.cells [VS o6_0,o6_1],.cells [VS o8_0,o8_1]])) (.done 1 [VS x0,VI x1,VI x9] [.cells [VS o6_0,o6_1],.cells [VS o8_0,o8_1]])
abbrev C5:=cL Tryz.prog 87 GI BN
theorem GF(x0:ByteArray)(x1:Int)(x9:Int)(o6_0:ByteArray)(o6_1:AV)(o8_0:ByteArray)(o8_1:AV)(h:px 87 (Bb x0 x1 x9 o6_0 o6_1 o8_0 o8_1) C5 U):C5 [VS x0,VI x1,VI x9] [.cells [VS o6_0,o6_1],.cells [VS o8_0,o8_1]] U :=
 gQ Cx h
def Eh(x0:ByteArray)(x1:Int)(x2:Int)(o6_0:ByteArray)(o6_1:AV)(o8_0:ByteArray)(o8_1:List (List AV)):Tree :=
 NS (VS x0)<|NI (VI x1)<|NI (VI x2)<|.ax (Ob.cells [VS o6_0,o6_1]=.cells [VS o6_0,o6_1])<|.ax (ah [.lk .str,.lk .sl] [VS o6_0,o6_1] 0 [.cells [VS o8_0,.any],.vec 2 o8_1])<|.ax (Ob.cells [VS o8_0,.any]=.cells [VS o8_0,.any])<|.ax (ah [.lk .str,.vec 2] [VS o8_0,.any] 0 [.vec 2 o8_1])<|.call 59 [VS x0,VI (IntKind.wrap .i64 (x1+1)),VI (IntKind.wrap .i64 (x2+1))] [] fun r1 o1=>NT r1<|.ax ((r1.comp 0)=.agg (r1.comp 0).cs/\(r1.comp 0).cs.length=2/\bT [.str,.sl] ((r1.comp 0).cs) 0)<|NI (r1.comp 1)<|.test (decide (((r1.comp 1).toInt)<(0:Int))) (.done 2 [VI (-1)] [.cells [VS o8_0,.any],.vec 2 o8_1]) (.test (decide (((r1.comp 1).toInt)≥(ag x0:Int))) (.done 2 [VI (-1)] [.cells [VS o8_0,.any],.vec 2 o8_1]) (.ax (cN 2 [[VS (((r1.comp 0).cs.getD 0 .any).toStr),((r1.comp 0).cs.getD 1 .any)]]/\((o8_1.length)+([[VS (((r1.comp 0).cs.getD 0 .any).toStr),((r1.comp 0).cs.getD 1 .any)]]:List (List AV)).length)*40<=140737488355328)<|.ax (0<=((r1.comp 1).toInt)/\((r1.comp 1).toInt)<ag x0)<|.test ((bt x0 ((r1.comp 1).toInt))==(41:Int)) (.done 2 [VI (IntKind.wrap .i64 (((r1.comp 1).toInt)+1))] [.cells [VS o8_0,.any],.vec 2 (o8_1++([[VS (((r1.comp 0).cs.getD 0 .any).toStr),((r1.comp 0).cs.getD 1 .any)]]:List (List AV)))]) (.ax (0<=((r1.comp 1).toInt)/\((r1.comp 1).toInt)<ag x0)<|.test ((bt x0 ((r1.comp 1).toInt)) != (32:Int)) (.done 2 [VI (-1)] [.cells [VS o8_0,.any],.vec 2 (o8_1++([[VS (((r1.comp 0).cs.getD 0 .any).toStr),((r1.comp 0).cs.getD 1 .any)]]:List (List AV)))]) (.done 0 [VS x0,VI ((r1.comp 1).toInt),VI x2] [.cells [VS o6_0,o6_1],.cells [VS o8_0,.any],.vec 2 (o8_1++([[VS (((r1.comp 0).cs.getD 0 .any).toStr),((r1.comp 0).cs.getD 1 .any)]]:List (List AV)))]))))
abbrev Bk:=cL Tryz.prog 87 Ec CD
theorem IQ(x0:ByteArray)(x1:Int)(x2:Int)(o6_0:ByteArray)(o6_1:AV)(o8_0:ByteArray)(o8_1:List (List AV))(h:px 87 (Eh x0 x1 x2 o6_0 o6_1 o8_0 o8_1) Bk U):Bk [VS x0,VI x1,VI x2] [.cells [VS o6_0,o6_1],.cells [VS o8_0,.any],.vec 2 o8_1] U :=
 gQ Cx h
def Cd:LI:={hd:={bY:=[(0,.k .sl),(1,.k .str),(7,.k (.int .i64))],ez:=[(2,4)]},xs:={ez:=[(2,4)]},rt:={},ex:=0}
def Ep:Code:=dE (dr Tryz.f60) 2
def Fp:List (Nat×LI):=[(2,Cd)]
def DD(a0:AV)(a1:ByteArray)(e2:List (List AV)):Tree :=
 .loop Ep Cd [a0,VS a1,VI 0] [.vec 4 e2] (fun y2 q2=>.ax (((q2.drop 0).hO)=.vec 4 ((q2.drop 0).hO).es)<|.done 0 [.vec 1] [.dead,.vec 4 ((q2.hO).es)]) (fun y2 q2=>.fail)
theorem Hx(a0:AV)(a1:ByteArray)(e2:List (List AV))(ha0:LK.has .sl a0)(h:eN 32 (DD a0 a1 e2) R):ay Tryz.prog 60 [a0,VS a1,.vec 0] [.vec 4 e2] R :=
 ay.Bq (dm (lU _) iP) (ay.up (aj (dy ha0) (aj (aE _) (aj (aE _) aG))) (oF Fp {mu:=[(2,.one (.vec))],own:=[0]} Tryz.f60 h))
def CH(x0:AV)(x1:ByteArray)(x7:Int)(e2:List (List AV)):Tree :=
 NL x0<|NS (VS x1)<|NI (VI x7)<|.ax (Ob.vec 4 e2=.vec 4 e2)<|NL x0<|.test (decide (x7<(x0.elems.length:Int))) (NG x0 x7 4<|NE (x0.ix x7)<|.call 35 [VS x1,.sl [[VS (((x0.ix x7).getD 0 .any).toStr),((x0.ix x7).getD 1 .any)]]] [] fun r1 o1=>NA r1<|NG x0 x7 4<|NE ((x0.ix x7).drop 2)<|.ax (cN 4 [[VS ((r1.cs.getD 0 .any).toStr),(r1.cs.getD 1 .any),VS ((((x0.ix x7).drop 2).getD 0 .any).toStr),(((x0.ix x7).drop 2).getD 1 .any)]]/\((e2.length)+([[VS ((r1.cs.getD 0 .any).toStr),(r1.cs.getD 1 .any),VS ((((x0.ix x7).drop 2).getD 0 .any).toStr),(((x0.ix x7).drop 2).getD 1 .any)]]:List (List AV)).length)*80<=140737488355328)<|.done 0 [x0,VS x1,VI (IntKind.wrap .i64 (x7+1))] [.vec 4 (e2++([[VS ((r1.cs.getD 0 .any).toStr),(r1.cs.getD 1 .any),VS ((((x0.ix x7).drop 2).getD 0 .any).toStr),(((x0.ix x7).drop 2).getD 1 .any)]]:List (List AV)))]) (.done 1 [] [.vec 4 e2])
abbrev Bd:=cL Tryz.prog 32 Ep Cd
theorem ET(x0:AV)(x1:ByteArray)(x7:Int)(e2:List (List AV))(h:px 32 (CH x0 x1 x7 e2) Bd U):Bd [x0,VS x1,VI x7] [.vec 4 e2] U :=
 gQ Fp h
def BK:LI:={hd:={bY:=[(3,.k (.int .i64)),(4,.k (.int .i64))],refs:=[(1,1)],cD:=[(1,[.lk .str,.lk .sl])]},xs:={bY:=[(3,.k (.int .i64))]},rt:={},ex:=0}
def Gg:Code:=dE (dr Tryz.f63) 5
def Gc:List (Nat×LI):=[(5,BK)]
def Ca(a0_0:ByteArray)(a0_1:AV):Tree :=
 .test (!(ab a0_0==ab (mk []))) (.done 0 [VI 1] []) (.loop Gg BK [VI 0,VI 0] [.cells [VS a0_0,a0_1]] (fun y2 q2=>NI (y2.hA)<|.done 0 [VI ((y2.hA).toInt)] []) (fun y2 q2=>.done 0 [.any] []))
theorem D5(a0_0:ByteArray)(a0_1:AV)(ha0_1:LK.has .sl a0_1)(h:eN 24 (Ca a0_0 a0_1) R):ay Tryz.prog 63 [.agg [VS a0_0,a0_1]] [] R :=
 uQ (aj (dc (aj (aE _) (aj (dy ha0_1) aG))) aG) (oQ Gc Tryz.f63 h)
def BF(x3:Int)(x4:Int)(o1_0:ByteArray)(o1_1:AV):Tree :=
 NI (VI x3)<|NI (VI x4)<|.ax (Ob.cells [VS o1_0,o1_1]=.cells [VS o1_0,o1_1])<|.ax (ah [.lk .str,.lk .sl] [VS o1_0,o1_1] 0 [])<|NL o1_1<|.test (decide (x4<(o1_1.elems.length:Int))) (NG o1_1 x4 2<|NE (o1_1.ix x4)<|.call 63 [.agg [VS (((o1_1.ix x4).getD 0 .any).toStr),((o1_1.ix x4).getD 1 .any)]] [] fun r1 o1=>NI r1<|.done 0 [VI (IntKind.wrap .i64 (x3+r1.toInt)),VI (IntKind.wrap .i64 (x4+1))] [.cells [VS o1_0,o1_1]]) (.done 1 [VI x3] [])
abbrev BM:=cL Tryz.prog 24 Gg BK
theorem GV(x3:Int)(x4:Int)(o1_0:ByteArray)(o1_1:AV)(h:px 24 (BF x3 x4 o1_0 o1_1) BM U):BM [VI x3,VI x4] [.cells [VS o1_0,o1_1]] U :=
 gQ Gc h
def Gx(a0:ByteArray):Tree :=
 .call 70 [VS a0] [] fun r1 o1=>NP r1<|NP r1<|.test r1.isNil (.done 0 [.v (.pointer none)] []) (.call 82 [r1,.v (.slice none 0 0)] [] fun r2 o2=>NP r2<|NP r2<|.test r2.isNil (.done 0 [.v (.pointer none)] []) (.call 83 [r2] [] fun r3 o3=>NI r3<|.test (decide (r3.toInt>(400:Int))) (.done 0 [.v (.pointer none)] []) (.done 0 [r2] [])))
theorem HJ(a0:ByteArray)(h:eN 19 (Gx a0) R):ay Tryz.prog 68 [VS a0] [] R :=
 uQ (aj (aE _) aG) (oQ [] Tryz.f68 h)
def EN(a0:AV):Tree :=
 .call 85 [a0] [] fun r1 o1=>NL r1<|.call 84 [r1,.v (.func (.func 86) #[] #[])] [] fun r2 o2=>NB r2<|.done 0 [VB (!r2.toBool)] []
theorem HM(a0:AV)(ha0:LK.has .ptr a0)(h:eN 7 (EN a0) R):ay Tryz.prog 69 [a0] [] R :=
 uQ (aj (ck ha0) aG) (oQ [] Tryz.f69 h)
def FN(a0:ByteArray):Tree :=
 .test (decide ((ag a0:Int)>(8000:Int))) (.done 0 [.v (.pointer none)] []) (.call 87 [VS a0,VI 0] [] fun r1 o1=>NT r1<|NP (r1.comp 0)<|NS (r1.comp 1)<|.test (!(ab ((r1.comp 1).toStr)==ab (mk []))) (.done 0 [.v (.pointer none)] []) (.done 0 [(r1.comp 0)] []))
theorem Ht(a0:ByteArray)(h:eN 16 (FN a0) R):ay Tryz.prog 70 [VS a0] [] R :=
 uQ (aj (aE _) aG) (oQ [] Tryz.f70 h)
def C1(a0:AV):Tree :=
 NZ a0<|NZ a0<|.ax (LK.has .str (a0.deref.hA)/\1<=a0.deref.length)<|.test (ab ((a0.deref.hA).toStr)==ab (mk [117])) (.done 0 [.ptr [.v (.int .u8 117),VS (mk []),.v (.pointer none),.v (.pointer none)]] []) (NZ a0<|NZ a0<|.ax (LK.has .str (a0.deref.hA)/\1<=a0.deref.length)<|.call 88 [VS ((a0.deref.hA).toStr)] [] fun r1 o1=>NB r1<|.test r1.toBool (NZ a0<|NZ a0<|.ax (LK.has .str (a0.deref.hA)/\1<=a0.deref.length)<|.done 0 [.ptr [.v (.int .u8 101),VS ((a0.deref.hA).toStr),.v (.pointer none),.v (.pointer none)]] []) (.call 89 [a0,VS (mk [108]),VI 2] [] fun r2 o2=>NB r2<|.test r2.toBool (NZ a0<|NZ a0<|pN (a0.deref.drop 1)<|NG ((a0.deref.drop 1).hA) 1 1<|gk (((a0.deref.drop 1).hA).ix (1:Int))<|.call 71 [((((a0.deref.drop 1).hA).ix (1:Int)).hA)] [] fun r3 o3=>NP r3<|NP r3<|.test r3.isNil (.done 0 [.v (.pointer none)] []) (NZ a0<|NZ a0<|pN (a0.deref.drop 1)<|NG ((a0.deref.drop 1).hA) 0 1<|gk (((a0.deref.drop 1).hA).ix (0:Int))<|NZ ((((a0.deref.drop 1).hA).ix (0:Int)).hA)<|NZ ((((a0.deref.drop 1).hA).ix (0:Int)).hA)<|.ax (LK.has .str (((((a0.deref.drop 1).hA).ix (0:Int)).hA).deref.hA)/\1<=(((((a0.deref.drop 1).hA).ix (0:Int)).hA).deref).length)<|.ax (0<=(0:Int)/\(0:Int)<ag ((((((a0.deref.drop 1).hA).ix (0:Int)).hA).deref.hA).toStr))<|.done 0 [.ptr [.v (.int .u8 (bt ((((((a0.deref.drop 1).hA).ix (0:Int)).hA).deref.hA).toStr) 0)),VS (mk []),r3,.v (.pointer none)]] [])) (.call 89 [a0,VS (mk [114]),VI 2] [] fun r4 o4=>NB r4<|.test r4.toBool (NZ a0<|NZ a0<|pN (a0.deref.drop 1)<|NG ((a0.deref.drop 1).hA) 1 1<|gk (((a0.deref.drop 1).hA).ix (1:Int))<|.call 71 [((((a0.deref.drop 1).hA).ix (1:Int)).hA)] [] fun r5 o5=>NP r5<|NP r5<|.test r5.isNil (.done 0 [.v (.pointer none)] []) (NZ a0<|NZ a0<|pN (a0.deref.drop 1)<|NG ((a0.deref.drop 1).hA) 0 1<|gk (((a0.deref.drop 1).hA).ix (0:Int))<|NZ ((((a0.deref.drop 1).hA).ix (0:Int)).hA)<|NZ ((((a0.deref.drop 1).hA).ix (0:Int)).hA)<|.ax (LK.has .str (((((a0.deref.drop 1).hA).ix (0:Int)).hA).deref.hA)/\1<=(((((a0.deref.drop 1).hA).ix (0:Int)).hA).deref).length)<|.ax (0<=(0:Int)/\(0:Int)<ag ((((((a0.deref.drop 1).hA).ix (0:Int)).hA).deref.hA).toStr))<|.done 0 [.ptr [.v (.int .u8 (bt ((((((a0.deref.drop 1).hA).ix (0:Int)).hA).deref.hA).toStr) 0)),VS (mk []),r5,.v (.pointer none)]] [])) (.call 89 [a0,VS (mk [102]),VI 2] [] fun r6 o6=>NB r6<|.test r6.toBool (NZ a0<|NZ a0<|pN (a0.deref.drop 1)<|NG ((a0.deref.drop 1).hA) 1 1<|gk (((a0.deref.drop 1).hA).ix (1:Int))<|.call 71 [((((a0.deref.drop 1).hA).ix (1:Int)).hA)] [] fun r7 o7=>NP r7<|NP r7<|.test r7.isNil (.done 0 [.v (.pointer none)] []) (NZ a0<|NZ a0<|pN (a0.deref.drop 1)<|NG ((a0.deref.drop 1).hA) 0 1<|gk (((a0.deref.drop 1).hA).ix (0:Int))<|NZ ((((a0.deref.drop 1).hA).ix (0:Int)).hA)<|NZ ((((a0.deref.drop 1).hA).ix (0:Int)).hA)<|.ax (LK.has .str (((((a0.deref.drop 1).hA).ix (0:Int)).hA).deref.hA)/\1<=(((((a0.deref.drop 1).hA).ix (0:Int)).hA).deref).length)<|.ax (0<=(0:Int)/\(0:Int)<ag ((((((a0.deref.drop 1).hA).ix (0:Int)).hA).deref.hA).toStr))<|.done 0 [.ptr [.v (.int .u8 (bt ((((((a0.deref.drop 1).hA).ix (0:Int)).hA).deref.hA).toStr) 0)),VS (mk []),r7,.v (.pointer none)]] [])) (.call 89 [a0,VS (mk [112]),VI 3] [] fun r8 o8=>NB r8<|.test r8.toBool (NZ a0<|NZ a0<|pN (a0.deref.drop 1)<|NG ((a0.deref.drop 1).hA) 1 1<|gk (((a0.deref.drop 1).hA).ix (1:Int))<|.call 71 [((((a0.deref.drop 1).hA).ix (1:Int)).hA)] [] fun r9 o9=>NP r9<|NZ a0<|NZ a0<|pN (a0.deref.drop 1)<|NG ((a0.deref.drop 1).hA) 2 1<|gk (((a0.deref.drop 1).hA).ix (2:Int))<|.call 71 [((((a0.deref.drop 1).hA).ix (2:Int)).hA)] [] fun r10 o10=>NP r10<|NP r9<|.test r9.isNil (.done 0 [.v (.pointer none)] []) (NP r10<|.test r10.isNil (.done 0 [.v (.pointer none)] []) (.call 41 [r9,r10] [] fun r11 o11=>NP r11<|.done 0 [r11] []))) (.done 0 [.v (.pointer none)] []))))))
theorem D1(a0:AV)(ha0:LK.has .ptr a0)(h:eN 85 (C1 a0) R):ay Tryz.prog 71 [a0] [] R :=
 uQ (aj (ck ha0) aG) (oQ [] Tryz.f71 h)
def Cj(a0_0:ByteArray)(a0_1:AV):Tree :=
 .test (!(ab a0_0==ab (mk []))) (.test (ab a0_0==ab (mk [48])) (.done 0 [VB true] []) (.test (ab a0_0==ab (mk [49])) (.done 0 [VB true] []) (.call 56 [VS a0_0] [] fun r1 o1=>NB r1<|.test r1.toBool (.done 0 [VB true] []) (.call 54 [VS a0_0] [] fun r2 o2=>NB r2<|.done 0 [VB r2.toBool] [])))) (NL a0_1<|.test ((a0_1.elems.length:Int) != (3:Int)) (.done 0 [VB false] []) (.call 29 [.agg [VS a0_0,a0_1]] [] fun r3 o3=>NS r3<|.test (ab r3.toStr==ab (mk [43])) (NG a0_1 1 2<|NE (a0_1.ix (1:Int))<|.call 73 [.agg [VS (((a0_1.ix (1:Int)).getD 0 .any).toStr),((a0_1.ix (1:Int)).getD 1 .any)]] [] fun r4 o4=>NB r4<|.test r4.toBool (NG a0_1 2 2<|NE (a0_1.ix (2:Int))<|.call 73 [.agg [VS (((a0_1.ix (2:Int)).getD 0 .any).toStr),((a0_1.ix (2:Int)).getD 1 .any)]] [] fun r5 o5=>NB r5<|.done 0 [VB r5.toBool] []) (.done 0 [VB false] [])) (.test (ab r3.toStr==ab (mk [42])) (NG a0_1 1 2<|NE (a0_1.ix (1:Int))<|.call 73 [.agg [VS (((a0_1.ix (1:Int)).getD 0 .any).toStr),((a0_1.ix (1:Int)).getD 1 .any)]] [] fun r6 o6=>NB r6<|.test r6.toBool (NG a0_1 2 2<|NE (a0_1.ix (2:Int))<|.call 73 [.agg [VS (((a0_1.ix (2:Int)).getD 0 .any).toStr),((a0_1.ix (2:Int)).getD 1 .any)]] [] fun r7 o7=>NB r7<|.done 0 [VB r7.toBool] []) (.done 0 [VB false] [])) (.test (ab r3.toStr==ab (mk [114,101,99])) (NG a0_1 1 2<|sb (a0_1.ix (1:Int))<|.call 54 [VS (((a0_1.ix (1:Int)).hA).toStr)] [] fun r8 o8=>NB r8<|.test r8.toBool (NG a0_1 2 2<|NE (a0_1.ix (2:Int))<|.call 73 [.agg [VS (((a0_1.ix (2:Int)).getD 0 .any).toStr),((a0_1.ix (2:Int)).getD 1 .any)]] [] fun r9 o9=>NB r9<|.done 0 [VB r9.toBool] []) (.done 0 [VB false] [])) (.done 0 [VB false] [])))))
theorem D6(a0_0:ByteArray)(a0_1:AV)(ha0_1:LK.has .sl a0_1)(h:eN 60 (Cj a0_0 a0_1) R):ay Tryz.prog 73 [.agg [VS a0_0,a0_1]] [] R :=
 uQ (aj (dc (aj (aE _) (aj (dy ha0_1) aG))) aG) (oQ [] Tryz.f73 h)
def CM:LI:={hd:={bY:=[(0,.k .sl),(1,.k .str),(5,.k (.int .i64))]},xs:={},rt:={bY:=[(4,.k .bool)]},ex:=0}
def F5:Code:=dE (dr Tryz.f74) 2
def Fj:List (Nat×LI):=[(2,CM)]
def GU(a0:AV)(a1:ByteArray):Tree :=
 .loop F5 CM [a0,VS a1,VI 0] [] (fun y1 q1=>.done 0 [VB false] []) (fun y1 q1=>NB (y1.hA)<|.done 0 [VB ((y1.hA).toBool)] [])
theorem Hj(a0:AV)(a1:ByteArray)(ha0:LK.has .sl a0)(h:eN 18 (GU a0 a1) R):ay Tryz.prog 74 [a0,VS a1] [] R :=
 uQ (aj (dy ha0) (aj (aE _) aG)) (oQ Fj Tryz.f74 h)
def BV(x0:AV)(x1:ByteArray)(x5:Int):Tree :=
 NL x0<|NS (VS x1)<|NI (VI x5)<|NL x0<|.test (decide (x5<(x0.elems.length:Int))) (NG x0 x5 1<|sb (x0.ix x5)<|.test (ab (((x0.ix x5).hA).toStr)==ab x1) (.done 2 [VB true] []) (.done 0 [x0,VS x1,VI (IntKind.wrap .i64 (x5+1))] [])) (.done 1 [] [])
abbrev BP:=cL Tryz.prog 18 F5 CM
theorem FQ(x0:AV)(x1:ByteArray)(x5:Int)(h:px 18 (BV x0 x1 x5) BP U):BP [x0,VS x1,VI x5] [] U :=
 gQ Fj h
def EX(a0:AV)(a1:ByteArray):Tree :=
 .ax (LK.has .sl a0/\cN 1 a0.elems/\((([]:List (List AV)).length)+a0.elems.length)*16<=140737488355328)<|.ax (cN 1 [[VS a1]]/\(((([]:List (List AV))++a0.elems).length)+([[VS a1]]:List (List AV)).length)*16<=140737488355328)<|.done 0 [.vec 0] [.vec 1 ((([]:List (List AV))++a0.elems)++([[VS a1]]:List (List AV)))]
theorem Hq(a0:AV)(a1:ByteArray)(ha0:LK.has .sl a0)(h:eN 11 (EX a0 a1) R):ay Tryz.prog 75 [a0,VS a1] [] R :=
 uQ (aj (dy ha0) (aj (aE _) aG)) (oF [] {mu:=[],own:=[0]} Tryz.f75 h)
def Co:LI:={hd:={bY:=[(0,.k .str),(7,.k (.int .i64))]},xs:={},rt:={bY:=[(6,.k .bool)]},ex:=0}
def EG:Code:=dE (dr Tryz.f76) 4
def Gi:List (Nat×LI):=[(4,Co)]
def Ej(a0:ByteArray)(a1:Int)(a2:Int):Tree :=
 .call 30 [VI (ag a0:Int),VI 1,VI 3] [] fun r1 o1=>NB r1<|.test (!r1.toBool) (.done 0 [VB false] []) (.ax (0<=(0:Int)/\(0:Int)<ag a0)<|.test (decide ((bt a0 0)<a1)) (.done 0 [VB false] []) (.ax (0<=(0:Int)/\(0:Int)<ag a0)<|.test (decide ((bt a0 0)>a2)) (.done 0 [VB false] []) (.loop EG Co [VS a0,VI 1] [] (fun y2 q2=>.done 0 [VB true] []) (fun y2 q2=>NB (y2.hA)<|.done 0 [VB ((y2.hA).toBool)] []))))
theorem Hr(a0:ByteArray)(a1:Int)(a2:Int)(h:eN 40 (Ej a0 a1 a2) R):ay Tryz.prog 76 [VS a0,.v (.int .u8 a1),.v (.int .u8 a2)] [] R :=
 uQ (aj (aE _) (aj (aE _) (aj (aE _) aG))) (oQ Gi Tryz.f76 h)
def Bn(x0:ByteArray)(x7:Int):Tree :=
 NS (VS x0)<|NI (VI x7)<|.test (decide (x7<(ag x0:Int))) (.ax (0<=x7/\x7<ag x0)<|.test (decide ((bt x0 x7)<(48:Int))) (.done 2 [VB false] []) (.ax (0<=x7/\x7<ag x0)<|.test (decide ((bt x0 x7)>(57:Int))) (.done 2 [VB false] []) (.done 0 [VS x0,VI (IntKind.wrap .i64 (x7+1))] []))) (.done 1 [] [])
abbrev CX:=cL Tryz.prog 40 EG Co
theorem DK(x0:ByteArray)(x7:Int)(h:px 40 (Bn x0 x7) CX U):CX [VS x0,VI x7] [] U :=
 gQ Gi h
def DS(a0:Int):Tree :=
 .test (decide (a0≥(97:Int))) (.test (decide (a0<=(122:Int))) (.done 0 [VB true] []) (.test (decide (a0≥(48:Int))) (.test (decide (a0<=(57:Int))) (.done 0 [VB true] []) (.test (a0==(42:Int)) (.done 0 [VB true] []) (.done 0 [VB (a0==(43:Int))] []))) (.test (a0==(42:Int)) (.done 0 [VB true] []) (.done 0 [VB (a0==(43:Int))] [])))) (.test (decide (a0≥(48:Int))) (.test (decide (a0<=(57:Int))) (.done 0 [VB true] []) (.test (a0==(42:Int)) (.done 0 [VB true] []) (.done 0 [VB (a0==(43:Int))] []))) (.test (a0==(42:Int)) (.done 0 [VB true] []) (.done 0 [VB (a0==(43:Int))] [])))
theorem IN(a0:Int)(h:eN 25 (DS a0) R):ay Tryz.prog 77 [.v (.int .u8 a0)] [] R :=
 uQ (aj (aE _) aG) (oQ [] Tryz.f77 h)
def Bx:LI:={hd:={bY:=[(0,.k .ptr),(1,.k .sl),(5,.k (.int .i64))]},xs:={bY:=[(0,.k .ptr)]},rt:={refs:=[(4,69)],cD:=[(69,[.lk (.int .u8),.lk .str,.lk (.int .i64),.lk .ptr,.lk .ptr])]},ex:=1}
def DM:Code:=dE (dr Tryz.f82) 7
def GQ:List (Nat×LI):=[(7,Bx)]
def CZ(a0:AV)(a1:AV):Tree :=
 NZ a0<|NZ a0<|.ax (LK.has .str (a0.deref.hA)/\1<=a0.deref.length)<|.test (ab ((a0.deref.hA).toStr)==ab (mk [48])) (NZ a0<|NZ a0<|.ax (LK.has .str (a0.deref.hA)/\1<=a0.deref.length)<|.ax (0<=(0:Int)/\(0:Int)<ag ((a0.deref.hA).toStr))<|.done 0 [.ptr [.v (.int .u8 (bt ((a0.deref.hA).toStr) 0)),VS (mk []),VI 0,.v (.pointer none),.v (.pointer none)]] []) (NZ a0<|NZ a0<|.ax (LK.has .str (a0.deref.hA)/\1<=a0.deref.length)<|.test (ab ((a0.deref.hA).toStr)==ab (mk [49])) (NZ a0<|NZ a0<|.ax (LK.has .str (a0.deref.hA)/\1<=a0.deref.length)<|.ax (0<=(0:Int)/\(0:Int)<ag ((a0.deref.hA).toStr))<|.done 0 [.ptr [.v (.int .u8 (bt ((a0.deref.hA).toStr) 0)),VS (mk []),VI 0,.v (.pointer none),.v (.pointer none)]] []) (NZ a0<|NZ a0<|.ax (LK.has .str (a0.deref.hA)/\1<=a0.deref.length)<|.call 94 [VS ((a0.deref.hA).toStr)] [] fun r1 o1=>NB r1<|.test r1.toBool (NZ a0<|NZ a0<|.ax (LK.has .str (a0.deref.hA)/\1<=a0.deref.length)<|.done 0 [.ptr [.v (.int .u8 110),VS ((a0.deref.hA).toStr),VI 0,.v (.pointer none),.v (.pointer none)]] []) (NZ a0<|NZ a0<|.ax (LK.has .str (a0.deref.hA)/\1<=a0.deref.length)<|.call 86 [VS ((a0.deref.hA).toStr)] [] fun r2 o2=>NB r2<|.test r2.toBool (NL a1<|.loop DM Bx [a0,a1,VI (IntKind.wrap .i64 ((a1.elems.length:Int)-1))] [] (fun y3 q3=>NP (y3.hA)<|NZ (y3.hA)<|NZ (y3.hA)<|.ax (LK.has .str ((y3.hA).deref.hA)/\1<=((y3.hA).deref).length)<|.done 0 [.ptr [.v (.int .u8 110),VS (((y3.hA).deref.hA).toStr),VI 0,.v (.pointer none),.v (.pointer none)]] []) (fun y3 q3=>.ax ((q3.hO)=.cells (q3.hO).cs)<|.ax (ah [.lk (.int .u8),.lk .str,.lk (.int .i64),.lk .ptr,.lk .ptr] ((q3.hO).cs) 0 q3.tail)<|.done 0 [.ptr [.v (.int .u8 (((q3.hO).cs.getD 0 .any).toInt)),VS (((q3.hO).cs.getD 1 .any).toStr),VI (((q3.hO).cs.getD 2 .any).toInt),((q3.hO).cs.getD 3 .any),((q3.hO).cs.getD 4 .any)]] [])) (.call 89 [a0,VS (mk [43]),VI 3] [] fun r4 o4=>NB r4<|.test r4.toBool (NZ a0<|NZ a0<|pN (a0.deref.drop 1)<|NG ((a0.deref.drop 1).hA) 1 1<|gk (((a0.deref.drop 1).hA).ix (1:Int))<|.call 82 [((((a0.deref.drop 1).hA).ix (1:Int)).hA),a1] [] fun r5 o5=>NP r5<|NZ a0<|NZ a0<|pN (a0.deref.drop 1)<|NG ((a0.deref.drop 1).hA) 2 1<|gk (((a0.deref.drop 1).hA).ix (2:Int))<|.call 82 [((((a0.deref.drop 1).hA).ix (2:Int)).hA),a1] [] fun r6 o6=>NP r6<|NP r5<|.test r5.isNil (.done 0 [.v (.pointer none)] []) (NP r6<|.test r6.isNil (.done 0 [.v (.pointer none)] []) (NZ a0<|NZ a0<|pN (a0.deref.drop 1)<|NG ((a0.deref.drop 1).hA) 0 1<|gk (((a0.deref.drop 1).hA).ix (0:Int))<|NZ ((((a0.deref.drop 1).hA).ix (0:Int)).hA)<|NZ ((((a0.deref.drop 1).hA).ix (0:Int)).hA)<|.ax (LK.has .str (((((a0.deref.drop 1).hA).ix (0:Int)).hA).deref.hA)/\1<=(((((a0.deref.drop 1).hA).ix (0:Int)).hA).deref).length)<|.ax (0<=(0:Int)/\(0:Int)<ag ((((((a0.deref.drop 1).hA).ix (0:Int)).hA).deref.hA).toStr))<|.done 0 [.ptr [.v (.int .u8 (bt ((((((a0.deref.drop 1).hA).ix (0:Int)).hA).deref.hA).toStr) 0)),VS (mk []),VI 0,r5,r6]] []))) (.call 89 [a0,VS (mk [42]),VI 3] [] fun r7 o7=>NB r7<|.test r7.toBool (NZ a0<|NZ a0<|pN (a0.deref.drop 1)<|NG ((a0.deref.drop 1).hA) 1 1<|gk (((a0.deref.drop 1).hA).ix (1:Int))<|.call 82 [((((a0.deref.drop 1).hA).ix (1:Int)).hA),a1] [] fun r8 o8=>NP r8<|NZ a0<|NZ a0<|pN (a0.deref.drop 1)<|NG ((a0.deref.drop 1).hA) 2 1<|gk (((a0.deref.drop 1).hA).ix (2:Int))<|.call 82 [((((a0.deref.drop 1).hA).ix (2:Int)).hA),a1] [] fun r9 o9=>NP r9<|NP r8<|.test r8.isNil (.done 0 [.v (.pointer none)] []) (NP r9<|.test r9.isNil (.done 0 [.v (.pointer none)] []) (NZ a0<|NZ a0<|pN (a0.deref.drop 1)<|NG ((a0.deref.drop 1).hA) 0 1<|gk (((a0.deref.drop 1).hA).ix (0:Int))<|NZ ((((a0.deref.drop 1).hA).ix (0:Int)).hA)<|NZ ((((a0.deref.drop 1).hA).ix (0:Int)).hA)<|.ax (LK.has .str (((((a0.deref.drop 1).hA).ix (0:Int)).hA).deref.hA)/\1<=(((((a0.deref.drop 1).hA).ix (0:Int)).hA).deref).length)<|.ax (0<=(0:Int)/\(0:Int)<ag ((((((a0.deref.drop 1).hA).ix (0:Int)).hA).deref.hA).toStr))<|.done 0 [.ptr [.v (.int .u8 (bt ((((((a0.deref.drop 1).hA).ix (0:Int)).hA).deref.hA).toStr) 0)),VS (mk []),VI 0,r8,r9]] []))) (.call 89 [a0,VS (mk [114,101,99]),VI 3] [] fun r10 o10=>NB r10<|.test r10.toBool (NZ a0<|NZ a0<|pN (a0.deref.drop 1)<|NG ((a0.deref.drop 1).hA) 1 1<|gk (((a0.deref.drop 1).hA).ix (1:Int))<|NZ ((((a0.deref.drop 1).hA).ix (1:Int)).hA)<|NZ ((((a0.deref.drop 1).hA).ix (1:Int)).hA)<|.ax (LK.has .str (((((a0.deref.drop 1).hA).ix (1:Int)).hA).deref.hA)/\1<=(((((a0.deref.drop 1).hA).ix (1:Int)).hA).deref).length)<|.call 86 [VS ((((((a0.deref.drop 1).hA).ix (1:Int)).hA).deref.hA).toStr)] [] fun r11 o11=>NB r11<|.test r11.toBool (NZ a0<|NZ a0<|pN (a0.deref.drop 1)<|NG ((a0.deref.drop 1).hA) 2 1<|gk (((a0.deref.drop 1).hA).ix (2:Int))<|.ax (LK.has .sl a1/\cN 1 a1.elems/\((([]:List (List AV)).length)+a1.elems.length)*16<=140737488355328)<|NZ a0<|NZ a0<|pN (a0.deref.drop 1)<|NG ((a0.deref.drop 1).hA) 1 1<|gk (((a0.deref.drop 1).hA).ix (1:Int))<|NZ ((((a0.deref.drop 1).hA).ix (1:Int)).hA)<|NZ ((((a0.deref.drop 1).hA).ix (1:Int)).hA)<|.ax (LK.has .str (((((a0.deref.drop 1).hA).ix (1:Int)).hA).deref.hA)/\1<=(((((a0.deref.drop 1).hA).ix (1:Int)).hA).deref).length)<|.ax (cN 1 [[VS ((((((a0.deref.drop 1).hA).ix (1:Int)).hA).deref.hA).toStr)]]/\(((([]:List (List AV))++a1.elems).length)+([[VS ((((((a0.deref.drop 1).hA).ix (1:Int)).hA).deref.hA).toStr)]]:List (List AV)).length)*16<=140737488355328)<|.call 82 [((((a0.deref.drop 1).hA).ix (2:Int)).hA),.sl ((([]:List (List AV))++a1.elems)++([[VS ((((((a0.deref.drop 1).hA).ix (1:Int)).hA).deref.hA).toStr)]]:List (List AV)))] [] fun r12 o12=>NP r12<|NP r12<|.test r12.isNil (.done 0 [.v (.pointer none)] []) (.done 0 [.ptr [.v (.int .u8 114),VS (mk []),VI 0,r12,.v (.pointer none)]] [])) (.done 0 [.v (.pointer none)] [])) (.done 0 [.v (.pointer none)] [])))))))
theorem ES(a0:AV)(a1:AV)(ha0:LK.has .ptr a0)(ha1:LK.has .sl a1)(h:eN 160 (CZ a0 a1) R):ay Tryz.prog 82 [a0,a1] [] R :=
 uQ (aj (ck ha0) (aj (dy ha1) aG)) (oQ GQ Tryz.f82 h)
def Ce(x0:AV)(x1:AV)(x5:Int):Tree :=
 NP x0<|NL x1<|NI (VI x5)<|.test (decide (x5≥(0:Int))) (NG x1 x5 1<|sb (x1.ix x5)<|NZ x0<|NZ x0<|.ax (LK.has .str (x0.deref.hA)/\1<=x0.deref.length)<|.test (ab (((x1.ix x5).hA).toStr)==ab ((x0.deref.hA).toStr)) (NL x1<|.done 2 [] [.cells [.v (.int .u8 98),VS (mk []),VI (IntKind.wrap .i64 ((IntKind.wrap .i64 ((x1.elems.length:Int)-1))-x5)),.v (.pointer none),.v (.pointer none)]]) (.done 0 [x0,x1,VI (IntKind.wrap .i64 (x5-1))] [])) (.done 1 [x0] [])
abbrev BX:=cL Tryz.prog 160 DM Bx
theorem GJ(x0:AV)(x1:AV)(x5:Int)(h:px 160 (Ce x0 x1 x5) BX U):BX [x0,x1,VI x5] [] U :=
 gQ GQ h
def AH(a0:AV):Tree :=
 NZ a0<|NZ a0<|.ax (LK.has (.int .u8) (a0.deref.hA)/\1<=a0.deref.length)<|.test (((a0.deref.hA).toInt)==(43:Int)) (NZ a0<|NZ a0<|gk (a0.deref.drop 3)<|.call 83 [((a0.deref.drop 3).hA)] [] fun r1 o1=>NI r1<|NZ a0<|NZ a0<|gk (a0.deref.drop 4)<|.call 83 [((a0.deref.drop 4).hA)] [] fun r2 o2=>NI r2<|.done 0 [VI (IntKind.wrap .i64 ((IntKind.wrap .i64 (1+r1.toInt))+r2.toInt))] []) (.test (((a0.deref.hA).toInt)==(42:Int)) (NZ a0<|NZ a0<|gk (a0.deref.drop 3)<|.call 83 [((a0.deref.drop 3).hA)] [] fun r3 o3=>NI r3<|NZ a0<|NZ a0<|gk (a0.deref.drop 4)<|.call 83 [((a0.deref.drop 4).hA)] [] fun r4 o4=>NI r4<|.done 0 [VI (IntKind.wrap .i64 ((IntKind.wrap .i64 (1+r3.toInt))+r4.toInt))] []) (.test (((a0.deref.hA).toInt)==(114:Int)) (NZ a0<|NZ a0<|gk (a0.deref.drop 3)<|.call 83 [((a0.deref.drop 3).hA)] [] fun r5 o5=>NI r5<|.done 0 [VI (IntKind.wrap .i64 (2+r5.toInt))] []) (.done 0 [VI 1] [])))
theorem Cz(a0:AV)(ha0:LK.has .ptr a0)(h:eN 30 (AH a0) R):ay Tryz.prog 83 [a0] [] R :=
 uQ (aj (ck ha0) aG) (oQ [] Tryz.f83 h)
def GB(a0:AV):Tree :=
 .call 95 [a0,.v (.func (.func 86) #[] #[])] [] fun r1 o1=>NI r1<|.done 0 [VB (decide (r1.toInt≥(0:Int)))] []
theorem Ho(a0:AV)(ha0:LK.has .sl a0)(h:eN 9 (GB a0) R):ay Tryz.prog 84 [a0,.v (.func (.func 86) #[] #[])] [] R :=
 uQ (aj (dy ha0) (aj (aE _) aG)) (oQ [] Tryz.f84 h)
def F2(a0:AV):Tree :=
 .call 96 [a0,.fn 97 [.ref 0 0]] [.cells [.vec 1],.vec 1 []] fun r1 o1=>.ax ((o1.hO)=.cells (o1.hO).cs)<|.ax (cm [.vec 1] ((o1.hO).cs) 0 1 o1.tail)<|.done 0 [.sl ((o1.tail.hO).es)] []
theorem HB(a0:AV)(ha0:LK.has .ptr a0)(h:eN 9 (F2 a0) R):ay Tryz.prog 85 [a0] [] R :=
 uQ (aj (ck ha0) aG) (oQ [] Tryz.f85 h)
def E3(a0:ByteArray):Tree :=
 .call 99 [VS a0,VS (mk [116])] [] fun r1 o1=>NB r1<|.done 0 [VB r1.toBool] []
theorem Io(a0:ByteArray)(h:eN 5 (E3 a0) R):ay Tryz.prog 86 [VS a0] [] R :=
 uQ (aj (aE _) aG) (oQ [] Tryz.f86 h)
def BW:LI:={hd:={bY:=[(0,.k .str),(1,.k (.int .i64)),(6,.k (.int .i64))]},xs:={bY:=[(0,.k .str),(1,.k (.int .i64)),(6,.k (.int .i64))]},rt:={},ex:=0}
def GH:Code:=dE (dr Tryz.f87) 2
def Df:LI:={hd:={bY:=[(0,.k .str),(1,.k (.int .i64)),(7,.k .str)],refs:=[(8,48)],cD:=[(48,[.lk .str,.vec 1])]},xs:={},rt:={bY:=[(4,.k .ptr),(5,.k .str)]},ex:=999}
def En:Code:=dE (dr Tryz.f87) 10
def BC:List (Nat×LI):=[(2,BW),(10,Df)]
def CE(a0:ByteArray)(a1:Int):Tree :=
 .loop GH BW [VS a0,VI a1,VI 0] [] (fun y2 q2=>NS (y2.hA)<|NI (y2.tail.hA)<|NI (y2.tail.tail.hA)<|.test (decide (((y2.tail.tail.hA).toInt)>(0:Int))) (.ax (0<=(0:Int)/\(0:Int)<=((y2.tail.tail.hA).toInt)/\((y2.tail.tail.hA).toInt)<=(ag ((y2.hA).toStr):Int))<|.ax (0<=((y2.tail.tail.hA).toInt)/\((y2.tail.tail.hA).toInt)<=(ag ((y2.hA).toStr):Int)/\(ag ((y2.hA).toStr):Int)<=(ag ((y2.hA).toStr):Int))<|.done 0 [.cQ [.ptr [VS (bz ((y2.hA).toStr) (bC 0) (bC ((y2.tail.tail.hA).toInt))),.v (.slice none 0 0)],VS (bz ((y2.hA).toStr) (bC ((y2.tail.tail.hA).toInt)) (bC (ag ((y2.hA).toStr):Int)))]] []) (.test (ab ((y2.hA).toStr)==ab (mk [])) (.done 0 [.cQ [.v (.pointer none),VS ((y2.hA).toStr)]] []) (.ax (0<=(0:Int)/\(0:Int)<ag ((y2.hA).toStr))<|.test ((bt ((y2.hA).toStr) 0) != (40:Int)) (.done 0 [.cQ [.v (.pointer none),VS ((y2.hA).toStr)]] []) (.test (((y2.tail.hA).toInt)==(300:Int)) (.done 0 [.cQ [.v (.pointer none),VS ((y2.hA).toStr)]] []) (.ax (0<=(1:Int)/\(1:Int)<=(ag ((y2.hA).toStr):Int)/\(ag ((y2.hA).toStr):Int)<=(ag ((y2.hA).toStr):Int))<|.loop En Df [VS ((y2.hA).toStr),VI ((y2.tail.hA).toInt),VS (bz ((y2.hA).toStr) (bC 1) (bC (ag ((y2.hA).toStr):Int)))] [.cells [VS (mk []),.any],.vec 1 []] (fun y5 q5=>.fail) (fun y5 q5=>NP (y5.hA)<|NS (y5.tail.hA)<|.done 0 [.cQ [(y5.hA),VS ((y5.tail.hA).toStr)]] [])))))) (fun y2 q2=>.done 0 [.cQ [.any,.any]] [])
theorem FW(a0:ByteArray)(a1:Int)(h:eN 84 (CE a0 a1) R):ay Tryz.prog 87 [VS a0,VI a1] [] R :=
 uQ (aj (aE _) (aj (aE _) aG)) (oQ BC Tryz.f87 h)
def Dc(x0:ByteArray)(x1:Int)(x6:Int):Tree :=
 NS (VS x0)<|NI (VI x1)<|NI (VI x6)<|.test (decide (x6<(ag x0:Int))) (.ax (0<=x6/\x6<ag x0)<|.call 100 [.v (.int .u8 (bt x0 x6))] [] fun r1 o1=>NB r1<|.test r1.toBool (.done 0 [VS x0,VI x1,VI (IntKind.wrap .i64 (x6+1))] []) (.done 1 [VS x0,VI x1,VI x6] [])) (.done 1 [VS x0,VI x1,VI x6] [])
abbrev BQ:=cL Tryz.prog 84 GH BW
theorem E6(x0:ByteArray)(x1:Int)(x6:Int)(h:px 84 (Dc x0 x1 x6) BQ U):BQ [VS x0,VI x1,VI x6] [] U :=
 gQ BC h
def Fh(x0:ByteArray)(x1:Int)(x7:ByteArray)(o48_0:ByteArray)(o48_1:List (List AV)):Tree :=
 NS (VS x0)<|NI (VI x1)<|NS (VS x7)<|.ax (Ob.cells [VS o48_0,.any]=.cells [VS o48_0,.any])<|.ax (ah [.lk .str,.vec 1] [VS o48_0,.any] 0 [.vec 1 o48_1])<|.call 87 [VS x7,VI (IntKind.wrap .i64 (x1+1))] [] fun r1 o1=>NT r1<|NP (r1.comp 0)<|NS (r1.comp 1)<|NP (r1.comp 0)<|.test ((r1.comp 0).isNil) (.done 2 [.v (.pointer none),VS x0] []) (.test (ab ((r1.comp 1).toStr)==ab (mk [])) (.done 2 [.v (.pointer none),VS x0] []) (.ax (cN 1 [[(r1.comp 0)]]/\((o48_1.length)+([[(r1.comp 0)]]:List (List AV)).length)*8<=140737488355328)<|.ax (0<=(1:Int)/\(1:Int)<=(ag ((r1.comp 1).toStr):Int)/\(ag ((r1.comp 1).toStr):Int)<=(ag ((r1.comp 1).toStr):Int))<|.ax (0<=(0:Int)/\(0:Int)<ag ((r1.comp 1).toStr))<|.test ((bt ((r1.comp 1).toStr) 0)==(41:Int)) (.done 2 [.ptr [VS o48_0,.sl (o48_1++([[(r1.comp 0)]]:List (List AV)))],VS (bz ((r1.comp 1).toStr) (bC 1) (bC (ag ((r1.comp 1).toStr):Int)))] []) (.ax (0<=(0:Int)/\(0:Int)<ag ((r1.comp 1).toStr))<|.test ((bt ((r1.comp 1).toStr) 0) != (32:Int)) (.done 2 [.v (.pointer none),VS x0] []) (.done 0 [VS x0,VI x1,VS (bz ((r1.comp 1).toStr) (bC 1) (bC (ag ((r1.comp 1).toStr):Int)))] [.cells [VS o48_0,.any],.vec 1 (o48_1++([[(r1.comp 0)]]:List (List AV)))]))))
abbrev Ct:=cL Tryz.prog 84 En Df
theorem Hh(x0:ByteArray)(x1:Int)(x7:ByteArray)(o48_0:ByteArray)(o48_1:List (List AV))(h:px 84 (Fh x0 x1 x7 o48_0 o48_1) Ct U):Ct [VS x0,VI x1,VS x7] [.cells [VS o48_0,.any],.vec 1 o48_1] U :=
 gQ BC h
def DQ(a0:ByteArray):Tree :=
 .test (decide ((ag a0:Int)<(2:Int))) (.done 0 [VB false] []) (.test (decide ((ag a0:Int)>(3:Int))) (.done 0 [VB false] []) (.ax (0<=(0:Int)/\(0:Int)<ag a0)<|.test ((bt a0 0) != (101:Int)) (.done 0 [VB false] []) (.ax (0<=(1:Int)/\(1:Int)<=(ag a0:Int)/\(ag a0:Int)<=(ag a0:Int))<|.call 101 [VS (bz a0 (bC 1) (bC (ag a0:Int))),VS (mk [48,49,50,51,52,53,54,55,56,57])] [] fun r1 o1=>NS r1<|.test (!(ab r1.toStr==ab (mk []))) (.done 0 [VB false] []) (.test ((ag a0:Int)==(2:Int)) (.done 0 [VB true] []) (.ax (0<=(1:Int)/\(1:Int)<ag a0)<|.done 0 [VB ((bt a0 1) != (48:Int))] [])))))
theorem H3(a0:ByteArray)(h:eN 30 (DQ a0) R):ay Tryz.prog 88 [VS a0] [] R :=
 uQ (aj (aE _) aG) (oQ [] Tryz.f88 h)
def yc(a0:AV)(a1:ByteArray)(a2:Int):Tree :=
 NZ a0<|NZ a0<|pN (a0.deref.drop 1)<|NL ((a0.deref.drop 1).hA)<|.test (((((a0.deref.drop 1).hA).elems).length:Int)==a2) (NZ a0<|NZ a0<|pN (a0.deref.drop 1)<|NG ((a0.deref.drop 1).hA) 0 1<|gk (((a0.deref.drop 1).hA).ix (0:Int))<|NZ ((((a0.deref.drop 1).hA).ix (0:Int)).hA)<|NZ ((((a0.deref.drop 1).hA).ix (0:Int)).hA)<|.ax (LK.has .str (((((a0.deref.drop 1).hA).ix (0:Int)).hA).deref.hA)/\1<=(((((a0.deref.drop 1).hA).ix (0:Int)).hA).deref).length)<|.done 0 [VB (ab ((((((a0.deref.drop 1).hA).ix (0:Int)).hA).deref.hA).toStr)==ab a1)] []) (.done 0 [VB false] [])
theorem Ef(a0:AV)(a1:ByteArray)(a2:Int)(ha0:LK.has .ptr a0)(h:eN 27 (yc a0 a1 a2) R):ay Tryz.prog 89 [a0,VS a1,VI a2] [] R :=
 uQ (aj (ck ha0) (aj (aE _) (aj (aE _) aG))) (oQ [] Tryz.f89 h)
def DL(a0:ByteArray):Tree :=
 .call 99 [VS a0,VS (mk [120,121,122])] [] fun r1 o1=>NB r1<|.done 0 [VB r1.toBool] []
theorem HK(a0:ByteArray)(h:eN 5 (DL a0) R):ay Tryz.prog 94 [VS a0] [] R :=
 uQ (aj (aE _) aG) (oQ [] Tryz.f94 h)
def Cw:LI:={hd:={bY:=[(0,.k .sl),(1,.c (.func (.func 86) #[] #[])),(7,.k (.int .i64)),(8,.k (.int .i64))]},xs:={},rt:={bY:=[(4,.k (.int .i64))]},ex:=0}
def Gs:Code:=dE (dr Tryz.f95) 2
def Eu:List (Nat×LI):=[(2,Cw)]
def DA(a0:AV):Tree :=
 NL a0<|.loop Gs Cw [a0,.v (.func (.func 86) #[] #[]),VI (a0.elems.length:Int),VI 0] [] (fun y2 q2=>.done 0 [VI (-1)] []) (fun y2 q2=>NI (y2.hA)<|.done 0 [VI ((y2.hA).toInt)] [])
theorem Ie(a0:AV)(ha0:LK.has .sl a0)(h:eN 19 (DA a0) R):ay Tryz.prog 95 [a0,.v (.func (.func 86) #[] #[])] [] R :=
 uQ (aj (dy ha0) (aj (aE _) aG)) (oQ Eu Tryz.f95 h)
def Db(x0:AV)(x7:Int)(x8:Int):Tree :=
 NL x0<|.ax (AV.v (.func (.func 86) #[] #[])=.v (.func (.func 86) #[] #[]))<|NI (VI x7)<|NI (VI x8)<|.test (decide (x8<x7)) (NG x0 x8 1<|sb (x0.ix x8)<|.call 86 [VS (((x0.ix x8).hA).toStr)] [] fun r1 o1=>NB r1<|.test r1.toBool (.done 2 [VI x8] []) (.done 0 [x0,.v (.func (.func 86) #[] #[]),VI x7,VI (IntKind.wrap .i64 (x8+1))] [])) (.done 1 [] [])
abbrev CT:=cL Tryz.prog 19 Gs Cw
theorem Fb(x0:AV)(x7:Int)(x8:Int)(h:px 19 (Db x0 x7 x8) CT U):CT [x0,.v (.func (.func 86) #[] #[]),VI x7,VI x8] [] U :=
 gQ Eu h
def AJ(a0:AV)(e1_0_0:List (List AV)):Tree :=
 .call 97 [a0,.ref 0 0] [.cells [.vec 1],.vec 1 e1_0_0] fun r1 o1=>.ax ((o1.hO)=.cells (o1.hO).cs)<|.ax (cm [.vec 1] ((o1.hO).cs) 0 1 o1.tail)<|NZ a0<|NZ a0<|gk (a0.deref.drop 3)<|NP ((a0.deref.drop 3).hA)<|.test (!((a0.deref.drop 3).hA).isNil) (NZ a0<|NZ a0<|gk (a0.deref.drop 3)<|.call 96 [((a0.deref.drop 3).hA),.fn 97 [.ref 0 0]] [.cells [.vec 1],.vec 1 ((o1.tail.hO).es)] fun r2 o2=>.ax ((o2.hO)=.cells (o2.hO).cs)<|.ax (cm [.vec 1] ((o2.hO).cs) 0 1 o2.tail)<|NZ a0<|NZ a0<|gk (a0.deref.drop 4)<|NP ((a0.deref.drop 4).hA)<|.test (!((a0.deref.drop 4).hA).isNil) (NZ a0<|NZ a0<|gk (a0.deref.drop 4)<|.call 96 [((a0.deref.drop 4).hA),.fn 97 [.ref 0 0]] [.cells [.vec 1],.vec 1 ((o2.tail.hO).es)] fun r3 o3=>.ax ((o3.hO)=.cells (o3.hO).cs)<|.ax (cm [.vec 1] ((o3.hO).cs) 0 1 o3.tail)<|.done 0 [.any] [.cells [.vec 1],.vec 1 ((o3.tail.hO).es)]) (.done 0 [.any] [.cells [.vec 1],.vec 1 ((o2.tail.hO).es)])) (NZ a0<|NZ a0<|gk (a0.deref.drop 4)<|NP ((a0.deref.drop 4).hA)<|.test (!((a0.deref.drop 4).hA).isNil) (NZ a0<|NZ a0<|gk (a0.deref.drop 4)<|.call 96 [((a0.deref.drop 4).hA),.fn 97 [.ref 0 0]] [.cells [.vec 1],.vec 1 ((o1.tail.hO).es)] fun r4 o4=>.ax ((o4.hO)=.cells (o4.hO).cs)<|.ax (cm [.vec 1] ((o4.hO).cs) 0 1 o4.tail)<|.done 0 [.any] [.cells [.vec 1],.vec 1 ((o4.tail.hO).es)]) (.done 0 [.any] [.cells [.vec 1],.vec 1 ((o1.tail.hO).es)]))
theorem Bz(a0:AV)(e1_0_0:List (List AV))(ha0:LK.has .ptr a0)(h:eN 29 (AJ a0 e1_0_0) R):ay Tryz.prog 96 [a0,.fn 97 [.ref 0 0]] [.cells [.vec 1],.vec 1 e1_0_0] R :=
 ay.Bq (dm (eu (aj (aE _) aG)) (dm (lU _) iP)) (ay.up (aj (ck ha0) (aj (aE _) aG)) (oF [] {mu:=[(1,.fn [some (.obj [.vec 1])])],own:=[]} Tryz.f96 h))
def CO(a0:AV)(e1_0:List (List AV)):Tree :=
 NZ a0<|NZ a0<|.ax (LK.has (.int .u8) (a0.deref.hA)/\1<=a0.deref.length)<|.test (((a0.deref.hA).toInt)==(110:Int)) (NZ a0<|NZ a0<|sb (a0.deref.drop 1)<|.call 98 [.sl e1_0,VS (((a0.deref.drop 1).hA).toStr)] [] fun r1 o1=>NB r1<|.test (!r1.toBool) (NZ a0<|NZ a0<|sb (a0.deref.drop 1)<|.ax (cN 1 [[VS (((a0.deref.drop 1).hA).toStr)]]/\((e1_0.length)+([[VS (((a0.deref.drop 1).hA).toStr)]]:List (List AV)).length)*16<=140737488355328)<|.done 0 [.any] [.cells [.vec 1],.vec 1 (e1_0++([[VS (((a0.deref.drop 1).hA).toStr)]]:List (List AV)))]) (.done 0 [.any] [.cells [.vec 1],.vec 1 e1_0])) (.done 0 [.any] [.cells [.vec 1],.vec 1 e1_0])
theorem HQ(a0:AV)(e1_0:List (List AV))(ha0:LK.has .ptr a0)(h:eN 24 (CO a0 e1_0) R):ay Tryz.prog 97 [a0,.ref 0 0] [.cells [.vec 1],.vec 1 e1_0] R :=
 ay.Bq (dm (eu (aj (aE _) aG)) (dm (lU _) iP)) (ay.up (aj (ck ha0) (aj (aE _) aG)) (oF [] {mu:=[(1,.one (.obj [.vec 1]))],own:=[]} Tryz.f97 h))
def Fl(a0:AV)(a1:ByteArray):Tree :=
 .call 107 [a0,VS a1] [] fun r1 o1=>NI r1<|.done 0 [VB (decide (r1.toInt≥(0:Int)))] []
theorem Ih(a0:AV)(a1:ByteArray)(ha0:LK.has .sl a0)(h:eN 9 (Fl a0 a1) R):ay Tryz.prog 98 [a0,VS a1] [] R :=
 uQ (aj (dy ha0) (aj (aE _) aG)) (oQ [] Tryz.f98 h)
def Gl(a0:ByteArray)(a1:ByteArray):Tree :=
 .test (decide ((ag a0:Int)≥(1:Int))) (.test (decide ((ag a0:Int)<=(3:Int))) (.ax (0<=(0:Int)/\(0:Int)<=(1:Int)/\(1:Int)<=(ag a0:Int))<|.call 108 [VS a1,VS (bz a0 (bC 0) (bC 1))] [] fun r1 o1=>NB r1<|.test r1.toBool (.ax (0<=(1:Int)/\(1:Int)<=(ag a0:Int)/\(ag a0:Int)<=(ag a0:Int))<|.call 101 [VS (bz a0 (bC 1) (bC (ag a0:Int))),VS (mk [48,49,50,51,52,53,54,55,56,57])] [] fun r2 o2=>NS r2<|.done 0 [VB (ab r2.toStr==ab (mk []))] []) (.done 0 [VB false] [])) (.done 0 [VB false] [])) (.done 0 [VB false] [])
theorem Ii(a0:ByteArray)(a1:ByteArray)(h:eN 25 (Gl a0 a1) R):ay Tryz.prog 99 [VS a0,VS a1] [] R :=
 uQ (aj (aE _) (aj (aE _) aG)) (oQ [] Tryz.f99 h)
def Et(a0:Int):Tree :=
 .test (decide (a0≥(97:Int))) (.test (decide (a0<=(122:Int))) (.done 0 [VB true] []) (.test (decide (a0≥(48:Int))) (.test (decide (a0<=(57:Int))) (.done 0 [VB true] []) (.test (a0==(43:Int)) (.done 0 [VB true] []) (.done 0 [VB (a0==(42:Int))] []))) (.test (a0==(43:Int)) (.done 0 [VB true] []) (.done 0 [VB (a0==(42:Int))] [])))) (.test (decide (a0≥(48:Int))) (.test (decide (a0<=(57:Int))) (.done 0 [VB true] []) (.test (a0==(43:Int)) (.done 0 [VB true] []) (.done 0 [VB (a0==(42:Int))] []))) (.test (a0==(43:Int)) (.done 0 [VB true] []) (.done 0 [VB (a0==(42:Int))] [])))
theorem H7(a0:Int)(h:eN 25 (Et a0) R):ay Tryz.prog 100 [.v (.int .u8 a0)] [] R :=
 uQ (aj (aE _) aG) (oQ [] Tryz.f100 h)
def Dh:LI:={hd:={bY:=[(0,.k .sl),(1,.k .str),(7,.k (.int .i64)),(8,.k (.int .i64))]},xs:={},rt:={bY:=[(4,.k (.int .i64))]},ex:=0}
def F1:Code:=dE (dr Tryz.f107) 2
def Ez:List (Nat×LI):=[(2,Dh)]
def El(a0:AV)(a1:ByteArray):Tree :=
 NL a0<|.loop F1 Dh [a0,VS a1,VI (a0.elems.length:Int),VI 0] [] (fun y1 q1=>.done 0 [VI (-1)] []) (fun y1 q1=>NI (y1.hA)<|.done 0 [VI ((y1.hA).toInt)] [])
theorem HH(a0:AV)(a1:ByteArray)(ha0:LK.has .sl a0)(h:eN 19 (El a0 a1) R):ay Tryz.prog 107 [a0,VS a1] [] R :=
 uQ (aj (dy ha0) (aj (aE _) aG)) (oQ Ez Tryz.f107 h)
def Ck(x0:AV)(x1:ByteArray)(x7:Int)(x8:Int):Tree :=
 NL x0<|NS (VS x1)<|NI (VI x7)<|NI (VI x8)<|.test (decide (x8<x7)) (NG x0 x8 1<|sb (x0.ix x8)<|.test (ab x1==ab (((x0.ix x8).hA).toStr)) (.done 2 [VI x8] []) (.done 0 [x0,VS x1,VI x7,VI (IntKind.wrap .i64 (x8+1))] [])) (.done 1 [] [])
abbrev C0:=cL Tryz.prog 19 F1 Dh
theorem Eb(x0:AV)(x1:ByteArray)(x7:Int)(x8:Int)(h:px 19 (Ck x0 x1 x7 x8) C0 U):C0 [x0,VS x1,VI x7,VI x8] [] U :=
 gQ Ez h
end
end Go.Proofs.Trees
namespace Go.Proofs.Trees
open Go Go.VL
theorem bW(i:Nat)(h:i<1000000000000):IntKind.wrap .i64 ((i:Int)+1)=((i+1:Nat):Int):=by rw[wrap64]<;>omega
inductive E where
 |atom (s:List UInt8)
 |list (l:List E)
mutual
def E.dF:E->AV
 | .atom s=>.ptr [.v (.string (mk s)),.v (.slice none 0 0)]
 | .list l=>.ptr [.v (.string (mk [])),.sl (E.kj l)]
def E.kj:List E->List (List AV)
 |[]=>[]
 |e::l=>[e.dF]::E.kj l
end
mutual
def E.gn:E->List AV
 | .atom s=>[.v (.string (mk s)),.v (.slice none 0 0)]
 | .list l=>[.v (.string (mk [])),.sl (E.a7 l)]
def E.a7:List E->List (List AV)
 |[]=>[]
 |e::l=>e.gn::E.a7 l
end
def E.ja(e:E):AV:=.agg e.gn
theorem sL(l r:List E):E.kj (l++r)=E.kj l++E.kj r:=by
 induction l with
 |nil=>rfl
 |cons e l ih=>simp[E.kj,ih]
theorem nT(l r:List E):E.a7 (l++r)=E.a7 l++E.a7 r:=by
 induction l with
 |nil=>rfl
 |cons e l ih=>simp[E.a7,ih]
theorem oI(l:List E):(E.kj l).length=l.length:=by
 induction l with
 |nil=>rfl
 |cons e l ih=>simp[E.kj,ih]
theorem dP(l:List E):(E.a7 l).length=l.length:=by
 induction l with
 |nil=>rfl
 |cons e l ih=>simp[E.a7,ih]
def dT(b:UInt8):Bool:=decide ((97<=b.toNat/\b.toNat<=122)\/(48<=b.toNat/\b.toNat<=57)\/b.toNat=43\/b.toNat=42)
def pH(f:List UInt8->Option (E×List UInt8)):Nat->List UInt8->List E->Option (E×List UInt8)
 |0,_,_=>none
 |
  n+1,s,acc=>match f s with
  |some (p,c::r)=>if c.toNat=41 then some (.list (acc++[p]),r)else if c.toNat=32 then pH f n r (acc++[p])else none
  |_=>none
def rd:Nat->List UInt8->Option (E×List UInt8)
 |0,s=>if s.takeWhile dT=[]then none else some (.atom (s.takeWhile dT),s.dropWhile dT)
 |k+1,s=>if s.takeWhile dT=[]then(match s with
  |c::r=>if c.toNat=40 then pH (rd k) (r.length+1) r []else none
  |[]=>none)else some (.atom (s.takeWhile dT),s.dropWhile dT)
theorem wV{f:List UInt8->Option (E×List UInt8)}(hf:∀s e r,f s=some (e,r)->r.length<s.length):∀(n:Nat) (s:List UInt8) (acc:List E) (e:E) (r:List UInt8),pH f n s acc=some (e,r)->r.length<s.length
 |0,s,acc,e,r,h=>by cases h
 |
  n+1,s,acc,e,r,h=>by
  simp only[pH]at h
  split at h
  ·rename_i p c r' hs
   have:=hf _ _ _ hs
   simp only[aw]at this
   split at h
   ·cases h;omega
   ·split at h
    ·have:=wV hf n _ _ _ _ h;omega
    ·cases h
  ·cases h
theorem l6{s:List UInt8}(h:¬s.takeWhile dT=[]):(s.dropWhile dT).length<s.length:=by
 have h1:=congrArg dR (bu (p:=dT) (l:=s))
 simp only[aq]at h1
 have:0<(s.takeWhile dT).length:=List.length_pos_iff.2 h
 omega
theorem uU:∀(k:Nat) (s:List UInt8) (e:E) (r:List UInt8),rd k s=some (e,r)->r.length<s.length
 |
  0,s,e,r,h=>by
  simp only[rd]at h
  split at h
  ·cases h
  ·rename_i hn;cases h;exact l6 hn
 |
  k+1,s,e,r,h=>by
  simp only[rd]at h
  split at h
  ·split at h
   ·split at h
    ·have:=wV (uU k) _ _ _ _ _ h
     simp only[aw];omega
    ·cases h
   ·cases h
  ·rename_i hn;cases h;exact l6 hn
theorem Hp(b:UInt8):ay Tryz.prog 100 [.v (.int .u8 (b.toNat:Int))] [] (bK (.v (.bool (dT b)))):=by
 refine H7 _ ?_
 simp only[Et,↓zq,zs,ah,bK,dT]
 repeat' (apply aA<;>intro _)
 all_goals first|(congr 2;rw[cA];simp;omega)|(congr 2;simp;omega)
theorem uV{s:List UInt8}{i:Nat}(hi:i<s.length)(hb:dT (s.getD i 0)=true):((s.drop i).takeWhile dT).length=((s.drop (i+1)).takeWhile dT).length+1:=by
 have e:s.drop i=s.getD i 0::s.drop (i+1):=by
  rw[aN hi];simp[aa,hi]
 rw[e,List.takeWhile_cons_of_pos hb];simp
theorem oj{s:List UInt8}{i:Nat}(hi:i<s.length)(hb:dT (s.getD i 0)=false):(s.drop i).takeWhile dT=[]:=by
 have e:s.drop i=s.getD i 0::s.drop (i+1):=by
  rw[aN hi];simp[aa,hi]
 rw[e,List.takeWhile_cons_of_neg (by rw[hb];simp)]
theorem CL(s:List UInt8)(hs:s.length<=8000)(d:Int):∀(k i:Nat),i+k=s.length->BQ [.v (.string (mk s)),.v (.int .i64 d),.v (.int .i64 (i:Int))] [] (kq 1 [.v (.string (mk s)),.v (.int .i64 d),.v (.int .i64 ((i+((s.drop i).takeWhile dT).length:Nat):Int))] [])
 |
  0,i,hi=>by
  refine E6 _ _ _ ?_
  have hd:s.drop i=[]:=a8 (by omega)
  simp only[Dc,↓zq,zs,ah,zt]
  exact⟨fun h=>by omega,fun _=>by simp[kq,hd]⟩
 |
  k+1,i,hi=>by
  have hlt:i<s.length:=by omega
  refine E6 _ _ _ ?_
  simp only[Dc,↓zq,zs,ah,zt,ke s i hlt]
  refine⟨fun _=>⟨by omega,?_⟩,fun h=>by omega⟩
  refine al (Hp _) ?_
  simp only[↓zq,zs,ah]
  refine⟨fun hb=>?_,fun hb=>?_⟩
  ·rw[bW i (by omega)]
   have:=CL s hs d k (i+1) (by omega)
   rw[uV hlt hb,show i+(((s.drop (i+1)).takeWhile dT).length+1)=i+1+((s.drop (i+1)).takeWhile dT).length by omega]
   exact this
  ·simp[kq,oj hlt hb]
def mo(s:List UInt8):Option (E×List UInt8)->AV
 |some (e,r)=>.cQ [e.dF,.v (.string (mk r))]
 |none=>.cQ [.v (.pointer none),.v (.string (mk s))]
theorem cj(e:E):LK.has .ptr e.dF=True:=by cases e<;>simp[E.dF,fK]
theorem dn(e:E):e.dF.isNil=false:=by cases e<;>rfl
theorem rB(s:List UInt8):s.take (s.takeWhile dT).length=s.takeWhile dT:=by
 have h:=bu (p:=dT) (l:=s)
 have:(s.takeWhile dT++s.dropWhile dT).take (s.takeWhile dT).length=s.takeWhile dT:=List.take_left
 rw[h]at this;exact this
theorem ub(s:List UInt8):s.drop (s.takeWhile dT).length=s.dropWhile dT:=by
 have h:=bu (p:=dT) (l:=s)
 have:(s.takeWhile dT++s.dropWhile dT).drop (s.takeWhile dT).length=s.dropWhile dT:=List.drop_left
 rw[h]at this;exact this
theorem xV(c:UInt8)(r:List UInt8):(List.take (r.length+1) (c::r)).drop (bC 1)=r:=by simp
theorem Fi(s0:List UInt8)(k:Nat)(hk:k<300)(ih:∀s,s.length<=8000->ay Tryz.prog 87 [.v (.string (mk s)),.v (.int .i64 ((300-k:Nat):Int))] [] (bK (mo s (rd k s)))) :
 ∀(n:Nat) (s:List UInt8) (acc:List E),s.length<n->s.length+acc.length<=8000->Ct [.v (.string (mk s0)),.v (.int .i64 ((300-(k+1):Nat):Int)),.v (.string (mk s))] [.cells [.v (.string (mk [])),.any],.vec 1 (E.kj acc)]
  (qQ (match pH (rd k) n s acc with|some (e,r)=>(2,[e.dF,.v (.string (mk r))],[])|none=>(2,[.v (.pointer none),.v (.string (mk s0))],[])))
 |0,s,acc,hn,_=>by omega
 |
  n+1,s,acc,hn,hl=>by
  refine Hh _ _ _ _ _ ?_
  simp only[Fh,↓zq,zs,ah,yu]
  have hd:IntKind.wrap .i64 (((300-(k+1):Nat):Int)+1)=((300-k:Nat):Int):=by rw[wrap64]<;>omega
  rw[hd]
  refine al (ih s (by omega)) ?_
  have hlt:=uU k s
  cases hr:rd k s with
  |
   none =>
   simp only[mo,↓zq,zs,ah,pH,hr]
   simp[qQ]
  |
   some q =>
   obtain⟨e,r⟩:=q
   have:=hlt e r hr
   cases r with
   |
    nil =>
    simp only[mo,↓zq,zs,ah,zt,pH,hr,cj,dn]
    simp[qQ]
   |
    cons c r =>
    simp only[aw]at this
    have hb:=ke (c::r) 0 (by simp)
    simp only[cg,cy]at hb
    have e2:(List.take (c::r).length (c::r)).drop 1=r:=by simp
    simp only[mo,↓zq,zs,ah,zt,pH,hr,cj,dn,hb,e2,oI]
    refine⟨fun h=>(by cases h),fun _=>⟨fun h=>(by cases h),fun _=>⟨⟨fun c hc=>(by simp at hc;rw[hc];rfl),by omega⟩,by omega,by omega,fun h41=>?_,fun h41=>⟨by omega,fun h32=>?_,fun h32=>?_⟩⟩⟩⟩
    ·have h41':c.toNat=41:=by omega
     rw[xV,if_pos h41']
     simp[qQ,E.dF,sL,E.kj]
    ·have h41':¬c.toNat=41:=by omega
     have h32':¬c.toNat=32:=by omega
     rw[if_neg h41',if_neg h32']
    ·have h41':¬c.toNat=41:=by omega
     have h32':c.toNat=32:=by omega
     rw[xV,if_neg h41',if_pos h32']
     have:=Fi s0 k hk ih n r (acc++[e]) (by omega) (by simp;omega)
     simpa[sL,E.kj]using this
theorem IF:∀(k:Nat),k<=300->∀s:List UInt8,s.length<=8000->ay Tryz.prog 87 [.v (.string (mk s)),.v (.int .i64 ((300-k:Nat):Int))] [] (bK (mo s (rd k s))):=by
 intro k
 induction k with
 |
  zero =>
  intro hk s hs
  refine FW _ _ ?_
  unfold CE
  refine df (CL s hs _ s.length 0 (by omega)) ?_
  simp only[↓zq,zs,ah,zt,aK,bK]
  have hw:(s.takeWhile dT).length<=s.length:=by
   have:=congrArg dR (bu (p:=dT) (l:=s))
   simp only[aq]at this;omega
  refine⟨fun h=>⟨by omega,by omega,?_⟩,fun h=>?_⟩
  ·have hne:¬s.takeWhile dT=[]:=fun e=>by rw[e]at h;simp at h
   simp only[rd,if_neg hne,mo,E.dF,rB,ub]
  ·have hnil:s.takeWhile dT=[]:=List.eq_nil_of_length_eq_zero (by omega)
   simp only[rd,if_pos hnil,mo]
   refine⟨fun _=>trivial,fun hne=>⟨?_,?_⟩⟩
   ·cases s with
    |nil=>exact absurd rfl hne
    |cons c s=>simp
   ·exact⟨fun _=>trivial,fun _=>⟨fun _=>trivial,fun h=>absurd rfl h⟩⟩
 |
  succ k ih =>
  intro hk s hs
  refine FW _ _ ?_
  unfold CE
  refine df (CL s hs _ s.length 0 (by omega)) ?_
  simp only[↓zq,zs,ah,zt,aK,bK]
  have hw:(s.takeWhile dT).length<=s.length:=by
   have:=congrArg dR (bu (p:=dT) (l:=s))
   simp only[aq]at this;omega
  refine⟨fun h=>⟨by omega,by omega,?_⟩,fun h=>?_⟩
  ·have hne:¬s.takeWhile dT=[]:=fun e=>by rw[e]at h;simp at h
   simp only[rd,if_neg hne,mo,E.dF,rB,ub]
  ·have hnil:s.takeWhile dT=[]:=List.eq_nil_of_length_eq_zero (by omega)
   simp only[rd,if_pos hnil]
   cases s with
   |nil=>simp[mo]
   |
    cons c s =>
    have hb:=ke (c::s) 0 (by simp)
    simp only[cg,cy]at hb
    simp only[aw]at hs
    simp only[↓zq,zs,ah,hb,xV]
    refine⟨fun h=>(by cases h),fun _=>⟨by omega,fun h40=>?_,fun h40=>⟨fun h300=>?_,fun h300=>⟨by omega,?_⟩⟩⟩⟩
    ·have:¬c.toNat=40:=by omega
     rw[if_neg this];rfl
    ·omega
    ·have h40':c.toNat=40:=by omega
     rw[if_pos h40']
     refine iN (Fi (c::s) k (by omega) (ih (by omega)) (s.length+1) s [] (by omega) (by simp;omega)) (fun ys o e=>?_) (fun ys o e=>?_)
     ·split at e<;>cases e
     ·split at e<;>cases e
      ·rename_i e' r' hr
       simp only[↓zq,zs,ah,cj]
       simp only[hr,mo]
      ·rename_i hr
       simp only[↓zq,zs,ah]
       simp only[hr,mo]
end Go.Proofs.Trees
namespace Go.Proofs.Trees
open Go Go.VL
mutual
def E.sz:E->Nat
 | .atom _=>1
 | .list l=>1+E.jF l
def E.jF:List E->Nat
 |[]=>0
 |e::l=>e.sz+E.jF l
end
mutual
def E.ok:E->Prop
 | .atom s=>s≠[]
 | .list l=>E.zY l
def E.zY:List E->Prop
 |[]=>True
 |e::l=>e.ok/\E.zY l
end
theorem uL(l r:List E):E.jF (l++r)=E.jF l+E.jF r:=by
 induction l with
 |nil=>simp[E.jF]
 |cons e l ih=>simp[E.jF,ih];omega
theorem uu(l r:List E):E.zY (l++r)↔E.zY l/\E.zY r:=by
 induction l with
 |nil=>simp[E.zY]
 |cons e l ih=>simp[E.zY,ih,and_assoc]
theorem xk{f:List UInt8->Option (E×List UInt8)}(hf:∀s e r,f s=some (e,r)->e.ok/\e.sz+r.length<=s.length):∀(n:Nat) (s:List UInt8) (acc:List E) (e:E) (r:List UInt8),pH f n s acc=some (e,r)->E.zY acc->e.ok/\e.sz+r.length<=s.length+1+E.jF acc
 |0,s,acc,e,r,h,_=>by cases h
 |
  n+1,s,acc,e,r,h,ha=>by
  simp only[pH]at h
  split at h
  ·rename_i p c r' hs
   obtain⟨h1,h2⟩:=hf _ _ _ hs
   simp only[aw]at h2
   split at h
   ·cases h
    refine⟨(uu _ _).2 ⟨ha,h1,trivial⟩,?_⟩
    simp only[E.sz,uL,E.jF];omega
   ·split at h
    ·have:=xk hf n _ _ _ _ h ((uu _ _).2 ⟨ha,h1,trivial⟩)
     refine⟨this.1,?_⟩
     have h3:=this.2
     simp only[uL,E.jF]at h3;omega
    ·cases h
  ·cases h
theorem qU(s:List UInt8):(s.takeWhile dT).length+(s.dropWhile dT).length=s.length:=by
 have:=congrArg dR (bu (p:=dT) (l:=s))
 simpa only[aq]using this
theorem AA:∀(k:Nat) (s:List UInt8) (e:E) (r:List UInt8),rd k s=some (e,r)->e.ok/\e.sz+r.length<=s.length
 |
  0,s,e,r,h=>by
  simp only[rd]at h
  split at h
  ·cases h
  ·rename_i hn;cases h
   have:=qU s
   have:0<(s.takeWhile dT).length:=List.length_pos_iff.2 hn
   exact⟨hn,by simp only[E.sz];omega⟩
 |
  k+1,s,e,r,h=>by
  simp only[rd]at h
  split at h
  ·split at h
   ·split at h
    ·have:=xk (AA k) _ _ _ _ _ h trivial
     refine⟨this.1,?_⟩
     have h3:=this.2
     simp only[E.jF,aw]at h3 |-;omega
    ·cases h
   ·cases h
  ·rename_i hn;cases h
   have:=qU s
   have:0<(s.takeWhile dT).length:=List.length_pos_iff.2 hn
   exact⟨hn,by simp only[E.sz];omega⟩
def ov(s:List UInt8):Option E:=if s.length>8000 then none else match rd 300 s with|some (e,[])=>some e|_=>none
theorem lD{s:List UInt8}{e:E}(h:ov s=some e):e.ok/\e.sz<=8000:=by
 unfold ov at h
 split at h
 ·cases h
 ·split at h
  ·rename_i e' hr
   cases h
   have:=AA _ _ _ _ hr
   exact⟨this.1,by have:=this.2;simp at this;omega⟩
  ·cases h
def ru:Option E->AV
 |some e=>e.dF
 |none=>.v (.pointer none)
theorem Fa(s:List UInt8):ay Tryz.prog 70 [.v (.string (mk s))] [] (bK (ru (ov s))):=by
 refine Ht _ ?_
 simp only[FN,↓zq,zs,ah,zt,bK,ov]
 refine⟨fun h=>?_,fun h=>?_⟩
 ·rw[if_pos (by omega)];simp[ru]
 ·rw[if_neg (by omega)]
  refine al (IF 300 (by omega) s (by omega)) ?_
  cases hr:rd 300 s with
  |
   none =>
   simp only[mo,↓zq,zs,ah,zt,ru]
   refine⟨fun _=>trivial,fun _=>trivial⟩
  |
   some q =>
   obtain⟨e,r⟩:=q
   cases r with
   |nil=>simp only[mo,↓zq,zs,ah,zt,ru,cj];simp
   |cons c r=>simp only[mo,↓zq,zs,ah,zt,ru,cj];simp
def fH(b:UInt8):Bool:=decide (48<=b.toNat/\b.toNat<=57)
def named(lo hi:Nat):List UInt8->Bool
 |[]=>false
 |c::r=>decide (r.length<=2)&&decide (lo<=c.toNat/\c.toNat<=hi)&&r.all fH
def fC(s:List UInt8):Bool:=named 120 122 s
def cC(s:List UInt8):Bool:=named 116 116 s
def AX(v lo hi:Int):Bool:=decide (lo<=v/\v<=hi)
theorem Ag(v lo hi:Int):ay Tryz.prog 30 [.v (.int .i64 v),.v (.int .i64 lo),.v (.int .i64 hi)] [] (bK (.v (.bool (AX v lo hi)))):=by
 refine IV _ _ _ ?_
 simp only[F7,↓zq,zs,ah,bK,AX]
 constructor<;>intro h<;>simp at h<;>simp[h]
 omega
theorem FU(s:List UInt8)(hs:s.length<=3):∀(k i:Nat),i+k=s.length->CX [.v (.string (mk s)),.v (.int .i64 (i:Int))] [] (qQ (if(s.drop i).all fH=true then(1,[],[])else(2,[.v (.bool false)],[])))
 |
  0,i,hi=>by
  have hd:s.drop i=[]:=a8 (by omega)
  refine DK _ _ ?_
  simp only[Bn,↓zq,zs,ah,zt]
  exact⟨fun h=>by omega,fun _=>by simp[qQ,hd]⟩
 |
  k+1,i,hi=>by
  have hlt:i<s.length:=by omega
  have e:s.drop i=s.getD i 0::s.drop (i+1):=by
   rw[aN hlt];simp[aa,hlt]
  refine DK _ _ ?_
  simp only[Bn,↓zq,zs,ah,zt,ke s i hlt,e,cn]
  generalize hb:s.getD i 0=b
  refine⟨fun _=>⟨by omega,fun h=>?_,fun h=>⟨by omega,fun h2=>?_,fun h2=>?_⟩⟩,fun h=>by omega⟩
  ·have:fH b=false:=by simp[fH];omega
   simp only[this,zf,qQ]
  ·have:fH b=false:=by simp[fH];omega
   simp only[this,zf,qQ]
  ·have:fH b=true:=by simp[fH];omega
   rw[bW i (by omega),this,bI]
   exact FU s hs k (i+1) (by omega)
theorem Ei(s:List UInt8)(lo hi:Nat):ay Tryz.prog 76 [.v (.string (mk s)),.v (.int .u8 (lo:Int)),.v (.int .u8 (hi:Int))] [] (bK (.v (.bool (named lo hi s)))):=by
 refine Hr _ _ _ ?_
 unfold Ej
 rw[cY]
 refine al (Ag _ _ _) ?_
 simp only[↓zq,zs,ah,zt,bK]
 refine⟨fun h=>?_,fun h=>?_⟩
 ·cases s with
  |nil=>rfl
  |
   cons c s =>
   simp[AX]at h
   have:¬s.length<=2:=by omega
   simp[named,this]
 ·cases s with
  |nil=>simp[AX]at h
  |
   cons c s =>
   simp[AX]at h
   have hl:s.length<=2:=by omega
   have hb:=ke (c::s) 0 (by simp)
   simp only[cg,cy]at hb
   simp only[↓zq,zs,ah,hb]
   refine⟨by omega,fun h1=>?_,fun h1=>⟨by omega,fun h2=>?_,fun h2=>?_⟩⟩
   ·have:¬lo<=c.toNat:=by omega
    simp[named,this]
   ·have:¬c.toNat<=hi:=by omega
    simp[named,this]
   ·refine iN (FU (c::s) (by simp;omega) s.length 1 (by simp;omega)) (fun ys o e=>?_) (fun ys o e=>?_)
    ·split at e<;>cases e
     rename_i ha
     simp at ha
     simp only[↓zq,zs,ah]
     simp[named,hl]
     exact⟨⟨by omega,by omega⟩,fun x hx=>by simpa using ha x hx⟩
    ·split at e<;>cases e
     rename_i ha
     simp only[↓zq,zs,ah]
     have:s.all fH=false:=by simpa using ha
     simp[named,this]
theorem BE(s:List UInt8):ay Tryz.prog 56 [.v (.string (mk s))] [] (bK (.v (.bool (fC s)))):=by
 refine IY _ ?_
 unfold Ff
 refine al (Ei s 120 122) ?_
 simp only[↓zq,zs,ah,bK,fC]
theorem BY(s:List UInt8):ay Tryz.prog 54 [.v (.string (mk s))] [] (bK (.v (.bool (cC s)))):=by
 refine Ip _ ?_
 unfold E2
 refine al (Ei s 116 116) ?_
 simp only[↓zq,zs,ah,bK,cC]
end Go.Proofs.Trees
namespace Go.Proofs.Trees
open Go Go.VL Go.RowKit
theorem HL(l:List UInt8)(c:UInt8):ay Tryz.prog 108 [.v (.string (mk l)),.v (.string (mk [c]))] [] (bK (.v (.bool (decide (0<=Lib.indexByte l c))))):=by
 refine ay.I2 (xs:=[.string (mk l),.string (mk [c])]) ⟨ld,by kernel_rfl,by kernel_rfl,by kernel_rfl⟩ fun w=>?_
 have:=Any.strings_Contains_one Tryz.yS (mk l) c w
 refine Calls.mono this fun e w' ⟨h1,h2⟩=>?_
 rw[h2]
 have hd:(mk l).data.toList=l:=by simp[mk]
 exact⟨by rw[h1,hd],Below.refl _ _⟩
theorem F4(l cs:List UInt8)(hl:l.length<=1000000)(hc:cs.length<=1000)(ha:∀b,b∈cs->b.toNat<128):ay Tryz.prog 101 [.v (.string (mk l)),.v (.string (mk cs))] [] (bK (.v (.string (mk (Lib.trimS l cs))))):=by
 refine ay.I2 (xs:=[.string (mk l),.string (mk cs)]) ⟨n0,by kernel_rfl,by kernel_rfl,by kernel_rfl⟩ fun w=>?_
 have:=Any.strings_Trim_laid Tryz.zc (by kernel_rfl) (mk l) (mk cs) w (by rw[cY];omega) (by rw[cY];omega) (fun j b hj=>ha b (by
  have:(mk cs).data.toList=cs:=by simp[mk]
  rw[this]at hj
  exact List.mem_of_getElem? hj))
 refine Calls.mono this fun e w' ⟨h1,h2⟩=>⟨?_,h2⟩
 rw[h1]
 simp[mk]
theorem lr:∀(l:List UInt8) (c:UInt8),(0<=Lib.indexByte l c↔c∈l)/\-1<=Lib.indexByte l c
 |[],c=>by simp[Lib.indexByte]
 |
  b::l,c=>by
  obtain⟨h1,h2⟩:=lr l c
  unfold Lib.indexByte
  by_cases e:b=c
  ·subst e;simp
  ·have e':(b==c)=false:=by simp[e]
   rw[e']
   by_cases q:Lib.indexByte l c = -1
   ·have:c∉l:=fun h=>by have:=h1.2 h;omega
    simp[q,this,Ne.symm e]
   ·have q':(Lib.indexByte l c==-1)=false:=by simp[q]
    simp only[q',Bool.false_eq_true,if_false,aB]
    constructor
    ·constructor
     ·intro h;exact .inr (h1.1 (by omega))
     ·intro h
      rcases h with h|h
      ·exact absurd h.symm e
      ·have:=h1.2 h;omega
    ·omega
theorem dropWhile_nil{p:UInt8->Bool}:∀(l:List UInt8),l.dropWhile p=[]↔l.all p=true
 |[]=>by simp
 |
  b::l=>by
  cases h:p b with
  |true=>rw[List.dropWhile_cons_of_pos h,dropWhile_nil l];simp[h]
  |false=>rw[List.dropWhile_cons_of_neg (by rw[h];simp)];simp[h]
theorem p9(l cs:List UInt8):Lib.trimS l cs=[]↔l.all (cs.contains ·)=true:=by
 unfold Lib.trimS Lib.trimLeftS
 rw[dropWhile_nil]
 unfold Lib.trimRightS
 constructor
 ·intro h
  by_cases hn:l.reverse.dropWhile (cs.contains ·)=[]
  ·rw[dropWhile_nil]at hn
   simpa using hn
  ·exfalso
   rw[List.all_reverse]at h
   obtain⟨b,r,e⟩:=List.exists_cons_of_ne_nil hn
   have h1:cs.contains b=false:=by
    have:=List.head_dropWhile_not (p:=(cs.contains ·)) (l:=l.reverse) hn
    simp only[e,List.head_cons]at this
    exact this
   rw[e]at h
   simp only[cn,ai]at h
   rw[h1]at h;cases h.1
 ·intro h
  have:l.reverse.dropWhile (cs.contains ·)=[]:=by rw[dropWhile_nil];simpa using h
  rw[this];rfl
def Di:List UInt8:=[48,49,50,51,52,53,54,55,56,57]
theorem se(b:UInt8):Di.contains b=fH b:=by
 have:∀n:Fin 256,Di.contains (aU n.val)=fH (aU n.val):=by decide +kernel
 have:=this ⟨b.toNat,b.toNat_lt⟩
 simpa using this
theorem Ey(s ls:List UInt8)(lo hi:Nat)(hls:∀c:UInt8,c∈ls↔lo<=c.toNat/\c.toNat<=hi):ay Tryz.prog 99 [.v (.string (mk s)),.v (.string (mk ls))] [] (bK (.v (.bool (named lo hi s)))):=by
 refine Ii _ _ ?_
 simp only[Gl,↓zq,zs,ah,zt,bK]
 cases s with
 |nil=>exact⟨fun h=>by simp at h,fun _=>rfl⟩
 |
  cons c s =>
  have e1:(List.take (bC 1) (c::s))=[c]:=rfl
  have e2:(List.take (s.length+1) (c::s)).drop (bC 1)=s:=by simp
  simp only[aw,e1,e2]
  refine⟨fun _=>⟨fun h3=>⟨by omega,?_⟩,fun h3=>?_⟩,fun h=>by omega⟩
  ·have hl:s.length<=2:=by omega
   refine al (HL ls c) ?_
   simp only[↓zq,zs,ah]
   have hi1:=(lr ls c).1
   refine⟨fun h=>⟨by omega,?_⟩,fun h=>?_⟩
   ·refine al (F4 s Di (by omega) (by decide) (by decide)) ?_
    simp only[↓zq,zs,ah,zt]
    have hc:=(hls c).1 (hi1.1 h)
    congr 2
    rw[cA,beq_iff_eq,p9]
    simp only[named,hl,hc,decide_true,bI,and_self]
    have:(fun x=>Di.contains x)=fH:=funext se
    rw[this]
   ·have hc:¬(lo<=c.toNat/\c.toNat<=hi):=fun h'=>h (hi1.2 ((hls c).2 h'))
    simp only[named,hc,zf]
  ·have hl:¬s.length<=2:=by omega
   simp only[named,hl,zf]
theorem FJ(s:List UInt8):ay Tryz.prog 94 [.v (.string (mk s))] [] (bK (.v (.bool (fC s)))):=by
 refine HK _ ?_
 unfold DL
 have h:∀n:Fin 256,(aU n.val∈[(120:UInt8),121,122])↔120<=(aU n.val).toNat/\(aU n.val).toNat<=122:=by decide +kernel
 refine al (Ey s [120,121,122] 120 122 fun c=>by simpa using h ⟨c.toNat,c.toNat_lt⟩) ?_
 simp only[↓zq,zs,ah,bK,fC]
theorem zS(s:List UInt8):ay Tryz.prog 86 [.v (.string (mk s))] [] (bK (.v (.bool (cC s)))):=by
 refine Io _ ?_
 unfold E3
 have h:∀n:Fin 256,(aU n.val∈[(116:UInt8)])↔116<=(aU n.val).toNat/\(aU n.val).toNat<=116:=by decide +kernel
 refine al (Ey s [116] 116 116 fun c=>by simpa using h ⟨c.toNat,c.toNat_lt⟩) ?_
 simp only[↓zq,zs,ah,bK,cC]
end Go.Proofs.Trees
namespace Go.Proofs.Trees
open Go Go.VL
inductive Ty where
 |zero|one
 |name (s:List UInt8)
 |bound (up:Nat)
 |plus (a b:Ty)
 |times (a b:Ty)
 |rc (a:Ty)
def Ty.av:Ty->AV
 | .zero=>.ptr [.v (.int .u8 48),.v (.string (mk [])),.v (.int .i64 0),.v (.pointer none),.v (.pointer none)]
 | .one=>.ptr [.v (.int .u8 49),.v (.string (mk [])),.v (.int .i64 0),.v (.pointer none),.v (.pointer none)]
 | .name s=>.ptr [.v (.int .u8 110),.v (.string (mk s)),.v (.int .i64 0),.v (.pointer none),.v (.pointer none)]
 | .bound up=>.ptr [.v (.int .u8 98),.v (.string (mk [])),.v (.int .i64 (up:Int)),.v (.pointer none),.v (.pointer none)]
 | .plus a b=>.ptr [.v (.int .u8 43),.v (.string (mk [])),.v (.int .i64 0),a.av,b.av]
 | .times a b=>.ptr [.v (.int .u8 42),.v (.string (mk [])),.v (.int .i64 0),a.av,b.av]
 | .rc a=>.ptr [.v (.int .u8 114),.v (.string (mk [])),.v (.int .i64 0),a.av,.v (.pointer none)]
theorem aT(t:Ty):LK.has .ptr t.av=True:=by cases t<;>simp[Ty.av,fK]
theorem eZ(t:Ty):t.av.isNil=false:=by cases t<;>rfl
def gN:Option Ty->AV
 |some t=>t.av
 |none=>.v (.pointer none)
theorem jx(t:Option Ty):LK.has .ptr (gN t)=True:=by cases t<;>simp[gN,aT,j1]
def E.at:E->List UInt8
 | .atom s=>s
 | .list _=>[]
def bR(s:List UInt8)(ar:List (List UInt8)):Nat->Option Nat
 |0=>none
 |i+1=>if ar.getD i []=s then some (ar.length-1-i)else bR s ar i
def cf:E->List (List UInt8)->Option Ty
 | .atom s,ar=>if s=[48]then some .zero else if s=[49]then some .one else if fC s=true then some (.name s)else if cC s=true then(match bR s ar ar.length with|some u=>some (.bound u)|none=>some (.name s))else none
 |
  .list [x,a,b],ar =>
  if x.at=[43]then(match cf a ar,cf b ar with|some t,some u=>some (.plus t u)|_,_=>none)
  else if x.at=[42]then(match cf a ar,cf b ar with|some t,some u=>some (.times t u)|_,_=>none)
  else if x.at=[114,101,99]then(if cC a.at=true then(match cf b (ar++[a.at])with|some t=>some (.rc t)|none=>none)else none)
  else none
 | .list _,_=>none
def cV(l:List (List UInt8)):List (List AV):=l.map fun s=>[.v (.string (mk s))]
def fJ(a:AV)(l:List (List UInt8)):Prop:=LK.sl.has a/\a.elems=cV l
theorem fJ.len{a:AV}{l:List (List UInt8)}(h:fJ a l):a.elems.length=l.length:=by rw[h.2];simp[cV]
theorem fJ.idx{a:AV}{l:List (List UInt8)}(h:fJ a l){i:Nat}(hi:i<l.length):a.elems.getD i []=[.v (.string (mk (l.getD i [])))]:=by
 rw[h.2];simp[cV,aa,hi]
theorem fJ.of(l:List (List UInt8)):fJ (.sl (cV l)) l:=⟨(cG _).mpr trivial,rfl⟩
theorem fJ.nil:fJ (.v (.slice none 0 0)) []:=⟨(bF).mpr trivial,rfl⟩
theorem uB(e:E)(w:List UInt8):ay Tryz.prog 89 [e.dF,.v (.string (mk w)),.v (.int .i64 3)] [] (bK (.v (.bool (match e with| .list [x,_,_]=>x.at==w|_=>false)))):=by
 refine Ef _ _ _ ((cj e).mpr trivial) ?_
 cases e with
 |atom s=>simp only[yc,E.dF,↓zq,zs,ah,zt,bK];exact⟨by omega,fun h=>by omega,fun _=>trivial⟩
 |
  list l =>
  simp only[yc,E.dF,↓zq,zs,ah,zt,bK,oI]
  match l with
  |[]=>exact⟨by simp,fun h=>by simp at h,fun _=>rfl⟩
  |[_]=>exact⟨by simp,fun h=>by simp at h,fun _=>rfl⟩
  |[_,_]=>exact⟨by simp,fun h=>by simp at h,fun _=>rfl⟩
  |
   [x,y,z] =>
   refine⟨by simp,fun _=>?_,fun h=>by simp at h⟩
   cases x<;>simp[E.kj,E.dF,fK,ny,im,dU,re,toList_mk,E.at]
  |_::_::_::_::l=>exact⟨by simp,fun h=>by simp at h;omega,fun _=>rfl⟩
theorem Fk(e:E)(a:AV)(ar:List (List UInt8))(ha:fJ a ar)(hl:ar.length<1000000):∀(i:Nat),i<=ar.length->BX [e.dF,a,.v (.int .i64 ((i:Int)-1))] []
 (qQ (match bR e.at ar i with|some u=>(2,[],[.cells [.v (.int .u8 98),.v (.string (mk [])),.v (.int .i64 (u:Int)),.v (.pointer none),.v (.pointer none)]])|none=>(1,[e.dF],[])))
 |
  0,hi=>by
  refine GJ _ _ _ ?_
  simp only[Ce,↓zq,zs,ah,cj]
  exact⟨ha.1,fun h=>by omega,fun _=>rfl⟩
 |
  i+1,hi=>by
  have hlt:i<ar.length:=by omega
  have e1:((i+1:Nat):Int)-1=(i:Int):=by omega
  rw[e1]
  refine GJ _ _ _ ?_
  have hd:e.dF.deref.headD .any=.v (.string (mk e.at)):=by cases e<;>rfl
  have hdl:1<=e.dF.deref.length:=by cases e<;>simp[E.dF,im]
  simp only[Ce,↓zq,zs,ah,zt,cj,dn,ha.len,ha.idx hlt,hd,pB]
  refine⟨ha.1,fun _=>⟨⟨ha.1,by omega,by omega⟩,by omega,hdl,fun h=>⟨ha.1,?_⟩,fun h=>?_⟩,fun h=>by omega⟩
  ·simp only[bR,h,if_true,qQ]
   rw[wrap64 ((ar.length:Int)-1) (by omega) (by omega),wrap64 _ (by omega) (by omega)]
   have:(ar.length:Int)-1-(i:Int)=((ar.length-1-i:Nat):Int):=by omega
   rw[this]
  ·simp only[bR,h,if_false]
   rw[wrap64 _ (by omega) (by omega)]
   exact Fk e a ar ha hl i (by omega)
end Go.Proofs.Trees
namespace Go.Proofs.Trees
open Go Go.VL
theorem lL(e:E):e.dF.deref.headD .any=.v (.string (mk e.at)):=by cases e<;>rfl
theorem jK(e:E):1<=e.dF.deref.length:=by cases e<;>simp[E.dF,im]
theorem toNat_one:bC 1=1:=rfl
theorem bG:bC 2=2:=rfl
theorem D9{ar:List (List UInt8)}(s:List UInt8):cV ar++[[.v (.string (mk s))]]=cV (ar++[s]):=by simp[cV]
theorem nP(ar:List (List UInt8)):cN 1 (cV ar):=fun c hc=>by
 obtain⟨s,_,rfl⟩:=bp.1 hc;rfl
theorem jA{x a b:E}(ar:List (List UInt8))(hx:x.at=[43]):cf (.list [x,a,b]) ar=match cf a ar,cf b ar with|some t,some u=>some (.plus t u)|_,_=>none:=by rw[cf,if_pos hx]<;>cases cf a ar<;>cases cf b ar<;>rfl
theorem iR{x a b:E}(ar:List (List UInt8))(hx:x.at=[42]):cf (.list [x,a,b]) ar=match cf a ar,cf b ar with|some t,some u=>some (.times t u)|_,_=>none:=by rw[cf,if_neg (by rw[hx];decide),if_pos hx]<;>cases cf a ar<;>cases cf b ar<;>rfl
theorem ko{x a b:E}(ar:List (List UInt8))(hx:x.at=[114,101,99]):cf (.list [x,a,b]) ar=if cC a.at=true then(match cf b (ar++[a.at])with|some t=>some (.rc t)|none=>none)else none:=by rw[cf,if_neg (by rw[hx];decide),if_neg (by rw[hx];decide),if_pos hx]<;>cases cf b (ar++[a.at])<;>rfl
theorem gC{x a b:E}(ar:List (List UInt8))(h1:x.at≠[43])(h2:x.at≠[42])(h3:x.at≠[114,101,99]):cf (.list [x,a,b]) ar=none:=by rw[cf,if_neg h1,if_neg h2,if_neg h3]
theorem y0:∀(e:E) (ar:List (List UInt8)) (a:AV),e.ok->fJ a ar->ar.length+e.sz<100000->ay Tryz.prog 82 [e.dF,a] [] (bK (gN (cf e ar)))
 |
  .atom s,ar,a,hok,ha,hl=>by
  simp only[E.sz]at hl
  refine ES _ _ ((cj _).mpr trivial) ha.1 ?_
  have hd:=lL (.atom s)
  have hlen:=jK (.atom s)
  simp only[E.at]at hd
  simp only[CZ,↓zq,zs,ah,zt,bK,cj,dn,hd,cf]
  refine⟨hlen,fun h=>⟨hlen,?_,?_⟩,fun h=>⟨hlen,fun h1=>⟨hlen,?_,?_⟩,fun h1=>⟨hlen,?_⟩⟩⟩
  ·rw[h];decide
  ·rw[if_pos h,h];rfl
  ·rw[h1];decide
  ·rw[if_neg h,if_pos h1,h1];rfl
  ·rw[if_neg h,if_neg h1]
   refine al (FJ s) ?_
   simp only[↓zq,zs,ah]
   refine⟨fun hp=>⟨hlen,?_⟩,fun hp=>⟨hlen,?_⟩⟩
   ·rw[if_pos hp];rfl
   ·rw[if_neg (by rw[hp];simp)]
    refine al (zS s) ?_
    simp only[↓zq,zs,ah,ha.len]
    refine⟨fun hq=>⟨ha.1,?_⟩,fun hq=>?_⟩
    ·rw[if_pos hq,wrap64 _ (by omega) (by omega)]
     refine iN (Fk (.atom s) a ar ha (by omega) ar.length (by omega)) (fun ys o e=>?_) (fun ys o e=>?_)
     ·simp only[E.at]at e
      cases hq2:bR s ar ar.length<;>rw[hq2]at e<;>cases e
      simp only[↓zq,zs,ah,zt,cj,dn,hd]
      exact⟨hlen,rfl⟩
     ·simp only[E.at]at e
      cases hq2:bR s ar ar.length<;>rw[hq2]at e<;>cases e
      simp only[↓zq,zs,ah,zt,LK.has]
      simp[gN,Ty.av,ah,LK.has]
    ·rw[if_neg (by rw[hq];simp)]
     refine al (uB (.atom s) [43]) ?_
     simp only[↓zq,zs,ah]
     refine⟨fun h=>(by simp at h),fun _=>?_⟩
     refine al (uB (.atom s) [42]) ?_
     simp only[↓zq,zs,ah]
     refine⟨fun h=>(by simp at h),fun _=>?_⟩
     refine al (uB (.atom s) [114,101,99]) ?_
     simp only[↓zq,zs,ah]
     refine⟨fun h=>(by simp at h),fun _=>?_⟩
     trivial
 |
  .list l,ar,a,hok,ha,hl=>by
  simp only[E.sz]at hl
  refine ES _ _ ((cj _).mpr trivial) ha.1 ?_
  have hd:=lL (.list l)
  have hlen:=jK (.list l)
  simp only[E.at]at hd
  have hp:fC []=false:=rfl
  have hq:cC []=false:=rfl
  simp only[CZ,↓zq,zs,ah,zt,bK,cj,dn,hd]
  refine⟨hlen,fun h=>(by simp at h),fun h=>⟨hlen,fun h1=>(by simp at h1),fun h1=>⟨hlen,?_⟩⟩⟩
  refine al (FJ []) ?_
  simp only[↓zq,zs,ah,hp]
  refine⟨fun h=>(by simp at h),fun _=>⟨hlen,?_⟩⟩
  refine al (zS []) ?_
  simp only[↓zq,zs,ah,hq]
  refine⟨fun h=>(by simp at h),fun _=>?_⟩
  refine al (uB (.list l) [43]) ?_
  match l,hok,hl with
  |
   [x,y,z],hok,hl =>
   simp only[E.jF]at hl
   obtain⟨ok1,ok2,ok3,_⟩:=hok
   have iy:=y0 y ar a ok2 ha (by omega)
   have iz:=y0 z ar a ok3 ha (by omega)
   have hds:((E.list [x,y,z]).dF.deref.drop 1).headD .any=.sl [[x.dF],[y.dF],[z.dF]]:=rfl
   have hdl:1<=((E.list [x,y,z]).dF.deref.drop 1).length:=by simp[E.dF,im]
   have hxd:=lL x
   have hxl:=jK x
   have hyd:=lL y
   have hyl:=jK y
   have bin:∀(c:UInt8) (mkT:Ty->Ty->Ty),(∀t u:Ty,(mkT t u).av=.ptr [.v (.int .u8 (c.toNat:Int)),.v (.string (mk [])),.v (.int .i64 0),t.av,u.av])->x.at=[c]->bt (mk x.at) 0=(c.toNat:Int):=fun c _ _ hx=>by
    have:=ke x.at 0 (by rw[hx];simp)
    simp only[cg,cy]at this
    rw[this,hx];rfl
   simp only[↓zq,zs,ah,zt,hds,hdl,cj,dn,toNat_one,bG,hxd,hyd,pB]
   refine⟨fun hx=>?_,fun hx=>?_⟩
   ·refine⟨by omega,by omega,?_⟩
    refine al iy ?_
    simp only[↓zq,zs,ah,jx]
    refine⟨by omega,by omega,?_⟩
    refine al iz ?_
    have hb:=bin 43 Ty.plus (fun _ _=>rfl) hx
    rw[jA ar hx]
    simp only[↓zq,zs,ah,zt,jx]
    cases h1:cf y ar with
    |none=>simp[gN,ik]
    |
     some t =>
     cases h2:cf z ar with
     |none=>simp[gN,ik,eZ]
     |
      some u =>
      simp only[gN,eZ,hb]
      refine⟨fun h=>(by cases h),fun _=>⟨fun h=>(by cases h),fun _=>⟨by omega,by omega,hxl,⟨by omega,by rw[hx];simp⟩,rfl⟩⟩⟩
   ·refine al (uB (.list [x,y,z]) [42]) ?_
    simp only[↓zq,zs,ah,hds,hdl,cj,dn,toNat_one,bG,hxd,hyd,pB]
    refine⟨fun hx2=>?_,fun hx2=>?_⟩
    ·refine⟨by omega,by omega,?_⟩
     refine al iy ?_
     simp only[↓zq,zs,ah,jx]
     refine⟨by omega,by omega,?_⟩
     refine al iz ?_
     have hb:=bin 42 Ty.times (fun _ _=>rfl) hx2
     rw[iR ar hx2]
     simp only[↓zq,zs,ah,zt,jx]
     cases h1:cf y ar with
     |none=>simp[gN,ik]
     |
      some t =>
      cases h2:cf z ar with
      |none=>simp[gN,ik,eZ]
      |
       some u =>
       simp only[gN,eZ,hb]
       refine⟨fun h=>(by cases h),fun _=>⟨fun h=>(by cases h),fun _=>⟨by omega,by omega,hxl,⟨by omega,by rw[hx2];simp⟩,rfl⟩⟩⟩
    ·refine al (uB (.list [x,y,z]) [114,101,99]) ?_
     simp only[↓zq,zs,ah,zt,hds,hdl,cj,dn,toNat_one,bG,hxd,hyd,pB]
     refine⟨fun hx3=>⟨by omega,by omega,hyl,?_⟩,fun hx3=>?_⟩
     ·refine al (zS y.at) ?_
      rw[ko ar hx3]
      simp only[↓zq,zs,ah]
      have hal:cN 1 a.elems:=by rw[ha.2];exact nP ar
      have hal1:cN 1 [[AV.v (.string (mk y.at))]]:=fun c hc=>by simp at hc;rw[hc];rfl
      refine⟨fun hlo=>⟨by omega,by omega,⟨ha.1,hal,by rw[ha.len];omega⟩,by omega,by omega,hyl,⟨hal1,by rw[bc,ha.len];omega⟩,?_⟩,fun hlo=>?_⟩
      ·rw[bc,ha.2,D9,if_pos hlo]
       refine al (y0 z (ar++[y.at]) _ ok3 (.of _) (by simp;omega)) ?_
       simp only[↓zq,zs,ah,jx]
       cases h2:cf z (ar++[y.at])with
       |none=>simp[gN,ik]
       |
        some u =>
        simp only[gN,eZ]
        refine⟨fun h=>(by cases h),fun _=>rfl⟩
      ·rw[if_neg (by rw[hlo];simp)];rfl
     ·rw[gC ar hx hx2 hx3];rfl
  |
   [],_,_ =>
   simp only[↓zq,zs,ah]
   refine⟨fun h=>(by cases h),fun _=>?_⟩
   refine al (uB (.list []) [42]) ?_
   simp only[↓zq,zs,ah]
   refine⟨fun h=>(by cases h),fun _=>?_⟩
   refine al (uB (.list []) [114,101,99]) ?_
   simp only[↓zq,zs,ah]
   refine⟨fun h=>(by cases h),fun _=>?_⟩
   rfl
  |
   [x1],_,_ =>
   simp only[↓zq,zs,ah]
   refine⟨fun h=>(by cases h),fun _=>?_⟩
   refine al (uB (.list [x1]) [42]) ?_
   simp only[↓zq,zs,ah]
   refine⟨fun h=>(by cases h),fun _=>?_⟩
   refine al (uB (.list [x1]) [114,101,99]) ?_
   simp only[↓zq,zs,ah]
   refine⟨fun h=>(by cases h),fun _=>?_⟩
   rfl
  |
   [x1,x2],_,_ =>
   simp only[↓zq,zs,ah]
   refine⟨fun h=>(by cases h),fun _=>?_⟩
   refine al (uB (.list [x1,x2]) [42]) ?_
   simp only[↓zq,zs,ah]
   refine⟨fun h=>(by cases h),fun _=>?_⟩
   refine al (uB (.list [x1,x2]) [114,101,99]) ?_
   simp only[↓zq,zs,ah]
   refine⟨fun h=>(by cases h),fun _=>?_⟩
   rfl
  |
   x1::x2::x3::x4::l,_,_ =>
   simp only[↓zq,zs,ah]
   refine⟨fun h=>(by cases h),fun _=>?_⟩
   refine al (uB (.list (x1::x2::x3::x4::l)) [42]) ?_
   simp only[↓zq,zs,ah]
   refine⟨fun h=>(by cases h),fun _=>?_⟩
   refine al (uB (.list (x1::x2::x3::x4::l)) [114,101,99]) ?_
   simp only[↓zq,zs,ah]
   refine⟨fun h=>(by cases h),fun _=>?_⟩
   rfl
end Go.Proofs.Trees
namespace Go.Proofs.Trees
open Go Go.VL
def ic(v:AV)(obs:List Ob):AV->List Ob->Prop:=fun r o=>r=v/\o=obs
theorem cr{P:Program}{n:Nat}{Q:Nat->List AV->List Ob->Prop}{f:Nat}{xs:List AV}{ins:List Ob}{k:AV->List Ob->Tree}{v:AV}{obs:List Ob}(h:ay P f xs ins (ic v obs))(hk:dV P n (k v obs) Q):dV P n (.call f xs ins k) Q :=
 ⟨ic v obs,h,⟨v,obs,rfl,rfl⟩,fun r o ⟨h1,h2⟩=>by rw[h1,h2];exact hk⟩
def Ty.atoms:Ty->Nat
 | .plus a b=>1+a.atoms+b.atoms
 | .times a b=>1+a.atoms+b.atoms
 | .rc a=>2+a.atoms
 |_=>1
theorem vU:∀(t:Ty),t.atoms<1000000->ay Tryz.prog 83 [t.av] [] (bK (.v (.int .i64 (t.atoms:Int))))
 | .zero,h=>by refine Cz _ ((aT _).mpr trivial) ?_;simp[AH,Ty.av,↓zq,zs,ah,bK,Ty.atoms]
 | .one,h=>by refine Cz _ ((aT _).mpr trivial) ?_;simp[AH,Ty.av,↓zq,zs,ah,bK,Ty.atoms]
 | .name s,h=>by refine Cz _ ((aT _).mpr trivial) ?_;simp[AH,Ty.av,↓zq,zs,ah,bK,Ty.atoms]
 | .bound u,h=>by refine Cz _ ((aT _).mpr trivial) ?_;simp[AH,Ty.av,↓zq,zs,ah,bK,Ty.atoms]
 |
  .plus a b,h=>by
  simp only[Ty.atoms]at h
  refine Cz _ ((aT _).mpr trivial) ?_
  simp only[AH,Ty.av,↓zq,zs,ah,aT]
  refine⟨by omega,fun _=>⟨by omega,?_⟩,fun h=>absurd rfl h⟩
  refine al (vU a (by omega)) ?_
  simp only[↓zq,zs,ah,aT]
  refine⟨by omega,?_⟩
  refine al (vU b (by omega)) ?_
  simp only[↓zq,zs,ah,bK,Ty.atoms]
  rw[wrap64 (1+(a.atoms:Int)) (by omega) (by omega),wrap64 _ (by omega) (by omega)]
  congr 2
 |
  .times a b,h=>by
  simp only[Ty.atoms]at h
  refine Cz _ ((aT _).mpr trivial) ?_
  simp only[AH,Ty.av,↓zq,zs,ah,aT]
  refine⟨by omega,fun h=>by omega,fun _=>⟨fun _=>⟨by omega,?_⟩,fun h=>absurd rfl h⟩⟩
  refine al (vU a (by omega)) ?_
  simp only[↓zq,zs,ah,aT]
  refine⟨by omega,?_⟩
  refine al (vU b (by omega)) ?_
  simp only[↓zq,zs,ah,bK,Ty.atoms]
  rw[wrap64 (1+(a.atoms:Int)) (by omega) (by omega),wrap64 _ (by omega) (by omega)]
  congr 2
 |
  .rc a,h=>by
  simp only[Ty.atoms]at h
  refine Cz _ ((aT _).mpr trivial) ?_
  simp only[AH,Ty.av,↓zq,zs,ah,aT]
  refine⟨by omega,fun h=>by omega,fun _=>⟨fun h=>by omega,fun _=>⟨fun _=>⟨by omega,?_⟩,fun h=>absurd rfl h⟩⟩⟩
  refine al (vU a (by omega)) ?_
  simp only[↓zq,zs,ah,bK,Ty.atoms]
  rw[wrap64 _ (by omega) (by omega)]
  congr 2
theorem gv:∀(e:E) (ar:List (List UInt8)) (t:Ty),cf e ar=some t->t.atoms<=e.sz
 |
  .atom s,ar,t,h=>by
  simp only[cf]at h
  simp only[E.sz]
  split at h
  ·cases h;simp[Ty.atoms]
  ·split at h
   ·cases h;simp[Ty.atoms]
   ·split at h
    ·cases h;simp[Ty.atoms]
    ·split at h
     ·split at h<;>cases h<;>simp[Ty.atoms]
     ·cases h
 |
  .list [x,a,b],ar,t,h=>by
  have hs:∀e:E,1<=e.sz:=fun e=>by cases e<;>simp[E.sz];try omega
  have hx:=hs x
  have ha:=hs a
  simp only[E.sz,E.jF]
  by_cases h1:x.at=[43]
  ·rw[jA ar h1]at h
   split at h
   ·rename_i t1 t2 e1 e2
    cases h
    have:=gv a ar t1 e1
    have:=gv b ar t2 e2
    simp only[Ty.atoms];omega
   ·cases h
  ·by_cases h2:x.at=[42]
   ·rw[iR ar h2]at h
    split at h
    ·rename_i t1 t2 e1 e2
     cases h
     have:=gv a ar t1 e1
     have:=gv b ar t2 e2
     simp only[Ty.atoms];omega
    ·cases h
   ·by_cases h3:x.at=[114,101,99]
    ·rw[ko ar h3]at h
     split at h
     ·split at h
      ·rename_i t1 e1
       cases h
       have:=gv b _ t1 e1
       simp only[Ty.atoms];omega
      ·cases h
     ·cases h
    ·rw[gC ar h1 h2 h3]at h;cases h
 | .list [],_,_,h=>by cases h
 | .list [_],_,_,h=>by cases h
 | .list [_,_],_,_,h=>by cases h
 | .list (_::_::_::_::_),_,_,h=>by cases h
def sZ(s:List UInt8):Option Ty:=match ov s with
 |none=>none
 |
  some e=>match cf e []with
  |none=>none
  |some t=>if t.atoms>400 then none else some t
theorem IA(s:List UInt8):ay Tryz.prog 68 [.v (.string (mk s))] [] (bK (gN (sZ s))):=by
 refine HJ _ ?_
 unfold Gx
 refine al (Fa s) ?_
 unfold sZ
 cases he:ov s with
 |none=>simp only[ru,↓zq,zs,ah,bK,gN];simp
 |
  some e =>
  obtain⟨h1,h2⟩:=lD he
  simp only[ru,↓zq,zs,ah,cj,dn]
  refine⟨fun h=>(by cases h),fun _=>?_⟩
  refine al (y0 e [] _ h1 .nil (by simp;omega)) ?_
  cases ht:cf e []with
  |none=>simp only[gN,↓zq,zs,ah,bK];simp
  |
   some t =>
   have:=gv e [] t ht
   simp only[gN,↓zq,zs,ah,aT,eZ]
   refine⟨fun h=>(by cases h),fun _=>?_⟩
   refine al (vU t (by omega)) ?_
   simp only[↓zq,zs,ah,bK]
   refine⟨fun h=>?_,fun h=>?_⟩
   ·rw[if_pos (by omega)]
   ·rw[if_neg (by omega)]
end Go.Proofs.Trees
namespace Go.Proofs.Trees
open Go Go.VL
def wP(p:Prop):Nat->List AV->List Ob->Prop:=fun t ys o=>(t=1/\¬p/\ys=[]/\o=[])\/(t=2/\p/\∃j:Nat,ys=[.v (.int .i64 (j:Int))]/\o=[])
theorem GS(l:List (List UInt8))(a:AV)(ha:fJ a l)(s:List UInt8)(hl:l.length<1000000):∀(k i:Nat),i+k=l.length->s∉l.take i->C0 [a,.v (.string (mk s)),.v (.int .i64 (l.length:Int)),.v (.int .i64 (i:Int))] []
 (wP (s∈l))
 |
  0,i,hi,hn=>by
  refine Eb _ _ _ _ ?_
  simp only[Ck,↓zq,zs,ah]
  have:l.take i=l:=List.take_of_length_le (by omega)
  rw[this]at hn
  exact⟨ha.1,fun h=>by omega,fun _=>.inl ⟨rfl,hn,rfl,rfl⟩⟩
 |
  k+1,i,hi,hn=>by
  have hlt:i<l.length:=by omega
  refine Eb _ _ _ _ ?_
  simp only[Ck,↓zq,zs,ah,zt,ha.len,ha.idx hlt]
  have hm:l.getD i []∈l:=by simp[aa,hlt]
  refine⟨ha.1,fun _=>⟨⟨ha.1,by omega,by omega⟩,by omega,fun h=>?_,fun h=>?_⟩,fun h=>by omega⟩
  ·exact .inr ⟨rfl,by rw[h];exact hm,i,rfl,rfl⟩
  ·rw[bW i (by omega)]
   refine GS l a ha s hl k (i+1) (by omega) ?_
   rw[List.take_add_one]
   simp only[aC,not_or]
   refine⟨hn,?_⟩
   have:l[i]?=some (l.getD i []):=by simp[aa,hlt]
   rw[this];simpa using h
theorem Iz(l:List (List UInt8))(a:AV)(ha:fJ a l)(s:List UInt8)(hl:l.length<1000000):ay Tryz.prog 98 [a,.v (.string (mk s))] [] (bK (.v (.bool (decide (s∈l))))):=by
 have hI:ay Tryz.prog 107 [a,.v (.string (mk s))] [] (fun r o=>∃n:Int,r=.v (.int .i64 n)/\(0<=n↔s∈l)/\o=[]):=by
  refine HH _ _ ha.1 ?_
  simp only[El,↓zq,zs,ah,ha.len]
  refine⟨ha.1,mS (GS l a ha s hl l.length 0 (by omega) (by simp)) ?_ ?_⟩
  ·rintro ys o (⟨_,h1,rfl,rfl⟩|⟨h,_⟩)
   ·simp only[↓zq,zs,ah]
    exact⟨-1,rfl,⟨fun h=>(by omega),fun h=>absurd h h1⟩⟩
   ·cases h
  ·rintro ys o (⟨h,_⟩|⟨_,h1,j,rfl,rfl⟩)
   ·cases h
   ·simp only[↓zq,zs,ah]
    exact⟨j,rfl,⟨fun _=>h1,fun _=>(by omega)⟩⟩
 refine Ih _ _ ha.1 ?_
 unfold Fl
 refine dN hI ⟨.v (.int .i64 (if s∈l then 0 else -1)),[],_,rfl,by split<;>simp_all,rfl⟩ ?_
 rintro r o ⟨n,rfl,hn,rfl⟩
 simp only[↓zq,zs,ah,bK]
 congr 2
 rw[cA];simp[hn]
def nG(out:List (List UInt8)):Ty->List (List UInt8)
 | .name s=>if s∈out then out else out++[s]
 |_=>out
theorem BZ(t:Ty)(out:List (List UInt8))(hl:out.length<100000):ay Tryz.prog 97 [t.av,.ref 0 0] [.cells [.vec 1],.vec 1 (cV out)] (ic .any [.cells [.vec 1],.vec 1 (cV (nG out t))]):=by
 refine HQ _ _ ((aT _).mpr trivial) ?_
 have hlen:(cV out).length=out.length:=by simp[cV]
 cases t with
 |
  name s =>
  simp only[CO,Ty.av,↓zq,zs,ah,ic,hlen]
  refine⟨by omega,fun _=>⟨by omega,?_⟩,fun h=>absurd rfl h⟩
  refine al (Iz out _ (.of out) s (by omega)) ?_
  simp only[↓zq,zs,ah,nG]
  refine⟨fun h=>⟨by omega,⟨fun c hc=>(by simp at hc;rw[hc];rfl),by omega⟩,?_⟩,fun h=>?_⟩
  ·rw[D9,if_neg h]
  ·rw[if_pos h]
 |_=>simp[CO,Ty.av,↓zq,zs,ah,ic,nG]
def bn:Ty->List (List UInt8)->List (List UInt8)
 | .name s,out=>nG out (.name s)
 | .plus a b,out=>bn b (bn a out)
 | .times a b,out=>bn b (bn a out)
 | .rc a,out=>bn a out
 |_,out=>out
theorem ed:∀(t:Ty) (out:List (List UInt8)),(bn t out).length<=out.length+t.atoms
 | .name s,out=>by simp only[bn,nG,Ty.atoms];split<;>simp
 |
  .plus a b,out=>by
  have:=ed a out
  have:=ed b (bn a out)
  simp only[bn,Ty.atoms];omega
 |
  .times a b,out=>by
  have:=ed a out
  have:=ed b (bn a out)
  simp only[bn,Ty.atoms];omega
 |
  .rc a,out=>by
  have:=ed a out
  simp only[bn,Ty.atoms];omega
 | .zero,out=>by simp[bn]
 | .one,out=>by simp[bn]
 | .bound u,out=>by simp[bn]
theorem Dr:∀(t:Ty) (out:List (List UInt8)),out.length+t.atoms<100000->ay Tryz.prog 96 [t.av,.fn 97 [.ref 0 0]] [.cells [.vec 1],.vec 1 (cV out)] (ic .any [.cells [.vec 1],.vec 1 (cV (bn t out))])
 |
  .plus a b,out,hl=>by
  simp only[Ty.atoms]at hl
  have:=ed a out
  refine Bz _ _ ((aT _).mpr trivial) ?_
  unfold AJ
  refine cr (BZ (.plus a b) out (by omega)) ?_
  simp only[Ty.av,↓zq,zs,ah,aT,eZ,nG,cm,ic]
  refine⟨by omega,fun _=>⟨by omega,?_⟩,fun h=>(by cases h)⟩
  refine cr (Dr a out (by omega)) ?_
  simp only[↓zq,zs,ah,aT,eZ,cm]
  refine⟨by omega,fun _=>⟨by omega,?_⟩,fun h=>(by cases h)⟩
  refine cr (Dr b (bn a out) (by omega)) ?_
  simp only[↓zq,zs,ah,cm,bn]
 |
  .times a b,out,hl=>by
  simp only[Ty.atoms]at hl
  have:=ed a out
  refine Bz _ _ ((aT _).mpr trivial) ?_
  unfold AJ
  refine cr (BZ (.times a b) out (by omega)) ?_
  simp only[Ty.av,↓zq,zs,ah,aT,eZ,nG,cm,ic]
  refine⟨by omega,fun _=>⟨by omega,?_⟩,fun h=>(by cases h)⟩
  refine cr (Dr a out (by omega)) ?_
  simp only[↓zq,zs,ah,aT,eZ,cm]
  refine⟨by omega,fun _=>⟨by omega,?_⟩,fun h=>(by cases h)⟩
  refine cr (Dr b (bn a out) (by omega)) ?_
  simp only[↓zq,zs,ah,cm,bn]
 |
  .rc a,out,hl=>by
  simp only[Ty.atoms]at hl
  refine Bz _ _ ((aT _).mpr trivial) ?_
  unfold AJ
  refine cr (BZ (.rc a) out (by omega)) ?_
  simp only[Ty.av,↓zq,zs,ah,aT,eZ,nG,cm,ic]
  refine⟨by omega,fun _=>⟨by omega,?_⟩,fun h=>(by cases h)⟩
  refine cr (Dr a out (by omega)) ?_
  simp[↓zq,zs,ah,aT,eZ,cm,bn]
 |
  .name s,out,hl=>by
  refine Bz _ _ ((aT _).mpr trivial) ?_
  unfold AJ
  refine cr (BZ (.name s) out (by omega)) ?_
  simp[Ty.av,↓zq,zs,ah,cm,ic,bn]
 |
  .zero,out,hl=>by
  refine Bz _ _ ((aT _).mpr trivial) ?_
  unfold AJ
  refine cr (BZ .zero out (by omega)) ?_
  simp[Ty.av,↓zq,zs,ah,cm,ic,bn,nG]
 |
  .one,out,hl=>by
  refine Bz _ _ ((aT _).mpr trivial) ?_
  unfold AJ
  refine cr (BZ .one out (by omega)) ?_
  simp[Ty.av,↓zq,zs,ah,cm,ic,bn,nG]
 |
  .bound u,out,hl=>by
  refine Bz _ _ ((aT _).mpr trivial) ?_
  unfold AJ
  refine cr (BZ (.bound u) out (by omega)) ?_
  simp[Ty.av,↓zq,zs,ah,cm,ic,bn,nG]
theorem HY(t:Ty)(hl:t.atoms<100000):ay Tryz.prog 85 [t.av] [] (bK (.sl (cV (bn t [])))):=by
 refine HB _ ((aT _).mpr trivial) ?_
 unfold F2
 refine cr (Dr t [] (by simpa using hl)) ?_
 simp[↓zq,zs,ah,cm,bK]
theorem E1(l:List (List UInt8))(a:AV)(ha:fJ a l)(hl:l.length<1000000):∀(k i:Nat),i+k=l.length->(∀s,s∈l.take i->cC s=false)->CT [a,.v (.func (.func 86) #[] #[]),.v (.int .i64 (l.length:Int)),.v (.int .i64 (i:Int))] []
 (wP (l.any cC=true))
 |
  0,i,hi,hn=>by
  refine Fb _ _ _ ?_
  simp only[Db,↓zq,zs,ah]
  have:l.take i=l:=List.take_of_length_le (by omega)
  rw[this]at hn
  exact⟨ha.1,fun h=>by omega,fun _=>.inl ⟨rfl,fun hh=>(by obtain⟨x,hx,hy⟩:=bB.1 hh;rw[hn x hx]at hy;cases hy),rfl,rfl⟩⟩
 |
  k+1,i,hi,hn=>by
  have hlt:i<l.length:=by omega
  refine Fb _ _ _ ?_
  simp only[Db,↓zq,zs,ah,zt,ha.len,ha.idx hlt]
  have hm:l.getD i []∈l:=by simp[aa,hlt]
  refine⟨ha.1,fun _=>⟨⟨ha.1,by omega,by omega⟩,by omega,?_⟩,fun h=>by omega⟩
  refine al (zS _) ?_
  simp only[↓zq,zs,ah]
  refine⟨fun h=>?_,fun h=>?_⟩
  ·exact .inr ⟨rfl,bB.2 ⟨_,hm,h⟩,i,rfl,rfl⟩
  ·rw[bW i (by omega)]
   refine E1 l a ha hl k (i+1) (by omega) ?_
   intro s hs
   rw[List.take_add_one]at hs
   have:l[i]?=some (l.getD i []):=by simp[aa,hlt]
   rw[this]at hs
   rcases aC.1 hs with hs|hs
   ·exact hn s hs
   ·simp at hs;rw[hs];simpa using h
theorem ID(l:List (List UInt8))(a:AV)(ha:fJ a l)(hl:l.length<1000000):ay Tryz.prog 84 [a,.v (.func (.func 86) #[] #[])] [] (bK (.v (.bool (l.any cC)))):=by
 have hI:ay Tryz.prog 95 [a,.v (.func (.func 86) #[] #[])] [] (fun r o=>∃n:Int,r=.v (.int .i64 n)/\(0<=n↔l.any cC=true)/\o=[]):=by
  refine Ie _ ha.1 ?_
  simp only[DA,↓zq,zs,ah,ha.len]
  refine⟨ha.1,mS (E1 l a ha hl l.length 0 (by omega) (by simp)) ?_ ?_⟩
  ·rintro ys o (⟨_,h1,rfl,rfl⟩|⟨h,_⟩)
   ·simp only[↓zq,zs,ah]
    exact⟨-1,rfl,⟨fun h=>(by omega),fun h=>absurd h h1⟩⟩
   ·cases h
  ·rintro ys o (⟨h,_⟩|⟨_,h1,j,rfl,rfl⟩)
   ·cases h
   ·simp only[↓zq,zs,ah]
    exact⟨j,rfl,⟨fun _=>h1,fun _=>(by omega)⟩⟩
 refine Ho _ ha.1 ?_
 unfold GB
 refine dN hI ⟨.v (.int .i64 (if l.any cC=true then 0 else -1)),[],_,rfl,by split<;>simp_all,rfl⟩ ?_
 rintro r o ⟨n,rfl,hn,rfl⟩
 simp only[↓zq,zs,ah,bK]
 congr 2
 rw[cA];simp only[decide_eq_true_eq,ge_iff_le,hn]
def Ty.closed(t:Ty):Bool:=!((bn t []).any cC)
theorem Hn(t:Ty)(hl:t.atoms<100000):ay Tryz.prog 69 [t.av] [] (bK (.v (.bool t.closed))):=by
 refine HM _ ((aT _).mpr trivial) ?_
 unfold EN
 refine al (HY t hl) ?_
 simp only[↓zq,zs,ah]
 have:=ed t []
 refine al (ID _ _ (.of _) (by simp at this;omega)) ?_
 simp only[↓zq,zs,ah,bK,Ty.closed]
def vI(s:List UInt8):Option Ty:=match sZ s with
 |none=>none
 |some t=>if t.closed=true then some t else none
theorem wm{s:List UInt8}{t:Ty}(h:sZ s=some t):t.atoms<=400:=by
 unfold sZ at h
 split at h
 ·cases h
 ·split at h
  ·cases h
  ·split at h<;>cases h
   omega
theorem Gj(s:List UInt8):ay Tryz.prog 49 [.v (.string (mk s))] [] (bK (gN (vI s))):=by
 refine Hb _ ?_
 unfold FZ
 refine al (IA s) ?_
 unfold vI
 cases ht:sZ s with
 |none=>simp[gN,↓zq,zs,ah,bK]
 |
  some t =>
  have:=wm ht
  simp only[gN,↓zq,zs,ah,aT,eZ]
  refine⟨fun h=>(by cases h),fun _=>?_⟩
  refine al (Hn t (by omega)) ?_
  simp only[↓zq,zs,ah,bK]
  refine⟨fun h=>?_,fun h=>?_⟩
  ·rw[if_neg (by rw[h];simp)]
  ·rw[if_pos h]
theorem tu(l:List (List UInt8)):∀x,x∈[Ob.vec 1 (cV l)]->mq x:=by
 intro x hx
 simp only[aR]at hx
 subst hx
 intro e he c hc
 simp only[cV,bp]at he
 obtain⟨k,_,rfl⟩:=he
 simp only[aR]at hc
 exact⟨_,hc⟩
end Go.Proofs.Trees
namespace Go.Proofs.Trees
open Go Go.VL
theorem Ia(b:UInt8):ay Tryz.prog 77 [.v (.int .u8 (b.toNat:Int))] [] (bK (.v (.bool (dT b)))):=by
 refine IN _ ?_
 simp only[DS,↓zq,zs,ah,bK,dT]
 repeat' (apply aA<;>intro _)
 all_goals first|(congr 2;rw[cA];simp;omega)|(congr 2;simp;omega)
def yT(s:List UInt8)(x:Option (E×List UInt8)):AV->List Ob->Prop:=fun r o=>o=[] /\
 match x with
 |some (e,u)=>r=.cQ [e.ja,.v (.int .i64 ((s.length-u.length:Nat):Int))]
 |none=>∃(c:List UInt8) (d:AV),LK.sl.has d/\r=.cQ [.agg [.v (.string (mk c)),d],.v (.int .i64 (-1))]
theorem yT.ne(s:List UInt8)(x:Option (E×List UInt8)):∃r o,yT s x r o:=by
 cases x with
 |some q=>exact⟨_,_,rfl,rfl⟩
 |none=>exact⟨_,_,rfl,[],.v (.slice none 0 0),(bF).mpr trivial,rfl⟩
def jc(c:List UInt8)(d:AV):Ob:=.cells [.v (.string (mk c)),d]
theorem FH(s:List UInt8)(hs:s.length<=8000)(from_:Int)(c1 c2:List UInt8)(d1 d2:AV)(h1:LK.sl.has d1)(h2:LK.sl.has d2):∀(k i:Nat),i+k=s.length->C5 [.v (.string (mk s)),.v (.int .i64 (i:Int)),.v (.int .i64 from_)] [jc c1 d1,jc c2 d2]
 (kq 1 [.v (.string (mk s)),.v (.int .i64 ((i+((s.drop i).takeWhile dT).length:Nat):Int)),.v (.int .i64 from_)] [jc c1 d1,jc c2 d2])
 |
  0,i,hi=>by
  refine GF _ _ _ _ _ _ _ ?_
  have hd:s.drop i=[]:=a8 (by omega)
  simp only[Bb,↓zq,zs,ah,zt]
  exact⟨h1,h2,fun h=>by omega,fun _=>by simp[kq,hd,jc]⟩
 |
  k+1,i,hi=>by
  have hlt:i<s.length:=by omega
  refine GF _ _ _ _ _ _ _ ?_
  simp only[Bb,↓zq,zs,ah,zt,ke s i hlt]
  refine⟨h1,h2,fun _=>⟨by omega,?_⟩,fun h=>by omega⟩
  refine al (Ia _) ?_
  simp only[↓zq,zs,ah]
  refine⟨fun hb=>?_,fun hb=>?_⟩
  ·rw[bW i (by omega)]
   have:=FH s hs from_ c1 c2 d1 d2 h1 h2 k (i+1) (by omega)
   rw[uV hlt hb,show i+(((s.drop (i+1)).takeWhile dT).length+1)=i+1+((s.drop (i+1)).takeWhile dT).length by omega]
   exact this
  ·simp[kq,oj hlt hb,jc]
def Js(s:List UInt8)(x:Option (E×List UInt8)):Nat->List AV->List Ob->Prop:=fun t ys o=>t=2 /\
 match x with
 |some (e,u)=>∃l,e=.list l/\ys=[.v (.int .i64 ((s.length-u.length:Nat):Int))]/\o=[jc [] .any,.vec 2 (E.a7 l)]
 |none=>∃es,ys=[.v (.int .i64 (-1))]/\o=[jc [] .any,.vec 2 es]
theorem vo(e:E):(e.ja=.agg e.ja.cs/\e.ja.cs.length=2/\bT [.str,.sl] e.ja.cs 0)=True:=by
 apply eq_true
 cases e<;>simp[E.ja,E.gn,xI,bT,dU,bF,cG]
theorem tf(e:E):[AV.v (.string ((e.ja.cs.getD 0 .any).toStr)),e.ja.cs.getD 1 .any]=e.gn:=by
 cases e<;>rfl
theorem drop_cons{s:List UInt8}{j:Nat}(hj:j<s.length):s.drop j=s.getD j 0::s.drop (j+1):=by
 rw[aN hj];simp[aa,hj]
theorem FM(s:List UInt8)(hs:s.length<=8000)(d:Nat)(hd:d<=300)(f:List UInt8->Option (E×List UInt8))(hf:∀u e r,f u=some (e,r)->∃j,r=u.drop j/\0<j/\j<=u.length)
 (ih:∀j,j<=s.length->ay Tryz.prog 59 [.v (.string (mk s)),.v (.int .i64 (j:Int)),.v (.int .i64 ((d+1:Nat):Int))] [] (yT s (f (s.drop j)))) :
 ∀(n i:Nat) (acc:List E) (c1:List UInt8) (d1:AV),LK.sl.has d1->s.length-(i+1)<n->i<s.length->s.length-i+acc.length<=8001->Bk [.v (.string (mk s)),.v (.int .i64 (i:Int)),.v (.int .i64 (d:Int))] [jc c1 d1,jc [] .any,.vec 2 (E.a7 acc)]
  (Js s (pH f n (s.drop (i+1)) acc))
 |0,i,acc,c1,d1,h1,hn,_,_=>by omega
 |
  n+1,i,acc,c1,d1,h1,hn,hi,hl=>by
  refine IQ _ _ _ _ _ _ _ ?_
  simp only[Eh,↓zq,zs,ah,jc]
  refine⟨h1,?_⟩
  rw[bW i (by omega),bW d (by omega)]
  refine dN (ih (i+1) (by omega)) (yT.ne _ _) ?_
  rintro r o ⟨rfl,hr⟩
  have hff:=hf (s.drop (i+1))
  unfold pH
  cases hq:f (s.drop (i+1))with
  |
   none =>
   rw[hq]at hr
   obtain⟨c,d',hd',rfl⟩:=hr
   simp only[↓zq,zs,ah,zt,bT]
   refine⟨hd',fun _=>⟨rfl,_,rfl,rfl⟩,fun h=>by omega⟩
  |
   some q =>
   obtain⟨e,u⟩:=q
   rw[hq]at hr
   subst hr
   obtain⟨j,hu,hj0,hj⟩:=hff e u hq
   rw[List.drop_drop]at hu
   simp only[bh]at hj
   have hul:u.length=s.length-(i+1+j):=by rw[hu,bh]
   have hpos:s.length-u.length=i+1+j:=by omega
   simp only[↓zq,zs,ah,zt,vo,hpos,tf,dP]
   refine⟨fun h=>by omega,fun _=>⟨fun h=>?_,fun h=>⟨⟨fun c hc=>(by simp at hc;rw[hc];cases e<;>rfl),by omega⟩,?_⟩⟩⟩
   ·have:u=[]:=by rw[hu];exact a8 (by omega)
    subst this
    exact⟨rfl,_,rfl,rfl⟩
   ·have hlt:i+1+j<s.length:=by omega
    rw[drop_cons hlt]at hu
    subst hu
    rw[ke s _ hlt]
    generalize hb:s.getD (i+1+j) 0=b
    refine⟨by omega,fun h41=>?_,fun h41=>⟨by omega,fun h32=>?_,fun h32=>?_⟩⟩
    ·have h41':b.toNat=41:=by omega
     dsimp only
     rw[if_pos h41',bW _ (by omega)]
     refine⟨rfl,acc++[e],rfl,?_,?_⟩
     ·rw[bh];congr 3;omega
     ·simp[jc,nT,E.a7]
    ·have h41':¬b.toNat=41:=by omega
     have h32':¬b.toNat=32:=by omega
     dsimp only
     rw[if_neg h41',if_neg h32']
     exact⟨rfl,_,rfl,rfl⟩
    ·have h41':¬b.toNat=41:=by omega
     have h32':b.toNat=32:=by omega
     dsimp only
     rw[if_neg h41',if_pos h32']
     have:=FM s hs d hd f hf ih n (i+1+j) (acc++[e]) c1 d1 h1 (by omega) hlt (by simp;omega)
     simpa[jc,nT,E.a7]using this
theorem yW(k:Nat)(u:List UInt8)(e:E)(r:List UInt8)(h:rd k u=some (e,r)):∃j,r=u.drop j/\0<j/\j<=u.length:=by
 have suf:∀(k:Nat) (u:List UInt8) (e:E) (r:List UInt8),rd k u=some (e,r)->r <:+ u:=by
  intro k
  have tw:∀u:List UInt8,u.dropWhile dT <:+ u:=fun u=>List.dropWhile_suffix _
  have ll:∀(f:List UInt8->Option (E×List UInt8)),(∀u e r,f u=some (e,r)->r <:+ u)->∀(n:Nat) (u:List UInt8) (acc:List E) (e:E) (r:List UInt8),pH f n u acc=some (e,r)->r <:+ u:=by
   intro f hf n
   induction n with
   |zero=>intro u acc e r h;cases h
   |
    succ n ih =>
    intro u acc e r h
    simp only[pH]at h
    split at h
    ·rename_i p c r' hs
     have h1:r' <:+ u:=(List.suffix_cons c r').trans (hf _ _ _ hs)
     split at h
     ·cases h;exact h1
     ·split at h
      ·exact(ih _ _ _ _ h).trans h1
      ·cases h
    ·cases h
  induction k with
  |
   zero =>
   intro u e r h
   simp only[rd]at h
   split at h
   ·cases h
   ·cases h;exact tw u
  |
   succ k ih =>
   intro u e r h
   simp only[rd]at h
   split at h
   ·split at h
    ·split at h
     ·exact(ll _ ih _ _ _ _ _ h).trans (List.suffix_cons _ _)
     ·cases h
    ·cases h
   ·cases h;exact tw u
 obtain⟨p,hp⟩:=suf k u e r h
 have hlt:=uU k u e r h
 have:=congrArg dR hp
 simp only[aq]at this
 exact⟨p.length,by rw[<-hp];simp,by omega,by omega⟩
theorem wU(n:Nat)(u:List UInt8)(acc:List E):pH (fun _=>none) n u acc=none:=by
 cases n<;>rfl
theorem H0(s:List UInt8)(j:Nat):ay Tryz.prog 59 [.v (.string (mk s)),.v (.int .i64 (j:Int)),.v (.int .i64 ((300+1:Nat):Int))] [] (yT s none):=by
 refine DW _ _ _ ?_
 simp only[Da,↓zq,zs,ah]
 exact⟨fun _=>⟨rfl,[],_,(bF).mpr trivial,rfl⟩,fun h=>by omega⟩
theorem nU(s:List UInt8)(hs:s.length<=8000)(d i:Nat)(hd:d<=300)(hi:i<=s.length)(f:List UInt8->Option (E×List UInt8))(hf:∀u e r,f u=some (e,r)->∃j,r=u.drop j/\0<j/\j<=u.length)
 (ih:∀j,j<=s.length->ay Tryz.prog 59 [.v (.string (mk s)),.v (.int .i64 (j:Int)),.v (.int .i64 ((d+1:Nat):Int))] [] (yT s (f (s.drop j)))) (x:Option (E×List UInt8))
 (h0:i=s.length->x=none)
 (h1:i<s.length->(s.drop i).takeWhile dT≠[]->x=some (.atom ((s.drop i).takeWhile dT),(s.drop i).dropWhile dT))
 (h2:i<s.length->(s.drop i).takeWhile dT=[]->¬(s.getD i 0).toNat=40->x=none)
 (h3:i<s.length->(s.getD i 0).toNat=40->x=pH f (s.length-(i+1)+1) (s.drop (i+1)) []) :
 ay Tryz.prog 59 [.v (.string (mk s)),.v (.int .i64 (i:Int)),.v (.int .i64 (d:Int))] [] (yT s x):=by
 refine DW _ _ _ ?_
 simp only[Da,↓zq,zs,ah,zt]
 refine⟨fun h=>by omega,fun _=>⟨fun h=>?_,fun h=>⟨by omega,?_⟩⟩⟩
 ·rw[h0 (by omega)]
  exact⟨rfl,[],_,(bF).mpr trivial,rfl⟩
 ·have hlt:i<s.length:=by omega
  rw[ke s i hlt]
  refine⟨fun h40=>?_,fun h40=>?_⟩
  ·have h40':¬(s.getD i 0).toNat=40:=by omega
   refine df (FH s hs _ [] [] _ _ ((bF).mpr trivial) ((bF).mpr trivial) (s.length-i) i (by omega)) ?_
   have hex:(List.take (i+((s.drop i).takeWhile dT).length) s).drop i=(s.drop i).takeWhile dT:=by
    rw[List.drop_take,Nat.add_sub_cancel_left];exact rB _
   have hle:i+((s.drop i).takeWhile dT).length<=s.length:=by
    have:=qU (s.drop i);simp only[bh]at this;omega
   simp only[jc,↓zq,zs,ah,zt,hex]
   refine⟨by omega,fun hnil=>?_,fun hnil=>?_⟩
   ·rw[h2 hlt hnil h40',hnil]
    exact⟨rfl,[],_,(bF).mpr trivial,rfl⟩
   ·rw[h1 hlt hnil]
    refine⟨rfl,?_⟩
    have:=qU (s.drop i)
    simp only[bh]at this
    show _=AV.cQ [E.ja (.atom _),_]
    have e:s.length-((s.drop i).dropWhile dT).length=i+((s.drop i).takeWhile dT).length:=by omega
    rw[e];rfl
  ·have h40':(s.getD i 0).toNat=40:=by omega
   rw[h3 hlt h40']
   refine mS (FM s hs d hd f hf ih (s.length-(i+1)+1) i [] [] _ ((bF).mpr trivial) (by omega) hlt (by simp;omega)) ?_ ?_
   ·rintro ys o ⟨h,_⟩;cases h
   ·rintro ys o ⟨_,hr⟩
    cases hq:pH f (s.length-(i+1)+1) (s.drop (i+1)) []with
    |
     none =>
     rw[hq]at hr
     obtain⟨es,rfl,rfl⟩:=hr
     simp only[jc,↓zq,zs,ah]
     exact⟨rfl,[],_,(cG _).mpr trivial,rfl⟩
    |
     some q =>
     obtain⟨e,u⟩:=q
     rw[hq]at hr
     obtain⟨l,rfl,rfl,rfl⟩:=hr
     simp only[jc,↓zq,zs,ah]
     exact⟨rfl,rfl⟩
theorem Hv(s:List UInt8)(hs:s.length<=8000):∀(k:Nat),k<=300->∀i,i<=s.length->ay Tryz.prog 59 [.v (.string (mk s)),.v (.int .i64 (i:Int)),.v (.int .i64 ((300-k:Nat):Int))] [] (yT s (rd k (s.drop i))):=by
 intro k
 have hnil:∀k,rd k []=none:=fun k=>by cases k<;>simp[rd]
 have ha40:∀b:UInt8,b.toNat=40->dT b=false:=fun b hb=>by simp[dT,hb]
 induction k with
 |
  zero =>
  intro hk i hi
  refine nU s hs 300 i (by omega) hi (fun _=>none) (fun _ _ _ h=>by cases h) (fun j _=>H0 s j) _ (fun h=>?_) (fun hlt h=>?_) (fun hlt h h40=>?_) (fun hlt h40=>?_)
  ·rw[a8 (by omega)];exact hnil 0
  ·simp only[rd,if_neg h]
  ·simp only[rd,if_pos h]
  ·rw[wU]
   have:(s.drop i).takeWhile dT=[]:=oj hlt (ha40 _ h40)
   simp only[rd,if_pos this]
 |
  succ k ih =>
  intro hk i hi
  have hd:300-(k+1)+1=300-k:=by omega
  refine nU s hs (300-(k+1)) i (by omega) hi (rd k) (yW k) (fun j hj=>by rw[hd];exact ih (by omega) j hj) _ (fun h=>?_) (fun hlt h=>?_) (fun hlt h h40=>?_) (fun hlt h40=>?_)
  ·rw[a8 (by omega)];exact hnil _
  ·simp only[rd,if_neg h]
  ·rw[drop_cons hlt]at h |-
   simp only[rd,if_pos h,if_neg h40]
  ·have h:=oj hlt (ha40 _ h40)
   rw[drop_cons hlt]at h |-
   simp only[rd,if_pos h,if_pos h40,bh]
end Go.Proofs.Trees
namespace Go.Proofs.Trees
open Go Go.VL
theorem gq(e:E):AV.agg [.v (.string ((e.gn.getD 0 .any).toStr)),e.gn.getD 1 .any]=e.ja:=by cases e<;>rfl
theorem fb(e:E):e.gn.length=2:=by cases e<;>rfl
theorem gu(e:E):bT [.str,.sl] e.gn 0=True:=by
 apply eq_true
 cases e<;>simp[E.gn,bT,dU,bF,cG]
theorem kF(e:E):e.gn.headD .any=.v (.string (mk e.at)):=by cases e<;>rfl
theorem rL(x:E)(l:List E):ay Tryz.prog 29 [.agg [.v (.string (mk [])),.sl (E.a7 (x::l))]] [] (bK (.v (.string (mk x.at)))):=by
 refine Bm _ _ ((cG _).mpr trivial) ?_
 simp only[yU,E.a7,↓zq,zs,ah,zt,bK,fb,kF,an]
 refine⟨fun h=>absurd rfl h,fun _=>⟨fun h=>by omega,fun _=>⟨by omega,by omega⟩⟩⟩
theorem II:ay Tryz.prog 29 [.agg [.v (.string (mk [])),.sl (E.a7 [])]] [] (bK (.v (.string (mk [])))):=by
 refine Bm _ _ ((cG _).mpr trivial) ?_
 simp only[yU,E.a7,↓zq,zs,ah,zt,bK,fb,kF,an]
 simp
def iO:E->Bool
 | .atom s=>(s==[48])||(s==[49])||fC s||cC s
 | .list [x,a,b]=>if x.at=[43]then iO a&&iO b else if x.at=[42]then iO a&&iO b else if x.at=[114,101,99]then cC a.at&&iO b else false
 | .list _=>false
theorem Dx:∀(e:E),e.ok->ay Tryz.prog 73 [e.ja] [] (bK (.v (.bool (iO e))))
 |
  .atom s,hok=>by
  refine D6 _ _ ((bF).mpr trivial) ?_
  have hne:s≠[]:=hok
  simp only[Cj,↓zq,zs,ah,zt,bK,iO]
  refine⟨fun _=>⟨fun h=>?_,fun h=>⟨fun h1=>?_,fun h1=>?_⟩⟩,fun h=>absurd h hne⟩
  ·simp[h]
  ·simp[h1]
  ·refine al (BE s) ?_
   simp only[↓zq,zs,ah]
   refine⟨fun hp=>?_,fun hp=>?_⟩
   ·simp[hp]
   ·refine al (BY s) ?_
    simp[↓zq,zs,ah,hp,h,h1]
 |
  .list l,hok=>by
  refine D6 _ _ ((cG _).mpr trivial) ?_
  match l,hok with
  |[],hok=>simp[Cj,E.a7,↓zq,zs,ah,zt,bK,iO]
  |[x],hok=>simp[Cj,E.a7,↓zq,zs,ah,zt,bK,iO]
  |[x,y],hok=>simp[Cj,E.a7,↓zq,zs,ah,zt,bK,iO]
  |
   x::y::z::w::l,hok =>
   simp only[Cj,E.a7,↓zq,zs,ah,zt,bK,iO]
   exact⟨fun h=>absurd rfl h,fun _=>⟨fun _=>trivial,fun h=>by omega⟩⟩
  |
   [x,y,z],hok =>
   obtain⟨ok1,ok2,ok3,_⟩:=hok
   simp only[Cj,↓zq,zs,ah,zt,bK]
   refine⟨fun h=>absurd rfl h,fun _=>⟨fun h=>absurd rfl h,fun _=>?_⟩⟩
   refine al (rL x _) ?_
   simp only[E.a7,toNat_one,bG,↓zq,zs,ah,zt,gq,fb,gu,kF,an,iO]
   refine⟨fun h=>?_,fun h=>⟨fun h1=>?_,fun h1=>⟨fun h2=>?_,fun h2=>?_⟩⟩⟩
   ·rw[if_pos h]
    refine⟨by omega,al (Dx y ok2) ?_⟩
    simp only[↓zq,zs,ah]
    refine⟨fun hy=>⟨by omega,al (Dx z ok3) ?_⟩,fun hy=>?_⟩
    ·simp only[↓zq,zs,ah,hy,bI]
    ·rw[hy];rfl
   ·rw[if_neg h,if_pos h1]
    refine⟨by omega,al (Dx y ok2) ?_⟩
    simp only[↓zq,zs,ah]
    refine⟨fun hy=>⟨by omega,al (Dx z ok3) ?_⟩,fun hy=>?_⟩
    ·simp only[↓zq,zs,ah,hy,bI]
    ·rw[hy];rfl
   ·rw[if_neg h,if_neg h1,if_pos h2]
    refine⟨by omega,by omega,al (BY _) ?_⟩
    simp only[↓zq,zs,ah]
    refine⟨fun hy=>⟨by omega,al (Dx z ok3) ?_⟩,fun hy=>?_⟩
    ·simp only[↓zq,zs,ah,hy,bI]
    ·rw[hy];rfl
   ·rw[if_neg h,if_neg h1,if_neg h2]
theorem il:∀(e:E) (ar:List (List UInt8)),(cf e ar).isSome=iO e
 |
  .atom s,ar=>by
  simp only[cf,iO]
  by_cases h:s=[48]
  ·simp[h]
  ·by_cases h1:s=[49]
   ·simp[h1]
   ·rw[if_neg h,if_neg h1]
    by_cases h2:fC s=true
    ·simp[h2]
    ·rw[if_neg h2]
     by_cases h3:cC s=true
     ·rw[if_pos h3];cases bR s ar ar.length<;>simp[h3]
     ·rw[if_neg h3];simp[h,h1,h2,h3]
 | .list [],_=>rfl
 | .list [_],_=>rfl
 | .list [_,_],_=>rfl
 | .list (_::_::_::_::_),_=>rfl
 |
  .list [x,a,b],ar=>by
  have ha:=il a ar
  have hb:=il b ar
  have hb2:=il b (ar++[a.at])
  rw[iO]
  by_cases h:x.at=[43]
  ·rw[jA ar h,if_pos h,<-ha,<-hb];cases cf a ar<;>cases cf b ar<;>rfl
  ·by_cases h1:x.at=[42]
   ·rw[iR ar h1,if_neg h,if_pos h1,<-ha,<-hb];cases cf a ar<;>cases cf b ar<;>rfl
   ·by_cases h2:x.at=[114,101,99]
    ·rw[ko ar h2,if_neg h,if_neg h1,if_pos h2,<-hb2]
     cases cC a.at<;>cases cf b (ar++[a.at])<;>rfl
    ·rw[gC ar h h1 h2,if_neg h,if_neg h1,if_neg h2];rfl
mutual
def E.jE:E->Nat
 | .atom _=>1
 | .list l=>E.iT l
def E.iT:List E->Nat
 |[]=>0
 |e::l=>e.jE+E.iT l
end
mutual
theorem yq:∀e:E,e.jE<=e.sz
 | .atom s=>by simp[E.jE,E.sz]
 | .list l=>by have:=qJ l;simp only[E.jE,E.sz];omega
theorem qJ:∀l:List E,E.iT l<=E.jF l
 |[]=>by simp[E.iT,E.jF]
 |e::l=>by have:=yq e;have:=qJ l;simp only[E.iT,E.jF];omega
end
theorem ia:∀(l:List E) (i:Nat) (h:i<l.length),(E.a7 l).getD i []=(l[i]).gn
 |e::l,0,_=>rfl
 |
  e::l,i+1,h=>by
  have:=ia l i (by simpa using h)
  simp only[E.a7,cF,List.getElem_cons_succ];exact this
theorem vZ:∀(l:List E) (i:Nat) (h:i<l.length),E.iT (l.drop i)=(l[i]).jE+E.iT (l.drop (i+1)):=by
 intro l i h
 rw[aN h];rfl
theorem qO:∀(l:List E) (i:Nat) (h:i<l.length),E.zY l->(l[i]).ok
 |e::l,0,_,h=>h.1
 |e::l,i+1,hi,h=>qO l i (by simpa using hi) h.2
theorem DH(l:List E)(hl:E.iT l<1000000)(hll:l.length<1000000)(ih:∀i (h:i<l.length),ay Tryz.prog 63 [(l[i]).ja] [] (bK (.v (.int .i64 ((l[i]).jE:Int))))) :
 ∀(k i n:Nat),i+k=l.length->n+E.iT (l.drop i)<=E.iT l->BM [.v (.int .i64 (n:Int)),.v (.int .i64 (i:Int))] [.cells [.v (.string (mk [])),.sl (E.a7 l)]] (kq 1 [.v (.int .i64 ((n+E.iT (l.drop i):Nat):Int))] [])
 |
  0,i,n,hi,hn=>by
  refine GV _ _ _ _ ?_
  simp only[BF,↓zq,zs,ah,dP]
  have:l.drop i=[]:=a8 (by omega)
  refine⟨fun h=>by omega,fun _=>?_⟩
  simp[kq,this,E.iT]
 |
  k+1,i,n,hi,hn=>by
  have hlt:i<l.length:=by omega
  refine GV _ _ _ _ ?_
  simp only[BF,↓zq,zs,ah,zt,dP,ia l i hlt,fb,gu,gq,an]
  refine⟨fun _=>⟨by omega,?_⟩,fun h=>by omega⟩
  refine al (ih i hlt) ?_
  have h1:=vZ l i hlt
  simp only[↓zq,zs,ah]
  rw[bW i (by omega),wrap64 _ (by omega) (by omega)]
  have:=DH l hl hll ih k (i+1) (n+(l[i]).jE) (by omega) (by omega)
  rw[h1,<-dz]
  simpa using this
theorem qG:∀l:List E,l.length<=E.jF l
 |[]=>by simp[E.jF]
 |
  e::l=>by
  have:=qG l
  have:1<=e.sz:=by cases e<;>simp[E.sz]
  simp only[E.jF,aw];omega
theorem rl:∀(l:List E) (i:Nat) (h:i<l.length),(l[i]).sz<=E.jF l
 |e::l,0,_=>by simp[E.jF]
 |e::l,i+1,h=>by have:=rl l i (by simpa using h);simp only[E.jF,List.getElem_cons_succ];omega
theorem Gh:∀(n:Nat) (e:E),e.sz<n->e.ok->e.sz<1000000->ay Tryz.prog 63 [e.ja] [] (bK (.v (.int .i64 (e.jE:Int))))
 |0,e,hn,_,_=>by omega
 |
  n+1,.atom s,hn,hok,hl=>by
  refine D5 _ _ ((bF).mpr trivial) ?_
  have hne:s≠[]:=hok
  simp only[Ca,↓zq,zs,ah,zt,bK]
  exact⟨fun _=>rfl,fun h=>absurd h hne⟩
 |
  n+1,.list l,hn,hok,hl=>by
  refine D5 _ _ ((cG _).mpr trivial) ?_
  simp only[E.sz]at hn hl
  have h1:=qJ l
  have h2:=qG l
  simp only[Ca,↓zq,zs,ah,zt,bK]
  refine⟨fun h=>absurd rfl h,fun _=>?_⟩
  refine df (DH l (by omega) (by omega) (fun i hi=>?_) l.length 0 0 (by omega) (by simp)) ?_
  ·have:=rl l i hi
   exact Gh n (l[i]) (by omega) (qO l i hi hok) (by omega)
  ·simp[↓zq,zs,ah,E.jE]
theorem HS(e:E)(h:e.ok)(hl:e.sz<1000000):ay Tryz.prog 63 [e.ja] [] (bK (.v (.int .i64 (e.jE:Int)))):=Gh (e.sz+1) e (by omega) h hl
theorem qS{x:E}(h:x.at≠[]):x.jE=1:=by cases x<;>simp[E.at,E.jE]at h |-
theorem xB{s:List UInt8}(h:cC s=true):s≠[]:=by rintro rfl;cases h
theorem iF:∀(e:E) (ar:List (List UInt8)) (t:Ty),cf e ar=some t->e.jE=t.atoms
 |
  .atom s,ar,t,h=>by
  simp only[cf]at h
  simp only[E.jE]
  split at h
  ·cases h;rfl
  ·split at h
   ·cases h;rfl
   ·split at h
    ·cases h;rfl
    ·split at h
     ·split at h<;>cases h<;>rfl
     ·cases h
 | .list [],_,_,h=>by cases h
 | .list [_],_,_,h=>by cases h
 | .list [_,_],_,_,h=>by cases h
 | .list (_::_::_::_::_),_,_,h=>by cases h
 |
  .list [x,a,b],ar,t,h=>by
  simp only[E.jE,E.iT]
  by_cases h0:x.at=[43]
  ·rw[jA ar h0]at h
   have:=qS (x:=x) (by rw[h0];simp)
   split at h
   ·rename_i t1 t2 e1 e2
    cases h
    have:=iF a ar _ e1
    have:=iF b ar _ e2
    simp only[Ty.atoms];omega
   ·cases h
  ·by_cases h1:x.at=[42]
   ·rw[iR ar h1]at h
    have:=qS (x:=x) (by rw[h1];simp)
    split at h
    ·rename_i t1 t2 e1 e2
     cases h
     have:=iF a ar _ e1
     have:=iF b ar _ e2
     simp only[Ty.atoms];omega
    ·cases h
   ·by_cases h2:x.at=[114,101,99]
    ·rw[ko ar h2]at h
     have:=qS (x:=x) (by rw[h2];simp)
     split at h
     ·rename_i hl
      have:=qS (xB hl)
      split at h
      ·rename_i t1 e1
       cases h
       have:=iF b _ _ e1
       simp only[Ty.atoms];omega
      ·cases h
     ·cases h
    ·rw[gC ar h0 h1 h2]at h;cases h
def kG(x:Option E)(b:Bool):AV->List Ob->Prop:=fun r o=>∃c:List UInt8,∃d:AV,LK.sl.has d/\r=.cQ [.agg [.v (.string (mk c)),d],.v (.bool b)]/\(b=true->∃e,x=some e/\AV.agg [.v (.string (mk c)),d]=e.ja)
theorem xd(e:E):∃c:List UInt8,∃d:AV,LK.sl.has d/\e.ja=AV.agg [.v (.string (mk c)),d]:=by
 cases e with
 |atom s=>exact⟨s,_,(bF).mpr trivial,rfl⟩
 |list l=>exact⟨[],_,(cG _).mpr trivial,rfl⟩
theorem kG.ne(x:Option E)(b:Bool)(h:b=true->x.isSome=true):∃r o,kG x b r o:=by
 cases b with
 |false=>exact⟨_,[],[],.v (.slice none 0 0),(bF).mpr trivial,rfl,fun h=>by cases h⟩
 |
  true =>
  cases x with
  |none=>cases h rfl
  |
   some e =>
   obtain⟨c,d,hd,he⟩:=xd e
   exact⟨_,[],c,d,hd,rfl,fun _=>⟨e,rfl,he.symm⟩⟩
theorem EW(s:List UInt8):ay Tryz.prog 32 [.v (.string (mk s))] [] (kG (ov s) (ov s).isSome):=by
 refine HG _ ?_
 simp only[EY,↓zq,zs,ah,zt,ov]
 refine⟨fun h=>?_,fun h=>?_⟩
 ·rw[if_pos (by omega)]
  exact⟨[],_,(bF).mpr trivial,rfl,fun h=>by cases h⟩
 ·rw[if_neg (by omega)]
  refine dN (Hv s (by omega) 300 (by omega) 0 (by omega)) (yT.ne _ _) ?_
  rintro r o ⟨rfl,hr⟩
  rw[bw]at hr
  cases hq:rd 300 s with
  |
   none =>
   rw[hq]at hr
   obtain⟨c,d,hd,rfl⟩:=hr
   simp only[↓zq,zs,ah,zt,bT]
   refine⟨hd,c,d,hd,?_,fun h=>by cases h⟩
   have:((-1:Int)==(s.length:Int))=false:=by
    rw[beq_eq_false_iff_ne];omega
   rw[this];rfl
  |
   some q =>
   obtain⟨e,u⟩:=q
   rw[hq]at hr
   subst hr
   have hlt:=uU _ _ _ _ hq
   obtain⟨c,d,hd,he⟩:=xd e
   simp only[he,↓zq,zs,ah,zt,bT]
   cases u with
   |
    nil =>
    refine⟨hd,c,d,hd,?_,fun _=>⟨e,rfl,he.symm⟩⟩
    simp
   |
    cons b u =>
    simp only[aw]at hlt |-
    refine⟨hd,c,d,hd,?_,fun h=>by cases h⟩
    have:(((s.length-(u.length+1):Nat):Int)==(s.length:Int))=false:=by simp;omega
    rw[this];rfl
def ve(s:List UInt8):Option E:=match ov s with
 |none=>none
 |some e=>if iO e=true/\e.jE<=400 then some e else none
theorem IL(s:List UInt8):ay Tryz.prog 52 [.v (.string (mk s))] [] (kG (ve s) (ve s).isSome):=by
 refine HU _ ?_
 unfold DJ
 refine dN (EW s) (kG.ne _ _ (fun h=>h)) ?_
 rintro r o ⟨c,d,hd,rfl,hh⟩
 simp only[↓zq,zs,ah,zt,bT,ve]
 refine⟨hd,fun h=>?_,fun h=>?_⟩
 ·obtain⟨e,he,hce⟩:=hh h
  obtain⟨hok,hsz⟩:=lD he
  rw[he,hce]
  refine al (Dx e hok) ?_
  simp only[↓zq,zs,ah]
  refine⟨fun hi=>?_,fun hi=>?_⟩
  ·refine al (HS e hok (by omega)) ?_
   simp only[↓zq,zs,ah,hi]
   refine⟨c,d,hd,?_,?_⟩
   ·rw[hce]
    by_cases h4:e.jE<=400
    ·rw[if_pos h4];exact congrArg (fun b=>AV.cQ [e.ja,.v (.bool b)]) (decide_eq_true (show ((e.jE:Nat):Int)<=400 by omega))
    ·rw[if_neg h4];exact congrArg (fun b=>AV.cQ [e.ja,.v (.bool b)]) (decide_eq_false (show ¬((e.jE:Nat):Int)<=400 by omega))
   ·split
    ·exact fun _=>⟨e,rfl,hce⟩
    ·exact fun h=>by cases h
  ·refine⟨c,d,hd,?_,?_⟩
   ·rw[hce,if_neg (by rw[hi];simp)];rfl
   ·rw[if_neg (by rw[hi];simp)];exact fun h=>by cases h
 ·have hn:ov s=none:=by cases hq:ov s<;>simp[hq]at h |-
  rw[hn]
  exact⟨c,d,hd,rfl,fun h=>by cases h⟩
theorem oM{s:List UInt8}{e:E}(h:ve s=some e):ov s=some e/\iO e=true/\e.jE<=400:=by
 unfold ve at h
 split at h
 ·cases h
 ·split at h
  ·rename_i e' h1 h2;cases h;exact⟨h1,h2⟩
  ·cases h
end Go.Proofs.Trees
namespace Go.Proofs.Trees
open Go Go.VL
def bL:Ty->Bool
 | .name s=>cC s
 | .plus a b=>bL a||bL b
 | .times a b=>bL a||bL b
 | .rc a=>bL a
 |_=>false
theorem fD:∀(t:Ty) (out:List (List UInt8)),(bn t out).any cC=(out.any cC||bL t)
 |
  .name s,out=>by
  simp only[bn,nG,bL]
  split
  ·rename_i h
   cases hs:cC s with
   |false=>simp
   |true=>rw[Bool.or_true,bB];exact⟨s,h,hs⟩
  ·simp
 | .plus a b,out=>by simp only[bn,bL,fD a,fD b,Bool.or_assoc]
 | .times a b,out=>by simp only[bn,bL,fD a,fD b,Bool.or_assoc]
 | .rc a,out=>by simp only[bn,bL,fD a]
 | .zero,out=>by simp[bn,bL]
 | .one,out=>by simp[bn,bL]
 | .bound u,out=>by simp[bn,bL]
theorem wC(t:Ty):t.closed = !bL t:=by simp[Ty.closed,fD]
def pl:Ty->Bool
 | .name s=>decide (s.length<=1)
 | .plus a b=>pl a&&pl b
 | .times a b=>pl a&&pl b
 | .rc a=>false
 |_=>true
theorem jG{lo hi:Nat}{s:List UInt8}(h:named lo hi s=true):∃c r,s=c::r/\lo<=c.toNat/\c.toNat<=hi:=by
 cases s with
 |nil=>cases h
 |cons c r=>simp only[named,ai,decide_eq_true_eq]at h;exact⟨c,r,rfl,by omega,by omega⟩
theorem ep{x a b:E}{ar:List (List UInt8)}{t:Ty}(hx:x.at=[43])(h:cf (.list [x,a,b]) ar=some t):∃t1 t2,cf a ar=some t1/\cf b ar=some t2/\t=.plus t1 t2:=by
 rw[jA ar hx]at h
 split at h
 ·rename_i t1 t2 e1 e2;cases h;exact⟨t1,t2,e1,e2,rfl⟩
 ·cases h
theorem dW{x a b:E}{ar:List (List UInt8)}{t:Ty}(hx:x.at=[42])(h:cf (.list [x,a,b]) ar=some t):∃t1 t2,cf a ar=some t1/\cf b ar=some t2/\t=.times t1 t2:=by
 rw[iR ar hx]at h
 split at h
 ·rename_i t1 t2 e1 e2;cases h;exact⟨t1,t2,e1,e2,rfl⟩
 ·cases h
theorem cI{x a b:E}{ar:List (List UInt8)}{t:Ty}(hx:x.at=[114,101,99])(h:cf (.list [x,a,b]) ar=some t):∃t1,cC a.at=true/\cf b (ar++[a.at])=some t1/\t=.rc t1:=by
 rw[ko ar hx]at h
 split at h
 ·rename_i hl
  split at h
  ·rename_i t1 e1;cases h;exact⟨t1,hl,e1,rfl⟩
  ·cases h
 ·cases h
theorem tR{s:List UInt8}:sZ s=match ve s with|none=>none|some e=>cf e []:=by
 unfold sZ ve
 cases he:ov s with
 |none=>rfl
 |
  some e =>
  have hs:=il e []
  simp only
  cases ht:cf e []with
  |
   none =>
   rw[ht]at hs
   rw[if_neg (by rw[<-hs];simp)]
  |
   some t =>
   rw[ht]at hs
   have ha:=iF e [] t ht
   by_cases h4:e.jE<=400
   ·rw[if_pos ⟨hs.symm,h4⟩];dsimp only;rw[if_neg (by omega)];exact ht.symm
   ·rw[if_neg (fun h=>h4 h.2)];dsimp only;rw[if_pos (by omega)]
end Go.Proofs.Trees
namespace Go.Proofs.Trees
open Go Go.VL
def pure:Ty->Bool
 | .zero=>true
 | .one=>true
 | .name s=>(s==[120])||(s==[121])||(s==[122])
 | .plus a b=>pure a&&pure b
 | .times a b=>pure a&&pure b
 |_=>false
def EM(v:Nat):Option Nat:=if v<=1000000000 then some v else none
def Dy(n:Nat):Ty->Option Nat
 | .zero=>some 0
 | .one=>some 1
 | .name _=>some n
 | .plus a b=>match Dy n a,Dy n b with|some x,some y=>EM (x+y)|_,_=>none
 | .times a b=>match Dy n a,Dy n b with|some x,some y=>EM (x*y)|_,_=>none
 |_=>none
def DP(x:Option Nat):AV->List Ob->Prop:=fun r o=>∃v:Int,r=.cQ [.v (.int .i64 v),.v (.bool x.isSome)]/\∀c,x=some c->v=(c:Int)
theorem DP.ne(x:Option Nat):∃r o,DP x r o:=by
 cases x with
 |none=>exact⟨_,[],0,rfl,fun c h=>by cases h⟩
 |some c=>exact⟨_,[],(c:Int),rfl,fun c' h=>by cases h;rfl⟩
end Go.Proofs.Trees
namespace Go.Proofs.Trees
open Go Go.VL Go.RowKit
abbrev dd(n:Nat):List UInt8:=Lib.decDigits n
theorem eJ{k:Nat}(h:k<10):dd k=[aU (48+k)]:=by rw[dd,Lib.decDigits,dif_pos h]
theorem fj{k:Nat}(h:¬k<10):dd k=dd (k/10)++[aU (48+k%10)]:=by rw[dd,Lib.decDigits,dif_neg h]
theorem tq:∀(n k:Nat),k<n->(dd k).length<=k+1
 |0,k,h=>by omega
 |
  n+1,k,h=>by
  by_cases h1:k<10
  ·rw[eJ h1];simp
  ·rw[fj h1]
   have:=tq n (k/10) (by omega)
   simp only[aq,aw,aM];omega
theorem nH(b:UInt8):mC [[.v (.int .u8 (b.toNat:Int))]]:=⟨rfl,(uS _ _).mpr trivial,trivial⟩
theorem Bu(s:List UInt8)(d:AV)(hd:LK.sl.has d)(h:s≠[]):ay Tryz.prog 29 [.agg [.v (.string (mk s)),d]] [] (bK (.v (.string (mk [])))):=by
 refine Bm _ _ hd ?_
 simp only[yU,↓zq,zs,ah,zt,bK]
 exact⟨fun _=>trivial,fun h'=>absurd h' h⟩
theorem Aj(e:E):AV.agg [.v (.string ((e.ja.cs.getD 0 .any).toStr)),e.ja.cs.getD 1 .any]=e.ja:=by cases e<;>rfl
mutual
def fV:E->List UInt8
 | .atom s=>s
 | .list []=>[40,41]
 | .list (e::l)=>40::(fV e++(dH l++[41]))
def dH:List E->List UInt8
 |[]=>[]
 |e::l=>32::(fV e++dH l)
end
theorem wa:∀(l:List E) (i:Nat) (h:i<l.length),dH (l.drop i)=32::(fV l[i]++dH (l.drop (i+1))):=by
 intro l i h
 rw[aN h,dH]
theorem EK(l:List E)(hll:l.length<1000000000000)(ih:∀i (h:i<l.length),ay Tryz.prog 14 [(l[i]).ja] [] (bK (.v (.string (mk (fV l[i])))))) :
 ∀(k i:Nat) (out:List UInt8),i+k=l.length->1<=i->out.length+(dH (l.drop i)).length<=1000000000000->xA [.v (.string (mk out)),.v (.int .i64 (i:Int))] [.cells [.v (.string (mk [])),.sl (E.a7 l)]] (kq 1 [.v (.string (mk (out++dH (l.drop i))))] [])
 |
  0,i,out,hi,h1,hn=>by
  refine zE _ _ _ _ ?_
  simp only[wL,↓zq,zs,ah,dP]
  have:l.drop i=[]:=a8 (by omega)
  refine⟨fun h=>by omega,fun _=>?_⟩
  simp[kq,this,dH]
 |
  k+1,i,out,hi,h1,hn=>by
  have hlt:i<l.length:=by omega
  have hd:=wa l i hlt
  rw[hd]at hn
  simp only[aw,aq]at hn
  refine zE _ _ _ _ ?_
  simp only[wL,↓zq,zs,ah,zt,dP,ia l i hlt,fb,gu,gq,an]
  refine⟨fun _=>⟨fun _=>⟨by omega,by omega,?_⟩,fun h=>by omega⟩,fun h=>by omega⟩
  refine al (ih i hlt) ?_
  simp only[↓zq,zs,ah,zt]
  refine⟨by simp;omega,?_⟩
  rw[bW i (by omega),hd]
  have:=EK l hll ih k (i+1) (out++[32]++fV l[i]) (by omega) (by omega) (by simp;omega)
  simpa using this
theorem ud:∀(l:List E) (i:Nat) (h:i<l.length),(fV l[i]).length<=(dH l).length
 |e::l,0,_=>by simp only[dH,List.getElem_cons_zero,aw,aq];omega
 |e::l,i+1,h=>by have:=ud l i (by simpa using h);simp only[dH,List.getElem_cons_succ,aw,aq];omega
theorem oC:∀l:List E,l.length<=(dH l).length
 |[]=>by simp[dH]
 |e::l=>by have:=oC l;simp only[dH,aw,aq];omega
theorem B9:∀(n:Nat) (e:E),e.sz<n->e.ok->(fV e).length<=900000000000->ay Tryz.prog 14 [e.ja] [] (bK (.v (.string (mk (fV e)))))
 |0,e,hn,_,_=>by omega
 |
  n+1,.atom s,hn,hok,hl=>by
  refine Bf _ _ ((bF).mpr trivial) ?_
  have hne:s≠[]:=hok
  simp only[Aa,↓zq,zs,ah,zt,bK]
  exact⟨fun _=>rfl,fun h=>absurd h hne⟩
 |
  n+1,.list [],hn,hok,hl=>by
  refine Bf _ _ ((cG _).mpr trivial) ?_
  simp only[Aa,↓zq,zs,ah,zt,bK]
  refine⟨fun h=>absurd rfl h,fun _=>?_⟩
  have h1:xA [.v (.string (mk [40])),.v (.int .i64 0)] [.cells [.v (.string (mk [])),.sl (E.a7 [])]] (kq 1 [.v (.string (mk [40]))] []):=by
   refine zE _ _ _ _ ?_
   simp[wL,↓zq,zs,ah,E.a7,kq]
  refine df h1 ?_
  simp only[↓zq,zs,ah,zt]
  exact⟨by simp,rfl⟩
 |
  n+1,.list (x::l),hn,hok,hl=>by
  refine Bf _ _ ((cG _).mpr trivial) ?_
  simp only[E.sz,E.jF]at hn
  simp only[fV,aw,aq,aM]at hl
  have h2:=oC l
  simp only[Aa,↓zq,zs,ah,zt,bK]
  refine⟨fun h=>absurd rfl h,fun _=>?_⟩
  have hL:xA [.v (.string (mk [40])),.v (.int .i64 0)] [.cells [.v (.string (mk [])),.sl (E.a7 (x::l))]] (kq 1 [.v (.string (mk ([40]++fV x++dH l)))] []):=by
   refine zE _ _ _ _ ?_
   simp only[wL,E.a7,Int.toNat_zero,↓zq,zs,ah,zt,dP,fb,gu,gq,an]
   refine⟨fun _=>⟨fun h=>by omega,fun _=>⟨by omega,?_⟩⟩,fun h=>by omega⟩
   refine al (B9 n x (by omega) hok.1 (by omega)) ?_
   simp only[↓zq,zs,ah,zt]
   refine⟨by simp;omega,?_⟩
   have:=EK (x::l) (by simp;omega) (fun i hi=>by
    have h3:=rl (x::l) i hi
    simp only[E.jF]at h3
    refine B9 n _ (by omega) (qO _ i hi hok) ?_
    have h4:=ud (x::l) i hi
    simp only[dH,aw,aq]at h4
    omega) l.length 1 ([40]++fV x) (by simp;omega) (by omega) (by simp;omega)
   rw[show IntKind.wrap .i64 (0+1)=1 from rfl]
   simpa[E.a7]using this
  refine df hL ?_
  simp only[↓zq,zs,ah,zt]
  refine⟨by simp;omega,?_⟩
  simp[fV]
theorem EJ(e:E)(h:e.ok)(hl:(fV e).length<=900000):ay Tryz.prog 14 [e.ja] [] (bK (.v (.string (mk (fV e))))):=B9 (e.sz+1) e (by omega) h (by omega)
mutual
def E.nd:E->Nat
 | .atom _=>1
 | .list []=>1
 | .list (_::l)=>1+E.rG l
def E.rG:List E->Nat
 |[]=>0
 |e::l=>e.nd+E.rG l
end
mutual
theorem xZ:∀e:E,e.nd<=e.sz
 | .atom s=>by simp[E.nd,E.sz]
 | .list []=>by simp[E.nd,E.sz,E.jF]
 | .list (x::l)=>by have:=tH l;simp only[E.nd,E.sz,E.jF];omega
theorem tH:∀l:List E,E.rG l<=E.jF l
 |[]=>by simp[E.rG,E.jF]
 |e::l=>by have:=xZ e;have:=tH l;simp only[E.rG,E.jF];omega
end
theorem w8:∀(l:List E) (i:Nat) (h:i<l.length),E.rG (l.drop i)=(l[i]).nd+E.rG (l.drop (i+1)):=by
 intro l i h
 rw[aN h];rfl
theorem EH(l:List E)(hl:E.rG l<1000000)(hll:l.length<1000000)(ih:∀i (h:i<l.length),ay Tryz.prog 13 [(l[i]).ja] [] (bK (.v (.int .i64 ((l[i]).nd:Int))))) :
 ∀(k i n:Nat),i+k=l.length->n+E.rG (l.drop i)<=1+E.rG l->xW [.v (.int .i64 (n:Int)),.v (.int .i64 (i:Int))] [.cells [.v (.string (mk [])),.sl (E.a7 l)]] (kq 1 [.v (.int .i64 ((n+E.rG (l.drop i):Nat):Int))] [])
 |
  0,i,n,hi,hn=>by
  refine Aq _ _ _ _ ?_
  simp only[wS,↓zq,zs,ah,dP]
  have:l.drop i=[]:=a8 (by omega)
  refine⟨fun h=>by omega,fun _=>?_⟩
  simp[kq,this,E.rG]
 |
  k+1,i,n,hi,hn=>by
  have hlt:i<l.length:=by omega
  refine Aq _ _ _ _ ?_
  simp only[wS,↓zq,zs,ah,zt,dP,ia l i hlt,fb,gu,gq,an]
  refine⟨fun _=>⟨by omega,?_⟩,fun h=>by omega⟩
  refine al (ih i hlt) ?_
  have h1:=w8 l i hlt
  simp only[↓zq,zs,ah]
  rw[bW i (by omega),wrap64 _ (by omega) (by omega)]
  have:=EH l hl hll ih k (i+1) (n+(l[i]).nd) (by omega) (by omega)
  rw[h1,<-dz]
  simpa using this
theorem GY:∀(n:Nat) (e:E),e.sz<n->e.sz<900000->ay Tryz.prog 13 [e.ja] [] (bK (.v (.int .i64 (e.nd:Int))))
 |0,e,hn,_=>by omega
 |
  n+1,.atom s,hn,hl=>by
  refine Eo _ _ ((bF).mpr trivial) ?_
  simp only[Bw]
  have hL:xW [.v (.int .i64 1),.v (.int .i64 1)] [.cells [.v (.string (mk s)),.v (.slice none 0 0)]] (kq 1 [.v (.int .i64 1)] []):=by
   refine Aq _ _ _ _ ?_
   simp[wS,↓zq,zs,ah,kq]
  refine df hL ?_
  simp[↓zq,zs,ah,bK,E.nd]
 |
  n+1,.list l,hn,hl=>by
  refine Eo _ _ ((cG _).mpr trivial) ?_
  simp only[E.sz]at hn hl
  simp only[Bw]
  match l,hn,hl with
  |
   [],hn,hl =>
   have hL:xW [.v (.int .i64 1),.v (.int .i64 1)] [.cells [.v (.string (mk [])),.sl (E.a7 [])]] (kq 1 [.v (.int .i64 1)] []):=by
    refine Aq _ _ _ _ ?_
    simp[wS,↓zq,zs,ah,kq,E.a7]
   refine df hL ?_
   simp[↓zq,zs,ah,bK,E.nd]
  |
   x::l,hn,hl =>
   simp only[E.jF]at hn hl
   have h1:=tH l
   have h2:=qG l
   have h0:=xZ x
   refine df (EH (x::l) (by simp only[E.rG];omega) (by simp;omega) (fun i hi=>?_) l.length 1 1 (by simp;omega) (by simp[E.rG])) ?_
   ·have:=rl (x::l) i hi
    simp only[E.jF]at this
    exact GY n _ (by omega) (by omega)
   ·simp[↓zq,zs,ah,E.nd,bK]
theorem Gw(e:E)(hl:e.sz<900000):ay Tryz.prog 13 [e.ja] [] (bK (.v (.int .i64 (e.nd:Int)))):=GY (e.sz+1) e (by omega) hl
inductive Vl where
 |u
 |el (k:Nat)
 |l (v:Vl)
 |r (v:Vl)
 |f (v:Vl)
 |p (a b:Vl)
abbrev s8(k:Nat):List UInt8:=101::dd k
abbrev je:AV:=.v (.pointer none)
def Vl.dF:Vl->AV
 | .u=>.ptr [.v (.int .u8 117),.v (.string (mk [])),je,je]
 | .el k=>.ptr [.v (.int .u8 101),.v (.string (mk (s8 k))),je,je]
 | .l v=>.ptr [.v (.int .u8 108),.v (.string (mk [])),v.dF,je]
 | .r v=>.ptr [.v (.int .u8 114),.v (.string (mk [])),v.dF,je]
 | .f v=>.ptr [.v (.int .u8 102),.v (.string (mk [])),v.dF,je]
 | .p a b=>.ptr [.v (.int .u8 112),.v (.string (mk [])),a.dF,b.dF]
def Vl.bM:Vl->E
 | .u=>.atom [117]
 | .el k=>.atom (s8 k)
 | .l v=>.list [.atom [108],v.bM]
 | .r v=>.list [.atom [114],v.bM]
 | .f v=>.list [.atom [102],v.bM]
 | .p a b=>.list [.atom [112],a.bM,b.bM]
def Vl.nodes:Vl->Nat
 | .l v=>1+v.nodes
 | .r v=>1+v.nodes
 | .f v=>1+v.nodes
 | .p a b=>1+a.nodes+b.nodes
 |_=>1
def Vl.fe(n:Nat):Vl->Prop
 | .el k=>k<n
 | .l v=>v.fe n
 | .r v=>v.fe n
 | .f v=>v.fe n
 | .p a b=>a.fe n/\b.fe n
 | .u=>True
abbrev Vl.fI(v:Vl):List UInt8:=fV v.bM
theorem aY(v:Vl):LK.has .ptr v.dF=True:=by cases v<;>simp[Vl.dF,fK]
theorem dY(v:Vl):v.dF.isNil=false:=by cases v<;>rfl
theorem lN:∀v:Vl,v.bM.ok
 | .u=>by simp[Vl.bM,E.ok]
 | .el k=>by simp[Vl.bM,E.ok]
 | .l v=>⟨by simp[E.ok],lN v,trivial⟩
 | .r v=>⟨by simp[E.ok],lN v,trivial⟩
 | .f v=>⟨by simp[E.ok],lN v,trivial⟩
 | .p a b=>⟨by simp[E.ok],lN a,lN b,trivial⟩
theorem kS:∀v:Vl,v.bM.nd=v.nodes
 | .u=>rfl
 | .el k=>rfl
 | .l v=>by simp[Vl.bM,E.nd,E.rG,Vl.nodes,kS v]
 | .r v=>by simp[Vl.bM,E.nd,E.rG,Vl.nodes,kS v]
 | .f v=>by simp[Vl.bM,E.nd,E.rG,Vl.nodes,kS v]
 | .p a b=>by simp[Vl.bM,E.nd,E.rG,Vl.nodes,kS a,kS b,dz]
theorem nE:∀v:Vl,v.bM.sz<=3*v.nodes
 | .u=>by simp[Vl.bM,E.sz,Vl.nodes]
 | .el k=>by simp[Vl.bM,E.sz,Vl.nodes]
 | .l v=>by have:=nE v;simp only[Vl.bM,E.sz,E.jF,Vl.nodes];omega
 | .r v=>by have:=nE v;simp only[Vl.bM,E.sz,E.jF,Vl.nodes];omega
 | .f v=>by have:=nE v;simp only[Vl.bM,E.sz,E.jF,Vl.nodes];omega
 | .p a b=>by have:=nE a;have:=nE b;simp only[Vl.bM,E.sz,E.jF,Vl.nodes];omega
theorem gA:∀v:Vl,v.fe 100->v.fI.length<=200*v.nodes
 | .u,_=>by simp[Vl.fI,Vl.bM,fV,Vl.nodes]
 |
  .el k,h=>by
  have h':k<100:=h
  have:=tq 1000 k (by omega)
  simp only[Vl.fI,Vl.bM,fV,Vl.nodes,aw];omega
 | .l v,h=>by have:=gA v h;simp only[Vl.fI,Vl.bM,fV,dH,Vl.nodes,aw,aq,aM]at this |-;omega
 | .r v,h=>by have:=gA v h;simp only[Vl.fI,Vl.bM,fV,dH,Vl.nodes,aw,aq,aM]at this |-;omega
 | .f v,h=>by have:=gA v h;simp only[Vl.fI,Vl.bM,fV,dH,Vl.nodes,aw,aq,aM]at this |-;omega
 | .p a b,h=>by have:=gA a h.1;have:=gA b h.2;simp only[Vl.fI,Vl.bM,fV,dH,Vl.nodes,aw,aq,aM]at *;omega
theorem FG(a b:AV)(h:LK.ptr.has a)(h':LK.ptr.has b):ay Tryz.prog 41 [a,b] [] (bK (.ptr [.v (.int .u8 112),.v (.string (mk [])),a,b])):=by
 refine HD _ _ h h' ?_
 simp[GG,↓zq,zs,ah,bK]
theorem aX(v:Vl):1<=v.nodes:=by cases v<;>simp[Vl.nodes]<;>omega
theorem Cg:∀(v:Vl),v.nodes<1000000->ay Tryz.prog 42 [v.dF] [] (bK (.v (.int .i64 (v.nodes:Int))))
 | .u,h=>by refine Ds _ ((aY _).mpr trivial) ?_;simp[C6,Vl.dF,↓zq,zs,ah,bK,Vl.nodes]
 | .el k,h=>by refine Ds _ ((aY _).mpr trivial) ?_;simp[C6,Vl.dF,↓zq,zs,ah,bK,Vl.nodes]
 |
  .l v,h=>by
  simp only[Vl.nodes]at h
  refine Ds _ ((aY _).mpr trivial) ?_
  simp only[C6,Vl.dF,↓zq,zs,ah,aY,dY]
  refine⟨by omega,fun _=>⟨by omega,?_⟩,fun h=>(by cases h)⟩
  refine al (Cg v (by omega)) ?_
  simp only[↓zq,zs,ah,bK,Vl.nodes]
  rw[wrap64 _ (by omega) (by omega)]
  simp
 |
  .r v,h=>by
  simp only[Vl.nodes]at h
  refine Ds _ ((aY _).mpr trivial) ?_
  simp only[C6,Vl.dF,↓zq,zs,ah,aY,dY]
  refine⟨by omega,fun _=>⟨by omega,?_⟩,fun h=>(by cases h)⟩
  refine al (Cg v (by omega)) ?_
  simp only[↓zq,zs,ah,bK,Vl.nodes]
  rw[wrap64 _ (by omega) (by omega)]
  simp
 |
  .f v,h=>by
  simp only[Vl.nodes]at h
  refine Ds _ ((aY _).mpr trivial) ?_
  simp only[C6,Vl.dF,↓zq,zs,ah,aY,dY]
  refine⟨by omega,fun _=>⟨by omega,?_⟩,fun h=>(by cases h)⟩
  refine al (Cg v (by omega)) ?_
  simp only[↓zq,zs,ah,bK,Vl.nodes]
  rw[wrap64 _ (by omega) (by omega)]
  simp
 |
  .p a b,h=>by
  simp only[Vl.nodes]at h
  refine Ds _ ((aY _).mpr trivial) ?_
  simp only[C6,Vl.dF,↓zq,zs,ah,aY,dY]
  refine⟨by omega,fun _=>⟨by omega,?_⟩,fun h=>(by cases h)⟩
  refine al (Cg a (by omega)) ?_
  simp only[↓zq,zs,ah,aY,dY]
  rw[wrap64 (1+(a.nodes:Int)) (by omega) (by omega)]
  refine⟨by omega,fun _=>⟨by omega,?_⟩,fun h=>(by cases h)⟩
  refine al (Cg b (by omega)) ?_
  simp only[↓zq,zs,ah,bK,Vl.nodes]
  rw[wrap64 _ (by omega) (by omega)]
  congr 2
end Go.Proofs.Trees
namespace Go.Proofs.Trees
open Go Go.VL Go.RowKit
inductive Tg where
 |nm (s:List UInt8)
 |bd (k:Nat)
 deriving DecidableEq
def Tg.up:Tg->Tg
 | .nm s=>.nm s
 | .bd k=>.bd (k+1)
def ec:Ty->Tg->Bool
 | .name s,.nm s'=>decide (s=s')
 | .bound u,.bd k=>decide (u=k)
 |_,_=>false
abbrev Hl:=Vl×Vl
def eX(g:Vl->Vl)(l:List Hl):List Hl:=l.map fun h=>(g h.1,h.2)
def kJ(f:Ty->Tg->Vl->List Hl)(tg:Tg):Ty->Vl->List Hl
 | .plus a _,.l w=>eX .l (f a tg w)
 | .plus _ b,.r w=>eX .r (f b tg w)
 | .times a b,.p x y=>eX (fun c=>.l (.p c y)) (f a tg x)++eX (fun c=>.r (.p x c)) (f b tg y)
 | .rc a,.f w=>eX (fun c=>.f (.l c)) (f a tg.up w)++(f a (.bd 0) w).flatMap fun h=>eX (fun c=>.f (.r (.p h.1 c))) (f (.rc a) tg h.2)
 |_,_=>[]
def dJ:Nat->Ty->Tg->Vl->List Hl
 |0,_,_,_=>[]
 |n+1,t,tg,v=>if ec t tg=true then [(.u,v)]else kJ (dJ n) tg t v
def stuck:Ty->Vl->Bool
 | .plus _ _,.l _=>false
 | .plus _ _,.r _=>false
 | .times _ _,.p _ _=>false
 | .rc _,.f _=>false
 |_,_=>true
def bm(t:Ty)(tg:Tg)(v:Vl):List Hl:=dJ v.nodes t tg v
theorem bN{g:Vl->Vl}{l:List Hl}{h:Hl}(hm:h∈eX g l):∃k,k∈l/\h=(g k.1,k.2):=by
 obtain⟨k,h1,h2⟩:=bp.1 hm
 exact⟨k,h1,h2.symm⟩
theorem j4{f g:Hl->List Hl}:∀{l:List Hl},(∀h,h∈l->f h=g h)->l.flatMap f=l.flatMap g
 |[],_=>rfl
 |h::l,hl=>by rw[aV,aV,hl h ae,j4 (l:=l) fun k hk=>hl k (af _ hk)]
theorem ey:∀(n:Nat) (t:Ty) (tg:Tg) (v:Vl) (h:Hl),h∈dJ n t tg v->h.2.nodes<=v.nodes/\h.1.nodes+4*h.2.nodes<=4*v.nodes+1
 |0,t,tg,v,h,hm=>by simp[dJ]at hm
 |
  n+1,t,tg,v,h,hm=>by
  unfold dJ at hm
  split at hm
  ·simp only[aR]at hm
   subst hm
   simp only[Vl.nodes];omega
  ·unfold kJ at hm
   split at hm
   ·obtain⟨k,h1,rfl⟩:=bN hm
    have:=ey n _ _ _ k h1
    simp only[Vl.nodes];omega
   ·obtain⟨k,h1,rfl⟩:=bN hm
    have:=ey n _ _ _ k h1
    simp only[Vl.nodes];omega
   ·rcases aC.1 hm with hm|hm
    ·obtain⟨k,h1,rfl⟩:=bN hm
     have:=ey n _ _ _ k h1
     simp only[Vl.nodes];omega
    ·obtain⟨k,h1,rfl⟩:=bN hm
     have:=ey n _ _ _ k h1
     simp only[Vl.nodes];omega
   ·rcases aC.1 hm with hm|hm
    ·obtain⟨k,h1,rfl⟩:=bN hm
     have:=ey n _ _ _ k h1
     simp only[Vl.nodes];omega
    ·obtain⟨k,h1,h2⟩:=cB.1 hm
     obtain⟨k2,h3,rfl⟩:=bN h2
     have:=ey n _ _ _ k h1
     have:=ey n _ _ _ k2 h3
     simp only[Vl.nodes];omega
   ·simp at hm
theorem fB:∀(n m:Nat) (t:Ty) (tg:Tg) (v:Vl),v.nodes<=n->v.nodes<=m->dJ n t tg v=dJ m t tg v
 |0,m,t,tg,v,h,_=>by have:=aX v;omega
 |n+1,0,t,tg,v,_,h=>by have:=aX v;omega
 |
  n+1,m+1,t,tg,v,hn,hm=>by
  rw[dJ,dJ]
  split
  ·rfl
  ·unfold kJ
   split
   ·simp only[Vl.nodes]at hn hm;rw[fB n m _ _ _ (by omega) (by omega)]
   ·simp only[Vl.nodes]at hn hm;rw[fB n m _ _ _ (by omega) (by omega)]
   ·simp only[Vl.nodes]at hn hm;rw[fB n m _ _ _ (by omega) (by omega),fB n m _ _ _ (by omega) (by omega)]
   ·rename_i a w
    simp only[Vl.nodes]at hn hm;rw[fB n m _ _ _ (by omega) (by omega),fB n m _ (.bd 0) _ (by omega) (by omega)]
    congr 1
    apply j4
    intro h hh
    have:=(ey _ _ _ _ _ hh).1
    rw[fB n m _ _ _ (by omega) (by omega)]
   ·rfl
theorem mv{n:Nat}(t:Ty)(tg:Tg){v:Vl}(h:v.nodes<=n):dJ n t tg v=bm t tg v:=fB _ _ _ _ _ h (an _)
theorem iv{t:Ty}{tg:Tg}(v:Vl)(h:ec t tg=true):bm t tg v=[(.u,v)]:=by
 have:=aX v
 unfold bm
 cases e:v.nodes with
 |zero=>omega
 |succ n=>rw[dJ,if_pos h]
theorem fO(a b:Ty)(tg:Tg)(w:Vl):bm (.plus a b) tg (.l w)=eX .l (bm a tg w):=by
 unfold bm;rw[show (Vl.l w).nodes=w.nodes+1 by simp[Vl.nodes];omega,dJ,if_neg (by simp[ec])];rfl
theorem fT(a b:Ty)(tg:Tg)(w:Vl):bm (.plus a b) tg (.r w)=eX .r (bm b tg w):=by
 unfold bm;rw[show (Vl.r w).nodes=w.nodes+1 by simp[Vl.nodes];omega,dJ,if_neg (by simp[ec])];rfl
theorem eD(a b:Ty)(tg:Tg)(x y:Vl):bm (.times a b) tg (.p x y)=eX (fun c=>.l (.p c y)) (bm a tg x)++eX (fun c=>.r (.p x c)) (bm b tg y):=by
 rw[bm,show (Vl.p x y).nodes=(x.nodes+y.nodes)+1 by simp[Vl.nodes];omega,dJ,if_neg (by simp[ec])]
 rw[kJ,mv a tg (by omega),mv b tg (by omega)]
theorem eB(a:Ty)(tg:Tg)(w:Vl):bm (.rc a) tg (.f w)=eX (fun c=>.f (.l c)) (bm a tg.up w)++(bm a (.bd 0) w).flatMap fun h=>eX (fun c=>.f (.r (.p h.1 c))) (bm (.rc a) tg h.2):=by
 rw[bm,show (Vl.f w).nodes=w.nodes+1 by simp[Vl.nodes];omega,dJ,if_neg (by simp[ec])]
 rw[kJ,mv a tg.up (an _),mv a (.bd 0) (an _)]
 congr 1
 apply j4
 intro h hh
 have:=(ey _ _ _ _ _ hh).1
 rw[mv (.rc a) tg this]
theorem cP{t:Ty}{tg:Tg}{v:Vl}(h:ec t tg=false)(h2:stuck t v=true):bm t tg v=[]:=by
 unfold bm
 cases e:v.nodes with
 |zero=>rfl
 |
  succ n =>
  rw[dJ,if_neg (by rw[h];simp)]
  unfold kJ
  split<;>first|(simp[stuck]at h2;done)|rfl
theorem gI{t:Ty}{tg:Tg}{v:Vl}{h:Hl}(hm:h∈bm t tg v):h.2.nodes<=v.nodes/\h.1.nodes+4*h.2.nodes<=4*v.nodes+1:=ey _ _ _ _ _ hm
theorem fv(n:Nat):∀(m:Nat) (t:Ty) (tg:Tg) (v:Vl) (h:Hl),v.fe n->h∈dJ m t tg v->h.1.fe n/\h.2.fe n
 |0,t,tg,v,h,hv,hm=>by simp[dJ]at hm
 |
  m+1,t,tg,v,h,hv,hm=>by
  unfold dJ at hm
  split at hm
  ·simp only[aR]at hm
   subst hm
   exact⟨trivial,hv⟩
  ·unfold kJ at hm
   split at hm
   ·obtain⟨k,h1,rfl⟩:=bN hm
    exact(fun q=>fv n m _ _ _ k q h1) hv
   ·obtain⟨k,h1,rfl⟩:=bN hm
    exact(fun q=>fv n m _ _ _ k q h1) hv
   ·rcases aC.1 hm with hm|hm
    ·obtain⟨k,h1,rfl⟩:=bN hm
     obtain⟨q1,q2⟩:=fv n m _ _ _ k hv.1 h1
     exact⟨⟨q1,hv.2⟩,q2⟩
    ·obtain⟨k,h1,rfl⟩:=bN hm
     obtain⟨q1,q2⟩:=fv n m _ _ _ k hv.2 h1
     exact⟨⟨hv.1,q1⟩,q2⟩
   ·rcases aC.1 hm with hm|hm
    ·obtain⟨k,h1,rfl⟩:=bN hm
     exact(fun q=>fv n m _ _ _ k q h1) hv
    ·obtain⟨k,h1,h2⟩:=cB.1 hm
     obtain⟨k2,h3,rfl⟩:=bN h2
     obtain⟨q1,q2⟩:=(fun q=>fv n m _ _ _ k q h1) hv
     obtain⟨q3,q4⟩:=fv n m _ _ _ k2 q2 h3
     exact⟨⟨q1,q3⟩,q4⟩
   ·simp at hm
def j0(l:List Hl):Nat:=(l.map fun h=>h.2.nodes).sum
theorem pA(l r:List Hl):j0 (l++r)=j0 l+j0 r:=by simp[j0]
theorem mK(g:Vl->Vl)(l:List Hl):j0 (eX g l)=j0 l:=by simp[j0,eX,Function.comp_def]
def jf(f:Tg->Nat)(T:List Tg):Nat:=(T.map f).sum
theorem mB(f g:Tg->Nat):∀T:List Tg,jf (fun x=>f x+g x) T=jf f T+jf g T
 |[]=>rfl
 |x::T=>by have:=mB f g T;simp only[jf,aS,cq]at this |-;omega
theorem u9{f g:Tg->Nat}:∀{T:List Tg},(∀x,x∈T->f x<=g x)->jf f T<=jf g T
 |[],_=>an _
 |
  x::T,h=>by
  have:=u9 (T:=T) fun y hy=>h y (af _ hy)
  have:=h x ae
  simp only[jf,aS,cq]at *;omega
theorem nr{f:Tg->Nat}:∀{T:List Tg},(∀x,x∈T->f x=0)->jf f T=0
 |[],_=>rfl
 |
  x::T,h=>by
  have:=nr (T:=T) fun y hy=>h y (af _ hy)
  have:=h x ae
  simp only[jf,aS,cq]at *;omega
theorem qf(g:Hl->Tg->Nat)(T:List Tg):∀l:List Hl,jf (fun x=>(l.map fun h=>g h x).sum) T=(l.map fun h=>jf (g h) T).sum
 |[]=>nr fun _ _=>rfl
 |
  h::l=>by
  have:=qf g T l
  simp only[aS,cq]
  rw[mB,this]
theorem qt(f:Hl->List Hl):∀l:List Hl,j0 (l.flatMap f)=(l.map fun h=>j0 (f h)).sum
 |[]=>rfl
 |h::l=>by rw[aV,pA,qt f l];simp
theorem xF{f g:Hl->Nat}:∀{l:List Hl},(∀x,x∈l->f x<=g x)->(l.map f).sum<=(l.map g).sum
 |[],_=>an _
 |
  x::l,h=>by
  have:=xF (l:=l) fun y hy=>h y (af _ hy)
  have:=h x ae
  simp only[aS,cq]at *;omega
theorem xp{t:Ty}{x y:Tg}(h:ec t x=true)(h':ec t y=true):x=y:=by
 cases t<;>cases x<;>cases y<;>simp[ec]at h h'<;>simp_all
theorem uw{t:Ty}(n:Nat):∀{T:List Tg},T.Nodup->jf (fun x=>if ec t x=true then n else 0) T<=n
 |[],_=>dj _
 |
  x::T,h=>by
  obtain⟨h1,h2⟩:=List.nodup_cons.1 h
  have ih:=uw (t:=t) n h2
  by_cases hx:ec t x=true
  ·have:jf (fun x=>if ec t x=true then n else 0) T=0:=nr fun y hy=>by
    rw[if_neg fun hy'=>h1 (by rw[xp hx hy'];exact hy)]
   simp only[jf,aS,cq]at *
   rw[if_pos hx];omega
  ·simp only[jf,aS,cq]at *
   rw[if_neg hx];omega
theorem xb{T:List Tg}(h:T.Nodup):(Tg.bd 0::T.map Tg.up).Nodup:=by
 refine List.nodup_cons.2 ⟨fun hm=>?_,?_⟩
 ·obtain⟨x,_,e⟩:=bp.1 hm
  cases x<;>simp[Tg.up]at e
 ·refine List.Pairwise.map _ (fun a b hab e=>hab ?_) h
  cases a<;>cases b<;>simp[Tg.up]at e<;>simp_all
theorem apart:∀(n:Nat) (v:Vl),v.nodes<=n->∀(t:Ty) (T:List Tg),T.Nodup->jf (fun x=>j0 (bm t x v)) T<=v.nodes
 |0,v,h=>by have:=aX v;omega
 |
  n+1,v,hn=>by
  intro t T hT
  have base:∀(hno:∀x,ec t x=false->bm t x v=[]),jf (fun x=>j0 (bm t x v)) T<=v.nodes:=fun hno=>by
   refine Nat.le_trans (u9 fun x _=>?_) (uw (t:=t) v.nodes hT)
   cases e:ec t x with
   |true=>rw[iv v e];simp[j0]
   |false=>rw[hno x e];simp[j0]
  cases hm:stuck t v with
  |true=>exact base fun x hx=>cP hx hm
  |
   false =>
   unfold stuck at hm
   split at hm
   ·rename_i a b w
    simp only[Vl.nodes]at hn |-
    simp only[fO,mK]
    have:=apart n w (by omega) a T hT
    omega
   ·rename_i a b w
    simp only[Vl.nodes]at hn |-
    simp only[fT,mK]
    have:=apart n w (by omega) b T hT
    omega
   ·rename_i a b x y
    simp only[Vl.nodes]at hn |-
    simp only[eD,pA,mK]
    rw[mB]
    have:=apart n x (by omega) a T hT
    have:=apart n y (by omega) b T hT
    omega
   ·rename_i a w
    simp only[Vl.nodes]at hn |-
    simp only[eB,pA,mK,qt]
    rw[mB,qf]
    have h1:=apart n w (by omega) a _ (xb hT)
    simp only[jf,aS,cq,List.map_map]at h1
    have h2:((bm a (.bd 0) w).map fun h=>jf (fun x=>j0 (bm (.rc a) x h.2)) T).sum<=j0 (bm a (.bd 0) w):=xF fun h hh=>by
     have:=(gI hh).1
     exact apart n h.2 (by omega) (.rc a) T hT
    simp only[jf,Function.comp_def]at h1 h2 |-
    omega
   ·cases hm
theorem oU(t:Ty)(tg:Tg)(v:Vl):j0 (bm t tg v)<=v.nodes:=by
 have:=apart v.nodes v (an _) t [tg] (by simp)
 simpa[jf]using this
theorem rP:∀l:List Hl,l.length<=j0 l
 |[]=>dj _
 |
  h::l=>by
  have:=rP l
  have:=aX h.2
  simp only[j0,aS,cq,aw]at *;omega
theorem pV(t:Ty)(tg:Tg)(v:Vl):(bm t tg v).length<=v.nodes:=Nat.le_trans (rP _) (oU t tg v)
end Go.Proofs.Trees
namespace Go.Proofs.Trees
open Go Go.VL Go.RowKit
def kids(a:Ty):Vl->List Hl
 | .f w=>bm a (.bd 0) w
 |_=>[]
abbrev Pt:=Vl×List Nat
def Er(pl:List Nat):List Hl->Nat->List Pt
 |[],_=>[]
 |h::l,i=>(h.2,pl++[i])::Er pl l (i+1)
def yw:Nat->Ty->Pt->List Pt
 |0,_,_=>[]
 |n+1,a,p=>p::(Er p.2 (kids a p.1) 0).flatMap (yw n a)
def parts(a:Ty)(v:Vl):List Pt:=yw v.nodes a (v,[])
end Go.Proofs.Trees
namespace Go.Proofs.Trees
open Go Go.VL Go.RowKit
def vG:List UInt8->Nat->Option Nat
 |[],n=>some n
 |b::r,n=>if fH b=true then vG r (10*n+(b.toNat-48))else none
def eC(s:List UInt8):Option Nat :=
 if s.length=2\/s.length=3 then(if s.getD 0 0=101/\¬(s.length=3/\s.getD 1 0=48)then vG (s.drop 1) 0 else none)else none
def ym(s:List UInt8):Int:=match eC s with|some k=>(k:Int)|none=>-1
theorem FK(s:List UInt8)(hs:s.length<=3):∀(k i n:Nat),i+k=s.length->1<=i->(n+1)*10 ^ k<=1000->BO [.v (.string (mk s)),.v (.int .i64 (n:Int)),.v (.int .i64 (i:Int))] []
 (qQ (match vG (s.drop i) n with|some m=>(1,[.v (.int .i64 (m:Int))],[])|none=>(2,[.v (.int .i64 (-1))],[])))
 |
  0,i,n,hi,h1,hn=>by
  refine GX _ _ _ ?_
  have hd:s.drop i=[]:=a8 (by omega)
  simp only[Bh,↓zq,zs,ah,zt,hd,vG]
  exact⟨fun h=>by omega,fun _=>by first|trivial|rfl⟩
 |
  k+1,i,n,hi,h1,hn=>by
  have hlt:i<s.length:=by omega
  refine GX _ _ _ ?_
  rw[drop_cons hlt,vG]
  simp only[Bh,↓zq,zs,ah,zt,ke s i hlt]
  generalize s.getD i 0=b
  have hb:=b.toNat_lt
  refine⟨fun _=>⟨by omega,fun h48=>?_,fun h48=>⟨by omega,fun h57=>?_,fun h57=>⟨by omega,?_⟩⟩⟩,fun h=>by omega⟩
  ·have:fH b=false:=by simp only[fH,decide_eq_false_iff_not];omega
   rw[this];rfl
  ·have:fH b=false:=by simp only[fH,decide_eq_false_iff_not];omega
   rw[this];rfl
  ·have:fH b=true:=by simp only[fH,decide_eq_true_eq];omega
   rw[if_pos this]
   have hk:k=0\/k=1:=by omega
   have hn2:n*10<=1000:=by
    rcases hk with rfl|rfl<;>simp at hn<;>omega
   have e8:IntKind.wrap .u8 ((b.toNat:Int)-48)=((b.toNat-48:Nat):Int):=by
    have:b.toNat=48\/b.toNat=49\/b.toNat=50\/b.toNat=51\/b.toNat=52\/b.toNat=53\/b.toNat=54\/b.toNat=55\/b.toNat=56\/b.toNat=57:=by omega
    rcases this with h|h|h|h|h|h|h|h|h|h<;>rw[h]<;>rfl
   rw[e8,bW i (by omega),wrap64 ((b.toNat-48:Nat):Int) (by omega) (by omega),wrap64 (10*(n:Int)) (by omega) (by omega),wrap64 _ (by omega) (by omega)]
   have e:(10*(n:Int)+((b.toNat-48:Nat):Int))=((10*n+(b.toNat-48):Nat):Int):=by omega
   rw[e]
   exact FK s hs k (i+1) _ (by omega) (by omega) (by rcases hk with rfl|rfl<;>simp at hn |-<;>omega)
theorem Fm(s:List UInt8):ay Tryz.prog 57 [.v (.string (mk s))] [] (bK (.v (.int .i64 (ym s)))):=by
 refine G9 _ ?_
 unfold DC
 refine al (Ag _ _ _) ?_
 simp only[↓zq,zs,ah,zt,AX,bK]
 have hL:∀(Q:Nat->List AV->List Ob->Prop),(s.length=2\/s.length=3)->s.getD 0 0=101->¬(s.length=3/\s.getD 1 0=48)->(Q 0 [.v (.int .i64 (ym s))] []) ->
  dV Tryz.prog 49 (.loop Av yA [.v (.string (mk s)),.v (.int .i64 0),.v (.int .i64 1)] [] (fun y2 q2=>.ax (LK.has (.int .i64) (y2.headD .any))<|.done 0 [.v (.int .i64 ((y2.headD .any).toInt))] []) (fun y2 q2=>.ax (LK.has (.int .i64) (y2.headD .any))<|.done 0 [.v (.int .i64 ((y2.headD .any).toInt))] [])) Q:=by
  intro Q hl h0 h1 hQ
  have e:eC s=vG (s.drop 1) 0:=by rw[eC,if_pos hl,if_pos ⟨h0,h1⟩]
  refine iN (FK s (by omega) (s.length-1) 1 0 (by omega) (by omega) (by rcases hl with h|h<;>rw[h]<;>decide)) (fun ys o e'=>?_) (fun ys o e'=>?_)
  ·cases hq:vG (s.drop 1) 0<;>rw[hq]at e'<;>cases e'
   rw[hq]at e
   simp only[ym,e]at hQ
   simp only[↓zq,zs,ah];exact hQ
  ·cases hq:vG (s.drop 1) 0<;>rw[hq]at e'<;>cases e'
   rw[hq]at e
   simp only[ym,e]at hQ
   simp only[↓zq,zs,ah];exact hQ
 have hz:∀{i:Nat},i<s.length->bt (mk s) (i:Int)=((s.getD i 0).toNat:Int):=fun h=>ke s _ h
 refine⟨fun h=>?_,fun h=>⟨?_,fun h0=>?_,fun h0=>⟨fun h3=>⟨by omega,fun h1=>?_,fun h1=>?_⟩,fun h3=>?_⟩⟩⟩
 ·have h':¬(2<=(s.length:Int)/\(s.length:Int)<=3):=by simpa using h
  rw[ym,eC,if_neg (by omega)]
 ·have h':2<=(s.length:Int)/\(s.length:Int)<=3:=by simpa using h
  omega
 ·have h':2<=(s.length:Int)/\(s.length:Int)<=3:=by simpa using h
  have e0:=hz (i:=0) (by omega)
  simp only[cg,cy]at e0
  rw[e0]at h0
  rw[ym,eC,if_pos (by omega),if_neg]
  rintro⟨e,_⟩
  rw[e]at h0;exact h0 rfl
 ·have h':2<=(s.length:Int)/\(s.length:Int)<=3:=by simpa using h
  have e1:=hz (i:=1) (by omega)
  simp only[cg,cy]at e1
  rw[e1]at h1
  rw[ym,eC,if_pos (by omega),if_neg]
  rintro⟨_,e⟩
  refine e ⟨by omega,?_⟩
  rw[<-cX];show (s.getD 1 0).toNat=48;omega
 ·have h':2<=(s.length:Int)/\(s.length:Int)<=3:=by simpa using h
  have e0:=hz (i:=0) (by omega)
  have e1:=hz (i:=1) (by omega)
  simp only[cg,cy]at e0 e1
  rw[e0]at h0;rw[e1]at h1
  refine hL _ (by omega) ?_ ?_ ⟨rfl,rfl⟩
  ·rw[<-cX];show (s.getD 0 0).toNat=101;omega
  ·rintro⟨_,e⟩;rw[e]at h1;exact h1 rfl
 ·have h':2<=(s.length:Int)/\(s.length:Int)<=3:=by simpa using h
  have e0:=hz (i:=0) (by omega)
  simp only[cg,cy]at e0
  rw[e0]at h0
  refine hL _ (by omega) ?_ ?_ ⟨rfl,rfl⟩
  ·rw[<-cX];show (s.getD 0 0).toNat=101;omega
  ·rintro⟨e,_⟩;omega
theorem mM:∀(l:List UInt8) (n:Nat),(vG l n).isSome=l.all fH
 |[],n=>rfl
 |
  b::l,n=>by
  rw[vG]
  cases hb:fH b with
  |true=>rw[if_pos rfl,mM l];simp[hb]
  |false=>rw[if_neg (by simp)];simp[hb]
theorem FA(s:List UInt8):ay Tryz.prog 88 [.v (.string (mk s))] [] (bK (.v (.bool (eC s).isSome))):=by
 refine H3 _ ?_
 simp only[DQ,↓zq,zs,ah,zt,bK]
 have hz:∀{i:Nat},i<s.length->bt (mk s) (i:Int)=((s.getD i 0).toNat:Int):=fun h=>ke s _ h
 refine⟨fun h=>?_,fun h=>⟨fun h3=>?_,fun h3=>?_⟩⟩
 ·rw[eC,if_neg (by omega)];rfl
 ·rw[eC,if_neg (by omega)];rfl
 ·have e0:=hz (i:=0) (by omega)
  have e1:=hz (i:=1) (by omega)
  simp only[cg,cy]at e0 e1
  rw[e0,e1]
  have hx:s.drop (bC 1)=s.drop 1:=rfl
  refine⟨by omega,fun h0=>?_,fun h0=>⟨by omega,?_⟩⟩
  ·rw[eC,if_pos (by omega),if_neg]
   ·rfl
   ·rintro⟨e,_⟩;rw[e]at h0;exact h0 rfl
  ·rw[hx]
   refine al (F4 (s.drop 1) Di (by simp;omega) (by decide) (by decide)) ?_
   simp only[↓zq,zs,ah,zt]
   have h101:s.getD 0 0=101:=by rw[<-cX];show (s.getD 0 0).toNat=101;omega
   have hall:Lib.trimS (s.drop 1) Di=[]↔(s.drop 1).all fH=true:=by
    rw[p9]
    have:(fun x=>Di.contains x)=fH:=funext se
    rw[this]
   refine⟨fun ht=>?_,fun ht=>⟨fun h2=>?_,fun h2=>⟨by omega,?_⟩⟩⟩
   ·have:(s.drop 1).all fH=false:=by
     cases hq:(s.drop 1).all fH with
     |false=>rfl
     |true=>exact absurd (hall.2 hq) ht
    rw[eC,if_pos (by omega)]
    split
    ·rw[mM,this]
    ·rfl
   ·have hq:=hall.1 ht
    rw[eC,if_pos (by omega),if_pos ⟨h101,by omega⟩,mM,hq]
   ·have hq:=hall.1 ht
    rw[eC,if_pos (by omega)]
    by_cases h48:s.getD 1 0=48
    ·rw[if_neg (by rintro⟨_,e⟩;exact e ⟨by omega,h48⟩),h48];rfl
    ·rw[if_pos ⟨h101,fun e=>h48 e.2⟩,mM,hq]
     have:¬((s.getD 1 0).toNat:Int)=48:=fun e=>h48 (by rw[<-cX];show (s.getD 1 0).toNat=48;omega)
     rw[bne_iff_ne.2 this]
theorem p6{s:List UInt8}{k:Nat}(h:eC s=some k):s=s8 k/\k<100:=by
 have key1:∀a:Fin 256,fH (aU a.val)=true->vG [aU a.val] 0=some ((aU a.val).toNat-48)/\(aU a.val).toNat-48<10/\[aU a.val]=[aU (48+((aU a.val).toNat-48))]:=by decide +kernel
 unfold eC at h
 split at h
 ·rename_i hl
  split at h
  ·rename_i hh
   obtain⟨h0,h1⟩:=hh
   rcases hl with hl|hl
   ·match s,hl with
    |
     [c,a],_ =>
     simp only[aQ]at h0
     subst h0
     simp only[List.drop_succ_cons,bw,vG]at h
     split at h
     ·rename_i ha
      have:=key1 ⟨a.toNat,a.toNat_lt⟩ (by simpa using ha)
      simp only[UInt8.ofNat_toNat]at this
      cases h
      refine⟨?_,by omega⟩
      rw[s8,eJ (by omega)]
      simp only[Nat.mul_zero,aK]
      rw[<-this.2.2]
     ·cases h
   ·match s,hl with
    |
     [c,a,b],_ =>
     simp only[aQ,cF,aw,aM,true_and]at h0 h1
     subst h0
     simp only[List.drop_succ_cons,bw,vG]at h
     split at h
     ·rename_i ha
      split at h
      ·rename_i hb
       have k1:=key1 ⟨a.toNat,a.toNat_lt⟩ (by simpa using ha)
       have k2:=key1 ⟨b.toNat,b.toNat_lt⟩ (by simpa using hb)
       simp only[UInt8.ofNat_toNat]at k1 k2
       have ha':48<=a.toNat/\a.toNat<=57:=by simpa[fH]using ha
       have hb':48<=b.toNat/\b.toNat<=57:=by simpa[fH]using hb
       have h48:a.toNat≠48:=fun e=>h1 (by rw[<-cX];simpa using e)
       cases h
       simp only[Nat.mul_zero,aK]
       refine⟨?_,by omega⟩
       rw[s8,fj (by omega),eJ (by omega)]
       have e1:(10*(a.toNat-48)+(b.toNat-48))/10=a.toNat-48:=by omega
       have e2:(10*(a.toNat-48)+(b.toNat-48))%10=b.toNat-48:=by omega
       rw[e1,e2,<-k1.2.2,<-k2.2.2];rfl
      ·cases h
     ·cases h
  ·cases h
 ·cases h
theorem sN(k:Nat)(h:k<100):eC (s8 k)=some k:=by
 have e:∀k,k<100->dd k=if k<10 then [aU (48+k)]else [aU (48+k/10),aU (48+k%10)]:=by
  intro k hk
  by_cases h1:k<10
  ·rw[eJ h1,if_pos h1]
  ·rw[fj h1,eJ (by omega),if_neg h1];rfl
 have key:∀k:Fin 100,eC (101::(if k.val<10 then [aU (48+k.val)]else [aU (48+k.val/10),aU (48+k.val%10)]))=some k.val:=by decide +kernel
 rw[s8,e k h];exact key ⟨k,h⟩
theorem CW(k:Nat)(h:k<100):ym (s8 k)=(k:Int):=by rw[ym,sN k h]
def uj:E->Bool
 | .atom s=>(s==[117])||(eC s).isSome
 | .list [x,a]=>((x.at==[108])||(x.at==[114])||(x.at==[102]))&&uj a
 | .list [x,a,b]=>(x.at==[112])&&(uj a&&uj b)
 | .list _=>false
def eA:E->Option Vl
 | .atom s=>if s=[117]then some .u else match eC s with|some k=>some (.el k)|none=>none
 |
  .list [x,a]=>match eA a with
  |none=>none
  |some v=>if x.at=[108]then some (.l v)else if x.at=[114]then some (.r v)else if x.at=[102]then some (.f v)else none
 | .list [x,a,b]=>if x.at=[112]then(match eA a,eA b with|some v,some w=>some (.p v w)|_,_=>none)else none
 | .list _=>none
theorem lW:∀e:E,(eA e).isSome=uj e
 |
  .atom s=>by
  simp only[eA,uj]
  by_cases h:s=[117]
  ·simp[h]
  ·rw[if_neg h];cases eC s<;>simp[h]
 | .list []=>rfl
 | .list [_]=>rfl
 |
  .list [x,a]=>by
  have ha:=lW a
  rw[eA,uj,<-ha]
  cases eA a with
  |none=>simp
  |
   some v =>
   by_cases h1:x.at=[108]
   ·simp[h1]
   ·by_cases h2:x.at=[114]
    ·simp[h2]
    ·by_cases h3:x.at=[102]
     ·simp[h3]
     ·simp[h1,h2,h3]
 |
  .list [x,a,b]=>by
  have ha:=lW a
  have hb:=lW b
  rw[eA,uj,<-ha,<-hb]
  by_cases h1:x.at=[112]
  ·rw[if_pos h1,h1];cases eA a<;>cases eA b<;>rfl
  ·simp[h1]
 | .list (_::_::_::_::_)=>rfl
theorem iV{x:E}{w:List UInt8}(h:x.at=w)(hw:w≠[]):x=.atom w:=by
 cases x with
 |atom s=>exact congrArg E.atom h
 |list l=>exact absurd h.symm hw
theorem jq:∀(e:E) (v:Vl),eA e=some v->v.bM=e/\v.fe 100
 |
  .atom s,v,h=>by
  simp only[eA]at h
  split at h
  ·rename_i h1;cases h;exact⟨by rw[h1];rfl,trivial⟩
  ·split at h
   ·rename_i k hk
    cases h
    obtain⟨h1,h2⟩:=p6 hk
    exact⟨by rw[h1];rfl,h2⟩
   ·cases h
 | .list [],_,h=>by cases h
 | .list [_],_,h=>by cases h
 | .list (_::_::_::_::_),_,h=>by cases h
 |
  .list [x,a],v,h=>by
  rw[eA]at h
  split at h
  ·cases h
  ·rename_i w hw
   obtain⟨h1,h2⟩:=jq a w hw
   split at h
   ·rename_i hx;cases h;rw[iV hx (by simp)];exact⟨by rw[Vl.bM,h1],h2⟩
   ·split at h
    ·rename_i hx;cases h;rw[iV hx (by simp)];exact⟨by rw[Vl.bM,h1],h2⟩
    ·split at h
     ·rename_i hx;cases h;rw[iV hx (by simp)];exact⟨by rw[Vl.bM,h1],h2⟩
     ·cases h
 |
  .list [x,a,b],v,h=>by
  rw[eA]at h
  split at h
  ·rename_i hx
   split at h
   ·rename_i w1 w2 hw1 hw2
    cases h
    obtain⟨h1,h2⟩:=jq a w1 hw1
    obtain⟨h3,h4⟩:=jq b w2 hw2
    rw[iV hx (by simp)]
    exact⟨by rw[Vl.bM,h1,h3],h2,h4⟩
   ·cases h
  ·cases h
def nL(e:E)(w:List UInt8)(k:Nat):Bool:=match e with| .list (x::l)=>decide (l.length+1=k)&&(x.at==w)|_=>false
theorem p8(e:E)(w:List UInt8)(k:Nat)(hk:1<=k):ay Tryz.prog 89 [e.dF,.v (.string (mk w)),.v (.int .i64 (k:Int))] [] (bK (.v (.bool (nL e w k)))):=by
 refine Ef _ _ _ ((cj e).mpr trivial) ?_
 cases e with
 |atom s=>simp only[yc,E.dF,↓zq,zs,ah,zt,bK,nL];exact⟨by omega,fun h=>by omega,fun _=>trivial⟩
 |
  list l =>
  simp only[yc,E.dF,↓zq,zs,ah,zt,bK,oI]
  cases l with
  |nil=>exact⟨by simp,fun h=>by simp at h;omega,fun _=>rfl⟩
  |
   cons x l =>
   simp only[aw]
   refine⟨by simp,fun h=>?_,fun h=>?_⟩
   ·have:decide (l.length+1=k)=true:=by rw[decide_eq_true_eq];omega
    simp only[nL,this]
    cases x<;>simp[E.kj,E.dF,fK,ny,im,dU,re,toList_mk,E.at]
   ·have:decide (l.length+1=k)=false:=by rw[decide_eq_false_iff_not];omega
    simp only[nL,this];rfl
def gR:Option Vl->AV
 |some v=>v.dF
 |none=>.v (.pointer none)
end Go.Proofs.Trees
namespace Go.Proofs.Trees
open Go Go.VL Go.RowKit
theorem eG(v:Option Vl):LK.has .ptr (gR v)=True:=by cases v<;>simp[gR,aY,j1]
theorem Dm:∀(e:E),e.ok->ay Tryz.prog 71 [e.dF] [] (bK (gR (eA e)))
 |
  .atom s,hok=>by
  refine D1 _ ((cj _).mpr trivial) ?_
  have hd:=lL (.atom s)
  have hlen:=jK (.atom s)
  simp only[E.at]at hd
  simp only[C1,↓zq,zs,ah,zt,bK,cj,dn,hd,eA]
  refine⟨hlen,fun h=>?_,fun h=>⟨hlen,?_⟩⟩
  ·rw[if_pos h];rfl
  ·rw[if_neg h]
   refine al (FA s) ?_
   simp only[↓zq,zs,ah,zt]
   refine⟨fun he=>⟨hlen,?_⟩,fun he=>?_⟩
   ·obtain⟨k,hk⟩:=aZ.1 he
    obtain⟨h1,h2⟩:=p6 hk
    rw[hk,h1];rfl
   ·have hn:eC s=none:=by cases hq:eC s<;>simp[hq]at he |-
    rw[hn]
    refine al (p8 (.atom s) [108] 2 (by omega)) ?_
    simp only[nL,↓zq,zs,ah,zf]
    refine⟨fun h=>(by cases h),fun _=>al (p8 (.atom s) [114] 2 (by omega)) ?_⟩
    simp only[nL,↓zq,zs,ah,zf]
    refine⟨fun h=>(by cases h),fun _=>al (p8 (.atom s) [102] 2 (by omega)) ?_⟩
    simp only[nL,↓zq,zs,ah,zf]
    refine⟨fun h=>(by cases h),fun _=>al (p8 (.atom s) [112] 3 (by omega)) ?_⟩
    simp only[nL,↓zq,zs,ah,zf]
    exact⟨fun h=>(by cases h),fun _=>rfl⟩
 |
  .list l,hok=>by
  refine D1 _ ((cj _).mpr trivial) ?_
  have hd:=lL (.list l)
  have hlen:=jK (.list l)
  have hlen2:∀{l:List E},((AV.v (.string (mk [])))::[AV.sl (E.kj l)]).length=2:=rfl
  simp only[E.at]at hd
  have he:eC []=none:=rfl
  simp only[C1,↓zq,zs,ah,zt,bK,cj,dn,hd]
  refine⟨hlen,fun h=>(by cases h),fun h=>⟨hlen,?_⟩⟩
  refine al (FA []) ?_
  rw[he]
  simp only[↓zq,zs,ah,zt,zf,Option.isSome_none]
  refine⟨fun h=>(by cases h),fun _=>al (p8 (.list l) [108] 2 (by omega)) ?_⟩
  have hno:∀w:List UInt8,(∀x a,l≠[x,a])->nL (.list l) w 2=false:=by
   intro w h2
   match l,h2 with
   |[],_=>rfl
   |[x],_=>rfl
   |[x,a],h2=>exact absurd rfl (h2 x a)
   |x::y::z::l,_=>simp[nL]
  match l,hok,hno,hlen with
  |
   [x,a],hok,hno,hlen =>
   clear hno
   obtain⟨ok1,ok2,_⟩:=hok
   have e2:∀w:List UInt8,nL (.list [x,a]) w 2=(x.at==w):=fun w=>rfl
   have e3:nL (.list [x,a]) [112] 3=false:=rfl
   have hx:=lL x
   have hxl:=jK x
   rw[eA]
   simp only[e2,↓zq,zs,ah]
   refine⟨fun h1=>?_,fun h1=>al (p8 (.list [x,a]) [114] 2 (by omega)) ?_⟩
   ·simp only[E.dF,E.kj,toNat_one,↓zq,zs,ah,zt,cj,dn]
    refine⟨by omega,by omega,by omega,al (Dm a ok2) ?_⟩
    cases hv:eA a with
    |none=>simp only[gR,↓zq,zs,ah,eG];exact⟨fun _=>trivial,fun h=>(by cases h)⟩
    |
     some v =>
     simp only[gR,↓zq,zs,ah,zt,aY,dY,hx,h1,cj,dn]
     refine⟨fun h=>(by cases h),fun _=>⟨by omega,by omega,by omega,hxl,by simp,?_⟩⟩
     rfl
   ·simp only[e2,↓zq,zs,ah]
    refine⟨fun h2=>?_,fun h2=>al (p8 (.list [x,a]) [102] 2 (by omega)) ?_⟩
    ·simp only[E.dF,E.kj,toNat_one,↓zq,zs,ah,zt,cj,dn]
     refine⟨by omega,by omega,by omega,al (Dm a ok2) ?_⟩
     cases hv:eA a with
     |none=>simp only[gR,↓zq,zs,ah,eG];exact⟨fun _=>trivial,fun h=>(by cases h)⟩
     |
      some v =>
      simp only[gR,↓zq,zs,ah,zt,aY,dY,hx,h2,cj,dn]
      refine⟨fun h=>(by cases h),fun _=>⟨by omega,by omega,by omega,hxl,by simp,?_⟩⟩
      rfl
    ·simp only[e2,↓zq,zs,ah]
     refine⟨fun h3=>?_,fun h3=>al (p8 (.list [x,a]) [112] 3 (by omega)) ?_⟩
     ·simp only[E.dF,E.kj,toNat_one,↓zq,zs,ah,zt,cj,dn]
      refine⟨by omega,by omega,by omega,al (Dm a ok2) ?_⟩
      cases hv:eA a with
      |none=>simp only[gR,↓zq,zs,ah,eG];exact⟨fun _=>trivial,fun h=>(by cases h)⟩
      |
       some v =>
       simp only[gR,↓zq,zs,ah,zt,aY,dY,hx,h3,cj,dn]
       refine⟨fun h=>(by cases h),fun _=>⟨by omega,by omega,by omega,hxl,by simp,?_⟩⟩
       rfl
     ·rw[e3]
      simp only[↓zq,zs,ah]
      refine⟨fun h=>(by cases h),fun _=>?_⟩
      cases eA a with
      |none=>rfl
      |some v=>simp only[if_neg h1,if_neg h2,if_neg h3];rfl
  |
   [x,a,b],hok,hno,hlen =>
   obtain⟨ok1,ok2,ok3,_⟩:=hok
   have h2:=fun w=>hno w (fun x a h=>(by cases h))
   rw[h2]
   simp only[↓zq,zs,ah]
   refine⟨fun h=>(by cases h),fun _=>al (p8 (.list [x,a,b]) [114] 2 (by omega)) ?_⟩
   rw[h2]
   simp only[↓zq,zs,ah]
   refine⟨fun h=>(by cases h),fun _=>al (p8 (.list [x,a,b]) [102] 2 (by omega)) ?_⟩
   rw[h2]
   simp only[↓zq,zs,ah]
   refine⟨fun h=>(by cases h),fun _=>al (p8 (.list [x,a,b]) [112] 3 (by omega)) ?_⟩
   have e3:nL (.list [x,a,b]) [112] 3=(x.at==[112]):=rfl
   rw[e3,eA]
   simp only[↓zq,zs,ah]
   refine⟨fun h1=>?_,fun h1=>?_⟩
   ·rw[if_pos h1]
    simp only[E.dF,E.kj,toNat_one,bG,↓zq,zs,ah,zt,cj,dn]
    refine⟨by omega,by omega,by omega,al (Dm a ok2) ?_⟩
    simp only[↓zq,zs,ah,eG,cj]
    refine⟨by omega,by omega,by omega,al (Dm b ok3) ?_⟩
    cases hv:eA a with
    |none=>cases hw:eA b<;>simp only[gR,↓zq,zs,ah,eG,aY]<;>exact⟨fun _=>trivial,fun h=>(by cases h)⟩
    |
     some v =>
     cases hw:eA b with
     |
      none =>
      simp only[gR,↓zq,zs,ah,eG,aY,dY]
      exact⟨fun h=>(by cases h),fun _=>⟨fun _=>trivial,fun h=>(by cases h)⟩⟩
     |
      some w =>
      simp only[gR,↓zq,zs,ah,aY,dY]
      refine⟨fun h=>(by cases h),fun _=>⟨fun h=>(by cases h),fun _=>?_⟩⟩
      refine al (FG _ _ ((aY _).mpr trivial) ((aY _).mpr trivial)) ?_
      simp only[↓zq,zs,ah];rfl
   ·rw[if_neg h1];rfl
  |
   [],hok,hno,hlen =>
   have h2:=fun w=>hno w (fun x a h=>(by cases h))
   have e3:nL (.list []) [112] 3=false:=rfl
   rw[h2]
   simp only[↓zq,zs,ah]
   refine⟨fun h=>(by cases h),fun _=>al (p8 (.list []) [114] 2 (by omega)) ?_⟩
   rw[h2]
   simp only[↓zq,zs,ah]
   refine⟨fun h=>(by cases h),fun _=>al (p8 (.list []) [102] 2 (by omega)) ?_⟩
   rw[h2]
   simp only[↓zq,zs,ah]
   refine⟨fun h=>(by cases h),fun _=>al (p8 (.list []) [112] 3 (by omega)) ?_⟩
   rw[e3]
   simp only[↓zq,zs,ah]
   exact⟨fun h=>(by cases h),fun _=>rfl⟩
  |
   [x],hok,hno,hlen =>
   have h2:=fun w=>hno w (fun x a h=>(by cases h))
   have e3:nL (.list [x]) [112] 3=false:=rfl
   rw[h2]
   simp only[↓zq,zs,ah]
   refine⟨fun h=>(by cases h),fun _=>al (p8 (.list [x]) [114] 2 (by omega)) ?_⟩
   rw[h2]
   simp only[↓zq,zs,ah]
   refine⟨fun h=>(by cases h),fun _=>al (p8 (.list [x]) [102] 2 (by omega)) ?_⟩
   rw[h2]
   simp only[↓zq,zs,ah]
   refine⟨fun h=>(by cases h),fun _=>al (p8 (.list [x]) [112] 3 (by omega)) ?_⟩
   rw[e3]
   simp only[↓zq,zs,ah]
   exact⟨fun h=>(by cases h),fun _=>rfl⟩
  |
   x::y::z::w::l,hok,hno,hlen =>
   have h2:=fun w=>hno w (fun x a h=>(by cases h))
   have e3:nL (.list (x::y::z::w::l)) [112] 3=false:=by simp[nL]
   rw[h2]
   simp only[↓zq,zs,ah]
   refine⟨fun h=>(by cases h),fun _=>al (p8 (.list (x::y::z::w::l)) [114] 2 (by omega)) ?_⟩
   rw[h2]
   simp only[↓zq,zs,ah]
   refine⟨fun h=>(by cases h),fun _=>al (p8 (.list (x::y::z::w::l)) [102] 2 (by omega)) ?_⟩
   rw[h2]
   simp only[↓zq,zs,ah]
   refine⟨fun h=>(by cases h),fun _=>al (p8 (.list (x::y::z::w::l)) [112] 3 (by omega)) ?_⟩
   rw[e3]
   simp only[↓zq,zs,ah]
   exact⟨fun h=>(by cases h),fun _=>rfl⟩
def pQ(s:List UInt8):Option Vl:=match ov s with
 |none=>none
 |
  some e=>match eA e with
  |none=>none
  |some v=>if v.nodes>200 then none else some v
theorem nI{s:List UInt8}{v:Vl}(h:pQ s=some v):ov s=some v.bM/\v.fe 100/\v.nodes<=200:=by
 unfold pQ at h
 split at h
 ·cases h
 ·rename_i e he
  split at h
  ·cases h
  ·rename_i w hw
   split at h
   ·cases h
   ·cases h
    obtain⟨h1,h2⟩:=jq e _ hw
    rw[h1]
    exact⟨he,h2,by omega⟩
theorem s5{e:E}{v:Vl}(h:eA e=some v):v.nodes<=e.sz:=by
 obtain⟨h1,_⟩:=jq e v h
 rw[<-kS,h1];exact xZ e
theorem HW(s:List UInt8):ay Tryz.prog 50 [.v (.string (mk s))] [] (bK (gR (pQ s))):=by
 refine Ig _ ?_
 unfold Fg
 refine al (Fa s) ?_
 unfold pQ
 cases he:ov s with
 |none=>simp only[ru,↓zq,zs,ah,bK,gR];simp
 |
  some e =>
  obtain⟨h1,h2⟩:=lD he
  simp only[ru,↓zq,zs,ah,cj,dn]
  refine⟨fun h=>(by cases h),fun _=>?_⟩
  refine al (Dm e h1) ?_
  cases hv:eA e with
  |none=>simp only[gR,↓zq,zs,ah,bK];simp
  |
   some v =>
   have hn:=s5 hv
   simp only[gR,↓zq,zs,ah,aY,dY]
   refine⟨fun h=>(by cases h),fun _=>?_⟩
   refine al (Cg v (by omega)) ?_
   simp only[↓zq,zs,ah,bK]
   refine⟨fun h=>?_,fun h=>?_⟩
   ·rw[if_pos (by omega)]
   ·rw[if_neg (by omega)]
theorem vV:∀(e:E),e.ok->ay Tryz.prog 33 [e.ja] [] (bK (.v (.bool (uj e))))
 |
  .atom s,hok=>by
  refine Dq _ _ ((bF).mpr trivial) ?_
  have hne:s≠[]:=hok
  simp only[Cu,↓zq,zs,ah,zt,bK,uj]
  refine⟨fun _=>⟨fun h=>?_,fun h=>?_⟩,fun h=>absurd h hne⟩
  ·simp[h]
  ·refine al (Fm s) ?_
   have h':(s==[117])=false:=by simpa using h
   simp only[↓zq,zs,ah,h',Bool.false_or]
   congr 2
   rw[ym]
   cases eC s with
   |none=>rfl
   |some k=>simp
 |
  .list [],hok=>by
  refine Dq _ _ ((cG _).mpr trivial) ?_
  simp only[Cu,↓zq,zs,ah,zt,bK,uj]
  refine⟨fun h=>absurd rfl h,fun _=>?_⟩
  refine al II ?_
  simp[↓zq,zs,ah,zt]
 |
  .list [x],hok=>by
  refine Dq _ _ ((cG _).mpr trivial) ?_
  simp only[Cu,↓zq,zs,ah,zt,bK,uj]
  refine⟨fun h=>absurd rfl h,fun _=>?_⟩
  refine al (rL x _) ?_
  simp[↓zq,zs,ah,zt,E.a7]
 |
  .list (x::y::z::w::l),hok=>by
  refine Dq _ _ ((cG _).mpr trivial) ?_
  simp only[Cu,↓zq,zs,ah,zt,bK,uj]
  refine⟨fun h=>absurd rfl h,fun _=>?_⟩
  refine al (rL x _) ?_
  simp only[↓zq,zs,ah,zt,E.a7]
  refine⟨fun _=>⟨fun h=>by omega,fun _=>trivial⟩,fun _=>⟨fun _=>⟨fun h=>by omega,fun _=>trivial⟩,fun _=>⟨fun _=>⟨fun h=>by omega,fun _=>trivial⟩,fun _=>⟨fun _=>⟨fun h=>by omega,fun _=>trivial⟩,fun _=>trivial⟩⟩⟩⟩
 |
  .list [x,a],hok=>by
  refine Dq _ _ ((cG _).mpr trivial) ?_
  obtain⟨ok1,ok2,_⟩:=hok
  simp only[Cu,↓zq,zs,ah,zt,bK,uj]
  refine⟨fun h=>absurd rfl h,fun _=>?_⟩
  refine al (rL x _) ?_
  simp only[E.a7,toNat_one,bG,↓zq,zs,ah,zt,gq,fb,gu,kF,an]
  refine⟨fun h=>⟨fun _=>⟨by omega,?_⟩,fun h=>by omega⟩,fun h1=>⟨fun h=>⟨fun _=>⟨by omega,?_⟩,fun h=>by omega⟩,fun h2=>⟨fun h=>⟨fun _=>⟨by omega,?_⟩,fun h=>by omega⟩,fun h3=>⟨fun h=>⟨fun h=>by omega,fun _=>?_⟩,fun h=>?_⟩⟩⟩⟩
  ·refine al (vV a ok2) ?_
   simp[↓zq,zs,ah,h]
  ·refine al (vV a ok2) ?_
   simp[↓zq,zs,ah,h]
  ·refine al (vV a ok2) ?_
   simp[↓zq,zs,ah,h]
  ·simp[h]
  ·simp[h1,h2,h3]
 |
  .list [x,a,b],hok=>by
  refine Dq _ _ ((cG _).mpr trivial) ?_
  obtain⟨ok1,ok2,ok3,_⟩:=hok
  simp only[Cu,↓zq,zs,ah,zt,bK,uj]
  refine⟨fun h=>absurd rfl h,fun _=>?_⟩
  refine al (rL x _) ?_
  simp only[E.a7,toNat_one,bG,↓zq,zs,ah,zt,gq,fb,gu,kF,an]
  refine⟨fun h=>⟨fun h=>by omega,fun _=>?_⟩,fun h1=>⟨fun h=>⟨fun h=>by omega,fun _=>?_⟩,fun h2=>⟨fun h=>⟨fun h=>by omega,fun _=>?_⟩,fun h3=>⟨fun h=>⟨fun _=>⟨by omega,?_⟩,fun h=>by omega⟩,fun h=>?_⟩⟩⟩⟩
  ·simp[h]
  ·simp[h]
  ·simp[h]
  ·refine al (vV a ok2) ?_
   simp only[↓zq,zs,ah,h]
   refine⟨fun ha=>⟨by omega,al (vV b ok3) ?_⟩,fun ha=>?_⟩
   ·simp[↓zq,zs,ah,ha]
   ·simp[ha]
  ·simp[h]
theorem Cb(s:List UInt8):ay Tryz.prog 11 [.v (.string (mk s))] [] (kG ((pQ s).map Vl.bM) (pQ s).isSome):=by
 refine IB _ ?_
 unfold Gd
 refine dN (EW s) (kG.ne _ _ (fun h=>h)) ?_
 rintro r o ⟨c,d,hd,rfl,hh⟩
 simp only[↓zq,zs,ah,zt,bT,pQ]
 refine⟨hd,fun h=>?_,fun h=>?_⟩
 ·obtain⟨e,he,hce⟩:=hh h
  obtain⟨hok,hsz⟩:=lD he
  rw[he,hce]
  refine al (vV e hok) ?_
  simp only[↓zq,zs,ah]
  have hs:=lW e
  refine⟨fun hi=>?_,fun hi=>?_⟩
  ·rw[hi]at hs
   obtain⟨v,hv⟩:=aZ.1 hs
   obtain⟨h1,h2⟩:=jq e v hv
   refine al (Gw e (by omega)) ?_
   simp only[↓zq,zs,ah,hv]
   have hnd:e.nd=v.nodes:=by rw[<-h1,kS]
   rw[hnd]
   refine⟨c,d,hd,?_,?_⟩
   ·rw[hce]
    by_cases h4:v.nodes>200
    ·rw[if_pos h4];exact congrArg (fun b=>AV.cQ [e.ja,.v (.bool b)]) (decide_eq_false (show ¬((v.nodes:Nat):Int)<=200 by omega))
    ·rw[if_neg h4];exact congrArg (fun b=>AV.cQ [e.ja,.v (.bool b)]) (decide_eq_true (show ((v.nodes:Nat):Int)<=200 by omega))
   ·split
    ·exact fun h=>by cases h
    ·exact fun _=>⟨e,by simp[h1],hce⟩
  ·rw[hi]at hs
   have hn:eA e=none:=by cases hq:eA e<;>simp[hq]at hs |-
   rw[hn]
   exact⟨c,d,hd,by rw[hce];rfl,fun h=>by cases h⟩
 ·have hn:ov s=none:=by cases hq:ov s<;>simp[hq]at h |-
  rw[hn]
  exact⟨c,d,hd,rfl,fun h=>by cases h⟩
end Go.Proofs.Trees
namespace Go.Proofs.Trees
open Go Go.VL
mutual
def E.pr:E->Prop
 | .atom s=>s≠[]/\s.all dT=true
 | .list l=>l≠[]/\E.xe l
def E.xe:List E->Prop
 |[]=>True
 |e::l=>e.pr/\E.xe l
end
mutual
def E.dp:E->Nat
 | .atom _=>0
 | .list l=>1+E.rH l
def E.rH:List E->Nat
 |[]=>0
 |e::l=>max e.dp (E.rH l)
end
def Ev(r:List UInt8):Prop:=∀c t,r=c::t->dT c=false
theorem rj:Ev []:=by intro c t h;cases h
theorem w6{s r:List UInt8}(hs:s.all dT=true)(hr:Ev r):(s++r).takeWhile dT=s/\(s++r).dropWhile dT=r:=by
 induction s with
 |
  nil =>
  cases r with
  |nil=>exact⟨rfl,rfl⟩
  |cons c t=>have:=hr c t rfl;simp[List.takeWhile,List.dropWhile,this]
 |
  cons c s ih =>
  simp only[cn,ai]at hs
  have:=ih hs.2
  simp[List.takeWhile,List.dropWhile,hs.1,this.1,this.2]
theorem sh(l:List E)(r:List UInt8):Ev (dH l++41::r):=by
 intro c t h
 cases l with
 |nil=>simp only[dH,bc,List.cons.injEq]at h;rw[<-h.1];decide
 |cons e l=>simp only[dH,bA,List.cons.injEq]at h;rw[<-h.1];decide
theorem yx{f:List UInt8->Option (E×List UInt8)}(r:List UInt8):∀(l:List E) (e:E) (acc:List E) (n:Nat),l.length<n->(∀x,x=e\/x∈l->∀r,Ev r->f (fV x++r)=some (x,r)) ->
 pH f n (fV e++(dH l++41::r)) acc=some (.list (acc++e::l),r)
 |l,e,acc,0,hn,hf=>by omega
 |
  [],e,acc,n+1,hn,hf=>by
  simp only[pH]
  rw[hf e (.inl rfl) _ (sh [] r)]
  simp[dH]
 |
  x::l,e,acc,n+1,hn,hf=>by
  simp only[pH]
  rw[hf e (.inl rfl) _ (sh (x::l) r)]
  simp only[aw]at hn
  have ih:=yx r l x (acc++[e]) n (by omega) (fun y hy=>hf y (.inr (by cases hy with|inl h=>rw[h];exact ae|inr h=>exact af _ h)))
  simp only[bH,bA,bc]at ih
  simp only[dH,bA,bH]
  simp[ih]
theorem zj{l:List E}{k:Nat}:E.xe l->E.rH l<=k->∀x,x∈l->x.pr/\x.dp<=k:=by
 induction l with
 |nil=>intro _ _ x h;cases h
 |
  cons e l ih =>
  intro h hd x hx
  simp only[E.xe,E.rH]at h hd
  cases hx with
  |head=>exact⟨h.1,by omega⟩
  |tail _ hx=>exact ih h.2 (by omega) x hx
theorem uE:∀(k:Nat) (e:E) (r:List UInt8),e.pr->e.dp<=k->Ev r->rd k (fV e++r)=some (e,r)
 |
  0,.atom s,r,hp,hd,hr=>by
  have h:=w6 hp.2 hr
  simp only[fV,rd,h.1,h.2,hp.1,if_false]
 |
  k+1,.atom s,r,hp,hd,hr=>by
  have h:=w6 hp.2 hr
  simp only[fV,rd,h.1,h.2,hp.1,if_false]
 |0,.list l,r,hp,hd,hr=>by simp only[E.dp]at hd;omega
 |k+1,.list [],r,hp,hd,hr=>by exact absurd rfl hp.1
 |
  k+1,.list (e::l),r,hp,hd,hr=>by
  have hs:dT 40=false:=by decide
  simp only[E.dp,E.pr]at hd hp
  have hm:=zj (k:=k) hp.2 (by omega)
  have:=yx (f:=rd k) r l e [] ((fV e++(dH l++41::r)).length+1) (by have:=oC l;simp only[aq,aw];omega)
   (fun x hx r hr=>uE k x r (hm x (by cases hx with|inl h=>rw[h];exact ae|inr h=>exact af _ h)).1 (hm x (by cases hx with|inl h=>rw[h];exact ae|inr h=>exact af _ h)).2 hr)
  simp only[fV,bA,bH,bc]at *
  simp only[rd,List.takeWhile,hs,if_true]
  simpa using this
theorem xS{e e':E}(h:e.pr)(h':e'.pr)(ht:fV e=fV e'):e=e':=by
 have a:=uE (max e.dp e'.dp) e [] h (by omega) rj
 have b:=uE (max e.dp e'.dp) e' [] h' (by omega) rj
 rw[ht,b]at a;cases a;rfl
theorem Bi{e:E}(h:e.pr)(hd:e.dp<=300)(hl:(fV e).length<=8000):ov (fV e)=some e:=by
 have:=uE 300 e [] h hd rj
 rw[List.append_nil]at this
 rw[ov,this];simp;omega
theorem xu(s:List UInt8):(s.takeWhile dT).all dT=true:=by
 induction s with
 |nil=>rfl
 |cons c s ih =>
  cases h:dT c
  ·simp[List.takeWhile,h]
  ·simp only[List.takeWhile,h,cn,ih];rfl
theorem zD(l r:List E):E.xe (l++r)↔E.xe l/\E.xe r:=by
 induction l with
 |nil=>simp[E.xe]
 |cons e l ih=>simp[E.xe,ih,and_assoc]
theorem Ai(l r:List E):E.rH (l++r)=max (E.rH l) (E.rH r):=by
 induction l with
 |nil=>simp[E.rH]
 |cons e l ih=>simp[E.rH,ih,Nat.max_assoc]
theorem vB{k:Nat}{f:List UInt8->Option (E×List UInt8)}(hf:∀s e r,f s=some (e,r)->s=fV e++r/\e.pr/\e.dp<=k):∀(n:Nat) (s:List UInt8) (acc:List E) (e:E) (r:List UInt8),pH f n s acc=some (e,r)->E.xe acc->E.rH acc<=k ->
 ∃l,e=.list (acc++l)/\l≠[]/\32::s=dH l++41::r/\E.xe l/\E.rH l<=k
 |0,s,acc,e,r,h,hp,hd=>by cases h
 |
  n+1,s,acc,e,r,h,hp,hd=>by
  simp only[pH]at h
  split at h
  ·rename_i p c r' hs
   obtain⟨h1,h2,h3⟩:=hf _ _ _ hs
   split at h
   ·rename_i hc
    have hc:c=41:=cX.mp hc
    cases h
    exact⟨[p],rfl,by simp,by simp[dH,h1,hc],⟨h2,trivial⟩,by simp[E.rH];omega⟩
   ·split at h
    ·rename_i hc
     have hc:c=32:=cX.mp hc
     obtain⟨l,g1,g2,g3,g4,g5⟩:=vB hf n _ _ _ _ h ((zD _ _).mpr ⟨hp,h2,trivial⟩) (by rw[Ai];simp[E.rH];omega)
     refine⟨p::l,by simpa using g1,by simp,?_,⟨h2,g4⟩,by simp only[E.rH];omega⟩
     rw[h1,hc,g3];simp[dH]
    ·cases h
  ·cases h
theorem yL:∀(k:Nat) (s:List UInt8) (e:E) (r:List UInt8),rd k s=some (e,r)->s=fV e++r/\e.pr/\e.dp<=k
 |
  0,s,e,r,h=>by
  simp only[rd]at h
  split at h
  ·cases h
  ·rename_i hs;cases h
   exact⟨(bu).symm,⟨hs,xu s⟩,an _⟩
 |
  k+1,s,e,r,h=>by
  simp only[rd]at h
  split at h
  ·split at h
   ·rename_i c r' _
    split at h
    ·rename_i hc
     have hc:c=40:=cX.mp hc
     obtain⟨l,g1,g2,g3,g4,g5⟩:=vB (k:=k) (fun s e r h=>yL k s e r h) _ _ _ _ _ h trivial (dj _)
     simp only[bc]at g1
     subst g1;subst hc
     refine⟨?_,⟨g2,g4⟩,by simp only[E.dp];omega⟩
     cases l with
     |nil=>exact absurd rfl g2
     |
      cons x l =>
      simp only[dH,bA,bH,List.cons.injEq,true_and]at g3
      rw[g3];simp[fV]
    ·cases h
   ·cases h
  ·rename_i hs;cases h
   exact⟨(bu).symm,⟨hs,xu s⟩,by simp[E.dp]⟩
theorem uR{s:List UInt8}{e:E}(h:ov s=some e):s=fV e/\e.pr/\e.dp<=300/\s.length<=8000:=by
 unfold ov at h
 split at h
 ·cases h
 ·rename_i hl
  split at h
  ·rename_i e' hr
   cases h
   have:=yL _ _ _ _ hr
   exact⟨by simpa using this.1,this.2.1,this.2.2,by omega⟩
  ·cases h
theorem xi{k:Nat}(h:k<10):dT (aU (48+k))=true:=by
 have:∀k:Fin 10,dT (aU (48+k.val))=true:=by decide
 exact this ⟨k,h⟩
theorem tC:∀(n k:Nat),k<n->(dd k).all dT=true
 |0,k,h=>by omega
 |
  n+1,k,h=>by
  by_cases hk:k<10
  ·rw[eJ hk,cn,xi hk];rfl
  ·rw[fj hk]
   have:=tC n (k/10) (by omega)
   rw[List.all_append,this,cn,xi (Nat.mod_lt k (by omega:0<10))];rfl
theorem Bg(k:Nat):(E.atom (s8 k)).pr:=⟨by simp,by have:=tC (k+1) k (by omega);simp only[s8,cn,this];decide⟩
theorem kT:∀v:Vl,v.bM.pr
 | .u=>⟨by simp,by decide⟩
 | .el k=>Bg k
 | .l v=>⟨by simp,⟨by simp,by decide⟩,kT v,trivial⟩
 | .r v=>⟨by simp,⟨by simp,by decide⟩,kT v,trivial⟩
 | .f v=>⟨by simp,⟨by simp,by decide⟩,kT v,trivial⟩
 | .p a b=>⟨by simp,⟨by simp,by decide⟩,kT a,kT b,trivial⟩
theorem m9:∀v:Vl,v.bM.dp<v.nodes+1
 | .u=>by simp[Vl.bM,E.dp,Vl.nodes]
 | .el k=>by simp[Vl.bM,E.dp,Vl.nodes]
 | .l v=>by have:=m9 v;simp only[Vl.bM,E.dp,E.rH,Vl.nodes]at *;omega
 | .r v=>by have:=m9 v;simp only[Vl.bM,E.dp,E.rH,Vl.nodes]at *;omega
 | .f v=>by have:=m9 v;simp only[Vl.bM,E.dp,E.rH,Vl.nodes]at *;omega
 | .p a b=>by have:=m9 a;have:=m9 b;simp only[Vl.bM,E.dp,E.rH,Vl.nodes]at *;omega
theorem zn(k:Nat)(h:k<100):(dd k).length<=2:=by
 by_cases hk:k<10
 ·rw[eJ hk];simp
 ·rw[fj hk,eJ (by omega:k/10<10)];simp
theorem jm:∀v:Vl,v.fe 100->v.fI.length<=5*v.nodes
 | .u,_=>by simp[Vl.fI,Vl.bM,fV,Vl.nodes]
 |
  .el k,h=>by
  have:=zn k h
  simp only[Vl.fI,Vl.bM,fV,Vl.nodes,aw];omega
 | .l v,h=>by have:=jm v h;simp only[Vl.fI,Vl.bM,fV,dH,Vl.nodes,aw,aq,aM]at this |-;omega
 | .r v,h=>by have:=jm v h;simp only[Vl.fI,Vl.bM,fV,dH,Vl.nodes,aw,aq,aM]at this |-;omega
 | .f v,h=>by have:=jm v h;simp only[Vl.fI,Vl.bM,fV,dH,Vl.nodes,aw,aq,aM]at this |-;omega
 | .p a b,h=>by have:=jm a h.1;have:=jm b h.2;simp only[Vl.fI,Vl.bM,fV,dH,Vl.nodes,aw,aq,aM]at *;omega
theorem Bs(k:Nat):s8 k≠[117]:=by simp[s8]
theorem i4:∀v:Vl,v.fe 100->eA v.bM=some v
 | .u,_=>by simp[Vl.bM,eA]
 | .el k,h=>by simp only[Vl.bM,eA,Bs,if_false,sN k h]
 | .l v,h=>by simp only[Vl.bM,eA,i4 v h,E.at];simp
 | .r v,h=>by simp only[Vl.bM,eA,i4 v h,E.at];simp
 | .f v,h=>by simp only[Vl.bM,eA,i4 v h,E.at];simp
 | .p a b,h=>by simp only[Vl.bM,eA,i4 a h.1,i4 b h.2,E.at];simp
theorem zo{v:Vl}(h:v.fe 100)(hn:v.nodes<=200):pQ v.fI=some v:=by
 have hd:=m9 v
 have hl:=jm v h
 rw[pQ,Bi (kT v) (by omega) (by show v.fI.length<=8000;omega)]
 simp only[i4 v h]
 rw[if_neg (by omega)]
theorem zv{v w:Vl}(h:v.fe 100)(h':w.fe 100)(ht:v.fI=w.fI):v=w:=by
 have:=xS (kT v) (kT w) ht
 have a:=i4 v h
 rw[this,i4 w h']at a;cases a;rfl
theorem uY{s:List UInt8}{v:Vl}(h:pQ s=some v):s=v.fI:=(uR (nI h).1).1
end Go.Proofs.Trees
namespace Go.Proofs.Trees
open Go Go.VL Go.RowKit
end Go.Proofs.Trees
