/-
  Part of a proof: Go functions read by values, trees of functions, their contracts.
-/
import Derived.Test.YtmdlogdmjkfojaaGreatDoorP3
import Derived.Shelf.Lays
import Derived.Shelf.LaysM
import Derived.Shelf.Strconv.Itoa3
import Derived.Shelf.Strconv.Atoi
import Derived.Shelf.Strings.SlTrimAscii
import Derived.Shelf.Strings.Search3
import Derived.Test.YtmdlogdmjkfojaaGreatDoorProg
set_option linter.unusedVariables false
set_option linter.unusedSimpArgs false
open And renaming intro→aF
open Bool renaming and_eq_true→aq,eq_iff_iff→cj,true_and→bA
open ByteArray renaming extract→bR,size→ag,toList→ac
open Int renaming cast_ofNat_Int→cO,ofNat_eq_natCast→cA,tmod→dc,toNat→bE
open List renaming all_cons→cH,any_eq_true→bJ,drop_eq_getElem_cons→aL,drop_eq_nil_of_le→bx,getD_eq_getElem?_getD→aa,length_append→al,length_cons→aw,length_drop→bV,mem_append→aI,mem_cons→aE,mem_map→bP,nil_append→bh,takeWhile_append_dropWhile→bN
open Nat renaming zero_add→aP
open UInt8 renaming ofNat→aZ
namespace Go.Proofs
open Go.Shelf
def Tryz.um:Go.Shelf.Ren:=⟨fun|160=>169|232=>181|231=>180|227=>182|234=>184|233=>183|236=>186|235=>185|228=>196|271=>199|151=>198|197=>197|120=>210|152=>209|260=>208|137=>217|119=>218|224=>213|225=>212|217=>211|266=>219|n=>n,fun|9=>9|4=>4|3=>3|5=>5|117=>237|116=>236|0=>0|124=>240|21=>21|105=>255|46=>244|119=>272|139=>275|138=>274|n=>n,fun|3=>4|4=>5|n=>n⟩
theorem Tryz.AY:Go.Proofs.Lays.n160 Tryz.prog Tryz.um:={
 mixed:=by kernel_rfl,
 f119:=Tryz.func218.trans (congrArg some (by kernel_rfl)),
 f120:=Tryz.func210.trans (congrArg some (by kernel_rfl)),
 f137:=Tryz.func217.trans (congrArg some (by kernel_rfl)),
 f151:=Tryz.func198.trans (congrArg some (by kernel_rfl)),
 f152:=Tryz.func209.trans (congrArg some (by kernel_rfl)),
 f160:=Tryz.func169.trans (congrArg some (by kernel_rfl)),
 f197:=Tryz.func197.trans (congrArg some (by kernel_rfl)),
 f217:=Tryz.func211.trans (congrArg some (by kernel_rfl)),
 f224:=Tryz.func213.trans (congrArg some (by kernel_rfl)),
 f225:=Tryz.func212.trans (congrArg some (by kernel_rfl)),
 f227:=Tryz.func182.trans (congrArg some (by kernel_rfl)),
 f228:=Tryz.func196.trans (congrArg some (by kernel_rfl)),
 f231:=Tryz.func180.trans (congrArg some (by kernel_rfl)),
 f232:=Tryz.func181.trans (congrArg some (by kernel_rfl)),
 f233:=Tryz.func183.trans (congrArg some (by kernel_rfl)),
 f234:=Tryz.func184.trans (congrArg some (by kernel_rfl)),
 f235:=Tryz.func185.trans (congrArg some (by kernel_rfl)),
 f236:=Tryz.func186.trans (congrArg some (by kernel_rfl)),
 f260:=Tryz.func208.trans (congrArg some (by kernel_rfl)),
 f266:=Tryz.func219.trans (congrArg some (by kernel_rfl)),
 f271:=Tryz.func199.trans (congrArg some (by kernel_rfl)),
 t0:=Tryz.underlying0,
 a0:=Tryz.isAgg0,
 z0:=Tryz.sizeOf0,
 v0:=Tryz.zeroValue0,
 t3:=Tryz.underlying3,
 a3:=Tryz.isAgg3,
 z3:=Tryz.sizeOf3,
 v3:=Tryz.zeroValue3,
 t4:=Tryz.underlying4,
 a4:=Tryz.isAgg4,
 z4:=Tryz.sizeOf4,
 v4:=Tryz.zeroValue4,
 t5:=Tryz.underlying5,
 a5:=Tryz.isAgg5,
 z5:=Tryz.sizeOf5,
 v5:=Tryz.zeroValue5,
 t9:=Tryz.underlying9,
 a9:=Tryz.isAgg9,
 z9:=Tryz.sizeOf9,
 v9:=Tryz.zeroValue9,
 t21:=Tryz.underlying21,
 a21:=Tryz.isAgg21,
 z21:=Tryz.sizeOf21,
 v21:=Tryz.zeroValue21,
 t46:=Tryz.underlying244,
 a46:=Tryz.isAgg244,
 z46:=Tryz.sizeOf244,
 v46:=Tryz.zeroValue244,
 t105:=Tryz.underlying255,
 a105:=Tryz.isAgg255,
 z105:=Tryz.sizeOf255,
 v105:=Tryz.zeroValue255,
 t116:=Tryz.underlying236,
 a116:=Tryz.isAgg236,
 z116:=Tryz.sizeOf236,
 t117:=Tryz.underlying237,
 a117:=Tryz.isAgg237,
 z117:=Tryz.sizeOf237,
 v117:=Tryz.zeroValue237,
 t119:=Tryz.underlying272,
 a119:=Tryz.isAgg272,
 z119:=Tryz.sizeOf272,
 t124:=Tryz.underlying240,
 a124:=Tryz.isAgg240,
 z124:=Tryz.sizeOf240,
 v124:=Tryz.zeroValue240,
 t138:=Tryz.underlying274,
 a138:=Tryz.isAgg274,
 z138:=Tryz.sizeOf274,
 v138:=Tryz.zeroValue274,
 t139:=Tryz.underlying275,
 a139:=Tryz.isAgg275,
 z139:=Tryz.sizeOf275,
 v139:=Tryz.zeroValue275,
 g3:=by kernel_rfl,
 g4:=by kernel_rfl}
def Tryz.uK:Go.Shelf.Ren:=⟨fun|144=>178|143=>191|219=>202|217=>211|225=>212|224=>213|267=>214|266=>219|314=>220|n=>n,fun|9=>9|4=>4|3=>3|5=>5|46=>244|146=>277|51=>265|n=>n,fun|1=>3|n=>n⟩
theorem Tryz.AT:Go.Proofs.Lays.n144 Tryz.prog Tryz.uK:={
 mixed:=by kernel_rfl,
 f143:=Tryz.func191.trans (congrArg some (by kernel_rfl)),
 f144:=Tryz.func178.trans (congrArg some (by kernel_rfl)),
 f217:=Tryz.func211.trans (congrArg some (by kernel_rfl)),
 f219:=Tryz.func202.trans (congrArg some (by kernel_rfl)),
 f224:=Tryz.func213.trans (congrArg some (by kernel_rfl)),
 f225:=Tryz.func212.trans (congrArg some (by kernel_rfl)),
 f266:=Tryz.func219.trans (congrArg some (by kernel_rfl)),
 f267:=Tryz.func214.trans (congrArg some (by kernel_rfl)),
 f314:=Tryz.func220.trans (congrArg some (by kernel_rfl)),
 t3:=Tryz.underlying3,
 a3:=Tryz.isAgg3,
 z3:=Tryz.sizeOf3,
 v3:=Tryz.zeroValue3,
 t4:=Tryz.underlying4,
 a4:=Tryz.isAgg4,
 z4:=Tryz.sizeOf4,
 v4:=Tryz.zeroValue4,
 t5:=Tryz.underlying5,
 a5:=Tryz.isAgg5,
 z5:=Tryz.sizeOf5,
 v5:=Tryz.zeroValue5,
 t9:=Tryz.underlying9,
 a9:=Tryz.isAgg9,
 z9:=Tryz.sizeOf9,
 v9:=Tryz.zeroValue9,
 t46:=Tryz.underlying244,
 a46:=Tryz.isAgg244,
 z46:=Tryz.sizeOf244,
 v46:=Tryz.zeroValue244,
 t51:=Tryz.underlying265,
 a51:=Tryz.isAgg265,
 z51:=Tryz.sizeOf265,
 v51:=Tryz.zeroValue265,
 t146:=Tryz.underlying277,
 a146:=Tryz.isAgg277,
 z146:=Tryz.sizeOf277,
 v146:=Tryz.zeroValue277,
 g1:=by kernel_rfl}
def Tryz.uC:Go.Shelf.Ren:=⟨fun|172=>124|244=>155|245=>156|247=>170|279=>171|280=>172|281=>173|282=>174|287=>187|316=>188|171=>148|205=>189|321=>200|322=>201|243=>164|246=>179|283=>192|284=>193|285=>194|286=>195|129=>204|317=>203|318=>205|319=>206|320=>207|337=>215|338=>216|n=>n,fun|9=>9|3=>3|75=>185|76=>186|4=>4|5=>5|167=>225|37=>22|0=>0|85=>226|2=>2|168=>228|53=>241|175=>242|46=>244|210=>247|127=>259|145=>262|143=>260|21=>21|171=>250|173=>253|212=>264|51=>265|20=>20|213=>266|232=>279|233=>280|80=>73|n=>n,fun|15=>0|16=>1|17=>2|18=>6|19=>7|n=>n⟩
theorem Tryz.AM:Go.Proofs.Lays.n172 Tryz.prog Tryz.uC:={
 mixed:=by kernel_rfl,
 f129:=Tryz.func204.trans (congrArg some (by kernel_rfl)),
 f171:=Tryz.func148.trans (congrArg some (by kernel_rfl)),
 f172:=Tryz.func124.trans (congrArg some (by kernel_rfl)),
 f205:=Tryz.func189.trans (congrArg some (by kernel_rfl)),
 f243:=Tryz.func164.trans (congrArg some (by kernel_rfl)),
 f244:=Tryz.func155.trans (congrArg some (by kernel_rfl)),
 f245:=Tryz.func156.trans (congrArg some (by kernel_rfl)),
 f246:=Tryz.func179.trans (congrArg some (by kernel_rfl)),
 f247:=Tryz.func170.trans (congrArg some (by kernel_rfl)),
 f279:=Tryz.func171.trans (congrArg some (by kernel_rfl)),
 f280:=Tryz.func172.trans (congrArg some (by kernel_rfl)),
 f281:=Tryz.func173.trans (congrArg some (by kernel_rfl)),
 f282:=Tryz.func174.trans (congrArg some (by kernel_rfl)),
 f283:=Tryz.func192.trans (congrArg some (by kernel_rfl)),
 f284:=Tryz.func193.trans (congrArg some (by kernel_rfl)),
 f285:=Tryz.func194.trans (congrArg some (by kernel_rfl)),
 f286:=Tryz.func195.trans (congrArg some (by kernel_rfl)),
 f287:=Tryz.func187.trans (congrArg some (by kernel_rfl)),
 f316:=Tryz.func188.trans (congrArg some (by kernel_rfl)),
 f317:=Tryz.func203.trans (congrArg some (by kernel_rfl)),
 f318:=Tryz.func205.trans (congrArg some (by kernel_rfl)),
 f319:=Tryz.func206.trans (congrArg some (by kernel_rfl)),
 f320:=Tryz.func207.trans (congrArg some (by kernel_rfl)),
 f321:=Tryz.func200.trans (congrArg some (by kernel_rfl)),
 f322:=Tryz.func201.trans (congrArg some (by kernel_rfl)),
 f337:=Tryz.func215.trans (congrArg some (by kernel_rfl)),
 f338:=Tryz.func216.trans (congrArg some (by kernel_rfl)),
 t0:=Tryz.underlying0,
 a0:=Tryz.isAgg0,
 z0:=Tryz.sizeOf0,
 v0:=Tryz.zeroValue0,
 t2:=Tryz.underlying2,
 a2:=Tryz.isAgg2,
 z2:=Tryz.sizeOf2,
 v2:=Tryz.zeroValue2,
 t3:=Tryz.underlying3,
 a3:=Tryz.isAgg3,
 z3:=Tryz.sizeOf3,
 v3:=Tryz.zeroValue3,
 t4:=Tryz.underlying4,
 a4:=Tryz.isAgg4,
 z4:=Tryz.sizeOf4,
 v4:=Tryz.zeroValue4,
 t5:=Tryz.underlying5,
 a5:=Tryz.isAgg5,
 z5:=Tryz.sizeOf5,
 v5:=Tryz.zeroValue5,
 t9:=Tryz.underlying9,
 a9:=Tryz.isAgg9,
 z9:=Tryz.sizeOf9,
 v9:=Tryz.zeroValue9,
 t20:=Tryz.underlying20,
 a20:=Tryz.isAgg20,
 z20:=Tryz.sizeOf20,
 v20:=Tryz.zeroValue20,
 t21:=Tryz.underlying21,
 a21:=Tryz.isAgg21,
 z21:=Tryz.sizeOf21,
 v21:=Tryz.zeroValue21,
 t37:=Tryz.underlying22,
 a37:=Tryz.isAgg22,
 z37:=Tryz.sizeOf22,
 v37:=Tryz.zeroValue22,
 t46:=Tryz.underlying244,
 a46:=Tryz.isAgg244,
 z46:=Tryz.sizeOf244,
 v46:=Tryz.zeroValue244,
 t51:=Tryz.underlying265,
 a51:=Tryz.isAgg265,
 z51:=Tryz.sizeOf265,
 v51:=Tryz.zeroValue265,
 t53:=Tryz.underlying241,
 a53:=Tryz.isAgg241,
 z53:=Tryz.sizeOf241,
 v53:=Tryz.zeroValue241,
 t75:=Tryz.underlying185,
 a75:=Tryz.isAgg185,
 z75:=Tryz.sizeOf185,
 v75:=Tryz.zeroValue185,
 t76:=Tryz.underlying186,
 a76:=Tryz.isAgg186,
 z76:=Tryz.sizeOf186,
 v76:=Tryz.zeroValue186,
 t85:=Tryz.underlying226,
 a85:=Tryz.isAgg226,
 z85:=Tryz.sizeOf226,
 v85:=Tryz.zeroValue226,
 t127:=Tryz.underlying259,
 a127:=Tryz.isAgg259,
 z127:=Tryz.sizeOf259,
 v127:=Tryz.zeroValue259,
 t143:=Tryz.underlying260,
 a143:=Tryz.isAgg260,
 z143:=Tryz.sizeOf260,
 v143:=Tryz.zeroValue260,
 t145:=Tryz.underlying262,
 a145:=Tryz.isAgg262,
 z145:=Tryz.sizeOf262,
 v145:=Tryz.zeroValue262,
 t167:=Tryz.underlying225,
 a167:=Tryz.isAgg225,
 z167:=Tryz.sizeOf225,
 v167:=Tryz.zeroValue225,
 t168:=Tryz.underlying228,
 a168:=Tryz.isAgg228,
 z168:=Tryz.sizeOf228,
 v168:=Tryz.zeroValue228,
 t171:=Tryz.underlying250,
 a171:=Tryz.isAgg250,
 z171:=Tryz.sizeOf250,
 v171:=Tryz.zeroValue250,
 t173:=Tryz.underlying253,
 a173:=Tryz.isAgg253,
 z173:=Tryz.sizeOf253,
 v173:=Tryz.zeroValue253,
 t175:=Tryz.underlying242,
 a175:=Tryz.isAgg242,
 z175:=Tryz.sizeOf242,
 v175:=Tryz.zeroValue242,
 t210:=Tryz.underlying247,
 a210:=Tryz.isAgg247,
 z210:=Tryz.sizeOf247,
 v210:=Tryz.zeroValue247,
 t212:=Tryz.underlying264,
 a212:=Tryz.isAgg264,
 z212:=Tryz.sizeOf264,
 v212:=Tryz.zeroValue264,
 t213:=Tryz.underlying266,
 a213:=Tryz.isAgg266,
 z213:=Tryz.sizeOf266,
 t232:=Tryz.underlying279,
 a232:=Tryz.isAgg279,
 z232:=Tryz.sizeOf279,
 v232:=Tryz.zeroValue279,
 t233:=Tryz.underlying280,
 a233:=Tryz.isAgg280,
 z233:=Tryz.sizeOf280,
 v233:=Tryz.zeroValue280,
 g15:=by kernel_rfl,
 g16:=by kernel_rfl,
 g17:=by kernel_rfl,
 g18:=by kernel_rfl,
 g19:=by kernel_rfl}
end Go.Proofs
namespace Go.Proofs.Trees
open Go Go.VL
noncomputable section
def H3:List (Nat×TI):=[
 (0,⟨false,[],false,0,.tuple [],false⟩),
 (2,⟨true,[.int .i64],false,8,.num .i64,false⟩),
 (3,⟨true,[.int .i64],false,8,.num .i64,false⟩),
 (4,⟨true,[.bool],false,1,.bl,false⟩),
 (5,⟨true,[.int .u8],false,1,.num .u8,false⟩),
 (9,⟨true,[.str],false,16,.str,false⟩),
 (20,⟨true,[.jH],false,16,.other,false⟩),
 (21,⟨true,[.int .i32],false,4,.num .i32,false⟩),
 (22,⟨true,[.sl],false,24,.slice 5,false⟩),
 (23,⟨true,[.sl],false,24,.slice 3,false⟩),
 (24,⟨false,[],false,0,.tuple [9,9,23],false⟩),
 (26,⟨true,[.sl],false,24,.slice 9,false⟩),
 (28,⟨true,[.str,.sl,.str],true,56,.struct [(0,9),(1,26),(2,9)],false⟩),
 (29,⟨false,[],false,0,.tuple [28,4],false⟩),
 (32,⟨false,[],false,0,.tuple [23,4],false⟩),
 (34,⟨false,[],false,0,.tuple [9,4],false⟩),
 (38,⟨false,[],false,0,.tuple [9,9],false⟩),
 (40,⟨false,[],false,0,.tuple [26,4],false⟩),
 (43,⟨true,[.sl],false,24,.slice 23,false⟩),
 (44,⟨false,[],false,0,.tuple [43,4],false⟩),
 (47,⟨false,[],false,0,.tuple [9,9,9],false⟩),
 (50,⟨true,[.sl,.str,.str],true,56,.struct [(0,23),(1,9),(2,9)],false⟩),
 (51,⟨false,[],false,0,.tuple [50,4],false⟩),
 (55,⟨true,[.ptr],false,8,.pt,true⟩),
 (59,⟨true,[.ptr],false,8,.pt,true⟩),
 (65,⟨true,[.ptr],false,8,.pt,true⟩),
 (66,⟨true,[.sl],false,24,.slice 67,false⟩),
 (67,⟨true,[.ptr],false,8,.pt,true⟩),
 (69,⟨true,[.str,.ptr,.sl,.ptr],true,56,.struct [(0,9),(1,65),(2,66),(3,67)],false⟩),
 (74,⟨true,[.sl],false,24,.slice 78,false⟩),
 (75,⟨false,[],false,0,.tuple [74,4],false⟩),
 (78,⟨true,[.ptr,.sl],true,32,.struct [(0,67),(1,23)],false⟩),
 (79,⟨true,[.sl],false,24,.slice 50,false⟩),
 (80,⟨false,[],false,0,.tuple [79,4],false⟩),
 (83,⟨false,[],false,0,.tuple [65,67],false⟩),
 (86,⟨true,[.sl],false,24,.slice 88,false⟩),
 (88,⟨true,[.str,.sl],true,40,.struct [(0,9),(1,86)],false⟩),
 (89,⟨false,[],false,0,.tuple [88,4],false⟩),
 (95,⟨true,[.sl,.int .i64],true,32,.struct [(0,22),(1,3)],false⟩),
 (100,⟨true,[.sl],false,24,.slice 103,false⟩),
 (103,⟨true,[.ptr,.ptr],true,16,.struct [(0,67),(1,67)],false⟩),
 (107,⟨true,[.sl],false,24,.slice 113,false⟩),
 (108,⟨false,[],false,0,.tuple [107,4],false⟩),
 (113,⟨true,[.str,.str],true,32,.struct [(0,9),(1,9)],false⟩),
 (116,⟨true,[.jH],false,8,.other,false⟩),
 (118,⟨true,[.int .u8,.str,.ptr,.ptr],true,40,.struct [(0,5),(1,9),(2,67),(3,67)],false⟩),
 (119,⟨true,[.jH],false,8,.other,false⟩),
 (124,⟨true,[.sl],false,24,.slice 201,false⟩),
 (127,⟨true,[.sl],false,24,.slice 130,false⟩),
 (130,⟨true,[.str,.sl,.str,.sl],true,80,.struct [(0,88),(2,88)],false⟩),
 (137,⟨true,[.int .u8,.str,.int .i64,.ptr,.ptr],true,48,.struct [(0,5),(1,9),(2,3),(3,65),(4,65)],false⟩),
 (138,⟨false,[],false,0,.tuple [65,4],false⟩),
 (143,⟨true,[.ptr],false,8,.pt,true⟩),
 (145,⟨true,[.ptr,.ptr],true,16,.struct [(0,65),(1,143)],false⟩),
 (146,⟨true,[.ptr],false,8,.pt,true⟩),
 (147,⟨false,[],false,0,.tuple [145,146],false⟩),
 (151,⟨true,[.str,.ptr],true,24,.struct [(0,9),(1,146)],false⟩),
 (156,⟨true,[.jH],false,8,.other,false⟩),
 (157,⟨false,[],false,0,.tuple [88,124],false⟩),
 (160,⟨false,[],false,0,.tuple [88,3],false⟩),
 (168,⟨true,[.ptr],false,8,.pt,true⟩),
 (170,⟨true,[.sl,.int .i64],true,32,.struct [(0,26),(1,3)],false⟩),
 (171,⟨true,[.ptr],false,8,.pt,true⟩),
 (174,⟨true,[.ptr],false,8,.pt,true⟩),
 (176,⟨true,[.int .i64,.bool],true,16,.struct [(0,3),(1,4)],false⟩),
 (185,⟨true,[.jH],false,16,.other,false⟩),
 (186,⟨false,[],false,0,.tuple [3,185],false⟩),
 (189,⟨true,[.ptr,.ptr],true,16,.struct [(0,145)],false⟩),
 (193,⟨true,[.ptr,.ptr],true,16,.struct [(0,146),(1,143)],false⟩),
 (195,⟨true,[.jH],false,8,.other,false⟩),
 (196,⟨true,[.jH],false,8,.other,false⟩),
 (201,⟨true,[.str,.str,.sl,.sl],true,80,.struct [(0,9),(1,88),(3,124)],false⟩),
 (205,⟨false,[],false,0,.tuple [171,9],false⟩),
 (207,⟨true,[.sl],false,24,.slice 171,false⟩),
 (209,⟨true,[.str,.sl],true,40,.struct [(0,9),(1,207)],false⟩),
 (213,⟨true,[.jH],false,8,.other,false⟩),
 (221,⟨true,[.jH],false,8,.other,false⟩),
 (226,⟨false,[],false,0,.tuple [2,185],false⟩),
 (228,⟨true,[.ptr],false,8,.pt,true⟩),
 (237,⟨false,[],false,0,.tuple [236,4],false⟩),
 (240,⟨true,[.ptr],false,8,.pt,true⟩),
 (241,⟨true,[.int .u64],false,8,.num .u64,false⟩),
 (242,⟨false,[],false,0,.tuple [241,185],false⟩),
 (244,⟨true,[.int .u64],false,8,.num .u64,false⟩),
 (247,⟨true,[.str,.str,.jH],true,48,.struct [(0,9),(1,9),(2,185)],false⟩),
 (250,⟨true,[.int .u8,.int .u8,.int .u8,.int .u8,.int .u8,.int .u8,.int .u8,.int .u8,.int .u8,.int .u8,.int .u8,.int .u8,.int .u8,.int .u8,.int .u8,.int .u8,.int .u8,.int .u8,.int .u8,.int .u8,.int .u8,.int .u8,.int .u8,.int .u8],true,24,.array 24 5,false⟩),
 (253,⟨false,[],false,0,.tuple [22,9],false⟩),
 (255,⟨false,[],false,0,.tuple [21,3],false⟩),
 (259,⟨true,[.ptr],false,8,.pt,true⟩),
 (260,⟨true,[.ptr],false,8,.pt,true⟩),
 (262,⟨true,[.str],true,16,.struct [(0,9)],false⟩),
 (264,⟨true,[.int .u64,.int .u64,.int .u64,.int .u64,.int .u64,.int .u64,.int .u64,.int .u64,.int .u64,.int .u64,.int .u64,.int .u64,.int .u64,.int .u64,.int .u64,.int .u64,.int .u64,.int .u64,.int .u64,.int .u64],true,160,.array 20 241,false⟩),
 (265,⟨true,[.int .u32],false,4,.num .u32,false⟩),
 (274,⟨true,[.int .u8,.int .u8],true,2,.struct [(0,5),(1,5)],false⟩),
 (275,⟨true,[.int .u8,.int .u8,.int .u8,.int .u8,.int .u8,.int .u8,.int .u8,.int .u8,.int .u8,.int .u8,.int .u8,.int .u8,.int .u8,.int .u8,.int .u8,.int .u8,.int .u8,.int .u8,.int .u8,.int .u8,.int .u8,.int .u8,.int .u8,.int .u8,.int .u8,.int .u8,.int .u8,.int .u8,.int .u8,.int .u8,.int .u8,.int .u8],true,32,.array 16 274,false⟩),
 (277,⟨false,[],false,0,.tuple [265,265],false⟩),
 (279,⟨true,[.int .u8,.int .u8,.int .u8,.int .u8,.int .u8,.int .u8,.int .u8,.int .u8,.int .u8,.int .u8,.int .u8,.int .u8,.int .u8,.int .u8,.int .u8,.int .u8,.int .u8,.int .u8,.int .u8,.int .u8,.int .u8,.int .u8,.int .u8,.int .u8,.int .u8,.int .u8,.int .u8,.int .u8,.int .u8,.int .u8,.int .u8,.int .u8],true,32,.array 32 5,false⟩)]
def Kd(t:Nat):TI:=wz H3 t
abbrev dP:Func:=Tryz.f90
abbrev pA:Func:=Tryz.f124
abbrev py:Func:=Tryz.f169
abbrev mw:Func:=Tryz.f178
def L7:List (Nat×FC):=[(166,{mu:=[(1,.one (.obj [.vec 1]))],own:=[]}),(98,{mu:=[(2,.one (.vec))],own:=[0]}),(16700165,{mu:=[(1,.fn [some (.obj [.vec 1])])],own:=[]}),(129,{mu:=[(2,.one (.obj [.vec 2]))],own:=[]}),(13100129,{mu:=[(1,.fn [some (.obj [.lk .ptr])]),(2,.one (.obj [.vec 2]))],own:=[]}),(13200129,{mu:=[(1,.fn [some (.obj [.lk .ptr])]),(2,.one (.obj [.vec 2]))],own:=[]}),(13400129,{mu:=[(1,.fn [some (.obj [.lk .ptr])]),(2,.one (.obj [.vec 2]))],own:=[]}),(13600129,{mu:=[(1,.fn [some (.obj [.lk .ptr,.lk .ptr])]),(2,.one (.obj [.vec 2]))],own:=[]}),(130,{mu:=[(1,.one (.obj [.lk .ptr]))],own:=[]}),(131,{mu:=[(1,.one (.obj [.lk .ptr]))],own:=[]}),(133,{mu:=[(1,.one (.obj [.lk .ptr]))],own:=[]}),(135,{mu:=[(1,.one (.obj [.lk .ptr,.lk .ptr]))],own:=[]}),(65,{mu:=[(1,.one (.obj [.vec 2])),(2,.one (.obj [.lk .ptr])),(3,.xR 65 [some 0,some 2,none])],own:=[]}),(151,{mu:=[(2,.xR 151 [none,some 0,some 1]),(3,.one (.obj [.lk .sl])),(4,.one (.obj [.lk (.int .i64)]))],own:=[]}),(66,{mu:=[(3,.one (.vec))],own:=[0]}),(105,{mu:=[(2,.one (.vec))],own:=[0]}),(29,{mu:=[(0,.one (.obj [.lk .sl,.lk (.int .i64)]))],own:=[]}),(112,{mu:=[(3,.one (.obj [.vec 1,.lk (.int .i64)]))],own:=[]}),(80,{mu:=[(0,.one (.obj [.lk .sl,.lk (.int .i64)]))],own:=[]}),(27,{mu:=[],own:=[0],ow:=[.sl,.int .i64]}),(15,{mu:=[],own:=[0]}),(23,{mu:=[],own:=[0],oa:=[.vec 1,.lk .str,.lk .str]}),(44,{mu:=[],own:=[0],oa:=[.vec 1,.lk .str,.lk .str]}),(116,{mu:=[(0,.one (.obj [.lk (.int .i64),.lk .bool]))],own:=[]}),(117,{mu:=[(0,.one (.obj [.lk (.int .i64),.lk .bool]))],own:=[]}),(118,{mu:=[(0,.one (.obj [.lk (.int .i64),.lk .bool]))],own:=[]}),(107,{mu:=[(0,.one (.obj [.lk .sl,.lk (.int .i64)]))],own:=[]}),(50,{mu:=[(0,.one (.obj [.lk .sl,.lk (.int .i64)]))],own:=[]}),(106,{mu:=[(0,.one (.obj [.lk .sl,.lk (.int .i64)]))],own:=[]}),(82,{mu:=[(0,.one (.obj [.lk .sl,.lk (.int .i64)]))],own:=[]}),(52,{mu:=[(0,.one (.obj [.lk .sl,.lk (.int .i64)]))],own:=[]}),(81,{mu:=[(0,.one (.obj [.lk .sl,.lk (.int .i64)]))],own:=[]}),(51,{mu:=[(0,.one (.obj [.lk .sl,.lk (.int .i64)]))],own:=[]}),(28,{mu:=[(0,.one (.obj [.lk .sl,.lk (.int .i64)]))],own:=[]}),(42,{mu:=[(0,.one (.obj [.lk .sl,.lk (.int .i64)]))],own:=[]}),(49,{mu:=[],own:=[0],oa:=[.lk .str,.vec 1,.lk .str]}),(8,{mu:=[],own:=[0],oa:=[.lk .str,.vec 1,.lk .str]}),(32,{mu:=[],own:=[0],oa:=[.lk .str,.vec 1,.lk .str]}),(11,{mu:=[],own:=[0]}),(64,{mu:=[(1,.one (.obj [.lk .str]))],own:=[]}),(6500063,{mu:=[(1,.fn [some (.obj [.lk .str])])],own:=[]}),(38,{mu:=[(0,.one (.cq false [.vec 1]))],own:=[]})]
def cn(f:Nat):FC:=zw L7 f
theorem AW:(H3.all fun p=>!p.2.kn||p.2.Ct Tryz.prog p.1)=true:=by kernel_rfl
theorem sZ:cL Tryz.prog Kd:=uq AW
theorem mixed:Tryz.prog.follows .mixedOrders=true:=by kernel_rfl
abbrev NZ(r:AV)(k:Tree):Tree:=.ak (LK.has .ptr r/\r.isNil=false) k
abbrev NP(r:AV)(k:Tree):Tree:=.ak (LK.has .ptr r) k
abbrev NS(r:AV)(k:Tree):Tree:=.ak (LK.has .str r) k
abbrev NB(r:AV)(k:Tree):Tree:=.ak (LK.has .bool r) k
abbrev NL(r:AV)(k:Tree):Tree:=.ak (LK.has .sl r) k
abbrev NI(r:AV)(k:Tree):Tree:=.ak (LK.has (.int .i64) r) k
abbrev gY(l:List AV)(k:Tree):Tree:=.ak (LK.has .ptr (l.headD .any)/\1<=l.length) k
abbrev oV(l:List AV)(k:Tree):Tree:=.ak (LK.has .str (l.headD .any)/\1<=l.length) k
abbrev mY(l:List AV)(k:Tree):Tree:=.ak (LK.has .sl (l.headD .any)/\1<=l.length) k
abbrev NT(r:AV)(k:Tree):Tree:=.ak (r=.da [r.comp 0,r.comp 1]) k
abbrev NA(r:AV)(k:Tree):Tree:=.ak (r=.agg r.cs/\r.cs.length=2/\bY [.str,.sl] r.cs 0) k
abbrev NE(l:List AV)(k:Tree):Tree:=.ak (bY [.str,.sl] l 0/\2<=l.length) k
abbrev NG(r:AV)(i:Int)(z:Nat)(k:Tree):Tree:=.ak (LK.has .sl r/\0<=i/\i<r.aM.length/\(r.aM.getD i.toNat []).length=z) k
abbrev RL:Type:=Nat->List AV->List Ob->Prop
abbrev VS(x:ByteArray):AV:=.v (.string x)
abbrev VI(x:Int):AV:=.v (.int .i64 x)
abbrev VB(x:Bool):AV:=.v (.bool x)
abbrev _root_.List.hA(l:List AV):AV:=l.headD .any
abbrev _root_.List.hO(l:List Ob):Ob:=l.headD .dead
abbrev _root_.Go.VL.AV.ix(a:AV)(i:Int):List AV:=a.aM.getD i.toNat []
abbrev dH(n:Nat)(t:Tree)(R:AV->List Ob->Prop):Prop:=ek Tryz.prog n t fun _ xs obs=>R (xs.headD .any) obs
abbrev kt(n:Nat)(t:Tree)(S:List AV->List Ob->RL->Prop)(R:RL):Prop:=ek Tryz.prog n t (Bl (fun ys o=>S ys o R) R)
theorem gQ{n:Nat}{c:Code}{li:LI}{xs:List AV}{obs:List Ob}{R:RL}{t:Tree}(lis:List (Nat×LI))(h:ek Tryz.prog n t (Bl (fun ys o=>cm Tryz.prog n c li ys o R) R))(e:round Kd cn n lis c li xs obs=t:=by kernel_rfl):cm Tryz.prog n c li xs obs R:=cm.La (cn:=cn) (lis:=lis) sZ mixed e h
theorem L6(n:Nat)(t:Tree)(R:AV->List Ob->Prop):dH n t R=ek Tryz.prog n t fun _ xs obs=>R (xs.headD .any) obs:=rfl
theorem LW(n:Nat)(t:Tree)(S:List AV->List Ob->RL->Prop)(R:RL):kt n t S R=ek Tryz.prog n t (Bl (fun ys o=>S ys o R) R):=rfl
theorem OS(x:ByteArray):VS x=.v (.string x):=rfl
theorem OB(x:Int):VI x=.v (.int .i64 x):=rfl
theorem OI(x:Bool):VB x=.v (.bool x):=rfl
theorem OK(l:List AV):l.hA=l.headD .any:=rfl
theorem OD(l:List Ob):l.hO=l.headD .dead:=rfl
theorem OR(a:AV)(i:Int):a.ix i=a.aM.getD i.toNat []:=rfl
theorem oQ{f:Nat}{asq:List AV}{ins:List Ob}{R:AV->List Ob->Prop}{t:Tree}(lis:List (Nat×LI))(F:Func)(h:ek Tryz.prog F.ntmps t fun _ xs obs=>R (xs.headD .any) obs)(hf:Tryz.prog.funcs[f]?=some F:=by kernel_rfl)(hnm:(F.name=="runtime.NumGoroutine")=false:=by kernel_rfl)(e:main Kd cn lis {} F asq ins=t:=by kernel_rfl):au Tryz.prog f asq ins R:=au.La (cn:=cn) (lis:=lis) (fc:={}) sZ mixed hf hnm e h
theorem oF{f:Nat}{asq:List AV}{ins:List Ob}{R:AV->List Ob->Prop}{t:Tree}(lis:List (Nat×LI))(fc:FC)(F:Func)(h:ek Tryz.prog F.ntmps t fun _ xs obs=>R (xs.headD .any) obs)(hf:Tryz.prog.funcs[f]?=some F:=by kernel_rfl)(hnm:(F.name=="runtime.NumGoroutine")=false:=by kernel_rfl)(e:main Kd cn lis fc F asq ins=t:=by kernel_rfl):au Tryz.prog f asq ins R:=au.La (cn:=cn) (lis:=lis) (fc:=fc) sZ mixed hf hnm e h
theorem uQ{P:Program}{f:Nat}{asq bs:List AV}{R:AV->List Ob->Prop}(h:u5 asq bs)(hf:au P f bs [] R):au P f asq [] R:=au.ox cu (au.up h hf)
theorem Ox(r:AV)(k:Tree):NZ r k=.ak (LK.has .ptr r/\r.isNil=false) k:=rfl
theorem OQ(r:AV)(k:Tree):NP r k=.ak (LK.has .ptr r) k:=rfl
theorem OE(r:AV)(k:Tree):NS r k=.ak (LK.has .str r) k:=rfl
theorem OL(r:AV)(k:Tree):NB r k=.ak (LK.has .bool r) k:=rfl
theorem ON(r:AV)(k:Tree):NL r k=.ak (LK.has .sl r) k:=rfl
theorem OP(r:AV)(k:Tree):NI r k=.ak (LK.has (.int .i64) r) k:=rfl
theorem MF(l:List AV)(k:Tree):gY l k=.ak (LK.has .ptr (l.headD .any)/\1<=l.length) k:=rfl
theorem MN(l:List AV)(k:Tree):oV l k=.ak (LK.has .str (l.headD .any)/\1<=l.length) k:=rfl
theorem NW(l:List AV)(k:Tree):mY l k=.ak (LK.has .sl (l.headD .any)/\1<=l.length) k:=rfl
theorem OG(r:AV)(k:Tree):NT r k=.ak (r=.da [r.comp 0,r.comp 1]) k:=rfl
theorem Oy(r:AV)(k:Tree):NA r k=.ak (r=.agg r.cs/\r.cs.length=2/\bY [.str,.sl] r.cs 0) k:=rfl
theorem OJ(l:List AV)(k:Tree):NE l k=.ak (bY [.str,.sl] l 0/\2<=l.length) k:=rfl
theorem OO(r:AV)(i:Int)(z:Nat)(k:Tree):NG r i z k=.ak (LK.has .sl r/\0<=i/\i<r.aM.length/\(r.aM.getD i.toNat []).length=z) k:=rfl
set_option linter.defProp false in
def zq:=aF @Ox (aF @OQ (aF @OE (aF @OL (aF @ON (aF @OP (aF @MF (aF @MN (aF @NW (aF @OG (aF @Oy (aF @OJ (aF @OO (aF @L6 (aF @LW (aF @OS (aF @OB (aF @OI ((aF @OK (aF @OD (aF @OR @zp)))))))))))))))))))))
variable {R:AV->List Ob->Prop} {U:RL}
def EZ:LI:={hd:={bI:=[(5,.k .sl),(9,.k (.int .i64))]},xs:={bI:=[(5,.k .sl)]},rt:={bI:=[(2,.k .bool)]},ex:=0}
def Ho:Code:=cC (cw Tryz.f5) 9
def E3:LI:={hd:={bI:=[(5,.k .sl),(9,.k (.int .i64)),(10,.k (.int .i64)),(11,.k .bool),(12,.k (.int .i64))]},xs:={bI:=[(5,.k .sl),(9,.k (.int .i64)),(11,.k .bool)]},rt:={bI:=[(2,.k .bool)]},ex:=2}
def JP:Code:=cC (cw Tryz.f5) 14
def Fb:List (Nat×LI):=[(9,EZ),(14,E3)]
def JS(a0:AV):Tree :=
 NL a0<|.test (decide ((a0.aM.length:Int)>(1048576:Int))) (.done 0 [VB true] []) (.call 19 [a0] [] fun r1 o1=>NT r1<|NS (r1.comp 0)<|NS (r1.comp 1)<|.call 18 [VS ((r1.comp 0).aj),VS ((r1.comp 1).aj)] [] fun r2 o2=>NT r2<|NL (r2.comp 0)<|NB (r2.comp 1)<|.call 20 [VS ((r1.comp 0).aj),VS ((r1.comp 1).aj)] [] fun r3 o3=>NT r3<|NL (r3.comp 0)<|NB (r3.comp 1)<|.test (!(((r2.comp 1).toBool)==((r3.comp 1).toBool))) (.test (((r2.comp 1).toBool)==((r3.comp 1).toBool)) (.call 21 [(r2.comp 0),(r3.comp 0)] [] fun r4 o4=>NB r4<|.done 0 [VB r4.toBool] []) (.done 0 [VB false] [])) (.call 21 [(r2.comp 0),(r3.comp 0)] [] fun r5 o5=>NB r5<|.test (!r5.toBool) (.test (((r2.comp 1).toBool)==((r3.comp 1).toBool)) (.call 21 [(r2.comp 0),(r3.comp 0)] [] fun r6 o6=>NB r6<|.done 0 [VB r6.toBool] []) (.done 0 [VB false] [])) (.test (!((r2.comp 1).toBool)) (.test (((r2.comp 1).toBool)==((r3.comp 1).toBool)) (.call 21 [(r2.comp 0),(r3.comp 0)] [] fun r7 o7=>NB r7<|.done 0 [VB r7.toBool] []) (.done 0 [VB false] [])) (.loop Ho EZ [(r2.comp 0),VI 1] [] (fun y11 q11=>NL (y11.hA)<|NL (y11.hA)<|.test (decide ((((y11.hA).aM).length:Int)>(0:Int))) (NG (y11.hA) 0 1<|mY ((y11.hA).ix (0:Int))<|NL (((y11.hA).ix (0:Int)).hA)<|.done 0 [VB ((((((y11.hA).ix (0:Int)).hA).aM).length:Int)==(0:Int))] []) (.done 0 [VB false] [])) (fun y11 q11=>NB (y11.hA)<|.done 0 [VB ((y11.hA).toBool)] [])))))
theorem Lt(a0:AV)(ha0:LK.has .sl a0)(h:dH 110 (JS a0) R):au Tryz.prog 5 [a0] [] R :=
 uQ (ah (bT ha0) aD) (oQ Fb Tryz.f5 h)
def DB(x5:AV)(x9:Int):Tree :=
 NL x5<|NI (VI x9)<|NL x5<|.test (decide (x9<(x5.aM.length:Int))) (NG x5 x9 1<|mY (x5.ix x9)<|NL ((x5.ix x9).hA)<|.loop JP E3 [x5,VI x9,VI ((((x5.ix x9).hA).aM).length:Int),VB false,VI 0] [] (fun y1 q1=>NL (y1.hA)<|NI (y1.tail.hA)<|NB (y1.tail.tail.hA)<|.test (!((y1.tail.tail.hA).toBool)) (.done 2 [VB false] []) (.done 0 [(y1.hA),VI (IntKind.wrap .i64 (((y1.tail.hA).toInt)+1))] [])) (fun y1 q1=>NB (y1.hA)<|.done 2 [VB ((y1.hA).toBool)] [])) (.done 1 [x5] [])
abbrev Eh:=cm Tryz.prog 110 Ho EZ
theorem IU(x5:AV)(x9:Int)(h:kt 110 (DB x5 x9) Eh U):Eh [x5,VI x9] [] U :=
 gQ Fb h
def Dt(x5:AV)(x9:Int)(x10:Int)(x11:Bool)(x12:Int):Tree :=
 NL x5<|NI (VI x9)<|NI (VI x10)<|NB (VB x11)<|NI (VI x12)<|.test (decide (x12<x9)) (.test (x10==(0:Int)) (.done 2 [VB false] []) (NG x5 x12 1<|mY (x5.ix x12)<|NG x5 x9 1<|mY (x5.ix x9)<|.call 13 [((x5.ix x12).hA),((x5.ix x9).hA)] [] fun r1 o1=>NB r1<|.test r1.toBool (.done 2 [VB false] []) (.test x11 (.done 0 [x5,VI x9,VI x10,VB true,VI (IntKind.wrap .i64 (x12+1))] []) (NG x5 x12 1<|mY (x5.ix x12)<|NG x5 x9 1<|mY (x5.ix x9)<|.ak (LK.has .sl ((x5.ix x9).hA)/\0<=(0:Int)/\(0:Int)<=(IntKind.wrap .i64 (x10-1))/\(IntKind.wrap .i64 (x10-1))<=((((x5.ix x9).hA).aM).length:Int))<|.call 13 [((x5.ix x12).hA),.sl (((((x5.ix x9).hA).aM).take (bE (IntKind.wrap .i64 (x10-1)))).drop (bE 0))] [] fun r2 o2=>NB r2<|.done 0 [x5,VI x9,VI x10,VB r2.toBool,VI (IntKind.wrap .i64 (x12+1))] [])))) (.done 1 [x5,VI x9,VB x11] [])
abbrev DJ:=cm Tryz.prog 110 JP E3
theorem KU(x5:AV)(x9:Int)(x10:Int)(x11:Bool)(x12:Int)(h:kt 110 (Dt x5 x9 x10 x11 x12) DJ U):DJ [x5,VI x9,VI x10,VB x11,VI x12] [] U :=
 gQ Fb h
def FM:LI:={hd:={bI:=[(0,.k .sl),(1,.k .sl),(5,.k (.int .i64))]},xs:={},rt:={bI:=[(4,.k .bool)]},ex:=0}
def JN:Code:=cC (cw Tryz.f13) 4
def Ik:List (Nat×LI):=[(4,FM)]
def Jv(a0:AV)(a1:AV):Tree :=
 NL a0<|NL a1<|.test ((a0.aM.length:Int) != (a1.aM.length:Int)) (.done 0 [VB false] []) (.loop JN FM [a0,a1,VI 0] [] (fun y1 q1=>.done 0 [VB true] []) (fun y1 q1=>NB (y1.hA)<|.done 0 [VB ((y1.hA).toBool)] []))
theorem L0(a0:AV)(a1:AV)(ha0:LK.has .sl a0)(ha1:LK.has .sl a1)(h:dH 26 (Jv a0 a1) R):au Tryz.prog 13 [a0,a1] [] R :=
 uQ (ah (bT ha0) (ah (bT ha1) aD)) (oQ Ik Tryz.f13 h)
def EE(x0:AV)(x1:AV)(x5:Int):Tree :=
 NL x0<|NL x1<|NI (VI x5)<|NL x0<|.test (decide (x5<(x0.aM.length:Int))) (NG x0 x5 1<|.ak (LK.has (.int .i64) ((x0.ix x5).hA)/\1<=(x0.ix x5).length)<|NG x1 x5 1<|.ak (LK.has (.int .i64) ((x1.ix x5).hA)/\1<=(x1.ix x5).length)<|.test ((((x0.ix x5).hA).toInt) != (((x1.ix x5).hA).toInt)) (.done 2 [VB false] []) (.done 0 [x0,x1,VI (IntKind.wrap .i64 (x5+1))] [])) (.done 1 [] [])
abbrev E7:=cm Tryz.prog 26 JN FM
theorem Jt(x0:AV)(x1:AV)(x5:Int)(h:kt 26 (EE x0 x1 x5) E7 U):E7 [x0,x1,VI x5] [] U :=
 gQ Ik h
def DN:LI:={hd:={bI:=[(20,.k .sl),(21,.k (.int .i64)),(22,.k (.int .i64))],dY:=[(8,1)]},xs:={dY:=[(8,1)]},rt:={},ex:=0}
def Jo:Code:=cC (cw Tryz.f18) 6
def II:List (Nat×LI):=[(6,DN)]
def IJ(a0:ByteArray)(a1:ByteArray):Tree :=
 .call 40 [VS a0,VS a1] [] fun r1 o1=>NT r1<|NL (r1.comp 0)<|NB (r1.comp 1)<|.test (!((r1.comp 1).toBool)) (.done 0 [.da [.v (.slice none 0 0),VB false]] []) (NL (r1.comp 0)<|.loop Jo DN [(r1.comp 0),VI (((r1.comp 0).aM).length:Int),VI 0] [.vec 1 []] (fun y2 q2=>.ak (((q2.drop 0).hO)=.vec 1 ((q2.drop 0).hO).es)<|.done 0 [.da [.sl ((q2.hO).es),VB true]] []) (fun y2 q2=>.done 0 [.da [.any,.any]] []))
theorem Lz(a0:ByteArray)(a1:ByteArray)(h:dH 33 (IJ a0 a1) R):au Tryz.prog 18 [VS a0,VS a1] [] R :=
 uQ (ah (aC _) (ah (aC _) aD)) (oQ II Tryz.f18 h)
def ET(x20:AV)(x21:Int)(x22:Int)(e8:List (List AV)):Tree :=
 NL x20<|NI (VI x21)<|NI (VI x22)<|.ak (Ob.vec 1 e8=.vec 1 e8)<|.test (decide (x22<x21)) (NG x20 x22 2<|.ak (bY [.ptr,.sl] (x20.ix x22) 0/\2<=(x20.ix x22).length)<|.ak (cb 1 [[((x20.ix x22).getD 1 .any)]]/\((e8.length)+([[((x20.ix x22).getD 1 .any)]]:List (List AV)).length)*24<=140737488355328)<|.done 0 [x20,VI x21,VI (IntKind.wrap .i64 (x22+1))] [.vec 1 (e8++([[((x20.ix x22).getD 1 .any)]]:List (List AV)))]) (.done 1 [] [.vec 1 e8])
abbrev FL:=cm Tryz.prog 33 Jo DN
theorem Ju(x20:AV)(x21:Int)(x22:Int)(e8:List (List AV))(h:kt 33 (ET x20 x21 x22 e8) FL U):FL [x20,VI x21,VI x22] [.vec 1 e8] U :=
 gQ II h
def GM(a0:AV):Tree :=
 .call 27 [a0] [] fun r1 o1=>.ak (r1=.ref 0 0/\(o1.hO)=.cells (o1.hO).cs/\(o1.hO).cs.length=2/\bY [.sl,.int .i64] ((o1.hO).cs) 0)<|.call 28 [.ref 0 0] [.cells [((o1.hO).cs.getD 0 .any),VI (((o1.hO).cs.getD 1 .any).toInt)]] fun r2 o2=>.ak ((o2.hO)=.cells (o2.hO).cs)<|.ak (aO [.lk .sl,.lk (.int .i64)] ((o2.hO).cs) 0 1 o2.tail)<|NT r2<|NS (r2.comp 0)<|NS (r2.comp 1)<|.done 0 [.da [VS ((r2.comp 0).aj),VS ((r2.comp 1).aj)]] []
theorem Mm(a0:AV)(ha0:LK.has .sl a0)(h:dH 9 (GM a0) R):au Tryz.prog 19 [a0] [] R :=
 uQ (ah (bT ha0) aD) (oQ [] Tryz.f19 h)
def C3:LI:={hd:={bI:=[(6,.k .sl),(7,.k .bool),(9,.k (.int .i64))],dY:=[(8,1)]},xs:={bI:=[(7,.k .bool)],dY:=[(8,1)]},rt:={},ex:=0}
def Gd:Code:=cC (cw Tryz.f20) 4
def I3:List (Nat×LI):=[(4,C3)]
def KO(a0:ByteArray)(a1:ByteArray):Tree :=
 .call 41 [VS a0,VS a1] [] fun r1 o1=>NT r1<|NL (r1.comp 0)<|NB (r1.comp 1)<|.loop Gd C3 [(r1.comp 0),VB ((r1.comp 1).toBool),VI 0] [.vec 1 []] (fun y2 q2=>NB (y2.hA)<|.ak (((q2.drop 0).hO)=.vec 1 ((q2.drop 0).hO).es)<|.done 0 [.da [.sl ((q2.hO).es),VB ((y2.hA).toBool)]] []) (fun y2 q2=>.done 0 [.da [.any,.any]] [])
theorem MU(a0:ByteArray)(a1:ByteArray)(h:dH 36 (KO a0 a1) R):au Tryz.prog 20 [VS a0,VS a1] [] R :=
 uQ (ah (aC _) (ah (aC _) aD)) (oQ I3 Tryz.f20 h)
def AP(x6:AV)(x7:Bool)(x9:Int)(e8:List (List AV)):Tree :=
 NL x6<|NB (VB x7)<|NI (VI x9)<|.ak (Ob.vec 1 e8=.vec 1 e8)<|NL x6<|.test (decide (x9<(x6.aM.length:Int))) (.test x7 (NG x6 x9 3<|mY (x6.ix x9)<|.ak (cb 1 [[((x6.ix x9).hA)]]/\((e8.length)+([[((x6.ix x9).hA)]]:List (List AV)).length)*24<=140737488355328)<|.done 0 [x6,VB x7,VI (IntKind.wrap .i64 (x9+1))] [.vec 1 (e8++([[((x6.ix x9).hA)]]:List (List AV)))]) (.done 1 [VB x7] [.vec 1 e8])) (.done 1 [VB x7] [.vec 1 e8])
abbrev CO:=cm Tryz.prog 36 Gd C3
theorem FR(x6:AV)(x7:Bool)(x9:Int)(e8:List (List AV))(h:kt 36 (AP x6 x7 x9 e8) CO U):CO [x6,VB x7,VI x9] [.vec 1 e8] U :=
 gQ I3 h
def DO:LI:={hd:={bI:=[(0,.k .sl),(1,.k .sl),(5,.k (.int .i64))]},xs:={},rt:={bI:=[(4,.k .bool)]},ex:=0}
def IE:Code:=cC (cw Tryz.f21) 4
def Jm:List (Nat×LI):=[(4,DO)]
def Ea(a0:AV)(a1:AV):Tree :=
 NL a0<|NL a1<|.test ((a0.aM.length:Int) != (a1.aM.length:Int)) (.done 0 [VB false] []) (.loop IE DO [a0,a1,VI 0] [] (fun y2 q2=>.done 0 [VB true] []) (fun y2 q2=>NB (y2.hA)<|.done 0 [VB ((y2.hA).toBool)] []))
theorem Hu(a0:AV)(a1:AV)(ha0:LK.has .sl a0)(ha1:LK.has .sl a1)(h:dH 27 (Ea a0 a1) R):au Tryz.prog 21 [a0,a1] [] R :=
 uQ (ah (bT ha0) (ah (bT ha1) aD)) (oQ Jm Tryz.f21 h)
def A7(x0:AV)(x1:AV)(x5:Int):Tree :=
 NL x0<|NL x1<|NI (VI x5)<|NL x0<|.test (decide (x5<(x0.aM.length:Int))) (NG x0 x5 1<|mY (x0.ix x5)<|NG x1 x5 1<|mY (x1.ix x5)<|.call 13 [((x0.ix x5).hA),((x1.ix x5).hA)] [] fun r1 o1=>NB r1<|.test (!r1.toBool) (.done 2 [VB false] []) (.done 0 [x0,x1,VI (IntKind.wrap .i64 (x5+1))] [])) (.done 1 [] [])
abbrev Ey:=cm Tryz.prog 27 IE DO
theorem E6(x0:AV)(x1:AV)(x5:Int)(h:kt 27 (A7 x0 x1 x5) Ey U):Ey [x0,x1,VI x5] [] U :=
 gQ Jm h
def Gj(a0:AV):Tree :=
 NL a0<|.test (decide ((a0.aM.length:Int)>(2000:Int))) (.ak (LK.has .sl a0/\0<=(0:Int)/\(0:Int)<=(2000:Int)/\(2000:Int)<=(a0.aM.length:Int))<|.done 0 [.ref 0 0] [.cells [.sl ((a0.aM.take (bE 2000)).drop (bE 0)),VI 0]]) (.done 0 [.ref 0 0] [.cells [a0,VI 0]])
theorem NQ(a0:AV)(ha0:LK.has .sl a0)(h:dH 11 (Gj a0) R):au Tryz.prog 27 [a0] [] R :=
 uQ (ah (bT ha0) aD) (oF [] {mu:=[],own:=[0],ow:=[.sl,.int .i64]} Tryz.f27 h)
def Ki(a0_0:AV)(a0_1:Int):Tree :=
 .call 50 [.ref 0 0] [.cells [a0_0,VI a0_1]] fun r1 o1=>.ak ((o1.hO)=.cells (o1.hO).cs)<|.ak (aO [.lk .sl,.lk (.int .i64)] ((o1.hO).cs) 0 1 o1.tail)<|NS r1<|.call 29 [.ref 0 0,VI 12] [.cells [((o1.hO).cs.getD 0 .any),VI (((o1.hO).cs.getD 1 .any).toInt)]] fun r2 o2=>.ak ((o2.hO)=.cells (o2.hO).cs)<|.ak (aO [.lk .sl,.lk (.int .i64)] ((o2.hO).cs) 0 1 o2.tail)<|NI r2<|.test (r2.toInt==(0:Int)) (.call 51 [.ref 0 0] [.cells [((o2.hO).cs.getD 0 .any),VI (((o2.hO).cs.getD 1 .any).toInt)]] fun r3 o3=>.ak ((o3.hO)=.cells (o3.hO).cs)<|.ak (aO [.lk .sl,.lk (.int .i64)] ((o3.hO).cs) 0 1 o3.tail)<|NT r3<|NS (r3.comp 0)<|NS (r3.comp 1)<|.done 0 [.da [VS ((r3.comp 0).aj),VS ((r3.comp 1).aj)]] [.cells [((o3.hO).cs.getD 0 .any),VI (((o3.hO).cs.getD 1 .any).toInt)]]) (.call 52 [.ref 0 0,VS r1.aj] [.cells [((o2.hO).cs.getD 0 .any),VI (((o2.hO).cs.getD 1 .any).toInt)]] fun r4 o4=>.ak ((o4.hO)=.cells (o4.hO).cs)<|.ak (aO [.lk .sl,.lk (.int .i64)] ((o4.hO).cs) 0 1 o4.tail)<|NS r4<|.done 0 [.da [VS r1.aj,VS r4.aj]] [.cells [((o4.hO).cs.getD 0 .any),VI (((o4.hO).cs.getD 1 .any).toInt)]])
theorem MH(a0_0:AV)(a0_1:Int)(ha0_0:LK.has .sl a0_0)(h:dH 18 (Ki a0_0 a0_1) R):au Tryz.prog 28 [.ref 0 0] [.cells [a0_0,VI a0_1]] R :=
 au.ox (bn (ca (ah (bT ha0_0) (ah (aC _) aD))) cu) (au.up (ah (aC _) aD) (oF [] {mu:=[(0,.one (.obj [.lk .sl,.lk (.int .i64)]))],own:=[]} Tryz.f28 h))
def Jw(a0_0:AV)(a0_1:Int)(a1:Int):Tree :=
 .test (decide (a1<(1:Int))) (.done 0 [VI 0] [.cells [a0_0,VI (IntKind.wrap .i64 (a0_1+1))]]) (NL a0_0<|.test ((a0_0.aM.length:Int)==(0:Int)) (.done 0 [VI 0] [.cells [a0_0,VI (IntKind.wrap .i64 (a0_1+1))]]) (NL a0_0<|.test (decide ((IntKind.wrap .i64 ((IntKind.wrap .i64 (a0_1+1))-1))<(a0_0.aM.length:Int))) (.ak (LK.has .sl a0_0/\0<=(IntKind.wrap .i64 ((IntKind.wrap .i64 (a0_1+1))-1))/\(IntKind.wrap .i64 ((IntKind.wrap .i64 (a0_1+1))-1))<a0_0.aM.length/\(a0_0.ix (IntKind.wrap .i64 ((IntKind.wrap .i64 (a0_1+1))-1))).length=1)<|.ak (LK.has (.int .u8) ((a0_0.ix (IntKind.wrap .i64 ((IntKind.wrap .i64 (a0_1+1))-1))).hA)/\1<=(a0_0.ix (IntKind.wrap .i64 ((IntKind.wrap .i64 (a0_1+1))-1))).length)<|.ak (¬a1=0)<|.done 0 [VI (dc (IntKind.wrap .i64 (((a0_0.ix (IntKind.wrap .i64 ((IntKind.wrap .i64 (a0_1+1))-1))).hA).toInt)) a1)] [.cells [a0_0,VI (IntKind.wrap .i64 (a0_1+1))]]) (NL a0_0<|.ak (¬(a0_0.aM.length:Int)=0)<|.ak (LK.has .sl a0_0/\0<=(dc (IntKind.wrap .i64 ((IntKind.wrap .i64 (a0_1+1))-1)) (a0_0.aM.length:Int))/\(dc (IntKind.wrap .i64 ((IntKind.wrap .i64 (a0_1+1))-1)) (a0_0.aM.length:Int))<a0_0.aM.length/\(a0_0.ix (dc (IntKind.wrap .i64 ((IntKind.wrap .i64 (a0_1+1))-1)) (a0_0.aM.length:Int))).length=1)<|.ak (LK.has (.int .u8) ((a0_0.ix (dc (IntKind.wrap .i64 ((IntKind.wrap .i64 (a0_1+1))-1)) (a0_0.aM.length:Int))).hA)/\1<=(a0_0.ix (dc (IntKind.wrap .i64 ((IntKind.wrap .i64 (a0_1+1))-1)) (a0_0.aM.length:Int))).length)<|NL a0_0<|.ak (¬(a0_0.aM.length:Int)=0)<|.ak (LK.has .sl a0_0/\0<=(dc (IntKind.wrap .i64 ((IntKind.wrap .i64 ((IntKind.wrap .i64 ((IntKind.wrap .i64 (a0_1+1))-1))*7))+3)) (a0_0.aM.length:Int))/\(dc (IntKind.wrap .i64 ((IntKind.wrap .i64 ((IntKind.wrap .i64 ((IntKind.wrap .i64 (a0_1+1))-1))*7))+3)) (a0_0.aM.length:Int))<a0_0.aM.length/\(a0_0.ix (dc (IntKind.wrap .i64 ((IntKind.wrap .i64 ((IntKind.wrap .i64 ((IntKind.wrap .i64 (a0_1+1))-1))*7))+3)) (a0_0.aM.length:Int))).length=1)<|.ak (LK.has (.int .u8) ((a0_0.ix (dc (IntKind.wrap .i64 ((IntKind.wrap .i64 ((IntKind.wrap .i64 ((IntKind.wrap .i64 (a0_1+1))-1))*7))+3)) (a0_0.aM.length:Int))).hA)/\1<=(a0_0.ix (dc (IntKind.wrap .i64 ((IntKind.wrap .i64 ((IntKind.wrap .i64 ((IntKind.wrap .i64 (a0_1+1))-1))*7))+3)) (a0_0.aM.length:Int))).length)<|NL a0_0<|.ak (¬(a0_0.aM.length:Int)=0)<|.ak (¬(64:Int)=0)<|.ak (¬a1=0)<|.done 0 [VI (dc (zu .i64 (IntKind.wrap .i64 ((IntKind.wrap .i64 ((IntKind.wrap .i64 ((IntKind.wrap .i64 ((IntKind.wrap .i64 (((a0_0.ix (dc (IntKind.wrap .i64 ((IntKind.wrap .i64 (a0_1+1))-1)) (a0_0.aM.length:Int))).hA).toInt))*131))+(IntKind.wrap .i64 ((IntKind.wrap .i64 (((a0_0.ix (dc (IntKind.wrap .i64 ((IntKind.wrap .i64 ((IntKind.wrap .i64 ((IntKind.wrap .i64 (a0_1+1))-1))*7))+3)) (a0_0.aM.length:Int))).hA).toInt))*1117))))+(IntKind.wrap .i64 ((IntKind.wrap .i64 ((IntKind.wrap .i64 (a0_1+1))-1))*29))))+(IntKind.wrap .i64 ((IntKind.wrap .i64 (Int.tdiv (IntKind.wrap .i64 ((IntKind.wrap .i64 (a0_1+1))-1)) (a0_0.aM.length:Int)))*53)))) (IntKind.wrap .i64 (Int.tdiv (IntKind.wrap .i64 ((IntKind.wrap .i64 ((IntKind.wrap .i64 ((IntKind.wrap .i64 ((IntKind.wrap .i64 (((a0_0.ix (dc (IntKind.wrap .i64 ((IntKind.wrap .i64 (a0_1+1))-1)) (a0_0.aM.length:Int))).hA).toInt))*131))+(IntKind.wrap .i64 ((IntKind.wrap .i64 (((a0_0.ix (dc (IntKind.wrap .i64 ((IntKind.wrap .i64 ((IntKind.wrap .i64 ((IntKind.wrap .i64 (a0_1+1))-1))*7))+3)) (a0_0.aM.length:Int))).hA).toInt))*1117))))+(IntKind.wrap .i64 ((IntKind.wrap .i64 ((IntKind.wrap .i64 (a0_1+1))-1))*29))))+(IntKind.wrap .i64 ((IntKind.wrap .i64 (Int.tdiv (IntKind.wrap .i64 ((IntKind.wrap .i64 (a0_1+1))-1)) (a0_0.aM.length:Int)))*53)))) 64))) a1)] [.cells [a0_0,VI (IntKind.wrap .i64 (a0_1+1))]])))
theorem Lw(a0_0:AV)(a0_1:Int)(a1:Int)(ha0_0:LK.has .sl a0_0)(h:dH 99 (Jw a0_0 a0_1 a1) R):au Tryz.prog 29 [.ref 0 0,VI a1] [.cells [a0_0,VI a0_1]] R :=
 au.ox (bn (ca (ah (bT ha0_0) (ah (aC _) aD))) cu) (au.up (ah (aC _) (ah (aC _) aD)) (oF [] {mu:=[(0,.one (.obj [.lk .sl,.lk (.int .i64)]))],own:=[]} Tryz.f29 h))
def Hq(a0:ByteArray)(a1:ByteArray):Tree :=
 .call 43 [VS a0,VS a1] [] fun r1 o1=>NT r1<|NP (r1.comp 0)<|NP (r1.comp 1)<|NP (r1.comp 1)<|.test ((r1.comp 1).isNil) (.done 0 [.da [.v (.slice none 0 0),VB false]] []) (.call 65 [.agg [(r1.comp 1),.v (.slice none 0 0)],.ref 0 0,.ref 2 0,.gZ 65 [some 0,some 2,none]] [.cells [.vec 1],.vec 2 [],.cells [(r1.comp 0)]] fun r2 o2=>.ak ((o2.hO)=.cells (o2.hO).cs)<|.ak (aO [.vec 2] ((o2.hO).cs) 0 1 o2.tail)<|.ak ((o2.tail.tail.hO)=.cells (o2.tail.tail.hO).cs)<|.ak (aO [.lk .ptr] ((o2.tail.tail.hO).cs) 0 3 o2.tail.tail.tail)<|.done 0 [.da [.sl ((o2.tail.hO).es),VB (decide ((((o2.tail.hO).es).length:Int)<=(100:Int)))]] [])
theorem Lx(a0:ByteArray)(a1:ByteArray)(h:dH 28 (Hq a0 a1) R):au Tryz.prog 40 [VS a0,VS a1] [] R :=
 uQ (ah (aC _) (ah (aC _) aD)) (oQ [] Tryz.f40 h)
def JD(a0:ByteArray)(a1:ByteArray):Tree :=
 .call 45 [VS a0] [] fun r1 o1=>NT r1<|.ak ((r1.comp 0)=.agg (r1.comp 0).cs/\(r1.comp 0).cs.length=2/\bY [.str,.sl] ((r1.comp 0).cs) 0)<|NB (r1.comp 1)<|.call 47 [VS a1] [] fun r2 o2=>NT r2<|.ak ((r2.comp 0)=.agg (r2.comp 0).cs/\(r2.comp 0).cs.length=2/\bY [.str,.sl] ((r2.comp 0).cs) 0)<|NB (r2.comp 1)<|.test (!((r1.comp 1).toBool)) (.done 0 [.da [.sl [],VB false]] []) (.call 46 [VS a0,VS a1,VI 100] [] fun r3 o3=>NB r3<|.test (!r3.toBool) (.done 0 [.da [.sl [],VB false]] []) (.call 66 [.agg [VS (((r1.comp 0).cs.getD 0 .any).aj),((r1.comp 0).cs.getD 1 .any)],.agg [VS (((r2.comp 0).cs.getD 0 .any).aj),((r2.comp 0).cs.getD 1 .any)],.sl [],.vec 0] [.vec 3 []] fun r4 o4=>.ak (r4=.vec 1/\(o4.tail.hO)=.vec 3 (o4.tail.hO).es)<|.done 0 [.da [.sl ((o4.tail.hO).es),VB (decide ((((o4.tail.hO).es).length:Int)<=(100:Int)))]] []))
theorem Nj(a0:ByteArray)(a1:ByteArray)(h:dH 39 (JD a0 a1) R):au Tryz.prog 41 [VS a0,VS a1] [] R :=
 uQ (ah (aC _) (ah (aC _) aD)) (oQ [] Tryz.f41 h)
def Kz(a0:ByteArray)(a1:ByteArray):Tree :=
 .call 69 [VS a0] [] fun r1 o1=>NP r1<|NP r1<|.test r1.isNil (.done 0 [.da [.v (.pointer none),.v (.pointer none)]] []) (.call 54 [VS a0,VS a1,VI 100] [] fun r2 o2=>NT r2<|NP (r2.comp 0)<|NP (r2.comp 1)<|.done 0 [.da [(r2.comp 0),(r2.comp 1)]] [])
theorem Oa(a0:ByteArray)(a1:ByteArray)(h:dH 14 (Kz a0 a1) R):au Tryz.prog 43 [VS a0,VS a1] [] R :=
 uQ (ah (aC _) (ah (aC _) aD)) (oQ [] Tryz.f43 h)
def Hk(a0:ByteArray):Tree :=
 .call 70 [VS a0] [] fun r1 o1=>NT r1<|.ak ((r1.comp 0)=.agg (r1.comp 0).cs/\(r1.comp 0).cs.length=2/\bY [.str,.sl] ((r1.comp 0).cs) 0)<|NB (r1.comp 1)<|.test ((r1.comp 1).toBool) (.call 71 [.agg [VS (((r1.comp 0).cs.getD 0 .any).aj),((r1.comp 0).cs.getD 1 .any)]] [] fun r2 o2=>NS r2<|.done 0 [.da [.agg [VS (((r1.comp 0).cs.getD 0 .any).aj),((r1.comp 0).cs.getD 1 .any)],VB (ac r2.aj==ac (mk [114,101,99]))]] []) (.done 0 [.da [.agg [VS (((r1.comp 0).cs.getD 0 .any).aj),((r1.comp 0).cs.getD 1 .any)],VB false]] [])
theorem L8(a0:ByteArray)(h:dH 18 (Hk a0) R):au Tryz.prog 45 [VS a0] [] R :=
 uQ (ah (aC _) aD) (oQ [] Tryz.f45 h)
def KD(a0:ByteArray)(a1:ByteArray)(a2:Int):Tree :=
 .call 70 [VS a0] [] fun r1 o1=>NT r1<|.ak ((r1.comp 0)=.agg (r1.comp 0).cs/\(r1.comp 0).cs.length=2/\bY [.str,.sl] ((r1.comp 0).cs) 0)<|NB (r1.comp 1)<|.call 47 [VS a1] [] fun r2 o2=>NT r2<|.ak ((r2.comp 0)=.agg (r2.comp 0).cs/\(r2.comp 0).cs.length=2/\bY [.str,.sl] ((r2.comp 0).cs) 0)<|NB (r2.comp 1)<|.test ((r1.comp 1).toBool) (.test ((r2.comp 1).toBool) (.call 60 [VI a2,VI 0,VI 100] [] fun r3 o3=>NB r3<|.test r3.toBool (.call 72 [.agg [VS (((r1.comp 0).cs.getD 0 .any).aj),((r1.comp 0).cs.getD 1 .any)],.sl [],.agg [VS (((r2.comp 0).cs.getD 0 .any).aj),((r2.comp 0).cs.getD 1 .any)],VI a2] [] fun r4 o4=>NB r4<|.done 0 [VB r4.toBool] []) (.done 0 [VB false] [])) (.done 0 [VB false] [])) (.done 0 [VB false] [])
theorem Ld(a0:ByteArray)(a1:ByteArray)(a2:Int)(h:dH 36 (KD a0 a1 a2) R):au Tryz.prog 46 [VS a0,VS a1,VI a2] [] R :=
 uQ (ah (aC _) (ah (aC _) (ah (aC _) aD))) (oQ [] Tryz.f46 h)
def IQ(a0:ByteArray):Tree :=
 .call 73 [VS a0] [] fun r1 o1=>NT r1<|.ak ((r1.comp 0)=.agg (r1.comp 0).cs/\(r1.comp 0).cs.length=2/\bY [.str,.sl] ((r1.comp 0).cs) 0)<|NB (r1.comp 1)<|.test ((r1.comp 1).toBool) (.call 74 [.agg [VS (((r1.comp 0).cs.getD 0 .any).aj),((r1.comp 0).cs.getD 1 .any)]] [] fun r2 o2=>NB r2<|.test r2.toBool (.call 75 [.agg [VS (((r1.comp 0).cs.getD 0 .any).aj),((r1.comp 0).cs.getD 1 .any)]] [] fun r3 o3=>NI r3<|.done 0 [.da [.agg [VS (((r1.comp 0).cs.getD 0 .any).aj),((r1.comp 0).cs.getD 1 .any)],VB (decide (r3.toInt<=(200:Int)))]] []) (.done 0 [.da [.agg [VS (((r1.comp 0).cs.getD 0 .any).aj),((r1.comp 0).cs.getD 1 .any)],VB false]] [])) (.done 0 [.da [.agg [VS (((r1.comp 0).cs.getD 0 .any).aj),((r1.comp 0).cs.getD 1 .any)],VB false]] [])
theorem NO(a0:ByteArray)(h:dH 22 (IQ a0) R):au Tryz.prog 47 [VS a0] [] R :=
 uQ (ah (aC _) aD) (oQ [] Tryz.f47 h)
def JL(a0_0:AV)(a0_1:Int):Tree :=
 .call 80 [.ref 0 0,.sl [[VS (mk [40,114,101,99,32,116,32,40,43,32,49,32,40,42,32,120,32,116,41,41,41])],[VS (mk [40,114,101,99,32,116,32,40,43,32,120,32,40,42,32,116,32,116,41,41,41])],[VS (mk [40,114,101,99,32,116,32,40,43,32,49,32,40,42,32,116,32,40,42,32,120,32,116,41,41,41,41])],[VS (mk [40,114,101,99,32,116,32,40,43,32,49,32,116,41,41])],[VS (mk [40,114,101,99,32,116,32,40,42,32,120,32,40,114,101,99,32,116,49,32,40,43,32,49,32,40,42,32,116,32,116,49,41,41,41,41,41])],[VS (mk [40,114,101,99,32,116,48,32,40,43,32,40,42,32,120,32,121,41,32,40,43,32,116,48,32,40,42,32,116,48,32,116,48,41,41,41,41])],[VS (mk [40,114,101,99,32,116,32,40,43,32,121,32,40,42,32,116,32,40,42,32,116,32,116,41,41,41,41])]]] [.cells [a0_0,VI a0_1]] fun r1 o1=>.ak ((o1.hO)=.cells (o1.hO).cs)<|.ak (aO [.lk .sl,.lk (.int .i64)] ((o1.hO).cs) 0 1 o1.tail)<|NS r1<|.done 0 [VS r1.aj] [.cells [((o1.hO).cs.getD 0 .any),VI (((o1.hO).cs.getD 1 .any).toInt)]]
theorem Mh(a0_0:AV)(a0_1:Int)(ha0_0:LK.has .sl a0_0)(h:dH 6 (JL a0_0 a0_1) R):au Tryz.prog 50 [.ref 0 0] [.cells [a0_0,VI a0_1]] R :=
 au.ox (bn (ca (ah (bT ha0_0) (ah (aC _) aD))) cu) (au.up (ah (aC _) aD) (oF [] {mu:=[(0,.one (.obj [.lk .sl,.lk (.int .i64)]))],own:=[]} Tryz.f50 h))
def IA(a0_0:AV)(a0_1:Int):Tree :=
 .call 81 [.ref 0 0] [.cells [a0_0,VI a0_1]] fun r1 o1=>.ak ((o1.hO)=.cells (o1.hO).cs)<|.ak (aO [.lk .sl,.lk (.int .i64)] ((o1.hO).cs) 0 1 o1.tail)<|NS r1<|.call 52 [.ref 0 0,VS r1.aj] [.cells [((o1.hO).cs.getD 0 .any),VI (((o1.hO).cs.getD 1 .any).toInt)]] fun r2 o2=>.ak ((o2.hO)=.cells (o2.hO).cs)<|.ak (aO [.lk .sl,.lk (.int .i64)] ((o2.hO).cs) 0 1 o2.tail)<|NS r2<|.done 0 [.da [VS r1.aj,VS r2.aj]] [.cells [((o2.hO).cs.getD 0 .any),VI (((o2.hO).cs.getD 1 .any).toInt)]]
theorem Mf(a0_0:AV)(a0_1:Int)(ha0_0:LK.has .sl a0_0)(h:dH 11 (IA a0_0 a0_1) R):au Tryz.prog 51 [.ref 0 0] [.cells [a0_0,VI a0_1]] R :=
 au.ox (bn (ca (ah (bT ha0_0) (ah (aC _) aD))) cu) (au.up (ah (aC _) aD) (oF [] {mu:=[(0,.one (.obj [.lk .sl,.lk (.int .i64)]))],own:=[]} Tryz.f51 h))
def HX(a0_0:AV)(a0_1:Int)(a1:ByteArray):Tree :=
 .call 70 [VS a1] [] fun r1 o1=>NT r1<|.ak ((r1.comp 0)=.agg (r1.comp 0).cs/\(r1.comp 0).cs.length=2/\bY [.str,.sl] ((r1.comp 0).cs) 0)<|NB (r1.comp 1)<|.test (!((r1.comp 1).toBool)) (.call 80 [.ref 0 0,.sl [[VS (mk [])],[VS (mk [117])],[VS (mk [101,48])],[VS (mk [101,48,48])],[VS (mk [101,49,48,48])],[VS (mk [40,108,32,117,41])],[VS (mk [40,112,32,117,41])],[VS (mk [40,102,32,40,108,32,117,41,41])],[VS (mk [40,120,32,117,41])],[VS (mk [40,108,32,32,117,41])]]] [.cells [a0_0,VI a0_1]] fun r2 o2=>.ak ((o2.hO)=.cells (o2.hO).cs)<|.ak (aO [.lk .sl,.lk (.int .i64)] ((o2.hO).cs) 0 1 o2.tail)<|NS r2<|.done 0 [VS r2.aj] [.cells [((o2.hO).cs.getD 0 .any),VI (((o2.hO).cs.getD 1 .any).toInt)]]) (.call 29 [.ref 0 0,VI 16] [.cells [a0_0,VI a0_1]] fun r3 o3=>.ak ((o3.hO)=.cells (o3.hO).cs)<|.ak (aO [.lk .sl,.lk (.int .i64)] ((o3.hO).cs) 0 1 o3.tail)<|NI r3<|.test (r3.toInt==(0:Int)) (.call 80 [.ref 0 0,.sl [[VS (mk [])],[VS (mk [117])],[VS (mk [101,48])],[VS (mk [101,48,48])],[VS (mk [101,49,48,48])],[VS (mk [40,108,32,117,41])],[VS (mk [40,112,32,117,41])],[VS (mk [40,102,32,40,108,32,117,41,41])],[VS (mk [40,120,32,117,41])],[VS (mk [40,108,32,32,117,41])]]] [.cells [((o3.hO).cs.getD 0 .any),VI (((o3.hO).cs.getD 1 .any).toInt)]] fun r4 o4=>.ak ((o4.hO)=.cells (o4.hO).cs)<|.ak (aO [.lk .sl,.lk (.int .i64)] ((o4.hO).cs) 0 1 o4.tail)<|NS r4<|.done 0 [VS r4.aj] [.cells [((o4.hO).cs.getD 0 .any),VI (((o4.hO).cs.getD 1 .any).toInt)]]) (.call 83 [.agg [VS (((r1.comp 0).cs.getD 0 .any).aj),((r1.comp 0).cs.getD 1 .any)],.v (.slice none 0 0)] [] fun r5 o5=>NA r5<|.call 29 [.ref 0 0,VI 5] [.cells [((o3.hO).cs.getD 0 .any),VI (((o3.hO).cs.getD 1 .any).toInt)]] fun r6 o6=>.ak ((o6.hO)=.cells (o6.hO).cs)<|.ak (aO [.lk .sl,.lk (.int .i64)] ((o6.hO).cs) 0 1 o6.tail)<|NI r6<|.call 82 [.ref 0 0,.agg [VS ((r5.cs.getD 0 .any).aj),(r5.cs.getD 1 .any)],VI (IntKind.wrap .i64 (5+r6.toInt))] [.cells [((o6.hO).cs.getD 0 .any),VI (((o6.hO).cs.getD 1 .any).toInt)]] fun r7 o7=>.ak ((o7.hO)=.cells (o7.hO).cs)<|.ak (aO [.lk .sl,.lk (.int .i64)] ((o7.hO).cs) 0 1 o7.tail)<|NA r7<|.call 76 [.agg [VS ((r7.cs.getD 0 .any).aj),(r7.cs.getD 1 .any)]] [] fun r8 o8=>NS r8<|.done 0 [VS r8.aj] [.cells [((o7.hO).cs.getD 0 .any),VI (((o7.hO).cs.getD 1 .any).toInt)]]))
theorem Nb(a0_0:AV)(a0_1:Int)(a1:ByteArray)(ha0_0:LK.has .sl a0_0)(h:dH 30 (HX a0_0 a0_1 a1) R):au Tryz.prog 52 [.ref 0 0,VS a1] [.cells [a0_0,VI a0_1]] R :=
 au.ox (bn (ca (ah (bT ha0_0) (ah (aC _) aD))) cu) (au.up (ah (aC _) (ah (aC _) aD)) (oF [] {mu:=[(0,.one (.obj [.lk .sl,.lk (.int .i64)]))],own:=[]} Tryz.f52 h))
def Gg(a0:ByteArray)(a1:ByteArray)(a2:Int):Tree :=
 .call 87 [VS a0] [] fun r1 o1=>NP r1<|.call 88 [VS a1] [] fun r2 o2=>NP r2<|NP r1<|.test r1.isNil (.done 0 [.da [r1,.v (.pointer none)]] []) (NP r2<|.test r2.isNil (.done 0 [.da [r1,.v (.pointer none)]] []) (.test (decide (a2<(0:Int))) (.done 0 [.da [r1,.v (.pointer none)]] []) (.test (decide (a2>(100:Int))) (.done 0 [.da [r1,.v (.pointer none)]] []) (.call 89 [.agg [r1,.v (.pointer none)],r2,VI a2] [] fun r3 o3=>NB r3<|.test (!r3.toBool) (.done 0 [.da [r1,.v (.pointer none)]] []) (.done 0 [.da [r1,r2]] [])))))
theorem Nf(a0:ByteArray)(a1:ByteArray)(a2:Int)(h:dH 39 (Gg a0 a1 a2) R):au Tryz.prog 54 [VS a0,VS a1,VI a2] [] R :=
 uQ (ah (aC _) (ah (aC _) (ah (aC _) aD))) (oQ [] Tryz.f54 h)
def G2(a0:AV)(a1:AV):Tree :=
 .call 90 [.agg [a0,.v (.pointer none)]] [] fun r1 o1=>NT r1<|.ak ((r1.comp 0)=.agg (r1.comp 0).cs/\(r1.comp 0).cs.length=2/\bY [.ptr,.ptr] ((r1.comp 0).cs) 0)<|NP (r1.comp 1)<|NZ a1<|NZ a1<|gY (a1.deref.drop 2)<|.call 91 [.agg [((r1.comp 0).cs.getD 0 .any),((r1.comp 0).cs.getD 1 .any)],((a1.deref.drop 2).hA),.agg [VS (mk []),(r1.comp 1)]] [] fun r2 o2=>NL r2<|.done 0 [r2] []
theorem Nc(a0:AV)(a1:AV)(ha0:LK.has .ptr a0)(ha1:LK.has .ptr a1)(h:dH 21 (G2 a0 a1) R):au Tryz.prog 55 [a0,a1] [] R :=
 uQ (ah (bX ha0) (ah (bX ha1) aD)) (oQ [] Tryz.f55 h)
def Fg(a0:AV):Tree :=
 NZ a0<|NZ a0<|gY (a0.deref.drop 2)<|NP ((a0.deref.drop 2).hA)<|.test (!((a0.deref.drop 2).hA).isNil) (NZ a0<|NZ a0<|gY (a0.deref.drop 2)<|.call 56 [((a0.deref.drop 2).hA)] [] fun r1 o1=>NI r1<|NZ a0<|NZ a0<|gY (a0.deref.drop 3)<|NP ((a0.deref.drop 3).hA)<|.test (!((a0.deref.drop 3).hA).isNil) (NZ a0<|NZ a0<|gY (a0.deref.drop 3)<|.call 56 [((a0.deref.drop 3).hA)] [] fun r2 o2=>NI r2<|.done 0 [VI (IntKind.wrap .i64 ((IntKind.wrap .i64 (1+r1.toInt))+r2.toInt))] []) (.done 0 [VI (IntKind.wrap .i64 (1+r1.toInt))] [])) (NZ a0<|NZ a0<|gY (a0.deref.drop 3)<|NP ((a0.deref.drop 3).hA)<|.test (!((a0.deref.drop 3).hA).isNil) (NZ a0<|NZ a0<|gY (a0.deref.drop 3)<|.call 56 [((a0.deref.drop 3).hA)] [] fun r3 o3=>NI r3<|.done 0 [VI (IntKind.wrap .i64 (1+r3.toInt))] []) (.done 0 [VI 1] []))
theorem xF(a0:AV)(ha0:LK.has .ptr a0)(h:dH 29 (Fg a0) R):au Tryz.prog 56 [a0] [] R :=
 uQ (ah (bX ha0) aD) (oQ [] Tryz.f56 h)
def I1(a0:Int)(a1:Int)(a2:Int):Tree :=
 .test (decide (a0≥a1)) (.done 0 [VB (decide (a0<=a2))] []) (.done 0 [VB false] [])
theorem Lq(a0:Int)(a1:Int)(a2:Int)(h:dH 15 (I1 a0 a1 a2) R):au Tryz.prog 60 [VI a0,VI a1,VI a2] [] R :=
 uQ (ah (aC _) (ah (aC _) (ah (aC _) aD))) (oQ [] Tryz.f60 h)
def GN(a0:AV)(a1:ByteArray):Tree :=
 .ak (LK.has .sl a0/\cb 1 a0.aM/\((([]:List (List AV)).length)+a0.aM.length)*16<=140737488355328)<|.ak (cb 1 [[VS a1]]/\(((([]:List (List AV))++a0.aM).length)+([[VS a1]]:List (List AV)).length)*16<=140737488355328)<|.done 0 [.sl ((([]:List (List AV))++a0.aM)++([[VS a1]]:List (List AV)))] []
theorem MP(a0:AV)(a1:ByteArray)(ha0:LK.has .sl a0)(h:dH 11 (GN a0 a1) R):au Tryz.prog 61 [a0,VS a1] [] R :=
 uQ (ah (bT ha0) (ah (aC _) aD)) (oQ [] Tryz.f61 h)
def EW:LI:={hd:={bI:=[(17,.k .sl),(18,.k (.int .i64)),(19,.k (.int .i64))],refs:=[(4,4)],cd:=[(4,[.lk .ptr,.lk .sl]),(0,[.vec 2]),(2,[.lk .ptr])],vu:=[(3,65,[some 0,some 2,none])]},xs:={cd:=[(0,[.vec 2]),(2,[.lk .ptr])]},rt:={cd:=[(0,[.vec 2]),(2,[.lk .ptr])]},ex:=0,fx:=[0,2]}
def Gb:Code:=cC (cw Tryz.f65) 4
def GC:List (Nat×LI):=[(4,EW)]
def GG(a0_0:AV)(a0_1:AV)(e1_0:List (List AV))(a2_0:AV):Tree :=
 .ak (cb 2 [[a0_0,a0_1]]/\((e1_0.length)+([[a0_0,a0_1]]:List (List AV)).length)*32<=140737488355328)<|.test (decide (((e1_0++([[a0_0,a0_1]]:List (List AV))).length:Int)>(100:Int))) (.done 0 [.any] [.cells [.vec 1],.vec 2 (e1_0++([[a0_0,a0_1]]:List (List AV))),.cells [a2_0]]) (.call 55 [a2_0,a0_0] [] fun r1 o1=>NL r1<|NL r1<|.loop Gb EW [r1,VI (r1.aM.length:Int),VI 0] [.cells [a0_0,a0_1],.cells [.any],.vec 2 (e1_0++([[a0_0,a0_1]]:List (List AV))),.cells [a2_0]] (fun y3 q3=>.ak ((q3.hO)=.cells (q3.hO).cs)<|.ak (ae [.vec 2] ((q3.hO).cs) 0 q3.tail)<|.ak (((q3.tail.drop 1).hO)=.cells ((q3.tail.drop 1).hO).cs)<|.ak (ae [.lk .ptr] (((q3.tail.drop 1).hO).cs) 0 ((q3.tail.drop 1).tail))<|.done 0 [.any] [.cells [.vec 1],.vec 2 ((q3.tail.hO).es),.cells [((q3.tail.tail.hO).cs.getD 0 .any)]]) (fun y3 q3=>.ak ((q3.hO)=.cells (q3.hO).cs)<|.ak (ae [.vec 2] ((q3.hO).cs) 0 q3.tail)<|.ak (((q3.tail.drop 1).hO)=.cells ((q3.tail.drop 1).hO).cs)<|.ak (ae [.lk .ptr] (((q3.tail.drop 1).hO).cs) 0 ((q3.tail.drop 1).tail))<|.done 0 [.any] [.cells [.vec 1],.vec 2 ((q3.tail.hO).es),.cells [((q3.tail.tail.hO).cs.getD 0 .any)]]))
theorem Nd(a0_0:AV)(a0_1:AV)(e1_0:List (List AV))(a2_0:AV)(ha0_0:LK.has .ptr a0_0)(ha0_1:LK.has .sl a0_1)(ha2_0:LK.has .ptr a2_0)(h:dH 37 (GG a0_0 a0_1 e1_0 a2_0) R):au Tryz.prog 65 [.agg [a0_0,a0_1],.ref 0 0,.ref 2 0,.gZ 65 [some 0,some 2,none]] [.cells [.vec 1],.vec 2 e1_0,.cells [a2_0]] R :=
 au.ox (bn (ca (ah (aC _) aD)) (bn (eT _) (bn (ca (ah (bX ha2_0) aD)) cu))) (au.up (ah (cG (ah (bX ha0_0) (ah (bT ha0_1) aD))) (ah (aC _) (ah (aC _) (ah (aC _) aD)))) (oF GC {mu:=[(1,.one (.obj [.vec 2])),(2,.one (.obj [.lk .ptr])),(3,.xR 65 [some 0,some 2,none])],own:=[]} Tryz.f65 h))
def DQ(x17:AV)(x18:Int)(x19:Int)(o4_0:AV)(o4_1:AV)(o0_0:List (List AV))(o2_0:AV):Tree :=
 NL x17<|NI (VI x18)<|NI (VI x19)<|.ak (Ob.cells [o4_0,o4_1]=.cells [o4_0,o4_1])<|.ak (ae [.lk .ptr,.lk .sl] [o4_0,o4_1] 0 [.cells [.any],.vec 2 o0_0,.cells [o2_0]])<|.ak (Ob.cells [.any]=.cells [.any])<|.ak (ae [.vec 2] [.any] 0 [.vec 2 o0_0,.cells [o2_0]])<|.ak (Ob.cells [o2_0]=.cells [o2_0])<|.ak (ae [.lk .ptr] [o2_0] 0 [])<|.test (decide (x19<x18)) (NG x17 x19 2<|.ak (bY [.ptr,.ptr] (x17.ix x19) 0/\2<=(x17.ix x19).length)<|.ak (LK.has .sl o4_1/\cb 1 o4_1.aM/\((([]:List (List AV)).length)+o4_1.aM.length)*8<=140737488355328)<|.ak (cb 1 [[VI x19]]/\(((([]:List (List AV))++o4_1.aM).length)+([[VI x19]]:List (List AV)).length)*8<=140737488355328)<|.call 65 [.agg [((x17.ix x19).getD 1 .any),.sl ((([]:List (List AV))++o4_1.aM)++([[VI x19]]:List (List AV)))],.ref 0 0,.ref 2 0,.gZ 65 [some 0,some 2,none]] [.cells [.vec 1],.vec 2 o0_0,.cells [o2_0]] fun r1 o1=>.ak ((o1.hO)=.cells (o1.hO).cs)<|.ak (aO [.vec 2] ((o1.hO).cs) 0 1 o1.tail)<|.ak ((o1.tail.tail.hO)=.cells (o1.tail.tail.hO).cs)<|.ak (aO [.lk .ptr] ((o1.tail.tail.hO).cs) 0 3 o1.tail.tail.tail)<|.done 0 [x17,VI x18,VI (IntKind.wrap .i64 (x19+1))] [.cells [o4_0,o4_1],.cells [.any],.vec 2 ((o1.tail.hO).es),.cells [((o1.tail.tail.hO).cs.getD 0 .any)]]) (.done 1 [] [.cells [.any],.vec 2 o0_0,.cells [o2_0]])
abbrev Ev:=cm Tryz.prog 37 Gb EW
theorem G4(x17:AV)(x18:Int)(x19:Int)(o4_0:AV)(o4_1:AV)(o0_0:List (List AV))(o2_0:AV)(h:kt 37 (DQ x17 x18 x19 o4_0 o4_1 o0_0 o2_0) Ev U):Ev [x17,VI x18,VI x19] [.cells [o4_0,o4_1],.cells [.any],.vec 2 o0_0,.cells [o2_0]] U :=
 gQ GC h
def DP:LI:={hd:={bI:=[(2,.k .sl),(9,.k .sl),(10,.k (.int .i64))],refs:=[(4,4)],cd:=[(4,[.lk .str,.lk .sl])],dY:=[(3,3)]},xs:={dY:=[(3,3)]},rt:={},ex:=0}
def Ig:Code:=cC (cw Tryz.f66) 4
def IY:List (Nat×LI):=[(4,DP)]
def Hz(a0_0:ByteArray)(a0_1:AV)(a1_0:ByteArray)(a1_1:AV)(a2:AV)(e3:List (List AV)):Tree :=
 .call 76 [.agg [VS a1_0,a1_1]] [] fun r1 o1=>NS r1<|.ak (cb 3 [[a2,VS r1.aj,VS (mk [])]]/\((e3.length)+([[a2,VS r1.aj,VS (mk [])]]:List (List AV)).length)*56<=140737488355328)<|NG a0_1 2 2<|NE (a0_1.ix (2:Int))<|NG a0_1 1 2<|oV (a0_1.ix (1:Int))<|NG a1_1 1 2<|NE (a1_1.ix (1:Int))<|.call 77 [.agg [VS (((a0_1.ix (2:Int)).getD 0 .any).aj),((a0_1.ix (2:Int)).getD 1 .any)],VS (((a0_1.ix (1:Int)).hA).aj),.agg [VS (((a1_1.ix (1:Int)).getD 0 .any).aj),((a1_1.ix (1:Int)).getD 1 .any)]] [] fun r2 o2=>NL r2<|.loop Ig DP [a2,r2,VI 0] [.cells [VS a0_0,a0_1],.vec 3 (e3++([[a2,VS r1.aj,VS (mk [])]]:List (List AV)))] (fun y4 q4=>.ak (((q4.drop 0).hO)=.vec 3 ((q4.drop 0).hO).es)<|.done 0 [.vec 1] [.dead,.vec 3 ((q4.hO).es)]) (fun y4 q4=>.fail)
theorem MC(a0_0:ByteArray)(a0_1:AV)(a1_0:ByteArray)(a1_1:AV)(a2:AV)(e3:List (List AV))(ha0_1:LK.has .sl a0_1)(ha1_1:LK.has .sl a1_1)(ha2:LK.has .sl a2)(h:dH 58 (Hz a0_0 a0_1 a1_0 a1_1 a2 e3) R):au Tryz.prog 66 [.agg [VS a0_0,a0_1],.agg [VS a1_0,a1_1],a2,.vec 0] [.vec 3 e3] R :=
 au.ox (bn (eT _) cu) (au.up (ah (cG (ah (aC _) (ah (bT ha0_1) aD))) (ah (cG (ah (aC _) (ah (bT ha1_1) aD))) (ah (bT ha2) (ah (aC _) aD)))) (oF IY {mu:=[(3,.one (.vec))],own:=[0]} Tryz.f66 h))
def Dk(x2:AV)(x9:AV)(x10:Int)(o4_0:ByteArray)(o4_1:AV)(e3:List (List AV)):Tree :=
 NL x2<|NL x9<|NI (VI x10)<|.ak (Ob.cells [VS o4_0,o4_1]=.cells [VS o4_0,o4_1])<|.ak (ae [.lk .str,.lk .sl] [VS o4_0,o4_1] 0 [.vec 3 e3])<|.ak (Ob.vec 3 e3=.vec 3 e3)<|NL x9<|.test (decide (x10<(x9.aM.length:Int))) (.test (decide ((e3.length:Int)<=(100:Int))) (NG x9 x10 4<|NE ((x9.ix x10).drop 2)<|.ak (LK.has .sl x2/\cb 1 x2.aM/\((([]:List (List AV)).length)+x2.aM.length)*8<=140737488355328)<|.ak (cb 1 [[VI x10]]/\(((([]:List (List AV))++x2.aM).length)+([[VI x10]]:List (List AV)).length)*8<=140737488355328)<|.call 66 [.agg [VS o4_0,o4_1],.agg [VS ((((x9.ix x10).drop 2).getD 0 .any).aj),(((x9.ix x10).drop 2).getD 1 .any)],.sl ((([]:List (List AV))++x2.aM)++([[VI x10]]:List (List AV))),.vec 0] [.vec 3 e3] fun r1 o1=>.ak (r1=.vec 1/\(o1.tail.hO)=.vec 3 (o1.tail.hO).es)<|.done 0 [x2,x9,VI (IntKind.wrap .i64 (x10+1))] [.cells [VS o4_0,o4_1],.vec 3 ((o1.tail.hO).es)]) (.done 1 [] [.vec 3 e3])) (.done 1 [] [.vec 3 e3])
abbrev EA:=cm Tryz.prog 58 Ig DP
theorem JW(x2:AV)(x9:AV)(x10:Int)(o4_0:ByteArray)(o4_1:AV)(e3:List (List AV))(h:kt 58 (Dk x2 x9 x10 o4_0 o4_1 e3) EA U):EA [x2,x9,VI x10] [.cells [VS o4_0,o4_1],.vec 3 e3] U :=
 gQ IY h
def Ko(a0:ByteArray):Tree :=
 .call 87 [VS a0] [] fun r1 o1=>NP r1<|NP r1<|.test r1.isNil (.done 0 [.v (.pointer none)] []) (NZ r1<|NZ r1<|.ak (LK.has (.int .u8) (r1.deref.hA)/\1<=r1.deref.length)<|.test (((r1.deref.hA).toInt) != (114:Int)) (.done 0 [.v (.pointer none)] []) (.done 0 [r1] []))
theorem Mp(a0:ByteArray)(h:dH 16 (Ko a0) R):au Tryz.prog 69 [VS a0] [] R :=
 uQ (ah (aC _) aD) (oQ [] Tryz.f69 h)
def CU:LI:={hd:={bI:=[(7,.k (.int .i64))],refs:=[(2,2),(4,4)],cd:=[(2,[.lk .str,.lk .sl]),(4,[.lk .str,.lk .sl])],dY:=[(6,1)]},xs:={refs:=[(2,2),(4,4)],cd:=[(2,[.lk .str,.lk .sl]),(4,[.lk .str,.lk .sl])]},rt:={bI:=[(3,.k .bool)],refs:=[(2,2)],cd:=[(2,[.lk .str,.lk .sl])]},ex:=0}
def GI:Code:=cC (cw Tryz.f70) 6
def Kf:List (Nat×LI):=[(6,CU)]
def KX(a0:ByteArray):Tree :=
 .call 97 [VS a0] [] fun r1 o1=>NT r1<|.ak ((r1.comp 0)=.agg (r1.comp 0).cs/\(r1.comp 0).cs.length=2/\bY [.str,.sl] ((r1.comp 0).cs) 0)<|NB (r1.comp 1)<|.test (!((r1.comp 1).toBool)) (.done 0 [.da [.agg [VS (((r1.comp 0).cs.getD 0 .any).aj),((r1.comp 0).cs.getD 1 .any)],VB false]] []) (.call 98 [.agg [VS (((r1.comp 0).cs.getD 0 .any).aj),((r1.comp 0).cs.getD 1 .any)],.sl [],.vec 0] [.vec 1 []] fun r2 o2=>.ak (r2=.vec 1/\(o2.tail.hO)=.vec 1 (o2.tail.hO).es)<|.loop GI CU [VI 0] [.cells [VS (mk []),.v (.slice none 0 0)],.cells [VS (((r1.comp 0).cs.getD 0 .any).aj),((r1.comp 0).cs.getD 1 .any)],.vec 1 ((o2.tail.hO).es)] (fun y4 q4=>.ak ((q4.hO)=.cells (q4.hO).cs)<|.ak (ae [.lk .str,.lk .sl] ((q4.hO).cs) 0 q4.tail)<|.ak (((q4.tail.drop 0).hO)=.cells ((q4.tail.drop 0).hO).cs)<|.ak (ae [.lk .str,.lk .sl] (((q4.tail.drop 0).hO).cs) 0 ((q4.tail.drop 0).tail))<|.done 0 [.da [.agg [VS (((q4.tail.hO).cs.getD 0 .any).aj),((q4.tail.hO).cs.getD 1 .any)],VB true]] []) (fun y4 q4=>NB (y4.hA)<|.ak ((q4.hO)=.cells (q4.hO).cs)<|.ak (ae [.lk .str,.lk .sl] ((q4.hO).cs) 0 q4.tail)<|.done 0 [.da [.agg [VS (((q4.hO).cs.getD 0 .any).aj),((q4.hO).cs.getD 1 .any)],VB ((y4.hA).toBool)]] []))
theorem M9(a0:ByteArray)(h:dH 33 (KX a0) R):au Tryz.prog 70 [VS a0] [] R :=
 uQ (ah (aC _) aD) (oQ Kf Tryz.f70 h)
def DC(x7:Int)(o2_0:ByteArray)(o2_1:AV)(o4_0:ByteArray)(o4_1:AV)(e6:List (List AV)):Tree :=
 NI (VI x7)<|.ak (Ob.cells [VS o2_0,o2_1]=.cells [VS o2_0,o2_1])<|.ak (ae [.lk .str,.lk .sl] [VS o2_0,o2_1] 0 [.cells [VS o4_0,o4_1],.vec 1 e6])<|.ak (Ob.cells [VS o4_0,o4_1]=.cells [VS o4_0,o4_1])<|.ak (ae [.lk .str,.lk .sl] [VS o4_0,o4_1] 0 [.vec 1 e6])<|.ak (Ob.vec 1 e6=.vec 1 e6)<|.test (decide (x7<(e6.length:Int))) (.ak (0<=x7/\x7<e6.length)<|.ak (x7.toNat<e6.length/\0<(e6.getD x7.toNat []).length/\LK.has .str ((e6.getD x7.toNat []).getD 0 .any))<|.call 99 [VS (((e6.getD x7.toNat []).getD 0 .any).aj)] [] fun r1 o1=>NB r1<|.test r1.toBool (.done 2 [VB false] [.cells [VS o4_0,o4_1]]) (.done 0 [VI (IntKind.wrap .i64 (x7+1))] [.cells [VS o2_0,o2_1],.cells [VS o4_0,o4_1],.vec 1 e6])) (.done 1 [] [.cells [VS o2_0,o2_1],.cells [VS o4_0,o4_1]])
abbrev D9:=cm Tryz.prog 33 GI CU
theorem Jc(x7:Int)(o2_0:ByteArray)(o2_1:AV)(o4_0:ByteArray)(o4_1:AV)(e6:List (List AV))(h:kt 33 (DC x7 o2_0 o2_1 o4_0 o4_1 e6) D9 U):D9 [VI x7] [.cells [VS o2_0,o2_1],.cells [VS o4_0,o4_1],.vec 1 e6] U :=
 gQ Kf h
def AJ(a0_0:ByteArray)(a0_1:AV):Tree :=
 .test (!(ac a0_0==ac (mk []))) (.done 0 [VS (mk [])] []) (NL a0_1<|.test ((a0_1.aM.length:Int)==(0:Int)) (.done 0 [VS (mk [])] []) (NG a0_1 0 2<|oV (a0_1.ix (0:Int))<|.done 0 [VS (((a0_1.ix (0:Int)).hA).aj)] []))
theorem DS(a0_0:ByteArray)(a0_1:AV)(ha0_1:LK.has .sl a0_1)(h:dH 17 (AJ a0_0 a0_1) R):au Tryz.prog 71 [.agg [VS a0_0,a0_1]] [] R :=
 uQ (ah (cG (ah (aC _) (ah (bT ha0_1) aD))) aD) (oQ [] Tryz.f71 h)
def IB(a0_0:ByteArray)(a0_1:AV)(a1:AV)(a2_0:ByteArray)(a2_1:AV)(a3:Int):Tree :=
 .call 100 [.agg [VS a0_0,a0_1],a1] [] fun r1 o1=>NT r1<|.ak ((r1.comp 0)=.agg (r1.comp 0).cs/\(r1.comp 0).cs.length=2/\bY [.str,.sl] ((r1.comp 0).cs) 0)<|NL (r1.comp 1)<|.test (!(ac (((r1.comp 0).cs.getD 0 .any).aj)==ac (mk []))) (.test (ac (((r1.comp 0).cs.getD 0 .any).aj)==ac (mk [49])) (.done 0 [VB (ac a2_0==ac (mk [117]))] []) (.call 101 [VS (((r1.comp 0).cs.getD 0 .any).aj)] [] fun r2 o2=>NB r2<|.test r2.toBool (.call 102 [VS a2_0] [] fun r3 o3=>NI r3<|.call 60 [VI r3.toInt,VI 0,VI (IntKind.wrap .i64 (a3-1))] [] fun r4 o4=>NB r4<|.done 0 [VB r4.toBool] []) (.done 0 [VB false] []))) (.call 71 [.agg [VS (((r1.comp 0).cs.getD 0 .any).aj),((r1.comp 0).cs.getD 1 .any)]] [] fun r5 o5=>NS r5<|.call 71 [.agg [VS a2_0,a2_1]] [] fun r6 o6=>NS r6<|.ak (ag r5.aj+ag r6.aj<=9223372036854775807)<|.test (ac ((r5.aj:ByteArray)++r6.aj)==ac (mk [43,108])) (NG ((r1.comp 0).cs.getD 1 .any) 1 2<|NE (((r1.comp 0).cs.getD 1 .any).ix (1:Int))<|NG a2_1 1 2<|NE (a2_1.ix (1:Int))<|.call 72 [.agg [VS (((((r1.comp 0).cs.getD 1 .any).ix (1:Int)).getD 0 .any).aj),((((r1.comp 0).cs.getD 1 .any).ix (1:Int)).getD 1 .any)],(r1.comp 1),.agg [VS (((a2_1.ix (1:Int)).getD 0 .any).aj),((a2_1.ix (1:Int)).getD 1 .any)],VI a3] [] fun r7 o7=>NB r7<|.done 0 [VB r7.toBool] []) (.test (ac ((r5.aj:ByteArray)++r6.aj)==ac (mk [43,114])) (NG ((r1.comp 0).cs.getD 1 .any) 2 2<|NE (((r1.comp 0).cs.getD 1 .any).ix (2:Int))<|NG a2_1 1 2<|NE (a2_1.ix (1:Int))<|.call 72 [.agg [VS (((((r1.comp 0).cs.getD 1 .any).ix (2:Int)).getD 0 .any).aj),((((r1.comp 0).cs.getD 1 .any).ix (2:Int)).getD 1 .any)],(r1.comp 1),.agg [VS (((a2_1.ix (1:Int)).getD 0 .any).aj),((a2_1.ix (1:Int)).getD 1 .any)],VI a3] [] fun r8 o8=>NB r8<|.done 0 [VB r8.toBool] []) (.test (ac ((r5.aj:ByteArray)++r6.aj)==ac (mk [42,112])) (NG ((r1.comp 0).cs.getD 1 .any) 1 2<|NE (((r1.comp 0).cs.getD 1 .any).ix (1:Int))<|NG a2_1 1 2<|NE (a2_1.ix (1:Int))<|.call 72 [.agg [VS (((((r1.comp 0).cs.getD 1 .any).ix (1:Int)).getD 0 .any).aj),((((r1.comp 0).cs.getD 1 .any).ix (1:Int)).getD 1 .any)],(r1.comp 1),.agg [VS (((a2_1.ix (1:Int)).getD 0 .any).aj),((a2_1.ix (1:Int)).getD 1 .any)],VI a3] [] fun r9 o9=>NB r9<|.test r9.toBool (NG ((r1.comp 0).cs.getD 1 .any) 2 2<|NE (((r1.comp 0).cs.getD 1 .any).ix (2:Int))<|NG a2_1 2 2<|NE (a2_1.ix (2:Int))<|.call 72 [.agg [VS (((((r1.comp 0).cs.getD 1 .any).ix (2:Int)).getD 0 .any).aj),((((r1.comp 0).cs.getD 1 .any).ix (2:Int)).getD 1 .any)],(r1.comp 1),.agg [VS (((a2_1.ix (2:Int)).getD 0 .any).aj),((a2_1.ix (2:Int)).getD 1 .any)],VI a3] [] fun r10 o10=>NB r10<|.done 0 [VB r10.toBool] []) (.done 0 [VB false] [])) (.test (ac ((r5.aj:ByteArray)++r6.aj)==ac (mk [114,101,99,102])) (.call 103 [.agg [VS (((r1.comp 0).cs.getD 0 .any).aj),((r1.comp 0).cs.getD 1 .any)],(r1.comp 1)] [] fun r11 o11=>NT r11<|.ak ((r11.comp 0)=.agg (r11.comp 0).cs/\(r11.comp 0).cs.length=2/\bY [.str,.sl] ((r11.comp 0).cs) 0)<|NL (r11.comp 1)<|NG a2_1 1 2<|NE (a2_1.ix (1:Int))<|.call 72 [.agg [VS (((r11.comp 0).cs.getD 0 .any).aj),((r11.comp 0).cs.getD 1 .any)],(r11.comp 1),.agg [VS (((a2_1.ix (1:Int)).getD 0 .any).aj),((a2_1.ix (1:Int)).getD 1 .any)],VI a3] [] fun r12 o12=>NB r12<|.done 0 [VB r12.toBool] []) (.done 0 [VB false] [])))))
theorem Lp(a0_0:ByteArray)(a0_1:AV)(a1:AV)(a2_0:ByteArray)(a2_1:AV)(a3:Int)(ha0_1:LK.has .sl a0_1)(ha1:LK.has .sl a1)(ha2_1:LK.has .sl a2_1)(h:dH 110 (IB a0_0 a0_1 a1 a2_0 a2_1 a3) R):au Tryz.prog 72 [.agg [VS a0_0,a0_1],a1,.agg [VS a2_0,a2_1],VI a3] [] R :=
 uQ (ah (cG (ah (aC _) (ah (bT ha0_1) aD))) (ah (bT ha1) (ah (cG (ah (aC _) (ah (bT ha2_1) aD))) (ah (aC _) aD)))) (oQ [] Tryz.f72 h)
def Jn(a0:ByteArray):Tree :=
 .test (decide ((ag a0:Int)>(8000:Int))) (.done 0 [.da [.agg [VS (mk []),.v (.slice none 0 0)],VB false]] []) (.call 104 [VS a0,VI 0,VI 0] [] fun r1 o1=>NT r1<|.ak ((r1.comp 0)=.agg (r1.comp 0).cs/\(r1.comp 0).cs.length=2/\bY [.str,.sl] ((r1.comp 0).cs) 0)<|NI (r1.comp 1)<|.done 0 [.da [.agg [VS (((r1.comp 0).cs.getD 0 .any).aj),((r1.comp 0).cs.getD 1 .any)],VB (((r1.comp 1).toInt)==(ag a0:Int))]] [])
theorem N7(a0:ByteArray)(h:dH 20 (Jn a0) R):au Tryz.prog 73 [VS a0] [] R :=
 uQ (ah (aC _) aD) (oQ [] Tryz.f73 h)
def C6(a0_0:ByteArray)(a0_1:AV):Tree :=
 .test (!(ac a0_0==ac (mk []))) (.test (ac a0_0==ac (mk [117])) (.done 0 [VB true] []) (.call 102 [VS a0_0] [] fun r1 o1=>NI r1<|.done 0 [VB (decide (r1.toInt≥(0:Int)))] [])) (.call 71 [.agg [VS a0_0,a0_1]] [] fun r2 o2=>NS r2<|.test (ac r2.aj==ac (mk [108])) (NL a0_1<|.test ((a0_1.aM.length:Int)==(2:Int)) (NG a0_1 1 2<|NE (a0_1.ix (1:Int))<|.call 74 [.agg [VS (((a0_1.ix (1:Int)).getD 0 .any).aj),((a0_1.ix (1:Int)).getD 1 .any)]] [] fun r3 o3=>NB r3<|.done 0 [VB r3.toBool] []) (.done 0 [VB false] [])) (.test (ac r2.aj==ac (mk [114])) (NL a0_1<|.test ((a0_1.aM.length:Int)==(2:Int)) (NG a0_1 1 2<|NE (a0_1.ix (1:Int))<|.call 74 [.agg [VS (((a0_1.ix (1:Int)).getD 0 .any).aj),((a0_1.ix (1:Int)).getD 1 .any)]] [] fun r4 o4=>NB r4<|.done 0 [VB r4.toBool] []) (.done 0 [VB false] [])) (.test (ac r2.aj==ac (mk [102])) (NL a0_1<|.test ((a0_1.aM.length:Int)==(2:Int)) (NG a0_1 1 2<|NE (a0_1.ix (1:Int))<|.call 74 [.agg [VS (((a0_1.ix (1:Int)).getD 0 .any).aj),((a0_1.ix (1:Int)).getD 1 .any)]] [] fun r5 o5=>NB r5<|.done 0 [VB r5.toBool] []) (.done 0 [VB false] [])) (.test (ac r2.aj==ac (mk [112])) (NL a0_1<|.test ((a0_1.aM.length:Int)==(3:Int)) (NG a0_1 1 2<|NE (a0_1.ix (1:Int))<|.call 74 [.agg [VS (((a0_1.ix (1:Int)).getD 0 .any).aj),((a0_1.ix (1:Int)).getD 1 .any)]] [] fun r6 o6=>NB r6<|.test r6.toBool (NG a0_1 2 2<|NE (a0_1.ix (2:Int))<|.call 74 [.agg [VS (((a0_1.ix (2:Int)).getD 0 .any).aj),((a0_1.ix (2:Int)).getD 1 .any)]] [] fun r7 o7=>NB r7<|.done 0 [VB r7.toBool] []) (.done 0 [VB false] [])) (.done 0 [VB false] [])) (.done 0 [VB false] [])))))
theorem xy(a0_0:ByteArray)(a0_1:AV)(ha0_1:LK.has .sl a0_1)(h:dH 52 (C6 a0_0 a0_1) R):au Tryz.prog 74 [.agg [VS a0_0,a0_1]] [] R :=
 uQ (ah (cG (ah (aC _) (ah (bT ha0_1) aD))) aD) (oQ [] Tryz.f74 h)
def Dg:LI:={hd:={bI:=[(3,.k (.int .i64)),(4,.k (.int .i64))],refs:=[(1,1)],cd:=[(1,[.lk .str,.lk .sl])]},xs:={bI:=[(3,.k (.int .i64))]},rt:={},ex:=0}
def Hc:Code:=cC (cw Tryz.f75) 3
def G1:List (Nat×LI):=[(3,Dg)]
def Em(a0_0:ByteArray)(a0_1:AV):Tree :=
 .loop Hc Dg [VI 1,VI 1] [.cells [VS a0_0,a0_1]] (fun y2 q2=>NI (y2.hA)<|.done 0 [VI ((y2.hA).toInt)] []) (fun y2 q2=>.done 0 [.any] [])
theorem GQ(a0_0:ByteArray)(a0_1:AV)(ha0_1:LK.has .sl a0_1)(h:dH 21 (Em a0_0 a0_1) R):au Tryz.prog 75 [.agg [VS a0_0,a0_1]] [] R :=
 uQ (ah (cG (ah (aC _) (ah (bT ha0_1) aD))) aD) (oQ G1 Tryz.f75 h)
def yO(x3:Int)(x4:Int)(o1_0:ByteArray)(o1_1:AV):Tree :=
 NI (VI x3)<|NI (VI x4)<|.ak (Ob.cells [VS o1_0,o1_1]=.cells [VS o1_0,o1_1])<|.ak (ae [.lk .str,.lk .sl] [VS o1_0,o1_1] 0 [])<|NL o1_1<|.test (decide (x4<(o1_1.aM.length:Int))) (NG o1_1 x4 2<|NE (o1_1.ix x4)<|.call 75 [.agg [VS (((o1_1.ix x4).getD 0 .any).aj),((o1_1.ix x4).getD 1 .any)]] [] fun r1 o1=>NI r1<|.done 0 [VI (IntKind.wrap .i64 (x3+r1.toInt)),VI (IntKind.wrap .i64 (x4+1))] [.cells [VS o1_0,o1_1]]) (.done 1 [VI x3] [])
abbrev yV:=cm Tryz.prog 21 Hc Dg
theorem Bv(x3:Int)(x4:Int)(o1_0:ByteArray)(o1_1:AV)(h:kt 21 (yO x3 x4 o1_0 o1_1) yV U):yV [VI x3,VI x4] [.cells [VS o1_0,o1_1]] U :=
 gQ G1 h
def E5:LI:={hd:={bI:=[(3,.k .str),(4,.k (.int .i64))],refs:=[(1,1)],cd:=[(1,[.lk .str,.lk .sl])]},xs:={bI:=[(3,.k .str)]},rt:={},ex:=0}
def G6:Code:=cC (cw Tryz.f76) 5
def Kp:List (Nat×LI):=[(5,E5)]
def BO(a0_0:ByteArray)(a0_1:AV):Tree :=
 .test (!(ac a0_0==ac (mk []))) (.done 0 [VS a0_0] []) (.loop G6 E5 [VS (mk [40]),VI 0] [.cells [VS a0_0,a0_1]] (fun y3 q3=>NS (y3.hA)<|.ak (ag ((y3.hA).aj)+ag (mk [41])<=9223372036854775807)<|.done 0 [VS ((((y3.hA).aj):ByteArray)++(mk [41]))] []) (fun y3 q3=>.done 0 [.any] []))
theorem DD(a0_0:ByteArray)(a0_1:AV)(ha0_1:LK.has .sl a0_1)(h:dH 31 (BO a0_0 a0_1) R):au Tryz.prog 76 [.agg [VS a0_0,a0_1]] [] R :=
 uQ (ah (cG (ah (aC _) (ah (bT ha0_1) aD))) aD) (oQ Kp Tryz.f76 h)
def Au(x3:ByteArray)(x4:Int)(o1_0:ByteArray)(o1_1:AV):Tree :=
 NS (VS x3)<|NI (VI x4)<|.ak (Ob.cells [VS o1_0,o1_1]=.cells [VS o1_0,o1_1])<|.ak (ae [.lk .str,.lk .sl] [VS o1_0,o1_1] 0 [])<|NL o1_1<|.test (decide (x4<(o1_1.aM.length:Int))) (.test (decide (x4>(0:Int))) (.ak (ag x3+ag (mk [32])<=9223372036854775807)<|NG o1_1 x4 2<|NE (o1_1.ix x4)<|.call 76 [.agg [VS (((o1_1.ix x4).getD 0 .any).aj),((o1_1.ix x4).getD 1 .any)]] [] fun r1 o1=>NS r1<|.ak (ag ((x3:ByteArray)++(mk [32]))+ag r1.aj<=9223372036854775807)<|.done 0 [VS ((((x3:ByteArray)++(mk [32])):ByteArray)++r1.aj),VI (IntKind.wrap .i64 (x4+1))] [.cells [VS o1_0,o1_1]]) (NG o1_1 x4 2<|NE (o1_1.ix x4)<|.call 76 [.agg [VS (((o1_1.ix x4).getD 0 .any).aj),((o1_1.ix x4).getD 1 .any)]] [] fun r2 o2=>NS r2<|.ak (ag x3+ag r2.aj<=9223372036854775807)<|.done 0 [VS ((x3:ByteArray)++r2.aj),VI (IntKind.wrap .i64 (x4+1))] [.cells [VS o1_0,o1_1]])) (.done 1 [VS x3] [])
abbrev Ab:=cm Tryz.prog 31 G6 E5
theorem BB(x3:ByteArray)(x4:Int)(o1_0:ByteArray)(o1_1:AV)(h:kt 31 (Au x3 x4 o1_0 o1_1) Ab U):Ab [VS x3,VI x4] [.cells [VS o1_0,o1_1]] U :=
 gQ Kp h
def Fv:LI:={hd:={bI:=[(1,.k .str),(8,.k .sl),(9,.k (.int .i64))],refs:=[(3,3),(5,5)],cd:=[(3,[.lk .str,.lk .sl]),(5,[.lk .str,.lk .sl])],dY:=[(7,4)]},xs:={bI:=[(1,.k .str)],refs:=[(3,3),(5,5)],cd:=[(3,[.lk .str,.lk .sl]),(5,[.lk .str,.lk .sl])],dY:=[(7,4)]},rt:={},ex:=1}
def G8:Code:=cC (cw Tryz.f77) 14
def E1:LI:={hd:={bI:=[(10,.k .sl),(11,.k (.int .i64))],refs:=[(5,5)],cd:=[(5,[.lk .str,.lk .sl])],dY:=[(7,4)]},xs:={dY:=[(7,4)]},rt:={},ex:=3}
def GR:Code:=cC (cw Tryz.f77) 19
def FZ:LI:={hd:={bI:=[(1,.k .str),(12,.k .str),(13,.k .sl),(14,.k (.int .i64))],refs:=[(3,3),(5,5)],cd:=[(3,[.lk .str,.lk .sl]),(5,[.lk .str,.lk .sl])],dY:=[(7,4)]},xs:={bI:=[(1,.k .str),(12,.k .str)],refs:=[(3,3),(5,5)],cd:=[(3,[.lk .str,.lk .sl]),(5,[.lk .str,.lk .sl])],dY:=[(7,4)]},rt:={},ex:=5}
def Hp:Code:=cC (cw Tryz.f77) 28
def FU:LI:={hd:={bI:=[(1,.k .str),(15,.k .sl),(16,.k (.int .i64))],refs:=[(3,3)],cd:=[(3,[.lk .str,.lk .sl])],dY:=[(7,4)]},xs:={dY:=[(7,4)]},rt:={},ex:=7}
def GW:Code:=cC (cw Tryz.f77) 33
def Eg:LI:={hd:={bI:=[(1,.k .str),(15,.k .sl),(16,.k (.int .i64)),(17,.k .sl),(18,.k (.int .i64))],refs:=[(3,3)],cd:=[(3,[.lk .str,.lk .sl])],dY:=[(7,4)]},xs:={bI:=[(1,.k .str),(15,.k .sl),(16,.k (.int .i64))],refs:=[(3,3)],cd:=[(3,[.lk .str,.lk .sl])],dY:=[(7,4)]},rt:={},ex:=9}
def HF:Code:=cC (cw Tryz.f77) 37
def xW:List (Nat×LI):=[(14,Fv),(19,E1),(28,FZ),(33,FU),(37,Eg)]
def Er(a0_0:ByteArray)(a0_1:AV)(a1:ByteArray)(a2_0:ByteArray)(a2_1:AV):Tree :=
 .test (!(ac a0_0==ac (mk []))) (.test (ac a0_0==ac a1) (.ak (cb 4 [[VS (mk [117]),.v (.slice none 0 0),VS a2_0,a2_1]]/\((([]:List (List AV)).length)+([[VS (mk [117]),.v (.slice none 0 0),VS a2_0,a2_1]]:List (List AV)).length)*80<=140737488355328)<|.done 0 [.sl [[VS (mk [117]),.v (.slice none 0 0),VS a2_0,a2_1]]] []) (.done 0 [.sl []] [])) (.call 71 [.agg [VS a2_0,a2_1]] [] fun r1 o1=>NS r1<|.test (ac r1.aj==ac (mk [108])) (NG a0_1 1 2<|NE (a0_1.ix (1:Int))<|NG a2_1 1 2<|NE (a2_1.ix (1:Int))<|.call 77 [.agg [VS (((a0_1.ix (1:Int)).getD 0 .any).aj),((a0_1.ix (1:Int)).getD 1 .any)],VS a1,.agg [VS (((a2_1.ix (1:Int)).getD 0 .any).aj),((a2_1.ix (1:Int)).getD 1 .any)]] [] fun r2 o2=>NL r2<|.call 105 [r2,VS (mk [108]),.vec 0] [.vec 4 []] fun r3 o3=>.ak (r3=.vec 1/\(o3.tail.hO)=.vec 4 (o3.tail.hO).es)<|.done 0 [.sl ((o3.tail.hO).es)] []) (.test (ac r1.aj==ac (mk [114])) (NG a0_1 2 2<|NE (a0_1.ix (2:Int))<|NG a2_1 1 2<|NE (a2_1.ix (1:Int))<|.call 77 [.agg [VS (((a0_1.ix (2:Int)).getD 0 .any).aj),((a0_1.ix (2:Int)).getD 1 .any)],VS a1,.agg [VS (((a2_1.ix (1:Int)).getD 0 .any).aj),((a2_1.ix (1:Int)).getD 1 .any)]] [] fun r4 o4=>NL r4<|.call 105 [r4,VS (mk [114]),.vec 0] [.vec 4 []] fun r5 o5=>.ak (r5=.vec 1/\(o5.tail.hO)=.vec 4 (o5.tail.hO).es)<|.done 0 [.sl ((o5.tail.hO).es)] []) (.test (ac r1.aj==ac (mk [112])) (NG a0_1 1 2<|NE (a0_1.ix (1:Int))<|NG a2_1 1 2<|NE (a2_1.ix (1:Int))<|.call 77 [.agg [VS (((a0_1.ix (1:Int)).getD 0 .any).aj),((a0_1.ix (1:Int)).getD 1 .any)],VS a1,.agg [VS (((a2_1.ix (1:Int)).getD 0 .any).aj),((a2_1.ix (1:Int)).getD 1 .any)]] [] fun r6 o6=>NL r6<|.loop G8 Fv [VS a1,r6,VI 0] [.cells [VS a0_0,a0_1],.cells [VS a2_0,a2_1],.vec 4 []] (fun y9 q9=>NS (y9.hA)<|.ak ((q9.hO)=.cells (q9.hO).cs)<|.ak (ae [.lk .str,.lk .sl] ((q9.hO).cs) 0 q9.tail)<|.ak (((q9.tail.drop 0).hO)=.cells ((q9.tail.drop 0).hO).cs)<|.ak (ae [.lk .str,.lk .sl] (((q9.tail.drop 0).hO).cs) 0 ((q9.tail.drop 0).tail))<|.ak (((q9.drop 2).hO)=.vec 4 ((q9.drop 2).hO).es)<|NG ((q9.hO).cs.getD 1 .any) 2 2<|NE (((q9.hO).cs.getD 1 .any).ix (2:Int))<|NG ((q9.tail.hO).cs.getD 1 .any) 2 2<|NE (((q9.tail.hO).cs.getD 1 .any).ix (2:Int))<|.call 77 [.agg [VS (((((q9.hO).cs.getD 1 .any).ix (2:Int)).getD 0 .any).aj),((((q9.hO).cs.getD 1 .any).ix (2:Int)).getD 1 .any)],VS ((y9.hA).aj),.agg [VS (((((q9.tail.hO).cs.getD 1 .any).ix (2:Int)).getD 0 .any).aj),((((q9.tail.hO).cs.getD 1 .any).ix (2:Int)).getD 1 .any)]] [] fun r10 o10=>NL r10<|.loop GR E1 [r10,VI 0] [.cells [VS (((q9.tail.hO).cs.getD 0 .any).aj),((q9.tail.hO).cs.getD 1 .any)],.vec 4 ((q9.tail.tail.hO).es)] (fun y13 q13=>.ak (((q13.drop 0).hO)=.vec 4 ((q13.drop 0).hO).es)<|.done 0 [.sl ((q13.hO).es)] []) (fun y13 q13=>.done 0 [.any] [])) (fun y9 q9=>.done 0 [.any] [])) (NG a0_1 1 2<|oV (a0_1.ix (1:Int))<|.test (ac (((a0_1.ix (1:Int)).hA).aj)==ac a1) (.done 0 [.sl []] []) (NG a0_1 2 2<|NE (a0_1.ix (2:Int))<|NG a2_1 1 2<|NE (a2_1.ix (1:Int))<|.call 77 [.agg [VS (((a0_1.ix (2:Int)).getD 0 .any).aj),((a0_1.ix (2:Int)).getD 1 .any)],VS a1,.agg [VS (((a2_1.ix (1:Int)).getD 0 .any).aj),((a2_1.ix (1:Int)).getD 1 .any)]] [] fun r14 o14=>NL r14<|.loop Hp FZ [VS a1,VS (((a0_1.ix (1:Int)).hA).aj),r14,VI 0] [.cells [VS a0_0,a0_1],.cells [VS a2_0,a2_1],.vec 4 []] (fun y17 q17=>NS (y17.hA)<|NS (y17.tail.hA)<|.ak ((q17.hO)=.cells (q17.hO).cs)<|.ak (ae [.lk .str,.lk .sl] ((q17.hO).cs) 0 q17.tail)<|.ak (((q17.tail.drop 0).hO)=.cells ((q17.tail.drop 0).hO).cs)<|.ak (ae [.lk .str,.lk .sl] (((q17.tail.drop 0).hO).cs) 0 ((q17.tail.drop 0).tail))<|.ak (((q17.drop 2).hO)=.vec 4 ((q17.drop 2).hO).es)<|NG ((q17.hO).cs.getD 1 .any) 2 2<|NE (((q17.hO).cs.getD 1 .any).ix (2:Int))<|NG ((q17.tail.hO).cs.getD 1 .any) 1 2<|NE (((q17.tail.hO).cs.getD 1 .any).ix (1:Int))<|.call 77 [.agg [VS (((((q17.hO).cs.getD 1 .any).ix (2:Int)).getD 0 .any).aj),((((q17.hO).cs.getD 1 .any).ix (2:Int)).getD 1 .any)],VS ((y17.tail.hA).aj),.agg [VS (((((q17.tail.hO).cs.getD 1 .any).ix (1:Int)).getD 0 .any).aj),((((q17.tail.hO).cs.getD 1 .any).ix (1:Int)).getD 1 .any)]] [] fun r18 o18=>NL r18<|.loop GW FU [VS ((y17.hA).aj),r18,VI 0] [.cells [VS (((q17.hO).cs.getD 0 .any).aj),((q17.hO).cs.getD 1 .any)],.vec 4 ((q17.tail.tail.hO).es)] (fun y24 q24=>.ak (((q24.drop 0).hO)=.vec 4 ((q24.drop 0).hO).es)<|.done 0 [.sl ((q24.hO).es)] []) (fun y24 q24=>.done 0 [.any] [])) (fun y17 q17=>.done 0 [.any] []))))))
theorem My(a0_0:ByteArray)(a0_1:AV)(a1:ByteArray)(a2_0:ByteArray)(a2_1:AV)(ha0_1:LK.has .sl a0_1)(ha2_1:LK.has .sl a2_1)(h:dH 244 (Er a0_0 a0_1 a1 a2_0 a2_1) R):au Tryz.prog 77 [.agg [VS a0_0,a0_1],VS a1,.agg [VS a2_0,a2_1]] [] R :=
 uQ (ah (cG (ah (aC _) (ah (bT ha0_1) aD))) (ah (aC _) (ah (cG (ah (aC _) (ah (bT ha2_1) aD))) aD))) (oQ xW Tryz.f77 h)
def EL(x1:ByteArray)(x8:AV)(x9:Int)(o3_0:ByteArray)(o3_1:AV)(o5_0:ByteArray)(o5_1:AV)(e7:List (List AV)):Tree :=
 NS (VS x1)<|NL x8<|NI (VI x9)<|.ak (Ob.cells [VS o3_0,o3_1]=.cells [VS o3_0,o3_1])<|.ak (ae [.lk .str,.lk .sl] [VS o3_0,o3_1] 0 [.cells [VS o5_0,o5_1],.vec 4 e7])<|.ak (Ob.cells [VS o5_0,o5_1]=.cells [VS o5_0,o5_1])<|.ak (ae [.lk .str,.lk .sl] [VS o5_0,o5_1] 0 [.vec 4 e7])<|.ak (Ob.vec 4 e7=.vec 4 e7)<|NL x8<|.test (decide (x9<(x8.aM.length:Int))) (NG x8 x9 4<|NE (x8.ix x9)<|NG o5_1 2 2<|NE (o5_1.ix (2:Int))<|.call 78 [VS (mk [112]),.sl [[VS (((x8.ix x9).getD 0 .any).aj),((x8.ix x9).getD 1 .any)],[VS (((o5_1.ix (2:Int)).getD 0 .any).aj),((o5_1.ix (2:Int)).getD 1 .any)]]] [] fun r1 o1=>NA r1<|.call 78 [VS (mk [108]),.sl [[VS ((r1.cs.getD 0 .any).aj),(r1.cs.getD 1 .any)]]] [] fun r2 o2=>NA r2<|NG x8 x9 4<|NE ((x8.ix x9).drop 2)<|.ak (cb 4 [[VS ((r2.cs.getD 0 .any).aj),(r2.cs.getD 1 .any),VS ((((x8.ix x9).drop 2).getD 0 .any).aj),(((x8.ix x9).drop 2).getD 1 .any)]]/\((e7.length)+([[VS ((r2.cs.getD 0 .any).aj),(r2.cs.getD 1 .any),VS ((((x8.ix x9).drop 2).getD 0 .any).aj),(((x8.ix x9).drop 2).getD 1 .any)]]:List (List AV)).length)*80<=140737488355328)<|.done 0 [VS x1,x8,VI (IntKind.wrap .i64 (x9+1))] [.cells [VS o3_0,o3_1],.cells [VS o5_0,o5_1],.vec 4 (e7++([[VS ((r2.cs.getD 0 .any).aj),(r2.cs.getD 1 .any),VS ((((x8.ix x9).drop 2).getD 0 .any).aj),(((x8.ix x9).drop 2).getD 1 .any)]]:List (List AV)))]) (.done 1 [VS x1] [.cells [VS o3_0,o3_1],.cells [VS o5_0,o5_1],.vec 4 e7])
abbrev FN:=cm Tryz.prog 244 G8 Fv
theorem Ii(x1:ByteArray)(x8:AV)(x9:Int)(o3_0:ByteArray)(o3_1:AV)(o5_0:ByteArray)(o5_1:AV)(e7:List (List AV))(h:kt 244 (EL x1 x8 x9 o3_0 o3_1 o5_0 o5_1 e7) FN U):FN [VS x1,x8,VI x9] [.cells [VS o3_0,o3_1],.cells [VS o5_0,o5_1],.vec 4 e7] U :=
 gQ xW h
def Dd(x10:AV)(x11:Int)(o5_0:ByteArray)(o5_1:AV)(e7:List (List AV)):Tree :=
 NL x10<|NI (VI x11)<|.ak (Ob.cells [VS o5_0,o5_1]=.cells [VS o5_0,o5_1])<|.ak (ae [.lk .str,.lk .sl] [VS o5_0,o5_1] 0 [.vec 4 e7])<|.ak (Ob.vec 4 e7=.vec 4 e7)<|NL x10<|.test (decide (x11<(x10.aM.length:Int))) (NG o5_1 1 2<|NE (o5_1.ix (1:Int))<|NG x10 x11 4<|NE (x10.ix x11)<|.call 78 [VS (mk [112]),.sl [[VS (((o5_1.ix (1:Int)).getD 0 .any).aj),((o5_1.ix (1:Int)).getD 1 .any)],[VS (((x10.ix x11).getD 0 .any).aj),((x10.ix x11).getD 1 .any)]]] [] fun r1 o1=>NA r1<|.call 78 [VS (mk [114]),.sl [[VS ((r1.cs.getD 0 .any).aj),(r1.cs.getD 1 .any)]]] [] fun r2 o2=>NA r2<|NG x10 x11 4<|NE ((x10.ix x11).drop 2)<|.ak (cb 4 [[VS ((r2.cs.getD 0 .any).aj),(r2.cs.getD 1 .any),VS ((((x10.ix x11).drop 2).getD 0 .any).aj),(((x10.ix x11).drop 2).getD 1 .any)]]/\((e7.length)+([[VS ((r2.cs.getD 0 .any).aj),(r2.cs.getD 1 .any),VS ((((x10.ix x11).drop 2).getD 0 .any).aj),(((x10.ix x11).drop 2).getD 1 .any)]]:List (List AV)).length)*80<=140737488355328)<|.done 0 [x10,VI (IntKind.wrap .i64 (x11+1))] [.cells [VS o5_0,o5_1],.vec 4 (e7++([[VS ((r2.cs.getD 0 .any).aj),(r2.cs.getD 1 .any),VS ((((x10.ix x11).drop 2).getD 0 .any).aj),(((x10.ix x11).drop 2).getD 1 .any)]]:List (List AV)))]) (.done 1 [] [.vec 4 e7])
abbrev Ft:=cm Tryz.prog 244 GR E1
theorem Kk(x10:AV)(x11:Int)(o5_0:ByteArray)(o5_1:AV)(e7:List (List AV))(h:kt 244 (Dd x10 x11 o5_0 o5_1 e7) Ft U):Ft [x10,VI x11] [.cells [VS o5_0,o5_1],.vec 4 e7] U :=
 gQ xW h
def DI(x1:ByteArray)(x12:ByteArray)(x13:AV)(x14:Int)(o3_0:ByteArray)(o3_1:AV)(o5_0:ByteArray)(o5_1:AV)(e7:List (List AV)):Tree :=
 NS (VS x1)<|NS (VS x12)<|NL x13<|NI (VI x14)<|.ak (Ob.cells [VS o3_0,o3_1]=.cells [VS o3_0,o3_1])<|.ak (ae [.lk .str,.lk .sl] [VS o3_0,o3_1] 0 [.cells [VS o5_0,o5_1],.vec 4 e7])<|.ak (Ob.cells [VS o5_0,o5_1]=.cells [VS o5_0,o5_1])<|.ak (ae [.lk .str,.lk .sl] [VS o5_0,o5_1] 0 [.vec 4 e7])<|.ak (Ob.vec 4 e7=.vec 4 e7)<|NL x13<|.test (decide (x14<(x13.aM.length:Int))) (NG x13 x14 4<|NE (x13.ix x14)<|.call 78 [VS (mk [108]),.sl [[VS (((x13.ix x14).getD 0 .any).aj),((x13.ix x14).getD 1 .any)]]] [] fun r1 o1=>NA r1<|.call 78 [VS (mk [102]),.sl [[VS ((r1.cs.getD 0 .any).aj),(r1.cs.getD 1 .any)]]] [] fun r2 o2=>NA r2<|NG x13 x14 4<|NE ((x13.ix x14).drop 2)<|.ak (cb 4 [[VS ((r2.cs.getD 0 .any).aj),(r2.cs.getD 1 .any),VS ((((x13.ix x14).drop 2).getD 0 .any).aj),(((x13.ix x14).drop 2).getD 1 .any)]]/\((e7.length)+([[VS ((r2.cs.getD 0 .any).aj),(r2.cs.getD 1 .any),VS ((((x13.ix x14).drop 2).getD 0 .any).aj),(((x13.ix x14).drop 2).getD 1 .any)]]:List (List AV)).length)*80<=140737488355328)<|.done 0 [VS x1,VS x12,x13,VI (IntKind.wrap .i64 (x14+1))] [.cells [VS o3_0,o3_1],.cells [VS o5_0,o5_1],.vec 4 (e7++([[VS ((r2.cs.getD 0 .any).aj),(r2.cs.getD 1 .any),VS ((((x13.ix x14).drop 2).getD 0 .any).aj),(((x13.ix x14).drop 2).getD 1 .any)]]:List (List AV)))]) (.done 1 [VS x1,VS x12] [.cells [VS o3_0,o3_1],.cells [VS o5_0,o5_1],.vec 4 e7])
abbrev FX:=cm Tryz.prog 244 Hp FZ
theorem JU(x1:ByteArray)(x12:ByteArray)(x13:AV)(x14:Int)(o3_0:ByteArray)(o3_1:AV)(o5_0:ByteArray)(o5_1:AV)(e7:List (List AV))(h:kt 244 (DI x1 x12 x13 x14 o3_0 o3_1 o5_0 o5_1 e7) FX U):FX [VS x1,VS x12,x13,VI x14] [.cells [VS o3_0,o3_1],.cells [VS o5_0,o5_1],.vec 4 e7] U :=
 gQ xW h
def Fe(x1:ByteArray)(x15:AV)(x16:Int)(o3_0:ByteArray)(o3_1:AV)(e7:List (List AV)):Tree :=
 NS (VS x1)<|NL x15<|NI (VI x16)<|.ak (Ob.cells [VS o3_0,o3_1]=.cells [VS o3_0,o3_1])<|.ak (ae [.lk .str,.lk .sl] [VS o3_0,o3_1] 0 [.vec 4 e7])<|.ak (Ob.vec 4 e7=.vec 4 e7)<|NL x15<|.test (decide (x16<(x15.aM.length:Int))) (NG x15 x16 4<|NE ((x15.ix x16).drop 2)<|.call 77 [.agg [VS o3_0,o3_1],VS x1,.agg [VS ((((x15.ix x16).drop 2).getD 0 .any).aj),(((x15.ix x16).drop 2).getD 1 .any)]] [] fun r1 o1=>NL r1<|.loop HF Eg [VS x1,x15,VI x16,r1,VI 0] [.cells [VS o3_0,o3_1],.vec 4 e7] (fun y2 q2=>NS (y2.hA)<|NL (y2.tail.hA)<|NI (y2.tail.tail.hA)<|.ak ((q2.hO)=.cells (q2.hO).cs)<|.ak (ae [.lk .str,.lk .sl] ((q2.hO).cs) 0 q2.tail)<|.ak (((q2.drop 1).hO)=.vec 4 ((q2.drop 1).hO).es)<|.done 0 [VS ((y2.hA).aj),(y2.tail.hA),VI (IntKind.wrap .i64 (((y2.tail.tail.hA).toInt)+1))] [.cells [VS (((q2.hO).cs.getD 0 .any).aj),((q2.hO).cs.getD 1 .any)],.vec 4 ((q2.tail.hO).es)]) (fun y2 q2=>.done 2 [] [])) (.done 1 [] [.vec 4 e7])
abbrev EP:=cm Tryz.prog 244 GW FU
theorem IK(x1:ByteArray)(x15:AV)(x16:Int)(o3_0:ByteArray)(o3_1:AV)(e7:List (List AV))(h:kt 244 (Fe x1 x15 x16 o3_0 o3_1 e7) EP U):EP [VS x1,x15,VI x16] [.cells [VS o3_0,o3_1],.vec 4 e7] U :=
 gQ xW h
def EG(x1:ByteArray)(x15:AV)(x16:Int)(x17:AV)(x18:Int)(o3_0:ByteArray)(o3_1:AV)(e7:List (List AV)):Tree :=
 NS (VS x1)<|NL x15<|NI (VI x16)<|NL x17<|NI (VI x18)<|.ak (Ob.cells [VS o3_0,o3_1]=.cells [VS o3_0,o3_1])<|.ak (ae [.lk .str,.lk .sl] [VS o3_0,o3_1] 0 [.vec 4 e7])<|.ak (Ob.vec 4 e7=.vec 4 e7)<|NL x17<|.test (decide (x18<(x17.aM.length:Int))) (NG x15 x16 4<|NE (x15.ix x16)<|NG x17 x18 4<|NE (x17.ix x18)<|.call 78 [VS (mk [112]),.sl [[VS (((x15.ix x16).getD 0 .any).aj),((x15.ix x16).getD 1 .any)],[VS (((x17.ix x18).getD 0 .any).aj),((x17.ix x18).getD 1 .any)]]] [] fun r1 o1=>NA r1<|.call 78 [VS (mk [114]),.sl [[VS ((r1.cs.getD 0 .any).aj),(r1.cs.getD 1 .any)]]] [] fun r2 o2=>NA r2<|.call 78 [VS (mk [102]),.sl [[VS ((r2.cs.getD 0 .any).aj),(r2.cs.getD 1 .any)]]] [] fun r3 o3=>NA r3<|NG x17 x18 4<|NE ((x17.ix x18).drop 2)<|.ak (cb 4 [[VS ((r3.cs.getD 0 .any).aj),(r3.cs.getD 1 .any),VS ((((x17.ix x18).drop 2).getD 0 .any).aj),(((x17.ix x18).drop 2).getD 1 .any)]]/\((e7.length)+([[VS ((r3.cs.getD 0 .any).aj),(r3.cs.getD 1 .any),VS ((((x17.ix x18).drop 2).getD 0 .any).aj),(((x17.ix x18).drop 2).getD 1 .any)]]:List (List AV)).length)*80<=140737488355328)<|.done 0 [VS x1,x15,VI x16,x17,VI (IntKind.wrap .i64 (x18+1))] [.cells [VS o3_0,o3_1],.vec 4 (e7++([[VS ((r3.cs.getD 0 .any).aj),(r3.cs.getD 1 .any),VS ((((x17.ix x18).drop 2).getD 0 .any).aj),(((x17.ix x18).drop 2).getD 1 .any)]]:List (List AV)))]) (.done 1 [VS x1,x15,VI x16] [.cells [VS o3_0,o3_1],.vec 4 e7])
abbrev Fh:=cm Tryz.prog 244 HF Eg
theorem GB(x1:ByteArray)(x15:AV)(x16:Int)(x17:AV)(x18:Int)(o3_0:ByteArray)(o3_1:AV)(e7:List (List AV))(h:kt 244 (EG x1 x15 x16 x17 x18 o3_0 o3_1 e7) Fh U):Fh [VS x1,x15,VI x16,x17,VI x18] [.cells [VS o3_0,o3_1],.vec 4 e7] U :=
 gQ xW h
def HI(a0:ByteArray)(a1:AV):Tree :=
 .ak (LK.has .sl a1/\cb 2 a1.aM/\((([[VS a0,.v (.slice none 0 0)]]:List (List AV)).length)+a1.aM.length)*40<=140737488355328)<|.done 0 [.agg [VS (mk []),.sl (([[VS a0,.v (.slice none 0 0)]]:List (List AV))++a1.aM)]] []
theorem MY(a0:ByteArray)(a1:AV)(ha1:LK.has .sl a1)(h:dH 11 (HI a0 a1) R):au Tryz.prog 78 [VS a0,a1] [] R :=
 uQ (ah (aC _) (ah (bT ha1) aD)) (oQ [] Tryz.f78 h)
def IF(a0_0:AV)(a0_1:Int)(a1:AV):Tree :=
 NL a1<|.call 29 [.ref 0 0,VI (a1.aM.length:Int)] [.cells [a0_0,VI a0_1]] fun r1 o1=>.ak ((o1.hO)=.cells (o1.hO).cs)<|.ak (aO [.lk .sl,.lk (.int .i64)] ((o1.hO).cs) 0 1 o1.tail)<|NI r1<|.ak (LK.has .sl a1/\0<=r1.toInt/\r1.toInt<a1.aM.length/\(a1.aM.getD r1.toInt.toNat []).length=1)<|oV (a1.aM.getD r1.toInt.toNat [])<|.done 0 [VS (((a1.aM.getD r1.toInt.toNat []).hA).aj)] [.cells [((o1.hO).cs.getD 0 .any),VI (((o1.hO).cs.getD 1 .any).toInt)]]
theorem Ln(a0_0:AV)(a0_1:Int)(a1:AV)(ha1:LK.has .sl a1)(ha0_0:LK.has .sl a0_0)(h:dH 12 (IF a0_0 a0_1 a1) R):au Tryz.prog 80 [.ref 0 0,a1] [.cells [a0_0,VI a0_1]] R :=
 au.ox (bn (ca (ah (bT ha0_0) (ah (aC _) aD))) cu) (au.up (ah (aC _) (ah (bT ha1) aD)) (oF [] {mu:=[(0,.one (.obj [.lk .sl,.lk (.int .i64)]))],own:=[]} Tryz.f80 h))
def Kt(a0_0:AV)(a0_1:Int):Tree :=
 .call 29 [.ref 0 0,VI 8] [.cells [a0_0,VI a0_1]] fun r1 o1=>.ak ((o1.hO)=.cells (o1.hO).cs)<|.ak (aO [.lk .sl,.lk (.int .i64)] ((o1.hO).cs) 0 1 o1.tail)<|NI r1<|.test (r1.toInt==(0:Int)) (.call 106 [.ref 0 0] [.cells [((o1.hO).cs.getD 0 .any),VI (((o1.hO).cs.getD 1 .any).toInt)]] fun r2 o2=>.ak ((o2.hO)=.cells (o2.hO).cs)<|.ak (aO [.lk .sl,.lk (.int .i64)] ((o2.hO).cs) 0 1 o2.tail)<|NS r2<|.done 0 [VS r2.aj] [.cells [((o2.hO).cs.getD 0 .any),VI (((o2.hO).cs.getD 1 .any).toInt)]]) (.test (r1.toInt==(1:Int)) (.call 107 [.ref 0 0,.sl [],VI 3] [.cells [((o1.hO).cs.getD 0 .any),VI (((o1.hO).cs.getD 1 .any).toInt)]] fun r3 o3=>.ak ((o3.hO)=.cells (o3.hO).cs)<|.ak (aO [.lk .sl,.lk (.int .i64)] ((o3.hO).cs) 0 1 o3.tail)<|NS r3<|.done 0 [VS r3.aj] [.cells [((o3.hO).cs.getD 0 .any),VI (((o3.hO).cs.getD 1 .any).toInt)]]) (.test (r1.toInt==(2:Int)) (.call 107 [.ref 0 0,.sl [],VI 3] [.cells [((o1.hO).cs.getD 0 .any),VI (((o1.hO).cs.getD 1 .any).toInt)]] fun r4 o4=>.ak ((o4.hO)=.cells (o4.hO).cs)<|.ak (aO [.lk .sl,.lk (.int .i64)] ((o4.hO).cs) 0 1 o4.tail)<|NS r4<|.done 0 [VS r4.aj] [.cells [((o4.hO).cs.getD 0 .any),VI (((o4.hO).cs.getD 1 .any).toInt)]]) (.test (r1.toInt==(3:Int)) (.call 107 [.ref 0 0,.sl [],VI 3] [.cells [((o1.hO).cs.getD 0 .any),VI (((o1.hO).cs.getD 1 .any).toInt)]] fun r5 o5=>.ak ((o5.hO)=.cells (o5.hO).cs)<|.ak (aO [.lk .sl,.lk (.int .i64)] ((o5.hO).cs) 0 1 o5.tail)<|NS r5<|.done 0 [VS r5.aj] [.cells [((o5.hO).cs.getD 0 .any),VI (((o5.hO).cs.getD 1 .any).toInt)]]) (.call 50 [.ref 0 0] [.cells [((o1.hO).cs.getD 0 .any),VI (((o1.hO).cs.getD 1 .any).toInt)]] fun r6 o6=>.ak ((o6.hO)=.cells (o6.hO).cs)<|.ak (aO [.lk .sl,.lk (.int .i64)] ((o6.hO).cs) 0 1 o6.tail)<|NS r6<|.done 0 [VS r6.aj] [.cells [((o6.hO).cs.getD 0 .any),VI (((o6.hO).cs.getD 1 .any).toInt)]]))))
theorem Np(a0_0:AV)(a0_1:Int)(ha0_0:LK.has .sl a0_0)(h:dH 18 (Kt a0_0 a0_1) R):au Tryz.prog 81 [.ref 0 0] [.cells [a0_0,VI a0_1]] R :=
 au.ox (bn (ca (ah (bT ha0_0) (ah (aC _) aD))) cu) (au.up (ah (aC _) aD) (oF [] {mu:=[(0,.one (.obj [.lk .sl,.lk (.int .i64)]))],own:=[]} Tryz.f81 h))
def An(a0_0:AV)(a0_1:Int)(a1_0:ByteArray)(a1_1:AV)(a2:Int):Tree :=
 .call 71 [.agg [VS a1_0,a1_1]] [] fun r1 o1=>NS r1<|.test (ac r1.aj==ac (mk [43])) (.call 29 [.ref 0 0,VI 2] [.cells [a0_0,VI a0_1]] fun r2 o2=>.ak ((o2.hO)=.cells (o2.hO).cs)<|.ak (aO [.lk .sl,.lk (.int .i64)] ((o2.hO).cs) 0 1 o2.tail)<|NI r2<|NG a1_1 1 2<|NE (a1_1.ix (1:Int))<|.call 108 [.agg [VS (((a1_1.ix (1:Int)).getD 0 .any).aj),((a1_1.ix (1:Int)).getD 1 .any)],.sl []] [] fun r3 o3=>NB r3<|.test r3.toBool (.test ((1:Int)==(0:Int)) (NG a1_1 1 2<|NE (a1_1.ix (1:Int))<|.call 82 [.ref 0 0,.agg [VS (((a1_1.ix (1:Int)).getD 0 .any).aj),((a1_1.ix (1:Int)).getD 1 .any)],VI (IntKind.wrap .i64 (a2-1))] [.cells [((o2.hO).cs.getD 0 .any),VI (((o2.hO).cs.getD 1 .any).toInt)]] fun r4 o4=>.ak ((o4.hO)=.cells (o4.hO).cs)<|.ak (aO [.lk .sl,.lk (.int .i64)] ((o4.hO).cs) 0 1 o4.tail)<|NA r4<|.call 78 [VS (mk [108]),.sl [[VS ((r4.cs.getD 0 .any).aj),(r4.cs.getD 1 .any)]]] [] fun r5 o5=>NA r5<|.done 0 [.agg [VS ((r5.cs.getD 0 .any).aj),(r5.cs.getD 1 .any)]] [.cells [((o4.hO).cs.getD 0 .any),VI (((o4.hO).cs.getD 1 .any).toInt)]]) (NG a1_1 2 2<|NE (a1_1.ix (2:Int))<|.call 82 [.ref 0 0,.agg [VS (((a1_1.ix (2:Int)).getD 0 .any).aj),((a1_1.ix (2:Int)).getD 1 .any)],VI (IntKind.wrap .i64 (a2-1))] [.cells [((o2.hO).cs.getD 0 .any),VI (((o2.hO).cs.getD 1 .any).toInt)]] fun r6 o6=>.ak ((o6.hO)=.cells (o6.hO).cs)<|.ak (aO [.lk .sl,.lk (.int .i64)] ((o6.hO).cs) 0 1 o6.tail)<|NA r6<|.call 78 [VS (mk [114]),.sl [[VS ((r6.cs.getD 0 .any).aj),(r6.cs.getD 1 .any)]]] [] fun r7 o7=>NA r7<|.done 0 [.agg [VS ((r7.cs.getD 0 .any).aj),(r7.cs.getD 1 .any)]] [.cells [((o6.hO).cs.getD 0 .any),VI (((o6.hO).cs.getD 1 .any).toInt)]])) (.test (decide (a2<=(0:Int))) (NG a1_1 1 2<|NE (a1_1.ix (1:Int))<|.call 109 [.agg [VS (((a1_1.ix (1:Int)).getD 0 .any).aj),((a1_1.ix (1:Int)).getD 1 .any)]] [] fun r8 o8=>NI r8<|NG a1_1 2 2<|NE (a1_1.ix (2:Int))<|.call 109 [.agg [VS (((a1_1.ix (2:Int)).getD 0 .any).aj),((a1_1.ix (2:Int)).getD 1 .any)]] [] fun r9 o9=>NI r9<|.test (decide (r8.toInt>r9.toInt)) (NG a1_1 2 2<|NE (a1_1.ix (2:Int))<|.call 108 [.agg [VS (((a1_1.ix (2:Int)).getD 0 .any).aj),((a1_1.ix (2:Int)).getD 1 .any)],.sl []] [] fun r10 o10=>NB r10<|.test (!r10.toBool) (.test ((1:Int)==(0:Int)) (NG a1_1 1 2<|NE (a1_1.ix (1:Int))<|.call 82 [.ref 0 0,.agg [VS (((a1_1.ix (1:Int)).getD 0 .any).aj),((a1_1.ix (1:Int)).getD 1 .any)],VI (IntKind.wrap .i64 (a2-1))] [.cells [((o2.hO).cs.getD 0 .any),VI (((o2.hO).cs.getD 1 .any).toInt)]] fun r11 o11=>.ak ((o11.hO)=.cells (o11.hO).cs)<|.ak (aO [.lk .sl,.lk (.int .i64)] ((o11.hO).cs) 0 1 o11.tail)<|NA r11<|.call 78 [VS (mk [108]),.sl [[VS ((r11.cs.getD 0 .any).aj),(r11.cs.getD 1 .any)]]] [] fun r12 o12=>NA r12<|.done 0 [.agg [VS ((r12.cs.getD 0 .any).aj),(r12.cs.getD 1 .any)]] [.cells [((o11.hO).cs.getD 0 .any),VI (((o11.hO).cs.getD 1 .any).toInt)]]) (NG a1_1 2 2<|NE (a1_1.ix (2:Int))<|.call 82 [.ref 0 0,.agg [VS (((a1_1.ix (2:Int)).getD 0 .any).aj),((a1_1.ix (2:Int)).getD 1 .any)],VI (IntKind.wrap .i64 (a2-1))] [.cells [((o2.hO).cs.getD 0 .any),VI (((o2.hO).cs.getD 1 .any).toInt)]] fun r13 o13=>.ak ((o13.hO)=.cells (o13.hO).cs)<|.ak (aO [.lk .sl,.lk (.int .i64)] ((o13.hO).cs) 0 1 o13.tail)<|NA r13<|.call 78 [VS (mk [114]),.sl [[VS ((r13.cs.getD 0 .any).aj),(r13.cs.getD 1 .any)]]] [] fun r14 o14=>NA r14<|.done 0 [.agg [VS ((r14.cs.getD 0 .any).aj),(r14.cs.getD 1 .any)]] [.cells [((o13.hO).cs.getD 0 .any),VI (((o13.hO).cs.getD 1 .any).toInt)]])) (NG a1_1 2 2<|NE (a1_1.ix (2:Int))<|.call 108 [.agg [VS (((a1_1.ix (2:Int)).getD 0 .any).aj),((a1_1.ix (2:Int)).getD 1 .any)],.sl []] [] fun r15 o15=>NB r15<|.test r15.toBool (.test ((0:Int)==(0:Int)) (NG a1_1 1 2<|NE (a1_1.ix (1:Int))<|.call 82 [.ref 0 0,.agg [VS (((a1_1.ix (1:Int)).getD 0 .any).aj),((a1_1.ix (1:Int)).getD 1 .any)],VI (IntKind.wrap .i64 (a2-1))] [.cells [((o2.hO).cs.getD 0 .any),VI (((o2.hO).cs.getD 1 .any).toInt)]] fun r16 o16=>.ak ((o16.hO)=.cells (o16.hO).cs)<|.ak (aO [.lk .sl,.lk (.int .i64)] ((o16.hO).cs) 0 1 o16.tail)<|NA r16<|.call 78 [VS (mk [108]),.sl [[VS ((r16.cs.getD 0 .any).aj),(r16.cs.getD 1 .any)]]] [] fun r17 o17=>NA r17<|.done 0 [.agg [VS ((r17.cs.getD 0 .any).aj),(r17.cs.getD 1 .any)]] [.cells [((o16.hO).cs.getD 0 .any),VI (((o16.hO).cs.getD 1 .any).toInt)]]) (NG a1_1 2 2<|NE (a1_1.ix (2:Int))<|.call 82 [.ref 0 0,.agg [VS (((a1_1.ix (2:Int)).getD 0 .any).aj),((a1_1.ix (2:Int)).getD 1 .any)],VI (IntKind.wrap .i64 (a2-1))] [.cells [((o2.hO).cs.getD 0 .any),VI (((o2.hO).cs.getD 1 .any).toInt)]] fun r18 o18=>.ak ((o18.hO)=.cells (o18.hO).cs)<|.ak (aO [.lk .sl,.lk (.int .i64)] ((o18.hO).cs) 0 1 o18.tail)<|NA r18<|.call 78 [VS (mk [114]),.sl [[VS ((r18.cs.getD 0 .any).aj),(r18.cs.getD 1 .any)]]] [] fun r19 o19=>NA r19<|.done 0 [.agg [VS ((r19.cs.getD 0 .any).aj),(r19.cs.getD 1 .any)]] [.cells [((o18.hO).cs.getD 0 .any),VI (((o18.hO).cs.getD 1 .any).toInt)]])) (.test (decide (a2<=(0:Int))) (.test ((0:Int)==(0:Int)) (NG a1_1 1 2<|NE (a1_1.ix (1:Int))<|.call 82 [.ref 0 0,.agg [VS (((a1_1.ix (1:Int)).getD 0 .any).aj),((a1_1.ix (1:Int)).getD 1 .any)],VI (IntKind.wrap .i64 (a2-1))] [.cells [((o2.hO).cs.getD 0 .any),VI (((o2.hO).cs.getD 1 .any).toInt)]] fun r20 o20=>.ak ((o20.hO)=.cells (o20.hO).cs)<|.ak (aO [.lk .sl,.lk (.int .i64)] ((o20.hO).cs) 0 1 o20.tail)<|NA r20<|.call 78 [VS (mk [108]),.sl [[VS ((r20.cs.getD 0 .any).aj),(r20.cs.getD 1 .any)]]] [] fun r21 o21=>NA r21<|.done 0 [.agg [VS ((r21.cs.getD 0 .any).aj),(r21.cs.getD 1 .any)]] [.cells [((o20.hO).cs.getD 0 .any),VI (((o20.hO).cs.getD 1 .any).toInt)]]) (NG a1_1 2 2<|NE (a1_1.ix (2:Int))<|.call 82 [.ref 0 0,.agg [VS (((a1_1.ix (2:Int)).getD 0 .any).aj),((a1_1.ix (2:Int)).getD 1 .any)],VI (IntKind.wrap .i64 (a2-1))] [.cells [((o2.hO).cs.getD 0 .any),VI (((o2.hO).cs.getD 1 .any).toInt)]] fun r22 o22=>.ak ((o22.hO)=.cells (o22.hO).cs)<|.ak (aO [.lk .sl,.lk (.int .i64)] ((o22.hO).cs) 0 1 o22.tail)<|NA r22<|.call 78 [VS (mk [114]),.sl [[VS ((r22.cs.getD 0 .any).aj),(r22.cs.getD 1 .any)]]] [] fun r23 o23=>NA r23<|.done 0 [.agg [VS ((r23.cs.getD 0 .any).aj),(r23.cs.getD 1 .any)]] [.cells [((o22.hO).cs.getD 0 .any),VI (((o22.hO).cs.getD 1 .any).toInt)]])) (.test (r2.toInt==(0:Int)) (NG a1_1 1 2<|NE (a1_1.ix (1:Int))<|.call 82 [.ref 0 0,.agg [VS (((a1_1.ix (1:Int)).getD 0 .any).aj),((a1_1.ix (1:Int)).getD 1 .any)],VI (IntKind.wrap .i64 (a2-1))] [.cells [((o2.hO).cs.getD 0 .any),VI (((o2.hO).cs.getD 1 .any).toInt)]] fun r24 o24=>.ak ((o24.hO)=.cells (o24.hO).cs)<|.ak (aO [.lk .sl,.lk (.int .i64)] ((o24.hO).cs) 0 1 o24.tail)<|NA r24<|.call 78 [VS (mk [108]),.sl [[VS ((r24.cs.getD 0 .any).aj),(r24.cs.getD 1 .any)]]] [] fun r25 o25=>NA r25<|.done 0 [.agg [VS ((r25.cs.getD 0 .any).aj),(r25.cs.getD 1 .any)]] [.cells [((o24.hO).cs.getD 0 .any),VI (((o24.hO).cs.getD 1 .any).toInt)]]) (NG a1_1 2 2<|NE (a1_1.ix (2:Int))<|.call 82 [.ref 0 0,.agg [VS (((a1_1.ix (2:Int)).getD 0 .any).aj),((a1_1.ix (2:Int)).getD 1 .any)],VI (IntKind.wrap .i64 (a2-1))] [.cells [((o2.hO).cs.getD 0 .any),VI (((o2.hO).cs.getD 1 .any).toInt)]] fun r26 o26=>.ak ((o26.hO)=.cells (o26.hO).cs)<|.ak (aO [.lk .sl,.lk (.int .i64)] ((o26.hO).cs) 0 1 o26.tail)<|NA r26<|.call 78 [VS (mk [114]),.sl [[VS ((r26.cs.getD 0 .any).aj),(r26.cs.getD 1 .any)]]] [] fun r27 o27=>NA r27<|.done 0 [.agg [VS ((r27.cs.getD 0 .any).aj),(r27.cs.getD 1 .any)]] [.cells [((o26.hO).cs.getD 0 .any),VI (((o26.hO).cs.getD 1 .any).toInt)]]))))) (NG a1_1 2 2<|NE (a1_1.ix (2:Int))<|.call 108 [.agg [VS (((a1_1.ix (2:Int)).getD 0 .any).aj),((a1_1.ix (2:Int)).getD 1 .any)],.sl []] [] fun r28 o28=>NB r28<|.test r28.toBool (.test ((0:Int)==(0:Int)) (NG a1_1 1 2<|NE (a1_1.ix (1:Int))<|.call 82 [.ref 0 0,.agg [VS (((a1_1.ix (1:Int)).getD 0 .any).aj),((a1_1.ix (1:Int)).getD 1 .any)],VI (IntKind.wrap .i64 (a2-1))] [.cells [((o2.hO).cs.getD 0 .any),VI (((o2.hO).cs.getD 1 .any).toInt)]] fun r29 o29=>.ak ((o29.hO)=.cells (o29.hO).cs)<|.ak (aO [.lk .sl,.lk (.int .i64)] ((o29.hO).cs) 0 1 o29.tail)<|NA r29<|.call 78 [VS (mk [108]),.sl [[VS ((r29.cs.getD 0 .any).aj),(r29.cs.getD 1 .any)]]] [] fun r30 o30=>NA r30<|.done 0 [.agg [VS ((r30.cs.getD 0 .any).aj),(r30.cs.getD 1 .any)]] [.cells [((o29.hO).cs.getD 0 .any),VI (((o29.hO).cs.getD 1 .any).toInt)]]) (NG a1_1 2 2<|NE (a1_1.ix (2:Int))<|.call 82 [.ref 0 0,.agg [VS (((a1_1.ix (2:Int)).getD 0 .any).aj),((a1_1.ix (2:Int)).getD 1 .any)],VI (IntKind.wrap .i64 (a2-1))] [.cells [((o2.hO).cs.getD 0 .any),VI (((o2.hO).cs.getD 1 .any).toInt)]] fun r31 o31=>.ak ((o31.hO)=.cells (o31.hO).cs)<|.ak (aO [.lk .sl,.lk (.int .i64)] ((o31.hO).cs) 0 1 o31.tail)<|NA r31<|.call 78 [VS (mk [114]),.sl [[VS ((r31.cs.getD 0 .any).aj),(r31.cs.getD 1 .any)]]] [] fun r32 o32=>NA r32<|.done 0 [.agg [VS ((r32.cs.getD 0 .any).aj),(r32.cs.getD 1 .any)]] [.cells [((o31.hO).cs.getD 0 .any),VI (((o31.hO).cs.getD 1 .any).toInt)]])) (.test (decide (a2<=(0:Int))) (.test ((0:Int)==(0:Int)) (NG a1_1 1 2<|NE (a1_1.ix (1:Int))<|.call 82 [.ref 0 0,.agg [VS (((a1_1.ix (1:Int)).getD 0 .any).aj),((a1_1.ix (1:Int)).getD 1 .any)],VI (IntKind.wrap .i64 (a2-1))] [.cells [((o2.hO).cs.getD 0 .any),VI (((o2.hO).cs.getD 1 .any).toInt)]] fun r33 o33=>.ak ((o33.hO)=.cells (o33.hO).cs)<|.ak (aO [.lk .sl,.lk (.int .i64)] ((o33.hO).cs) 0 1 o33.tail)<|NA r33<|.call 78 [VS (mk [108]),.sl [[VS ((r33.cs.getD 0 .any).aj),(r33.cs.getD 1 .any)]]] [] fun r34 o34=>NA r34<|.done 0 [.agg [VS ((r34.cs.getD 0 .any).aj),(r34.cs.getD 1 .any)]] [.cells [((o33.hO).cs.getD 0 .any),VI (((o33.hO).cs.getD 1 .any).toInt)]]) (NG a1_1 2 2<|NE (a1_1.ix (2:Int))<|.call 82 [.ref 0 0,.agg [VS (((a1_1.ix (2:Int)).getD 0 .any).aj),((a1_1.ix (2:Int)).getD 1 .any)],VI (IntKind.wrap .i64 (a2-1))] [.cells [((o2.hO).cs.getD 0 .any),VI (((o2.hO).cs.getD 1 .any).toInt)]] fun r35 o35=>.ak ((o35.hO)=.cells (o35.hO).cs)<|.ak (aO [.lk .sl,.lk (.int .i64)] ((o35.hO).cs) 0 1 o35.tail)<|NA r35<|.call 78 [VS (mk [114]),.sl [[VS ((r35.cs.getD 0 .any).aj),(r35.cs.getD 1 .any)]]] [] fun r36 o36=>NA r36<|.done 0 [.agg [VS ((r36.cs.getD 0 .any).aj),(r36.cs.getD 1 .any)]] [.cells [((o35.hO).cs.getD 0 .any),VI (((o35.hO).cs.getD 1 .any).toInt)]])) (.test (r2.toInt==(0:Int)) (NG a1_1 1 2<|NE (a1_1.ix (1:Int))<|.call 82 [.ref 0 0,.agg [VS (((a1_1.ix (1:Int)).getD 0 .any).aj),((a1_1.ix (1:Int)).getD 1 .any)],VI (IntKind.wrap .i64 (a2-1))] [.cells [((o2.hO).cs.getD 0 .any),VI (((o2.hO).cs.getD 1 .any).toInt)]] fun r37 o37=>.ak ((o37.hO)=.cells (o37.hO).cs)<|.ak (aO [.lk .sl,.lk (.int .i64)] ((o37.hO).cs) 0 1 o37.tail)<|NA r37<|.call 78 [VS (mk [108]),.sl [[VS ((r37.cs.getD 0 .any).aj),(r37.cs.getD 1 .any)]]] [] fun r38 o38=>NA r38<|.done 0 [.agg [VS ((r38.cs.getD 0 .any).aj),(r38.cs.getD 1 .any)]] [.cells [((o37.hO).cs.getD 0 .any),VI (((o37.hO).cs.getD 1 .any).toInt)]]) (NG a1_1 2 2<|NE (a1_1.ix (2:Int))<|.call 82 [.ref 0 0,.agg [VS (((a1_1.ix (2:Int)).getD 0 .any).aj),((a1_1.ix (2:Int)).getD 1 .any)],VI (IntKind.wrap .i64 (a2-1))] [.cells [((o2.hO).cs.getD 0 .any),VI (((o2.hO).cs.getD 1 .any).toInt)]] fun r39 o39=>.ak ((o39.hO)=.cells (o39.hO).cs)<|.ak (aO [.lk .sl,.lk (.int .i64)] ((o39.hO).cs) 0 1 o39.tail)<|NA r39<|.call 78 [VS (mk [114]),.sl [[VS ((r39.cs.getD 0 .any).aj),(r39.cs.getD 1 .any)]]] [] fun r40 o40=>NA r40<|.done 0 [.agg [VS ((r40.cs.getD 0 .any).aj),(r40.cs.getD 1 .any)]] [.cells [((o39.hO).cs.getD 0 .any),VI (((o39.hO).cs.getD 1 .any).toInt)]]))))) (NG a1_1 2 2<|NE (a1_1.ix (2:Int))<|.call 108 [.agg [VS (((a1_1.ix (2:Int)).getD 0 .any).aj),((a1_1.ix (2:Int)).getD 1 .any)],.sl []] [] fun r41 o41=>NB r41<|.test r41.toBool (.test ((0:Int)==(0:Int)) (NG a1_1 1 2<|NE (a1_1.ix (1:Int))<|.call 82 [.ref 0 0,.agg [VS (((a1_1.ix (1:Int)).getD 0 .any).aj),((a1_1.ix (1:Int)).getD 1 .any)],VI (IntKind.wrap .i64 (a2-1))] [.cells [((o2.hO).cs.getD 0 .any),VI (((o2.hO).cs.getD 1 .any).toInt)]] fun r42 o42=>.ak ((o42.hO)=.cells (o42.hO).cs)<|.ak (aO [.lk .sl,.lk (.int .i64)] ((o42.hO).cs) 0 1 o42.tail)<|NA r42<|.call 78 [VS (mk [108]),.sl [[VS ((r42.cs.getD 0 .any).aj),(r42.cs.getD 1 .any)]]] [] fun r43 o43=>NA r43<|.done 0 [.agg [VS ((r43.cs.getD 0 .any).aj),(r43.cs.getD 1 .any)]] [.cells [((o42.hO).cs.getD 0 .any),VI (((o42.hO).cs.getD 1 .any).toInt)]]) (NG a1_1 2 2<|NE (a1_1.ix (2:Int))<|.call 82 [.ref 0 0,.agg [VS (((a1_1.ix (2:Int)).getD 0 .any).aj),((a1_1.ix (2:Int)).getD 1 .any)],VI (IntKind.wrap .i64 (a2-1))] [.cells [((o2.hO).cs.getD 0 .any),VI (((o2.hO).cs.getD 1 .any).toInt)]] fun r44 o44=>.ak ((o44.hO)=.cells (o44.hO).cs)<|.ak (aO [.lk .sl,.lk (.int .i64)] ((o44.hO).cs) 0 1 o44.tail)<|NA r44<|.call 78 [VS (mk [114]),.sl [[VS ((r44.cs.getD 0 .any).aj),(r44.cs.getD 1 .any)]]] [] fun r45 o45=>NA r45<|.done 0 [.agg [VS ((r45.cs.getD 0 .any).aj),(r45.cs.getD 1 .any)]] [.cells [((o44.hO).cs.getD 0 .any),VI (((o44.hO).cs.getD 1 .any).toInt)]])) (.test (decide (a2<=(0:Int))) (.test ((0:Int)==(0:Int)) (NG a1_1 1 2<|NE (a1_1.ix (1:Int))<|.call 82 [.ref 0 0,.agg [VS (((a1_1.ix (1:Int)).getD 0 .any).aj),((a1_1.ix (1:Int)).getD 1 .any)],VI (IntKind.wrap .i64 (a2-1))] [.cells [((o2.hO).cs.getD 0 .any),VI (((o2.hO).cs.getD 1 .any).toInt)]] fun r46 o46=>.ak ((o46.hO)=.cells (o46.hO).cs)<|.ak (aO [.lk .sl,.lk (.int .i64)] ((o46.hO).cs) 0 1 o46.tail)<|NA r46<|.call 78 [VS (mk [108]),.sl [[VS ((r46.cs.getD 0 .any).aj),(r46.cs.getD 1 .any)]]] [] fun r47 o47=>NA r47<|.done 0 [.agg [VS ((r47.cs.getD 0 .any).aj),(r47.cs.getD 1 .any)]] [.cells [((o46.hO).cs.getD 0 .any),VI (((o46.hO).cs.getD 1 .any).toInt)]]) (NG a1_1 2 2<|NE (a1_1.ix (2:Int))<|.call 82 [.ref 0 0,.agg [VS (((a1_1.ix (2:Int)).getD 0 .any).aj),((a1_1.ix (2:Int)).getD 1 .any)],VI (IntKind.wrap .i64 (a2-1))] [.cells [((o2.hO).cs.getD 0 .any),VI (((o2.hO).cs.getD 1 .any).toInt)]] fun r48 o48=>.ak ((o48.hO)=.cells (o48.hO).cs)<|.ak (aO [.lk .sl,.lk (.int .i64)] ((o48.hO).cs) 0 1 o48.tail)<|NA r48<|.call 78 [VS (mk [114]),.sl [[VS ((r48.cs.getD 0 .any).aj),(r48.cs.getD 1 .any)]]] [] fun r49 o49=>NA r49<|.done 0 [.agg [VS ((r49.cs.getD 0 .any).aj),(r49.cs.getD 1 .any)]] [.cells [((o48.hO).cs.getD 0 .any),VI (((o48.hO).cs.getD 1 .any).toInt)]])) (.test (r2.toInt==(0:Int)) (NG a1_1 1 2<|NE (a1_1.ix (1:Int))<|.call 82 [.ref 0 0,.agg [VS (((a1_1.ix (1:Int)).getD 0 .any).aj),((a1_1.ix (1:Int)).getD 1 .any)],VI (IntKind.wrap .i64 (a2-1))] [.cells [((o2.hO).cs.getD 0 .any),VI (((o2.hO).cs.getD 1 .any).toInt)]] fun r50 o50=>.ak ((o50.hO)=.cells (o50.hO).cs)<|.ak (aO [.lk .sl,.lk (.int .i64)] ((o50.hO).cs) 0 1 o50.tail)<|NA r50<|.call 78 [VS (mk [108]),.sl [[VS ((r50.cs.getD 0 .any).aj),(r50.cs.getD 1 .any)]]] [] fun r51 o51=>NA r51<|.done 0 [.agg [VS ((r51.cs.getD 0 .any).aj),(r51.cs.getD 1 .any)]] [.cells [((o50.hO).cs.getD 0 .any),VI (((o50.hO).cs.getD 1 .any).toInt)]]) (NG a1_1 2 2<|NE (a1_1.ix (2:Int))<|.call 82 [.ref 0 0,.agg [VS (((a1_1.ix (2:Int)).getD 0 .any).aj),((a1_1.ix (2:Int)).getD 1 .any)],VI (IntKind.wrap .i64 (a2-1))] [.cells [((o2.hO).cs.getD 0 .any),VI (((o2.hO).cs.getD 1 .any).toInt)]] fun r52 o52=>.ak ((o52.hO)=.cells (o52.hO).cs)<|.ak (aO [.lk .sl,.lk (.int .i64)] ((o52.hO).cs) 0 1 o52.tail)<|NA r52<|.call 78 [VS (mk [114]),.sl [[VS ((r52.cs.getD 0 .any).aj),(r52.cs.getD 1 .any)]]] [] fun r53 o53=>NA r53<|.done 0 [.agg [VS ((r53.cs.getD 0 .any).aj),(r53.cs.getD 1 .any)]] [.cells [((o52.hO).cs.getD 0 .any),VI (((o52.hO).cs.getD 1 .any).toInt)]])))))) (.test (ac r1.aj==ac (mk [42])) (NG a1_1 1 2<|NE (a1_1.ix (1:Int))<|.call 82 [.ref 0 0,.agg [VS (((a1_1.ix (1:Int)).getD 0 .any).aj),((a1_1.ix (1:Int)).getD 1 .any)],VI (IntKind.wrap .i64 (a2-1))] [.cells [a0_0,VI a0_1]] fun r54 o54=>.ak ((o54.hO)=.cells (o54.hO).cs)<|.ak (aO [.lk .sl,.lk (.int .i64)] ((o54.hO).cs) 0 1 o54.tail)<|NA r54<|NG a1_1 2 2<|NE (a1_1.ix (2:Int))<|.call 82 [.ref 0 0,.agg [VS (((a1_1.ix (2:Int)).getD 0 .any).aj),((a1_1.ix (2:Int)).getD 1 .any)],VI (IntKind.wrap .i64 (a2-1))] [.cells [((o54.hO).cs.getD 0 .any),VI (((o54.hO).cs.getD 1 .any).toInt)]] fun r55 o55=>.ak ((o55.hO)=.cells (o55.hO).cs)<|.ak (aO [.lk .sl,.lk (.int .i64)] ((o55.hO).cs) 0 1 o55.tail)<|NA r55<|.call 78 [VS (mk [112]),.sl [[VS ((r54.cs.getD 0 .any).aj),(r54.cs.getD 1 .any)],[VS ((r55.cs.getD 0 .any).aj),(r55.cs.getD 1 .any)]]] [] fun r56 o56=>NA r56<|.done 0 [.agg [VS ((r56.cs.getD 0 .any).aj),(r56.cs.getD 1 .any)]] [.cells [((o55.hO).cs.getD 0 .any),VI (((o55.hO).cs.getD 1 .any).toInt)]]) (.test (ac r1.aj==ac (mk [114,101,99])) (.call 110 [.agg [VS a1_0,a1_1]] [] fun r57 o57=>NT r57<|.ak ((r57.comp 0)=.agg (r57.comp 0).cs/\(r57.comp 0).cs.length=2/\bY [.str,.sl] ((r57.comp 0).cs) 0)<|NB (r57.comp 1)<|.test (!((r57.comp 1).toBool)) (.done 0 [.agg [VS (mk [117]),.v (.slice none 0 0)]] [.cells [a0_0,VI a0_1]]) (.test (decide (a2<((-12):Int))) (.done 0 [.agg [VS (mk [117]),.v (.slice none 0 0)]] [.cells [a0_0,VI a0_1]]) (.call 82 [.ref 0 0,.agg [VS (((r57.comp 0).cs.getD 0 .any).aj),((r57.comp 0).cs.getD 1 .any)],VI (IntKind.wrap .i64 (a2-1))] [.cells [a0_0,VI a0_1]] fun r58 o58=>.ak ((o58.hO)=.cells (o58.hO).cs)<|.ak (aO [.lk .sl,.lk (.int .i64)] ((o58.hO).cs) 0 1 o58.tail)<|NA r58<|.call 78 [VS (mk [102]),.sl [[VS ((r58.cs.getD 0 .any).aj),(r58.cs.getD 1 .any)]]] [] fun r59 o59=>NA r59<|.done 0 [.agg [VS ((r59.cs.getD 0 .any).aj),(r59.cs.getD 1 .any)]] [.cells [((o58.hO).cs.getD 0 .any),VI (((o58.hO).cs.getD 1 .any).toInt)]]))) (.test (ac a1_0==ac (mk [49])) (.done 0 [.agg [VS (mk [117]),.v (.slice none 0 0)]] [.cells [a0_0,VI a0_1]]) (.call 29 [.ref 0 0,VI 3] [.cells [a0_0,VI a0_1]] fun r60 o60=>.ak ((o60.hO)=.cells (o60.hO).cs)<|.ak (aO [.lk .sl,.lk (.int .i64)] ((o60.hO).cs) 0 1 o60.tail)<|NI r60<|.call 111 [VI r60.toInt] [] fun r61 o61=>NS r61<|.ak (ag (mk [101])+ag r61.aj<=9223372036854775807)<|.done 0 [.agg [VS (((mk [101]):ByteArray)++r61.aj),.v (.slice none 0 0)]] [.cells [((o60.hO).cs.getD 0 .any),VI (((o60.hO).cs.getD 1 .any).toInt)]]))))
theorem AN(a0_0:AV)(a0_1:Int)(a1_0:ByteArray)(a1_1:AV)(a2:Int)(ha1_1:LK.has .sl a1_1)(ha0_0:LK.has .sl a0_0)(h:dH 132 (An a0_0 a0_1 a1_0 a1_1 a2) R):au Tryz.prog 82 [.ref 0 0,.agg [VS a1_0,a1_1],VI a2] [.cells [a0_0,VI a0_1]] R :=
 au.ox (bn (ca (ah (bT ha0_0) (ah (aC _) aD))) cu) (au.up (ah (aC _) (ah (cG (ah (aC _) (ah (bT ha1_1) aD))) (ah (aC _) aD))) (oF [] {mu:=[(0,.one (.obj [.lk .sl,.lk (.int .i64)]))],own:=[]} Tryz.f82 h))
def CM:LI:={hd:={bI:=[(1,.k .sl),(6,.k (.int .i64))],refs:=[(2,2),(4,4)],cd:=[(2,[.lk .str,.lk .sl]),(4,[.lk .str,.lk .sl])],dY:=[(5,1)]},xs:={refs:=[(2,2),(4,4)],cd:=[(2,[.lk .str,.lk .sl]),(4,[.lk .str,.lk .sl])],dY:=[(5,1)]},rt:={},ex:=0}
def GP:Code:=cC (cw Tryz.f83) 3
def Gx:List (Nat×LI):=[(3,CM)]
def Hi(a0_0:ByteArray)(a0_1:AV)(a1:AV):Tree :=
 .call 98 [.agg [VS a0_0,a0_1],.sl [],.vec 0] [.vec 1 []] fun r1 o1=>.ak (r1=.vec 1/\(o1.tail.hO)=.vec 1 (o1.tail.hO).es)<|.loop GP CM [a1,VI 0] [.cells [VS a0_0,a0_1],.cells [VS (mk []),.v (.slice none 0 0)],.vec 1 ((o1.tail.hO).es)] (fun y3 q3=>.ak ((q3.hO)=.cells (q3.hO).cs)<|.ak (ae [.lk .str,.lk .sl] ((q3.hO).cs) 0 q3.tail)<|.ak (((q3.tail.drop 0).hO)=.cells ((q3.tail.drop 0).hO).cs)<|.ak (ae [.lk .str,.lk .sl] (((q3.tail.drop 0).hO).cs) 0 ((q3.tail.drop 0).tail))<|.ak (((q3.drop 2).hO)=.vec 1 ((q3.drop 2).hO).es)<|.call 112 [.agg [VS (((q3.hO).cs.getD 0 .any).aj),((q3.hO).cs.getD 1 .any)],.sl [],.sl [],.ref 0 0] [.cells [.vec 1,VI 0],.vec 1 ((q3.tail.tail.hO).es)] fun r4 o4=>.ak ((o4.hO)=.cells (o4.hO).cs)<|.ak (aO [.vec 1,.lk (.int .i64)] ((o4.hO).cs) 0 1 o4.tail)<|NA r4<|.done 0 [.agg [VS ((r4.cs.getD 0 .any).aj),(r4.cs.getD 1 .any)]] []) (fun y3 q3=>.fail)
theorem M4(a0_0:ByteArray)(a0_1:AV)(a1:AV)(ha0_1:LK.has .sl a0_1)(ha1:LK.has .sl a1)(h:dH 33 (Hi a0_0 a0_1 a1) R):au Tryz.prog 83 [.agg [VS a0_0,a0_1],a1] [] R :=
 uQ (ah (cG (ah (aC _) (ah (bT ha0_1) aD))) (ah (bT ha1) aD)) (oQ Gx Tryz.f83 h)
def DH(x1:AV)(x6:Int)(o2_0:ByteArray)(o2_1:AV)(o4_0:ByteArray)(o4_1:AV)(e5:List (List AV)):Tree :=
 NL x1<|NI (VI x6)<|.ak (Ob.cells [VS o2_0,o2_1]=.cells [VS o2_0,o2_1])<|.ak (ae [.lk .str,.lk .sl] [VS o2_0,o2_1] 0 [.cells [VS o4_0,o4_1],.vec 1 e5])<|.ak (Ob.cells [VS o4_0,o4_1]=.cells [VS o4_0,o4_1])<|.ak (ae [.lk .str,.lk .sl] [VS o4_0,o4_1] 0 [.vec 1 e5])<|.ak (Ob.vec 1 e5=.vec 1 e5)<|NL x1<|.test (decide (x6<(x1.aM.length:Int))) (NG x1 x6 2<|NE (x1.ix x6)<|.call 98 [.agg [VS (((x1.ix x6).getD 0 .any).aj),((x1.ix x6).getD 1 .any)],.sl [],.vec 0] [.vec 1 []] fun r1 o1=>.ak (r1=.vec 1/\(o1.tail.hO)=.vec 1 (o1.tail.hO).es)<|.ak (cb 1 ((o1.tail.hO).es)/\((e5.length)+((o1.tail.hO).es).length)*16<=140737488355328)<|.done 0 [x1,VI (IntKind.wrap .i64 (x6+1))] [.cells [VS o2_0,o2_1],.cells [VS o4_0,o4_1],.vec 1 (e5++((o1.tail.hO).es))]) (.done 1 [] [.cells [VS o2_0,o2_1],.cells [VS o4_0,o4_1],.vec 1 e5])
abbrev Du:=cm Tryz.prog 33 GP CM
theorem He(x1:AV)(x6:Int)(o2_0:ByteArray)(o2_1:AV)(o4_0:ByteArray)(o4_1:AV)(e5:List (List AV))(h:kt 33 (DH x1 x6 o2_0 o2_1 o4_0 o4_1 e5) Du U):Du [x1,VI x6] [.cells [VS o2_0,o2_1],.cells [VS o4_0,o4_1],.vec 1 e5] U :=
 gQ Gx h
def Ij(a0:ByteArray):Tree :=
 .call 113 [VS a0] [] fun r1 o1=>NP r1<|NP r1<|.test r1.isNil (.done 0 [.v (.pointer none)] []) (.call 114 [r1,.v (.slice none 0 0)] [] fun r2 o2=>NP r2<|NP r2<|.test r2.isNil (.done 0 [.v (.pointer none)] []) (.call 115 [r2] [] fun r3 o3=>NI r3<|.test (decide (r3.toInt>(400:Int))) (.done 0 [.v (.pointer none)] []) (.done 0 [r2] [])))
theorem MT(a0:ByteArray)(h:dH 19 (Ij a0) R):au Tryz.prog 84 [VS a0] [] R :=
 uQ (ah (aC _) aD) (oQ [] Tryz.f84 h)
def Ky(a0:ByteArray):Tree :=
 .call 84 [VS a0] [] fun r1 o1=>NP r1<|NP r1<|.test r1.isNil (.done 0 [.v (.pointer none)] []) (.call 122 [r1] [] fun r2 o2=>NB r2<|.test (!r2.toBool) (.done 0 [.v (.pointer none)] []) (.done 0 [r1] []))
theorem NH(a0:ByteArray)(h:dH 14 (Ky a0) R):au Tryz.prog 87 [VS a0] [] R :=
 uQ (ah (aC _) aD) (oQ [] Tryz.f87 h)
def HT(a0:ByteArray):Tree :=
 .call 113 [VS a0] [] fun r1 o1=>NP r1<|NP r1<|.test r1.isNil (.done 0 [.v (.pointer none)] []) (.call 123 [r1] [] fun r2 o2=>NP r2<|NP r2<|.test r2.isNil (.done 0 [.v (.pointer none)] []) (.call 56 [r2] [] fun r3 o3=>NI r3<|.test (decide (r3.toInt>(200:Int))) (.done 0 [.v (.pointer none)] []) (.done 0 [r2] [])))
theorem Oc(a0:ByteArray)(h:dH 19 (HT a0) R):au Tryz.prog 88 [VS a0] [] R :=
 uQ (ah (aC _) aD) (oQ [] Tryz.f88 h)
def yc(a0_0:AV)(a0_1:AV)(a1:AV)(a2:Int):Tree :=
 NZ a0_0<|NZ a0_0<|.ak (LK.has (.int .u8) (a0_0.deref.hA)/\1<=a0_0.deref.length)<|.test (((a0_0.deref.hA).toInt)==(49:Int)) (NZ a1<|NZ a1<|.ak (LK.has (.int .u8) (a1.deref.hA)/\1<=a1.deref.length)<|.done 0 [VB (((a1.deref.hA).toInt)==(117:Int))] []) (.test (((a0_0.deref.hA).toInt)==(110:Int)) (NZ a1<|NZ a1<|.ak (LK.has (.int .u8) (a1.deref.hA)/\1<=a1.deref.length)<|.test (((a1.deref.hA).toInt) != (101:Int)) (.done 0 [VB false] []) (NZ a1<|NZ a1<|oV (a1.deref.drop 1)<|.ak (0<=(1:Int)/\(1:Int)<=(ag (((a1.deref.drop 1).hA).aj):Int)/\(ag (((a1.deref.drop 1).hA).aj):Int)<=(ag (((a1.deref.drop 1).hA).aj):Int))<|.call 124 [VS (bR (((a1.deref.drop 1).hA).aj) (bE 1) (bE (ag (((a1.deref.drop 1).hA).aj):Int)))] [] fun r1 o1=>NT r1<|NI (r1.comp 0)<|.ak (LK.has .jH (r1.comp 1))<|.done 0 [VB (decide (((r1.comp 0).toInt)<a2))] [])) (.test (((a0_0.deref.hA).toInt)==(98:Int)) (.call 125 [.agg [a0_0,a0_1]] [] fun r2 o2=>NP r2<|NZ r2<|NZ r2<|.ak (bY [.ptr,.ptr] r2.deref 0/\2<=r2.deref.length)<|.call 89 [.agg [(r2.deref.getD 0 .any),(r2.deref.getD 1 .any)],a1,VI a2] [] fun r3 o3=>NB r3<|.done 0 [VB r3.toBool] []) (.test (((a0_0.deref.hA).toInt)==(43:Int)) (NZ a1<|NZ a1<|.ak (LK.has (.int .u8) (a1.deref.hA)/\1<=a1.deref.length)<|.test (((a1.deref.hA).toInt)==(108:Int)) (.call 126 [.agg [a0_0,a0_1]] [] fun r4 o4=>.ak (r4=.agg r4.cs/\r4.cs.length=2/\bY [.ptr,.ptr] r4.cs 0)<|NZ a1<|NZ a1<|gY (a1.deref.drop 2)<|.call 89 [.agg [(r4.cs.getD 0 .any),(r4.cs.getD 1 .any)],((a1.deref.drop 2).hA),VI a2] [] fun r5 o5=>NB r5<|.test r5.toBool (.done 0 [VB true] []) (NZ a1<|NZ a1<|.ak (LK.has (.int .u8) (a1.deref.hA)/\1<=a1.deref.length)<|.test (((a1.deref.hA).toInt)==(114:Int)) (.call 127 [.agg [a0_0,a0_1]] [] fun r6 o6=>.ak (r6=.agg r6.cs/\r6.cs.length=2/\bY [.ptr,.ptr] r6.cs 0)<|NZ a1<|NZ a1<|gY (a1.deref.drop 2)<|.call 89 [.agg [(r6.cs.getD 0 .any),(r6.cs.getD 1 .any)],((a1.deref.drop 2).hA),VI a2] [] fun r7 o7=>NB r7<|.done 0 [VB r7.toBool] []) (.done 0 [VB false] []))) (NZ a1<|NZ a1<|.ak (LK.has (.int .u8) (a1.deref.hA)/\1<=a1.deref.length)<|.test (((a1.deref.hA).toInt)==(114:Int)) (.call 127 [.agg [a0_0,a0_1]] [] fun r8 o8=>.ak (r8=.agg r8.cs/\r8.cs.length=2/\bY [.ptr,.ptr] r8.cs 0)<|NZ a1<|NZ a1<|gY (a1.deref.drop 2)<|.call 89 [.agg [(r8.cs.getD 0 .any),(r8.cs.getD 1 .any)],((a1.deref.drop 2).hA),VI a2] [] fun r9 o9=>NB r9<|.done 0 [VB r9.toBool] []) (.done 0 [VB false] []))) (.test (((a0_0.deref.hA).toInt)==(42:Int)) (NZ a1<|NZ a1<|.ak (LK.has (.int .u8) (a1.deref.hA)/\1<=a1.deref.length)<|.test (((a1.deref.hA).toInt)==(112:Int)) (.call 126 [.agg [a0_0,a0_1]] [] fun r10 o10=>.ak (r10=.agg r10.cs/\r10.cs.length=2/\bY [.ptr,.ptr] r10.cs 0)<|NZ a1<|NZ a1<|gY (a1.deref.drop 2)<|.call 89 [.agg [(r10.cs.getD 0 .any),(r10.cs.getD 1 .any)],((a1.deref.drop 2).hA),VI a2] [] fun r11 o11=>NB r11<|.test r11.toBool (.call 127 [.agg [a0_0,a0_1]] [] fun r12 o12=>.ak (r12=.agg r12.cs/\r12.cs.length=2/\bY [.ptr,.ptr] r12.cs 0)<|NZ a1<|NZ a1<|gY (a1.deref.drop 3)<|.call 89 [.agg [(r12.cs.getD 0 .any),(r12.cs.getD 1 .any)],((a1.deref.drop 3).hA),VI a2] [] fun r13 o13=>NB r13<|.done 0 [VB r13.toBool] []) (.done 0 [VB false] [])) (.done 0 [VB false] [])) (.test (((a0_0.deref.hA).toInt)==(114:Int)) (.call 90 [.agg [a0_0,a0_1]] [] fun r14 o14=>NT r14<|.ak ((r14.comp 0)=.agg (r14.comp 0).cs/\(r14.comp 0).cs.length=2/\bY [.ptr,.ptr] ((r14.comp 0).cs) 0)<|NP (r14.comp 1)<|NZ a1<|NZ a1<|.ak (LK.has (.int .u8) (a1.deref.hA)/\1<=a1.deref.length)<|.test (((a1.deref.hA).toInt)==(102:Int)) (NZ a1<|NZ a1<|gY (a1.deref.drop 2)<|.call 89 [.agg [((r14.comp 0).cs.getD 0 .any),((r14.comp 0).cs.getD 1 .any)],((a1.deref.drop 2).hA),VI a2] [] fun r15 o15=>NB r15<|.done 0 [VB r15.toBool] []) (.done 0 [VB false] [])) (.done 0 [VB false] []))))))
theorem IZ(a0_0:AV)(a0_1:AV)(a1:AV)(a2:Int)(ha0_0:LK.has .ptr a0_0)(ha0_1:LK.has .ptr a0_1)(ha1:LK.has .ptr a1)(h:dH 134 (yc a0_0 a0_1 a1 a2) R):au Tryz.prog 89 [.agg [a0_0,a0_1],a1,VI a2] [] R :=
 uQ (ah (cG (ah (bX ha0_0) (ah (bX ha0_1) aD))) (ah (bX ha1) (ah (aC _) aD))) (oQ [] Tryz.f89 h)
def Jz(a0_0:AV)(a0_1:AV):Tree :=
 NZ a0_0<|NZ a0_0<|gY (a0_0.deref.drop 3)<|.done 0 [.da [.agg [((a0_0.deref.drop 3).hA),.ptr [.ptr [a0_0,a0_1],a0_1]],.ptr [a0_0,a0_1]]] []
theorem LP(a0_0:AV)(a0_1:AV)(ha0_0:LK.has .ptr a0_0)(ha0_1:LK.has .ptr a0_1)(h:dH 20 (Jz a0_0 a0_1) R):au Tryz.prog 90 [.agg [a0_0,a0_1]] [] R :=
 uQ (ah (cG (ah (bX ha0_0) (ah (bX ha0_1) aD))) aD) (oQ [] Tryz.f90 h)
def El:LI:={hd:={bI:=[(97,.k .sl),(98,.k (.int .i64)),(99,.k (.int .i64))],refs:=[(3,3),(5,5),(7,7)],cd:=[(3,[.lk .ptr,.lk .ptr]),(5,[.lk .str,.lk .ptr]),(7,[.vec 2])],zQ:=[(8,129,[7])]},xs:={refs:=[(7,7)],cd:=[(7,[.vec 2])]},rt:={},ex:=1}
def H8:Code:=cC (cw Tryz.f91) 18
def IW:List (Nat×LI):=[(18,El)]
def Hb(a0_0:AV)(a0_1:AV)(a1:AV)(a2_0:ByteArray)(a2_1:AV):Tree :=
 .call 128 [.agg [VS a2_0,a2_1],.agg [a0_0,a0_1]] [] fun r1 o1=>NB r1<|.test r1.toBool (.done 0 [.sl [[.ptr [.v (.int .u8 117),VS (mk []),.v (.pointer none),.v (.pointer none)],a1]]] []) (NZ a0_0<|NZ a0_0<|.ak (LK.has (.int .u8) (a0_0.deref.hA)/\1<=a0_0.deref.length)<|.test (((a0_0.deref.hA).toInt)==(43:Int)) (.call 126 [.agg [a0_0,a0_1]] [] fun r2 o2=>.ak (r2=.agg r2.cs/\r2.cs.length=2/\bY [.ptr,.ptr] r2.cs 0)<|NZ a1<|NZ a1<|.ak (LK.has (.int .u8) (a1.deref.hA)/\1<=a1.deref.length)<|.test (((a1.deref.hA).toInt)==(114:Int)) (.call 127 [.agg [a0_0,a0_1]] [] fun r3 o3=>.ak (r3=.agg r3.cs/\r3.cs.length=2/\bY [.ptr,.ptr] r3.cs 0)<|NZ a1<|NZ a1<|gY (a1.deref.drop 2)<|.call 91 [.agg [(r3.cs.getD 0 .any),(r3.cs.getD 1 .any)],((a1.deref.drop 2).hA),.agg [VS a2_0,a2_1]] [] fun r4 o4=>NL r4<|.call 129 [r4,.fn 130 [.ref 0 0],.ref 1 0] [.cells [a1],.cells [.vec 2],.vec 2 []] fun r5 o5=>.ak ((o5.hO)=.cells (o5.hO).cs)<|.ak (aO [.lk .ptr] ((o5.hO).cs) 0 1 o5.tail)<|.ak ((o5.tail.hO)=.cells (o5.tail.hO).cs)<|.ak (aO [.vec 2] ((o5.tail.hO).cs) 0 2 o5.tail.tail)<|.done 0 [.sl ((o5.tail.tail.hO).es)] []) (NZ a1<|NZ a1<|gY (a1.deref.drop 2)<|.call 91 [.agg [(r2.cs.getD 0 .any),(r2.cs.getD 1 .any)],((a1.deref.drop 2).hA),.agg [VS a2_0,a2_1]] [] fun r6 o6=>NL r6<|.call 129 [r6,.fn 130 [.ref 0 0],.ref 1 0] [.cells [a1],.cells [.vec 2],.vec 2 []] fun r7 o7=>.ak ((o7.hO)=.cells (o7.hO).cs)<|.ak (aO [.lk .ptr] ((o7.hO).cs) 0 1 o7.tail)<|.ak ((o7.tail.hO)=.cells (o7.tail.hO).cs)<|.ak (aO [.vec 2] ((o7.tail.hO).cs) 0 2 o7.tail.tail)<|.done 0 [.sl ((o7.tail.tail.hO).es)] [])) (.test (((a0_0.deref.hA).toInt)==(42:Int)) (.call 126 [.agg [a0_0,a0_1]] [] fun r8 o8=>.ak (r8=.agg r8.cs/\r8.cs.length=2/\bY [.ptr,.ptr] r8.cs 0)<|NZ a1<|NZ a1<|gY (a1.deref.drop 2)<|.call 91 [.agg [(r8.cs.getD 0 .any),(r8.cs.getD 1 .any)],((a1.deref.drop 2).hA),.agg [VS a2_0,a2_1]] [] fun r9 o9=>NL r9<|.call 129 [r9,.fn 131 [.ref 0 0],.ref 1 0] [.cells [a1],.cells [.vec 2],.vec 2 []] fun r10 o10=>.ak ((o10.hO)=.cells (o10.hO).cs)<|.ak (aO [.lk .ptr] ((o10.hO).cs) 0 1 o10.tail)<|.ak ((o10.tail.hO)=.cells (o10.tail.hO).cs)<|.ak (aO [.vec 2] ((o10.tail.hO).cs) 0 2 o10.tail.tail)<|.call 127 [.agg [a0_0,a0_1]] [] fun r11 o11=>.ak (r11=.agg r11.cs/\r11.cs.length=2/\bY [.ptr,.ptr] r11.cs 0)<|NZ ((o10.hO).cs.getD 0 .any)<|NZ ((o10.hO).cs.getD 0 .any)<|gY (((o10.hO).cs.getD 0 .any).deref.drop 3)<|.call 91 [.agg [(r11.cs.getD 0 .any),(r11.cs.getD 1 .any)],((((o10.hO).cs.getD 0 .any).deref.drop 3).hA),.agg [VS a2_0,a2_1]] [] fun r12 o12=>NL r12<|.call 129 [r12,.fn 133 [.ref 0 0],.ref 1 0] [.cells [((o10.hO).cs.getD 0 .any)],.cells [.vec 2],.vec 2 ((o10.tail.tail.hO).es)] fun r13 o13=>.ak ((o13.hO)=.cells (o13.hO).cs)<|.ak (aO [.lk .ptr] ((o13.hO).cs) 0 1 o13.tail)<|.ak ((o13.tail.hO)=.cells (o13.tail.hO).cs)<|.ak (aO [.vec 2] ((o13.tail.hO).cs) 0 2 o13.tail.tail)<|.done 0 [.sl ((o13.tail.tail.hO).es)] []) (.test (((a0_0.deref.hA).toInt)==(114:Int)) (.call 90 [.agg [a0_0,a0_1]] [] fun r14 o14=>NT r14<|.ak ((r14.comp 0)=.agg (r14.comp 0).cs/\(r14.comp 0).cs.length=2/\bY [.ptr,.ptr] ((r14.comp 0).cs) 0)<|NP (r14.comp 1)<|NZ a1<|NZ a1<|gY (a1.deref.drop 2)<|.call 91 [.agg [((r14.comp 0).cs.getD 0 .any),((r14.comp 0).cs.getD 1 .any)],((a1.deref.drop 2).hA),.agg [VS a2_0,a2_1]] [] fun r15 o15=>NL r15<|.call 129 [r15,.v (.func (.func 134) #[] #[]),.ref 0 0] [.cells [.vec 1],.vec 2 []] fun r16 o16=>.ak ((o16.hO)=.cells (o16.hO).cs)<|.ak (aO [.vec 2] ((o16.hO).cs) 0 1 o16.tail)<|NZ a1<|NZ a1<|gY (a1.deref.drop 2)<|.call 91 [.agg [((r14.comp 0).cs.getD 0 .any),((r14.comp 0).cs.getD 1 .any)],((a1.deref.drop 2).hA),.agg [VS (mk []),(r14.comp 1)]] [] fun r17 o17=>NL r17<|NL r17<|.loop H8 El [r17,VI (r17.aM.length:Int),VI 0] [.cells [a0_0,a0_1],.cells [VS a2_0,a2_1],.cells [.any],.vec 2 ((o16.tail.hO).es)] (fun y20 q20=>.ak ((q20.hO)=.cells (q20.hO).cs)<|.ak (ae [.vec 2] ((q20.hO).cs) 0 q20.tail)<|.done 0 [.sl ((q20.tail.hO).es)] []) (fun y20 q20=>.done 0 [.any] [])) (.done 0 [.sl []] []))))
theorem Md(a0_0:AV)(a0_1:AV)(a1:AV)(a2_0:ByteArray)(a2_1:AV)(ha0_0:LK.has .ptr a0_0)(ha0_1:LK.has .ptr a0_1)(ha1:LK.has .ptr a1)(ha2_1:LK.has .ptr a2_1)(h:dH 113 (Hb a0_0 a0_1 a1 a2_0 a2_1) R):au Tryz.prog 91 [.agg [a0_0,a0_1],a1,.agg [VS a2_0,a2_1]] [] R :=
 uQ (ah (cG (ah (bX ha0_0) (ah (bX ha0_1) aD))) (ah (bX ha1) (ah (cG (ah (aC _) (ah (bX ha2_1) aD))) aD))) (oQ IW Tryz.f91 h)
def Ep(x97:AV)(x98:Int)(x99:Int)(o3_0:AV)(o3_1:AV)(o5_0:ByteArray)(o5_1:AV)(o7_0:List (List AV)):Tree :=
 NL x97<|NI (VI x98)<|NI (VI x99)<|.ak (Ob.cells [o3_0,o3_1]=.cells [o3_0,o3_1])<|.ak (ae [.lk .ptr,.lk .ptr] [o3_0,o3_1] 0 [.cells [VS o5_0,o5_1],.cells [.any],.vec 2 o7_0])<|.ak (Ob.cells [VS o5_0,o5_1]=.cells [VS o5_0,o5_1])<|.ak (ae [.lk .str,.lk .ptr] [VS o5_0,o5_1] 0 [.cells [.any],.vec 2 o7_0])<|.ak (Ob.cells [.any]=.cells [.any])<|.ak (ae [.vec 2] [.any] 0 [.vec 2 o7_0])<|.test (decide (x99<x98)) (NG x97 x99 2<|.ak (bY [.ptr,.ptr] (x97.ix x99) 0/\2<=(x97.ix x99).length)<|.call 91 [.agg [o3_0,o3_1],((x97.ix x99).getD 1 .any),.agg [VS o5_0,o5_1]] [] fun r1 o1=>NL r1<|.call 129 [r1,.fn 135 [.ref 0 0],.ref 1 0] [.cells [((x97.ix x99).getD 0 .any),((x97.ix x99).getD 1 .any)],.cells [.vec 2],.vec 2 o7_0] fun r2 o2=>.ak ((o2.hO)=.cells (o2.hO).cs)<|.ak (aO [.lk .ptr,.lk .ptr] ((o2.hO).cs) 0 1 o2.tail)<|.ak ((o2.tail.hO)=.cells (o2.tail.hO).cs)<|.ak (aO [.vec 2] ((o2.tail.hO).cs) 0 2 o2.tail.tail)<|.done 0 [x97,VI x98,VI (IntKind.wrap .i64 (x99+1))] [.cells [o3_0,o3_1],.cells [VS o5_0,o5_1],.cells [.any],.vec 2 ((o2.tail.tail.hO).es)]) (.done 1 [] [.cells [.any],.vec 2 o7_0])
abbrev CY:=cm Tryz.prog 113 H8 El
theorem J5(x97:AV)(x98:Int)(x99:Int)(o3_0:AV)(o3_1:AV)(o5_0:ByteArray)(o5_1:AV)(o7_0:List (List AV))(h:kt 113 (Ep x97 x98 x99 o3_0 o3_1 o5_0 o5_1 o7_0) CY U):CY [x97,VI x98,VI x99] [.cells [o3_0,o3_1],.cells [VS o5_0,o5_1],.cells [.any],.vec 2 o7_0] U :=
 gQ IW h
def Iu(a0:Int)(a1:AV):Tree :=
 .done 0 [.ptr [.v (.int .u8 a0),VS (mk []),a1,.v (.pointer none)]] []
theorem No(a0:Int)(a1:AV)(ha1:LK.has .ptr a1)(h:dH 9 (Iu a0 a1) R):au Tryz.prog 95 [.v (.int .u8 a0),a1] [] R :=
 uQ (ah (aC _) (ah (bX ha1) aD)) (oQ [] Tryz.f95 h)
def Gm(a0:ByteArray):Tree :=
 .call 73 [VS a0] [] fun r1 o1=>NT r1<|.ak ((r1.comp 0)=.agg (r1.comp 0).cs/\(r1.comp 0).cs.length=2/\bY [.str,.sl] ((r1.comp 0).cs) 0)<|NB (r1.comp 1)<|.test ((r1.comp 1).toBool) (.call 138 [.agg [VS (((r1.comp 0).cs.getD 0 .any).aj),((r1.comp 0).cs.getD 1 .any)]] [] fun r2 o2=>NB r2<|.test r2.toBool (.call 109 [.agg [VS (((r1.comp 0).cs.getD 0 .any).aj),((r1.comp 0).cs.getD 1 .any)]] [] fun r3 o3=>NI r3<|.done 0 [.da [.agg [VS (((r1.comp 0).cs.getD 0 .any).aj),((r1.comp 0).cs.getD 1 .any)],VB (decide (r3.toInt<=(400:Int)))]] []) (.done 0 [.da [.agg [VS (((r1.comp 0).cs.getD 0 .any).aj),((r1.comp 0).cs.getD 1 .any)],VB false]] [])) (.done 0 [.da [.agg [VS (((r1.comp 0).cs.getD 0 .any).aj),((r1.comp 0).cs.getD 1 .any)],VB false]] [])
theorem LA(a0:ByteArray)(h:dH 22 (Gm a0) R):au Tryz.prog 97 [VS a0] [] R :=
 uQ (ah (aC _) aD) (oQ [] Tryz.f97 h)
def ES(a0_0:ByteArray)(a0_1:AV)(a1:AV)(e2:List (List AV)):Tree :=
 .test (!(ac a0_0==ac (mk []))) (.test (ac a0_0==ac (mk [48])) (.done 0 [.vec 1] [.dead,.vec 1 e2]) (.test (ac a0_0==ac (mk [49])) (.done 0 [.vec 1] [.dead,.vec 1 e2]) (.call 139 [a1,VS a0_0] [] fun r1 o1=>NB r1<|.test r1.toBool (.done 0 [.vec 1] [.dead,.vec 1 e2]) (.call 139 [.sl e2,VS a0_0] [] fun r2 o2=>NB r2<|.test r2.toBool (.done 0 [.vec 1] [.dead,.vec 1 e2]) (.ak (cb 1 [[VS a0_0]]/\((e2.length)+([[VS a0_0]]:List (List AV)).length)*16<=140737488355328)<|.done 0 [.vec 1] [.dead,.vec 1 (e2++([[VS a0_0]]:List (List AV)))]))))) (.call 71 [.agg [VS a0_0,a0_1]] [] fun r3 o3=>NS r3<|.test (ac r3.aj==ac (mk [114,101,99])) (NG a0_1 2 2<|NE (a0_1.ix (2:Int))<|NG a0_1 1 2<|oV (a0_1.ix (1:Int))<|.call 61 [a1,VS (((a0_1.ix (1:Int)).hA).aj)] [] fun r4 o4=>NL r4<|.call 98 [.agg [VS (((a0_1.ix (2:Int)).getD 0 .any).aj),((a0_1.ix (2:Int)).getD 1 .any)],r4,.vec 0] [.vec 1 e2] fun r5 o5=>.ak (r5=.vec 1/\(o5.tail.hO)=.vec 1 (o5.tail.hO).es)<|.done 0 [.vec 1] [.dead,.vec 1 ((o5.tail.hO).es)]) (NG a0_1 2 2<|NE (a0_1.ix (2:Int))<|NG a0_1 1 2<|NE (a0_1.ix (1:Int))<|.call 98 [.agg [VS (((a0_1.ix (1:Int)).getD 0 .any).aj),((a0_1.ix (1:Int)).getD 1 .any)],a1,.vec 0] [.vec 1 e2] fun r6 o6=>.ak (r6=.vec 1/\(o6.tail.hO)=.vec 1 (o6.tail.hO).es)<|.call 98 [.agg [VS (((a0_1.ix (2:Int)).getD 0 .any).aj),((a0_1.ix (2:Int)).getD 1 .any)],a1,.vec 0] [.vec 1 ((o6.tail.hO).es)] fun r7 o7=>.ak (r7=.vec 1/\(o7.tail.hO)=.vec 1 (o7.tail.hO).es)<|.done 0 [.vec 1] [.dead,.vec 1 ((o7.tail.hO).es)]))
theorem xH(a0_0:ByteArray)(a0_1:AV)(a1:AV)(e2:List (List AV))(ha0_1:LK.has .sl a0_1)(ha1:LK.has .sl a1)(h:dH 65 (ES a0_0 a0_1 a1 e2) R):au Tryz.prog 98 [.agg [VS a0_0,a0_1],a1,.vec 0] [.vec 1 e2] R :=
 au.ox (bn (eT _) cu) (au.up (ah (cG (ah (aC _) (ah (bT ha0_1) aD))) (ah (bT ha1) (ah (aC _) aD))) (oF [] {mu:=[(2,.one (.vec))],own:=[0]} Tryz.f98 h))
def IT(a0:ByteArray):Tree :=
 .call 140 [VS a0,.v (.int .u8 116),.v (.int .u8 116)] [] fun r1 o1=>NB r1<|.done 0 [VB r1.toBool] []
theorem Nv(a0:ByteArray)(h:dH 5 (IT a0) R):au Tryz.prog 99 [VS a0] [] R :=
 uQ (ah (aC _) aD) (oQ [] Tryz.f99 h)
def CN:LI:={hd:={bI:=[(1,.k .sl),(6,.k (.int .i64))],refs:=[(2,2),(4,4)],cd:=[(2,[.lk .str,.lk .sl]),(4,[.lk .str,.lk .sl])]},xs:={bI:=[(1,.k .sl)],refs:=[(2,2),(4,4)],cd:=[(2,[.lk .str,.lk .sl]),(4,[.lk .str,.lk .sl])]},rt:={bI:=[(5,.k .sl)],refs:=[(4,4)],cd:=[(4,[.lk .str,.lk .sl])]},ex:=0}
def IN:Code:=cC (cw Tryz.f100) 2
def JV:List (Nat×LI):=[(2,CN)]
def GD(a0_0:ByteArray)(a0_1:AV)(a1:AV):Tree :=
 NL a1<|.loop IN CN [a1,VI (IntKind.wrap .i64 ((a1.aM.length:Int)-1))] [.cells [VS a0_0,a0_1],.cells [VS (mk []),.v (.slice none 0 0)]] (fun y1 q1=>NL (y1.hA)<|.ak ((q1.hO)=.cells (q1.hO).cs)<|.ak (ae [.lk .str,.lk .sl] ((q1.hO).cs) 0 q1.tail)<|.ak (((q1.tail.drop 0).hO)=.cells ((q1.tail.drop 0).hO).cs)<|.ak (ae [.lk .str,.lk .sl] (((q1.tail.drop 0).hO).cs) 0 ((q1.tail.drop 0).tail))<|.done 0 [.da [.agg [VS (((q1.hO).cs.getD 0 .any).aj),((q1.hO).cs.getD 1 .any)],(y1.hA)]] []) (fun y1 q1=>NL (y1.hA)<|.ak ((q1.hO)=.cells (q1.hO).cs)<|.ak (ae [.lk .str,.lk .sl] ((q1.hO).cs) 0 q1.tail)<|.done 0 [.da [.agg [VS (((q1.hO).cs.getD 0 .any).aj),((q1.hO).cs.getD 1 .any)],(y1.hA)]] [])
theorem LL(a0_0:ByteArray)(a0_1:AV)(a1:AV)(ha0_1:LK.has .sl a0_1)(ha1:LK.has .sl a1)(h:dH 34 (GD a0_0 a0_1 a1) R):au Tryz.prog 100 [.agg [VS a0_0,a0_1],a1] [] R :=
 uQ (ah (cG (ah (aC _) (ah (bT ha0_1) aD))) (ah (bT ha1) aD)) (oQ JV Tryz.f100 h)
def CV(x1:AV)(x6:Int)(o2_0:ByteArray)(o2_1:AV)(o4_0:ByteArray)(o4_1:AV):Tree :=
 NL x1<|NI (VI x6)<|.ak (Ob.cells [VS o2_0,o2_1]=.cells [VS o2_0,o2_1])<|.ak (ae [.lk .str,.lk .sl] [VS o2_0,o2_1] 0 [.cells [VS o4_0,o4_1]])<|.ak (Ob.cells [VS o4_0,o4_1]=.cells [VS o4_0,o4_1])<|.ak (ae [.lk .str,.lk .sl] [VS o4_0,o4_1] 0 [])<|.test (decide (x6≥(0:Int))) (NG x1 x6 4<|oV (x1.ix x6)<|.test (ac (((x1.ix x6).hA).aj)==ac o2_0) (NG x1 x6 4<|NE ((x1.ix x6).drop 1)<|NG x1 x6 4<|mY ((x1.ix x6).drop 3)<|.done 2 [(((x1.ix x6).drop 3).hA)] [.cells [VS ((((x1.ix x6).drop 1).getD 0 .any).aj),(((x1.ix x6).drop 1).getD 1 .any)]]) (.done 0 [x1,VI (IntKind.wrap .i64 (x6-1))] [.cells [VS o2_0,o2_1],.cells [VS o4_0,o4_1]])) (.done 1 [x1] [.cells [VS o2_0,o2_1],.cells [VS o4_0,o4_1]])
abbrev CJ:=cm Tryz.prog 34 IN CN
theorem H5(x1:AV)(x6:Int)(o2_0:ByteArray)(o2_1:AV)(o4_0:ByteArray)(o4_1:AV)(h:kt 34 (CV x1 x6 o2_0 o2_1 o4_0 o4_1) CJ U):CJ [x1,VI x6] [.cells [VS o2_0,o2_1],.cells [VS o4_0,o4_1]] U :=
 gQ JV h
def IR(a0:ByteArray):Tree :=
 .call 140 [VS a0,.v (.int .u8 120),.v (.int .u8 122)] [] fun r1 o1=>NB r1<|.done 0 [VB r1.toBool] []
theorem L9(a0:ByteArray)(h:dH 5 (IR a0) R):au Tryz.prog 101 [VS a0] [] R :=
 uQ (ah (aC _) aD) (oQ [] Tryz.f101 h)
def zW:LI:={hd:={bI:=[(0,.k .str),(3,.k (.int .i64)),(4,.k (.int .i64))]},xs:={bI:=[(3,.k (.int .i64))]},rt:={bI:=[(2,.k (.int .i64))]},ex:=0}
def B8:Code:=cC (cw Tryz.f102) 5
def KC:List (Nat×LI):=[(5,zW)]
def GX(a0:ByteArray):Tree :=
 .call 60 [VI (ag a0:Int),VI 2,VI 3] [] fun r1 o1=>NB r1<|.test (!r1.toBool) (.done 0 [VI (-1)] []) (.ak (0<=(0:Int)/\(0:Int)<ag a0)<|.test ((bt a0 0) != (101:Int)) (.done 0 [VI (-1)] []) (.test ((ag a0:Int)==(3:Int)) (.ak (0<=(1:Int)/\(1:Int)<ag a0)<|.test ((bt a0 1)==(48:Int)) (.done 0 [VI (-1)] []) (.loop B8 zW [VS a0,VI 0,VI 1] [] (fun y2 q2=>NI (y2.hA)<|.done 0 [VI ((y2.hA).toInt)] []) (fun y2 q2=>NI (y2.hA)<|.done 0 [VI ((y2.hA).toInt)] []))) (.loop B8 zW [VS a0,VI 0,VI 1] [] (fun y3 q3=>NI (y3.hA)<|.done 0 [VI ((y3.hA).toInt)] []) (fun y3 q3=>NI (y3.hA)<|.done 0 [VI ((y3.hA).toInt)] []))))
theorem Mk(a0:ByteArray)(h:dH 49 (GX a0) R):au Tryz.prog 102 [VS a0] [] R :=
 uQ (ah (aC _) aD) (oQ KC Tryz.f102 h)
def EB(x0:ByteArray)(x3:Int)(x4:Int):Tree :=
 NS (VS x0)<|NI (VI x3)<|NI (VI x4)<|.test (decide (x4<(ag x0:Int))) (.ak (0<=x4/\x4<ag x0)<|.test (decide ((bt x0 x4)<(48:Int))) (.done 2 [VI (-1)] []) (.ak (0<=x4/\x4<ag x0)<|.test (decide ((bt x0 x4)>(57:Int))) (.done 2 [VI (-1)] []) (.ak (0<=x4/\x4<ag x0)<|.done 0 [VS x0,VI (IntKind.wrap .i64 ((IntKind.wrap .i64 (10*x3))+(IntKind.wrap .i64 (IntKind.wrap .u8 ((bt x0 x4)-48))))),VI (IntKind.wrap .i64 (x4+1))] []))) (.done 1 [VI x3] [])
abbrev Fx:=cm Tryz.prog 49 B8 zW
theorem Jr(x0:ByteArray)(x3:Int)(x4:Int)(h:kt 49 (EB x0 x3 x4) Fx U):Fx [VS x0,VI x3,VI x4] [] U :=
 gQ KC h
def H4(a0_0:ByteArray)(a0_1:AV)(a1:AV):Tree :=
 NG a0_1 2 2<|NE (a0_1.ix (2:Int))<|.ak (LK.has .sl a1/\cb 4 a1.aM/\((([]:List (List AV)).length)+a1.aM.length)*80<=140737488355328)<|NG a0_1 1 2<|oV (a0_1.ix (1:Int))<|.ak (cb 4 [[VS (((a0_1.ix (1:Int)).hA).aj),VS a0_0,a0_1,a1]]/\(((([]:List (List AV))++a1.aM).length)+([[VS (((a0_1.ix (1:Int)).hA).aj),VS a0_0,a0_1,a1]]:List (List AV)).length)*80<=140737488355328)<|.done 0 [.da [.agg [VS (((a0_1.ix (2:Int)).getD 0 .any).aj),((a0_1.ix (2:Int)).getD 1 .any)],.sl ((([]:List (List AV))++a1.aM)++([[VS (((a0_1.ix (1:Int)).hA).aj),VS a0_0,a0_1,a1]]:List (List AV)))]] []
theorem Og(a0_0:ByteArray)(a0_1:AV)(a1:AV)(ha0_1:LK.has .sl a0_1)(ha1:LK.has .sl a1)(h:dH 23 (H4 a0_0 a0_1 a1) R):au Tryz.prog 103 [.agg [VS a0_0,a0_1],a1] [] R :=
 uQ (ah (cG (ah (aC _) (ah (bT ha0_1) aD))) (ah (bT ha1) aD)) (oQ [] Tryz.f103 h)
def EC:LI:={hd:={bI:=[(0,.k .str),(1,.k (.int .i64)),(9,.k (.int .i64))],refs:=[(6,6),(8,8)],cd:=[(6,[.lk .str,.lk .sl]),(8,[.lk .str,.lk .sl])]},xs:={bI:=[(0,.k .str),(1,.k (.int .i64)),(9,.k (.int .i64))],refs:=[(6,6),(8,8)],cd:=[(6,[.lk .str,.lk .sl]),(8,[.lk .str,.lk .sl])]},rt:={},ex:=0}
def Iw:Code:=cC (cw Tryz.f104) 6
def EU:LI:={hd:={bI:=[(0,.k .str),(1,.k (.int .i64)),(2,.k (.int .i64))],refs:=[(6,6),(8,8)],cd:=[(6,[.lk .str,.lk .sl]),(8,[.lk .str,.vec 2])]},xs:={},rt:={bI:=[(7,.k (.int .i64))],refs:=[(6,6)],cd:=[(6,[.lk .str,.vec 2])]},ex:=999}
def Jk:Code:=cC (cw Tryz.f104) 12
def Dj:List (Nat×LI):=[(6,EC),(12,EU)]
def C9(a0:ByteArray)(a1:Int)(a2:Int):Tree :=
 .test (decide (a2>(300:Int))) (.done 0 [.da [.agg [VS (mk []),.v (.slice none 0 0)],VI (-1)]] []) (.test (decide (a1≥(ag a0:Int))) (.done 0 [.da [.agg [VS (mk []),.v (.slice none 0 0)],VI (-1)]] []) (.ak (0<=a1/\a1<ag a0)<|.test ((bt a0 a1) != (40:Int)) (.loop Iw EC [VS a0,VI a1,VI a1] [.cells [VS (mk []),.v (.slice none 0 0)],.cells [VS (mk []),.v (.slice none 0 0)]] (fun y2 q2=>NS (y2.hA)<|NI (y2.tail.hA)<|NI (y2.tail.tail.hA)<|.ak ((q2.hO)=.cells (q2.hO).cs)<|.ak (ae [.lk .str,.lk .sl] ((q2.hO).cs) 0 q2.tail)<|.ak (((q2.tail.drop 0).hO)=.cells ((q2.tail.drop 0).hO).cs)<|.ak (ae [.lk .str,.lk .sl] (((q2.tail.drop 0).hO).cs) 0 ((q2.tail.drop 0).tail))<|.ak (0<=((y2.tail.tail.hA).toInt)/\((y2.tail.tail.hA).toInt)<=((y2.tail.hA).toInt)/\((y2.tail.hA).toInt)<=(ag ((y2.hA).aj):Int))<|.test (ac (bR ((y2.hA).aj) (bE ((y2.tail.tail.hA).toInt)) (bE ((y2.tail.hA).toInt)))==ac (mk [])) (.done 0 [.da [.agg [VS (bR ((y2.hA).aj) (bE ((y2.tail.tail.hA).toInt)) (bE ((y2.tail.hA).toInt))),((q2.tail.hO).cs.getD 1 .any)],VI (-1)]] []) (.done 0 [.da [.agg [VS (bR ((y2.hA).aj) (bE ((y2.tail.tail.hA).toInt)) (bE ((y2.tail.hA).toInt))),((q2.tail.hO).cs.getD 1 .any)],VI ((y2.tail.hA).toInt)]] [])) (fun y2 q2=>.fail)) (.loop Jk EU [VS a0,VI a1,VI a2] [.cells [VS (mk []),.v (.slice none 0 0)],.cells [VS (mk []),.any],.vec 2 []] (fun y5 q5=>.fail) (fun y5 q5=>NI (y5.hA)<|.ak ((q5.hO)=.cells (q5.hO).cs)<|.ak (ae [.lk .str,.vec 2] ((q5.hO).cs) 0 q5.tail)<|.done 0 [.da [.agg [VS (((q5.hO).cs.getD 0 .any).aj),.sl ((q5.tail.hO).es)],VI ((y5.hA).toInt)]] []))))
theorem ID(a0:ByteArray)(a1:Int)(a2:Int)(h:dH 87 (C9 a0 a1 a2) R):au Tryz.prog 104 [VS a0,VI a1,VI a2] [] R :=
 uQ (ah (aC _) (ah (aC _) (ah (aC _) aD))) (oQ Dj Tryz.f104 h)
def Ec(x0:ByteArray)(x1:Int)(x9:Int)(o6_0:ByteArray)(o6_1:AV)(o8_0:ByteArray)(o8_1:AV):Tree :=
 NS (VS x0)<|NI (VI x1)<|NI (VI x9)<|.ak (Ob.cells [VS o6_0,o6_1]=.cells [VS o6_0,o6_1])<|.ak (ae [.lk .str,.lk .sl] [VS o6_0,o6_1] 0 [.cells [VS o8_0,o8_1]])<|.ak (Ob.cells [VS o8_0,o8_1]=.cells [VS o8_0,o8_1])<|.ak (ae [.lk .str,.lk .sl] [VS o8_0,o8_1] 0 [])<|.test (decide (x1<(ag x0:Int))) (.ak (0<=x1/\x1<ag x0)<|.call 141 [.v (.int .u8 (bt x0 x1))] [] fun r1 o1=>NB r1<|.test r1.toBool (.done 0 [VS x0,VI (IntKind.wrap .i64 (x1+1)),VI x9] [.cells [VS o6_0,o6_1],.cells [VS o8_0,o8_1]]) (.done 1 [VS x0,VI x1,VI x9] [.cells [VS o6_0,o6_1],.cells [VS o8_0,o8_1]])) (.done 1 [VS x0,VI x1,VI x9] [.cells [VS o6_0,o6_1],.cells [VS o8_0,o8_1]])
abbrev Fq:=cm Tryz.prog 87 Iw EC
theorem Kj(x0:ByteArray)(x1:Int)(x9:Int)(o6_0:ByteArray)(o6_1:AV)(o8_0:ByteArray)(o8_1:AV)(h:kt 87 (Ec x0 x1 x9 o6_0 o6_1 o8_0 o8_1) Fq U):Fq [VS x0,VI x1,VI x9] [.cells [VS o6_0,o6_1],.cells [VS o8_0,o8_1]] U :=
 gQ Dj h
def Jf(x0:ByteArray)(x1:Int)(x2:Int)(o6_0:ByteArray)(o6_1:AV)(o8_0:ByteArray)(o8_1:List (List AV)):Tree :=
 NS (VS x0)<|NI (VI x1)<|NI (VI x2)<|.ak (Ob.cells [VS o6_0,o6_1]=.cells [VS o6_0,o6_1])<|.ak (ae [.lk .str,.lk .sl] [VS o6_0,o6_1] 0 [.cells [VS o8_0,.any],.vec 2 o8_1])<|.ak (Ob.cells [VS o8_0,.any]=.cells [VS o8_0,.any])<|.ak (ae [.lk .str,.vec 2] [VS o8_0,.any] 0 [.vec 2 o8_1])<|.call 104 [VS x0,VI (IntKind.wrap .i64 (x1+1)),VI (IntKind.wrap .i64 (x2+1))] [] fun r1 o1=>NT r1<|.ak ((r1.comp 0)=.agg (r1.comp 0).cs/\(r1.comp 0).cs.length=2/\bY [.str,.sl] ((r1.comp 0).cs) 0)<|NI (r1.comp 1)<|.test (decide (((r1.comp 1).toInt)<(0:Int))) (.done 2 [VI (-1)] [.cells [VS o8_0,.any],.vec 2 o8_1]) (.test (decide (((r1.comp 1).toInt)≥(ag x0:Int))) (.done 2 [VI (-1)] [.cells [VS o8_0,.any],.vec 2 o8_1]) (.ak (cb 2 [[VS (((r1.comp 0).cs.getD 0 .any).aj),((r1.comp 0).cs.getD 1 .any)]]/\((o8_1.length)+([[VS (((r1.comp 0).cs.getD 0 .any).aj),((r1.comp 0).cs.getD 1 .any)]]:List (List AV)).length)*40<=140737488355328)<|.ak (0<=((r1.comp 1).toInt)/\((r1.comp 1).toInt)<ag x0)<|.test ((bt x0 ((r1.comp 1).toInt))==(41:Int)) (.done 2 [VI (IntKind.wrap .i64 (((r1.comp 1).toInt)+1))] [.cells [VS o8_0,.any],.vec 2 (o8_1++([[VS (((r1.comp 0).cs.getD 0 .any).aj),((r1.comp 0).cs.getD 1 .any)]]:List (List AV)))]) (.ak (0<=((r1.comp 1).toInt)/\((r1.comp 1).toInt)<ag x0)<|.test ((bt x0 ((r1.comp 1).toInt)) != (32:Int)) (.done 2 [VI (-1)] [.cells [VS o8_0,.any],.vec 2 (o8_1++([[VS (((r1.comp 0).cs.getD 0 .any).aj),((r1.comp 0).cs.getD 1 .any)]]:List (List AV)))]) (.done 0 [VS x0,VI ((r1.comp 1).toInt),VI x2] [.cells [VS o6_0,o6_1],.cells [VS o8_0,.any],.vec 2 (o8_1++([[VS (((r1.comp 0).cs.getD 0 .any).aj),((r1.comp 0).cs.getD 1 .any)]]:List (List AV)))]))))
abbrev CP:=cm Tryz.prog 87 Jk EU
theorem Nx(x0:ByteArray)(x1:Int)(x2:Int)(o6_0:ByteArray)(o6_1:AV)(o8_0:ByteArray)(o8_1:List (List AV))(h:kt 87 (Jf x0 x1 x2 o6_0 o6_1 o8_0 o8_1) CP U):CP [VS x0,VI x1,VI x2] [.cells [VS o6_0,o6_1],.cells [VS o8_0,.any],.vec 2 o8_1] U :=
 gQ Dj h
def Ee:LI:={hd:={bI:=[(0,.k .sl),(1,.k .str),(7,.k (.int .i64))],dY:=[(2,4)]},xs:={dY:=[(2,4)]},rt:={},ex:=0}
def I4:Code:=cC (cw Tryz.f105) 2
def J8:List (Nat×LI):=[(2,Ee)]
def HJ(a0:AV)(a1:ByteArray)(e2:List (List AV)):Tree :=
 .loop I4 Ee [a0,VS a1,VI 0] [.vec 4 e2] (fun y2 q2=>.ak (((q2.drop 0).hO)=.vec 4 ((q2.drop 0).hO).es)<|.done 0 [.vec 1] [.dead,.vec 4 ((q2.hO).es)]) (fun y2 q2=>.fail)
theorem Ll(a0:AV)(a1:ByteArray)(e2:List (List AV))(ha0:LK.has .sl a0)(h:dH 32 (HJ a0 a1 e2) R):au Tryz.prog 105 [a0,VS a1,.vec 0] [.vec 4 e2] R :=
 au.ox (bn (eT _) cu) (au.up (ah (bT ha0) (ah (aC _) (ah (aC _) aD))) (oF J8 {mu:=[(2,.one (.vec))],own:=[0]} Tryz.f105 h))
def C5(x0:AV)(x1:ByteArray)(x7:Int)(e2:List (List AV)):Tree :=
 NL x0<|NS (VS x1)<|NI (VI x7)<|.ak (Ob.vec 4 e2=.vec 4 e2)<|NL x0<|.test (decide (x7<(x0.aM.length:Int))) (NG x0 x7 4<|NE (x0.ix x7)<|.call 78 [VS x1,.sl [[VS (((x0.ix x7).getD 0 .any).aj),((x0.ix x7).getD 1 .any)]]] [] fun r1 o1=>NA r1<|NG x0 x7 4<|NE ((x0.ix x7).drop 2)<|.ak (cb 4 [[VS ((r1.cs.getD 0 .any).aj),(r1.cs.getD 1 .any),VS ((((x0.ix x7).drop 2).getD 0 .any).aj),(((x0.ix x7).drop 2).getD 1 .any)]]/\((e2.length)+([[VS ((r1.cs.getD 0 .any).aj),(r1.cs.getD 1 .any),VS ((((x0.ix x7).drop 2).getD 0 .any).aj),(((x0.ix x7).drop 2).getD 1 .any)]]:List (List AV)).length)*80<=140737488355328)<|.done 0 [x0,VS x1,VI (IntKind.wrap .i64 (x7+1))] [.vec 4 (e2++([[VS ((r1.cs.getD 0 .any).aj),(r1.cs.getD 1 .any),VS ((((x0.ix x7).drop 2).getD 0 .any).aj),(((x0.ix x7).drop 2).getD 1 .any)]]:List (List AV)))]) (.done 1 [] [.vec 4 e2])
abbrev FK:=cm Tryz.prog 32 I4 Ee
theorem G7(x0:AV)(x1:ByteArray)(x7:Int)(e2:List (List AV))(h:kt 32 (C5 x0 x1 x7 e2) FK U):FK [x0,VS x1,VI x7] [.vec 4 e2] U :=
 gQ J8 h
def I8(a0_0:AV)(a0_1:Int):Tree :=
 .call 29 [.ref 0 0,VI 12] [.cells [a0_0,VI a0_1]] fun r1 o1=>.ak ((o1.hO)=.cells (o1.hO).cs)<|.ak (aO [.lk .sl,.lk (.int .i64)] ((o1.hO).cs) 0 1 o1.tail)<|NI r1<|.test (r1.toInt==(0:Int)) (.call 80 [.ref 0 0,.sl [[VS (mk [])],[VS (mk [97])],[VS (mk [40,43,32,49,41])],[VS (mk [40,114,101,99,32,120,32,49,41])],[VS (mk [40,114,101,99,32,116,41])],[VS (mk [40,43,32,32,49,32,49,41])],[VS (mk [40,42,32,49,32,49,32,49,41])],[VS (mk [116,49,48,48])],[VS (mk [120,32,49])]]] [.cells [((o1.hO).cs.getD 0 .any),VI (((o1.hO).cs.getD 1 .any).toInt)]] fun r2 o2=>.ak ((o2.hO)=.cells (o2.hO).cs)<|.ak (aO [.lk .sl,.lk (.int .i64)] ((o2.hO).cs) 0 1 o2.tail)<|NS r2<|.done 0 [VS r2.aj] [.cells [((o2.hO).cs.getD 0 .any),VI (((o2.hO).cs.getD 1 .any).toInt)]]) (.test (r1.toInt==(1:Int)) (.call 50 [.ref 0 0] [.cells [((o1.hO).cs.getD 0 .any),VI (((o1.hO).cs.getD 1 .any).toInt)]] fun r3 o3=>.ak ((o3.hO)=.cells (o3.hO).cs)<|.ak (aO [.lk .sl,.lk (.int .i64)] ((o3.hO).cs) 0 1 o3.tail)<|NS r3<|.done 0 [VS r3.aj] [.cells [((o3.hO).cs.getD 0 .any),VI (((o3.hO).cs.getD 1 .any).toInt)]]) (.test (r1.toInt==(2:Int)) (.call 50 [.ref 0 0] [.cells [((o1.hO).cs.getD 0 .any),VI (((o1.hO).cs.getD 1 .any).toInt)]] fun r4 o4=>.ak ((o4.hO)=.cells (o4.hO).cs)<|.ak (aO [.lk .sl,.lk (.int .i64)] ((o4.hO).cs) 0 1 o4.tail)<|NS r4<|.done 0 [VS r4.aj] [.cells [((o4.hO).cs.getD 0 .any),VI (((o4.hO).cs.getD 1 .any).toInt)]]) (.test (r1.toInt==(3:Int)) (.call 50 [.ref 0 0] [.cells [((o1.hO).cs.getD 0 .any),VI (((o1.hO).cs.getD 1 .any).toInt)]] fun r5 o5=>.ak ((o5.hO)=.cells (o5.hO).cs)<|.ak (aO [.lk .sl,.lk (.int .i64)] ((o5.hO).cs) 0 1 o5.tail)<|NS r5<|.done 0 [VS r5.aj] [.cells [((o5.hO).cs.getD 0 .any),VI (((o5.hO).cs.getD 1 .any).toInt)]]) (.test (r1.toInt==(4:Int)) (.call 107 [.ref 0 0,.sl [[VS (mk [116])],[VS (mk [116,49])]],VI 2] [.cells [((o1.hO).cs.getD 0 .any),VI (((o1.hO).cs.getD 1 .any).toInt)]] fun r6 o6=>.ak ((o6.hO)=.cells (o6.hO).cs)<|.ak (aO [.lk .sl,.lk (.int .i64)] ((o6.hO).cs) 0 1 o6.tail)<|NS r6<|.done 0 [VS r6.aj] [.cells [((o6.hO).cs.getD 0 .any),VI (((o6.hO).cs.getD 1 .any).toInt)]]) (.call 107 [.ref 0 0,.sl [],VI 3] [.cells [((o1.hO).cs.getD 0 .any),VI (((o1.hO).cs.getD 1 .any).toInt)]] fun r7 o7=>.ak ((o7.hO)=.cells (o7.hO).cs)<|.ak (aO [.lk .sl,.lk (.int .i64)] ((o7.hO).cs) 0 1 o7.tail)<|NS r7<|.done 0 [VS r7.aj] [.cells [((o7.hO).cs.getD 0 .any),VI (((o7.hO).cs.getD 1 .any).toInt)]])))))
theorem N3(a0_0:AV)(a0_1:Int)(ha0_0:LK.has .sl a0_0)(h:dH 24 (I8 a0_0 a0_1) R):au Tryz.prog 106 [.ref 0 0] [.cells [a0_0,VI a0_1]] R :=
 au.ox (bn (ca (ah (bT ha0_0) (ah (aC _) aD))) cu) (au.up (ah (aC _) aD) (oF [] {mu:=[(0,.one (.obj [.lk .sl,.lk (.int .i64)]))],own:=[]} Tryz.f106 h))
def D5(a0_0:AV)(a0_1:Int)(a1:AV)(a2:Int):Tree :=
 .test (decide (a2<=(0:Int))) (NL a1<|.test (decide ((a1.aM.length:Int)>(0:Int))) (.call 29 [.ref 0 0,VI 3] [.cells [a0_0,VI a0_1]] fun r1 o1=>.ak ((o1.hO)=.cells (o1.hO).cs)<|.ak (aO [.lk .sl,.lk (.int .i64)] ((o1.hO).cs) 0 1 o1.tail)<|NI r1<|.test (r1.toInt==(0:Int)) (NL a1<|.call 29 [.ref 0 0,VI (a1.aM.length:Int)] [.cells [((o1.hO).cs.getD 0 .any),VI (((o1.hO).cs.getD 1 .any).toInt)]] fun r2 o2=>.ak ((o2.hO)=.cells (o2.hO).cs)<|.ak (aO [.lk .sl,.lk (.int .i64)] ((o2.hO).cs) 0 1 o2.tail)<|NI r2<|.ak (LK.has .sl a1/\0<=r2.toInt/\r2.toInt<a1.aM.length/\(a1.aM.getD r2.toInt.toNat []).length=1)<|oV (a1.aM.getD r2.toInt.toNat [])<|.done 0 [VS (((a1.aM.getD r2.toInt.toNat []).hA).aj)] [.cells [((o2.hO).cs.getD 0 .any),VI (((o2.hO).cs.getD 1 .any).toInt)]]) (.call 80 [.ref 0 0,.sl [[VS (mk [120])],[VS (mk [49])],[VS (mk [120])],[VS (mk [121])],[VS (mk [48])],[VS (mk [49])]]] [.cells [((o1.hO).cs.getD 0 .any),VI (((o1.hO).cs.getD 1 .any).toInt)]] fun r3 o3=>.ak ((o3.hO)=.cells (o3.hO).cs)<|.ak (aO [.lk .sl,.lk (.int .i64)] ((o3.hO).cs) 0 1 o3.tail)<|NS r3<|.done 0 [VS r3.aj] [.cells [((o3.hO).cs.getD 0 .any),VI (((o3.hO).cs.getD 1 .any).toInt)]])) (.call 80 [.ref 0 0,.sl [[VS (mk [120])],[VS (mk [49])],[VS (mk [120])],[VS (mk [121])],[VS (mk [48])],[VS (mk [49])]]] [.cells [a0_0,VI a0_1]] fun r4 o4=>.ak ((o4.hO)=.cells (o4.hO).cs)<|.ak (aO [.lk .sl,.lk (.int .i64)] ((o4.hO).cs) 0 1 o4.tail)<|NS r4<|.done 0 [VS r4.aj] [.cells [((o4.hO).cs.getD 0 .any),VI (((o4.hO).cs.getD 1 .any).toInt)]])) (.call 29 [.ref 0 0,VI 4] [.cells [a0_0,VI a0_1]] fun r5 o5=>.ak ((o5.hO)=.cells (o5.hO).cs)<|.ak (aO [.lk .sl,.lk (.int .i64)] ((o5.hO).cs) 0 1 o5.tail)<|NI r5<|.test (r5.toInt==(0:Int)) (NL a1<|.test (decide ((a1.aM.length:Int)>(0:Int))) (.call 29 [.ref 0 0,VI 3] [.cells [((o5.hO).cs.getD 0 .any),VI (((o5.hO).cs.getD 1 .any).toInt)]] fun r6 o6=>.ak ((o6.hO)=.cells (o6.hO).cs)<|.ak (aO [.lk .sl,.lk (.int .i64)] ((o6.hO).cs) 0 1 o6.tail)<|NI r6<|.test (r6.toInt==(0:Int)) (NL a1<|.call 29 [.ref 0 0,VI (a1.aM.length:Int)] [.cells [((o6.hO).cs.getD 0 .any),VI (((o6.hO).cs.getD 1 .any).toInt)]] fun r7 o7=>.ak ((o7.hO)=.cells (o7.hO).cs)<|.ak (aO [.lk .sl,.lk (.int .i64)] ((o7.hO).cs) 0 1 o7.tail)<|NI r7<|.ak (LK.has .sl a1/\0<=r7.toInt/\r7.toInt<a1.aM.length/\(a1.aM.getD r7.toInt.toNat []).length=1)<|oV (a1.aM.getD r7.toInt.toNat [])<|.done 0 [VS (((a1.aM.getD r7.toInt.toNat []).hA).aj)] [.cells [((o7.hO).cs.getD 0 .any),VI (((o7.hO).cs.getD 1 .any).toInt)]]) (.call 80 [.ref 0 0,.sl [[VS (mk [120])],[VS (mk [49])],[VS (mk [120])],[VS (mk [121])],[VS (mk [48])],[VS (mk [49])]]] [.cells [((o6.hO).cs.getD 0 .any),VI (((o6.hO).cs.getD 1 .any).toInt)]] fun r8 o8=>.ak ((o8.hO)=.cells (o8.hO).cs)<|.ak (aO [.lk .sl,.lk (.int .i64)] ((o8.hO).cs) 0 1 o8.tail)<|NS r8<|.done 0 [VS r8.aj] [.cells [((o8.hO).cs.getD 0 .any),VI (((o8.hO).cs.getD 1 .any).toInt)]])) (.call 80 [.ref 0 0,.sl [[VS (mk [120])],[VS (mk [49])],[VS (mk [120])],[VS (mk [121])],[VS (mk [48])],[VS (mk [49])]]] [.cells [((o5.hO).cs.getD 0 .any),VI (((o5.hO).cs.getD 1 .any).toInt)]] fun r9 o9=>.ak ((o9.hO)=.cells (o9.hO).cs)<|.ak (aO [.lk .sl,.lk (.int .i64)] ((o9.hO).cs) 0 1 o9.tail)<|NS r9<|.done 0 [VS r9.aj] [.cells [((o9.hO).cs.getD 0 .any),VI (((o9.hO).cs.getD 1 .any).toInt)]])) (.call 29 [.ref 0 0,VI 5] [.cells [((o5.hO).cs.getD 0 .any),VI (((o5.hO).cs.getD 1 .any).toInt)]] fun r10 o10=>.ak ((o10.hO)=.cells (o10.hO).cs)<|.ak (aO [.lk .sl,.lk (.int .i64)] ((o10.hO).cs) 0 1 o10.tail)<|NI r10<|.test (r10.toInt==(0:Int)) (.call 107 [.ref 0 0,a1,VI (IntKind.wrap .i64 (a2-1))] [.cells [((o10.hO).cs.getD 0 .any),VI (((o10.hO).cs.getD 1 .any).toInt)]] fun r11 o11=>.ak ((o11.hO)=.cells (o11.hO).cs)<|.ak (aO [.lk .sl,.lk (.int .i64)] ((o11.hO).cs) 0 1 o11.tail)<|NS r11<|.ak (ag (mk [40,43,32])+ag r11.aj<=9223372036854775807)<|.ak (ag (((mk [40,43,32]):ByteArray)++r11.aj)+ag (mk [32])<=9223372036854775807)<|.call 107 [.ref 0 0,a1,VI (IntKind.wrap .i64 (a2-1))] [.cells [((o11.hO).cs.getD 0 .any),VI (((o11.hO).cs.getD 1 .any).toInt)]] fun r12 o12=>.ak ((o12.hO)=.cells (o12.hO).cs)<|.ak (aO [.lk .sl,.lk (.int .i64)] ((o12.hO).cs) 0 1 o12.tail)<|NS r12<|.ak (ag (((((mk [40,43,32]):ByteArray)++r11.aj):ByteArray)++(mk [32]))+ag r12.aj<=9223372036854775807)<|.ak (ag (((((((mk [40,43,32]):ByteArray)++r11.aj):ByteArray)++(mk [32])):ByteArray)++r12.aj)+ag (mk [41])<=9223372036854775807)<|.done 0 [VS (((((((((mk [40,43,32]):ByteArray)++r11.aj):ByteArray)++(mk [32])):ByteArray)++r12.aj):ByteArray)++(mk [41]))] [.cells [((o12.hO).cs.getD 0 .any),VI (((o12.hO).cs.getD 1 .any).toInt)]]) (.test (r10.toInt==(1:Int)) (.call 107 [.ref 0 0,a1,VI (IntKind.wrap .i64 (a2-1))] [.cells [((o10.hO).cs.getD 0 .any),VI (((o10.hO).cs.getD 1 .any).toInt)]] fun r13 o13=>.ak ((o13.hO)=.cells (o13.hO).cs)<|.ak (aO [.lk .sl,.lk (.int .i64)] ((o13.hO).cs) 0 1 o13.tail)<|NS r13<|.ak (ag (mk [40,43,32])+ag r13.aj<=9223372036854775807)<|.ak (ag (((mk [40,43,32]):ByteArray)++r13.aj)+ag (mk [32])<=9223372036854775807)<|.call 107 [.ref 0 0,a1,VI (IntKind.wrap .i64 (a2-1))] [.cells [((o13.hO).cs.getD 0 .any),VI (((o13.hO).cs.getD 1 .any).toInt)]] fun r14 o14=>.ak ((o14.hO)=.cells (o14.hO).cs)<|.ak (aO [.lk .sl,.lk (.int .i64)] ((o14.hO).cs) 0 1 o14.tail)<|NS r14<|.ak (ag (((((mk [40,43,32]):ByteArray)++r13.aj):ByteArray)++(mk [32]))+ag r14.aj<=9223372036854775807)<|.ak (ag (((((((mk [40,43,32]):ByteArray)++r13.aj):ByteArray)++(mk [32])):ByteArray)++r14.aj)+ag (mk [41])<=9223372036854775807)<|.done 0 [VS (((((((((mk [40,43,32]):ByteArray)++r13.aj):ByteArray)++(mk [32])):ByteArray)++r14.aj):ByteArray)++(mk [41]))] [.cells [((o14.hO).cs.getD 0 .any),VI (((o14.hO).cs.getD 1 .any).toInt)]]) (.test (r10.toInt==(2:Int)) (.call 107 [.ref 0 0,a1,VI (IntKind.wrap .i64 (a2-1))] [.cells [((o10.hO).cs.getD 0 .any),VI (((o10.hO).cs.getD 1 .any).toInt)]] fun r15 o15=>.ak ((o15.hO)=.cells (o15.hO).cs)<|.ak (aO [.lk .sl,.lk (.int .i64)] ((o15.hO).cs) 0 1 o15.tail)<|NS r15<|.ak (ag (mk [40,42,32])+ag r15.aj<=9223372036854775807)<|.ak (ag (((mk [40,42,32]):ByteArray)++r15.aj)+ag (mk [32])<=9223372036854775807)<|.call 107 [.ref 0 0,a1,VI (IntKind.wrap .i64 (a2-1))] [.cells [((o15.hO).cs.getD 0 .any),VI (((o15.hO).cs.getD 1 .any).toInt)]] fun r16 o16=>.ak ((o16.hO)=.cells (o16.hO).cs)<|.ak (aO [.lk .sl,.lk (.int .i64)] ((o16.hO).cs) 0 1 o16.tail)<|NS r16<|.ak (ag (((((mk [40,42,32]):ByteArray)++r15.aj):ByteArray)++(mk [32]))+ag r16.aj<=9223372036854775807)<|.ak (ag (((((((mk [40,42,32]):ByteArray)++r15.aj):ByteArray)++(mk [32])):ByteArray)++r16.aj)+ag (mk [41])<=9223372036854775807)<|.done 0 [VS (((((((((mk [40,42,32]):ByteArray)++r15.aj):ByteArray)++(mk [32])):ByteArray)++r16.aj):ByteArray)++(mk [41]))] [.cells [((o16.hO).cs.getD 0 .any),VI (((o16.hO).cs.getD 1 .any).toInt)]]) (.test (r10.toInt==(3:Int)) (.call 107 [.ref 0 0,a1,VI (IntKind.wrap .i64 (a2-1))] [.cells [((o10.hO).cs.getD 0 .any),VI (((o10.hO).cs.getD 1 .any).toInt)]] fun r17 o17=>.ak ((o17.hO)=.cells (o17.hO).cs)<|.ak (aO [.lk .sl,.lk (.int .i64)] ((o17.hO).cs) 0 1 o17.tail)<|NS r17<|.ak (ag (mk [40,42,32])+ag r17.aj<=9223372036854775807)<|.ak (ag (((mk [40,42,32]):ByteArray)++r17.aj)+ag (mk [32])<=9223372036854775807)<|.call 107 [.ref 0 0,a1,VI (IntKind.wrap .i64 (a2-1))] [.cells [((o17.hO).cs.getD 0 .any),VI (((o17.hO).cs.getD 1 .any).toInt)]] fun r18 o18=>.ak ((o18.hO)=.cells (o18.hO).cs)<|.ak (aO [.lk .sl,.lk (.int .i64)] ((o18.hO).cs) 0 1 o18.tail)<|NS r18<|.ak (ag (((((mk [40,42,32]):ByteArray)++r17.aj):ByteArray)++(mk [32]))+ag r18.aj<=9223372036854775807)<|.ak (ag (((((((mk [40,42,32]):ByteArray)++r17.aj):ByteArray)++(mk [32])):ByteArray)++r18.aj)+ag (mk [41])<=9223372036854775807)<|.done 0 [VS (((((((((mk [40,42,32]):ByteArray)++r17.aj):ByteArray)++(mk [32])):ByteArray)++r18.aj):ByteArray)++(mk [41]))] [.cells [((o18.hO).cs.getD 0 .any),VI (((o18.hO).cs.getD 1 .any).toInt)]]) (.call 80 [.ref 0 0,.sl [[VS (mk [116])],[VS (mk [116,49])],[VS (mk [116,48])]]] [.cells [((o10.hO).cs.getD 0 .any),VI (((o10.hO).cs.getD 1 .any).toInt)]] fun r19 o19=>.ak ((o19.hO)=.cells (o19.hO).cs)<|.ak (aO [.lk .sl,.lk (.int .i64)] ((o19.hO).cs) 0 1 o19.tail)<|NS r19<|.ak (ag (mk [40,114,101,99,32])+ag r19.aj<=9223372036854775807)<|.ak (ag (((mk [40,114,101,99,32]):ByteArray)++r19.aj)+ag (mk [32,40,43,32,49,32])<=9223372036854775807)<|.call 61 [a1,VS r19.aj] [] fun r20 o20=>NL r20<|.call 107 [.ref 0 0,r20,VI (IntKind.wrap .i64 (a2-1))] [.cells [((o19.hO).cs.getD 0 .any),VI (((o19.hO).cs.getD 1 .any).toInt)]] fun r21 o21=>.ak ((o21.hO)=.cells (o21.hO).cs)<|.ak (aO [.lk .sl,.lk (.int .i64)] ((o21.hO).cs) 0 1 o21.tail)<|NS r21<|.ak (ag (((((mk [40,114,101,99,32]):ByteArray)++r19.aj):ByteArray)++(mk [32,40,43,32,49,32]))+ag r21.aj<=9223372036854775807)<|.ak (ag (((((((mk [40,114,101,99,32]):ByteArray)++r19.aj):ByteArray)++(mk [32,40,43,32,49,32])):ByteArray)++r21.aj)+ag (mk [41,41])<=9223372036854775807)<|.done 0 [VS (((((((((mk [40,114,101,99,32]):ByteArray)++r19.aj):ByteArray)++(mk [32,40,43,32,49,32])):ByteArray)++r21.aj):ByteArray)++(mk [41,41]))] [.cells [((o21.hO).cs.getD 0 .any),VI (((o21.hO).cs.getD 1 .any).toInt)]]))))))
theorem Js(a0_0:AV)(a0_1:Int)(a1:AV)(a2:Int)(ha1:LK.has .sl a1)(ha0_0:LK.has .sl a0_0)(h:dH 82 (D5 a0_0 a0_1 a1 a2) R):au Tryz.prog 107 [.ref 0 0,a1,VI a2] [.cells [a0_0,VI a0_1]] R :=
 au.ox (bn (ca (ah (bT ha0_0) (ah (aC _) aD))) cu) (au.up (ah (aC _) (ah (bT ha1) (ah (aC _) aD))) (oF [] {mu:=[(0,.one (.obj [.lk .sl,.lk (.int .i64)]))],own:=[]} Tryz.f107 h))
def Ad(a0_0:ByteArray)(a0_1:AV)(a1:AV):Tree :=
 .call 71 [.agg [VS a0_0,a0_1]] [] fun r1 o1=>NS r1<|.test (ac r1.aj==ac (mk [43])) (NG a0_1 1 2<|NE (a0_1.ix (1:Int))<|.call 108 [.agg [VS (((a0_1.ix (1:Int)).getD 0 .any).aj),((a0_1.ix (1:Int)).getD 1 .any)],a1] [] fun r2 o2=>NB r2<|.test r2.toBool (NG a0_1 2 2<|NE (a0_1.ix (2:Int))<|.call 108 [.agg [VS (((a0_1.ix (2:Int)).getD 0 .any).aj),((a0_1.ix (2:Int)).getD 1 .any)],a1] [] fun r3 o3=>NB r3<|.done 0 [VB r3.toBool] []) (.done 0 [VB false] [])) (.test (ac r1.aj==ac (mk [42])) (NG a0_1 1 2<|NE (a0_1.ix (1:Int))<|.call 108 [.agg [VS (((a0_1.ix (1:Int)).getD 0 .any).aj),((a0_1.ix (1:Int)).getD 1 .any)],a1] [] fun r4 o4=>NB r4<|.test r4.toBool (.done 0 [VB true] []) (NG a0_1 2 2<|NE (a0_1.ix (2:Int))<|.call 108 [.agg [VS (((a0_1.ix (2:Int)).getD 0 .any).aj),((a0_1.ix (2:Int)).getD 1 .any)],a1] [] fun r5 o5=>NB r5<|.done 0 [VB r5.toBool] [])) (.test (ac r1.aj==ac (mk [114,101,99])) (NG a0_1 2 2<|NE (a0_1.ix (2:Int))<|NG a0_1 1 2<|oV (a0_1.ix (1:Int))<|.call 61 [a1,VS (((a0_1.ix (1:Int)).hA).aj)] [] fun r6 o6=>NL r6<|.call 108 [.agg [VS (((a0_1.ix (2:Int)).getD 0 .any).aj),((a0_1.ix (2:Int)).getD 1 .any)],r6] [] fun r7 o7=>NB r7<|.done 0 [VB r7.toBool] []) (.test (ac a0_0==ac (mk [48])) (.done 0 [VB true] []) (.call 139 [a1,VS a0_0] [] fun r8 o8=>NB r8<|.done 0 [VB r8.toBool] []))))
theorem BH(a0_0:ByteArray)(a0_1:AV)(a1:AV)(ha0_1:LK.has .sl a0_1)(ha1:LK.has .sl a1)(h:dH 62 (Ad a0_0 a0_1 a1) R):au Tryz.prog 108 [.agg [VS a0_0,a0_1],a1] [] R :=
 uQ (ah (cG (ah (aC _) (ah (bT ha0_1) aD))) (ah (bT ha1) aD)) (oQ [] Tryz.f108 h)
def DY:LI:={hd:={bI:=[(3,.k (.int .i64)),(4,.k (.int .i64))],refs:=[(1,1)],cd:=[(1,[.lk .str,.lk .sl])]},xs:={bI:=[(3,.k (.int .i64))]},rt:={},ex:=0}
def Ks:Code:=cC (cw Tryz.f109) 5
def I5:List (Nat×LI):=[(5,DY)]
def Fc(a0_0:ByteArray)(a0_1:AV):Tree :=
 .test (!(ac a0_0==ac (mk []))) (.done 0 [VI 1] []) (.loop Ks DY [VI 0,VI 0] [.cells [VS a0_0,a0_1]] (fun y2 q2=>NI (y2.hA)<|.done 0 [VI ((y2.hA).toInt)] []) (fun y2 q2=>.done 0 [.any] []))
theorem H6(a0_0:ByteArray)(a0_1:AV)(ha0_1:LK.has .sl a0_1)(h:dH 24 (Fc a0_0 a0_1) R):au Tryz.prog 109 [.agg [VS a0_0,a0_1]] [] R :=
 uQ (ah (cG (ah (aC _) (ah (bT ha0_1) aD))) aD) (oQ I5 Tryz.f109 h)
def D3(x3:Int)(x4:Int)(o1_0:ByteArray)(o1_1:AV):Tree :=
 NI (VI x3)<|NI (VI x4)<|.ak (Ob.cells [VS o1_0,o1_1]=.cells [VS o1_0,o1_1])<|.ak (ae [.lk .str,.lk .sl] [VS o1_0,o1_1] 0 [])<|NL o1_1<|.test (decide (x4<(o1_1.aM.length:Int))) (NG o1_1 x4 2<|NE (o1_1.ix x4)<|.call 109 [.agg [VS (((o1_1.ix x4).getD 0 .any).aj),((o1_1.ix x4).getD 1 .any)]] [] fun r1 o1=>NI r1<|.done 0 [VI (IntKind.wrap .i64 (x3+r1.toInt)),VI (IntKind.wrap .i64 (x4+1))] [.cells [VS o1_0,o1_1]]) (.done 1 [VI x3] [])
abbrev Dz:=cm Tryz.prog 24 Ks DY
theorem HM(x3:Int)(x4:Int)(o1_0:ByteArray)(o1_1:AV)(h:kt 24 (D3 x3 x4 o1_0 o1_1) Dz U):Dz [VI x3,VI x4] [.cells [VS o1_0,o1_1]] U :=
 gQ I5 h
def Ix(a0_0:ByteArray)(a0_1:AV):Tree :=
 NG a0_1 1 2<|oV (a0_1.ix (1:Int))<|NG a0_1 2 2<|NE (a0_1.ix (2:Int))<|.call 142 [.agg [VS (((a0_1.ix (2:Int)).getD 0 .any).aj),((a0_1.ix (2:Int)).getD 1 .any)],VS (((a0_1.ix (1:Int)).hA).aj),.agg [VS a0_0,a0_1]] [] fun r1 o1=>NB r1<|.test (!r1.toBool) (.done 0 [.da [.agg [VS a0_0,a0_1],VB false]] []) (NG a0_1 2 2<|NE (a0_1.ix (2:Int))<|.call 143 [.agg [VS (((a0_1.ix (2:Int)).getD 0 .any).aj),((a0_1.ix (2:Int)).getD 1 .any)],VS (((a0_1.ix (1:Int)).hA).aj),.agg [VS a0_0,a0_1]] [] fun r2 o2=>NA r2<|.done 0 [.da [.agg [VS ((r2.cs.getD 0 .any).aj),(r2.cs.getD 1 .any)],VB true]] [])
theorem NR(a0_0:ByteArray)(a0_1:AV)(ha0_1:LK.has .sl a0_1)(h:dH 26 (Ix a0_0 a0_1) R):au Tryz.prog 110 [.agg [VS a0_0,a0_1]] [] R :=
 uQ (ah (cG (ah (aC _) (ah (bT ha0_1) aD))) aD) (oQ [] Tryz.f110 h)
def Is(a0:Int):Tree :=
 .test (decide (a0<((-9223372036854775807):Int))) (.done 0 [VS (mk [45,57,50,50,51,51,55,50,48,51,54,56,53,52,55,55,53,56,48,56])] []) (.test (decide (a0<(0:Int))) (.call 111 [VI (IntKind.wrap .i64 (0-a0))] [] fun r1 o1=>NS r1<|.ak (ag (mk [45])+ag r1.aj<=9223372036854775807)<|.done 0 [VS (((mk [45]):ByteArray)++r1.aj)] []) (.test (decide (a0<(10:Int))) (.ak (qF [[.v (.int .u8 (IntKind.wrap .u8 (IntKind.wrap .i64 (48+a0))))]])<|.done 0 [VS (⟨(bytesOf [[.v (.int .u8 (IntKind.wrap .u8 (IntKind.wrap .i64 (48+a0))))]]).toArray⟩)] []) (.ak (¬(10:Int)=0)<|.call 111 [VI (IntKind.wrap .i64 (Int.tdiv a0 10))] [] fun r2 o2=>NS r2<|.ak (¬(10:Int)=0)<|.ak (qF [[.v (.int .u8 (IntKind.wrap .u8 (IntKind.wrap .i64 (48+(dc a0 10)))))]])<|.ak (ag r2.aj+ag (⟨(bytesOf [[.v (.int .u8 (IntKind.wrap .u8 (IntKind.wrap .i64 (48+(dc a0 10)))))]]).toArray⟩)<=9223372036854775807)<|.done 0 [VS ((r2.aj:ByteArray)++(⟨(bytesOf [[.v (.int .u8 (IntKind.wrap .u8 (IntKind.wrap .i64 (48+(dc a0 10)))))]]).toArray⟩))] [])))
theorem Nt(a0:Int)(h:dH 28 (Is a0) R):au Tryz.prog 111 [VI a0] [] R :=
 uQ (ah (aC _) aD) (oQ [] Tryz.f111 h)
def CX:LI:={hd:={bI:=[(1,.k .sl),(2,.k .sl),(9,.k (.int .i64))],refs:=[(4,4),(8,8)],cd:=[(4,[.lk .str,.lk .sl]),(8,[.lk .str,.lk .sl]),(0,[.vec 1,.lk (.int .i64)])]},xs:={refs:=[(4,4),(8,8)],cd:=[(4,[.lk .str,.lk .sl]),(8,[.lk .str,.lk .sl]),(0,[.vec 1,.lk (.int .i64)])]},rt:={refs:=[(8,8)],cd:=[(8,[.lk .str,.lk .sl]),(0,[.vec 1,.lk (.int .i64)])]},ex:=0,fx:=[0]}
def Kn:Code:=cC (cw Tryz.f112) 3
def DM:LI:={hd:={bI:=[(1,.k .sl),(2,.k .sl),(10,.k .str)],refs:=[(3,0),(4,4),(8,8)],cd:=[(0,[.vec 1,.lk (.int .i64)]),(4,[.lk .str,.lk .sl]),(8,[.lk .str,.lk .sl])]},xs:={bI:=[(1,.k .sl),(2,.k .sl),(10,.k .str)],refs:=[(3,0),(4,4),(8,8)],cd:=[(0,[.vec 1,.lk (.int .i64)]),(4,[.lk .str,.lk .sl]),(8,[.lk .str,.lk .sl])]},rt:={cd:=[(0,[.vec 1,.lk (.int .i64)])]},ex:=2,fx:=[0]}
def GL:Code:=cC (cw Tryz.f112) 10
def FD:List (Nat×LI):=[(3,CX),(10,DM)]
def Ac(a0_0:ByteArray)(a0_1:AV)(a1:AV)(a2:AV)(e3_0:List (List AV))(a3_1:Int):Tree :=
 .test (!(ac a0_0==ac (mk []))) (NL a1<|.loop Kn CX [a1,a2,VI (IntKind.wrap .i64 ((a1.aM.length:Int)-1))] [.cells [VS a0_0,a0_1],.cells [VS (mk []),.v (.slice none 0 0)],.cells [.any,VI a3_1],.vec 1 e3_0] (fun y1 q1=>.ak ((q1.hO)=.cells (q1.hO).cs)<|.ak (ae [.lk .str,.lk .sl] ((q1.hO).cs) 0 q1.tail)<|.ak (((q1.tail.drop 0).hO)=.cells ((q1.tail.drop 0).hO).cs)<|.ak (ae [.lk .str,.lk .sl] (((q1.tail.drop 0).hO).cs) 0 ((q1.tail.drop 0).tail))<|.ak ((((q1.tail.drop 0).tail.drop 0).hO)=.cells (((q1.tail.drop 0).tail.drop 0).hO).cs)<|.ak (ae [.vec 1,.lk (.int .i64)] ((((q1.tail.drop 0).tail.drop 0).hO).cs) 0 (((q1.tail.drop 0).tail.drop 0).tail))<|.done 0 [.agg [VS (((q1.hO).cs.getD 0 .any).aj),((q1.hO).cs.getD 1 .any)]] [.cells [.vec 1,VI (((q1.tail.tail.hO).cs.getD 1 .any).toInt)],.vec 1 ((q1.tail.tail.tail.hO).es)]) (fun y1 q1=>.ak ((q1.hO)=.cells (q1.hO).cs)<|.ak (ae [.lk .str,.lk .sl] ((q1.hO).cs) 0 q1.tail)<|.ak (((q1.tail.drop 0).hO)=.cells ((q1.tail.drop 0).hO).cs)<|.ak (ae [.vec 1,.lk (.int .i64)] (((q1.tail.drop 0).hO).cs) 0 ((q1.tail.drop 0).tail))<|.done 0 [.agg [VS (((q1.hO).cs.getD 0 .any).aj),((q1.hO).cs.getD 1 .any)]] [.cells [.vec 1,VI (((q1.tail.hO).cs.getD 1 .any).toInt)],.vec 1 ((q1.tail.tail.hO).es)])) (.call 71 [.agg [VS a0_0,a0_1]] [] fun r2 o2=>NS r2<|.test (ac r2.aj==ac (mk [114,101,99])) (.call 111 [VI a3_1] [] fun r3 o3=>NS r3<|.ak (ag (mk [116])+ag r3.aj<=9223372036854775807)<|.loop GL DM [a1,a2,VS (((mk [116]):ByteArray)++r3.aj)] [.cells [.any,VI a3_1],.vec 1 e3_0,.cells [VS a0_0,a0_1],.cells [VS (mk []),.v (.slice none 0 0)]] (fun y6 q6=>NL (y6.hA)<|NL (y6.tail.hA)<|NS (y6.tail.tail.hA)<|.ak ((q6.hO)=.cells (q6.hO).cs)<|.ak (ae [.vec 1,.lk (.int .i64)] ((q6.hO).cs) 0 q6.tail)<|.ak (((q6.tail.drop 1).hO)=.cells ((q6.tail.drop 1).hO).cs)<|.ak (ae [.lk .str,.lk .sl] (((q6.tail.drop 1).hO).cs) 0 ((q6.tail.drop 1).tail))<|.ak ((((q6.tail.drop 1).tail.drop 0).hO)=.cells (((q6.tail.drop 1).tail.drop 0).hO).cs)<|.ak (ae [.lk .str,.lk .sl] ((((q6.tail.drop 1).tail.drop 0).hO).cs) 0 (((q6.tail.drop 1).tail.drop 0).tail))<|NG ((q6.tail.tail.hO).cs.getD 1 .any) 2 2<|NE (((q6.tail.tail.hO).cs.getD 1 .any).ix (2:Int))<|NG ((q6.tail.tail.hO).cs.getD 1 .any) 1 2<|oV (((q6.tail.tail.hO).cs.getD 1 .any).ix (1:Int))<|.call 61 [(y6.hA),VS (((((q6.tail.tail.hO).cs.getD 1 .any).ix (1:Int)).hA).aj)] [] fun r7 o7=>NL r7<|.call 61 [(y6.tail.hA),VS ((y6.tail.tail.hA).aj)] [] fun r8 o8=>NL r8<|.call 112 [.agg [VS (((((q6.tail.tail.hO).cs.getD 1 .any).ix (2:Int)).getD 0 .any).aj),((((q6.tail.tail.hO).cs.getD 1 .any).ix (2:Int)).getD 1 .any)],r7,r8,.ref 0 0] [.cells [.vec 1,VI (IntKind.wrap .i64 ((((q6.hO).cs.getD 1 .any).toInt)+1))],.vec 1 ((q6.tail.hO).es)] fun r9 o9=>.ak ((o9.hO)=.cells (o9.hO).cs)<|.ak (aO [.vec 1,.lk (.int .i64)] ((o9.hO).cs) 0 1 o9.tail)<|NA r9<|.call 78 [VS (mk [114,101,99]),.sl [[VS ((y6.tail.tail.hA).aj),.v (.slice none 0 0)],[VS ((r9.cs.getD 0 .any).aj),(r9.cs.getD 1 .any)]]] [] fun r10 o10=>NA r10<|.done 0 [.agg [VS ((r10.cs.getD 0 .any).aj),(r10.cs.getD 1 .any)]] [.cells [.vec 1,VI (((o9.hO).cs.getD 1 .any).toInt)],.vec 1 ((o9.tail.hO).es)]) (fun y6 q6=>.ak ((q6.hO)=.cells (q6.hO).cs)<|.ak (ae [.vec 1,.lk (.int .i64)] ((q6.hO).cs) 0 q6.tail)<|.fail)) (NG a0_1 1 2<|NE (a0_1.ix (1:Int))<|.call 112 [.agg [VS (((a0_1.ix (1:Int)).getD 0 .any).aj),((a0_1.ix (1:Int)).getD 1 .any)],a1,a2,.ref 0 0] [.cells [.vec 1,VI a3_1],.vec 1 e3_0] fun r11 o11=>.ak ((o11.hO)=.cells (o11.hO).cs)<|.ak (aO [.vec 1,.lk (.int .i64)] ((o11.hO).cs) 0 1 o11.tail)<|NA r11<|.call 71 [.agg [VS a0_0,a0_1]] [] fun r12 o12=>NS r12<|NG a0_1 2 2<|NE (a0_1.ix (2:Int))<|.call 112 [.agg [VS (((a0_1.ix (2:Int)).getD 0 .any).aj),((a0_1.ix (2:Int)).getD 1 .any)],a1,a2,.ref 0 0] [.cells [.vec 1,VI (((o11.hO).cs.getD 1 .any).toInt)],.vec 1 ((o11.tail.hO).es)] fun r13 o13=>.ak ((o13.hO)=.cells (o13.hO).cs)<|.ak (aO [.vec 1,.lk (.int .i64)] ((o13.hO).cs) 0 1 o13.tail)<|NA r13<|.call 78 [VS r12.aj,.sl [[VS ((r11.cs.getD 0 .any).aj),(r11.cs.getD 1 .any)],[VS ((r13.cs.getD 0 .any).aj),(r13.cs.getD 1 .any)]]] [] fun r14 o14=>NA r14<|.done 0 [.agg [VS ((r14.cs.getD 0 .any).aj),(r14.cs.getD 1 .any)]] [.cells [.vec 1,VI (((o13.hO).cs.getD 1 .any).toInt)],.vec 1 ((o13.tail.hO).es)]))
theorem B4(a0_0:ByteArray)(a0_1:AV)(a1:AV)(a2:AV)(e3_0:List (List AV))(a3_1:Int)(ha0_1:LK.has .sl a0_1)(ha1:LK.has .sl a1)(ha2:LK.has .sl a2)(h:dH 113 (Ac a0_0 a0_1 a1 a2 e3_0 a3_1) R):au Tryz.prog 112 [.agg [VS a0_0,a0_1],a1,a2,.ref 0 0] [.cells [.vec 1,VI a3_1],.vec 1 e3_0] R :=
 au.ox (bn (ca (ah (aC _) (ah (aC _) aD))) (bn (eT _) cu)) (au.up (ah (cG (ah (aC _) (ah (bT ha0_1) aD))) (ah (bT ha1) (ah (bT ha2) (ah (aC _) aD)))) (oF FD {mu:=[(3,.one (.obj [.vec 1,.lk (.int .i64)]))],own:=[]} Tryz.f112 h))
def EY(x1:AV)(x2:AV)(x9:Int)(o4_0:ByteArray)(o4_1:AV)(o8_0:ByteArray)(o8_1:AV)(o0_0:List (List AV))(o0_1:Int):Tree :=
 NL x1<|NL x2<|NI (VI x9)<|.ak (Ob.cells [VS o4_0,o4_1]=.cells [VS o4_0,o4_1])<|.ak (ae [.lk .str,.lk .sl] [VS o4_0,o4_1] 0 [.cells [VS o8_0,o8_1],.cells [.any,VI o0_1],.vec 1 o0_0])<|.ak (Ob.cells [VS o8_0,o8_1]=.cells [VS o8_0,o8_1])<|.ak (ae [.lk .str,.lk .sl] [VS o8_0,o8_1] 0 [.cells [.any,VI o0_1],.vec 1 o0_0])<|.ak (Ob.cells [.any,VI o0_1]=.cells [.any,VI o0_1])<|.ak (ae [.vec 1,.lk (.int .i64)] [.any,VI o0_1] 0 [.vec 1 o0_0])<|.test (decide (x9≥(0:Int))) (NG x1 x9 1<|oV (x1.ix x9)<|.test (ac (((x1.ix x9).hA).aj)==ac o4_0) (NG x2 x9 1<|oV (x2.ix x9)<|.done 2 [] [.cells [VS (((x2.ix x9).hA).aj),.v (.slice none 0 0)],.cells [.any,VI o0_1],.vec 1 o0_0]) (.done 0 [x1,x2,VI (IntKind.wrap .i64 (x9-1))] [.cells [VS o4_0,o4_1],.cells [VS o8_0,o8_1],.cells [.any,VI o0_1],.vec 1 o0_0])) (.done 1 [] [.cells [VS o4_0,o4_1],.cells [VS o8_0,o8_1],.cells [.any,VI o0_1],.vec 1 o0_0])
abbrev Dn:=cm Tryz.prog 113 Kn CX
theorem HV(x1:AV)(x2:AV)(x9:Int)(o4_0:ByteArray)(o4_1:AV)(o8_0:ByteArray)(o8_1:AV)(o0_0:List (List AV))(o0_1:Int)(h:kt 113 (EY x1 x2 x9 o4_0 o4_1 o8_0 o8_1 o0_0 o0_1) Dn U):Dn [x1,x2,VI x9] [.cells [VS o4_0,o4_1],.cells [VS o8_0,o8_1],.cells [.any,VI o0_1],.vec 1 o0_0] U :=
 gQ FD h
def HA(x1:AV)(x2:AV)(x10:ByteArray)(o0_0:List (List AV))(o0_1:Int)(o4_0:ByteArray)(o4_1:AV)(o8_0:ByteArray)(o8_1:AV):Tree :=
 NL x1<|NL x2<|NS (VS x10)<|.ak (Ob.cells [.any,VI o0_1]=.cells [.any,VI o0_1])<|.ak (ae [.vec 1,.lk (.int .i64)] [.any,VI o0_1] 0 [.vec 1 o0_0,.cells [VS o4_0,o4_1],.cells [VS o8_0,o8_1]])<|.ak (Ob.cells [VS o4_0,o4_1]=.cells [VS o4_0,o4_1])<|.ak (ae [.lk .str,.lk .sl] [VS o4_0,o4_1] 0 [.cells [VS o8_0,o8_1]])<|.ak (Ob.cells [VS o8_0,o8_1]=.cells [VS o8_0,o8_1])<|.ak (ae [.lk .str,.lk .sl] [VS o8_0,o8_1] 0 [])<|.call 139 [.sl o0_0,VS x10] [] fun r1 o1=>NB r1<|.test r1.toBool (.call 111 [VI (IntKind.wrap .i64 (o0_1+1))] [] fun r2 o2=>NS r2<|.ak (ag (mk [116])+ag r2.aj<=9223372036854775807)<|.done 0 [x1,x2,VS (((mk [116]):ByteArray)++r2.aj)] [.cells [.any,VI (IntKind.wrap .i64 (o0_1+1))],.vec 1 o0_0,.cells [VS o4_0,o4_1],.cells [VS o8_0,o8_1]]) (.done 1 [x1,x2,VS x10] [.cells [.any,VI o0_1],.vec 1 o0_0,.cells [VS o4_0,o4_1],.cells [VS o8_0,o8_1]])
abbrev EN:=cm Tryz.prog 113 GL DM
theorem MA(x1:AV)(x2:AV)(x10:ByteArray)(o0_0:List (List AV))(o0_1:Int)(o4_0:ByteArray)(o4_1:AV)(o8_0:ByteArray)(o8_1:AV)(h:kt 113 (HA x1 x2 x10 o0_0 o0_1 o4_0 o4_1 o8_0 o8_1) EN U):EN [x1,x2,VS x10] [.cells [.any,VI o0_1],.vec 1 o0_0,.cells [VS o4_0,o4_1],.cells [VS o8_0,o8_1]] U :=
 gQ FD h
def Kq(a0:ByteArray):Tree :=
 .test (decide ((ag a0:Int)>(8000:Int))) (.done 0 [.v (.pointer none)] []) (.call 144 [VS a0,VI 0] [] fun r1 o1=>NT r1<|NP (r1.comp 0)<|NS (r1.comp 1)<|.test (!(ac ((r1.comp 1).aj)==ac (mk []))) (.done 0 [.v (.pointer none)] []) (.done 0 [(r1.comp 0)] []))
theorem MV(a0:ByteArray)(h:dH 16 (Kq a0) R):au Tryz.prog 113 [VS a0] [] R :=
 uQ (ah (aC _) aD) (oQ [] Tryz.f113 h)
def DG:LI:={hd:={bI:=[(0,.k .ptr),(1,.k .sl),(5,.k (.int .i64))]},xs:={bI:=[(0,.k .ptr)]},rt:={refs:=[(4,69)],cd:=[(69,[.lk (.int .u8),.lk .str,.lk (.int .i64),.lk .ptr,.lk .ptr])]},ex:=1}
def Kl:Code:=cC (cw Tryz.f114) 7
def HY:List (Nat×LI):=[(7,DG)]
def FG(a0:AV)(a1:AV):Tree :=
 NZ a0<|NZ a0<|.ak (LK.has .str (a0.deref.hA)/\1<=a0.deref.length)<|.test (ac ((a0.deref.hA).aj)==ac (mk [48])) (NZ a0<|NZ a0<|.ak (LK.has .str (a0.deref.hA)/\1<=a0.deref.length)<|.ak (0<=(0:Int)/\(0:Int)<ag ((a0.deref.hA).aj))<|.done 0 [.ptr [.v (.int .u8 (bt ((a0.deref.hA).aj) 0)),VS (mk []),VI 0,.v (.pointer none),.v (.pointer none)]] []) (NZ a0<|NZ a0<|.ak (LK.has .str (a0.deref.hA)/\1<=a0.deref.length)<|.test (ac ((a0.deref.hA).aj)==ac (mk [49])) (NZ a0<|NZ a0<|.ak (LK.has .str (a0.deref.hA)/\1<=a0.deref.length)<|.ak (0<=(0:Int)/\(0:Int)<ag ((a0.deref.hA).aj))<|.done 0 [.ptr [.v (.int .u8 (bt ((a0.deref.hA).aj) 0)),VS (mk []),VI 0,.v (.pointer none),.v (.pointer none)]] []) (NZ a0<|NZ a0<|.ak (LK.has .str (a0.deref.hA)/\1<=a0.deref.length)<|.call 145 [VS ((a0.deref.hA).aj)] [] fun r1 o1=>NB r1<|.test r1.toBool (NZ a0<|NZ a0<|.ak (LK.has .str (a0.deref.hA)/\1<=a0.deref.length)<|.done 0 [.ptr [.v (.int .u8 110),VS ((a0.deref.hA).aj),VI 0,.v (.pointer none),.v (.pointer none)]] []) (NZ a0<|NZ a0<|.ak (LK.has .str (a0.deref.hA)/\1<=a0.deref.length)<|.call 146 [VS ((a0.deref.hA).aj)] [] fun r2 o2=>NB r2<|.test r2.toBool (NL a1<|.loop Kl DG [a0,a1,VI (IntKind.wrap .i64 ((a1.aM.length:Int)-1))] [] (fun y3 q3=>NP (y3.hA)<|NZ (y3.hA)<|NZ (y3.hA)<|.ak (LK.has .str ((y3.hA).deref.hA)/\1<=((y3.hA).deref).length)<|.done 0 [.ptr [.v (.int .u8 110),VS (((y3.hA).deref.hA).aj),VI 0,.v (.pointer none),.v (.pointer none)]] []) (fun y3 q3=>.ak ((q3.hO)=.cells (q3.hO).cs)<|.ak (ae [.lk (.int .u8),.lk .str,.lk (.int .i64),.lk .ptr,.lk .ptr] ((q3.hO).cs) 0 q3.tail)<|.done 0 [.ptr [.v (.int .u8 (((q3.hO).cs.getD 0 .any).toInt)),VS (((q3.hO).cs.getD 1 .any).aj),VI (((q3.hO).cs.getD 2 .any).toInt),((q3.hO).cs.getD 3 .any),((q3.hO).cs.getD 4 .any)]] [])) (.call 147 [a0,VS (mk [43]),VI 3] [] fun r4 o4=>NB r4<|.test r4.toBool (NZ a0<|NZ a0<|mY (a0.deref.drop 1)<|NG ((a0.deref.drop 1).hA) 1 1<|gY (((a0.deref.drop 1).hA).ix (1:Int))<|.call 114 [((((a0.deref.drop 1).hA).ix (1:Int)).hA),a1] [] fun r5 o5=>NP r5<|NZ a0<|NZ a0<|mY (a0.deref.drop 1)<|NG ((a0.deref.drop 1).hA) 2 1<|gY (((a0.deref.drop 1).hA).ix (2:Int))<|.call 114 [((((a0.deref.drop 1).hA).ix (2:Int)).hA),a1] [] fun r6 o6=>NP r6<|NP r5<|.test r5.isNil (.done 0 [.v (.pointer none)] []) (NP r6<|.test r6.isNil (.done 0 [.v (.pointer none)] []) (NZ a0<|NZ a0<|mY (a0.deref.drop 1)<|NG ((a0.deref.drop 1).hA) 0 1<|gY (((a0.deref.drop 1).hA).ix (0:Int))<|NZ ((((a0.deref.drop 1).hA).ix (0:Int)).hA)<|NZ ((((a0.deref.drop 1).hA).ix (0:Int)).hA)<|.ak (LK.has .str (((((a0.deref.drop 1).hA).ix (0:Int)).hA).deref.hA)/\1<=(((((a0.deref.drop 1).hA).ix (0:Int)).hA).deref).length)<|.ak (0<=(0:Int)/\(0:Int)<ag ((((((a0.deref.drop 1).hA).ix (0:Int)).hA).deref.hA).aj))<|.done 0 [.ptr [.v (.int .u8 (bt ((((((a0.deref.drop 1).hA).ix (0:Int)).hA).deref.hA).aj) 0)),VS (mk []),VI 0,r5,r6]] []))) (.call 147 [a0,VS (mk [42]),VI 3] [] fun r7 o7=>NB r7<|.test r7.toBool (NZ a0<|NZ a0<|mY (a0.deref.drop 1)<|NG ((a0.deref.drop 1).hA) 1 1<|gY (((a0.deref.drop 1).hA).ix (1:Int))<|.call 114 [((((a0.deref.drop 1).hA).ix (1:Int)).hA),a1] [] fun r8 o8=>NP r8<|NZ a0<|NZ a0<|mY (a0.deref.drop 1)<|NG ((a0.deref.drop 1).hA) 2 1<|gY (((a0.deref.drop 1).hA).ix (2:Int))<|.call 114 [((((a0.deref.drop 1).hA).ix (2:Int)).hA),a1] [] fun r9 o9=>NP r9<|NP r8<|.test r8.isNil (.done 0 [.v (.pointer none)] []) (NP r9<|.test r9.isNil (.done 0 [.v (.pointer none)] []) (NZ a0<|NZ a0<|mY (a0.deref.drop 1)<|NG ((a0.deref.drop 1).hA) 0 1<|gY (((a0.deref.drop 1).hA).ix (0:Int))<|NZ ((((a0.deref.drop 1).hA).ix (0:Int)).hA)<|NZ ((((a0.deref.drop 1).hA).ix (0:Int)).hA)<|.ak (LK.has .str (((((a0.deref.drop 1).hA).ix (0:Int)).hA).deref.hA)/\1<=(((((a0.deref.drop 1).hA).ix (0:Int)).hA).deref).length)<|.ak (0<=(0:Int)/\(0:Int)<ag ((((((a0.deref.drop 1).hA).ix (0:Int)).hA).deref.hA).aj))<|.done 0 [.ptr [.v (.int .u8 (bt ((((((a0.deref.drop 1).hA).ix (0:Int)).hA).deref.hA).aj) 0)),VS (mk []),VI 0,r8,r9]] []))) (.call 147 [a0,VS (mk [114,101,99]),VI 3] [] fun r10 o10=>NB r10<|.test r10.toBool (NZ a0<|NZ a0<|mY (a0.deref.drop 1)<|NG ((a0.deref.drop 1).hA) 1 1<|gY (((a0.deref.drop 1).hA).ix (1:Int))<|NZ ((((a0.deref.drop 1).hA).ix (1:Int)).hA)<|NZ ((((a0.deref.drop 1).hA).ix (1:Int)).hA)<|.ak (LK.has .str (((((a0.deref.drop 1).hA).ix (1:Int)).hA).deref.hA)/\1<=(((((a0.deref.drop 1).hA).ix (1:Int)).hA).deref).length)<|.call 146 [VS ((((((a0.deref.drop 1).hA).ix (1:Int)).hA).deref.hA).aj)] [] fun r11 o11=>NB r11<|.test r11.toBool (NZ a0<|NZ a0<|mY (a0.deref.drop 1)<|NG ((a0.deref.drop 1).hA) 2 1<|gY (((a0.deref.drop 1).hA).ix (2:Int))<|.ak (LK.has .sl a1/\cb 1 a1.aM/\((([]:List (List AV)).length)+a1.aM.length)*16<=140737488355328)<|NZ a0<|NZ a0<|mY (a0.deref.drop 1)<|NG ((a0.deref.drop 1).hA) 1 1<|gY (((a0.deref.drop 1).hA).ix (1:Int))<|NZ ((((a0.deref.drop 1).hA).ix (1:Int)).hA)<|NZ ((((a0.deref.drop 1).hA).ix (1:Int)).hA)<|.ak (LK.has .str (((((a0.deref.drop 1).hA).ix (1:Int)).hA).deref.hA)/\1<=(((((a0.deref.drop 1).hA).ix (1:Int)).hA).deref).length)<|.ak (cb 1 [[VS ((((((a0.deref.drop 1).hA).ix (1:Int)).hA).deref.hA).aj)]]/\(((([]:List (List AV))++a1.aM).length)+([[VS ((((((a0.deref.drop 1).hA).ix (1:Int)).hA).deref.hA).aj)]]:List (List AV)).length)*16<=140737488355328)<|.call 114 [((((a0.deref.drop 1).hA).ix (2:Int)).hA),.sl ((([]:List (List AV))++a1.aM)++([[VS ((((((a0.deref.drop 1).hA).ix (1:Int)).hA).deref.hA).aj)]]:List (List AV)))] [] fun r12 o12=>NP r12<|NP r12<|.test r12.isNil (.done 0 [.v (.pointer none)] []) (.done 0 [.ptr [.v (.int .u8 114),VS (mk []),VI 0,r12,.v (.pointer none)]] [])) (.done 0 [.v (.pointer none)] [])) (.done 0 [.v (.pointer none)] [])))))))
theorem Ka(a0:AV)(a1:AV)(ha0:LK.has .ptr a0)(ha1:LK.has .sl a1)(h:dH 160 (FG a0 a1) R):au Tryz.prog 114 [a0,a1] [] R :=
 uQ (ah (bX ha0) (ah (bT ha1) aD)) (oQ HY Tryz.f114 h)
def D6(x0:AV)(x1:AV)(x5:Int):Tree :=
 NP x0<|NL x1<|NI (VI x5)<|.test (decide (x5≥(0:Int))) (NG x1 x5 1<|oV (x1.ix x5)<|NZ x0<|NZ x0<|.ak (LK.has .str (x0.deref.hA)/\1<=x0.deref.length)<|.test (ac (((x1.ix x5).hA).aj)==ac ((x0.deref.hA).aj)) (NL x1<|.done 2 [] [.cells [.v (.int .u8 98),VS (mk []),VI (IntKind.wrap .i64 ((IntKind.wrap .i64 ((x1.aM.length:Int)-1))-x5)),.v (.pointer none),.v (.pointer none)]]) (.done 0 [x0,x1,VI (IntKind.wrap .i64 (x5-1))] [])) (.done 1 [x0] [])
abbrev Ds:=cm Tryz.prog 160 Kl DG
theorem HU(x0:AV)(x1:AV)(x5:Int)(h:kt 160 (D6 x0 x1 x5) Ds U):Ds [x0,x1,VI x5] [] U :=
 gQ HY h
def CB(a0:AV):Tree :=
 NZ a0<|NZ a0<|.ak (LK.has (.int .u8) (a0.deref.hA)/\1<=a0.deref.length)<|.test (((a0.deref.hA).toInt)==(43:Int)) (NZ a0<|NZ a0<|gY (a0.deref.drop 3)<|.call 115 [((a0.deref.drop 3).hA)] [] fun r1 o1=>NI r1<|NZ a0<|NZ a0<|gY (a0.deref.drop 4)<|.call 115 [((a0.deref.drop 4).hA)] [] fun r2 o2=>NI r2<|.done 0 [VI (IntKind.wrap .i64 ((IntKind.wrap .i64 (1+r1.toInt))+r2.toInt))] []) (.test (((a0.deref.hA).toInt)==(42:Int)) (NZ a0<|NZ a0<|gY (a0.deref.drop 3)<|.call 115 [((a0.deref.drop 3).hA)] [] fun r3 o3=>NI r3<|NZ a0<|NZ a0<|gY (a0.deref.drop 4)<|.call 115 [((a0.deref.drop 4).hA)] [] fun r4 o4=>NI r4<|.done 0 [VI (IntKind.wrap .i64 ((IntKind.wrap .i64 (1+r3.toInt))+r4.toInt))] []) (.test (((a0.deref.hA).toInt)==(114:Int)) (NZ a0<|NZ a0<|gY (a0.deref.drop 3)<|.call 115 [((a0.deref.drop 3).hA)] [] fun r5 o5=>NI r5<|.done 0 [VI (IntKind.wrap .i64 (2+r5.toInt))] []) (.done 0 [VI 1] [])))
theorem Et(a0:AV)(ha0:LK.has .ptr a0)(h:dH 30 (CB a0) R):au Tryz.prog 115 [a0] [] R :=
 uQ (ah (bX ha0) aD) (oQ [] Tryz.f115 h)
def Jh(a0:AV):Tree :=
 .call 150 [a0] [] fun r1 o1=>NL r1<|.call 153 [r1,.v (.func (.func 146) #[] #[])] [] fun r2 o2=>NB r2<|.done 0 [VB (!r2.toBool)] []
theorem LG(a0:AV)(ha0:LK.has .ptr a0)(h:dH 7 (Jh a0) R):au Tryz.prog 122 [a0] [] R :=
 uQ (ah (bX ha0) aD) (oQ [] Tryz.f122 h)
def Eu(a0:AV):Tree :=
 NZ a0<|NZ a0<|.ak (LK.has .str (a0.deref.hA)/\1<=a0.deref.length)<|.test (ac ((a0.deref.hA).aj)==ac (mk [117])) (.done 0 [.ptr [.v (.int .u8 117),VS (mk []),.v (.pointer none),.v (.pointer none)]] []) (NZ a0<|NZ a0<|.ak (LK.has .str (a0.deref.hA)/\1<=a0.deref.length)<|.call 154 [VS ((a0.deref.hA).aj)] [] fun r1 o1=>NB r1<|.test r1.toBool (NZ a0<|NZ a0<|.ak (LK.has .str (a0.deref.hA)/\1<=a0.deref.length)<|.done 0 [.ptr [.v (.int .u8 101),VS ((a0.deref.hA).aj),.v (.pointer none),.v (.pointer none)]] []) (.call 147 [a0,VS (mk [108]),VI 2] [] fun r2 o2=>NB r2<|.test r2.toBool (NZ a0<|NZ a0<|mY (a0.deref.drop 1)<|NG ((a0.deref.drop 1).hA) 1 1<|gY (((a0.deref.drop 1).hA).ix (1:Int))<|.call 123 [((((a0.deref.drop 1).hA).ix (1:Int)).hA)] [] fun r3 o3=>NP r3<|NP r3<|.test r3.isNil (.done 0 [.v (.pointer none)] []) (NZ a0<|NZ a0<|mY (a0.deref.drop 1)<|NG ((a0.deref.drop 1).hA) 0 1<|gY (((a0.deref.drop 1).hA).ix (0:Int))<|NZ ((((a0.deref.drop 1).hA).ix (0:Int)).hA)<|NZ ((((a0.deref.drop 1).hA).ix (0:Int)).hA)<|.ak (LK.has .str (((((a0.deref.drop 1).hA).ix (0:Int)).hA).deref.hA)/\1<=(((((a0.deref.drop 1).hA).ix (0:Int)).hA).deref).length)<|.ak (0<=(0:Int)/\(0:Int)<ag ((((((a0.deref.drop 1).hA).ix (0:Int)).hA).deref.hA).aj))<|.done 0 [.ptr [.v (.int .u8 (bt ((((((a0.deref.drop 1).hA).ix (0:Int)).hA).deref.hA).aj) 0)),VS (mk []),r3,.v (.pointer none)]] [])) (.call 147 [a0,VS (mk [114]),VI 2] [] fun r4 o4=>NB r4<|.test r4.toBool (NZ a0<|NZ a0<|mY (a0.deref.drop 1)<|NG ((a0.deref.drop 1).hA) 1 1<|gY (((a0.deref.drop 1).hA).ix (1:Int))<|.call 123 [((((a0.deref.drop 1).hA).ix (1:Int)).hA)] [] fun r5 o5=>NP r5<|NP r5<|.test r5.isNil (.done 0 [.v (.pointer none)] []) (NZ a0<|NZ a0<|mY (a0.deref.drop 1)<|NG ((a0.deref.drop 1).hA) 0 1<|gY (((a0.deref.drop 1).hA).ix (0:Int))<|NZ ((((a0.deref.drop 1).hA).ix (0:Int)).hA)<|NZ ((((a0.deref.drop 1).hA).ix (0:Int)).hA)<|.ak (LK.has .str (((((a0.deref.drop 1).hA).ix (0:Int)).hA).deref.hA)/\1<=(((((a0.deref.drop 1).hA).ix (0:Int)).hA).deref).length)<|.ak (0<=(0:Int)/\(0:Int)<ag ((((((a0.deref.drop 1).hA).ix (0:Int)).hA).deref.hA).aj))<|.done 0 [.ptr [.v (.int .u8 (bt ((((((a0.deref.drop 1).hA).ix (0:Int)).hA).deref.hA).aj) 0)),VS (mk []),r5,.v (.pointer none)]] [])) (.call 147 [a0,VS (mk [102]),VI 2] [] fun r6 o6=>NB r6<|.test r6.toBool (NZ a0<|NZ a0<|mY (a0.deref.drop 1)<|NG ((a0.deref.drop 1).hA) 1 1<|gY (((a0.deref.drop 1).hA).ix (1:Int))<|.call 123 [((((a0.deref.drop 1).hA).ix (1:Int)).hA)] [] fun r7 o7=>NP r7<|NP r7<|.test r7.isNil (.done 0 [.v (.pointer none)] []) (NZ a0<|NZ a0<|mY (a0.deref.drop 1)<|NG ((a0.deref.drop 1).hA) 0 1<|gY (((a0.deref.drop 1).hA).ix (0:Int))<|NZ ((((a0.deref.drop 1).hA).ix (0:Int)).hA)<|NZ ((((a0.deref.drop 1).hA).ix (0:Int)).hA)<|.ak (LK.has .str (((((a0.deref.drop 1).hA).ix (0:Int)).hA).deref.hA)/\1<=(((((a0.deref.drop 1).hA).ix (0:Int)).hA).deref).length)<|.ak (0<=(0:Int)/\(0:Int)<ag ((((((a0.deref.drop 1).hA).ix (0:Int)).hA).deref.hA).aj))<|.done 0 [.ptr [.v (.int .u8 (bt ((((((a0.deref.drop 1).hA).ix (0:Int)).hA).deref.hA).aj) 0)),VS (mk []),r7,.v (.pointer none)]] [])) (.call 147 [a0,VS (mk [112]),VI 3] [] fun r8 o8=>NB r8<|.test r8.toBool (NZ a0<|NZ a0<|mY (a0.deref.drop 1)<|NG ((a0.deref.drop 1).hA) 1 1<|gY (((a0.deref.drop 1).hA).ix (1:Int))<|.call 123 [((((a0.deref.drop 1).hA).ix (1:Int)).hA)] [] fun r9 o9=>NP r9<|NZ a0<|NZ a0<|mY (a0.deref.drop 1)<|NG ((a0.deref.drop 1).hA) 2 1<|gY (((a0.deref.drop 1).hA).ix (2:Int))<|.call 123 [((((a0.deref.drop 1).hA).ix (2:Int)).hA)] [] fun r10 o10=>NP r10<|NP r9<|.test r9.isNil (.done 0 [.v (.pointer none)] []) (NP r10<|.test r10.isNil (.done 0 [.v (.pointer none)] []) (.call 132 [r9,r10] [] fun r11 o11=>NP r11<|.done 0 [r11] []))) (.done 0 [.v (.pointer none)] []))))))
theorem Hf(a0:AV)(ha0:LK.has .ptr a0)(h:dH 85 (Eu a0) R):au Tryz.prog 123 [a0] [] R :=
 uQ (ah (bX ha0) aD) (oQ [] Tryz.f123 h)
def CT:LI:={hd:={bI:=[(3,.k .ptr),(10,.k (.int .i64)),(11,.k (.int .i64))]},xs:={bI:=[(3,.k .ptr)]},rt:={},ex:=0}
def G9:Code:=cC (cw Tryz.f125) 3
def Gu:List (Nat×LI):=[(3,CT)]
def Ed(a0_0:AV)(a0_1:AV):Tree :=
 NZ a0_0<|NZ a0_0<|.ak (LK.has (.int .i64) ((a0_0.deref.drop 2).hA)/\1<=(a0_0.deref.drop 2).length)<|.loop G9 CT [a0_1,VI (((a0_0.deref.drop 2).hA).toInt),VI 0] [] (fun y1 q1=>NP (y1.hA)<|NZ (y1.hA)<|NZ (y1.hA)<|.ak (LK.has .ptr ((y1.hA).deref.hA)/\1<=((y1.hA).deref).length)<|.done 0 [((y1.hA).deref.hA)] []) (fun y1 q1=>.done 0 [.any] [])
theorem JH(a0_0:AV)(a0_1:AV)(ha0_0:LK.has .ptr a0_0)(ha0_1:LK.has .ptr a0_1)(h:dH 22 (Ed a0_0 a0_1) R):au Tryz.prog 125 [.agg [a0_0,a0_1]] [] R :=
 uQ (ah (cG (ah (bX ha0_0) (ah (bX ha0_1) aD))) aD) (oQ Gu Tryz.f125 h)
def zN(x3:AV)(x10:Int)(x11:Int):Tree :=
 NP x3<|NI (VI x10)<|NI (VI x11)<|.test (decide (x11<x10)) (NZ x3<|NZ x3<|gY (x3.deref.drop 1)<|.done 0 [((x3.deref.drop 1).hA),VI x10,VI (IntKind.wrap .i64 (x11+1))] []) (.done 1 [x3] [])
abbrev Bp:=cm Tryz.prog 22 G9 CT
theorem A6(x3:AV)(x10:Int)(x11:Int)(h:kt 22 (zN x3 x10 x11) Bp U):Bp [x3,VI x10,VI x11] [] U :=
 gQ Gu h
def Gf(a0_0:AV)(a0_1:AV):Tree :=
 NZ a0_0<|NZ a0_0<|gY (a0_0.deref.drop 3)<|.done 0 [.agg [((a0_0.deref.drop 3).hA),a0_1]] []
theorem M5(a0_0:AV)(a0_1:AV)(ha0_0:LK.has .ptr a0_0)(ha0_1:LK.has .ptr a0_1)(h:dH 11 (Gf a0_0 a0_1) R):au Tryz.prog 126 [.agg [a0_0,a0_1]] [] R :=
 uQ (ah (cG (ah (bX ha0_0) (ah (bX ha0_1) aD))) aD) (oQ [] Tryz.f126 h)
def Gq(a0_0:AV)(a0_1:AV):Tree :=
 NZ a0_0<|NZ a0_0<|gY (a0_0.deref.drop 4)<|.done 0 [.agg [((a0_0.deref.drop 4).hA),a0_1]] []
theorem LQ(a0_0:AV)(a0_1:AV)(ha0_0:LK.has .ptr a0_0)(ha0_1:LK.has .ptr a0_1)(h:dH 11 (Gq a0_0 a0_1) R):au Tryz.prog 127 [.agg [a0_0,a0_1]] [] R :=
 uQ (ah (cG (ah (bX ha0_0) (ah (bX ha0_1) aD))) aD) (oQ [] Tryz.f127 h)
def AF(a0_0:ByteArray)(a0_1:AV)(a1_0:AV)(a1_1:AV):Tree :=
 NP a0_1<|.test (!a0_1.isNil) (NZ a1_0<|NZ a1_0<|.ak (LK.has (.int .u8) (a1_0.deref.hA)/\1<=a1_0.deref.length)<|.test (((a1_0.deref.hA).toInt)==(98:Int)) (.call 125 [.agg [a1_0,a1_1]] [] fun r1 o1=>NP r1<|.ak (AV.pY r1/\AV.pY a0_1)<|.done 0 [VB (AV.yG r1 a0_1)] []) (.done 0 [VB false] [])) (NZ a1_0<|NZ a1_0<|.ak (LK.has (.int .u8) (a1_0.deref.hA)/\1<=a1_0.deref.length)<|.test (((a1_0.deref.hA).toInt)==(110:Int)) (NZ a1_0<|NZ a1_0<|oV (a1_0.deref.drop 1)<|.done 0 [VB (ac (((a1_0.deref.drop 1).hA).aj)==ac a0_0)] []) (.done 0 [VB false] []))
theorem MR(a0_0:ByteArray)(a0_1:AV)(a1_0:AV)(a1_1:AV)(ha0_1:LK.has .ptr a0_1)(ha1_0:LK.has .ptr a1_0)(ha1_1:LK.has .ptr a1_1)(h:dH 37 (AF a0_0 a0_1 a1_0 a1_1) R):au Tryz.prog 128 [.agg [VS a0_0,a0_1],.agg [a1_0,a1_1]] [] R :=
 uQ (ah (cG (ah (aC _) (ah (bX ha0_1) aD))) (ah (cG (ah (bX ha1_0) (ah (bX ha1_1) aD))) aD)) (oQ [] Tryz.f128 h)
def Dq:LI:={hd:={bI:=[(7,.k .sl),(8,.k (.int .i64)),(9,.k (.int .i64))],refs:=[(2,1)],cd:=[(0,[.lk .ptr]),(1,[.vec 2])],zQ:=[(1,130,[0])]},xs:={cd:=[(0,[.lk .ptr]),(1,[.vec 2])]},rt:={cd:=[(0,[.lk .ptr]),(1,[.vec 2])]},ex:=0,fx:=[0,1]}
def K3:Code:=cC (cw Tryz.f129) 1
def IX:List (Nat×LI):=[(1,Dq)]
def HS(a0:AV)(a1_0_0:AV)(e2_0:List (List AV)):Tree :=
 NL a0<|.loop K3 Dq [a0,VI (a0.aM.length:Int),VI 0] [.cells [a1_0_0],.cells [.any],.vec 2 e2_0] (fun y2 q2=>.ak ((q2.hO)=.cells (q2.hO).cs)<|.ak (ae [.lk .ptr] ((q2.hO).cs) 0 q2.tail)<|.ak (((q2.tail.drop 0).hO)=.cells ((q2.tail.drop 0).hO).cs)<|.ak (ae [.vec 2] (((q2.tail.drop 0).hO).cs) 0 ((q2.tail.drop 0).tail))<|.done 0 [.any] [.cells [((q2.hO).cs.getD 0 .any)],.cells [.vec 2],.vec 2 ((q2.tail.tail.hO).es)]) (fun y2 q2=>.ak ((q2.hO)=.cells (q2.hO).cs)<|.ak (ae [.lk .ptr] ((q2.hO).cs) 0 q2.tail)<|.ak (((q2.tail.drop 0).hO)=.cells ((q2.tail.drop 0).hO).cs)<|.ak (ae [.vec 2] (((q2.tail.drop 0).hO).cs) 0 ((q2.tail.drop 0).tail))<|.done 0 [.any] [.cells [((q2.hO).cs.getD 0 .any)],.cells [.vec 2],.vec 2 ((q2.tail.tail.hO).es)])
theorem MQ(a0:AV)(a1_0_0:AV)(e2_0:List (List AV))(ha0:LK.has .sl a0)(ha1_0_0:LK.has .ptr a1_0_0)(h:dH 24 (HS a0 a1_0_0 e2_0) R):au Tryz.prog 129 [a0,.fn 130 [.ref 0 0],.ref 1 0] [.cells [a1_0_0],.cells [.vec 2],.vec 2 e2_0] R :=
 au.ox (bn (ca (ah (bX ha1_0_0) aD)) (bn (ca (ah (aC _) aD)) (bn (eT _) cu))) (au.up (ah (bT ha0) (ah (aC _) (ah (aC _) aD))) (oF IX {mu:=[(1,.fn [some (.obj [.lk .ptr])]),(2,.one (.obj [.vec 2]))],own:=[]} Tryz.f129 h))
def D4(x7:AV)(x8:Int)(x9:Int)(o0_0:AV)(o1_0:List (List AV)):Tree :=
 NL x7<|NI (VI x8)<|NI (VI x9)<|.ak (Ob.cells [o0_0]=.cells [o0_0])<|.ak (ae [.lk .ptr] [o0_0] 0 [.cells [.any],.vec 2 o1_0])<|.ak (Ob.cells [.any]=.cells [.any])<|.ak (ae [.vec 2] [.any] 0 [.vec 2 o1_0])<|.test (decide (x9<x8)) (NG x7 x9 2<|.ak (bY [.ptr,.ptr] (x7.ix x9) 0/\2<=(x7.ix x9).length)<|.call 130 [((x7.ix x9).getD 0 .any),.ref 0 0] [.cells [o0_0]] fun r1 o1=>.ak ((o1.hO)=.cells (o1.hO).cs)<|.ak (aO [.lk .ptr] ((o1.hO).cs) 0 1 o1.tail)<|NP r1<|.ak (cb 2 [[r1,((x7.ix x9).getD 1 .any)]]/\((o1_0.length)+([[r1,((x7.ix x9).getD 1 .any)]]:List (List AV)).length)*16<=140737488355328)<|.done 0 [x7,VI x8,VI (IntKind.wrap .i64 (x9+1))] [.cells [((o1.hO).cs.getD 0 .any)],.cells [.any],.vec 2 (o1_0++([[r1,((x7.ix x9).getD 1 .any)]]:List (List AV)))]) (.done 1 [] [.cells [o0_0],.cells [.any],.vec 2 o1_0])
abbrev Ej:=cm Tryz.prog 24 K3 Dq
theorem KQ(x7:AV)(x8:Int)(x9:Int)(o0_0:AV)(o1_0:List (List AV))(h:kt 24 (D4 x7 x8 x9 o0_0 o1_0) Ej U):Ej [x7,VI x8,VI x9] [.cells [o0_0],.cells [.any],.vec 2 o1_0] U :=
 gQ IX h
def EF:LI:={hd:={bI:=[(7,.k .sl),(8,.k (.int .i64)),(9,.k (.int .i64))],refs:=[(2,1)],cd:=[(0,[.lk .ptr]),(1,[.vec 2])],zQ:=[(1,131,[0])]},xs:={cd:=[(0,[.lk .ptr]),(1,[.vec 2])]},rt:={cd:=[(0,[.lk .ptr]),(1,[.vec 2])]},ex:=0,fx:=[0,1]}
def JY:Code:=cC (cw Tryz.f129) 1
def K1:List (Nat×LI):=[(1,EF)]
def Ie(a0:AV)(a1_0_0:AV)(e2_0:List (List AV)):Tree :=
 NL a0<|.loop JY EF [a0,VI (a0.aM.length:Int),VI 0] [.cells [a1_0_0],.cells [.any],.vec 2 e2_0] (fun y2 q2=>.ak ((q2.hO)=.cells (q2.hO).cs)<|.ak (ae [.lk .ptr] ((q2.hO).cs) 0 q2.tail)<|.ak (((q2.tail.drop 0).hO)=.cells ((q2.tail.drop 0).hO).cs)<|.ak (ae [.vec 2] (((q2.tail.drop 0).hO).cs) 0 ((q2.tail.drop 0).tail))<|.done 0 [.any] [.cells [((q2.hO).cs.getD 0 .any)],.cells [.vec 2],.vec 2 ((q2.tail.tail.hO).es)]) (fun y2 q2=>.ak ((q2.hO)=.cells (q2.hO).cs)<|.ak (ae [.lk .ptr] ((q2.hO).cs) 0 q2.tail)<|.ak (((q2.tail.drop 0).hO)=.cells ((q2.tail.drop 0).hO).cs)<|.ak (ae [.vec 2] (((q2.tail.drop 0).hO).cs) 0 ((q2.tail.drop 0).tail))<|.done 0 [.any] [.cells [((q2.hO).cs.getD 0 .any)],.cells [.vec 2],.vec 2 ((q2.tail.tail.hO).es)])
theorem LO(a0:AV)(a1_0_0:AV)(e2_0:List (List AV))(ha0:LK.has .sl a0)(ha1_0_0:LK.has .ptr a1_0_0)(h:dH 24 (Ie a0 a1_0_0 e2_0) R):au Tryz.prog 129 [a0,.fn 131 [.ref 0 0],.ref 1 0] [.cells [a1_0_0],.cells [.vec 2],.vec 2 e2_0] R :=
 au.ox (bn (ca (ah (bX ha1_0_0) aD)) (bn (ca (ah (aC _) aD)) (bn (eT _) cu))) (au.up (ah (bT ha0) (ah (aC _) (ah (aC _) aD))) (oF K1 {mu:=[(1,.fn [some (.obj [.lk .ptr])]),(2,.one (.obj [.vec 2]))],own:=[]} Tryz.f129 h))
def FI(x7:AV)(x8:Int)(x9:Int)(o0_0:AV)(o1_0:List (List AV)):Tree :=
 NL x7<|NI (VI x8)<|NI (VI x9)<|.ak (Ob.cells [o0_0]=.cells [o0_0])<|.ak (ae [.lk .ptr] [o0_0] 0 [.cells [.any],.vec 2 o1_0])<|.ak (Ob.cells [.any]=.cells [.any])<|.ak (ae [.vec 2] [.any] 0 [.vec 2 o1_0])<|.test (decide (x9<x8)) (NG x7 x9 2<|.ak (bY [.ptr,.ptr] (x7.ix x9) 0/\2<=(x7.ix x9).length)<|.call 131 [((x7.ix x9).getD 0 .any),.ref 0 0] [.cells [o0_0]] fun r1 o1=>.ak ((o1.hO)=.cells (o1.hO).cs)<|.ak (aO [.lk .ptr] ((o1.hO).cs) 0 1 o1.tail)<|NP r1<|.ak (cb 2 [[r1,((x7.ix x9).getD 1 .any)]]/\((o1_0.length)+([[r1,((x7.ix x9).getD 1 .any)]]:List (List AV)).length)*16<=140737488355328)<|.done 0 [x7,VI x8,VI (IntKind.wrap .i64 (x9+1))] [.cells [((o1.hO).cs.getD 0 .any)],.cells [.any],.vec 2 (o1_0++([[r1,((x7.ix x9).getD 1 .any)]]:List (List AV)))]) (.done 1 [] [.cells [o0_0],.cells [.any],.vec 2 o1_0])
abbrev DX:=cm Tryz.prog 24 JY EF
theorem HD(x7:AV)(x8:Int)(x9:Int)(o0_0:AV)(o1_0:List (List AV))(h:kt 24 (FI x7 x8 x9 o0_0 o1_0) DX U):DX [x7,VI x8,VI x9] [.cells [o0_0],.cells [.any],.vec 2 o1_0] U :=
 gQ K1 h
def D7:LI:={hd:={bI:=[(7,.k .sl),(8,.k (.int .i64)),(9,.k (.int .i64))],refs:=[(2,1)],cd:=[(0,[.lk .ptr]),(1,[.vec 2])],zQ:=[(1,133,[0])]},xs:={cd:=[(0,[.lk .ptr]),(1,[.vec 2])]},rt:={cd:=[(0,[.lk .ptr]),(1,[.vec 2])]},ex:=0,fx:=[0,1]}
def I6:Code:=cC (cw Tryz.f129) 1
def Io:List (Nat×LI):=[(1,D7)]
def KB(a0:AV)(a1_0_0:AV)(e2_0:List (List AV)):Tree :=
 NL a0<|.loop I6 D7 [a0,VI (a0.aM.length:Int),VI 0] [.cells [a1_0_0],.cells [.any],.vec 2 e2_0] (fun y2 q2=>.ak ((q2.hO)=.cells (q2.hO).cs)<|.ak (ae [.lk .ptr] ((q2.hO).cs) 0 q2.tail)<|.ak (((q2.tail.drop 0).hO)=.cells ((q2.tail.drop 0).hO).cs)<|.ak (ae [.vec 2] (((q2.tail.drop 0).hO).cs) 0 ((q2.tail.drop 0).tail))<|.done 0 [.any] [.cells [((q2.hO).cs.getD 0 .any)],.cells [.vec 2],.vec 2 ((q2.tail.tail.hO).es)]) (fun y2 q2=>.ak ((q2.hO)=.cells (q2.hO).cs)<|.ak (ae [.lk .ptr] ((q2.hO).cs) 0 q2.tail)<|.ak (((q2.tail.drop 0).hO)=.cells ((q2.tail.drop 0).hO).cs)<|.ak (ae [.vec 2] (((q2.tail.drop 0).hO).cs) 0 ((q2.tail.drop 0).tail))<|.done 0 [.any] [.cells [((q2.hO).cs.getD 0 .any)],.cells [.vec 2],.vec 2 ((q2.tail.tail.hO).es)])
theorem N1(a0:AV)(a1_0_0:AV)(e2_0:List (List AV))(ha0:LK.has .sl a0)(ha1_0_0:LK.has .ptr a1_0_0)(h:dH 24 (KB a0 a1_0_0 e2_0) R):au Tryz.prog 129 [a0,.fn 133 [.ref 0 0],.ref 1 0] [.cells [a1_0_0],.cells [.vec 2],.vec 2 e2_0] R :=
 au.ox (bn (ca (ah (bX ha1_0_0) aD)) (bn (ca (ah (aC _) aD)) (bn (eT _) cu))) (au.up (ah (bT ha0) (ah (aC _) (ah (aC _) aD))) (oF Io {mu:=[(1,.fn [some (.obj [.lk .ptr])]),(2,.one (.obj [.vec 2]))],own:=[]} Tryz.f129 h))
def Dy(x7:AV)(x8:Int)(x9:Int)(o0_0:AV)(o1_0:List (List AV)):Tree :=
 NL x7<|NI (VI x8)<|NI (VI x9)<|.ak (Ob.cells [o0_0]=.cells [o0_0])<|.ak (ae [.lk .ptr] [o0_0] 0 [.cells [.any],.vec 2 o1_0])<|.ak (Ob.cells [.any]=.cells [.any])<|.ak (ae [.vec 2] [.any] 0 [.vec 2 o1_0])<|.test (decide (x9<x8)) (NG x7 x9 2<|.ak (bY [.ptr,.ptr] (x7.ix x9) 0/\2<=(x7.ix x9).length)<|.call 133 [((x7.ix x9).getD 0 .any),.ref 0 0] [.cells [o0_0]] fun r1 o1=>.ak ((o1.hO)=.cells (o1.hO).cs)<|.ak (aO [.lk .ptr] ((o1.hO).cs) 0 1 o1.tail)<|NP r1<|.ak (cb 2 [[r1,((x7.ix x9).getD 1 .any)]]/\((o1_0.length)+([[r1,((x7.ix x9).getD 1 .any)]]:List (List AV)).length)*16<=140737488355328)<|.done 0 [x7,VI x8,VI (IntKind.wrap .i64 (x9+1))] [.cells [((o1.hO).cs.getD 0 .any)],.cells [.any],.vec 2 (o1_0++([[r1,((x7.ix x9).getD 1 .any)]]:List (List AV)))]) (.done 1 [] [.cells [o0_0],.cells [.any],.vec 2 o1_0])
abbrev FV:=cm Tryz.prog 24 I6 D7
theorem I2(x7:AV)(x8:Int)(x9:Int)(o0_0:AV)(o1_0:List (List AV))(h:kt 24 (Dy x7 x8 x9 o0_0 o1_0) FV U):FV [x7,VI x8,VI x9] [.cells [o0_0],.cells [.any],.vec 2 o1_0] U :=
 gQ Io h
def D8:LI:={hd:={bI:=[(1,.c (.func (.func 134) #[] #[])),(7,.k .sl),(8,.k (.int .i64)),(9,.k (.int .i64))],refs:=[(2,0)],cd:=[(0,[.vec 2])]},xs:={cd:=[(0,[.vec 2])]},rt:={cd:=[(0,[.vec 2])]},ex:=0,fx:=[0]}
def Hg:Code:=cC (cw Tryz.f129) 1
def HN:List (Nat×LI):=[(1,D8)]
def GA(a0:AV)(e2_0:List (List AV)):Tree :=
 NL a0<|.loop Hg D8 [.v (.func (.func 134) #[] #[]),a0,VI (a0.aM.length:Int),VI 0] [.cells [.any],.vec 2 e2_0] (fun y2 q2=>.ak ((q2.hO)=.cells (q2.hO).cs)<|.ak (ae [.vec 2] ((q2.hO).cs) 0 q2.tail)<|.done 0 [.any] [.cells [.vec 1],.vec 2 ((q2.tail.hO).es)]) (fun y2 q2=>.ak ((q2.hO)=.cells (q2.hO).cs)<|.ak (ae [.vec 2] ((q2.hO).cs) 0 q2.tail)<|.done 0 [.any] [.cells [.vec 1],.vec 2 ((q2.tail.hO).es)])
theorem MW(a0:AV)(e2_0:List (List AV))(ha0:LK.has .sl a0)(h:dH 24 (GA a0 e2_0) R):au Tryz.prog 129 [a0,.v (.func (.func 134) #[] #[]),.ref 0 0] [.cells [.vec 1],.vec 2 e2_0] R :=
 au.ox (bn (ca (ah (aC _) aD)) (bn (eT _) cu)) (au.up (ah (bT ha0) (ah (aC _) (ah (aC _) aD))) (oF HN {mu:=[(2,.one (.obj [.vec 2]))],own:=[]} Tryz.f129 h))
def Eo(x7:AV)(x8:Int)(x9:Int)(o0_0:List (List AV)):Tree :=
 .ak (AV.v (.func (.func 134) #[] #[])=.v (.func (.func 134) #[] #[]))<|NL x7<|NI (VI x8)<|NI (VI x9)<|.ak (Ob.cells [.any]=.cells [.any])<|.ak (ae [.vec 2] [.any] 0 [.vec 2 o0_0])<|.test (decide (x9<x8)) (NG x7 x9 2<|.ak (bY [.ptr,.ptr] (x7.ix x9) 0/\2<=(x7.ix x9).length)<|.call 134 [((x7.ix x9).getD 0 .any)] [] fun r1 o1=>NP r1<|.ak (cb 2 [[r1,((x7.ix x9).getD 1 .any)]]/\((o0_0.length)+([[r1,((x7.ix x9).getD 1 .any)]]:List (List AV)).length)*16<=140737488355328)<|.done 0 [.v (.func (.func 134) #[] #[]),x7,VI x8,VI (IntKind.wrap .i64 (x9+1))] [.cells [.any],.vec 2 (o0_0++([[r1,((x7.ix x9).getD 1 .any)]]:List (List AV)))]) (.done 1 [] [.cells [.any],.vec 2 o0_0])
abbrev D0:=cm Tryz.prog 24 Hg D8
theorem Gk(x7:AV)(x8:Int)(x9:Int)(o0_0:List (List AV))(h:kt 24 (Eo x7 x8 x9 o0_0) D0 U):D0 [.v (.func (.func 134) #[] #[]),x7,VI x8,VI x9] [.cells [.any],.vec 2 o0_0] U :=
 gQ HN h
def CL:LI:={hd:={bI:=[(7,.k .sl),(8,.k (.int .i64)),(9,.k (.int .i64))],refs:=[(2,1)],cd:=[(0,[.lk .ptr,.lk .ptr]),(1,[.vec 2])],zQ:=[(1,135,[0])]},xs:={cd:=[(0,[.lk .ptr,.lk .ptr]),(1,[.vec 2])]},rt:={cd:=[(0,[.lk .ptr,.lk .ptr]),(1,[.vec 2])]},ex:=0,fx:=[0,1]}
def Im:Code:=cC (cw Tryz.f129) 1
def JB:List (Nat×LI):=[(1,CL)]
def Ke(a0:AV)(a1_0_0:AV)(a1_0_1:AV)(e2_0:List (List AV)):Tree :=
 NL a0<|.loop Im CL [a0,VI (a0.aM.length:Int),VI 0] [.cells [a1_0_0,a1_0_1],.cells [.any],.vec 2 e2_0] (fun y2 q2=>.ak ((q2.hO)=.cells (q2.hO).cs)<|.ak (ae [.lk .ptr,.lk .ptr] ((q2.hO).cs) 0 q2.tail)<|.ak (((q2.tail.drop 0).hO)=.cells ((q2.tail.drop 0).hO).cs)<|.ak (ae [.vec 2] (((q2.tail.drop 0).hO).cs) 0 ((q2.tail.drop 0).tail))<|.done 0 [.any] [.cells [((q2.hO).cs.getD 0 .any),((q2.hO).cs.getD 1 .any)],.cells [.vec 2],.vec 2 ((q2.tail.tail.hO).es)]) (fun y2 q2=>.ak ((q2.hO)=.cells (q2.hO).cs)<|.ak (ae [.lk .ptr,.lk .ptr] ((q2.hO).cs) 0 q2.tail)<|.ak (((q2.tail.drop 0).hO)=.cells ((q2.tail.drop 0).hO).cs)<|.ak (ae [.vec 2] (((q2.tail.drop 0).hO).cs) 0 ((q2.tail.drop 0).tail))<|.done 0 [.any] [.cells [((q2.hO).cs.getD 0 .any),((q2.hO).cs.getD 1 .any)],.cells [.vec 2],.vec 2 ((q2.tail.tail.hO).es)])
theorem Lm(a0:AV)(a1_0_0:AV)(a1_0_1:AV)(e2_0:List (List AV))(ha0:LK.has .sl a0)(ha1_0_0:LK.has .ptr a1_0_0)(ha1_0_1:LK.has .ptr a1_0_1)(h:dH 24 (Ke a0 a1_0_0 a1_0_1 e2_0) R):au Tryz.prog 129 [a0,.fn 135 [.ref 0 0],.ref 1 0] [.cells [a1_0_0,a1_0_1],.cells [.vec 2],.vec 2 e2_0] R :=
 au.ox (bn (ca (ah (bX ha1_0_0) (ah (bX ha1_0_1) aD))) (bn (ca (ah (aC _) aD)) (bn (eT _) cu))) (au.up (ah (bT ha0) (ah (aC _) (ah (aC _) aD))) (oF JB {mu:=[(1,.fn [some (.obj [.lk .ptr,.lk .ptr])]),(2,.one (.obj [.vec 2]))],own:=[]} Tryz.f129 h))
def Ew(x7:AV)(x8:Int)(x9:Int)(o0_0:AV)(o0_1:AV)(o1_0:List (List AV)):Tree :=
 NL x7<|NI (VI x8)<|NI (VI x9)<|.ak (Ob.cells [o0_0,o0_1]=.cells [o0_0,o0_1])<|.ak (ae [.lk .ptr,.lk .ptr] [o0_0,o0_1] 0 [.cells [.any],.vec 2 o1_0])<|.ak (Ob.cells [.any]=.cells [.any])<|.ak (ae [.vec 2] [.any] 0 [.vec 2 o1_0])<|.test (decide (x9<x8)) (NG x7 x9 2<|.ak (bY [.ptr,.ptr] (x7.ix x9) 0/\2<=(x7.ix x9).length)<|.call 135 [((x7.ix x9).getD 0 .any),.ref 0 0] [.cells [o0_0,o0_1]] fun r1 o1=>.ak ((o1.hO)=.cells (o1.hO).cs)<|.ak (aO [.lk .ptr,.lk .ptr] ((o1.hO).cs) 0 1 o1.tail)<|NP r1<|.ak (cb 2 [[r1,((x7.ix x9).getD 1 .any)]]/\((o1_0.length)+([[r1,((x7.ix x9).getD 1 .any)]]:List (List AV)).length)*16<=140737488355328)<|.done 0 [x7,VI x8,VI (IntKind.wrap .i64 (x9+1))] [.cells [((o1.hO).cs.getD 0 .any),((o1.hO).cs.getD 1 .any)],.cells [.any],.vec 2 (o1_0++([[r1,((x7.ix x9).getD 1 .any)]]:List (List AV)))]) (.done 1 [] [.cells [o0_0,o0_1],.cells [.any],.vec 2 o1_0])
abbrev Fj:=cm Tryz.prog 24 Im CL
theorem IV(x7:AV)(x8:Int)(x9:Int)(o0_0:AV)(o0_1:AV)(o1_0:List (List AV))(h:kt 24 (Ew x7 x8 x9 o0_0 o0_1 o1_0) Fj U):Fj [x7,VI x8,VI x9] [.cells [o0_0,o0_1],.cells [.any],.vec 2 o1_0] U :=
 gQ JB h
def CQ(a0:AV)(a1_0:AV):Tree :=
 NZ a1_0<|NZ a1_0<|.ak (LK.has (.int .u8) (a1_0.deref.hA)/\1<=a1_0.deref.length)<|.call 95 [.v (.int .u8 ((a1_0.deref.hA).toInt)),a0] [] fun r1 o1=>NP r1<|.done 0 [r1] [.cells [a1_0]]
theorem Ip(a0:AV)(a1_0:AV)(ha0:LK.has .ptr a0)(ha1_0:LK.has .ptr a1_0)(h:dH 10 (CQ a0 a1_0) R):au Tryz.prog 130 [a0,.ref 0 0] [.cells [a1_0]] R :=
 au.ox (bn (ca (ah (bX ha1_0) aD)) cu) (au.up (ah (bX ha0) (ah (aC _) aD)) (oF [] {mu:=[(1,.one (.obj [.lk .ptr]))],own:=[]} Tryz.f130 h))
def Iq(a0:AV)(a1_0:AV):Tree :=
 NZ a1_0<|NZ a1_0<|gY (a1_0.deref.drop 3)<|.call 132 [a0,((a1_0.deref.drop 3).hA)] [] fun r1 o1=>NP r1<|.call 95 [.v (.int .u8 108),r1] [] fun r2 o2=>NP r2<|.done 0 [r2] [.cells [a1_0]]
theorem Nu(a0:AV)(a1_0:AV)(ha0:LK.has .ptr a0)(ha1_0:LK.has .ptr a1_0)(h:dH 11 (Iq a0 a1_0) R):au Tryz.prog 131 [a0,.ref 0 0] [.cells [a1_0]] R :=
 au.ox (bn (ca (ah (bX ha1_0) aD)) cu) (au.up (ah (bX ha0) (ah (aC _) aD)) (oF [] {mu:=[(1,.one (.obj [.lk .ptr]))],own:=[]} Tryz.f131 h))
def KS(a0:AV)(a1:AV):Tree :=
 .done 0 [.ptr [.v (.int .u8 112),VS (mk []),a0,a1]] []
theorem Nq(a0:AV)(a1:AV)(ha0:LK.has .ptr a0)(ha1:LK.has .ptr a1)(h:dH 9 (KS a0 a1) R):au Tryz.prog 132 [a0,a1] [] R :=
 uQ (ah (bX ha0) (ah (bX ha1) aD)) (oQ [] Tryz.f132 h)
def KI(a0:AV)(a1_0:AV):Tree :=
 NZ a1_0<|NZ a1_0<|gY (a1_0.deref.drop 2)<|.call 132 [((a1_0.deref.drop 2).hA),a0] [] fun r1 o1=>NP r1<|.call 95 [.v (.int .u8 114),r1] [] fun r2 o2=>NP r2<|.done 0 [r2] [.cells [a1_0]]
theorem Ls(a0:AV)(a1_0:AV)(ha0:LK.has .ptr a0)(ha1_0:LK.has .ptr a1_0)(h:dH 11 (KI a0 a1_0) R):au Tryz.prog 133 [a0,.ref 0 0] [.cells [a1_0]] R :=
 au.ox (bn (ca (ah (bX ha1_0) aD)) cu) (au.up (ah (bX ha0) (ah (aC _) aD)) (oF [] {mu:=[(1,.one (.obj [.lk .ptr]))],own:=[]} Tryz.f133 h))
def Gc(a0:AV):Tree :=
 .call 95 [.v (.int .u8 108),a0] [] fun r1 o1=>NP r1<|.call 95 [.v (.int .u8 102),r1] [] fun r2 o2=>NP r2<|.done 0 [r2] []
theorem M3(a0:AV)(ha0:LK.has .ptr a0)(h:dH 6 (Gc a0) R):au Tryz.prog 134 [a0] [] R :=
 uQ (ah (bX ha0) aD) (oQ [] Tryz.f134 h)
def GH(a0:AV)(a1_0:AV)(a1_1:AV):Tree :=
 .call 132 [a1_0,a0] [] fun r1 o1=>NP r1<|.call 95 [.v (.int .u8 114),r1] [] fun r2 o2=>NP r2<|.call 95 [.v (.int .u8 102),r2] [] fun r3 o3=>NP r3<|.done 0 [r3] [.cells [a1_0,a1_1]]
theorem Of(a0:AV)(a1_0:AV)(a1_1:AV)(ha0:LK.has .ptr a0)(ha1_0:LK.has .ptr a1_0)(ha1_1:LK.has .ptr a1_1)(h:dH 10 (GH a0 a1_0 a1_1) R):au Tryz.prog 135 [a0,.ref 0 0] [.cells [a1_0,a1_1]] R :=
 au.ox (bn (ca (ah (bX ha1_0) (ah (bX ha1_1) aD))) cu) (au.up (ah (bX ha0) (ah (aC _) aD)) (oF [] {mu:=[(1,.one (.obj [.lk .ptr,.lk .ptr]))],own:=[]} Tryz.f135 h))
def FT(a0_0:ByteArray)(a0_1:AV):Tree :=
 .test (!(ac a0_0==ac (mk []))) (.test (ac a0_0==ac (mk [48])) (.done 0 [VB true] []) (.test (ac a0_0==ac (mk [49])) (.done 0 [VB true] []) (.call 101 [VS a0_0] [] fun r1 o1=>NB r1<|.test r1.toBool (.done 0 [VB true] []) (.call 99 [VS a0_0] [] fun r2 o2=>NB r2<|.done 0 [VB r2.toBool] [])))) (NL a0_1<|.test ((a0_1.aM.length:Int) != (3:Int)) (.done 0 [VB false] []) (.call 71 [.agg [VS a0_0,a0_1]] [] fun r3 o3=>NS r3<|.test (ac r3.aj==ac (mk [43])) (NG a0_1 1 2<|NE (a0_1.ix (1:Int))<|.call 138 [.agg [VS (((a0_1.ix (1:Int)).getD 0 .any).aj),((a0_1.ix (1:Int)).getD 1 .any)]] [] fun r4 o4=>NB r4<|.test r4.toBool (NG a0_1 2 2<|NE (a0_1.ix (2:Int))<|.call 138 [.agg [VS (((a0_1.ix (2:Int)).getD 0 .any).aj),((a0_1.ix (2:Int)).getD 1 .any)]] [] fun r5 o5=>NB r5<|.done 0 [VB r5.toBool] []) (.done 0 [VB false] [])) (.test (ac r3.aj==ac (mk [42])) (NG a0_1 1 2<|NE (a0_1.ix (1:Int))<|.call 138 [.agg [VS (((a0_1.ix (1:Int)).getD 0 .any).aj),((a0_1.ix (1:Int)).getD 1 .any)]] [] fun r6 o6=>NB r6<|.test r6.toBool (NG a0_1 2 2<|NE (a0_1.ix (2:Int))<|.call 138 [.agg [VS (((a0_1.ix (2:Int)).getD 0 .any).aj),((a0_1.ix (2:Int)).getD 1 .any)]] [] fun r7 o7=>NB r7<|.done 0 [VB r7.toBool] []) (.done 0 [VB false] [])) (.test (ac r3.aj==ac (mk [114,101,99])) (NG a0_1 1 2<|oV (a0_1.ix (1:Int))<|.call 99 [VS (((a0_1.ix (1:Int)).hA).aj)] [] fun r8 o8=>NB r8<|.test r8.toBool (NG a0_1 2 2<|NE (a0_1.ix (2:Int))<|.call 138 [.agg [VS (((a0_1.ix (2:Int)).getD 0 .any).aj),((a0_1.ix (2:Int)).getD 1 .any)]] [] fun r9 o9=>NB r9<|.done 0 [VB r9.toBool] []) (.done 0 [VB false] [])) (.done 0 [VB false] [])))))
theorem Jb(a0_0:ByteArray)(a0_1:AV)(ha0_1:LK.has .sl a0_1)(h:dH 60 (FT a0_0 a0_1) R):au Tryz.prog 138 [.agg [VS a0_0,a0_1]] [] R :=
 uQ (ah (cG (ah (aC _) (ah (bT ha0_1) aD))) aD) (oQ [] Tryz.f138 h)
def DL:LI:={hd:={bI:=[(0,.k .sl),(1,.k .str),(5,.k (.int .i64))]},xs:={},rt:={bI:=[(4,.k .bool)]},ex:=0}
def K0:Code:=cC (cw Tryz.f139) 2
def H9:List (Nat×LI):=[(2,DL)]
def IG(a0:AV)(a1:ByteArray):Tree :=
 .loop K0 DL [a0,VS a1,VI 0] [] (fun y1 q1=>.done 0 [VB false] []) (fun y1 q1=>NB (y1.hA)<|.done 0 [VB ((y1.hA).toBool)] [])
theorem Nz(a0:AV)(a1:ByteArray)(ha0:LK.has .sl a0)(h:dH 18 (IG a0 a1) R):au Tryz.prog 139 [a0,VS a1] [] R :=
 uQ (ah (bT ha0) (ah (aC _) aD)) (oQ H9 Tryz.f139 h)
def CS(x0:AV)(x1:ByteArray)(x5:Int):Tree :=
 NL x0<|NS (VS x1)<|NI (VI x5)<|NL x0<|.test (decide (x5<(x0.aM.length:Int))) (NG x0 x5 1<|oV (x0.ix x5)<|.test (ac (((x0.ix x5).hA).aj)==ac x1) (.done 2 [VB true] []) (.done 0 [x0,VS x1,VI (IntKind.wrap .i64 (x5+1))] [])) (.done 1 [] [])
abbrev EH:=cm Tryz.prog 18 K0 DL
theorem HK(x0:AV)(x1:ByteArray)(x5:Int)(h:kt 18 (CS x0 x1 x5) EH U):EH [x0,VS x1,VI x5] [] U :=
 gQ H9 h
def Db:LI:={hd:={bI:=[(0,.k .str),(7,.k (.int .i64))]},xs:={},rt:={bI:=[(6,.k .bool)]},ex:=0}
def IP:Code:=cC (cw Tryz.f140) 4
def HR:List (Nat×LI):=[(4,Db)]
def J0(a0:ByteArray)(a1:Int)(a2:Int):Tree :=
 .call 60 [VI (ag a0:Int),VI 1,VI 3] [] fun r1 o1=>NB r1<|.test (!r1.toBool) (.done 0 [VB false] []) (.ak (0<=(0:Int)/\(0:Int)<ag a0)<|.test (decide ((bt a0 0)<a1)) (.done 0 [VB false] []) (.ak (0<=(0:Int)/\(0:Int)<ag a0)<|.test (decide ((bt a0 0)>a2)) (.done 0 [VB false] []) (.loop IP Db [VS a0,VI 1] [] (fun y2 q2=>.done 0 [VB true] []) (fun y2 q2=>NB (y2.hA)<|.done 0 [VB ((y2.hA).toBool)] []))))
theorem LD(a0:ByteArray)(a1:Int)(a2:Int)(h:dH 40 (J0 a0 a1 a2) R):au Tryz.prog 140 [VS a0,.v (.int .u8 a1),.v (.int .u8 a2)] [] R :=
 uQ (ah (aC _) (ah (aC _) (ah (aC _) aD))) (oQ HR Tryz.f140 h)
def DT(x0:ByteArray)(x7:Int):Tree :=
 NS (VS x0)<|NI (VI x7)<|.test (decide (x7<(ag x0:Int))) (.ak (0<=x7/\x7<ag x0)<|.test (decide ((bt x0 x7)<(48:Int))) (.done 2 [VB false] []) (.ak (0<=x7/\x7<ag x0)<|.test (decide ((bt x0 x7)>(57:Int))) (.done 2 [VB false] []) (.done 0 [VS x0,VI (IntKind.wrap .i64 (x7+1))] []))) (.done 1 [] [])
abbrev FP:=cm Tryz.prog 40 IP Db
theorem Hn(x0:ByteArray)(x7:Int)(h:kt 40 (DT x0 x7) FP U):FP [VS x0,VI x7] [] U :=
 gQ HR h
def KH(a0:Int):Tree :=
 .test (decide (a0≥(97:Int))) (.test (decide (a0<=(122:Int))) (.done 0 [VB true] []) (.test (decide (a0≥(48:Int))) (.test (decide (a0<=(57:Int))) (.done 0 [VB true] []) (.test (a0==(42:Int)) (.done 0 [VB true] []) (.done 0 [VB (a0==(43:Int))] []))) (.test (a0==(42:Int)) (.done 0 [VB true] []) (.done 0 [VB (a0==(43:Int))] [])))) (.test (decide (a0≥(48:Int))) (.test (decide (a0<=(57:Int))) (.done 0 [VB true] []) (.test (a0==(42:Int)) (.done 0 [VB true] []) (.done 0 [VB (a0==(43:Int))] []))) (.test (a0==(42:Int)) (.done 0 [VB true] []) (.done 0 [VB (a0==(43:Int))] [])))
theorem Mr(a0:Int)(h:dH 25 (KH a0) R):au Tryz.prog 141 [.v (.int .u8 a0)] [] R :=
 uQ (ah (aC _) aD) (oQ [] Tryz.f141 h)
def IM(a0_0:ByteArray)(a0_1:AV)(a1:ByteArray)(a2_0:ByteArray)(a2_1:AV):Tree :=
 .call 109 [.agg [VS a0_0,a0_1]] [] fun r1 o1=>NI r1<|.call 160 [.agg [VS a0_0,a0_1],VS a1] [] fun r2 o2=>NI r2<|.call 109 [.agg [VS a2_0,a2_1]] [] fun r3 o3=>NI r3<|.done 0 [VB (decide ((IntKind.wrap .i64 (r1.toInt+(IntKind.wrap .i64 (r2.toInt*(IntKind.wrap .i64 (r3.toInt-1))))))<=(400:Int)))] []
theorem Mi(a0_0:ByteArray)(a0_1:AV)(a1:ByteArray)(a2_0:ByteArray)(a2_1:AV)(ha0_1:LK.has .sl a0_1)(ha2_1:LK.has .sl a2_1)(h:dH 18 (IM a0_0 a0_1 a1 a2_0 a2_1) R):au Tryz.prog 142 [.agg [VS a0_0,a0_1],VS a1,.agg [VS a2_0,a2_1]] [] R :=
 uQ (ah (cG (ah (aC _) (ah (bT ha0_1) aD))) (ah (aC _) (ah (cG (ah (aC _) (ah (bT ha2_1) aD))) aD))) (oQ [] Tryz.f142 h)
def KZ(a0_0:ByteArray)(a0_1:AV)(a1:ByteArray)(a2_0:ByteArray)(a2_1:AV):Tree :=
 .call 83 [.agg [VS a0_0,a0_1],.sl [[VS a2_0,a2_1],[VS a1,.v (.slice none 0 0)]]] [] fun r1 o1=>NA r1<|.call 161 [.agg [VS ((r1.cs.getD 0 .any).aj),(r1.cs.getD 1 .any)],VS a1,.agg [VS a2_0,a2_1]] [] fun r2 o2=>NA r2<|.done 0 [.agg [VS ((r2.cs.getD 0 .any).aj),(r2.cs.getD 1 .any)]] []
theorem MD(a0_0:ByteArray)(a0_1:AV)(a1:ByteArray)(a2_0:ByteArray)(a2_1:AV)(ha0_1:LK.has .sl a0_1)(ha2_1:LK.has .sl a2_1)(h:dH 16 (KZ a0_0 a0_1 a1 a2_0 a2_1) R):au Tryz.prog 143 [.agg [VS a0_0,a0_1],VS a1,.agg [VS a2_0,a2_1]] [] R :=
 uQ (ah (cG (ah (aC _) (ah (bT ha0_1) aD))) (ah (aC _) (ah (cG (ah (aC _) (ah (bT ha2_1) aD))) aD))) (oQ [] Tryz.f143 h)
def ED:LI:={hd:={bI:=[(0,.k .str),(1,.k (.int .i64)),(6,.k (.int .i64))]},xs:={bI:=[(0,.k .str),(1,.k (.int .i64)),(6,.k (.int .i64))]},rt:={},ex:=0}
def J4:Code:=cC (cw Tryz.f144) 2
def C4:LI:={hd:={bI:=[(0,.k .str),(1,.k (.int .i64)),(7,.k .str)],refs:=[(8,48)],cd:=[(48,[.lk .str,.vec 1])]},xs:={},rt:={bI:=[(4,.k .ptr),(5,.k .str)]},ex:=999}
def Ht:Code:=cC (cw Tryz.f144) 10
def Ez:List (Nat×LI):=[(2,ED),(10,C4)]
def FW(a0:ByteArray)(a1:Int):Tree :=
 .loop J4 ED [VS a0,VI a1,VI 0] [] (fun y2 q2=>NS (y2.hA)<|NI (y2.tail.hA)<|NI (y2.tail.tail.hA)<|.test (decide (((y2.tail.tail.hA).toInt)>(0:Int))) (.ak (0<=(0:Int)/\(0:Int)<=((y2.tail.tail.hA).toInt)/\((y2.tail.tail.hA).toInt)<=(ag ((y2.hA).aj):Int))<|.ak (0<=((y2.tail.tail.hA).toInt)/\((y2.tail.tail.hA).toInt)<=(ag ((y2.hA).aj):Int)/\(ag ((y2.hA).aj):Int)<=(ag ((y2.hA).aj):Int))<|.done 0 [.da [.ptr [VS (bR ((y2.hA).aj) (bE 0) (bE ((y2.tail.tail.hA).toInt))),.v (.slice none 0 0)],VS (bR ((y2.hA).aj) (bE ((y2.tail.tail.hA).toInt)) (bE (ag ((y2.hA).aj):Int)))]] []) (.test (ac ((y2.hA).aj)==ac (mk [])) (.done 0 [.da [.v (.pointer none),VS ((y2.hA).aj)]] []) (.ak (0<=(0:Int)/\(0:Int)<ag ((y2.hA).aj))<|.test ((bt ((y2.hA).aj) 0) != (40:Int)) (.done 0 [.da [.v (.pointer none),VS ((y2.hA).aj)]] []) (.test (((y2.tail.hA).toInt)==(300:Int)) (.done 0 [.da [.v (.pointer none),VS ((y2.hA).aj)]] []) (.ak (0<=(1:Int)/\(1:Int)<=(ag ((y2.hA).aj):Int)/\(ag ((y2.hA).aj):Int)<=(ag ((y2.hA).aj):Int))<|.loop Ht C4 [VS ((y2.hA).aj),VI ((y2.tail.hA).toInt),VS (bR ((y2.hA).aj) (bE 1) (bE (ag ((y2.hA).aj):Int)))] [.cells [VS (mk []),.any],.vec 1 []] (fun y5 q5=>.fail) (fun y5 q5=>NP (y5.hA)<|NS (y5.tail.hA)<|.done 0 [.da [(y5.hA),VS ((y5.tail.hA).aj)]] [])))))) (fun y2 q2=>.done 0 [.da [.any,.any]] [])
theorem Ic(a0:ByteArray)(a1:Int)(h:dH 84 (FW a0 a1) R):au Tryz.prog 144 [VS a0,VI a1] [] R :=
 uQ (ah (aC _) (ah (aC _) aD)) (oQ Ez Tryz.f144 h)
def Fk(x0:ByteArray)(x1:Int)(x6:Int):Tree :=
 NS (VS x0)<|NI (VI x1)<|NI (VI x6)<|.test (decide (x6<(ag x0:Int))) (.ak (0<=x6/\x6<ag x0)<|.call 162 [.v (.int .u8 (bt x0 x6))] [] fun r1 o1=>NB r1<|.test r1.toBool (.done 0 [VS x0,VI x1,VI (IntKind.wrap .i64 (x6+1))] []) (.done 1 [VS x0,VI x1,VI x6] [])) (.done 1 [VS x0,VI x1,VI x6] [])
abbrev DK:=cm Tryz.prog 84 J4 ED
theorem Jx(x0:ByteArray)(x1:Int)(x6:Int)(h:kt 84 (Fk x0 x1 x6) DK U):DK [VS x0,VI x1,VI x6] [] U :=
 gQ Ez h
def Iy(x0:ByteArray)(x1:Int)(x7:ByteArray)(o48_0:ByteArray)(o48_1:List (List AV)):Tree :=
 NS (VS x0)<|NI (VI x1)<|NS (VS x7)<|.ak (Ob.cells [VS o48_0,.any]=.cells [VS o48_0,.any])<|.ak (ae [.lk .str,.vec 1] [VS o48_0,.any] 0 [.vec 1 o48_1])<|.call 144 [VS x7,VI (IntKind.wrap .i64 (x1+1))] [] fun r1 o1=>NT r1<|NP (r1.comp 0)<|NS (r1.comp 1)<|NP (r1.comp 0)<|.test ((r1.comp 0).isNil) (.done 2 [.v (.pointer none),VS x0] []) (.test (ac ((r1.comp 1).aj)==ac (mk [])) (.done 2 [.v (.pointer none),VS x0] []) (.ak (cb 1 [[(r1.comp 0)]]/\((o48_1.length)+([[(r1.comp 0)]]:List (List AV)).length)*8<=140737488355328)<|.ak (0<=(1:Int)/\(1:Int)<=(ag ((r1.comp 1).aj):Int)/\(ag ((r1.comp 1).aj):Int)<=(ag ((r1.comp 1).aj):Int))<|.ak (0<=(0:Int)/\(0:Int)<ag ((r1.comp 1).aj))<|.test ((bt ((r1.comp 1).aj) 0)==(41:Int)) (.done 2 [.ptr [VS o48_0,.sl (o48_1++([[(r1.comp 0)]]:List (List AV)))],VS (bR ((r1.comp 1).aj) (bE 1) (bE (ag ((r1.comp 1).aj):Int)))] []) (.ak (0<=(0:Int)/\(0:Int)<ag ((r1.comp 1).aj))<|.test ((bt ((r1.comp 1).aj) 0) != (32:Int)) (.done 2 [.v (.pointer none),VS x0] []) (.done 0 [VS x0,VI x1,VS (bR ((r1.comp 1).aj) (bE 1) (bE (ag ((r1.comp 1).aj):Int)))] [.cells [VS o48_0,.any],.vec 1 (o48_1++([[(r1.comp 0)]]:List (List AV)))]))))
abbrev E8:=cm Tryz.prog 84 Ht C4
theorem Ma(x0:ByteArray)(x1:Int)(x7:ByteArray)(o48_0:ByteArray)(o48_1:List (List AV))(h:kt 84 (Iy x0 x1 x7 o48_0 o48_1) E8 U):E8 [VS x0,VI x1,VS x7] [.cells [VS o48_0,.any],.vec 1 o48_1] U :=
 gQ Ez h
def I9(a0:ByteArray):Tree :=
 .call 163 [VS a0,VS (mk [120,121,122])] [] fun r1 o1=>NB r1<|.done 0 [VB r1.toBool] []
theorem M6(a0:ByteArray)(h:dH 5 (I9 a0) R):au Tryz.prog 145 [VS a0] [] R :=
 uQ (ah (aC _) aD) (oQ [] Tryz.f145 h)
def If(a0:ByteArray):Tree :=
 .call 163 [VS a0,VS (mk [116])] [] fun r1 o1=>NB r1<|.done 0 [VB r1.toBool] []
theorem ME(a0:ByteArray)(h:dH 5 (If a0) R):au Tryz.prog 146 [VS a0] [] R :=
 uQ (ah (aC _) aD) (oQ [] Tryz.f146 h)
def yu(a0:AV)(a1:ByteArray)(a2:Int):Tree :=
 NZ a0<|NZ a0<|mY (a0.deref.drop 1)<|NL ((a0.deref.drop 1).hA)<|.test (((((a0.deref.drop 1).hA).aM).length:Int)==a2) (NZ a0<|NZ a0<|mY (a0.deref.drop 1)<|NG ((a0.deref.drop 1).hA) 0 1<|gY (((a0.deref.drop 1).hA).ix (0:Int))<|NZ ((((a0.deref.drop 1).hA).ix (0:Int)).hA)<|NZ ((((a0.deref.drop 1).hA).ix (0:Int)).hA)<|.ak (LK.has .str (((((a0.deref.drop 1).hA).ix (0:Int)).hA).deref.hA)/\1<=(((((a0.deref.drop 1).hA).ix (0:Int)).hA).deref).length)<|.done 0 [VB (ac ((((((a0.deref.drop 1).hA).ix (0:Int)).hA).deref.hA).aj)==ac a1)] []) (.done 0 [VB false] [])
theorem H0(a0:AV)(a1:ByteArray)(a2:Int)(ha0:LK.has .ptr a0)(h:dH 27 (yu a0 a1 a2) R):au Tryz.prog 147 [a0,VS a1,VI a2] [] R :=
 uQ (ah (bX ha0) (ah (aC _) (ah (aC _) aD))) (oQ [] Tryz.f147 h)
def KE(a0:AV):Tree :=
 .call 165 [a0,.fn 166 [.ref 0 0]] [.cells [.vec 1],.vec 1 []] fun r1 o1=>.ak ((o1.hO)=.cells (o1.hO).cs)<|.ak (aO [.vec 1] ((o1.hO).cs) 0 1 o1.tail)<|.done 0 [.sl ((o1.tail.hO).es)] []
theorem Nh(a0:AV)(ha0:LK.has .ptr a0)(h:dH 9 (KE a0) R):au Tryz.prog 150 [a0] [] R :=
 uQ (ah (bX ha0) aD) (oQ [] Tryz.f150 h)
def Gz(a0:AV)(a1:ByteArray):Tree :=
 .call 167 [a0,VS a1] [] fun r1 o1=>NI r1<|.done 0 [VB (decide (r1.toInt≥(0:Int)))] []
theorem Lh(a0:AV)(a1:ByteArray)(ha0:LK.has .sl a0)(h:dH 9 (Gz a0 a1) R):au Tryz.prog 152 [a0,VS a1] [] R :=
 uQ (ah (bT ha0) (ah (aC _) aD)) (oQ [] Tryz.f152 h)
def Jd(a0:AV):Tree :=
 .call 168 [a0,.v (.func (.func 146) #[] #[])] [] fun r1 o1=>NI r1<|.done 0 [VB (decide (r1.toInt≥(0:Int)))] []
theorem Li(a0:AV)(ha0:LK.has .sl a0)(h:dH 9 (Jd a0) R):au Tryz.prog 153 [a0,.v (.func (.func 146) #[] #[])] [] R :=
 uQ (ah (bT ha0) (ah (aC _) aD)) (oQ [] Tryz.f153 h)
def Hs(a0:ByteArray):Tree :=
 .test (decide ((ag a0:Int)<(2:Int))) (.done 0 [VB false] []) (.test (decide ((ag a0:Int)>(3:Int))) (.done 0 [VB false] []) (.ak (0<=(0:Int)/\(0:Int)<ag a0)<|.test ((bt a0 0) != (101:Int)) (.done 0 [VB false] []) (.ak (0<=(1:Int)/\(1:Int)<=(ag a0:Int)/\(ag a0:Int)<=(ag a0:Int))<|.call 169 [VS (bR a0 (bE 1) (bE (ag a0:Int))),VS (mk [48,49,50,51,52,53,54,55,56,57])] [] fun r1 o1=>NS r1<|.test (!(ac r1.aj==ac (mk []))) (.done 0 [VB false] []) (.test ((ag a0:Int)==(2:Int)) (.done 0 [VB true] []) (.ak (0<=(1:Int)/\(1:Int)<ag a0)<|.done 0 [VB ((bt a0 1) != (48:Int))] [])))))
theorem MO(a0:ByteArray)(h:dH 30 (Hs a0) R):au Tryz.prog 154 [VS a0] [] R :=
 uQ (ah (aC _) aD) (oQ [] Tryz.f154 h)
def zb(a0_0:ByteArray)(a0_1:AV)(a1:ByteArray):Tree :=
 .test (!(ac a0_0==ac (mk []))) (.test (ac a0_0==ac a1) (.done 0 [VI 1] []) (.done 0 [VI 0] [])) (.call 71 [.agg [VS a0_0,a0_1]] [] fun r1 o1=>NS r1<|.test (ac r1.aj==ac (mk [114,101,99])) (NG a0_1 1 2<|oV (a0_1.ix (1:Int))<|.test (ac (((a0_1.ix (1:Int)).hA).aj)==ac a1) (.done 0 [VI 0] []) (NG a0_1 2 2<|NE (a0_1.ix (2:Int))<|.call 160 [.agg [VS (((a0_1.ix (2:Int)).getD 0 .any).aj),((a0_1.ix (2:Int)).getD 1 .any)],VS a1] [] fun r2 o2=>NI r2<|.done 0 [VI r2.toInt] [])) (NG a0_1 1 2<|NE (a0_1.ix (1:Int))<|.call 160 [.agg [VS (((a0_1.ix (1:Int)).getD 0 .any).aj),((a0_1.ix (1:Int)).getD 1 .any)],VS a1] [] fun r3 o3=>NI r3<|NG a0_1 2 2<|NE (a0_1.ix (2:Int))<|.call 160 [.agg [VS (((a0_1.ix (2:Int)).getD 0 .any).aj),((a0_1.ix (2:Int)).getD 1 .any)],VS a1] [] fun r4 o4=>NI r4<|.done 0 [VI (IntKind.wrap .i64 (r3.toInt+r4.toInt))] []))
theorem BM(a0_0:ByteArray)(a0_1:AV)(a1:ByteArray)(ha0_1:LK.has .sl a0_1)(h:dH 41 (zb a0_0 a0_1 a1) R):au Tryz.prog 160 [.agg [VS a0_0,a0_1],VS a1] [] R :=
 uQ (ah (cG (ah (aC _) (ah (bT ha0_1) aD))) (ah (aC _) aD)) (oQ [] Tryz.f160 h)
def As(a0_0:ByteArray)(a0_1:AV)(a1:ByteArray)(a2_0:ByteArray)(a2_1:AV):Tree :=
 .test (!(ac a0_0==ac (mk []))) (.test (ac a0_0==ac a1) (.done 0 [.agg [VS a2_0,a2_1]] []) (.done 0 [.agg [VS a0_0,a0_1]] [])) (.call 71 [.agg [VS a0_0,a0_1]] [] fun r1 o1=>NS r1<|.test (ac r1.aj==ac (mk [114,101,99])) (NG a0_1 1 2<|oV (a0_1.ix (1:Int))<|.test (ac (((a0_1.ix (1:Int)).hA).aj)==ac a1) (.done 0 [.agg [VS a0_0,a0_1]] []) (NG a0_1 1 2<|NE (a0_1.ix (1:Int))<|NG a0_1 2 2<|NE (a0_1.ix (2:Int))<|.call 161 [.agg [VS (((a0_1.ix (2:Int)).getD 0 .any).aj),((a0_1.ix (2:Int)).getD 1 .any)],VS a1,.agg [VS a2_0,a2_1]] [] fun r2 o2=>NA r2<|.call 78 [VS (mk [114,101,99]),.sl [[VS (((a0_1.ix (1:Int)).getD 0 .any).aj),((a0_1.ix (1:Int)).getD 1 .any)],[VS ((r2.cs.getD 0 .any).aj),(r2.cs.getD 1 .any)]]] [] fun r3 o3=>NA r3<|.done 0 [.agg [VS ((r3.cs.getD 0 .any).aj),(r3.cs.getD 1 .any)]] [])) (.call 71 [.agg [VS a0_0,a0_1]] [] fun r4 o4=>NS r4<|NG a0_1 1 2<|NE (a0_1.ix (1:Int))<|.call 161 [.agg [VS (((a0_1.ix (1:Int)).getD 0 .any).aj),((a0_1.ix (1:Int)).getD 1 .any)],VS a1,.agg [VS a2_0,a2_1]] [] fun r5 o5=>NA r5<|NG a0_1 2 2<|NE (a0_1.ix (2:Int))<|.call 161 [.agg [VS (((a0_1.ix (2:Int)).getD 0 .any).aj),((a0_1.ix (2:Int)).getD 1 .any)],VS a1,.agg [VS a2_0,a2_1]] [] fun r6 o6=>NA r6<|.call 78 [VS r4.aj,.sl [[VS ((r5.cs.getD 0 .any).aj),(r5.cs.getD 1 .any)],[VS ((r6.cs.getD 0 .any).aj),(r6.cs.getD 1 .any)]]] [] fun r7 o7=>NA r7<|.done 0 [.agg [VS ((r7.cs.getD 0 .any).aj),(r7.cs.getD 1 .any)]] []))
theorem BD(a0_0:ByteArray)(a0_1:AV)(a1:ByteArray)(a2_0:ByteArray)(a2_1:AV)(ha0_1:LK.has .sl a0_1)(ha2_1:LK.has .sl a2_1)(h:dH 58 (As a0_0 a0_1 a1 a2_0 a2_1) R):au Tryz.prog 161 [.agg [VS a0_0,a0_1],VS a1,.agg [VS a2_0,a2_1]] [] R :=
 uQ (ah (cG (ah (aC _) (ah (bT ha0_1) aD))) (ah (aC _) (ah (cG (ah (aC _) (ah (bT ha2_1) aD))) aD))) (oQ [] Tryz.f161 h)
def JR(a0:Int):Tree :=
 .test (decide (a0≥(97:Int))) (.test (decide (a0<=(122:Int))) (.done 0 [VB true] []) (.test (decide (a0≥(48:Int))) (.test (decide (a0<=(57:Int))) (.done 0 [VB true] []) (.test (a0==(43:Int)) (.done 0 [VB true] []) (.done 0 [VB (a0==(42:Int))] []))) (.test (a0==(43:Int)) (.done 0 [VB true] []) (.done 0 [VB (a0==(42:Int))] [])))) (.test (decide (a0≥(48:Int))) (.test (decide (a0<=(57:Int))) (.done 0 [VB true] []) (.test (a0==(43:Int)) (.done 0 [VB true] []) (.done 0 [VB (a0==(42:Int))] []))) (.test (a0==(43:Int)) (.done 0 [VB true] []) (.done 0 [VB (a0==(42:Int))] [])))
theorem Nl(a0:Int)(h:dH 25 (JR a0) R):au Tryz.prog 162 [.v (.int .u8 a0)] [] R :=
 uQ (ah (aC _) aD) (oQ [] Tryz.f162 h)
def Hx(a0:ByteArray)(a1:ByteArray):Tree :=
 .test (decide ((ag a0:Int)≥(1:Int))) (.test (decide ((ag a0:Int)<=(3:Int))) (.ak (0<=(0:Int)/\(0:Int)<=(1:Int)/\(1:Int)<=(ag a0:Int))<|.call 178 [VS a1,VS (bR a0 (bE 0) (bE 1))] [] fun r1 o1=>NB r1<|.test r1.toBool (.ak (0<=(1:Int)/\(1:Int)<=(ag a0:Int)/\(ag a0:Int)<=(ag a0:Int))<|.call 169 [VS (bR a0 (bE 1) (bE (ag a0:Int))),VS (mk [48,49,50,51,52,53,54,55,56,57])] [] fun r2 o2=>NS r2<|.done 0 [VB (ac r2.aj==ac (mk []))] []) (.done 0 [VB false] [])) (.done 0 [VB false] [])) (.done 0 [VB false] [])
theorem Lf(a0:ByteArray)(a1:ByteArray)(h:dH 25 (Hx a0 a1) R):au Tryz.prog 163 [VS a0,VS a1] [] R :=
 uQ (ah (aC _) (ah (aC _) aD)) (oQ [] Tryz.f163 h)
def Cj(a0:AV)(e1_0_0:List (List AV)):Tree :=
 .call 166 [a0,.ref 0 0] [.cells [.vec 1],.vec 1 e1_0_0] fun r1 o1=>.ak ((o1.hO)=.cells (o1.hO).cs)<|.ak (aO [.vec 1] ((o1.hO).cs) 0 1 o1.tail)<|NZ a0<|NZ a0<|gY (a0.deref.drop 3)<|NP ((a0.deref.drop 3).hA)<|.test (!((a0.deref.drop 3).hA).isNil) (NZ a0<|NZ a0<|gY (a0.deref.drop 3)<|.call 165 [((a0.deref.drop 3).hA),.fn 166 [.ref 0 0]] [.cells [.vec 1],.vec 1 ((o1.tail.hO).es)] fun r2 o2=>.ak ((o2.hO)=.cells (o2.hO).cs)<|.ak (aO [.vec 1] ((o2.hO).cs) 0 1 o2.tail)<|NZ a0<|NZ a0<|gY (a0.deref.drop 4)<|NP ((a0.deref.drop 4).hA)<|.test (!((a0.deref.drop 4).hA).isNil) (NZ a0<|NZ a0<|gY (a0.deref.drop 4)<|.call 165 [((a0.deref.drop 4).hA),.fn 166 [.ref 0 0]] [.cells [.vec 1],.vec 1 ((o2.tail.hO).es)] fun r3 o3=>.ak ((o3.hO)=.cells (o3.hO).cs)<|.ak (aO [.vec 1] ((o3.hO).cs) 0 1 o3.tail)<|.done 0 [.any] [.cells [.vec 1],.vec 1 ((o3.tail.hO).es)]) (.done 0 [.any] [.cells [.vec 1],.vec 1 ((o2.tail.hO).es)])) (NZ a0<|NZ a0<|gY (a0.deref.drop 4)<|NP ((a0.deref.drop 4).hA)<|.test (!((a0.deref.drop 4).hA).isNil) (NZ a0<|NZ a0<|gY (a0.deref.drop 4)<|.call 165 [((a0.deref.drop 4).hA),.fn 166 [.ref 0 0]] [.cells [.vec 1],.vec 1 ((o1.tail.hO).es)] fun r4 o4=>.ak ((o4.hO)=.cells (o4.hO).cs)<|.ak (aO [.vec 1] ((o4.hO).cs) 0 1 o4.tail)<|.done 0 [.any] [.cells [.vec 1],.vec 1 ((o4.tail.hO).es)]) (.done 0 [.any] [.cells [.vec 1],.vec 1 ((o1.tail.hO).es)]))
theorem DA(a0:AV)(e1_0_0:List (List AV))(ha0:LK.has .ptr a0)(h:dH 29 (Cj a0 e1_0_0) R):au Tryz.prog 165 [a0,.fn 166 [.ref 0 0]] [.cells [.vec 1],.vec 1 e1_0_0] R :=
 au.ox (bn (ca (ah (aC _) aD)) (bn (eT _) cu)) (au.up (ah (bX ha0) (ah (aC _) aD)) (oF [] {mu:=[(1,.fn [some (.obj [.vec 1])])],own:=[]} Tryz.f165 h))
def Ff(a0:AV)(e1_0:List (List AV)):Tree :=
 NZ a0<|NZ a0<|.ak (LK.has (.int .u8) (a0.deref.hA)/\1<=a0.deref.length)<|.test (((a0.deref.hA).toInt)==(110:Int)) (NZ a0<|NZ a0<|oV (a0.deref.drop 1)<|.call 152 [.sl e1_0,VS (((a0.deref.drop 1).hA).aj)] [] fun r1 o1=>NB r1<|.test (!r1.toBool) (NZ a0<|NZ a0<|oV (a0.deref.drop 1)<|.ak (cb 1 [[VS (((a0.deref.drop 1).hA).aj)]]/\((e1_0.length)+([[VS (((a0.deref.drop 1).hA).aj)]]:List (List AV)).length)*16<=140737488355328)<|.done 0 [.any] [.cells [.vec 1],.vec 1 (e1_0++([[VS (((a0.deref.drop 1).hA).aj)]]:List (List AV)))]) (.done 0 [.any] [.cells [.vec 1],.vec 1 e1_0])) (.done 0 [.any] [.cells [.vec 1],.vec 1 e1_0])
theorem Nk(a0:AV)(e1_0:List (List AV))(ha0:LK.has .ptr a0)(h:dH 24 (Ff a0 e1_0) R):au Tryz.prog 166 [a0,.ref 0 0] [.cells [.vec 1],.vec 1 e1_0] R :=
 au.ox (bn (ca (ah (aC _) aD)) (bn (eT _) cu)) (au.up (ah (bX ha0) (ah (aC _) aD)) (oF [] {mu:=[(1,.one (.obj [.vec 1]))],own:=[]} Tryz.f166 h))
def FA:LI:={hd:={bI:=[(0,.k .sl),(1,.k .str),(7,.k (.int .i64)),(8,.k (.int .i64))]},xs:={},rt:={bI:=[(4,.k (.int .i64))]},ex:=0}
def Hy:Code:=cC (cw Tryz.f167) 2
def Gh:List (Nat×LI):=[(2,FA)]
def Gi(a0:AV)(a1:ByteArray):Tree :=
 NL a0<|.loop Hy FA [a0,VS a1,VI (a0.aM.length:Int),VI 0] [] (fun y1 q1=>.done 0 [VI (-1)] []) (fun y1 q1=>NI (y1.hA)<|.done 0 [VI ((y1.hA).toInt)] [])
theorem Mw(a0:AV)(a1:ByteArray)(ha0:LK.has .sl a0)(h:dH 19 (Gi a0 a1) R):au Tryz.prog 167 [a0,VS a1] [] R :=
 uQ (ah (bT ha0) (ah (aC _) aD)) (oQ Gh Tryz.f167 h)
def EJ(x0:AV)(x1:ByteArray)(x7:Int)(x8:Int):Tree :=
 NL x0<|NS (VS x1)<|NI (VI x7)<|NI (VI x8)<|.test (decide (x8<x7)) (NG x0 x8 1<|oV (x0.ix x8)<|.test (ac x1==ac (((x0.ix x8).hA).aj)) (.done 2 [VI x8] []) (.done 0 [x0,VS x1,VI x7,VI (IntKind.wrap .i64 (x8+1))] [])) (.done 1 [] [])
abbrev FJ:=cm Tryz.prog 19 Hy FA
theorem Hh(x0:AV)(x1:ByteArray)(x7:Int)(x8:Int)(h:kt 19 (EJ x0 x1 x7 x8) FJ U):FJ [x0,VS x1,VI x7,VI x8] [] U :=
 gQ Gh h
def E4:LI:={hd:={bI:=[(0,.k .sl),(1,.c (.func (.func 146) #[] #[])),(7,.k (.int .i64)),(8,.k (.int .i64))]},xs:={},rt:={bI:=[(4,.k (.int .i64))]},ex:=0}
def JI:Code:=cC (cw Tryz.f168) 2
def G3:List (Nat×LI):=[(2,E4)]
def Gs(a0:AV):Tree :=
 NL a0<|.loop JI E4 [a0,.v (.func (.func 146) #[] #[]),VI (a0.aM.length:Int),VI 0] [] (fun y2 q2=>.done 0 [VI (-1)] []) (fun y2 q2=>NI (y2.hA)<|.done 0 [VI ((y2.hA).toInt)] [])
theorem Ns(a0:AV)(ha0:LK.has .sl a0)(h:dH 19 (Gs a0) R):au Tryz.prog 168 [a0,.v (.func (.func 146) #[] #[])] [] R :=
 uQ (ah (bT ha0) (ah (aC _) aD)) (oQ G3 Tryz.f168 h)
def DV(x0:AV)(x7:Int)(x8:Int):Tree :=
 NL x0<|.ak (AV.v (.func (.func 146) #[] #[])=.v (.func (.func 146) #[] #[]))<|NI (VI x7)<|NI (VI x8)<|.test (decide (x8<x7)) (NG x0 x8 1<|oV (x0.ix x8)<|.call 146 [VS (((x0.ix x8).hA).aj)] [] fun r1 o1=>NB r1<|.test r1.toBool (.done 2 [VI x8] []) (.done 0 [x0,.v (.func (.func 146) #[] #[]),VI x7,VI (IntKind.wrap .i64 (x8+1))] [])) (.done 1 [] [])
abbrev E0:=cm Tryz.prog 19 JI E4
theorem KM(x0:AV)(x7:Int)(x8:Int)(h:kt 19 (DV x0 x7 x8) E0 U):E0 [x0,.v (.func (.func 146) #[] #[]),VI x7,VI x8] [] U :=
 gQ G3 h
end
end Go.Proofs.Trees
namespace Go.Proofs.Trees
open Go Go.VL
theorem bp(i:Nat)(h:i<1000000000000):IntKind.wrap .i64 ((i:Int)+1)=((i+1:Nat):Int):=by rw[wrap64]<;>omega
inductive E where
 |atom (s:List UInt8)
 |list (l:List E)
mutual
def E.cF:E->AV
 | .atom s=>.ptr [.v (.string (mk s)),.v (.slice none 0 0)]
 | .list l=>.ptr [.v (.string (mk [])),.sl (E.lg l)]
def E.lg:List E->List (List AV)
 |[]=>[]
 |e::l=>[e.cF]::E.lg l
end
mutual
def E.gF:E->List AV
 | .atom s=>[.v (.string (mk s)),.v (.slice none 0 0)]
 | .list l=>[.v (.string (mk [])),.sl (E.bc l)]
def E.bc:List E->List (List AV)
 |[]=>[]
 |e::l=>e.gF::E.bc l
end
def E.jX(e:E):AV:=.agg e.gF
theorem uo(l r:List E):E.lg (l++r)=E.lg l++E.lg r:=by
 induction l with
 |nil=>rfl
 |cons e l ih=>simp[E.lg,ih]
theorem pb(l r:List E):E.bc (l++r)=E.bc l++E.bc r:=by
 induction l with
 |nil=>rfl
 |cons e l ih=>simp[E.bc,ih]
theorem qw(l:List E):(E.lg l).length=l.length:=by
 induction l with
 |nil=>rfl
 |cons e l ih=>simp[E.lg,ih]
theorem dE(l:List E):(E.bc l).length=l.length:=by
 induction l with
 |nil=>rfl
 |cons e l ih=>simp[E.bc,ih]
def en(b:UInt8):Bool:=decide ((97<=b.toNat/\b.toNat<=122)\/(48<=b.toNat/\b.toNat<=57)\/b.toNat=43\/b.toNat=42)
def qW(f:List UInt8->Option (E×List UInt8)):Nat->List UInt8->List E->Option (E×List UInt8)
 |0,_,_=>none
 |
  n+1,s,acc=>match f s with
  |some (p,c::r)=>if c.toNat=41 then some (.list (acc++[p]),r)else if c.toNat=32 then qW f n r (acc++[p])else none
  |_=>none
def rd:Nat->List UInt8->Option (E×List UInt8)
 |0,s=>if s.takeWhile en=[]then none else some (.atom (s.takeWhile en),s.dropWhile en)
 |k+1,s=>if s.takeWhile en=[]then(match s with
  |c::r=>if c.toNat=40 then qW (rd k) (r.length+1) r []else none
  |[]=>none)else some (.atom (s.takeWhile en),s.dropWhile en)
theorem zK{f:List UInt8->Option (E×List UInt8)}(hf:∀s e r,f s=some (e,r)->r.length<s.length):∀(n:Nat) (s:List UInt8) (acc:List E) (e:E) (r:List UInt8),qW f n s acc=some (e,r)->r.length<s.length
 |0,s,acc,e,r,h=>by cases h
 |
  n+1,s,acc,e,r,h=>by
  simp only[qW]at h
  split at h
  ·rename_i p c r' hs
   have:=hf _ _ _ hs
   simp only[aw]at this
   split at h
   ·cases h;omega
   ·split at h
    ·have:=zK hf n _ _ _ _ h;omega
    ·cases h
  ·cases h
theorem nT{s:List UInt8}(h:¬s.takeWhile en=[]):(s.dropWhile en).length<s.length:=by
 have h1:=congrArg List.length (bN (p:=en) (l:=s))
 simp only[al]at h1
 have:0<(s.takeWhile en).length:=List.length_pos_iff.2 h
 omega
theorem wN:∀(k:Nat) (s:List UInt8) (e:E) (r:List UInt8),rd k s=some (e,r)->r.length<s.length
 |
  0,s,e,r,h=>by
  simp only[rd]at h
  split at h
  ·cases h
  ·rename_i hn;cases h;exact nT hn
 |
  k+1,s,e,r,h=>by
  simp only[rd]at h
  split at h
  ·split at h
   ·split at h
    ·have:=zK (wN k) _ _ _ _ _ h
     simp only[aw];omega
    ·cases h
   ·cases h
  ·rename_i hn;cases h;exact nT hn
theorem NV(b:UInt8):au Tryz.prog 162 [.v (.int .u8 (b.toNat:Int))] [] (bK (.v (.bool (en b)))):=by
 refine Nl _ ?_
 simp only[JR,↓zq,zs,ae,bK,en]
 repeat' (apply aF<;>intro _)
 all_goals first|(congr 2;rw[cj];simp;omega)|(congr 2;simp;omega)
theorem wO{s:List UInt8}{i:Nat}(hi:i<s.length)(hb:en (s.getD i 0)=true):((s.drop i).takeWhile en).length=((s.drop (i+1)).takeWhile en).length+1:=by
 have e:s.drop i=s.getD i 0::s.drop (i+1):=by
  rw[aL hi];simp[aa,hi]
 rw[e,List.takeWhile_cons_of_pos hb];simp
theorem pC{s:List UInt8}{i:Nat}(hi:i<s.length)(hb:en (s.getD i 0)=false):(s.drop i).takeWhile en=[]:=by
 have e:s.drop i=s.getD i 0::s.drop (i+1):=by
  rw[aL hi];simp[aa,hi]
 rw[e,List.takeWhile_cons_of_neg (by rw[hb];simp)]
theorem Da(s:List UInt8)(hs:s.length<=8000)(d:Int):∀(k i:Nat),i+k=s.length->DK [.v (.string (mk s)),.v (.int .i64 d),.v (.int .i64 (i:Int))] [] (gk 1 [.v (.string (mk s)),.v (.int .i64 d),.v (.int .i64 ((i+((s.drop i).takeWhile en).length:Nat):Int))] [])
 |
  0,i,hi=>by
  refine Jx _ _ _ ?_
  have hd:s.drop i=[]:=bx (by omega)
  simp only[Fk,↓zq,zs,ae,zt]
  exact⟨fun h=>by omega,fun _=>by simp[gk,hd]⟩
 |
  k+1,i,hi=>by
  have hlt:i<s.length:=by omega
  refine Jx _ _ _ ?_
  simp only[Fk,↓zq,zs,ae,zt,k9 s i hlt]
  refine⟨fun _=>⟨by omega,?_⟩,fun h=>by omega⟩
  refine an (NV _) ?_
  simp only[↓zq,zs,ae]
  refine⟨fun hb=>?_,fun hb=>?_⟩
  ·rw[bp i (by omega)]
   have:=Da s hs d k (i+1) (by omega)
   rw[wO hlt hb,show i+(((s.drop (i+1)).takeWhile en).length+1)=i+1+((s.drop (i+1)).takeWhile en).length by omega]
   exact this
  ·simp[gk,pC hlt hb]
def np(s:List UInt8):Option (E×List UInt8)->AV
 |some (e,r)=>.da [e.cF,.v (.string (mk r))]
 |none=>.da [.v (.pointer none),.v (.string (mk s))]
theorem cD(e:E):LK.has .ptr e.cF=True:=by cases e<;>simp[E.cF,dO]
theorem dI(e:E):e.cF.isNil=false:=by cases e<;>rfl
theorem sw(s:List UInt8):s.take (s.takeWhile en).length=s.takeWhile en:=by
 have h:=bN (p:=en) (l:=s)
 have:(s.takeWhile en++s.dropWhile en).take (s.takeWhile en).length=s.takeWhile en:=List.take_left
 rw[h]at this;exact this
theorem vN(s:List UInt8):s.drop (s.takeWhile en).length=s.dropWhile en:=by
 have h:=bN (p:=en) (l:=s)
 have:(s.takeWhile en++s.dropWhile en).drop (s.takeWhile en).length=s.dropWhile en:=List.drop_left
 rw[h]at this;exact this
theorem zC(c:UInt8)(r:List UInt8):(List.take (r.length+1) (c::r)).drop (bE 1)=r:=by simp
theorem HC(s0:List UInt8)(k:Nat)(hk:k<300)(ih:∀s,s.length<=8000->au Tryz.prog 144 [.v (.string (mk s)),.v (.int .i64 ((300-k:Nat):Int))] [] (bK (np s (rd k s)))) :
 ∀(n:Nat) (s:List UInt8) (acc:List E),s.length<n->s.length+acc.length<=8000->E8 [.v (.string (mk s0)),.v (.int .i64 ((300-(k+1):Nat):Int)),.v (.string (mk s))] [.cells [.v (.string (mk [])),.any],.vec 1 (E.lg acc)]
  (pI (match qW (rd k) n s acc with|some (e,r)=>(2,[e.cF,.v (.string (mk r))],[])|none=>(2,[.v (.pointer none),.v (.string (mk s0))],[])))
 |0,s,acc,hn,_=>by omega
 |
  n+1,s,acc,hn,hl=>by
  refine Ma _ _ _ _ _ ?_
  simp only[Iy,↓zq,zs,ae,zY]
  have hd:IntKind.wrap .i64 (((300-(k+1):Nat):Int)+1)=((300-k:Nat):Int):=by rw[wrap64]<;>omega
  rw[hd]
  refine an (ih s (by omega)) ?_
  have hlt:=wN k s
  cases hr:rd k s with
  |
   none =>
   simp only[np,↓zq,zs,ae,qW,hr]
   simp[pI]
  |
   some q =>
   obtain⟨e,r⟩:=q
   have:=hlt e r hr
   cases r with
   |
    nil =>
    simp only[np,↓zq,zs,ae,zt,qW,hr,cD,dI]
    simp[pI]
   |
    cons c r =>
    simp only[aw]at this
    have hb:=k9 (c::r) 0 (by simp)
    simp only[cA,cO]at hb
    have e2:(List.take (c::r).length (c::r)).drop 1=r:=by simp
    simp only[np,↓zq,zs,ae,zt,qW,hr,cD,dI,hb,e2,qw]
    refine⟨fun h=>(by cases h),fun _=>⟨fun h=>(by cases h),fun _=>⟨⟨fun c hc=>(by simp at hc;rw[hc];rfl),by omega⟩,by omega,by omega,fun h41=>?_,fun h41=>⟨by omega,fun h32=>?_,fun h32=>?_⟩⟩⟩⟩
    ·have h41':c.toNat=41:=by omega
     rw[zC,if_pos h41']
     simp[pI,E.cF,uo,E.lg]
    ·have h41':¬c.toNat=41:=by omega
     have h32':¬c.toNat=32:=by omega
     rw[if_neg h41',if_neg h32']
    ·have h41':¬c.toNat=41:=by omega
     have h32':c.toNat=32:=by omega
     rw[zC,if_neg h41',if_pos h32']
     have:=HC s0 k hk ih n r (acc++[e]) (by omega) (by simp;omega)
     simpa[uo,E.lg]using this
theorem Na:∀(k:Nat),k<=300->∀s:List UInt8,s.length<=8000->au Tryz.prog 144 [.v (.string (mk s)),.v (.int .i64 ((300-k:Nat):Int))] [] (bK (np s (rd k s))):=by
 intro k
 induction k with
 |
  zero =>
  intro hk s hs
  refine Ic _ _ ?_
  unfold FW
  refine bZ (Da s hs _ s.length 0 (by omega)) ?_
  simp only[↓zq,zs,ae,zt,aP,bK]
  have hw:(s.takeWhile en).length<=s.length:=by
   have:=congrArg List.length (bN (p:=en) (l:=s))
   simp only[al]at this;omega
  refine⟨fun h=>⟨by omega,by omega,?_⟩,fun h=>?_⟩
  ·have hne:¬s.takeWhile en=[]:=fun e=>by rw[e]at h;simp at h
   simp only[rd,if_neg hne,np,E.cF,sw,vN]
  ·have hnil:s.takeWhile en=[]:=List.eq_nil_of_length_eq_zero (by omega)
   simp only[rd,if_pos hnil,np]
   refine⟨fun _=>trivial,fun hne=>⟨?_,?_⟩⟩
   ·cases s with
    |nil=>exact absurd rfl hne
    |cons c s=>simp
   ·exact⟨fun _=>trivial,fun _=>⟨fun _=>trivial,fun h=>absurd rfl h⟩⟩
 |
  succ k ih =>
  intro hk s hs
  refine Ic _ _ ?_
  unfold FW
  refine bZ (Da s hs _ s.length 0 (by omega)) ?_
  simp only[↓zq,zs,ae,zt,aP,bK]
  have hw:(s.takeWhile en).length<=s.length:=by
   have:=congrArg List.length (bN (p:=en) (l:=s))
   simp only[al]at this;omega
  refine⟨fun h=>⟨by omega,by omega,?_⟩,fun h=>?_⟩
  ·have hne:¬s.takeWhile en=[]:=fun e=>by rw[e]at h;simp at h
   simp only[rd,if_neg hne,np,E.cF,sw,vN]
  ·have hnil:s.takeWhile en=[]:=List.eq_nil_of_length_eq_zero (by omega)
   simp only[rd,if_pos hnil]
   cases s with
   |nil=>simp[np]
   |
    cons c s =>
    have hb:=k9 (c::s) 0 (by simp)
    simp only[cA,cO]at hb
    simp only[aw]at hs
    simp only[↓zq,zs,ae,hb,zC]
    refine⟨fun h=>(by cases h),fun _=>⟨by omega,fun h40=>?_,fun h40=>⟨fun h300=>?_,fun h300=>⟨by omega,?_⟩⟩⟩⟩
    ·have:¬c.toNat=40:=by omega
     rw[if_neg this];rfl
    ·omega
    ·have h40':c.toNat=40:=by omega
     rw[if_pos h40']
     refine gK (HC (c::s) k (by omega) (ih (by omega)) (s.length+1) s [] (by omega) (by simp;omega)) (fun ys o e=>?_) (fun ys o e=>?_)
     ·split at e<;>cases e
     ·split at e<;>cases e
      ·rename_i e' r' hr
       simp only[↓zq,zs,ae,cD]
       simp only[hr,np]
      ·rename_i hr
       simp only[↓zq,zs,ae]
       simp only[hr,np]
end Go.Proofs.Trees
namespace Go.Proofs.Trees
open Go Go.VL
mutual
def E.sz:E->Nat
 | .atom _=>1
 | .list l=>1+E.iM l
def E.iM:List E->Nat
 |[]=>0
 |e::l=>e.sz+E.iM l
end
mutual
def E.ok:E->Prop
 | .atom s=>s≠[]
 | .list l=>E.AX l
def E.AX:List E->Prop
 |[]=>True
 |e::l=>e.ok/\E.AX l
end
theorem wG(l r:List E):E.iM (l++r)=E.iM l+E.iM r:=by
 induction l with
 |nil=>simp[E.iM]
 |cons e l ih=>simp[E.iM,ih];omega
theorem wZ(l r:List E):E.AX (l++r)↔E.AX l/\E.AX r:=by
 induction l with
 |nil=>simp[E.AX]
 |cons e l ih=>simp[E.AX,ih,and_assoc]
theorem zF{f:List UInt8->Option (E×List UInt8)}(hf:∀s e r,f s=some (e,r)->e.ok/\e.sz+r.length<=s.length):∀(n:Nat) (s:List UInt8) (acc:List E) (e:E) (r:List UInt8),qW f n s acc=some (e,r)->E.AX acc->e.ok/\e.sz+r.length<=s.length+1+E.iM acc
 |0,s,acc,e,r,h,_=>by cases h
 |
  n+1,s,acc,e,r,h,ha=>by
  simp only[qW]at h
  split at h
  ·rename_i p c r' hs
   obtain⟨h1,h2⟩:=hf _ _ _ hs
   simp only[aw]at h2
   split at h
   ·cases h
    refine⟨(wZ _ _).2 ⟨ha,h1,trivial⟩,?_⟩
    simp only[E.sz,wG,E.iM];omega
   ·split at h
    ·have:=zF hf n _ _ _ _ h ((wZ _ _).2 ⟨ha,h1,trivial⟩)
     refine⟨this.1,?_⟩
     have h3:=this.2
     simp only[wG,E.iM]at h3;omega
    ·cases h
  ·cases h
theorem sW(s:List UInt8):(s.takeWhile en).length+(s.dropWhile en).length=s.length:=by
 have:=congrArg List.length (bN (p:=en) (l:=s))
 simpa only[al]using this
theorem Cm:∀(k:Nat) (s:List UInt8) (e:E) (r:List UInt8),rd k s=some (e,r)->e.ok/\e.sz+r.length<=s.length
 |
  0,s,e,r,h=>by
  simp only[rd]at h
  split at h
  ·cases h
  ·rename_i hn;cases h
   have:=sW s
   have:0<(s.takeWhile en).length:=List.length_pos_iff.2 hn
   exact⟨hn,by simp only[E.sz];omega⟩
 |
  k+1,s,e,r,h=>by
  simp only[rd]at h
  split at h
  ·split at h
   ·split at h
    ·have:=zF (Cm k) _ _ _ _ _ h trivial
     refine⟨this.1,?_⟩
     have h3:=this.2
     simp only[E.iM,aw]at h3 |-;omega
    ·cases h
   ·cases h
  ·rename_i hn;cases h
   have:=sW s
   have:0<(s.takeWhile en).length:=List.length_pos_iff.2 hn
   exact⟨hn,by simp only[E.sz];omega⟩
def pP(s:List UInt8):Option E:=if s.length>8000 then none else match rd 300 s with|some (e,[])=>some e|_=>none
theorem mT{s:List UInt8}{e:E}(h:pP s=some e):e.ok/\e.sz<=8000:=by
 unfold pP at h
 split at h
 ·cases h
 ·split at h
  ·rename_i e' hr
   cases h
   have:=Cm _ _ _ _ hr
   exact⟨this.1,by have:=this.2;simp at this;omega⟩
  ·cases h
def s4:Option E->AV
 |some e=>e.cF
 |none=>.v (.pointer none)
theorem Hw(s:List UInt8):au Tryz.prog 113 [.v (.string (mk s))] [] (bK (s4 (pP s))):=by
 refine MV _ ?_
 simp only[Kq,↓zq,zs,ae,zt,bK,pP]
 refine⟨fun h=>?_,fun h=>?_⟩
 ·rw[if_pos (by omega)];simp[s4]
 ·rw[if_neg (by omega)]
  refine an (Na 300 (by omega) s (by omega)) ?_
  cases hr:rd 300 s with
  |
   none =>
   simp only[np,↓zq,zs,ae,zt,s4]
   refine⟨fun _=>trivial,fun _=>trivial⟩
  |
   some q =>
   obtain⟨e,r⟩:=q
   cases r with
   |nil=>simp only[np,↓zq,zs,ae,zt,s4,cD];simp
   |cons c r=>simp only[np,↓zq,zs,ae,zt,s4,cD];simp
def gv(b:UInt8):Bool:=decide (48<=b.toNat/\b.toNat<=57)
def named(lo hi:Nat):List UInt8->Bool
 |[]=>false
 |c::r=>decide (r.length<=2)&&decide (lo<=c.toNat/\c.toNat<=hi)&&r.all gv
def gj(s:List UInt8):Bool:=named 120 122 s
def cK(s:List UInt8):Bool:=named 116 116 s
def Ci(v lo hi:Int):Bool:=decide (lo<=v/\v<=hi)
theorem Bj(v lo hi:Int):au Tryz.prog 60 [.v (.int .i64 v),.v (.int .i64 lo),.v (.int .i64 hi)] [] (bK (.v (.bool (Ci v lo hi)))):=by
 refine Lq _ _ _ ?_
 simp only[I1,↓zq,zs,ae,bK,Ci]
 constructor<;>intro h<;>simp at h<;>simp[h]
 omega
theorem KG(s:List UInt8)(hs:s.length<=3):∀(k i:Nat),i+k=s.length->FP [.v (.string (mk s)),.v (.int .i64 (i:Int))] [] (pI (if(s.drop i).all gv=true then(1,[],[])else(2,[.v (.bool false)],[])))
 |
  0,i,hi=>by
  have hd:s.drop i=[]:=bx (by omega)
  refine Hn _ _ ?_
  simp only[DT,↓zq,zs,ae,zt]
  exact⟨fun h=>by omega,fun _=>by simp[pI,hd]⟩
 |
  k+1,i,hi=>by
  have hlt:i<s.length:=by omega
  have e:s.drop i=s.getD i 0::s.drop (i+1):=by
   rw[aL hlt];simp[aa,hlt]
  refine Hn _ _ ?_
  simp only[DT,↓zq,zs,ae,zt,k9 s i hlt,e,cH]
  generalize hb:s.getD i 0=b
  refine⟨fun _=>⟨by omega,fun h=>?_,fun h=>⟨by omega,fun h2=>?_,fun h2=>?_⟩⟩,fun h=>by omega⟩
  ·have:gv b=false:=by simp[gv];omega
   simp only[this,zf,pI]
  ·have:gv b=false:=by simp[gv];omega
   simp only[this,zf,pI]
  ·have:gv b=true:=by simp[gv];omega
   rw[bp i (by omega),this,bA]
   exact KG s hs k (i+1) (by omega)
theorem J9(s:List UInt8)(lo hi:Nat):au Tryz.prog 140 [.v (.string (mk s)),.v (.int .u8 (lo:Int)),.v (.int .u8 (hi:Int))] [] (bK (.v (.bool (named lo hi s)))):=by
 refine LD _ _ _ ?_
 unfold J0
 rw[gC]
 refine an (Bj _ _ _) ?_
 simp only[↓zq,zs,ae,zt,bK]
 refine⟨fun h=>?_,fun h=>?_⟩
 ·cases s with
  |nil=>rfl
  |
   cons c s =>
   simp[Ci]at h
   have:¬s.length<=2:=by omega
   simp[named,this]
 ·cases s with
  |nil=>simp[Ci]at h
  |
   cons c s =>
   simp[Ci]at h
   have hl:s.length<=2:=by omega
   have hb:=k9 (c::s) 0 (by simp)
   simp only[cA,cO]at hb
   simp only[↓zq,zs,ae,hb]
   refine⟨by omega,fun h1=>?_,fun h1=>⟨by omega,fun h2=>?_,fun h2=>?_⟩⟩
   ·have:¬lo<=c.toNat:=by omega
    simp[named,this]
   ·have:¬c.toNat<=hi:=by omega
    simp[named,this]
   ·refine gK (KG (c::s) (by simp;omega) s.length 1 (by simp;omega)) (fun ys o e=>?_) (fun ys o e=>?_)
    ·split at e<;>cases e
     rename_i ha
     simp at ha
     simp only[↓zq,zs,ae]
     simp[named,hl]
     exact⟨⟨by omega,by omega⟩,fun x hx=>by simpa using ha x hx⟩
    ·split at e<;>cases e
     rename_i ha
     simp only[↓zq,zs,ae]
     have:s.all gv=false:=by simpa using ha
     simp[named,this]
theorem C8(s:List UInt8):au Tryz.prog 101 [.v (.string (mk s))] [] (bK (.v (.bool (gj s)))):=by
 refine L9 _ ?_
 unfold IR
 refine an (J9 s 120 122) ?_
 simp only[↓zq,zs,ae,bK,gj]
theorem DE(s:List UInt8):au Tryz.prog 99 [.v (.string (mk s))] [] (bK (.v (.bool (cK s)))):=by
 refine Nv _ ?_
 unfold IT
 refine an (J9 s 116 116) ?_
 simp only[↓zq,zs,ae,bK,cK]
end Go.Proofs.Trees
namespace Go.Proofs.Trees
open Go Go.VL Go.RowKit
theorem ND(l:List UInt8)(c:UInt8):au Tryz.prog 178 [.v (.string (mk l)),.v (.string (mk [c]))] [] (bK (.v (.bool (decide (0<=Lib.indexByte l c))))):=by
 refine au.Oi (xs:=[.string (mk l),.string (mk [c])]) ⟨mw,by kernel_rfl,by kernel_rfl,by kernel_rfl⟩ fun w=>?_
 have:=Any.strings_Contains_one Tryz.AT (mk l) c w
 refine Calls.mono this fun e w' ⟨h1,h2⟩=>?_
 rw[h2]
 have hd:(mk l).data.toList=l:=by simp[mk]
 exact⟨by rw[h1,hd],Below.refl _ _⟩
theorem Ib(l cs:List UInt8)(hl:l.length<=1000000)(hc:cs.length<=1000)(ha:∀b,b∈cs->b.toNat<128):au Tryz.prog 169 [.v (.string (mk l)),.v (.string (mk cs))] [] (bK (.v (.string (mk (Lib.trimS l cs))))):=by
 refine au.Oi (xs:=[.string (mk l),.string (mk cs)]) ⟨py,by kernel_rfl,by kernel_rfl,by kernel_rfl⟩ fun w=>?_
 have:=Any.strings_Trim_laid Tryz.AY (by kernel_rfl) (mk l) (mk cs) w (by rw[gC];omega) (by rw[gC];omega) (fun j b hj=>ha b (by
  have:(mk cs).data.toList=cs:=by simp[mk]
  rw[this]at hj
  exact List.mem_of_getElem? hj))
 refine Calls.mono this fun e w' ⟨h1,h2⟩=>⟨?_,h2⟩
 rw[h1]
 simp[mk]
theorem mC:∀(l:List UInt8) (c:UInt8),(0<=Lib.indexByte l c↔c∈l)/\-1<=Lib.indexByte l c
 |[],c=>by simp[Lib.indexByte]
 |
  b::l,c=>by
  obtain⟨h1,h2⟩:=mC l c
  unfold Lib.indexByte
  by_cases e:b=c
  ·subst e;simp
  ·have e':(b==c)=false:=by simp[e]
   rw[e']
   by_cases q:Lib.indexByte l c = -1
   ·have:c∉l:=fun h=>by have:=h1.2 h;omega
    simp[q,this,Ne.symm e]
   ·have q':(Lib.indexByte l c==-1)=false:=by simp[q]
    simp only[q',Bool.false_eq_true,if_false,aE]
    constructor
    ·constructor
     ·intro h;exact .inr (h1.1 (by omega))
     ·intro h
      rcases h with h|h
      ·exact absurd h.symm e
      ·have:=h1.2 h;omega
    ·omega
theorem dropWhile_nil{p:UInt8->Bool}:∀(l:List UInt8),l.dropWhile p=[]↔l.all p=true
 |[]=>by simp
 |
  b::l=>by
  cases h:p b with
  |true=>rw[List.dropWhile_cons_of_pos h,dropWhile_nil l];simp[h]
  |false=>rw[List.dropWhile_cons_of_neg (by rw[h];simp)];simp[h]
theorem rI(l cs:List UInt8):Lib.trimS l cs=[]↔l.all (cs.contains ·)=true:=by
 unfold Lib.trimS Lib.trimLeftS
 rw[dropWhile_nil]
 unfold Lib.trimRightS
 constructor
 ·intro h
  by_cases hn:l.reverse.dropWhile (cs.contains ·)=[]
  ·rw[dropWhile_nil]at hn
   simpa using hn
  ·exfalso
   rw[List.all_reverse]at h
   obtain⟨b,r,e⟩:=List.exists_cons_of_ne_nil hn
   have h1:cs.contains b=false:=by
    have:=List.head_dropWhile_not (p:=(cs.contains ·)) (l:=l.reverse) hn
    simp only[e,List.head_cons]at this
    exact this
   rw[e]at h
   simp only[cH,aq]at h
   rw[h1]at h;cases h.1
 ·intro h
  have:l.reverse.dropWhile (cs.contains ·)=[]:=by rw[dropWhile_nil];simpa using h
  rw[this];rfl
def Dm:List UInt8:=[48,49,50,51,52,53,54,55,56,57]
theorem uu(b:UInt8):Dm.contains b=gv b:=by
 have:∀n:Fin 256,Dm.contains (aZ n.val)=gv (aZ n.val):=by decide +kernel
 have:=this ⟨b.toNat,b.toNat_lt⟩
 simpa using this
theorem Hj(s ls:List UInt8)(lo hi:Nat)(hls:∀c:UInt8,c∈ls↔lo<=c.toNat/\c.toNat<=hi):au Tryz.prog 163 [.v (.string (mk s)),.v (.string (mk ls))] [] (bK (.v (.bool (named lo hi s)))):=by
 refine Lf _ _ ?_
 simp only[Hx,↓zq,zs,ae,zt,bK]
 cases s with
 |nil=>exact⟨fun h=>by simp at h,fun _=>rfl⟩
 |
  cons c s =>
  have e1:(List.take (bE 1) (c::s))=[c]:=rfl
  have e2:(List.take (s.length+1) (c::s)).drop (bE 1)=s:=by simp
  simp only[aw,e1,e2]
  refine⟨fun _=>⟨fun h3=>⟨by omega,?_⟩,fun h3=>?_⟩,fun h=>by omega⟩
  ·have hl:s.length<=2:=by omega
   refine an (ND ls c) ?_
   simp only[↓zq,zs,ae]
   have hi1:=(mC ls c).1
   refine⟨fun h=>⟨by omega,?_⟩,fun h=>?_⟩
   ·refine an (Ib s Dm (by omega) (by decide) (by decide)) ?_
    simp only[↓zq,zs,ae,zt]
    have hc:=(hls c).1 (hi1.1 h)
    congr 2
    rw[cj,beq_iff_eq,rI]
    simp only[named,hl,hc,decide_true,bA,and_self]
    have:(fun x=>Dm.contains x)=gv:=funext uu
    rw[this]
   ·have hc:¬(lo<=c.toNat/\c.toNat<=hi):=fun h'=>h (hi1.2 ((hls c).2 h'))
    simp only[named,hc,zf]
  ·have hl:¬s.length<=2:=by omega
   simp only[named,hl,zf]
theorem Jl(s:List UInt8):au Tryz.prog 145 [.v (.string (mk s))] [] (bK (.v (.bool (gj s)))):=by
 refine M6 _ ?_
 unfold I9
 have h:∀n:Fin 256,(aZ n.val∈[(120:UInt8),121,122])↔120<=(aZ n.val).toNat/\(aZ n.val).toNat<=122:=by decide +kernel
 refine an (Hj s [120,121,122] 120 122 fun c=>by simpa using h ⟨c.toNat,c.toNat_lt⟩) ?_
 simp only[↓zq,zs,ae,bK,gj]
theorem Bs(s:List UInt8):au Tryz.prog 146 [.v (.string (mk s))] [] (bK (.v (.bool (cK s)))):=by
 refine ME _ ?_
 unfold If
 have h:∀n:Fin 256,(aZ n.val∈[(116:UInt8)])↔116<=(aZ n.val).toNat/\(aZ n.val).toNat<=116:=by decide +kernel
 refine an (Hj s [116] 116 116 fun c=>by simpa using h ⟨c.toNat,c.toNat_lt⟩) ?_
 simp only[↓zq,zs,ae,bK,cK]
end Go.Proofs.Trees
namespace Go.Proofs.Trees
open Go Go.VL
inductive Ty where
 |zero|one
 |name (s:List UInt8)
 |cc (up:Nat)
 |plus (a b:Ty)
 |times (a b:Ty)
 |rc (a:Ty)
def Ty.av:Ty->AV
 | .zero=>.ptr [.v (.int .u8 48),.v (.string (mk [])),.v (.int .i64 0),.v (.pointer none),.v (.pointer none)]
 | .one=>.ptr [.v (.int .u8 49),.v (.string (mk [])),.v (.int .i64 0),.v (.pointer none),.v (.pointer none)]
 | .name s=>.ptr [.v (.int .u8 110),.v (.string (mk s)),.v (.int .i64 0),.v (.pointer none),.v (.pointer none)]
 | .cc up=>.ptr [.v (.int .u8 98),.v (.string (mk [])),.v (.int .i64 (up:Int)),.v (.pointer none),.v (.pointer none)]
 | .plus a b=>.ptr [.v (.int .u8 43),.v (.string (mk [])),.v (.int .i64 0),a.av,b.av]
 | .times a b=>.ptr [.v (.int .u8 42),.v (.string (mk [])),.v (.int .i64 0),a.av,b.av]
 | .rc a=>.ptr [.v (.int .u8 114),.v (.string (mk [])),.v (.int .i64 0),a.av,.v (.pointer none)]
theorem be(t:Ty):LK.has .ptr t.av=True:=by cases t<;>simp[Ty.av,dO]
theorem fH(t:Ty):t.av.isNil=false:=by cases t<;>rfl
def iB:Option Ty->AV
 |some t=>t.av
 |none=>.v (.pointer none)
theorem kj(t:Option Ty):LK.has .ptr (iB t)=True:=by cases t<;>simp[iB,be,jO]
def E.at:E->List UInt8
 | .atom s=>s
 | .list _=>[]
def bB(s:List UInt8)(ar:List (List UInt8)):Nat->Option Nat
 |0=>none
 |i+1=>if ar.getD i []=s then some (ar.length-1-i)else bB s ar i
def cz:E->List (List UInt8)->Option Ty
 | .atom s,ar=>if s=[48]then some .zero else if s=[49]then some .one else if gj s=true then some (.name s)else if cK s=true then(match bB s ar ar.length with|some u=>some (.cc u)|none=>some (.name s))else none
 |
  .list [x,a,b],ar =>
  if x.at=[43]then(match cz a ar,cz b ar with|some t,some u=>some (.plus t u)|_,_=>none)
  else if x.at=[42]then(match cz a ar,cz b ar with|some t,some u=>some (.times t u)|_,_=>none)
  else if x.at=[114,101,99]then(if cK a.at=true then(match cz b (ar++[a.at])with|some t=>some (.rc t)|none=>none)else none)
  else none
 | .list _,_=>none
def cg(l:List (List UInt8)):List (List AV):=l.map fun s=>[.v (.string (mk s))]
def dL(a:AV)(l:List (List UInt8)):Prop:=LK.sl.has a/\a.aM=cg l
theorem dL.len{a:AV}{l:List (List UInt8)}(h:dL a l):a.aM.length=l.length:=by rw[h.2];simp[cg]
theorem dL.idx{a:AV}{l:List (List UInt8)}(h:dL a l){i:Nat}(hi:i<l.length):a.aM.getD i []=[.v (.string (mk (l.getD i [])))]:=by
 rw[h.2];simp[cg,aa,hi]
theorem dL.of(l:List (List UInt8)):dL (.sl (cg l)) l:=⟨(bU _).mpr trivial,rfl⟩
theorem dL.nil:dL (.v (.slice none 0 0)) []:=⟨(bg).mpr trivial,rfl⟩
theorem wi(e:E)(w:List UInt8):au Tryz.prog 147 [e.cF,.v (.string (mk w)),.v (.int .i64 3)] [] (bK (.v (.bool (match e with| .list [x,_,_]=>x.at==w|_=>false)))):=by
 refine H0 _ _ _ ((cD e).mpr trivial) ?_
 cases e with
 |atom s=>simp only[yu,E.cF,↓zq,zs,ae,zt,bK];exact⟨by omega,fun h=>by omega,fun _=>trivial⟩
 |
  list l =>
  simp only[yu,E.cF,↓zq,zs,ae,zt,bK,qw]
  match l with
  |[]=>exact⟨by simp,fun h=>by simp at h,fun _=>rfl⟩
  |[_]=>exact⟨by simp,fun h=>by simp at h,fun _=>rfl⟩
  |[_,_]=>exact⟨by simp,fun h=>by simp at h,fun _=>rfl⟩
  |
   [x,y,z] =>
   refine⟨by simp,fun _=>?_,fun h=>by simp at h⟩
   cases x<;>simp[E.lg,E.cF,dO,oj,ja,eI,tb,toList_mk,E.at]
  |_::_::_::_::l=>exact⟨by simp,fun h=>by simp at h;omega,fun _=>rfl⟩
theorem KN(e:E)(a:AV)(ar:List (List UInt8))(ha:dL a ar)(hl:ar.length<1000000):∀(i:Nat),i<=ar.length->Ds [e.cF,a,.v (.int .i64 ((i:Int)-1))] []
 (pI (match bB e.at ar i with|some u=>(2,[],[.cells [.v (.int .u8 98),.v (.string (mk [])),.v (.int .i64 (u:Int)),.v (.pointer none),.v (.pointer none)]])|none=>(1,[e.cF],[])))
 |
  0,hi=>by
  refine HU _ _ _ ?_
  simp only[D6,↓zq,zs,ae,cD]
  exact⟨ha.1,fun h=>by omega,fun _=>rfl⟩
 |
  i+1,hi=>by
  have hlt:i<ar.length:=by omega
  have e1:((i+1:Nat):Int)-1=(i:Int):=by omega
  rw[e1]
  refine HU _ _ _ ?_
  have hd:e.cF.deref.headD .any=.v (.string (mk e.at)):=by cases e<;>rfl
  have hdl:1<=e.cF.deref.length:=by cases e<;>simp[E.cF,ja]
  simp only[D6,↓zq,zs,ae,zt,cD,dI,ha.len,ha.idx hlt,hd,qo]
  refine⟨ha.1,fun _=>⟨⟨ha.1,by omega,by omega⟩,by omega,hdl,fun h=>⟨ha.1,?_⟩,fun h=>?_⟩,fun h=>by omega⟩
  ·simp only[bB,h,if_true,pI]
   rw[wrap64 ((ar.length:Int)-1) (by omega) (by omega),wrap64 _ (by omega) (by omega)]
   have:(ar.length:Int)-1-(i:Int)=((ar.length-1-i:Nat):Int):=by omega
   rw[this]
  ·simp only[bB,h,if_false]
   rw[wrap64 _ (by omega) (by omega)]
   exact KN e a ar ha hl i (by omega)
end Go.Proofs.Trees
namespace Go.Proofs.Trees
open Go Go.VL
theorem mK(e:E):e.cF.deref.headD .any=.v (.string (mk e.at)):=by cases e<;>rfl
theorem kz(e:E):1<=e.cF.deref.length:=by cases e<;>simp[E.cF,ja]
theorem toNat_one:bE 1=1:=rfl
theorem bj:bE 2=2:=rfl
theorem Ga{ar:List (List UInt8)}(s:List UInt8):cg ar++[[.v (.string (mk s))]]=cg (ar++[s]):=by simp[cg]
theorem lP(ar:List (List UInt8)):cb 1 (cg ar):=fun c hc=>by
 obtain⟨s,_,rfl⟩:=bP.1 hc;rfl
theorem j9{x a b:E}(ar:List (List UInt8))(hx:x.at=[43]):cz (.list [x,a,b]) ar=match cz a ar,cz b ar with|some t,some u=>some (.plus t u)|_,_=>none:=by rw[cz,if_pos hx]<;>cases cz a ar<;>cases cz b ar<;>rfl
theorem jk{x a b:E}(ar:List (List UInt8))(hx:x.at=[42]):cz (.list [x,a,b]) ar=match cz a ar,cz b ar with|some t,some u=>some (.times t u)|_,_=>none:=by rw[cz,if_neg (by rw[hx];decide),if_pos hx]<;>cases cz a ar<;>cases cz b ar<;>rfl
theorem lZ{x a b:E}(ar:List (List UInt8))(hx:x.at=[114,101,99]):cz (.list [x,a,b]) ar=if cK a.at=true then(match cz b (ar++[a.at])with|some t=>some (.rc t)|none=>none)else none:=by rw[cz,if_neg (by rw[hx];decide),if_neg (by rw[hx];decide),if_pos hx]<;>cases cz b (ar++[a.at])<;>rfl
theorem iu{x a b:E}(ar:List (List UInt8))(h1:x.at≠[43])(h2:x.at≠[42])(h3:x.at≠[114,101,99]):cz (.list [x,a,b]) ar=none:=by rw[cz,if_neg h1,if_neg h2,if_neg h3]
theorem Cd:∀(e:E) (ar:List (List UInt8)) (a:AV),e.ok->dL a ar->ar.length+e.sz<100000->au Tryz.prog 114 [e.cF,a] [] (bK (iB (cz e ar)))
 |
  .atom s,ar,a,hok,ha,hl=>by
  simp only[E.sz]at hl
  refine Ka _ _ ((cD _).mpr trivial) ha.1 ?_
  have hd:=mK (.atom s)
  have hlen:=kz (.atom s)
  simp only[E.at]at hd
  simp only[FG,↓zq,zs,ae,zt,bK,cD,dI,hd,cz]
  refine⟨hlen,fun h=>⟨hlen,?_,?_⟩,fun h=>⟨hlen,fun h1=>⟨hlen,?_,?_⟩,fun h1=>⟨hlen,?_⟩⟩⟩
  ·rw[h];decide
  ·rw[if_pos h,h];rfl
  ·rw[h1];decide
  ·rw[if_neg h,if_pos h1,h1];rfl
  ·rw[if_neg h,if_neg h1]
   refine an (Jl s) ?_
   simp only[↓zq,zs,ae]
   refine⟨fun hp=>⟨hlen,?_⟩,fun hp=>⟨hlen,?_⟩⟩
   ·rw[if_pos hp];rfl
   ·rw[if_neg (by rw[hp];simp)]
    refine an (Bs s) ?_
    simp only[↓zq,zs,ae,ha.len]
    refine⟨fun hq=>⟨ha.1,?_⟩,fun hq=>?_⟩
    ·rw[if_pos hq,wrap64 _ (by omega) (by omega)]
     refine gK (KN (.atom s) a ar ha (by omega) ar.length (by omega)) (fun ys o e=>?_) (fun ys o e=>?_)
     ·simp only[E.at]at e
      cases hq2:bB s ar ar.length<;>rw[hq2]at e<;>cases e
      simp only[↓zq,zs,ae,zt,cD,dI,hd]
      exact⟨hlen,rfl⟩
     ·simp only[E.at]at e
      cases hq2:bB s ar ar.length<;>rw[hq2]at e<;>cases e
      simp only[↓zq,zs,ae,zt,LK.has]
      simp[iB,Ty.av,ae,LK.has]
    ·rw[if_neg (by rw[hq];simp)]
     refine an (wi (.atom s) [43]) ?_
     simp only[↓zq,zs,ae]
     refine⟨fun h=>(by simp at h),fun _=>?_⟩
     refine an (wi (.atom s) [42]) ?_
     simp only[↓zq,zs,ae]
     refine⟨fun h=>(by simp at h),fun _=>?_⟩
     refine an (wi (.atom s) [114,101,99]) ?_
     simp only[↓zq,zs,ae]
     refine⟨fun h=>(by simp at h),fun _=>?_⟩
     trivial
 |
  .list l,ar,a,hok,ha,hl=>by
  simp only[E.sz]at hl
  refine Ka _ _ ((cD _).mpr trivial) ha.1 ?_
  have hd:=mK (.list l)
  have hlen:=kz (.list l)
  simp only[E.at]at hd
  have hp:gj []=false:=rfl
  have hq:cK []=false:=rfl
  simp only[FG,↓zq,zs,ae,zt,bK,cD,dI,hd]
  refine⟨hlen,fun h=>(by simp at h),fun h=>⟨hlen,fun h1=>(by simp at h1),fun h1=>⟨hlen,?_⟩⟩⟩
  refine an (Jl []) ?_
  simp only[↓zq,zs,ae,hp]
  refine⟨fun h=>(by simp at h),fun _=>⟨hlen,?_⟩⟩
  refine an (Bs []) ?_
  simp only[↓zq,zs,ae,hq]
  refine⟨fun h=>(by simp at h),fun _=>?_⟩
  refine an (wi (.list l) [43]) ?_
  match l,hok,hl with
  |
   [x,y,z],hok,hl =>
   simp only[E.iM]at hl
   obtain⟨ok1,ok2,ok3,_⟩:=hok
   have iy:=Cd y ar a ok2 ha (by omega)
   have iz:=Cd z ar a ok3 ha (by omega)
   have hds:((E.list [x,y,z]).cF.deref.drop 1).headD .any=.sl [[x.cF],[y.cF],[z.cF]]:=rfl
   have hdl:1<=((E.list [x,y,z]).cF.deref.drop 1).length:=by simp[E.cF,ja]
   have hxd:=mK x
   have hxl:=kz x
   have hyd:=mK y
   have hyl:=kz y
   have bin:∀(c:UInt8) (mkT:Ty->Ty->Ty),(∀t u:Ty,(mkT t u).av=.ptr [.v (.int .u8 (c.toNat:Int)),.v (.string (mk [])),.v (.int .i64 0),t.av,u.av])->x.at=[c]->bt (mk x.at) 0=(c.toNat:Int):=fun c _ _ hx=>by
    have:=k9 x.at 0 (by rw[hx];simp)
    simp only[cA,cO]at this
    rw[this,hx];rfl
   simp only[↓zq,zs,ae,zt,hds,hdl,cD,dI,toNat_one,bj,hxd,hyd,qo]
   refine⟨fun hx=>?_,fun hx=>?_⟩
   ·refine⟨by omega,by omega,?_⟩
    refine an iy ?_
    simp only[↓zq,zs,ae,kj]
    refine⟨by omega,by omega,?_⟩
    refine an iz ?_
    have hb:=bin 43 Ty.plus (fun _ _=>rfl) hx
    rw[j9 ar hx]
    simp only[↓zq,zs,ae,zt,kj]
    cases h1:cz y ar with
    |none=>simp[iB,i7]
    |
     some t =>
     cases h2:cz z ar with
     |none=>simp[iB,i7,fH]
     |
      some u =>
      simp only[iB,fH,hb]
      refine⟨fun h=>(by cases h),fun _=>⟨fun h=>(by cases h),fun _=>⟨by omega,by omega,hxl,⟨by omega,by rw[hx];simp⟩,rfl⟩⟩⟩
   ·refine an (wi (.list [x,y,z]) [42]) ?_
    simp only[↓zq,zs,ae,hds,hdl,cD,dI,toNat_one,bj,hxd,hyd,qo]
    refine⟨fun hx2=>?_,fun hx2=>?_⟩
    ·refine⟨by omega,by omega,?_⟩
     refine an iy ?_
     simp only[↓zq,zs,ae,kj]
     refine⟨by omega,by omega,?_⟩
     refine an iz ?_
     have hb:=bin 42 Ty.times (fun _ _=>rfl) hx2
     rw[jk ar hx2]
     simp only[↓zq,zs,ae,zt,kj]
     cases h1:cz y ar with
     |none=>simp[iB,i7]
     |
      some t =>
      cases h2:cz z ar with
      |none=>simp[iB,i7,fH]
      |
       some u =>
       simp only[iB,fH,hb]
       refine⟨fun h=>(by cases h),fun _=>⟨fun h=>(by cases h),fun _=>⟨by omega,by omega,hxl,⟨by omega,by rw[hx2];simp⟩,rfl⟩⟩⟩
    ·refine an (wi (.list [x,y,z]) [114,101,99]) ?_
     simp only[↓zq,zs,ae,zt,hds,hdl,cD,dI,toNat_one,bj,hxd,hyd,qo]
     refine⟨fun hx3=>⟨by omega,by omega,hyl,?_⟩,fun hx3=>?_⟩
     ·refine an (Bs y.at) ?_
      rw[lZ ar hx3]
      simp only[↓zq,zs,ae]
      have hal:cb 1 a.aM:=by rw[ha.2];exact lP ar
      have hal1:cb 1 [[AV.v (.string (mk y.at))]]:=fun c hc=>by simp at hc;rw[hc];rfl
      refine⟨fun hlo=>⟨by omega,by omega,⟨ha.1,hal,by rw[ha.len];omega⟩,by omega,by omega,hyl,⟨hal1,by rw[bh,ha.len];omega⟩,?_⟩,fun hlo=>?_⟩
      ·rw[bh,ha.2,Ga,if_pos hlo]
       refine an (Cd z (ar++[y.at]) _ ok3 (.of _) (by simp;omega)) ?_
       simp only[↓zq,zs,ae,kj]
       cases h2:cz z (ar++[y.at])with
       |none=>simp[iB,i7]
       |
        some u =>
        simp only[iB,fH]
        refine⟨fun h=>(by cases h),fun _=>rfl⟩
      ·rw[if_neg (by rw[hlo];simp)];rfl
     ·rw[iu ar hx hx2 hx3];rfl
  |
   [],_,_ =>
   simp only[↓zq,zs,ae]
   refine⟨fun h=>(by cases h),fun _=>?_⟩
   refine an (wi (.list []) [42]) ?_
   simp only[↓zq,zs,ae]
   refine⟨fun h=>(by cases h),fun _=>?_⟩
   refine an (wi (.list []) [114,101,99]) ?_
   simp only[↓zq,zs,ae]
   refine⟨fun h=>(by cases h),fun _=>?_⟩
   rfl
  |
   [x1],_,_ =>
   simp only[↓zq,zs,ae]
   refine⟨fun h=>(by cases h),fun _=>?_⟩
   refine an (wi (.list [x1]) [42]) ?_
   simp only[↓zq,zs,ae]
   refine⟨fun h=>(by cases h),fun _=>?_⟩
   refine an (wi (.list [x1]) [114,101,99]) ?_
   simp only[↓zq,zs,ae]
   refine⟨fun h=>(by cases h),fun _=>?_⟩
   rfl
  |
   [x1,x2],_,_ =>
   simp only[↓zq,zs,ae]
   refine⟨fun h=>(by cases h),fun _=>?_⟩
   refine an (wi (.list [x1,x2]) [42]) ?_
   simp only[↓zq,zs,ae]
   refine⟨fun h=>(by cases h),fun _=>?_⟩
   refine an (wi (.list [x1,x2]) [114,101,99]) ?_
   simp only[↓zq,zs,ae]
   refine⟨fun h=>(by cases h),fun _=>?_⟩
   rfl
  |
   x1::x2::x3::x4::l,_,_ =>
   simp only[↓zq,zs,ae]
   refine⟨fun h=>(by cases h),fun _=>?_⟩
   refine an (wi (.list (x1::x2::x3::x4::l)) [42]) ?_
   simp only[↓zq,zs,ae]
   refine⟨fun h=>(by cases h),fun _=>?_⟩
   refine an (wi (.list (x1::x2::x3::x4::l)) [114,101,99]) ?_
   simp only[↓zq,zs,ae]
   refine⟨fun h=>(by cases h),fun _=>?_⟩
   rfl
end Go.Proofs.Trees
namespace Go.Proofs.Trees
open Go Go.VL
def cZ(v:AV)(obs:List Ob):AV->List Ob->Prop:=fun r o=>r=v/\o=obs
theorem bM{P:Program}{n:Nat}{Q:Nat->List AV->List Ob->Prop}{f:Nat}{xs:List AV}{ins:List Ob}{k:AV->List Ob->Tree}{v:AV}{obs:List Ob}(h:au P f xs ins (cZ v obs))(hk:ek P n (k v obs) Q):ek P n (.call f xs ins k) Q :=
 ⟨cZ v obs,h,⟨v,obs,rfl,rfl⟩,fun r o ⟨h1,h2⟩=>by rw[h1,h2];exact hk⟩
def Ty.aX:Ty->Nat
 | .plus a b=>1+a.aX+b.aX
 | .times a b=>1+a.aX+b.aX
 | .rc a=>2+a.aX
 |_=>1
theorem F5:∀(t:Ty),t.aX<1000000->au Tryz.prog 115 [t.av] [] (bK (.v (.int .i64 (t.aX:Int))))
 | .zero,h=>by refine Et _ ((be _).mpr trivial) ?_;simp[CB,Ty.av,↓zq,zs,ae,bK,Ty.aX]
 | .one,h=>by refine Et _ ((be _).mpr trivial) ?_;simp[CB,Ty.av,↓zq,zs,ae,bK,Ty.aX]
 | .name s,h=>by refine Et _ ((be _).mpr trivial) ?_;simp[CB,Ty.av,↓zq,zs,ae,bK,Ty.aX]
 | .cc u,h=>by refine Et _ ((be _).mpr trivial) ?_;simp[CB,Ty.av,↓zq,zs,ae,bK,Ty.aX]
 |
  .plus a b,h=>by
  simp only[Ty.aX]at h
  refine Et _ ((be _).mpr trivial) ?_
  simp only[CB,Ty.av,↓zq,zs,ae,be]
  refine⟨by omega,fun _=>⟨by omega,?_⟩,fun h=>absurd rfl h⟩
  refine an (F5 a (by omega)) ?_
  simp only[↓zq,zs,ae,be]
  refine⟨by omega,?_⟩
  refine an (F5 b (by omega)) ?_
  simp only[↓zq,zs,ae,bK,Ty.aX]
  rw[wrap64 (1+(a.aX:Int)) (by omega) (by omega),wrap64 _ (by omega) (by omega)]
  congr 2
 |
  .times a b,h=>by
  simp only[Ty.aX]at h
  refine Et _ ((be _).mpr trivial) ?_
  simp only[CB,Ty.av,↓zq,zs,ae,be]
  refine⟨by omega,fun h=>by omega,fun _=>⟨fun _=>⟨by omega,?_⟩,fun h=>absurd rfl h⟩⟩
  refine an (F5 a (by omega)) ?_
  simp only[↓zq,zs,ae,be]
  refine⟨by omega,?_⟩
  refine an (F5 b (by omega)) ?_
  simp only[↓zq,zs,ae,bK,Ty.aX]
  rw[wrap64 (1+(a.aX:Int)) (by omega) (by omega),wrap64 _ (by omega) (by omega)]
  congr 2
 |
  .rc a,h=>by
  simp only[Ty.aX]at h
  refine Et _ ((be _).mpr trivial) ?_
  simp only[CB,Ty.av,↓zq,zs,ae,be]
  refine⟨by omega,fun h=>by omega,fun _=>⟨fun h=>by omega,fun _=>⟨fun _=>⟨by omega,?_⟩,fun h=>absurd rfl h⟩⟩⟩
  refine an (F5 a (by omega)) ?_
  simp only[↓zq,zs,ae,bK,Ty.aX]
  rw[wrap64 _ (by omega) (by omega)]
  congr 2
theorem ib:∀(e:E) (ar:List (List UInt8)) (t:Ty),cz e ar=some t->t.aX<=e.sz
 |
  .atom s,ar,t,h=>by
  simp only[cz]at h
  simp only[E.sz]
  split at h
  ·cases h;simp[Ty.aX]
  ·split at h
   ·cases h;simp[Ty.aX]
   ·split at h
    ·cases h;simp[Ty.aX]
    ·split at h
     ·split at h<;>cases h<;>simp[Ty.aX]
     ·cases h
 |
  .list [x,a,b],ar,t,h=>by
  have hs:∀e:E,1<=e.sz:=fun e=>by cases e<;>simp[E.sz];try omega
  have hx:=hs x
  have ha:=hs a
  simp only[E.sz,E.iM]
  by_cases h1:x.at=[43]
  ·rw[j9 ar h1]at h
   split at h
   ·rename_i t1 t2 e1 e2
    cases h
    have:=ib a ar t1 e1
    have:=ib b ar t2 e2
    simp only[Ty.aX];omega
   ·cases h
  ·by_cases h2:x.at=[42]
   ·rw[jk ar h2]at h
    split at h
    ·rename_i t1 t2 e1 e2
     cases h
     have:=ib a ar t1 e1
     have:=ib b ar t2 e2
     simp only[Ty.aX];omega
    ·cases h
   ·by_cases h3:x.at=[114,101,99]
    ·rw[lZ ar h3]at h
     split at h
     ·split at h
      ·rename_i t1 e1
       cases h
       have:=ib b _ t1 e1
       simp only[Ty.aX];omega
      ·cases h
     ·cases h
    ·rw[iu ar h1 h2 h3]at h;cases h
 | .list [],_,_,h=>by cases h
 | .list [_],_,_,h=>by cases h
 | .list [_,_],_,_,h=>by cases h
 | .list (_::_::_::_::_),_,_,h=>by cases h
def tO(s:List UInt8):Option Ty:=match pP s with
 |none=>none
 |
  some e=>match cz e []with
  |none=>none
  |some t=>if t.aX>400 then none else some t
theorem MI(s:List UInt8):au Tryz.prog 84 [.v (.string (mk s))] [] (bK (iB (tO s))):=by
 refine MT _ ?_
 unfold Ij
 refine an (Hw s) ?_
 unfold tO
 cases he:pP s with
 |none=>simp only[s4,↓zq,zs,ae,bK,iB];simp
 |
  some e =>
  obtain⟨h1,h2⟩:=mT he
  simp only[s4,↓zq,zs,ae,cD,dI]
  refine⟨fun h=>(by cases h),fun _=>?_⟩
  refine an (Cd e [] _ h1 .nil (by simp;omega)) ?_
  cases ht:cz e []with
  |none=>simp only[iB,↓zq,zs,ae,bK];simp
  |
   some t =>
   have:=ib e [] t ht
   simp only[iB,↓zq,zs,ae,be,fH]
   refine⟨fun h=>(by cases h),fun _=>?_⟩
   refine an (F5 t (by omega)) ?_
   simp only[↓zq,zs,ae,bK]
   refine⟨fun h=>?_,fun h=>?_⟩
   ·rw[if_pos (by omega)]
   ·rw[if_neg (by omega)]
end Go.Proofs.Trees
namespace Go.Proofs.Trees
open Go Go.VL
def yh(p:Prop):Nat->List AV->List Ob->Prop:=fun t ys o=>(t=1/\¬p/\ys=[]/\o=[])\/(t=2/\p/\∃j:Nat,ys=[.v (.int .i64 (j:Int))]/\o=[])
theorem KA(l:List (List UInt8))(a:AV)(ha:dL a l)(s:List UInt8)(hl:l.length<1000000):∀(k i:Nat),i+k=l.length->s∉l.take i->FJ [a,.v (.string (mk s)),.v (.int .i64 (l.length:Int)),.v (.int .i64 (i:Int))] []
 (yh (s∈l))
 |
  0,i,hi,hn=>by
  refine Hh _ _ _ _ ?_
  simp only[EJ,↓zq,zs,ae]
  have:l.take i=l:=List.take_of_length_le (by omega)
  rw[this]at hn
  exact⟨ha.1,fun h=>by omega,fun _=>.inl ⟨rfl,hn,rfl,rfl⟩⟩
 |
  k+1,i,hi,hn=>by
  have hlt:i<l.length:=by omega
  refine Hh _ _ _ _ ?_
  simp only[EJ,↓zq,zs,ae,zt,ha.len,ha.idx hlt]
  have hm:l.getD i []∈l:=by simp[aa,hlt]
  refine⟨ha.1,fun _=>⟨⟨ha.1,by omega,by omega⟩,by omega,fun h=>?_,fun h=>?_⟩,fun h=>by omega⟩
  ·exact .inr ⟨rfl,by rw[h];exact hm,i,rfl,rfl⟩
  ·rw[bp i (by omega)]
   refine KA l a ha s hl k (i+1) (by omega) ?_
   rw[List.take_add_one]
   simp only[aI,not_or]
   refine⟨hn,?_⟩
   have:l[i]?=some (l.getD i []):=by simp[aa,hlt]
   rw[this];simpa using h
theorem Nn(l:List (List UInt8))(a:AV)(ha:dL a l)(s:List UInt8)(hl:l.length<1000000):au Tryz.prog 152 [a,.v (.string (mk s))] [] (bK (.v (.bool (decide (s∈l))))):=by
 have hI:au Tryz.prog 167 [a,.v (.string (mk s))] [] (fun r o=>∃n:Int,r=.v (.int .i64 n)/\(0<=n↔s∈l)/\o=[]):=by
  refine Mw _ _ ha.1 ?_
  simp only[Gi,↓zq,zs,ae,ha.len]
  refine⟨ha.1,nW (KA l a ha s hl l.length 0 (by omega) (by simp)) ?_ ?_⟩
  ·rintro ys o (⟨_,h1,rfl,rfl⟩|⟨h,_⟩)
   ·simp only[↓zq,zs,ae]
    exact⟨-1,rfl,⟨fun h=>(by omega),fun h=>absurd h h1⟩⟩
   ·cases h
  ·rintro ys o (⟨h,_⟩|⟨_,h1,j,rfl,rfl⟩)
   ·cases h
   ·simp only[↓zq,zs,ae]
    exact⟨j,rfl,⟨fun _=>h1,fun _=>(by omega)⟩⟩
 refine Lh _ _ ha.1 ?_
 unfold Gz
 refine aU hI ⟨.v (.int .i64 (if s∈l then 0 else -1)),[],_,rfl,by split<;>simp_all,rfl⟩ ?_
 rintro r o ⟨n,rfl,hn,rfl⟩
 simp only[↓zq,zs,ae,bK]
 congr 2
 rw[cj];simp[hn]
def oh(out:List (List UInt8)):Ty->List (List UInt8)
 | .name s=>if s∈out then out else out++[s]
 |_=>out
theorem Dh(t:Ty)(out:List (List UInt8))(hl:out.length<100000):au Tryz.prog 166 [t.av,.ref 0 0] [.cells [.vec 1],.vec 1 (cg out)] (cZ .any [.cells [.vec 1],.vec 1 (cg (oh out t))]):=by
 refine Nk _ _ ((be _).mpr trivial) ?_
 have hlen:(cg out).length=out.length:=by simp[cg]
 cases t with
 |
  name s =>
  simp only[Ff,Ty.av,↓zq,zs,ae,cZ,hlen]
  refine⟨by omega,fun _=>⟨by omega,?_⟩,fun h=>absurd rfl h⟩
  refine an (Nn out _ (.of out) s (by omega)) ?_
  simp only[↓zq,zs,ae,oh]
  refine⟨fun h=>⟨by omega,⟨fun c hc=>(by simp at hc;rw[hc];rfl),by omega⟩,?_⟩,fun h=>?_⟩
  ·rw[Ga,if_neg h]
  ·rw[if_pos h]
 |_=>simp[Ff,Ty.av,↓zq,zs,ae,cZ,oh]
def bH:Ty->List (List UInt8)->List (List UInt8)
 | .name s,out=>oh out (.name s)
 | .plus a b,out=>bH b (bH a out)
 | .times a b,out=>bH b (bH a out)
 | .rc a,out=>bH a out
 |_,out=>out
theorem eF:∀(t:Ty) (out:List (List UInt8)),(bH t out).length<=out.length+t.aX
 | .name s,out=>by simp only[bH,oh,Ty.aX];split<;>simp
 |
  .plus a b,out=>by
  have:=eF a out
  have:=eF b (bH a out)
  simp only[bH,Ty.aX];omega
 |
  .times a b,out=>by
  have:=eF a out
  have:=eF b (bH a out)
  simp only[bH,Ty.aX];omega
 |
  .rc a,out=>by
  have:=eF a out
  simp only[bH,Ty.aX];omega
 | .zero,out=>by simp[bH]
 | .one,out=>by simp[bH]
 | .cc u,out=>by simp[bH]
theorem xf:∀(t:Ty) (out:List (List UInt8)),out.length+t.aX<100000->au Tryz.prog 165 [t.av,.fn 166 [.ref 0 0]] [.cells [.vec 1],.vec 1 (cg out)] (cZ .any [.cells [.vec 1],.vec 1 (cg (bH t out))])
 |
  .plus a b,out,hl=>by
  simp only[Ty.aX]at hl
  have:=eF a out
  refine DA _ _ ((be _).mpr trivial) ?_
  unfold Cj
  refine bM (Dh (.plus a b) out (by omega)) ?_
  simp only[Ty.av,↓zq,zs,ae,be,fH,oh,aO,cZ]
  refine⟨by omega,fun _=>⟨by omega,?_⟩,fun h=>(by cases h)⟩
  refine bM (xf a out (by omega)) ?_
  simp only[↓zq,zs,ae,be,fH,aO]
  refine⟨by omega,fun _=>⟨by omega,?_⟩,fun h=>(by cases h)⟩
  refine bM (xf b (bH a out) (by omega)) ?_
  simp only[↓zq,zs,ae,aO,bH]
 |
  .times a b,out,hl=>by
  simp only[Ty.aX]at hl
  have:=eF a out
  refine DA _ _ ((be _).mpr trivial) ?_
  unfold Cj
  refine bM (Dh (.times a b) out (by omega)) ?_
  simp only[Ty.av,↓zq,zs,ae,be,fH,oh,aO,cZ]
  refine⟨by omega,fun _=>⟨by omega,?_⟩,fun h=>(by cases h)⟩
  refine bM (xf a out (by omega)) ?_
  simp only[↓zq,zs,ae,be,fH,aO]
  refine⟨by omega,fun _=>⟨by omega,?_⟩,fun h=>(by cases h)⟩
  refine bM (xf b (bH a out) (by omega)) ?_
  simp only[↓zq,zs,ae,aO,bH]
 |
  .rc a,out,hl=>by
  simp only[Ty.aX]at hl
  refine DA _ _ ((be _).mpr trivial) ?_
  unfold Cj
  refine bM (Dh (.rc a) out (by omega)) ?_
  simp only[Ty.av,↓zq,zs,ae,be,fH,oh,aO,cZ]
  refine⟨by omega,fun _=>⟨by omega,?_⟩,fun h=>(by cases h)⟩
  refine bM (xf a out (by omega)) ?_
  simp[↓zq,zs,ae,be,fH,aO,bH]
 |
  .name s,out,hl=>by
  refine DA _ _ ((be _).mpr trivial) ?_
  unfold Cj
  refine bM (Dh (.name s) out (by omega)) ?_
  simp[Ty.av,↓zq,zs,ae,aO,cZ,bH]
 |
  .zero,out,hl=>by
  refine DA _ _ ((be _).mpr trivial) ?_
  unfold Cj
  refine bM (Dh .zero out (by omega)) ?_
  simp[Ty.av,↓zq,zs,ae,aO,cZ,bH,oh]
 |
  .one,out,hl=>by
  refine DA _ _ ((be _).mpr trivial) ?_
  unfold Cj
  refine bM (Dh .one out (by omega)) ?_
  simp[Ty.av,↓zq,zs,ae,aO,cZ,bH,oh]
 |
  .cc u,out,hl=>by
  refine DA _ _ ((be _).mpr trivial) ?_
  unfold Cj
  refine bM (Dh (.cc u) out (by omega)) ?_
  simp[Ty.av,↓zq,zs,ae,aO,cZ,bH,oh]
theorem LS(t:Ty)(hl:t.aX<100000):au Tryz.prog 150 [t.av] [] (bK (.sl (cg (bH t [])))):=by
 refine Nh _ ((be _).mpr trivial) ?_
 unfold KE
 refine bM (xf t [] (by simpa using hl)) ?_
 simp[↓zq,zs,ae,aO,bK]
theorem JE(l:List (List UInt8))(a:AV)(ha:dL a l)(hl:l.length<1000000):∀(k i:Nat),i+k=l.length->(∀s,s∈l.take i->cK s=false)->E0 [a,.v (.func (.func 146) #[] #[]),.v (.int .i64 (l.length:Int)),.v (.int .i64 (i:Int))] []
 (yh (l.any cK=true))
 |
  0,i,hi,hn=>by
  refine KM _ _ _ ?_
  simp only[DV,↓zq,zs,ae]
  have:l.take i=l:=List.take_of_length_le (by omega)
  rw[this]at hn
  exact⟨ha.1,fun h=>by omega,fun _=>.inl ⟨rfl,fun hh=>(by obtain⟨x,hx,hy⟩:=bJ.1 hh;rw[hn x hx]at hy;cases hy),rfl,rfl⟩⟩
 |
  k+1,i,hi,hn=>by
  have hlt:i<l.length:=by omega
  refine KM _ _ _ ?_
  simp only[DV,↓zq,zs,ae,zt,ha.len,ha.idx hlt]
  have hm:l.getD i []∈l:=by simp[aa,hlt]
  refine⟨ha.1,fun _=>⟨⟨ha.1,by omega,by omega⟩,by omega,?_⟩,fun h=>by omega⟩
  refine an (Bs _) ?_
  simp only[↓zq,zs,ae]
  refine⟨fun h=>?_,fun h=>?_⟩
  ·exact .inr ⟨rfl,bJ.2 ⟨_,hm,h⟩,i,rfl,rfl⟩
  ·rw[bp i (by omega)]
   refine JE l a ha hl k (i+1) (by omega) ?_
   intro s hs
   rw[List.take_add_one]at hs
   have:l[i]?=some (l.getD i []):=by simp[aa,hlt]
   rw[this]at hs
   rcases aI.1 hs with hs|hs
   ·exact hn s hs
   ·simp at hs;rw[hs];simpa using h
theorem LF(l:List (List UInt8))(a:AV)(ha:dL a l)(hl:l.length<1000000):au Tryz.prog 153 [a,.v (.func (.func 146) #[] #[])] [] (bK (.v (.bool (l.any cK)))):=by
 have hI:au Tryz.prog 168 [a,.v (.func (.func 146) #[] #[])] [] (fun r o=>∃n:Int,r=.v (.int .i64 n)/\(0<=n↔l.any cK=true)/\o=[]):=by
  refine Ns _ ha.1 ?_
  simp only[Gs,↓zq,zs,ae,ha.len]
  refine⟨ha.1,nW (JE l a ha hl l.length 0 (by omega) (by simp)) ?_ ?_⟩
  ·rintro ys o (⟨_,h1,rfl,rfl⟩|⟨h,_⟩)
   ·simp only[↓zq,zs,ae]
    exact⟨-1,rfl,⟨fun h=>(by omega),fun h=>absurd h h1⟩⟩
   ·cases h
  ·rintro ys o (⟨h,_⟩|⟨_,h1,j,rfl,rfl⟩)
   ·cases h
   ·simp only[↓zq,zs,ae]
    exact⟨j,rfl,⟨fun _=>h1,fun _=>(by omega)⟩⟩
 refine Li _ ha.1 ?_
 unfold Jd
 refine aU hI ⟨.v (.int .i64 (if l.any cK=true then 0 else -1)),[],_,rfl,by split<;>simp_all,rfl⟩ ?_
 rintro r o ⟨n,rfl,hn,rfl⟩
 simp only[↓zq,zs,ae,bK]
 congr 2
 rw[cj];simp only[decide_eq_true_eq,ge_iff_le,hn]
def Ty.closed(t:Ty):Bool:=!((bH t []).any cK)
theorem N9(t:Ty)(hl:t.aX<100000):au Tryz.prog 122 [t.av] [] (bK (.v (.bool t.closed))):=by
 refine LG _ ((be _).mpr trivial) ?_
 unfold Jh
 refine an (LS t hl) ?_
 simp only[↓zq,zs,ae]
 have:=eF t []
 refine an (LF _ _ (.of _) (by simp at this;omega)) ?_
 simp only[↓zq,zs,ae,bK,Ty.closed]
def uP(s:List UInt8):Option Ty:=match tO s with
 |none=>none
 |some t=>if t.closed=true then some t else none
theorem xY{s:List UInt8}{t:Ty}(h:tO s=some t):t.aX<=400:=by
 unfold tO at h
 split at h
 ·cases h
 ·split at h
  ·cases h
  ·split at h<;>cases h
   omega
theorem KP(s:List UInt8):au Tryz.prog 87 [.v (.string (mk s))] [] (bK (iB (uP s))):=by
 refine NH _ ?_
 unfold Ky
 refine an (MI s) ?_
 unfold uP
 cases ht:tO s with
 |none=>simp[iB,↓zq,zs,ae,bK]
 |
  some t =>
  have:=xY ht
  simp only[iB,↓zq,zs,ae,be,fH]
  refine⟨fun h=>(by cases h),fun _=>?_⟩
  refine an (N9 t (by omega)) ?_
  simp only[↓zq,zs,ae,bK]
  refine⟨fun h=>?_,fun h=>?_⟩
  ·rw[if_neg (by rw[h];simp)]
  ·rw[if_pos h]
end Go.Proofs.Trees
namespace Go.Proofs.Trees
open Go Go.VL
theorem ML(b:UInt8):au Tryz.prog 141 [.v (.int .u8 (b.toNat:Int))] [] (bK (.v (.bool (en b)))):=by
 refine Mr _ ?_
 simp only[KH,↓zq,zs,ae,bK,en]
 repeat' (apply aF<;>intro _)
 all_goals first|(congr 2;rw[cj];simp;omega)|(congr 2;simp;omega)
def AK(s:List UInt8)(x:Option (E×List UInt8)):AV->List Ob->Prop:=fun r o=>o=[] /\
 match x with
 |some (e,u)=>r=.da [e.jX,.v (.int .i64 ((s.length-u.length:Nat):Int))]
 |none=>∃(c:List UInt8) (d:AV),LK.sl.has d/\r=.da [.agg [.v (.string (mk c)),d],.v (.int .i64 (-1))]
theorem AK.ne(s:List UInt8)(x:Option (E×List UInt8)):∃r o,AK s x r o:=by
 cases x with
 |some q=>exact⟨_,_,rfl,rfl⟩
 |none=>exact⟨_,_,rfl,[],.v (.slice none 0 0),(bg).mpr trivial,rfl⟩
def jc(c:List UInt8)(d:AV):Ob:=.cells [.v (.string (mk c)),d]
theorem GO(s:List UInt8)(hs:s.length<=8000)(from_:Int)(c1 c2:List UInt8)(d1 d2:AV)(h1:LK.sl.has d1)(h2:LK.sl.has d2):∀(k i:Nat),i+k=s.length->Fq [.v (.string (mk s)),.v (.int .i64 (i:Int)),.v (.int .i64 from_)] [jc c1 d1,jc c2 d2]
 (gk 1 [.v (.string (mk s)),.v (.int .i64 ((i+((s.drop i).takeWhile en).length:Nat):Int)),.v (.int .i64 from_)] [jc c1 d1,jc c2 d2])
 |
  0,i,hi=>by
  refine Kj _ _ _ _ _ _ _ ?_
  have hd:s.drop i=[]:=bx (by omega)
  simp only[Ec,↓zq,zs,ae,zt]
  exact⟨h1,h2,fun h=>by omega,fun _=>by simp[gk,hd,jc]⟩
 |
  k+1,i,hi=>by
  have hlt:i<s.length:=by omega
  refine Kj _ _ _ _ _ _ _ ?_
  simp only[Ec,↓zq,zs,ae,zt,k9 s i hlt]
  refine⟨h1,h2,fun _=>⟨by omega,?_⟩,fun h=>by omega⟩
  refine an (ML _) ?_
  simp only[↓zq,zs,ae]
  refine⟨fun hb=>?_,fun hb=>?_⟩
  ·rw[bp i (by omega)]
   have:=GO s hs from_ c1 c2 d1 d2 h1 h2 k (i+1) (by omega)
   rw[wO hlt hb,show i+(((s.drop (i+1)).takeWhile en).length+1)=i+1+((s.drop (i+1)).takeWhile en).length by omega]
   exact this
  ·simp[gk,pC hlt hb,jc]
def OA(s:List UInt8)(x:Option (E×List UInt8)):Nat->List AV->List Ob->Prop:=fun t ys o=>t=2 /\
 match x with
 |some (e,u)=>∃l,e=.list l/\ys=[.v (.int .i64 ((s.length-u.length:Nat):Int))]/\o=[jc [] .any,.vec 2 (E.bc l)]
 |none=>∃es,ys=[.v (.int .i64 (-1))]/\o=[jc [] .any,.vec 2 es]
theorem wc(e:E):(e.jX=.agg e.jX.cs/\e.jX.cs.length=2/\bY [.str,.sl] e.jX.cs 0)=True:=by
 apply eq_true
 cases e<;>simp[E.jX,E.gF,zT,bY,eI,bg,bU]
theorem uR(e:E):[AV.v (.string ((e.jX.cs.getD 0 .any).aj)),e.jX.cs.getD 1 .any]=e.gF:=by
 cases e<;>rfl
theorem drop_cons{s:List UInt8}{j:Nat}(hj:j<s.length):s.drop j=s.getD j 0::s.drop (j+1):=by
 rw[aL hj];simp[aa,hj]
theorem KY(s:List UInt8)(hs:s.length<=8000)(d:Nat)(hd:d<=300)(f:List UInt8->Option (E×List UInt8))(hf:∀u e r,f u=some (e,r)->∃j,r=u.drop j/\0<j/\j<=u.length)
 (ih:∀j,j<=s.length->au Tryz.prog 104 [.v (.string (mk s)),.v (.int .i64 (j:Int)),.v (.int .i64 ((d+1:Nat):Int))] [] (AK s (f (s.drop j)))) :
 ∀(n i:Nat) (acc:List E) (c1:List UInt8) (d1:AV),LK.sl.has d1->s.length-(i+1)<n->i<s.length->s.length-i+acc.length<=8001->CP [.v (.string (mk s)),.v (.int .i64 (i:Int)),.v (.int .i64 (d:Int))] [jc c1 d1,jc [] .any,.vec 2 (E.bc acc)]
  (OA s (qW f n (s.drop (i+1)) acc))
 |0,i,acc,c1,d1,h1,hn,_,_=>by omega
 |
  n+1,i,acc,c1,d1,h1,hn,hi,hl=>by
  refine Nx _ _ _ _ _ _ _ ?_
  simp only[Jf,↓zq,zs,ae,jc]
  refine⟨h1,?_⟩
  rw[bp i (by omega),bp d (by omega)]
  refine aU (ih (i+1) (by omega)) (AK.ne _ _) ?_
  rintro r o ⟨rfl,hr⟩
  have hff:=hf (s.drop (i+1))
  unfold qW
  cases hq:f (s.drop (i+1))with
  |
   none =>
   rw[hq]at hr
   obtain⟨c,d',hd',rfl⟩:=hr
   simp only[↓zq,zs,ae,zt,bY]
   refine⟨hd',fun _=>⟨rfl,_,rfl,rfl⟩,fun h=>by omega⟩
  |
   some q =>
   obtain⟨e,u⟩:=q
   rw[hq]at hr
   subst hr
   obtain⟨j,hu,hj0,hj⟩:=hff e u hq
   rw[List.drop_drop]at hu
   simp only[bV]at hj
   have hul:u.length=s.length-(i+1+j):=by rw[hu,bV]
   have hpos:s.length-u.length=i+1+j:=by omega
   simp only[↓zq,zs,ae,zt,wc,hpos,uR,dE]
   refine⟨fun h=>by omega,fun _=>⟨fun h=>?_,fun h=>⟨⟨fun c hc=>(by simp at hc;rw[hc];cases e<;>rfl),by omega⟩,?_⟩⟩⟩
   ·have:u=[]:=by rw[hu];exact bx (by omega)
    subst this
    exact⟨rfl,_,rfl,rfl⟩
   ·have hlt:i+1+j<s.length:=by omega
    rw[drop_cons hlt]at hu
    subst hu
    rw[k9 s _ hlt]
    generalize hb:s.getD (i+1+j) 0=b
    refine⟨by omega,fun h41=>?_,fun h41=>⟨by omega,fun h32=>?_,fun h32=>?_⟩⟩
    ·have h41':b.toNat=41:=by omega
     dsimp only
     rw[if_pos h41',bp _ (by omega)]
     refine⟨rfl,acc++[e],rfl,?_,?_⟩
     ·rw[bV];congr 3;omega
     ·simp[jc,pb,E.bc]
    ·have h41':¬b.toNat=41:=by omega
     have h32':¬b.toNat=32:=by omega
     dsimp only
     rw[if_neg h41',if_neg h32']
     exact⟨rfl,_,rfl,rfl⟩
    ·have h41':¬b.toNat=41:=by omega
     have h32':b.toNat=32:=by omega
     dsimp only
     rw[if_neg h41',if_pos h32']
     have:=KY s hs d hd f hf ih n (i+1+j) (acc++[e]) c1 d1 h1 (by omega) hlt (by simp;omega)
     simpa[jc,pb,E.bc]using this
end Go.Proofs.Trees
