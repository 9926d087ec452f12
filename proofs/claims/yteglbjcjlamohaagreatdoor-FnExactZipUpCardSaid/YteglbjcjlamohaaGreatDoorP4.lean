/-
  Part of a proof: Go functions read by values, trees of functions, their contracts.
-/
import Derived.Test.YteglbjcjlamohaaGreatDoorP3
import Derived.Shelf.Lays
import Derived.Shelf.LaysM
import Derived.Shelf.Strconv.Itoa3
import Derived.Shelf.Strconv.Atoi
import Derived.Shelf.Strings.SlTrimAscii
import Derived.Shelf.Strings.Search3
import Derived.Test.YteglbjcjlamohaaGreatDoorProg
set_option linter.unusedVariables false
set_option linter.unusedSimpArgs false
namespace Go.Proofs
open Go.Shelf
def Tryz.lays160_ren:Go.Shelf.Ren:=⟨fun | 160=>144 | 232=>156 | 231=>155 | 227=>157 | 234=>159 | 233=>158 | 236=>161 | 235=>160 | 228=>170 | 271=>173 | 151=>172 | 197=>171 | 120=>184 | 152=>183 | 260=>182 | 137=>191 | 119=>192 | 224=>187 | 225=>186 | 217=>185 | 266=>193 | n=>n,fun | 9=>9 | 4=>4 | 3=>3 | 5=>5 | 117=>191 | 116=>190 | 0=>0 | 124=>194 | 21=>21 | 105=>209 | 46=>198 | 119=>227 | 139=>230 | 138=>229 | n=>n,fun | 3=>4 | 4=>5 | n=>n⟩
theorem Tryz.lays160:Go.Proofs.Lays.n160 Tryz.prog Tryz.lays160_ren:={
 mixed:=by kernel_rfl,
 f119:=Tryz.func192.trans (congrArg some (by kernel_rfl)),
 f120:=Tryz.func184.trans (congrArg some (by kernel_rfl)),
 f137:=Tryz.func191.trans (congrArg some (by kernel_rfl)),
 f151:=Tryz.func172.trans (congrArg some (by kernel_rfl)),
 f152:=Tryz.func183.trans (congrArg some (by kernel_rfl)),
 f160:=Tryz.func144.trans (congrArg some (by kernel_rfl)),
 f197:=Tryz.func171.trans (congrArg some (by kernel_rfl)),
 f217:=Tryz.func185.trans (congrArg some (by kernel_rfl)),
 f224:=Tryz.func187.trans (congrArg some (by kernel_rfl)),
 f225:=Tryz.func186.trans (congrArg some (by kernel_rfl)),
 f227:=Tryz.func157.trans (congrArg some (by kernel_rfl)),
 f228:=Tryz.func170.trans (congrArg some (by kernel_rfl)),
 f231:=Tryz.func155.trans (congrArg some (by kernel_rfl)),
 f232:=Tryz.func156.trans (congrArg some (by kernel_rfl)),
 f233:=Tryz.func158.trans (congrArg some (by kernel_rfl)),
 f234:=Tryz.func159.trans (congrArg some (by kernel_rfl)),
 f235:=Tryz.func160.trans (congrArg some (by kernel_rfl)),
 f236:=Tryz.func161.trans (congrArg some (by kernel_rfl)),
 f260:=Tryz.func182.trans (congrArg some (by kernel_rfl)),
 f266:=Tryz.func193.trans (congrArg some (by kernel_rfl)),
 f271:=Tryz.func173.trans (congrArg some (by kernel_rfl)),
 t0:=Tryz.underlying0,
 a0:=Tryz.isAgg0,
 z0:=Tryz.sizeOf0,
 v0:=Tryz.zeroValue0,
 t3:=Tryz.underlying3,
 a3:=Tryz.isAgg3,
 z3:=Tryz.sizeOf3,
 v3:=Tryz.zeroValue3,
 t4:=Tryz.underlying4,
 a4:=Tryz.isAgg4,
 z4:=Tryz.sizeOf4,
 v4:=Tryz.zeroValue4,
 t5:=Tryz.underlying5,
 a5:=Tryz.isAgg5,
 z5:=Tryz.sizeOf5,
 v5:=Tryz.zeroValue5,
 t9:=Tryz.underlying9,
 a9:=Tryz.isAgg9,
 z9:=Tryz.sizeOf9,
 v9:=Tryz.zeroValue9,
 t21:=Tryz.underlying21,
 a21:=Tryz.isAgg21,
 z21:=Tryz.sizeOf21,
 v21:=Tryz.zeroValue21,
 t46:=Tryz.underlying198,
 a46:=Tryz.isAgg198,
 z46:=Tryz.sizeOf198,
 v46:=Tryz.zeroValue198,
 t105:=Tryz.underlying209,
 a105:=Tryz.isAgg209,
 z105:=Tryz.sizeOf209,
 v105:=Tryz.zeroValue209,
 t116:=Tryz.underlying190,
 a116:=Tryz.isAgg190,
 z116:=Tryz.sizeOf190,
 t117:=Tryz.underlying191,
 a117:=Tryz.isAgg191,
 z117:=Tryz.sizeOf191,
 v117:=Tryz.zeroValue191,
 t119:=Tryz.underlying227,
 a119:=Tryz.isAgg227,
 z119:=Tryz.sizeOf227,
 t124:=Tryz.underlying194,
 a124:=Tryz.isAgg194,
 z124:=Tryz.sizeOf194,
 v124:=Tryz.zeroValue194,
 t138:=Tryz.underlying229,
 a138:=Tryz.isAgg229,
 z138:=Tryz.sizeOf229,
 v138:=Tryz.zeroValue229,
 t139:=Tryz.underlying230,
 a139:=Tryz.isAgg230,
 z139:=Tryz.sizeOf230,
 v139:=Tryz.zeroValue230,
 g3:=by kernel_rfl,
 g4:=by kernel_rfl }
def Tryz.lays144_ren:Go.Shelf.Ren:=⟨fun | 144=>153 | 143=>165 | 219=>176 | 217=>185 | 225=>186 | 224=>187 | 267=>188 | 266=>193 | 314=>194 | n=>n,fun | 9=>9 | 4=>4 | 3=>3 | 5=>5 | 46=>198 | 146=>232 | 51=>220 | n=>n,fun | 1=>3 | n=>n⟩
theorem Tryz.lays144:Go.Proofs.Lays.n144 Tryz.prog Tryz.lays144_ren:={
 mixed:=by kernel_rfl,
 f143:=Tryz.func165.trans (congrArg some (by kernel_rfl)),
 f144:=Tryz.func153.trans (congrArg some (by kernel_rfl)),
 f217:=Tryz.func185.trans (congrArg some (by kernel_rfl)),
 f219:=Tryz.func176.trans (congrArg some (by kernel_rfl)),
 f224:=Tryz.func187.trans (congrArg some (by kernel_rfl)),
 f225:=Tryz.func186.trans (congrArg some (by kernel_rfl)),
 f266:=Tryz.func193.trans (congrArg some (by kernel_rfl)),
 f267:=Tryz.func188.trans (congrArg some (by kernel_rfl)),
 f314:=Tryz.func194.trans (congrArg some (by kernel_rfl)),
 t3:=Tryz.underlying3,
 a3:=Tryz.isAgg3,
 z3:=Tryz.sizeOf3,
 v3:=Tryz.zeroValue3,
 t4:=Tryz.underlying4,
 a4:=Tryz.isAgg4,
 z4:=Tryz.sizeOf4,
 v4:=Tryz.zeroValue4,
 t5:=Tryz.underlying5,
 a5:=Tryz.isAgg5,
 z5:=Tryz.sizeOf5,
 v5:=Tryz.zeroValue5,
 t9:=Tryz.underlying9,
 a9:=Tryz.isAgg9,
 z9:=Tryz.sizeOf9,
 v9:=Tryz.zeroValue9,
 t46:=Tryz.underlying198,
 a46:=Tryz.isAgg198,
 z46:=Tryz.sizeOf198,
 v46:=Tryz.zeroValue198,
 t51:=Tryz.underlying220,
 a51:=Tryz.isAgg220,
 z51:=Tryz.sizeOf220,
 v51:=Tryz.zeroValue220,
 t146:=Tryz.underlying232,
 a146:=Tryz.isAgg232,
 z146:=Tryz.sizeOf232,
 v146:=Tryz.zeroValue232,
 g1:=by kernel_rfl }
def Tryz.lays172_ren:Go.Shelf.Ren:=⟨fun | 172=>101 | 244=>127 | 245=>128 | 247=>145 | 279=>146 | 280=>147 | 281=>148 | 282=>149 | 287=>162 | 316=>163 | 171=>120 | 205=>164 | 321=>174 | 322=>175 | 243=>139 | 246=>154 | 283=>166 | 284=>167 | 285=>168 | 286=>169 | 129=>178 | 317=>177 | 318=>179 | 319=>180 | 320=>181 | 337=>189 | 338=>190 | n=>n,fun | 9=>9 | 3=>3 | 75=>138 | 76=>139 | 4=>4 | 5=>5 | 167=>180 | 37=>74 | 0=>0 | 85=>181 | 2=>2 | 168=>183 | 53=>195 | 175=>196 | 46=>198 | 210=>201 | 127=>213 | 145=>216 | 143=>214 | 21=>21 | 171=>204 | 173=>207 | 212=>219 | 51=>220 | 20=>20 | 213=>221 | 232=>234 | 233=>235 | 80=>53 | n=>n,fun | 15=>0 | 16=>1 | 17=>2 | 18=>6 | 19=>7 | n=>n⟩
theorem Tryz.lays172:Go.Proofs.Lays.n172 Tryz.prog Tryz.lays172_ren:={
 mixed:=by kernel_rfl,
 f129:=Tryz.func178.trans (congrArg some (by kernel_rfl)),
 f171:=Tryz.func120.trans (congrArg some (by kernel_rfl)),
 f172:=Tryz.func101.trans (congrArg some (by kernel_rfl)),
 f205:=Tryz.func164.trans (congrArg some (by kernel_rfl)),
 f243:=Tryz.func139.trans (congrArg some (by kernel_rfl)),
 f244:=Tryz.func127.trans (congrArg some (by kernel_rfl)),
 f245:=Tryz.func128.trans (congrArg some (by kernel_rfl)),
 f246:=Tryz.func154.trans (congrArg some (by kernel_rfl)),
 f247:=Tryz.func145.trans (congrArg some (by kernel_rfl)),
 f279:=Tryz.func146.trans (congrArg some (by kernel_rfl)),
 f280:=Tryz.func147.trans (congrArg some (by kernel_rfl)),
 f281:=Tryz.func148.trans (congrArg some (by kernel_rfl)),
 f282:=Tryz.func149.trans (congrArg some (by kernel_rfl)),
 f283:=Tryz.func166.trans (congrArg some (by kernel_rfl)),
 f284:=Tryz.func167.trans (congrArg some (by kernel_rfl)),
 f285:=Tryz.func168.trans (congrArg some (by kernel_rfl)),
 f286:=Tryz.func169.trans (congrArg some (by kernel_rfl)),
 f287:=Tryz.func162.trans (congrArg some (by kernel_rfl)),
 f316:=Tryz.func163.trans (congrArg some (by kernel_rfl)),
 f317:=Tryz.func177.trans (congrArg some (by kernel_rfl)),
 f318:=Tryz.func179.trans (congrArg some (by kernel_rfl)),
 f319:=Tryz.func180.trans (congrArg some (by kernel_rfl)),
 f320:=Tryz.func181.trans (congrArg some (by kernel_rfl)),
 f321:=Tryz.func174.trans (congrArg some (by kernel_rfl)),
 f322:=Tryz.func175.trans (congrArg some (by kernel_rfl)),
 f337:=Tryz.func189.trans (congrArg some (by kernel_rfl)),
 f338:=Tryz.func190.trans (congrArg some (by kernel_rfl)),
 t0:=Tryz.underlying0,
 a0:=Tryz.isAgg0,
 z0:=Tryz.sizeOf0,
 v0:=Tryz.zeroValue0,
 t2:=Tryz.underlying2,
 a2:=Tryz.isAgg2,
 z2:=Tryz.sizeOf2,
 v2:=Tryz.zeroValue2,
 t3:=Tryz.underlying3,
 a3:=Tryz.isAgg3,
 z3:=Tryz.sizeOf3,
 v3:=Tryz.zeroValue3,
 t4:=Tryz.underlying4,
 a4:=Tryz.isAgg4,
 z4:=Tryz.sizeOf4,
 v4:=Tryz.zeroValue4,
 t5:=Tryz.underlying5,
 a5:=Tryz.isAgg5,
 z5:=Tryz.sizeOf5,
 v5:=Tryz.zeroValue5,
 t9:=Tryz.underlying9,
 a9:=Tryz.isAgg9,
 z9:=Tryz.sizeOf9,
 v9:=Tryz.zeroValue9,
 t20:=Tryz.underlying20,
 a20:=Tryz.isAgg20,
 z20:=Tryz.sizeOf20,
 v20:=Tryz.zeroValue20,
 t21:=Tryz.underlying21,
 a21:=Tryz.isAgg21,
 z21:=Tryz.sizeOf21,
 v21:=Tryz.zeroValue21,
 t37:=Tryz.underlying74,
 a37:=Tryz.isAgg74,
 z37:=Tryz.sizeOf74,
 v37:=Tryz.zeroValue74,
 t46:=Tryz.underlying198,
 a46:=Tryz.isAgg198,
 z46:=Tryz.sizeOf198,
 v46:=Tryz.zeroValue198,
 t51:=Tryz.underlying220,
 a51:=Tryz.isAgg220,
 z51:=Tryz.sizeOf220,
 v51:=Tryz.zeroValue220,
 t53:=Tryz.underlying195,
 a53:=Tryz.isAgg195,
 z53:=Tryz.sizeOf195,
 v53:=Tryz.zeroValue195,
 t75:=Tryz.underlying138,
 a75:=Tryz.isAgg138,
 z75:=Tryz.sizeOf138,
 v75:=Tryz.zeroValue138,
 t76:=Tryz.underlying139,
 a76:=Tryz.isAgg139,
 z76:=Tryz.sizeOf139,
 v76:=Tryz.zeroValue139,
 t85:=Tryz.underlying181,
 a85:=Tryz.isAgg181,
 z85:=Tryz.sizeOf181,
 v85:=Tryz.zeroValue181,
 t127:=Tryz.underlying213,
 a127:=Tryz.isAgg213,
 z127:=Tryz.sizeOf213,
 v127:=Tryz.zeroValue213,
 t143:=Tryz.underlying214,
 a143:=Tryz.isAgg214,
 z143:=Tryz.sizeOf214,
 v143:=Tryz.zeroValue214,
 t145:=Tryz.underlying216,
 a145:=Tryz.isAgg216,
 z145:=Tryz.sizeOf216,
 v145:=Tryz.zeroValue216,
 t167:=Tryz.underlying180,
 a167:=Tryz.isAgg180,
 z167:=Tryz.sizeOf180,
 v167:=Tryz.zeroValue180,
 t168:=Tryz.underlying183,
 a168:=Tryz.isAgg183,
 z168:=Tryz.sizeOf183,
 v168:=Tryz.zeroValue183,
 t171:=Tryz.underlying204,
 a171:=Tryz.isAgg204,
 z171:=Tryz.sizeOf204,
 v171:=Tryz.zeroValue204,
 t173:=Tryz.underlying207,
 a173:=Tryz.isAgg207,
 z173:=Tryz.sizeOf207,
 v173:=Tryz.zeroValue207,
 t175:=Tryz.underlying196,
 a175:=Tryz.isAgg196,
 z175:=Tryz.sizeOf196,
 v175:=Tryz.zeroValue196,
 t210:=Tryz.underlying201,
 a210:=Tryz.isAgg201,
 z210:=Tryz.sizeOf201,
 v210:=Tryz.zeroValue201,
 t212:=Tryz.underlying219,
 a212:=Tryz.isAgg219,
 z212:=Tryz.sizeOf219,
 v212:=Tryz.zeroValue219,
 t213:=Tryz.underlying221,
 a213:=Tryz.isAgg221,
 z213:=Tryz.sizeOf221,
 t232:=Tryz.underlying234,
 a232:=Tryz.isAgg234,
 z232:=Tryz.sizeOf234,
 v232:=Tryz.zeroValue234,
 t233:=Tryz.underlying235,
 a233:=Tryz.isAgg235,
 z233:=Tryz.sizeOf235,
 v233:=Tryz.zeroValue235,
 g15:=by kernel_rfl,
 g16:=by kernel_rfl,
 g17:=by kernel_rfl,
 g18:=by kernel_rfl,
 g19:=by kernel_rfl }
def Tryz.laysM171_ren:Go.Shelf.Ren:=⟨fun | 171=>120 | 243=>139 | 246=>154 | 283=>166 | 284=>167 | 285=>168 | 286=>169 | 129=>178 | 317=>177 | 318=>179 | 319=>180 | 320=>181 | 337=>189 | 338=>190 | n=>n,fun | 3=>3 | 9=>9 | 2=>2 | 4=>4 | 171=>204 | 0=>0 | 53=>195 | 37=>74 | 5=>5 | 173=>207 | 212=>219 | 51=>220 | 20=>20 | 213=>221 | 46=>198 | 232=>234 | 233=>235 | n=>n,fun | 17=>2 | 18=>6 | 19=>7 | n=>n⟩
theorem Tryz.laysM171:Go.Proofs.LaysM.n171 Tryz.prog Tryz.laysM171_ren:={
 mixed:=by kernel_rfl,
 f129:=Tryz.func178.trans (congrArg some (by kernel_rfl)),
 f171:=Tryz.func120.trans (congrArg some (by kernel_rfl)),
 f243:=Tryz.func139.trans (congrArg some (by kernel_rfl)),
 f246:=Tryz.func154.trans (congrArg some (by kernel_rfl)),
 f283:=Tryz.func166.trans (congrArg some (by kernel_rfl)),
 f284:=Tryz.func167.trans (congrArg some (by kernel_rfl)),
 f285:=Tryz.func168.trans (congrArg some (by kernel_rfl)),
 f286:=Tryz.func169.trans (congrArg some (by kernel_rfl)),
 f317:=Tryz.func177.trans (congrArg some (by kernel_rfl)),
 f318:=Tryz.func179.trans (congrArg some (by kernel_rfl)),
 f319:=Tryz.func180.trans (congrArg some (by kernel_rfl)),
 f320:=Tryz.func181.trans (congrArg some (by kernel_rfl)),
 f337:=Tryz.func189.trans (congrArg some (by kernel_rfl)),
 f338:=Tryz.func190.trans (congrArg some (by kernel_rfl)),
 t0:=Tryz.underlying0,
 a0:=Tryz.isAgg0,
 z0:=Tryz.sizeOf0,
 v0:=Tryz.zeroValue0,
 t2:=Tryz.underlying2,
 a2:=Tryz.isAgg2,
 z2:=Tryz.sizeOf2,
 v2:=Tryz.zeroValue2,
 t3:=Tryz.underlying3,
 a3:=Tryz.isAgg3,
 z3:=Tryz.sizeOf3,
 v3:=Tryz.zeroValue3,
 t4:=Tryz.underlying4,
 a4:=Tryz.isAgg4,
 z4:=Tryz.sizeOf4,
 v4:=Tryz.zeroValue4,
 t5:=Tryz.underlying5,
 a5:=Tryz.isAgg5,
 z5:=Tryz.sizeOf5,
 v5:=Tryz.zeroValue5,
 t9:=Tryz.underlying9,
 a9:=Tryz.isAgg9,
 z9:=Tryz.sizeOf9,
 v9:=Tryz.zeroValue9,
 t20:=Tryz.underlying20,
 a20:=Tryz.isAgg20,
 z20:=Tryz.sizeOf20,
 v20:=Tryz.zeroValue20,
 t37:=Tryz.underlying74,
 a37:=Tryz.isAgg74,
 z37:=Tryz.sizeOf74,
 v37:=Tryz.zeroValue74,
 t46:=Tryz.underlying198,
 a46:=Tryz.isAgg198,
 z46:=Tryz.sizeOf198,
 v46:=Tryz.zeroValue198,
 t51:=Tryz.underlying220,
 a51:=Tryz.isAgg220,
 z51:=Tryz.sizeOf220,
 v51:=Tryz.zeroValue220,
 t53:=Tryz.underlying195,
 a53:=Tryz.isAgg195,
 z53:=Tryz.sizeOf195,
 v53:=Tryz.zeroValue195,
 t171:=Tryz.underlying204,
 a171:=Tryz.isAgg204,
 z171:=Tryz.sizeOf204,
 v171:=Tryz.zeroValue204,
 t173:=Tryz.underlying207,
 a173:=Tryz.isAgg207,
 z173:=Tryz.sizeOf207,
 v173:=Tryz.zeroValue207,
 t212:=Tryz.underlying219,
 a212:=Tryz.isAgg219,
 z212:=Tryz.sizeOf219,
 v212:=Tryz.zeroValue219,
 t213:=Tryz.underlying221,
 a213:=Tryz.isAgg221,
 z213:=Tryz.sizeOf221,
 t232:=Tryz.underlying234,
 a232:=Tryz.isAgg234,
 z232:=Tryz.sizeOf234,
 v232:=Tryz.zeroValue234,
 t233:=Tryz.underlying235,
 a233:=Tryz.isAgg235,
 z233:=Tryz.sizeOf235,
 v233:=Tryz.zeroValue235,
 g17:=by kernel_rfl,
 g18:=by kernel_rfl,
 g19:=by kernel_rfl,
 i0:=by kernel_rfl,
 i2:=by kernel_rfl,
 i3:=by kernel_rfl,
 i4:=by kernel_rfl,
 i5:=by kernel_rfl,
 i9:=by kernel_rfl,
 i20:=by kernel_rfl,
 i37:=by kernel_rfl,
 i46:=by kernel_rfl,
 i51:=by kernel_rfl,
 i53:=by kernel_rfl,
 i171:=by kernel_rfl,
 i173:=by kernel_rfl,
 i212:=by kernel_rfl,
 i232:=by kernel_rfl,
 i233:=by kernel_rfl,
 m17:=by kernel_rfl,
 m18:=by kernel_rfl,
 m19:=by kernel_rfl }
end Go.Proofs
namespace Go.Proofs.Trees
open Go Go.VL
noncomputable section
def tabL:List (Nat×TI):=[
 (0,⟨false,[],false,0,.tuple [],false⟩),
 (2,⟨true,[.int .i64],false,8,.num .i64,false⟩),
 (3,⟨true,[.int .i64],false,8,.num .i64,false⟩),
 (4,⟨true,[.bool],false,1,.bl,false⟩),
 (5,⟨true,[.int .u8],false,1,.num .u8,false⟩),
 (9,⟨true,[.str],false,16,.str,false⟩),
 (20,⟨true,[.oth],false,16,.other,false⟩),
 (21,⟨true,[.int .i32],false,4,.num .i32,false⟩),
 (22,⟨true,[.sl],false,24,.slice 9,false⟩),
 (24,⟨true,[.str,.sl,.str],true,56,.struct [(0,9),(1,22),(2,9)],false⟩),
 (25,⟨false,[],false,0,.tuple [24,4],false⟩),
 (30,⟨true,[.str,.sl,.str],true,56,.struct [(0,9),(1,22),(2,9)],false⟩),
 (35,⟨false,[],false,0,.tuple [9,4],false⟩),
 (42,⟨true,[.ptr],false,8,.pt,true⟩),
 (47,⟨true,[.ptr],false,8,.pt,true⟩),
 (48,⟨true,[.sl],false,24,.slice 49,false⟩),
 (49,⟨true,[.ptr],false,8,.pt,true⟩),
 (51,⟨true,[.str,.ptr,.sl,.ptr],true,56,.struct [(0,9),(1,47),(2,48),(3,49)],false⟩),
 (54,⟨true,[.sl],false,24,.slice 111,false⟩),
 (55,⟨false,[],false,0,.tuple [54,4],false⟩),
 (57,⟨true,[.sl],false,24,.slice 119,false⟩),
 (59,⟨false,[],false,0,.tuple [47,49],false⟩),
 (64,⟨true,[.sl],false,24,.slice 66,false⟩),
 (66,⟨true,[.str,.sl],true,40,.struct [(0,9),(1,64)],false⟩),
 (67,⟨false,[],false,0,.tuple [66,4],false⟩),
 (73,⟨true,[.int .u8,.str,.ptr,.ptr],true,40,.struct [(0,5),(1,9),(2,49),(3,49)],false⟩),
 (74,⟨true,[.sl],false,24,.slice 5,false⟩),
 (77,⟨true,[.sl],false,24,.slice 109,false⟩),
 (79,⟨true,[.ptr],false,8,.pt,true⟩),
 (81,⟨true,[.ptr,.ptr],true,16,.struct [(0,47),(1,79)],false⟩),
 (82,⟨true,[.ptr],false,8,.pt,true⟩),
 (83,⟨false,[],false,0,.tuple [81,82],false⟩),
 (87,⟨true,[.str,.ptr],true,24,.struct [(0,9),(1,82)],false⟩),
 (90,⟨true,[.int .u8,.str,.int .i64,.ptr,.ptr],true,48,.struct [(0,5),(1,9),(2,3),(3,47),(4,47)],false⟩),
 (91,⟨false,[],false,0,.tuple [47,4],false⟩),
 (101,⟨true,[.sl],false,24,.slice 173,false⟩),
 (109,⟨true,[.str,.sl,.str,.sl],true,80,.struct [(0,66),(2,66)],false⟩),
 (111,⟨true,[.str,.str],true,32,.struct [(0,9),(1,9)],false⟩),
 (114,⟨true,[.ptr,.ptr],true,16,.struct [(0,81)],false⟩),
 (116,⟨true,[.ptr,.ptr],true,16,.struct [(0,82),(1,79)],false⟩),
 (119,⟨true,[.ptr,.ptr],true,16,.struct [(0,49),(1,49)],false⟩),
 (120,⟨true,[.oth],false,8,.other,false⟩),
 (121,⟨true,[.oth],false,8,.other,false⟩),
 (124,⟨true,[.ptr],false,8,.pt,true⟩),
 (127,⟨true,[.ptr],false,8,.pt,true⟩),
 (129,⟨true,[.int .i64,.bool],true,16,.struct [(0,3),(1,4)],false⟩),
 (138,⟨true,[.oth],false,16,.other,false⟩),
 (139,⟨false,[],false,0,.tuple [3,138],false⟩),
 (145,⟨true,[.oth],false,8,.other,false⟩),
 (147,⟨false,[],false,0,.tuple [66,101],false⟩),
 (150,⟨false,[],false,0,.tuple [66,3],false⟩),
 (152,⟨false,[],false,0,.tuple [124,9],false⟩),
 (154,⟨true,[.sl],false,24,.slice 124,false⟩),
 (156,⟨true,[.str,.sl],true,40,.struct [(0,9),(1,154)],false⟩),
 (160,⟨true,[.oth],false,8,.other,false⟩),
 (167,⟨true,[.ptr],false,8,.pt,true⟩),
 (169,⟨true,[.sl,.int .i64],true,32,.struct [(0,22),(1,3)],false⟩),
 (173,⟨true,[.str,.str,.sl,.sl],true,80,.struct [(0,9),(1,66),(3,101)],false⟩),
 (176,⟨true,[.oth],false,8,.other,false⟩),
 (181,⟨false,[],false,0,.tuple [2,138],false⟩),
 (183,⟨true,[.ptr],false,8,.pt,true⟩),
 (191,⟨false,[],false,0,.tuple [190,4],false⟩),
 (194,⟨true,[.ptr],false,8,.pt,true⟩),
 (195,⟨true,[.int .u64],false,8,.num .u64,false⟩),
 (196,⟨false,[],false,0,.tuple [195,138],false⟩),
 (198,⟨true,[.int .u64],false,8,.num .u64,false⟩),
 (201,⟨true,[.str,.str,.oth],true,48,.struct [(0,9),(1,9),(2,138)],false⟩),
 (204,⟨true,[.int .u8,.int .u8,.int .u8,.int .u8,.int .u8,.int .u8,.int .u8,.int .u8,.int .u8,.int .u8,.int .u8,.int .u8,.int .u8,.int .u8,.int .u8,.int .u8,.int .u8,.int .u8,.int .u8,.int .u8,.int .u8,.int .u8,.int .u8,.int .u8],true,24,.array 24 5,false⟩),
 (207,⟨false,[],false,0,.tuple [74,9],false⟩),
 (209,⟨false,[],false,0,.tuple [21,3],false⟩),
 (213,⟨true,[.ptr],false,8,.pt,true⟩),
 (214,⟨true,[.ptr],false,8,.pt,true⟩),
 (216,⟨true,[.str],true,16,.struct [(0,9)],false⟩),
 (219,⟨true,[.int .u64,.int .u64,.int .u64,.int .u64,.int .u64,.int .u64,.int .u64,.int .u64,.int .u64,.int .u64,.int .u64,.int .u64,.int .u64,.int .u64,.int .u64,.int .u64,.int .u64,.int .u64,.int .u64,.int .u64],true,160,.array 20 195,false⟩),
 (220,⟨true,[.int .u32],false,4,.num .u32,false⟩),
 (229,⟨true,[.int .u8,.int .u8],true,2,.struct [(0,5),(1,5)],false⟩),
 (230,⟨true,[.int .u8,.int .u8,.int .u8,.int .u8,.int .u8,.int .u8,.int .u8,.int .u8,.int .u8,.int .u8,.int .u8,.int .u8,.int .u8,.int .u8,.int .u8,.int .u8,.int .u8,.int .u8,.int .u8,.int .u8,.int .u8,.int .u8,.int .u8,.int .u8,.int .u8,.int .u8,.int .u8,.int .u8,.int .u8,.int .u8,.int .u8,.int .u8],true,32,.array 16 229,false⟩),
 (232,⟨false,[],false,0,.tuple [220,220],false⟩),
 (234,⟨true,[.int .u8,.int .u8,.int .u8,.int .u8,.int .u8,.int .u8,.int .u8,.int .u8,.int .u8,.int .u8,.int .u8,.int .u8,.int .u8,.int .u8,.int .u8,.int .u8,.int .u8,.int .u8,.int .u8,.int .u8,.int .u8,.int .u8,.int .u8,.int .u8,.int .u8,.int .u8,.int .u8,.int .u8,.int .u8,.int .u8,.int .u8,.int .u8],true,32,.array 32 5,false⟩)]
def tab (t:Nat):TI:=lookT tabL t
abbrev fd_impl_closure_inside:Func:=Tryz.f55
abbrev fd_strconv_Atoi:Func:=Tryz.f101
abbrev fd_strconv_Itoa:Func:=Tryz.f120
abbrev fd_strings_Trim:Func:=Tryz.f144
abbrev fd_strings_Contains:Func:=Tryz.f153
def cfgL:List (Nat×FC):=[(141,{ mu:=[(1,.one (.obj [.vec 1]))],own:=[] }),(109,{ mu:=[(2,.one (.vec))],own:=[0] }),(14200140,{ mu:=[(1,.fn [some (.obj [.vec 1])])],own:=[] }),(81,{ mu:=[(2,.one (.obj [.vec 2]))],own:=[] }),(8500081,{ mu:=[(1,.fn [some (.obj [.lk .ptr])]),(2,.one (.obj [.vec 2]))],own:=[] }),(8600081,{ mu:=[(1,.fn [some (.obj [.lk .ptr])]),(2,.one (.obj [.vec 2]))],own:=[] }),(8800081,{ mu:=[(1,.fn [some (.obj [.lk .ptr])]),(2,.one (.obj [.vec 2]))],own:=[] }),(9000081,{ mu:=[(1,.fn [some (.obj [.lk .ptr,.lk .ptr])]),(2,.one (.obj [.vec 2]))],own:=[] }),(84,{ mu:=[(1,.one (.obj [.lk .ptr]))],own:=[] }),(85,{ mu:=[(1,.one (.obj [.lk .ptr]))],own:=[] }),(87,{ mu:=[(1,.one (.obj [.lk .ptr]))],own:=[] }),(89,{ mu:=[(1,.one (.obj [.lk .ptr,.lk .ptr]))],own:=[] }),(123,{ mu:=[(2,.clo 123 [none,some 0,some 1]),(3,.one (.obj [.lk .sl])),(4,.one (.obj [.lk (.int .i64)]))],own:=[] }),(79,{ mu:=[(2,.one (.vec))],own:=[0] }),(132,{ mu:=[(3,.one (.obj [.vec 1,.lk (.int .i64)]))],own:=[] }),(30,{ mu:=[(0,.one (.keep false [.vec 1]))],own:=[] }),(93,{ mu:=[(0,.one (.obj [.lk (.int .i64),.lk .bool]))],own:=[] }),(94,{ mu:=[(0,.one (.obj [.lk (.int .i64),.lk .bool]))],own:=[] }),(95,{ mu:=[(0,.one (.obj [.lk (.int .i64),.lk .bool]))],own:=[] }),(12,{ mu:=[(0,.one (.keep true [.lk .str,.vec 1,.lk .str]))],own:=[] }),(10,{ mu:=[],own:=[0],oa:=[.lk .str,.vec 1,.lk .str] }),(21,{ mu:=[],own:=[0],oa:=[.lk .str,.vec 1,.lk .str] }),(23,{ mu:=[],own:=[0],oa:=[.lk .str,.vec 1,.lk .str] }),(27,{ mu:=[],own:=[0],oa:=[.lk .str,.vec 1,.lk .str] }),(35,{ mu:=[],own:=[0] }),(16,{ mu:=[],own:=[0],oa:=[.lk .str,.vec 1,.lk .str] })]
def cfg (f:Nat):FC:=lookFC cfgL f
theorem tab_chk:(tabL.all fun p=>!p.2.kn||p.2.chk Tryz.prog p.1) = true:=by kernel_rfl
theorem tab_ok:TabOk Tryz.prog tab:=tabOk_of tab_chk
theorem mixed:Tryz.prog.follows .mixedOrders = true:=by kernel_rfl
abbrev NZ (r:AV) (k:Tree):Tree:=.need (LK.has .ptr r/\r.isNil = false) k
abbrev NP (r:AV) (k:Tree):Tree:=.need (LK.has .ptr r) k
abbrev NS (r:AV) (k:Tree):Tree:=.need (LK.has .str r) k
abbrev NB (r:AV) (k:Tree):Tree:=.need (LK.has .bool r) k
abbrev NL (r:AV) (k:Tree):Tree:=.need (LK.has .sl r) k
abbrev NI (r:AV) (k:Tree):Tree:=.need (LK.has (.int .i64) r) k
abbrev NPh (l:List AV) (k:Tree):Tree:=.need (LK.has .ptr (l.headD .any)/\1<=l.length) k
abbrev NSh (l:List AV) (k:Tree):Tree:=.need (LK.has .str (l.headD .any)/\1<=l.length) k
abbrev NLh (l:List AV) (k:Tree):Tree:=.need (LK.has .sl (l.headD .any)/\1<=l.length) k
abbrev NT (r:AV) (k:Tree):Tree:=.need (r = .tup [r.comp 0,r.comp 1]) k
abbrev NA (r:AV) (k:Tree):Tree:=.need (r = .agg r.cs/\r.cs.length = 2/\hasL [.str,.sl] r.cs 0) k
abbrev NE (l:List AV) (k:Tree):Tree:=.need (hasL [.str,.sl] l 0/\2<=l.length) k
abbrev NG (r:AV) (i:Int) (z:Nat) (k:Tree):Tree:=.need (LK.has .sl r/\0<=i/\i < r.elems.length/\(r.elems.getD i.toNat []).length = z) k
abbrev RL:Type:=Nat->List AV->List Ob->Prop
theorem oQ {f:Nat} {asq:List AV} {ins:List Ob} {R:AV->List Ob->Prop} {t:Tree} (lis:List (Nat×LI)) (F:Func) (hf:Tryz.prog.funcs[f]? = some F) (hnm:(F.name=="runtime.NumGoroutine") = false) (e:main tab cfg lis {} F asq ins = t) (h:wpT Tryz.prog F.ntmps t fun _ xs obs=>R (xs.headD .any) obs):FSpec Tryz.prog f asq ins R:=FSpec.ofE (cfg:=cfg) (lis:=lis) (fc:={}) tab_ok mixed hf hnm e h
theorem uQ {P:Program} {f:Nat} {asq bs:List AV} {R:AV->List Ob->Prop} (h:UpL asq bs) (hf:FSpec P f bs [] R):FSpec P f asq [] R:=FSpec.upo upos_nil (FSpec.up h hf)
theorem NZe (r:AV) (k:Tree):NZ r k = .need (LK.has .ptr r/\r.isNil = false) k:=rfl
theorem NPe (r:AV) (k:Tree):NP r k = .need (LK.has .ptr r) k:=rfl
theorem NSe (r:AV) (k:Tree):NS r k = .need (LK.has .str r) k:=rfl
theorem NBe (r:AV) (k:Tree):NB r k = .need (LK.has .bool r) k:=rfl
theorem NLe (r:AV) (k:Tree):NL r k = .need (LK.has .sl r) k:=rfl
theorem NIe (r:AV) (k:Tree):NI r k = .need (LK.has (.int .i64) r) k:=rfl
theorem NPhe (l:List AV) (k:Tree):NPh l k = .need (LK.has .ptr (l.headD .any)/\1<=l.length) k:=rfl
theorem NShe (l:List AV) (k:Tree):NSh l k = .need (LK.has .str (l.headD .any)/\1<=l.length) k:=rfl
theorem NLhe (l:List AV) (k:Tree):NLh l k = .need (LK.has .sl (l.headD .any)/\1<=l.length) k:=rfl
theorem NTe (r:AV) (k:Tree):NT r k = .need (r = .tup [r.comp 0,r.comp 1]) k:=rfl
theorem NAe (r:AV) (k:Tree):NA r k = .need (r = .agg r.cs/\r.cs.length = 2/\hasL [.str,.sl] r.cs 0) k:=rfl
theorem NEe (l:List AV) (k:Tree):NE l k = .need (hasL [.str,.sl] l 0/\2<=l.length) k:=rfl
theorem NGe (r:AV) (i:Int) (z:Nat) (k:Tree):NG r i z k = .need (LK.has .sl r/\0<=i/\i < r.elems.length/\(r.elems.getD i.toNat []).length = z) k:=rfl
set_option linter.defProp false in
def zq:=And.intro @NZe (And.intro @NPe (And.intro @NSe (And.intro @NBe (And.intro @NLe (And.intro @NIe (And.intro @NPhe (And.intro @NShe (And.intro @NLhe (And.intro @NTe (And.intro @NAe (And.intro @NEe (And.intro @NGe @zp))))))))))))
variable {R:AV->List Ob->Prop}
def tqaa (a0_0:ByteArray) (a0_1:AV) (a0_2:ByteArray):Tree :=
 .call 14 [.agg [.v (.string a0_0),a0_1,.v (.string a0_2)],.v (.int .i64 1048576)] [] fun r1 o1=>NI r1<|.test (decide (r1.toInt < (0:Int))) (.done 0 [.v (.bool true)] []) (.call 16 [.agg [.v (.string a0_0),a0_1,.v (.string a0_2)]] [] fun r2 o2=>.need (r2 = .agg r2.cs/\hasC [.lk .str,.vec 1,.lk .str] r2.cs 0 0 o2)<|.need (∀x,x∈o2->plainOb x)<|.call 20 [.agg [.v (.string ((r2.cs.getD 0 .any).toStr)),.sl ((o2.headD .dead).es),.v (.string ((r2.cs.getD 2 .any).toStr))]] [] fun r3 o3=>NT r3<|.need ((r3.comp 0) = .agg (r3.comp 0).cs/\(r3.comp 0).cs.length = 3/\hasL [.str,.sl,.str] ((r3.comp 0).cs) 0)<|NB (r3.comp 1)<|.call 16 [.agg [.v (.string a0_0),a0_1,.v (.string a0_2)]] [] fun r4 o4=>.need (r4 = .agg r4.cs/\hasC [.lk .str,.vec 1,.lk .str] r4.cs 0 0 o4)<|.need (∀x,x∈o4->plainOb x)<|.call 21 [.agg [.v (.string ((r4.cs.getD 0 .any).toStr)),.sl ((o4.headD .dead).es),.v (.string ((r4.cs.getD 2 .any).toStr))]] [] fun r5 o5=>NT r5<|.need ((r5.comp 0) = .agg (r5.comp 0).cs/\hasC [.lk .str,.vec 1,.lk .str] ((r5.comp 0).cs) 0 0 o5)<|NB (r5.comp 1)<|.need (∀x,x∈o5->plainOb x)<|.call 11 [.agg [.v (.string (((r5.comp 0).cs.getD 0 .any).toStr)),.sl ((o5.headD .dead).es),.v (.string (((r5.comp 0).cs.getD 2 .any).toStr))],.agg [.v (.string (((r3.comp 0).cs.getD 0 .any).toStr)),((r3.comp 0).cs.getD 1 .any),.v (.string (((r3.comp 0).cs.getD 2 .any).toStr))]] [] fun r6 o6=>NB r6<|.test (!r6.toBool) (.done 0 [.v (.bool false)] []) (.test (!(((r5.comp 1).toBool)==((r3.comp 1).toBool))) (.done 0 [.v (.bool false)] []) (.call 16 [.agg [.v (.string a0_0),a0_1,.v (.string a0_2)]] [] fun r7 o7=>.need (r7 = .agg r7.cs/\hasC [.lk .str,.vec 1,.lk .str] r7.cs 0 0 o7)<|.need (∀x,x∈o7->plainOb x)<|.call 11 [.agg [.v (.string ((r4.cs.getD 0 .any).toStr)),.sl ((o4.headD .dead).es),.v (.string ((r4.cs.getD 2 .any).toStr))],.agg [.v (.string ((r7.cs.getD 0 .any).toStr)),.sl ((o7.headD .dead).es),.v (.string ((r7.cs.getD 2 .any).toStr))]] [] fun r8 o8=>NB r8<|.test (!r8.toBool) (.done 0 [.v (.bool false)] []) (.call 12 [.agg [.v (.string ((r4.cs.getD 0 .any).toStr)),.vec 0,.v (.string ((r4.cs.getD 2 .any).toStr))],.v (.int .i64 1)] [.vec 1 ((o4.headD .dead).es)] fun r9 o9=>.need ((o9.headD .dead) = .kvec 1 (o9.headD .dead).es)<|NI r9<|.test (decide (r9.toInt < (0:Int))) (.done 0 [.v (.bool false)] []) (.call 11 [.agg [.v (.string (((r5.comp 0).cs.getD 0 .any).toStr)),.sl ((o5.headD .dead).es),.v (.string (((r5.comp 0).cs.getD 2 .any).toStr))],.agg [.v (.string (((r3.comp 0).cs.getD 0 .any).toStr)),((r3.comp 0).cs.getD 1 .any),.v (.string (((r3.comp 0).cs.getD 2 .any).toStr))]] [] fun r10 o10=>NB r10<|.test (!r10.toBool) (.done 0 [.v (.bool false)] []) (.test (!(((r5.comp 1).toBool)==((r3.comp 1).toBool))) (.done 0 [.v (.bool false)] []) (.call 12 [.agg [.v (.string (((r5.comp 0).cs.getD 0 .any).toStr)),.vec 0,.v (.string (((r5.comp 0).cs.getD 2 .any).toStr))],.v (.int .i64 1)] [.vec 1 ((o5.headD .dead).es)] fun r11 o11=>.need ((o11.headD .dead) = .kvec 1 (o11.headD .dead).es)<|NI r11<|.call 13 [.agg [.v (.string (((r5.comp 0).cs.getD 0 .any).toStr)),.sl ((o11.headD .dead).es),.v (.string (((r5.comp 0).cs.getD 2 .any).toStr))],.v (.int .i64 1)] [] fun r12 o12=>NI r12<|.test (decide (r12.toInt < (0:Int))) (.done 0 [.v (.bool false)] []) (.test (r12.toInt != r11.toInt) (.done 0 [.v (.bool false)] []) (.call 16 [.agg [.v (.string a0_0),a0_1,.v (.string a0_2)]] [] fun r13 o13=>.need (r13 = .agg r13.cs/\hasC [.lk .str,.vec 1,.lk .str] r13.cs 0 0 o13)<|.need (∀x,x∈o13->plainOb x)<|.call 21 [.agg [.v (.string ((r13.cs.getD 0 .any).toStr)),.sl ((o13.headD .dead).es),.v (.string ((r13.cs.getD 2 .any).toStr))]] [] fun r14 o14=>NT r14<|.need ((r14.comp 0) = .agg (r14.comp 0).cs/\hasC [.lk .str,.vec 1,.lk .str] ((r14.comp 0).cs) 0 0 o14)<|NB (r14.comp 1)<|.need (∀x,x∈o14->plainOb x)<|.call 11 [.agg [.v (.string (((r14.comp 0).cs.getD 0 .any).toStr)),.sl ((o14.headD .dead).es),.v (.string (((r14.comp 0).cs.getD 2 .any).toStr))],.agg [.v (.string (((r3.comp 0).cs.getD 0 .any).toStr)),((r3.comp 0).cs.getD 1 .any),.v (.string (((r3.comp 0).cs.getD 2 .any).toStr))]] [] fun r15 o15=>NB r15<|.test (!r15.toBool) (.done 0 [.v (.bool false)] []) (.test (!(((r14.comp 1).toBool)==((r3.comp 1).toBool))) (.done 0 [.v (.bool false)] []) (.call 13 [.agg [.v (.string (((r5.comp 0).cs.getD 0 .any).toStr)),.sl ((o11.headD .dead).es),.v (.string (((r5.comp 0).cs.getD 2 .any).toStr))],.v (.int .i64 1)] [] fun r16 o16=>NI r16<|.test (decide (r16.toInt < (0:Int))) (.done 0 [.v (.bool false)] []) (.test (r16.toInt != r11.toInt) (.done 0 [.v (.bool false)] []) (.done 0 [.v (.bool true)] [])))))))))))))
theorem Fqeg (a0_0:ByteArray) (a0_1:AV) (a0_2:ByteArray) (ha0_1:LK.has .sl a0_1)  (h:wpT Tryz.prog 96 (tqaa a0_0 a0_1 a0_2) fun _ xs obs=>R (xs.headD .any) obs):FSpec Tryz.prog 6 [.agg [.v (.string a0_0),a0_1,.v (.string a0_2)]] [] R :=
 uQ (up_cons (up_agg (up_cons (up_refl _) (up_cons (up_sl ha0_1) (up_cons (up_refl _) up_nil)))) up_nil) (oQ [] Tryz.f6 (by kernel_rfl) (by kernel_rfl) (by kernel_rfl) h)
def tq7y (a0_0:ByteArray) (a0_1:AV) (a0_2:ByteArray) (a1_0:ByteArray) (a1_1:AV) (a1_2:ByteArray):Tree :=
 .test (!(ByteArray.toList a0_0==ByteArray.toList a1_0)) (.done 0 [.v (.bool false)] []) (.call 29 [a0_1,a1_1] [] fun r1 o1=>NB r1<|.test (!r1.toBool) (.done 0 [.v (.bool false)] []) (.test (!(ByteArray.toList a0_2==ByteArray.toList a1_2)) (.done 0 [.v (.bool false)] []) (.done 0 [.v (.bool true)] [])))
theorem Fqeh (a0_0:ByteArray) (a0_1:AV) (a0_2:ByteArray) (a1_0:ByteArray) (a1_1:AV) (a1_2:ByteArray) (ha0_1:LK.has .sl a0_1) (ha1_1:LK.has .sl a1_1)  (h:wpT Tryz.prog 21 (tq7y a0_0 a0_1 a0_2 a1_0 a1_1 a1_2) fun _ xs obs=>R (xs.headD .any) obs):FSpec Tryz.prog 11 [.agg [.v (.string a0_0),a0_1,.v (.string a0_2)],.agg [.v (.string a1_0),a1_1,.v (.string a1_2)]] [] R :=
 uQ (up_cons (up_agg (up_cons (up_refl _) (up_cons (up_sl ha0_1) (up_cons (up_refl _) up_nil)))) (up_cons (up_agg (up_cons (up_refl _) (up_cons (up_sl ha1_1) (up_cons (up_refl _) up_nil)))) up_nil)) (oQ [] Tryz.f11 (by kernel_rfl) (by kernel_rfl) (by kernel_rfl) h)
def tq9y (a0_0:ByteArray) (e0:List (List AV)) (a0_2:ByteArray) (a1:Int):Tree :=
 .call 30 [.vec 0,.v (.int .i64 a1)] [.vec 1 e0] fun r1 o1=>.need ((o1.headD .dead) = .kvec 1 (o1.headD .dead).es)<|NI r1<|.done 0 [.v (.int .i64 r1.toInt)] [.kvec 1 ((o1.headD .dead).es)]
theorem Fqdw (a0_0:ByteArray) (e0:List (List AV)) (a0_2:ByteArray) (a1:Int)   (h:wpT Tryz.prog 10 (tq9y a0_0 e0 a0_2 a1) fun _ xs obs=>R (xs.headD .any) obs):FSpec Tryz.prog 12 [.agg [.v (.string a0_0),.vec 0,.v (.string a0_2)],.v (.int .i64 a1)] [.vec 1 e0] R :=
 FSpec.upo (upos_cons (upo_refl _) upos_nil) (FSpec.up (up_cons (up_refl _) (up_cons (up_refl _) up_nil)) (FSpec.ofE (cfg:=cfg) (lis:=[]) (fc:={ mu:=[(0,.one (.keep true [.lk .str,.vec 1,.lk .str]))],own:=[] }) tab_ok mixed (F:=Tryz.f12) (by kernel_rfl) (by kernel_rfl) (by kernel_rfl) h))
def tqab (a0_0:ByteArray) (a0_1:AV) (a0_2:ByteArray) (a1:Int):Tree :=
 .call 31 [a0_1,.v (.int .i64 a1)] [] fun r1 o1=>NI r1<|.test (decide (r1.toInt < (0:Int))) (.done 0 [.v (.int .i64 (-1))] []) (.done 0 [.v (.int .i64 r1.toInt)] [])
theorem Fqgg (a0_0:ByteArray) (a0_1:AV) (a0_2:ByteArray) (a1:Int) (ha0_1:LK.has .sl a0_1)  (h:wpT Tryz.prog 12 (tqab a0_0 a0_1 a0_2 a1) fun _ xs obs=>R (xs.headD .any) obs):FSpec Tryz.prog 13 [.agg [.v (.string a0_0),a0_1,.v (.string a0_2)],.v (.int .i64 a1)] [] R :=
 uQ (up_cons (up_agg (up_cons (up_refl _) (up_cons (up_sl ha0_1) (up_cons (up_refl _) up_nil)))) (up_cons (up_refl _) up_nil)) (oQ [] Tryz.f13 (by kernel_rfl) (by kernel_rfl) (by kernel_rfl) h)
def tq6g (a0_0:ByteArray) (a0_1:AV) (a0_2:ByteArray) (a1:Int):Tree :=
 .test (decide ((IntKind.wrap .i64 (a1 - (ByteArray.size a0_0:Int))) < (0:Int))) (.done 0 [.v (.int .i64 (-1))] []) (.call 32 [a0_1,.v (.int .i64 (IntKind.wrap .i64 (a1 - (ByteArray.size a0_0:Int))))] [] fun r1 o1=>NI r1<|.test (decide (r1.toInt < (0:Int))) (.done 0 [.v (.int .i64 (-1))] []) (.test (decide ((IntKind.wrap .i64 (r1.toInt - (ByteArray.size a0_2:Int))) < (0:Int))) (.done 0 [.v (.int .i64 (-1))] []) (.done 0 [.v (.int .i64 (IntKind.wrap .i64 (r1.toInt - (ByteArray.size a0_2:Int))))] [])))
theorem Fqgb (a0_0:ByteArray) (a0_1:AV) (a0_2:ByteArray) (a1:Int) (ha0_1:LK.has .sl a0_1)  (h:wpT Tryz.prog 26 (tq6g a0_0 a0_1 a0_2 a1) fun _ xs obs=>R (xs.headD .any) obs):FSpec Tryz.prog 14 [.agg [.v (.string a0_0),a0_1,.v (.string a0_2)],.v (.int .i64 a1)] [] R :=
 uQ (up_cons (up_agg (up_cons (up_refl _) (up_cons (up_sl ha0_1) (up_cons (up_refl _) up_nil)))) (up_cons (up_refl _) up_nil)) (oQ [] Tryz.f14 (by kernel_rfl) (by kernel_rfl) (by kernel_rfl) h)
def tq8e (a0_0:ByteArray) (a0_1:AV) (a0_2:ByteArray):Tree :=
 .call 33 [.agg [.v (.string a0_0),a0_1,.v (.string a0_2)]] [] fun r1 o1=>NB r1<|.test (!r1.toBool) (.done 0 [.v (.bool false)] []) (.call 34 [.agg [.v (.string a0_0),a0_1,.v (.string a0_2)]] [] fun r2 o2=>NT r2<|.need ((r2.comp 0) = .agg (r2.comp 0).cs/\(r2.comp 0).cs.length = 3/\hasL [.str,.sl,.str] ((r2.comp 0).cs) 0)<|NB (r2.comp 1)<|.done 0 [.v (.bool ((r2.comp 1).toBool))] [])
theorem Fqgm (a0_0:ByteArray) (a0_1:AV) (a0_2:ByteArray) (ha0_1:LK.has .sl a0_1)  (h:wpT Tryz.prog 14 (tq8e a0_0 a0_1 a0_2) fun _ xs obs=>R (xs.headD .any) obs):FSpec Tryz.prog 15 [.agg [.v (.string a0_0),a0_1,.v (.string a0_2)]] [] R :=
 uQ (up_cons (up_agg (up_cons (up_refl _) (up_cons (up_sl ha0_1) (up_cons (up_refl _) up_nil)))) up_nil) (oQ [] Tryz.f15 (by kernel_rfl) (by kernel_rfl) (by kernel_rfl) h)
def tqa6 (a0_0:ByteArray) (a0_1:AV) (a0_2:ByteArray):Tree :=
 .call 35 [a0_1] [] fun r1 o1=>.need (r1 = .vec 0/\(o1.headD .dead) = .vec 1 (o1.headD .dead).es)<|.need (∀x,x∈o1->plainOb x)<|.done 0 [.agg [.v (.string a0_0),.vec 0,.v (.string a0_2)]] [.vec 1 ((o1.headD .dead).es)]
theorem Fqd8 (a0_0:ByteArray) (a0_1:AV) (a0_2:ByteArray) (ha0_1:LK.has .sl a0_1)  (h:wpT Tryz.prog 15 (tqa6 a0_0 a0_1 a0_2) fun _ xs obs=>R (xs.headD .any) obs):FSpec Tryz.prog 16 [.agg [.v (.string a0_0),a0_1,.v (.string a0_2)]] [] R :=
 uQ (up_cons (up_agg (up_cons (up_refl _) (up_cons (up_sl ha0_1) (up_cons (up_refl _) up_nil)))) up_nil) (FSpec.ofE (cfg:=cfg) (lis:=[]) (fc:={ mu:=[],own:=[0],oa:=[.lk .str,.vec 1,.lk .str] }) tab_ok mixed (F:=Tryz.f16) (by kernel_rfl) (by kernel_rfl) (by kernel_rfl) h)
def tq60 (a0_0:ByteArray) (a0_1:AV) (a0_2:ByteArray):Tree :=
 .call 15 [.agg [.v (.string a0_0),a0_1,.v (.string a0_2)]] [] fun r1 o1=>NB r1<|.test (!r1.toBool) (.done 0 [.tup [.agg [.v (.string (mk [])),.v (.slice none 0 0),.v (.string (mk []))],.v (.bool false)]] []) (.call 39 [.agg [.v (.string a0_0),a0_1,.v (.string a0_2)]] [] fun r2 o2=>NT r2<|.need ((r2.comp 0) = .agg (r2.comp 0).cs/\(r2.comp 0).cs.length = 3/\hasL [.str,.sl,.str] ((r2.comp 0).cs) 0)<|NB (r2.comp 1)<|.test (!((r2.comp 1).toBool)) (.done 0 [.tup [.agg [.v (.string (mk [])),.v (.slice none 0 0),.v (.string (mk []))],.v (.bool false)]] []) (.done 0 [.tup [.agg [.v (.string (((r2.comp 0).cs.getD 0 .any).toStr)),((r2.comp 0).cs.getD 1 .any),.v (.string (((r2.comp 0).cs.getD 2 .any).toStr))],.v (.bool true)]] []))
theorem Fqe1 (a0_0:ByteArray) (a0_1:AV) (a0_2:ByteArray) (ha0_1:LK.has .sl a0_1)  (h:wpT Tryz.prog 19 (tq60 a0_0 a0_1 a0_2) fun _ xs obs=>R (xs.headD .any) obs):FSpec Tryz.prog 20 [.agg [.v (.string a0_0),a0_1,.v (.string a0_2)]] [] R :=
 uQ (up_cons (up_agg (up_cons (up_refl _) (up_cons (up_sl ha0_1) (up_cons (up_refl _) up_nil)))) up_nil) (oQ [] Tryz.f20 (by kernel_rfl) (by kernel_rfl) (by kernel_rfl) h)
def tqcm (a0_0:ByteArray) (a0_1:AV) (a0_2:ByteArray):Tree :=
 .call 36 [.agg [.v (.string a0_0),a0_1,.v (.string a0_2)]] [] fun r1 o1=>NP r1<|.call 37 [r1] [] fun r2 o2=>NP r2<|.call 27 [r2] [] fun r3 o3=>NT r3<|.need ((r3.comp 0) = .agg (r3.comp 0).cs/\hasC [.lk .str,.vec 1,.lk .str] ((r3.comp 0).cs) 0 0 o3)<|NB (r3.comp 1)<|.need (∀x,x∈o3->plainOb x)<|.done 0 [.tup [.agg [.v (.string (((r3.comp 0).cs.getD 0 .any).toStr)),.vec 0,.v (.string (((r3.comp 0).cs.getD 2 .any).toStr))],.v (.bool ((r3.comp 1).toBool))]] [.vec 1 ((o3.headD .dead).es)]
theorem Fqdq (a0_0:ByteArray) (a0_1:AV) (a0_2:ByteArray) (ha0_1:LK.has .sl a0_1)  (h:wpT Tryz.prog 10 (tqcm a0_0 a0_1 a0_2) fun _ xs obs=>R (xs.headD .any) obs):FSpec Tryz.prog 21 [.agg [.v (.string a0_0),a0_1,.v (.string a0_2)]] [] R :=
 uQ (up_cons (up_agg (up_cons (up_refl _) (up_cons (up_sl ha0_1) (up_cons (up_refl _) up_nil)))) up_nil) (FSpec.ofE (cfg:=cfg) (lis:=[]) (fc:={ mu:=[],own:=[0],oa:=[.lk .str,.vec 1,.lk .str] }) tab_ok mixed (F:=Tryz.f21) (by kernel_rfl) (by kernel_rfl) (by kernel_rfl) h)
def Lq3c:LI:={ hd:={ slots:=[(23,.k .sl),(24,.k (.int .i64)),(25,.k (.int .i64))],refs:=[(2,2),(4,4)],objs:=[(2,[.lk .str,.lk .sl,.lk .str]),(4,[.lk .str,.vec 1,.lk .str])] },xs:={ refs:=[(2,2),(4,4)],objs:=[(2,[.lk .str,.lk .sl,.lk .str]),(4,[.lk .str,.vec 1,.lk .str])] },rt:={},ex:=0 }
def Cq86:Code:=loopAt (bodyOf Tryz.f27) 5
def lq66:List (Nat×LI):=[(5,Lq3c)]
def tq7j (a0:AV):Tree :=
 NP a0<|.test a0.isNil (.done 0 [.tup [.agg [.v (.string (mk [])),.vec 0,.v (.string (mk []))],.v (.bool false)]] [.vec 1 []]) (NZ a0<|NZ a0<|.need (LK.has .str (a0.deref.headD .any)/\1<=a0.deref.length)<|NZ a0<|NZ a0<|NPh (a0.deref.drop 3)<|.call 38 [((a0.deref.drop 3).headD .any)] [] fun r1 o1=>NS r1<|NZ a0<|NZ a0<|NLh (a0.deref.drop 2)<|NL ((a0.deref.drop 2).headD .any)<|.loop Cq86 Lq3c [((a0.deref.drop 2).headD .any),.v (.int .i64 ((((a0.deref.drop 2).headD .any).elems).length:Int)),.v (.int .i64 0)] [.cells [.v (.string (mk [])),.v (.slice none 0 0),.v (.string (mk []))],.cells [.v (.string ((a0.deref.headD .any).toStr)),.any,.v (.string r1.toStr)],.vec 1 []] (fun y4 q4=>.need ((q4.headD .dead) = .cells (q4.headD .dead).cs)<|.need (hasK [.lk .str,.lk .sl,.lk .str] ((q4.headD .dead).cs) 0 q4.tail)<|.need (((q4.tail.drop 0).headD .dead) = .cells ((q4.tail.drop 0).headD .dead).cs)<|.need (hasK [.lk .str,.vec 1,.lk .str] (((q4.tail.drop 0).headD .dead).cs) 0 ((q4.tail.drop 0).tail))<|.done 0 [.tup [.agg [.v (.string (((q4.tail.headD .dead).cs.getD 0 .any).toStr)),.vec 0,.v (.string (((q4.tail.headD .dead).cs.getD 2 .any).toStr))],.v (.bool true)]] [.vec 1 ((q4.tail.tail.headD .dead).es)]) (fun y4 q4=>.fail))
theorem Fqfu (a0:AV) (ha0:LK.has .ptr a0)  (h:wpT Tryz.prog 38 (tq7j a0) fun _ xs obs=>R (xs.headD .any) obs):FSpec Tryz.prog 27 [a0] [] R :=
 uQ (up_cons (up_ptr ha0) up_nil) (FSpec.ofE (cfg:=cfg) (lis:=lq66) (fc:={ mu:=[],own:=[0],oa:=[.lk .str,.vec 1,.lk .str] }) tab_ok mixed (F:=Tryz.f27) (by kernel_rfl) (by kernel_rfl) (by kernel_rfl) h)
def rq5p (x23:AV) (x24:Int) (x25:Int) (o2_0:ByteArray) (o2_1:AV) (o2_2:ByteArray) (o4_0:ByteArray) (o4_1:List (List AV)) (o4_2:ByteArray):Tree :=
 NL x23<|NI (.v (.int .i64 x24))<|NI (.v (.int .i64 x25))<|.need (Ob.cells [.v (.string o2_0),o2_1,.v (.string o2_2)] = .cells [.v (.string o2_0),o2_1,.v (.string o2_2)])<|.need (hasK [.lk .str,.lk .sl,.lk .str] [.v (.string o2_0),o2_1,.v (.string o2_2)] 0 [.cells [.v (.string o4_0),.any,.v (.string o4_2)],.vec 1 o4_1])<|.need (Ob.cells [.v (.string o4_0),.any,.v (.string o4_2)] = .cells [.v (.string o4_0),.any,.v (.string o4_2)])<|.need (hasK [.lk .str,.vec 1,.lk .str] [.v (.string o4_0),.any,.v (.string o4_2)] 0 [.vec 1 o4_1])<|.test (decide (x25 < x24)) (NG x23 x25 1<|NPh (x23.elems.getD x25.toNat [])<|.call 38 [((x23.elems.getD x25.toNat []).headD .any)] [] fun r1 o1=>NS r1<|.need (allLen 1 [[.v (.string r1.toStr)]]/\((o4_1.length)+([[.v (.string r1.toStr)]]:List (List AV)).length)*16<=140737488355328)<|.done 0 [x23,.v (.int .i64 x24),.v (.int .i64 (IntKind.wrap .i64 (x25+1)))] [.cells [.v (.string o2_0),o2_1,.v (.string o2_2)],.cells [.v (.string o4_0),.any,.v (.string o4_2)],.vec 1 (o4_1++([[.v (.string r1.toStr)]]:List (List AV)))]) (.done 1 [] [.cells [.v (.string o2_0),o2_1,.v (.string o2_2)],.cells [.v (.string o4_0),.any,.v (.string o4_2)],.vec 1 o4_1])
abbrev Lq2o:=LSpec Tryz.prog 38 Cq86 Lq3c
theorem Gqas (x23:AV) (x24:Int) (x25:Int) (o2_0:ByteArray) (o2_1:AV) (o2_2:ByteArray) (o4_0:ByteArray) (o4_1:List (List AV)) (o4_2:ByteArray) {R:RL} (h:wpT Tryz.prog 38 (rq5p x23 x24 x25 o2_0 o2_1 o2_2 o4_0 o4_1 o4_2) (Rnd (fun ys o=>Lq2o ys o R) R)):Lq2o [x23,.v (.int .i64 x24),.v (.int .i64 x25)] [.cells [.v (.string o2_0),o2_1,.v (.string o2_2)],.cells [.v (.string o4_0),.any,.v (.string o4_2)],.vec 1 o4_1] R :=
 LSpec.ofE (cfg:=cfg) (lis:=lq66) tab_ok mixed (by kernel_rfl) h
def Lq4b:LI:={ hd:={ slots:=[(5,.k .str),(45,.k .sl),(46,.k (.int .i64)),(47,.k (.int .i64))],refs:=[(7,43)],objs:=[(43,[.lk .str,.lk .ptr,.vec 1,.lk .ptr])] },xs:={ refs:=[(7,43)],objs:=[(43,[.lk .str,.lk .ptr,.vec 1,.lk .ptr])] },rt:={ slots:=[(2,.k .ptr)] },ex:=0 }
def Cqbb:Code:=loopAt (bodyOf Tryz.f28) 7
def lq73:List (Nat×LI):=[(7,Lq4b)]
def tq9d (a0_0:ByteArray) (a0_1:AV) (a0_2:ByteArray):Tree :=
 .call 42 [.v (.string a0_0),.v (.string a0_2)] [] fun r1 o1=>NT r1<|NP (r1.comp 0)<|NP (r1.comp 1)<|.call 43 [.v (.string a0_0)] [] fun r2 o2=>NT r2<|NS (r2.comp 0)<|NB (r2.comp 1)<|NP (r1.comp 1)<|.test ((r1.comp 1).isNil) (.done 0 [.v (.pointer none)] []) (.test (!((r2.comp 1).toBool)) (.done 0 [.v (.pointer none)] []) (NL a0_1<|.test (decide ((a0_1.elems.length:Int) > (50:Int))) (.done 0 [.v (.pointer none)] []) (NL a0_1<|.loop Cqbb Lq4b [.v (.string ((r2.comp 0).toStr)),a0_1,.v (.int .i64 (a0_1.elems.length:Int)),.v (.int .i64 0)] [.cells [.v (.string a0_0),(r1.comp 0),.any,(r1.comp 1)],.vec 1 []] (fun y5 q5=>.need ((q5.headD .dead) = .cells (q5.headD .dead).cs)<|.need (hasK [.lk .str,.lk .ptr,.vec 1,.lk .ptr] ((q5.headD .dead).cs) 0 q5.tail)<|.done 0 [.ptr [.v (.string (((q5.headD .dead).cs.getD 0 .any).toStr)),((q5.headD .dead).cs.getD 1 .any),.sl ((q5.tail.headD .dead).es),((q5.headD .dead).cs.getD 3 .any)]] []) (fun y5 q5=>NP (y5.headD .any)<|.done 0 [(y5.headD .any)] []))))
theorem Fqeu (a0_0:ByteArray) (a0_1:AV) (a0_2:ByteArray) (ha0_1:LK.has .sl a0_1)  (h:wpT Tryz.prog 71 (tq9d a0_0 a0_1 a0_2) fun _ xs obs=>R (xs.headD .any) obs):FSpec Tryz.prog 28 [.agg [.v (.string a0_0),a0_1,.v (.string a0_2)]] [] R :=
 uQ (up_cons (up_agg (up_cons (up_refl _) (up_cons (up_sl ha0_1) (up_cons (up_refl _) up_nil)))) up_nil) (oQ lq73 Tryz.f28 (by kernel_rfl) (by kernel_rfl) (by kernel_rfl) h)
def rq35 (x5:ByteArray) (x45:AV) (x46:Int) (x47:Int) (o43_0:ByteArray) (o43_1:AV) (o43_2:List (List AV)) (o43_3:AV):Tree :=
 NS (.v (.string x5))<|NL x45<|NI (.v (.int .i64 x46))<|NI (.v (.int .i64 x47))<|.need (Ob.cells [.v (.string o43_0),o43_1,.any,o43_3] = .cells [.v (.string o43_0),o43_1,.any,o43_3])<|.need (hasK [.lk .str,.lk .ptr,.vec 1,.lk .ptr] [.v (.string o43_0),o43_1,.any,o43_3] 0 [.vec 1 o43_2])<|.test (decide (x47 < x46)) (NG x45 x47 1<|NSh (x45.elems.getD x47.toNat [])<|.call 44 [.v (.string x5),.v (.string (((x45.elems.getD x47.toNat []).headD .any).toStr)),.v (.int .i64 100)] [] fun r1 o1=>NT r1<|NP (r1.comp 0)<|NP (r1.comp 1)<|NP (r1.comp 1)<|.test ((r1.comp 1).isNil) (.done 2 [.v (.pointer none)] []) (.need (allLen 1 [[(r1.comp 1)]]/\((o43_2.length)+([[(r1.comp 1)]]:List (List AV)).length)*8<=140737488355328)<|.done 0 [.v (.string x5),x45,.v (.int .i64 x46),.v (.int .i64 (IntKind.wrap .i64 (x47+1)))] [.cells [.v (.string o43_0),o43_1,.any,o43_3],.vec 1 (o43_2++([[(r1.comp 1)]]:List (List AV)))])) (.done 1 [] [.cells [.v (.string o43_0),o43_1,.any,o43_3],.vec 1 o43_2])
abbrev Lq5a:=LSpec Tryz.prog 71 Cqbb Lq4b
theorem Gq5x (x5:ByteArray) (x45:AV) (x46:Int) (x47:Int) (o43_0:ByteArray) (o43_1:AV) (o43_2:List (List AV)) (o43_3:AV) {R:RL} (h:wpT Tryz.prog 71 (rq35 x5 x45 x46 x47 o43_0 o43_1 o43_2 o43_3) (Rnd (fun ys o=>Lq5a ys o R) R)):Lq5a [.v (.string x5),x45,.v (.int .i64 x46),.v (.int .i64 x47)] [.cells [.v (.string o43_0),o43_1,.any,o43_3],.vec 1 o43_2] R :=
 LSpec.ofE (cfg:=cfg) (lis:=lq73) tab_ok mixed (by kernel_rfl) h
def Lq51:LI:={ hd:={ slots:=[(0,.k .sl),(1,.k .sl),(5,.k (.int .i64))] },xs:={},rt:={ slots:=[(4,.k .bool)] },ex:=0 }
def Cqc9:Code:=loopAt (bodyOf Tryz.f29) 4
def lq87:List (Nat×LI):=[(4,Lq51)]
def tqau (a0:AV) (a1:AV):Tree :=
 NL a0<|NL a1<|.test ((a0.elems.length:Int) != (a1.elems.length:Int)) (.done 0 [.v (.bool false)] []) (.loop Cqc9 Lq51 [a0,a1,.v (.int .i64 0)] [] (fun y1 q1=>.done 0 [.v (.bool true)] []) (fun y1 q1=>NB (y1.headD .any)<|.done 0 [.v (.bool ((y1.headD .any).toBool))] []))
theorem Fqek (a0:AV) (a1:AV) (ha0:LK.has .sl a0) (ha1:LK.has .sl a1)  (h:wpT Tryz.prog 26 (tqau a0 a1) fun _ xs obs=>R (xs.headD .any) obs):FSpec Tryz.prog 29 [a0,a1] [] R :=
 uQ (up_cons (up_sl ha0) (up_cons (up_sl ha1) up_nil)) (oQ lq87 Tryz.f29 (by kernel_rfl) (by kernel_rfl) (by kernel_rfl) h)
def rq41 (x0:AV) (x1:AV) (x5:Int):Tree :=
 NL x0<|NL x1<|NI (.v (.int .i64 x5))<|NL x0<|.test (decide (x5 < (x0.elems.length:Int))) (NG x0 x5 1<|NSh (x0.elems.getD x5.toNat [])<|NG x1 x5 1<|NSh (x1.elems.getD x5.toNat [])<|.test (!(ByteArray.toList (((x0.elems.getD x5.toNat []).headD .any).toStr)==ByteArray.toList (((x1.elems.getD x5.toNat []).headD .any).toStr))) (.done 2 [.v (.bool false)] []) (.done 0 [x0,x1,.v (.int .i64 (IntKind.wrap .i64 (x5+1)))] [])) (.done 1 [] [])
abbrev Lq3f:=LSpec Tryz.prog 26 Cqc9 Lq51
theorem Gqap (x0:AV) (x1:AV) (x5:Int) {R:RL} (h:wpT Tryz.prog 26 (rq41 x0 x1 x5) (Rnd (fun ys o=>Lq3f ys o R) R)):Lq3f [x0,x1,.v (.int .i64 x5)] [] R :=
 LSpec.ofE (cfg:=cfg) (lis:=lq87) tab_ok mixed (by kernel_rfl) h
def Lq39:LI:={ hd:={ slots:=[(1,.k (.int .i64)),(5,.k (.int .i64))],kv:=[(0,0,1)] },xs:={ slots:=[(1,.k (.int .i64))],kv:=[(0,0,1)] },rt:={ kv:=[(0,0,1)] },ex:=0,fx:=[0] }
def Cq9z:Code:=loopAt (bodyOf Tryz.f30) 2
def lqbc:List (Nat×LI):=[(2,Lq39)]
def tqav (e0:List (List AV)) (a1:Int):Tree :=
 .loop Cq9z Lq39 [.v (.int .i64 a1),.v (.int .i64 0)] [.vec 1 e0] (fun y2 q2=>NI (y2.headD .any)<|.need (((((q2.drop 0).drop 0).drop 0).headD .dead) = .vec 1 ((((q2.drop 0).drop 0).drop 0).headD .dead).es)<|.done 0 [.v (.int .i64 ((y2.headD .any).toInt))] [.kvec 1 ((((q2.drop 0).drop 0).headD .dead).es)]) (fun y2 q2=>.need (((((q2.drop 0).drop 0).drop 0).headD .dead) = .vec 1 ((((q2.drop 0).drop 0).drop 0).headD .dead).es)<|.done 0 [.any] [.kvec 1 ((((q2.drop 0).drop 0).headD .dead).es)])
theorem Fqgl (e0:List (List AV)) (a1:Int)   (h:wpT Tryz.prog 20 (tqav e0 a1) fun _ xs obs=>R (xs.headD .any) obs):FSpec Tryz.prog 30 [.vec 0,.v (.int .i64 a1)] [.vec 1 e0] R :=
 FSpec.upo (upos_cons (upo_refl _) upos_nil) (FSpec.up (up_cons (up_refl _) (up_cons (up_refl _) up_nil)) (FSpec.ofE (cfg:=cfg) (lis:=lqbc) (fc:={ mu:=[(0,.one (.keep false [.vec 1]))],own:=[] }) tab_ok mixed (F:=Tryz.f30) (by kernel_rfl) (by kernel_rfl) (by kernel_rfl) h))
def rq2p (x1:Int) (x5:Int) (k0:List (List AV)):Tree :=
 NI (.v (.int .i64 x1))<|NI (.v (.int .i64 x5))<|.need (Ob.vec 1 k0 = .vec 1 k0)<|.test (decide (x5 < (k0.length:Int))) (.call 45 [.v (.int .i64 x1)] [] fun r1 o1=>NS r1<|.need (0<=x5/\x5 < k0.length)<|.need (x5.toNat < k0.length/\0+1<=1)<|.done 0 [.v (.int .i64 (IntKind.wrap .i64 (x1+1))),.v (.int .i64 (IntKind.wrap .i64 (x5+1)))] [.vec 1 (k0.set x5.toNat ((k0.getD x5.toNat []).set 0 (.v (.string r1.toStr))))]) (.done 1 [.v (.int .i64 x1)] [.vec 1 k0])
abbrev Lq5l:=LSpec Tryz.prog 20 Cq9z Lq39
theorem Gq8d (x1:Int) (x5:Int) (k0:List (List AV)) {R:RL} (h:wpT Tryz.prog 20 (rq2p x1 x5 k0) (Rnd (fun ys o=>Lq5l ys o R) R)):Lq5l [.v (.int .i64 x1),.v (.int .i64 x5)] [.vec 1 k0] R :=
 LSpec.ofE (cfg:=cfg) (lis:=lqbc) tab_ok mixed (by kernel_rfl) h
def Lq5h:LI:={ hd:={ slots:=[(0,.k .sl),(1,.k (.int .i64)),(5,.k (.int .i64))] },xs:={ slots:=[(1,.k (.int .i64))] },rt:={ slots:=[(4,.k (.int .i64))] },ex:=0 }
def Cq8m:Code:=loopAt (bodyOf Tryz.f31) 2
def lq6o:List (Nat×LI):=[(2,Lq5h)]
def tq9m (a0:AV) (a1:Int):Tree :=
 .loop Cq8m Lq5h [a0,.v (.int .i64 a1),.v (.int .i64 0)] [] (fun y2 q2=>NI (y2.headD .any)<|.done 0 [.v (.int .i64 ((y2.headD .any).toInt))] []) (fun y2 q2=>NI (y2.headD .any)<|.done 0 [.v (.int .i64 ((y2.headD .any).toInt))] [])
theorem Fqg8 (a0:AV) (a1:Int) (ha0:LK.has .sl a0)  (h:wpT Tryz.prog 22 (tq9m a0 a1) fun _ xs obs=>R (xs.headD .any) obs):FSpec Tryz.prog 31 [a0,.v (.int .i64 a1)] [] R :=
 uQ (up_cons (up_sl ha0) (up_cons (up_refl _) up_nil)) (oQ lq6o Tryz.f31 (by kernel_rfl) (by kernel_rfl) (by kernel_rfl) h)
def rq3e (x0:AV) (x1:Int) (x5:Int):Tree :=
 NL x0<|NI (.v (.int .i64 x1))<|NI (.v (.int .i64 x5))<|NL x0<|.test (decide (x5 < (x0.elems.length:Int))) (NG x0 x5 1<|NSh (x0.elems.getD x5.toNat [])<|.call 45 [.v (.int .i64 x1)] [] fun r1 o1=>NS r1<|.test (!(ByteArray.toList (((x0.elems.getD x5.toNat []).headD .any).toStr)==ByteArray.toList r1.toStr)) (.done 2 [.v (.int .i64 (-1))] []) (.done 0 [x0,.v (.int .i64 (IntKind.wrap .i64 (x1+1))),.v (.int .i64 (IntKind.wrap .i64 (x5+1)))] [])) (.done 1 [.v (.int .i64 x1)] [])
abbrev Lq2x:=LSpec Tryz.prog 22 Cq8m Lq5h
theorem Gq8y (x0:AV) (x1:Int) (x5:Int) {R:RL} (h:wpT Tryz.prog 22 (rq3e x0 x1 x5) (Rnd (fun ys o=>Lq2x ys o R) R)):Lq2x [x0,.v (.int .i64 x1),.v (.int .i64 x5)] [] R :=
 LSpec.ofE (cfg:=cfg) (lis:=lq6o) tab_ok mixed (by kernel_rfl) h
def Lq55:LI:={ hd:={ slots:=[(0,.k .sl),(1,.k (.int .i64)),(5,.k (.int .i64))] },xs:={ slots:=[(1,.k (.int .i64))] },rt:={ slots:=[(4,.k (.int .i64))] },ex:=0 }
def Cqbr:Code:=loopAt (bodyOf Tryz.f32) 5
def lq6m:List (Nat×LI):=[(5,Lq55)]
def tqcn (a0:AV) (a1:Int):Tree :=
 NL a0<|.test (decide ((IntKind.wrap .i64 (a1 - (a0.elems.length:Int))) < (0:Int))) (.done 0 [.v (.int .i64 (-1))] []) (.loop Cqbr Lq55 [a0,.v (.int .i64 (IntKind.wrap .i64 (a1 - (a0.elems.length:Int)))),.v (.int .i64 0)] [] (fun y1 q1=>NI (y1.headD .any)<|.done 0 [.v (.int .i64 ((y1.headD .any).toInt))] []) (fun y1 q1=>NI (y1.headD .any)<|.done 0 [.v (.int .i64 ((y1.headD .any).toInt))] []))
theorem Fqgx (a0:AV) (a1:Int) (ha0:LK.has .sl a0)  (h:wpT Tryz.prog 28 (tqcn a0 a1) fun _ xs obs=>R (xs.headD .any) obs):FSpec Tryz.prog 32 [a0,.v (.int .i64 a1)] [] R :=
 uQ (up_cons (up_sl ha0) (up_cons (up_refl _) up_nil)) (oQ lq6m Tryz.f32 (by kernel_rfl) (by kernel_rfl) (by kernel_rfl) h)
def rq3j (x0:AV) (x1:Int) (x5:Int):Tree :=
 NL x0<|NI (.v (.int .i64 x1))<|NI (.v (.int .i64 x5))<|NL x0<|.test (decide (x5 < (x0.elems.length:Int))) (NG x0 x5 1<|NSh (x0.elems.getD x5.toNat [])<|.test (decide ((IntKind.wrap .i64 (x1 - (ByteArray.size (((x0.elems.getD x5.toNat []).headD .any).toStr):Int))) < (0:Int))) (.done 2 [.v (.int .i64 (-1))] []) (.done 0 [x0,.v (.int .i64 (IntKind.wrap .i64 (x1 - (ByteArray.size (((x0.elems.getD x5.toNat []).headD .any).toStr):Int)))),.v (.int .i64 (IntKind.wrap .i64 (x5+1)))] [])) (.done 1 [.v (.int .i64 x1)] [])
abbrev Lq5c:=LSpec Tryz.prog 28 Cqbr Lq55
theorem Gqc0 (x0:AV) (x1:Int) (x5:Int) {R:RL} (h:wpT Tryz.prog 28 (rq3j x0 x1 x5) (Rnd (fun ys o=>Lq5c ys o R) R)):Lq5c [x0,.v (.int .i64 x1),.v (.int .i64 x5)] [] R :=
 LSpec.ofE (cfg:=cfg) (lis:=lq6m) tab_ok mixed (by kernel_rfl) h
def Lq31:LI:={ hd:={ slots:=[(3,.k .str),(7,.k (.int .i64))],refs:=[(1,1)],objs:=[(1,[.lk .str,.lk .sl,.lk .str])] },xs:={},rt:={ slots:=[(2,.k .bool)] },ex:=0 }
def Cq6i:Code:=loopAt (bodyOf Tryz.f33) 6
def lq9f:List (Nat×LI):=[(6,Lq31)]
def tq8x (a0_0:ByteArray) (a0_1:AV) (a0_2:ByteArray):Tree :=
 .call 46 [.v (.string a0_0)] [] fun r1 o1=>NT r1<|NS (r1.comp 0)<|NB (r1.comp 1)<|.call 47 [.v (.string a0_0)] [] fun r2 o2=>NT r2<|.need ((r2.comp 0) = .agg (r2.comp 0).cs/\(r2.comp 0).cs.length = 2/\hasL [.str,.sl] ((r2.comp 0).cs) 0)<|NB (r2.comp 1)<|.test (!((r1.comp 1).toBool)) (.done 0 [.v (.bool false)] []) (.test (!((r2.comp 1).toBool)) (.done 0 [.v (.bool false)] []) (NL a0_1<|.test (decide ((a0_1.elems.length:Int) > (50:Int))) (.done 0 [.v (.bool false)] []) (.call 48 [.v (.string a0_0),.v (.string a0_2),.v (.int .i64 100)] [] fun r3 o3=>NB r3<|.test (!r3.toBool) (.done 0 [.v (.bool false)] []) (.loop Cq6i Lq31 [.v (.string ((r1.comp 0).toStr)),.v (.int .i64 0)] [.cells [.v (.string a0_0),a0_1,.v (.string a0_2)]] (fun y5 q5=>.done 0 [.v (.bool true)] []) (fun y5 q5=>NB (y5.headD .any)<|.done 0 [.v (.bool ((y5.headD .any).toBool))] [])))))
theorem Fqgy (a0_0:ByteArray) (a0_1:AV) (a0_2:ByteArray) (ha0_1:LK.has .sl a0_1)  (h:wpT Tryz.prog 55 (tq8x a0_0 a0_1 a0_2) fun _ xs obs=>R (xs.headD .any) obs):FSpec Tryz.prog 33 [.agg [.v (.string a0_0),a0_1,.v (.string a0_2)]] [] R :=
 uQ (up_cons (up_agg (up_cons (up_refl _) (up_cons (up_sl ha0_1) (up_cons (up_refl _) up_nil)))) up_nil) (oQ lq9f Tryz.f33 (by kernel_rfl) (by kernel_rfl) (by kernel_rfl) h)
def rq44 (x3:ByteArray) (x7:Int) (o1_0:ByteArray) (o1_1:AV) (o1_2:ByteArray):Tree :=
 NS (.v (.string x3))<|NI (.v (.int .i64 x7))<|.need (Ob.cells [.v (.string o1_0),o1_1,.v (.string o1_2)] = .cells [.v (.string o1_0),o1_1,.v (.string o1_2)])<|.need (hasK [.lk .str,.lk .sl,.lk .str] [.v (.string o1_0),o1_1,.v (.string o1_2)] 0 [])<|NL o1_1<|.test (decide (x7 < (o1_1.elems.length:Int))) (NG o1_1 x7 1<|NSh (o1_1.elems.getD x7.toNat [])<|.call 48 [.v (.string x3),.v (.string (((o1_1.elems.getD x7.toNat []).headD .any).toStr)),.v (.int .i64 100)] [] fun r1 o1=>NB r1<|.test (!r1.toBool) (.done 2 [.v (.bool false)] []) (.done 0 [.v (.string x3),.v (.int .i64 (IntKind.wrap .i64 (x7+1)))] [.cells [.v (.string o1_0),o1_1,.v (.string o1_2)]])) (.done 1 [] [])
abbrev Lq2z:=LSpec Tryz.prog 55 Cq6i Lq31
theorem Gq5z (x3:ByteArray) (x7:Int) (o1_0:ByteArray) (o1_1:AV) (o1_2:ByteArray) {R:RL} (h:wpT Tryz.prog 55 (rq44 x3 x7 o1_0 o1_1 o1_2) (Rnd (fun ys o=>Lq2z ys o R) R)):Lq2z [.v (.string x3),.v (.int .i64 x7)] [.cells [.v (.string o1_0),o1_1,.v (.string o1_2)]] R :=
 LSpec.ofE (cfg:=cfg) (lis:=lq9f) tab_ok mixed (by kernel_rfl) h
def Lq53:LI:={ hd:={ refs:=[(1,1),(2,2)],objs:=[(1,[.lk .str,.lk .sl,.lk .str]),(2,[.lk .str,.lk .sl,.lk .str])] },xs:={ refs:=[(1,1),(2,2)],objs:=[(1,[.lk .str,.lk .sl,.lk .str]),(2,[.lk .str,.lk .sl,.lk .str])] },rt:={ slots:=[(3,.k .bool)],refs:=[(2,2)],objs:=[(2,[.lk .str,.lk .sl,.lk .str])] },ex:=0 }
def Cqb7:Code:=loopAt (bodyOf Tryz.f34) 1
def lq6h:List (Nat×LI):=[(1,Lq53)]
def tq94 (a0_0:ByteArray) (a0_1:AV) (a0_2:ByteArray):Tree :=
 .loop Cqb7 Lq53 [] [.cells [.v (.string a0_0),a0_1,.v (.string a0_2)],.cells [.v (.string (mk [])),.v (.slice none 0 0),.v (.string (mk []))]] (fun y2 q2=>.need ((q2.headD .dead) = .cells (q2.headD .dead).cs)<|.need (hasK [.lk .str,.lk .sl,.lk .str] ((q2.headD .dead).cs) 0 q2.tail)<|.need (((q2.tail.drop 0).headD .dead) = .cells ((q2.tail.drop 0).headD .dead).cs)<|.need (hasK [.lk .str,.lk .sl,.lk .str] (((q2.tail.drop 0).headD .dead).cs) 0 ((q2.tail.drop 0).tail))<|.done 0 [.tup [.agg [.v (.string (((q2.headD .dead).cs.getD 0 .any).toStr)),((q2.headD .dead).cs.getD 1 .any),.v (.string (((q2.headD .dead).cs.getD 2 .any).toStr))],.v (.bool true)]] []) (fun y2 q2=>NB (y2.headD .any)<|.need ((q2.headD .dead) = .cells (q2.headD .dead).cs)<|.need (hasK [.lk .str,.lk .sl,.lk .str] ((q2.headD .dead).cs) 0 q2.tail)<|.done 0 [.tup [.agg [.v (.string (((q2.headD .dead).cs.getD 0 .any).toStr)),((q2.headD .dead).cs.getD 1 .any),.v (.string (((q2.headD .dead).cs.getD 2 .any).toStr))],.v (.bool ((y2.headD .any).toBool))]] [])
theorem Fqd6 (a0_0:ByteArray) (a0_1:AV) (a0_2:ByteArray) (ha0_1:LK.has .sl a0_1)  (h:wpT Tryz.prog 20 (tq94 a0_0 a0_1 a0_2) fun _ xs obs=>R (xs.headD .any) obs):FSpec Tryz.prog 34 [.agg [.v (.string a0_0),a0_1,.v (.string a0_2)]] [] R :=
 uQ (up_cons (up_agg (up_cons (up_refl _) (up_cons (up_sl ha0_1) (up_cons (up_refl _) up_nil)))) up_nil) (oQ lq6h Tryz.f34 (by kernel_rfl) (by kernel_rfl) (by kernel_rfl) h)
def rq2t (o1_0:ByteArray) (o1_1:AV) (o1_2:ByteArray) (o2_0:ByteArray) (o2_1:AV) (o2_2:ByteArray):Tree :=
 .need (Ob.cells [.v (.string o1_0),o1_1,.v (.string o1_2)] = .cells [.v (.string o1_0),o1_1,.v (.string o1_2)])<|.need (hasK [.lk .str,.lk .sl,.lk .str] [.v (.string o1_0),o1_1,.v (.string o1_2)] 0 [.cells [.v (.string o2_0),o2_1,.v (.string o2_2)]])<|.need (Ob.cells [.v (.string o2_0),o2_1,.v (.string o2_2)] = .cells [.v (.string o2_0),o2_1,.v (.string o2_2)])<|.need (hasK [.lk .str,.lk .sl,.lk .str] [.v (.string o2_0),o2_1,.v (.string o2_2)] 0 [])<|NL o1_1<|.test (decide ((o1_1.elems.length:Int) > (0:Int))) (.call 39 [.agg [.v (.string o1_0),o1_1,.v (.string o1_2)]] [] fun r1 o1=>NT r1<|.need ((r1.comp 0) = .agg (r1.comp 0).cs/\(r1.comp 0).cs.length = 3/\hasL [.str,.sl,.str] ((r1.comp 0).cs) 0)<|NB (r1.comp 1)<|.test (!((r1.comp 1).toBool)) (.done 2 [.v (.bool false)] [.cells [.v (.string o1_0),o1_1,.v (.string o1_2)]]) (.done 0 [] [.cells [.v (.string (((r1.comp 0).cs.getD 0 .any).toStr)),((r1.comp 0).cs.getD 1 .any),.v (.string (((r1.comp 0).cs.getD 2 .any).toStr))],.cells [.v (.string o2_0),o2_1,.v (.string o2_2)]])) (.done 1 [] [.cells [.v (.string o1_0),o1_1,.v (.string o1_2)],.cells [.v (.string o2_0),o2_1,.v (.string o2_2)]])
abbrev Lq4q:=LSpec Tryz.prog 20 Cqb7 Lq53
theorem Gqbz (o1_0:ByteArray) (o1_1:AV) (o1_2:ByteArray) (o2_0:ByteArray) (o2_1:AV) (o2_2:ByteArray) {R:RL} (h:wpT Tryz.prog 20 (rq2t o1_0 o1_1 o1_2 o2_0 o2_1 o2_2) (Rnd (fun ys o=>Lq4q ys o R) R)):Lq4q [] [.cells [.v (.string o1_0),o1_1,.v (.string o1_2)],.cells [.v (.string o2_0),o2_1,.v (.string o2_2)]] R :=
 LSpec.ofE (cfg:=cfg) (lis:=lq6h) tab_ok mixed (by kernel_rfl) h
def Lq56:LI:={ hd:={ slots:=[(0,.k .sl),(4,.k (.int .i64))],vecs:=[(3,1)] },xs:={ vecs:=[(3,1)] },rt:={},ex:=0 }
def Cq9t:Code:=loopAt (bodyOf Tryz.f35) 3
def lqag:List (Nat×LI):=[(3,Lq56)]
def tqar (a0:AV):Tree :=
 NL a0<|.need (0<=(a0.elems.length:Int)/\(a0.elems.length:Int)*16<=140737488355328)<|.loop Cq9t Lq56 [a0,.v (.int .i64 0)] [.vec 1 (List.replicate (Int.toNat (a0.elems.length:Int)) [.v (.string (mk []))])] (fun y1 q1=>.need (((q1.drop 0).headD .dead) = .vec 1 ((q1.drop 0).headD .dead).es)<|.done 0 [.vec 0] [.vec 1 ((q1.headD .dead).es)]) (fun y1 q1=>.fail)
theorem Fqfw (a0:AV) (ha0:LK.has .sl a0)  (h:wpT Tryz.prog 22 (tqar a0) fun _ xs obs=>R (xs.headD .any) obs):FSpec Tryz.prog 35 [a0] [] R :=
 uQ (up_cons (up_sl ha0) up_nil) (FSpec.ofE (cfg:=cfg) (lis:=lqag) (fc:={ mu:=[],own:=[0] }) tab_ok mixed (F:=Tryz.f35) (by kernel_rfl) (by kernel_rfl) (by kernel_rfl) h)
def rq3w (x0:AV) (x4:Int) (e3:List (List AV)):Tree :=
 NL x0<|NI (.v (.int .i64 x4))<|.need (Ob.vec 1 e3 = .vec 1 e3)<|NL x0<|.test (decide (x4 < (x0.elems.length:Int))) (NG x0 x4 1<|NSh (x0.elems.getD x4.toNat [])<|.need (0<=x4/\x4 < e3.length)<|.need (x4.toNat < e3.length/\0+1<=1)<|.done 0 [x0,.v (.int .i64 (IntKind.wrap .i64 (x4+1)))] [.vec 1 (e3.set x4.toNat ((e3.getD x4.toNat []).set 0 (.v (.string (((x0.elems.getD x4.toNat []).headD .any).toStr)))))]) (.done 1 [] [.vec 1 e3])
abbrev Lq2y:=LSpec Tryz.prog 22 Cq9t Lq56
theorem Gqa0 (x0:AV) (x4:Int) (e3:List (List AV)) {R:RL} (h:wpT Tryz.prog 22 (rq3w x0 x4 e3) (Rnd (fun ys o=>Lq2y ys o R) R)):Lq2y [x0,.v (.int .i64 x4)] [.vec 1 e3] R :=
 LSpec.ofE (cfg:=cfg) (lis:=lqag) tab_ok mixed (by kernel_rfl) h
def Lq3p:LI:={ hd:={ slots:=[(3,.k .ptr),(4,.k .ptr)] },xs:={ slots:=[(3,.k .ptr)] },rt:={ slots:=[(2,.k .ptr)] },ex:=0 }
def Cq8v:Code:=loopAt (bodyOf Tryz.f36) 5
def lq80:List (Nat×LI):=[(5,Lq3p)]
def tq7s (a0_0:ByteArray) (a0_1:AV) (a0_2:ByteArray):Tree :=
 .call 28 [.agg [.v (.string a0_0),a0_1,.v (.string a0_2)]] [] fun r1 o1=>NP r1<|NP r1<|.test r1.isNil (.done 0 [.v (.pointer none)] []) (.loop Cq8v Lq3p [r1,r1] [] (fun y3 q3=>NP (y3.headD .any)<|.done 0 [(y3.headD .any)] []) (fun y3 q3=>NP (y3.headD .any)<|.done 0 [(y3.headD .any)] []))
theorem Fqdc (a0_0:ByteArray) (a0_1:AV) (a0_2:ByteArray) (ha0_1:LK.has .sl a0_1)  (h:wpT Tryz.prog 21 (tq7s a0_0 a0_1 a0_2) fun _ xs obs=>R (xs.headD .any) obs):FSpec Tryz.prog 36 [.agg [.v (.string a0_0),a0_1,.v (.string a0_2)]] [] R :=
 uQ (up_cons (up_agg (up_cons (up_refl _) (up_cons (up_sl ha0_1) (up_cons (up_refl _) up_nil)))) up_nil) (oQ lq80 Tryz.f36 (by kernel_rfl) (by kernel_rfl) (by kernel_rfl) h)
def rq3a (x3:AV) (x4:AV):Tree :=
 NP x3<|NP x4<|NZ x4<|NZ x4<|NLh (x4.deref.drop 2)<|NL ((x4.deref.drop 2).headD .any)<|.test (decide (((((x4.deref.drop 2).headD .any).elems).length:Int) > (0:Int))) (.call 37 [x4] [] fun r1 o1=>NP r1<|NP r1<|.test r1.isNil (.done 2 [.v (.pointer none)] []) (.done 0 [x3,r1] [])) (.done 1 [x3] [])
abbrev Lq4w:=LSpec Tryz.prog 21 Cq8v Lq3p
theorem Gq99 (x3:AV) (x4:AV) {R:RL} (h:wpT Tryz.prog 21 (rq3a x3 x4) (Rnd (fun ys o=>Lq4w ys o R) R)):Lq4w [x3,x4] [] R :=
 LSpec.ofE (cfg:=cfg) (lis:=lq80) tab_ok mixed (by kernel_rfl) h
def tq57 (a0:AV):Tree :=
 NP a0<|.test a0.isNil (.done 0 [.v (.pointer none)] []) (NZ a0<|NZ a0<|NLh (a0.deref.drop 2)<|NL ((a0.deref.drop 2).headD .any)<|.test (((((a0.deref.drop 2).headD .any).elems).length:Int)==(0:Int)) (.done 0 [.v (.pointer none)] []) (NZ a0<|NZ a0<|NLh (a0.deref.drop 2)<|NL ((a0.deref.drop 2).headD .any)<|NZ a0<|NZ a0<|NPh (a0.deref.drop 1)<|NZ a0<|NZ a0<|NLh (a0.deref.drop 2)<|.need (LK.has .sl ((a0.deref.drop 2).headD .any)/\0<=(IntKind.wrap .i64 (((((a0.deref.drop 2).headD .any).elems).length:Int) - 1))/\(IntKind.wrap .i64 (((((a0.deref.drop 2).headD .any).elems).length:Int) - 1)) < ((a0.deref.drop 2).headD .any).elems.length/\(((a0.deref.drop 2).headD .any).elems.getD (IntKind.wrap .i64 (((((a0.deref.drop 2).headD .any).elems).length:Int) - 1)).toNat []).length = 1)<|.need (LK.has .ptr ((((a0.deref.drop 2).headD .any).elems.getD (IntKind.wrap .i64 (((((a0.deref.drop 2).headD .any).elems).length:Int) - 1)).toNat []).headD .any)/\1<=(((a0.deref.drop 2).headD .any).elems.getD (IntKind.wrap .i64 (((((a0.deref.drop 2).headD .any).elems).length:Int) - 1)).toNat []).length)<|NZ a0<|NZ a0<|NPh (a0.deref.drop 3)<|.call 49 [((a0.deref.drop 1).headD .any),((((a0.deref.drop 2).headD .any).elems.getD (IntKind.wrap .i64 (((((a0.deref.drop 2).headD .any).elems).length:Int) - 1)).toNat []).headD .any),((a0.deref.drop 3).headD .any)] [] fun r1 o1=>NP r1<|.call 50 [r1] [] fun r2 o2=>NI r2<|.test (decide (r2.toInt > (200:Int))) (.done 0 [.v (.pointer none)] []) (NZ a0<|NZ a0<|.need (LK.has .str (a0.deref.headD .any)/\1<=a0.deref.length)<|NZ a0<|NZ a0<|NPh (a0.deref.drop 1)<|NZ a0<|NZ a0<|NLh (a0.deref.drop 2)<|.need (LK.has .sl ((a0.deref.drop 2).headD .any)/\0<=(0:Int)/\(0:Int)<=(IntKind.wrap .i64 (((((a0.deref.drop 2).headD .any).elems).length:Int) - 1))/\(IntKind.wrap .i64 (((((a0.deref.drop 2).headD .any).elems).length:Int) - 1))<=((((a0.deref.drop 2).headD .any).elems).length:Int))<|.done 0 [.ptr [.v (.string ((a0.deref.headD .any).toStr)),((a0.deref.drop 1).headD .any),.sl (((((a0.deref.drop 2).headD .any).elems).take (Int.toNat (IntKind.wrap .i64 (((((a0.deref.drop 2).headD .any).elems).length:Int) - 1)))).drop (Int.toNat 0)),r1]] [])))
theorem Fq7f (a0:AV) (ha0:LK.has .ptr a0)  (h:wpT Tryz.prog 57 (tq57 a0) fun _ xs obs=>R (xs.headD .any) obs):FSpec Tryz.prog 37 [a0] [] R :=
 uQ (up_cons (up_ptr ha0) up_nil) (oQ [] Tryz.f37 (by kernel_rfl) (by kernel_rfl) (by kernel_rfl) h)
def tqt (a0:AV):Tree :=
 NZ a0<|NZ a0<|.need (LK.has (.int .u8) (a0.deref.headD .any)/\1<=a0.deref.length)<|.test (((a0.deref.headD .any).toInt)==(117:Int)) (.done 0 [.v (.string (mk [117]))] []) (.test (((a0.deref.headD .any).toInt)==(101:Int)) (NZ a0<|NZ a0<|NSh (a0.deref.drop 1)<|.done 0 [.v (.string (((a0.deref.drop 1).headD .any).toStr))] []) (.test (((a0.deref.headD .any).toInt)==(112:Int)) (NZ a0<|NZ a0<|NPh (a0.deref.drop 2)<|.call 38 [((a0.deref.drop 2).headD .any)] [] fun r1 o1=>NS r1<|.need (ByteArray.size (mk [40,112,32])+ByteArray.size r1.toStr<=9223372036854775807)<|.need (ByteArray.size (((mk [40,112,32]):ByteArray)++r1.toStr)+ByteArray.size (mk [32])<=9223372036854775807)<|NZ a0<|NZ a0<|NPh (a0.deref.drop 3)<|.call 38 [((a0.deref.drop 3).headD .any)] [] fun r2 o2=>NS r2<|.need (ByteArray.size (((((mk [40,112,32]):ByteArray)++r1.toStr):ByteArray)++(mk [32]))+ByteArray.size r2.toStr<=9223372036854775807)<|.need (ByteArray.size (((((((mk [40,112,32]):ByteArray)++r1.toStr):ByteArray)++(mk [32])):ByteArray)++r2.toStr)+ByteArray.size (mk [41])<=9223372036854775807)<|.done 0 [.v (.string (((((((((mk [40,112,32]):ByteArray)++r1.toStr):ByteArray)++(mk [32])):ByteArray)++r2.toStr):ByteArray)++(mk [41])))] []) (NZ a0<|NZ a0<|.need (LK.has (.int .u8) (a0.deref.headD .any)/\1<=a0.deref.length)<|.need (allU8 [[.v (.int .u8 ((a0.deref.headD .any).toInt))]])<|.need (ByteArray.size (mk [40])+ByteArray.size (⟨(bytesOf [[.v (.int .u8 ((a0.deref.headD .any).toInt))]]).toArray⟩)<=9223372036854775807)<|.need (ByteArray.size (((mk [40]):ByteArray)++(⟨(bytesOf [[.v (.int .u8 ((a0.deref.headD .any).toInt))]]).toArray⟩))+ByteArray.size (mk [32])<=9223372036854775807)<|NZ a0<|NZ a0<|NPh (a0.deref.drop 2)<|.call 38 [((a0.deref.drop 2).headD .any)] [] fun r3 o3=>NS r3<|.need (ByteArray.size (((((mk [40]):ByteArray)++(⟨(bytesOf [[.v (.int .u8 ((a0.deref.headD .any).toInt))]]).toArray⟩)):ByteArray)++(mk [32]))+ByteArray.size r3.toStr<=9223372036854775807)<|.need (ByteArray.size (((((((mk [40]):ByteArray)++(⟨(bytesOf [[.v (.int .u8 ((a0.deref.headD .any).toInt))]]).toArray⟩)):ByteArray)++(mk [32])):ByteArray)++r3.toStr)+ByteArray.size (mk [41])<=9223372036854775807)<|.done 0 [.v (.string (((((((((mk [40]):ByteArray)++(⟨(bytesOf [[.v (.int .u8 ((a0.deref.headD .any).toInt))]]).toArray⟩)):ByteArray)++(mk [32])):ByteArray)++r3.toStr):ByteArray)++(mk [41])))] [])))
theorem Fq18 (a0:AV) (ha0:LK.has .ptr a0)  (h:wpT Tryz.prog 46 (tqt a0) fun _ xs obs=>R (xs.headD .any) obs):FSpec Tryz.prog 38 [a0] [] R :=
 uQ (up_cons (up_ptr ha0) up_nil) (oQ [] Tryz.f38 (by kernel_rfl) (by kernel_rfl) (by kernel_rfl) h)
def tq74 (a0_0:ByteArray) (a0_1:AV) (a0_2:ByteArray):Tree :=
 NL a0_1<|.test ((a0_1.elems.length:Int)==(0:Int)) (.done 0 [.tup [.agg [.v (.string a0_0),a0_1,.v (.string a0_2)],.v (.bool false)]] []) (.need (LK.has .sl a0_1/\0<=(IntKind.wrap .i64 ((a0_1.elems.length:Int) - 1))/\(IntKind.wrap .i64 ((a0_1.elems.length:Int) - 1)) < a0_1.elems.length/\(a0_1.elems.getD (IntKind.wrap .i64 ((a0_1.elems.length:Int) - 1)).toNat []).length = 1)<|NSh (a0_1.elems.getD (IntKind.wrap .i64 ((a0_1.elems.length:Int) - 1)).toNat [])<|.call 51 [.v (.string a0_0),.v (.string (((a0_1.elems.getD (IntKind.wrap .i64 ((a0_1.elems.length:Int) - 1)).toNat []).headD .any).toStr)),.v (.string a0_2)] [] fun r1 o1=>NT r1<|NS (r1.comp 0)<|NB (r1.comp 1)<|.need (LK.has .sl a0_1/\0<=(0:Int)/\(0:Int)<=(IntKind.wrap .i64 ((a0_1.elems.length:Int) - 1))/\(IntKind.wrap .i64 ((a0_1.elems.length:Int) - 1))<=(a0_1.elems.length:Int))<|.need (allLen 1 ((a0_1.elems.take (Int.toNat (IntKind.wrap .i64 ((a0_1.elems.length:Int) - 1)))).drop (Int.toNat 0))/\((([]:List (List AV)).length)+((a0_1.elems.take (Int.toNat (IntKind.wrap .i64 ((a0_1.elems.length:Int) - 1)))).drop (Int.toNat 0)).length)*16<=140737488355328)<|.done 0 [.tup [.agg [.v (.string a0_0),.sl (([]:List (List AV))++((a0_1.elems.take (Int.toNat (IntKind.wrap .i64 ((a0_1.elems.length:Int) - 1)))).drop (Int.toNat 0))),.v (.string ((r1.comp 0).toStr))],.v (.bool ((r1.comp 1).toBool))]] [])
theorem Fqd2 (a0_0:ByteArray) (a0_1:AV) (a0_2:ByteArray) (ha0_1:LK.has .sl a0_1)  (h:wpT Tryz.prog 39 (tq74 a0_0 a0_1 a0_2) fun _ xs obs=>R (xs.headD .any) obs):FSpec Tryz.prog 39 [.agg [.v (.string a0_0),a0_1,.v (.string a0_2)]] [] R :=
 uQ (up_cons (up_agg (up_cons (up_refl _) (up_cons (up_sl ha0_1) (up_cons (up_refl _) up_nil)))) up_nil) (oQ [] Tryz.f39 (by kernel_rfl) (by kernel_rfl) (by kernel_rfl) h)
def tqc8 (a0:ByteArray) (a1:ByteArray):Tree :=
 .call 57 [.v (.string a0)] [] fun r1 o1=>NP r1<|NP r1<|.test r1.isNil (.done 0 [.tup [.v (.pointer none),.v (.pointer none)]] []) (.call 44 [.v (.string a0),.v (.string a1),.v (.int .i64 100)] [] fun r2 o2=>NT r2<|NP (r2.comp 0)<|NP (r2.comp 1)<|.done 0 [.tup [(r2.comp 0),(r2.comp 1)]] [])
theorem Fqej (a0:ByteArray) (a1:ByteArray)   (h:wpT Tryz.prog 14 (tqc8 a0 a1) fun _ xs obs=>R (xs.headD .any) obs):FSpec Tryz.prog 42 [.v (.string a0),.v (.string a1)] [] R :=
 uQ (up_cons (up_refl _) (up_cons (up_refl _) up_nil)) (oQ [] Tryz.f42 (by kernel_rfl) (by kernel_rfl) (by kernel_rfl) h)
def tq8g (a0:ByteArray):Tree :=
 .call 58 [.v (.string a0)] [] fun r1 o1=>NP r1<|NP r1<|.test r1.isNil (.done 0 [.tup [.v (.string (mk [])),.v (.bool false)]] []) (NZ r1<|NZ r1<|.need (LK.has (.int .u8) (r1.deref.headD .any)/\1<=r1.deref.length)<|.test (((r1.deref.headD .any).toInt) != (114:Int)) (.done 0 [.tup [.v (.string (mk [])),.v (.bool false)]] []) (.call 59 [r1] [] fun r2 o2=>NT r2<|NP (r2.comp 0)<|NB (r2.comp 1)<|.test (!((r2.comp 1).toBool)) (.done 0 [.tup [.v (.string (mk [])),.v (.bool false)]] []) (.call 60 [(r2.comp 0)] [] fun r3 o3=>NT r3<|NS (r3.comp 0)<|NB (r3.comp 1)<|.done 0 [.tup [.v (.string ((r3.comp 0).toStr)),.v (.bool ((r3.comp 1).toBool))]] [])))
theorem Fqer (a0:ByteArray)   (h:wpT Tryz.prog 29 (tq8g a0) fun _ xs obs=>R (xs.headD .any) obs):FSpec Tryz.prog 43 [.v (.string a0)] [] R :=
 uQ (up_cons (up_refl _) up_nil) (oQ [] Tryz.f43 (by kernel_rfl) (by kernel_rfl) (by kernel_rfl) h)
def tq79 (a0:ByteArray) (a1:ByteArray) (a2:Int):Tree :=
 .call 61 [.v (.string a0)] [] fun r1 o1=>NP r1<|.call 62 [.v (.string a1)] [] fun r2 o2=>NP r2<|NP r1<|.test r1.isNil (.done 0 [.tup [r1,.v (.pointer none)]] []) (NP r2<|.test r2.isNil (.done 0 [.tup [r1,.v (.pointer none)]] []) (.test (decide (a2 < (0:Int))) (.done 0 [.tup [r1,.v (.pointer none)]] []) (.test (decide (a2 > (100:Int))) (.done 0 [.tup [r1,.v (.pointer none)]] []) (.call 63 [.agg [r1,.v (.pointer none)],r2,.v (.int .i64 a2)] [] fun r3 o3=>NB r3<|.test (!r3.toBool) (.done 0 [.tup [r1,.v (.pointer none)]] []) (.done 0 [.tup [r1,r2]] [])))))
theorem Fqf6 (a0:ByteArray) (a1:ByteArray) (a2:Int)   (h:wpT Tryz.prog 39 (tq79 a0 a1 a2) fun _ xs obs=>R (xs.headD .any) obs):FSpec Tryz.prog 44 [.v (.string a0),.v (.string a1),.v (.int .i64 a2)] [] R :=
 uQ (up_cons (up_refl _) (up_cons (up_refl _) (up_cons (up_refl _) up_nil))) (oQ [] Tryz.f44 (by kernel_rfl) (by kernel_rfl) (by kernel_rfl) h)
def Lq3n:LI:={ hd:={ slots:=[(0,.k (.int .i64)),(3,.k .str)] },xs:={ slots:=[(3,.k .str)] },rt:={},ex:=0 }
def Cq8w:Code:=loopAt (bodyOf Tryz.f45) 4
def lqcb:List (Nat×LI):=[(4,Lq3n)]
def tqc6 (a0:Int):Tree :=
 .test (decide (a0<=(0:Int))) (.done 0 [.v (.string (mk [109,48]))] []) (.loop Cq8w Lq3n [.v (.int .i64 a0),.v (.string (mk []))] [] (fun y1 q1=>NS (y1.headD .any)<|.need (ByteArray.size (mk [109])+ByteArray.size ((y1.headD .any).toStr)<=9223372036854775807)<|.done 0 [.v (.string (((mk [109]):ByteArray)++((y1.headD .any).toStr)))] []) (fun y1 q1=>.done 0 [.any] []))
theorem Fqe4 (a0:Int)   (h:wpT Tryz.prog 20 (tqc6 a0) fun _ xs obs=>R (xs.headD .any) obs):FSpec Tryz.prog 45 [.v (.int .i64 a0)] [] R :=
 uQ (up_cons (up_refl _) up_nil) (oQ lqcb Tryz.f45 (by kernel_rfl) (by kernel_rfl) (by kernel_rfl) h)
def rqbw (x0:Int) (x3:ByteArray):Tree :=
 NI (.v (.int .i64 x0))<|NS (.v (.string x3))<|.test (decide (x0 > (0:Int))) (.need (¬ (10:Int) = 0)<|.need (allU8 [[.v (.int .u8 (IntKind.wrap .u8 (IntKind.wrap .i64 (48+(Int.tmod x0 10)))))]])<|.need (ByteArray.size (⟨(bytesOf [[.v (.int .u8 (IntKind.wrap .u8 (IntKind.wrap .i64 (48+(Int.tmod x0 10)))))]]).toArray⟩)+ByteArray.size x3<=9223372036854775807)<|.need (¬ (10:Int) = 0)<|.done 0 [.v (.int .i64 (IntKind.wrap .i64 (Int.tdiv x0 10))),.v (.string (((⟨(bytesOf [[.v (.int .u8 (IntKind.wrap .u8 (IntKind.wrap .i64 (48+(Int.tmod x0 10)))))]]).toArray⟩):ByteArray)++x3))] []) (.done 1 [.v (.string x3)] [])
abbrev Lq26:=LSpec Tryz.prog 20 Cq8w Lq3n
theorem Gqf7 (x0:Int) (x3:ByteArray) {R:RL} (h:wpT Tryz.prog 20 (rqbw x0 x3) (Rnd (fun ys o=>Lq26 ys o R) R)):Lq26 [.v (.int .i64 x0),.v (.string x3)] [] R :=
 LSpec.ofE (cfg:=cfg) (lis:=lqcb) tab_ok mixed (by kernel_rfl) h
def tq7h (a0:ByteArray):Tree :=
 .call 64 [.v (.string a0)] [] fun r1 o1=>NT r1<|.need ((r1.comp 0) = .agg (r1.comp 0).cs/\(r1.comp 0).cs.length = 2/\hasL [.str,.sl] ((r1.comp 0).cs) 0)<|NB (r1.comp 1)<|.test (!((r1.comp 1).toBool)) (.done 0 [.tup [.v (.string (mk [])),.v (.bool false)]] []) (.call 65 [.agg [.v (.string (((r1.comp 0).cs.getD 0 .any).toStr)),((r1.comp 0).cs.getD 1 .any)]] [] fun r2 o2=>NS r2<|.test (!(ByteArray.toList r2.toStr==ByteArray.toList (mk [114,101,99]))) (.done 0 [.tup [.v (.string (mk [])),.v (.bool false)]] []) (.call 66 [.agg [.v (.string (((r1.comp 0).cs.getD 0 .any).toStr)),((r1.comp 0).cs.getD 1 .any)]] [] fun r3 o3=>NT r3<|.need ((r3.comp 0) = .agg (r3.comp 0).cs/\(r3.comp 0).cs.length = 2/\hasL [.str,.sl] ((r3.comp 0).cs) 0)<|NB (r3.comp 1)<|.test (!((r3.comp 1).toBool)) (.done 0 [.tup [.v (.string (mk [])),.v (.bool false)]] []) (.call 67 [.agg [.v (.string (((r3.comp 0).cs.getD 0 .any).toStr)),((r3.comp 0).cs.getD 1 .any)]] [] fun r4 o4=>NT r4<|NS (r4.comp 0)<|NB (r4.comp 1)<|.done 0 [.tup [.v (.string ((r4.comp 0).toStr)),.v (.bool ((r4.comp 1).toBool))]] [])))
theorem Fqd7 (a0:ByteArray)   (h:wpT Tryz.prog 31 (tq7h a0) fun _ xs obs=>R (xs.headD .any) obs):FSpec Tryz.prog 46 [.v (.string a0)] [] R :=
 uQ (up_cons (up_refl _) up_nil) (oQ [] Tryz.f46 (by kernel_rfl) (by kernel_rfl) (by kernel_rfl) h)
def tq7t (a0:ByteArray):Tree :=
 .call 68 [.v (.string a0)] [] fun r1 o1=>NT r1<|.need ((r1.comp 0) = .agg (r1.comp 0).cs/\(r1.comp 0).cs.length = 2/\hasL [.str,.sl] ((r1.comp 0).cs) 0)<|NB (r1.comp 1)<|.test ((r1.comp 1).toBool) (.call 65 [.agg [.v (.string (((r1.comp 0).cs.getD 0 .any).toStr)),((r1.comp 0).cs.getD 1 .any)]] [] fun r2 o2=>NS r2<|.done 0 [.tup [.agg [.v (.string (((r1.comp 0).cs.getD 0 .any).toStr)),((r1.comp 0).cs.getD 1 .any)],.v (.bool (ByteArray.toList r2.toStr==ByteArray.toList (mk [114,101,99])))]] []) (.done 0 [.tup [.agg [.v (.string (((r1.comp 0).cs.getD 0 .any).toStr)),((r1.comp 0).cs.getD 1 .any)],.v (.bool false)]] [])
theorem Fqeo (a0:ByteArray)   (h:wpT Tryz.prog 18 (tq7t a0) fun _ xs obs=>R (xs.headD .any) obs):FSpec Tryz.prog 47 [.v (.string a0)] [] R :=
 uQ (up_cons (up_refl _) up_nil) (oQ [] Tryz.f47 (by kernel_rfl) (by kernel_rfl) (by kernel_rfl) h)
def tq9c (a0:ByteArray) (a1:ByteArray) (a2:Int):Tree :=
 .call 68 [.v (.string a0)] [] fun r1 o1=>NT r1<|.need ((r1.comp 0) = .agg (r1.comp 0).cs/\(r1.comp 0).cs.length = 2/\hasL [.str,.sl] ((r1.comp 0).cs) 0)<|NB (r1.comp 1)<|.call 52 [.v (.string a1)] [] fun r2 o2=>NT r2<|.need ((r2.comp 0) = .agg (r2.comp 0).cs/\(r2.comp 0).cs.length = 2/\hasL [.str,.sl] ((r2.comp 0).cs) 0)<|NB (r2.comp 1)<|.test ((r1.comp 1).toBool) (.test ((r2.comp 1).toBool) (.call 69 [.v (.int .i64 a2),.v (.int .i64 0),.v (.int .i64 100)] [] fun r3 o3=>NB r3<|.test r3.toBool (.call 70 [.agg [.v (.string (((r1.comp 0).cs.getD 0 .any).toStr)),((r1.comp 0).cs.getD 1 .any)],.sl [],.agg [.v (.string (((r2.comp 0).cs.getD 0 .any).toStr)),((r2.comp 0).cs.getD 1 .any)],.v (.int .i64 a2)] [] fun r4 o4=>NB r4<|.done 0 [.v (.bool r4.toBool)] []) (.done 0 [.v (.bool false)] [])) (.done 0 [.v (.bool false)] [])) (.done 0 [.v (.bool false)] [])
theorem Fqew (a0:ByteArray) (a1:ByteArray) (a2:Int)   (h:wpT Tryz.prog 36 (tq9c a0 a1 a2) fun _ xs obs=>R (xs.headD .any) obs):FSpec Tryz.prog 48 [.v (.string a0),.v (.string a1),.v (.int .i64 a2)] [] R :=
 uQ (up_cons (up_refl _) (up_cons (up_refl _) (up_cons (up_refl _) up_nil))) (oQ [] Tryz.f48 (by kernel_rfl) (by kernel_rfl) (by kernel_rfl) h)
def tq68 (a0:AV) (a1:AV) (a2:AV):Tree :=
 .call 55 [.agg [a0,.v (.pointer none)]] [] fun r1 o1=>NT r1<|.need ((r1.comp 0) = .agg (r1.comp 0).cs/\(r1.comp 0).cs.length = 2/\hasL [.ptr,.ptr] ((r1.comp 0).cs) 0)<|NP (r1.comp 1)<|.call 72 [.agg [((r1.comp 0).cs.getD 0 .any),((r1.comp 0).cs.getD 1 .any)],a1,.agg [.v (.string (mk [])),(r1.comp 1)],a2] [] fun r2 o2=>NP r2<|.call 71 [.v (.int .u8 102),r2] [] fun r3 o3=>NP r3<|.done 0 [r3] []
theorem Fqd9 (a0:AV) (a1:AV) (a2:AV) (ha0:LK.has .ptr a0) (ha1:LK.has .ptr a1) (ha2:LK.has .ptr a2)  (h:wpT Tryz.prog 22 (tq68 a0 a1 a2) fun _ xs obs=>R (xs.headD .any) obs):FSpec Tryz.prog 49 [a0,a1,a2] [] R :=
 uQ (up_cons (up_ptr ha0) (up_cons (up_ptr ha1) (up_cons (up_ptr ha2) up_nil))) (oQ [] Tryz.f49 (by kernel_rfl) (by kernel_rfl) (by kernel_rfl) h)
def tqp (a0:AV):Tree :=
 NZ a0<|NZ a0<|NPh (a0.deref.drop 2)<|NP ((a0.deref.drop 2).headD .any)<|.test (!((a0.deref.drop 2).headD .any).isNil) (NZ a0<|NZ a0<|NPh (a0.deref.drop 2)<|.call 50 [((a0.deref.drop 2).headD .any)] [] fun r1 o1=>NI r1<|NZ a0<|NZ a0<|NPh (a0.deref.drop 3)<|NP ((a0.deref.drop 3).headD .any)<|.test (!((a0.deref.drop 3).headD .any).isNil) (NZ a0<|NZ a0<|NPh (a0.deref.drop 3)<|.call 50 [((a0.deref.drop 3).headD .any)] [] fun r2 o2=>NI r2<|.done 0 [.v (.int .i64 (IntKind.wrap .i64 ((IntKind.wrap .i64 (1+r1.toInt))+r2.toInt)))] []) (.done 0 [.v (.int .i64 (IntKind.wrap .i64 (1+r1.toInt)))] [])) (NZ a0<|NZ a0<|NPh (a0.deref.drop 3)<|NP ((a0.deref.drop 3).headD .any)<|.test (!((a0.deref.drop 3).headD .any).isNil) (NZ a0<|NZ a0<|NPh (a0.deref.drop 3)<|.call 50 [((a0.deref.drop 3).headD .any)] [] fun r3 o3=>NI r3<|.done 0 [.v (.int .i64 (IntKind.wrap .i64 (1+r3.toInt)))] []) (.done 0 [.v (.int .i64 1)] []))
theorem Fq15 (a0:AV) (ha0:LK.has .ptr a0)  (h:wpT Tryz.prog 29 (tqp a0) fun _ xs obs=>R (xs.headD .any) obs):FSpec Tryz.prog 50 [a0] [] R :=
 uQ (up_cons (up_ptr ha0) up_nil) (oQ [] Tryz.f50 (by kernel_rfl) (by kernel_rfl) (by kernel_rfl) h)
def tq7r (a0:ByteArray) (a1:ByteArray) (a2:ByteArray):Tree :=
 .call 47 [.v (.string a0)] [] fun r1 o1=>NT r1<|.need ((r1.comp 0) = .agg (r1.comp 0).cs/\(r1.comp 0).cs.length = 2/\hasL [.str,.sl] ((r1.comp 0).cs) 0)<|NB (r1.comp 1)<|.call 46 [.v (.string a0)] [] fun r2 o2=>NT r2<|NS (r2.comp 0)<|NB (r2.comp 1)<|.test (!((r1.comp 1).toBool)) (.done 0 [.tup [.v (.string (mk [])),.v (.bool false)]] []) (.test (!((r2.comp 1).toBool)) (.done 0 [.tup [.v (.string (mk [])),.v (.bool false)]] []) (.call 48 [.v (.string ((r2.comp 0).toStr)),.v (.string a1),.v (.int .i64 100)] [] fun r3 o3=>NB r3<|.test (!r3.toBool) (.done 0 [.tup [.v (.string (mk [])),.v (.bool false)]] []) (.call 48 [.v (.string a0),.v (.string a2),.v (.int .i64 100)] [] fun r4 o4=>NB r4<|.test (!r4.toBool) (.done 0 [.tup [.v (.string (mk [])),.v (.bool false)]] []) (.call 52 [.v (.string a1)] [] fun r5 o5=>NT r5<|.need ((r5.comp 0) = .agg (r5.comp 0).cs/\(r5.comp 0).cs.length = 2/\hasL [.str,.sl] ((r5.comp 0).cs) 0)<|NB (r5.comp 1)<|.call 52 [.v (.string a2)] [] fun r6 o6=>NT r6<|.need ((r6.comp 0) = .agg (r6.comp 0).cs/\(r6.comp 0).cs.length = 2/\hasL [.str,.sl] ((r6.comp 0).cs) 0)<|NB (r6.comp 1)<|NG ((r1.comp 0).cs.getD 1 .any) 2 2<|NE (((r1.comp 0).cs.getD 1 .any).elems.getD (2:Int).toNat [])<|NG ((r1.comp 0).cs.getD 1 .any) 1 2<|NSh (((r1.comp 0).cs.getD 1 .any).elems.getD (1:Int).toNat [])<|.call 75 [.agg [.v (.string (((((r1.comp 0).cs.getD 1 .any).elems.getD (2:Int).toNat []).getD 0 .any).toStr)),((((r1.comp 0).cs.getD 1 .any).elems.getD (2:Int).toNat []).getD 1 .any)],.v (.string (((((r1.comp 0).cs.getD 1 .any).elems.getD (1:Int).toNat []).headD .any).toStr)),.agg [.v (.string (((r5.comp 0).cs.getD 0 .any).toStr)),((r5.comp 0).cs.getD 1 .any)],.agg [.v (.string (((r6.comp 0).cs.getD 0 .any).toStr)),((r6.comp 0).cs.getD 1 .any)]] [] fun r7 o7=>NA r7<|.call 74 [.v (.string (mk [102])),.sl [[.v (.string ((r7.cs.getD 0 .any).toStr)),(r7.cs.getD 1 .any)]]] [] fun r8 o8=>NA r8<|.call 73 [.agg [.v (.string ((r8.cs.getD 0 .any).toStr)),(r8.cs.getD 1 .any)]] [] fun r9 o9=>NS r9<|.call 48 [.v (.string a0),.v (.string r9.toStr),.v (.int .i64 100)] [] fun r10 o10=>NB r10<|.test (!r10.toBool) (.done 0 [.tup [.v (.string (mk [])),.v (.bool false)]] []) (.done 0 [.tup [.v (.string r9.toStr),.v (.bool true)]] [])))))
theorem Fqen (a0:ByteArray) (a1:ByteArray) (a2:ByteArray)   (h:wpT Tryz.prog 75 (tq7r a0 a1 a2) fun _ xs obs=>R (xs.headD .any) obs):FSpec Tryz.prog 51 [.v (.string a0),.v (.string a1),.v (.string a2)] [] R :=
 uQ (up_cons (up_refl _) (up_cons (up_refl _) (up_cons (up_refl _) up_nil))) (oQ [] Tryz.f51 (by kernel_rfl) (by kernel_rfl) (by kernel_rfl) h)
def tq6b (a0:ByteArray):Tree :=
 .call 76 [.v (.string a0)] [] fun r1 o1=>NT r1<|.need ((r1.comp 0) = .agg (r1.comp 0).cs/\(r1.comp 0).cs.length = 2/\hasL [.str,.sl] ((r1.comp 0).cs) 0)<|NB (r1.comp 1)<|.test ((r1.comp 1).toBool) (.call 77 [.agg [.v (.string (((r1.comp 0).cs.getD 0 .any).toStr)),((r1.comp 0).cs.getD 1 .any)]] [] fun r2 o2=>NB r2<|.test r2.toBool (.call 78 [.agg [.v (.string (((r1.comp 0).cs.getD 0 .any).toStr)),((r1.comp 0).cs.getD 1 .any)]] [] fun r3 o3=>NI r3<|.done 0 [.tup [.agg [.v (.string (((r1.comp 0).cs.getD 0 .any).toStr)),((r1.comp 0).cs.getD 1 .any)],.v (.bool (decide (r3.toInt<=(200:Int))))]] []) (.done 0 [.tup [.agg [.v (.string (((r1.comp 0).cs.getD 0 .any).toStr)),((r1.comp 0).cs.getD 1 .any)],.v (.bool false)]] [])) (.done 0 [.tup [.agg [.v (.string (((r1.comp 0).cs.getD 0 .any).toStr)),((r1.comp 0).cs.getD 1 .any)],.v (.bool false)]] [])
theorem Fqgs (a0:ByteArray)   (h:wpT Tryz.prog 22 (tq6b a0) fun _ xs obs=>R (xs.headD .any) obs):FSpec Tryz.prog 52 [.v (.string a0)] [] R :=
 uQ (up_cons (up_refl _) up_nil) (oQ [] Tryz.f52 (by kernel_rfl) (by kernel_rfl) (by kernel_rfl) h)
def tqai (a0_0:AV) (a0_1:AV):Tree :=
 NZ a0_0<|NZ a0_0<|NPh (a0_0.deref.drop 3)<|.done 0 [.tup [.agg [((a0_0.deref.drop 3).headD .any),.ptr [.ptr [a0_0,a0_1],a0_1]],.ptr [a0_0,a0_1]]] []
theorem Fqf8 (a0_0:AV) (a0_1:AV) (ha0_0:LK.has .ptr a0_0) (ha0_1:LK.has .ptr a0_1)  (h:wpT Tryz.prog 20 (tqai a0_0 a0_1) fun _ xs obs=>R (xs.headD .any) obs):FSpec Tryz.prog 55 [.agg [a0_0,a0_1]] [] R :=
 uQ (up_cons (up_agg (up_cons (up_ptr ha0_0) (up_cons (up_ptr ha0_1) up_nil))) up_nil) (oQ [] Tryz.f55 (by kernel_rfl) (by kernel_rfl) (by kernel_rfl) h)
def tq8t (a0:ByteArray):Tree :=
 .call 61 [.v (.string a0)] [] fun r1 o1=>NP r1<|NP r1<|.test r1.isNil (.done 0 [.v (.pointer none)] []) (NZ r1<|NZ r1<|.need (LK.has (.int .u8) (r1.deref.headD .any)/\1<=r1.deref.length)<|.test (((r1.deref.headD .any).toInt) != (114:Int)) (.done 0 [.v (.pointer none)] []) (.done 0 [r1] []))
theorem Fqdu (a0:ByteArray)   (h:wpT Tryz.prog 16 (tq8t a0) fun _ xs obs=>R (xs.headD .any) obs):FSpec Tryz.prog 57 [.v (.string a0)] [] R :=
 uQ (up_cons (up_refl _) up_nil) (oQ [] Tryz.f57 (by kernel_rfl) (by kernel_rfl) (by kernel_rfl) h)
def tq7d (a0:ByteArray):Tree :=
 .call 90 [.v (.string a0)] [] fun r1 o1=>NP r1<|NP r1<|.test r1.isNil (.done 0 [.v (.pointer none)] []) (.call 91 [r1,.v (.slice none 0 0)] [] fun r2 o2=>NP r2<|NP r2<|.test r2.isNil (.done 0 [.v (.pointer none)] []) (.call 92 [r2] [] fun r3 o3=>NI r3<|.test (decide (r3.toInt > (400:Int))) (.done 0 [.v (.pointer none)] []) (.done 0 [r2] [])))
theorem Fqg5 (a0:ByteArray)   (h:wpT Tryz.prog 19 (tq7d a0) fun _ xs obs=>R (xs.headD .any) obs):FSpec Tryz.prog 58 [.v (.string a0)] [] R :=
 uQ (up_cons (up_refl _) up_nil) (oQ [] Tryz.f58 (by kernel_rfl) (by kernel_rfl) (by kernel_rfl) h)
def tq9h (a0:AV):Tree :=
 .call 93 [.ref 0 0] [.cells [.v (.int .i64 0),.v (.bool false)]] fun r1 o1=>.need ((o1.headD .dead) = .cells (o1.headD .dead).cs)<|.need (hasC [.lk (.int .i64),.lk .bool] ((o1.headD .dead).cs) 0 1 o1.tail)<|NS r1<|NZ a0<|NZ a0<|NPh (a0.deref.drop 3)<|.call 96 [((a0.deref.drop 3).headD .any),.ptr [.v (.int .u8 110),.v (.string r1.toStr),.v (.int .i64 0),.v (.pointer none),.v (.pointer none)],.v (.int .i64 0)] [] fun r2 o2=>NP r2<|.call 95 [.ref 0 0,r2,.v (.string r1.toStr)] [.cells [.v (.int .i64 (((o1.headD .dead).cs.getD 0 .any).toInt)),.v (.bool (((o1.headD .dead).cs.getD 1 .any).toBool))]] fun r3 o3=>.need ((o3.headD .dead) = .cells (o3.headD .dead).cs)<|.need (hasC [.lk (.int .i64),.lk .bool] ((o3.headD .dead).cs) 0 1 o3.tail)<|NP r3<|.call 94 [.ref 0 0,r3] [.cells [.v (.int .i64 (((o3.headD .dead).cs.getD 0 .any).toInt)),.v (.bool (((o3.headD .dead).cs.getD 1 .any).toBool))]] fun r4 o4=>.need ((o4.headD .dead) = .cells (o4.headD .dead).cs)<|.need (hasC [.lk (.int .i64),.lk .bool] ((o4.headD .dead).cs) 0 1 o4.tail)<|NP r4<|.test (((o4.headD .dead).cs.getD 1 .any).toBool) (.done 0 [.tup [.v (.pointer none),.v (.bool false)]] []) (.call 97 [r4,.v (.string r1.toStr),a0] [] fun r5 o5=>NP r5<|.call 94 [.ref 0 0,r5] [.cells [.v (.int .i64 (((o4.headD .dead).cs.getD 0 .any).toInt)),.v (.bool (((o4.headD .dead).cs.getD 1 .any).toBool))]] fun r6 o6=>.need ((o6.headD .dead) = .cells (o6.headD .dead).cs)<|.need (hasC [.lk (.int .i64),.lk .bool] ((o6.headD .dead).cs) 0 1 o6.tail)<|NP r6<|.done 0 [.tup [r6,.v (.bool (!(((o6.headD .dead).cs.getD 1 .any).toBool)))]] [])
theorem Fqgd (a0:AV) (ha0:LK.has .ptr a0)  (h:wpT Tryz.prog 40 (tq9h a0) fun _ xs obs=>R (xs.headD .any) obs):FSpec Tryz.prog 59 [a0] [] R :=
 uQ (up_cons (up_ptr ha0) up_nil) (oQ [] Tryz.f59 (by kernel_rfl) (by kernel_rfl) (by kernel_rfl) h)
def tq7m (a0:AV):Tree :=
 .call 92 [a0] [] fun r1 o1=>NI r1<|.test (decide (r1.toInt > (400:Int))) (.done 0 [.tup [.v (.string (mk [])),.v (.bool false)]] []) (.call 98 [a0] [] fun r2 o2=>NS r2<|.call 58 [.v (.string r2.toStr)] [] fun r3 o3=>NP r3<|NP r3<|.test r3.isNil (.done 0 [.tup [.v (.string (mk [])),.v (.bool false)]] []) (.done 0 [.tup [.v (.string r2.toStr),.v (.bool true)]] []))
theorem Fqf1 (a0:AV) (ha0:LK.has .ptr a0)  (h:wpT Tryz.prog 14 (tq7m a0) fun _ xs obs=>R (xs.headD .any) obs):FSpec Tryz.prog 60 [a0] [] R :=
 uQ (up_cons (up_ptr ha0) up_nil) (oQ [] Tryz.f60 (by kernel_rfl) (by kernel_rfl) (by kernel_rfl) h)
def tq6u (a0:ByteArray):Tree :=
 .call 58 [.v (.string a0)] [] fun r1 o1=>NP r1<|NP r1<|.test r1.isNil (.done 0 [.v (.pointer none)] []) (.call 99 [r1] [] fun r2 o2=>NB r2<|.test (!r2.toBool) (.done 0 [.v (.pointer none)] []) (.done 0 [r1] []))
theorem Fqct (a0:ByteArray)   (h:wpT Tryz.prog 14 (tq6u a0) fun _ xs obs=>R (xs.headD .any) obs):FSpec Tryz.prog 61 [.v (.string a0)] [] R :=
 uQ (up_cons (up_refl _) up_nil) (oQ [] Tryz.f61 (by kernel_rfl) (by kernel_rfl) (by kernel_rfl) h)
def tq7z (a0:ByteArray):Tree :=
 .call 90 [.v (.string a0)] [] fun r1 o1=>NP r1<|NP r1<|.test r1.isNil (.done 0 [.v (.pointer none)] []) (.call 100 [r1] [] fun r2 o2=>NP r2<|NP r2<|.test r2.isNil (.done 0 [.v (.pointer none)] []) (.call 50 [r2] [] fun r3 o3=>NI r3<|.test (decide (r3.toInt > (200:Int))) (.done 0 [.v (.pointer none)] []) (.done 0 [r2] [])))
theorem Fqet (a0:ByteArray)   (h:wpT Tryz.prog 19 (tq7z a0) fun _ xs obs=>R (xs.headD .any) obs):FSpec Tryz.prog 62 [.v (.string a0)] [] R :=
 uQ (up_cons (up_refl _) up_nil) (oQ [] Tryz.f62 (by kernel_rfl) (by kernel_rfl) (by kernel_rfl) h)
def tq9 (a0_0:AV) (a0_1:AV) (a1:AV) (a2:Int):Tree :=
 NZ a0_0<|NZ a0_0<|.need (LK.has (.int .u8) (a0_0.deref.headD .any)/\1<=a0_0.deref.length)<|.test (((a0_0.deref.headD .any).toInt)==(49:Int)) (NZ a1<|NZ a1<|.need (LK.has (.int .u8) (a1.deref.headD .any)/\1<=a1.deref.length)<|.done 0 [.v (.bool (((a1.deref.headD .any).toInt)==(117:Int)))] []) (.test (((a0_0.deref.headD .any).toInt)==(110:Int)) (NZ a1<|NZ a1<|.need (LK.has (.int .u8) (a1.deref.headD .any)/\1<=a1.deref.length)<|.test (((a1.deref.headD .any).toInt) != (101:Int)) (.done 0 [.v (.bool false)] []) (NZ a1<|NZ a1<|NSh (a1.deref.drop 1)<|.need (0<=(1:Int)/\(1:Int)<=(ByteArray.size (((a1.deref.drop 1).headD .any).toStr):Int)/\(ByteArray.size (((a1.deref.drop 1).headD .any).toStr):Int)<=(ByteArray.size (((a1.deref.drop 1).headD .any).toStr):Int))<|.call 101 [.v (.string (ByteArray.extract (((a1.deref.drop 1).headD .any).toStr) (Int.toNat 1) (Int.toNat (ByteArray.size (((a1.deref.drop 1).headD .any).toStr):Int))))] [] fun r1 o1=>NT r1<|NI (r1.comp 0)<|.need (LK.has .oth (r1.comp 1))<|.done 0 [.v (.bool (decide (((r1.comp 0).toInt) < a2)))] [])) (.test (((a0_0.deref.headD .any).toInt)==(98:Int)) (.call 102 [.agg [a0_0,a0_1]] [] fun r2 o2=>NP r2<|NZ r2<|NZ r2<|.need (hasL [.ptr,.ptr] r2.deref 0/\2<=r2.deref.length)<|.call 63 [.agg [(r2.deref.getD 0 .any),(r2.deref.getD 1 .any)],a1,.v (.int .i64 a2)] [] fun r3 o3=>NB r3<|.done 0 [.v (.bool r3.toBool)] []) (.test (((a0_0.deref.headD .any).toInt)==(43:Int)) (NZ a1<|NZ a1<|.need (LK.has (.int .u8) (a1.deref.headD .any)/\1<=a1.deref.length)<|.test (((a1.deref.headD .any).toInt)==(108:Int)) (.call 82 [.agg [a0_0,a0_1]] [] fun r4 o4=>.need (r4 = .agg r4.cs/\r4.cs.length = 2/\hasL [.ptr,.ptr] r4.cs 0)<|NZ a1<|NZ a1<|NPh (a1.deref.drop 2)<|.call 63 [.agg [(r4.cs.getD 0 .any),(r4.cs.getD 1 .any)],((a1.deref.drop 2).headD .any),.v (.int .i64 a2)] [] fun r5 o5=>NB r5<|.test r5.toBool (.done 0 [.v (.bool true)] []) (NZ a1<|NZ a1<|.need (LK.has (.int .u8) (a1.deref.headD .any)/\1<=a1.deref.length)<|.test (((a1.deref.headD .any).toInt)==(114:Int)) (.call 83 [.agg [a0_0,a0_1]] [] fun r6 o6=>.need (r6 = .agg r6.cs/\r6.cs.length = 2/\hasL [.ptr,.ptr] r6.cs 0)<|NZ a1<|NZ a1<|NPh (a1.deref.drop 2)<|.call 63 [.agg [(r6.cs.getD 0 .any),(r6.cs.getD 1 .any)],((a1.deref.drop 2).headD .any),.v (.int .i64 a2)] [] fun r7 o7=>NB r7<|.done 0 [.v (.bool r7.toBool)] []) (.done 0 [.v (.bool false)] []))) (NZ a1<|NZ a1<|.need (LK.has (.int .u8) (a1.deref.headD .any)/\1<=a1.deref.length)<|.test (((a1.deref.headD .any).toInt)==(114:Int)) (.call 83 [.agg [a0_0,a0_1]] [] fun r8 o8=>.need (r8 = .agg r8.cs/\r8.cs.length = 2/\hasL [.ptr,.ptr] r8.cs 0)<|NZ a1<|NZ a1<|NPh (a1.deref.drop 2)<|.call 63 [.agg [(r8.cs.getD 0 .any),(r8.cs.getD 1 .any)],((a1.deref.drop 2).headD .any),.v (.int .i64 a2)] [] fun r9 o9=>NB r9<|.done 0 [.v (.bool r9.toBool)] []) (.done 0 [.v (.bool false)] []))) (.test (((a0_0.deref.headD .any).toInt)==(42:Int)) (NZ a1<|NZ a1<|.need (LK.has (.int .u8) (a1.deref.headD .any)/\1<=a1.deref.length)<|.test (((a1.deref.headD .any).toInt)==(112:Int)) (.call 82 [.agg [a0_0,a0_1]] [] fun r10 o10=>.need (r10 = .agg r10.cs/\r10.cs.length = 2/\hasL [.ptr,.ptr] r10.cs 0)<|NZ a1<|NZ a1<|NPh (a1.deref.drop 2)<|.call 63 [.agg [(r10.cs.getD 0 .any),(r10.cs.getD 1 .any)],((a1.deref.drop 2).headD .any),.v (.int .i64 a2)] [] fun r11 o11=>NB r11<|.test r11.toBool (.call 83 [.agg [a0_0,a0_1]] [] fun r12 o12=>.need (r12 = .agg r12.cs/\r12.cs.length = 2/\hasL [.ptr,.ptr] r12.cs 0)<|NZ a1<|NZ a1<|NPh (a1.deref.drop 3)<|.call 63 [.agg [(r12.cs.getD 0 .any),(r12.cs.getD 1 .any)],((a1.deref.drop 3).headD .any),.v (.int .i64 a2)] [] fun r13 o13=>NB r13<|.done 0 [.v (.bool r13.toBool)] []) (.done 0 [.v (.bool false)] [])) (.done 0 [.v (.bool false)] [])) (.test (((a0_0.deref.headD .any).toInt)==(114:Int)) (.call 55 [.agg [a0_0,a0_1]] [] fun r14 o14=>NT r14<|.need ((r14.comp 0) = .agg (r14.comp 0).cs/\(r14.comp 0).cs.length = 2/\hasL [.ptr,.ptr] ((r14.comp 0).cs) 0)<|NP (r14.comp 1)<|NZ a1<|NZ a1<|.need (LK.has (.int .u8) (a1.deref.headD .any)/\1<=a1.deref.length)<|.test (((a1.deref.headD .any).toInt)==(102:Int)) (NZ a1<|NZ a1<|NPh (a1.deref.drop 2)<|.call 63 [.agg [((r14.comp 0).cs.getD 0 .any),((r14.comp 0).cs.getD 1 .any)],((a1.deref.drop 2).headD .any),.v (.int .i64 a2)] [] fun r15 o15=>NB r15<|.done 0 [.v (.bool r15.toBool)] []) (.done 0 [.v (.bool false)] [])) (.done 0 [.v (.bool false)] []))))))
theorem Fqam (a0_0:AV) (a0_1:AV) (a1:AV) (a2:Int) (ha0_0:LK.has .ptr a0_0) (ha0_1:LK.has .ptr a0_1) (ha1:LK.has .ptr a1)  (h:wpT Tryz.prog 134 (tq9 a0_0 a0_1 a1 a2) fun _ xs obs=>R (xs.headD .any) obs):FSpec Tryz.prog 63 [.agg [a0_0,a0_1],a1,.v (.int .i64 a2)] [] R :=
 uQ (up_cons (up_agg (up_cons (up_ptr ha0_0) (up_cons (up_ptr ha0_1) up_nil))) (up_cons (up_ptr ha1) (up_cons (up_refl _) up_nil))) (oQ [] Tryz.f63 (by kernel_rfl) (by kernel_rfl) (by kernel_rfl) h)
def tq5u (a0:ByteArray):Tree :=
 .call 76 [.v (.string a0)] [] fun r1 o1=>NT r1<|.need ((r1.comp 0) = .agg (r1.comp 0).cs/\(r1.comp 0).cs.length = 2/\hasL [.str,.sl] ((r1.comp 0).cs) 0)<|NB (r1.comp 1)<|.test ((r1.comp 1).toBool) (.call 103 [.agg [.v (.string (((r1.comp 0).cs.getD 0 .any).toStr)),((r1.comp 0).cs.getD 1 .any)]] [] fun r2 o2=>NB r2<|.test r2.toBool (.call 104 [.agg [.v (.string (((r1.comp 0).cs.getD 0 .any).toStr)),((r1.comp 0).cs.getD 1 .any)]] [] fun r3 o3=>NI r3<|.done 0 [.tup [.agg [.v (.string (((r1.comp 0).cs.getD 0 .any).toStr)),((r1.comp 0).cs.getD 1 .any)],.v (.bool (decide (r3.toInt<=(400:Int))))]] []) (.done 0 [.tup [.agg [.v (.string (((r1.comp 0).cs.getD 0 .any).toStr)),((r1.comp 0).cs.getD 1 .any)],.v (.bool false)]] [])) (.done 0 [.tup [.agg [.v (.string (((r1.comp 0).cs.getD 0 .any).toStr)),((r1.comp 0).cs.getD 1 .any)],.v (.bool false)]] [])
theorem Fqfl (a0:ByteArray)   (h:wpT Tryz.prog 22 (tq5u a0) fun _ xs obs=>R (xs.headD .any) obs):FSpec Tryz.prog 64 [.v (.string a0)] [] R :=
 uQ (up_cons (up_refl _) up_nil) (oQ [] Tryz.f64 (by kernel_rfl) (by kernel_rfl) (by kernel_rfl) h)
def tq2f (a0_0:ByteArray) (a0_1:AV):Tree :=
 .test (!(ByteArray.toList a0_0==ByteArray.toList (mk []))) (.done 0 [.v (.string (mk []))] []) (NL a0_1<|.test ((a0_1.elems.length:Int)==(0:Int)) (.done 0 [.v (.string (mk []))] []) (NG a0_1 0 2<|NSh (a0_1.elems.getD (0:Int).toNat [])<|.done 0 [.v (.string (((a0_1.elems.getD (0:Int).toNat []).headD .any).toStr))] []))
theorem Fq4k (a0_0:ByteArray) (a0_1:AV) (ha0_1:LK.has .sl a0_1)  (h:wpT Tryz.prog 17 (tq2f a0_0 a0_1) fun _ xs obs=>R (xs.headD .any) obs):FSpec Tryz.prog 65 [.agg [.v (.string a0_0),a0_1]] [] R :=
 uQ (up_cons (up_agg (up_cons (up_refl _) (up_cons (up_sl ha0_1) up_nil))) up_nil) (oQ [] Tryz.f65 (by kernel_rfl) (by kernel_rfl) (by kernel_rfl) h)
def tq6z (a0_0:ByteArray) (a0_1:AV):Tree :=
 NG a0_1 1 2<|NSh (a0_1.elems.getD (1:Int).toNat [])<|NG a0_1 2 2<|NE (a0_1.elems.getD (2:Int).toNat [])<|.call 105 [.agg [.v (.string (((a0_1.elems.getD (2:Int).toNat []).getD 0 .any).toStr)),((a0_1.elems.getD (2:Int).toNat []).getD 1 .any)],.v (.string (((a0_1.elems.getD (1:Int).toNat []).headD .any).toStr))] [] fun r1 o1=>NT r1<|.need ((r1.comp 0) = .agg (r1.comp 0).cs/\(r1.comp 0).cs.length = 2/\hasL [.str,.sl] ((r1.comp 0).cs) 0)<|NB (r1.comp 1)<|.test (!((r1.comp 1).toBool)) (.done 0 [.tup [.agg [.v (.string a0_0),a0_1],.v (.bool false)]] []) (.call 106 [.agg [.v (.string (((r1.comp 0).cs.getD 0 .any).toStr)),((r1.comp 0).cs.getD 1 .any)],.v (.string (((a0_1.elems.getD (1:Int).toNat []).headD .any).toStr)),.agg [.v (.string a0_0),a0_1]] [] fun r2 o2=>NT r2<|.need ((r2.comp 0) = .agg (r2.comp 0).cs/\(r2.comp 0).cs.length = 2/\hasL [.str,.sl] ((r2.comp 0).cs) 0)<|NB (r2.comp 1)<|.done 0 [.tup [.agg [.v (.string (((r2.comp 0).cs.getD 0 .any).toStr)),((r2.comp 0).cs.getD 1 .any)],.v (.bool ((r2.comp 1).toBool))]] [])
theorem Fqd1 (a0_0:ByteArray) (a0_1:AV) (ha0_1:LK.has .sl a0_1)  (h:wpT Tryz.prog 30 (tq6z a0_0 a0_1) fun _ xs obs=>R (xs.headD .any) obs):FSpec Tryz.prog 66 [.agg [.v (.string a0_0),a0_1]] [] R :=
 uQ (up_cons (up_agg (up_cons (up_refl _) (up_cons (up_sl ha0_1) up_nil))) up_nil) (oQ [] Tryz.f66 (by kernel_rfl) (by kernel_rfl) (by kernel_rfl) h)
def tqcg (a0_0:ByteArray) (a0_1:AV):Tree :=
 .call 104 [.agg [.v (.string a0_0),a0_1]] [] fun r1 o1=>NI r1<|.test (decide (r1.toInt > (400:Int))) (.done 0 [.tup [.v (.string (mk [])),.v (.bool false)]] []) (.call 107 [.agg [.v (.string a0_0),a0_1],.v (.slice none 0 0)] [] fun r2 o2=>NA r2<|.call 73 [.agg [.v (.string ((r2.cs.getD 0 .any).toStr)),(r2.cs.getD 1 .any)]] [] fun r3 o3=>NS r3<|.call 108 [.v (.string r3.toStr)] [] fun r4 o4=>NB r4<|.test (!r4.toBool) (.done 0 [.tup [.v (.string (mk [])),.v (.bool false)]] []) (.done 0 [.tup [.v (.string r3.toStr),.v (.bool true)]] []))
theorem Fqex (a0_0:ByteArray) (a0_1:AV) (ha0_1:LK.has .sl a0_1)  (h:wpT Tryz.prog 15 (tqcg a0_0 a0_1) fun _ xs obs=>R (xs.headD .any) obs):FSpec Tryz.prog 67 [.agg [.v (.string a0_0),a0_1]] [] R :=
 uQ (up_cons (up_agg (up_cons (up_refl _) (up_cons (up_sl ha0_1) up_nil))) up_nil) (oQ [] Tryz.f67 (by kernel_rfl) (by kernel_rfl) (by kernel_rfl) h)
def Lq5o:LI:={ hd:={ slots:=[(7,.k (.int .i64))],refs:=[(2,2),(4,4)],objs:=[(2,[.lk .str,.lk .sl]),(4,[.lk .str,.lk .sl])],vecs:=[(6,1)] },xs:={ refs:=[(2,2),(4,4)],objs:=[(2,[.lk .str,.lk .sl]),(4,[.lk .str,.lk .sl])] },rt:={ slots:=[(3,.k .bool)],refs:=[(2,2)],objs:=[(2,[.lk .str,.lk .sl])] },ex:=0 }
def Cq78:Code:=loopAt (bodyOf Tryz.f68) 6
def lq9b:List (Nat×LI):=[(6,Lq5o)]
def tqad (a0:ByteArray):Tree :=
 .call 64 [.v (.string a0)] [] fun r1 o1=>NT r1<|.need ((r1.comp 0) = .agg (r1.comp 0).cs/\(r1.comp 0).cs.length = 2/\hasL [.str,.sl] ((r1.comp 0).cs) 0)<|NB (r1.comp 1)<|.test (!((r1.comp 1).toBool)) (.done 0 [.tup [.agg [.v (.string (((r1.comp 0).cs.getD 0 .any).toStr)),((r1.comp 0).cs.getD 1 .any)],.v (.bool false)]] []) (.call 109 [.agg [.v (.string (((r1.comp 0).cs.getD 0 .any).toStr)),((r1.comp 0).cs.getD 1 .any)],.sl [],.vec 0] [.vec 1 []] fun r2 o2=>.need (r2 = .vec 1/\(o2.tail.headD .dead) = .vec 1 (o2.tail.headD .dead).es)<|.loop Cq78 Lq5o [.v (.int .i64 0)] [.cells [.v (.string (mk [])),.v (.slice none 0 0)],.cells [.v (.string (((r1.comp 0).cs.getD 0 .any).toStr)),((r1.comp 0).cs.getD 1 .any)],.vec 1 ((o2.tail.headD .dead).es)] (fun y4 q4=>.need ((q4.headD .dead) = .cells (q4.headD .dead).cs)<|.need (hasK [.lk .str,.lk .sl] ((q4.headD .dead).cs) 0 q4.tail)<|.need (((q4.tail.drop 0).headD .dead) = .cells ((q4.tail.drop 0).headD .dead).cs)<|.need (hasK [.lk .str,.lk .sl] (((q4.tail.drop 0).headD .dead).cs) 0 ((q4.tail.drop 0).tail))<|.done 0 [.tup [.agg [.v (.string (((q4.tail.headD .dead).cs.getD 0 .any).toStr)),((q4.tail.headD .dead).cs.getD 1 .any)],.v (.bool true)]] []) (fun y4 q4=>NB (y4.headD .any)<|.need ((q4.headD .dead) = .cells (q4.headD .dead).cs)<|.need (hasK [.lk .str,.lk .sl] ((q4.headD .dead).cs) 0 q4.tail)<|.done 0 [.tup [.agg [.v (.string (((q4.headD .dead).cs.getD 0 .any).toStr)),((q4.headD .dead).cs.getD 1 .any)],.v (.bool ((y4.headD .any).toBool))]] []))
theorem Fqe3 (a0:ByteArray)   (h:wpT Tryz.prog 33 (tqad a0) fun _ xs obs=>R (xs.headD .any) obs):FSpec Tryz.prog 68 [.v (.string a0)] [] R :=
 uQ (up_cons (up_refl _) up_nil) (oQ lq9b Tryz.f68 (by kernel_rfl) (by kernel_rfl) (by kernel_rfl) h)
def rq3m (x7:Int) (o2_0:ByteArray) (o2_1:AV) (o4_0:ByteArray) (o4_1:AV) (e6:List (List AV)):Tree :=
 NI (.v (.int .i64 x7))<|.need (Ob.cells [.v (.string o2_0),o2_1] = .cells [.v (.string o2_0),o2_1])<|.need (hasK [.lk .str,.lk .sl] [.v (.string o2_0),o2_1] 0 [.cells [.v (.string o4_0),o4_1],.vec 1 e6])<|.need (Ob.cells [.v (.string o4_0),o4_1] = .cells [.v (.string o4_0),o4_1])<|.need (hasK [.lk .str,.lk .sl] [.v (.string o4_0),o4_1] 0 [.vec 1 e6])<|.need (Ob.vec 1 e6 = .vec 1 e6)<|.test (decide (x7 < (e6.length:Int))) (.need (0<=x7/\x7 < e6.length)<|.need (x7.toNat < e6.length/\0 < (e6.getD x7.toNat []).length/\LK.has .str ((e6.getD x7.toNat []).getD 0 .any))<|.call 110 [.v (.string (((e6.getD x7.toNat []).getD 0 .any).toStr))] [] fun r1 o1=>NB r1<|.test r1.toBool (.done 2 [.v (.bool false)] [.cells [.v (.string o4_0),o4_1]]) (.done 0 [.v (.int .i64 (IntKind.wrap .i64 (x7+1)))] [.cells [.v (.string o2_0),o2_1],.cells [.v (.string o4_0),o4_1],.vec 1 e6])) (.done 1 [] [.cells [.v (.string o2_0),o2_1],.cells [.v (.string o4_0),o4_1]])
abbrev Lq40:=LSpec Tryz.prog 33 Cq78 Lq5o
theorem Gq67 (x7:Int) (o2_0:ByteArray) (o2_1:AV) (o4_0:ByteArray) (o4_1:AV) (e6:List (List AV)) {R:RL} (h:wpT Tryz.prog 33 (rq3m x7 o2_0 o2_1 o4_0 o4_1 e6) (Rnd (fun ys o=>Lq40 ys o R) R)):Lq40 [.v (.int .i64 x7)] [.cells [.v (.string o2_0),o2_1],.cells [.v (.string o4_0),o4_1],.vec 1 e6] R :=
 LSpec.ofE (cfg:=cfg) (lis:=lq9b) tab_ok mixed (by kernel_rfl) h
def tqaf (a0:Int) (a1:Int) (a2:Int):Tree :=
 .test (decide (a0 ≥ a1)) (.done 0 [.v (.bool (decide (a0<=a2)))] []) (.done 0 [.v (.bool false)] [])
theorem Fqgu (a0:Int) (a1:Int) (a2:Int)   (h:wpT Tryz.prog 15 (tqaf a0 a1 a2) fun _ xs obs=>R (xs.headD .any) obs):FSpec Tryz.prog 69 [.v (.int .i64 a0),.v (.int .i64 a1),.v (.int .i64 a2)] [] R :=
 uQ (up_cons (up_refl _) (up_cons (up_refl _) (up_cons (up_refl _) up_nil))) (oQ [] Tryz.f69 (by kernel_rfl) (by kernel_rfl) (by kernel_rfl) h)
def tq5r (a0_0:ByteArray) (a0_1:AV) (a1:AV) (a2_0:ByteArray) (a2_1:AV) (a3:Int):Tree :=
 .call 111 [.agg [.v (.string a0_0),a0_1],a1] [] fun r1 o1=>NT r1<|.need ((r1.comp 0) = .agg (r1.comp 0).cs/\(r1.comp 0).cs.length = 2/\hasL [.str,.sl] ((r1.comp 0).cs) 0)<|NL (r1.comp 1)<|.test (!(ByteArray.toList (((r1.comp 0).cs.getD 0 .any).toStr)==ByteArray.toList (mk []))) (.test (ByteArray.toList (((r1.comp 0).cs.getD 0 .any).toStr)==ByteArray.toList (mk [49])) (.done 0 [.v (.bool (ByteArray.toList a2_0==ByteArray.toList (mk [117])))] []) (.call 112 [.v (.string (((r1.comp 0).cs.getD 0 .any).toStr))] [] fun r2 o2=>NB r2<|.test r2.toBool (.call 113 [.v (.string a2_0)] [] fun r3 o3=>NI r3<|.call 69 [.v (.int .i64 r3.toInt),.v (.int .i64 0),.v (.int .i64 (IntKind.wrap .i64 (a3 - 1)))] [] fun r4 o4=>NB r4<|.done 0 [.v (.bool r4.toBool)] []) (.done 0 [.v (.bool false)] []))) (.call 65 [.agg [.v (.string (((r1.comp 0).cs.getD 0 .any).toStr)),((r1.comp 0).cs.getD 1 .any)]] [] fun r5 o5=>NS r5<|.call 65 [.agg [.v (.string a2_0),a2_1]] [] fun r6 o6=>NS r6<|.need (ByteArray.size r5.toStr+ByteArray.size r6.toStr<=9223372036854775807)<|.test (ByteArray.toList ((r5.toStr:ByteArray)++r6.toStr)==ByteArray.toList (mk [43,108])) (NG ((r1.comp 0).cs.getD 1 .any) 1 2<|NE (((r1.comp 0).cs.getD 1 .any).elems.getD (1:Int).toNat [])<|NG a2_1 1 2<|NE (a2_1.elems.getD (1:Int).toNat [])<|.call 70 [.agg [.v (.string (((((r1.comp 0).cs.getD 1 .any).elems.getD (1:Int).toNat []).getD 0 .any).toStr)),((((r1.comp 0).cs.getD 1 .any).elems.getD (1:Int).toNat []).getD 1 .any)],(r1.comp 1),.agg [.v (.string (((a2_1.elems.getD (1:Int).toNat []).getD 0 .any).toStr)),((a2_1.elems.getD (1:Int).toNat []).getD 1 .any)],.v (.int .i64 a3)] [] fun r7 o7=>NB r7<|.done 0 [.v (.bool r7.toBool)] []) (.test (ByteArray.toList ((r5.toStr:ByteArray)++r6.toStr)==ByteArray.toList (mk [43,114])) (NG ((r1.comp 0).cs.getD 1 .any) 2 2<|NE (((r1.comp 0).cs.getD 1 .any).elems.getD (2:Int).toNat [])<|NG a2_1 1 2<|NE (a2_1.elems.getD (1:Int).toNat [])<|.call 70 [.agg [.v (.string (((((r1.comp 0).cs.getD 1 .any).elems.getD (2:Int).toNat []).getD 0 .any).toStr)),((((r1.comp 0).cs.getD 1 .any).elems.getD (2:Int).toNat []).getD 1 .any)],(r1.comp 1),.agg [.v (.string (((a2_1.elems.getD (1:Int).toNat []).getD 0 .any).toStr)),((a2_1.elems.getD (1:Int).toNat []).getD 1 .any)],.v (.int .i64 a3)] [] fun r8 o8=>NB r8<|.done 0 [.v (.bool r8.toBool)] []) (.test (ByteArray.toList ((r5.toStr:ByteArray)++r6.toStr)==ByteArray.toList (mk [42,112])) (NG ((r1.comp 0).cs.getD 1 .any) 1 2<|NE (((r1.comp 0).cs.getD 1 .any).elems.getD (1:Int).toNat [])<|NG a2_1 1 2<|NE (a2_1.elems.getD (1:Int).toNat [])<|.call 70 [.agg [.v (.string (((((r1.comp 0).cs.getD 1 .any).elems.getD (1:Int).toNat []).getD 0 .any).toStr)),((((r1.comp 0).cs.getD 1 .any).elems.getD (1:Int).toNat []).getD 1 .any)],(r1.comp 1),.agg [.v (.string (((a2_1.elems.getD (1:Int).toNat []).getD 0 .any).toStr)),((a2_1.elems.getD (1:Int).toNat []).getD 1 .any)],.v (.int .i64 a3)] [] fun r9 o9=>NB r9<|.test r9.toBool (NG ((r1.comp 0).cs.getD 1 .any) 2 2<|NE (((r1.comp 0).cs.getD 1 .any).elems.getD (2:Int).toNat [])<|NG a2_1 2 2<|NE (a2_1.elems.getD (2:Int).toNat [])<|.call 70 [.agg [.v (.string (((((r1.comp 0).cs.getD 1 .any).elems.getD (2:Int).toNat []).getD 0 .any).toStr)),((((r1.comp 0).cs.getD 1 .any).elems.getD (2:Int).toNat []).getD 1 .any)],(r1.comp 1),.agg [.v (.string (((a2_1.elems.getD (2:Int).toNat []).getD 0 .any).toStr)),((a2_1.elems.getD (2:Int).toNat []).getD 1 .any)],.v (.int .i64 a3)] [] fun r10 o10=>NB r10<|.done 0 [.v (.bool r10.toBool)] []) (.done 0 [.v (.bool false)] [])) (.test (ByteArray.toList ((r5.toStr:ByteArray)++r6.toStr)==ByteArray.toList (mk [114,101,99,102])) (.call 114 [.agg [.v (.string (((r1.comp 0).cs.getD 0 .any).toStr)),((r1.comp 0).cs.getD 1 .any)],(r1.comp 1)] [] fun r11 o11=>NT r11<|.need ((r11.comp 0) = .agg (r11.comp 0).cs/\(r11.comp 0).cs.length = 2/\hasL [.str,.sl] ((r11.comp 0).cs) 0)<|NL (r11.comp 1)<|NG a2_1 1 2<|NE (a2_1.elems.getD (1:Int).toNat [])<|.call 70 [.agg [.v (.string (((r11.comp 0).cs.getD 0 .any).toStr)),((r11.comp 0).cs.getD 1 .any)],(r11.comp 1),.agg [.v (.string (((a2_1.elems.getD (1:Int).toNat []).getD 0 .any).toStr)),((a2_1.elems.getD (1:Int).toNat []).getD 1 .any)],.v (.int .i64 a3)] [] fun r12 o12=>NB r12<|.done 0 [.v (.bool r12.toBool)] []) (.done 0 [.v (.bool false)] [])))))
theorem Fqdo (a0_0:ByteArray) (a0_1:AV) (a1:AV) (a2_0:ByteArray) (a2_1:AV) (a3:Int) (ha0_1:LK.has .sl a0_1) (ha1:LK.has .sl a1) (ha2_1:LK.has .sl a2_1)  (h:wpT Tryz.prog 110 (tq5r a0_0 a0_1 a1 a2_0 a2_1 a3) fun _ xs obs=>R (xs.headD .any) obs):FSpec Tryz.prog 70 [.agg [.v (.string a0_0),a0_1],a1,.agg [.v (.string a2_0),a2_1],.v (.int .i64 a3)] [] R :=
 uQ (up_cons (up_agg (up_cons (up_refl _) (up_cons (up_sl ha0_1) up_nil))) (up_cons (up_sl ha1) (up_cons (up_agg (up_cons (up_refl _) (up_cons (up_sl ha2_1) up_nil))) (up_cons (up_refl _) up_nil)))) (oQ [] Tryz.f70 (by kernel_rfl) (by kernel_rfl) (by kernel_rfl) h)
def tq6w (a0:Int) (a1:AV):Tree :=
 .done 0 [.ptr [.v (.int .u8 a0),.v (.string (mk [])),a1,.v (.pointer none)]] []
theorem Fqgt (a0:Int) (a1:AV) (ha1:LK.has .ptr a1)  (h:wpT Tryz.prog 9 (tq6w a0 a1) fun _ xs obs=>R (xs.headD .any) obs):FSpec Tryz.prog 71 [.v (.int .u8 a0),a1] [] R :=
 uQ (up_cons (up_refl _) (up_cons (up_ptr ha1) up_nil)) (oQ [] Tryz.f71 (by kernel_rfl) (by kernel_rfl) (by kernel_rfl) h)
def tqb (a0_0:AV) (a0_1:AV) (a1:AV) (a2_0:ByteArray) (a2_1:AV) (a3:AV):Tree :=
 NZ a0_0<|NZ a0_0<|.need (LK.has (.int .u8) (a0_0.deref.headD .any)/\1<=a0_0.deref.length)<|.test (((a0_0.deref.headD .any).toInt)==(43:Int)) (.call 82 [.agg [a0_0,a0_1]] [] fun r1 o1=>.need (r1 = .agg r1.cs/\r1.cs.length = 2/\hasL [.ptr,.ptr] r1.cs 0)<|NZ a1<|NZ a1<|.need (LK.has (.int .u8) (a1.deref.headD .any)/\1<=a1.deref.length)<|.test (((a1.deref.headD .any).toInt)==(114:Int)) (.call 83 [.agg [a0_0,a0_1]] [] fun r2 o2=>.need (r2 = .agg r2.cs/\r2.cs.length = 2/\hasL [.ptr,.ptr] r2.cs 0)<|NZ a1<|NZ a1<|.need (LK.has (.int .u8) (a1.deref.headD .any)/\1<=a1.deref.length)<|NZ a1<|NZ a1<|NPh (a1.deref.drop 2)<|.call 72 [.agg [(r2.cs.getD 0 .any),(r2.cs.getD 1 .any)],((a1.deref.drop 2).headD .any),.agg [.v (.string a2_0),a2_1],a3] [] fun r3 o3=>NP r3<|.call 71 [.v (.int .u8 ((a1.deref.headD .any).toInt)),r3] [] fun r4 o4=>NP r4<|.done 0 [r4] []) (NZ a1<|NZ a1<|.need (LK.has (.int .u8) (a1.deref.headD .any)/\1<=a1.deref.length)<|NZ a1<|NZ a1<|NPh (a1.deref.drop 2)<|.call 72 [.agg [(r1.cs.getD 0 .any),(r1.cs.getD 1 .any)],((a1.deref.drop 2).headD .any),.agg [.v (.string a2_0),a2_1],a3] [] fun r5 o5=>NP r5<|.call 71 [.v (.int .u8 ((a1.deref.headD .any).toInt)),r5] [] fun r6 o6=>NP r6<|.done 0 [r6] [])) (.test (((a0_0.deref.headD .any).toInt)==(42:Int)) (NZ a1<|NZ a1<|.need (LK.has (.int .u8) (a1.deref.headD .any)/\1<=a1.deref.length)<|.test (((a1.deref.headD .any).toInt)==(108:Int)) (.call 82 [.agg [a0_0,a0_1]] [] fun r7 o7=>.need (r7 = .agg r7.cs/\r7.cs.length = 2/\hasL [.ptr,.ptr] r7.cs 0)<|NZ a1<|NZ a1<|NPh (a1.deref.drop 2)<|NZ ((a1.deref.drop 2).headD .any)<|NZ ((a1.deref.drop 2).headD .any)<|NPh (((a1.deref.drop 2).headD .any).deref.drop 2)<|.call 72 [.agg [(r7.cs.getD 0 .any),(r7.cs.getD 1 .any)],((((a1.deref.drop 2).headD .any).deref.drop 2).headD .any),.agg [.v (.string a2_0),a2_1],a3] [] fun r8 o8=>NP r8<|NZ a1<|NZ a1<|NPh (a1.deref.drop 2)<|NZ ((a1.deref.drop 2).headD .any)<|NZ ((a1.deref.drop 2).headD .any)<|NPh (((a1.deref.drop 2).headD .any).deref.drop 3)<|.call 86 [r8,((((a1.deref.drop 2).headD .any).deref.drop 3).headD .any)] [] fun r9 o9=>NP r9<|.done 0 [r9] []) (NZ a1<|NZ a1<|NPh (a1.deref.drop 2)<|NZ ((a1.deref.drop 2).headD .any)<|NZ ((a1.deref.drop 2).headD .any)<|NPh (((a1.deref.drop 2).headD .any).deref.drop 2)<|.call 83 [.agg [a0_0,a0_1]] [] fun r10 o10=>.need (r10 = .agg r10.cs/\r10.cs.length = 2/\hasL [.ptr,.ptr] r10.cs 0)<|NZ a1<|NZ a1<|NPh (a1.deref.drop 2)<|NZ ((a1.deref.drop 2).headD .any)<|NZ ((a1.deref.drop 2).headD .any)<|NPh (((a1.deref.drop 2).headD .any).deref.drop 3)<|.call 72 [.agg [(r10.cs.getD 0 .any),(r10.cs.getD 1 .any)],((((a1.deref.drop 2).headD .any).deref.drop 3).headD .any),.agg [.v (.string a2_0),a2_1],a3] [] fun r11 o11=>NP r11<|.call 86 [((((a1.deref.drop 2).headD .any).deref.drop 2).headD .any),r11] [] fun r12 o12=>NP r12<|.done 0 [r12] [])) (.test (((a0_0.deref.headD .any).toInt)==(114:Int)) (.call 55 [.agg [a0_0,a0_1]] [] fun r13 o13=>NT r13<|.need ((r13.comp 0) = .agg (r13.comp 0).cs/\(r13.comp 0).cs.length = 2/\hasL [.ptr,.ptr] ((r13.comp 0).cs) 0)<|NP (r13.comp 1)<|NZ a1<|NZ a1<|NPh (a1.deref.drop 2)<|NZ ((a1.deref.drop 2).headD .any)<|NZ ((a1.deref.drop 2).headD .any)<|.need (LK.has (.int .u8) (((a1.deref.drop 2).headD .any).deref.headD .any)/\1<=(((a1.deref.drop 2).headD .any).deref).length)<|.test (((((a1.deref.drop 2).headD .any).deref.headD .any).toInt)==(108:Int)) (NZ a1<|NZ a1<|NPh (a1.deref.drop 2)<|NZ ((a1.deref.drop 2).headD .any)<|NZ ((a1.deref.drop 2).headD .any)<|NPh (((a1.deref.drop 2).headD .any).deref.drop 2)<|.call 72 [.agg [((r13.comp 0).cs.getD 0 .any),((r13.comp 0).cs.getD 1 .any)],((((a1.deref.drop 2).headD .any).deref.drop 2).headD .any),.agg [.v (.string a2_0),a2_1],a3] [] fun r14 o14=>NP r14<|.call 71 [.v (.int .u8 102),r14] [] fun r15 o15=>NP r15<|.done 0 [r15] []) (NZ a1<|NZ a1<|NPh (a1.deref.drop 2)<|NZ ((a1.deref.drop 2).headD .any)<|NZ ((a1.deref.drop 2).headD .any)<|NPh (((a1.deref.drop 2).headD .any).deref.drop 2)<|NZ ((((a1.deref.drop 2).headD .any).deref.drop 2).headD .any)<|NZ ((((a1.deref.drop 2).headD .any).deref.drop 2).headD .any)<|NPh (((((a1.deref.drop 2).headD .any).deref.drop 2).headD .any).deref.drop 3)<|.call 72 [.agg [a0_0,a0_1],((((((a1.deref.drop 2).headD .any).deref.drop 2).headD .any).deref.drop 3).headD .any),.agg [.v (.string a2_0),a2_1],a3] [] fun r16 o16=>NP r16<|NZ a1<|NZ a1<|NPh (a1.deref.drop 2)<|NZ ((a1.deref.drop 2).headD .any)<|NZ ((a1.deref.drop 2).headD .any)<|NPh (((a1.deref.drop 2).headD .any).deref.drop 2)<|NZ ((((a1.deref.drop 2).headD .any).deref.drop 2).headD .any)<|NZ ((((a1.deref.drop 2).headD .any).deref.drop 2).headD .any)<|NPh (((((a1.deref.drop 2).headD .any).deref.drop 2).headD .any).deref.drop 2)<|.call 72 [.agg [((r13.comp 0).cs.getD 0 .any),((r13.comp 0).cs.getD 1 .any)],((((((a1.deref.drop 2).headD .any).deref.drop 2).headD .any).deref.drop 2).headD .any),.agg [.v (.string (mk [])),(r13.comp 1)],r16] [] fun r17 o17=>NP r17<|.call 71 [.v (.int .u8 102),r17] [] fun r18 o18=>NP r18<|.done 0 [r18] [])) (.done 0 [a3] [])))
theorem Fqfr (a0_0:AV) (a0_1:AV) (a1:AV) (a2_0:ByteArray) (a2_1:AV) (a3:AV) (ha0_0:LK.has .ptr a0_0) (ha0_1:LK.has .ptr a0_1) (ha1:LK.has .ptr a1) (ha2_1:LK.has .ptr a2_1) (ha3:LK.has .ptr a3)  (h:wpT Tryz.prog 147 (tqb a0_0 a0_1 a1 a2_0 a2_1 a3) fun _ xs obs=>R (xs.headD .any) obs):FSpec Tryz.prog 72 [.agg [a0_0,a0_1],a1,.agg [.v (.string a2_0),a2_1],a3] [] R :=
 uQ (up_cons (up_agg (up_cons (up_ptr ha0_0) (up_cons (up_ptr ha0_1) up_nil))) (up_cons (up_ptr ha1) (up_cons (up_agg (up_cons (up_refl _) (up_cons (up_ptr ha2_1) up_nil))) (up_cons (up_ptr ha3) up_nil)))) (oQ [] Tryz.f72 (by kernel_rfl) (by kernel_rfl) (by kernel_rfl) h)
def Lq4x:LI:={ hd:={ slots:=[(3,.k .str),(4,.k (.int .i64))],refs:=[(1,1)],objs:=[(1,[.lk .str,.lk .sl])] },xs:={ slots:=[(3,.k .str)] },rt:={},ex:=0 }
def Cq6x:Code:=loopAt (bodyOf Tryz.f73) 5
def lqc2:List (Nat×LI):=[(5,Lq4x)]
def tq21 (a0_0:ByteArray) (a0_1:AV):Tree :=
 .test (!(ByteArray.toList a0_0==ByteArray.toList (mk []))) (.done 0 [.v (.string a0_0)] []) (.loop Cq6x Lq4x [.v (.string (mk [40])),.v (.int .i64 0)] [.cells [.v (.string a0_0),a0_1]] (fun y3 q3=>NS (y3.headD .any)<|.need (ByteArray.size ((y3.headD .any).toStr)+ByteArray.size (mk [41])<=9223372036854775807)<|.done 0 [.v (.string ((((y3.headD .any).toStr):ByteArray)++(mk [41])))] []) (fun y3 q3=>.done 0 [.any] []))
theorem Fq52 (a0_0:ByteArray) (a0_1:AV) (ha0_1:LK.has .sl a0_1)  (h:wpT Tryz.prog 31 (tq21 a0_0 a0_1) fun _ xs obs=>R (xs.headD .any) obs):FSpec Tryz.prog 73 [.agg [.v (.string a0_0),a0_1]] [] R :=
 uQ (up_cons (up_agg (up_cons (up_refl _) (up_cons (up_sl ha0_1) up_nil))) up_nil) (oQ lqc2 Tryz.f73 (by kernel_rfl) (by kernel_rfl) (by kernel_rfl) h)
def rq1r (x3:ByteArray) (x4:Int) (o1_0:ByteArray) (o1_1:AV):Tree :=
 NS (.v (.string x3))<|NI (.v (.int .i64 x4))<|.need (Ob.cells [.v (.string o1_0),o1_1] = .cells [.v (.string o1_0),o1_1])<|.need (hasK [.lk .str,.lk .sl] [.v (.string o1_0),o1_1] 0 [])<|NL o1_1<|.test (decide (x4 < (o1_1.elems.length:Int))) (.test (decide (x4 > (0:Int))) (.need (ByteArray.size x3+ByteArray.size (mk [32])<=9223372036854775807)<|NG o1_1 x4 2<|NE (o1_1.elems.getD x4.toNat [])<|.call 73 [.agg [.v (.string (((o1_1.elems.getD x4.toNat []).getD 0 .any).toStr)),((o1_1.elems.getD x4.toNat []).getD 1 .any)]] [] fun r1 o1=>NS r1<|.need (ByteArray.size ((x3:ByteArray)++(mk [32]))+ByteArray.size r1.toStr<=9223372036854775807)<|.done 0 [.v (.string ((((x3:ByteArray)++(mk [32])):ByteArray)++r1.toStr)),.v (.int .i64 (IntKind.wrap .i64 (x4+1)))] [.cells [.v (.string o1_0),o1_1]]) (NG o1_1 x4 2<|NE (o1_1.elems.getD x4.toNat [])<|.call 73 [.agg [.v (.string (((o1_1.elems.getD x4.toNat []).getD 0 .any).toStr)),((o1_1.elems.getD x4.toNat []).getD 1 .any)]] [] fun r2 o2=>NS r2<|.need (ByteArray.size x3+ByteArray.size r2.toStr<=9223372036854775807)<|.done 0 [.v (.string ((x3:ByteArray)++r2.toStr)),.v (.int .i64 (IntKind.wrap .i64 (x4+1)))] [.cells [.v (.string o1_0),o1_1]])) (.done 1 [.v (.string x3)] [])
abbrev Lq1x:=LSpec Tryz.prog 31 Cq6x Lq4x
theorem Gq24 (x3:ByteArray) (x4:Int) (o1_0:ByteArray) (o1_1:AV) {R:RL} (h:wpT Tryz.prog 31 (rq1r x3 x4 o1_0 o1_1) (Rnd (fun ys o=>Lq1x ys o R) R)):Lq1x [.v (.string x3),.v (.int .i64 x4)] [.cells [.v (.string o1_0),o1_1]] R :=
 LSpec.ofE (cfg:=cfg) (lis:=lqc2) tab_ok mixed (by kernel_rfl) h
def tq46 (a0:ByteArray) (a1:AV):Tree :=
 .need (LK.has .sl a1/\allLen 2 a1.elems/\((([[.v (.string a0),.v (.slice none 0 0)]]:List (List AV)).length)+a1.elems.length)*40<=140737488355328)<|.done 0 [.agg [.v (.string (mk [])),.sl (([[.v (.string a0),.v (.slice none 0 0)]]:List (List AV))++a1.elems)]] []
theorem Fqa3 (a0:ByteArray) (a1:AV) (ha1:LK.has .sl a1)  (h:wpT Tryz.prog 11 (tq46 a0 a1) fun _ xs obs=>R (xs.headD .any) obs):FSpec Tryz.prog 74 [.v (.string a0),a1] [] R :=
 uQ (up_cons (up_refl _) (up_cons (up_sl ha1) up_nil)) (oQ [] Tryz.f74 (by kernel_rfl) (by kernel_rfl) (by kernel_rfl) h)
def tqd (a0_0:ByteArray) (a0_1:AV) (a1:ByteArray) (a2_0:ByteArray) (a2_1:AV) (a3_0:ByteArray) (a3_1:AV):Tree :=
 .test (!(ByteArray.toList a0_0==ByteArray.toList (mk []))) (.done 0 [.agg [.v (.string a3_0),a3_1]] []) (NG a2_1 1 2<|NE (a2_1.elems.getD (1:Int).toNat [])<|.call 65 [.agg [.v (.string a0_0),a0_1]] [] fun r1 o1=>NS r1<|.call 65 [.agg [.v (.string a2_0),a2_1]] [] fun r2 o2=>NS r2<|.need (ByteArray.size r1.toStr+ByteArray.size r2.toStr<=9223372036854775807)<|.test (ByteArray.toList ((r1.toStr:ByteArray)++r2.toStr)==ByteArray.toList (mk [43,108])) (NG a0_1 1 2<|NE (a0_1.elems.getD (1:Int).toNat [])<|.call 75 [.agg [.v (.string (((a0_1.elems.getD (1:Int).toNat []).getD 0 .any).toStr)),((a0_1.elems.getD (1:Int).toNat []).getD 1 .any)],.v (.string a1),.agg [.v (.string (((a2_1.elems.getD (1:Int).toNat []).getD 0 .any).toStr)),((a2_1.elems.getD (1:Int).toNat []).getD 1 .any)],.agg [.v (.string a3_0),a3_1]] [] fun r3 o3=>NA r3<|.call 74 [.v (.string (mk [108])),.sl [[.v (.string ((r3.cs.getD 0 .any).toStr)),(r3.cs.getD 1 .any)]]] [] fun r4 o4=>NA r4<|.done 0 [.agg [.v (.string ((r4.cs.getD 0 .any).toStr)),(r4.cs.getD 1 .any)]] []) (.test (ByteArray.toList ((r1.toStr:ByteArray)++r2.toStr)==ByteArray.toList (mk [43,114])) (NG a0_1 2 2<|NE (a0_1.elems.getD (2:Int).toNat [])<|.call 75 [.agg [.v (.string (((a0_1.elems.getD (2:Int).toNat []).getD 0 .any).toStr)),((a0_1.elems.getD (2:Int).toNat []).getD 1 .any)],.v (.string a1),.agg [.v (.string (((a2_1.elems.getD (1:Int).toNat []).getD 0 .any).toStr)),((a2_1.elems.getD (1:Int).toNat []).getD 1 .any)],.agg [.v (.string a3_0),a3_1]] [] fun r5 o5=>NA r5<|.call 74 [.v (.string (mk [114])),.sl [[.v (.string ((r5.cs.getD 0 .any).toStr)),(r5.cs.getD 1 .any)]]] [] fun r6 o6=>NA r6<|.done 0 [.agg [.v (.string ((r6.cs.getD 0 .any).toStr)),(r6.cs.getD 1 .any)]] []) (.test (ByteArray.toList ((r1.toStr:ByteArray)++r2.toStr)==ByteArray.toList (mk [42,108])) (NG a0_1 1 2<|NE (a0_1.elems.getD (1:Int).toNat [])<|NG ((a2_1.elems.getD (1:Int).toNat []).getD 1 .any) 1 2<|NE (((a2_1.elems.getD (1:Int).toNat []).getD 1 .any).elems.getD (1:Int).toNat [])<|.call 75 [.agg [.v (.string (((a0_1.elems.getD (1:Int).toNat []).getD 0 .any).toStr)),((a0_1.elems.getD (1:Int).toNat []).getD 1 .any)],.v (.string a1),.agg [.v (.string (((((a2_1.elems.getD (1:Int).toNat []).getD 1 .any).elems.getD (1:Int).toNat []).getD 0 .any).toStr)),((((a2_1.elems.getD (1:Int).toNat []).getD 1 .any).elems.getD (1:Int).toNat []).getD 1 .any)],.agg [.v (.string a3_0),a3_1]] [] fun r7 o7=>NA r7<|NG ((a2_1.elems.getD (1:Int).toNat []).getD 1 .any) 2 2<|NE (((a2_1.elems.getD (1:Int).toNat []).getD 1 .any).elems.getD (2:Int).toNat [])<|.call 74 [.v (.string (mk [112])),.sl [[.v (.string ((r7.cs.getD 0 .any).toStr)),(r7.cs.getD 1 .any)],[.v (.string (((((a2_1.elems.getD (1:Int).toNat []).getD 1 .any).elems.getD (2:Int).toNat []).getD 0 .any).toStr)),((((a2_1.elems.getD (1:Int).toNat []).getD 1 .any).elems.getD (2:Int).toNat []).getD 1 .any)]]] [] fun r8 o8=>NA r8<|.done 0 [.agg [.v (.string ((r8.cs.getD 0 .any).toStr)),(r8.cs.getD 1 .any)]] []) (.test (ByteArray.toList ((r1.toStr:ByteArray)++r2.toStr)==ByteArray.toList (mk [42,114])) (NG ((a2_1.elems.getD (1:Int).toNat []).getD 1 .any) 1 2<|NE (((a2_1.elems.getD (1:Int).toNat []).getD 1 .any).elems.getD (1:Int).toNat [])<|NG a0_1 2 2<|NE (a0_1.elems.getD (2:Int).toNat [])<|NG ((a2_1.elems.getD (1:Int).toNat []).getD 1 .any) 2 2<|NE (((a2_1.elems.getD (1:Int).toNat []).getD 1 .any).elems.getD (2:Int).toNat [])<|.call 75 [.agg [.v (.string (((a0_1.elems.getD (2:Int).toNat []).getD 0 .any).toStr)),((a0_1.elems.getD (2:Int).toNat []).getD 1 .any)],.v (.string a1),.agg [.v (.string (((((a2_1.elems.getD (1:Int).toNat []).getD 1 .any).elems.getD (2:Int).toNat []).getD 0 .any).toStr)),((((a2_1.elems.getD (1:Int).toNat []).getD 1 .any).elems.getD (2:Int).toNat []).getD 1 .any)],.agg [.v (.string a3_0),a3_1]] [] fun r9 o9=>NA r9<|.call 74 [.v (.string (mk [112])),.sl [[.v (.string (((((a2_1.elems.getD (1:Int).toNat []).getD 1 .any).elems.getD (1:Int).toNat []).getD 0 .any).toStr)),((((a2_1.elems.getD (1:Int).toNat []).getD 1 .any).elems.getD (1:Int).toNat []).getD 1 .any)],[.v (.string ((r9.cs.getD 0 .any).toStr)),(r9.cs.getD 1 .any)]]] [] fun r10 o10=>NA r10<|.done 0 [.agg [.v (.string ((r10.cs.getD 0 .any).toStr)),(r10.cs.getD 1 .any)]] []) (.call 65 [.agg [.v (.string (((a2_1.elems.getD (1:Int).toNat []).getD 0 .any).toStr)),((a2_1.elems.getD (1:Int).toNat []).getD 1 .any)]] [] fun r11 o11=>NS r11<|.test (ByteArray.toList r11.toStr==ByteArray.toList (mk [108])) (NG a0_1 2 2<|NE (a0_1.elems.getD (2:Int).toNat [])<|NG ((a2_1.elems.getD (1:Int).toNat []).getD 1 .any) 1 2<|NE (((a2_1.elems.getD (1:Int).toNat []).getD 1 .any).elems.getD (1:Int).toNat [])<|.call 75 [.agg [.v (.string (((a0_1.elems.getD (2:Int).toNat []).getD 0 .any).toStr)),((a0_1.elems.getD (2:Int).toNat []).getD 1 .any)],.v (.string a1),.agg [.v (.string (((((a2_1.elems.getD (1:Int).toNat []).getD 1 .any).elems.getD (1:Int).toNat []).getD 0 .any).toStr)),((((a2_1.elems.getD (1:Int).toNat []).getD 1 .any).elems.getD (1:Int).toNat []).getD 1 .any)],.agg [.v (.string a3_0),a3_1]] [] fun r12 o12=>NA r12<|.call 74 [.v (.string (mk [102])),.sl [[.v (.string ((r12.cs.getD 0 .any).toStr)),(r12.cs.getD 1 .any)]]] [] fun r13 o13=>NA r13<|.done 0 [.agg [.v (.string ((r13.cs.getD 0 .any).toStr)),(r13.cs.getD 1 .any)]] []) (NG ((a2_1.elems.getD (1:Int).toNat []).getD 1 .any) 1 2<|NE (((a2_1.elems.getD (1:Int).toNat []).getD 1 .any).elems.getD (1:Int).toNat [])<|NG ((((a2_1.elems.getD (1:Int).toNat []).getD 1 .any).elems.getD (1:Int).toNat []).getD 1 .any) 2 2<|NE (((((a2_1.elems.getD (1:Int).toNat []).getD 1 .any).elems.getD (1:Int).toNat []).getD 1 .any).elems.getD (2:Int).toNat [])<|.call 75 [.agg [.v (.string a0_0),a0_1],.v (.string a1),.agg [.v (.string (((((((a2_1.elems.getD (1:Int).toNat []).getD 1 .any).elems.getD (1:Int).toNat []).getD 1 .any).elems.getD (2:Int).toNat []).getD 0 .any).toStr)),((((((a2_1.elems.getD (1:Int).toNat []).getD 1 .any).elems.getD (1:Int).toNat []).getD 1 .any).elems.getD (2:Int).toNat []).getD 1 .any)],.agg [.v (.string a3_0),a3_1]] [] fun r14 o14=>NA r14<|NG a0_1 2 2<|NE (a0_1.elems.getD (2:Int).toNat [])<|NG a0_1 1 2<|NSh (a0_1.elems.getD (1:Int).toNat [])<|NG ((((a2_1.elems.getD (1:Int).toNat []).getD 1 .any).elems.getD (1:Int).toNat []).getD 1 .any) 1 2<|NE (((((a2_1.elems.getD (1:Int).toNat []).getD 1 .any).elems.getD (1:Int).toNat []).getD 1 .any).elems.getD (1:Int).toNat [])<|.call 75 [.agg [.v (.string (((a0_1.elems.getD (2:Int).toNat []).getD 0 .any).toStr)),((a0_1.elems.getD (2:Int).toNat []).getD 1 .any)],.v (.string (((a0_1.elems.getD (1:Int).toNat []).headD .any).toStr)),.agg [.v (.string (((((((a2_1.elems.getD (1:Int).toNat []).getD 1 .any).elems.getD (1:Int).toNat []).getD 1 .any).elems.getD (1:Int).toNat []).getD 0 .any).toStr)),((((((a2_1.elems.getD (1:Int).toNat []).getD 1 .any).elems.getD (1:Int).toNat []).getD 1 .any).elems.getD (1:Int).toNat []).getD 1 .any)],.agg [.v (.string ((r14.cs.getD 0 .any).toStr)),(r14.cs.getD 1 .any)]] [] fun r15 o15=>NA r15<|.call 74 [.v (.string (mk [102])),.sl [[.v (.string ((r15.cs.getD 0 .any).toStr)),(r15.cs.getD 1 .any)]]] [] fun r16 o16=>NA r16<|.done 0 [.agg [.v (.string ((r16.cs.getD 0 .any).toStr)),(r16.cs.getD 1 .any)]] []))))))
theorem Fqf4 (a0_0:ByteArray) (a0_1:AV) (a1:ByteArray) (a2_0:ByteArray) (a2_1:AV) (a3_0:ByteArray) (a3_1:AV) (ha0_1:LK.has .sl a0_1) (ha2_1:LK.has .sl a2_1) (ha3_1:LK.has .sl a3_1)  (h:wpT Tryz.prog 132 (tqd a0_0 a0_1 a1 a2_0 a2_1 a3_0 a3_1) fun _ xs obs=>R (xs.headD .any) obs):FSpec Tryz.prog 75 [.agg [.v (.string a0_0),a0_1],.v (.string a1),.agg [.v (.string a2_0),a2_1],.agg [.v (.string a3_0),a3_1]] [] R :=
 uQ (up_cons (up_agg (up_cons (up_refl _) (up_cons (up_sl ha0_1) up_nil))) (up_cons (up_refl _) (up_cons (up_agg (up_cons (up_refl _) (up_cons (up_sl ha2_1) up_nil))) (up_cons (up_agg (up_cons (up_refl _) (up_cons (up_sl ha3_1) up_nil))) up_nil)))) (oQ [] Tryz.f75 (by kernel_rfl) (by kernel_rfl) (by kernel_rfl) h)
def tqbl (a0:ByteArray):Tree :=
 .test (decide ((ByteArray.size a0:Int) > (8000:Int))) (.done 0 [.tup [.agg [.v (.string (mk [])),.v (.slice none 0 0)],.v (.bool false)]] []) (.call 115 [.v (.string a0),.v (.int .i64 0),.v (.int .i64 0)] [] fun r1 o1=>NT r1<|.need ((r1.comp 0) = .agg (r1.comp 0).cs/\(r1.comp 0).cs.length = 2/\hasL [.str,.sl] ((r1.comp 0).cs) 0)<|NI (r1.comp 1)<|.done 0 [.tup [.agg [.v (.string (((r1.comp 0).cs.getD 0 .any).toStr)),((r1.comp 0).cs.getD 1 .any)],.v (.bool (((r1.comp 1).toInt)==(ByteArray.size a0:Int)))]] [])
theorem Fqee (a0:ByteArray)   (h:wpT Tryz.prog 20 (tqbl a0) fun _ xs obs=>R (xs.headD .any) obs):FSpec Tryz.prog 76 [.v (.string a0)] [] R :=
 uQ (up_cons (up_refl _) up_nil) (oQ [] Tryz.f76 (by kernel_rfl) (by kernel_rfl) (by kernel_rfl) h)
def tqs (a0_0:ByteArray) (a0_1:AV):Tree :=
 .test (!(ByteArray.toList a0_0==ByteArray.toList (mk []))) (.test (ByteArray.toList a0_0==ByteArray.toList (mk [117])) (.done 0 [.v (.bool true)] []) (.call 113 [.v (.string a0_0)] [] fun r1 o1=>NI r1<|.done 0 [.v (.bool (decide (r1.toInt ≥ (0:Int))))] [])) (.call 65 [.agg [.v (.string a0_0),a0_1]] [] fun r2 o2=>NS r2<|.test (ByteArray.toList r2.toStr==ByteArray.toList (mk [108])) (NL a0_1<|.test ((a0_1.elems.length:Int)==(2:Int)) (NG a0_1 1 2<|NE (a0_1.elems.getD (1:Int).toNat [])<|.call 77 [.agg [.v (.string (((a0_1.elems.getD (1:Int).toNat []).getD 0 .any).toStr)),((a0_1.elems.getD (1:Int).toNat []).getD 1 .any)]] [] fun r3 o3=>NB r3<|.done 0 [.v (.bool r3.toBool)] []) (.done 0 [.v (.bool false)] [])) (.test (ByteArray.toList r2.toStr==ByteArray.toList (mk [114])) (NL a0_1<|.test ((a0_1.elems.length:Int)==(2:Int)) (NG a0_1 1 2<|NE (a0_1.elems.getD (1:Int).toNat [])<|.call 77 [.agg [.v (.string (((a0_1.elems.getD (1:Int).toNat []).getD 0 .any).toStr)),((a0_1.elems.getD (1:Int).toNat []).getD 1 .any)]] [] fun r4 o4=>NB r4<|.done 0 [.v (.bool r4.toBool)] []) (.done 0 [.v (.bool false)] [])) (.test (ByteArray.toList r2.toStr==ByteArray.toList (mk [102])) (NL a0_1<|.test ((a0_1.elems.length:Int)==(2:Int)) (NG a0_1 1 2<|NE (a0_1.elems.getD (1:Int).toNat [])<|.call 77 [.agg [.v (.string (((a0_1.elems.getD (1:Int).toNat []).getD 0 .any).toStr)),((a0_1.elems.getD (1:Int).toNat []).getD 1 .any)]] [] fun r5 o5=>NB r5<|.done 0 [.v (.bool r5.toBool)] []) (.done 0 [.v (.bool false)] [])) (.test (ByteArray.toList r2.toStr==ByteArray.toList (mk [112])) (NL a0_1<|.test ((a0_1.elems.length:Int)==(3:Int)) (NG a0_1 1 2<|NE (a0_1.elems.getD (1:Int).toNat [])<|.call 77 [.agg [.v (.string (((a0_1.elems.getD (1:Int).toNat []).getD 0 .any).toStr)),((a0_1.elems.getD (1:Int).toNat []).getD 1 .any)]] [] fun r6 o6=>NB r6<|.test r6.toBool (NG a0_1 2 2<|NE (a0_1.elems.getD (2:Int).toNat [])<|.call 77 [.agg [.v (.string (((a0_1.elems.getD (2:Int).toNat []).getD 0 .any).toStr)),((a0_1.elems.getD (2:Int).toNat []).getD 1 .any)]] [] fun r7 o7=>NB r7<|.done 0 [.v (.bool r7.toBool)] []) (.done 0 [.v (.bool false)] [])) (.done 0 [.v (.bool false)] [])) (.done 0 [.v (.bool false)] [])))))
theorem Fq19 (a0_0:ByteArray) (a0_1:AV) (ha0_1:LK.has .sl a0_1)  (h:wpT Tryz.prog 52 (tqs a0_0 a0_1) fun _ xs obs=>R (xs.headD .any) obs):FSpec Tryz.prog 77 [.agg [.v (.string a0_0),a0_1]] [] R :=
 uQ (up_cons (up_agg (up_cons (up_refl _) (up_cons (up_sl ha0_1) up_nil))) up_nil) (oQ [] Tryz.f77 (by kernel_rfl) (by kernel_rfl) (by kernel_rfl) h)
def Lq2q:LI:={ hd:={ slots:=[(3,.k (.int .i64)),(4,.k (.int .i64))],refs:=[(1,1)],objs:=[(1,[.lk .str,.lk .sl])] },xs:={ slots:=[(3,.k (.int .i64))] },rt:={},ex:=0 }
def Cq7w:Code:=loopAt (bodyOf Tryz.f78) 3
def lqco:List (Nat×LI):=[(3,Lq2q)]
def tq3o (a0_0:ByteArray) (a0_1:AV):Tree :=
 .loop Cq7w Lq2q [.v (.int .i64 1),.v (.int .i64 1)] [.cells [.v (.string a0_0),a0_1]] (fun y2 q2=>NI (y2.headD .any)<|.done 0 [.v (.int .i64 ((y2.headD .any).toInt))] []) (fun y2 q2=>.done 0 [.any] [])
theorem Fqb2 (a0_0:ByteArray) (a0_1:AV) (ha0_1:LK.has .sl a0_1)  (h:wpT Tryz.prog 21 (tq3o a0_0 a0_1) fun _ xs obs=>R (xs.headD .any) obs):FSpec Tryz.prog 78 [.agg [.v (.string a0_0),a0_1]] [] R :=
 uQ (up_cons (up_agg (up_cons (up_refl _) (up_cons (up_sl ha0_1) up_nil))) up_nil) (oQ lqco Tryz.f78 (by kernel_rfl) (by kernel_rfl) (by kernel_rfl) h)
def rq1o (x3:Int) (x4:Int) (o1_0:ByteArray) (o1_1:AV):Tree :=
 NI (.v (.int .i64 x3))<|NI (.v (.int .i64 x4))<|.need (Ob.cells [.v (.string o1_0),o1_1] = .cells [.v (.string o1_0),o1_1])<|.need (hasK [.lk .str,.lk .sl] [.v (.string o1_0),o1_1] 0 [])<|NL o1_1<|.test (decide (x4 < (o1_1.elems.length:Int))) (NG o1_1 x4 2<|NE (o1_1.elems.getD x4.toNat [])<|.call 78 [.agg [.v (.string (((o1_1.elems.getD x4.toNat []).getD 0 .any).toStr)),((o1_1.elems.getD x4.toNat []).getD 1 .any)]] [] fun r1 o1=>NI r1<|.done 0 [.v (.int .i64 (IntKind.wrap .i64 (x3+r1.toInt))),.v (.int .i64 (IntKind.wrap .i64 (x4+1)))] [.cells [.v (.string o1_0),o1_1]]) (.done 1 [.v (.int .i64 x3)] [])
abbrev Lq1p:=LSpec Tryz.prog 21 Cq7w Lq2q
theorem Gq28 (x3:Int) (x4:Int) (o1_0:ByteArray) (o1_1:AV) {R:RL} (h:wpT Tryz.prog 21 (rq1o x3 x4 o1_0 o1_1) (Rnd (fun ys o=>Lq1p ys o R) R)):Lq1p [.v (.int .i64 x3),.v (.int .i64 x4)] [.cells [.v (.string o1_0),o1_1]] R :=
 LSpec.ofE (cfg:=cfg) (lis:=lqco) tab_ok mixed (by kernel_rfl) h
def tq62 (a0_0:AV) (a0_1:AV):Tree :=
 NZ a0_0<|NZ a0_0<|NPh (a0_0.deref.drop 3)<|.done 0 [.agg [((a0_0.deref.drop 3).headD .any),a0_1]] []
theorem Fqem (a0_0:AV) (a0_1:AV) (ha0_0:LK.has .ptr a0_0) (ha0_1:LK.has .ptr a0_1)  (h:wpT Tryz.prog 11 (tq62 a0_0 a0_1) fun _ xs obs=>R (xs.headD .any) obs):FSpec Tryz.prog 82 [.agg [a0_0,a0_1]] [] R :=
 uQ (up_cons (up_agg (up_cons (up_ptr ha0_0) (up_cons (up_ptr ha0_1) up_nil))) up_nil) (oQ [] Tryz.f82 (by kernel_rfl) (by kernel_rfl) (by kernel_rfl) h)
def tq7o (a0_0:AV) (a0_1:AV):Tree :=
 NZ a0_0<|NZ a0_0<|NPh (a0_0.deref.drop 4)<|.done 0 [.agg [((a0_0.deref.drop 4).headD .any),a0_1]] []
theorem Fqgk (a0_0:AV) (a0_1:AV) (ha0_0:LK.has .ptr a0_0) (ha0_1:LK.has .ptr a0_1)  (h:wpT Tryz.prog 11 (tq7o a0_0 a0_1) fun _ xs obs=>R (xs.headD .any) obs):FSpec Tryz.prog 83 [.agg [a0_0,a0_1]] [] R :=
 uQ (up_cons (up_agg (up_cons (up_ptr ha0_0) (up_cons (up_ptr ha0_1) up_nil))) up_nil) (oQ [] Tryz.f83 (by kernel_rfl) (by kernel_rfl) (by kernel_rfl) h)
def tq8a (a0:AV) (a1:AV):Tree :=
 .done 0 [.ptr [.v (.int .u8 112),.v (.string (mk [])),a0,a1]] []
theorem Fqfk (a0:AV) (a1:AV) (ha0:LK.has .ptr a0) (ha1:LK.has .ptr a1)  (h:wpT Tryz.prog 9 (tq8a a0 a1) fun _ xs obs=>R (xs.headD .any) obs):FSpec Tryz.prog 86 [a0,a1] [] R :=
 uQ (up_cons (up_ptr ha0) (up_cons (up_ptr ha1) up_nil)) (oQ [] Tryz.f86 (by kernel_rfl) (by kernel_rfl) (by kernel_rfl) h)
def tq7n (a0:ByteArray):Tree :=
 .test (decide ((ByteArray.size a0:Int) > (8000:Int))) (.done 0 [.v (.pointer none)] []) (.call 116 [.v (.string a0),.v (.int .i64 0)] [] fun r1 o1=>NT r1<|NP (r1.comp 0)<|NS (r1.comp 1)<|.test (!(ByteArray.toList ((r1.comp 1).toStr)==ByteArray.toList (mk []))) (.done 0 [.v (.pointer none)] []) (.done 0 [(r1.comp 0)] []))
theorem Fqgf (a0:ByteArray)   (h:wpT Tryz.prog 16 (tq7n a0) fun _ xs obs=>R (xs.headD .any) obs):FSpec Tryz.prog 90 [.v (.string a0)] [] R :=
 uQ (up_cons (up_refl _) up_nil) (oQ [] Tryz.f90 (by kernel_rfl) (by kernel_rfl) (by kernel_rfl) h)
def Lq32:LI:={ hd:={ slots:=[(0,.k .ptr),(1,.k .sl),(5,.k (.int .i64))] },xs:={ slots:=[(0,.k .ptr)] },rt:={ refs:=[(4,69)],objs:=[(69,[.lk (.int .u8),.lk .str,.lk (.int .i64),.lk .ptr,.lk .ptr])] },ex:=1 }
def Cq98:Code:=loopAt (bodyOf Tryz.f91) 7
def lq71:List (Nat×LI):=[(7,Lq32)]
def tq5j (a0:AV) (a1:AV):Tree :=
 NZ a0<|NZ a0<|.need (LK.has .str (a0.deref.headD .any)/\1<=a0.deref.length)<|.test (ByteArray.toList ((a0.deref.headD .any).toStr)==ByteArray.toList (mk [48])) (NZ a0<|NZ a0<|.need (LK.has .str (a0.deref.headD .any)/\1<=a0.deref.length)<|.need (0<=(0:Int)/\(0:Int) < ByteArray.size ((a0.deref.headD .any).toStr))<|.done 0 [.ptr [.v (.int .u8 (bt ((a0.deref.headD .any).toStr) 0)),.v (.string (mk [])),.v (.int .i64 0),.v (.pointer none),.v (.pointer none)]] []) (NZ a0<|NZ a0<|.need (LK.has .str (a0.deref.headD .any)/\1<=a0.deref.length)<|.test (ByteArray.toList ((a0.deref.headD .any).toStr)==ByteArray.toList (mk [49])) (NZ a0<|NZ a0<|.need (LK.has .str (a0.deref.headD .any)/\1<=a0.deref.length)<|.need (0<=(0:Int)/\(0:Int) < ByteArray.size ((a0.deref.headD .any).toStr))<|.done 0 [.ptr [.v (.int .u8 (bt ((a0.deref.headD .any).toStr) 0)),.v (.string (mk [])),.v (.int .i64 0),.v (.pointer none),.v (.pointer none)]] []) (NZ a0<|NZ a0<|.need (LK.has .str (a0.deref.headD .any)/\1<=a0.deref.length)<|.call 117 [.v (.string ((a0.deref.headD .any).toStr))] [] fun r1 o1=>NB r1<|.test r1.toBool (NZ a0<|NZ a0<|.need (LK.has .str (a0.deref.headD .any)/\1<=a0.deref.length)<|.done 0 [.ptr [.v (.int .u8 110),.v (.string ((a0.deref.headD .any).toStr)),.v (.int .i64 0),.v (.pointer none),.v (.pointer none)]] []) (NZ a0<|NZ a0<|.need (LK.has .str (a0.deref.headD .any)/\1<=a0.deref.length)<|.call 118 [.v (.string ((a0.deref.headD .any).toStr))] [] fun r2 o2=>NB r2<|.test r2.toBool (NL a1<|.loop Cq98 Lq32 [a0,a1,.v (.int .i64 (IntKind.wrap .i64 ((a1.elems.length:Int) - 1)))] [] (fun y3 q3=>NP (y3.headD .any)<|NZ (y3.headD .any)<|NZ (y3.headD .any)<|.need (LK.has .str ((y3.headD .any).deref.headD .any)/\1<=((y3.headD .any).deref).length)<|.done 0 [.ptr [.v (.int .u8 110),.v (.string (((y3.headD .any).deref.headD .any).toStr)),.v (.int .i64 0),.v (.pointer none),.v (.pointer none)]] []) (fun y3 q3=>.need ((q3.headD .dead) = .cells (q3.headD .dead).cs)<|.need (hasK [.lk (.int .u8),.lk .str,.lk (.int .i64),.lk .ptr,.lk .ptr] ((q3.headD .dead).cs) 0 q3.tail)<|.done 0 [.ptr [.v (.int .u8 (((q3.headD .dead).cs.getD 0 .any).toInt)),.v (.string (((q3.headD .dead).cs.getD 1 .any).toStr)),.v (.int .i64 (((q3.headD .dead).cs.getD 2 .any).toInt)),((q3.headD .dead).cs.getD 3 .any),((q3.headD .dead).cs.getD 4 .any)]] [])) (.call 119 [a0,.v (.string (mk [43])),.v (.int .i64 3)] [] fun r4 o4=>NB r4<|.test r4.toBool (NZ a0<|NZ a0<|NLh (a0.deref.drop 1)<|NG ((a0.deref.drop 1).headD .any) 1 1<|NPh (((a0.deref.drop 1).headD .any).elems.getD (1:Int).toNat [])<|.call 91 [((((a0.deref.drop 1).headD .any).elems.getD (1:Int).toNat []).headD .any),a1] [] fun r5 o5=>NP r5<|NZ a0<|NZ a0<|NLh (a0.deref.drop 1)<|NG ((a0.deref.drop 1).headD .any) 2 1<|NPh (((a0.deref.drop 1).headD .any).elems.getD (2:Int).toNat [])<|.call 91 [((((a0.deref.drop 1).headD .any).elems.getD (2:Int).toNat []).headD .any),a1] [] fun r6 o6=>NP r6<|NP r5<|.test r5.isNil (.done 0 [.v (.pointer none)] []) (NP r6<|.test r6.isNil (.done 0 [.v (.pointer none)] []) (NZ a0<|NZ a0<|NLh (a0.deref.drop 1)<|NG ((a0.deref.drop 1).headD .any) 0 1<|NPh (((a0.deref.drop 1).headD .any).elems.getD (0:Int).toNat [])<|NZ ((((a0.deref.drop 1).headD .any).elems.getD (0:Int).toNat []).headD .any)<|NZ ((((a0.deref.drop 1).headD .any).elems.getD (0:Int).toNat []).headD .any)<|.need (LK.has .str (((((a0.deref.drop 1).headD .any).elems.getD (0:Int).toNat []).headD .any).deref.headD .any)/\1<=(((((a0.deref.drop 1).headD .any).elems.getD (0:Int).toNat []).headD .any).deref).length)<|.need (0<=(0:Int)/\(0:Int) < ByteArray.size ((((((a0.deref.drop 1).headD .any).elems.getD (0:Int).toNat []).headD .any).deref.headD .any).toStr))<|.done 0 [.ptr [.v (.int .u8 (bt ((((((a0.deref.drop 1).headD .any).elems.getD (0:Int).toNat []).headD .any).deref.headD .any).toStr) 0)),.v (.string (mk [])),.v (.int .i64 0),r5,r6]] []))) (.call 119 [a0,.v (.string (mk [42])),.v (.int .i64 3)] [] fun r7 o7=>NB r7<|.test r7.toBool (NZ a0<|NZ a0<|NLh (a0.deref.drop 1)<|NG ((a0.deref.drop 1).headD .any) 1 1<|NPh (((a0.deref.drop 1).headD .any).elems.getD (1:Int).toNat [])<|.call 91 [((((a0.deref.drop 1).headD .any).elems.getD (1:Int).toNat []).headD .any),a1] [] fun r8 o8=>NP r8<|NZ a0<|NZ a0<|NLh (a0.deref.drop 1)<|NG ((a0.deref.drop 1).headD .any) 2 1<|NPh (((a0.deref.drop 1).headD .any).elems.getD (2:Int).toNat [])<|.call 91 [((((a0.deref.drop 1).headD .any).elems.getD (2:Int).toNat []).headD .any),a1] [] fun r9 o9=>NP r9<|NP r8<|.test r8.isNil (.done 0 [.v (.pointer none)] []) (NP r9<|.test r9.isNil (.done 0 [.v (.pointer none)] []) (NZ a0<|NZ a0<|NLh (a0.deref.drop 1)<|NG ((a0.deref.drop 1).headD .any) 0 1<|NPh (((a0.deref.drop 1).headD .any).elems.getD (0:Int).toNat [])<|NZ ((((a0.deref.drop 1).headD .any).elems.getD (0:Int).toNat []).headD .any)<|NZ ((((a0.deref.drop 1).headD .any).elems.getD (0:Int).toNat []).headD .any)<|.need (LK.has .str (((((a0.deref.drop 1).headD .any).elems.getD (0:Int).toNat []).headD .any).deref.headD .any)/\1<=(((((a0.deref.drop 1).headD .any).elems.getD (0:Int).toNat []).headD .any).deref).length)<|.need (0<=(0:Int)/\(0:Int) < ByteArray.size ((((((a0.deref.drop 1).headD .any).elems.getD (0:Int).toNat []).headD .any).deref.headD .any).toStr))<|.done 0 [.ptr [.v (.int .u8 (bt ((((((a0.deref.drop 1).headD .any).elems.getD (0:Int).toNat []).headD .any).deref.headD .any).toStr) 0)),.v (.string (mk [])),.v (.int .i64 0),r8,r9]] []))) (.call 119 [a0,.v (.string (mk [114,101,99])),.v (.int .i64 3)] [] fun r10 o10=>NB r10<|.test r10.toBool (NZ a0<|NZ a0<|NLh (a0.deref.drop 1)<|NG ((a0.deref.drop 1).headD .any) 1 1<|NPh (((a0.deref.drop 1).headD .any).elems.getD (1:Int).toNat [])<|NZ ((((a0.deref.drop 1).headD .any).elems.getD (1:Int).toNat []).headD .any)<|NZ ((((a0.deref.drop 1).headD .any).elems.getD (1:Int).toNat []).headD .any)<|.need (LK.has .str (((((a0.deref.drop 1).headD .any).elems.getD (1:Int).toNat []).headD .any).deref.headD .any)/\1<=(((((a0.deref.drop 1).headD .any).elems.getD (1:Int).toNat []).headD .any).deref).length)<|.call 118 [.v (.string ((((((a0.deref.drop 1).headD .any).elems.getD (1:Int).toNat []).headD .any).deref.headD .any).toStr))] [] fun r11 o11=>NB r11<|.test r11.toBool (NZ a0<|NZ a0<|NLh (a0.deref.drop 1)<|NG ((a0.deref.drop 1).headD .any) 2 1<|NPh (((a0.deref.drop 1).headD .any).elems.getD (2:Int).toNat [])<|.need (LK.has .sl a1/\allLen 1 a1.elems/\((([]:List (List AV)).length)+a1.elems.length)*16<=140737488355328)<|NZ a0<|NZ a0<|NLh (a0.deref.drop 1)<|NG ((a0.deref.drop 1).headD .any) 1 1<|NPh (((a0.deref.drop 1).headD .any).elems.getD (1:Int).toNat [])<|NZ ((((a0.deref.drop 1).headD .any).elems.getD (1:Int).toNat []).headD .any)<|NZ ((((a0.deref.drop 1).headD .any).elems.getD (1:Int).toNat []).headD .any)<|.need (LK.has .str (((((a0.deref.drop 1).headD .any).elems.getD (1:Int).toNat []).headD .any).deref.headD .any)/\1<=(((((a0.deref.drop 1).headD .any).elems.getD (1:Int).toNat []).headD .any).deref).length)<|.need (allLen 1 [[.v (.string ((((((a0.deref.drop 1).headD .any).elems.getD (1:Int).toNat []).headD .any).deref.headD .any).toStr))]]/\(((([]:List (List AV))++a1.elems).length)+([[.v (.string ((((((a0.deref.drop 1).headD .any).elems.getD (1:Int).toNat []).headD .any).deref.headD .any).toStr))]]:List (List AV)).length)*16<=140737488355328)<|.call 91 [((((a0.deref.drop 1).headD .any).elems.getD (2:Int).toNat []).headD .any),.sl ((([]:List (List AV))++a1.elems)++([[.v (.string ((((((a0.deref.drop 1).headD .any).elems.getD (1:Int).toNat []).headD .any).deref.headD .any).toStr))]]:List (List AV)))] [] fun r12 o12=>NP r12<|NP r12<|.test r12.isNil (.done 0 [.v (.pointer none)] []) (.done 0 [.ptr [.v (.int .u8 114),.v (.string (mk [])),.v (.int .i64 0),r12,.v (.pointer none)]] [])) (.done 0 [.v (.pointer none)] [])) (.done 0 [.v (.pointer none)] [])))))))
theorem Fq92 (a0:AV) (a1:AV) (ha0:LK.has .ptr a0) (ha1:LK.has .sl a1)  (h:wpT Tryz.prog 160 (tq5j a0 a1) fun _ xs obs=>R (xs.headD .any) obs):FSpec Tryz.prog 91 [a0,a1] [] R :=
 uQ (up_cons (up_ptr ha0) (up_cons (up_sl ha1) up_nil)) (oQ lq71 Tryz.f91 (by kernel_rfl) (by kernel_rfl) (by kernel_rfl) h)
def rq4m (x0:AV) (x1:AV) (x5:Int):Tree :=
 NP x0<|NL x1<|NI (.v (.int .i64 x5))<|.test (decide (x5 ≥ (0:Int))) (NG x1 x5 1<|NSh (x1.elems.getD x5.toNat [])<|NZ x0<|NZ x0<|.need (LK.has .str (x0.deref.headD .any)/\1<=x0.deref.length)<|.test (ByteArray.toList (((x1.elems.getD x5.toNat []).headD .any).toStr)==ByteArray.toList ((x0.deref.headD .any).toStr)) (NL x1<|.done 2 [] [.cells [.v (.int .u8 98),.v (.string (mk [])),.v (.int .i64 (IntKind.wrap .i64 ((IntKind.wrap .i64 ((x1.elems.length:Int) - 1)) - x5))),.v (.pointer none),.v (.pointer none)]]) (.done 0 [x0,x1,.v (.int .i64 (IntKind.wrap .i64 (x5 - 1)))] [])) (.done 1 [x0] [])
abbrev Lq4n:=LSpec Tryz.prog 160 Cq98 Lq32
theorem Gqcr (x0:AV) (x1:AV) (x5:Int) {R:RL} (h:wpT Tryz.prog 160 (rq4m x0 x1 x5) (Rnd (fun ys o=>Lq4n ys o R) R)):Lq4n [x0,x1,.v (.int .i64 x5)] [] R :=
 LSpec.ofE (cfg:=cfg) (lis:=lq71) tab_ok mixed (by kernel_rfl) h
def tql (a0:AV):Tree :=
 NZ a0<|NZ a0<|.need (LK.has (.int .u8) (a0.deref.headD .any)/\1<=a0.deref.length)<|.test (((a0.deref.headD .any).toInt)==(43:Int)) (NZ a0<|NZ a0<|NPh (a0.deref.drop 3)<|.call 92 [((a0.deref.drop 3).headD .any)] [] fun r1 o1=>NI r1<|NZ a0<|NZ a0<|NPh (a0.deref.drop 4)<|.call 92 [((a0.deref.drop 4).headD .any)] [] fun r2 o2=>NI r2<|.done 0 [.v (.int .i64 (IntKind.wrap .i64 ((IntKind.wrap .i64 (1+r1.toInt))+r2.toInt)))] []) (.test (((a0.deref.headD .any).toInt)==(42:Int)) (NZ a0<|NZ a0<|NPh (a0.deref.drop 3)<|.call 92 [((a0.deref.drop 3).headD .any)] [] fun r3 o3=>NI r3<|NZ a0<|NZ a0<|NPh (a0.deref.drop 4)<|.call 92 [((a0.deref.drop 4).headD .any)] [] fun r4 o4=>NI r4<|.done 0 [.v (.int .i64 (IntKind.wrap .i64 ((IntKind.wrap .i64 (1+r3.toInt))+r4.toInt)))] []) (.test (((a0.deref.headD .any).toInt)==(114:Int)) (NZ a0<|NZ a0<|NPh (a0.deref.drop 3)<|.call 92 [((a0.deref.drop 3).headD .any)] [] fun r5 o5=>NI r5<|.done 0 [.v (.int .i64 (IntKind.wrap .i64 (2+r5.toInt)))] []) (.done 0 [.v (.int .i64 1)] [])))
theorem Fqx (a0:AV) (ha0:LK.has .ptr a0)  (h:wpT Tryz.prog 30 (tql a0) fun _ xs obs=>R (xs.headD .any) obs):FSpec Tryz.prog 92 [a0] [] R :=
 uQ (up_cons (up_ptr ha0) up_nil) (oQ [] Tryz.f92 (by kernel_rfl) (by kernel_rfl) (by kernel_rfl) h)
def tq7g (a0_0:Int) (a0_1:Bool):Tree :=
 .call 120 [.v (.int .i64 (IntKind.wrap .i64 (a0_0+1)))] [] fun r1 o1=>NS r1<|.need (ByteArray.size (mk [35])+ByteArray.size r1.toStr<=9223372036854775807)<|.done 0 [.v (.string (((mk [35]):ByteArray)++r1.toStr))] [.cells [.v (.int .i64 (IntKind.wrap .i64 (a0_0+1))),.v (.bool a0_1)]]
theorem Fqfo (a0_0:Int) (a0_1:Bool)   (h:wpT Tryz.prog 16 (tq7g a0_0 a0_1) fun _ xs obs=>R (xs.headD .any) obs):FSpec Tryz.prog 93 [.ref 0 0] [.cells [.v (.int .i64 a0_0),.v (.bool a0_1)]] R :=
 FSpec.upo (upos_cons (upo_cells (up_cons (up_refl _) (up_cons (up_b _) up_nil))) upos_nil) (FSpec.up (up_cons (up_refl _) up_nil) (FSpec.ofE (cfg:=cfg) (lis:=[]) (fc:={ mu:=[(0,.one (.obj [.lk (.int .i64),.lk .bool]))],own:=[] }) tab_ok mixed (F:=Tryz.f93) (by kernel_rfl) (by kernel_rfl) (by kernel_rfl) h))
def tq9n (a0_0:Int) (a0_1:Bool) (a1:AV):Tree :=
 .test a0_1 (.done 0 [.ptr [.v (.int .u8 48),.v (.string (mk [])),.v (.int .i64 0),.v (.pointer none),.v (.pointer none)]] [.cells [.v (.int .i64 a0_0),.v (.bool true)]]) (.call 92 [a1] [] fun r1 o1=>NI r1<|.test (decide (r1.toInt > (400:Int))) (.done 0 [.ptr [.v (.int .u8 48),.v (.string (mk [])),.v (.int .i64 0),.v (.pointer none),.v (.pointer none)]] [.cells [.v (.int .i64 a0_0),.v (.bool true)]]) (.done 0 [a1] [.cells [.v (.int .i64 a0_0),.v (.bool a0_1)]]))
theorem Fqdk (a0_0:Int) (a0_1:Bool) (a1:AV) (ha1:LK.has .ptr a1)  (h:wpT Tryz.prog 20 (tq9n a0_0 a0_1 a1) fun _ xs obs=>R (xs.headD .any) obs):FSpec Tryz.prog 94 [.ref 0 0,a1] [.cells [.v (.int .i64 a0_0),.v (.bool a0_1)]] R :=
 FSpec.upo (upos_cons (upo_cells (up_cons (up_refl _) (up_cons (up_b _) up_nil))) upos_nil) (FSpec.up (up_cons (up_refl _) (up_cons (up_ptr ha1) up_nil)) (FSpec.ofE (cfg:=cfg) (lis:=[]) (fc:={ mu:=[(0,.one (.obj [.lk (.int .i64),.lk .bool]))],own:=[] }) tab_ok mixed (F:=Tryz.f94) (by kernel_rfl) (by kernel_rfl) (by kernel_rfl) h))
def tqc (a0_0:Int) (a0_1:Bool) (a1:AV) (a2:ByteArray):Tree :=
 .test a0_1 (.done 0 [.ptr [.v (.int .u8 48),.v (.string (mk [])),.v (.int .i64 0),.v (.pointer none),.v (.pointer none)]] [.cells [.v (.int .i64 a0_0),.v (.bool a0_1)]]) (NZ a1<|NZ a1<|.need (LK.has (.int .u8) (a1.deref.headD .any)/\1<=a1.deref.length)<|.test (((a1.deref.headD .any).toInt)==(110:Int)) (NZ a1<|NZ a1<|NSh (a1.deref.drop 1)<|.test (ByteArray.toList (((a1.deref.drop 1).headD .any).toStr)==ByteArray.toList a2) (.done 0 [.ptr [.v (.int .u8 49),.v (.string (mk [])),.v (.int .i64 0),.v (.pointer none),.v (.pointer none)]] [.cells [.v (.int .i64 a0_0),.v (.bool a0_1)]]) (.done 0 [.ptr [.v (.int .u8 48),.v (.string (mk [])),.v (.int .i64 0),.v (.pointer none),.v (.pointer none)]] [.cells [.v (.int .i64 a0_0),.v (.bool a0_1)]])) (.test (((a1.deref.headD .any).toInt)==(43:Int)) (NZ a1<|NZ a1<|NPh (a1.deref.drop 3)<|.call 95 [.ref 0 0,((a1.deref.drop 3).headD .any),.v (.string a2)] [.cells [.v (.int .i64 a0_0),.v (.bool a0_1)]] fun r1 o1=>.need ((o1.headD .dead) = .cells (o1.headD .dead).cs)<|.need (hasC [.lk (.int .i64),.lk .bool] ((o1.headD .dead).cs) 0 1 o1.tail)<|NP r1<|NZ a1<|NZ a1<|NPh (a1.deref.drop 4)<|.call 95 [.ref 0 0,((a1.deref.drop 4).headD .any),.v (.string a2)] [.cells [.v (.int .i64 (((o1.headD .dead).cs.getD 0 .any).toInt)),.v (.bool (((o1.headD .dead).cs.getD 1 .any).toBool))]] fun r2 o2=>.need ((o2.headD .dead) = .cells (o2.headD .dead).cs)<|.need (hasC [.lk (.int .i64),.lk .bool] ((o2.headD .dead).cs) 0 1 o2.tail)<|NP r2<|.call 121 [.v (.int .u8 43),r1,r2] [] fun r3 o3=>NP r3<|.call 94 [.ref 0 0,r3] [.cells [.v (.int .i64 (((o2.headD .dead).cs.getD 0 .any).toInt)),.v (.bool (((o2.headD .dead).cs.getD 1 .any).toBool))]] fun r4 o4=>.need ((o4.headD .dead) = .cells (o4.headD .dead).cs)<|.need (hasC [.lk (.int .i64),.lk .bool] ((o4.headD .dead).cs) 0 1 o4.tail)<|NP r4<|.done 0 [r4] [.cells [.v (.int .i64 (((o4.headD .dead).cs.getD 0 .any).toInt)),.v (.bool (((o4.headD .dead).cs.getD 1 .any).toBool))]]) (.test (((a1.deref.headD .any).toInt)==(42:Int)) (NZ a1<|NZ a1<|NPh (a1.deref.drop 3)<|.call 95 [.ref 0 0,((a1.deref.drop 3).headD .any),.v (.string a2)] [.cells [.v (.int .i64 a0_0),.v (.bool a0_1)]] fun r5 o5=>.need ((o5.headD .dead) = .cells (o5.headD .dead).cs)<|.need (hasC [.lk (.int .i64),.lk .bool] ((o5.headD .dead).cs) 0 1 o5.tail)<|NP r5<|NZ a1<|NZ a1<|NPh (a1.deref.drop 4)<|.call 121 [.v (.int .u8 42),r5,((a1.deref.drop 4).headD .any)] [] fun r6 o6=>NP r6<|NZ a1<|NZ a1<|NPh (a1.deref.drop 3)<|NZ a1<|NZ a1<|NPh (a1.deref.drop 4)<|.call 95 [.ref 0 0,((a1.deref.drop 4).headD .any),.v (.string a2)] [.cells [.v (.int .i64 (((o5.headD .dead).cs.getD 0 .any).toInt)),.v (.bool (((o5.headD .dead).cs.getD 1 .any).toBool))]] fun r7 o7=>.need ((o7.headD .dead) = .cells (o7.headD .dead).cs)<|.need (hasC [.lk (.int .i64),.lk .bool] ((o7.headD .dead).cs) 0 1 o7.tail)<|NP r7<|.call 121 [.v (.int .u8 42),((a1.deref.drop 3).headD .any),r7] [] fun r8 o8=>NP r8<|.call 121 [.v (.int .u8 43),r6,r8] [] fun r9 o9=>NP r9<|.call 94 [.ref 0 0,r9] [.cells [.v (.int .i64 (((o7.headD .dead).cs.getD 0 .any).toInt)),.v (.bool (((o7.headD .dead).cs.getD 1 .any).toBool))]] fun r10 o10=>.need ((o10.headD .dead) = .cells (o10.headD .dead).cs)<|.need (hasC [.lk (.int .i64),.lk .bool] ((o10.headD .dead).cs) 0 1 o10.tail)<|NP r10<|.done 0 [r10] [.cells [.v (.int .i64 (((o10.headD .dead).cs.getD 0 .any).toInt)),.v (.bool (((o10.headD .dead).cs.getD 1 .any).toBool))]]) (.test (((a1.deref.headD .any).toInt)==(114:Int)) (.call 93 [.ref 0 0] [.cells [.v (.int .i64 a0_0),.v (.bool a0_1)]] fun r11 o11=>.need ((o11.headD .dead) = .cells (o11.headD .dead).cs)<|.need (hasC [.lk (.int .i64),.lk .bool] ((o11.headD .dead).cs) 0 1 o11.tail)<|NS r11<|NZ a1<|NZ a1<|NPh (a1.deref.drop 3)<|.call 96 [((a1.deref.drop 3).headD .any),.ptr [.v (.int .u8 110),.v (.string r11.toStr),.v (.int .i64 0),.v (.pointer none),.v (.pointer none)],.v (.int .i64 0)] [] fun r12 o12=>NP r12<|.call 95 [.ref 0 0,r12,.v (.string a2)] [.cells [.v (.int .i64 (((o11.headD .dead).cs.getD 0 .any).toInt)),.v (.bool (((o11.headD .dead).cs.getD 1 .any).toBool))]] fun r13 o13=>.need ((o13.headD .dead) = .cells (o13.headD .dead).cs)<|.need (hasC [.lk (.int .i64),.lk .bool] ((o13.headD .dead).cs) 0 1 o13.tail)<|NP r13<|.call 94 [.ref 0 0,r13] [.cells [.v (.int .i64 (((o13.headD .dead).cs.getD 0 .any).toInt)),.v (.bool (((o13.headD .dead).cs.getD 1 .any).toBool))]] fun r14 o14=>.need ((o14.headD .dead) = .cells (o14.headD .dead).cs)<|.need (hasC [.lk (.int .i64),.lk .bool] ((o14.headD .dead).cs) 0 1 o14.tail)<|NP r14<|.call 97 [r14,.v (.string r11.toStr),a1] [] fun r15 o15=>NP r15<|.call 95 [.ref 0 0,r12,.v (.string r11.toStr)] [.cells [.v (.int .i64 (((o14.headD .dead).cs.getD 0 .any).toInt)),.v (.bool (((o14.headD .dead).cs.getD 1 .any).toBool))]] fun r16 o16=>.need ((o16.headD .dead) = .cells (o16.headD .dead).cs)<|.need (hasC [.lk (.int .i64),.lk .bool] ((o16.headD .dead).cs) 0 1 o16.tail)<|NP r16<|.call 94 [.ref 0 0,r16] [.cells [.v (.int .i64 (((o16.headD .dead).cs.getD 0 .any).toInt)),.v (.bool (((o16.headD .dead).cs.getD 1 .any).toBool))]] fun r17 o17=>.need ((o17.headD .dead) = .cells (o17.headD .dead).cs)<|.need (hasC [.lk (.int .i64),.lk .bool] ((o17.headD .dead).cs) 0 1 o17.tail)<|NP r17<|.call 97 [r17,.v (.string r11.toStr),a1] [] fun r18 o18=>NP r18<|.call 121 [.v (.int .u8 42),r18,.ptr [.v (.int .u8 98),.v (.string (mk [])),.v (.int .i64 0),.v (.pointer none),.v (.pointer none)]] [] fun r19 o19=>NP r19<|.call 121 [.v (.int .u8 43),r15,r19] [] fun r20 o20=>NP r20<|.call 94 [.ref 0 0,.ptr [.v (.int .u8 114),.v (.string (mk [])),.v (.int .i64 0),r20,.v (.pointer none)]] [.cells [.v (.int .i64 (((o17.headD .dead).cs.getD 0 .any).toInt)),.v (.bool (((o17.headD .dead).cs.getD 1 .any).toBool))]] fun r21 o21=>.need ((o21.headD .dead) = .cells (o21.headD .dead).cs)<|.need (hasC [.lk (.int .i64),.lk .bool] ((o21.headD .dead).cs) 0 1 o21.tail)<|NP r21<|.done 0 [r21] [.cells [.v (.int .i64 (((o21.headD .dead).cs.getD 0 .any).toInt)),.v (.bool (((o21.headD .dead).cs.getD 1 .any).toBool))]]) (.done 0 [.ptr [.v (.int .u8 48),.v (.string (mk [])),.v (.int .i64 0),.v (.pointer none),.v (.pointer none)]] [.cells [.v (.int .i64 a0_0),.v (.bool a0_1)]])))))
theorem Fq5y (a0_0:Int) (a0_1:Bool) (a1:AV) (a2:ByteArray) (ha1:LK.has .ptr a1)  (h:wpT Tryz.prog 121 (tqc a0_0 a0_1 a1 a2) fun _ xs obs=>R (xs.headD .any) obs):FSpec Tryz.prog 95 [.ref 0 0,a1,.v (.string a2)] [.cells [.v (.int .i64 a0_0),.v (.bool a0_1)]] R :=
 FSpec.upo (upos_cons (upo_cells (up_cons (up_refl _) (up_cons (up_b _) up_nil))) upos_nil) (FSpec.up (up_cons (up_refl _) (up_cons (up_ptr ha1) (up_cons (up_refl _) up_nil))) (FSpec.ofE (cfg:=cfg) (lis:=[]) (fc:={ mu:=[(0,.one (.obj [.lk (.int .i64),.lk .bool]))],own:=[] }) tab_ok mixed (F:=Tryz.f95) (by kernel_rfl) (by kernel_rfl) (by kernel_rfl) h))
def tqn (a0:AV) (a1:AV) (a2:Int):Tree :=
 NZ a0<|NZ a0<|.need (LK.has (.int .u8) (a0.deref.headD .any)/\1<=a0.deref.length)<|.test (((a0.deref.headD .any).toInt)==(98:Int)) (NZ a0<|NZ a0<|.need (LK.has (.int .i64) ((a0.deref.drop 2).headD .any)/\1<=(a0.deref.drop 2).length)<|.test ((((a0.deref.drop 2).headD .any).toInt)==a2) (.done 0 [a1] []) (.done 0 [a0] [])) (.test (((a0.deref.headD .any).toInt)==(43:Int)) (NZ a0<|NZ a0<|.need (LK.has (.int .u8) (a0.deref.headD .any)/\1<=a0.deref.length)<|NZ a0<|NZ a0<|NPh (a0.deref.drop 3)<|.call 96 [((a0.deref.drop 3).headD .any),a1,.v (.int .i64 a2)] [] fun r1 o1=>NP r1<|NZ a0<|NZ a0<|NPh (a0.deref.drop 4)<|.call 96 [((a0.deref.drop 4).headD .any),a1,.v (.int .i64 a2)] [] fun r2 o2=>NP r2<|.done 0 [.ptr [.v (.int .u8 ((a0.deref.headD .any).toInt)),.v (.string (mk [])),.v (.int .i64 0),r1,r2]] []) (.test (((a0.deref.headD .any).toInt)==(42:Int)) (NZ a0<|NZ a0<|.need (LK.has (.int .u8) (a0.deref.headD .any)/\1<=a0.deref.length)<|NZ a0<|NZ a0<|NPh (a0.deref.drop 3)<|.call 96 [((a0.deref.drop 3).headD .any),a1,.v (.int .i64 a2)] [] fun r3 o3=>NP r3<|NZ a0<|NZ a0<|NPh (a0.deref.drop 4)<|.call 96 [((a0.deref.drop 4).headD .any),a1,.v (.int .i64 a2)] [] fun r4 o4=>NP r4<|.done 0 [.ptr [.v (.int .u8 ((a0.deref.headD .any).toInt)),.v (.string (mk [])),.v (.int .i64 0),r3,r4]] []) (.test (((a0.deref.headD .any).toInt)==(114:Int)) (NZ a0<|NZ a0<|NPh (a0.deref.drop 3)<|.call 96 [((a0.deref.drop 3).headD .any),a1,.v (.int .i64 (IntKind.wrap .i64 (a2+1)))] [] fun r5 o5=>NP r5<|.done 0 [.ptr [.v (.int .u8 114),.v (.string (mk [])),.v (.int .i64 0),r5,.v (.pointer none)]] []) (.done 0 [a0] []))))
theorem Fqy (a0:AV) (a1:AV) (a2:Int) (ha0:LK.has .ptr a0) (ha1:LK.has .ptr a1)  (h:wpT Tryz.prog 56 (tqn a0 a1 a2) fun _ xs obs=>R (xs.headD .any) obs):FSpec Tryz.prog 96 [a0,a1,.v (.int .i64 a2)] [] R :=
 uQ (up_cons (up_ptr ha0) (up_cons (up_ptr ha1) (up_cons (up_refl _) up_nil))) (oQ [] Tryz.f96 (by kernel_rfl) (by kernel_rfl) (by kernel_rfl) h)
def tqh (a0:AV) (a1:ByteArray) (a2:AV):Tree :=
 NZ a0<|NZ a0<|.need (LK.has (.int .u8) (a0.deref.headD .any)/\1<=a0.deref.length)<|.test (((a0.deref.headD .any).toInt)==(110:Int)) (NZ a0<|NZ a0<|NSh (a0.deref.drop 1)<|.test (ByteArray.toList (((a0.deref.drop 1).headD .any).toStr)==ByteArray.toList a1) (.done 0 [a2] []) (.done 0 [a0] [])) (.test (((a0.deref.headD .any).toInt)==(43:Int)) (NZ a0<|NZ a0<|.need (LK.has (.int .u8) (a0.deref.headD .any)/\1<=a0.deref.length)<|NZ a0<|NZ a0<|NPh (a0.deref.drop 3)<|.call 97 [((a0.deref.drop 3).headD .any),.v (.string a1),a2] [] fun r1 o1=>NP r1<|NZ a0<|NZ a0<|NPh (a0.deref.drop 4)<|.call 97 [((a0.deref.drop 4).headD .any),.v (.string a1),a2] [] fun r2 o2=>NP r2<|.done 0 [.ptr [.v (.int .u8 ((a0.deref.headD .any).toInt)),.v (.string (mk [])),.v (.int .i64 0),r1,r2]] []) (.test (((a0.deref.headD .any).toInt)==(42:Int)) (NZ a0<|NZ a0<|.need (LK.has (.int .u8) (a0.deref.headD .any)/\1<=a0.deref.length)<|NZ a0<|NZ a0<|NPh (a0.deref.drop 3)<|.call 97 [((a0.deref.drop 3).headD .any),.v (.string a1),a2] [] fun r3 o3=>NP r3<|NZ a0<|NZ a0<|NPh (a0.deref.drop 4)<|.call 97 [((a0.deref.drop 4).headD .any),.v (.string a1),a2] [] fun r4 o4=>NP r4<|.done 0 [.ptr [.v (.int .u8 ((a0.deref.headD .any).toInt)),.v (.string (mk [])),.v (.int .i64 0),r3,r4]] []) (.test (((a0.deref.headD .any).toInt)==(114:Int)) (NZ a0<|NZ a0<|NPh (a0.deref.drop 3)<|.call 97 [((a0.deref.drop 3).headD .any),.v (.string a1),a2] [] fun r5 o5=>NP r5<|.done 0 [.ptr [.v (.int .u8 114),.v (.string (mk [])),.v (.int .i64 0),r5,.v (.pointer none)]] []) (.done 0 [a0] []))))
theorem Fq12 (a0:AV) (a1:ByteArray) (a2:AV) (ha0:LK.has .ptr a0) (ha2:LK.has .ptr a2)  (h:wpT Tryz.prog 55 (tqh a0 a1 a2) fun _ xs obs=>R (xs.headD .any) obs):FSpec Tryz.prog 97 [a0,.v (.string a1),a2] [] R :=
 uQ (up_cons (up_ptr ha0) (up_cons (up_refl _) (up_cons (up_ptr ha2) up_nil))) (oQ [] Tryz.f97 (by kernel_rfl) (by kernel_rfl) (by kernel_rfl) h)
def tq7p (a0:AV):Tree :=
 .call 122 [a0] [] fun r1 o1=>NL r1<|.call 123 [a0,.v (.slice none 0 0),.cptr 123 [none,some 0,some 1],.ref 0 0,.ref 1 0] [.cells [r1],.cells [.v (.int .i64 0)]] fun r2 o2=>.need ((o2.headD .dead) = .cells (o2.headD .dead).cs)<|.need (hasC [.lk .sl] ((o2.headD .dead).cs) 0 1 o2.tail)<|.need ((o2.tail.headD .dead) = .cells (o2.tail.headD .dead).cs)<|.need (hasC [.lk (.int .i64)] ((o2.tail.headD .dead).cs) 0 2 o2.tail.tail)<|NS r2<|.done 0 [.v (.string r2.toStr)] []
theorem Fqg3 (a0:AV) (ha0:LK.has .ptr a0)  (h:wpT Tryz.prog 12 (tq7p a0) fun _ xs obs=>R (xs.headD .any) obs):FSpec Tryz.prog 98 [a0] [] R :=
 uQ (up_cons (up_ptr ha0) up_nil) (oQ [] Tryz.f98 (by kernel_rfl) (by kernel_rfl) (by kernel_rfl) h)
def tqbj (a0:AV):Tree :=
 .call 122 [a0] [] fun r1 o1=>NL r1<|.call 125 [r1,.v (.func (.func 118) #[] #[])] [] fun r2 o2=>NB r2<|.done 0 [.v (.bool (!r2.toBool))] []
theorem Fqg0 (a0:AV) (ha0:LK.has .ptr a0)  (h:wpT Tryz.prog 7 (tqbj a0) fun _ xs obs=>R (xs.headD .any) obs):FSpec Tryz.prog 99 [a0] [] R :=
 uQ (up_cons (up_ptr ha0) up_nil) (oQ [] Tryz.f99 (by kernel_rfl) (by kernel_rfl) (by kernel_rfl) h)
def tq4g (a0:AV):Tree :=
 NZ a0<|NZ a0<|.need (LK.has .str (a0.deref.headD .any)/\1<=a0.deref.length)<|.test (ByteArray.toList ((a0.deref.headD .any).toStr)==ByteArray.toList (mk [117])) (.done 0 [.ptr [.v (.int .u8 117),.v (.string (mk [])),.v (.pointer none),.v (.pointer none)]] []) (NZ a0<|NZ a0<|.need (LK.has .str (a0.deref.headD .any)/\1<=a0.deref.length)<|.call 126 [.v (.string ((a0.deref.headD .any).toStr))] [] fun r1 o1=>NB r1<|.test r1.toBool (NZ a0<|NZ a0<|.need (LK.has .str (a0.deref.headD .any)/\1<=a0.deref.length)<|.done 0 [.ptr [.v (.int .u8 101),.v (.string ((a0.deref.headD .any).toStr)),.v (.pointer none),.v (.pointer none)]] []) (.call 119 [a0,.v (.string (mk [108])),.v (.int .i64 2)] [] fun r2 o2=>NB r2<|.test r2.toBool (NZ a0<|NZ a0<|NLh (a0.deref.drop 1)<|NG ((a0.deref.drop 1).headD .any) 1 1<|NPh (((a0.deref.drop 1).headD .any).elems.getD (1:Int).toNat [])<|.call 100 [((((a0.deref.drop 1).headD .any).elems.getD (1:Int).toNat []).headD .any)] [] fun r3 o3=>NP r3<|NP r3<|.test r3.isNil (.done 0 [.v (.pointer none)] []) (NZ a0<|NZ a0<|NLh (a0.deref.drop 1)<|NG ((a0.deref.drop 1).headD .any) 0 1<|NPh (((a0.deref.drop 1).headD .any).elems.getD (0:Int).toNat [])<|NZ ((((a0.deref.drop 1).headD .any).elems.getD (0:Int).toNat []).headD .any)<|NZ ((((a0.deref.drop 1).headD .any).elems.getD (0:Int).toNat []).headD .any)<|.need (LK.has .str (((((a0.deref.drop 1).headD .any).elems.getD (0:Int).toNat []).headD .any).deref.headD .any)/\1<=(((((a0.deref.drop 1).headD .any).elems.getD (0:Int).toNat []).headD .any).deref).length)<|.need (0<=(0:Int)/\(0:Int) < ByteArray.size ((((((a0.deref.drop 1).headD .any).elems.getD (0:Int).toNat []).headD .any).deref.headD .any).toStr))<|.done 0 [.ptr [.v (.int .u8 (bt ((((((a0.deref.drop 1).headD .any).elems.getD (0:Int).toNat []).headD .any).deref.headD .any).toStr) 0)),.v (.string (mk [])),r3,.v (.pointer none)]] [])) (.call 119 [a0,.v (.string (mk [114])),.v (.int .i64 2)] [] fun r4 o4=>NB r4<|.test r4.toBool (NZ a0<|NZ a0<|NLh (a0.deref.drop 1)<|NG ((a0.deref.drop 1).headD .any) 1 1<|NPh (((a0.deref.drop 1).headD .any).elems.getD (1:Int).toNat [])<|.call 100 [((((a0.deref.drop 1).headD .any).elems.getD (1:Int).toNat []).headD .any)] [] fun r5 o5=>NP r5<|NP r5<|.test r5.isNil (.done 0 [.v (.pointer none)] []) (NZ a0<|NZ a0<|NLh (a0.deref.drop 1)<|NG ((a0.deref.drop 1).headD .any) 0 1<|NPh (((a0.deref.drop 1).headD .any).elems.getD (0:Int).toNat [])<|NZ ((((a0.deref.drop 1).headD .any).elems.getD (0:Int).toNat []).headD .any)<|NZ ((((a0.deref.drop 1).headD .any).elems.getD (0:Int).toNat []).headD .any)<|.need (LK.has .str (((((a0.deref.drop 1).headD .any).elems.getD (0:Int).toNat []).headD .any).deref.headD .any)/\1<=(((((a0.deref.drop 1).headD .any).elems.getD (0:Int).toNat []).headD .any).deref).length)<|.need (0<=(0:Int)/\(0:Int) < ByteArray.size ((((((a0.deref.drop 1).headD .any).elems.getD (0:Int).toNat []).headD .any).deref.headD .any).toStr))<|.done 0 [.ptr [.v (.int .u8 (bt ((((((a0.deref.drop 1).headD .any).elems.getD (0:Int).toNat []).headD .any).deref.headD .any).toStr) 0)),.v (.string (mk [])),r5,.v (.pointer none)]] [])) (.call 119 [a0,.v (.string (mk [102])),.v (.int .i64 2)] [] fun r6 o6=>NB r6<|.test r6.toBool (NZ a0<|NZ a0<|NLh (a0.deref.drop 1)<|NG ((a0.deref.drop 1).headD .any) 1 1<|NPh (((a0.deref.drop 1).headD .any).elems.getD (1:Int).toNat [])<|.call 100 [((((a0.deref.drop 1).headD .any).elems.getD (1:Int).toNat []).headD .any)] [] fun r7 o7=>NP r7<|NP r7<|.test r7.isNil (.done 0 [.v (.pointer none)] []) (NZ a0<|NZ a0<|NLh (a0.deref.drop 1)<|NG ((a0.deref.drop 1).headD .any) 0 1<|NPh (((a0.deref.drop 1).headD .any).elems.getD (0:Int).toNat [])<|NZ ((((a0.deref.drop 1).headD .any).elems.getD (0:Int).toNat []).headD .any)<|NZ ((((a0.deref.drop 1).headD .any).elems.getD (0:Int).toNat []).headD .any)<|.need (LK.has .str (((((a0.deref.drop 1).headD .any).elems.getD (0:Int).toNat []).headD .any).deref.headD .any)/\1<=(((((a0.deref.drop 1).headD .any).elems.getD (0:Int).toNat []).headD .any).deref).length)<|.need (0<=(0:Int)/\(0:Int) < ByteArray.size ((((((a0.deref.drop 1).headD .any).elems.getD (0:Int).toNat []).headD .any).deref.headD .any).toStr))<|.done 0 [.ptr [.v (.int .u8 (bt ((((((a0.deref.drop 1).headD .any).elems.getD (0:Int).toNat []).headD .any).deref.headD .any).toStr) 0)),.v (.string (mk [])),r7,.v (.pointer none)]] [])) (.call 119 [a0,.v (.string (mk [112])),.v (.int .i64 3)] [] fun r8 o8=>NB r8<|.test r8.toBool (NZ a0<|NZ a0<|NLh (a0.deref.drop 1)<|NG ((a0.deref.drop 1).headD .any) 1 1<|NPh (((a0.deref.drop 1).headD .any).elems.getD (1:Int).toNat [])<|.call 100 [((((a0.deref.drop 1).headD .any).elems.getD (1:Int).toNat []).headD .any)] [] fun r9 o9=>NP r9<|NZ a0<|NZ a0<|NLh (a0.deref.drop 1)<|NG ((a0.deref.drop 1).headD .any) 2 1<|NPh (((a0.deref.drop 1).headD .any).elems.getD (2:Int).toNat [])<|.call 100 [((((a0.deref.drop 1).headD .any).elems.getD (2:Int).toNat []).headD .any)] [] fun r10 o10=>NP r10<|NP r9<|.test r9.isNil (.done 0 [.v (.pointer none)] []) (NP r10<|.test r10.isNil (.done 0 [.v (.pointer none)] []) (.call 86 [r9,r10] [] fun r11 o11=>NP r11<|.done 0 [r11] []))) (.done 0 [.v (.pointer none)] []))))))
theorem Fqbp (a0:AV) (ha0:LK.has .ptr a0)  (h:wpT Tryz.prog 85 (tq4g a0) fun _ xs obs=>R (xs.headD .any) obs):FSpec Tryz.prog 100 [a0] [] R :=
 uQ (up_cons (up_ptr ha0) up_nil) (oQ [] Tryz.f100 (by kernel_rfl) (by kernel_rfl) (by kernel_rfl) h)
def Lq4i:LI:={ hd:={ slots:=[(3,.k .ptr),(10,.k (.int .i64)),(11,.k (.int .i64))] },xs:={ slots:=[(3,.k .ptr)] },rt:={},ex:=0 }
def Cqa8:Code:=loopAt (bodyOf Tryz.f102) 3
def lq8i:List (Nat×LI):=[(3,Lq4i)]
def tq3l (a0_0:AV) (a0_1:AV):Tree :=
 NZ a0_0<|NZ a0_0<|.need (LK.has (.int .i64) ((a0_0.deref.drop 2).headD .any)/\1<=(a0_0.deref.drop 2).length)<|.loop Cqa8 Lq4i [a0_1,.v (.int .i64 (((a0_0.deref.drop 2).headD .any).toInt)),.v (.int .i64 0)] [] (fun y1 q1=>NP (y1.headD .any)<|NZ (y1.headD .any)<|NZ (y1.headD .any)<|.need (LK.has .ptr ((y1.headD .any).deref.headD .any)/\1<=((y1.headD .any).deref).length)<|.done 0 [((y1.headD .any).deref.headD .any)] []) (fun y1 q1=>.done 0 [.any] [])
theorem Fq6s (a0_0:AV) (a0_1:AV) (ha0_0:LK.has .ptr a0_0) (ha0_1:LK.has .ptr a0_1)  (h:wpT Tryz.prog 22 (tq3l a0_0 a0_1) fun _ xs obs=>R (xs.headD .any) obs):FSpec Tryz.prog 102 [.agg [a0_0,a0_1]] [] R :=
 uQ (up_cons (up_agg (up_cons (up_ptr ha0_0) (up_cons (up_ptr ha0_1) up_nil))) up_nil) (oQ lq8i Tryz.f102 (by kernel_rfl) (by kernel_rfl) (by kernel_rfl) h)
def rq1y (x3:AV) (x10:Int) (x11:Int):Tree :=
 NP x3<|NI (.v (.int .i64 x10))<|NI (.v (.int .i64 x11))<|.test (decide (x11 < x10)) (NZ x3<|NZ x3<|NPh (x3.deref.drop 1)<|.done 0 [((x3.deref.drop 1).headD .any),.v (.int .i64 x10),.v (.int .i64 (IntKind.wrap .i64 (x11+1)))] []) (.done 1 [x3] [])
abbrev Lq2d:=LSpec Tryz.prog 22 Cqa8 Lq4i
theorem Gq22 (x3:AV) (x10:Int) (x11:Int) {R:RL} (h:wpT Tryz.prog 22 (rq1y x3 x10 x11) (Rnd (fun ys o=>Lq2d ys o R) R)):Lq2d [x3,.v (.int .i64 x10),.v (.int .i64 x11)] [] R :=
 LSpec.ofE (cfg:=cfg) (lis:=lq8i) tab_ok mixed (by kernel_rfl) h
def tq10 (a0_0:ByteArray) (a0_1:AV):Tree :=
 .test (!(ByteArray.toList a0_0==ByteArray.toList (mk []))) (.test (ByteArray.toList a0_0==ByteArray.toList (mk [48])) (.done 0 [.v (.bool true)] []) (.test (ByteArray.toList a0_0==ByteArray.toList (mk [49])) (.done 0 [.v (.bool true)] []) (.call 112 [.v (.string a0_0)] [] fun r1 o1=>NB r1<|.test r1.toBool (.done 0 [.v (.bool true)] []) (.call 110 [.v (.string a0_0)] [] fun r2 o2=>NB r2<|.done 0 [.v (.bool r2.toBool)] [])))) (NL a0_1<|.test ((a0_1.elems.length:Int) != (3:Int)) (.done 0 [.v (.bool false)] []) (.call 65 [.agg [.v (.string a0_0),a0_1]] [] fun r3 o3=>NS r3<|.test (ByteArray.toList r3.toStr==ByteArray.toList (mk [43])) (NG a0_1 1 2<|NE (a0_1.elems.getD (1:Int).toNat [])<|.call 103 [.agg [.v (.string (((a0_1.elems.getD (1:Int).toNat []).getD 0 .any).toStr)),((a0_1.elems.getD (1:Int).toNat []).getD 1 .any)]] [] fun r4 o4=>NB r4<|.test r4.toBool (NG a0_1 2 2<|NE (a0_1.elems.getD (2:Int).toNat [])<|.call 103 [.agg [.v (.string (((a0_1.elems.getD (2:Int).toNat []).getD 0 .any).toStr)),((a0_1.elems.getD (2:Int).toNat []).getD 1 .any)]] [] fun r5 o5=>NB r5<|.done 0 [.v (.bool r5.toBool)] []) (.done 0 [.v (.bool false)] [])) (.test (ByteArray.toList r3.toStr==ByteArray.toList (mk [42])) (NG a0_1 1 2<|NE (a0_1.elems.getD (1:Int).toNat [])<|.call 103 [.agg [.v (.string (((a0_1.elems.getD (1:Int).toNat []).getD 0 .any).toStr)),((a0_1.elems.getD (1:Int).toNat []).getD 1 .any)]] [] fun r6 o6=>NB r6<|.test r6.toBool (NG a0_1 2 2<|NE (a0_1.elems.getD (2:Int).toNat [])<|.call 103 [.agg [.v (.string (((a0_1.elems.getD (2:Int).toNat []).getD 0 .any).toStr)),((a0_1.elems.getD (2:Int).toNat []).getD 1 .any)]] [] fun r7 o7=>NB r7<|.done 0 [.v (.bool r7.toBool)] []) (.done 0 [.v (.bool false)] [])) (.test (ByteArray.toList r3.toStr==ByteArray.toList (mk [114,101,99])) (NG a0_1 1 2<|NSh (a0_1.elems.getD (1:Int).toNat [])<|.call 110 [.v (.string (((a0_1.elems.getD (1:Int).toNat []).headD .any).toStr))] [] fun r8 o8=>NB r8<|.test r8.toBool (NG a0_1 2 2<|NE (a0_1.elems.getD (2:Int).toNat [])<|.call 103 [.agg [.v (.string (((a0_1.elems.getD (2:Int).toNat []).getD 0 .any).toStr)),((a0_1.elems.getD (2:Int).toNat []).getD 1 .any)]] [] fun r9 o9=>NB r9<|.done 0 [.v (.bool r9.toBool)] []) (.done 0 [.v (.bool false)] [])) (.done 0 [.v (.bool false)] [])))))
theorem Fq8o (a0_0:ByteArray) (a0_1:AV) (ha0_1:LK.has .sl a0_1)  (h:wpT Tryz.prog 60 (tq10 a0_0 a0_1) fun _ xs obs=>R (xs.headD .any) obs):FSpec Tryz.prog 103 [.agg [.v (.string a0_0),a0_1]] [] R :=
 uQ (up_cons (up_agg (up_cons (up_refl _) (up_cons (up_sl ha0_1) up_nil))) up_nil) (oQ [] Tryz.f103 (by kernel_rfl) (by kernel_rfl) (by kernel_rfl) h)
def Lq5k:LI:={ hd:={ slots:=[(3,.k (.int .i64)),(4,.k (.int .i64))],refs:=[(1,1)],objs:=[(1,[.lk .str,.lk .sl])] },xs:={ slots:=[(3,.k (.int .i64))] },rt:={},ex:=0 }
def Cq9w:Code:=loopAt (bodyOf Tryz.f104) 5
def lq76:List (Nat×LI):=[(5,Lq5k)]
def tq5m (a0_0:ByteArray) (a0_1:AV):Tree :=
 .test (!(ByteArray.toList a0_0==ByteArray.toList (mk []))) (.done 0 [.v (.int .i64 1)] []) (.loop Cq9w Lq5k [.v (.int .i64 0),.v (.int .i64 0)] [.cells [.v (.string a0_0),a0_1]] (fun y2 q2=>NI (y2.headD .any)<|.done 0 [.v (.int .i64 ((y2.headD .any).toInt))] []) (fun y2 q2=>.done 0 [.any] []))
theorem Fq6r (a0_0:ByteArray) (a0_1:AV) (ha0_1:LK.has .sl a0_1)  (h:wpT Tryz.prog 24 (tq5m a0_0 a0_1) fun _ xs obs=>R (xs.headD .any) obs):FSpec Tryz.prog 104 [.agg [.v (.string a0_0),a0_1]] [] R :=
 uQ (up_cons (up_agg (up_cons (up_refl _) (up_cons (up_sl ha0_1) up_nil))) up_nil) (oQ lq76 Tryz.f104 (by kernel_rfl) (by kernel_rfl) (by kernel_rfl) h)
def rq33 (x3:Int) (x4:Int) (o1_0:ByteArray) (o1_1:AV):Tree :=
 NI (.v (.int .i64 x3))<|NI (.v (.int .i64 x4))<|.need (Ob.cells [.v (.string o1_0),o1_1] = .cells [.v (.string o1_0),o1_1])<|.need (hasK [.lk .str,.lk .sl] [.v (.string o1_0),o1_1] 0 [])<|NL o1_1<|.test (decide (x4 < (o1_1.elems.length:Int))) (NG o1_1 x4 2<|NE (o1_1.elems.getD x4.toNat [])<|.call 104 [.agg [.v (.string (((o1_1.elems.getD x4.toNat []).getD 0 .any).toStr)),((o1_1.elems.getD x4.toNat []).getD 1 .any)]] [] fun r1 o1=>NI r1<|.done 0 [.v (.int .i64 (IntKind.wrap .i64 (x3+r1.toInt))),.v (.int .i64 (IntKind.wrap .i64 (x4+1)))] [.cells [.v (.string o1_0),o1_1]]) (.done 1 [.v (.int .i64 x3)] [])
abbrev Lq3y:=LSpec Tryz.prog 24 Cq9w Lq5k
theorem Gq9r (x3:Int) (x4:Int) (o1_0:ByteArray) (o1_1:AV) {R:RL} (h:wpT Tryz.prog 24 (rq33 x3 x4 o1_0 o1_1) (Rnd (fun ys o=>Lq3y ys o R) R)):Lq3y [.v (.int .i64 x3),.v (.int .i64 x4)] [.cells [.v (.string o1_0),o1_1]] R :=
 LSpec.ofE (cfg:=cfg) (lis:=lq76) tab_ok mixed (by kernel_rfl) h
def tq1z (a0_0:ByteArray) (a0_1:AV) (a1:ByteArray):Tree :=
 .test (!(ByteArray.toList a0_0==ByteArray.toList (mk []))) (.test (ByteArray.toList a0_0==ByteArray.toList a1) (.done 0 [.tup [.agg [.v (.string (mk [49])),.v (.slice none 0 0)],.v (.bool true)]] []) (.done 0 [.tup [.agg [.v (.string (mk [48])),.v (.slice none 0 0)],.v (.bool true)]] [])) (.call 65 [.agg [.v (.string a0_0),a0_1]] [] fun r1 o1=>NS r1<|.test (ByteArray.toList r1.toStr==ByteArray.toList (mk [114,101,99])) (.call 129 [.agg [.v (.string a0_0),a0_1],.v (.string a1)] [] fun r2 o2=>NT r2<|.need ((r2.comp 0) = .agg (r2.comp 0).cs/\(r2.comp 0).cs.length = 2/\hasL [.str,.sl] ((r2.comp 0).cs) 0)<|NB (r2.comp 1)<|.done 0 [.tup [.agg [.v (.string (((r2.comp 0).cs.getD 0 .any).toStr)),((r2.comp 0).cs.getD 1 .any)],.v (.bool ((r2.comp 1).toBool))]] []) (NG a0_1 1 2<|NE (a0_1.elems.getD (1:Int).toNat [])<|.call 105 [.agg [.v (.string (((a0_1.elems.getD (1:Int).toNat []).getD 0 .any).toStr)),((a0_1.elems.getD (1:Int).toNat []).getD 1 .any)],.v (.string a1)] [] fun r3 o3=>NT r3<|.need ((r3.comp 0) = .agg (r3.comp 0).cs/\(r3.comp 0).cs.length = 2/\hasL [.str,.sl] ((r3.comp 0).cs) 0)<|NB (r3.comp 1)<|NG a0_1 2 2<|NE (a0_1.elems.getD (2:Int).toNat [])<|.call 105 [.agg [.v (.string (((a0_1.elems.getD (2:Int).toNat []).getD 0 .any).toStr)),((a0_1.elems.getD (2:Int).toNat []).getD 1 .any)],.v (.string a1)] [] fun r4 o4=>NT r4<|.need ((r4.comp 0) = .agg (r4.comp 0).cs/\(r4.comp 0).cs.length = 2/\hasL [.str,.sl] ((r4.comp 0).cs) 0)<|NB (r4.comp 1)<|.call 74 [.v (.string (mk [43])),.sl [[.v (.string (((r3.comp 0).cs.getD 0 .any).toStr)),((r3.comp 0).cs.getD 1 .any)],[.v (.string (((r4.comp 0).cs.getD 0 .any).toStr)),((r4.comp 0).cs.getD 1 .any)]]] [] fun r5 o5=>NA r5<|.call 65 [.agg [.v (.string a0_0),a0_1]] [] fun r6 o6=>NS r6<|.test (ByteArray.toList r6.toStr==ByteArray.toList (mk [42])) (NG a0_1 2 2<|NE (a0_1.elems.getD (2:Int).toNat [])<|.call 74 [.v (.string (mk [42])),.sl [[.v (.string (((r3.comp 0).cs.getD 0 .any).toStr)),((r3.comp 0).cs.getD 1 .any)],[.v (.string (((a0_1.elems.getD (2:Int).toNat []).getD 0 .any).toStr)),((a0_1.elems.getD (2:Int).toNat []).getD 1 .any)]]] [] fun r7 o7=>NA r7<|NG a0_1 1 2<|NE (a0_1.elems.getD (1:Int).toNat [])<|.call 74 [.v (.string (mk [42])),.sl [[.v (.string (((a0_1.elems.getD (1:Int).toNat []).getD 0 .any).toStr)),((a0_1.elems.getD (1:Int).toNat []).getD 1 .any)],[.v (.string (((r4.comp 0).cs.getD 0 .any).toStr)),((r4.comp 0).cs.getD 1 .any)]]] [] fun r8 o8=>NA r8<|.call 74 [.v (.string (mk [43])),.sl [[.v (.string ((r7.cs.getD 0 .any).toStr)),(r7.cs.getD 1 .any)],[.v (.string ((r8.cs.getD 0 .any).toStr)),(r8.cs.getD 1 .any)]]] [] fun r9 o9=>NA r9<|.test ((r3.comp 1).toBool) (.test ((r4.comp 1).toBool) (.call 104 [.agg [.v (.string ((r9.cs.getD 0 .any).toStr)),(r9.cs.getD 1 .any)]] [] fun r10 o10=>NI r10<|.done 0 [.tup [.agg [.v (.string ((r9.cs.getD 0 .any).toStr)),(r9.cs.getD 1 .any)],.v (.bool (decide (r10.toInt<=(400:Int))))]] []) (.done 0 [.tup [.agg [.v (.string ((r9.cs.getD 0 .any).toStr)),(r9.cs.getD 1 .any)],.v (.bool false)]] [])) (.done 0 [.tup [.agg [.v (.string ((r9.cs.getD 0 .any).toStr)),(r9.cs.getD 1 .any)],.v (.bool false)]] [])) (.test ((r3.comp 1).toBool) (.test ((r4.comp 1).toBool) (.call 104 [.agg [.v (.string ((r5.cs.getD 0 .any).toStr)),(r5.cs.getD 1 .any)]] [] fun r11 o11=>NI r11<|.done 0 [.tup [.agg [.v (.string ((r5.cs.getD 0 .any).toStr)),(r5.cs.getD 1 .any)],.v (.bool (decide (r11.toInt<=(400:Int))))]] []) (.done 0 [.tup [.agg [.v (.string ((r5.cs.getD 0 .any).toStr)),(r5.cs.getD 1 .any)],.v (.bool false)]] [])) (.done 0 [.tup [.agg [.v (.string ((r5.cs.getD 0 .any).toStr)),(r5.cs.getD 1 .any)],.v (.bool false)]] []))))
theorem Fq2n (a0_0:ByteArray) (a0_1:AV) (a1:ByteArray) (ha0_1:LK.has .sl a0_1)  (h:wpT Tryz.prog 79 (tq1z a0_0 a0_1 a1) fun _ xs obs=>R (xs.headD .any) obs):FSpec Tryz.prog 105 [.agg [.v (.string a0_0),a0_1],.v (.string a1)] [] R :=
 uQ (up_cons (up_agg (up_cons (up_refl _) (up_cons (up_sl ha0_1) up_nil))) (up_cons (up_refl _) up_nil)) (oQ [] Tryz.f105 (by kernel_rfl) (by kernel_rfl) (by kernel_rfl) h)
def tq5q (a0_0:ByteArray) (a0_1:AV) (a1:ByteArray) (a2_0:ByteArray) (a2_1:AV):Tree :=
 .call 130 [.agg [.v (.string a0_0),a0_1],.v (.string a1),.agg [.v (.string a2_0),a2_1]] [] fun r1 o1=>NB r1<|.test (!r1.toBool) (.done 0 [.tup [.agg [.v (.string a0_0),a0_1],.v (.bool false)]] []) (.call 131 [.agg [.v (.string a0_0),a0_1],.v (.string a1),.agg [.v (.string a2_0),a2_1]] [] fun r2 o2=>NA r2<|.done 0 [.tup [.agg [.v (.string ((r2.cs.getD 0 .any).toStr)),(r2.cs.getD 1 .any)],.v (.bool true)]] [])
theorem Fqfm (a0_0:ByteArray) (a0_1:AV) (a1:ByteArray) (a2_0:ByteArray) (a2_1:AV) (ha0_1:LK.has .sl a0_1) (ha2_1:LK.has .sl a2_1)  (h:wpT Tryz.prog 18 (tq5q a0_0 a0_1 a1 a2_0 a2_1) fun _ xs obs=>R (xs.headD .any) obs):FSpec Tryz.prog 106 [.agg [.v (.string a0_0),a0_1],.v (.string a1),.agg [.v (.string a2_0),a2_1]] [] R :=
 uQ (up_cons (up_agg (up_cons (up_refl _) (up_cons (up_sl ha0_1) up_nil))) (up_cons (up_refl _) (up_cons (up_agg (up_cons (up_refl _) (up_cons (up_sl ha2_1) up_nil))) up_nil))) (oQ [] Tryz.f106 (by kernel_rfl) (by kernel_rfl) (by kernel_rfl) h)
def Lq3s:LI:={ hd:={ slots:=[(1,.k .sl),(6,.k (.int .i64))],refs:=[(2,2),(4,4)],objs:=[(2,[.lk .str,.lk .sl]),(4,[.lk .str,.lk .sl])],vecs:=[(5,1)] },xs:={ refs:=[(2,2),(4,4)],objs:=[(2,[.lk .str,.lk .sl]),(4,[.lk .str,.lk .sl])],vecs:=[(5,1)] },rt:={},ex:=0 }
def Cq9g:Code:=loopAt (bodyOf Tryz.f107) 3
def lq6a:List (Nat×LI):=[(3,Lq3s)]
def tqbt (a0_0:ByteArray) (a0_1:AV) (a1:AV):Tree :=
 .call 109 [.agg [.v (.string a0_0),a0_1],.sl [],.vec 0] [.vec 1 []] fun r1 o1=>.need (r1 = .vec 1/\(o1.tail.headD .dead) = .vec 1 (o1.tail.headD .dead).es)<|.loop Cq9g Lq3s [a1,.v (.int .i64 0)] [.cells [.v (.string a0_0),a0_1],.cells [.v (.string (mk [])),.v (.slice none 0 0)],.vec 1 ((o1.tail.headD .dead).es)] (fun y3 q3=>.need ((q3.headD .dead) = .cells (q3.headD .dead).cs)<|.need (hasK [.lk .str,.lk .sl] ((q3.headD .dead).cs) 0 q3.tail)<|.need (((q3.tail.drop 0).headD .dead) = .cells ((q3.tail.drop 0).headD .dead).cs)<|.need (hasK [.lk .str,.lk .sl] (((q3.tail.drop 0).headD .dead).cs) 0 ((q3.tail.drop 0).tail))<|.need (((q3.drop 2).headD .dead) = .vec 1 ((q3.drop 2).headD .dead).es)<|.call 132 [.agg [.v (.string (((q3.headD .dead).cs.getD 0 .any).toStr)),((q3.headD .dead).cs.getD 1 .any)],.sl [],.sl [],.ref 0 0] [.cells [.vec 1,.v (.int .i64 0)],.vec 1 ((q3.tail.tail.headD .dead).es)] fun r4 o4=>.need ((o4.headD .dead) = .cells (o4.headD .dead).cs)<|.need (hasC [.vec 1,.lk (.int .i64)] ((o4.headD .dead).cs) 0 1 o4.tail)<|NA r4<|.done 0 [.agg [.v (.string ((r4.cs.getD 0 .any).toStr)),(r4.cs.getD 1 .any)]] []) (fun y3 q3=>.fail)
theorem Fqg1 (a0_0:ByteArray) (a0_1:AV) (a1:AV) (ha0_1:LK.has .sl a0_1) (ha1:LK.has .sl a1)  (h:wpT Tryz.prog 33 (tqbt a0_0 a0_1 a1) fun _ xs obs=>R (xs.headD .any) obs):FSpec Tryz.prog 107 [.agg [.v (.string a0_0),a0_1],a1] [] R :=
 uQ (up_cons (up_agg (up_cons (up_refl _) (up_cons (up_sl ha0_1) up_nil))) (up_cons (up_sl ha1) up_nil)) (oQ lq6a Tryz.f107 (by kernel_rfl) (by kernel_rfl) (by kernel_rfl) h)
def rq3u (x1:AV) (x6:Int) (o2_0:ByteArray) (o2_1:AV) (o4_0:ByteArray) (o4_1:AV) (e5:List (List AV)):Tree :=
 NL x1<|NI (.v (.int .i64 x6))<|.need (Ob.cells [.v (.string o2_0),o2_1] = .cells [.v (.string o2_0),o2_1])<|.need (hasK [.lk .str,.lk .sl] [.v (.string o2_0),o2_1] 0 [.cells [.v (.string o4_0),o4_1],.vec 1 e5])<|.need (Ob.cells [.v (.string o4_0),o4_1] = .cells [.v (.string o4_0),o4_1])<|.need (hasK [.lk .str,.lk .sl] [.v (.string o4_0),o4_1] 0 [.vec 1 e5])<|.need (Ob.vec 1 e5 = .vec 1 e5)<|NL x1<|.test (decide (x6 < (x1.elems.length:Int))) (NG x1 x6 2<|NE (x1.elems.getD x6.toNat [])<|.call 109 [.agg [.v (.string (((x1.elems.getD x6.toNat []).getD 0 .any).toStr)),((x1.elems.getD x6.toNat []).getD 1 .any)],.sl [],.vec 0] [.vec 1 []] fun r1 o1=>.need (r1 = .vec 1/\(o1.tail.headD .dead) = .vec 1 (o1.tail.headD .dead).es)<|.need (allLen 1 ((o1.tail.headD .dead).es)/\((e5.length)+((o1.tail.headD .dead).es).length)*16<=140737488355328)<|.done 0 [x1,.v (.int .i64 (IntKind.wrap .i64 (x6+1)))] [.cells [.v (.string o2_0),o2_1],.cells [.v (.string o4_0),o4_1],.vec 1 (e5++((o1.tail.headD .dead).es))]) (.done 1 [] [.cells [.v (.string o2_0),o2_1],.cells [.v (.string o4_0),o4_1],.vec 1 e5])
abbrev Lq4a:=LSpec Tryz.prog 33 Cq9g Lq3s
theorem Gqaz (x1:AV) (x6:Int) (o2_0:ByteArray) (o2_1:AV) (o4_0:ByteArray) (o4_1:AV) (e5:List (List AV)) {R:RL} (h:wpT Tryz.prog 33 (rq3u x1 x6 o2_0 o2_1 o4_0 o4_1 e5) (Rnd (fun ys o=>Lq4a ys o R) R)):Lq4a [x1,.v (.int .i64 x6)] [.cells [.v (.string o2_0),o2_1],.cells [.v (.string o4_0),o4_1],.vec 1 e5] R :=
 LSpec.ofE (cfg:=cfg) (lis:=lq6a) tab_ok mixed (by kernel_rfl) h
def tq7q (a0:ByteArray):Tree :=
 .call 64 [.v (.string a0)] [] fun r1 o1=>NT r1<|.need ((r1.comp 0) = .agg (r1.comp 0).cs/\(r1.comp 0).cs.length = 2/\hasL [.str,.sl] ((r1.comp 0).cs) 0)<|NB (r1.comp 1)<|.done 0 [.v (.bool ((r1.comp 1).toBool))] []
theorem Fqdd (a0:ByteArray)   (h:wpT Tryz.prog 11 (tq7q a0) fun _ xs obs=>R (xs.headD .any) obs):FSpec Tryz.prog 108 [.v (.string a0)] [] R :=
 uQ (up_cons (up_refl _) up_nil) (oQ [] Tryz.f108 (by kernel_rfl) (by kernel_rfl) (by kernel_rfl) h)
def tq14 (a0_0:ByteArray) (a0_1:AV) (a1:AV) (e2:List (List AV)):Tree :=
 .test (!(ByteArray.toList a0_0==ByteArray.toList (mk []))) (.test (ByteArray.toList a0_0==ByteArray.toList (mk [48])) (.done 0 [.vec 1] [.dead,.vec 1 e2]) (.test (ByteArray.toList a0_0==ByteArray.toList (mk [49])) (.done 0 [.vec 1] [.dead,.vec 1 e2]) (.call 133 [a1,.v (.string a0_0)] [] fun r1 o1=>NB r1<|.test r1.toBool (.done 0 [.vec 1] [.dead,.vec 1 e2]) (.call 133 [.sl e2,.v (.string a0_0)] [] fun r2 o2=>NB r2<|.test r2.toBool (.done 0 [.vec 1] [.dead,.vec 1 e2]) (.need (allLen 1 [[.v (.string a0_0)]]/\((e2.length)+([[.v (.string a0_0)]]:List (List AV)).length)*16<=140737488355328)<|.done 0 [.vec 1] [.dead,.vec 1 (e2++([[.v (.string a0_0)]]:List (List AV)))]))))) (.call 65 [.agg [.v (.string a0_0),a0_1]] [] fun r3 o3=>NS r3<|.test (ByteArray.toList r3.toStr==ByteArray.toList (mk [114,101,99])) (NG a0_1 2 2<|NE (a0_1.elems.getD (2:Int).toNat [])<|NG a0_1 1 2<|NSh (a0_1.elems.getD (1:Int).toNat [])<|.call 134 [a1,.v (.string (((a0_1.elems.getD (1:Int).toNat []).headD .any).toStr))] [] fun r4 o4=>NL r4<|.call 109 [.agg [.v (.string (((a0_1.elems.getD (2:Int).toNat []).getD 0 .any).toStr)),((a0_1.elems.getD (2:Int).toNat []).getD 1 .any)],r4,.vec 0] [.vec 1 e2] fun r5 o5=>.need (r5 = .vec 1/\(o5.tail.headD .dead) = .vec 1 (o5.tail.headD .dead).es)<|.done 0 [.vec 1] [.dead,.vec 1 ((o5.tail.headD .dead).es)]) (NG a0_1 2 2<|NE (a0_1.elems.getD (2:Int).toNat [])<|NG a0_1 1 2<|NE (a0_1.elems.getD (1:Int).toNat [])<|.call 109 [.agg [.v (.string (((a0_1.elems.getD (1:Int).toNat []).getD 0 .any).toStr)),((a0_1.elems.getD (1:Int).toNat []).getD 1 .any)],a1,.vec 0] [.vec 1 e2] fun r6 o6=>.need (r6 = .vec 1/\(o6.tail.headD .dead) = .vec 1 (o6.tail.headD .dead).es)<|.call 109 [.agg [.v (.string (((a0_1.elems.getD (2:Int).toNat []).getD 0 .any).toStr)),((a0_1.elems.getD (2:Int).toNat []).getD 1 .any)],a1,.vec 0] [.vec 1 ((o6.tail.headD .dead).es)] fun r7 o7=>.need (r7 = .vec 1/\(o7.tail.headD .dead) = .vec 1 (o7.tail.headD .dead).es)<|.done 0 [.vec 1] [.dead,.vec 1 ((o7.tail.headD .dead).es)]))
theorem Fq17 (a0_0:ByteArray) (a0_1:AV) (a1:AV) (e2:List (List AV)) (ha0_1:LK.has .sl a0_1) (ha1:LK.has .sl a1)  (h:wpT Tryz.prog 65 (tq14 a0_0 a0_1 a1 e2) fun _ xs obs=>R (xs.headD .any) obs):FSpec Tryz.prog 109 [.agg [.v (.string a0_0),a0_1],a1,.vec 0] [.vec 1 e2] R :=
 FSpec.upo (upos_cons (upo_refl _) upos_nil) (FSpec.up (up_cons (up_agg (up_cons (up_refl _) (up_cons (up_sl ha0_1) up_nil))) (up_cons (up_sl ha1) (up_cons (up_refl _) up_nil))) (FSpec.ofE (cfg:=cfg) (lis:=[]) (fc:={ mu:=[(2,.one (.vec))],own:=[0] }) tab_ok mixed (F:=Tryz.f109) (by kernel_rfl) (by kernel_rfl) (by kernel_rfl) h))
def tq6c (a0:ByteArray):Tree :=
 .call 135 [.v (.string a0),.v (.int .u8 116),.v (.int .u8 116)] [] fun r1 o1=>NB r1<|.done 0 [.v (.bool r1.toBool)] []
theorem Fqeq (a0:ByteArray)   (h:wpT Tryz.prog 5 (tq6c a0) fun _ xs obs=>R (xs.headD .any) obs):FSpec Tryz.prog 110 [.v (.string a0)] [] R :=
 uQ (up_cons (up_refl _) up_nil) (oQ [] Tryz.f110 (by kernel_rfl) (by kernel_rfl) (by kernel_rfl) h)
def Lq50:LI:={ hd:={ slots:=[(1,.k .sl),(6,.k (.int .i64))],refs:=[(2,2),(4,4)],objs:=[(2,[.lk .str,.lk .sl]),(4,[.lk .str,.lk .sl])] },xs:={ slots:=[(1,.k .sl)],refs:=[(2,2),(4,4)],objs:=[(2,[.lk .str,.lk .sl]),(4,[.lk .str,.lk .sl])] },rt:={ slots:=[(5,.k .sl)],refs:=[(4,4)],objs:=[(4,[.lk .str,.lk .sl])] },ex:=0 }
def Cq9o:Code:=loopAt (bodyOf Tryz.f111) 2
def lq90:List (Nat×LI):=[(2,Lq50)]
def tq8h (a0_0:ByteArray) (a0_1:AV) (a1:AV):Tree :=
 NL a1<|.loop Cq9o Lq50 [a1,.v (.int .i64 (IntKind.wrap .i64 ((a1.elems.length:Int) - 1)))] [.cells [.v (.string a0_0),a0_1],.cells [.v (.string (mk [])),.v (.slice none 0 0)]] (fun y1 q1=>NL (y1.headD .any)<|.need ((q1.headD .dead) = .cells (q1.headD .dead).cs)<|.need (hasK [.lk .str,.lk .sl] ((q1.headD .dead).cs) 0 q1.tail)<|.need (((q1.tail.drop 0).headD .dead) = .cells ((q1.tail.drop 0).headD .dead).cs)<|.need (hasK [.lk .str,.lk .sl] (((q1.tail.drop 0).headD .dead).cs) 0 ((q1.tail.drop 0).tail))<|.done 0 [.tup [.agg [.v (.string (((q1.headD .dead).cs.getD 0 .any).toStr)),((q1.headD .dead).cs.getD 1 .any)],(y1.headD .any)]] []) (fun y1 q1=>NL (y1.headD .any)<|.need ((q1.headD .dead) = .cells (q1.headD .dead).cs)<|.need (hasK [.lk .str,.lk .sl] ((q1.headD .dead).cs) 0 q1.tail)<|.done 0 [.tup [.agg [.v (.string (((q1.headD .dead).cs.getD 0 .any).toStr)),((q1.headD .dead).cs.getD 1 .any)],(y1.headD .any)]] [])
theorem Fqfp (a0_0:ByteArray) (a0_1:AV) (a1:AV) (ha0_1:LK.has .sl a0_1) (ha1:LK.has .sl a1)  (h:wpT Tryz.prog 34 (tq8h a0_0 a0_1 a1) fun _ xs obs=>R (xs.headD .any) obs):FSpec Tryz.prog 111 [.agg [.v (.string a0_0),a0_1],a1] [] R :=
 uQ (up_cons (up_agg (up_cons (up_refl _) (up_cons (up_sl ha0_1) up_nil))) (up_cons (up_sl ha1) up_nil)) (oQ lq90 Tryz.f111 (by kernel_rfl) (by kernel_rfl) (by kernel_rfl) h)
def rq5b (x1:AV) (x6:Int) (o2_0:ByteArray) (o2_1:AV) (o4_0:ByteArray) (o4_1:AV):Tree :=
 NL x1<|NI (.v (.int .i64 x6))<|.need (Ob.cells [.v (.string o2_0),o2_1] = .cells [.v (.string o2_0),o2_1])<|.need (hasK [.lk .str,.lk .sl] [.v (.string o2_0),o2_1] 0 [.cells [.v (.string o4_0),o4_1]])<|.need (Ob.cells [.v (.string o4_0),o4_1] = .cells [.v (.string o4_0),o4_1])<|.need (hasK [.lk .str,.lk .sl] [.v (.string o4_0),o4_1] 0 [])<|.test (decide (x6 ≥ (0:Int))) (NG x1 x6 4<|NSh (x1.elems.getD x6.toNat [])<|.test (ByteArray.toList (((x1.elems.getD x6.toNat []).headD .any).toStr)==ByteArray.toList o2_0) (NG x1 x6 4<|NE ((x1.elems.getD x6.toNat []).drop 1)<|NG x1 x6 4<|NLh ((x1.elems.getD x6.toNat []).drop 3)<|.done 2 [(((x1.elems.getD x6.toNat []).drop 3).headD .any)] [.cells [.v (.string ((((x1.elems.getD x6.toNat []).drop 1).getD 0 .any).toStr)),(((x1.elems.getD x6.toNat []).drop 1).getD 1 .any)]]) (.done 0 [x1,.v (.int .i64 (IntKind.wrap .i64 (x6 - 1)))] [.cells [.v (.string o2_0),o2_1],.cells [.v (.string o4_0),o4_1]])) (.done 1 [x1] [.cells [.v (.string o2_0),o2_1],.cells [.v (.string o4_0),o4_1]])
abbrev Lq2s:=LSpec Tryz.prog 34 Cq9o Lq50
theorem Gq70 (x1:AV) (x6:Int) (o2_0:ByteArray) (o2_1:AV) (o4_0:ByteArray) (o4_1:AV) {R:RL} (h:wpT Tryz.prog 34 (rq5b x1 x6 o2_0 o2_1 o4_0 o4_1) (Rnd (fun ys o=>Lq2s ys o R) R)):Lq2s [x1,.v (.int .i64 x6)] [.cells [.v (.string o2_0),o2_1],.cells [.v (.string o4_0),o4_1]] R :=
 LSpec.ofE (cfg:=cfg) (lis:=lq90) tab_ok mixed (by kernel_rfl) h
def tq9p (a0:ByteArray):Tree :=
 .call 135 [.v (.string a0),.v (.int .u8 120),.v (.int .u8 122)] [] fun r1 o1=>NB r1<|.done 0 [.v (.bool r1.toBool)] []
theorem Fqcw (a0:ByteArray)   (h:wpT Tryz.prog 5 (tq9p a0) fun _ xs obs=>R (xs.headD .any) obs):FSpec Tryz.prog 112 [.v (.string a0)] [] R :=
 uQ (up_cons (up_refl _) up_nil) (oQ [] Tryz.f112 (by kernel_rfl) (by kernel_rfl) (by kernel_rfl) h)
def Lq20:LI:={ hd:={ slots:=[(0,.k .str),(3,.k (.int .i64)),(4,.k (.int .i64))] },xs:={ slots:=[(3,.k (.int .i64))] },rt:={ slots:=[(2,.k (.int .i64))] },ex:=0 }
def Cq27:Code:=loopAt (bodyOf Tryz.f113) 5
def lq63:List (Nat×LI):=[(5,Lq20)]
def tqbi (a0:ByteArray):Tree :=
 .call 69 [.v (.int .i64 (ByteArray.size a0:Int)),.v (.int .i64 2),.v (.int .i64 3)] [] fun r1 o1=>NB r1<|.test (!r1.toBool) (.done 0 [.v (.int .i64 (-1))] []) (.need (0<=(0:Int)/\(0:Int) < ByteArray.size a0)<|.test ((bt a0 0) != (101:Int)) (.done 0 [.v (.int .i64 (-1))] []) (.test ((ByteArray.size a0:Int)==(3:Int)) (.need (0<=(1:Int)/\(1:Int) < ByteArray.size a0)<|.test ((bt a0 1)==(48:Int)) (.done 0 [.v (.int .i64 (-1))] []) (.loop Cq27 Lq20 [.v (.string a0),.v (.int .i64 0),.v (.int .i64 1)] [] (fun y2 q2=>NI (y2.headD .any)<|.done 0 [.v (.int .i64 ((y2.headD .any).toInt))] []) (fun y2 q2=>NI (y2.headD .any)<|.done 0 [.v (.int .i64 ((y2.headD .any).toInt))] []))) (.loop Cq27 Lq20 [.v (.string a0),.v (.int .i64 0),.v (.int .i64 1)] [] (fun y3 q3=>NI (y3.headD .any)<|.done 0 [.v (.int .i64 ((y3.headD .any).toInt))] []) (fun y3 q3=>NI (y3.headD .any)<|.done 0 [.v (.int .i64 ((y3.headD .any).toInt))] []))))
theorem Fqcx (a0:ByteArray)   (h:wpT Tryz.prog 49 (tqbi a0) fun _ xs obs=>R (xs.headD .any) obs):FSpec Tryz.prog 113 [.v (.string a0)] [] R :=
 uQ (up_cons (up_refl _) up_nil) (oQ lq63 Tryz.f113 (by kernel_rfl) (by kernel_rfl) (by kernel_rfl) h)
def rq38 (x0:ByteArray) (x3:Int) (x4:Int):Tree :=
 NS (.v (.string x0))<|NI (.v (.int .i64 x3))<|NI (.v (.int .i64 x4))<|.test (decide (x4 < (ByteArray.size x0:Int))) (.need (0<=x4/\x4 < ByteArray.size x0)<|.test (decide ((bt x0 x4) < (48:Int))) (.done 2 [.v (.int .i64 (-1))] []) (.need (0<=x4/\x4 < ByteArray.size x0)<|.test (decide ((bt x0 x4) > (57:Int))) (.done 2 [.v (.int .i64 (-1))] []) (.need (0<=x4/\x4 < ByteArray.size x0)<|.done 0 [.v (.string x0),.v (.int .i64 (IntKind.wrap .i64 ((IntKind.wrap .i64 (10*x3))+(IntKind.wrap .i64 (IntKind.wrap .u8 ((bt x0 x4) - 48)))))),.v (.int .i64 (IntKind.wrap .i64 (x4+1)))] []))) (.done 1 [.v (.int .i64 x3)] [])
abbrev Lq2r:=LSpec Tryz.prog 49 Cq27 Lq20
theorem Gqb3 (x0:ByteArray) (x3:Int) (x4:Int) {R:RL} (h:wpT Tryz.prog 49 (rq38 x0 x3 x4) (Rnd (fun ys o=>Lq2r ys o R) R)):Lq2r [.v (.string x0),.v (.int .i64 x3),.v (.int .i64 x4)] [] R :=
 LSpec.ofE (cfg:=cfg) (lis:=lq63) tab_ok mixed (by kernel_rfl) h
def tq81 (a0_0:ByteArray) (a0_1:AV) (a1:AV):Tree :=
 NG a0_1 2 2<|NE (a0_1.elems.getD (2:Int).toNat [])<|.need (LK.has .sl a1/\allLen 4 a1.elems/\((([]:List (List AV)).length)+a1.elems.length)*80<=140737488355328)<|NG a0_1 1 2<|NSh (a0_1.elems.getD (1:Int).toNat [])<|.need (allLen 4 [[.v (.string (((a0_1.elems.getD (1:Int).toNat []).headD .any).toStr)),.v (.string a0_0),a0_1,a1]]/\(((([]:List (List AV))++a1.elems).length)+([[.v (.string (((a0_1.elems.getD (1:Int).toNat []).headD .any).toStr)),.v (.string a0_0),a0_1,a1]]:List (List AV)).length)*80<=140737488355328)<|.done 0 [.tup [.agg [.v (.string (((a0_1.elems.getD (2:Int).toNat []).getD 0 .any).toStr)),((a0_1.elems.getD (2:Int).toNat []).getD 1 .any)],.sl ((([]:List (List AV))++a1.elems)++([[.v (.string (((a0_1.elems.getD (1:Int).toNat []).headD .any).toStr)),.v (.string a0_0),a0_1,a1]]:List (List AV)))]] []
theorem Fqf2 (a0_0:ByteArray) (a0_1:AV) (a1:AV) (ha0_1:LK.has .sl a0_1) (ha1:LK.has .sl a1)  (h:wpT Tryz.prog 23 (tq81 a0_0 a0_1 a1) fun _ xs obs=>R (xs.headD .any) obs):FSpec Tryz.prog 114 [.agg [.v (.string a0_0),a0_1],a1] [] R :=
 uQ (up_cons (up_agg (up_cons (up_refl _) (up_cons (up_sl ha0_1) up_nil))) (up_cons (up_sl ha1) up_nil)) (oQ [] Tryz.f114 (by kernel_rfl) (by kernel_rfl) (by kernel_rfl) h)
def Lq3t:LI:={ hd:={ slots:=[(0,.k .str),(1,.k (.int .i64)),(9,.k (.int .i64))],refs:=[(6,6),(8,8)],objs:=[(6,[.lk .str,.lk .sl]),(8,[.lk .str,.lk .sl])] },xs:={ slots:=[(0,.k .str),(1,.k (.int .i64)),(9,.k (.int .i64))],refs:=[(6,6),(8,8)],objs:=[(6,[.lk .str,.lk .sl]),(8,[.lk .str,.lk .sl])] },rt:={},ex:=0 }
def Cq91:Code:=loopAt (bodyOf Tryz.f115) 6
def Lq4f:LI:={ hd:={ slots:=[(0,.k .str),(1,.k (.int .i64)),(2,.k (.int .i64))],refs:=[(6,6),(8,8)],objs:=[(6,[.lk .str,.lk .sl]),(8,[.lk .str,.vec 2])] },xs:={},rt:={ slots:=[(7,.k (.int .i64))],refs:=[(6,6)],objs:=[(6,[.lk .str,.vec 2])] },ex:=999 }
def Cqbq:Code:=loopAt (bodyOf Tryz.f115) 12
def lq2u:List (Nat×LI):=[(6,Lq3t),(12,Lq4f)]
def tq34 (a0:ByteArray) (a1:Int) (a2:Int):Tree :=
 .test (decide (a2 > (300:Int))) (.done 0 [.tup [.agg [.v (.string (mk [])),.v (.slice none 0 0)],.v (.int .i64 (-1))]] []) (.test (decide (a1 ≥ (ByteArray.size a0:Int))) (.done 0 [.tup [.agg [.v (.string (mk [])),.v (.slice none 0 0)],.v (.int .i64 (-1))]] []) (.need (0<=a1/\a1 < ByteArray.size a0)<|.test ((bt a0 a1) != (40:Int)) (.loop Cq91 Lq3t [.v (.string a0),.v (.int .i64 a1),.v (.int .i64 a1)] [.cells [.v (.string (mk [])),.v (.slice none 0 0)],.cells [.v (.string (mk [])),.v (.slice none 0 0)]] (fun y2 q2=>NS (y2.headD .any)<|NI (y2.tail.headD .any)<|NI (y2.tail.tail.headD .any)<|.need ((q2.headD .dead) = .cells (q2.headD .dead).cs)<|.need (hasK [.lk .str,.lk .sl] ((q2.headD .dead).cs) 0 q2.tail)<|.need (((q2.tail.drop 0).headD .dead) = .cells ((q2.tail.drop 0).headD .dead).cs)<|.need (hasK [.lk .str,.lk .sl] (((q2.tail.drop 0).headD .dead).cs) 0 ((q2.tail.drop 0).tail))<|.need (0<=((y2.tail.tail.headD .any).toInt)/\((y2.tail.tail.headD .any).toInt)<=((y2.tail.headD .any).toInt)/\((y2.tail.headD .any).toInt)<=(ByteArray.size ((y2.headD .any).toStr):Int))<|.test (ByteArray.toList (ByteArray.extract ((y2.headD .any).toStr) (Int.toNat ((y2.tail.tail.headD .any).toInt)) (Int.toNat ((y2.tail.headD .any).toInt)))==ByteArray.toList (mk [])) (.done 0 [.tup [.agg [.v (.string (ByteArray.extract ((y2.headD .any).toStr) (Int.toNat ((y2.tail.tail.headD .any).toInt)) (Int.toNat ((y2.tail.headD .any).toInt)))),((q2.tail.headD .dead).cs.getD 1 .any)],.v (.int .i64 (-1))]] []) (.done 0 [.tup [.agg [.v (.string (ByteArray.extract ((y2.headD .any).toStr) (Int.toNat ((y2.tail.tail.headD .any).toInt)) (Int.toNat ((y2.tail.headD .any).toInt)))),((q2.tail.headD .dead).cs.getD 1 .any)],.v (.int .i64 ((y2.tail.headD .any).toInt))]] [])) (fun y2 q2=>.fail)) (.loop Cqbq Lq4f [.v (.string a0),.v (.int .i64 a1),.v (.int .i64 a2)] [.cells [.v (.string (mk [])),.v (.slice none 0 0)],.cells [.v (.string (mk [])),.any],.vec 2 []] (fun y5 q5=>.fail) (fun y5 q5=>NI (y5.headD .any)<|.need ((q5.headD .dead) = .cells (q5.headD .dead).cs)<|.need (hasK [.lk .str,.vec 2] ((q5.headD .dead).cs) 0 q5.tail)<|.done 0 [.tup [.agg [.v (.string (((q5.headD .dead).cs.getD 0 .any).toStr)),.sl ((q5.tail.headD .dead).es)],.v (.int .i64 ((y5.headD .any).toInt))]] []))))
theorem Fqck (a0:ByteArray) (a1:Int) (a2:Int)   (h:wpT Tryz.prog 87 (tq34 a0 a1 a2) fun _ xs obs=>R (xs.headD .any) obs):FSpec Tryz.prog 115 [.v (.string a0),.v (.int .i64 a1),.v (.int .i64 a2)] [] R :=
 uQ (up_cons (up_refl _) (up_cons (up_refl _) (up_cons (up_refl _) up_nil))) (oQ lq2u Tryz.f115 (by kernel_rfl) (by kernel_rfl) (by kernel_rfl) h)
def rq4o (x0:ByteArray) (x1:Int) (x9:Int) (o6_0:ByteArray) (o6_1:AV) (o8_0:ByteArray) (o8_1:AV):Tree :=
 NS (.v (.string x0))<|NI (.v (.int .i64 x1))<|NI (.v (.int .i64 x9))<|.need (Ob.cells [.v (.string o6_0),o6_1] = .cells [.v (.string o6_0),o6_1])<|.need (hasK [.lk .str,.lk .sl] [.v (.string o6_0),o6_1] 0 [.cells [.v (.string o8_0),o8_1]])<|.need (Ob.cells [.v (.string o8_0),o8_1] = .cells [.v (.string o8_0),o8_1])<|.need (hasK [.lk .str,.lk .sl] [.v (.string o8_0),o8_1] 0 [])<|.test (decide (x1 < (ByteArray.size x0:Int))) (.need (0<=x1/\x1 < ByteArray.size x0)<|.call 136 [.v (.int .u8 (bt x0 x1))] [] fun r1 o1=>NB r1<|.test r1.toBool (.done 0 [.v (.string x0),.v (.int .i64 (IntKind.wrap .i64 (x1+1))),.v (.int .i64 x9)] [.cells [.v (.string o6_0),o6_1],.cells [.v (.string o8_0),o8_1]]) (.done 1 [.v (.string x0),.v (.int .i64 x1),.v (.int .i64 x9)] [.cells [.v (.string o6_0),o6_1],.cells [.v (.string o8_0),o8_1]])) (.done 1 [.v (.string x0),.v (.int .i64 x1),.v (.int .i64 x9)] [.cells [.v (.string o6_0),o6_1],.cells [.v (.string o8_0),o8_1]])
abbrev Lq47:=LSpec Tryz.prog 87 Cq91 Lq3t
theorem Gqa4 (x0:ByteArray) (x1:Int) (x9:Int) (o6_0:ByteArray) (o6_1:AV) (o8_0:ByteArray) (o8_1:AV) {R:RL} (h:wpT Tryz.prog 87 (rq4o x0 x1 x9 o6_0 o6_1 o8_0 o8_1) (Rnd (fun ys o=>Lq47 ys o R) R)):Lq47 [.v (.string x0),.v (.int .i64 x1),.v (.int .i64 x9)] [.cells [.v (.string o6_0),o6_1],.cells [.v (.string o8_0),o8_1]] R :=
 LSpec.ofE (cfg:=cfg) (lis:=lq2u) tab_ok mixed (by kernel_rfl) h
def rq88 (x0:ByteArray) (x1:Int) (x2:Int) (o6_0:ByteArray) (o6_1:AV) (o8_0:ByteArray) (o8_1:List (List AV)):Tree :=
 NS (.v (.string x0))<|NI (.v (.int .i64 x1))<|NI (.v (.int .i64 x2))<|.need (Ob.cells [.v (.string o6_0),o6_1] = .cells [.v (.string o6_0),o6_1])<|.need (hasK [.lk .str,.lk .sl] [.v (.string o6_0),o6_1] 0 [.cells [.v (.string o8_0),.any],.vec 2 o8_1])<|.need (Ob.cells [.v (.string o8_0),.any] = .cells [.v (.string o8_0),.any])<|.need (hasK [.lk .str,.vec 2] [.v (.string o8_0),.any] 0 [.vec 2 o8_1])<|.call 115 [.v (.string x0),.v (.int .i64 (IntKind.wrap .i64 (x1+1))),.v (.int .i64 (IntKind.wrap .i64 (x2+1)))] [] fun r1 o1=>NT r1<|.need ((r1.comp 0) = .agg (r1.comp 0).cs/\(r1.comp 0).cs.length = 2/\hasL [.str,.sl] ((r1.comp 0).cs) 0)<|NI (r1.comp 1)<|.test (decide (((r1.comp 1).toInt) < (0:Int))) (.done 2 [.v (.int .i64 (-1))] [.cells [.v (.string o8_0),.any],.vec 2 o8_1]) (.test (decide (((r1.comp 1).toInt) ≥ (ByteArray.size x0:Int))) (.done 2 [.v (.int .i64 (-1))] [.cells [.v (.string o8_0),.any],.vec 2 o8_1]) (.need (allLen 2 [[.v (.string (((r1.comp 0).cs.getD 0 .any).toStr)),((r1.comp 0).cs.getD 1 .any)]]/\((o8_1.length)+([[.v (.string (((r1.comp 0).cs.getD 0 .any).toStr)),((r1.comp 0).cs.getD 1 .any)]]:List (List AV)).length)*40<=140737488355328)<|.need (0<=((r1.comp 1).toInt)/\((r1.comp 1).toInt) < ByteArray.size x0)<|.test ((bt x0 ((r1.comp 1).toInt))==(41:Int)) (.done 2 [.v (.int .i64 (IntKind.wrap .i64 (((r1.comp 1).toInt)+1)))] [.cells [.v (.string o8_0),.any],.vec 2 (o8_1++([[.v (.string (((r1.comp 0).cs.getD 0 .any).toStr)),((r1.comp 0).cs.getD 1 .any)]]:List (List AV)))]) (.need (0<=((r1.comp 1).toInt)/\((r1.comp 1).toInt) < ByteArray.size x0)<|.test ((bt x0 ((r1.comp 1).toInt)) != (32:Int)) (.done 2 [.v (.int .i64 (-1))] [.cells [.v (.string o8_0),.any],.vec 2 (o8_1++([[.v (.string (((r1.comp 0).cs.getD 0 .any).toStr)),((r1.comp 0).cs.getD 1 .any)]]:List (List AV)))]) (.done 0 [.v (.string x0),.v (.int .i64 ((r1.comp 1).toInt)),.v (.int .i64 x2)] [.cells [.v (.string o6_0),o6_1],.cells [.v (.string o8_0),.any],.vec 2 (o8_1++([[.v (.string (((r1.comp 0).cs.getD 0 .any).toStr)),((r1.comp 0).cs.getD 1 .any)]]:List (List AV)))]))))
abbrev Lq3v:=LSpec Tryz.prog 87 Cqbq Lq4f
theorem Gqfx (x0:ByteArray) (x1:Int) (x2:Int) (o6_0:ByteArray) (o6_1:AV) (o8_0:ByteArray) (o8_1:List (List AV)) {R:RL} (h:wpT Tryz.prog 87 (rq88 x0 x1 x2 o6_0 o6_1 o8_0 o8_1) (Rnd (fun ys o=>Lq3v ys o R) R)):Lq3v [.v (.string x0),.v (.int .i64 x1),.v (.int .i64 x2)] [.cells [.v (.string o6_0),o6_1],.cells [.v (.string o8_0),.any],.vec 2 o8_1] R :=
 LSpec.ofE (cfg:=cfg) (lis:=lq2u) tab_ok mixed (by kernel_rfl) h
def Lq30:LI:={ hd:={ slots:=[(0,.k .str),(1,.k (.int .i64)),(6,.k (.int .i64))] },xs:={ slots:=[(0,.k .str),(1,.k (.int .i64)),(6,.k (.int .i64))] },rt:={},ex:=0 }
def Cq8l:Code:=loopAt (bodyOf Tryz.f116) 2
def Lq43:LI:={ hd:={ slots:=[(0,.k .str),(1,.k (.int .i64)),(7,.k .str)],refs:=[(8,48)],objs:=[(48,[.lk .str,.vec 1])] },xs:={},rt:={ slots:=[(4,.k .ptr),(5,.k .str)] },ex:=999 }
def Cq69:Code:=loopAt (bodyOf Tryz.f116) 10
def lq42:List (Nat×LI):=[(2,Lq30),(10,Lq43)]
def tq4j (a0:ByteArray) (a1:Int):Tree :=
 .loop Cq8l Lq30 [.v (.string a0),.v (.int .i64 a1),.v (.int .i64 0)] [] (fun y2 q2=>NS (y2.headD .any)<|NI (y2.tail.headD .any)<|NI (y2.tail.tail.headD .any)<|.test (decide (((y2.tail.tail.headD .any).toInt) > (0:Int))) (.need (0<=(0:Int)/\(0:Int)<=((y2.tail.tail.headD .any).toInt)/\((y2.tail.tail.headD .any).toInt)<=(ByteArray.size ((y2.headD .any).toStr):Int))<|.need (0<=((y2.tail.tail.headD .any).toInt)/\((y2.tail.tail.headD .any).toInt)<=(ByteArray.size ((y2.headD .any).toStr):Int)/\(ByteArray.size ((y2.headD .any).toStr):Int)<=(ByteArray.size ((y2.headD .any).toStr):Int))<|.done 0 [.tup [.ptr [.v (.string (ByteArray.extract ((y2.headD .any).toStr) (Int.toNat 0) (Int.toNat ((y2.tail.tail.headD .any).toInt)))),.v (.slice none 0 0)],.v (.string (ByteArray.extract ((y2.headD .any).toStr) (Int.toNat ((y2.tail.tail.headD .any).toInt)) (Int.toNat (ByteArray.size ((y2.headD .any).toStr):Int))))]] []) (.test (ByteArray.toList ((y2.headD .any).toStr)==ByteArray.toList (mk [])) (.done 0 [.tup [.v (.pointer none),.v (.string ((y2.headD .any).toStr))]] []) (.need (0<=(0:Int)/\(0:Int) < ByteArray.size ((y2.headD .any).toStr))<|.test ((bt ((y2.headD .any).toStr) 0) != (40:Int)) (.done 0 [.tup [.v (.pointer none),.v (.string ((y2.headD .any).toStr))]] []) (.test (((y2.tail.headD .any).toInt)==(300:Int)) (.done 0 [.tup [.v (.pointer none),.v (.string ((y2.headD .any).toStr))]] []) (.need (0<=(1:Int)/\(1:Int)<=(ByteArray.size ((y2.headD .any).toStr):Int)/\(ByteArray.size ((y2.headD .any).toStr):Int)<=(ByteArray.size ((y2.headD .any).toStr):Int))<|.loop Cq69 Lq43 [.v (.string ((y2.headD .any).toStr)),.v (.int .i64 ((y2.tail.headD .any).toInt)),.v (.string (ByteArray.extract ((y2.headD .any).toStr) (Int.toNat 1) (Int.toNat (ByteArray.size ((y2.headD .any).toStr):Int))))] [.cells [.v (.string (mk [])),.any],.vec 1 []] (fun y5 q5=>.fail) (fun y5 q5=>NP (y5.headD .any)<|NS (y5.tail.headD .any)<|.done 0 [.tup [(y5.headD .any),.v (.string ((y5.tail.headD .any).toStr))]] [])))))) (fun y2 q2=>.done 0 [.tup [.any,.any]] [])
theorem Fq9q (a0:ByteArray) (a1:Int)   (h:wpT Tryz.prog 84 (tq4j a0 a1) fun _ xs obs=>R (xs.headD .any) obs):FSpec Tryz.prog 116 [.v (.string a0),.v (.int .i64 a1)] [] R :=
 uQ (up_cons (up_refl _) (up_cons (up_refl _) up_nil)) (oQ lq42 Tryz.f116 (by kernel_rfl) (by kernel_rfl) (by kernel_rfl) h)
def rq5e (x0:ByteArray) (x1:Int) (x6:Int):Tree :=
 NS (.v (.string x0))<|NI (.v (.int .i64 x1))<|NI (.v (.int .i64 x6))<|.test (decide (x6 < (ByteArray.size x0:Int))) (.need (0<=x6/\x6 < ByteArray.size x0)<|.call 137 [.v (.int .u8 (bt x0 x6))] [] fun r1 o1=>NB r1<|.test r1.toBool (.done 0 [.v (.string x0),.v (.int .i64 x1),.v (.int .i64 (IntKind.wrap .i64 (x6+1)))] []) (.done 1 [.v (.string x0),.v (.int .i64 x1),.v (.int .i64 x6)] [])) (.done 1 [.v (.string x0),.v (.int .i64 x1),.v (.int .i64 x6)] [])
abbrev Lq36:=LSpec Tryz.prog 84 Cq8l Lq30
theorem Gq77 (x0:ByteArray) (x1:Int) (x6:Int) {R:RL} (h:wpT Tryz.prog 84 (rq5e x0 x1 x6) (Rnd (fun ys o=>Lq36 ys o R) R)):Lq36 [.v (.string x0),.v (.int .i64 x1),.v (.int .i64 x6)] [] R :=
 LSpec.ofE (cfg:=cfg) (lis:=lq42) tab_ok mixed (by kernel_rfl) h
def rq93 (x0:ByteArray) (x1:Int) (x7:ByteArray) (o48_0:ByteArray) (o48_1:List (List AV)):Tree :=
 NS (.v (.string x0))<|NI (.v (.int .i64 x1))<|NS (.v (.string x7))<|.need (Ob.cells [.v (.string o48_0),.any] = .cells [.v (.string o48_0),.any])<|.need (hasK [.lk .str,.vec 1] [.v (.string o48_0),.any] 0 [.vec 1 o48_1])<|.call 116 [.v (.string x7),.v (.int .i64 (IntKind.wrap .i64 (x1+1)))] [] fun r1 o1=>NT r1<|NP (r1.comp 0)<|NS (r1.comp 1)<|NP (r1.comp 0)<|.test ((r1.comp 0).isNil) (.done 2 [.v (.pointer none),.v (.string x0)] []) (.test (ByteArray.toList ((r1.comp 1).toStr)==ByteArray.toList (mk [])) (.done 2 [.v (.pointer none),.v (.string x0)] []) (.need (allLen 1 [[(r1.comp 0)]]/\((o48_1.length)+([[(r1.comp 0)]]:List (List AV)).length)*8<=140737488355328)<|.need (0<=(1:Int)/\(1:Int)<=(ByteArray.size ((r1.comp 1).toStr):Int)/\(ByteArray.size ((r1.comp 1).toStr):Int)<=(ByteArray.size ((r1.comp 1).toStr):Int))<|.need (0<=(0:Int)/\(0:Int) < ByteArray.size ((r1.comp 1).toStr))<|.test ((bt ((r1.comp 1).toStr) 0)==(41:Int)) (.done 2 [.ptr [.v (.string o48_0),.sl (o48_1++([[(r1.comp 0)]]:List (List AV)))],.v (.string (ByteArray.extract ((r1.comp 1).toStr) (Int.toNat 1) (Int.toNat (ByteArray.size ((r1.comp 1).toStr):Int))))] []) (.need (0<=(0:Int)/\(0:Int) < ByteArray.size ((r1.comp 1).toStr))<|.test ((bt ((r1.comp 1).toStr) 0) != (32:Int)) (.done 2 [.v (.pointer none),.v (.string x0)] []) (.done 0 [.v (.string x0),.v (.int .i64 x1),.v (.string (ByteArray.extract ((r1.comp 1).toStr) (Int.toNat 1) (Int.toNat (ByteArray.size ((r1.comp 1).toStr):Int))))] [.cells [.v (.string o48_0),.any],.vec 1 (o48_1++([[(r1.comp 0)]]:List (List AV)))]))))
abbrev Lq3b:=LSpec Tryz.prog 84 Cq69 Lq43
theorem Gqgp (x0:ByteArray) (x1:Int) (x7:ByteArray) (o48_0:ByteArray) (o48_1:List (List AV)) {R:RL} (h:wpT Tryz.prog 84 (rq93 x0 x1 x7 o48_0 o48_1) (Rnd (fun ys o=>Lq3b ys o R) R)):Lq3b [.v (.string x0),.v (.int .i64 x1),.v (.string x7)] [.cells [.v (.string o48_0),.any],.vec 1 o48_1] R :=
 LSpec.ofE (cfg:=cfg) (lis:=lq42) tab_ok mixed (by kernel_rfl) h
def tq6p (a0:ByteArray):Tree :=
 .call 138 [.v (.string a0),.v (.string (mk [120,121,122]))] [] fun r1 o1=>NB r1<|.done 0 [.v (.bool r1.toBool)] []
theorem Fqev (a0:ByteArray)   (h:wpT Tryz.prog 5 (tq6p a0) fun _ xs obs=>R (xs.headD .any) obs):FSpec Tryz.prog 117 [.v (.string a0)] [] R :=
 uQ (up_cons (up_refl _) up_nil) (oQ [] Tryz.f117 (by kernel_rfl) (by kernel_rfl) (by kernel_rfl) h)
def tq9u (a0:ByteArray):Tree :=
 .call 138 [.v (.string a0),.v (.string (mk [116]))] [] fun r1 o1=>NB r1<|.done 0 [.v (.bool r1.toBool)] []
theorem Fqgh (a0:ByteArray)   (h:wpT Tryz.prog 5 (tq9u a0) fun _ xs obs=>R (xs.headD .any) obs):FSpec Tryz.prog 118 [.v (.string a0)] [] R :=
 uQ (up_cons (up_refl _) up_nil) (oQ [] Tryz.f118 (by kernel_rfl) (by kernel_rfl) (by kernel_rfl) h)
def tq1u (a0:AV) (a1:ByteArray) (a2:Int):Tree :=
 NZ a0<|NZ a0<|NLh (a0.deref.drop 1)<|NL ((a0.deref.drop 1).headD .any)<|.test (((((a0.deref.drop 1).headD .any).elems).length:Int)==a2) (NZ a0<|NZ a0<|NLh (a0.deref.drop 1)<|NG ((a0.deref.drop 1).headD .any) 0 1<|NPh (((a0.deref.drop 1).headD .any).elems.getD (0:Int).toNat [])<|NZ ((((a0.deref.drop 1).headD .any).elems.getD (0:Int).toNat []).headD .any)<|NZ ((((a0.deref.drop 1).headD .any).elems.getD (0:Int).toNat []).headD .any)<|.need (LK.has .str (((((a0.deref.drop 1).headD .any).elems.getD (0:Int).toNat []).headD .any).deref.headD .any)/\1<=(((((a0.deref.drop 1).headD .any).elems.getD (0:Int).toNat []).headD .any).deref).length)<|.done 0 [.v (.bool (ByteArray.toList ((((((a0.deref.drop 1).headD .any).elems.getD (0:Int).toNat []).headD .any).deref.headD .any).toStr)==ByteArray.toList a1))] []) (.done 0 [.v (.bool false)] [])
theorem Fq7x (a0:AV) (a1:ByteArray) (a2:Int) (ha0:LK.has .ptr a0)  (h:wpT Tryz.prog 27 (tq1u a0 a1 a2) fun _ xs obs=>R (xs.headD .any) obs):FSpec Tryz.prog 119 [a0,.v (.string a1),.v (.int .i64 a2)] [] R :=
 uQ (up_cons (up_ptr ha0) (up_cons (up_refl _) (up_cons (up_refl _) up_nil))) (oQ [] Tryz.f119 (by kernel_rfl) (by kernel_rfl) (by kernel_rfl) h)
def tq9x (a0:Int) (a1:AV) (a2:AV):Tree :=
 .done 0 [.ptr [.v (.int .u8 a0),.v (.string (mk [])),.v (.int .i64 0),a1,a2]] []
theorem Fqf9 (a0:Int) (a1:AV) (a2:AV) (ha1:LK.has .ptr a1) (ha2:LK.has .ptr a2)  (h:wpT Tryz.prog 12 (tq9x a0 a1 a2) fun _ xs obs=>R (xs.headD .any) obs):FSpec Tryz.prog 121 [.v (.int .u8 a0),a1,a2] [] R :=
 uQ (up_cons (up_refl _) (up_cons (up_ptr ha1) (up_cons (up_ptr ha2) up_nil))) (oQ [] Tryz.f121 (by kernel_rfl) (by kernel_rfl) (by kernel_rfl) h)
def tqbv (a0:AV):Tree :=
 .call 140 [a0,.fn 141 [.ref 0 0]] [.cells [.vec 1],.vec 1 []] fun r1 o1=>.need ((o1.headD .dead) = .cells (o1.headD .dead).cs)<|.need (hasC [.vec 1] ((o1.headD .dead).cs) 0 1 o1.tail)<|.done 0 [.sl ((o1.tail.headD .dead).es)] []
theorem Fqe9 (a0:AV) (ha0:LK.has .ptr a0)  (h:wpT Tryz.prog 9 (tqbv a0) fun _ xs obs=>R (xs.headD .any) obs):FSpec Tryz.prog 122 [a0] [] R :=
 uQ (up_cons (up_ptr ha0) up_nil) (oQ [] Tryz.f122 (by kernel_rfl) (by kernel_rfl) (by kernel_rfl) h)
def Lq4e:LI:={ hd:={ slots:=[(0,.k .ptr),(1,.k .sl),(9,.k .str)],refs:=[(3,0),(4,1)],objs:=[(0,[.lk .sl]),(1,[.lk (.int .i64)])],clos:=[(2,123,[none,some 0,some 1])] },xs:={ slots:=[(0,.k .ptr),(1,.k .sl),(9,.k .str)],objs:=[(0,[.lk .sl]),(1,[.lk (.int .i64)])],clos:=[(2,123,[none,some 0,some 1])] },rt:={ objs:=[(0,[.lk .sl]),(1,[.lk (.int .i64)])] },ex:=1,fx:=[0,1] }
def Cqbe:Code:=loopAt (bodyOf Tryz.f123) 12
def lqby:List (Nat×LI):=[(12,Lq4e)]
def tqm (a0:AV) (a1:AV) (a3_0:AV) (a4_0:Int):Tree :=
 NZ a0<|NZ a0<|.need (LK.has (.int .u8) (a0.deref.headD .any)/\1<=a0.deref.length)<|.test (((a0.deref.headD .any).toInt)==(110:Int)) (NZ a0<|NZ a0<|NSh (a0.deref.drop 1)<|.done 0 [.v (.string (((a0.deref.drop 1).headD .any).toStr))] [.cells [a3_0],.cells [.v (.int .i64 a4_0)]]) (.test (((a0.deref.headD .any).toInt)==(98:Int)) (NL a1<|NZ a0<|NZ a0<|.need (LK.has (.int .i64) ((a0.deref.drop 2).headD .any)/\1<=(a0.deref.drop 2).length)<|.need (LK.has .sl a1/\0<=(IntKind.wrap .i64 ((IntKind.wrap .i64 ((a1.elems.length:Int) - 1)) - (((a0.deref.drop 2).headD .any).toInt)))/\(IntKind.wrap .i64 ((IntKind.wrap .i64 ((a1.elems.length:Int) - 1)) - (((a0.deref.drop 2).headD .any).toInt))) < a1.elems.length/\(a1.elems.getD (IntKind.wrap .i64 ((IntKind.wrap .i64 ((a1.elems.length:Int) - 1)) - (((a0.deref.drop 2).headD .any).toInt))).toNat []).length = 1)<|NSh (a1.elems.getD (IntKind.wrap .i64 ((IntKind.wrap .i64 ((a1.elems.length:Int) - 1)) - (((a0.deref.drop 2).headD .any).toInt))).toNat [])<|.done 0 [.v (.string (((a1.elems.getD (IntKind.wrap .i64 ((IntKind.wrap .i64 ((a1.elems.length:Int) - 1)) - (((a0.deref.drop 2).headD .any).toInt))).toNat []).headD .any).toStr))] [.cells [a3_0],.cells [.v (.int .i64 a4_0)]]) (.test (((a0.deref.headD .any).toInt)==(43:Int)) (NZ a0<|NZ a0<|NPh (a0.deref.drop 3)<|.call 123 [((a0.deref.drop 3).headD .any),a1,.cptr 123 [none,some 0,some 1],.ref 0 0,.ref 1 0] [.cells [a3_0],.cells [.v (.int .i64 a4_0)]] fun r1 o1=>.need ((o1.headD .dead) = .cells (o1.headD .dead).cs)<|.need (hasC [.lk .sl] ((o1.headD .dead).cs) 0 1 o1.tail)<|.need ((o1.tail.headD .dead) = .cells (o1.tail.headD .dead).cs)<|.need (hasC [.lk (.int .i64)] ((o1.tail.headD .dead).cs) 0 2 o1.tail.tail)<|NS r1<|NZ a0<|NZ a0<|.need (LK.has (.int .u8) (a0.deref.headD .any)/\1<=a0.deref.length)<|.need (allU8 [[.v (.int .u8 ((a0.deref.headD .any).toInt))]])<|.need (ByteArray.size (mk [40])+ByteArray.size (⟨(bytesOf [[.v (.int .u8 ((a0.deref.headD .any).toInt))]]).toArray⟩)<=9223372036854775807)<|.need (ByteArray.size (((mk [40]):ByteArray)++(⟨(bytesOf [[.v (.int .u8 ((a0.deref.headD .any).toInt))]]).toArray⟩))+ByteArray.size (mk [32])<=9223372036854775807)<|.need (ByteArray.size (((((mk [40]):ByteArray)++(⟨(bytesOf [[.v (.int .u8 ((a0.deref.headD .any).toInt))]]).toArray⟩)):ByteArray)++(mk [32]))+ByteArray.size r1.toStr<=9223372036854775807)<|.need (ByteArray.size (((((((mk [40]):ByteArray)++(⟨(bytesOf [[.v (.int .u8 ((a0.deref.headD .any).toInt))]]).toArray⟩)):ByteArray)++(mk [32])):ByteArray)++r1.toStr)+ByteArray.size (mk [32])<=9223372036854775807)<|NZ a0<|NZ a0<|NPh (a0.deref.drop 4)<|.call 123 [((a0.deref.drop 4).headD .any),a1,.cptr 123 [none,some 0,some 1],.ref 0 0,.ref 1 0] [.cells [((o1.headD .dead).cs.getD 0 .any)],.cells [.v (.int .i64 (((o1.tail.headD .dead).cs.getD 0 .any).toInt))]] fun r2 o2=>.need ((o2.headD .dead) = .cells (o2.headD .dead).cs)<|.need (hasC [.lk .sl] ((o2.headD .dead).cs) 0 1 o2.tail)<|.need ((o2.tail.headD .dead) = .cells (o2.tail.headD .dead).cs)<|.need (hasC [.lk (.int .i64)] ((o2.tail.headD .dead).cs) 0 2 o2.tail.tail)<|NS r2<|.need (ByteArray.size (((((((((mk [40]):ByteArray)++(⟨(bytesOf [[.v (.int .u8 ((a0.deref.headD .any).toInt))]]).toArray⟩)):ByteArray)++(mk [32])):ByteArray)++r1.toStr):ByteArray)++(mk [32]))+ByteArray.size r2.toStr<=9223372036854775807)<|.need (ByteArray.size (((((((((((mk [40]):ByteArray)++(⟨(bytesOf [[.v (.int .u8 ((a0.deref.headD .any).toInt))]]).toArray⟩)):ByteArray)++(mk [32])):ByteArray)++r1.toStr):ByteArray)++(mk [32])):ByteArray)++r2.toStr)+ByteArray.size (mk [41])<=9223372036854775807)<|.done 0 [.v (.string (((((((((((((mk [40]):ByteArray)++(⟨(bytesOf [[.v (.int .u8 ((a0.deref.headD .any).toInt))]]).toArray⟩)):ByteArray)++(mk [32])):ByteArray)++r1.toStr):ByteArray)++(mk [32])):ByteArray)++r2.toStr):ByteArray)++(mk [41])))] [.cells [((o2.headD .dead).cs.getD 0 .any)],.cells [.v (.int .i64 (((o2.tail.headD .dead).cs.getD 0 .any).toInt))]]) (.test (((a0.deref.headD .any).toInt)==(42:Int)) (NZ a0<|NZ a0<|NPh (a0.deref.drop 3)<|.call 123 [((a0.deref.drop 3).headD .any),a1,.cptr 123 [none,some 0,some 1],.ref 0 0,.ref 1 0] [.cells [a3_0],.cells [.v (.int .i64 a4_0)]] fun r3 o3=>.need ((o3.headD .dead) = .cells (o3.headD .dead).cs)<|.need (hasC [.lk .sl] ((o3.headD .dead).cs) 0 1 o3.tail)<|.need ((o3.tail.headD .dead) = .cells (o3.tail.headD .dead).cs)<|.need (hasC [.lk (.int .i64)] ((o3.tail.headD .dead).cs) 0 2 o3.tail.tail)<|NS r3<|NZ a0<|NZ a0<|.need (LK.has (.int .u8) (a0.deref.headD .any)/\1<=a0.deref.length)<|.need (allU8 [[.v (.int .u8 ((a0.deref.headD .any).toInt))]])<|.need (ByteArray.size (mk [40])+ByteArray.size (⟨(bytesOf [[.v (.int .u8 ((a0.deref.headD .any).toInt))]]).toArray⟩)<=9223372036854775807)<|.need (ByteArray.size (((mk [40]):ByteArray)++(⟨(bytesOf [[.v (.int .u8 ((a0.deref.headD .any).toInt))]]).toArray⟩))+ByteArray.size (mk [32])<=9223372036854775807)<|.need (ByteArray.size (((((mk [40]):ByteArray)++(⟨(bytesOf [[.v (.int .u8 ((a0.deref.headD .any).toInt))]]).toArray⟩)):ByteArray)++(mk [32]))+ByteArray.size r3.toStr<=9223372036854775807)<|.need (ByteArray.size (((((((mk [40]):ByteArray)++(⟨(bytesOf [[.v (.int .u8 ((a0.deref.headD .any).toInt))]]).toArray⟩)):ByteArray)++(mk [32])):ByteArray)++r3.toStr)+ByteArray.size (mk [32])<=9223372036854775807)<|NZ a0<|NZ a0<|NPh (a0.deref.drop 4)<|.call 123 [((a0.deref.drop 4).headD .any),a1,.cptr 123 [none,some 0,some 1],.ref 0 0,.ref 1 0] [.cells [((o3.headD .dead).cs.getD 0 .any)],.cells [.v (.int .i64 (((o3.tail.headD .dead).cs.getD 0 .any).toInt))]] fun r4 o4=>.need ((o4.headD .dead) = .cells (o4.headD .dead).cs)<|.need (hasC [.lk .sl] ((o4.headD .dead).cs) 0 1 o4.tail)<|.need ((o4.tail.headD .dead) = .cells (o4.tail.headD .dead).cs)<|.need (hasC [.lk (.int .i64)] ((o4.tail.headD .dead).cs) 0 2 o4.tail.tail)<|NS r4<|.need (ByteArray.size (((((((((mk [40]):ByteArray)++(⟨(bytesOf [[.v (.int .u8 ((a0.deref.headD .any).toInt))]]).toArray⟩)):ByteArray)++(mk [32])):ByteArray)++r3.toStr):ByteArray)++(mk [32]))+ByteArray.size r4.toStr<=9223372036854775807)<|.need (ByteArray.size (((((((((((mk [40]):ByteArray)++(⟨(bytesOf [[.v (.int .u8 ((a0.deref.headD .any).toInt))]]).toArray⟩)):ByteArray)++(mk [32])):ByteArray)++r3.toStr):ByteArray)++(mk [32])):ByteArray)++r4.toStr)+ByteArray.size (mk [41])<=9223372036854775807)<|.done 0 [.v (.string (((((((((((((mk [40]):ByteArray)++(⟨(bytesOf [[.v (.int .u8 ((a0.deref.headD .any).toInt))]]).toArray⟩)):ByteArray)++(mk [32])):ByteArray)++r3.toStr):ByteArray)++(mk [32])):ByteArray)++r4.toStr):ByteArray)++(mk [41])))] [.cells [((o4.headD .dead).cs.getD 0 .any)],.cells [.v (.int .i64 (((o4.tail.headD .dead).cs.getD 0 .any).toInt))]]) (.test (((a0.deref.headD .any).toInt)==(114:Int)) (.loop Cqbe Lq4e [a0,a1,.v (.string (mk []))] [.cells [a3_0],.cells [.v (.int .i64 a4_0)]] (fun y8 q8=>NP (y8.headD .any)<|NL (y8.tail.headD .any)<|NS (y8.tail.tail.headD .any)<|.need ((q8.headD .dead) = .cells (q8.headD .dead).cs)<|.need (hasK [.lk .sl] ((q8.headD .dead).cs) 0 q8.tail)<|.need (((q8.tail.drop 0).headD .dead) = .cells ((q8.tail.drop 0).headD .dead).cs)<|.need (hasK [.lk (.int .i64)] (((q8.tail.drop 0).headD .dead).cs) 0 ((q8.tail.drop 0).tail))<|.need (ByteArray.size (mk [40,114,101,99,32])+ByteArray.size ((y8.tail.tail.headD .any).toStr)<=9223372036854775807)<|.need (ByteArray.size (((mk [40,114,101,99,32]):ByteArray)++((y8.tail.tail.headD .any).toStr))+ByteArray.size (mk [32])<=9223372036854775807)<|NZ (y8.headD .any)<|NZ (y8.headD .any)<|NPh ((y8.headD .any).deref.drop 3)<|.need (LK.has .sl (y8.tail.headD .any)/\allLen 1 ((y8.tail.headD .any).elems)/\((([]:List (List AV)).length)+((y8.tail.headD .any).elems).length)*16<=140737488355328)<|.need (allLen 1 [[.v (.string ((y8.tail.tail.headD .any).toStr))]]/\(((([]:List (List AV))++((y8.tail.headD .any).elems)).length)+([[.v (.string ((y8.tail.tail.headD .any).toStr))]]:List (List AV)).length)*16<=140737488355328)<|.call 123 [(((y8.headD .any).deref.drop 3).headD .any),.sl ((([]:List (List AV))++((y8.tail.headD .any).elems))++([[.v (.string ((y8.tail.tail.headD .any).toStr))]]:List (List AV))),.cptr 123 [none,some 0,some 1],.ref 0 0,.ref 1 0] [.cells [((q8.headD .dead).cs.getD 0 .any)],.cells [.v (.int .i64 (((q8.tail.headD .dead).cs.getD 0 .any).toInt))]] fun r9 o9=>.need ((o9.headD .dead) = .cells (o9.headD .dead).cs)<|.need (hasC [.lk .sl] ((o9.headD .dead).cs) 0 1 o9.tail)<|.need ((o9.tail.headD .dead) = .cells (o9.tail.headD .dead).cs)<|.need (hasC [.lk (.int .i64)] ((o9.tail.headD .dead).cs) 0 2 o9.tail.tail)<|NS r9<|.need (ByteArray.size (((((mk [40,114,101,99,32]):ByteArray)++((y8.tail.tail.headD .any).toStr)):ByteArray)++(mk [32]))+ByteArray.size r9.toStr<=9223372036854775807)<|.need (ByteArray.size (((((((mk [40,114,101,99,32]):ByteArray)++((y8.tail.tail.headD .any).toStr)):ByteArray)++(mk [32])):ByteArray)++r9.toStr)+ByteArray.size (mk [41])<=9223372036854775807)<|.done 0 [.v (.string (((((((((mk [40,114,101,99,32]):ByteArray)++((y8.tail.tail.headD .any).toStr)):ByteArray)++(mk [32])):ByteArray)++r9.toStr):ByteArray)++(mk [41])))] [.cells [((o9.headD .dead).cs.getD 0 .any)],.cells [.v (.int .i64 (((o9.tail.headD .dead).cs.getD 0 .any).toInt))]]) (fun y8 q8=>.need ((q8.headD .dead) = .cells (q8.headD .dead).cs)<|.need (hasK [.lk .sl] ((q8.headD .dead).cs) 0 q8.tail)<|.need (((q8.tail.drop 0).headD .dead) = .cells ((q8.tail.drop 0).headD .dead).cs)<|.need (hasK [.lk (.int .i64)] (((q8.tail.drop 0).headD .dead).cs) 0 ((q8.tail.drop 0).tail))<|.done 0 [.any] [.cells [((q8.headD .dead).cs.getD 0 .any)],.cells [.v (.int .i64 (((q8.tail.headD .dead).cs.getD 0 .any).toInt))]])) (NZ a0<|NZ a0<|.need (LK.has (.int .u8) (a0.deref.headD .any)/\1<=a0.deref.length)<|.need (allU8 [[.v (.int .u8 ((a0.deref.headD .any).toInt))]])<|.done 0 [.v (.string (⟨(bytesOf [[.v (.int .u8 ((a0.deref.headD .any).toInt))]]).toArray⟩))] [.cells [a3_0],.cells [.v (.int .i64 a4_0)]])))))
theorem Fqv (a0:AV) (a1:AV) (a3_0:AV) (a4_0:Int) (ha0:LK.has .ptr a0) (ha1:LK.has .sl a1) (ha3_0:LK.has .sl a3_0) (h:wpT Tryz.prog 100 (tqm a0 a1 a3_0 a4_0) fun _ xs obs=>R (xs.headD .any) obs):FSpec Tryz.prog 123 [a0,a1,.cptr 123 [none,some 0,some 1],.ref 0 0,.ref 1 0] [.cells [a3_0],.cells [.v (.int .i64 a4_0)]] R :=
 FSpec.upo (upos_cons (upo_cells (up_cons (up_sl ha3_0) up_nil)) (upos_cons (upo_cells (up_cons (up_refl _) up_nil)) upos_nil)) (FSpec.up (up_cons (up_ptr ha0) (up_cons (up_sl ha1) (up_cons (up_refl _) (up_cons (up_refl _) (up_cons (up_refl _) up_nil))))) (FSpec.ofE (cfg:=cfg) (lis:=lqby) (fc:={ mu:=[(2,.clo 123 [none,some 0,some 1]),(3,.one (.obj [.lk .sl])),(4,.one (.obj [.lk (.int .i64)]))],own:=[] }) tab_ok mixed (F:=Tryz.f123) (by kernel_rfl) (by kernel_rfl) (by kernel_rfl) h))
def rq4c (x0:AV) (x1:AV) (x9:ByteArray) (o0_0:AV) (o1_0:Int):Tree :=
 NP x0<|NL x1<|NS (.v (.string x9))<|.need (Ob.cells [o0_0] = .cells [o0_0])<|.need (hasK [.lk .sl] [o0_0] 0 [.cells [.v (.int .i64 o1_0)]])<|.need (Ob.cells [.v (.int .i64 o1_0)] = .cells [.v (.int .i64 o1_0)])<|.need (hasK [.lk (.int .i64)] [.v (.int .i64 o1_0)] 0 [])<|.test (ByteArray.toList x9==ByteArray.toList (mk [])) (.call 120 [.v (.int .i64 o1_0)] [] fun r1 o1=>NS r1<|.need (ByteArray.size (mk [116])+ByteArray.size r1.toStr<=9223372036854775807)<|.done 0 [x0,x1,.v (.string (((mk [116]):ByteArray)++r1.toStr))] [.cells [o0_0],.cells [.v (.int .i64 (IntKind.wrap .i64 (o1_0+1)))]]) (.call 124 [o0_0,.v (.string x9)] [] fun r2 o2=>NB r2<|.test r2.toBool (.call 120 [.v (.int .i64 o1_0)] [] fun r3 o3=>NS r3<|.need (ByteArray.size (mk [116])+ByteArray.size r3.toStr<=9223372036854775807)<|.done 0 [x0,x1,.v (.string (((mk [116]):ByteArray)++r3.toStr))] [.cells [o0_0],.cells [.v (.int .i64 (IntKind.wrap .i64 (o1_0+1)))]]) (.done 1 [x0,x1,.v (.string x9)] [.cells [o0_0],.cells [.v (.int .i64 o1_0)]]))
abbrev Lq29:=LSpec Tryz.prog 100 Cqbe Lq4e
theorem Gqcj (x0:AV) (x1:AV) (x9:ByteArray) (o0_0:AV) (o1_0:Int) {R:RL} (h:wpT Tryz.prog 100 (rq4c x0 x1 x9 o0_0 o1_0) (Rnd (fun ys o=>Lq29 ys o R) R)):Lq29 [x0,x1,.v (.string x9)] [.cells [o0_0],.cells [.v (.int .i64 o1_0)]] R :=
 LSpec.ofE (cfg:=cfg) (lis:=lqby) tab_ok mixed (by kernel_rfl) h
def tqa7 (a0:AV) (a1:ByteArray):Tree :=
 .call 142 [a0,.v (.string a1)] [] fun r1 o1=>NI r1<|.done 0 [.v (.bool (decide (r1.toInt ≥ (0:Int))))] []
theorem Fqdh (a0:AV) (a1:ByteArray) (ha0:LK.has .sl a0)  (h:wpT Tryz.prog 9 (tqa7 a0 a1) fun _ xs obs=>R (xs.headD .any) obs):FSpec Tryz.prog 124 [a0,.v (.string a1)] [] R :=
 uQ (up_cons (up_sl ha0) (up_cons (up_refl _) up_nil)) (oQ [] Tryz.f124 (by kernel_rfl) (by kernel_rfl) (by kernel_rfl) h)
def tq7i (a0:AV):Tree :=
 .call 143 [a0,.v (.func (.func 118) #[] #[])] [] fun r1 o1=>NI r1<|.done 0 [.v (.bool (decide (r1.toInt ≥ (0:Int))))] []
theorem Fqfb (a0:AV) (ha0:LK.has .sl a0)  (h:wpT Tryz.prog 9 (tq7i a0) fun _ xs obs=>R (xs.headD .any) obs):FSpec Tryz.prog 125 [a0,.v (.func (.func 118) #[] #[])] [] R :=
 uQ (up_cons (up_sl ha0) (up_cons (up_refl _) up_nil)) (oQ [] Tryz.f125 (by kernel_rfl) (by kernel_rfl) (by kernel_rfl) h)
def tqa2 (a0:ByteArray):Tree :=
 .test (decide ((ByteArray.size a0:Int) < (2:Int))) (.done 0 [.v (.bool false)] []) (.test (decide ((ByteArray.size a0:Int) > (3:Int))) (.done 0 [.v (.bool false)] []) (.need (0<=(0:Int)/\(0:Int) < ByteArray.size a0)<|.test ((bt a0 0) != (101:Int)) (.done 0 [.v (.bool false)] []) (.need (0<=(1:Int)/\(1:Int)<=(ByteArray.size a0:Int)/\(ByteArray.size a0:Int)<=(ByteArray.size a0:Int))<|.call 144 [.v (.string (ByteArray.extract a0 (Int.toNat 1) (Int.toNat (ByteArray.size a0:Int)))),.v (.string (mk [48,49,50,51,52,53,54,55,56,57]))] [] fun r1 o1=>NS r1<|.test (!(ByteArray.toList r1.toStr==ByteArray.toList (mk []))) (.done 0 [.v (.bool false)] []) (.test ((ByteArray.size a0:Int)==(2:Int)) (.done 0 [.v (.bool true)] []) (.need (0<=(1:Int)/\(1:Int) < ByteArray.size a0)<|.done 0 [.v (.bool ((bt a0 1) != (48:Int)))] [])))))
theorem Fqfd (a0:ByteArray)   (h:wpT Tryz.prog 30 (tqa2 a0) fun _ xs obs=>R (xs.headD .any) obs):FSpec Tryz.prog 126 [.v (.string a0)] [] R :=
 uQ (up_cons (up_refl _) up_nil) (oQ [] Tryz.f126 (by kernel_rfl) (by kernel_rfl) (by kernel_rfl) h)
def Lq4l:LI:={ hd:={ slots:=[(17,.k (.int .i64))],refs:=[(4,4),(12,12),(14,14)],objs:=[(4,[.lk .str,.lk .sl]),(12,[.lk .str,.lk .sl]),(14,[.lk .str,.lk .sl])],vecs:=[(16,1)] },xs:={ slots:=[(17,.k (.int .i64))],refs:=[(4,4),(12,12),(14,14)],objs:=[(4,[.lk .str,.lk .sl]),(12,[.lk .str,.lk .sl]),(14,[.lk .str,.lk .sl])] },rt:={},ex:=0 }
def Cq6v:Code:=loopAt (bodyOf Tryz.f129) 13
def lqax:List (Nat×LI):=[(13,Lq4l)]
def tqal (a0_0:ByteArray) (a0_1:AV) (a1:ByteArray):Tree :=
 .call 107 [.agg [.v (.string a0_0),a0_1],.sl [[.v (.string a1),.v (.slice none 0 0)]]] [] fun r1 o1=>NA r1<|NG (r1.cs.getD 1 .any) 1 2<|NSh ((r1.cs.getD 1 .any).elems.getD (1:Int).toNat [])<|NG (r1.cs.getD 1 .any) 2 2<|NE ((r1.cs.getD 1 .any).elems.getD (2:Int).toNat [])<|.call 105 [.agg [.v (.string ((((r1.cs.getD 1 .any).elems.getD (2:Int).toNat []).getD 0 .any).toStr)),(((r1.cs.getD 1 .any).elems.getD (2:Int).toNat []).getD 1 .any)],.v (.string a1)] [] fun r2 o2=>NT r2<|.need ((r2.comp 0) = .agg (r2.comp 0).cs/\(r2.comp 0).cs.length = 2/\hasL [.str,.sl] ((r2.comp 0).cs) 0)<|NB (r2.comp 1)<|NG (r1.cs.getD 1 .any) 2 2<|NE ((r1.cs.getD 1 .any).elems.getD (2:Int).toNat [])<|.call 105 [.agg [.v (.string ((((r1.cs.getD 1 .any).elems.getD (2:Int).toNat []).getD 0 .any).toStr)),(((r1.cs.getD 1 .any).elems.getD (2:Int).toNat []).getD 1 .any)],.v (.string ((((r1.cs.getD 1 .any).elems.getD (1:Int).toNat []).headD .any).toStr))] [] fun r3 o3=>NT r3<|.need ((r3.comp 0) = .agg (r3.comp 0).cs/\(r3.comp 0).cs.length = 2/\hasL [.str,.sl] ((r3.comp 0).cs) 0)<|NB (r3.comp 1)<|.test (!((r2.comp 1).toBool)) (.done 0 [.tup [.agg [.v (.string ((r1.cs.getD 0 .any).toStr)),(r1.cs.getD 1 .any)],.v (.bool false)]] []) (.test (!((r3.comp 1).toBool)) (.done 0 [.tup [.agg [.v (.string ((r1.cs.getD 0 .any).toStr)),(r1.cs.getD 1 .any)],.v (.bool false)]] []) (.call 106 [.agg [.v (.string (((r2.comp 0).cs.getD 0 .any).toStr)),((r2.comp 0).cs.getD 1 .any)],.v (.string ((((r1.cs.getD 1 .any).elems.getD (1:Int).toNat []).headD .any).toStr)),.agg [.v (.string ((r1.cs.getD 0 .any).toStr)),(r1.cs.getD 1 .any)]] [] fun r4 o4=>NT r4<|.need ((r4.comp 0) = .agg (r4.comp 0).cs/\(r4.comp 0).cs.length = 2/\hasL [.str,.sl] ((r4.comp 0).cs) 0)<|NB (r4.comp 1)<|.call 106 [.agg [.v (.string (((r3.comp 0).cs.getD 0 .any).toStr)),((r3.comp 0).cs.getD 1 .any)],.v (.string ((((r1.cs.getD 1 .any).elems.getD (1:Int).toNat []).headD .any).toStr)),.agg [.v (.string ((r1.cs.getD 0 .any).toStr)),(r1.cs.getD 1 .any)]] [] fun r5 o5=>NT r5<|.need ((r5.comp 0) = .agg (r5.comp 0).cs/\(r5.comp 0).cs.length = 2/\hasL [.str,.sl] ((r5.comp 0).cs) 0)<|NB (r5.comp 1)<|.test (!((r4.comp 1).toBool)) (.done 0 [.tup [.agg [.v (.string ((r1.cs.getD 0 .any).toStr)),(r1.cs.getD 1 .any)],.v (.bool false)]] []) (.test (!((r5.comp 1).toBool)) (.done 0 [.tup [.agg [.v (.string ((r1.cs.getD 0 .any).toStr)),(r1.cs.getD 1 .any)],.v (.bool false)]] []) (.call 109 [.agg [.v (.string (((r5.comp 0).cs.getD 0 .any).toStr)),((r5.comp 0).cs.getD 1 .any)],.sl [],.vec 0] [.vec 1 []] fun r6 o6=>.need (r6 = .vec 1/\(o6.tail.headD .dead) = .vec 1 (o6.tail.headD .dead).es)<|.call 109 [.agg [.v (.string (((r4.comp 0).cs.getD 0 .any).toStr)),((r4.comp 0).cs.getD 1 .any)],.sl [],.vec 0] [.vec 1 ((o6.tail.headD .dead).es)] fun r7 o7=>.need (r7 = .vec 1/\(o7.tail.headD .dead) = .vec 1 (o7.tail.headD .dead).es)<|.loop Cq6v Lq4l [.v (.int .i64 0)] [.cells [.v (.string (mk [])),.v (.slice none 0 0)],.cells [.v (.string (((r4.comp 0).cs.getD 0 .any).toStr)),((r4.comp 0).cs.getD 1 .any)],.cells [.v (.string (((r5.comp 0).cs.getD 0 .any).toStr)),((r5.comp 0).cs.getD 1 .any)],.vec 1 ((o7.tail.headD .dead).es)] (fun y10 q10=>NI (y10.headD .any)<|.need ((q10.headD .dead) = .cells (q10.headD .dead).cs)<|.need (hasK [.lk .str,.lk .sl] ((q10.headD .dead).cs) 0 q10.tail)<|.need (((q10.tail.drop 0).headD .dead) = .cells ((q10.tail.drop 0).headD .dead).cs)<|.need (hasK [.lk .str,.lk .sl] (((q10.tail.drop 0).headD .dead).cs) 0 ((q10.tail.drop 0).tail))<|.need ((((q10.tail.drop 0).tail.drop 0).headD .dead) = .cells (((q10.tail.drop 0).tail.drop 0).headD .dead).cs)<|.need (hasK [.lk .str,.lk .sl] ((((q10.tail.drop 0).tail.drop 0).headD .dead).cs) 0 (((q10.tail.drop 0).tail.drop 0).tail))<|.call 150 [.v (.int .i64 ((y10.headD .any).toInt))] [] fun r11 o11=>NS r11<|.need (ByteArray.size (mk [116])+ByteArray.size r11.toStr<=9223372036854775807)<|.call 74 [.v (.string (mk [42])),.sl [[.v (.string (((q10.tail.tail.headD .dead).cs.getD 0 .any).toStr)),((q10.tail.tail.headD .dead).cs.getD 1 .any)],[.v (.string (((mk [116]):ByteArray)++r11.toStr)),.v (.slice none 0 0)]]] [] fun r12 o12=>NA r12<|.call 74 [.v (.string (mk [43])),.sl [[.v (.string (((q10.tail.headD .dead).cs.getD 0 .any).toStr)),((q10.tail.headD .dead).cs.getD 1 .any)],[.v (.string ((r12.cs.getD 0 .any).toStr)),(r12.cs.getD 1 .any)]]] [] fun r13 o13=>NA r13<|.call 74 [.v (.string (mk [114,101,99])),.sl [[.v (.string (((mk [116]):ByteArray)++r11.toStr)),.v (.slice none 0 0)],[.v (.string ((r13.cs.getD 0 .any).toStr)),(r13.cs.getD 1 .any)]]] [] fun r14 o14=>NA r14<|.call 104 [.agg [.v (.string ((r14.cs.getD 0 .any).toStr)),(r14.cs.getD 1 .any)]] [] fun r15 o15=>NI r15<|.done 0 [.tup [.agg [.v (.string ((r14.cs.getD 0 .any).toStr)),(r14.cs.getD 1 .any)],.v (.bool (decide (r15.toInt<=(400:Int))))]] []) (fun y10 q10=>.fail)))))
theorem Fqga (a0_0:ByteArray) (a0_1:AV) (a1:ByteArray) (ha0_1:LK.has .sl a0_1)  (h:wpT Tryz.prog 108 (tqal a0_0 a0_1 a1) fun _ xs obs=>R (xs.headD .any) obs):FSpec Tryz.prog 129 [.agg [.v (.string a0_0),a0_1],.v (.string a1)] [] R :=
 uQ (up_cons (up_agg (up_cons (up_refl _) (up_cons (up_sl ha0_1) up_nil))) (up_cons (up_refl _) up_nil)) (oQ lqax Tryz.f129 (by kernel_rfl) (by kernel_rfl) (by kernel_rfl) h)
def rq8z (x17:Int) (o4_0:ByteArray) (o4_1:AV) (o12_0:ByteArray) (o12_1:AV) (o14_0:ByteArray) (o14_1:AV) (e16:List (List AV)):Tree :=
 NI (.v (.int .i64 x17))<|.need (Ob.cells [.v (.string o4_0),o4_1] = .cells [.v (.string o4_0),o4_1])<|.need (hasK [.lk .str,.lk .sl] [.v (.string o4_0),o4_1] 0 [.cells [.v (.string o12_0),o12_1],.cells [.v (.string o14_0),o14_1],.vec 1 e16])<|.need (Ob.cells [.v (.string o12_0),o12_1] = .cells [.v (.string o12_0),o12_1])<|.need (hasK [.lk .str,.lk .sl] [.v (.string o12_0),o12_1] 0 [.cells [.v (.string o14_0),o14_1],.vec 1 e16])<|.need (Ob.cells [.v (.string o14_0),o14_1] = .cells [.v (.string o14_0),o14_1])<|.need (hasK [.lk .str,.lk .sl] [.v (.string o14_0),o14_1] 0 [.vec 1 e16])<|.need (Ob.vec 1 e16 = .vec 1 e16)<|.call 150 [.v (.int .i64 x17)] [] fun r1 o1=>NS r1<|.need (ByteArray.size (mk [116])+ByteArray.size r1.toStr<=9223372036854775807)<|.call 133 [.sl e16,.v (.string (((mk [116]):ByteArray)++r1.toStr))] [] fun r2 o2=>NB r2<|.test r2.toBool (.done 0 [.v (.int .i64 (IntKind.wrap .i64 (x17+1)))] [.cells [.v (.string o4_0),o4_1],.cells [.v (.string o12_0),o12_1],.cells [.v (.string o14_0),o14_1],.vec 1 e16]) (.done 1 [.v (.int .i64 x17)] [.cells [.v (.string o4_0),o4_1],.cells [.v (.string o12_0),o12_1],.cells [.v (.string o14_0),o14_1]])
abbrev Lq37:=LSpec Tryz.prog 108 Cq6v Lq4l
theorem Gqcz (x17:Int) (o4_0:ByteArray) (o4_1:AV) (o12_0:ByteArray) (o12_1:AV) (o14_0:ByteArray) (o14_1:AV) (e16:List (List AV)) {R:RL} (h:wpT Tryz.prog 108 (rq8z x17 o4_0 o4_1 o12_0 o12_1 o14_0 o14_1 e16) (Rnd (fun ys o=>Lq37 ys o R) R)):Lq37 [.v (.int .i64 x17)] [.cells [.v (.string o4_0),o4_1],.cells [.v (.string o12_0),o12_1],.cells [.v (.string o14_0),o14_1],.vec 1 e16] R :=
 LSpec.ofE (cfg:=cfg) (lis:=lqax) tab_ok mixed (by kernel_rfl) h
def tq95 (a0_0:ByteArray) (a0_1:AV) (a1:ByteArray) (a2_0:ByteArray) (a2_1:AV):Tree :=
 .call 104 [.agg [.v (.string a0_0),a0_1]] [] fun r1 o1=>NI r1<|.call 151 [.agg [.v (.string a0_0),a0_1],.v (.string a1)] [] fun r2 o2=>NI r2<|.call 104 [.agg [.v (.string a2_0),a2_1]] [] fun r3 o3=>NI r3<|.done 0 [.v (.bool (decide ((IntKind.wrap .i64 (r1.toInt+(IntKind.wrap .i64 (r2.toInt*(IntKind.wrap .i64 (r3.toInt - 1))))))<=(400:Int))))] []
theorem Fqdf (a0_0:ByteArray) (a0_1:AV) (a1:ByteArray) (a2_0:ByteArray) (a2_1:AV) (ha0_1:LK.has .sl a0_1) (ha2_1:LK.has .sl a2_1)  (h:wpT Tryz.prog 18 (tq95 a0_0 a0_1 a1 a2_0 a2_1) fun _ xs obs=>R (xs.headD .any) obs):FSpec Tryz.prog 130 [.agg [.v (.string a0_0),a0_1],.v (.string a1),.agg [.v (.string a2_0),a2_1]] [] R :=
 uQ (up_cons (up_agg (up_cons (up_refl _) (up_cons (up_sl ha0_1) up_nil))) (up_cons (up_refl _) (up_cons (up_agg (up_cons (up_refl _) (up_cons (up_sl ha2_1) up_nil))) up_nil))) (oQ [] Tryz.f130 (by kernel_rfl) (by kernel_rfl) (by kernel_rfl) h)
def tqc3 (a0_0:ByteArray) (a0_1:AV) (a1:ByteArray) (a2_0:ByteArray) (a2_1:AV):Tree :=
 .call 107 [.agg [.v (.string a0_0),a0_1],.sl [[.v (.string a2_0),a2_1],[.v (.string a1),.v (.slice none 0 0)]]] [] fun r1 o1=>NA r1<|.call 152 [.agg [.v (.string ((r1.cs.getD 0 .any).toStr)),(r1.cs.getD 1 .any)],.v (.string a1),.agg [.v (.string a2_0),a2_1]] [] fun r2 o2=>NA r2<|.done 0 [.agg [.v (.string ((r2.cs.getD 0 .any).toStr)),(r2.cs.getD 1 .any)]] []
theorem Fqgo (a0_0:ByteArray) (a0_1:AV) (a1:ByteArray) (a2_0:ByteArray) (a2_1:AV) (ha0_1:LK.has .sl a0_1) (ha2_1:LK.has .sl a2_1)  (h:wpT Tryz.prog 16 (tqc3 a0_0 a0_1 a1 a2_0 a2_1) fun _ xs obs=>R (xs.headD .any) obs):FSpec Tryz.prog 131 [.agg [.v (.string a0_0),a0_1],.v (.string a1),.agg [.v (.string a2_0),a2_1]] [] R :=
 uQ (up_cons (up_agg (up_cons (up_refl _) (up_cons (up_sl ha0_1) up_nil))) (up_cons (up_refl _) (up_cons (up_agg (up_cons (up_refl _) (up_cons (up_sl ha2_1) up_nil))) up_nil))) (oQ [] Tryz.f131 (by kernel_rfl) (by kernel_rfl) (by kernel_rfl) h)
def Lq4u:LI:={ hd:={ slots:=[(1,.k .sl),(2,.k .sl),(9,.k (.int .i64))],refs:=[(4,4),(8,8)],objs:=[(4,[.lk .str,.lk .sl]),(8,[.lk .str,.lk .sl]),(0,[.vec 1,.lk (.int .i64)])] },xs:={ refs:=[(4,4),(8,8)],objs:=[(4,[.lk .str,.lk .sl]),(8,[.lk .str,.lk .sl]),(0,[.vec 1,.lk (.int .i64)])] },rt:={ refs:=[(8,8)],objs:=[(8,[.lk .str,.lk .sl]),(0,[.vec 1,.lk (.int .i64)])] },ex:=0,fx:=[0] }
def Cq6f:Code:=loopAt (bodyOf Tryz.f132) 3
def Lq3q:LI:={ hd:={ slots:=[(1,.k .sl),(2,.k .sl),(10,.k .str)],refs:=[(3,0),(4,4),(8,8)],objs:=[(0,[.vec 1,.lk (.int .i64)]),(4,[.lk .str,.lk .sl]),(8,[.lk .str,.lk .sl])] },xs:={ slots:=[(1,.k .sl),(2,.k .sl),(10,.k .str)],refs:=[(3,0),(4,4),(8,8)],objs:=[(0,[.vec 1,.lk (.int .i64)]),(4,[.lk .str,.lk .sl]),(8,[.lk .str,.lk .sl])] },rt:={ objs:=[(0,[.vec 1,.lk (.int .i64)])] },ex:=2,fx:=[0] }
def Cqbs:Code:=loopAt (bodyOf Tryz.f132) 10
def lq4z:List (Nat×LI):=[(3,Lq4u),(10,Lq3q)]
def tq1w (a0_0:ByteArray) (a0_1:AV) (a1:AV) (a2:AV) (e3_0:List (List AV)) (a3_1:Int):Tree :=
 .test (!(ByteArray.toList a0_0==ByteArray.toList (mk []))) (NL a1<|.loop Cq6f Lq4u [a1,a2,.v (.int .i64 (IntKind.wrap .i64 ((a1.elems.length:Int) - 1)))] [.cells [.v (.string a0_0),a0_1],.cells [.v (.string (mk [])),.v (.slice none 0 0)],.cells [.any,.v (.int .i64 a3_1)],.vec 1 e3_0] (fun y1 q1=>.need ((q1.headD .dead) = .cells (q1.headD .dead).cs)<|.need (hasK [.lk .str,.lk .sl] ((q1.headD .dead).cs) 0 q1.tail)<|.need (((q1.tail.drop 0).headD .dead) = .cells ((q1.tail.drop 0).headD .dead).cs)<|.need (hasK [.lk .str,.lk .sl] (((q1.tail.drop 0).headD .dead).cs) 0 ((q1.tail.drop 0).tail))<|.need ((((q1.tail.drop 0).tail.drop 0).headD .dead) = .cells (((q1.tail.drop 0).tail.drop 0).headD .dead).cs)<|.need (hasK [.vec 1,.lk (.int .i64)] ((((q1.tail.drop 0).tail.drop 0).headD .dead).cs) 0 (((q1.tail.drop 0).tail.drop 0).tail))<|.done 0 [.agg [.v (.string (((q1.headD .dead).cs.getD 0 .any).toStr)),((q1.headD .dead).cs.getD 1 .any)]] [.cells [.vec 1,.v (.int .i64 (((q1.tail.tail.headD .dead).cs.getD 1 .any).toInt))],.vec 1 ((q1.tail.tail.tail.headD .dead).es)]) (fun y1 q1=>.need ((q1.headD .dead) = .cells (q1.headD .dead).cs)<|.need (hasK [.lk .str,.lk .sl] ((q1.headD .dead).cs) 0 q1.tail)<|.need (((q1.tail.drop 0).headD .dead) = .cells ((q1.tail.drop 0).headD .dead).cs)<|.need (hasK [.vec 1,.lk (.int .i64)] (((q1.tail.drop 0).headD .dead).cs) 0 ((q1.tail.drop 0).tail))<|.done 0 [.agg [.v (.string (((q1.headD .dead).cs.getD 0 .any).toStr)),((q1.headD .dead).cs.getD 1 .any)]] [.cells [.vec 1,.v (.int .i64 (((q1.tail.headD .dead).cs.getD 1 .any).toInt))],.vec 1 ((q1.tail.tail.headD .dead).es)])) (.call 65 [.agg [.v (.string a0_0),a0_1]] [] fun r2 o2=>NS r2<|.test (ByteArray.toList r2.toStr==ByteArray.toList (mk [114,101,99])) (.call 150 [.v (.int .i64 a3_1)] [] fun r3 o3=>NS r3<|.need (ByteArray.size (mk [116])+ByteArray.size r3.toStr<=9223372036854775807)<|.loop Cqbs Lq3q [a1,a2,.v (.string (((mk [116]):ByteArray)++r3.toStr))] [.cells [.any,.v (.int .i64 a3_1)],.vec 1 e3_0,.cells [.v (.string a0_0),a0_1],.cells [.v (.string (mk [])),.v (.slice none 0 0)]] (fun y6 q6=>NL (y6.headD .any)<|NL (y6.tail.headD .any)<|NS (y6.tail.tail.headD .any)<|.need ((q6.headD .dead) = .cells (q6.headD .dead).cs)<|.need (hasK [.vec 1,.lk (.int .i64)] ((q6.headD .dead).cs) 0 q6.tail)<|.need (((q6.tail.drop 1).headD .dead) = .cells ((q6.tail.drop 1).headD .dead).cs)<|.need (hasK [.lk .str,.lk .sl] (((q6.tail.drop 1).headD .dead).cs) 0 ((q6.tail.drop 1).tail))<|.need ((((q6.tail.drop 1).tail.drop 0).headD .dead) = .cells (((q6.tail.drop 1).tail.drop 0).headD .dead).cs)<|.need (hasK [.lk .str,.lk .sl] ((((q6.tail.drop 1).tail.drop 0).headD .dead).cs) 0 (((q6.tail.drop 1).tail.drop 0).tail))<|NG ((q6.tail.tail.headD .dead).cs.getD 1 .any) 2 2<|NE (((q6.tail.tail.headD .dead).cs.getD 1 .any).elems.getD (2:Int).toNat [])<|NG ((q6.tail.tail.headD .dead).cs.getD 1 .any) 1 2<|NSh (((q6.tail.tail.headD .dead).cs.getD 1 .any).elems.getD (1:Int).toNat [])<|.call 134 [(y6.headD .any),.v (.string (((((q6.tail.tail.headD .dead).cs.getD 1 .any).elems.getD (1:Int).toNat []).headD .any).toStr))] [] fun r7 o7=>NL r7<|.call 134 [(y6.tail.headD .any),.v (.string ((y6.tail.tail.headD .any).toStr))] [] fun r8 o8=>NL r8<|.call 132 [.agg [.v (.string (((((q6.tail.tail.headD .dead).cs.getD 1 .any).elems.getD (2:Int).toNat []).getD 0 .any).toStr)),((((q6.tail.tail.headD .dead).cs.getD 1 .any).elems.getD (2:Int).toNat []).getD 1 .any)],r7,r8,.ref 0 0] [.cells [.vec 1,.v (.int .i64 (IntKind.wrap .i64 ((((q6.headD .dead).cs.getD 1 .any).toInt)+1)))],.vec 1 ((q6.tail.headD .dead).es)] fun r9 o9=>.need ((o9.headD .dead) = .cells (o9.headD .dead).cs)<|.need (hasC [.vec 1,.lk (.int .i64)] ((o9.headD .dead).cs) 0 1 o9.tail)<|NA r9<|.call 74 [.v (.string (mk [114,101,99])),.sl [[.v (.string ((y6.tail.tail.headD .any).toStr)),.v (.slice none 0 0)],[.v (.string ((r9.cs.getD 0 .any).toStr)),(r9.cs.getD 1 .any)]]] [] fun r10 o10=>NA r10<|.done 0 [.agg [.v (.string ((r10.cs.getD 0 .any).toStr)),(r10.cs.getD 1 .any)]] [.cells [.vec 1,.v (.int .i64 (((o9.headD .dead).cs.getD 1 .any).toInt))],.vec 1 ((o9.tail.headD .dead).es)]) (fun y6 q6=>.need ((q6.headD .dead) = .cells (q6.headD .dead).cs)<|.need (hasK [.vec 1,.lk (.int .i64)] ((q6.headD .dead).cs) 0 q6.tail)<|.fail)) (NG a0_1 1 2<|NE (a0_1.elems.getD (1:Int).toNat [])<|.call 132 [.agg [.v (.string (((a0_1.elems.getD (1:Int).toNat []).getD 0 .any).toStr)),((a0_1.elems.getD (1:Int).toNat []).getD 1 .any)],a1,a2,.ref 0 0] [.cells [.vec 1,.v (.int .i64 a3_1)],.vec 1 e3_0] fun r11 o11=>.need ((o11.headD .dead) = .cells (o11.headD .dead).cs)<|.need (hasC [.vec 1,.lk (.int .i64)] ((o11.headD .dead).cs) 0 1 o11.tail)<|NA r11<|.call 65 [.agg [.v (.string a0_0),a0_1]] [] fun r12 o12=>NS r12<|NG a0_1 2 2<|NE (a0_1.elems.getD (2:Int).toNat [])<|.call 132 [.agg [.v (.string (((a0_1.elems.getD (2:Int).toNat []).getD 0 .any).toStr)),((a0_1.elems.getD (2:Int).toNat []).getD 1 .any)],a1,a2,.ref 0 0] [.cells [.vec 1,.v (.int .i64 (((o11.headD .dead).cs.getD 1 .any).toInt))],.vec 1 ((o11.tail.headD .dead).es)] fun r13 o13=>.need ((o13.headD .dead) = .cells (o13.headD .dead).cs)<|.need (hasC [.vec 1,.lk (.int .i64)] ((o13.headD .dead).cs) 0 1 o13.tail)<|NA r13<|.call 74 [.v (.string r12.toStr),.sl [[.v (.string ((r11.cs.getD 0 .any).toStr)),(r11.cs.getD 1 .any)],[.v (.string ((r13.cs.getD 0 .any).toStr)),(r13.cs.getD 1 .any)]]] [] fun r14 o14=>NA r14<|.done 0 [.agg [.v (.string ((r14.cs.getD 0 .any).toStr)),(r14.cs.getD 1 .any)]] [.cells [.vec 1,.v (.int .i64 (((o13.headD .dead).cs.getD 1 .any).toInt))],.vec 1 ((o13.tail.headD .dead).es)]))
theorem Fq2a (a0_0:ByteArray) (a0_1:AV) (a1:AV) (a2:AV) (e3_0:List (List AV)) (a3_1:Int) (ha0_1:LK.has .sl a0_1) (ha1:LK.has .sl a1) (ha2:LK.has .sl a2)  (h:wpT Tryz.prog 113 (tq1w a0_0 a0_1 a1 a2 e3_0 a3_1) fun _ xs obs=>R (xs.headD .any) obs):FSpec Tryz.prog 132 [.agg [.v (.string a0_0),a0_1],a1,a2,.ref 0 0] [.cells [.vec 1,.v (.int .i64 a3_1)],.vec 1 e3_0] R :=
 FSpec.upo (upos_cons (upo_cells (up_cons (up_refl _) (up_cons (up_refl _) up_nil))) (upos_cons (upo_refl _) upos_nil)) (FSpec.up (up_cons (up_agg (up_cons (up_refl _) (up_cons (up_sl ha0_1) up_nil))) (up_cons (up_sl ha1) (up_cons (up_sl ha2) (up_cons (up_refl _) up_nil)))) (FSpec.ofE (cfg:=cfg) (lis:=lq4z) (fc:={ mu:=[(3,.one (.obj [.vec 1,.lk (.int .i64)]))],own:=[] }) tab_ok mixed (F:=Tryz.f132) (by kernel_rfl) (by kernel_rfl) (by kernel_rfl) h))
def rq5g (x1:AV) (x2:AV) (x9:Int) (o4_0:ByteArray) (o4_1:AV) (o8_0:ByteArray) (o8_1:AV) (o0_0:List (List AV)) (o0_1:Int):Tree :=
 NL x1<|NL x2<|NI (.v (.int .i64 x9))<|.need (Ob.cells [.v (.string o4_0),o4_1] = .cells [.v (.string o4_0),o4_1])<|.need (hasK [.lk .str,.lk .sl] [.v (.string o4_0),o4_1] 0 [.cells [.v (.string o8_0),o8_1],.cells [.any,.v (.int .i64 o0_1)],.vec 1 o0_0])<|.need (Ob.cells [.v (.string o8_0),o8_1] = .cells [.v (.string o8_0),o8_1])<|.need (hasK [.lk .str,.lk .sl] [.v (.string o8_0),o8_1] 0 [.cells [.any,.v (.int .i64 o0_1)],.vec 1 o0_0])<|.need (Ob.cells [.any,.v (.int .i64 o0_1)] = .cells [.any,.v (.int .i64 o0_1)])<|.need (hasK [.vec 1,.lk (.int .i64)] [.any,.v (.int .i64 o0_1)] 0 [.vec 1 o0_0])<|.test (decide (x9 ≥ (0:Int))) (NG x1 x9 1<|NSh (x1.elems.getD x9.toNat [])<|.test (ByteArray.toList (((x1.elems.getD x9.toNat []).headD .any).toStr)==ByteArray.toList o4_0) (NG x2 x9 1<|NSh (x2.elems.getD x9.toNat [])<|.done 2 [] [.cells [.v (.string (((x2.elems.getD x9.toNat []).headD .any).toStr)),.v (.slice none 0 0)],.cells [.any,.v (.int .i64 o0_1)],.vec 1 o0_0]) (.done 0 [x1,x2,.v (.int .i64 (IntKind.wrap .i64 (x9 - 1)))] [.cells [.v (.string o4_0),o4_1],.cells [.v (.string o8_0),o8_1],.cells [.any,.v (.int .i64 o0_1)],.vec 1 o0_0])) (.done 1 [] [.cells [.v (.string o4_0),o4_1],.cells [.v (.string o8_0),o8_1],.cells [.any,.v (.int .i64 o0_1)],.vec 1 o0_0])
abbrev Lq4t:=LSpec Tryz.prog 113 Cq6f Lq4u
theorem Gq7u (x1:AV) (x2:AV) (x9:Int) (o4_0:ByteArray) (o4_1:AV) (o8_0:ByteArray) (o8_1:AV) (o0_0:List (List AV)) (o0_1:Int) {R:RL} (h:wpT Tryz.prog 113 (rq5g x1 x2 x9 o4_0 o4_1 o8_0 o8_1 o0_0 o0_1) (Rnd (fun ys o=>Lq4t ys o R) R)):Lq4t [x1,x2,.v (.int .i64 x9)] [.cells [.v (.string o4_0),o4_1],.cells [.v (.string o8_0),o8_1],.cells [.any,.v (.int .i64 o0_1)],.vec 1 o0_0] R :=
 LSpec.ofE (cfg:=cfg) (lis:=lq4z) tab_ok mixed (by kernel_rfl) h
def rqa1 (x1:AV) (x2:AV) (x10:ByteArray) (o0_0:List (List AV)) (o0_1:Int) (o4_0:ByteArray) (o4_1:AV) (o8_0:ByteArray) (o8_1:AV):Tree :=
 NL x1<|NL x2<|NS (.v (.string x10))<|.need (Ob.cells [.any,.v (.int .i64 o0_1)] = .cells [.any,.v (.int .i64 o0_1)])<|.need (hasK [.vec 1,.lk (.int .i64)] [.any,.v (.int .i64 o0_1)] 0 [.vec 1 o0_0,.cells [.v (.string o4_0),o4_1],.cells [.v (.string o8_0),o8_1]])<|.need (Ob.cells [.v (.string o4_0),o4_1] = .cells [.v (.string o4_0),o4_1])<|.need (hasK [.lk .str,.lk .sl] [.v (.string o4_0),o4_1] 0 [.cells [.v (.string o8_0),o8_1]])<|.need (Ob.cells [.v (.string o8_0),o8_1] = .cells [.v (.string o8_0),o8_1])<|.need (hasK [.lk .str,.lk .sl] [.v (.string o8_0),o8_1] 0 [])<|.call 133 [.sl o0_0,.v (.string x10)] [] fun r1 o1=>NB r1<|.test r1.toBool (.call 150 [.v (.int .i64 (IntKind.wrap .i64 (o0_1+1)))] [] fun r2 o2=>NS r2<|.need (ByteArray.size (mk [116])+ByteArray.size r2.toStr<=9223372036854775807)<|.done 0 [x1,x2,.v (.string (((mk [116]):ByteArray)++r2.toStr))] [.cells [.any,.v (.int .i64 (IntKind.wrap .i64 (o0_1+1)))],.vec 1 o0_0,.cells [.v (.string o4_0),o4_1],.cells [.v (.string o8_0),o8_1]]) (.done 1 [x1,x2,.v (.string x10)] [.cells [.any,.v (.int .i64 o0_1)],.vec 1 o0_0,.cells [.v (.string o4_0),o4_1],.cells [.v (.string o8_0),o8_1]])
abbrev Lq5d:=LSpec Tryz.prog 113 Cqbs Lq3q
theorem Gqdz (x1:AV) (x2:AV) (x10:ByteArray) (o0_0:List (List AV)) (o0_1:Int) (o4_0:ByteArray) (o4_1:AV) (o8_0:ByteArray) (o8_1:AV) {R:RL} (h:wpT Tryz.prog 113 (rqa1 x1 x2 x10 o0_0 o0_1 o4_0 o4_1 o8_0 o8_1) (Rnd (fun ys o=>Lq5d ys o R) R)):Lq5d [x1,x2,.v (.string x10)] [.cells [.any,.v (.int .i64 o0_1)],.vec 1 o0_0,.cells [.v (.string o4_0),o4_1],.cells [.v (.string o8_0),o8_1]] R :=
 LSpec.ofE (cfg:=cfg) (lis:=lq4z) tab_ok mixed (by kernel_rfl) h
def Lq45:LI:={ hd:={ slots:=[(0,.k .sl),(1,.k .str),(5,.k (.int .i64))] },xs:={},rt:={ slots:=[(4,.k .bool)] },ex:=0 }
def Cq9e:Code:=loopAt (bodyOf Tryz.f133) 2
def lq7v:List (Nat×LI):=[(2,Lq45)]
def tqaq (a0:AV) (a1:ByteArray):Tree :=
 .loop Cq9e Lq45 [a0,.v (.string a1),.v (.int .i64 0)] [] (fun y1 q1=>.done 0 [.v (.bool false)] []) (fun y1 q1=>NB (y1.headD .any)<|.done 0 [.v (.bool ((y1.headD .any).toBool))] [])
theorem Fqfe (a0:AV) (a1:ByteArray) (ha0:LK.has .sl a0)  (h:wpT Tryz.prog 18 (tqaq a0 a1) fun _ xs obs=>R (xs.headD .any) obs):FSpec Tryz.prog 133 [a0,.v (.string a1)] [] R :=
 uQ (up_cons (up_sl ha0) (up_cons (up_refl _) up_nil)) (oQ lq7v Tryz.f133 (by kernel_rfl) (by kernel_rfl) (by kernel_rfl) h)
def rq59 (x0:AV) (x1:ByteArray) (x5:Int):Tree :=
 NL x0<|NS (.v (.string x1))<|NI (.v (.int .i64 x5))<|NL x0<|.test (decide (x5 < (x0.elems.length:Int))) (NG x0 x5 1<|NSh (x0.elems.getD x5.toNat [])<|.test (ByteArray.toList (((x0.elems.getD x5.toNat []).headD .any).toStr)==ByteArray.toList x1) (.done 2 [.v (.bool true)] []) (.done 0 [x0,.v (.string x1),.v (.int .i64 (IntKind.wrap .i64 (x5+1)))] [])) (.done 1 [] [])
abbrev Lq3i:=LSpec Tryz.prog 18 Cq9e Lq45
theorem Gqan (x0:AV) (x1:ByteArray) (x5:Int) {R:RL} (h:wpT Tryz.prog 18 (rq59 x0 x1 x5) (Rnd (fun ys o=>Lq3i ys o R) R)):Lq3i [x0,.v (.string x1),.v (.int .i64 x5)] [] R :=
 LSpec.ofE (cfg:=cfg) (lis:=lq7v) tab_ok mixed (by kernel_rfl) h
def tq85 (a0:AV) (a1:ByteArray):Tree :=
 .need (LK.has .sl a0/\allLen 1 a0.elems/\((([]:List (List AV)).length)+a0.elems.length)*16<=140737488355328)<|.need (allLen 1 [[.v (.string a1)]]/\(((([]:List (List AV))++a0.elems).length)+([[.v (.string a1)]]:List (List AV)).length)*16<=140737488355328)<|.done 0 [.sl ((([]:List (List AV))++a0.elems)++([[.v (.string a1)]]:List (List AV)))] []
theorem Fqg7 (a0:AV) (a1:ByteArray) (ha0:LK.has .sl a0)  (h:wpT Tryz.prog 11 (tq85 a0 a1) fun _ xs obs=>R (xs.headD .any) obs):FSpec Tryz.prog 134 [a0,.v (.string a1)] [] R :=
 uQ (up_cons (up_sl ha0) (up_cons (up_refl _) up_nil)) (oQ [] Tryz.f134 (by kernel_rfl) (by kernel_rfl) (by kernel_rfl) h)
def Lq4s:LI:={ hd:={ slots:=[(0,.k .str),(7,.k (.int .i64))] },xs:={},rt:={ slots:=[(6,.k .bool)] },ex:=0 }
def Cqb1:Code:=loopAt (bodyOf Tryz.f135) 4
def lqc1:List (Nat×LI):=[(4,Lq4s)]
def tqbg (a0:ByteArray) (a1:Int) (a2:Int):Tree :=
 .call 69 [.v (.int .i64 (ByteArray.size a0:Int)),.v (.int .i64 1),.v (.int .i64 3)] [] fun r1 o1=>NB r1<|.test (!r1.toBool) (.done 0 [.v (.bool false)] []) (.need (0<=(0:Int)/\(0:Int) < ByteArray.size a0)<|.test (decide ((bt a0 0) < a1)) (.done 0 [.v (.bool false)] []) (.need (0<=(0:Int)/\(0:Int) < ByteArray.size a0)<|.test (decide ((bt a0 0) > a2)) (.done 0 [.v (.bool false)] []) (.loop Cqb1 Lq4s [.v (.string a0),.v (.int .i64 1)] [] (fun y2 q2=>.done 0 [.v (.bool true)] []) (fun y2 q2=>NB (y2.headD .any)<|.done 0 [.v (.bool ((y2.headD .any).toBool))] []))))
theorem Fqgi (a0:ByteArray) (a1:Int) (a2:Int)   (h:wpT Tryz.prog 40 (tqbg a0 a1 a2) fun _ xs obs=>R (xs.headD .any) obs):FSpec Tryz.prog 135 [.v (.string a0),.v (.int .u8 a1),.v (.int .u8 a2)] [] R :=
 uQ (up_cons (up_refl _) (up_cons (up_refl _) (up_cons (up_refl _) up_nil))) (oQ lqc1 Tryz.f135 (by kernel_rfl) (by kernel_rfl) (by kernel_rfl) h)
def rq3g (x0:ByteArray) (x7:Int):Tree :=
 NS (.v (.string x0))<|NI (.v (.int .i64 x7))<|.test (decide (x7 < (ByteArray.size x0:Int))) (.need (0<=x7/\x7 < ByteArray.size x0)<|.test (decide ((bt x0 x7) < (48:Int))) (.done 2 [.v (.bool false)] []) (.need (0<=x7/\x7 < ByteArray.size x0)<|.test (decide ((bt x0 x7) > (57:Int))) (.done 2 [.v (.bool false)] []) (.done 0 [.v (.string x0),.v (.int .i64 (IntKind.wrap .i64 (x7+1)))] []))) (.done 1 [] [])
abbrev Lq5i:=LSpec Tryz.prog 40 Cqb1 Lq4s
theorem Gq8k (x0:ByteArray) (x7:Int) {R:RL} (h:wpT Tryz.prog 40 (rq3g x0 x7) (Rnd (fun ys o=>Lq5i ys o R) R)):Lq5i [.v (.string x0),.v (.int .i64 x7)] [] R :=
 LSpec.ofE (cfg:=cfg) (lis:=lqc1) tab_ok mixed (by kernel_rfl) h
def tqb6 (a0:Int):Tree :=
 .test (decide (a0 ≥ (97:Int))) (.test (decide (a0<=(122:Int))) (.done 0 [.v (.bool true)] []) (.test (decide (a0 ≥ (48:Int))) (.test (decide (a0<=(57:Int))) (.done 0 [.v (.bool true)] []) (.test (a0==(42:Int)) (.done 0 [.v (.bool true)] []) (.done 0 [.v (.bool (a0==(43:Int)))] []))) (.test (a0==(42:Int)) (.done 0 [.v (.bool true)] []) (.done 0 [.v (.bool (a0==(43:Int)))] [])))) (.test (decide (a0 ≥ (48:Int))) (.test (decide (a0<=(57:Int))) (.done 0 [.v (.bool true)] []) (.test (a0==(42:Int)) (.done 0 [.v (.bool true)] []) (.done 0 [.v (.bool (a0==(43:Int)))] []))) (.test (a0==(42:Int)) (.done 0 [.v (.bool true)] []) (.done 0 [.v (.bool (a0==(43:Int)))] [])))
theorem Fqds (a0:Int)   (h:wpT Tryz.prog 25 (tqb6 a0) fun _ xs obs=>R (xs.headD .any) obs):FSpec Tryz.prog 136 [.v (.int .u8 a0)] [] R :=
 uQ (up_cons (up_refl _) up_nil) (oQ [] Tryz.f136 (by kernel_rfl) (by kernel_rfl) (by kernel_rfl) h)
def tqca (a0:Int):Tree :=
 .test (decide (a0 ≥ (97:Int))) (.test (decide (a0<=(122:Int))) (.done 0 [.v (.bool true)] []) (.test (decide (a0 ≥ (48:Int))) (.test (decide (a0<=(57:Int))) (.done 0 [.v (.bool true)] []) (.test (a0==(43:Int)) (.done 0 [.v (.bool true)] []) (.done 0 [.v (.bool (a0==(42:Int)))] []))) (.test (a0==(43:Int)) (.done 0 [.v (.bool true)] []) (.done 0 [.v (.bool (a0==(42:Int)))] [])))) (.test (decide (a0 ≥ (48:Int))) (.test (decide (a0<=(57:Int))) (.done 0 [.v (.bool true)] []) (.test (a0==(43:Int)) (.done 0 [.v (.bool true)] []) (.done 0 [.v (.bool (a0==(42:Int)))] []))) (.test (a0==(43:Int)) (.done 0 [.v (.bool true)] []) (.done 0 [.v (.bool (a0==(42:Int)))] [])))
theorem Fqcu (a0:Int)   (h:wpT Tryz.prog 25 (tqca a0) fun _ xs obs=>R (xs.headD .any) obs):FSpec Tryz.prog 137 [.v (.int .u8 a0)] [] R :=
 uQ (up_cons (up_refl _) up_nil) (oQ [] Tryz.f137 (by kernel_rfl) (by kernel_rfl) (by kernel_rfl) h)
def tq72 (a0:ByteArray) (a1:ByteArray):Tree :=
 .test (decide ((ByteArray.size a0:Int) ≥ (1:Int))) (.test (decide ((ByteArray.size a0:Int)<=(3:Int))) (.need (0<=(0:Int)/\(0:Int)<=(1:Int)/\(1:Int)<=(ByteArray.size a0:Int))<|.call 153 [.v (.string a1),.v (.string (ByteArray.extract a0 (Int.toNat 0) (Int.toNat 1)))] [] fun r1 o1=>NB r1<|.test r1.toBool (.need (0<=(1:Int)/\(1:Int)<=(ByteArray.size a0:Int)/\(ByteArray.size a0:Int)<=(ByteArray.size a0:Int))<|.call 144 [.v (.string (ByteArray.extract a0 (Int.toNat 1) (Int.toNat (ByteArray.size a0:Int)))),.v (.string (mk [48,49,50,51,52,53,54,55,56,57]))] [] fun r2 o2=>NS r2<|.done 0 [.v (.bool (ByteArray.toList r2.toStr==ByteArray.toList (mk [])))] []) (.done 0 [.v (.bool false)] [])) (.done 0 [.v (.bool false)] [])) (.done 0 [.v (.bool false)] [])
theorem Fqfy (a0:ByteArray) (a1:ByteArray)   (h:wpT Tryz.prog 25 (tq72 a0 a1) fun _ xs obs=>R (xs.headD .any) obs):FSpec Tryz.prog 138 [.v (.string a0),.v (.string a1)] [] R :=
 uQ (up_cons (up_refl _) (up_cons (up_refl _) up_nil)) (oQ [] Tryz.f138 (by kernel_rfl) (by kernel_rfl) (by kernel_rfl) h)
def tqe (a0:AV) (e1_0_0:List (List AV)):Tree :=
 .call 141 [a0,.ref 0 0] [.cells [.vec 1],.vec 1 e1_0_0] fun r1 o1=>.need ((o1.headD .dead) = .cells (o1.headD .dead).cs)<|.need (hasC [.vec 1] ((o1.headD .dead).cs) 0 1 o1.tail)<|NZ a0<|NZ a0<|NPh (a0.deref.drop 3)<|NP ((a0.deref.drop 3).headD .any)<|.test (!((a0.deref.drop 3).headD .any).isNil) (NZ a0<|NZ a0<|NPh (a0.deref.drop 3)<|.call 140 [((a0.deref.drop 3).headD .any),.fn 141 [.ref 0 0]] [.cells [.vec 1],.vec 1 ((o1.tail.headD .dead).es)] fun r2 o2=>.need ((o2.headD .dead) = .cells (o2.headD .dead).cs)<|.need (hasC [.vec 1] ((o2.headD .dead).cs) 0 1 o2.tail)<|NZ a0<|NZ a0<|NPh (a0.deref.drop 4)<|NP ((a0.deref.drop 4).headD .any)<|.test (!((a0.deref.drop 4).headD .any).isNil) (NZ a0<|NZ a0<|NPh (a0.deref.drop 4)<|.call 140 [((a0.deref.drop 4).headD .any),.fn 141 [.ref 0 0]] [.cells [.vec 1],.vec 1 ((o2.tail.headD .dead).es)] fun r3 o3=>.need ((o3.headD .dead) = .cells (o3.headD .dead).cs)<|.need (hasC [.vec 1] ((o3.headD .dead).cs) 0 1 o3.tail)<|.done 0 [.any] [.cells [.vec 1],.vec 1 ((o3.tail.headD .dead).es)]) (.done 0 [.any] [.cells [.vec 1],.vec 1 ((o2.tail.headD .dead).es)])) (NZ a0<|NZ a0<|NPh (a0.deref.drop 4)<|NP ((a0.deref.drop 4).headD .any)<|.test (!((a0.deref.drop 4).headD .any).isNil) (NZ a0<|NZ a0<|NPh (a0.deref.drop 4)<|.call 140 [((a0.deref.drop 4).headD .any),.fn 141 [.ref 0 0]] [.cells [.vec 1],.vec 1 ((o1.tail.headD .dead).es)] fun r4 o4=>.need ((o4.headD .dead) = .cells (o4.headD .dead).cs)<|.need (hasC [.vec 1] ((o4.headD .dead).cs) 0 1 o4.tail)<|.done 0 [.any] [.cells [.vec 1],.vec 1 ((o4.tail.headD .dead).es)]) (.done 0 [.any] [.cells [.vec 1],.vec 1 ((o1.tail.headD .dead).es)]))
theorem Fqz (a0:AV) (e1_0_0:List (List AV)) (ha0:LK.has .ptr a0)  (h:wpT Tryz.prog 29 (tqe a0 e1_0_0) fun _ xs obs=>R (xs.headD .any) obs):FSpec Tryz.prog 140 [a0,.fn 141 [.ref 0 0]] [.cells [.vec 1],.vec 1 e1_0_0] R :=
 FSpec.upo (upos_cons (upo_cells (up_cons (up_refl _) up_nil)) (upos_cons (upo_refl _) upos_nil)) (FSpec.up (up_cons (up_ptr ha0) (up_cons (up_refl _) up_nil)) (FSpec.ofE (cfg:=cfg) (lis:=[]) (fc:={ mu:=[(1,.fn [some (.obj [.vec 1])])],own:=[] }) tab_ok mixed (F:=Tryz.f140) (by kernel_rfl) (by kernel_rfl) (by kernel_rfl) h))
def tq2w (a0:AV) (e1_0:List (List AV)):Tree :=
 NZ a0<|NZ a0<|.need (LK.has (.int .u8) (a0.deref.headD .any)/\1<=a0.deref.length)<|.test (((a0.deref.headD .any).toInt)==(110:Int)) (NZ a0<|NZ a0<|NSh (a0.deref.drop 1)<|.call 124 [.sl e1_0,.v (.string (((a0.deref.drop 1).headD .any).toStr))] [] fun r1 o1=>NB r1<|.test (!r1.toBool) (NZ a0<|NZ a0<|NSh (a0.deref.drop 1)<|.need (allLen 1 [[.v (.string (((a0.deref.drop 1).headD .any).toStr))]]/\((e1_0.length)+([[.v (.string (((a0.deref.drop 1).headD .any).toStr))]]:List (List AV)).length)*16<=140737488355328)<|.done 0 [.any] [.cells [.vec 1],.vec 1 (e1_0++([[.v (.string (((a0.deref.drop 1).headD .any).toStr))]]:List (List AV)))]) (.done 0 [.any] [.cells [.vec 1],.vec 1 e1_0])) (.done 0 [.any] [.cells [.vec 1],.vec 1 e1_0])
theorem Fqdj (a0:AV) (e1_0:List (List AV)) (ha0:LK.has .ptr a0)  (h:wpT Tryz.prog 24 (tq2w a0 e1_0) fun _ xs obs=>R (xs.headD .any) obs):FSpec Tryz.prog 141 [a0,.ref 0 0] [.cells [.vec 1],.vec 1 e1_0] R :=
 FSpec.upo (upos_cons (upo_cells (up_cons (up_refl _) up_nil)) (upos_cons (upo_refl _) upos_nil)) (FSpec.up (up_cons (up_ptr ha0) (up_cons (up_refl _) up_nil)) (FSpec.ofE (cfg:=cfg) (lis:=[]) (fc:={ mu:=[(1,.one (.obj [.vec 1]))],own:=[] }) tab_ok mixed (F:=Tryz.f141) (by kernel_rfl) (by kernel_rfl) (by kernel_rfl) h))
def Lq49:LI:={ hd:={ slots:=[(0,.k .sl),(1,.k .str),(7,.k (.int .i64)),(8,.k (.int .i64))] },xs:={},rt:={ slots:=[(4,.k (.int .i64))] },ex:=0 }
def Cq97:Code:=loopAt (bodyOf Tryz.f142) 2
def lq89:List (Nat×LI):=[(2,Lq49)]
def tqbf (a0:AV) (a1:ByteArray):Tree :=
 NL a0<|.loop Cq97 Lq49 [a0,.v (.string a1),.v (.int .i64 (a0.elems.length:Int)),.v (.int .i64 0)] [] (fun y1 q1=>.done 0 [.v (.int .i64 (-1))] []) (fun y1 q1=>NI (y1.headD .any)<|.done 0 [.v (.int .i64 ((y1.headD .any).toInt))] [])
theorem Fqed (a0:AV) (a1:ByteArray) (ha0:LK.has .sl a0)  (h:wpT Tryz.prog 19 (tqbf a0 a1) fun _ xs obs=>R (xs.headD .any) obs):FSpec Tryz.prog 142 [a0,.v (.string a1)] [] R :=
 uQ (up_cons (up_sl ha0) (up_cons (up_refl _) up_nil)) (oQ lq89 Tryz.f142 (by kernel_rfl) (by kernel_rfl) (by kernel_rfl) h)
def rq5n (x0:AV) (x1:ByteArray) (x7:Int) (x8:Int):Tree :=
 NL x0<|NS (.v (.string x1))<|NI (.v (.int .i64 x7))<|NI (.v (.int .i64 x8))<|.test (decide (x8 < x7)) (NG x0 x8 1<|NSh (x0.elems.getD x8.toNat [])<|.test (ByteArray.toList x1==ByteArray.toList (((x0.elems.getD x8.toNat []).headD .any).toStr)) (.done 2 [.v (.int .i64 x8)] []) (.done 0 [x0,.v (.string x1),.v (.int .i64 x7),.v (.int .i64 (IntKind.wrap .i64 (x8+1)))] [])) (.done 1 [] [])
abbrev Lq3d:=LSpec Tryz.prog 19 Cq97 Lq49
theorem Gq6n (x0:AV) (x1:ByteArray) (x7:Int) (x8:Int) {R:RL} (h:wpT Tryz.prog 19 (rq5n x0 x1 x7 x8) (Rnd (fun ys o=>Lq3d ys o R) R)):Lq3d [x0,.v (.string x1),.v (.int .i64 x7),.v (.int .i64 x8)] [] R :=
 LSpec.ofE (cfg:=cfg) (lis:=lq89) tab_ok mixed (by kernel_rfl) h
def Lq54:LI:={ hd:={ slots:=[(0,.k .sl),(1,.c (.func (.func 118) #[] #[])),(7,.k (.int .i64)),(8,.k (.int .i64))] },xs:={},rt:={ slots:=[(4,.k (.int .i64))] },ex:=0 }
def Cqba:Code:=loopAt (bodyOf Tryz.f143) 2
def lqcc:List (Nat×LI):=[(2,Lq54)]
def tq8r (a0:AV):Tree :=
 NL a0<|.loop Cqba Lq54 [a0,.v (.func (.func 118) #[] #[]),.v (.int .i64 (a0.elems.length:Int)),.v (.int .i64 0)] [] (fun y2 q2=>.done 0 [.v (.int .i64 (-1))] []) (fun y2 q2=>NI (y2.headD .any)<|.done 0 [.v (.int .i64 ((y2.headD .any).toInt))] [])
theorem Fqdb (a0:AV) (ha0:LK.has .sl a0)  (h:wpT Tryz.prog 19 (tq8r a0) fun _ xs obs=>R (xs.headD .any) obs):FSpec Tryz.prog 143 [a0,.v (.func (.func 118) #[] #[])] [] R :=
 uQ (up_cons (up_sl ha0) (up_cons (up_refl _) up_nil)) (oQ lqcc Tryz.f143 (by kernel_rfl) (by kernel_rfl) (by kernel_rfl) h)
def rq3x (x0:AV) (x7:Int) (x8:Int):Tree :=
 NL x0<|.need (AV.v (.func (.func 118) #[] #[]) = .v (.func (.func 118) #[] #[]))<|NI (.v (.int .i64 x7))<|NI (.v (.int .i64 x8))<|.test (decide (x8 < x7)) (NG x0 x8 1<|NSh (x0.elems.getD x8.toNat [])<|.call 118 [.v (.string (((x0.elems.getD x8.toNat []).headD .any).toStr))] [] fun r1 o1=>NB r1<|.test r1.toBool (.done 2 [.v (.int .i64 x8)] []) (.done 0 [x0,.v (.func (.func 118) #[] #[]),.v (.int .i64 x7),.v (.int .i64 (IntKind.wrap .i64 (x8+1)))] [])) (.done 1 [] [])
abbrev Lq4d:=LSpec Tryz.prog 19 Cqba Lq54
theorem Gqcs (x0:AV) (x7:Int) (x8:Int) {R:RL} (h:wpT Tryz.prog 19 (rq3x x0 x7 x8) (Rnd (fun ys o=>Lq4d ys o R) R)):Lq4d [x0,.v (.func (.func 118) #[] #[]),.v (.int .i64 x7),.v (.int .i64 x8)] [] R :=
 LSpec.ofE (cfg:=cfg) (lis:=lqcc) tab_ok mixed (by kernel_rfl) h
def tq8q (a0:Int):Tree :=
 .test (decide (a0 < ((-9223372036854775807):Int))) (.done 0 [.v (.string (mk [45,57,50,50,51,51,55,50,48,51,54,56,53,52,55,55,53,56,48,56]))] []) (.test (decide (a0 < (0:Int))) (.call 150 [.v (.int .i64 (IntKind.wrap .i64 (0 - a0)))] [] fun r1 o1=>NS r1<|.need (ByteArray.size (mk [45])+ByteArray.size r1.toStr<=9223372036854775807)<|.done 0 [.v (.string (((mk [45]):ByteArray)++r1.toStr))] []) (.test (decide (a0 < (10:Int))) (.need (allU8 [[.v (.int .u8 (IntKind.wrap .u8 (IntKind.wrap .i64 (48+a0))))]])<|.done 0 [.v (.string (⟨(bytesOf [[.v (.int .u8 (IntKind.wrap .u8 (IntKind.wrap .i64 (48+a0))))]]).toArray⟩))] []) (.need (¬ (10:Int) = 0)<|.call 150 [.v (.int .i64 (IntKind.wrap .i64 (Int.tdiv a0 10)))] [] fun r2 o2=>NS r2<|.need (¬ (10:Int) = 0)<|.need (allU8 [[.v (.int .u8 (IntKind.wrap .u8 (IntKind.wrap .i64 (48+(Int.tmod a0 10)))))]])<|.need (ByteArray.size r2.toStr+ByteArray.size (⟨(bytesOf [[.v (.int .u8 (IntKind.wrap .u8 (IntKind.wrap .i64 (48+(Int.tmod a0 10)))))]]).toArray⟩)<=9223372036854775807)<|.done 0 [.v (.string ((r2.toStr:ByteArray)++(⟨(bytesOf [[.v (.int .u8 (IntKind.wrap .u8 (IntKind.wrap .i64 (48+(Int.tmod a0 10)))))]]).toArray⟩)))] [])))
theorem Fqfq (a0:Int)   (h:wpT Tryz.prog 28 (tq8q a0) fun _ xs obs=>R (xs.headD .any) obs):FSpec Tryz.prog 150 [.v (.int .i64 a0)] [] R :=
 uQ (up_cons (up_refl _) up_nil) (oQ [] Tryz.f150 (by kernel_rfl) (by kernel_rfl) (by kernel_rfl) h)
def tq1s (a0_0:ByteArray) (a0_1:AV) (a1:ByteArray):Tree :=
 .test (!(ByteArray.toList a0_0==ByteArray.toList (mk []))) (.test (ByteArray.toList a0_0==ByteArray.toList a1) (.done 0 [.v (.int .i64 1)] []) (.done 0 [.v (.int .i64 0)] [])) (.call 65 [.agg [.v (.string a0_0),a0_1]] [] fun r1 o1=>NS r1<|.test (ByteArray.toList r1.toStr==ByteArray.toList (mk [114,101,99])) (NG a0_1 1 2<|NSh (a0_1.elems.getD (1:Int).toNat [])<|.test (ByteArray.toList (((a0_1.elems.getD (1:Int).toNat []).headD .any).toStr)==ByteArray.toList a1) (.done 0 [.v (.int .i64 0)] []) (NG a0_1 2 2<|NE (a0_1.elems.getD (2:Int).toNat [])<|.call 151 [.agg [.v (.string (((a0_1.elems.getD (2:Int).toNat []).getD 0 .any).toStr)),((a0_1.elems.getD (2:Int).toNat []).getD 1 .any)],.v (.string a1)] [] fun r2 o2=>NI r2<|.done 0 [.v (.int .i64 r2.toInt)] [])) (NG a0_1 1 2<|NE (a0_1.elems.getD (1:Int).toNat [])<|.call 151 [.agg [.v (.string (((a0_1.elems.getD (1:Int).toNat []).getD 0 .any).toStr)),((a0_1.elems.getD (1:Int).toNat []).getD 1 .any)],.v (.string a1)] [] fun r3 o3=>NI r3<|NG a0_1 2 2<|NE (a0_1.elems.getD (2:Int).toNat [])<|.call 151 [.agg [.v (.string (((a0_1.elems.getD (2:Int).toNat []).getD 0 .any).toStr)),((a0_1.elems.getD (2:Int).toNat []).getD 1 .any)],.v (.string a1)] [] fun r4 o4=>NI r4<|.done 0 [.v (.int .i64 (IntKind.wrap .i64 (r3.toInt+r4.toInt)))] []))
theorem Fq2j (a0_0:ByteArray) (a0_1:AV) (a1:ByteArray) (ha0_1:LK.has .sl a0_1)  (h:wpT Tryz.prog 41 (tq1s a0_0 a0_1 a1) fun _ xs obs=>R (xs.headD .any) obs):FSpec Tryz.prog 151 [.agg [.v (.string a0_0),a0_1],.v (.string a1)] [] R :=
 uQ (up_cons (up_agg (up_cons (up_refl _) (up_cons (up_sl ha0_1) up_nil))) (up_cons (up_refl _) up_nil)) (oQ [] Tryz.f151 (by kernel_rfl) (by kernel_rfl) (by kernel_rfl) h)
def tq1v (a0_0:ByteArray) (a0_1:AV) (a1:ByteArray) (a2_0:ByteArray) (a2_1:AV):Tree :=
 .test (!(ByteArray.toList a0_0==ByteArray.toList (mk []))) (.test (ByteArray.toList a0_0==ByteArray.toList a1) (.done 0 [.agg [.v (.string a2_0),a2_1]] []) (.done 0 [.agg [.v (.string a0_0),a0_1]] [])) (.call 65 [.agg [.v (.string a0_0),a0_1]] [] fun r1 o1=>NS r1<|.test (ByteArray.toList r1.toStr==ByteArray.toList (mk [114,101,99])) (NG a0_1 1 2<|NSh (a0_1.elems.getD (1:Int).toNat [])<|.test (ByteArray.toList (((a0_1.elems.getD (1:Int).toNat []).headD .any).toStr)==ByteArray.toList a1) (.done 0 [.agg [.v (.string a0_0),a0_1]] []) (NG a0_1 1 2<|NE (a0_1.elems.getD (1:Int).toNat [])<|NG a0_1 2 2<|NE (a0_1.elems.getD (2:Int).toNat [])<|.call 152 [.agg [.v (.string (((a0_1.elems.getD (2:Int).toNat []).getD 0 .any).toStr)),((a0_1.elems.getD (2:Int).toNat []).getD 1 .any)],.v (.string a1),.agg [.v (.string a2_0),a2_1]] [] fun r2 o2=>NA r2<|.call 74 [.v (.string (mk [114,101,99])),.sl [[.v (.string (((a0_1.elems.getD (1:Int).toNat []).getD 0 .any).toStr)),((a0_1.elems.getD (1:Int).toNat []).getD 1 .any)],[.v (.string ((r2.cs.getD 0 .any).toStr)),(r2.cs.getD 1 .any)]]] [] fun r3 o3=>NA r3<|.done 0 [.agg [.v (.string ((r3.cs.getD 0 .any).toStr)),(r3.cs.getD 1 .any)]] [])) (.call 65 [.agg [.v (.string a0_0),a0_1]] [] fun r4 o4=>NS r4<|NG a0_1 1 2<|NE (a0_1.elems.getD (1:Int).toNat [])<|.call 152 [.agg [.v (.string (((a0_1.elems.getD (1:Int).toNat []).getD 0 .any).toStr)),((a0_1.elems.getD (1:Int).toNat []).getD 1 .any)],.v (.string a1),.agg [.v (.string a2_0),a2_1]] [] fun r5 o5=>NA r5<|NG a0_1 2 2<|NE (a0_1.elems.getD (2:Int).toNat [])<|.call 152 [.agg [.v (.string (((a0_1.elems.getD (2:Int).toNat []).getD 0 .any).toStr)),((a0_1.elems.getD (2:Int).toNat []).getD 1 .any)],.v (.string a1),.agg [.v (.string a2_0),a2_1]] [] fun r6 o6=>NA r6<|.call 74 [.v (.string r4.toStr),.sl [[.v (.string ((r5.cs.getD 0 .any).toStr)),(r5.cs.getD 1 .any)],[.v (.string ((r6.cs.getD 0 .any).toStr)),(r6.cs.getD 1 .any)]]] [] fun r7 o7=>NA r7<|.done 0 [.agg [.v (.string ((r7.cs.getD 0 .any).toStr)),(r7.cs.getD 1 .any)]] []))
theorem Fq2m (a0_0:ByteArray) (a0_1:AV) (a1:ByteArray) (a2_0:ByteArray) (a2_1:AV) (ha0_1:LK.has .sl a0_1) (ha2_1:LK.has .sl a2_1)  (h:wpT Tryz.prog 58 (tq1v a0_0 a0_1 a1 a2_0 a2_1) fun _ xs obs=>R (xs.headD .any) obs):FSpec Tryz.prog 152 [.agg [.v (.string a0_0),a0_1],.v (.string a1),.agg [.v (.string a2_0),a2_1]] [] R :=
 uQ (up_cons (up_agg (up_cons (up_refl _) (up_cons (up_sl ha0_1) up_nil))) (up_cons (up_refl _) (up_cons (up_agg (up_cons (up_refl _) (up_cons (up_sl ha2_1) up_nil))) up_nil))) (oQ [] Tryz.f152 (by kernel_rfl) (by kernel_rfl) (by kernel_rfl) h)
end
end Go.Proofs.Trees
namespace Go.Proofs.Trees
open Go Go.VL
theorem wrap_succ (i:Nat) (h:i < 1000000000000):IntKind.wrap .i64 ((i:Int)+1) = ((i+1:Nat):Int):=by rw [wrap64]<;>omega
inductive E where
 | atom (s:List UInt8)
 | list (l:List E)
mutual
def E.iav:E->AV
 | .atom s=>.ptr [.v (.string (mk s)),.v (.slice none 0 0)]
 | .list l=>.ptr [.v (.string (mk [])),.sl (E.iavs l)]
def E.iavs:List E->List (List AV)
 | []=>[]
 | e::l=>[e.iav]::E.iavs l
end
mutual
def E.scells:E->List AV
 | .atom s=>[.v (.string (mk s)),.v (.slice none 0 0)]
 | .list l=>[.v (.string (mk [])),.sl (E.scellss l)]
def E.scellss:List E->List (List AV)
 | []=>[]
 | e::l=>e.scells::E.scellss l
end
def E.sav (e:E):AV:=.agg e.scells
theorem iavs_app (l r:List E):E.iavs (l++r) = E.iavs l++E.iavs r:=by
 induction l with
 | nil=>rfl
 | cons e l ih=>simp [E.iavs,ih]
theorem scellss_app (l r:List E):E.scellss (l++r) = E.scellss l++E.scellss r:=by
 induction l with
 | nil=>rfl
 | cons e l ih=>simp [E.scellss,ih]
theorem iavs_len (l:List E):(E.iavs l).length = l.length:=by
 induction l with
 | nil=>rfl
 | cons e l ih=>simp [E.iavs,ih]
theorem scellss_len (l:List E):(E.scellss l).length = l.length:=by
 induction l with
 | nil=>rfl
 | cons e l ih=>simp [E.scellss,ih]
def isA (b:UInt8):Bool:=decide ((97<=b.toNat/\b.toNat<=122)\/(48<=b.toNat/\b.toNat<=57)\/b.toNat = 43\/b.toNat = 42)
def rdL (f:List UInt8->Option (E×List UInt8)):Nat->List UInt8->List E->Option (E×List UInt8)
 | 0,_,_=>none
 | n+1,s,acc=>match f s with
  | some (p,c::r)=>if c.toNat = 41 then some (.list (acc++[p]),r) else if c.toNat = 32 then rdL f n r (acc++[p]) else none
  | _=>none
def rd:Nat->List UInt8->Option (E×List UInt8)
 | 0,s=>if s.takeWhile isA = [] then none else some (.atom (s.takeWhile isA),s.dropWhile isA)
 | k+1,s=>if s.takeWhile isA = [] then(match s with
   | c::r=>if c.toNat = 40 then rdL (rd k) (r.length+1) r [] else none
   | []=>none) else some (.atom (s.takeWhile isA),s.dropWhile isA)
theorem rdL_lt {f:List UInt8->Option (E×List UInt8)} (hf:∀s e r,f s = some (e,r)->r.length < s.length):∀(n:Nat) (s:List UInt8) (acc:List E) (e:E) (r:List UInt8),rdL f n s acc = some (e,r)->r.length < s.length
 | 0,s,acc,e,r,h=>by cases h
 | n+1,s,acc,e,r,h=>by
  simp only [rdL] at h
  split at h
  ·rename_i p c r' hs
   have:=hf _ _ _ hs
   simp only [List.length_cons] at this
   split at h
   ·cases h; omega
   ·split at h
    ·have:=rdL_lt hf n _ _ _ _ h; omega
    ·cases h
  ·cases h
theorem dropWhile_lt {s:List UInt8} (h:¬ s.takeWhile isA = []):(s.dropWhile isA).length < s.length:=by
 have h1:=congrArg List.length (List.takeWhile_append_dropWhile (p:=isA) (l:=s))
 simp only [List.length_append] at h1
 have:0 < (s.takeWhile isA).length:=List.length_pos_iff.2 h
 omega
theorem rd_lt:∀(k:Nat) (s:List UInt8) (e:E) (r:List UInt8),rd k s = some (e,r)->r.length < s.length
 | 0,s,e,r,h=>by
  simp only [rd] at h
  split at h
  ·cases h
  ·rename_i hn; cases h; exact dropWhile_lt hn
 | k+1,s,e,r,h=>by
  simp only [rd] at h
  split at h
  ·split at h
   ·split at h
    ·have:=rdL_lt (rd_lt k) _ _ _ _ _ h
     simp only [List.length_cons]; omega
    ·cases h
   ·cases h
  ·rename_i hn; cases h; exact dropWhile_lt hn
theorem Sqd4 (b:UInt8):FSpec Tryz.prog 137 [.v (.int .u8 (b.toNat:Int))] [] (Det (.v (.bool (isA b)))):=by
 refine Fqcu _ ?_
 simp only [tqca,↓zq,zs,hasK,Det,isA]
 repeat' (apply And.intro<;>intro _)
 all_goals first | (congr 2; rw [Bool.eq_iff_iff]; simp; omega) | (congr 2; simp; omega)
theorem tw_step {s:List UInt8} {i:Nat} (hi:i < s.length) (hb:isA (s.getD i 0) = true):((s.drop i).takeWhile isA).length = ((s.drop (i+1)).takeWhile isA).length+1:=by
 have e:s.drop i = s.getD i 0::s.drop (i+1):=by
  rw [List.drop_eq_getElem_cons hi]; simp [List.getD_eq_getElem?_getD,hi]
 rw [e,List.takeWhile_cons_of_pos hb]; simp
theorem tw_stop {s:List UInt8} {i:Nat} (hi:i < s.length) (hb:isA (s.getD i 0) = false):(s.drop i).takeWhile isA = []:=by
 have e:s.drop i = s.getD i 0::s.drop (i+1):=by
  rw [List.drop_eq_getElem_cons hi]; simp [List.getD_eq_getElem?_getD,hi]
 rw [e,List.takeWhile_cons_of_neg (by rw [hb]; simp)]
theorem Lq3z (s:List UInt8) (hs:s.length<=8000) (d:Int):∀(k i:Nat),i+k = s.length->Lq36 [.v (.string (mk s)),.v (.int .i64 d),.v (.int .i64 (i:Int))] [] (LIs 1 [.v (.string (mk s)),.v (.int .i64 d),.v (.int .i64 ((i+((s.drop i).takeWhile isA).length:Nat):Int))] [])
 | 0,i,hi=>by
  refine Gq77 _ _ _ ?_
  have hd:s.drop i = []:=List.drop_eq_nil_of_le (by omega)
  simp only [rq5e,↓zq,zs,hasK,zt]
  exact⟨fun h=>by omega,fun _=>by simp [LIs,hd]⟩
 | k+1,i,hi=>by
  have hlt:i < s.length:=by omega
  refine Gq77 _ _ _ ?_
  simp only [rq5e,↓zq,zs,hasK,zt,bt_mk s i hlt]
  refine⟨fun _=>⟨by omega,?_⟩,fun h=>by omega⟩
  refine wp_det (Sqd4 _) ?_
  simp only [↓zq,zs,hasK]
  refine⟨fun hb=>?_,fun hb=>?_⟩
  ·rw [wrap_succ i (by omega)]
   have:=Lq3z s hs d k (i+1) (by omega)
   rw [tw_step hlt hb,show i+(((s.drop (i+1)).takeWhile isA).length+1) = i+1+((s.drop (i+1)).takeWhile isA).length by omega]
   exact this
  ·simp [LIs,tw_stop hlt hb]
def iRes (s:List UInt8):Option (E×List UInt8)->AV
 | some (e,r)=>.tup [e.iav,.v (.string (mk r))]
 | none=>.tup [.v (.pointer none),.v (.string (mk s))]
theorem iav_has (e:E):LK.has .ptr e.iav = True:=by cases e<;>simp [E.iav,has_ptr]
theorem iav_nil (e:E):e.iav.isNil = false:=by cases e<;>rfl
theorem take_tw (s:List UInt8):s.take (s.takeWhile isA).length = s.takeWhile isA:=by
 have h:=List.takeWhile_append_dropWhile (p:=isA) (l:=s)
 have:(s.takeWhile isA++s.dropWhile isA).take (s.takeWhile isA).length = s.takeWhile isA:=List.take_left
 rw [h] at this; exact this
theorem drop_tw (s:List UInt8):s.drop (s.takeWhile isA).length = s.dropWhile isA:=by
 have h:=List.takeWhile_append_dropWhile (p:=isA) (l:=s)
 have:(s.takeWhile isA++s.dropWhile isA).drop (s.takeWhile isA).length = s.dropWhile isA:=List.drop_left
 rw [h] at this; exact this
theorem drop1 (c:UInt8) (r:List UInt8):(List.take (r.length+1) (c::r)).drop (Int.toNat 1) = r:=by simp
theorem Lq7k (s0:List UInt8) (k:Nat) (hk:k < 300) (ih:∀s,s.length<=8000->FSpec Tryz.prog 116 [.v (.string (mk s)),.v (.int .i64 ((300 - k:Nat):Int))] [] (Det (iRes s (rd k s)))) :
  ∀(n:Nat) (s:List UInt8) (acc:List E),s.length < n->s.length+acc.length<=8000->Lq3b [.v (.string (mk s0)),.v (.int .i64 ((300 - (k+1):Nat):Int)),.v (.string (mk s))] [.cells [.v (.string (mk [])),.any],.vec 1 (E.iavs acc)]
   (LBy (match rdL (rd k) n s acc with | some (e,r)=>(2,[e.iav,.v (.string (mk r))],[]) | none=>(2,[.v (.pointer none),.v (.string (mk s0))],[])))
 | 0,s,acc,hn,_=>by omega
 | n+1,s,acc,hn,hl=>by
  refine Gqgp _ _ _ _ _ ?_
  simp only [rq93,↓zq,zs,hasK,es_vec]
  have hd:IntKind.wrap .i64 (((300 - (k+1):Nat):Int)+1) = ((300 - k:Nat):Int):=by rw [wrap64]<;>omega
  rw [hd]
  refine wp_det (ih s (by omega)) ?_
  have hlt:=rd_lt k s
  cases hr:rd k s with
  | none =>
   simp only [iRes,↓zq,zs,hasK,rdL,hr]
   simp [LBy]
  | some q =>
   obtain⟨e,r⟩:=q
   have:=hlt e r hr
   cases r with
   | nil =>
    simp only [iRes,↓zq,zs,hasK,zt,rdL,hr,iav_has,iav_nil]
    simp [LBy]
   | cons c r =>
    simp only [List.length_cons] at this
    have hb:=bt_mk (c::r) 0 (by simp)
    simp only [Int.ofNat_eq_natCast,Int.cast_ofNat_Int] at hb
    have e2:(List.take (c::r).length (c::r)).drop 1 = r:=by simp
    simp only [iRes,↓zq,zs,hasK,zt,rdL,hr,iav_has,iav_nil,hb,e2,iavs_len]
    refine⟨fun h=>(by cases h),fun _=>⟨fun h=>(by cases h),fun _=>⟨⟨fun c hc=>(by simp at hc; rw [hc]; rfl),by omega⟩,by omega,by omega,fun h41=>?_,fun h41=>⟨by omega,fun h32=>?_,fun h32=>?_⟩⟩⟩⟩
    ·have h41':c.toNat = 41:=by omega
     rw [drop1,if_pos h41']
     simp [LBy,E.iav,iavs_app,E.iavs]
    ·have h41':¬ c.toNat = 41:=by omega
     have h32':¬ c.toNat = 32:=by omega
     rw [if_neg h41',if_neg h32']
    ·have h41':¬ c.toNat = 41:=by omega
     have h32':c.toNat = 32:=by omega
     rw [drop1,if_neg h41',if_pos h32']
     have:=Lq7k s0 k hk ih n r (acc++[e]) (by omega) (by simp; omega)
     simpa [iavs_app,E.iavs] using this
theorem Sqdg:∀(k:Nat),k<=300->∀s:List UInt8,s.length<=8000->FSpec Tryz.prog 116 [.v (.string (mk s)),.v (.int .i64 ((300 - k:Nat):Int))] [] (Det (iRes s (rd k s))):=by
 intro k
 induction k with
 | zero =>
  intro hk s hs
  refine Fq9q _ _ ?_
  unfold tq4j
  refine wp_loop1 (Lq3z s hs _ s.length 0 (by omega)) ?_
  simp only [↓zq,zs,hasK,zt,Nat.zero_add,Det]
  have hw:(s.takeWhile isA).length<=s.length:=by
   have:=congrArg List.length (List.takeWhile_append_dropWhile (p:=isA) (l:=s))
   simp only [List.length_append] at this; omega
  refine⟨fun h=>⟨by omega,by omega,?_⟩,fun h=>?_⟩
  ·have hne:¬ s.takeWhile isA = []:=fun e=>by rw [e] at h; simp at h
   simp only [rd,if_neg hne,iRes,E.iav,take_tw,drop_tw]
  ·have hnil:s.takeWhile isA = []:=List.eq_nil_of_length_eq_zero (by omega)
   simp only [rd,if_pos hnil,iRes]
   refine⟨fun _=>trivial,fun hne=>⟨?_,?_⟩⟩
   ·cases s with
    | nil=>exact absurd rfl hne
    | cons c s=>simp
   ·exact⟨fun _=>trivial,fun _=>⟨fun _=>trivial,fun h=>absurd rfl h⟩⟩
 | succ k ih =>
  intro hk s hs
  refine Fq9q _ _ ?_
  unfold tq4j
  refine wp_loop1 (Lq3z s hs _ s.length 0 (by omega)) ?_
  simp only [↓zq,zs,hasK,zt,Nat.zero_add,Det]
  have hw:(s.takeWhile isA).length<=s.length:=by
   have:=congrArg List.length (List.takeWhile_append_dropWhile (p:=isA) (l:=s))
   simp only [List.length_append] at this; omega
  refine⟨fun h=>⟨by omega,by omega,?_⟩,fun h=>?_⟩
  ·have hne:¬ s.takeWhile isA = []:=fun e=>by rw [e] at h; simp at h
   simp only [rd,if_neg hne,iRes,E.iav,take_tw,drop_tw]
  ·have hnil:s.takeWhile isA = []:=List.eq_nil_of_length_eq_zero (by omega)
   simp only [rd,if_pos hnil]
   cases s with
   | nil=>simp [iRes]
   | cons c s =>
    have hb:=bt_mk (c::s) 0 (by simp)
    simp only [Int.ofNat_eq_natCast,Int.cast_ofNat_Int] at hb
    simp only [List.length_cons] at hs
    simp only [↓zq,zs,hasK,hb,drop1]
    refine⟨fun h=>(by cases h),fun _=>⟨by omega,fun h40=>?_,fun h40=>⟨fun h300=>?_,fun h300=>⟨by omega,?_⟩⟩⟩⟩
    ·have:¬ c.toNat = 40:=by omega
     rw [if_neg this]; rfl
    ·omega
    ·have h40':c.toNat = 40:=by omega
     rw [if_pos h40']
     refine wp_loopB (Lq7k (c::s) k (by omega) (ih (by omega)) (s.length+1) s [] (by omega) (by simp; omega)) (fun ys o e=>?_) (fun ys o e=>?_)
     ·split at e<;>cases e
     ·split at e<;>cases e
      ·rename_i e' r' hr
       simp only [↓zq,zs,hasK,iav_has]
       simp only [hr,iRes]
      ·rename_i hr
       simp only [↓zq,zs,hasK]
       simp only [hr,iRes]
end Go.Proofs.Trees
namespace Go.Proofs.Trees
open Go Go.VL
mutual
def E.sz:E->Nat
 | .atom _=>1
 | .list l=>1+E.szs l
def E.szs:List E->Nat
 | []=>0
 | e::l=>e.sz+E.szs l
end
mutual
def E.ok:E->Prop
 | .atom s=>s≠[]
 | .list l=>E.oks l
def E.oks:List E->Prop
 | []=>True
 | e::l=>e.ok/\E.oks l
end
theorem szs_app (l r:List E):E.szs (l++r) = E.szs l+E.szs r:=by
 induction l with
 | nil=>simp [E.szs]
 | cons e l ih=>simp [E.szs,ih]; omega
theorem oks_app (l r:List E):E.oks (l++r)↔E.oks l/\E.oks r:=by
 induction l with
 | nil=>simp [E.oks]
 | cons e l ih=>simp [E.oks,ih,and_assoc]
theorem rdL_ok {f:List UInt8->Option (E×List UInt8)} (hf:∀s e r,f s = some (e,r)->e.ok/\e.sz+r.length<=s.length):∀(n:Nat) (s:List UInt8) (acc:List E) (e:E) (r:List UInt8),rdL f n s acc = some (e,r)->E.oks acc->e.ok/\e.sz+r.length<=s.length+1+E.szs acc
 | 0,s,acc,e,r,h,_=>by cases h
 | n+1,s,acc,e,r,h,ha=>by
  simp only [rdL] at h
  split at h
  ·rename_i p c r' hs
   obtain⟨h1,h2⟩:=hf _ _ _ hs
   simp only [List.length_cons] at h2
   split at h
   ·cases h
    refine⟨(oks_app _ _).2 ⟨ha,h1,trivial⟩,?_⟩
    simp only [E.sz,szs_app,E.szs]; omega
   ·split at h
    ·have:=rdL_ok hf n _ _ _ _ h ((oks_app _ _).2 ⟨ha,h1,trivial⟩)
     refine⟨this.1,?_⟩
     have h3:=this.2
     simp only [szs_app,E.szs] at h3; omega
    ·cases h
  ·cases h
theorem tw_len (s:List UInt8):(s.takeWhile isA).length+(s.dropWhile isA).length = s.length:=by
 have:=congrArg List.length (List.takeWhile_append_dropWhile (p:=isA) (l:=s))
 simpa only [List.length_append] using this
theorem rd_ok:∀(k:Nat) (s:List UInt8) (e:E) (r:List UInt8),rd k s = some (e,r)->e.ok/\e.sz+r.length<=s.length
 | 0,s,e,r,h=>by
  simp only [rd] at h
  split at h
  ·cases h
  ·rename_i hn; cases h
   have:=tw_len s
   have:0 < (s.takeWhile isA).length:=List.length_pos_iff.2 hn
   exact⟨hn,by simp only [E.sz]; omega⟩
 | k+1,s,e,r,h=>by
  simp only [rd] at h
  split at h
  ·split at h
   ·split at h
    ·have:=rdL_ok (rd_ok k) _ _ _ _ _ h trivial
     refine⟨this.1,?_⟩
     have h3:=this.2
     simp only [E.szs,List.length_cons] at h3 |-; omega
    ·cases h
   ·cases h
  ·rename_i hn; cases h
   have:=tw_len s
   have:0 < (s.takeWhile isA).length:=List.length_pos_iff.2 hn
   exact⟨hn,by simp only [E.sz]; omega⟩
def rdT (s:List UInt8):Option E:=if s.length > 8000 then none else match rd 300 s with | some (e,[])=>some e | _=>none
theorem rdT_ok {s:List UInt8} {e:E} (h:rdT s = some e):e.ok/\e.sz<=8000:=by
 unfold rdT at h
 split at h
 ·cases h
 ·split at h
  ·rename_i e' hr
   cases h
   have:=rd_ok _ _ _ _ hr
   exact⟨this.1,by have:=this.2; simp at this; omega⟩
  ·cases h
def optP:Option E->AV
 | some e=>e.iav
 | none=>.v (.pointer none)
theorem Sqce (s:List UInt8):FSpec Tryz.prog 90 [.v (.string (mk s))] [] (Det (optP (rdT s))):=by
 refine Fqgf _ ?_
 simp only [tq7n,↓zq,zs,hasK,zt,Det,rdT]
 refine⟨fun h=>?_,fun h=>?_⟩
 ·rw [if_pos (by omega)]; simp [optP]
 ·rw [if_neg (by omega)]
  refine wp_det (Sqdg 300 (by omega) s (by omega)) ?_
  cases hr:rd 300 s with
  | none =>
   simp only [iRes,↓zq,zs,hasK,zt,optP]
   refine⟨fun _=>trivial,fun _=>trivial⟩
  | some q =>
   obtain⟨e,r⟩:=q
   cases r with
   | nil=>simp only [iRes,↓zq,zs,hasK,zt,optP,iav_has]; simp
   | cons c r=>simp only [iRes,↓zq,zs,hasK,zt,optP,iav_has]; simp
def isDg (b:UInt8):Bool:=decide (48<=b.toNat/\b.toNat<=57)
def named (lo hi:Nat):List UInt8->Bool
 | []=>false
 | c::r=>decide (r.length<=2)&&decide (lo<=c.toNat/\c.toNat<=hi)&&r.all isDg
def isPar (s:List UInt8):Bool:=named 120 122 s
def isLoo (s:List UInt8):Bool:=named 116 116 s
def inR (v lo hi:Int):Bool:=decide (lo<=v/\v<=hi)
theorem Sq2e (v lo hi:Int):FSpec Tryz.prog 69 [.v (.int .i64 v),.v (.int .i64 lo),.v (.int .i64 hi)] [] (Det (.v (.bool (inR v lo hi)))):=by
 refine Fqgu _ _ _ ?_
 simp only [tqaf,↓zq,zs,hasK,Det,inR]
 constructor<;>intro h<;>simp at h<;>simp [h]
 omega
theorem Lq7e (s:List UInt8) (hs:s.length<=3):∀(k i:Nat),i+k = s.length->Lq5i [.v (.string (mk s)),.v (.int .i64 (i:Int))] [] (LBy (if(s.drop i).all isDg = true then(1,[],[]) else(2,[.v (.bool false)],[])))
 | 0,i,hi=>by
  have hd:s.drop i = []:=List.drop_eq_nil_of_le (by omega)
  refine Gq8k _ _ ?_
  simp only [rq3g,↓zq,zs,hasK,zt]
  exact⟨fun h=>by omega,fun _=>by simp [LBy,hd]⟩
 | k+1,i,hi=>by
  have hlt:i < s.length:=by omega
  have e:s.drop i = s.getD i 0::s.drop (i+1):=by
   rw [List.drop_eq_getElem_cons hlt]; simp [List.getD_eq_getElem?_getD,hlt]
  refine Gq8k _ _ ?_
  simp only [rq3g,↓zq,zs,hasK,zt,bt_mk s i hlt,e,List.all_cons]
  generalize hb:s.getD i 0 = b
  refine⟨fun _=>⟨by omega,fun h=>?_,fun h=>⟨by omega,fun h2=>?_,fun h2=>?_⟩⟩,fun h=>by omega⟩
  ·have:isDg b = false:=by simp [isDg]; omega
   simp only [this,zf,LBy]
  ·have:isDg b = false:=by simp [isDg]; omega
   simp only [this,zf,LBy]
  ·have:isDg b = true:=by simp [isDg]; omega
   rw [wrap_succ i (by omega),this,Bool.true_and]
   exact Lq7e s hs k (i+1) (by omega)
theorem Sqcf (s:List UInt8) (lo hi:Nat):FSpec Tryz.prog 135 [.v (.string (mk s)),.v (.int .u8 (lo:Int)),.v (.int .u8 (hi:Int))] [] (Det (.v (.bool (named lo hi s)))):=by
 refine Fqgi _ _ _ ?_
 unfold tqbg
 rw [size_mk]
 refine wp_det (Sq2e _ _ _) ?_
 simp only [↓zq,zs,hasK,zt,Det]
 refine⟨fun h=>?_,fun h=>?_⟩
 ·cases s with
  | nil=>rfl
  | cons c s =>
   simp [inR] at h
   have:¬ s.length<=2:=by omega
   simp [named,this]
 ·cases s with
  | nil=>simp [inR] at h
  | cons c s =>
   simp [inR] at h
   have hl:s.length<=2:=by omega
   have hb:=bt_mk (c::s) 0 (by simp)
   simp only [Int.ofNat_eq_natCast,Int.cast_ofNat_Int] at hb
   simp only [↓zq,zs,hasK,hb]
   refine⟨by omega,fun h1=>?_,fun h1=>⟨by omega,fun h2=>?_,fun h2=>?_⟩⟩
   ·have:¬ lo<=c.toNat:=by omega
    simp [named,this]
   ·have:¬ c.toNat<=hi:=by omega
    simp [named,this]
   ·refine wp_loopB (Lq7e (c::s) (by simp; omega) s.length 1 (by simp; omega)) (fun ys o e=>?_) (fun ys o e=>?_)
    ·split at e<;>cases e
     rename_i ha
     simp at ha
     simp only [↓zq,zs,hasK]
     simp [named,hl]
     exact⟨⟨by omega,by omega⟩,fun x hx=>by simpa using ha x hx⟩
    ·split at e<;>cases e
     rename_i ha
     simp only [↓zq,zs,hasK]
     have:s.all isDg = false:=by simpa using ha
     simp [named,this]
theorem Sq48 (s:List UInt8):FSpec Tryz.prog 112 [.v (.string (mk s))] [] (Det (.v (.bool (isPar s)))):=by
 refine Fqcw _ ?_
 unfold tq9p
 refine wp_det (Sqcf s 120 122) ?_
 simp only [↓zq,zs,hasK,Det,isPar]
theorem Sq58 (s:List UInt8):FSpec Tryz.prog 110 [.v (.string (mk s))] [] (Det (.v (.bool (isLoo s)))):=by
 refine Fqeq _ ?_
 unfold tq6c
 refine wp_det (Sqcf s 116 116) ?_
 simp only [↓zq,zs,hasK,Det,isLoo]
end Go.Proofs.Trees
namespace Go.Proofs.Trees
open Go Go.VL Go.RowKit
theorem Sqf0 (l:List UInt8) (c:UInt8):FSpec Tryz.prog 153 [.v (.string (mk l)),.v (.string (mk [c]))] [] (Det (.v (.bool (decide (0<=Lib.indexByte l c))))):=by
 refine FSpec.lib (xs:=[.string (mk l),.string (mk [c])]) ⟨fd_strings_Contains,by kernel_rfl,by kernel_rfl,by kernel_rfl⟩ fun w=>?_
 have:=Any.strings_Contains_one Tryz.lays144 (mk l) c w
 refine Calls.mono this fun e w' ⟨h1,h2⟩=>?_
 rw [h2]
 have hd:(mk l).data.toList = l:=by simp [mk]
 exact⟨by rw [h1,hd],Below.refl _ _⟩
theorem Sqb9 (l cs:List UInt8) (hl:l.length<=1000000) (hc:cs.length<=1000) (ha:∀b,b∈cs->b.toNat < 128):FSpec Tryz.prog 144 [.v (.string (mk l)),.v (.string (mk cs))] [] (Det (.v (.string (mk (Lib.trimS l cs))))):=by
 refine FSpec.lib (xs:=[.string (mk l),.string (mk cs)]) ⟨fd_strings_Trim,by kernel_rfl,by kernel_rfl,by kernel_rfl⟩ fun w=>?_
 have:=Any.strings_Trim_laid Tryz.lays160 (by kernel_rfl) (mk l) (mk cs) w (by rw [size_mk]; omega) (by rw [size_mk]; omega) (fun j b hj=>ha b (by
  have:(mk cs).data.toList = cs:=by simp [mk]
  rw [this] at hj
  exact List.mem_of_getElem? hj))
 refine Calls.mono this fun e w' ⟨h1,h2⟩=>⟨?_,h2⟩
 rw [h1]
 simp [mk]
theorem indexByte_mem:∀(l:List UInt8) (c:UInt8),(0<=Lib.indexByte l c↔c∈l)/\-1<=Lib.indexByte l c
 | [],c=>by simp [Lib.indexByte]
 | b::l,c=>by
  obtain⟨h1,h2⟩:=indexByte_mem l c
  unfold Lib.indexByte
  by_cases e:b = c
  ·subst e; simp
  ·have e':(b==c) = false:=by simp [e]
   rw [e']
   by_cases q:Lib.indexByte l c = -1
   ·have:c ∉ l:=fun h=>by have:=h1.2 h; omega
    simp [q,this,Ne.symm e]
   ·have q':(Lib.indexByte l c==-1) = false:=by simp [q]
    simp only [q',Bool.false_eq_true,if_false,List.mem_cons]
    constructor
    ·constructor
     ·intro h; exact .inr (h1.1 (by omega))
     ·intro h
      rcases h with h | h
      ·exact absurd h.symm e
      ·have:=h1.2 h; omega
    ·omega
theorem dropWhile_nil {p:UInt8->Bool}:∀(l:List UInt8),l.dropWhile p = []↔l.all p = true
 | []=>by simp
 | b::l=>by
  cases h:p b with
  | true=>rw [List.dropWhile_cons_of_pos h,dropWhile_nil l]; simp [h]
  | false=>rw [List.dropWhile_cons_of_neg (by rw [h]; simp)]; simp [h]
theorem trimS_nil (l cs:List UInt8):Lib.trimS l cs = []↔l.all (cs.contains ·) = true:=by
 unfold Lib.trimS Lib.trimLeftS
 rw [dropWhile_nil]
 unfold Lib.trimRightS
 constructor
 ·intro h
  by_cases hn:l.reverse.dropWhile (cs.contains ·) = []
  ·rw [dropWhile_nil] at hn
   simpa using hn
  ·exfalso
   rw [List.all_reverse] at h
   obtain⟨b,r,e⟩:=List.exists_cons_of_ne_nil hn
   have h1:cs.contains b = false:=by
    have:=List.head_dropWhile_not (p:=(cs.contains ·)) (l:=l.reverse) hn
    simp only [e,List.head_cons] at this
    exact this
   rw [e] at h
   simp only [List.all_cons,Bool.and_eq_true] at h
   rw [h1] at h; cases h.1
 ·intro h
  have:l.reverse.dropWhile (cs.contains ·) = []:=by rw [dropWhile_nil]; simpa using h
  rw [this]; rfl
def dgs:List UInt8:=[48,49,50,51,52,53,54,55,56,57]
theorem dgs_isDg (b:UInt8):dgs.contains b = isDg b:=by
 have:∀n:Fin 256,dgs.contains (UInt8.ofNat n.val) = isDg (UInt8.ofNat n.val):=by decide +kernel
 have:=this ⟨b.toNat,b.toNat_lt⟩
 simpa using this
theorem Sqch (s ls:List UInt8) (lo hi:Nat) (hls:∀c:UInt8,c∈ls↔lo<=c.toNat/\c.toNat<=hi):FSpec Tryz.prog 138 [.v (.string (mk s)),.v (.string (mk ls))] [] (Det (.v (.bool (named lo hi s)))):=by
 refine Fqfy _ _ ?_
 simp only [tq72,↓zq,zs,hasK,zt,Det]
 cases s with
 | nil=>exact⟨fun h=>by simp at h,fun _=>rfl⟩
 | cons c s =>
  have e1:(List.take (Int.toNat 1) (c::s)) = [c]:=rfl
  have e2:(List.take (s.length+1) (c::s)).drop (Int.toNat 1) = s:=by simp
  simp only [List.length_cons,e1,e2]
  refine⟨fun _=>⟨fun h3=>⟨by omega,?_⟩,fun h3=>?_⟩,fun h=>by omega⟩
  ·have hl:s.length<=2:=by omega
   refine wp_det (Sqf0 ls c) ?_
   simp only [↓zq,zs,hasK]
   have hi1:=(indexByte_mem ls c).1
   refine⟨fun h=>⟨by omega,?_⟩,fun h=>?_⟩
   ·refine wp_det (Sqb9 s dgs (by omega) (by decide) (by decide)) ?_
    simp only [↓zq,zs,hasK,zt]
    have hc:=(hls c).1 (hi1.1 h)
    congr 2
    rw [Bool.eq_iff_iff,beq_iff_eq,trimS_nil]
    simp only [named,hl,hc,decide_true,Bool.true_and,and_self]
    have:(fun x=>dgs.contains x) = isDg:=funext dgs_isDg
    rw [this]
   ·have hc:¬ (lo<=c.toNat/\c.toNat<=hi):=fun h'=>h (hi1.2 ((hls c).2 h'))
    simp only [named,hc,zf]
  ·have hl:¬ s.length<=2:=by omega
   simp only [named,hl,zf]
theorem Sq6q (s:List UInt8):FSpec Tryz.prog 117 [.v (.string (mk s))] [] (Det (.v (.bool (isPar s)))):=by
 refine Fqev _ ?_
 unfold tq6p
 have h:∀n:Fin 256,(UInt8.ofNat n.val∈[(120:UInt8),121,122])↔120<=(UInt8.ofNat n.val).toNat/\(UInt8.ofNat n.val).toNat<=122:=by decide +kernel
 refine wp_det (Sqch s [120,121,122] 120 122 fun c=>by simpa using h ⟨c.toNat,c.toNat_lt⟩) ?_
 simp only [↓zq,zs,hasK,Det,isPar]
theorem Sq2l (s:List UInt8):FSpec Tryz.prog 118 [.v (.string (mk s))] [] (Det (.v (.bool (isLoo s)))):=by
 refine Fqgh _ ?_
 unfold tq9u
 have h:∀n:Fin 256,(UInt8.ofNat n.val∈[(116:UInt8)])↔116<=(UInt8.ofNat n.val).toNat/\(UInt8.ofNat n.val).toNat<=116:=by decide +kernel
 refine wp_det (Sqch s [116] 116 116 fun c=>by simpa using h ⟨c.toNat,c.toNat_lt⟩) ?_
 simp only [↓zq,zs,hasK,Det,isLoo]
end Go.Proofs.Trees
namespace Go.Proofs.Trees
open Go Go.VL
inductive Ty where
 | zero | one
 | name (s:List UInt8)
 | bound (up:Nat)
 | plus (a b:Ty)
 | times (a b:Ty)
 | rc (a:Ty)
def Ty.av:Ty->AV
 | .zero=>.ptr [.v (.int .u8 48),.v (.string (mk [])),.v (.int .i64 0),.v (.pointer none),.v (.pointer none)]
 | .one=>.ptr [.v (.int .u8 49),.v (.string (mk [])),.v (.int .i64 0),.v (.pointer none),.v (.pointer none)]
 | .name s=>.ptr [.v (.int .u8 110),.v (.string (mk s)),.v (.int .i64 0),.v (.pointer none),.v (.pointer none)]
 | .bound up=>.ptr [.v (.int .u8 98),.v (.string (mk [])),.v (.int .i64 (up:Int)),.v (.pointer none),.v (.pointer none)]
 | .plus a b=>.ptr [.v (.int .u8 43),.v (.string (mk [])),.v (.int .i64 0),a.av,b.av]
 | .times a b=>.ptr [.v (.int .u8 42),.v (.string (mk [])),.v (.int .i64 0),a.av,b.av]
 | .rc a=>.ptr [.v (.int .u8 114),.v (.string (mk [])),.v (.int .i64 0),a.av,.v (.pointer none)]
theorem ty_has (t:Ty):LK.has .ptr t.av = True:=by cases t<;>simp [Ty.av,has_ptr]
theorem ty_nil (t:Ty):t.av.isNil = false:=by cases t<;>rfl
def optT:Option Ty->AV
 | some t=>t.av
 | none=>.v (.pointer none)
theorem optT_has (t:Option Ty):LK.has .ptr (optT t) = True:=by cases t<;>simp [optT,ty_has,has_nil]
def E.at:E->List UInt8
 | .atom s=>s
 | .list _=>[]
def lastOf (s:List UInt8) (ar:List (List UInt8)):Nat->Option Nat
 | 0=>none
 | i+1=>if ar.getD i [] = s then some (ar.length - 1 - i) else lastOf s ar i
def tyOf:E->List (List UInt8)->Option Ty
 | .atom s,ar=>if s = [48] then some .zero else if s = [49] then some .one else if isPar s = true then some (.name s) else if isLoo s = true then(match lastOf s ar ar.length with | some u=>some (.bound u) | none=>some (.name s)) else none
 | .list [x,a,b],ar =>
  if x.at = [43] then(match tyOf a ar,tyOf b ar with | some t,some u=>some (.plus t u) | _,_=>none)
  else if x.at = [42] then(match tyOf a ar,tyOf b ar with | some t,some u=>some (.times t u) | _,_=>none)
  else if x.at = [114,101,99] then(if isLoo a.at = true then(match tyOf b (ar++[a.at]) with | some t=>some (.rc t) | none=>none) else none)
  else none
 | .list _,_=>none
def strsAV (l:List (List UInt8)):List (List AV):=l.map fun s=>[.v (.string (mk s))]
def StrsA (a:AV) (l:List (List UInt8)):Prop:=LK.sl.has a/\a.elems = strsAV l
theorem StrsA.len {a:AV} {l:List (List UInt8)} (h:StrsA a l):a.elems.length = l.length:=by rw [h.2]; simp [strsAV]
theorem StrsA.idx {a:AV} {l:List (List UInt8)} (h:StrsA a l) {i:Nat} (hi:i < l.length):a.elems.getD i [] = [.v (.string (mk (l.getD i [])))]:=by
 rw [h.2]; simp [strsAV,List.getD_eq_getElem?_getD,hi]
theorem StrsA.of (l:List (List UInt8)):StrsA (.sl (strsAV l)) l:=⟨(has_sl _).mpr trivial,rfl⟩
theorem StrsA.nil:StrsA (.v (.slice none 0 0)) []:=⟨(has_slnil).mpr trivial,rfl⟩
theorem Sq4 (e:E) (w:List UInt8):FSpec Tryz.prog 119 [e.iav,.v (.string (mk w)),.v (.int .i64 3)] [] (Det (.v (.bool (match e with | .list [x,_,_]=>x.at==w | _=>false)))):=by
 refine Fq7x _ _ _ ((iav_has e).mpr trivial) ?_
 cases e with
 | atom s=>simp only [tq1u,E.iav,↓zq,zs,hasK,zt,Det]; exact⟨by omega,fun h=>by omega,fun _=>trivial⟩
 | list l =>
  simp only [tq1u,E.iav,↓zq,zs,hasK,zt,Det,iavs_len]
  match l with
  | []=>exact⟨by simp,fun h=>by simp at h,fun _=>rfl⟩
  | [_]=>exact⟨by simp,fun h=>by simp at h,fun _=>rfl⟩
  | [_,_]=>exact⟨by simp,fun h=>by simp at h,fun _=>rfl⟩
  | [x,y,z] =>
   refine⟨by simp,fun _=>?_,fun h=>by simp at h⟩
   cases x<;>simp [E.iavs,E.iav,has_ptr,isNil_ptr,deref_ptr,has_str,toStr_v,toList_mk,E.at]
  | _::_::_::_::l=>exact⟨by simp,fun h=>by simp at h; omega,fun _=>rfl⟩
theorem Lqah (e:E) (a:AV) (ar:List (List UInt8)) (ha:StrsA a ar) (hl:ar.length < 1000000):∀(i:Nat),i<=ar.length->Lq4n [e.iav,a,.v (.int .i64 ((i:Int) - 1))] []
  (LBy (match lastOf e.at ar i with | some u=>(2,[],[.cells [.v (.int .u8 98),.v (.string (mk [])),.v (.int .i64 (u:Int)),.v (.pointer none),.v (.pointer none)]]) | none=>(1,[e.iav],[])))
 | 0,hi=>by
  refine Gqcr _ _ _ ?_
  simp only [rq4m,↓zq,zs,hasK,iav_has]
  exact⟨ha.1,fun h=>by omega,fun _=>rfl⟩
 | i+1,hi=>by
  have hlt:i < ar.length:=by omega
  have e1:((i+1:Nat):Int) - 1 = (i:Int):=by omega
  rw [e1]
  refine Gqcr _ _ _ ?_
  have hd:e.iav.deref.headD .any = .v (.string (mk e.at)):=by cases e<;>rfl
  have hdl:1<=e.iav.deref.length:=by cases e<;>simp [E.iav,deref_ptr]
  simp only [rq4m,↓zq,zs,hasK,zt,iav_has,iav_nil,ha.len,ha.idx hlt,hd,nil_mk]
  refine⟨ha.1,fun _=>⟨⟨ha.1,by omega,by omega⟩,by omega,hdl,fun h=>⟨ha.1,?_⟩,fun h=>?_⟩,fun h=>by omega⟩
  ·simp only [lastOf,h,if_true,LBy]
   rw [wrap64 ((ar.length:Int) - 1) (by omega) (by omega),wrap64 _ (by omega) (by omega)]
   have:(ar.length:Int) - 1 - (i:Int) = ((ar.length - 1 - i:Nat):Int):=by omega
   rw [this]
  ·simp only [lastOf,h,if_false]
   rw [wrap64 _ (by omega) (by omega)]
   exact Lqah e a ar ha hl i (by omega)
end Go.Proofs.Trees
namespace Go.Proofs.Trees
open Go Go.VL
theorem iav_at (e:E):e.iav.deref.headD .any = .v (.string (mk e.at)):=by cases e<;>rfl
theorem iav_len (e:E):1<=e.iav.deref.length:=by cases e<;>simp [E.iav,deref_ptr]
theorem toNat_one:Int.toNat 1 = 1:=rfl
theorem toNat_two:Int.toNat 2 = 2:=rfl
theorem Sqr {ar:List (List UInt8)} (s:List UInt8):strsAV ar++[[.v (.string (mk s))]] = strsAV (ar++[s]):=by simp [strsAV]
theorem allLen_strs (ar:List (List UInt8)):allLen 1 (strsAV ar):=fun c hc=>by
 obtain⟨s,_,rfl⟩:=List.mem_map.1 hc; rfl
theorem tyOf_plus {x a b:E} (ar:List (List UInt8)) (hx:x.at = [43]):tyOf (.list [x,a,b]) ar = match tyOf a ar,tyOf b ar with | some t,some u=>some (.plus t u) | _,_=>none:=by rw [tyOf,if_pos hx]<;>cases tyOf a ar<;>cases tyOf b ar<;>rfl
theorem tyOf_times {x a b:E} (ar:List (List UInt8)) (hx:x.at = [42]):tyOf (.list [x,a,b]) ar = match tyOf a ar,tyOf b ar with | some t,some u=>some (.times t u) | _,_=>none:=by rw [tyOf,if_neg (by rw [hx]; decide),if_pos hx]<;>cases tyOf a ar<;>cases tyOf b ar<;>rfl
theorem tyOf_rec {x a b:E} (ar:List (List UInt8)) (hx:x.at = [114,101,99]):tyOf (.list [x,a,b]) ar = if isLoo a.at = true then(match tyOf b (ar++[a.at]) with | some t=>some (.rc t) | none=>none) else none:=by rw [tyOf,if_neg (by rw [hx]; decide),if_neg (by rw [hx]; decide),if_pos hx]<;>cases tyOf b (ar++[a.at])<;>rfl
theorem tyOf_no {x a b:E} (ar:List (List UInt8)) (h1:x.at≠[43]) (h2:x.at≠[42]) (h3:x.at≠[114,101,99]):tyOf (.list [x,a,b]) ar = none:=by rw [tyOf,if_neg h1,if_neg h2,if_neg h3]
end Go.Proofs.Trees
