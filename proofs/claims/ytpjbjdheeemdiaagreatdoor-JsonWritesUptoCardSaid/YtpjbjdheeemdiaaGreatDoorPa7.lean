/- The contracts of the library's functions that package json calls, at this program's numbers. -/
import Derived.Shelf.Unicode.ValidAny
import Derived.Shelf.Strings.Builder1
import Derived.Shelf.Strings.OnBuilder
import Derived.Shelf.Strings.Trim
import Derived.Shelf.Strings.Cut
import Derived.Shelf.Strings.Repeat
import Derived.Shelf.Small.Strs
import Derived.Shelf.Utf8.RuneCount
import Derived.Shelf.Strconv.Itoa3
import Derived.Shelf.Strconv.AtoiAll
import Derived.Test.YtpjbjdheeemdiaaGreatDoorProg
import Derived.Shelf.Strings.BuilderK
import Derived.Lib.SmallJoins
import Derived.Tactics2
import Derived.KernelRfl
import Derived.Test.YtpjbjdheeemdiaaGreatDoorPa6
set_option linter.unusedVariables false
set_option linter.unusedSimpArgs false
namespace Go.Proofs
open Go.Shelf
def Tryz.lays159_ren:Go.Shelf.Ren:=⟨fun | 159=>103 | 165=>182 | 166=>183 | 167=>184 | 169=>115 | 230=>185 | 204=>186 | 240=>251 | 241=>252 | 197=>253 | 118=>254 | 168=>255 | 270=>256 | 262=>257 | 276=>306 | 277=>307 | 260=>308 | 242=>309 | 313=>310 | 278=>325 | 274=>326 | 275=>327 | n=>n,fun | 9=>9 | 4=>4 | 3=>3 | 5=>5 | 72=>188 | 0=>0 | 76=>178 | 75=>177 | 107=>240 | 70=>185 | 20=>20 | 37=>186 | 127=>254 | 21=>21 | 105=>281 | 164=>318 | 162=>324 | 203=>322 | 119=>271 | 46=>248 | 139=>274 | 138=>273 | 51=>287 | 160=>339 | 208=>351 | 206=>349 | 80=>192 | n=>n,fun | 13=>3 | 3=>0 | 4=>1 | n=>n⟩
theorem Tryz.lays159:Go.Proofs.Lays.n159 Tryz.prog Tryz.lays159_ren:={
  mixed:=by kernel_rfl
  f118:=Tryz.func254.trans (congrArg some (by kernel_rfl))
  f159:=Tryz.func103.trans (congrArg some (by kernel_rfl))
  f165:=Tryz.func182.trans (congrArg some (by kernel_rfl))
  f166:=Tryz.func183.trans (congrArg some (by kernel_rfl))
  f167:=Tryz.func184.trans (congrArg some (by kernel_rfl))
  f168:=Tryz.func255.trans (congrArg some (by kernel_rfl))
  f169:=Tryz.func115.trans (congrArg some (by kernel_rfl))
  f197:=Tryz.func253.trans (congrArg some (by kernel_rfl))
  f204:=Tryz.func186.trans (congrArg some (by kernel_rfl))
  f230:=Tryz.func185.trans (congrArg some (by kernel_rfl))
  f240:=Tryz.func251.trans (congrArg some (by kernel_rfl))
  f241:=Tryz.func252.trans (congrArg some (by kernel_rfl))
  f242:=Tryz.func309.trans (congrArg some (by kernel_rfl))
  f260:=Tryz.func308.trans (congrArg some (by kernel_rfl))
  f262:=Tryz.func257.trans (congrArg some (by kernel_rfl))
  f270:=Tryz.func256.trans (congrArg some (by kernel_rfl))
  f274:=Tryz.func326.trans (congrArg some (by kernel_rfl))
  f275:=Tryz.func327.trans (congrArg some (by kernel_rfl))
  f276:=Tryz.func306.trans (congrArg some (by kernel_rfl))
  f277:=Tryz.func307.trans (congrArg some (by kernel_rfl))
  f278:=Tryz.func325.trans (congrArg some (by kernel_rfl))
  f313:=Tryz.func310.trans (congrArg some (by kernel_rfl))
  t0:=Tryz.underlying0
  a0:=Tryz.isAgg0
  z0:=Tryz.sizeOf0
  v0:=Tryz.zeroValue0
  t3:=Tryz.underlying3
  a3:=Tryz.isAgg3
  z3:=Tryz.sizeOf3
  v3:=Tryz.zeroValue3
  t4:=Tryz.underlying4
  a4:=Tryz.isAgg4
  z4:=Tryz.sizeOf4
  v4:=Tryz.zeroValue4
  t5:=Tryz.underlying5
  a5:=Tryz.isAgg5
  z5:=Tryz.sizeOf5
  v5:=Tryz.zeroValue5
  t9:=Tryz.underlying9
  a9:=Tryz.isAgg9
  z9:=Tryz.sizeOf9
  v9:=Tryz.zeroValue9
  t20:=Tryz.underlying20
  a20:=Tryz.isAgg20
  z20:=Tryz.sizeOf20
  v20:=Tryz.zeroValue20
  t21:=Tryz.underlying21
  a21:=Tryz.isAgg21
  z21:=Tryz.sizeOf21
  v21:=Tryz.zeroValue21
  t37:=Tryz.underlying186
  a37:=Tryz.isAgg186
  z37:=Tryz.sizeOf186
  v37:=Tryz.zeroValue186
  t46:=Tryz.underlying248
  a46:=Tryz.isAgg248
  z46:=Tryz.sizeOf248
  v46:=Tryz.zeroValue248
  t51:=Tryz.underlying287
  a51:=Tryz.isAgg287
  z51:=Tryz.sizeOf287
  v51:=Tryz.zeroValue287
  t70:=Tryz.underlying185
  a70:=Tryz.isAgg185
  z70:=Tryz.sizeOf185
  v70:=Tryz.zeroValue185
  t72:=Tryz.underlying188
  a72:=Tryz.isAgg188
  z72:=Tryz.sizeOf188
  v72:=Tryz.zeroValue188
  t75:=Tryz.underlying177
  a75:=Tryz.isAgg177
  z75:=Tryz.sizeOf177
  v75:=Tryz.zeroValue177
  t76:=Tryz.underlying178
  a76:=Tryz.isAgg178
  z76:=Tryz.sizeOf178
  v76:=Tryz.zeroValue178
  t105:=Tryz.underlying281
  a105:=Tryz.isAgg281
  z105:=Tryz.sizeOf281
  v105:=Tryz.zeroValue281
  t107:=Tryz.underlying240
  a107:=Tryz.isAgg240
  z107:=Tryz.sizeOf240
  v107:=Tryz.zeroValue240
  t119:=Tryz.underlying271
  a119:=Tryz.isAgg271
  z119:=Tryz.sizeOf271
  t127:=Tryz.underlying254
  a127:=Tryz.isAgg254
  z127:=Tryz.sizeOf254
  v127:=Tryz.zeroValue254
  t138:=Tryz.underlying273
  a138:=Tryz.isAgg273
  z138:=Tryz.sizeOf273
  v138:=Tryz.zeroValue273
  t139:=Tryz.underlying274
  a139:=Tryz.isAgg274
  z139:=Tryz.sizeOf274
  v139:=Tryz.zeroValue274
  t160:=Tryz.underlying339
  a160:=Tryz.isAgg339
  z160:=Tryz.sizeOf339
  v160:=Tryz.zeroValue339
  t162:=Tryz.underlying324
  a162:=Tryz.isAgg324
  z162:=Tryz.sizeOf324
  v162:=Tryz.zeroValue324
  t164:=Tryz.underlying318
  a164:=Tryz.isAgg318
  z164:=Tryz.sizeOf318
  v164:=Tryz.zeroValue318
  t203:=Tryz.underlying322
  a203:=Tryz.isAgg322
  z203:=Tryz.sizeOf322
  v203:=Tryz.zeroValue322
  t206:=Tryz.underlying349
  a206:=Tryz.isAgg349
  z206:=Tryz.sizeOf349
  v206:=Tryz.zeroValue349
  t208:=Tryz.underlying351
  a208:=Tryz.isAgg351
  z208:=Tryz.sizeOf351
  v208:=Tryz.zeroValue351
  g3:=by kernel_rfl
  g4:=by kernel_rfl
  g13:=by kernel_rfl }
theorem Tryz.Builder_Extra_159:Builder.Extra Tryz.prog Tryz.lays159_ren:={
  sizeBuilder:=by kernel_rfl
  liesBuilder:=by kernel_rfl
  t5:=Tryz.underlying5
  a5:=Tryz.isAgg5
  z5:=Tryz.sizeOf5
  v5:=Tryz.zeroValue5
  infoByte:=by kernel_rfl
  cellsByte:=by kernel_rfl
  sizeByte:=by kernel_rfl
  neB5:=by decide }
open Go.RowKit in
theorem Tryz.strings_ToLower_ascii (s:ByteArray) (w:World) (hs:s.size≤140737488355328) (hascii:∀ (j:Nat) (b:UInt8),s.data.toList[j]?=some b→b.toNat<128) :
    Calls Tryz.prog 103 #[.string s] w fun e w'=>e = .returned (.string ⟨(Lib.toLowerA s.data.toList).toArray⟩)∧Below w.heap.size w w':=Any.strings_ToLower_ascii Tryz.lays159 Tryz.Builder_Extra_159 s w hs hascii
def Tryz.lays161_ren:Go.Shelf.Ren:=⟨fun | 161=>104 | 231=>187 | 227=>188 | 233=>189 | 235=>190 | 228=>258 | 197=>253 | 151=>259 | 260=>308 | 152=>311 | 137=>171 | 119=>328 | 224=>304 | 225=>303 | 217=>243 | 266=>299 | n=>n,fun | 9=>9 | 4=>4 | 3=>3 | 5=>5 | 117=>244 | 116=>243 | 0=>0 | 124=>247 | 105=>281 | 21=>21 | 119=>271 | 46=>248 | 139=>274 | 138=>273 | n=>n,fun | 3=>0 | 4=>1 | n=>n⟩
theorem Tryz.lays161:Go.Proofs.Lays.n161 Tryz.prog Tryz.lays161_ren:={
  mixed:=by kernel_rfl
  f119:=Tryz.func328.trans (congrArg some (by kernel_rfl))
  f137:=Tryz.func171.trans (congrArg some (by kernel_rfl))
  f151:=Tryz.func259.trans (congrArg some (by kernel_rfl))
  f152:=Tryz.func311.trans (congrArg some (by kernel_rfl))
  f161:=Tryz.func104.trans (congrArg some (by kernel_rfl))
  f197:=Tryz.func253.trans (congrArg some (by kernel_rfl))
  f217:=Tryz.func243.trans (congrArg some (by kernel_rfl))
  f224:=Tryz.func304.trans (congrArg some (by kernel_rfl))
  f225:=Tryz.func303.trans (congrArg some (by kernel_rfl))
  f227:=Tryz.func188.trans (congrArg some (by kernel_rfl))
  f228:=Tryz.func258.trans (congrArg some (by kernel_rfl))
  f231:=Tryz.func187.trans (congrArg some (by kernel_rfl))
  f233:=Tryz.func189.trans (congrArg some (by kernel_rfl))
  f235:=Tryz.func190.trans (congrArg some (by kernel_rfl))
  f260:=Tryz.func308.trans (congrArg some (by kernel_rfl))
  f266:=Tryz.func299.trans (congrArg some (by kernel_rfl))
  t0:=Tryz.underlying0
  a0:=Tryz.isAgg0
  z0:=Tryz.sizeOf0
  v0:=Tryz.zeroValue0
  t3:=Tryz.underlying3
  a3:=Tryz.isAgg3
  z3:=Tryz.sizeOf3
  v3:=Tryz.zeroValue3
  t4:=Tryz.underlying4
  a4:=Tryz.isAgg4
  z4:=Tryz.sizeOf4
  v4:=Tryz.zeroValue4
  t5:=Tryz.underlying5
  a5:=Tryz.isAgg5
  z5:=Tryz.sizeOf5
  v5:=Tryz.zeroValue5
  t9:=Tryz.underlying9
  a9:=Tryz.isAgg9
  z9:=Tryz.sizeOf9
  v9:=Tryz.zeroValue9
  t21:=Tryz.underlying21
  a21:=Tryz.isAgg21
  z21:=Tryz.sizeOf21
  v21:=Tryz.zeroValue21
  t46:=Tryz.underlying248
  a46:=Tryz.isAgg248
  z46:=Tryz.sizeOf248
  v46:=Tryz.zeroValue248
  t105:=Tryz.underlying281
  a105:=Tryz.isAgg281
  z105:=Tryz.sizeOf281
  v105:=Tryz.zeroValue281
  t116:=Tryz.underlying243
  a116:=Tryz.isAgg243
  z116:=Tryz.sizeOf243
  t117:=Tryz.underlying244
  a117:=Tryz.isAgg244
  z117:=Tryz.sizeOf244
  v117:=Tryz.zeroValue244
  t119:=Tryz.underlying271
  a119:=Tryz.isAgg271
  z119:=Tryz.sizeOf271
  t124:=Tryz.underlying247
  a124:=Tryz.isAgg247
  z124:=Tryz.sizeOf247
  v124:=Tryz.zeroValue247
  t138:=Tryz.underlying273
  a138:=Tryz.isAgg273
  z138:=Tryz.sizeOf273
  v138:=Tryz.zeroValue273
  t139:=Tryz.underlying274
  a139:=Tryz.isAgg274
  z139:=Tryz.sizeOf274
  v139:=Tryz.zeroValue274
  g3:=by kernel_rfl
  g4:=by kernel_rfl }
open Go.RowKit in
theorem Tryz.strings_TrimLeft_one (s:ByteArray) (c:UInt8) (hc:c.toNat<128) (w:World) :
    Calls Tryz.prog 104 #[.string s,.string ⟨#[c]⟩] w fun e w'=>e = .returned (.string ⟨(Lib.trimLeftB s.data.toList c).toArray⟩)∧w'=w:=Any.strings_TrimLeft_one Tryz.lays161 s c hc w
def Tryz.lays162_ren:Go.Shelf.Ren:=⟨fun | 162=>105 | 232=>191 | 227=>188 | 234=>192 | 236=>193 | 228=>258 | 271=>260 | 151=>259 | 120=>312 | 197=>253 | 152=>311 | 260=>308 | 137=>171 | 119=>328 | 224=>304 | 225=>303 | 217=>243 | 266=>299 | n=>n,fun | 9=>9 | 4=>4 | 3=>3 | 5=>5 | 117=>244 | 116=>243 | 0=>0 | 124=>247 | 21=>21 | 105=>281 | 46=>248 | 119=>271 | 139=>274 | 138=>273 | n=>n,fun | 3=>0 | 4=>1 | n=>n⟩
theorem Tryz.lays162:Go.Proofs.Lays.n162 Tryz.prog Tryz.lays162_ren:={
  mixed:=by kernel_rfl
  f119:=Tryz.func328.trans (congrArg some (by kernel_rfl))
  f120:=Tryz.func312.trans (congrArg some (by kernel_rfl))
  f137:=Tryz.func171.trans (congrArg some (by kernel_rfl))
  f151:=Tryz.func259.trans (congrArg some (by kernel_rfl))
  f152:=Tryz.func311.trans (congrArg some (by kernel_rfl))
  f162:=Tryz.func105.trans (congrArg some (by kernel_rfl))
  f197:=Tryz.func253.trans (congrArg some (by kernel_rfl))
  f217:=Tryz.func243.trans (congrArg some (by kernel_rfl))
  f224:=Tryz.func304.trans (congrArg some (by kernel_rfl))
  f225:=Tryz.func303.trans (congrArg some (by kernel_rfl))
  f227:=Tryz.func188.trans (congrArg some (by kernel_rfl))
  f228:=Tryz.func258.trans (congrArg some (by kernel_rfl))
  f232:=Tryz.func191.trans (congrArg some (by kernel_rfl))
  f234:=Tryz.func192.trans (congrArg some (by kernel_rfl))
  f236:=Tryz.func193.trans (congrArg some (by kernel_rfl))
  f260:=Tryz.func308.trans (congrArg some (by kernel_rfl))
  f266:=Tryz.func299.trans (congrArg some (by kernel_rfl))
  f271:=Tryz.func260.trans (congrArg some (by kernel_rfl))
  t0:=Tryz.underlying0
  a0:=Tryz.isAgg0
  z0:=Tryz.sizeOf0
  v0:=Tryz.zeroValue0
  t3:=Tryz.underlying3
  a3:=Tryz.isAgg3
  z3:=Tryz.sizeOf3
  v3:=Tryz.zeroValue3
  t4:=Tryz.underlying4
  a4:=Tryz.isAgg4
  z4:=Tryz.sizeOf4
  v4:=Tryz.zeroValue4
  t5:=Tryz.underlying5
  a5:=Tryz.isAgg5
  z5:=Tryz.sizeOf5
  v5:=Tryz.zeroValue5
  t9:=Tryz.underlying9
  a9:=Tryz.isAgg9
  z9:=Tryz.sizeOf9
  v9:=Tryz.zeroValue9
  t21:=Tryz.underlying21
  a21:=Tryz.isAgg21
  z21:=Tryz.sizeOf21
  v21:=Tryz.zeroValue21
  t46:=Tryz.underlying248
  a46:=Tryz.isAgg248
  z46:=Tryz.sizeOf248
  v46:=Tryz.zeroValue248
  t105:=Tryz.underlying281
  a105:=Tryz.isAgg281
  z105:=Tryz.sizeOf281
  v105:=Tryz.zeroValue281
  t116:=Tryz.underlying243
  a116:=Tryz.isAgg243
  z116:=Tryz.sizeOf243
  t117:=Tryz.underlying244
  a117:=Tryz.isAgg244
  z117:=Tryz.sizeOf244
  v117:=Tryz.zeroValue244
  t119:=Tryz.underlying271
  a119:=Tryz.isAgg271
  z119:=Tryz.sizeOf271
  t124:=Tryz.underlying247
  a124:=Tryz.isAgg247
  z124:=Tryz.sizeOf247
  v124:=Tryz.zeroValue247
  t138:=Tryz.underlying273
  a138:=Tryz.isAgg273
  z138:=Tryz.sizeOf273
  v138:=Tryz.zeroValue273
  t139:=Tryz.underlying274
  a139:=Tryz.isAgg274
  z139:=Tryz.sizeOf274
  v139:=Tryz.zeroValue274
  g3:=by kernel_rfl
  g4:=by kernel_rfl }
open Go.RowKit in
theorem Tryz.strings_TrimRight_one (s:ByteArray) (c:UInt8) (hc:c.toNat<128) (w:World) (hs:s.size≤9223372036854775807) :
    Calls Tryz.prog 105 #[.string s,.string ⟨#[c]⟩] w fun e w'=>e = .returned (.string ⟨(Lib.trimRightB s.data.toList c).toArray⟩)∧w'=w:=Any.strings_TrimRight_one Tryz.lays162 s c hc w hs
def Tryz.lays137_ren:Go.Shelf.Ren:=⟨fun | 137=>171 | 217=>243 | 266=>299 | n=>n,fun | 9=>9 | 5=>5 | 3=>3 | n=>n,fun | n=>n⟩
theorem Tryz.lays137:Go.Proofs.Lays.n137 Tryz.prog Tryz.lays137_ren:={
  mixed:=by kernel_rfl
  f137:=Tryz.func171.trans (congrArg some (by kernel_rfl))
  f217:=Tryz.func243.trans (congrArg some (by kernel_rfl))
  f266:=Tryz.func299.trans (congrArg some (by kernel_rfl))
  t3:=Tryz.underlying3
  a3:=Tryz.isAgg3
  z3:=Tryz.sizeOf3
  v3:=Tryz.zeroValue3
  t5:=Tryz.underlying5
  a5:=Tryz.isAgg5
  z5:=Tryz.sizeOf5
  v5:=Tryz.zeroValue5
  t9:=Tryz.underlying9
  a9:=Tryz.isAgg9
  z9:=Tryz.sizeOf9
  v9:=Tryz.zeroValue9 }
open Go.RowKit in
theorem Tryz.strings_IndexByte (s:ByteArray) (c:Int) (w:World) :
    Calls Tryz.prog 171 #[.string s,.int .u8 c] w fun e w'=>e = .returned (.int .i64 (Lib.indexByte s.data.toList c.toNat.toUInt8))∧w'=w:=Any.strings_IndexByte Tryz.lays137 s c w
def Tryz.lays195_ren:Go.Shelf.Ren:=⟨fun | 195=>323 | n=>n,fun | 9=>9 | 3=>3 | 0=>0 | 4=>4 | n=>n,fun | n=>n⟩
theorem Tryz.lays195:Go.Proofs.Lays.n195 Tryz.prog Tryz.lays195_ren:={
  mixed:=by kernel_rfl
  f195:=Tryz.func323.trans (congrArg some (by kernel_rfl))
  t0:=Tryz.underlying0
  a0:=Tryz.isAgg0
  z0:=Tryz.sizeOf0
  v0:=Tryz.zeroValue0
  t3:=Tryz.underlying3
  a3:=Tryz.isAgg3
  z3:=Tryz.sizeOf3
  v3:=Tryz.zeroValue3
  t4:=Tryz.underlying4
  a4:=Tryz.isAgg4
  z4:=Tryz.sizeOf4
  v4:=Tryz.zeroValue4
  t9:=Tryz.underlying9
  a9:=Tryz.isAgg9
  z9:=Tryz.sizeOf9
  v9:=Tryz.zeroValue9 }
open Go.RowKit in
theorem Tryz.utf8_RuneCountInString (s:ByteArray) (w:World) (hs:s.size<9223372036854775807) :
    Calls Tryz.prog 323 #[.string s] w fun e w'=>e = .returned (.int .i64 (Lib.runeCount s))∧∃ pos,w'=w.iter s pos:=Any.utf8_RuneCountInString Tryz.lays195 s w hs
def Tryz.laysM171_ren:Go.Shelf.Ren:=⟨fun | 171=>31 | 243=>110 | 246=>199 | 283=>269 | 284=>270 | 285=>271 | 286=>272 | 129=>317 | 317=>316 | 318=>318 | 319=>319 | 320=>320 | 337=>331 | 338=>332 | n=>n,fun | 3=>3 | 9=>9 | 2=>2 | 4=>4 | 171=>298 | 0=>0 | 53=>182 | 37=>186 | 5=>5 | 173=>301 | 212=>332 | 51=>287 | 20=>20 | 213=>333 | 46=>248 | 232=>352 | 233=>353 | n=>n,fun | 17=>6 | 18=>7 | 19=>8 | n=>n⟩
theorem Tryz.laysM171:Go.Proofs.LaysM.n171 Tryz.prog Tryz.laysM171_ren:={
  mixed:=by kernel_rfl
  f129:=Tryz.func317.trans (congrArg some (by kernel_rfl))
  f171:=Tryz.func31.trans (congrArg some (by kernel_rfl))
  f243:=Tryz.func110.trans (congrArg some (by kernel_rfl))
  f246:=Tryz.func199.trans (congrArg some (by kernel_rfl))
  f283:=Tryz.func269.trans (congrArg some (by kernel_rfl))
  f284:=Tryz.func270.trans (congrArg some (by kernel_rfl))
  f285:=Tryz.func271.trans (congrArg some (by kernel_rfl))
  f286:=Tryz.func272.trans (congrArg some (by kernel_rfl))
  f317:=Tryz.func316.trans (congrArg some (by kernel_rfl))
  f318:=Tryz.func318.trans (congrArg some (by kernel_rfl))
  f319:=Tryz.func319.trans (congrArg some (by kernel_rfl))
  f320:=Tryz.func320.trans (congrArg some (by kernel_rfl))
  f337:=Tryz.func331.trans (congrArg some (by kernel_rfl))
  f338:=Tryz.func332.trans (congrArg some (by kernel_rfl))
  t0:=Tryz.underlying0
  a0:=Tryz.isAgg0
  z0:=Tryz.sizeOf0
  v0:=Tryz.zeroValue0
  t2:=Tryz.underlying2
  a2:=Tryz.isAgg2
  z2:=Tryz.sizeOf2
  v2:=Tryz.zeroValue2
  t3:=Tryz.underlying3
  a3:=Tryz.isAgg3
  z3:=Tryz.sizeOf3
  v3:=Tryz.zeroValue3
  t4:=Tryz.underlying4
  a4:=Tryz.isAgg4
  z4:=Tryz.sizeOf4
  v4:=Tryz.zeroValue4
  t5:=Tryz.underlying5
  a5:=Tryz.isAgg5
  z5:=Tryz.sizeOf5
  v5:=Tryz.zeroValue5
  t9:=Tryz.underlying9
  a9:=Tryz.isAgg9
  z9:=Tryz.sizeOf9
  v9:=Tryz.zeroValue9
  t20:=Tryz.underlying20
  a20:=Tryz.isAgg20
  z20:=Tryz.sizeOf20
  v20:=Tryz.zeroValue20
  t37:=Tryz.underlying186
  a37:=Tryz.isAgg186
  z37:=Tryz.sizeOf186
  v37:=Tryz.zeroValue186
  t46:=Tryz.underlying248
  a46:=Tryz.isAgg248
  z46:=Tryz.sizeOf248
  v46:=Tryz.zeroValue248
  t51:=Tryz.underlying287
  a51:=Tryz.isAgg287
  z51:=Tryz.sizeOf287
  v51:=Tryz.zeroValue287
  t53:=Tryz.underlying182
  a53:=Tryz.isAgg182
  z53:=Tryz.sizeOf182
  v53:=Tryz.zeroValue182
  t171:=Tryz.underlying298
  a171:=Tryz.isAgg298
  z171:=Tryz.sizeOf298
  v171:=Tryz.zeroValue298
  t173:=Tryz.underlying301
  a173:=Tryz.isAgg301
  z173:=Tryz.sizeOf301
  v173:=Tryz.zeroValue301
  t212:=Tryz.underlying332
  a212:=Tryz.isAgg332
  z212:=Tryz.sizeOf332
  v212:=Tryz.zeroValue332
  t213:=Tryz.underlying333
  a213:=Tryz.isAgg333
  z213:=Tryz.sizeOf333
  t232:=Tryz.underlying352
  a232:=Tryz.isAgg352
  z232:=Tryz.sizeOf352
  v232:=Tryz.zeroValue352
  t233:=Tryz.underlying353
  a233:=Tryz.isAgg353
  z233:=Tryz.sizeOf353
  v233:=Tryz.zeroValue353
  g17:=by kernel_rfl
  g18:=by kernel_rfl
  g19:=by kernel_rfl
  i0:=by kernel_rfl
  i2:=by kernel_rfl
  i3:=by kernel_rfl
  i4:=by kernel_rfl
  i5:=by kernel_rfl
  i9:=by kernel_rfl
  i20:=by kernel_rfl
  i37:=by kernel_rfl
  i46:=by kernel_rfl
  i51:=by kernel_rfl
  i53:=by kernel_rfl
  i171:=by kernel_rfl
  i173:=by kernel_rfl
  i212:=by kernel_rfl
  i232:=by kernel_rfl
  i233:=by kernel_rfl
  m17:=by kernel_rfl
  m18:=by kernel_rfl
  m19:=by kernel_rfl }
open Go.RowKit Go.Sort Go.Lib in
theorem Tryz.strconv_Itoa (n:Int) (h0 : -9223372036854775808≤n) (h1:n≤9223372036854775807) (w:World) (htab:Lib.TabIs Tryz.prog w "internal/strconv.uint64pow10" .u64 Lib.pow10Tab) :
    Calls Tryz.prog 31 #[.int .i64 n] w fun e w'=>e = .returned (.string ⟨(Lib.itoa n).toArray⟩)∧∃ k os,w'=grow (w.drewN k) os:=Any.strconv_Itoa Tryz.laysM171 n h0 h1 w htab
def Tryz.laysC172_ren:Go.Shelf.Ren:=⟨fun | 172=>108 | 244=>197 | 245=>198 | 247=>264 | 279=>265 | 280=>266 | 281=>267 | 282=>268 | 287=>313 | 316=>314 | 171=>31 | 205=>315 | 321=>329 | 322=>330 | 243=>110 | 246=>199 | 283=>269 | 284=>270 | 285=>271 | 286=>272 | 129=>317 | 317=>316 | 318=>318 | 319=>319 | 320=>320 | 337=>331 | 338=>332 | n=>n,fun | 9=>9 | 3=>3 | 75=>177 | 76=>178 | 4=>4 | 5=>5 | 167=>292 | 37=>186 | 0=>0 | 85=>293 | 2=>2 | 168=>295 | 53=>182 | 175=>326 | 46=>248 | 210=>329 | 127=>254 | 145=>346 | 143=>344 | 21=>21 | 171=>298 | 173=>301 | 212=>332 | 51=>287 | 20=>20 | 213=>333 | 232=>352 | 233=>353 | 80=>192 | n=>n,fun | 15=>4 | 16=>5 | 17=>6 | 18=>7 | 19=>8 | n=>n⟩
theorem Tryz.laysC172:Go.Proofs.LaysC.n172 Tryz.prog Tryz.laysC172_ren:={
  mixed:=by kernel_rfl
  f129:=Tryz.func317.trans (congrArg some (by kernel_rfl))
  f171:=Tryz.func31.trans (congrArg some (by kernel_rfl))
  f172:=Tryz.func108.trans (congrArg some (by kernel_rfl))
  f205:=Tryz.func315.trans (congrArg some (by kernel_rfl))
  f243:=Tryz.func110.trans (congrArg some (by kernel_rfl))
  f244:=Tryz.func197.trans (congrArg some (by kernel_rfl))
  f245:=Tryz.func198.trans (congrArg some (by kernel_rfl))
  f246:=Tryz.func199.trans (congrArg some (by kernel_rfl))
  f247:=Tryz.func264.trans (congrArg some (by kernel_rfl))
  f279:=Tryz.func265.trans (congrArg some (by kernel_rfl))
  f280:=Tryz.func266.trans (congrArg some (by kernel_rfl))
  f281:=Tryz.func267.trans (congrArg some (by kernel_rfl))
  f282:=Tryz.func268.trans (congrArg some (by kernel_rfl))
  f283:=Tryz.func269.trans (congrArg some (by kernel_rfl))
  f284:=Tryz.func270.trans (congrArg some (by kernel_rfl))
  f285:=Tryz.func271.trans (congrArg some (by kernel_rfl))
  f286:=Tryz.func272.trans (congrArg some (by kernel_rfl))
  f287:=Tryz.func313.trans (congrArg some (by kernel_rfl))
  f316:=Tryz.func314.trans (congrArg some (by kernel_rfl))
  f317:=Tryz.func316.trans (congrArg some (by kernel_rfl))
  f318:=Tryz.func318.trans (congrArg some (by kernel_rfl))
  f319:=Tryz.func319.trans (congrArg some (by kernel_rfl))
  f320:=Tryz.func320.trans (congrArg some (by kernel_rfl))
  f321:=Tryz.func329.trans (congrArg some (by kernel_rfl))
  f322:=Tryz.func330.trans (congrArg some (by kernel_rfl))
  f337:=Tryz.func331.trans (congrArg some (by kernel_rfl))
  f338:=Tryz.func332.trans (congrArg some (by kernel_rfl))
  t0:=Tryz.underlying0
  a0:=Tryz.isAgg0
  z0:=Tryz.sizeOf0
  v0:=Tryz.zeroValue0
  t2:=Tryz.underlying2
  a2:=Tryz.isAgg2
  z2:=Tryz.sizeOf2
  v2:=Tryz.zeroValue2
  t3:=Tryz.underlying3
  a3:=Tryz.isAgg3
  z3:=Tryz.sizeOf3
  v3:=Tryz.zeroValue3
  t4:=Tryz.underlying4
  a4:=Tryz.isAgg4
  z4:=Tryz.sizeOf4
  v4:=Tryz.zeroValue4
  t5:=Tryz.underlying5
  a5:=Tryz.isAgg5
  z5:=Tryz.sizeOf5
  v5:=Tryz.zeroValue5
  t9:=Tryz.underlying9
  a9:=Tryz.isAgg9
  z9:=Tryz.sizeOf9
  v9:=Tryz.zeroValue9
  t20:=Tryz.underlying20
  a20:=Tryz.isAgg20
  z20:=Tryz.sizeOf20
  v20:=Tryz.zeroValue20
  t21:=Tryz.underlying21
  a21:=Tryz.isAgg21
  z21:=Tryz.sizeOf21
  v21:=Tryz.zeroValue21
  t37:=Tryz.underlying186
  a37:=Tryz.isAgg186
  z37:=Tryz.sizeOf186
  v37:=Tryz.zeroValue186
  t46:=Tryz.underlying248
  a46:=Tryz.isAgg248
  z46:=Tryz.sizeOf248
  v46:=Tryz.zeroValue248
  t51:=Tryz.underlying287
  a51:=Tryz.isAgg287
  z51:=Tryz.sizeOf287
  v51:=Tryz.zeroValue287
  t53:=Tryz.underlying182
  a53:=Tryz.isAgg182
  z53:=Tryz.sizeOf182
  v53:=Tryz.zeroValue182
  t75:=Tryz.underlying177
  a75:=Tryz.isAgg177
  z75:=Tryz.sizeOf177
  v75:=Tryz.zeroValue177
  t76:=Tryz.underlying178
  a76:=Tryz.isAgg178
  z76:=Tryz.sizeOf178
  v76:=Tryz.zeroValue178
  t85:=Tryz.underlying293
  a85:=Tryz.isAgg293
  z85:=Tryz.sizeOf293
  v85:=Tryz.zeroValue293
  t127:=Tryz.underlying254
  a127:=Tryz.isAgg254
  z127:=Tryz.sizeOf254
  v127:=Tryz.zeroValue254
  t143:=Tryz.underlying344
  a143:=Tryz.isAgg344
  z143:=Tryz.sizeOf344
  v143:=Tryz.zeroValue344
  t145:=Tryz.underlying346
  a145:=Tryz.isAgg346
  z145:=Tryz.sizeOf346
  v145:=Tryz.zeroValue346
  t167:=Tryz.underlying292
  a167:=Tryz.isAgg292
  z167:=Tryz.sizeOf292
  v167:=Tryz.zeroValue292
  t168:=Tryz.underlying295
  a168:=Tryz.isAgg295
  z168:=Tryz.sizeOf295
  v168:=Tryz.zeroValue295
  t171:=Tryz.underlying298
  a171:=Tryz.isAgg298
  z171:=Tryz.sizeOf298
  v171:=Tryz.zeroValue298
  t173:=Tryz.underlying301
  a173:=Tryz.isAgg301
  z173:=Tryz.sizeOf301
  v173:=Tryz.zeroValue301
  t175:=Tryz.underlying326
  a175:=Tryz.isAgg326
  z175:=Tryz.sizeOf326
  v175:=Tryz.zeroValue326
  t210:=Tryz.underlying329
  a210:=Tryz.isAgg329
  z210:=Tryz.sizeOf329
  v210:=Tryz.zeroValue329
  t212:=Tryz.underlying332
  a212:=Tryz.isAgg332
  z212:=Tryz.sizeOf332
  v212:=Tryz.zeroValue332
  t213:=Tryz.underlying333
  a213:=Tryz.isAgg333
  z213:=Tryz.sizeOf333
  t232:=Tryz.underlying352
  a232:=Tryz.isAgg352
  z232:=Tryz.sizeOf352
  v232:=Tryz.zeroValue352
  t233:=Tryz.underlying353
  a233:=Tryz.isAgg353
  z233:=Tryz.sizeOf353
  v233:=Tryz.zeroValue353
  g15:=by kernel_rfl
  g16:=by kernel_rfl
  g17:=by kernel_rfl
  g18:=by kernel_rfl
  g19:=by kernel_rfl
  t80:=Tryz.underlying192
  a80:=Tryz.isAgg192
  z80:=Tryz.sizeOf192
  v80:=Tryz.zeroValue192
  i0:=by kernel_rfl
  i2:=by kernel_rfl
  i3:=by kernel_rfl
  i4:=by kernel_rfl
  i5:=by kernel_rfl
  i9:=by kernel_rfl
  i20:=by kernel_rfl
  i21:=by kernel_rfl
  i37:=by kernel_rfl
  i46:=by kernel_rfl
  i51:=by kernel_rfl
  i53:=by kernel_rfl
  i75:=by kernel_rfl
  i76:=by kernel_rfl
  i80:=by kernel_rfl
  i85:=by kernel_rfl
  i127:=by kernel_rfl
  i143:=by kernel_rfl
  i145:=by kernel_rfl
  i167:=by kernel_rfl
  i168:=by kernel_rfl
  i171:=by kernel_rfl
  i173:=by kernel_rfl
  i175:=by kernel_rfl
  i210:=by kernel_rfl
  i212:=by kernel_rfl
  i232:=by kernel_rfl
  i233:=by kernel_rfl
  m15:=by kernel_rfl
  m16:=by kernel_rfl
  m17:=by kernel_rfl
  m18:=by kernel_rfl
  m19:=by kernel_rfl
  c0:=by kernel_rfl
  c2:=by kernel_rfl
  c3:=by kernel_rfl
  c4:=by kernel_rfl
  c5:=by kernel_rfl
  c9:=by kernel_rfl
  c20:=by kernel_rfl
  c21:=by kernel_rfl
  c37:=by kernel_rfl
  c46:=by kernel_rfl
  c51:=by kernel_rfl
  c53:=by kernel_rfl
  c75:=by kernel_rfl
  c76:=by kernel_rfl
  c80:=by kernel_rfl
  c85:=by kernel_rfl
  c127:=by kernel_rfl
  c143:=by kernel_rfl
  c145:=by kernel_rfl
  c167:=by kernel_rfl
  c168:=by kernel_rfl
  c171:=by kernel_rfl
  c173:=by kernel_rfl
  c175:=by kernel_rfl
  c210:=by kernel_rfl
  c212:=by kernel_rfl
  c213:=by kernel_rfl
  c232:=by kernel_rfl
  c233:=by kernel_rfl }
open Go.RowKit in
theorem Tryz.strconv_Atoi_ok (s:ByteArray) (hmax:s.size≤9223372036854775806) (v:Int) (h:Lib.atoiAll s.data.toList = .ok v) (w:World) :
    Calls Tryz.prog 108 #[.string s] w fun e w'=>e = .returned (.tuple #[.int .i64 v,.nilIface])∧(w'=w∨∃ t,w'=Lib.bytesWorld w 5 t):=Any.strconv_Atoi_ok Tryz.laysC172 s hmax v h w
def Tryz.lays145_ren:Go.Shelf.Ren:=⟨fun | 145=>102 | 220=>181 | 219=>250 | 217=>243 | 225=>303 | 224=>304 | 267=>305 | 266=>299 | 314=>324 | n=>n,fun | 9=>9 | 4=>4 | 59=>170 | 3=>3 | 5=>5 | 46=>248 | 146=>288 | 51=>287 | n=>n,fun | 1=>2 | n=>n⟩
theorem Tryz.lays145:Go.Proofs.Lays.n145 Tryz.prog Tryz.lays145_ren:={
  mixed:=by kernel_rfl
  f145:=Tryz.func102.trans (congrArg some (by kernel_rfl))
  f217:=Tryz.func243.trans (congrArg some (by kernel_rfl))
  f219:=Tryz.func250.trans (congrArg some (by kernel_rfl))
  f220:=Tryz.func181.trans (congrArg some (by kernel_rfl))
  f224:=Tryz.func304.trans (congrArg some (by kernel_rfl))
  f225:=Tryz.func303.trans (congrArg some (by kernel_rfl))
  f266:=Tryz.func299.trans (congrArg some (by kernel_rfl))
  f267:=Tryz.func305.trans (congrArg some (by kernel_rfl))
  f314:=Tryz.func324.trans (congrArg some (by kernel_rfl))
  t3:=Tryz.underlying3
  a3:=Tryz.isAgg3
  z3:=Tryz.sizeOf3
  v3:=Tryz.zeroValue3
  t4:=Tryz.underlying4
  a4:=Tryz.isAgg4
  z4:=Tryz.sizeOf4
  v4:=Tryz.zeroValue4
  t5:=Tryz.underlying5
  a5:=Tryz.isAgg5
  z5:=Tryz.sizeOf5
  v5:=Tryz.zeroValue5
  t9:=Tryz.underlying9
  a9:=Tryz.isAgg9
  z9:=Tryz.sizeOf9
  v9:=Tryz.zeroValue9
  t46:=Tryz.underlying248
  a46:=Tryz.isAgg248
  z46:=Tryz.sizeOf248
  v46:=Tryz.zeroValue248
  t51:=Tryz.underlying287
  a51:=Tryz.isAgg287
  z51:=Tryz.sizeOf287
  v51:=Tryz.zeroValue287
  t59:=Tryz.underlying170
  a59:=Tryz.isAgg170
  z59:=Tryz.sizeOf170
  v59:=Tryz.zeroValue170
  t146:=Tryz.underlying288
  a146:=Tryz.isAgg288
  z146:=Tryz.sizeOf288
  v146:=Tryz.zeroValue288
  g1:=by kernel_rfl }
open Go.RowKit Go.Lib in
theorem Tryz.strings_Cut (s sep:ByteArray) (m:Int) (w:World) (hs:s.size<4294967281) (hm:w.cell? ⟨2,0,none⟩=some (.int .i64 m)) :
    Calls Tryz.prog 102 #[.string s,.string sep] w fun e w'=>e = .returned (.tuple #[.string ⟨(Lib.cut s.data.toList sep.data.toList).1.toArray⟩,.string ⟨(Lib.cut s.data.toList sep.data.toList).2.1.toArray⟩,.bool (Lib.cut s.data.toList sep.data.toList).2.2])∧∃ n,w'=w.drewN n:=Any.strings_Cut Tryz.lays145 s sep m w hs hm
def Tryz.lays105_ren:Go.Shelf.Ren:=⟨fun | 105=>107 | 212=>195 | 99=>196 | 165=>182 | 166=>183 | 170=>114 | 169=>115 | 263=>262 | 264=>263 | 206=>249 | 240=>251 | 241=>252 | 276=>306 | 277=>307 | n=>n,fun | 9=>9 | 3=>3 | 4=>4 | 20=>20 | 0=>0 | 46=>248 | 109=>249 | 5=>5 | 72=>188 | 76=>178 | 51=>287 | 146=>288 | 53=>182 | 148=>290 | 70=>185 | 37=>186 | 75=>177 | 127=>254 | 164=>318 | 80=>192 | n=>n,fun | n=>n⟩
theorem Tryz.lays105:Go.Proofs.Lays.n105 Tryz.prog Tryz.lays105_ren:={
  mixed:=by kernel_rfl
  f99:=Tryz.func196.trans (congrArg some (by kernel_rfl))
  f105:=Tryz.func107.trans (congrArg some (by kernel_rfl))
  f165:=Tryz.func182.trans (congrArg some (by kernel_rfl))
  f166:=Tryz.func183.trans (congrArg some (by kernel_rfl))
  f169:=Tryz.func115.trans (congrArg some (by kernel_rfl))
  f170:=Tryz.func114.trans (congrArg some (by kernel_rfl))
  f206:=Tryz.func249.trans (congrArg some (by kernel_rfl))
  f212:=Tryz.func195.trans (congrArg some (by kernel_rfl))
  f240:=Tryz.func251.trans (congrArg some (by kernel_rfl))
  f241:=Tryz.func252.trans (congrArg some (by kernel_rfl))
  f263:=Tryz.func262.trans (congrArg some (by kernel_rfl))
  f264:=Tryz.func263.trans (congrArg some (by kernel_rfl))
  f276:=Tryz.func306.trans (congrArg some (by kernel_rfl))
  f277:=Tryz.func307.trans (congrArg some (by kernel_rfl))
  t0:=Tryz.underlying0
  a0:=Tryz.isAgg0
  z0:=Tryz.sizeOf0
  v0:=Tryz.zeroValue0
  t3:=Tryz.underlying3
  a3:=Tryz.isAgg3
  z3:=Tryz.sizeOf3
  v3:=Tryz.zeroValue3
  t4:=Tryz.underlying4
  a4:=Tryz.isAgg4
  z4:=Tryz.sizeOf4
  v4:=Tryz.zeroValue4
  t5:=Tryz.underlying5
  a5:=Tryz.isAgg5
  z5:=Tryz.sizeOf5
  v5:=Tryz.zeroValue5
  t9:=Tryz.underlying9
  a9:=Tryz.isAgg9
  z9:=Tryz.sizeOf9
  v9:=Tryz.zeroValue9
  t20:=Tryz.underlying20
  a20:=Tryz.isAgg20
  z20:=Tryz.sizeOf20
  v20:=Tryz.zeroValue20
  t37:=Tryz.underlying186
  a37:=Tryz.isAgg186
  z37:=Tryz.sizeOf186
  v37:=Tryz.zeroValue186
  t46:=Tryz.underlying248
  a46:=Tryz.isAgg248
  z46:=Tryz.sizeOf248
  v46:=Tryz.zeroValue248
  t51:=Tryz.underlying287
  a51:=Tryz.isAgg287
  z51:=Tryz.sizeOf287
  v51:=Tryz.zeroValue287
  t53:=Tryz.underlying182
  a53:=Tryz.isAgg182
  z53:=Tryz.sizeOf182
  v53:=Tryz.zeroValue182
  t70:=Tryz.underlying185
  a70:=Tryz.isAgg185
  z70:=Tryz.sizeOf185
  v70:=Tryz.zeroValue185
  t72:=Tryz.underlying188
  a72:=Tryz.isAgg188
  z72:=Tryz.sizeOf188
  v72:=Tryz.zeroValue188
  t75:=Tryz.underlying177
  a75:=Tryz.isAgg177
  z75:=Tryz.sizeOf177
  v75:=Tryz.zeroValue177
  t76:=Tryz.underlying178
  a76:=Tryz.isAgg178
  z76:=Tryz.sizeOf178
  v76:=Tryz.zeroValue178
  t109:=Tryz.underlying249
  a109:=Tryz.isAgg249
  z109:=Tryz.sizeOf249
  v109:=Tryz.zeroValue249
  t127:=Tryz.underlying254
  a127:=Tryz.isAgg254
  z127:=Tryz.sizeOf254
  v127:=Tryz.zeroValue254
  t146:=Tryz.underlying288
  a146:=Tryz.isAgg288
  z146:=Tryz.sizeOf288
  v146:=Tryz.zeroValue288
  t148:=Tryz.underlying290
  a148:=Tryz.isAgg290
  z148:=Tryz.sizeOf290
  v148:=Tryz.zeroValue290
  t164:=Tryz.underlying318
  a164:=Tryz.isAgg318
  z164:=Tryz.sizeOf318
  v164:=Tryz.zeroValue318 }
theorem Tryz.Builder_Extra_105:Builder.Extra Tryz.prog Tryz.lays105_ren:={
  sizeBuilder:=by kernel_rfl
  liesBuilder:=by kernel_rfl
  t5:=Tryz.underlying5
  a5:=Tryz.isAgg5
  z5:=Tryz.sizeOf5
  v5:=Tryz.zeroValue5
  infoByte:=by kernel_rfl
  cellsByte:=by kernel_rfl
  sizeByte:=by kernel_rfl
  neB5:=by decide }
open Go.RowKit Go.Lib in
theorem Tryz.strings_Repeat (s:ByteArray) (c:Nat) (w:World) (hc:c≤9223372036854775807) (hlen:s.size*c≤140737488355328) :
    Calls Tryz.prog 107 #[.string s,.int .i64 c] w fun e w'=>e = .returned (.string ⟨(Lib.repeatL s.data.toList c).toArray⟩)∧Below w.heap.size w w':=Any.strings_Repeat Tryz.lays105 Tryz.Builder_Extra_105 s c w hc hlen
def Tryz.lays196_ren:Go.Shelf.Ren:=⟨fun | 196=>163 | 259=>237 | n=>n,fun | 9=>9 | 4=>4 | 3=>3 | 5=>5 | 12=>12 | 119=>271 | 0=>0 | 46=>248 | 139=>274 | 138=>273 | 53=>182 | n=>n,fun | 3=>0 | 4=>1 | n=>n⟩
theorem Tryz.lays196:Go.Proofs.Lays.n196 Tryz.prog Tryz.lays196_ren:={
  mixed:=by kernel_rfl
  f196:=Tryz.func163.trans (congrArg some (by kernel_rfl))
  f259:=Tryz.func237.trans (congrArg some (by kernel_rfl))
  t0:=Tryz.underlying0
  a0:=Tryz.isAgg0
  z0:=Tryz.sizeOf0
  v0:=Tryz.zeroValue0
  t3:=Tryz.underlying3
  a3:=Tryz.isAgg3
  z3:=Tryz.sizeOf3
  v3:=Tryz.zeroValue3
  t4:=Tryz.underlying4
  a4:=Tryz.isAgg4
  z4:=Tryz.sizeOf4
  v4:=Tryz.zeroValue4
  t5:=Tryz.underlying5
  a5:=Tryz.isAgg5
  z5:=Tryz.sizeOf5
  v5:=Tryz.zeroValue5
  t9:=Tryz.underlying9
  a9:=Tryz.isAgg9
  z9:=Tryz.sizeOf9
  v9:=Tryz.zeroValue9
  t12:=Tryz.underlying12
  a12:=Tryz.isAgg12
  z12:=Tryz.sizeOf12
  v12:=Tryz.zeroValue12
  t46:=Tryz.underlying248
  a46:=Tryz.isAgg248
  z46:=Tryz.sizeOf248
  v46:=Tryz.zeroValue248
  t53:=Tryz.underlying182
  a53:=Tryz.isAgg182
  z53:=Tryz.sizeOf182
  v53:=Tryz.zeroValue182
  t119:=Tryz.underlying271
  a119:=Tryz.isAgg271
  z119:=Tryz.sizeOf271
  t138:=Tryz.underlying273
  a138:=Tryz.isAgg273
  z138:=Tryz.sizeOf273
  v138:=Tryz.zeroValue273
  t139:=Tryz.underlying274
  a139:=Tryz.isAgg274
  z139:=Tryz.sizeOf274
  v139:=Tryz.zeroValue274
  g3:=by kernel_rfl
  g4:=by kernel_rfl }
end Go.Proofs
namespace Go.Proofs.YtpjbjdheeemdiaaGreatDoor
open Go Go.Fw Go.RowKit
theorem Zgt {w w':World} {n:Nat} (hb:Below n w w'):Fw.Same w w':=⟨hb.tape,hb.os,hb.output⟩
theorem ZjS {w w':World} (hb:Below w.heap.size w w'):Ext w.heap w'.heap:=⟨hb.size,hb.block⟩
noncomputable def ZfA:Zh:=⟨[.one (.S),.one (.I .u8)],[.one (.I .i64)],fun t K _ h=>Yz t.1 t.2.1 (fun r0 h=>K (r0,()) h) h⟩
theorem Zbw:Zo Tryz.prog 171 ZfA where
  named:=⟨_,Tryz.func171,by kernel_rfl,by kernel_rfl⟩
  calls t K Kp w hk:=by
    refine (Tryz.strings_IndexByte t.1 t.2.1 w).mono ?_
    rintro e w' ⟨rfl,rfl⟩
    exact .inl ⟨(_,()),rfl,⟨rfl,rfl,rfl⟩,hk⟩
noncomputable def Zds:Zh:=⟨[.one (.S)],[.one (.B)],fun t K _ h=>ZL t.1 (fun r0 h=>K (r0,()) h) h⟩
theorem YV:Zo Tryz.prog 163 Zds where
  named:=⟨_,Tryz.func163,by kernel_rfl,by kernel_rfl⟩
  calls t K Kp w hk:=by
    obtain ⟨hT,hs,hk⟩:=hk
    refine (Any.utf8_ValidString Tryz.lays196 t.1 w hs (hT.utf w rfl)).mono ?_
    rintro e w' ⟨rfl,hb⟩
    exact .inl ⟨(_,()),rfl,Zgt hb,hk _ (ZjS hb)⟩
noncomputable def Zcv:Zh:=⟨[.one (.S)],[.one (.I .i64)],fun t K _ h=>Yv t.1 (fun r0 h=>K (r0,()) h) h⟩
theorem Zch:Zo Tryz.prog 323 Zcv where
  named:=⟨_,Tryz.func323,by kernel_rfl,by kernel_rfl⟩
  calls t K Kp w hk:=by
    obtain ⟨hs,hk⟩:=hk
    refine (Tryz.utf8_RuneCountInString t.1 w hs).mono ?_
    rintro e w' ⟨rfl,pos,rfl⟩
    exact .inl ⟨(_,()),rfl,⟨rfl,rfl,rfl⟩,hk _ (Ext.push _ _)⟩
noncomputable def ZiU:Zh:=⟨[.one (.I .i64)],[.one (.S)],fun t K _ h=>ZdE t.1 (fun r0 h=>K (r0,()) h) h⟩
theorem Zh6:Zo Tryz.prog 31 ZiU where
  named:=⟨_,Tryz.func31,by kernel_rfl,by kernel_rfl⟩
  calls t K Kp w hk:=by
    obtain ⟨hT,h0,h1,hk⟩:=hk
    refine (Tryz.strconv_Itoa t.1 h0 h1 w (hT.pow w rfl)).mono ?_
    rintro e w' ⟨rfl,k,os,rfl⟩
    refine .inl ⟨(_,()),rfl,⟨rfl,rfl,rfl⟩,hk _ ⟨?_,fun j hj=>?_⟩⟩
    ·show w.heap.size≤(w.heap++os).size
     rw [Array.size_append];omega
    ·show (w.heap++os)[j]?=w.heap[j]?
     rw [Array.getElem?_append_left hj]
noncomputable def ZiV:Zh:=⟨[.one (.S)],[.one (.I .i64),.one (.V)],fun t K _ h=>Zah t.1 (fun r0 r1 h=>K (r0,r1,()) h) h⟩
theorem ZeJ:Zo Tryz.prog 108 ZiV where
  named:=⟨_,Tryz.func108,by kernel_rfl,by kernel_rfl⟩
  calls t K Kp w hk:=by
    obtain ⟨hT,hs,hk⟩:=hk
    cases hx:Lib.atoiAll t.1.data.toList with
    | ok v =>
      rw [hx] at hk
      refine (Tryz.strconv_Atoi_ok t.1 (by omega) v hx w).mono ?_
      rintro e w' ⟨rfl,rfl | ⟨s,rfl⟩⟩
      ·exact .inl ⟨(_,_,()),rfl,⟨rfl,rfl,rfl⟩,hk _ (Ext.refl _)⟩
      ·have hb:=Lib.bytesWorld_below w 5 s
       exact .inl ⟨(_,_,()),rfl,Zgt hb,hk _ (ZjS hb)⟩
    | range =>
      rw [hx] at hk
      obtain ⟨te,pe,hr⟩:=hT.range
      refine (Any.strconv_Atoi_range Tryz.laysC172 t.1 hs hx (.iface te pe) w (by rw [Ze3];exact hr) (.inr ⟨te,pe,rfl⟩)).mono ?_
      rintro e w' ⟨N,rfl,_,_,hb⟩
      exact .inl ⟨(_,_,()),rfl,Zgt hb,hk _ _ _ (ZjS hb)⟩
    | _ =>
      rw [hx] at hk
      obtain ⟨te,pe,hr⟩:=hT.syn
      refine (Any.strconv_Atoi_syntax Tryz.laysC172 t.1 hs hx (.iface te pe) w (by rw [Ze3];exact hr) (.inr ⟨te,pe,rfl⟩)).mono ?_
      rintro e w' ⟨N,rfl,_,_,hb⟩
      exact .inl ⟨(_,_,()),rfl,Zgt hb,hk _ _ _ (ZjS hb)⟩
noncomputable def Zgu:Zh:=⟨[.one (.S)],[.one (.S)],fun t K _ h=>ZcD t.1 (fun r0 h=>K (r0,()) h) h⟩
theorem Zf2:Zo Tryz.prog 103 Zgu where
  named:=⟨_,Tryz.func103,by kernel_rfl,by kernel_rfl⟩
  calls t K Kp w hk:=by
    obtain ⟨⟨hs,ha⟩,hk⟩:=hk
    refine (Tryz.strings_ToLower_ascii t.1 w hs ha).mono ?_
    rintro e w' ⟨rfl,hb⟩
    exact .inl ⟨(_,()),rfl,Zgt hb,hk _ (ZjS hb)⟩
noncomputable def Zkk:Zh:=⟨[.one (.S),.one (.S)],[.one (.S),.one (.S),.one (.B)],fun t K _ h=>Zcj t.1 t.2.1 (fun r0 r1 r2 h=>K (r0,r1,r2,()) h) h⟩
theorem Zi4:Zo Tryz.prog 102 Zkk where
  named:=⟨_,Tryz.func102,by kernel_rfl,by kernel_rfl⟩
  calls t K Kp w hk:=by
    obtain ⟨hT,hs,hk⟩:=hk
    obtain ⟨m,hm⟩:=hT.most
    refine (Tryz.strings_Cut t.1 t.2.1 m w hs (by rw [Ze3];exact hm)).mono ?_
    rintro e w' ⟨rfl,n,rfl⟩
    exact .inl ⟨(_,_,_,()),rfl,⟨rfl,rfl,rfl⟩,hk⟩
noncomputable def ZfV:Zh:=⟨[.one (.S),.one (.S)],[.one (.S)],fun t K _ h=>Zci t.1 t.2.1 (fun r0 h=>K (r0,()) h) h⟩
theorem ZfE:Zo Tryz.prog 104 ZfV where
  named:=⟨_,Tryz.func104,by kernel_rfl,by kernel_rfl⟩
  calls t K Kp w hk:=by
    obtain ⟨s,c1,u⟩:=t
    obtain ⟨c,hc,rfl,hk⟩:=hk
    refine (Tryz.strings_TrimLeft_one s c hc w).mono ?_
    rintro e w' ⟨rfl,rfl⟩
    exact .inl ⟨(_,()),rfl,⟨rfl,rfl,rfl⟩,hk⟩
noncomputable def Zfz:Zh:=⟨[.one (.S),.one (.S)],[.one (.S)],fun t K _ h=>ZaB t.1 t.2.1 (fun r0 h=>K (r0,()) h) h⟩
theorem Zfp:Zo Tryz.prog 105 Zfz where
  named:=⟨_,Tryz.func105,by kernel_rfl,by kernel_rfl⟩
  calls t K Kp w hk:=by
    obtain ⟨s,c1,u⟩:=t
    obtain ⟨c,hc,rfl,hs,hk⟩:=hk
    refine (Tryz.strings_TrimRight_one s c hc w hs).mono ?_
    rintro e w' ⟨rfl,rfl⟩
    exact .inl ⟨(_,()),rfl,⟨rfl,rfl,rfl⟩,hk⟩
noncomputable def Zg7:Zh:=⟨[.one (.S),.one (.I .i64)],[.one (.S)],fun t K _ h=>ZcZ t.1 t.2.1 (fun r0 h=>K (r0,()) h) h⟩
theorem ZgH:Zo Tryz.prog 107 Zg7 where
  named:=⟨_,Tryz.func107,by kernel_rfl,by kernel_rfl⟩
  calls t K Kp w hk:=by
    obtain ⟨s,n,u⟩:=t
    obtain ⟨c,rfl,hc,hs,hk⟩:=hk
    refine (Tryz.strings_Repeat s c w hc hs).mono ?_
    rintro e w' ⟨rfl,hb⟩
    exact .inl ⟨(_,()),rfl,Zgt hb,hk _ (ZjS hb)⟩
theorem ZsW:(Tryz.prog.info? 188).map (·.size)=some 2:=by kernel_rfl
set_option maxHeartbeats 2000000 in
set_option maxRecDepth 100000 in
theorem Zq1 {b:Nat} {w:World} (h0:w.cell? ⟨b,0,none⟩=some (.pointer (some ⟨b,0,none⟩))) :
    Calls Tryz.prog 251 #[.pointer (some ⟨b,0,none⟩)] w fun e w'=>e = .returned (.tuple #[])∧w'=w:=by
  obtain ⟨j,hj,_⟩:=Option.map_eq_some_iff.1 ZsW
  go_enter Tryz.func251,Tryz.ntmps251
  go_wp2
  rw [Lib.run_neq_ptr_same w _ Tryz.underlying185 hj]
  go_wp2
  go_end0
  exact ⟨rfl,rfl⟩
set_option maxHeartbeats 2000000 in
set_option maxRecDepth 100000 in
theorem ZoU {b:Nat} {T:TypeId} {w:World} (hT:T=188∨T=190) (h0:w.cell? ⟨b,0,none⟩=some (.pointer none)) (hsh:w.shape? b=some (T,2)) (hfz:w.frozen? ⟨b,0,none⟩=false) :
    Calls Tryz.prog 251 #[.pointer (some ⟨b,0,none⟩)] w fun e w'=>e = .returned (.tuple #[])∧w'=w.setCell ⟨b,0,none⟩ (.pointer (some ⟨b,0,none⟩)):=by
  have hl:liesAt Tryz.prog Tryz.prog.depth T (2 / Tryz.prog.cellsOf T) 0 188 1=true:=by rcases hT with rfl | rfl<;>kernel_rfl
  obtain ⟨j,hj,hjs⟩:=Option.map_eq_some_iff.1 ZsW
  go_enter Tryz.func251,Tryz.ntmps251
  go_wp2
  rw [Lib.run_to_unsafe w ⟨b,0,none⟩ Tryz.underlying185 Tryz.underlying318 hj (by rw [hjs];decide) hsh (Nat.zero_lt_succ 1)]
  simp only [Result.andThen]
  rw [Oper.upon_value]
  go_wp2
  rw [run_callFunc_extern Tryz.func306 (by kernel_rfl) (by kernel_rfl) (by kernel_rfl) (e:=Extern.AbiNoEscape.same) (by kernel_rfl)]
  rw [Lib.run_noEscape]
  simp only [Result.andThen]
  rw [Oper.upon_value]
  go_wp2
  rw [Lib.run_from_unsafe w ⟨b,0,none⟩ Tryz.underlying318 Tryz.underlying185 hj hsh hl]
  simp only [Result.andThen]
  rw [Oper.upon_value]
  go_wp2
  go_end0
  exact ⟨rfl,rfl⟩
noncomputable def Zdh:Zh:=⟨[.one (.P)],[],fun t K _ h=>ZN t.1 (fun h=>K (()) h) h⟩
theorem XD:Zo Tryz.prog 251 Zdh where
  named:=⟨_,Tryz.func251,by kernel_rfl,by kernel_rfl⟩
  calls t K Kp w hk:=by
    obtain ⟨p,u⟩:=t
    obtain ⟨b,c,v,T,hp,hb,hT,hk⟩:=hk
    dsimp only at hp
    subst hp
    have h0:w.cell? ⟨b,0,none⟩=some c:=by rw [Ze3];unfold Zc.cell;rw [hb];rfl
    rcases hk with ⟨rfl,hk⟩ | ⟨rfl,hk⟩
    ·refine (ZoU hT h0 (by unfold World.shape?;rw [hb];rfl) (by unfold World.frozen?;rw [hb];rfl)).mono ?_
     rintro e w' ⟨rfl,rfl⟩
     rw [Zjr]
     exact .inl ⟨(),rfl,⟨rfl,rfl,rfl⟩,hk⟩
    ·refine (Zq1 h0).mono ?_
     rintro e w' ⟨rfl,rfl⟩
     exact .inl ⟨(),rfl,⟨rfl,rfl,rfl⟩,hk⟩
set_option maxHeartbeats 2000000 in
set_option maxRecDepth 100000 in
theorem Zof {b g cap:Nat} {p:Value} {T:TypeId} {cur:Array Value} {fz:Nat × Nat} {l:List UInt8} {w:World} (hbk:w.heap[b]?=some (.cells #[p,.slice (some ⟨g,0,none⟩) l.length cap] T (0,0)))
    (hg:w.heap[g]?=some (.cells cur 5 fz)) (h0:l≠[]) (hn:l.length≤cap) (hc:cap≤cur.size) (hm:cap<9223372036854775808) (hl:∀ j x,l[j]?=some x→w.cell? ((⟨g,0,none⟩:Addr).add j)=some (.int .u8 x.toNat)) :
    Calls Tryz.prog 115 #[.pointer (some ⟨b,0,none⟩)] w fun e w'=>e = .returned (.string ⟨l.toArray⟩)∧w'=w.drew.freeze ⟨g,0,none⟩ l.length:=by
  have hl0:l.length≠0:=by simpa using h0
  have c1:w.drew.cell? ⟨b,1,none⟩=some (.slice (some ⟨g,0,none⟩) l.length cap):=by
    have:w.drew.heap[b]?=some (.cells #[p,.slice (some ⟨g,0,none⟩) l.length cap] T (0,0)):=hbk
    rw [Lib.cell_of_heap this];rfl
  have hSD:(Builtin.unsafeSliceData_ #[186] 254 #[.slice (some ⟨g,0,none⟩) l.length cap]).run Tryz.prog w.drew = .ok (.pointer (some ⟨g,0,none⟩)) w.drew:=Lib.run_unsafeSliceData_row _ _ _ _ _ _ (by omega)
  have hUS:(Builtin.unsafeString_ #[254,3] 9 #[.pointer (some ⟨g,0,none⟩),.int .i64 l.length]).run Tryz.prog w.drew = .ok (.string ⟨l.toArray⟩) (w.drew.freeze ⟨g,0,none⟩ l.length) :=
    Lib.run_unsafeString_row w.drew 254 3 9 5 Tryz.underlying254 (by kernel_rfl) g cur.size (by have hg':w.drew.heap[g]?=some (.cells cur 5 fz):=hg;simp [World.shape?,hg']) l h0 (by omega) (by omega) hl
  go_enter Tryz.func115,Tryz.ntmps115
  go_wp2
  go_region
  all_goals (go_wp2;go_ret;exact ⟨rfl,rfl⟩)
set_option maxHeartbeats 2000000 in
set_option maxRecDepth 100000 in
theorem Zmh {b:Nat} {p:Value} {T:TypeId} {w:World} (hbk:w.heap[b]?=some (.cells #[p,.slice none 0 0] T (0,0))) :
    Calls Tryz.prog 115 #[.pointer (some ⟨b,0,none⟩)] w fun e w'=>e = .returned (.string .empty)∧w'=w.drew:=by
  have c1:w.drew.cell? ⟨b,1,none⟩=some (.slice none 0 0):=by
    have:w.drew.heap[b]?=some (.cells #[p,.slice none 0 0] T (0,0)):=hbk
    rw [Lib.cell_of_heap this];rfl
  have hSD:(Builtin.unsafeSliceData_ #[186] 254 #[.slice none 0 0]).run Tryz.prog w.drew = .ok (.pointer none) w.drew:=rfl
  have hUS:(Builtin.unsafeString_ #[254,3] 9 #[.pointer none,.int .i64 0]).run Tryz.prog w.drew = .ok (.string .empty) w.drew:=rfl
  go_enter Tryz.func115,Tryz.ntmps115
  go_wp2
  go_region
  all_goals (go_wp2;go_ret;exact ⟨rfl,rfl⟩)
theorem Zmj {w:World} {a:Addr} {n:Nat}:Fw.Same w (w.drew.freeze a n):=by
  unfold World.freeze
  split<;>exact ⟨rfl,rfl,rfl⟩
theorem Zoe {w:World} {g n:Nat}:Upd (· = g) w.heap (w.drew.freeze ⟨g,0,none⟩ n).heap:=by
  unfold World.freeze
  split
  ·exact Upd.refl _ _
  ·refine ⟨?_,fun j hj hn=>?_⟩
   ·show w.heap.size≤(w.heap.modify g _).size
    simp
   ·show (w.heap.modify g _)[j]?=w.heap[j]?
    rw [Array.getElem?_modify,if_neg (fun h=>hn h.symm)]
noncomputable def ZdK:Zh:=⟨[.one (.P)],[.one (.S)],fun t K _ h=>Yt t.1 (fun r0 h=>K (r0,()) h) h⟩
theorem ZbI:Zo Tryz.prog 115 ZdK where
  named:=⟨_,Tryz.func115,by kernel_rfl,by kernel_rfl⟩
  calls t K Kp w hk:=by
    obtain ⟨p,u⟩:=t
    obtain ⟨b,c,x,T,hp,hb,hk⟩:=hk
    obtain ⟨xp,xl,xc⟩:=x
    dsimp only at hp hb hk
    subst hp
    rcases hk with ⟨rfl,rfl,rfl,hk⟩ | ⟨g,s,cur,fz,rfl,hne,rfl,h0,hn,hc,hm,hg,hs,hk⟩
    ·refine (Zmh hb).mono ?_
     rintro e w' ⟨rfl,rfl⟩
     exact .inl ⟨(_,()),rfl,⟨rfl,rfl,rfl⟩,hk⟩
    ·have hlen:s.data.toList.length=s.size:=by simp
     rw [← hlen] at hb
     refine (Zof hb hg (fun h9=>h0 (by rw [← hlen,h9];rfl)) (by omega) hc hm fun j x hx=>?_).mono ?_
     ·have:=Zim hs (i:=j) (v:= .int .u8 x.toNat) (by unfold YU;rw [List.getElem?_map,hx];rfl)
      have e:((⟨g,0,none⟩:Addr).add j)=⟨g,0+j,none⟩:=Zg3 g 0 j
      rw [e,Ze3]
      exact this
     ·rintro e w' ⟨rfl,rfl⟩
      exact .inl ⟨(_,()),rfl,Zmj,hk _ Zoe⟩
end Go.Proofs.YtpjbjdheeemdiaaGreatDoor
