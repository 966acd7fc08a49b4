/- The contracts of the library's functions that package json calls, at this program's numbers. -/
import Derived.Shelf.Unicode.ValidAny
import Derived.Shelf.Strings.Builder1
import Derived.Shelf.Strings.OnBuilder
import Derived.Shelf.Strings.Trim
import Derived.Shelf.Strings.Cut
import Derived.Shelf.Strings.Repeat
import Derived.Shelf.Small.Strs
import Derived.Shelf.Utf8.RuneCount
import Derived.Shelf.Strconv.Itoa3
import Derived.Shelf.Strconv.AtoiAll
import Derived.Test.YtpjbjdheeemdiaaGreatDoorProg
import Derived.Shelf.Strings.BuilderK
import Derived.Lib.SmallJoins
import Derived.Tactics2
import Derived.KernelRfl
import Derived.Test.YtpjbjdheeemdiaaGreatDoorPa6
set_option linter.unusedVariables false
set_option linter.unusedSimpArgs false
namespace Go.Proofs
open Go.Shelf
open Go.RowKit in
open Go.RowKit in
open Go.RowKit in
def Tryz.lays137_ren:Go.Shelf.Ren:=⟨fun | 137=>171 | 217=>243 | 266=>299 | n=>n,fun | 9=>9 | 5=>5 | 3=>3 | n=>n,fun | n=>n⟩
theorem Tryz.lays137:Go.Proofs.Lays.n137 Tryz.prog Tryz.lays137_ren:={
  mixed:=by kernel_rfl
  f137:=Tryz.func171.trans (congrArg some (by kernel_rfl))
  f217:=Tryz.func243.trans (congrArg some (by kernel_rfl))
  f266:=Tryz.func299.trans (congrArg some (by kernel_rfl))
  t3:=Tryz.underlying3
  a3:=Tryz.isAgg3
  z3:=Tryz.sizeOf3
  v3:=Tryz.zeroValue3
  t5:=Tryz.underlying5
  a5:=Tryz.isAgg5
  z5:=Tryz.sizeOf5
  v5:=Tryz.zeroValue5
  t9:=Tryz.underlying9
  a9:=Tryz.isAgg9
  z9:=Tryz.sizeOf9
  v9:=Tryz.zeroValue9 }
open Go.RowKit in
theorem Tryz.strings_IndexByte (s:ByteArray) (c:Int) (w:World) :
    Calls Tryz.prog 171 #[.string s,.int .u8 c] w fun e w'=>e = .returned (.int .i64 (Lib.indexByte s.data.toList c.toNat.toUInt8))/\w'=w:=Any.strings_IndexByte Tryz.lays137 s c w
def Tryz.lays195_ren:Go.Shelf.Ren:=⟨fun | 195=>323 | n=>n,fun | 9=>9 | 3=>3 | 0=>0 | 4=>4 | n=>n,fun | n=>n⟩
theorem Tryz.lays195:Go.Proofs.Lays.n195 Tryz.prog Tryz.lays195_ren:={
  mixed:=by kernel_rfl
  f195:=Tryz.func323.trans (congrArg some (by kernel_rfl))
  t0:=Tryz.underlying0
  a0:=Tryz.isAgg0
  z0:=Tryz.sizeOf0
  v0:=Tryz.zeroValue0
  t3:=Tryz.underlying3
  a3:=Tryz.isAgg3
  z3:=Tryz.sizeOf3
  v3:=Tryz.zeroValue3
  t4:=Tryz.underlying4
  a4:=Tryz.isAgg4
  z4:=Tryz.sizeOf4
  v4:=Tryz.zeroValue4
  t9:=Tryz.underlying9
  a9:=Tryz.isAgg9
  z9:=Tryz.sizeOf9
  v9:=Tryz.zeroValue9 }
open Go.RowKit in
theorem Tryz.utf8_RuneCountInString (s:ByteArray) (w:World) (a:s.size<9223372036854775807) :
    Calls Tryz.prog 323 #[.string s] w fun e w'=>e = .returned (.int .i64 (Lib.runeCount s))/\∃ pos,w'=w.iter s pos:=Any.utf8_RuneCountInString Tryz.lays195 s w a
def Tryz.laysM171_ren:Go.Shelf.Ren:=⟨fun | 171=>31 | 243=>110 | 246=>199 | 283=>269 | 284=>270 | 285=>271 | 286=>272 | 129=>317 | 317=>316 | 318=>318 | 319=>319 | 320=>320 | 337=>331 | 338=>332 | n=>n,fun | 3=>3 | 9=>9 | 2=>2 | 4=>4 | 171=>298 | 0=>0 | 53=>182 | 37=>186 | 5=>5 | 173=>301 | 212=>332 | 51=>287 | 20=>20 | 213=>333 | 46=>248 | 232=>352 | 233=>353 | n=>n,fun | 17=>6 | 18=>7 | 19=>8 | n=>n⟩
theorem Tryz.laysM171:Go.Proofs.LaysM.n171 Tryz.prog Tryz.laysM171_ren:={
  mixed:=by kernel_rfl
  f129:=Tryz.func317.trans (congrArg some (by kernel_rfl))
  f171:=Tryz.func31.trans (congrArg some (by kernel_rfl))
  f243:=Tryz.func110.trans (congrArg some (by kernel_rfl))
  f246:=Tryz.func199.trans (congrArg some (by kernel_rfl))
  f283:=Tryz.func269.trans (congrArg some (by kernel_rfl))
  f284:=Tryz.func270.trans (congrArg some (by kernel_rfl))
  f285:=Tryz.func271.trans (congrArg some (by kernel_rfl))
  f286:=Tryz.func272.trans (congrArg some (by kernel_rfl))
  f317:=Tryz.func316.trans (congrArg some (by kernel_rfl))
  f318:=Tryz.func318.trans (congrArg some (by kernel_rfl))
  f319:=Tryz.func319.trans (congrArg some (by kernel_rfl))
  f320:=Tryz.func320.trans (congrArg some (by kernel_rfl))
  f337:=Tryz.func331.trans (congrArg some (by kernel_rfl))
  f338:=Tryz.func332.trans (congrArg some (by kernel_rfl))
  t0:=Tryz.underlying0
  a0:=Tryz.isAgg0
  z0:=Tryz.sizeOf0
  v0:=Tryz.zeroValue0
  t2:=Tryz.underlying2
  a2:=Tryz.isAgg2
  z2:=Tryz.sizeOf2
  v2:=Tryz.zeroValue2
  t3:=Tryz.underlying3
  a3:=Tryz.isAgg3
  z3:=Tryz.sizeOf3
  v3:=Tryz.zeroValue3
  t4:=Tryz.underlying4
  a4:=Tryz.isAgg4
  z4:=Tryz.sizeOf4
  v4:=Tryz.zeroValue4
  t5:=Tryz.underlying5
  a5:=Tryz.isAgg5
  z5:=Tryz.sizeOf5
  v5:=Tryz.zeroValue5
  t9:=Tryz.underlying9
  a9:=Tryz.isAgg9
  z9:=Tryz.sizeOf9
  v9:=Tryz.zeroValue9
  t20:=Tryz.underlying20
  a20:=Tryz.isAgg20
  z20:=Tryz.sizeOf20
  v20:=Tryz.zeroValue20
  t37:=Tryz.underlying186
  a37:=Tryz.isAgg186
  z37:=Tryz.sizeOf186
  v37:=Tryz.zeroValue186
  t46:=Tryz.underlying248
  a46:=Tryz.isAgg248
  z46:=Tryz.sizeOf248
  v46:=Tryz.zeroValue248
  t51:=Tryz.underlying287
  a51:=Tryz.isAgg287
  z51:=Tryz.sizeOf287
  v51:=Tryz.zeroValue287
  t53:=Tryz.underlying182
  a53:=Tryz.isAgg182
  z53:=Tryz.sizeOf182
  v53:=Tryz.zeroValue182
  t171:=Tryz.underlying298
  a171:=Tryz.isAgg298
  z171:=Tryz.sizeOf298
  v171:=Tryz.zeroValue298
  t173:=Tryz.underlying301
  a173:=Tryz.isAgg301
  z173:=Tryz.sizeOf301
  v173:=Tryz.zeroValue301
  t212:=Tryz.underlying332
  a212:=Tryz.isAgg332
  z212:=Tryz.sizeOf332
  v212:=Tryz.zeroValue332
  t213:=Tryz.underlying333
  a213:=Tryz.isAgg333
  z213:=Tryz.sizeOf333
  t232:=Tryz.underlying352
  a232:=Tryz.isAgg352
  z232:=Tryz.sizeOf352
  v232:=Tryz.zeroValue352
  t233:=Tryz.underlying353
  a233:=Tryz.isAgg353
  z233:=Tryz.sizeOf353
  v233:=Tryz.zeroValue353
  g17:=by kernel_rfl
  g18:=by kernel_rfl
  g19:=by kernel_rfl
  i0:=by kernel_rfl
  i2:=by kernel_rfl
  i3:=by kernel_rfl
  i4:=by kernel_rfl
  i5:=by kernel_rfl
  i9:=by kernel_rfl
  i20:=by kernel_rfl
  i37:=by kernel_rfl
  i46:=by kernel_rfl
  i51:=by kernel_rfl
  i53:=by kernel_rfl
  i171:=by kernel_rfl
  i173:=by kernel_rfl
  i212:=by kernel_rfl
  i232:=by kernel_rfl
  i233:=by kernel_rfl
  m17:=by kernel_rfl
  m18:=by kernel_rfl
  m19:=by kernel_rfl }
open Go.RowKit Go.Sort Go.Lib in
theorem Tryz.strconv_Itoa (n:Int) (b : -9223372036854775808<=n) (c:n<=9223372036854775807) (w:World) (a:Lib.TabIs Tryz.prog w "internal/strconv.uint64pow10" .u64 Lib.pow10Tab) :
    Calls Tryz.prog 31 #[.int .i64 n] w fun e w'=>e = .returned (.string ⟨(Lib.itoa n).toArray⟩)/\∃ k os,w'=grow (w.drewN k) os:=Any.strconv_Itoa Tryz.laysM171 n b c w a
def Tryz.laysC172_ren:Go.Shelf.Ren:=⟨fun | 172=>108 | 244=>197 | 245=>198 | 247=>264 | 279=>265 | 280=>266 | 281=>267 | 282=>268 | 287=>313 | 316=>314 | 171=>31 | 205=>315 | 321=>329 | 322=>330 | 243=>110 | 246=>199 | 283=>269 | 284=>270 | 285=>271 | 286=>272 | 129=>317 | 317=>316 | 318=>318 | 319=>319 | 320=>320 | 337=>331 | 338=>332 | n=>n,fun | 9=>9 | 3=>3 | 75=>177 | 76=>178 | 4=>4 | 5=>5 | 167=>292 | 37=>186 | 0=>0 | 85=>293 | 2=>2 | 168=>295 | 53=>182 | 175=>326 | 46=>248 | 210=>329 | 127=>254 | 145=>346 | 143=>344 | 21=>21 | 171=>298 | 173=>301 | 212=>332 | 51=>287 | 20=>20 | 213=>333 | 232=>352 | 233=>353 | 80=>192 | n=>n,fun | 15=>4 | 16=>5 | 17=>6 | 18=>7 | 19=>8 | n=>n⟩
theorem Tryz.laysC172:Go.Proofs.LaysC.n172 Tryz.prog Tryz.laysC172_ren:={
  mixed:=by kernel_rfl
  f129:=Tryz.func317.trans (congrArg some (by kernel_rfl))
  f171:=Tryz.func31.trans (congrArg some (by kernel_rfl))
  f172:=Tryz.func108.trans (congrArg some (by kernel_rfl))
  f205:=Tryz.func315.trans (congrArg some (by kernel_rfl))
  f243:=Tryz.func110.trans (congrArg some (by kernel_rfl))
  f244:=Tryz.func197.trans (congrArg some (by kernel_rfl))
  f245:=Tryz.func198.trans (congrArg some (by kernel_rfl))
  f246:=Tryz.func199.trans (congrArg some (by kernel_rfl))
  f247:=Tryz.func264.trans (congrArg some (by kernel_rfl))
  f279:=Tryz.func265.trans (congrArg some (by kernel_rfl))
  f280:=Tryz.func266.trans (congrArg some (by kernel_rfl))
  f281:=Tryz.func267.trans (congrArg some (by kernel_rfl))
  f282:=Tryz.func268.trans (congrArg some (by kernel_rfl))
  f283:=Tryz.func269.trans (congrArg some (by kernel_rfl))
  f284:=Tryz.func270.trans (congrArg some (by kernel_rfl))
  f285:=Tryz.func271.trans (congrArg some (by kernel_rfl))
  f286:=Tryz.func272.trans (congrArg some (by kernel_rfl))
  f287:=Tryz.func313.trans (congrArg some (by kernel_rfl))
  f316:=Tryz.func314.trans (congrArg some (by kernel_rfl))
  f317:=Tryz.func316.trans (congrArg some (by kernel_rfl))
  f318:=Tryz.func318.trans (congrArg some (by kernel_rfl))
  f319:=Tryz.func319.trans (congrArg some (by kernel_rfl))
  f320:=Tryz.func320.trans (congrArg some (by kernel_rfl))
  f321:=Tryz.func329.trans (congrArg some (by kernel_rfl))
  f322:=Tryz.func330.trans (congrArg some (by kernel_rfl))
  f337:=Tryz.func331.trans (congrArg some (by kernel_rfl))
  f338:=Tryz.func332.trans (congrArg some (by kernel_rfl))
  t0:=Tryz.underlying0
  a0:=Tryz.isAgg0
  z0:=Tryz.sizeOf0
  v0:=Tryz.zeroValue0
  t2:=Tryz.underlying2
  a2:=Tryz.isAgg2
  z2:=Tryz.sizeOf2
  v2:=Tryz.zeroValue2
  t3:=Tryz.underlying3
  a3:=Tryz.isAgg3
  z3:=Tryz.sizeOf3
  v3:=Tryz.zeroValue3
  t4:=Tryz.underlying4
  a4:=Tryz.isAgg4
  z4:=Tryz.sizeOf4
  v4:=Tryz.zeroValue4
  t5:=Tryz.underlying5
  a5:=Tryz.isAgg5
  z5:=Tryz.sizeOf5
  v5:=Tryz.zeroValue5
  t9:=Tryz.underlying9
  a9:=Tryz.isAgg9
  z9:=Tryz.sizeOf9
  v9:=Tryz.zeroValue9
  t20:=Tryz.underlying20
  a20:=Tryz.isAgg20
  z20:=Tryz.sizeOf20
  v20:=Tryz.zeroValue20
  t21:=Tryz.underlying21
  a21:=Tryz.isAgg21
  z21:=Tryz.sizeOf21
  v21:=Tryz.zeroValue21
  t37:=Tryz.underlying186
  a37:=Tryz.isAgg186
  z37:=Tryz.sizeOf186
  v37:=Tryz.zeroValue186
  t46:=Tryz.underlying248
  a46:=Tryz.isAgg248
  z46:=Tryz.sizeOf248
  v46:=Tryz.zeroValue248
  t51:=Tryz.underlying287
  a51:=Tryz.isAgg287
  z51:=Tryz.sizeOf287
  v51:=Tryz.zeroValue287
  t53:=Tryz.underlying182
  a53:=Tryz.isAgg182
  z53:=Tryz.sizeOf182
  v53:=Tryz.zeroValue182
  t75:=Tryz.underlying177
  a75:=Tryz.isAgg177
  z75:=Tryz.sizeOf177
  v75:=Tryz.zeroValue177
  t76:=Tryz.underlying178
  a76:=Tryz.isAgg178
  z76:=Tryz.sizeOf178
  v76:=Tryz.zeroValue178
  t85:=Tryz.underlying293
  a85:=Tryz.isAgg293
  z85:=Tryz.sizeOf293
  v85:=Tryz.zeroValue293
  t127:=Tryz.underlying254
  a127:=Tryz.isAgg254
  z127:=Tryz.sizeOf254
  v127:=Tryz.zeroValue254
  t143:=Tryz.underlying344
  a143:=Tryz.isAgg344
  z143:=Tryz.sizeOf344
  v143:=Tryz.zeroValue344
  t145:=Tryz.underlying346
  a145:=Tryz.isAgg346
  z145:=Tryz.sizeOf346
  v145:=Tryz.zeroValue346
  t167:=Tryz.underlying292
  a167:=Tryz.isAgg292
  z167:=Tryz.sizeOf292
  v167:=Tryz.zeroValue292
  t168:=Tryz.underlying295
  a168:=Tryz.isAgg295
  z168:=Tryz.sizeOf295
  v168:=Tryz.zeroValue295
  t171:=Tryz.underlying298
  a171:=Tryz.isAgg298
  z171:=Tryz.sizeOf298
  v171:=Tryz.zeroValue298
  t173:=Tryz.underlying301
  a173:=Tryz.isAgg301
  z173:=Tryz.sizeOf301
  v173:=Tryz.zeroValue301
  t175:=Tryz.underlying326
  a175:=Tryz.isAgg326
  z175:=Tryz.sizeOf326
  v175:=Tryz.zeroValue326
  t210:=Tryz.underlying329
  a210:=Tryz.isAgg329
  z210:=Tryz.sizeOf329
  v210:=Tryz.zeroValue329
  t212:=Tryz.underlying332
  a212:=Tryz.isAgg332
  z212:=Tryz.sizeOf332
  v212:=Tryz.zeroValue332
  t213:=Tryz.underlying333
  a213:=Tryz.isAgg333
  z213:=Tryz.sizeOf333
  t232:=Tryz.underlying352
  a232:=Tryz.isAgg352
  z232:=Tryz.sizeOf352
  v232:=Tryz.zeroValue352
  t233:=Tryz.underlying353
  a233:=Tryz.isAgg353
  z233:=Tryz.sizeOf353
  v233:=Tryz.zeroValue353
  g15:=by kernel_rfl
  g16:=by kernel_rfl
  g17:=by kernel_rfl
  g18:=by kernel_rfl
  g19:=by kernel_rfl
  t80:=Tryz.underlying192
  a80:=Tryz.isAgg192
  z80:=Tryz.sizeOf192
  v80:=Tryz.zeroValue192
  i0:=by kernel_rfl
  i2:=by kernel_rfl
  i3:=by kernel_rfl
  i4:=by kernel_rfl
  i5:=by kernel_rfl
  i9:=by kernel_rfl
  i20:=by kernel_rfl
  i21:=by kernel_rfl
  i37:=by kernel_rfl
  i46:=by kernel_rfl
  i51:=by kernel_rfl
  i53:=by kernel_rfl
  i75:=by kernel_rfl
  i76:=by kernel_rfl
  i80:=by kernel_rfl
  i85:=by kernel_rfl
  i127:=by kernel_rfl
  i143:=by kernel_rfl
  i145:=by kernel_rfl
  i167:=by kernel_rfl
  i168:=by kernel_rfl
  i171:=by kernel_rfl
  i173:=by kernel_rfl
  i175:=by kernel_rfl
  i210:=by kernel_rfl
  i212:=by kernel_rfl
  i232:=by kernel_rfl
  i233:=by kernel_rfl
  m15:=by kernel_rfl
  m16:=by kernel_rfl
  m17:=by kernel_rfl
  m18:=by kernel_rfl
  m19:=by kernel_rfl
  c0:=by kernel_rfl
  c2:=by kernel_rfl
  c3:=by kernel_rfl
  c4:=by kernel_rfl
  c5:=by kernel_rfl
  c9:=by kernel_rfl
  c20:=by kernel_rfl
  c21:=by kernel_rfl
  c37:=by kernel_rfl
  c46:=by kernel_rfl
  c51:=by kernel_rfl
  c53:=by kernel_rfl
  c75:=by kernel_rfl
  c76:=by kernel_rfl
  c80:=by kernel_rfl
  c85:=by kernel_rfl
  c127:=by kernel_rfl
  c143:=by kernel_rfl
  c145:=by kernel_rfl
  c167:=by kernel_rfl
  c168:=by kernel_rfl
  c171:=by kernel_rfl
  c173:=by kernel_rfl
  c175:=by kernel_rfl
  c210:=by kernel_rfl
  c212:=by kernel_rfl
  c213:=by kernel_rfl
  c232:=by kernel_rfl
  c233:=by kernel_rfl }
open Go.RowKit in
theorem Tryz.strconv_Atoi_ok (s:ByteArray) (a:s.size<=9223372036854775806) (v:Int) (h:Lib.atoiAll s.data.toList = .ok v) (w:World) :
    Calls Tryz.prog 108 #[.string s] w fun e w'=>e = .returned (.tuple #[.int .i64 v,.nilIface])/\(w'=w\/∃ t,w'=Lib.bytesWorld w 5 t):=Any.strconv_Atoi_ok Tryz.laysC172 s a v h w
open Go.RowKit Go.Lib in
open Go.RowKit Go.Lib in
def Tryz.lays196_ren:Go.Shelf.Ren:=⟨fun | 196=>163 | 259=>237 | n=>n,fun | 9=>9 | 4=>4 | 3=>3 | 5=>5 | 12=>12 | 119=>271 | 0=>0 | 46=>248 | 139=>274 | 138=>273 | 53=>182 | n=>n,fun | 3=>0 | 4=>1 | n=>n⟩
theorem Tryz.lays196:Go.Proofs.Lays.n196 Tryz.prog Tryz.lays196_ren:={
  mixed:=by kernel_rfl
  f196:=Tryz.func163.trans (congrArg some (by kernel_rfl))
  f259:=Tryz.func237.trans (congrArg some (by kernel_rfl))
  t0:=Tryz.underlying0
  a0:=Tryz.isAgg0
  z0:=Tryz.sizeOf0
  v0:=Tryz.zeroValue0
  t3:=Tryz.underlying3
  a3:=Tryz.isAgg3
  z3:=Tryz.sizeOf3
  v3:=Tryz.zeroValue3
  t4:=Tryz.underlying4
  a4:=Tryz.isAgg4
  z4:=Tryz.sizeOf4
  v4:=Tryz.zeroValue4
  t5:=Tryz.underlying5
  a5:=Tryz.isAgg5
  z5:=Tryz.sizeOf5
  v5:=Tryz.zeroValue5
  t9:=Tryz.underlying9
  a9:=Tryz.isAgg9
  z9:=Tryz.sizeOf9
  v9:=Tryz.zeroValue9
  t12:=Tryz.underlying12
  a12:=Tryz.isAgg12
  z12:=Tryz.sizeOf12
  v12:=Tryz.zeroValue12
  t46:=Tryz.underlying248
  a46:=Tryz.isAgg248
  z46:=Tryz.sizeOf248
  v46:=Tryz.zeroValue248
  t53:=Tryz.underlying182
  a53:=Tryz.isAgg182
  z53:=Tryz.sizeOf182
  v53:=Tryz.zeroValue182
  t119:=Tryz.underlying271
  a119:=Tryz.isAgg271
  z119:=Tryz.sizeOf271
  t138:=Tryz.underlying273
  a138:=Tryz.isAgg273
  z138:=Tryz.sizeOf273
  v138:=Tryz.zeroValue273
  t139:=Tryz.underlying274
  a139:=Tryz.isAgg274
  z139:=Tryz.sizeOf274
  v139:=Tryz.zeroValue274
  g3:=by kernel_rfl
  g4:=by kernel_rfl }
end Go.Proofs
namespace Go.Proofs.YtpjbjdheeemdiaaGreatDoor
open Go Go.Fw Go.RowKit
theorem Zp1 {w w':World} {n:Nat} (a:Below n w w'):Fw.Same w w':=⟨a.tape,a.os,a.output⟩
theorem Zu1 {w w':World} (a:Below w.heap.size w w'):Ext w.heap w'.heap:=⟨a.size,a.block⟩
noncomputable def ZjD:Zd:=⟨[.one (.S),.one (.I .u8)],[.one (.I .i64)],fun t K _ h=>Xf t.1 t.2.1 (fun a h=>K (a,()) h) h⟩
theorem Zc9:Zk Tryz.prog 171 ZjD where
  named:=⟨_,Tryz.func171,by kernel_rfl,by kernel_rfl⟩
  calls t K b w a:=by
    refine (Tryz.strings_IndexByte t.1 t.2.1 w).mono ?_
    rintro e w' ⟨rfl,rfl⟩
    exact .inl ⟨(_,()),rfl,⟨rfl,rfl,rfl⟩,a⟩
noncomputable def Zgs:Zd:=⟨[.one (.S)],[.one (.B)],fun t K _ h=>Z8 t.1 (fun a h=>K (a,()) h) h⟩
theorem XP:Zk Tryz.prog 163 Zgs where
  named:=⟨_,Tryz.func163,by kernel_rfl,by kernel_rfl⟩
  calls t K f w a:=by
    obtain ⟨c,d,a⟩:=a
    refine (Any.utf8_ValidString Tryz.lays196 t.1 w d (c.utf w rfl)).mono ?_
    rintro e w' ⟨rfl,b⟩
    exact .inl ⟨(_,()),rfl,Zp1 b,a _ (Zu1 b)⟩
noncomputable def Zeu:Zd:=⟨[.one (.S)],[.one (.I .i64)],fun t K _ h=>Xc t.1 (fun a h=>K (a,()) h) h⟩
theorem Zeb:Zk Tryz.prog 323 Zeu where
  named:=⟨_,Tryz.func323,by kernel_rfl,by kernel_rfl⟩
  calls t K c w a:=by
    obtain ⟨b,a⟩:=a
    refine (Tryz.utf8_RuneCountInString t.1 w b).mono ?_
    rintro e w' ⟨rfl,pos,rfl⟩
    exact .inl ⟨(_,()),rfl,⟨rfl,rfl,rfl⟩,a _ (Ext.push _ _)⟩
noncomputable def ZnS:Zd:=⟨[.one (.I .i64)],[.one (.S)],fun t K _ h=>Zdq t.1 (fun a h=>K (a,()) h) h⟩
theorem Ziy:Zk Tryz.prog 31 ZnS where
  named:=⟨_,Tryz.func31,by kernel_rfl,by kernel_rfl⟩
  calls t K g w a:=by
    obtain ⟨b,c,d,a⟩:=a
    refine (Tryz.strconv_Itoa t.1 c d w (b.pow w rfl)).mono ?_
    rintro e w' ⟨rfl,k,os,rfl⟩
    refine .inl ⟨(_,()),rfl,⟨rfl,rfl,rfl⟩,a _ ⟨?_,fun j f=>?_⟩⟩
    ·show w.heap.size<=(w.heap++os).size
     rw [Array.size_append];omega
    ·show (w.heap++os)[j]?=w.heap[j]?
     rw [Array.getElem?_append_left f]
noncomputable def ZnT:Zd:=⟨[.one (.S)],[.one (.I .i64),.one (.V)],fun t K _ h=>ZeX t.1 (fun a b h=>K (a,b,()) h) h⟩
theorem ZmM:Zk Tryz.prog 108 ZnT where
  named:=⟨_,Tryz.func108,by kernel_rfl,by kernel_rfl⟩
  calls t K i w a:=by
    obtain ⟨g,h,a⟩:=a
    cases c:Lib.atoiAll t.1.data.toList with
    | ok v =>
      rw [c] at a
      refine (Tryz.strconv_Atoi_ok t.1 (by omega) v c w).mono ?_
      rintro e w' ⟨rfl,rfl | ⟨s,rfl⟩⟩
      ·exact .inl ⟨(_,_,()),rfl,⟨rfl,rfl,rfl⟩,a _ (Ext.refl _)⟩
      ·have b:=Lib.bytesWorld_below w 5 s
       exact .inl ⟨(_,_,()),rfl,Zp1 b,a _ (Zu1 b)⟩
    | range =>
      rw [c] at a
      obtain ⟨d,pe,f⟩:=g.range
      refine (Any.strconv_Atoi_range Tryz.laysC172 t.1 h c (.iface d pe) w (by rw [Zj3];exact f) (.inr ⟨d,pe,rfl⟩)).mono ?_
      rintro e w' ⟨N,rfl,_,_,b⟩
      exact .inl ⟨(_,_,()),rfl,Zp1 b,a _ _ _ (Zu1 b)⟩
    | _ =>
      rw [c] at a
      obtain ⟨d,pe,f⟩:=g.syn
      refine (Any.strconv_Atoi_syntax Tryz.laysC172 t.1 h c (.iface d pe) w (by rw [Zj3];exact f) (.inr ⟨d,pe,rfl⟩)).mono ?_
      rintro e w' ⟨N,rfl,_,_,b⟩
      exact .inl ⟨(_,_,()),rfl,Zp1 b,a _ _ _ (Zu1 b)⟩
theorem ZB6:(Tryz.prog.info? 188).map (·.size)=some 2:=by kernel_rfl
set_option maxHeartbeats 2000000 in
set_option maxRecDepth 100000 in
theorem Zzy {b:Nat} {w:World} (c:w.cell? ⟨b,0,none⟩=some (.pointer (some ⟨b,0,none⟩))) :
    Calls Tryz.prog 251 #[.pointer (some ⟨b,0,none⟩)] w fun e w'=>e = .returned (.tuple #[])/\w'=w:=by
  obtain ⟨j,a,_⟩:=Ayc.1 ZB6
  go_enter Tryz.func251,Tryz.ntmps251
  go_wp2
  rw [Lib.run_neq_ptr_same w _ Tryz.underlying185 a]
  go_wp2
  go_end0
  exact ⟨rfl,rfl⟩
set_option maxHeartbeats 2000000 in
set_option maxRecDepth 100000 in
theorem Zwy {b:Nat} {T:TypeId} {w:World} (f:T=188\/T=190) (i:w.cell? ⟨b,0,none⟩=some (.pointer none)) (a:w.shape? b=some (T,2)) (g:w.frozen? ⟨b,0,none⟩=false) :
    Calls Tryz.prog 251 #[.pointer (some ⟨b,0,none⟩)] w fun e w'=>e = .returned (.tuple #[])/\w'=w.setCell ⟨b,0,none⟩ (.pointer (some ⟨b,0,none⟩)):=by
  have h:liesAt Tryz.prog Tryz.prog.depth T (2 / Tryz.prog.cellsOf T) 0 188 1=true:=by rcases f with rfl | rfl<;>kernel_rfl
  obtain ⟨j,d,c⟩:=Ayc.1 ZB6
  go_enter Tryz.func251,Tryz.ntmps251
  go_wp2
  rw [Lib.run_to_unsafe w ⟨b,0,none⟩ Tryz.underlying185 Tryz.underlying318 d (by rw [c];decide) a (Nat.zero_lt_succ 1)]
  simp only [Result.andThen]
  rw [Oper.upon_value]
  go_wp2
  rw [run_callFunc_extern Tryz.func306 (by kernel_rfl) (by kernel_rfl) (by kernel_rfl) (e:=Extern.AbiNoEscape.same) (by kernel_rfl)]
  rw [Lib.run_noEscape]
  simp only [Result.andThen]
  rw [Oper.upon_value]
  go_wp2
  rw [Lib.run_from_unsafe w ⟨b,0,none⟩ Tryz.underlying318 Tryz.underlying185 d a h]
  simp only [Result.andThen]
  rw [Oper.upon_value]
  go_wp2
  go_end0
  exact ⟨rfl,rfl⟩
noncomputable def ZfX:Zd:=⟨[.one (.P)],[],fun t K _ h=>Yf t.1 (fun h=>K (()) h) h⟩
theorem ZaD:Zk Tryz.prog 251 ZfX where
  named:=⟨_,Tryz.func251,by kernel_rfl,by kernel_rfl⟩
  calls t K h w a:=by
    obtain ⟨p,u⟩:=t
    obtain ⟨b,c,v,T,hp,d,g,a⟩:=a
    dsimp only at hp
    subst hp
    have f:w.cell? ⟨b,0,none⟩=some c:=by rw [Zj3];unfold Zc.cell;rw [d];rfl
    rcases a with ⟨rfl,a⟩ | ⟨rfl,a⟩
    ·refine (Zwy g f (by unfold World.shape?;rw [d];rfl) (by unfold World.frozen?;rw [d];rfl)).mono ?_
     rintro e w' ⟨rfl,rfl⟩
     rw [ZoA]
     exact .inl ⟨(),rfl,⟨rfl,rfl,rfl⟩,a⟩
    ·refine (Zzy f).mono ?_
     rintro e w' ⟨rfl,rfl⟩
     exact .inl ⟨(),rfl,⟨rfl,rfl,rfl⟩,a⟩
set_option maxHeartbeats 2000000 in
set_option maxRecDepth 100000 in
theorem ZvE {b g cap:Nat} {p:Value} {T:TypeId} {cur:Array Value} {d:Nat × Nat} {l:List UInt8} {w:World} (a:w.heap[b]?=some (.cells #[p,.slice (some ⟨g,0,none⟩) l.length cap] T (0,0)))
    (h:w.heap[g]?=some (.cells cur 5 d)) (f:l≠[]) (o:l.length<=cap) (q:cap<=cur.size) (hm:cap<9223372036854775808) (i:∀ j x,l[j]?=some x->w.cell? ((⟨g,0,none⟩:Addr).add j)=some (.int .u8 x.toNat)) :
    Calls Tryz.prog 115 #[.pointer (some ⟨b,0,none⟩)] w fun e w'=>e = .returned (.string ⟨l.toArray⟩)/\w'=w.drew.freeze ⟨g,0,none⟩ l.length:=by
  have k:l.length≠0:=by simpa using f
  have r:w.drew.cell? ⟨b,1,none⟩=some (.slice (some ⟨g,0,none⟩) l.length cap):=by
    have:w.drew.heap[b]?=some (.cells #[p,.slice (some ⟨g,0,none⟩) l.length cap] T (0,0)):=a
    rw [Lib.cell_of_heap this];rfl
  have m:(Builtin.unsafeSliceData_ #[186] 254 #[.slice (some ⟨g,0,none⟩) l.length cap]).run Tryz.prog w.drew = .ok (.pointer (some ⟨g,0,none⟩)) w.drew:=Lib.run_unsafeSliceData_row _ _ _ _ _ _ (by omega)
  have n:(Builtin.unsafeString_ #[254,3] 9 #[.pointer (some ⟨g,0,none⟩),.int .i64 l.length]).run Tryz.prog w.drew = .ok (.string ⟨l.toArray⟩) (w.drew.freeze ⟨g,0,none⟩ l.length) :=
    Lib.run_unsafeString_row w.drew 254 3 9 5 Tryz.underlying254 (by kernel_rfl) g cur.size (by have c:w.drew.heap[g]?=some (.cells cur 5 d):=h;simp [World.shape?,c]) l f (by omega) (by omega) i
  go_enter Tryz.func115,Tryz.ntmps115
  go_wp2
  go_region
  all_goals (go_wp2;go_ret;exact ⟨rfl,rfl⟩)
set_option maxHeartbeats 2000000 in
set_option maxRecDepth 100000 in
theorem ZsY {b:Nat} {p:Value} {T:TypeId} {w:World} (a:w.heap[b]?=some (.cells #[p,.slice none 0 0] T (0,0))) :
    Calls Tryz.prog 115 #[.pointer (some ⟨b,0,none⟩)] w fun e w'=>e = .returned (.string .empty)/\w'=w.drew:=by
  have f:w.drew.cell? ⟨b,1,none⟩=some (.slice none 0 0):=by
    have:w.drew.heap[b]?=some (.cells #[p,.slice none 0 0] T (0,0)):=a
    rw [Lib.cell_of_heap this];rfl
  have c:(Builtin.unsafeSliceData_ #[186] 254 #[.slice none 0 0]).run Tryz.prog w.drew = .ok (.pointer none) w.drew:=rfl
  have d:(Builtin.unsafeString_ #[254,3] 9 #[.pointer none,.int .i64 0]).run Tryz.prog w.drew = .ok (.string .empty) w.drew:=rfl
  go_enter Tryz.func115,Tryz.ntmps115
  go_wp2
  go_region
  all_goals (go_wp2;go_ret;exact ⟨rfl,rfl⟩)
theorem Zs0 {w:World} {a:Addr} {n:Nat}:Fw.Same w (w.drew.freeze a n):=by
  unfold World.freeze
  split<;>exact ⟨rfl,rfl,rfl⟩
theorem ZvA {w:World} {g n:Nat}:Upd (· = g) w.heap (w.drew.freeze ⟨g,0,none⟩ n).heap:=by
  unfold World.freeze
  split
  ·exact Upd.refl _ _
  ·refine ⟨?_,fun j b a=>?_⟩
   ·show w.heap.size<=(w.heap.modify g _).size
    simp
   ·show (w.heap.modify g _)[j]?=w.heap[j]?
    rw [Aqi,if_neg (fun h=>a h.symm)]
noncomputable def Zhe:Zd:=⟨[.one (.P)],[.one (.S)],fun t K _ h=>Xb t.1 (fun a h=>K (a,()) h) h⟩
theorem Zdp:Zk Tryz.prog 115 Zhe where
  named:=⟨_,Tryz.func115,by kernel_rfl,by kernel_rfl⟩
  calls t K q w a:=by
    obtain ⟨p,u⟩:=t
    obtain ⟨b,c,x,T,hp,d,a⟩:=a
    obtain ⟨r,y,z⟩:=x
    dsimp only at hp d a
    subst hp
    rcases a with ⟨rfl,rfl,rfl,a⟩ | ⟨g,s,cur,A,rfl,f,rfl,h,B,k,hm,l,m,a⟩
    ·refine (ZsY d).mono ?_
     rintro e w' ⟨rfl,rfl⟩
     exact .inl ⟨(_,()),rfl,⟨rfl,rfl,rfl⟩,a⟩
    ·have hlen:s.data.toList.length=s.size:=by simp
     rw [<- hlen] at d
     refine (ZvE d l (fun n=>h (by rw [<- hlen,n];rfl)) (by omega) k hm fun j x o=>?_).mono ?_
     ·have:=ZiC m (i:=j) (v:= .int .u8 x.toNat) (by unfold Zbk;rw [Awz,o];rfl)
      have e:((⟨g,0,none⟩:Addr).add j)=⟨g,0+j,none⟩:=Zly g 0 j
      rw [e,Zj3]
      exact this
     ·rintro e w' ⟨rfl,rfl⟩
      exact .inl ⟨(_,()),rfl,Zs0,a _ ZvA⟩
end Go.Proofs.YtpjbjdheeemdiaaGreatDoor
