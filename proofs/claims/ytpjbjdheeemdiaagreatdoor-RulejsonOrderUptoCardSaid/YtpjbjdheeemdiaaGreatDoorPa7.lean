/- From a reading that is a model to the call. -/
import Derived.KernelRfl
import Derived.Laws.Externs
import GoSem.Extern.MapsClone
import Derived.Shelf.Unicode.ValidAny
import Derived.Shelf.Strings.Builder1
import Derived.Shelf.Strings.OnBuilder
import Derived.Shelf.Strings.Trim
import Derived.Shelf.Strings.Cut
import Derived.Shelf.Strings.Repeat
import Derived.Shelf.Small.Strs
import Derived.Shelf.Utf8.RuneCount
import Derived.Shelf.Strconv.Itoa3
import Derived.Shelf.Strconv.AtoiAll
import Derived.Test.YtpjbjdheeemdiaaGreatDoorProg
import Derived.Shelf.Strings.BuilderK
import Derived.Lib.SmallJoins
import Derived.Tactics2
import Derived.Test.YtpjbjdheeemdiaaGreatDoorPa6
set_option linter.unusedVariables false
set_option linter.unusedSimpArgs false
namespace Go.Fw
open Go
inductive AllOK (P:Program):List (FuncId × Zd)->Prop
  | nil:AllOK P []
  | cons {f:FuncId} {s:Zd} {l:List (FuncId × Zd)} (h:Zj P f s) (r:AllOK P l):AllOK P ((f,s)::l)
theorem Zns {P:Program}:∀ {l:List (FuncId × Zd)},AllOK P l->∀ x,x∈l->Zj P x.1 x.2
  | [],_,x,h=>by cases h
  | _::_,.cons h0 hr,x,h=>by
    cases h with
    | head=>exact h0
    | tail _ h=>exact Zns hr x h
inductive AllExt (P:Program):List FuncId->Prop
  | nil:AllExt P []
  | cons {f:FuncId} {l:List FuncId} (h:ZDN P f) (r:AllExt P l):AllExt P (f::l)
theorem Znt {P:Program}:∀ {l:List FuncId},AllExt P l->∀ f,f∈l->ZDN P f
  | [],_,x,h=>by cases h
  | _::_,.cons h0 hr,x,h=>by
    cases h with
    | head=>exact h0
    | tail _ h=>exact Znt hr x h
inductive AllDyn (P:Program):List (String × TypeId × FuncId)->Prop
  | nil:AllDyn P []
  | cons {n:String} {t:TypeId} {f:FuncId} {l:List (String × TypeId × FuncId)} (h:Ztc P n t f) (r:AllDyn P l):AllDyn P ((n,t,f)::l)
theorem Znu {P:Program}:∀ {l:List (String × TypeId × FuncId)},AllDyn P l->∀ x,x∈l->Ztc P x.1 x.2.1 x.2.2
  | [],_,x,h=>by cases h
  | _::_,.cons h0 hr,x,h=>by
    cases h with
    | head=>exact h0
    | tail _ h=>exact Znu hr x h
inductive AllIter (P:Program):List (FuncId × Zde)->Prop
  | nil:AllIter P []
  | cons {f:FuncId} {s:Zde} {l:List (FuncId × Zde)} (h:Zyt P f s) (r:AllIter P l):AllIter P ((f,s)::l)
theorem Zl4 {P:Program}:∀ {l:List (FuncId × Zde)},AllIter P l->∀ x,x∈l->Zyt P x.1 x.2
  | [],_,x,h=>by cases h
  | _::_,.cons h0 hr,x,h=>by
    cases h with
    | head=>exact h0
    | tail _ h=>exact Zl4 hr x h
theorem Zs (c:Cfg) (h:AllOK c.P c.calls) (h':AllExt c.P c.ext) (h'':AllDyn c.P c.dyn) (h3:AllIter c.P c.iters) (h4:YOK c.P c.yld):c.OK:=⟨Zns h,Znt h',Znu h'',Zl4 h3,h4⟩
theorem ZLO {c:Cfg} {f:FuncId} {fn:Func} {ann:Ann} {s:Zd} (hf:c.P.funcs[f]?=some fn) (hname:(fn.name == "runtime.NumGoroutine")=false) (hbody:fn.body.isNone=false)
    (hn:c.n=fn.ntmps) (hlen:s.args.length<=fn.ntmps) (hc:c.OK) (hmixed:c.P.follows .mixedOrders=true)
    (hr:∀ (t:Xw s.args) (K:Xw s.res->Zc->Prop) (Kp:Value->Zc->Prop) (h:Zc),ZFR c fn ann (Xw.evs s.args t) s.res K Kp h=s.sem t K Kp h):Zj c.P f s where
  named:=⟨fn,hf,hname,hbody⟩
  calls t K Kp w hk:=by
    have hl:(Xw.evs s.args t).length<=fn.ntmps:=by
      have:∀ (vs:List VT) (x:Xw vs),(Xw.evs vs x).length=vs.length:=by
        intro vs
        induction vs with
        | nil=>intro x;rfl
        | cons v vs ih=>intro x;simp only [Xw.evs,Aqj,ih]
      rw [this]
      exact hlen
    exact Zt5 hc hmixed hf hn hl (by rw [hr];exact hk)
def ZI (c:Cfg) (fn:Func) (ann:Ann) (s:Zd):Prop:=∀ (t:Xw s.args) (K:Xw s.res->Zc->Prop) (Kp:Value->Zc->Prop) (h:Zc),ZFR c fn ann (Xw.evs s.args t) s.res K Kp h=s.sem t K Kp h
theorem okF {c:Cfg} {f:FuncId} {fn:Func} {ann:Ann} {s:Zd} (hr:ZI c fn ann s) (hf:c.P.funcs[f]?=some fn) (hm:c.P.follows .mixedOrders=true) (hc:c.OK)
    (hname:(fn.name == "runtime.NumGoroutine")=false:=by kernel_rfl) (hbody:fn.body.isNone=false:=by kernel_rfl) (hn:c.n=fn.ntmps:=by rfl) (hlen:s.args.length<=fn.ntmps:=by decide):Zj c.P f s :=
  ZLO hf hname hbody hn hlen hc hm hr
theorem Zlo {P:Program} {f:FuncId} {fn:Func} {s:Zd} (hf:P.funcs[f]?=some fn) (hname:(fn.name == "runtime.NumGoroutine")=false) (hbody:fn.body.isNone=false) (hs:∀ t K Kp h,¬ s.sem t K Kp h):Zj P f s where
  named:=⟨fn,hf,hname,hbody⟩
  calls t K Kp w hk:=(hs _ _ _ _ hk).elim
theorem Zw0 {P:Program} {f:FuncId} {A R:List VT} {M:Nat->Xw A->(Xw R->Zc->Prop)->(Value->Zc->Prop)->Zc->Prop} (h:∀ n,Zj P f ⟨A,R,M n⟩):Zj P f ⟨A,R,fun t K Kp h=>∃ n,M n t K Kp h⟩ where
  named:=(h 0).named
  calls t K Kp w hk:=let ⟨n,hn⟩:=hk;(h n).calls t K Kp w hn
end Go.Fw
namespace Go.Proofs
open Go.Shelf
open Go.RowKit in
open Go.RowKit in
open Go.RowKit in
def Tryz.lays137_ren:Go.Shelf.Ren:=⟨fun | 137=>171 | 217=>243 | 266=>299 | n=>n,fun | 9=>9 | 5=>5 | 3=>3 | n=>n,fun | n=>n⟩
theorem Tryz.lays137:Go.Proofs.Lays.n137 Tryz.prog Tryz.lays137_ren:={
  mixed:=by kernel_rfl
  f137:=Tryz.func171.trans (congrArg some (by kernel_rfl))
  f217:=Tryz.func243.trans (congrArg some (by kernel_rfl))
  f266:=Tryz.func299.trans (congrArg some (by kernel_rfl))
  t3:=Tryz.underlying3
  a3:=Tryz.isAgg3
  z3:=Tryz.sizeOf3
  v3:=Tryz.zeroValue3
  t5:=Tryz.underlying5
  a5:=Tryz.isAgg5
  z5:=Tryz.sizeOf5
  v5:=Tryz.zeroValue5
  t9:=Tryz.underlying9
  a9:=Tryz.isAgg9
  z9:=Tryz.sizeOf9
  v9:=Tryz.zeroValue9 }
open Go.RowKit in
theorem Tryz.strings_IndexByte (s:ByteArray) (c:Int) (w:World) :
    Calls Tryz.prog 171 #[.string s,.int .u8 c] w fun e w'=>e = .returned (.int .i64 (Lib.indexByte s.data.toList c.toNat.toUInt8))/\w'=w:=Any.strings_IndexByte Tryz.lays137 s c w
def Tryz.lays195_ren:Go.Shelf.Ren:=⟨fun | 195=>323 | n=>n,fun | 9=>9 | 3=>3 | 0=>0 | 4=>4 | n=>n,fun | n=>n⟩
theorem Tryz.lays195:Go.Proofs.Lays.n195 Tryz.prog Tryz.lays195_ren:={
  mixed:=by kernel_rfl
  f195:=Tryz.func323.trans (congrArg some (by kernel_rfl))
  t0:=Tryz.underlying0
  a0:=Tryz.isAgg0
  z0:=Tryz.sizeOf0
  v0:=Tryz.zeroValue0
  t3:=Tryz.underlying3
  a3:=Tryz.isAgg3
  z3:=Tryz.sizeOf3
  v3:=Tryz.zeroValue3
  t4:=Tryz.underlying4
  a4:=Tryz.isAgg4
  z4:=Tryz.sizeOf4
  v4:=Tryz.zeroValue4
  t9:=Tryz.underlying9
  a9:=Tryz.isAgg9
  z9:=Tryz.sizeOf9
  v9:=Tryz.zeroValue9 }
open Go.RowKit in
theorem Tryz.utf8_RuneCountInString (s:ByteArray) (w:World) (hs:s.size<9223372036854775807) :
    Calls Tryz.prog 323 #[.string s] w fun e w'=>e = .returned (.int .i64 (Lib.runeCount s))/\∃ pos,w'=w.iter s pos:=Any.utf8_RuneCountInString Tryz.lays195 s w hs
def Tryz.laysM171_ren:Go.Shelf.Ren:=⟨fun | 171=>31 | 243=>110 | 246=>199 | 283=>269 | 284=>270 | 285=>271 | 286=>272 | 129=>317 | 317=>316 | 318=>318 | 319=>319 | 320=>320 | 337=>331 | 338=>332 | n=>n,fun | 3=>3 | 9=>9 | 2=>2 | 4=>4 | 171=>298 | 0=>0 | 53=>182 | 37=>186 | 5=>5 | 173=>301 | 212=>332 | 51=>287 | 20=>20 | 213=>333 | 46=>248 | 232=>352 | 233=>353 | n=>n,fun | 17=>6 | 18=>7 | 19=>8 | n=>n⟩
theorem Tryz.laysM171:Go.Proofs.LaysM.n171 Tryz.prog Tryz.laysM171_ren:={
  mixed:=by kernel_rfl
  f129:=Tryz.func317.trans (congrArg some (by kernel_rfl))
  f171:=Tryz.func31.trans (congrArg some (by kernel_rfl))
  f243:=Tryz.func110.trans (congrArg some (by kernel_rfl))
  f246:=Tryz.func199.trans (congrArg some (by kernel_rfl))
  f283:=Tryz.func269.trans (congrArg some (by kernel_rfl))
  f284:=Tryz.func270.trans (congrArg some (by kernel_rfl))
  f285:=Tryz.func271.trans (congrArg some (by kernel_rfl))
  f286:=Tryz.func272.trans (congrArg some (by kernel_rfl))
  f317:=Tryz.func316.trans (congrArg some (by kernel_rfl))
  f318:=Tryz.func318.trans (congrArg some (by kernel_rfl))
  f319:=Tryz.func319.trans (congrArg some (by kernel_rfl))
  f320:=Tryz.func320.trans (congrArg some (by kernel_rfl))
  f337:=Tryz.func331.trans (congrArg some (by kernel_rfl))
  f338:=Tryz.func332.trans (congrArg some (by kernel_rfl))
  t0:=Tryz.underlying0
  a0:=Tryz.isAgg0
  z0:=Tryz.sizeOf0
  v0:=Tryz.zeroValue0
  t2:=Tryz.underlying2
  a2:=Tryz.isAgg2
  z2:=Tryz.sizeOf2
  v2:=Tryz.zeroValue2
  t3:=Tryz.underlying3
  a3:=Tryz.isAgg3
  z3:=Tryz.sizeOf3
  v3:=Tryz.zeroValue3
  t4:=Tryz.underlying4
  a4:=Tryz.isAgg4
  z4:=Tryz.sizeOf4
  v4:=Tryz.zeroValue4
  t5:=Tryz.underlying5
  a5:=Tryz.isAgg5
  z5:=Tryz.sizeOf5
  v5:=Tryz.zeroValue5
  t9:=Tryz.underlying9
  a9:=Tryz.isAgg9
  z9:=Tryz.sizeOf9
  v9:=Tryz.zeroValue9
  t20:=Tryz.underlying20
  a20:=Tryz.isAgg20
  z20:=Tryz.sizeOf20
  v20:=Tryz.zeroValue20
  t37:=Tryz.underlying186
  a37:=Tryz.isAgg186
  z37:=Tryz.sizeOf186
  v37:=Tryz.zeroValue186
  t46:=Tryz.underlying248
  a46:=Tryz.isAgg248
  z46:=Tryz.sizeOf248
  v46:=Tryz.zeroValue248
  t51:=Tryz.underlying287
  a51:=Tryz.isAgg287
  z51:=Tryz.sizeOf287
  v51:=Tryz.zeroValue287
  t53:=Tryz.underlying182
  a53:=Tryz.isAgg182
  z53:=Tryz.sizeOf182
  v53:=Tryz.zeroValue182
  t171:=Tryz.underlying298
  a171:=Tryz.isAgg298
  z171:=Tryz.sizeOf298
  v171:=Tryz.zeroValue298
  t173:=Tryz.underlying301
  a173:=Tryz.isAgg301
  z173:=Tryz.sizeOf301
  v173:=Tryz.zeroValue301
  t212:=Tryz.underlying332
  a212:=Tryz.isAgg332
  z212:=Tryz.sizeOf332
  v212:=Tryz.zeroValue332
  t213:=Tryz.underlying333
  a213:=Tryz.isAgg333
  z213:=Tryz.sizeOf333
  t232:=Tryz.underlying352
  a232:=Tryz.isAgg352
  z232:=Tryz.sizeOf352
  v232:=Tryz.zeroValue352
  t233:=Tryz.underlying353
  a233:=Tryz.isAgg353
  z233:=Tryz.sizeOf353
  v233:=Tryz.zeroValue353
  g17:=by kernel_rfl
  g18:=by kernel_rfl
  g19:=by kernel_rfl
  i0:=by kernel_rfl
  i2:=by kernel_rfl
  i3:=by kernel_rfl
  i4:=by kernel_rfl
  i5:=by kernel_rfl
  i9:=by kernel_rfl
  i20:=by kernel_rfl
  i37:=by kernel_rfl
  i46:=by kernel_rfl
  i51:=by kernel_rfl
  i53:=by kernel_rfl
  i171:=by kernel_rfl
  i173:=by kernel_rfl
  i212:=by kernel_rfl
  i232:=by kernel_rfl
  i233:=by kernel_rfl
  m17:=by kernel_rfl
  m18:=by kernel_rfl
  m19:=by kernel_rfl }
open Go.RowKit Go.Sort Go.Lib in
theorem Tryz.strconv_Itoa (n:Int) (h0 : -9223372036854775808<=n) (h1:n<=9223372036854775807) (w:World) (htab:Lib.TabIs Tryz.prog w "internal/strconv.uint64pow10" .u64 Lib.pow10Tab) :
    Calls Tryz.prog 31 #[.int .i64 n] w fun e w'=>e = .returned (.string ⟨(Lib.itoa n).toArray⟩)/\∃ k os,w'=grow (w.drewN k) os:=Any.strconv_Itoa Tryz.laysM171 n h0 h1 w htab
def Tryz.laysC172_ren:Go.Shelf.Ren:=⟨fun | 172=>108 | 244=>197 | 245=>198 | 247=>264 | 279=>265 | 280=>266 | 281=>267 | 282=>268 | 287=>313 | 316=>314 | 171=>31 | 205=>315 | 321=>329 | 322=>330 | 243=>110 | 246=>199 | 283=>269 | 284=>270 | 285=>271 | 286=>272 | 129=>317 | 317=>316 | 318=>318 | 319=>319 | 320=>320 | 337=>331 | 338=>332 | n=>n,fun | 9=>9 | 3=>3 | 75=>177 | 76=>178 | 4=>4 | 5=>5 | 167=>292 | 37=>186 | 0=>0 | 85=>293 | 2=>2 | 168=>295 | 53=>182 | 175=>326 | 46=>248 | 210=>329 | 127=>254 | 145=>346 | 143=>344 | 21=>21 | 171=>298 | 173=>301 | 212=>332 | 51=>287 | 20=>20 | 213=>333 | 232=>352 | 233=>353 | 80=>192 | n=>n,fun | 15=>4 | 16=>5 | 17=>6 | 18=>7 | 19=>8 | n=>n⟩
theorem Tryz.laysC172:Go.Proofs.LaysC.n172 Tryz.prog Tryz.laysC172_ren:={
  mixed:=by kernel_rfl
  f129:=Tryz.func317.trans (congrArg some (by kernel_rfl))
  f171:=Tryz.func31.trans (congrArg some (by kernel_rfl))
  f172:=Tryz.func108.trans (congrArg some (by kernel_rfl))
  f205:=Tryz.func315.trans (congrArg some (by kernel_rfl))
  f243:=Tryz.func110.trans (congrArg some (by kernel_rfl))
  f244:=Tryz.func197.trans (congrArg some (by kernel_rfl))
  f245:=Tryz.func198.trans (congrArg some (by kernel_rfl))
  f246:=Tryz.func199.trans (congrArg some (by kernel_rfl))
  f247:=Tryz.func264.trans (congrArg some (by kernel_rfl))
  f279:=Tryz.func265.trans (congrArg some (by kernel_rfl))
  f280:=Tryz.func266.trans (congrArg some (by kernel_rfl))
  f281:=Tryz.func267.trans (congrArg some (by kernel_rfl))
  f282:=Tryz.func268.trans (congrArg some (by kernel_rfl))
  f283:=Tryz.func269.trans (congrArg some (by kernel_rfl))
  f284:=Tryz.func270.trans (congrArg some (by kernel_rfl))
  f285:=Tryz.func271.trans (congrArg some (by kernel_rfl))
  f286:=Tryz.func272.trans (congrArg some (by kernel_rfl))
  f287:=Tryz.func313.trans (congrArg some (by kernel_rfl))
  f316:=Tryz.func314.trans (congrArg some (by kernel_rfl))
  f317:=Tryz.func316.trans (congrArg some (by kernel_rfl))
  f318:=Tryz.func318.trans (congrArg some (by kernel_rfl))
  f319:=Tryz.func319.trans (congrArg some (by kernel_rfl))
  f320:=Tryz.func320.trans (congrArg some (by kernel_rfl))
  f321:=Tryz.func329.trans (congrArg some (by kernel_rfl))
  f322:=Tryz.func330.trans (congrArg some (by kernel_rfl))
  f337:=Tryz.func331.trans (congrArg some (by kernel_rfl))
  f338:=Tryz.func332.trans (congrArg some (by kernel_rfl))
  t0:=Tryz.underlying0
  a0:=Tryz.isAgg0
  z0:=Tryz.sizeOf0
  v0:=Tryz.zeroValue0
  t2:=Tryz.underlying2
  a2:=Tryz.isAgg2
  z2:=Tryz.sizeOf2
  v2:=Tryz.zeroValue2
  t3:=Tryz.underlying3
  a3:=Tryz.isAgg3
  z3:=Tryz.sizeOf3
  v3:=Tryz.zeroValue3
  t4:=Tryz.underlying4
  a4:=Tryz.isAgg4
  z4:=Tryz.sizeOf4
  v4:=Tryz.zeroValue4
  t5:=Tryz.underlying5
  a5:=Tryz.isAgg5
  z5:=Tryz.sizeOf5
  v5:=Tryz.zeroValue5
  t9:=Tryz.underlying9
  a9:=Tryz.isAgg9
  z9:=Tryz.sizeOf9
  v9:=Tryz.zeroValue9
  t20:=Tryz.underlying20
  a20:=Tryz.isAgg20
  z20:=Tryz.sizeOf20
  v20:=Tryz.zeroValue20
  t21:=Tryz.underlying21
  a21:=Tryz.isAgg21
  z21:=Tryz.sizeOf21
  v21:=Tryz.zeroValue21
  t37:=Tryz.underlying186
  a37:=Tryz.isAgg186
  z37:=Tryz.sizeOf186
  v37:=Tryz.zeroValue186
  t46:=Tryz.underlying248
  a46:=Tryz.isAgg248
  z46:=Tryz.sizeOf248
  v46:=Tryz.zeroValue248
  t51:=Tryz.underlying287
  a51:=Tryz.isAgg287
  z51:=Tryz.sizeOf287
  v51:=Tryz.zeroValue287
  t53:=Tryz.underlying182
  a53:=Tryz.isAgg182
  z53:=Tryz.sizeOf182
  v53:=Tryz.zeroValue182
  t75:=Tryz.underlying177
  a75:=Tryz.isAgg177
  z75:=Tryz.sizeOf177
  v75:=Tryz.zeroValue177
  t76:=Tryz.underlying178
  a76:=Tryz.isAgg178
  z76:=Tryz.sizeOf178
  v76:=Tryz.zeroValue178
  t85:=Tryz.underlying293
  a85:=Tryz.isAgg293
  z85:=Tryz.sizeOf293
  v85:=Tryz.zeroValue293
  t127:=Tryz.underlying254
  a127:=Tryz.isAgg254
  z127:=Tryz.sizeOf254
  v127:=Tryz.zeroValue254
  t143:=Tryz.underlying344
  a143:=Tryz.isAgg344
  z143:=Tryz.sizeOf344
  v143:=Tryz.zeroValue344
  t145:=Tryz.underlying346
  a145:=Tryz.isAgg346
  z145:=Tryz.sizeOf346
  v145:=Tryz.zeroValue346
  t167:=Tryz.underlying292
  a167:=Tryz.isAgg292
  z167:=Tryz.sizeOf292
  v167:=Tryz.zeroValue292
  t168:=Tryz.underlying295
  a168:=Tryz.isAgg295
  z168:=Tryz.sizeOf295
  v168:=Tryz.zeroValue295
  t171:=Tryz.underlying298
  a171:=Tryz.isAgg298
  z171:=Tryz.sizeOf298
  v171:=Tryz.zeroValue298
  t173:=Tryz.underlying301
  a173:=Tryz.isAgg301
  z173:=Tryz.sizeOf301
  v173:=Tryz.zeroValue301
  t175:=Tryz.underlying326
  a175:=Tryz.isAgg326
  z175:=Tryz.sizeOf326
  v175:=Tryz.zeroValue326
  t210:=Tryz.underlying329
  a210:=Tryz.isAgg329
  z210:=Tryz.sizeOf329
  v210:=Tryz.zeroValue329
  t212:=Tryz.underlying332
  a212:=Tryz.isAgg332
  z212:=Tryz.sizeOf332
  v212:=Tryz.zeroValue332
  t213:=Tryz.underlying333
  a213:=Tryz.isAgg333
  z213:=Tryz.sizeOf333
  t232:=Tryz.underlying352
  a232:=Tryz.isAgg352
  z232:=Tryz.sizeOf352
  v232:=Tryz.zeroValue352
  t233:=Tryz.underlying353
  a233:=Tryz.isAgg353
  z233:=Tryz.sizeOf353
  v233:=Tryz.zeroValue353
  g15:=by kernel_rfl
  g16:=by kernel_rfl
  g17:=by kernel_rfl
  g18:=by kernel_rfl
  g19:=by kernel_rfl
  t80:=Tryz.underlying192
  a80:=Tryz.isAgg192
  z80:=Tryz.sizeOf192
  v80:=Tryz.zeroValue192
  i0:=by kernel_rfl
  i2:=by kernel_rfl
  i3:=by kernel_rfl
  i4:=by kernel_rfl
  i5:=by kernel_rfl
  i9:=by kernel_rfl
  i20:=by kernel_rfl
  i21:=by kernel_rfl
  i37:=by kernel_rfl
  i46:=by kernel_rfl
  i51:=by kernel_rfl
  i53:=by kernel_rfl
  i75:=by kernel_rfl
  i76:=by kernel_rfl
  i80:=by kernel_rfl
  i85:=by kernel_rfl
  i127:=by kernel_rfl
  i143:=by kernel_rfl
  i145:=by kernel_rfl
  i167:=by kernel_rfl
  i168:=by kernel_rfl
  i171:=by kernel_rfl
  i173:=by kernel_rfl
  i175:=by kernel_rfl
  i210:=by kernel_rfl
  i212:=by kernel_rfl
  i232:=by kernel_rfl
  i233:=by kernel_rfl
  m15:=by kernel_rfl
  m16:=by kernel_rfl
  m17:=by kernel_rfl
  m18:=by kernel_rfl
  m19:=by kernel_rfl
  c0:=by kernel_rfl
  c2:=by kernel_rfl
  c3:=by kernel_rfl
  c4:=by kernel_rfl
  c5:=by kernel_rfl
  c9:=by kernel_rfl
  c20:=by kernel_rfl
  c21:=by kernel_rfl
  c37:=by kernel_rfl
  c46:=by kernel_rfl
  c51:=by kernel_rfl
  c53:=by kernel_rfl
  c75:=by kernel_rfl
  c76:=by kernel_rfl
  c80:=by kernel_rfl
  c85:=by kernel_rfl
  c127:=by kernel_rfl
  c143:=by kernel_rfl
  c145:=by kernel_rfl
  c167:=by kernel_rfl
  c168:=by kernel_rfl
  c171:=by kernel_rfl
  c173:=by kernel_rfl
  c175:=by kernel_rfl
  c210:=by kernel_rfl
  c212:=by kernel_rfl
  c213:=by kernel_rfl
  c232:=by kernel_rfl
  c233:=by kernel_rfl }
open Go.RowKit in
theorem Tryz.strconv_Atoi_ok (s:ByteArray) (hmax:s.size<=9223372036854775806) (v:Int) (h:Lib.atoiAll s.data.toList = .ok v) (w:World) :
    Calls Tryz.prog 108 #[.string s] w fun e w'=>e = .returned (.tuple #[.int .i64 v,.nilIface])/\(w'=w\/∃ t,w'=Lib.bytesWorld w 5 t):=Any.strconv_Atoi_ok Tryz.laysC172 s hmax v h w
open Go.RowKit Go.Lib in
open Go.RowKit Go.Lib in
def Tryz.lays196_ren:Go.Shelf.Ren:=⟨fun | 196=>163 | 259=>237 | n=>n,fun | 9=>9 | 4=>4 | 3=>3 | 5=>5 | 12=>12 | 119=>271 | 0=>0 | 46=>248 | 139=>274 | 138=>273 | 53=>182 | n=>n,fun | 3=>0 | 4=>1 | n=>n⟩
theorem Tryz.lays196:Go.Proofs.Lays.n196 Tryz.prog Tryz.lays196_ren:={
  mixed:=by kernel_rfl
  f196:=Tryz.func163.trans (congrArg some (by kernel_rfl))
  f259:=Tryz.func237.trans (congrArg some (by kernel_rfl))
  t0:=Tryz.underlying0
  a0:=Tryz.isAgg0
  z0:=Tryz.sizeOf0
  v0:=Tryz.zeroValue0
  t3:=Tryz.underlying3
  a3:=Tryz.isAgg3
  z3:=Tryz.sizeOf3
  v3:=Tryz.zeroValue3
  t4:=Tryz.underlying4
  a4:=Tryz.isAgg4
  z4:=Tryz.sizeOf4
  v4:=Tryz.zeroValue4
  t5:=Tryz.underlying5
  a5:=Tryz.isAgg5
  z5:=Tryz.sizeOf5
  v5:=Tryz.zeroValue5
  t9:=Tryz.underlying9
  a9:=Tryz.isAgg9
  z9:=Tryz.sizeOf9
  v9:=Tryz.zeroValue9
  t12:=Tryz.underlying12
  a12:=Tryz.isAgg12
  z12:=Tryz.sizeOf12
  v12:=Tryz.zeroValue12
  t46:=Tryz.underlying248
  a46:=Tryz.isAgg248
  z46:=Tryz.sizeOf248
  v46:=Tryz.zeroValue248
  t53:=Tryz.underlying182
  a53:=Tryz.isAgg182
  z53:=Tryz.sizeOf182
  v53:=Tryz.zeroValue182
  t119:=Tryz.underlying271
  a119:=Tryz.isAgg271
  z119:=Tryz.sizeOf271
  t138:=Tryz.underlying273
  a138:=Tryz.isAgg273
  z138:=Tryz.sizeOf273
  v138:=Tryz.zeroValue273
  t139:=Tryz.underlying274
  a139:=Tryz.isAgg274
  z139:=Tryz.sizeOf274
  v139:=Tryz.zeroValue274
  g3:=by kernel_rfl
  g4:=by kernel_rfl }
end Go.Proofs
namespace Go.Proofs.YtpjbjdheeemdiaaGreatDoor
open Go Go.Fw Go.RowKit
theorem Zn2 {w w':World} {n:Nat} (hb:Below n w w'):Fw.Same w w':=⟨hb.tape,hb.os,hb.output⟩
theorem ZsU {w w':World} (hb:Below w.heap.size w w'):Ext w.heap w'.heap:=⟨hb.size,hb.block⟩
noncomputable def Ziz:Zd:=⟨[.one (.S),.one (.I .u8)],[.one (.I .i64)],fun t K _ h=>X0 t.1 t.2.1 (fun r0 h=>K (r0,()) h) h⟩
theorem ZeS:Zj Tryz.prog 171 Ziz where
  named:=⟨_,Tryz.func171,by kernel_rfl,by kernel_rfl⟩
  calls t K Kp w hk:=by
    refine (Tryz.strings_IndexByte t.1 t.2.1 w).mono ?_
    rintro e w' ⟨rfl,rfl⟩
    exact .inl ⟨(_,()),rfl,⟨rfl,rfl,rfl⟩,hk⟩
noncomputable def ZfE:Zd:=⟨[.one (.S)],[.one (.B)],fun t K _ h=>Z6 t.1 (fun r0 h=>K (r0,()) h) h⟩
theorem XG:Zj Tryz.prog 163 ZfE where
  named:=⟨_,Tryz.func163,by kernel_rfl,by kernel_rfl⟩
  calls t K Kp w hk:=by
    obtain ⟨hT,hs,hk⟩:=hk
    refine (Any.utf8_ValidString Tryz.lays196 t.1 w hs (hT.utf w rfl)).mono ?_
    rintro e w' ⟨rfl,hb⟩
    exact .inl ⟨(_,()),rfl,Zn2 hb,hk _ (ZsU hb)⟩
noncomputable def ZdZ:Zd:=⟨[.one (.S)],[.one (.I .i64)],fun t K _ h=>Y9 t.1 (fun r0 h=>K (r0,()) h) h⟩
theorem ZdD:Zj Tryz.prog 323 ZdZ where
  named:=⟨_,Tryz.func323,by kernel_rfl,by kernel_rfl⟩
  calls t K Kp w hk:=by
    obtain ⟨hs,hk⟩:=hk
    refine (Tryz.utf8_RuneCountInString t.1 w hs).mono ?_
    rintro e w' ⟨rfl,pos,rfl⟩
    exact .inl ⟨(_,()),rfl,⟨rfl,rfl,rfl⟩,hk _ (Ext.push _ _)⟩
noncomputable def Zmc:Zd:=⟨[.one (.I .i64)],[.one (.S)],fun t K _ h=>ZcY t.1 (fun r0 h=>K (r0,()) h) h⟩
theorem ZhC:Zj Tryz.prog 31 Zmc where
  named:=⟨_,Tryz.func31,by kernel_rfl,by kernel_rfl⟩
  calls t K Kp w hk:=by
    obtain ⟨hT,h0,h1,hk⟩:=hk
    refine (Tryz.strconv_Itoa t.1 h0 h1 w (hT.pow w rfl)).mono ?_
    rintro e w' ⟨rfl,k,os,rfl⟩
    refine .inl ⟨(_,()),rfl,⟨rfl,rfl,rfl⟩,hk _ ⟨?_,fun j hj=>?_⟩⟩
    ·show w.heap.size<=(w.heap++os).size
     rw [Array.size_append];omega
    ·show (w.heap++os)[j]?=w.heap[j]?
     rw [Array.getElem?_append_left hj]
noncomputable def Zmd:Zd:=⟨[.one (.S)],[.one (.I .i64),.one (.V)],fun t K _ h=>Zek t.1 (fun r0 r1 h=>K (r0,r1,()) h) h⟩
theorem Zln:Zj Tryz.prog 108 Zmd where
  named:=⟨_,Tryz.func108,by kernel_rfl,by kernel_rfl⟩
  calls t K Kp w hk:=by
    obtain ⟨hT,hs,hk⟩:=hk
    cases hx:Lib.atoiAll t.1.data.toList with
    | ok v =>
      rw [hx] at hk
      refine (Tryz.strconv_Atoi_ok t.1 (by omega) v hx w).mono ?_
      rintro e w' ⟨rfl,rfl | ⟨s,rfl⟩⟩
      ·exact .inl ⟨(_,_,()),rfl,⟨rfl,rfl,rfl⟩,hk _ (Ext.refl _)⟩
      ·have hb:=Lib.bytesWorld_below w 5 s
       exact .inl ⟨(_,_,()),rfl,Zn2 hb,hk _ (ZsU hb)⟩
    | range =>
      rw [hx] at hk
      obtain ⟨te,pe,hr⟩:=hT.range
      refine (Any.strconv_Atoi_range Tryz.laysC172 t.1 hs hx (.iface te pe) w (by rw [ZiQ];exact hr) (.inr ⟨te,pe,rfl⟩)).mono ?_
      rintro e w' ⟨N,rfl,_,_,hb⟩
      exact .inl ⟨(_,_,()),rfl,Zn2 hb,hk _ _ _ (ZsU hb)⟩
    | _ =>
      rw [hx] at hk
      obtain ⟨te,pe,hr⟩:=hT.syn
      refine (Any.strconv_Atoi_syntax Tryz.laysC172 t.1 hs hx (.iface te pe) w (by rw [ZiQ];exact hr) (.inr ⟨te,pe,rfl⟩)).mono ?_
      rintro e w' ⟨N,rfl,_,_,hb⟩
      exact .inl ⟨(_,_,()),rfl,Zn2 hb,hk _ _ _ (ZsU hb)⟩
theorem ZAu:(Tryz.prog.info? 188).map (·.size)=some 2:=by kernel_rfl
set_option maxHeartbeats 2000000 in
set_option maxRecDepth 100000 in
theorem Zx2 {b:Nat} {w:World} (h0:w.cell? ⟨b,0,none⟩=some (.pointer (some ⟨b,0,none⟩))) :
    Calls Tryz.prog 251 #[.pointer (some ⟨b,0,none⟩)] w fun e w'=>e = .returned (.tuple #[])/\w'=w:=by
  obtain ⟨j,hj,_⟩:=Ayc.1 ZAu
  go_enter Tryz.func251,Tryz.ntmps251
  go_wp2
  rw [Lib.run_neq_ptr_same w _ Tryz.underlying185 hj]
  go_wp2
  go_end0
  exact ⟨rfl,rfl⟩
set_option maxHeartbeats 2000000 in
set_option maxRecDepth 100000 in
theorem Zug {b:Nat} {T:TypeId} {w:World} (hT:T=188\/T=190) (h0:w.cell? ⟨b,0,none⟩=some (.pointer none)) (hsh:w.shape? b=some (T,2)) (hfz:w.frozen? ⟨b,0,none⟩=false) :
    Calls Tryz.prog 251 #[.pointer (some ⟨b,0,none⟩)] w fun e w'=>e = .returned (.tuple #[])/\w'=w.setCell ⟨b,0,none⟩ (.pointer (some ⟨b,0,none⟩)):=by
  have hl:liesAt Tryz.prog Tryz.prog.depth T (2 / Tryz.prog.cellsOf T) 0 188 1=true:=by rcases hT with rfl | rfl<;>kernel_rfl
  obtain ⟨j,hj,hjs⟩:=Ayc.1 ZAu
  go_enter Tryz.func251,Tryz.ntmps251
  go_wp2
  rw [Lib.run_to_unsafe w ⟨b,0,none⟩ Tryz.underlying185 Tryz.underlying318 hj (by rw [hjs];decide) hsh (Nat.zero_lt_succ 1)]
  simp only [Result.andThen]
  rw [Oper.upon_value]
  go_wp2
  rw [run_callFunc_extern Tryz.func306 (by kernel_rfl) (by kernel_rfl) (by kernel_rfl) (e:=Extern.AbiNoEscape.same) (by kernel_rfl)]
  rw [Lib.run_noEscape]
  simp only [Result.andThen]
  rw [Oper.upon_value]
  go_wp2
  rw [Lib.run_from_unsafe w ⟨b,0,none⟩ Tryz.underlying318 Tryz.underlying185 hj hsh hl]
  simp only [Result.andThen]
  rw [Oper.upon_value]
  go_wp2
  go_end0
  exact ⟨rfl,rfl⟩
noncomputable def Zfj:Zd:=⟨[.one (.P)],[],fun t K _ h=>Yl t.1 (fun h=>K (()) h) h⟩
theorem Zav:Zj Tryz.prog 251 Zfj where
  named:=⟨_,Tryz.func251,by kernel_rfl,by kernel_rfl⟩
  calls t K Kp w hk:=by
    obtain ⟨p,u⟩:=t
    obtain ⟨b,c,v,T,hp,hb,hT,hk⟩:=hk
    dsimp only at hp
    subst hp
    have h0:w.cell? ⟨b,0,none⟩=some c:=by rw [ZiQ];unfold Zc.cell;rw [hb];rfl
    rcases hk with ⟨rfl,hk⟩ | ⟨rfl,hk⟩
    ·refine (Zug hT h0 (by unfold World.shape?;rw [hb];rfl) (by unfold World.frozen?;rw [hb];rfl)).mono ?_
     rintro e w' ⟨rfl,rfl⟩
     rw [ZmM]
     exact .inl ⟨(),rfl,⟨rfl,rfl,rfl⟩,hk⟩
    ·refine (Zx2 h0).mono ?_
     rintro e w' ⟨rfl,rfl⟩
     exact .inl ⟨(),rfl,⟨rfl,rfl,rfl⟩,hk⟩
set_option maxHeartbeats 2000000 in
set_option maxRecDepth 100000 in
theorem Ztu {b g cap:Nat} {p:Value} {T:TypeId} {cur:Array Value} {fz:Nat × Nat} {l:List UInt8} {w:World} (hbk:w.heap[b]?=some (.cells #[p,.slice (some ⟨g,0,none⟩) l.length cap] T (0,0)))
    (hg:w.heap[g]?=some (.cells cur 5 fz)) (h0:l≠[]) (hn:l.length<=cap) (hc:cap<=cur.size) (hm:cap<9223372036854775808) (hl:∀ j x,l[j]?=some x->w.cell? ((⟨g,0,none⟩:Addr).add j)=some (.int .u8 x.toNat)) :
    Calls Tryz.prog 115 #[.pointer (some ⟨b,0,none⟩)] w fun e w'=>e = .returned (.string ⟨l.toArray⟩)/\w'=w.drew.freeze ⟨g,0,none⟩ l.length:=by
  have hl0:l.length≠0:=by simpa using h0
  have c1:w.drew.cell? ⟨b,1,none⟩=some (.slice (some ⟨g,0,none⟩) l.length cap):=by
    have:w.drew.heap[b]?=some (.cells #[p,.slice (some ⟨g,0,none⟩) l.length cap] T (0,0)):=hbk
    rw [Lib.cell_of_heap this];rfl
  have hSD:(Builtin.unsafeSliceData_ #[186] 254 #[.slice (some ⟨g,0,none⟩) l.length cap]).run Tryz.prog w.drew = .ok (.pointer (some ⟨g,0,none⟩)) w.drew:=Lib.run_unsafeSliceData_row _ _ _ _ _ _ (by omega)
  have hUS:(Builtin.unsafeString_ #[254,3] 9 #[.pointer (some ⟨g,0,none⟩),.int .i64 l.length]).run Tryz.prog w.drew = .ok (.string ⟨l.toArray⟩) (w.drew.freeze ⟨g,0,none⟩ l.length) :=
    Lib.run_unsafeString_row w.drew 254 3 9 5 Tryz.underlying254 (by kernel_rfl) g cur.size (by have hg':w.drew.heap[g]?=some (.cells cur 5 fz):=hg;simp [World.shape?,hg']) l h0 (by omega) (by omega) hl
  go_enter Tryz.func115,Tryz.ntmps115
  go_wp2
  go_region
  all_goals (go_wp2;go_ret;exact ⟨rfl,rfl⟩)
set_option maxHeartbeats 2000000 in
set_option maxRecDepth 100000 in
theorem ZqU {b:Nat} {p:Value} {T:TypeId} {w:World} (hbk:w.heap[b]?=some (.cells #[p,.slice none 0 0] T (0,0))) :
    Calls Tryz.prog 115 #[.pointer (some ⟨b,0,none⟩)] w fun e w'=>e = .returned (.string .empty)/\w'=w.drew:=by
  have c1:w.drew.cell? ⟨b,1,none⟩=some (.slice none 0 0):=by
    have:w.drew.heap[b]?=some (.cells #[p,.slice none 0 0] T (0,0)):=hbk
    rw [Lib.cell_of_heap this];rfl
  have hSD:(Builtin.unsafeSliceData_ #[186] 254 #[.slice none 0 0]).run Tryz.prog w.drew = .ok (.pointer none) w.drew:=rfl
  have hUS:(Builtin.unsafeString_ #[254,3] 9 #[.pointer none,.int .i64 0]).run Tryz.prog w.drew = .ok (.string .empty) w.drew:=rfl
  go_enter Tryz.func115,Tryz.ntmps115
  go_wp2
  go_region
  all_goals (go_wp2;go_ret;exact ⟨rfl,rfl⟩)
theorem ZqW {w:World} {a:Addr} {n:Nat}:Fw.Same w (w.drew.freeze a n):=by
  unfold World.freeze
  split<;>exact ⟨rfl,rfl,rfl⟩
theorem Zto {w:World} {g n:Nat}:Upd (· = g) w.heap (w.drew.freeze ⟨g,0,none⟩ n).heap:=by
  unfold World.freeze
  split
  ·exact Upd.refl _ _
  ·refine ⟨?_,fun j hj hn=>?_⟩
   ·show w.heap.size<=(w.heap.modify g _).size
    simp
   ·show (w.heap.modify g _)[j]?=w.heap[j]?
    rw [Aqi,if_neg (fun h=>hn h.symm)]
noncomputable def Zgk:Zd:=⟨[.one (.P)],[.one (.S)],fun t K _ h=>Zae t.1 (fun r0 h=>K (r0,()) h) h⟩
theorem ZfU:Zj Tryz.prog 115 Zgk where
  named:=⟨_,Tryz.func115,by kernel_rfl,by kernel_rfl⟩
  calls t K Kp w hk:=by
    obtain ⟨p,u⟩:=t
    obtain ⟨b,c,x,T,hp,hb,hk⟩:=hk
    obtain ⟨xp,xl,xc⟩:=x
    dsimp only at hp hb hk
    subst hp
    rcases hk with ⟨rfl,rfl,rfl,hk⟩ | ⟨g,s,cur,fz,rfl,hne,rfl,h0,hn,hc,hm,hg,hs,hk⟩
    ·refine (ZqU hb).mono ?_
     rintro e w' ⟨rfl,rfl⟩
     exact .inl ⟨(_,()),rfl,⟨rfl,rfl,rfl⟩,hk⟩
    ·have hlen:s.data.toList.length=s.size:=by simp
     rw [<- hlen] at hb
     refine (Ztu hb hg (fun h9=>h0 (by rw [<- hlen,h9];rfl)) (by omega) hc hm fun j x hx=>?_).mono ?_
     ·have:=ZhH hs (i:=j) (v:= .int .u8 x.toNat) (by unfold Zba;rw [Awz,hx];rfl)
      have e:((⟨g,0,none⟩:Addr).add j)=⟨g,0+j,none⟩:=Zkl g 0 j
      rw [e,ZiQ]
      exact this
     ·rintro e w' ⟨rfl,rfl⟩
      exact .inl ⟨(_,()),rfl,ZqW,hk _ Zto⟩
end Go.Proofs.YtpjbjdheeemdiaaGreatDoor
