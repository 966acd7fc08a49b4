/- That each function does what its model says. Written by a program out of the translated functions. -/
import Derived.Test.YtpjbjdheeemdiaaGreatDoorProg
import Derived.KernelRfl
import Derived.Recover
import Derived.Tactics2
import Derived.Below
import Derived.Test.YtpjbjdheeemdiaaGreatDoorRows
import Derived.Deep.Slices
import Derived.ChangeSlices
import Derived.Test.YtpjbjdheeemdiaaGreatDoorPa7
set_option linter.unusedVariables false
set_option linter.unusedSimpArgs false
namespace Go.Proofs.YtpjbjdheeemdiaaGreatDoor
open Go Go.Fw
noncomputable section
theorem Zp:Tryz.prog.follows .mixedOrders=true:=by kernel_rfl
abbrev zk1 (f:zT1):Zh:=⟨[.one (.P)],[],fun t K _ h=>f t.1 (fun h=>K (()) h) h⟩
abbrev zc1 (f0:zT0):Cfg:=ZW Tryz.prog [(171,⟨[.one (.S),.one (.I .u8)],[.one (.I .i64)],fun t K _ h=>f0 t.1 t.2.1 (fun r0 h=>K (r0,()) h) h⟩)] 32 [] [] [] ZY
theorem zr1 (f0:zT0):Z3 (zc1 f0) Tryz.f97 (.block (.loop [] [] [(2,31)] (.leaf))) (zk1 (ZbE f0)):=fun _ _ _ _=>by kernel_rfl
theorem zo1:Zo Tryz.prog 97 (zk1 ZK):=okF (zr1 Yz) Tryz.func97 Zp (ZG _ (.cons Zbw .nil) .nil .nil .nil (ZF _))
abbrev zk2 (f:zT2):Zh:=⟨[.one (.P)],[.one (.I .u8)],fun t K _ h=>f t.1 (fun r0 h=>K (r0,()) h) h⟩
abbrev zc2:Cfg:=ZW Tryz.prog [] 22 [] [] [] ZY
theorem zr2:Z3 (zc2) Tryz.f166 (.leaf) (zk2 Zcs):=fun _ _ _ _=>by kernel_rfl
theorem zo2:Zo Tryz.prog 166 (zk2 Zv):=okF (zr2) Tryz.func166 Zp (ZG _ .nil .nil .nil .nil (ZF _))
abbrev zk3 (f:zT3):Zh:=⟨[.one (.P),.one (.I .i64),.one (.I .i64)],[],fun t K Kp h=>f t.1 t.2.1 t.2.2.1 (fun h=>K (()) h) Kp h⟩
abbrev zc3:Cfg:=ZW Tryz.prog [] 24 [] [] [] ZY
theorem zr3:Z3 (zc3) Tryz.f98 (.leaf) (zk3 Zae):=fun _ _ _ _=>by kernel_rfl
theorem zo3:Zo Tryz.prog 98 (zk3 Zq):=okF (zr3) Tryz.func98 Zp (ZG _ .nil .nil .nil .nil (ZF _))
abbrev zk6 (f:zT6):Zh:=⟨[.one (.P),.one (.I .u8)],[.one (.V)],fun t K _ h=>f t.1 t.2.1 (fun r0 h=>K (r0,()) h) h⟩
abbrev zc6 (f5:zT5):Cfg:=ZW Tryz.prog [(251,⟨[.one (.P)],[],fun t K _ h=>f5 t.1 (fun h=>K (()) h) h⟩)] 17 [] [] [] ZY
theorem zr6 (f5:zT5):Z3 (zc6 f5) Tryz.f184 (.leaf) (zk6 (Y2 f5)):=fun _ _ _ _=>by kernel_rfl
theorem zo6:Zo Tryz.prog 184 (zk6 ZA):=okF (zr6 ZN) Tryz.func184 Zp (ZG _ (.cons XD .nil) .nil .nil .nil (ZF _))
abbrev zk7 (f:zT7):Zh:=⟨[.one (.P)],[.one (.I .i32)],fun t K Kp h=>f t.1 (fun r0 h=>K (r0,()) h) Kp h⟩
abbrev zc7 (f2:zT2) (f3:zT3):Cfg:=ZW Tryz.prog [(166,zk2 f2),(98,zk3 f3)] 65 [] [] [] ZY
theorem zr7 (f2:zT2) (f3:zT3):Z3 (zc7 f2 f3) Tryz.f297 (.seq (.leaf) (.seq (.leaf) (.seq (.seq (.leaf) (.block (.loop [3,5] [.one (.I .i32),.one (.I .i64)] [(4,4),(6,63)] (.seq (.leaf) (.seq (.leaf) (.seq (.block (.seq (.leaf) (.cut [3] [.one (.I .i32)] [(9,55)] (.block (.cut [15] [.one (.B)] [(16,21)] (.leaf) (.leaf))) (.leaf)))) (.leaf))))))) (.leaf)))) (zk7 (ZcF f2 f3)):=fun _ _ _ _=>by kernel_rfl
theorem zo7:Zo Tryz.prog 297 (zk7 Zas):=okF (zr7 Zv Zq) Tryz.func297 Zp (ZG _ (.cons zo2 (.cons zo3 .nil)) .nil .nil .nil (ZF _))
abbrev zk8 (f:zT8):Zh:=⟨[.one (.S),.one (.S)],[.one (.B)],fun t K _ h=>f t.1 t.2.1 (fun r0 h=>K (r0,()) h) h⟩
abbrev zc8:Cfg:=ZW Tryz.prog [] 18 [] [] [] ZY
theorem zr8:Z3 (zc8) Tryz.f249 (.leaf) (zk8 Yx):=fun _ _ _ _=>by kernel_rfl
theorem zo8:Zo Tryz.prog 249 (zk8 ZC):=okF (zr8) Tryz.func249 Zp (ZG _ .nil .nil .nil .nil (ZF _))
abbrev zk9 (f:zT9):Zh:=⟨[.one (.S),.one (.S)],[.one (.B)],fun t K _ h=>f t.1 t.2.1 (fun r0 h=>K (r0,()) h) h⟩
abbrev zc9 (f8:zT8):Cfg:=ZW Tryz.prog [(249,zk8 f8)] 8 [] [] [] ZY
theorem zr9 (f8:zT8):Z3 (zc9 f8) Tryz.f196 (.leaf) (zk9 (ZbT f8)):=fun _ _ _ _=>by kernel_rfl
theorem zo9:Zo Tryz.prog 196 (zk9 XN):=okF (zr9 ZC) Tryz.func196 Zp (ZG _ (.cons zo8 .nil) .nil .nil .nil (ZF _))
abbrev ZxU (f:Zvy):Zh:=⟨[.one (.L),.one (.I .i32)],[.one (.L)],fun t K _ h=>f t.1 t.2.1 (fun r0 h=>K (r0,()) h) h⟩
abbrev ZCz:Cfg:=ZW Tryz.prog [] 78 [] [] [] ZY
theorem ZAq:Z3 (ZCz) Tryz.f325 (.seq (.leaf) (.seq (.leaf) (.block (.seq (.leaf) (.cond (.leaf) (.cut [25] [.one (.B)] [(26,33)] (.leaf) (.leaf))))))) (ZxU Y1):=fun _ _ _ _=>by kernel_rfl
theorem ZBo:Zo Tryz.prog 325 (ZxU Yr):=okF (ZAq) Tryz.func325 Zp (ZG _ .nil .nil .nil .nil (ZF _))
abbrev ZxT (f:Zvw):Zh:=⟨[.one (.L),.one (.I .i32)],[.one (.L)],fun t K _ h=>f t.1 t.2.1 (fun r0 h=>K (r0,()) h) h⟩
abbrev ZCy (f10:Zvy):Cfg:=ZW Tryz.prog [(325,ZxU f10)] 16 [] [] [] ZY
theorem ZAp (f10:Zvy):Z3 (ZCy f10) Tryz.f309 (.leaf) (ZxT (Zai f10)):=fun _ _ _ _=>by kernel_rfl
theorem ZBn:Zo Tryz.prog 309 (ZxT YK):=okF (ZAp Yr) Tryz.func309 Zp (ZG _ (.cons ZBo .nil) .nil .nil .nil (ZF _))
abbrev ZxS (f:Zvv):Zh:=⟨[.one (.P),.one (.I .i32)],[.one (.I .i64),.one (.V)],fun t K _ h=>f t.1 t.2.1 (fun r0 r1 h=>K (r0,r1,()) h) h⟩
abbrev ZCx (f5:zT5) (f11:Zvw):Cfg:=ZW Tryz.prog [(251,⟨[.one (.P)],[],fun t K _ h=>f5 t.1 (fun h=>K (()) h) h⟩),(309,ZxT f11)] 30 [] [] [] ZY
theorem ZAo (f5:zT5) (f11:Zvw):Z3 (ZCx f5 f11) Tryz.f255 (.leaf) (ZxS (XR f5 f11)):=fun _ _ _ _=>by kernel_rfl
theorem ZBm:Zo Tryz.prog 255 (ZxS YA):=okF (ZAo ZN YK) Tryz.func255 Zp (ZG _ (.cons XD (.cons ZBn .nil)) .nil .nil .nil (ZF _))
abbrev ZxR (f:Zvu):Zh:=⟨[.one (.P),.one (.P)],[],fun t K Kp h=>f t.1 t.2.1 (fun h=>K (()) h) Kp h⟩
abbrev ZCw (f2:zT2) (f0:zT0) (f6:zT6) (f3:zT3) (f7:zT7) (f9:zT9) (f12:Zvv):Cfg:=ZW Tryz.prog [(166,zk2 f2),(171,⟨[.one (.S),.one (.I .u8)],[.one (.I .i64)],fun t K _ h=>f0 t.1 t.2.1 (fun r0 h=>K (r0,()) h) h⟩),(184,zk6 f6),(98,zk3 f3),(297,zk7 f7),(196,zk9 f9),(255,ZxS f12)] 114 [] [] [] ZY
theorem ZAn (f2:zT2) (f0:zT0) (f6:zT6) (f3:zT3) (f7:zT7) (f9:zT9) (f12:Zvv):Z3 (ZCw f2 f0 f6 f3 f7 f9 f12) Tryz.f240 (.seq (.leaf) (.cut [] [] [(5,5),(11,37)] (.leaf) (.cut [] [] [(38,45)] (.leaf) (.seq (.leaf) (.seq (.leaf) (.cut [] [] [(7,8),(55,104)] (.cut [72] [.one (.B)] [(55,71)] (.leaf) (.leaf)) (.cut [6] [.one (.I .i32)] [(105,110)] (.leaf) (.leaf)))))))) (ZxR (ZbC f2 f0 f6 f3 f7 f9 f12)):=fun _ _ _ _=>by kernel_rfl
theorem ZBl:Zo Tryz.prog 240 (ZxR XA):=okF (ZAn Zv Yz ZA Zq Zas XN YA) Tryz.func240 Zp (ZG _ (.cons zo2 (.cons Zbw (.cons zo6 (.cons zo3 (.cons zo7 (.cons zo9 (.cons ZBm .nil))))))) .nil .nil .nil (ZF _))
abbrev ZxQ (f:Zvt):Zh:=⟨[.one (.S)],[.one (.B)],fun t K _ h=>f t.1 (fun r0 h=>K (r0,()) h) h⟩
abbrev ZCv (f14:Zyb) (f15:Zo4):Cfg:=ZW Tryz.prog [(323,⟨[.one (.S)],[.one (.I .i64)],fun t K _ h=>f14 t.1 (fun r0 h=>K (r0,()) h) h⟩),(163,⟨[.one (.S)],[.one (.B)],fun t K _ h=>f15 t.1 (fun r0 h=>K (r0,()) h) h⟩)] 64 [] [] [] ZY
theorem ZAm (f14:Zyb) (f15:Zo4):Z3 (ZCv f14 f15) Tryz.f298 (.seq (.leaf) (.seq (.seq (.leaf) (.block (.loop [11] [.one (.I .i64)] [(2,2),(4,8),(12,56)] (.seq (.leaf) (.seq (.leaf) (.seq (.block (.seq (.leaf) (.seq (.seq (.leaf) (.block (.loop [5] [.one (.I .i64)] [(2,2),(6,7),(17,36)] (.leaf)))) (.leaf)))) (.leaf))))))) (.leaf))) (ZxQ (Zd9 f14 f15)):=fun _ _ _ _=>by kernel_rfl
theorem ZBk:Zo Tryz.prog 298 (ZxQ Zck):=okF (ZAm Yv ZL) Tryz.func298 Zp (ZG _ (.cons Zch (.cons YV .nil)) .nil .nil .nil (ZF _))
abbrev ZuP (f:Zpd):Zh:=⟨[.one (.P),.one (.S)],[.one (.I .i64),.one (.V)],fun t K _ h=>f t.1 t.2.1 (fun r0 r1 h=>K (r0,r1,()) h) h⟩
abbrev ZCu (f5:zT5):Cfg:=ZW Tryz.prog [(251,⟨[.one (.P)],[],fun t K _ h=>f5 t.1 (fun h=>K (()) h) h⟩)] 19 [] [] [] ZY
theorem ZAl (f5:zT5):Z3 (ZCu f5) Tryz.f183 (.leaf) (ZuP (YM f5)):=fun _ _ _ _=>by kernel_rfl
theorem Zw4:Zo Tryz.prog 183 (ZuP Zz):=okF (ZAl ZN) Tryz.func183 Zp (ZG _ (.cons XD .nil) .nil .nil .nil (ZF _))
abbrev ZxP (f:Zvs):Zh:=⟨[.one (.P),.one (.P)],[],fun t K Kp h=>f t.1 t.2.1 (fun h=>K (()) h) Kp h⟩
abbrev ZCt (f3:zT3) (f16:Zvt) (f15:Zo4) (f17:Zpd):Cfg:=ZW Tryz.prog [(98,zk3 f3),(298,ZxQ f16),(163,⟨[.one (.S)],[.one (.B)],fun t K _ h=>f15 t.1 (fun r0 h=>K (r0,()) h) h⟩),(183,ZuP f17)] 67 [] [] [] ZY
theorem ZAk (f3:zT3) (f16:Zvt) (f15:Zo4) (f17:Zpd):Z3 (ZCt f3 f16 f15 f17) Tryz.f241 (.seq (.leaf) (.block (.loop [4] [.one (.I .i64)] [(5,66)] (.seq (.block (.cut [] [] [(8,26)] (.leaf) (.seq (.leaf) (.cut [] [] [(42,53)] (.leaf) (.leaf))))) (.leaf))))) (ZxP (ZbY f3 f16 f15 f17)):=fun _ _ _ _=>by kernel_rfl
theorem ZBj:Zo Tryz.prog 241 (ZxP XP):=okF (ZAk Zq Zck ZL Zz) Tryz.func241 Zp (ZG _ (.cons zo3 (.cons ZBk (.cons YV (.cons Zw4 .nil)))) .nil .nil .nil (ZF _))
abbrev ZwB (f:ZsQ):Zh:=⟨[.one (.P)],[.one (.S)],fun t K Kp h=>f t.1 (fun r0 h=>K (r0,()) h) Kp h⟩
abbrev ZCs (f2:zT2) (f3:zT3) (f4:zT4) (f13:Zvu) (f6:zT6) (f18:Zvs):Cfg:=ZW Tryz.prog [(166,zk2 f2),(98,zk3 f3),(115,⟨[.one (.P)],[.one (.S)],fun t K _ h=>f4 t.1 (fun r0 h=>K (r0,()) h) h⟩),(240,ZxR f13),(184,zk6 f6),(241,ZxP f18)] 72 [] [] [] ZY
theorem ZAj (f2:zT2) (f3:zT3) (f4:zT4) (f13:Zvu) (f6:zT6) (f18:Zvs):Z3 (ZCs f2 f3 f4 f13 f6 f18) Tryz.f168 (.seq (.leaf) (.seq (.leaf) (.seq (.leaf) (.block (.loop [] [] [(2,2),(4,4),(12,71)] (.block (.seq (.leaf) (.block (.cut [16] [.one (.B)] [(17,30)] (.leaf) (.leaf)))))))))) (ZwB (Zcq f2 f3 f4 f13 f6 f18)):=fun _ _ _ _=>by kernel_rfl
theorem Zy3:Zo Tryz.prog 168 (ZwB Y0):=okF (ZAj Zv Zq Yt XA ZA XP) Tryz.func168 Zp (ZG _ (.cons zo2 (.cons zo3 (.cons ZbI (.cons ZBl (.cons zo6 (.cons ZBj .nil)))))) .nil .nil .nil (ZF _))
abbrev Zrp (f:Zj4):Zh:=⟨[.one (.P),.one (.I .i64)],[.agg [.I .u8,.S,.L,.L]],fun t K Kp h=>f t.1 t.2.1 (fun r0 h=>K (r0,()) h) Kp h⟩
abbrev ZxO (f:Zvr):Zh:=⟨[.one (.P),.one (.P),.one (.I .i64)],[],fun t K Kp h=>f t.1 t.2.1 t.2.2.1 (fun h=>K (()) h) Kp h⟩
abbrev ZCq (f1:zT1) (f2:zT2) (f3:zT3) (f19:ZsQ) (f20:Zj4):Cfg:=ZW Tryz.prog [(97,zk1 f1),(166,zk2 f2),(98,zk3 f3),(168,ZwB f19),(96,Zrp f20)] 66 [] [] [] ZY
theorem ZAh (f1:zT1) (f2:zT2) (f3:zT3) (f19:ZsQ) (f20:Zj4):Z3 (ZCq f1 f2 f3 f19 f20) Tryz.f239 (.seq (.leaf) (.cut [] [] [(8,50)] (.seq (.leaf) (.cond (.cut [] [] [(13,21)] (.leaf) (.seq (.order (.take 0 (.take 1 (.take 2 (.take 3 (.take 5 (.take 4 (.take 6 (.take 7 (.take 8 (.take 9 (.take 10 (.take 11 .done))))))))))))) (.seq (.leaf) (.cut [] [] [(35,43)] (.leaf) (.leaf))))) (.leaf))) (.seq (.order (.take 0 (.take 1 (.take 2 (.take 4 (.take 5 (.take 3 (.take 7 (.fork 6 (.take 8 (.take 9 (.take 10 (.take 12 (.take 13 (.fork 11 (.take 14 .done) 14 (.take 11 .done))))))) 8 (.take 6 (.take 9 (.take 10 (.take 12 (.take 13 (.fork 11 (.take 14 .done) 14 (.take 11 .done)))))))))))))))) (.leaf)))) (ZxO (Zcr f1 f2 f3 f19 f20)):=fun _ _ _ _=>by kernel_rfl
theorem ZAG (f20:Zj4) (hH:Zo Tryz.prog 96 (Zrp f20)):Zo Tryz.prog 239 (ZxO (X8 f20)):=okF (ZAh ZK Zv Zq Y0 f20) Tryz.func239 Zp (ZG _ (.cons zo1 (.cons zo2 (.cons zo3 (.cons Zy3 (.cons hH .nil))))) .nil .nil .nil (ZF _)) (hlen:=Nat.le_of_ble_eq_true rfl)
abbrev ZxN (f:Zvq):Zh:=⟨[.one (.P),.one (.I .u8),.one (.I .u8),.one (.I .i64)],[.agg [.I .u8,.S,.L,.L]],fun t K Kp h=>f t.1 t.2.1 t.2.2.1 t.2.2.2.1 (fun r0 h=>K (r0,()) h) Kp h⟩
abbrev ZCp (f3:zT3) (f1:zT1) (f2:zT2) (f21:Zvr):Cfg:=ZW Tryz.prog [(98,zk3 f3),(97,zk1 f1),(166,zk2 f2),(239,ZxO f21)] 77 [] [] [] ZY
theorem ZAg (f3:zT3) (f1:zT1) (f2:zT2) (f21:Zvr):Z3 (ZCp f3 f1 f2 f21) Tryz.f167 (.seq (.leaf) (.cut [] [] [(10,17)] (.leaf) (.seq (.leaf) (.seq (.leaf) (.seq (.leaf) (.seq (.block (.loop [] [] [(29,68)] (.cut [] [] [(29,44)] (.leaf) (.block (.cut [] [] [(45,64)] (.seq (.leaf) (.cond (.cut [] [] [(49,57)] (.leaf) (.leaf)) (.leaf))) (.leaf)))))) (.leaf))))))) (ZxN (ZaK f3 f1 f2 f21)):=fun _ _ _ _=>by kernel_rfl
theorem ZAF (f20:Zj4) (hH:Zo Tryz.prog 96 (Zrp f20)):Zo Tryz.prog 167 (ZxN (Yy f20)):=okF (ZAg Zq ZK Zv (X8 f20)) Tryz.func167 Zp (ZG _ (.cons zo3 (.cons zo1 (.cons zo2 (.cons (ZAG f20 hH) .nil)))) .nil .nil .nil (ZF _)) (hlen:=Nat.le_of_ble_eq_true rfl)
abbrev ZxM (f:Zvp):Zh:=⟨[.one (.P),.one (.S),.one (.I .u8)],[.agg [.I .u8,.S,.L,.L]],fun t K Kp h=>f t.1 t.2.1 t.2.2.1 (fun r0 h=>K (r0,()) h) Kp h⟩
abbrev ZCo (f2:zT2) (f3:zT3):Cfg:=ZW Tryz.prog [(166,zk2 f2),(98,zk3 f3)] 47 [] [] [] ZY
theorem ZAf (f2:zT2) (f3:zT3):Z3 (ZCo f2 f3) Tryz.f169 (.seq (.leaf) (.seq (.seq (.leaf) (.block (.loop [10] [.one (.I .i64)] [(7,7),(11,44)] (.seq (.leaf) (.seq (.leaf) (.seq (.block (.seq (.leaf) (.cut [] [] [(13,36)] (.leaf) (.leaf)))) (.leaf))))))) (.leaf))) (ZxM (Zcp f2 f3)):=fun _ _ _ _=>by kernel_rfl
theorem ZBh:Zo Tryz.prog 169 (ZxM Zaa):=okF (ZAf Zv Zq) Tryz.func169 Zp (ZG _ (.cons zo2 (.cons zo3 .nil)) .nil .nil .nil (ZF _))
abbrev ZxL (f:Zvo):Zh:=⟨[.one (.P)],[],fun t K Kp h=>f t.1 (fun h=>K (()) h) Kp h⟩
abbrev ZCn (f2:zT2) (f3:zT3):Cfg:=ZW Tryz.prog [(166,zk2 f2),(98,zk3 f3)] 35 [] [] [] ZY
theorem ZAe (f2:zT2) (f3:zT3):Z3 (ZCn f2 f3) Tryz.f242 (.cut [] [] [(2,2),(4,17)] (.leaf) (.seq (.leaf) (.block (.loop [3] [.one (.I .u8)] [(20,34)] (.leaf))))) (ZxL (ZbD f2 f3)):=fun _ _ _ _=>by kernel_rfl
theorem ZBg:Zo Tryz.prog 242 (ZxL Yb):=okF (ZAe Zv Zq) Tryz.func242 Zp (ZG _ (.cons zo2 (.cons zo3 .nil)) .nil .nil .nil (ZF _))
abbrev ZxK (f:Zvn):Zh:=⟨[.one (.P)],[.agg [.I .u8,.S,.L,.L]],fun t K Kp h=>f t.1 (fun r0 h=>K (r0,()) h) Kp h⟩
abbrev ZCm (f2:zT2) (f3:zT3) (f24:Zvo):Cfg:=ZW Tryz.prog [(166,zk2 f2),(98,zk3 f3),(242,ZxL f24)] 102 [] [] [] ZY
theorem ZAd (f2:zT2) (f3:zT3) (f24:Zvo):Z3 (ZCm f2 f3 f24) Tryz.f170 (.seq (.leaf) (.seq (.leaf) (.cut [] [] [(11,20)] (.leaf) (.cut [] [] [(4,4),(21,46)] (.leaf) (.cut [] [] [(47,58)] (.leaf) (.cut [] [] [(5,6),(59,90)] (.leaf) (.seq (.order (.take 0 (.take 1 (.take 2 (.take 4 (.take 5 (.take 6 (.take 7 (.take 3 (.take 8 (.take 9 (.take 10 (.take 11 .done))))))))))))) (.leaf)))))))) (ZxK (ZbB f2 f3 f24)):=fun _ _ _ _=>by kernel_rfl
theorem ZBf:Zo Tryz.prog 170 (ZxK Y6):=okF (ZAd Zv Zq Yb) Tryz.func170 Zp (ZG _ (.cons zo2 (.cons zo3 (.cons ZBg .nil))) .nil .nil .nil (ZF _))
abbrev ZCr (f1:zT1) (f2:zT2) (f3:zT3) (f22:Zvq) (f19:ZsQ) (f23:Zvp) (f25:Zvn):Cfg:=ZW Tryz.prog [(97,zk1 f1),(166,zk2 f2),(98,zk3 f3),(167,ZxN f22),(168,ZwB f19),(169,ZxM f23),(170,ZxK f25)] 80 [] [] [] ZY
theorem ZAi (f1:zT1) (f2:zT2) (f3:zT3) (f22:Zvq) (f19:ZsQ) (f23:Zvp) (f25:Zvn):Z3 (ZCr f1 f2 f3 f22 f19 f23 f25) Tryz.f96 (.seq (.leaf) (.seq (.leaf) (.cut [] [] [(5,5),(8,72)] (.leaf) (.leaf)))) (Zrp (ZbX f1 f2 f3 f22 f19 f23 f25)):=fun _ _ _ _=>by kernel_rfl
theorem ZAH (f20:Zj4) (hH:Zo Tryz.prog 96 (Zrp f20)):Zo Tryz.prog 96 (Zrp (Zaz f20)):=okF (ZAi ZK Zv Zq (Yy f20) Y0 Zaa Y6) Tryz.func96 Zp (ZG _ (.cons zo1 (.cons zo2 (.cons zo3 (.cons (ZAF f20 hH) (.cons Zy3 (.cons ZBh (.cons ZBf .nil))))))) .nil .nil .nil (ZF _)) (hlen:=Nat.le_of_ble_eq_true rfl)
theorem ZyR:∀ n,Zo Tryz.prog 96 (Zrp (YQ n))
 | 0=>ZcC Tryz.func96 (by kernel_rfl) (by kernel_rfl) fun _ _ _ _ h=>h
 | n+1=>ZAH _ (ZyR n)
theorem ZBi:Zo Tryz.prog 96 (Zrp ZaD):=ZgI ZyR
def sq1:Code→Code
  | .seq x _=>x
  | c=>c
def sq2:Code→Code
  | .seq _ y=>y
  | c=>c
def ZrS:Code:=Tryz.f25.body.getD .skip
def pA:Code:=sq1 ZrS
def pB:Code:=sq1 (sq2 ZrS)
def pR:Code:=sq2 (sq2 (sq2 ZrS))
def pD:Code:=sq1 (sq2 (sq2 ZrS))
theorem ZrR:Tryz.f25.body=some (.seq pA (.seq pB (.seq pD pR))):=by kernel_rfl
abbrev Zlm:List VT:=[.agg [.I .u8,.S,.L,.L],.one (.I .i64),.one (.I .i64)]
def ZrT (p:Value→HP):Cfg:={ ZW Tryz.prog [(96,Zrp ZaD),(97,zk1 ZK),(98,zk3 Zq)] 32 [] [] [] ZY with pan:=p,rnd:=none }
theorem Zmv (p:Value→HP):(ZrT p).OK:=(ZG (ZW Tryz.prog [(96,Zrp ZaD),(97,zk1 ZK),(98,zk3 Zq)] 32 [] [] [] ZY) (.cons ZBi (.cons zo1 (.cons zo3 .nil))) .nil .nil .nil (ZF _)).at none p
def Zrr (K:Xg Zlm→HP) (e:Env) (h:Zc):Prop:=Zo5 (ZrT fun _ _=>False) e h Tryz.f25.results.toList fun vs=>match Xg.un Zlm vs with
  | some r=>K r h
  | none=>False
def ZuA (b2 b3 b4:Nat):Env:=⟨fun j=>bif Nat.beq j 2 then some (.adr b2 0) else bif Nat.beq j 3 then some (.adr b3 0) else bif Nat.beq j 4 then some (.adr b4 0) else none,.no⟩
def Zyg (b2 b3 b4:Nat) (E:HP) (v:Value) (h:Zc):Prop:=∃ e n,v = .iface 160 (.agg #[.int .i64 e,.int .i64 n])∧ZwH b2 b3 b4 e n E h
def clo (b2 b3 b4:Nat):Deferred:={ target:= .fn (.func 95) #[.pointer (some ⟨b2,0,none⟩),.pointer (some ⟨b3,0,none⟩),.pointer (some ⟨b4,0,none⟩)],args:= #[]}
def Zy8 (e:Env) (b2 b3 b4:Nat):Env:=⟨fun j=>bif Nat.beq j 10 then none else e.f j,.raw [clo b2 b3 b4]⟩
def prd (s:ByteArray) (K:Xg Zlm→HP) (h:Zc):Prop :=
  wpC (ZrT fun _ _=>False) (.seq pA pB) .leaf (ZfP [.val (.string s)]) h fun x e h'=>match x with
    | .ret=>Zrr K e h'
    | .normal=>match e.f 2,e.f 3,e.f 4 with
      | some (.adr b2 0),some (.adr b3 0),some (.adr b4 0)=>wpC (ZrT (Zyg b2 b3 b4 (Zrr K (ZuA b2 b3 b4)))) pR .leaf (Zy8 e b2 b3 b4) h' fun x e2 h2=>match x with
          | .normal=>Zrr K e2 h2
          | .ret=>Zrr K e2 h2
          | .exit _=>False
      | _,_,_=>False
    | .exit _=>False
theorem Zmr {e:Env} {a:Act} {w:World} {K:Xg Zlm→HP} (hag:∀ j v,e j=some v→a.tmps[j]?=some v.v) (h:Zrr K e w.heap):∃ v,(results Tryz.f25 a.tmps).run Tryz.prog w = .ok v w∧∃ r,v=Zs1 Zlm r∧K r w.heap:=by
  have hag':Agr a.tmps.size ⟨e.f,.raw a.defers⟩ a:=⟨rfl,rfl,hag⟩
  have h':Zo5 { ZrT (fun _ _=>False) with n:=a.tmps.size } ⟨e.f,.raw a.defers⟩ w.heap Tryz.f25.results.toList fun vs=>match Xg.un Zlm vs with
    | some r=>K r w.heap
    | none=>False:=h
  obtain ⟨vs,hr,hk⟩:=ZfY (c:={ ZrT (fun _ _=>False) with n:=a.tmps.size }) (f:=fun
    | .tmp t=>pure (a.tmps.getD t undef)
    | .cell x t=>do loadVar t (← asAddr (a.tmps.getD x undef))) hag' (fun _=>rfl) (fun _ _=>rfl) h'
  split at hk
  ·rename_i r hun
   refine ⟨Zs1 Zlm r,?_,r,rfl,hk⟩
   unfold results
   rw [Array.mapM_eq_mapM_toList]
   simp only [Sem.run_bind,Sem.run_map]
   refine (congrArg (fun r=>(Result.andThen (Result.andThen r _) _)) hr).trans ?_
   simp only [Result.andThen_ok,Sem.run_pure]
   rw [ZpY hun]
   exact congrArg (fun v=>Result.ok v w) (Zla _)
  ·exact hk.elim
def Zwf:Code:=Tryz.f95.body.getD .skip
def cl1:Code:=sq1 Zwf
def cl2:Code:=sq2 Zwf
theorem ZnV:Tryz.f95.body=some (.seq cl1 cl2):=by kernel_rfl
def ZwJ:Ann:= .block (.seq (.leaf) (.cond (.leaf) (.seq (.leaf) (.cond (.seq (.leaf) (.order (.take 0 (.take 1 (.take 3 (.take 2 (.take 4 (.take 5 (.take 6 (.take 7 .done)))))))))) (.leaf)))))
def Zuk:Cfg:={ ZW Tryz.prog [] 17 [] [] [] ZY with pan:=fun _ _=>False,rnd:=none }
theorem Zq6:Zuk.OK:=(ZG (ZW Tryz.prog [] 17 [] [] [] ZY) .nil .nil .nil .nil (ZF _)).at none _
def ptr (b:Nat):Value:= .pointer (some ⟨b,0,none⟩)
def ZuB (b2 b3 b4:Nat) (v:Value):Env:=⟨fun j=>bif Nat.beq j 0 then some (.val (.pointer (some ⟨b2,0,none⟩))) else bif Nat.beq j 1 then some (.val (.pointer (some ⟨b3,0,none⟩))) else bif Nat.beq j 2 then some (.val (.pointer (some ⟨b4,0,none⟩))) else bif Nat.beq j 6 then some (.val v) else none,.no⟩
theorem ZjT {b2 b3 b4:Nat} {x:Value} {j:Nat} {v:EV} (h:(ZuB b2 b3 b4 x).f j=some v):(j=0∧v = .val (ptr b2))∨(j=1∧v = .val (ptr b3))∨(j=2∧v = .val (ptr b4))∨(j=6∧v = .val x):=by
  unfold ZuB at h
  dsimp only at h
  cases h0:Nat.beq j 0 with
  | true=>rw [h0] at h;cases h;exact .inl ⟨Nat.eq_of_beq_eq_true h0,rfl⟩
  | false =>
    rw [h0] at h
    cases h1:Nat.beq j 1 with
    | true=>rw [h1] at h;cases h;exact .inr (.inl ⟨Nat.eq_of_beq_eq_true h1,rfl⟩)
    | false =>
      rw [h1] at h
      cases h2:Nat.beq j 2 with
      | true=>rw [h2] at h;cases h;exact .inr (.inr (.inl ⟨Nat.eq_of_beq_eq_true h2,rfl⟩))
      | false =>
        rw [h2] at h
        cases h6:Nat.beq j 6 with
        | true=>rw [h6] at h;cases h;exact .inr (.inr (.inr ⟨Nat.eq_of_beq_eq_true h6,rfl⟩))
        | false=>rw [h6] at h;cases h
def ZrW (E:HP):Ex→Env→Zc→Prop
  | .normal,_,h=>E h
  | _,_,_=>False
theorem rdC (b2 b3 b4:Nat) (e n:Int) (E:HP) (h:Zc):wpC Zuk cl2 ZwJ (ZuB b2 b3 b4 (.iface 160 (.agg #[.int .i64 e,.int .i64 n]))) h (ZrW E)=ZwH b2 b3 b4 e n E h:=by kernel_rfl
theorem Ztg:cl1 = .region 0 #[⟨some 6,.call ⟨.builtin .recover,#[],#[]⟩,20, "json.go:273", #[],none⟩] false:=by kernel_rfl
theorem Zqg {l:List Nat} (h:ZiN l mkN=false):mkN∉l:=by
  induction l with
  | nil=>intro h9;cases h9
  | cons x xs ih =>
    intro h9
    simp only [ZiN] at h
    cases hx:Nat.beq mkN x with
    | true=>rw [hx] at h;cases h
    | false =>
      rw [hx] at h
      rcases List.mem_cons.1 h9 with h9 | h9
      ·rw [← h9,Nat.beq_refl] at hx;cases hx
      ·exact ih h h9
set_option maxRecDepth 100000 in
theorem ZmT {b2 b3 b4:Nat} {e n:Int} {E:HP} {w:World} (hk:ZwH b2 b3 b4 e n E w.heap) :
    CallsD Tryz.prog 95 #[ptr b2,ptr b3,ptr b4] (.panicking [{ v:= .iface 160 (.agg #[.int .i64 e,.int .i64 n]),recovered:=false }]) w fun e' u' w' =>
      e' = .returned (.tuple #[])∧u' = .panicking [{ v:= .iface 160 (.agg #[.int .i64 e,.int .i64 n]),recovered:=true }]∧Fw.Same w w'∧E w'.heap:=by
  refine callsD_of_wpS Tryz.func95 ZnV fun c₀ cs hu=>?_
  apply wpS_seq
  rw [Ztg]
  apply wpS_region
  simp [wpOpsS,go_sem,recoverD,hu,Tryz.ntmps95,Exit.thenS]
  refine wpS_of_wp ((wpIn_wide (n:=0)).1 (wpIn_mono (Xy cl2 Zuk Zq6 Zp ZwJ (ZuB b2 b3 b4 (.iface 160 (.agg #[.int .i64 e,.int .i64 n]))) _ w (ZrW E) ?_ (by rw [rdC];exact hk)) ?_))
  ·refine ⟨by simp [Zuk,ZW,ptr],rfl,fun j v hj=>?_⟩
   have hv:(j=0∧v = .val (ptr b2))∨(j=1∧v = .val (ptr b3))∨(j=2∧v = .val (ptr b4))∨(j=6∧v = .val (.iface 160 (.agg #[.int .i64 e,.int .i64 n]))):=ZjT hj
   rcases hv with ⟨rfl,rfl⟩ | ⟨rfl,rfl⟩ | ⟨rfl,rfl⟩ | ⟨rfl,rfl⟩<;>simp [EV.v,Array.getElem?_append]
  ·intro ex a' w' hp
   cases ex with
   | normal =>
     obtain ⟨e',h1,h2,h3,h4⟩:=hp
     have hd:=h3.2 (Zqg (by kernel_rfl))
     exact ⟨hd,_,rfl,.tuple #[],by simp [results,Tryz.results95],rfl,rfl,h2,h4⟩
   | ret=>obtain ⟨e',h1,h2,h3,h4⟩:=hp;exact h4.elim
   | exit id=>obtain ⟨e',h1,h2,h3,h4⟩:=hp;exact h4.elim
   | goto t=>exact hp.elim
   | outgrown=>exact hp.elim
   | panic ch=>obtain ⟨v,h1,h2,h3,h4⟩:=hp;exact h4.elim
theorem rdN (b2 b3 b4:Nat) (E:HP) (h:Zc):wpC Zuk cl2 ZwJ (ZuB b2 b3 b4 .nilIface) h (ZrW E)=(Zg0 .nilIface fun b=>Zs b (E h) False):=by kernel_rfl
set_option maxRecDepth 100000 in
theorem ZoH {b2 b3 b4:Nat} {w:World}:CallsD Tryz.prog 95 #[ptr b2,ptr b3,ptr b4] .returning w fun e' u' w'=>e' = .returned (.tuple #[])∧u' = .returning∧Fw.Same w w'∧w'.heap=w.heap:=by
  refine callsD_of_wpS Tryz.func95 ZnV fun c₀ cs hu=>?_
  apply wpS_seq
  rw [Ztg]
  apply wpS_region
  simp [wpOpsS,go_sem,recoverD,hu,Tryz.ntmps95,Exit.thenS]
  refine wpS_of_wp ((wpIn_wide (n:=0)).1 (wpIn_mono (Xy cl2 Zuk Zq6 Zp ZwJ (ZuB b2 b3 b4 .nilIface) _ w (ZrW fun h=>h=w.heap) ?_ (by rw [rdN];exact .inl ⟨rfl,Zm rfl rfl⟩)) ?_))
  ·refine ⟨by simp [Zuk,ZW,ptr],rfl,fun j v hj=>?_⟩
   have hv:(j=0∧v = .val (ptr b2))∨(j=1∧v = .val (ptr b3))∨(j=2∧v = .val (ptr b4))∨(j=6∧v = .val .nilIface):=ZjT hj
   rcases hv with ⟨rfl,rfl⟩ | ⟨rfl,rfl⟩ | ⟨rfl,rfl⟩ | ⟨rfl,rfl⟩<;>simp [EV.v,Array.getElem?_append]
  ·intro ex a' w' hp
   cases ex with
   | normal =>
     obtain ⟨e',h1,h2,h3,h4⟩:=hp
     have hd:=h3.2 (Zqg (by kernel_rfl))
     refine ⟨hd,.returning,?_,.tuple #[],by simp [results,Tryz.results95],rfl,rfl,h2,h4⟩
     cases c₀
     simp_all
   | ret=>obtain ⟨e',h1,h2,h3,h4⟩:=hp;exact h4.elim
   | exit id=>obtain ⟨e',h1,h2,h3,h4⟩:=hp;exact h4.elim
   | goto t=>exact hp.elim
   | outgrown=>exact hp.elim
   | panic ch=>obtain ⟨v,h1,h2,h3,h4⟩:=hp;exact h4.elim
theorem Zyh:pD = .region 3 #[⟨some 10,.makeFunc (.func 95) #[] #[.tmp 2,.tmp 3,.tmp 4],1, "json.go:272", #[],none⟩,⟨none,.defer ⟨.value (.tmp 10),#[],#[]⟩,0, "json.go:272", #[⟨0,.data⟩],none⟩] false:=by kernel_rfl
theorem wpD {a:Act} {w:World} {Q:Exit→Act→World→Prop} {b2 b3 b4:Nat} (h2:a.tmps[2]?=some (ptr b2)) (h3:a.tmps[3]?=some (ptr b3)) (h4:a.tmps[4]?=some (ptr b4)) (hd:a.defers=[]) (hs:a.tmps.size=32)
    (h:pR.wp Tryz.prog Q { tmps:=a.tmps.setIfInBounds 10 (.func (.func 95) #[] #[ptr b2,ptr b3,ptr b4]),defers:=[clo b2 b3 b4]} w):(Code.seq pD pR).wp Tryz.prog Q a w:=by
  apply wp_seq
  rw [Zyh]
  apply wp_region
  have hmf:∀ (fn:Fn) (first cap:Array Value) (w:World),(Instr.makeFunc fn first cap).run Tryz.prog w = .ok (.func fn first cap) w:=fun _ _ _ _=>rfl
  have e2:a.eval (.tmp 2)=ptr b2:=by simp [Act.eval,h2]
  have e3:a.eval (.tmp 3)=ptr b3:=by simp [Act.eval,h3]
  have e4:a.eval (.tmp 4)=ptr b4:=by simp [Act.eval,h4]
  have e10:({ tmps:=a.tmps.setIfInBounds 10 (.func (.func 95) #[] #[ptr b2,ptr b3,ptr b4]),defers:=[]}:Act).eval (.tmp 10) = .func (.func 95) #[] #[ptr b2,ptr b3,ptr b4]:=by simp [Act.eval,hs]
  obtain ⟨tm,df⟩:=a
  dsimp only at hd hs h2 h3 h4
  subst hd
  show wpOps _ _ _ [0,1] _ _
  simp [wpOps,go_sem,hmf,e2,e3,e4,e10,Exit.then]
  refine .inl (.inl ?_)
  have g2:tm[2]'(by omega)=ptr b2:=(Array.getElem?_eq_some_iff.1 h2).2
  have g3:tm[3]'(by omega)=ptr b3:=(Array.getElem?_eq_some_iff.1 h3).2
  have g4:tm[4]'(by omega)=ptr b4:=(Array.getElem?_eq_some_iff.1 h4).2
  simp [g2,g3,g4,hs,Oper.upon]
  exact h
theorem nR:ZiN (Fw.dstsOf pR) mkN=false∧ZiN (Fw.dstsOf pR) 2=false∧ZiN (Fw.dstsOf pR) 3=false∧ZiN (Fw.dstsOf pR) 4=false∧ZiN (Fw.dstsOf pA) mkN=false∧ZiN (Fw.dstsOf pB) mkN=false:=⟨by kernel_rfl,by kernel_rfl,by kernel_rfl,by kernel_rfl,by kernel_rfl,by kernel_rfl⟩
theorem ZcN {l:List Nat} {j:Nat} (h:ZiN l j=false):j∉l:=by
  induction l with
  | nil=>intro h9;cases h9
  | cons x xs ih =>
    intro h9
    simp only [ZiN] at h
    cases hx:Nat.beq j x with
    | true=>rw [hx] at h;cases h
    | false =>
      rw [hx] at h
      rcases List.mem_cons.1 h9 with h9 | h9
      ·rw [← h9,Nat.beq_refl] at hx;cases hx
      ·exact ih h h9
theorem ZoR {b2 b3 b4 j:Nat} {v:EV} (h:(ZuA b2 b3 b4).f j=some v):(j=2∧v = .adr b2 0)∨(j=3∧v = .adr b3 0)∨(j=4∧v = .adr b4 0):=by
  unfold ZuA at h
  dsimp only at h
  cases h0:Nat.beq j 2 with
  | true=>rw [h0] at h;cases h;exact .inl ⟨Nat.eq_of_beq_eq_true h0,rfl⟩
  | false =>
    rw [h0] at h
    cases h1:Nat.beq j 3 with
    | true=>rw [h1] at h;cases h;exact .inr (.inl ⟨Nat.eq_of_beq_eq_true h1,rfl⟩)
    | false =>
      rw [h1] at h
      cases h2:Nat.beq j 4 with
      | true=>rw [h2] at h;cases h;exact .inr (.inr ⟨Nat.eq_of_beq_eq_true h2,rfl⟩)
      | false=>rw [h2] at h;cases h
set_option maxRecDepth 100000 in
theorem Zra {a:Act} {w w3:World} {K:Xg Zlm→HP} {b2 b3 b4:Nat} {e3:Env} (hag:∀ j v,e3 j=some v→a.tmps[j]?=some v.v) (hd:a.defers=[clo b2 b3 b4]) (hs:Fw.Same w w3) (hk:Zrr K e3 w3.heap) :
    Leaves Tryz.prog Tryz.f25 a.tmps (ZcQ Zlm w K fun _ _=>False) a.defers .returning w3:=by
  rw [hd]
  unfold clo
  refine leaves_cons (f:=95) (args:= #[ptr b2,ptr b3,ptr b4]) (by simp) (by simp [go_sem,ptr]) (ZoH.mono ?_)
  rintro e u w4 ⟨rfl,rfl,h1,h2⟩
  have hk4:Zrr K e3 w4.heap:=by rw [h2];exact hk
  obtain ⟨v,hv,r,rfl,hr⟩:=Zmr hag hk4
  exact ⟨_,hv,.inl ⟨r,rfl,hs.trans h1,hr⟩⟩
set_option maxRecDepth 100000 in
theorem ZrU {a:Act} {w w3:World} {K:Xg Zlm→HP} {b2 b3 b4:Nat} {v:Value} (h2:a.tmps[2]?=some (ptr b2)) (h3:a.tmps[3]?=some (ptr b3)) (h4:a.tmps[4]?=some (ptr b4)) (hd:a.defers=[clo b2 b3 b4]) (hs:Fw.Same w w3)
    (hk:Zyg b2 b3 b4 (Zrr K (ZuA b2 b3 b4)) v w3.heap):Leaves Tryz.prog Tryz.f25 a.tmps (ZcQ Zlm w K fun _ _=>False) a.defers (.panicking [{ v,recovered:=false }]) w3:=by
  obtain ⟨e,n,rfl,hc⟩:=hk
  rw [hd]
  unfold clo
  refine leaves_cons (f:=95) (args:= #[ptr b2,ptr b3,ptr b4]) (by simp) (by simp [go_sem,ptr]) ((ZmT hc).mono ?_)
  rintro e' u w4 ⟨rfl,rfl,g1,g2⟩
  have hag:∀ j v,(ZuA b2 b3 b4) j=some v→a.tmps[j]?=some v.v:=fun j v hj=>by
    have hv:(j=2∧v = .adr b2 0)∨(j=3∧v = .adr b3 0)∨(j=4∧v = .adr b4 0):=ZoR hj
    rcases hv with ⟨rfl,rfl⟩ | ⟨rfl,rfl⟩ | ⟨rfl,rfl⟩
    ·exact h2
    ·exact h3
    ·exact h4
  obtain ⟨v,hv,r,rfl,hr⟩:=Zmr hag g2
  exact ⟨_,hv,.inl ⟨r,rfl,hs.trans g1,hr⟩⟩
theorem ZyD {s:ByteArray}:Agr 32 (ZfP [.val (.string s)]) { tmps:= #[.string s]++Array.replicate 31 undef,defers:=[]}:=by
  refine ⟨by simp,rfl,fun j v hj=>?_⟩
  obtain ⟨k,hk,hv⟩:=ZgU [.val (.string s)] 0 j v hj
  cases k with
  | zero=>simp at hk hv;subst hk hv;simp [EV.v]
  | succ k=>simp at hv
theorem Zss {e:Env} {a:Act} {b2 b3 b4:Nat} {x:Value} (h:Agr 32 e a):Agr 32 (Zy8 e b2 b3 b4) { tmps:=a.tmps.setIfInBounds 10 x,defers:=[clo b2 b3 b4]}:=by
  refine ⟨by simp [h.size],rfl,fun j v hj=>?_⟩
  have hj':(bif Nat.beq j 10 then none else e.f j)=some v:=hj
  cases h10:Nat.beq j 10 with
  | true=>rw [h10] at hj';cases hj'
  | false =>
    rw [h10] at hj'
    have hne:10≠j:=fun h9=>by rw [← h9] at h10;cases h10
    show (a.tmps.setIfInBounds 10 x)[j]?=_
    rw [Array.getElem?_setIfInBounds_ne hne]
    exact h.val j v hj'
set_option maxRecDepth 100000 in
theorem Zmw {s:ByteArray} {K:Xg Zlm→HP} {w:World} (hk:prd s K w.heap):Calls Tryz.prog 25 #[.string s] w (ZcQ Zlm w K fun _ _=>False):=by
  refine calls_of_wp_defers Tryz.func25 ZrR ?_
  show (Code.seq pA (.seq pB (.seq pD pR))).wp Tryz.prog _ { tmps:= #[.string s]++Array.replicate 31 undef,defers:=[]} w
  obtain ⟨q1,q2,q3,q4,q5,q6⟩:=nR
  have stop:∀ {a:Act} {w1:World} {e:Env},Agr 32 e a→Fw.Same w w1→a.defers=[]→Zrr K e w1.heap→Leaves Tryz.prog Tryz.f25 a.tmps (ZcQ Zlm w K fun _ _=>False) a.defers .returning w1:=fun {a w1 e} g1 g2 g3 g4=>by
    rw [g3]
    obtain ⟨v,hv,r,rfl,hr⟩:=Zmr g1.val g4
    exact ⟨_,hv,.inl ⟨r,rfl,g2,hr⟩⟩
  unfold prd at hk
  have hA:=Xy pA (ZrT fun _ _=>False) (Zmv _) Zp .leaf _ _ w _ ZyD hk
  refine wp_seq ((wpIn_wide (n:=0)).1 (wpIn_mono hA ?_))
  intro ex a1 w1 hp
  cases ex with
  | goto t=>exact hp.elim
  | outgrown=>exact hp.elim
  | panic ch=>obtain ⟨v,h1,h2,h3,h4⟩:=hp;exact h4.elim
  | exit id=>obtain ⟨e1,g1,g2,g3,g4⟩:=hp;exact g4.elim
  | ret =>
    obtain ⟨e1,g1,g2,g3,g4⟩:=hp
    exact stop g1 g2 (g3.2 (ZcN q5)) g4
  | normal =>
    obtain ⟨e1,g1,g2,g3,g4⟩:=hp
    have d1:a1.defers=[]:=g3.2 (ZcN q5)
    have hB:=Xy pB (ZrT fun _ _=>False) (Zmv _) Zp .leaf _ _ w1 _ g1 g4
    refine wp_seq ((wpIn_wide (n:=0)).1 (wpIn_mono hB ?_))
    intro ex a2 w2 hp
    cases ex with
    | goto t=>exact hp.elim
    | outgrown=>exact hp.elim
    | panic ch=>obtain ⟨v,h1,h2,h3,h4⟩:=hp;exact h4.elim
    | exit id=>obtain ⟨e2,j1,j2,j3,j4⟩:=hp;exact j4.elim
    | ret =>
      obtain ⟨e2,j1,j2,j3,j4⟩:=hp
      exact stop j1 (g2.trans j2) ((j3.2 (ZcN q6)).trans d1) j4
    | normal =>
      obtain ⟨e2,j1,j2,j3,j4⟩:=hp
      have d2:a2.defers=[]:=(j3.2 (ZcN q6)).trans d1
      dsimp only at j4
      split at j4
      case h_2=>exact j4.elim
      rename_i b2 b3 b4 h2 h3 h4
      have t2:=j1.val 2 _ h2
      have t3:=j1.val 3 _ h3
      have t4:=j1.val 4 _ h4
      refine wpD t2 t3 t4 d2 j1.size ?_
      have hR:=Xy pR (ZrT (Zyg b2 b3 b4 (Zrr K (ZuA b2 b3 b4)))) (Zmv _) Zp .leaf _ _ w2 _ (Zss (x:= .func (.func 95) #[] #[ptr b2,ptr b3,ptr b4]) j1) j4
      refine (wpIn_wide (n:=0)).1 (wpIn_mono hR ?_)
      intro ex a3 w3 hp
      cases ex with
      | goto t=>exact hp.elim
      | outgrown=>exact hp.elim
      | exit id=>obtain ⟨e3,k1,k2,k3,k4⟩:=hp;exact k4.elim
      | normal =>
        obtain ⟨e3,k1,k2,k3,k4⟩:=hp
        exact Zra k1.val (k3.2 (ZcN q1)) ((g2.trans j2).trans k2) k4
      | ret =>
        obtain ⟨e3,k1,k2,k3,k4⟩:=hp
        exact Zra k1.val (k3.2 (ZcN q1)) ((g2.trans j2).trans k2) k4
      | panic ch =>
        obtain ⟨v,rfl,k2,k3,k4⟩:=hp
        have e2:=(k3.1 2 (ZcN q2)).trans (show (a2.tmps.setIfInBounds 10 _)[2]?=some (ptr b2) by rw [Array.getElem?_setIfInBounds_ne (by decide)];exact t2)
        have e3:=(k3.1 3 (ZcN q3)).trans (show (a2.tmps.setIfInBounds 10 _)[3]?=some (ptr b3) by rw [Array.getElem?_setIfInBounds_ne (by decide)];exact t3)
        have e4:=(k3.1 4 (ZcN q4)).trans (show (a2.tmps.setIfInBounds 10 _)[4]?=some (ptr b4) by rw [Array.getElem?_setIfInBounds_ne (by decide)];exact t4)
        exact ZrU e2 e3 e4 (k3.2 (ZcN q1)) ((g2.trans j2).trans k2) k4
theorem rdP (s:ByteArray) (K:(Int × ByteArray × Sl × Sl × Unit)→Int→Int→HP) (h:Zc):prd s (fun r h=>K r.1 r.2.1 r.2.2.1 h) h=XK s K h:=by kernel_rfl
def Zlj:Zh:=⟨[.one (.S)],Zlm,fun t K _ h=>XK t.1 (fun r0 r1 r2 h=>K (r0,r1,r2,()) h) h⟩
set_option maxRecDepth 100000 in
theorem Zox {s:ByteArray} {K:(Int × ByteArray × Sl × Sl × Unit)→Int→Int→HP} {w:World} (hk:XK s K w.heap):Calls Tryz.prog 25 #[.string s] w fun e w'=>∃ r:Xg Zlm,e = .returned (Zs1 Zlm r)∧Fw.Same w w'∧K r.1 r.2.1 r.2.2.1 w'.heap:=by
  have hk':prd s (fun r h=>K r.1 r.2.1 r.2.2.1 h) w.heap:=(rdP s K w.heap).mpr hk
  refine (Zmw hk').mono ?_
  rintro e w' (⟨r,he,hs,hr⟩ | ⟨v,he,hs,hr⟩)
  ·exact ⟨r,he,hs,hr⟩
  ·exact hr.elim
theorem Zf3:Zo Tryz.prog 25 Zlj where
  named:=⟨_,Tryz.func25,by kernel_rfl,by kernel_rfl⟩
  calls t K Kp w hk:=(Zox (K:=fun r0 r1 r2 h=>K (r0,r1,r2,()) h) hk).mono fun e w' h9=>let ⟨r,he,hs,hr⟩:=h9;.inl ⟨r,he,hs,hr⟩
abbrev Zm4 (f:Zej):Zh:=⟨[.one (.P)],[.one (.I .u8)],fun t K _ h=>f t.1 (fun r0 h=>K (r0,()) h) h⟩
abbrev ZCl:Cfg:=ZW Tryz.prog [] 22 [] [] [] ZY
theorem ZAc:Z3 (ZCl) Tryz.f172 (.leaf) (Zm4 X0):=fun _ _ _ _=>by kernel_rfl
theorem Zo2:Zo Tryz.prog 172 (Zm4 Zg):=okF (ZAc) Tryz.func172 Zp (ZG _ .nil .nil .nil .nil (ZF _))
abbrev Ztq (f:Zk3):Zh:=⟨[.one (.P)],[],fun t K _ h=>f t.1 (fun h=>K (()) h) h⟩
abbrev ZCk (f27:Zej):Cfg:=ZW Tryz.prog [(172,Zm4 f27)] 46 [] [] [] ZY
theorem ZAb (f27:Zej):Z3 (ZCk f27) Tryz.f100 (.block (.loop [] [] [(2,45)] (.cut [] [] [(2,38)] (.leaf) (.leaf)))) (Ztq (YN f27)):=fun _ _ _ _=>by kernel_rfl
theorem ZuL:Zo Tryz.prog 100 (Ztq Zt):=okF (ZAb Zg) Tryz.func100 Zp (ZG _ (.cons Zo2 .nil) .nil .nil .nil (ZF _))
abbrev Zro (f:ZgW):Zh:=⟨[.one (.P),.one (.I .i64)],[],fun t K _ h=>f t.1 t.2.1 (fun h=>K (()) h) h⟩
abbrev ZCj:Cfg:=ZW Tryz.prog [] 34 [] [] [] ZY
theorem ZAa:Z3 (ZCj) Tryz.f173 (.leaf) (Zro XV):=fun _ _ _ _=>by kernel_rfl
theorem ZsE:Zo Tryz.prog 173 (Zro Zk):=okF (ZAa) Tryz.func173 Zp (ZG _ .nil .nil .nil .nil (ZF _))
abbrev Zux (f:Zm9):Zh:=⟨[.one (.P),.one (.I .u8)],[],fun t K _ h=>f t.1 t.2.1 (fun h=>K (()) h) h⟩
abbrev ZCi (f29:ZgW) (f27:Zej):Cfg:=ZW Tryz.prog [(173,Zro f29),(172,Zm4 f27)] 34 [] [] [] ZY
theorem Zz9 (f29:ZgW) (f27:Zej):Z3 (ZCi f29 f27) Tryz.f244 (.leaf) (Zux (Y3 f29 f27)):=fun _ _ _ _=>by kernel_rfl
theorem Zwq:Zo Tryz.prog 244 (Zux Zu):=okF (Zz9 Zk Zg) Tryz.func244 Zp (ZG _ (.cons ZsE (.cons Zo2 .nil)) .nil .nil .nil (ZF _))
abbrev Zuw (f:Zm8):Zh:=⟨[.one (.I .u8)],[.one (.B)],fun t K _ h=>f t.1 (fun r0 h=>K (r0,()) h) h⟩
abbrev ZCh:Cfg:=ZW Tryz.prog [] 9 [] [] [] ZY
theorem Zz8:Z3 (ZCh) Tryz.f175 (.leaf) (Zuw Zbd):=fun _ _ _ _=>by kernel_rfl
theorem Zwp:Zo Tryz.prog 175 (Zuw ZO):=okF (Zz8) Tryz.func175 Zp (ZG _ .nil .nil .nil .nil (ZF _))
abbrev ZwA (f:ZsP):Zh:=⟨[.one (.P)],[.one (.I .i64)],fun t K _ h=>f t.1 (fun r0 h=>K (r0,()) h) h⟩
abbrev ZCg (f27:Zej) (f31:Zm8) (f29:ZgW):Cfg:=ZW Tryz.prog [(172,Zm4 f27),(175,Zuw f31),(173,Zro f29)] 102 [] [] [] ZY
theorem Zz7 (f27:Zej) (f31:Zm8) (f29:ZgW):Z3 (ZCg f27 f31 f29) Tryz.f300 (.seq (.leaf) (.seq (.leaf) (.seq (.seq (.leaf) (.block (.loop [3,4] [.one (.I .i64),.one (.I .i64)] [(2,2),(5,100)] (.seq (.leaf) (.seq (.block (.seq (.leaf) (.cut [3] [.one (.I .i64)] [(2,2),(19,93)] (.block (.cut [21] [.one (.B)] [(22,35)] (.leaf) (.cond (.leaf) (.cut [42] [.one (.B)] [(43,60)] (.leaf) (.leaf))))) (.leaf)))) (.leaf)))))) (.leaf)))) (ZwA (X1 f27 f31 f29)):=fun _ _ _ _=>by kernel_rfl
theorem Zy2:Zo Tryz.prog 300 (ZwA Z2):=okF (Zz7 Zg ZO Zk) Tryz.func300 Zp (ZG _ (.cons Zo2 (.cons Zwp (.cons ZsE .nil))) .nil .nil .nil (ZF _))
abbrev ZxJ (f:Zvm):Zh:=⟨[.one (.P)],[.one (.I .i64)],fun t K _ h=>f t.1 (fun r0 h=>K (r0,()) h) h⟩
abbrev ZCf (f32:ZsP):Cfg:=ZW Tryz.prog [(300,ZwA f32)] 74 [] [] [] ZY
theorem Zz6 (f32:ZsP):Z3 (ZCf f32) Tryz.f301 (.seq (.leaf) (.seq (.leaf) (.seq (.order (.take 0 (.take 1 (.take 2 (.take 4 (.take 5 (.take 6 (.take 10 (.take 11 (.take 12 (.take 3 (.take 7 (.take 8 (.take 9 (.take 13 (.take 14 (.take 15 (.take 16 (.take 17 .done))))))))))))))))))) (.leaf)))) (ZxJ (Y7 f32)):=fun _ _ _ _=>by kernel_rfl
theorem ZBe:Zo Tryz.prog 301 (ZxJ Z9):=okF (Zz6 Z2) Tryz.func301 Zp (ZG _ (.cons Zy2 .nil) .nil .nil .nil (ZF _))
abbrev ZxI (f:Zvl):Zh:=⟨[.one (.I .i64)],[.one (.S)],fun t K _ h=>f t.1 (fun r0 h=>K (r0,()) h) h⟩
abbrev ZCe:Cfg:=ZW Tryz.prog [] 61 [] [] [] ZY
theorem Zz5:Z3 (ZCe) Tryz.f302 (.leaf) (ZxI ZbV):=fun _ _ _ _=>by kernel_rfl
theorem ZBd:Zo Tryz.prog 302 (ZxI Xd):=okF (Zz5) Tryz.func302 Zp (ZG _ .nil .nil .nil .nil (ZF _))
abbrev ZxH (f:Zvk):Zh:=⟨[.one (.P)],[.one (.S)],fun t K _ h=>f t.1 (fun r0 h=>K (r0,()) h) h⟩
abbrev ZCd (f27:Zej) (f29:ZgW) (f32:ZsP) (f33:Zvm) (f34:Zvl):Cfg:=ZW Tryz.prog [(172,Zm4 f27),(173,Zro f29),(300,ZwA f32),(301,ZxJ f33),(302,ZxI f34)] 94 [] [] [] ZY
theorem Zz4 (f27:Zej) (f29:ZgW) (f32:ZsP) (f33:Zvm) (f34:Zvl):Z3 (ZCd f27 f29 f32 f33 f34) Tryz.f245 (.seq (.leaf) (.seq (.leaf) (.seq (.leaf) (.seq (.leaf) (.cut [4] [.one (.S)] [(2,2),(5,6),(21,85)] (.seq (.leaf) (.block (.cut [24] [.one (.B)] [(25,27)] (.leaf) (.cond (.leaf) (.seq (.leaf) (.cond (.leaf) (.seq (.leaf) (.cond (.leaf) (.seq (.leaf) (.cond (.leaf) (.seq (.leaf) (.cond (.leaf) (.seq (.leaf) (.cond (.leaf) (.seq (.leaf) (.cond (.seq (.leaf) (.seq (.leaf) (.cut [] [] [(2,2),(6,6),(52,76)] (.leaf) (.cut [] [] [(2,2),(77,83)] (.leaf) (.leaf))))) (.leaf))))))))))))))))) (.leaf)))))) (ZxH (Xu f27 f29 f32 f33 f34)):=fun _ _ _ _=>by kernel_rfl
theorem ZBc:Zo Tryz.prog 245 (ZxH Yk):=okF (Zz4 Zg Zk Z2 Z9 Xd) Tryz.func245 Zp (ZG _ (.cons Zo2 (.cons ZsE (.cons Zy2 (.cons ZBe (.cons ZBd .nil))))) .nil .nil .nil (ZF _))
abbrev Zwz (f:ZsO):Zh:=⟨[.one (.I .u8)],[.one (.I .i64),.one (.I .u8),.one (.I .u8)],fun t K _ h=>f t.1 (fun r0 r1 r2 h=>K (r0,r1,r2,()) h) h⟩
abbrev ZCc:Cfg:=ZW Tryz.prog [] 41 [] [] [] ZY
theorem Zz3:Z3 (ZCc) Tryz.f273 (.seq (.leaf) (.seq (.block (.seq (.leaf) (.cond (.leaf) (.cut [8] [.one (.B)] [(9,14)] (.leaf) (.leaf))))) (.leaf))) (Zwz ZaU):=fun _ _ _ _=>by kernel_rfl
theorem Zy1:Zo Tryz.prog 273 (Zwz Yo):=okF (Zz3) Tryz.func273 Zp (ZG _ .nil .nil .nil .nil (ZF _))
abbrev ZxG (f:Zvj):Zh:=⟨[.one (.P)],[],fun t K _ h=>f t.1 (fun h=>K (()) h) h⟩
abbrev ZCb (f27:Zej) (f36:ZsO) (f29:ZgW):Cfg:=ZW Tryz.prog [(172,Zm4 f27),(273,Zwz f36),(173,Zro f29)] 65 [] [] [] ZY
theorem Zz2 (f27:Zej) (f36:ZsO) (f29:ZgW):Z3 (ZCb f27 f36 f29) Tryz.f246 (.seq (.leaf) (.seq (.leaf) (.seq (.leaf) (.seq (.leaf) (.block (.loop [3,4,5] [.one (.I .u8),.one (.I .u8),.one (.I .i64)] [(29,64)] (.leaf))))))) (ZxG (Y8 f27 f36 f29)):=fun _ _ _ _=>by kernel_rfl
theorem ZBb:Zo Tryz.prog 246 (ZxG Ya):=okF (Zz2 Zg Yo Zk) Tryz.func246 Zp (ZG _ (.cons Zo2 (.cons Zy1 (.cons ZsE .nil))) .nil .nil .nil (ZF _))
abbrev Zwy (f:ZsN):Zh:=⟨[.one (.P)],[.one (.S)],fun t K _ h=>f t.1 (fun r0 h=>K (r0,()) h) h⟩
abbrev ZCa (f30:Zm9) (f29:ZgW) (f27:Zej) (f35:Zvk) (f37:Zvj):Cfg:=ZW Tryz.prog [(244,Zux f30),(173,Zro f29),(172,Zm4 f27),(245,ZxH f35),(246,ZxG f37)] 68 [] [] [] ZY
theorem Zz1 (f30:Zm9) (f29:ZgW) (f27:Zej) (f35:Zvk) (f37:Zvj):Z3 (ZCa f30 f29 f27 f35 f37) Tryz.f174 (.seq (.leaf) (.seq (.leaf) (.seq (.leaf) (.seq (.block (.loop [3] [.one (.S)] [(2,2),(4,5),(8,67)] (.leaf))) (.leaf))))) (Zwy (XT f30 f29 f27 f35 f37)):=fun _ _ _ _=>by kernel_rfl
theorem Zy0:Zo Tryz.prog 174 (Zwy ZZ):=okF (Zz1 Zu Zk Zg Yk Ya) Tryz.func174 Zp (ZG _ (.cons Zwq (.cons ZsE (.cons Zo2 (.cons ZBc (.cons ZBb .nil))))) .nil .nil .nil (ZF _))
abbrev ZxF (f:Zvi):Zh:=⟨[.one (.P)],[],fun t K _ h=>f t.1 (fun h=>K (()) h) h⟩
abbrev ZB9 (f29:ZgW) (f27:Zej) (f31:Zm8):Cfg:=ZW Tryz.prog [(173,Zro f29),(172,Zm4 f27),(175,Zuw f31)] 47 [] [] [] ZY
theorem Zz0 (f29:ZgW) (f27:Zej) (f31:Zm8):Z3 (ZB9 f29 f27 f31) Tryz.f247 (.seq (.leaf) (.seq (.leaf) (.block (.loop [] [] [(25,46)] (.leaf))))) (ZxF (Xv f29 f27 f31)):=fun _ _ _ _=>by kernel_rfl
theorem ZBa:Zo Tryz.prog 247 (ZxF Z4):=okF (Zz0 Zk Zg ZO) Tryz.func247 Zp (ZG _ (.cons ZsE (.cons Zo2 (.cons Zwp .nil))) .nil .nil .nil (ZF _))
abbrev ZxE (f:Zvh):Zh:=⟨[.one (.P)],[.one (.S)],fun t K _ h=>f t.1 (fun r0 h=>K (r0,()) h) h⟩
abbrev ZB8 (f27:Zej) (f31:Zm8) (f29:ZgW) (f39:Zvi):Cfg:=ZW Tryz.prog [(172,Zm4 f27),(175,Zuw f31),(173,Zro f29),(247,ZxF f39)] 165 [] [] [] ZY
theorem ZzZ (f27:Zej) (f31:Zm8) (f29:ZgW) (f39:Zvi):Z3 (ZB8 f27 f31 f29 f39) Tryz.f176 (.seq (.leaf) (.seq (.leaf) (.cut [] [] [(9,18)] (.leaf) (.cut [4] [.one (.B)] [(19,33)] (.leaf) (.cut [] [] [(34,60)] (.leaf) (.cut [] [] [(61,91)] (.leaf) (.cut [] [] [(92,154)] (.cut [118] [.one (.B)] [(92,117)] (.leaf) (.leaf)) (.leaf)))))))) (ZxE (Xt f27 f31 f29 f39)):=fun _ _ _ _=>by kernel_rfl
theorem ZA9:Zo Tryz.prog 176 (ZxE Yj):=okF (ZzZ Zg ZO Zk Z4) Tryz.func176 Zp (ZG _ (.cons Zo2 (.cons Zwp (.cons ZsE (.cons ZBa .nil)))) .nil .nil .nil (ZF _))
abbrev ZxD (f:Zvg):Zh:=⟨[.one (.P),.one (.S)],[],fun t K _ h=>f t.1 t.2.1 (fun h=>K (()) h) h⟩
abbrev ZB7 (f30:Zm9):Cfg:=ZW Tryz.prog [(244,Zux f30)] 16 [] [] [] ZY
theorem ZzY (f30:Zm9):Z3 (ZB7 f30) Tryz.f177 (.seq (.leaf) (.block (.loop [4] [.one (.I .i64)] [(5,15)] (.leaf)))) (ZxD (XS f30)):=fun _ _ _ _=>by kernel_rfl
theorem ZA8:Zo Tryz.prog 177 (ZxD Ye):=okF (ZzY Zu) Tryz.func177 Zp (ZG _ (.cons Zwq .nil) .nil .nil .nil (ZF _))
abbrev Zrn (f:Zhf):Zh:=⟨[.one (.P),.one (.I .i64)],[.agg [.I .u8,.S,.L,.L]],fun t K _ h=>f t.1 t.2.1 (fun r0 h=>K (r0,()) h) h⟩
abbrev Zwx (f:ZsM):Zh:=⟨[.one (.P),.one (.I .u8)],[.one (.B)],fun t K _ h=>f t.1 t.2.1 (fun r0 h=>K (r0,()) h) h⟩
abbrev ZB5 (f28:Zk3) (f27:Zej) (f30:Zm9):Cfg:=ZW Tryz.prog [(100,Ztq f28),(172,Zm4 f27),(244,Zux f30)] 39 [] [] [] ZY
theorem ZzW (f28:Zk3) (f27:Zej) (f30:Zm9):Z3 (ZB5 f28 f27 f30) Tryz.f248 (.seq (.leaf) (.seq (.leaf) (.cut [] [] [(4,4),(7,35)] (.leaf) (.leaf)))) (Zwx (XU f28 f27 f30)):=fun _ _ _ _=>by kernel_rfl
theorem ZyZ:Zo Tryz.prog 248 (Zwx ZU):=okF (ZzW Zt Zg Zu) Tryz.func248 Zp (ZG _ (.cons ZuL (.cons Zo2 (.cons Zwq .nil))) .nil .nil .nil (ZF _))
abbrev ZxC (f:Zvf):Zh:=⟨[.one (.P),.one (.I .i64)],[.agg [.I .u8,.S,.L,.L]],fun t K _ h=>f t.1 t.2.1 (fun r0 h=>K (r0,()) h) h⟩
abbrev ZB4 (f28:Zk3) (f27:Zej) (f42:Zhf) (f43:ZsM):Cfg:=ZW Tryz.prog [(100,Ztq f28),(172,Zm4 f27),(99,Zrn f42),(248,Zwx f43)] 56 [] [] [] ZY
theorem ZzV (f28:Zk3) (f27:Zej) (f42:Zhf) (f43:ZsM):Z3 (ZB4 f28 f27 f42 f43) Tryz.f178 (.seq (.leaf) (.seq (.leaf) (.seq (.leaf) (.cut [] [] [(9,38)] (.leaf) (.seq (.block (.loop [] [] [(39,54)] (.seq (.leaf) (.block (.seq (.order (.take 0 (.take 2 (.take 3 (.take 1 (.take 4 (.take 5 (.take 6 (.take 7 (.take 8 .done)))))))))) (.leaf)))))) (.leaf)))))) (ZxC (XJ f28 f27 f42 f43)):=fun _ _ _ _=>by kernel_rfl
theorem ZAD (f42:Zhf) (hH:Zo Tryz.prog 99 (Zrn f42)):Zo Tryz.prog 178 (ZxC (Yq f42)):=okF (ZzV Zt Zg f42 ZU) Tryz.func178 Zp (ZG _ (.cons ZuL (.cons Zo2 (.cons hH (.cons ZyZ .nil)))) .nil .nil .nil (ZF _)) (hlen:=Nat.le_of_ble_eq_true rfl)
abbrev ZxB (f:Zve):Zh:=⟨[.one (.P),.one (.I .i64)],[.agg [.I .u8,.S,.L,.L]],fun t K _ h=>f t.1 t.2.1 (fun r0 h=>K (r0,()) h) h⟩
abbrev ZB3 (f28:Zk3) (f27:Zej) (f38:ZsN) (f30:Zm9) (f42:Zhf) (f43:ZsM):Cfg:=ZW Tryz.prog [(100,Ztq f28),(172,Zm4 f27),(174,Zwy f38),(244,Zux f30),(99,Zrn f42),(248,Zwx f43)] 69 [] [] [] ZY
theorem ZzU (f28:Zk3) (f27:Zej) (f38:ZsN) (f30:Zm9) (f42:Zhf) (f43:ZsM):Z3 (ZB3 f28 f27 f38 f30 f42 f43) Tryz.f179 (.seq (.leaf) (.seq (.leaf) (.seq (.leaf) (.cut [] [] [(9,38)] (.leaf) (.seq (.block (.loop [] [] [(39,67)] (.seq (.leaf) (.block (.seq (.leaf) (.seq (.order (.take 0 (.take 2 (.take 1 (.take 3 (.take 4 (.take 5 (.take 6 (.take 7 .done))))))))) (.seq (.leaf) (.seq (.leaf) (.seq (.order (.take 0 (.take 2 (.take 3 (.take 1 (.take 4 (.take 5 (.take 6 (.take 7 (.take 8 .done)))))))))) (.leaf)))))))))) (.leaf)))))) (ZxB (Xs f28 f27 f38 f30 f42 f43)):=fun _ _ _ _=>by kernel_rfl
theorem ZAC (f42:Zhf) (hH:Zo Tryz.prog 99 (Zrn f42)):Zo Tryz.prog 179 (ZxB (Yi f42)):=okF (ZzU Zt Zg ZZ Zu f42 ZU) Tryz.func179 Zp (ZG _ (.cons ZuL (.cons Zo2 (.cons Zy0 (.cons Zwq (.cons hH (.cons ZyZ .nil)))))) .nil .nil .nil (ZF _)) (hlen:=Nat.le_of_ble_eq_true rfl)
abbrev ZB6 (f28:Zk3) (f27:Zej) (f29:ZgW) (f38:ZsN) (f31:Zm8) (f40:Zvh) (f41:Zvg) (f44:Zvf) (f45:Zve):Cfg:=ZW Tryz.prog [(100,Ztq f28),(172,Zm4 f27),(173,Zro f29),(174,Zwy f38),(175,Zuw f31),(176,ZxE f40),(177,ZxD f41),(178,ZxC f44),(179,ZxB f45)] 95 [] [] [] ZY
theorem ZzX (f28:Zk3) (f27:Zej) (f29:ZgW) (f38:ZsN) (f31:Zm8) (f40:Zvh) (f41:Zvg) (f44:Zvf) (f45:Zve):Z3 (ZB6 f28 f27 f29 f38 f31 f40 f41 f44 f45) Tryz.f99 (.seq (.leaf) (.seq (.leaf) (.seq (.leaf) (.seq (.seq (.leaf) (.block (.seq (.leaf) (.cond (.leaf) (.seq (.leaf) (.cond (.leaf) (.cut [37] [.one (.B)] [(38,43)] (.leaf) (.cond (.leaf) (.seq (.leaf) (.cond (.leaf) (.seq (.leaf) (.cond (.leaf) (.seq (.leaf) (.cond (.leaf) (.cut [65] [.one (.B)] [(66,71)] (.leaf) (.leaf)))))))))))))))) (.leaf))))) (Zrn (XI f28 f27 f29 f38 f31 f40 f41 f44 f45)):=fun _ _ _ _=>by kernel_rfl
theorem ZAE (f42:Zhf) (hH:Zo Tryz.prog 99 (Zrn f42)):Zo Tryz.prog 99 (Zrn (YT f42)):=okF (ZzX Zt Zg Zk ZZ ZO Yj Ye (Yq f42) (Yi f42)) Tryz.func99 Zp (ZG _ (.cons ZuL (.cons Zo2 (.cons ZsE (.cons Zy0 (.cons Zwp (.cons ZA9 (.cons ZA8 (.cons (ZAD f42 hH) (.cons (ZAC f42 hH) .nil))))))))) .nil .nil .nil (ZF _)) (hlen:=Nat.le_of_ble_eq_true rfl)
theorem ZyQ:∀ n,Zo Tryz.prog 99 (Zrn (Z0 n))
 | 0=>ZcC Tryz.func99 (by kernel_rfl) (by kernel_rfl) fun _ _ _ _ h=>h
 | n+1=>ZAE _ (ZyQ n)
theorem ZA7:Zo Tryz.prog 99 (Zrn XG):=ZgI ZyQ
abbrev ZxA (f:Zvd):Zh:=⟨[.one (.S)],[.agg [.I .u8,.S,.L,.L],.one (.I .i64),.one (.I .i64)],fun t K _ h=>f t.1 (fun r0 r1 r2 h=>K (r0,r1,r2,()) h) h⟩
abbrev ZB2 (f42:Zhf) (f28:Zk3):Cfg:=ZW Tryz.prog [(99,Zrn f42),(100,Ztq f28)] 53 [] [] [] ZY
theorem ZzT (f42:Zhf) (f28:Zk3):Z3 (ZB2 f42 f28) Tryz.f26 (.seq (.leaf) (.seq (.leaf) (.seq (.leaf) (.seq (.leaf) (.seq (.leaf) (.cut [] [] [(18,37)] (.leaf) (.seq (.seq (.leaf) (.cond (.seq (.order (.take 0 (.take 1 (.take 2 (.take 3 (.take 5 (.take 6 (.take 7 (.take 4 (.take 8 (.take 9 (.take 10 (.take 11 .done))))))))))))) (.leaf)) (.leaf))) (.leaf)))))))) (ZxA (Zbi f42 f28)):=fun _ _ _ _=>by kernel_rfl
theorem ZA6:Zo Tryz.prog 26 (ZxA Xj):=okF (ZzT XG Zt) Tryz.func26 Zp (ZG _ (.cons ZA7 (.cons ZuL .nil)) .nil .nil .nil (ZF _))
abbrev Zxz (f:Zvc):Zh:=⟨[.one (.S)],[.one (.B)],fun t K _ h=>f t.1 (fun r0 h=>K (r0,()) h) h⟩
abbrev ZB1 (f26:Ztx):Cfg:=ZW Tryz.prog [(25,⟨[.one (.S)],[.agg [.I .u8,.S,.L,.L],.one (.I .i64),.one (.I .i64)],fun t K _ h=>f26 t.1 (fun r0 r1 r2 h=>K (r0,r1,r2,()) h) h⟩)] 25 [] [] [] ZY
theorem ZzS (f26:Ztx):Z3 (ZB1 f26) Tryz.f162 (.leaf) (Zxz (Zdo f26)):=fun _ _ _ _=>by kernel_rfl
theorem ZA5:Zo Tryz.prog 162 (Zxz Za8):=okF (ZzS XK) Tryz.func162 Zp (ZG _ (.cons Zf3 .nil) .nil .nil .nil (ZF _))
abbrev Zxy (f:Zvb):Zh:=⟨[.one (.S)],[.one (.B)],fun t K _ h=>f t.1 (fun r0 h=>K (r0,()) h) h⟩
abbrev ZB0 (f15:Zo4):Cfg:=ZW Tryz.prog [(163,⟨[.one (.S)],[.one (.B)],fun t K _ h=>f15 t.1 (fun r0 h=>K (r0,()) h) h⟩)] 6 [] [] [] ZY
theorem ZzR (f15:Zo4):Z3 (ZB0 f15) Tryz.f165 (.leaf) (Zxy (ZdF f15)):=fun _ _ _ _=>by kernel_rfl
theorem ZA4:Zo Tryz.prog 165 (Zxy ZcO):=okF (ZzR ZL) Tryz.func165 Zp (ZG _ (.cons YV .nil) .nil .nil .nil (ZF _))
abbrev Zxx (f:Zva):Zh:=⟨[.one (.L),.fn 165],[.one (.I .i64)],fun t K _ h=>f t.1 (fun r0 h=>K (r0,()) h) h⟩
abbrev ZBZ (f48:Zvb):Cfg:=ZW Tryz.prog [(165,Zxy f48)] 19 [] [] [] ZY
theorem ZzQ (f48:Zvb):Z3 (ZBZ f48) Tryz.f238 (.seq (.leaf) (.seq (.seq (.leaf) (.block (.loop [8] [.one (.I .i64)] [(4,5),(9,18)] (.leaf)))) (.leaf))) (Zxx (Z8 f48)):=fun _ _ _ _=>by kernel_rfl
theorem ZA3:Zo Tryz.prog 238 (Zxx ZS):=okF (ZzQ ZcO) Tryz.func238 Zp (ZG _ (.cons ZA4 .nil) .nil .nil .nil (ZF _))
abbrev Zxw (f:Zu9):Zh:=⟨[.one (.L),.fn 165],[.one (.B)],fun t K _ h=>f t.1 (fun r0 h=>K (r0,()) h) h⟩
abbrev ZBY (f49:Zva):Cfg:=ZW Tryz.prog [(238,Zxx f49)] 9 [] [] [] ZY
theorem ZzP (f49:Zva):Z3 (ZBY f49) Tryz.f164 (.leaf) (Zxw (Z1 f49)):=fun _ _ _ _=>by kernel_rfl
theorem ZA2:Zo Tryz.prog 164 (Zxw ZE):=okF (ZzP ZS) Tryz.func164 Zp (ZG _ (.cons ZA3 .nil) .nil .nil .nil (ZF _))
abbrev Zxv (f:Zu8):Zh:=⟨[.agg [.I .u8,.S,.L,.L]],[.one (.B)],fun t K _ h=>f t.1 (fun r0 h=>K (r0,()) h) h⟩
abbrev ZBX (f47:Zvc) (f15:Zo4) (f50:Zu9):Cfg:=ZW Tryz.prog [(162,Zxz f47),(163,⟨[.one (.S)],[.one (.B)],fun t K _ h=>f15 t.1 (fun r0 h=>K (r0,()) h) h⟩),(164,Zxw f50)] 86 [] [] [] ZY
theorem ZzO (f47:Zvc) (f15:Zo4) (f50:Zu9):Z3 (ZBX f47 f15 f50) Tryz.f94 (.seq (.leaf) (.seq (.leaf) (.seq (.seq (.leaf) (.block (.cut [19] [.one (.B)] [(20,22)] (.leaf) (.leaf)))) (.leaf)))) (Zxv (ZeQ f47 f15 f50)):=fun _ _ _ _=>by kernel_rfl
theorem ZA1:Zo Tryz.prog 94 (Zxv ZcU):=okF (ZzO Za8 ZL ZE) Tryz.func94 Zp (ZG _ (.cons ZA5 (.cons YV (.cons ZA2 .nil))) .nil .nil .nil (ZF _))
abbrev Zxu (f:Zu7):Zh:=⟨[.agg [.I .u8,.S,.L,.L]],[.one (.B)],fun t K _ h=>f t.1 (fun r0 h=>K (r0,()) h) h⟩
abbrev ZBW:Cfg:=ZW Tryz.prog [] 3 [] [] [] ZY
theorem ZzN:Z3 (ZBW) Tryz.f119 (.leaf) (Zxu ZdG):=fun _ _ _ _=>by kernel_rfl
theorem ZA0:Zo Tryz.prog 119 (Zxu ZcP):=okF (ZzN) Tryz.func119 Zp (ZG _ .nil .nil .nil .nil (ZF _))
abbrev Zo9 (f:Zhv):Zh:=⟨[.one (.P),.agg [.I .u8,.S,.L,.L],.one (.I .i64),.one (.V)],[.one (.B)],fun t K _ h=>f t.1 t.2.1 t.2.2.1 t.2.2.2.1 (fun r0 h=>K (r0,()) h) h⟩
abbrev Zxt (f:Zu6):Zh:=⟨[.agg [.I .u8,.S,.L,.L],.one (.P),.one (.P),.one (.P)],[.one (.B)],fun t K _ h=>f t.1 t.2.1 t.2.2.1 t.2.2.2.1 (fun r0 h=>K (r0,()) h) h⟩
abbrev ZBU (f53:Zhv):Cfg:=ZW Tryz.prog [(93,Zo9 f53)] 13 [] [] [] ZY
theorem ZzL (f53:Zhv):Z3 (ZBU f53) Tryz.f161 (.leaf) (Zxt (ZbZ f53)):=fun _ _ _ _=>by kernel_rfl
theorem ZAA (f53:Zhv) (hH:Zo Tryz.prog 93 (Zo9 f53)):Zo Tryz.prog 161 (Zxt (ZaA f53)):=okF (ZzL f53) Tryz.func161 Zp (ZG _ (.cons hH .nil) .nil .nil .nil (ZF _)) (hlen:=Nat.le_of_ble_eq_true rfl)
abbrev Zxs (f:Zu5):Zh:=⟨[.one (.L),.clo 161 [.P,.P,.P]],[.one (.I .i64)],fun t K _ h=>f t.1 t.2.1 (fun r0 h=>K (r0,()) h) h⟩
abbrev ZBT (f54:Zu6):Cfg:=ZW Tryz.prog [(161,Zxt f54)] 19 [] [] [] ZY
theorem ZzK (f54:Zu6):Z3 (ZBT f54) Tryz.f236 (.seq (.leaf) (.seq (.seq (.leaf) (.block (.loop [8] [.one (.I .i64)] [(4,5),(9,18)] (.leaf)))) (.leaf))) (Zxs (ZT f54)):=fun _ _ _ _=>by kernel_rfl
theorem ZAz (f53:Zhv) (hH:Zo Tryz.prog 93 (Zo9 f53)):Zo Tryz.prog 236 (Zxs (ZH f53)):=okF (ZzK (ZaA f53)) Tryz.func236 Zp (ZG _ (.cons (ZAA f53 hH) .nil) .nil .nil .nil (ZF _)) (hlen:=Nat.le_of_ble_eq_true rfl)
abbrev Zxr (f:Zu4):Zh:=⟨[.one (.L),.clo 161 [.P,.P,.P]],[.one (.B)],fun t K _ h=>f t.1 t.2.1 (fun r0 h=>K (r0,()) h) h⟩
abbrev ZBS (f55:Zu5):Cfg:=ZW Tryz.prog [(236,Zxs f55)] 9 [] [] [] ZY
theorem ZzJ (f55:Zu5):Z3 (ZBS f55) Tryz.f160 (.leaf) (Zxr (ZP f55)):=fun _ _ _ _=>by kernel_rfl
theorem ZAy (f53:Zhv) (hH:Zo Tryz.prog 93 (Zo9 f53)):Zo Tryz.prog 160 (Zxr (Zw f53)):=okF (ZzJ (ZH f53)) Tryz.func160 Zp (ZG _ (.cons (ZAz f53 hH) .nil) .nil .nil .nil (ZF _)) (hlen:=Nat.le_of_ble_eq_true rfl)
abbrev ZBV (f51:Zu8) (f52:Zu7) (f56:Zu4):Cfg:=ZW Tryz.prog [(94,Zxv f51),(119,Zxu f52),(160,Zxr f56)] 52 [] [] [] ZY [(94,[]),(119,[])]
theorem ZzM (f51:Zu8) (f52:Zu7) (f56:Zu4):Z3 (ZBV f51 f52 f56) Tryz.f93 (.seq (.leaf) (.seq (.leaf) (.seq (.leaf) (.cut [] [] [(8,8),(27,34)] (.leaf) (.seq (.order (.take 0 (.take 1 (.take 2 (.take 3 (.take 4 (.take 5 (.take 6 (.take 7 (.take 8 (.take 9 (.take 10 .done)))))))))))) (.leaf)))))) (Zo9 (ZcG f51 f52 f56)):=fun _ _ _ _=>by kernel_rfl
theorem ZAB (f53:Zhv) (hH:Zo Tryz.prog 93 (Zo9 f53)):Zo Tryz.prog 93 (Zo9 (Zbq f53)):=okF (ZzM ZcU ZcP (Zw f53)) Tryz.func93 Zp (ZG _ (.cons ZA1 (.cons ZA0 (.cons (ZAy f53 hH) .nil))) .nil .nil .nil (ZF _)) (hlen:=Nat.le_of_ble_eq_true rfl)
theorem ZyP:∀ n,Zo Tryz.prog 93 (Zo9 (Xe n))
 | 0=>ZcC Tryz.func93 (by kernel_rfl) (by kernel_rfl) fun _ _ _ _ h=>h
 | n+1=>ZAB _ (ZyP n)
theorem ZyY:Zo Tryz.prog 93 (Zo9 Zat):=ZgI ZyP
abbrev Zuv (f:Zm7):Zh:=⟨[.agg [.I .u8,.S,.L,.L]],[.one (.B)],fun t K _ h=>f t.1 (fun r0 h=>K (r0,()) h) h⟩
abbrev ZBR (f53:Zhv):Cfg:=ZW Tryz.prog [(93,Zo9 f53)] 16 [] [] [] ZY
theorem ZzI (f53:Zhv):Z3 (ZBR f53) Tryz.f22 (.leaf) (Zuv (ZeU f53)):=fun _ _ _ _=>by kernel_rfl
theorem Zwo:Zo Tryz.prog 22 (Zuv Xl):=okF (ZzI Zat) Tryz.func22 Zp (ZG _ (.cons ZyY .nil) .nil .nil .nil (ZF _))
abbrev Zww (f:ZsL):Zh:=⟨[.one (.P)],[.one (.I .i64)],fun t K _ h=>f t.1 (fun r0 h=>K (r0,()) h) h⟩
abbrev ZBQ:Cfg:=ZW Tryz.prog [] 8 [] [] [] ZY
theorem ZzH:Z3 (ZBQ) Tryz.f114 (.leaf) (Zww Zba):=fun _ _ _ _=>by kernel_rfl
theorem ZyX:Zo Tryz.prog 114 (Zww YB):=okF (ZzH) Tryz.func114 Zp (ZG _ .nil .nil .nil .nil (ZF _))
abbrev Zxq (f:Zu3):Zh:=⟨[.one (.P),.one (.S)],[],fun t K _ h=>f t.1 t.2.1 (fun h=>K (()) h) h⟩
abbrev ZBP (f6:zT6) (f0:zT0) (f17:Zpd):Cfg:=ZW Tryz.prog [(184,zk6 f6),(171,⟨[.one (.S),.one (.I .u8)],[.one (.I .i64)],fun t K _ h=>f0 t.1 t.2.1 (fun r0 h=>K (r0,()) h) h⟩),(183,ZuP f17)] 81 [] [] [] ZY
theorem ZzG (f6:zT6) (f0:zT0) (f17:Zpd):Z3 (ZBP f6 f0 f17) Tryz.f201 (.seq (.leaf) (.seq (.seq (.leaf) (.block (.loop [13] [.one (.I .i64)] [(4,6),(14,76)] (.seq (.leaf) (.seq (.leaf) (.seq (.block (.seq (.leaf) (.seq (.leaf) (.seq (.leaf) (.block (.cut [26] [.one (.B)] [(27,32)] (.leaf) (.cond (.leaf) (.seq (.leaf) (.cond (.seq (.leaf) (.order (.take 0 (.take 1 (.take 2 (.take 3 (.take 4 (.take 5 .done)))))))) (.seq (.leaf) (.cond (.seq (.leaf) (.seq (.order (.take 0 (.take 1 (.take 2 (.take 3 (.take 4 (.take 5 (.take 6 .done)))))))) (.order (.take 0 (.take 1 (.take 2 (.take 3 (.take 4 (.take 5 (.take 6 .done)))))))))) (.leaf)))))))))))) (.leaf))))))) (.leaf))) (Zxq (Zco f6 f0 f17)):=fun _ _ _ _=>by kernel_rfl
theorem ZAZ:Zo Tryz.prog 201 (Zxq X9):=okF (ZzG ZA Yz Zz) Tryz.func201 Zp (ZG _ (.cons zo6 (.cons Zbw (.cons Zw4 .nil))) .nil .nil .nil (ZF _))
abbrev Ztp (f:Zm6):Zh:=⟨[.one (.P),.agg [.I .u8,.S,.L,.L]],[],fun t K _ h=>f t.1 t.2.1 (fun h=>K (()) h) h⟩
abbrev ZBO (f58:ZsL) (f17:Zpd) (f59:Zu3) (f6:zT6) (f60:Zm6):Cfg:=ZW Tryz.prog [(114,Zww f58),(183,ZuP f17),(201,Zxq f59),(184,zk6 f6),(113,Ztp f60)] 93 [] [] [] ZY
theorem ZzF (f58:ZsL) (f17:Zpd) (f59:Zu3) (f6:zT6) (f60:Zm6):Z3 (ZBO f58 f17 f59 f6 f60) Tryz.f113 (.seq (.leaf) (.seq (.leaf) (.seq (.leaf) (.block (.seq (.leaf) (.cond (.leaf) (.seq (.leaf) (.cond (.leaf) (.seq (.leaf) (.cond (.leaf) (.seq (.leaf) (.cond (.order (.take 0 (.take 1 (.take 2 (.take 3 (.take 4 (.take 5 .done))))))) (.seq (.leaf) (.cond (.leaf) (.seq (.leaf) (.cut [4] [.one (.S)] [(14,16)] (.leaf) (.seq (.order (.take 0 (.take 1 (.take 2 (.take 3 (.take 4 (.take 5 .done))))))) (.seq (.seq (.leaf) (.block (.loop [26] [.one (.I .i64)] [(5,6),(27,54)] (.seq (.leaf) (.seq (.leaf) (.seq (.block (.seq (.leaf) (.cut [] [] [(31,36)] (.leaf) (.cut [] [] [(37,50)] (.leaf) (.leaf))))) (.leaf))))))) (.order (.take 0 (.take 1 (.take 2 (.take 3 (.take 4 (.take 5 .done))))))))))))))))))))))))) (Ztp (ZbW f58 f17 f59 f6 f60)):=fun _ _ _ _=>by kernel_rfl
theorem ZAx (f60:Zm6) (hH:Zo Tryz.prog 113 (Ztp f60)):Zo Tryz.prog 113 (Ztp (Zay f60)):=okF (ZzF YB Zz X9 ZA f60) Tryz.func113 Zp (ZG _ (.cons ZyX (.cons Zw4 (.cons ZAZ (.cons zo6 (.cons hH .nil))))) .nil .nil .nil (ZF _)) (hlen:=Nat.le_of_ble_eq_true rfl)
theorem ZyO:∀ n,Zo Tryz.prog 113 (Ztp (YP n))
 | 0=>ZcC Tryz.func113 (by kernel_rfl) (by kernel_rfl) fun _ _ _ _ h=>h
 | n+1=>ZAx _ (ZyO n)
theorem ZAY:Zo Tryz.prog 113 (Ztp ZbS):=ZgI ZyO
abbrev ZuO (f:Zpc):Zh:=⟨[.agg [.I .u8,.S,.L,.L]],[.one (.S),.one (.I .i64)],fun t K _ h=>f t.1 (fun r0 r1 h=>K (r0,r1,()) h) h⟩
abbrev ZBN (f57:Zm7) (f60:Zm6) (f58:ZsL) (f4:zT4):Cfg:=ZW Tryz.prog [(22,Zuv f57),(113,Ztp f60),(114,Zww f58),(115,⟨[.one (.P)],[.one (.S)],fun t K _ h=>f4 t.1 (fun r0 h=>K (r0,()) h) h⟩)] 15 [] [] [] ZY
theorem ZzE (f57:Zm7) (f60:Zm6) (f58:ZsL) (f4:zT4):Z3 (ZBN f57 f60 f58 f4) Tryz.f36 (.leaf) (ZuO (ZeV f57 f60 f58 f4)):=fun _ _ _ _=>by kernel_rfl
theorem Zw3:Zo Tryz.prog 36 (ZuO Zab):=okF (ZzE Xl ZbS YB Yt) Tryz.func36 Zp (ZG _ (.cons Zwo (.cons ZAY (.cons ZyX (.cons ZbI .nil)))) .nil .nil .nil (ZF _))
abbrev Zxp (f:Zu2):Zh:=⟨[.one (.I .i64)],[.agg [.I .u8,.S,.L,.L]],fun t K _ h=>f t.1 (fun r0 h=>K (r0,()) h) h⟩
abbrev ZBM (f62:Zya):Cfg:=ZW Tryz.prog [(31,⟨[.one (.I .i64)],[.one (.S)],fun t K _ h=>f62 t.1 (fun r0 h=>K (r0,()) h) h⟩)] 6 [] [] [] ZY
theorem ZzD (f62:Zya):Z3 (ZBM f62) Tryz.f30 (.leaf) (Zxp (ZeW f62)):=fun _ _ _ _=>by kernel_rfl
theorem ZAX:Zo Tryz.prog 30 (Zxp ZcW):=okF (ZzD ZdE) Tryz.func30 Zp (ZG _ (.cons Zh6 .nil) .nil .nil .nil (ZF _))
abbrev Zxo (f:Zu1):Zh:=⟨[.one (.S),.one (.S)],[.one (.S),.one (.B)],fun t K _ h=>f t.1 t.2.1 (fun r0 r1 h=>K (r0,r1,()) h) h⟩
abbrev ZBL (f8:zT8):Cfg:=ZW Tryz.prog [(249,zk8 f8)] 15 [] [] [] ZY
theorem ZzC (f8:zT8):Z3 (ZBL f8) Tryz.f180 (.leaf) (Zxo (Y9 f8)):=fun _ _ _ _=>by kernel_rfl
theorem ZAW:Zo Tryz.prog 180 (Zxo Yw):=okF (ZzC ZC) Tryz.func180 Zp (ZG _ (.cons zo8 .nil) .nil .nil .nil (ZF _))
abbrev Zxn (f:Zu0):Zh:=⟨[.one (.S),.one (.S)],[.one (.S),.one (.B)],fun t K _ h=>f t.1 t.2.1 (fun r0 r1 h=>K (r0,r1,()) h) h⟩
abbrev ZBK (f64:Zu1):Cfg:=ZW Tryz.prog [(180,Zxo f64)] 11 [] [] [] ZY
theorem ZzB (f64:Zu1):Z3 (ZBK f64) Tryz.f101 (.leaf) (Zxn (ZbU f64)):=fun _ _ _ _=>by kernel_rfl
theorem ZAV:Zo Tryz.prog 101 (Zxn XO):=okF (ZzB Yw) Tryz.func101 Zp (ZG _ (.cons ZAW .nil) .nil .nil .nil (ZF _))
abbrev Zxm (f:ZuZ):Zh:=⟨[.one (.S),.one (.S)],[.one (.S)],fun t K _ h=>f t.1 t.2.1 (fun r0 h=>K (r0,()) h) h⟩
abbrev ZBJ (f8:zT8):Cfg:=ZW Tryz.prog [(249,zk8 f8)] 13 [] [] [] ZY
theorem ZzA (f8:zT8):Z3 (ZBJ f8) Tryz.f261 (.leaf) (Zxm (Y4 f8)):=fun _ _ _ _=>by kernel_rfl
theorem ZAU:Zo Tryz.prog 261 (Zxm Ys):=okF (ZzA ZC) Tryz.func261 Zp (ZG _ (.cons zo8 .nil) .nil .nil .nil (ZF _))
abbrev Zxl (f:ZuY):Zh:=⟨[.one (.S),.one (.S)],[.one (.S)],fun t K _ h=>f t.1 t.2.1 (fun r0 h=>K (r0,()) h) h⟩
abbrev ZBI (f70:ZuZ):Cfg:=ZW Tryz.prog [(261,Zxm f70)] 8 [] [] [] ZY
theorem Zzz (f70:ZuZ):Z3 (ZBI f70) Tryz.f194 (.leaf) (Zxl (Zby f70)):=fun _ _ _ _=>by kernel_rfl
theorem ZAT:Zo Tryz.prog 194 (Zxl Xz):=okF (Zzz Ys) Tryz.func194 Zp (ZG _ (.cons ZAU .nil) .nil .nil .nil (ZF _))
abbrev Zxk (f:ZuX):Zh:=⟨[.one (.S)],[.one (.I .i64),.one (.B)],fun t K _ h=>f t.1 (fun r0 r1 h=>K (r0,r1,()) h) h⟩
abbrev ZBH (f71:ZuY) (f72:Zuy):Cfg:=ZW Tryz.prog [(194,Zxl f71),(108,⟨[.one (.S)],[.one (.I .i64),.one (.V)],fun t K _ h=>f72 t.1 (fun r0 r1 h=>K (r0,r1,()) h) h⟩)] 25 [] [] [] ZY
theorem Zzy (f71:ZuY) (f72:Zuy):Z3 (ZBH f71 f72) Tryz.f106 (.leaf) (Zxk (Zdp f71 f72)):=fun _ _ _ _=>by kernel_rfl
theorem ZAS:Zo Tryz.prog 106 (Zxk Za9):=okF (Zzy Xz Zah) Tryz.func106 Zp (ZG _ (.cons ZAT (.cons ZeJ .nil)) .nil .nil .nil (ZF _))
abbrev Zxj (f:ZuW):Zh:=⟨[.agg [.I .u8,.S,.L,.L]],[.one (.I .i64),.one (.B)],fun t K _ h=>f t.1 (fun r0 r1 h=>K (r0,r1,()) h) h⟩
abbrev ZBG (f57:Zm7) (f65:Zu0) (f66:Zx9) (f67:Zx8) (f68:Zx7) (f69:Zx6) (f73:ZuX) (f74:Zx5) (f72:Zuy):Cfg:=ZW Tryz.prog [(22,Zuv f57),(101,Zxn f65),(103,⟨[.one (.S)],[.one (.S)],fun t K _ h=>f66 t.1 (fun r0 h=>K (r0,()) h) h⟩),(102,⟨[.one (.S),.one (.S)],[.one (.S),.one (.S),.one (.B)],fun t K _ h=>f67 t.1 t.2.1 (fun r0 r1 r2 h=>K (r0,r1,r2,()) h) h⟩),(104,⟨[.one (.S),.one (.S)],[.one (.S)],fun t K _ h=>f68 t.1 t.2.1 (fun r0 h=>K (r0,()) h) h⟩),(105,⟨[.one (.S),.one (.S)],[.one (.S)],fun t K _ h=>f69 t.1 t.2.1 (fun r0 h=>K (r0,()) h) h⟩),(106,Zxk f73),(107,⟨[.one (.S),.one (.I .i64)],[.one (.S)],fun t K _ h=>f74 t.1 t.2.1 (fun r0 h=>K (r0,()) h) h⟩),(108,⟨[.one (.S)],[.one (.I .i64),.one (.V)],fun t K _ h=>f72 t.1 (fun r0 r1 h=>K (r0,r1,()) h) h⟩)] 92 [] [] [] ZY
theorem Zzx (f57:Zm7) (f65:Zu0) (f66:Zx9) (f67:Zx8) (f68:Zx7) (f69:Zx6) (f73:ZuX) (f74:Zx5) (f72:Zuy):Z3 (ZBG f57 f65 f66 f67 f68 f69 f73 f74 f72) Tryz.f28 (.seq (.leaf) (.seq (.leaf) (.seq (.leaf) (.seq (.leaf) (.seq (.leaf) (.seq (.leaf) (.seq (.leaf) (.seq (.leaf) (.seq (.leaf) (.seq (.leaf) (.seq (.leaf) (.seq (.leaf) (.seq (.leaf) (.cut [11] [.one (.S)] [(81,83)] (.leaf) (.leaf))))))))))))))) (Zxj (ZeT f57 f65 f66 f67 f68 f69 f73 f74 f72)):=fun _ _ _ _=>by kernel_rfl
theorem ZAR:Zo Tryz.prog 28 (Zxj ZcV):=okF (Zzx Xl XO ZcD Zcj Zci ZaB Za9 ZcZ Zah) Tryz.func28 Zp (ZG _ (.cons Zwo (.cons ZAV (.cons Zf2 (.cons Zi4 (.cons ZfE (.cons Zfp (.cons ZAS (.cons ZgH (.cons ZeJ .nil))))))))) .nil .nil .nil (ZF _))
abbrev Zto (f:Zn9):Zh:=⟨[.agg [.I .u8,.S,.L,.L],.one (.I .i64)],[.one (.I .i64)],fun t K _ h=>f t.1 t.2.1 (fun r0 h=>K (r0,()) h) h⟩
abbrev ZBF (f76:Zn9):Cfg:=ZW Tryz.prog [(204,Zto f76)] 27 [] [] [] ZY
theorem Zzw (f76:Zn9):Z3 (ZBF f76) Tryz.f204 (.seq (.leaf) (.seq (.leaf) (.seq (.seq (.leaf) (.block (.loop [5,11] [.one (.I .i64),.one (.I .i64)] [(7,7),(12,25)] (.leaf)))) (.leaf)))) (Zto (Zd8 f76)):=fun _ _ _ _=>by kernel_rfl
theorem ZAw (f76:Zn9) (hH:Zo Tryz.prog 204 (Zto f76)):Zo Tryz.prog 204 (Zto (Zc3 f76)):=okF (Zzw f76) Tryz.func204 Zp (ZG _ (.cons hH .nil) .nil .nil .nil (ZF _)) (hlen:=Nat.le_of_ble_eq_true rfl)
theorem ZyN:∀ n,Zo Tryz.prog 204 (Zto (Zar n))
 | 0=>ZcC Tryz.func204 (by kernel_rfl) (by kernel_rfl) fun _ _ _ _ h=>h
 | n+1=>ZAw _ (ZyN n)
theorem ZAQ:Zo Tryz.prog 204 (Zto Zd3):=ZgI ZyN
abbrev Zwv (f:ZsK):Zh:=⟨[.agg [.I .u8,.S,.L,.L]],[.one (.B)],fun t K _ h=>f t.1 (fun r0 h=>K (r0,()) h) h⟩
abbrev ZBE (f76:Zn9):Cfg:=ZW Tryz.prog [(204,Zto f76)] 6 [] [] [] ZY
theorem Zzv (f76:Zn9):Z3 (ZBE f76) Tryz.f118 (.leaf) (Zwv (ZeR f76)):=fun _ _ _ _=>by kernel_rfl
theorem ZyW:Zo Tryz.prog 118 (Zwv Za7):=okF (Zzv Zd3) Tryz.func118 Zp (ZG _ (.cons ZAQ .nil) .nil .nil .nil (ZF _))
abbrev ZuN (f:Zpb):Zh:=⟨[.agg [.I .u8,.S,.L,.L]],[.one (.I .i64)],fun t K _ h=>f t.1 (fun r0 h=>K (r0,()) h) h⟩
abbrev ZBD (f77:ZsK) (f53:Zhv):Cfg:=ZW Tryz.prog [(118,Zwv f77),(93,Zo9 f53)] 19 [] [] [] ZY
theorem Zzu (f77:ZsK) (f53:Zhv):Z3 (ZBD f77 f53) Tryz.f39 (.leaf) (ZuN (ZeY f77 f53)):=fun _ _ _ _=>by kernel_rfl
theorem Zw2:Zo Tryz.prog 39 (ZuN Zac):=okF (Zzu Za7 Zat) Tryz.func39 Zp (ZG _ (.cons ZyW (.cons ZyY .nil)) .nil .nil .nil (ZF _))
abbrev Zwu (f:ZsJ):Zh:=⟨[],[.one (.B)],fun _ K _ h=>f (fun r0 h=>K (r0,()) h) h⟩
abbrev ZBC (f26:Ztx) (f61:Zpc) (f63:Zu2) (f75:ZuW) (f78:Zpb):Cfg:=ZW Tryz.prog [(25,⟨[.one (.S)],[.agg [.I .u8,.S,.L,.L],.one (.I .i64),.one (.I .i64)],fun t K _ h=>f26 t.1 (fun r0 r1 r2 h=>K (r0,r1,r2,()) h) h⟩),(36,ZuO f61),(30,Zxp f63),(28,Zxj f75),(39,ZuN f78)] 61 [] [] [] ZY
theorem Zzt (f26:Ztx) (f61:Zpc) (f63:Zu2) (f75:ZuW) (f78:Zpb):Z3 (ZBC f26 f61 f63 f75 f78) Tryz.f27 (.leaf) (Zwu (ZbA f26 f61 f63 f75 f78)):=fun _ _ _ _=>by kernel_rfl
theorem ZyV:Zo Tryz.prog 27 (Zwu YI):=okF (Zzt XK Zab ZcW ZcV Zac) Tryz.func27 Zp (ZG _ (.cons Zf3 (.cons Zw3 (.cons ZAX (.cons ZAR (.cons Zw2 .nil))))) .nil .nil .nil (ZF _))
abbrev Zwt (f:ZsI):Zh:=⟨[.one (.L),.one (.L)],[.one (.B)],fun t K _ h=>f t.1 t.2.1 (fun r0 h=>K (r0,()) h) h⟩
abbrev ZBB:Cfg:=ZW Tryz.prog [] 26 [] [] [] ZY
theorem Zzs:Z3 (ZBB) Tryz.f83 (.seq (.leaf) (.seq (.leaf) (.seq (.seq (.leaf) (.block (.loop [5] [.one (.I .i64)] [(4,4),(11,25)] (.leaf)))) (.leaf)))) (Zwt ZaF):=fun _ _ _ _=>by kernel_rfl
theorem ZyU:Zo Tryz.prog 83 (Zwt Yg):=okF (Zzs) Tryz.func83 Zp (ZG _ .nil .nil .nil .nil (ZF _))
abbrev Ztn (f:Zo3):Zh:=⟨[.agg [.I .u8,.S,.L,.L],.agg [.I .u8,.S,.L,.L]],[.one (.B)],fun t K _ h=>f t.1 t.2.1 (fun r0 h=>K (r0,()) h) h⟩
abbrev ZBA (f80:ZsI) (f81:Zo3):Cfg:=ZW Tryz.prog [(83,Zwt f80),(18,Ztn f81)] 54 [] [] [] ZY
theorem Zzr (f80:ZsI) (f81:Zo3):Z3 (ZBA f80 f81) Tryz.f18 (.seq (.leaf) (.seq (.leaf) (.seq (.seq (.leaf) (.block (.loop [5] [.one (.I .i64)] [(4,4),(35,53)] (.seq (.leaf) (.seq (.block (.seq (.order (.take 0 (.take 2 (.take 5 (.take 7 (.take 1 (.take 3 (.take 4 (.take 6 (.take 8 (.take 9 (.take 10 (.take 11 .done))))))))))))) (.leaf))) (.leaf)))))) (.leaf)))) (Ztn (ZaE f80 f81)):=fun _ _ _ _=>by kernel_rfl
theorem ZAv (f81:Zo3) (hH:Zo Tryz.prog 18 (Ztn f81)):Zo Tryz.prog 18 (Ztn (Zax f81)):=okF (Zzr Yg f81) Tryz.func18 Zp (ZG _ (.cons ZyU (.cons hH .nil)) .nil .nil .nil (ZF _)) (hlen:=Nat.le_of_ble_eq_true rfl)
theorem ZyM:∀ n,Zo Tryz.prog 18 (Ztn (YL n))
 | 0=>ZcC Tryz.func18 (by kernel_rfl) (by kernel_rfl) fun _ _ _ _ h=>h
 | n+1=>ZAv _ (ZyM n)
theorem ZAP:Zo Tryz.prog 18 (Ztn XH):=ZgI ZyM
abbrev Ztm (f:Zn8):Zh:=⟨[.agg [.I .u8,.S,.L,.L],.one (.I .i64)],[.one (.I .i64)],fun t K _ h=>f t.1 t.2.1 (fun r0 h=>K (r0,()) h) h⟩
abbrev ZBz (f85:Zn8):Cfg:=ZW Tryz.prog [(111,Ztm f85)] 31 [] [] [] ZY
theorem Zzq (f85:Zn8):Z3 (ZBz f85) Tryz.f111 (.seq (.leaf) (.seq (.leaf) (.seq (.seq (.leaf) (.block (.loop [5,6] [.one (.I .i64),.one (.I .i64)] [(7,29)] (.leaf)))) (.leaf)))) (Ztm (Zbf f85)):=fun _ _ _ _=>by kernel_rfl
theorem ZAu (f85:Zn8) (hH:Zo Tryz.prog 111 (Ztm f85)):Zo Tryz.prog 111 (Ztm (X7 f85)):=okF (Zzq f85) Tryz.func111 Zp (ZG _ (.cons hH .nil) .nil .nil .nil (ZF _)) (hlen:=Nat.le_of_ble_eq_true rfl)
theorem ZyL:∀ n,Zo Tryz.prog 111 (Ztm (YG n))
 | 0=>ZcC Tryz.func111 (by kernel_rfl) (by kernel_rfl) fun _ _ _ _ h=>h
 | n+1=>ZAu _ (ZyL n)
theorem ZAO:Zo Tryz.prog 111 (Ztm Za6):=ZgI ZyL
abbrev ZuM (f:Zpa):Zh:=⟨[.agg [.I .u8,.S,.L,.L]],[.one (.B)],fun t K _ h=>f t.1 (fun r0 h=>K (r0,()) h) h⟩
abbrev ZBy (f85:Zn8):Cfg:=ZW Tryz.prog [(111,Ztm f85)] 6 [] [] [] ZY
theorem Zzp (f85:Zn8):Z3 (ZBy f85) Tryz.f33 (.leaf) (ZuM (Zbj f85)):=fun _ _ _ _=>by kernel_rfl
theorem Zw1:Zo Tryz.prog 33 (ZuM Z5):=okF (Zzp Za6) Tryz.func33 Zp (ZG _ (.cons ZAO .nil) .nil .nil .nil (ZF _))
abbrev Zxi (f:ZuV):Zh:=⟨[.one (.S)],[.one (.B)],fun t K _ h=>f t.1 (fun r0 h=>K (r0,()) h) h⟩
abbrev ZBx (f36:ZsO):Cfg:=ZW Tryz.prog [(273,Zwz f36)] 54 [] [] [] ZY
theorem Zzo (f36:ZsO):Z3 (ZBx f36) Tryz.f203 (.seq (.leaf) (.seq (.seq (.leaf) (.block (.loop [3] [.one (.I .i64)] [(2,2),(4,53)] (.seq (.leaf) (.block (.seq (.leaf) (.seq (.leaf) (.seq (.seq (.leaf) (.block (.loop [5,6,7] [.one (.I .u8),.one (.I .u8),.one (.I .i64)] [(2,2),(30,50)] (.leaf)))) (.leaf))))))))) (.leaf))) (Zxi (Zbc f36)):=fun _ _ _ _=>by kernel_rfl
theorem ZAN:Zo Tryz.prog 203 (Zxi Xh):=okF (Zzo Yo) Tryz.func203 Zp (ZG _ (.cons Zy1 .nil) .nil .nil .nil (ZF _))
abbrev Ztl (f:Zn7):Zh:=⟨[.agg [.I .u8,.S,.L,.L],.one (.I .i64)],[.one (.B)],fun t K _ h=>f t.1 t.2.1 (fun r0 h=>K (r0,()) h) h⟩
abbrev ZBw (f46:Zvd) (f87:ZuV) (f88:Zn7):Cfg:=ZW Tryz.prog [(26,ZxA f46),(203,Zxi f87),(117,Ztl f88)] 133 [] [] [] ZY
theorem Zzn (f46:Zvd) (f87:ZuV) (f88:Zn7):Z3 (ZBw f46 f87 f88) Tryz.f117 (.seq (.leaf) (.cut [] [] [(4,4),(10,49)] (.leaf) (.cut [] [] [(4,7),(50,86)] (.seq (.leaf) (.block (.cut [52] [.one (.B)] [(53,55)] (.leaf) (.leaf)))) (.cut [] [] [(4,4),(87,102)] (.leaf) (.seq (.seq (.leaf) (.block (.loop [8] [.one (.I .i64)] [(4,4),(103,116)] (.leaf)))) (.seq (.seq (.leaf) (.block (.loop [9] [.one (.I .i64)] [(4,4),(117,132)] (.leaf)))) (.leaf))))))) (Ztl (Zbb f46 f87 f88)):=fun _ _ _ _=>by kernel_rfl
theorem ZAt (f88:Zn7) (hH:Zo Tryz.prog 117 (Ztl f88)):Zo Tryz.prog 117 (Ztl (X5 f88)):=okF (Zzn Xj Xh f88) Tryz.func117 Zp (ZG _ (.cons ZA6 (.cons ZAN (.cons hH .nil))) .nil .nil .nil (ZF _)) (hlen:=Nat.le_of_ble_eq_true rfl)
theorem ZyK:∀ n,Zo Tryz.prog 117 (Ztl (YE n))
 | 0=>ZcC Tryz.func117 (by kernel_rfl) (by kernel_rfl) fun _ _ _ _ h=>h
 | n+1=>ZAt _ (ZyK n)
theorem ZAM:Zo Tryz.prog 117 (Ztl Za4):=ZgI ZyK
abbrev Zws (f:ZsH):Zh:=⟨[.agg [.I .u8,.S,.L,.L]],[.one (.B)],fun t K _ h=>f t.1 (fun r0 h=>K (r0,()) h) h⟩
abbrev ZBv (f86:Zpa) (f88:Zn7):Cfg:=ZW Tryz.prog [(33,ZuM f86),(117,Ztl f88)] 10 [] [] [] ZY
theorem Zzm (f86:Zpa) (f88:Zn7):Z3 (ZBv f86 f88) Tryz.f38 (.leaf) (Zws (Zbg f86 f88)):=fun _ _ _ _=>by kernel_rfl
theorem ZyT:Zo Tryz.prog 38 (Zws YC):=okF (Zzm Z5 Za4) Tryz.func38 Zp (ZG _ (.cons Zw1 (.cons ZAM .nil)) .nil .nil .nil (ZF _))
abbrev Zxh (f:ZuU):Zh:=⟨[.one (.L),.one (.L)],[.one (.B)],fun t K _ h=>f t.1 t.2.1 (fun r0 h=>K (r0,()) h) h⟩
abbrev ZBu:Cfg:=ZW Tryz.prog [] 26 [] [] [] ZY
theorem Zzl:Z3 (ZBu) Tryz.f205 (.seq (.leaf) (.seq (.leaf) (.seq (.seq (.leaf) (.block (.loop [13] [.one (.I .i64)] [(4,5),(14,25)] (.leaf)))) (.leaf)))) (Zxh Xw):=fun _ _ _ _=>by kernel_rfl
theorem ZAL:Zo Tryz.prog 205 (Zxh Yl):=okF (Zzl) Tryz.func205 Zp (ZG _ .nil .nil .nil .nil (ZF _))
abbrev ZsF (f:Zm5):Zh:=⟨[.agg [.I .u8,.S,.L,.L],.agg [.I .u8,.S,.L,.L]],[.one (.B)],fun t K _ h=>f t.1 t.2.1 (fun r0 h=>K (r0,()) h) h⟩
abbrev Zxg (f:ZuT):Zh:=⟨[.one (.L),.one (.L),.fn 122],[.one (.B)],fun t K _ h=>f t.1 t.2.1 (fun r0 h=>K (r0,()) h) h⟩
abbrev ZBs (f95:Zm5):Cfg:=ZW Tryz.prog [(122,ZsF f95)] 32 [] [] [] ZY
theorem Zzj (f95:Zm5):Z3 (ZBs f95) Tryz.f206 (.seq (.leaf) (.seq (.leaf) (.seq (.seq (.leaf) (.block (.loop [17] [.one (.I .i64)] [(6,9),(18,31)] (.leaf)))) (.leaf)))) (Zxg (ZI f95)):=fun _ _ _ _=>by kernel_rfl
theorem ZAr (f95:Zm5) (hH:Zo Tryz.prog 122 (ZsF f95)):Zo Tryz.prog 206 (Zxg (Zy f95)):=okF (Zzj f95) Tryz.func206 Zp (ZG _ (.cons hH .nil) .nil .nil .nil (ZF _)) (hlen:=Nat.le_of_ble_eq_true rfl)
abbrev ZBt (f94:ZuU) (f96:ZuT):Cfg:=ZW Tryz.prog [(205,Zxh f94),(206,Zxg f96)] 31 [] [] [] ZY
theorem Zzk (f94:ZuU) (f96:ZuT):Z3 (ZBt f94 f96) Tryz.f122 (.leaf) (ZsF (ZeS f94 f96)):=fun _ _ _ _=>by kernel_rfl
theorem ZAs (f95:Zm5) (hH:Zo Tryz.prog 122 (ZsF f95)):Zo Tryz.prog 122 (ZsF (ZeL f95)):=okF (Zzk Yl (Zy f95)) Tryz.func122 Zp (ZG _ (.cons ZAL (.cons (ZAr f95 hH) .nil)) .nil .nil .nil (ZF _)) (hlen:=Nat.le_of_ble_eq_true rfl)
theorem ZyJ:∀ n,Zo Tryz.prog 122 (ZsF (ZbL n))
 | 0=>ZcC Tryz.func122 (by kernel_rfl) (by kernel_rfl) fun _ _ _ _ h=>h
 | n+1=>ZAs _ (ZyJ n)
theorem ZAK:Zo Tryz.prog 122 (ZsF ZeM):=ZgI ZyJ
abbrev Zxf (f:ZuS):Zh:=⟨[.agg [.I .u8,.S,.L,.L],.agg [.I .u8,.S,.L,.L]],[.one (.B)],fun t K _ h=>f t.1 t.2.1 (fun r0 h=>K (r0,()) h) h⟩
abbrev ZBr (f77:ZsK) (f95:Zm5):Cfg:=ZW Tryz.prog [(118,Zwv f77),(122,ZsF f95)] 16 [] [] [] ZY
theorem Zzi (f77:ZsK) (f95:Zm5):Z3 (ZBr f77 f95) Tryz.f42 (.leaf) (Zxf (ZeX f77 f95)):=fun _ _ _ _=>by kernel_rfl
theorem ZAJ:Zo Tryz.prog 42 (Zxf ZcX):=okF (Zzi Za7 ZeM) Tryz.func42 Zp (ZG _ (.cons ZyW (.cons ZAK .nil)) .nil .nil .nil (ZF _))
abbrev Zxe (f:ZuR):Zh:=⟨[.agg [.I .u8,.S,.L,.L]],[.one (.B)],fun t K _ h=>f t.1 (fun r0 h=>K (r0,()) h) h⟩
abbrev ZBq (f61:Zpc) (f79:ZsJ) (f57:Zm7) (f78:Zpb) (f97:ZuS):Cfg:=ZW Tryz.prog [(36,ZuO f61),(27,Zwu f79),(22,Zuv f57),(39,ZuN f78),(42,Zxf f97)] 31 [] [] [] ZY
theorem Zzh (f61:Zpc) (f79:ZsJ) (f57:Zm7) (f78:Zpb) (f97:ZuS):Z3 (ZBq f61 f79 f57 f78 f97) Tryz.f34 (.leaf) (Zxe (ZaJ f61 f79 f57 f78 f97)):=fun _ _ _ _=>by kernel_rfl
theorem ZAI:Zo Tryz.prog 34 (Zxe YZ):=okF (Zzh Zab YI Xl Zac ZcX) Tryz.func34 Zp (ZG _ (.cons Zw3 (.cons ZyV (.cons Zwo (.cons Zw2 (.cons ZAJ .nil))))) .nil .nil .nil (ZF _))
abbrev Zwr (f:ZsG):Zh:=⟨[.one (.I .i64)],[.one (.S)],fun t K _ h=>f t.1 (fun r0 h=>K (r0,()) h) h⟩
abbrev ZBp:Cfg:=ZW Tryz.prog [] 20 [] [] [] ZY
theorem Zzg:Z3 (ZBp) Tryz.f200 (.leaf) (Zwr Zcn):=fun _ _ _ _=>by kernel_rfl
theorem ZyS:Zo Tryz.prog 200 (Zwr YW):=okF (Zzg) Tryz.func200 Zp (ZG _ .nil .nil .nil .nil (ZF _))
abbrev Ztv (f:Zpi):Zh:=⟨[.one (.L)],[.one (.L)],fun t K _ h=>f t.1 (fun r0 h=>K (r0,()) h) h⟩
abbrev Zx4 (f99:ZsG):Cfg:=ZW Tryz.prog [(200,Zwr f99)] 44 [] [] [] ZY
theorem ZwW (f99:ZsG):Z3 (Zx4 f99) Tryz.f112 (.seq (.leaf) (.seq (.leaf) (.seq (.seq (.leaf) (.block (.loop [4] [.one (.I .i64)] [(10,22)] (.leaf)))) (.seq (.seq (.leaf) (.block (.loop [5] [.one (.I .i64)] [(25,39)] (.leaf)))) (.leaf))))) (Ztv (ZaI f99)):=fun _ _ _ _=>by kernel_rfl
theorem Zxd:Zo Tryz.prog 112 (Ztv YY):=okF (ZwW YW) Tryz.func112 Zp (ZG _ (.cons ZyS .nil) .nil .nil .nil (ZF _))
abbrev Zma (f:Zgm):Zh:=⟨[.agg [.I .u8,.S,.L,.L]],[.agg [.I .u8,.S,.L,.L]],fun t K _ h=>f t.1 (fun r0 h=>K (r0,()) h) h⟩
abbrev Zx3 (f100:Zpi) (f101:Zgm):Cfg:=ZW Tryz.prog [(112,Ztv f100),(35,Zma f101)] 28 [] [] [] ZY
theorem ZwV (f100:Zpi) (f101:Zgm):Z3 (Zx3 f100 f101) Tryz.f35 (.seq (.leaf) (.seq (.leaf) (.seq (.leaf) (.seq (.seq (.leaf) (.block (.loop [3,4] [.one (.L),.one (.I .i64)] [(9,24)] (.leaf)))) (.leaf))))) (Zma (ZaV f100 f101)):=fun _ _ _ _=>by kernel_rfl
theorem Zw0 (f101:Zgm) (hH:Zo Tryz.prog 35 (Zma f101)):Zo Tryz.prog 35 (Zma (XX f101)):=okF (ZwV YY f101) Tryz.func35 Zp (ZG _ (.cons Zxd (.cons hH .nil)) .nil .nil .nil (ZF _)) (hlen:=Nat.le_of_ble_eq_true rfl)
theorem ZuK:∀ n,Zo Tryz.prog 35 (Zma (Yu n))
 | 0=>ZcC Tryz.func35 (by kernel_rfl) (by kernel_rfl) fun _ _ _ _ h=>h
 | n+1=>Zw0 _ (ZuK n)
theorem Zxc:Zo Tryz.prog 35 (Zma ZaS):=ZgI ZuK
abbrev Ztu (f:Zph):Zh:=⟨[.one (.S)],[.one (.S)],fun t K _ h=>f t.1 (fun r0 h=>K (r0,()) h) h⟩
abbrev Zx2:Cfg:=ZW Tryz.prog [] 77 [] [] [] ZY
theorem ZwU:Z3 (Zx2) Tryz.f202 (.seq (.leaf) (.seq (.leaf) (.seq (.leaf) (.seq (.seq (.leaf) (.block (.loop [3,5] [.one (.L),.one (.I .i64)] [(6,6),(8,72)] (.seq (.leaf) (.seq (.block (.seq (.leaf) (.block (.cut [21] [.one (.B)] [(22,27)] (.leaf) (.cond (.leaf) (.seq (.leaf) (.cond (.leaf) (.seq (.leaf) (.cond (.leaf) (.seq (.leaf) (.cond (.leaf) (.seq (.leaf) (.cond (.leaf) (.seq (.leaf) (.cond (.leaf) (.seq (.leaf) (.cond (.seq (.leaf) (.order (.take 0 (.take 1 (.take 2 (.take 3 (.take 4 (.take 5 (.take 6 (.take 7 (.take 8 (.take 9 (.take 10 (.take 11 .done)))))))))))))) (.leaf)))))))))))))))))) (.leaf)))))) (.leaf))))) (Ztu ZaT):=fun _ _ _ _=>by kernel_rfl
theorem Zxb:Zo Tryz.prog 202 (Ztu Xa):=okF (ZwU) Tryz.func202 Zp (ZG _ .nil .nil .nil .nil (ZF _))
abbrev Zl9 (f:Zgl):Zh:=⟨[.agg [.I .u8,.S,.L,.L]],[.one (.S)],fun t K _ h=>f t.1 (fun r0 h=>K (r0,()) h) h⟩
abbrev Zx1 (f102:Zph) (f103:Zgl):Cfg:=ZW Tryz.prog [(202,Ztu f102),(116,Zl9 f103)] 65 [] [] [] ZY
theorem ZwT (f102:Zph) (f103:Zgl):Z3 (Zx1 f102 f103) Tryz.f116 (.seq (.leaf) (.seq (.leaf) (.seq (.leaf) (.seq (.leaf) (.cut [3,4] [.one (.S),.one (.S)] [(23,25)] (.leaf) (.seq (.seq (.leaf) (.block (.loop [3,5] [.one (.S),.one (.I .i64)] [(26,61)] (.seq (.leaf) (.seq (.block (.cut [3] [.one (.S)] [(38,41)] (.leaf) (.cut [3] [.one (.S)] [(42,53)] (.leaf) (.leaf)))) (.leaf)))))) (.leaf))))))) (Zl9 (Zbz f102 f103)):=fun _ _ _ _=>by kernel_rfl
theorem ZwZ (f103:Zgl) (hH:Zo Tryz.prog 116 (Zl9 f103)):Zo Tryz.prog 116 (Zl9 (Zam f103)):=okF (ZwT Xa f103) Tryz.func116 Zp (ZG _ (.cons Zxb (.cons hH .nil)) .nil .nil .nil (ZF _)) (hlen:=Nat.le_of_ble_eq_true rfl)
theorem ZuJ:∀ n,Zo Tryz.prog 116 (Zl9 (YJ n))
 | 0=>ZcC Tryz.func116 (by kernel_rfl) (by kernel_rfl) fun _ _ _ _ h=>h
 | n+1=>ZwZ _ (ZuJ n)
theorem Zxa:Zo Tryz.prog 116 (Zl9 Zbx):=ZgI ZuJ
abbrev Ztt (f:Zpg):Zh:=⟨[.agg [.I .u8,.S,.L,.L]],[.one (.S),.one (.I .i64)],fun t K _ h=>f t.1 (fun r0 r1 h=>K (r0,r1,()) h) h⟩
abbrev Zx0 (f89:ZsH) (f103:Zgl):Cfg:=ZW Tryz.prog [(38,Zws f89),(116,Zl9 f103)] 14 [] [] [] ZY
theorem ZwS (f89:ZsH) (f103:Zgl):Z3 (Zx0 f89 f103) Tryz.f37 (.leaf) (Ztt (Zbh f89 f103)):=fun _ _ _ _=>by kernel_rfl
theorem Zw9:Zo Tryz.prog 37 (Ztt Xi):=okF (ZwS YC Zbx) Tryz.func37 Zp (ZG _ (.cons ZyT (.cons Zxa .nil)) .nil .nil .nil (ZF _))
abbrev Zl8 (f:Zgk):Zh:=⟨[.agg [.I .u8,.S,.L,.L],.one (.I .i64)],[.one (.I .i64)],fun t K _ h=>f t.1 t.2.1 (fun r0 h=>K (r0,()) h) h⟩
abbrev ZxZ (f105:Zgk):Cfg:=ZW Tryz.prog [(120,Zl8 f105)] 41 [] [] [] ZY
theorem ZwR (f105:Zgk):Z3 (ZxZ f105) Tryz.f120 (.seq (.leaf) (.cut [] [] [(4,4),(8,15)] (.leaf) (.seq (.leaf) (.seq (.seq (.leaf) (.block (.loop [5,6] [.one (.I .i64),.one (.I .i64)] [(7,7),(16,39)] (.leaf)))) (.leaf))))) (Zl8 (Zbe f105)):=fun _ _ _ _=>by kernel_rfl
theorem ZwY (f105:Zgk) (hH:Zo Tryz.prog 120 (Zl8 f105)):Zo Tryz.prog 120 (Zl8 (X6 f105)):=okF (ZwR f105) Tryz.func120 Zp (ZG _ (.cons hH .nil) .nil .nil .nil (ZF _)) (hlen:=Nat.le_of_ble_eq_true rfl)
theorem ZuI:∀ n,Zo Tryz.prog 120 (Zl8 (YF n))
 | 0=>ZcC Tryz.func120 (by kernel_rfl) (by kernel_rfl) fun _ _ _ _ h=>h
 | n+1=>ZwY _ (ZuI n)
theorem Zw8:Zo Tryz.prog 120 (Zl8 Za5):=ZgI ZuI
abbrev Zts (f:Zpf):Zh:=⟨[.agg [.I .u8,.S,.L,.L]],[.one (.I .i64)],fun t K _ h=>f t.1 (fun r0 h=>K (r0,()) h) h⟩
abbrev ZxY (f86:Zpa) (f105:Zgk):Cfg:=ZW Tryz.prog [(33,ZuM f86),(120,Zl8 f105)] 7 [] [] [] ZY
theorem ZwQ (f86:Zpa) (f105:Zgk):Z3 (ZxY f86 f105) Tryz.f40 (.leaf) (Zts (Zbk f86 f105)):=fun _ _ _ _=>by kernel_rfl
theorem Zw7:Zo Tryz.prog 40 (Zts Xk):=okF (ZwQ Z5 Za5) Tryz.func40 Zp (ZG _ (.cons Zw1 (.cons Zw8 .nil)) .nil .nil .nil (ZF _))
abbrev Ztr (f:Zpe):Zh:=⟨[.one (.L),.one (.L)],[.one (.B)],fun t K _ h=>f t.1 t.2.1 (fun r0 h=>K (r0,()) h) h⟩
abbrev ZxX (f80:ZsI) (f99:ZsG):Cfg:=ZW Tryz.prog [(83,Zwt f80),(200,Zwr f99)] 35 [] [] [] ZY
theorem ZwP (f80:ZsI) (f99:ZsG):Z3 (ZxX f80 f99) Tryz.f121 (.seq (.leaf) (.seq (.leaf) (.seq (.leaf) (.seq (.seq (.leaf) (.block (.loop [6] [.one (.I .i64)] [(4,4),(18,34)] (.seq (.leaf) (.seq (.block (.seq (.order (.take 0 (.take 1 (.take 2 (.take 4 (.take 5 (.take 6 (.take 7 (.take 8 (.take 3 (.take 9 (.take 10 .done)))))))))))) (.leaf))) (.leaf)))))) (.leaf))))) (Ztr (ZaH f80 f99)):=fun _ _ _ _=>by kernel_rfl
theorem Zw6:Zo Tryz.prog 121 (Ztr YX):=okF (ZwP Yg YW) Tryz.func121 Zp (ZG _ (.cons ZyU (.cons ZyS .nil)) .nil .nil .nil (ZF _))
abbrev Zl7 (f:Zgj):Zh:=⟨[.agg [.I .u8,.S,.L,.L],.agg [.I .u8,.S,.L,.L]],[.one (.B)],fun t K _ h=>f t.1 t.2.1 (fun r0 h=>K (r0,()) h) h⟩
abbrev ZxW (f81:Zo3) (f107:Zpe) (f108:Zgj):Cfg:=ZW Tryz.prog [(18,Ztn f81),(121,Ztr f107),(41,Zl7 f108)] 37 [] [] [] ZY
theorem ZwO (f81:Zo3) (f107:Zpe) (f108:Zgj):Z3 (ZxW f81 f107 f108) Tryz.f41 (.seq (.leaf) (.seq (.leaf) (.seq (.seq (.leaf) (.block (.loop [5] [.one (.I .i64)] [(4,4),(18,36)] (.seq (.leaf) (.seq (.block (.seq (.order (.take 0 (.take 2 (.take 5 (.take 7 (.take 1 (.take 3 (.take 4 (.take 6 (.take 8 (.take 9 (.take 10 (.take 11 .done))))))))))))) (.leaf))) (.leaf)))))) (.leaf)))) (Zl7 (ZaG f81 f107 f108)):=fun _ _ _ _=>by kernel_rfl
theorem ZwX (f108:Zgj) (hH:Zo Tryz.prog 41 (Zl7 f108)):Zo Tryz.prog 41 (Zl7 (XF f108)):=okF (ZwO XH YX f108) Tryz.func41 Zp (ZG _ (.cons ZAP (.cons Zw6 (.cons hH .nil))) .nil .nil .nil (ZF _)) (hlen:=Nat.le_of_ble_eq_true rfl)
theorem ZuH:∀ n,Zo Tryz.prog 41 (Zl7 (Yn n))
 | 0=>ZcC Tryz.func41 (by kernel_rfl) (by kernel_rfl) fun _ _ _ _ h=>h
 | n+1=>ZwX _ (ZuH n)
theorem Zw5:Zo Tryz.prog 41 (Zl7 ZaC):=ZgI ZuH
abbrev ZuQ (f:Zvx):Zh:=⟨[.agg [.I .u8,.S,.L,.L]],[.one (.B)],fun t K _ h=>f t.1 (fun r0 h=>K (r0,()) h) h⟩
abbrev ZxV (f86:Zpa) (f98:ZuR) (f101:Zgm) (f61:Zpc) (f104:Zpg) (f79:ZsJ) (f57:Zm7) (f89:ZsH) (f78:Zpb) (f106:Zpf) (f108:Zgj):Cfg:=ZW Tryz.prog [(33,ZuM f86),(34,Zxe f98),(35,Zma f101),(36,ZuO f61),(37,Ztt f104),(27,Zwu f79),(22,Zuv f57),(38,Zws f89),(39,ZuN f78),(40,Zts f106),(41,Zl7 f108)] 54 [] [] [] ZY
theorem ZwN (f86:Zpa) (f98:ZuR) (f101:Zgm) (f61:Zpc) (f104:Zpg) (f79:ZsJ) (f57:Zm7) (f89:ZsH) (f78:Zpb) (f106:Zpf) (f108:Zgj):Z3 (ZxV f86 f98 f101 f61 f104 f79 f57 f89 f78 f106 f108) Tryz.f10 (.seq (.leaf) (.seq (.leaf) (.seq (.leaf) (.seq (.leaf) (.seq (.leaf) (.seq (.order (.take 0 (.take 1 (.take 2 (.take 4 (.take 3 (.take 5 (.take 6 (.take 7 (.take 8 (.take 9 (.take 10 (.take 11 (.take 12 (.take 13 (.take 14 (.take 15 (.take 16 (.take 17 (.take 18 (.take 19 (.take 21 (.take 20 (.take 22 (.take 23 (.take 24 (.take 25 (.take 26 (.take 27 (.take 28 (.take 29 (.take 30 .done)))))))))))))))))))))))))))))))) (.leaf))))))) (ZuQ (X2 f86 f98 f101 f61 f104 f79 f57 f89 f78 f106 f108)):=fun _ _ _ _=>by kernel_rfl
theorem Zdj:Zo Tryz.prog 10 (ZuQ XZ):=okF (ZwN Z5 YZ ZaS Zab Xi YI Xl YC Zac Xk ZaC) Tryz.func10 Zp (ZG _ (.cons Zw1 (.cons ZAI (.cons Zxc (.cons Zw3 (.cons Zw9 (.cons ZyV (.cons Zwo (.cons ZyT (.cons Zw2 (.cons Zw7 (.cons Zw5 .nil))))))))))) .nil .nil .nil (ZF _))
end
end Go.Proofs.YtpjbjdheeemdiaaGreatDoor
namespace Go.Fw
open Go Go.RowKit
theorem Zqw {P:Program} {f:FuncId} {s:Zh} (ok:Zo P f s) (t:Xg s.args) (w:World) {args:Array Value} (hargs:((Xg.evs s.args t).map EV.v).toArray=args)
    (h:s.sem t (fun r h'=>Zs1 s.res r = .bool true∧Ext w.heap h') (fun _ _=>False) w.heap):Calls P f args w fun e w'=>e = .returned (.bool true)∧Below w.heap.size w w':=by
  rw [← hargs]
  refine (ok.calls t _ _ w h).mono ?_
  rintro e w' (⟨r,rfl,hs,hr,hx⟩ | ⟨v,rfl,hs,hk⟩)
  ·exact ⟨by rw [hr],hs.2.1,hs.1,hs.2.2,hx.size,hx.old⟩
  ·exact hk.elim
end Go.Fw
namespace Go.Proofs.YtpjbjdheeemdiaaGreatDoor
open Go Go.Fw Go.ChangeShapes Go.WideShapes
theorem Zqo {n:Nat} (h:n≤maxLen):n<9223372036854775808:=by
  have e:maxLen=9223372036854775807:=by decide
  omega
theorem ZpK {w:World} {a:Addr} {v:Value} (h:w.cell? a=some v):a=⟨a.block,a.off,none⟩:=by
  obtain ⟨b,o,s⟩:=a
  unfold World.cell? at h
  split at h
  ·cases s with
   | none=>rfl
   | some s=>simp at h
  ·cases h
theorem Zn3 {b o i:Nat}:(⟨b,o,none⟩:Addr).add i=⟨b,o+i,none⟩:=Zg3 b o i
section
variable {H:Type} {enc:TypeId × Value→H} {P:Program} {w:World} {base:Nat} {spare:Nat→Bool} {held:Bool}
end
end Go.Proofs.YtpjbjdheeemdiaaGreatDoor
namespace Go.Fw
open Go
def obj (h:Zc) (b:Nat):Option Obj:=h[b]?
def sz (h:Zc):Nat:=h.size
theorem ZpF {h:Zc} {x:Obj}:sz (h.push x)=sz h+1:=by unfold sz;simp
theorem ZsU {h:Zc} {b o:Nat} {v:Value}:sz (h.put b o v)=sz h:=by unfold sz;exact Zhm
def Znu (o:Nat) (v:Value):Option Obj→Option Obj
  | some (.cells c e f)=>some (.cells (c.setIfInBounds o v) e f)
  | x=>x
theorem ZeK {o:Nat} {v:Value} {l:List Value} {e:TypeId} {f:Nat × Nat}:Znu o v (some (.cells l.toArray e f))=some (.cells (l.set o v).toArray e f):=by
  simp [Znu]
theorem Zh7 {h:Zc} {b o k:Nat} {v:Value}:obj (h.put b o v) k=if k=b then Znu o v (obj h k) else obj h k:=by
  unfold obj Zc.put
  rw [Array.getElem?_modify]
  by_cases hk:b=k
  ·subst hk
   rw [if_pos rfl,if_pos rfl]
   cases h[b]? with
   | none=>rfl
   | some x=>cases x<;>rfl
  ·rw [if_neg hk,if_neg (Ne.symm hk)]
def Zaq (o:Nat):Option Obj→Option Value
  | some (.cells c _ _)=>c[o]?
  | _=>none
def ZkA (o:Nat):Option Obj→Bool
  | some (.cells c _ f)=>decide (o<c.size)&&(f.1 ==0&&f.2 ==0)
  | _=>false
theorem Zf4 {o:Nat} {l:List Value} {e:TypeId} {f:Nat × Nat}:Zaq o (some (.cells l.toArray e f))=l[o]?:=by simp [Zaq]
theorem Xr {h:Zc} {b o:Nat}:h.cell b o=Zaq o (obj h b):=by unfold Zc.cell obj Zaq;rfl
theorem ZqK {h:Zc} {b o:Nat} (hf:ZkA o (obj h b)=true):(∃ u,h.cell b o=some u)∧h.froz b o=false:=by
  unfold ZkA at hf
  split at hf
  ·rename_i c e f hb
   simp only [Bool.and_eq_true,decide_eq_true_eq,beq_iff_eq] at hf
   obtain ⟨h1,h2,h3⟩:=hf
   have hb':h[b]?=some (.cells c e f):=hb
   refine ⟨⟨c[o],by unfold Zc.cell;rw [hb'];simp [h1]⟩,?_⟩
   unfold Zc.froz
   rw [hb']
   obtain ⟨lo,hi⟩:=f
   simp only at h2 h3
   subst h2 h3
   simp
  ·cases hf
theorem Zv5 {h:Zc} {b o:Nat} {k:IntKind} {n:Int} {K:Int→Prop} (hc:Zaq o (obj h b)=some (.int k n)):ldI h b o k K=K n :=
  propext ⟨fun ⟨m,e,hk⟩=>(by rw [Xr,hc] at e;cases e;exact hk),fun hk=>⟨n,by rw [Xr,hc],hk⟩⟩
theorem Zv2 {h:Zc} {b o:Nat} {n:ByteArray} {K:ByteArray→Prop} (hc:Zaq o (obj h b)=some (.string n)):ldS h b o K=K n :=
  propext ⟨fun ⟨m,e,hk⟩=>(by rw [Xr,hc] at e;cases e;exact hk),fun hk=>⟨n,by rw [Xr,hc],hk⟩⟩
theorem Zv3 {h:Zc} {b o:Nat} {n:Option Addr} {K:Option Addr→Prop} (hc:Zaq o (obj h b)=some (.pointer n)):ldP h b o K=K n :=
  propext ⟨fun ⟨m,e,hk⟩=>(by rw [Xr,hc] at e;cases e;exact hk),fun hk=>⟨n,by rw [Xr,hc],hk⟩⟩
theorem Zv1 {h:Zc} {b o:Nat} {n:Value} {K:Value→Prop} (hc:Zaq o (obj h b)=some n):ldV h b o K=K n :=
  propext ⟨fun ⟨m,e,hk⟩=>(by rw [Xr,hc] at e;cases e;exact hk),fun hk=>⟨n,by rw [Xr,hc],hk⟩⟩
theorem Zv4 {h:Zc} {b o:Nat} {p:Option Addr} {l c:Nat} {K:Sl→Prop} (hc:Zaq o (obj h b)=some (.slice p l c)):ldL h b o K=K ⟨p,l,c⟩ :=
  propext ⟨fun ⟨m,e,hk⟩=>(by rw [Xr,hc] at e;cases e;exact hk),fun hk=>⟨⟨p,l,c⟩,by rw [Xr,hc],hk⟩⟩
theorem ZnH {h:Zc} {b:Nat}:∀ (n o:Nat),(∀ i,i<n→ZkA (o+i) (obj h b)=true)→h.free b o n
  | 0,_,_=>trivial
  | n+1,o,hf=>⟨ZqK (by have:=hf 0 (by omega);simpa using this),ZnH n (o+1) fun i hi=>by have:=hf (i+1) (by omega);rw [show o+1+i=o+(i+1) from by omega];exact this⟩
def ZqL (o n:Nat):Option Obj→Bool
  | some (.cells c _ f)=>decide (o+n≤c.size)&&(f.1 ==0&&f.2 ==0)
  | _=>false
theorem Zb0 {o n:Nat} {l:List Value} {e:TypeId}:ZqL o n (some (.cells l.toArray e (0,0)))=decide (o+n≤l.length):=by simp [ZqL]
theorem Zsg {h:Zc} {b o n:Nat} (hf:ZqL o n (obj h b)=true):h.free b o n:=by
  refine ZnH n o fun i hi=>?_
  unfold ZqL at hf
  split at hf
  ·rename_i c e f hb
   rw [hb]
   simp only [Bool.and_eq_true,decide_eq_true_eq] at hf
   simp only [ZkA,Bool.and_eq_true,decide_eq_true_eq]
   exact ⟨by omega,hf.2⟩
  ·cases hf
theorem ZhM {h:Zc} {b o:Nat} {vs:List Value} {K:Zc→Prop} (hf:ZqL o vs.length (obj h b)=true) (hv:vs.all Yd=true):sts h b o vs K=K (h.puts b o vs) :=
  propext ⟨fun hk=>hk.2.2,fun hk=>⟨Zsg hf,hv,hk⟩⟩
theorem ZeA {h:Zc} {b o:Nat} {vs:List Value}:sz (h.puts b o vs)=sz h:=Zf0
def Zh8:Nat→List Value→Option Obj→Option Obj
  | _,[],x=>x
  | o,v::vs,x=>Zh8 (o+1) vs (Znu o v x)
def Zan:Nat→List Value→List Value→List Value
  | _,[],l=>l
  | o,v::vs,l=>Zan (o+1) vs (l.set o v)
theorem XE {e:TypeId} {f:Nat × Nat}:∀ {vs:List Value} {o:Nat} {l:List Value},Zh8 o vs (some (.cells l.toArray e f))=some (.cells (Zan o vs l).toArray e f)
  | [],_,_=>rfl
  | v::vs,o,l=>by unfold Zh8 Zan;rw [ZeK,XE]
theorem Zbo {b:Nat}:∀ {vs:List Value} {h:Zc} {o k:Nat},obj (h.puts b o vs) k=if k=b then Zh8 o vs (obj h k) else obj h k
  | [],h,o,k=>by
    unfold Zc.puts Zh8
    split<;>rfl
  | v::vs,h,o,k=>by
    unfold Zc.puts
    rw [Zbo,Zh7]
    by_cases hk:k=b
    ·rw [if_pos hk,if_pos hk,if_pos hk];rfl
    ·rw [if_neg hk,if_neg hk,if_neg hk]
theorem ZgM {b o l size:Nat} {i:Int} {n:Nat} {K:Nat→Nat→Prop} (hi:i=(n:Int)) (hl:n<l) (hk:K b (o+n*size)):Zd6 (some ⟨b,o,none⟩) l i size K:=by
  subst hi
  exact ⟨b,o,rfl,by omega,by omega,by simpa using hk⟩
theorem ZvE {s t:Sl}:(slV s=slV t)=(s=t):=by
  refine propext ⟨fun h=>?_,fun h=>by rw [h]⟩
  cases s;cases t
  unfold slV at h
  injection h with h1 h2 h3
  subst h1 h2 h3
  rfl
theorem ZcY {k:IntKind} {n:Int}:Yd (.int k n)=true:=by simp [Yd]
theorem Zh4 {b:Option Addr} {l c:Nat}:Yd (.slice b l c)=true:=by simp [Yd]
theorem ZQ {h h':Zc} (e:Ext h h') {b:Nat} (hb:b<sz h):obj h' b=obj h b:=e.old b hb
theorem ZV {S:Nat→Prop} {h h':Zc} (e:Upd S h h') {b:Nat} (hb:b<sz h) (hs:¬ S b):obj h' b=obj h b:=e.old b hb hs
theorem ZrB {S:Nat→Prop} {h h1:Zc} {b o:Nat} {vs:List Value} (he:Upd S h h1) (hb:sz h≤b∨S b):Upd S h (h1.puts b o vs) :=
  ⟨by rw [Zf0];exact he.size,fun k hk hs=>(ZgA fun e=>by subst e;exact hb.elim (fun h9=>by unfold sz at h9;omega) hs).trans (he.old k hk hs)⟩
theorem ZbJ {h:Zc} {b:Nat} {x:Obj} (hb:obj h b=some x):b<sz h:=by
  unfold obj at hb
  rcases Nat.lt_or_ge b h.size with hl | hl
  ·exact hl
  ·rw [Array.getElem?_eq_none hl] at hb;cases hb
theorem Z6 {h h':Zc} {b:Nat} {x:Obj} (hb:obj h b=some x) (e:Ext h h'):obj h' b=some x:=(ZQ e (ZbJ hb)).trans hb
theorem YH {S:Nat→Prop} {h h':Zc} {b:Nat} {x:Obj} (hb:obj h b=some x) (e:Upd S h h') (hs:¬ S b):obj h' b=some x:=(ZV e (ZbJ hb) hs).trans hb
theorem Ext.updS {h h1 h2:Zc} {S:Nat→Prop} (e:Ext h h1) (u:Upd S h1 h2) (hs:∀ k,S k→sz h≤k):Ext h h2:=e.then u fun k hk=>hs k hk
end Go.Fw
