/- That each function does what its model says. Written by a program out of the translated functions. -/
import Derived.Test.YtpjbjdheeemdiaaGreatDoorProg
import Derived.KernelRfl
import Derived.Recover
import Derived.Tactics2
import Derived.Below
import Derived.Test.YtpjbjdheeemdiaaGreatDoorRows
import Derived.Deep.Slices
import Derived.ChangeSlices
import Derived.Test.YtpjbjdheeemdiaaGreatDoorPa7
set_option linter.unusedVariables false
set_option linter.unusedSimpArgs false
namespace Go.Proofs.YtpjbjdheeemdiaaGreatDoor
open Go Go.Fw
noncomputable section
theorem Zt:Tryz.prog.follows .mixedOrders=true:=by kernel_rfl
abbrev zk1 (f:zT1):Zh:=⟨[.one (.P)],[],fun t K _ h=>f t.1 (fun h=>K (()) h) h⟩
abbrev zc1 (f0:zT0):Cfg:=Ye Tryz.prog [(171,⟨[.one (.S),.one (.I .u8)],[.one (.I .i64)],fun t K _ h=>f0 t.1 t.2.1 (fun r0 h=>K (r0,()) h) h⟩)] 32 [] [] [] Yf
theorem zr1 (f0:zT0):Ys (zc1 f0) Tryz.f97 (.block (.loop [] [] [(2,31)] (.leaf))) (zk1 (X7 f0)):=fun _ _ _ _=>by kernel_rfl
theorem zo1:Zr Tryz.prog 97 (zk1 Zy):=okF (zr1 Z1) Tryz.func97 Zt (ZJ _ (.cons X0 .nil) .nil .nil .nil (ZI _))
abbrev zk2 (f:zT2):Zh:=⟨[.one (.P)],[.one (.I .u8)],fun t K _ h=>f t.1 (fun r0 h=>K (r0,()) h) h⟩
abbrev zc2:Cfg:=Ye Tryz.prog [] 22 [] [] [] Yf
theorem zr2:Ys (zc2) Tryz.f166 (.leaf) (zk2 ZaH):=fun _ _ _ _=>by kernel_rfl
theorem zo2:Zr Tryz.prog 166 (zk2 Zk):=okF (zr2) Tryz.func166 Zt (ZJ _ .nil .nil .nil .nil (ZI _))
abbrev zk3 (f:zT3):Zh:=⟨[.one (.P),.one (.I .i64),.one (.I .i64)],[],fun t K Kp h=>f t.1 t.2.1 t.2.2.1 (fun h=>K (()) h) Kp h⟩
abbrev zc3:Cfg:=Ye Tryz.prog [] 24 [] [] [] Yf
theorem zr3:Ys (zc3) Tryz.f98 (.leaf) (zk3 Y3):=fun _ _ _ _=>by kernel_rfl
theorem zo3:Zr Tryz.prog 98 (zk3 Zg):=okF (zr3) Tryz.func98 Zt (ZJ _ .nil .nil .nil .nil (ZI _))
abbrev zk6 (f:zT6):Zh:=⟨[.one (.P),.one (.I .u8)],[.one (.V)],fun t K _ h=>f t.1 t.2.1 (fun r0 h=>K (r0,()) h) h⟩
abbrev zc6 (f5:zT5):Cfg:=Ye Tryz.prog [(251,⟨[.one (.P)],[],fun t K _ h=>f5 t.1 (fun h=>K (()) h) h⟩)] 17 [] [] [] Yf
theorem zr6 (f5:zT5):Ys (zc6 f5) Tryz.f184 (.leaf) (zk6 (Yo f5)):=fun _ _ _ _=>by kernel_rfl
theorem zo6:Zr Tryz.prog 184 (zk6 Zp):=okF (zr6 ZA) Tryz.func184 Zt (ZJ _ (.cons YO .nil) .nil .nil .nil (ZI _))
abbrev zk7 (f:zT7):Zh:=⟨[.one (.P)],[.one (.I .i32)],fun t K Kp h=>f t.1 (fun r0 h=>K (r0,()) h) Kp h⟩
abbrev zc7 (f2:zT2) (f3:zT3):Cfg:=Ye Tryz.prog [(166,zk2 f2),(98,zk3 f3)] 65 [] [] [] Yf
theorem zr7 (f2:zT2) (f3:zT3):Ys (zc7 f2 f3) Tryz.f297 (.seq (.leaf) (.seq (.leaf) (.seq (.seq (.leaf) (.block (.loop [3,5] [.one (.I .i32),.one (.I .i64)] [(4,4),(6,63)] (.seq (.leaf) (.seq (.leaf) (.seq (.block (.seq (.leaf) (.cut [3] [.one (.I .i32)] [(9,55)] (.block (.cut [15] [.one (.B)] [(16,21)] (.leaf) (.leaf))) (.leaf)))) (.leaf))))))) (.leaf)))) (zk7 (ZaS f2 f3)):=fun _ _ _ _=>by kernel_rfl
theorem zo7:Zr Tryz.prog 297 (zk7 Xg):=okF (zr7 Zk Zg) Tryz.func297 Zt (ZJ _ (.cons zo2 (.cons zo3 .nil)) .nil .nil .nil (ZI _))
abbrev zk8 (f:zT8):Zh:=⟨[.one (.S),.one (.S)],[.one (.B)],fun t K _ h=>f t.1 t.2.1 (fun r0 h=>K (r0,()) h) h⟩
abbrev zc8:Cfg:=Ye Tryz.prog [] 18 [] [] [] Yf
theorem zr8:Ys (zc8) Tryz.f249 (.leaf) (zk8 ZY):=fun _ _ _ _=>by kernel_rfl
theorem zo8:Zr Tryz.prog 249 (zk8 Zs):=okF (zr8) Tryz.func249 Zt (ZJ _ .nil .nil .nil .nil (ZI _))
abbrev zk9 (f:zT9):Zh:=⟨[.one (.S),.one (.S)],[.one (.B)],fun t K _ h=>f t.1 t.2.1 (fun r0 h=>K (r0,()) h) h⟩
abbrev zc9 (f8:zT8):Cfg:=Ye Tryz.prog [(249,zk8 f8)] 8 [] [] [] Yf
theorem zr9 (f8:zT8):Ys (zc9 f8) Tryz.f196 (.leaf) (zk9 (Zai f8)):=fun _ _ _ _=>by kernel_rfl
theorem zo9:Zr Tryz.prog 196 (zk9 YS):=okF (zr9 Zs) Tryz.func196 Zt (ZJ _ (.cons zo8 .nil) .nil .nil .nil (ZI _))
abbrev Ztr (f:ZrO):Zh:=⟨[.one (.L),.one (.I .i32)],[.one (.L)],fun t K _ h=>f t.1 t.2.1 (fun r0 h=>K (r0,()) h) h⟩
abbrev ZwJ:Cfg:=Ye Tryz.prog [] 78 [] [] [] Yf
theorem Zvc:Ys (ZwJ) Tryz.f325 (.seq (.leaf) (.seq (.leaf) (.block (.seq (.leaf) (.cond (.leaf) (.cut [25] [.one (.B)] [(26,33)] (.leaf) (.leaf))))))) (Ztr Yn):=fun _ _ _ _=>by kernel_rfl
theorem ZvW:Zr Tryz.prog 325 (Ztr ZT):=okF (Zvc) Tryz.func325 Zt (ZJ _ .nil .nil .nil .nil (ZI _))
abbrev Ztq (f:ZrN):Zh:=⟨[.one (.L),.one (.I .i32)],[.one (.L)],fun t K _ h=>f t.1 t.2.1 (fun r0 h=>K (r0,()) h) h⟩
abbrev ZwI (f10:ZrO):Cfg:=Ye Tryz.prog [(325,Ztr f10)] 16 [] [] [] Yf
theorem Zvb (f10:ZrO):Ys (ZwI f10) Tryz.f309 (.leaf) (Ztq (Y7 f10)):=fun _ _ _ _=>by kernel_rfl
theorem ZvV:Zr Tryz.prog 309 (Ztq Z9):=okF (Zvb ZT) Tryz.func309 Zt (ZJ _ (.cons ZvW .nil) .nil .nil .nil (ZI _))
abbrev Ztp (f:ZrL):Zh:=⟨[.one (.P),.one (.I .i32)],[.one (.I .i64),.one (.V)],fun t K _ h=>f t.1 t.2.1 (fun r0 r1 h=>K (r0,r1,()) h) h⟩
abbrev ZwH (f5:zT5) (f11:ZrN):Cfg:=Ye Tryz.prog [(251,⟨[.one (.P)],[],fun t K _ h=>f5 t.1 (fun h=>K (()) h) h⟩),(309,Ztq f11)] 30 [] [] [] Yf
theorem Zva (f5:zT5) (f11:ZrN):Ys (ZwH f5 f11) Tryz.f255 (.leaf) (Ztp (YW f5 f11)):=fun _ _ _ _=>by kernel_rfl
theorem ZvU:Zr Tryz.prog 255 (Ztp Z2):=okF (Zva ZA Z9) Tryz.func255 Zt (ZJ _ (.cons YO (.cons ZvV .nil)) .nil .nil .nil (ZI _))
abbrev Zto (f:ZrK):Zh:=⟨[.one (.P),.one (.P)],[],fun t K Kp h=>f t.1 t.2.1 (fun h=>K (()) h) Kp h⟩
abbrev ZwG (f2:zT2) (f0:zT0) (f6:zT6) (f3:zT3) (f7:zT7) (f9:zT9) (f12:ZrL):Cfg:=Ye Tryz.prog [(166,zk2 f2),(171,⟨[.one (.S),.one (.I .u8)],[.one (.I .i64)],fun t K _ h=>f0 t.1 t.2.1 (fun r0 h=>K (r0,()) h) h⟩),(184,zk6 f6),(98,zk3 f3),(297,zk7 f7),(196,zk9 f9),(255,Ztp f12)] 114 [] [] [] Yf
theorem Zu9 (f2:zT2) (f0:zT0) (f6:zT6) (f3:zT3) (f7:zT7) (f9:zT9) (f12:ZrL):Ys (ZwG f2 f0 f6 f3 f7 f9 f12) Tryz.f240 (.seq (.leaf) (.cut [] [] [(5,5),(11,37)] (.leaf) (.cut [] [] [(38,45)] (.leaf) (.seq (.leaf) (.seq (.leaf) (.cut [] [] [(7,8),(55,104)] (.cut [72] [.one (.B)] [(55,71)] (.leaf) (.leaf)) (.cut [6] [.one (.I .i32)] [(105,110)] (.leaf) (.leaf)))))))) (Zto (X5 f2 f0 f6 f3 f7 f9 f12)):=fun _ _ _ _=>by kernel_rfl
theorem ZvT:Zr Tryz.prog 240 (Zto YL):=okF (Zu9 Zk Z1 Zp Zg Xg YS Z2) Tryz.func240 Zt (ZJ _ (.cons zo2 (.cons X0 (.cons zo6 (.cons zo3 (.cons zo7 (.cons zo9 (.cons ZvU .nil))))))) .nil .nil .nil (ZI _))
abbrev Ztn (f:ZrJ):Zh:=⟨[.one (.S)],[.one (.B)],fun t K _ h=>f t.1 (fun r0 h=>K (r0,()) h) h⟩
abbrev ZwF (f14:Ztz) (f15:Zmf):Cfg:=Ye Tryz.prog [(323,⟨[.one (.S)],[.one (.I .i64)],fun t K _ h=>f14 t.1 (fun r0 h=>K (r0,()) h) h⟩),(163,⟨[.one (.S)],[.one (.B)],fun t K _ h=>f15 t.1 (fun r0 h=>K (r0,()) h) h⟩)] 64 [] [] [] Yf
theorem Zu8 (f14:Ztz) (f15:Zmf):Ys (ZwF f14 f15) Tryz.f298 (.seq (.leaf) (.seq (.seq (.leaf) (.block (.loop [11] [.one (.I .i64)] [(2,2),(4,8),(12,56)] (.seq (.leaf) (.seq (.leaf) (.seq (.block (.seq (.leaf) (.seq (.seq (.leaf) (.block (.loop [5] [.one (.I .i64)] [(2,2),(6,7),(17,36)] (.leaf)))) (.leaf)))) (.leaf))))))) (.leaf))) (Ztn (Zcs f14 f15)):=fun _ _ _ _=>by kernel_rfl
theorem ZvS:Zr Tryz.prog 298 (Ztn ZaC):=okF (Zu8 ZW Zz) Tryz.func298 Zt (ZJ _ (.cons Zay (.cons Yi .nil)) .nil .nil .nil (ZI _))
abbrev Zrf (f:Zmm):Zh:=⟨[.one (.P),.one (.S)],[.one (.I .i64),.one (.V)],fun t K _ h=>f t.1 t.2.1 (fun r0 r1 h=>K (r0,r1,()) h) h⟩
abbrev ZwE (f5:zT5):Cfg:=Ye Tryz.prog [(251,⟨[.one (.P)],[],fun t K _ h=>f5 t.1 (fun h=>K (()) h) h⟩)] 19 [] [] [] Yf
theorem Zu7 (f5:zT5):Ys (ZwE f5) Tryz.f183 (.leaf) (Zrf (Yd f5)):=fun _ _ _ _=>by kernel_rfl
theorem ZsU:Zr Tryz.prog 183 (Zrf Zo):=okF (Zu7 ZA) Tryz.func183 Zt (ZJ _ (.cons YO .nil) .nil .nil .nil (ZI _))
abbrev Ztm (f:ZrI):Zh:=⟨[.one (.P),.one (.P)],[],fun t K Kp h=>f t.1 t.2.1 (fun h=>K (()) h) Kp h⟩
abbrev ZwD (f3:zT3) (f16:ZrJ) (f15:Zmf) (f17:Zmm):Cfg:=Ye Tryz.prog [(98,zk3 f3),(298,Ztn f16),(163,⟨[.one (.S)],[.one (.B)],fun t K _ h=>f15 t.1 (fun r0 h=>K (r0,()) h) h⟩),(183,Zrf f17)] 67 [] [] [] Yf
theorem Zu6 (f3:zT3) (f16:ZrJ) (f15:Zmf) (f17:Zmm):Ys (ZwD f3 f16 f15 f17) Tryz.f241 (.seq (.leaf) (.block (.loop [4] [.one (.I .i64)] [(5,66)] (.seq (.block (.cut [] [] [(8,26)] (.leaf) (.seq (.leaf) (.cut [] [] [(42,53)] (.leaf) (.leaf))))) (.leaf))))) (Ztm (Zam f3 f16 f15 f17)):=fun _ _ _ _=>by kernel_rfl
theorem ZvR:Zr Tryz.prog 241 (Ztm YU):=okF (Zu6 Zg ZaC Zz Zo) Tryz.func241 Zt (ZJ _ (.cons zo3 (.cons ZvS (.cons Yi (.cons ZsU .nil)))) .nil .nil .nil (ZI _))
abbrev ZsI (f:ZpA):Zh:=⟨[.one (.P)],[.one (.S)],fun t K Kp h=>f t.1 (fun r0 h=>K (r0,()) h) Kp h⟩
abbrev ZwC (f2:zT2) (f3:zT3) (f4:zT4) (f13:ZrK) (f6:zT6) (f18:ZrI):Cfg:=Ye Tryz.prog [(166,zk2 f2),(98,zk3 f3),(115,⟨[.one (.P)],[.one (.S)],fun t K _ h=>f4 t.1 (fun r0 h=>K (r0,()) h) h⟩),(240,Zto f13),(184,zk6 f6),(241,Ztm f18)] 72 [] [] [] Yf
theorem Zu5 (f2:zT2) (f3:zT3) (f4:zT4) (f13:ZrK) (f6:zT6) (f18:ZrI):Ys (ZwC f2 f3 f4 f13 f6 f18) Tryz.f168 (.seq (.leaf) (.seq (.leaf) (.seq (.leaf) (.block (.loop [] [] [(2,2),(4,4),(12,71)] (.block (.seq (.leaf) (.block (.cut [16] [.one (.B)] [(17,30)] (.leaf) (.leaf)))))))))) (ZsI (ZaF f2 f3 f4 f13 f6 f18)):=fun _ _ _ _=>by kernel_rfl
theorem Zuh:Zr Tryz.prog 168 (ZsI Ym):=okF (Zu5 Zk Zg ZV YL Zp YU) Tryz.func168 Zt (ZJ _ (.cons zo2 (.cons zo3 (.cons Zab (.cons ZvT (.cons zo6 (.cons ZvR .nil)))))) .nil .nil .nil (ZI _))
abbrev Zop (f:ZhG):Zh:=⟨[.one (.P),.one (.I .i64)],[.agg [.I .u8,.S,.L,.L]],fun t K Kp h=>f t.1 t.2.1 (fun r0 h=>K (r0,()) h) Kp h⟩
abbrev Ztl (f:ZrH):Zh:=⟨[.one (.P),.one (.P),.one (.I .i64)],[],fun t K Kp h=>f t.1 t.2.1 t.2.2.1 (fun h=>K (()) h) Kp h⟩
abbrev ZwA (f1:zT1) (f2:zT2) (f3:zT3) (f19:ZpA) (f20:ZhG):Cfg:=Ye Tryz.prog [(97,zk1 f1),(166,zk2 f2),(98,zk3 f3),(168,ZsI f19),(96,Zop f20)] 66 [] [] [] Yf
theorem Zu3 (f1:zT1) (f2:zT2) (f3:zT3) (f19:ZpA) (f20:ZhG):Ys (ZwA f1 f2 f3 f19 f20) Tryz.f239 (.seq (.leaf) (.cut [] [] [(8,50)] (.seq (.leaf) (.cond (.cut [] [] [(13,21)] (.leaf) (.seq (.order (.take 0 (.take 1 (.take 2 (.take 3 (.take 5 (.take 4 (.take 6 (.take 7 (.take 8 (.take 9 (.take 10 (.take 11 .done))))))))))))) (.seq (.leaf) (.cut [] [] [(35,43)] (.leaf) (.leaf))))) (.leaf))) (.seq (.order (.take 0 (.take 1 (.take 2 (.take 4 (.take 5 (.take 3 (.take 7 (.fork 6 (.take 8 (.take 9 (.take 10 (.take 12 (.take 13 (.fork 11 (.take 14 .done) 14 (.take 11 .done))))))) 8 (.take 6 (.take 9 (.take 10 (.take 12 (.take 13 (.fork 11 (.take 14 .done) 14 (.take 11 .done)))))))))))))))) (.leaf)))) (Ztl (ZaG f1 f2 f3 f19 f20)):=fun _ _ _ _=>by kernel_rfl
theorem Zvo (f20:ZhG) (hH:Zr Tryz.prog 96 (Zop f20)):Zr Tryz.prog 239 (Ztl (YZ f20)):=okF (Zu3 Zy Zk Zg Ym f20) Tryz.func239 Zt (ZJ _ (.cons zo1 (.cons zo2 (.cons zo3 (.cons Zuh (.cons hH .nil))))) .nil .nil .nil (ZI _)) (hlen:=Nat.le_of_ble_eq_true rfl)
abbrev Ztk (f:ZrG):Zh:=⟨[.one (.P),.one (.I .u8),.one (.I .u8),.one (.I .i64)],[.agg [.I .u8,.S,.L,.L]],fun t K Kp h=>f t.1 t.2.1 t.2.2.1 t.2.2.2.1 (fun r0 h=>K (r0,()) h) Kp h⟩
abbrev Zwz (f3:zT3) (f1:zT1) (f2:zT2) (f21:ZrH):Cfg:=Ye Tryz.prog [(98,zk3 f3),(97,zk1 f1),(166,zk2 f2),(239,Ztl f21)] 77 [] [] [] Yf
theorem Zu2 (f3:zT3) (f1:zT1) (f2:zT2) (f21:ZrH):Ys (Zwz f3 f1 f2 f21) Tryz.f167 (.seq (.leaf) (.cut [] [] [(10,17)] (.leaf) (.seq (.leaf) (.seq (.leaf) (.seq (.leaf) (.seq (.block (.loop [] [] [(29,68)] (.cut [] [] [(29,44)] (.leaf) (.block (.cut [] [] [(45,64)] (.seq (.leaf) (.cond (.cut [] [] [(49,57)] (.leaf) (.leaf)) (.leaf))) (.leaf)))))) (.leaf))))))) (Ztk (Xy f3 f1 f2 f21)):=fun _ _ _ _=>by kernel_rfl
theorem Zvn (f20:ZhG) (hH:Zr Tryz.prog 96 (Zop f20)):Zr Tryz.prog 167 (Ztk (Z0 f20)):=okF (Zu2 Zg Zy Zk (YZ f20)) Tryz.func167 Zt (ZJ _ (.cons zo3 (.cons zo1 (.cons zo2 (.cons (Zvo f20 hH) .nil)))) .nil .nil .nil (ZI _)) (hlen:=Nat.le_of_ble_eq_true rfl)
abbrev Ztj (f:ZrF):Zh:=⟨[.one (.P),.one (.S),.one (.I .u8)],[.agg [.I .u8,.S,.L,.L]],fun t K Kp h=>f t.1 t.2.1 t.2.2.1 (fun r0 h=>K (r0,()) h) Kp h⟩
abbrev Zwy (f2:zT2) (f3:zT3):Cfg:=Ye Tryz.prog [(166,zk2 f2),(98,zk3 f3)] 47 [] [] [] Yf
theorem Zu1 (f2:zT2) (f3:zT3):Ys (Zwy f2 f3) Tryz.f169 (.seq (.leaf) (.seq (.seq (.leaf) (.block (.loop [10] [.one (.I .i64)] [(7,7),(11,44)] (.seq (.leaf) (.seq (.leaf) (.seq (.block (.seq (.leaf) (.cut [] [] [(13,36)] (.leaf) (.leaf)))) (.leaf))))))) (.leaf))) (Ztj (ZaE f2 f3)):=fun _ _ _ _=>by kernel_rfl
theorem ZvP:Zr Tryz.prog 169 (Ztj Y1):=okF (Zu1 Zk Zg) Tryz.func169 Zt (ZJ _ (.cons zo2 (.cons zo3 .nil)) .nil .nil .nil (ZI _))
abbrev Zti (f:ZrE):Zh:=⟨[.one (.P)],[],fun t K Kp h=>f t.1 (fun h=>K (()) h) Kp h⟩
abbrev Zwx (f2:zT2) (f3:zT3):Cfg:=Ye Tryz.prog [(166,zk2 f2),(98,zk3 f3)] 35 [] [] [] Yf
theorem Zu0 (f2:zT2) (f3:zT3):Ys (Zwx f2 f3) Tryz.f242 (.cut [] [] [(2,2),(4,17)] (.leaf) (.seq (.leaf) (.block (.loop [3] [.one (.I .u8)] [(20,34)] (.leaf))))) (Zti (X6 f2 f3)):=fun _ _ _ _=>by kernel_rfl
theorem ZvO:Zr Tryz.prog 242 (Zti ZO):=okF (Zu0 Zk Zg) Tryz.func242 Zt (ZJ _ (.cons zo2 (.cons zo3 .nil)) .nil .nil .nil (ZI _))
abbrev Zth (f:ZrD):Zh:=⟨[.one (.P)],[.agg [.I .u8,.S,.L,.L]],fun t K Kp h=>f t.1 (fun r0 h=>K (r0,()) h) Kp h⟩
abbrev Zww (f2:zT2) (f3:zT3) (f24:ZrE):Cfg:=Ye Tryz.prog [(166,zk2 f2),(98,zk3 f3),(242,Zti f24)] 102 [] [] [] Yf
theorem ZuZ (f2:zT2) (f3:zT3) (f24:ZrE):Ys (Zww f2 f3 f24) Tryz.f170 (.seq (.leaf) (.seq (.leaf) (.cut [] [] [(11,20)] (.leaf) (.cut [] [] [(4,4),(21,46)] (.leaf) (.cut [] [] [(47,58)] (.leaf) (.cut [] [] [(5,6),(59,90)] (.leaf) (.seq (.order (.take 0 (.take 1 (.take 2 (.take 4 (.take 5 (.take 6 (.take 7 (.take 3 (.take 8 (.take 9 (.take 10 (.take 11 .done))))))))))))) (.leaf)))))))) (Zth (X4 f2 f3 f24)):=fun _ _ _ _=>by kernel_rfl
theorem ZvN:Zr Tryz.prog 170 (Zth Yr):=okF (ZuZ Zk Zg ZO) Tryz.func170 Zt (ZJ _ (.cons zo2 (.cons zo3 (.cons ZvO .nil))) .nil .nil .nil (ZI _))
abbrev ZwB (f1:zT1) (f2:zT2) (f3:zT3) (f22:ZrG) (f19:ZpA) (f23:ZrF) (f25:ZrD):Cfg:=Ye Tryz.prog [(97,zk1 f1),(166,zk2 f2),(98,zk3 f3),(167,Ztk f22),(168,ZsI f19),(169,Ztj f23),(170,Zth f25)] 80 [] [] [] Yf
theorem Zu4 (f1:zT1) (f2:zT2) (f3:zT3) (f22:ZrG) (f19:ZpA) (f23:ZrF) (f25:ZrD):Ys (ZwB f1 f2 f3 f22 f19 f23 f25) Tryz.f96 (.seq (.leaf) (.seq (.leaf) (.cut [] [] [(5,5),(8,72)] (.leaf) (.leaf)))) (Zop (Zal f1 f2 f3 f22 f19 f23 f25)):=fun _ _ _ _=>by kernel_rfl
theorem Zvp (f20:ZhG) (hH:Zr Tryz.prog 96 (Zop f20)):Zr Tryz.prog 96 (Zop (Xq f20)):=okF (Zu4 Zy Zk Zg (Z0 f20) Ym Y1 Yr) Tryz.func96 Zt (ZJ _ (.cons zo1 (.cons zo2 (.cons zo3 (.cons (Zvn f20 hH) (.cons Zuh (.cons ZvP (.cons ZvN .nil))))))) .nil .nil .nil (ZI _)) (hlen:=Nat.le_of_ble_eq_true rfl)
theorem Zub:∀ n,Zr Tryz.prog 96 (Zop (Yh n))
 | 0=>ZdU Tryz.func96 (by kernel_rfl) (by kernel_rfl) fun _ _ _ _ h=>h
 | n+1=>Zvp _ (Zub n)
theorem ZvQ:Zr Tryz.prog 96 (Zop Xt):=ZjO Zub
def sq1:Code→Code
  | .seq x _=>x
  | c=>c
def sq2:Code→Code
  | .seq _ y=>y
  | c=>c
def ZoO:Code:=Tryz.f25.body.getD .skip
def pA:Code:=sq1 ZoO
def pB:Code:=sq1 (sq2 ZoO)
def pR:Code:=sq2 (sq2 (sq2 ZoO))
def pD:Code:=sq1 (sq2 (sq2 ZoO))
theorem ZoN:Tryz.f25.body=some (.seq pA (.seq pB (.seq pD pR))):=by kernel_rfl
abbrev ZiS:List VT:=[.agg [.I .u8,.S,.L,.L],.one (.I .i64),.one (.I .i64)]
def ZoP (p:Value→HP):Cfg:={ Ye Tryz.prog [(96,Zop Xt),(97,zk1 Zy),(98,zk3 Zg)] 32 [] [] [] Yf with pan:=p,rnd:=none }
theorem ZjM (p:Value→HP):(ZoP p).OK:=(ZJ (Ye Tryz.prog [(96,Zop Xt),(97,zk1 Zy),(98,zk3 Zg)] 32 [] [] [] Yf) (.cons ZvQ (.cons zo1 (.cons zo3 .nil))) .nil .nil .nil (ZI _)).at none p
def Zos (K:Yz ZiS→HP) (e:Env) (h:Zc):Prop:=Zmh (ZoP fun _ _=>False) e h Tryz.f25.results.toList fun vs=>match Yz.un ZiS vs with
  | some r=>K r h
  | none=>False
def Zq8 (b2 b3 b4:Nat):Env:=⟨fun j=>bif Nat.beq j 2 then some (.adr b2 0) else bif Nat.beq j 3 then some (.adr b3 0) else bif Nat.beq j 4 then some (.adr b4 0) else none,.no⟩
def ZtE (b2 b3 b4:Nat) (E:HP) (v:Value) (h:Zc):Prop:=∃ e n,v = .iface 160 (.agg #[.int .i64 e,.int .i64 n])∧ZsL b2 b3 b4 e n E h
def clo (b2 b3 b4:Nat):Deferred:={ target:= .fn (.func 95) #[.pointer (some ⟨b2,0,none⟩),.pointer (some ⟨b3,0,none⟩),.pointer (some ⟨b4,0,none⟩)],args:= #[]}
def Zuk (e:Env) (b2 b3 b4:Nat):Env:=⟨fun j=>bif Nat.beq j 10 then none else e.f j,.raw [clo b2 b3 b4]⟩
def prd (s:ByteArray) (K:Yz ZiS→HP) (h:Zc):Prop :=
  wpC (ZoP fun _ _=>False) (.seq pA pB) .leaf (Zd4 [.val (.string s)]) h fun x e h'=>match x with
    | .ret=>Zos K e h'
    | .normal=>match e.f 2,e.f 3,e.f 4 with
      | some (.adr b2 0),some (.adr b3 0),some (.adr b4 0)=>wpC (ZoP (ZtE b2 b3 b4 (Zos K (Zq8 b2 b3 b4)))) pR .leaf (Zuk e b2 b3 b4) h' fun x e2 h2=>match x with
          | .normal=>Zos K e2 h2
          | .ret=>Zos K e2 h2
          | .exit _=>False
      | _,_,_=>False
    | .exit _=>False
theorem ZjG {e:Env} {a:Act} {w:World} {K:Yz ZiS→HP} (hag:∀ j v,e j=some v→a.tmps[j]?=some v.v) (h:Zos K e w.heap):∃ v,(results Tryz.f25 a.tmps).run Tryz.prog w = .ok v w∧∃ r,v=ZpL ZiS r∧K r w.heap:=by
  have hag':Agr a.tmps.size ⟨e.f,.raw a.defers⟩ a:=⟨rfl,rfl,hag⟩
  have h':Zmh { ZoP (fun _ _=>False) with n:=a.tmps.size } ⟨e.f,.raw a.defers⟩ w.heap Tryz.f25.results.toList fun vs=>match Yz.un ZiS vs with
    | some r=>K r w.heap
    | none=>False:=h
  obtain ⟨vs,hr,hk⟩:=Zef (c:={ ZoP (fun _ _=>False) with n:=a.tmps.size }) (f:=fun
    | .tmp t=>pure (a.tmps.getD t undef)
    | .cell x t=>do loadVar t (← asAddr (a.tmps.getD x undef))) hag' (fun _=>rfl) (fun _ _=>rfl) h'
  split at hk
  ·rename_i r hun
   refine ⟨ZpL ZiS r,?_,r,rfl,hk⟩
   unfold results
   rw [Array.mapM_eq_mapM_toList]
   simp only [Sem.run_bind,Sem.run_map]
   refine (congrArg (fun r=>(Result.andThen (Result.andThen r _) _)) hr).trans ?_
   simp only [Result.andThen_ok,Sem.run_pure]
   rw [Zm1 hun]
   exact congrArg (fun v=>Result.ok v w) (ZiJ _)
  ·exact hk.elim
def Zsv:Code:=Tryz.f95.body.getD .skip
def cl1:Code:=sq1 Zsv
def cl2:Code:=sq2 Zsv
theorem Zlc:Tryz.f95.body=some (.seq cl1 cl2):=by kernel_rfl
def ZsN:Ann:= .block (.seq (.leaf) (.cond (.leaf) (.seq (.leaf) (.cond (.seq (.leaf) (.order (.take 0 (.take 1 (.take 3 (.take 2 (.take 4 (.take 5 (.take 6 (.take 7 .done)))))))))) (.leaf)))))
def ZqV:Cfg:={ Ye Tryz.prog [] 17 [] [] [] Yf with pan:=fun _ _=>False,rnd:=none }
theorem Zn7:ZqV.OK:=(ZJ (Ye Tryz.prog [] 17 [] [] [] Yf) .nil .nil .nil .nil (ZI _)).at none _
def ptr (b:Nat):Value:= .pointer (some ⟨b,0,none⟩)
def Zq9 (b2 b3 b4:Nat) (v:Value):Env:=⟨fun j=>bif Nat.beq j 0 then some (.val (.pointer (some ⟨b2,0,none⟩))) else bif Nat.beq j 1 then some (.val (.pointer (some ⟨b3,0,none⟩))) else bif Nat.beq j 2 then some (.val (.pointer (some ⟨b4,0,none⟩))) else bif Nat.beq j 6 then some (.val v) else none,.no⟩
theorem Zhx {b2 b3 b4:Nat} {x:Value} {j:Nat} {v:EV} (h:(Zq9 b2 b3 b4 x).f j=some v):(j=0∧v = .val (ptr b2))∨(j=1∧v = .val (ptr b3))∨(j=2∧v = .val (ptr b4))∨(j=6∧v = .val x):=by
  unfold Zq9 at h
  dsimp only at h
  cases h0:Nat.beq j 0 with
  | true=>rw [h0] at h;cases h;exact .inl ⟨Nat.eq_of_beq_eq_true h0,rfl⟩
  | false =>
    rw [h0] at h
    cases h1:Nat.beq j 1 with
    | true=>rw [h1] at h;cases h;exact .inr (.inl ⟨Nat.eq_of_beq_eq_true h1,rfl⟩)
    | false =>
      rw [h1] at h
      cases h2:Nat.beq j 2 with
      | true=>rw [h2] at h;cases h;exact .inr (.inr (.inl ⟨Nat.eq_of_beq_eq_true h2,rfl⟩))
      | false =>
        rw [h2] at h
        cases h6:Nat.beq j 6 with
        | true=>rw [h6] at h;cases h;exact .inr (.inr (.inr ⟨Nat.eq_of_beq_eq_true h6,rfl⟩))
        | false=>rw [h6] at h;cases h
def ZoR (E:HP):Ex→Env→Zc→Prop
  | .normal,_,h=>E h
  | _,_,_=>False
theorem rdC (b2 b3 b4:Nat) (e n:Int) (E:HP) (h:Zc):wpC ZqV cl2 ZsN (Zq9 b2 b3 b4 (.iface 160 (.agg #[.int .i64 e,.int .i64 n]))) h (ZoR E)=ZsL b2 b3 b4 e n E h:=by kernel_rfl
theorem Zp2:cl1 = .region 0 #[⟨some 6,.call ⟨.builtin .recover,#[],#[]⟩,20, "json.go:273", #[],none⟩] false:=by kernel_rfl
theorem Znl {l:List Nat} (h:ZgB l mkN=false):mkN∉l:=by
  induction l with
  | nil=>intro h9;cases h9
  | cons x xs ih =>
    intro h9
    simp only [ZgB] at h
    cases hx:Nat.beq mkN x with
    | true=>rw [hx] at h;cases h
    | false =>
      rw [hx] at h
      rcases List.mem_cons.1 h9 with h9 | h9
      ·rw [← h9,Nat.beq_refl] at hx;cases hx
      ·exact ih h h9
set_option maxRecDepth 100000 in
theorem Zkc {b2 b3 b4:Nat} {e n:Int} {E:HP} {w:World} (hk:ZsL b2 b3 b4 e n E w.heap) :
    CallsD Tryz.prog 95 #[ptr b2,ptr b3,ptr b4] (.panicking [{ v:= .iface 160 (.agg #[.int .i64 e,.int .i64 n]),recovered:=false }]) w fun e' u' w' =>
      e' = .returned (.tuple #[])∧u' = .panicking [{ v:= .iface 160 (.agg #[.int .i64 e,.int .i64 n]),recovered:=true }]∧Fw.Same w w'∧E w'.heap:=by
  refine callsD_of_wpS Tryz.func95 Zlc fun c₀ cs hu=>?_
  apply wpS_seq
  rw [Zp2]
  apply wpS_region
  simp [wpOpsS,go_sem,recoverD,hu,Tryz.ntmps95,Exit.thenS]
  refine wpS_of_wp ((wpIn_wide (n:=0)).1 (wpIn_mono (YJ cl2 ZqV Zn7 Zt ZsN (Zq9 b2 b3 b4 (.iface 160 (.agg #[.int .i64 e,.int .i64 n]))) _ w (ZoR E) ?_ (by rw [rdC];exact hk)) ?_))
  ·refine ⟨by simp [ZqV,Ye,ptr],rfl,fun j v hj=>?_⟩
   have hv:(j=0∧v = .val (ptr b2))∨(j=1∧v = .val (ptr b3))∨(j=2∧v = .val (ptr b4))∨(j=6∧v = .val (.iface 160 (.agg #[.int .i64 e,.int .i64 n]))):=Zhx hj
   rcases hv with ⟨rfl,rfl⟩ | ⟨rfl,rfl⟩ | ⟨rfl,rfl⟩ | ⟨rfl,rfl⟩<;>simp [EV.v,Array.getElem?_append]
  ·intro ex a' w' hp
   cases ex with
   | normal =>
     obtain ⟨e',h1,h2,h3,h4⟩:=hp
     have hd:=h3.2 (Znl (by kernel_rfl))
     exact ⟨hd,_,rfl,.tuple #[],by simp [results,Tryz.results95],rfl,rfl,h2,h4⟩
   | ret=>obtain ⟨e',h1,h2,h3,h4⟩:=hp;exact h4.elim
   | exit id=>obtain ⟨e',h1,h2,h3,h4⟩:=hp;exact h4.elim
   | goto t=>exact hp.elim
   | outgrown=>exact hp.elim
   | panic ch=>obtain ⟨v,h1,h2,h3,h4⟩:=hp;exact h4.elim
theorem rdN (b2 b3 b4:Nat) (E:HP) (h:Zc):wpC ZqV cl2 ZsN (Zq9 b2 b3 b4 .nilIface) h (ZoR E)=(Ze2 .nilIface fun b=>ZC b (E h) False):=by kernel_rfl
set_option maxRecDepth 100000 in
theorem ZlY {b2 b3 b4:Nat} {w:World}:CallsD Tryz.prog 95 #[ptr b2,ptr b3,ptr b4] .returning w fun e' u' w'=>e' = .returned (.tuple #[])∧u' = .returning∧Fw.Same w w'∧w'.heap=w.heap:=by
  refine callsD_of_wpS Tryz.func95 Zlc fun c₀ cs hu=>?_
  apply wpS_seq
  rw [Zp2]
  apply wpS_region
  simp [wpOpsS,go_sem,recoverD,hu,Tryz.ntmps95,Exit.thenS]
  refine wpS_of_wp ((wpIn_wide (n:=0)).1 (wpIn_mono (YJ cl2 ZqV Zn7 Zt ZsN (Zq9 b2 b3 b4 .nilIface) _ w (ZoR fun h=>h=w.heap) ?_ (by rw [rdN];exact .inl ⟨rfl,Zj rfl rfl⟩)) ?_))
  ·refine ⟨by simp [ZqV,Ye,ptr],rfl,fun j v hj=>?_⟩
   have hv:(j=0∧v = .val (ptr b2))∨(j=1∧v = .val (ptr b3))∨(j=2∧v = .val (ptr b4))∨(j=6∧v = .val .nilIface):=Zhx hj
   rcases hv with ⟨rfl,rfl⟩ | ⟨rfl,rfl⟩ | ⟨rfl,rfl⟩ | ⟨rfl,rfl⟩<;>simp [EV.v,Array.getElem?_append]
  ·intro ex a' w' hp
   cases ex with
   | normal =>
     obtain ⟨e',h1,h2,h3,h4⟩:=hp
     have hd:=h3.2 (Znl (by kernel_rfl))
     refine ⟨hd,.returning,?_,.tuple #[],by simp [results,Tryz.results95],rfl,rfl,h2,h4⟩
     cases c₀
     simp_all
   | ret=>obtain ⟨e',h1,h2,h3,h4⟩:=hp;exact h4.elim
   | exit id=>obtain ⟨e',h1,h2,h3,h4⟩:=hp;exact h4.elim
   | goto t=>exact hp.elim
   | outgrown=>exact hp.elim
   | panic ch=>obtain ⟨v,h1,h2,h3,h4⟩:=hp;exact h4.elim
theorem ZtF:pD = .region 3 #[⟨some 10,.makeFunc (.func 95) #[] #[.tmp 2,.tmp 3,.tmp 4],1, "json.go:272", #[],none⟩,⟨none,.defer ⟨.value (.tmp 10),#[],#[]⟩,0, "json.go:272", #[⟨0,.data⟩],none⟩] false:=by kernel_rfl
theorem wpD {a:Act} {w:World} {Q:Exit→Act→World→Prop} {b2 b3 b4:Nat} (h2:a.tmps[2]?=some (ptr b2)) (h3:a.tmps[3]?=some (ptr b3)) (h4:a.tmps[4]?=some (ptr b4)) (hd:a.defers=[]) (hs:a.tmps.size=32)
    (h:pR.wp Tryz.prog Q { tmps:=a.tmps.setIfInBounds 10 (.func (.func 95) #[] #[ptr b2,ptr b3,ptr b4]),defers:=[clo b2 b3 b4]} w):(Code.seq pD pR).wp Tryz.prog Q a w:=by
  apply wp_seq
  rw [ZtF]
  apply wp_region
  have hmf:∀ (fn:Fn) (first cap:Array Value) (w:World),(Instr.makeFunc fn first cap).run Tryz.prog w = .ok (.func fn first cap) w:=fun _ _ _ _=>rfl
  have e2:a.eval (.tmp 2)=ptr b2:=by simp [Act.eval,h2]
  have e3:a.eval (.tmp 3)=ptr b3:=by simp [Act.eval,h3]
  have e4:a.eval (.tmp 4)=ptr b4:=by simp [Act.eval,h4]
  have e10:({ tmps:=a.tmps.setIfInBounds 10 (.func (.func 95) #[] #[ptr b2,ptr b3,ptr b4]),defers:=[]}:Act).eval (.tmp 10) = .func (.func 95) #[] #[ptr b2,ptr b3,ptr b4]:=by simp [Act.eval,hs]
  obtain ⟨tm,df⟩:=a
  dsimp only at hd hs h2 h3 h4
  subst hd
  show wpOps _ _ _ [0,1] _ _
  simp [wpOps,go_sem,hmf,e2,e3,e4,e10,Exit.then]
  refine .inl (.inl ?_)
  have g2:tm[2]'(by omega)=ptr b2:=(Array.getElem?_eq_some_iff.1 h2).2
  have g3:tm[3]'(by omega)=ptr b3:=(Array.getElem?_eq_some_iff.1 h3).2
  have g4:tm[4]'(by omega)=ptr b4:=(Array.getElem?_eq_some_iff.1 h4).2
  simp [g2,g3,g4,hs,Oper.upon]
  exact h
theorem nR:ZgB (Fw.dstsOf pR) mkN=false∧ZgB (Fw.dstsOf pR) 2=false∧ZgB (Fw.dstsOf pR) 3=false∧ZgB (Fw.dstsOf pR) 4=false∧ZgB (Fw.dstsOf pA) mkN=false∧ZgB (Fw.dstsOf pB) mkN=false:=⟨by kernel_rfl,by kernel_rfl,by kernel_rfl,by kernel_rfl,by kernel_rfl,by kernel_rfl⟩
theorem ZaW {l:List Nat} {j:Nat} (h:ZgB l j=false):j∉l:=by
  induction l with
  | nil=>intro h9;cases h9
  | cons x xs ih =>
    intro h9
    simp only [ZgB] at h
    cases hx:Nat.beq j x with
    | true=>rw [hx] at h;cases h
    | false =>
      rw [hx] at h
      rcases List.mem_cons.1 h9 with h9 | h9
      ·rw [← h9,Nat.beq_refl] at hx;cases hx
      ·exact ih h h9
theorem Zl7 {b2 b3 b4 j:Nat} {v:EV} (h:(Zq8 b2 b3 b4).f j=some v):(j=2∧v = .adr b2 0)∨(j=3∧v = .adr b3 0)∨(j=4∧v = .adr b4 0):=by
  unfold Zq8 at h
  dsimp only at h
  cases h0:Nat.beq j 2 with
  | true=>rw [h0] at h;cases h;exact .inl ⟨Nat.eq_of_beq_eq_true h0,rfl⟩
  | false =>
    rw [h0] at h
    cases h1:Nat.beq j 3 with
    | true=>rw [h1] at h;cases h;exact .inr (.inl ⟨Nat.eq_of_beq_eq_true h1,rfl⟩)
    | false =>
      rw [h1] at h
      cases h2:Nat.beq j 4 with
      | true=>rw [h2] at h;cases h;exact .inr (.inr ⟨Nat.eq_of_beq_eq_true h2,rfl⟩)
      | false=>rw [h2] at h;cases h
set_option maxRecDepth 100000 in
theorem Zoc {a:Act} {w w3:World} {K:Yz ZiS→HP} {b2 b3 b4:Nat} {e3:Env} (hag:∀ j v,e3 j=some v→a.tmps[j]?=some v.v) (hd:a.defers=[clo b2 b3 b4]) (hs:Fw.Same w w3) (hk:Zos K e3 w3.heap) :
    Leaves Tryz.prog Tryz.f25 a.tmps (Za0 ZiS w K fun _ _=>False) a.defers .returning w3:=by
  rw [hd]
  unfold clo
  refine leaves_cons (f:=95) (args:= #[ptr b2,ptr b3,ptr b4]) (by simp) (by simp [go_sem,ptr]) (ZlY.mono ?_)
  rintro e u w4 ⟨rfl,rfl,h1,h2⟩
  have hk4:Zos K e3 w4.heap:=by rw [h2];exact hk
  obtain ⟨v,hv,r,rfl,hr⟩:=ZjG hag hk4
  exact ⟨_,hv,.inl ⟨r,rfl,hs.trans h1,hr⟩⟩
set_option maxRecDepth 100000 in
theorem ZoQ {a:Act} {w w3:World} {K:Yz ZiS→HP} {b2 b3 b4:Nat} {v:Value} (h2:a.tmps[2]?=some (ptr b2)) (h3:a.tmps[3]?=some (ptr b3)) (h4:a.tmps[4]?=some (ptr b4)) (hd:a.defers=[clo b2 b3 b4]) (hs:Fw.Same w w3)
    (hk:ZtE b2 b3 b4 (Zos K (Zq8 b2 b3 b4)) v w3.heap):Leaves Tryz.prog Tryz.f25 a.tmps (Za0 ZiS w K fun _ _=>False) a.defers (.panicking [{ v,recovered:=false }]) w3:=by
  obtain ⟨e,n,rfl,hc⟩:=hk
  rw [hd]
  unfold clo
  refine leaves_cons (f:=95) (args:= #[ptr b2,ptr b3,ptr b4]) (by simp) (by simp [go_sem,ptr]) ((Zkc hc).mono ?_)
  rintro e' u w4 ⟨rfl,rfl,g1,g2⟩
  have hag:∀ j v,(Zq8 b2 b3 b4) j=some v→a.tmps[j]?=some v.v:=fun j v hj=>by
    have hv:(j=2∧v = .adr b2 0)∨(j=3∧v = .adr b3 0)∨(j=4∧v = .adr b4 0):=Zl7 hj
    rcases hv with ⟨rfl,rfl⟩ | ⟨rfl,rfl⟩ | ⟨rfl,rfl⟩
    ·exact h2
    ·exact h3
    ·exact h4
  obtain ⟨v,hv,r,rfl,hr⟩:=ZjG hag g2
  exact ⟨_,hv,.inl ⟨r,rfl,hs.trans g1,hr⟩⟩
theorem Zt0 {s:ByteArray}:Agr 32 (Zd4 [.val (.string s)]) { tmps:= #[.string s]++Array.replicate 31 undef,defers:=[]}:=by
  refine ⟨by simp,rfl,fun j v hj=>?_⟩
  obtain ⟨k,hk,hv⟩:=ZeY [.val (.string s)] 0 j v hj
  cases k with
  | zero=>simp at hk hv;subst hk hv;simp [EV.v]
  | succ k=>simp at hv
theorem Zpk {e:Env} {a:Act} {b2 b3 b4:Nat} {x:Value} (h:Agr 32 e a):Agr 32 (Zuk e b2 b3 b4) { tmps:=a.tmps.setIfInBounds 10 x,defers:=[clo b2 b3 b4]}:=by
  refine ⟨by simp [h.size],rfl,fun j v hj=>?_⟩
  have hj':(bif Nat.beq j 10 then none else e.f j)=some v:=hj
  cases h10:Nat.beq j 10 with
  | true=>rw [h10] at hj';cases hj'
  | false =>
    rw [h10] at hj'
    have hne:10≠j:=fun h9=>by rw [← h9] at h10;cases h10
    show (a.tmps.setIfInBounds 10 x)[j]?=_
    rw [Array.getElem?_setIfInBounds_ne hne]
    exact h.val j v hj'
set_option maxRecDepth 100000 in
theorem ZjN {s:ByteArray} {K:Yz ZiS→HP} {w:World} (hk:prd s K w.heap):Calls Tryz.prog 25 #[.string s] w (Za0 ZiS w K fun _ _=>False):=by
  refine calls_of_wp_defers Tryz.func25 ZoN ?_
  show (Code.seq pA (.seq pB (.seq pD pR))).wp Tryz.prog _ { tmps:= #[.string s]++Array.replicate 31 undef,defers:=[]} w
  obtain ⟨q1,q2,q3,q4,q5,q6⟩:=nR
  have stop:∀ {a:Act} {w1:World} {e:Env},Agr 32 e a→Fw.Same w w1→a.defers=[]→Zos K e w1.heap→Leaves Tryz.prog Tryz.f25 a.tmps (Za0 ZiS w K fun _ _=>False) a.defers .returning w1:=fun {a w1 e} g1 g2 g3 g4=>by
    rw [g3]
    obtain ⟨v,hv,r,rfl,hr⟩:=ZjG g1.val g4
    exact ⟨_,hv,.inl ⟨r,rfl,g2,hr⟩⟩
  unfold prd at hk
  have hA:=YJ pA (ZoP fun _ _=>False) (ZjM _) Zt .leaf _ _ w _ Zt0 hk
  refine wp_seq ((wpIn_wide (n:=0)).1 (wpIn_mono hA ?_))
  intro ex a1 w1 hp
  cases ex with
  | goto t=>exact hp.elim
  | outgrown=>exact hp.elim
  | panic ch=>obtain ⟨v,h1,h2,h3,h4⟩:=hp;exact h4.elim
  | exit id=>obtain ⟨e1,g1,g2,g3,g4⟩:=hp;exact g4.elim
  | ret =>
    obtain ⟨e1,g1,g2,g3,g4⟩:=hp
    exact stop g1 g2 (g3.2 (ZaW q5)) g4
  | normal =>
    obtain ⟨e1,g1,g2,g3,g4⟩:=hp
    have d1:a1.defers=[]:=g3.2 (ZaW q5)
    have hB:=YJ pB (ZoP fun _ _=>False) (ZjM _) Zt .leaf _ _ w1 _ g1 g4
    refine wp_seq ((wpIn_wide (n:=0)).1 (wpIn_mono hB ?_))
    intro ex a2 w2 hp
    cases ex with
    | goto t=>exact hp.elim
    | outgrown=>exact hp.elim
    | panic ch=>obtain ⟨v,h1,h2,h3,h4⟩:=hp;exact h4.elim
    | exit id=>obtain ⟨e2,j1,j2,j3,j4⟩:=hp;exact j4.elim
    | ret =>
      obtain ⟨e2,j1,j2,j3,j4⟩:=hp
      exact stop j1 (g2.trans j2) ((j3.2 (ZaW q6)).trans d1) j4
    | normal =>
      obtain ⟨e2,j1,j2,j3,j4⟩:=hp
      have d2:a2.defers=[]:=(j3.2 (ZaW q6)).trans d1
      dsimp only at j4
      split at j4
      case h_2=>exact j4.elim
      rename_i b2 b3 b4 h2 h3 h4
      have t2:=j1.val 2 _ h2
      have t3:=j1.val 3 _ h3
      have t4:=j1.val 4 _ h4
      refine wpD t2 t3 t4 d2 j1.size ?_
      have hR:=YJ pR (ZoP (ZtE b2 b3 b4 (Zos K (Zq8 b2 b3 b4)))) (ZjM _) Zt .leaf _ _ w2 _ (Zpk (x:= .func (.func 95) #[] #[ptr b2,ptr b3,ptr b4]) j1) j4
      refine (wpIn_wide (n:=0)).1 (wpIn_mono hR ?_)
      intro ex a3 w3 hp
      cases ex with
      | goto t=>exact hp.elim
      | outgrown=>exact hp.elim
      | exit id=>obtain ⟨e3,k1,k2,k3,k4⟩:=hp;exact k4.elim
      | normal =>
        obtain ⟨e3,k1,k2,k3,k4⟩:=hp
        exact Zoc k1.val (k3.2 (ZaW q1)) ((g2.trans j2).trans k2) k4
      | ret =>
        obtain ⟨e3,k1,k2,k3,k4⟩:=hp
        exact Zoc k1.val (k3.2 (ZaW q1)) ((g2.trans j2).trans k2) k4
      | panic ch =>
        obtain ⟨v,rfl,k2,k3,k4⟩:=hp
        have e2:=(k3.1 2 (ZaW q2)).trans (show (a2.tmps.setIfInBounds 10 _)[2]?=some (ptr b2) by rw [Array.getElem?_setIfInBounds_ne (by decide)];exact t2)
        have e3:=(k3.1 3 (ZaW q3)).trans (show (a2.tmps.setIfInBounds 10 _)[3]?=some (ptr b3) by rw [Array.getElem?_setIfInBounds_ne (by decide)];exact t3)
        have e4:=(k3.1 4 (ZaW q4)).trans (show (a2.tmps.setIfInBounds 10 _)[4]?=some (ptr b4) by rw [Array.getElem?_setIfInBounds_ne (by decide)];exact t4)
        exact ZoQ e2 e3 e4 (k3.2 (ZaW q1)) ((g2.trans j2).trans k2) k4
theorem rdP (s:ByteArray) (K:(Int × ByteArray × Sl × Sl × Unit)→Int→Int→HP) (h:Zc):prd s (fun r h=>K r.1 r.2.1 r.2.2.1 h) h=Z8 s K h:=by kernel_rfl
def ZiP:Zh:=⟨[.one (.S)],ZiS,fun t K _ h=>Z8 t.1 (fun r0 r1 r2 h=>K (r0,r1,r2,()) h) h⟩
set_option maxRecDepth 100000 in
theorem ZlO {s:ByteArray} {K:(Int × ByteArray × Sl × Sl × Unit)→Int→Int→HP} {w:World} (hk:Z8 s K w.heap):Calls Tryz.prog 25 #[.string s] w fun e w'=>∃ r:Yz ZiS,e = .returned (ZpL ZiS r)∧Fw.Same w w'∧K r.1 r.2.1 r.2.2.1 w'.heap:=by
  have hk':prd s (fun r h=>K r.1 r.2.1 r.2.2.1 h) w.heap:=(rdP s K w.heap).mpr hk
  refine (ZjN hk').mono ?_
  rintro e w' (⟨r,he,hs,hr⟩ | ⟨v,he,hs,hr⟩)
  ·exact ⟨r,he,hs,hr⟩
  ·exact hr.elim
theorem Zck:Zr Tryz.prog 25 ZiP where
  named:=⟨_,Tryz.func25,by kernel_rfl,by kernel_rfl⟩
  calls t K Kp w hk:=(ZlO (K:=fun r0 r1 r2 h=>K (r0,r1,r2,()) h) hk).mono fun e w' h9=>let ⟨r,he,hs,hr⟩:=h9;.inl ⟨r,he,hs,hr⟩
abbrev Ztg (f:ZrC):Zh:=⟨[.one (.S)],[.one (.B)],fun t K _ h=>f t.1 (fun r0 h=>K (r0,()) h) h⟩
abbrev Zwv (f26:Zoq):Cfg:=Ye Tryz.prog [(25,⟨[.one (.S)],[.agg [.I .u8,.S,.L,.L],.one (.I .i64),.one (.I .i64)],fun t K _ h=>f26 t.1 (fun r0 r1 r2 h=>K (r0,r1,r2,()) h) h⟩)] 25 [] [] [] Yf
theorem ZuY (f26:Zoq):Ys (Zwv f26) Tryz.f162 (.leaf) (Ztg (ZbB f26)):=fun _ _ _ _=>by kernel_rfl
theorem ZvM:Zr Tryz.prog 162 (Ztg XM):=okF (ZuY Z8) Tryz.func162 Zt (ZJ _ (.cons Zck .nil) .nil .nil .nil (ZI _))
abbrev Ztf (f:ZrB):Zh:=⟨[.one (.S)],[.one (.B)],fun t K _ h=>f t.1 (fun r0 h=>K (r0,()) h) h⟩
abbrev Zwu (f15:Zmf):Cfg:=Ye Tryz.prog [(163,⟨[.one (.S)],[.one (.B)],fun t K _ h=>f15 t.1 (fun r0 h=>K (r0,()) h) h⟩)] 6 [] [] [] Yf
theorem ZuX (f15:Zmf):Ys (Zwu f15) Tryz.f165 (.leaf) (Ztf (ZbY f15)):=fun _ _ _ _=>by kernel_rfl
theorem ZvL:Zr Tryz.prog 165 (Ztf ZaX):=okF (ZuX Zz) Tryz.func165 Zt (ZJ _ (.cons Yi .nil) .nil .nil .nil (ZI _))
abbrev Zte (f:ZrA):Zh:=⟨[.one (.L),.fn 165],[.one (.I .i64)],fun t K _ h=>f t.1 (fun r0 h=>K (r0,()) h) h⟩
abbrev Zwt (f48:ZrB):Cfg:=Ye Tryz.prog [(165,Ztf f48)] 19 [] [] [] Yf
theorem ZuW (f48:ZrB):Ys (Zwt f48) Tryz.f238 (.seq (.leaf) (.seq (.seq (.leaf) (.block (.loop [8] [.one (.I .i64)] [(4,5),(9,18)] (.leaf)))) (.leaf))) (Zte (ZL f48)):=fun _ _ _ _=>by kernel_rfl
theorem ZvK:Zr Tryz.prog 238 (Zte ZF):=okF (ZuW ZaX) Tryz.func238 Zt (ZJ _ (.cons ZvL .nil) .nil .nil .nil (ZI _))
abbrev Ztd (f:Zrz):Zh:=⟨[.one (.L),.fn 165],[.one (.B)],fun t K _ h=>f t.1 (fun r0 h=>K (r0,()) h) h⟩
abbrev Zws (f49:ZrA):Cfg:=Ye Tryz.prog [(238,Zte f49)] 9 [] [] [] Yf
theorem ZuV (f49:ZrA):Ys (Zws f49) Tryz.f164 (.leaf) (Ztd (ZH f49)):=fun _ _ _ _=>by kernel_rfl
theorem ZvJ:Zr Tryz.prog 164 (Ztd Zu):=okF (ZuV ZF) Tryz.func164 Zt (ZJ _ (.cons ZvK .nil) .nil .nil .nil (ZI _))
abbrev Ztc (f:Zry):Zh:=⟨[.agg [.I .u8,.S,.L,.L]],[.one (.B)],fun t K _ h=>f t.1 (fun r0 h=>K (r0,()) h) h⟩
abbrev Zwr (f47:ZrC) (f15:Zmf) (f50:Zrz):Cfg:=Ye Tryz.prog [(162,Ztg f47),(163,⟨[.one (.S)],[.one (.B)],fun t K _ h=>f15 t.1 (fun r0 h=>K (r0,()) h) h⟩),(164,Ztd f50)] 86 [] [] [] Yf
theorem ZuU (f47:ZrC) (f15:Zmf) (f50:Zrz):Ys (Zwr f47 f15 f50) Tryz.f94 (.seq (.leaf) (.seq (.leaf) (.seq (.seq (.leaf) (.block (.cut [19] [.one (.B)] [(20,22)] (.leaf) (.leaf)))) (.leaf)))) (Ztc (Zc7 f47 f15 f50)):=fun _ _ _ _=>by kernel_rfl
theorem ZvI:Zr Tryz.prog 94 (Ztc Za3):=okF (ZuU XM Zz Zu) Tryz.func94 Zt (ZJ _ (.cons ZvM (.cons Yi (.cons ZvJ .nil))) .nil .nil .nil (ZI _))
abbrev Ztb (f:Zrx):Zh:=⟨[.agg [.I .u8,.S,.L,.L]],[.one (.B)],fun t K _ h=>f t.1 (fun r0 h=>K (r0,()) h) h⟩
abbrev Zwq:Cfg:=Ye Tryz.prog [] 3 [] [] [] Yf
theorem ZuT:Ys (Zwq) Tryz.f119 (.leaf) (Ztb ZbZ):=fun _ _ _ _=>by kernel_rfl
theorem ZvH:Zr Tryz.prog 119 (Ztb ZaY):=okF (ZuT) Tryz.func119 Zt (ZJ _ .nil .nil .nil .nil (ZI _))
abbrev Zmj (f:Zfv):Zh:=⟨[.one (.P),.agg [.I .u8,.S,.L,.L],.one (.I .i64),.one (.V)],[.one (.B)],fun t K _ h=>f t.1 t.2.1 t.2.2.1 t.2.2.2.1 (fun r0 h=>K (r0,()) h) h⟩
abbrev Zta (f:Zrw):Zh:=⟨[.agg [.I .u8,.S,.L,.L],.one (.P),.one (.P),.one (.P)],[.one (.B)],fun t K _ h=>f t.1 t.2.1 t.2.2.1 t.2.2.2.1 (fun r0 h=>K (r0,()) h) h⟩
abbrev Zwo (f53:Zfv):Cfg:=Ye Tryz.prog [(93,Zmj f53)] 13 [] [] [] Yf
theorem ZuR (f53:Zfv):Ys (Zwo f53) Tryz.f161 (.leaf) (Zta (Zan f53)):=fun _ _ _ _=>by kernel_rfl
theorem Zvl (f53:Zfv) (hH:Zr Tryz.prog 93 (Zmj f53)):Zr Tryz.prog 161 (Zta (Xr f53)):=okF (ZuR f53) Tryz.func161 Zt (ZJ _ (.cons hH .nil) .nil .nil .nil (ZI _)) (hlen:=Nat.le_of_ble_eq_true rfl)
abbrev Zs9 (f:Zrv):Zh:=⟨[.one (.L),.clo 161 [.P,.P,.P]],[.one (.I .i64)],fun t K _ h=>f t.1 t.2.1 (fun r0 h=>K (r0,()) h) h⟩
abbrev Zwn (f54:Zrw):Cfg:=Ye Tryz.prog [(161,Zta f54)] 19 [] [] [] Yf
theorem ZuQ (f54:Zrw):Ys (Zwn f54) Tryz.f236 (.seq (.leaf) (.seq (.seq (.leaf) (.block (.loop [8] [.one (.I .i64)] [(4,5),(9,18)] (.leaf)))) (.leaf))) (Zs9 (ZG f54)):=fun _ _ _ _=>by kernel_rfl
theorem Zvk (f53:Zfv) (hH:Zr Tryz.prog 93 (Zmj f53)):Zr Tryz.prog 236 (Zs9 (Zv f53)):=okF (ZuQ (Xr f53)) Tryz.func236 Zt (ZJ _ (.cons (Zvl f53 hH) .nil) .nil .nil .nil (ZI _)) (hlen:=Nat.le_of_ble_eq_true rfl)
abbrev Zs8 (f:Zru):Zh:=⟨[.one (.L),.clo 161 [.P,.P,.P]],[.one (.B)],fun t K _ h=>f t.1 t.2.1 (fun r0 h=>K (r0,()) h) h⟩
abbrev Zwm (f55:Zrv):Cfg:=Ye Tryz.prog [(236,Zs9 f55)] 9 [] [] [] Yf
theorem ZuP (f55:Zrv):Ys (Zwm f55) Tryz.f160 (.leaf) (Zs8 (ZD f55)):=fun _ _ _ _=>by kernel_rfl
theorem Zvj (f53:Zfv) (hH:Zr Tryz.prog 93 (Zmj f53)):Zr Tryz.prog 160 (Zs8 (Zl f53)):=okF (ZuP (Zv f53)) Tryz.func160 Zt (ZJ _ (.cons (Zvk f53 hH) .nil) .nil .nil .nil (ZI _)) (hlen:=Nat.le_of_ble_eq_true rfl)
abbrev Zwp (f51:Zry) (f52:Zrx) (f56:Zru):Cfg:=Ye Tryz.prog [(94,Ztc f51),(119,Ztb f52),(160,Zs8 f56)] 52 [] [] [] Yf [(94,[]),(119,[])]
theorem ZuS (f51:Zry) (f52:Zrx) (f56:Zru):Ys (Zwp f51 f52 f56) Tryz.f93 (.seq (.leaf) (.seq (.leaf) (.seq (.leaf) (.cut [] [] [(8,8),(27,34)] (.leaf) (.seq (.order (.take 0 (.take 1 (.take 2 (.take 3 (.take 4 (.take 5 (.take 6 (.take 7 (.take 8 (.take 9 (.take 10 .done)))))))))))) (.leaf)))))) (Zmj (ZaT f51 f52 f56)):=fun _ _ _ _=>by kernel_rfl
theorem Zvm (f53:Zfv) (hH:Zr Tryz.prog 93 (Zmj f53)):Zr Tryz.prog 93 (Zmj (XW f53)):=okF (ZuS Za3 ZaY (Zl f53)) Tryz.func93 Zt (ZJ _ (.cons ZvI (.cons ZvH (.cons (Zvj f53 hH) .nil))) .nil .nil .nil (ZI _)) (hlen:=Nat.le_of_ble_eq_true rfl)
theorem Zua:∀ n,Zr Tryz.prog 93 (Zmj (Yw n))
 | 0=>ZdU Tryz.func93 (by kernel_rfl) (by kernel_rfl) fun _ _ _ _ h=>h
 | n+1=>Zvm _ (Zua n)
theorem Zug:Zr Tryz.prog 93 (Zmj Xh):=ZjO Zua
abbrev Zq4 (f:Zkp):Zh:=⟨[.agg [.I .u8,.S,.L,.L]],[.one (.B)],fun t K _ h=>f t.1 (fun r0 h=>K (r0,()) h) h⟩
abbrev Zwl (f53:Zfv):Cfg:=Ye Tryz.prog [(93,Zmj f53)] 16 [] [] [] Yf
theorem ZuO (f53:Zfv):Ys (Zwl f53) Tryz.f22 (.leaf) (Zq4 (Zdb f53)):=fun _ _ _ _=>by kernel_rfl
theorem ZsD:Zr Tryz.prog 22 (Zq4 Yt):=okF (ZuO Xh) Tryz.func22 Zt (ZJ _ (.cons Zug .nil) .nil .nil .nil (ZI _))
abbrev ZsH (f:Zpz):Zh:=⟨[.one (.P)],[.one (.I .i64)],fun t K _ h=>f t.1 (fun r0 h=>K (r0,()) h) h⟩
abbrev Zwk:Cfg:=Ye Tryz.prog [] 8 [] [] [] Yf
theorem ZuN:Ys (Zwk) Tryz.f114 (.leaf) (ZsH XP):=fun _ _ _ _=>by kernel_rfl
theorem Zuf:Zr Tryz.prog 114 (ZsH Z3):=okF (ZuN) Tryz.func114 Zt (ZJ _ .nil .nil .nil .nil (ZI _))
abbrev Zs7 (f:Zrt):Zh:=⟨[.one (.P),.one (.S)],[],fun t K _ h=>f t.1 t.2.1 (fun h=>K (()) h) h⟩
abbrev Zwj (f6:zT6) (f0:zT0) (f17:Zmm):Cfg:=Ye Tryz.prog [(184,zk6 f6),(171,⟨[.one (.S),.one (.I .u8)],[.one (.I .i64)],fun t K _ h=>f0 t.1 t.2.1 (fun r0 h=>K (r0,()) h) h⟩),(183,Zrf f17)] 81 [] [] [] Yf
theorem ZuM (f6:zT6) (f0:zT0) (f17:Zmm):Ys (Zwj f6 f0 f17) Tryz.f201 (.seq (.leaf) (.seq (.seq (.leaf) (.block (.loop [13] [.one (.I .i64)] [(4,6),(14,76)] (.seq (.leaf) (.seq (.leaf) (.seq (.block (.seq (.leaf) (.seq (.leaf) (.seq (.leaf) (.block (.cut [26] [.one (.B)] [(27,32)] (.leaf) (.cond (.leaf) (.seq (.leaf) (.cond (.seq (.leaf) (.order (.take 0 (.take 1 (.take 2 (.take 3 (.take 4 (.take 5 .done)))))))) (.seq (.leaf) (.cond (.seq (.leaf) (.seq (.order (.take 0 (.take 1 (.take 2 (.take 3 (.take 4 (.take 5 (.take 6 .done)))))))) (.order (.take 0 (.take 1 (.take 2 (.take 3 (.take 4 (.take 5 (.take 6 .done)))))))))) (.leaf)))))))))))) (.leaf))))))) (.leaf))) (Zs7 (ZaD f6 f0 f17)):=fun _ _ _ _=>by kernel_rfl
theorem ZvG:Zr Tryz.prog 201 (Zs7 Y0):=okF (ZuM Zp Z1 Zo) Tryz.func201 Zt (ZJ _ (.cons zo6 (.cons X0 (.cons ZsU .nil))) .nil .nil .nil (ZI _))
abbrev Zqa (f:Zko):Zh:=⟨[.one (.P),.agg [.I .u8,.S,.L,.L]],[],fun t K _ h=>f t.1 t.2.1 (fun h=>K (()) h) h⟩
abbrev Zwi (f58:Zpz) (f17:Zmm) (f59:Zrt) (f6:zT6) (f60:Zko):Cfg:=Ye Tryz.prog [(114,ZsH f58),(183,Zrf f17),(201,Zs7 f59),(184,zk6 f6),(113,Zqa f60)] 93 [] [] [] Yf
theorem ZuL (f58:Zpz) (f17:Zmm) (f59:Zrt) (f6:zT6) (f60:Zko):Ys (Zwi f58 f17 f59 f6 f60) Tryz.f113 (.seq (.leaf) (.seq (.leaf) (.seq (.leaf) (.block (.seq (.leaf) (.cond (.leaf) (.seq (.leaf) (.cond (.leaf) (.seq (.leaf) (.cond (.leaf) (.seq (.leaf) (.cond (.order (.take 0 (.take 1 (.take 2 (.take 3 (.take 4 (.take 5 .done))))))) (.seq (.leaf) (.cond (.leaf) (.seq (.leaf) (.cut [4] [.one (.S)] [(14,16)] (.leaf) (.seq (.order (.take 0 (.take 1 (.take 2 (.take 3 (.take 4 (.take 5 .done))))))) (.seq (.seq (.leaf) (.block (.loop [26] [.one (.I .i64)] [(5,6),(27,54)] (.seq (.leaf) (.seq (.leaf) (.seq (.block (.seq (.leaf) (.cut [] [] [(31,36)] (.leaf) (.cut [] [] [(37,50)] (.leaf) (.leaf))))) (.leaf))))))) (.order (.take 0 (.take 1 (.take 2 (.take 3 (.take 4 (.take 5 .done))))))))))))))))))))))))) (Zqa (Zak f58 f17 f59 f6 f60)):=fun _ _ _ _=>by kernel_rfl
theorem Zvi (f60:Zko) (hH:Zr Tryz.prog 113 (Zqa f60)):Zr Tryz.prog 113 (Zqa (Xp f60)):=okF (ZuL Z3 Zo Y0 Zp f60) Tryz.func113 Zt (ZJ _ (.cons Zuf (.cons ZsU (.cons ZvG (.cons zo6 (.cons hH .nil))))) .nil .nil .nil (ZI _)) (hlen:=Nat.le_of_ble_eq_true rfl)
theorem Zt9:∀ n,Zr Tryz.prog 113 (Zqa (Yg n))
 | 0=>ZdU Tryz.func113 (by kernel_rfl) (by kernel_rfl) fun _ _ _ _ h=>h
 | n+1=>Zvi _ (Zt9 n)
theorem ZvF:Zr Tryz.prog 113 (Zqa Zah):=ZjO Zt9
abbrev Zre (f:Zml):Zh:=⟨[.agg [.I .u8,.S,.L,.L]],[.one (.S),.one (.I .i64)],fun t K _ h=>f t.1 (fun r0 r1 h=>K (r0,r1,()) h) h⟩
abbrev Zwh (f57:Zkp) (f60:Zko) (f58:Zpz) (f4:zT4):Cfg:=Ye Tryz.prog [(22,Zq4 f57),(113,Zqa f60),(114,ZsH f58),(115,⟨[.one (.P)],[.one (.S)],fun t K _ h=>f4 t.1 (fun r0 h=>K (r0,()) h) h⟩)] 15 [] [] [] Yf
theorem ZuK (f57:Zkp) (f60:Zko) (f58:Zpz) (f4:zT4):Ys (Zwh f57 f60 f58 f4) Tryz.f36 (.leaf) (Zre (Zdc f57 f60 f58 f4)):=fun _ _ _ _=>by kernel_rfl
theorem ZsT:Zr Tryz.prog 36 (Zre YP):=okF (ZuK Yt Zah Z3 ZV) Tryz.func36 Zt (ZJ _ (.cons ZsD (.cons ZvF (.cons Zuf (.cons Zab .nil)))) .nil .nil .nil (ZI _))
abbrev Zs6 (f:Zrs):Zh:=⟨[.one (.I .i64)],[.agg [.I .u8,.S,.L,.L]],fun t K _ h=>f t.1 (fun r0 h=>K (r0,()) h) h⟩
abbrev Zwg (f62:Zty):Cfg:=Ye Tryz.prog [(31,⟨[.one (.I .i64)],[.one (.S)],fun t K _ h=>f62 t.1 (fun r0 h=>K (r0,()) h) h⟩)] 6 [] [] [] Yf
theorem ZuJ (f62:Zty):Ys (Zwg f62) Tryz.f30 (.leaf) (Zs6 (Zdd f62)):=fun _ _ _ _=>by kernel_rfl
theorem ZvE:Zr Tryz.prog 30 (Zs6 Za5):=okF (ZuJ ZbW) Tryz.func30 Zt (ZJ _ (.cons Zf0 .nil) .nil .nil .nil (ZI _))
abbrev Zs5 (f:Zrr):Zh:=⟨[.one (.S),.one (.S)],[.one (.S),.one (.B)],fun t K _ h=>f t.1 t.2.1 (fun r0 r1 h=>K (r0,r1,()) h) h⟩
abbrev Zwf (f8:zT8):Cfg:=Ye Tryz.prog [(249,zk8 f8)] 15 [] [] [] Yf
theorem ZuI (f8:zT8):Ys (Zwf f8) Tryz.f180 (.leaf) (Zs5 (Yu f8)):=fun _ _ _ _=>by kernel_rfl
theorem ZvD:Zr Tryz.prog 180 (Zs5 ZX):=okF (ZuI Zs) Tryz.func180 Zt (ZJ _ (.cons zo8 .nil) .nil .nil .nil (ZI _))
abbrev Zs4 (f:Zrq):Zh:=⟨[.one (.S),.one (.S)],[.one (.S),.one (.B)],fun t K _ h=>f t.1 t.2.1 (fun r0 r1 h=>K (r0,r1,()) h) h⟩
abbrev Zwe (f64:Zrr):Cfg:=Ye Tryz.prog [(180,Zs5 f64)] 11 [] [] [] Yf
theorem ZuH (f64:Zrr):Ys (Zwe f64) Tryz.f101 (.leaf) (Zs4 (Zaj f64)):=fun _ _ _ _=>by kernel_rfl
theorem ZvC:Zr Tryz.prog 101 (Zs4 YT):=okF (ZuH ZX) Tryz.func101 Zt (ZJ _ (.cons ZvD .nil) .nil .nil .nil (ZI _))
abbrev Zs3 (f:Zrp):Zh:=⟨[.one (.S),.one (.S)],[.one (.S)],fun t K _ h=>f t.1 t.2.1 (fun r0 h=>K (r0,()) h) h⟩
abbrev Zwd (f8:zT8):Cfg:=Ye Tryz.prog [(249,zk8 f8)] 13 [] [] [] Yf
theorem ZuG (f8:zT8):Ys (Zwd f8) Tryz.f261 (.leaf) (Zs3 (Yp f8)):=fun _ _ _ _=>by kernel_rfl
theorem ZvB:Zr Tryz.prog 261 (Zs3 ZU):=okF (ZuG Zs) Tryz.func261 Zt (ZJ _ (.cons zo8 .nil) .nil .nil .nil (ZI _))
abbrev Zs2 (f:Zro):Zh:=⟨[.one (.S),.one (.S)],[.one (.S)],fun t K _ h=>f t.1 t.2.1 (fun r0 h=>K (r0,()) h) h⟩
abbrev Zwc (f70:Zrp):Cfg:=Ye Tryz.prog [(261,Zs3 f70)] 8 [] [] [] Yf
theorem ZuF (f70:Zrp):Ys (Zwc f70) Tryz.f194 (.leaf) (Zs2 (X2 f70)):=fun _ _ _ _=>by kernel_rfl
theorem ZvA:Zr Tryz.prog 194 (Zs2 YK):=okF (ZuF ZU) Tryz.func194 Zt (ZJ _ (.cons ZvB .nil) .nil .nil .nil (ZI _))
abbrev Zs1 (f:Zrn):Zh:=⟨[.one (.S)],[.one (.I .i64),.one (.B)],fun t K _ h=>f t.1 (fun r0 r1 h=>K (r0,r1,()) h) h⟩
abbrev Zwb (f71:Zro) (f72:Zq5):Cfg:=Ye Tryz.prog [(194,Zs2 f71),(108,⟨[.one (.S)],[.one (.I .i64),.one (.V)],fun t K _ h=>f72 t.1 (fun r0 r1 h=>K (r0,r1,()) h) h⟩)] 25 [] [] [] Yf
theorem ZuE (f71:Zro) (f72:Zq5):Ys (Zwb f71 f72) Tryz.f106 (.leaf) (Zs1 (ZbC f71 f72)):=fun _ _ _ _=>by kernel_rfl
theorem Zvz:Zr Tryz.prog 106 (Zs1 XN):=okF (ZuE YK Y6) Tryz.func106 Zt (ZJ _ (.cons ZvA (.cons ZcX .nil)) .nil .nil .nil (ZI _))
abbrev Zs0 (f:Zrm):Zh:=⟨[.agg [.I .u8,.S,.L,.L]],[.one (.I .i64),.one (.B)],fun t K _ h=>f t.1 (fun r0 r1 h=>K (r0,r1,()) h) h⟩
abbrev Zwa (f57:Zkp) (f65:Zrq) (f66:Ztx) (f67:Ztw) (f68:Ztv) (f69:Ztu) (f73:Zrn) (f74:Ztt) (f72:Zq5):Cfg:=Ye Tryz.prog [(22,Zq4 f57),(101,Zs4 f65),(103,⟨[.one (.S)],[.one (.S)],fun t K _ h=>f66 t.1 (fun r0 h=>K (r0,()) h) h⟩),(102,⟨[.one (.S),.one (.S)],[.one (.S),.one (.S),.one (.B)],fun t K _ h=>f67 t.1 t.2.1 (fun r0 r1 r2 h=>K (r0,r1,r2,()) h) h⟩),(104,⟨[.one (.S),.one (.S)],[.one (.S)],fun t K _ h=>f68 t.1 t.2.1 (fun r0 h=>K (r0,()) h) h⟩),(105,⟨[.one (.S),.one (.S)],[.one (.S)],fun t K _ h=>f69 t.1 t.2.1 (fun r0 h=>K (r0,()) h) h⟩),(106,Zs1 f73),(107,⟨[.one (.S),.one (.I .i64)],[.one (.S)],fun t K _ h=>f74 t.1 t.2.1 (fun r0 h=>K (r0,()) h) h⟩),(108,⟨[.one (.S)],[.one (.I .i64),.one (.V)],fun t K _ h=>f72 t.1 (fun r0 r1 h=>K (r0,r1,()) h) h⟩)] 92 [] [] [] Yf
theorem ZuD (f57:Zkp) (f65:Zrq) (f66:Ztx) (f67:Ztw) (f68:Ztv) (f69:Ztu) (f73:Zrn) (f74:Ztt) (f72:Zq5):Ys (Zwa f57 f65 f66 f67 f68 f69 f73 f74 f72) Tryz.f28 (.seq (.leaf) (.seq (.leaf) (.seq (.leaf) (.seq (.leaf) (.seq (.leaf) (.seq (.leaf) (.seq (.leaf) (.seq (.leaf) (.seq (.leaf) (.seq (.leaf) (.seq (.leaf) (.seq (.leaf) (.seq (.leaf) (.cut [11] [.one (.S)] [(81,83)] (.leaf) (.leaf))))))))))))))) (Zs0 (Zda f57 f65 f66 f67 f68 f69 f73 f74 f72)):=fun _ _ _ _=>by kernel_rfl
theorem Zvy:Zr Tryz.prog 28 (Zs0 Za4):=okF (ZuD Yt YT ZaR ZaB ZaA Xs XN Za7 Y6) Tryz.func28 Zt (ZJ _ (.cons ZsD (.cons ZvC (.cons Zej (.cons ZgP (.cons ZdT (.cons ZdD (.cons Zvz (.cons ZeN (.cons ZcX .nil))))))))) .nil .nil .nil (ZI _))
abbrev Zp9 (f:Zlq):Zh:=⟨[.agg [.I .u8,.S,.L,.L],.one (.I .i64)],[.one (.I .i64)],fun t K _ h=>f t.1 t.2.1 (fun r0 h=>K (r0,()) h) h⟩
abbrev Zv9 (f76:Zlq):Cfg:=Ye Tryz.prog [(204,Zp9 f76)] 27 [] [] [] Yf
theorem ZuC (f76:Zlq):Ys (Zv9 f76) Tryz.f204 (.seq (.leaf) (.seq (.leaf) (.seq (.seq (.leaf) (.block (.loop [5,11] [.one (.I .i64),.one (.I .i64)] [(7,7),(12,25)] (.leaf)))) (.leaf)))) (Zp9 (Zcr f76)):=fun _ _ _ _=>by kernel_rfl
theorem Zvh (f76:Zlq) (hH:Zr Tryz.prog 204 (Zp9 f76)):Zr Tryz.prog 204 (Zp9 (Zbh f76)):=okF (ZuC f76) Tryz.func204 Zt (ZJ _ (.cons hH .nil) .nil .nil .nil (ZI _)) (hlen:=Nat.le_of_ble_eq_true rfl)
theorem Zt8:∀ n,Zr Tryz.prog 204 (Zp9 (Xf n))
 | 0=>ZdU Tryz.func204 (by kernel_rfl) (by kernel_rfl) fun _ _ _ _ h=>h
 | n+1=>Zvh _ (Zt8 n)
theorem Zvx:Zr Tryz.prog 204 (Zp9 Zcm):=ZjO Zt8
abbrev ZsG (f:Zpy):Zh:=⟨[.agg [.I .u8,.S,.L,.L]],[.one (.B)],fun t K _ h=>f t.1 (fun r0 h=>K (r0,()) h) h⟩
abbrev Zv8 (f76:Zlq):Cfg:=Ye Tryz.prog [(204,Zp9 f76)] 6 [] [] [] Yf
theorem ZuB (f76:Zlq):Ys (Zv8 f76) Tryz.f118 (.leaf) (ZsG (Zc8 f76)):=fun _ _ _ _=>by kernel_rfl
theorem Zue:Zr Tryz.prog 118 (ZsG XL):=okF (ZuB Zcm) Tryz.func118 Zt (ZJ _ (.cons Zvx .nil) .nil .nil .nil (ZI _))
abbrev Zrd (f:Zmk):Zh:=⟨[.agg [.I .u8,.S,.L,.L]],[.one (.I .i64)],fun t K _ h=>f t.1 (fun r0 h=>K (r0,()) h) h⟩
abbrev Zv7 (f77:Zpy) (f53:Zfv):Cfg:=Ye Tryz.prog [(118,ZsG f77),(93,Zmj f53)] 19 [] [] [] Yf
theorem ZuA (f77:Zpy) (f53:Zfv):Ys (Zv7 f77 f53) Tryz.f39 (.leaf) (Zrd (Zdf f77 f53)):=fun _ _ _ _=>by kernel_rfl
theorem ZsS:Zr Tryz.prog 39 (Zrd YQ):=okF (ZuA XL Xh) Tryz.func39 Zt (ZJ _ (.cons Zue (.cons Zug .nil)) .nil .nil .nil (ZI _))
abbrev ZsF (f:Zpx):Zh:=⟨[],[.one (.B)],fun _ K _ h=>f (fun r0 h=>K (r0,()) h) h⟩
abbrev Zv6 (f26:Zoq) (f61:Zml) (f63:Zrs) (f75:Zrm) (f78:Zmk):Cfg:=Ye Tryz.prog [(25,⟨[.one (.S)],[.agg [.I .u8,.S,.L,.L],.one (.I .i64),.one (.I .i64)],fun t K _ h=>f26 t.1 (fun r0 r1 r2 h=>K (r0,r1,r2,()) h) h⟩),(36,Zre f61),(30,Zs6 f63),(28,Zs0 f75),(39,Zrd f78)] 61 [] [] [] Yf
theorem Zuz (f26:Zoq) (f61:Zml) (f63:Zrs) (f75:Zrm) (f78:Zmk):Ys (Zv6 f26 f61 f63 f75 f78) Tryz.f27 (.leaf) (ZsF (X3 f26 f61 f63 f75 f78)):=fun _ _ _ _=>by kernel_rfl
theorem Zud:Zr Tryz.prog 27 (ZsF Z7):=okF (Zuz Z8 YP Za5 Za4 YQ) Tryz.func27 Zt (ZJ _ (.cons Zck (.cons ZsT (.cons ZvE (.cons Zvy (.cons ZsS .nil))))) .nil .nil .nil (ZI _))
abbrev ZsZ (f:Zrl):Zh:=⟨[.one (.L),.one (.L)],[.one (.B)],fun t K _ h=>f t.1 t.2.1 (fun r0 h=>K (r0,()) h) h⟩
abbrev Zv5:Cfg:=Ye Tryz.prog [] 26 [] [] [] Yf
theorem Zuy:Ys (Zv5) Tryz.f83 (.seq (.leaf) (.seq (.leaf) (.seq (.seq (.leaf) (.block (.loop [5] [.one (.I .i64)] [(4,4),(11,25)] (.leaf)))) (.leaf)))) (ZsZ Xw):=fun _ _ _ _=>by kernel_rfl
theorem Zvw:Zr Tryz.prog 83 (ZsZ Yk):=okF (Zuy) Tryz.func83 Zt (ZJ _ .nil .nil .nil .nil (ZI _))
abbrev Zp8 (f:Zme):Zh:=⟨[.agg [.I .u8,.S,.L,.L],.agg [.I .u8,.S,.L,.L]],[.one (.B)],fun t K _ h=>f t.1 t.2.1 (fun r0 h=>K (r0,()) h) h⟩
abbrev Zv4 (f80:Zrl) (f81:Zme):Cfg:=Ye Tryz.prog [(83,ZsZ f80),(18,Zp8 f81)] 54 [] [] [] Yf
theorem Zux (f80:Zrl) (f81:Zme):Ys (Zv4 f80 f81) Tryz.f18 (.seq (.leaf) (.seq (.leaf) (.seq (.seq (.leaf) (.block (.loop [5] [.one (.I .i64)] [(4,4),(35,53)] (.seq (.leaf) (.seq (.block (.seq (.order (.take 0 (.take 2 (.take 5 (.take 7 (.take 1 (.take 3 (.take 4 (.take 6 (.take 8 (.take 9 (.take 10 (.take 11 .done))))))))))))) (.leaf))) (.leaf)))))) (.leaf)))) (Zp8 (Xv f80 f81)):=fun _ _ _ _=>by kernel_rfl
theorem Zvg (f81:Zme) (hH:Zr Tryz.prog 18 (Zp8 f81)):Zr Tryz.prog 18 (Zp8 (Xo f81)):=okF (Zux Yk f81) Tryz.func18 Zt (ZJ _ (.cons Zvw (.cons hH .nil)) .nil .nil .nil (ZI _)) (hlen:=Nat.le_of_ble_eq_true rfl)
theorem Zt7:∀ n,Zr Tryz.prog 18 (Zp8 (Ya n))
 | 0=>ZdU Tryz.func18 (by kernel_rfl) (by kernel_rfl) fun _ _ _ _ h=>h
 | n+1=>Zvg _ (Zt7 n)
theorem Zvv:Zr Tryz.prog 18 (Zp8 Yj):=ZjO Zt7
abbrev Zp7 (f:Zlp):Zh:=⟨[.agg [.I .u8,.S,.L,.L],.one (.I .i64)],[.one (.I .i64)],fun t K _ h=>f t.1 t.2.1 (fun r0 h=>K (r0,()) h) h⟩
abbrev Zv3 (f85:Zlp):Cfg:=Ye Tryz.prog [(111,Zp7 f85)] 31 [] [] [] Yf
theorem Zuw (f85:Zlp):Ys (Zv3 f85) Tryz.f111 (.seq (.leaf) (.seq (.leaf) (.seq (.seq (.leaf) (.block (.loop [5,6] [.one (.I .i64),.one (.I .i64)] [(7,29)] (.leaf)))) (.leaf)))) (Zp7 (XQ f85)):=fun _ _ _ _=>by kernel_rfl
theorem Zvf (f85:Zlp) (hH:Zr Tryz.prog 111 (Zp7 f85)):Zr Tryz.prog 111 (Zp7 (YY f85)):=okF (Zuw f85) Tryz.func111 Zt (ZJ _ (.cons hH .nil) .nil .nil .nil (ZI _)) (hlen:=Nat.le_of_ble_eq_true rfl)
theorem Zt6:∀ n,Zr Tryz.prog 111 (Zp7 (Z6 n))
 | 0=>ZdU Tryz.func111 (by kernel_rfl) (by kernel_rfl) fun _ _ _ _ h=>h
 | n+1=>Zvf _ (Zt6 n)
theorem Zvu:Zr Tryz.prog 111 (Zp7 XK):=ZjO Zt6
abbrev ZsY (f:Zrk):Zh:=⟨[.agg [.I .u8,.S,.L,.L]],[.one (.B)],fun t K _ h=>f t.1 (fun r0 h=>K (r0,()) h) h⟩
abbrev Zv2 (f85:Zlp):Cfg:=Ye Tryz.prog [(111,Zp7 f85)] 6 [] [] [] Yf
theorem Zuv (f85:Zlp):Ys (Zv2 f85) Tryz.f33 (.leaf) (ZsY (XR f85)):=fun _ _ _ _=>by kernel_rfl
theorem Zvt:Zr Tryz.prog 33 (ZsY YC):=okF (Zuv XK) Tryz.func33 Zt (ZJ _ (.cons Zvu .nil) .nil .nil .nil (ZI _))
abbrev ZsX (f:Zrj):Zh:=⟨[.one (.L),.one (.L)],[.one (.B)],fun t K _ h=>f t.1 t.2.1 (fun r0 h=>K (r0,()) h) h⟩
abbrev Zv1:Cfg:=Ye Tryz.prog [] 26 [] [] [] Yf
theorem Zuu:Ys (Zv1) Tryz.f205 (.seq (.leaf) (.seq (.leaf) (.seq (.seq (.leaf) (.block (.loop [13] [.one (.I .i64)] [(4,5),(14,25)] (.leaf)))) (.leaf)))) (ZsX YH):=fun _ _ _ _=>by kernel_rfl
theorem Zvs:Zr Tryz.prog 205 (ZsX ZR):=okF (Zuu) Tryz.func205 Zt (ZJ _ .nil .nil .nil .nil (ZI _))
abbrev Zpv (f:Zkn):Zh:=⟨[.agg [.I .u8,.S,.L,.L],.agg [.I .u8,.S,.L,.L]],[.one (.B)],fun t K _ h=>f t.1 t.2.1 (fun r0 h=>K (r0,()) h) h⟩
abbrev ZsW (f:Zri):Zh:=⟨[.one (.L),.one (.L),.fn 122],[.one (.B)],fun t K _ h=>f t.1 t.2.1 (fun r0 h=>K (r0,()) h) h⟩
abbrev ZvZ (f95:Zkn):Cfg:=Ye Tryz.prog [(122,Zpv f95)] 32 [] [] [] Yf
theorem Zus (f95:Zkn):Ys (ZvZ f95) Tryz.f206 (.seq (.leaf) (.seq (.leaf) (.seq (.seq (.leaf) (.block (.loop [17] [.one (.I .i64)] [(6,9),(18,31)] (.leaf)))) (.leaf)))) (ZsW (Zw f95)):=fun _ _ _ _=>by kernel_rfl
theorem Zvd (f95:Zkn) (hH:Zr Tryz.prog 122 (Zpv f95)):Zr Tryz.prog 206 (ZsW (Zm f95)):=okF (Zus f95) Tryz.func206 Zt (ZJ _ (.cons hH .nil) .nil .nil .nil (ZI _)) (hlen:=Nat.le_of_ble_eq_true rfl)
abbrev Zv0 (f94:Zrj) (f96:Zri):Cfg:=Ye Tryz.prog [(205,ZsX f94),(206,ZsW f96)] 31 [] [] [] Yf
theorem Zut (f94:Zrj) (f96:Zri):Ys (Zv0 f94 f96) Tryz.f122 (.leaf) (Zpv (Zc9 f94 f96)):=fun _ _ _ _=>by kernel_rfl
theorem Zve (f95:Zkn) (hH:Zr Tryz.prog 122 (Zpv f95)):Zr Tryz.prog 122 (Zpv (ZcZ f95)):=okF (Zut ZR (Zm f95)) Tryz.func122 Zt (ZJ _ (.cons Zvs (.cons (Zvd f95 hH) .nil)) .nil .nil .nil (ZI _)) (hlen:=Nat.le_of_ble_eq_true rfl)
theorem Zt5:∀ n,Zr Tryz.prog 122 (Zpv (Zac n))
 | 0=>ZdU Tryz.func122 (by kernel_rfl) (by kernel_rfl) fun _ _ _ _ h=>h
 | n+1=>Zve _ (Zt5 n)
theorem Zvr:Zr Tryz.prog 122 (Zpv Zc0):=ZjO Zt5
abbrev ZsE (f:Zpw):Zh:=⟨[.agg [.I .u8,.S,.L,.L],.agg [.I .u8,.S,.L,.L]],[.one (.B)],fun t K _ h=>f t.1 t.2.1 (fun r0 h=>K (r0,()) h) h⟩
abbrev ZvY (f77:Zpy) (f95:Zkn):Cfg:=Ye Tryz.prog [(118,ZsG f77),(122,Zpv f95)] 16 [] [] [] Yf
theorem Zur (f77:Zpy) (f95:Zkn):Ys (ZvY f77 f95) Tryz.f42 (.leaf) (ZsE (Zde f77 f95)):=fun _ _ _ _=>by kernel_rfl
theorem Zuc:Zr Tryz.prog 42 (ZsE Xk):=okF (Zur XL Zc0) Tryz.func42 Zt (ZJ _ (.cons Zue (.cons Zvr .nil)) .nil .nil .nil (ZI _))
abbrev ZsV (f:Zrh):Zh:=⟨[.agg [.I .u8,.S,.L,.L]],[.one (.B)],fun t K _ h=>f t.1 (fun r0 h=>K (r0,()) h) h⟩
abbrev ZvX (f61:Zml) (f79:Zpx) (f57:Zkp) (f78:Zmk) (f97:Zpw):Cfg:=Ye Tryz.prog [(36,Zre f61),(27,ZsF f79),(22,Zq4 f57),(39,Zrd f78),(42,ZsE f97)] 31 [] [] [] Yf
theorem Zuq (f61:Zml) (f79:Zpx) (f57:Zkp) (f78:Zmk) (f97:Zpw):Ys (ZvX f61 f79 f57 f78 f97) Tryz.f34 (.leaf) (ZsV (Xx f61 f79 f57 f78 f97)):=fun _ _ _ _=>by kernel_rfl
theorem Zvq:Zr Tryz.prog 34 (ZsV Yl):=okF (Zuq YP Z7 Yt YQ Xk) Tryz.func34 Zt (ZJ _ (.cons ZsT (.cons Zud (.cons ZsD (.cons ZsS (.cons Zuc .nil))))) .nil .nil .nil (ZI _))
abbrev Zrg (f:ZrM):Zh:=⟨[.agg [.I .u8,.S,.L,.L],.one (.S)],[.one (.B)],fun t K _ h=>f t.1 t.2.1 (fun r0 h=>K (r0,()) h) h⟩
abbrev Zts (f79:Zpx) (f86:Zrk) (f98:Zrh) (f61:Zml) (f26:Zoq) (f97:Zpw) (f57:Zkp) (f81:Zme) (f78:Zmk):Cfg:=Ye Tryz.prog [(27,ZsF f79),(33,ZsY f86),(34,ZsV f98),(36,Zre f61),(25,⟨[.one (.S)],[.agg [.I .u8,.S,.L,.L],.one (.I .i64),.one (.I .i64)],fun t K _ h=>f26 t.1 (fun r0 r1 r2 h=>K (r0,r1,r2,()) h) h⟩),(42,ZsE f97),(22,Zq4 f57),(18,Zp8 f81),(39,Zrd f78)] 94 [] [] [] Yf
theorem ZsR (f79:Zpx) (f86:Zrk) (f98:Zrh) (f61:Zml) (f26:Zoq) (f97:Zpw) (f57:Zkp) (f81:Zme) (f78:Zmk):Ys (Zts f79 f86 f98 f61 f26 f97 f57 f81 f78) Tryz.f11 (.seq (.leaf) (.seq (.leaf) (.seq (.leaf) (.seq (.leaf) (.cut [] [] [(4,4),(7,9),(27,51)] (.leaf) (.leaf)))))) (Zrg (Xi f79 f86 f98 f61 f26 f97 f57 f81 f78)):=fun _ _ _ _=>by kernel_rfl
theorem ZbU:Zr Tryz.prog 11 (Zrg YG):=okF (ZsR Z7 YC Yl YP Z8 Xk Yt Yj YQ) Tryz.func11 Zt (ZJ _ (.cons Zud (.cons Zvt (.cons Zvq (.cons ZsT (.cons Zck (.cons Zuc (.cons ZsD (.cons Zvv (.cons ZsS .nil))))))))) .nil .nil .nil (ZI _))
end
end Go.Proofs.YtpjbjdheeemdiaaGreatDoor
namespace Go.Fw
open Go Go.RowKit
theorem Znx {P:Program} {f:FuncId} {s:Zh} (ok:Zr P f s) (t:Yz s.args) (w:World) {args:Array Value} (hargs:((Yz.evs s.args t).map EV.v).toArray=args)
    (h:s.sem t (fun r h'=>ZpL s.res r = .bool true∧Ext w.heap h') (fun _ _=>False) w.heap):Calls P f args w fun e w'=>e = .returned (.bool true)∧Below w.heap.size w w':=by
  rw [← hargs]
  refine (ok.calls t _ _ w h).mono ?_
  rintro e w' (⟨r,rfl,hs,hr,hx⟩ | ⟨v,rfl,hs,hk⟩)
  ·exact ⟨by rw [hr],hs.2.1,hs.1,hs.2.2,hx.size,hx.old⟩
  ·exact hk.elim
end Go.Fw
namespace Go.Proofs.YtpjbjdheeemdiaaGreatDoor
open Go Go.Fw Go.ChangeShapes Go.WideShapes
theorem Znq {n:Nat} (h:n≤maxLen):n<9223372036854775808:=by
  have e:maxLen=9223372036854775807:=by decide
  omega
theorem ZmS {w:World} {a:Addr} {v:Value} (h:w.cell? a=some v):a=⟨a.block,a.off,none⟩:=by
  obtain ⟨b,o,s⟩:=a
  unfold World.cell? at h
  split at h
  ·cases s with
   | none=>rfl
   | some s=>simp at h
  ·cases h
theorem Zlm {b o i:Nat}:(⟨b,o,none⟩:Addr).add i=⟨b,o+i,none⟩:=Ze4 b o i
section
variable {H:Type} {enc:TypeId × Value→H} {P:Program} {w:World} {base:Nat} {spare:Nat→Bool} {held:Bool}
end
end Go.Proofs.YtpjbjdheeemdiaaGreatDoor
namespace Go.Fw
open Go
def obj (h:Zc) (b:Nat):Option Obj:=h[b]?
def sz (h:Zc):Nat:=h.size
theorem ZmN {h:Zc} {x:Obj}:sz (h.push x)=sz h+1:=by unfold sz;simp
theorem ZpE {h:Zc} {b o:Nat} {v:Value}:sz (h.put b o v)=sz h:=by unfold sz;exact Zfn
def ZkK (o:Nat) (v:Value):Option Obj→Option Obj
  | some (.cells c e f)=>some (.cells (c.setIfInBounds o v) e f)
  | x=>x
theorem ZcY {o:Nat} {v:Value} {l:List Value} {e:TypeId} {f:Nat × Nat}:ZkK o v (some (.cells l.toArray e f))=some (.cells (l.set o v).toArray e f):=by
  simp [ZkK]
theorem Zf1 {h:Zc} {b o k:Nat} {v:Value}:obj (h.put b o v) k=if k=b then ZkK o v (obj h k) else obj h k:=by
  unfold obj Zc.put
  rw [Array.getElem?_modify]
  by_cases hk:b=k
  ·subst hk
   rw [if_pos rfl,if_pos rfl]
   cases h[b]? with
   | none=>rfl
   | some x=>cases x<;>rfl
  ·rw [if_neg hk,if_neg (Ne.symm hk)]
def XE (o:Nat):Option Obj→Option Value
  | some (.cells c _ _)=>c[o]?
  | _=>none
def Zia (o:Nat):Option Obj→Bool
  | some (.cells c _ f)=>decide (o<c.size)&&(f.1 ==0&&f.2 ==0)
  | _=>false
theorem Zib {o:Nat} {l:List Value} {e:TypeId} {f:Nat × Nat}:XE o (some (.cells l.toArray e f))=l[o]?:=by simp [XE]
theorem Zaf {h:Zc} {b o:Nat}:h.cell b o=XE o (obj h b):=by unfold Zc.cell obj XE;rfl
theorem ZnL {h:Zc} {b o:Nat} (hf:Zia o (obj h b)=true):(∃ u,h.cell b o=some u)∧h.froz b o=false:=by
  unfold Zia at hf
  split at hf
  ·rename_i c e f hb
   simp only [Bool.and_eq_true,decide_eq_true_eq,beq_iff_eq] at hf
   obtain ⟨h1,h2,h3⟩:=hf
   have hb':h[b]?=some (.cells c e f):=hb
   refine ⟨⟨c[o],by unfold Zc.cell;rw [hb'];simp [h1]⟩,?_⟩
   unfold Zc.froz
   rw [hb']
   obtain ⟨lo,hi⟩:=f
   simp only at h2 h3
   subst h2 h3
   simp
  ·cases hf
theorem Zsl {h:Zc} {b o:Nat} {k:IntKind} {n:Int} {K:Int→Prop} (hc:XE o (obj h b)=some (.int k n)):ldI h b o k K=K n :=
  propext ⟨fun ⟨m,e,hk⟩=>(by rw [Zaf,hc] at e;cases e;exact hk),fun hk=>⟨n,by rw [Zaf,hc],hk⟩⟩
theorem Zsi {h:Zc} {b o:Nat} {n:ByteArray} {K:ByteArray→Prop} (hc:XE o (obj h b)=some (.string n)):ldS h b o K=K n :=
  propext ⟨fun ⟨m,e,hk⟩=>(by rw [Zaf,hc] at e;cases e;exact hk),fun hk=>⟨n,by rw [Zaf,hc],hk⟩⟩
theorem Zsj {h:Zc} {b o:Nat} {n:Option Addr} {K:Option Addr→Prop} (hc:XE o (obj h b)=some (.pointer n)):ldP h b o K=K n :=
  propext ⟨fun ⟨m,e,hk⟩=>(by rw [Zaf,hc] at e;cases e;exact hk),fun hk=>⟨n,by rw [Zaf,hc],hk⟩⟩
theorem Zsh {h:Zc} {b o:Nat} {n:Value} {K:Value→Prop} (hc:XE o (obj h b)=some n):ldV h b o K=K n :=
  propext ⟨fun ⟨m,e,hk⟩=>(by rw [Zaf,hc] at e;cases e;exact hk),fun hk=>⟨n,by rw [Zaf,hc],hk⟩⟩
theorem Zsk {h:Zc} {b o:Nat} {p:Option Addr} {l c:Nat} {K:Sl→Prop} (hc:XE o (obj h b)=some (.slice p l c)):ldL h b o K=K ⟨p,l,c⟩ :=
  propext ⟨fun ⟨m,e,hk⟩=>(by rw [Zaf,hc] at e;cases e;exact hk),fun hk=>⟨⟨p,l,c⟩,by rw [Zaf,hc],hk⟩⟩
theorem Zk0 {h:Zc} {b:Nat}:∀ (n o:Nat),(∀ i,i<n→Zia (o+i) (obj h b)=true)→h.free b o n
  | 0,_,_=>trivial
  | n+1,o,hf=>⟨ZnL (by have:=hf 0 (by omega);simpa using this),Zk0 n (o+1) fun i hi=>by have:=hf (i+1) (by omega);rw [show o+1+i=o+(i+1) from by omega];exact this⟩
def ZnM (o n:Nat):Option Obj→Bool
  | some (.cells c _ f)=>decide (o+n≤c.size)&&(f.1 ==0&&f.2 ==0)
  | _=>false
theorem ZbD {o n:Nat} {l:List Value} {e:TypeId}:ZnM o n (some (.cells l.toArray e (0,0)))=decide (o+n≤l.length):=by simp [ZnM]
theorem Zo7 {h:Zc} {b o n:Nat} (hf:ZnM o n (obj h b)=true):h.free b o n:=by
  refine Zk0 n o fun i hi=>?_
  unfold ZnM at hf
  split at hf
  ·rename_i c e f hb
   rw [hb]
   simp only [Bool.and_eq_true,decide_eq_true_eq] at hf
   simp only [Zia,Bool.and_eq_true,decide_eq_true_eq]
   exact ⟨by omega,hf.2⟩
  ·cases hf
theorem ZiM {h:Zc} {b o:Nat} {vs:List Value} {K:Zc→Prop} (hf:ZnM o vs.length (obj h b)=true) (hv:vs.all ZZ=true):sts h b o vs K=K (h.puts b o vs) :=
  propext ⟨fun hk=>hk.2.2,fun hk=>⟨Zo7 hf,hv,hk⟩⟩
theorem ZcN {h:Zc} {b o:Nat} {vs:List Value}:sz (h.puts b o vs)=sz h:=Zeg
def Zf2:Nat→List Value→Option Obj→Option Obj
  | _,[],x=>x
  | o,v::vs,x=>Zf2 (o+1) vs (ZkK o v x)
def Xa:Nat→List Value→List Value→List Value
  | _,[],l=>l
  | o,v::vs,l=>Xa (o+1) vs (l.set o v)
theorem Xn {e:TypeId} {f:Nat × Nat}:∀ {vs:List Value} {o:Nat} {l:List Value},Zf2 o vs (some (.cells l.toArray e f))=some (.cells (Xa o vs l).toArray e f)
  | [],_,_=>rfl
  | v::vs,o,l=>by unfold Zf2 Xa;rw [ZcY,Xn]
theorem Zaz {b:Nat}:∀ {vs:List Value} {h:Zc} {o k:Nat},obj (h.puts b o vs) k=if k=b then Zf2 o vs (obj h k) else obj h k
  | [],h,o,k=>by
    unfold Zc.puts Zf2
    split<;>rfl
  | v::vs,h,o,k=>by
    unfold Zc.puts
    rw [Zaz,Zf1]
    by_cases hk:k=b
    ·rw [if_pos hk,if_pos hk,if_pos hk];rfl
    ·rw [if_neg hk,if_neg hk,if_neg hk]
theorem Zj0 {b o l size:Nat} {i:Int} {n:Nat} {K:Nat→Nat→Prop} (hi:i=(n:Int)) (hl:n<l) (hk:K b (o+n*size)):Zfe (some ⟨b,o,none⟩) l i size K:=by
  subst hi
  exact ⟨b,o,rfl,by omega,by omega,by simpa using hk⟩
theorem ZrV {s t:Sl}:(slV s=slV t)=(s=t):=by
  refine propext ⟨fun h=>?_,fun h=>by rw [h]⟩
  cases s;cases t
  unfold slV at h
  injection h with h1 h2 h3
  subst h1 h2 h3
  rfl
theorem ZbT {k:IntKind} {n:Int}:ZZ (.int k n)=true:=by simp [ZZ]
theorem ZiZ {b:Option Addr} {l c:Nat}:ZZ (.slice b l c)=true:=by simp [ZZ]
theorem Z4 {h h':Zc} (e:Ext h h') {b:Nat} (hb:b<sz h):obj h' b=obj h b:=e.old b hb
theorem YA {S:Nat→Prop} {h h':Zc} (e:Upd S h h') {b:Nat} (hb:b<sz h) (hs:¬ S b):obj h' b=obj h b:=e.old b hb hs
theorem ZoB {S:Nat→Prop} {h h1:Zc} {b o:Nat} {vs:List Value} (he:Upd S h h1) (hb:sz h≤b∨S b):Upd S h (h1.puts b o vs) :=
  ⟨by rw [Zeg];exact he.size,fun k hk hs=>(ZeH fun e=>by subst e;exact hb.elim (fun h9=>by unfold sz at h9;omega) hs).trans (he.old k hk hs)⟩
theorem Zbd {h:Zc} {b:Nat} {x:Obj} (hb:obj h b=some x):b<sz h:=by
  unfold obj at hb
  rcases Nat.lt_or_ge b h.size with hl | hl
  ·exact hl
  ·rw [Array.getElem?_eq_none hl] at hb;cases hb
theorem Yx {h h':Zc} {b:Nat} {x:Obj} (hb:obj h b=some x) (e:Ext h h'):obj h' b=some x:=(Z4 e (Zbd hb)).trans hb
theorem Yy {S:Nat→Prop} {h h':Zc} {b:Nat} {x:Obj} (hb:obj h b=some x) (e:Upd S h h') (hs:¬ S b):obj h' b=some x:=(YA e (Zbd hb) hs).trans hb
theorem Ext.updS {h h1 h2:Zc} {S:Nat→Prop} (e:Ext h h1) (u:Upd S h1 h2) (hs:∀ k,S k→sz h≤k):Ext h h2:=e.then u fun k hk=>hs k hk
end Go.Fw
namespace Go.Js
open Go
abbrev BL:=List UInt8
inductive JL where
  | nil
  | cons (k:Nat) (t:BL) (ns:List BL) (sub rest:JL)
deriving DecidableEq
structure JV where
  k:Nat
  t:BL
  ns:List BL
  sub:JL
deriving DecidableEq
namespace JL
def len:JL→Nat
  | nil=>0
  | cons _ _ _ _ r=>r.len+1
def snoc (v:JV):JL→JL
  | nil=>cons v.k v.t v.ns v.sub nil
  | cons k t ns s r=>cons k t ns s (r.snoc v)
def isNil:JL→Bool
  | nil=>true
  | _=>false
theorem len_snoc (v:JV):∀ l:JL,(l.snoc v).len=l.len+1
  | nil=>rfl
  | cons _ _ _ _ r=>by simp [snoc,len,len_snoc v r]
theorem len_nil {l:JL}:l.len=0↔l=nil:=by cases l<;>simp [len]
end JL
inductive Out (α:Type) where
  | ok (a:α) (r:BL)
  | err (e:Nat) (r:BL)
def Out.bind {α β:Type}:Out α→(α→BL→Out β)→Out β
  | .ok a r,f=>f a r
  | .err e r,_=> .err e r
@[simp] theorem Out.bind_ok {α β:Type} (a:α) (r:BL) (f:α→BL→Out β):(Out.ok a r).bind f=f a r:=rfl
@[simp] theorem Out.bind_err {α β:Type} (e:Nat) (r:BL) (f:α→BL→Out β):(Out.err e r:Out α).bind f = .err e r:=rfl
def YX {α:Type} (e:Nat):BL→Out α
  | []=> .err 24 []
  | c::l=> .err e (c::l)
def Yb (c:UInt8):Bool:=c ==32||c ==9||c ==10||c ==13
def XX (c:UInt8):Bool:=decide (48≤c.toNat)&&decide (c.toNat≤57)
def Yv (l:BL):BL:=l.dropWhile Yb
def ZbG:BL→BL→Out Unit
  | [],l=> .ok () l
  | c::w,d::l=>if d=c then ZbG w l else .err 20 (d::l)
  | _::_,[]=> .err 24 []
def Yc:BL→Out Unit
  | c::l=>if XX c then .ok () (l.dropWhile XX) else .err 21 (c::l)
  | []=> .err 24 []
def ZaO:BL→BL
  | c::l=>if c=45 then l else c::l
  | []=>[]
def Zez:BL→BL
  | c::l=>if c=43∨c=45 then l else c::l
  | []=>[]
def X1:BL→Out Unit
  | c::l=>if XX c then .err 21 (c::l) else .ok () (c::l)
  | []=> .ok () []
def Zfd:BL→Out Unit
  | c::l=>if c=48 then X1 l else Yc (c::l)
  | []=> .err 24 []
def Zdg:BL→Out Unit
  | c::l=>if c=46 then Yc l else .ok () (c::l)
  | []=> .ok () []
def Zfr:BL→Out Unit
  | c::l=>if c=101∨c=69 then Yc (Zez l) else .ok () (c::l)
  | []=> .ok () []
def Zdu (l:BL):Out Unit:=(Zfd (ZaO l)).bind fun _ l1=>(Zdg l1).bind fun _ l2=>Zfr l2
def upto (l r:BL):BL:=l.take (l.length - r.length)
def Zff (c:UInt8):Option Nat :=
  if 48≤c.toNat∧c.toNat≤57 then some (c.toNat - 48)
  else if 97≤c.toNat∧c.toNat≤102 then some (c.toNat - 87)
  else if 65≤c.toNat∧c.toNat≤70 then some (c.toNat - 55)
  else none
def ZdE:Nat→Nat→BL→Out Nat
  | 0,n,l=> .ok n l
  | _+1,_,[]=> .err 24 []
  | k+1,n,c::l=>match Zff c with
    | some d=>ZdE k (n*16+d) l
    | none=> .err 22 (c::l)
def Zb2 (n:Nat):BL :=
  if n<128 then [UInt8.ofNat n]
  else if n<2048 then [UInt8.ofNat (192+n / 64),UInt8.ofNat (128+n % 64)]
  else if n<65536 then [UInt8.ofNat (224+n / 4096),UInt8.ofNat (128+n / 64 % 64),UInt8.ofNat (128+n % 64)]
  else [UInt8.ofNat (240+n / 262144),UInt8.ofNat (128+n / 4096 % 64),UInt8.ofNat (128+n / 64 % 64),UInt8.ofNat (128+n % 64)]
def Zfh (n:Nat):Nat:=if 55296≤n∧n<57344 then 65533 else n
def Zbi (c:UInt8):Option UInt8 :=
  if c=34 then some 34 else if c=92 then some 92 else if c=47 then some 47 else if c=98 then some 8 else if c=102 then some 12 else if c=110 then some 10 else if c=114 then some 13 else if c=116 then some 9 else none
def Zao:BL→Option BL
  | a::b::l=>if a=92∧b=117 then some l else none
  | _=>none
def ZrQ (l:BL):Out BL:=(ZdE 4 0 l).bind fun n l1 =>
  match (if 55296≤n∧n<56320 then Zao l1 else none) with
  | some l2=>(ZdE 4 0 l2).bind fun m l3=>if 56320≤m∧m<57344 then .ok (Zb2 (65536+(n - 55296)*1024+(m - 56320))) l3 else .ok (Zb2 (Zfh n)) l1
  | none=> .ok (Zb2 (Zfh n)) l1
def Zj8:BL→Out BL
  | []=> .err 24 []
  | c::l=>match Zbi c with
    | some m=> .ok [m] l
    | none=>if c=117 then ZrQ l else .err 22 (c::l)
def Zkx (c:Nat):Nat × Nat × Nat :=
  if c<128 then (1,0,0)
  else if 194≤c∧c≤223 then (2,128,191)
  else if c=224 then (3,160,191)
  else if c=237 then (3,128,159)
  else if 225≤c∧c≤239 then (3,128,191)
  else if c=240 then (4,144,191)
  else if 241≤c∧c≤243 then (4,128,191)
  else if c=244 then (4,128,143)
  else (0,0,0)
def Za9:Nat→Nat→Nat→BL→Out Unit
  | 0,_,_,l=> .ok () l
  | _+1,_,_,[]=> .err 24 []
  | n+1,lo,hi,d::l=>if lo≤d.toNat∧d.toNat≤hi then Za9 n 128 191 l else .err 22 (d::l)
def XG:BL→Out Unit
  | []=> .err 24 []
  | c::l=>if (Zkx c.toNat).1=0 then .err 22 (c::l) else Za9 ((Zkx c.toNat).1 - 1) (Zkx c.toNat).2.1 (Zkx c.toNat).2.2 l
def ZdN:Nat→BL→BL→Out BL
  | 0,_,_=> .err 24 []
  | _+1,_,[]=> .err 24 []
  | n+1,out,c::l =>
    if c.toNat<32 then .err 22 (c::l)
    else if c=34 then .ok out l
    else if c=92 then (Zj8 l).bind fun o l2=>ZdN n (out++o) l2
    else if c.toNat<128 then ZdN n (out++[c]) l
    else (XG (c::l)).bind fun _ l2=>ZdN n (out++upto (c::l) l2) l2
def ZgA (l:BL):Out BL:=ZdN (l.length+1) [] l
def Zcl (l:BL):Out BL :=
  match Yv l with
  | c::l1=>if c=34 then (ZgA l1).bind fun nm l2=>match Yv l2 with
     | d::l3=>if d=58 then .ok nm l3 else .err 20 (d::l3)
     | []=> .err 24 []
    else .err 20 (c::l1)
  | []=> .err 24 []
def XB (pv:BL→Out JV) (ob:Bool) (ns:List BL) (sub:JL) (l:BL):Out (List BL × JL) :=
  if ob then (Zcl l).bind fun nm l3=>(pv l3).bind fun v l4=> .ok (ns++[nm],sub.snoc v) (Yv l4)
  else (pv (Yv l)).bind fun v l4=> .ok (ns,sub.snoc v) (Yv l4)
def Zcx (ob:Bool):UInt8:=if ob then 125 else 93
def ZcG (c:UInt8):BL→Bool
  | d::_=>d ==c
  | []=>false
def Zbz (pv:BL→Out JV) (ob:Bool):Nat→List BL→JL→BL→Out (List BL × JL)
  | 0,_,_,_=> .err 24 []
  | m+1,ns,sub,l =>
    if ZcG (Zcx ob) l then .ok (ns,sub) l.tail
    else if sub.isNil then (XB pv ob ns sub l).bind fun p l2=>Zbz pv ob m p.1 p.2 l2
    else if ZcG 44 l then (XB pv ob ns sub l.tail).bind fun p l2=>Zbz pv ob m p.1 p.2 l2
    else YX 20 l
def ZbL (op:Bool→BL→Out JV) (l:BL):Out JV :=
  match Yv l with
  | []=> .err 24 []
  | c::l1 =>
    if c=123 then op true (c::l1)
    else if c=91 then op false (c::l1)
    else if c=34 then (ZgA l1).bind fun t r=> .ok ⟨5,t,[],.nil⟩ r
    else if c=110 then (ZbG [110,117,108,108] (c::l1)).bind fun _ r=> .ok ⟨1,[],[],.nil⟩ r
    else if c=102 then (ZbG [102,97,108,115,101] (c::l1)).bind fun _ r=> .ok ⟨2,[],[],.nil⟩ r
    else if c=116 then (ZbG [116,114,117,101] (c::l1)).bind fun _ r=> .ok ⟨3,[],[],.nil⟩ r
    else if c=45∨XX c then (Zdu (c::l1)).bind fun _ r=> .ok ⟨4,upto (c::l1) r,[],.nil⟩ r
    else .err 20 (c::l1)
def Zh9 (pv:BL→Out JV) (ob:Bool) (l:BL):Out JV :=
  (Zbz pv ob (l.length+1) [] .nil (Yv l.tail)).bind fun p r=> .ok ⟨if ob then 7 else 6,[],p.1,p.2⟩ r
def ZQ:Nat→BL→Out JV
  | 0=>ZbL fun _ l=>YX 23 l
  | n+1=>ZbL (Zh9 (ZQ n))
inductive Got where
  | ok (v:JV)
  | err (e:Nat) (at_:Nat)
def XJ (l:BL):Got :=
  if 65536<l.length then .err 5 65536
  else match ZQ 64 l with
    | .err e r=> .err e (l.length - r.length)
    | .ok v r=>match Yv r with
      | []=> .ok v
      | c::r'=> .err 25 (l.length - (c::r').length)
theorem Xl {c:UInt8} {l r:BL} (h:r <:+l):r <:+c::l:=h.trans (List.suffix_cons _ _)
theorem ZiO (l:BL):Yv l <:+l:=List.dropWhile_suffix _
theorem Zd1 {l r:BL} (h:Yc l = .ok () r):r <:+l:=by
  rcases l with _ | ⟨c,l⟩
  ·cases h
  ·dsimp only [Yc] at h
   split at h
   ·cases h;exact Xl (List.dropWhile_suffix _)
   ·cases h
theorem ZlV (l:BL):ZaO l <:+l:=by
  rcases l with _ | ⟨c,l⟩
  ·exact List.suffix_refl _
  ·dsimp only [ZaO]
   split
   ·exact List.suffix_cons _ _
   ·exact List.suffix_refl _
theorem ZmT (l:BL):Zez l <:+l:=by
  rcases l with _ | ⟨c,l⟩
  ·exact List.suffix_refl _
  ·dsimp only [Zez]
   split
   ·exact List.suffix_cons _ _
   ·exact List.suffix_refl _
theorem Zo4 {l r:BL} (h:Zfd l = .ok () r):r <:+l:=by
  rcases l with _ | ⟨c,l⟩
  ·cases h
  ·dsimp only [Zfd] at h
   split at h
   ·rcases l with _ | ⟨d,l⟩
    ·cases h;exact List.suffix_cons _ _
    ·dsimp only [X1] at h
     split at h
     ·cases h
     ·cases h;exact List.suffix_cons _ _
   ·exact Zd1 h
theorem ZnN {l r:BL} (h:Zdg l = .ok () r):r <:+l:=by
  rcases l with _ | ⟨c,l⟩
  ·cases h;exact List.suffix_refl _
  ·dsimp only [Zdg] at h
   split at h
   ·exact Xl (Zd1 h)
   ·cases h;exact List.suffix_refl _
theorem Zpe {l r:BL} (h:Zfr l = .ok () r):r <:+l:=by
  rcases l with _ | ⟨c,l⟩
  ·cases h;exact List.suffix_refl _
  ·dsimp only [Zfr] at h
   split at h
   ·exact Xl ((Zd1 h).trans (ZmT _))
   ·cases h;exact List.suffix_refl _
theorem ZB {α β:Type} {x:Out α} {f:α→BL→Out β} {b:β} {r:BL} (h:x.bind f = .ok b r):∃ a l,x = .ok a l∧f a l = .ok b r:=by
  cases x with
  | ok a l=>exact ⟨a,l,rfl,h⟩
  | err e l=>cases h
theorem Zfp {l r:BL} (h:Zdu l = .ok () r):∃ l1 l2,Zfd (ZaO l) = .ok () l1∧Zdg l1 = .ok () l2∧Zfr l2 = .ok () r:=by
  obtain ⟨_,l1,h1,h⟩:=ZB h
  obtain ⟨_,l2,h2,h⟩:=ZB h
  exact ⟨l1,l2,h1,h2,h⟩
theorem ZkM {l r:BL} (h:Zdu l = .ok () r):r <:+l:=by
  obtain ⟨l1,l2,h1,h2,h3⟩:=Zfp h
  exact (Zpe h3).trans ((ZnN h2).trans ((Zo4 h1).trans (ZlV l)))
end Go.Js
namespace Go.Proofs.YtpjbjdheeemdiaaGreatDoor
open Go Go.Fw Go.Js
theorem Zbe {h:Zc} {cells:List Value} {t:TypeId} {K:Nat→Zc→Prop} (hk:∀ h1,h1[h.size]?=some (.cells cells.toArray t (0,0))→Ext h h1→h1.size=h.size+1→K h.size h1):newC h cells t K :=
  ZlS (hk _ Zeh (Ext.push _ _) (by simp))
theorem ZS {b o:Nat} {K:Nat→Nat→Prop} (hk:K b o):Ze (some ⟨b,o,none⟩) K:=⟨b,o,rfl,hk⟩
theorem Zi {h:Zc} {b o:Nat} {l:List Value} {e:TypeId} {f:Nat × Nat} {v:Value} (hb:obj h b=some (.cells l.toArray e f)) (hv:l[o]?=some v):XE o (obj h b)=some v:=by rw [hb,Zib];exact hv
theorem rI {h:Zc} {b o:Nat} {k:IntKind} {n:Int} {K:Int→Prop} (hc:XE o (obj h b)=some (.int k n)) (hk:K n):ldI h b o k K:=by rw [Zsl hc];exact hk
theorem rS {h:Zc} {b o:Nat} {n:ByteArray} {K:ByteArray→Prop} (hc:XE o (obj h b)=some (.string n)) (hk:K n):ldS h b o K:=by rw [Zsi hc];exact hk
theorem rP {h:Zc} {b o:Nat} {n:Option Addr} {K:Option Addr→Prop} (hc:XE o (obj h b)=some (.pointer n)) (hk:K n):ldP h b o K:=by rw [Zsj hc];exact hk
theorem rL {h:Zc} {b o:Nat} {s:Sl} {K:Sl→Prop} (hc:XE o (obj h b)=some (slV s)) (hk:K s):ldL h b o K:=by cases s;exact (Zsk hc).mpr hk
theorem ZkG {h:Zc} {b o:Nat} {v:Value} {K:Zc→Prop} {l:List Value} {e:TypeId} (hb:obj h b=some (.cells l.toArray e (0,0))) (ho:o<l.length) (hv:ZZ v=true)
    (hk:∀ h',obj h' b=some (.cells (l.set o v).toArray e (0,0))→Upd (· = b) h h'→sz h'=sz h→K h'):st h b o v K:=by
  refine ⟨⟨l[o],by rw [ZeX hb];simp [ho]⟩,?_,hv,?_⟩
  ·unfold Zc.froz;rw [show h[b]?=obj h b from rfl,hb];simp
  ·refine hk _ ?_ (Upd.put h b o v) Zfn
   have:=ZiX (v:=v) (o:=o) hb
   rw [show obj (h.put b o v) b=(h.put b o v)[b]? from rfl,this]
   simp
structure Zft (s:ByteArray) (n:Nat) (l:BL):Prop where
  drop:s.data.toList.drop n=l
  len:n+l.length=s.size
theorem Zft.head {s:ByteArray} {n:Nat} {c:UInt8} {l:BL} (h:Zft s n (c::l)):s[n]?=some c:=by
  have h1:s.data.toList[n]?=some c:=by
    have:=congrArg (fun x=>x[0]?) h.drop
    simp only [List.getElem?_drop] at this
    simpa using this
  have hn:n<s.size:=by have:=h.len;simp at this;omega
  rw [Array.getElem?_toList] at h1
  rw [getElem?_pos s n hn]
  rw [getElem?_pos s.data n hn] at h1
  exact h1
theorem Zft.tail {s:ByteArray} {n:Nat} {c:UInt8} {l:BL} (h:Zft s n (c::l)):Zft s (n+1) l:=by
  refine ⟨?_,by have:=h.len;simp at this;omega⟩
  rw [show s.data.toList.drop (n+1)=(s.data.toList.drop n).drop 1 by rw [List.drop_drop],h.drop]
  rfl
theorem Zft.dropK {s:ByteArray} {n:Nat} {l:BL} (h:Zft s n l) {k:Nat} (hk:k≤l.length):Zft s (n+k) (l.drop k):=by
  refine ⟨?_,by have:=h.len;simp;omega⟩
  rw [← h.drop,List.drop_drop]
theorem Zft.start (s:ByteArray):Zft s 0 s.data.toList:=⟨rfl,by simp⟩
theorem Zft.extract {s:ByteArray} {n m:Nat} {l r:BL} (h:Zft s n l) (h':Zft s m r) (hnm:n≤m):s.extract n m=Zd (upto l r):=by
  have e:m - n=l.length - r.length:=by have:=h.len;have:=h'.len;omega
  have hm:m≤s.size:=by have:=h'.len;omega
  unfold upto
  rw [← e,← h.drop]
  have:(s.extract n m).data.toList=(s.data.toList.drop n).take (m - n):=by
    simp [ByteArray.data_extract]
  rcases hx:s.extract n m with ⟨⟨x⟩⟩
  rw [hx] at this
  simp only at this
  rw [this]
def Rd (h:Zc) (R:Nat) (s:ByteArray) (l:BL):Prop:=s.size≤65536∧∃ n:Nat,obj h R=some (.cells [.string s,.int .i64 n].toArray 163 (0,0))∧Zft s n l
abbrev At (R:Nat):Option Addr:=some ⟨R,0,none⟩
def ZbK (e:Nat) (n:Nat):Value:= .iface 160 (.agg #[.int .i64 e,.int .i64 n])
theorem Rd.congr {h h':Zc} {R:Nat} {s:ByteArray} {l:BL} (hr:Rd h R s l) (e:obj h' R=obj h R):Rd h' R s l:=by
  obtain ⟨a,n,b,c⟩:=hr
  exact ⟨a,n,e.trans b,c⟩
theorem Rd.lt {h:Zc} {R:Nat} {s:ByteArray} {l:BL} (hr:Rd h R s l):R<sz h:=by
  obtain ⟨_,n,b,_⟩:=hr
  exact Zbd b
theorem Rd.upd {S:Nat→Prop} {h h':Zc} {R:Nat} {s:ByteArray} {l:BL} (hr:Rd h R s l) (u:Upd S h h') (hs:¬ S R):Rd h' R s l:=hr.congr (YA u hr.lt hs)
theorem Rd.ext {h h':Zc} {R:Nat} {s:ByteArray} {l:BL} (hr:Rd h R s l) (u:Ext h h'):Rd h' R s l:=hr.congr (Z4 u hr.lt)
theorem Rd.len {h:Zc} {R:Nat} {s:ByteArray} {l:BL} (hr:Rd h R s l):l.length≤s.size∧s.size≤65536:=by
  obtain ⟨a,n,b,c⟩:=hr
  have:=c.len
  omega
theorem ZdC {h:Zc} {R:Nat} {s:ByteArray} {l:BL} (hr:Rd h R s l) {K:Int→Prop} (hk:∀ n:Nat,Zft s n l→K n):Ze (At R) fun b o=>ldI h b (o+1) .i64 K:=by
  obtain ⟨_,n,hb,hn⟩:=hr
  exact ZS (rI (Zi hb rfl) (hk n hn))
theorem ZkD {h:Zc} {R:Nat} {s:ByteArray} {l:BL} (hr:Rd h R s l) {K:ByteArray→Prop} (hk:K s):Ze (At R) fun b o=>ldS h b o K:=by
  obtain ⟨_,n,hb,hn⟩:=hr
  exact ZS (rS (Zi hb rfl) hk)
theorem ZkE {h:Zc} {R:Nat} {s:ByteArray} {l l':BL} (hr:Rd h R s l) {m:Int} {n:Nat} (hm:m=n) (hn:Zft s n l') {K:HP} (hk:∀ h',Rd h' R s l'→Upd (· = R) h h'→sz h'=sz h→K h'):Ze (At R) fun b o=>st h b (o+1) (.int .i64 m) K:=by
  obtain ⟨hs,n0,hb,hn0⟩:=hr
  refine ZS (ZkG hb (by simp) ZbT fun h' c u z=>hk h' ⟨hs,n,?_,hn⟩ u z)
  rw [c,hm];rfl
theorem Zat {h:Zc} {R:Nat} {s:ByteArray} {c:UInt8} {l:BL} (hr:Rd h R s (c::l)) {K:HP} (hk:∀ h',Rd h' R s l→Upd (· = R) h h'→sz h'=sz h→K h') :
    Ze (At R) fun b o=>ldI h b (o+1) .i64 fun t=>Ze (At R) fun b o=>st h b (o+1) (.int .i64 (IntKind.wrap .i64 (t+1))) K:=by
  refine ZdC hr fun n hn=>?_
  have:=hn.len
  have:=hr.len
  refine ZkE hr (n:=n+1) ?_ hn.tail hk
  rw [YE (by omega) (by omega)];rfl
theorem Zqq {h:Zc} {R:Nat} {s:ByteArray} {l:BL} (hr:Rd h R s l) {k:Int} {m:Nat} (hk:k=m) (hm:m≤l.length) {K:HP} (hK:∀ h',Rd h' R s (l.drop m)→Upd (· = R) h h'→sz h'=sz h→K h') :
    Ze (At R) fun b o=>ldI h b (o+1) .i64 fun t=>Ze (At R) fun b o=>st h b (o+1) (.int .i64 (IntKind.wrap .i64 (t+k))) K:=by
  refine ZdC hr fun n hn=>?_
  have:=hn.len
  have:=hr.len
  refine ZkE hr (n:=n+m) ?_ (hn.dropK hm) hK
  rw [YE (by omega) (by omega),hk];rfl
theorem ZjI {h:Zc} {R:Nat} {s:ByteArray} {l:BL} (hr:Rd h R s l) {A B:Prop} (ha:l≠[]→A) (hb:l=[]→B) :
    Ze (At R) fun b o=>ldI h b (o+1) .i64 fun t=>Ze (At R) fun b o=>ldS h b o fun t5=>ZC (decide (t<(t5.size:Int))) A B:=by
  refine ZdC hr fun n hn=>ZkD hr (Zq (fun e=>ha ?_) fun e=>hb ?_)
  ·have:=hn.len
   intro e;subst e;simp at this;omega
  ·have:=hn.len
   exact List.eq_nil_of_length_eq_zero (by omega)
theorem Zh4 {h:Zc} {R:Nat} {s:ByteArray} {l:BL} (hr:Rd h R s l) {A B:Prop} (ha:l=[]→A) (hb:l≠[]→B) :
    Ze (At R) fun b o=>ldI h b (o+1) .i64 fun t=>Ze (At R) fun b o=>ldS h b o fun t5=>ZC (decide (t≥(t5.size:Int))) A B:=by
  refine ZdC hr fun n hn=>ZkD hr (Zq (fun e=>ha ?_) fun e=>hb ?_)
  ·have:=hn.len
   exact List.eq_nil_of_length_eq_zero (by omega)
  ·have:=hn.len
   intro e;subst e;simp at this;omega
def XF:BL→Int
  | c::_=>c.toNat
  | []=>0
theorem YD {h:Zc} {R:Nat} {s:ByteArray} {l:BL} (hr:Rd h R s l) {K:Int→HP} (hk:K (XF l) h):Zk (At R) K h:=by
  unfold Zk ZaH
  refine Za (ZjI hr (fun hne=>?_) fun he=>Za ?_)
  ·obtain ⟨c,l',rfl⟩:=List.exists_cons_of_ne_nil hne
   refine ZkD hr (ZdC hr fun n hn=>⟨c,by omega,by rw [Int.toNat_natCast];exact hn.head,Za hk⟩)
  ·subst he;exact hk
theorem Zse {h:Zc} {R:Nat} {s:ByteArray} {l:BL} (hr:Rd h R s l) {K:Int × Unit→Prop} (hk:K (XF l,())):ZlJ (ρ:=Int × Unit) (fun K h=>Zk (At R) (fun q h=>K (q,()) h) h) h K :=
  ⟨(XF l,()),YD hr ⟨rfl,rfl⟩,hk⟩
def OnE {α:Type} (h:Zc) (R:Nat) (s:ByteArray) (S:Nat→Prop) (res:Out α) (P:Value→HP):Prop:=∀ e r h',res = .err e r→Upd S h h'→P (ZbK e (s.size - r.length)) h'
def left (h:Zc) (R:Nat):Nat:=match obj h R with
  | some (.cells c _ _)=>(match c.toList with
    | [.string s,.int _ n]=>s.size - n.toNat
    | _=>0)
  | _=>0
theorem Rd.left {h:Zc} {R:Nat} {s:ByteArray} {l:BL} (hr:Rd h R s l):left h R=l.length:=by
  obtain ⟨_,n,b,g⟩:=hr
  unfold Go.Proofs.YtpjbjdheeemdiaaGreatDoor.left
  rw [b]
  have:=g.len
  simp
  omega
theorem ZnV {α:Type} {h:Zc} {R:Nat} {s:ByteArray} {l:BL} (hr:Rd h R s l) {e:Nat} {n:Int} (hn:n=((s.size - l.length:Nat):Int)) {K:HP} {P:Value→HP} (hp:∀ e' r,(YX e l:Out α) = .err e' r→r=l→P (ZbK e' (s.size - r.length)) h):Zg (At R) (e:Int) n K P h:=by
  unfold Zg Y3
  have hl:=hr.len
  refine ZkD hr (Zq (fun hd=>?_) fun hd=>?_)
  ·have:l=[]:=by
     refine List.eq_nil_of_length_eq_zero ?_
     omega
   subst this
   have:=hp 24 [] rfl rfl
   exact ZkD hr this
  ·have hne:l≠[]:=by intro e;subst e;simp at hn;omega
   obtain ⟨c,l',rfl⟩:=List.exists_cons_of_ne_nil hne
   have:=hp e (c::l') rfl rfl
   subst hn
   exact this
theorem Xz {α:Type} {h:Zc} {R:Nat} {s:ByteArray} {l:BL} (hr:Rd h R s l) {e:Nat} {K:HP} {P:Value→HP} {e0:Int} (he:e0=e) (hp:∀ e' r,(YX e l:Out α) = .err e' r→r=l→P (ZbK e' (s.size - r.length)) h) :
    Ze (At R) fun b o=>ldI h b (o+1) .i64 fun t=>Zg (At R) e0 t K P h:=by
  subst he
  refine ZdC hr fun n hn=>ZnV (α:=α) hr ?_ hp
  have:=hn.len
  congr 1;omega
theorem Zga {s:ByteArray} {c:Int} {K:Int→HP} {h:Zc} (hk:K (Lib.indexByte s.data.toList c.toNat.toUInt8) h):Z1 s c K h:=hk
theorem Zrb {p:UInt8→Prop} (h:∀ f:Fin 256,p ⟨⟨f⟩⟩):∀ c,p c:=fun ⟨⟨f⟩⟩=>h f
theorem Zlg (c:UInt8):(Lib.indexByte [32,9,10,13] c≥0)↔Yb c=true:=by
  revert c
  exact Zrb (by decide +kernel)
theorem ZaU {h:Zc} {R:Nat} {s:ByteArray} {l:BL} (hr:Rd h R s l) {K:HP} (hk:∀ h',Rd h' R s (Yv l)→Upd (· = R) h h'→sz h'=sz h→K h'):Zy (At R) K h:=by
  unfold Zy X7
  refine ZK (fun _ h'=>∃ l',Rd h' R s l'∧Yv l'=Yv l∧Upd (· = R) h h'∧sz h'=sz h) (fun _ h'=>left h' R) ⟨l,hr,rfl,Upd.refl _ _,rfl⟩ ?_
  rintro ⟨⟩ h1 ⟨l1,r1,e1,u1,z1⟩
  dsimp only
  refine ZjI r1 (fun hne=>?_) fun he=>?_
  ·obtain ⟨c,l',rfl⟩:=List.exists_cons_of_ne_nil hne
   refine ZkD r1 (ZdC r1 fun n hn=>⟨c,by omega,by rw [Int.toNat_natCast];exact hn.head,?_⟩)
   refine ⟨(Lib.indexByte [32,9,10,13] c,()),⟨by simp,rfl⟩,Zq (fun hb=>?_) fun hb=>?_⟩
   ·refine Zat r1 fun h2 r2 u2 z2=>⟨⟨l',r2,?_,u1.trans u2,z2.trans z1⟩,?_⟩
    ·rw [← e1]
     unfold Yv
     rw [List.dropWhile_cons_of_pos ((Zlg c).1 hb)]
    ·rw [r1.left,r2.left];simp
   ·refine hk h1 ?_ u1 z1
    have:Yb c=false:=by
      cases hc:Yb c
      ·rfl
      ·exact absurd ((Zlg c).2 hc) hb
    rw [← e1]
    unfold Yv
    rw [List.dropWhile_cons_of_neg (by simp [this])]
    exact r1
  ·subst he
   refine hk h1 ?_ u1 z1
   rw [← e1]
   exact r1
theorem ZfI {h:Zc} {b:Nat} {l:List Value} (hb:obj h b=some (.cells l.toArray 33 (0,0))) (hl:l.length=4) {k:Int} {t:ByteArray} {x y:Sl} {K:(Int × ByteArray × Sl × Sl × Unit)→HP}
    (hk:∀ h',Upd (· = b) h h'→sz h'=sz h→K (k,t,x,y,()) h') :
    sts h b 0 [.int .u8 k,.string t,.slice x.ptr x.len x.cap,.slice y.ptr y.len y.cap] fun h83 =>
      ldI h83 b 0 .u8 fun t84=>ldS h83 b (0+1) fun t85=>ldL h83 b (0+2) fun t86=>ldL h83 b (0+3) fun t87=>K (t84,t85,t86,t87,()) h83:=by
  obtain ⟨a0,a1,a2,a3,rfl⟩:∃ a0 a1 a2 a3,l=[a0,a1,a2,a3]:=by
    rcases l with _ | ⟨a0,_ | ⟨a1,_ | ⟨a2,_ | ⟨a3,_ | ⟨a4,l⟩⟩⟩⟩⟩<;>simp at hl
    exact ⟨a0,a1,a2,a3,rfl⟩
  rw [ZiM (by rw [hb,ZbD];rfl) (by rfl)]
  have hc:obj (h.puts b 0 [.int .u8 k,.string t,.slice x.ptr x.len x.cap,.slice y.ptr y.len y.cap]) b=some (.cells [.int .u8 k,.string t,.slice x.ptr x.len x.cap,.slice y.ptr y.len y.cap].toArray 33 (0,0)):=by
    rw [Zaz,if_pos rfl,hb,Xn];rfl
  refine rI (Zi hc rfl) (rS (Zi hc rfl) (rL (s:=x) (Zi hc rfl) (rL (s:=y) (Zi hc rfl) (hk _ ?_ ZcN))))
  exact ZoB (Upd.refl _ _) (.inr rfl)
theorem UT {S T:Nat→Prop} {h0 h h':Zc} (u0:Upd S h0 h) (u:Upd T h h') (hT:∀ k,T k→S k∨sz h0≤k):Upd S h0 h' :=
  ⟨Nat.le_trans u0.size u.size,fun k hk hs=>(u.old k (Nat.lt_of_lt_of_le hk u0.size) fun t=>(hT k t).elim hs fun h9=>by have:sz h0=h0.size:=rfl;omega).trans (u0.old k hk hs)⟩
theorem UN {T:Nat→Prop} {h h1 h':Zc} (e:Ext h h1) (u:Upd T h1 h'):Upd T h h':=UT (e.upd T) u fun _ t=> .inl t
theorem Zew {c d:UInt8} (h:(c.toNat:Int)≠(d.toNat:Int)):c≠d:=fun e=>h (by rw [e])
theorem Zd8 {c d:UInt8} (h:(c.toNat:Int)=(d.toNat:Int)):c=d:=UInt8.toNat_inj.1 (by omega)
theorem ZaZ {a b:Int} {A B:Prop} (h1:a≠b→A) (h2:a=b→B):ZC (a !=b) A B:=⟨fun e=>h1 (by simpa using e),fun e=>h2 (by simpa using e)⟩
theorem Xu {a b:Int} {A B:Prop} (h1:a=b→A) (h2:a≠b→B):ZC (a ==b) A B:=⟨fun e=>h1 (by simpa using e),fun e=>h2 (by simpa using e)⟩
theorem ZfA {h:Zc} {R:Nat} {s:ByteArray} {l:BL} (hr:Rd h R s l) {w:ByteArray} {wl:BL} (hw:w.data.toList=wl) (hs:w.size≤10) {k:Int} {K:(Int × ByteArray × Sl × Sl × Unit)→HP} {P:Value→HP}
    (hok:∀ r h',ZbG wl l = .ok () r→Rd h' R s r→Upd (· = R) h h'→K (k,ByteArray.mk #[],⟨none,0,0⟩,⟨none,0,0⟩,()) h') (herr:OnE h R s (· = R) (ZbG wl l) P):Y1 (At R) w k K P h:=by
  unfold Y1 ZaE
  have hR:=hr.lt
  have hwl:wl.length=w.size:=by rw [← hw];simp
  refine Zbe fun h1 c1 e1 z1=>?_
  have r1:=hr.ext e1
  refine ZK (fun p h'=>∃ (n:Nat) (l':BL),p.1=n∧n≤w.size∧Rd h' R s l'∧ZbG (wl.drop n) l'=ZbG wl l∧Upd (· = R) h1 h') (fun p _=>w.size - p.1.toNat) ⟨0,l,rfl,Nat.zero_le _,r1,rfl,Upd.refl _ _⟩ ?_
  rintro ⟨i,u⟩ h2 ⟨n,l2,hi,hn,r2,q2,u2⟩
  dsimp only at hi
  subst hi
  dsimp only
  refine Zq (fun hlt=>Za (Zgr ?_)) fun hge=>?_
  ·have hn':n<wl.length:=by omega
   have hd:wl.drop n=wl[n]::wl.drop (n+1):=List.drop_eq_getElem_cons hn'
   have hx:w[n]?=some wl[n]:=by
     subst hw
     rw [getElem?_pos w n (by omega)]
     simp
     rfl
   refine Zse r2 ⟨wl[n],by omega,by rw [Int.toNat_natCast];exact hx,?_⟩
   dsimp only
   rw [hd] at q2
   rcases l2 with _ | ⟨c,l2⟩
   ·have hfail:∀ e' r,(YX 20 ([]:BL):Out Unit) = .err e' r→r=[]→P (ZbK e' (s.size - r.length)) h2:=fun e' r he hr'=>herr e' r h2 (by rw [← q2,← he];rfl) (UN e1 u2)
    refine ZaZ (fun _=>Xz r2 rfl hfail) fun _=>Zh4 r2 (fun _=>Xz r2 rfl hfail) fun hne=>absurd rfl hne
   ·refine ZaZ (fun hne=>Xz (α:=Unit) r2 rfl fun e' r he hr'=>?_) fun heq=>Zh4 r2 (fun hl=>by cases hl) fun _=>Zat r2 fun h3 r3 u3 z3=>?_
    ·refine herr e' r h2 ?_ (UN e1 u2)
     rw [← q2,← he]
     unfold ZbG
     rw [if_neg (Zew hne)]
     rfl
    ·rw [YE (by omega) (by omega)]
     refine ⟨⟨n+1,l2,rfl,by omega,r3,?_,u2.trans u3⟩,by omega⟩
     rw [← q2]
     conv=>rhs;unfold ZbG
     rw [if_pos (Zd8 heq)]
  ·have hn':n=wl.length:=by omega
   subst hn'
   rw [List.drop_length] at q2
   have hb:obj h2 h.size=some (.cells zV.toArray 33 (0,0)):=Yy c1 u2 (show ¬ h.size=R from by have:sz h=h.size:=rfl;omega)
   refine ZfI (x:=⟨none,0,0⟩) (y:=⟨none,0,0⟩) hb rfl fun h3 u3 z3=>hok l2 h3 (by rw [← q2];rfl) (r2.upd u3 (show ¬ R=h.size from by have:sz h=h.size:=rfl;omega)) ?_
   exact UT (UN e1 u2) u3 fun k hk=> .inr (by subst hk;exact Nat.le_refl _)
theorem Za8 {c:UInt8}:XX c=true↔48≤c.toNat∧c.toNat≤57:=by unfold XX;simp
theorem Zd0 {h:Zc} {R:Nat} {s:ByteArray} {l:BL} (hr:Rd h R s l) {K:HP} {P:Value→HP}
    (hok:∀ r h',Yc l = .ok () r→Rd h' R s r→Upd (· = R) h h'→K h') (herr:OnE h R s (· = R) (Yc l) P):ZO (At R) K P h:=by
  unfold ZO X6
  refine Zgr (YD hr (Za ?_))
  have hfail:(∀ c l',l=c::l'→¬ XX c=true)→∀ e' r,(YX 21 l:Out Unit) = .err e' r→r=l→P (ZbK e' (s.size - r.length)) h:=fun hc e' r he hr'=>herr e' r h (by
    rw [← he]
    rcases l with _ | ⟨c,l⟩
    ·rfl
    ·dsimp only [Yc]
     rw [if_neg (hc c l rfl)];rfl) (Upd.refl _ _)
  refine Zq (fun hlo=>Xz hr rfl (hfail ?_)) fun hlo=>Zq (fun hhi=>Xz hr rfl (hfail ?_)) fun hhi=>?_
  ·rintro c l' rfl hd
   have:=Za8.1 hd
   simp only [XF] at hlo
   omega
  ·rintro c l' rfl hd
   have:=Za8.1 hd
   simp only [XF] at hhi
   omega
  ·rcases l with _ | ⟨c,l⟩
   ·simp [XF] at hlo
   ·simp only [XF] at hlo hhi
    have hd:XX c=true:=Za8.2 (by omega)
    have hq:Yc (c::l) = .ok () (l.dropWhile XX):=by dsimp only [Yc];rw [if_pos hd]
    refine YD hr (Za ?_)
    refine ZK (fun p h'=>∃ l',p.1=XF l'∧Rd h' R s l'∧l'.dropWhile XX=l.dropWhile XX∧Upd (· = R) h h') (fun _ h'=>left h' R) ⟨c::l,rfl,hr,by rw [List.dropWhile_cons_of_pos hd],Upd.refl _ _⟩ ?_
    rintro ⟨i,u⟩ h1 ⟨l1,hi,r1,q1,u1⟩
    dsimp only at hi ⊢
    subst hi
    have fin:(∀ c l',l1=c::l'→¬ XX c=true)→K h1:=fun hc=>hok _ h1 hq (by
      rw [← q1]
      rcases l1 with _ | ⟨d,l1⟩
      ·exact r1
      ·rw [List.dropWhile_cons_of_neg (by simpa using hc d l1 rfl)];exact r1) u1
    refine Zq (fun h48=>Zq (fun h57=>?_) fun h57=>fin ?_) fun h48=>fin ?_
    ·rcases l1 with _ | ⟨d,l1⟩
     ·simp [XF] at h48
     ·simp only [XF] at h48 h57
      have hd1:XX d=true:=Za8.2 (by omega)
      refine Zat r1 fun h2 r2 u2 z2=>YD r2 (Za ⟨⟨l1,rfl,r2,?_,u1.trans u2⟩,by rw [r1.left,r2.left];simp⟩)
      rw [← q1,List.dropWhile_cons_of_pos hd1]
    ·rintro d l' rfl hd
     have:=Za8.1 hd
     simp only [XF] at h57
     omega
    ·rintro d l' rfl hd
     have:=Za8.1 hd
     simp only [XF] at h48
     omega
end Go.Proofs.YtpjbjdheeemdiaaGreatDoor
