/- That each function does what its model says. Written by a program out of the translated functions. -/
import Derived.Test.YtpjbjdheeemdiaaGreatDoorProg
import Derived.KernelRfl
import Derived.Recover
import Derived.Tactics2
import Derived.Below
import Derived.Test.YtpjbjdheeemdiaaGreatDoorPa7
set_option linter.unusedVariables false
set_option linter.unusedSimpArgs false
namespace Go.Proofs.YtpjbjdheeemdiaaGreatDoor
open Go Go.Fw
noncomputable section
theorem Zr:Tryz.prog.follows .mixedOrders=true:=by kernel_rfl
abbrev zk1 (f:zT1):Zi:=⟨[.one (.P)],[],fun t K _ h=>f t.1 (fun h=>K (()) h) h⟩
abbrev zc1 (f0:zT0):Cfg:=Yb Tryz.prog [(171,⟨[.one (.S),.one (.I .u8)],[.one (.I .i64)],fun t K _ h=>f0 t.1 t.2.1 (fun r0 h=>K (r0,()) h) h⟩)] 32 [] [] [] Yc
theorem zr1 (f0:zT0):Yq (zc1 f0) Tryz.f97 (.block (.loop [] [] [(2,31)] (.leaf))) (zk1 (ZaG f0)):=fun _ _ _ _=>by kernel_rfl
theorem zo1:Zu Tryz.prog 97 (zk1 ZD):=okF (zr1 Ym) Tryz.func97 Zr (ZO _ (.cons ZaA .nil) .nil .nil .nil (ZN _))
abbrev zk2 (f:zT2):Zi:=⟨[.one (.P)],[.one (.I .u8)],fun t K _ h=>f t.1 (fun r0 h=>K (r0,()) h) h⟩
abbrev zc2:Cfg:=Yb Tryz.prog [] 22 [] [] [] Yc
theorem zr2:Yq (zc2) Tryz.f166 (.leaf) (zk2 Zbq):=fun _ _ _ _=>by kernel_rfl
theorem zo2:Zu Tryz.prog 166 (zk2 Zt):=okF (zr2) Tryz.func166 Zr (ZO _ .nil .nil .nil .nil (ZN _))
abbrev zk3 (f:zT3):Zi:=⟨[.one (.P),.one (.I .i64),.one (.I .i64)],[],fun t K Kp h=>f t.1 t.2.1 t.2.2.1 (fun h=>K (()) h) Kp h⟩
abbrev zc3:Cfg:=Yb Tryz.prog [] 24 [] [] [] Yc
theorem zr3:Yq (zc3) Tryz.f98 (.leaf) (zk3 XC):=fun _ _ _ _=>by kernel_rfl
theorem zo3:Zu Tryz.prog 98 (zk3 Zj):=okF (zr3) Tryz.func98 Zr (ZO _ .nil .nil .nil .nil (ZN _))
abbrev zk6 (f:zT6):Zi:=⟨[.one (.P),.one (.I .u8)],[.one (.V)],fun t K _ h=>f t.1 t.2.1 (fun r0 h=>K (r0,()) h) h⟩
abbrev zc6 (f5:zT5):Cfg:=Yb Tryz.prog [(251,⟨[.one (.P)],[],fun t K _ h=>f5 t.1 (fun h=>K (()) h) h⟩)] 17 [] [] [] Yc
theorem zr6 (f5:zT5):Yq (zc6 f5) Tryz.f184 (.leaf) (zk6 (YG f5)):=fun _ _ _ _=>by kernel_rfl
theorem zo6:Zu Tryz.prog 184 (zk6 Zy):=okF (zr6 ZG) Tryz.func184 Zr (ZO _ (.cons Xc .nil) .nil .nil .nil (ZN _))
abbrev zk7 (f:zT7):Zi:=⟨[.one (.P)],[.one (.I .i32)],fun t K Kp h=>f t.1 (fun r0 h=>K (r0,()) h) Kp h⟩
abbrev zc7 (f2:zT2) (f3:zT3):Cfg:=Yb Tryz.prog [(166,zk2 f2),(98,zk3 f3)] 65 [] [] [] Yc
theorem zr7 (f2:zT2) (f3:zT3):Yq (zc7 f2 f3) Tryz.f297 (.seq (.leaf) (.seq (.leaf) (.seq (.seq (.leaf) (.block (.loop [3,5] [.one (.I .i32),.one (.I .i64)] [(4,4),(6,63)] (.seq (.leaf) (.seq (.leaf) (.seq (.block (.seq (.leaf) (.cut [3] [.one (.I .i32)] [(9,55)] (.block (.cut [15] [.one (.B)] [(16,21)] (.leaf) (.leaf))) (.leaf)))) (.leaf))))))) (.leaf)))) (zk7 (ZbC f2 f3)):=fun _ _ _ _=>by kernel_rfl
theorem zo7:Zu Tryz.prog 297 (zk7 XQ):=okF (zr7 Zt Zj) Tryz.func297 Zr (ZO _ (.cons zo2 (.cons zo3 .nil)) .nil .nil .nil (ZN _))
abbrev zk8 (f:zT8):Zi:=⟨[.one (.S),.one (.S)],[.one (.B)],fun t K _ h=>f t.1 t.2.1 (fun r0 h=>K (r0,()) h) h⟩
abbrev zc8:Cfg:=Yb Tryz.prog [] 18 [] [] [] Yc
theorem zr8:Yq (zc8) Tryz.f249 (.leaf) (zk8 Yk):=fun _ _ _ _=>by kernel_rfl
theorem zo8:Zu Tryz.prog 249 (zk8 ZA):=okF (zr8) Tryz.func249 Zr (ZO _ .nil .nil .nil .nil (ZN _))
abbrev zk9 (f:zT9):Zi:=⟨[.one (.S),.one (.S)],[.one (.B)],fun t K _ h=>f t.1 t.2.1 (fun r0 h=>K (r0,()) h) h⟩
abbrev zc9 (f8:zT8):Cfg:=Yb Tryz.prog [(249,zk8 f8)] 8 [] [] [] Yc
theorem zr9 (f8:zT8):Yq (zc9 f8) Tryz.f196 (.leaf) (zk9 (ZaU f8)):=fun _ _ _ _=>by kernel_rfl
theorem zo9:Zu Tryz.prog 196 (zk9 Xk):=okF (zr9 ZA) Tryz.func196 Zr (ZO _ (.cons zo8 .nil) .nil .nil .nil (ZN _))
abbrev ZuJ (f:ZsU):Zi:=⟨[.one (.L),.one (.I .i32)],[.one (.L)],fun t K _ h=>f t.1 t.2.1 (fun r0 h=>K (r0,()) h) h⟩
abbrev ZyD:Cfg:=Yb Tryz.prog [] 78 [] [] [] Yc
theorem ZwJ:Yq (ZyD) Tryz.f325 (.seq (.leaf) (.seq (.leaf) (.block (.seq (.leaf) (.cond (.leaf) (.cut [25] [.one (.B)] [(26,33)] (.leaf) (.leaf))))))) (ZuJ YF):=fun _ _ _ _=>by kernel_rfl
theorem ZxC:Zu Tryz.prog 325 (ZuJ Yf):=okF (ZwJ) Tryz.func325 Zr (ZO _ .nil .nil .nil .nil (ZN _))
abbrev ZuI (f:ZsT):Zi:=⟨[.one (.L),.one (.I .i32)],[.one (.L)],fun t K _ h=>f t.1 t.2.1 (fun r0 h=>K (r0,()) h) h⟩
abbrev ZyC (f10:ZsU):Cfg:=Yb Tryz.prog [(325,ZuJ f10)] 16 [] [] [] Yc
theorem ZwI (f10:ZsU):Yq (ZyC f10) Tryz.f309 (.leaf) (ZuI (XH f10)):=fun _ _ _ _=>by kernel_rfl
theorem ZxB:Zu Tryz.prog 309 (ZuI Yu):=okF (ZwI Yf) Tryz.func309 Zr (ZO _ (.cons ZxC .nil) .nil .nil .nil (ZN _))
abbrev ZuH (f:ZsS):Zi:=⟨[.one (.P),.one (.I .i32)],[.one (.I .i64),.one (.V)],fun t K _ h=>f t.1 t.2.1 (fun r0 r1 h=>K (r0,r1,()) h) h⟩
abbrev ZyB (f5:zT5) (f11:ZsT):Cfg:=Yb Tryz.prog [(251,⟨[.one (.P)],[],fun t K _ h=>f5 t.1 (fun h=>K (()) h) h⟩),(309,ZuI f11)] 30 [] [] [] Yc
theorem ZwH (f5:zT5) (f11:ZsT):Yq (ZyB f5 f11) Tryz.f255 (.leaf) (ZuH (Xo f5 f11)):=fun _ _ _ _=>by kernel_rfl
theorem ZxA:Zu Tryz.prog 255 (ZuH Yn):=okF (ZwH ZG Yu) Tryz.func255 Zr (ZO _ (.cons Xc (.cons ZxB .nil)) .nil .nil .nil (ZN _))
abbrev ZuG (f:ZsR):Zi:=⟨[.one (.P),.one (.P)],[],fun t K Kp h=>f t.1 t.2.1 (fun h=>K (()) h) Kp h⟩
abbrev ZyA (f2:zT2) (f0:zT0) (f6:zT6) (f3:zT3) (f7:zT7) (f9:zT9) (f12:ZsS):Cfg:=Yb Tryz.prog [(166,zk2 f2),(171,⟨[.one (.S),.one (.I .u8)],[.one (.I .i64)],fun t K _ h=>f0 t.1 t.2.1 (fun r0 h=>K (r0,()) h) h⟩),(184,zk6 f6),(98,zk3 f3),(297,zk7 f7),(196,zk9 f9),(255,ZuH f12)] 114 [] [] [] Yc
theorem ZwG (f2:zT2) (f0:zT0) (f6:zT6) (f3:zT3) (f7:zT7) (f9:zT9) (f12:ZsS):Yq (ZyA f2 f0 f6 f3 f7 f9 f12) Tryz.f240 (.seq (.leaf) (.cut [] [] [(5,5),(11,37)] (.leaf) (.cut [] [] [(38,45)] (.leaf) (.seq (.leaf) (.seq (.leaf) (.cut [] [] [(7,8),(55,104)] (.cut [72] [.one (.B)] [(55,71)] (.leaf) (.leaf)) (.cut [6] [.one (.I .i32)] [(105,110)] (.leaf) (.leaf)))))))) (ZuG (ZaE f2 f0 f6 f3 f7 f9 f12)):=fun _ _ _ _=>by kernel_rfl
theorem Zxz:Zu Tryz.prog 240 (ZuG Y9):=okF (ZwG Zt Ym Zy Zj XQ Xk Yn) Tryz.func240 Zr (ZO _ (.cons zo2 (.cons ZaA (.cons zo6 (.cons zo3 (.cons zo7 (.cons zo9 (.cons ZxA .nil))))))) .nil .nil .nil (ZN _))
abbrev ZuF (f:ZsQ):Zi:=⟨[.one (.S)],[.one (.B)],fun t K _ h=>f t.1 (fun r0 h=>K (r0,()) h) h⟩
abbrev Zyz (f14:ZuQ) (f15:Zne):Cfg:=Yb Tryz.prog [(323,⟨[.one (.S)],[.one (.I .i64)],fun t K _ h=>f14 t.1 (fun r0 h=>K (r0,()) h) h⟩),(163,⟨[.one (.S)],[.one (.B)],fun t K _ h=>f15 t.1 (fun r0 h=>K (r0,()) h) h⟩)] 64 [] [] [] Yc
theorem ZwF (f14:ZuQ) (f15:Zne):Yq (Zyz f14 f15) Tryz.f298 (.seq (.leaf) (.seq (.seq (.leaf) (.block (.loop [11] [.one (.I .i64)] [(2,2),(4,8),(12,56)] (.seq (.leaf) (.seq (.leaf) (.seq (.block (.seq (.leaf) (.seq (.seq (.leaf) (.block (.loop [5] [.one (.I .i64)] [(2,2),(6,7),(17,36)] (.leaf)))) (.leaf)))) (.leaf))))))) (.leaf))) (ZuF (Zda f14 f15)):=fun _ _ _ _=>by kernel_rfl
theorem Zxy:Zu Tryz.prog 298 (ZuF Zbj):=okF (ZwF Yi ZE) Tryz.func298 Zr (ZO _ (.cons Zbf (.cons YC .nil)) .nil .nil .nil (ZN _))
abbrev Zsc (f:Znk):Zi:=⟨[.one (.P),.one (.S)],[.one (.I .i64),.one (.V)],fun t K _ h=>f t.1 t.2.1 (fun r0 r1 h=>K (r0,r1,()) h) h⟩
abbrev Zyy (f5:zT5):Cfg:=Yb Tryz.prog [(251,⟨[.one (.P)],[],fun t K _ h=>f5 t.1 (fun h=>K (()) h) h⟩)] 19 [] [] [] Yc
theorem ZwE (f5:zT5):Yq (Zyy f5) Tryz.f183 (.leaf) (Zsc (Yw f5)):=fun _ _ _ _=>by kernel_rfl
theorem Zt1:Zu Tryz.prog 183 (Zsc Zx):=okF (ZwE ZG) Tryz.func183 Zr (ZO _ (.cons Xc .nil) .nil .nil .nil (ZN _))
abbrev ZuE (f:ZsP):Zi:=⟨[.one (.P),.one (.P)],[],fun t K Kp h=>f t.1 t.2.1 (fun h=>K (()) h) Kp h⟩
abbrev Zyx (f3:zT3) (f16:ZsQ) (f15:Zne) (f17:Znk):Cfg:=Yb Tryz.prog [(98,zk3 f3),(298,ZuF f16),(163,⟨[.one (.S)],[.one (.B)],fun t K _ h=>f15 t.1 (fun r0 h=>K (r0,()) h) h⟩),(183,Zsc f17)] 67 [] [] [] Yc
theorem ZwD (f3:zT3) (f16:ZsQ) (f15:Zne) (f17:Znk):Yq (Zyx f3 f16 f15 f17) Tryz.f241 (.seq (.leaf) (.block (.loop [4] [.one (.I .i64)] [(5,66)] (.seq (.block (.cut [] [] [(8,26)] (.leaf) (.seq (.leaf) (.cut [] [] [(42,53)] (.leaf) (.leaf))))) (.leaf))))) (ZuE (ZaZ f3 f16 f15 f17)):=fun _ _ _ _=>by kernel_rfl
theorem Zxx:Zu Tryz.prog 241 (ZuE Xm):=okF (ZwD Zj Zbj ZE Zx) Tryz.func241 Zr (ZO _ (.cons zo3 (.cons Zxy (.cons YC (.cons Zt1 .nil)))) .nil .nil .nil (ZN _))
abbrev ZtQ (f:Zqz):Zi:=⟨[.one (.P)],[.one (.S)],fun t K Kp h=>f t.1 (fun r0 h=>K (r0,()) h) Kp h⟩
abbrev Zyw (f2:zT2) (f3:zT3) (f4:zT4) (f13:ZsR) (f6:zT6) (f18:ZsP):Cfg:=Yb Tryz.prog [(166,zk2 f2),(98,zk3 f3),(115,⟨[.one (.P)],[.one (.S)],fun t K _ h=>f4 t.1 (fun r0 h=>K (r0,()) h) h⟩),(240,ZuG f13),(184,zk6 f6),(241,ZuE f18)] 72 [] [] [] Yc
theorem ZwC (f2:zT2) (f3:zT3) (f4:zT4) (f13:ZsR) (f6:zT6) (f18:ZsP):Yq (Zyw f2 f3 f4 f13 f6 f18) Tryz.f168 (.seq (.leaf) (.seq (.leaf) (.seq (.leaf) (.block (.loop [] [] [(2,2),(4,4),(12,71)] (.block (.seq (.leaf) (.block (.cut [16] [.one (.B)] [(17,30)] (.leaf) (.leaf)))))))))) (ZtQ (Zbo f2 f3 f4 f13 f6 f18)):=fun _ _ _ _=>by kernel_rfl
theorem Zvx:Zu Tryz.prog 168 (ZtQ YE):=okF (ZwC Zt Zj Yh Y9 Zy Xm) Tryz.func168 Zr (ZO _ (.cons zo2 (.cons zo3 (.cons ZaK (.cons Zxz (.cons zo6 (.cons Zxx .nil)))))) .nil .nil .nil (ZN _))
abbrev Zpg (f:ZiC):Zi:=⟨[.one (.P),.one (.I .i64)],[.agg [.I .u8,.S,.L,.L]],fun t K Kp h=>f t.1 t.2.1 (fun r0 h=>K (r0,()) h) Kp h⟩
abbrev ZuD (f:ZsO):Zi:=⟨[.one (.P),.one (.P),.one (.I .i64)],[],fun t K Kp h=>f t.1 t.2.1 t.2.2.1 (fun h=>K (()) h) Kp h⟩
abbrev Zyu (f1:zT1) (f2:zT2) (f3:zT3) (f19:Zqz) (f20:ZiC):Cfg:=Yb Tryz.prog [(97,zk1 f1),(166,zk2 f2),(98,zk3 f3),(168,ZtQ f19),(96,Zpg f20)] 66 [] [] [] Yc
theorem ZwA (f1:zT1) (f2:zT2) (f3:zT3) (f19:Zqz) (f20:ZiC):Yq (Zyu f1 f2 f3 f19 f20) Tryz.f239 (.seq (.leaf) (.cut [] [] [(8,50)] (.seq (.leaf) (.cond (.cut [] [] [(13,21)] (.leaf) (.seq (.order (.take 0 (.take 1 (.take 2 (.take 3 (.take 5 (.take 4 (.take 6 (.take 7 (.take 8 (.take 9 (.take 10 (.take 11 .done))))))))))))) (.seq (.leaf) (.cut [] [] [(35,43)] (.leaf) (.leaf))))) (.leaf))) (.seq (.order (.take 0 (.take 1 (.take 2 (.take 4 (.take 5 (.take 3 (.take 7 (.fork 6 (.take 8 (.take 9 (.take 10 (.take 12 (.take 13 (.fork 11 (.take 14 .done) 14 (.take 11 .done))))))) 8 (.take 6 (.take 9 (.take 10 (.take 12 (.take 13 (.fork 11 (.take 14 .done) 14 (.take 11 .done)))))))))))))))) (.leaf)))) (ZuD (Zbp f1 f2 f3 f19 f20)):=fun _ _ _ _=>by kernel_rfl
theorem ZwV (f20:ZiC) (hH:Zu Tryz.prog 96 (Zpg f20)):Zu Tryz.prog 239 (ZuD (Xy f20)):=okF (ZwA ZD Zt Zj YE f20) Tryz.func239 Zr (ZO _ (.cons zo1 (.cons zo2 (.cons zo3 (.cons Zvx (.cons hH .nil))))) .nil .nil .nil (ZN _)) (hlen:=Nat.le_of_ble_eq_true rfl)
abbrev ZuC (f:ZsN):Zi:=⟨[.one (.P),.one (.I .u8),.one (.I .u8),.one (.I .i64)],[.agg [.I .u8,.S,.L,.L]],fun t K Kp h=>f t.1 t.2.1 t.2.2.1 t.2.2.2.1 (fun r0 h=>K (r0,()) h) Kp h⟩
abbrev Zyt (f3:zT3) (f1:zT1) (f2:zT2) (f21:ZsO):Cfg:=Yb Tryz.prog [(98,zk3 f3),(97,zk1 f1),(166,zk2 f2),(239,ZuD f21)] 77 [] [] [] Yc
theorem Zwz (f3:zT3) (f1:zT1) (f2:zT2) (f21:ZsO):Yq (Zyt f3 f1 f2 f21) Tryz.f167 (.seq (.leaf) (.cut [] [] [(10,17)] (.leaf) (.seq (.leaf) (.seq (.leaf) (.seq (.leaf) (.seq (.block (.loop [] [] [(29,68)] (.cut [] [] [(29,44)] (.leaf) (.block (.cut [] [] [(45,64)] (.seq (.leaf) (.cond (.cut [] [] [(49,57)] (.leaf) (.leaf)) (.leaf))) (.leaf)))))) (.leaf))))))) (ZuC (X3 f3 f1 f2 f21)):=fun _ _ _ _=>by kernel_rfl
theorem ZwU (f20:ZiC) (hH:Zu Tryz.prog 96 (Zpg f20)):Zu Tryz.prog 167 (ZuC (Yl f20)):=okF (Zwz Zj ZD Zt (Xy f20)) Tryz.func167 Zr (ZO _ (.cons zo3 (.cons zo1 (.cons zo2 (.cons (ZwV f20 hH) .nil)))) .nil .nil .nil (ZN _)) (hlen:=Nat.le_of_ble_eq_true rfl)
abbrev ZuB (f:ZsM):Zi:=⟨[.one (.P),.one (.S),.one (.I .u8)],[.agg [.I .u8,.S,.L,.L]],fun t K Kp h=>f t.1 t.2.1 t.2.2.1 (fun r0 h=>K (r0,()) h) Kp h⟩
abbrev Zys (f2:zT2) (f3:zT3):Cfg:=Yb Tryz.prog [(166,zk2 f2),(98,zk3 f3)] 47 [] [] [] Yc
theorem Zwy (f2:zT2) (f3:zT3):Yq (Zys f2 f3) Tryz.f169 (.seq (.leaf) (.seq (.seq (.leaf) (.block (.loop [10] [.one (.I .i64)] [(7,7),(11,44)] (.seq (.leaf) (.seq (.leaf) (.seq (.block (.seq (.leaf) (.cut [] [] [(13,36)] (.leaf) (.leaf)))) (.leaf))))))) (.leaf))) (ZuB (Zbn f2 f3)):=fun _ _ _ _=>by kernel_rfl
theorem Zxv:Zu Tryz.prog 169 (ZuB XA):=okF (Zwy Zt Zj) Tryz.func169 Zr (ZO _ (.cons zo2 (.cons zo3 .nil)) .nil .nil .nil (ZN _))
abbrev ZuA (f:ZsL):Zi:=⟨[.one (.P)],[],fun t K Kp h=>f t.1 (fun h=>K (()) h) Kp h⟩
abbrev Zyr (f2:zT2) (f3:zT3):Cfg:=Yb Tryz.prog [(166,zk2 f2),(98,zk3 f3)] 35 [] [] [] Yc
theorem Zwx (f2:zT2) (f3:zT3):Yq (Zyr f2 f3) Tryz.f242 (.cut [] [] [(2,2),(4,17)] (.leaf) (.seq (.leaf) (.block (.loop [3] [.one (.I .u8)] [(20,34)] (.leaf))))) (ZuA (ZaF f2 f3)):=fun _ _ _ _=>by kernel_rfl
theorem Zxu:Zu Tryz.prog 242 (ZuA Z2):=okF (Zwx Zt Zj) Tryz.func242 Zr (ZO _ (.cons zo2 (.cons zo3 .nil)) .nil .nil .nil (ZN _))
abbrev Zuz (f:ZsK):Zi:=⟨[.one (.P)],[.agg [.I .u8,.S,.L,.L]],fun t K Kp h=>f t.1 (fun r0 h=>K (r0,()) h) Kp h⟩
abbrev Zyq (f2:zT2) (f3:zT3) (f24:ZsL):Cfg:=Yb Tryz.prog [(166,zk2 f2),(98,zk3 f3),(242,ZuA f24)] 102 [] [] [] Yc
theorem Zww (f2:zT2) (f3:zT3) (f24:ZsL):Yq (Zyq f2 f3 f24) Tryz.f170 (.seq (.leaf) (.seq (.leaf) (.cut [] [] [(11,20)] (.leaf) (.cut [] [] [(4,4),(21,46)] (.leaf) (.cut [] [] [(47,58)] (.leaf) (.cut [] [] [(5,6),(59,90)] (.leaf) (.seq (.order (.take 0 (.take 1 (.take 2 (.take 4 (.take 5 (.take 6 (.take 7 (.take 3 (.take 8 (.take 9 (.take 10 (.take 11 .done))))))))))))) (.leaf)))))))) (Zuz (ZaD f2 f3 f24)):=fun _ _ _ _=>by kernel_rfl
theorem Zxt:Zu Tryz.prog 170 (Zuz YK):=okF (Zww Zt Zj Z2) Tryz.func170 Zr (ZO _ (.cons zo2 (.cons zo3 (.cons Zxu .nil))) .nil .nil .nil (ZN _))
abbrev Zyv (f1:zT1) (f2:zT2) (f3:zT3) (f22:ZsN) (f19:Zqz) (f23:ZsM) (f25:ZsK):Cfg:=Yb Tryz.prog [(97,zk1 f1),(166,zk2 f2),(98,zk3 f3),(167,ZuC f22),(168,ZtQ f19),(169,ZuB f23),(170,Zuz f25)] 80 [] [] [] Yc
theorem ZwB (f1:zT1) (f2:zT2) (f3:zT3) (f22:ZsN) (f19:Zqz) (f23:ZsM) (f25:ZsK):Yq (Zyv f1 f2 f3 f22 f19 f23 f25) Tryz.f96 (.seq (.leaf) (.seq (.leaf) (.cut [] [] [(5,5),(8,72)] (.leaf) (.leaf)))) (Zpg (ZaY f1 f2 f3 f22 f19 f23 f25)):=fun _ _ _ _=>by kernel_rfl
theorem ZwW (f20:ZiC) (hH:Zu Tryz.prog 96 (Zpg f20)):Zu Tryz.prog 96 (Zpg (XX f20)):=okF (ZwB ZD Zt Zj (Yl f20) YE XA YK) Tryz.func96 Zr (ZO _ (.cons zo1 (.cons zo2 (.cons zo3 (.cons (ZwU f20 hH) (.cons Zvx (.cons Zxv (.cons Zxt .nil))))))) .nil .nil .nil (ZN _)) (hlen:=Nat.le_of_ble_eq_true rfl)
theorem Zvq:∀ n,Zu Tryz.prog 96 (Zpg (Yz n))
 | 0=>Zfv Tryz.func96 (by kernel_rfl) (by kernel_rfl) fun _ _ _ _ h=>h
 | n+1=>ZwW _ (Zvq n)
theorem Zxw:Zu Tryz.prog 96 (Zpg X0):=ZmH Zvq
def sq1:Code→Code
  | .seq x _=>x
  | c=>c
def sq2:Code→Code
  | .seq _ y=>y
  | c=>c
def ZpJ:Code:=Tryz.f25.body.getD .skip
def pA:Code:=sq1 ZpJ
def pB:Code:=sq1 (sq2 ZpJ)
def pR:Code:=sq2 (sq2 (sq2 ZpJ))
def pD:Code:=sq1 (sq2 (sq2 ZpJ))
theorem ZpI:Tryz.f25.body=some (.seq pA (.seq pB (.seq pD pR))):=by kernel_rfl
abbrev ZjP:List VT:=[.agg [.I .u8,.S,.L,.L],.one (.I .i64),.one (.I .i64)]
def ZpK (p:Value→HP):Cfg:={ Yb Tryz.prog [(96,Zpg X0),(97,zk1 ZD),(98,zk3 Zj)] 32 [] [] [] Yc with pan:=p,rnd:=none }
theorem ZkP (p:Value→HP):(ZpK p).OK:=(ZO (Yb Tryz.prog [(96,Zpg X0),(97,zk1 ZD),(98,zk3 Zj)] 32 [] [] [] Yc) (.cons Zxw (.cons zo1 (.cons zo3 .nil))) .nil .nil .nil (ZN _)).at none p
def Zpk (K:YV ZjP→HP) (e:Env) (h:Zc):Prop:=Znf (ZpK fun _ _=>False) e h Tryz.f25.results.toList fun vs=>match YV.un ZjP vs with
  | some r=>K r h
  | none=>False
def Zr4 (b2 b3 b4:Nat):Env:=⟨fun j=>bif Nat.beq j 2 then some (.adr b2 0) else bif Nat.beq j 3 then some (.adr b3 0) else bif Nat.beq j 4 then some (.adr b4 0) else none,.no⟩
def ZuU (b2 b3 b4:Nat) (E:HP) (v:Value) (h:Zc):Prop:=∃ e n,v = .iface 160 (.agg #[.int .i64 e,.int .i64 n])∧ZtV b2 b3 b4 e n E h
def clo (b2 b3 b4:Nat):Deferred:={ target:= .fn (.func 95) #[.pointer (some ⟨b2,0,none⟩),.pointer (some ⟨b3,0,none⟩),.pointer (some ⟨b4,0,none⟩)],args:= #[]}
def ZvD (e:Env) (b2 b3 b4:Nat):Env:=⟨fun j=>bif Nat.beq j 10 then none else e.f j,.raw [clo b2 b3 b4]⟩
def prd (s:ByteArray) (K:YV ZjP→HP) (h:Zc):Prop :=
  wpC (ZpK fun _ _=>False) (.seq pA pB) .leaf (ZeL [.val (.string s)]) h fun x e h'=>match x with
    | .ret=>Zpk K e h'
    | .normal=>match e.f 2,e.f 3,e.f 4 with
      | some (.adr b2 0),some (.adr b3 0),some (.adr b4 0)=>wpC (ZpK (ZuU b2 b3 b4 (Zpk K (Zr4 b2 b3 b4)))) pR .leaf (ZvD e b2 b3 b4) h' fun x e2 h2=>match x with
          | .normal=>Zpk K e2 h2
          | .ret=>Zpk K e2 h2
          | .exit _=>False
      | _,_,_=>False
    | .exit _=>False
theorem ZkK {e:Env} {a:Act} {w:World} {K:YV ZjP→HP} (hag:∀ j v,e j=some v→a.tmps[j]?=some v.v) (h:Zpk K e w.heap):∃ v,(results Tryz.f25 a.tmps).run Tryz.prog w = .ok v w∧∃ r,v=ZqI ZjP r∧K r w.heap:=by
  have hag':Agr a.tmps.size ⟨e.f,.raw a.defers⟩ a:=⟨rfl,rfl,hag⟩
  have h':Znf { ZpK (fun _ _=>False) with n:=a.tmps.size } ⟨e.f,.raw a.defers⟩ w.heap Tryz.f25.results.toList fun vs=>match YV.un ZjP vs with
    | some r=>K r w.heap
    | none=>False:=h
  obtain ⟨vs,hr,hk⟩:=ZeU (c:={ ZpK (fun _ _=>False) with n:=a.tmps.size }) (f:=fun
    | .tmp t=>pure (a.tmps.getD t undef)
    | .cell x t=>do loadVar t (← asAddr (a.tmps.getD x undef))) hag' (fun _=>rfl) (fun _ _=>rfl) h'
  split at hk
  ·rename_i r hun
   refine ⟨ZqI ZjP r,?_,r,rfl,hk⟩
   unfold results
   rw [Array.mapM_eq_mapM_toList]
   simp only [Sem.run_bind,Sem.run_map]
   refine (congrArg (fun r=>(Result.andThen (Result.andThen r _) _)) hr).trans ?_
   simp only [Result.andThen_ok,Sem.run_pure]
   rw [ZnX hun]
   exact congrArg (fun v=>Result.ok v w) (ZjE _)
  ·exact hk.elim
def ZtA:Code:=Tryz.f95.body.getD .skip
def cl1:Code:=sq1 ZtA
def cl2:Code:=sq2 ZtA
theorem Zl6:Tryz.f95.body=some (.seq cl1 cl2):=by kernel_rfl
def ZtX:Ann:= .block (.seq (.leaf) (.cond (.leaf) (.seq (.leaf) (.cond (.seq (.leaf) (.order (.take 0 (.take 1 (.take 3 (.take 2 (.take 4 (.take 5 (.take 6 (.take 7 .done)))))))))) (.leaf)))))
def ZrO:Cfg:={ Yb Tryz.prog [] 17 [] [] [] Yc with pan:=fun _ _=>False,rnd:=none }
theorem ZoW:ZrO.OK:=(ZO (Yb Tryz.prog [] 17 [] [] [] Yc) .nil .nil .nil .nil (ZN _)).at none _
def ptr (b:Nat):Value:= .pointer (some ⟨b,0,none⟩)
def Zr5 (b2 b3 b4:Nat) (v:Value):Env:=⟨fun j=>bif Nat.beq j 0 then some (.val (.pointer (some ⟨b2,0,none⟩))) else bif Nat.beq j 1 then some (.val (.pointer (some ⟨b3,0,none⟩))) else bif Nat.beq j 2 then some (.val (.pointer (some ⟨b4,0,none⟩))) else bif Nat.beq j 6 then some (.val v) else none,.no⟩
theorem Zir {b2 b3 b4:Nat} {x:Value} {j:Nat} {v:EV} (h:(Zr5 b2 b3 b4 x).f j=some v):(j=0∧v = .val (ptr b2))∨(j=1∧v = .val (ptr b3))∨(j=2∧v = .val (ptr b4))∨(j=6∧v = .val x):=by
  unfold Zr5 at h
  dsimp only at h
  cases h0:Nat.beq j 0 with
  | true=>rw [h0] at h;cases h;exact .inl ⟨Nat.eq_of_beq_eq_true h0,rfl⟩
  | false =>
    rw [h0] at h
    cases h1:Nat.beq j 1 with
    | true=>rw [h1] at h;cases h;exact .inr (.inl ⟨Nat.eq_of_beq_eq_true h1,rfl⟩)
    | false =>
      rw [h1] at h
      cases h2:Nat.beq j 2 with
      | true=>rw [h2] at h;cases h;exact .inr (.inr (.inl ⟨Nat.eq_of_beq_eq_true h2,rfl⟩))
      | false =>
        rw [h2] at h
        cases h6:Nat.beq j 6 with
        | true=>rw [h6] at h;cases h;exact .inr (.inr (.inr ⟨Nat.eq_of_beq_eq_true h6,rfl⟩))
        | false=>rw [h6] at h;cases h
def ZpN (E:HP):Ex→Env→Zc→Prop
  | .normal,_,h=>E h
  | _,_,_=>False
theorem rdC (b2 b3 b4:Nat) (e n:Int) (E:HP) (h:Zc):wpC ZrO cl2 ZtX (Zr5 b2 b3 b4 (.iface 160 (.agg #[.int .i64 e,.int .i64 n]))) h (ZpN E)=ZtV b2 b3 b4 e n E h:=by kernel_rfl
theorem ZqX:cl1 = .region 0 #[⟨some 6,.call ⟨.builtin .recover,#[],#[]⟩,20, "json.go:273", #[],none⟩] false:=by kernel_rfl
theorem Zod {l:List Nat} (h:Zhn l mkN=false):mkN∉l:=by
  induction l with
  | nil=>intro h9;cases h9
  | cons x xs ih =>
    intro h9
    simp only [Zhn] at h
    cases hx:Nat.beq mkN x with
    | true=>rw [hx] at h;cases h
    | false =>
      rw [hx] at h
      rcases List.mem_cons.1 h9 with h9 | h9
      ·rw [← h9,Nat.beq_refl] at hx;cases hx
      ·exact ih h h9
set_option maxRecDepth 100000 in
theorem Zlb {b2 b3 b4:Nat} {e n:Int} {E:HP} {w:World} (hk:ZtV b2 b3 b4 e n E w.heap) :
    CallsD Tryz.prog 95 #[ptr b2,ptr b3,ptr b4] (.panicking [{ v:= .iface 160 (.agg #[.int .i64 e,.int .i64 n]),recovered:=false }]) w fun e' u' w' =>
      e' = .returned (.tuple #[])∧u' = .panicking [{ v:= .iface 160 (.agg #[.int .i64 e,.int .i64 n]),recovered:=true }]∧Fw.Same w w'∧E w'.heap:=by
  refine callsD_of_wpS Tryz.func95 Zl6 fun c₀ cs hu=>?_
  apply wpS_seq
  rw [ZqX]
  apply wpS_region
  simp [wpOpsS,go_sem,recoverD,hu,Tryz.ntmps95,Exit.thenS]
  refine wpS_of_wp ((wpIn_wide (n:=0)).1 (wpIn_mono (Y6 cl2 ZrO ZoW Zr ZtX (Zr5 b2 b3 b4 (.iface 160 (.agg #[.int .i64 e,.int .i64 n]))) _ w (ZpN E) ?_ (by rw [rdC];exact hk)) ?_))
  ·refine ⟨by simp [ZrO,Yb,ptr],rfl,fun j v hj=>?_⟩
   have hv:(j=0∧v = .val (ptr b2))∨(j=1∧v = .val (ptr b3))∨(j=2∧v = .val (ptr b4))∨(j=6∧v = .val (.iface 160 (.agg #[.int .i64 e,.int .i64 n]))):=Zir hj
   rcases hv with ⟨rfl,rfl⟩ | ⟨rfl,rfl⟩ | ⟨rfl,rfl⟩ | ⟨rfl,rfl⟩<;>simp [EV.v,Array.getElem?_append]
  ·intro ex a' w' hp
   cases ex with
   | normal =>
     obtain ⟨e',h1,h2,h3,h4⟩:=hp
     have hd:=h3.2 (Zod (by kernel_rfl))
     exact ⟨hd,_,rfl,.tuple #[],by simp [results,Tryz.results95],rfl,rfl,h2,h4⟩
   | ret=>obtain ⟨e',h1,h2,h3,h4⟩:=hp;exact h4.elim
   | exit id=>obtain ⟨e',h1,h2,h3,h4⟩:=hp;exact h4.elim
   | goto t=>exact hp.elim
   | outgrown=>exact hp.elim
   | panic ch=>obtain ⟨v,h1,h2,h3,h4⟩:=hp;exact h4.elim
theorem rdN (b2 b3 b4:Nat) (E:HP) (h:Zc):wpC ZrO cl2 ZtX (Zr5 b2 b3 b4 .nilIface) h (ZpN E)=(ZfL .nilIface fun b=>Zw b (E h) False):=by kernel_rfl
set_option maxRecDepth 100000 in
theorem ZmR {b2 b3 b4:Nat} {w:World}:CallsD Tryz.prog 95 #[ptr b2,ptr b3,ptr b4] .returning w fun e' u' w'=>e' = .returned (.tuple #[])∧u' = .returning∧Fw.Same w w'∧w'.heap=w.heap:=by
  refine callsD_of_wpS Tryz.func95 Zl6 fun c₀ cs hu=>?_
  apply wpS_seq
  rw [ZqX]
  apply wpS_region
  simp [wpOpsS,go_sem,recoverD,hu,Tryz.ntmps95,Exit.thenS]
  refine wpS_of_wp ((wpIn_wide (n:=0)).1 (wpIn_mono (Y6 cl2 ZrO ZoW Zr ZtX (Zr5 b2 b3 b4 .nilIface) _ w (ZpN fun h=>h=w.heap) ?_ (by rw [rdN];exact .inl ⟨rfl,Zp rfl rfl⟩)) ?_))
  ·refine ⟨by simp [ZrO,Yb,ptr],rfl,fun j v hj=>?_⟩
   have hv:(j=0∧v = .val (ptr b2))∨(j=1∧v = .val (ptr b3))∨(j=2∧v = .val (ptr b4))∨(j=6∧v = .val .nilIface):=Zir hj
   rcases hv with ⟨rfl,rfl⟩ | ⟨rfl,rfl⟩ | ⟨rfl,rfl⟩ | ⟨rfl,rfl⟩<;>simp [EV.v,Array.getElem?_append]
  ·intro ex a' w' hp
   cases ex with
   | normal =>
     obtain ⟨e',h1,h2,h3,h4⟩:=hp
     have hd:=h3.2 (Zod (by kernel_rfl))
     refine ⟨hd,.returning,?_,.tuple #[],by simp [results,Tryz.results95],rfl,rfl,h2,h4⟩
     cases c₀
     simp_all
   | ret=>obtain ⟨e',h1,h2,h3,h4⟩:=hp;exact h4.elim
   | exit id=>obtain ⟨e',h1,h2,h3,h4⟩:=hp;exact h4.elim
   | goto t=>exact hp.elim
   | outgrown=>exact hp.elim
   | panic ch=>obtain ⟨v,h1,h2,h3,h4⟩:=hp;exact h4.elim
theorem ZuV:pD = .region 3 #[⟨some 10,.makeFunc (.func 95) #[] #[.tmp 2,.tmp 3,.tmp 4],1, "json.go:272", #[],none⟩,⟨none,.defer ⟨.value (.tmp 10),#[],#[]⟩,0, "json.go:272", #[⟨0,.data⟩],none⟩] false:=by kernel_rfl
theorem wpD {a:Act} {w:World} {Q:Exit→Act→World→Prop} {b2 b3 b4:Nat} (h2:a.tmps[2]?=some (ptr b2)) (h3:a.tmps[3]?=some (ptr b3)) (h4:a.tmps[4]?=some (ptr b4)) (hd:a.defers=[]) (hs:a.tmps.size=32)
    (h:pR.wp Tryz.prog Q { tmps:=a.tmps.setIfInBounds 10 (.func (.func 95) #[] #[ptr b2,ptr b3,ptr b4]),defers:=[clo b2 b3 b4]} w):(Code.seq pD pR).wp Tryz.prog Q a w:=by
  apply wp_seq
  rw [ZuV]
  apply wp_region
  have hmf:∀ (fn:Fn) (first cap:Array Value) (w:World),(Instr.makeFunc fn first cap).run Tryz.prog w = .ok (.func fn first cap) w:=fun _ _ _ _=>rfl
  have e2:a.eval (.tmp 2)=ptr b2:=by simp [Act.eval,h2]
  have e3:a.eval (.tmp 3)=ptr b3:=by simp [Act.eval,h3]
  have e4:a.eval (.tmp 4)=ptr b4:=by simp [Act.eval,h4]
  have e10:({ tmps:=a.tmps.setIfInBounds 10 (.func (.func 95) #[] #[ptr b2,ptr b3,ptr b4]),defers:=[]}:Act).eval (.tmp 10) = .func (.func 95) #[] #[ptr b2,ptr b3,ptr b4]:=by simp [Act.eval,hs]
  obtain ⟨tm,df⟩:=a
  dsimp only at hd hs h2 h3 h4
  subst hd
  show wpOps _ _ _ [0,1] _ _
  simp [wpOps,go_sem,hmf,e2,e3,e4,e10,Exit.then]
  refine .inl (.inl ?_)
  have g2:tm[2]'(by omega)=ptr b2:=(Array.getElem?_eq_some_iff.1 h2).2
  have g3:tm[3]'(by omega)=ptr b3:=(Array.getElem?_eq_some_iff.1 h3).2
  have g4:tm[4]'(by omega)=ptr b4:=(Array.getElem?_eq_some_iff.1 h4).2
  simp [g2,g3,g4,hs,Oper.upon]
  exact h
theorem nR:Zhn (Fw.dstsOf pR) mkN=false∧Zhn (Fw.dstsOf pR) 2=false∧Zhn (Fw.dstsOf pR) 3=false∧Zhn (Fw.dstsOf pR) 4=false∧Zhn (Fw.dstsOf pA) mkN=false∧Zhn (Fw.dstsOf pB) mkN=false:=⟨by kernel_rfl,by kernel_rfl,by kernel_rfl,by kernel_rfl,by kernel_rfl,by kernel_rfl⟩
theorem ZbJ {l:List Nat} {j:Nat} (h:Zhn l j=false):j∉l:=by
  induction l with
  | nil=>intro h9;cases h9
  | cons x xs ih =>
    intro h9
    simp only [Zhn] at h
    cases hx:Nat.beq j x with
    | true=>rw [hx] at h;cases h
    | false =>
      rw [hx] at h
      rcases List.mem_cons.1 h9 with h9 | h9
      ·rw [← h9,Nat.beq_refl] at hx;cases hx
      ·exact ih h h9
theorem ZmZ {b2 b3 b4 j:Nat} {v:EV} (h:(Zr4 b2 b3 b4).f j=some v):(j=2∧v = .adr b2 0)∨(j=3∧v = .adr b3 0)∨(j=4∧v = .adr b4 0):=by
  unfold Zr4 at h
  dsimp only at h
  cases h0:Nat.beq j 2 with
  | true=>rw [h0] at h;cases h;exact .inl ⟨Nat.eq_of_beq_eq_true h0,rfl⟩
  | false =>
    rw [h0] at h
    cases h1:Nat.beq j 3 with
    | true=>rw [h1] at h;cases h;exact .inr (.inl ⟨Nat.eq_of_beq_eq_true h1,rfl⟩)
    | false =>
      rw [h1] at h
      cases h2:Nat.beq j 4 with
      | true=>rw [h2] at h;cases h;exact .inr (.inr ⟨Nat.eq_of_beq_eq_true h2,rfl⟩)
      | false=>rw [h2] at h;cases h
set_option maxRecDepth 100000 in
theorem Zo0 {a:Act} {w w3:World} {K:YV ZjP→HP} {b2 b3 b4:Nat} {e3:Env} (hag:∀ j v,e3 j=some v→a.tmps[j]?=some v.v) (hd:a.defers=[clo b2 b3 b4]) (hs:Fw.Same w w3) (hk:Zpk K e3 w3.heap) :
    Leaves Tryz.prog Tryz.f25 a.tmps (ZbN ZjP w K fun _ _=>False) a.defers .returning w3:=by
  rw [hd]
  unfold clo
  refine leaves_cons (f:=95) (args:= #[ptr b2,ptr b3,ptr b4]) (by simp) (by simp [go_sem,ptr]) (ZmR.mono ?_)
  rintro e u w4 ⟨rfl,rfl,h1,h2⟩
  have hk4:Zpk K e3 w4.heap:=by rw [h2];exact hk
  obtain ⟨v,hv,r,rfl,hr⟩:=ZkK hag hk4
  exact ⟨_,hv,.inl ⟨r,rfl,hs.trans h1,hr⟩⟩
set_option maxRecDepth 100000 in
theorem ZpM {a:Act} {w w3:World} {K:YV ZjP→HP} {b2 b3 b4:Nat} {v:Value} (h2:a.tmps[2]?=some (ptr b2)) (h3:a.tmps[3]?=some (ptr b3)) (h4:a.tmps[4]?=some (ptr b4)) (hd:a.defers=[clo b2 b3 b4]) (hs:Fw.Same w w3)
    (hk:ZuU b2 b3 b4 (Zpk K (Zr4 b2 b3 b4)) v w3.heap):Leaves Tryz.prog Tryz.f25 a.tmps (ZbN ZjP w K fun _ _=>False) a.defers (.panicking [{ v,recovered:=false }]) w3:=by
  obtain ⟨e,n,rfl,hc⟩:=hk
  rw [hd]
  unfold clo
  refine leaves_cons (f:=95) (args:= #[ptr b2,ptr b3,ptr b4]) (by simp) (by simp [go_sem,ptr]) ((Zlb hc).mono ?_)
  rintro e' u w4 ⟨rfl,rfl,g1,g2⟩
  have hag:∀ j v,(Zr4 b2 b3 b4) j=some v→a.tmps[j]?=some v.v:=fun j v hj=>by
    have hv:(j=2∧v = .adr b2 0)∨(j=3∧v = .adr b3 0)∨(j=4∧v = .adr b4 0):=ZmZ hj
    rcases hv with ⟨rfl,rfl⟩ | ⟨rfl,rfl⟩ | ⟨rfl,rfl⟩
    ·exact h2
    ·exact h3
    ·exact h4
  obtain ⟨v,hv,r,rfl,hr⟩:=ZkK hag g2
  exact ⟨_,hv,.inl ⟨r,rfl,hs.trans g1,hr⟩⟩
theorem Zvf {s:ByteArray}:Agr 32 (ZeL [.val (.string s)]) { tmps:= #[.string s]++Array.replicate 31 undef,defers:=[]}:=by
  refine ⟨by simp,rfl,fun j v hj=>?_⟩
  obtain ⟨k,hk,hv⟩:=ZfE [.val (.string s)] 0 j v hj
  cases k with
  | zero=>simp at hk hv;subst hk hv;simp [EV.v]
  | succ k=>simp at hv
theorem Zqh {e:Env} {a:Act} {b2 b3 b4:Nat} {x:Value} (h:Agr 32 e a):Agr 32 (ZvD e b2 b3 b4) { tmps:=a.tmps.setIfInBounds 10 x,defers:=[clo b2 b3 b4]}:=by
  refine ⟨by simp [h.size],rfl,fun j v hj=>?_⟩
  have hj':(bif Nat.beq j 10 then none else e.f j)=some v:=hj
  cases h10:Nat.beq j 10 with
  | true=>rw [h10] at hj';cases hj'
  | false =>
    rw [h10] at hj'
    have hne:10≠j:=fun h9=>by rw [← h9] at h10;cases h10
    show (a.tmps.setIfInBounds 10 x)[j]?=_
    rw [Array.getElem?_setIfInBounds_ne hne]
    exact h.val j v hj'
set_option maxRecDepth 100000 in
theorem ZkQ {s:ByteArray} {K:YV ZjP→HP} {w:World} (hk:prd s K w.heap):Calls Tryz.prog 25 #[.string s] w (ZbN ZjP w K fun _ _=>False):=by
  refine calls_of_wp_defers Tryz.func25 ZpI ?_
  show (Code.seq pA (.seq pB (.seq pD pR))).wp Tryz.prog _ { tmps:= #[.string s]++Array.replicate 31 undef,defers:=[]} w
  obtain ⟨q1,q2,q3,q4,q5,q6⟩:=nR
  have stop:∀ {a:Act} {w1:World} {e:Env},Agr 32 e a→Fw.Same w w1→a.defers=[]→Zpk K e w1.heap→Leaves Tryz.prog Tryz.f25 a.tmps (ZbN ZjP w K fun _ _=>False) a.defers .returning w1:=fun {a w1 e} g1 g2 g3 g4=>by
    rw [g3]
    obtain ⟨v,hv,r,rfl,hr⟩:=ZkK g1.val g4
    exact ⟨_,hv,.inl ⟨r,rfl,g2,hr⟩⟩
  unfold prd at hk
  have hA:=Y6 pA (ZpK fun _ _=>False) (ZkP _) Zr .leaf _ _ w _ Zvf hk
  refine wp_seq ((wpIn_wide (n:=0)).1 (wpIn_mono hA ?_))
  intro ex a1 w1 hp
  cases ex with
  | goto t=>exact hp.elim
  | outgrown=>exact hp.elim
  | panic ch=>obtain ⟨v,h1,h2,h3,h4⟩:=hp;exact h4.elim
  | exit id=>obtain ⟨e1,g1,g2,g3,g4⟩:=hp;exact g4.elim
  | ret =>
    obtain ⟨e1,g1,g2,g3,g4⟩:=hp
    exact stop g1 g2 (g3.2 (ZbJ q5)) g4
  | normal =>
    obtain ⟨e1,g1,g2,g3,g4⟩:=hp
    have d1:a1.defers=[]:=g3.2 (ZbJ q5)
    have hB:=Y6 pB (ZpK fun _ _=>False) (ZkP _) Zr .leaf _ _ w1 _ g1 g4
    refine wp_seq ((wpIn_wide (n:=0)).1 (wpIn_mono hB ?_))
    intro ex a2 w2 hp
    cases ex with
    | goto t=>exact hp.elim
    | outgrown=>exact hp.elim
    | panic ch=>obtain ⟨v,h1,h2,h3,h4⟩:=hp;exact h4.elim
    | exit id=>obtain ⟨e2,j1,j2,j3,j4⟩:=hp;exact j4.elim
    | ret =>
      obtain ⟨e2,j1,j2,j3,j4⟩:=hp
      exact stop j1 (g2.trans j2) ((j3.2 (ZbJ q6)).trans d1) j4
    | normal =>
      obtain ⟨e2,j1,j2,j3,j4⟩:=hp
      have d2:a2.defers=[]:=(j3.2 (ZbJ q6)).trans d1
      dsimp only at j4
      split at j4
      case h_2=>exact j4.elim
      rename_i b2 b3 b4 h2 h3 h4
      have t2:=j1.val 2 _ h2
      have t3:=j1.val 3 _ h3
      have t4:=j1.val 4 _ h4
      refine wpD t2 t3 t4 d2 j1.size ?_
      have hR:=Y6 pR (ZpK (ZuU b2 b3 b4 (Zpk K (Zr4 b2 b3 b4)))) (ZkP _) Zr .leaf _ _ w2 _ (Zqh (x:= .func (.func 95) #[] #[ptr b2,ptr b3,ptr b4]) j1) j4
      refine (wpIn_wide (n:=0)).1 (wpIn_mono hR ?_)
      intro ex a3 w3 hp
      cases ex with
      | goto t=>exact hp.elim
      | outgrown=>exact hp.elim
      | exit id=>obtain ⟨e3,k1,k2,k3,k4⟩:=hp;exact k4.elim
      | normal =>
        obtain ⟨e3,k1,k2,k3,k4⟩:=hp
        exact Zo0 k1.val (k3.2 (ZbJ q1)) ((g2.trans j2).trans k2) k4
      | ret =>
        obtain ⟨e3,k1,k2,k3,k4⟩:=hp
        exact Zo0 k1.val (k3.2 (ZbJ q1)) ((g2.trans j2).trans k2) k4
      | panic ch =>
        obtain ⟨v,rfl,k2,k3,k4⟩:=hp
        have e2:=(k3.1 2 (ZbJ q2)).trans (show (a2.tmps.setIfInBounds 10 _)[2]?=some (ptr b2) by rw [Array.getElem?_setIfInBounds_ne (by decide)];exact t2)
        have e3:=(k3.1 3 (ZbJ q3)).trans (show (a2.tmps.setIfInBounds 10 _)[3]?=some (ptr b3) by rw [Array.getElem?_setIfInBounds_ne (by decide)];exact t3)
        have e4:=(k3.1 4 (ZbJ q4)).trans (show (a2.tmps.setIfInBounds 10 _)[4]?=some (ptr b4) by rw [Array.getElem?_setIfInBounds_ne (by decide)];exact t4)
        exact ZpM e2 e3 e4 (k3.2 (ZbJ q1)) ((g2.trans j2).trans k2) k4
theorem rdP (s:ByteArray) (K:(Int × ByteArray × Sl × Sl × Unit)→Int→Int→HP) (h:Zc):prd s (fun r h=>K r.1 r.2.1 r.2.2.1 h) h=YL s K h:=by kernel_rfl
def ZjL:Zi:=⟨[.one (.S)],ZjP,fun t K _ h=>YL t.1 (fun r0 r1 r2 h=>K (r0,r1,r2,()) h) h⟩
set_option maxRecDepth 100000 in
theorem ZmE {s:ByteArray} {K:(Int × ByteArray × Sl × Sl × Unit)→Int→Int→HP} {w:World} (hk:YL s K w.heap):Calls Tryz.prog 25 #[.string s] w fun e w'=>∃ r:YV ZjP,e = .returned (ZqI ZjP r)∧Fw.Same w w'∧K r.1 r.2.1 r.2.2.1 w'.heap:=by
  have hk':prd s (fun r h=>K r.1 r.2.1 r.2.2.1 h) w.heap:=(rdP s K w.heap).mpr hk
  refine (ZkQ hk').mono ?_
  rintro e w' (⟨r,he,hs,hr⟩ | ⟨v,he,hs,hr⟩)
  ·exact ⟨r,he,hs,hr⟩
  ·exact hr.elim
theorem Zc4:Zu Tryz.prog 25 ZjL where
  named:=⟨_,Tryz.func25,by kernel_rfl,by kernel_rfl⟩
  calls t K Kp w hk:=(ZmE (K:=fun r0 r1 r2 h=>K (r0,r1,r2,()) h) hk).mono fun e w' h9=>let ⟨r,he,hs,hr⟩:=h9;.inl ⟨r,he,hs,hr⟩
abbrev Zlk (f:Zdk):Zi:=⟨[.one (.P)],[.one (.I .u8)],fun t K _ h=>f t.1 (fun r0 h=>K (r0,()) h) h⟩
abbrev Zyp:Cfg:=Yb Tryz.prog [] 22 [] [] [] Yc
theorem Zwv:Yq (Zyp) Tryz.f172 (.leaf) (Zlk Xv):=fun _ _ _ _=>by kernel_rfl
theorem Znc:Zu Tryz.prog 172 (Zlk Ze):=okF (Zwv) Tryz.func172 Zr (ZO _ .nil .nil .nil .nil (ZN _))
abbrev Zq5 (f:Zjy):Zi:=⟨[.one (.P)],[],fun t K _ h=>f t.1 (fun h=>K (()) h) h⟩
abbrev Zyo (f27:Zdk):Cfg:=Yb Tryz.prog [(172,Zlk f27)] 46 [] [] [] Yc
theorem Zwu (f27:Zdk):Yq (Zyo f27) Tryz.f100 (.block (.loop [] [] [(2,45)] (.cut [] [] [(2,38)] (.leaf) (.leaf)))) (Zq5 (Yx f27)):=fun _ _ _ _=>by kernel_rfl
theorem Zsb:Zu Tryz.prog 100 (Zq5 Zl):=okF (Zwu Ze) Tryz.func100 Zr (ZO _ (.cons Znc .nil) .nil .nil .nil (ZN _))
abbrev Zpf (f:ZfG):Zi:=⟨[.one (.P),.one (.I .i64)],[],fun t K _ h=>f t.1 t.2.1 (fun h=>K (()) h) h⟩
abbrev Zyn:Cfg:=Yb Tryz.prog [] 34 [] [] [] Yc
theorem Zwt:Yq (Zyn) Tryz.f173 (.leaf) (Zpf Xs):=fun _ _ _ _=>by kernel_rfl
theorem Zqt:Zu Tryz.prog 173 (Zpf Zh):=okF (Zwt) Tryz.func173 Zr (ZO _ .nil .nil .nil .nil (ZN _))
abbrev ZrZ (f:Zln):Zi:=⟨[.one (.P),.one (.I .u8)],[],fun t K _ h=>f t.1 t.2.1 (fun h=>K (()) h) h⟩
abbrev Zym (f29:ZfG) (f27:Zdk):Cfg:=Yb Tryz.prog [(173,Zpf f29),(172,Zlk f27)] 34 [] [] [] Yc
theorem Zws (f29:ZfG) (f27:Zdk):Yq (Zym f29 f27) Tryz.f244 (.leaf) (ZrZ (YH f29 f27)):=fun _ _ _ _=>by kernel_rfl
theorem ZtK:Zu Tryz.prog 244 (ZrZ Zs):=okF (Zws Zh Ze) Tryz.func244 Zr (ZO _ (.cons Zqt (.cons Znc .nil)) .nil .nil .nil (ZN _))
abbrev ZrY (f:Zlm):Zi:=⟨[.one (.I .u8)],[.one (.B)],fun t K _ h=>f t.1 (fun r0 h=>K (r0,()) h) h⟩
abbrev Zyl:Cfg:=Yb Tryz.prog [] 9 [] [] [] Yc
theorem Zwr:Yq (Zyl) Tryz.f175 (.leaf) (ZrY Zal):=fun _ _ _ _=>by kernel_rfl
theorem ZtJ:Zu Tryz.prog 175 (ZrY ZH):=okF (Zwr) Tryz.func175 Zr (ZO _ .nil .nil .nil .nil (ZN _))
abbrev ZtP (f:Zqy):Zi:=⟨[.one (.P)],[.one (.I .i64)],fun t K _ h=>f t.1 (fun r0 h=>K (r0,()) h) h⟩
abbrev Zyk (f27:Zdk) (f31:Zlm) (f29:ZfG):Cfg:=Yb Tryz.prog [(172,Zlk f27),(175,ZrY f31),(173,Zpf f29)] 102 [] [] [] Yc
theorem Zwq (f27:Zdk) (f31:Zlm) (f29:ZfG):Yq (Zyk f27 f31 f29) Tryz.f300 (.seq (.leaf) (.seq (.leaf) (.seq (.seq (.leaf) (.block (.loop [3,4] [.one (.I .i64),.one (.I .i64)] [(2,2),(5,100)] (.seq (.leaf) (.seq (.block (.seq (.leaf) (.cut [3] [.one (.I .i64)] [(2,2),(19,93)] (.block (.cut [21] [.one (.B)] [(22,35)] (.leaf) (.cond (.leaf) (.cut [42] [.one (.B)] [(43,60)] (.leaf) (.leaf))))) (.leaf)))) (.leaf)))))) (.leaf)))) (ZtP (Xw f27 f31 f29)):=fun _ _ _ _=>by kernel_rfl
theorem Zvw:Zu Tryz.prog 300 (ZtP ZU):=okF (Zwq Ze ZH Zh) Tryz.func300 Zr (ZO _ (.cons Znc (.cons ZtJ (.cons Zqt .nil))) .nil .nil .nil (ZN _))
abbrev Zuy (f:ZsJ):Zi:=⟨[.one (.P)],[.one (.I .i64)],fun t K _ h=>f t.1 (fun r0 h=>K (r0,()) h) h⟩
abbrev Zyj (f32:Zqy):Cfg:=Yb Tryz.prog [(300,ZtP f32)] 74 [] [] [] Yc
theorem Zwp (f32:Zqy):Yq (Zyj f32) Tryz.f301 (.seq (.leaf) (.seq (.leaf) (.seq (.order (.take 0 (.take 1 (.take 2 (.take 4 (.take 5 (.take 6 (.take 10 (.take 11 (.take 12 (.take 3 (.take 7 (.take 8 (.take 9 (.take 13 (.take 14 (.take 15 (.take 16 (.take 17 .done))))))))))))))))))) (.leaf)))) (Zuy (YN f32)):=fun _ _ _ _=>by kernel_rfl
theorem Zxs:Zu Tryz.prog 301 (Zuy Z0):=okF (Zwp ZU) Tryz.func301 Zr (ZO _ (.cons Zvw .nil) .nil .nil .nil (ZN _))
abbrev Zux (f:ZsI):Zi:=⟨[.one (.I .i64)],[.one (.S)],fun t K _ h=>f t.1 (fun r0 h=>K (r0,()) h) h⟩
abbrev Zyi:Cfg:=Yb Tryz.prog [] 61 [] [] [] Yc
theorem Zwo:Yq (Zyi) Tryz.f302 (.leaf) (Zux ZaW):=fun _ _ _ _=>by kernel_rfl
theorem Zxr:Zu Tryz.prog 302 (Zux YT):=okF (Zwo) Tryz.func302 Zr (ZO _ .nil .nil .nil .nil (ZN _))
abbrev Zuw (f:ZsH):Zi:=⟨[.one (.P)],[.one (.S)],fun t K _ h=>f t.1 (fun r0 h=>K (r0,()) h) h⟩
abbrev Zyh (f27:Zdk) (f29:ZfG) (f32:Zqy) (f33:ZsJ) (f34:ZsI):Cfg:=Yb Tryz.prog [(172,Zlk f27),(173,Zpf f29),(300,ZtP f32),(301,Zuy f33),(302,Zux f34)] 94 [] [] [] Yc
theorem Zwn (f27:Zdk) (f29:ZfG) (f32:Zqy) (f33:ZsJ) (f34:ZsI):Yq (Zyh f27 f29 f32 f33 f34) Tryz.f245 (.seq (.leaf) (.seq (.leaf) (.seq (.leaf) (.seq (.leaf) (.cut [4] [.one (.S)] [(2,2),(5,6),(21,85)] (.seq (.leaf) (.block (.cut [24] [.one (.B)] [(25,27)] (.leaf) (.cond (.leaf) (.seq (.leaf) (.cond (.leaf) (.seq (.leaf) (.cond (.leaf) (.seq (.leaf) (.cond (.leaf) (.seq (.leaf) (.cond (.leaf) (.seq (.leaf) (.cond (.leaf) (.seq (.leaf) (.cond (.seq (.leaf) (.seq (.leaf) (.cut [] [] [(2,2),(6,6),(52,76)] (.leaf) (.cut [] [] [(2,2),(77,83)] (.leaf) (.leaf))))) (.leaf))))))))))))))))) (.leaf)))))) (Zuw (Y3 f27 f29 f32 f33 f34)):=fun _ _ _ _=>by kernel_rfl
theorem Zxq:Zu Tryz.prog 245 (Zuw Z9):=okF (Zwn Ze Zh ZU Z0 YT) Tryz.func245 Zr (ZO _ (.cons Znc (.cons Zqt (.cons Zvw (.cons Zxs (.cons Zxr .nil))))) .nil .nil .nil (ZN _))
abbrev Zuv (f:ZsG):Zi:=⟨[.one (.I .u8)],[.one (.I .i64),.one (.I .u8),.one (.I .u8)],fun t K _ h=>f t.1 (fun r0 r1 r2 h=>K (r0,r1,r2,()) h) h⟩
abbrev Zyg:Cfg:=Yb Tryz.prog [] 41 [] [] [] Yc
theorem Zwm:Yq (Zyg) Tryz.f273 (.seq (.leaf) (.seq (.block (.seq (.leaf) (.cond (.leaf) (.cut [8] [.one (.B)] [(9,14)] (.leaf) (.leaf))))) (.leaf))) (Zuv X9):=fun _ _ _ _=>by kernel_rfl
theorem Zxp:Zu Tryz.prog 273 (Zuv YR):=okF (Zwm) Tryz.func273 Zr (ZO _ .nil .nil .nil .nil (ZN _))
abbrev Zuu (f:ZsF):Zi:=⟨[.one (.P)],[],fun t K _ h=>f t.1 (fun h=>K (()) h) h⟩
abbrev Zyf (f27:Zdk) (f36:ZsG) (f29:ZfG):Cfg:=Yb Tryz.prog [(172,Zlk f27),(273,Zuv f36),(173,Zpf f29)] 65 [] [] [] Yc
theorem Zwl (f27:Zdk) (f36:ZsG) (f29:ZfG):Yq (Zyf f27 f36 f29) Tryz.f246 (.seq (.leaf) (.seq (.leaf) (.seq (.leaf) (.seq (.leaf) (.block (.loop [3,4,5] [.one (.I .u8),.one (.I .u8),.one (.I .i64)] [(29,64)] (.leaf))))))) (Zuu (YO f27 f36 f29)):=fun _ _ _ _=>by kernel_rfl
theorem Zxo:Zu Tryz.prog 246 (Zuu Z1):=okF (Zwl Ze YR Zh) Tryz.func246 Zr (ZO _ (.cons Znc (.cons Zxp (.cons Zqt .nil))) .nil .nil .nil (ZN _))
abbrev ZtO (f:Zqx):Zi:=⟨[.one (.P)],[.one (.S)],fun t K _ h=>f t.1 (fun r0 h=>K (r0,()) h) h⟩
abbrev Zye (f30:Zln) (f29:ZfG) (f27:Zdk) (f35:ZsH) (f37:ZsF):Cfg:=Yb Tryz.prog [(244,ZrZ f30),(173,Zpf f29),(172,Zlk f27),(245,Zuw f35),(246,Zuu f37)] 68 [] [] [] Yc
theorem Zwk (f30:Zln) (f29:ZfG) (f27:Zdk) (f35:ZsH) (f37:ZsF):Yq (Zye f30 f29 f27 f35 f37) Tryz.f174 (.seq (.leaf) (.seq (.leaf) (.seq (.leaf) (.seq (.block (.loop [3] [.one (.S)] [(2,2),(4,5),(8,67)] (.leaf))) (.leaf))))) (ZtO (Xq f30 f29 f27 f35 f37)):=fun _ _ _ _=>by kernel_rfl
theorem Zvv:Zu Tryz.prog 174 (ZtO ZR):=okF (Zwk Zs Zh Ze Z9 Z1) Tryz.func174 Zr (ZO _ (.cons ZtK (.cons Zqt (.cons Znc (.cons Zxq (.cons Zxo .nil))))) .nil .nil .nil (ZN _))
abbrev Zut (f:ZsE):Zi:=⟨[.one (.P)],[],fun t K _ h=>f t.1 (fun h=>K (()) h) h⟩
abbrev Zyd (f29:ZfG) (f27:Zdk) (f31:Zlm):Cfg:=Yb Tryz.prog [(173,Zpf f29),(172,Zlk f27),(175,ZrY f31)] 47 [] [] [] Yc
theorem Zwj (f29:ZfG) (f27:Zdk) (f31:Zlm):Yq (Zyd f29 f27 f31) Tryz.f247 (.seq (.leaf) (.seq (.leaf) (.block (.loop [] [] [(25,46)] (.leaf))))) (Zut (Y4 f29 f27 f31)):=fun _ _ _ _=>by kernel_rfl
theorem Zxn:Zu Tryz.prog 247 (Zut ZV):=okF (Zwj Zh Ze ZH) Tryz.func247 Zr (ZO _ (.cons Zqt (.cons Znc (.cons ZtJ .nil))) .nil .nil .nil (ZN _))
abbrev Zus (f:ZsD):Zi:=⟨[.one (.P)],[.one (.S)],fun t K _ h=>f t.1 (fun r0 h=>K (r0,()) h) h⟩
abbrev Zyc (f27:Zdk) (f31:Zlm) (f29:ZfG) (f39:ZsE):Cfg:=Yb Tryz.prog [(172,Zlk f27),(175,ZrY f31),(173,Zpf f29),(247,Zut f39)] 165 [] [] [] Yc
theorem Zwi (f27:Zdk) (f31:Zlm) (f29:ZfG) (f39:ZsE):Yq (Zyc f27 f31 f29 f39) Tryz.f176 (.seq (.leaf) (.seq (.leaf) (.cut [] [] [(9,18)] (.leaf) (.cut [4] [.one (.B)] [(19,33)] (.leaf) (.cut [] [] [(34,60)] (.leaf) (.cut [] [] [(61,91)] (.leaf) (.cut [] [] [(92,154)] (.cut [118] [.one (.B)] [(92,117)] (.leaf) (.leaf)) (.leaf)))))))) (Zus (Y2 f27 f31 f29 f39)):=fun _ _ _ _=>by kernel_rfl
theorem Zxm:Zu Tryz.prog 176 (Zus Z8):=okF (Zwi Ze ZH Zh ZV) Tryz.func176 Zr (ZO _ (.cons Znc (.cons ZtJ (.cons Zqt (.cons Zxn .nil)))) .nil .nil .nil (ZN _))
abbrev Zur (f:ZsC):Zi:=⟨[.one (.P),.one (.S)],[],fun t K _ h=>f t.1 t.2.1 (fun h=>K (()) h) h⟩
abbrev Zyb (f30:Zln):Cfg:=Yb Tryz.prog [(244,ZrZ f30)] 16 [] [] [] Yc
theorem Zwh (f30:Zln):Yq (Zyb f30) Tryz.f177 (.seq (.leaf) (.block (.loop [4] [.one (.I .i64)] [(5,15)] (.leaf)))) (Zur (Xp f30)):=fun _ _ _ _=>by kernel_rfl
theorem Zxl:Zu Tryz.prog 177 (Zur Z4):=okF (Zwh Zs) Tryz.func177 Zr (ZO _ (.cons ZtK .nil) .nil .nil .nil (ZN _))
abbrev Zpe (f:ZfY):Zi:=⟨[.one (.P),.one (.I .i64)],[.agg [.I .u8,.S,.L,.L]],fun t K _ h=>f t.1 t.2.1 (fun r0 h=>K (r0,()) h) h⟩
abbrev ZtN (f:Zqw):Zi:=⟨[.one (.P),.one (.I .u8)],[.one (.B)],fun t K _ h=>f t.1 t.2.1 (fun r0 h=>K (r0,()) h) h⟩
abbrev Zx9 (f28:Zjy) (f27:Zdk) (f30:Zln):Cfg:=Yb Tryz.prog [(100,Zq5 f28),(172,Zlk f27),(244,ZrZ f30)] 39 [] [] [] Yc
theorem Zwf (f28:Zjy) (f27:Zdk) (f30:Zln):Yq (Zx9 f28 f27 f30) Tryz.f248 (.seq (.leaf) (.seq (.leaf) (.cut [] [] [(4,4),(7,35)] (.leaf) (.leaf)))) (ZtN (Xr f28 f27 f30)):=fun _ _ _ _=>by kernel_rfl
theorem Zvu:Zu Tryz.prog 248 (ZtN ZP):=okF (Zwf Zl Ze Zs) Tryz.func248 Zr (ZO _ (.cons Zsb (.cons Znc (.cons ZtK .nil))) .nil .nil .nil (ZN _))
abbrev Zuq (f:ZsB):Zi:=⟨[.one (.P),.one (.I .i64)],[.agg [.I .u8,.S,.L,.L]],fun t K _ h=>f t.1 t.2.1 (fun r0 h=>K (r0,()) h) h⟩
abbrev Zx8 (f28:Zjy) (f27:Zdk) (f42:ZfY) (f43:Zqw):Cfg:=Yb Tryz.prog [(100,Zq5 f28),(172,Zlk f27),(99,Zpe f42),(248,ZtN f43)] 56 [] [] [] Yc
theorem Zwe (f28:Zjy) (f27:Zdk) (f42:ZfY) (f43:Zqw):Yq (Zx8 f28 f27 f42 f43) Tryz.f178 (.seq (.leaf) (.seq (.leaf) (.seq (.leaf) (.cut [] [] [(9,38)] (.leaf) (.seq (.block (.loop [] [] [(39,54)] (.seq (.leaf) (.block (.seq (.order (.take 0 (.take 2 (.take 3 (.take 1 (.take 4 (.take 5 (.take 6 (.take 7 (.take 8 .done)))))))))) (.leaf)))))) (.leaf)))))) (Zuq (Xh f28 f27 f42 f43)):=fun _ _ _ _=>by kernel_rfl
theorem ZwS (f42:ZfY) (hH:Zu Tryz.prog 99 (Zpe f42)):Zu Tryz.prog 178 (Zuq (Ye f42)):=okF (Zwe Zl Ze f42 ZP) Tryz.func178 Zr (ZO _ (.cons Zsb (.cons Znc (.cons hH (.cons Zvu .nil)))) .nil .nil .nil (ZN _)) (hlen:=Nat.le_of_ble_eq_true rfl)
abbrev Zup (f:ZsA):Zi:=⟨[.one (.P),.one (.I .i64)],[.agg [.I .u8,.S,.L,.L]],fun t K _ h=>f t.1 t.2.1 (fun r0 h=>K (r0,()) h) h⟩
abbrev Zx7 (f28:Zjy) (f27:Zdk) (f38:Zqx) (f30:Zln) (f42:ZfY) (f43:Zqw):Cfg:=Yb Tryz.prog [(100,Zq5 f28),(172,Zlk f27),(174,ZtO f38),(244,ZrZ f30),(99,Zpe f42),(248,ZtN f43)] 69 [] [] [] Yc
theorem Zwd (f28:Zjy) (f27:Zdk) (f38:Zqx) (f30:Zln) (f42:ZfY) (f43:Zqw):Yq (Zx7 f28 f27 f38 f30 f42 f43) Tryz.f179 (.seq (.leaf) (.seq (.leaf) (.seq (.leaf) (.cut [] [] [(9,38)] (.leaf) (.seq (.block (.loop [] [] [(39,67)] (.seq (.leaf) (.block (.seq (.leaf) (.seq (.order (.take 0 (.take 2 (.take 1 (.take 3 (.take 4 (.take 5 (.take 6 (.take 7 .done))))))))) (.seq (.leaf) (.seq (.leaf) (.seq (.order (.take 0 (.take 2 (.take 3 (.take 1 (.take 4 (.take 5 (.take 6 (.take 7 (.take 8 .done)))))))))) (.leaf)))))))))) (.leaf)))))) (Zup (Y1 f28 f27 f38 f30 f42 f43)):=fun _ _ _ _=>by kernel_rfl
theorem ZwR (f42:ZfY) (hH:Zu Tryz.prog 99 (Zpe f42)):Zu Tryz.prog 179 (Zup (Z7 f42)):=okF (Zwd Zl Ze ZR Zs f42 ZP) Tryz.func179 Zr (ZO _ (.cons Zsb (.cons Znc (.cons Zvv (.cons ZtK (.cons hH (.cons Zvu .nil)))))) .nil .nil .nil (ZN _)) (hlen:=Nat.le_of_ble_eq_true rfl)
abbrev Zya (f28:Zjy) (f27:Zdk) (f29:ZfG) (f38:Zqx) (f31:Zlm) (f40:ZsD) (f41:ZsC) (f44:ZsB) (f45:ZsA):Cfg:=Yb Tryz.prog [(100,Zq5 f28),(172,Zlk f27),(173,Zpf f29),(174,ZtO f38),(175,ZrY f31),(176,Zus f40),(177,Zur f41),(178,Zuq f44),(179,Zup f45)] 95 [] [] [] Yc
theorem Zwg (f28:Zjy) (f27:Zdk) (f29:ZfG) (f38:Zqx) (f31:Zlm) (f40:ZsD) (f41:ZsC) (f44:ZsB) (f45:ZsA):Yq (Zya f28 f27 f29 f38 f31 f40 f41 f44 f45) Tryz.f99 (.seq (.leaf) (.seq (.leaf) (.seq (.leaf) (.seq (.seq (.leaf) (.block (.seq (.leaf) (.cond (.leaf) (.seq (.leaf) (.cond (.leaf) (.cut [37] [.one (.B)] [(38,43)] (.leaf) (.cond (.leaf) (.seq (.leaf) (.cond (.leaf) (.seq (.leaf) (.cond (.leaf) (.seq (.leaf) (.cond (.leaf) (.cut [65] [.one (.B)] [(66,71)] (.leaf) (.leaf)))))))))))))))) (.leaf))))) (Zpe (Xg f28 f27 f29 f38 f31 f40 f41 f44 f45)):=fun _ _ _ _=>by kernel_rfl
theorem ZwT (f42:ZfY) (hH:Zu Tryz.prog 99 (Zpe f42)):Zu Tryz.prog 99 (Zpe (YB f42)):=okF (Zwg Zl Ze Zh ZR ZH Z8 Z4 (Ye f42) (Z7 f42)) Tryz.func99 Zr (ZO _ (.cons Zsb (.cons Znc (.cons Zqt (.cons Zvv (.cons ZtJ (.cons Zxm (.cons Zxl (.cons (ZwS f42 hH) (.cons (ZwR f42 hH) .nil))))))))) .nil .nil .nil (ZN _)) (hlen:=Nat.le_of_ble_eq_true rfl)
theorem Zvp:∀ n,Zu Tryz.prog 99 (Zpe (ZS n))
 | 0=>Zfv Tryz.func99 (by kernel_rfl) (by kernel_rfl) fun _ _ _ _ h=>h
 | n+1=>ZwT _ (Zvp n)
theorem Zxk:Zu Tryz.prog 99 (Zpe Xe):=ZmH Zvp
abbrev Zuo (f:Zsz):Zi:=⟨[.one (.S)],[.agg [.I .u8,.S,.L,.L],.one (.I .i64),.one (.I .i64)],fun t K _ h=>f t.1 (fun r0 r1 r2 h=>K (r0,r1,r2,()) h) h⟩
abbrev Zx6 (f42:ZfY) (f28:Zjy):Cfg:=Yb Tryz.prog [(99,Zpe f42),(100,Zq5 f28)] 53 [] [] [] Yc
theorem Zwc (f42:ZfY) (f28:Zjy):Yq (Zx6 f42 f28) Tryz.f26 (.seq (.leaf) (.seq (.leaf) (.seq (.leaf) (.seq (.leaf) (.seq (.leaf) (.cut [] [] [(18,37)] (.leaf) (.seq (.seq (.leaf) (.cond (.seq (.order (.take 0 (.take 1 (.take 2 (.take 3 (.take 5 (.take 6 (.take 7 (.take 4 (.take 8 (.take 9 (.take 10 (.take 11 .done))))))))))))) (.leaf)) (.leaf))) (.leaf)))))))) (Zuo (Zam f42 f28)):=fun _ _ _ _=>by kernel_rfl
theorem Zxj:Zu Tryz.prog 26 (Zuo Yp):=okF (Zwc Xe Zl) Tryz.func26 Zr (ZO _ (.cons Zxk (.cons Zsb .nil)) .nil .nil .nil (ZN _))
abbrev Zun (f:Zsy):Zi:=⟨[.one (.S)],[.one (.B)],fun t K _ h=>f t.1 (fun r0 h=>K (r0,()) h) h⟩
abbrev Zx5 (f26:Zph):Cfg:=Yb Tryz.prog [(25,⟨[.one (.S)],[.agg [.I .u8,.S,.L,.L],.one (.I .i64),.one (.I .i64)],fun t K _ h=>f26 t.1 (fun r0 r1 r2 h=>K (r0,r1,r2,()) h) h⟩)] 25 [] [] [] Yc
theorem Zwb (f26:Zph):Yq (Zx5 f26) Tryz.f162 (.leaf) (Zun (Zcn f26)):=fun _ _ _ _=>by kernel_rfl
theorem Zxi:Zu Tryz.prog 162 (Zun Zah):=okF (Zwb YL) Tryz.func162 Zr (ZO _ (.cons Zc4 .nil) .nil .nil .nil (ZN _))
abbrev Zum (f:Zsx):Zi:=⟨[.one (.S)],[.one (.B)],fun t K _ h=>f t.1 (fun r0 h=>K (r0,()) h) h⟩
abbrev Zx4 (f15:Zne):Cfg:=Yb Tryz.prog [(163,⟨[.one (.S)],[.one (.B)],fun t K _ h=>f15 t.1 (fun r0 h=>K (r0,()) h) h⟩)] 6 [] [] [] Yc
theorem Zwa (f15:Zne):Yq (Zx4 f15) Tryz.f165 (.leaf) (Zum (ZcI f15)):=fun _ _ _ _=>by kernel_rfl
theorem Zxh:Zu Tryz.prog 165 (Zum ZbK):=okF (Zwa ZE) Tryz.func165 Zr (ZO _ (.cons YC .nil) .nil .nil .nil (ZN _))
abbrev Zul (f:Zsw):Zi:=⟨[.one (.L),.fn 165],[.one (.I .i64)],fun t K _ h=>f t.1 (fun r0 h=>K (r0,()) h) h⟩
abbrev Zx3 (f48:Zsx):Cfg:=Yb Tryz.prog [(165,Zum f48)] 19 [] [] [] Yc
theorem Zv9 (f48:Zsx):Yq (Zx3 f48) Tryz.f238 (.seq (.leaf) (.seq (.seq (.leaf) (.block (.loop [8] [.one (.I .i64)] [(4,5),(9,18)] (.leaf)))) (.leaf))) (Zul (ZY f48)):=fun _ _ _ _=>by kernel_rfl
theorem Zxg:Zu Tryz.prog 238 (Zul ZL):=okF (Zv9 ZbK) Tryz.func238 Zr (ZO _ (.cons Zxh .nil) .nil .nil .nil (ZN _))
abbrev Zuk (f:Zsv):Zi:=⟨[.one (.L),.fn 165],[.one (.B)],fun t K _ h=>f t.1 (fun r0 h=>K (r0,()) h) h⟩
abbrev Zx2 (f49:Zsw):Cfg:=Yb Tryz.prog [(238,Zul f49)] 9 [] [] [] Yc
theorem Zv8 (f49:Zsw):Yq (Zx2 f49) Tryz.f164 (.leaf) (Zuk (ZT f49)):=fun _ _ _ _=>by kernel_rfl
theorem Zxf:Zu Tryz.prog 164 (Zuk ZB):=okF (Zv8 ZL) Tryz.func164 Zr (ZO _ (.cons Zxg .nil) .nil .nil .nil (ZN _))
abbrev Zuj (f:Zsu):Zi:=⟨[.agg [.I .u8,.S,.L,.L]],[.one (.B)],fun t K _ h=>f t.1 (fun r0 h=>K (r0,()) h) h⟩
abbrev Zx1 (f47:Zsy) (f15:Zne) (f50:Zsv):Cfg:=Yb Tryz.prog [(162,Zun f47),(163,⟨[.one (.S)],[.one (.B)],fun t K _ h=>f15 t.1 (fun r0 h=>K (r0,()) h) h⟩),(164,Zuk f50)] 86 [] [] [] Yc
theorem Zv7 (f47:Zsy) (f15:Zne) (f50:Zsv):Yq (Zx1 f47 f15 f50) Tryz.f94 (.seq (.leaf) (.seq (.leaf) (.seq (.seq (.leaf) (.block (.cut [19] [.one (.B)] [(20,22)] (.leaf) (.leaf)))) (.leaf)))) (Zuj (ZdO f47 f15 f50)):=fun _ _ _ _=>by kernel_rfl
theorem Zxe:Zu Tryz.prog 94 (Zuj ZbQ):=okF (Zv7 Zah ZE ZB) Tryz.func94 Zr (ZO _ (.cons Zxi (.cons YC (.cons Zxf .nil))) .nil .nil .nil (ZN _))
abbrev Zui (f:Zst):Zi:=⟨[.agg [.I .u8,.S,.L,.L]],[.one (.B)],fun t K _ h=>f t.1 (fun r0 h=>K (r0,()) h) h⟩
abbrev Zx0:Cfg:=Yb Tryz.prog [] 3 [] [] [] Yc
theorem Zv6:Yq (Zx0) Tryz.f119 (.leaf) (Zui ZcJ):=fun _ _ _ _=>by kernel_rfl
theorem Zxd:Zu Tryz.prog 119 (Zui ZbL):=okF (Zv6) Tryz.func119 Zr (ZO _ .nil .nil .nil .nil (ZN _))
abbrev Znj (f:Zga):Zi:=⟨[.one (.P),.agg [.I .u8,.S,.L,.L],.one (.I .i64),.one (.V)],[.one (.B)],fun t K _ h=>f t.1 t.2.1 t.2.2.1 t.2.2.2.1 (fun r0 h=>K (r0,()) h) h⟩
abbrev Zuh (f:Zss):Zi:=⟨[.agg [.I .u8,.S,.L,.L],.one (.P),.one (.P),.one (.P)],[.one (.B)],fun t K _ h=>f t.1 t.2.1 t.2.2.1 t.2.2.2.1 (fun r0 h=>K (r0,()) h) h⟩
abbrev ZxY (f53:Zga):Cfg:=Yb Tryz.prog [(93,Znj f53)] 13 [] [] [] Yc
theorem Zv4 (f53:Zga):Yq (ZxY f53) Tryz.f161 (.leaf) (Zuh (Za0 f53)):=fun _ _ _ _=>by kernel_rfl
theorem ZwP (f53:Zga) (hH:Zu Tryz.prog 93 (Znj f53)):Zu Tryz.prog 161 (Zuh (XY f53)):=okF (Zv4 f53) Tryz.func161 Zr (ZO _ (.cons hH .nil) .nil .nil .nil (ZN _)) (hlen:=Nat.le_of_ble_eq_true rfl)
abbrev Zug (f:Zsr):Zi:=⟨[.one (.L),.clo 161 [.P,.P,.P]],[.one (.I .i64)],fun t K _ h=>f t.1 t.2.1 (fun r0 h=>K (r0,()) h) h⟩
abbrev ZxX (f54:Zss):Cfg:=Yb Tryz.prog [(161,Zuh f54)] 19 [] [] [] Yc
theorem Zv3 (f54:Zss):Yq (ZxX f54) Tryz.f236 (.seq (.leaf) (.seq (.seq (.leaf) (.block (.loop [8] [.one (.I .i64)] [(4,5),(9,18)] (.leaf)))) (.leaf))) (Zug (ZM f54)):=fun _ _ _ _=>by kernel_rfl
theorem ZwO (f53:Zga) (hH:Zu Tryz.prog 93 (Znj f53)):Zu Tryz.prog 236 (Zug (ZC f53)):=okF (Zv3 (XY f53)) Tryz.func236 Zr (ZO _ (.cons (ZwP f53 hH) .nil) .nil .nil .nil (ZN _)) (hlen:=Nat.le_of_ble_eq_true rfl)
abbrev Zuf (f:Zsq):Zi:=⟨[.one (.L),.clo 161 [.P,.P,.P]],[.one (.B)],fun t K _ h=>f t.1 t.2.1 (fun r0 h=>K (r0,()) h) h⟩
abbrev ZxW (f55:Zsr):Cfg:=Yb Tryz.prog [(236,Zug f55)] 9 [] [] [] Yc
theorem Zv2 (f55:Zsr):Yq (ZxW f55) Tryz.f160 (.leaf) (Zuf (ZI f55)):=fun _ _ _ _=>by kernel_rfl
theorem ZwN (f53:Zga) (hH:Zu Tryz.prog 93 (Znj f53)):Zu Tryz.prog 160 (Zuf (Zv f53)):=okF (Zv2 (ZC f53)) Tryz.func160 Zr (ZO _ (.cons (ZwO f53 hH) .nil) .nil .nil .nil (ZN _)) (hlen:=Nat.le_of_ble_eq_true rfl)
abbrev ZxZ (f51:Zsu) (f52:Zst) (f56:Zsq):Cfg:=Yb Tryz.prog [(94,Zuj f51),(119,Zui f52),(160,Zuf f56)] 52 [] [] [] Yc [(94,[]),(119,[])]
theorem Zv5 (f51:Zsu) (f52:Zst) (f56:Zsq):Yq (ZxZ f51 f52 f56) Tryz.f93 (.seq (.leaf) (.seq (.leaf) (.seq (.leaf) (.cut [] [] [(8,8),(27,34)] (.leaf) (.seq (.order (.take 0 (.take 1 (.take 2 (.take 3 (.take 4 (.take 5 (.take 6 (.take 7 (.take 8 (.take 9 (.take 10 .done)))))))))))) (.leaf)))))) (Znj (ZbD f51 f52 f56)):=fun _ _ _ _=>by kernel_rfl
theorem ZwQ (f53:Zga) (hH:Zu Tryz.prog 93 (Znj f53)):Zu Tryz.prog 93 (Znj (Zau f53)):=okF (Zv5 ZbQ ZbL (Zv f53)) Tryz.func93 Zr (ZO _ (.cons Zxe (.cons Zxd (.cons (ZwN f53 hH) .nil))) .nil .nil .nil (ZN _)) (hlen:=Nat.le_of_ble_eq_true rfl)
theorem Zvo:∀ n,Zu Tryz.prog 93 (Znj (YU n))
 | 0=>Zfv Tryz.func93 (by kernel_rfl) (by kernel_rfl) fun _ _ _ _ h=>h
 | n+1=>ZwQ _ (Zvo n)
theorem Zvt:Zu Tryz.prog 93 (Znj XR):=ZmH Zvo
abbrev ZtM (f:Zqv):Zi:=⟨[.agg [.I .u8,.S,.L,.L]],[.one (.B)],fun t K _ h=>f t.1 (fun r0 h=>K (r0,()) h) h⟩
abbrev ZxV (f53:Zga):Cfg:=Yb Tryz.prog [(93,Znj f53)] 16 [] [] [] Yc
theorem Zv1 (f53:Zga):Yq (ZxV f53) Tryz.f22 (.leaf) (ZtM (ZdR f53)):=fun _ _ _ _=>by kernel_rfl
theorem Zvs:Zu Tryz.prog 22 (ZtM Zaj):=okF (Zv1 XR) Tryz.func22 Zr (ZO _ (.cons Zvt .nil) .nil .nil .nil (ZN _))
abbrev ZtL (f:Zqu):Zi:=⟨[.one (.P)],[.one (.I .i64)],fun t K _ h=>f t.1 (fun r0 h=>K (r0,()) h) h⟩
abbrev ZxU:Cfg:=Yb Tryz.prog [] 8 [] [] [] Yc
theorem Zv0:Yq (ZxU) Tryz.f114 (.leaf) (ZtL Zak):=fun _ _ _ _=>by kernel_rfl
theorem Zvr:Zu Tryz.prog 114 (ZtL Yo):=okF (Zv0) Tryz.func114 Zr (ZO _ .nil .nil .nil .nil (ZN _))
abbrev Zue (f:Zsp):Zi:=⟨[.one (.P),.one (.S)],[],fun t K _ h=>f t.1 t.2.1 (fun h=>K (()) h) h⟩
abbrev ZxT (f6:zT6) (f0:zT0) (f17:Znk):Cfg:=Yb Tryz.prog [(184,zk6 f6),(171,⟨[.one (.S),.one (.I .u8)],[.one (.I .i64)],fun t K _ h=>f0 t.1 t.2.1 (fun r0 h=>K (r0,()) h) h⟩),(183,Zsc f17)] 81 [] [] [] Yc
theorem ZvZ (f6:zT6) (f0:zT0) (f17:Znk):Yq (ZxT f6 f0 f17) Tryz.f201 (.seq (.leaf) (.seq (.seq (.leaf) (.block (.loop [13] [.one (.I .i64)] [(4,6),(14,76)] (.seq (.leaf) (.seq (.leaf) (.seq (.block (.seq (.leaf) (.seq (.leaf) (.seq (.leaf) (.block (.cut [26] [.one (.B)] [(27,32)] (.leaf) (.cond (.leaf) (.seq (.leaf) (.cond (.seq (.leaf) (.order (.take 0 (.take 1 (.take 2 (.take 3 (.take 4 (.take 5 .done)))))))) (.seq (.leaf) (.cond (.seq (.leaf) (.seq (.order (.take 0 (.take 1 (.take 2 (.take 3 (.take 4 (.take 5 (.take 6 .done)))))))) (.order (.take 0 (.take 1 (.take 2 (.take 3 (.take 4 (.take 5 (.take 6 .done)))))))))) (.leaf)))))))))))) (.leaf))))))) (.leaf))) (Zue (Zbm f6 f0 f17)):=fun _ _ _ _=>by kernel_rfl
theorem Zxc:Zu Tryz.prog 201 (Zue Xz):=okF (ZvZ Zy Ym Zx) Tryz.func201 Zr (ZO _ (.cons zo6 (.cons ZaA (.cons Zt1 .nil))) .nil .nil .nil (ZN _))
abbrev Zq4 (f:Zll):Zi:=⟨[.one (.P),.agg [.I .u8,.S,.L,.L]],[],fun t K _ h=>f t.1 t.2.1 (fun h=>K (()) h) h⟩
abbrev ZxS (f58:Zqu) (f17:Znk) (f59:Zsp) (f6:zT6) (f60:Zll):Cfg:=Yb Tryz.prog [(114,ZtL f58),(183,Zsc f17),(201,Zue f59),(184,zk6 f6),(113,Zq4 f60)] 93 [] [] [] Yc
theorem ZvY (f58:Zqu) (f17:Znk) (f59:Zsp) (f6:zT6) (f60:Zll):Yq (ZxS f58 f17 f59 f6 f60) Tryz.f113 (.seq (.leaf) (.seq (.leaf) (.seq (.leaf) (.block (.seq (.leaf) (.cond (.leaf) (.seq (.leaf) (.cond (.leaf) (.seq (.leaf) (.cond (.leaf) (.seq (.leaf) (.cond (.order (.take 0 (.take 1 (.take 2 (.take 3 (.take 4 (.take 5 .done))))))) (.seq (.leaf) (.cond (.leaf) (.seq (.leaf) (.cut [4] [.one (.S)] [(14,16)] (.leaf) (.seq (.order (.take 0 (.take 1 (.take 2 (.take 3 (.take 4 (.take 5 .done))))))) (.seq (.seq (.leaf) (.block (.loop [26] [.one (.I .i64)] [(5,6),(27,54)] (.seq (.leaf) (.seq (.leaf) (.seq (.block (.seq (.leaf) (.cut [] [] [(31,36)] (.leaf) (.cut [] [] [(37,50)] (.leaf) (.leaf))))) (.leaf))))))) (.order (.take 0 (.take 1 (.take 2 (.take 3 (.take 4 (.take 5 .done))))))))))))))))))))))))) (Zq4 (ZaX f58 f17 f59 f6 f60)):=fun _ _ _ _=>by kernel_rfl
theorem ZwM (f60:Zll) (hH:Zu Tryz.prog 113 (Zq4 f60)):Zu Tryz.prog 113 (Zq4 (XW f60)):=okF (ZvY Yo Zx Xz Zy f60) Tryz.func113 Zr (ZO _ (.cons Zvr (.cons Zt1 (.cons Zxc (.cons zo6 (.cons hH .nil))))) .nil .nil .nil (ZN _)) (hlen:=Nat.le_of_ble_eq_true rfl)
theorem Zvn:∀ n,Zu Tryz.prog 113 (Zq4 (Yy n))
 | 0=>Zfv Tryz.func113 (by kernel_rfl) (by kernel_rfl) fun _ _ _ _ h=>h
 | n+1=>ZwM _ (Zvn n)
theorem Zxb:Zu Tryz.prog 113 (Zq4 ZaT):=ZmH Zvn
abbrev Zud (f:Zso):Zi:=⟨[.agg [.I .u8,.S,.L,.L]],[.one (.S),.one (.I .i64)],fun t K _ h=>f t.1 (fun r0 r1 h=>K (r0,r1,()) h) h⟩
abbrev ZxR (f57:Zqv) (f60:Zll) (f58:Zqu) (f4:zT4):Cfg:=Yb Tryz.prog [(22,ZtM f57),(113,Zq4 f60),(114,ZtL f58),(115,⟨[.one (.P)],[.one (.S)],fun t K _ h=>f4 t.1 (fun r0 h=>K (r0,()) h) h⟩)] 15 [] [] [] Yc
theorem ZvX (f57:Zqv) (f60:Zll) (f58:Zqu) (f4:zT4):Yq (ZxR f57 f60 f58 f4) Tryz.f36 (.leaf) (Zud (ZdS f57 f60 f58 f4)):=fun _ _ _ _=>by kernel_rfl
theorem Zxa:Zu Tryz.prog 36 (Zud ZbT):=okF (ZvX Zaj ZaT Yo Yh) Tryz.func36 Zr (ZO _ (.cons Zvs (.cons Zxb (.cons Zvr (.cons ZaK .nil)))) .nil .nil .nil (ZN _))
abbrev Zuc (f:Zsn):Zi:=⟨[.one (.I .i64)],[.agg [.I .u8,.S,.L,.L]],fun t K _ h=>f t.1 (fun r0 h=>K (r0,()) h) h⟩
abbrev ZxQ (f62:ZuP):Cfg:=Yb Tryz.prog [(31,⟨[.one (.I .i64)],[.one (.S)],fun t K _ h=>f62 t.1 (fun r0 h=>K (r0,()) h) h⟩)] 6 [] [] [] Yc
theorem ZvW (f62:ZuP):Yq (ZxQ f62) Tryz.f30 (.leaf) (Zuc (ZdT f62)):=fun _ _ _ _=>by kernel_rfl
theorem Zw9:Zu Tryz.prog 30 (Zuc ZbU):=okF (ZvW ZcH) Tryz.func30 Zr (ZO _ (.cons ZgI .nil) .nil .nil .nil (ZN _))
abbrev Zub (f:Zsm):Zi:=⟨[.one (.S),.one (.S)],[.one (.S),.one (.B)],fun t K _ h=>f t.1 t.2.1 (fun r0 r1 h=>K (r0,r1,()) h) h⟩
abbrev ZxP (f8:zT8):Cfg:=Yb Tryz.prog [(249,zk8 f8)] 15 [] [] [] Yc
theorem ZvV (f8:zT8):Yq (ZxP f8) Tryz.f180 (.leaf) (Zub (YP f8)):=fun _ _ _ _=>by kernel_rfl
theorem Zw8:Zu Tryz.prog 180 (Zub Yj):=okF (ZvV ZA) Tryz.func180 Zr (ZO _ (.cons zo8 .nil) .nil .nil .nil (ZN _))
abbrev Zua (f:Zsl):Zi:=⟨[.one (.S),.one (.S)],[.one (.S),.one (.B)],fun t K _ h=>f t.1 t.2.1 (fun r0 r1 h=>K (r0,r1,()) h) h⟩
abbrev ZxO (f64:Zsm):Cfg:=Yb Tryz.prog [(180,Zub f64)] 11 [] [] [] Yc
theorem ZvU (f64:Zsm):Yq (ZxO f64) Tryz.f101 (.leaf) (Zua (ZaV f64)):=fun _ _ _ _=>by kernel_rfl
theorem Zw7:Zu Tryz.prog 101 (Zua Xl):=okF (ZvU Yj) Tryz.func101 Zr (ZO _ (.cons Zw8 .nil) .nil .nil .nil (ZN _))
abbrev Zt9 (f:Zsk):Zi:=⟨[.one (.S),.one (.S)],[.one (.S)],fun t K _ h=>f t.1 t.2.1 (fun r0 h=>K (r0,()) h) h⟩
abbrev ZxN (f8:zT8):Cfg:=Yb Tryz.prog [(249,zk8 f8)] 13 [] [] [] Yc
theorem ZvT (f8:zT8):Yq (ZxN f8) Tryz.f261 (.leaf) (Zt9 (YI f8)):=fun _ _ _ _=>by kernel_rfl
theorem Zw6:Zu Tryz.prog 261 (Zt9 Yg):=okF (ZvT ZA) Tryz.func261 Zr (ZO _ (.cons zo8 .nil) .nil .nil .nil (ZN _))
abbrev Zt8 (f:Zsj):Zi:=⟨[.one (.S),.one (.S)],[.one (.S)],fun t K _ h=>f t.1 t.2.1 (fun r0 h=>K (r0,()) h) h⟩
abbrev ZxM (f70:Zsk):Cfg:=Yb Tryz.prog [(261,Zt9 f70)] 8 [] [] [] Yc
theorem ZvS (f70:Zsk):Yq (ZxM f70) Tryz.f194 (.leaf) (Zt8 (ZaB f70)):=fun _ _ _ _=>by kernel_rfl
theorem Zw5:Zu Tryz.prog 194 (Zt8 Y7):=okF (ZvS Yg) Tryz.func194 Zr (ZO _ (.cons Zw6 .nil) .nil .nil .nil (ZN _))
abbrev Zt7 (f:Zsi):Zi:=⟨[.one (.S)],[.one (.I .i64),.one (.B)],fun t K _ h=>f t.1 (fun r0 r1 h=>K (r0,r1,()) h) h⟩
abbrev ZxL (f71:Zsj) (f72:Zr0):Cfg:=Yb Tryz.prog [(194,Zt8 f71),(108,⟨[.one (.S)],[.one (.I .i64),.one (.V)],fun t K _ h=>f72 t.1 (fun r0 r1 h=>K (r0,r1,()) h) h⟩)] 25 [] [] [] Yc
theorem ZvR (f71:Zsj) (f72:Zr0):Yq (ZxL f71 f72) Tryz.f106 (.leaf) (Zt7 (Zco f71 f72)):=fun _ _ _ _=>by kernel_rfl
theorem Zw4:Zu Tryz.prog 106 (Zt7 Zai):=okF (ZvR Y7 XF) Tryz.func106 Zr (ZO _ (.cons Zw5 (.cons ZdI .nil)) .nil .nil .nil (ZN _))
abbrev Zt6 (f:Zsh):Zi:=⟨[.agg [.I .u8,.S,.L,.L]],[.one (.I .i64),.one (.B)],fun t K _ h=>f t.1 (fun r0 r1 h=>K (r0,r1,()) h) h⟩
abbrev ZxK (f57:Zqv) (f65:Zsl) (f66:ZuO) (f67:ZuN) (f68:ZuM) (f69:ZuL) (f73:Zsi) (f74:ZuK) (f72:Zr0):Cfg:=Yb Tryz.prog [(22,ZtM f57),(101,Zua f65),(103,⟨[.one (.S)],[.one (.S)],fun t K _ h=>f66 t.1 (fun r0 h=>K (r0,()) h) h⟩),(102,⟨[.one (.S),.one (.S)],[.one (.S),.one (.S),.one (.B)],fun t K _ h=>f67 t.1 t.2.1 (fun r0 r1 r2 h=>K (r0,r1,r2,()) h) h⟩),(104,⟨[.one (.S),.one (.S)],[.one (.S)],fun t K _ h=>f68 t.1 t.2.1 (fun r0 h=>K (r0,()) h) h⟩),(105,⟨[.one (.S),.one (.S)],[.one (.S)],fun t K _ h=>f69 t.1 t.2.1 (fun r0 h=>K (r0,()) h) h⟩),(106,Zt7 f73),(107,⟨[.one (.S),.one (.I .i64)],[.one (.S)],fun t K _ h=>f74 t.1 t.2.1 (fun r0 h=>K (r0,()) h) h⟩),(108,⟨[.one (.S)],[.one (.I .i64),.one (.V)],fun t K _ h=>f72 t.1 (fun r0 r1 h=>K (r0,r1,()) h) h⟩)] 92 [] [] [] Yc
theorem ZvQ (f57:Zqv) (f65:Zsl) (f66:ZuO) (f67:ZuN) (f68:ZuM) (f69:ZuL) (f73:Zsi) (f74:ZuK) (f72:Zr0):Yq (ZxK f57 f65 f66 f67 f68 f69 f73 f74 f72) Tryz.f28 (.seq (.leaf) (.seq (.leaf) (.seq (.leaf) (.seq (.leaf) (.seq (.leaf) (.seq (.leaf) (.seq (.leaf) (.seq (.leaf) (.seq (.leaf) (.seq (.leaf) (.seq (.leaf) (.seq (.leaf) (.seq (.leaf) (.cut [11] [.one (.S)] [(81,83)] (.leaf) (.leaf))))))))))))))) (Zt6 (ZdQ f57 f65 f66 f67 f68 f69 f73 f74 f72)):=fun _ _ _ _=>by kernel_rfl
theorem Zw3:Zu Tryz.prog 28 (Zt6 ZbS):=okF (ZvQ Zaj Xl ZbB Zbi Zbh XZ Zai Zb0 XF) Tryz.func28 Zr (ZO _ (.cons Zvs (.cons Zw7 (.cons ZeY (.cons ZhE (.cons Zez (.cons Zej (.cons Zw4 (.cons Zfu (.cons ZdI .nil))))))))) .nil .nil .nil (ZN _))
abbrev Zq3 (f:Zmf):Zi:=⟨[.agg [.I .u8,.S,.L,.L],.one (.I .i64)],[.one (.I .i64)],fun t K _ h=>f t.1 t.2.1 (fun r0 h=>K (r0,()) h) h⟩
abbrev ZxJ (f76:Zmf):Cfg:=Yb Tryz.prog [(204,Zq3 f76)] 27 [] [] [] Yc
theorem ZvP (f76:Zmf):Yq (ZxJ f76) Tryz.f204 (.seq (.leaf) (.seq (.leaf) (.seq (.seq (.leaf) (.block (.loop [5,11] [.one (.I .i64),.one (.I .i64)] [(7,7),(12,25)] (.leaf)))) (.leaf)))) (Zq3 (Zc9 f76)):=fun _ _ _ _=>by kernel_rfl
theorem ZwL (f76:Zmf) (hH:Zu Tryz.prog 204 (Zq3 f76)):Zu Tryz.prog 204 (Zq3 (Zb4 f76)):=okF (ZvP f76) Tryz.func204 Zr (ZO _ (.cons hH .nil) .nil .nil .nil (ZN _)) (hlen:=Nat.le_of_ble_eq_true rfl)
theorem Zvm:∀ n,Zu Tryz.prog 204 (Zq3 (XP n))
 | 0=>Zfv Tryz.func204 (by kernel_rfl) (by kernel_rfl) fun _ _ _ _ h=>h
 | n+1=>ZwL _ (Zvm n)
theorem Zw2:Zu Tryz.prog 204 (Zq3 Zc5):=ZmH Zvm
abbrev Zt5 (f:Zsg):Zi:=⟨[.agg [.I .u8,.S,.L,.L]],[.one (.B)],fun t K _ h=>f t.1 (fun r0 h=>K (r0,()) h) h⟩
abbrev ZxI (f76:Zmf):Cfg:=Yb Tryz.prog [(204,Zq3 f76)] 6 [] [] [] Yc
theorem ZvO (f76:Zmf):Yq (ZxI f76) Tryz.f118 (.leaf) (Zt5 (ZdP f76)):=fun _ _ _ _=>by kernel_rfl
theorem Zw1:Zu Tryz.prog 118 (Zt5 ZbR):=okF (ZvO Zc5) Tryz.func118 Zr (ZO _ (.cons Zw2 .nil) .nil .nil .nil (ZN _))
abbrev Zt4 (f:Zsf):Zi:=⟨[.agg [.I .u8,.S,.L,.L]],[.one (.I .i64)],fun t K _ h=>f t.1 (fun r0 h=>K (r0,()) h) h⟩
abbrev ZxH (f77:Zsg) (f53:Zga):Cfg:=Yb Tryz.prog [(118,Zt5 f77),(93,Znj f53)] 19 [] [] [] Yc
theorem ZvN (f77:Zsg) (f53:Zga):Yq (ZxH f77 f53) Tryz.f39 (.leaf) (Zt4 (ZdU f77 f53)):=fun _ _ _ _=>by kernel_rfl
theorem Zw0:Zu Tryz.prog 39 (Zt4 ZbV):=okF (ZvN ZbR XR) Tryz.func39 Zr (ZO _ (.cons Zw1 (.cons Zvt .nil)) .nil .nil .nil (ZN _))
abbrev Zt3 (f:Zse):Zi:=⟨[],[.one (.B)],fun _ K _ h=>f (fun r0 h=>K (r0,()) h) h⟩
abbrev ZxG (f26:Zph) (f61:Zso) (f63:Zsn) (f75:Zsh) (f78:Zsf):Cfg:=Yb Tryz.prog [(25,⟨[.one (.S)],[.agg [.I .u8,.S,.L,.L],.one (.I .i64),.one (.I .i64)],fun t K _ h=>f26 t.1 (fun r0 r1 r2 h=>K (r0,r1,r2,()) h) h⟩),(36,Zud f61),(30,Zuc f63),(28,Zt6 f75),(39,Zt4 f78)] 61 [] [] [] Yc
theorem ZvM (f26:Zph) (f61:Zso) (f63:Zsn) (f75:Zsh) (f78:Zsf):Yq (ZxG f26 f61 f63 f75 f78) Tryz.f27 (.leaf) (Zt3 (ZaC f26 f61 f63 f75 f78)):=fun _ _ _ _=>by kernel_rfl
theorem ZwZ:Zu Tryz.prog 27 (Zt3 Y8):=okF (ZvM YL ZbT ZbU ZbS ZbV) Tryz.func27 Zr (ZO _ (.cons Zc4 (.cons Zxa (.cons Zw9 (.cons Zw3 (.cons Zw0 .nil))))) .nil .nil .nil (ZN _))
abbrev Zt2 (f:Zsd):Zi:=⟨[.one (.L),.one (.L)],[.one (.B)],fun t K _ h=>f t.1 t.2.1 (fun r0 h=>K (r0,()) h) h⟩
abbrev ZxF:Cfg:=Yb Tryz.prog [] 26 [] [] [] Yc
theorem ZvL:Yq (ZxF) Tryz.f83 (.seq (.leaf) (.seq (.leaf) (.seq (.seq (.leaf) (.block (.loop [5] [.one (.I .i64)] [(4,4),(11,25)] (.leaf)))) (.leaf)))) (Zt2 X2):=fun _ _ _ _=>by kernel_rfl
theorem ZwY:Zu Tryz.prog 83 (Zt2 YD):=okF (ZvL) Tryz.func83 Zr (ZO _ .nil .nil .nil .nil (ZN _))
abbrev Zq2 (f:Znd):Zi:=⟨[.agg [.I .u8,.S,.L,.L],.agg [.I .u8,.S,.L,.L]],[.one (.B)],fun t K _ h=>f t.1 t.2.1 (fun r0 h=>K (r0,()) h) h⟩
abbrev ZxE (f80:Zsd) (f81:Znd):Cfg:=Yb Tryz.prog [(83,Zt2 f80),(18,Zq2 f81)] 54 [] [] [] Yc
theorem ZvK (f80:Zsd) (f81:Znd):Yq (ZxE f80 f81) Tryz.f18 (.seq (.leaf) (.seq (.leaf) (.seq (.seq (.leaf) (.block (.loop [5] [.one (.I .i64)] [(4,4),(35,53)] (.seq (.leaf) (.seq (.block (.seq (.order (.take 0 (.take 2 (.take 5 (.take 7 (.take 1 (.take 3 (.take 4 (.take 6 (.take 8 (.take 9 (.take 10 (.take 11 .done))))))))))))) (.leaf))) (.leaf)))))) (.leaf)))) (Zq2 (X1 f80 f81)):=fun _ _ _ _=>by kernel_rfl
theorem ZwK (f81:Znd) (hH:Zu Tryz.prog 18 (Zq2 f81)):Zu Tryz.prog 18 (Zq2 (XV f81)):=okF (ZvK YD f81) Tryz.func18 Zr (ZO _ (.cons ZwY (.cons hH .nil)) .nil .nil .nil (ZN _)) (hlen:=Nat.le_of_ble_eq_true rfl)
theorem Zvl:∀ n,Zu Tryz.prog 18 (Zq2 (Yv n))
 | 0=>Zfv Tryz.func18 (by kernel_rfl) (by kernel_rfl) fun _ _ _ _ h=>h
 | n+1=>ZwK _ (Zvl n)
theorem ZwX:Zu Tryz.prog 18 (Zq2 Xf):=ZmH Zvl
abbrev Zvy (f:Zvz):Zi:=⟨[.one (.S)],[.one (.B)],fun t K _ h=>f t.1 (fun r0 h=>K (r0,()) h) h⟩
abbrev ZxD (f26:Zph) (f46:Zsz) (f79:Zse) (f81:Znd):Cfg:=Yb Tryz.prog [(25,⟨[.one (.S)],[.agg [.I .u8,.S,.L,.L],.one (.I .i64),.one (.I .i64)],fun t K _ h=>f26 t.1 (fun r0 r1 r2 h=>K (r0,r1,r2,()) h) h⟩),(26,Zuo f46),(27,Zt3 f79),(18,Zq2 f81)] 37 [] [] [] Yc
theorem ZvJ (f26:Zph) (f46:Zsz) (f79:Zse) (f81:Znd):Yq (ZxD f26 f46 f79 f81) Tryz.f6 (.leaf) (Zvy (XI f26 f46 f79 f81)):=fun _ _ _ _=>by kernel_rfl
theorem Zcu:Zu Tryz.prog 6 (Zvy XG):=okF (ZvJ YL Yp Y8 Xf) Tryz.func6 Zr (ZO _ (.cons Zc4 (.cons Zxj (.cons ZwZ (.cons ZwX .nil)))) .nil .nil .nil (ZN _))
end
end Go.Proofs.YtpjbjdheeemdiaaGreatDoor
namespace Go.Fw
open Go Go.RowKit
theorem Zoq {P:Program} {f:FuncId} {s:Zi} (ok:Zu P f s) (t:YV s.args) (w:World) {args:Array Value} (hargs:((YV.evs s.args t).map EV.v).toArray=args)
    (h:s.sem t (fun r h'=>ZqI s.res r = .bool true∧Ext w.heap h') (fun _ _=>False) w.heap):Calls P f args w fun e w'=>e = .returned (.bool true)∧Below w.heap.size w w':=by
  rw [← hargs]
  refine (ok.calls t _ _ w h).mono ?_
  rintro e w' (⟨r,rfl,hs,hr,hx⟩ | ⟨v,rfl,hs,hk⟩)
  ·exact ⟨by rw [hr],hs.2.1,hs.1,hs.2.2,hx.size,hx.old⟩
  ·exact hk.elim
end Go.Fw
namespace Go.Fw
open Go
def obj (h:Zc) (b:Nat):Option Obj:=h[b]?
def sz (h:Zc):Nat:=h.size
theorem ZnJ {h:Zc} {x:Obj}:sz (h.push x)=sz h+1:=by unfold sz;simp
theorem ZqD {h:Zc} {b o:Nat} {v:Value}:sz (h.put b o v)=sz h:=by unfold sz;exact Zf3
def ZlG (o:Nat) (v:Value):Option Obj→Option Obj
  | some (.cells c e f)=>some (.cells (c.setIfInBounds o v) e f)
  | x=>x
theorem ZdJ {o:Nat} {v:Value} {l:List Value} {e:TypeId} {f:Nat × Nat}:ZlG o v (some (.cells l.toArray e f))=some (.cells (l.set o v).toArray e f):=by
  simp [ZlG]
theorem ZgJ {h:Zc} {b o k:Nat} {v:Value}:obj (h.put b o v) k=if k=b then ZlG o v (obj h k) else obj h k:=by
  unfold obj Zc.put
  rw [Array.getElem?_modify]
  by_cases hk:b=k
  ·subst hk
   rw [if_pos rfl,if_pos rfl]
   cases h[b]? with
   | none=>rfl
   | some x=>cases x<;>rfl
  ·rw [if_neg hk,if_neg (Ne.symm hk)]
def X8 (o:Nat):Option Obj→Option Value
  | some (.cells c _ _)=>c[o]?
  | _=>none
def Zi2 (o:Nat):Option Obj→Bool
  | some (.cells c _ f)=>decide (o<c.size)&&(f.1 ==0&&f.2 ==0)
  | _=>false
theorem Zi3 {o:Nat} {l:List Value} {e:TypeId} {f:Nat × Nat}:X8 o (some (.cells l.toArray e f))=l[o]?:=by simp [X8]
theorem ZaO {h:Zc} {b o:Nat}:h.cell b o=X8 o (obj h b):=by unfold Zc.cell obj X8;rfl
theorem ZoB {h:Zc} {b o:Nat} (hf:Zi2 o (obj h b)=true):(∃ u,h.cell b o=some u)∧h.froz b o=false:=by
  unfold Zi2 at hf
  split at hf
  ·rename_i c e f hb
   simp only [Bool.and_eq_true,decide_eq_true_eq,beq_iff_eq] at hf
   obtain ⟨h1,h2,h3⟩:=hf
   have hb':h[b]?=some (.cells c e f):=hb
   refine ⟨⟨c[o],by unfold Zc.cell;rw [hb'];simp [h1]⟩,?_⟩
   unfold Zc.froz
   rw [hb']
   obtain ⟨lo,hi⟩:=f
   simp only at h2 h3
   subst h2 h3
   simp
  ·cases hf
theorem Ztr {h:Zc} {b o:Nat} {k:IntKind} {n:Int} {K:Int→Prop} (hc:X8 o (obj h b)=some (.int k n)):ldI h b o k K=K n :=
  propext ⟨fun ⟨m,e,hk⟩=>(by rw [ZaO,hc] at e;cases e;exact hk),fun hk=>⟨n,by rw [ZaO,hc],hk⟩⟩
theorem Zto {h:Zc} {b o:Nat} {n:ByteArray} {K:ByteArray→Prop} (hc:X8 o (obj h b)=some (.string n)):ldS h b o K=K n :=
  propext ⟨fun ⟨m,e,hk⟩=>(by rw [ZaO,hc] at e;cases e;exact hk),fun hk=>⟨n,by rw [ZaO,hc],hk⟩⟩
theorem Ztp {h:Zc} {b o:Nat} {n:Option Addr} {K:Option Addr→Prop} (hc:X8 o (obj h b)=some (.pointer n)):ldP h b o K=K n :=
  propext ⟨fun ⟨m,e,hk⟩=>(by rw [ZaO,hc] at e;cases e;exact hk),fun hk=>⟨n,by rw [ZaO,hc],hk⟩⟩
theorem Ztn {h:Zc} {b o:Nat} {n:Value} {K:Value→Prop} (hc:X8 o (obj h b)=some n):ldV h b o K=K n :=
  propext ⟨fun ⟨m,e,hk⟩=>(by rw [ZaO,hc] at e;cases e;exact hk),fun hk=>⟨n,by rw [ZaO,hc],hk⟩⟩
theorem Ztq {h:Zc} {b o:Nat} {p:Option Addr} {l c:Nat} {K:Sl→Prop} (hc:X8 o (obj h b)=some (.slice p l c)):ldL h b o K=K ⟨p,l,c⟩ :=
  propext ⟨fun ⟨m,e,hk⟩=>(by rw [ZaO,hc] at e;cases e;exact hk),fun hk=>⟨⟨p,l,c⟩,by rw [ZaO,hc],hk⟩⟩
theorem ZlU {h:Zc} {b:Nat}:∀ (n o:Nat),(∀ i,i<n→Zi2 (o+i) (obj h b)=true)→h.free b o n
  | 0,_,_=>trivial
  | n+1,o,hf=>⟨ZoB (by have:=hf 0 (by omega);simpa using this),ZlU n (o+1) fun i hi=>by have:=hf (i+1) (by omega);rw [show o+1+i=o+(i+1) from by omega];exact this⟩
def ZoC (o n:Nat):Option Obj→Bool
  | some (.cells c _ f)=>decide (o+n≤c.size)&&(f.1 ==0&&f.2 ==0)
  | _=>false
theorem Za1 {o n:Nat} {l:List Value} {e:TypeId}:ZoC o n (some (.cells l.toArray e (0,0)))=decide (o+n≤l.length):=by simp [ZoC]
theorem Zp5 {h:Zc} {b o n:Nat} (hf:ZoC o n (obj h b)=true):h.free b o n:=by
  refine ZlU n o fun i hi=>?_
  unfold ZoC at hf
  split at hf
  ·rename_i c e f hb
   rw [hb]
   simp only [Bool.and_eq_true,decide_eq_true_eq] at hf
   simp only [Zi2,Bool.and_eq_true,decide_eq_true_eq]
   exact ⟨by omega,hf.2⟩
  ·cases hf
theorem Zgr {h:Zc} {b o:Nat} {vs:List Value} {K:Zc→Prop} (hf:ZoC o vs.length (obj h b)=true) (hv:vs.all Z5=true):sts h b o vs K=K (h.puts b o vs) :=
  propext ⟨fun hk=>hk.2.2,fun hk=>⟨Zp5 hf,hv,hk⟩⟩
theorem Zdx {h:Zc} {b o:Nat} {vs:List Value}:sz (h.puts b o vs)=sz h:=ZeV
def ZgK:Nat→List Value→Option Obj→Option Obj
  | _,[],x=>x
  | o,v::vs,x=>ZgK (o+1) vs (ZlG o v x)
def XL:Nat→List Value→List Value→List Value
  | _,[],l=>l
  | o,v::vs,l=>XL (o+1) vs (l.set o v)
theorem Xd {e:TypeId} {f:Nat × Nat}:∀ {vs:List Value} {o:Nat} {l:List Value},ZgK o vs (some (.cells l.toArray e f))=some (.cells (XL o vs l).toArray e f)
  | [],_,_=>rfl
  | v::vs,o,l=>by unfold ZgK XL;rw [ZdJ,Xd]
theorem Zas {b:Nat}:∀ {vs:List Value} {h:Zc} {o k:Nat},obj (h.puts b o vs) k=if k=b then ZgK o vs (obj h k) else obj h k
  | [],h,o,k=>by
    unfold Zc.puts ZgK
    split<;>rfl
  | v::vs,h,o,k=>by
    unfold Zc.puts
    rw [Zas,ZgJ]
    by_cases hk:k=b
    ·rw [if_pos hk,if_pos hk,if_pos hk];rfl
    ·rw [if_neg hk,if_neg hk,if_neg hk]
theorem Zk4 {b o l size:Nat} {i:Int} {n:Nat} {K:Nat→Nat→Prop} (hi:i=(n:Int)) (hl:n<l) (hk:K b (o+n*size)):Zih (some ⟨b,o,none⟩) l i size K:=by
  subst hi
  exact ⟨b,o,rfl,by omega,by omega,by simpa using hk⟩
theorem Zs0 {s t:Sl}:(slV s=slV t)=(s=t):=by
  refine propext ⟨fun h=>?_,fun h=>by rw [h]⟩
  cases s;cases t
  unfold slV at h
  injection h with h1 h2 h3
  subst h1 h2 h3
  rfl
theorem ZbY {k:IntKind} {n:Int}:Z5 (.int k n)=true:=by simp [Z5]
theorem ZgH {b:Option Addr} {l c:Nat}:Z5 (.slice b l c)=true:=by simp [Z5]
theorem Ys {h h':Zc} (e:Ext h h') {b:Nat} (hb:b<sz h):obj h' b=obj h b:=e.old b hb
theorem ZX {S:Nat→Prop} {h h':Zc} (e:Upd S h h') {b:Nat} (hb:b<sz h) (hs:¬ S b):obj h' b=obj h b:=e.old b hb hs
theorem Zpu {S:Nat→Prop} {h h1:Zc} {b o:Nat} {vs:List Value} (he:Upd S h h1) (hb:sz h≤b∨S b):Upd S h (h1.puts b o vs) :=
  ⟨by rw [ZeV];exact he.size,fun k hk hs=>(Zfq fun e=>by subst e;exact hb.elim (fun h9=>by unfold sz at h9;omega) hs).trans (he.old k hk hs)⟩
theorem Zbg {h:Zc} {b:Nat} {x:Obj} (hb:obj h b=some x):b<sz h:=by
  unfold obj at hb
  rcases Nat.lt_or_ge b h.size with hl | hl
  ·exact hl
  ·rw [Array.getElem?_eq_none hl] at hb;cases hb
theorem YY {h h':Zc} {b:Nat} {x:Obj} (hb:obj h b=some x) (e:Ext h h'):obj h' b=some x:=(Ys e (Zbg hb)).trans hb
theorem Yt {S:Nat→Prop} {h h':Zc} {b:Nat} {x:Obj} (hb:obj h b=some x) (e:Upd S h h') (hs:¬ S b):obj h' b=some x:=(ZX e (Zbg hb) hs).trans hb
theorem Ext.updS {h h1 h2:Zc} {S:Nat→Prop} (e:Ext h h1) (u:Upd S h1 h2) (hs:∀ k,S k→sz h≤k):Ext h h2:=e.then u fun k hk=>hs k hk
end Go.Fw
namespace Go.Js
open Go
abbrev BL:=List UInt8
inductive JL where
  | nil
  | cons (k:Nat) (t:BL) (ns:List BL) (sub rest:JL)
deriving DecidableEq
structure JV where
  k:Nat
  t:BL
  ns:List BL
  sub:JL
deriving DecidableEq
namespace JL
def len:JL→Nat
  | nil=>0
  | cons _ _ _ _ r=>r.len+1
def snoc (v:JV):JL→JL
  | nil=>cons v.k v.t v.ns v.sub nil
  | cons k t ns s r=>cons k t ns s (r.snoc v)
def isNil:JL→Bool
  | nil=>true
  | _=>false
theorem len_snoc (v:JV):∀ l:JL,(l.snoc v).len=l.len+1
  | nil=>rfl
  | cons _ _ _ _ r=>by simp [snoc,len,len_snoc v r]
theorem len_nil {l:JL}:l.len=0↔l=nil:=by cases l<;>simp [len]
end JL
inductive Out (α:Type) where
  | ok (a:α) (r:BL)
  | err (e:Nat) (r:BL)
def Out.bind {α β:Type}:Out α→(α→BL→Out β)→Out β
  | .ok a r,f=>f a r
  | .err e r,_=> .err e r
@[simp] theorem Out.bind_ok {α β:Type} (a:α) (r:BL) (f:α→BL→Out β):(Out.ok a r).bind f=f a r:=rfl
@[simp] theorem Out.bind_err {α β:Type} (e:Nat) (r:BL) (f:α→BL→Out β):(Out.err e r:Out α).bind f = .err e r:=rfl
def Xt {α:Type} (e:Nat):BL→Out α
  | []=> .err 24 []
  | c::l=> .err e (c::l)
def Yd (c:UInt8):Bool:=c ==32||c ==9||c ==10||c ==13
def YX (c:UInt8):Bool:=decide (48≤c.toNat)&&decide (c.toNat≤57)
def ZF (l:BL):BL:=l.dropWhile Yd
def Xi:BL→BL→Out Unit
  | [],l=> .ok () l
  | c::w,d::l=>if d=c then Xi w l else .err 20 (d::l)
  | _::_,[]=> .err 24 []
def Ya:BL→Out Unit
  | c::l=>if YX c then .ok () (l.dropWhile YX) else .err 21 (c::l)
  | []=> .err 24 []
def XK:BL→BL
  | c::l=>if c=45 then l else c::l
  | []=>[]
def Zeg:BL→BL
  | c::l=>if c=43∨c=45 then l else c::l
  | []=>[]
def Zag:BL→Out Unit
  | c::l=>if YX c then .err 21 (c::l) else .ok () (c::l)
  | []=> .ok () []
def ZeE:BL→Out Unit
  | c::l=>if c=48 then Zag l else Ya (c::l)
  | []=> .err 24 []
def ZcV:BL→Out Unit
  | c::l=>if c=46 then Ya l else .ok () (c::l)
  | []=> .ok () []
def Zfd:BL→Out Unit
  | c::l=>if c=101∨c=69 then Ya (Zeg l) else .ok () (c::l)
  | []=> .ok () []
def ZcQ (l:BL):Out Unit:=(ZeE (XK l)).bind fun _ l1=>(ZcV l1).bind fun _ l2=>Zfd l2
def Zfc (l r:BL):BL:=l.take (l.length - r.length)
def ZeF (c:UInt8):Option Nat :=
  if 48≤c.toNat∧c.toNat≤57 then some (c.toNat - 48)
  else if 97≤c.toNat∧c.toNat≤102 then some (c.toNat - 87)
  else if 65≤c.toNat∧c.toNat≤70 then some (c.toNat - 55)
  else none
def Zbk:Nat→Nat→BL→Out Nat
  | 0,n,l=> .ok n l
  | _+1,_,[]=> .err 24 []
  | k+1,n,c::l=>match ZeF c with
    | some d=>Zbk k (n*16+d) l
    | none=> .err 22 (c::l)
def Zbb (n:Nat):BL :=
  if n<128 then [UInt8.ofNat n]
  else if n<2048 then [UInt8.ofNat (192+n / 64),UInt8.ofNat (128+n % 64)]
  else if n<65536 then [UInt8.ofNat (224+n / 4096),UInt8.ofNat (128+n / 64 % 64),UInt8.ofNat (128+n % 64)]
  else [UInt8.ofNat (240+n / 262144),UInt8.ofNat (128+n / 4096 % 64),UInt8.ofNat (128+n / 64 % 64),UInt8.ofNat (128+n % 64)]
def Zdb (n:Nat):Nat:=if 55296≤n∧n<57344 then 65533 else n
def Zav (c:UInt8):Option UInt8 :=
  if c=34 then some 34 else if c=92 then some 92 else if c=47 then some 47 else if c=98 then some 8 else if c=102 then some 12 else if c=110 then some 10 else if c=114 then some 13 else if c=116 then some 9 else none
def Xx:BL→Option BL
  | a::b::l=>if a=92∧b=117 then some l else none
  | _=>none
def ZtR (l:BL):Out BL:=(Zbk 4 0 l).bind fun n l1 =>
  match (if 55296≤n∧n<56320 then Xx l1 else none) with
  | some l2=>(Zbk 4 0 l2).bind fun m l3=>if 56320≤m∧m<57344 then .ok (Zbb (65536+(n - 55296)*1024+(m - 56320))) l3 else .ok (Zbb (Zdb n)) l1
  | none=> .ok (Zbb (Zdb n)) l1
def Zl0:BL→Out BL
  | []=> .err 24 []
  | c::l=>match Zav c with
    | some m=> .ok [m] l
    | none=>if c=117 then ZtR l else .err 22 (c::l)
def ZfI (c:Nat):Nat × Nat × Nat :=
  if c<128 then (1,0,0)
  else if 194≤c∧c≤223 then (2,128,191)
  else if c=224 then (3,160,191)
  else if c=237 then (3,128,159)
  else if 225≤c∧c≤239 then (3,128,191)
  else if c=240 then (4,144,191)
  else if 241≤c∧c≤243 then (4,128,191)
  else if c=244 then (4,128,143)
  else (0,0,0)
def Zbv:Nat→Nat→Nat→BL→Out Unit
  | 0,_,_,l=> .ok () l
  | _+1,_,_,[]=> .err 24 []
  | n+1,lo,hi,d::l=>if lo≤d.toNat∧d.toNat≤hi then Zbv n 128 191 l else .err 22 (d::l)
def XE:BL→Out Unit
  | []=> .err 24 []
  | c::l=>if (ZfI c.toNat).1=0 then .err 22 (c::l) else Zbv ((ZfI c.toNat).1 - 1) (ZfI c.toNat).2.1 (ZfI c.toNat).2.2 l
def ZeP:Nat→BL→BL→Out BL
  | 0,_,_=> .err 24 []
  | _+1,_,[]=> .err 24 []
  | n+1,out,c::l =>
    if c.toNat<32 then .err 22 (c::l)
    else if c=34 then .ok out l
    else if c=92 then (Zl0 l).bind fun o l2=>ZeP n (out++o) l2
    else if c.toNat<128 then ZeP n (out++[c]) l
    else (XE (c::l)).bind fun _ l2=>ZeP n (out++Zfc (c::l) l2) l2
def ZfJ (l:BL):Out BL:=ZeP (l.length+1) [] l
def Zat (l:BL):Out BL :=
  match ZF l with
  | c::l1=>if c=34 then (ZfJ l1).bind fun nm l2=>match ZF l2 with
     | d::l3=>if d=58 then .ok nm l3 else .err 20 (d::l3)
     | []=> .err 24 []
    else .err 20 (c::l1)
  | []=> .err 24 []
def XU (pv:BL→Out JV) (ob:Bool) (ns:List BL) (sub:JL) (l:BL):Out (List BL × JL) :=
  if ob then (Zat l).bind fun nm l3=>(pv l3).bind fun v l4=> .ok (ns++[nm],sub.snoc v) (ZF l4)
  else (pv (ZF l)).bind fun v l4=> .ok (ns,sub.snoc v) (ZF l4)
def Zby (ob:Bool):UInt8:=if ob then 125 else 93
def Zbx (c:UInt8):BL→Bool
  | d::_=>d ==c
  | []=>false
def ZcR (pv:BL→Out JV) (ob:Bool):Nat→List BL→JL→BL→Out (List BL × JL)
  | 0,_,_,_=> .err 24 []
  | m+1,ns,sub,l =>
    if Zbx (Zby ob) l then .ok (ns,sub) l.tail
    else if sub.isNil then (XU pv ob ns sub l).bind fun p l2=>ZcR pv ob m p.1 p.2 l2
    else if Zbx 44 l then (XU pv ob ns sub l.tail).bind fun p l2=>ZcR pv ob m p.1 p.2 l2
    else Xt 20 l
def Zcx (op:Bool→BL→Out JV) (l:BL):Out JV :=
  match ZF l with
  | []=> .err 24 []
  | c::l1 =>
    if c=123 then op true (c::l1)
    else if c=91 then op false (c::l1)
    else if c=34 then (ZfJ l1).bind fun t r=> .ok ⟨5,t,[],.nil⟩ r
    else if c=110 then (Xi [110,117,108,108] (c::l1)).bind fun _ r=> .ok ⟨1,[],[],.nil⟩ r
    else if c=102 then (Xi [102,97,108,115,101] (c::l1)).bind fun _ r=> .ok ⟨2,[],[],.nil⟩ r
    else if c=116 then (Xi [116,114,117,101] (c::l1)).bind fun _ r=> .ok ⟨3,[],[],.nil⟩ r
    else if c=45∨YX c then (ZcQ (c::l1)).bind fun _ r=> .ok ⟨4,Zfc (c::l1) r,[],.nil⟩ r
    else .err 20 (c::l1)
def Zi1 (pv:BL→Out JV) (ob:Bool) (l:BL):Out JV :=
  (ZcR pv ob (l.length+1) [] .nil (ZF l.tail)).bind fun p r=> .ok ⟨if ob then 7 else 6,[],p.1,p.2⟩ r
def Zz:Nat→BL→Out JV
  | 0=>Zcx fun _ l=>Xt 23 l
  | n+1=>Zcx (Zi1 (Zz n))
inductive Got where
  | ok (v:JV)
  | err (e:Nat) (at_:Nat)
def Zaf (l:BL):Got :=
  if 65536<l.length then .err 5 65536
  else match Zz 64 l with
    | .err e r=> .err e (l.length - r.length)
    | .ok v r=>match ZF r with
      | []=> .ok v
      | c::r'=> .err 25 (l.length - (c::r').length)
theorem Xa {c:UInt8} {l r:BL} (h:r <:+l):r <:+c::l:=h.trans (List.suffix_cons _ _)
theorem ZjK (l:BL):ZF l <:+l:=List.dropWhile_suffix _
theorem ZeI {l r:BL} (h:Ya l = .ok () r):r <:+l:=by
  rcases l with _ | ⟨c,l⟩
  ·cases h
  ·dsimp only [Ya] at h
   split at h
   ·cases h;exact Xa (List.dropWhile_suffix _)
   ·cases h
theorem ZmO (l:BL):XK l <:+l:=by
  rcases l with _ | ⟨c,l⟩
  ·exact List.suffix_refl _
  ·dsimp only [XK]
   split
   ·exact List.suffix_cons _ _
   ·exact List.suffix_refl _
theorem ZnN (l:BL):Zeg l <:+l:=by
  rcases l with _ | ⟨c,l⟩
  ·exact List.suffix_refl _
  ·dsimp only [Zeg]
   split
   ·exact List.suffix_cons _ _
   ·exact List.suffix_refl _
theorem Zp2 {l r:BL} (h:ZeE l = .ok () r):r <:+l:=by
  rcases l with _ | ⟨c,l⟩
  ·cases h
  ·dsimp only [ZeE] at h
   split at h
   ·rcases l with _ | ⟨d,l⟩
    ·cases h;exact List.suffix_cons _ _
    ·dsimp only [Zag] at h
     split at h
     ·cases h
     ·cases h;exact List.suffix_cons _ _
   ·exact ZeI h
theorem ZoD {l r:BL} (h:ZcV l = .ok () r):r <:+l:=by
  rcases l with _ | ⟨c,l⟩
  ·cases h;exact List.suffix_refl _
  ·dsimp only [ZcV] at h
   split at h
   ·exact Xa (ZeI h)
   ·cases h;exact List.suffix_refl _
theorem Zqc {l r:BL} (h:Zfd l = .ok () r):r <:+l:=by
  rcases l with _ | ⟨c,l⟩
  ·cases h;exact List.suffix_refl _
  ·dsimp only [Zfd] at h
   split at h
   ·exact Xa ((ZeI h).trans (ZnN _))
   ·cases h;exact List.suffix_refl _
theorem ZJ {α β:Type} {x:Out α} {f:α→BL→Out β} {b:β} {r:BL} (h:x.bind f = .ok b r):∃ a l,x = .ok a l∧f a l = .ok b r:=by
  cases x with
  | ok a l=>exact ⟨a,l,rfl,h⟩
  | err e l=>cases h
theorem Zf5 {l r:BL} (h:ZcQ l = .ok () r):∃ l1 l2,ZeE (XK l) = .ok () l1∧ZcV l1 = .ok () l2∧Zfd l2 = .ok () r:=by
  obtain ⟨_,l1,h1,h⟩:=ZJ h
  obtain ⟨_,l2,h2,h⟩:=ZJ h
  exact ⟨l1,l2,h1,h2,h⟩
theorem ZpS {l r:BL} (h:ZcQ l = .ok () r):r <:+l:=by
  obtain ⟨l1,l2,h1,h2,h3⟩:=Zf5 h
  exact (Zqc h3).trans ((ZoD h2).trans ((Zp2 h1).trans (ZmO l)))
end Go.Js
