/- That each function does what its model says. Written by a program out of the translated functions. -/
import Derived.Test.YtpjbjdheeemdiaaGreatDoorProg
import Derived.KernelRfl
import Derived.Recover
import Derived.Tactics2
import Derived.Below
import Derived.Test.YtpjbjdheeemdiaaGreatDoorPa7
set_option linter.unusedVariables false
set_option linter.unusedSimpArgs false
namespace Go.Proofs.YtpjbjdheeemdiaaGreatDoor
open Go Go.Fw
noncomputable section
theorem Zs:Tryz.prog.follows .mixedOrders=true:=by kernel_rfl
abbrev zk1 (f:zT1):Zh:=⟨[.one (.P)],[],fun t K _ h=>f t.1 (fun h=>K (()) h) h⟩
abbrev zc1 (f0:zT0):Cfg:=Yn Tryz.prog [(171,⟨[.one (.S),.one (.I .u8)],[.one (.I .i64)],fun t K _ h=>f0 t.1 t.2.1 (fun r0 h=>K (r0,()) h) h⟩)] 32 [] [] [] Yo
theorem zr1 (f0:zT0):Yx (zc1 f0) Tryz.f97 (.block (.loop [] [] [(2,31)] (.leaf))) (zk1 (XN f0)):=fun _ _ _ _=>by kernel_rfl
theorem zo1:Zr Tryz.prog 97 (zk1 Zv):=okF (zr1 ZY) Tryz.func97 Zs (ZO _ (.cons XG .nil) .nil .nil .nil (ZM _))
abbrev zk2 (f:zT2):Zh:=⟨[.one (.P)],[.one (.I .u8)],fun t K _ h=>f t.1 (fun r0 h=>K (r0,()) h) h⟩
abbrev zc2:Cfg:=Yn Tryz.prog [] 22 [] [] [] Yo
theorem zr2:Yx (zc2) Tryz.f166 (.leaf) (zk2 Zal):=fun _ _ _ _=>by kernel_rfl
theorem zo2:Zr Tryz.prog 166 (zk2 Zi):=okF (zr2) Tryz.func166 Zs (ZO _ .nil .nil .nil .nil (ZM _))
abbrev zk3 (f:zT3):Zh:=⟨[.one (.P),.one (.I .i64),.one (.I .i64)],[],fun t K Kp h=>f t.1 t.2.1 t.2.2.1 (fun h=>K (()) h) Kp h⟩
abbrev zc3:Cfg:=Yn Tryz.prog [] 24 [] [] [] Yo
theorem zr3:Yx (zc3) Tryz.f98 (.leaf) (zk3 YR):=fun _ _ _ _=>by kernel_rfl
theorem zo3:Zr Tryz.prog 98 (zk3 Zf):=okF (zr3) Tryz.func98 Zs (ZO _ .nil .nil .nil .nil (ZM _))
abbrev zk6 (f:zT6):Zh:=⟨[.one (.P),.one (.I .u8)],[.one (.V)],fun t K _ h=>f t.1 t.2.1 (fun r0 h=>K (r0,()) h) h⟩
abbrev zc6 (f5:zT5):Cfg:=Yn Tryz.prog [(251,⟨[.one (.P)],[],fun t K _ h=>f5 t.1 (fun h=>K (()) h) h⟩)] 17 [] [] [] Yo
theorem zr6 (f5:zT5):Yx (zc6 f5) Tryz.f184 (.leaf) (zk6 (Ye f5)):=fun _ _ _ _=>by kernel_rfl
theorem zo6:Zr Tryz.prog 184 (zk6 Zl):=okF (zr6 Zx) Tryz.func184 Zs (ZO _ (.cons YC .nil) .nil .nil .nil (ZM _))
abbrev zk7 (f:zT7):Zh:=⟨[.one (.P)],[.one (.I .i32)],fun t K Kp h=>f t.1 (fun r0 h=>K (r0,()) h) Kp h⟩
abbrev zc7 (f2:zT2) (f3:zT3):Cfg:=Yn Tryz.prog [(166,zk2 f2),(98,zk3 f3)] 65 [] [] [] Yo
theorem zr7 (f2:zT2) (f3:zT3):Yx (zc7 f2 f3) Tryz.f297 (.seq (.leaf) (.seq (.leaf) (.seq (.seq (.leaf) (.block (.loop [3,5] [.one (.I .i32),.one (.I .i64)] [(4,4),(6,63)] (.seq (.leaf) (.seq (.leaf) (.seq (.block (.seq (.leaf) (.cut [3] [.one (.I .i32)] [(9,55)] (.block (.cut [15] [.one (.B)] [(16,21)] (.leaf) (.leaf))) (.leaf)))) (.leaf))))))) (.leaf)))) (zk7 (Zau f2 f3)):=fun _ _ _ _=>by kernel_rfl
theorem zo7:Zr Tryz.prog 297 (zk7 Y1):=okF (zr7 Zi Zf) Tryz.func297 Zs (ZO _ (.cons zo2 (.cons zo3 .nil)) .nil .nil .nil (ZM _))
abbrev zk8 (f:zT8):Zh:=⟨[.one (.S),.one (.S)],[.one (.B)],fun t K _ h=>f t.1 t.2.1 (fun r0 h=>K (r0,()) h) h⟩
abbrev zc8:Cfg:=Yn Tryz.prog [] 18 [] [] [] Yo
theorem zr8:Yx (zc8) Tryz.f249 (.leaf) (zk8 ZV):=fun _ _ _ _=>by kernel_rfl
theorem zo8:Zr Tryz.prog 249 (zk8 Zn):=okF (zr8) Tryz.func249 Zs (ZO _ .nil .nil .nil .nil (ZM _))
abbrev zk9 (f:zT9):Zh:=⟨[.one (.S),.one (.S)],[.one (.B)],fun t K _ h=>f t.1 t.2.1 (fun r0 h=>K (r0,()) h) h⟩
abbrev zc9 (f8:zT8):Cfg:=Yn Tryz.prog [(249,zk8 f8)] 8 [] [] [] Yo
theorem zr9 (f8:zT8):Yx (zc9 f8) Tryz.f196 (.leaf) (zk9 (XX f8)):=fun _ _ _ _=>by kernel_rfl
theorem zo9:Zr Tryz.prog 196 (zk9 YE):=okF (zr9 Zn) Tryz.func196 Zs (ZO _ (.cons zo8 .nil) .nil .nil .nil (ZM _))
abbrev Zr9 (f:ZqF):Zh:=⟨[.one (.L),.one (.I .i32)],[.one (.L)],fun t K _ h=>f t.1 t.2.1 (fun r0 h=>K (r0,()) h) h⟩
abbrev Zu6:Cfg:=Yn Tryz.prog [] 78 [] [] [] Yo
theorem ZtJ:Yx (Zu6) Tryz.f325 (.seq (.leaf) (.seq (.leaf) (.block (.seq (.leaf) (.cond (.leaf) (.cut [25] [.one (.B)] [(26,33)] (.leaf) (.leaf))))))) (Zr9 Yd):=fun _ _ _ _=>by kernel_rfl
theorem Zup:Zr Tryz.prog 325 (Zr9 ZQ):=okF (ZtJ) Tryz.func325 Zs (ZO _ .nil .nil .nil .nil (ZM _))
abbrev Zr8 (f:ZqE):Zh:=⟨[.one (.L),.one (.I .i32)],[.one (.L)],fun t K _ h=>f t.1 t.2.1 (fun r0 h=>K (r0,()) h) h⟩
abbrev Zu5 (f10:ZqF):Cfg:=Yn Tryz.prog [(325,Zr9 f10)] 16 [] [] [] Yo
theorem ZtI (f10:ZqF):Yx (Zu5 f10) Tryz.f309 (.leaf) (Zr8 (YU f10)):=fun _ _ _ _=>by kernel_rfl
theorem Zuo:Zr Tryz.prog 309 (Zr8 Z4):=okF (ZtI ZQ) Tryz.func309 Zs (ZO _ (.cons Zup .nil) .nil .nil .nil (ZM _))
abbrev Zr7 (f:ZqD):Zh:=⟨[.one (.P),.one (.I .i32)],[.one (.I .i64),.one (.V)],fun t K _ h=>f t.1 t.2.1 (fun r0 r1 h=>K (r0,r1,()) h) h⟩
abbrev Zu4 (f5:zT5) (f11:ZqE):Cfg:=Yn Tryz.prog [(251,⟨[.one (.P)],[],fun t K _ h=>f5 t.1 (fun h=>K (()) h) h⟩),(309,Zr8 f11)] 30 [] [] [] Yo
theorem ZtH (f5:zT5) (f11:ZqE):Yx (Zu4 f5 f11) Tryz.f255 (.leaf) (Zr7 (YI f5 f11)):=fun _ _ _ _=>by kernel_rfl
theorem Zun:Zr Tryz.prog 255 (Zr7 ZZ):=okF (ZtH Zx Z4) Tryz.func255 Zs (ZO _ (.cons YC (.cons Zuo .nil)) .nil .nil .nil (ZM _))
abbrev Zr6 (f:ZqC):Zh:=⟨[.one (.P),.one (.P)],[],fun t K Kp h=>f t.1 t.2.1 (fun h=>K (()) h) Kp h⟩
abbrev Zu3 (f2:zT2) (f0:zT0) (f6:zT6) (f3:zT3) (f7:zT7) (f9:zT9) (f12:ZqD):Cfg:=Yn Tryz.prog [(166,zk2 f2),(171,⟨[.one (.S),.one (.I .u8)],[.one (.I .i64)],fun t K _ h=>f0 t.1 t.2.1 (fun r0 h=>K (r0,()) h) h⟩),(184,zk6 f6),(98,zk3 f3),(297,zk7 f7),(196,zk9 f9),(255,Zr7 f12)] 114 [] [] [] Yo
theorem ZtG (f2:zT2) (f0:zT0) (f6:zT6) (f3:zT3) (f7:zT7) (f9:zT9) (f12:ZqD):Yx (Zu3 f2 f0 f6 f3 f7 f9 f12) Tryz.f240 (.seq (.leaf) (.cut [] [] [(5,5),(11,37)] (.leaf) (.cut [] [] [(38,45)] (.leaf) (.seq (.leaf) (.seq (.leaf) (.cut [] [] [(7,8),(55,104)] (.cut [72] [.one (.B)] [(55,71)] (.leaf) (.leaf)) (.cut [6] [.one (.I .i32)] [(105,110)] (.leaf) (.leaf)))))))) (Zr6 (XL f2 f0 f6 f3 f7 f9 f12)):=fun _ _ _ _=>by kernel_rfl
theorem Zum:Zr Tryz.prog 240 (Zr6 YA):=okF (ZtG Zi ZY Zl Zf Y1 YE ZZ) Tryz.func240 Zs (ZO _ (.cons zo2 (.cons XG (.cons zo6 (.cons zo3 (.cons zo7 (.cons zo9 (.cons Zun .nil))))))) .nil .nil .nil (ZM _))
abbrev Zr5 (f:ZqB):Zh:=⟨[.one (.S)],[.one (.B)],fun t K _ h=>f t.1 (fun r0 h=>K (r0,()) h) h⟩
abbrev Zu2 (f14:Zsg) (f15:Zly):Cfg:=Yn Tryz.prog [(323,⟨[.one (.S)],[.one (.I .i64)],fun t K _ h=>f14 t.1 (fun r0 h=>K (r0,()) h) h⟩),(163,⟨[.one (.S)],[.one (.B)],fun t K _ h=>f15 t.1 (fun r0 h=>K (r0,()) h) h⟩)] 64 [] [] [] Yo
theorem ZtF (f14:Zsg) (f15:Zly):Yx (Zu2 f14 f15) Tryz.f298 (.seq (.leaf) (.seq (.seq (.leaf) (.block (.loop [11] [.one (.I .i64)] [(2,2),(4,8),(12,56)] (.seq (.leaf) (.seq (.leaf) (.seq (.block (.seq (.leaf) (.seq (.seq (.leaf) (.block (.loop [5] [.one (.I .i64)] [(2,2),(6,7),(17,36)] (.leaf)))) (.leaf)))) (.leaf))))))) (.leaf))) (Zr5 (Zb7 f14 f15)):=fun _ _ _ _=>by kernel_rfl
theorem Zul:Zr Tryz.prog 298 (Zr5 Zag):=okF (ZtF ZT Zw) Tryz.func298 Zs (ZO _ (.cons Zac (.cons Ya .nil)) .nil .nil .nil (ZM _))
abbrev Zp8 (f:ZlC):Zh:=⟨[.one (.P),.one (.S)],[.one (.I .i64),.one (.V)],fun t K _ h=>f t.1 t.2.1 (fun r0 r1 h=>K (r0,r1,()) h) h⟩
abbrev Zu1 (f5:zT5):Cfg:=Yn Tryz.prog [(251,⟨[.one (.P)],[],fun t K _ h=>f5 t.1 (fun h=>K (()) h) h⟩)] 19 [] [] [] Yo
theorem ZtE (f5:zT5):Yx (Zu1 f5) Tryz.f183 (.leaf) (Zp8 (Z7 f5)):=fun _ _ _ _=>by kernel_rfl
theorem ZrC:Zr Tryz.prog 183 (Zp8 Zk):=okF (ZtE Zx) Tryz.func183 Zs (ZO _ (.cons YC .nil) .nil .nil .nil (ZM _))
abbrev Zr4 (f:ZqA):Zh:=⟨[.one (.P),.one (.P)],[],fun t K Kp h=>f t.1 t.2.1 (fun h=>K (()) h) Kp h⟩
abbrev Zu0 (f3:zT3) (f16:ZqB) (f15:Zly) (f17:ZlC):Cfg:=Yn Tryz.prog [(98,zk3 f3),(298,Zr5 f16),(163,⟨[.one (.S)],[.one (.B)],fun t K _ h=>f15 t.1 (fun r0 h=>K (r0,()) h) h⟩),(183,Zp8 f17)] 67 [] [] [] Yo
theorem ZtD (f3:zT3) (f16:ZqB) (f15:Zly) (f17:ZlC):Yx (Zu0 f3 f16 f15 f17) Tryz.f241 (.seq (.leaf) (.block (.loop [4] [.one (.I .i64)] [(5,66)] (.seq (.block (.cut [] [] [(8,26)] (.leaf) (.seq (.leaf) (.cut [] [] [(42,53)] (.leaf) (.leaf))))) (.leaf))))) (Zr4 (X1 f3 f16 f15 f17)):=fun _ _ _ _=>by kernel_rfl
theorem Zuk:Zr Tryz.prog 241 (Zr4 YG):=okF (ZtD Zf Zag Zw Zk) Tryz.func241 Zs (ZO _ (.cons zo3 (.cons Zul (.cons Ya (.cons ZrC .nil)))) .nil .nil .nil (ZM _))
abbrev Zrs (f:ZoE):Zh:=⟨[.one (.P)],[.one (.S)],fun t K Kp h=>f t.1 (fun r0 h=>K (r0,()) h) Kp h⟩
abbrev ZuZ (f2:zT2) (f3:zT3) (f4:zT4) (f13:ZqC) (f6:zT6) (f18:ZqA):Cfg:=Yn Tryz.prog [(166,zk2 f2),(98,zk3 f3),(115,⟨[.one (.P)],[.one (.S)],fun t K _ h=>f4 t.1 (fun r0 h=>K (r0,()) h) h⟩),(240,Zr6 f13),(184,zk6 f6),(241,Zr4 f18)] 72 [] [] [] Yo
theorem ZtC (f2:zT2) (f3:zT3) (f4:zT4) (f13:ZqC) (f6:zT6) (f18:ZqA):Yx (ZuZ f2 f3 f4 f13 f6 f18) Tryz.f168 (.seq (.leaf) (.seq (.leaf) (.seq (.leaf) (.block (.loop [] [] [(2,2),(4,4),(12,71)] (.block (.seq (.leaf) (.block (.cut [16] [.one (.B)] [(17,30)] (.leaf) (.leaf)))))))))) (Zrs (Zaj f2 f3 f4 f13 f6 f18)):=fun _ _ _ _=>by kernel_rfl
theorem ZsS:Zr Tryz.prog 168 (Zrs Yc):=okF (ZtC Zi Zf ZS YA Zl YG) Tryz.func168 Zs (ZO _ (.cons zo2 (.cons zo3 (.cons XQ (.cons Zum (.cons zo6 (.cons Zuk .nil)))))) .nil .nil .nil (ZM _))
abbrev Znt (f:Zhd):Zh:=⟨[.one (.P),.one (.I .i64)],[.agg [.I .u8,.S,.L,.L]],fun t K Kp h=>f t.1 t.2.1 (fun r0 h=>K (r0,()) h) Kp h⟩
abbrev Zr3 (f:Zqz):Zh:=⟨[.one (.P),.one (.P),.one (.I .i64)],[],fun t K Kp h=>f t.1 t.2.1 t.2.2.1 (fun h=>K (()) h) Kp h⟩
abbrev ZuX (f1:zT1) (f2:zT2) (f3:zT3) (f19:ZoE) (f20:Zhd):Cfg:=Yn Tryz.prog [(97,zk1 f1),(166,zk2 f2),(98,zk3 f3),(168,Zrs f19),(96,Znt f20)] 66 [] [] [] Yo
theorem ZtA (f1:zT1) (f2:zT2) (f3:zT3) (f19:ZoE) (f20:Zhd):Yx (ZuX f1 f2 f3 f19 f20) Tryz.f239 (.seq (.leaf) (.cut [] [] [(8,50)] (.seq (.leaf) (.cond (.cut [] [] [(13,21)] (.leaf) (.seq (.order (.take 0 (.take 1 (.take 2 (.take 3 (.take 5 (.take 4 (.take 6 (.take 7 (.take 8 (.take 9 (.take 10 (.take 11 .done))))))))))))) (.seq (.leaf) (.cut [] [] [(35,43)] (.leaf) (.leaf))))) (.leaf))) (.seq (.order (.take 0 (.take 1 (.take 2 (.take 4 (.take 5 (.take 3 (.take 7 (.fork 6 (.take 8 (.take 9 (.take 10 (.take 12 (.take 13 (.fork 11 (.take 14 .done) 14 (.take 11 .done))))))) 8 (.take 6 (.take 9 (.take 10 (.take 12 (.take 13 (.fork 11 (.take 14 .done) 14 (.take 11 .done)))))))))))))))) (.leaf)))) (Zr3 (Zak f1 f2 f3 f19 f20)):=fun _ _ _ _=>by kernel_rfl
theorem ZtS (f20:Zhd) (hH:Zr Tryz.prog 96 (Znt f20)):Zr Tryz.prog 239 (Zr3 (YN f20)):=okF (ZtA Zv Zi Zf Yc f20) Tryz.func239 Zs (ZO _ (.cons zo1 (.cons zo2 (.cons zo3 (.cons ZsS (.cons hH .nil))))) .nil .nil .nil (ZM _)) (hlen:=Nat.le_of_ble_eq_true rfl)
abbrev Zr2 (f:Zqy):Zh:=⟨[.one (.P),.one (.I .u8),.one (.I .u8),.one (.I .i64)],[.agg [.I .u8,.S,.L,.L]],fun t K Kp h=>f t.1 t.2.1 t.2.2.1 t.2.2.2.1 (fun r0 h=>K (r0,()) h) Kp h⟩
abbrev ZuW (f3:zT3) (f1:zT1) (f2:zT2) (f21:Zqz):Cfg:=Yn Tryz.prog [(98,zk3 f3),(97,zk1 f1),(166,zk2 f2),(239,Zr3 f21)] 77 [] [] [] Yo
theorem Ztz (f3:zT3) (f1:zT1) (f2:zT2) (f21:Zqz):Yx (ZuW f3 f1 f2 f21) Tryz.f167 (.seq (.leaf) (.cut [] [] [(10,17)] (.leaf) (.seq (.leaf) (.seq (.leaf) (.seq (.leaf) (.seq (.block (.loop [] [] [(29,68)] (.cut [] [] [(29,44)] (.leaf) (.block (.cut [] [] [(45,64)] (.seq (.leaf) (.cond (.cut [] [] [(49,57)] (.leaf) (.leaf)) (.leaf))) (.leaf)))))) (.leaf))))))) (Zr2 (Xe f3 f1 f2 f21)):=fun _ _ _ _=>by kernel_rfl
theorem ZtR (f20:Zhd) (hH:Zr Tryz.prog 96 (Znt f20)):Zr Tryz.prog 167 (Zr2 (ZX f20)):=okF (Ztz Zf Zv Zi (YN f20)) Tryz.func167 Zs (ZO _ (.cons zo3 (.cons zo1 (.cons zo2 (.cons (ZtS f20 hH) .nil)))) .nil .nil .nil (ZM _)) (hlen:=Nat.le_of_ble_eq_true rfl)
abbrev Zr1 (f:Zqx):Zh:=⟨[.one (.P),.one (.S),.one (.I .u8)],[.agg [.I .u8,.S,.L,.L]],fun t K Kp h=>f t.1 t.2.1 t.2.2.1 (fun r0 h=>K (r0,()) h) Kp h⟩
abbrev ZuV (f2:zT2) (f3:zT3):Cfg:=Yn Tryz.prog [(166,zk2 f2),(98,zk3 f3)] 47 [] [] [] Yo
theorem Zty (f2:zT2) (f3:zT3):Yx (ZuV f2 f3) Tryz.f169 (.seq (.leaf) (.seq (.seq (.leaf) (.block (.loop [10] [.one (.I .i64)] [(7,7),(11,44)] (.seq (.leaf) (.seq (.leaf) (.seq (.block (.seq (.leaf) (.cut [] [] [(13,36)] (.leaf) (.leaf)))) (.leaf))))))) (.leaf))) (Zr1 (Zai f2 f3)):=fun _ _ _ _=>by kernel_rfl
theorem Zui:Zr Tryz.prog 169 (Zr1 YP):=okF (Zty Zi Zf) Tryz.func169 Zs (ZO _ (.cons zo2 (.cons zo3 .nil)) .nil .nil .nil (ZM _))
abbrev Zr0 (f:Zqw):Zh:=⟨[.one (.P)],[],fun t K Kp h=>f t.1 (fun h=>K (()) h) Kp h⟩
abbrev ZuU (f2:zT2) (f3:zT3):Cfg:=Yn Tryz.prog [(166,zk2 f2),(98,zk3 f3)] 35 [] [] [] Yo
theorem Ztx (f2:zT2) (f3:zT3):Yx (ZuU f2 f3) Tryz.f242 (.cut [] [] [(2,2),(4,17)] (.leaf) (.seq (.leaf) (.block (.loop [3] [.one (.I .u8)] [(20,34)] (.leaf))))) (Zr0 (XM f2 f3)):=fun _ _ _ _=>by kernel_rfl
theorem Zuh:Zr Tryz.prog 242 (Zr0 ZG):=okF (Ztx Zi Zf) Tryz.func242 Zs (ZO _ (.cons zo2 (.cons zo3 .nil)) .nil .nil .nil (ZM _))
abbrev ZrZ (f:Zqv):Zh:=⟨[.one (.P)],[.agg [.I .u8,.S,.L,.L]],fun t K Kp h=>f t.1 (fun r0 h=>K (r0,()) h) Kp h⟩
abbrev ZuT (f2:zT2) (f3:zT3) (f24:Zqw):Cfg:=Yn Tryz.prog [(166,zk2 f2),(98,zk3 f3),(242,Zr0 f24)] 102 [] [] [] Yo
theorem Ztw (f2:zT2) (f3:zT3) (f24:Zqw):Yx (ZuT f2 f3 f24) Tryz.f170 (.seq (.leaf) (.seq (.leaf) (.cut [] [] [(11,20)] (.leaf) (.cut [] [] [(4,4),(21,46)] (.leaf) (.cut [] [] [(47,58)] (.leaf) (.cut [] [] [(5,6),(59,90)] (.leaf) (.seq (.order (.take 0 (.take 1 (.take 2 (.take 4 (.take 5 (.take 6 (.take 7 (.take 3 (.take 8 (.take 9 (.take 10 (.take 11 .done))))))))))))) (.leaf)))))))) (ZrZ (XK f2 f3 f24)):=fun _ _ _ _=>by kernel_rfl
theorem Zug:Zr Tryz.prog 170 (ZrZ Yi):=okF (Ztw Zi Zf ZG) Tryz.func170 Zs (ZO _ (.cons zo2 (.cons zo3 (.cons Zuh .nil))) .nil .nil .nil (ZM _))
abbrev ZuY (f1:zT1) (f2:zT2) (f3:zT3) (f22:Zqy) (f19:ZoE) (f23:Zqx) (f25:Zqv):Cfg:=Yn Tryz.prog [(97,zk1 f1),(166,zk2 f2),(98,zk3 f3),(167,Zr2 f22),(168,Zrs f19),(169,Zr1 f23),(170,ZrZ f25)] 80 [] [] [] Yo
theorem ZtB (f1:zT1) (f2:zT2) (f3:zT3) (f22:Zqy) (f19:ZoE) (f23:Zqx) (f25:Zqv):Yx (ZuY f1 f2 f3 f22 f19 f23 f25) Tryz.f96 (.seq (.leaf) (.seq (.leaf) (.cut [] [] [(5,5),(8,72)] (.leaf) (.leaf)))) (Znt (X0 f1 f2 f3 f22 f19 f23 f25)):=fun _ _ _ _=>by kernel_rfl
theorem ZtT (f20:Zhd) (hH:Zr Tryz.prog 96 (Znt f20)):Zr Tryz.prog 96 (Znt (Y8 f20)):=okF (ZtB Zv Zi Zf (ZX f20) Yc YP Yi) Tryz.func96 Zs (ZO _ (.cons zo1 (.cons zo2 (.cons zo3 (.cons (ZtR f20 hH) (.cons ZsS (.cons Zui (.cons Zug .nil))))))) .nil .nil .nil (ZM _)) (hlen:=Nat.le_of_ble_eq_true rfl)
theorem ZsO:∀ n,Zr Tryz.prog 96 (Znt (Z9 n))
 | 0=>Zfr Tryz.func96 (by kernel_rfl) (by kernel_rfl) fun _ _ _ _ h=>h
 | n+1=>ZtT _ (ZsO n)
theorem Zuj:Zr Tryz.prog 96 (Znt Xb):=Zmp ZsO
def sq1:Code→Code
  | .seq x _=>x
  | c=>c
def sq2:Code→Code
  | .seq _ y=>y
  | c=>c
def ZnT:Code:=Tryz.f25.body.getD .skip
def pA:Code:=sq1 ZnT
def pB:Code:=sq1 (sq2 ZnT)
def pR:Code:=sq2 (sq2 (sq2 ZnT))
def pD:Code:=sq1 (sq2 (sq2 ZnT))
theorem ZnS:Tryz.f25.body=some (.seq pA (.seq pB (.seq pD pR))):=by kernel_rfl
abbrev Zin:List VT:=[.agg [.I .u8,.S,.L,.L],.one (.I .i64),.one (.I .i64)]
def ZnU (p:Value→HP):Cfg:={ Yn Tryz.prog [(96,Znt Xb),(97,zk1 Zv),(98,zk3 Zf)] 32 [] [] [] Yo with pan:=p,rnd:=none }
theorem Zjg (p:Value→HP):(ZnU p).OK:=(ZO (Yn Tryz.prog [(96,Znt Xb),(97,zk1 Zv),(98,zk3 Zf)] 32 [] [] [] Yo) (.cons Zuj (.cons zo1 (.cons zo3 .nil))) .nil .nil .nil (ZM _)).at none p
def Znx (K:Yr Zin→HP) (e:Env) (h:Zc):Prop:=Zlz (ZnU fun _ _=>False) e h Tryz.f25.results.toList fun vs=>match Yr.un Zin vs with
  | some r=>K r h
  | none=>False
def Zp3 (b2 b3 b4:Nat):Env:=⟨fun j=>bif Nat.beq j 2 then some (.adr b2 0) else bif Nat.beq j 3 then some (.adr b3 0) else bif Nat.beq j 4 then some (.adr b4 0) else none,.no⟩
def Zsk (b2 b3 b4:Nat) (E:HP) (v:Value) (h:Zc):Prop:=∃ e n,v = .iface 160 (.agg #[.int .i64 e,.int .i64 n])∧Zrw b2 b3 b4 e n E h
def clo (b2 b3 b4:Nat):Deferred:={ target:= .fn (.func 95) #[.pointer (some ⟨b2,0,none⟩),.pointer (some ⟨b3,0,none⟩),.pointer (some ⟨b4,0,none⟩)],args:= #[]}
def ZsX (e:Env) (b2 b3 b4:Nat):Env:=⟨fun j=>bif Nat.beq j 10 then none else e.f j,.raw [clo b2 b3 b4]⟩
def prd (s:ByteArray) (K:Yr Zin→HP) (h:Zc):Prop :=
  wpC (ZnU fun _ _=>False) (.seq pA pB) .leaf (ZdC [.val (.string s)]) h fun x e h'=>match x with
    | .ret=>Znx K e h'
    | .normal=>match e.f 2,e.f 3,e.f 4 with
      | some (.adr b2 0),some (.adr b3 0),some (.adr b4 0)=>wpC (ZnU (Zsk b2 b3 b4 (Znx K (Zp3 b2 b3 b4)))) pR .leaf (ZsX e b2 b3 b4) h' fun x e2 h2=>match x with
          | .normal=>Znx K e2 h2
          | .ret=>Znx K e2 h2
          | .exit _=>False
      | _,_,_=>False
    | .exit _=>False
theorem Zjb {e:Env} {a:Act} {w:World} {K:Yr Zin→HP} (hag:∀ j v,e j=some v→a.tmps[j]?=some v.v) (h:Znx K e w.heap):∃ v,(results Tryz.f25 a.tmps).run Tryz.prog w = .ok v w∧∃ r,v=ZoN Zin r∧K r w.heap:=by
  have hag':Agr a.tmps.size ⟨e.f,.raw a.defers⟩ a:=⟨rfl,rfl,hag⟩
  have h':Zlz { ZnU (fun _ _=>False) with n:=a.tmps.size } ⟨e.f,.raw a.defers⟩ w.heap Tryz.f25.results.toList fun vs=>match Yr.un Zin vs with
    | some r=>K r w.heap
    | none=>False:=h
  obtain ⟨vs,hr,hk⟩:=ZdN (c:={ ZnU (fun _ _=>False) with n:=a.tmps.size }) (f:=fun
    | .tmp t=>pure (a.tmps.getD t undef)
    | .cell x t=>do loadVar t (← asAddr (a.tmps.getD x undef))) hag' (fun _=>rfl) (fun _ _=>rfl) h'
  split at hk
  ·rename_i r hun
   refine ⟨ZoN Zin r,?_,r,rfl,hk⟩
   unfold results
   rw [Array.mapM_eq_mapM_toList]
   simp only [Sem.run_bind,Sem.run_map]
   refine (congrArg (fun r=>(Result.andThen (Result.andThen r _) _)) hr).trans ?_
   simp only [Result.andThen_ok,Sem.run_pure]
   rw [Zmd hun]
   exact congrArg (fun v=>Result.ok v w) (Zid _)
  ·exact hk.elim
def Zri:Code:=Tryz.f95.body.getD .skip
def cl1:Code:=sq1 Zri
def cl2:Code:=sq2 Zri
theorem Zkt:Tryz.f95.body=some (.seq cl1 cl2):=by kernel_rfl
def Zry:Ann:= .block (.seq (.leaf) (.cond (.leaf) (.seq (.leaf) (.cond (.seq (.leaf) (.order (.take 0 (.take 1 (.take 3 (.take 2 (.take 4 (.take 5 (.take 6 (.take 7 .done)))))))))) (.leaf)))))
def ZpQ:Cfg:={ Yn Tryz.prog [] 17 [] [] [] Yo with pan:=fun _ _=>False,rnd:=none }
theorem Zna:ZpQ.OK:=(ZO (Yn Tryz.prog [] 17 [] [] [] Yo) .nil .nil .nil .nil (ZM _)).at none _
def ptr (b:Nat):Value:= .pointer (some ⟨b,0,none⟩)
def Zp4 (b2 b3 b4:Nat) (v:Value):Env:=⟨fun j=>bif Nat.beq j 0 then some (.val (.pointer (some ⟨b2,0,none⟩))) else bif Nat.beq j 1 then some (.val (.pointer (some ⟨b3,0,none⟩))) else bif Nat.beq j 2 then some (.val (.pointer (some ⟨b4,0,none⟩))) else bif Nat.beq j 6 then some (.val v) else none,.no⟩
theorem Zg4 {b2 b3 b4:Nat} {x:Value} {j:Nat} {v:EV} (h:(Zp4 b2 b3 b4 x).f j=some v):(j=0∧v = .val (ptr b2))∨(j=1∧v = .val (ptr b3))∨(j=2∧v = .val (ptr b4))∨(j=6∧v = .val x):=by
  unfold Zp4 at h
  dsimp only at h
  cases h0:Nat.beq j 0 with
  | true=>rw [h0] at h;cases h;exact .inl ⟨Nat.eq_of_beq_eq_true h0,rfl⟩
  | false =>
    rw [h0] at h
    cases h1:Nat.beq j 1 with
    | true=>rw [h1] at h;cases h;exact .inr (.inl ⟨Nat.eq_of_beq_eq_true h1,rfl⟩)
    | false =>
      rw [h1] at h
      cases h2:Nat.beq j 2 with
      | true=>rw [h2] at h;cases h;exact .inr (.inr (.inl ⟨Nat.eq_of_beq_eq_true h2,rfl⟩))
      | false =>
        rw [h2] at h
        cases h6:Nat.beq j 6 with
        | true=>rw [h6] at h;cases h;exact .inr (.inr (.inr ⟨Nat.eq_of_beq_eq_true h6,rfl⟩))
        | false=>rw [h6] at h;cases h
def ZnX (E:HP):Ex→Env→Zc→Prop
  | .normal,_,h=>E h
  | _,_,_=>False
theorem rdC (b2 b3 b4:Nat) (e n:Int) (E:HP) (h:Zc):wpC ZpQ cl2 Zry (Zp4 b2 b3 b4 (.iface 160 (.agg #[.int .i64 e,.int .i64 n]))) h (ZnX E)=Zrw b2 b3 b4 e n E h:=by kernel_rfl
theorem Zo3:cl1 = .region 0 #[⟨some 6,.call ⟨.builtin .recover,#[],#[]⟩,20, "json.go:273", #[],none⟩] false:=by kernel_rfl
theorem Zmu {l:List Nat} (h:Zf3 l mkN=false):mkN∉l:=by
  induction l with
  | nil=>intro h9;cases h9
  | cons x xs ih =>
    intro h9
    simp only [Zf3] at h
    cases hx:Nat.beq mkN x with
    | true=>rw [hx] at h;cases h
    | false =>
      rw [hx] at h
      rcases List.mem_cons.1 h9 with h9 | h9
      ·rw [← h9,Nat.beq_refl] at hx;cases hx
      ·exact ih h h9
set_option maxRecDepth 100000 in
theorem Zjz {b2 b3 b4:Nat} {e n:Int} {E:HP} {w:World} (hk:Zrw b2 b3 b4 e n E w.heap) :
    CallsD Tryz.prog 95 #[ptr b2,ptr b3,ptr b4] (.panicking [{ v:= .iface 160 (.agg #[.int .i64 e,.int .i64 n]),recovered:=false }]) w fun e' u' w' =>
      e' = .returned (.tuple #[])∧u' = .panicking [{ v:= .iface 160 (.agg #[.int .i64 e,.int .i64 n]),recovered:=true }]∧Fw.Same w w'∧E w'.heap:=by
  refine callsD_of_wpS Tryz.func95 Zkt fun c₀ cs hu=>?_
  apply wpS_seq
  rw [Zo3]
  apply wpS_region
  simp [wpOpsS,go_sem,recoverD,hu,Tryz.ntmps95,Exit.thenS]
  refine wpS_of_wp ((wpIn_wide (n:=0)).1 (wpIn_mono (Yy cl2 ZpQ Zna Zs Zry (Zp4 b2 b3 b4 (.iface 160 (.agg #[.int .i64 e,.int .i64 n]))) _ w (ZnX E) ?_ (by rw [rdC];exact hk)) ?_))
  ·refine ⟨by simp [ZpQ,Yn,ptr],rfl,fun j v hj=>?_⟩
   have hv:(j=0∧v = .val (ptr b2))∨(j=1∧v = .val (ptr b3))∨(j=2∧v = .val (ptr b4))∨(j=6∧v = .val (.iface 160 (.agg #[.int .i64 e,.int .i64 n]))):=Zg4 hj
   rcases hv with ⟨rfl,rfl⟩ | ⟨rfl,rfl⟩ | ⟨rfl,rfl⟩ | ⟨rfl,rfl⟩<;>simp [EV.v,Array.getElem?_append]
  ·intro ex a' w' hp
   cases ex with
   | normal =>
     obtain ⟨e',h1,h2,h3,h4⟩:=hp
     have hd:=h3.2 (Zmu (by kernel_rfl))
     exact ⟨hd,_,rfl,.tuple #[],by simp [results,Tryz.results95],rfl,rfl,h2,h4⟩
   | ret=>obtain ⟨e',h1,h2,h3,h4⟩:=hp;exact h4.elim
   | exit id=>obtain ⟨e',h1,h2,h3,h4⟩:=hp;exact h4.elim
   | goto t=>exact hp.elim
   | outgrown=>exact hp.elim
   | panic ch=>obtain ⟨v,h1,h2,h3,h4⟩:=hp;exact h4.elim
theorem rdN (b2 b3 b4:Nat) (E:HP) (h:Zc):wpC ZpQ cl2 Zry (Zp4 b2 b3 b4 .nilIface) h (ZnX E)=(Zex .nilIface fun b=>ZD b (E h) False):=by kernel_rfl
set_option maxRecDepth 100000 in
theorem Zlg {b2 b3 b4:Nat} {w:World}:CallsD Tryz.prog 95 #[ptr b2,ptr b3,ptr b4] .returning w fun e' u' w'=>e' = .returned (.tuple #[])∧u' = .returning∧Fw.Same w w'∧w'.heap=w.heap:=by
  refine callsD_of_wpS Tryz.func95 Zkt fun c₀ cs hu=>?_
  apply wpS_seq
  rw [Zo3]
  apply wpS_region
  simp [wpOpsS,go_sem,recoverD,hu,Tryz.ntmps95,Exit.thenS]
  refine wpS_of_wp ((wpIn_wide (n:=0)).1 (wpIn_mono (Yy cl2 ZpQ Zna Zs Zry (Zp4 b2 b3 b4 .nilIface) _ w (ZnX fun h=>h=w.heap) ?_ (by rw [rdN];exact .inl ⟨rfl,Zp rfl rfl⟩)) ?_))
  ·refine ⟨by simp [ZpQ,Yn,ptr],rfl,fun j v hj=>?_⟩
   have hv:(j=0∧v = .val (ptr b2))∨(j=1∧v = .val (ptr b3))∨(j=2∧v = .val (ptr b4))∨(j=6∧v = .val .nilIface):=Zg4 hj
   rcases hv with ⟨rfl,rfl⟩ | ⟨rfl,rfl⟩ | ⟨rfl,rfl⟩ | ⟨rfl,rfl⟩<;>simp [EV.v,Array.getElem?_append]
  ·intro ex a' w' hp
   cases ex with
   | normal =>
     obtain ⟨e',h1,h2,h3,h4⟩:=hp
     have hd:=h3.2 (Zmu (by kernel_rfl))
     refine ⟨hd,.returning,?_,.tuple #[],by simp [results,Tryz.results95],rfl,rfl,h2,h4⟩
     cases c₀
     simp_all
   | ret=>obtain ⟨e',h1,h2,h3,h4⟩:=hp;exact h4.elim
   | exit id=>obtain ⟨e',h1,h2,h3,h4⟩:=hp;exact h4.elim
   | goto t=>exact hp.elim
   | outgrown=>exact hp.elim
   | panic ch=>obtain ⟨v,h1,h2,h3,h4⟩:=hp;exact h4.elim
theorem Zsl:pD = .region 3 #[⟨some 10,.makeFunc (.func 95) #[] #[.tmp 2,.tmp 3,.tmp 4],1, "json.go:272", #[],none⟩,⟨none,.defer ⟨.value (.tmp 10),#[],#[]⟩,0, "json.go:272", #[⟨0,.data⟩],none⟩] false:=by kernel_rfl
theorem wpD {a:Act} {w:World} {Q:Exit→Act→World→Prop} {b2 b3 b4:Nat} (h2:a.tmps[2]?=some (ptr b2)) (h3:a.tmps[3]?=some (ptr b3)) (h4:a.tmps[4]?=some (ptr b4)) (hd:a.defers=[]) (hs:a.tmps.size=32)
    (h:pR.wp Tryz.prog Q { tmps:=a.tmps.setIfInBounds 10 (.func (.func 95) #[] #[ptr b2,ptr b3,ptr b4]),defers:=[clo b2 b3 b4]} w):(Code.seq pD pR).wp Tryz.prog Q a w:=by
  apply wp_seq
  rw [Zsl]
  apply wp_region
  have hmf:∀ (fn:Fn) (first cap:Array Value) (w:World),(Instr.makeFunc fn first cap).run Tryz.prog w = .ok (.func fn first cap) w:=fun _ _ _ _=>rfl
  have e2:a.eval (.tmp 2)=ptr b2:=by simp [Act.eval,h2]
  have e3:a.eval (.tmp 3)=ptr b3:=by simp [Act.eval,h3]
  have e4:a.eval (.tmp 4)=ptr b4:=by simp [Act.eval,h4]
  have e10:({ tmps:=a.tmps.setIfInBounds 10 (.func (.func 95) #[] #[ptr b2,ptr b3,ptr b4]),defers:=[]}:Act).eval (.tmp 10) = .func (.func 95) #[] #[ptr b2,ptr b3,ptr b4]:=by simp [Act.eval,hs]
  obtain ⟨tm,df⟩:=a
  dsimp only at hd hs h2 h3 h4
  subst hd
  show wpOps _ _ _ [0,1] _ _
  simp [wpOps,go_sem,hmf,e2,e3,e4,e10,Exit.then]
  refine .inl (.inl ?_)
  have g2:tm[2]'(by omega)=ptr b2:=(Array.getElem?_eq_some_iff.1 h2).2
  have g3:tm[3]'(by omega)=ptr b3:=(Array.getElem?_eq_some_iff.1 h3).2
  have g4:tm[4]'(by omega)=ptr b4:=(Array.getElem?_eq_some_iff.1 h4).2
  simp [g2,g3,g4,hs,Oper.upon]
  exact h
theorem nR:Zf3 (Fw.dstsOf pR) mkN=false∧Zf3 (Fw.dstsOf pR) 2=false∧Zf3 (Fw.dstsOf pR) 3=false∧Zf3 (Fw.dstsOf pR) 4=false∧Zf3 (Fw.dstsOf pA) mkN=false∧Zf3 (Fw.dstsOf pB) mkN=false:=⟨by kernel_rfl,by kernel_rfl,by kernel_rfl,by kernel_rfl,by kernel_rfl,by kernel_rfl⟩
theorem Zay {l:List Nat} {j:Nat} (h:Zf3 l j=false):j∉l:=by
  induction l with
  | nil=>intro h9;cases h9
  | cons x xs ih =>
    intro h9
    simp only [Zf3] at h
    cases hx:Nat.beq j x with
    | true=>rw [hx] at h;cases h
    | false =>
      rw [hx] at h
      rcases List.mem_cons.1 h9 with h9 | h9
      ·rw [← h9,Nat.beq_refl] at hx;cases hx
      ·exact ih h h9
theorem Zlo {b2 b3 b4 j:Nat} {v:EV} (h:(Zp3 b2 b3 b4).f j=some v):(j=2∧v = .adr b2 0)∨(j=3∧v = .adr b3 0)∨(j=4∧v = .adr b4 0):=by
  unfold Zp3 at h
  dsimp only at h
  cases h0:Nat.beq j 2 with
  | true=>rw [h0] at h;cases h;exact .inl ⟨Nat.eq_of_beq_eq_true h0,rfl⟩
  | false =>
    rw [h0] at h
    cases h1:Nat.beq j 3 with
    | true=>rw [h1] at h;cases h;exact .inr (.inl ⟨Nat.eq_of_beq_eq_true h1,rfl⟩)
    | false =>
      rw [h1] at h
      cases h2:Nat.beq j 4 with
      | true=>rw [h2] at h;cases h;exact .inr (.inr ⟨Nat.eq_of_beq_eq_true h2,rfl⟩)
      | false=>rw [h2] at h;cases h
set_option maxRecDepth 100000 in
theorem Znf {a:Act} {w w3:World} {K:Yr Zin→HP} {b2 b3 b4:Nat} {e3:Env} (hag:∀ j v,e3 j=some v→a.tmps[j]?=some v.v) (hd:a.defers=[clo b2 b3 b4]) (hs:Fw.Same w w3) (hk:Znx K e3 w3.heap) :
    Leaves Tryz.prog Tryz.f25 a.tmps (ZaC Zin w K fun _ _=>False) a.defers .returning w3:=by
  rw [hd]
  unfold clo
  refine leaves_cons (f:=95) (args:= #[ptr b2,ptr b3,ptr b4]) (by simp) (by simp [go_sem,ptr]) (Zlg.mono ?_)
  rintro e u w4 ⟨rfl,rfl,h1,h2⟩
  have hk4:Znx K e3 w4.heap:=by rw [h2];exact hk
  obtain ⟨v,hv,r,rfl,hr⟩:=Zjb hag hk4
  exact ⟨_,hv,.inl ⟨r,rfl,hs.trans h1,hr⟩⟩
set_option maxRecDepth 100000 in
theorem ZnW {a:Act} {w w3:World} {K:Yr Zin→HP} {b2 b3 b4:Nat} {v:Value} (h2:a.tmps[2]?=some (ptr b2)) (h3:a.tmps[3]?=some (ptr b3)) (h4:a.tmps[4]?=some (ptr b4)) (hd:a.defers=[clo b2 b3 b4]) (hs:Fw.Same w w3)
    (hk:Zsk b2 b3 b4 (Znx K (Zp3 b2 b3 b4)) v w3.heap):Leaves Tryz.prog Tryz.f25 a.tmps (ZaC Zin w K fun _ _=>False) a.defers (.panicking [{ v,recovered:=false }]) w3:=by
  obtain ⟨e,n,rfl,hc⟩:=hk
  rw [hd]
  unfold clo
  refine leaves_cons (f:=95) (args:= #[ptr b2,ptr b3,ptr b4]) (by simp) (by simp [go_sem,ptr]) ((Zjz hc).mono ?_)
  rintro e' u w4 ⟨rfl,rfl,g1,g2⟩
  have hag:∀ j v,(Zp3 b2 b3 b4) j=some v→a.tmps[j]?=some v.v:=fun j v hj=>by
    have hv:(j=2∧v = .adr b2 0)∨(j=3∧v = .adr b3 0)∨(j=4∧v = .adr b4 0):=Zlo hj
    rcases hv with ⟨rfl,rfl⟩ | ⟨rfl,rfl⟩ | ⟨rfl,rfl⟩
    ·exact h2
    ·exact h3
    ·exact h4
  obtain ⟨v,hv,r,rfl,hr⟩:=Zjb hag g2
  exact ⟨_,hv,.inl ⟨r,rfl,hs.trans g1,hr⟩⟩
theorem ZsF {s:ByteArray}:Agr 32 (ZdC [.val (.string s)]) { tmps:= #[.string s]++Array.replicate 31 undef,defers:=[]}:=by
  refine ⟨by simp,rfl,fun j v hj=>?_⟩
  obtain ⟨k,hk,hv⟩:=Zet [.val (.string s)] 0 j v hj
  cases k with
  | zero=>simp at hk hv;subst hk hv;simp [EV.v]
  | succ k=>simp at hv
theorem Zor {e:Env} {a:Act} {b2 b3 b4:Nat} {x:Value} (h:Agr 32 e a):Agr 32 (ZsX e b2 b3 b4) { tmps:=a.tmps.setIfInBounds 10 x,defers:=[clo b2 b3 b4]}:=by
  refine ⟨by simp [h.size],rfl,fun j v hj=>?_⟩
  have hj':(bif Nat.beq j 10 then none else e.f j)=some v:=hj
  cases h10:Nat.beq j 10 with
  | true=>rw [h10] at hj';cases hj'
  | false =>
    rw [h10] at hj'
    have hne:10≠j:=fun h9=>by rw [← h9] at h10;cases h10
    show (a.tmps.setIfInBounds 10 x)[j]?=_
    rw [Array.getElem?_setIfInBounds_ne hne]
    exact h.val j v hj'
set_option maxRecDepth 100000 in
theorem Zjh {s:ByteArray} {K:Yr Zin→HP} {w:World} (hk:prd s K w.heap):Calls Tryz.prog 25 #[.string s] w (ZaC Zin w K fun _ _=>False):=by
  refine calls_of_wp_defers Tryz.func25 ZnS ?_
  show (Code.seq pA (.seq pB (.seq pD pR))).wp Tryz.prog _ { tmps:= #[.string s]++Array.replicate 31 undef,defers:=[]} w
  obtain ⟨q1,q2,q3,q4,q5,q6⟩:=nR
  have stop:∀ {a:Act} {w1:World} {e:Env},Agr 32 e a→Fw.Same w w1→a.defers=[]→Znx K e w1.heap→Leaves Tryz.prog Tryz.f25 a.tmps (ZaC Zin w K fun _ _=>False) a.defers .returning w1:=fun {a w1 e} g1 g2 g3 g4=>by
    rw [g3]
    obtain ⟨v,hv,r,rfl,hr⟩:=Zjb g1.val g4
    exact ⟨_,hv,.inl ⟨r,rfl,g2,hr⟩⟩
  unfold prd at hk
  have hA:=Yy pA (ZnU fun _ _=>False) (Zjg _) Zs .leaf _ _ w _ ZsF hk
  refine wp_seq ((wpIn_wide (n:=0)).1 (wpIn_mono hA ?_))
  intro ex a1 w1 hp
  cases ex with
  | goto t=>exact hp.elim
  | outgrown=>exact hp.elim
  | panic ch=>obtain ⟨v,h1,h2,h3,h4⟩:=hp;exact h4.elim
  | exit id=>obtain ⟨e1,g1,g2,g3,g4⟩:=hp;exact g4.elim
  | ret =>
    obtain ⟨e1,g1,g2,g3,g4⟩:=hp
    exact stop g1 g2 (g3.2 (Zay q5)) g4
  | normal =>
    obtain ⟨e1,g1,g2,g3,g4⟩:=hp
    have d1:a1.defers=[]:=g3.2 (Zay q5)
    have hB:=Yy pB (ZnU fun _ _=>False) (Zjg _) Zs .leaf _ _ w1 _ g1 g4
    refine wp_seq ((wpIn_wide (n:=0)).1 (wpIn_mono hB ?_))
    intro ex a2 w2 hp
    cases ex with
    | goto t=>exact hp.elim
    | outgrown=>exact hp.elim
    | panic ch=>obtain ⟨v,h1,h2,h3,h4⟩:=hp;exact h4.elim
    | exit id=>obtain ⟨e2,j1,j2,j3,j4⟩:=hp;exact j4.elim
    | ret =>
      obtain ⟨e2,j1,j2,j3,j4⟩:=hp
      exact stop j1 (g2.trans j2) ((j3.2 (Zay q6)).trans d1) j4
    | normal =>
      obtain ⟨e2,j1,j2,j3,j4⟩:=hp
      have d2:a2.defers=[]:=(j3.2 (Zay q6)).trans d1
      dsimp only at j4
      split at j4
      case h_2=>exact j4.elim
      rename_i b2 b3 b4 h2 h3 h4
      have t2:=j1.val 2 _ h2
      have t3:=j1.val 3 _ h3
      have t4:=j1.val 4 _ h4
      refine wpD t2 t3 t4 d2 j1.size ?_
      have hR:=Yy pR (ZnU (Zsk b2 b3 b4 (Znx K (Zp3 b2 b3 b4)))) (Zjg _) Zs .leaf _ _ w2 _ (Zor (x:= .func (.func 95) #[] #[ptr b2,ptr b3,ptr b4]) j1) j4
      refine (wpIn_wide (n:=0)).1 (wpIn_mono hR ?_)
      intro ex a3 w3 hp
      cases ex with
      | goto t=>exact hp.elim
      | outgrown=>exact hp.elim
      | exit id=>obtain ⟨e3,k1,k2,k3,k4⟩:=hp;exact k4.elim
      | normal =>
        obtain ⟨e3,k1,k2,k3,k4⟩:=hp
        exact Znf k1.val (k3.2 (Zay q1)) ((g2.trans j2).trans k2) k4
      | ret =>
        obtain ⟨e3,k1,k2,k3,k4⟩:=hp
        exact Znf k1.val (k3.2 (Zay q1)) ((g2.trans j2).trans k2) k4
      | panic ch =>
        obtain ⟨v,rfl,k2,k3,k4⟩:=hp
        have e2:=(k3.1 2 (Zay q2)).trans (show (a2.tmps.setIfInBounds 10 _)[2]?=some (ptr b2) by rw [Array.getElem?_setIfInBounds_ne (by decide)];exact t2)
        have e3:=(k3.1 3 (Zay q3)).trans (show (a2.tmps.setIfInBounds 10 _)[3]?=some (ptr b3) by rw [Array.getElem?_setIfInBounds_ne (by decide)];exact t3)
        have e4:=(k3.1 4 (Zay q4)).trans (show (a2.tmps.setIfInBounds 10 _)[4]?=some (ptr b4) by rw [Array.getElem?_setIfInBounds_ne (by decide)];exact t4)
        exact ZnW e2 e3 e4 (k3.2 (Zay q1)) ((g2.trans j2).trans k2) k4
theorem rdP (s:ByteArray) (K:(Int × ByteArray × Sl × Sl × Unit)→Int→Int→HP) (h:Zc):prd s (fun r h=>K r.1 r.2.1 r.2.2.1 h) h=Yj s K h:=by kernel_rfl
def Zij:Zh:=⟨[.one (.S)],Zin,fun t K _ h=>Yj t.1 (fun r0 r1 r2 h=>K (r0,r1,r2,()) h) h⟩
set_option maxRecDepth 100000 in
theorem Zk5 {s:ByteArray} {K:(Int × ByteArray × Sl × Sl × Unit)→Int→Int→HP} {w:World} (hk:Yj s K w.heap):Calls Tryz.prog 25 #[.string s] w fun e w'=>∃ r:Yr Zin,e = .returned (ZoN Zin r)∧Fw.Same w w'∧K r.1 r.2.1 r.2.2.1 w'.heap:=by
  have hk':prd s (fun r h=>K r.1 r.2.1 r.2.2.1 h) w.heap:=(rdP s K w.heap).mpr hk
  refine (Zjh hk').mono ?_
  rintro e w' (⟨r,he,hs,hr⟩ | ⟨v,he,hs,hr⟩)
  ·exact ⟨r,he,hs,hr⟩
  ·exact hr.elim
theorem ZbZ:Zr Tryz.prog 25 Zij where
  named:=⟨_,Tryz.func25,by kernel_rfl,by kernel_rfl⟩
  calls t K Kp w hk:=(Zk5 (K:=fun r0 r1 r2 h=>K (r0,r1,r2,()) h) hk).mono fun e w' h9=>let ⟨r,he,hs,hr⟩:=h9;.inl ⟨r,he,hs,hr⟩
abbrev ZrY (f:Zqu):Zh:=⟨[.one (.S)],[.one (.B)],fun t K _ h=>f t.1 (fun r0 h=>K (r0,()) h) h⟩
abbrev ZuS (f26:Znu):Cfg:=Yn Tryz.prog [(25,⟨[.one (.S)],[.agg [.I .u8,.S,.L,.L],.one (.I .i64),.one (.I .i64)],fun t K _ h=>f26 t.1 (fun r0 r1 r2 h=>K (r0,r1,r2,()) h) h⟩)] 25 [] [] [] Yo
theorem Ztv (f26:Znu):Yx (ZuS f26) Tryz.f162 (.leaf) (ZrY (Zbf f26)):=fun _ _ _ _=>by kernel_rfl
theorem Zuf:Zr Tryz.prog 162 (ZrY Xt):=okF (Ztv Yj) Tryz.func162 Zs (ZO _ (.cons ZbZ .nil) .nil .nil .nil (ZM _))
abbrev ZrX (f:Zqt):Zh:=⟨[.one (.S)],[.one (.B)],fun t K _ h=>f t.1 (fun r0 h=>K (r0,()) h) h⟩
abbrev ZuR (f15:Zly):Cfg:=Yn Tryz.prog [(163,⟨[.one (.S)],[.one (.B)],fun t K _ h=>f15 t.1 (fun r0 h=>K (r0,()) h) h⟩)] 6 [] [] [] Yo
theorem Ztu (f15:Zly):Yx (ZuR f15) Tryz.f165 (.leaf) (ZrX (ZbA f15)):=fun _ _ _ _=>by kernel_rfl
theorem Zue:Zr Tryz.prog 165 (ZrX Zaz):=okF (Ztu Zw) Tryz.func165 Zs (ZO _ (.cons Ya .nil) .nil .nil .nil (ZM _))
abbrev ZrW (f:Zqs):Zh:=⟨[.one (.L),.fn 165],[.one (.I .i64)],fun t K _ h=>f t.1 (fun r0 h=>K (r0,()) h) h⟩
abbrev ZuQ (f48:Zqt):Cfg:=Yn Tryz.prog [(165,ZrX f48)] 19 [] [] [] Yo
theorem Ztt (f48:Zqt):Yx (ZuQ f48) Tryz.f238 (.seq (.leaf) (.seq (.seq (.leaf) (.block (.loop [8] [.one (.I .i64)] [(4,5),(9,18)] (.leaf)))) (.leaf))) (ZrW (ZF f48)):=fun _ _ _ _=>by kernel_rfl
theorem Zud:Zr Tryz.prog 238 (ZrW ZA):=okF (Ztt Zaz) Tryz.func238 Zs (ZO _ (.cons Zue .nil) .nil .nil .nil (ZM _))
abbrev ZrV (f:Zqr):Zh:=⟨[.one (.L),.fn 165],[.one (.B)],fun t K _ h=>f t.1 (fun r0 h=>K (r0,()) h) h⟩
abbrev ZuP (f49:Zqs):Cfg:=Yn Tryz.prog [(238,ZrW f49)] 9 [] [] [] Yo
theorem Zts (f49:Zqs):Yx (ZuP f49) Tryz.f164 (.leaf) (ZrV (ZE f49)):=fun _ _ _ _=>by kernel_rfl
theorem Zuc:Zr Tryz.prog 164 (ZrV Zq):=okF (Zts ZA) Tryz.func164 Zs (ZO _ (.cons Zud .nil) .nil .nil .nil (ZM _))
abbrev ZrU (f:Zqq):Zh:=⟨[.agg [.I .u8,.S,.L,.L]],[.one (.B)],fun t K _ h=>f t.1 (fun r0 h=>K (r0,()) h) h⟩
abbrev ZuO (f47:Zqu) (f15:Zly) (f50:Zqr):Cfg:=Yn Tryz.prog [(162,ZrY f47),(163,⟨[.one (.S)],[.one (.B)],fun t K _ h=>f15 t.1 (fun r0 h=>K (r0,()) h) h⟩),(164,ZrV f50)] 86 [] [] [] Yo
theorem Ztr (f47:Zqu) (f15:Zly) (f50:Zqr):Yx (ZuO f47 f15 f50) Tryz.f94 (.seq (.leaf) (.seq (.leaf) (.seq (.seq (.leaf) (.block (.cut [19] [.one (.B)] [(20,22)] (.leaf) (.leaf)))) (.leaf)))) (ZrU (ZcL f47 f15 f50)):=fun _ _ _ _=>by kernel_rfl
theorem Zub:Zr Tryz.prog 94 (ZrU ZaE):=okF (Ztr Xt Zw Zq) Tryz.func94 Zs (ZO _ (.cons Zuf (.cons Ya (.cons Zuc .nil))) .nil .nil .nil (ZM _))
abbrev ZrT (f:Zqp):Zh:=⟨[.agg [.I .u8,.S,.L,.L]],[.one (.B)],fun t K _ h=>f t.1 (fun r0 h=>K (r0,()) h) h⟩
abbrev ZuN:Cfg:=Yn Tryz.prog [] 3 [] [] [] Yo
theorem Ztq:Yx (ZuN) Tryz.f119 (.leaf) (ZrT ZbB):=fun _ _ _ _=>by kernel_rfl
theorem Zua:Zr Tryz.prog 119 (ZrT ZaA):=okF (Ztq) Tryz.func119 Zs (ZO _ .nil .nil .nil .nil (ZM _))
abbrev ZlB (f:ZeX):Zh:=⟨[.one (.P),.agg [.I .u8,.S,.L,.L],.one (.I .i64),.one (.V)],[.one (.B)],fun t K _ h=>f t.1 t.2.1 t.2.2.1 t.2.2.2.1 (fun r0 h=>K (r0,()) h) h⟩
abbrev ZrS (f:Zqo):Zh:=⟨[.agg [.I .u8,.S,.L,.L],.one (.P),.one (.P),.one (.P)],[.one (.B)],fun t K _ h=>f t.1 t.2.1 t.2.2.1 t.2.2.2.1 (fun r0 h=>K (r0,()) h) h⟩
abbrev ZuL (f53:ZeX):Cfg:=Yn Tryz.prog [(93,ZlB f53)] 13 [] [] [] Yo
theorem Zto (f53:ZeX):Yx (ZuL f53) Tryz.f161 (.leaf) (ZrS (X2 f53)):=fun _ _ _ _=>by kernel_rfl
theorem ZtP (f53:ZeX) (hH:Zr Tryz.prog 93 (ZlB f53)):Zr Tryz.prog 161 (ZrS (Y9 f53)):=okF (Zto f53) Tryz.func161 Zs (ZO _ (.cons hH .nil) .nil .nil .nil (ZM _)) (hlen:=Nat.le_of_ble_eq_true rfl)
abbrev ZrR (f:Zqn):Zh:=⟨[.one (.L),.clo 161 [.P,.P,.P]],[.one (.I .i64)],fun t K _ h=>f t.1 t.2.1 (fun r0 h=>K (r0,()) h) h⟩
abbrev ZuK (f54:Zqo):Cfg:=Yn Tryz.prog [(161,ZrS f54)] 19 [] [] [] Yo
theorem Ztn (f54:Zqo):Yx (ZuK f54) Tryz.f236 (.seq (.leaf) (.seq (.seq (.leaf) (.block (.loop [8] [.one (.I .i64)] [(4,5),(9,18)] (.leaf)))) (.leaf))) (ZrR (ZB f54)):=fun _ _ _ _=>by kernel_rfl
theorem ZtO (f53:ZeX) (hH:Zr Tryz.prog 93 (ZlB f53)):Zr Tryz.prog 236 (ZrR (Zu f53)):=okF (Ztn (Y9 f53)) Tryz.func236 Zs (ZO _ (.cons (ZtP f53 hH) .nil) .nil .nil .nil (ZM _)) (hlen:=Nat.le_of_ble_eq_true rfl)
abbrev ZrQ (f:Zqm):Zh:=⟨[.one (.L),.clo 161 [.P,.P,.P]],[.one (.B)],fun t K _ h=>f t.1 t.2.1 (fun r0 h=>K (r0,()) h) h⟩
abbrev ZuJ (f55:Zqn):Cfg:=Yn Tryz.prog [(236,ZrR f55)] 9 [] [] [] Yo
theorem Ztm (f55:Zqn):Yx (ZuJ f55) Tryz.f160 (.leaf) (ZrQ (Zz f55)):=fun _ _ _ _=>by kernel_rfl
theorem ZtN (f53:ZeX) (hH:Zr Tryz.prog 93 (ZlB f53)):Zr Tryz.prog 160 (ZrQ (Zj f53)):=okF (Ztm (Zu f53)) Tryz.func160 Zs (ZO _ (.cons (ZtO f53 hH) .nil) .nil .nil .nil (ZM _)) (hlen:=Nat.le_of_ble_eq_true rfl)
abbrev ZuM (f51:Zqq) (f52:Zqp) (f56:Zqm):Cfg:=Yn Tryz.prog [(94,ZrU f51),(119,ZrT f52),(160,ZrQ f56)] 52 [] [] [] Yo [(94,[]),(119,[])]
theorem Ztp (f51:Zqq) (f52:Zqp) (f56:Zqm):Yx (ZuM f51 f52 f56) Tryz.f93 (.seq (.leaf) (.seq (.leaf) (.seq (.leaf) (.cut [] [] [(8,8),(27,34)] (.leaf) (.seq (.order (.take 0 (.take 1 (.take 2 (.take 3 (.take 4 (.take 5 (.take 6 (.take 7 (.take 8 (.take 9 (.take 10 .done)))))))))))) (.leaf)))))) (ZlB (Zav f51 f52 f56)):=fun _ _ _ _=>by kernel_rfl
theorem ZtQ (f53:ZeX) (hH:Zr Tryz.prog 93 (ZlB f53)):Zr Tryz.prog 93 (ZlB (XC f53)):=okF (Ztp ZaE ZaA (Zj f53)) Tryz.func93 Zs (ZO _ (.cons Zub (.cons Zua (.cons (ZtN f53 hH) .nil))) .nil .nil .nil (ZM _)) (hlen:=Nat.le_of_ble_eq_true rfl)
theorem ZsN:∀ n,Zr Tryz.prog 93 (ZlB (Yp n))
 | 0=>Zfr Tryz.func93 (by kernel_rfl) (by kernel_rfl) fun _ _ _ _ h=>h
 | n+1=>ZtQ _ (ZsN n)
theorem ZsR:Zr Tryz.prog 93 (ZlB Y2):=Zmp ZsN
abbrev Zrr (f:ZoD):Zh:=⟨[.agg [.I .u8,.S,.L,.L]],[.one (.B)],fun t K _ h=>f t.1 (fun r0 h=>K (r0,()) h) h⟩
abbrev ZuI (f53:ZeX):Cfg:=Yn Tryz.prog [(93,ZlB f53)] 16 [] [] [] Yo
theorem Ztl (f53:ZeX):Yx (ZuI f53) Tryz.f22 (.leaf) (Zrr (ZcO f53)):=fun _ _ _ _=>by kernel_rfl
theorem ZsQ:Zr Tryz.prog 22 (Zrr Xv):=okF (Ztl Y2) Tryz.func22 Zs (ZO _ (.cons ZsR .nil) .nil .nil .nil (ZM _))
abbrev Zrq (f:ZoC):Zh:=⟨[.one (.P)],[.one (.I .i64)],fun t K _ h=>f t.1 (fun r0 h=>K (r0,()) h) h⟩
abbrev ZuH:Cfg:=Yn Tryz.prog [] 8 [] [] [] Yo
theorem Ztk:Yx (ZuH) Tryz.f114 (.leaf) (Zrq Xx):=fun _ _ _ _=>by kernel_rfl
theorem ZsP:Zr Tryz.prog 114 (Zrq Z0):=okF (Ztk) Tryz.func114 Zs (ZO _ .nil .nil .nil .nil (ZM _))
abbrev ZrP (f:Zql):Zh:=⟨[.one (.P),.one (.S)],[],fun t K _ h=>f t.1 t.2.1 (fun h=>K (()) h) h⟩
abbrev ZuG (f6:zT6) (f0:zT0) (f17:ZlC):Cfg:=Yn Tryz.prog [(184,zk6 f6),(171,⟨[.one (.S),.one (.I .u8)],[.one (.I .i64)],fun t K _ h=>f0 t.1 t.2.1 (fun r0 h=>K (r0,()) h) h⟩),(183,Zp8 f17)] 81 [] [] [] Yo
theorem Ztj (f6:zT6) (f0:zT0) (f17:ZlC):Yx (ZuG f6 f0 f17) Tryz.f201 (.seq (.leaf) (.seq (.seq (.leaf) (.block (.loop [13] [.one (.I .i64)] [(4,6),(14,76)] (.seq (.leaf) (.seq (.leaf) (.seq (.block (.seq (.leaf) (.seq (.leaf) (.seq (.leaf) (.block (.cut [26] [.one (.B)] [(27,32)] (.leaf) (.cond (.leaf) (.seq (.leaf) (.cond (.seq (.leaf) (.order (.take 0 (.take 1 (.take 2 (.take 3 (.take 4 (.take 5 .done)))))))) (.seq (.leaf) (.cond (.seq (.leaf) (.seq (.order (.take 0 (.take 1 (.take 2 (.take 3 (.take 4 (.take 5 (.take 6 .done)))))))) (.order (.take 0 (.take 1 (.take 2 (.take 3 (.take 4 (.take 5 (.take 6 .done)))))))))) (.leaf)))))))))))) (.leaf))))))) (.leaf))) (ZrP (Zah f6 f0 f17)):=fun _ _ _ _=>by kernel_rfl
theorem Zt9:Zr Tryz.prog 201 (ZrP YO):=okF (Ztj Zl ZY Zk) Tryz.func201 Zs (ZO _ (.cons zo6 (.cons XG (.cons ZrC .nil))) .nil .nil .nil (ZM _))
abbrev Zpa (f:ZjJ):Zh:=⟨[.one (.P),.agg [.I .u8,.S,.L,.L]],[],fun t K _ h=>f t.1 t.2.1 (fun h=>K (()) h) h⟩
abbrev ZuF (f58:ZoC) (f17:ZlC) (f59:Zql) (f6:zT6) (f60:ZjJ):Cfg:=Yn Tryz.prog [(114,Zrq f58),(183,Zp8 f17),(201,ZrP f59),(184,zk6 f6),(113,Zpa f60)] 93 [] [] [] Yo
theorem Zti (f58:ZoC) (f17:ZlC) (f59:Zql) (f6:zT6) (f60:ZjJ):Yx (ZuF f58 f17 f59 f6 f60) Tryz.f113 (.seq (.leaf) (.seq (.leaf) (.seq (.leaf) (.block (.seq (.leaf) (.cond (.leaf) (.seq (.leaf) (.cond (.leaf) (.seq (.leaf) (.cond (.leaf) (.seq (.leaf) (.cond (.order (.take 0 (.take 1 (.take 2 (.take 3 (.take 4 (.take 5 .done))))))) (.seq (.leaf) (.cond (.leaf) (.seq (.leaf) (.cut [4] [.one (.S)] [(14,16)] (.leaf) (.seq (.order (.take 0 (.take 1 (.take 2 (.take 3 (.take 4 (.take 5 .done))))))) (.seq (.seq (.leaf) (.block (.loop [26] [.one (.I .i64)] [(5,6),(27,54)] (.seq (.leaf) (.seq (.leaf) (.seq (.block (.seq (.leaf) (.cut [] [] [(31,36)] (.leaf) (.cut [] [] [(37,50)] (.leaf) (.leaf))))) (.leaf))))))) (.order (.take 0 (.take 1 (.take 2 (.take 3 (.take 4 (.take 5 .done))))))))))))))))))))))))) (Zpa (XZ f58 f17 f59 f6 f60)):=fun _ _ _ _=>by kernel_rfl
theorem ZtM (f60:ZjJ) (hH:Zr Tryz.prog 113 (Zpa f60)):Zr Tryz.prog 113 (Zpa (Y7 f60)):=okF (Zti Z0 Zk YO Zl f60) Tryz.func113 Zs (ZO _ (.cons ZsP (.cons ZrC (.cons Zt9 (.cons zo6 (.cons hH .nil))))) .nil .nil .nil (ZM _)) (hlen:=Nat.le_of_ble_eq_true rfl)
theorem ZsM:∀ n,Zr Tryz.prog 113 (Zpa (Z8 n))
 | 0=>Zfr Tryz.func113 (by kernel_rfl) (by kernel_rfl) fun _ _ _ _ h=>h
 | n+1=>ZtM _ (ZsM n)
theorem Zt8:Zr Tryz.prog 113 (Zpa XW):=Zmp ZsM
abbrev ZrO (f:Zqk):Zh:=⟨[.agg [.I .u8,.S,.L,.L]],[.one (.S),.one (.I .i64)],fun t K _ h=>f t.1 (fun r0 r1 h=>K (r0,r1,()) h) h⟩
abbrev ZuE (f57:ZoD) (f60:ZjJ) (f58:ZoC) (f4:zT4):Cfg:=Yn Tryz.prog [(22,Zrr f57),(113,Zpa f60),(114,Zrq f58),(115,⟨[.one (.P)],[.one (.S)],fun t K _ h=>f4 t.1 (fun r0 h=>K (r0,()) h) h⟩)] 15 [] [] [] Yo
theorem Zth (f57:ZoD) (f60:ZjJ) (f58:ZoC) (f4:zT4):Yx (ZuE f57 f60 f58 f4) Tryz.f36 (.leaf) (ZrO (ZcP f57 f60 f58 f4)):=fun _ _ _ _=>by kernel_rfl
theorem Zt7:Zr Tryz.prog 36 (ZrO ZaH):=okF (Zth Xv XW Z0 ZS) Tryz.func36 Zs (ZO _ (.cons ZsQ (.cons Zt8 (.cons ZsP (.cons XQ .nil)))) .nil .nil .nil (ZM _))
abbrev ZrN (f:Zqj):Zh:=⟨[.one (.I .i64)],[.agg [.I .u8,.S,.L,.L]],fun t K _ h=>f t.1 (fun r0 h=>K (r0,()) h) h⟩
abbrev ZuD (f62:Zsf):Cfg:=Yn Tryz.prog [(31,⟨[.one (.I .i64)],[.one (.S)],fun t K _ h=>f62 t.1 (fun r0 h=>K (r0,()) h) h⟩)] 6 [] [] [] Yo
theorem Ztg (f62:Zsf):Yx (ZuD f62) Tryz.f30 (.leaf) (ZrN (ZcQ f62)):=fun _ _ _ _=>by kernel_rfl
theorem Zt6:Zr Tryz.prog 30 (ZrN ZaI):=okF (Ztg Zbz) Tryz.func30 Zs (ZO _ (.cons Zfq .nil) .nil .nil .nil (ZM _))
abbrev ZrM (f:Zqi):Zh:=⟨[.one (.S),.one (.S)],[.one (.S),.one (.B)],fun t K _ h=>f t.1 t.2.1 (fun r0 r1 h=>K (r0,r1,()) h) h⟩
abbrev ZuC (f8:zT8):Cfg:=Yn Tryz.prog [(249,zk8 f8)] 15 [] [] [] Yo
theorem Ztf (f8:zT8):Yx (ZuC f8) Tryz.f180 (.leaf) (ZrM (Yl f8)):=fun _ _ _ _=>by kernel_rfl
theorem Zt5:Zr Tryz.prog 180 (ZrM ZU):=okF (Ztf Zn) Tryz.func180 Zs (ZO _ (.cons zo8 .nil) .nil .nil .nil (ZM _))
abbrev ZrL (f:Zqh):Zh:=⟨[.one (.S),.one (.S)],[.one (.S),.one (.B)],fun t K _ h=>f t.1 t.2.1 (fun r0 r1 h=>K (r0,r1,()) h) h⟩
abbrev ZuB (f64:Zqi):Cfg:=Yn Tryz.prog [(180,ZrM f64)] 11 [] [] [] Yo
theorem Zte (f64:Zqi):Yx (ZuB f64) Tryz.f101 (.leaf) (ZrL (XY f64)):=fun _ _ _ _=>by kernel_rfl
theorem Zt4:Zr Tryz.prog 101 (ZrL YF):=okF (Zte ZU) Tryz.func101 Zs (ZO _ (.cons Zt5 .nil) .nil .nil .nil (ZM _))
abbrev ZrK (f:Zqg):Zh:=⟨[.one (.S),.one (.S)],[.one (.S)],fun t K _ h=>f t.1 t.2.1 (fun r0 h=>K (r0,()) h) h⟩
abbrev ZuA (f8:zT8):Cfg:=Yn Tryz.prog [(249,zk8 f8)] 13 [] [] [] Yo
theorem Ztd (f8:zT8):Yx (ZuA f8) Tryz.f261 (.leaf) (ZrK (Yf f8)):=fun _ _ _ _=>by kernel_rfl
theorem Zt3:Zr Tryz.prog 261 (ZrK ZR):=okF (Ztd Zn) Tryz.func261 Zs (ZO _ (.cons zo8 .nil) .nil .nil .nil (ZM _))
abbrev ZrJ (f:Zqf):Zh:=⟨[.one (.S),.one (.S)],[.one (.S)],fun t K _ h=>f t.1 t.2.1 (fun r0 h=>K (r0,()) h) h⟩
abbrev Zuz (f70:Zqg):Cfg:=Yn Tryz.prog [(261,ZrK f70)] 8 [] [] [] Yo
theorem Ztc (f70:Zqg):Yx (Zuz f70) Tryz.f194 (.leaf) (ZrJ (XI f70)):=fun _ _ _ _=>by kernel_rfl
theorem Zt2:Zr Tryz.prog 194 (ZrJ Yz):=okF (Ztc ZR) Tryz.func194 Zs (ZO _ (.cons Zt3 .nil) .nil .nil .nil (ZM _))
abbrev ZrI (f:Zqe):Zh:=⟨[.one (.S)],[.one (.I .i64),.one (.B)],fun t K _ h=>f t.1 (fun r0 r1 h=>K (r0,r1,()) h) h⟩
abbrev Zuy (f71:Zqf) (f72:ZpZ):Cfg:=Yn Tryz.prog [(194,ZrJ f71),(108,⟨[.one (.S)],[.one (.I .i64),.one (.V)],fun t K _ h=>f72 t.1 (fun r0 r1 h=>K (r0,r1,()) h) h⟩)] 25 [] [] [] Yo
theorem Ztb (f71:Zqf) (f72:ZpZ):Yx (Zuy f71 f72) Tryz.f106 (.leaf) (ZrI (Zbg f71 f72)):=fun _ _ _ _=>by kernel_rfl
theorem Zt1:Zr Tryz.prog 106 (ZrI Xu):=okF (Ztb Yz YT) Tryz.func106 Zs (ZO _ (.cons Zt2 (.cons ZcD .nil)) .nil .nil .nil (ZM _))
abbrev ZrH (f:Zqd):Zh:=⟨[.agg [.I .u8,.S,.L,.L]],[.one (.I .i64),.one (.B)],fun t K _ h=>f t.1 (fun r0 r1 h=>K (r0,r1,()) h) h⟩
abbrev Zux (f57:ZoD) (f65:Zqh) (f66:Zse) (f67:Zsd) (f68:Zsc) (f69:Zsb) (f73:Zqe) (f74:Zsa) (f72:ZpZ):Cfg:=Yn Tryz.prog [(22,Zrr f57),(101,ZrL f65),(103,⟨[.one (.S)],[.one (.S)],fun t K _ h=>f66 t.1 (fun r0 h=>K (r0,()) h) h⟩),(102,⟨[.one (.S),.one (.S)],[.one (.S),.one (.S),.one (.B)],fun t K _ h=>f67 t.1 t.2.1 (fun r0 r1 r2 h=>K (r0,r1,r2,()) h) h⟩),(104,⟨[.one (.S),.one (.S)],[.one (.S)],fun t K _ h=>f68 t.1 t.2.1 (fun r0 h=>K (r0,()) h) h⟩),(105,⟨[.one (.S),.one (.S)],[.one (.S)],fun t K _ h=>f69 t.1 t.2.1 (fun r0 h=>K (r0,()) h) h⟩),(106,ZrI f73),(107,⟨[.one (.S),.one (.I .i64)],[.one (.S)],fun t K _ h=>f74 t.1 t.2.1 (fun r0 h=>K (r0,()) h) h⟩),(108,⟨[.one (.S)],[.one (.I .i64),.one (.V)],fun t K _ h=>f72 t.1 (fun r0 r1 h=>K (r0,r1,()) h) h⟩)] 92 [] [] [] Yo
theorem Zta (f57:ZoD) (f65:Zqh) (f66:Zse) (f67:Zsd) (f68:Zsc) (f69:Zsb) (f73:Zqe) (f74:Zsa) (f72:ZpZ):Yx (Zux f57 f65 f66 f67 f68 f69 f73 f74 f72) Tryz.f28 (.seq (.leaf) (.seq (.leaf) (.seq (.leaf) (.seq (.leaf) (.seq (.leaf) (.seq (.leaf) (.seq (.leaf) (.seq (.leaf) (.seq (.leaf) (.seq (.leaf) (.seq (.leaf) (.seq (.leaf) (.seq (.leaf) (.cut [11] [.one (.S)] [(81,83)] (.leaf) (.leaf))))))))))))))) (ZrH (ZcN f57 f65 f66 f67 f68 f69 f73 f74 f72)):=fun _ _ _ _=>by kernel_rfl
theorem Zt0:Zr Tryz.prog 28 (ZrH ZaG):=okF (Zta Xv YF Zat Zaf Zae Xa Xu ZaL YT) Tryz.func28 Zs (ZO _ (.cons ZsQ (.cons Zt4 (.cons ZdS (.cons Zgk (.cons Zds (.cons Zdc (.cons Zt1 (.cons Zel (.cons ZcD .nil))))))))) .nil .nil .nil (ZM _))
abbrev Zo9 (f:ZkE):Zh:=⟨[.agg [.I .u8,.S,.L,.L],.one (.I .i64)],[.one (.I .i64)],fun t K _ h=>f t.1 t.2.1 (fun r0 h=>K (r0,()) h) h⟩
abbrev Zuw (f76:ZkE):Cfg:=Yn Tryz.prog [(204,Zo9 f76)] 27 [] [] [] Yo
theorem Zs9 (f76:ZkE):Yx (Zuw f76) Tryz.f204 (.seq (.leaf) (.seq (.leaf) (.seq (.seq (.leaf) (.block (.loop [5,11] [.one (.I .i64),.one (.I .i64)] [(7,7),(12,25)] (.leaf)))) (.leaf)))) (Zo9 (Zb6 f76)):=fun _ _ _ _=>by kernel_rfl
theorem ZtL (f76:ZkE) (hH:Zr Tryz.prog 204 (Zo9 f76)):Zr Tryz.prog 204 (Zo9 (ZaS f76)):=okF (Zs9 f76) Tryz.func204 Zs (ZO _ (.cons hH .nil) .nil .nil .nil (ZM _)) (hlen:=Nat.le_of_ble_eq_true rfl)
theorem ZsL:∀ n,Zr Tryz.prog 204 (Zo9 (Y0 n))
 | 0=>Zfr Tryz.func204 (by kernel_rfl) (by kernel_rfl) fun _ _ _ _ h=>h
 | n+1=>ZtL _ (ZsL n)
theorem ZtZ:Zr Tryz.prog 204 (Zo9 Zb0):=Zmp ZsL
abbrev ZrG (f:Zqc):Zh:=⟨[.agg [.I .u8,.S,.L,.L]],[.one (.B)],fun t K _ h=>f t.1 (fun r0 h=>K (r0,()) h) h⟩
abbrev Zuv (f76:ZkE):Cfg:=Yn Tryz.prog [(204,Zo9 f76)] 6 [] [] [] Yo
theorem Zs8 (f76:ZkE):Yx (Zuv f76) Tryz.f118 (.leaf) (ZrG (ZcM f76)):=fun _ _ _ _=>by kernel_rfl
theorem ZtY:Zr Tryz.prog 118 (ZrG ZaF):=okF (Zs8 Zb0) Tryz.func118 Zs (ZO _ (.cons ZtZ .nil) .nil .nil .nil (ZM _))
abbrev ZrF (f:Zqb):Zh:=⟨[.agg [.I .u8,.S,.L,.L]],[.one (.I .i64)],fun t K _ h=>f t.1 (fun r0 h=>K (r0,()) h) h⟩
abbrev Zuu (f77:Zqc) (f53:ZeX):Cfg:=Yn Tryz.prog [(118,ZrG f77),(93,ZlB f53)] 19 [] [] [] Yo
theorem Zs7 (f77:Zqc) (f53:ZeX):Yx (Zuu f77 f53) Tryz.f39 (.leaf) (ZrF (ZcR f77 f53)):=fun _ _ _ _=>by kernel_rfl
theorem ZtX:Zr Tryz.prog 39 (ZrF ZaJ):=okF (Zs7 ZaF Y2) Tryz.func39 Zs (ZO _ (.cons ZtY (.cons ZsR .nil)) .nil .nil .nil (ZM _))
abbrev ZrE (f:Zqa):Zh:=⟨[],[.one (.B)],fun _ K _ h=>f (fun r0 h=>K (r0,()) h) h⟩
abbrev Zut (f26:Znu) (f61:Zqk) (f63:Zqj) (f75:Zqd) (f78:Zqb):Cfg:=Yn Tryz.prog [(25,⟨[.one (.S)],[.agg [.I .u8,.S,.L,.L],.one (.I .i64),.one (.I .i64)],fun t K _ h=>f26 t.1 (fun r0 r1 r2 h=>K (r0,r1,r2,()) h) h⟩),(36,ZrO f61),(30,ZrN f63),(28,ZrH f75),(39,ZrF f78)] 61 [] [] [] Yo
theorem Zs6 (f26:Znu) (f61:Zqk) (f63:Zqj) (f75:Zqd) (f78:Zqb):Yx (Zut f26 f61 f63 f75 f78) Tryz.f27 (.leaf) (ZrE (XJ f26 f61 f63 f75 f78)):=fun _ _ _ _=>by kernel_rfl
theorem ZtW:Zr Tryz.prog 27 (ZrE Yh):=okF (Zs6 Yj ZaH ZaI ZaG ZaJ) Tryz.func27 Zs (ZO _ (.cons ZbZ (.cons Zt7 (.cons Zt6 (.cons Zt0 (.cons ZtX .nil))))) .nil .nil .nil (ZM _))
abbrev ZrD (f:Zp9):Zh:=⟨[.one (.L),.one (.L)],[.one (.B)],fun t K _ h=>f t.1 t.2.1 (fun r0 h=>K (r0,()) h) h⟩
abbrev Zus:Cfg:=Yn Tryz.prog [] 26 [] [] [] Yo
theorem Zs5:Yx (Zus) Tryz.f83 (.seq (.leaf) (.seq (.leaf) (.seq (.seq (.leaf) (.block (.loop [5] [.one (.I .i64)] [(4,4),(11,25)] (.leaf)))) (.leaf)))) (ZrD Xd):=fun _ _ _ _=>by kernel_rfl
theorem ZtV:Zr Tryz.prog 83 (ZrD Yb):=okF (Zs5) Tryz.func83 Zs (ZO _ .nil .nil .nil .nil (ZM _))
abbrev Zo8 (f:Zlx):Zh:=⟨[.agg [.I .u8,.S,.L,.L],.agg [.I .u8,.S,.L,.L]],[.one (.B)],fun t K _ h=>f t.1 t.2.1 (fun r0 h=>K (r0,()) h) h⟩
abbrev Zur (f80:Zp9) (f81:Zlx):Cfg:=Yn Tryz.prog [(83,ZrD f80),(18,Zo8 f81)] 54 [] [] [] Yo
theorem Zs4 (f80:Zp9) (f81:Zlx):Yx (Zur f80 f81) Tryz.f18 (.seq (.leaf) (.seq (.leaf) (.seq (.seq (.leaf) (.block (.loop [5] [.one (.I .i64)] [(4,4),(35,53)] (.seq (.leaf) (.seq (.block (.seq (.order (.take 0 (.take 2 (.take 5 (.take 7 (.take 1 (.take 3 (.take 4 (.take 6 (.take 8 (.take 9 (.take 10 (.take 11 .done))))))))))))) (.leaf))) (.leaf)))))) (.leaf)))) (Zo8 (Xc f80 f81)):=fun _ _ _ _=>by kernel_rfl
theorem ZtK (f81:Zlx) (hH:Zr Tryz.prog 18 (Zo8 f81)):Zr Tryz.prog 18 (Zo8 (Y6 f81)):=okF (Zs4 Yb f81) Tryz.func18 Zs (ZO _ (.cons ZtV (.cons hH .nil)) .nil .nil .nil (ZM _)) (hlen:=Nat.le_of_ble_eq_true rfl)
theorem ZsK:∀ n,Zr Tryz.prog 18 (Zo8 (Z5 n))
 | 0=>Zfr Tryz.func18 (by kernel_rfl) (by kernel_rfl) fun _ _ _ _ h=>h
 | n+1=>ZtK _ (ZsK n)
theorem ZtU:Zr Tryz.prog 18 (Zo8 YD):=Zmp ZsK
abbrev ZsT (f:ZsU):Zh:=⟨[.one (.S),.one (.I .u8),.one (.I .u8)],[.one (.B)],fun t K _ h=>f t.1 t.2.1 t.2.2.1 (fun r0 h=>K (r0,()) h) h⟩
abbrev Zuq (f26:Znu) (f79:Zqa) (f81:Zlx):Cfg:=Yn Tryz.prog [(25,⟨[.one (.S)],[.agg [.I .u8,.S,.L,.L],.one (.I .i64),.one (.I .i64)],fun t K _ h=>f26 t.1 (fun r0 r1 r2 h=>K (r0,r1,r2,()) h) h⟩),(27,ZrE f79),(18,Zo8 f81)] 104 [] [] [] Yo
theorem Zs3 (f26:Znu) (f79:Zqa) (f81:Zlx):Yx (Zuq f26 f79 f81) Tryz.f7 (.seq (.leaf) (.seq (.leaf) (.seq (.leaf) (.seq (.leaf) (.seq (.leaf) (.seq (.leaf) (.seq (.seq (.leaf) (.block (.loop [11,13] [.one (.S),.one (.I .i64)] [(32,46)] (.leaf)))) (.seq (.seq (.leaf) (.block (.loop [12,14] [.one (.S),.one (.I .i64)] [(47,61)] (.leaf)))) (.leaf))))))))) (ZsT (YL f26 f79 f81)):=fun _ _ _ _=>by kernel_rfl
theorem Zbb:Zr Tryz.prog 7 (ZsT YJ):=okF (Zs3 Yj Yh YD) Tryz.func7 Zs (ZO _ (.cons ZbZ (.cons ZtW (.cons ZtU .nil))) .nil .nil .nil (ZM _))
end
end Go.Proofs.YtpjbjdheeemdiaaGreatDoor
namespace Go.Fw
open Go Go.RowKit
theorem ZmD {P:Program} {f:FuncId} {s:Zh} (ok:Zr P f s) (t:Yr s.args) (w:World) {args:Array Value} (hargs:((Yr.evs s.args t).map EV.v).toArray=args)
    (h:s.sem t (fun r h'=>ZoN s.res r = .bool true∧Ext w.heap h') (fun _ _=>False) w.heap):Calls P f args w fun e w'=>e = .returned (.bool true)∧Below w.heap.size w w':=by
  rw [← hargs]
  refine (ok.calls t _ _ w h).mono ?_
  rintro e w' (⟨r,rfl,hs,hr,hx⟩ | ⟨v,rfl,hs,hk⟩)
  ·exact ⟨by rw [hr],hs.2.1,hs.1,hs.2.2,hx.size,hx.old⟩
  ·exact hk.elim
end Go.Fw
namespace Go.Fw
open Go
def obj (h:Zc) (b:Nat):Option Obj:=h[b]?
def sz (h:Zc):Nat:=h.size
theorem Zl2 {h:Zc} {x:Obj}:sz (h.push x)=sz h+1:=by unfold sz;simp
theorem ZoI {h:Zc} {b o:Nat} {v:Value}:sz (h.put b o v)=sz h:=by unfold sz;exact ZeP
def Zj2 (o:Nat) (v:Value):Option Obj→Option Obj
  | some (.cells c e f)=>some (.cells (c.setIfInBounds o v) e f)
  | x=>x
theorem ZcE {o:Nat} {v:Value} {l:List Value} {e:TypeId} {f:Nat × Nat}:Zj2 o v (some (.cells l.toArray e f))=some (.cells (l.set o v).toArray e f):=by
  simp [Zj2]
theorem Zfs {h:Zc} {b o k:Nat} {v:Value}:obj (h.put b o v) k=if k=b then Zj2 o v (obj h k) else obj h k:=by
  unfold obj Zc.put
  rw [Array.getElem?_modify]
  by_cases hk:b=k
  ·subst hk
   rw [if_pos rfl,if_pos rfl]
   cases h[b]? with
   | none=>rfl
   | some x=>cases x<;>rfl
  ·rw [if_neg hk,if_neg (Ne.symm hk)]
def Xj (o:Nat):Option Obj→Option Value
  | some (.cells c _ _)=>c[o]?
  | _=>none
def ZhG (o:Nat):Option Obj→Bool
  | some (.cells c _ f)=>decide (o<c.size)&&(f.1 ==0&&f.2 ==0)
  | _=>false
theorem ZhH {o:Nat} {l:List Value} {e:TypeId} {f:Nat × Nat}:Xj o (some (.cells l.toArray e f))=l[o]?:=by simp [Xj]
theorem XU {h:Zc} {b o:Nat}:h.cell b o=Xj o (obj h b):=by unfold Zc.cell obj Xj;rfl
theorem ZmP {h:Zc} {b o:Nat} (hf:ZhG o (obj h b)=true):(∃ u,h.cell b o=some u)∧h.froz b o=false:=by
  unfold ZhG at hf
  split at hf
  ·rename_i c e f hb
   simp only [Bool.and_eq_true,decide_eq_true_eq,beq_iff_eq] at hf
   obtain ⟨h1,h2,h3⟩:=hf
   have hb':h[b]?=some (.cells c e f):=hb
   refine ⟨⟨c[o],by unfold Zc.cell;rw [hb'];simp [h1]⟩,?_⟩
   unfold Zc.froz
   rw [hb']
   obtain ⟨lo,hi⟩:=f
   simp only at h2 h3
   subst h2 h3
   simp
  ·cases hf
theorem Zq9 {h:Zc} {b o:Nat} {k:IntKind} {n:Int} {K:Int→Prop} (hc:Xj o (obj h b)=some (.int k n)):ldI h b o k K=K n :=
  propext ⟨fun ⟨m,e,hk⟩=>(by rw [XU,hc] at e;cases e;exact hk),fun hk=>⟨n,by rw [XU,hc],hk⟩⟩
theorem Zq6 {h:Zc} {b o:Nat} {n:ByteArray} {K:ByteArray→Prop} (hc:Xj o (obj h b)=some (.string n)):ldS h b o K=K n :=
  propext ⟨fun ⟨m,e,hk⟩=>(by rw [XU,hc] at e;cases e;exact hk),fun hk=>⟨n,by rw [XU,hc],hk⟩⟩
theorem Zq7 {h:Zc} {b o:Nat} {n:Option Addr} {K:Option Addr→Prop} (hc:Xj o (obj h b)=some (.pointer n)):ldP h b o K=K n :=
  propext ⟨fun ⟨m,e,hk⟩=>(by rw [XU,hc] at e;cases e;exact hk),fun hk=>⟨n,by rw [XU,hc],hk⟩⟩
theorem Zq5 {h:Zc} {b o:Nat} {n:Value} {K:Value→Prop} (hc:Xj o (obj h b)=some n):ldV h b o K=K n :=
  propext ⟨fun ⟨m,e,hk⟩=>(by rw [XU,hc] at e;cases e;exact hk),fun hk=>⟨n,by rw [XU,hc],hk⟩⟩
theorem Zq8 {h:Zc} {b o:Nat} {p:Option Addr} {l c:Nat} {K:Sl→Prop} (hc:Xj o (obj h b)=some (.slice p l c)):ldL h b o K=K ⟨p,l,c⟩ :=
  propext ⟨fun ⟨m,e,hk⟩=>(by rw [XU,hc] at e;cases e;exact hk),fun hk=>⟨⟨p,l,c⟩,by rw [XU,hc],hk⟩⟩
theorem Zkh {h:Zc} {b:Nat}:∀ (n o:Nat),(∀ i,i<n→ZhG (o+i) (obj h b)=true)→h.free b o n
  | 0,_,_=>trivial
  | n+1,o,hf=>⟨ZmP (by have:=hf 0 (by omega);simpa using this),Zkh n (o+1) fun i hi=>by have:=hf (i+1) (by omega);rw [show o+1+i=o+(i+1) from by omega];exact this⟩
def ZmQ (o n:Nat):Option Obj→Bool
  | some (.cells c _ f)=>decide (o+n≤c.size)&&(f.1 ==0&&f.2 ==0)
  | _=>false
theorem Zbh {o n:Nat} {l:List Value} {e:TypeId}:ZmQ o n (some (.cells l.toArray e (0,0)))=decide (o+n≤l.length):=by simp [ZmQ]
theorem Zof {h:Zc} {b o n:Nat} (hf:ZmQ o n (obj h b)=true):h.free b o n:=by
  refine Zkh n o fun i hi=>?_
  unfold ZmQ at hf
  split at hf
  ·rename_i c e f hb
   rw [hb]
   simp only [Bool.and_eq_true,decide_eq_true_eq] at hf
   simp only [ZhG,Bool.and_eq_true,decide_eq_true_eq]
   exact ⟨by omega,hf.2⟩
  ·cases hf
theorem Zig {h:Zc} {b o:Nat} {vs:List Value} {K:Zc→Prop} (hf:ZmQ o vs.length (obj h b)=true) (hv:vs.all ZW=true):sts h b o vs K=K (h.puts b o vs) :=
  propext ⟨fun hk=>hk.2.2,fun hk=>⟨Zof hf,hv,hk⟩⟩
theorem Zct {h:Zc} {b o:Nat} {vs:List Value}:sz (h.puts b o vs)=sz h:=ZdO
def Zft:Nat→List Value→Option Obj→Option Obj
  | _,[],x=>x
  | o,v::vs,x=>Zft (o+1) vs (Zj2 o v x)
def YW:Nat→List Value→List Value→List Value
  | _,[],l=>l
  | o,v::vs,l=>YW (o+1) vs (l.set o v)
theorem Y5 {e:TypeId} {f:Nat × Nat}:∀ {vs:List Value} {o:Nat} {l:List Value},Zft o vs (some (.cells l.toArray e f))=some (.cells (YW o vs l).toArray e f)
  | [],_,_=>rfl
  | v::vs,o,l=>by unfold Zft YW;rw [ZcE,Y5]
theorem Zad {b:Nat}:∀ {vs:List Value} {h:Zc} {o k:Nat},obj (h.puts b o vs) k=if k=b then Zft o vs (obj h k) else obj h k
  | [],h,o,k=>by
    unfold Zc.puts Zft
    split<;>rfl
  | v::vs,h,o,k=>by
    unfold Zc.puts
    rw [Zad,Zfs]
    by_cases hk:k=b
    ·rw [if_pos hk,if_pos hk,if_pos hk];rfl
    ·rw [if_neg hk,if_neg hk,if_neg hk]
theorem Zjt {b o l size:Nat} {i:Int} {n:Nat} {K:Nat→Nat→Prop} (hi:i=(n:Int)) (hl:n<l) (hk:K b (o+n*size)):ZgU (some ⟨b,o,none⟩) l i size K:=by
  subst hi
  exact ⟨b,o,rfl,by omega,by omega,by simpa using hk⟩
theorem ZqM {s t:Sl}:(slV s=slV t)=(s=t):=by
  refine propext ⟨fun h=>?_,fun h=>by rw [h]⟩
  cases s;cases t
  unfold slV at h
  injection h with h1 h2 h3
  subst h1 h2 h3
  rfl
theorem Zby {k:IntKind} {n:Int}:ZW (.int k n)=true:=by simp [ZW]
theorem Ziu {b:Option Addr} {l c:Nat}:ZW (.slice b l c)=true:=by simp [ZW]
theorem Ym {h h':Zc} (e:Ext h h') {b:Nat} (hb:b<sz h):obj h' b=obj h b:=e.old b hb
theorem Yt {S:Nat→Prop} {h h':Zc} (e:Upd S h h') {b:Nat} (hb:b<sz h) (hs:¬ S b):obj h' b=obj h b:=e.old b hb hs
theorem ZnF {S:Nat→Prop} {h h1:Zc} {b o:Nat} {vs:List Value} (he:Upd S h h1) (hb:sz h≤b∨S b):Upd S h (h1.puts b o vs) :=
  ⟨by rw [ZdO];exact he.size,fun k hk hs=>(Zeg fun e=>by subst e;exact hb.elim (fun h9=>by unfold sz at h9;omega) hs).trans (he.old k hk hs)⟩
theorem ZaQ {h:Zc} {b:Nat} {x:Obj} (hb:obj h b=some x):b<sz h:=by
  unfold obj at hb
  rcases Nat.lt_or_ge b h.size with hl | hl
  ·exact hl
  ·rw [Array.getElem?_eq_none hl] at hb;cases hb
theorem YK {h h':Zc} {b:Nat} {x:Obj} (hb:obj h b=some x) (e:Ext h h'):obj h' b=some x:=(Ym e (ZaQ hb)).trans hb
theorem Yq {S:Nat→Prop} {h h':Zc} {b:Nat} {x:Obj} (hb:obj h b=some x) (e:Upd S h h') (hs:¬ S b):obj h' b=some x:=(Yt e (ZaQ hb) hs).trans hb
theorem Ext.updS {h h1 h2:Zc} {S:Nat→Prop} (e:Ext h h1) (u:Upd S h1 h2) (hs:∀ k,S k→sz h≤k):Ext h h2:=e.then u fun k hk=>hs k hk
end Go.Fw
namespace Go.Js
open Go
abbrev BL:=List UInt8
inductive JL where
  | nil
  | cons (k:Nat) (t:BL) (ns:List BL) (sub rest:JL)
deriving DecidableEq
structure JV where
  k:Nat
  t:BL
  ns:List BL
  sub:JL
deriving DecidableEq
namespace JL
def len:JL→Nat
  | nil=>0
  | cons _ _ _ _ r=>r.len+1
def snoc (v:JV):JL→JL
  | nil=>cons v.k v.t v.ns v.sub nil
  | cons k t ns s r=>cons k t ns s (r.snoc v)
def isNil:JL→Bool
  | nil=>true
  | _=>false
theorem len_snoc (v:JV):∀ l:JL,(l.snoc v).len=l.len+1
  | nil=>rfl
  | cons _ _ _ _ r=>by simp [snoc,len,len_snoc v r]
theorem len_nil {l:JL}:l.len=0↔l=nil:=by cases l<;>simp [len]
end JL
inductive Out (α:Type) where
  | ok (a:α) (r:BL)
  | err (e:Nat) (r:BL)
def Out.bind {α β:Type}:Out α→(α→BL→Out β)→Out β
  | .ok a r,f=>f a r
  | .err e r,_=> .err e r
@[simp] theorem Out.bind_ok {α β:Type} (a:α) (r:BL) (f:α→BL→Out β):(Out.ok a r).bind f=f a r:=rfl
@[simp] theorem Out.bind_err {α β:Type} (e:Nat) (r:BL) (f:α→BL→Out β):(Out.err e r:Out α).bind f = .err e r:=rfl
def YS {α:Type} (e:Nat):BL→Out α
  | []=> .err 24 []
  | c::l=> .err e (c::l)
def Z1 (c:UInt8):Bool:=c ==32||c ==9||c ==10||c ==13
def XD (c:UInt8):Bool:=decide (48≤c.toNat)&&decide (c.toNat≤57)
def Z3 (l:BL):BL:=l.dropWhile Z1
def Zbk:BL→BL→Out Unit
  | [],l=> .ok () l
  | c::w,d::l=>if d=c then Zbk w l else .err 20 (d::l)
  | _::_,[]=> .err 24 []
def Z6:BL→Out Unit
  | c::l=>if XD c then .ok () (l.dropWhile XD) else .err 21 (c::l)
  | []=> .err 24 []
def Zap:BL→BL
  | c::l=>if c=45 then l else c::l
  | []=>[]
def Zd8:BL→BL
  | c::l=>if c=43∨c=45 then l else c::l
  | []=>[]
def XH:BL→Out Unit
  | c::l=>if XD c then .err 21 (c::l) else .ok () (c::l)
  | []=> .ok () []
def ZeH:BL→Out Unit
  | c::l=>if c=48 then XH l else Z6 (c::l)
  | []=> .err 24 []
def ZcS:BL→Out Unit
  | c::l=>if c=46 then Z6 l else .ok () (c::l)
  | []=> .ok () []
def ZeT:BL→Out Unit
  | c::l=>if c=101∨c=69 then Z6 (Zd8 l) else .ok () (c::l)
  | []=> .ok () []
def Zc4 (l:BL):Out Unit:=(ZeH (Zap l)).bind fun _ l1=>(ZcS l1).bind fun _ l2=>ZeT l2
def Zf7 (l r:BL):BL:=l.take (l.length - r.length)
def ZeI (c:UInt8):Option Nat :=
  if 48≤c.toNat∧c.toNat≤57 then some (c.toNat - 48)
  else if 97≤c.toNat∧c.toNat≤102 then some (c.toNat - 87)
  else if 65≤c.toNat∧c.toNat≤70 then some (c.toNat - 55)
  else none
def Zdd:Nat→Nat→BL→Out Nat
  | 0,n,l=> .ok n l
  | _+1,_,[]=> .err 24 []
  | k+1,n,c::l=>match ZeI c with
    | some d=>Zdd k (n*16+d) l
    | none=> .err 22 (c::l)
def ZbT (n:Nat):BL :=
  if n<128 then [UInt8.ofNat n]
  else if n<2048 then [UInt8.ofNat (192+n / 64),UInt8.ofNat (128+n % 64)]
  else if n<65536 then [UInt8.ofNat (224+n / 4096),UInt8.ofNat (128+n / 64 % 64),UInt8.ofNat (128+n % 64)]
  else [UInt8.ofNat (240+n / 262144),UInt8.ofNat (128+n / 4096 % 64),UInt8.ofNat (128+n / 64 % 64),UInt8.ofNat (128+n % 64)]
def ZeK (n:Nat):Nat:=if 55296≤n∧n<57344 then 65533 else n
def ZaT (c:UInt8):Option UInt8 :=
  if c=34 then some 34 else if c=92 then some 92 else if c=47 then some 47 else if c=98 then some 8 else if c=102 then some 12 else if c=110 then some 10 else if c=114 then some 13 else if c=116 then some 9 else none
def X3:BL→Option BL
  | a::b::l=>if a=92∧b=117 then some l else none
  | _=>none
def Zrt (l:BL):Out BL:=(Zdd 4 0 l).bind fun n l1 =>
  match (if 55296≤n∧n<56320 then X3 l1 else none) with
  | some l2=>(Zdd 4 0 l2).bind fun m l3=>if 56320≤m∧m<57344 then .ok (ZbT (65536+(n - 55296)*1024+(m - 56320))) l3 else .ok (ZbT (ZeK n)) l1
  | none=> .ok (ZbT (ZeK n)) l1
def Zkn:BL→Out BL
  | []=> .err 24 []
  | c::l=>match ZaT c with
    | some m=> .ok [m] l
    | none=>if c=117 then Zrt l else .err 22 (c::l)
def ZjP (c:Nat):Nat × Nat × Nat :=
  if c<128 then (1,0,0)
  else if 194≤c∧c≤223 then (2,128,191)
  else if c=224 then (3,160,191)
  else if c=237 then (3,128,159)
  else if 225≤c∧c≤239 then (3,128,191)
  else if c=240 then (4,144,191)
  else if 241≤c∧c≤243 then (4,128,191)
  else if c=244 then (4,128,143)
  else (0,0,0)
def ZaN:Nat→Nat→Nat→BL→Out Unit
  | 0,_,_,l=> .ok () l
  | _+1,_,_,[]=> .err 24 []
  | n+1,lo,hi,d::l=>if lo≤d.toNat∧d.toNat≤hi then ZaN n 128 191 l else .err 22 (d::l)
def Xo:BL→Out Unit
  | []=> .err 24 []
  | c::l=>if (ZjP c.toNat).1=0 then .err 22 (c::l) else ZaN ((ZjP c.toNat).1 - 1) (ZjP c.toNat).2.1 (ZjP c.toNat).2.2 l
def ZdI:Nat→BL→BL→Out BL
  | 0,_,_=> .err 24 []
  | _+1,_,[]=> .err 24 []
  | n+1,out,c::l =>
    if c.toNat<32 then .err 22 (c::l)
    else if c=34 then .ok out l
    else if c=92 then (Zkn l).bind fun o l2=>ZdI n (out++o) l2
    else if c.toNat<128 then ZdI n (out++[c]) l
    else (Xo (c::l)).bind fun _ l2=>ZdI n (out++Zf7 (c::l) l2) l2
def Zf8 (l:BL):Out BL:=ZdI (l.length+1) [] l
def ZcF (l:BL):Out BL :=
  match Z3 l with
  | c::l1=>if c=34 then (Zf8 l1).bind fun nm l2=>match Z3 l2 with
     | d::l3=>if d=58 then .ok nm l3 else .err 20 (d::l3)
     | []=> .err 24 []
    else .err 20 (c::l1)
  | []=> .err 24 []
def Xs (pv:BL→Out JV) (ob:Bool) (ns:List BL) (sub:JL) (l:BL):Out (List BL × JL) :=
  if ob then (ZcF l).bind fun nm l3=>(pv l3).bind fun v l4=> .ok (ns++[nm],sub.snoc v) (Z3 l4)
  else (pv (Z3 l)).bind fun v l4=> .ok (ns,sub.snoc v) (Z3 l4)
def Zcc (ob:Bool):UInt8:=if ob then 125 else 93
def Zcm (c:UInt8):BL→Bool
  | d::_=>d ==c
  | []=>false
def ZbJ (pv:BL→Out JV) (ob:Bool):Nat→List BL→JL→BL→Out (List BL × JL)
  | 0,_,_,_=> .err 24 []
  | m+1,ns,sub,l =>
    if Zcm (Zcc ob) l then .ok (ns,sub) l.tail
    else if sub.isNil then (Xs pv ob ns sub l).bind fun p l2=>ZbJ pv ob m p.1 p.2 l2
    else if Zcm 44 l then (Xs pv ob ns sub l.tail).bind fun p l2=>ZbJ pv ob m p.1 p.2 l2
    else YS 20 l
def Za4 (op:Bool→BL→Out JV) (l:BL):Out JV :=
  match Z3 l with
  | []=> .err 24 []
  | c::l1 =>
    if c=123 then op true (c::l1)
    else if c=91 then op false (c::l1)
    else if c=34 then (Zf8 l1).bind fun t r=> .ok ⟨5,t,[],.nil⟩ r
    else if c=110 then (Zbk [110,117,108,108] (c::l1)).bind fun _ r=> .ok ⟨1,[],[],.nil⟩ r
    else if c=102 then (Zbk [102,97,108,115,101] (c::l1)).bind fun _ r=> .ok ⟨2,[],[],.nil⟩ r
    else if c=116 then (Zbk [116,114,117,101] (c::l1)).bind fun _ r=> .ok ⟨3,[],[],.nil⟩ r
    else if c=45∨XD c then (Zc4 (c::l1)).bind fun _ r=> .ok ⟨4,Zf7 (c::l1) r,[],.nil⟩ r
    else .err 20 (c::l1)
def Zit (pv:BL→Out JV) (ob:Bool) (l:BL):Out JV :=
  (ZbJ pv ob (l.length+1) [] .nil (Z3 l.tail)).bind fun p r=> .ok ⟨if ob then 7 else 6,[],p.1,p.2⟩ r
def ZI:Nat→BL→Out JV
  | 0=>Za4 fun _ l=>YS 23 l
  | n+1=>Za4 (Zit (ZI n))
inductive Got where
  | ok (v:JV)
  | err (e:Nat) (at_:Nat)
def Xm (l:BL):Got :=
  if 65536<l.length then .err 5 65536
  else match ZI 64 l with
    | .err e r=> .err e (l.length - r.length)
    | .ok v r=>match Z3 r with
      | []=> .ok v
      | c::r'=> .err 25 (l.length - (c::r').length)
theorem Y4 {c:UInt8} {l r:BL} (h:r <:+l):r <:+c::l:=h.trans (List.suffix_cons _ _)
theorem Zii (l:BL):Z3 l <:+l:=List.dropWhile_suffix _
theorem Zdz {l r:BL} (h:Z6 l = .ok () r):r <:+l:=by
  rcases l with _ | ⟨c,l⟩
  ·cases h
  ·dsimp only [Z6] at h
   split at h
   ·cases h;exact Y4 (List.dropWhile_suffix _)
   ·cases h
theorem Zld (l:BL):Zap l <:+l:=by
  rcases l with _ | ⟨c,l⟩
  ·exact List.suffix_refl _
  ·dsimp only [Zap]
   split
   ·exact List.suffix_cons _ _
   ·exact List.suffix_refl _
theorem Zl5 (l:BL):Zd8 l <:+l:=by
  rcases l with _ | ⟨c,l⟩
  ·exact List.suffix_refl _
  ·dsimp only [Zd8]
   split
   ·exact List.suffix_cons _ _
   ·exact List.suffix_refl _
theorem Zoc {l r:BL} (h:ZeH l = .ok () r):r <:+l:=by
  rcases l with _ | ⟨c,l⟩
  ·cases h
  ·dsimp only [ZeH] at h
   split at h
   ·rcases l with _ | ⟨d,l⟩
    ·cases h;exact List.suffix_cons _ _
    ·dsimp only [XH] at h
     split at h
     ·cases h
     ·cases h;exact List.suffix_cons _ _
   ·exact Zdz h
theorem ZmR {l r:BL} (h:ZcS l = .ok () r):r <:+l:=by
  rcases l with _ | ⟨c,l⟩
  ·cases h;exact List.suffix_refl _
  ·dsimp only [ZcS] at h
   split at h
   ·exact Y4 (Zdz h)
   ·cases h;exact List.suffix_refl _
theorem Zom {l r:BL} (h:ZeT l = .ok () r):r <:+l:=by
  rcases l with _ | ⟨c,l⟩
  ·cases h;exact List.suffix_refl _
  ·dsimp only [ZeT] at h
   split at h
   ·exact Y4 ((Zdz h).trans (Zl5 _))
   ·cases h;exact List.suffix_refl _
theorem ZJ {α β:Type} {x:Out α} {f:α→BL→Out β} {b:β} {r:BL} (h:x.bind f = .ok b r):∃ a l,x = .ok a l∧f a l = .ok b r:=by
  cases x with
  | ok a l=>exact ⟨a,l,rfl,h⟩
  | err e l=>cases h
theorem ZeR {l r:BL} (h:Zc4 l = .ok () r):∃ l1 l2,ZeH (Zap l) = .ok () l1∧ZcS l1 = .ok () l2∧ZeT l2 = .ok () r:=by
  obtain ⟨_,l1,h1,h⟩:=ZJ h
  obtain ⟨_,l2,h2,h⟩:=ZJ h
  exact ⟨l1,l2,h1,h2,h⟩
theorem Zn2 {l r:BL} (h:Zc4 l = .ok () r):r <:+l:=by
  obtain ⟨l1,l2,h1,h2,h3⟩:=ZeR h
  exact (Zom h3).trans ((ZmR h2).trans ((Zoc h1).trans (Zld l)))
end Go.Js
namespace Go.Proofs.YtpjbjdheeemdiaaGreatDoor
open Go Go.Fw Go.Js
theorem ZbP {h:Zc} {cells:List Value} {t:TypeId} {K:Nat→Zc→Prop} (hk:∀ h1,h1[h.size]?=some (.cells cells.toArray t (0,0))→Ext h h1→h1.size=h.size+1→K h.size h1):newC h cells t K :=
  Zla (hk _ ZdP (Ext.push _ _) (by simp))
theorem ZP {b o:Nat} {K:Nat→Nat→Prop} (hk:K b o):Ze (some ⟨b,o,none⟩) K:=⟨b,o,rfl,hk⟩
theorem Zm {h:Zc} {b o:Nat} {l:List Value} {e:TypeId} {f:Nat × Nat} {v:Value} (hb:obj h b=some (.cells l.toArray e f)) (hv:l[o]?=some v):Xj o (obj h b)=some v:=by rw [hb,ZhH];exact hv
theorem rI {h:Zc} {b o:Nat} {k:IntKind} {n:Int} {K:Int→Prop} (hc:Xj o (obj h b)=some (.int k n)) (hk:K n):ldI h b o k K:=by rw [Zq9 hc];exact hk
theorem rS {h:Zc} {b o:Nat} {n:ByteArray} {K:ByteArray→Prop} (hc:Xj o (obj h b)=some (.string n)) (hk:K n):ldS h b o K:=by rw [Zq6 hc];exact hk
theorem rP {h:Zc} {b o:Nat} {n:Option Addr} {K:Option Addr→Prop} (hc:Xj o (obj h b)=some (.pointer n)) (hk:K n):ldP h b o K:=by rw [Zq7 hc];exact hk
theorem rL {h:Zc} {b o:Nat} {s:Sl} {K:Sl→Prop} (hc:Xj o (obj h b)=some (slV s)) (hk:K s):ldL h b o K:=by cases s;exact (Zq8 hc).mpr hk
theorem ZjZ {h:Zc} {b o:Nat} {v:Value} {K:Zc→Prop} {l:List Value} {e:TypeId} (hb:obj h b=some (.cells l.toArray e (0,0))) (ho:o<l.length) (hv:ZW v=true)
    (hk:∀ h',obj h' b=some (.cells (l.set o v).toArray e (0,0))→Upd (· = b) h h'→sz h'=sz h→K h'):st h b o v K:=by
  refine ⟨⟨l[o],by rw [Zes hb];simp [ho]⟩,?_,hv,?_⟩
  ·unfold Zc.froz;rw [show h[b]?=obj h b from rfl,hb];simp
  ·refine hk _ ?_ (Upd.put h b o v) ZeP
   have:=Zir (v:=v) (o:=o) hb
   rw [show obj (h.put b o v) b=(h.put b o v)[b]? from rfl,this]
   simp
structure ZeV (s:ByteArray) (n:Nat) (l:BL):Prop where
  drop:s.data.toList.drop n=l
  len:n+l.length=s.size
theorem ZeV.head {s:ByteArray} {n:Nat} {c:UInt8} {l:BL} (h:ZeV s n (c::l)):s[n]?=some c:=by
  have h1:s.data.toList[n]?=some c:=by
    have:=congrArg (fun x=>x[0]?) h.drop
    simp only [List.getElem?_drop] at this
    simpa using this
  have hn:n<s.size:=by have:=h.len;simp at this;omega
  rw [Array.getElem?_toList] at h1
  rw [getElem?_pos s n hn]
  rw [getElem?_pos s.data n hn] at h1
  exact h1
theorem ZeV.tail {s:ByteArray} {n:Nat} {c:UInt8} {l:BL} (h:ZeV s n (c::l)):ZeV s (n+1) l:=by
  refine ⟨?_,by have:=h.len;simp at this;omega⟩
  rw [show s.data.toList.drop (n+1)=(s.data.toList.drop n).drop 1 by rw [List.drop_drop],h.drop]
  rfl
theorem ZeV.dropK {s:ByteArray} {n:Nat} {l:BL} (h:ZeV s n l) {k:Nat} (hk:k≤l.length):ZeV s (n+k) (l.drop k):=by
  refine ⟨?_,by have:=h.len;simp;omega⟩
  rw [← h.drop,List.drop_drop]
theorem ZeV.start (s:ByteArray):ZeV s 0 s.data.toList:=⟨rfl,by simp⟩
theorem ZeV.extract {s:ByteArray} {n m:Nat} {l r:BL} (h:ZeV s n l) (h':ZeV s m r) (hnm:n≤m):s.extract n m=Zd (Zf7 l r):=by
  have e:m - n=l.length - r.length:=by have:=h.len;have:=h'.len;omega
  have hm:m≤s.size:=by have:=h'.len;omega
  unfold Zf7
  rw [← e,← h.drop]
  have:(s.extract n m).data.toList=(s.data.toList.drop n).take (m - n):=by
    simp [ByteArray.data_extract]
  rcases hx:s.extract n m with ⟨⟨x⟩⟩
  rw [hx] at this
  simp only at this
  rw [this]
def Rd (h:Zc) (R:Nat) (s:ByteArray) (l:BL):Prop:=s.size≤65536∧∃ n:Nat,obj h R=some (.cells [.string s,.int .i64 n].toArray 163 (0,0))∧ZeV s n l
abbrev At (R:Nat):Option Addr:=some ⟨R,0,none⟩
def Zbp (e:Nat) (n:Nat):Value:= .iface 160 (.agg #[.int .i64 e,.int .i64 n])
theorem Rd.congr {h h':Zc} {R:Nat} {s:ByteArray} {l:BL} (hr:Rd h R s l) (e:obj h' R=obj h R):Rd h' R s l:=by
  obtain ⟨a,n,b,c⟩:=hr
  exact ⟨a,n,e.trans b,c⟩
theorem Rd.lt {h:Zc} {R:Nat} {s:ByteArray} {l:BL} (hr:Rd h R s l):R<sz h:=by
  obtain ⟨_,n,b,_⟩:=hr
  exact ZaQ b
theorem Rd.upd {S:Nat→Prop} {h h':Zc} {R:Nat} {s:ByteArray} {l:BL} (hr:Rd h R s l) (u:Upd S h h') (hs:¬ S R):Rd h' R s l:=hr.congr (Yt u hr.lt hs)
theorem Rd.ext {h h':Zc} {R:Nat} {s:ByteArray} {l:BL} (hr:Rd h R s l) (u:Ext h h'):Rd h' R s l:=hr.congr (Ym u hr.lt)
theorem Rd.len {h:Zc} {R:Nat} {s:ByteArray} {l:BL} (hr:Rd h R s l):l.length≤s.size∧s.size≤65536:=by
  obtain ⟨a,n,b,c⟩:=hr
  have:=c.len
  omega
theorem Zdb {h:Zc} {R:Nat} {s:ByteArray} {l:BL} (hr:Rd h R s l) {K:Int→Prop} (hk:∀ n:Nat,ZeV s n l→K n):Ze (At R) fun b o=>ldI h b (o+1) .i64 K:=by
  obtain ⟨_,n,hb,hn⟩:=hr
  exact ZP (rI (Zm hb rfl) (hk n hn))
theorem ZjW {h:Zc} {R:Nat} {s:ByteArray} {l:BL} (hr:Rd h R s l) {K:ByteArray→Prop} (hk:K s):Ze (At R) fun b o=>ldS h b o K:=by
  obtain ⟨_,n,hb,hn⟩:=hr
  exact ZP (rS (Zm hb rfl) hk)
theorem ZjX {h:Zc} {R:Nat} {s:ByteArray} {l l':BL} (hr:Rd h R s l) {m:Int} {n:Nat} (hm:m=n) (hn:ZeV s n l') {K:HP} (hk:∀ h',Rd h' R s l'→Upd (· = R) h h'→sz h'=sz h→K h'):Ze (At R) fun b o=>st h b (o+1) (.int .i64 m) K:=by
  obtain ⟨hs,n0,hb,hn0⟩:=hr
  refine ZP (ZjZ hb (by simp) Zby fun h' c u z=>hk h' ⟨hs,n,?_,hn⟩ u z)
  rw [c,hm];rfl
theorem X7 {h:Zc} {R:Nat} {s:ByteArray} {c:UInt8} {l:BL} (hr:Rd h R s (c::l)) {K:HP} (hk:∀ h',Rd h' R s l→Upd (· = R) h h'→sz h'=sz h→K h') :
    Ze (At R) fun b o=>ldI h b (o+1) .i64 fun t=>Ze (At R) fun b o=>st h b (o+1) (.int .i64 (IntKind.wrap .i64 (t+1))) K:=by
  refine Zdb hr fun n hn=>?_
  have:=hn.len
  have:=hr.len
  refine ZjX hr (n:=n+1) ?_ hn.tail hk
  rw [Ys (by omega) (by omega)];rfl
theorem Zpp {h:Zc} {R:Nat} {s:ByteArray} {l:BL} (hr:Rd h R s l) {k:Int} {m:Nat} (hk:k=m) (hm:m≤l.length) {K:HP} (hK:∀ h',Rd h' R s (l.drop m)→Upd (· = R) h h'→sz h'=sz h→K h') :
    Ze (At R) fun b o=>ldI h b (o+1) .i64 fun t=>Ze (At R) fun b o=>st h b (o+1) (.int .i64 (IntKind.wrap .i64 (t+k))) K:=by
  refine Zdb hr fun n hn=>?_
  have:=hn.len
  have:=hr.len
  refine ZjX hr (n:=n+m) ?_ (hn.dropK hm) hK
  rw [Ys (by omega) (by omega),hk];rfl
theorem Zjd {h:Zc} {R:Nat} {s:ByteArray} {l:BL} (hr:Rd h R s l) {A B:Prop} (ha:l≠[]→A) (hb:l=[]→B) :
    Ze (At R) fun b o=>ldI h b (o+1) .i64 fun t=>Ze (At R) fun b o=>ldS h b o fun t5=>ZD (decide (t<(t5.size:Int))) A B:=by
  refine Zdb hr fun n hn=>ZjW hr (Zo (fun e=>ha ?_) fun e=>hb ?_)
  ·have:=hn.len
   intro e;subst e;simp at this;omega
  ·have:=hn.len
   exact List.eq_nil_of_length_eq_zero (by omega)
theorem ZhA {h:Zc} {R:Nat} {s:ByteArray} {l:BL} (hr:Rd h R s l) {A B:Prop} (ha:l=[]→A) (hb:l≠[]→B) :
    Ze (At R) fun b o=>ldI h b (o+1) .i64 fun t=>Ze (At R) fun b o=>ldS h b o fun t5=>ZD (decide (t≥(t5.size:Int))) A B:=by
  refine Zdb hr fun n hn=>ZjW hr (Zo (fun e=>ha ?_) fun e=>hb ?_)
  ·have:=hn.len
   exact List.eq_nil_of_length_eq_zero (by omega)
  ·have:=hn.len
   intro e;subst e;simp at this;omega
def Xk:BL→Int
  | c::_=>c.toNat
  | []=>0
theorem Yu {h:Zc} {R:Nat} {s:ByteArray} {l:BL} (hr:Rd h R s l) {K:Int→HP} (hk:K (Xk l) h):Zi (At R) K h:=by
  unfold Zi Zal
  refine Za (Zjd hr (fun hne=>?_) fun he=>Za ?_)
  ·obtain ⟨c,l',rfl⟩:=List.exists_cons_of_ne_nil hne
   refine ZjW hr (Zdb hr fun n hn=>⟨c,by omega,by rw [Int.toNat_natCast];exact hn.head,Za hk⟩)
  ·subst he;exact hk
theorem Zq2 {h:Zc} {R:Nat} {s:ByteArray} {l:BL} (hr:Rd h R s l) {K:Int × Unit→Prop} (hk:K (Xk l,())):ZkZ (ρ:=Int × Unit) (fun K h=>Zi (At R) (fun q h=>K (q,()) h) h) h K :=
  ⟨(Xk l,()),Yu hr ⟨rfl,rfl⟩,hk⟩
def OnE {α:Type} (h:Zc) (R:Nat) (s:ByteArray) (S:Nat→Prop) (res:Out α) (P:Value→HP):Prop:=∀ e r h',res = .err e r→Upd S h h'→P (Zbp e (s.size - r.length)) h'
def left (h:Zc) (R:Nat):Nat:=match obj h R with
  | some (.cells c _ _)=>(match c.toList with
    | [.string s,.int _ n]=>s.size - n.toNat
    | _=>0)
  | _=>0
theorem Rd.left {h:Zc} {R:Nat} {s:ByteArray} {l:BL} (hr:Rd h R s l):left h R=l.length:=by
  obtain ⟨_,n,b,g⟩:=hr
  unfold Go.Proofs.YtpjbjdheeemdiaaGreatDoor.left
  rw [b]
  have:=g.len
  simp
  omega
theorem ZmW {α:Type} {h:Zc} {R:Nat} {s:ByteArray} {l:BL} (hr:Rd h R s l) {e:Nat} {n:Int} (hn:n=((s.size - l.length:Nat):Int)) {K:HP} {P:Value→HP} (hp:∀ e' r,(YS e l:Out α) = .err e' r→r=l→P (Zbp e' (s.size - r.length)) h):Zf (At R) (e:Int) n K P h:=by
  unfold Zf YR
  have hl:=hr.len
  refine ZjW hr (Zo (fun hd=>?_) fun hd=>?_)
  ·have:l=[]:=by
     refine List.eq_nil_of_length_eq_zero ?_
     omega
   subst this
   have:=hp 24 [] rfl rfl
   exact ZjW hr this
  ·have hne:l≠[]:=by intro e;subst e;simp at hn;omega
   obtain ⟨c,l',rfl⟩:=List.exists_cons_of_ne_nil hne
   have:=hp e (c::l') rfl rfl
   subst hn
   exact this
theorem Xf {α:Type} {h:Zc} {R:Nat} {s:ByteArray} {l:BL} (hr:Rd h R s l) {e:Nat} {K:HP} {P:Value→HP} {e0:Int} (he:e0=e) (hp:∀ e' r,(YS e l:Out α) = .err e' r→r=l→P (Zbp e' (s.size - r.length)) h) :
    Ze (At R) fun b o=>ldI h b (o+1) .i64 fun t=>Zf (At R) e0 t K P h:=by
  subst he
  refine Zdb hr fun n hn=>ZmW (α:=α) hr ?_ hp
  have:=hn.len
  congr 1;omega
theorem ZfC {s:ByteArray} {c:Int} {K:Int→HP} {h:Zc} (hk:K (Lib.indexByte s.data.toList c.toNat.toUInt8) h):ZY s c K h:=hk
theorem Zp6 {p:UInt8→Prop} (h:∀ f:Fin 256,p ⟨⟨f⟩⟩):∀ c,p c:=fun ⟨⟨f⟩⟩=>h f
theorem Zkw (c:UInt8):(Lib.indexByte [32,9,10,13] c≥0)↔Z1 c=true:=by
  revert c
  exact Zp6 (by decide +kernel)
theorem Zaw {h:Zc} {R:Nat} {s:ByteArray} {l:BL} (hr:Rd h R s l) {K:HP} (hk:∀ h',Rd h' R s (Z3 l)→Upd (· = R) h h'→sz h'=sz h→K h'):Zv (At R) K h:=by
  unfold Zv XN
  refine ZL (fun _ h'=>∃ l',Rd h' R s l'∧Z3 l'=Z3 l∧Upd (· = R) h h'∧sz h'=sz h) (fun _ h'=>left h' R) ⟨l,hr,rfl,Upd.refl _ _,rfl⟩ ?_
  rintro ⟨⟩ h1 ⟨l1,r1,e1,u1,z1⟩
  dsimp only
  refine Zjd r1 (fun hne=>?_) fun he=>?_
  ·obtain ⟨c,l',rfl⟩:=List.exists_cons_of_ne_nil hne
   refine ZjW r1 (Zdb r1 fun n hn=>⟨c,by omega,by rw [Int.toNat_natCast];exact hn.head,?_⟩)
   refine ⟨(Lib.indexByte [32,9,10,13] c,()),⟨by simp,rfl⟩,Zo (fun hb=>?_) fun hb=>?_⟩
   ·refine X7 r1 fun h2 r2 u2 z2=>⟨⟨l',r2,?_,u1.trans u2,z2.trans z1⟩,?_⟩
    ·rw [← e1]
     unfold Z3
     rw [List.dropWhile_cons_of_pos ((Zkw c).1 hb)]
    ·rw [r1.left,r2.left];simp
   ·refine hk h1 ?_ u1 z1
    have:Z1 c=false:=by
      cases hc:Z1 c
      ·rfl
      ·exact absurd ((Zkw c).2 hc) hb
    rw [← e1]
    unfold Z3
    rw [List.dropWhile_cons_of_neg (by simp [this])]
    exact r1
  ·subst he
   refine hk h1 ?_ u1 z1
   rw [← e1]
   exact r1
theorem Ze9 {h:Zc} {b:Nat} {l:List Value} (hb:obj h b=some (.cells l.toArray 33 (0,0))) (hl:l.length=4) {k:Int} {t:ByteArray} {x y:Sl} {K:(Int × ByteArray × Sl × Sl × Unit)→HP}
    (hk:∀ h',Upd (· = b) h h'→sz h'=sz h→K (k,t,x,y,()) h') :
    sts h b 0 [.int .u8 k,.string t,.slice x.ptr x.len x.cap,.slice y.ptr y.len y.cap] fun h83 =>
      ldI h83 b 0 .u8 fun t84=>ldS h83 b (0+1) fun t85=>ldL h83 b (0+2) fun t86=>ldL h83 b (0+3) fun t87=>K (t84,t85,t86,t87,()) h83:=by
  obtain ⟨a0,a1,a2,a3,rfl⟩:∃ a0 a1 a2 a3,l=[a0,a1,a2,a3]:=by
    rcases l with _ | ⟨a0,_ | ⟨a1,_ | ⟨a2,_ | ⟨a3,_ | ⟨a4,l⟩⟩⟩⟩⟩<;>simp at hl
    exact ⟨a0,a1,a2,a3,rfl⟩
  rw [Zig (by rw [hb,Zbh];rfl) (by rfl)]
  have hc:obj (h.puts b 0 [.int .u8 k,.string t,.slice x.ptr x.len x.cap,.slice y.ptr y.len y.cap]) b=some (.cells [.int .u8 k,.string t,.slice x.ptr x.len x.cap,.slice y.ptr y.len y.cap].toArray 33 (0,0)):=by
    rw [Zad,if_pos rfl,hb,Y5];rfl
  refine rI (Zm hc rfl) (rS (Zm hc rfl) (rL (s:=x) (Zm hc rfl) (rL (s:=y) (Zm hc rfl) (hk _ ?_ Zct))))
  exact ZnF (Upd.refl _ _) (.inr rfl)
theorem UT {S T:Nat→Prop} {h0 h h':Zc} (u0:Upd S h0 h) (u:Upd T h h') (hT:∀ k,T k→S k∨sz h0≤k):Upd S h0 h' :=
  ⟨Nat.le_trans u0.size u.size,fun k hk hs=>(u.old k (Nat.lt_of_lt_of_le hk u0.size) fun t=>(hT k t).elim hs fun h9=>by have:sz h0=h0.size:=rfl;omega).trans (u0.old k hk hs)⟩
theorem UN {T:Nat→Prop} {h h1 h':Zc} (e:Ext h h1) (u:Upd T h1 h'):Upd T h h':=UT (e.upd T) u fun _ t=> .inl t
theorem Zd7 {c d:UInt8} (h:(c.toNat:Int)≠(d.toNat:Int)):c≠d:=fun e=>h (by rw [e])
theorem ZdG {c d:UInt8} (h:(c.toNat:Int)=(d.toNat:Int)):c=d:=UInt8.toNat_inj.1 (by omega)
theorem Zbu {a b:Int} {A B:Prop} (h1:a≠b→A) (h2:a=b→B):ZD (a !=b) A B:=⟨fun e=>h1 (by simpa using e),fun e=>h2 (by simpa using e)⟩
theorem Xn {a b:Int} {A B:Prop} (h1:a=b→A) (h2:a≠b→B):ZD (a ==b) A B:=⟨fun e=>h1 (by simpa using e),fun e=>h2 (by simpa using e)⟩
theorem Ze2 {h:Zc} {R:Nat} {s:ByteArray} {l:BL} (hr:Rd h R s l) {w:ByteArray} {wl:BL} (hw:w.data.toList=wl) (hs:w.size≤10) {k:Int} {K:(Int × ByteArray × Sl × Sl × Unit)→HP} {P:Value→HP}
    (hok:∀ r h',Zbk wl l = .ok () r→Rd h' R s r→Upd (· = R) h h'→K (k,ByteArray.mk #[],⟨none,0,0⟩,⟨none,0,0⟩,()) h') (herr:OnE h R s (· = R) (Zbk wl l) P):YP (At R) w k K P h:=by
  unfold YP Zai
  have hR:=hr.lt
  have hwl:wl.length=w.size:=by rw [← hw];simp
  refine ZbP fun h1 c1 e1 z1=>?_
  have r1:=hr.ext e1
  refine ZL (fun p h'=>∃ (n:Nat) (l':BL),p.1=n∧n≤w.size∧Rd h' R s l'∧Zbk (wl.drop n) l'=Zbk wl l∧Upd (· = R) h1 h') (fun p _=>w.size - p.1.toNat) ⟨0,l,rfl,Nat.zero_le _,r1,rfl,Upd.refl _ _⟩ ?_
  rintro ⟨i,u⟩ h2 ⟨n,l2,hi,hn,r2,q2,u2⟩
  dsimp only at hi
  subst hi
  dsimp only
  refine Zo (fun hlt=>Za (ZfS ?_)) fun hge=>?_
  ·have hn':n<wl.length:=by omega
   have hd:wl.drop n=wl[n]::wl.drop (n+1):=List.drop_eq_getElem_cons hn'
   have hx:w[n]?=some wl[n]:=by
     subst hw
     rw [getElem?_pos w n (by omega)]
     simp
     rfl
   refine Zq2 r2 ⟨wl[n],by omega,by rw [Int.toNat_natCast];exact hx,?_⟩
   dsimp only
   rw [hd] at q2
   rcases l2 with _ | ⟨c,l2⟩
   ·have hfail:∀ e' r,(YS 20 ([]:BL):Out Unit) = .err e' r→r=[]→P (Zbp e' (s.size - r.length)) h2:=fun e' r he hr'=>herr e' r h2 (by rw [← q2,← he];rfl) (UN e1 u2)
    refine Zbu (fun _=>Xf r2 rfl hfail) fun _=>ZhA r2 (fun _=>Xf r2 rfl hfail) fun hne=>absurd rfl hne
   ·refine Zbu (fun hne=>Xf (α:=Unit) r2 rfl fun e' r he hr'=>?_) fun heq=>ZhA r2 (fun hl=>by cases hl) fun _=>X7 r2 fun h3 r3 u3 z3=>?_
    ·refine herr e' r h2 ?_ (UN e1 u2)
     rw [← q2,← he]
     unfold Zbk
     rw [if_neg (Zd7 hne)]
     rfl
    ·rw [Ys (by omega) (by omega)]
     refine ⟨⟨n+1,l2,rfl,by omega,r3,?_,u2.trans u3⟩,by omega⟩
     rw [← q2]
     conv=>rhs;unfold Zbk
     rw [if_pos (ZdG heq)]
  ·have hn':n=wl.length:=by omega
   subst hn'
   rw [List.drop_length] at q2
   have hb:obj h2 h.size=some (.cells zV.toArray 33 (0,0)):=Yq c1 u2 (show ¬ h.size=R from by have:sz h=h.size:=rfl;omega)
   refine Ze9 (x:=⟨none,0,0⟩) (y:=⟨none,0,0⟩) hb rfl fun h3 u3 z3=>hok l2 h3 (by rw [← q2];rfl) (r2.upd u3 (show ¬ R=h.size from by have:sz h=h.size:=rfl;omega)) ?_
   exact UT (UN e1 u2) u3 fun k hk=> .inr (by subst hk;exact Nat.le_refl _)
theorem ZaM {c:UInt8}:XD c=true↔48≤c.toNat∧c.toNat≤57:=by unfold XD;simp
theorem Zdy {h:Zc} {R:Nat} {s:ByteArray} {l:BL} (hr:Rd h R s l) {K:HP} {P:Value→HP}
    (hok:∀ r h',Z6 l = .ok () r→Rd h' R s r→Upd (· = R) h h'→K h') (herr:OnE h R s (· = R) (Z6 l) P):ZG (At R) K P h:=by
  unfold ZG XM
  refine ZfS (Yu hr (Za ?_))
  have hfail:(∀ c l',l=c::l'→¬ XD c=true)→∀ e' r,(YS 21 l:Out Unit) = .err e' r→r=l→P (Zbp e' (s.size - r.length)) h:=fun hc e' r he hr'=>herr e' r h (by
    rw [← he]
    rcases l with _ | ⟨c,l⟩
    ·rfl
    ·dsimp only [Z6]
     rw [if_neg (hc c l rfl)];rfl) (Upd.refl _ _)
  refine Zo (fun hlo=>Xf hr rfl (hfail ?_)) fun hlo=>Zo (fun hhi=>Xf hr rfl (hfail ?_)) fun hhi=>?_
  ·rintro c l' rfl hd
   have:=ZaM.1 hd
   simp only [Xk] at hlo
   omega
  ·rintro c l' rfl hd
   have:=ZaM.1 hd
   simp only [Xk] at hhi
   omega
  ·rcases l with _ | ⟨c,l⟩
   ·simp [Xk] at hlo
   ·simp only [Xk] at hlo hhi
    have hd:XD c=true:=ZaM.2 (by omega)
    have hq:Z6 (c::l) = .ok () (l.dropWhile XD):=by dsimp only [Z6];rw [if_pos hd]
    refine Yu hr (Za ?_)
    refine ZL (fun p h'=>∃ l',p.1=Xk l'∧Rd h' R s l'∧l'.dropWhile XD=l.dropWhile XD∧Upd (· = R) h h') (fun _ h'=>left h' R) ⟨c::l,rfl,hr,by rw [List.dropWhile_cons_of_pos hd],Upd.refl _ _⟩ ?_
    rintro ⟨i,u⟩ h1 ⟨l1,hi,r1,q1,u1⟩
    dsimp only at hi ⊢
    subst hi
    have fin:(∀ c l',l1=c::l'→¬ XD c=true)→K h1:=fun hc=>hok _ h1 hq (by
      rw [← q1]
      rcases l1 with _ | ⟨d,l1⟩
      ·exact r1
      ·rw [List.dropWhile_cons_of_neg (by simpa using hc d l1 rfl)];exact r1) u1
    refine Zo (fun h48=>Zo (fun h57=>?_) fun h57=>fin ?_) fun h48=>fin ?_
    ·rcases l1 with _ | ⟨d,l1⟩
     ·simp [Xk] at h48
     ·simp only [Xk] at h48 h57
      have hd1:XD d=true:=ZaM.2 (by omega)
      refine X7 r1 fun h2 r2 u2 z2=>Yu r2 (Za ⟨⟨l1,rfl,r2,?_,u1.trans u2⟩,by rw [r1.left,r2.left];simp⟩)
      rw [← q1,List.dropWhile_cons_of_pos hd1]
    ·rintro d l' rfl hd
     have:=ZaM.1 hd
     simp only [Xk] at h57
     omega
    ·rintro d l' rfl hd
     have:=ZaM.1 hd
     simp only [Xk] at h48
     omega
end Go.Proofs.YtpjbjdheeemdiaaGreatDoor
