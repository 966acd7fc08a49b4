/- That each function does what its model says. Written by a program out of the translated functions. -/
import Derived.Test.YtpjbjdheeemdiaaGreatDoorProg
import Derived.KernelRfl
import Derived.Recover
import Derived.Tactics2
import Derived.Below
import Derived.Test.YtpjbjdheeemdiaaGreatDoorPa6
set_option linter.unusedVariables false
set_option linter.unusedSimpArgs false
namespace Go.Proofs.YtpjbjdheeemdiaaGreatDoor
open Go Go.Fw
noncomputable section
theorem Zt:Tryz.prog.follows .mixedOrders=true:=by kernel_rfl
abbrev zk1 (f:zT1):Zh:=⟨[.one (.P)],[],fun t K _ h=>f t.1 (fun h=>K (()) h) h⟩
abbrev zc1 (f0:zT0):Cfg:=Yl Tryz.prog [(171,⟨[.one (.S),.one (.I .u8)],[.one (.I .i64)],fun t K _ h=>f0 t.1 t.2.1 (fun r0 h=>K (r0,()) h) h⟩)] 32 [] [] [] Yp
theorem zr1 (f0:zT0):Yy (zc1 f0) Tryz.f97 (.block (.loop [] [] [(2,31)] (.leaf))) (zk1 (XD f0)):=fun _ _ _ _=>by kernel_rfl
theorem zo1:Zu Tryz.prog 97 (zk1 Zv):=okF (zr1 ZX) Tryz.func97 Zt (ZO _ (.cons Xw .nil) .nil .nil .nil (ZM _))
abbrev zk2 (f:zT2):Zh:=⟨[.one (.P)],[.one (.I .u8)],fun t K _ h=>f t.1 (fun r0 h=>K (r0,()) h) h⟩
abbrev zc2:Cfg:=Yl Tryz.prog [] 22 [] [] [] Yp
theorem zr2:Yy (zc2) Tryz.f166 (.leaf) (zk2 Zac):=fun _ _ _ _=>by kernel_rfl
theorem zo2:Zu Tryz.prog 166 (zk2 Zi):=okF (zr2) Tryz.func166 Zt (ZO _ .nil .nil .nil .nil (ZM _))
abbrev zk3 (f:zT3):Zh:=⟨[.one (.P),.one (.I .i64),.one (.I .i64)],[],fun t K Kp h=>f t.1 t.2.1 t.2.2.1 (fun h=>K (()) h) Kp h⟩
abbrev zc3:Cfg:=Yl Tryz.prog [] 24 [] [] [] Yp
theorem zr3:Yy (zc3) Tryz.f98 (.leaf) (zk3 YO):=fun _ _ _ _=>by kernel_rfl
theorem zo3:Zu Tryz.prog 98 (zk3 Zf):=okF (zr3) Tryz.func98 Zt (ZO _ .nil .nil .nil .nil (ZM _))
abbrev zk6 (f:zT6):Zh:=⟨[.one (.P),.one (.I .u8)],[.one (.V)],fun t K _ h=>f t.1 t.2.1 (fun r0 h=>K (r0,()) h) h⟩
abbrev zc6 (f5:zT5):Cfg:=Yl Tryz.prog [(251,⟨[.one (.P)],[],fun t K _ h=>f5 t.1 (fun h=>K (()) h) h⟩)] 17 [] [] [] Yp
theorem zr6 (f5:zT5):Yy (zc6 f5) Tryz.f184 (.leaf) (zk6 (Yc f5)):=fun _ _ _ _=>by kernel_rfl
theorem zo6:Zu Tryz.prog 184 (zk6 Zl):=okF (zr6 Zx) Tryz.func184 Zt (ZO _ (.cons Yx .nil) .nil .nil .nil (ZM _))
abbrev zk7 (f:zT7):Zh:=⟨[.one (.P)],[.one (.I .i32)],fun t K Kp h=>f t.1 (fun r0 h=>K (r0,()) h) Kp h⟩
abbrev zc7 (f2:zT2) (f3:zT3):Cfg:=Yl Tryz.prog [(166,zk2 f2),(98,zk3 f3)] 65 [] [] [] Yp
theorem zr7 (f2:zT2) (f3:zT3):Yy (zc7 f2 f3) Tryz.f297 (.seq (.leaf) (.seq (.leaf) (.seq (.seq (.leaf) (.block (.loop [3,5] [.one (.I .i32),.one (.I .i64)] [(4,4),(6,63)] (.seq (.leaf) (.seq (.leaf) (.seq (.block (.seq (.leaf) (.cut [3] [.one (.I .i32)] [(9,55)] (.block (.cut [15] [.one (.B)] [(16,21)] (.leaf) (.leaf))) (.leaf)))) (.leaf))))))) (.leaf)))) (zk7 (Zan f2 f3)):=fun _ _ _ _=>by kernel_rfl
theorem zo7:Zu Tryz.prog 297 (zk7 YY):=okF (zr7 Zi Zf) Tryz.func297 Zt (ZO _ (.cons zo2 (.cons zo3 .nil)) .nil .nil .nil (ZM _))
abbrev zk8 (f:zT8):Zh:=⟨[.one (.S),.one (.S)],[.one (.B)],fun t K _ h=>f t.1 t.2.1 (fun r0 h=>K (r0,()) h) h⟩
abbrev zc8:Cfg:=Yl Tryz.prog [] 18 [] [] [] Yp
theorem zr8:Yy (zc8) Tryz.f249 (.leaf) (zk8 ZU):=fun _ _ _ _=>by kernel_rfl
theorem zo8:Zu Tryz.prog 249 (zk8 Zm):=okF (zr8) Tryz.func249 Zt (ZO _ .nil .nil .nil .nil (ZM _))
abbrev zk9 (f:zT9):Zh:=⟨[.one (.S),.one (.S)],[.one (.B)],fun t K _ h=>f t.1 t.2.1 (fun r0 h=>K (r0,()) h) h⟩
abbrev zc9 (f8:zT8):Cfg:=Yl Tryz.prog [(249,zk8 f8)] 8 [] [] [] Yp
theorem zr9 (f8:zT8):Yy (zc9 f8) Tryz.f196 (.leaf) (zk9 (XO f8)):=fun _ _ _ _=>by kernel_rfl
theorem zo9:Zu Tryz.prog 196 (zk9 Yz):=okF (zr9 Zm) Tryz.func196 Zt (ZO _ (.cons zo8 .nil) .nil .nil .nil (ZM _))
abbrev ZrT (f:Zqr):Zh:=⟨[.one (.L),.one (.I .i32)],[.one (.L)],fun t K _ h=>f t.1 t.2.1 (fun r0 h=>K (r0,()) h) h⟩
abbrev ZuI:Cfg:=Yl Tryz.prog [] 78 [] [] [] Yp
theorem Ztq:Yy (ZuI) Tryz.f325 (.seq (.leaf) (.seq (.leaf) (.block (.seq (.leaf) (.cond (.leaf) (.cut [25] [.one (.B)] [(26,33)] (.leaf) (.leaf))))))) (ZrT Yb):=fun _ _ _ _=>by kernel_rfl
theorem Zt3:Zu Tryz.prog 325 (ZrT ZP):=okF (Ztq) Tryz.func325 Zt (ZO _ .nil .nil .nil .nil (ZM _))
abbrev ZrS (f:Zqq):Zh:=⟨[.one (.L),.one (.I .i32)],[.one (.L)],fun t K _ h=>f t.1 t.2.1 (fun r0 h=>K (r0,()) h) h⟩
abbrev ZuH (f10:Zqr):Cfg:=Yl Tryz.prog [(325,ZrT f10)] 16 [] [] [] Yp
theorem Ztp (f10:Zqr):Yy (ZuH f10) Tryz.f309 (.leaf) (ZrS (YR f10)):=fun _ _ _ _=>by kernel_rfl
theorem Zt2:Zu Tryz.prog 309 (ZrS Z2):=okF (Ztp ZP) Tryz.func309 Zt (ZO _ (.cons Zt3 .nil) .nil .nil .nil (ZM _))
abbrev ZrR (f:Zqp):Zh:=⟨[.one (.P),.one (.I .i32)],[.one (.I .i64),.one (.V)],fun t K _ h=>f t.1 t.2.1 (fun r0 r1 h=>K (r0,r1,()) h) h⟩
abbrev ZuG (f5:zT5) (f11:Zqq):Cfg:=Yl Tryz.prog [(251,⟨[.one (.P)],[],fun t K _ h=>f5 t.1 (fun h=>K (()) h) h⟩),(309,ZrS f11)] 30 [] [] [] Yp
theorem Zto (f5:zT5) (f11:Zqq):Yy (ZuG f5 f11) Tryz.f255 (.leaf) (ZrR (YD f5 f11)):=fun _ _ _ _=>by kernel_rfl
theorem Zt1:Zu Tryz.prog 255 (ZrR ZY):=okF (Zto Zx Z2) Tryz.func255 Zt (ZO _ (.cons Yx (.cons Zt2 .nil)) .nil .nil .nil (ZM _))
abbrev ZrQ (f:Zqo):Zh:=⟨[.one (.P),.one (.P)],[],fun t K Kp h=>f t.1 t.2.1 (fun h=>K (()) h) Kp h⟩
abbrev ZuF (f2:zT2) (f0:zT0) (f6:zT6) (f3:zT3) (f7:zT7) (f9:zT9) (f12:Zqp):Cfg:=Yl Tryz.prog [(166,zk2 f2),(171,⟨[.one (.S),.one (.I .u8)],[.one (.I .i64)],fun t K _ h=>f0 t.1 t.2.1 (fun r0 h=>K (r0,()) h) h⟩),(184,zk6 f6),(98,zk3 f3),(297,zk7 f7),(196,zk9 f9),(255,ZrR f12)] 114 [] [] [] Yp
theorem Ztn (f2:zT2) (f0:zT0) (f6:zT6) (f3:zT3) (f7:zT7) (f9:zT9) (f12:Zqp):Yy (ZuF f2 f0 f6 f3 f7 f9 f12) Tryz.f240 (.seq (.leaf) (.cut [] [] [(5,5),(11,37)] (.leaf) (.cut [] [] [(38,45)] (.leaf) (.seq (.leaf) (.seq (.leaf) (.cut [] [] [(7,8),(55,104)] (.cut [72] [.one (.B)] [(55,71)] (.leaf) (.leaf)) (.cut [6] [.one (.I .i32)] [(105,110)] (.leaf) (.leaf)))))))) (ZrQ (XB f2 f0 f6 f3 f7 f9 f12)):=fun _ _ _ _=>by kernel_rfl
theorem Zt0:Zu Tryz.prog 240 (ZrQ Yv):=okF (Ztn Zi ZX Zl Zf YY Yz ZY) Tryz.func240 Zt (ZO _ (.cons zo2 (.cons Xw (.cons zo6 (.cons zo3 (.cons zo7 (.cons zo9 (.cons Zt1 .nil))))))) .nil .nil .nil (ZM _))
abbrev ZrP (f:Zqn):Zh:=⟨[.one (.S)],[.one (.B)],fun t K _ h=>f t.1 (fun r0 h=>K (r0,()) h) h⟩
abbrev ZuE (f14:Zr0) (f15:Zlj):Cfg:=Yl Tryz.prog [(323,⟨[.one (.S)],[.one (.I .i64)],fun t K _ h=>f14 t.1 (fun r0 h=>K (r0,()) h) h⟩),(163,⟨[.one (.S)],[.one (.B)],fun t K _ h=>f15 t.1 (fun r0 h=>K (r0,()) h) h⟩)] 64 [] [] [] Yp
theorem Ztm (f14:Zr0) (f15:Zlj):Yy (ZuE f14 f15) Tryz.f298 (.seq (.leaf) (.seq (.seq (.leaf) (.block (.loop [11] [.one (.I .i64)] [(2,2),(4,8),(12,56)] (.seq (.leaf) (.seq (.leaf) (.seq (.block (.seq (.leaf) (.seq (.seq (.leaf) (.block (.loop [5] [.one (.I .i64)] [(2,2),(6,7),(17,36)] (.leaf)))) (.leaf)))) (.leaf))))))) (.leaf))) (ZrP (ZbX f14 f15)):=fun _ _ _ _=>by kernel_rfl
theorem ZtZ:Zu Tryz.prog 298 (ZrP X6):=okF (Ztm ZS Zw) Tryz.func298 Zt (ZO _ (.cons X2 (.cons Z8 .nil)) .nil .nil .nil (ZM _))
abbrev ZpV (f:Zln):Zh:=⟨[.one (.P),.one (.S)],[.one (.I .i64),.one (.V)],fun t K _ h=>f t.1 t.2.1 (fun r0 r1 h=>K (r0,r1,()) h) h⟩
abbrev ZuD (f5:zT5):Cfg:=Yl Tryz.prog [(251,⟨[.one (.P)],[],fun t K _ h=>f5 t.1 (fun h=>K (()) h) h⟩)] 19 [] [] [] Yp
theorem Ztl (f5:zT5):Yy (ZuD f5) Tryz.f183 (.leaf) (ZpV (Z5 f5)):=fun _ _ _ _=>by kernel_rfl
theorem Zrn:Zu Tryz.prog 183 (ZpV Zk):=okF (Ztl Zx) Tryz.func183 Zt (ZO _ (.cons Yx .nil) .nil .nil .nil (ZM _))
abbrev ZrO (f:Zqm):Zh:=⟨[.one (.P),.one (.P)],[],fun t K Kp h=>f t.1 t.2.1 (fun h=>K (()) h) Kp h⟩
abbrev ZuC (f3:zT3) (f16:Zqn) (f15:Zlj) (f17:Zln):Cfg:=Yl Tryz.prog [(98,zk3 f3),(298,ZrP f16),(163,⟨[.one (.S)],[.one (.B)],fun t K _ h=>f15 t.1 (fun r0 h=>K (r0,()) h) h⟩),(183,ZpV f17)] 67 [] [] [] Yp
theorem Ztk (f3:zT3) (f16:Zqn) (f15:Zlj) (f17:Zln):Yy (ZuC f3 f16 f15 f17) Tryz.f241 (.seq (.leaf) (.block (.loop [4] [.one (.I .i64)] [(5,66)] (.seq (.block (.cut [] [] [(8,26)] (.leaf) (.seq (.leaf) (.cut [] [] [(42,53)] (.leaf) (.leaf))))) (.leaf))))) (ZrO (XS f3 f16 f15 f17)):=fun _ _ _ _=>by kernel_rfl
theorem ZtY:Zu Tryz.prog 241 (ZrO YB):=okF (Ztk Zf X6 Zw Zk) Tryz.func241 Zt (ZO _ (.cons zo3 (.cons ZtZ (.cons Z8 (.cons Zrn .nil)))) .nil .nil .nil (ZM _))
abbrev Zrd (f:Zor):Zh:=⟨[.one (.P)],[.one (.S)],fun t K Kp h=>f t.1 (fun r0 h=>K (r0,()) h) Kp h⟩
abbrev ZuB (f2:zT2) (f3:zT3) (f4:zT4) (f13:Zqo) (f6:zT6) (f18:Zqm):Cfg:=Yl Tryz.prog [(166,zk2 f2),(98,zk3 f3),(115,⟨[.one (.P)],[.one (.S)],fun t K _ h=>f4 t.1 (fun r0 h=>K (r0,()) h) h⟩),(240,ZrQ f13),(184,zk6 f6),(241,ZrO f18)] 72 [] [] [] Yp
theorem Ztj (f2:zT2) (f3:zT3) (f4:zT4) (f13:Zqo) (f6:zT6) (f18:Zqm):Yy (ZuB f2 f3 f4 f13 f6 f18) Tryz.f168 (.seq (.leaf) (.seq (.leaf) (.seq (.leaf) (.block (.loop [] [] [(2,2),(4,4),(12,71)] (.block (.seq (.leaf) (.block (.cut [16] [.one (.B)] [(17,30)] (.leaf) (.leaf)))))))))) (Zrd (Zaa f2 f3 f4 f13 f6 f18)):=fun _ _ _ _=>by kernel_rfl
theorem ZsA:Zu Tryz.prog 168 (Zrd Z9):=okF (Ztj Zi Zf ZR Yv Zl YB) Tryz.func168 Zt (ZO _ (.cons zo2 (.cons zo3 (.cons XH (.cons Zt0 (.cons zo6 (.cons ZtY .nil)))))) .nil .nil .nil (ZM _))
abbrev Zne (f:Zg2):Zh:=⟨[.one (.P),.one (.I .i64)],[.agg [.I .u8,.S,.L,.L]],fun t K Kp h=>f t.1 t.2.1 (fun r0 h=>K (r0,()) h) Kp h⟩
abbrev ZrN (f:Zql):Zh:=⟨[.one (.P),.one (.P),.one (.I .i64)],[],fun t K Kp h=>f t.1 t.2.1 t.2.2.1 (fun h=>K (()) h) Kp h⟩
abbrev Zuz (f1:zT1) (f2:zT2) (f3:zT3) (f19:Zor) (f20:Zg2):Cfg:=Yl Tryz.prog [(97,zk1 f1),(166,zk2 f2),(98,zk3 f3),(168,Zrd f19),(96,Zne f20)] 66 [] [] [] Yp
theorem Zth (f1:zT1) (f2:zT2) (f3:zT3) (f19:Zor) (f20:Zg2):Yy (Zuz f1 f2 f3 f19 f20) Tryz.f239 (.seq (.leaf) (.cut [] [] [(8,50)] (.seq (.leaf) (.cond (.cut [] [] [(13,21)] (.leaf) (.seq (.order (.take 0 (.take 1 (.take 2 (.take 3 (.take 5 (.take 4 (.take 6 (.take 7 (.take 8 (.take 9 (.take 10 (.take 11 .done))))))))))))) (.seq (.leaf) (.cut [] [] [(35,43)] (.leaf) (.leaf))))) (.leaf))) (.seq (.order (.take 0 (.take 1 (.take 2 (.take 4 (.take 5 (.take 3 (.take 7 (.fork 6 (.take 8 (.take 9 (.take 10 (.take 12 (.take 13 (.fork 11 (.take 14 .done) 14 (.take 11 .done))))))) 8 (.take 6 (.take 9 (.take 10 (.take 12 (.take 13 (.fork 11 (.take 14 .done) 14 (.take 11 .done)))))))))))))))) (.leaf)))) (ZrN (Zab f1 f2 f3 f19 f20)):=fun _ _ _ _=>by kernel_rfl
theorem Zty (f20:Zg2) (hH:Zu Tryz.prog 96 (Zne f20)):Zu Tryz.prog 239 (ZrN (YJ f20)):=okF (Zth Zv Zi Zf Z9 f20) Tryz.func239 Zt (ZO _ (.cons zo1 (.cons zo2 (.cons zo3 (.cons ZsA (.cons hH .nil))))) .nil .nil .nil (ZM _)) (hlen:=Nat.le_of_ble_eq_true rfl)
abbrev ZrM (f:Zqk):Zh:=⟨[.one (.P),.one (.I .u8),.one (.I .u8),.one (.I .i64)],[.agg [.I .u8,.S,.L,.L]],fun t K Kp h=>f t.1 t.2.1 t.2.2.1 t.2.2.2.1 (fun r0 h=>K (r0,()) h) Kp h⟩
abbrev Zuy (f3:zT3) (f1:zT1) (f2:zT2) (f21:Zql):Cfg:=Yl Tryz.prog [(98,zk3 f3),(97,zk1 f1),(166,zk2 f2),(239,ZrN f21)] 77 [] [] [] Yp
theorem Ztg (f3:zT3) (f1:zT1) (f2:zT2) (f21:Zql):Yy (Zuy f3 f1 f2 f21) Tryz.f167 (.seq (.leaf) (.cut [] [] [(10,17)] (.leaf) (.seq (.leaf) (.seq (.leaf) (.seq (.leaf) (.seq (.block (.loop [] [] [(29,68)] (.cut [] [] [(29,44)] (.leaf) (.block (.cut [] [] [(45,64)] (.seq (.leaf) (.cond (.cut [] [] [(49,57)] (.leaf) (.leaf)) (.leaf))) (.leaf)))))) (.leaf))))))) (ZrM (Y9 f3 f1 f2 f21)):=fun _ _ _ _=>by kernel_rfl
theorem Ztx (f20:Zg2) (hH:Zu Tryz.prog 96 (Zne f20)):Zu Tryz.prog 167 (ZrM (ZW f20)):=okF (Ztg Zf Zv Zi (YJ f20)) Tryz.func167 Zt (ZO _ (.cons zo3 (.cons zo1 (.cons zo2 (.cons (Zty f20 hH) .nil)))) .nil .nil .nil (ZM _)) (hlen:=Nat.le_of_ble_eq_true rfl)
abbrev ZrL (f:Zqj):Zh:=⟨[.one (.P),.one (.S),.one (.I .u8)],[.agg [.I .u8,.S,.L,.L]],fun t K Kp h=>f t.1 t.2.1 t.2.2.1 (fun r0 h=>K (r0,()) h) Kp h⟩
abbrev Zux (f2:zT2) (f3:zT3):Cfg:=Yl Tryz.prog [(166,zk2 f2),(98,zk3 f3)] 47 [] [] [] Yp
theorem Ztf (f2:zT2) (f3:zT3):Yy (Zux f2 f3) Tryz.f169 (.seq (.leaf) (.seq (.seq (.leaf) (.block (.loop [10] [.one (.I .i64)] [(7,7),(11,44)] (.seq (.leaf) (.seq (.leaf) (.seq (.block (.seq (.leaf) (.cut [] [] [(13,36)] (.leaf) (.leaf)))) (.leaf))))))) (.leaf))) (ZrL (X9 f2 f3)):=fun _ _ _ _=>by kernel_rfl
theorem ZtW:Zu Tryz.prog 169 (ZrL YL):=okF (Ztf Zi Zf) Tryz.func169 Zt (ZO _ (.cons zo2 (.cons zo3 .nil)) .nil .nil .nil (ZM _))
abbrev ZrK (f:Zqi):Zh:=⟨[.one (.P)],[],fun t K Kp h=>f t.1 (fun h=>K (()) h) Kp h⟩
abbrev Zuw (f2:zT2) (f3:zT3):Cfg:=Yl Tryz.prog [(166,zk2 f2),(98,zk3 f3)] 35 [] [] [] Yp
theorem Zte (f2:zT2) (f3:zT3):Yy (Zuw f2 f3) Tryz.f242 (.cut [] [] [(2,2),(4,17)] (.leaf) (.seq (.leaf) (.block (.loop [3] [.one (.I .u8)] [(20,34)] (.leaf))))) (ZrK (XC f2 f3)):=fun _ _ _ _=>by kernel_rfl
theorem ZtV:Zu Tryz.prog 242 (ZrK ZG):=okF (Zte Zi Zf) Tryz.func242 Zt (ZO _ (.cons zo2 (.cons zo3 .nil)) .nil .nil .nil (ZM _))
abbrev ZrJ (f:Zqh):Zh:=⟨[.one (.P)],[.agg [.I .u8,.S,.L,.L]],fun t K Kp h=>f t.1 (fun r0 h=>K (r0,()) h) Kp h⟩
abbrev Zuv (f2:zT2) (f3:zT3) (f24:Zqi):Cfg:=Yl Tryz.prog [(166,zk2 f2),(98,zk3 f3),(242,ZrK f24)] 102 [] [] [] Yp
theorem Ztd (f2:zT2) (f3:zT3) (f24:Zqi):Yy (Zuv f2 f3 f24) Tryz.f170 (.seq (.leaf) (.seq (.leaf) (.cut [] [] [(11,20)] (.leaf) (.cut [] [] [(4,4),(21,46)] (.leaf) (.cut [] [] [(47,58)] (.leaf) (.cut [] [] [(5,6),(59,90)] (.leaf) (.seq (.order (.take 0 (.take 1 (.take 2 (.take 4 (.take 5 (.take 6 (.take 7 (.take 3 (.take 8 (.take 9 (.take 10 (.take 11 .done))))))))))))) (.leaf)))))))) (ZrJ (XA f2 f3 f24)):=fun _ _ _ _=>by kernel_rfl
theorem ZtU:Zu Tryz.prog 170 (ZrJ Yg):=okF (Ztd Zi Zf ZG) Tryz.func170 Zt (ZO _ (.cons zo2 (.cons zo3 (.cons ZtV .nil))) .nil .nil .nil (ZM _))
abbrev ZuA (f1:zT1) (f2:zT2) (f3:zT3) (f22:Zqk) (f19:Zor) (f23:Zqj) (f25:Zqh):Cfg:=Yl Tryz.prog [(97,zk1 f1),(166,zk2 f2),(98,zk3 f3),(167,ZrM f22),(168,Zrd f19),(169,ZrL f23),(170,ZrJ f25)] 80 [] [] [] Yp
theorem Zti (f1:zT1) (f2:zT2) (f3:zT3) (f22:Zqk) (f19:Zor) (f23:Zqj) (f25:Zqh):Yy (ZuA f1 f2 f3 f22 f19 f23 f25) Tryz.f96 (.seq (.leaf) (.seq (.leaf) (.cut [] [] [(5,5),(8,72)] (.leaf) (.leaf)))) (Zne (XR f1 f2 f3 f22 f19 f23 f25)):=fun _ _ _ _=>by kernel_rfl
theorem Ztz (f20:Zg2) (hH:Zu Tryz.prog 96 (Zne f20)):Zu Tryz.prog 96 (Zne (Y4 f20)):=okF (Zti Zv Zi Zf (ZW f20) Z9 YL Yg) Tryz.func96 Zt (ZO _ (.cons zo1 (.cons zo2 (.cons zo3 (.cons (Ztx f20 hH) (.cons ZsA (.cons ZtW (.cons ZtU .nil))))))) .nil .nil .nil (ZM _)) (hlen:=Nat.le_of_ble_eq_true rfl)
theorem Zsw:∀ n,Zu Tryz.prog 96 (Zne (Z7 n))
 | 0=>Zht Tryz.func96 (by kernel_rfl) (by kernel_rfl) fun _ _ _ _ h=>h
 | n+1=>Ztz _ (Zsw n)
theorem ZtX:Zu Tryz.prog 96 (Zne Y7):=ZnM Zsw
def sq1:Code→Code
  | .seq x _=>x
  | c=>c
def sq2:Code→Code
  | .seq _ y=>y
  | c=>c
def ZnG:Code:=Tryz.f25.body.getD .skip
def pA:Code:=sq1 ZnG
def pB:Code:=sq1 (sq2 ZnG)
def pR:Code:=sq2 (sq2 (sq2 ZnG))
def pD:Code:=sq1 (sq2 (sq2 ZnG))
theorem ZnF:Tryz.f25.body=some (.seq pA (.seq pB (.seq pD pR))):=by kernel_rfl
abbrev Zib:List VT:=[.agg [.I .u8,.S,.L,.L],.one (.I .i64),.one (.I .i64)]
def ZnH (p:Value→HP):Cfg:={ Yl Tryz.prog [(96,Zne Y7),(97,zk1 Zv),(98,zk3 Zf)] 32 [] [] [] Yp with pan:=p,rnd:=none }
theorem Zi6 (p:Value→HP):(ZnH p).OK:=(ZO (Yl Tryz.prog [(96,Zne Y7),(97,zk1 Zv),(98,zk3 Zf)] 32 [] [] [] Yp) (.cons ZtX (.cons zo1 (.cons zo3 .nil))) .nil .nil .nil (ZM _)).at none p
def Zni (K:Ym Zib→HP) (e:Env) (h:Zc):Prop:=Zlk (ZnH fun _ _=>False) e h Tryz.f25.results.toList fun vs=>match Ym.un Zib vs with
  | some r=>K r h
  | none=>False
def ZpQ (b2 b3 b4:Nat):Env:=⟨fun j=>bif Nat.beq j 2 then some (.adr b2 0) else bif Nat.beq j 3 then some (.adr b3 0) else bif Nat.beq j 4 then some (.adr b4 0) else none,.no⟩
def Zr4 (b2 b3 b4:Nat) (E:HP) (v:Value) (h:Zc):Prop:=∃ e n,v = .iface 160 (.agg #[.int .i64 e,.int .i64 n])∧Zrh b2 b3 b4 e n E h
def clo (b2 b3 b4:Nat):Deferred:={ target:= .fn (.func 95) #[.pointer (some ⟨b2,0,none⟩),.pointer (some ⟨b3,0,none⟩),.pointer (some ⟨b4,0,none⟩)],args:= #[]}
def ZsG (e:Env) (b2 b3 b4:Nat):Env:=⟨fun j=>bif Nat.beq j 10 then none else e.f j,.raw [clo b2 b3 b4]⟩
def prd (s:ByteArray) (K:Ym Zib→HP) (h:Zc):Prop :=
  wpC (ZnH fun _ _=>False) (.seq pA pB) .leaf (Zdx [.val (.string s)]) h fun x e h'=>match x with
    | .ret=>Zni K e h'
    | .normal=>match e.f 2,e.f 3,e.f 4 with
      | some (.adr b2 0),some (.adr b3 0),some (.adr b4 0)=>wpC (ZnH (Zr4 b2 b3 b4 (Zni K (ZpQ b2 b3 b4)))) pR .leaf (ZsG e b2 b3 b4) h' fun x e2 h2=>match x with
          | .normal=>Zni K e2 h2
          | .ret=>Zni K e2 h2
          | .exit _=>False
      | _,_,_=>False
    | .exit _=>False
theorem Zi1 {e:Env} {a:Act} {w:World} {K:Ym Zib→HP} (hag:∀ j v,e j=some v→a.tmps[j]?=some v.v) (h:Zni K e w.heap):∃ v,(results Tryz.f25 a.tmps).run Tryz.prog w = .ok v w∧∃ r,v=ZoA Zib r∧K r w.heap:=by
  have hag':Agr a.tmps.size ⟨e.f,.raw a.defers⟩ a:=⟨rfl,rfl,hag⟩
  have h':Zlk { ZnH (fun _ _=>False) with n:=a.tmps.size } ⟨e.f,.raw a.defers⟩ w.heap Tryz.f25.results.toList fun vs=>match Ym.un Zib vs with
    | some r=>K r w.heap
    | none=>False:=h
  obtain ⟨vs,hr,hk⟩:=ZdH (c:={ ZnH (fun _ _=>False) with n:=a.tmps.size }) (f:=fun
    | .tmp t=>pure (a.tmps.getD t undef)
    | .cell x t=>do loadVar t (← asAddr (a.tmps.getD x undef))) hag' (fun _=>rfl) (fun _ _=>rfl) h'
  split at hk
  ·rename_i r hun
   refine ⟨ZoA Zib r,?_,r,rfl,hk⟩
   unfold results
   rw [Array.mapM_eq_mapM_toList]
   simp only [Sem.run_bind,Sem.run_map]
   refine (congrArg (fun r=>(Result.andThen (Result.andThen r _) _)) hr).trans ?_
   simp only [Result.andThen_ok,Sem.run_pure]
   rw [ZlW hun]
   exact congrArg (fun v=>Result.ok v w) (Zh0 _)
  ·exact hk.elim
def Zq3:Code:=Tryz.f95.body.getD .skip
def cl1:Code:=sq1 Zq3
def cl2:Code:=sq2 Zq3
theorem Zkj:Tryz.f95.body=some (.seq cl1 cl2):=by kernel_rfl
def Zrj:Ann:= .block (.seq (.leaf) (.cond (.leaf) (.seq (.leaf) (.cond (.seq (.leaf) (.order (.take 0 (.take 1 (.take 3 (.take 2 (.take 4 (.take 5 (.take 6 (.take 7 .done)))))))))) (.leaf)))))
def ZpD:Cfg:={ Yl Tryz.prog [] 17 [] [] [] Yp with pan:=fun _ _=>False,rnd:=none }
theorem ZmV:ZpD.OK:=(ZO (Yl Tryz.prog [] 17 [] [] [] Yp) .nil .nil .nil .nil (ZM _)).at none _
def ptr (b:Nat):Value:= .pointer (some ⟨b,0,none⟩)
def ZpR (b2 b3 b4:Nat) (v:Value):Env:=⟨fun j=>bif Nat.beq j 0 then some (.val (.pointer (some ⟨b2,0,none⟩))) else bif Nat.beq j 1 then some (.val (.pointer (some ⟨b3,0,none⟩))) else bif Nat.beq j 2 then some (.val (.pointer (some ⟨b4,0,none⟩))) else bif Nat.beq j 6 then some (.val v) else none,.no⟩
theorem ZgS {b2 b3 b4:Nat} {x:Value} {j:Nat} {v:EV} (h:(ZpR b2 b3 b4 x).f j=some v):(j=0∧v = .val (ptr b2))∨(j=1∧v = .val (ptr b3))∨(j=2∧v = .val (ptr b4))∨(j=6∧v = .val x):=by
  unfold ZpR at h
  dsimp only at h
  cases h0:Nat.beq j 0 with
  | true=>rw [h0] at h;cases h;exact .inl ⟨Nat.eq_of_beq_eq_true h0,rfl⟩
  | false =>
    rw [h0] at h
    cases h1:Nat.beq j 1 with
    | true=>rw [h1] at h;cases h;exact .inr (.inl ⟨Nat.eq_of_beq_eq_true h1,rfl⟩)
    | false =>
      rw [h1] at h
      cases h2:Nat.beq j 2 with
      | true=>rw [h2] at h;cases h;exact .inr (.inr (.inl ⟨Nat.eq_of_beq_eq_true h2,rfl⟩))
      | false =>
        rw [h2] at h
        cases h6:Nat.beq j 6 with
        | true=>rw [h6] at h;cases h;exact .inr (.inr (.inr ⟨Nat.eq_of_beq_eq_true h6,rfl⟩))
        | false=>rw [h6] at h;cases h
def ZnK (E:HP):Ex→Env→Zc→Prop
  | .normal,_,h=>E h
  | _,_,_=>False
theorem rdC (b2 b3 b4:Nat) (e n:Int) (E:HP) (h:Zc):wpC ZpD cl2 Zrj (ZpR b2 b3 b4 (.iface 160 (.agg #[.int .i64 e,.int .i64 n]))) h (ZnK E)=Zrh b2 b3 b4 e n E h:=by kernel_rfl
theorem ZoQ:cl1 = .region 0 #[⟨some 6,.call ⟨.builtin .recover,#[],#[]⟩,20, "json.go:273", #[],none⟩] false:=by kernel_rfl
theorem Zmd {l:List Nat} (h:ZfU l mkN=false):mkN∉l:=by
  induction l with
  | nil=>intro h9;cases h9
  | cons x xs ih =>
    intro h9
    simp only [ZfU] at h
    cases hx:Nat.beq mkN x with
    | true=>rw [hx] at h;cases h
    | false =>
      rw [hx] at h
      rcases List.mem_cons.1 h9 with h9 | h9
      ·rw [← h9,Nat.beq_refl] at hx;cases hx
      ·exact ih h h9
set_option maxRecDepth 100000 in
theorem Zjp {b2 b3 b4:Nat} {e n:Int} {E:HP} {w:World} (hk:Zrh b2 b3 b4 e n E w.heap) :
    CallsD Tryz.prog 95 #[ptr b2,ptr b3,ptr b4] (.panicking [{ v:= .iface 160 (.agg #[.int .i64 e,.int .i64 n]),recovered:=false }]) w fun e' u' w' =>
      e' = .returned (.tuple #[])∧u' = .panicking [{ v:= .iface 160 (.agg #[.int .i64 e,.int .i64 n]),recovered:=true }]∧Fw.Same w w'∧E w'.heap:=by
  refine callsD_of_wpS Tryz.func95 Zkj fun c₀ cs hu=>?_
  apply wpS_seq
  rw [ZoQ]
  apply wpS_region
  simp [wpOpsS,go_sem,recoverD,hu,Tryz.ntmps95,Exit.thenS]
  refine wpS_of_wp ((wpIn_wide (n:=0)).1 (wpIn_mono (Yt cl2 ZpD ZmV Zt Zrj (ZpR b2 b3 b4 (.iface 160 (.agg #[.int .i64 e,.int .i64 n]))) _ w (ZnK E) ?_ (by rw [rdC];exact hk)) ?_))
  ·refine ⟨by simp [ZpD,Yl,ptr],rfl,fun j v hj=>?_⟩
   have hv:(j=0∧v = .val (ptr b2))∨(j=1∧v = .val (ptr b3))∨(j=2∧v = .val (ptr b4))∨(j=6∧v = .val (.iface 160 (.agg #[.int .i64 e,.int .i64 n]))):=ZgS hj
   rcases hv with ⟨rfl,rfl⟩ | ⟨rfl,rfl⟩ | ⟨rfl,rfl⟩ | ⟨rfl,rfl⟩<;>simp [EV.v,Array.getElem?_append]
  ·intro ex a' w' hp
   cases ex with
   | normal =>
     obtain ⟨e',h1,h2,h3,h4⟩:=hp
     have hd:=h3.2 (Zmd (by kernel_rfl))
     exact ⟨hd,_,rfl,.tuple #[],by simp [results,Tryz.results95],rfl,rfl,h2,h4⟩
   | ret=>obtain ⟨e',h1,h2,h3,h4⟩:=hp;exact h4.elim
   | exit id=>obtain ⟨e',h1,h2,h3,h4⟩:=hp;exact h4.elim
   | goto t=>exact hp.elim
   | outgrown=>exact hp.elim
   | panic ch=>obtain ⟨v,h1,h2,h3,h4⟩:=hp;exact h4.elim
theorem rdN (b2 b3 b4:Nat) (E:HP) (h:Zc):wpC ZpD cl2 Zrj (ZpR b2 b3 b4 .nilIface) h (ZnK E)=(Zep .nilIface fun b=>ZD b (E h) False):=by kernel_rfl
set_option maxRecDepth 100000 in
theorem Zk3 {b2 b3 b4:Nat} {w:World}:CallsD Tryz.prog 95 #[ptr b2,ptr b3,ptr b4] .returning w fun e' u' w'=>e' = .returned (.tuple #[])∧u' = .returning∧Fw.Same w w'∧w'.heap=w.heap:=by
  refine callsD_of_wpS Tryz.func95 Zkj fun c₀ cs hu=>?_
  apply wpS_seq
  rw [ZoQ]
  apply wpS_region
  simp [wpOpsS,go_sem,recoverD,hu,Tryz.ntmps95,Exit.thenS]
  refine wpS_of_wp ((wpIn_wide (n:=0)).1 (wpIn_mono (Yt cl2 ZpD ZmV Zt Zrj (ZpR b2 b3 b4 .nilIface) _ w (ZnK fun h=>h=w.heap) ?_ (by rw [rdN];exact .inl ⟨rfl,Zp rfl rfl⟩)) ?_))
  ·refine ⟨by simp [ZpD,Yl,ptr],rfl,fun j v hj=>?_⟩
   have hv:(j=0∧v = .val (ptr b2))∨(j=1∧v = .val (ptr b3))∨(j=2∧v = .val (ptr b4))∨(j=6∧v = .val .nilIface):=ZgS hj
   rcases hv with ⟨rfl,rfl⟩ | ⟨rfl,rfl⟩ | ⟨rfl,rfl⟩ | ⟨rfl,rfl⟩<;>simp [EV.v,Array.getElem?_append]
  ·intro ex a' w' hp
   cases ex with
   | normal =>
     obtain ⟨e',h1,h2,h3,h4⟩:=hp
     have hd:=h3.2 (Zmd (by kernel_rfl))
     refine ⟨hd,.returning,?_,.tuple #[],by simp [results,Tryz.results95],rfl,rfl,h2,h4⟩
     cases c₀
     simp_all
   | ret=>obtain ⟨e',h1,h2,h3,h4⟩:=hp;exact h4.elim
   | exit id=>obtain ⟨e',h1,h2,h3,h4⟩:=hp;exact h4.elim
   | goto t=>exact hp.elim
   | outgrown=>exact hp.elim
   | panic ch=>obtain ⟨v,h1,h2,h3,h4⟩:=hp;exact h4.elim
theorem Zr5:pD = .region 3 #[⟨some 10,.makeFunc (.func 95) #[] #[.tmp 2,.tmp 3,.tmp 4],1, "json.go:272", #[],none⟩,⟨none,.defer ⟨.value (.tmp 10),#[],#[]⟩,0, "json.go:272", #[⟨0,.data⟩],none⟩] false:=by kernel_rfl
theorem wpD {a:Act} {w:World} {Q:Exit→Act→World→Prop} {b2 b3 b4:Nat} (h2:a.tmps[2]?=some (ptr b2)) (h3:a.tmps[3]?=some (ptr b3)) (h4:a.tmps[4]?=some (ptr b4)) (hd:a.defers=[]) (hs:a.tmps.size=32)
    (h:pR.wp Tryz.prog Q { tmps:=a.tmps.setIfInBounds 10 (.func (.func 95) #[] #[ptr b2,ptr b3,ptr b4]),defers:=[clo b2 b3 b4]} w):(Code.seq pD pR).wp Tryz.prog Q a w:=by
  apply wp_seq
  rw [Zr5]
  apply wp_region
  have hmf:∀ (fn:Fn) (first cap:Array Value) (w:World),(Instr.makeFunc fn first cap).run Tryz.prog w = .ok (.func fn first cap) w:=fun _ _ _ _=>rfl
  have e2:a.eval (.tmp 2)=ptr b2:=by simp [Act.eval,h2]
  have e3:a.eval (.tmp 3)=ptr b3:=by simp [Act.eval,h3]
  have e4:a.eval (.tmp 4)=ptr b4:=by simp [Act.eval,h4]
  have e10:({ tmps:=a.tmps.setIfInBounds 10 (.func (.func 95) #[] #[ptr b2,ptr b3,ptr b4]),defers:=[]}:Act).eval (.tmp 10) = .func (.func 95) #[] #[ptr b2,ptr b3,ptr b4]:=by simp [Act.eval,hs]
  obtain ⟨tm,df⟩:=a
  dsimp only at hd hs h2 h3 h4
  subst hd
  show wpOps _ _ _ [0,1] _ _
  simp [wpOps,go_sem,hmf,e2,e3,e4,e10,Exit.then]
  refine .inl (.inl ?_)
  have g2:tm[2]'(by omega)=ptr b2:=(Array.getElem?_eq_some_iff.1 h2).2
  have g3:tm[3]'(by omega)=ptr b3:=(Array.getElem?_eq_some_iff.1 h3).2
  have g4:tm[4]'(by omega)=ptr b4:=(Array.getElem?_eq_some_iff.1 h4).2
  simp [g2,g3,g4,hs,Oper.upon]
  exact h
theorem nR:ZfU (Fw.dstsOf pR) mkN=false∧ZfU (Fw.dstsOf pR) 2=false∧ZfU (Fw.dstsOf pR) 3=false∧ZfU (Fw.dstsOf pR) 4=false∧ZfU (Fw.dstsOf pA) mkN=false∧ZfU (Fw.dstsOf pB) mkN=false:=⟨by kernel_rfl,by kernel_rfl,by kernel_rfl,by kernel_rfl,by kernel_rfl,by kernel_rfl⟩
theorem Zat {l:List Nat} {j:Nat} (h:ZfU l j=false):j∉l:=by
  induction l with
  | nil=>intro h9;cases h9
  | cons x xs ih =>
    intro h9
    simp only [ZfU] at h
    cases hx:Nat.beq j x with
    | true=>rw [hx] at h;cases h
    | false =>
      rw [hx] at h
      rcases List.mem_cons.1 h9 with h9 | h9
      ·rw [← h9,Nat.beq_refl] at hx;cases hx
      ·exact ih h h9
theorem Zlb {b2 b3 b4 j:Nat} {v:EV} (h:(ZpQ b2 b3 b4).f j=some v):(j=2∧v = .adr b2 0)∨(j=3∧v = .adr b3 0)∨(j=4∧v = .adr b4 0):=by
  unfold ZpQ at h
  dsimp only at h
  cases h0:Nat.beq j 2 with
  | true=>rw [h0] at h;cases h;exact .inl ⟨Nat.eq_of_beq_eq_true h0,rfl⟩
  | false =>
    rw [h0] at h
    cases h1:Nat.beq j 3 with
    | true=>rw [h1] at h;cases h;exact .inr (.inl ⟨Nat.eq_of_beq_eq_true h1,rfl⟩)
    | false =>
      rw [h1] at h
      cases h2:Nat.beq j 4 with
      | true=>rw [h2] at h;cases h;exact .inr (.inr ⟨Nat.eq_of_beq_eq_true h2,rfl⟩)
      | false=>rw [h2] at h;cases h
set_option maxRecDepth 100000 in
theorem Zm1 {a:Act} {w w3:World} {K:Ym Zib→HP} {b2 b3 b4:Nat} {e3:Env} (hag:∀ j v,e3 j=some v→a.tmps[j]?=some v.v) (hd:a.defers=[clo b2 b3 b4]) (hs:Fw.Same w w3) (hk:Zni K e3 w3.heap) :
    Leaves Tryz.prog Tryz.f25 a.tmps (Zaw Zib w K fun _ _=>False) a.defers .returning w3:=by
  rw [hd]
  unfold clo
  refine leaves_cons (f:=95) (args:= #[ptr b2,ptr b3,ptr b4]) (by simp) (by simp [go_sem,ptr]) (Zk3.mono ?_)
  rintro e u w4 ⟨rfl,rfl,h1,h2⟩
  have hk4:Zni K e3 w4.heap:=by rw [h2];exact hk
  obtain ⟨v,hv,r,rfl,hr⟩:=Zi1 hag hk4
  exact ⟨_,hv,.inl ⟨r,rfl,hs.trans h1,hr⟩⟩
set_option maxRecDepth 100000 in
theorem ZnJ {a:Act} {w w3:World} {K:Ym Zib→HP} {b2 b3 b4:Nat} {v:Value} (h2:a.tmps[2]?=some (ptr b2)) (h3:a.tmps[3]?=some (ptr b3)) (h4:a.tmps[4]?=some (ptr b4)) (hd:a.defers=[clo b2 b3 b4]) (hs:Fw.Same w w3)
    (hk:Zr4 b2 b3 b4 (Zni K (ZpQ b2 b3 b4)) v w3.heap):Leaves Tryz.prog Tryz.f25 a.tmps (Zaw Zib w K fun _ _=>False) a.defers (.panicking [{ v,recovered:=false }]) w3:=by
  obtain ⟨e,n,rfl,hc⟩:=hk
  rw [hd]
  unfold clo
  refine leaves_cons (f:=95) (args:= #[ptr b2,ptr b3,ptr b4]) (by simp) (by simp [go_sem,ptr]) ((Zjp hc).mono ?_)
  rintro e' u w4 ⟨rfl,rfl,g1,g2⟩
  have hag:∀ j v,(ZpQ b2 b3 b4) j=some v→a.tmps[j]?=some v.v:=fun j v hj=>by
    have hv:(j=2∧v = .adr b2 0)∨(j=3∧v = .adr b3 0)∨(j=4∧v = .adr b4 0):=Zlb hj
    rcases hv with ⟨rfl,rfl⟩ | ⟨rfl,rfl⟩ | ⟨rfl,rfl⟩
    ·exact h2
    ·exact h3
    ·exact h4
  obtain ⟨v,hv,r,rfl,hr⟩:=Zi1 hag g2
  exact ⟨_,hv,.inl ⟨r,rfl,hs.trans g1,hr⟩⟩
theorem Zso {s:ByteArray}:Agr 32 (Zdx [.val (.string s)]) { tmps:= #[.string s]++Array.replicate 31 undef,defers:=[]}:=by
  refine ⟨by simp,rfl,fun j v hj=>?_⟩
  obtain ⟨k,hk,hv⟩:=Zel [.val (.string s)] 0 j v hj
  cases k with
  | zero=>simp at hk hv;subst hk hv;simp [EV.v]
  | succ k=>simp at hv
theorem Zoe {e:Env} {a:Act} {b2 b3 b4:Nat} {x:Value} (h:Agr 32 e a):Agr 32 (ZsG e b2 b3 b4) { tmps:=a.tmps.setIfInBounds 10 x,defers:=[clo b2 b3 b4]}:=by
  refine ⟨by simp [h.size],rfl,fun j v hj=>?_⟩
  have hj':(bif Nat.beq j 10 then none else e.f j)=some v:=hj
  cases h10:Nat.beq j 10 with
  | true=>rw [h10] at hj';cases hj'
  | false =>
    rw [h10] at hj'
    have hne:10≠j:=fun h9=>by rw [← h9] at h10;cases h10
    show (a.tmps.setIfInBounds 10 x)[j]?=_
    rw [Array.getElem?_setIfInBounds_ne hne]
    exact h.val j v hj'
set_option maxRecDepth 100000 in
theorem Zi7 {s:ByteArray} {K:Ym Zib→HP} {w:World} (hk:prd s K w.heap):Calls Tryz.prog 25 #[.string s] w (Zaw Zib w K fun _ _=>False):=by
  refine calls_of_wp_defers Tryz.func25 ZnF ?_
  show (Code.seq pA (.seq pB (.seq pD pR))).wp Tryz.prog _ { tmps:= #[.string s]++Array.replicate 31 undef,defers:=[]} w
  obtain ⟨q1,q2,q3,q4,q5,q6⟩:=nR
  have stop:∀ {a:Act} {w1:World} {e:Env},Agr 32 e a→Fw.Same w w1→a.defers=[]→Zni K e w1.heap→Leaves Tryz.prog Tryz.f25 a.tmps (Zaw Zib w K fun _ _=>False) a.defers .returning w1:=fun {a w1 e} g1 g2 g3 g4=>by
    rw [g3]
    obtain ⟨v,hv,r,rfl,hr⟩:=Zi1 g1.val g4
    exact ⟨_,hv,.inl ⟨r,rfl,g2,hr⟩⟩
  unfold prd at hk
  have hA:=Yt pA (ZnH fun _ _=>False) (Zi6 _) Zt .leaf _ _ w _ Zso hk
  refine wp_seq ((wpIn_wide (n:=0)).1 (wpIn_mono hA ?_))
  intro ex a1 w1 hp
  cases ex with
  | goto t=>exact hp.elim
  | outgrown=>exact hp.elim
  | panic ch=>obtain ⟨v,h1,h2,h3,h4⟩:=hp;exact h4.elim
  | exit id=>obtain ⟨e1,g1,g2,g3,g4⟩:=hp;exact g4.elim
  | ret =>
    obtain ⟨e1,g1,g2,g3,g4⟩:=hp
    exact stop g1 g2 (g3.2 (Zat q5)) g4
  | normal =>
    obtain ⟨e1,g1,g2,g3,g4⟩:=hp
    have d1:a1.defers=[]:=g3.2 (Zat q5)
    have hB:=Yt pB (ZnH fun _ _=>False) (Zi6 _) Zt .leaf _ _ w1 _ g1 g4
    refine wp_seq ((wpIn_wide (n:=0)).1 (wpIn_mono hB ?_))
    intro ex a2 w2 hp
    cases ex with
    | goto t=>exact hp.elim
    | outgrown=>exact hp.elim
    | panic ch=>obtain ⟨v,h1,h2,h3,h4⟩:=hp;exact h4.elim
    | exit id=>obtain ⟨e2,j1,j2,j3,j4⟩:=hp;exact j4.elim
    | ret =>
      obtain ⟨e2,j1,j2,j3,j4⟩:=hp
      exact stop j1 (g2.trans j2) ((j3.2 (Zat q6)).trans d1) j4
    | normal =>
      obtain ⟨e2,j1,j2,j3,j4⟩:=hp
      have d2:a2.defers=[]:=(j3.2 (Zat q6)).trans d1
      dsimp only at j4
      split at j4
      case h_2=>exact j4.elim
      rename_i b2 b3 b4 h2 h3 h4
      have t2:=j1.val 2 _ h2
      have t3:=j1.val 3 _ h3
      have t4:=j1.val 4 _ h4
      refine wpD t2 t3 t4 d2 j1.size ?_
      have hR:=Yt pR (ZnH (Zr4 b2 b3 b4 (Zni K (ZpQ b2 b3 b4)))) (Zi6 _) Zt .leaf _ _ w2 _ (Zoe (x:= .func (.func 95) #[] #[ptr b2,ptr b3,ptr b4]) j1) j4
      refine (wpIn_wide (n:=0)).1 (wpIn_mono hR ?_)
      intro ex a3 w3 hp
      cases ex with
      | goto t=>exact hp.elim
      | outgrown=>exact hp.elim
      | exit id=>obtain ⟨e3,k1,k2,k3,k4⟩:=hp;exact k4.elim
      | normal =>
        obtain ⟨e3,k1,k2,k3,k4⟩:=hp
        exact Zm1 k1.val (k3.2 (Zat q1)) ((g2.trans j2).trans k2) k4
      | ret =>
        obtain ⟨e3,k1,k2,k3,k4⟩:=hp
        exact Zm1 k1.val (k3.2 (Zat q1)) ((g2.trans j2).trans k2) k4
      | panic ch =>
        obtain ⟨v,rfl,k2,k3,k4⟩:=hp
        have e2:=(k3.1 2 (Zat q2)).trans (show (a2.tmps.setIfInBounds 10 _)[2]?=some (ptr b2) by rw [Array.getElem?_setIfInBounds_ne (by decide)];exact t2)
        have e3:=(k3.1 3 (Zat q3)).trans (show (a2.tmps.setIfInBounds 10 _)[3]?=some (ptr b3) by rw [Array.getElem?_setIfInBounds_ne (by decide)];exact t3)
        have e4:=(k3.1 4 (Zat q4)).trans (show (a2.tmps.setIfInBounds 10 _)[4]?=some (ptr b4) by rw [Array.getElem?_setIfInBounds_ne (by decide)];exact t4)
        exact ZnJ e2 e3 e4 (k3.2 (Zat q1)) ((g2.trans j2).trans k2) k4
theorem rdP (s:ByteArray) (K:(Int × ByteArray × Sl × Sl × Unit)→Int→Int→HP) (h:Zc):prd s (fun r h=>K r.1 r.2.1 r.2.2.1 h) h=Yh s K h:=by kernel_rfl
def Zh7:Zh:=⟨[.one (.S)],Zib,fun t K _ h=>Yh t.1 (fun r0 r1 r2 h=>K (r0,r1,r2,()) h) h⟩
set_option maxRecDepth 100000 in
theorem ZkS {s:ByteArray} {K:(Int × ByteArray × Sl × Sl × Unit)→Int→Int→HP} {w:World} (hk:Yh s K w.heap):Calls Tryz.prog 25 #[.string s] w fun e w'=>∃ r:Ym Zib,e = .returned (ZoA Zib r)∧Fw.Same w w'∧K r.1 r.2.1 r.2.2.1 w'.heap:=by
  have hk':prd s (fun r h=>K r.1 r.2.1 r.2.2.1 h) w.heap:=(rdP s K w.heap).mpr hk
  refine (Zi7 hk').mono ?_
  rintro e w' (⟨r,he,hs,hr⟩ | ⟨v,he,hs,hr⟩)
  ·exact ⟨r,he,hs,hr⟩
  ·exact hr.elim
theorem ZbP:Zu Tryz.prog 25 Zh7 where
  named:=⟨_,Tryz.func25,by kernel_rfl,by kernel_rfl⟩
  calls t K Kp w hk:=(ZkS (K:=fun r0 r1 r2 h=>K (r0,r1,r2,()) h) hk).mono fun e w' h9=>let ⟨r,he,hs,hr⟩:=h9;.inl ⟨r,he,hs,hr⟩
abbrev ZrI (f:Zqg):Zh:=⟨[.one (.S)],[.one (.B)],fun t K _ h=>f t.1 (fun r0 h=>K (r0,()) h) h⟩
abbrev Zuu (f26:Znf):Cfg:=Yl Tryz.prog [(25,⟨[.one (.S)],[.agg [.I .u8,.S,.L,.L],.one (.I .i64),.one (.I .i64)],fun t K _ h=>f26 t.1 (fun r0 r1 r2 h=>K (r0,r1,r2,()) h) h⟩)] 25 [] [] [] Yp
theorem Ztc (f26:Znf):Yy (Zuu f26) Tryz.f162 (.leaf) (ZrI (Za6 f26)):=fun _ _ _ _=>by kernel_rfl
theorem ZtT:Zu Tryz.prog 162 (ZrI Xl):=okF (Ztc Yh) Tryz.func162 Zt (ZO _ (.cons ZbP .nil) .nil .nil .nil (ZM _))
abbrev ZrH (f:Zqf):Zh:=⟨[.one (.S)],[.one (.B)],fun t K _ h=>f t.1 (fun r0 h=>K (r0,()) h) h⟩
abbrev Zut (f15:Zlj):Cfg:=Yl Tryz.prog [(163,⟨[.one (.S)],[.one (.B)],fun t K _ h=>f15 t.1 (fun r0 h=>K (r0,()) h) h⟩)] 6 [] [] [] Yp
theorem Ztb (f15:Zlj):Yy (Zut f15) Tryz.f165 (.leaf) (ZrH (Zbq f15)):=fun _ _ _ _=>by kernel_rfl
theorem ZtS:Zu Tryz.prog 165 (ZrH Zau):=okF (Ztb Zw) Tryz.func165 Zt (ZO _ (.cons Z8 .nil) .nil .nil .nil (ZM _))
abbrev ZrG (f:Zqe):Zh:=⟨[.one (.L),.fn 165],[.one (.I .i64)],fun t K _ h=>f t.1 (fun r0 h=>K (r0,()) h) h⟩
abbrev Zus (f48:Zqf):Cfg:=Yl Tryz.prog [(165,ZrH f48)] 19 [] [] [] Yp
theorem Zta (f48:Zqf):Yy (Zus f48) Tryz.f238 (.seq (.leaf) (.seq (.seq (.leaf) (.block (.loop [8] [.one (.I .i64)] [(4,5),(9,18)] (.leaf)))) (.leaf))) (ZrG (ZF f48)):=fun _ _ _ _=>by kernel_rfl
theorem ZtR:Zu Tryz.prog 238 (ZrG ZB):=okF (Zta Zau) Tryz.func238 Zt (ZO _ (.cons ZtS .nil) .nil .nil .nil (ZM _))
abbrev ZrF (f:Zqd):Zh:=⟨[.one (.L),.fn 165],[.one (.B)],fun t K _ h=>f t.1 (fun r0 h=>K (r0,()) h) h⟩
abbrev Zur (f49:Zqe):Cfg:=Yl Tryz.prog [(238,ZrG f49)] 9 [] [] [] Yp
theorem Zs9 (f49:Zqe):Yy (Zur f49) Tryz.f164 (.leaf) (ZrF (ZE f49)):=fun _ _ _ _=>by kernel_rfl
theorem ZtQ:Zu Tryz.prog 164 (ZrF Zr):=okF (Zs9 ZB) Tryz.func164 Zt (ZO _ (.cons ZtR .nil) .nil .nil .nil (ZM _))
abbrev ZrE (f:Zqc):Zh:=⟨[.agg [.I .u8,.S,.L,.L]],[.one (.B)],fun t K _ h=>f t.1 (fun r0 h=>K (r0,()) h) h⟩
abbrev Zuq (f47:Zqg) (f15:Zlj) (f50:Zqd):Cfg:=Yl Tryz.prog [(162,ZrI f47),(163,⟨[.one (.S)],[.one (.B)],fun t K _ h=>f15 t.1 (fun r0 h=>K (r0,()) h) h⟩),(164,ZrF f50)] 86 [] [] [] Yp
theorem Zs8 (f47:Zqg) (f15:Zlj) (f50:Zqd):Yy (Zuq f47 f15 f50) Tryz.f94 (.seq (.leaf) (.seq (.leaf) (.seq (.seq (.leaf) (.block (.cut [19] [.one (.B)] [(20,22)] (.leaf) (.leaf)))) (.leaf)))) (ZrE (ZcE f47 f15 f50)):=fun _ _ _ _=>by kernel_rfl
theorem ZtP:Zu Tryz.prog 94 (ZrE Zay):=okF (Zs8 Xl Zw Zr) Tryz.func94 Zt (ZO _ (.cons ZtT (.cons Z8 (.cons ZtQ .nil))) .nil .nil .nil (ZM _))
abbrev ZrD (f:Zqb):Zh:=⟨[.agg [.I .u8,.S,.L,.L]],[.one (.B)],fun t K _ h=>f t.1 (fun r0 h=>K (r0,()) h) h⟩
abbrev Zup:Cfg:=Yl Tryz.prog [] 3 [] [] [] Yp
theorem Zs7:Yy (Zup) Tryz.f119 (.leaf) (ZrD Zbr):=fun _ _ _ _=>by kernel_rfl
theorem ZtO:Zu Tryz.prog 119 (ZrD Zav):=okF (Zs7) Tryz.func119 Zt (ZO _ .nil .nil .nil .nil (ZM _))
abbrev Zlm (f:ZeQ):Zh:=⟨[.one (.P),.agg [.I .u8,.S,.L,.L],.one (.I .i64),.one (.V)],[.one (.B)],fun t K _ h=>f t.1 t.2.1 t.2.2.1 t.2.2.2.1 (fun r0 h=>K (r0,()) h) h⟩
abbrev ZrC (f:Zqa):Zh:=⟨[.agg [.I .u8,.S,.L,.L],.one (.P),.one (.P),.one (.P)],[.one (.B)],fun t K _ h=>f t.1 t.2.1 t.2.2.1 t.2.2.2.1 (fun r0 h=>K (r0,()) h) h⟩
abbrev Zun (f53:ZeQ):Cfg:=Yl Tryz.prog [(93,Zlm f53)] 13 [] [] [] Yp
theorem Zs5 (f53:ZeQ):Yy (Zun f53) Tryz.f161 (.leaf) (ZrC (XT f53)):=fun _ _ _ _=>by kernel_rfl
theorem Ztv (f53:ZeQ) (hH:Zu Tryz.prog 93 (Zlm f53)):Zu Tryz.prog 161 (ZrC (Y5 f53)):=okF (Zs5 f53) Tryz.func161 Zt (ZO _ (.cons hH .nil) .nil .nil .nil (ZM _)) (hlen:=Nat.le_of_ble_eq_true rfl)
abbrev ZrB (f:Zp9):Zh:=⟨[.one (.L),.clo 161 [.P,.P,.P]],[.one (.I .i64)],fun t K _ h=>f t.1 t.2.1 (fun r0 h=>K (r0,()) h) h⟩
abbrev Zum (f54:Zqa):Cfg:=Yl Tryz.prog [(161,ZrC f54)] 19 [] [] [] Yp
theorem Zs4 (f54:Zqa):Yy (Zum f54) Tryz.f236 (.seq (.leaf) (.seq (.seq (.leaf) (.block (.loop [8] [.one (.I .i64)] [(4,5),(9,18)] (.leaf)))) (.leaf))) (ZrB (ZC f54)):=fun _ _ _ _=>by kernel_rfl
theorem Ztu (f53:ZeQ) (hH:Zu Tryz.prog 93 (Zlm f53)):Zu Tryz.prog 236 (ZrB (Zs f53)):=okF (Zs4 (Y5 f53)) Tryz.func236 Zt (ZO _ (.cons (Ztv f53 hH) .nil) .nil .nil .nil (ZM _)) (hlen:=Nat.le_of_ble_eq_true rfl)
abbrev ZrA (f:Zp8):Zh:=⟨[.one (.L),.clo 161 [.P,.P,.P]],[.one (.B)],fun t K _ h=>f t.1 t.2.1 (fun r0 h=>K (r0,()) h) h⟩
abbrev Zul (f55:Zp9):Cfg:=Yl Tryz.prog [(236,ZrB f55)] 9 [] [] [] Yp
theorem Zs3 (f55:Zp9):Yy (Zul f55) Tryz.f160 (.leaf) (ZrA (Zy f55)):=fun _ _ _ _=>by kernel_rfl
theorem Ztt (f53:ZeQ) (hH:Zu Tryz.prog 93 (Zlm f53)):Zu Tryz.prog 160 (ZrA (Zj f53)):=okF (Zs3 (Zs f53)) Tryz.func160 Zt (ZO _ (.cons (Ztu f53 hH) .nil) .nil .nil .nil (ZM _)) (hlen:=Nat.le_of_ble_eq_true rfl)
abbrev Zuo (f51:Zqc) (f52:Zqb) (f56:Zp8):Cfg:=Yl Tryz.prog [(94,ZrE f51),(119,ZrD f52),(160,ZrA f56)] 52 [] [] [] Yp [(94,[]),(119,[])]
theorem Zs6 (f51:Zqc) (f52:Zqb) (f56:Zp8):Yy (Zuo f51 f52 f56) Tryz.f93 (.seq (.leaf) (.seq (.leaf) (.seq (.leaf) (.cut [] [] [(8,8),(27,34)] (.leaf) (.seq (.order (.take 0 (.take 1 (.take 2 (.take 3 (.take 4 (.take 5 (.take 6 (.take 7 (.take 8 (.take 9 (.take 10 .done)))))))))))) (.leaf)))))) (Zlm (Zao f51 f52 f56)):=fun _ _ _ _=>by kernel_rfl
theorem Ztw (f53:ZeQ) (hH:Zu Tryz.prog 93 (Zlm f53)):Zu Tryz.prog 93 (Zlm (Xt f53)):=okF (Zs6 Zay Zav (Zj f53)) Tryz.func93 Zt (ZO _ (.cons ZtP (.cons ZtO (.cons (Ztt f53 hH) .nil))) .nil .nil .nil (ZM _)) (hlen:=Nat.le_of_ble_eq_true rfl)
theorem Zsv:∀ n,Zu Tryz.prog 93 (Zlm (Yj n))
 | 0=>Zht Tryz.func93 (by kernel_rfl) (by kernel_rfl) fun _ _ _ _ h=>h
 | n+1=>Ztw _ (Zsv n)
theorem Zsz:Zu Tryz.prog 93 (Zlm YZ):=ZnM Zsv
abbrev Zrc (f:Zoq):Zh:=⟨[.agg [.I .u8,.S,.L,.L]],[.one (.B)],fun t K _ h=>f t.1 (fun r0 h=>K (r0,()) h) h⟩
abbrev Zuk (f53:ZeQ):Cfg:=Yl Tryz.prog [(93,Zlm f53)] 16 [] [] [] Yp
theorem Zs2 (f53:ZeQ):Yy (Zuk f53) Tryz.f22 (.leaf) (Zrc (ZcH f53)):=fun _ _ _ _=>by kernel_rfl
theorem Zsy:Zu Tryz.prog 22 (Zrc Xn):=okF (Zs2 YZ) Tryz.func22 Zt (ZO _ (.cons Zsz .nil) .nil .nil .nil (ZM _))
abbrev Zrb (f:Zop):Zh:=⟨[.one (.P)],[.one (.I .i64)],fun t K _ h=>f t.1 (fun r0 h=>K (r0,()) h) h⟩
abbrev Zuj:Cfg:=Yl Tryz.prog [] 8 [] [] [] Yp
theorem Zs1:Yy (Zuj) Tryz.f114 (.leaf) (Zrb Xo):=fun _ _ _ _=>by kernel_rfl
theorem Zsx:Zu Tryz.prog 114 (Zrb ZZ):=okF (Zs1) Tryz.func114 Zt (ZO _ .nil .nil .nil .nil (ZM _))
abbrev Zrz (f:Zp7):Zh:=⟨[.one (.P),.one (.S)],[],fun t K _ h=>f t.1 t.2.1 (fun h=>K (()) h) h⟩
abbrev Zui (f6:zT6) (f0:zT0) (f17:Zln):Cfg:=Yl Tryz.prog [(184,zk6 f6),(171,⟨[.one (.S),.one (.I .u8)],[.one (.I .i64)],fun t K _ h=>f0 t.1 t.2.1 (fun r0 h=>K (r0,()) h) h⟩),(183,ZpV f17)] 81 [] [] [] Yp
theorem Zs0 (f6:zT6) (f0:zT0) (f17:Zln):Yy (Zui f6 f0 f17) Tryz.f201 (.seq (.leaf) (.seq (.seq (.leaf) (.block (.loop [13] [.one (.I .i64)] [(4,6),(14,76)] (.seq (.leaf) (.seq (.leaf) (.seq (.block (.seq (.leaf) (.seq (.leaf) (.seq (.leaf) (.block (.cut [26] [.one (.B)] [(27,32)] (.leaf) (.cond (.leaf) (.seq (.leaf) (.cond (.seq (.leaf) (.order (.take 0 (.take 1 (.take 2 (.take 3 (.take 4 (.take 5 .done)))))))) (.seq (.leaf) (.cond (.seq (.leaf) (.seq (.order (.take 0 (.take 1 (.take 2 (.take 3 (.take 4 (.take 5 (.take 6 .done)))))))) (.order (.take 0 (.take 1 (.take 2 (.take 3 (.take 4 (.take 5 (.take 6 .done)))))))))) (.leaf)))))))))))) (.leaf))))))) (.leaf))) (Zrz (X8 f6 f0 f17)):=fun _ _ _ _=>by kernel_rfl
theorem ZtN:Zu Tryz.prog 201 (Zrz YK):=okF (Zs0 Zl ZX Zk) Tryz.func201 Zt (ZO _ (.cons zo6 (.cons Xw (.cons Zrn .nil))) .nil .nil .nil (ZM _))
abbrev ZoW (f:Zjz):Zh:=⟨[.one (.P),.agg [.I .u8,.S,.L,.L]],[],fun t K _ h=>f t.1 t.2.1 (fun h=>K (()) h) h⟩
abbrev Zuh (f58:Zop) (f17:Zln) (f59:Zp7) (f6:zT6) (f60:Zjz):Cfg:=Yl Tryz.prog [(114,Zrb f58),(183,ZpV f17),(201,Zrz f59),(184,zk6 f6),(113,ZoW f60)] 93 [] [] [] Yp
theorem ZsZ (f58:Zop) (f17:Zln) (f59:Zp7) (f6:zT6) (f60:Zjz):Yy (Zuh f58 f17 f59 f6 f60) Tryz.f113 (.seq (.leaf) (.seq (.leaf) (.seq (.leaf) (.block (.seq (.leaf) (.cond (.leaf) (.seq (.leaf) (.cond (.leaf) (.seq (.leaf) (.cond (.leaf) (.seq (.leaf) (.cond (.order (.take 0 (.take 1 (.take 2 (.take 3 (.take 4 (.take 5 .done))))))) (.seq (.leaf) (.cond (.leaf) (.seq (.leaf) (.cut [4] [.one (.S)] [(14,16)] (.leaf) (.seq (.order (.take 0 (.take 1 (.take 2 (.take 3 (.take 4 (.take 5 .done))))))) (.seq (.seq (.leaf) (.block (.loop [26] [.one (.I .i64)] [(5,6),(27,54)] (.seq (.leaf) (.seq (.leaf) (.seq (.block (.seq (.leaf) (.cut [] [] [(31,36)] (.leaf) (.cut [] [] [(37,50)] (.leaf) (.leaf))))) (.leaf))))))) (.order (.take 0 (.take 1 (.take 2 (.take 3 (.take 4 (.take 5 .done))))))))))))))))))))))))) (ZoW (XQ f58 f17 f59 f6 f60)):=fun _ _ _ _=>by kernel_rfl
theorem Zts (f60:Zjz) (hH:Zu Tryz.prog 113 (ZoW f60)):Zu Tryz.prog 113 (ZoW (Y3 f60)):=okF (ZsZ ZZ Zk YK Zl f60) Tryz.func113 Zt (ZO _ (.cons Zsx (.cons Zrn (.cons ZtN (.cons zo6 (.cons hH .nil))))) .nil .nil .nil (ZM _)) (hlen:=Nat.le_of_ble_eq_true rfl)
theorem Zsu:∀ n,Zu Tryz.prog 113 (ZoW (Z6 n))
 | 0=>Zht Tryz.func113 (by kernel_rfl) (by kernel_rfl) fun _ _ _ _ h=>h
 | n+1=>Zts _ (Zsu n)
theorem ZtM:Zu Tryz.prog 113 (ZoW XN):=ZnM Zsu
abbrev Zry (f:Zp6):Zh:=⟨[.agg [.I .u8,.S,.L,.L]],[.one (.S),.one (.I .i64)],fun t K _ h=>f t.1 (fun r0 r1 h=>K (r0,r1,()) h) h⟩
abbrev Zug (f57:Zoq) (f60:Zjz) (f58:Zop) (f4:zT4):Cfg:=Yl Tryz.prog [(22,Zrc f57),(113,ZoW f60),(114,Zrb f58),(115,⟨[.one (.P)],[.one (.S)],fun t K _ h=>f4 t.1 (fun r0 h=>K (r0,()) h) h⟩)] 15 [] [] [] Yp
theorem ZsY (f57:Zoq) (f60:Zjz) (f58:Zop) (f4:zT4):Yy (Zug f57 f60 f58 f4) Tryz.f36 (.leaf) (Zry (ZcI f57 f60 f58 f4)):=fun _ _ _ _=>by kernel_rfl
theorem ZtL:Zu Tryz.prog 36 (Zry ZaB):=okF (ZsY Xn XN ZZ ZR) Tryz.func36 Zt (ZO _ (.cons Zsy (.cons ZtM (.cons Zsx (.cons XH .nil)))) .nil .nil .nil (ZM _))
abbrev Zrx (f:Zp5):Zh:=⟨[.one (.I .i64)],[.agg [.I .u8,.S,.L,.L]],fun t K _ h=>f t.1 (fun r0 h=>K (r0,()) h) h⟩
abbrev Zuf (f62:ZrZ):Cfg:=Yl Tryz.prog [(31,⟨[.one (.I .i64)],[.one (.S)],fun t K _ h=>f62 t.1 (fun r0 h=>K (r0,()) h) h⟩)] 6 [] [] [] Yp
theorem ZsX (f62:ZrZ):Yy (Zuf f62) Tryz.f30 (.leaf) (Zrx (ZcJ f62)):=fun _ _ _ _=>by kernel_rfl
theorem ZtK:Zu Tryz.prog 30 (Zrx ZaC):=okF (ZsX Zbp) Tryz.func30 Zt (ZO _ (.cons Zfk .nil) .nil .nil .nil (ZM _))
abbrev Zrw (f:Zp4):Zh:=⟨[.one (.S),.one (.S)],[.one (.S),.one (.B)],fun t K _ h=>f t.1 t.2.1 (fun r0 r1 h=>K (r0,r1,()) h) h⟩
abbrev Zue (f8:zT8):Cfg:=Yl Tryz.prog [(249,zk8 f8)] 15 [] [] [] Yp
theorem ZsW (f8:zT8):Yy (Zue f8) Tryz.f180 (.leaf) (Zrw (Yi f8)):=fun _ _ _ _=>by kernel_rfl
theorem ZtJ:Zu Tryz.prog 180 (Zrw ZT):=okF (ZsW Zm) Tryz.func180 Zt (ZO _ (.cons zo8 .nil) .nil .nil .nil (ZM _))
abbrev Zrv (f:Zp3):Zh:=⟨[.one (.S),.one (.S)],[.one (.S),.one (.B)],fun t K _ h=>f t.1 t.2.1 (fun r0 r1 h=>K (r0,r1,()) h) h⟩
abbrev Zud (f64:Zp4):Cfg:=Yl Tryz.prog [(180,Zrw f64)] 11 [] [] [] Yp
theorem ZsV (f64:Zp4):Yy (Zud f64) Tryz.f101 (.leaf) (Zrv (XP f64)):=fun _ _ _ _=>by kernel_rfl
theorem ZtI:Zu Tryz.prog 101 (Zrv YA):=okF (ZsV ZT) Tryz.func101 Zt (ZO _ (.cons ZtJ .nil) .nil .nil .nil (ZM _))
abbrev Zru (f:Zp2):Zh:=⟨[.one (.S),.one (.S)],[.one (.S)],fun t K _ h=>f t.1 t.2.1 (fun r0 h=>K (r0,()) h) h⟩
abbrev Zuc (f8:zT8):Cfg:=Yl Tryz.prog [(249,zk8 f8)] 13 [] [] [] Yp
theorem ZsU (f8:zT8):Yy (Zuc f8) Tryz.f261 (.leaf) (Zru (Yd f8)):=fun _ _ _ _=>by kernel_rfl
theorem ZtH:Zu Tryz.prog 261 (Zru ZQ):=okF (ZsU Zm) Tryz.func261 Zt (ZO _ (.cons zo8 .nil) .nil .nil .nil (ZM _))
abbrev Zrt (f:Zp1):Zh:=⟨[.one (.S),.one (.S)],[.one (.S)],fun t K _ h=>f t.1 t.2.1 (fun r0 h=>K (r0,()) h) h⟩
abbrev Zub (f70:Zp2):Cfg:=Yl Tryz.prog [(261,Zru f70)] 8 [] [] [] Yp
theorem ZsT (f70:Zp2):Yy (Zub f70) Tryz.f194 (.leaf) (Zrt (Xy f70)):=fun _ _ _ _=>by kernel_rfl
theorem ZtG:Zu Tryz.prog 194 (Zrt Yu):=okF (ZsT ZQ) Tryz.func194 Zt (ZO _ (.cons ZtH .nil) .nil .nil .nil (ZM _))
abbrev Zrs (f:Zp0):Zh:=⟨[.one (.S)],[.one (.I .i64),.one (.B)],fun t K _ h=>f t.1 (fun r0 r1 h=>K (r0,r1,()) h) h⟩
abbrev Zua (f71:Zp1) (f72:ZpM):Cfg:=Yl Tryz.prog [(194,Zrt f71),(108,⟨[.one (.S)],[.one (.I .i64),.one (.V)],fun t K _ h=>f72 t.1 (fun r0 r1 h=>K (r0,r1,()) h) h⟩)] 25 [] [] [] Yp
theorem ZsS (f71:Zp1) (f72:ZpM):Yy (Zua f71 f72) Tryz.f106 (.leaf) (Zrs (Za7 f71 f72)):=fun _ _ _ _=>by kernel_rfl
theorem ZtF:Zu Tryz.prog 106 (Zrs Xm):=okF (ZsS Yu YQ) Tryz.func106 Zt (ZO _ (.cons ZtG (.cons Zcx .nil)) .nil .nil .nil (ZM _))
abbrev Zrr (f:ZpZ):Zh:=⟨[.agg [.I .u8,.S,.L,.L]],[.one (.I .i64),.one (.B)],fun t K _ h=>f t.1 (fun r0 r1 h=>K (r0,r1,()) h) h⟩
abbrev Zt9 (f57:Zoq) (f65:Zp3) (f66:ZrY) (f67:ZrX) (f68:ZrW) (f69:ZrV) (f73:Zp0) (f74:ZrU) (f72:ZpM):Cfg:=Yl Tryz.prog [(22,Zrc f57),(101,Zrv f65),(103,⟨[.one (.S)],[.one (.S)],fun t K _ h=>f66 t.1 (fun r0 h=>K (r0,()) h) h⟩),(102,⟨[.one (.S),.one (.S)],[.one (.S),.one (.S),.one (.B)],fun t K _ h=>f67 t.1 t.2.1 (fun r0 r1 r2 h=>K (r0,r1,r2,()) h) h⟩),(104,⟨[.one (.S),.one (.S)],[.one (.S)],fun t K _ h=>f68 t.1 t.2.1 (fun r0 h=>K (r0,()) h) h⟩),(105,⟨[.one (.S),.one (.S)],[.one (.S)],fun t K _ h=>f69 t.1 t.2.1 (fun r0 h=>K (r0,()) h) h⟩),(106,Zrs f73),(107,⟨[.one (.S),.one (.I .i64)],[.one (.S)],fun t K _ h=>f74 t.1 t.2.1 (fun r0 h=>K (r0,()) h) h⟩),(108,⟨[.one (.S)],[.one (.I .i64),.one (.V)],fun t K _ h=>f72 t.1 (fun r0 r1 h=>K (r0,r1,()) h) h⟩)] 92 [] [] [] Yp
theorem ZsR (f57:Zoq) (f65:Zp3) (f66:ZrY) (f67:ZrX) (f68:ZrW) (f69:ZrV) (f73:Zp0) (f74:ZrU) (f72:ZpM):Yy (Zt9 f57 f65 f66 f67 f68 f69 f73 f74 f72) Tryz.f28 (.seq (.leaf) (.seq (.leaf) (.seq (.leaf) (.seq (.leaf) (.seq (.leaf) (.seq (.leaf) (.seq (.leaf) (.seq (.leaf) (.seq (.leaf) (.seq (.leaf) (.seq (.leaf) (.seq (.leaf) (.seq (.leaf) (.cut [11] [.one (.S)] [(81,83)] (.leaf) (.leaf))))))))))))))) (Zrr (ZcG f57 f65 f66 f67 f68 f69 f73 f74 f72)):=fun _ _ _ _=>by kernel_rfl
theorem ZtE:Zu Tryz.prog 28 (Zrr ZaA):=okF (ZsR Xn YA Zam X5 X4 Y6 Xm ZaE YQ) Tryz.func28 Zt (ZO _ (.cons Zsy (.cons ZtI (.cons ZdL (.cons Zf9 (.cons Zdm (.cons Zc5 (.cons ZtF (.cons Zed (.cons Zcx .nil))))))))) .nil .nil .nil (ZM _))
abbrev ZoV (f:Zks):Zh:=⟨[.agg [.I .u8,.S,.L,.L],.one (.I .i64)],[.one (.I .i64)],fun t K _ h=>f t.1 t.2.1 (fun r0 h=>K (r0,()) h) h⟩
abbrev Zt8 (f76:Zks):Cfg:=Yl Tryz.prog [(204,ZoV f76)] 27 [] [] [] Yp
theorem ZsQ (f76:Zks):Yy (Zt8 f76) Tryz.f204 (.seq (.leaf) (.seq (.leaf) (.seq (.seq (.leaf) (.block (.loop [5,11] [.one (.I .i64),.one (.I .i64)] [(7,7),(12,25)] (.leaf)))) (.leaf)))) (ZoV (ZbW f76)):=fun _ _ _ _=>by kernel_rfl
theorem Ztr (f76:Zks) (hH:Zu Tryz.prog 204 (ZoV f76)):Zu Tryz.prog 204 (ZoV (ZaL f76)):=okF (ZsQ f76) Tryz.func204 Zt (ZO _ (.cons hH .nil) .nil .nil .nil (ZM _)) (hlen:=Nat.le_of_ble_eq_true rfl)
theorem Zst:∀ n,Zu Tryz.prog 204 (ZoV (YX n))
 | 0=>Zht Tryz.func204 (by kernel_rfl) (by kernel_rfl) fun _ _ _ _ h=>h
 | n+1=>Ztr _ (Zst n)
theorem ZtD:Zu Tryz.prog 204 (ZoV ZbQ):=ZnM Zst
abbrev Zrq (f:ZpY):Zh:=⟨[.agg [.I .u8,.S,.L,.L]],[.one (.B)],fun t K _ h=>f t.1 (fun r0 h=>K (r0,()) h) h⟩
abbrev Zt7 (f76:Zks):Cfg:=Yl Tryz.prog [(204,ZoV f76)] 6 [] [] [] Yp
theorem ZsP (f76:Zks):Yy (Zt7 f76) Tryz.f118 (.leaf) (Zrq (ZcF f76)):=fun _ _ _ _=>by kernel_rfl
theorem ZtC:Zu Tryz.prog 118 (Zrq Zaz):=okF (ZsP ZbQ) Tryz.func118 Zt (ZO _ (.cons ZtD .nil) .nil .nil .nil (ZM _))
abbrev Zrp (f:ZpX):Zh:=⟨[.agg [.I .u8,.S,.L,.L]],[.one (.I .i64)],fun t K _ h=>f t.1 (fun r0 h=>K (r0,()) h) h⟩
abbrev Zt6 (f77:ZpY) (f53:ZeQ):Cfg:=Yl Tryz.prog [(118,Zrq f77),(93,Zlm f53)] 19 [] [] [] Yp
theorem ZsO (f77:ZpY) (f53:ZeQ):Yy (Zt6 f77 f53) Tryz.f39 (.leaf) (Zrp (ZcK f77 f53)):=fun _ _ _ _=>by kernel_rfl
theorem ZtB:Zu Tryz.prog 39 (Zrp ZaD):=okF (ZsO Zaz YZ) Tryz.func39 Zt (ZO _ (.cons ZtC (.cons Zsz .nil)) .nil .nil .nil (ZM _))
abbrev Zro (f:ZpW):Zh:=⟨[],[.one (.B)],fun _ K _ h=>f (fun r0 h=>K (r0,()) h) h⟩
abbrev Zt5 (f26:Znf) (f61:Zp6) (f63:Zp5) (f75:ZpZ) (f78:ZpX):Cfg:=Yl Tryz.prog [(25,⟨[.one (.S)],[.agg [.I .u8,.S,.L,.L],.one (.I .i64),.one (.I .i64)],fun t K _ h=>f26 t.1 (fun r0 r1 r2 h=>K (r0,r1,r2,()) h) h⟩),(36,Zry f61),(30,Zrx f63),(28,Zrr f75),(39,Zrp f78)] 61 [] [] [] Yp
theorem ZsN (f26:Znf) (f61:Zp6) (f63:Zp5) (f75:ZpZ) (f78:ZpX):Yy (Zt5 f26 f61 f63 f75 f78) Tryz.f27 (.leaf) (Zro (Xz f26 f61 f63 f75 f78)):=fun _ _ _ _=>by kernel_rfl
theorem ZtA:Zu Tryz.prog 27 (Zro Yf):=okF (ZsN Yh ZaB ZaC ZaA ZaD) Tryz.func27 Zt (ZO _ (.cons ZbP (.cons ZtL (.cons ZtK (.cons ZtE (.cons ZtB .nil))))) .nil .nil .nil (ZM _))
abbrev ZsB (f:ZsC):Zh:=⟨[.one (.S),.one (.S)],[.one (.B)],fun t K _ h=>f t.1 t.2.1 (fun r0 h=>K (r0,()) h) h⟩
abbrev Zt4 (f26:Znf) (f79:ZpW):Cfg:=Yl Tryz.prog [(25,⟨[.one (.S)],[.agg [.I .u8,.S,.L,.L],.one (.I .i64),.one (.I .i64)],fun t K _ h=>f26 t.1 (fun r0 r1 r2 h=>K (r0,r1,r2,()) h) h⟩),(27,Zro f79)] 107 [] [] [] Yp
theorem ZsM (f26:Znf) (f79:ZpW):Yy (Zt4 f26 f79) Tryz.f8 (.seq (.leaf) (.seq (.leaf) (.seq (.leaf) (.cut [] [] [(4,4),(31,58)] (.leaf) (.seq (.leaf) (.cut [] [] [(4,4),(67,77)] (.leaf) (.leaf))))))) (ZsB (YF f26 f79)):=fun _ _ _ _=>by kernel_rfl
theorem Za3:Zu Tryz.prog 8 (ZsB YE):=okF (ZsM Yh Yf) Tryz.func8 Zt (ZO _ (.cons ZbP (.cons ZtA .nil)) .nil .nil .nil (ZM _))
end
end Go.Proofs.YtpjbjdheeemdiaaGreatDoor
namespace Go.Fw
open Go Go.RowKit
theorem Zmn {P:Program} {f:FuncId} {s:Zh} (ok:Zu P f s) (t:Ym s.args) (w:World) {args:Array Value} (hargs:((Ym.evs s.args t).map EV.v).toArray=args)
    (h:s.sem t (fun r h'=>ZoA s.res r = .bool true∧Ext w.heap h') (fun _ _=>False) w.heap):Calls P f args w fun e w'=>e = .returned (.bool true)∧Below w.heap.size w w':=by
  rw [← hargs]
  refine (ok.calls t _ _ w h).mono ?_
  rintro e w' (⟨r,rfl,hs,hr,hx⟩ | ⟨v,rfl,hs,hk⟩)
  ·exact ⟨by rw [hr],hs.2.1,hs.1,hs.2.2,hx.size,hx.old⟩
  ·exact hk.elim
end Go.Fw
namespace Go.Fw
open Go
def obj (h:Zc) (b:Nat):Option Obj:=h[b]?
def sz (h:Zc):Nat:=h.size
theorem ZlM {h:Zc} {x:Obj}:sz (h.push x)=sz h+1:=by unfold sz;simp
theorem Zov {h:Zc} {b o:Nat} {v:Value}:sz (h.put b o v)=sz h:=by unfold sz;exact ZeI
def ZjR (o:Nat) (v:Value):Option Obj→Option Obj
  | some (.cells c e f)=>some (.cells (c.setIfInBounds o v) e f)
  | x=>x
theorem Zcy {o:Nat} {v:Value} {l:List Value} {e:TypeId} {f:Nat × Nat}:ZjR o v (some (.cells l.toArray e f))=some (.cells (l.set o v).toArray e f):=by
  simp [ZjR]
theorem Zfl {h:Zc} {b o k:Nat} {v:Value}:obj (h.put b o v) k=if k=b then ZjR o v (obj h k) else obj h k:=by
  unfold obj Zc.put
  rw [Array.getElem?_modify]
  by_cases hk:b=k
  ·subst hk
   rw [if_pos rfl,if_pos rfl]
   cases h[b]? with
   | none=>rfl
   | some x=>cases x<;>rfl
  ·rw [if_neg hk,if_neg (Ne.symm hk)]
def Xf (o:Nat):Option Obj→Option Value
  | some (.cells c _ _)=>c[o]?
  | _=>none
def Zhu (o:Nat):Option Obj→Bool
  | some (.cells c _ f)=>decide (o<c.size)&&(f.1 ==0&&f.2 ==0)
  | _=>false
theorem Zhv {o:Nat} {l:List Value} {e:TypeId} {f:Nat × Nat}:Xf o (some (.cells l.toArray e f))=l[o]?:=by simp [Xf]
theorem XL {h:Zc} {b o:Nat}:h.cell b o=Xf o (obj h b):=by unfold Zc.cell obj Xf;rfl
theorem ZmA {h:Zc} {b o:Nat} (hf:Zhu o (obj h b)=true):(∃ u,h.cell b o=some u)∧h.froz b o=false:=by
  unfold Zhu at hf
  split at hf
  ·rename_i c e f hb
   simp only [Bool.and_eq_true,decide_eq_true_eq,beq_iff_eq] at hf
   obtain ⟨h1,h2,h3⟩:=hf
   have hb':h[b]?=some (.cells c e f):=hb
   refine ⟨⟨c[o],by unfold Zc.cell;rw [hb'];simp [h1]⟩,?_⟩
   unfold Zc.froz
   rw [hb']
   obtain ⟨lo,hi⟩:=f
   simp only at h2 h3
   subst h2 h3
   simp
  ·cases hf
theorem ZqU {h:Zc} {b o:Nat} {k:IntKind} {n:Int} {K:Int→Prop} (hc:Xf o (obj h b)=some (.int k n)):ldI h b o k K=K n :=
  propext ⟨fun ⟨m,e,hk⟩=>(by rw [XL,hc] at e;cases e;exact hk),fun hk=>⟨n,by rw [XL,hc],hk⟩⟩
theorem ZqR {h:Zc} {b o:Nat} {n:ByteArray} {K:ByteArray→Prop} (hc:Xf o (obj h b)=some (.string n)):ldS h b o K=K n :=
  propext ⟨fun ⟨m,e,hk⟩=>(by rw [XL,hc] at e;cases e;exact hk),fun hk=>⟨n,by rw [XL,hc],hk⟩⟩
theorem ZqS {h:Zc} {b o:Nat} {n:Option Addr} {K:Option Addr→Prop} (hc:Xf o (obj h b)=some (.pointer n)):ldP h b o K=K n :=
  propext ⟨fun ⟨m,e,hk⟩=>(by rw [XL,hc] at e;cases e;exact hk),fun hk=>⟨n,by rw [XL,hc],hk⟩⟩
theorem ZqQ {h:Zc} {b o:Nat} {n:Value} {K:Value→Prop} (hc:Xf o (obj h b)=some n):ldV h b o K=K n :=
  propext ⟨fun ⟨m,e,hk⟩=>(by rw [XL,hc] at e;cases e;exact hk),fun hk=>⟨n,by rw [XL,hc],hk⟩⟩
theorem ZqT {h:Zc} {b o:Nat} {p:Option Addr} {l c:Nat} {K:Sl→Prop} (hc:Xf o (obj h b)=some (.slice p l c)):ldL h b o K=K ⟨p,l,c⟩ :=
  propext ⟨fun ⟨m,e,hk⟩=>(by rw [XL,hc] at e;cases e;exact hk),fun hk=>⟨⟨p,l,c⟩,by rw [XL,hc],hk⟩⟩
theorem Zj7 {h:Zc} {b:Nat}:∀ (n o:Nat),(∀ i,i<n→Zhu (o+i) (obj h b)=true)→h.free b o n
  | 0,_,_=>trivial
  | n+1,o,hf=>⟨ZmA (by have:=hf 0 (by omega);simpa using this),Zj7 n (o+1) fun i hi=>by have:=hf (i+1) (by omega);rw [show o+1+i=o+(i+1) from by omega];exact this⟩
def ZmB (o n:Nat):Option Obj→Bool
  | some (.cells c _ f)=>decide (o+n≤c.size)&&(f.1 ==0&&f.2 ==0)
  | _=>false
theorem Za8 {o n:Nat} {l:List Value} {e:TypeId}:ZmB o n (some (.cells l.toArray e (0,0)))=decide (o+n≤l.length):=by simp [ZmB]
theorem Zn2 {h:Zc} {b o n:Nat} (hf:ZmB o n (obj h b)=true):h.free b o n:=by
  refine Zj7 n o fun i hi=>?_
  unfold ZmB at hf
  split at hf
  ·rename_i c e f hb
   rw [hb]
   simp only [Bool.and_eq_true,decide_eq_true_eq] at hf
   simp only [Zhu,Bool.and_eq_true,decide_eq_true_eq]
   exact ⟨by omega,hf.2⟩
  ·cases hf
theorem Zh4 {h:Zc} {b o:Nat} {vs:List Value} {K:Zc→Prop} (hf:ZmB o vs.length (obj h b)=true) (hv:vs.all ZV=true):sts h b o vs K=K (h.puts b o vs) :=
  propext ⟨fun hk=>hk.2.2,fun hk=>⟨Zn2 hf,hv,hk⟩⟩
theorem Zcm {h:Zc} {b o:Nat} {vs:List Value}:sz (h.puts b o vs)=sz h:=ZdI
def Zfm:Nat→List Value→Option Obj→Option Obj
  | _,[],x=>x
  | o,v::vs,x=>Zfm (o+1) vs (ZjR o v x)
def YT:Nat→List Value→List Value→List Value
  | _,[],l=>l
  | o,v::vs,l=>YT (o+1) vs (l.set o v)
theorem Y2 {e:TypeId} {f:Nat × Nat}:∀ {vs:List Value} {o:Nat} {l:List Value},Zfm o vs (some (.cells l.toArray e f))=some (.cells (YT o vs l).toArray e f)
  | [],_,_=>rfl
  | v::vs,o,l=>by unfold Zfm YT;rw [Zcy,Y2]
theorem X3 {b:Nat}:∀ {vs:List Value} {h:Zc} {o k:Nat},obj (h.puts b o vs) k=if k=b then Zfm o vs (obj h k) else obj h k
  | [],h,o,k=>by
    unfold Zc.puts Zfm
    split<;>rfl
  | v::vs,h,o,k=>by
    unfold Zc.puts
    rw [X3,Zfl]
    by_cases hk:k=b
    ·rw [if_pos hk,if_pos hk,if_pos hk];rfl
    ·rw [if_neg hk,if_neg hk,if_neg hk]
theorem Zjj {b o l size:Nat} {i:Int} {n:Nat} {K:Nat→Nat→Prop} (hi:i=(n:Int)) (hl:n<l) (hk:K b (o+n*size)):ZiN (some ⟨b,o,none⟩) l i size K:=by
  subst hi
  exact ⟨b,o,rfl,by omega,by omega,by simpa using hk⟩
theorem Zqx {s t:Sl}:(slV s=slV t)=(s=t):=by
  refine propext ⟨fun h=>?_,fun h=>by rw [h]⟩
  cases s;cases t
  unfold slV at h
  injection h with h1 h2 h3
  subst h1 h2 h3
  rfl
theorem Zbo {k:IntKind} {n:Int}:ZV (.int k n)=true:=by simp [ZV]
theorem Zii {b:Option Addr} {l c:Nat}:ZV (.slice b l c)=true:=by simp [ZV]
theorem YG {h h':Zc} (e:Ext h h') {b:Nat} (hb:b<sz h):obj h' b=obj h b:=e.old b hb
theorem Yn {S:Nat→Prop} {h h':Zc} (e:Upd S h h') {b:Nat} (hb:b<sz h) (hs:¬ S b):obj h' b=obj h b:=e.old b hb hs
theorem Znq {S:Nat→Prop} {h h1:Zc} {b o:Nat} {vs:List Value} (he:Upd S h h1) (hb:sz h≤b∨S b):Upd S h (h1.puts b o vs) :=
  ⟨by rw [ZdI];exact he.size,fun k hk hs=>(Zd9 fun e=>by subst e;exact hb.elim (fun h9=>by unfold sz at h9;omega) hs).trans (he.old k hk hs)⟩
theorem ZaJ {h:Zc} {b:Nat} {x:Obj} (hb:obj h b=some x):b<sz h:=by
  unfold obj at hb
  rcases Nat.lt_or_ge b h.size with hl | hl
  ·exact hl
  ·rw [Array.getElem?_eq_none hl] at hb;cases hb
theorem Y8 {h h':Zc} {b:Nat} {x:Obj} (hb:obj h b=some x) (e:Ext h h'):obj h' b=some x:=(YG e (ZaJ hb)).trans hb
theorem Yk {S:Nat→Prop} {h h':Zc} {b:Nat} {x:Obj} (hb:obj h b=some x) (e:Upd S h h') (hs:¬ S b):obj h' b=some x:=(Yn e (ZaJ hb) hs).trans hb
theorem Ext.updS {h h1 h2:Zc} {S:Nat→Prop} (e:Ext h h1) (u:Upd S h1 h2) (hs:∀ k,S k→sz h≤k):Ext h h2:=e.then u fun k hk=>hs k hk
end Go.Fw
namespace Go.Js
open Go
abbrev BL:=List UInt8
inductive JL where
  | nil
  | cons (k:Nat) (t:BL) (ns:List BL) (sub rest:JL)
deriving DecidableEq
structure JV where
  k:Nat
  t:BL
  ns:List BL
  sub:JL
deriving DecidableEq
namespace JL
def len:JL→Nat
  | nil=>0
  | cons _ _ _ _ r=>r.len+1
def snoc (v:JV):JL→JL
  | nil=>cons v.k v.t v.ns v.sub nil
  | cons k t ns s r=>cons k t ns s (r.snoc v)
def isNil:JL→Bool
  | nil=>true
  | _=>false
theorem len_snoc (v:JV):∀ l:JL,(l.snoc v).len=l.len+1
  | nil=>rfl
  | cons _ _ _ _ r=>by simp [snoc,len,len_snoc v r]
theorem Zpn {l:JL}:l.len=0↔l=nil:=by cases l<;>simp [len]
end JL
inductive Out (α:Type) where
  | ok (a:α) (r:BL)
  | err (e:Nat) (r:BL)
def Out.bind {α β:Type}:Out α→(α→BL→Out β)→Out β
  | .ok a r,f=>f a r
  | .err e r,_=> .err e r
@[simp] theorem Out.bind_ok {α β:Type} (a:α) (r:BL) (f:α→BL→Out β):(Out.ok a r).bind f=f a r:=rfl
@[simp] theorem Out.bind_err {α β:Type} (e:Nat) (r:BL) (f:α→BL→Out β):(Out.err e r:Out α).bind f = .err e r:=rfl
def YP {α:Type} (e:Nat):BL→Out α
  | []=> .err 24 []
  | c::l=> .err e (c::l)
def Z1 (c:UInt8):Bool:=c ==32||c ==9||c ==10||c ==13
def Xu (c:UInt8):Bool:=decide (48≤c.toNat)&&decide (c.toNat≤57)
def Z4 (l:BL):BL:=l.dropWhile Z1
def Zbb:BL→BL→Out Unit
  | [],l=> .ok () l
  | c::w,d::l=>if d=c then Zbb w l else .err 20 (d::l)
  | _::_,[]=> .err 24 []
def Z3:BL→Out Unit
  | c::l=>if Xu c then .ok () (l.dropWhile Xu) else .err 21 (c::l)
  | []=> .err 24 []
def Zah:BL→BL
  | c::l=>if c=45 then l else c::l
  | []=>[]
def Zd1:BL→BL
  | c::l=>if c=43∨c=45 then l else c::l
  | []=>[]
def Xx:BL→Out Unit
  | c::l=>if Xu c then .err 21 (c::l) else .ok () (c::l)
  | []=> .ok () []
def Zez:BL→Out Unit
  | c::l=>if c=48 then Xx l else Z3 (c::l)
  | []=> .err 24 []
def ZcL:BL→Out Unit
  | c::l=>if c=46 then Z3 l else .ok () (c::l)
  | []=> .ok () []
def ZeM:BL→Out Unit
  | c::l=>if c=101∨c=69 then Z3 (Zd1 l) else .ok () (c::l)
  | []=> .ok () []
def ZcX (l:BL):Out Unit:=(Zez (Zah l)).bind fun _ l1=>(ZcL l1).bind fun _ l2=>ZeM l2
def ZfY (l r:BL):BL:=l.take (l.length - r.length)
def ZeA (c:UInt8):Option Nat :=
  if 48≤c.toNat∧c.toNat≤57 then some (c.toNat - 48)
  else if 97≤c.toNat∧c.toNat≤102 then some (c.toNat - 87)
  else if 65≤c.toNat∧c.toNat≤70 then some (c.toNat - 55)
  else none
def Zc7:Nat→Nat→BL→Out Nat
  | 0,n,l=> .ok n l
  | _+1,_,[]=> .err 24 []
  | k+1,n,c::l=>match ZeA c with
    | some d=>Zc7 k (n*16+d) l
    | none=> .err 22 (c::l)
def ZbK (n:Nat):BL :=
  if n<128 then [UInt8.ofNat n]
  else if n<2048 then [UInt8.ofNat (192+n / 64),UInt8.ofNat (128+n % 64)]
  else if n<65536 then [UInt8.ofNat (224+n / 4096),UInt8.ofNat (128+n / 64 % 64),UInt8.ofNat (128+n % 64)]
  else [UInt8.ofNat (240+n / 262144),UInt8.ofNat (128+n / 4096 % 64),UInt8.ofNat (128+n / 64 % 64),UInt8.ofNat (128+n % 64)]
def ZeC (n:Nat):Nat:=if 55296≤n∧n<57344 then 65533 else n
def ZaM (c:UInt8):Option UInt8 :=
  if c=34 then some 34 else if c=92 then some 92 else if c=47 then some 47 else if c=98 then some 8 else if c=102 then some 12 else if c=110 then some 10 else if c=114 then some 13 else if c=116 then some 9 else none
def XU:BL→Option BL
  | a::b::l=>if a=92∧b=117 then some l else none
  | _=>none
def Zre (l:BL):Out BL:=(Zc7 4 0 l).bind fun n l1 =>
  match (if 55296≤n∧n<56320 then XU l1 else none) with
  | some l2=>(Zc7 4 0 l2).bind fun m l3=>if 56320≤m∧m<57344 then .ok (ZbK (65536+(n - 55296)*1024+(m - 56320))) l3 else .ok (ZbK (ZeC n)) l1
  | none=> .ok (ZbK (ZeC n)) l1
def Zkd:BL→Out BL
  | []=> .err 24 []
  | c::l=>match ZaM c with
    | some m=> .ok [m] l
    | none=>if c=117 then Zre l else .err 22 (c::l)
def ZjF (c:Nat):Nat × Nat × Nat :=
  if c<128 then (1,0,0)
  else if 194≤c∧c≤223 then (2,128,191)
  else if c=224 then (3,160,191)
  else if c=237 then (3,128,159)
  else if 225≤c∧c≤239 then (3,128,191)
  else if c=240 then (4,144,191)
  else if 241≤c∧c≤243 then (4,128,191)
  else if c=244 then (4,128,143)
  else (0,0,0)
def ZaG:Nat→Nat→Nat→BL→Out Unit
  | 0,_,_,l=> .ok () l
  | _+1,_,_,[]=> .err 24 []
  | n+1,lo,hi,d::l=>if lo≤d.toNat∧d.toNat≤hi then ZaG n 128 191 l else .err 22 (d::l)
def Xh:BL→Out Unit
  | []=> .err 24 []
  | c::l=>if (ZjF c.toNat).1=0 then .err 22 (c::l) else ZaG ((ZjF c.toNat).1 - 1) (ZjF c.toNat).2.1 (ZjF c.toNat).2.2 l
def ZdC:Nat→BL→BL→Out BL
  | 0,_,_=> .err 24 []
  | _+1,_,[]=> .err 24 []
  | n+1,out,c::l =>
    if c.toNat<32 then .err 22 (c::l)
    else if c=34 then .ok out l
    else if c=92 then (Zkd l).bind fun o l2=>ZdC n (out++o) l2
    else if c.toNat<128 then ZdC n (out++[c]) l
    else (Xh (c::l)).bind fun _ l2=>ZdC n (out++ZfY (c::l) l2) l2
def ZfZ (l:BL):Out BL:=ZdC (l.length+1) [] l
def Zcz (l:BL):Out BL :=
  match Z4 l with
  | c::l1=>if c=34 then (ZfZ l1).bind fun nm l2=>match Z4 l2 with
     | d::l3=>if d=58 then .ok nm l3 else .err 20 (d::l3)
     | []=> .err 24 []
    else .err 20 (c::l1)
  | []=> .err 24 []
def Xk (pv:BL→Out JV) (ob:Bool) (ns:List BL) (sub:JL) (l:BL):Out (List BL × JL) :=
  if ob then (Zcz l).bind fun nm l3=>(pv l3).bind fun v l4=> .ok (ns++[nm],sub.snoc v) (Z4 l4)
  else (pv (Z4 l)).bind fun v l4=> .ok (ns,sub.snoc v) (Z4 l4)
def Zb2 (ob:Bool):UInt8:=if ob then 125 else 93
def Zcg (c:UInt8):BL→Bool
  | d::_=>d ==c
  | []=>false
def ZbB (pv:BL→Out JV) (ob:Bool):Nat→List BL→JL→BL→Out (List BL × JL)
  | 0,_,_,_=> .err 24 []
  | m+1,ns,sub,l =>
    if Zcg (Zb2 ob) l then .ok (ns,sub) l.tail
    else if sub.isNil then (Xk pv ob ns sub l).bind fun p l2=>ZbB pv ob m p.1 p.2 l2
    else if Zcg 44 l then (Xk pv ob ns sub l.tail).bind fun p l2=>ZbB pv ob m p.1 p.2 l2
    else YP 20 l
def Zca (op:Bool→BL→Out JV) (l:BL):Out JV :=
  match Z4 l with
  | []=> .err 24 []
  | c::l1 =>
    if c=123 then op true (c::l1)
    else if c=91 then op false (c::l1)
    else if c=34 then (ZfZ l1).bind fun t r=> .ok ⟨5,t,[],.nil⟩ r
    else if c=110 then (Zbb [110,117,108,108] (c::l1)).bind fun _ r=> .ok ⟨1,[],[],.nil⟩ r
    else if c=102 then (Zbb [102,97,108,115,101] (c::l1)).bind fun _ r=> .ok ⟨2,[],[],.nil⟩ r
    else if c=116 then (Zbb [116,114,117,101] (c::l1)).bind fun _ r=> .ok ⟨3,[],[],.nil⟩ r
    else if c=45∨Xu c then (ZcX (c::l1)).bind fun _ r=> .ok ⟨4,ZfY (c::l1) r,[],.nil⟩ r
    else .err 20 (c::l1)
def Zih (pv:BL→Out JV) (ob:Bool) (l:BL):Out JV :=
  (ZbB pv ob (l.length+1) [] .nil (Z4 l.tail)).bind fun p r=> .ok ⟨if ob then 7 else 6,[],p.1,p.2⟩ r
def ZJ:Nat→BL→Out JV
  | 0=>Zca fun _ l=>YP 23 l
  | n+1=>Zca (Zih (ZJ n))
inductive Got where
  | ok (v:JV)
  | err (e:Nat) (at_:Nat)
def Xc (l:BL):Got :=
  if 65536<l.length then .err 5 65536
  else match ZJ 64 l with
    | .err e r=> .err e (l.length - r.length)
    | .ok v r=>match Z4 r with
      | []=> .ok v
      | c::r'=> .err 25 (l.length - (c::r').length)
theorem Y1 {c:UInt8} {l r:BL} (h:r <:+l):r <:+c::l:=h.trans (List.suffix_cons _ _)
theorem Zh6 (l:BL):Z4 l <:+l:=List.dropWhile_suffix _
theorem Zdu {l r:BL} (h:Z3 l = .ok () r):r <:+l:=by
  rcases l with _ | ⟨c,l⟩
  ·cases h
  ·dsimp only [Z3] at h
   split at h
   ·cases h;exact Y1 (List.dropWhile_suffix _)
   ·cases h
theorem Zk0 (l:BL):Zah l <:+l:=by
  rcases l with _ | ⟨c,l⟩
  ·exact List.suffix_refl _
  ·dsimp only [Zah]
   split
   ·exact List.suffix_cons _ _
   ·exact List.suffix_refl _
theorem ZlP (l:BL):Zd1 l <:+l:=by
  rcases l with _ | ⟨c,l⟩
  ·exact List.suffix_refl _
  ·dsimp only [Zd1]
   split
   ·exact List.suffix_cons _ _
   ·exact List.suffix_refl _
theorem ZnZ {l r:BL} (h:Zez l = .ok () r):r <:+l:=by
  rcases l with _ | ⟨c,l⟩
  ·cases h
  ·dsimp only [Zez] at h
   split at h
   ·rcases l with _ | ⟨d,l⟩
    ·cases h;exact List.suffix_cons _ _
    ·dsimp only [Xx] at h
     split at h
     ·cases h
     ·cases h;exact List.suffix_cons _ _
   ·exact Zdu h
theorem ZmC {l r:BL} (h:ZcL l = .ok () r):r <:+l:=by
  rcases l with _ | ⟨c,l⟩
  ·cases h;exact List.suffix_refl _
  ·dsimp only [ZcL] at h
   split at h
   ·exact Y1 (Zdu h)
   ·cases h;exact List.suffix_refl _
theorem Zn9 {l r:BL} (h:ZeM l = .ok () r):r <:+l:=by
  rcases l with _ | ⟨c,l⟩
  ·cases h;exact List.suffix_refl _
  ·dsimp only [ZeM] at h
   split at h
   ·exact Y1 ((Zdu h).trans (ZlP _))
   ·cases h;exact List.suffix_refl _
theorem ZI {α β:Type} {x:Out α} {f:α→BL→Out β} {b:β} {r:BL} (h:x.bind f = .ok b r):∃ a l,x = .ok a l∧f a l = .ok b r:=by
  cases x with
  | ok a l=>exact ⟨a,l,rfl,h⟩
  | err e l=>cases h
theorem ZeK {l r:BL} (h:ZcX l = .ok () r):∃ l1 l2,Zez (Zah l) = .ok () l1∧ZcL l1 = .ok () l2∧ZeM l2 = .ok () r:=by
  obtain ⟨_,l1,h1,h⟩:=ZI h
  obtain ⟨_,l2,h2,h⟩:=ZI h
  exact ⟨l1,l2,h1,h2,h⟩
theorem ZnQ {l r:BL} (h:ZcX l = .ok () r):r <:+l:=by
  obtain ⟨l1,l2,h1,h2,h3⟩:=ZeK h
  exact (Zn9 h3).trans ((ZmC h2).trans ((ZnZ h1).trans (Zk0 l)))
end Go.Js
namespace Go.Proofs.YtpjbjdheeemdiaaGreatDoor
open Go Go.Fw Go.Js
theorem Zce {h:Zc} {cells:List Value} {t:TypeId} {K:Nat→Zc→Prop} (hk:∀ h1,h1[h.size]?=some (.cells cells.toArray t (0,0))→Ext h h1→h1.size=h.size+1→K h.size h1):newC h cells t K :=
  ZkX (hk _ ZdJ (Ext.push _ _) (by simp))
theorem ZN {b o:Nat} {K:Nat→Nat→Prop} (hk:K b o):Ze (some ⟨b,o,none⟩) K:=⟨b,o,rfl,hk⟩
theorem Zq {h:Zc} {b o:Nat} {l:List Value} {e:TypeId} {f:Nat × Nat} {v:Value} (hb:obj h b=some (.cells l.toArray e f)) (hv:l[o]?=some v):Xf o (obj h b)=some v:=by rw [hb,Zhv];exact hv
theorem rI {h:Zc} {b o:Nat} {k:IntKind} {n:Int} {K:Int→Prop} (hc:Xf o (obj h b)=some (.int k n)) (hk:K n):ldI h b o k K:=by rw [ZqU hc];exact hk
theorem rS {h:Zc} {b o:Nat} {n:ByteArray} {K:ByteArray→Prop} (hc:Xf o (obj h b)=some (.string n)) (hk:K n):ldS h b o K:=by rw [ZqR hc];exact hk
theorem rP {h:Zc} {b o:Nat} {n:Option Addr} {K:Option Addr→Prop} (hc:Xf o (obj h b)=some (.pointer n)) (hk:K n):ldP h b o K:=by rw [ZqS hc];exact hk
theorem rL {h:Zc} {b o:Nat} {s:Sl} {K:Sl→Prop} (hc:Xf o (obj h b)=some (slV s)) (hk:K s):ldL h b o K:=by cases s;exact (ZqT hc).mpr hk
theorem ZjO {h:Zc} {b o:Nat} {v:Value} {K:Zc→Prop} {l:List Value} {e:TypeId} (hb:obj h b=some (.cells l.toArray e (0,0))) (ho:o<l.length) (hv:ZV v=true)
    (hk:∀ h',obj h' b=some (.cells (l.set o v).toArray e (0,0))→Upd (· = b) h h'→sz h'=sz h→K h'):st h b o v K:=by
  refine ⟨⟨l[o],by rw [Zek hb];simp [ho]⟩,?_,hv,?_⟩
  ·unfold Zc.froz;rw [show h[b]?=obj h b from rfl,hb];simp
  ·refine hk _ ?_ (Upd.put h b o v) ZeI
   have:=Zif (v:=v) (o:=o) hb
   rw [show obj (h.put b o v) b=(h.put b o v)[b]? from rfl,this]
   simp
structure ZeO (s:ByteArray) (n:Nat) (l:BL):Prop where
  drop:s.data.toList.drop n=l
  len:n+l.length=s.size
theorem ZeO.head {s:ByteArray} {n:Nat} {c:UInt8} {l:BL} (h:ZeO s n (c::l)):s[n]?=some c:=by
  have h1:s.data.toList[n]?=some c:=by
    have:=congrArg (fun x=>x[0]?) h.drop
    simp only [List.getElem?_drop] at this
    simpa using this
  have hn:n<s.size:=by have:=h.len;simp at this;omega
  rw [Array.getElem?_toList] at h1
  rw [getElem?_pos s n hn]
  rw [getElem?_pos s.data n hn] at h1
  exact h1
theorem ZeO.tail {s:ByteArray} {n:Nat} {c:UInt8} {l:BL} (h:ZeO s n (c::l)):ZeO s (n+1) l:=by
  refine ⟨?_,by have:=h.len;simp at this;omega⟩
  rw [show s.data.toList.drop (n+1)=(s.data.toList.drop n).drop 1 by rw [List.drop_drop],h.drop]
  rfl
theorem ZeO.dropK {s:ByteArray} {n:Nat} {l:BL} (h:ZeO s n l) {k:Nat} (hk:k≤l.length):ZeO s (n+k) (l.drop k):=by
  refine ⟨?_,by have:=h.len;simp;omega⟩
  rw [← h.drop,List.drop_drop]
theorem ZeO.start (s:ByteArray):ZeO s 0 s.data.toList:=⟨rfl,by simp⟩
theorem ZeO.extract {s:ByteArray} {n m:Nat} {l r:BL} (h:ZeO s n l) (h':ZeO s m r) (hnm:n≤m):s.extract n m=Zd (ZfY l r):=by
  have e:m - n=l.length - r.length:=by have:=h.len;have:=h'.len;omega
  have hm:m≤s.size:=by have:=h'.len;omega
  unfold ZfY
  rw [← e,← h.drop]
  have:(s.extract n m).data.toList=(s.data.toList.drop n).take (m - n):=by
    simp [ByteArray.data_extract]
  rcases hx:s.extract n m with ⟨⟨x⟩⟩
  rw [hx] at this
  simp only at this
  rw [this]
def Rd (h:Zc) (R:Nat) (s:ByteArray) (l:BL):Prop:=s.size≤65536∧∃ n:Nat,obj h R=some (.cells [.string s,.int .i64 n].toArray 163 (0,0))∧ZeO s n l
abbrev At (R:Nat):Option Addr:=some ⟨R,0,none⟩
def Zbg (e:Nat) (n:Nat):Value:= .iface 160 (.agg #[.int .i64 e,.int .i64 n])
theorem Rd.congr {h h':Zc} {R:Nat} {s:ByteArray} {l:BL} (hr:Rd h R s l) (e:obj h' R=obj h R):Rd h' R s l:=by
  obtain ⟨a,n,b,c⟩:=hr
  exact ⟨a,n,e.trans b,c⟩
theorem Rd.lt {h:Zc} {R:Nat} {s:ByteArray} {l:BL} (hr:Rd h R s l):R<sz h:=by
  obtain ⟨_,n,b,_⟩:=hr
  exact ZaJ b
theorem Rd.upd {S:Nat→Prop} {h h':Zc} {R:Nat} {s:ByteArray} {l:BL} (hr:Rd h R s l) (u:Upd S h h') (hs:¬ S R):Rd h' R s l:=hr.congr (Yn u hr.lt hs)
theorem Rd.ext {h h':Zc} {R:Nat} {s:ByteArray} {l:BL} (hr:Rd h R s l) (u:Ext h h'):Rd h' R s l:=hr.congr (YG u hr.lt)
theorem Rd.len {h:Zc} {R:Nat} {s:ByteArray} {l:BL} (hr:Rd h R s l):l.length≤s.size∧s.size≤65536:=by
  obtain ⟨a,n,b,c⟩:=hr
  have:=c.len
  omega
theorem Zc4 {h:Zc} {R:Nat} {s:ByteArray} {l:BL} (hr:Rd h R s l) {K:Int→Prop} (hk:∀ n:Nat,ZeO s n l→K n):Ze (At R) fun b o=>ldI h b (o+1) .i64 K:=by
  obtain ⟨_,n,hb,hn⟩:=hr
  exact ZN (rI (Zq hb rfl) (hk n hn))
theorem ZjL {h:Zc} {R:Nat} {s:ByteArray} {l:BL} (hr:Rd h R s l) {K:ByteArray→Prop} (hk:K s):Ze (At R) fun b o=>ldS h b o K:=by
  obtain ⟨_,n,hb,hn⟩:=hr
  exact ZN (rS (Zq hb rfl) hk)
theorem ZjM {h:Zc} {R:Nat} {s:ByteArray} {l l':BL} (hr:Rd h R s l) {m:Int} {n:Nat} (hm:m=n) (hn:ZeO s n l') {K:HP} (hk:∀ h',Rd h' R s l'→Upd (· = R) h h'→sz h'=sz h→K h'):Ze (At R) fun b o=>st h b (o+1) (.int .i64 m) K:=by
  obtain ⟨hs,n0,hb,hn0⟩:=hr
  refine ZN (ZjO hb (by simp) Zbo fun h' c u z=>hk h' ⟨hs,n,?_,hn⟩ u z)
  rw [c,hm];rfl
theorem XX {h:Zc} {R:Nat} {s:ByteArray} {c:UInt8} {l:BL} (hr:Rd h R s (c::l)) {K:HP} (hk:∀ h',Rd h' R s l→Upd (· = R) h h'→sz h'=sz h→K h') :
    Ze (At R) fun b o=>ldI h b (o+1) .i64 fun t=>Ze (At R) fun b o=>st h b (o+1) (.int .i64 (IntKind.wrap .i64 (t+1))) K:=by
  refine Zc4 hr fun n hn=>?_
  have:=hn.len
  have:=hr.len
  refine ZjM hr (n:=n+1) ?_ hn.tail hk
  rw [YI (by omega) (by omega)];rfl
theorem Zpb {h:Zc} {R:Nat} {s:ByteArray} {l:BL} (hr:Rd h R s l) {k:Int} {m:Nat} (hk:k=m) (hm:m≤l.length) {K:HP} (hK:∀ h',Rd h' R s (l.drop m)→Upd (· = R) h h'→sz h'=sz h→K h') :
    Ze (At R) fun b o=>ldI h b (o+1) .i64 fun t=>Ze (At R) fun b o=>st h b (o+1) (.int .i64 (IntKind.wrap .i64 (t+k))) K:=by
  refine Zc4 hr fun n hn=>?_
  have:=hn.len
  have:=hr.len
  refine ZjM hr (n:=n+m) ?_ (hn.dropK hm) hK
  rw [YI (by omega) (by omega),hk];rfl
theorem Zi3 {h:Zc} {R:Nat} {s:ByteArray} {l:BL} (hr:Rd h R s l) {A B:Prop} (ha:l≠[]→A) (hb:l=[]→B) :
    Ze (At R) fun b o=>ldI h b (o+1) .i64 fun t=>Ze (At R) fun b o=>ldS h b o fun t5=>ZD (decide (t<(t5.size:Int))) A B:=by
  refine Zc4 hr fun n hn=>ZjL hr (Zn (fun e=>ha ?_) fun e=>hb ?_)
  ·have:=hn.len
   intro e;subst e;simp at this;omega
  ·have:=hn.len
   exact List.eq_nil_of_length_eq_zero (by omega)
theorem Zho {h:Zc} {R:Nat} {s:ByteArray} {l:BL} (hr:Rd h R s l) {A B:Prop} (ha:l=[]→A) (hb:l≠[]→B) :
    Ze (At R) fun b o=>ldI h b (o+1) .i64 fun t=>Ze (At R) fun b o=>ldS h b o fun t5=>ZD (decide (t≥(t5.size:Int))) A B:=by
  refine Zc4 hr fun n hn=>ZjL hr (Zn (fun e=>ha ?_) fun e=>hb ?_)
  ·have:=hn.len
   exact List.eq_nil_of_length_eq_zero (by omega)
  ·have:=hn.len
   intro e;subst e;simp at this;omega
def Xg:BL→Int
  | c::_=>c.toNat
  | []=>0
theorem Yq {h:Zc} {R:Nat} {s:ByteArray} {l:BL} (hr:Rd h R s l) {K:Int→HP} (hk:K (Xg l) h):Zi (At R) K h:=by
  unfold Zi Zac
  refine Za (Zi3 hr (fun hne=>?_) fun he=>Za ?_)
  ·obtain ⟨c,l',rfl⟩:=List.exists_cons_of_ne_nil hne
   refine ZjL hr (Zc4 hr fun n hn=>⟨c,by omega,by rw [Int.toNat_natCast];exact hn.head,Za hk⟩)
  ·subst he;exact hk
theorem ZqN {h:Zc} {R:Nat} {s:ByteArray} {l:BL} (hr:Rd h R s l) {K:Int × Unit→Prop} (hk:K (Xg l,())):ZkM (ρ:=Int × Unit) (fun K h=>Zi (At R) (fun q h=>K (q,()) h) h) h K :=
  ⟨(Xg l,()),Yq hr ⟨rfl,rfl⟩,hk⟩
def OnE {α:Type} (h:Zc) (R:Nat) (s:ByteArray) (S:Nat→Prop) (res:Out α) (P:Value→HP):Prop:=∀ e r h',res = .err e r→Upd S h h'→P (Zbg e (s.size - r.length)) h'
def left (h:Zc) (R:Nat):Nat:=match obj h R with
  | some (.cells c _ _)=>(match c.toList with
    | [.string s,.int _ n]=>s.size - n.toNat
    | _=>0)
  | _=>0
theorem Rd.left {h:Zc} {R:Nat} {s:ByteArray} {l:BL} (hr:Rd h R s l):left h R=l.length:=by
  obtain ⟨_,n,b,g⟩:=hr
  unfold Go.Proofs.YtpjbjdheeemdiaaGreatDoor.left
  rw [b]
  have:=g.len
  simp
  omega
theorem ZmH {α:Type} {h:Zc} {R:Nat} {s:ByteArray} {l:BL} (hr:Rd h R s l) {e:Nat} {n:Int} (hn:n=((s.size - l.length:Nat):Int)) {K:HP} {P:Value→HP} (hp:∀ e' r,(YP e l:Out α) = .err e' r→r=l→P (Zbg e' (s.size - r.length)) h):Zf (At R) (e:Int) n K P h:=by
  unfold Zf YO
  have hl:=hr.len
  refine ZjL hr (Zn (fun hd=>?_) fun hd=>?_)
  ·have:l=[]:=by
     refine List.eq_nil_of_length_eq_zero ?_
     omega
   subst this
   have:=hp 24 [] rfl rfl
   exact ZjL hr this
  ·have hne:l≠[]:=by intro e;subst e;simp at hn;omega
   obtain ⟨c,l',rfl⟩:=List.exists_cons_of_ne_nil hne
   have:=hp e (c::l') rfl rfl
   subst hn
   exact this
theorem Xa {α:Type} {h:Zc} {R:Nat} {s:ByteArray} {l:BL} (hr:Rd h R s l) {e:Nat} {K:HP} {P:Value→HP} {e0:Int} (he:e0=e) (hp:∀ e' r,(YP e l:Out α) = .err e' r→r=l→P (Zbg e' (s.size - r.length)) h) :
    Ze (At R) fun b o=>ldI h b (o+1) .i64 fun t=>Zf (At R) e0 t K P h:=by
  subst he
  refine Zc4 hr fun n hn=>ZmH (α:=α) hr ?_ hp
  have:=hn.len
  congr 1;omega
theorem Zfu {s:ByteArray} {c:Int} {K:Int→HP} {h:Zc} (hk:K (Lib.indexByte s.data.toList c.toNat.toUInt8) h):ZX s c K h:=hk
theorem ZpT {p:UInt8→Prop} (h:∀ f:Fin 256,p ⟨⟨f⟩⟩):∀ c,p c:=fun ⟨⟨f⟩⟩=>h f
theorem Zkl (c:UInt8):(Lib.indexByte [32,9,10,13] c≥0)↔Z1 c=true:=by
  revert c
  exact ZpT (by decide +kernel)
theorem Zap {h:Zc} {R:Nat} {s:ByteArray} {l:BL} (hr:Rd h R s l) {K:HP} (hk:∀ h',Rd h' R s (Z4 l)→Upd (· = R) h h'→sz h'=sz h→K h'):Zv (At R) K h:=by
  unfold Zv XD
  refine Ya (fun _ h'=>∃ l',Rd h' R s l'∧Z4 l'=Z4 l∧Upd (· = R) h h'∧sz h'=sz h) (fun _ h'=>left h' R) ⟨l,hr,rfl,Upd.refl _ _,rfl⟩ ?_
  rintro ⟨⟩ h1 ⟨l1,r1,e1,u1,z1⟩
  dsimp only
  refine Zi3 r1 (fun hne=>?_) fun he=>?_
  ·obtain ⟨c,l',rfl⟩:=List.exists_cons_of_ne_nil hne
   refine ZjL r1 (Zc4 r1 fun n hn=>⟨c,by omega,by rw [Int.toNat_natCast];exact hn.head,?_⟩)
   refine ⟨(Lib.indexByte [32,9,10,13] c,()),⟨by simp,rfl⟩,Zn (fun hb=>?_) fun hb=>?_⟩
   ·refine XX r1 fun h2 r2 u2 z2=>⟨⟨l',r2,?_,u1.trans u2,z2.trans z1⟩,?_⟩
    ·rw [← e1]
     unfold Z4
     rw [List.dropWhile_cons_of_pos ((Zkl c).1 hb)]
    ·rw [r1.left,r2.left];simp
   ·refine hk h1 ?_ u1 z1
    have:Z1 c=false:=by
      cases hc:Z1 c
      ·rfl
      ·exact absurd ((Zkl c).2 hc) hb
    rw [← e1]
    unfold Z4
    rw [List.dropWhile_cons_of_neg (by simp [this])]
    exact r1
  ·subst he
   refine hk h1 ?_ u1 z1
   rw [← e1]
   exact r1
theorem Ze3 {h:Zc} {b:Nat} {l:List Value} (hb:obj h b=some (.cells l.toArray 33 (0,0))) (hl:l.length=4) {k:Int} {t:ByteArray} {x y:Sl} {K:(Int × ByteArray × Sl × Sl × Unit)→HP}
    (hk:∀ h',Upd (· = b) h h'→sz h'=sz h→K (k,t,x,y,()) h') :
    sts h b 0 [.int .u8 k,.string t,.slice x.ptr x.len x.cap,.slice y.ptr y.len y.cap] fun h83 =>
      ldI h83 b 0 .u8 fun t84=>ldS h83 b (0+1) fun t85=>ldL h83 b (0+2) fun t86=>ldL h83 b (0+3) fun t87=>K (t84,t85,t86,t87,()) h83:=by
  obtain ⟨a0,a1,a2,a3,rfl⟩:∃ a0 a1 a2 a3,l=[a0,a1,a2,a3]:=by
    rcases l with _ | ⟨a0,_ | ⟨a1,_ | ⟨a2,_ | ⟨a3,_ | ⟨a4,l⟩⟩⟩⟩⟩<;>simp at hl
    exact ⟨a0,a1,a2,a3,rfl⟩
  rw [Zh4 (by rw [hb,Za8];rfl) (by rfl)]
  have hc:obj (h.puts b 0 [.int .u8 k,.string t,.slice x.ptr x.len x.cap,.slice y.ptr y.len y.cap]) b=some (.cells [.int .u8 k,.string t,.slice x.ptr x.len x.cap,.slice y.ptr y.len y.cap].toArray 33 (0,0)):=by
    rw [X3,if_pos rfl,hb,Y2];rfl
  refine rI (Zq hc rfl) (rS (Zq hc rfl) (rL (s:=x) (Zq hc rfl) (rL (s:=y) (Zq hc rfl) (hk _ ?_ Zcm))))
  exact Znq (Upd.refl _ _) (.inr rfl)
theorem UT {S T:Nat→Prop} {h0 h h':Zc} (u0:Upd S h0 h) (u:Upd T h h') (hT:∀ k,T k→S k∨sz h0≤k):Upd S h0 h' :=
  ⟨Nat.le_trans u0.size u.size,fun k hk hs=>(u.old k (Nat.lt_of_lt_of_le hk u0.size) fun t=>(hT k t).elim hs fun h9=>by have:sz h0=h0.size:=rfl;omega).trans (u0.old k hk hs)⟩
theorem UN {T:Nat→Prop} {h h1 h':Zc} (e:Ext h h1) (u:Upd T h1 h'):Upd T h h':=UT (e.upd T) u fun _ t=> .inl t
theorem Zd0 {c d:UInt8} (h:(c.toNat:Int)≠(d.toNat:Int)):c≠d:=fun e=>h (by rw [e])
theorem ZdA {c d:UInt8} (h:(c.toNat:Int)=(d.toNat:Int)):c=d:=UInt8.toNat_inj.1 (by omega)
theorem ZdO {a b:Int} {A B:Prop} (h1:a≠b→A) (h2:a=b→B):ZD (a !=b) A B:=⟨fun e=>h1 (by simpa using e),fun e=>h2 (by simpa using e)⟩
theorem YM {a b:Int} {A B:Prop} (h1:a=b→A) (h2:a≠b→B):ZD (a ==b) A B:=⟨fun e=>h1 (by simpa using e),fun e=>h2 (by simpa using e)⟩
theorem ZeV {h:Zc} {R:Nat} {s:ByteArray} {l:BL} (hr:Rd h R s l) {w:ByteArray} {wl:BL} (hw:w.data.toList=wl) (hs:w.size≤10) {k:Int} {K:(Int × ByteArray × Sl × Sl × Unit)→HP} {P:Value→HP}
    (hok:∀ r h',Zbb wl l = .ok () r→Rd h' R s r→Upd (· = R) h h'→K (k,ByteArray.mk #[],⟨none,0,0⟩,⟨none,0,0⟩,()) h') (herr:OnE h R s (· = R) (Zbb wl l) P):YL (At R) w k K P h:=by
  unfold YL X9
  have hR:=hr.lt
  have hwl:wl.length=w.size:=by rw [← hw];simp
  refine Zce fun h1 c1 e1 z1=>?_
  have r1:=hr.ext e1
  refine Ya (fun p h'=>∃ (n:Nat) (l':BL),p.1=n∧n≤w.size∧Rd h' R s l'∧Zbb (wl.drop n) l'=Zbb wl l∧Upd (· = R) h1 h') (fun p _=>w.size - p.1.toNat) ⟨0,l,rfl,Nat.zero_le _,r1,rfl,Upd.refl _ _⟩ ?_
  rintro ⟨i,u⟩ h2 ⟨n,l2,hi,hn,r2,q2,u2⟩
  dsimp only at hi
  subst hi
  dsimp only
  refine Zn (fun hlt=>Za (ZfJ ?_)) fun hge=>?_
  ·have hn':n<wl.length:=by omega
   have hd:wl.drop n=wl[n]::wl.drop (n+1):=List.drop_eq_getElem_cons hn'
   have hx:w[n]?=some wl[n]:=by
     subst hw
     rw [getElem?_pos w n (by omega)]
     simp
     rfl
   refine ZqN r2 ⟨wl[n],by omega,by rw [Int.toNat_natCast];exact hx,?_⟩
   dsimp only
   rw [hd] at q2
   rcases l2 with _ | ⟨c,l2⟩
   ·have hfail:∀ e' r,(YP 20 ([]:BL):Out Unit) = .err e' r→r=[]→P (Zbg e' (s.size - r.length)) h2:=fun e' r he hr'=>herr e' r h2 (by rw [← q2,← he];rfl) (UN e1 u2)
    refine ZdO (fun _=>Xa r2 rfl hfail) fun _=>Zho r2 (fun _=>Xa r2 rfl hfail) fun hne=>absurd rfl hne
   ·refine ZdO (fun hne=>Xa (α:=Unit) r2 rfl fun e' r he hr'=>?_) fun heq=>Zho r2 (fun hl=>by cases hl) fun _=>XX r2 fun h3 r3 u3 z3=>?_
    ·refine herr e' r h2 ?_ (UN e1 u2)
     rw [← q2,← he]
     unfold Zbb
     rw [if_neg (Zd0 hne)]
     rfl
    ·rw [YI (by omega) (by omega)]
     refine ⟨⟨n+1,l2,rfl,by omega,r3,?_,u2.trans u3⟩,by omega⟩
     rw [← q2]
     conv=>rhs;unfold Zbb
     rw [if_pos (ZdA heq)]
  ·have hn':n=wl.length:=by omega
   subst hn'
   rw [List.drop_length] at q2
   have hb:obj h2 h.size=some (.cells zV.toArray 33 (0,0)):=Yk c1 u2 (show ¬ h.size=R from by have:sz h=h.size:=rfl;omega)
   refine Ze3 (x:=⟨none,0,0⟩) (y:=⟨none,0,0⟩) hb rfl fun h3 u3 z3=>hok l2 h3 (by rw [← q2];rfl) (r2.upd u3 (show ¬ R=h.size from by have:sz h=h.size:=rfl;omega)) ?_
   exact UT (UN e1 u2) u3 fun k hk=> .inr (by subst hk;exact Nat.le_refl _)
theorem ZaF {c:UInt8}:Xu c=true↔48≤c.toNat∧c.toNat≤57:=by unfold Xu;simp
theorem Zdt {h:Zc} {R:Nat} {s:ByteArray} {l:BL} (hr:Rd h R s l) {K:HP} {P:Value→HP}
    (hok:∀ r h',Z3 l = .ok () r→Rd h' R s r→Upd (· = R) h h'→K h') (herr:OnE h R s (· = R) (Z3 l) P):ZG (At R) K P h:=by
  unfold ZG XC
  refine ZfJ (Yq hr (Za ?_))
  have hfail:(∀ c l',l=c::l'→¬ Xu c=true)→∀ e' r,(YP 21 l:Out Unit) = .err e' r→r=l→P (Zbg e' (s.size - r.length)) h:=fun hc e' r he hr'=>herr e' r h (by
    rw [← he]
    rcases l with _ | ⟨c,l⟩
    ·rfl
    ·dsimp only [Z3]
     rw [if_neg (hc c l rfl)];rfl) (Upd.refl _ _)
  refine Zn (fun hlo=>Xa hr rfl (hfail ?_)) fun hlo=>Zn (fun hhi=>Xa hr rfl (hfail ?_)) fun hhi=>?_
  ·rintro c l' rfl hd
   have:=ZaF.1 hd
   simp only [Xg] at hlo
   omega
  ·rintro c l' rfl hd
   have:=ZaF.1 hd
   simp only [Xg] at hhi
   omega
  ·rcases l with _ | ⟨c,l⟩
   ·simp [Xg] at hlo
   ·simp only [Xg] at hlo hhi
    have hd:Xu c=true:=ZaF.2 (by omega)
    have hq:Z3 (c::l) = .ok () (l.dropWhile Xu):=by dsimp only [Z3];rw [if_pos hd]
    refine Yq hr (Za ?_)
    refine Ya (fun p h'=>∃ l',p.1=Xg l'∧Rd h' R s l'∧l'.dropWhile Xu=l.dropWhile Xu∧Upd (· = R) h h') (fun _ h'=>left h' R) ⟨c::l,rfl,hr,by rw [List.dropWhile_cons_of_pos hd],Upd.refl _ _⟩ ?_
    rintro ⟨i,u⟩ h1 ⟨l1,hi,r1,q1,u1⟩
    dsimp only at hi ⊢
    subst hi
    have fin:(∀ c l',l1=c::l'→¬ Xu c=true)→K h1:=fun hc=>hok _ h1 hq (by
      rw [← q1]
      rcases l1 with _ | ⟨d,l1⟩
      ·exact r1
      ·rw [List.dropWhile_cons_of_neg (by simpa using hc d l1 rfl)];exact r1) u1
    refine Zn (fun h48=>Zn (fun h57=>?_) fun h57=>fin ?_) fun h48=>fin ?_
    ·rcases l1 with _ | ⟨d,l1⟩
     ·simp [Xg] at h48
     ·simp only [Xg] at h48 h57
      have hd1:Xu d=true:=ZaF.2 (by omega)
      refine XX r1 fun h2 r2 u2 z2=>Yq r2 (Za ⟨⟨l1,rfl,r2,?_,u1.trans u2⟩,by rw [r1.left,r2.left];simp⟩)
      rw [← q1,List.dropWhile_cons_of_pos hd1]
    ·rintro d l' rfl hd
     have:=ZaF.1 hd
     simp only [Xg] at h57
     omega
    ·rintro d l' rfl hd
     have:=ZaF.1 hd
     simp only [Xg] at h48
     omega
theorem ZbU {l:BL} (c:UInt8) {n:Int} {A B:Prop} (h1:∀ l',l=c::l'→A) (h2:(∀ d l',l=d::l'→d≠c)→B) (hc:n=(c.toNat:Int):=by rfl) (h0:0<c.toNat:=by decide):ZD (Xg l ==n) A B:=by
  subst hc
  rcases l with _ | ⟨d,l⟩
  ·refine Zo ?_ (h2 fun d l' e=>by cases e)
   simp only [Xg,beq_eq_false_iff_ne,ne_eq]
   omega
  ·refine YM (fun e=>h1 l ?_) fun e=>h2 ?_
   ·simp only [Xg] at e
    rw [ZdA e]
   ·rintro d' l' e'
    cases e'
    exact Zd0 e
theorem ZdP {l:BL} (c:UInt8) {n:Int} {A B:Prop} (h1:(∀ d l',l=d::l'→d≠c)→A) (h2:∀ l',l=c::l'→B) (hc:n=(c.toNat:Int):=by rfl) (h0:0<c.toNat:=by decide):ZD (Xg l !=n) A B:=by
  subst hc
  rcases l with _ | ⟨d,l⟩
  ·refine Zp ?_ (h1 fun d l' e=>by cases e)
   simp only [Xg,bne_iff_ne,ne_eq]
   omega
  ·refine ZdO (fun e=>h1 ?_) fun e=>h2 l ?_
   ·rintro d' l' e'
    cases e'
    exact Zd0 e
   ·simp only [Xg] at e
    rw [ZdA e]
theorem Zi9 {h:Zc} {R:Nat} {s:ByteArray} {l:BL} (hr:Rd h R s l) {K:(Int × ByteArray × Sl × Sl × Unit)→HP} {P:Value→HP}
    (hok:∀ r h',ZcX l = .ok () r→Rd h' R s r→Upd (· = R) h h'→K (4,Zd (ZfY l r),⟨none,0,0⟩,⟨none,0,0⟩,()) h') (herr:OnE h R s (· = R) (ZcX l) P):Yg (At R) K P h:=by
  unfold Yg XA
  have hR:=hr.lt
  refine Zce fun h1 c1 e1 z1=>?_
  have r1:=hr.ext e1
  refine Zc4 r1 fun n0 g0=>Za ?_
  refine Zz (fun _ h'=>Rd h' R s (Zah l)∧Upd (· = R) h1 h') ?_ ?_
  ·rintro ⟨⟩ h2 ⟨r2,u2⟩
   refine Zz (fun _ h'=>∃ l1,Zez (Zah l) = .ok () l1∧Rd h' R s l1∧Upd (· = R) h1 h') ?_ ?_
   ·rintro ⟨⟩ h3 ⟨l1,q1,r3,u3⟩
    refine Zz (fun _ h'=>∃ l2,ZcL l1 = .ok () l2∧Rd h' R s l2∧Upd (· = R) h1 h') ?_ ?_
    ·rintro ⟨⟩ h4 ⟨l2,q2,r4,u4⟩
     refine Zz (fun _ h'=>∃ l3,ZeM l2 = .ok () l3∧Rd h' R s l3∧Upd (· = R) h1 h') ?_ ?_
     ·rintro ⟨⟩ h5 ⟨l3,q3,r5,u5⟩
      have hq:ZcX l = .ok () l3:=by unfold ZcX;rw [q1];dsimp only [Out.bind_ok];rw [q2];exact q3
      have hsuf:=ZnQ hq
      obtain ⟨_,n5,b5,g5⟩:=id r5
      refine ZN (ZN (rS (Zq b5 rfl) (rI (Zq b5 rfl) ?_)))
      have hle:n0≤n5:=by have:=g0.len;have:=g5.len;have:=hsuf.length_le;omega
      refine ⟨by omega,by omega,by have:=g5.len;omega,?_⟩
      rw [Int.toNat_natCast,Int.toNat_natCast,g0.extract g5 hle]
      have hb:obj h5 h.size=some (.cells zV.toArray 33 (0,0)):=Yk c1 u5 (show ¬ h.size=R from by have:sz h=h.size:=rfl;omega)
      refine Ze3 (x:=⟨none,0,0⟩) (y:=⟨none,0,0⟩) hb rfl fun h6 u6 z6=>hok l3 h6 hq (r5.upd u6 (show ¬ R=h.size from by have:sz h=h.size:=rfl;omega)) ?_
      exact UT (UN e1 u5) u6 fun k hk=> .inr (by subst hk;exact Nat.le_refl _)
     ·have er:∀ {l'},ZeM l2=Z3 l'→∀ {h5:Zc},Upd (· = R) h1 h5→OnE h5 R s (· = R) (Z3 l') P:=fun hq h5 u5 e r h6 he u6=>herr e r h6 (by unfold ZcX;rw [q1];dsimp only [Out.bind_ok];rw [q2];dsimp only [Out.bind_ok];rw [hq];exact he) (UN e1 (u5.trans u6))
      have dg:∀ {l':BL} {h5:Zc},Rd h5 R s l'→ZeM l2=Z3 l'→Upd (· = R) h1 h5→ZG (At R) (fun h'=>∃ l3,ZeM l2 = .ok () l3∧Rd h' R s l3∧Upd (· = R) h1 h') P h5:=fun r5 hq u5=>Zdt r5 (fun r h6 hd r6 u6=>⟨r,hq.trans hd,r6,u5.trans u6⟩) (er hq u5)
      have sg:∀ {l':BL} {h5:Zc} {A B C:Prop},Rd h5 R s l'→(∀ l'',l'=43::l''→A)→(∀ l'',l'=45::l''→B)→((∀ d l'',l'=d::l''→d≠43∧d≠45)→C)→ZD (Xg l' ==43) A (ZD (Xg l' ==45) B C):=fun {l' h5 A B C} r5 a b c =>
        ZbU 43 (fun l'' e=>a l'' e) fun n43=>ZbU 45 (fun l'' e=>b l'' e) fun n45=>c fun d l'' e=>⟨n43 d l'' e,n45 d l'' e⟩
      have go:∀ {c:UInt8} {l':BL},l2=c::l'→(c=101∨c=69)→∀ {l'':BL},Zd1 l'=l''→ZeM l2=Z3 l'':=fun {c l'} e he {l''} hs=>by
        subst e
        dsimp only [ZeM]
        rw [if_pos he,hs]
      have both:∀ {c:UInt8} {l':BL},l2=c::l'→(c=101∨c=69)→Ze (At R) fun b47 o48=>ldI h4 b47 (o48+1) .i64 fun t49=>Ze (At R) fun b50 o51=>st h4 b50 (o51+1) (.int .i64 (IntKind.wrap .i64 (t49+1))) fun h52 =>
          Zi (At R) (fun t53 h54=>ZA t53 fun c55=>ZD (c55 ==43) (Ze (At R) fun b56 o57=>ldI h54 b56 (o57+1) .i64 fun t58=>Ze (At R) fun b59 o60=>st h54 b59 (o60+1) (.int .i64 (IntKind.wrap .i64 (t58+1))) fun h61 =>
           ZG (At R) (fun h62=>∃ l3,ZeM l2 = .ok () l3∧Rd h62 R s l3∧Upd (· = R) h1 h62) P h61) (ZD (c55 ==45) (Ze (At R) fun b63 o64=>ldI h54 b63 (o64+1) .i64 fun t65=>Ze (At R) fun b66 o67=>st h54 b66 (o67+1) (.int .i64 (IntKind.wrap .i64 (t65+1))) fun h68 =>
           ZG (At R) (fun h69=>∃ l3,ZeM l2 = .ok () l3∧Rd h69 R s l3∧Upd (· = R) h1 h69) P h68) (ZG (At R) (fun h70=>∃ l3,ZeM l2 = .ok () l3∧Rd h70 R s l3∧Upd (· = R) h1 h70) P h54))) h52:=fun {c l'} e he=>by
        subst e
        refine XX r4 fun h5 r5 u5 z5=>Yq r5 (Za (sg r5 (fun l'' e'=>?_) (fun l'' e'=>?_) fun hn=>?_))
        ·subst e'
         exact XX r5 fun h6 r6 u6 z6=>dg r6 (go rfl he (by dsimp only [Zd1];rw [if_pos (.inl rfl)])) ((u4.trans u5).trans u6)
        ·subst e'
         exact XX r5 fun h6 r6 u6 z6=>dg r6 (go rfl he (by dsimp only [Zd1];rw [if_pos (.inr rfl)])) ((u4.trans u5).trans u6)
        ·refine dg r5 (go rfl he ?_) (u4.trans u5)
         rcases l' with _ | ⟨d,l'⟩
         ·rfl
         ·dsimp only [Zd1]
          rw [if_neg (by have:=hn d l' rfl;simp [this.1,this.2])]
      refine Yq r4 (Za (ZbU 101 (fun l' e=>both e (.inl rfl)) fun n101=>ZbU 69 (fun l' e=>both e (.inr rfl)) fun n69=>⟨l2,?_,r4,u4⟩))
      rcases l2 with _ | ⟨d,l2⟩
      ·rfl
      ·dsimp only [ZeM]
       rw [if_neg (by have:=n101 d l2 rfl;have:=n69 d l2 rfl;intro hh;rcases hh with hh | hh<;>contradiction)]
    ·refine Yq r3 (ZbU 46 (fun l' e=>?_) fun hn=>⟨l1,?_,r3,u3⟩)
     ·subst e
      refine XX r3 fun h4 r4 u4 z4=>Zdt r4 (fun r h5 hd r5 u5=>⟨r,hd,r5,(u3.trans u4).trans u5⟩) fun e r h5 he u5=>herr e r h5 (by unfold ZcX;rw [q1];dsimp only [Out.bind_ok];rw [show ZcL (46::l')=Z3 l' from rfl,he];rfl) (UN e1 ((u3.trans u4).trans u5))
     ·rcases l1 with _ | ⟨d,l1⟩
      ·rfl
      ·dsimp only [ZcL]
       rw [if_neg (hn d l1 rfl)]
   ·refine Yq r2 (ZbU 48 (fun l' e=>?_) fun hn=>?_)
    ·have hq:∀ {e r},Xx l' = .err e r→ZcX l = .err e r:=fun {e' r} hh=>by
       unfold ZcX
       rw [e,show Zez (48::l')=Xx l' from rfl,hh];rfl
     rw [e] at r2 ⊢
     refine XX r2 fun h3 r3 u3 z3=>Yq r3 (Za ?_)
     have fin:(∀ c l'',l'=c::l''→¬ Xu c=true)→∃ l1,Zez (48::l') = .ok () l1∧Rd h3 R s l1∧Upd (· = R) h1 h3:=fun hc=>⟨l',by
       rw [show Zez (48::l')=Xx l' from rfl]
       rcases l' with _ | ⟨d,l'⟩
       ·rfl
       ·dsimp only [Xx]
        rw [if_neg (hc d l' rfl)],r3,u2.trans u3⟩
     refine Zn (fun h48=>Zn (fun h57=>Xa (α:=Unit) r3 rfl fun e' r he hr'=>?_) fun h57=>fin ?_) fun h48=>fin ?_
     ·rcases l' with _ | ⟨d,l'⟩
      ·simp [Xg] at h48
      ·simp only [Xg] at h48 h57
       refine herr e' r h3 (hq ?_) (UN e1 (u2.trans u3))
       dsimp only [Xx]
       rw [if_pos (ZaF.2 (by omega)),← he];rfl
     ·rintro d l'' rfl hd
      have:=ZaF.1 hd
      simp only [Xg] at h57
      omega
     ·rintro d l'' rfl hd
      have:=ZaF.1 hd
      simp only [Xg] at h48
      omega
    ·have hq:Zez (Zah l)=Z3 (Zah l):=by
       generalize Zah l=lm at hn
       rcases lm with _ | ⟨d,lm⟩
       ·rfl
       ·dsimp only [Zez]
        rw [if_neg (hn d lm rfl)]
     exact Zdt r2 (fun r h3 hd r3 u3=>⟨r,hq.trans hd,r3,u2.trans u3⟩) fun e r h3 he u3=>herr e r h3 (by unfold ZcX;rw [hq,he];rfl) (UN e1 (u2.trans u3))
  ·refine Yq r1 (ZbU 45 (fun l' e=>?_) fun hn=>?_)
   ·subst e
    exact XX r1 fun h2 r2 u2 z2=>⟨r2,u2⟩
   ·have hm:Zah l=l:=by
      rcases l with _ | ⟨d,l⟩
      ·rfl
      ·dsimp only [Zah]
       rw [if_neg (hn d l rfl)]
    exact ⟨by rw [hm];exact r1,Upd.refl _ _⟩
end Go.Proofs.YtpjbjdheeemdiaaGreatDoor
