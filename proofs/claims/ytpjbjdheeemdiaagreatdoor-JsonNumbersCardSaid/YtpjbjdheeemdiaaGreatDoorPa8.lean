/- That each function does what its model says. Written by a program out of the translated functions. -/
import Derived.Test.YtpjbjdheeemdiaaGreatDoorProg
import Derived.KernelRfl
import Derived.Recover
import Derived.Tactics2
import Derived.Below
import Derived.Test.YtpjbjdheeemdiaaGreatDoorRows
import Derived.Deep.Slices
import Derived.ChangeSlices
import Derived.Test.YtpjbjdheeemdiaaGreatDoorPa7
set_option linter.unusedVariables false
set_option linter.unusedSimpArgs false
namespace Go.Proofs.YtpjbjdheeemdiaaGreatDoor
open Go Go.Fw
noncomputable section
theorem Zs:Tryz.prog.follows .mixedOrders=true:=by kernel_rfl
abbrev zk1 (f:zT1):Zj:=⟨[.one (.P)],[],fun t K _ h=>f t.1 (fun h=>K (()) h) h⟩
abbrev zc1 (f0:zT0):Cfg:=Z6 Tryz.prog [(171,⟨[.one (.S),.one (.I .u8)],[.one (.I .i64)],fun t K _ h=>f0 t.1 t.2.1 (fun r0 h=>K (r0,()) h) h⟩)] 32 [] [] [] Z8
theorem zr1 (f0:zT0):Yd (zc1 f0) Tryz.f97 (.block (.loop [] [] [(2,31)] (.leaf))) (zk1 (ZaZ f0)):=fun _ _ _ _=>by kernel_rfl
theorem zo1:Zt Tryz.prog 97 (zk1 ZH):=okF (zr1 Yq) Tryz.func97 Zs (ZM _ (.cons ZaT .nil) .nil .nil .nil (ZL _))
abbrev zk2 (f:zT2):Zj:=⟨[.one (.P)],[.one (.I .u8)],fun t K _ h=>f t.1 (fun r0 h=>K (r0,()) h) h⟩
abbrev zc2:Cfg:=Z6 Tryz.prog [] 22 [] [] [] Z8
theorem zr2:Yd (zc2) Tryz.f166 (.leaf) (zk2 ZbT):=fun _ _ _ _=>by kernel_rfl
theorem zo2:Zt Tryz.prog 166 (zk2 Zv):=okF (zr2) Tryz.func166 Zs (ZM _ .nil .nil .nil .nil (ZL _))
abbrev zk3 (f:zT3):Zj:=⟨[.one (.P),.one (.I .i64),.one (.I .i64)],[],fun t K Kp h=>f t.1 t.2.1 t.2.2.1 (fun h=>K (()) h) Kp h⟩
abbrev zc3:Cfg:=Z6 Tryz.prog [] 24 [] [] [] Z8
theorem zr3:Yd (zc3) Tryz.f98 (.leaf) (zk3 XQ):=fun _ _ _ _=>by kernel_rfl
theorem zo3:Zt Tryz.prog 98 (zk3 Zo):=okF (zr3) Tryz.func98 Zs (ZM _ .nil .nil .nil .nil (ZL _))
abbrev zk6 (f:zT6):Zj:=⟨[.one (.P),.one (.I .u8)],[.one (.V)],fun t K _ h=>f t.1 t.2.1 (fun r0 h=>K (r0,()) h) h⟩
abbrev zc6 (f5:zT5):Cfg:=Z6 Tryz.prog [(251,⟨[.one (.P)],[],fun t K _ h=>f5 t.1 (fun h=>K (()) h) h⟩)] 17 [] [] [] Z8
theorem zr6 (f5:zT5):Yd (zc6 f5) Tryz.f184 (.leaf) (zk6 (YJ f5)):=fun _ _ _ _=>by kernel_rfl
theorem zo6:Zt Tryz.prog 184 (zk6 Zz):=okF (zr6 ZK) Tryz.func184 Zs (ZM _ (.cons Xh .nil) .nil .nil .nil (ZL _))
abbrev zk7 (f:zT7):Zj:=⟨[.one (.P)],[.one (.I .i32)],fun t K Kp h=>f t.1 (fun r0 h=>K (r0,()) h) Kp h⟩
abbrev zc7 (f2:zT2) (f3:zT3):Cfg:=Z6 Tryz.prog [(166,zk2 f2),(98,zk3 f3)] 65 [] [] [] Z8
theorem zr7 (f2:zT2) (f3:zT3):Yd (zc7 f2 f3) Tryz.f297 (.seq (.leaf) (.seq (.leaf) (.seq (.seq (.leaf) (.block (.loop [3,5] [.one (.I .i32),.one (.I .i64)] [(4,4),(6,63)] (.seq (.leaf) (.seq (.leaf) (.seq (.block (.seq (.leaf) (.cut [3] [.one (.I .i32)] [(9,55)] (.block (.cut [15] [.one (.B)] [(16,21)] (.leaf) (.leaf))) (.leaf)))) (.leaf))))))) (.leaf)))) (zk7 (Zb7 f2 f3)):=fun _ _ _ _=>by kernel_rfl
theorem zo7:Zt Tryz.prog 297 (zk7 X4):=okF (zr7 Zv Zo) Tryz.func297 Zs (ZM _ (.cons zo2 (.cons zo3 .nil)) .nil .nil .nil (ZL _))
abbrev zk8 (f:zT8):Zj:=⟨[.one (.S),.one (.S)],[.one (.B)],fun t K _ h=>f t.1 t.2.1 (fun r0 h=>K (r0,()) h) h⟩
abbrev zc8:Cfg:=Z6 Tryz.prog [] 18 [] [] [] Z8
theorem zr8:Yd (zc8) Tryz.f249 (.leaf) (zk8 Yo):=fun _ _ _ _=>by kernel_rfl
theorem zo8:Zt Tryz.prog 249 (zk8 ZA):=okF (zr8) Tryz.func249 Zs (ZM _ .nil .nil .nil .nil (ZL _))
abbrev zk9 (f:zT9):Zj:=⟨[.one (.S),.one (.S)],[.one (.B)],fun t K _ h=>f t.1 t.2.1 (fun r0 h=>K (r0,()) h) h⟩
abbrev zc9 (f8:zT8):Cfg:=Z6 Tryz.prog [(249,zk8 f8)] 8 [] [] [] Z8
theorem zr9 (f8:zT8):Yd (zc9 f8) Tryz.f196 (.leaf) (zk9 (Zbg f8)):=fun _ _ _ _=>by kernel_rfl
theorem zo9:Zt Tryz.prog 196 (zk9 Xq):=okF (zr9 ZA) Tryz.func196 Zs (ZM _ (.cons zo8 .nil) .nil .nil .nil (ZL _))
abbrev ZwF (f:ZuG):Zj:=⟨[.one (.L),.one (.I .i32)],[.one (.L)],fun t K _ h=>f t.1 t.2.1 (fun r0 h=>K (r0,()) h) h⟩
abbrev ZAR:Cfg:=Z6 Tryz.prog [] 78 [] [] [] Z8
theorem ZyN:Yd (ZAR) Tryz.f325 (.seq (.leaf) (.seq (.leaf) (.block (.seq (.leaf) (.cond (.leaf) (.cut [25] [.one (.B)] [(26,33)] (.leaf) (.leaf))))))) (ZwF YI):=fun _ _ _ _=>by kernel_rfl
theorem ZzK:Zt Tryz.prog 325 (ZwF Yh):=okF (ZyN) Tryz.func325 Zs (ZM _ .nil .nil .nil .nil (ZL _))
abbrev ZwE (f:ZuF):Zj:=⟨[.one (.L),.one (.I .i32)],[.one (.L)],fun t K _ h=>f t.1 t.2.1 (fun r0 h=>K (r0,()) h) h⟩
abbrev ZAQ (f10:ZuG):Cfg:=Z6 Tryz.prog [(325,ZwF f10)] 16 [] [] [] Z8
theorem ZyM (f10:ZuG):Yd (ZAQ f10) Tryz.f309 (.leaf) (ZwE (XV f10)):=fun _ _ _ _=>by kernel_rfl
theorem ZzJ:Zt Tryz.prog 309 (ZwE Yy):=okF (ZyM Yh) Tryz.func309 Zs (ZM _ (.cons ZzK .nil) .nil .nil .nil (ZL _))
abbrev ZwD (f:ZuE):Zj:=⟨[.one (.P),.one (.I .i32)],[.one (.I .i64),.one (.V)],fun t K _ h=>f t.1 t.2.1 (fun r0 r1 h=>K (r0,r1,()) h) h⟩
abbrev ZAP (f5:zT5) (f11:ZuF):Cfg:=Z6 Tryz.prog [(251,⟨[.one (.P)],[],fun t K _ h=>f5 t.1 (fun h=>K (()) h) h⟩),(309,ZwE f11)] 30 [] [] [] Z8
theorem ZyL (f5:zT5) (f11:ZuF):Yd (ZAP f5 f11) Tryz.f255 (.leaf) (ZwD (Xw f5 f11)):=fun _ _ _ _=>by kernel_rfl
theorem ZzI:Zt Tryz.prog 255 (ZwD Yr):=okF (ZyL ZK Yy) Tryz.func255 Zs (ZM _ (.cons Xh (.cons ZzJ .nil)) .nil .nil .nil (ZL _))
abbrev ZwC (f:ZuD):Zj:=⟨[.one (.P),.one (.P)],[],fun t K Kp h=>f t.1 t.2.1 (fun h=>K (()) h) Kp h⟩
abbrev ZAO (f2:zT2) (f0:zT0) (f6:zT6) (f3:zT3) (f7:zT7) (f9:zT9) (f12:ZuE):Cfg:=Z6 Tryz.prog [(166,zk2 f2),(171,⟨[.one (.S),.one (.I .u8)],[.one (.I .i64)],fun t K _ h=>f0 t.1 t.2.1 (fun r0 h=>K (r0,()) h) h⟩),(184,zk6 f6),(98,zk3 f3),(297,zk7 f7),(196,zk9 f9),(255,ZwD f12)] 114 [] [] [] Z8
theorem ZyK (f2:zT2) (f0:zT0) (f6:zT6) (f3:zT3) (f7:zT7) (f9:zT9) (f12:ZuE):Yd (ZAO f2 f0 f6 f3 f7 f9 f12) Tryz.f240 (.seq (.leaf) (.cut [] [] [(5,5),(11,37)] (.leaf) (.cut [] [] [(38,45)] (.leaf) (.seq (.leaf) (.seq (.leaf) (.cut [] [] [(7,8),(55,104)] (.cut [72] [.one (.B)] [(55,71)] (.leaf) (.leaf)) (.cut [6] [.one (.I .i32)] [(105,110)] (.leaf) (.leaf)))))))) (ZwC (ZaX f2 f0 f6 f3 f7 f9 f12)):=fun _ _ _ _=>by kernel_rfl
theorem ZzH:Zt Tryz.prog 240 (ZwC Xe):=okF (ZyK Zv Yq Zz Zo X4 Xq Yr) Tryz.func240 Zs (ZM _ (.cons zo2 (.cons ZaT (.cons zo6 (.cons zo3 (.cons zo7 (.cons zo9 (.cons ZzI .nil))))))) .nil .nil .nil (ZL _))
abbrev ZwB (f:ZuC):Zj:=⟨[.one (.S)],[.one (.B)],fun t K _ h=>f t.1 (fun r0 h=>K (r0,()) h) h⟩
abbrev ZAN (f14:ZwL) (f15:Zor):Cfg:=Z6 Tryz.prog [(323,⟨[.one (.S)],[.one (.I .i64)],fun t K _ h=>f14 t.1 (fun r0 h=>K (r0,()) h) h⟩),(163,⟨[.one (.S)],[.one (.B)],fun t K _ h=>f15 t.1 (fun r0 h=>K (r0,()) h) h⟩)] 64 [] [] [] Z8
theorem ZyJ (f14:ZwL) (f15:Zor):Yd (ZAN f14 f15) Tryz.f298 (.seq (.leaf) (.seq (.seq (.leaf) (.block (.loop [11] [.one (.I .i64)] [(2,2),(4,8),(12,56)] (.seq (.leaf) (.seq (.leaf) (.seq (.block (.seq (.leaf) (.seq (.seq (.leaf) (.block (.loop [5] [.one (.I .i64)] [(2,2),(6,7),(17,36)] (.leaf)))) (.leaf)))) (.leaf))))))) (.leaf))) (ZwB (Zdy f14 f15)):=fun _ _ _ _=>by kernel_rfl
theorem ZzG:Zt Tryz.prog 298 (ZwB ZbL):=okF (ZyJ Ym ZJ) Tryz.func298 Zs (ZM _ (.cons ZbH (.cons YG .nil)) .nil .nil .nil (ZL _))
abbrev ZtW (f:ZoA):Zj:=⟨[.one (.P),.one (.S)],[.one (.I .i64),.one (.V)],fun t K _ h=>f t.1 t.2.1 (fun r0 r1 h=>K (r0,r1,()) h) h⟩
abbrev ZAM (f5:zT5):Cfg:=Z6 Tryz.prog [(251,⟨[.one (.P)],[],fun t K _ h=>f5 t.1 (fun h=>K (()) h) h⟩)] 19 [] [] [] Z8
theorem ZyI (f5:zT5):Yd (ZAM f5) Tryz.f183 (.leaf) (ZtW (Yz f5)):=fun _ _ _ _=>by kernel_rfl
theorem ZvV:Zt Tryz.prog 183 (ZtW Zx):=okF (ZyI ZK) Tryz.func183 Zs (ZM _ (.cons Xh .nil) .nil .nil .nil (ZL _))
abbrev ZwA (f:ZuB):Zj:=⟨[.one (.P),.one (.P)],[],fun t K Kp h=>f t.1 t.2.1 (fun h=>K (()) h) Kp h⟩
abbrev ZAL (f3:zT3) (f16:ZuC) (f15:Zor) (f17:ZoA):Cfg:=Z6 Tryz.prog [(98,zk3 f3),(298,ZwB f16),(163,⟨[.one (.S)],[.one (.B)],fun t K _ h=>f15 t.1 (fun r0 h=>K (r0,()) h) h⟩),(183,ZtW f17)] 67 [] [] [] Z8
theorem ZyH (f3:zT3) (f16:ZuC) (f15:Zor) (f17:ZoA):Yd (ZAL f3 f16 f15 f17) Tryz.f241 (.seq (.leaf) (.block (.loop [4] [.one (.I .i64)] [(5,66)] (.seq (.block (.cut [] [] [(8,26)] (.leaf) (.seq (.leaf) (.cut [] [] [(42,53)] (.leaf) (.leaf))))) (.leaf))))) (ZwA (Zbl f3 f16 f15 f17)):=fun _ _ _ _=>by kernel_rfl
theorem ZzF:Zt Tryz.prog 241 (ZwA Xt):=okF (ZyH Zo ZbL ZJ Zx) Tryz.func241 Zs (ZM _ (.cons zo3 (.cons ZzG (.cons YG (.cons ZvV .nil)))) .nil .nil .nil (ZL _))
abbrev ZvJ (f:Zr9):Zj:=⟨[.one (.P)],[.one (.S)],fun t K Kp h=>f t.1 (fun r0 h=>K (r0,()) h) Kp h⟩
abbrev ZAK (f2:zT2) (f3:zT3) (f4:zT4) (f13:ZuD) (f6:zT6) (f18:ZuB):Cfg:=Z6 Tryz.prog [(166,zk2 f2),(98,zk3 f3),(115,⟨[.one (.P)],[.one (.S)],fun t K _ h=>f4 t.1 (fun r0 h=>K (r0,()) h) h⟩),(240,ZwC f13),(184,zk6 f6),(241,ZwA f18)] 72 [] [] [] Z8
theorem ZyG (f2:zT2) (f3:zT3) (f4:zT4) (f13:ZuD) (f6:zT6) (f18:ZuB):Yd (ZAK f2 f3 f4 f13 f6 f18) Tryz.f168 (.seq (.leaf) (.seq (.leaf) (.seq (.leaf) (.block (.loop [] [] [(2,2),(4,4),(12,71)] (.block (.seq (.leaf) (.block (.cut [16] [.one (.B)] [(17,30)] (.leaf) (.leaf)))))))))) (ZvJ (ZbR f2 f3 f4 f13 f6 f18)):=fun _ _ _ _=>by kernel_rfl
theorem Zxv:Zt Tryz.prog 168 (ZvJ YH):=okF (ZyG Zv Zo Yl Xe Zz Xt) Tryz.func168 Zs (ZM _ (.cons zo2 (.cons zo3 (.cons Za5 (.cons ZzH (.cons zo6 (.cons ZzF .nil)))))) .nil .nil .nil (ZL _))
abbrev ZqI (f:Zjl):Zj:=⟨[.one (.P),.one (.I .i64)],[.agg [.I .u8,.S,.L,.L]],fun t K Kp h=>f t.1 t.2.1 (fun r0 h=>K (r0,()) h) Kp h⟩
abbrev Zwz (f:ZuA):Zj:=⟨[.one (.P),.one (.P),.one (.I .i64)],[],fun t K Kp h=>f t.1 t.2.1 t.2.2.1 (fun h=>K (()) h) Kp h⟩
abbrev ZAI (f1:zT1) (f2:zT2) (f3:zT3) (f19:Zr9) (f20:Zjl):Cfg:=Z6 Tryz.prog [(97,zk1 f1),(166,zk2 f2),(98,zk3 f3),(168,ZvJ f19),(96,ZqI f20)] 66 [] [] [] Z8
theorem ZyE (f1:zT1) (f2:zT2) (f3:zT3) (f19:Zr9) (f20:Zjl):Yd (ZAI f1 f2 f3 f19 f20) Tryz.f239 (.seq (.leaf) (.cut [] [] [(8,50)] (.seq (.leaf) (.cond (.cut [] [] [(13,21)] (.leaf) (.seq (.order (.take 0 (.take 1 (.take 2 (.take 3 (.take 5 (.take 4 (.take 6 (.take 7 (.take 8 (.take 9 (.take 10 (.take 11 .done))))))))))))) (.seq (.leaf) (.cut [] [] [(35,43)] (.leaf) (.leaf))))) (.leaf))) (.seq (.order (.take 0 (.take 1 (.take 2 (.take 4 (.take 5 (.take 3 (.take 7 (.fork 6 (.take 8 (.take 9 (.take 10 (.take 12 (.take 13 (.fork 11 (.take 14 .done) 14 (.take 11 .done))))))) 8 (.take 6 (.take 9 (.take 10 (.take 12 (.take 13 (.fork 11 (.take 14 .done) 14 (.take 11 .done)))))))))))))))) (.leaf)))) (Zwz (ZbS f1 f2 f3 f19 f20)):=fun _ _ _ _=>by kernel_rfl
theorem Zy0 (f20:Zjl) (hH:Zt Tryz.prog 96 (ZqI f20)):Zt Tryz.prog 239 (Zwz (XL f20)):=okF (ZyE ZH Zv Zo YH f20) Tryz.func239 Zs (ZM _ (.cons zo1 (.cons zo2 (.cons zo3 (.cons Zxv (.cons hH .nil))))) .nil .nil .nil (ZL _)) (hlen:=Nat.le_of_ble_eq_true rfl)
abbrev Zwy (f:Zuz):Zj:=⟨[.one (.P),.one (.I .u8),.one (.I .u8),.one (.I .i64)],[.agg [.I .u8,.S,.L,.L]],fun t K Kp h=>f t.1 t.2.1 t.2.2.1 t.2.2.2.1 (fun r0 h=>K (r0,()) h) Kp h⟩
abbrev ZAH (f3:zT3) (f1:zT1) (f2:zT2) (f21:ZuA):Cfg:=Z6 Tryz.prog [(98,zk3 f3),(97,zk1 f1),(166,zk2 f2),(239,Zwz f21)] 77 [] [] [] Z8
theorem ZyD (f3:zT3) (f1:zT1) (f2:zT2) (f21:ZuA):Yd (ZAH f3 f1 f2 f21) Tryz.f167 (.seq (.leaf) (.cut [] [] [(10,17)] (.leaf) (.seq (.leaf) (.seq (.leaf) (.seq (.leaf) (.seq (.block (.loop [] [] [(29,68)] (.cut [] [] [(29,44)] (.leaf) (.block (.cut [] [] [(45,64)] (.seq (.leaf) (.cond (.cut [] [] [(49,57)] (.leaf) (.leaf)) (.leaf))) (.leaf)))))) (.leaf))))))) (Zwy (Zaf f3 f1 f2 f21)):=fun _ _ _ _=>by kernel_rfl
theorem ZyZ (f20:Zjl) (hH:Zt Tryz.prog 96 (ZqI f20)):Zt Tryz.prog 167 (Zwy (Yp f20)):=okF (ZyD Zo ZH Zv (XL f20)) Tryz.func167 Zs (ZM _ (.cons zo3 (.cons zo1 (.cons zo2 (.cons (Zy0 f20 hH) .nil)))) .nil .nil .nil (ZL _)) (hlen:=Nat.le_of_ble_eq_true rfl)
abbrev Zwx (f:Zuy):Zj:=⟨[.one (.P),.one (.S),.one (.I .u8)],[.agg [.I .u8,.S,.L,.L]],fun t K Kp h=>f t.1 t.2.1 t.2.2.1 (fun r0 h=>K (r0,()) h) Kp h⟩
abbrev ZAG (f2:zT2) (f3:zT3):Cfg:=Z6 Tryz.prog [(166,zk2 f2),(98,zk3 f3)] 47 [] [] [] Z8
theorem ZyC (f2:zT2) (f3:zT3):Yd (ZAG f2 f3) Tryz.f169 (.seq (.leaf) (.seq (.seq (.leaf) (.block (.loop [10] [.one (.I .i64)] [(7,7),(11,44)] (.seq (.leaf) (.seq (.leaf) (.seq (.block (.seq (.leaf) (.cut [] [] [(13,36)] (.leaf) (.leaf)))) (.leaf))))))) (.leaf))) (Zwx (ZbQ f2 f3)):=fun _ _ _ _=>by kernel_rfl
theorem ZzD:Zt Tryz.prog 169 (Zwx XN):=okF (ZyC Zv Zo) Tryz.func169 Zs (ZM _ (.cons zo2 (.cons zo3 .nil)) .nil .nil .nil (ZL _))
abbrev Zww (f:Zux):Zj:=⟨[.one (.P)],[],fun t K Kp h=>f t.1 (fun h=>K (()) h) Kp h⟩
abbrev ZAF (f2:zT2) (f3:zT3):Cfg:=Z6 Tryz.prog [(166,zk2 f2),(98,zk3 f3)] 35 [] [] [] Z8
theorem ZyB (f2:zT2) (f3:zT3):Yd (ZAF f2 f3) Tryz.f242 (.cut [] [] [(2,2),(4,17)] (.leaf) (.seq (.leaf) (.block (.loop [3] [.one (.I .u8)] [(20,34)] (.leaf))))) (Zww (ZaY f2 f3)):=fun _ _ _ _=>by kernel_rfl
theorem ZzC:Zt Tryz.prog 242 (Zww Z3):=okF (ZyB Zv Zo) Tryz.func242 Zs (ZM _ (.cons zo2 (.cons zo3 .nil)) .nil .nil .nil (ZL _))
abbrev Zwv (f:Zuw):Zj:=⟨[.one (.P)],[.agg [.I .u8,.S,.L,.L]],fun t K Kp h=>f t.1 (fun r0 h=>K (r0,()) h) Kp h⟩
abbrev ZAE (f2:zT2) (f3:zT3) (f24:Zux):Cfg:=Z6 Tryz.prog [(166,zk2 f2),(98,zk3 f3),(242,Zww f24)] 102 [] [] [] Z8
theorem ZyA (f2:zT2) (f3:zT3) (f24:Zux):Yd (ZAE f2 f3 f24) Tryz.f170 (.seq (.leaf) (.seq (.leaf) (.cut [] [] [(11,20)] (.leaf) (.cut [] [] [(4,4),(21,46)] (.leaf) (.cut [] [] [(47,58)] (.leaf) (.cut [] [] [(5,6),(59,90)] (.leaf) (.seq (.order (.take 0 (.take 1 (.take 2 (.take 4 (.take 5 (.take 6 (.take 7 (.take 3 (.take 8 (.take 9 (.take 10 (.take 11 .done))))))))))))) (.leaf)))))))) (Zwv (ZaW f2 f3 f24)):=fun _ _ _ _=>by kernel_rfl
theorem ZzB:Zt Tryz.prog 170 (Zwv YO):=okF (ZyA Zv Zo Z3) Tryz.func170 Zs (ZM _ (.cons zo2 (.cons zo3 (.cons ZzC .nil))) .nil .nil .nil (ZL _))
abbrev ZAJ (f1:zT1) (f2:zT2) (f3:zT3) (f22:Zuz) (f19:Zr9) (f23:Zuy) (f25:Zuw):Cfg:=Z6 Tryz.prog [(97,zk1 f1),(166,zk2 f2),(98,zk3 f3),(167,Zwy f22),(168,ZvJ f19),(169,Zwx f23),(170,Zwv f25)] 80 [] [] [] Z8
theorem ZyF (f1:zT1) (f2:zT2) (f3:zT3) (f22:Zuz) (f19:Zr9) (f23:Zuy) (f25:Zuw):Yd (ZAJ f1 f2 f3 f22 f19 f23 f25) Tryz.f96 (.seq (.leaf) (.seq (.leaf) (.cut [] [] [(5,5),(8,72)] (.leaf) (.leaf)))) (ZqI (Zbk f1 f2 f3 f22 f19 f23 f25)):=fun _ _ _ _=>by kernel_rfl
theorem Zy1 (f20:Zjl) (hH:Zt Tryz.prog 96 (ZqI f20)):Zt Tryz.prog 96 (ZqI (Zab f20)):=okF (ZyF ZH Zv Zo (Yp f20) YH XN YO) Tryz.func96 Zs (ZM _ (.cons zo1 (.cons zo2 (.cons zo3 (.cons (ZyZ f20 hH) (.cons Zxv (.cons ZzD (.cons ZzB .nil))))))) .nil .nil .nil (ZL _)) (hlen:=Nat.le_of_ble_eq_true rfl)
theorem Zxm:∀ n,Zt Tryz.prog 96 (ZqI (YE n))
 | 0=>Ze8 Tryz.func96 (by kernel_rfl) (by kernel_rfl) fun _ _ _ _ h=>h
 | n+1=>Zy1 _ (Zxm n)
theorem ZzE:Zt Tryz.prog 96 (ZqI Zae):=ZlS Zxm
def sq1:Code→Code
  | .seq x _=>x
  | c=>c
def sq2:Code→Code
  | .seq _ y=>y
  | c=>c
def Zrf:Code:=Tryz.f25.body.getD .skip
def pA:Code:=sq1 Zrf
def pB:Code:=sq1 (sq2 Zrf)
def pR:Code:=sq2 (sq2 (sq2 Zrf))
def pD:Code:=sq1 (sq2 (sq2 Zrf))
theorem Zre:Tryz.f25.body=some (.seq pA (.seq pB (.seq pD pR))):=by kernel_rfl
abbrev ZkH:List VT:=[.agg [.I .u8,.S,.L,.L],.one (.I .i64),.one (.I .i64)]
def Zrg (p:Value→HP):Cfg:={ Z6 Tryz.prog [(96,ZqI Zae),(97,zk1 ZH),(98,zk3 Zo)] 32 [] [] [] Z8 with pan:=p,rnd:=none }
theorem ZlP (p:Value→HP):(Zrg p).OK:=(ZM (Z6 Tryz.prog [(96,ZqI Zae),(97,zk1 ZH),(98,zk3 Zo)] 32 [] [] [] Z8) (.cons ZzE (.cons zo1 (.cons zo3 .nil))) .nil .nil .nil (ZL _)).at none p
def ZqK (K:YV ZkH→HP) (e:Env) (h:Ze):Prop:=Zos (Zrg fun _ _=>False) e h Tryz.f25.results.toList fun vs=>match YV.un ZkH vs with
  | some r=>K r h
  | none=>False
def ZtM (b2 b3 b4:Nat):Env:=⟨fun j=>bif Nat.beq j 2 then some (.adr b2 0) else bif Nat.beq j 3 then some (.adr b3 0) else bif Nat.beq j 4 then some (.adr b4 0) else none,.no⟩
def ZwP (b2 b3 b4:Nat) (E:HP) (v:Value) (h:Ze):Prop:=∃ e n,v = .iface 160 (.agg #[.int .i64 e,.int .i64 n])∧ZvO b2 b3 b4 e n E h
def clo (b2 b3 b4:Nat):Deferred:={ target:= .fn (.func 95) #[.pointer (some ⟨b2,0,none⟩),.pointer (some ⟨b3,0,none⟩),.pointer (some ⟨b4,0,none⟩)],args:= #[]}
def ZxB (e:Env) (b2 b3 b4:Nat):Env:=⟨fun j=>bif Nat.beq j 10 then none else e.f j,.raw [clo b2 b3 b4]⟩
def prd (s:ByteArray) (K:YV ZkH→HP) (h:Ze):Prop :=
  wpC (Zrg fun _ _=>False) (.seq pA pB) .leaf (Zfl [.val (.string s)]) h fun x e h'=>match x with
    | .ret=>ZqK K e h'
    | .normal=>match e.f 2,e.f 3,e.f 4 with
      | some (.adr b2 0),some (.adr b3 0),some (.adr b4 0)=>wpC (Zrg (ZwP b2 b3 b4 (ZqK K (ZtM b2 b3 b4)))) pR .leaf (ZxB e b2 b3 b4) h' fun x e2 h2=>match x with
          | .normal=>ZqK K e2 h2
          | .ret=>ZqK K e2 h2
          | .exit _=>False
      | _,_,_=>False
    | .exit _=>False
theorem ZlK {e:Env} {a:Act} {w:World} {K:YV ZkH→HP} (hag:∀ j v,e j=some v→a.tmps[j]?=some v.v) (h:ZqK K e w.heap):∃ v,(results Tryz.f25 a.tmps).run Tryz.prog w = .ok v w∧∃ r,v=Zsi ZkH r∧K r w.heap:=by
  have hag':Agr a.tmps.size ⟨e.f,.raw a.defers⟩ a:=⟨rfl,rfl,hag⟩
  have h':Zos { Zrg (fun _ _=>False) with n:=a.tmps.size } ⟨e.f,.raw a.defers⟩ w.heap Tryz.f25.results.toList fun vs=>match YV.un ZkH vs with
    | some r=>K r w.heap
    | none=>False:=h
  obtain ⟨vs,hr,hk⟩:=Zfv (c:={ Zrg (fun _ _=>False) with n:=a.tmps.size }) (f:=fun
    | .tmp t=>pure (a.tmps.getD t undef)
    | .cell x t=>do loadVar t (← asAddr (a.tmps.getD x undef))) hag' (fun _=>rfl) (fun _ _=>rfl) h'
  split at hk
  ·rename_i r hun
   refine ⟨Zsi ZkH r,?_,r,rfl,hk⟩
   unfold results
   rw [Array.mapM_eq_mapM_toList]
   simp only [Sem.run_bind,Sem.run_map]
   refine (congrArg (fun r=>(Result.andThen (Result.andThen r _) _)) hr).trans ?_
   simp only [Result.andThen_ok,Sem.run_pure]
   rw [Zpg hun]
   exact congrArg (fun v=>Result.ok v w) (Zku _)
  ·exact hk.elim
def Zvr:Code:=Tryz.f95.body.getD .skip
def cl1:Code:=sq1 Zvr
def cl2:Code:=sq2 Zvr
theorem Znj:Tryz.f95.body=some (.seq cl1 cl2):=by kernel_rfl
def ZvQ:Ann:= .block (.seq (.leaf) (.cond (.leaf) (.seq (.leaf) (.cond (.seq (.leaf) (.order (.take 0 (.take 1 (.take 3 (.take 2 (.take 4 (.take 5 (.take 6 (.take 7 .done)))))))))) (.leaf)))))
def Ztv:Cfg:={ Z6 Tryz.prog [] 17 [] [] [] Z8 with pan:=fun _ _=>False,rnd:=none }
theorem Zqo:Ztv.OK:=(ZM (Z6 Tryz.prog [] 17 [] [] [] Z8) .nil .nil .nil .nil (ZL _)).at none _
def ptr (b:Nat):Value:= .pointer (some ⟨b,0,none⟩)
def ZtN (b2 b3 b4:Nat) (v:Value):Env:=⟨fun j=>bif Nat.beq j 0 then some (.val (.pointer (some ⟨b2,0,none⟩))) else bif Nat.beq j 1 then some (.val (.pointer (some ⟨b3,0,none⟩))) else bif Nat.beq j 2 then some (.val (.pointer (some ⟨b4,0,none⟩))) else bif Nat.beq j 6 then some (.val v) else none,.no⟩
theorem Zi8 {b2 b3 b4:Nat} {x:Value} {j:Nat} {v:EV} (h:(ZtN b2 b3 b4 x).f j=some v):(j=0∧v = .val (ptr b2))∨(j=1∧v = .val (ptr b3))∨(j=2∧v = .val (ptr b4))∨(j=6∧v = .val x):=by
  unfold ZtN at h
  dsimp only at h
  cases h0:Nat.beq j 0 with
  | true=>rw [h0] at h;cases h;exact .inl ⟨Nat.eq_of_beq_eq_true h0,rfl⟩
  | false =>
    rw [h0] at h
    cases h1:Nat.beq j 1 with
    | true=>rw [h1] at h;cases h;exact .inr (.inl ⟨Nat.eq_of_beq_eq_true h1,rfl⟩)
    | false =>
      rw [h1] at h
      cases h2:Nat.beq j 2 with
      | true=>rw [h2] at h;cases h;exact .inr (.inr (.inl ⟨Nat.eq_of_beq_eq_true h2,rfl⟩))
      | false =>
        rw [h2] at h
        cases h6:Nat.beq j 6 with
        | true=>rw [h6] at h;cases h;exact .inr (.inr (.inr ⟨Nat.eq_of_beq_eq_true h6,rfl⟩))
        | false=>rw [h6] at h;cases h
def Zri (E:HP):Ex→Env→Ze→Prop
  | .normal,_,h=>E h
  | _,_,_=>False
theorem rdC (b2 b3 b4:Nat) (e n:Int) (E:HP) (h:Ze):wpC Ztv cl2 ZvQ (ZtN b2 b3 b4 (.iface 160 (.agg #[.int .i64 e,.int .i64 n]))) h (Zri E)=ZvO b2 b3 b4 e n E h:=by kernel_rfl
theorem Zsx:cl1 = .region 0 #[⟨some 6,.call ⟨.builtin .recover,#[],#[]⟩,20, "json.go:273", #[],none⟩] false:=by kernel_rfl
theorem Zpx {l:List Nat} (h:Zh6 l mkN=false):mkN∉l:=by
  induction l with
  | nil=>intro h9;cases h9
  | cons x xs ih =>
    intro h9
    simp only [Zh6] at h
    cases hx:Nat.beq mkN x with
    | true=>rw [hx] at h;cases h
    | false =>
      rw [hx] at h
      rcases List.mem_cons.1 h9 with h9 | h9
      ·rw [← h9,Nat.beq_refl] at hx;cases hx
      ·exact ih h h9
set_option maxRecDepth 100000 in
theorem Zmf {b2 b3 b4:Nat} {e n:Int} {E:HP} {w:World} (hk:ZvO b2 b3 b4 e n E w.heap) :
    CallsD Tryz.prog 95 #[ptr b2,ptr b3,ptr b4] (.panicking [{ v:= .iface 160 (.agg #[.int .i64 e,.int .i64 n]),recovered:=false }]) w fun e' u' w' =>
      e' = .returned (.tuple #[])∧u' = .panicking [{ v:= .iface 160 (.agg #[.int .i64 e,.int .i64 n]),recovered:=true }]∧Fw.Same w w'∧E w'.heap:=by
  refine callsD_of_wpS Tryz.func95 Znj fun c₀ cs hu=>?_
  apply wpS_seq
  rw [Zsx]
  apply wpS_region
  simp [wpOpsS,go_sem,recoverD,hu,Tryz.ntmps95,Exit.thenS]
  refine wpS_of_wp ((wpIn_wide (n:=0)).1 (wpIn_mono (Xa cl2 Ztv Zqo Zs ZvQ (ZtN b2 b3 b4 (.iface 160 (.agg #[.int .i64 e,.int .i64 n]))) _ w (Zri E) ?_ (by rw [rdC];exact hk)) ?_))
  ·refine ⟨by simp [Ztv,Z6,ptr],rfl,fun j v hj=>?_⟩
   have hv:(j=0∧v = .val (ptr b2))∨(j=1∧v = .val (ptr b3))∨(j=2∧v = .val (ptr b4))∨(j=6∧v = .val (.iface 160 (.agg #[.int .i64 e,.int .i64 n]))):=Zi8 hj
   rcases hv with ⟨rfl,rfl⟩ | ⟨rfl,rfl⟩ | ⟨rfl,rfl⟩ | ⟨rfl,rfl⟩<;>simp [EV.v,Array.getElem?_append]
  ·intro ex a' w' hp
   cases ex with
   | normal =>
     obtain ⟨e',h1,h2,h3,h4⟩:=hp
     have hd:=h3.2 (Zpx (by kernel_rfl))
     exact ⟨hd,_,rfl,.tuple #[],by simp [results,Tryz.results95],rfl,rfl,h2,h4⟩
   | ret=>obtain ⟨e',h1,h2,h3,h4⟩:=hp;exact h4.elim
   | exit id=>obtain ⟨e',h1,h2,h3,h4⟩:=hp;exact h4.elim
   | goto t=>exact hp.elim
   | outgrown=>exact hp.elim
   | panic ch=>obtain ⟨v,h1,h2,h3,h4⟩:=hp;exact h4.elim
theorem rdN (b2 b3 b4:Nat) (E:HP) (h:Ze):wpC Ztv cl2 ZvQ (ZtN b2 b3 b4 .nilIface) h (Zri E)=(Zgq .nilIface fun b=>Zp b (E h) False):=by kernel_rfl
set_option maxRecDepth 100000 in
theorem Zn4 {b2 b3 b4:Nat} {w:World}:CallsD Tryz.prog 95 #[ptr b2,ptr b3,ptr b4] .returning w fun e' u' w'=>e' = .returned (.tuple #[])∧u' = .returning∧Fw.Same w w'∧w'.heap=w.heap:=by
  refine callsD_of_wpS Tryz.func95 Znj fun c₀ cs hu=>?_
  apply wpS_seq
  rw [Zsx]
  apply wpS_region
  simp [wpOpsS,go_sem,recoverD,hu,Tryz.ntmps95,Exit.thenS]
  refine wpS_of_wp ((wpIn_wide (n:=0)).1 (wpIn_mono (Xa cl2 Ztv Zqo Zs ZvQ (ZtN b2 b3 b4 .nilIface) _ w (Zri fun h=>h=w.heap) ?_ (by rw [rdN];exact .inl ⟨rfl,Zn rfl rfl⟩)) ?_))
  ·refine ⟨by simp [Ztv,Z6,ptr],rfl,fun j v hj=>?_⟩
   have hv:(j=0∧v = .val (ptr b2))∨(j=1∧v = .val (ptr b3))∨(j=2∧v = .val (ptr b4))∨(j=6∧v = .val .nilIface):=Zi8 hj
   rcases hv with ⟨rfl,rfl⟩ | ⟨rfl,rfl⟩ | ⟨rfl,rfl⟩ | ⟨rfl,rfl⟩<;>simp [EV.v,Array.getElem?_append]
  ·intro ex a' w' hp
   cases ex with
   | normal =>
     obtain ⟨e',h1,h2,h3,h4⟩:=hp
     have hd:=h3.2 (Zpx (by kernel_rfl))
     refine ⟨hd,.returning,?_,.tuple #[],by simp [results,Tryz.results95],rfl,rfl,h2,h4⟩
     cases c₀
     simp_all
   | ret=>obtain ⟨e',h1,h2,h3,h4⟩:=hp;exact h4.elim
   | exit id=>obtain ⟨e',h1,h2,h3,h4⟩:=hp;exact h4.elim
   | goto t=>exact hp.elim
   | outgrown=>exact hp.elim
   | panic ch=>obtain ⟨v,h1,h2,h3,h4⟩:=hp;exact h4.elim
theorem ZwR:pD = .region 3 #[⟨some 10,.makeFunc (.func 95) #[] #[.tmp 2,.tmp 3,.tmp 4],1, "json.go:272", #[],none⟩,⟨none,.defer ⟨.value (.tmp 10),#[],#[]⟩,0, "json.go:272", #[⟨0,.data⟩],none⟩] false:=by kernel_rfl
theorem wpD {a:Act} {w:World} {Q:Exit→Act→World→Prop} {b2 b3 b4:Nat} (h2:a.tmps[2]?=some (ptr b2)) (h3:a.tmps[3]?=some (ptr b3)) (h4:a.tmps[4]?=some (ptr b4)) (hd:a.defers=[]) (hs:a.tmps.size=32)
    (h:pR.wp Tryz.prog Q { tmps:=a.tmps.setIfInBounds 10 (.func (.func 95) #[] #[ptr b2,ptr b3,ptr b4]),defers:=[clo b2 b3 b4]} w):(Code.seq pD pR).wp Tryz.prog Q a w:=by
  apply wp_seq
  rw [ZwR]
  apply wp_region
  have hmf:∀ (fn:Fn) (first cap:Array Value) (w:World),(Instr.makeFunc fn first cap).run Tryz.prog w = .ok (.func fn first cap) w:=fun _ _ _ _=>rfl
  have e2:a.eval (.tmp 2)=ptr b2:=by simp [Act.eval,h2]
  have e3:a.eval (.tmp 3)=ptr b3:=by simp [Act.eval,h3]
  have e4:a.eval (.tmp 4)=ptr b4:=by simp [Act.eval,h4]
  have e10:({ tmps:=a.tmps.setIfInBounds 10 (.func (.func 95) #[] #[ptr b2,ptr b3,ptr b4]),defers:=[]}:Act).eval (.tmp 10) = .func (.func 95) #[] #[ptr b2,ptr b3,ptr b4]:=by simp [Act.eval,hs]
  obtain ⟨tm,df⟩:=a
  dsimp only at hd hs h2 h3 h4
  subst hd
  show wpOps _ _ _ [0,1] _ _
  simp [wpOps,go_sem,hmf,e2,e3,e4,e10,Exit.then]
  refine .inl (.inl ?_)
  have g2:tm[2]'(by omega)=ptr b2:=(Array.getElem?_eq_some_iff.1 h2).2
  have g3:tm[3]'(by omega)=ptr b3:=(Array.getElem?_eq_some_iff.1 h3).2
  have g4:tm[4]'(by omega)=ptr b4:=(Array.getElem?_eq_some_iff.1 h4).2
  simp [g2,g3,g4,hs,Oper.upon]
  exact h
theorem nR:Zh6 (Fw.dstsOf pR) mkN=false∧Zh6 (Fw.dstsOf pR) 2=false∧Zh6 (Fw.dstsOf pR) 3=false∧Zh6 (Fw.dstsOf pR) 4=false∧Zh6 (Fw.dstsOf pA) mkN=false∧Zh6 (Fw.dstsOf pB) mkN=false:=⟨by kernel_rfl,by kernel_rfl,by kernel_rfl,by kernel_rfl,by kernel_rfl,by kernel_rfl⟩
theorem Zce {l:List Nat} {j:Nat} (h:Zh6 l j=false):j∉l:=by
  induction l with
  | nil=>intro h9;cases h9
  | cons x xs ih =>
    intro h9
    simp only [Zh6] at h
    cases hx:Nat.beq j x with
    | true=>rw [hx] at h;cases h
    | false =>
      rw [hx] at h
      rcases List.mem_cons.1 h9 with h9 | h9
      ·rw [← h9,Nat.beq_refl] at hx;cases hx
      ·exact ih h h9
theorem Zoe {b2 b3 b4 j:Nat} {v:EV} (h:(ZtM b2 b3 b4).f j=some v):(j=2∧v = .adr b2 0)∨(j=3∧v = .adr b3 0)∨(j=4∧v = .adr b4 0):=by
  unfold ZtM at h
  dsimp only at h
  cases h0:Nat.beq j 2 with
  | true=>rw [h0] at h;cases h;exact .inl ⟨Nat.eq_of_beq_eq_true h0,rfl⟩
  | false =>
    rw [h0] at h
    cases h1:Nat.beq j 3 with
    | true=>rw [h1] at h;cases h;exact .inr (.inl ⟨Nat.eq_of_beq_eq_true h1,rfl⟩)
    | false =>
      rw [h1] at h
      cases h2:Nat.beq j 4 with
      | true=>rw [h2] at h;cases h;exact .inr (.inr ⟨Nat.eq_of_beq_eq_true h2,rfl⟩)
      | false=>rw [h2] at h;cases h
set_option maxRecDepth 100000 in
theorem Zqs {a:Act} {w w3:World} {K:YV ZkH→HP} {b2 b3 b4:Nat} {e3:Env} (hag:∀ j v,e3 j=some v→a.tmps[j]?=some v.v) (hd:a.defers=[clo b2 b3 b4]) (hs:Fw.Same w w3) (hk:ZqK K e3 w3.heap) :
    Leaves Tryz.prog Tryz.f25 a.tmps (Zch ZkH w K fun _ _=>False) a.defers .returning w3:=by
  rw [hd]
  unfold clo
  refine leaves_cons (f:=95) (args:= #[ptr b2,ptr b3,ptr b4]) (by simp) (by simp [go_sem,ptr]) (Zn4.mono ?_)
  rintro e u w4 ⟨rfl,rfl,h1,h2⟩
  have hk4:ZqK K e3 w4.heap:=by rw [h2];exact hk
  obtain ⟨v,hv,r,rfl,hr⟩:=ZlK hag hk4
  exact ⟨_,hv,.inl ⟨r,rfl,hs.trans h1,hr⟩⟩
set_option maxRecDepth 100000 in
theorem Zrh {a:Act} {w w3:World} {K:YV ZkH→HP} {b2 b3 b4:Nat} {v:Value} (h2:a.tmps[2]?=some (ptr b2)) (h3:a.tmps[3]?=some (ptr b3)) (h4:a.tmps[4]?=some (ptr b4)) (hd:a.defers=[clo b2 b3 b4]) (hs:Fw.Same w w3)
    (hk:ZwP b2 b3 b4 (ZqK K (ZtM b2 b3 b4)) v w3.heap):Leaves Tryz.prog Tryz.f25 a.tmps (Zch ZkH w K fun _ _=>False) a.defers (.panicking [{ v,recovered:=false }]) w3:=by
  obtain ⟨e,n,rfl,hc⟩:=hk
  rw [hd]
  unfold clo
  refine leaves_cons (f:=95) (args:= #[ptr b2,ptr b3,ptr b4]) (by simp) (by simp [go_sem,ptr]) ((Zmf hc).mono ?_)
  rintro e' u w4 ⟨rfl,rfl,g1,g2⟩
  have hag:∀ j v,(ZtM b2 b3 b4) j=some v→a.tmps[j]?=some v.v:=fun j v hj=>by
    have hv:(j=2∧v = .adr b2 0)∨(j=3∧v = .adr b3 0)∨(j=4∧v = .adr b4 0):=Zoe hj
    rcases hv with ⟨rfl,rfl⟩ | ⟨rfl,rfl⟩ | ⟨rfl,rfl⟩
    ·exact h2
    ·exact h3
    ·exact h4
  obtain ⟨v,hv,r,rfl,hr⟩:=ZlK hag g2
  exact ⟨_,hv,.inl ⟨r,rfl,hs.trans g1,hr⟩⟩
theorem Zxa {s:ByteArray}:Agr 32 (Zfl [.val (.string s)]) { tmps:= #[.string s]++Array.replicate 31 undef,defers:=[]}:=by
  refine ⟨by simp,rfl,fun j v hj=>?_⟩
  obtain ⟨k,hk,hv⟩:=Zgk [.val (.string s)] 0 j v hj
  cases k with
  | zero=>simp at hk hv;subst hk hv;simp [EV.v]
  | succ k=>simp at hv
theorem ZrP {e:Env} {a:Act} {b2 b3 b4:Nat} {x:Value} (h:Agr 32 e a):Agr 32 (ZxB e b2 b3 b4) { tmps:=a.tmps.setIfInBounds 10 x,defers:=[clo b2 b3 b4]}:=by
  refine ⟨by simp [h.size],rfl,fun j v hj=>?_⟩
  have hj':(bif Nat.beq j 10 then none else e.f j)=some v:=hj
  cases h10:Nat.beq j 10 with
  | true=>rw [h10] at hj';cases hj'
  | false =>
    rw [h10] at hj'
    have hne:10≠j:=fun h9=>by rw [← h9] at h10;cases h10
    show (a.tmps.setIfInBounds 10 x)[j]?=_
    rw [Array.getElem?_setIfInBounds_ne hne]
    exact h.val j v hj'
set_option maxRecDepth 100000 in
theorem ZlQ {s:ByteArray} {K:YV ZkH→HP} {w:World} (hk:prd s K w.heap):Calls Tryz.prog 25 #[.string s] w (Zch ZkH w K fun _ _=>False):=by
  refine calls_of_wp_defers Tryz.func25 Zre ?_
  show (Code.seq pA (.seq pB (.seq pD pR))).wp Tryz.prog _ { tmps:= #[.string s]++Array.replicate 31 undef,defers:=[]} w
  obtain ⟨q1,q2,q3,q4,q5,q6⟩:=nR
  have stop:∀ {a:Act} {w1:World} {e:Env},Agr 32 e a→Fw.Same w w1→a.defers=[]→ZqK K e w1.heap→Leaves Tryz.prog Tryz.f25 a.tmps (Zch ZkH w K fun _ _=>False) a.defers .returning w1:=fun {a w1 e} g1 g2 g3 g4=>by
    rw [g3]
    obtain ⟨v,hv,r,rfl,hr⟩:=ZlK g1.val g4
    exact ⟨_,hv,.inl ⟨r,rfl,g2,hr⟩⟩
  unfold prd at hk
  have hA:=Xa pA (Zrg fun _ _=>False) (ZlP _) Zs .leaf _ _ w _ Zxa hk
  refine wp_seq ((wpIn_wide (n:=0)).1 (wpIn_mono hA ?_))
  intro ex a1 w1 hp
  cases ex with
  | goto t=>exact hp.elim
  | outgrown=>exact hp.elim
  | panic ch=>obtain ⟨v,h1,h2,h3,h4⟩:=hp;exact h4.elim
  | exit id=>obtain ⟨e1,g1,g2,g3,g4⟩:=hp;exact g4.elim
  | ret =>
    obtain ⟨e1,g1,g2,g3,g4⟩:=hp
    exact stop g1 g2 (g3.2 (Zce q5)) g4
  | normal =>
    obtain ⟨e1,g1,g2,g3,g4⟩:=hp
    have d1:a1.defers=[]:=g3.2 (Zce q5)
    have hB:=Xa pB (Zrg fun _ _=>False) (ZlP _) Zs .leaf _ _ w1 _ g1 g4
    refine wp_seq ((wpIn_wide (n:=0)).1 (wpIn_mono hB ?_))
    intro ex a2 w2 hp
    cases ex with
    | goto t=>exact hp.elim
    | outgrown=>exact hp.elim
    | panic ch=>obtain ⟨v,h1,h2,h3,h4⟩:=hp;exact h4.elim
    | exit id=>obtain ⟨e2,j1,j2,j3,j4⟩:=hp;exact j4.elim
    | ret =>
      obtain ⟨e2,j1,j2,j3,j4⟩:=hp
      exact stop j1 (g2.trans j2) ((j3.2 (Zce q6)).trans d1) j4
    | normal =>
      obtain ⟨e2,j1,j2,j3,j4⟩:=hp
      have d2:a2.defers=[]:=(j3.2 (Zce q6)).trans d1
      dsimp only at j4
      split at j4
      case h_2=>exact j4.elim
      rename_i b2 b3 b4 h2 h3 h4
      have t2:=j1.val 2 _ h2
      have t3:=j1.val 3 _ h3
      have t4:=j1.val 4 _ h4
      refine wpD t2 t3 t4 d2 j1.size ?_
      have hR:=Xa pR (Zrg (ZwP b2 b3 b4 (ZqK K (ZtM b2 b3 b4)))) (ZlP _) Zs .leaf _ _ w2 _ (ZrP (x:= .func (.func 95) #[] #[ptr b2,ptr b3,ptr b4]) j1) j4
      refine (wpIn_wide (n:=0)).1 (wpIn_mono hR ?_)
      intro ex a3 w3 hp
      cases ex with
      | goto t=>exact hp.elim
      | outgrown=>exact hp.elim
      | exit id=>obtain ⟨e3,k1,k2,k3,k4⟩:=hp;exact k4.elim
      | normal =>
        obtain ⟨e3,k1,k2,k3,k4⟩:=hp
        exact Zqs k1.val (k3.2 (Zce q1)) ((g2.trans j2).trans k2) k4
      | ret =>
        obtain ⟨e3,k1,k2,k3,k4⟩:=hp
        exact Zqs k1.val (k3.2 (Zce q1)) ((g2.trans j2).trans k2) k4
      | panic ch =>
        obtain ⟨v,rfl,k2,k3,k4⟩:=hp
        have e2:=(k3.1 2 (Zce q2)).trans (show (a2.tmps.setIfInBounds 10 _)[2]?=some (ptr b2) by rw [Array.getElem?_setIfInBounds_ne (by decide)];exact t2)
        have e3:=(k3.1 3 (Zce q3)).trans (show (a2.tmps.setIfInBounds 10 _)[3]?=some (ptr b3) by rw [Array.getElem?_setIfInBounds_ne (by decide)];exact t3)
        have e4:=(k3.1 4 (Zce q4)).trans (show (a2.tmps.setIfInBounds 10 _)[4]?=some (ptr b4) by rw [Array.getElem?_setIfInBounds_ne (by decide)];exact t4)
        exact Zrh e2 e3 e4 (k3.2 (Zce q1)) ((g2.trans j2).trans k2) k4
theorem rdP (s:ByteArray) (K:(Int × ByteArray × Sl × Sl × Unit)→Int→Int→HP) (h:Ze):prd s (fun r h=>K r.1 r.2.1 r.2.2.1 h) h=Xn s K h:=by kernel_rfl
def ZkD:Zj:=⟨[.one (.S)],ZkH,fun t K _ h=>Xn t.1 (fun r0 r1 r2 h=>K (r0,r1,r2,()) h) h⟩
set_option maxRecDepth 100000 in
theorem ZnT {s:ByteArray} {K:(Int × ByteArray × Sl × Sl × Unit)→Int→Int→HP} {w:World} (hk:Xn s K w.heap):Calls Tryz.prog 25 #[.string s] w fun e w'=>∃ r:YV ZkH,e = .returned (Zsi ZkH r)∧Fw.Same w w'∧K r.1 r.2.1 r.2.2.1 w'.heap:=by
  have hk':prd s (fun r h=>K r.1 r.2.1 r.2.2.1 h) w.heap:=(rdP s K w.heap).mpr hk
  refine (ZlQ hk').mono ?_
  rintro e w' (⟨r,he,hs,hr⟩ | ⟨v,he,hs,hr⟩)
  ·exact ⟨r,he,hs,hr⟩
  ·exact hr.elim
theorem ZfA:Zt Tryz.prog 25 ZkD where
  named:=⟨_,Tryz.func25,by kernel_rfl,by kernel_rfl⟩
  calls t K Kp w hk:=(ZnT (K:=fun r0 r1 r2 h=>K (r0,r1,r2,()) h) hk).mono fun e w' h9=>let ⟨r,he,hs,hr⟩:=h9;.inl ⟨r,he,hs,hr⟩
abbrev Zmq (f:ZdJ):Zj:=⟨[.one (.P)],[.one (.I .u8)],fun t K _ h=>f t.1 (fun r0 h=>K (r0,()) h) h⟩
abbrev ZAD:Cfg:=Z6 Tryz.prog [] 22 [] [] [] Z8
theorem Zyz:Yd (ZAD) Tryz.f172 (.leaf) (Zmq XF):=fun _ _ _ _=>by kernel_rfl
theorem Zoq:Zt Tryz.prog 172 (Zmq Zg):=okF (Zyz) Tryz.func172 Zs (ZM _ .nil .nil .nil .nil (ZL _))
abbrev ZsI (f:Zkp):Zj:=⟨[.one (.P)],[],fun t K _ h=>f t.1 (fun h=>K (()) h) h⟩
abbrev ZAC (f27:ZdJ):Cfg:=Z6 Tryz.prog [(172,Zmq f27)] 46 [] [] [] Z8
theorem Zyy (f27:ZdJ):Yd (ZAC f27) Tryz.f100 (.block (.loop [] [] [(2,45)] (.cut [] [] [(2,38)] (.leaf) (.leaf)))) (ZsI (YA f27)):=fun _ _ _ _=>by kernel_rfl
theorem ZtU:Zt Tryz.prog 100 (ZsI Zq):=okF (Zyy Zg) Tryz.func100 Zs (ZM _ (.cons Zoq .nil) .nil .nil .nil (ZL _))
abbrev ZqH (f:Zgm):Zj:=⟨[.one (.P),.one (.I .i64)],[],fun t K _ h=>f t.1 t.2.1 (fun h=>K (()) h) h⟩
abbrev ZAB:Cfg:=Z6 Tryz.prog [] 34 [] [] [] Z8
theorem Zyx:Yd (ZAB) Tryz.f173 (.leaf) (ZqH XA):=fun _ _ _ _=>by kernel_rfl
theorem Zr1:Zt Tryz.prog 173 (ZqH Zh):=okF (Zyx) Tryz.func173 Zs (ZM _ .nil .nil .nil .nil (ZL _))
abbrev ZtH (f:Zms):Zj:=⟨[.one (.P),.one (.I .u8)],[],fun t K _ h=>f t.1 t.2.1 (fun h=>K (()) h) h⟩
abbrev ZAA (f29:Zgm) (f27:ZdJ):Cfg:=Z6 Tryz.prog [(173,ZqH f29),(172,Zmq f27)] 34 [] [] [] Z8
theorem Zyw (f29:Zgm) (f27:ZdJ):Yd (ZAA f29 f27) Tryz.f244 (.leaf) (ZtH (YK f29 f27)):=fun _ _ _ _=>by kernel_rfl
theorem ZvB:Zt Tryz.prog 244 (ZtH Zu):=okF (Zyw Zh Zg) Tryz.func244 Zs (ZM _ (.cons Zr1 (.cons Zoq .nil)) .nil .nil .nil (ZL _))
abbrev ZsH (f:Zko):Zj:=⟨[.one (.I .u8)],[.one (.B)],fun t K _ h=>f t.1 (fun r0 h=>K (r0,()) h) h⟩
abbrev ZAz:Cfg:=Z6 Tryz.prog [] 9 [] [] [] Z8
theorem Zyv:Yd (ZAz) Tryz.f175 (.leaf) (ZsH ZaA):=fun _ _ _ _=>by kernel_rfl
theorem ZtT:Zt Tryz.prog 175 (ZsH ZE):=okF (Zyv) Tryz.func175 Zs (ZM _ .nil .nil .nil .nil (ZL _))
abbrev ZvI (f:Zr8):Zj:=⟨[.one (.P)],[.one (.I .i64)],fun t K _ h=>f t.1 (fun r0 h=>K (r0,()) h) h⟩
abbrev ZAy (f27:ZdJ) (f31:Zko) (f29:Zgm):Cfg:=Z6 Tryz.prog [(172,Zmq f27),(175,ZsH f31),(173,ZqH f29)] 102 [] [] [] Z8
theorem Zyu (f27:ZdJ) (f31:Zko) (f29:Zgm):Yd (ZAy f27 f31 f29) Tryz.f300 (.seq (.leaf) (.seq (.leaf) (.seq (.seq (.leaf) (.block (.loop [3,4] [.one (.I .i64),.one (.I .i64)] [(2,2),(5,100)] (.seq (.leaf) (.seq (.block (.seq (.leaf) (.cut [3] [.one (.I .i64)] [(2,2),(19,93)] (.block (.cut [21] [.one (.B)] [(22,35)] (.leaf) (.cond (.leaf) (.cut [42] [.one (.B)] [(43,60)] (.leaf) (.leaf))))) (.leaf)))) (.leaf)))))) (.leaf)))) (ZvI (XG f27 f31 f29)):=fun _ _ _ _=>by kernel_rfl
theorem Zxu:Zt Tryz.prog 300 (ZvI ZV):=okF (Zyu Zg ZE Zh) Tryz.func300 Zs (ZM _ (.cons Zoq (.cons ZtT (.cons Zr1 .nil))) .nil .nil .nil (ZL _))
abbrev Zwu (f:Zuv):Zj:=⟨[.one (.P)],[.one (.I .i64)],fun t K _ h=>f t.1 (fun r0 h=>K (r0,()) h) h⟩
abbrev ZAx (f32:Zr8):Cfg:=Z6 Tryz.prog [(300,ZvI f32)] 74 [] [] [] Z8
theorem Zyt (f32:Zr8):Yd (ZAx f32) Tryz.f301 (.seq (.leaf) (.seq (.leaf) (.seq (.order (.take 0 (.take 1 (.take 2 (.take 4 (.take 5 (.take 6 (.take 10 (.take 11 (.take 12 (.take 3 (.take 7 (.take 8 (.take 9 (.take 13 (.take 14 (.take 15 (.take 16 (.take 17 .done))))))))))))))))))) (.leaf)))) (Zwu (YP f32)):=fun _ _ _ _=>by kernel_rfl
theorem ZzA:Zt Tryz.prog 301 (Zwu Z1):=okF (Zyt ZV) Tryz.func301 Zs (ZM _ (.cons Zxu .nil) .nil .nil .nil (ZL _))
abbrev Zwt (f:Zuu):Zj:=⟨[.one (.I .i64)],[.one (.S)],fun t K _ h=>f t.1 (fun r0 h=>K (r0,()) h) h⟩
abbrev ZAw:Cfg:=Z6 Tryz.prog [] 61 [] [] [] Z8
theorem Zys:Yd (ZAw) Tryz.f302 (.leaf) (Zwt Zbi):=fun _ _ _ _=>by kernel_rfl
theorem Zzz:Zt Tryz.prog 302 (Zwt YT):=okF (Zys) Tryz.func302 Zs (ZM _ .nil .nil .nil .nil (ZL _))
abbrev Zws (f:Zut):Zj:=⟨[.one (.P)],[.one (.S)],fun t K _ h=>f t.1 (fun r0 h=>K (r0,()) h) h⟩
abbrev ZAv (f27:ZdJ) (f29:Zgm) (f32:Zr8) (f33:Zuv) (f34:Zuu):Cfg:=Z6 Tryz.prog [(172,Zmq f27),(173,ZqH f29),(300,ZvI f32),(301,Zwu f33),(302,Zwt f34)] 94 [] [] [] Z8
theorem Zyr (f27:ZdJ) (f29:Zgm) (f32:Zr8) (f33:Zuv) (f34:Zuu):Yd (ZAv f27 f29 f32 f33 f34) Tryz.f245 (.seq (.leaf) (.seq (.leaf) (.seq (.leaf) (.seq (.leaf) (.cut [4] [.one (.S)] [(2,2),(5,6),(21,85)] (.seq (.leaf) (.block (.cut [24] [.one (.B)] [(25,27)] (.leaf) (.cond (.leaf) (.seq (.leaf) (.cond (.leaf) (.seq (.leaf) (.cond (.leaf) (.seq (.leaf) (.cond (.leaf) (.seq (.leaf) (.cond (.leaf) (.seq (.leaf) (.cond (.leaf) (.seq (.leaf) (.cond (.seq (.leaf) (.seq (.leaf) (.cut [] [] [(2,2),(6,6),(52,76)] (.leaf) (.cut [] [] [(2,2),(77,83)] (.leaf) (.leaf))))) (.leaf))))))))))))))))) (.leaf)))))) (Zws (Y7 f27 f29 f32 f33 f34)):=fun _ _ _ _=>by kernel_rfl
theorem Zzy:Zt Tryz.prog 245 (Zws Yc):=okF (Zyr Zg Zh ZV Z1 YT) Tryz.func245 Zs (ZM _ (.cons Zoq (.cons Zr1 (.cons Zxu (.cons ZzA (.cons Zzz .nil))))) .nil .nil .nil (ZL _))
abbrev ZvH (f:Zr7):Zj:=⟨[.one (.I .u8)],[.one (.I .i64),.one (.I .u8),.one (.I .u8)],fun t K _ h=>f t.1 (fun r0 r1 r2 h=>K (r0,r1,r2,()) h) h⟩
abbrev ZAu:Cfg:=Z6 Tryz.prog [] 41 [] [] [] Z8
theorem Zyq:Yd (ZAu) Tryz.f273 (.seq (.leaf) (.seq (.block (.seq (.leaf) (.cond (.leaf) (.cut [8] [.one (.B)] [(9,14)] (.leaf) (.leaf))))) (.leaf))) (ZvH Zao):=fun _ _ _ _=>by kernel_rfl
theorem Zxt:Zt Tryz.prog 273 (ZvH Ye):=okF (Zyq) Tryz.func273 Zs (ZM _ .nil .nil .nil .nil (ZL _))
abbrev Zwr (f:Zus):Zj:=⟨[.one (.P)],[],fun t K _ h=>f t.1 (fun h=>K (()) h) h⟩
abbrev ZAt (f27:ZdJ) (f36:Zr7) (f29:Zgm):Cfg:=Z6 Tryz.prog [(172,Zmq f27),(273,ZvH f36),(173,ZqH f29)] 65 [] [] [] Z8
theorem Zyp (f27:ZdJ) (f36:Zr7) (f29:Zgm):Yd (ZAt f27 f36 f29) Tryz.f246 (.seq (.leaf) (.seq (.leaf) (.seq (.leaf) (.seq (.leaf) (.block (.loop [3,4,5] [.one (.I .u8),.one (.I .u8),.one (.I .i64)] [(29,64)] (.leaf))))))) (Zwr (YQ f27 f36 f29)):=fun _ _ _ _=>by kernel_rfl
theorem Zzx:Zt Tryz.prog 246 (Zwr Z2):=okF (Zyp Zg Ye Zh) Tryz.func246 Zs (ZM _ (.cons Zoq (.cons Zxt (.cons Zr1 .nil))) .nil .nil .nil (ZL _))
abbrev ZvG (f:Zr6):Zj:=⟨[.one (.P)],[.one (.S)],fun t K _ h=>f t.1 (fun r0 h=>K (r0,()) h) h⟩
abbrev ZAs (f30:Zms) (f29:Zgm) (f27:ZdJ) (f35:Zut) (f37:Zus):Cfg:=Z6 Tryz.prog [(244,ZtH f30),(173,ZqH f29),(172,Zmq f27),(245,Zws f35),(246,Zwr f37)] 68 [] [] [] Z8
theorem Zyo (f30:Zms) (f29:Zgm) (f27:ZdJ) (f35:Zut) (f37:Zus):Yd (ZAs f30 f29 f27 f35 f37) Tryz.f174 (.seq (.leaf) (.seq (.leaf) (.seq (.leaf) (.seq (.block (.loop [3] [.one (.S)] [(2,2),(4,5),(8,67)] (.leaf))) (.leaf))))) (ZvG (Xy f30 f29 f27 f35 f37)):=fun _ _ _ _=>by kernel_rfl
theorem Zxs:Zt Tryz.prog 174 (ZvG ZS):=okF (Zyo Zu Zh Zg Yc Z2) Tryz.func174 Zs (ZM _ (.cons ZvB (.cons Zr1 (.cons Zoq (.cons Zzy (.cons Zzx .nil))))) .nil .nil .nil (ZL _))
abbrev Zwq (f:Zur):Zj:=⟨[.one (.P)],[],fun t K _ h=>f t.1 (fun h=>K (()) h) h⟩
abbrev ZAr (f29:Zgm) (f27:ZdJ) (f31:Zko):Cfg:=Z6 Tryz.prog [(173,ZqH f29),(172,Zmq f27),(175,ZsH f31)] 47 [] [] [] Z8
theorem Zyn (f29:Zgm) (f27:ZdJ) (f31:Zko):Yd (ZAr f29 f27 f31) Tryz.f247 (.seq (.leaf) (.seq (.leaf) (.block (.loop [] [] [(25,46)] (.leaf))))) (Zwq (Y8 f29 f27 f31)):=fun _ _ _ _=>by kernel_rfl
theorem Zzw:Zt Tryz.prog 247 (Zwq ZW):=okF (Zyn Zh Zg ZE) Tryz.func247 Zs (ZM _ (.cons Zr1 (.cons Zoq (.cons ZtT .nil))) .nil .nil .nil (ZL _))
abbrev Zwp (f:Zuq):Zj:=⟨[.one (.P)],[.one (.S)],fun t K _ h=>f t.1 (fun r0 h=>K (r0,()) h) h⟩
abbrev ZAq (f27:ZdJ) (f31:Zko) (f29:Zgm) (f39:Zur):Cfg:=Z6 Tryz.prog [(172,Zmq f27),(175,ZsH f31),(173,ZqH f29),(247,Zwq f39)] 165 [] [] [] Z8
theorem Zym (f27:ZdJ) (f31:Zko) (f29:Zgm) (f39:Zur):Yd (ZAq f27 f31 f29 f39) Tryz.f176 (.seq (.leaf) (.seq (.leaf) (.cut [] [] [(9,18)] (.leaf) (.cut [4] [.one (.B)] [(19,33)] (.leaf) (.cut [] [] [(34,60)] (.leaf) (.cut [] [] [(61,91)] (.leaf) (.cut [] [] [(92,154)] (.cut [118] [.one (.B)] [(92,117)] (.leaf) (.leaf)) (.leaf)))))))) (Zwp (Y6 f27 f31 f29 f39)):=fun _ _ _ _=>by kernel_rfl
theorem Zzv:Zt Tryz.prog 176 (Zwp Yb):=okF (Zym Zg ZE Zh ZW) Tryz.func176 Zs (ZM _ (.cons Zoq (.cons ZtT (.cons Zr1 (.cons Zzw .nil)))) .nil .nil .nil (ZL _))
abbrev Zwo (f:Zup):Zj:=⟨[.one (.P),.one (.S)],[],fun t K _ h=>f t.1 t.2.1 (fun h=>K (()) h) h⟩
abbrev ZAp (f30:Zms):Cfg:=Z6 Tryz.prog [(244,ZtH f30)] 16 [] [] [] Z8
theorem Zyl (f30:Zms):Yd (ZAp f30) Tryz.f177 (.seq (.leaf) (.block (.loop [4] [.one (.I .i64)] [(5,15)] (.leaf)))) (Zwo (Xx f30)):=fun _ _ _ _=>by kernel_rfl
theorem Zzu:Zt Tryz.prog 177 (Zwo Z5):=okF (Zyl Zu) Tryz.func177 Zs (ZM _ (.cons ZvB .nil) .nil .nil .nil (ZL _))
abbrev ZqG (f:ZgF):Zj:=⟨[.one (.P),.one (.I .i64)],[.agg [.I .u8,.S,.L,.L]],fun t K _ h=>f t.1 t.2.1 (fun r0 h=>K (r0,()) h) h⟩
abbrev ZvF (f:Zr5):Zj:=⟨[.one (.P),.one (.I .u8)],[.one (.B)],fun t K _ h=>f t.1 t.2.1 (fun r0 h=>K (r0,()) h) h⟩
abbrev ZAn (f28:Zkp) (f27:ZdJ) (f30:Zms):Cfg:=Z6 Tryz.prog [(100,ZsI f28),(172,Zmq f27),(244,ZtH f30)] 39 [] [] [] Z8
theorem Zyj (f28:Zkp) (f27:ZdJ) (f30:Zms):Yd (ZAn f28 f27 f30) Tryz.f248 (.seq (.leaf) (.seq (.leaf) (.cut [] [] [(4,4),(7,35)] (.leaf) (.leaf)))) (ZvF (Xz f28 f27 f30)):=fun _ _ _ _=>by kernel_rfl
theorem Zxr:Zt Tryz.prog 248 (ZvF ZR):=okF (Zyj Zq Zg Zu) Tryz.func248 Zs (ZM _ (.cons ZtU (.cons Zoq (.cons ZvB .nil))) .nil .nil .nil (ZL _))
abbrev Zwn (f:Zuo):Zj:=⟨[.one (.P),.one (.I .i64)],[.agg [.I .u8,.S,.L,.L]],fun t K _ h=>f t.1 t.2.1 (fun r0 h=>K (r0,()) h) h⟩
abbrev ZAm (f28:Zkp) (f27:ZdJ) (f42:ZgF) (f43:Zr5):Cfg:=Z6 Tryz.prog [(100,ZsI f28),(172,Zmq f27),(99,ZqG f42),(248,ZvF f43)] 56 [] [] [] Z8
theorem Zyi (f28:Zkp) (f27:ZdJ) (f42:ZgF) (f43:Zr5):Yd (ZAm f28 f27 f42 f43) Tryz.f178 (.seq (.leaf) (.seq (.leaf) (.seq (.leaf) (.cut [] [] [(9,38)] (.leaf) (.seq (.block (.loop [] [] [(39,54)] (.seq (.leaf) (.block (.seq (.order (.take 0 (.take 2 (.take 3 (.take 1 (.take 4 (.take 5 (.take 6 (.take 7 (.take 8 .done)))))))))) (.leaf)))))) (.leaf)))))) (Zwn (Xm f28 f27 f42 f43)):=fun _ _ _ _=>by kernel_rfl
theorem ZyX (f42:ZgF) (hH:Zt Tryz.prog 99 (ZqG f42)):Zt Tryz.prog 178 (Zwn (Yg f42)):=okF (Zyi Zq Zg f42 ZR) Tryz.func178 Zs (ZM _ (.cons ZtU (.cons Zoq (.cons hH (.cons Zxr .nil)))) .nil .nil .nil (ZL _)) (hlen:=Nat.le_of_ble_eq_true rfl)
abbrev Zwm (f:Zun):Zj:=⟨[.one (.P),.one (.I .i64)],[.agg [.I .u8,.S,.L,.L]],fun t K _ h=>f t.1 t.2.1 (fun r0 h=>K (r0,()) h) h⟩
abbrev ZAl (f28:Zkp) (f27:ZdJ) (f38:Zr6) (f30:Zms) (f42:ZgF) (f43:Zr5):Cfg:=Z6 Tryz.prog [(100,ZsI f28),(172,Zmq f27),(174,ZvG f38),(244,ZtH f30),(99,ZqG f42),(248,ZvF f43)] 69 [] [] [] Z8
theorem Zyh (f28:Zkp) (f27:ZdJ) (f38:Zr6) (f30:Zms) (f42:ZgF) (f43:Zr5):Yd (ZAl f28 f27 f38 f30 f42 f43) Tryz.f179 (.seq (.leaf) (.seq (.leaf) (.seq (.leaf) (.cut [] [] [(9,38)] (.leaf) (.seq (.block (.loop [] [] [(39,67)] (.seq (.leaf) (.block (.seq (.leaf) (.seq (.order (.take 0 (.take 2 (.take 1 (.take 3 (.take 4 (.take 5 (.take 6 (.take 7 .done))))))))) (.seq (.leaf) (.seq (.leaf) (.seq (.order (.take 0 (.take 2 (.take 3 (.take 1 (.take 4 (.take 5 (.take 6 (.take 7 (.take 8 .done)))))))))) (.leaf)))))))))) (.leaf)))))) (Zwm (Y5 f28 f27 f38 f30 f42 f43)):=fun _ _ _ _=>by kernel_rfl
theorem ZyW (f42:ZgF) (hH:Zt Tryz.prog 99 (ZqG f42)):Zt Tryz.prog 179 (Zwm (Ya f42)):=okF (Zyh Zq Zg ZS Zu f42 ZR) Tryz.func179 Zs (ZM _ (.cons ZtU (.cons Zoq (.cons Zxs (.cons ZvB (.cons hH (.cons Zxr .nil)))))) .nil .nil .nil (ZL _)) (hlen:=Nat.le_of_ble_eq_true rfl)
abbrev ZAo (f28:Zkp) (f27:ZdJ) (f29:Zgm) (f38:Zr6) (f31:Zko) (f40:Zuq) (f41:Zup) (f44:Zuo) (f45:Zun):Cfg:=Z6 Tryz.prog [(100,ZsI f28),(172,Zmq f27),(173,ZqH f29),(174,ZvG f38),(175,ZsH f31),(176,Zwp f40),(177,Zwo f41),(178,Zwn f44),(179,Zwm f45)] 95 [] [] [] Z8
theorem Zyk (f28:Zkp) (f27:ZdJ) (f29:Zgm) (f38:Zr6) (f31:Zko) (f40:Zuq) (f41:Zup) (f44:Zuo) (f45:Zun):Yd (ZAo f28 f27 f29 f38 f31 f40 f41 f44 f45) Tryz.f99 (.seq (.leaf) (.seq (.leaf) (.seq (.leaf) (.seq (.seq (.leaf) (.block (.seq (.leaf) (.cond (.leaf) (.seq (.leaf) (.cond (.leaf) (.cut [37] [.one (.B)] [(38,43)] (.leaf) (.cond (.leaf) (.seq (.leaf) (.cond (.leaf) (.seq (.leaf) (.cond (.leaf) (.seq (.leaf) (.cond (.leaf) (.cut [65] [.one (.B)] [(66,71)] (.leaf) (.leaf)))))))))))))))) (.leaf))))) (ZqG (Xl f28 f27 f29 f38 f31 f40 f41 f44 f45)):=fun _ _ _ _=>by kernel_rfl
theorem ZyY (f42:ZgF) (hH:Zt Tryz.prog 99 (ZqG f42)):Zt Tryz.prog 99 (ZqG (YF f42)):=okF (Zyk Zq Zg Zh ZS ZE Yb Z5 (Yg f42) (Ya f42)) Tryz.func99 Zs (ZM _ (.cons ZtU (.cons Zoq (.cons Zr1 (.cons Zxs (.cons ZtT (.cons Zzv (.cons Zzu (.cons (ZyX f42 hH) (.cons (ZyW f42 hH) .nil))))))))) .nil .nil .nil (ZL _)) (hlen:=Nat.le_of_ble_eq_true rfl)
theorem Zxl:∀ n,Zt Tryz.prog 99 (ZqG (ZT n))
 | 0=>Ze8 Tryz.func99 (by kernel_rfl) (by kernel_rfl) fun _ _ _ _ h=>h
 | n+1=>ZyY _ (Zxl n)
theorem Zzt:Zt Tryz.prog 99 (ZqG Xj):=ZlS Zxl
abbrev Zwl (f:Zum):Zj:=⟨[.one (.S)],[.agg [.I .u8,.S,.L,.L],.one (.I .i64),.one (.I .i64)],fun t K _ h=>f t.1 (fun r0 r1 r2 h=>K (r0,r1,r2,()) h) h⟩
abbrev ZAk (f42:ZgF) (f28:Zkp):Cfg:=Z6 Tryz.prog [(99,ZqG f42),(100,ZsI f28)] 53 [] [] [] Z8
theorem Zyg (f42:ZgF) (f28:Zkp):Yd (ZAk f42 f28) Tryz.f26 (.seq (.leaf) (.seq (.leaf) (.seq (.leaf) (.seq (.leaf) (.seq (.leaf) (.cut [] [] [(18,37)] (.leaf) (.seq (.seq (.leaf) (.cond (.seq (.order (.take 0 (.take 1 (.take 2 (.take 3 (.take 5 (.take 6 (.take 7 (.take 4 (.take 8 (.take 9 (.take 10 (.take 11 .done))))))))))))) (.leaf)) (.leaf))) (.leaf)))))))) (Zwl (ZaE f42 f28)):=fun _ _ _ _=>by kernel_rfl
theorem Zzs:Zt Tryz.prog 26 (Zwl YZ):=okF (Zyg Xj Zq) Tryz.func26 Zs (ZM _ (.cons Zzt (.cons ZtU .nil)) .nil .nil .nil (ZL _))
abbrev Zwk (f:Zul):Zj:=⟨[.one (.S)],[.one (.B)],fun t K _ h=>f t.1 (fun r0 h=>K (r0,()) h) h⟩
abbrev ZAj (f26:ZsK):Cfg:=Z6 Tryz.prog [(25,⟨[.one (.S)],[.agg [.I .u8,.S,.L,.L],.one (.I .i64),.one (.I .i64)],fun t K _ h=>f26 t.1 (fun r0 r1 r2 h=>K (r0,r1,r2,()) h) h⟩)] 25 [] [] [] Z8
theorem Zyf (f26:ZsK):Yd (ZAj f26) Tryz.f162 (.leaf) (Zwk (ZcN f26)):=fun _ _ _ _=>by kernel_rfl
theorem Zzr:Zt Tryz.prog 162 (Zwk Zat):=okF (Zyf Xn) Tryz.func162 Zs (ZM _ (.cons ZfA .nil) .nil .nil .nil (ZL _))
abbrev Zwj (f:Zuk):Zj:=⟨[.one (.S)],[.one (.B)],fun t K _ h=>f t.1 (fun r0 h=>K (r0,()) h) h⟩
abbrev ZAi (f15:Zor):Cfg:=Z6 Tryz.prog [(163,⟨[.one (.S)],[.one (.B)],fun t K _ h=>f15 t.1 (fun r0 h=>K (r0,()) h) h⟩)] 6 [] [] [] Z8
theorem Zye (f15:Zor):Yd (ZAi f15) Tryz.f165 (.leaf) (Zwj (Zc7 f15)):=fun _ _ _ _=>by kernel_rfl
theorem Zzq:Zt Tryz.prog 165 (Zwj Zcf):=okF (Zye ZJ) Tryz.func165 Zs (ZM _ (.cons YG .nil) .nil .nil .nil (ZL _))
abbrev Zwi (f:Zuj):Zj:=⟨[.one (.L),.fn 165],[.one (.I .i64)],fun t K _ h=>f t.1 (fun r0 h=>K (r0,()) h) h⟩
abbrev ZAh (f48:Zuk):Cfg:=Z6 Tryz.prog [(165,Zwj f48)] 19 [] [] [] Z8
theorem Zyd (f48:Zuk):Yd (ZAh f48) Tryz.f238 (.seq (.leaf) (.seq (.seq (.leaf) (.block (.loop [8] [.one (.I .i64)] [(4,5),(9,18)] (.leaf)))) (.leaf))) (Zwi (ZZ f48)):=fun _ _ _ _=>by kernel_rfl
theorem Zzp:Zt Tryz.prog 238 (Zwi ZP):=okF (Zyd Zcf) Tryz.func238 Zs (ZM _ (.cons Zzq .nil) .nil .nil .nil (ZL _))
abbrev Zwh (f:Zui):Zj:=⟨[.one (.L),.fn 165],[.one (.B)],fun t K _ h=>f t.1 (fun r0 h=>K (r0,()) h) h⟩
abbrev ZAg (f49:Zuj):Cfg:=Z6 Tryz.prog [(238,Zwi f49)] 9 [] [] [] Z8
theorem Zyc (f49:Zuj):Yd (ZAg f49) Tryz.f164 (.leaf) (Zwh (ZU f49)):=fun _ _ _ _=>by kernel_rfl
theorem Zzo:Zt Tryz.prog 164 (Zwh ZC):=okF (Zyc ZP) Tryz.func164 Zs (ZM _ (.cons Zzp .nil) .nil .nil .nil (ZL _))
abbrev Zwg (f:Zuh):Zj:=⟨[.agg [.I .u8,.S,.L,.L]],[.one (.B)],fun t K _ h=>f t.1 (fun r0 h=>K (r0,()) h) h⟩
abbrev ZAf (f47:Zul) (f15:Zor) (f50:Zui):Cfg:=Z6 Tryz.prog [(162,Zwk f47),(163,⟨[.one (.S)],[.one (.B)],fun t K _ h=>f15 t.1 (fun r0 h=>K (r0,()) h) h⟩),(164,Zwh f50)] 86 [] [] [] Z8
theorem Zyb (f47:Zul) (f15:Zor) (f50:Zui):Yd (ZAf f47 f15 f50) Tryz.f94 (.seq (.leaf) (.seq (.leaf) (.seq (.seq (.leaf) (.block (.cut [19] [.one (.B)] [(20,22)] (.leaf) (.leaf)))) (.leaf)))) (Zwg (Zej f47 f15 f50)):=fun _ _ _ _=>by kernel_rfl
theorem Zzn:Zt Tryz.prog 94 (Zwg Zcl):=okF (Zyb Zat ZJ ZC) Tryz.func94 Zs (ZM _ (.cons Zzr (.cons YG (.cons Zzo .nil))) .nil .nil .nil (ZL _))
abbrev Zwf (f:Zug):Zj:=⟨[.agg [.I .u8,.S,.L,.L]],[.one (.B)],fun t K _ h=>f t.1 (fun r0 h=>K (r0,()) h) h⟩
abbrev ZAe:Cfg:=Z6 Tryz.prog [] 3 [] [] [] Z8
theorem Zya:Yd (ZAe) Tryz.f119 (.leaf) (Zwf Zc8):=fun _ _ _ _=>by kernel_rfl
theorem Zzm:Zt Tryz.prog 119 (Zwf Zcg):=okF (Zya) Tryz.func119 Zs (ZM _ .nil .nil .nil .nil (ZL _))
abbrev Zoy (f:ZgS):Zj:=⟨[.one (.P),.agg [.I .u8,.S,.L,.L],.one (.I .i64),.one (.V)],[.one (.B)],fun t K _ h=>f t.1 t.2.1 t.2.2.1 t.2.2.2.1 (fun r0 h=>K (r0,()) h) h⟩
abbrev Zwe (f:Zuf):Zj:=⟨[.agg [.I .u8,.S,.L,.L],.one (.P),.one (.P),.one (.P)],[.one (.B)],fun t K _ h=>f t.1 t.2.1 t.2.2.1 t.2.2.2.1 (fun r0 h=>K (r0,()) h) h⟩
abbrev ZAc (f53:ZgS):Cfg:=Z6 Tryz.prog [(93,Zoy f53)] 13 [] [] [] Z8
theorem Zx8 (f53:ZgS):Yd (ZAc f53) Tryz.f161 (.leaf) (Zwe (Zbm f53)):=fun _ _ _ _=>by kernel_rfl
theorem ZyU (f53:ZgS) (hH:Zt Tryz.prog 93 (Zoy f53)):Zt Tryz.prog 161 (Zwe (Zac f53)):=okF (Zx8 f53) Tryz.func161 Zs (ZM _ (.cons hH .nil) .nil .nil .nil (ZL _)) (hlen:=Nat.le_of_ble_eq_true rfl)
abbrev Zwd (f:Zue):Zj:=⟨[.one (.L),.clo 161 [.P,.P,.P]],[.one (.I .i64)],fun t K _ h=>f t.1 t.2.1 (fun r0 h=>K (r0,()) h) h⟩
abbrev ZAb (f54:Zuf):Cfg:=Z6 Tryz.prog [(161,Zwe f54)] 19 [] [] [] Z8
theorem Zx7 (f54:Zuf):Yd (ZAb f54) Tryz.f236 (.seq (.leaf) (.seq (.seq (.leaf) (.block (.loop [8] [.one (.I .i64)] [(4,5),(9,18)] (.leaf)))) (.leaf))) (Zwd (ZQ f54)):=fun _ _ _ _=>by kernel_rfl
theorem ZyT (f53:ZgS) (hH:Zt Tryz.prog 93 (Zoy f53)):Zt Tryz.prog 236 (Zwd (ZD f53)):=okF (Zx7 (Zac f53)) Tryz.func236 Zs (ZM _ (.cons (ZyU f53 hH) .nil) .nil .nil .nil (ZL _)) (hlen:=Nat.le_of_ble_eq_true rfl)
abbrev Zwc (f:Zud):Zj:=⟨[.one (.L),.clo 161 [.P,.P,.P]],[.one (.B)],fun t K _ h=>f t.1 t.2.1 (fun r0 h=>K (r0,()) h) h⟩
abbrev ZAa (f55:Zue):Cfg:=Z6 Tryz.prog [(236,Zwd f55)] 9 [] [] [] Z8
theorem Zx6 (f55:Zue):Yd (ZAa f55) Tryz.f160 (.leaf) (Zwc (ZN f55)):=fun _ _ _ _=>by kernel_rfl
theorem ZyS (f53:ZgS) (hH:Zt Tryz.prog 93 (Zoy f53)):Zt Tryz.prog 160 (Zwc (Zw f53)):=okF (Zx6 (ZD f53)) Tryz.func160 Zs (ZM _ (.cons (ZyT f53 hH) .nil) .nil .nil .nil (ZL _)) (hlen:=Nat.le_of_ble_eq_true rfl)
abbrev ZAd (f51:Zuh) (f52:Zug) (f56:Zud):Cfg:=Z6 Tryz.prog [(94,Zwg f51),(119,Zwf f52),(160,Zwc f56)] 52 [] [] [] Z8 [(94,[]),(119,[])]
theorem Zx9 (f51:Zuh) (f52:Zug) (f56:Zud):Yd (ZAd f51 f52 f56) Tryz.f93 (.seq (.leaf) (.seq (.leaf) (.seq (.leaf) (.cut [] [] [(8,8),(27,34)] (.leaf) (.seq (.order (.take 0 (.take 1 (.take 2 (.take 3 (.take 4 (.take 5 (.take 6 (.take 7 (.take 8 (.take 9 (.take 10 .done)))))))))))) (.leaf)))))) (Zoy (Zb8 f51 f52 f56)):=fun _ _ _ _=>by kernel_rfl
theorem ZyV (f53:ZgS) (hH:Zt Tryz.prog 93 (Zoy f53)):Zt Tryz.prog 93 (Zoy (ZaN f53)):=okF (Zx9 Zcl Zcg (Zw f53)) Tryz.func93 Zs (ZM _ (.cons Zzn (.cons Zzm (.cons (ZyS f53 hH) .nil))) .nil .nil .nil (ZL _)) (hlen:=Nat.le_of_ble_eq_true rfl)
theorem Zxk:∀ n,Zt Tryz.prog 93 (Zoy (YU n))
 | 0=>Ze8 Tryz.func93 (by kernel_rfl) (by kernel_rfl) fun _ _ _ _ h=>h
 | n+1=>ZyV _ (Zxk n)
theorem Zxq:Zt Tryz.prog 93 (Zoy X5):=ZlS Zxk
abbrev ZtV (f:Zoz):Zj:=⟨[.agg [.I .u8,.S,.L,.L]],[.one (.B)],fun t K _ h=>f t.1 (fun r0 h=>K (r0,()) h) h⟩
abbrev Zz9 (f53:ZgS):Cfg:=Z6 Tryz.prog [(93,Zoy f53)] 16 [] [] [] Z8
theorem Zx5 (f53:ZgS):Yd (Zz9 f53) Tryz.f22 (.leaf) (ZtV (Zem f53)):=fun _ _ _ _=>by kernel_rfl
theorem ZvU:Zt Tryz.prog 22 (ZtV XO):=okF (Zx5 X5) Tryz.func22 Zs (ZM _ (.cons Zxq .nil) .nil .nil .nil (ZL _))
abbrev ZvE (f:Zr4):Zj:=⟨[.one (.P)],[.one (.I .i64)],fun t K _ h=>f t.1 (fun r0 h=>K (r0,()) h) h⟩
abbrev Zz8:Cfg:=Z6 Tryz.prog [] 8 [] [] [] Z8
theorem Zx4:Yd (Zz8) Tryz.f114 (.leaf) (ZvE Zax):=fun _ _ _ _=>by kernel_rfl
theorem Zxp:Zt Tryz.prog 114 (ZvE Ys):=okF (Zx4) Tryz.func114 Zs (ZM _ .nil .nil .nil .nil (ZL _))
abbrev Zwb (f:Zuc):Zj:=⟨[.one (.P),.one (.S)],[],fun t K _ h=>f t.1 t.2.1 (fun h=>K (()) h) h⟩
abbrev Zz7 (f6:zT6) (f0:zT0) (f17:ZoA):Cfg:=Z6 Tryz.prog [(184,zk6 f6),(171,⟨[.one (.S),.one (.I .u8)],[.one (.I .i64)],fun t K _ h=>f0 t.1 t.2.1 (fun r0 h=>K (r0,()) h) h⟩),(183,ZtW f17)] 81 [] [] [] Z8
theorem Zx3 (f6:zT6) (f0:zT0) (f17:ZoA):Yd (Zz7 f6 f0 f17) Tryz.f201 (.seq (.leaf) (.seq (.seq (.leaf) (.block (.loop [13] [.one (.I .i64)] [(4,6),(14,76)] (.seq (.leaf) (.seq (.leaf) (.seq (.block (.seq (.leaf) (.seq (.leaf) (.seq (.leaf) (.block (.cut [26] [.one (.B)] [(27,32)] (.leaf) (.cond (.leaf) (.seq (.leaf) (.cond (.seq (.leaf) (.order (.take 0 (.take 1 (.take 2 (.take 3 (.take 4 (.take 5 .done)))))))) (.seq (.leaf) (.cond (.seq (.leaf) (.seq (.order (.take 0 (.take 1 (.take 2 (.take 3 (.take 4 (.take 5 (.take 6 .done)))))))) (.order (.take 0 (.take 1 (.take 2 (.take 3 (.take 4 (.take 5 (.take 6 .done)))))))))) (.leaf)))))))))))) (.leaf))))))) (.leaf))) (Zwb (ZbP f6 f0 f17)):=fun _ _ _ _=>by kernel_rfl
theorem Zzl:Zt Tryz.prog 201 (Zwb XM):=okF (Zx3 Zz Yq Zx) Tryz.func201 Zs (ZM _ (.cons zo6 (.cons ZaT (.cons ZvV .nil))) .nil .nil .nil (ZL _))
abbrev ZsG (f:Zmr):Zj:=⟨[.one (.P),.agg [.I .u8,.S,.L,.L]],[],fun t K _ h=>f t.1 t.2.1 (fun h=>K (()) h) h⟩
abbrev Zz6 (f58:Zr4) (f17:ZoA) (f59:Zuc) (f6:zT6) (f60:Zmr):Cfg:=Z6 Tryz.prog [(114,ZvE f58),(183,ZtW f17),(201,Zwb f59),(184,zk6 f6),(113,ZsG f60)] 93 [] [] [] Z8
theorem Zx2 (f58:Zr4) (f17:ZoA) (f59:Zuc) (f6:zT6) (f60:Zmr):Yd (Zz6 f58 f17 f59 f6 f60) Tryz.f113 (.seq (.leaf) (.seq (.leaf) (.seq (.leaf) (.block (.seq (.leaf) (.cond (.leaf) (.seq (.leaf) (.cond (.leaf) (.seq (.leaf) (.cond (.leaf) (.seq (.leaf) (.cond (.order (.take 0 (.take 1 (.take 2 (.take 3 (.take 4 (.take 5 .done))))))) (.seq (.leaf) (.cond (.leaf) (.seq (.leaf) (.cut [4] [.one (.S)] [(14,16)] (.leaf) (.seq (.order (.take 0 (.take 1 (.take 2 (.take 3 (.take 4 (.take 5 .done))))))) (.seq (.seq (.leaf) (.block (.loop [26] [.one (.I .i64)] [(5,6),(27,54)] (.seq (.leaf) (.seq (.leaf) (.seq (.block (.seq (.leaf) (.cut [] [] [(31,36)] (.leaf) (.cut [] [] [(37,50)] (.leaf) (.leaf))))) (.leaf))))))) (.order (.take 0 (.take 1 (.take 2 (.take 3 (.take 4 (.take 5 .done))))))))))))))))))))))))) (ZsG (Zbj f58 f17 f59 f6 f60)):=fun _ _ _ _=>by kernel_rfl
theorem ZyR (f60:Zmr) (hH:Zt Tryz.prog 113 (ZsG f60)):Zt Tryz.prog 113 (ZsG (Zaa f60)):=okF (Zx2 Ys Zx XM Zz f60) Tryz.func113 Zs (ZM _ (.cons Zxp (.cons ZvV (.cons Zzl (.cons zo6 (.cons hH .nil))))) .nil .nil .nil (ZL _)) (hlen:=Nat.le_of_ble_eq_true rfl)
theorem Zxj:∀ n,Zt Tryz.prog 113 (ZsG (YD n))
 | 0=>Ze8 Tryz.func113 (by kernel_rfl) (by kernel_rfl) fun _ _ _ _ h=>h
 | n+1=>ZyR _ (Zxj n)
theorem Zzk:Zt Tryz.prog 113 (ZsG Zbf):=ZlS Zxj
abbrev Zwa (f:Zub):Zj:=⟨[.agg [.I .u8,.S,.L,.L]],[.one (.S),.one (.I .i64)],fun t K _ h=>f t.1 (fun r0 r1 h=>K (r0,r1,()) h) h⟩
abbrev Zz5 (f57:Zoz) (f60:Zmr) (f58:Zr4) (f4:zT4):Cfg:=Z6 Tryz.prog [(22,ZtV f57),(113,ZsG f60),(114,ZvE f58),(115,⟨[.one (.P)],[.one (.S)],fun t K _ h=>f4 t.1 (fun r0 h=>K (r0,()) h) h⟩)] 15 [] [] [] Z8
theorem Zx1 (f57:Zoz) (f60:Zmr) (f58:Zr4) (f4:zT4):Yd (Zz5 f57 f60 f58 f4) Tryz.f36 (.leaf) (Zwa (Zen f57 f60 f58 f4)):=fun _ _ _ _=>by kernel_rfl
theorem Zzj:Zt Tryz.prog 36 (Zwa Zcn):=okF (Zx1 XO Zbf Ys Yl) Tryz.func36 Zs (ZM _ (.cons ZvU (.cons Zzk (.cons Zxp (.cons Za5 .nil)))) .nil .nil .nil (ZL _))
abbrev ZvD (f:Zr3):Zj:=⟨[.one (.I .i64)],[.agg [.I .u8,.S,.L,.L]],fun t K _ h=>f t.1 (fun r0 h=>K (r0,()) h) h⟩
abbrev Zz4 (f62:ZtJ):Cfg:=Z6 Tryz.prog [(31,⟨[.one (.I .i64)],[.one (.S)],fun t K _ h=>f62 t.1 (fun r0 h=>K (r0,()) h) h⟩)] 6 [] [] [] Z8
theorem Zx0 (f62:ZtJ):Yd (Zz4 f62) Tryz.f30 (.leaf) (ZvD (Zeo f62)):=fun _ _ _ _=>by kernel_rfl
theorem Zxo:Zt Tryz.prog 30 (ZvD Zaw):=okF (Zx0 Za6) Tryz.func30 Zs (ZM _ (.cons Zec .nil) .nil .nil .nil (ZL _))
abbrev Zv9 (f:Zua):Zj:=⟨[.one (.S),.one (.S)],[.one (.S),.one (.B)],fun t K _ h=>f t.1 t.2.1 (fun r0 r1 h=>K (r0,r1,()) h) h⟩
abbrev Zz3 (f8:zT8):Cfg:=Z6 Tryz.prog [(249,zk8 f8)] 15 [] [] [] Z8
theorem ZxZ (f8:zT8):Yd (Zz3 f8) Tryz.f180 (.leaf) (Zv9 (YR f8)):=fun _ _ _ _=>by kernel_rfl
theorem Zzi:Zt Tryz.prog 180 (Zv9 Yn):=okF (ZxZ ZA) Tryz.func180 Zs (ZM _ (.cons zo8 .nil) .nil .nil .nil (ZL _))
abbrev Zv8 (f:Zt9):Zj:=⟨[.one (.S),.one (.S)],[.one (.S),.one (.B)],fun t K _ h=>f t.1 t.2.1 (fun r0 r1 h=>K (r0,r1,()) h) h⟩
abbrev Zz2 (f64:Zua):Cfg:=Z6 Tryz.prog [(180,Zv9 f64)] 11 [] [] [] Z8
theorem ZxY (f64:Zua):Yd (Zz2 f64) Tryz.f101 (.leaf) (Zv8 (Zbh f64)):=fun _ _ _ _=>by kernel_rfl
theorem Zzh:Zt Tryz.prog 101 (Zv8 Xr):=okF (ZxY Yn) Tryz.func101 Zs (ZM _ (.cons Zzi .nil) .nil .nil .nil (ZL _))
abbrev Zv7 (f:Zt8):Zj:=⟨[.one (.S),.one (.S)],[.one (.S)],fun t K _ h=>f t.1 t.2.1 (fun r0 h=>K (r0,()) h) h⟩
abbrev Zz1 (f8:zT8):Cfg:=Z6 Tryz.prog [(249,zk8 f8)] 13 [] [] [] Z8
theorem ZxX (f8:zT8):Yd (Zz1 f8) Tryz.f261 (.leaf) (Zv7 (YL f8)):=fun _ _ _ _=>by kernel_rfl
theorem Zzg:Zt Tryz.prog 261 (Zv7 Yi):=okF (ZxX ZA) Tryz.func261 Zs (ZM _ (.cons zo8 .nil) .nil .nil .nil (ZL _))
abbrev Zv6 (f:Zt7):Zj:=⟨[.one (.S),.one (.S)],[.one (.S)],fun t K _ h=>f t.1 t.2.1 (fun r0 h=>K (r0,()) h) h⟩
abbrev Zz0 (f70:Zt8):Cfg:=Z6 Tryz.prog [(261,Zv7 f70)] 8 [] [] [] Z8
theorem ZxW (f70:Zt8):Yd (Zz0 f70) Tryz.f194 (.leaf) (Zv6 (ZaU f70)):=fun _ _ _ _=>by kernel_rfl
theorem Zzf:Zt Tryz.prog 194 (Zv6 Xc):=okF (ZxW Yi) Tryz.func194 Zs (ZM _ (.cons Zzg .nil) .nil .nil .nil (ZL _))
abbrev Zv5 (f:Zt6):Zj:=⟨[.one (.S)],[.one (.I .i64),.one (.B)],fun t K _ h=>f t.1 (fun r0 r1 h=>K (r0,r1,()) h) h⟩
abbrev ZzZ (f71:Zt7) (f72:ZtI):Cfg:=Z6 Tryz.prog [(194,Zv6 f71),(108,⟨[.one (.S)],[.one (.I .i64),.one (.V)],fun t K _ h=>f72 t.1 (fun r0 r1 h=>K (r0,r1,()) h) h⟩)] 25 [] [] [] Z8
theorem ZxV (f71:Zt7) (f72:ZtI):Yd (ZzZ f71 f72) Tryz.f106 (.leaf) (Zv5 (ZcO f71 f72)):=fun _ _ _ _=>by kernel_rfl
theorem Zze:Zt Tryz.prog 106 (Zv5 Zau):=okF (ZxV Xc XU) Tryz.func106 Zs (ZM _ (.cons Zzf (.cons Zed .nil)) .nil .nil .nil (ZL _))
abbrev ZvC (f:Zr2):Zj:=⟨[.agg [.I .u8,.S,.L,.L]],[.one (.I .i64),.one (.B)],fun t K _ h=>f t.1 (fun r0 r1 h=>K (r0,r1,()) h) h⟩
abbrev ZzY (f57:Zoz) (f65:Zt9) (f66:ZwK) (f67:ZwJ) (f68:ZwI) (f69:ZwH) (f73:Zt6) (f74:ZwG) (f72:ZtI):Cfg:=Z6 Tryz.prog [(22,ZtV f57),(101,Zv8 f65),(103,⟨[.one (.S)],[.one (.S)],fun t K _ h=>f66 t.1 (fun r0 h=>K (r0,()) h) h⟩),(102,⟨[.one (.S),.one (.S)],[.one (.S),.one (.S),.one (.B)],fun t K _ h=>f67 t.1 t.2.1 (fun r0 r1 r2 h=>K (r0,r1,r2,()) h) h⟩),(104,⟨[.one (.S),.one (.S)],[.one (.S)],fun t K _ h=>f68 t.1 t.2.1 (fun r0 h=>K (r0,()) h) h⟩),(105,⟨[.one (.S),.one (.S)],[.one (.S)],fun t K _ h=>f69 t.1 t.2.1 (fun r0 h=>K (r0,()) h) h⟩),(106,Zv5 f73),(107,⟨[.one (.S),.one (.I .i64)],[.one (.S)],fun t K _ h=>f74 t.1 t.2.1 (fun r0 h=>K (r0,()) h) h⟩),(108,⟨[.one (.S)],[.one (.I .i64),.one (.V)],fun t K _ h=>f72 t.1 (fun r0 r1 h=>K (r0,r1,()) h) h⟩)] 92 [] [] [] Z8
theorem ZxU (f57:Zoz) (f65:Zt9) (f66:ZwK) (f67:ZwJ) (f68:ZwI) (f69:ZwH) (f73:Zt6) (f74:ZwG) (f72:ZtI):Yd (ZzY f57 f65 f66 f67 f68 f69 f73 f74 f72) Tryz.f28 (.seq (.leaf) (.seq (.leaf) (.seq (.leaf) (.seq (.leaf) (.seq (.leaf) (.seq (.leaf) (.seq (.leaf) (.seq (.leaf) (.seq (.leaf) (.seq (.leaf) (.seq (.leaf) (.seq (.leaf) (.seq (.leaf) (.cut [11] [.one (.S)] [(81,83)] (.leaf) (.leaf))))))))))))))) (ZvC (Zel f57 f65 f66 f67 f68 f69 f73 f74 f72)):=fun _ _ _ _=>by kernel_rfl
theorem Zxn:Zt Tryz.prog 28 (ZvC Zav):=okF (ZxU XO Xr Zb6 ZbK ZbJ Zad Zau Zcq XU) Tryz.func28 Zs (ZM _ (.cons ZvU (.cons Zzh (.cons Zfz (.cons Zil (.cons Ze7 (.cons ZeR (.cons Zze (.cons Zf9 (.cons Zed .nil))))))))) .nil .nil .nil (ZL _))
abbrev ZsF (f:Znu):Zj:=⟨[.agg [.I .u8,.S,.L,.L],.one (.I .i64)],[.one (.I .i64)],fun t K _ h=>f t.1 t.2.1 (fun r0 h=>K (r0,()) h) h⟩
abbrev ZzX (f76:Znu):Cfg:=Z6 Tryz.prog [(204,ZsF f76)] 27 [] [] [] Z8
theorem ZxT (f76:Znu):Yd (ZzX f76) Tryz.f204 (.seq (.leaf) (.seq (.leaf) (.seq (.seq (.leaf) (.block (.loop [5,11] [.one (.I .i64),.one (.I .i64)] [(7,7),(12,25)] (.leaf)))) (.leaf)))) (ZsF (Zdx f76)):=fun _ _ _ _=>by kernel_rfl
theorem ZyQ (f76:Znu) (hH:Zt Tryz.prog 204 (ZsF f76)):Zt Tryz.prog 204 (ZsF (Zcu f76)):=okF (ZxT f76) Tryz.func204 Zs (ZM _ (.cons hH .nil) .nil .nil .nil (ZL _)) (hlen:=Nat.le_of_ble_eq_true rfl)
theorem Zxi:∀ n,Zt Tryz.prog 204 (ZsF (X3 n))
 | 0=>Ze8 Tryz.func204 (by kernel_rfl) (by kernel_rfl) fun _ _ _ _ h=>h
 | n+1=>ZyQ _ (Zxi n)
theorem Zzd:Zt Tryz.prog 204 (ZsF Zdt):=ZlS Zxi
abbrev Zv4 (f:Zt5):Zj:=⟨[.agg [.I .u8,.S,.L,.L]],[.one (.B)],fun t K _ h=>f t.1 (fun r0 h=>K (r0,()) h) h⟩
abbrev ZzW (f76:Znu):Cfg:=Z6 Tryz.prog [(204,ZsF f76)] 6 [] [] [] Z8
theorem ZxS (f76:Znu):Yd (ZzW f76) Tryz.f118 (.leaf) (Zv4 (Zek f76)):=fun _ _ _ _=>by kernel_rfl
theorem Zzc:Zt Tryz.prog 118 (Zv4 Zcm):=okF (ZxS Zdt) Tryz.func118 Zs (ZM _ (.cons Zzd .nil) .nil .nil .nil (ZL _))
abbrev Zv3 (f:Zt4):Zj:=⟨[.agg [.I .u8,.S,.L,.L]],[.one (.I .i64)],fun t K _ h=>f t.1 (fun r0 h=>K (r0,()) h) h⟩
abbrev ZzV (f77:Zt5) (f53:ZgS):Cfg:=Z6 Tryz.prog [(118,Zv4 f77),(93,Zoy f53)] 19 [] [] [] Z8
theorem ZxR (f77:Zt5) (f53:ZgS):Yd (ZzV f77 f53) Tryz.f39 (.leaf) (Zv3 (Zep f77 f53)):=fun _ _ _ _=>by kernel_rfl
theorem Zzb:Zt Tryz.prog 39 (Zv3 Zco):=okF (ZxR Zcm X5) Tryz.func39 Zs (ZM _ (.cons Zzc (.cons Zxq .nil)) .nil .nil .nil (ZL _))
abbrev Zv2 (f:Zt3):Zj:=⟨[],[.one (.B)],fun _ K _ h=>f (fun r0 h=>K (r0,()) h) h⟩
abbrev ZzU (f26:ZsK) (f61:Zub) (f63:Zr3) (f75:Zr2) (f78:Zt4):Cfg:=Z6 Tryz.prog [(25,⟨[.one (.S)],[.agg [.I .u8,.S,.L,.L],.one (.I .i64),.one (.I .i64)],fun t K _ h=>f26 t.1 (fun r0 r1 r2 h=>K (r0,r1,r2,()) h) h⟩),(36,Zwa f61),(30,ZvD f63),(28,ZvC f75),(39,Zv3 f78)] 61 [] [] [] Z8
theorem ZxQ (f26:ZsK) (f61:Zub) (f63:Zr3) (f75:Zr2) (f78:Zt4):Yd (ZzU f26 f61 f63 f75 f78) Tryz.f27 (.leaf) (Zv2 (ZaV f26 f61 f63 f75 f78)):=fun _ _ _ _=>by kernel_rfl
theorem Zza:Zt Tryz.prog 27 (Zv2 Xd):=okF (ZxQ Xn Zcn Zaw Zav Zco) Tryz.func27 Zs (ZM _ (.cons ZfA (.cons Zzj (.cons Zxo (.cons Zxn (.cons Zzb .nil))))) .nil .nil .nil (ZL _))
abbrev ZsE (f:Znt):Zj:=⟨[.agg [.I .u8,.S,.L,.L],.one (.I .i64)],[.one (.I .i64)],fun t K _ h=>f t.1 t.2.1 (fun r0 h=>K (r0,()) h) h⟩
abbrev ZzT (f85:Znt):Cfg:=Z6 Tryz.prog [(111,ZsE f85)] 31 [] [] [] Z8
theorem ZxP (f85:Znt):Yd (ZzT f85) Tryz.f111 (.seq (.leaf) (.seq (.leaf) (.seq (.seq (.leaf) (.block (.loop [5,6] [.one (.I .i64),.one (.I .i64)] [(7,29)] (.leaf)))) (.leaf)))) (ZsE (ZaB f85)):=fun _ _ _ _=>by kernel_rfl
theorem ZyP (f85:Znt) (hH:Zt Tryz.prog 111 (ZsE f85)):Zt Tryz.prog 111 (ZsE (XK f85)):=okF (ZxP f85) Tryz.func111 Zs (ZM _ (.cons hH .nil) .nil .nil .nil (ZL _)) (hlen:=Nat.le_of_ble_eq_true rfl)
theorem Zxh:∀ n,Zt Tryz.prog 111 (ZsE (Yv n))
 | 0=>Ze8 Tryz.func111 (by kernel_rfl) (by kernel_rfl) fun _ _ _ _ h=>h
 | n+1=>ZyP _ (Zxh n)
theorem Zy9:Zt Tryz.prog 111 (ZsE Zas):=ZlS Zxh
abbrev Zv1 (f:Zt2):Zj:=⟨[.agg [.I .u8,.S,.L,.L]],[.one (.B)],fun t K _ h=>f t.1 (fun r0 h=>K (r0,()) h) h⟩
abbrev ZzS (f85:Znt):Cfg:=Z6 Tryz.prog [(111,ZsE f85)] 6 [] [] [] Z8
theorem ZxO (f85:Znt):Yd (ZzS f85) Tryz.f33 (.leaf) (Zv1 (ZaF f85)):=fun _ _ _ _=>by kernel_rfl
theorem Zy8:Zt Tryz.prog 33 (Zv1 Y0):=okF (ZxO Zas) Tryz.func33 Zs (ZM _ (.cons Zy9 .nil) .nil .nil .nil (ZL _))
abbrev Zv0 (f:Zt1):Zj:=⟨[.one (.S)],[.one (.B)],fun t K _ h=>f t.1 (fun r0 h=>K (r0,()) h) h⟩
abbrev ZzR (f36:Zr7):Cfg:=Z6 Tryz.prog [(273,ZvH f36)] 54 [] [] [] Z8
theorem ZxN (f36:Zr7):Yd (ZzR f36) Tryz.f203 (.seq (.leaf) (.seq (.seq (.leaf) (.block (.loop [3] [.one (.I .i64)] [(2,2),(4,53)] (.seq (.leaf) (.block (.seq (.leaf) (.seq (.leaf) (.seq (.seq (.leaf) (.block (.loop [5,6,7] [.one (.I .u8),.one (.I .u8),.one (.I .i64)] [(2,2),(30,50)] (.leaf)))) (.leaf))))))))) (.leaf))) (Zv0 (Zaz f36)):=fun _ _ _ _=>by kernel_rfl
theorem Zy7:Zt Tryz.prog 203 (Zv0 YW):=okF (ZxN Ye) Tryz.func203 Zs (ZM _ (.cons Zxt .nil) .nil .nil .nil (ZL _))
abbrev ZsD (f:Zns):Zj:=⟨[.agg [.I .u8,.S,.L,.L],.one (.I .i64)],[.one (.B)],fun t K _ h=>f t.1 t.2.1 (fun r0 h=>K (r0,()) h) h⟩
abbrev ZzQ (f46:Zum) (f87:Zt1) (f88:Zns):Cfg:=Z6 Tryz.prog [(26,Zwl f46),(203,Zv0 f87),(117,ZsD f88)] 133 [] [] [] Z8
theorem ZxM (f46:Zum) (f87:Zt1) (f88:Zns):Yd (ZzQ f46 f87 f88) Tryz.f117 (.seq (.leaf) (.cut [] [] [(4,4),(10,49)] (.leaf) (.cut [] [] [(4,7),(50,86)] (.seq (.leaf) (.block (.cut [52] [.one (.B)] [(53,55)] (.leaf) (.leaf)))) (.cut [] [] [(4,4),(87,102)] (.leaf) (.seq (.seq (.leaf) (.block (.loop [8] [.one (.I .i64)] [(4,4),(103,116)] (.leaf)))) (.seq (.seq (.leaf) (.block (.loop [9] [.one (.I .i64)] [(4,4),(117,132)] (.leaf)))) (.leaf))))))) (ZsD (Zay f46 f87 f88)):=fun _ _ _ _=>by kernel_rfl
theorem ZyO (f88:Zns) (hH:Zt Tryz.prog 117 (ZsD f88)):Zt Tryz.prog 117 (ZsD (XJ f88)):=okF (ZxM YZ YW f88) Tryz.func117 Zs (ZM _ (.cons Zzs (.cons Zy7 (.cons hH .nil))) .nil .nil .nil (ZL _)) (hlen:=Nat.le_of_ble_eq_true rfl)
theorem Zxg:∀ n,Zt Tryz.prog 117 (ZsD (Yu n))
 | 0=>Ze8 Tryz.func117 (by kernel_rfl) (by kernel_rfl) fun _ _ _ _ h=>h
 | n+1=>ZyO _ (Zxg n)
theorem Zy6:Zt Tryz.prog 117 (ZsD Zar):=ZlS Zxg
abbrev ZvZ (f:Zt0):Zj:=⟨[.agg [.I .u8,.S,.L,.L]],[.one (.B)],fun t K _ h=>f t.1 (fun r0 h=>K (r0,()) h) h⟩
abbrev ZzP (f86:Zt2) (f88:Zns):Cfg:=Z6 Tryz.prog [(33,Zv1 f86),(117,ZsD f88)] 10 [] [] [] Z8
theorem ZxL (f86:Zt2) (f88:Zns):Yd (ZzP f86 f88) Tryz.f38 (.leaf) (ZvZ (ZaD f86 f88)):=fun _ _ _ _=>by kernel_rfl
theorem Zy5:Zt Tryz.prog 38 (ZvZ YY):=okF (ZxL Y0 Zar) Tryz.func38 Zs (ZM _ (.cons Zy8 (.cons Zy6 .nil)) .nil .nil .nil (ZL _))
abbrev ZvY (f:ZtZ):Zj:=⟨[.one (.S)],[.one (.S),.one (.I .i64),.one (.B)],fun t K _ h=>f t.1 (fun r0 r1 r2 h=>K (r0,r1,r2,()) h) h⟩
abbrev ZzO (f31:Zko):Cfg:=Z6 Tryz.prog [(175,ZsH f31)] 127 [] [] [] Z8
theorem ZxK (f31:Zko):Yd (ZzO f31) Tryz.f109 (.seq (.leaf) (.cut [5] [.one (.B)] [(12,19)] (.leaf) (.seq (.leaf) (.cut [6] [.one (.I .i64)] [(20,20)] (.leaf) (.seq (.leaf) (.seq (.leaf) (.seq (.leaf) (.cut [6,7,8] [.one (.I .i64),.one (.S),.one (.I .i64)] [(9,9),(21,52)] (.block (.loop [6,7,8,9] [.one (.I .i64),.one (.S),.one (.I .i64),.one (.B)] [(21,52)] (.cut [] [] [(21,36)] (.leaf) (.leaf)))) (.seq (.leaf) (.cut [10] [.one (.I .i64)] [(6,6),(11,11),(53,93)] (.seq (.leaf) (.cond (.seq (.leaf) (.seq (.leaf) (.cut [6] [.one (.I .i64)] [(63,74)] (.leaf) (.seq (.block (.loop [6,10] [.one (.I .i64),.one (.I .i64)] [(75,90)] (.leaf))) (.leaf))))) (.leaf))) (.cut [7] [.one (.S)] [(94,103)] (.block (.loop [7] [.one (.S)] [(94,103)] (.leaf))) (.cut [7,8] [.one (.S),.one (.I .i64)] [(104,121)] (.block (.loop [7,8] [.one (.S),.one (.I .i64)] [(104,121)] (.leaf))) (.leaf))))))))))))) (ZvY (X6 f31)):=fun _ _ _ _=>by kernel_rfl
theorem Zy4:Zt Tryz.prog 109 (ZvY YC):=okF (ZxK ZE) Tryz.func109 Zs (ZM _ (.cons ZtT .nil) .nil .nil .nil (ZL _))
abbrev ZvX (f:ZtY):Zj:=⟨[.agg [.I .u8,.S,.L,.L]],[.one (.I .i64),.one (.B)],fun t K _ h=>f t.1 (fun r0 r1 h=>K (r0,r1,()) h) h⟩
abbrev ZzN (f89:Zt0) (f90:ZtZ):Cfg:=Z6 Tryz.prog [(38,ZvZ f89),(109,ZvY f90)] 75 [] [] [] Z8
theorem ZxJ (f89:Zt0) (f90:ZtZ):Yd (ZzN f89 f90) Tryz.f29 (.seq (.leaf) (.seq (.leaf) (.seq (.leaf) (.seq (.leaf) (.seq (.leaf) (.seq (.leaf) (.seq (.seq (.leaf) (.block (.loop [7,8] [.one (.I .u64),.one (.I .i64)] [(39,59)] (.leaf)))) (.cut [] [] [(2,3),(60,67)] (.leaf) (.leaf))))))))) (ZvX (ZaC f89 f90)):=fun _ _ _ _=>by kernel_rfl
theorem Zy3:Zt Tryz.prog 29 (ZvX YX):=okF (ZxJ YY YC) Tryz.func29 Zs (ZM _ (.cons Zy5 (.cons Zy4 .nil)) .nil .nil .nil (ZL _))
abbrev ZvW (f:ZtX):Zj:=⟨[.one (.S)],[.agg [.I .u8,.S,.L,.L]],fun t K _ h=>f t.1 (fun r0 h=>K (r0,()) h) h⟩
abbrev ZzM:Cfg:=Z6 Tryz.prog [] 5 [] [] [] Z8
theorem ZxI:Yd (ZzM) Tryz.f32 (.leaf) (ZvW Zdz):=fun _ _ _ _=>by kernel_rfl
theorem Zy2:Zt Tryz.prog 32 (ZvW ZbM):=okF (ZxI) Tryz.func32 Zs (ZM _ .nil .nil .nil .nil (ZL _))
abbrev Zxw (f:Zxx):Zj:=⟨[.one (.S),.one (.I .i64),.one (.S)],[.one (.B)],fun t K _ h=>f t.1 t.2.1 t.2.2.1 (fun r0 h=>K (r0,()) h) h⟩
abbrev ZzL (f75:Zr2) (f91:ZtY) (f63:Zr3) (f79:Zt3) (f62:ZtJ) (f92:ZtX) (f57:Zoz):Cfg:=Z6 Tryz.prog [(28,ZvC f75),(29,ZvX f91),(30,ZvD f63),(27,Zv2 f79),(31,⟨[.one (.I .i64)],[.one (.S)],fun t K _ h=>f62 t.1 (fun r0 h=>K (r0,()) h) h⟩),(32,ZvW f92),(22,ZtV f57)] 150 [] [] [] Z8
theorem ZxH (f75:Zr2) (f91:ZtY) (f63:Zr3) (f79:Zt3) (f62:ZtJ) (f92:ZtX) (f57:Zoz):Yd (ZzL f75 f91 f63 f79 f62 f92 f57) Tryz.f9 (.seq (.leaf) (.seq (.leaf) (.seq (.leaf) (.seq (.leaf) (.seq (.leaf) (.seq (.leaf) (.seq (.leaf) (.seq (.leaf) (.cut [14] [.one (.I .i64)] [(83,100)] (.block (.loop [14] [.one (.I .i64)] [(83,100)] (.leaf))) (.seq (.leaf) (.seq (.seq (.leaf) (.block (.loop [15,16] [.one (.B),.one (.I .i64)] [(101,112)] (.leaf)))) (.seq (.leaf) (.cut [17] [.one (.S)] [(121,130)] (.leaf) (.leaf)))))))))))))) (Zxw (XB f75 f91 f63 f79 f62 f92 f57)):=fun _ _ _ _=>by kernel_rfl
theorem Zct:Zt Tryz.prog 9 (Zxw Xs):=okF (ZxH Zav YX Zaw Xd Za6 ZbM XO) Tryz.func9 Zs (ZM _ (.cons Zxn (.cons Zy3 (.cons Zxo (.cons Zza (.cons Zec (.cons Zy2 (.cons ZvU .nil))))))) .nil .nil .nil (ZL _))
end
end Go.Proofs.YtpjbjdheeemdiaaGreatDoor
namespace Go.Fw
open Go Go.RowKit
theorem ZpM {P:Program} {f:FuncId} {s:Zj} (ok:Zt P f s) (t:YV s.args) (w:World) {args:Array Value} (hargs:((YV.evs s.args t).map EV.v).toArray=args)
    (h:s.sem t (fun r h'=>Zsi s.res r = .bool true∧Ext w.heap h') (fun _ _=>False) w.heap):Calls P f args w fun e w'=>e = .returned (.bool true)∧Below w.heap.size w w':=by
  rw [← hargs]
  refine (ok.calls t _ _ w h).mono ?_
  rintro e w' (⟨r,rfl,hs,hr,hx⟩ | ⟨v,rfl,hs,hk⟩)
  ·exact ⟨by rw [hr],hs.2.1,hs.1,hs.2.2,hx.size,hx.old⟩
  ·exact hk.elim
end Go.Fw
namespace Go.Proofs.YtpjbjdheeemdiaaGreatDoor
open Go Go.Fw Go.ChangeShapes Go.WideShapes
section
variable {H:Type} {enc:TypeId × Value→H} {P:Program} {w:World} {base:Nat} {spare:Nat→Bool} {held:Bool}
end
end Go.Proofs.YtpjbjdheeemdiaaGreatDoor
namespace Go.Fw
open Go
def obj (h:Ze) (b:Nat):Option Obj:=h[b]?
def sz (h:Ze):Nat:=h.size
theorem ZoX {h:Ze} {x:Obj}:sz (h.push x)=sz h+1:=by unfold sz;simp
theorem Zsd {h:Ze} {b o:Nat} {v:Value}:sz (h.put b o v)=sz h:=by unfold sz;exact ZgL
def ZmQ (o:Nat) (v:Value):Option Obj→Option Obj
  | some (.cells c e f)=>some (.cells (c.setIfInBounds o v) e f)
  | x=>x
theorem Zee {o:Nat} {v:Value} {l:List Value} {e:TypeId} {f:Nat × Nat}:ZmQ o v (some (.cells l.toArray e f))=some (.cells (l.set o v).toArray e f):=by
  simp [ZmQ]
theorem Zhs {h:Ze} {b o k:Nat} {v:Value}:obj (h.put b o v) k=if k=b then ZmQ o v (obj h k) else obj h k:=by
  unfold obj Ze.put
  rw [Array.getElem?_modify]
  by_cases hk:b=k
  ·subst hk
   rw [if_pos rfl,if_pos rfl]
   cases h[b]? with
   | none=>rfl
   | some x=>cases x<;>rfl
  ·rw [if_neg hk,if_neg (Ne.symm hk)]
def Zam (o:Nat):Option Obj→Option Value
  | some (.cells c _ _)=>c[o]?
  | _=>none
def ZjP (o:Nat):Option Obj→Bool
  | some (.cells c _ f)=>decide (o<c.size)&&(f.1 ==0&&f.2 ==0)
  | _=>false
theorem ZjQ {o:Nat} {l:List Value} {e:TypeId} {f:Nat × Nat}:Zam o (some (.cells l.toArray e f))=l[o]?:=by simp [Zam]
theorem Zbb {h:Ze} {b o:Nat}:h.cell b o=Zam o (obj h b):=by unfold Ze.cell obj Zam;rfl
theorem Zp0 {h:Ze} {b o:Nat} (hf:ZjP o (obj h b)=true):(∃ u,h.cell b o=some u)∧h.froz b o=false:=by
  unfold ZjP at hf
  split at hf
  ·rename_i c e f hb
   simp only [Bool.and_eq_true,decide_eq_true_eq,beq_iff_eq] at hf
   obtain ⟨h1,h2,h3⟩:=hf
   have hb':h[b]?=some (.cells c e f):=hb
   refine ⟨⟨c[o],by unfold Ze.cell;rw [hb'];simp [h1]⟩,?_⟩
   unfold Ze.froz
   rw [hb']
   obtain ⟨lo,hi⟩:=f
   simp only at h2 h3
   subst h2 h3
   simp
  ·cases hf
theorem Zvh {h:Ze} {b o:Nat} {k:IntKind} {n:Int} {K:Int→Prop} (hc:Zam o (obj h b)=some (.int k n)):ldI h b o k K=K n :=
  propext ⟨fun ⟨m,e,hk⟩=>(by rw [Zbb,hc] at e;cases e;exact hk),fun hk=>⟨n,by rw [Zbb,hc],hk⟩⟩
theorem Zve {h:Ze} {b o:Nat} {n:ByteArray} {K:ByteArray→Prop} (hc:Zam o (obj h b)=some (.string n)):ldS h b o K=K n :=
  propext ⟨fun ⟨m,e,hk⟩=>(by rw [Zbb,hc] at e;cases e;exact hk),fun hk=>⟨n,by rw [Zbb,hc],hk⟩⟩
theorem Zvf {h:Ze} {b o:Nat} {n:Option Addr} {K:Option Addr→Prop} (hc:Zam o (obj h b)=some (.pointer n)):ldP h b o K=K n :=
  propext ⟨fun ⟨m,e,hk⟩=>(by rw [Zbb,hc] at e;cases e;exact hk),fun hk=>⟨n,by rw [Zbb,hc],hk⟩⟩
theorem Zvd {h:Ze} {b o:Nat} {n:Value} {K:Value→Prop} (hc:Zam o (obj h b)=some n):ldV h b o K=K n :=
  propext ⟨fun ⟨m,e,hk⟩=>(by rw [Zbb,hc] at e;cases e;exact hk),fun hk=>⟨n,by rw [Zbb,hc],hk⟩⟩
theorem Zvg {h:Ze} {b o:Nat} {p:Option Addr} {l c:Nat} {K:Sl→Prop} (hc:Zam o (obj h b)=some (.slice p l c)):ldL h b o K=K ⟨p,l,c⟩ :=
  propext ⟨fun ⟨m,e,hk⟩=>(by rw [Zbb,hc] at e;cases e;exact hk),fun hk=>⟨⟨p,l,c⟩,by rw [Zbb,hc],hk⟩⟩
theorem Zm5 {h:Ze} {b:Nat}:∀ (n o:Nat),(∀ i,i<n→ZjP (o+i) (obj h b)=true)→h.free b o n
  | 0,_,_=>trivial
  | n+1,o,hf=>⟨Zp0 (by have:=hf 0 (by omega);simpa using this),Zm5 n (o+1) fun i hi=>by have:=hf (i+1) (by omega);rw [show o+1+i=o+(i+1) from by omega];exact this⟩
def Zp1 (o n:Nat):Option Obj→Bool
  | some (.cells c _ f)=>decide (o+n≤c.size)&&(f.1 ==0&&f.2 ==0)
  | _=>false
theorem Zbn {o n:Nat} {l:List Value} {e:TypeId}:Zp1 o n (some (.cells l.toArray e (0,0)))=decide (o+n≤l.length):=by simp [Zp1]
theorem ZrD {h:Ze} {b o n:Nat} (hf:Zp1 o n (obj h b)=true):h.free b o n:=by
  refine Zm5 n o fun i hi=>?_
  unfold Zp1 at hf
  split at hf
  ·rename_i c e f hb
   rw [hb]
   simp only [Bool.and_eq_true,decide_eq_true_eq] at hf
   simp only [ZjP,Bool.and_eq_true,decide_eq_true_eq]
   exact ⟨by omega,hf.2⟩
  ·cases hf
theorem Zg9 {h:Ze} {b o:Nat} {vs:List Value} {K:Ze→Prop} (hf:Zp1 o vs.length (obj h b)=true) (hv:vs.all Z7=true):sts h b o vs K=K (h.puts b o vs) :=
  propext ⟨fun hk=>hk.2.2,fun hk=>⟨ZrD hf,hv,hk⟩⟩
theorem Zd2 {h:Ze} {b o:Nat} {vs:List Value}:sz (h.puts b o vs)=sz h:=Zfw
def Zht:Nat→List Value→Option Obj→Option Obj
  | _,[],x=>x
  | o,v::vs,x=>Zht (o+1) vs (ZmQ o v x)
def XZ:Nat→List Value→List Value→List Value
  | _,[],l=>l
  | o,v::vs,l=>XZ (o+1) vs (l.set o v)
theorem Xi {e:TypeId} {f:Nat × Nat}:∀ {vs:List Value} {o:Nat} {l:List Value},Zht o vs (some (.cells l.toArray e f))=some (.cells (XZ o vs l).toArray e f)
  | [],_,_=>rfl
  | v::vs,o,l=>by unfold Zht XZ;rw [Zee,Xi]
theorem ZaL {b:Nat}:∀ {vs:List Value} {h:Ze} {o k:Nat},obj (h.puts b o vs) k=if k=b then Zht o vs (obj h k) else obj h k
  | [],h,o,k=>by
    unfold Ze.puts Zht
    split<;>rfl
  | v::vs,h,o,k=>by
    unfold Ze.puts
    rw [ZaL,Zhs]
    by_cases hk:k=b
    ·rw [if_pos hk,if_pos hk,if_pos hk];rfl
    ·rw [if_neg hk,if_neg hk,if_neg hk]
theorem Zl6 {b o l size:Nat} {i:Int} {n:Nat} {K:Nat→Nat→Prop} (hi:i=(n:Int)) (hl:n<l) (hk:K b (o+n*size)):ZjY (some ⟨b,o,none⟩) l i size K:=by
  subst hi
  exact ⟨b,o,rfl,by omega,by omega,by simpa using hk⟩
theorem ZuO {s t:Sl}:(slV s=slV t)=(s=t):=by
  refine propext ⟨fun h=>?_,fun h=>by rw [h]⟩
  cases s;cases t
  unfold slV at h
  injection h with h1 h2 h3
  subst h1 h2 h3
  rfl
theorem Zcp {k:IntKind} {n:Int}:Z7 (.int k n)=true:=by simp [Z7]
theorem Zhq {b:Option Addr} {l c:Nat}:Z7 (.slice b l c)=true:=by simp [Z7]
theorem YB {h h':Ze} (e:Ext h h') {b:Nat} (hb:b<sz h):obj h' b=obj h b:=e.old b hb
theorem ZY {S:Nat→Prop} {h h':Ze} (e:Upd S h h') {b:Nat} (hb:b<sz h) (hs:¬ S b):obj h' b=obj h b:=e.old b hb hs
theorem ZqU {S:Nat→Prop} {h h1:Ze} {b o:Nat} {vs:List Value} (he:Upd S h h1) (hb:sz h≤b∨S b):Upd S h (h1.puts b o vs) :=
  ⟨by rw [Zfw];exact he.size,fun k hk hs=>(Zf5 fun e=>by subst e;exact hb.elim (fun h9=>by unfold sz at h9;omega) hs).trans (he.old k hk hs)⟩
theorem ZbI {h:Ze} {b:Nat} {x:Obj} (hb:obj h b=some x):b<sz h:=by
  unfold obj at hb
  rcases Nat.lt_or_ge b h.size with hl | hl
  ·exact hl
  ·rw [Array.getElem?_eq_none hl] at hb;cases hb
theorem Y2 {h h':Ze} {b:Nat} {x:Obj} (hb:obj h b=some x) (e:Ext h h'):obj h' b=some x:=(YB e (ZbI hb)).trans hb
theorem Yx {S:Nat→Prop} {h h':Ze} {b:Nat} {x:Obj} (hb:obj h b=some x) (e:Upd S h h') (hs:¬ S b):obj h' b=some x:=(ZY e (ZbI hb) hs).trans hb
theorem Ext.updS {h h1 h2:Ze} {S:Nat→Prop} (e:Ext h h1) (u:Upd S h1 h2) (hs:∀ k,S k→sz h≤k):Ext h h2:=e.then u fun k hk=>hs k hk
end Go.Fw
namespace Go.Js
open Go
abbrev BL:=List UInt8
inductive JL where
  | nil
  | cons (k:Nat) (t:BL) (ns:List BL) (sub rest:JL)
deriving DecidableEq
structure JV where
  k:Nat
  t:BL
  ns:List BL
  sub:JL
deriving DecidableEq
namespace JL
def len:JL→Nat
  | nil=>0
  | cons _ _ _ _ r=>r.len+1
def snoc (v:JV):JL→JL
  | nil=>cons v.k v.t v.ns v.sub nil
  | cons k t ns s r=>cons k t ns s (r.snoc v)
def isNil:JL→Bool
  | nil=>true
  | _=>false
theorem len_snoc (v:JV):∀ l:JL,(l.snoc v).len=l.len+1
  | nil=>rfl
  | cons _ _ _ _ r=>by simp [snoc,len,len_snoc v r]
theorem len_nil {l:JL}:l.len=0↔l=nil:=by cases l<;>simp [len]
end JL
inductive Out (α:Type) where
  | ok (a:α) (r:BL)
  | err (e:Nat) (r:BL)
def Out.bind {α β:Type}:Out α→(α→BL→Out β)→Out β
  | .ok a r,f=>f a r
  | .err e r,_=> .err e r
@[simp] theorem Out.bind_ok {α β:Type} (a:α) (r:BL) (f:α→BL→Out β):(Out.ok a r).bind f=f a r:=rfl
@[simp] theorem Out.bind_err {α β:Type} (e:Nat) (r:BL) (f:α→BL→Out β):(Out.err e r:Out α).bind f = .err e r:=rfl
def XC {α:Type} (e:Nat):BL→Out α
  | []=> .err 24 []
  | c::l=> .err e (c::l)
def Yf (c:UInt8):Bool:=c ==32||c ==9||c ==10||c ==13
def Yw (c:UInt8):Bool:=decide (48≤c.toNat)&&decide (c.toNat≤57)
def ZI (l:BL):BL:=l.dropWhile Yf
def Xo:BL→BL→Out Unit
  | [],l=> .ok () l
  | c::w,d::l=>if d=c then Xo w l else .err 20 (d::l)
  | _::_,[]=> .err 24 []
def Z0:BL→Out Unit
  | c::l=>if Yw c then .ok () (l.dropWhile Yw) else .err 21 (c::l)
  | []=> .err 24 []
def Xb:BL→BL
  | c::l=>if c=45 then l else c::l
  | []=>[]
def Zdp:BL→BL
  | c::l=>if c=43∨c=45 then l else c::l
  | []=>[]
def X9:BL→Out Unit
  | c::l=>if Yw c then .err 21 (c::l) else .ok () (c::l)
  | []=> .ok () []
def ZeS:BL→Out Unit
  | c::l=>if c=48 then X9 l else Z0 (c::l)
  | []=> .err 24 []
def ZcP:BL→Out Unit
  | c::l=>if c=46 then Z0 l else .ok () (c::l)
  | []=> .ok () []
def Zfm:BL→Out Unit
  | c::l=>if c=101∨c=69 then Z0 (Zdp l) else .ok () (c::l)
  | []=> .ok () []
def ZcA (l:BL):Out Unit:=(ZeS (Xb l)).bind fun _ l1=>(ZcP l1).bind fun _ l2=>Zfm l2
def ZdZ (l r:BL):BL:=l.take (l.length - r.length)
def Zfd (c:UInt8):Option Nat :=
  if 48≤c.toNat∧c.toNat≤57 then some (c.toNat - 48)
  else if 97≤c.toNat∧c.toNat≤102 then some (c.toNat - 87)
  else if 65≤c.toNat∧c.toNat≤70 then some (c.toNat - 55)
  else none
def ZbN:Nat→Nat→BL→Out Nat
  | 0,n,l=> .ok n l
  | _+1,_,[]=> .err 24 []
  | k+1,n,c::l=>match Zfd c with
    | some d=>ZbN k (n*16+d) l
    | none=> .err 22 (c::l)
def ZbB (n:Nat):BL :=
  if n<128 then [UInt8.ofNat n]
  else if n<2048 then [UInt8.ofNat (192+n / 64),UInt8.ofNat (128+n % 64)]
  else if n<65536 then [UInt8.ofNat (224+n / 4096),UInt8.ofNat (128+n / 64 % 64),UInt8.ofNat (128+n % 64)]
  else [UInt8.ofNat (240+n / 262144),UInt8.ofNat (128+n / 4096 % 64),UInt8.ofNat (128+n / 64 % 64),UInt8.ofNat (128+n % 64)]
def ZdA (n:Nat):Nat:=if 55296≤n∧n<57344 then 65533 else n
def ZaO (c:UInt8):Option UInt8 :=
  if c=34 then some 34 else if c=92 then some 92 else if c=47 then some 47 else if c=98 then some 8 else if c=102 then some 12 else if c=110 then some 10 else if c=114 then some 13 else if c=116 then some 9 else none
def XH:BL→Option BL
  | a::b::l=>if a=92∧b=117 then some l else none
  | _=>none
def ZvK (l:BL):Out BL:=(ZbN 4 0 l).bind fun n l1 =>
  match (if 55296≤n∧n<56320 then XH l1 else none) with
  | some l2=>(ZbN 4 0 l2).bind fun m l3=>if 56320≤m∧m<57344 then .ok (ZbB (65536+(n - 55296)*1024+(m - 56320))) l3 else .ok (ZbB (ZdA n)) l1
  | none=> .ok (ZbB (ZdA n)) l1
def Znb:BL→Out BL
  | []=> .err 24 []
  | c::l=>match ZaO c with
    | some m=> .ok [m] l
    | none=>if c=117 then ZvK l else .err 22 (c::l)
def ZfV (c:Nat):Nat × Nat × Nat :=
  if c<128 then (1,0,0)
  else if 194≤c∧c≤223 then (2,128,191)
  else if c=224 then (3,160,191)
  else if c=237 then (3,128,159)
  else if 225≤c∧c≤239 then (3,128,191)
  else if c=240 then (4,144,191)
  else if 241≤c∧c≤243 then (4,128,191)
  else if c=244 then (4,128,143)
  else (0,0,0)
def Zb0:Nat→Nat→Nat→BL→Out Unit
  | 0,_,_,l=> .ok () l
  | _+1,_,_,[]=> .err 24 []
  | n+1,lo,hi,d::l=>if lo≤d.toNat∧d.toNat≤hi then Zb0 n 128 191 l else .err 22 (d::l)
def XT:BL→Out Unit
  | []=> .err 24 []
  | c::l=>if (ZfV c.toNat).1=0 then .err 22 (c::l) else Zb0 ((ZfV c.toNat).1 - 1) (ZfV c.toNat).2.1 (ZfV c.toNat).2.2 l
def Zfq:Nat→BL→BL→Out BL
  | 0,_,_=> .err 24 []
  | _+1,_,[]=> .err 24 []
  | n+1,out,c::l =>
    if c.toNat<32 then .err 22 (c::l)
    else if c=34 then .ok out l
    else if c=92 then (Znb l).bind fun o l2=>Zfq n (out++o) l2
    else if c.toNat<128 then Zfq n (out++[c]) l
    else (XT (c::l)).bind fun _ l2=>Zfq n (out++ZdZ (c::l) l2) l2
def Zgo (l:BL):Out BL:=Zfq (l.length+1) [] l
def ZaM (l:BL):Out BL :=
  match ZI l with
  | c::l1=>if c=34 then (Zgo l1).bind fun nm l2=>match ZI l2 with
     | d::l3=>if d=58 then .ok nm l3 else .err 20 (d::l3)
     | []=> .err 24 []
    else .err 20 (c::l1)
  | []=> .err 24 []
def X8 (pv:BL→Out JV) (ob:Bool) (ns:List BL) (sub:JL) (l:BL):Out (List BL × JL) :=
  if ob then (ZaM l).bind fun nm l3=>(pv l3).bind fun v l4=> .ok (ns++[nm],sub.snoc v) (ZI l4)
  else (pv (ZI l)).bind fun v l4=> .ok (ns,sub.snoc v) (ZI l4)
def Zb3 (ob:Bool):UInt8:=if ob then 125 else 93
def Zb2 (c:UInt8):BL→Bool
  | d::_=>d ==c
  | []=>false
def Zde (pv:BL→Out JV) (ob:Bool):Nat→List BL→JL→BL→Out (List BL × JL)
  | 0,_,_,_=> .err 24 []
  | m+1,ns,sub,l =>
    if Zb2 (Zb3 ob) l then .ok (ns,sub) l.tail
    else if sub.isNil then (X8 pv ob ns sub l).bind fun p l2=>Zde pv ob m p.1 p.2 l2
    else if Zb2 44 l then (X8 pv ob ns sub l.tail).bind fun p l2=>Zde pv ob m p.1 p.2 l2
    else XC 20 l
def ZcW (op:Bool→BL→Out JV) (l:BL):Out JV :=
  match ZI l with
  | []=> .err 24 []
  | c::l1 =>
    if c=123 then op true (c::l1)
    else if c=91 then op false (c::l1)
    else if c=34 then (Zgo l1).bind fun t r=> .ok ⟨5,t,[],.nil⟩ r
    else if c=110 then (Xo [110,117,108,108] (c::l1)).bind fun _ r=> .ok ⟨1,[],[],.nil⟩ r
    else if c=102 then (Xo [102,97,108,115,101] (c::l1)).bind fun _ r=> .ok ⟨2,[],[],.nil⟩ r
    else if c=116 then (Xo [116,114,117,101] (c::l1)).bind fun _ r=> .ok ⟨3,[],[],.nil⟩ r
    else if c=45∨Yw c then (ZcA (c::l1)).bind fun _ r=> .ok ⟨4,ZdZ (c::l1) r,[],.nil⟩ r
    else .err 20 (c::l1)
def ZjO (pv:BL→Out JV) (ob:Bool) (l:BL):Out JV :=
  (Zde pv ob (l.length+1) [] .nil (ZI l.tail)).bind fun p r=> .ok ⟨if ob then 7 else 6,[],p.1,p.2⟩ r
def Zy:Nat→BL→Out JV
  | 0=>ZcW fun _ l=>XC 23 l
  | n+1=>ZcW (ZjO (Zy n))
inductive Got where
  | ok (v:JV)
  | err (e:Nat) (at_:Nat)
def XE (l:BL):Got :=
  if 65536<l.length then .err 5 65536
  else match Zy 64 l with
    | .err e r=> .err e (l.length - r.length)
    | .ok v r=>match ZI r with
      | []=> .ok v
      | c::r'=> .err 25 (l.length - (c::r').length)
theorem Xf {c:UInt8} {l r:BL} (h:r <:+l):r <:+c::l:=h.trans (List.suffix_cons _ _)
theorem ZkB (l:BL):ZI l <:+l:=List.dropWhile_suffix _
theorem Zfi {l r:BL} (h:Z0 l = .ok () r):r <:+l:=by
  rcases l with _ | ⟨c,l⟩
  ·cases h
  ·dsimp only [Z0] at h
   split at h
   ·cases h;exact Xf (List.dropWhile_suffix _)
   ·cases h
theorem Zn0 (l:BL):Xb l <:+l:=by
  rcases l with _ | ⟨c,l⟩
  ·exact List.suffix_refl _
  ·dsimp only [Xb]
   split
   ·exact List.suffix_cons _ _
   ·exact List.suffix_refl _
theorem Zo3 (l:BL):Zdp l <:+l:=by
  rcases l with _ | ⟨c,l⟩
  ·exact List.suffix_refl _
  ·dsimp only [Zdp]
   split
   ·exact List.suffix_cons _ _
   ·exact List.suffix_refl _
theorem ZrA {l r:BL} (h:ZeS l = .ok () r):r <:+l:=by
  rcases l with _ | ⟨c,l⟩
  ·cases h
  ·dsimp only [ZeS] at h
   split at h
   ·rcases l with _ | ⟨d,l⟩
    ·cases h;exact List.suffix_cons _ _
    ·dsimp only [X9] at h
     split at h
     ·cases h
     ·cases h;exact List.suffix_cons _ _
   ·exact Zfi h
theorem Zp2 {l r:BL} (h:ZcP l = .ok () r):r <:+l:=by
  rcases l with _ | ⟨c,l⟩
  ·cases h;exact List.suffix_refl _
  ·dsimp only [ZcP] at h
   split at h
   ·exact Xf (Zfi h)
   ·cases h;exact List.suffix_refl _
theorem ZrK {l r:BL} (h:Zfm l = .ok () r):r <:+l:=by
  rcases l with _ | ⟨c,l⟩
  ·cases h;exact List.suffix_refl _
  ·dsimp only [Zfm] at h
   split at h
   ·exact Xf ((Zfi h).trans (Zo3 _))
   ·cases h;exact List.suffix_refl _
theorem ZO {α β:Type} {x:Out α} {f:α→BL→Out β} {b:β} {r:BL} (h:x.bind f = .ok b r):∃ a l,x = .ok a l∧f a l = .ok b r:=by
  cases x with
  | ok a l=>exact ⟨a,l,rfl,h⟩
  | err e l=>cases h
theorem ZfB {l r:BL} (h:ZcA l = .ok () r):∃ l1 l2,ZeS (Xb l) = .ok () l1∧ZcP l1 = .ok () l2∧Zfm l2 = .ok () r:=by
  obtain ⟨_,l1,h1,h⟩:=ZO h
  obtain ⟨_,l2,h2,h⟩:=ZO h
  exact ⟨l1,l2,h1,h2,h⟩
theorem Zrn {l r:BL} (h:ZcA l = .ok () r):r <:+l:=by
  obtain ⟨l1,l2,h1,h2,h3⟩:=ZfB h
  exact (ZrK h3).trans ((Zp2 h2).trans ((ZrA h1).trans (Zn0 l)))
end Go.Js
