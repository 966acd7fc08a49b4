/- That each function does what its model says. Written by a program out of the translated functions. -/
import Derived.Test.YtbppjmcinoffnaaGreatProg
import Derived.KernelRfl
import Derived.Test.YtbppjmcinoffnaaGreatPa6
set_option linter.unusedVariables false
set_option linter.unusedSimpArgs false
namespace Go.Proofs.YtbppjmcinoffnaaGreat
open Go Go.Fw
theorem Zf:Tryz.prog.follows .mixedOrders=true:=by kernel_rfl
noncomputable abbrev zk0 (f:zT0):Ze:=⟨[.one (.I .i64)],[.one (.B)],fun t K _ h=>f t.1 (fun r0 h=>K (r0,()) h) h⟩
noncomputable abbrev zc0:Cfg:=ZF Tryz.prog [] 9 [] [] [] ZH
theorem zr0:ZI (zc0) Tryz.f45 (.leaf) (zk0 ZeL):=fun _ _ _ _=>by kernel_rfl
theorem zo0:Zm Tryz.prog 45 (zk0 ZaK):=okF (zr0) Tryz.func45 Zf (Zo _ .nil .nil .nil .nil (Zp _))
noncomputable abbrev zk1 (f:zT1):Ze:=⟨[.one (.I .i64)],[.one (.P),.one (.I .i64)],fun t K _ h=>f t.1 (fun r0 r1 h=>K (r0,r1,()) h) h⟩
noncomputable abbrev zc1 (f0:zT0):Cfg:=ZF Tryz.prog [(45,zk0 f0)] 13 [] [] [] ZH
theorem zr1 (f0:zT0):ZI (zc1 f0) Tryz.f22 (.leaf) (zk1 (ZgO f0)):=fun _ _ _ _=>by kernel_rfl
theorem zo1:Zm Tryz.prog 22 (zk1 Zen):=okF (zr1 ZaK) Tryz.func22 Zf (Zo _ (.cons zo0 .nil) .nil .nil .nil (Zp _))
noncomputable abbrev zk2 (f:zT2):Ze:=⟨[],[.one (.P)],fun _ K _ h=>f (fun r0 h=>K (r0,()) h) h⟩
noncomputable abbrev zc2:Cfg:=ZF Tryz.prog [] 4 [] [] [] ZH
theorem zr2:ZI (zc2) Tryz.f23 (.leaf) (zk2 Zf3):=fun _ _ _ _=>by kernel_rfl
theorem zo2:Zm Tryz.prog 23 (zk2 ZdT):=okF (zr2) Tryz.func23 Zf (Zo _ .nil .nil .nil .nil (Zp _))
noncomputable abbrev zk3 (f:zT3):Ze:=⟨[.one (.I .i64)],[.one (.B)],fun t K _ h=>f t.1 (fun r0 h=>K (r0,()) h) h⟩
noncomputable abbrev zc3:Cfg:=ZF Tryz.prog [] 9 [] [] [] ZH
theorem zr3:ZI (zc3) Tryz.f83 (.leaf) (zk3 Zbi):=fun _ _ _ _=>by kernel_rfl
theorem zo3:Zm Tryz.prog 83 (zk3 Xl):=okF (zr3) Tryz.func83 Zf (Zo _ .nil .nil .nil .nil (Zp _))
noncomputable abbrev zk4 (f:zT4):Ze:=⟨[.one (.L),.fn 83],[.one (.I .i64)],fun t K _ h=>f t.1 (fun r0 h=>K (r0,()) h) h⟩
noncomputable abbrev zc4 (f3:zT3):Cfg:=ZF Tryz.prog [(83,zk3 f3)] 19 [] [] [] ZH
theorem zr4 (f3:zT3):ZI (zc4 f3) Tryz.f116 (.seq (.leaf) (.seq (.seq (.leaf) (.block (.loop [8] [.one (.I .i64)] [(4,5),(9,18)] (.leaf)))) (.leaf))) (zk4 (Yh f3)):=fun _ _ _ _=>by kernel_rfl
theorem zo4:Zm Tryz.prog 116 (zk4 ZQ):=okF (zr4 Xl) Tryz.func116 Zf (Zo _ (.cons zo3 .nil) .nil .nil .nil (Zp _))
noncomputable abbrev zk5 (f:zT5):Ze:=⟨[.one (.L),.fn 83],[.one (.B)],fun t K _ h=>f t.1 (fun r0 h=>K (r0,()) h) h⟩
noncomputable abbrev zc5 (f4:zT4):Cfg:=ZF Tryz.prog [(116,zk4 f4)] 9 [] [] [] ZH
theorem zr5 (f4:zT4):ZI (zc5 f4) Tryz.f82 (.leaf) (zk5 (Yc f4)):=fun _ _ _ _=>by kernel_rfl
theorem zo5:Zm Tryz.prog 82 (zk5 ZY):=okF (zr5 ZQ) Tryz.func82 Zf (Zo _ (.cons zo4 .nil) .nil .nil .nil (Zp _))
noncomputable abbrev zk6 (f:zT6):Ze:=⟨[.one (.P),.one (.L)],[.one (.I .i64)],fun t K _ h=>f t.1 t.2.1 (fun r0 h=>K (r0,()) h) h⟩
noncomputable abbrev zc6 (f5:zT5):Cfg:=ZF Tryz.prog [(82,zk5 f5)] 11 [] [] [] ZH
theorem zr6 (f5:zT5):ZI (zc6 f5) Tryz.f46 (.leaf) (zk6 (ZbS f5)):=fun _ _ _ _=>by kernel_rfl
theorem zo6:Zm Tryz.prog 46 (zk6 Yl):=okF (zr6 ZY) Tryz.func46 Zf (Zo _ (.cons zo5 .nil) .nil .nil .nil (Zp _))
noncomputable abbrev zk7 (f:zT7):Ze:=⟨[.one (.P),.one (.L)],[.one (.I .i64)],fun t K _ h=>f t.1 t.2.1 (fun r0 h=>K (r0,()) h) h⟩
noncomputable abbrev zc7 (f6:zT6):Cfg:=ZF Tryz.prog [(46,zk6 f6)] 26 [] [] [] ZH
theorem zr7 (f6:zT6):ZI (zc7 f6) Tryz.f24 (.seq (.leaf) (.seq (.leaf) (.seq (.seq (.leaf) (.block (.loop [16] [.one (.I .i64)] [(7,7),(17,25)] (.leaf)))) (.leaf)))) (zk7 (ZcW f6)):=fun _ _ _ _=>by kernel_rfl
theorem zo7:Zm Tryz.prog 24 (zk7 YO):=okF (zr7 Yl) Tryz.func24 Zf (Zo _ (.cons zo6 .nil) .nil .nil .nil (Zp _))
noncomputable abbrev zk8 (f:zT8):Ze:=⟨[.one (.I .i64),.one (.I .i64),.one (.I .i64)],[.one (.B)],fun t K _ h=>f t.1 t.2.1 t.2.2.1 (fun r0 h=>K (r0,()) h) h⟩
noncomputable abbrev zc8:Cfg:=ZF Tryz.prog [] 15 [] [] [] ZH
theorem zr8:ZI (zc8) Tryz.f84 (.leaf) (zk8 Zf5):=fun _ _ _ _=>by kernel_rfl
theorem zo8:Zm Tryz.prog 84 (zk8 ZaG):=okF (zr8) Tryz.func84 Zf (Zo _ .nil .nil .nil .nil (Zp _))
noncomputable abbrev zk9 (f:zT9):Ze:=⟨[.one (.S)],[.one (.B)],fun t K _ h=>f t.1 (fun r0 h=>K (r0,()) h) h⟩
noncomputable abbrev zc9 (f8:zT8):Cfg:=ZF Tryz.prog [(84,zk8 f8)] 19 [] [] [] ZH
theorem zr9 (f8:zT8):ZI (zc9 f8) Tryz.f85 (.seq (.leaf) (.seq (.seq (.leaf) (.block (.loop [6] [.one (.I .i64)] [(2,3),(7,15)] (.leaf)))) (.leaf))) (zk9 (ZeP f8)):=fun _ _ _ _=>by kernel_rfl
theorem zo9:Zm Tryz.prog 85 (zk9 ZcD):=okF (zr9 ZaG) Tryz.func85 Zf (Zo _ (.cons zo8 .nil) .nil .nil .nil (Zp _))
noncomputable abbrev Zwl (f:Zmi):Ze:=⟨[.agg [.I .i64,.I .u8,.I .i64,.I .i64,.S,.I .i64]],[.one (.B)],fun t K _ h=>f t.1 (fun r0 h=>K (r0,()) h) h⟩
noncomputable abbrev ZIL (f8:zT8) (f9:zT9):Cfg:=ZF Tryz.prog [(84,zk8 f8),(85,zk9 f9)] 76 [] [] [] ZH
theorem ZGp (f8:zT8) (f9:zT9):ZI (ZIL f8 f9) Tryz.f47 (.seq (.leaf) (.cut [3] [.one (.B)] [(5,17)] (.leaf) (.cut [4] [.one (.B)] [(18,25)] (.leaf) (.seq (.leaf) (.seq (.seq (.leaf) (.block (.cut [32] [.one (.B)] [(33,34)] (.leaf) (.leaf)))) (.leaf)))))) (Zwl (Zfu f8 f9)):=fun _ _ _ _=>by kernel_rfl
theorem ZxD:Zm Tryz.prog 47 (Zwl YW):=okF (ZGp ZaG ZcD) Tryz.func47 Zf (Zo _ (.cons zo8 (.cons zo9 .nil)) .nil .nil .nil (Zp _))
noncomputable abbrev Zz6 (f:Zu4):Ze:=⟨[],[.one (.P)],fun _ K _ h=>f (fun r0 h=>K (r0,()) h) h⟩
noncomputable abbrev ZIK:Cfg:=ZF Tryz.prog [] 3 [] [] [] ZH
theorem ZGo:ZI (ZIK) Tryz.f48 (.leaf) (Zz6 Zes):=fun _ _ _ _=>by kernel_rfl
theorem ZEW:Zm Tryz.prog 48 (Zz6 ZbO):=okF (ZGo) Tryz.func48 Zf (Zo _ .nil .nil .nil .nil (Zp _))
noncomputable abbrev ZC4 (f:ZyH):Ze:=⟨[.agg [.I .i64,.I .i64,.I .i64],.one (.S)],[.one (.P),.one (.I .i64)],fun t K _ h=>f t.1 t.2.1 (fun r0 r1 h=>K (r0,r1,()) h) h⟩
noncomputable abbrev ZIJ (f10:Zmi) (f11:Zu4):Cfg:=ZF Tryz.prog [(47,Zwl f10),(48,Zz6 f11)] 45 [] [] [] ZH
theorem ZGn (f10:Zmi) (f11:Zu4):ZI (ZIJ f10 f11) Tryz.f25 (.seq (.leaf) (.seq (.leaf) (.seq (.order (.take 2 (.take 4 (.take 1 (.take 5 (.fork 0 (.take 3 (.take 6 (.take 7 (.take 8 (.take 9 .done))))) 3 (.take 0 (.take 6 (.take 7 (.take 8 (.take 9 .done))))))))))) (.leaf)))) (ZC4 (Zf6 f10 f11)):=fun _ _ _ _=>by kernel_rfl
theorem ZHl:Zm Tryz.prog 25 (ZC4 ZdV):=okF (ZGn YW ZbO) Tryz.func25 Zf (Zo _ (.cons ZxD (.cons ZEW .nil)) .nil .nil .nil (Zp _))
noncomputable abbrev Zte (f:Zia):Ze:=⟨[.one (.P)],[.one (.L)],fun t K _ h=>f t.1 (fun r0 h=>K (r0,()) h) h⟩
noncomputable abbrev ZII (f13:ZD6) (f14:ZD5):Cfg:=ZF Tryz.prog [(69,⟨[.one (.M)],[.one (.V)],fun t K _ h=>f13 t.1 (fun r0 h=>K (r0,()) h) h⟩),(68,⟨[.one (.V)],[.one (.L)],fun t K _ h=>f14 t.1 (fun r0 h=>K (r0,()) h) h⟩)] 11 [] [] [] ZH
theorem ZGm (f13:ZD6) (f14:ZD5):ZI (ZII f13 f14) Tryz.f33 (.leaf) (Zte (Zbj f13 f14)):=fun _ _ _ _=>by kernel_rfl
theorem ZuJ:Zm Tryz.prog 33 (Zte Zj):=okF (ZGm YL Zb9) Tryz.func33 Zf (Zo _ (.cons Zdd (.cons ZfZ .nil)) .nil .nil .nil (Zp _))
noncomputable abbrev Ztd (f:Zh9):Ze:=⟨[.one (.P),.one (.I .i64)],[],fun t K _ h=>f t.1 t.2.1 (fun h=>K (()) h) h⟩
noncomputable abbrev ZIH:Cfg:=ZF Tryz.prog [] 20 [] [] [] ZH
theorem ZGl:ZI (ZIH) Tryz.f86 (.leaf) (Ztd Zcr):=fun _ _ _ _=>by kernel_rfl
theorem ZuI:Zm Tryz.prog 86 (Ztd Zq):=okF (ZGl) Tryz.func86 Zf (Zo _ .nil .nil .nil .nil (Zp _))
noncomputable abbrev ZC3 (f:ZyF):Ze:=⟨[],[.one (.I .i64)],fun _ K _ h=>f (fun r0 h=>K (r0,()) h) h⟩
noncomputable abbrev ZIG:Cfg:=ZF Tryz.prog [] 1 [] [] [] ZH
theorem ZGk:ZI (ZIG) Tryz.f50 (.leaf) (ZC3 ZbC):=fun _ _ _ _=>by kernel_rfl
theorem ZHk:Zm Tryz.prog 50 (ZC3 XD):=okF (ZGk) Tryz.func50 Zf (Zo _ .nil .nil .nil .nil (Zp _))
noncomputable abbrev ZC2 (f:ZyE):Ze:=⟨[.one (.P),.one (.I .i64),.fn 50],[.one (.I .i64)],fun t K _ h=>f t.1 t.2.1 (fun r0 h=>K (r0,()) h) h⟩
noncomputable abbrev ZIF (f15:Zia) (f16:Zh9) (f17:ZyF):Cfg:=ZF Tryz.prog [(33,Zte f15),(86,Ztd f16),(50,ZC3 f17)] 57 [] [] [] ZH
theorem ZGj (f15:Zia) (f16:Zh9) (f17:ZyF):ZI (ZIF f15 f16 f17) Tryz.f49 (.seq (.leaf) (.seq (.leaf) (.seq (.leaf) (.seq (.seq (.leaf) (.block (.loop [33] [.one (.I .i64)] [(8,8),(34,54)] (.seq (.leaf) (.seq (.leaf) (.seq (.block (.seq (.leaf) (.seq (.order (.take 0 (.take 1 (.take 2 (.take 3 (.take 5 (.take 8 (.take 9 (.take 10 (.take 11 (.take 4 (.take 12 (.take 6 (.take 7 (.take 13 .done))))))))))))))) (.leaf)))) (.leaf))))))) (.leaf))))) (ZC2 (Zt f15 f16 f17)):=fun _ _ _ _=>by kernel_rfl
theorem ZHj:Zm Tryz.prog 49 (ZC2 Yi):=okF (ZGj Zj Zq XD) Tryz.func49 Zf (Zo _ (.cons ZuJ (.cons ZuI (.cons ZHk .nil))) .nil .nil .nil (Zp _))
noncomputable abbrev Zz5 (f:Zu3):Ze:=⟨[.one (.P),.one (.I .i64)],[.one (.I .i64)],fun t K _ h=>f t.1 t.2.1 (fun r0 h=>K (r0,()) h) h⟩
noncomputable abbrev ZIE (f18:ZyE):Cfg:=ZF Tryz.prog [(49,ZC2 f18)] 8 [] [] [] ZH
theorem ZGi (f18:ZyE):ZI (ZIE f18) Tryz.f26 (.leaf) (Zz5 (Zcu f18)):=fun _ _ _ _=>by kernel_rfl
theorem ZEV:Zm Tryz.prog 26 (Zz5 Y1):=okF (ZGi Yi) Tryz.func26 Zf (Zo _ (.cons ZHj .nil) .nil .nil .nil (Zp _))
noncomputable abbrev Zz4 (f:Zu2):Ze:=⟨[.one (.I .i64),.one (.I .i64),.agg [.I .i64,.I .i64,.I .i64]],[.one (.P),.one (.I .i64)],fun t K _ h=>f t.1 t.2.1 t.2.2.1 (fun r0 r1 h=>K (r0,r1,()) h) h⟩
noncomputable abbrev ZID (f1:zT1) (f2:zT2) (f7:zT7) (f12:ZyH) (f19:Zu3):Cfg:=ZF Tryz.prog [(22,zk1 f1),(23,zk2 f2),(24,zk7 f7),(25,ZC4 f12),(26,Zz5 f19)] 74 [] [] [] ZH
theorem ZGh (f1:zT1) (f2:zT2) (f7:zT7) (f12:ZyH) (f19:Zu3):ZI (ZID f1 f2 f7 f12 f19) Tryz.f7 (.seq (.leaf) (.seq (.leaf) (.seq (.leaf) (.seq (.leaf) (.seq (.leaf) (.seq (.seq (.leaf) (.block (.loop [46] [.one (.I .i64)] [(6,7),(11,12),(47,72)] (.leaf)))) (.leaf))))))) (Zz4 (Zfw f1 f2 f7 f12 f19)):=fun _ _ _ _=>by kernel_rfl
theorem ZEU:Zm Tryz.prog 7 (Zz4 Zbf):=okF (ZGh Zen ZdT YO ZdV Y1) Tryz.func7 Zf (Zo _ (.cons zo1 (.cons zo2 (.cons zo7 (.cons ZHl (.cons ZEV .nil))))) .nil .nil .nil (Zp _))
noncomputable abbrev ZC1 (f:ZyD):Ze:=⟨[.one (.I .i64),.one (.I .i64),.one (.I .i64)],[.one (.B)],fun t K _ h=>f t.1 t.2.1 t.2.2.1 (fun r0 h=>K (r0,()) h) h⟩
noncomputable abbrev ZIC:Cfg:=ZF Tryz.prog [] 15 [] [] [] ZH
theorem ZGg:ZI (ZIC) Tryz.f87 (.leaf) (ZC1 ZeN):=fun _ _ _ _=>by kernel_rfl
theorem ZHi:Zm Tryz.prog 87 (ZC1 ZcB):=okF (ZGg) Tryz.func87 Zf (Zo _ .nil .nil .nil .nil (Zp _))
noncomputable abbrev ZC0 (f:ZyC):Ze:=⟨[.one (.S)],[.one (.B)],fun t K _ h=>f t.1 (fun r0 h=>K (r0,()) h) h⟩
noncomputable abbrev ZIB (f21:ZyD):Cfg:=ZF Tryz.prog [(87,ZC1 f21)] 19 [] [] [] ZH
theorem ZGf (f21:ZyD):ZI (ZIB f21) Tryz.f51 (.seq (.leaf) (.seq (.seq (.leaf) (.block (.loop [6] [.one (.I .i64)] [(2,3),(7,15)] (.leaf)))) (.leaf))) (ZC0 (ZeO f21)):=fun _ _ _ _=>by kernel_rfl
theorem ZHh:Zm Tryz.prog 51 (ZC0 ZcC):=okF (ZGf ZcB) Tryz.func51 Zf (Zo _ (.cons ZHi .nil) .nil .nil .nil (Zp _))
noncomputable abbrev ZCZ (f:ZyB):Ze:=⟨[.one (.I .i64),.one (.I .i64),.one (.I .i64)],[.one (.B)],fun t K _ h=>f t.1 t.2.1 t.2.2.1 (fun r0 h=>K (r0,()) h) h⟩
noncomputable abbrev ZIA:Cfg:=ZF Tryz.prog [] 15 [] [] [] ZH
theorem ZGe:ZI (ZIA) Tryz.f89 (.leaf) (ZCZ Zep):=fun _ _ _ _=>by kernel_rfl
theorem ZHg:Zm Tryz.prog 89 (ZCZ ZbM):=okF (ZGe) Tryz.func89 Zf (Zo _ .nil .nil .nil .nil (Zp _))
noncomputable abbrev ZCY (f:ZyA):Ze:=⟨[.agg [.I .i64,.I .i64,.I .i64,.I .i64]],[.one (.B)],fun t K _ h=>f t.1 (fun r0 h=>K (r0,()) h) h⟩
noncomputable abbrev ZIz (f23:ZyB):Cfg:=ZF Tryz.prog [(89,ZCZ f23)] 38 [] [] [] ZH
theorem ZGd (f23:ZyB):ZI (ZIz f23) Tryz.f54 (.seq (.leaf) (.seq (.leaf) (.seq (.leaf) (.cut [4] [.one (.B)] [(8,14)] (.leaf) (.leaf))))) (ZCY (Zfr f23)):=fun _ _ _ _=>by kernel_rfl
theorem ZHf:Zm Tryz.prog 54 (ZCY Zdf):=okF (ZGd ZbM) Tryz.func54 Zf (Zo _ (.cons ZHg .nil) .nil .nil .nil (Zp _))
noncomputable abbrev ZCX (f:Zyz):Ze:=⟨[.agg [.I .i64,.I .i64,.I .i64,.I .i64]],[.one (.B)],fun t K _ h=>f t.1 (fun r0 h=>K (r0,()) h) h⟩
noncomputable abbrev ZIy (f24:ZyA):Cfg:=ZF Tryz.prog [(54,ZCY f24)] 6 [] [] [] ZH
theorem ZGc (f24:ZyA):ZI (ZIy f24) Tryz.f53 (.leaf) (ZCX (ZbR f24)):=fun _ _ _ _=>by kernel_rfl
theorem ZHe:Zm Tryz.prog 53 (ZCX XN):=okF (ZGc Zdf) Tryz.func53 Zf (Zo _ (.cons ZHf .nil) .nil .nil .nil (Zp _))
noncomputable abbrev ZCW (f:Zyy):Ze:=⟨[.one (.L),.fn 53],[.one (.I .i64)],fun t K _ h=>f t.1 (fun r0 h=>K (r0,()) h) h⟩
noncomputable abbrev ZIx (f25:Zyz):Cfg:=ZF Tryz.prog [(53,ZCX f25)] 19 [] [] [] ZH
theorem ZGb (f25:Zyz):ZI (ZIx f25) Tryz.f88 (.seq (.leaf) (.seq (.seq (.leaf) (.block (.loop [8] [.one (.I .i64)] [(4,5),(9,18)] (.leaf)))) (.leaf))) (ZCW (Z2 f25)):=fun _ _ _ _=>by kernel_rfl
theorem ZHd:Zm Tryz.prog 88 (ZCW ZM):=okF (ZGb XN) Tryz.func88 Zf (Zo _ (.cons ZHe .nil) .nil .nil .nil (Zp _))
noncomputable abbrev ZCV (f:Zyx):Ze:=⟨[.one (.L),.fn 53],[.one (.B)],fun t K _ h=>f t.1 (fun r0 h=>K (r0,()) h) h⟩
noncomputable abbrev ZIw (f26:Zyy):Cfg:=ZF Tryz.prog [(88,ZCW f26)] 9 [] [] [] ZH
theorem ZGa (f26:Zyy):ZI (ZIw f26) Tryz.f52 (.leaf) (ZCV (Z1 f26)):=fun _ _ _ _=>by kernel_rfl
theorem ZHc:Zm Tryz.prog 52 (ZCV ZD):=okF (ZGa ZM) Tryz.func52 Zf (Zo _ (.cons ZHd .nil) .nil .nil .nil (Zp _))
noncomputable abbrev ZCU (f:Zyw):Ze:=⟨[.one (.P),.one (.S),.one (.L)],[.one (.B)],fun t K _ h=>f t.1 t.2.1 t.2.2.1 (fun r0 h=>K (r0,()) h) h⟩
noncomputable abbrev ZIv:Cfg:=ZF Tryz.prog [] 54 [] [] [] ZH
theorem ZF9:ZI (ZIv) Tryz.f55 (.seq (.leaf) (.seq (.leaf) (.seq (.seq (.leaf) (.block (.loop [20] [.one (.I .i64)] [(9,9),(11,11),(21,39)] (.seq (.leaf) (.seq (.leaf) (.seq (.block (.seq (.leaf) (.seq (.leaf) (.block (.loop [27] [.one (.I .i64)] [(11,11),(28,38)] (.leaf)))))) (.leaf))))))) (.seq (.seq (.leaf) (.block (.loop [42] [.one (.I .i64)] [(6,6),(13,13),(43,53)] (.leaf)))) (.leaf))))) (ZCU Zcc):=fun _ _ _ _=>by kernel_rfl
theorem ZHb:Zm Tryz.prog 55 (ZCU X2):=okF (ZF9) Tryz.func55 Zf (Zo _ .nil .nil .nil .nil (Zp _))
noncomputable abbrev ZCT (f:Zyv):Ze:=⟨[.agg [.S,.L],.one (.P)],[.one (.B)],fun t K _ h=>f t.1 t.2.1 (fun r0 h=>K (r0,()) h) h⟩
noncomputable abbrev ZIu:Cfg:=ZF Tryz.prog [] 8 [] [] [] ZH
theorem ZF8:ZI (ZIu) Tryz.f91 (.leaf) (ZCT Zbt):=fun _ _ _ _=>by kernel_rfl
theorem ZHa:Zm Tryz.prog 91 (ZCT Xz):=okF (ZF8) Tryz.func91 Zf (Zo _ .nil .nil .nil .nil (Zp _))
noncomputable abbrev ZCS (f:Zyu):Ze:=⟨[.one (.L),.clo 91 [.P]],[.one (.I .i64)],fun t K _ h=>f t.1 t.2.1 (fun r0 h=>K (r0,()) h) h⟩
noncomputable abbrev ZIt (f29:Zyv):Cfg:=ZF Tryz.prog [(91,ZCT f29)] 19 [] [] [] ZH
theorem ZF7 (f29:Zyv):ZI (ZIt f29) Tryz.f90 (.seq (.leaf) (.seq (.seq (.leaf) (.block (.loop [8] [.one (.I .i64)] [(4,5),(9,18)] (.leaf)))) (.leaf))) (ZCS (ZZ f29)):=fun _ _ _ _=>by kernel_rfl
theorem ZG9:Zm Tryz.prog 90 (ZCS ZL):=okF (ZF7 Xz) Tryz.func90 Zf (Zo _ (.cons ZHa .nil) .nil .nil .nil (Zp _))
noncomputable abbrev ZxG (f:Zqp):Ze:=⟨[.one (.P),.one (.S)],[.one (.I .i64)],fun t K _ h=>f t.1 t.2.1 (fun r0 h=>K (r0,()) h) h⟩
noncomputable abbrev ZIs (f30:Zyu):Cfg:=ZF Tryz.prog [(90,ZCS f30)] 11 [] [] [] ZH
theorem ZF6 (f30:Zyu):ZI (ZIs f30) Tryz.f57 (.leaf) (ZxG (Zcd f30)):=fun _ _ _ _=>by kernel_rfl
theorem ZBm:Zm Tryz.prog 57 (ZxG Yu):=okF (ZF6 ZL) Tryz.func57 Zf (Zo _ (.cons ZG9 .nil) .nil .nil .nil (Zp _))
noncomputable abbrev ZCR (f:Zyt):Ze:=⟨[.one (.P),.one (.S),.one (.L)],[.one (.B)],fun t K _ h=>f t.1 t.2.1 t.2.2.1 (fun r0 h=>K (r0,()) h) h⟩
noncomputable abbrev ZIr (f31:Zqp):Cfg:=ZF Tryz.prog [(57,ZxG f31)] 84 [] [] [] ZH
theorem ZF5 (f31:Zqp):ZI (ZIr f31) Tryz.f56 (.seq (.leaf) (.seq (.order (.take 0 (.take 1 (.take 2 (.take 3 (.take 4 (.take 7 (.take 8 (.take 9 (.take 5 (.take 6 (.take 10 (.take 11 (.take 12 (.take 13 (.take 14 .done)))))))))))))))) (.seq (.seq (.leaf) (.block (.loop [7,33] [.one (.I .i64),.one (.I .i64)] [(11,11),(34,46)] (.leaf)))) (.cut [8] [.one (.I .i64)] [(47,52)] (.leaf) (.seq (.seq (.leaf) (.block (.loop [9,55] [.one (.I .i64),.one (.I .i64)] [(13,15),(56,73)] (.seq (.leaf) (.seq (.leaf) (.seq (.block (.seq (.leaf) (.seq (.order (.take 0 (.take 1 (.take 2 (.take 4 (.take 3 (.take 5 (.fork 6 (.take 7 (.take 8 (.take 9 (.take 10 (.take 11 (.take 12 .done)))))) 10 (.take 6 (.take 7 (.take 8 (.take 9 (.take 11 (.take 12 .done)))))))))))))) (.leaf)))) (.leaf))))))) (.leaf)))))) (ZCR (ZcS f31)):=fun _ _ _ _=>by kernel_rfl
theorem ZG8:Zm Tryz.prog 56 (ZCR Zal):=okF (ZF5 Yu) Tryz.func56 Zf (Zo _ (.cons ZBm .nil) .nil .nil .nil (Zp _))
noncomputable abbrev ZCQ (f:Zys):Ze:=⟨[.one (.L)],[.one (.L)],fun t K _ h=>f t.1 (fun r0 h=>K (r0,()) h) h⟩
noncomputable abbrev ZIq:Cfg:=ZF Tryz.prog [] 8 [] [] [] ZH
theorem ZF4:ZI (ZIq) Tryz.f58 (.leaf) (ZCQ Y2):=fun _ _ _ _=>by kernel_rfl
theorem ZG7:Zm Tryz.prog 58 (ZCQ Z8):=okF (ZF4) Tryz.func58 Zf (Zo _ .nil .nil .nil .nil (Zp _))
noncomputable abbrev ZCP (f:Zyr):Ze:=⟨[.one (.I .i64),.one (.I .i64)],[.one (.P),.one (.I .i64)],fun t K _ h=>f t.1 t.2.1 (fun r0 r1 h=>K (r0,r1,()) h) h⟩
noncomputable abbrev ZIp:Cfg:=ZF Tryz.prog [] 31 [] [] [] ZH
theorem ZF3:ZI (ZIp) Tryz.f92 (.leaf) (ZCP Zf2):=fun _ _ _ _=>by kernel_rfl
theorem ZG6:Zm Tryz.prog 92 (ZCP ZdS):=okF (ZF3) Tryz.func92 Zf (Zo _ .nil .nil .nil .nil (Zp _))
noncomputable abbrev ZCO (f:Zyq):Ze:=⟨[.one (.I .i64),.one (.I .i64)],[.one (.B)],fun t K _ h=>f t.1 t.2.1 (fun r0 h=>K (r0,()) h) h⟩
noncomputable abbrev ZIo:Cfg:=ZF Tryz.prog [] 12 [] [] [] ZH
theorem ZF2:ZI (ZIo) Tryz.f117 (.leaf) (ZCO ZeM):=fun _ _ _ _=>by kernel_rfl
theorem ZG5:Zm Tryz.prog 117 (ZCO ZcA):=okF (ZF2) Tryz.func117 Zf (Zo _ .nil .nil .nil .nil (Zp _))
noncomputable abbrev ZCN (f:Zyp):Ze:=⟨[.one (.I .i64),.one (.I .i64),.one (.I .i64),.one (.I .i64),.one (.I .u64)],[.one (.P),.one (.I .i64)],fun t K _ h=>f t.1 t.2.1 t.2.2.1 t.2.2.2.1 t.2.2.2.2.1 (fun r0 r1 h=>K (r0,r1,()) h) h⟩
noncomputable abbrev ZIn (f35:Zyq):Cfg:=ZF Tryz.prog [(117,ZCO f35)] 49 [] [] [] ZH
theorem ZF1 (f35:Zyq):ZI (ZIn f35) Tryz.f93 (.leaf) (ZCN (Zf4 f35)):=fun _ _ _ _=>by kernel_rfl
theorem ZG4:Zm Tryz.prog 93 (ZCN ZdU):=okF (ZF1 ZcA) Tryz.func93 Zf (Zo _ (.cons ZG5 .nil) .nil .nil .nil (Zp _))
noncomputable abbrev Zz3 (f:Zu1):Ze:=⟨[.agg [.I .i64,.I .i64,.I .i64,.I .i64]],[.one (.V)],fun t K _ h=>f t.1 (fun r0 h=>K (r0,()) h) h⟩
noncomputable abbrev ZIm (f34:Zyr) (f36:Zyp):Cfg:=ZF Tryz.prog [(92,ZCP f34),(93,ZCN f36)] 32 [] [] [] ZH
theorem ZF0 (f34:Zyr) (f36:Zyp):ZI (ZIm f34 f36) Tryz.f59 (.leaf) (Zz3 (Zfq f34 f36)):=fun _ _ _ _=>by kernel_rfl
theorem ZET:Zm Tryz.prog 59 (Zz3 YV):=okF (ZF0 ZdS ZdU) Tryz.func59 Zf (Zo _ (.cons ZG6 (.cons ZG4 .nil)) .nil .nil .nil (Zp _))
noncomputable abbrev ZCM (f:Zyo):Ze:=⟨[.one (.P),.one (.S),.one (.L)],[.one (.I .i64)],fun t K _ h=>f t.1 t.2.1 t.2.2.1 (fun r0 h=>K (r0,()) h) h⟩
noncomputable abbrev ZIl (f22:ZyC) (f27:Zyx) (f28:Zyw) (f32:Zyt) (f31:Zqp) (f33:Zys) (f37:Zu1):Cfg:=ZF Tryz.prog [(51,ZC0 f22),(52,ZCV f27),(55,ZCU f28),(56,ZCR f32),(57,ZxG f31),(58,ZCQ f33),(59,Zz3 f37)] 99 [] [] [] ZH
theorem ZFZ (f22:ZyC) (f27:Zyx) (f28:Zyw) (f32:Zyt) (f31:Zqp) (f33:Zys) (f37:Zu1):ZI (ZIl f22 f27 f28 f32 f31 f33 f37) Tryz.f27 (.seq (.leaf) (.seq (.leaf) (.seq (.leaf) (.cut [7] [.one (.I .i64)] [(35,52)] (.leaf) (.seq (.order (.take 0 (.take 1 (.take 2 (.take 4 (.take 5 (.take 3 (.take 6 (.take 7 (.take 8 (.take 9 .done))))))))))) (.seq (.seq (.leaf) (.block (.loop [64] [.one (.I .i64)] [(9,11),(65,98)] (.seq (.leaf) (.seq (.leaf) (.seq (.block (.seq (.leaf) (.cut [10,11] [.one (.P),.one (.B)] [(68,77)] (.order (.take 0 (.take 1 (.take 2 (.take 4 (.take 3 (.take 5 (.fork 6 (.take 7 (.take 8 (.take 9 (.take 10 (.take 11 (.take 12 .done)))))) 10 (.take 6 (.take 7 (.take 8 (.take 9 (.take 11 (.take 12 .done)))))))))))))) (.seq (.leaf) (.cond (.order (.take 0 (.take 1 (.take 2 (.take 4 (.take 8 (.take 3 (.take 5 (.take 6 (.take 9 (.take 7 (.take 10 (.take 11 .done))))))))))))) (.leaf)))))) (.leaf))))))) (.leaf))))))) (ZCM (ZcV f22 f27 f28 f32 f31 f33 f37)):=fun _ _ _ _=>by kernel_rfl
theorem ZG3:Zm Tryz.prog 27 (ZCM Zan):=okF (ZFZ ZcC ZD X2 Zal Yu Z8 YV) Tryz.func27 Zf (Zo _ (.cons ZHh (.cons ZHc (.cons ZHb (.cons ZG8 (.cons ZBm (.cons ZG7 (.cons ZET .nil))))))) .nil .nil .nil (Zp _))
noncomputable abbrev Zz2 (f:Zu0):Ze:=⟨[.one (.P),.one (.L)],[.one (.I .i64)],fun t K _ h=>f t.1 t.2.1 (fun r0 h=>K (r0,()) h) h⟩
noncomputable abbrev ZIk (f38:Zyo):Cfg:=ZF Tryz.prog [(27,ZCM f38)] 14 [] [] [] ZH
theorem ZFY (f38:Zyo):ZI (ZIk f38) Tryz.f9 (.leaf) (Zz2 (ZbA f38)):=fun _ _ _ _=>by kernel_rfl
theorem ZES:Zm Tryz.prog 9 (Zz2 Yt):=okF (ZFY Zan) Tryz.func9 Zf (Zo _ (.cons ZG3 .nil) .nil .nil .nil (Zp _))
noncomputable abbrev ZCL (f:Zyn):Ze:=⟨[.one (.I .u8)],[.agg [.V,.B],.one (.B)],fun t K _ h=>f t.1 (fun r0 r1 h=>K (r0,r1,()) h) h⟩
noncomputable abbrev ZIj:Cfg:=ZF Tryz.prog [] 25 [] [] [] ZH
theorem ZFX:ZI (ZIj) Tryz.f28 (.leaf) (ZCL ZdZ):=fun _ _ _ _=>by kernel_rfl
theorem ZG2:Zm Tryz.prog 28 (ZCL Zbo):=okF (ZFX) Tryz.func28 Zf (Zo _ .nil .nil .nil .nil (Zp _))
noncomputable abbrev Zz1 (f:ZuZ):Ze:=⟨[.one (.P),.one (.I .i64)],[.one (.P)],fun t K _ h=>f t.1 t.2.1 (fun r0 h=>K (r0,()) h) h⟩
noncomputable abbrev ZIi:Cfg:=ZF Tryz.prog [] 28 [] [] [] ZH
theorem ZFW:ZI (ZIi) Tryz.f29 (.leaf) (Zz1 Zby):=fun _ _ _ _=>by kernel_rfl
theorem ZER:Zm Tryz.prog 29 (Zz1 YE):=okF (ZFW) Tryz.func29 Zf (Zo _ .nil .nil .nil .nil (Zp _))
noncomputable abbrev ZCK (f:Zym):Ze:=⟨[.one (.P),.agg [.I .u8,.I .i64,.I .i64,.I .i64,.I .i64,.I .u8,.I .i64,.I .i64,.S,.I .i64]],[.agg [.I .i64,.B,.I .i64]],fun t K _ h=>f t.1 t.2.1 (fun r0 h=>K (r0,()) h) h⟩
noncomputable abbrev ZIh (f19:Zu3):Cfg:=ZF Tryz.prog [(26,Zz5 f19)] 49 [] [] [] ZH
theorem ZFV (f19:Zu3):ZI (ZIh f19) Tryz.f60 (.seq (.leaf) (.seq (.leaf) (.seq (.leaf) (.seq (.seq (.leaf) (.block (.loop [36] [.one (.I .i64)] [(6,6),(37,47)] (.seq (.leaf) (.seq (.leaf) (.seq (.block (.seq (.leaf) (.order (.take 0 (.take 2 (.take 3 (.take 4 (.take 1 (.take 5 (.take 6 .done)))))))))) (.leaf))))))) (.leaf))))) (ZCK (Zcm f19)):=fun _ _ _ _=>by kernel_rfl
theorem ZG1:Zm Tryz.prog 60 (ZCK Xr):=okF (ZFV Y1) Tryz.func60 Zf (Zo _ (.cons ZEV .nil) .nil .nil .nil (Zp _))
noncomputable abbrev Zz0 (f:ZuY):Ze:=⟨[.one (.P),.one (.L)],[],fun t K _ h=>f t.1 t.2.1 (fun h=>K (()) h) h⟩
noncomputable abbrev ZIg:Cfg:=ZF Tryz.prog [] 31 [] [] [] ZH
theorem ZFU:ZI (ZIg) Tryz.f154 (.seq (.leaf) (.block (.loop [9] [.one (.I .i64)] [(5,6),(10,30)] (.seq (.leaf) (.seq (.leaf) (.seq (.block (.seq (.leaf) (.seq (.leaf) (.block (.loop [6] [.one (.I .i64)] [(13,29)] (.seq (.leaf) (.seq (.block (.order (.take 0 (.take 1 (.take 2 (.take 3 (.take 5 (.take 6 (.take 7 (.take 8 (.take 4 (.take 9 (.take 10 (.take 11 (.take 12 (.take 13 .done)))))))))))))))) (.leaf)))))))) (.leaf))))))) (Zz0 Zbx):=fun _ _ _ _=>by kernel_rfl
theorem ZEQ:Zm Tryz.prog 154 (Zz0 YD):=okF (ZFU) Tryz.func154 Zf (Zo _ .nil .nil .nil .nil (Zp _))
noncomputable abbrev ZCJ (f:Zyl):Ze:=⟨[.agg [.I .i64,.I .u8,.I .i64,.I .i64,.S,.I .i64]],[.one (.L),.one (.I .i64)],fun t K _ h=>f t.1 (fun r0 r1 h=>K (r0,r1,()) h) h⟩
noncomputable abbrev ZIf (f10:Zmi) (f43:ZuY):Cfg:=ZF Tryz.prog [(47,Zwl f10),(154,Zz0 f43)] 33 [] [] [] ZH
theorem ZFT (f10:Zmi) (f43:ZuY):ZI (ZIf f10 f43) Tryz.f170 (.seq (.leaf) (.seq (.leaf) (.seq (.leaf) (.seq (.leaf) (.seq (.order (.take 0 (.take 2 (.take 8 (.take 1 (.take 3 (.take 4 (.take 5 (.take 9 (.take 6 (.take 7 (.take 10 (.take 11 (.take 12 .done)))))))))))))) (.leaf)))))) (ZCJ (Zer f10 f43)):=fun _ _ _ _=>by kernel_rfl
theorem ZG0:Zm Tryz.prog 170 (ZCJ ZbN):=okF (ZFT YW YD) Tryz.func170 Zf (Zo _ (.cons ZxD (.cons ZEQ .nil)) .nil .nil .nil (Zp _))
noncomputable abbrev ZzZ (f:ZuX):Ze:=⟨[.one (.L)],[.one (.L),.one (.I .i64)],fun t K _ h=>f t.1 (fun r0 r1 h=>K (r0,r1,()) h) h⟩
noncomputable abbrev ZIe:Cfg:=ZF Tryz.prog [] 27 [] [] [] ZH
theorem ZFS:ZI (ZIe) Tryz.f133 (.leaf) (ZzZ Zfv):=fun _ _ _ _=>by kernel_rfl
theorem ZEP:Zm Tryz.prog 133 (ZzZ Zbe):=okF (ZFS) Tryz.func133 Zf (Zo _ .nil .nil .nil .nil (Zp _))
noncomputable abbrev ZCI (f:Zyk):Ze:=⟨[.one (.L)],[.one (.L),.one (.I .i64)],fun t K _ h=>f t.1 (fun r0 r1 h=>K (r0,r1,()) h) h⟩
noncomputable abbrev ZId (f45:ZuX):Cfg:=ZF Tryz.prog [(133,ZzZ f45)] 28 [] [] [] ZH
theorem ZFR (f45:ZuX):ZI (ZId f45) Tryz.f171 (.seq (.leaf) (.seq (.leaf) (.seq (.seq (.leaf) (.block (.loop [4,11] [.one (.L),.one (.I .i64)] [(2,3),(6,8),(12,26)] (.leaf)))) (.leaf)))) (ZCI (ZeS f45)):=fun _ _ _ _=>by kernel_rfl
theorem ZGZ:Zm Tryz.prog 171 (ZCI ZcG):=okF (ZFR Zbe) Tryz.func171 Zf (Zo _ (.cons ZEP .nil) .nil .nil .nil (Zp _))
noncomputable abbrev ZCH (f:Zyj):Ze:=⟨[.one (.L)],[.one (.L),.one (.I .i64)],fun t K _ h=>f t.1 (fun r0 r1 h=>K (r0,r1,()) h) h⟩
noncomputable abbrev ZIc (f44:Zyl) (f46:Zyk):Cfg:=ZF Tryz.prog [(170,ZCJ f44),(171,ZCI f46)] 32 [] [] [] ZH
theorem ZFQ (f44:Zyl) (f46:Zyk):ZI (ZIc f44 f46) Tryz.f148 (.seq (.leaf) (.seq (.leaf) (.seq (.seq (.leaf) (.block (.loop [4,11] [.one (.L),.one (.I .i64)] [(2,3),(6,8),(12,27)] (.leaf)))) (.leaf)))) (ZCH (ZgP f44 f46)):=fun _ _ _ _=>by kernel_rfl
theorem ZGY:Zm Tryz.prog 148 (ZCH Zeo):=okF (ZFQ ZbN ZcG) Tryz.func148 Zf (Zo _ (.cons ZG0 (.cons ZGZ .nil)) .nil .nil .nil (Zp _))
noncomputable abbrev ZzY (f:ZuW):Ze:=⟨[.one (.P),.agg [.I .i64,.I .u8,.I .i64,.I .i64,.S,.I .i64]],[],fun t K _ h=>f t.1 t.2.1 (fun h=>K (()) h) h⟩
noncomputable abbrev ZIb (f47:Zyj):Cfg:=ZF Tryz.prog [(148,ZCH f47)] 21 [] [] [] ZH
theorem ZFP (f47:Zyj):ZI (ZIb f47) Tryz.f119 (.leaf) (ZzY (Zb1 f47)):=fun _ _ _ _=>by kernel_rfl
theorem ZEO:Zm Tryz.prog 119 (ZzY YQ):=okF (ZFP Zeo) Tryz.func119 Zf (Zo _ (.cons ZGY .nil) .nil .nil .nil (Zp _))
noncomputable abbrev ZCG (f:Zyi):Ze:=⟨[.one (.P),.one (.P),.one (.P),.one (.P),.one (.P)],[.one (.I .i64)],fun t K _ h=>f t.1 t.2.1 t.2.2.1 t.2.2.2.1 t.2.2.2.2.1 (fun r0 h=>K (r0,()) h) h⟩
noncomputable abbrev ZIa (f10:Zmi) (f48:ZuW):Cfg:=ZF Tryz.prog [(47,Zwl f10),(119,ZzY f48)] 55 [] [] [] ZH
theorem ZFO (f10:Zmi) (f48:ZuW):ZI (ZIa f10 f48) Tryz.f118 (.seq (.leaf) (.seq (.leaf) (.seq (.leaf) (.seq (.order (.take 0 (.take 1 (.take 2 (.take 3 (.take 4 (.take 5 (.take 6 (.take 7 (.take 8 (.take 9 (.take 10 .done)))))))))))) (.seq (.leaf) (.seq (.order (.take 0 (.take 1 (.take 2 (.take 3 (.take 4 (.take 5 (.take 6 .done)))))))) (.leaf))))))) (ZCG (Zb3 f10 f48)):=fun _ _ _ _=>by kernel_rfl
theorem ZGX:Zm Tryz.prog 118 (ZCG XR):=okF (ZFO YW YQ) Tryz.func118 Zf (Zo _ (.cons ZxD (.cons ZEO .nil)) .nil .nil .nil (Zp _))
noncomputable abbrev ZCF (f:Zyh):Ze:=⟨[.one (.P),.one (.I .i64),.clo 118 [.P,.P,.P,.P,.P]],[.one (.I .i64)],fun t K _ h=>f t.1 t.2.1 t.2.2.1 (fun r0 h=>K (r0,()) h) h⟩
noncomputable abbrev ZH9 (f15:Zia) (f16:Zh9) (f49:Zyi):Cfg:=ZF Tryz.prog [(33,Zte f15),(86,Ztd f16),(118,ZCG f49)] 57 [] [] [] ZH
theorem ZFN (f15:Zia) (f16:Zh9) (f49:Zyi):ZI (ZH9 f15 f16 f49) Tryz.f49 (.seq (.leaf) (.seq (.leaf) (.seq (.leaf) (.seq (.seq (.leaf) (.block (.loop [33] [.one (.I .i64)] [(8,8),(34,54)] (.seq (.leaf) (.seq (.leaf) (.seq (.block (.seq (.leaf) (.seq (.order (.take 0 (.take 1 (.take 2 (.take 3 (.take 5 (.take 8 (.take 9 (.take 10 (.take 11 (.take 4 (.take 12 (.take 6 (.take 7 (.take 13 .done))))))))))))))) (.leaf)))) (.leaf))))))) (.leaf))))) (ZCF (XS f15 f16 f49)):=fun _ _ _ _=>by kernel_rfl
theorem ZGW:Zm Tryz.prog 49 (ZCF Yp):=okF (ZFN Zj Zq XR) Tryz.func49 Zf (Zo _ (.cons ZuJ (.cons ZuI (.cons ZGX .nil))) .nil .nil .nil (Zp _))
noncomputable abbrev ZCE (f:Zyg):Ze:=⟨[.one (.P),.one (.I .i64),.agg [.I .i64,.I .u8,.I .i64,.I .i64,.S,.I .i64]],[.one (.I .i64),.one (.B),.one (.I .i64)],fun t K _ h=>f t.1 t.2.1 t.2.2.1 (fun r0 r1 r2 h=>K (r0,r1,r2,()) h) h⟩
noncomputable abbrev ZH8 (f50:Zyh):Cfg:=ZF Tryz.prog [(49,ZCF f50)] 16 [] [] [] ZH
theorem ZFM (f50:Zyh):ZI (ZH8 f50) Tryz.f94 (.seq (.leaf) (.seq (.leaf) (.seq (.order (.take 2 (.take 0 (.take 1 (.take 3 (.take 4 (.take 5 .done))))))) (.leaf)))) (ZCE (Zc3 f50)):=fun _ _ _ _=>by kernel_rfl
theorem ZGV:Zm Tryz.prog 94 (ZCE Zar):=okF (ZFM Yp) Tryz.func94 Zf (Zo _ (.cons ZGW .nil) .nil .nil .nil (Zp _))
noncomputable abbrev Zvz (f:Zl5):Ze:=⟨[.one (.P)],[.one (.B)],fun t K _ h=>f t.1 (fun r0 h=>K (r0,()) h) h⟩
noncomputable abbrev ZH7:Cfg:=ZF Tryz.prog [] 11 [] [] [] ZH
theorem ZFL:ZI (ZH7) Tryz.f40 (.leaf) (Zvz ZcH):=fun _ _ _ _=>by kernel_rfl
theorem Zxp:Zm Tryz.prog 40 (Zvz ZP):=okF (ZFL) Tryz.func40 Zf (Zo _ .nil .nil .nil .nil (Zp _))
noncomputable abbrev ZCD (f:Zyf):Ze:=⟨[.one (.P)],[.one (.L)],fun t K _ h=>f t.1 (fun r0 h=>K (r0,()) h) h⟩
noncomputable abbrev ZH6:Cfg:=ZF Tryz.prog [] 14 [] [] [] ZH
theorem ZFK:ZI (ZH6) Tryz.f120 (.leaf) (ZCD Zd4):=fun _ _ _ _=>by kernel_rfl
theorem ZGU:Zm Tryz.prog 120 (ZCD ZaV):=okF (ZFK) Tryz.func120 Zf (Zo _ .nil .nil .nil .nil (Zp _))
noncomputable abbrev Zxi (f:ZoH):Ze:=⟨[.one (.P),.one (.I .i64),.one (.I .i64),.one (.I .i64)],[.one (.P),.one (.I .i64)],fun t K _ h=>f t.1 t.2.1 t.2.2.1 t.2.2.2.1 (fun r0 r1 h=>K (r0,r1,()) h) h⟩
noncomputable abbrev ZH5:Cfg:=ZF Tryz.prog [] 53 [] [] [] ZH
theorem ZFJ:ZI (ZH5) Tryz.f74 (.leaf) (Zxi Zeq):=fun _ _ _ _=>by kernel_rfl
theorem ZzL:Zm Tryz.prog 74 (Zxi YB):=okF (ZFJ) Tryz.func74 Zf (Zo _ .nil .nil .nil .nil (Zp _))
noncomputable abbrev ZzX (f:ZuV):Ze:=⟨[.one (.P),.one (.I .i64),.one (.I .i64),.one (.L)],[.one (.I .i64)],fun t K _ h=>f t.1 t.2.1 t.2.2.1 t.2.2.2.1 (fun r0 h=>K (r0,()) h) h⟩
noncomputable abbrev ZH4 (f54:ZoH):Cfg:=ZF Tryz.prog [(74,Zxi f54)] 51 [] [] [] ZH
theorem ZFI (f54:ZoH):ZI (ZH4 f54) Tryz.f121 (.leaf) (ZzX (Zdn f54)):=fun _ _ _ _=>by kernel_rfl
theorem ZEN:Zm Tryz.prog 121 (ZzX Xm):=okF (ZFI YB) Tryz.func121 Zf (Zo _ (.cons ZzL .nil) .nil .nil .nil (Zp _))
noncomputable abbrev ZzW (f:ZuU):Ze:=⟨[.one (.P),.one (.L)],[.one (.I .i64)],fun t K _ h=>f t.1 t.2.1 (fun r0 h=>K (r0,()) h) h⟩
noncomputable abbrev ZH3 (f54:ZoH):Cfg:=ZF Tryz.prog [(74,Zxi f54)] 69 [] [] [] ZH
theorem ZFH (f54:ZoH):ZI (ZH3 f54) Tryz.f124 (.seq (.leaf) (.seq (.leaf) (.seq (.leaf) (.seq (.leaf) (.seq (.seq (.leaf) (.block (.loop [6,18] [.one (.B),.one (.I .i64)] [(4,4),(8,10),(19,43)] (.leaf)))) (.seq (.leaf) (.seq (.seq (.leaf) (.block (.loop [47] [.one (.I .i64)] [(12,12),(48,68)] (.seq (.leaf) (.seq (.leaf) (.seq (.block (.seq (.leaf) (.order (.take 0 (.take 1 (.take 2 (.take 4 (.take 5 (.take 6 (.take 7 (.take 8 (.take 10 (.take 11 (.take 3 (.take 9 (.take 12 (.take 13 (.take 14 (.take 15 (.take 16 (.take 17 .done))))))))))))))))))))) (.leaf))))))) (.leaf)))))))) (ZzW (Zdp f54)):=fun _ _ _ _=>by kernel_rfl
theorem ZEM:Zm Tryz.prog 124 (ZzW Xn):=okF (ZFH YB) Tryz.func124 Zf (Zo _ (.cons ZzL .nil) .nil .nil .nil (Zp _))
noncomputable abbrev ZCC (f:Zye):Ze:=⟨[.one (.P),.one (.I .i64)],[.one (.I .i64)],fun t K _ h=>f t.1 t.2.1 (fun r0 h=>K (r0,()) h) h⟩
noncomputable abbrev ZH2:Cfg:=ZF Tryz.prog [] 25 [] [] [] ZH
theorem ZFG:ZI (ZH2) Tryz.f134 (.leaf) (ZCC Zcg):=fun _ _ _ _=>by kernel_rfl
theorem ZGT:Zm Tryz.prog 134 (ZCC X4):=okF (ZFG) Tryz.func134 Zf (Zo _ .nil .nil .nil .nil (Zp _))
noncomputable abbrev ZCB (f:Zyd):Ze:=⟨[.one (.P)],[],fun t K _ h=>f t.1 (fun h=>K (()) h) h⟩
noncomputable abbrev ZH1:Cfg:=ZF Tryz.prog [] 10 [] [] [] ZH
theorem ZFF:ZI (ZH1) Tryz.f156 (.leaf) (ZCB Zcl):=fun _ _ _ _=>by kernel_rfl
theorem ZGS:Zm Tryz.prog 156 (ZCB X6):=okF (ZFF) Tryz.func156 Zf (Zo _ .nil .nil .nil .nil (Zp _))
noncomputable abbrev ZzV (f:ZuT):Ze:=⟨[.one (.P)],[],fun t K _ h=>f t.1 (fun h=>K (()) h) h⟩
noncomputable abbrev ZH0:Cfg:=ZF Tryz.prog [] 28 [] [] [] ZH
theorem ZFE:ZI (ZH0) Tryz.f126 (.seq (.order (.take 0 (.take 1 (.take 2 (.take 3 (.take 5 (.take 6 (.take 7 (.take 4 (.take 8 (.take 9 (.take 10 (.take 11 (.take 12 .done)))))))))))))) (.order (.take 0 (.take 1 (.take 2 (.take 3 (.take 6 (.take 7 (.take 8 (.take 9 (.take 4 (.take 5 (.take 10 (.take 11 (.take 12 (.take 13 (.take 14 .done))))))))))))))))) (ZzV ZbB):=fun _ _ _ _=>by kernel_rfl
theorem ZEL:Zm Tryz.prog 126 (ZzV YF):=okF (ZFE) Tryz.func126 Zf (Zo _ .nil .nil .nil .nil (Zp _))
noncomputable abbrev ZzU (f:ZuS):Ze:=⟨[.one (.P)],[],fun t K _ h=>f t.1 (fun h=>K (()) h) h⟩
noncomputable abbrev ZHZ (f15:Zia) (f16:Zh9) (f58:Zyd) (f59:ZuT):Cfg:=ZF Tryz.prog [(33,Zte f15),(86,Ztd f16),(156,ZCB f58),(126,ZzV f59)] 28 [] [] [] ZH
theorem ZFD (f15:Zia) (f16:Zh9) (f58:Zyd) (f59:ZuT):ZI (ZHZ f15 f16 f58 f59) Tryz.f139 (.seq (.leaf) (.seq (.seq (.leaf) (.block (.loop [10] [.one (.I .i64)] [(3,3),(11,17)] (.leaf)))) (.leaf))) (ZzU (Zcs f15 f16 f58 f59)):=fun _ _ _ _=>by kernel_rfl
theorem ZEK:Zm Tryz.prog 139 (ZzU Y0):=okF (ZFD Zj Zq X6 YF) Tryz.func139 Zf (Zo _ (.cons ZuJ (.cons ZuI (.cons ZGS (.cons ZEL .nil)))) .nil .nil .nil (Zp _))
noncomputable abbrev ZCA (f:Zyc):Ze:=⟨[.one (.P)],[.one (.I .i64)],fun t K _ h=>f t.1 (fun r0 h=>K (r0,()) h) h⟩
noncomputable abbrev ZHY (f60:ZuS):Cfg:=ZF Tryz.prog [(139,ZzU f60)] 9 [] [] [] ZH
theorem ZFC (f60:ZuS):ZI (ZHY f60) Tryz.f155 (.leaf) (ZCA (ZbD f60)):=fun _ _ _ _=>by kernel_rfl
theorem ZGR:Zm Tryz.prog 155 (ZCA XE):=okF (ZFC Y0) Tryz.func155 Zf (Zo _ (.cons ZEK .nil) .nil .nil .nil (Zp _))
noncomputable abbrev ZCz (f:Zyb):Ze:=⟨[.one (.P),.one (.I .i64),.clo 155 [.P]],[.one (.I .i64)],fun t K _ h=>f t.1 t.2.1 t.2.2.1 (fun r0 h=>K (r0,()) h) h⟩
noncomputable abbrev ZHX (f15:Zia) (f16:Zh9) (f61:Zyc):Cfg:=ZF Tryz.prog [(33,Zte f15),(86,Ztd f16),(155,ZCA f61)] 57 [] [] [] ZH
theorem ZFB (f15:Zia) (f16:Zh9) (f61:Zyc):ZI (ZHX f15 f16 f61) Tryz.f49 (.seq (.leaf) (.seq (.leaf) (.seq (.leaf) (.seq (.seq (.leaf) (.block (.loop [33] [.one (.I .i64)] [(8,8),(34,54)] (.seq (.leaf) (.seq (.leaf) (.seq (.block (.seq (.leaf) (.seq (.order (.take 0 (.take 1 (.take 2 (.take 3 (.take 5 (.take 8 (.take 9 (.take 10 (.take 11 (.take 4 (.take 12 (.take 6 (.take 7 (.take 13 .done))))))))))))))) (.leaf)))) (.leaf))))))) (.leaf))))) (ZCz (XJ f15 f16 f61)):=fun _ _ _ _=>by kernel_rfl
theorem ZGQ:Zm Tryz.prog 49 (ZCz Yj):=okF (ZFB Zj Zq XE) Tryz.func49 Zf (Zo _ (.cons ZuJ (.cons ZuI (.cons ZGR .nil))) .nil .nil .nil (Zp _))
noncomputable abbrev ZCy (f:Zya):Ze:=⟨[.one (.P),.one (.I .i64)],[.one (.I .i64)],fun t K _ h=>f t.1 t.2.1 (fun r0 h=>K (r0,()) h) h⟩
noncomputable abbrev ZHW (f62:Zyb):Cfg:=ZF Tryz.prog [(49,ZCz f62)] 9 [] [] [] ZH
theorem ZFA (f62:Zyb):ZI (ZHW f62) Tryz.f135 (.leaf) (ZCy (Zcv f62)):=fun _ _ _ _=>by kernel_rfl
theorem ZGP:Zm Tryz.prog 135 (ZCy X8):=okF (ZFA Yj) Tryz.func135 Zf (Zo _ (.cons ZGQ .nil) .nil .nil .nil (Zp _))
noncomputable abbrev Zvy (f:Zl4):Ze:=⟨[.one (.P),.one (.P)],[],fun t K _ h=>f t.1 t.2.1 (fun h=>K (()) h) h⟩
noncomputable abbrev ZHV (f56:ZuU) (f57:Zye) (f52:Zl5) (f63:Zya):Cfg:=ZF Tryz.prog [(124,ZzW f56),(134,ZCC f57),(40,Zvz f52),(135,ZCy f63)] 44 [] [] [] ZH
theorem ZFz (f56:ZuU) (f57:Zye) (f52:Zl5) (f63:Zya):ZI (ZHV f56 f57 f52 f63) Tryz.f103 (.seq (.leaf) (.seq (.leaf) (.seq (.leaf) (.seq (.leaf) (.seq (.leaf) (.seq (.leaf) (.cond (.order (.take 0 (.take 1 (.take 2 (.take 4 (.take 5 (.take 6 (.take 3 (.take 7 (.take 8 .done)))))))))) (.leaf)))))))) (Zvy (Zc1 f56 f57 f52 f63)):=fun _ _ _ _=>by kernel_rfl
theorem Zxo:Zm Tryz.prog 103 (Zvy Z4):=okF (ZFz Xn X4 ZP X8) Tryz.func103 Zf (Zo _ (.cons ZEM (.cons ZGT (.cons Zxp (.cons ZGP .nil)))) .nil .nil .nil (Zp _))
noncomputable abbrev ZxF (f:Zqo):Ze:=⟨[.one (.P),.one (.P)],[],fun t K _ h=>f t.1 t.2.1 (fun h=>K (()) h) h⟩
noncomputable abbrev ZHU (f52:Zl5) (f53:Zyf) (f55:ZuV) (f64:Zl4):Cfg:=ZF Tryz.prog [(40,Zvz f52),(120,ZCD f53),(121,ZzX f55),(103,Zvy f64)] 42 [] [] [] ZH
theorem ZFy (f52:Zl5) (f53:Zyf) (f55:ZuV) (f64:Zl4):ZI (ZHU f52 f53 f55 f64) Tryz.f95 (.seq (.leaf) (.seq (.leaf) (.seq (.order (.take 0 (.take 1 (.take 2 (.take 3 (.take 4 (.take 5 (.take 6 (.take 8 (.take 9 (.take 10 (.take 12 (.take 7 (.take 11 (.take 13 (.take 14 (.take 15 .done))))))))))))))))) (.leaf)))) (ZxF (ZbY f52 f53 f55 f64)):=fun _ _ _ _=>by kernel_rfl
theorem ZBl:Zm Tryz.prog 95 (ZxF Yo):=okF (ZFy ZP ZaV Xm Z4) Tryz.func95 Zf (Zo _ (.cons Zxp (.cons ZGU (.cons ZEN (.cons Zxo .nil)))) .nil .nil .nil (Zp _))
noncomputable abbrev ZCx (f:Zx9):Ze:=⟨[.one (.P),.agg [.I .u8,.I .i64,.I .i64,.I .i64,.I .i64,.I .u8,.I .i64,.I .i64,.S,.I .i64]],[.agg [.I .i64,.B,.I .i64]],fun t K _ h=>f t.1 t.2.1 (fun r0 h=>K (r0,()) h) h⟩
noncomputable abbrev ZHT (f51:Zyg) (f65:Zqo):Cfg:=ZF Tryz.prog [(94,ZCE f51),(95,ZxF f65)] 38 [] [] [] ZH
theorem ZFx (f51:Zyg) (f65:Zqo):ZI (ZHT f51 f65) Tryz.f61 (.seq (.leaf) (.seq (.leaf) (.seq (.order (.take 0 (.take 1 (.take 2 (.take 4 (.take 5 (.take 6 (.take 8 (.take 3 (.take 7 (.take 9 (.take 10 (.take 11 (.take 12 (.take 13 (.take 14 (.take 15 (.take 16 (.take 17 .done))))))))))))))))))) (.leaf)))) (ZCx (Zc2 f51 f65)):=fun _ _ _ _=>by kernel_rfl
theorem ZGO:Zm Tryz.prog 61 (ZCx XI):=okF (ZFx Zar Yo) Tryz.func61 Zf (Zo _ (.cons ZGV (.cons ZBl .nil)) .nil .nil .nil (Zp _))
noncomputable abbrev ZCw (f:Zx8):Ze:=⟨[.one (.P),.one (.P),.one (.P)],[.one (.I .i64)],fun t K _ h=>f t.1 t.2.1 t.2.2.1 (fun r0 h=>K (r0,()) h) h⟩
noncomputable abbrev ZHS:Cfg:=ZF Tryz.prog [] 17 [] [] [] ZH
theorem ZFw:ZI (ZHS) Tryz.f122 (.seq (.leaf) (.seq (.order (.take 0 (.take 1 (.take 2 (.take 3 (.take 4 (.take 5 (.take 6 (.take 7 (.take 8 (.take 9 (.take 10 (.take 11 (.take 12 (.take 13 .done))))))))))))))) (.leaf))) (ZCw ZbE):=fun _ _ _ _=>by kernel_rfl
theorem ZGN:Zm Tryz.prog 122 (ZCw XF):=okF (ZFw) Tryz.func122 Zf (Zo _ .nil .nil .nil .nil (Zp _))
noncomputable abbrev ZCv (f:Zx7):Ze:=⟨[.one (.P),.one (.I .i64),.clo 122 [.P,.P,.P]],[.one (.I .i64)],fun t K _ h=>f t.1 t.2.1 t.2.2.1 (fun r0 h=>K (r0,()) h) h⟩
noncomputable abbrev ZHR (f15:Zia) (f16:Zh9) (f67:Zx8):Cfg:=ZF Tryz.prog [(33,Zte f15),(86,Ztd f16),(122,ZCw f67)] 57 [] [] [] ZH
theorem ZFv (f15:Zia) (f16:Zh9) (f67:Zx8):ZI (ZHR f15 f16 f67) Tryz.f49 (.seq (.leaf) (.seq (.leaf) (.seq (.leaf) (.seq (.seq (.leaf) (.block (.loop [33] [.one (.I .i64)] [(8,8),(34,54)] (.seq (.leaf) (.seq (.leaf) (.seq (.block (.seq (.leaf) (.seq (.order (.take 0 (.take 1 (.take 2 (.take 3 (.take 5 (.take 8 (.take 9 (.take 10 (.take 11 (.take 4 (.take 12 (.take 6 (.take 7 (.take 13 .done))))))))))))))) (.leaf)))) (.leaf))))))) (.leaf))))) (ZCv (XK f15 f16 f67)):=fun _ _ _ _=>by kernel_rfl
theorem ZGM:Zm Tryz.prog 49 (ZCv Yk):=okF (ZFv Zj Zq XF) Tryz.func49 Zf (Zo _ (.cons ZuJ (.cons ZuI (.cons ZGN .nil))) .nil .nil .nil (Zp _))
noncomputable abbrev ZCu (f:Zx6):Ze:=⟨[.one (.P),.one (.I .i64)],[.one (.B),.one (.I .i64)],fun t K _ h=>f t.1 t.2.1 (fun r0 r1 h=>K (r0,r1,()) h) h⟩
noncomputable abbrev ZHQ (f68:Zx7):Cfg:=ZF Tryz.prog [(49,ZCv f68)] 12 [] [] [] ZH
theorem ZFu (f68:Zx7):ZI (ZHQ f68) Tryz.f96 (.leaf) (ZCu (Zcw f68)):=fun _ _ _ _=>by kernel_rfl
theorem ZGL:Zm Tryz.prog 96 (ZCu X9):=okF (ZFu Yk) Tryz.func96 Zf (Zo _ (.cons ZGM .nil) .nil .nil .nil (Zp _))
noncomputable abbrev ZCt (f:Zx5):Ze:=⟨[.one (.P)],[.one (.L)],fun t K _ h=>f t.1 (fun r0 h=>K (r0,()) h) h⟩
noncomputable abbrev ZHP:Cfg:=ZF Tryz.prog [] 28 [] [] [] ZH
theorem ZFt:ZI (ZHP) Tryz.f149 (.seq (.leaf) (.seq (.leaf) (.seq (.leaf) (.seq (.seq (.leaf) (.block (.loop [3,13] [.one (.L),.one (.I .i64)] [(4,5),(14,26)] (.leaf)))) (.leaf))))) (ZCt Zdo):=fun _ _ _ _=>by kernel_rfl
theorem ZGK:Zm Tryz.prog 149 (ZCt ZaF):=okF (ZFt) Tryz.func149 Zf (Zo _ .nil .nil .nil .nil (Zp _))
noncomputable abbrev ZCs (f:Zx4):Ze:=⟨[.one (.P),.one (.I .i64)],[.one (.I .i64),.one (.I .i64)],fun t K _ h=>f t.1 t.2.1 (fun r0 r1 h=>K (r0,r1,()) h) h⟩
noncomputable abbrev ZHO (f6:zT6) (f70:Zx5):Cfg:=ZF Tryz.prog [(46,zk6 f6),(149,ZCt f70)] 43 [] [] [] ZH
theorem ZFs (f6:zT6) (f70:Zx5):ZI (ZHO f6 f70) Tryz.f123 (.leaf) (ZCs (ZdK f6 f70)):=fun _ _ _ _=>by kernel_rfl
theorem ZGJ:Zm Tryz.prog 123 (ZCs Za2):=okF (ZFs Yl ZaF) Tryz.func123 Zf (Zo _ (.cons zo6 (.cons ZGK .nil)) .nil .nil .nil (Zp _))
noncomputable abbrev ZCr (f:Zx3):Ze:=⟨[.one (.P),.one (.I .i64)],[.one (.I .i64)],fun t K _ h=>f t.1 t.2.1 (fun r0 h=>K (r0,()) h) h⟩
noncomputable abbrev ZHN:Cfg:=ZF Tryz.prog [] 38 [] [] [] ZH
theorem ZFr:ZI (ZHN) Tryz.f36 (.leaf) (ZCr ZcU):=fun _ _ _ _=>by kernel_rfl
theorem ZGI:Zm Tryz.prog 36 (ZCr Zam):=okF (ZFr) Tryz.func36 Zf (Zo _ .nil .nil .nil .nil (Zp _))
noncomputable abbrev ZCq (f:Zx2):Ze:=⟨[.one (.P)],[.one (.I .i64)],fun t K _ h=>f t.1 (fun r0 h=>K (r0,()) h) h⟩
noncomputable abbrev ZHM (f71:Zx4) (f72:Zx3) (f56:ZuU):Cfg:=ZF Tryz.prog [(123,ZCs f71),(36,ZCr f72),(124,ZzW f56)] 35 [] [] [] ZH
theorem ZFq (f71:Zx4) (f72:Zx3) (f56:ZuU):ZI (ZHM f71 f72 f56) Tryz.f97 (.leaf) (ZCq (ZaN f71 f72 f56)):=fun _ _ _ _=>by kernel_rfl
theorem ZGH:Zm Tryz.prog 97 (ZCq Y6):=okF (ZFq Za2 Zam Xn) Tryz.func97 Zf (Zo _ (.cons ZGJ (.cons ZGI (.cons ZEM .nil))) .nil .nil .nil (Zp _))
noncomputable abbrev ZCp (f:Zx1):Ze:=⟨[.one (.P)],[.one (.I .i64)],fun t K _ h=>f t.1 (fun r0 h=>K (r0,()) h) h⟩
noncomputable abbrev ZHL (f59:ZuT):Cfg:=ZF Tryz.prog [(126,ZzV f59)] 8 [] [] [] ZH
theorem ZFp (f59:ZuT):ZI (ZHL f59) Tryz.f125 (.leaf) (ZCp (ZaO f59)):=fun _ _ _ _=>by kernel_rfl
theorem ZGG:Zm Tryz.prog 125 (ZCp Y7):=okF (ZFp YF) Tryz.func125 Zf (Zo _ (.cons ZEL .nil) .nil .nil .nil (Zp _))
noncomputable abbrev ZCo (f:Zx0):Ze:=⟨[.one (.P),.one (.I .i64),.clo 125 [.P]],[.one (.I .i64)],fun t K _ h=>f t.1 t.2.1 t.2.2.1 (fun r0 h=>K (r0,()) h) h⟩
noncomputable abbrev ZHK (f15:Zia) (f16:Zh9) (f74:Zx1):Cfg:=ZF Tryz.prog [(33,Zte f15),(86,Ztd f16),(125,ZCp f74)] 57 [] [] [] ZH
theorem ZFo (f15:Zia) (f16:Zh9) (f74:Zx1):ZI (ZHK f15 f16 f74) Tryz.f49 (.seq (.leaf) (.seq (.leaf) (.seq (.leaf) (.seq (.seq (.leaf) (.block (.loop [33] [.one (.I .i64)] [(8,8),(34,54)] (.seq (.leaf) (.seq (.leaf) (.seq (.block (.seq (.leaf) (.seq (.order (.take 0 (.take 1 (.take 2 (.take 3 (.take 5 (.take 8 (.take 9 (.take 10 (.take 11 (.take 4 (.take 12 (.take 6 (.take 7 (.take 13 .done))))))))))))))) (.leaf)))) (.leaf))))))) (.leaf))))) (ZCo (Xq f15 f16 f74)):=fun _ _ _ _=>by kernel_rfl
theorem ZGF:Zm Tryz.prog 49 (ZCo Ya):=okF (ZFo Zj Zq Y7) Tryz.func49 Zf (Zo _ (.cons ZuJ (.cons ZuI (.cons ZGG .nil))) .nil .nil .nil (Zp _))
noncomputable abbrev ZCn (f:ZxZ):Ze:=⟨[.one (.P),.one (.I .i64)],[.one (.I .i64)],fun t K _ h=>f t.1 t.2.1 (fun r0 h=>K (r0,()) h) h⟩
noncomputable abbrev ZHJ (f75:Zx0):Cfg:=ZF Tryz.prog [(49,ZCo f75)] 9 [] [] [] ZH
theorem ZFn (f75:Zx0):ZI (ZHJ f75) Tryz.f98 (.leaf) (ZCn (Zbk f75)):=fun _ _ _ _=>by kernel_rfl
theorem ZGE:Zm Tryz.prog 98 (ZCn Xo):=okF (ZFn Ya) Tryz.func98 Zf (Zo _ (.cons ZGF .nil) .nil .nil .nil (Zp _))
noncomputable abbrev ZCm (f:ZxY):Ze:=⟨[.one (.P)],[.one (.I .i64)],fun t K _ h=>f t.1 (fun r0 h=>K (r0,()) h) h⟩
noncomputable abbrev ZHI (f48:ZuW):Cfg:=ZF Tryz.prog [(119,ZzY f48)] 24 [] [] [] ZH
theorem ZFm (f48:ZuW):ZI (ZHI f48) Tryz.f127 (.seq (.leaf) (.seq (.leaf) (.seq (.order (.take 0 (.take 1 (.take 2 (.take 3 (.take 4 (.take 5 (.take 6 (.take 7 (.take 8 (.take 9 (.take 10 (.take 11 (.take 12 .done)))))))))))))) (.seq (.order (.take 0 (.take 1 (.take 2 (.take 3 (.take 4 (.take 5 (.take 6 .done)))))))) (.leaf))))) (ZCm (Zct f48)):=fun _ _ _ _=>by kernel_rfl
theorem ZGD:Zm Tryz.prog 127 (ZCm X7):=okF (ZFm YQ) Tryz.func127 Zf (Zo _ (.cons ZEO .nil) .nil .nil .nil (Zp _))
noncomputable abbrev ZCl (f:ZxX):Ze:=⟨[.one (.P),.one (.I .i64),.clo 127 [.P]],[.one (.I .i64)],fun t K _ h=>f t.1 t.2.1 t.2.2.1 (fun r0 h=>K (r0,()) h) h⟩
noncomputable abbrev ZHH (f15:Zia) (f16:Zh9) (f77:ZxY):Cfg:=ZF Tryz.prog [(33,Zte f15),(86,Ztd f16),(127,ZCm f77)] 57 [] [] [] ZH
theorem ZFl (f15:Zia) (f16:Zh9) (f77:ZxY):ZI (ZHH f15 f16 f77) Tryz.f49 (.seq (.leaf) (.seq (.leaf) (.seq (.leaf) (.seq (.seq (.leaf) (.block (.loop [33] [.one (.I .i64)] [(8,8),(34,54)] (.seq (.leaf) (.seq (.leaf) (.seq (.block (.seq (.leaf) (.seq (.order (.take 0 (.take 1 (.take 2 (.take 3 (.take 5 (.take 8 (.take 9 (.take 10 (.take 11 (.take 4 (.take 12 (.take 6 (.take 7 (.take 13 .done))))))))))))))) (.leaf)))) (.leaf))))))) (.leaf))))) (ZCl (XZ f15 f16 f77)):=fun _ _ _ _=>by kernel_rfl
theorem ZGC:Zm Tryz.prog 49 (ZCl Yr):=okF (ZFl Zj Zq X7) Tryz.func49 Zf (Zo _ (.cons ZuJ (.cons ZuI (.cons ZGD .nil))) .nil .nil .nil (Zp _))
noncomputable abbrev ZCk (f:ZxW):Ze:=⟨[.one (.P),.one (.I .i64)],[.one (.I .i64)],fun t K _ h=>f t.1 t.2.1 (fun r0 h=>K (r0,()) h) h⟩
noncomputable abbrev ZHG (f78:ZxX):Cfg:=ZF Tryz.prog [(49,ZCl f78)] 9 [] [] [] ZH
theorem ZFk (f78:ZxX):ZI (ZHG f78) Tryz.f99 (.leaf) (ZCk (Zds f78)):=fun _ _ _ _=>by kernel_rfl
theorem ZGB:Zm Tryz.prog 99 (ZCk ZaI):=okF (ZFk Yr) Tryz.func99 Zf (Zo _ (.cons ZGC .nil) .nil .nil .nil (Zp _))
noncomputable abbrev ZCj (f:ZxV):Ze:=⟨[.one (.P),.agg [.I .u8,.I .i64,.I .i64,.I .i64,.I .i64,.I .u8,.I .i64,.I .i64,.S,.I .i64]],[.agg [.I .i64,.B,.I .i64]],fun t K _ h=>f t.1 t.2.1 (fun r0 h=>K (r0,()) h) h⟩
noncomputable abbrev ZHF (f52:Zl5) (f69:Zx6) (f73:Zx2) (f76:ZxZ) (f11:Zu4) (f79:ZxW) (f65:Zqo):Cfg:=ZF Tryz.prog [(40,Zvz f52),(96,ZCu f69),(97,ZCq f73),(98,ZCn f76),(48,Zz6 f11),(99,ZCk f79),(95,ZxF f65)] 73 [] [] [] ZH
theorem ZFj (f52:Zl5) (f69:Zx6) (f73:Zx2) (f76:ZxZ) (f11:Zu4) (f79:ZxW) (f65:Zqo):ZI (ZHF f52 f69 f73 f76 f11 f79 f65) Tryz.f62 (.seq (.leaf) (.seq (.leaf) (.seq (.leaf) (.seq (.seq (.order (.take 0 (.take 1 (.take 2 (.take 4 (.take 5 (.take 6 (.take 3 (.take 7 (.take 8 (.take 9 (.take 10 (.take 11 (.take 12 (.take 13 .done))))))))))))))) (.leaf)) (.seq (.leaf) (.seq (.seq (.leaf) (.cond (.seq (.order (.take 0 (.take 1 (.take 2 (.take 4 (.take 5 (.take 6 (.take 3 (.take 7 (.take 8 .done)))))))))) (.leaf)) (.leaf))) (.seq (.leaf) (.seq (.order (.take 0 (.take 1 (.take 2 (.take 4 (.take 5 (.take 6 (.take 3 (.take 7 (.take 8 .done)))))))))) (.leaf))))))))) (ZCj (Zcp f52 f69 f73 f76 f11 f79 f65)):=fun _ _ _ _=>by kernel_rfl
theorem ZGA:Zm Tryz.prog 62 (ZCj Xu):=okF (ZFj ZP X9 Y6 Xo ZbO ZaI Yo) Tryz.func62 Zf (Zo _ (.cons Zxp (.cons ZGL (.cons ZGH (.cons ZGE (.cons ZEW (.cons ZGB (.cons ZBl .nil))))))) .nil .nil .nil (Zp _))
noncomputable abbrev ZzT (f:ZuR):Ze:=⟨[.one (.L)],[.one (.L)],fun t K _ h=>f t.1 (fun r0 h=>K (r0,()) h) h⟩
noncomputable abbrev ZHE:Cfg:=ZF Tryz.prog [] 8 [] [] [] ZH
theorem ZFi:ZI (ZHE) Tryz.f78 (.leaf) (ZzT ZaM):=fun _ _ _ _=>by kernel_rfl
theorem ZEJ:Zm Tryz.prog 78 (ZzT Yq):=okF (ZFi) Tryz.func78 Zf (Zo _ .nil .nil .nil .nil (Zp _))
noncomputable abbrev ZCi (f:ZxU):Ze:=⟨[.one (.P),.one (.I .i64),.one (.I .i64),.one (.I .i64)],[.one (.I .i64),.one (.I .i64)],fun t K _ h=>f t.1 t.2.1 t.2.2.1 t.2.2.2.1 (fun r0 r1 h=>K (r0,r1,()) h) h⟩
noncomputable abbrev ZHD (f54:ZoH) (f81:ZuR):Cfg:=ZF Tryz.prog [(74,Zxi f54),(78,ZzT f81)] 62 [] [] [] ZH
theorem ZFh (f54:ZoH) (f81:ZuR):ZI (ZHD f54 f81) Tryz.f128 (.seq (.leaf) (.seq (.leaf) (.seq (.leaf) (.seq (.leaf) (.seq (.leaf) (.seq (.order (.take 0 (.take 1 (.take 2 (.take 3 (.take 5 (.take 6 (.take 7 (.take 9 (.take 4 (.take 8 (.take 10 (.take 11 (.take 12 (.take 13 (.take 14 .done)))))))))))))))) (.leaf))))))) (ZCi (ZdJ f54 f81)):=fun _ _ _ _=>by kernel_rfl
theorem ZGz:Zm Tryz.prog 128 (ZCi Za1):=okF (ZFh YB Yq) Tryz.func128 Zf (Zo _ (.cons ZzL (.cons ZEJ .nil)) .nil .nil .nil (Zp _))
noncomputable abbrev ZCh (f:ZxT):Ze:=⟨[.one (.P),.one (.I .i64),.one (.I .i64),.one (.I .i64)],[.one (.L),.one (.B),.one (.I .i64)],fun t K _ h=>f t.1 t.2.1 t.2.2.1 t.2.2.2.1 (fun r0 r1 r2 h=>K (r0,r1,r2,()) h) h⟩
noncomputable abbrev ZHC (f54:ZoH) (f81:ZuR):Cfg:=ZF Tryz.prog [(74,Zxi f54),(78,ZzT f81)] 78 [] [] [] ZH
theorem ZFg (f54:ZoH) (f81:ZuR):ZI (ZHC f54 f81) Tryz.f129 (.leaf) (ZCh (ZdI f54 f81)):=fun _ _ _ _=>by kernel_rfl
theorem ZGy:Zm Tryz.prog 129 (ZCh Za0):=okF (ZFg YB Yq) Tryz.func129 Zf (Zo _ (.cons ZzL (.cons ZEJ .nil)) .nil .nil .nil (Zp _))
noncomputable abbrev ZzS (f:ZuQ):Ze:=⟨[.one (.P),.one (.P),.one (.I .i64),.one (.I .i64)],[.one (.L),.one (.I .i64)],fun t K _ h=>f t.1 t.2.1 t.2.2.1 t.2.2.2.1 (fun r0 r1 h=>K (r0,r1,()) h) h⟩
noncomputable abbrev ZHB (f52:Zl5) (f82:ZxU) (f83:ZxT):Cfg:=ZF Tryz.prog [(40,Zvz f52),(128,ZCi f82),(129,ZCh f83)] 57 [] [] [] ZH
theorem ZFf (f52:Zl5) (f82:ZxU) (f83:ZxT):ZI (ZHB f52 f82 f83) Tryz.f100 (.seq (.leaf) (.seq (.leaf) (.seq (.order (.take 0 (.take 1 (.take 2 (.take 4 (.take 5 (.take 6 (.take 8 (.take 9 (.take 3 (.take 7 (.take 10 .done)))))))))))) (.seq (.order (.take 0 (.take 1 (.take 2 (.take 4 (.take 5 (.take 6 (.take 8 (.take 9 (.take 3 (.take 7 (.take 10 (.take 11 (.take 12 (.take 13 (.take 14 (.take 15 (.take 16 (.take 17 .done))))))))))))))))))) (.leaf))))) (ZzS (ZbZ f52 f82 f83)):=fun _ _ _ _=>by kernel_rfl
theorem ZEI:Zm Tryz.prog 100 (ZzS YP):=okF (ZFf ZP Za1 Za0) Tryz.func100 Zf (Zo _ (.cons Zxp (.cons ZGz (.cons ZGy .nil))) .nil .nil .nil (Zp _))
noncomputable abbrev ZCg (f:ZxS):Ze:=⟨[.one (.L)],[.one (.L)],fun t K _ h=>f t.1 (fun r0 h=>K (r0,()) h) h⟩
noncomputable abbrev ZHA:Cfg:=ZF Tryz.prog [] 8 [] [] [] ZH
theorem ZFe:ZI (ZHA) Tryz.f81 (.leaf) (ZCg Zfx):=fun _ _ _ _=>by kernel_rfl
theorem ZGx:Zm Tryz.prog 81 (ZCg Zdh):=okF (ZFe) Tryz.func81 Zf (Zo _ .nil .nil .nil .nil (Zp _))
noncomputable abbrev ZCf (f:ZxR):Ze:=⟨[.one (.L)],[.one (.I .i64),.one (.B)],fun t K _ h=>f t.1 (fun r0 r1 h=>K (r0,r1,()) h) h⟩
noncomputable abbrev ZHz:Cfg:=ZF Tryz.prog [] 44 [] [] [] ZH
theorem ZFd:ZI (ZHz) Tryz.f130 (.seq (.leaf) (.seq (.leaf) (.seq (.seq (.leaf) (.block (.loop [4,13] [.one (.I .i64),.one (.I .i64)] [(6,6),(14,22)] (.leaf)))) (.cut [] [] [(2,3),(23,36)] (.leaf) (.leaf))))) (ZCf ZeR):=fun _ _ _ _=>by kernel_rfl
theorem ZGw:Zm Tryz.prog 130 (ZCf ZcF):=okF (ZFd) Tryz.func130 Zf (Zo _ .nil .nil .nil .nil (Zp _))
noncomputable abbrev ZzR (f:ZuP):Ze:=⟨[.one (.P),.one (.L)],[.one (.L),.one (.I .i64)],fun t K _ h=>f t.1 t.2.1 (fun r0 r1 h=>K (r0,r1,()) h) h⟩
noncomputable abbrev ZHy (f85:ZxS) (f86:ZxR):Cfg:=ZF Tryz.prog [(81,ZCg f85),(130,ZCf f86)] 64 [] [] [] ZH
theorem ZFc (f85:ZxS) (f86:ZxR):ZI (ZHy f85 f86) Tryz.f101 (.seq (.leaf) (.seq (.leaf) (.seq (.leaf) (.seq (.leaf) (.cut [6,7] [.one (.L),.one (.L)] [(4,5),(8,9),(25,58)] (.block (.loop [6,7] [.one (.L),.one (.L)] [(4,5),(8,9),(25,58)] (.leaf))) (.leaf)))))) (ZzR (Zdr f85 f86)):=fun _ _ _ _=>by kernel_rfl
theorem ZEH:Zm Tryz.prog 101 (ZzR Y3):=okF (ZFc Zdh ZcF) Tryz.func101 Zf (Zo _ (.cons ZGx (.cons ZGw .nil)) .nil .nil .nil (Zp _))
noncomputable abbrev ZzQ (f:ZuO):Ze:=⟨[.one (.P),.one (.I .i64)],[.one (.L)],fun t K _ h=>f t.1 t.2.1 (fun r0 h=>K (r0,()) h) h⟩
noncomputable abbrev ZHx:Cfg:=ZF Tryz.prog [] 53 [] [] [] ZH
theorem ZFb:ZI (ZHx) Tryz.f151 (.seq (.leaf) (.cut [] [] [(4,29)] (.seq (.order (.take 0 (.take 1 (.take 2 (.take 3 (.take 4 (.take 5 (.take 6 (.take 7 (.take 8 (.take 11 (.take 12 (.take 13 (.take 16 (.take 9 (.take 10 (.take 14 (.take 15 (.take 17 (.take 18 (.take 19 (.take 20 (.take 21 .done))))))))))))))))))))))) (.leaf)) (.leaf))) (ZzQ ZcY):=fun _ _ _ _=>by kernel_rfl
theorem ZEG:Zm Tryz.prog 151 (ZzQ Xb):=okF (ZFb) Tryz.func151 Zf (Zo _ .nil .nil .nil .nil (Zp _))
noncomputable abbrev ZzP (f:ZuN):Ze:=⟨[.one (.P),.one (.I .i64)],[.one (.I .i64)],fun t K _ h=>f t.1 t.2.1 (fun r0 h=>K (r0,()) h) h⟩
noncomputable abbrev ZHw (f88:ZuO):Cfg:=ZF Tryz.prog [(151,ZzQ f88)] 24 [] [] [] ZH
theorem ZFa (f88:ZuO):ZI (ZHw f88) Tryz.f150 (.seq (.leaf) (.seq (.leaf) (.seq (.seq (.leaf) (.block (.loop [5,12] [.one (.I .u64),.one (.I .i64)] [(7,7),(13,21)] (.leaf)))) (.leaf)))) (ZzP (ZbV f88)):=fun _ _ _ _=>by kernel_rfl
theorem ZEF:Zm Tryz.prog 150 (ZzP Yn):=okF (ZFa Xb) Tryz.func150 Zf (Zo _ (.cons ZEG .nil) .nil .nil .nil (Zp _))
noncomputable abbrev ZzO (f:ZuM):Ze:=⟨[.one (.P),.one (.B)],[.one (.I .i64),.one (.I .i64)],fun t K _ h=>f t.1 t.2.1 (fun r0 r1 h=>K (r0,r1,()) h) h⟩
noncomputable abbrev ZHv:Cfg:=ZF Tryz.prog [] 34 [] [] [] ZH
theorem ZE9:ZI (ZHv) Tryz.f152 (.leaf) (ZzO Zck):=fun _ _ _ _=>by kernel_rfl
theorem ZEE:Zm Tryz.prog 152 (ZzO YZ):=okF (ZE9) Tryz.func152 Zf (Zo _ .nil .nil .nil .nil (Zp _))
noncomputable abbrev ZCe (f:ZxQ):Ze:=⟨[.one (.L)],[.agg [.I .i64,.I .u8,.I .i64,.I .i64,.S,.I .i64],.one (.I .i64),.one (.I .i64)],fun t K _ h=>f t.1 (fun r0 r1 r2 h=>K (r0,r1,r2,()) h) h⟩
noncomputable abbrev ZHu (f89:ZuN) (f88:ZuO) (f10:Zmi) (f90:ZuM):Cfg:=ZF Tryz.prog [(150,ZzP f89),(151,ZzQ f88),(47,Zwl f10),(152,ZzO f90)] 60 [] [] [] ZH
theorem ZE8 (f89:ZuN) (f88:ZuO) (f10:Zmi) (f90:ZuM):ZI (ZHu f89 f88 f10 f90) Tryz.f131 (.seq (.leaf) (.seq (.leaf) (.cut [6] [.one (.P)] [(13,34)] (.order (.take 0 (.take 1 (.take 2 (.take 5 (.take 6 (.take 7 (.take 9 (.take 10 (.take 11 (.take 13 (.take 14 (.take 15 (.take 17 (.take 18 (.take 19 (.fork 3 (.take 4 (.fork 8 (.fork 12 (.fork 16 (.fork 20 (.take 21 (.take 22 (.take 23 .done))) 22 (.take 20 (.take 21 (.take 23 .done)))) 22 (.take 16 (.take 20 (.take 21 (.take 23 .done))))) 22 (.take 12 (.take 16 (.take 20 (.take 21 (.take 23 .done)))))) 22 (.take 8 (.take 12 (.take 16 (.take 20 (.take 21 (.take 23 .done)))))))) 22 (.take 3 (.take 4 (.take 8 (.take 12 (.take 16 (.take 20 (.take 21 (.take 23 .done))))))))))))))))))))))))) (.seq (.order (.take 0 (.take 1 (.take 2 (.take 3 (.take 4 (.take 5 (.take 6 (.take 7 (.take 8 (.take 9 (.take 10 .done)))))))))))) (.seq (.seq (.order (.take 0 (.take 1 (.take 2 (.take 3 (.take 4 (.take 5 (.take 6 (.take 7 (.take 8 (.take 9 (.take 10 .done)))))))))))) (.leaf)) (.leaf)))))) (ZCe (Zc0 f89 f88 f10 f90)):=fun _ _ _ _=>by kernel_rfl
theorem ZGv:Zm Tryz.prog 131 (ZCe Zaq):=okF (ZE8 Yn Xb YW YZ) Tryz.func131 Zf (Zo _ (.cons ZEF (.cons ZEG (.cons ZxD (.cons ZEE .nil)))) .nil .nil .nil (Zp _))
noncomputable abbrev ZzN (f:ZuL):Ze:=⟨[.one (.P),.one (.I .i64)],[.one (.I .i64)],fun t K _ h=>f t.1 t.2.1 (fun r0 h=>K (r0,()) h) h⟩
noncomputable abbrev ZHt (f0:zT0):Cfg:=ZF Tryz.prog [(45,zk0 f0)] 19 [] [] [] ZH
theorem ZE7 (f0:zT0):ZI (ZHt f0) Tryz.f72 (.leaf) (ZzN (ZcR f0)):=fun _ _ _ _=>by kernel_rfl
theorem ZED:Zm Tryz.prog 72 (ZzN Y9):=okF (ZE7 ZaK) Tryz.func72 Zf (Zo _ (.cons zo0 .nil) .nil .nil .nil (Zp _))
noncomputable abbrev ZCd (f:ZxP):Ze:=⟨[.one (.L)],[.one (.L)],fun t K _ h=>f t.1 (fun r0 h=>K (r0,()) h) h⟩
noncomputable abbrev ZHs:Cfg:=ZF Tryz.prog [] 8 [] [] [] ZH
theorem ZE6:ZI (ZHs) Tryz.f76 (.leaf) (ZCd YS):=fun _ _ _ _=>by kernel_rfl
theorem ZGu:Zm Tryz.prog 76 (ZCd Z6):=okF (ZE6) Tryz.func76 Zf (Zo _ .nil .nil .nil .nil (Zp _))
noncomputable abbrev ZzM (f:ZuK):Ze:=⟨[.agg [.I .i64,.I .i64,.I .i64,.I .i64],.one (.P)],[.one (.B)],fun t K _ h=>f t.1 t.2.1 (fun r0 h=>K (r0,()) h) h⟩
noncomputable abbrev ZHr:Cfg:=ZF Tryz.prog [] 8 [] [] [] ZH
theorem ZE5:ZI (ZHr) Tryz.f169 (.leaf) (ZzM Zbv):=fun _ _ _ _=>by kernel_rfl
theorem ZEC:Zm Tryz.prog 169 (ZzM Yd):=okF (ZE5) Tryz.func169 Zf (Zo _ .nil .nil .nil .nil (Zp _))
noncomputable abbrev ZCc (f:ZxO):Ze:=⟨[.one (.L),.clo 169 [.P]],[.one (.I .i64)],fun t K _ h=>f t.1 t.2.1 (fun r0 h=>K (r0,()) h) h⟩
noncomputable abbrev ZHq (f94:ZuK):Cfg:=ZF Tryz.prog [(169,ZzM f94)] 19 [] [] [] ZH
theorem ZE4 (f94:ZuK):ZI (ZHq f94) Tryz.f144 (.seq (.leaf) (.seq (.seq (.leaf) (.block (.loop [8] [.one (.I .i64)] [(4,5),(9,18)] (.leaf)))) (.leaf))) (ZCc (Z0 f94)):=fun _ _ _ _=>by kernel_rfl
theorem ZGt:Zm Tryz.prog 144 (ZCc ZC):=okF (ZE4 Yd) Tryz.func144 Zf (Zo _ (.cons ZEC .nil) .nil .nil .nil (Zp _))
noncomputable abbrev ZCb (f:ZxN):Ze:=⟨[.one (.L),.clo 169 [.P]],[.one (.L)],fun t K _ h=>f t.1 t.2.1 (fun r0 h=>K (r0,()) h) h⟩
noncomputable abbrev ZHp (f95:ZxO) (f94:ZuK):Cfg:=ZF Tryz.prog [(144,ZCc f95),(169,ZzM f94)] 42 [] [] [] ZH
theorem ZE3 (f95:ZxO) (f94:ZuK):ZI (ZHp f95 f94) Tryz.f168 (.seq (.leaf) (.seq (.leaf) (.seq (.leaf) (.seq (.seq (.leaf) (.block (.loop [5,6] [.one (.I .i64),.one (.I .i64)] [(7,7),(16,35)] (.leaf)))) (.leaf))))) (ZCb (ZX f95 f94)):=fun _ _ _ _=>by kernel_rfl
theorem ZGs:Zm Tryz.prog 168 (ZCb ZB):=okF (ZE3 ZC Yd) Tryz.func168 Zf (Zo _ (.cons ZGt (.cons ZEC .nil)) .nil .nil .nil (Zp _))
noncomputable abbrev ZxE (f:Zqn):Ze:=⟨[.one (.P),.one (.I .i64)],[.one (.L)],fun t K _ h=>f t.1 t.2.1 (fun r0 h=>K (r0,()) h) h⟩
noncomputable abbrev ZHo (f93:ZxP) (f96:ZxN):Cfg:=ZF Tryz.prog [(76,ZCd f93),(168,ZCb f96)] 12 [] [] [] ZH
theorem ZE2 (f93:ZxP) (f96:ZxN):ZI (ZHo f93 f96) Tryz.f143 (.leaf) (ZxE (Zcf f93 f96)):=fun _ _ _ _=>by kernel_rfl
theorem ZBk:Zm Tryz.prog 143 (ZxE Yv):=okF (ZE2 Z6 ZB) Tryz.func143 Zf (Zo _ (.cons ZGu (.cons ZGs .nil)) .nil .nil .nil (Zp _))
noncomputable abbrev ZCa (f:ZxM):Ze:=⟨[.agg [.I .i64,.I .i64,.I .i64,.I .i64],.one (.P)],[.one (.B)],fun t K _ h=>f t.1 t.2.1 (fun r0 h=>K (r0,()) h) h⟩
noncomputable abbrev ZHn:Cfg:=ZF Tryz.prog [] 8 [] [] [] ZH
theorem ZE1:ZI (ZHn) Tryz.f145 (.leaf) (ZCa ZaL):=fun _ _ _ _=>by kernel_rfl
theorem ZGr:Zm Tryz.prog 145 (ZCa Y5):=okF (ZE1) Tryz.func145 Zf (Zo _ .nil .nil .nil .nil (Zp _))
noncomputable abbrev ZB9 (f:ZxL):Ze:=⟨[.one (.L),.clo 145 [.P]],[.one (.I .i64)],fun t K _ h=>f t.1 t.2.1 (fun r0 h=>K (r0,()) h) h⟩
noncomputable abbrev ZHm (f98:ZxM):Cfg:=ZF Tryz.prog [(145,ZCa f98)] 19 [] [] [] ZH
theorem ZE0 (f98:ZxM):ZI (ZHm f98) Tryz.f144 (.seq (.leaf) (.seq (.seq (.leaf) (.block (.loop [8] [.one (.I .i64)] [(4,5),(9,18)] (.leaf)))) (.leaf))) (ZB9 (ZU f98)):=fun _ _ _ _=>by kernel_rfl
theorem ZGq:Zm Tryz.prog 144 (ZB9 Zz):=okF (ZE0 Y5) Tryz.func144 Zf (Zo _ (.cons ZGr .nil) .nil .nil .nil (Zp _))
noncomputable abbrev Ztu (f:Zmh):Ze:=⟨[.one (.P),.one (.S),.one (.I .i64)],[.agg [.I .i64,.I .i64,.I .i64,.I .i64],.one (.B)],fun t K _ h=>f t.1 t.2.1 t.2.2.1 (fun r0 r1 h=>K (r0,r1,()) h) h⟩
noncomputable abbrev ZD4:Cfg:=ZF Tryz.prog [] 46 [] [] [] ZH
theorem ZBj:ZI (ZD4) Tryz.f112 (.seq (.leaf) (.seq (.seq (.leaf) (.block (.loop [17] [.one (.I .i64)] [(7,7),(9,9),(11,11),(18,44)] (.seq (.leaf) (.seq (.leaf) (.seq (.block (.seq (.leaf) (.seq (.leaf) (.block (.loop [24] [.one (.I .i64)] [(7,7),(11,11),(25,43)] (.leaf)))))) (.leaf))))))) (.leaf))) (Ztu ZcT):=fun _ _ _ _=>by kernel_rfl
theorem ZxC:Zm Tryz.prog 112 (Ztu Xa):=okF (ZBj) Tryz.func112 Zf (Zo _ .nil .nil .nil .nil (Zp _))
noncomputable abbrev Zwk (f:Zrb):Ze:=⟨[.one (.L),.one (.I .i64),.one (.I .i64)],[.one (.L)],fun t K _ h=>f t.1 t.2.1 t.2.2.1 (fun r0 h=>K (r0,()) h) h⟩
noncomputable abbrev ZD3:Cfg:=ZF Tryz.prog [] 33 [] [] [] ZH
theorem ZBi:ZI (ZD3) Tryz.f146 (.seq (.leaf) (.seq (.leaf) (.seq (.leaf) (.seq (.leaf) (.seq (.order (.take 0 (.take 1 (.take 2 (.take 3 (.take 4 (.take 5 (.take 6 (.take 7 .done))))))))) (.leaf)))))) (Zwk YI):=fun _ _ _ _=>by kernel_rfl
theorem ZB8:Zm Tryz.prog 146 (Zwk Z5):=okF (ZBi) Tryz.func146 Zf (Zo _ .nil .nil .nil .nil (Zp _))
noncomputable abbrev Zwj (f:Zra):Ze:=⟨[.one (.P),.one (.I .i64),.one (.S),.one (.I .i64)],[.one (.I .u8)],fun t K _ h=>f t.1 t.2.1 t.2.2.1 t.2.2.2.1 (fun r0 h=>K (r0,()) h) h⟩
noncomputable abbrev ZD2 (f97:Zqn) (f99:ZxL) (f100:Zmh) (f101:Zrb):Cfg:=ZF Tryz.prog [(143,ZxE f97),(144,ZB9 f99),(112,Ztu f100),(146,Zwk f101)] 42 [] [] [] ZH
theorem ZBh (f97:Zqn) (f99:ZxL) (f100:Zmh) (f101:Zrb):ZI (ZD2 f97 f99 f100 f101) Tryz.f111 (.leaf) (Zwj (Zbh f97 f99 f100 f101)):=fun _ _ _ _=>by kernel_rfl
theorem ZB7:Zm Tryz.prog 111 (Zwj Xk):=okF (ZBh Yv Zz Xa Z5) Tryz.func111 Zf (Zo _ (.cons ZBk (.cons ZGq (.cons ZxC (.cons ZB8 .nil)))) .nil .nil .nil (Zp _))
noncomputable abbrev Zwi (f:Zq9):Ze:=⟨[.one (.P),.one (.I .i64),.agg [.I .i64,.I .i64,.I .i64,.I .i64]],[.one (.B)],fun t K _ h=>f t.1 t.2.1 t.2.2.1 (fun r0 h=>K (r0,()) h) h⟩
noncomputable abbrev ZD1:Cfg:=ZF Tryz.prog [] 17 [] [] [] ZH
theorem ZBg:ZI (ZD1) Tryz.f113 (.leaf) (Zwi Zbu):=fun _ _ _ _=>by kernel_rfl
theorem ZB6:Zm Tryz.prog 113 (Zwi XA):=okF (ZBg) Tryz.func113 Zf (Zo _ .nil .nil .nil .nil (Zp _))
noncomputable abbrev Ztt (f:Zmg):Ze:=⟨[.one (.P),.one (.I .i64)],[.one (.I .i64)],fun t K _ h=>f t.1 t.2.1 (fun r0 h=>K (r0,()) h) h⟩
noncomputable abbrev ZD0:Cfg:=ZF Tryz.prog [] 22 [] [] [] ZH
theorem ZBf:ZI (ZD0) Tryz.f204 (.leaf) (Ztt ZbP):=fun _ _ _ _=>by kernel_rfl
theorem ZxB:Zm Tryz.prog 204 (Ztt YN):=okF (ZBf) Tryz.func204 Zf (Zo _ .nil .nil .nil .nil (Zp _))
noncomputable abbrev Zwh (f:Zq8):Ze:=⟨[.one (.P),.one (.I .i64)],[.clo 210 [.P,.P]],fun t K _ h=>f t.1 t.2.1 (fun r0 h=>K (r0,()) h) h⟩
noncomputable abbrev ZDZ:Cfg:=ZF Tryz.prog [] 6 [] [] [] ZH
theorem ZBe:ZI (ZDZ) Tryz.f208 (.leaf) (Zwh Zdk):=fun _ _ _ _=>by kernel_rfl
theorem ZB5:Zm Tryz.prog 208 (Zwh ZaC):=okF (ZBe) Tryz.func208 Zf (Zo _ .nil .nil .nil .nil (Zp _))
noncomputable abbrev Zqm (f:ZnF):Ze:=⟨[.one (.P),.one (.I .i64)],[.one (.I .i64)],fun t K _ h=>f t.1 t.2.1 (fun r0 h=>K (r0,()) h) h⟩
noncomputable abbrev ZDY:Cfg:=ZF Tryz.prog [] 16 [] [] [] ZH
theorem ZBd:ZI (ZDY) Tryz.f206 (.leaf) (Zqm Zbs):=fun _ _ _ _=>by kernel_rfl
theorem ZxA:Zm Tryz.prog 206 (Zqm Ys):=okF (ZBd) Tryz.func206 Zf (Zo _ .nil .nil .nil .nil (Zp _))
abbrev ZxK:List VT:=[.yl,.one (.P),.one (.P)]
abbrev ZxJ:List VT:=[]
noncomputable abbrev ZxI (f:Zq7):Zb7:=⟨[.one (.P),.one (.P)],fun Y l t K h=>f Y l t.1 t.2.1 K h⟩
noncomputable def ZDX (Y:Yld):Cfg:=ZF Tryz.prog [(206,(Zqm Ys))] 52 [] [] [] Y
theorem ZBc (f106:ZnF) (Y:Yld) (t:Zae ZxK) (K:Zae ZxJ→HP) (Kp:Value→HP) (h:Zb):Zzs (ZF Tryz.prog [(206,Zqm f106)] 52 [] [] [] Y) Tryz.f210 (.seq (.leaf) (.seq (.leaf) (.block (.loop [5] [.one (.I .i64)] [(6,7),(19,51)] (.seq (.leaf) (.seq (.block (.seq (.leaf) (.seq (.order (.take 0 (.take 1 (.take 2 (.take 3 (.take 4 (.take 5 (.take 6 (.take 7 (.take 8 (.take 9 (.take 10 (.take 11 (.take 12 (.take 13 (.take 14 (.take 15 (.take 16 (.take 17 (.take 18 .done)))))))))))))))))))) (.leaf)))) (.leaf))))))) (Zae.evs ZxK t) ZxJ K Kp h=Zcb f106 Y t.1 t.2.1 t.2.2.1 (fun h=>K (()) h) h:=by kernel_rfl
theorem ZB4:Zpm Tryz.prog 210 (ZxI X1):=fun Y hY=>Zy2 (c:=ZDX Y) Tryz.func210 (by kernel_rfl) (by kernel_rfl) rfl (Nat.le_of_ble_eq_true rfl) (Zo _ (.cons ZxA .nil) .nil .nil .nil hY) Zf (ZBc Ys Y)
noncomputable abbrev Zwg (f:Zq6):Ze:=⟨[.one (.I .i64),.one (.I .i64)],[.one (.I .i64)],fun t K _ h=>f t.1 t.2.1 (fun r0 h=>K (r0,()) h) h⟩
noncomputable abbrev ZDW:Cfg:=ZF Tryz.prog [] 11 [] [] [] ZH
theorem ZBb:ZI (ZDW) Tryz.f211 (.leaf) (Zwg Zhm):=fun _ _ _ _=>by kernel_rfl
theorem ZB3:Zm Tryz.prog 211 (Zwg Zec):=okF (ZBb) Tryz.func211 Zf (Zo _ .nil .nil .nil .nil (Zp _))
noncomputable abbrev Zts (f:Zmf):Ze:=⟨[.agg [.I .i64,.I .i64,.I .i64,.I .i64,.I .i64,.I .i64],.agg [.I .i64,.I .i64,.I .i64,.I .i64,.I .i64,.I .i64]],[.agg [.I .i64,.I .i64,.I .i64,.I .i64,.I .i64,.I .i64]],fun t K _ h=>f t.1 t.2.1 (fun r0 h=>K (r0,()) h) h⟩
noncomputable abbrev ZDV (f108:Zq6):Cfg:=ZF Tryz.prog [(211,Zwg f108)] 53 [] [] [] ZH
theorem ZBa (f108:Zq6):ZI (ZDV f108) Tryz.f209 (.seq (.leaf) (.cut [5] [.one (.P)] [(6,31)] (.order (.take 0 (.take 2 (.take 5 (.take 7 (.take 10 (.take 12 (.take 15 (.take 17 (.take 20 (.take 22 (.take 1 (.take 3 (.take 6 (.take 8 (.take 11 (.take 13 (.take 16 (.take 18 (.take 21 (.take 23 (.fork 4 (.fork 9 (.fork 14 (.fork 19 (.fork 24 (.take 25 (.take 26 (.take 27 .done))) 26 (.take 24 (.take 25 (.take 27 .done)))) 26 (.take 19 (.take 24 (.take 25 (.take 27 .done))))) 26 (.take 14 (.take 19 (.take 24 (.take 25 (.take 27 .done)))))) 26 (.take 9 (.take 14 (.take 19 (.take 24 (.take 25 (.take 27 .done))))))) 26 (.take 4 (.take 9 (.take 14 (.take 19 (.take 24 (.take 25 (.take 27 .done))))))))))))))))))))))))))))) (.leaf))) (Zts (Zf1 f108)):=fun _ _ _ _=>by kernel_rfl
theorem Zxz:Zm Tryz.prog 209 (Zts ZbL):=okF (ZBa Zec) Tryz.func209 Zf (Zo _ (.cons ZB3 .nil) .nil .nil .nil (Zp _))
noncomputable abbrev Zwf (f:Zq5):Ze:=⟨[.one (.P),.one (.I .i64)],[.agg [.I .i64,.I .i64,.I .i64,.I .i64,.I .i64,.I .i64],.one (.I .i64)],fun t K _ h=>f t.1 t.2.1 (fun r0 r1 h=>K (r0,r1,()) h) h⟩
noncomputable abbrev ZDU (f104:Zmg) (f105:Zq8) (f109:Zmf) (f107:Zq7):Cfg:=ZF Tryz.prog [(204,Ztt f104),(208,Zwh f105),(209,Zts f109)] 25 [] [] [(210,ZxI f107)] ZH
theorem ZA9 (f104:Zmg) (f105:Zq8) (f109:Zmf) (f107:Zq7):ZI (ZDU f104 f105 f109 f107) Tryz.f202 (.seq (.leaf) (.seq (.leaf) (.seq (.leaf) (.seq (.seq (.leaf) (.block (.range [.agg [.I .i64,.I .i64,.I .i64,.I .i64,.I .i64,.I .i64,.I .i64]] (.leaf) (.leaf)))) (.leaf))))) (Zwf (ZcM f104 f105 f109 f107)):=fun _ _ _ _=>by kernel_rfl
theorem ZB2:Zm Tryz.prog 202 (Zwf Zai):=okF (ZA9 YN ZaC ZbL X1) Tryz.func202 Zf (Zo _ (.cons ZxB (.cons ZB5 (.cons Zxz .nil))) .nil .nil (.cons ZB4 .nil) (Zp _))
noncomputable abbrev Zwe (f:Zq4):Ze:=⟨[.agg [.P],.one (.I .i64),.one (.S)],[.one (.I .i64)],fun t K _ h=>f t.1 t.2.1 t.2.2.1 (fun r0 h=>K (r0,()) h) h⟩
noncomputable abbrev ZDT (f110:Zq5):Cfg:=ZF Tryz.prog [(202,Zwf f110)] 18 [] [] [] ZH
theorem ZA8 (f110:Zq5):ZI (ZDT f110) Tryz.f199 (.leaf) (Zwe (ZdE f110)):=fun _ _ _ _=>by kernel_rfl
theorem ZB1:Zm Tryz.prog 199 (Zwe ZaW):=okF (ZA8 Zai) Tryz.func199 Zf (Zo _ (.cons ZB2 .nil) .nil .nil .nil (Zp _))
noncomputable abbrev Ztr (f:Zme):Ze:=⟨[.one (.P),.one (.I .i64)],[.one (.I .i64)],fun t K _ h=>f t.1 t.2.1 (fun r0 h=>K (r0,()) h) h⟩
noncomputable abbrev ZDS:Cfg:=ZF Tryz.prog [] 22 [] [] [] ZH
theorem ZA7:ZI (ZDS) Tryz.f219 (.leaf) (Ztr Zcj):=fun _ _ _ _=>by kernel_rfl
theorem Zxy:Zm Tryz.prog 219 (Ztr YY):=okF (ZA7) Tryz.func219 Zf (Zo _ .nil .nil .nil .nil (Zp _))
noncomputable abbrev Zwd (f:Zq3):Ze:=⟨[.one (.S)],[.one (.I .u64)],fun t K _ h=>f t.1 (fun r0 h=>K (r0,()) h) h⟩
noncomputable abbrev ZDR:Cfg:=ZF Tryz.prog [] 19 [] [] [] ZH
theorem ZA6:ZI (ZDR) Tryz.f228 (.seq (.leaf) (.seq (.leaf) (.seq (.seq (.leaf) (.block (.loop [3,7] [.one (.I .u64),.one (.I .i64)] [(4,4),(8,17)] (.leaf)))) (.leaf)))) (Zwd Zft):=fun _ _ _ _=>by kernel_rfl
theorem ZB0:Zm Tryz.prog 228 (Zwd Zdg):=okF (ZA6) Tryz.func228 Zf (Zo _ .nil .nil .nil .nil (Zp _))
noncomputable abbrev Zwc (f:Zq2):Ze:=⟨[.one (.I .u64)],[.one (.I .u64)],fun t K _ h=>f t.1 (fun r0 h=>K (r0,()) h) h⟩
noncomputable abbrev ZDQ:Cfg:=ZF Tryz.prog [] 17 [] [] [] ZH
theorem ZA5:ZI (ZDQ) Tryz.f227 (.leaf) (Zwc ZgN):=fun _ _ _ _=>by kernel_rfl
theorem ZBZ:Zm Tryz.prog 227 (Zwc Zem):=okF (ZA5) Tryz.func227 Zf (Zo _ .nil .nil .nil .nil (Zp _))
noncomputable abbrev Ztq (f:Zmd):Ze:=⟨[.agg [.I .i64,.I .i64,.I .i64,.I .i64,.I .u64],.one (.I .i64),.one (.S)],[.one (.I .i64)],fun t K _ h=>f t.1 t.2.1 t.2.2.1 (fun r0 h=>K (r0,()) h) h⟩
noncomputable abbrev ZDP (f113:Zq3) (f114:Zq2):Cfg:=ZF Tryz.prog [(228,Zwd f113),(227,Zwc f114)] 23 [] [] [] ZH
theorem ZA4 (f113:Zq3) (f114:Zq2):ZI (ZDP f113 f114) Tryz.f224 (.leaf) (Ztq (ZbT f113 f114)):=fun _ _ _ _=>by kernel_rfl
theorem Zxx:Zm Tryz.prog 224 (Ztq Yz):=okF (ZA4 Zdg Zem) Tryz.func224 Zf (Zo _ (.cons ZB0 (.cons ZBZ .nil)) .nil .nil .nil (Zp _))
noncomputable abbrev Ztp (f:Zmc):Ze:=⟨[.agg [.I .i64,.I .i64,.I .i64,.I .i64,.I .u64],.one (.I .i64)],[.one (.I .i64)],fun t K _ h=>f t.1 t.2.1 (fun r0 h=>K (r0,()) h) h⟩
noncomputable abbrev ZDO:Cfg:=ZF Tryz.prog [] 14 [] [] [] ZH
theorem ZA3:ZI (ZDO) Tryz.f220 (.leaf) (Ztp Zci):=fun _ _ _ _=>by kernel_rfl
theorem Zxw:Zm Tryz.prog 220 (Ztp YX):=okF (ZA3) Tryz.func220 Zf (Zo _ .nil .nil .nil .nil (Zp _))
noncomputable abbrev Zwb (f:Zq1):Ze:=⟨[.agg [.I .i64,.I .i64,.M],.one (.P)],[.one (.I .i64)],fun t K _ h=>f t.1 t.2.1 (fun r0 h=>K (r0,()) h) h⟩
noncomputable abbrev ZDN:Cfg:=ZF Tryz.prog [] 8 [] [] [] ZH
theorem ZA2:ZI (ZDN) Tryz.f230 (.leaf) (Zwb Zaz):=fun _ _ _ _=>by kernel_rfl
theorem ZBY:Zm Tryz.prog 230 (Zwb Xy):=okF (ZA2) Tryz.func230 Zf (Zo _ .nil .nil .nil .nil (Zp _))
noncomputable abbrev Zto (f:Zmb):Ze:=⟨[.one (.I .i64),.one (.I .i64)],[.one (.I .i64)],fun t K _ h=>f t.1 t.2.1 (fun r0 h=>K (r0,()) h) h⟩
noncomputable abbrev ZDM:Cfg:=ZF Tryz.prog [] 12 [] [] [] ZH
theorem ZA1:ZI (ZDM) Tryz.f223 (.leaf) (Zto Zfs):=fun _ _ _ _=>by kernel_rfl
theorem Zxv:Zm Tryz.prog 223 (Zto Zab):=okF (ZA1) Tryz.func223 Zf (Zo _ .nil .nil .nil .nil (Zp _))
noncomputable abbrev Zwa (f:Zq0):Ze:=⟨[.one (.P),.one (.I .i64),.clo 230 [.P]],[.one (.I .i64)],fun t K _ h=>f t.1 t.2.1 t.2.2.1 (fun r0 h=>K (r0,()) h) h⟩
noncomputable abbrev ZDL (f116:Zmc) (f117:Zq1) (f118:Zmb):Cfg:=ZF Tryz.prog [(220,Ztp f116),(230,Zwb f117),(223,Zto f118)] 41 [] [] [] ZH
theorem ZA0 (f116:Zmc) (f117:Zq1) (f118:Zmb):ZI (ZDL f116 f117 f118) Tryz.f229 (.seq (.leaf) (.seq (.leaf) (.seq (.seq (.leaf) (.block (.loop [7,15] [.one (.I .i64),.one (.I .i64)] [(9,9),(16,39)] (.seq (.leaf) (.seq (.leaf) (.seq (.block (.seq (.leaf) (.seq (.order (.take 0 (.take 2 (.take 3 (.take 4 (.take 6 (.take 8 (.take 9 (.take 10 (.take 11 (.take 1 (.take 5 (.take 12 (.take 7 (.take 13 (.take 14 .done)))))))))))))))) (.leaf)))) (.leaf))))))) (.leaf)))) (Zwa (Yy f116 f117 f118)):=fun _ _ _ _=>by kernel_rfl
theorem ZBX:Zm Tryz.prog 229 (Zwa ZW):=okF (ZA0 YX Xy Zab) Tryz.func229 Zf (Zo _ (.cons Zxw (.cons ZBY (.cons Zxv .nil))) .nil .nil .nil (Zp _))
noncomputable abbrev Zv9 (f:ZqZ):Ze:=⟨[.one (.P),.one (.I .i64),.one (.S)],[.one (.I .i64)],fun t K _ h=>f t.1 t.2.1 t.2.2.1 (fun r0 h=>K (r0,()) h) h⟩
noncomputable abbrev ZDK (f115:Zmd) (f119:Zq0):Cfg:=ZF Tryz.prog [(224,Ztq f115),(229,Zwa f119)] 35 [] [] [] ZH
theorem ZAZ (f115:Zmd) (f119:Zq0):ZI (ZDK f115 f119) Tryz.f225 (.seq (.leaf) (.seq (.leaf) (.seq (.seq (.leaf) (.block (.loop [7,15] [.one (.I .i64),.one (.I .i64)] [(8,9),(16,33)] (.leaf)))) (.leaf)))) (Zv9 (Za4 f115 f119)):=fun _ _ _ _=>by kernel_rfl
theorem ZBW:Zm Tryz.prog 225 (Zv9 Xd):=okF (ZAZ Yz ZW) Tryz.func225 Zf (Zo _ (.cons Zxx (.cons ZBX .nil)) .nil .nil .nil (Zp _))
noncomputable abbrev Zv8 (f:ZqY):Ze:=⟨[.one (.P),.one (.I .i64),.one (.S)],[.one (.I .i64),.one (.I .i64)],fun t K _ h=>f t.1 t.2.1 t.2.2.1 (fun r0 r1 h=>K (r0,r1,()) h) h⟩
noncomputable abbrev ZDJ (f112:Zme) (f120:ZqZ):Cfg:=ZF Tryz.prog [(219,Ztr f112),(225,Zv9 f120)] 19 [] [] [] ZH
theorem ZAY (f112:Zme) (f120:ZqZ):ZI (ZDJ f112 f120) Tryz.f218 (.leaf) (Zv8 (Za5 f112 f120)):=fun _ _ _ _=>by kernel_rfl
theorem ZBV:Zm Tryz.prog 218 (Zv8 XW):=okF (ZAY YY Xd) Tryz.func218 Zf (Zo _ (.cons Zxy (.cons ZBW .nil)) .nil .nil .nil (Zp _))
noncomputable abbrev Zv7 (f:ZqX):Ze:=⟨[.agg [.P],.one (.I .i64),.one (.S)],[.one (.I .i64)],fun t K _ h=>f t.1 t.2.1 t.2.2.1 (fun r0 h=>K (r0,()) h) h⟩
noncomputable abbrev ZDI (f121:ZqY):Cfg:=ZF Tryz.prog [(218,Zv8 f121)] 18 [] [] [] ZH
theorem ZAX (f121:ZqY):ZI (ZDI f121) Tryz.f215 (.leaf) (Zv7 (Zdl f121)):=fun _ _ _ _=>by kernel_rfl
theorem ZBU:Zm Tryz.prog 215 (Zv7 ZaD):=okF (ZAX XW) Tryz.func215 Zf (Zo _ (.cons ZBV .nil) .nil .nil .nil (Zp _))
noncomputable abbrev Zv6 (f:ZqW):Ze:=⟨[.agg [],.one (.I .i64),.one (.S)],[.one (.I .i64)],fun t K _ h=>f t.1 t.2.1 t.2.2.1 (fun r0 h=>K (r0,()) h) h⟩
noncomputable abbrev ZDH:Cfg:=ZF Tryz.prog [] 7 [] [] [] ZH
theorem ZAW:ZI (ZDH) Tryz.f233 (.leaf) (Zv6 ZcO):=fun _ _ _ _=>by kernel_rfl
theorem ZBT:Zm Tryz.prog 233 (Zv6 Zbc):=okF (ZAW) Tryz.func233 Zf (Zo _ .nil .nil .nil .nil (Zp _))
theorem ZmL:Zf8 Tryz.prog "spillway/token.used" 184 199:=ZhX (i:=Tryz.t184) (m:=Tryz.t184.methods.getD 6 default) (by kernel_rfl) (by kernel_rfl) (by kernel_rfl) (by kernel_rfl) (by kernel_rfl) (of_decide_eq_true (by kernel_rfl))
theorem ZmJ:Zf8 Tryz.prog "spillway/token.used" 190 215:=ZhX (i:=Tryz.t190) (m:=Tryz.t190.methods.getD 11 default) (by kernel_rfl) (by kernel_rfl) (by kernel_rfl) (by kernel_rfl) (by kernel_rfl) (of_decide_eq_true (by kernel_rfl))
theorem ZmH:Zf8 Tryz.prog "spillway/token.used" 192 233:=ZhX (i:=Tryz.t192) (m:=Tryz.t192.methods.getD 2 default) (by kernel_rfl) (by kernel_rfl) (by kernel_rfl) (by kernel_rfl) (by kernel_rfl) (of_decide_eq_true (by kernel_rfl))
noncomputable abbrev Zv5 (f:ZqV):Ze:=⟨[.one (.P),.one (.I .i64),.agg [.I .i64,.I .i64,.I .i64,.I .i64],.one (.S)],[.one (.I .i64)],fun t K _ h=>f t.1 t.2.1 t.2.2.1 t.2.2.2.1 (fun r0 h=>K (r0,()) h) h⟩
noncomputable abbrev ZDG (f111:Zq4) (f122:ZqX) (f123:ZqW) (f97:Zqn):Cfg:=ZF Tryz.prog [(199,Zwe f111),(215,Zv7 f122),(233,Zv6 f123),(143,ZxE f97)] 45 [] [("spillway/token.used", 184,199),("spillway/token.used", 190,215),("spillway/token.used", 192,233)] [] ZH
theorem ZAV (f111:Zq4) (f122:ZqX) (f123:ZqW) (f97:Zqn):ZI (ZDG f111 f122 f123 f97) Tryz.f147 (.seq (.leaf) (.seq (.seq (.leaf) (.cond (.seq (.order (.take 0 (.take 1 (.take 2 (.take 4 (.take 8 (.take 9 (.take 3 (.take 5 (.take 6 (.take 7 (.take 10 (.take 11 .done))))))))))))) (.leaf)) (.leaf))) (.seq (.leaf) (.seq (.seq (.leaf) (.block (.loop [9,30] [.one (.I .i64),.one (.I .i64)] [(11,11),(31,43)] (.leaf)))) (.leaf))))) (Zv5 (ZcQ f111 f122 f123 f97)):=fun _ _ _ _=>by kernel_rfl
theorem ZBS:Zm Tryz.prog 147 (Zv5 Zak):=okF (ZAV ZaW ZaD Zbc Yv) Tryz.func147 Zf (Zo _ (.cons ZB1 (.cons ZBU (.cons ZBT (.cons ZBk .nil)))) .nil (.cons ZmL (.cons ZmJ (.cons ZmH .nil))) .nil (Zp _))
noncomputable abbrev Ztn (f:Zma):Ze:=⟨[.agg [.I .i64,.I .i64,.I .i64,.I .i64,.I .i64,.I .i64]],[.one (.B)],fun t K _ h=>f t.1 (fun r0 h=>K (r0,()) h) h⟩
noncomputable abbrev ZDF:Cfg:=ZF Tryz.prog [] 52 [] [] [] ZH
theorem ZAU:ZI (ZDF) Tryz.f205 (.seq (.leaf) (.seq (.seq (.leaf) (.block (.loop [19] [.one (.I .i64)] [(2,2),(4,4),(20,29)] (.leaf)))) (.leaf))) (Ztn ZeK):=fun _ _ _ _=>by kernel_rfl
theorem Zxu:Zm Tryz.prog 205 (Ztn ZaJ):=okF (ZAU) Tryz.func205 Zf (Zo _ .nil .nil .nil .nil (Zp _))
noncomputable abbrev Zv4 (f:ZqU):Ze:=⟨[.one (.L)],[.agg [.I .i64,.I .i64,.I .i64,.I .i64,.I .i64,.I .i64]],fun t K _ h=>f t.1 (fun r0 h=>K (r0,()) h) h⟩
noncomputable abbrev ZDE (f125:Zma) (f109:Zmf):Cfg:=ZF Tryz.prog [(205,Ztn f125),(209,Zts f109)] 19 [] [] [] ZH
theorem ZAT (f125:Zma) (f109:Zmf):ZI (ZDE f125 f109) Tryz.f207 (.seq (.leaf) (.seq (.leaf) (.seq (.seq (.leaf) (.block (.loop [8] [.one (.I .i64)] [(5,5),(9,17)] (.leaf)))) (.leaf)))) (Zv4 (Zfp f125 f109)):=fun _ _ _ _=>by kernel_rfl
theorem ZBR:Zm Tryz.prog 207 (Zv4 Zde):=okF (ZAT ZaJ ZbL) Tryz.func207 Zf (Zo _ (.cons Zxu (.cons Zxz .nil)) .nil .nil .nil (Zp _))
noncomputable abbrev Zv3 (f:ZqT):Ze:=⟨[.one (.P),.one (.I .i64),.one (.L)],[.one (.I .i64)],fun t K _ h=>f t.1 t.2.1 t.2.2.1 (fun r0 h=>K (r0,()) h) h⟩
noncomputable abbrev ZDD (f104:Zmg) (f125:Zma) (f106:ZnF) (f126:ZqU):Cfg:=ZF Tryz.prog [(204,Ztt f104),(205,Ztn f125),(206,Zqm f106),(207,Zv4 f126)] 77 [] [] [] ZH
theorem ZAS (f104:Zmg) (f125:Zma) (f106:ZnF) (f126:ZqU):ZI (ZDD f104 f125 f106 f126) Tryz.f201 (.seq (.leaf) (.seq (.leaf) (.seq (.seq (.leaf) (.block (.loop [21] [.one (.I .i64)] [(6,6),(9,9),(22,28)] (.leaf)))) (.seq (.leaf) (.seq (.leaf) (.cut [] [] [(11,11),(36,54)] (.seq (.leaf) (.seq (.leaf) (.cond (.order (.take 0 (.take 1 (.take 2 (.take 4 (.take 3 (.take 5 (.take 6 .done)))))))) (.leaf)))) (.seq (.seq (.leaf) (.block (.loop [] [] [(12,12),(60,76)] (.cut [61] [.one (.B)] [(60,60)] (.leaf) (.leaf))))) (.leaf)))))))) (Zv3 (ZcN f104 f125 f106 f126)):=fun _ _ _ _=>by kernel_rfl
theorem ZBQ:Zm Tryz.prog 201 (Zv3 Zaj):=okF (ZAS YN ZaJ Ys Zde) Tryz.func201 Zf (Zo _ (.cons ZxB (.cons Zxu (.cons ZxA (.cons ZBR .nil)))) .nil .nil .nil (Zp _))
noncomputable abbrev Zv2 (f:ZqS):Ze:=⟨[.agg [.P],.one (.I .i64),.one (.S),.one (.I .i64)],[],fun t K _ h=>f t.1 t.2.1 t.2.2.1 t.2.2.2.1 (fun h=>K (()) h) h⟩
noncomputable abbrev ZDC (f127:ZqT):Cfg:=ZF Tryz.prog [(201,Zv3 f127)] 15 [] [] [] ZH
theorem ZAR (f127:ZqT):ZI (ZDC f127) Tryz.f198 (.leaf) (Zv2 (ZdF f127)):=fun _ _ _ _=>by kernel_rfl
theorem ZBP:Zm Tryz.prog 198 (Zv2 ZaX):=okF (ZAR Zaj) Tryz.func198 Zf (Zo _ (.cons ZBQ .nil) .nil .nil .nil (Zp _))
noncomputable abbrev Ztm (f:Zl9):Ze:=⟨[.agg [.I .i64,.I .i64,.M],.one (.P),.one (.P)],[.one (.B)],fun t K _ h=>f t.1 t.2.1 t.2.2.1 (fun r0 h=>K (r0,()) h) h⟩
noncomputable abbrev ZDB:Cfg:=ZF Tryz.prog [] 15 [] [] [] ZH
theorem ZAQ:ZI (ZDB) Tryz.f222 (.leaf) (Ztm ZbU):=fun _ _ _ _=>by kernel_rfl
theorem Zxt:Zm Tryz.prog 222 (Ztm Ym):=okF (ZAQ) Tryz.func222 Zf (Zo _ .nil .nil .nil .nil (Zp _))
noncomputable abbrev Zv1 (f:ZqR):Ze:=⟨[.one (.L),.clo 222 [.P,.P]],[.one (.I .i64)],fun t K _ h=>f t.1 t.2.1 (fun r0 h=>K (r0,()) h) h⟩
noncomputable abbrev ZDA (f129:Zl9):Cfg:=ZF Tryz.prog [(222,Ztm f129)] 19 [] [] [] ZH
theorem ZAP (f129:Zl9):ZI (ZDA f129) Tryz.f226 (.seq (.leaf) (.seq (.seq (.leaf) (.block (.loop [8] [.one (.I .i64)] [(4,5),(9,18)] (.leaf)))) (.leaf))) (Zv1 (ZV f129)):=fun _ _ _ _=>by kernel_rfl
theorem ZBO:Zm Tryz.prog 226 (Zv1 ZA):=okF (ZAP Ym) Tryz.func226 Zf (Zo _ (.cons Zxt .nil) .nil .nil .nil (Zp _))
noncomputable abbrev Zv0 (f:ZqQ):Ze:=⟨[.one (.L),.clo 222 [.P,.P]],[.one (.L)],fun t K _ h=>f t.1 t.2.1 (fun r0 h=>K (r0,()) h) h⟩
noncomputable abbrev ZDz (f130:ZqR) (f129:Zl9):Cfg:=ZF Tryz.prog [(226,Zv1 f130),(222,Ztm f129)] 42 [] [] [] ZH
theorem ZAO (f130:ZqR) (f129:Zl9):ZI (ZDz f130 f129) Tryz.f221 (.seq (.leaf) (.seq (.leaf) (.seq (.leaf) (.seq (.seq (.leaf) (.block (.loop [5,6] [.one (.I .i64),.one (.I .i64)] [(7,7),(16,35)] (.leaf)))) (.leaf))))) (Zv0 (ZS f130 f129)):=fun _ _ _ _=>by kernel_rfl
theorem ZBN:Zm Tryz.prog 221 (Zv0 Zy):=okF (ZAO ZA Ym) Tryz.func221 Zf (Zo _ (.cons ZBO (.cons Zxt .nil)) .nil .nil .nil (Zp _))
noncomputable abbrev ZvZ (f:ZqP):Ze:=⟨[.one (.P),.one (.I .i64),.one (.S),.one (.L)],[.one (.I .i64)],fun t K _ h=>f t.1 t.2.1 t.2.2.1 t.2.2.2.1 (fun r0 h=>K (r0,()) h) h⟩
noncomputable abbrev ZDy (f112:Zme) (f116:Zmc) (f131:ZqQ) (f118:Zmb) (f115:Zmd):Cfg:=ZF Tryz.prog [(219,Ztr f112),(220,Ztp f116),(221,Zv0 f131),(223,Zto f118),(224,Ztq f115)] 154 [] [] [] ZH
theorem ZAN (f112:Zme) (f116:Zmc) (f131:ZqQ) (f118:Zmb) (f115:Zmd):ZI (ZDy f112 f116 f131 f118 f115) Tryz.f217 (.seq (.leaf) (.seq (.leaf) (.seq (.leaf) (.seq (.seq (.leaf) (.block (.loop [31] [.one (.I .i64)] [(8,8),(11,11),(32,41)] (.leaf)))) (.seq (.leaf) (.seq (.leaf) (.seq (.leaf) (.seq (.order (.take 5 (.take 0 (.take 1 (.take 2 (.take 3 (.take 4 (.take 6 (.take 7 (.take 8 (.take 9 .done))))))))))) (.cut [] [] [(13,13),(64,95)] (.seq (.leaf) (.seq (.leaf) (.cond (.order (.take 0 (.take 1 (.take 2 (.take 3 (.take 4 (.take 5 (.take 6 (.take 7 (.take 8 (.take 9 (.take 10 (.take 11 (.take 12 .done)))))))))))))) (.leaf)))) (.seq (.leaf) (.seq (.seq (.leaf) (.block (.loop [109] [.one (.I .i64)] [(16,18),(110,153)] (.seq (.leaf) (.seq (.leaf) (.seq (.block (.seq (.leaf) (.seq (.leaf) (.seq (.leaf) (.block (.loop [127] [.one (.I .i64)] [(17,18),(128,152)] (.seq (.leaf) (.seq (.leaf) (.seq (.block (.seq (.leaf) (.seq (.leaf) (.order (.take 0 (.take 1 (.take 2 (.take 5 (.take 6 (.take 7 (.take 11 (.take 3 (.take 4 (.take 8 (.take 9 (.take 10 (.take 12 (.take 13 .done)))))))))))))))))) (.leaf)))))))))) (.leaf))))))) (.leaf)))))))))))) (ZvZ (ZcX f112 f116 f131 f118 f115)):=fun _ _ _ _=>by kernel_rfl
theorem ZBM:Zm Tryz.prog 217 (ZvZ Zap):=okF (ZAN YY YX Zy Zab Yz) Tryz.func217 Zf (Zo _ (.cons Zxy (.cons Zxw (.cons ZBN (.cons Zxv (.cons Zxx .nil))))) .nil .nil .nil (Zp _))
noncomputable abbrev ZvY (f:ZqO):Ze:=⟨[.agg [.P],.one (.I .i64),.one (.S),.one (.I .i64)],[],fun t K _ h=>f t.1 t.2.1 t.2.2.1 t.2.2.2.1 (fun h=>K (()) h) h⟩
noncomputable abbrev ZDx (f132:ZqP):Cfg:=ZF Tryz.prog [(217,ZvZ f132)] 15 [] [] [] ZH
theorem ZAM (f132:ZqP):ZI (ZDx f132) Tryz.f214 (.leaf) (ZvY (Zdm f132)):=fun _ _ _ _=>by kernel_rfl
theorem ZBL:Zm Tryz.prog 214 (ZvY ZaE):=okF (ZAM Zap) Tryz.func214 Zf (Zo _ (.cons ZBM .nil) .nil .nil .nil (Zp _))
noncomputable abbrev ZvX (f:ZqN):Ze:=⟨[.agg [],.one (.I .i64),.one (.S),.one (.I .i64)],[],fun t K _ h=>f t.1 t.2.1 t.2.2.1 t.2.2.2.1 (fun h=>K (()) h) h⟩
noncomputable abbrev ZDw:Cfg:=ZF Tryz.prog [] 8 [] [] [] ZH
theorem ZAL:ZI (ZDw) Tryz.f232 (.leaf) (ZvX ZcP):=fun _ _ _ _=>by kernel_rfl
theorem ZBK:Zm Tryz.prog 232 (ZvX Zbd):=okF (ZAL) Tryz.func232 Zf (Zo _ .nil .nil .nil .nil (Zp _))
theorem ZmM:Zf8 Tryz.prog "spillway/token.take" 184 198:=ZhX (i:=Tryz.t184) (m:=Tryz.t184.methods.getD 5 default) (by kernel_rfl) (by kernel_rfl) (by kernel_rfl) (by kernel_rfl) (by kernel_rfl) (of_decide_eq_true (by kernel_rfl))
theorem ZmK:Zf8 Tryz.prog "spillway/token.take" 190 214:=ZhX (i:=Tryz.t190) (m:=Tryz.t190.methods.getD 10 default) (by kernel_rfl) (by kernel_rfl) (by kernel_rfl) (by kernel_rfl) (by kernel_rfl) (of_decide_eq_true (by kernel_rfl))
theorem ZmI:Zf8 Tryz.prog "spillway/token.take" 192 232:=ZhX (i:=Tryz.t192) (m:=Tryz.t192.methods.getD 1 default) (by kernel_rfl) (by kernel_rfl) (by kernel_rfl) (by kernel_rfl) (by kernel_rfl) (of_decide_eq_true (by kernel_rfl))
noncomputable abbrev ZvW (f:ZqM):Ze:=⟨[.one (.P),.one (.I .i64),.agg [.I .i64,.I .i64,.I .i64,.I .i64],.agg [.I .i64,.I .u8,.I .i64,.I .i64,.S,.I .i64]],[.agg [.I .i64,.I .u8,.I .i64,.I .i64,.I .i64]],fun t K _ h=>f t.1 t.2.1 t.2.2.1 t.2.2.2.1 (fun r0 h=>K (r0,()) h) h⟩
noncomputable abbrev ZDv (f124:ZqV) (f128:ZqS) (f133:ZqO) (f134:ZqN) (f97:Zqn):Cfg:=ZF Tryz.prog [(147,Zv5 f124),(198,Zv2 f128),(214,ZvY f133),(232,ZvX f134),(143,ZxE f97)] 107 [] [("spillway/token.take", 184,198),("spillway/token.take", 190,214),("spillway/token.take", 192,232)] [] ZH
theorem ZAK (f124:ZqV) (f128:ZqS) (f133:ZqO) (f134:ZqN) (f97:Zqn):ZI (ZDv f124 f128 f133 f134 f97) Tryz.f114 (.seq (.leaf) (.seq (.leaf) (.seq (.leaf) (.seq (.leaf) (.seq (.seq (.leaf) (.cond (.seq (.order (.take 0 (.take 1 (.take 2 (.take 4 (.take 8 (.take 9 (.take 11 (.take 3 (.take 5 (.take 10 (.take 12 (.take 6 (.take 7 (.take 13 .done))))))))))))))) (.leaf)) (.leaf))) (.seq (.leaf) (.seq (.leaf) (.seq (.order (.take 0 (.take 1 (.take 2 (.take 4 (.take 3 (.take 6 (.take 5 (.take 7 (.take 8 (.take 9 .done))))))))))) (.seq (.order (.take 0 (.take 1 (.take 2 (.take 3 (.take 5 (.take 6 (.take 7 (.take 9 (.take 11 (.take 13 (.take 14 (.take 4 (.take 8 (.take 10 (.take 12 (.take 15 (.take 16 (.take 17 (.take 18 (.take 19 (.take 20 (.take 21 (.take 22 .done)))))))))))))))))))))))) (.leaf)))))))))) (ZvW (Zce f124 f128 f133 f134 f97)):=fun _ _ _ _=>by kernel_rfl
theorem ZBJ:Zm Tryz.prog 114 (ZvW X3):=okF (ZAK Zak ZaX ZaE Zbd Yv) Tryz.func114 Zf (Zo _ (.cons ZBS (.cons ZBP (.cons ZBL (.cons ZBK (.cons ZBk .nil))))) .nil (.cons ZmM (.cons ZmK (.cons ZmI .nil))) .nil (Zp _))
noncomputable abbrev ZvV (f:ZqL):Ze:=⟨[.one (.P),.one (.I .i64),.one (.I .i64),.agg [.I .i64,.I .u8,.I .i64,.I .i64,.S,.I .i64]],[.agg [.I .i64,.I .u8,.I .i64,.I .i64,.I .i64]],fun t K _ h=>f t.1 t.2.1 t.2.2.1 t.2.2.2.1 (fun r0 h=>K (r0,()) h) h⟩
noncomputable abbrev ZDu (f10:Zmi) (f31:Zqp) (f102:Zra) (f100:Zmh) (f103:Zq9) (f135:ZqM):Cfg:=ZF Tryz.prog [(47,Zwl f10),(57,ZxG f31),(111,Zwj f102),(112,Ztu f100),(113,Zwi f103),(114,ZvW f135)] 100 [] [] [] ZH
theorem ZAJ (f10:Zmi) (f31:Zqp) (f102:Zra) (f100:Zmh) (f103:Zq9) (f135:ZqM):ZI (ZDu f10 f31 f102 f100 f103 f135) Tryz.f73 (.seq (.leaf) (.seq (.leaf) (.seq (.block (.seq (.leaf) (.cond (.leaf) (.cut [24] [.one (.B)] [(25,34)] (.leaf) (.cond (.seq (.order (.take 0 (.take 1 (.take 2 (.take 4 (.take 5 (.take 3 (.take 6 (.take 7 .done))))))))) (.leaf)) (.leaf)))))) (.leaf)))) (ZvV (ZbQ f10 f31 f102 f100 f103 f135)):=fun _ _ _ _=>by kernel_rfl
theorem ZBI:Zm Tryz.prog 73 (ZvV XM):=okF (ZAJ YW Yu Xk Xa XA X3) Tryz.func73 Zf (Zo _ (.cons ZxD (.cons ZBm (.cons ZB7 (.cons ZxC (.cons ZB6 (.cons ZBJ .nil)))))) .nil .nil .nil (Zp _))
noncomputable abbrev ZvU (f:ZqK):Ze:=⟨[.one (.P),.one (.I .i64),.one (.I .i64),.agg [.I .i64,.I .u8,.I .i64,.I .i64,.S,.I .i64]],[.agg [.I .i64,.I .u8,.I .i64,.I .i64,.I .i64],.one (.I .i64)],fun t K _ h=>f t.1 t.2.1 t.2.2.1 t.2.2.2.1 (fun r0 r1 h=>K (r0,r1,()) h) h⟩
noncomputable abbrev ZDt (f92:ZuL) (f136:ZqL):Cfg:=ZF Tryz.prog [(72,ZzN f92),(73,ZvV f136)] 46 [] [] [] ZH
theorem ZAI (f92:ZuL) (f136:ZqL):ZI (ZDt f92 f136) Tryz.f38 (.leaf) (ZvU (ZdG f92 f136)):=fun _ _ _ _=>by kernel_rfl
theorem ZBH:Zm Tryz.prog 38 (ZvU ZaY):=okF (ZAI Y9 XM) Tryz.func38 Zf (Zo _ (.cons ZED (.cons ZBI .nil)) .nil .nil .nil (Zp _))
noncomputable abbrev Ztl (f:Zl8):Ze:=⟨[.agg [.I .i64,.I .u8,.I .i64,.I .i64,.I .i64]],[.one (.B)],fun t K _ h=>f t.1 (fun r0 h=>K (r0,()) h) h⟩
noncomputable abbrev ZDs (f8:zT8):Cfg:=ZF Tryz.prog [(84,zk8 f8)] 31 [] [] [] ZH
theorem ZAH (f8:zT8):ZI (ZDs f8) Tryz.f153 (.leaf) (Ztl (ZcZ f8)):=fun _ _ _ _=>by kernel_rfl
theorem Zxs:Zm Tryz.prog 153 (Ztl Xc):=okF (ZAH ZaG) Tryz.func153 Zf (Zo _ (.cons zo8 .nil) .nil .nil .nil (Zp _))
noncomputable abbrev ZvT (f:ZqJ):Ze:=⟨[.agg [.I .i64,.I .u8,.I .i64,.I .i64,.I .i64]],[.one (.L),.one (.I .i64)],fun t K _ h=>f t.1 (fun r0 r1 h=>K (r0,r1,()) h) h⟩
noncomputable abbrev ZDr (f138:Zl8) (f43:ZuY):Cfg:=ZF Tryz.prog [(153,Ztl f138),(154,Zz0 f43)] 24 [] [] [] ZH
theorem ZAG (f138:Zl8) (f43:ZuY):ZI (ZDr f138 f43) Tryz.f132 (.leaf) (ZvT (ZeQ f138 f43)):=fun _ _ _ _=>by kernel_rfl
theorem ZBG:Zm Tryz.prog 132 (ZvT ZcE):=okF (ZAG Xc YD) Tryz.func132 Zf (Zo _ (.cons Zxs (.cons ZEQ .nil)) .nil .nil .nil (Zp _))
noncomputable abbrev ZvS (f:ZqI):Ze:=⟨[.one (.P),.one (.P),.one (.I .i64),.one (.L)],[.one (.B)],fun t K _ h=>f t.1 t.2.1 t.2.2.1 t.2.2.2.1 (fun r0 h=>K (r0,()) h) h⟩
noncomputable abbrev ZDq (f91:ZxQ) (f137:ZqK) (f139:ZqJ) (f45:ZuX) (f55:ZuV):Cfg:=ZF Tryz.prog [(131,ZCe f91),(38,ZvU f137),(132,ZvT f139),(133,ZzZ f45),(121,ZzX f55)] 94 [] [] [] ZH
theorem ZAF (f91:ZxQ) (f137:ZqK) (f139:ZqJ) (f45:ZuX) (f55:ZuV):ZI (ZDq f91 f137 f139 f45 f55) Tryz.f102 (.seq (.leaf) (.seq (.leaf) (.seq (.leaf) (.cut [10,12] [.one (.I .i64),.one (.P)] [(24,40)] (.order (.take 0 (.take 1 (.take 2 (.take 4 (.take 5 (.take 6 (.take 8 (.take 9 (.take 10 (.take 3 (.take 7 (.take 11 (.take 12 (.fork 13 (.take 14 (.take 15 (.take 16 (.take 17 (.take 18 (.take 19 .done)))))) 17 (.take 13 (.take 14 (.take 15 (.take 16 (.take 18 (.take 19 .done))))))))))))))))))))) (.seq (.leaf) (.cut [] [] [(43,68)] (.seq (.leaf) (.cond (.order (.take 0 (.take 1 (.take 2 (.take 3 (.take 5 (.take 6 (.take 7 (.take 9 (.take 10 (.take 4 (.take 8 (.take 11 (.take 12 (.take 13 (.take 14 (.take 15 (.take 16 (.take 17 (.take 18 .done)))))))))))))))))))) (.leaf))) (.seq (.leaf) (.seq (.leaf) (.seq (.order (.take 0 (.take 1 (.take 2 (.take 3 (.take 4 (.take 5 (.take 7 (.take 8 (.take 9 (.take 11 (.take 6 (.take 10 (.take 12 (.take 13 (.take 14 (.take 15 .done))))))))))))))))) (.leaf)))))))))) (ZvS (ZbX f91 f137 f139 f45 f55)):=fun _ _ _ _=>by kernel_rfl
theorem ZBF:Zm Tryz.prog 102 (ZvS XO):=okF (ZAF Zaq ZaY ZcE Zbe Xm) Tryz.func102 Zf (Zo _ (.cons ZGv (.cons ZBH (.cons ZBG (.cons ZEP (.cons ZEN .nil))))) .nil .nil .nil (Zp _))
noncomputable abbrev ZvR (f:ZqH):Ze:=⟨[.one (.P),.agg [.I .u8,.I .i64,.I .i64,.I .i64,.I .i64,.I .u8,.I .i64,.I .i64,.S,.I .i64]],[.agg [.I .i64,.B,.I .i64]],fun t K _ h=>f t.1 t.2.1 (fun r0 h=>K (r0,()) h) h⟩
noncomputable abbrev ZDp (f84:ZuQ) (f87:ZuP) (f140:ZqI) (f64:Zl4):Cfg:=ZF Tryz.prog [(100,ZzS f84),(101,ZzR f87),(102,ZvS f140),(103,Zvy f64)] 60 [] [] [] ZH
theorem ZAE (f84:ZuQ) (f87:ZuP) (f140:ZqI) (f64:Zl4):ZI (ZDp f84 f87 f140 f64) Tryz.f63 (.seq (.leaf) (.seq (.leaf) (.seq (.leaf) (.seq (.leaf) (.seq (.leaf) (.cut [9] [.one (.I .i64)] [(11,11),(40,53)] (.seq (.leaf) (.block (.loop [9,42] [.one (.I .i64),.one (.I .i64)] [(11,11),(43,53)] (.leaf)))) (.leaf))))))) (ZvR (Za6 f84 f87 f140 f64)):=fun _ _ _ _=>by kernel_rfl
theorem ZBE:Zm Tryz.prog 63 (ZvR YJ):=okF (ZAE YP Y3 XO Z4) Tryz.func63 Zf (Zo _ (.cons ZEI (.cons ZEH (.cons ZBF (.cons Zxo .nil)))) .nil .nil .nil (Zp _))
noncomputable abbrev ZvQ (f:ZqG):Ze:=⟨[.one (.L)],[.agg [.I .i64,.I .u8,.I .i64,.I .i64,.I .i64],.one (.I .i64),.one (.I .i64)],fun t K _ h=>f t.1 (fun r0 r1 r2 h=>K (r0,r1,r2,()) h) h⟩
noncomputable abbrev ZDo (f89:ZuN) (f138:Zl8) (f90:ZuM):Cfg:=ZF Tryz.prog [(150,ZzP f89),(153,Ztl f138),(152,ZzO f90)] 37 [] [] [] ZH
theorem ZAD (f89:ZuN) (f138:Zl8) (f90:ZuM):ZI (ZDo f89 f138 f90) Tryz.f137 (.leaf) (ZvQ (Zdq f89 f138 f90)):=fun _ _ _ _=>by kernel_rfl
theorem ZBD:Zm Tryz.prog 137 (ZvQ ZaH):=okF (ZAD Yn Xc YZ) Tryz.func137 Zf (Zo _ (.cons ZEF (.cons Zxs (.cons ZEE .nil))) .nil .nil .nil (Zp _))
noncomputable abbrev ZvP (f:ZqF):Ze:=⟨[.one (.P),.agg [.I .i64,.I .u8,.I .i64,.I .i64,.I .i64]],[],fun t K _ h=>f t.1 t.2.1 (fun h=>K (()) h) h⟩
noncomputable abbrev ZDn:Cfg:=ZF Tryz.prog [] 36 [] [] [] ZH
theorem ZAC:ZI (ZDn) Tryz.f138 (.seq (.leaf) (.seq (.order (.take 0 (.take 1 (.take 2 (.take 4 (.take 3 (.take 5 (.take 6 (.take 7 (.take 8 (.take 9 (.take 10 (.take 11 .done))))))))))))) (.seq (.leaf) (.cond (.seq (.order (.take 0 (.take 1 (.take 2 (.take 4 (.take 3 (.take 5 (.take 6 .done)))))))) (.order (.take 0 (.take 1 (.take 2 (.take 3 (.take 5 (.take 4 (.take 6 (.take 7 (.take 8 (.take 9 (.take 10 (.take 11 (.take 12 (.take 13 .done)))))))))))))))) (.leaf))))) (ZvP Zba):=fun _ _ _ _=>by kernel_rfl
theorem ZBC:Zm Tryz.prog 138 (ZvP Xf):=okF (ZAC) Tryz.func138 Zf (Zo _ .nil .nil .nil .nil (Zp _))
noncomputable abbrev ZvO (f:ZqE):Ze:=⟨[.one (.P),.one (.P)],[.one (.I .i64)],fun t K _ h=>f t.1 t.2.1 (fun r0 h=>K (r0,()) h) h⟩
noncomputable abbrev ZDm (f87:ZuP) (f142:ZqG) (f143:ZqF) (f60:ZuS):Cfg:=ZF Tryz.prog [(101,ZzR f87),(137,ZvQ f142),(138,ZvP f143),(139,ZzU f60)] 47 [] [] [] ZH
theorem ZAB (f87:ZuP) (f142:ZqG) (f143:ZqF) (f60:ZuS):ZI (ZDm f87 f142 f143 f60) Tryz.f136 (.seq (.leaf) (.seq (.leaf) (.seq (.order (.take 0 (.take 1 (.take 2 (.take 3 (.take 4 (.take 5 (.take 6 (.take 7 (.take 8 (.take 9 (.take 10 .done)))))))))))) (.cut [4] [.one (.I .i64)] [(6,9),(24,41)] (.seq (.leaf) (.block (.loop [4,26] [.one (.I .i64),.one (.I .i64)] [(6,9),(27,41)] (.leaf)))) (.leaf))))) (ZvO (Zbl f87 f142 f143 f60)):=fun _ _ _ _=>by kernel_rfl
theorem ZBB:Zm Tryz.prog 136 (ZvO Xp):=okF (ZAB Y3 ZaH Xf Y0) Tryz.func136 Zf (Zo _ (.cons ZEH (.cons ZBD (.cons ZBC (.cons ZEK .nil)))) .nil .nil .nil (Zp _))
noncomputable abbrev ZvN (f:ZqD):Ze:=⟨[.one (.P),.one (.I .i64),.clo 136 [.P,.P]],[.one (.I .i64)],fun t K _ h=>f t.1 t.2.1 t.2.2.1 (fun r0 h=>K (r0,()) h) h⟩
noncomputable abbrev ZDl (f15:Zia) (f16:Zh9) (f144:ZqE):Cfg:=ZF Tryz.prog [(33,Zte f15),(86,Ztd f16),(136,ZvO f144)] 57 [] [] [] ZH
theorem ZAA (f15:Zia) (f16:Zh9) (f144:ZqE):ZI (ZDl f15 f16 f144) Tryz.f49 (.seq (.leaf) (.seq (.leaf) (.seq (.leaf) (.seq (.seq (.leaf) (.block (.loop [33] [.one (.I .i64)] [(8,8),(34,54)] (.seq (.leaf) (.seq (.leaf) (.seq (.block (.seq (.leaf) (.seq (.order (.take 0 (.take 1 (.take 2 (.take 3 (.take 5 (.take 8 (.take 9 (.take 10 (.take 11 (.take 4 (.take 12 (.take 6 (.take 7 (.take 13 .done))))))))))))))) (.leaf)))) (.leaf))))))) (.leaf))))) (ZvN (XH f15 f16 f144)):=fun _ _ _ _=>by kernel_rfl
theorem ZBA:Zm Tryz.prog 49 (ZvN Ye):=okF (ZAA Zj Zq Xp) Tryz.func49 Zf (Zo _ (.cons ZuJ (.cons ZuI (.cons ZBB .nil))) .nil .nil .nil (Zp _))
noncomputable abbrev ZvM (f:ZqC):Ze:=⟨[.one (.P),.one (.I .i64),.one (.L)],[.one (.I .i64)],fun t K _ h=>f t.1 t.2.1 t.2.2.1 (fun r0 h=>K (r0,()) h) h⟩
noncomputable abbrev ZDk (f145:ZqD):Cfg:=ZF Tryz.prog [(49,ZvN f145)] 11 [] [] [] ZH
theorem ZAz (f145:ZqD):ZI (ZDk f145) Tryz.f104 (.leaf) (ZvM (Zb2 f145)):=fun _ _ _ _=>by kernel_rfl
theorem ZBz:Zm Tryz.prog 104 (ZvM XQ):=okF (ZAz Ye) Tryz.func104 Zf (Zo _ (.cons ZBA .nil) .nil .nil .nil (Zp _))
noncomputable abbrev ZvL (f:ZqB):Ze:=⟨[.one (.P),.agg [.I .u8,.I .i64,.I .i64,.I .i64,.I .i64,.I .u8,.I .i64,.I .i64,.S,.I .i64]],[.agg [.I .i64,.B,.I .i64]],fun t K _ h=>f t.1 t.2.1 (fun r0 h=>K (r0,()) h) h⟩
noncomputable abbrev ZDj (f84:ZuQ) (f146:ZqC) (f64:Zl4) (f65:Zqo):Cfg:=ZF Tryz.prog [(100,ZzS f84),(104,ZvM f146),(103,Zvy f64),(95,ZxF f65)] 50 [] [] [] ZH
theorem ZAy (f84:ZuQ) (f146:ZqC) (f64:Zl4) (f65:Zqo):ZI (ZDj f84 f146 f64 f65) Tryz.f64 (.seq (.leaf) (.seq (.leaf) (.seq (.leaf) (.seq (.leaf) (.seq (.seq (.order (.take 0 (.take 1 (.take 2 (.take 4 (.take 5 (.take 6 (.take 8 (.take 3 (.take 7 (.take 9 (.take 10 .done)))))))))))) (.leaf)) (.leaf)))))) (ZvL (Za7 f84 f146 f64 f65)):=fun _ _ _ _=>by kernel_rfl
theorem ZBy:Zm Tryz.prog 64 (ZvL YK):=okF (ZAy YP XQ Z4 Yo) Tryz.func64 Zf (Zo _ (.cons ZEI (.cons ZBz (.cons Zxo (.cons ZBl .nil)))) .nil .nil .nil (Zp _))
noncomputable abbrev ZvK (f:ZqA):Ze:=⟨[.one (.P),.agg [.I .u8,.I .i64,.I .i64,.I .i64,.I .i64,.I .u8,.I .i64,.I .i64,.S,.I .i64]],[.agg [.I .i64,.B,.I .i64]],fun t K _ h=>f t.1 t.2.1 (fun r0 h=>K (r0,()) h) h⟩
noncomputable abbrev ZDi (f52:Zl5) (f64:Zl4):Cfg:=ZF Tryz.prog [(40,Zvz f52),(103,Zvy f64)] 24 [] [] [] ZH
theorem ZAx (f52:Zl5) (f64:Zl4):ZI (ZDi f52 f64) Tryz.f65 (.leaf) (ZvK (Zco f52 f64)):=fun _ _ _ _=>by kernel_rfl
theorem ZBx:Zm Tryz.prog 65 (ZvK Xt):=okF (ZAx ZP Z4) Tryz.func65 Zf (Zo _ (.cons Zxp (.cons Zxo .nil)) .nil .nil .nil (Zp _))
noncomputable abbrev ZvJ (f:Zqz):Ze:=⟨[.one (.P),.one (.L)],[.one (.I .i64)],fun t K _ h=>f t.1 t.2.1 (fun r0 h=>K (r0,()) h) h⟩
noncomputable abbrev ZDh (f6:zT6):Cfg:=ZF Tryz.prog [(46,zk6 f6)] 26 [] [] [] ZH
theorem ZAw (f6:zT6):ZI (ZDh f6) Tryz.f105 (.seq (.leaf) (.seq (.leaf) (.seq (.seq (.leaf) (.block (.loop [16] [.one (.I .i64)] [(7,7),(17,25)] (.leaf)))) (.leaf)))) (ZvJ (ZdH f6)):=fun _ _ _ _=>by kernel_rfl
theorem ZBw:Zm Tryz.prog 105 (ZvJ ZaZ):=okF (ZAw Yl) Tryz.func105 Zf (Zo _ (.cons zo6 .nil) .nil .nil .nil (Zp _))
noncomputable abbrev ZvI (f:Zqy):Ze:=⟨[.one (.P),.agg [.I .u8,.I .i64,.I .i64,.I .i64,.I .i64,.I .u8,.I .i64,.I .i64,.S,.I .i64]],[.agg [.I .i64,.B,.I .i64]],fun t K _ h=>f t.1 t.2.1 (fun r0 h=>K (r0,()) h) h⟩
noncomputable abbrev ZDg (f149:Zqz) (f64:Zl4):Cfg:=ZF Tryz.prog [(105,ZvJ f149),(103,Zvy f64)] 39 [] [] [] ZH
theorem ZAv (f149:Zqz) (f64:Zl4):ZI (ZDg f149 f64) Tryz.f66 (.seq (.leaf) (.seq (.leaf) (.seq (.leaf) (.seq (.leaf) (.seq (.seq (.leaf) (.block (.loop [26] [.one (.I .i64)] [(5,5),(27,37)] (.leaf)))) (.leaf)))))) (ZvI (Zcn f149 f64)):=fun _ _ _ _=>by kernel_rfl
theorem ZBv:Zm Tryz.prog 66 (ZvI Xs):=okF (ZAv ZaZ Z4) Tryz.func66 Zf (Zo _ (.cons ZBw (.cons Zxo .nil)) .nil .nil .nil (Zp _))
noncomputable abbrev ZvH (f:Zqx):Ze:=⟨[.one (.P),.one (.I .i64)],[.one (.I .i64)],fun t K _ h=>f t.1 t.2.1 (fun r0 h=>K (r0,()) h) h⟩
noncomputable abbrev ZDf (f92:ZuL) (f37:Zu1):Cfg:=ZF Tryz.prog [(72,ZzN f92),(59,Zz3 f37)] 85 [] [] [] ZH
theorem ZAu (f92:ZuL) (f37:Zu1):ZI (ZDf f92 f37) Tryz.f106 (.seq (.leaf) (.seq (.leaf) (.seq (.leaf) (.seq (.leaf) (.seq (.leaf) (.seq (.seq (.leaf) (.block (.loop [38] [.one (.I .i64)] [(7,7),(9,9),(39,61)] (.seq (.leaf) (.seq (.leaf) (.seq (.block (.seq (.leaf) (.seq (.leaf) (.block (.loop [45] [.one (.I .i64)] [(9,9),(46,60)] (.seq (.leaf) (.seq (.leaf) (.seq (.block (.seq (.leaf) (.order (.take 0 (.take 1 (.take 2 (.take 4 (.take 8 (.take 3 (.take 5 (.take 6 (.take 9 (.take 7 (.take 10 (.take 11 .done))))))))))))))) (.leaf))))))))) (.leaf))))))) (.seq (.seq (.leaf) (.block (.loop [] [] [(10,11),(67,84)] (.cut [68] [.one (.B)] [(67,67)] (.leaf) (.seq (.leaf) (.block (.seq (.leaf) (.order (.take 0 (.take 1 (.take 2 (.take 4 (.take 5 (.take 6 (.take 10 (.take 3 (.take 7 (.take 8 (.take 11 (.take 9 (.take 12 (.take 13 .done)))))))))))))))))))))) (.leaf)))))))) (ZvH (Zbw f92 f37)):=fun _ _ _ _=>by kernel_rfl
theorem ZBu:Zm Tryz.prog 106 (ZvH XB):=okF (ZAu Y9 YV) Tryz.func106 Zf (Zo _ (.cons ZED (.cons ZET .nil)) .nil .nil .nil (Zp _))
noncomputable abbrev ZvG (f:Zqw):Ze:=⟨[.one (.P),.agg [.I .u8,.I .i64,.I .i64,.I .i64,.I .i64,.I .u8,.I .i64,.I .i64,.S,.I .i64]],[.agg [.I .i64,.B,.I .i64]],fun t K _ h=>f t.1 t.2.1 (fun r0 h=>K (r0,()) h) h⟩
noncomputable abbrev ZDe (f151:Zqx) (f7:zT7):Cfg:=ZF Tryz.prog [(106,ZvH f151),(24,zk7 f7)] 29 [] [] [] ZH
theorem ZAt (f151:Zqx) (f7:zT7):ZI (ZDe f151 f7) Tryz.f67 (.seq (.leaf) (.seq (.leaf) (.seq (.leaf) (.seq (.order (.take 0 (.take 1 (.take 2 (.take 4 (.take 5 (.take 6 (.take 3 (.take 7 (.take 8 .done)))))))))) (.leaf))))) (ZvG (ZbW f151 f7)):=fun _ _ _ _=>by kernel_rfl
theorem ZBt:Zm Tryz.prog 67 (ZvG Xe):=okF (ZAt XB YO) Tryz.func67 Zf (Zo _ (.cons ZBu (.cons zo7 .nil)) .nil .nil .nil (Zp _))
noncomputable abbrev Ztk (f:Zl7):Ze:=⟨[.one (.P),.agg [.I .u8,.I .i64,.I .i64,.I .i64,.I .i64,.I .u8,.I .i64,.I .i64,.S,.I .i64]],[.one (.I .i64),.one (.B),.one (.I .i64)],fun t K _ h=>f t.1 t.2.1 (fun r0 r1 r2 h=>K (r0,r1,r2,()) h) h⟩
noncomputable abbrev ZDd (f40:Zyn) (f41:ZuZ) (f42:Zym) (f66:Zx9) (f80:ZxV) (f141:ZqH) (f147:ZqB) (f148:ZqA) (f150:Zqy) (f152:Zqw):Cfg:=ZF Tryz.prog [(28,ZCL f40),(29,Zz1 f41),(60,ZCK f42),(61,ZCx f66),(62,ZCj f80),(63,ZvR f141),(64,ZvL f147),(65,ZvK f148),(66,ZvI f150),(67,ZvG f152)] 45 [] [] [] ZH [60,61,62,63,64,65,66,67]
theorem ZAs (f40:Zyn) (f41:ZuZ) (f42:Zym) (f66:Zx9) (f80:ZxV) (f141:ZqH) (f147:ZqB) (f148:ZqA) (f150:Zqy) (f152:Zqw):ZI (ZDd f40 f41 f42 f66 f80 f141 f147 f148 f150 f152) Tryz.f10 (.seq (.leaf) (.seq (.leaf) (.seq (.leaf) (.cut [] [] [(4,6),(18,31)] (.leaf) (.cut [9] [.one (.P)] [(32,38)] (.order (.take 0 (.take 2 (.take 3 (.take 4 (.take 1 (.take 5 (.fork 6 (.take 7 (.take 8 .done)) 7 (.take 6 (.take 8 .done)))))))))) (.leaf)))))) (Ztk (Zcq f40 f41 f42 f66 f80 f141 f147 f148 f150 f152)):=fun _ _ _ _=>by kernel_rfl
theorem Zxr:Zm Tryz.prog 10 (Ztk YC):=okF (ZAs Zbo YE Xr XI Xu YJ YK Xt Xs Xe) Tryz.func10 Zf (Zo _ (.cons ZG2 (.cons ZER (.cons ZG1 (.cons ZGO (.cons ZGA (.cons ZBE (.cons ZBy (.cons ZBx (.cons ZBv (.cons ZBt .nil)))))))))) .nil .nil .nil (Zp _))
noncomputable abbrev ZvF (f:Zqv):Ze:=⟨[.one (.P),.one (.L)],[.one (.L)],fun t K _ h=>f t.1 t.2.1 (fun r0 h=>K (r0,()) h) h⟩
noncomputable abbrev ZDc (f153:Zl7):Cfg:=ZF Tryz.prog [(10,Ztk f153)] 31 [] [] [] ZH
theorem ZAr (f153:Zl7):ZI (ZDc f153) Tryz.f17 (.seq (.leaf) (.seq (.leaf) (.seq (.seq (.leaf) (.block (.loop [5,11] [.one (.L),.one (.I .i64)] [(6,8),(12,29)] (.leaf)))) (.leaf)))) (ZvF (Zb0 f153)):=fun _ _ _ _=>by kernel_rfl
theorem ZBs:Zm Tryz.prog 17 (ZvF XP):=okF (ZAr YC) Tryz.func17 Zf (Zo _ (.cons Zxr .nil) .nil .nil .nil (Zp _))
noncomputable abbrev ZvE (f:Zqu):Ze:=⟨[.one (.P),.one (.I .i64)],[.one (.P)],fun t K _ h=>f t.1 t.2.1 (fun r0 h=>K (r0,()) h) h⟩
noncomputable abbrev ZDb (f41:ZuZ):Cfg:=ZF Tryz.prog [(29,Zz1 f41)] 15 [] [] [] ZH
theorem ZAq (f41:ZuZ):ZI (ZDb f41) Tryz.f31 (.leaf) (ZvE (Za8 f41)):=fun _ _ _ _=>by kernel_rfl
theorem ZBr:Zm Tryz.prog 31 (ZvE XX):=okF (ZAq YE) Tryz.func31 Zf (Zo _ (.cons ZER .nil) .nil .nil .nil (Zp _))
noncomputable abbrev ZvD (f:Zqt):Ze:=⟨[.one (.P)],[.one (.L)],fun t K _ h=>f t.1 (fun r0 h=>K (r0,()) h) h⟩
noncomputable abbrev ZDa:Cfg:=ZF Tryz.prog [] 14 [] [] [] ZH
theorem ZAp:ZI (ZDa) Tryz.f32 (.leaf) (ZvD Zd3):=fun _ _ _ _=>by kernel_rfl
theorem ZBq:Zm Tryz.prog 32 (ZvD ZaU):=okF (ZAp) Tryz.func32 Zf (Zo _ .nil .nil .nil .nil (Zp _))
noncomputable abbrev ZvC (f:Zqs):Ze:=⟨[.one (.P),.one (.I .i64)],[.one (.L)],fun t K _ h=>f t.1 t.2.1 (fun r0 h=>K (r0,()) h) h⟩
noncomputable abbrev ZC9 (f155:Zqu) (f156:Zqt):Cfg:=ZF Tryz.prog [(31,ZvE f155),(32,ZvD f156)] 9 [] [] [] ZH
theorem ZAo (f155:Zqu) (f156:Zqt):ZI (ZC9 f155 f156) Tryz.f12 (.leaf) (ZvC (Zbz f155 f156)):=fun _ _ _ _=>by kernel_rfl
theorem ZBp:Zm Tryz.prog 12 (ZvC XC):=okF (ZAo XX ZaU) Tryz.func12 Zf (Zo _ (.cons ZBr (.cons ZBq .nil)) .nil .nil .nil (Zp _))
noncomputable abbrev ZvB (f:Zqr):Ze:=⟨[.one (.L)],[.one (.L)],fun t K _ h=>f t.1 (fun r0 h=>K (r0,()) h) h⟩
noncomputable abbrev ZC8:Cfg:=ZF Tryz.prog [] 8 [] [] [] ZH
theorem ZAn:ZI (ZC8) Tryz.f30 (.leaf) (ZvB YA):=fun _ _ _ _=>by kernel_rfl
theorem ZBo:Zm Tryz.prog 30 (ZvB Z9):=okF (ZAn) Tryz.func30 Zf (Zo _ .nil .nil .nil .nil (Zp _))
noncomputable abbrev Ztj (f:Zl6):Ze:=⟨[.one (.P)],[.one (.L)],fun t K _ h=>f t.1 (fun r0 h=>K (r0,()) h) h⟩
noncomputable abbrev ZC7 (f158:Zqr):Cfg:=ZF Tryz.prog [(30,ZvB f158)] 11 [] [] [] ZH
theorem ZAm (f158:Zqr):ZI (ZC7 f158) Tryz.f11 (.leaf) (Ztj (Za9 f158)):=fun _ _ _ _=>by kernel_rfl
theorem Zxq:Zm Tryz.prog 11 (Ztj Yg):=okF (ZAm Z9) Tryz.func11 Zf (Zo _ (.cons ZBo .nil) .nil .nil .nil (Zp _))
noncomputable abbrev ZvA (f:Zqq):Ze:=⟨[],[.one (.B)],fun _ K _ h=>f (fun r0 h=>K (r0,()) h) h⟩
noncomputable abbrev ZC6 (f20:Zu2) (f39:Zu0) (f154:Zqv) (f157:Zqs) (f159:Zl6):Cfg:=ZF Tryz.prog [(7,Zz4 f20),(9,Zz2 f39),(17,ZvF f154),(12,ZvC f157),(11,Ztj f159)] 81 [] [] [] ZH
theorem ZAl (f20:Zu2) (f39:Zu0) (f154:Zqv) (f157:Zqs) (f159:Zl6):ZI (ZC6 f20 f39 f154 f157 f159) Tryz.f8 (.seq (.leaf) (.seq (.leaf) (.seq (.leaf) (.seq (.leaf) (.seq (.leaf) (.seq (.leaf) (.seq (.seq (.leaf) (.block (.loop [6] [.one (.I .i64)] [(0,0),(34,44)] (.leaf)))) (.leaf)))))))) (ZvA (Zch f20 f39 f154 f157 f159)):=fun _ _ _ _=>by kernel_rfl
theorem ZBn:Zm Tryz.prog 8 (ZvA X5):=okF (ZAl Zbf Yt XP XC Yg) Tryz.func8 Zf (Zo _ (.cons ZEU (.cons ZES (.cons ZBs (.cons ZBp (.cons Zxq .nil))))) .nil .nil .nil (Zp _))
noncomputable abbrev ZxH (f:ZyG):Ze:=⟨[.agg [.I .i64,.I .i64,.I .i64,.I .i64,.I .i64,.L],.one (.L)],[.one (.B)],fun t K _ h=>f t.1 t.2.1 (fun r0 h=>K (r0,()) h) h⟩
noncomputable abbrev ZC5 (f20:Zu2) (f160:Zqq) (f39:Zu0) (f153:Zl7) (f159:Zl6):Cfg:=ZF Tryz.prog [(7,Zz4 f20),(8,ZvA f160),(9,Zz2 f39),(10,Ztk f153),(11,Ztj f159)] 125 [] [] [] ZH
theorem ZAk (f20:Zu2) (f160:Zqq) (f39:Zu0) (f153:Zl7) (f159:Zl6):ZI (ZC5 f20 f160 f39 f153 f159) Tryz.f3 (.seq (.leaf) (.seq (.leaf) (.seq (.leaf) (.seq (.leaf) (.cut [] [] [(7,7),(36,51)] (.seq (.leaf) (.block (.loop [7] [.one (.I .i64)] [(36,51)] (.leaf)))) (.seq (.leaf) (.seq (.seq (.leaf) (.block (.loop [9] [.one (.I .i64)] [(4,4),(10,12),(54,123)] (.seq (.leaf) (.seq (.block (.seq (.leaf) (.seq (.leaf) (.block (.loop [10] [.one (.I .i64)] [(4,4),(11,12),(68,123)] (.seq (.leaf) (.seq (.block (.seq (.leaf) (.seq (.seq (.leaf) (.block (.loop [11,12] [.one (.I .i64),.one (.I .i64)] [(75,115)] (.leaf)))) (.leaf)))) (.leaf)))))))) (.leaf)))))) (.leaf)))))))) (ZxH (Zat f20 f160 f39 f153 f159)):=fun _ _ _ _=>by kernel_rfl
theorem Zea:Zm Tryz.prog 3 (ZxH Zao):=okF (ZAk Zbf X5 Yt YC Yg) Tryz.func3 Zf (Zo _ (.cons ZEU (.cons ZBn (.cons ZES (.cons Zxr (.cons Zxq .nil))))) .nil .nil .nil (Zp _))
end Go.Proofs.YtbppjmcinoffnaaGreat
