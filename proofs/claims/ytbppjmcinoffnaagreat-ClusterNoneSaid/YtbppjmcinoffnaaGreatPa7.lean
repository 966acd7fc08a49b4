/- That each function does what its model says. Written by a program out of the translated functions. -/
import Derived.Test.YtbppjmcinoffnaaGreatProg
import Derived.KernelRfl
import Derived.Test.YtbppjmcinoffnaaGreatPa6
set_option linter.unusedVariables false
set_option linter.unusedSimpArgs false
namespace Go.Proofs.YtbppjmcinoffnaaGreat
open Go Go.Fw
theorem Zf:Tryz.prog.follows .mixedOrders=true:=by kernel_rfl
noncomputable abbrev zk0 (f:zT0):Ze:=⟨[.one (.I .i64)],[.one (.B)],fun t K _ h=>f t.1 (fun r0 h=>K (r0,()) h) h⟩
noncomputable abbrev zc0:Cfg:=ZG Tryz.prog [] 9 [] [] [] ZH
theorem zr0:ZI (zc0) Tryz.f45 (.leaf) (zk0 Ze4):=fun _ _ _ _=>by kernel_rfl
theorem zo0:Zk Tryz.prog 45 (zk0 Za3):=okF (zr0) Tryz.func45 Zf (Zo _ .nil .nil .nil .nil (Zp _))
noncomputable abbrev zk1 (f:zT1):Ze:=⟨[.one (.I .i64)],[.one (.P),.one (.I .i64)],fun t K _ h=>f t.1 (fun r0 r1 h=>K (r0,r1,()) h) h⟩
noncomputable abbrev zc1 (f0:zT0):Cfg:=ZG Tryz.prog [(45,zk0 f0)] 13 [] [] [] ZH
theorem zr1 (f0:zT0):ZI (zc1 f0) Tryz.f22 (.leaf) (zk1 (ZgZ f0)):=fun _ _ _ _=>by kernel_rfl
theorem zo1:Zk Tryz.prog 22 (zk1 ZeH):=okF (zr1 Za3) Tryz.func22 Zf (Zo _ (.cons zo0 .nil) .nil .nil .nil (Zp _))
noncomputable abbrev zk2 (f:zT2):Ze:=⟨[],[.one (.P)],fun _ K _ h=>f (fun r0 h=>K (r0,()) h) h⟩
noncomputable abbrev zc2:Cfg:=ZG Tryz.prog [] 4 [] [] [] ZH
theorem zr2:ZI (zc2) Tryz.f23 (.leaf) (zk2 Zgj):=fun _ _ _ _=>by kernel_rfl
theorem zo2:Zk Tryz.prog 23 (zk2 Zef):=okF (zr2) Tryz.func23 Zf (Zo _ .nil .nil .nil .nil (Zp _))
noncomputable abbrev zk3 (f:zT3):Ze:=⟨[.one (.I .i64)],[.one (.B)],fun t K _ h=>f t.1 (fun r0 h=>K (r0,()) h) h⟩
noncomputable abbrev zc3:Cfg:=ZG Tryz.prog [] 9 [] [] [] ZH
theorem zr3:ZI (zc3) Tryz.f83 (.leaf) (zk3 ZbB):=fun _ _ _ _=>by kernel_rfl
theorem zo3:Zk Tryz.prog 83 (zk3 Xp):=okF (zr3) Tryz.func83 Zf (Zo _ .nil .nil .nil .nil (Zp _))
noncomputable abbrev zk4 (f:zT4):Ze:=⟨[.one (.L),.fn 83],[.one (.I .i64)],fun t K _ h=>f t.1 (fun r0 h=>K (r0,()) h) h⟩
noncomputable abbrev zc4 (f3:zT3):Cfg:=ZG Tryz.prog [(83,zk3 f3)] 19 [] [] [] ZH
theorem zr4 (f3:zT3):ZI (zc4 f3) Tryz.f116 (.seq (.leaf) (.seq (.seq (.leaf) (.block (.loop [8] [.one (.I .i64)] [(4,5),(9,18)] (.leaf)))) (.leaf))) (zk4 (Yj f3)):=fun _ _ _ _=>by kernel_rfl
theorem zo4:Zk Tryz.prog 116 (zk4 ZQ):=okF (zr4 Xp) Tryz.func116 Zf (Zo _ (.cons zo3 .nil) .nil .nil .nil (Zp _))
noncomputable abbrev zk5 (f:zT5):Ze:=⟨[.one (.L),.fn 83],[.one (.B)],fun t K _ h=>f t.1 (fun r0 h=>K (r0,()) h) h⟩
noncomputable abbrev zc5 (f4:zT4):Cfg:=ZG Tryz.prog [(116,zk4 f4)] 9 [] [] [] ZH
theorem zr5 (f4:zT4):ZI (zc5 f4) Tryz.f82 (.leaf) (zk5 (Yd f4)):=fun _ _ _ _=>by kernel_rfl
theorem zo5:Zk Tryz.prog 82 (zk5 Z0):=okF (zr5 ZQ) Tryz.func82 Zf (Zo _ (.cons zo4 .nil) .nil .nil .nil (Zp _))
noncomputable abbrev zk6 (f:zT6):Ze:=⟨[.one (.P),.one (.L)],[.one (.I .i64)],fun t K _ h=>f t.1 t.2.1 (fun r0 h=>K (r0,()) h) h⟩
noncomputable abbrev zc6 (f5:zT5):Cfg:=ZG Tryz.prog [(82,zk5 f5)] 11 [] [] [] ZH
theorem zr6 (f5:zT5):ZI (zc6 f5) Tryz.f46 (.leaf) (zk6 (Zb7 f5)):=fun _ _ _ _=>by kernel_rfl
theorem zo6:Zk Tryz.prog 46 (zk6 Yn):=okF (zr6 Z0) Tryz.func46 Zf (Zo _ (.cons zo5 .nil) .nil .nil .nil (Zp _))
noncomputable abbrev zk7 (f:zT7):Ze:=⟨[.one (.P),.one (.L)],[.one (.I .i64)],fun t K _ h=>f t.1 t.2.1 (fun r0 h=>K (r0,()) h) h⟩
noncomputable abbrev zc7 (f6:zT6):Cfg:=ZG Tryz.prog [(46,zk6 f6)] 26 [] [] [] ZH
theorem zr7 (f6:zT6):ZI (zc7 f6) Tryz.f24 (.seq (.leaf) (.seq (.leaf) (.seq (.seq (.leaf) (.block (.loop [16] [.one (.I .i64)] [(7,7),(17,25)] (.leaf)))) (.leaf)))) (zk7 (Zdg f6)):=fun _ _ _ _=>by kernel_rfl
theorem zo7:Zk Tryz.prog 24 (zk7 YR):=okF (zr7 Yn) Tryz.func24 Zf (Zo _ (.cons zo6 .nil) .nil .nil .nil (Zp _))
noncomputable abbrev zk8 (f:zT8):Ze:=⟨[.one (.I .i64),.one (.I .i64),.one (.I .i64)],[.one (.B)],fun t K _ h=>f t.1 t.2.1 t.2.2.1 (fun r0 h=>K (r0,()) h) h⟩
noncomputable abbrev zc8:Cfg:=ZG Tryz.prog [] 15 [] [] [] ZH
theorem zr8:ZI (zc8) Tryz.f84 (.leaf) (zk8 Zgl):=fun _ _ _ _=>by kernel_rfl
theorem zo8:Zk Tryz.prog 84 (zk8 ZaU):=okF (zr8) Tryz.func84 Zf (Zo _ .nil .nil .nil .nil (Zp _))
noncomputable abbrev zk9 (f:zT9):Ze:=⟨[.one (.S)],[.one (.B)],fun t K _ h=>f t.1 (fun r0 h=>K (r0,()) h) h⟩
noncomputable abbrev zc9 (f8:zT8):Cfg:=ZG Tryz.prog [(84,zk8 f8)] 19 [] [] [] ZH
theorem zr9 (f8:zT8):ZI (zc9 f8) Tryz.f85 (.seq (.leaf) (.seq (.seq (.leaf) (.block (.loop [6] [.one (.I .i64)] [(2,3),(7,15)] (.leaf)))) (.leaf))) (zk9 (Ze8 f8)):=fun _ _ _ _=>by kernel_rfl
theorem zo9:Zk Tryz.prog 85 (zk9 ZcX):=okF (zr9 ZaU) Tryz.func85 Zf (Zo _ (.cons zo8 .nil) .nil .nil .nil (Zp _))
noncomputable abbrev Zwe (f:ZlY):Ze:=⟨[.agg [.I .i64,.I .u8,.I .i64,.I .i64,.S,.I .i64]],[.one (.B)],fun t K _ h=>f t.1 (fun r0 h=>K (r0,()) h) h⟩
noncomputable abbrev ZI8 (f8:zT8) (f9:zT9):Cfg:=ZG Tryz.prog [(84,zk8 f8),(85,zk9 f9)] 76 [] [] [] ZH
theorem ZGM (f8:zT8) (f9:zT9):ZI (ZI8 f8 f9) Tryz.f47 (.seq (.leaf) (.cut [3] [.one (.B)] [(5,17)] (.leaf) (.cut [4] [.one (.B)] [(18,25)] (.leaf) (.seq (.leaf) (.seq (.seq (.leaf) (.block (.cut [32] [.one (.B)] [(33,34)] (.leaf) (.leaf)))) (.leaf)))))) (Zwe (ZfL f8 f9)):=fun _ _ _ _=>by kernel_rfl
theorem Zxx:Zk Tryz.prog 47 (Zwe YZ):=okF (ZGM ZaU ZcX) Tryz.func47 Zf (Zo _ (.cons zo8 (.cons zo9 .nil)) .nil .nil .nil (Zp _))
noncomputable abbrev Zz2 (f:ZuS):Ze:=⟨[],[.one (.P)],fun _ K _ h=>f (fun r0 h=>K (r0,()) h) h⟩
noncomputable abbrev ZI7:Cfg:=ZG Tryz.prog [] 3 [] [] [] ZH
theorem ZGL:ZI (ZI7) Tryz.f48 (.leaf) (Zz2 ZeM):=fun _ _ _ _=>by kernel_rfl
theorem ZFj:Zk Tryz.prog 48 (Zz2 Zb3):=okF (ZGL) Tryz.func48 Zf (Zo _ .nil .nil .nil .nil (Zp _))
noncomputable abbrev ZDl (f:ZyH):Ze:=⟨[.agg [.I .i64,.I .i64,.I .i64],.one (.S)],[.one (.P),.one (.I .i64)],fun t K _ h=>f t.1 t.2.1 (fun r0 r1 h=>K (r0,r1,()) h) h⟩
noncomputable abbrev ZI6 (f10:ZlY) (f11:ZuS):Cfg:=ZG Tryz.prog [(47,Zwe f10),(48,Zz2 f11)] 45 [] [] [] ZH
theorem ZGK (f10:ZlY) (f11:ZuS):ZI (ZI6 f10 f11) Tryz.f25 (.seq (.leaf) (.seq (.leaf) (.seq (.order (.take 2 (.take 4 (.take 1 (.take 5 (.fork 0 (.take 3 (.take 6 (.take 7 (.take 8 (.take 9 .done))))) 3 (.take 0 (.take 6 (.take 7 (.take 8 (.take 9 .done))))))))))) (.leaf)))) (ZDl (Zgm f10 f11)):=fun _ _ _ _=>by kernel_rfl
theorem ZHI:Zk Tryz.prog 25 (ZDl Zeh):=okF (ZGK YZ Zb3) Tryz.func25 Zf (Zo _ (.cons Zxx (.cons ZFj .nil)) .nil .nil .nil (Zp _))
noncomputable abbrev Zp1 (f:Zhc):Ze:=⟨[.one (.P)],[.one (.L)],fun t K _ h=>f t.1 (fun r0 h=>K (r0,()) h) h⟩
noncomputable abbrev ZI5 (f13:ZEx) (f14:ZEw):Cfg:=ZG Tryz.prog [(69,⟨[.one (.M)],[.one (.V)],fun t K _ h=>f13 t.1 (fun r0 h=>K (r0,()) h) h⟩),(68,⟨[.one (.V)],[.one (.L)],fun t K _ h=>f14 t.1 (fun r0 h=>K (r0,()) h) h⟩)] 11 [] [] [] ZH
theorem ZGJ (f13:ZEx) (f14:ZEw):ZI (ZI5 f13 f14) Tryz.f33 (.leaf) (Zp1 (Zan f13 f14)):=fun _ _ _ _=>by kernel_rfl
theorem Zs3:Zk Tryz.prog 33 (Zp1 Zi):=okF (ZGJ YO Zcs) Tryz.func33 Zf (Zo _ (.cons Zdz (.cons Zgf .nil)) .nil .nil .nil (Zp _))
noncomputable abbrev ZsZ (f:Zid):Ze:=⟨[.one (.P),.one (.I .i64)],[],fun t K _ h=>f t.1 t.2.1 (fun h=>K (()) h) h⟩
noncomputable abbrev ZI4:Cfg:=ZG Tryz.prog [] 20 [] [] [] ZH
theorem ZGI:ZI (ZI4) Tryz.f86 (.leaf) (ZsZ ZcL):=fun _ _ _ _=>by kernel_rfl
theorem Zux:Zk Tryz.prog 86 (ZsZ Zr):=okF (ZGI) Tryz.func86 Zf (Zo _ .nil .nil .nil .nil (Zp _))
noncomputable abbrev ZDk (f:ZyG):Ze:=⟨[],[.one (.I .i64)],fun _ K _ h=>f (fun r0 h=>K (r0,()) h) h⟩
noncomputable abbrev ZI3:Cfg:=ZG Tryz.prog [] 1 [] [] [] ZH
theorem ZGH:ZI (ZI3) Tryz.f50 (.leaf) (ZDk ZbT):=fun _ _ _ _=>by kernel_rfl
theorem ZHH:Zk Tryz.prog 50 (ZDk XF):=okF (ZGH) Tryz.func50 Zf (Zo _ .nil .nil .nil .nil (Zp _))
noncomputable abbrev ZDj (f:ZyF):Ze:=⟨[.one (.P),.one (.I .i64),.fn 50],[.one (.I .i64)],fun t K _ h=>f t.1 t.2.1 (fun r0 h=>K (r0,()) h) h⟩
noncomputable abbrev ZI2 (f15:Zhc) (f16:Zid) (f17:ZyG):Cfg:=ZG Tryz.prog [(33,Zp1 f15),(86,ZsZ f16),(50,ZDk f17)] 57 [] [] [] ZH
theorem ZGG (f15:Zhc) (f16:Zid) (f17:ZyG):ZI (ZI2 f15 f16 f17) Tryz.f49 (.seq (.leaf) (.seq (.leaf) (.seq (.leaf) (.seq (.seq (.leaf) (.block (.loop [33] [.one (.I .i64)] [(8,8),(34,54)] (.seq (.leaf) (.seq (.leaf) (.seq (.block (.seq (.leaf) (.seq (.order (.take 0 (.take 1 (.take 2 (.take 3 (.take 5 (.take 8 (.take 9 (.take 10 (.take 11 (.take 4 (.take 12 (.take 6 (.take 7 (.take 13 .done))))))))))))))) (.leaf)))) (.leaf))))))) (.leaf))))) (ZDj (Zv f15 f16 f17)):=fun _ _ _ _=>by kernel_rfl
theorem ZHG:Zk Tryz.prog 49 (ZDj Yk):=okF (ZGG Zi Zr XF) Tryz.func49 Zf (Zo _ (.cons Zs3 (.cons Zux (.cons ZHH .nil))) .nil .nil .nil (Zp _))
noncomputable abbrev Zz1 (f:ZuR):Ze:=⟨[.one (.P),.one (.I .i64)],[.one (.I .i64)],fun t K _ h=>f t.1 t.2.1 (fun r0 h=>K (r0,()) h) h⟩
noncomputable abbrev ZI1 (f18:ZyF):Cfg:=ZG Tryz.prog [(49,ZDj f18)] 8 [] [] [] ZH
theorem ZGF (f18:ZyF):ZI (ZI1 f18) Tryz.f26 (.leaf) (Zz1 (ZcP f18)):=fun _ _ _ _=>by kernel_rfl
theorem ZFi:Zk Tryz.prog 26 (Zz1 Y4):=okF (ZGF Yk) Tryz.func26 Zf (Zo _ (.cons ZHG .nil) .nil .nil .nil (Zp _))
noncomputable abbrev ZDi (f:ZyD):Ze:=⟨[.one (.I .i64),.one (.I .i64),.agg [.I .i64,.I .i64,.I .i64]],[.one (.P),.one (.I .i64)],fun t K _ h=>f t.1 t.2.1 t.2.2.1 (fun r0 r1 h=>K (r0,r1,()) h) h⟩
noncomputable abbrev ZI0 (f1:zT1) (f2:zT2) (f7:zT7) (f12:ZyH) (f19:ZuR):Cfg:=ZG Tryz.prog [(22,zk1 f1),(23,zk2 f2),(24,zk7 f7),(25,ZDl f12),(26,Zz1 f19)] 74 [] [] [] ZH
theorem ZGE (f1:zT1) (f2:zT2) (f7:zT7) (f12:ZyH) (f19:ZuR):ZI (ZI0 f1 f2 f7 f12 f19) Tryz.f7 (.seq (.leaf) (.seq (.leaf) (.seq (.leaf) (.seq (.leaf) (.seq (.leaf) (.seq (.seq (.leaf) (.block (.loop [46] [.one (.I .i64)] [(6,7),(11,12),(47,72)] (.leaf)))) (.leaf))))))) (ZDi (ZfN f1 f2 f7 f12 f19)):=fun _ _ _ _=>by kernel_rfl
theorem ZHF:Zk Tryz.prog 7 (ZDi ZdD):=okF (ZGE ZeH Zef YR Zeh Y4) Tryz.func7 Zf (Zo _ (.cons zo1 (.cons zo2 (.cons zo7 (.cons ZHI (.cons ZFi .nil))))) .nil .nil .nil (Zp _))
noncomputable abbrev ZDh (f:ZyC):Ze:=⟨[.one (.I .i64),.one (.I .i64),.one (.I .i64)],[.one (.B)],fun t K _ h=>f t.1 t.2.1 t.2.2.1 (fun r0 h=>K (r0,()) h) h⟩
noncomputable abbrev ZIZ:Cfg:=ZG Tryz.prog [] 15 [] [] [] ZH
theorem ZGD:ZI (ZIZ) Tryz.f87 (.leaf) (ZDh Ze6):=fun _ _ _ _=>by kernel_rfl
theorem ZHE:Zk Tryz.prog 87 (ZDh ZcV):=okF (ZGD) Tryz.func87 Zf (Zo _ .nil .nil .nil .nil (Zp _))
noncomputable abbrev ZDg (f:ZyB):Ze:=⟨[.one (.S)],[.one (.B)],fun t K _ h=>f t.1 (fun r0 h=>K (r0,()) h) h⟩
noncomputable abbrev ZIY (f21:ZyC):Cfg:=ZG Tryz.prog [(87,ZDh f21)] 19 [] [] [] ZH
theorem ZGC (f21:ZyC):ZI (ZIY f21) Tryz.f51 (.seq (.leaf) (.seq (.seq (.leaf) (.block (.loop [6] [.one (.I .i64)] [(2,3),(7,15)] (.leaf)))) (.leaf))) (ZDg (Ze7 f21)):=fun _ _ _ _=>by kernel_rfl
theorem ZHD:Zk Tryz.prog 51 (ZDg ZcW):=okF (ZGC ZcV) Tryz.func51 Zf (Zo _ (.cons ZHE .nil) .nil .nil .nil (Zp _))
noncomputable abbrev ZDf (f:ZyA):Ze:=⟨[.one (.I .i64),.one (.I .i64),.one (.I .i64)],[.one (.B)],fun t K _ h=>f t.1 t.2.1 t.2.2.1 (fun r0 h=>K (r0,()) h) h⟩
noncomputable abbrev ZIX:Cfg:=ZG Tryz.prog [] 15 [] [] [] ZH
theorem ZGB:ZI (ZIX) Tryz.f89 (.leaf) (ZDf ZeJ):=fun _ _ _ _=>by kernel_rfl
theorem ZHC:Zk Tryz.prog 89 (ZDf Zb1):=okF (ZGB) Tryz.func89 Zf (Zo _ .nil .nil .nil .nil (Zp _))
noncomputable abbrev ZDe (f:Zyz):Ze:=⟨[.agg [.I .i64,.I .i64,.I .i64,.I .i64]],[.one (.B)],fun t K _ h=>f t.1 (fun r0 h=>K (r0,()) h) h⟩
noncomputable abbrev ZIW (f23:ZyA):Cfg:=ZG Tryz.prog [(89,ZDf f23)] 38 [] [] [] ZH
theorem ZGA (f23:ZyA):ZI (ZIW f23) Tryz.f54 (.seq (.leaf) (.seq (.leaf) (.seq (.leaf) (.cut [4] [.one (.B)] [(8,14)] (.leaf) (.leaf))))) (ZDe (ZfI f23)):=fun _ _ _ _=>by kernel_rfl
theorem ZHB:Zk Tryz.prog 54 (ZDe ZdB):=okF (ZGA Zb1) Tryz.func54 Zf (Zo _ (.cons ZHC .nil) .nil .nil .nil (Zp _))
noncomputable abbrev ZDd (f:Zyy):Ze:=⟨[.agg [.I .i64,.I .i64,.I .i64,.I .i64]],[.one (.B)],fun t K _ h=>f t.1 (fun r0 h=>K (r0,()) h) h⟩
noncomputable abbrev ZIV (f24:Zyz):Cfg:=ZG Tryz.prog [(54,ZDe f24)] 6 [] [] [] ZH
theorem ZGz (f24:Zyz):ZI (ZIV f24) Tryz.f53 (.leaf) (ZDd (Zb6 f24)):=fun _ _ _ _=>by kernel_rfl
theorem ZHA:Zk Tryz.prog 53 (ZDd XU):=okF (ZGz ZdB) Tryz.func53 Zf (Zo _ (.cons ZHB .nil) .nil .nil .nil (Zp _))
noncomputable abbrev ZDc (f:Zyx):Ze:=⟨[.one (.L),.fn 53],[.one (.I .i64)],fun t K _ h=>f t.1 (fun r0 h=>K (r0,()) h) h⟩
noncomputable abbrev ZIU (f25:Zyy):Cfg:=ZG Tryz.prog [(53,ZDd f25)] 19 [] [] [] ZH
theorem ZGy (f25:Zyy):ZI (ZIU f25) Tryz.f88 (.seq (.leaf) (.seq (.seq (.leaf) (.block (.loop [8] [.one (.I .i64)] [(4,5),(9,18)] (.leaf)))) (.leaf))) (ZDc (Z4 f25)):=fun _ _ _ _=>by kernel_rfl
theorem ZHz:Zk Tryz.prog 88 (ZDc ZN):=okF (ZGy XU) Tryz.func88 Zf (Zo _ (.cons ZHA .nil) .nil .nil .nil (Zp _))
noncomputable abbrev ZDb (f:Zyw):Ze:=⟨[.one (.L),.fn 53],[.one (.B)],fun t K _ h=>f t.1 (fun r0 h=>K (r0,()) h) h⟩
noncomputable abbrev ZIT (f26:Zyx):Cfg:=ZG Tryz.prog [(88,ZDc f26)] 9 [] [] [] ZH
theorem ZGx (f26:Zyx):ZI (ZIT f26) Tryz.f52 (.leaf) (ZDb (Z3 f26)):=fun _ _ _ _=>by kernel_rfl
theorem ZHy:Zk Tryz.prog 52 (ZDb ZE):=okF (ZGx ZN) Tryz.func52 Zf (Zo _ (.cons ZHz .nil) .nil .nil .nil (Zp _))
noncomputable abbrev ZDa (f:Zyv):Ze:=⟨[.one (.P),.one (.S),.one (.L)],[.one (.B)],fun t K _ h=>f t.1 t.2.1 t.2.2.1 (fun r0 h=>K (r0,()) h) h⟩
noncomputable abbrev ZIS:Cfg:=ZG Tryz.prog [] 54 [] [] [] ZH
theorem ZGw:ZI (ZIS) Tryz.f55 (.seq (.leaf) (.seq (.leaf) (.seq (.seq (.leaf) (.block (.loop [20] [.one (.I .i64)] [(9,9),(11,11),(21,39)] (.seq (.leaf) (.seq (.leaf) (.seq (.block (.seq (.leaf) (.seq (.leaf) (.block (.loop [27] [.one (.I .i64)] [(11,11),(28,38)] (.leaf)))))) (.leaf))))))) (.seq (.seq (.leaf) (.block (.loop [42] [.one (.I .i64)] [(6,6),(13,13),(43,53)] (.leaf)))) (.leaf))))) (ZDa Zcw):=fun _ _ _ _=>by kernel_rfl
theorem ZHx:Zk Tryz.prog 55 (ZDa Zaa):=okF (ZGw) Tryz.func55 Zf (Zo _ .nil .nil .nil .nil (Zp _))
noncomputable abbrev ZC9 (f:Zyu):Ze:=⟨[.agg [.S,.L],.one (.P)],[.one (.B)],fun t K _ h=>f t.1 t.2.1 (fun r0 h=>K (r0,()) h) h⟩
noncomputable abbrev ZIR:Cfg:=ZG Tryz.prog [] 8 [] [] [] ZH
theorem ZGv:ZI (ZIR) Tryz.f91 (.leaf) (ZC9 ZbM):=fun _ _ _ _=>by kernel_rfl
theorem ZHw:Zk Tryz.prog 91 (ZC9 XC):=okF (ZGv) Tryz.func91 Zf (Zo _ .nil .nil .nil .nil (Zp _))
noncomputable abbrev ZC8 (f:Zyt):Ze:=⟨[.one (.L),.clo 91 [.P]],[.one (.I .i64)],fun t K _ h=>f t.1 t.2.1 (fun r0 h=>K (r0,()) h) h⟩
noncomputable abbrev ZIQ (f29:Zyu):Cfg:=ZG Tryz.prog [(91,ZC9 f29)] 19 [] [] [] ZH
theorem ZGu (f29:Zyu):ZI (ZIQ f29) Tryz.f90 (.seq (.leaf) (.seq (.seq (.leaf) (.block (.loop [8] [.one (.I .i64)] [(4,5),(9,18)] (.leaf)))) (.leaf))) (ZC8 (Z1 f29)):=fun _ _ _ _=>by kernel_rfl
theorem ZHv:Zk Tryz.prog 90 (ZC8 ZM):=okF (ZGu XC) Tryz.func90 Zf (Zo _ (.cons ZHw .nil) .nil .nil .nil (Zp _))
noncomputable abbrev ZxA (f:Zp5):Ze:=⟨[.one (.P),.one (.S)],[.one (.I .i64)],fun t K _ h=>f t.1 t.2.1 (fun r0 h=>K (r0,()) h) h⟩
noncomputable abbrev ZIP (f30:Zyt):Cfg:=ZG Tryz.prog [(90,ZC8 f30)] 11 [] [] [] ZH
theorem ZGt (f30:Zyt):ZI (ZIP f30) Tryz.f57 (.leaf) (ZxA (Zcx f30)):=fun _ _ _ _=>by kernel_rfl
theorem ZBs:Zk Tryz.prog 57 (ZxA Yy):=okF (ZGt ZM) Tryz.func57 Zf (Zo _ (.cons ZHv .nil) .nil .nil .nil (Zp _))
noncomputable abbrev ZC7 (f:Zys):Ze:=⟨[.one (.P),.one (.S),.one (.L)],[.one (.B)],fun t K _ h=>f t.1 t.2.1 t.2.2.1 (fun r0 h=>K (r0,()) h) h⟩
noncomputable abbrev ZIO (f31:Zp5):Cfg:=ZG Tryz.prog [(57,ZxA f31)] 84 [] [] [] ZH
theorem ZGs (f31:Zp5):ZI (ZIO f31) Tryz.f56 (.seq (.leaf) (.seq (.order (.take 0 (.take 1 (.take 2 (.take 3 (.take 4 (.take 7 (.take 8 (.take 9 (.take 5 (.take 6 (.take 10 (.take 11 (.take 12 (.take 13 (.take 14 .done)))))))))))))))) (.seq (.seq (.leaf) (.block (.loop [7,33] [.one (.I .i64),.one (.I .i64)] [(11,11),(34,46)] (.leaf)))) (.cut [8] [.one (.I .i64)] [(47,52)] (.leaf) (.seq (.seq (.leaf) (.block (.loop [9,55] [.one (.I .i64),.one (.I .i64)] [(13,15),(56,73)] (.seq (.leaf) (.seq (.leaf) (.seq (.block (.seq (.leaf) (.seq (.order (.take 0 (.take 1 (.take 2 (.take 4 (.take 3 (.take 5 (.fork 6 (.take 7 (.take 8 (.take 9 (.take 10 (.take 11 (.take 12 .done)))))) 10 (.take 6 (.take 7 (.take 8 (.take 9 (.take 11 (.take 12 .done)))))))))))))) (.leaf)))) (.leaf))))))) (.leaf)))))) (ZC7 (Zdc f31)):=fun _ _ _ _=>by kernel_rfl
theorem ZHu:Zk Tryz.prog 56 (ZC7 Zav):=okF (ZGs Yy) Tryz.func56 Zf (Zo _ (.cons ZBs .nil) .nil .nil .nil (Zp _))
noncomputable abbrev ZC6 (f:Zyr):Ze:=⟨[.one (.L)],[.one (.L)],fun t K _ h=>f t.1 (fun r0 h=>K (r0,()) h) h⟩
noncomputable abbrev ZIN:Cfg:=ZG Tryz.prog [] 8 [] [] [] ZH
theorem ZGr:ZI (ZIN) Tryz.f58 (.leaf) (ZC6 Y5):=fun _ _ _ _=>by kernel_rfl
theorem ZHt:Zk Tryz.prog 58 (ZC6 Ya):=okF (ZGr) Tryz.func58 Zf (Zo _ .nil .nil .nil .nil (Zp _))
noncomputable abbrev ZC5 (f:Zyq):Ze:=⟨[.one (.I .i64),.one (.I .i64)],[.one (.P),.one (.I .i64)],fun t K _ h=>f t.1 t.2.1 (fun r0 r1 h=>K (r0,r1,()) h) h⟩
noncomputable abbrev ZIM:Cfg:=ZG Tryz.prog [] 31 [] [] [] ZH
theorem ZGq:ZI (ZIM) Tryz.f92 (.leaf) (ZC5 Zgi):=fun _ _ _ _=>by kernel_rfl
theorem ZHs:Zk Tryz.prog 92 (ZC5 Zee):=okF (ZGq) Tryz.func92 Zf (Zo _ .nil .nil .nil .nil (Zp _))
noncomputable abbrev ZC4 (f:Zyp):Ze:=⟨[.one (.I .i64),.one (.I .i64)],[.one (.B)],fun t K _ h=>f t.1 t.2.1 (fun r0 h=>K (r0,()) h) h⟩
noncomputable abbrev ZIL:Cfg:=ZG Tryz.prog [] 12 [] [] [] ZH
theorem ZGp:ZI (ZIL) Tryz.f117 (.leaf) (ZC4 Ze5):=fun _ _ _ _=>by kernel_rfl
theorem ZHr:Zk Tryz.prog 117 (ZC4 ZcU):=okF (ZGp) Tryz.func117 Zf (Zo _ .nil .nil .nil .nil (Zp _))
noncomputable abbrev ZC3 (f:Zyo):Ze:=⟨[.one (.I .i64),.one (.I .i64),.one (.I .i64),.one (.I .i64),.one (.I .u64)],[.one (.P),.one (.I .i64)],fun t K _ h=>f t.1 t.2.1 t.2.2.1 t.2.2.2.1 t.2.2.2.2.1 (fun r0 r1 h=>K (r0,r1,()) h) h⟩
noncomputable abbrev ZIK (f35:Zyp):Cfg:=ZG Tryz.prog [(117,ZC4 f35)] 49 [] [] [] ZH
theorem ZGo (f35:Zyp):ZI (ZIK f35) Tryz.f93 (.leaf) (ZC3 (Zgk f35)):=fun _ _ _ _=>by kernel_rfl
theorem ZHq:Zk Tryz.prog 93 (ZC3 Zeg):=okF (ZGo ZcU) Tryz.func93 Zf (Zo _ (.cons ZHr .nil) .nil .nil .nil (Zp _))
noncomputable abbrev Zz0 (f:ZuQ):Ze:=⟨[.agg [.I .i64,.I .i64,.I .i64,.I .i64]],[.one (.V)],fun t K _ h=>f t.1 (fun r0 h=>K (r0,()) h) h⟩
noncomputable abbrev ZIJ (f34:Zyq) (f36:Zyo):Cfg:=ZG Tryz.prog [(92,ZC5 f34),(93,ZC3 f36)] 32 [] [] [] ZH
theorem ZGn (f34:Zyq) (f36:Zyo):ZI (ZIJ f34 f36) Tryz.f59 (.leaf) (Zz0 (ZfH f34 f36)):=fun _ _ _ _=>by kernel_rfl
theorem ZFh:Zk Tryz.prog 59 (Zz0 YY):=okF (ZGn Zee Zeg) Tryz.func59 Zf (Zo _ (.cons ZHs (.cons ZHq .nil)) .nil .nil .nil (Zp _))
noncomputable abbrev ZC2 (f:Zyn):Ze:=⟨[.one (.P),.one (.S),.one (.L)],[.one (.I .i64)],fun t K _ h=>f t.1 t.2.1 t.2.2.1 (fun r0 h=>K (r0,()) h) h⟩
noncomputable abbrev ZII (f22:ZyB) (f27:Zyw) (f28:Zyv) (f32:Zys) (f31:Zp5) (f33:Zyr) (f37:ZuQ):Cfg:=ZG Tryz.prog [(51,ZDg f22),(52,ZDb f27),(55,ZDa f28),(56,ZC7 f32),(57,ZxA f31),(58,ZC6 f33),(59,Zz0 f37)] 99 [] [] [] ZH
theorem ZGm (f22:ZyB) (f27:Zyw) (f28:Zyv) (f32:Zys) (f31:Zp5) (f33:Zyr) (f37:ZuQ):ZI (ZII f22 f27 f28 f32 f31 f33 f37) Tryz.f27 (.seq (.leaf) (.seq (.leaf) (.seq (.leaf) (.cut [7] [.one (.I .i64)] [(35,52)] (.leaf) (.seq (.order (.take 0 (.take 1 (.take 2 (.take 4 (.take 5 (.take 3 (.take 6 (.take 7 (.take 8 (.take 9 .done))))))))))) (.seq (.seq (.leaf) (.block (.loop [64] [.one (.I .i64)] [(9,11),(65,98)] (.seq (.leaf) (.seq (.leaf) (.seq (.block (.seq (.leaf) (.cut [10,11] [.one (.P),.one (.B)] [(68,77)] (.order (.take 0 (.take 1 (.take 2 (.take 4 (.take 3 (.take 5 (.fork 6 (.take 7 (.take 8 (.take 9 (.take 10 (.take 11 (.take 12 .done)))))) 10 (.take 6 (.take 7 (.take 8 (.take 9 (.take 11 (.take 12 .done)))))))))))))) (.seq (.leaf) (.cond (.order (.take 0 (.take 1 (.take 2 (.take 4 (.take 8 (.take 3 (.take 5 (.take 6 (.take 9 (.take 7 (.take 10 (.take 11 .done))))))))))))) (.leaf)))))) (.leaf))))))) (.leaf))))))) (ZC2 (Zdf f22 f27 f28 f32 f31 f33 f37)):=fun _ _ _ _=>by kernel_rfl
theorem ZHp:Zk Tryz.prog 27 (ZC2 Zaw):=okF (ZGm ZcW ZE Zaa Zav Yy Ya YY) Tryz.func27 Zf (Zo _ (.cons ZHD (.cons ZHy (.cons ZHx (.cons ZHu (.cons ZBs (.cons ZHt (.cons ZFh .nil))))))) .nil .nil .nil (Zp _))
noncomputable abbrev ZzZ (f:ZuP):Ze:=⟨[.one (.P),.one (.L)],[.one (.I .i64)],fun t K _ h=>f t.1 t.2.1 (fun r0 h=>K (r0,()) h) h⟩
noncomputable abbrev ZIH (f38:Zyn):Cfg:=ZG Tryz.prog [(27,ZC2 f38)] 14 [] [] [] ZH
theorem ZGl (f38:Zyn):ZI (ZIH f38) Tryz.f9 (.leaf) (ZzZ (ZaH f38)):=fun _ _ _ _=>by kernel_rfl
theorem ZFg:Zk Tryz.prog 9 (ZzZ Yx):=okF (ZGl Zaw) Tryz.func9 Zf (Zo _ (.cons ZHp .nil) .nil .nil .nil (Zp _))
noncomputable abbrev ZC1 (f:Zym):Ze:=⟨[.one (.I .u8)],[.agg [.V,.B],.one (.B)],fun t K _ h=>f t.1 (fun r0 r1 h=>K (r0,r1,()) h) h⟩
noncomputable abbrev ZIG:Cfg:=ZG Tryz.prog [] 25 [] [] [] ZH
theorem ZGk:ZI (ZIG) Tryz.f28 (.leaf) (ZC1 Zel):=fun _ _ _ _=>by kernel_rfl
theorem ZHo:Zk Tryz.prog 28 (ZC1 ZbF):=okF (ZGk) Tryz.func28 Zf (Zo _ .nil .nil .nil .nil (Zp _))
noncomputable abbrev Zw8 (f:Zoj):Ze:=⟨[.one (.P),.one (.I .i64)],[.one (.P)],fun t K _ h=>f t.1 t.2.1 (fun r0 h=>K (r0,()) h) h⟩
noncomputable abbrev ZIF:Cfg:=ZG Tryz.prog [] 28 [] [] [] ZH
theorem ZGj:ZI (ZIF) Tryz.f29 (.leaf) (Zw8 XJ):=fun _ _ _ _=>by kernel_rfl
theorem ZzI:Zk Tryz.prog 29 (Zw8 ZS):=okF (ZGj) Tryz.func29 Zf (Zo _ .nil .nil .nil .nil (Zp _))
noncomputable abbrev ZC0 (f:Zyl):Ze:=⟨[.one (.P),.agg [.I .u8,.I .i64,.I .i64,.I .i64,.I .i64,.I .u8,.I .i64,.I .i64,.S,.I .i64]],[.agg [.I .i64,.B,.I .i64]],fun t K _ h=>f t.1 t.2.1 (fun r0 h=>K (r0,()) h) h⟩
noncomputable abbrev ZIE (f19:ZuR):Cfg:=ZG Tryz.prog [(26,Zz1 f19)] 49 [] [] [] ZH
theorem ZGi (f19:ZuR):ZI (ZIE f19) Tryz.f60 (.seq (.leaf) (.seq (.leaf) (.seq (.leaf) (.seq (.seq (.leaf) (.block (.loop [36] [.one (.I .i64)] [(6,6),(37,47)] (.seq (.leaf) (.seq (.leaf) (.seq (.block (.seq (.leaf) (.order (.take 0 (.take 2 (.take 3 (.take 4 (.take 1 (.take 5 (.take 6 .done)))))))))) (.leaf))))))) (.leaf))))) (ZC0 (ZcG f19)):=fun _ _ _ _=>by kernel_rfl
theorem ZHn:Zk Tryz.prog 60 (ZC0 Xw):=okF (ZGi Y4) Tryz.func60 Zf (Zo _ (.cons ZFi .nil) .nil .nil .nil (Zp _))
noncomputable abbrev ZzY (f:ZuO):Ze:=⟨[.one (.P),.one (.L)],[],fun t K _ h=>f t.1 t.2.1 (fun h=>K (()) h) h⟩
noncomputable abbrev ZID:Cfg:=ZG Tryz.prog [] 31 [] [] [] ZH
theorem ZGh:ZI (ZID) Tryz.f154 (.seq (.leaf) (.block (.loop [9] [.one (.I .i64)] [(5,6),(10,30)] (.seq (.leaf) (.seq (.leaf) (.seq (.block (.seq (.leaf) (.seq (.leaf) (.block (.loop [6] [.one (.I .i64)] [(13,29)] (.seq (.leaf) (.seq (.block (.order (.take 0 (.take 1 (.take 2 (.take 3 (.take 5 (.take 6 (.take 7 (.take 8 (.take 4 (.take 9 (.take 10 (.take 11 (.take 12 (.take 13 .done)))))))))))))))) (.leaf)))))))) (.leaf))))))) (ZzY ZbQ):=fun _ _ _ _=>by kernel_rfl
theorem ZFf:Zk Tryz.prog 154 (ZzY YI):=okF (ZGh) Tryz.func154 Zf (Zo _ .nil .nil .nil .nil (Zp _))
noncomputable abbrev ZCZ (f:Zyk):Ze:=⟨[.agg [.I .i64,.I .u8,.I .i64,.I .i64,.S,.I .i64]],[.one (.L),.one (.I .i64)],fun t K _ h=>f t.1 (fun r0 r1 h=>K (r0,r1,()) h) h⟩
noncomputable abbrev ZIC (f10:ZlY) (f43:ZuO):Cfg:=ZG Tryz.prog [(47,Zwe f10),(154,ZzY f43)] 33 [] [] [] ZH
theorem ZGg (f10:ZlY) (f43:ZuO):ZI (ZIC f10 f43) Tryz.f170 (.seq (.leaf) (.seq (.leaf) (.seq (.leaf) (.seq (.leaf) (.seq (.order (.take 0 (.take 2 (.take 8 (.take 1 (.take 3 (.take 4 (.take 5 (.take 9 (.take 6 (.take 7 (.take 10 (.take 11 (.take 12 .done)))))))))))))) (.leaf)))))) (ZCZ (ZeL f10 f43)):=fun _ _ _ _=>by kernel_rfl
theorem ZHm:Zk Tryz.prog 170 (ZCZ Zb2):=okF (ZGg YZ YI) Tryz.func170 Zf (Zo _ (.cons Zxx (.cons ZFf .nil)) .nil .nil .nil (Zp _))
noncomputable abbrev ZzX (f:ZuN):Ze:=⟨[.one (.L)],[.one (.L),.one (.I .i64)],fun t K _ h=>f t.1 (fun r0 r1 h=>K (r0,r1,()) h) h⟩
noncomputable abbrev ZIB:Cfg:=ZG Tryz.prog [] 27 [] [] [] ZH
theorem ZGf:ZI (ZIB) Tryz.f133 (.leaf) (ZzX ZfM):=fun _ _ _ _=>by kernel_rfl
theorem ZFe:Zk Tryz.prog 133 (ZzX Zbz):=okF (ZGf) Tryz.func133 Zf (Zo _ .nil .nil .nil .nil (Zp _))
noncomputable abbrev ZCY (f:Zyj):Ze:=⟨[.one (.L)],[.one (.L),.one (.I .i64)],fun t K _ h=>f t.1 (fun r0 r1 h=>K (r0,r1,()) h) h⟩
noncomputable abbrev ZIA (f45:ZuN):Cfg:=ZG Tryz.prog [(133,ZzX f45)] 28 [] [] [] ZH
theorem ZGe (f45:ZuN):ZI (ZIA f45) Tryz.f171 (.seq (.leaf) (.seq (.leaf) (.seq (.seq (.leaf) (.block (.loop [4,11] [.one (.L),.one (.I .i64)] [(2,3),(6,8),(12,26)] (.leaf)))) (.leaf)))) (ZCY (Zfb f45)):=fun _ _ _ _=>by kernel_rfl
theorem ZHl:Zk Tryz.prog 171 (ZCY Zc0):=okF (ZGe Zbz) Tryz.func171 Zf (Zo _ (.cons ZFe .nil) .nil .nil .nil (Zp _))
noncomputable abbrev ZCX (f:Zyi):Ze:=⟨[.one (.L)],[.one (.L),.one (.I .i64)],fun t K _ h=>f t.1 (fun r0 r1 h=>K (r0,r1,()) h) h⟩
noncomputable abbrev ZIz (f44:Zyk) (f46:Zyj):Cfg:=ZG Tryz.prog [(170,ZCZ f44),(171,ZCY f46)] 32 [] [] [] ZH
theorem ZGd (f44:Zyk) (f46:Zyj):ZI (ZIz f44 f46) Tryz.f148 (.seq (.leaf) (.seq (.leaf) (.seq (.seq (.leaf) (.block (.loop [4,11] [.one (.L),.one (.I .i64)] [(2,3),(6,8),(12,27)] (.leaf)))) (.leaf)))) (ZCX (Zg0 f44 f46)):=fun _ _ _ _=>by kernel_rfl
theorem ZHk:Zk Tryz.prog 148 (ZCX ZeI):=okF (ZGd Zb2 Zc0) Tryz.func148 Zf (Zo _ (.cons ZHm (.cons ZHl .nil)) .nil .nil .nil (Zp _))
noncomputable abbrev ZzW (f:ZuM):Ze:=⟨[.one (.P),.agg [.I .i64,.I .u8,.I .i64,.I .i64,.S,.I .i64]],[],fun t K _ h=>f t.1 t.2.1 (fun h=>K (()) h) h⟩
noncomputable abbrev ZIy (f47:Zyi):Cfg:=ZG Tryz.prog [(148,ZCX f47)] 21 [] [] [] ZH
theorem ZGc (f47:Zyi):ZI (ZIy f47) Tryz.f119 (.leaf) (ZzW (Zch f47)):=fun _ _ _ _=>by kernel_rfl
theorem ZFd:Zk Tryz.prog 119 (ZzW YT):=okF (ZGc ZeI) Tryz.func119 Zf (Zo _ (.cons ZHk .nil) .nil .nil .nil (Zp _))
noncomputable abbrev ZCW (f:Zyh):Ze:=⟨[.one (.P),.one (.P),.one (.P),.one (.P),.one (.P)],[.one (.I .i64)],fun t K _ h=>f t.1 t.2.1 t.2.2.1 t.2.2.2.1 t.2.2.2.2.1 (fun r0 h=>K (r0,()) h) h⟩
noncomputable abbrev ZIx (f10:ZlY) (f48:ZuM):Cfg:=ZG Tryz.prog [(47,Zwe f10),(119,ZzW f48)] 55 [] [] [] ZH
theorem ZGb (f10:ZlY) (f48:ZuM):ZI (ZIx f10 f48) Tryz.f118 (.seq (.leaf) (.seq (.leaf) (.seq (.leaf) (.seq (.order (.take 0 (.take 1 (.take 2 (.take 3 (.take 4 (.take 5 (.take 6 (.take 7 (.take 8 (.take 9 (.take 10 .done)))))))))))) (.seq (.leaf) (.seq (.order (.take 0 (.take 1 (.take 2 (.take 3 (.take 4 (.take 5 (.take 6 .done)))))))) (.leaf))))))) (ZCW (Zcj f10 f48)):=fun _ _ _ _=>by kernel_rfl
theorem ZHj:Zk Tryz.prog 118 (ZCW XY):=okF (ZGb YZ YT) Tryz.func118 Zf (Zo _ (.cons Zxx (.cons ZFd .nil)) .nil .nil .nil (Zp _))
noncomputable abbrev ZCV (f:Zyg):Ze:=⟨[.one (.P),.one (.I .i64),.clo 118 [.P,.P,.P,.P,.P]],[.one (.I .i64)],fun t K _ h=>f t.1 t.2.1 t.2.2.1 (fun r0 h=>K (r0,()) h) h⟩
noncomputable abbrev ZIw (f15:Zhc) (f16:Zid) (f49:Zyh):Cfg:=ZG Tryz.prog [(33,Zp1 f15),(86,ZsZ f16),(118,ZCW f49)] 57 [] [] [] ZH
theorem ZGa (f15:Zhc) (f16:Zid) (f49:Zyh):ZI (ZIw f15 f16 f49) Tryz.f49 (.seq (.leaf) (.seq (.leaf) (.seq (.leaf) (.seq (.seq (.leaf) (.block (.loop [33] [.one (.I .i64)] [(8,8),(34,54)] (.seq (.leaf) (.seq (.leaf) (.seq (.block (.seq (.leaf) (.seq (.order (.take 0 (.take 1 (.take 2 (.take 3 (.take 5 (.take 8 (.take 9 (.take 10 (.take 11 (.take 4 (.take 12 (.take 6 (.take 7 (.take 13 .done))))))))))))))) (.leaf)))) (.leaf))))))) (.leaf))))) (ZCV (XZ f15 f16 f49)):=fun _ _ _ _=>by kernel_rfl
theorem ZHi:Zk Tryz.prog 49 (ZCV Ys):=okF (ZGa Zi Zr XY) Tryz.func49 Zf (Zo _ (.cons Zs3 (.cons Zux (.cons ZHj .nil))) .nil .nil .nil (Zp _))
noncomputable abbrev ZCU (f:Zyf):Ze:=⟨[.one (.P),.one (.I .i64),.agg [.I .i64,.I .u8,.I .i64,.I .i64,.S,.I .i64]],[.one (.I .i64),.one (.B),.one (.I .i64)],fun t K _ h=>f t.1 t.2.1 t.2.2.1 (fun r0 r1 r2 h=>K (r0,r1,r2,()) h) h⟩
noncomputable abbrev ZIv (f50:Zyg):Cfg:=ZG Tryz.prog [(49,ZCV f50)] 16 [] [] [] ZH
theorem ZF9 (f50:Zyg):ZI (ZIv f50) Tryz.f94 (.seq (.leaf) (.seq (.leaf) (.seq (.order (.take 2 (.take 0 (.take 1 (.take 3 (.take 4 (.take 5 .done))))))) (.leaf)))) (ZCU (Zdn f50)):=fun _ _ _ _=>by kernel_rfl
theorem ZHh:Zk Tryz.prog 94 (ZCU ZaB):=okF (ZF9 Ys) Tryz.func94 Zf (Zo _ (.cons ZHi .nil) .nil .nil .nil (Zp _))
noncomputable abbrev Zuy (f:Zj5):Ze:=⟨[.one (.P)],[.one (.B)],fun t K _ h=>f t.1 (fun r0 h=>K (r0,()) h) h⟩
noncomputable abbrev ZIu:Cfg:=ZG Tryz.prog [] 11 [] [] [] ZH
theorem ZF8:ZI (ZIu) Tryz.f40 (.leaf) (Zuy Za9):=fun _ _ _ _=>by kernel_rfl
theorem Zw6:Zk Tryz.prog 40 (Zuy ZF):=okF (ZF8) Tryz.func40 Zf (Zo _ .nil .nil .nil .nil (Zp _))
noncomputable abbrev ZCT (f:Zye):Ze:=⟨[.one (.P)],[.one (.L)],fun t K _ h=>f t.1 (fun r0 h=>K (r0,()) h) h⟩
noncomputable abbrev ZIt:Cfg:=ZG Tryz.prog [] 14 [] [] [] ZH
theorem ZF7:ZI (ZIt) Tryz.f120 (.leaf) (ZCT Zep):=fun _ _ _ _=>by kernel_rfl
theorem ZHg:Zk Tryz.prog 120 (ZCT Zbe):=okF (ZF7) Tryz.func120 Zf (Zo _ .nil .nil .nil .nil (Zp _))
noncomputable abbrev Zw7 (f:Zoi):Ze:=⟨[.one (.P),.one (.I .i64),.one (.I .i64),.one (.I .i64)],[.one (.P),.one (.I .i64)],fun t K _ h=>f t.1 t.2.1 t.2.2.1 t.2.2.2.1 (fun r0 r1 h=>K (r0,r1,()) h) h⟩
noncomputable abbrev ZIs:Cfg:=ZG Tryz.prog [] 53 [] [] [] ZH
theorem ZF6:ZI (ZIs) Tryz.f74 (.leaf) (Zw7 ZeK):=fun _ _ _ _=>by kernel_rfl
theorem ZzH:Zk Tryz.prog 74 (Zw7 YG):=okF (ZF6) Tryz.func74 Zf (Zo _ .nil .nil .nil .nil (Zp _))
noncomputable abbrev ZzV (f:ZuL):Ze:=⟨[.one (.P),.one (.I .i64),.one (.I .i64),.one (.L)],[.one (.I .i64)],fun t K _ h=>f t.1 t.2.1 t.2.2.1 t.2.2.2.1 (fun r0 h=>K (r0,()) h) h⟩
noncomputable abbrev ZIr (f54:Zoi):Cfg:=ZG Tryz.prog [(74,Zw7 f54)] 51 [] [] [] ZH
theorem ZF5 (f54:Zoi):ZI (ZIr f54) Tryz.f121 (.leaf) (ZzV (ZdJ f54)):=fun _ _ _ _=>by kernel_rfl
theorem ZFc:Zk Tryz.prog 121 (ZzV Xq):=okF (ZF5 YG) Tryz.func121 Zf (Zo _ (.cons ZzH .nil) .nil .nil .nil (Zp _))
noncomputable abbrev ZzU (f:ZuK):Ze:=⟨[.one (.P),.one (.L)],[.one (.I .i64)],fun t K _ h=>f t.1 t.2.1 (fun r0 h=>K (r0,()) h) h⟩
noncomputable abbrev ZIq (f54:Zoi):Cfg:=ZG Tryz.prog [(74,Zw7 f54)] 69 [] [] [] ZH
theorem ZF4 (f54:Zoi):ZI (ZIq f54) Tryz.f124 (.seq (.leaf) (.seq (.leaf) (.seq (.leaf) (.seq (.leaf) (.seq (.seq (.leaf) (.block (.loop [6,18] [.one (.B),.one (.I .i64)] [(4,4),(8,10),(19,43)] (.leaf)))) (.seq (.leaf) (.seq (.seq (.leaf) (.block (.loop [47] [.one (.I .i64)] [(12,12),(48,68)] (.seq (.leaf) (.seq (.leaf) (.seq (.block (.seq (.leaf) (.order (.take 0 (.take 1 (.take 2 (.take 4 (.take 5 (.take 6 (.take 7 (.take 8 (.take 10 (.take 11 (.take 3 (.take 9 (.take 12 (.take 13 (.take 14 (.take 15 (.take 16 (.take 17 .done))))))))))))))))))))) (.leaf))))))) (.leaf)))))))) (ZzU (ZdL f54)):=fun _ _ _ _=>by kernel_rfl
theorem ZFb:Zk Tryz.prog 124 (ZzU Xr):=okF (ZF4 YG) Tryz.func124 Zf (Zo _ (.cons ZzH .nil) .nil .nil .nil (Zp _))
noncomputable abbrev ZCS (f:Zyd):Ze:=⟨[.one (.P),.one (.I .i64)],[.one (.I .i64)],fun t K _ h=>f t.1 t.2.1 (fun r0 h=>K (r0,()) h) h⟩
noncomputable abbrev ZIp:Cfg:=ZG Tryz.prog [] 25 [] [] [] ZH
theorem ZF3:ZI (ZIp) Tryz.f134 (.leaf) (ZCS ZcA):=fun _ _ _ _=>by kernel_rfl
theorem ZHf:Zk Tryz.prog 134 (ZCS Zac):=okF (ZF3) Tryz.func134 Zf (Zo _ .nil .nil .nil .nil (Zp _))
noncomputable abbrev ZCR (f:Zyc):Ze:=⟨[.one (.P)],[],fun t K _ h=>f t.1 (fun h=>K (()) h) h⟩
noncomputable abbrev ZIo:Cfg:=ZG Tryz.prog [] 10 [] [] [] ZH
theorem ZF2:ZI (ZIo) Tryz.f156 (.leaf) (ZCR ZcF):=fun _ _ _ _=>by kernel_rfl
theorem ZHe:Zk Tryz.prog 156 (ZCR Zae):=okF (ZF2) Tryz.func156 Zf (Zo _ .nil .nil .nil .nil (Zp _))
noncomputable abbrev ZzT (f:ZuJ):Ze:=⟨[.one (.P)],[],fun t K _ h=>f t.1 (fun h=>K (()) h) h⟩
noncomputable abbrev ZIn:Cfg:=ZG Tryz.prog [] 28 [] [] [] ZH
theorem ZF1:ZI (ZIn) Tryz.f126 (.seq (.order (.take 0 (.take 1 (.take 2 (.take 3 (.take 5 (.take 6 (.take 7 (.take 4 (.take 8 (.take 9 (.take 10 (.take 11 (.take 12 .done)))))))))))))) (.order (.take 0 (.take 1 (.take 2 (.take 3 (.take 6 (.take 7 (.take 8 (.take 9 (.take 4 (.take 5 (.take 10 (.take 11 (.take 12 (.take 13 (.take 14 .done))))))))))))))))) (ZzT ZbS):=fun _ _ _ _=>by kernel_rfl
theorem ZFa:Zk Tryz.prog 126 (ZzT YJ):=okF (ZF1) Tryz.func126 Zf (Zo _ .nil .nil .nil .nil (Zp _))
noncomputable abbrev ZzS (f:ZuI):Ze:=⟨[.one (.P)],[],fun t K _ h=>f t.1 (fun h=>K (()) h) h⟩
noncomputable abbrev ZIm (f15:Zhc) (f16:Zid) (f58:Zyc) (f59:ZuJ):Cfg:=ZG Tryz.prog [(33,Zp1 f15),(86,ZsZ f16),(156,ZCR f58),(126,ZzT f59)] 28 [] [] [] ZH
theorem ZF0 (f15:Zhc) (f16:Zid) (f58:Zyc) (f59:ZuJ):ZI (ZIm f15 f16 f58 f59) Tryz.f139 (.seq (.leaf) (.seq (.seq (.leaf) (.block (.loop [10] [.one (.I .i64)] [(3,3),(11,17)] (.leaf)))) (.leaf))) (ZzS (ZcM f15 f16 f58 f59)):=fun _ _ _ _=>by kernel_rfl
theorem ZE9:Zk Tryz.prog 139 (ZzS Y3):=okF (ZF0 Zi Zr Zae YJ) Tryz.func139 Zf (Zo _ (.cons Zs3 (.cons Zux (.cons ZHe (.cons ZFa .nil)))) .nil .nil .nil (Zp _))
noncomputable abbrev ZCQ (f:Zyb):Ze:=⟨[.one (.P)],[.one (.I .i64)],fun t K _ h=>f t.1 (fun r0 h=>K (r0,()) h) h⟩
noncomputable abbrev ZIl (f60:ZuI):Cfg:=ZG Tryz.prog [(139,ZzS f60)] 9 [] [] [] ZH
theorem ZFZ (f60:ZuI):ZI (ZIl f60) Tryz.f155 (.leaf) (ZCQ (ZbU f60)):=fun _ _ _ _=>by kernel_rfl
theorem ZHd:Zk Tryz.prog 155 (ZCQ XG):=okF (ZFZ Y3) Tryz.func155 Zf (Zo _ (.cons ZE9 .nil) .nil .nil .nil (Zp _))
noncomputable abbrev ZCP (f:Zya):Ze:=⟨[.one (.P),.one (.I .i64),.clo 155 [.P]],[.one (.I .i64)],fun t K _ h=>f t.1 t.2.1 t.2.2.1 (fun r0 h=>K (r0,()) h) h⟩
noncomputable abbrev ZIk (f15:Zhc) (f16:Zid) (f61:Zyb):Cfg:=ZG Tryz.prog [(33,Zp1 f15),(86,ZsZ f16),(155,ZCQ f61)] 57 [] [] [] ZH
theorem ZFY (f15:Zhc) (f16:Zid) (f61:Zyb):ZI (ZIk f15 f16 f61) Tryz.f49 (.seq (.leaf) (.seq (.leaf) (.seq (.leaf) (.seq (.seq (.leaf) (.block (.loop [33] [.one (.I .i64)] [(8,8),(34,54)] (.seq (.leaf) (.seq (.leaf) (.seq (.block (.seq (.leaf) (.seq (.order (.take 0 (.take 1 (.take 2 (.take 3 (.take 5 (.take 8 (.take 9 (.take 10 (.take 11 (.take 4 (.take 12 (.take 6 (.take 7 (.take 13 .done))))))))))))))) (.leaf)))) (.leaf))))))) (.leaf))))) (ZCP (XN f15 f16 f61)):=fun _ _ _ _=>by kernel_rfl
theorem ZHc:Zk Tryz.prog 49 (ZCP Yl):=okF (ZFY Zi Zr XG) Tryz.func49 Zf (Zo _ (.cons Zs3 (.cons Zux (.cons ZHd .nil))) .nil .nil .nil (Zp _))
noncomputable abbrev ZCO (f:Zx9):Ze:=⟨[.one (.P),.one (.I .i64)],[.one (.I .i64)],fun t K _ h=>f t.1 t.2.1 (fun r0 h=>K (r0,()) h) h⟩
noncomputable abbrev ZIj (f62:Zya):Cfg:=ZG Tryz.prog [(49,ZCP f62)] 9 [] [] [] ZH
theorem ZFX (f62:Zya):ZI (ZIj f62) Tryz.f135 (.leaf) (ZCO (ZcQ f62)):=fun _ _ _ _=>by kernel_rfl
theorem ZHb:Zk Tryz.prog 135 (ZCO Zah):=okF (ZFX Yl) Tryz.func135 Zf (Zo _ (.cons ZHc .nil) .nil .nil .nil (Zp _))
noncomputable abbrev Zvm (f:ZlG):Ze:=⟨[.one (.P),.one (.P)],[],fun t K _ h=>f t.1 t.2.1 (fun h=>K (()) h) h⟩
noncomputable abbrev ZIi (f56:ZuK) (f57:Zyd) (f52:Zj5) (f63:Zx9):Cfg:=ZG Tryz.prog [(124,ZzU f56),(134,ZCS f57),(40,Zuy f52),(135,ZCO f63)] 44 [] [] [] ZH
theorem ZFW (f56:ZuK) (f57:Zyd) (f52:Zj5) (f63:Zx9):ZI (ZIi f56 f57 f52 f63) Tryz.f103 (.seq (.leaf) (.seq (.leaf) (.seq (.leaf) (.seq (.leaf) (.seq (.leaf) (.seq (.leaf) (.cond (.order (.take 0 (.take 1 (.take 2 (.take 4 (.take 5 (.take 6 (.take 3 (.take 7 (.take 8 .done)))))))))) (.leaf)))))))) (Zvm (Zdl f56 f57 f52 f63)):=fun _ _ _ _=>by kernel_rfl
theorem Zxe:Zk Tryz.prog 103 (Zvm Z7):=okF (ZFW Xr Zac ZF Zah) Tryz.func103 Zf (Zo _ (.cons ZFb (.cons ZHf (.cons Zw6 (.cons ZHb .nil)))) .nil .nil .nil (Zp _))
noncomputable abbrev Zxz (f:Zp4):Ze:=⟨[.one (.P),.one (.P)],[],fun t K _ h=>f t.1 t.2.1 (fun h=>K (()) h) h⟩
noncomputable abbrev ZIh (f52:Zj5) (f53:Zye) (f55:ZuL) (f64:ZlG):Cfg:=ZG Tryz.prog [(40,Zuy f52),(120,ZCT f53),(121,ZzV f55),(103,Zvm f64)] 42 [] [] [] ZH
theorem ZFV (f52:Zj5) (f53:Zye) (f55:ZuL) (f64:ZlG):ZI (ZIh f52 f53 f55 f64) Tryz.f95 (.seq (.leaf) (.seq (.leaf) (.seq (.order (.take 0 (.take 1 (.take 2 (.take 3 (.take 4 (.take 5 (.take 6 (.take 8 (.take 9 (.take 10 (.take 12 (.take 7 (.take 11 (.take 13 (.take 14 (.take 15 .done))))))))))))))))) (.leaf)))) (Zxz (Zcd f52 f53 f55 f64)):=fun _ _ _ _=>by kernel_rfl
theorem ZBr:Zk Tryz.prog 95 (Zxz Yq):=okF (ZFV ZF Zbe Xq Z7) Tryz.func95 Zf (Zo _ (.cons Zw6 (.cons ZHg (.cons ZFc (.cons Zxe .nil)))) .nil .nil .nil (Zp _))
noncomputable abbrev ZCN (f:Zx8):Ze:=⟨[.one (.P),.agg [.I .u8,.I .i64,.I .i64,.I .i64,.I .i64,.I .u8,.I .i64,.I .i64,.S,.I .i64]],[.agg [.I .i64,.B,.I .i64]],fun t K _ h=>f t.1 t.2.1 (fun r0 h=>K (r0,()) h) h⟩
noncomputable abbrev ZIg (f51:Zyf) (f65:Zp4):Cfg:=ZG Tryz.prog [(94,ZCU f51),(95,Zxz f65)] 38 [] [] [] ZH
theorem ZFU (f51:Zyf) (f65:Zp4):ZI (ZIg f51 f65) Tryz.f61 (.seq (.leaf) (.seq (.leaf) (.seq (.order (.take 0 (.take 1 (.take 2 (.take 4 (.take 5 (.take 6 (.take 8 (.take 3 (.take 7 (.take 9 (.take 10 (.take 11 (.take 12 (.take 13 (.take 14 (.take 15 (.take 16 (.take 17 .done))))))))))))))))))) (.leaf)))) (ZCN (Zdm f51 f65)):=fun _ _ _ _=>by kernel_rfl
theorem ZHa:Zk Tryz.prog 61 (ZCN XM):=okF (ZFU ZaB Yq) Tryz.func61 Zf (Zo _ (.cons ZHh (.cons ZBr .nil)) .nil .nil .nil (Zp _))
noncomputable abbrev ZCM (f:Zx7):Ze:=⟨[.one (.P),.one (.P),.one (.P)],[.one (.I .i64)],fun t K _ h=>f t.1 t.2.1 t.2.2.1 (fun r0 h=>K (r0,()) h) h⟩
noncomputable abbrev ZIf:Cfg:=ZG Tryz.prog [] 17 [] [] [] ZH
theorem ZFT:ZI (ZIf) Tryz.f122 (.seq (.leaf) (.seq (.order (.take 0 (.take 1 (.take 2 (.take 3 (.take 4 (.take 5 (.take 6 (.take 7 (.take 8 (.take 9 (.take 10 (.take 11 (.take 12 (.take 13 .done))))))))))))))) (.leaf))) (ZCM ZbV):=fun _ _ _ _=>by kernel_rfl
theorem ZG9:Zk Tryz.prog 122 (ZCM XH):=okF (ZFT) Tryz.func122 Zf (Zo _ .nil .nil .nil .nil (Zp _))
noncomputable abbrev ZCL (f:Zx6):Ze:=⟨[.one (.P),.one (.I .i64),.clo 122 [.P,.P,.P]],[.one (.I .i64)],fun t K _ h=>f t.1 t.2.1 t.2.2.1 (fun r0 h=>K (r0,()) h) h⟩
noncomputable abbrev ZIe (f15:Zhc) (f16:Zid) (f67:Zx7):Cfg:=ZG Tryz.prog [(33,Zp1 f15),(86,ZsZ f16),(122,ZCM f67)] 57 [] [] [] ZH
theorem ZFS (f15:Zhc) (f16:Zid) (f67:Zx7):ZI (ZIe f15 f16 f67) Tryz.f49 (.seq (.leaf) (.seq (.leaf) (.seq (.leaf) (.seq (.seq (.leaf) (.block (.loop [33] [.one (.I .i64)] [(8,8),(34,54)] (.seq (.leaf) (.seq (.leaf) (.seq (.block (.seq (.leaf) (.seq (.order (.take 0 (.take 1 (.take 2 (.take 3 (.take 5 (.take 8 (.take 9 (.take 10 (.take 11 (.take 4 (.take 12 (.take 6 (.take 7 (.take 13 .done))))))))))))))) (.leaf)))) (.leaf))))))) (.leaf))))) (ZCL (XO f15 f16 f67)):=fun _ _ _ _=>by kernel_rfl
theorem ZG8:Zk Tryz.prog 49 (ZCL Ym):=okF (ZFS Zi Zr XH) Tryz.func49 Zf (Zo _ (.cons Zs3 (.cons Zux (.cons ZG9 .nil))) .nil .nil .nil (Zp _))
noncomputable abbrev ZCK (f:Zx5):Ze:=⟨[.one (.P),.one (.I .i64)],[.one (.B),.one (.I .i64)],fun t K _ h=>f t.1 t.2.1 (fun r0 r1 h=>K (r0,r1,()) h) h⟩
noncomputable abbrev ZId (f68:Zx6):Cfg:=ZG Tryz.prog [(49,ZCL f68)] 12 [] [] [] ZH
theorem ZFR (f68:Zx6):ZI (ZId f68) Tryz.f96 (.leaf) (ZCK (ZcR f68)):=fun _ _ _ _=>by kernel_rfl
theorem ZG7:Zk Tryz.prog 96 (ZCK Zai):=okF (ZFR Ym) Tryz.func96 Zf (Zo _ (.cons ZG8 .nil) .nil .nil .nil (Zp _))
noncomputable abbrev ZCJ (f:Zx4):Ze:=⟨[.one (.P)],[.one (.L)],fun t K _ h=>f t.1 (fun r0 h=>K (r0,()) h) h⟩
noncomputable abbrev ZIc:Cfg:=ZG Tryz.prog [] 28 [] [] [] ZH
theorem ZFQ:ZI (ZIc) Tryz.f149 (.seq (.leaf) (.seq (.leaf) (.seq (.leaf) (.seq (.seq (.leaf) (.block (.loop [3,13] [.one (.L),.one (.I .i64)] [(4,5),(14,26)] (.leaf)))) (.leaf))))) (ZCJ ZdK):=fun _ _ _ _=>by kernel_rfl
theorem ZG6:Zk Tryz.prog 149 (ZCJ ZaT):=okF (ZFQ) Tryz.func149 Zf (Zo _ .nil .nil .nil .nil (Zp _))
noncomputable abbrev ZCI (f:Zx3):Ze:=⟨[.one (.P),.one (.I .i64)],[.one (.I .i64),.one (.I .i64)],fun t K _ h=>f t.1 t.2.1 (fun r0 r1 h=>K (r0,r1,()) h) h⟩
noncomputable abbrev ZIb (f6:zT6) (f70:Zx4):Cfg:=ZG Tryz.prog [(46,zk6 f6),(149,ZCJ f70)] 43 [] [] [] ZH
theorem ZFP (f6:zT6) (f70:Zx4):ZI (ZIb f6 f70) Tryz.f123 (.leaf) (ZCI (Zd9 f6 f70)):=fun _ _ _ _=>by kernel_rfl
theorem ZG5:Zk Tryz.prog 123 (ZCI Zbm):=okF (ZFP Yn ZaT) Tryz.func123 Zf (Zo _ (.cons zo6 (.cons ZG6 .nil)) .nil .nil .nil (Zp _))
noncomputable abbrev ZzR (f:ZuH):Ze:=⟨[.one (.P),.one (.I .i64)],[.one (.I .i64)],fun t K _ h=>f t.1 t.2.1 (fun r0 h=>K (r0,()) h) h⟩
noncomputable abbrev ZIa:Cfg:=ZG Tryz.prog [] 38 [] [] [] ZH
theorem ZFO:ZI (ZIa) Tryz.f36 (.leaf) (ZzR Zde):=fun _ _ _ _=>by kernel_rfl
theorem ZE8:Zk Tryz.prog 36 (ZzR Xd):=okF (ZFO) Tryz.func36 Zf (Zo _ .nil .nil .nil .nil (Zp _))
noncomputable abbrev ZCH (f:Zx2):Ze:=⟨[.one (.P)],[.one (.I .i64)],fun t K _ h=>f t.1 (fun r0 h=>K (r0,()) h) h⟩
noncomputable abbrev ZH9 (f71:Zx3) (f72:ZuH) (f56:ZuK):Cfg:=ZG Tryz.prog [(123,ZCI f71),(36,ZzR f72),(124,ZzU f56)] 35 [] [] [] ZH
theorem ZFN (f71:Zx3) (f72:ZuH) (f56:ZuK):ZI (ZH9 f71 f72 f56) Tryz.f97 (.leaf) (ZCH (Za6 f71 f72 f56)):=fun _ _ _ _=>by kernel_rfl
theorem ZG4:Zk Tryz.prog 97 (ZCH Y8):=okF (ZFN Zbm Xd Xr) Tryz.func97 Zf (Zo _ (.cons ZG5 (.cons ZE8 (.cons ZFb .nil))) .nil .nil .nil (Zp _))
noncomputable abbrev ZCG (f:Zx1):Ze:=⟨[.one (.P)],[.one (.I .i64)],fun t K _ h=>f t.1 (fun r0 h=>K (r0,()) h) h⟩
noncomputable abbrev ZH8 (f59:ZuJ):Cfg:=ZG Tryz.prog [(126,ZzT f59)] 8 [] [] [] ZH
theorem ZFM (f59:ZuJ):ZI (ZH8 f59) Tryz.f125 (.leaf) (ZCG (Za8 f59)):=fun _ _ _ _=>by kernel_rfl
theorem ZG3:Zk Tryz.prog 125 (ZCG Y9):=okF (ZFM YJ) Tryz.func125 Zf (Zo _ (.cons ZFa .nil) .nil .nil .nil (Zp _))
noncomputable abbrev ZCF (f:Zx0):Ze:=⟨[.one (.P),.one (.I .i64),.clo 125 [.P]],[.one (.I .i64)],fun t K _ h=>f t.1 t.2.1 t.2.2.1 (fun r0 h=>K (r0,()) h) h⟩
noncomputable abbrev ZH7 (f15:Zhc) (f16:Zid) (f74:Zx1):Cfg:=ZG Tryz.prog [(33,Zp1 f15),(86,ZsZ f16),(125,ZCG f74)] 57 [] [] [] ZH
theorem ZFL (f15:Zhc) (f16:Zid) (f74:Zx1):ZI (ZH7 f15 f16 f74) Tryz.f49 (.seq (.leaf) (.seq (.leaf) (.seq (.leaf) (.seq (.seq (.leaf) (.block (.loop [33] [.one (.I .i64)] [(8,8),(34,54)] (.seq (.leaf) (.seq (.leaf) (.seq (.block (.seq (.leaf) (.seq (.order (.take 0 (.take 1 (.take 2 (.take 3 (.take 5 (.take 8 (.take 9 (.take 10 (.take 11 (.take 4 (.take 12 (.take 6 (.take 7 (.take 13 .done))))))))))))))) (.leaf)))) (.leaf))))))) (.leaf))))) (ZCF (Xv f15 f16 f74)):=fun _ _ _ _=>by kernel_rfl
theorem ZG2:Zk Tryz.prog 49 (ZCF Yb):=okF (ZFL Zi Zr Y9) Tryz.func49 Zf (Zo _ (.cons Zs3 (.cons Zux (.cons ZG3 .nil))) .nil .nil .nil (Zp _))
noncomputable abbrev ZCE (f:ZxZ):Ze:=⟨[.one (.P),.one (.I .i64)],[.one (.I .i64)],fun t K _ h=>f t.1 t.2.1 (fun r0 h=>K (r0,()) h) h⟩
noncomputable abbrev ZH6 (f75:Zx0):Cfg:=ZG Tryz.prog [(49,ZCF f75)] 9 [] [] [] ZH
theorem ZFK (f75:Zx0):ZI (ZH6 f75) Tryz.f98 (.leaf) (ZCE (ZbC f75)):=fun _ _ _ _=>by kernel_rfl
theorem ZG1:Zk Tryz.prog 98 (ZCE Xt):=okF (ZFK Yb) Tryz.func98 Zf (Zo _ (.cons ZG2 .nil) .nil .nil .nil (Zp _))
noncomputable abbrev ZCD (f:ZxY):Ze:=⟨[.one (.P)],[.one (.I .i64)],fun t K _ h=>f t.1 (fun r0 h=>K (r0,()) h) h⟩
noncomputable abbrev ZH5 (f48:ZuM):Cfg:=ZG Tryz.prog [(119,ZzW f48)] 24 [] [] [] ZH
theorem ZFJ (f48:ZuM):ZI (ZH5 f48) Tryz.f127 (.seq (.leaf) (.seq (.leaf) (.seq (.order (.take 0 (.take 1 (.take 2 (.take 3 (.take 4 (.take 5 (.take 6 (.take 7 (.take 8 (.take 9 (.take 10 (.take 11 (.take 12 .done)))))))))))))) (.seq (.order (.take 0 (.take 1 (.take 2 (.take 3 (.take 4 (.take 5 (.take 6 .done)))))))) (.leaf))))) (ZCD (ZcN f48)):=fun _ _ _ _=>by kernel_rfl
theorem ZG0:Zk Tryz.prog 127 (ZCD Zaf):=okF (ZFJ YT) Tryz.func127 Zf (Zo _ (.cons ZFd .nil) .nil .nil .nil (Zp _))
noncomputable abbrev ZCC (f:ZxX):Ze:=⟨[.one (.P),.one (.I .i64),.clo 127 [.P]],[.one (.I .i64)],fun t K _ h=>f t.1 t.2.1 t.2.2.1 (fun r0 h=>K (r0,()) h) h⟩
noncomputable abbrev ZH4 (f15:Zhc) (f16:Zid) (f77:ZxY):Cfg:=ZG Tryz.prog [(33,Zp1 f15),(86,ZsZ f16),(127,ZCD f77)] 57 [] [] [] ZH
theorem ZFI (f15:Zhc) (f16:Zid) (f77:ZxY):ZI (ZH4 f15 f16 f77) Tryz.f49 (.seq (.leaf) (.seq (.leaf) (.seq (.leaf) (.seq (.seq (.leaf) (.block (.loop [33] [.one (.I .i64)] [(8,8),(34,54)] (.seq (.leaf) (.seq (.leaf) (.seq (.block (.seq (.leaf) (.seq (.order (.take 0 (.take 1 (.take 2 (.take 3 (.take 5 (.take 8 (.take 9 (.take 10 (.take 11 (.take 4 (.take 12 (.take 6 (.take 7 (.take 13 .done))))))))))))))) (.leaf)))) (.leaf))))))) (.leaf))))) (ZCC (X7 f15 f16 f77)):=fun _ _ _ _=>by kernel_rfl
theorem ZGZ:Zk Tryz.prog 49 (ZCC Yu):=okF (ZFI Zi Zr Zaf) Tryz.func49 Zf (Zo _ (.cons Zs3 (.cons Zux (.cons ZG0 .nil))) .nil .nil .nil (Zp _))
noncomputable abbrev ZCB (f:ZxW):Ze:=⟨[.one (.P),.one (.I .i64)],[.one (.I .i64)],fun t K _ h=>f t.1 t.2.1 (fun r0 h=>K (r0,()) h) h⟩
noncomputable abbrev ZH3 (f78:ZxX):Cfg:=ZG Tryz.prog [(49,ZCC f78)] 9 [] [] [] ZH
theorem ZFH (f78:ZxX):ZI (ZH3 f78) Tryz.f99 (.leaf) (ZCB (ZdP f78)):=fun _ _ _ _=>by kernel_rfl
theorem ZGY:Zk Tryz.prog 99 (ZCB ZaX):=okF (ZFH Yu) Tryz.func99 Zf (Zo _ (.cons ZGZ .nil) .nil .nil .nil (Zp _))
noncomputable abbrev ZCA (f:ZxV):Ze:=⟨[.one (.P),.agg [.I .u8,.I .i64,.I .i64,.I .i64,.I .i64,.I .u8,.I .i64,.I .i64,.S,.I .i64]],[.agg [.I .i64,.B,.I .i64]],fun t K _ h=>f t.1 t.2.1 (fun r0 h=>K (r0,()) h) h⟩
noncomputable abbrev ZH2 (f52:Zj5) (f69:Zx5) (f73:Zx2) (f76:ZxZ) (f11:ZuS) (f79:ZxW) (f65:Zp4):Cfg:=ZG Tryz.prog [(40,Zuy f52),(96,ZCK f69),(97,ZCH f73),(98,ZCE f76),(48,Zz2 f11),(99,ZCB f79),(95,Zxz f65)] 73 [] [] [] ZH
theorem ZFG (f52:Zj5) (f69:Zx5) (f73:Zx2) (f76:ZxZ) (f11:ZuS) (f79:ZxW) (f65:Zp4):ZI (ZH2 f52 f69 f73 f76 f11 f79 f65) Tryz.f62 (.seq (.leaf) (.seq (.leaf) (.seq (.leaf) (.seq (.seq (.order (.take 0 (.take 1 (.take 2 (.take 4 (.take 5 (.take 6 (.take 3 (.take 7 (.take 8 (.take 9 (.take 10 (.take 11 (.take 12 (.take 13 .done))))))))))))))) (.leaf)) (.seq (.leaf) (.seq (.seq (.leaf) (.cond (.seq (.order (.take 0 (.take 1 (.take 2 (.take 4 (.take 5 (.take 6 (.take 3 (.take 7 (.take 8 .done)))))))))) (.leaf)) (.leaf))) (.seq (.leaf) (.seq (.order (.take 0 (.take 1 (.take 2 (.take 4 (.take 5 (.take 6 (.take 3 (.take 7 (.take 8 .done)))))))))) (.leaf))))))))) (ZCA (ZcJ f52 f69 f73 f76 f11 f79 f65)):=fun _ _ _ _=>by kernel_rfl
theorem ZGX:Zk Tryz.prog 62 (ZCA Xz):=okF (ZFG ZF Zai Y8 Xt Zb3 ZaX Yq) Tryz.func62 Zf (Zo _ (.cons Zw6 (.cons ZG7 (.cons ZG4 (.cons ZG1 (.cons ZFj (.cons ZGY (.cons ZBr .nil))))))) .nil .nil .nil (Zp _))
noncomputable abbrev ZzQ (f:ZuG):Ze:=⟨[.one (.L)],[.one (.L)],fun t K _ h=>f t.1 (fun r0 h=>K (r0,()) h) h⟩
noncomputable abbrev ZH1:Cfg:=ZG Tryz.prog [] 8 [] [] [] ZH
theorem ZFF:ZI (ZH1) Tryz.f78 (.leaf) (ZzQ Za5):=fun _ _ _ _=>by kernel_rfl
theorem ZE7:Zk Tryz.prog 78 (ZzQ Yt):=okF (ZFF) Tryz.func78 Zf (Zo _ .nil .nil .nil .nil (Zp _))
noncomputable abbrev ZCz (f:ZxU):Ze:=⟨[.one (.P),.one (.I .i64),.one (.I .i64),.one (.I .i64)],[.one (.I .i64),.one (.I .i64)],fun t K _ h=>f t.1 t.2.1 t.2.2.1 t.2.2.2.1 (fun r0 r1 h=>K (r0,r1,()) h) h⟩
noncomputable abbrev ZH0 (f54:Zoi) (f81:ZuG):Cfg:=ZG Tryz.prog [(74,Zw7 f54),(78,ZzQ f81)] 62 [] [] [] ZH
theorem ZFE (f54:Zoi) (f81:ZuG):ZI (ZH0 f54 f81) Tryz.f128 (.seq (.leaf) (.seq (.leaf) (.seq (.leaf) (.seq (.leaf) (.seq (.leaf) (.seq (.order (.take 0 (.take 1 (.take 2 (.take 3 (.take 5 (.take 6 (.take 7 (.take 9 (.take 4 (.take 8 (.take 10 (.take 11 (.take 12 (.take 13 (.take 14 .done)))))))))))))))) (.leaf))))))) (ZCz (Zd8 f54 f81)):=fun _ _ _ _=>by kernel_rfl
theorem ZGW:Zk Tryz.prog 128 (ZCz Zbl):=okF (ZFE YG Yt) Tryz.func128 Zf (Zo _ (.cons ZzH (.cons ZE7 .nil)) .nil .nil .nil (Zp _))
noncomputable abbrev ZCy (f:ZxT):Ze:=⟨[.one (.P),.one (.I .i64),.one (.I .i64),.one (.I .i64)],[.one (.L),.one (.B),.one (.I .i64)],fun t K _ h=>f t.1 t.2.1 t.2.2.1 t.2.2.2.1 (fun r0 r1 r2 h=>K (r0,r1,r2,()) h) h⟩
noncomputable abbrev ZHZ (f54:Zoi) (f81:ZuG):Cfg:=ZG Tryz.prog [(74,Zw7 f54),(78,ZzQ f81)] 78 [] [] [] ZH
theorem ZFD (f54:Zoi) (f81:ZuG):ZI (ZHZ f54 f81) Tryz.f129 (.leaf) (ZCy (Zd7 f54 f81)):=fun _ _ _ _=>by kernel_rfl
theorem ZGV:Zk Tryz.prog 129 (ZCy Zbk):=okF (ZFD YG Yt) Tryz.func129 Zf (Zo _ (.cons ZzH (.cons ZE7 .nil)) .nil .nil .nil (Zp _))
noncomputable abbrev ZzP (f:ZuF):Ze:=⟨[.one (.P),.one (.P),.one (.I .i64),.one (.I .i64)],[.one (.L),.one (.I .i64)],fun t K _ h=>f t.1 t.2.1 t.2.2.1 t.2.2.2.1 (fun r0 r1 h=>K (r0,r1,()) h) h⟩
noncomputable abbrev ZHY (f52:Zj5) (f82:ZxU) (f83:ZxT):Cfg:=ZG Tryz.prog [(40,Zuy f52),(128,ZCz f82),(129,ZCy f83)] 57 [] [] [] ZH
theorem ZFC (f52:Zj5) (f82:ZxU) (f83:ZxT):ZI (ZHY f52 f82 f83) Tryz.f100 (.seq (.leaf) (.seq (.leaf) (.seq (.order (.take 0 (.take 1 (.take 2 (.take 4 (.take 5 (.take 6 (.take 8 (.take 9 (.take 3 (.take 7 (.take 10 .done)))))))))))) (.seq (.order (.take 0 (.take 1 (.take 2 (.take 4 (.take 5 (.take 6 (.take 8 (.take 9 (.take 3 (.take 7 (.take 10 (.take 11 (.take 12 (.take 13 (.take 14 (.take 15 (.take 16 (.take 17 .done))))))))))))))))))) (.leaf))))) (ZzP (Zce f52 f82 f83)):=fun _ _ _ _=>by kernel_rfl
theorem ZE6:Zk Tryz.prog 100 (ZzP YS):=okF (ZFC ZF Zbl Zbk) Tryz.func100 Zf (Zo _ (.cons Zw6 (.cons ZGW (.cons ZGV .nil))) .nil .nil .nil (Zp _))
noncomputable abbrev ZCx (f:ZxS):Ze:=⟨[.one (.L)],[.one (.L)],fun t K _ h=>f t.1 (fun r0 h=>K (r0,()) h) h⟩
noncomputable abbrev ZHX:Cfg:=ZG Tryz.prog [] 8 [] [] [] ZH
theorem ZFB:ZI (ZHX) Tryz.f81 (.leaf) (ZCx ZfO):=fun _ _ _ _=>by kernel_rfl
theorem ZGU:Zk Tryz.prog 81 (ZCx ZdE):=okF (ZFB) Tryz.func81 Zf (Zo _ .nil .nil .nil .nil (Zp _))
noncomputable abbrev ZCw (f:ZxR):Ze:=⟨[.one (.L)],[.one (.I .i64),.one (.B)],fun t K _ h=>f t.1 (fun r0 r1 h=>K (r0,r1,()) h) h⟩
noncomputable abbrev ZHW:Cfg:=ZG Tryz.prog [] 44 [] [] [] ZH
theorem ZFA:ZI (ZHW) Tryz.f130 (.seq (.leaf) (.seq (.leaf) (.seq (.seq (.leaf) (.block (.loop [4,13] [.one (.I .i64),.one (.I .i64)] [(6,6),(14,22)] (.leaf)))) (.cut [] [] [(2,3),(23,36)] (.leaf) (.leaf))))) (ZCw Zfa):=fun _ _ _ _=>by kernel_rfl
theorem ZGT:Zk Tryz.prog 130 (ZCw ZcZ):=okF (ZFA) Tryz.func130 Zf (Zo _ .nil .nil .nil .nil (Zp _))
noncomputable abbrev ZzO (f:ZuE):Ze:=⟨[.one (.P),.one (.L)],[.one (.L),.one (.I .i64)],fun t K _ h=>f t.1 t.2.1 (fun r0 r1 h=>K (r0,r1,()) h) h⟩
noncomputable abbrev ZHV (f85:ZxS) (f86:ZxR):Cfg:=ZG Tryz.prog [(81,ZCx f85),(130,ZCw f86)] 64 [] [] [] ZH
theorem ZFz (f85:ZxS) (f86:ZxR):ZI (ZHV f85 f86) Tryz.f101 (.seq (.leaf) (.seq (.leaf) (.seq (.leaf) (.seq (.leaf) (.cut [6,7] [.one (.L),.one (.L)] [(4,5),(8,9),(25,58)] (.block (.loop [6,7] [.one (.L),.one (.L)] [(4,5),(8,9),(25,58)] (.leaf))) (.leaf)))))) (ZzO (ZdO f85 f86)):=fun _ _ _ _=>by kernel_rfl
theorem ZE5:Zk Tryz.prog 101 (ZzO Y6):=okF (ZFz ZdE ZcZ) Tryz.func101 Zf (Zo _ (.cons ZGU (.cons ZGT .nil)) .nil .nil .nil (Zp _))
noncomputable abbrev ZzN (f:ZuD):Ze:=⟨[.one (.P),.one (.I .i64)],[.one (.L)],fun t K _ h=>f t.1 t.2.1 (fun r0 h=>K (r0,()) h) h⟩
noncomputable abbrev ZHU:Cfg:=ZG Tryz.prog [] 53 [] [] [] ZH
theorem ZFy:ZI (ZHU) Tryz.f151 (.seq (.leaf) (.cut [] [] [(4,29)] (.seq (.order (.take 0 (.take 1 (.take 2 (.take 3 (.take 4 (.take 5 (.take 6 (.take 7 (.take 8 (.take 11 (.take 12 (.take 13 (.take 16 (.take 9 (.take 10 (.take 14 (.take 15 (.take 17 (.take 18 (.take 19 (.take 20 (.take 21 .done))))))))))))))))))))))) (.leaf)) (.leaf))) (ZzN Zdi):=fun _ _ _ _=>by kernel_rfl
theorem ZE4:Zk Tryz.prog 151 (ZzN Xe):=okF (ZFy) Tryz.func151 Zf (Zo _ .nil .nil .nil .nil (Zp _))
noncomputable abbrev ZzM (f:ZuC):Ze:=⟨[.one (.P),.one (.I .i64)],[.one (.I .i64)],fun t K _ h=>f t.1 t.2.1 (fun r0 h=>K (r0,()) h) h⟩
noncomputable abbrev ZHT (f88:ZuD):Cfg:=ZG Tryz.prog [(151,ZzN f88)] 24 [] [] [] ZH
theorem ZFx (f88:ZuD):ZI (ZHT f88) Tryz.f150 (.seq (.leaf) (.seq (.leaf) (.seq (.seq (.leaf) (.block (.loop [5,12] [.one (.I .u64),.one (.I .i64)] [(7,7),(13,21)] (.leaf)))) (.leaf)))) (ZzM (Zca f88)):=fun _ _ _ _=>by kernel_rfl
theorem ZE3:Zk Tryz.prog 150 (ZzM Yp):=okF (ZFx Xe) Tryz.func150 Zf (Zo _ (.cons ZE4 .nil) .nil .nil .nil (Zp _))
noncomputable abbrev ZzL (f:ZuB):Ze:=⟨[.one (.P),.one (.B)],[.one (.I .i64),.one (.I .i64)],fun t K _ h=>f t.1 t.2.1 (fun r0 r1 h=>K (r0,r1,()) h) h⟩
noncomputable abbrev ZHS:Cfg:=ZG Tryz.prog [] 34 [] [] [] ZH
theorem ZFw:ZI (ZHS) Tryz.f152 (.leaf) (ZzL ZcE):=fun _ _ _ _=>by kernel_rfl
theorem ZE2:Zk Tryz.prog 152 (ZzL Y2):=okF (ZFw) Tryz.func152 Zf (Zo _ .nil .nil .nil .nil (Zp _))
noncomputable abbrev ZCv (f:ZxQ):Ze:=⟨[.one (.L)],[.agg [.I .i64,.I .u8,.I .i64,.I .i64,.S,.I .i64],.one (.I .i64),.one (.I .i64)],fun t K _ h=>f t.1 (fun r0 r1 r2 h=>K (r0,r1,r2,()) h) h⟩
noncomputable abbrev ZHR (f89:ZuC) (f88:ZuD) (f10:ZlY) (f90:ZuB):Cfg:=ZG Tryz.prog [(150,ZzM f89),(151,ZzN f88),(47,Zwe f10),(152,ZzL f90)] 60 [] [] [] ZH
theorem ZFv (f89:ZuC) (f88:ZuD) (f10:ZlY) (f90:ZuB):ZI (ZHR f89 f88 f10 f90) Tryz.f131 (.seq (.leaf) (.seq (.leaf) (.cut [6] [.one (.P)] [(13,34)] (.order (.take 0 (.take 1 (.take 2 (.take 5 (.take 6 (.take 7 (.take 9 (.take 10 (.take 11 (.take 13 (.take 14 (.take 15 (.take 17 (.take 18 (.take 19 (.fork 3 (.take 4 (.fork 8 (.fork 12 (.fork 16 (.fork 20 (.take 21 (.take 22 (.take 23 .done))) 22 (.take 20 (.take 21 (.take 23 .done)))) 22 (.take 16 (.take 20 (.take 21 (.take 23 .done))))) 22 (.take 12 (.take 16 (.take 20 (.take 21 (.take 23 .done)))))) 22 (.take 8 (.take 12 (.take 16 (.take 20 (.take 21 (.take 23 .done)))))))) 22 (.take 3 (.take 4 (.take 8 (.take 12 (.take 16 (.take 20 (.take 21 (.take 23 .done))))))))))))))))))))))))) (.seq (.order (.take 0 (.take 1 (.take 2 (.take 3 (.take 4 (.take 5 (.take 6 (.take 7 (.take 8 (.take 9 (.take 10 .done)))))))))))) (.seq (.seq (.order (.take 0 (.take 1 (.take 2 (.take 3 (.take 4 (.take 5 (.take 6 (.take 7 (.take 8 (.take 9 (.take 10 .done)))))))))))) (.leaf)) (.leaf)))))) (ZCv (Zdk f89 f88 f10 f90)):=fun _ _ _ _=>by kernel_rfl
theorem ZGS:Zk Tryz.prog 131 (ZCv ZaA):=okF (ZFv Yp Xe YZ Y2) Tryz.func131 Zf (Zo _ (.cons ZE3 (.cons ZE4 (.cons Zxx (.cons ZE2 .nil)))) .nil .nil .nil (Zp _))
noncomputable abbrev ZzK (f:ZuA):Ze:=⟨[.one (.P),.one (.I .i64)],[.one (.I .i64)],fun t K _ h=>f t.1 t.2.1 (fun r0 h=>K (r0,()) h) h⟩
noncomputable abbrev ZHQ (f0:zT0):Cfg:=ZG Tryz.prog [(45,zk0 f0)] 19 [] [] [] ZH
theorem ZFu (f0:zT0):ZI (ZHQ f0) Tryz.f72 (.leaf) (ZzK (Zdb f0)):=fun _ _ _ _=>by kernel_rfl
theorem ZE1:Zk Tryz.prog 72 (ZzK Xb):=okF (ZFu Za3) Tryz.func72 Zf (Zo _ (.cons zo0 .nil) .nil .nil .nil (Zp _))
noncomputable abbrev ZCu (f:ZxP):Ze:=⟨[.one (.L)],[.one (.L)],fun t K _ h=>f t.1 (fun r0 h=>K (r0,()) h) h⟩
noncomputable abbrev ZHP:Cfg:=ZG Tryz.prog [] 8 [] [] [] ZH
theorem ZFt:ZI (ZHP) Tryz.f76 (.leaf) (ZCu YW):=fun _ _ _ _=>by kernel_rfl
theorem ZGR:Zk Tryz.prog 76 (ZCu Z9):=okF (ZFt) Tryz.func76 Zf (Zo _ .nil .nil .nil .nil (Zp _))
noncomputable abbrev ZzJ (f:Zuz):Ze:=⟨[.agg [.I .i64,.I .i64,.I .i64,.I .i64],.one (.P)],[.one (.B)],fun t K _ h=>f t.1 t.2.1 (fun r0 h=>K (r0,()) h) h⟩
noncomputable abbrev ZHO:Cfg:=ZG Tryz.prog [] 8 [] [] [] ZH
theorem ZFs:ZI (ZHO) Tryz.f169 (.leaf) (ZzJ ZbO):=fun _ _ _ _=>by kernel_rfl
theorem ZE0:Zk Tryz.prog 169 (ZzJ Ye):=okF (ZFs) Tryz.func169 Zf (Zo _ .nil .nil .nil .nil (Zp _))
noncomputable abbrev ZCt (f:ZxO):Ze:=⟨[.one (.L),.clo 169 [.P]],[.one (.I .i64)],fun t K _ h=>f t.1 t.2.1 (fun r0 h=>K (r0,()) h) h⟩
noncomputable abbrev ZHN (f94:Zuz):Cfg:=ZG Tryz.prog [(169,ZzJ f94)] 19 [] [] [] ZH
theorem ZFr (f94:Zuz):ZI (ZHN f94) Tryz.f144 (.seq (.leaf) (.seq (.seq (.leaf) (.block (.loop [8] [.one (.I .i64)] [(4,5),(9,18)] (.leaf)))) (.leaf))) (ZCt (Z2 f94)):=fun _ _ _ _=>by kernel_rfl
theorem ZGQ:Zk Tryz.prog 144 (ZCt ZD):=okF (ZFr Ye) Tryz.func144 Zf (Zo _ (.cons ZE0 .nil) .nil .nil .nil (Zp _))
noncomputable abbrev ZCs (f:ZxN):Ze:=⟨[.one (.L),.clo 169 [.P]],[.one (.L)],fun t K _ h=>f t.1 t.2.1 (fun r0 h=>K (r0,()) h) h⟩
noncomputable abbrev ZHM (f95:ZxO) (f94:Zuz):Cfg:=ZG Tryz.prog [(144,ZCt f95),(169,ZzJ f94)] 42 [] [] [] ZH
theorem ZFq (f95:ZxO) (f94:Zuz):ZI (ZHM f95 f94) Tryz.f168 (.seq (.leaf) (.seq (.leaf) (.seq (.leaf) (.seq (.seq (.leaf) (.block (.loop [5,6] [.one (.I .i64),.one (.I .i64)] [(7,7),(16,35)] (.leaf)))) (.leaf))))) (ZCs (ZZ f95 f94)):=fun _ _ _ _=>by kernel_rfl
theorem ZGP:Zk Tryz.prog 168 (ZCs ZC):=okF (ZFq ZD Ye) Tryz.func168 Zf (Zo _ (.cons ZGQ (.cons ZE0 .nil)) .nil .nil .nil (Zp _))
noncomputable abbrev Zxy (f:Zp3):Ze:=⟨[.one (.P),.one (.I .i64)],[.one (.L)],fun t K _ h=>f t.1 t.2.1 (fun r0 h=>K (r0,()) h) h⟩
noncomputable abbrev ZHL (f93:ZxP) (f96:ZxN):Cfg:=ZG Tryz.prog [(76,ZCu f93),(168,ZCs f96)] 12 [] [] [] ZH
theorem ZFp (f93:ZxP) (f96:ZxN):ZI (ZHL f93 f96) Tryz.f143 (.leaf) (Zxy (Zcz f93 f96)):=fun _ _ _ _=>by kernel_rfl
theorem ZBq:Zk Tryz.prog 143 (Zxy Yz):=okF (ZFp Z9 ZC) Tryz.func143 Zf (Zo _ (.cons ZGR (.cons ZGP .nil)) .nil .nil .nil (Zp _))
noncomputable abbrev ZCr (f:ZxM):Ze:=⟨[.agg [.I .i64,.I .i64,.I .i64,.I .i64],.one (.P)],[.one (.B)],fun t K _ h=>f t.1 t.2.1 (fun r0 h=>K (r0,()) h) h⟩
noncomputable abbrev ZHK:Cfg:=ZG Tryz.prog [] 8 [] [] [] ZH
theorem ZFo:ZI (ZHK) Tryz.f145 (.leaf) (ZCr Za4):=fun _ _ _ _=>by kernel_rfl
theorem ZGO:Zk Tryz.prog 145 (ZCr Y7):=okF (ZFo) Tryz.func145 Zf (Zo _ .nil .nil .nil .nil (Zp _))
noncomputable abbrev ZCq (f:ZxL):Ze:=⟨[.one (.L),.clo 145 [.P]],[.one (.I .i64)],fun t K _ h=>f t.1 t.2.1 (fun r0 h=>K (r0,()) h) h⟩
noncomputable abbrev ZHJ (f98:ZxM):Cfg:=ZG Tryz.prog [(145,ZCr f98)] 19 [] [] [] ZH
theorem ZFn (f98:ZxM):ZI (ZHJ f98) Tryz.f144 (.seq (.leaf) (.seq (.seq (.leaf) (.block (.loop [8] [.one (.I .i64)] [(4,5),(9,18)] (.leaf)))) (.leaf))) (ZCq (ZW f98)):=fun _ _ _ _=>by kernel_rfl
theorem ZGN:Zk Tryz.prog 144 (ZCq ZA):=okF (ZFn Y7) Tryz.func144 Zf (Zo _ (.cons ZGO .nil) .nil .nil .nil (Zp _))
noncomputable abbrev Ztj (f:ZlX):Ze:=⟨[.one (.P),.one (.S),.one (.I .i64)],[.agg [.I .i64,.I .i64,.I .i64,.I .i64],.one (.B)],fun t K _ h=>f t.1 t.2.1 t.2.2.1 (fun r0 r1 h=>K (r0,r1,()) h) h⟩
noncomputable abbrev ZEv:Cfg:=ZG Tryz.prog [] 46 [] [] [] ZH
theorem ZBp:ZI (ZEv) Tryz.f112 (.seq (.leaf) (.seq (.seq (.leaf) (.block (.loop [17] [.one (.I .i64)] [(7,7),(9,9),(11,11),(18,44)] (.seq (.leaf) (.seq (.leaf) (.seq (.block (.seq (.leaf) (.seq (.leaf) (.block (.loop [24] [.one (.I .i64)] [(7,7),(11,11),(25,43)] (.leaf)))))) (.leaf))))))) (.leaf))) (Ztj Zdd):=fun _ _ _ _=>by kernel_rfl
theorem Zxw:Zk Tryz.prog 112 (Ztj Xc):=okF (ZBp) Tryz.func112 Zf (Zo _ .nil .nil .nil .nil (Zp _))
noncomputable abbrev Zwd (f:Zq2):Ze:=⟨[.one (.L),.one (.I .i64),.one (.I .i64)],[.one (.L)],fun t K _ h=>f t.1 t.2.1 t.2.2.1 (fun r0 h=>K (r0,()) h) h⟩
noncomputable abbrev ZEu:Cfg:=ZG Tryz.prog [] 33 [] [] [] ZH
theorem ZBo:ZI (ZEu) Tryz.f146 (.seq (.leaf) (.seq (.leaf) (.seq (.leaf) (.seq (.leaf) (.seq (.order (.take 0 (.take 1 (.take 2 (.take 3 (.take 4 (.take 5 (.take 6 (.take 7 .done))))))))) (.leaf)))))) (Zwd YL):=fun _ _ _ _=>by kernel_rfl
theorem ZCp:Zk Tryz.prog 146 (Zwd Z8):=okF (ZBo) Tryz.func146 Zf (Zo _ .nil .nil .nil .nil (Zp _))
noncomputable abbrev Zwc (f:Zq1):Ze:=⟨[.one (.P),.one (.I .i64),.one (.S),.one (.I .i64)],[.one (.I .u8)],fun t K _ h=>f t.1 t.2.1 t.2.2.1 t.2.2.2.1 (fun r0 h=>K (r0,()) h) h⟩
noncomputable abbrev ZEt (f97:Zp3) (f99:ZxL) (f100:ZlX) (f101:Zq2):Cfg:=ZG Tryz.prog [(143,Zxy f97),(144,ZCq f99),(112,Ztj f100),(146,Zwd f101)] 42 [] [] [] ZH
theorem ZBn (f97:Zp3) (f99:ZxL) (f100:ZlX) (f101:Zq2):ZI (ZEt f97 f99 f100 f101) Tryz.f111 (.leaf) (Zwc (ZbA f97 f99 f100 f101)):=fun _ _ _ _=>by kernel_rfl
theorem ZCo:Zk Tryz.prog 111 (Zwc Xo):=okF (ZBn Yz ZA Xc Z8) Tryz.func111 Zf (Zo _ (.cons ZBq (.cons ZGN (.cons Zxw (.cons ZCp .nil)))) .nil .nil .nil (Zp _))
noncomputable abbrev Zwb (f:Zq0):Ze:=⟨[.one (.P),.one (.I .i64),.agg [.I .i64,.I .i64,.I .i64,.I .i64]],[.one (.B)],fun t K _ h=>f t.1 t.2.1 t.2.2.1 (fun r0 h=>K (r0,()) h) h⟩
noncomputable abbrev ZEs:Cfg:=ZG Tryz.prog [] 17 [] [] [] ZH
theorem ZBm:ZI (ZEs) Tryz.f113 (.leaf) (Zwb ZbN):=fun _ _ _ _=>by kernel_rfl
theorem ZCn:Zk Tryz.prog 113 (Zwb XD):=okF (ZBm) Tryz.func113 Zf (Zo _ .nil .nil .nil .nil (Zp _))
noncomputable abbrev Zti (f:ZlW):Ze:=⟨[.one (.P),.one (.I .i64)],[.one (.I .i64)],fun t K _ h=>f t.1 t.2.1 (fun r0 h=>K (r0,()) h) h⟩
noncomputable abbrev ZEr:Cfg:=ZG Tryz.prog [] 22 [] [] [] ZH
theorem ZBl:ZI (ZEr) Tryz.f204 (.leaf) (Zti Zb4):=fun _ _ _ _=>by kernel_rfl
theorem Zxv:Zk Tryz.prog 204 (Zti YQ):=okF (ZBl) Tryz.func204 Zf (Zo _ .nil .nil .nil .nil (Zp _))
noncomputable abbrev Zwa (f:ZqZ):Ze:=⟨[.one (.P),.one (.I .i64)],[.clo 210 [.P,.P]],fun t K _ h=>f t.1 t.2.1 (fun r0 h=>K (r0,()) h) h⟩
noncomputable abbrev ZEq:Cfg:=ZG Tryz.prog [] 6 [] [] [] ZH
theorem ZBk:ZI (ZEq) Tryz.f208 (.leaf) (Zwa ZdG):=fun _ _ _ _=>by kernel_rfl
theorem ZCm:Zk Tryz.prog 208 (Zwa ZaQ):=okF (ZBk) Tryz.func208 Zf (Zo _ .nil .nil .nil .nil (Zp _))
noncomputable abbrev Zp2 (f:Znd):Ze:=⟨[.one (.P),.one (.I .i64)],[.one (.I .i64)],fun t K _ h=>f t.1 t.2.1 (fun r0 h=>K (r0,()) h) h⟩
noncomputable abbrev ZEp:Cfg:=ZG Tryz.prog [] 16 [] [] [] ZH
theorem ZBj:ZI (ZEp) Tryz.f206 (.leaf) (Zp2 ZbL):=fun _ _ _ _=>by kernel_rfl
theorem Zxu:Zk Tryz.prog 206 (Zp2 Yv):=okF (ZBj) Tryz.func206 Zf (Zo _ .nil .nil .nil .nil (Zp _))
abbrev ZxK:List VT:=[.yl,.one (.P),.one (.P)]
abbrev ZxJ:List VT:=[]
noncomputable abbrev ZxI (f:ZqY):Zcp:=⟨[.one (.P),.one (.P)],fun Y l t K h=>f Y l t.1 t.2.1 K h⟩
noncomputable def ZEo (Y:Yld):Cfg:=ZG Tryz.prog [(206,(Zp2 Yv))] 52 [] [] [] Y
theorem ZBi (f106:Znd) (Y:Yld) (t:Zao ZxK) (K:Zao ZxJ→HP) (Kp:Value→HP) (h:Zb):Zzs (ZG Tryz.prog [(206,Zp2 f106)] 52 [] [] [] Y) Tryz.f210 (.seq (.leaf) (.seq (.leaf) (.block (.loop [5] [.one (.I .i64)] [(6,7),(19,51)] (.seq (.leaf) (.seq (.block (.seq (.leaf) (.seq (.order (.take 0 (.take 1 (.take 2 (.take 3 (.take 4 (.take 5 (.take 6 (.take 7 (.take 8 (.take 9 (.take 10 (.take 11 (.take 12 (.take 13 (.take 14 (.take 15 (.take 16 (.take 17 (.take 18 .done)))))))))))))))))))) (.leaf)))) (.leaf))))))) (Zao.evs ZxK t) ZxJ K Kp h=Zcv f106 Y t.1 t.2.1 t.2.2.1 (fun h=>K (()) h) h:=by kernel_rfl
theorem ZCl:ZoU Tryz.prog 210 (ZxI X9):=fun Y hY=>Zy2 (c:=ZEo Y) Tryz.func210 (by kernel_rfl) (by kernel_rfl) rfl (Nat.le_of_ble_eq_true rfl) (Zo _ (.cons Zxu .nil) .nil .nil .nil hY) Zf (ZBi Yv Y)
noncomputable abbrev Zv9 (f:ZqX):Ze:=⟨[.one (.I .i64),.one (.I .i64)],[.one (.I .i64)],fun t K _ h=>f t.1 t.2.1 (fun r0 h=>K (r0,()) h) h⟩
noncomputable abbrev ZEn:Cfg:=ZG Tryz.prog [] 11 [] [] [] ZH
theorem ZBh:ZI (ZEn) Tryz.f211 (.leaf) (Zv9 Zht):=fun _ _ _ _=>by kernel_rfl
theorem ZCk:Zk Tryz.prog 211 (Zv9 Zew):=okF (ZBh) Tryz.func211 Zf (Zo _ .nil .nil .nil .nil (Zp _))
noncomputable abbrev Zth (f:ZlV):Ze:=⟨[.agg [.I .i64,.I .i64,.I .i64,.I .i64,.I .i64,.I .i64],.agg [.I .i64,.I .i64,.I .i64,.I .i64,.I .i64,.I .i64]],[.agg [.I .i64,.I .i64,.I .i64,.I .i64,.I .i64,.I .i64]],fun t K _ h=>f t.1 t.2.1 (fun r0 h=>K (r0,()) h) h⟩
noncomputable abbrev ZEm (f108:ZqX):Cfg:=ZG Tryz.prog [(211,Zv9 f108)] 53 [] [] [] ZH
theorem ZBg (f108:ZqX):ZI (ZEm f108) Tryz.f209 (.seq (.leaf) (.cut [5] [.one (.P)] [(6,31)] (.order (.take 0 (.take 2 (.take 5 (.take 7 (.take 10 (.take 12 (.take 15 (.take 17 (.take 20 (.take 22 (.take 1 (.take 3 (.take 6 (.take 8 (.take 11 (.take 13 (.take 16 (.take 18 (.take 21 (.take 23 (.fork 4 (.fork 9 (.fork 14 (.fork 19 (.fork 24 (.take 25 (.take 26 (.take 27 .done))) 26 (.take 24 (.take 25 (.take 27 .done)))) 26 (.take 19 (.take 24 (.take 25 (.take 27 .done))))) 26 (.take 14 (.take 19 (.take 24 (.take 25 (.take 27 .done)))))) 26 (.take 9 (.take 14 (.take 19 (.take 24 (.take 25 (.take 27 .done))))))) 26 (.take 4 (.take 9 (.take 14 (.take 19 (.take 24 (.take 25 (.take 27 .done))))))))))))))))))))))))))))) (.leaf))) (Zth (Zgh f108)):=fun _ _ _ _=>by kernel_rfl
theorem Zxt:Zk Tryz.prog 209 (Zth Zb0):=okF (ZBg Zew) Tryz.func209 Zf (Zo _ (.cons ZCk .nil) .nil .nil .nil (Zp _))
noncomputable abbrev Zv8 (f:ZqW):Ze:=⟨[.one (.P),.one (.I .i64)],[.agg [.I .i64,.I .i64,.I .i64,.I .i64,.I .i64,.I .i64],.one (.I .i64)],fun t K _ h=>f t.1 t.2.1 (fun r0 r1 h=>K (r0,r1,()) h) h⟩
noncomputable abbrev ZEl (f104:ZlW) (f105:ZqZ) (f109:ZlV) (f107:ZqY):Cfg:=ZG Tryz.prog [(204,Zti f104),(208,Zwa f105),(209,Zth f109)] 25 [] [] [(210,ZxI f107)] ZH
theorem ZBf (f104:ZlW) (f105:ZqZ) (f109:ZlV) (f107:ZqY):ZI (ZEl f104 f105 f109 f107) Tryz.f202 (.seq (.leaf) (.seq (.leaf) (.seq (.leaf) (.seq (.seq (.leaf) (.block (.range [.agg [.I .i64,.I .i64,.I .i64,.I .i64,.I .i64,.I .i64,.I .i64]] (.leaf) (.leaf)))) (.leaf))))) (Zv8 (Zc6 f104 f105 f109 f107)):=fun _ _ _ _=>by kernel_rfl
theorem ZCj:Zk Tryz.prog 202 (Zv8 Zas):=okF (ZBf YQ ZaQ Zb0 X9) Tryz.func202 Zf (Zo _ (.cons Zxv (.cons ZCm (.cons Zxt .nil))) .nil .nil (.cons ZCl .nil) (Zp _))
noncomputable abbrev Zv7 (f:ZqV):Ze:=⟨[.agg [.P],.one (.I .i64),.one (.S)],[.one (.I .i64)],fun t K _ h=>f t.1 t.2.1 t.2.2.1 (fun r0 h=>K (r0,()) h) h⟩
noncomputable abbrev ZEk (f110:ZqW):Cfg:=ZG Tryz.prog [(202,Zv8 f110)] 18 [] [] [] ZH
theorem ZBe (f110:ZqW):ZI (ZEk f110) Tryz.f199 (.leaf) (Zv7 (Zd3 f110)):=fun _ _ _ _=>by kernel_rfl
theorem ZCi:Zk Tryz.prog 199 (Zv7 Zbh):=okF (ZBe Zas) Tryz.func199 Zf (Zo _ (.cons ZCj .nil) .nil .nil .nil (Zp _))
noncomputable abbrev Ztg (f:ZlU):Ze:=⟨[.one (.P),.one (.I .i64)],[.one (.I .i64)],fun t K _ h=>f t.1 t.2.1 (fun r0 h=>K (r0,()) h) h⟩
noncomputable abbrev ZEj:Cfg:=ZG Tryz.prog [] 22 [] [] [] ZH
theorem ZBd:ZI (ZEj) Tryz.f219 (.leaf) (Ztg ZcD):=fun _ _ _ _=>by kernel_rfl
theorem Zxs:Zk Tryz.prog 219 (Ztg Y1):=okF (ZBd) Tryz.func219 Zf (Zo _ .nil .nil .nil .nil (Zp _))
noncomputable abbrev Zv6 (f:ZqU):Ze:=⟨[.one (.S)],[.one (.I .u64)],fun t K _ h=>f t.1 (fun r0 h=>K (r0,()) h) h⟩
noncomputable abbrev ZEi:Cfg:=ZG Tryz.prog [] 19 [] [] [] ZH
theorem ZBc:ZI (ZEi) Tryz.f228 (.seq (.leaf) (.seq (.leaf) (.seq (.seq (.leaf) (.block (.loop [3,7] [.one (.I .u64),.one (.I .i64)] [(4,4),(8,17)] (.leaf)))) (.leaf)))) (Zv6 ZfK):=fun _ _ _ _=>by kernel_rfl
theorem ZCh:Zk Tryz.prog 228 (Zv6 ZdC):=okF (ZBc) Tryz.func228 Zf (Zo _ .nil .nil .nil .nil (Zp _))
noncomputable abbrev Zv5 (f:ZqT):Ze:=⟨[.one (.I .u64)],[.one (.I .u64)],fun t K _ h=>f t.1 (fun r0 h=>K (r0,()) h) h⟩
noncomputable abbrev ZEh:Cfg:=ZG Tryz.prog [] 17 [] [] [] ZH
theorem ZBb:ZI (ZEh) Tryz.f227 (.leaf) (Zv5 ZgY):=fun _ _ _ _=>by kernel_rfl
theorem ZCg:Zk Tryz.prog 227 (Zv5 ZeG):=okF (ZBb) Tryz.func227 Zf (Zo _ .nil .nil .nil .nil (Zp _))
noncomputable abbrev Ztf (f:ZlT):Ze:=⟨[.agg [.I .i64,.I .i64,.I .i64,.I .i64,.I .u64],.one (.I .i64),.one (.S)],[.one (.I .i64)],fun t K _ h=>f t.1 t.2.1 t.2.2.1 (fun r0 h=>K (r0,()) h) h⟩
noncomputable abbrev ZEg (f113:ZqU) (f114:ZqT):Cfg:=ZG Tryz.prog [(228,Zv6 f113),(227,Zv5 f114)] 23 [] [] [] ZH
theorem ZBa (f113:ZqU) (f114:ZqT):ZI (ZEg f113 f114) Tryz.f224 (.leaf) (Ztf (Zb8 f113 f114)):=fun _ _ _ _=>by kernel_rfl
theorem Zxr:Zk Tryz.prog 224 (Ztf YE):=okF (ZBa ZdC ZeG) Tryz.func224 Zf (Zo _ (.cons ZCh (.cons ZCg .nil)) .nil .nil .nil (Zp _))
noncomputable abbrev Zte (f:ZlS):Ze:=⟨[.agg [.I .i64,.I .i64,.I .i64,.I .i64,.I .u64],.one (.I .i64)],[.one (.I .i64)],fun t K _ h=>f t.1 t.2.1 (fun r0 h=>K (r0,()) h) h⟩
noncomputable abbrev ZEf:Cfg:=ZG Tryz.prog [] 14 [] [] [] ZH
theorem ZA9:ZI (ZEf) Tryz.f220 (.leaf) (Zte ZcC):=fun _ _ _ _=>by kernel_rfl
theorem Zxq:Zk Tryz.prog 220 (Zte Y0):=okF (ZA9) Tryz.func220 Zf (Zo _ .nil .nil .nil .nil (Zp _))
noncomputable abbrev Zv4 (f:ZqS):Ze:=⟨[.agg [.I .i64,.I .i64,.M],.one (.P)],[.one (.I .i64)],fun t K _ h=>f t.1 t.2.1 (fun r0 h=>K (r0,()) h) h⟩
noncomputable abbrev ZEe:Cfg:=ZG Tryz.prog [] 8 [] [] [] ZH
theorem ZA8:ZI (ZEe) Tryz.f230 (.leaf) (Zv4 ZaN):=fun _ _ _ _=>by kernel_rfl
theorem ZCf:Zk Tryz.prog 230 (Zv4 XB):=okF (ZA8) Tryz.func230 Zf (Zo _ .nil .nil .nil .nil (Zp _))
noncomputable abbrev Ztd (f:ZlR):Ze:=⟨[.one (.I .i64),.one (.I .i64)],[.one (.I .i64)],fun t K _ h=>f t.1 t.2.1 (fun r0 h=>K (r0,()) h) h⟩
noncomputable abbrev ZEd:Cfg:=ZG Tryz.prog [] 12 [] [] [] ZH
theorem ZA7:ZI (ZEd) Tryz.f223 (.leaf) (Ztd ZfJ):=fun _ _ _ _=>by kernel_rfl
theorem Zxp:Zk Tryz.prog 223 (Ztd Zak):=okF (ZA7) Tryz.func223 Zf (Zo _ .nil .nil .nil .nil (Zp _))
noncomputable abbrev Zv3 (f:ZqR):Ze:=⟨[.one (.P),.one (.I .i64),.clo 230 [.P]],[.one (.I .i64)],fun t K _ h=>f t.1 t.2.1 t.2.2.1 (fun r0 h=>K (r0,()) h) h⟩
noncomputable abbrev ZEc (f116:ZlS) (f117:ZqS) (f118:ZlR):Cfg:=ZG Tryz.prog [(220,Zte f116),(230,Zv4 f117),(223,Ztd f118)] 41 [] [] [] ZH
theorem ZA6 (f116:ZlS) (f117:ZqS) (f118:ZlR):ZI (ZEc f116 f117 f118) Tryz.f229 (.seq (.leaf) (.seq (.leaf) (.seq (.seq (.leaf) (.block (.loop [7,15] [.one (.I .i64),.one (.I .i64)] [(9,9),(16,39)] (.seq (.leaf) (.seq (.leaf) (.seq (.block (.seq (.leaf) (.seq (.order (.take 0 (.take 2 (.take 3 (.take 4 (.take 6 (.take 8 (.take 9 (.take 10 (.take 11 (.take 1 (.take 5 (.take 12 (.take 7 (.take 13 (.take 14 .done)))))))))))))))) (.leaf)))) (.leaf))))))) (.leaf)))) (Zv3 (YD f116 f117 f118)):=fun _ _ _ _=>by kernel_rfl
theorem ZCe:Zk Tryz.prog 229 (Zv3 ZY):=okF (ZA6 Y0 XB Zak) Tryz.func229 Zf (Zo _ (.cons Zxq (.cons ZCf (.cons Zxp .nil))) .nil .nil .nil (Zp _))
noncomputable abbrev Zv2 (f:ZqQ):Ze:=⟨[.one (.P),.one (.I .i64),.one (.S)],[.one (.I .i64)],fun t K _ h=>f t.1 t.2.1 t.2.2.1 (fun r0 h=>K (r0,()) h) h⟩
noncomputable abbrev ZEb (f115:ZlT) (f119:ZqR):Cfg:=ZG Tryz.prog [(224,Ztf f115),(229,Zv3 f119)] 35 [] [] [] ZH
theorem ZA5 (f115:ZlT) (f119:ZqR):ZI (ZEb f115 f119) Tryz.f225 (.seq (.leaf) (.seq (.leaf) (.seq (.seq (.leaf) (.block (.loop [7,15] [.one (.I .i64),.one (.I .i64)] [(8,9),(16,33)] (.leaf)))) (.leaf)))) (Zv2 (Zbn f115 f119)):=fun _ _ _ _=>by kernel_rfl
theorem ZCd:Zk Tryz.prog 225 (Zv2 Xg):=okF (ZA5 YE ZY) Tryz.func225 Zf (Zo _ (.cons Zxr (.cons ZCe .nil)) .nil .nil .nil (Zp _))
noncomputable abbrev Zv1 (f:ZqP):Ze:=⟨[.one (.P),.one (.I .i64),.one (.S)],[.one (.I .i64),.one (.I .i64)],fun t K _ h=>f t.1 t.2.1 t.2.2.1 (fun r0 r1 h=>K (r0,r1,()) h) h⟩
noncomputable abbrev ZEa (f112:ZlU) (f120:ZqQ):Cfg:=ZG Tryz.prog [(219,Ztg f112),(225,Zv2 f120)] 19 [] [] [] ZH
theorem ZA4 (f112:ZlU) (f120:ZqQ):ZI (ZEa f112 f120) Tryz.f218 (.leaf) (Zv1 (Zbo f112 f120)):=fun _ _ _ _=>by kernel_rfl
theorem ZCc:Zk Tryz.prog 218 (Zv1 X3):=okF (ZA4 Y1 Xg) Tryz.func218 Zf (Zo _ (.cons Zxs (.cons ZCd .nil)) .nil .nil .nil (Zp _))
noncomputable abbrev Zv0 (f:ZqO):Ze:=⟨[.agg [.P],.one (.I .i64),.one (.S)],[.one (.I .i64)],fun t K _ h=>f t.1 t.2.1 t.2.2.1 (fun r0 h=>K (r0,()) h) h⟩
noncomputable abbrev ZD9 (f121:ZqP):Cfg:=ZG Tryz.prog [(218,Zv1 f121)] 18 [] [] [] ZH
theorem ZA3 (f121:ZqP):ZI (ZD9 f121) Tryz.f215 (.leaf) (Zv0 (ZdH f121)):=fun _ _ _ _=>by kernel_rfl
theorem ZCb:Zk Tryz.prog 215 (Zv0 ZaR):=okF (ZA3 X3) Tryz.func215 Zf (Zo _ (.cons ZCc .nil) .nil .nil .nil (Zp _))
noncomputable abbrev ZvZ (f:ZqN):Ze:=⟨[.agg [],.one (.I .i64),.one (.S)],[.one (.I .i64)],fun t K _ h=>f t.1 t.2.1 t.2.2.1 (fun r0 h=>K (r0,()) h) h⟩
noncomputable abbrev ZD8:Cfg:=ZG Tryz.prog [] 7 [] [] [] ZH
theorem ZA2:ZI (ZD8) Tryz.f233 (.leaf) (ZvZ Zc8):=fun _ _ _ _=>by kernel_rfl
theorem ZCa:Zk Tryz.prog 233 (ZvZ Zbw):=okF (ZA2) Tryz.func233 Zf (Zo _ .nil .nil .nil .nil (Zp _))
theorem Zmn:Zgo Tryz.prog "spillway/token.used" 184 199:=Zh2 (i:=Tryz.t184) (m:=Tryz.t184.methods.getD 6 default) (by kernel_rfl) (by kernel_rfl) (by kernel_rfl) (by kernel_rfl) (by kernel_rfl) (of_decide_eq_true (by kernel_rfl))
theorem Zml:Zgo Tryz.prog "spillway/token.used" 190 215:=Zh2 (i:=Tryz.t190) (m:=Tryz.t190.methods.getD 11 default) (by kernel_rfl) (by kernel_rfl) (by kernel_rfl) (by kernel_rfl) (by kernel_rfl) (of_decide_eq_true (by kernel_rfl))
theorem Zmj:Zgo Tryz.prog "spillway/token.used" 192 233:=Zh2 (i:=Tryz.t192) (m:=Tryz.t192.methods.getD 2 default) (by kernel_rfl) (by kernel_rfl) (by kernel_rfl) (by kernel_rfl) (by kernel_rfl) (of_decide_eq_true (by kernel_rfl))
noncomputable abbrev ZvY (f:ZqM):Ze:=⟨[.one (.P),.one (.I .i64),.agg [.I .i64,.I .i64,.I .i64,.I .i64],.one (.S)],[.one (.I .i64)],fun t K _ h=>f t.1 t.2.1 t.2.2.1 t.2.2.2.1 (fun r0 h=>K (r0,()) h) h⟩
noncomputable abbrev ZD7 (f111:ZqV) (f122:ZqO) (f123:ZqN) (f97:Zp3):Cfg:=ZG Tryz.prog [(199,Zv7 f111),(215,Zv0 f122),(233,ZvZ f123),(143,Zxy f97)] 45 [] [("spillway/token.used", 184,199),("spillway/token.used", 190,215),("spillway/token.used", 192,233)] [] ZH
theorem ZA1 (f111:ZqV) (f122:ZqO) (f123:ZqN) (f97:Zp3):ZI (ZD7 f111 f122 f123 f97) Tryz.f147 (.seq (.leaf) (.seq (.seq (.leaf) (.cond (.seq (.order (.take 0 (.take 1 (.take 2 (.take 4 (.take 8 (.take 9 (.take 3 (.take 5 (.take 6 (.take 7 (.take 10 (.take 11 .done))))))))))))) (.leaf)) (.leaf))) (.seq (.leaf) (.seq (.seq (.leaf) (.block (.loop [9,30] [.one (.I .i64),.one (.I .i64)] [(11,11),(31,43)] (.leaf)))) (.leaf))))) (ZvY (Zda f111 f122 f123 f97)):=fun _ _ _ _=>by kernel_rfl
theorem ZB9:Zk Tryz.prog 147 (ZvY Zau):=okF (ZA1 Zbh ZaR Zbw Yz) Tryz.func147 Zf (Zo _ (.cons ZCi (.cons ZCb (.cons ZCa (.cons ZBq .nil)))) .nil (.cons Zmn (.cons Zml (.cons Zmj .nil))) .nil (Zp _))
noncomputable abbrev Ztc (f:ZlQ):Ze:=⟨[.agg [.I .i64,.I .i64,.I .i64,.I .i64,.I .i64,.I .i64]],[.one (.B)],fun t K _ h=>f t.1 (fun r0 h=>K (r0,()) h) h⟩
noncomputable abbrev ZD6:Cfg:=ZG Tryz.prog [] 52 [] [] [] ZH
theorem ZA0:ZI (ZD6) Tryz.f205 (.seq (.leaf) (.seq (.seq (.leaf) (.block (.loop [19] [.one (.I .i64)] [(2,2),(4,4),(20,29)] (.leaf)))) (.leaf))) (Ztc Ze3):=fun _ _ _ _=>by kernel_rfl
theorem Zxo:Zk Tryz.prog 205 (Ztc Za2):=okF (ZA0) Tryz.func205 Zf (Zo _ .nil .nil .nil .nil (Zp _))
noncomputable abbrev ZvX (f:ZqL):Ze:=⟨[.one (.L)],[.agg [.I .i64,.I .i64,.I .i64,.I .i64,.I .i64,.I .i64]],fun t K _ h=>f t.1 (fun r0 h=>K (r0,()) h) h⟩
noncomputable abbrev ZD5 (f125:ZlQ) (f109:ZlV):Cfg:=ZG Tryz.prog [(205,Ztc f125),(209,Zth f109)] 19 [] [] [] ZH
theorem ZAZ (f125:ZlQ) (f109:ZlV):ZI (ZD5 f125 f109) Tryz.f207 (.seq (.leaf) (.seq (.leaf) (.seq (.seq (.leaf) (.block (.loop [8] [.one (.I .i64)] [(5,5),(9,17)] (.leaf)))) (.leaf)))) (ZvX (ZfG f125 f109)):=fun _ _ _ _=>by kernel_rfl
theorem ZB8:Zk Tryz.prog 207 (ZvX ZdA):=okF (ZAZ Za2 Zb0) Tryz.func207 Zf (Zo _ (.cons Zxo (.cons Zxt .nil)) .nil .nil .nil (Zp _))
noncomputable abbrev ZvW (f:ZqK):Ze:=⟨[.one (.P),.one (.I .i64),.one (.L)],[.one (.I .i64)],fun t K _ h=>f t.1 t.2.1 t.2.2.1 (fun r0 h=>K (r0,()) h) h⟩
noncomputable abbrev ZD4 (f104:ZlW) (f125:ZlQ) (f106:Znd) (f126:ZqL):Cfg:=ZG Tryz.prog [(204,Zti f104),(205,Ztc f125),(206,Zp2 f106),(207,ZvX f126)] 77 [] [] [] ZH
theorem ZAY (f104:ZlW) (f125:ZlQ) (f106:Znd) (f126:ZqL):ZI (ZD4 f104 f125 f106 f126) Tryz.f201 (.seq (.leaf) (.seq (.leaf) (.seq (.seq (.leaf) (.block (.loop [21] [.one (.I .i64)] [(6,6),(9,9),(22,28)] (.leaf)))) (.seq (.leaf) (.seq (.leaf) (.cut [] [] [(11,11),(36,54)] (.seq (.leaf) (.seq (.leaf) (.cond (.order (.take 0 (.take 1 (.take 2 (.take 4 (.take 3 (.take 5 (.take 6 .done)))))))) (.leaf)))) (.seq (.seq (.leaf) (.block (.loop [] [] [(12,12),(60,76)] (.cut [61] [.one (.B)] [(60,60)] (.leaf) (.leaf))))) (.leaf)))))))) (ZvW (Zc7 f104 f125 f106 f126)):=fun _ _ _ _=>by kernel_rfl
theorem ZB7:Zk Tryz.prog 201 (ZvW Zat):=okF (ZAY YQ Za2 Yv ZdA) Tryz.func201 Zf (Zo _ (.cons Zxv (.cons Zxo (.cons Zxu (.cons ZB8 .nil)))) .nil .nil .nil (Zp _))
noncomputable abbrev ZvV (f:ZqJ):Ze:=⟨[.agg [.P],.one (.I .i64),.one (.S),.one (.I .i64)],[],fun t K _ h=>f t.1 t.2.1 t.2.2.1 t.2.2.2.1 (fun h=>K (()) h) h⟩
noncomputable abbrev ZD3 (f127:ZqK):Cfg:=ZG Tryz.prog [(201,ZvW f127)] 15 [] [] [] ZH
theorem ZAX (f127:ZqK):ZI (ZD3 f127) Tryz.f198 (.leaf) (ZvV (Zd4 f127)):=fun _ _ _ _=>by kernel_rfl
theorem ZB6:Zk Tryz.prog 198 (ZvV Zbi):=okF (ZAX Zat) Tryz.func198 Zf (Zo _ (.cons ZB7 .nil) .nil .nil .nil (Zp _))
noncomputable abbrev Ztb (f:ZlP):Ze:=⟨[.agg [.I .i64,.I .i64,.M],.one (.P),.one (.P)],[.one (.B)],fun t K _ h=>f t.1 t.2.1 t.2.2.1 (fun r0 h=>K (r0,()) h) h⟩
noncomputable abbrev ZD2:Cfg:=ZG Tryz.prog [] 15 [] [] [] ZH
theorem ZAW:ZI (ZD2) Tryz.f222 (.leaf) (Ztb Zb9):=fun _ _ _ _=>by kernel_rfl
theorem Zxn:Zk Tryz.prog 222 (Ztb Yo):=okF (ZAW) Tryz.func222 Zf (Zo _ .nil .nil .nil .nil (Zp _))
noncomputable abbrev ZvU (f:ZqI):Ze:=⟨[.one (.L),.clo 222 [.P,.P]],[.one (.I .i64)],fun t K _ h=>f t.1 t.2.1 (fun r0 h=>K (r0,()) h) h⟩
noncomputable abbrev ZD1 (f129:ZlP):Cfg:=ZG Tryz.prog [(222,Ztb f129)] 19 [] [] [] ZH
theorem ZAV (f129:ZlP):ZI (ZD1 f129) Tryz.f226 (.seq (.leaf) (.seq (.seq (.leaf) (.block (.loop [8] [.one (.I .i64)] [(4,5),(9,18)] (.leaf)))) (.leaf))) (ZvU (ZX f129)):=fun _ _ _ _=>by kernel_rfl
theorem ZB5:Zk Tryz.prog 226 (ZvU ZB):=okF (ZAV Yo) Tryz.func226 Zf (Zo _ (.cons Zxn .nil) .nil .nil .nil (Zp _))
noncomputable abbrev ZvT (f:ZqH):Ze:=⟨[.one (.L),.clo 222 [.P,.P]],[.one (.L)],fun t K _ h=>f t.1 t.2.1 (fun r0 h=>K (r0,()) h) h⟩
noncomputable abbrev ZD0 (f130:ZqI) (f129:ZlP):Cfg:=ZG Tryz.prog [(226,ZvU f130),(222,Ztb f129)] 42 [] [] [] ZH
theorem ZAU (f130:ZqI) (f129:ZlP):ZI (ZD0 f130 f129) Tryz.f221 (.seq (.leaf) (.seq (.leaf) (.seq (.leaf) (.seq (.seq (.leaf) (.block (.loop [5,6] [.one (.I .i64),.one (.I .i64)] [(7,7),(16,35)] (.leaf)))) (.leaf))))) (ZvT (ZT f130 f129)):=fun _ _ _ _=>by kernel_rfl
theorem ZB4:Zk Tryz.prog 221 (ZvT Zz):=okF (ZAU ZB Yo) Tryz.func221 Zf (Zo _ (.cons ZB5 (.cons Zxn .nil)) .nil .nil .nil (Zp _))
noncomputable abbrev ZvS (f:ZqG):Ze:=⟨[.one (.P),.one (.I .i64),.one (.S),.one (.L)],[.one (.I .i64)],fun t K _ h=>f t.1 t.2.1 t.2.2.1 t.2.2.2.1 (fun r0 h=>K (r0,()) h) h⟩
noncomputable abbrev ZDZ (f112:ZlU) (f116:ZlS) (f131:ZqH) (f118:ZlR) (f115:ZlT):Cfg:=ZG Tryz.prog [(219,Ztg f112),(220,Zte f116),(221,ZvT f131),(223,Ztd f118),(224,Ztf f115)] 154 [] [] [] ZH
theorem ZAT (f112:ZlU) (f116:ZlS) (f131:ZqH) (f118:ZlR) (f115:ZlT):ZI (ZDZ f112 f116 f131 f118 f115) Tryz.f217 (.seq (.leaf) (.seq (.leaf) (.seq (.leaf) (.seq (.seq (.leaf) (.block (.loop [31] [.one (.I .i64)] [(8,8),(11,11),(32,41)] (.leaf)))) (.seq (.leaf) (.seq (.leaf) (.seq (.leaf) (.seq (.order (.take 5 (.take 0 (.take 1 (.take 2 (.take 3 (.take 4 (.take 6 (.take 7 (.take 8 (.take 9 .done))))))))))) (.cut [] [] [(13,13),(64,95)] (.seq (.leaf) (.seq (.leaf) (.cond (.order (.take 0 (.take 1 (.take 2 (.take 3 (.take 4 (.take 5 (.take 6 (.take 7 (.take 8 (.take 9 (.take 10 (.take 11 (.take 12 .done)))))))))))))) (.leaf)))) (.seq (.leaf) (.seq (.seq (.leaf) (.block (.loop [109] [.one (.I .i64)] [(16,18),(110,153)] (.seq (.leaf) (.seq (.leaf) (.seq (.block (.seq (.leaf) (.seq (.leaf) (.seq (.leaf) (.block (.loop [127] [.one (.I .i64)] [(17,18),(128,152)] (.seq (.leaf) (.seq (.leaf) (.seq (.block (.seq (.leaf) (.seq (.leaf) (.order (.take 0 (.take 1 (.take 2 (.take 5 (.take 6 (.take 7 (.take 11 (.take 3 (.take 4 (.take 8 (.take 9 (.take 10 (.take 12 (.take 13 .done)))))))))))))))))) (.leaf)))))))))) (.leaf))))))) (.leaf)))))))))))) (ZvS (Zdh f112 f116 f131 f118 f115)):=fun _ _ _ _=>by kernel_rfl
theorem ZB3:Zk Tryz.prog 217 (ZvS Zaz):=okF (ZAT Y1 Y0 Zz Zak YE) Tryz.func217 Zf (Zo _ (.cons Zxs (.cons Zxq (.cons ZB4 (.cons Zxp (.cons Zxr .nil))))) .nil .nil .nil (Zp _))
noncomputable abbrev ZvR (f:ZqF):Ze:=⟨[.agg [.P],.one (.I .i64),.one (.S),.one (.I .i64)],[],fun t K _ h=>f t.1 t.2.1 t.2.2.1 t.2.2.2.1 (fun h=>K (()) h) h⟩
noncomputable abbrev ZDY (f132:ZqG):Cfg:=ZG Tryz.prog [(217,ZvS f132)] 15 [] [] [] ZH
theorem ZAS (f132:ZqG):ZI (ZDY f132) Tryz.f214 (.leaf) (ZvR (ZdI f132)):=fun _ _ _ _=>by kernel_rfl
theorem ZB2:Zk Tryz.prog 214 (ZvR ZaS):=okF (ZAS Zaz) Tryz.func214 Zf (Zo _ (.cons ZB3 .nil) .nil .nil .nil (Zp _))
noncomputable abbrev ZvQ (f:ZqE):Ze:=⟨[.agg [],.one (.I .i64),.one (.S),.one (.I .i64)],[],fun t K _ h=>f t.1 t.2.1 t.2.2.1 t.2.2.2.1 (fun h=>K (()) h) h⟩
noncomputable abbrev ZDX:Cfg:=ZG Tryz.prog [] 8 [] [] [] ZH
theorem ZAR:ZI (ZDX) Tryz.f232 (.leaf) (ZvQ Zc9):=fun _ _ _ _=>by kernel_rfl
theorem ZB1:Zk Tryz.prog 232 (ZvQ Zbx):=okF (ZAR) Tryz.func232 Zf (Zo _ .nil .nil .nil .nil (Zp _))
theorem Zmo:Zgo Tryz.prog "spillway/token.take" 184 198:=Zh2 (i:=Tryz.t184) (m:=Tryz.t184.methods.getD 5 default) (by kernel_rfl) (by kernel_rfl) (by kernel_rfl) (by kernel_rfl) (by kernel_rfl) (of_decide_eq_true (by kernel_rfl))
theorem Zmm:Zgo Tryz.prog "spillway/token.take" 190 214:=Zh2 (i:=Tryz.t190) (m:=Tryz.t190.methods.getD 10 default) (by kernel_rfl) (by kernel_rfl) (by kernel_rfl) (by kernel_rfl) (by kernel_rfl) (of_decide_eq_true (by kernel_rfl))
theorem Zmk:Zgo Tryz.prog "spillway/token.take" 192 232:=Zh2 (i:=Tryz.t192) (m:=Tryz.t192.methods.getD 1 default) (by kernel_rfl) (by kernel_rfl) (by kernel_rfl) (by kernel_rfl) (by kernel_rfl) (of_decide_eq_true (by kernel_rfl))
noncomputable abbrev ZvP (f:ZqD):Ze:=⟨[.one (.P),.one (.I .i64),.agg [.I .i64,.I .i64,.I .i64,.I .i64],.agg [.I .i64,.I .u8,.I .i64,.I .i64,.S,.I .i64]],[.agg [.I .i64,.I .u8,.I .i64,.I .i64,.I .i64]],fun t K _ h=>f t.1 t.2.1 t.2.2.1 t.2.2.2.1 (fun r0 h=>K (r0,()) h) h⟩
noncomputable abbrev ZDW (f124:ZqM) (f128:ZqJ) (f133:ZqF) (f134:ZqE) (f97:Zp3):Cfg:=ZG Tryz.prog [(147,ZvY f124),(198,ZvV f128),(214,ZvR f133),(232,ZvQ f134),(143,Zxy f97)] 107 [] [("spillway/token.take", 184,198),("spillway/token.take", 190,214),("spillway/token.take", 192,232)] [] ZH
theorem ZAQ (f124:ZqM) (f128:ZqJ) (f133:ZqF) (f134:ZqE) (f97:Zp3):ZI (ZDW f124 f128 f133 f134 f97) Tryz.f114 (.seq (.leaf) (.seq (.leaf) (.seq (.leaf) (.seq (.leaf) (.seq (.seq (.leaf) (.cond (.seq (.order (.take 0 (.take 1 (.take 2 (.take 4 (.take 8 (.take 9 (.take 11 (.take 3 (.take 5 (.take 10 (.take 12 (.take 6 (.take 7 (.take 13 .done))))))))))))))) (.leaf)) (.leaf))) (.seq (.leaf) (.seq (.leaf) (.seq (.order (.take 0 (.take 1 (.take 2 (.take 4 (.take 3 (.take 6 (.take 5 (.take 7 (.take 8 (.take 9 .done))))))))))) (.seq (.order (.take 0 (.take 1 (.take 2 (.take 3 (.take 5 (.take 6 (.take 7 (.take 9 (.take 11 (.take 13 (.take 14 (.take 4 (.take 8 (.take 10 (.take 12 (.take 15 (.take 16 (.take 17 (.take 18 (.take 19 (.take 20 (.take 21 (.take 22 .done)))))))))))))))))))))))) (.leaf)))))))))) (ZvP (Zcy f124 f128 f133 f134 f97)):=fun _ _ _ _=>by kernel_rfl
theorem ZB0:Zk Tryz.prog 114 (ZvP Zab):=okF (ZAQ Zau Zbi ZaS Zbx Yz) Tryz.func114 Zf (Zo _ (.cons ZB9 (.cons ZB6 (.cons ZB2 (.cons ZB1 (.cons ZBq .nil))))) .nil (.cons Zmo (.cons Zmm (.cons Zmk .nil))) .nil (Zp _))
noncomputable abbrev ZvO (f:ZqC):Ze:=⟨[.one (.P),.one (.I .i64),.one (.I .i64),.agg [.I .i64,.I .u8,.I .i64,.I .i64,.S,.I .i64]],[.agg [.I .i64,.I .u8,.I .i64,.I .i64,.I .i64]],fun t K _ h=>f t.1 t.2.1 t.2.2.1 t.2.2.2.1 (fun r0 h=>K (r0,()) h) h⟩
noncomputable abbrev ZDV (f10:ZlY) (f31:Zp5) (f102:Zq1) (f100:ZlX) (f103:Zq0) (f135:ZqD):Cfg:=ZG Tryz.prog [(47,Zwe f10),(57,ZxA f31),(111,Zwc f102),(112,Ztj f100),(113,Zwb f103),(114,ZvP f135)] 100 [] [] [] ZH
theorem ZAP (f10:ZlY) (f31:Zp5) (f102:Zq1) (f100:ZlX) (f103:Zq0) (f135:ZqD):ZI (ZDV f10 f31 f102 f100 f103 f135) Tryz.f73 (.seq (.leaf) (.seq (.leaf) (.seq (.block (.seq (.leaf) (.cond (.leaf) (.cut [24] [.one (.B)] [(25,34)] (.leaf) (.cond (.seq (.order (.take 0 (.take 1 (.take 2 (.take 4 (.take 5 (.take 3 (.take 6 (.take 7 .done))))))))) (.leaf)) (.leaf)))))) (.leaf)))) (ZvO (Zb5 f10 f31 f102 f100 f103 f135)):=fun _ _ _ _=>by kernel_rfl
theorem ZBZ:Zk Tryz.prog 73 (ZvO XT):=okF (ZAP YZ Yy Xo Xc XD Zab) Tryz.func73 Zf (Zo _ (.cons Zxx (.cons ZBs (.cons ZCo (.cons Zxw (.cons ZCn (.cons ZB0 .nil)))))) .nil .nil .nil (Zp _))
noncomputable abbrev Zta (f:ZlO):Ze:=⟨[.one (.P),.one (.I .i64),.one (.I .i64),.agg [.I .i64,.I .u8,.I .i64,.I .i64,.S,.I .i64]],[.agg [.I .i64,.I .u8,.I .i64,.I .i64,.I .i64],.one (.I .i64)],fun t K _ h=>f t.1 t.2.1 t.2.2.1 t.2.2.2.1 (fun r0 r1 h=>K (r0,r1,()) h) h⟩
noncomputable abbrev ZDU (f92:ZuA) (f136:ZqC):Cfg:=ZG Tryz.prog [(72,ZzK f92),(73,ZvO f136)] 46 [] [] [] ZH
theorem ZAO (f92:ZuA) (f136:ZqC):ZI (ZDU f92 f136) Tryz.f38 (.leaf) (Zta (Zd5 f92 f136)):=fun _ _ _ _=>by kernel_rfl
theorem Zxm:Zk Tryz.prog 38 (Zta XL):=okF (ZAO Xb XT) Tryz.func38 Zf (Zo _ (.cons ZE1 (.cons ZBZ .nil)) .nil .nil .nil (Zp _))
noncomputable abbrev Zs9 (f:ZlN):Ze:=⟨[.agg [.I .i64,.I .u8,.I .i64,.I .i64,.I .i64]],[.one (.B)],fun t K _ h=>f t.1 (fun r0 h=>K (r0,()) h) h⟩
noncomputable abbrev ZDT (f8:zT8):Cfg:=ZG Tryz.prog [(84,zk8 f8)] 31 [] [] [] ZH
theorem ZAN (f8:zT8):ZI (ZDT f8) Tryz.f153 (.leaf) (Zs9 (Zdj f8)):=fun _ _ _ _=>by kernel_rfl
theorem Zxl:Zk Tryz.prog 153 (Zs9 Xf):=okF (ZAN ZaU) Tryz.func153 Zf (Zo _ (.cons zo8 .nil) .nil .nil .nil (Zp _))
noncomputable abbrev ZvN (f:ZqB):Ze:=⟨[.agg [.I .i64,.I .u8,.I .i64,.I .i64,.I .i64]],[.one (.L),.one (.I .i64)],fun t K _ h=>f t.1 (fun r0 r1 h=>K (r0,r1,()) h) h⟩
noncomputable abbrev ZDS (f138:ZlN) (f43:ZuO):Cfg:=ZG Tryz.prog [(153,Zs9 f138),(154,ZzY f43)] 24 [] [] [] ZH
theorem ZAM (f138:ZlN) (f43:ZuO):ZI (ZDS f138 f43) Tryz.f132 (.leaf) (ZvN (Ze9 f138 f43)):=fun _ _ _ _=>by kernel_rfl
theorem ZBY:Zk Tryz.prog 132 (ZvN ZcY):=okF (ZAM Xf YI) Tryz.func132 Zf (Zo _ (.cons Zxl (.cons ZFf .nil)) .nil .nil .nil (Zp _))
noncomputable abbrev ZvM (f:ZqA):Ze:=⟨[.one (.P),.one (.P),.one (.I .i64),.one (.L)],[.one (.B)],fun t K _ h=>f t.1 t.2.1 t.2.2.1 t.2.2.2.1 (fun r0 h=>K (r0,()) h) h⟩
noncomputable abbrev ZDR (f91:ZxQ) (f137:ZlO) (f139:ZqB) (f45:ZuN) (f55:ZuL):Cfg:=ZG Tryz.prog [(131,ZCv f91),(38,Zta f137),(132,ZvN f139),(133,ZzX f45),(121,ZzV f55)] 94 [] [] [] ZH
theorem ZAL (f91:ZxQ) (f137:ZlO) (f139:ZqB) (f45:ZuN) (f55:ZuL):ZI (ZDR f91 f137 f139 f45 f55) Tryz.f102 (.seq (.leaf) (.seq (.leaf) (.seq (.leaf) (.cut [10,12] [.one (.I .i64),.one (.P)] [(24,40)] (.order (.take 0 (.take 1 (.take 2 (.take 4 (.take 5 (.take 6 (.take 8 (.take 9 (.take 10 (.take 3 (.take 7 (.take 11 (.take 12 (.fork 13 (.take 14 (.take 15 (.take 16 (.take 17 (.take 18 (.take 19 .done)))))) 17 (.take 13 (.take 14 (.take 15 (.take 16 (.take 18 (.take 19 .done))))))))))))))))))))) (.seq (.leaf) (.cut [] [] [(43,68)] (.seq (.leaf) (.cond (.order (.take 0 (.take 1 (.take 2 (.take 3 (.take 5 (.take 6 (.take 7 (.take 9 (.take 10 (.take 4 (.take 8 (.take 11 (.take 12 (.take 13 (.take 14 (.take 15 (.take 16 (.take 17 (.take 18 .done)))))))))))))))))))) (.leaf))) (.seq (.leaf) (.seq (.leaf) (.seq (.order (.take 0 (.take 1 (.take 2 (.take 3 (.take 4 (.take 5 (.take 7 (.take 8 (.take 9 (.take 11 (.take 6 (.take 10 (.take 12 (.take 13 (.take 14 (.take 15 .done))))))))))))))))) (.leaf)))))))))) (ZvM (Zcc f91 f137 f139 f45 f55)):=fun _ _ _ _=>by kernel_rfl
theorem ZBX:Zk Tryz.prog 102 (ZvM XV):=okF (ZAL ZaA XL ZcY Zbz Xq) Tryz.func102 Zf (Zo _ (.cons ZGS (.cons Zxm (.cons ZBY (.cons ZFe (.cons ZFc .nil))))) .nil .nil .nil (Zp _))
noncomputable abbrev ZvL (f:Zqz):Ze:=⟨[.one (.P),.agg [.I .u8,.I .i64,.I .i64,.I .i64,.I .i64,.I .u8,.I .i64,.I .i64,.S,.I .i64]],[.agg [.I .i64,.B,.I .i64]],fun t K _ h=>f t.1 t.2.1 (fun r0 h=>K (r0,()) h) h⟩
noncomputable abbrev ZDQ (f84:ZuF) (f87:ZuE) (f140:ZqA) (f64:ZlG):Cfg:=ZG Tryz.prog [(100,ZzP f84),(101,ZzO f87),(102,ZvM f140),(103,Zvm f64)] 60 [] [] [] ZH
theorem ZAK (f84:ZuF) (f87:ZuE) (f140:ZqA) (f64:ZlG):ZI (ZDQ f84 f87 f140 f64) Tryz.f63 (.seq (.leaf) (.seq (.leaf) (.seq (.leaf) (.seq (.leaf) (.seq (.leaf) (.cut [9] [.one (.I .i64)] [(11,11),(40,53)] (.seq (.leaf) (.block (.loop [9,42] [.one (.I .i64),.one (.I .i64)] [(11,11),(43,53)] (.leaf)))) (.leaf))))))) (ZvL (Zbp f84 f87 f140 f64)):=fun _ _ _ _=>by kernel_rfl
theorem ZBW:Zk Tryz.prog 63 (ZvL YM):=okF (ZAK YS Y6 XV Z7) Tryz.func63 Zf (Zo _ (.cons ZE6 (.cons ZE5 (.cons ZBX (.cons Zxe .nil)))) .nil .nil .nil (Zp _))
noncomputable abbrev ZvK (f:Zqy):Ze:=⟨[.one (.L)],[.agg [.I .i64,.I .u8,.I .i64,.I .i64,.I .i64],.one (.I .i64),.one (.I .i64)],fun t K _ h=>f t.1 (fun r0 r1 r2 h=>K (r0,r1,r2,()) h) h⟩
noncomputable abbrev ZDP (f89:ZuC) (f138:ZlN) (f90:ZuB):Cfg:=ZG Tryz.prog [(150,ZzM f89),(153,Zs9 f138),(152,ZzL f90)] 37 [] [] [] ZH
theorem ZAJ (f89:ZuC) (f138:ZlN) (f90:ZuB):ZI (ZDP f89 f138 f90) Tryz.f137 (.leaf) (ZvK (ZdN f89 f138 f90)):=fun _ _ _ _=>by kernel_rfl
theorem ZBV:Zk Tryz.prog 137 (ZvK ZaV):=okF (ZAJ Yp Xf Y2) Tryz.func137 Zf (Zo _ (.cons ZE3 (.cons Zxl (.cons ZE2 .nil))) .nil .nil .nil (Zp _))
noncomputable abbrev ZvJ (f:Zqx):Ze:=⟨[.one (.P),.agg [.I .i64,.I .u8,.I .i64,.I .i64,.I .i64]],[],fun t K _ h=>f t.1 t.2.1 (fun h=>K (()) h) h⟩
noncomputable abbrev ZDO:Cfg:=ZG Tryz.prog [] 36 [] [] [] ZH
theorem ZAI:ZI (ZDO) Tryz.f138 (.seq (.leaf) (.seq (.order (.take 0 (.take 1 (.take 2 (.take 4 (.take 3 (.take 5 (.take 6 (.take 7 (.take 8 (.take 9 (.take 10 (.take 11 .done))))))))))))) (.seq (.leaf) (.cond (.seq (.order (.take 0 (.take 1 (.take 2 (.take 4 (.take 3 (.take 5 (.take 6 .done)))))))) (.order (.take 0 (.take 1 (.take 2 (.take 3 (.take 5 (.take 4 (.take 6 (.take 7 (.take 8 (.take 9 (.take 10 (.take 11 (.take 12 (.take 13 .done)))))))))))))))) (.leaf))))) (ZvJ Zbt):=fun _ _ _ _=>by kernel_rfl
theorem ZBU:Zk Tryz.prog 138 (ZvJ Xj):=okF (ZAI) Tryz.func138 Zf (Zo _ .nil .nil .nil .nil (Zp _))
noncomputable abbrev ZvI (f:Zqw):Ze:=⟨[.one (.P),.one (.P)],[.one (.I .i64)],fun t K _ h=>f t.1 t.2.1 (fun r0 h=>K (r0,()) h) h⟩
noncomputable abbrev ZDN (f87:ZuE) (f142:Zqy) (f143:Zqx) (f60:ZuI):Cfg:=ZG Tryz.prog [(101,ZzO f87),(137,ZvK f142),(138,ZvJ f143),(139,ZzS f60)] 47 [] [] [] ZH
theorem ZAH (f87:ZuE) (f142:Zqy) (f143:Zqx) (f60:ZuI):ZI (ZDN f87 f142 f143 f60) Tryz.f136 (.seq (.leaf) (.seq (.leaf) (.seq (.order (.take 0 (.take 1 (.take 2 (.take 3 (.take 4 (.take 5 (.take 6 (.take 7 (.take 8 (.take 9 (.take 10 .done)))))))))))) (.cut [4] [.one (.I .i64)] [(6,9),(24,41)] (.seq (.leaf) (.block (.loop [4,26] [.one (.I .i64),.one (.I .i64)] [(6,9),(27,41)] (.leaf)))) (.leaf))))) (ZvI (ZbD f87 f142 f143 f60)):=fun _ _ _ _=>by kernel_rfl
theorem ZBT:Zk Tryz.prog 136 (ZvI Xu):=okF (ZAH Y6 ZaV Xj Y3) Tryz.func136 Zf (Zo _ (.cons ZE5 (.cons ZBV (.cons ZBU (.cons ZE9 .nil)))) .nil .nil .nil (Zp _))
noncomputable abbrev ZvH (f:Zqv):Ze:=⟨[.one (.P),.one (.I .i64),.clo 136 [.P,.P]],[.one (.I .i64)],fun t K _ h=>f t.1 t.2.1 t.2.2.1 (fun r0 h=>K (r0,()) h) h⟩
noncomputable abbrev ZDM (f15:Zhc) (f16:Zid) (f144:Zqw):Cfg:=ZG Tryz.prog [(33,Zp1 f15),(86,ZsZ f16),(136,ZvI f144)] 57 [] [] [] ZH
theorem ZAG (f15:Zhc) (f16:Zid) (f144:Zqw):ZI (ZDM f15 f16 f144) Tryz.f49 (.seq (.leaf) (.seq (.leaf) (.seq (.leaf) (.seq (.seq (.leaf) (.block (.loop [33] [.one (.I .i64)] [(8,8),(34,54)] (.seq (.leaf) (.seq (.leaf) (.seq (.block (.seq (.leaf) (.seq (.order (.take 0 (.take 1 (.take 2 (.take 3 (.take 5 (.take 8 (.take 9 (.take 10 (.take 11 (.take 4 (.take 12 (.take 6 (.take 7 (.take 13 .done))))))))))))))) (.leaf)))) (.leaf))))))) (.leaf))))) (ZvH (XK f15 f16 f144)):=fun _ _ _ _=>by kernel_rfl
theorem ZBS:Zk Tryz.prog 49 (ZvH Yf):=okF (ZAG Zi Zr Xu) Tryz.func49 Zf (Zo _ (.cons Zs3 (.cons Zux (.cons ZBT .nil))) .nil .nil .nil (Zp _))
noncomputable abbrev ZvG (f:Zqu):Ze:=⟨[.one (.P),.one (.I .i64),.one (.L)],[.one (.I .i64)],fun t K _ h=>f t.1 t.2.1 t.2.2.1 (fun r0 h=>K (r0,()) h) h⟩
noncomputable abbrev ZDL (f145:Zqv):Cfg:=ZG Tryz.prog [(49,ZvH f145)] 11 [] [] [] ZH
theorem ZAF (f145:Zqv):ZI (ZDL f145) Tryz.f104 (.leaf) (ZvG (Zci f145)):=fun _ _ _ _=>by kernel_rfl
theorem ZBR:Zk Tryz.prog 104 (ZvG XX):=okF (ZAF Yf) Tryz.func104 Zf (Zo _ (.cons ZBS .nil) .nil .nil .nil (Zp _))
noncomputable abbrev ZvF (f:Zqt):Ze:=⟨[.one (.P),.agg [.I .u8,.I .i64,.I .i64,.I .i64,.I .i64,.I .u8,.I .i64,.I .i64,.S,.I .i64]],[.agg [.I .i64,.B,.I .i64]],fun t K _ h=>f t.1 t.2.1 (fun r0 h=>K (r0,()) h) h⟩
noncomputable abbrev ZDK (f84:ZuF) (f146:Zqu) (f64:ZlG) (f65:Zp4):Cfg:=ZG Tryz.prog [(100,ZzP f84),(104,ZvG f146),(103,Zvm f64),(95,Zxz f65)] 50 [] [] [] ZH
theorem ZAE (f84:ZuF) (f146:Zqu) (f64:ZlG) (f65:Zp4):ZI (ZDK f84 f146 f64 f65) Tryz.f64 (.seq (.leaf) (.seq (.leaf) (.seq (.leaf) (.seq (.leaf) (.seq (.seq (.order (.take 0 (.take 1 (.take 2 (.take 4 (.take 5 (.take 6 (.take 8 (.take 3 (.take 7 (.take 9 (.take 10 .done)))))))))))) (.leaf)) (.leaf)))))) (ZvF (Zbq f84 f146 f64 f65)):=fun _ _ _ _=>by kernel_rfl
theorem ZBQ:Zk Tryz.prog 64 (ZvF YN):=okF (ZAE YS XX Z7 Yq) Tryz.func64 Zf (Zo _ (.cons ZE6 (.cons ZBR (.cons Zxe (.cons ZBr .nil)))) .nil .nil .nil (Zp _))
noncomputable abbrev ZvE (f:Zqs):Ze:=⟨[.one (.P),.agg [.I .u8,.I .i64,.I .i64,.I .i64,.I .i64,.I .u8,.I .i64,.I .i64,.S,.I .i64]],[.agg [.I .i64,.B,.I .i64]],fun t K _ h=>f t.1 t.2.1 (fun r0 h=>K (r0,()) h) h⟩
noncomputable abbrev ZDJ (f52:Zj5) (f64:ZlG):Cfg:=ZG Tryz.prog [(40,Zuy f52),(103,Zvm f64)] 24 [] [] [] ZH
theorem ZAD (f52:Zj5) (f64:ZlG):ZI (ZDJ f52 f64) Tryz.f65 (.leaf) (ZvE (ZcI f52 f64)):=fun _ _ _ _=>by kernel_rfl
theorem ZBP:Zk Tryz.prog 65 (ZvE Xy):=okF (ZAD ZF Z7) Tryz.func65 Zf (Zo _ (.cons Zw6 (.cons Zxe .nil)) .nil .nil .nil (Zp _))
noncomputable abbrev ZvD (f:Zqr):Ze:=⟨[.one (.P),.one (.L)],[.one (.I .i64)],fun t K _ h=>f t.1 t.2.1 (fun r0 h=>K (r0,()) h) h⟩
noncomputable abbrev ZDI (f6:zT6):Cfg:=ZG Tryz.prog [(46,zk6 f6)] 26 [] [] [] ZH
theorem ZAC (f6:zT6):ZI (ZDI f6) Tryz.f105 (.seq (.leaf) (.seq (.leaf) (.seq (.seq (.leaf) (.block (.loop [16] [.one (.I .i64)] [(7,7),(17,25)] (.leaf)))) (.leaf)))) (ZvD (Zd6 f6)):=fun _ _ _ _=>by kernel_rfl
theorem ZBO:Zk Tryz.prog 105 (ZvD Zbj):=okF (ZAC Yn) Tryz.func105 Zf (Zo _ (.cons zo6 .nil) .nil .nil .nil (Zp _))
noncomputable abbrev ZvC (f:Zqq):Ze:=⟨[.one (.P),.agg [.I .u8,.I .i64,.I .i64,.I .i64,.I .i64,.I .u8,.I .i64,.I .i64,.S,.I .i64]],[.agg [.I .i64,.B,.I .i64]],fun t K _ h=>f t.1 t.2.1 (fun r0 h=>K (r0,()) h) h⟩
noncomputable abbrev ZDH (f149:Zqr) (f64:ZlG):Cfg:=ZG Tryz.prog [(105,ZvD f149),(103,Zvm f64)] 39 [] [] [] ZH
theorem ZAB (f149:Zqr) (f64:ZlG):ZI (ZDH f149 f64) Tryz.f66 (.seq (.leaf) (.seq (.leaf) (.seq (.leaf) (.seq (.leaf) (.seq (.seq (.leaf) (.block (.loop [26] [.one (.I .i64)] [(5,5),(27,37)] (.leaf)))) (.leaf)))))) (ZvC (ZcH f149 f64)):=fun _ _ _ _=>by kernel_rfl
theorem ZBN:Zk Tryz.prog 66 (ZvC Xx):=okF (ZAB Zbj Z7) Tryz.func66 Zf (Zo _ (.cons ZBO (.cons Zxe .nil)) .nil .nil .nil (Zp _))
noncomputable abbrev ZvB (f:Zqp):Ze:=⟨[.one (.P),.one (.I .i64)],[.one (.I .i64)],fun t K _ h=>f t.1 t.2.1 (fun r0 h=>K (r0,()) h) h⟩
noncomputable abbrev ZDG (f92:ZuA) (f37:ZuQ):Cfg:=ZG Tryz.prog [(72,ZzK f92),(59,Zz0 f37)] 85 [] [] [] ZH
theorem ZAA (f92:ZuA) (f37:ZuQ):ZI (ZDG f92 f37) Tryz.f106 (.seq (.leaf) (.seq (.leaf) (.seq (.leaf) (.seq (.leaf) (.seq (.leaf) (.seq (.seq (.leaf) (.block (.loop [38] [.one (.I .i64)] [(7,7),(9,9),(39,61)] (.seq (.leaf) (.seq (.leaf) (.seq (.block (.seq (.leaf) (.seq (.leaf) (.block (.loop [45] [.one (.I .i64)] [(9,9),(46,60)] (.seq (.leaf) (.seq (.leaf) (.seq (.block (.seq (.leaf) (.order (.take 0 (.take 1 (.take 2 (.take 4 (.take 8 (.take 3 (.take 5 (.take 6 (.take 9 (.take 7 (.take 10 (.take 11 .done))))))))))))))) (.leaf))))))))) (.leaf))))))) (.seq (.seq (.leaf) (.block (.loop [] [] [(10,11),(67,84)] (.cut [68] [.one (.B)] [(67,67)] (.leaf) (.seq (.leaf) (.block (.seq (.leaf) (.order (.take 0 (.take 1 (.take 2 (.take 4 (.take 5 (.take 6 (.take 10 (.take 3 (.take 7 (.take 8 (.take 11 (.take 9 (.take 12 (.take 13 .done)))))))))))))))))))))) (.leaf)))))))) (ZvB (ZbP f92 f37)):=fun _ _ _ _=>by kernel_rfl
theorem ZBM:Zk Tryz.prog 106 (ZvB XE):=okF (ZAA Xb YY) Tryz.func106 Zf (Zo _ (.cons ZE1 (.cons ZFh .nil)) .nil .nil .nil (Zp _))
noncomputable abbrev ZvA (f:Zqo):Ze:=⟨[.one (.P),.agg [.I .u8,.I .i64,.I .i64,.I .i64,.I .i64,.I .u8,.I .i64,.I .i64,.S,.I .i64]],[.agg [.I .i64,.B,.I .i64]],fun t K _ h=>f t.1 t.2.1 (fun r0 h=>K (r0,()) h) h⟩
noncomputable abbrev ZDF (f151:Zqp) (f7:zT7):Cfg:=ZG Tryz.prog [(106,ZvB f151),(24,zk7 f7)] 29 [] [] [] ZH
theorem ZAz (f151:Zqp) (f7:zT7):ZI (ZDF f151 f7) Tryz.f67 (.seq (.leaf) (.seq (.leaf) (.seq (.leaf) (.seq (.order (.take 0 (.take 1 (.take 2 (.take 4 (.take 5 (.take 6 (.take 3 (.take 7 (.take 8 .done)))))))))) (.leaf))))) (ZvA (Zcb f151 f7)):=fun _ _ _ _=>by kernel_rfl
theorem ZBL:Zk Tryz.prog 67 (ZvA Xh):=okF (ZAz XE YR) Tryz.func67 Zf (Zo _ (.cons ZBM (.cons zo7 .nil)) .nil .nil .nil (Zp _))
noncomputable abbrev Zs8 (f:ZlM):Ze:=⟨[.one (.P),.agg [.I .u8,.I .i64,.I .i64,.I .i64,.I .i64,.I .u8,.I .i64,.I .i64,.S,.I .i64]],[.one (.I .i64),.one (.B),.one (.I .i64)],fun t K _ h=>f t.1 t.2.1 (fun r0 r1 r2 h=>K (r0,r1,r2,()) h) h⟩
noncomputable abbrev ZDE (f40:Zym) (f41:Zoj) (f42:Zyl) (f66:Zx8) (f80:ZxV) (f141:Zqz) (f147:Zqt) (f148:Zqs) (f150:Zqq) (f152:Zqo):Cfg:=ZG Tryz.prog [(28,ZC1 f40),(29,Zw8 f41),(60,ZC0 f42),(61,ZCN f66),(62,ZCA f80),(63,ZvL f141),(64,ZvF f147),(65,ZvE f148),(66,ZvC f150),(67,ZvA f152)] 45 [] [] [] ZH [60,61,62,63,64,65,66,67]
theorem ZAy (f40:Zym) (f41:Zoj) (f42:Zyl) (f66:Zx8) (f80:ZxV) (f141:Zqz) (f147:Zqt) (f148:Zqs) (f150:Zqq) (f152:Zqo):ZI (ZDE f40 f41 f42 f66 f80 f141 f147 f148 f150 f152) Tryz.f10 (.seq (.leaf) (.seq (.leaf) (.seq (.leaf) (.cut [] [] [(4,6),(18,31)] (.leaf) (.cut [9] [.one (.P)] [(32,38)] (.order (.take 0 (.take 2 (.take 3 (.take 4 (.take 1 (.take 5 (.fork 6 (.take 7 (.take 8 .done)) 7 (.take 6 (.take 8 .done)))))))))) (.leaf)))))) (Zs8 (Zbg f40 f41 f42 f66 f80 f141 f147 f148 f150 f152)):=fun _ _ _ _=>by kernel_rfl
theorem Zxk:Zk Tryz.prog 10 (Zs8 YA):=okF (ZAy ZbF ZS Xw XM Xz YM YN Xy Xx Xh) Tryz.func10 Zf (Zo _ (.cons ZHo (.cons ZzI (.cons ZHn (.cons ZHa (.cons ZGX (.cons ZBW (.cons ZBQ (.cons ZBP (.cons ZBN (.cons ZBL .nil)))))))))) .nil .nil .nil (Zp _))
noncomputable abbrev Zs7 (f:ZlL):Ze:=⟨[.one (.P),.one (.L)],[.one (.L)],fun t K _ h=>f t.1 t.2.1 (fun r0 h=>K (r0,()) h) h⟩
noncomputable abbrev ZDD (f153:ZlM):Cfg:=ZG Tryz.prog [(10,Zs8 f153)] 31 [] [] [] ZH
theorem ZAx (f153:ZlM):ZI (ZDD f153) Tryz.f17 (.seq (.leaf) (.seq (.leaf) (.seq (.seq (.leaf) (.block (.loop [5,11] [.one (.L),.one (.I .i64)] [(6,8),(12,29)] (.leaf)))) (.leaf)))) (Zs7 (Za0 f153)):=fun _ _ _ _=>by kernel_rfl
theorem Zxj:Zk Tryz.prog 17 (Zs7 Yr):=okF (ZAx YA) Tryz.func17 Zf (Zo _ (.cons Zxk .nil) .nil .nil .nil (Zp _))
noncomputable abbrev Zp0 (f:ZiO):Ze:=⟨[.one (.P),.one (.I .i64)],[.one (.P)],fun t K _ h=>f t.1 t.2.1 (fun r0 h=>K (r0,()) h) h⟩
noncomputable abbrev ZDC (f41:Zoj):Cfg:=ZG Tryz.prog [(29,Zw8 f41)] 15 [] [] [] ZH
theorem ZAw (f41:Zoj):ZI (ZDC f41) Tryz.f31 (.leaf) (Zp0 (X5 f41)):=fun _ _ _ _=>by kernel_rfl
theorem Zvl:Zk Tryz.prog 31 (Zp0 Z6):=okF (ZAw ZS) Tryz.func31 Zf (Zo _ (.cons ZzI .nil) .nil .nil .nil (Zp _))
noncomputable abbrev Zvz (f:Zqn):Ze:=⟨[.one (.P)],[.one (.L)],fun t K _ h=>f t.1 (fun r0 h=>K (r0,()) h) h⟩
noncomputable abbrev ZDB:Cfg:=ZG Tryz.prog [] 14 [] [] [] ZH
theorem ZAv:ZI (ZDB) Tryz.f32 (.leaf) (Zvz ZcO):=fun _ _ _ _=>by kernel_rfl
theorem ZBK:Zk Tryz.prog 32 (Zvz Zag):=okF (ZAv) Tryz.func32 Zf (Zo _ .nil .nil .nil .nil (Zp _))
noncomputable abbrev Zs6 (f:ZlK):Ze:=⟨[.one (.P),.one (.I .i64)],[.one (.L)],fun t K _ h=>f t.1 t.2.1 (fun r0 h=>K (r0,()) h) h⟩
noncomputable abbrev ZDA (f155:ZiO) (f156:Zqn):Cfg:=ZG Tryz.prog [(31,Zp0 f155),(32,Zvz f156)] 9 [] [] [] ZH
theorem ZAu (f155:ZiO) (f156:Zqn):ZI (ZDA f155 f156) Tryz.f12 (.leaf) (Zs6 (ZaG f155 f156)):=fun _ _ _ _=>by kernel_rfl
theorem Zxi:Zk Tryz.prog 12 (Zs6 Yw):=okF (ZAu Z6 Zag) Tryz.func12 Zf (Zo _ (.cons Zvl (.cons ZBK .nil)) .nil .nil .nil (Zp _))
noncomputable abbrev Zs5 (f:ZlJ):Ze:=⟨[.one (.L)],[.one (.L)],fun t K _ h=>f t.1 (fun r0 h=>K (r0,()) h) h⟩
noncomputable abbrev ZDz:Cfg:=ZG Tryz.prog [] 8 [] [] [] ZH
theorem ZAt:ZI (ZDz) Tryz.f30 (.leaf) (Zs5 YF):=fun _ _ _ _=>by kernel_rfl
theorem Zxh:Zk Tryz.prog 30 (Zs5 ZR):=okF (ZAt) Tryz.func30 Zf (Zo _ .nil .nil .nil .nil (Zp _))
noncomputable abbrev Zs4 (f:ZlI):Ze:=⟨[.one (.P)],[.one (.L)],fun t K _ h=>f t.1 (fun r0 h=>K (r0,()) h) h⟩
noncomputable abbrev ZDy (f158:ZlJ):Cfg:=ZG Tryz.prog [(30,Zs5 f158)] 11 [] [] [] ZH
theorem ZAs (f158:ZlJ):ZI (ZDy f158) Tryz.f11 (.leaf) (Zs4 (X6 f158)):=fun _ _ _ _=>by kernel_rfl
theorem Zxg:Zk Tryz.prog 11 (Zs4 Yi):=okF (ZAs ZR) Tryz.func11 Zf (Zo _ (.cons Zxh .nil) .nil .nil .nil (Zp _))
noncomputable abbrev Zvy (f:Zqm):Ze:=⟨[],[.one (.B)],fun _ K _ h=>f (fun r0 h=>K (r0,()) h) h⟩
noncomputable abbrev ZDx (f20:ZyD) (f39:ZuP) (f154:ZlL) (f157:ZlK) (f159:ZlI):Cfg:=ZG Tryz.prog [(7,ZDi f20),(9,ZzZ f39),(17,Zs7 f154),(12,Zs6 f157),(11,Zs4 f159)] 81 [] [] [] ZH
theorem ZAr (f20:ZyD) (f39:ZuP) (f154:ZlL) (f157:ZlK) (f159:ZlI):ZI (ZDx f20 f39 f154 f157 f159) Tryz.f8 (.seq (.leaf) (.seq (.leaf) (.seq (.leaf) (.seq (.leaf) (.seq (.leaf) (.seq (.leaf) (.seq (.seq (.leaf) (.block (.loop [6] [.one (.I .i64)] [(0,0),(34,44)] (.leaf)))) (.leaf)))))))) (Zvy (ZcB f20 f39 f154 f157 f159)):=fun _ _ _ _=>by kernel_rfl
theorem ZBJ:Zk Tryz.prog 8 (Zvy Zad):=okF (ZAr ZdD Yx Yr Yw Yi) Tryz.func8 Zf (Zo _ (.cons ZHF (.cons ZFg (.cons Zxj (.cons Zxi (.cons Zxg .nil))))) .nil .nil .nil (Zp _))
noncomputable abbrev Zvx (f:Zql):Ze:=⟨[.one (.P)],[.one (.I .i64)],fun t K _ h=>f t.1 (fun r0 h=>K (r0,()) h) h⟩
noncomputable abbrev ZDw:Cfg:=ZG Tryz.prog [] 10 [] [] [] ZH
theorem ZAq:ZI (ZDw) Tryz.f13 (.leaf) (Zvx Zcg):=fun _ _ _ _=>by kernel_rfl
theorem ZBI:Zk Tryz.prog 13 (Zvx ZaW):=okF (ZAq) Tryz.func13 Zf (Zo _ .nil .nil .nil .nil (Zp _))
noncomputable abbrev Zvw (f:Zqk):Ze:=⟨[.one (.P),.one (.I .i64)],[.one (.L)],fun t K _ h=>f t.1 t.2.1 (fun r0 h=>K (r0,()) h) h⟩
noncomputable abbrev ZDv (f155:ZiO) (f15:Zhc):Cfg:=ZG Tryz.prog [(31,Zp0 f155),(33,Zp1 f15)] 9 [] [] [] ZH
theorem ZAp (f155:ZiO) (f15:Zhc):ZI (ZDv f155 f15) Tryz.f14 (.leaf) (Zvw (Za7 f155 f15)):=fun _ _ _ _=>by kernel_rfl
theorem ZBH:Zk Tryz.prog 14 (Zvw XQ):=okF (ZAp Z6 Zi) Tryz.func14 Zf (Zo _ (.cons Zvl (.cons Zs3 .nil)) .nil .nil .nil (Zp _))
noncomputable abbrev ZxH (f:Zqj):Ze:=⟨[.one (.P)],[.one (.L)],fun t K _ h=>f t.1 (fun r0 h=>K (r0,()) h) h⟩
theorem ZBG:Zk Tryz.prog 35 (ZxH Zcr):=ZgQ Tryz.func35 (by kernel_rfl) (by kernel_rfl) fun _ _ _ _ h=>h
noncomputable abbrev Zvv (f:Zqi):Ze:=⟨[.one (.L),.one (.I .i64)],[.one (.I .i64)],fun t K _ h=>f t.1 t.2.1 (fun r0 h=>K (r0,()) h) h⟩
noncomputable abbrev ZDu:Cfg:=ZG Tryz.prog [] 19 [] [] [] ZH
theorem ZAo:ZI (ZDu) Tryz.f70 (.seq (.leaf) (.seq (.seq (.leaf) (.block (.loop [8] [.one (.I .i64)] [(4,5),(9,18)] (.leaf)))) (.leaf))) (Zvv ZdM):=fun _ _ _ _=>by kernel_rfl
theorem ZBF:Zk Tryz.prog 70 (Zvv Zby):=okF (ZAo) Tryz.func70 Zf (Zo _ .nil .nil .nil .nil (Zp _))
noncomputable abbrev Zvu (f:Zqh):Ze:=⟨[.one (.L),.one (.I .i64)],[.one (.B)],fun t K _ h=>f t.1 t.2.1 (fun r0 h=>K (r0,()) h) h⟩
noncomputable abbrev ZDt (f166:Zqi):Cfg:=ZG Tryz.prog [(70,Zvv f166)] 9 [] [] [] ZH
theorem ZAn (f166:Zqi):ZI (ZDt f166) Tryz.f34 (.leaf) (Zvu (Zcq f166)):=fun _ _ _ _=>by kernel_rfl
theorem ZBE:Zk Tryz.prog 34 (Zvu ZaM):=okF (ZAn Zby) Tryz.func34 Zf (Zo _ (.cons ZBF .nil) .nil .nil .nil (Zp _))
noncomputable abbrev ZxG (f:Zqg):Ze:=⟨[.one (.P),.one (.I .i64)],[.one (.S)],fun t K _ h=>f t.1 t.2.1 (fun r0 h=>K (r0,()) h) h⟩
theorem ZBD:Zk Tryz.prog 37 (ZxG Zd0):=ZgQ Tryz.func37 (by kernel_rfl) (by kernel_rfl) fun _ _ _ _ h=>h
noncomputable abbrev Zvt (f:Zqf):Ze:=⟨[.one (.P),.one (.I .i64),.agg [.I .i64,.I .u8,.I .i64,.I .i64,.S,.I .i64]],[.agg [.I .i64,.I .u8,.I .i64,.I .i64,.I .i64],.one (.I .i64)],fun t K _ h=>f t.1 t.2.1 t.2.2.1 (fun r0 r1 h=>K (r0,r1,()) h) h⟩
noncomputable abbrev ZDs (f41:Zoj) (f165:Zqj) (f167:Zqh) (f72:ZuH) (f168:Zqg) (f137:ZlO):Cfg:=ZG Tryz.prog [(29,Zw8 f41),(35,ZxH f165),(34,Zvu f167),(36,ZzR f72),(37,ZxG f168),(38,Zta f137)] 109 [] [] [] ZH
theorem ZAm (f41:Zoj) (f165:Zqj) (f167:Zqh) (f72:ZuH) (f168:Zqg) (f137:ZlO):ZI (ZDs f41 f165 f167 f72 f168 f137) Tryz.f15 (.seq (.leaf) (.seq (.leaf) (.seq (.leaf) (.cut [] [] [(7,7),(10,10),(38,49)] (.leaf) (.cut [] [] [(50,62)] (.leaf) (.seq (.leaf) (.cut [11,12] [.one (.P),.one (.I .i64)] [(64,75)] (.order (.take 0 (.take 1 (.take 2 (.take 3 (.take 4 (.take 6 (.take 5 (.take 7 (.fork 8 (.take 9 (.take 10 (.take 11 (.take 12 (.take 13 (.take 14 .done)))))) 12 (.take 8 (.take 9 (.take 10 (.take 11 (.take 13 (.take 14 .done)))))))))))))))) (.seq (.seq (.leaf) (.cond (.order (.take 0 (.take 1 (.take 2 (.take 3 (.take 4 (.take 6 (.take 7 (.take 8 (.take 9 (.take 11 (.take 5 (.take 10 (.take 12 (.take 13 (.take 14 (.take 15 (.take 16 (.take 17 (.take 18 (.take 19 .done))))))))))))))))))))) (.leaf))) (.leaf))))))))) (Zvt (Zbs f41 f165 f167 f72 f168 f137)):=fun _ _ _ _=>by kernel_rfl
theorem ZBC:Zk Tryz.prog 15 (Zvt Xi):=okF (ZAm ZS Zcr ZaM Xd Zd0 XL) Tryz.func15 Zf (Zo _ (.cons ZzI (.cons ZBG (.cons ZBE (.cons ZE8 (.cons ZBD (.cons Zxm .nil)))))) .nil .nil .nil (Zp _))
noncomputable abbrev ZxF (f:Zqe):Ze:=⟨[.one (.P),.one (.I .i64),.one (.I .i64)],[.one (.I .i64),.one (.I .i64),.one (.I .i64)],fun t K _ h=>f t.1 t.2.1 t.2.2.1 (fun r0 r1 r2 h=>K (r0,r1,r2,()) h) h⟩
theorem ZBB:Zk Tryz.prog 39 (ZxF Zd1):=ZgQ Tryz.func39 (by kernel_rfl) (by kernel_rfl) fun _ _ _ _ h=>h
noncomputable abbrev Zvs (f:Zqd):Ze:=⟨[.one (.P),.one (.I .i64)],[.one (.I .i64),.one (.I .i64)],fun t K _ h=>f t.1 t.2.1 (fun r0 r1 h=>K (r0,r1,()) h) h⟩
noncomputable abbrev ZDr (f41:Zoj) (f170:Zqe):Cfg:=ZG Tryz.prog [(29,Zw8 f41),(39,ZxF f170)] 49 [] [] [] ZH
theorem ZAl (f41:Zoj) (f170:Zqe):ZI (ZDr f41 f170) Tryz.f16 (.leaf) (Zvs (Zcf f41 f170)):=fun _ _ _ _=>by kernel_rfl
theorem ZBA:Zk Tryz.prog 16 (Zvs XW):=okF (ZAl ZS Zd1) Tryz.func16 Zf (Zo _ (.cons ZzI (.cons ZBB .nil)) .nil .nil .nil (Zp _))
noncomputable abbrev Zvr (f:Zqc):Ze:=⟨[.one (.P),.one (.I .i64)],[.one (.B)],fun t K _ h=>f t.1 t.2.1 (fun r0 h=>K (r0,()) h) h⟩
noncomputable abbrev ZDq (f155:ZiO) (f52:Zj5):Cfg:=ZG Tryz.prog [(31,Zp0 f155),(40,Zuy f52)] 9 [] [] [] ZH
theorem ZAk (f155:ZiO) (f52:Zj5):ZI (ZDq f155 f52) Tryz.f18 (.leaf) (Zvr (ZaE f155 f52)):=fun _ _ _ _=>by kernel_rfl
theorem ZBz:Zk Tryz.prog 18 (Zvr Xs):=okF (ZAk Z6 ZF) Tryz.func18 Zf (Zo _ (.cons Zvl (.cons Zw6 .nil)) .nil .nil .nil (Zp _))
noncomputable abbrev Zvq (f:Zqb):Ze:=⟨[.one (.P)],[.one (.B)],fun t K _ h=>f t.1 (fun r0 h=>K (r0,()) h) h⟩
noncomputable abbrev ZDp:Cfg:=ZG Tryz.prog [] 12 [] [] [] ZH
theorem ZAj:ZI (ZDp) Tryz.f19 (.leaf) (Zvq ZcK):=fun _ _ _ _=>by kernel_rfl
theorem ZBy:Zk Tryz.prog 19 (Zvq Zbd):=okF (ZAj) Tryz.func19 Zf (Zo _ .nil .nil .nil .nil (Zp _))
noncomputable abbrev Zvp (f:ZlH):Ze:=⟨[.one (.P)],[.one (.P)],fun t K _ h=>f t.1 (fun r0 h=>K (r0,()) h) h⟩
theorem Zxf:Zk Tryz.prog 41 (Zvp Zax):=ZgQ Tryz.func41 (by kernel_rfl) (by kernel_rfl) fun _ _ _ _ h=>h
noncomputable abbrev Zvo (f:Zqa):Ze:=⟨[.one (.P)],[.one (.P)],fun t K _ h=>f t.1 (fun r0 h=>K (r0,()) h) h⟩
noncomputable abbrev ZDo (f174:ZlH):Cfg:=ZG Tryz.prog [(41,Zvp f174)] 11 [] [] [] ZH
theorem ZAi (f174:ZlH):ZI (ZDo f174) Tryz.f20 (.leaf) (Zvo (Zbr f174)):=fun _ _ _ _=>by kernel_rfl
theorem ZBx:Zk Tryz.prog 20 (Zvo X4):=okF (ZAi Zax) Tryz.func20 Zf (Zo _ (.cons Zxf .nil) .nil .nil .nil (Zp _))
noncomputable abbrev ZxE (f:Zp9):Ze:=⟨[.one (.P)],[.one (.P)],fun t K _ h=>f t.1 (fun r0 h=>K (r0,()) h) h⟩
theorem ZBw:Zk Tryz.prog 42 (ZxE Zd2):=ZgQ Tryz.func42 (by kernel_rfl) (by kernel_rfl) fun _ _ _ _ h=>h
noncomputable abbrev ZxD (f:Zp8):Ze:=⟨[.one (.P)],[.one (.P)],fun t K _ h=>f t.1 (fun r0 h=>K (r0,()) h) h⟩
theorem ZBv:Zk Tryz.prog 43 (ZxD Zct):=ZgQ Tryz.func43 (by kernel_rfl) (by kernel_rfl) fun _ _ _ _ h=>h
noncomputable abbrev ZxC (f:Zp7):Ze:=⟨[.one (.P)],[.one (.P)],fun t K _ h=>f t.1 (fun r0 h=>K (r0,()) h) h⟩
theorem ZBu:Zk Tryz.prog 44 (ZxC Zc5):=ZgQ Tryz.func44 (by kernel_rfl) (by kernel_rfl) fun _ _ _ _ h=>h
noncomputable abbrev Zvn (f:Zp6):Ze:=⟨[.one (.P)],[.one (.P)],fun t K _ h=>f t.1 (fun r0 h=>K (r0,()) h) h⟩
noncomputable abbrev ZDn (f176:Zp9) (f174:ZlH) (f158:ZlJ) (f177:Zp8) (f178:Zp7):Cfg:=ZG Tryz.prog [(42,ZxE f176),(41,Zvp f174),(30,Zs5 f158),(43,ZxD f177),(44,ZxC f178)] 80 [] [] [] ZH
theorem ZAh (f176:Zp9) (f174:ZlH) (f158:ZlJ) (f177:Zp8) (f178:Zp7):ZI (ZDn f176 f174 f158 f177 f178) Tryz.f21 (.seq (.leaf) (.seq (.leaf) (.seq (.leaf) (.seq (.order (.take 0 (.take 1 (.take 2 (.take 3 (.take 4 (.take 5 (.take 6 (.take 9 (.take 10 (.take 11 (.take 12 (.take 15 (.take 16 (.take 17 (.take 18 (.take 7 (.take 13 (.take 19 (.take 8 (.take 14 (.take 20 (.take 21 (.take 22 (.take 23 (.take 24 (.take 25 (.take 26 (.take 27 (.take 28 (.take 29 (.take 30 (.take 31 (.take 32 .done)))))))))))))))))))))))))))))))))) (.seq (.leaf) (.seq (.seq (.leaf) (.block (.loop [54] [.one (.I .i64)] [(5,5),(55,78)] (.seq (.leaf) (.seq (.leaf) (.seq (.block (.seq (.leaf) (.order (.take 0 (.take 1 (.take 2 (.take 3 (.take 4 (.take 6 (.take 9 (.take 11 (.take 5 (.take 7 (.take 10 (.take 12 (.take 8 (.take 13 (.take 14 (.take 15 (.take 16 (.take 17 (.take 18 (.take 19 (.take 20 .done)))))))))))))))))))))))) (.leaf))))))) (.leaf))))))) (Zvn (ZbR f176 f174 f158 f177 f178)):=fun _ _ _ _=>by kernel_rfl
theorem ZBt:Zk Tryz.prog 21 (Zvn ZaF):=okF (ZAh Zd2 Zax ZR Zct Zc5) Tryz.func21 Zf (Zo _ (.cons ZBw (.cons Zxf (.cons Zxh (.cons ZBv (.cons ZBu .nil))))) .nil .nil .nil (Zp _))
noncomputable abbrev ZxB (f:ZyE):Ze:=⟨[.agg [.I .u8,.I .i64,.I .i64,.I .i64,.I .i64,.I .u8,.I .i64,.I .i64,.S,.I .i64]],[.one (.B)],fun t K _ h=>f t.1 (fun r0 h=>K (r0,()) h) h⟩
noncomputable abbrev ZDm (f153:ZlM) (f169:Zqf) (f171:Zqd) (f154:ZlL) (f160:Zqm) (f39:ZuP) (f157:ZlK) (f172:Zqc) (f173:Zqb) (f161:Zql) (f159:ZlI) (f162:Zqk) (f175:Zqa) (f179:Zp6):Cfg:=ZG Tryz.prog [(10,Zs8 f153),(15,Zvt f169),(16,Zvs f171),(17,Zs7 f154),(8,Zvy f160),(9,ZzZ f39),(12,Zs6 f157),(18,Zvr f172),(19,Zvq f173),(13,Zvx f161),(11,Zs4 f159),(14,Zvw f162),(20,Zvo f175),(21,Zvn f179)] 112 [] [] [] ZH
theorem ZAg (f153:ZlM) (f169:Zqf) (f171:Zqd) (f154:ZlL) (f160:Zqm) (f39:ZuP) (f157:ZlK) (f172:Zqc) (f173:Zqb) (f161:Zql) (f159:ZlI) (f162:Zqk) (f175:Zqa) (f179:Zp6):ZI (ZDm f153 f169 f171 f154 f160 f39 f157 f172 f173 f161 f159 f162 f175 f179) Tryz.f6 (.leaf) (ZxB (ZaD f153 f169 f171 f154 f160 f39 f157 f172 f173 f161 f159 f162 f175 f179)):=fun _ _ _ _=>by kernel_rfl
theorem Zeu:Zk Tryz.prog 6 (ZxB Zay):=okF (ZAg YA Xi XW Yr Zad Yx Yw Xs Zbd ZaW Yi XQ X4 ZaF) Tryz.func6 Zf (Zo _ (.cons Zxk (.cons ZBC (.cons ZBA (.cons Zxj (.cons ZBJ (.cons ZFg (.cons Zxi (.cons ZBz (.cons ZBy (.cons ZBI (.cons Zxg (.cons ZBH (.cons ZBx (.cons ZBt .nil)))))))))))))) .nil .nil .nil (Zp _))
end Go.Proofs.YtbppjmcinoffnaaGreat
