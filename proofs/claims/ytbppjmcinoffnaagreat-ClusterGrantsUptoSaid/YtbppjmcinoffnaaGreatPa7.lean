/- That each function does what its model says. Written by a program out of the translated functions. -/
import Derived.Test.YtbppjmcinoffnaaGreatProg
import Derived.KernelRfl
import Derived.Test.YtbppjmcinoffnaaGreatPa6
set_option linter.unusedVariables false
set_option linter.unusedSimpArgs false
namespace Go.Proofs.YtbppjmcinoffnaaGreat
open Go Go.Fw
noncomputable section
theorem Zf:Tryz.prog.follows .mixedOrders=true:=by kernel_rfl
abbrev zk0 (f:zT0):Ze:=⟨[.one (.I .i64)],[.one (.B)],fun t K _ h=>f t.1 (fun r0 h=>K (r0,()) h) h⟩
abbrev zc0:Cfg:=ZI Tryz.prog [] 9 [] [] [] ZJ
theorem zr0:ZK (zc0) Tryz.f45 (.leaf) (zk0 ZeU):=fun _ _ _ _=>by kernel_rfl
theorem zo0:Zm Tryz.prog 45 (zk0 ZaV):=okF (zr0) Tryz.func45 Zf (Zo _ .nil .nil .nil .nil (Zp _))
abbrev zk1 (f:zT1):Ze:=⟨[.one (.I .i64)],[.one (.P),.one (.I .i64)],fun t K _ h=>f t.1 (fun r0 r1 h=>K (r0,r1,()) h) h⟩
abbrev zc1 (f0:zT0):Cfg:=ZI Tryz.prog [(45,zk0 f0)] 13 [] [] [] ZJ
theorem zr1 (f0:zT0):ZK (zc1 f0) Tryz.f22 (.leaf) (zk1 (Zg0 f0)):=fun _ _ _ _=>by kernel_rfl
theorem zo1:Zm Tryz.prog 22 (zk1 Zet):=okF (zr1 ZaV) Tryz.func22 Zf (Zo _ (.cons zo0 .nil) .nil .nil .nil (Zp _))
abbrev zk2 (f:zT2):Ze:=⟨[],[.one (.P)],fun _ K _ h=>f (fun r0 h=>K (r0,()) h) h⟩
abbrev zc2:Cfg:=ZI Tryz.prog [] 4 [] [] [] ZJ
theorem zr2:ZK (zc2) Tryz.f23 (.leaf) (zk2 Zge):=fun _ _ _ _=>by kernel_rfl
theorem zo2:Zm Tryz.prog 23 (zk2 Zd3):=okF (zr2) Tryz.func23 Zf (Zo _ .nil .nil .nil .nil (Zp _))
abbrev zk3 (f:zT3):Ze:=⟨[.one (.I .i64)],[.one (.B)],fun t K _ h=>f t.1 (fun r0 h=>K (r0,()) h) h⟩
abbrev zc3:Cfg:=ZI Tryz.prog [] 9 [] [] [] ZJ
theorem zr3:ZK (zc3) Tryz.f83 (.leaf) (zk3 Zbt):=fun _ _ _ _=>by kernel_rfl
theorem zo3:Zm Tryz.prog 83 (zk3 Xo):=okF (zr3) Tryz.func83 Zf (Zo _ .nil .nil .nil .nil (Zp _))
abbrev zk4 (f:zT4):Ze:=⟨[.one (.L),.fn 83],[.one (.I .i64)],fun t K _ h=>f t.1 (fun r0 h=>K (r0,()) h) h⟩
abbrev zc4 (f3:zT3):Cfg:=ZI Tryz.prog [(83,zk3 f3)] 19 [] [] [] ZJ
theorem zr4 (f3:zT3):ZK (zc4 f3) Tryz.f116 (.seq (.leaf) (.seq (.seq (.leaf) (.block (.loop [8] [.one (.I .i64)] [(4,5),(9,18)] (.leaf)))) (.leaf))) (zk4 (Yi f3)):=fun _ _ _ _=>by kernel_rfl
theorem zo4:Zm Tryz.prog 116 (zk4 ZQ):=okF (zr4 Xo) Tryz.func116 Zf (Zo _ (.cons zo3 .nil) .nil .nil .nil (Zp _))
abbrev zk5 (f:zT5):Ze:=⟨[.one (.L),.fn 83],[.one (.B)],fun t K _ h=>f t.1 (fun r0 h=>K (r0,()) h) h⟩
abbrev zc5 (f4:zT4):Cfg:=ZI Tryz.prog [(116,zk4 f4)] 9 [] [] [] ZJ
theorem zr5 (f4:zT4):ZK (zc5 f4) Tryz.f82 (.leaf) (zk5 (Yd f4)):=fun _ _ _ _=>by kernel_rfl
theorem zo5:Zm Tryz.prog 82 (zk5 ZY):=okF (zr5 ZQ) Tryz.func82 Zf (Zo _ (.cons zo4 .nil) .nil .nil .nil (Zp _))
abbrev zk6 (f:zT6):Ze:=⟨[.one (.P),.one (.L)],[.one (.I .i64)],fun t K _ h=>f t.1 t.2.1 (fun r0 h=>K (r0,()) h) h⟩
abbrev zc6 (f5:zT5):Cfg:=ZI Tryz.prog [(82,zk5 f5)] 11 [] [] [] ZJ
theorem zr6 (f5:zT5):ZK (zc6 f5) Tryz.f46 (.leaf) (zk6 (ZbZ f5)):=fun _ _ _ _=>by kernel_rfl
theorem zo6:Zm Tryz.prog 46 (zk6 Ym):=okF (zr6 ZY) Tryz.func46 Zf (Zo _ (.cons zo5 .nil) .nil .nil .nil (Zp _))
abbrev zk7 (f:zT7):Ze:=⟨[.one (.P),.one (.L)],[.one (.I .i64)],fun t K _ h=>f t.1 t.2.1 (fun r0 h=>K (r0,()) h) h⟩
abbrev zc7 (f6:zT6):Cfg:=ZI Tryz.prog [(46,zk6 f6)] 26 [] [] [] ZJ
theorem zr7 (f6:zT6):ZK (zc7 f6) Tryz.f24 (.seq (.leaf) (.seq (.leaf) (.seq (.seq (.leaf) (.block (.loop [16] [.one (.I .i64)] [(7,7),(17,25)] (.leaf)))) (.leaf)))) (zk7 (Zc7 f6)):=fun _ _ _ _=>by kernel_rfl
theorem zo7:Zm Tryz.prog 24 (zk7 YP):=okF (zr7 Ym) Tryz.func24 Zf (Zo _ (.cons zo6 .nil) .nil .nil .nil (Zp _))
abbrev zk8 (f:zT8):Ze:=⟨[.one (.I .i64),.one (.I .i64),.one (.I .i64)],[.one (.B)],fun t K _ h=>f t.1 t.2.1 t.2.2.1 (fun r0 h=>K (r0,()) h) h⟩
abbrev zc8:Cfg:=ZI Tryz.prog [] 15 [] [] [] ZJ
theorem zr8:ZK (zc8) Tryz.f84 (.leaf) (zk8 Zgg):=fun _ _ _ _=>by kernel_rfl
theorem zo8:Zm Tryz.prog 84 (zk8 ZaP):=okF (zr8) Tryz.func84 Zf (Zo _ .nil .nil .nil .nil (Zp _))
abbrev zk9 (f:zT9):Ze:=⟨[.one (.S)],[.one (.B)],fun t K _ h=>f t.1 (fun r0 h=>K (r0,()) h) h⟩
abbrev zc9 (f8:zT8):Cfg:=ZI Tryz.prog [(84,zk8 f8)] 19 [] [] [] ZJ
theorem zr9 (f8:zT8):ZK (zc9 f8) Tryz.f85 (.seq (.leaf) (.seq (.seq (.leaf) (.block (.loop [6] [.one (.I .i64)] [(2,3),(7,15)] (.leaf)))) (.leaf))) (zk9 (ZeY f8)):=fun _ _ _ _=>by kernel_rfl
theorem zo9:Zm Tryz.prog 85 (zk9 ZcN):=okF (zr9 ZaP) Tryz.func85 Zf (Zo _ (.cons zo8 .nil) .nil .nil .nil (Zp _))
abbrev Zws (f:Zl5):Ze:=⟨[.agg [.I .i64,.I .u8,.I .i64,.I .i64,.S,.I .i64]],[.one (.B)],fun t K _ h=>f t.1 (fun r0 h=>K (r0,()) h) h⟩
abbrev ZIV (f8:zT8) (f9:zT9):Cfg:=ZI Tryz.prog [(84,zk8 f8),(85,zk9 f9)] 76 [] [] [] ZJ
theorem ZGz (f8:zT8) (f9:zT9):ZK (ZIV f8 f9) Tryz.f47 (.seq (.leaf) (.cut [3] [.one (.B)] [(5,17)] (.leaf) (.cut [4] [.one (.B)] [(18,25)] (.leaf) (.seq (.leaf) (.seq (.seq (.leaf) (.block (.cut [32] [.one (.B)] [(33,34)] (.leaf) (.leaf)))) (.leaf)))))) (Zws (ZfD f8 f9)):=fun _ _ _ _=>by kernel_rfl
theorem ZxQ:Zm Tryz.prog 47 (Zws YY):=okF (ZGz ZaP ZcN) Tryz.func47 Zf (Zo _ (.cons zo8 (.cons zo9 .nil)) .nil .nil .nil (Zp _))
abbrev ZAh (f:Zu8):Ze:=⟨[],[.one (.P)],fun _ K _ h=>f (fun r0 h=>K (r0,()) h) h⟩
abbrev ZIU:Cfg:=ZI Tryz.prog [] 3 [] [] [] ZJ
theorem ZGy:ZK (ZIU) Tryz.f48 (.leaf) (ZAh Zey):=fun _ _ _ _=>by kernel_rfl
theorem ZE7:Zm Tryz.prog 48 (ZAh ZbV):=okF (ZGy) Tryz.func48 Zf (Zo _ .nil .nil .nil .nil (Zp _))
abbrev ZDf (f:ZyU):Ze:=⟨[.agg [.I .i64,.I .i64,.I .i64],.one (.S)],[.one (.P),.one (.I .i64)],fun t K _ h=>f t.1 t.2.1 (fun r0 r1 h=>K (r0,r1,()) h) h⟩
abbrev ZIT (f10:Zl5) (f11:Zu8):Cfg:=ZI Tryz.prog [(47,Zws f10),(48,ZAh f11)] 45 [] [] [] ZJ
theorem ZGx (f10:Zl5) (f11:Zu8):ZK (ZIT f10 f11) Tryz.f25 (.seq (.leaf) (.seq (.leaf) (.seq (.order (.take 2 (.take 4 (.take 1 (.take 5 (.fork 0 (.take 3 (.take 6 (.take 7 (.take 8 (.take 9 .done))))) 3 (.take 0 (.take 6 (.take 7 (.take 8 (.take 9 .done))))))))))) (.leaf)))) (ZDf (Zgh f10 f11)):=fun _ _ _ _=>by kernel_rfl
theorem ZHv:Zm Tryz.prog 25 (ZDf Zd5):=okF (ZGx YY ZbV) Tryz.func25 Zf (Zo _ (.cons ZxQ (.cons ZE7 .nil)) .nil .nil .nil (Zp _))
abbrev Ztb (f:Zic):Ze:=⟨[.one (.P)],[.one (.L)],fun t K _ h=>f t.1 (fun r0 h=>K (r0,()) h) h⟩
abbrev ZIS (f13:ZEi) (f14:ZEh):Cfg:=ZI Tryz.prog [(69,⟨[.one (.M)],[.one (.V)],fun t K _ h=>f13 t.1 (fun r0 h=>K (r0,()) h) h⟩),(68,⟨[.one (.V)],[.one (.L)],fun t K _ h=>f14 t.1 (fun r0 h=>K (r0,()) h) h⟩)] 11 [] [] [] ZJ
theorem ZGw (f13:ZEi) (f14:ZEh):ZK (ZIS f13 f14) Tryz.f33 (.leaf) (Ztb (Zbu f13 f14)):=fun _ _ _ _=>by kernel_rfl
theorem ZuN:Zm Tryz.prog 33 (Ztb Zk):=okF (ZGw YM Zck) Tryz.func33 Zf (Zo _ (.cons Zdn (.cons Zga .nil)) .nil .nil .nil (Zp _))
abbrev Zta (f:Zib):Ze:=⟨[.one (.P),.one (.I .i64)],[],fun t K _ h=>f t.1 t.2.1 (fun h=>K (()) h) h⟩
abbrev ZIR:Cfg:=ZI Tryz.prog [] 20 [] [] [] ZJ
theorem ZGv:ZK (ZIR) Tryz.f86 (.leaf) (Zta ZcB):=fun _ _ _ _=>by kernel_rfl
theorem ZuM:Zm Tryz.prog 86 (Zta Zq):=okF (ZGv) Tryz.func86 Zf (Zo _ .nil .nil .nil .nil (Zp _))
abbrev ZDe (f:ZyT):Ze:=⟨[],[.one (.I .i64)],fun _ K _ h=>f (fun r0 h=>K (r0,()) h) h⟩
abbrev ZIQ:Cfg:=ZI Tryz.prog [] 1 [] [] [] ZJ
theorem ZGu:ZK (ZIQ) Tryz.f50 (.leaf) (ZDe ZbL):=fun _ _ _ _=>by kernel_rfl
theorem ZHu:Zm Tryz.prog 50 (ZDe XJ):=okF (ZGu) Tryz.func50 Zf (Zo _ .nil .nil .nil .nil (Zp _))
abbrev ZDd (f:ZyS):Ze:=⟨[.one (.P),.one (.I .i64),.fn 50],[.one (.I .i64)],fun t K _ h=>f t.1 t.2.1 (fun r0 h=>K (r0,()) h) h⟩
abbrev ZIP (f15:Zic) (f16:Zib) (f17:ZyT):Cfg:=ZI Tryz.prog [(33,Ztb f15),(86,Zta f16),(50,ZDe f17)] 57 [] [] [] ZJ
theorem ZGt (f15:Zic) (f16:Zib) (f17:ZyT):ZK (ZIP f15 f16 f17) Tryz.f49 (.seq (.leaf) (.seq (.leaf) (.seq (.leaf) (.seq (.seq (.leaf) (.block (.loop [33] [.one (.I .i64)] [(8,8),(34,54)] (.seq (.leaf) (.seq (.leaf) (.seq (.block (.seq (.leaf) (.seq (.order (.take 0 (.take 1 (.take 2 (.take 3 (.take 5 (.take 8 (.take 9 (.take 10 (.take 11 (.take 4 (.take 12 (.take 6 (.take 7 (.take 13 .done))))))))))))))) (.leaf)))) (.leaf))))))) (.leaf))))) (ZDd (Zu f15 f16 f17)):=fun _ _ _ _=>by kernel_rfl
theorem ZHt:Zm Tryz.prog 49 (ZDd Yj):=okF (ZGt Zk Zq XJ) Tryz.func49 Zf (Zo _ (.cons ZuN (.cons ZuM (.cons ZHu .nil))) .nil .nil .nil (Zp _))
abbrev ZAg (f:Zu7):Ze:=⟨[.one (.P),.one (.I .i64)],[.one (.I .i64)],fun t K _ h=>f t.1 t.2.1 (fun r0 h=>K (r0,()) h) h⟩
abbrev ZIO (f18:ZyS):Cfg:=ZI Tryz.prog [(49,ZDd f18)] 8 [] [] [] ZJ
theorem ZGs (f18:ZyS):ZK (ZIO f18) Tryz.f26 (.leaf) (ZAg (ZcF f18)):=fun _ _ _ _=>by kernel_rfl
theorem ZE6:Zm Tryz.prog 26 (ZAg Y3):=okF (ZGs Yj) Tryz.func26 Zf (Zo _ (.cons ZHt .nil) .nil .nil .nil (Zp _))
abbrev ZAf (f:Zu6):Ze:=⟨[.one (.I .i64),.one (.I .i64),.agg [.I .i64,.I .i64,.I .i64]],[.one (.P),.one (.I .i64)],fun t K _ h=>f t.1 t.2.1 t.2.2.1 (fun r0 r1 h=>K (r0,r1,()) h) h⟩
abbrev ZIN (f1:zT1) (f2:zT2) (f7:zT7) (f12:ZyU) (f19:Zu7):Cfg:=ZI Tryz.prog [(22,zk1 f1),(23,zk2 f2),(24,zk7 f7),(25,ZDf f12),(26,ZAg f19)] 74 [] [] [] ZJ
theorem ZGr (f1:zT1) (f2:zT2) (f7:zT7) (f12:ZyU) (f19:Zu7):ZK (ZIN f1 f2 f7 f12 f19) Tryz.f7 (.seq (.leaf) (.seq (.leaf) (.seq (.leaf) (.seq (.leaf) (.seq (.leaf) (.seq (.seq (.leaf) (.block (.loop [46] [.one (.I .i64)] [(6,7),(11,12),(47,72)] (.leaf)))) (.leaf))))))) (ZAf (ZfF f1 f2 f7 f12 f19)):=fun _ _ _ _=>by kernel_rfl
theorem ZE5:Zm Tryz.prog 7 (ZAf Zbr):=okF (ZGr Zet Zd3 YP Zd5 Y3) Tryz.func7 Zf (Zo _ (.cons zo1 (.cons zo2 (.cons zo7 (.cons ZHv (.cons ZE6 .nil))))) .nil .nil .nil (Zp _))
abbrev ZDc (f:ZyQ):Ze:=⟨[.one (.I .i64),.one (.I .i64),.one (.I .i64)],[.one (.B)],fun t K _ h=>f t.1 t.2.1 t.2.2.1 (fun r0 h=>K (r0,()) h) h⟩
abbrev ZIM:Cfg:=ZI Tryz.prog [] 15 [] [] [] ZJ
theorem ZGq:ZK (ZIM) Tryz.f87 (.leaf) (ZDc ZeW):=fun _ _ _ _=>by kernel_rfl
theorem ZHs:Zm Tryz.prog 87 (ZDc ZcL):=okF (ZGq) Tryz.func87 Zf (Zo _ .nil .nil .nil .nil (Zp _))
abbrev ZDb (f:ZyP):Ze:=⟨[.one (.S)],[.one (.B)],fun t K _ h=>f t.1 (fun r0 h=>K (r0,()) h) h⟩
abbrev ZIL (f21:ZyQ):Cfg:=ZI Tryz.prog [(87,ZDc f21)] 19 [] [] [] ZJ
theorem ZGp (f21:ZyQ):ZK (ZIL f21) Tryz.f51 (.seq (.leaf) (.seq (.seq (.leaf) (.block (.loop [6] [.one (.I .i64)] [(2,3),(7,15)] (.leaf)))) (.leaf))) (ZDb (ZeX f21)):=fun _ _ _ _=>by kernel_rfl
theorem ZHr:Zm Tryz.prog 51 (ZDb ZcM):=okF (ZGp ZcL) Tryz.func51 Zf (Zo _ (.cons ZHs .nil) .nil .nil .nil (Zp _))
abbrev ZDa (f:ZyO):Ze:=⟨[.one (.I .i64),.one (.I .i64),.one (.I .i64)],[.one (.B)],fun t K _ h=>f t.1 t.2.1 t.2.2.1 (fun r0 h=>K (r0,()) h) h⟩
abbrev ZIK:Cfg:=ZI Tryz.prog [] 15 [] [] [] ZJ
theorem ZGo:ZK (ZIK) Tryz.f89 (.leaf) (ZDa Zev):=fun _ _ _ _=>by kernel_rfl
theorem ZHq:Zm Tryz.prog 89 (ZDa ZbT):=okF (ZGo) Tryz.func89 Zf (Zo _ .nil .nil .nil .nil (Zp _))
abbrev ZC9 (f:ZyN):Ze:=⟨[.agg [.I .i64,.I .i64,.I .i64,.I .i64]],[.one (.B)],fun t K _ h=>f t.1 (fun r0 h=>K (r0,()) h) h⟩
abbrev ZIJ (f23:ZyO):Cfg:=ZI Tryz.prog [(89,ZDa f23)] 38 [] [] [] ZJ
theorem ZGn (f23:ZyO):ZK (ZIJ f23) Tryz.f54 (.seq (.leaf) (.seq (.leaf) (.seq (.leaf) (.cut [4] [.one (.B)] [(8,14)] (.leaf) (.leaf))))) (ZC9 (ZfA f23)):=fun _ _ _ _=>by kernel_rfl
theorem ZHp:Zm Tryz.prog 54 (ZC9 Zdp):=okF (ZGn ZbT) Tryz.func54 Zf (Zo _ (.cons ZHq .nil) .nil .nil .nil (Zp _))
abbrev ZC8 (f:ZyM):Ze:=⟨[.agg [.I .i64,.I .i64,.I .i64,.I .i64]],[.one (.B)],fun t K _ h=>f t.1 (fun r0 h=>K (r0,()) h) h⟩
abbrev ZII (f24:ZyN):Cfg:=ZI Tryz.prog [(54,ZC9 f24)] 6 [] [] [] ZJ
theorem ZGm (f24:ZyN):ZK (ZII f24) Tryz.f53 (.leaf) (ZC8 (ZbY f24)):=fun _ _ _ _=>by kernel_rfl
theorem ZHo:Zm Tryz.prog 53 (ZC8 XV):=okF (ZGm Zdp) Tryz.func53 Zf (Zo _ (.cons ZHp .nil) .nil .nil .nil (Zp _))
abbrev ZC7 (f:ZyL):Ze:=⟨[.one (.L),.fn 53],[.one (.I .i64)],fun t K _ h=>f t.1 (fun r0 h=>K (r0,()) h) h⟩
abbrev ZIH (f25:ZyM):Cfg:=ZI Tryz.prog [(53,ZC8 f25)] 19 [] [] [] ZJ
theorem ZGl (f25:ZyM):ZK (ZIH f25) Tryz.f88 (.seq (.leaf) (.seq (.seq (.leaf) (.block (.loop [8] [.one (.I .i64)] [(4,5),(9,18)] (.leaf)))) (.leaf))) (ZC7 (Z2 f25)):=fun _ _ _ _=>by kernel_rfl
theorem ZHn:Zm Tryz.prog 88 (ZC7 ZN):=okF (ZGl XV) Tryz.func88 Zf (Zo _ (.cons ZHo .nil) .nil .nil .nil (Zp _))
abbrev ZC6 (f:ZyK):Ze:=⟨[.one (.L),.fn 53],[.one (.B)],fun t K _ h=>f t.1 (fun r0 h=>K (r0,()) h) h⟩
abbrev ZIG (f26:ZyL):Cfg:=ZI Tryz.prog [(88,ZC7 f26)] 9 [] [] [] ZJ
theorem ZGk (f26:ZyL):ZK (ZIG f26) Tryz.f52 (.leaf) (ZC6 (Z1 f26)):=fun _ _ _ _=>by kernel_rfl
theorem ZHm:Zm Tryz.prog 52 (ZC6 ZD):=okF (ZGk ZN) Tryz.func52 Zf (Zo _ (.cons ZHn .nil) .nil .nil .nil (Zp _))
abbrev ZC5 (f:ZyJ):Ze:=⟨[.one (.P),.one (.S),.one (.L)],[.one (.B)],fun t K _ h=>f t.1 t.2.1 t.2.2.1 (fun r0 h=>K (r0,()) h) h⟩
abbrev ZIF:Cfg:=ZI Tryz.prog [] 54 [] [] [] ZJ
theorem ZGj:ZK (ZIF) Tryz.f55 (.seq (.leaf) (.seq (.leaf) (.seq (.seq (.leaf) (.block (.loop [20] [.one (.I .i64)] [(9,9),(11,11),(21,39)] (.seq (.leaf) (.seq (.leaf) (.seq (.block (.seq (.leaf) (.seq (.leaf) (.block (.loop [27] [.one (.I .i64)] [(11,11),(28,38)] (.leaf)))))) (.leaf))))))) (.seq (.seq (.leaf) (.block (.loop [42] [.one (.I .i64)] [(6,6),(13,13),(43,53)] (.leaf)))) (.leaf))))) (ZC5 Zcm):=fun _ _ _ _=>by kernel_rfl
theorem ZHl:Zm Tryz.prog 55 (ZC5 Zab):=okF (ZGj) Tryz.func55 Zf (Zo _ .nil .nil .nil .nil (Zp _))
abbrev ZC4 (f:ZyI):Ze:=⟨[.agg [.S,.L],.one (.P)],[.one (.B)],fun t K _ h=>f t.1 t.2.1 (fun r0 h=>K (r0,()) h) h⟩
abbrev ZIE:Cfg:=ZI Tryz.prog [] 8 [] [] [] ZJ
theorem ZGi:ZK (ZIE) Tryz.f91 (.leaf) (ZC4 ZbD):=fun _ _ _ _=>by kernel_rfl
theorem ZHk:Zm Tryz.prog 91 (ZC4 XG):=okF (ZGi) Tryz.func91 Zf (Zo _ .nil .nil .nil .nil (Zp _))
abbrev ZC3 (f:ZyH):Ze:=⟨[.one (.L),.clo 91 [.P]],[.one (.I .i64)],fun t K _ h=>f t.1 t.2.1 (fun r0 h=>K (r0,()) h) h⟩
abbrev ZID (f29:ZyI):Cfg:=ZI Tryz.prog [(91,ZC4 f29)] 19 [] [] [] ZJ
theorem ZGh (f29:ZyI):ZK (ZID f29) Tryz.f90 (.seq (.leaf) (.seq (.seq (.leaf) (.block (.loop [8] [.one (.I .i64)] [(4,5),(9,18)] (.leaf)))) (.leaf))) (ZC3 (ZZ f29)):=fun _ _ _ _=>by kernel_rfl
theorem ZHj:Zm Tryz.prog 90 (ZC3 ZM):=okF (ZGh XG) Tryz.func90 Zf (Zo _ (.cons ZHk .nil) .nil .nil .nil (Zp _))
abbrev ZxT (f:Zqk):Ze:=⟨[.one (.P),.one (.S)],[.one (.I .i64)],fun t K _ h=>f t.1 t.2.1 (fun r0 h=>K (r0,()) h) h⟩
abbrev ZIC (f30:ZyH):Cfg:=ZI Tryz.prog [(90,ZC3 f30)] 11 [] [] [] ZJ
theorem ZGg (f30:ZyH):ZK (ZIC f30) Tryz.f57 (.leaf) (ZxT (Zcn f30)):=fun _ _ _ _=>by kernel_rfl
theorem ZBx:Zm Tryz.prog 57 (ZxT Yu):=okF (ZGg ZM) Tryz.func57 Zf (Zo _ (.cons ZHj .nil) .nil .nil .nil (Zp _))
abbrev ZC2 (f:ZyG):Ze:=⟨[.one (.P),.one (.S),.one (.L)],[.one (.B)],fun t K _ h=>f t.1 t.2.1 t.2.2.1 (fun r0 h=>K (r0,()) h) h⟩
abbrev ZIB (f31:Zqk):Cfg:=ZI Tryz.prog [(57,ZxT f31)] 84 [] [] [] ZJ
theorem ZGf (f31:Zqk):ZK (ZIB f31) Tryz.f56 (.seq (.leaf) (.seq (.order (.take 0 (.take 1 (.take 2 (.take 3 (.take 4 (.take 7 (.take 8 (.take 9 (.take 5 (.take 6 (.take 10 (.take 11 (.take 12 (.take 13 (.take 14 .done)))))))))))))))) (.seq (.seq (.leaf) (.block (.loop [7,33] [.one (.I .i64),.one (.I .i64)] [(11,11),(34,46)] (.leaf)))) (.cut [8] [.one (.I .i64)] [(47,52)] (.leaf) (.seq (.seq (.leaf) (.block (.loop [9,55] [.one (.I .i64),.one (.I .i64)] [(13,15),(56,73)] (.seq (.leaf) (.seq (.leaf) (.seq (.block (.seq (.leaf) (.seq (.order (.take 0 (.take 1 (.take 2 (.take 4 (.take 3 (.take 5 (.fork 6 (.take 7 (.take 8 (.take 9 (.take 10 (.take 11 (.take 12 .done)))))) 10 (.take 6 (.take 7 (.take 8 (.take 9 (.take 11 (.take 12 .done)))))))))))))) (.leaf)))) (.leaf))))))) (.leaf)))))) (ZC2 (Zc3 f31)):=fun _ _ _ _=>by kernel_rfl
theorem ZHi:Zm Tryz.prog 56 (ZC2 Zaw):=okF (ZGf Yu) Tryz.func56 Zf (Zo _ (.cons ZBx .nil) .nil .nil .nil (Zp _))
abbrev ZC1 (f:ZyF):Ze:=⟨[.one (.L)],[.one (.L)],fun t K _ h=>f t.1 (fun r0 h=>K (r0,()) h) h⟩
abbrev ZIA:Cfg:=ZI Tryz.prog [] 8 [] [] [] ZJ
theorem ZGe:ZK (ZIA) Tryz.f58 (.leaf) (ZC1 Y4):=fun _ _ _ _=>by kernel_rfl
theorem ZHh:Zm Tryz.prog 58 (ZC1 Z9):=okF (ZGe) Tryz.func58 Zf (Zo _ .nil .nil .nil .nil (Zp _))
abbrev ZC0 (f:ZyE):Ze:=⟨[.one (.I .i64),.one (.I .i64)],[.one (.P),.one (.I .i64)],fun t K _ h=>f t.1 t.2.1 (fun r0 r1 h=>K (r0,r1,()) h) h⟩
abbrev ZIz:Cfg:=ZI Tryz.prog [] 31 [] [] [] ZJ
theorem ZGd:ZK (ZIz) Tryz.f92 (.leaf) (ZC0 Zgd):=fun _ _ _ _=>by kernel_rfl
theorem ZHg:Zm Tryz.prog 92 (ZC0 Zd2):=okF (ZGd) Tryz.func92 Zf (Zo _ .nil .nil .nil .nil (Zp _))
abbrev ZCZ (f:ZyD):Ze:=⟨[.one (.I .i64),.one (.I .i64)],[.one (.B)],fun t K _ h=>f t.1 t.2.1 (fun r0 h=>K (r0,()) h) h⟩
abbrev ZIy:Cfg:=ZI Tryz.prog [] 12 [] [] [] ZJ
theorem ZGc:ZK (ZIy) Tryz.f117 (.leaf) (ZCZ ZeV):=fun _ _ _ _=>by kernel_rfl
theorem ZHf:Zm Tryz.prog 117 (ZCZ ZcK):=okF (ZGc) Tryz.func117 Zf (Zo _ .nil .nil .nil .nil (Zp _))
abbrev ZCY (f:ZyC):Ze:=⟨[.one (.I .i64),.one (.I .i64),.one (.I .i64),.one (.I .i64),.one (.I .u64)],[.one (.P),.one (.I .i64)],fun t K _ h=>f t.1 t.2.1 t.2.2.1 t.2.2.2.1 t.2.2.2.2.1 (fun r0 r1 h=>K (r0,r1,()) h) h⟩
abbrev ZIx (f35:ZyD):Cfg:=ZI Tryz.prog [(117,ZCZ f35)] 49 [] [] [] ZJ
theorem ZGb (f35:ZyD):ZK (ZIx f35) Tryz.f93 (.leaf) (ZCY (Zgf f35)):=fun _ _ _ _=>by kernel_rfl
theorem ZHe:Zm Tryz.prog 93 (ZCY Zd4):=okF (ZGb ZcK) Tryz.func93 Zf (Zo _ (.cons ZHf .nil) .nil .nil .nil (Zp _))
abbrev ZAe (f:Zu5):Ze:=⟨[.agg [.I .i64,.I .i64,.I .i64,.I .i64]],[.one (.V)],fun t K _ h=>f t.1 (fun r0 h=>K (r0,()) h) h⟩
abbrev ZIw (f34:ZyE) (f36:ZyC):Cfg:=ZI Tryz.prog [(92,ZC0 f34),(93,ZCY f36)] 32 [] [] [] ZJ
theorem ZGa (f34:ZyE) (f36:ZyC):ZK (ZIw f34 f36) Tryz.f59 (.leaf) (ZAe (Zfz f34 f36)):=fun _ _ _ _=>by kernel_rfl
theorem ZE4:Zm Tryz.prog 59 (ZAe YX):=okF (ZGa Zd2 Zd4) Tryz.func59 Zf (Zo _ (.cons ZHg (.cons ZHe .nil)) .nil .nil .nil (Zp _))
abbrev ZCX (f:ZyB):Ze:=⟨[.one (.P),.one (.S),.one (.L)],[.one (.I .i64)],fun t K _ h=>f t.1 t.2.1 t.2.2.1 (fun r0 h=>K (r0,()) h) h⟩
abbrev ZIv (f22:ZyP) (f27:ZyK) (f28:ZyJ) (f32:ZyG) (f31:Zqk) (f33:ZyF) (f37:Zu5):Cfg:=ZI Tryz.prog [(51,ZDb f22),(52,ZC6 f27),(55,ZC5 f28),(56,ZC2 f32),(57,ZxT f31),(58,ZC1 f33),(59,ZAe f37)] 99 [] [] [] ZJ
theorem ZF9 (f22:ZyP) (f27:ZyK) (f28:ZyJ) (f32:ZyG) (f31:Zqk) (f33:ZyF) (f37:Zu5):ZK (ZIv f22 f27 f28 f32 f31 f33 f37) Tryz.f27 (.seq (.leaf) (.seq (.leaf) (.seq (.leaf) (.cut [7] [.one (.I .i64)] [(35,52)] (.leaf) (.seq (.order (.take 0 (.take 1 (.take 2 (.take 4 (.take 5 (.take 3 (.take 6 (.take 7 (.take 8 (.take 9 .done))))))))))) (.seq (.seq (.leaf) (.block (.loop [64] [.one (.I .i64)] [(9,11),(65,98)] (.seq (.leaf) (.seq (.leaf) (.seq (.block (.seq (.leaf) (.cut [10,11] [.one (.P),.one (.B)] [(68,77)] (.order (.take 0 (.take 1 (.take 2 (.take 4 (.take 3 (.take 5 (.fork 6 (.take 7 (.take 8 (.take 9 (.take 10 (.take 11 (.take 12 .done)))))) 10 (.take 6 (.take 7 (.take 8 (.take 9 (.take 11 (.take 12 .done)))))))))))))) (.seq (.leaf) (.cond (.order (.take 0 (.take 1 (.take 2 (.take 4 (.take 8 (.take 3 (.take 5 (.take 6 (.take 9 (.take 7 (.take 10 (.take 11 .done))))))))))))) (.leaf)))))) (.leaf))))))) (.leaf))))))) (ZCX (Zc6 f22 f27 f28 f32 f31 f33 f37)):=fun _ _ _ _=>by kernel_rfl
theorem ZHd:Zm Tryz.prog 27 (ZCX Zay):=okF (ZF9 ZcM ZD Zab Zaw Yu Z9 YX) Tryz.func27 Zf (Zo _ (.cons ZHr (.cons ZHm (.cons ZHl (.cons ZHi (.cons ZBx (.cons ZHh (.cons ZE4 .nil))))))) .nil .nil .nil (Zp _))
abbrev ZAd (f:Zu4):Ze:=⟨[.one (.P),.one (.L)],[.one (.I .i64)],fun t K _ h=>f t.1 t.2.1 (fun r0 h=>K (r0,()) h) h⟩
abbrev ZIu (f38:ZyB):Cfg:=ZI Tryz.prog [(27,ZCX f38)] 14 [] [] [] ZJ
theorem ZF8 (f38:ZyB):ZK (ZIu f38) Tryz.f9 (.leaf) (ZAd (ZbJ f38)):=fun _ _ _ _=>by kernel_rfl
theorem ZE3:Zm Tryz.prog 9 (ZAd Yf):=okF (ZF8 Zay) Tryz.func9 Zf (Zo _ (.cons ZHd .nil) .nil .nil .nil (Zp _))
abbrev ZCW (f:ZyA):Ze:=⟨[.one (.I .u8)],[.agg [.V,.B],.one (.B)],fun t K _ h=>f t.1 (fun r0 r1 h=>K (r0,r1,()) h) h⟩
abbrev ZIt:Cfg:=ZI Tryz.prog [] 25 [] [] [] ZJ
theorem ZF7:ZK (ZIt) Tryz.f28 (.leaf) (ZCW Zd7):=fun _ _ _ _=>by kernel_rfl
theorem ZHc:Zm Tryz.prog 28 (ZCW Zby):=okF (ZF7) Tryz.func28 Zf (Zo _ .nil .nil .nil .nil (Zp _))
abbrev ZAc (f:Zu3):Ze:=⟨[.one (.P),.one (.I .i64)],[.one (.P)],fun t K _ h=>f t.1 t.2.1 (fun r0 h=>K (r0,()) h) h⟩
abbrev ZIs:Cfg:=ZI Tryz.prog [] 28 [] [] [] ZJ
theorem ZF6:ZK (ZIs) Tryz.f29 (.leaf) (ZAc ZbI):=fun _ _ _ _=>by kernel_rfl
theorem ZE2:Zm Tryz.prog 29 (ZAc YF):=okF (ZF6) Tryz.func29 Zf (Zo _ .nil .nil .nil .nil (Zp _))
abbrev ZCV (f:Zyz):Ze:=⟨[.one (.P),.agg [.I .u8,.I .i64,.I .i64,.I .i64,.I .i64,.I .u8,.I .i64,.I .i64,.S,.I .i64]],[.agg [.I .i64,.B,.I .i64]],fun t K _ h=>f t.1 t.2.1 (fun r0 h=>K (r0,()) h) h⟩
abbrev ZIr (f19:Zu7):Cfg:=ZI Tryz.prog [(26,ZAg f19)] 49 [] [] [] ZJ
theorem ZF5 (f19:Zu7):ZK (ZIr f19) Tryz.f60 (.seq (.leaf) (.seq (.leaf) (.seq (.leaf) (.seq (.seq (.leaf) (.block (.loop [36] [.one (.I .i64)] [(6,6),(37,47)] (.seq (.leaf) (.seq (.leaf) (.seq (.block (.seq (.leaf) (.order (.take 0 (.take 2 (.take 3 (.take 4 (.take 1 (.take 5 (.take 6 .done)))))))))) (.leaf))))))) (.leaf))))) (ZCV (Zcw f19)):=fun _ _ _ _=>by kernel_rfl
theorem ZHb:Zm Tryz.prog 60 (ZCV Xw):=okF (ZF5 Y3) Tryz.func60 Zf (Zo _ (.cons ZE6 .nil) .nil .nil .nil (Zp _))
abbrev ZAb (f:Zu2):Ze:=⟨[.one (.P),.one (.L)],[],fun t K _ h=>f t.1 t.2.1 (fun h=>K (()) h) h⟩
abbrev ZIq:Cfg:=ZI Tryz.prog [] 31 [] [] [] ZJ
theorem ZF4:ZK (ZIq) Tryz.f154 (.seq (.leaf) (.block (.loop [9] [.one (.I .i64)] [(5,6),(10,30)] (.seq (.leaf) (.seq (.leaf) (.seq (.block (.seq (.leaf) (.seq (.leaf) (.block (.loop [6] [.one (.I .i64)] [(13,29)] (.seq (.leaf) (.seq (.block (.order (.take 0 (.take 1 (.take 2 (.take 3 (.take 5 (.take 6 (.take 7 (.take 8 (.take 4 (.take 9 (.take 10 (.take 11 (.take 12 (.take 13 .done)))))))))))))))) (.leaf)))))))) (.leaf))))))) (ZAb ZbH):=fun _ _ _ _=>by kernel_rfl
theorem ZE1:Zm Tryz.prog 154 (ZAb YE):=okF (ZF4) Tryz.func154 Zf (Zo _ .nil .nil .nil .nil (Zp _))
abbrev ZCU (f:Zyy):Ze:=⟨[.agg [.I .i64,.I .u8,.I .i64,.I .i64,.S,.I .i64]],[.one (.L),.one (.I .i64)],fun t K _ h=>f t.1 (fun r0 r1 h=>K (r0,r1,()) h) h⟩
abbrev ZIp (f10:Zl5) (f43:Zu2):Cfg:=ZI Tryz.prog [(47,Zws f10),(154,ZAb f43)] 33 [] [] [] ZJ
theorem ZF3 (f10:Zl5) (f43:Zu2):ZK (ZIp f10 f43) Tryz.f170 (.seq (.leaf) (.seq (.leaf) (.seq (.leaf) (.seq (.leaf) (.seq (.order (.take 0 (.take 2 (.take 8 (.take 1 (.take 3 (.take 4 (.take 5 (.take 9 (.take 6 (.take 7 (.take 10 (.take 11 (.take 12 .done)))))))))))))) (.leaf)))))) (ZCU (Zex f10 f43)):=fun _ _ _ _=>by kernel_rfl
theorem ZHa:Zm Tryz.prog 170 (ZCU ZbU):=okF (ZF3 YY YE) Tryz.func170 Zf (Zo _ (.cons ZxQ (.cons ZE1 .nil)) .nil .nil .nil (Zp _))
abbrev ZAa (f:Zu1):Ze:=⟨[.one (.L)],[.one (.L),.one (.I .i64)],fun t K _ h=>f t.1 (fun r0 r1 h=>K (r0,r1,()) h) h⟩
abbrev ZIo:Cfg:=ZI Tryz.prog [] 27 [] [] [] ZJ
theorem ZF2:ZK (ZIo) Tryz.f133 (.leaf) (ZAa ZfE):=fun _ _ _ _=>by kernel_rfl
theorem ZE0:Zm Tryz.prog 133 (ZAa Zbq):=okF (ZF2) Tryz.func133 Zf (Zo _ .nil .nil .nil .nil (Zp _))
abbrev ZCT (f:Zyx):Ze:=⟨[.one (.L)],[.one (.L),.one (.I .i64)],fun t K _ h=>f t.1 (fun r0 r1 h=>K (r0,r1,()) h) h⟩
abbrev ZIn (f45:Zu1):Cfg:=ZI Tryz.prog [(133,ZAa f45)] 28 [] [] [] ZJ
theorem ZF1 (f45:Zu1):ZK (ZIn f45) Tryz.f171 (.seq (.leaf) (.seq (.leaf) (.seq (.seq (.leaf) (.block (.loop [4,11] [.one (.L),.one (.I .i64)] [(2,3),(6,8),(12,26)] (.leaf)))) (.leaf)))) (ZCT (Ze1 f45)):=fun _ _ _ _=>by kernel_rfl
theorem ZG9:Zm Tryz.prog 171 (ZCT ZcQ):=okF (ZF1 Zbq) Tryz.func171 Zf (Zo _ (.cons ZE0 .nil) .nil .nil .nil (Zp _))
abbrev ZCS (f:Zyw):Ze:=⟨[.one (.L)],[.one (.L),.one (.I .i64)],fun t K _ h=>f t.1 (fun r0 r1 h=>K (r0,r1,()) h) h⟩
abbrev ZIm (f44:Zyy) (f46:Zyx):Cfg:=ZI Tryz.prog [(170,ZCU f44),(171,ZCT f46)] 32 [] [] [] ZJ
theorem ZF0 (f44:Zyy) (f46:Zyx):ZK (ZIm f44 f46) Tryz.f148 (.seq (.leaf) (.seq (.leaf) (.seq (.seq (.leaf) (.block (.loop [4,11] [.one (.L),.one (.I .i64)] [(2,3),(6,8),(12,27)] (.leaf)))) (.leaf)))) (ZCS (Zg1 f44 f46)):=fun _ _ _ _=>by kernel_rfl
theorem ZG8:Zm Tryz.prog 148 (ZCS Zeu):=okF (ZF0 ZbU ZcQ) Tryz.func148 Zf (Zo _ (.cons ZHa (.cons ZG9 .nil)) .nil .nil .nil (Zp _))
abbrev Zz9 (f:Zu0):Ze:=⟨[.one (.P),.agg [.I .i64,.I .u8,.I .i64,.I .i64,.S,.I .i64]],[],fun t K _ h=>f t.1 t.2.1 (fun h=>K (()) h) h⟩
abbrev ZIl (f47:Zyw):Cfg:=ZI Tryz.prog [(148,ZCS f47)] 21 [] [] [] ZJ
theorem ZFZ (f47:Zyw):ZK (ZIl f47) Tryz.f119 (.leaf) (Zz9 (Zb9 f47)):=fun _ _ _ _=>by kernel_rfl
theorem ZEZ:Zm Tryz.prog 119 (Zz9 YR):=okF (ZFZ Zeu) Tryz.func119 Zf (Zo _ (.cons ZG8 .nil) .nil .nil .nil (Zp _))
abbrev ZCR (f:Zyv):Ze:=⟨[.one (.P),.one (.P),.one (.P),.one (.P),.one (.P)],[.one (.I .i64)],fun t K _ h=>f t.1 t.2.1 t.2.2.1 t.2.2.2.1 t.2.2.2.2.1 (fun r0 h=>K (r0,()) h) h⟩
abbrev ZIk (f10:Zl5) (f48:Zu0):Cfg:=ZI Tryz.prog [(47,Zws f10),(119,Zz9 f48)] 55 [] [] [] ZJ
theorem ZFY (f10:Zl5) (f48:Zu0):ZK (ZIk f10 f48) Tryz.f118 (.seq (.leaf) (.seq (.leaf) (.seq (.leaf) (.seq (.order (.take 0 (.take 1 (.take 2 (.take 3 (.take 4 (.take 5 (.take 6 (.take 7 (.take 8 (.take 9 (.take 10 .done)))))))))))) (.seq (.leaf) (.seq (.order (.take 0 (.take 1 (.take 2 (.take 3 (.take 4 (.take 5 (.take 6 .done)))))))) (.leaf))))))) (ZCR (Zcb f10 f48)):=fun _ _ _ _=>by kernel_rfl
theorem ZG7:Zm Tryz.prog 118 (ZCR X0):=okF (ZFY YY YR) Tryz.func118 Zf (Zo _ (.cons ZxQ (.cons ZEZ .nil)) .nil .nil .nil (Zp _))
abbrev ZCQ (f:Zyu):Ze:=⟨[.one (.P),.one (.I .i64),.clo 118 [.P,.P,.P,.P,.P]],[.one (.I .i64)],fun t K _ h=>f t.1 t.2.1 t.2.2.1 (fun r0 h=>K (r0,()) h) h⟩
abbrev ZIj (f15:Zic) (f16:Zib) (f49:Zyv):Cfg:=ZI Tryz.prog [(33,Ztb f15),(86,Zta f16),(118,ZCR f49)] 57 [] [] [] ZJ
theorem ZFX (f15:Zic) (f16:Zib) (f49:Zyv):ZK (ZIj f15 f16 f49) Tryz.f49 (.seq (.leaf) (.seq (.leaf) (.seq (.leaf) (.seq (.seq (.leaf) (.block (.loop [33] [.one (.I .i64)] [(8,8),(34,54)] (.seq (.leaf) (.seq (.leaf) (.seq (.block (.seq (.leaf) (.seq (.order (.take 0 (.take 1 (.take 2 (.take 3 (.take 5 (.take 8 (.take 9 (.take 10 (.take 11 (.take 4 (.take 12 (.take 6 (.take 7 (.take 13 .done))))))))))))))) (.leaf)))) (.leaf))))))) (.leaf))))) (ZCQ (X1 f15 f16 f49)):=fun _ _ _ _=>by kernel_rfl
theorem ZG6:Zm Tryz.prog 49 (ZCQ Yq):=okF (ZFX Zk Zq X0) Tryz.func49 Zf (Zo _ (.cons ZuN (.cons ZuM (.cons ZG7 .nil))) .nil .nil .nil (Zp _))
abbrev ZCP (f:Zyt):Ze:=⟨[.one (.P),.one (.I .i64),.agg [.I .i64,.I .u8,.I .i64,.I .i64,.S,.I .i64]],[.one (.I .i64),.one (.B),.one (.I .i64)],fun t K _ h=>f t.1 t.2.1 t.2.2.1 (fun r0 r1 r2 h=>K (r0,r1,r2,()) h) h⟩
abbrev ZIi (f50:Zyu):Cfg:=ZI Tryz.prog [(49,ZCQ f50)] 16 [] [] [] ZJ
theorem ZFW (f50:Zyu):ZK (ZIi f50) Tryz.f94 (.seq (.leaf) (.seq (.leaf) (.seq (.order (.take 2 (.take 0 (.take 1 (.take 3 (.take 4 (.take 5 .done))))))) (.leaf)))) (ZCP (Zde f50)):=fun _ _ _ _=>by kernel_rfl
theorem ZG5:Zm Tryz.prog 94 (ZCP ZaB):=okF (ZFW Yq) Tryz.func94 Zf (Zo _ (.cons ZG6 .nil) .nil .nil .nil (Zp _))
abbrev ZvG (f:ZlR):Ze:=⟨[.one (.P)],[.one (.B)],fun t K _ h=>f t.1 (fun r0 h=>K (r0,()) h) h⟩
abbrev ZIh:Cfg:=ZI Tryz.prog [] 11 [] [] [] ZJ
theorem ZFV:ZK (ZIh) Tryz.f40 (.leaf) (ZvG ZcS):=fun _ _ _ _=>by kernel_rfl
theorem ZxB:Zm Tryz.prog 40 (ZvG ZP):=okF (ZFV) Tryz.func40 Zf (Zo _ .nil .nil .nil .nil (Zp _))
abbrev ZCO (f:Zys):Ze:=⟨[.one (.P)],[.one (.L)],fun t K _ h=>f t.1 (fun r0 h=>K (r0,()) h) h⟩
abbrev ZIg:Cfg:=ZI Tryz.prog [] 14 [] [] [] ZJ
theorem ZFU:ZK (ZIg) Tryz.f120 (.leaf) (ZCO Zeb):=fun _ _ _ _=>by kernel_rfl
theorem ZG4:Zm Tryz.prog 120 (ZCO Za4):=okF (ZFU) Tryz.func120 Zf (Zo _ .nil .nil .nil .nil (Zp _))
abbrev Zxr (f:Zoq):Ze:=⟨[.one (.P),.one (.I .i64),.one (.I .i64),.one (.I .i64)],[.one (.P),.one (.I .i64)],fun t K _ h=>f t.1 t.2.1 t.2.2.1 t.2.2.2.1 (fun r0 r1 h=>K (r0,r1,()) h) h⟩
abbrev ZIf:Cfg:=ZI Tryz.prog [] 53 [] [] [] ZJ
theorem ZFT:ZK (ZIf) Tryz.f74 (.leaf) (Zxr Zew):=fun _ _ _ _=>by kernel_rfl
theorem ZzW:Zm Tryz.prog 74 (Zxr YC):=okF (ZFT) Tryz.func74 Zf (Zo _ .nil .nil .nil .nil (Zp _))
abbrev Zz8 (f:ZuZ):Ze:=⟨[.one (.P),.one (.I .i64),.one (.I .i64),.one (.L)],[.one (.I .i64)],fun t K _ h=>f t.1 t.2.1 t.2.2.1 t.2.2.2.1 (fun r0 h=>K (r0,()) h) h⟩
abbrev ZIe (f54:Zoq):Cfg:=ZI Tryz.prog [(74,Zxr f54)] 51 [] [] [] ZJ
theorem ZFS (f54:Zoq):ZK (ZIe f54) Tryz.f121 (.leaf) (Zz8 (Zdx f54)):=fun _ _ _ _=>by kernel_rfl
theorem ZEY:Zm Tryz.prog 121 (Zz8 Xp):=okF (ZFS YC) Tryz.func121 Zf (Zo _ (.cons ZzW .nil) .nil .nil .nil (Zp _))
abbrev Zz7 (f:ZuY):Ze:=⟨[.one (.P),.one (.L)],[.one (.I .i64)],fun t K _ h=>f t.1 t.2.1 (fun r0 h=>K (r0,()) h) h⟩
abbrev ZId (f54:Zoq):Cfg:=ZI Tryz.prog [(74,Zxr f54)] 69 [] [] [] ZJ
theorem ZFR (f54:Zoq):ZK (ZId f54) Tryz.f124 (.seq (.leaf) (.seq (.leaf) (.seq (.leaf) (.seq (.leaf) (.seq (.seq (.leaf) (.block (.loop [6,18] [.one (.B),.one (.I .i64)] [(4,4),(8,10),(19,43)] (.leaf)))) (.seq (.leaf) (.seq (.seq (.leaf) (.block (.loop [47] [.one (.I .i64)] [(12,12),(48,68)] (.seq (.leaf) (.seq (.leaf) (.seq (.block (.seq (.leaf) (.order (.take 0 (.take 1 (.take 2 (.take 4 (.take 5 (.take 6 (.take 7 (.take 8 (.take 10 (.take 11 (.take 3 (.take 9 (.take 12 (.take 13 (.take 14 (.take 15 (.take 16 (.take 17 .done))))))))))))))))))))) (.leaf))))))) (.leaf)))))))) (Zz7 (Zdz f54)):=fun _ _ _ _=>by kernel_rfl
theorem ZEX:Zm Tryz.prog 124 (Zz7 Xq):=okF (ZFR YC) Tryz.func124 Zf (Zo _ (.cons ZzW .nil) .nil .nil .nil (Zp _))
abbrev ZCN (f:Zyr):Ze:=⟨[.one (.P),.one (.I .i64)],[.one (.I .i64)],fun t K _ h=>f t.1 t.2.1 (fun r0 h=>K (r0,()) h) h⟩
abbrev ZIc:Cfg:=ZI Tryz.prog [] 25 [] [] [] ZJ
theorem ZFQ:ZK (ZIc) Tryz.f134 (.leaf) (ZCN Zcq):=fun _ _ _ _=>by kernel_rfl
theorem ZG3:Zm Tryz.prog 134 (ZCN Zad):=okF (ZFQ) Tryz.func134 Zf (Zo _ .nil .nil .nil .nil (Zp _))
abbrev ZCM (f:Zyq):Ze:=⟨[.one (.P)],[],fun t K _ h=>f t.1 (fun h=>K (()) h) h⟩
abbrev ZIb:Cfg:=ZI Tryz.prog [] 10 [] [] [] ZJ
theorem ZFP:ZK (ZIb) Tryz.f156 (.leaf) (ZCM Zcv):=fun _ _ _ _=>by kernel_rfl
theorem ZG2:Zm Tryz.prog 156 (ZCM Zae):=okF (ZFP) Tryz.func156 Zf (Zo _ .nil .nil .nil .nil (Zp _))
abbrev Zz6 (f:ZuX):Ze:=⟨[.one (.P)],[],fun t K _ h=>f t.1 (fun h=>K (()) h) h⟩
abbrev ZIa:Cfg:=ZI Tryz.prog [] 28 [] [] [] ZJ
theorem ZFO:ZK (ZIa) Tryz.f126 (.seq (.order (.take 0 (.take 1 (.take 2 (.take 3 (.take 5 (.take 6 (.take 7 (.take 4 (.take 8 (.take 9 (.take 10 (.take 11 (.take 12 .done)))))))))))))) (.order (.take 0 (.take 1 (.take 2 (.take 3 (.take 6 (.take 7 (.take 8 (.take 9 (.take 4 (.take 5 (.take 10 (.take 11 (.take 12 (.take 13 (.take 14 .done))))))))))))))))) (Zz6 ZbK):=fun _ _ _ _=>by kernel_rfl
theorem ZEW:Zm Tryz.prog 126 (Zz6 YG):=okF (ZFO) Tryz.func126 Zf (Zo _ .nil .nil .nil .nil (Zp _))
abbrev Zz5 (f:ZuW):Ze:=⟨[.one (.P)],[],fun t K _ h=>f t.1 (fun h=>K (()) h) h⟩
abbrev ZH9 (f15:Zic) (f16:Zib) (f58:Zyq) (f59:ZuX):Cfg:=ZI Tryz.prog [(33,Ztb f15),(86,Zta f16),(156,ZCM f58),(126,Zz6 f59)] 28 [] [] [] ZJ
theorem ZFN (f15:Zic) (f16:Zib) (f58:Zyq) (f59:ZuX):ZK (ZH9 f15 f16 f58 f59) Tryz.f139 (.seq (.leaf) (.seq (.seq (.leaf) (.block (.loop [10] [.one (.I .i64)] [(3,3),(11,17)] (.leaf)))) (.leaf))) (Zz5 (ZcC f15 f16 f58 f59)):=fun _ _ _ _=>by kernel_rfl
theorem ZEV:Zm Tryz.prog 139 (Zz5 Y2):=okF (ZFN Zk Zq Zae YG) Tryz.func139 Zf (Zo _ (.cons ZuN (.cons ZuM (.cons ZG2 (.cons ZEW .nil)))) .nil .nil .nil (Zp _))
abbrev ZCL (f:Zyp):Ze:=⟨[.one (.P)],[.one (.I .i64)],fun t K _ h=>f t.1 (fun r0 h=>K (r0,()) h) h⟩
abbrev ZH8 (f60:ZuW):Cfg:=ZI Tryz.prog [(139,Zz5 f60)] 9 [] [] [] ZJ
theorem ZFM (f60:ZuW):ZK (ZH8 f60) Tryz.f155 (.leaf) (ZCL (ZbM f60)):=fun _ _ _ _=>by kernel_rfl
theorem ZG1:Zm Tryz.prog 155 (ZCL XK):=okF (ZFM Y2) Tryz.func155 Zf (Zo _ (.cons ZEV .nil) .nil .nil .nil (Zp _))
abbrev ZCK (f:Zyo):Ze:=⟨[.one (.P),.one (.I .i64),.clo 155 [.P]],[.one (.I .i64)],fun t K _ h=>f t.1 t.2.1 t.2.2.1 (fun r0 h=>K (r0,()) h) h⟩
abbrev ZH7 (f15:Zic) (f16:Zib) (f61:Zyp):Cfg:=ZI Tryz.prog [(33,Ztb f15),(86,Zta f16),(155,ZCL f61)] 57 [] [] [] ZJ
theorem ZFL (f15:Zic) (f16:Zib) (f61:Zyp):ZK (ZH7 f15 f16 f61) Tryz.f49 (.seq (.leaf) (.seq (.leaf) (.seq (.leaf) (.seq (.seq (.leaf) (.block (.loop [33] [.one (.I .i64)] [(8,8),(34,54)] (.seq (.leaf) (.seq (.leaf) (.seq (.block (.seq (.leaf) (.seq (.order (.take 0 (.take 1 (.take 2 (.take 3 (.take 5 (.take 8 (.take 9 (.take 10 (.take 11 (.take 4 (.take 12 (.take 6 (.take 7 (.take 13 .done))))))))))))))) (.leaf)))) (.leaf))))))) (.leaf))))) (ZCK (XQ f15 f16 f61)):=fun _ _ _ _=>by kernel_rfl
theorem ZG0:Zm Tryz.prog 49 (ZCK Yk):=okF (ZFL Zk Zq XK) Tryz.func49 Zf (Zo _ (.cons ZuN (.cons ZuM (.cons ZG1 .nil))) .nil .nil .nil (Zp _))
abbrev ZCJ (f:Zyn):Ze:=⟨[.one (.P),.one (.I .i64)],[.one (.I .i64)],fun t K _ h=>f t.1 t.2.1 (fun r0 h=>K (r0,()) h) h⟩
abbrev ZH6 (f62:Zyo):Cfg:=ZI Tryz.prog [(49,ZCK f62)] 9 [] [] [] ZJ
theorem ZFK (f62:Zyo):ZK (ZH6 f62) Tryz.f135 (.leaf) (ZCJ (ZcG f62)):=fun _ _ _ _=>by kernel_rfl
theorem ZGZ:Zm Tryz.prog 135 (ZCJ Zah):=okF (ZFK Yk) Tryz.func135 Zf (Zo _ (.cons ZG0 .nil) .nil .nil .nil (Zp _))
abbrev ZvF (f:ZlQ):Ze:=⟨[.one (.P),.one (.P)],[],fun t K _ h=>f t.1 t.2.1 (fun h=>K (()) h) h⟩
abbrev ZH5 (f56:ZuY) (f57:Zyr) (f52:ZlR) (f63:Zyn):Cfg:=ZI Tryz.prog [(124,Zz7 f56),(134,ZCN f57),(40,ZvG f52),(135,ZCJ f63)] 44 [] [] [] ZJ
theorem ZFJ (f56:ZuY) (f57:Zyr) (f52:ZlR) (f63:Zyn):ZK (ZH5 f56 f57 f52 f63) Tryz.f103 (.seq (.leaf) (.seq (.leaf) (.seq (.leaf) (.seq (.leaf) (.seq (.leaf) (.seq (.leaf) (.cond (.order (.take 0 (.take 1 (.take 2 (.take 4 (.take 5 (.take 6 (.take 3 (.take 7 (.take 8 .done)))))))))) (.leaf)))))))) (ZvF (Zdc f56 f57 f52 f63)):=fun _ _ _ _=>by kernel_rfl
theorem ZxA:Zm Tryz.prog 103 (ZvF Z4):=okF (ZFJ Xq Zad ZP Zah) Tryz.func103 Zf (Zo _ (.cons ZEX (.cons ZG3 (.cons ZxB (.cons ZGZ .nil)))) .nil .nil .nil (Zp _))
abbrev ZxS (f:Zqj):Ze:=⟨[.one (.P),.one (.P)],[],fun t K _ h=>f t.1 t.2.1 (fun h=>K (()) h) h⟩
abbrev ZH4 (f52:ZlR) (f53:Zys) (f55:ZuZ) (f64:ZlQ):Cfg:=ZI Tryz.prog [(40,ZvG f52),(120,ZCO f53),(121,Zz8 f55),(103,ZvF f64)] 42 [] [] [] ZJ
theorem ZFI (f52:ZlR) (f53:Zys) (f55:ZuZ) (f64:ZlQ):ZK (ZH4 f52 f53 f55 f64) Tryz.f95 (.seq (.leaf) (.seq (.leaf) (.seq (.order (.take 0 (.take 1 (.take 2 (.take 3 (.take 4 (.take 5 (.take 6 (.take 8 (.take 9 (.take 10 (.take 12 (.take 7 (.take 11 (.take 13 (.take 14 (.take 15 .done))))))))))))))))) (.leaf)))) (ZxS (Zb5 f52 f53 f55 f64)):=fun _ _ _ _=>by kernel_rfl
theorem ZBw:Zm Tryz.prog 95 (ZxS Yp):=okF (ZFI ZP Za4 Xp Z4) Tryz.func95 Zf (Zo _ (.cons ZxB (.cons ZG4 (.cons ZEY (.cons ZxA .nil)))) .nil .nil .nil (Zp _))
abbrev ZCI (f:Zym):Ze:=⟨[.one (.P),.agg [.I .u8,.I .i64,.I .i64,.I .i64,.I .i64,.I .u8,.I .i64,.I .i64,.S,.I .i64]],[.agg [.I .i64,.B,.I .i64]],fun t K _ h=>f t.1 t.2.1 (fun r0 h=>K (r0,()) h) h⟩
abbrev ZH3 (f51:Zyt) (f65:Zqj):Cfg:=ZI Tryz.prog [(94,ZCP f51),(95,ZxS f65)] 38 [] [] [] ZJ
theorem ZFH (f51:Zyt) (f65:Zqj):ZK (ZH3 f51 f65) Tryz.f61 (.seq (.leaf) (.seq (.leaf) (.seq (.order (.take 0 (.take 1 (.take 2 (.take 4 (.take 5 (.take 6 (.take 8 (.take 3 (.take 7 (.take 9 (.take 10 (.take 11 (.take 12 (.take 13 (.take 14 (.take 15 (.take 16 (.take 17 .done))))))))))))))))))) (.leaf)))) (ZCI (Zdd f51 f65)):=fun _ _ _ _=>by kernel_rfl
theorem ZGY:Zm Tryz.prog 61 (ZCI XP):=okF (ZFH ZaB Yp) Tryz.func61 Zf (Zo _ (.cons ZG5 (.cons ZBw .nil)) .nil .nil .nil (Zp _))
abbrev ZCH (f:Zyl):Ze:=⟨[.one (.P),.one (.P),.one (.P)],[.one (.I .i64)],fun t K _ h=>f t.1 t.2.1 t.2.2.1 (fun r0 h=>K (r0,()) h) h⟩
abbrev ZH2:Cfg:=ZI Tryz.prog [] 17 [] [] [] ZJ
theorem ZFG:ZK (ZH2) Tryz.f122 (.seq (.leaf) (.seq (.order (.take 0 (.take 1 (.take 2 (.take 3 (.take 4 (.take 5 (.take 6 (.take 7 (.take 8 (.take 9 (.take 10 (.take 11 (.take 12 (.take 13 .done))))))))))))))) (.leaf))) (ZCH ZbN):=fun _ _ _ _=>by kernel_rfl
theorem ZGX:Zm Tryz.prog 122 (ZCH XL):=okF (ZFG) Tryz.func122 Zf (Zo _ .nil .nil .nil .nil (Zp _))
abbrev ZCG (f:Zyk):Ze:=⟨[.one (.P),.one (.I .i64),.clo 122 [.P,.P,.P]],[.one (.I .i64)],fun t K _ h=>f t.1 t.2.1 t.2.2.1 (fun r0 h=>K (r0,()) h) h⟩
abbrev ZH1 (f15:Zic) (f16:Zib) (f67:Zyl):Cfg:=ZI Tryz.prog [(33,Ztb f15),(86,Zta f16),(122,ZCH f67)] 57 [] [] [] ZJ
theorem ZFF (f15:Zic) (f16:Zib) (f67:Zyl):ZK (ZH1 f15 f16 f67) Tryz.f49 (.seq (.leaf) (.seq (.leaf) (.seq (.leaf) (.seq (.seq (.leaf) (.block (.loop [33] [.one (.I .i64)] [(8,8),(34,54)] (.seq (.leaf) (.seq (.leaf) (.seq (.block (.seq (.leaf) (.seq (.order (.take 0 (.take 1 (.take 2 (.take 3 (.take 5 (.take 8 (.take 9 (.take 10 (.take 11 (.take 4 (.take 12 (.take 6 (.take 7 (.take 13 .done))))))))))))))) (.leaf)))) (.leaf))))))) (.leaf))))) (ZCG (XR f15 f16 f67)):=fun _ _ _ _=>by kernel_rfl
theorem ZGW:Zm Tryz.prog 49 (ZCG Yl):=okF (ZFF Zk Zq XL) Tryz.func49 Zf (Zo _ (.cons ZuN (.cons ZuM (.cons ZGX .nil))) .nil .nil .nil (Zp _))
abbrev ZCF (f:Zyj):Ze:=⟨[.one (.P),.one (.I .i64)],[.one (.B),.one (.I .i64)],fun t K _ h=>f t.1 t.2.1 (fun r0 r1 h=>K (r0,r1,()) h) h⟩
abbrev ZH0 (f68:Zyk):Cfg:=ZI Tryz.prog [(49,ZCG f68)] 12 [] [] [] ZJ
theorem ZFE (f68:Zyk):ZK (ZH0 f68) Tryz.f96 (.leaf) (ZCF (ZcH f68)):=fun _ _ _ _=>by kernel_rfl
theorem ZGV:Zm Tryz.prog 96 (ZCF Zai):=okF (ZFE Yl) Tryz.func96 Zf (Zo _ (.cons ZGW .nil) .nil .nil .nil (Zp _))
abbrev ZCE (f:Zyi):Ze:=⟨[.one (.P)],[.one (.L)],fun t K _ h=>f t.1 (fun r0 h=>K (r0,()) h) h⟩
abbrev ZHZ:Cfg:=ZI Tryz.prog [] 28 [] [] [] ZJ
theorem ZFD:ZK (ZHZ) Tryz.f149 (.seq (.leaf) (.seq (.leaf) (.seq (.leaf) (.seq (.seq (.leaf) (.block (.loop [3,13] [.one (.L),.one (.I .i64)] [(4,5),(14,26)] (.leaf)))) (.leaf))))) (ZCE Zdy):=fun _ _ _ _=>by kernel_rfl
theorem ZGU:Zm Tryz.prog 149 (ZCE ZaO):=okF (ZFD) Tryz.func149 Zf (Zo _ .nil .nil .nil .nil (Zp _))
abbrev ZCD (f:Zyh):Ze:=⟨[.one (.P),.one (.I .i64)],[.one (.I .i64),.one (.I .i64)],fun t K _ h=>f t.1 t.2.1 (fun r0 r1 h=>K (r0,r1,()) h) h⟩
abbrev ZHY (f6:zT6) (f70:Zyi):Cfg:=ZI Tryz.prog [(46,zk6 f6),(149,ZCE f70)] 43 [] [] [] ZJ
theorem ZFC (f6:zT6) (f70:Zyi):ZK (ZHY f6 f70) Tryz.f123 (.leaf) (ZCD (ZdT f6 f70)):=fun _ _ _ _=>by kernel_rfl
theorem ZGT:Zm Tryz.prog 123 (ZCD Zbb):=okF (ZFC Ym ZaO) Tryz.func123 Zf (Zo _ (.cons zo6 (.cons ZGU .nil)) .nil .nil .nil (Zp _))
abbrev ZCC (f:Zyg):Ze:=⟨[.one (.P),.one (.I .i64)],[.one (.I .i64)],fun t K _ h=>f t.1 t.2.1 (fun r0 h=>K (r0,()) h) h⟩
abbrev ZHX:Cfg:=ZI Tryz.prog [] 38 [] [] [] ZJ
theorem ZFB:ZK (ZHX) Tryz.f36 (.leaf) (ZCC Zc5):=fun _ _ _ _=>by kernel_rfl
theorem ZGS:Zm Tryz.prog 36 (ZCC Zax):=okF (ZFB) Tryz.func36 Zf (Zo _ .nil .nil .nil .nil (Zp _))
abbrev ZCB (f:Zyf):Ze:=⟨[.one (.P)],[.one (.I .i64)],fun t K _ h=>f t.1 (fun r0 h=>K (r0,()) h) h⟩
abbrev ZHW (f71:Zyh) (f72:Zyg) (f56:ZuY):Cfg:=ZI Tryz.prog [(123,ZCD f71),(36,ZCC f72),(124,Zz7 f56)] 35 [] [] [] ZJ
theorem ZFA (f71:Zyh) (f72:Zyg) (f56:ZuY):ZK (ZHW f71 f72 f56) Tryz.f97 (.leaf) (ZCB (ZaY f71 f72 f56)):=fun _ _ _ _=>by kernel_rfl
theorem ZGR:Zm Tryz.prog 97 (ZCB Y7):=okF (ZFA Zbb Zax Xq) Tryz.func97 Zf (Zo _ (.cons ZGT (.cons ZGS (.cons ZEX .nil))) .nil .nil .nil (Zp _))
abbrev ZCA (f:Zye):Ze:=⟨[.one (.P)],[.one (.I .i64)],fun t K _ h=>f t.1 (fun r0 h=>K (r0,()) h) h⟩
abbrev ZHV (f59:ZuX):Cfg:=ZI Tryz.prog [(126,Zz6 f59)] 8 [] [] [] ZJ
theorem ZFz (f59:ZuX):ZK (ZHV f59) Tryz.f125 (.leaf) (ZCA (ZaZ f59)):=fun _ _ _ _=>by kernel_rfl
theorem ZGQ:Zm Tryz.prog 125 (ZCA Y8):=okF (ZFz YG) Tryz.func125 Zf (Zo _ (.cons ZEW .nil) .nil .nil .nil (Zp _))
abbrev ZCz (f:Zyd):Ze:=⟨[.one (.P),.one (.I .i64),.clo 125 [.P]],[.one (.I .i64)],fun t K _ h=>f t.1 t.2.1 t.2.2.1 (fun r0 h=>K (r0,()) h) h⟩
abbrev ZHU (f15:Zic) (f16:Zib) (f74:Zye):Cfg:=ZI Tryz.prog [(33,Ztb f15),(86,Zta f16),(125,ZCA f74)] 57 [] [] [] ZJ
theorem ZFy (f15:Zic) (f16:Zib) (f74:Zye):ZK (ZHU f15 f16 f74) Tryz.f49 (.seq (.leaf) (.seq (.leaf) (.seq (.leaf) (.seq (.seq (.leaf) (.block (.loop [33] [.one (.I .i64)] [(8,8),(34,54)] (.seq (.leaf) (.seq (.leaf) (.seq (.block (.seq (.leaf) (.seq (.order (.take 0 (.take 1 (.take 2 (.take 3 (.take 5 (.take 8 (.take 9 (.take 10 (.take 11 (.take 4 (.take 12 (.take 6 (.take 7 (.take 13 .done))))))))))))))) (.leaf)))) (.leaf))))))) (.leaf))))) (ZCz (Xt f15 f16 f74)):=fun _ _ _ _=>by kernel_rfl
theorem ZGP:Zm Tryz.prog 49 (ZCz Yb):=okF (ZFy Zk Zq Y8) Tryz.func49 Zf (Zo _ (.cons ZuN (.cons ZuM (.cons ZGQ .nil))) .nil .nil .nil (Zp _))
abbrev ZCy (f:Zyc):Ze:=⟨[.one (.P),.one (.I .i64)],[.one (.I .i64)],fun t K _ h=>f t.1 t.2.1 (fun r0 h=>K (r0,()) h) h⟩
abbrev ZHT (f75:Zyd):Cfg:=ZI Tryz.prog [(49,ZCz f75)] 9 [] [] [] ZJ
theorem ZFx (f75:Zyd):ZK (ZHT f75) Tryz.f98 (.leaf) (ZCy (Zbv f75)):=fun _ _ _ _=>by kernel_rfl
theorem ZGO:Zm Tryz.prog 98 (ZCy Xr):=okF (ZFx Yb) Tryz.func98 Zf (Zo _ (.cons ZGP .nil) .nil .nil .nil (Zp _))
abbrev ZCx (f:Zyb):Ze:=⟨[.one (.P)],[.one (.I .i64)],fun t K _ h=>f t.1 (fun r0 h=>K (r0,()) h) h⟩
abbrev ZHS (f48:Zu0):Cfg:=ZI Tryz.prog [(119,Zz9 f48)] 24 [] [] [] ZJ
theorem ZFw (f48:Zu0):ZK (ZHS f48) Tryz.f127 (.seq (.leaf) (.seq (.leaf) (.seq (.order (.take 0 (.take 1 (.take 2 (.take 3 (.take 4 (.take 5 (.take 6 (.take 7 (.take 8 (.take 9 (.take 10 (.take 11 (.take 12 .done)))))))))))))) (.seq (.order (.take 0 (.take 1 (.take 2 (.take 3 (.take 4 (.take 5 (.take 6 .done)))))))) (.leaf))))) (ZCx (ZcD f48)):=fun _ _ _ _=>by kernel_rfl
theorem ZGN:Zm Tryz.prog 127 (ZCx Zaf):=okF (ZFw YR) Tryz.func127 Zf (Zo _ (.cons ZEZ .nil) .nil .nil .nil (Zp _))
abbrev ZCw (f:Zya):Ze:=⟨[.one (.P),.one (.I .i64),.clo 127 [.P]],[.one (.I .i64)],fun t K _ h=>f t.1 t.2.1 t.2.2.1 (fun r0 h=>K (r0,()) h) h⟩
abbrev ZHR (f15:Zic) (f16:Zib) (f77:Zyb):Cfg:=ZI Tryz.prog [(33,Ztb f15),(86,Zta f16),(127,ZCx f77)] 57 [] [] [] ZJ
theorem ZFv (f15:Zic) (f16:Zib) (f77:Zyb):ZK (ZHR f15 f16 f77) Tryz.f49 (.seq (.leaf) (.seq (.leaf) (.seq (.leaf) (.seq (.seq (.leaf) (.block (.loop [33] [.one (.I .i64)] [(8,8),(34,54)] (.seq (.leaf) (.seq (.leaf) (.seq (.block (.seq (.leaf) (.seq (.order (.take 0 (.take 1 (.take 2 (.take 3 (.take 5 (.take 8 (.take 9 (.take 10 (.take 11 (.take 4 (.take 12 (.take 6 (.take 7 (.take 13 .done))))))))))))))) (.leaf)))) (.leaf))))))) (.leaf))))) (ZCw (X5 f15 f16 f77)):=fun _ _ _ _=>by kernel_rfl
theorem ZGM:Zm Tryz.prog 49 (ZCw Ys):=okF (ZFv Zk Zq Zaf) Tryz.func49 Zf (Zo _ (.cons ZuN (.cons ZuM (.cons ZGN .nil))) .nil .nil .nil (Zp _))
abbrev ZCv (f:Zx9):Ze:=⟨[.one (.P),.one (.I .i64)],[.one (.I .i64)],fun t K _ h=>f t.1 t.2.1 (fun r0 h=>K (r0,()) h) h⟩
abbrev ZHQ (f78:Zya):Cfg:=ZI Tryz.prog [(49,ZCw f78)] 9 [] [] [] ZJ
theorem ZFu (f78:Zya):ZK (ZHQ f78) Tryz.f99 (.leaf) (ZCv (ZdC f78)):=fun _ _ _ _=>by kernel_rfl
theorem ZGL:Zm Tryz.prog 99 (ZCv ZaR):=okF (ZFu Ys) Tryz.func99 Zf (Zo _ (.cons ZGM .nil) .nil .nil .nil (Zp _))
abbrev ZCu (f:Zx8):Ze:=⟨[.one (.P),.agg [.I .u8,.I .i64,.I .i64,.I .i64,.I .i64,.I .u8,.I .i64,.I .i64,.S,.I .i64]],[.agg [.I .i64,.B,.I .i64]],fun t K _ h=>f t.1 t.2.1 (fun r0 h=>K (r0,()) h) h⟩
abbrev ZHP (f52:ZlR) (f69:Zyj) (f73:Zyf) (f76:Zyc) (f11:Zu8) (f79:Zx9) (f65:Zqj):Cfg:=ZI Tryz.prog [(40,ZvG f52),(96,ZCF f69),(97,ZCB f73),(98,ZCy f76),(48,ZAh f11),(99,ZCv f79),(95,ZxS f65)] 73 [] [] [] ZJ
theorem ZFt (f52:ZlR) (f69:Zyj) (f73:Zyf) (f76:Zyc) (f11:Zu8) (f79:Zx9) (f65:Zqj):ZK (ZHP f52 f69 f73 f76 f11 f79 f65) Tryz.f62 (.seq (.leaf) (.seq (.leaf) (.seq (.leaf) (.seq (.seq (.order (.take 0 (.take 1 (.take 2 (.take 4 (.take 5 (.take 6 (.take 3 (.take 7 (.take 8 (.take 9 (.take 10 (.take 11 (.take 12 (.take 13 .done))))))))))))))) (.leaf)) (.seq (.leaf) (.seq (.seq (.leaf) (.cond (.seq (.order (.take 0 (.take 1 (.take 2 (.take 4 (.take 5 (.take 6 (.take 3 (.take 7 (.take 8 .done)))))))))) (.leaf)) (.leaf))) (.seq (.leaf) (.seq (.order (.take 0 (.take 1 (.take 2 (.take 4 (.take 5 (.take 6 (.take 3 (.take 7 (.take 8 .done)))))))))) (.leaf))))))))) (ZCu (Zcz f52 f69 f73 f76 f11 f79 f65)):=fun _ _ _ _=>by kernel_rfl
theorem ZGK:Zm Tryz.prog 62 (ZCu Xz):=okF (ZFt ZP Zai Y7 Xr ZbV ZaR Yp) Tryz.func62 Zf (Zo _ (.cons ZxB (.cons ZGV (.cons ZGR (.cons ZGO (.cons ZE7 (.cons ZGL (.cons ZBw .nil))))))) .nil .nil .nil (Zp _))
abbrev Zz4 (f:ZuV):Ze:=⟨[.one (.L)],[.one (.L)],fun t K _ h=>f t.1 (fun r0 h=>K (r0,()) h) h⟩
abbrev ZHO:Cfg:=ZI Tryz.prog [] 8 [] [] [] ZJ
theorem ZFs:ZK (ZHO) Tryz.f78 (.leaf) (Zz4 ZaX):=fun _ _ _ _=>by kernel_rfl
theorem ZEU:Zm Tryz.prog 78 (Zz4 Yr):=okF (ZFs) Tryz.func78 Zf (Zo _ .nil .nil .nil .nil (Zp _))
abbrev ZCt (f:Zx7):Ze:=⟨[.one (.P),.one (.I .i64),.one (.I .i64),.one (.I .i64)],[.one (.I .i64),.one (.I .i64)],fun t K _ h=>f t.1 t.2.1 t.2.2.1 t.2.2.2.1 (fun r0 r1 h=>K (r0,r1,()) h) h⟩
abbrev ZHN (f54:Zoq) (f81:ZuV):Cfg:=ZI Tryz.prog [(74,Zxr f54),(78,Zz4 f81)] 62 [] [] [] ZJ
theorem ZFr (f54:Zoq) (f81:ZuV):ZK (ZHN f54 f81) Tryz.f128 (.seq (.leaf) (.seq (.leaf) (.seq (.leaf) (.seq (.leaf) (.seq (.leaf) (.seq (.order (.take 0 (.take 1 (.take 2 (.take 3 (.take 5 (.take 6 (.take 7 (.take 9 (.take 4 (.take 8 (.take 10 (.take 11 (.take 12 (.take 13 (.take 14 .done)))))))))))))))) (.leaf))))))) (ZCt (ZdS f54 f81)):=fun _ _ _ _=>by kernel_rfl
theorem ZGJ:Zm Tryz.prog 128 (ZCt Zba):=okF (ZFr YC Yr) Tryz.func128 Zf (Zo _ (.cons ZzW (.cons ZEU .nil)) .nil .nil .nil (Zp _))
abbrev ZCs (f:Zx6):Ze:=⟨[.one (.P),.one (.I .i64),.one (.I .i64),.one (.I .i64)],[.one (.L),.one (.B),.one (.I .i64)],fun t K _ h=>f t.1 t.2.1 t.2.2.1 t.2.2.2.1 (fun r0 r1 r2 h=>K (r0,r1,r2,()) h) h⟩
abbrev ZHM (f54:Zoq) (f81:ZuV):Cfg:=ZI Tryz.prog [(74,Zxr f54),(78,Zz4 f81)] 78 [] [] [] ZJ
theorem ZFq (f54:Zoq) (f81:ZuV):ZK (ZHM f54 f81) Tryz.f129 (.leaf) (ZCs (ZdR f54 f81)):=fun _ _ _ _=>by kernel_rfl
theorem ZGI:Zm Tryz.prog 129 (ZCs Za9):=okF (ZFq YC Yr) Tryz.func129 Zf (Zo _ (.cons ZzW (.cons ZEU .nil)) .nil .nil .nil (Zp _))
abbrev Zz3 (f:ZuU):Ze:=⟨[.one (.P),.one (.P),.one (.I .i64),.one (.I .i64)],[.one (.L),.one (.I .i64)],fun t K _ h=>f t.1 t.2.1 t.2.2.1 t.2.2.2.1 (fun r0 r1 h=>K (r0,r1,()) h) h⟩
abbrev ZHL (f52:ZlR) (f82:Zx7) (f83:Zx6):Cfg:=ZI Tryz.prog [(40,ZvG f52),(128,ZCt f82),(129,ZCs f83)] 57 [] [] [] ZJ
theorem ZFp (f52:ZlR) (f82:Zx7) (f83:Zx6):ZK (ZHL f52 f82 f83) Tryz.f100 (.seq (.leaf) (.seq (.leaf) (.seq (.order (.take 0 (.take 1 (.take 2 (.take 4 (.take 5 (.take 6 (.take 8 (.take 9 (.take 3 (.take 7 (.take 10 .done)))))))))))) (.seq (.order (.take 0 (.take 1 (.take 2 (.take 4 (.take 5 (.take 6 (.take 8 (.take 9 (.take 3 (.take 7 (.take 10 (.take 11 (.take 12 (.take 13 (.take 14 (.take 15 (.take 16 (.take 17 .done))))))))))))))))))) (.leaf))))) (Zz3 (Zb6 f52 f82 f83)):=fun _ _ _ _=>by kernel_rfl
theorem ZET:Zm Tryz.prog 100 (Zz3 YQ):=okF (ZFp ZP Zba Za9) Tryz.func100 Zf (Zo _ (.cons ZxB (.cons ZGJ (.cons ZGI .nil))) .nil .nil .nil (Zp _))
abbrev ZCr (f:Zx5):Ze:=⟨[.one (.L)],[.one (.L)],fun t K _ h=>f t.1 (fun r0 h=>K (r0,()) h) h⟩
abbrev ZHK:Cfg:=ZI Tryz.prog [] 8 [] [] [] ZJ
theorem ZFo:ZK (ZHK) Tryz.f81 (.leaf) (ZCr ZfG):=fun _ _ _ _=>by kernel_rfl
theorem ZGH:Zm Tryz.prog 81 (ZCr Zdr):=okF (ZFo) Tryz.func81 Zf (Zo _ .nil .nil .nil .nil (Zp _))
abbrev ZCq (f:Zx4):Ze:=⟨[.one (.L)],[.one (.I .i64),.one (.B)],fun t K _ h=>f t.1 (fun r0 r1 h=>K (r0,r1,()) h) h⟩
abbrev ZHJ:Cfg:=ZI Tryz.prog [] 44 [] [] [] ZJ
theorem ZFn:ZK (ZHJ) Tryz.f130 (.seq (.leaf) (.seq (.leaf) (.seq (.seq (.leaf) (.block (.loop [4,13] [.one (.I .i64),.one (.I .i64)] [(6,6),(14,22)] (.leaf)))) (.cut [] [] [(2,3),(23,36)] (.leaf) (.leaf))))) (ZCq Ze0):=fun _ _ _ _=>by kernel_rfl
theorem ZGG:Zm Tryz.prog 130 (ZCq ZcP):=okF (ZFn) Tryz.func130 Zf (Zo _ .nil .nil .nil .nil (Zp _))
abbrev Zz2 (f:ZuT):Ze:=⟨[.one (.P),.one (.L)],[.one (.L),.one (.I .i64)],fun t K _ h=>f t.1 t.2.1 (fun r0 r1 h=>K (r0,r1,()) h) h⟩
abbrev ZHI (f85:Zx5) (f86:Zx4):Cfg:=ZI Tryz.prog [(81,ZCr f85),(130,ZCq f86)] 64 [] [] [] ZJ
theorem ZFm (f85:Zx5) (f86:Zx4):ZK (ZHI f85 f86) Tryz.f101 (.seq (.leaf) (.seq (.leaf) (.seq (.leaf) (.seq (.leaf) (.cut [6,7] [.one (.L),.one (.L)] [(4,5),(8,9),(25,58)] (.block (.loop [6,7] [.one (.L),.one (.L)] [(4,5),(8,9),(25,58)] (.leaf))) (.leaf)))))) (Zz2 (ZdB f85 f86)):=fun _ _ _ _=>by kernel_rfl
theorem ZES:Zm Tryz.prog 101 (Zz2 Y5):=okF (ZFm Zdr ZcP) Tryz.func101 Zf (Zo _ (.cons ZGH (.cons ZGG .nil)) .nil .nil .nil (Zp _))
abbrev Zz1 (f:ZuS):Ze:=⟨[.one (.P),.one (.I .i64)],[.one (.L)],fun t K _ h=>f t.1 t.2.1 (fun r0 h=>K (r0,()) h) h⟩
abbrev ZHH:Cfg:=ZI Tryz.prog [] 53 [] [] [] ZJ
theorem ZFl:ZK (ZHH) Tryz.f151 (.seq (.leaf) (.cut [] [] [(4,29)] (.seq (.order (.take 0 (.take 1 (.take 2 (.take 3 (.take 4 (.take 5 (.take 6 (.take 7 (.take 8 (.take 11 (.take 12 (.take 13 (.take 16 (.take 9 (.take 10 (.take 14 (.take 15 (.take 17 (.take 18 (.take 19 (.take 20 (.take 21 .done))))))))))))))))))))))) (.leaf)) (.leaf))) (Zz1 Zc9):=fun _ _ _ _=>by kernel_rfl
theorem ZER:Zm Tryz.prog 151 (Zz1 Xc):=okF (ZFl) Tryz.func151 Zf (Zo _ .nil .nil .nil .nil (Zp _))
abbrev Zz0 (f:ZuR):Ze:=⟨[.one (.P),.one (.I .i64)],[.one (.I .i64)],fun t K _ h=>f t.1 t.2.1 (fun r0 h=>K (r0,()) h) h⟩
abbrev ZHG (f88:ZuS):Cfg:=ZI Tryz.prog [(151,Zz1 f88)] 24 [] [] [] ZJ
theorem ZFk (f88:ZuS):ZK (ZHG f88) Tryz.f150 (.seq (.leaf) (.seq (.leaf) (.seq (.seq (.leaf) (.block (.loop [5,12] [.one (.I .u64),.one (.I .i64)] [(7,7),(13,21)] (.leaf)))) (.leaf)))) (Zz0 (Zb2 f88)):=fun _ _ _ _=>by kernel_rfl
theorem ZEQ:Zm Tryz.prog 150 (Zz0 Yo):=okF (ZFk Xc) Tryz.func150 Zf (Zo _ (.cons ZER .nil) .nil .nil .nil (Zp _))
abbrev ZzZ (f:ZuQ):Ze:=⟨[.one (.P),.one (.B)],[.one (.I .i64),.one (.I .i64)],fun t K _ h=>f t.1 t.2.1 (fun r0 r1 h=>K (r0,r1,()) h) h⟩
abbrev ZHF:Cfg:=ZI Tryz.prog [] 34 [] [] [] ZJ
theorem ZFj:ZK (ZHF) Tryz.f152 (.leaf) (ZzZ Zcu):=fun _ _ _ _=>by kernel_rfl
theorem ZEP:Zm Tryz.prog 152 (ZzZ Y1):=okF (ZFj) Tryz.func152 Zf (Zo _ .nil .nil .nil .nil (Zp _))
abbrev ZCp (f:Zx3):Ze:=⟨[.one (.L)],[.agg [.I .i64,.I .u8,.I .i64,.I .i64,.S,.I .i64],.one (.I .i64),.one (.I .i64)],fun t K _ h=>f t.1 (fun r0 r1 r2 h=>K (r0,r1,r2,()) h) h⟩
abbrev ZHE (f89:ZuR) (f88:ZuS) (f10:Zl5) (f90:ZuQ):Cfg:=ZI Tryz.prog [(150,Zz0 f89),(151,Zz1 f88),(47,Zws f10),(152,ZzZ f90)] 60 [] [] [] ZJ
theorem ZFi (f89:ZuR) (f88:ZuS) (f10:Zl5) (f90:ZuQ):ZK (ZHE f89 f88 f10 f90) Tryz.f131 (.seq (.leaf) (.seq (.leaf) (.cut [6] [.one (.P)] [(13,34)] (.order (.take 0 (.take 1 (.take 2 (.take 5 (.take 6 (.take 7 (.take 9 (.take 10 (.take 11 (.take 13 (.take 14 (.take 15 (.take 17 (.take 18 (.take 19 (.fork 3 (.take 4 (.fork 8 (.fork 12 (.fork 16 (.fork 20 (.take 21 (.take 22 (.take 23 .done))) 22 (.take 20 (.take 21 (.take 23 .done)))) 22 (.take 16 (.take 20 (.take 21 (.take 23 .done))))) 22 (.take 12 (.take 16 (.take 20 (.take 21 (.take 23 .done)))))) 22 (.take 8 (.take 12 (.take 16 (.take 20 (.take 21 (.take 23 .done)))))))) 22 (.take 3 (.take 4 (.take 8 (.take 12 (.take 16 (.take 20 (.take 21 (.take 23 .done))))))))))))))))))))))))) (.seq (.order (.take 0 (.take 1 (.take 2 (.take 3 (.take 4 (.take 5 (.take 6 (.take 7 (.take 8 (.take 9 (.take 10 .done)))))))))))) (.seq (.seq (.order (.take 0 (.take 1 (.take 2 (.take 3 (.take 4 (.take 5 (.take 6 (.take 7 (.take 8 (.take 9 (.take 10 .done)))))))))))) (.leaf)) (.leaf)))))) (ZCp (Zdb f89 f88 f10 f90)):=fun _ _ _ _=>by kernel_rfl
theorem ZGF:Zm Tryz.prog 131 (ZCp ZaA):=okF (ZFi Yo Xc YY Y1) Tryz.func131 Zf (Zo _ (.cons ZEQ (.cons ZER (.cons ZxQ (.cons ZEP .nil)))) .nil .nil .nil (Zp _))
abbrev ZzY (f:ZuP):Ze:=⟨[.one (.P),.one (.I .i64)],[.one (.I .i64)],fun t K _ h=>f t.1 t.2.1 (fun r0 h=>K (r0,()) h) h⟩
abbrev ZHD (f0:zT0):Cfg:=ZI Tryz.prog [(45,zk0 f0)] 19 [] [] [] ZJ
theorem ZFh (f0:zT0):ZK (ZHD f0) Tryz.f72 (.leaf) (ZzY (Zc2 f0)):=fun _ _ _ _=>by kernel_rfl
theorem ZEO:Zm Tryz.prog 72 (ZzY Xa):=okF (ZFh ZaV) Tryz.func72 Zf (Zo _ (.cons zo0 .nil) .nil .nil .nil (Zp _))
abbrev ZCo (f:Zx2):Ze:=⟨[.one (.L)],[.one (.L)],fun t K _ h=>f t.1 (fun r0 h=>K (r0,()) h) h⟩
abbrev ZHC:Cfg:=ZI Tryz.prog [] 8 [] [] [] ZJ
theorem ZFg:ZK (ZHC) Tryz.f76 (.leaf) (ZCo YT):=fun _ _ _ _=>by kernel_rfl
theorem ZGE:Zm Tryz.prog 76 (ZCo Z6):=okF (ZFg) Tryz.func76 Zf (Zo _ .nil .nil .nil .nil (Zp _))
abbrev ZzX (f:ZuO):Ze:=⟨[.agg [.I .i64,.I .i64,.I .i64,.I .i64],.one (.P)],[.one (.B)],fun t K _ h=>f t.1 t.2.1 (fun r0 h=>K (r0,()) h) h⟩
abbrev ZHB:Cfg:=ZI Tryz.prog [] 8 [] [] [] ZJ
theorem ZFf:ZK (ZHB) Tryz.f169 (.leaf) (ZzX ZbF):=fun _ _ _ _=>by kernel_rfl
theorem ZEN:Zm Tryz.prog 169 (ZzX Ye):=okF (ZFf) Tryz.func169 Zf (Zo _ .nil .nil .nil .nil (Zp _))
abbrev ZCn (f:Zx1):Ze:=⟨[.one (.L),.clo 169 [.P]],[.one (.I .i64)],fun t K _ h=>f t.1 t.2.1 (fun r0 h=>K (r0,()) h) h⟩
abbrev ZHA (f94:ZuO):Cfg:=ZI Tryz.prog [(169,ZzX f94)] 19 [] [] [] ZJ
theorem ZFe (f94:ZuO):ZK (ZHA f94) Tryz.f144 (.seq (.leaf) (.seq (.seq (.leaf) (.block (.loop [8] [.one (.I .i64)] [(4,5),(9,18)] (.leaf)))) (.leaf))) (ZCn (Z0 f94)):=fun _ _ _ _=>by kernel_rfl
theorem ZGD:Zm Tryz.prog 144 (ZCn ZC):=okF (ZFe Ye) Tryz.func144 Zf (Zo _ (.cons ZEN .nil) .nil .nil .nil (Zp _))
abbrev ZCm (f:Zx0):Ze:=⟨[.one (.L),.clo 169 [.P]],[.one (.L)],fun t K _ h=>f t.1 t.2.1 (fun r0 h=>K (r0,()) h) h⟩
abbrev ZHz (f95:Zx1) (f94:ZuO):Cfg:=ZI Tryz.prog [(144,ZCn f95),(169,ZzX f94)] 42 [] [] [] ZJ
theorem ZFd (f95:Zx1) (f94:ZuO):ZK (ZHz f95 f94) Tryz.f168 (.seq (.leaf) (.seq (.leaf) (.seq (.leaf) (.seq (.seq (.leaf) (.block (.loop [5,6] [.one (.I .i64),.one (.I .i64)] [(7,7),(16,35)] (.leaf)))) (.leaf))))) (ZCm (ZX f95 f94)):=fun _ _ _ _=>by kernel_rfl
theorem ZGC:Zm Tryz.prog 168 (ZCm ZB):=okF (ZFd ZC Ye) Tryz.func168 Zf (Zo _ (.cons ZGD (.cons ZEN .nil)) .nil .nil .nil (Zp _))
abbrev ZxR (f:Zqi):Ze:=⟨[.one (.P),.one (.I .i64)],[.one (.L)],fun t K _ h=>f t.1 t.2.1 (fun r0 h=>K (r0,()) h) h⟩
abbrev ZHy (f93:Zx2) (f96:Zx0):Cfg:=ZI Tryz.prog [(76,ZCo f93),(168,ZCm f96)] 12 [] [] [] ZJ
theorem ZFc (f93:Zx2) (f96:Zx0):ZK (ZHy f93 f96) Tryz.f143 (.leaf) (ZxR (Zcp f93 f96)):=fun _ _ _ _=>by kernel_rfl
theorem ZBv:Zm Tryz.prog 143 (ZxR Yv):=okF (ZFc Z6 ZB) Tryz.func143 Zf (Zo _ (.cons ZGE (.cons ZGC .nil)) .nil .nil .nil (Zp _))
abbrev ZCl (f:ZxZ):Ze:=⟨[.agg [.I .i64,.I .i64,.I .i64,.I .i64],.one (.P)],[.one (.B)],fun t K _ h=>f t.1 t.2.1 (fun r0 h=>K (r0,()) h) h⟩
abbrev ZHx:Cfg:=ZI Tryz.prog [] 8 [] [] [] ZJ
theorem ZFb:ZK (ZHx) Tryz.f145 (.leaf) (ZCl ZaW):=fun _ _ _ _=>by kernel_rfl
theorem ZGB:Zm Tryz.prog 145 (ZCl Y6):=okF (ZFb) Tryz.func145 Zf (Zo _ .nil .nil .nil .nil (Zp _))
abbrev ZCk (f:ZxY):Ze:=⟨[.one (.L),.clo 145 [.P]],[.one (.I .i64)],fun t K _ h=>f t.1 t.2.1 (fun r0 h=>K (r0,()) h) h⟩
abbrev ZHw (f98:ZxZ):Cfg:=ZI Tryz.prog [(145,ZCl f98)] 19 [] [] [] ZJ
theorem ZFa (f98:ZxZ):ZK (ZHw f98) Tryz.f144 (.seq (.leaf) (.seq (.seq (.leaf) (.block (.loop [8] [.one (.I .i64)] [(4,5),(9,18)] (.leaf)))) (.leaf))) (ZCk (ZU f98)):=fun _ _ _ _=>by kernel_rfl
theorem ZGA:Zm Tryz.prog 144 (ZCk Zz):=okF (ZFa Y6) Tryz.func144 Zf (Zo _ (.cons ZGB .nil) .nil .nil .nil (Zp _))
abbrev Ztt (f:Zl4):Ze:=⟨[.one (.P),.one (.S),.one (.I .i64)],[.agg [.I .i64,.I .i64,.I .i64,.I .i64],.one (.B)],fun t K _ h=>f t.1 t.2.1 t.2.2.1 (fun r0 r1 h=>K (r0,r1,()) h) h⟩
abbrev ZEg:Cfg:=ZI Tryz.prog [] 46 [] [] [] ZJ
theorem ZBu:ZK (ZEg) Tryz.f112 (.seq (.leaf) (.seq (.seq (.leaf) (.block (.loop [17] [.one (.I .i64)] [(7,7),(9,9),(11,11),(18,44)] (.seq (.leaf) (.seq (.leaf) (.seq (.block (.seq (.leaf) (.seq (.leaf) (.block (.loop [24] [.one (.I .i64)] [(7,7),(11,11),(25,43)] (.leaf)))))) (.leaf))))))) (.leaf))) (Ztt Zc4):=fun _ _ _ _=>by kernel_rfl
theorem ZxP:Zm Tryz.prog 112 (Ztt Xb):=okF (ZBu) Tryz.func112 Zf (Zo _ .nil .nil .nil .nil (Zp _))
abbrev Zwr (f:Zq6):Ze:=⟨[.one (.L),.one (.I .i64),.one (.I .i64)],[.one (.L)],fun t K _ h=>f t.1 t.2.1 t.2.2.1 (fun r0 h=>K (r0,()) h) h⟩
abbrev ZEf:Cfg:=ZI Tryz.prog [] 33 [] [] [] ZJ
theorem ZBt:ZK (ZEf) Tryz.f146 (.seq (.leaf) (.seq (.leaf) (.seq (.leaf) (.seq (.leaf) (.seq (.order (.take 0 (.take 1 (.take 2 (.take 3 (.take 4 (.take 5 (.take 6 (.take 7 .done))))))))) (.leaf)))))) (Zwr YJ):=fun _ _ _ _=>by kernel_rfl
theorem ZCj:Zm Tryz.prog 146 (Zwr Z5):=okF (ZBt) Tryz.func146 Zf (Zo _ .nil .nil .nil .nil (Zp _))
abbrev Zwq (f:Zq5):Ze:=⟨[.one (.P),.one (.I .i64),.one (.S),.one (.I .i64)],[.one (.I .u8)],fun t K _ h=>f t.1 t.2.1 t.2.2.1 t.2.2.2.1 (fun r0 h=>K (r0,()) h) h⟩
abbrev ZEe (f97:Zqi) (f99:ZxY) (f100:Zl4) (f101:Zq6):Cfg:=ZI Tryz.prog [(143,ZxR f97),(144,ZCk f99),(112,Ztt f100),(146,Zwr f101)] 42 [] [] [] ZJ
theorem ZBs (f97:Zqi) (f99:ZxY) (f100:Zl4) (f101:Zq6):ZK (ZEe f97 f99 f100 f101) Tryz.f111 (.leaf) (Zwq (Zbs f97 f99 f100 f101)):=fun _ _ _ _=>by kernel_rfl
theorem ZCi:Zm Tryz.prog 111 (Zwq Xn):=okF (ZBs Yv Zz Xb Z5) Tryz.func111 Zf (Zo _ (.cons ZBv (.cons ZGA (.cons ZxP (.cons ZCj .nil)))) .nil .nil .nil (Zp _))
abbrev Zwp (f:Zq4):Ze:=⟨[.one (.P),.one (.I .i64),.agg [.I .i64,.I .i64,.I .i64,.I .i64]],[.one (.B)],fun t K _ h=>f t.1 t.2.1 t.2.2.1 (fun r0 h=>K (r0,()) h) h⟩
abbrev ZEd:Cfg:=ZI Tryz.prog [] 17 [] [] [] ZJ
theorem ZBr:ZK (ZEd) Tryz.f113 (.leaf) (Zwp ZbE):=fun _ _ _ _=>by kernel_rfl
theorem ZCh:Zm Tryz.prog 113 (Zwp XH):=okF (ZBr) Tryz.func113 Zf (Zo _ .nil .nil .nil .nil (Zp _))
abbrev Zts (f:Zl3):Ze:=⟨[.one (.P),.one (.I .i64)],[.one (.I .i64)],fun t K _ h=>f t.1 t.2.1 (fun r0 h=>K (r0,()) h) h⟩
abbrev ZEc:Cfg:=ZI Tryz.prog [] 22 [] [] [] ZJ
theorem ZBq:ZK (ZEc) Tryz.f204 (.leaf) (Zts ZbW):=fun _ _ _ _=>by kernel_rfl
theorem ZxO:Zm Tryz.prog 204 (Zts YO):=okF (ZBq) Tryz.func204 Zf (Zo _ .nil .nil .nil .nil (Zp _))
abbrev Zwo (f:Zq3):Ze:=⟨[.one (.P),.one (.I .i64)],[.clo 210 [.P,.P]],fun t K _ h=>f t.1 t.2.1 (fun r0 h=>K (r0,()) h) h⟩
abbrev ZEb:Cfg:=ZI Tryz.prog [] 6 [] [] [] ZJ
theorem ZBp:ZK (ZEb) Tryz.f208 (.leaf) (Zwo Zdu):=fun _ _ _ _=>by kernel_rfl
theorem ZCg:Zm Tryz.prog 208 (Zwo ZaL):=okF (ZBp) Tryz.func208 Zf (Zo _ .nil .nil .nil .nil (Zp _))
abbrev Zqh (f:Znn):Ze:=⟨[.one (.P),.one (.I .i64)],[.one (.I .i64)],fun t K _ h=>f t.1 t.2.1 (fun r0 h=>K (r0,()) h) h⟩
abbrev ZEa:Cfg:=ZI Tryz.prog [] 16 [] [] [] ZJ
theorem ZBo:ZK (ZEa) Tryz.f206 (.leaf) (Zqh ZbC):=fun _ _ _ _=>by kernel_rfl
theorem ZxN:Zm Tryz.prog 206 (Zqh Yt):=okF (ZBo) Tryz.func206 Zf (Zo _ .nil .nil .nil .nil (Zp _))
abbrev ZxX:List VT:=[.yl,.one (.P),.one (.P)]
abbrev ZxW:List VT:=[]
abbrev ZxV (f:Zq2):Zch:=⟨[.one (.P),.one (.P)],fun Y l t K h=>f Y l t.1 t.2.1 K h⟩
def ZD9 (Y:Yld):Cfg:=ZI Tryz.prog [(206,(Zqh Yt))] 52 [] [] [] Y
theorem ZBn (f106:Znn) (Y:Yld) (t:Zan ZxX) (K:Zan ZxW→HP) (Kp:Value→HP) (h:Zb):ZzF (ZI Tryz.prog [(206,Zqh f106)] 52 [] [] [] Y) Tryz.f210 (.seq (.leaf) (.seq (.leaf) (.block (.loop [5] [.one (.I .i64)] [(6,7),(19,51)] (.seq (.leaf) (.seq (.block (.seq (.leaf) (.seq (.order (.take 0 (.take 1 (.take 2 (.take 3 (.take 4 (.take 5 (.take 6 (.take 7 (.take 8 (.take 9 (.take 10 (.take 11 (.take 12 (.take 13 (.take 14 (.take 15 (.take 16 (.take 17 (.take 18 .done)))))))))))))))))))) (.leaf)))) (.leaf))))))) (Zan.evs ZxX t) ZxW K Kp h=Zcl f106 Y t.1 t.2.1 t.2.2.1 (fun h=>K (()) h) h:=by kernel_rfl
theorem ZCf:Zpa Tryz.prog 210 (ZxV Zaa):=fun Y hY=>Zzg (c:=ZD9 Y) Tryz.func210 (by kernel_rfl) (by kernel_rfl) rfl (Nat.le_of_ble_eq_true rfl) (Zo _ (.cons ZxN .nil) .nil .nil .nil hY) Zf (ZBn Yt Y)
abbrev Zwn (f:Zq1):Ze:=⟨[.one (.I .i64),.one (.I .i64)],[.one (.I .i64)],fun t K _ h=>f t.1 t.2.1 (fun r0 h=>K (r0,()) h) h⟩
abbrev ZD8:Cfg:=ZI Tryz.prog [] 11 [] [] [] ZJ
theorem ZBm:ZK (ZD8) Tryz.f211 (.leaf) (Zwn Zhp):=fun _ _ _ _=>by kernel_rfl
theorem ZCe:Zm Tryz.prog 211 (Zwn Zei):=okF (ZBm) Tryz.func211 Zf (Zo _ .nil .nil .nil .nil (Zp _))
abbrev Ztr (f:Zl2):Ze:=⟨[.agg [.I .i64,.I .i64,.I .i64,.I .i64,.I .i64,.I .i64],.agg [.I .i64,.I .i64,.I .i64,.I .i64,.I .i64,.I .i64]],[.agg [.I .i64,.I .i64,.I .i64,.I .i64,.I .i64,.I .i64]],fun t K _ h=>f t.1 t.2.1 (fun r0 h=>K (r0,()) h) h⟩
abbrev ZD7 (f108:Zq1):Cfg:=ZI Tryz.prog [(211,Zwn f108)] 53 [] [] [] ZJ
theorem ZBl (f108:Zq1):ZK (ZD7 f108) Tryz.f209 (.seq (.leaf) (.cut [5] [.one (.P)] [(6,31)] (.order (.take 0 (.take 2 (.take 5 (.take 7 (.take 10 (.take 12 (.take 15 (.take 17 (.take 20 (.take 22 (.take 1 (.take 3 (.take 6 (.take 8 (.take 11 (.take 13 (.take 16 (.take 18 (.take 21 (.take 23 (.fork 4 (.fork 9 (.fork 14 (.fork 19 (.fork 24 (.take 25 (.take 26 (.take 27 .done))) 26 (.take 24 (.take 25 (.take 27 .done)))) 26 (.take 19 (.take 24 (.take 25 (.take 27 .done))))) 26 (.take 14 (.take 19 (.take 24 (.take 25 (.take 27 .done)))))) 26 (.take 9 (.take 14 (.take 19 (.take 24 (.take 25 (.take 27 .done))))))) 26 (.take 4 (.take 9 (.take 14 (.take 19 (.take 24 (.take 25 (.take 27 .done))))))))))))))))))))))))))))) (.leaf))) (Ztr (Zgc f108)):=fun _ _ _ _=>by kernel_rfl
theorem ZxM:Zm Tryz.prog 209 (Ztr ZbS):=okF (ZBl Zei) Tryz.func209 Zf (Zo _ (.cons ZCe .nil) .nil .nil .nil (Zp _))
abbrev Zwm (f:Zq0):Ze:=⟨[.one (.P),.one (.I .i64)],[.agg [.I .i64,.I .i64,.I .i64,.I .i64,.I .i64,.I .i64],.one (.I .i64)],fun t K _ h=>f t.1 t.2.1 (fun r0 r1 h=>K (r0,r1,()) h) h⟩
abbrev ZD6 (f104:Zl3) (f105:Zq3) (f109:Zl2) (f107:Zq2):Cfg:=ZI Tryz.prog [(204,Zts f104),(208,Zwo f105),(209,Ztr f109)] 25 [] [] [(210,ZxV f107)] ZJ
theorem ZBk (f104:Zl3) (f105:Zq3) (f109:Zl2) (f107:Zq2):ZK (ZD6 f104 f105 f109 f107) Tryz.f202 (.seq (.leaf) (.seq (.leaf) (.seq (.leaf) (.seq (.seq (.leaf) (.block (.range [.agg [.I .i64,.I .i64,.I .i64,.I .i64,.I .i64,.I .i64,.I .i64]] (.leaf) (.leaf)))) (.leaf))))) (Zwm (ZcX f104 f105 f109 f107)):=fun _ _ _ _=>by kernel_rfl
theorem ZCd:Zm Tryz.prog 202 (Zwm Zat):=okF (ZBk YO ZaL ZbS Zaa) Tryz.func202 Zf (Zo _ (.cons ZxO (.cons ZCg (.cons ZxM .nil))) .nil .nil (.cons ZCf .nil) (Zp _))
abbrev Zwl (f:ZqZ):Ze:=⟨[.agg [.P],.one (.I .i64),.one (.S)],[.one (.I .i64)],fun t K _ h=>f t.1 t.2.1 t.2.2.1 (fun r0 h=>K (r0,()) h) h⟩
abbrev ZD5 (f110:Zq0):Cfg:=ZI Tryz.prog [(202,Zwm f110)] 18 [] [] [] ZJ
theorem ZBj (f110:Zq0):ZK (ZD5 f110) Tryz.f199 (.leaf) (Zwl (ZdN f110)):=fun _ _ _ _=>by kernel_rfl
theorem ZCc:Zm Tryz.prog 199 (Zwl Za5):=okF (ZBj Zat) Tryz.func199 Zf (Zo _ (.cons ZCd .nil) .nil .nil .nil (Zp _))
abbrev Ztq (f:Zl1):Ze:=⟨[.one (.P),.one (.I .i64)],[.one (.I .i64)],fun t K _ h=>f t.1 t.2.1 (fun r0 h=>K (r0,()) h) h⟩
abbrev ZD4:Cfg:=ZI Tryz.prog [] 22 [] [] [] ZJ
theorem ZBi:ZK (ZD4) Tryz.f219 (.leaf) (Ztq Zct):=fun _ _ _ _=>by kernel_rfl
theorem ZxL:Zm Tryz.prog 219 (Ztq Y0):=okF (ZBi) Tryz.func219 Zf (Zo _ .nil .nil .nil .nil (Zp _))
abbrev Zwk (f:ZqY):Ze:=⟨[.one (.S)],[.one (.I .u64)],fun t K _ h=>f t.1 (fun r0 h=>K (r0,()) h) h⟩
abbrev ZD3:Cfg:=ZI Tryz.prog [] 19 [] [] [] ZJ
theorem ZBh:ZK (ZD3) Tryz.f228 (.seq (.leaf) (.seq (.leaf) (.seq (.seq (.leaf) (.block (.loop [3,7] [.one (.I .u64),.one (.I .i64)] [(4,4),(8,17)] (.leaf)))) (.leaf)))) (Zwk ZfC):=fun _ _ _ _=>by kernel_rfl
theorem ZCb:Zm Tryz.prog 228 (Zwk Zdq):=okF (ZBh) Tryz.func228 Zf (Zo _ .nil .nil .nil .nil (Zp _))
abbrev Zwj (f:ZqX):Ze:=⟨[.one (.I .u64)],[.one (.I .u64)],fun t K _ h=>f t.1 (fun r0 h=>K (r0,()) h) h⟩
abbrev ZD2:Cfg:=ZI Tryz.prog [] 17 [] [] [] ZJ
theorem ZBg:ZK (ZD2) Tryz.f227 (.leaf) (Zwj ZgZ):=fun _ _ _ _=>by kernel_rfl
theorem ZCa:Zm Tryz.prog 227 (Zwj Zes):=okF (ZBg) Tryz.func227 Zf (Zo _ .nil .nil .nil .nil (Zp _))
abbrev Ztp (f:Zl0):Ze:=⟨[.agg [.I .i64,.I .i64,.I .i64,.I .i64,.I .u64],.one (.I .i64),.one (.S)],[.one (.I .i64)],fun t K _ h=>f t.1 t.2.1 t.2.2.1 (fun r0 h=>K (r0,()) h) h⟩
abbrev ZD1 (f113:ZqY) (f114:ZqX):Cfg:=ZI Tryz.prog [(228,Zwk f113),(227,Zwj f114)] 23 [] [] [] ZJ
theorem ZBf (f113:ZqY) (f114:ZqX):ZK (ZD1 f113 f114) Tryz.f224 (.leaf) (Ztp (Zb0 f113 f114)):=fun _ _ _ _=>by kernel_rfl
theorem ZxK:Zm Tryz.prog 224 (Ztp YA):=okF (ZBf Zdq Zes) Tryz.func224 Zf (Zo _ (.cons ZCb (.cons ZCa .nil)) .nil .nil .nil (Zp _))
abbrev Zto (f:ZlZ):Ze:=⟨[.agg [.I .i64,.I .i64,.I .i64,.I .i64,.I .u64],.one (.I .i64)],[.one (.I .i64)],fun t K _ h=>f t.1 t.2.1 (fun r0 h=>K (r0,()) h) h⟩
abbrev ZD0:Cfg:=ZI Tryz.prog [] 14 [] [] [] ZJ
theorem ZBe:ZK (ZD0) Tryz.f220 (.leaf) (Zto Zcs):=fun _ _ _ _=>by kernel_rfl
theorem ZxJ:Zm Tryz.prog 220 (Zto YZ):=okF (ZBe) Tryz.func220 Zf (Zo _ .nil .nil .nil .nil (Zp _))
abbrev Zwi (f:ZqW):Ze:=⟨[.agg [.I .i64,.I .i64,.M],.one (.P)],[.one (.I .i64)],fun t K _ h=>f t.1 t.2.1 (fun r0 h=>K (r0,()) h) h⟩
abbrev ZDZ:Cfg:=ZI Tryz.prog [] 8 [] [] [] ZJ
theorem ZBd:ZK (ZDZ) Tryz.f230 (.leaf) (Zwi ZaH):=fun _ _ _ _=>by kernel_rfl
theorem ZB9:Zm Tryz.prog 230 (Zwi XD):=okF (ZBd) Tryz.func230 Zf (Zo _ .nil .nil .nil .nil (Zp _))
abbrev Ztn (f:ZlY):Ze:=⟨[.one (.I .i64),.one (.I .i64)],[.one (.I .i64)],fun t K _ h=>f t.1 t.2.1 (fun r0 h=>K (r0,()) h) h⟩
abbrev ZDY:Cfg:=ZI Tryz.prog [] 12 [] [] [] ZJ
theorem ZBc:ZK (ZDY) Tryz.f223 (.leaf) (Ztn ZfB):=fun _ _ _ _=>by kernel_rfl
theorem ZxI:Zm Tryz.prog 223 (Ztn Zak):=okF (ZBc) Tryz.func223 Zf (Zo _ .nil .nil .nil .nil (Zp _))
abbrev Zwh (f:ZqV):Ze:=⟨[.one (.P),.one (.I .i64),.clo 230 [.P]],[.one (.I .i64)],fun t K _ h=>f t.1 t.2.1 t.2.2.1 (fun r0 h=>K (r0,()) h) h⟩
abbrev ZDX (f116:ZlZ) (f117:ZqW) (f118:ZlY):Cfg:=ZI Tryz.prog [(220,Zto f116),(230,Zwi f117),(223,Ztn f118)] 41 [] [] [] ZJ
theorem ZBb (f116:ZlZ) (f117:ZqW) (f118:ZlY):ZK (ZDX f116 f117 f118) Tryz.f229 (.seq (.leaf) (.seq (.leaf) (.seq (.seq (.leaf) (.block (.loop [7,15] [.one (.I .i64),.one (.I .i64)] [(9,9),(16,39)] (.seq (.leaf) (.seq (.leaf) (.seq (.block (.seq (.leaf) (.seq (.order (.take 0 (.take 2 (.take 3 (.take 4 (.take 6 (.take 8 (.take 9 (.take 10 (.take 11 (.take 1 (.take 5 (.take 12 (.take 7 (.take 13 (.take 14 .done)))))))))))))))) (.leaf)))) (.leaf))))))) (.leaf)))) (Zwh (Yz f116 f117 f118)):=fun _ _ _ _=>by kernel_rfl
theorem ZB8:Zm Tryz.prog 229 (Zwh ZW):=okF (ZBb YZ XD Zak) Tryz.func229 Zf (Zo _ (.cons ZxJ (.cons ZB9 (.cons ZxI .nil))) .nil .nil .nil (Zp _))
abbrev Zwg (f:ZqU):Ze:=⟨[.one (.P),.one (.I .i64),.one (.S)],[.one (.I .i64)],fun t K _ h=>f t.1 t.2.1 t.2.2.1 (fun r0 h=>K (r0,()) h) h⟩
abbrev ZDW (f115:Zl0) (f119:ZqV):Cfg:=ZI Tryz.prog [(224,Ztp f115),(229,Zwh f119)] 35 [] [] [] ZJ
theorem ZBa (f115:Zl0) (f119:ZqV):ZK (ZDW f115 f119) Tryz.f225 (.seq (.leaf) (.seq (.leaf) (.seq (.seq (.leaf) (.block (.loop [7,15] [.one (.I .i64),.one (.I .i64)] [(8,9),(16,33)] (.leaf)))) (.leaf)))) (Zwg (Zbe f115 f119)):=fun _ _ _ _=>by kernel_rfl
theorem ZB7:Zm Tryz.prog 225 (Zwg Xe):=okF (ZBa YA ZW) Tryz.func225 Zf (Zo _ (.cons ZxK (.cons ZB8 .nil)) .nil .nil .nil (Zp _))
abbrev Zwf (f:ZqT):Ze:=⟨[.one (.P),.one (.I .i64),.one (.S)],[.one (.I .i64),.one (.I .i64)],fun t K _ h=>f t.1 t.2.1 t.2.2.1 (fun r0 r1 h=>K (r0,r1,()) h) h⟩
abbrev ZDV (f112:Zl1) (f120:ZqU):Cfg:=ZI Tryz.prog [(219,Ztq f112),(225,Zwg f120)] 19 [] [] [] ZJ
theorem ZA9 (f112:Zl1) (f120:ZqU):ZK (ZDV f112 f120) Tryz.f218 (.leaf) (Zwf (Zbf f112 f120)):=fun _ _ _ _=>by kernel_rfl
theorem ZB6:Zm Tryz.prog 218 (Zwf X3):=okF (ZA9 Y0 Xe) Tryz.func218 Zf (Zo _ (.cons ZxL (.cons ZB7 .nil)) .nil .nil .nil (Zp _))
abbrev Zwe (f:ZqS):Ze:=⟨[.agg [.P],.one (.I .i64),.one (.S)],[.one (.I .i64)],fun t K _ h=>f t.1 t.2.1 t.2.2.1 (fun r0 h=>K (r0,()) h) h⟩
abbrev ZDU (f121:ZqT):Cfg:=ZI Tryz.prog [(218,Zwf f121)] 18 [] [] [] ZJ
theorem ZA8 (f121:ZqT):ZK (ZDU f121) Tryz.f215 (.leaf) (Zwe (Zdv f121)):=fun _ _ _ _=>by kernel_rfl
theorem ZB5:Zm Tryz.prog 215 (Zwe ZaM):=okF (ZA8 X3) Tryz.func215 Zf (Zo _ (.cons ZB6 .nil) .nil .nil .nil (Zp _))
abbrev Zwd (f:ZqR):Ze:=⟨[.agg [],.one (.I .i64),.one (.S)],[.one (.I .i64)],fun t K _ h=>f t.1 t.2.1 t.2.2.1 (fun r0 h=>K (r0,()) h) h⟩
abbrev ZDT:Cfg:=ZI Tryz.prog [] 7 [] [] [] ZJ
theorem ZA7:ZK (ZDT) Tryz.f233 (.leaf) (Zwd ZcZ):=fun _ _ _ _=>by kernel_rfl
theorem ZB4:Zm Tryz.prog 233 (Zwd Zbo):=okF (ZA7) Tryz.func233 Zf (Zo _ .nil .nil .nil .nil (Zp _))
theorem Zmr:Zgn Tryz.prog "spillway/token.used" 184 199:=ZhY (i:=Tryz.t184) (m:=Tryz.t184.methods.getD 6 default) (by kernel_rfl) (by kernel_rfl) (by kernel_rfl) (by kernel_rfl) (by kernel_rfl) (of_decide_eq_true (by kernel_rfl))
theorem Zmp:Zgn Tryz.prog "spillway/token.used" 190 215:=ZhY (i:=Tryz.t190) (m:=Tryz.t190.methods.getD 11 default) (by kernel_rfl) (by kernel_rfl) (by kernel_rfl) (by kernel_rfl) (by kernel_rfl) (of_decide_eq_true (by kernel_rfl))
theorem Zmn:Zgn Tryz.prog "spillway/token.used" 192 233:=ZhY (i:=Tryz.t192) (m:=Tryz.t192.methods.getD 2 default) (by kernel_rfl) (by kernel_rfl) (by kernel_rfl) (by kernel_rfl) (by kernel_rfl) (of_decide_eq_true (by kernel_rfl))
abbrev Zwc (f:ZqQ):Ze:=⟨[.one (.P),.one (.I .i64),.agg [.I .i64,.I .i64,.I .i64,.I .i64],.one (.S)],[.one (.I .i64)],fun t K _ h=>f t.1 t.2.1 t.2.2.1 t.2.2.2.1 (fun r0 h=>K (r0,()) h) h⟩
abbrev ZDS (f111:ZqZ) (f122:ZqS) (f123:ZqR) (f97:Zqi):Cfg:=ZI Tryz.prog [(199,Zwl f111),(215,Zwe f122),(233,Zwd f123),(143,ZxR f97)] 45 [] [("spillway/token.used", 184,199),("spillway/token.used", 190,215),("spillway/token.used", 192,233)] [] ZJ
theorem ZA6 (f111:ZqZ) (f122:ZqS) (f123:ZqR) (f97:Zqi):ZK (ZDS f111 f122 f123 f97) Tryz.f147 (.seq (.leaf) (.seq (.seq (.leaf) (.cond (.seq (.order (.take 0 (.take 1 (.take 2 (.take 4 (.take 8 (.take 9 (.take 3 (.take 5 (.take 6 (.take 7 (.take 10 (.take 11 .done))))))))))))) (.leaf)) (.leaf))) (.seq (.leaf) (.seq (.seq (.leaf) (.block (.loop [9,30] [.one (.I .i64),.one (.I .i64)] [(11,11),(31,43)] (.leaf)))) (.leaf))))) (Zwc (Zc1 f111 f122 f123 f97)):=fun _ _ _ _=>by kernel_rfl
theorem ZB3:Zm Tryz.prog 147 (Zwc Zav):=okF (ZA6 Za5 ZaM Zbo Yv) Tryz.func147 Zf (Zo _ (.cons ZCc (.cons ZB5 (.cons ZB4 (.cons ZBv .nil)))) .nil (.cons Zmr (.cons Zmp (.cons Zmn .nil))) .nil (Zp _))
abbrev Ztm (f:ZlX):Ze:=⟨[.agg [.I .i64,.I .i64,.I .i64,.I .i64,.I .i64,.I .i64]],[.one (.B)],fun t K _ h=>f t.1 (fun r0 h=>K (r0,()) h) h⟩
abbrev ZDR:Cfg:=ZI Tryz.prog [] 52 [] [] [] ZJ
theorem ZA5:ZK (ZDR) Tryz.f205 (.seq (.leaf) (.seq (.seq (.leaf) (.block (.loop [19] [.one (.I .i64)] [(2,2),(4,4),(20,29)] (.leaf)))) (.leaf))) (Ztm ZeT):=fun _ _ _ _=>by kernel_rfl
theorem ZxH:Zm Tryz.prog 205 (Ztm ZaU):=okF (ZA5) Tryz.func205 Zf (Zo _ .nil .nil .nil .nil (Zp _))
abbrev Zwb (f:ZqP):Ze:=⟨[.one (.L)],[.agg [.I .i64,.I .i64,.I .i64,.I .i64,.I .i64,.I .i64]],fun t K _ h=>f t.1 (fun r0 h=>K (r0,()) h) h⟩
abbrev ZDQ (f125:ZlX) (f109:Zl2):Cfg:=ZI Tryz.prog [(205,Ztm f125),(209,Ztr f109)] 19 [] [] [] ZJ
theorem ZA4 (f125:ZlX) (f109:Zl2):ZK (ZDQ f125 f109) Tryz.f207 (.seq (.leaf) (.seq (.leaf) (.seq (.seq (.leaf) (.block (.loop [8] [.one (.I .i64)] [(5,5),(9,17)] (.leaf)))) (.leaf)))) (Zwb (Zfy f125 f109)):=fun _ _ _ _=>by kernel_rfl
theorem ZB2:Zm Tryz.prog 207 (Zwb Zdo):=okF (ZA4 ZaU ZbS) Tryz.func207 Zf (Zo _ (.cons ZxH (.cons ZxM .nil)) .nil .nil .nil (Zp _))
abbrev Zwa (f:ZqO):Ze:=⟨[.one (.P),.one (.I .i64),.one (.L)],[.one (.I .i64)],fun t K _ h=>f t.1 t.2.1 t.2.2.1 (fun r0 h=>K (r0,()) h) h⟩
abbrev ZDP (f104:Zl3) (f125:ZlX) (f106:Znn) (f126:ZqP):Cfg:=ZI Tryz.prog [(204,Zts f104),(205,Ztm f125),(206,Zqh f106),(207,Zwb f126)] 77 [] [] [] ZJ
theorem ZA3 (f104:Zl3) (f125:ZlX) (f106:Znn) (f126:ZqP):ZK (ZDP f104 f125 f106 f126) Tryz.f201 (.seq (.leaf) (.seq (.leaf) (.seq (.seq (.leaf) (.block (.loop [21] [.one (.I .i64)] [(6,6),(9,9),(22,28)] (.leaf)))) (.seq (.leaf) (.seq (.leaf) (.cut [] [] [(11,11),(36,54)] (.seq (.leaf) (.seq (.leaf) (.cond (.order (.take 0 (.take 1 (.take 2 (.take 4 (.take 3 (.take 5 (.take 6 .done)))))))) (.leaf)))) (.seq (.seq (.leaf) (.block (.loop [] [] [(12,12),(60,76)] (.cut [61] [.one (.B)] [(60,60)] (.leaf) (.leaf))))) (.leaf)))))))) (Zwa (ZcY f104 f125 f106 f126)):=fun _ _ _ _=>by kernel_rfl
theorem ZB1:Zm Tryz.prog 201 (Zwa Zau):=okF (ZA3 YO ZaU Yt Zdo) Tryz.func201 Zf (Zo _ (.cons ZxO (.cons ZxH (.cons ZxN (.cons ZB2 .nil)))) .nil .nil .nil (Zp _))
abbrev Zv9 (f:ZqN):Ze:=⟨[.agg [.P],.one (.I .i64),.one (.S),.one (.I .i64)],[],fun t K _ h=>f t.1 t.2.1 t.2.2.1 t.2.2.2.1 (fun h=>K (()) h) h⟩
abbrev ZDO (f127:ZqO):Cfg:=ZI Tryz.prog [(201,Zwa f127)] 15 [] [] [] ZJ
theorem ZA2 (f127:ZqO):ZK (ZDO f127) Tryz.f198 (.leaf) (Zv9 (ZdO f127)):=fun _ _ _ _=>by kernel_rfl
theorem ZB0:Zm Tryz.prog 198 (Zv9 Za6):=okF (ZA2 Zau) Tryz.func198 Zf (Zo _ (.cons ZB1 .nil) .nil .nil .nil (Zp _))
abbrev Ztl (f:ZlW):Ze:=⟨[.agg [.I .i64,.I .i64,.M],.one (.P),.one (.P)],[.one (.B)],fun t K _ h=>f t.1 t.2.1 t.2.2.1 (fun r0 h=>K (r0,()) h) h⟩
abbrev ZDN:Cfg:=ZI Tryz.prog [] 15 [] [] [] ZJ
theorem ZA1:ZK (ZDN) Tryz.f222 (.leaf) (Ztl Zb1):=fun _ _ _ _=>by kernel_rfl
theorem ZxG:Zm Tryz.prog 222 (Ztl Yn):=okF (ZA1) Tryz.func222 Zf (Zo _ .nil .nil .nil .nil (Zp _))
abbrev Zv8 (f:ZqM):Ze:=⟨[.one (.L),.clo 222 [.P,.P]],[.one (.I .i64)],fun t K _ h=>f t.1 t.2.1 (fun r0 h=>K (r0,()) h) h⟩
abbrev ZDM (f129:ZlW):Cfg:=ZI Tryz.prog [(222,Ztl f129)] 19 [] [] [] ZJ
theorem ZA0 (f129:ZlW):ZK (ZDM f129) Tryz.f226 (.seq (.leaf) (.seq (.seq (.leaf) (.block (.loop [8] [.one (.I .i64)] [(4,5),(9,18)] (.leaf)))) (.leaf))) (Zv8 (ZV f129)):=fun _ _ _ _=>by kernel_rfl
theorem ZBZ:Zm Tryz.prog 226 (Zv8 ZA):=okF (ZA0 Yn) Tryz.func226 Zf (Zo _ (.cons ZxG .nil) .nil .nil .nil (Zp _))
abbrev Zv7 (f:ZqL):Ze:=⟨[.one (.L),.clo 222 [.P,.P]],[.one (.L)],fun t K _ h=>f t.1 t.2.1 (fun r0 h=>K (r0,()) h) h⟩
abbrev ZDL (f130:ZqM) (f129:ZlW):Cfg:=ZI Tryz.prog [(226,Zv8 f130),(222,Ztl f129)] 42 [] [] [] ZJ
theorem ZAZ (f130:ZqM) (f129:ZlW):ZK (ZDL f130 f129) Tryz.f221 (.seq (.leaf) (.seq (.leaf) (.seq (.leaf) (.seq (.seq (.leaf) (.block (.loop [5,6] [.one (.I .i64),.one (.I .i64)] [(7,7),(16,35)] (.leaf)))) (.leaf))))) (Zv7 (ZT f130 f129)):=fun _ _ _ _=>by kernel_rfl
theorem ZBY:Zm Tryz.prog 221 (Zv7 Zy):=okF (ZAZ ZA Yn) Tryz.func221 Zf (Zo _ (.cons ZBZ (.cons ZxG .nil)) .nil .nil .nil (Zp _))
abbrev Zv6 (f:ZqK):Ze:=⟨[.one (.P),.one (.I .i64),.one (.S),.one (.L)],[.one (.I .i64)],fun t K _ h=>f t.1 t.2.1 t.2.2.1 t.2.2.2.1 (fun r0 h=>K (r0,()) h) h⟩
abbrev ZDK (f112:Zl1) (f116:ZlZ) (f131:ZqL) (f118:ZlY) (f115:Zl0):Cfg:=ZI Tryz.prog [(219,Ztq f112),(220,Zto f116),(221,Zv7 f131),(223,Ztn f118),(224,Ztp f115)] 154 [] [] [] ZJ
theorem ZAY (f112:Zl1) (f116:ZlZ) (f131:ZqL) (f118:ZlY) (f115:Zl0):ZK (ZDK f112 f116 f131 f118 f115) Tryz.f217 (.seq (.leaf) (.seq (.leaf) (.seq (.leaf) (.seq (.seq (.leaf) (.block (.loop [31] [.one (.I .i64)] [(8,8),(11,11),(32,41)] (.leaf)))) (.seq (.leaf) (.seq (.leaf) (.seq (.leaf) (.seq (.order (.take 5 (.take 0 (.take 1 (.take 2 (.take 3 (.take 4 (.take 6 (.take 7 (.take 8 (.take 9 .done))))))))))) (.cut [] [] [(13,13),(64,95)] (.seq (.leaf) (.seq (.leaf) (.cond (.order (.take 0 (.take 1 (.take 2 (.take 3 (.take 4 (.take 5 (.take 6 (.take 7 (.take 8 (.take 9 (.take 10 (.take 11 (.take 12 .done)))))))))))))) (.leaf)))) (.seq (.leaf) (.seq (.seq (.leaf) (.block (.loop [109] [.one (.I .i64)] [(16,18),(110,153)] (.seq (.leaf) (.seq (.leaf) (.seq (.block (.seq (.leaf) (.seq (.leaf) (.seq (.leaf) (.block (.loop [127] [.one (.I .i64)] [(17,18),(128,152)] (.seq (.leaf) (.seq (.leaf) (.seq (.block (.seq (.leaf) (.seq (.leaf) (.order (.take 0 (.take 1 (.take 2 (.take 5 (.take 6 (.take 7 (.take 11 (.take 3 (.take 4 (.take 8 (.take 9 (.take 10 (.take 12 (.take 13 .done)))))))))))))))))) (.leaf)))))))))) (.leaf))))))) (.leaf)))))))))))) (Zv6 (Zc8 f112 f116 f131 f118 f115)):=fun _ _ _ _=>by kernel_rfl
theorem ZBX:Zm Tryz.prog 217 (Zv6 Zaz):=okF (ZAY Y0 YZ Zy Zak YA) Tryz.func217 Zf (Zo _ (.cons ZxL (.cons ZxJ (.cons ZBY (.cons ZxI (.cons ZxK .nil))))) .nil .nil .nil (Zp _))
abbrev Zv5 (f:ZqJ):Ze:=⟨[.agg [.P],.one (.I .i64),.one (.S),.one (.I .i64)],[],fun t K _ h=>f t.1 t.2.1 t.2.2.1 t.2.2.2.1 (fun h=>K (()) h) h⟩
abbrev ZDJ (f132:ZqK):Cfg:=ZI Tryz.prog [(217,Zv6 f132)] 15 [] [] [] ZJ
theorem ZAX (f132:ZqK):ZK (ZDJ f132) Tryz.f214 (.leaf) (Zv5 (Zdw f132)):=fun _ _ _ _=>by kernel_rfl
theorem ZBW:Zm Tryz.prog 214 (Zv5 ZaN):=okF (ZAX Zaz) Tryz.func214 Zf (Zo _ (.cons ZBX .nil) .nil .nil .nil (Zp _))
abbrev Zv4 (f:ZqI):Ze:=⟨[.agg [],.one (.I .i64),.one (.S),.one (.I .i64)],[],fun t K _ h=>f t.1 t.2.1 t.2.2.1 t.2.2.2.1 (fun h=>K (()) h) h⟩
abbrev ZDI:Cfg:=ZI Tryz.prog [] 8 [] [] [] ZJ
theorem ZAW:ZK (ZDI) Tryz.f232 (.leaf) (Zv4 Zc0):=fun _ _ _ _=>by kernel_rfl
theorem ZBV:Zm Tryz.prog 232 (Zv4 Zbp):=okF (ZAW) Tryz.func232 Zf (Zo _ .nil .nil .nil .nil (Zp _))
theorem Zms:Zgn Tryz.prog "spillway/token.take" 184 198:=ZhY (i:=Tryz.t184) (m:=Tryz.t184.methods.getD 5 default) (by kernel_rfl) (by kernel_rfl) (by kernel_rfl) (by kernel_rfl) (by kernel_rfl) (of_decide_eq_true (by kernel_rfl))
theorem Zmq:Zgn Tryz.prog "spillway/token.take" 190 214:=ZhY (i:=Tryz.t190) (m:=Tryz.t190.methods.getD 10 default) (by kernel_rfl) (by kernel_rfl) (by kernel_rfl) (by kernel_rfl) (by kernel_rfl) (of_decide_eq_true (by kernel_rfl))
theorem Zmo:Zgn Tryz.prog "spillway/token.take" 192 232:=ZhY (i:=Tryz.t192) (m:=Tryz.t192.methods.getD 1 default) (by kernel_rfl) (by kernel_rfl) (by kernel_rfl) (by kernel_rfl) (by kernel_rfl) (of_decide_eq_true (by kernel_rfl))
abbrev Zv3 (f:ZqH):Ze:=⟨[.one (.P),.one (.I .i64),.agg [.I .i64,.I .i64,.I .i64,.I .i64],.agg [.I .i64,.I .u8,.I .i64,.I .i64,.S,.I .i64]],[.agg [.I .i64,.I .u8,.I .i64,.I .i64,.I .i64]],fun t K _ h=>f t.1 t.2.1 t.2.2.1 t.2.2.2.1 (fun r0 h=>K (r0,()) h) h⟩
abbrev ZDH (f124:ZqQ) (f128:ZqN) (f133:ZqJ) (f134:ZqI) (f97:Zqi):Cfg:=ZI Tryz.prog [(147,Zwc f124),(198,Zv9 f128),(214,Zv5 f133),(232,Zv4 f134),(143,ZxR f97)] 107 [] [("spillway/token.take", 184,198),("spillway/token.take", 190,214),("spillway/token.take", 192,232)] [] ZJ
theorem ZAV (f124:ZqQ) (f128:ZqN) (f133:ZqJ) (f134:ZqI) (f97:Zqi):ZK (ZDH f124 f128 f133 f134 f97) Tryz.f114 (.seq (.leaf) (.seq (.leaf) (.seq (.leaf) (.seq (.leaf) (.seq (.seq (.leaf) (.cond (.seq (.order (.take 0 (.take 1 (.take 2 (.take 4 (.take 8 (.take 9 (.take 11 (.take 3 (.take 5 (.take 10 (.take 12 (.take 6 (.take 7 (.take 13 .done))))))))))))))) (.leaf)) (.leaf))) (.seq (.leaf) (.seq (.leaf) (.seq (.order (.take 0 (.take 1 (.take 2 (.take 4 (.take 3 (.take 6 (.take 5 (.take 7 (.take 8 (.take 9 .done))))))))))) (.seq (.order (.take 0 (.take 1 (.take 2 (.take 3 (.take 5 (.take 6 (.take 7 (.take 9 (.take 11 (.take 13 (.take 14 (.take 4 (.take 8 (.take 10 (.take 12 (.take 15 (.take 16 (.take 17 (.take 18 (.take 19 (.take 20 (.take 21 (.take 22 .done)))))))))))))))))))))))) (.leaf)))))))))) (Zv3 (Zco f124 f128 f133 f134 f97)):=fun _ _ _ _=>by kernel_rfl
theorem ZBU:Zm Tryz.prog 114 (Zv3 Zac):=okF (ZAV Zav Za6 ZaN Zbp Yv) Tryz.func114 Zf (Zo _ (.cons ZB3 (.cons ZB0 (.cons ZBW (.cons ZBV (.cons ZBv .nil))))) .nil (.cons Zms (.cons Zmq (.cons Zmo .nil))) .nil (Zp _))
abbrev Zv2 (f:ZqG):Ze:=⟨[.one (.P),.one (.I .i64),.one (.I .i64),.agg [.I .i64,.I .u8,.I .i64,.I .i64,.S,.I .i64]],[.agg [.I .i64,.I .u8,.I .i64,.I .i64,.I .i64]],fun t K _ h=>f t.1 t.2.1 t.2.2.1 t.2.2.2.1 (fun r0 h=>K (r0,()) h) h⟩
abbrev ZDG (f10:Zl5) (f31:Zqk) (f102:Zq5) (f100:Zl4) (f103:Zq4) (f135:ZqH):Cfg:=ZI Tryz.prog [(47,Zws f10),(57,ZxT f31),(111,Zwq f102),(112,Ztt f100),(113,Zwp f103),(114,Zv3 f135)] 100 [] [] [] ZJ
theorem ZAU (f10:Zl5) (f31:Zqk) (f102:Zq5) (f100:Zl4) (f103:Zq4) (f135:ZqH):ZK (ZDG f10 f31 f102 f100 f103 f135) Tryz.f73 (.seq (.leaf) (.seq (.leaf) (.seq (.block (.seq (.leaf) (.cond (.leaf) (.cut [24] [.one (.B)] [(25,34)] (.leaf) (.cond (.seq (.order (.take 0 (.take 1 (.take 2 (.take 4 (.take 5 (.take 3 (.take 6 (.take 7 .done))))))))) (.leaf)) (.leaf)))))) (.leaf)))) (Zv2 (ZbX f10 f31 f102 f100 f103 f135)):=fun _ _ _ _=>by kernel_rfl
theorem ZBT:Zm Tryz.prog 73 (Zv2 XU):=okF (ZAU YY Yu Xn Xb XH Zac) Tryz.func73 Zf (Zo _ (.cons ZxQ (.cons ZBx (.cons ZCi (.cons ZxP (.cons ZCh (.cons ZBU .nil)))))) .nil .nil .nil (Zp _))
abbrev Zv1 (f:ZqF):Ze:=⟨[.one (.P),.one (.I .i64),.one (.I .i64),.agg [.I .i64,.I .u8,.I .i64,.I .i64,.S,.I .i64]],[.agg [.I .i64,.I .u8,.I .i64,.I .i64,.I .i64],.one (.I .i64)],fun t K _ h=>f t.1 t.2.1 t.2.2.1 t.2.2.2.1 (fun r0 r1 h=>K (r0,r1,()) h) h⟩
abbrev ZDF (f92:ZuP) (f136:ZqG):Cfg:=ZI Tryz.prog [(72,ZzY f92),(73,Zv2 f136)] 46 [] [] [] ZJ
theorem ZAT (f92:ZuP) (f136:ZqG):ZK (ZDF f92 f136) Tryz.f38 (.leaf) (Zv1 (ZdP f92 f136)):=fun _ _ _ _=>by kernel_rfl
theorem ZBS:Zm Tryz.prog 38 (Zv1 Za7):=okF (ZAT Xa XU) Tryz.func38 Zf (Zo _ (.cons ZEO (.cons ZBT .nil)) .nil .nil .nil (Zp _))
abbrev Ztk (f:ZlV):Ze:=⟨[.agg [.I .i64,.I .u8,.I .i64,.I .i64,.I .i64]],[.one (.B)],fun t K _ h=>f t.1 (fun r0 h=>K (r0,()) h) h⟩
abbrev ZDE (f8:zT8):Cfg:=ZI Tryz.prog [(84,zk8 f8)] 31 [] [] [] ZJ
theorem ZAS (f8:zT8):ZK (ZDE f8) Tryz.f153 (.leaf) (Ztk (Zda f8)):=fun _ _ _ _=>by kernel_rfl
theorem ZxF:Zm Tryz.prog 153 (Ztk Xd):=okF (ZAS ZaP) Tryz.func153 Zf (Zo _ (.cons zo8 .nil) .nil .nil .nil (Zp _))
abbrev Zv0 (f:ZqE):Ze:=⟨[.agg [.I .i64,.I .u8,.I .i64,.I .i64,.I .i64]],[.one (.L),.one (.I .i64)],fun t K _ h=>f t.1 (fun r0 r1 h=>K (r0,r1,()) h) h⟩
abbrev ZDD (f138:ZlV) (f43:Zu2):Cfg:=ZI Tryz.prog [(153,Ztk f138),(154,ZAb f43)] 24 [] [] [] ZJ
theorem ZAR (f138:ZlV) (f43:Zu2):ZK (ZDD f138 f43) Tryz.f132 (.leaf) (Zv0 (ZeZ f138 f43)):=fun _ _ _ _=>by kernel_rfl
theorem ZBR:Zm Tryz.prog 132 (Zv0 ZcO):=okF (ZAR Xd YE) Tryz.func132 Zf (Zo _ (.cons ZxF (.cons ZE1 .nil)) .nil .nil .nil (Zp _))
abbrev ZvZ (f:ZqD):Ze:=⟨[.one (.P),.one (.P),.one (.I .i64),.one (.L)],[.one (.B)],fun t K _ h=>f t.1 t.2.1 t.2.2.1 t.2.2.2.1 (fun r0 h=>K (r0,()) h) h⟩
abbrev ZDC (f91:Zx3) (f137:ZqF) (f139:ZqE) (f45:Zu1) (f55:ZuZ):Cfg:=ZI Tryz.prog [(131,ZCp f91),(38,Zv1 f137),(132,Zv0 f139),(133,ZAa f45),(121,Zz8 f55)] 94 [] [] [] ZJ
theorem ZAQ (f91:Zx3) (f137:ZqF) (f139:ZqE) (f45:Zu1) (f55:ZuZ):ZK (ZDC f91 f137 f139 f45 f55) Tryz.f102 (.seq (.leaf) (.seq (.leaf) (.seq (.leaf) (.cut [10,12] [.one (.I .i64),.one (.P)] [(24,40)] (.order (.take 0 (.take 1 (.take 2 (.take 4 (.take 5 (.take 6 (.take 8 (.take 9 (.take 10 (.take 3 (.take 7 (.take 11 (.take 12 (.fork 13 (.take 14 (.take 15 (.take 16 (.take 17 (.take 18 (.take 19 .done)))))) 17 (.take 13 (.take 14 (.take 15 (.take 16 (.take 18 (.take 19 .done))))))))))))))))))))) (.seq (.leaf) (.cut [] [] [(43,68)] (.seq (.leaf) (.cond (.order (.take 0 (.take 1 (.take 2 (.take 3 (.take 5 (.take 6 (.take 7 (.take 9 (.take 10 (.take 4 (.take 8 (.take 11 (.take 12 (.take 13 (.take 14 (.take 15 (.take 16 (.take 17 (.take 18 .done)))))))))))))))))))) (.leaf))) (.seq (.leaf) (.seq (.leaf) (.seq (.order (.take 0 (.take 1 (.take 2 (.take 3 (.take 4 (.take 5 (.take 7 (.take 8 (.take 9 (.take 11 (.take 6 (.take 10 (.take 12 (.take 13 (.take 14 (.take 15 .done))))))))))))))))) (.leaf)))))))))) (ZvZ (Zb4 f91 f137 f139 f45 f55)):=fun _ _ _ _=>by kernel_rfl
theorem ZBQ:Zm Tryz.prog 102 (ZvZ XW):=okF (ZAQ ZaA Za7 ZcO Zbq Xp) Tryz.func102 Zf (Zo _ (.cons ZGF (.cons ZBS (.cons ZBR (.cons ZE0 (.cons ZEY .nil))))) .nil .nil .nil (Zp _))
abbrev ZvY (f:ZqC):Ze:=⟨[.one (.P),.agg [.I .u8,.I .i64,.I .i64,.I .i64,.I .i64,.I .u8,.I .i64,.I .i64,.S,.I .i64]],[.agg [.I .i64,.B,.I .i64]],fun t K _ h=>f t.1 t.2.1 (fun r0 h=>K (r0,()) h) h⟩
abbrev ZDB (f84:ZuU) (f87:ZuT) (f140:ZqD) (f64:ZlQ):Cfg:=ZI Tryz.prog [(100,Zz3 f84),(101,Zz2 f87),(102,ZvZ f140),(103,ZvF f64)] 60 [] [] [] ZJ
theorem ZAP (f84:ZuU) (f87:ZuT) (f140:ZqD) (f64:ZlQ):ZK (ZDB f84 f87 f140 f64) Tryz.f63 (.seq (.leaf) (.seq (.leaf) (.seq (.leaf) (.seq (.leaf) (.seq (.leaf) (.cut [9] [.one (.I .i64)] [(11,11),(40,53)] (.seq (.leaf) (.block (.loop [9,42] [.one (.I .i64),.one (.I .i64)] [(11,11),(43,53)] (.leaf)))) (.leaf))))))) (ZvY (Zbg f84 f87 f140 f64)):=fun _ _ _ _=>by kernel_rfl
theorem ZBP:Zm Tryz.prog 63 (ZvY YK):=okF (ZAP YQ Y5 XW Z4) Tryz.func63 Zf (Zo _ (.cons ZET (.cons ZES (.cons ZBQ (.cons ZxA .nil)))) .nil .nil .nil (Zp _))
abbrev ZvX (f:ZqB):Ze:=⟨[.one (.L)],[.agg [.I .i64,.I .u8,.I .i64,.I .i64,.I .i64],.one (.I .i64),.one (.I .i64)],fun t K _ h=>f t.1 (fun r0 r1 r2 h=>K (r0,r1,r2,()) h) h⟩
abbrev ZDA (f89:ZuR) (f138:ZlV) (f90:ZuQ):Cfg:=ZI Tryz.prog [(150,Zz0 f89),(153,Ztk f138),(152,ZzZ f90)] 37 [] [] [] ZJ
theorem ZAO (f89:ZuR) (f138:ZlV) (f90:ZuQ):ZK (ZDA f89 f138 f90) Tryz.f137 (.leaf) (ZvX (ZdA f89 f138 f90)):=fun _ _ _ _=>by kernel_rfl
theorem ZBO:Zm Tryz.prog 137 (ZvX ZaQ):=okF (ZAO Yo Xd Y1) Tryz.func137 Zf (Zo _ (.cons ZEQ (.cons ZxF (.cons ZEP .nil))) .nil .nil .nil (Zp _))
abbrev ZvW (f:ZqA):Ze:=⟨[.one (.P),.agg [.I .i64,.I .u8,.I .i64,.I .i64,.I .i64]],[],fun t K _ h=>f t.1 t.2.1 (fun h=>K (()) h) h⟩
abbrev ZDz:Cfg:=ZI Tryz.prog [] 36 [] [] [] ZJ
theorem ZAN:ZK (ZDz) Tryz.f138 (.seq (.leaf) (.seq (.order (.take 0 (.take 1 (.take 2 (.take 4 (.take 3 (.take 5 (.take 6 (.take 7 (.take 8 (.take 9 (.take 10 (.take 11 .done))))))))))))) (.seq (.leaf) (.cond (.seq (.order (.take 0 (.take 1 (.take 2 (.take 4 (.take 3 (.take 5 (.take 6 .done)))))))) (.order (.take 0 (.take 1 (.take 2 (.take 3 (.take 5 (.take 4 (.take 6 (.take 7 (.take 8 (.take 9 (.take 10 (.take 11 (.take 12 (.take 13 .done)))))))))))))))) (.leaf))))) (ZvW Zbj):=fun _ _ _ _=>by kernel_rfl
theorem ZBN:Zm Tryz.prog 138 (ZvW Xh):=okF (ZAN) Tryz.func138 Zf (Zo _ .nil .nil .nil .nil (Zp _))
abbrev ZvV (f:Zqz):Ze:=⟨[.one (.P),.one (.P)],[.one (.I .i64)],fun t K _ h=>f t.1 t.2.1 (fun r0 h=>K (r0,()) h) h⟩
abbrev ZDy (f87:ZuT) (f142:ZqB) (f143:ZqA) (f60:ZuW):Cfg:=ZI Tryz.prog [(101,Zz2 f87),(137,ZvX f142),(138,ZvW f143),(139,Zz5 f60)] 47 [] [] [] ZJ
theorem ZAM (f87:ZuT) (f142:ZqB) (f143:ZqA) (f60:ZuW):ZK (ZDy f87 f142 f143 f60) Tryz.f136 (.seq (.leaf) (.seq (.leaf) (.seq (.order (.take 0 (.take 1 (.take 2 (.take 3 (.take 4 (.take 5 (.take 6 (.take 7 (.take 8 (.take 9 (.take 10 .done)))))))))))) (.cut [4] [.one (.I .i64)] [(6,9),(24,41)] (.seq (.leaf) (.block (.loop [4,26] [.one (.I .i64),.one (.I .i64)] [(6,9),(27,41)] (.leaf)))) (.leaf))))) (ZvV (Zbw f87 f142 f143 f60)):=fun _ _ _ _=>by kernel_rfl
theorem ZBM:Zm Tryz.prog 136 (ZvV Xs):=okF (ZAM Y5 ZaQ Xh Y2) Tryz.func136 Zf (Zo _ (.cons ZES (.cons ZBO (.cons ZBN (.cons ZEV .nil)))) .nil .nil .nil (Zp _))
abbrev ZvU (f:Zqy):Ze:=⟨[.one (.P),.one (.I .i64),.clo 136 [.P,.P]],[.one (.I .i64)],fun t K _ h=>f t.1 t.2.1 t.2.2.1 (fun r0 h=>K (r0,()) h) h⟩
abbrev ZDx (f15:Zic) (f16:Zib) (f144:Zqz):Cfg:=ZI Tryz.prog [(33,Ztb f15),(86,Zta f16),(136,ZvV f144)] 57 [] [] [] ZJ
theorem ZAL (f15:Zic) (f16:Zib) (f144:Zqz):ZK (ZDx f15 f16 f144) Tryz.f49 (.seq (.leaf) (.seq (.leaf) (.seq (.leaf) (.seq (.seq (.leaf) (.block (.loop [33] [.one (.I .i64)] [(8,8),(34,54)] (.seq (.leaf) (.seq (.leaf) (.seq (.block (.seq (.leaf) (.seq (.order (.take 0 (.take 1 (.take 2 (.take 3 (.take 5 (.take 8 (.take 9 (.take 10 (.take 11 (.take 4 (.take 12 (.take 6 (.take 7 (.take 13 .done))))))))))))))) (.leaf)))) (.leaf))))))) (.leaf))))) (ZvU (XN f15 f16 f144)):=fun _ _ _ _=>by kernel_rfl
theorem ZBL:Zm Tryz.prog 49 (ZvU Yg):=okF (ZAL Zk Zq Xs) Tryz.func49 Zf (Zo _ (.cons ZuN (.cons ZuM (.cons ZBM .nil))) .nil .nil .nil (Zp _))
abbrev ZvT (f:Zqx):Ze:=⟨[.one (.P),.one (.I .i64),.one (.L)],[.one (.I .i64)],fun t K _ h=>f t.1 t.2.1 t.2.2.1 (fun r0 h=>K (r0,()) h) h⟩
abbrev ZDw (f145:Zqy):Cfg:=ZI Tryz.prog [(49,ZvU f145)] 11 [] [] [] ZJ
theorem ZAK (f145:Zqy):ZK (ZDw f145) Tryz.f104 (.leaf) (ZvT (Zca f145)):=fun _ _ _ _=>by kernel_rfl
theorem ZBK:Zm Tryz.prog 104 (ZvT XZ):=okF (ZAK Yg) Tryz.func104 Zf (Zo _ (.cons ZBL .nil) .nil .nil .nil (Zp _))
abbrev ZvS (f:Zqw):Ze:=⟨[.one (.P),.agg [.I .u8,.I .i64,.I .i64,.I .i64,.I .i64,.I .u8,.I .i64,.I .i64,.S,.I .i64]],[.agg [.I .i64,.B,.I .i64]],fun t K _ h=>f t.1 t.2.1 (fun r0 h=>K (r0,()) h) h⟩
abbrev ZDv (f84:ZuU) (f146:Zqx) (f64:ZlQ) (f65:Zqj):Cfg:=ZI Tryz.prog [(100,Zz3 f84),(104,ZvT f146),(103,ZvF f64),(95,ZxS f65)] 50 [] [] [] ZJ
theorem ZAJ (f84:ZuU) (f146:Zqx) (f64:ZlQ) (f65:Zqj):ZK (ZDv f84 f146 f64 f65) Tryz.f64 (.seq (.leaf) (.seq (.leaf) (.seq (.leaf) (.seq (.leaf) (.seq (.seq (.order (.take 0 (.take 1 (.take 2 (.take 4 (.take 5 (.take 6 (.take 8 (.take 3 (.take 7 (.take 9 (.take 10 .done)))))))))))) (.leaf)) (.leaf)))))) (ZvS (Zbh f84 f146 f64 f65)):=fun _ _ _ _=>by kernel_rfl
theorem ZBJ:Zm Tryz.prog 64 (ZvS YL):=okF (ZAJ YQ XZ Z4 Yp) Tryz.func64 Zf (Zo _ (.cons ZET (.cons ZBK (.cons ZxA (.cons ZBw .nil)))) .nil .nil .nil (Zp _))
abbrev ZvR (f:Zqv):Ze:=⟨[.one (.P),.agg [.I .u8,.I .i64,.I .i64,.I .i64,.I .i64,.I .u8,.I .i64,.I .i64,.S,.I .i64]],[.agg [.I .i64,.B,.I .i64]],fun t K _ h=>f t.1 t.2.1 (fun r0 h=>K (r0,()) h) h⟩
abbrev ZDu (f52:ZlR) (f64:ZlQ):Cfg:=ZI Tryz.prog [(40,ZvG f52),(103,ZvF f64)] 24 [] [] [] ZJ
theorem ZAI (f52:ZlR) (f64:ZlQ):ZK (ZDu f52 f64) Tryz.f65 (.leaf) (ZvR (Zcy f52 f64)):=fun _ _ _ _=>by kernel_rfl
theorem ZBI:Zm Tryz.prog 65 (ZvR Xy):=okF (ZAI ZP Z4) Tryz.func65 Zf (Zo _ (.cons ZxB (.cons ZxA .nil)) .nil .nil .nil (Zp _))
abbrev ZvQ (f:Zqu):Ze:=⟨[.one (.P),.one (.L)],[.one (.I .i64)],fun t K _ h=>f t.1 t.2.1 (fun r0 h=>K (r0,()) h) h⟩
abbrev ZDt (f6:zT6):Cfg:=ZI Tryz.prog [(46,zk6 f6)] 26 [] [] [] ZJ
theorem ZAH (f6:zT6):ZK (ZDt f6) Tryz.f105 (.seq (.leaf) (.seq (.leaf) (.seq (.seq (.leaf) (.block (.loop [16] [.one (.I .i64)] [(7,7),(17,25)] (.leaf)))) (.leaf)))) (ZvQ (ZdQ f6)):=fun _ _ _ _=>by kernel_rfl
theorem ZBH:Zm Tryz.prog 105 (ZvQ Za8):=okF (ZAH Ym) Tryz.func105 Zf (Zo _ (.cons zo6 .nil) .nil .nil .nil (Zp _))
abbrev ZvP (f:Zqt):Ze:=⟨[.one (.P),.agg [.I .u8,.I .i64,.I .i64,.I .i64,.I .i64,.I .u8,.I .i64,.I .i64,.S,.I .i64]],[.agg [.I .i64,.B,.I .i64]],fun t K _ h=>f t.1 t.2.1 (fun r0 h=>K (r0,()) h) h⟩
abbrev ZDs (f149:Zqu) (f64:ZlQ):Cfg:=ZI Tryz.prog [(105,ZvQ f149),(103,ZvF f64)] 39 [] [] [] ZJ
theorem ZAG (f149:Zqu) (f64:ZlQ):ZK (ZDs f149 f64) Tryz.f66 (.seq (.leaf) (.seq (.leaf) (.seq (.leaf) (.seq (.leaf) (.seq (.seq (.leaf) (.block (.loop [26] [.one (.I .i64)] [(5,5),(27,37)] (.leaf)))) (.leaf)))))) (ZvP (Zcx f149 f64)):=fun _ _ _ _=>by kernel_rfl
theorem ZBG:Zm Tryz.prog 66 (ZvP Xx):=okF (ZAG Za8 Z4) Tryz.func66 Zf (Zo _ (.cons ZBH (.cons ZxA .nil)) .nil .nil .nil (Zp _))
abbrev ZvO (f:Zqs):Ze:=⟨[.one (.P),.one (.I .i64)],[.one (.I .i64)],fun t K _ h=>f t.1 t.2.1 (fun r0 h=>K (r0,()) h) h⟩
abbrev ZDr (f92:ZuP) (f37:Zu5):Cfg:=ZI Tryz.prog [(72,ZzY f92),(59,ZAe f37)] 85 [] [] [] ZJ
theorem ZAF (f92:ZuP) (f37:Zu5):ZK (ZDr f92 f37) Tryz.f106 (.seq (.leaf) (.seq (.leaf) (.seq (.leaf) (.seq (.leaf) (.seq (.leaf) (.seq (.seq (.leaf) (.block (.loop [38] [.one (.I .i64)] [(7,7),(9,9),(39,61)] (.seq (.leaf) (.seq (.leaf) (.seq (.block (.seq (.leaf) (.seq (.leaf) (.block (.loop [45] [.one (.I .i64)] [(9,9),(46,60)] (.seq (.leaf) (.seq (.leaf) (.seq (.block (.seq (.leaf) (.order (.take 0 (.take 1 (.take 2 (.take 4 (.take 8 (.take 3 (.take 5 (.take 6 (.take 9 (.take 7 (.take 10 (.take 11 .done))))))))))))))) (.leaf))))))))) (.leaf))))))) (.seq (.seq (.leaf) (.block (.loop [] [] [(10,11),(67,84)] (.cut [68] [.one (.B)] [(67,67)] (.leaf) (.seq (.leaf) (.block (.seq (.leaf) (.order (.take 0 (.take 1 (.take 2 (.take 4 (.take 5 (.take 6 (.take 10 (.take 3 (.take 7 (.take 8 (.take 11 (.take 9 (.take 12 (.take 13 .done)))))))))))))))))))))) (.leaf)))))))) (ZvO (ZbG f92 f37)):=fun _ _ _ _=>by kernel_rfl
theorem ZBF:Zm Tryz.prog 106 (ZvO XI):=okF (ZAF Xa YX) Tryz.func106 Zf (Zo _ (.cons ZEO (.cons ZE4 .nil)) .nil .nil .nil (Zp _))
abbrev ZvN (f:Zqr):Ze:=⟨[.one (.P),.agg [.I .u8,.I .i64,.I .i64,.I .i64,.I .i64,.I .u8,.I .i64,.I .i64,.S,.I .i64]],[.agg [.I .i64,.B,.I .i64]],fun t K _ h=>f t.1 t.2.1 (fun r0 h=>K (r0,()) h) h⟩
abbrev ZDq (f151:Zqs) (f7:zT7):Cfg:=ZI Tryz.prog [(106,ZvO f151),(24,zk7 f7)] 29 [] [] [] ZJ
theorem ZAE (f151:Zqs) (f7:zT7):ZK (ZDq f151 f7) Tryz.f67 (.seq (.leaf) (.seq (.leaf) (.seq (.leaf) (.seq (.order (.take 0 (.take 1 (.take 2 (.take 4 (.take 5 (.take 6 (.take 3 (.take 7 (.take 8 .done)))))))))) (.leaf))))) (ZvN (Zb3 f151 f7)):=fun _ _ _ _=>by kernel_rfl
theorem ZBE:Zm Tryz.prog 67 (ZvN Xf):=okF (ZAE XI YP) Tryz.func67 Zf (Zo _ (.cons ZBF (.cons zo7 .nil)) .nil .nil .nil (Zp _))
abbrev Ztj (f:ZlU):Ze:=⟨[.one (.P),.agg [.I .u8,.I .i64,.I .i64,.I .i64,.I .i64,.I .u8,.I .i64,.I .i64,.S,.I .i64]],[.one (.I .i64),.one (.B),.one (.I .i64)],fun t K _ h=>f t.1 t.2.1 (fun r0 r1 r2 h=>K (r0,r1,r2,()) h) h⟩
abbrev ZDp (f40:ZyA) (f41:Zu3) (f42:Zyz) (f66:Zym) (f80:Zx8) (f141:ZqC) (f147:Zqw) (f148:Zqv) (f150:Zqt) (f152:Zqr):Cfg:=ZI Tryz.prog [(28,ZCW f40),(29,ZAc f41),(60,ZCV f42),(61,ZCI f66),(62,ZCu f80),(63,ZvY f141),(64,ZvS f147),(65,ZvR f148),(66,ZvP f150),(67,ZvN f152)] 45 [] [] [] ZJ [60,61,62,63,64,65,66,67]
theorem ZAD (f40:ZyA) (f41:Zu3) (f42:Zyz) (f66:Zym) (f80:Zx8) (f141:ZqC) (f147:Zqw) (f148:Zqv) (f150:Zqt) (f152:Zqr):ZK (ZDp f40 f41 f42 f66 f80 f141 f147 f148 f150 f152) Tryz.f10 (.seq (.leaf) (.seq (.leaf) (.seq (.leaf) (.cut [] [] [(4,6),(18,31)] (.leaf) (.cut [9] [.one (.P)] [(32,38)] (.order (.take 0 (.take 2 (.take 3 (.take 4 (.take 1 (.take 5 (.fork 6 (.take 7 (.take 8 .done)) 7 (.take 6 (.take 8 .done)))))))))) (.leaf)))))) (Ztj (ZcA f40 f41 f42 f66 f80 f141 f147 f148 f150 f152)):=fun _ _ _ _=>by kernel_rfl
theorem ZxE:Zm Tryz.prog 10 (Ztj YD):=okF (ZAD Zby YF Xw XP Xz YK YL Xy Xx Xf) Tryz.func10 Zf (Zo _ (.cons ZHc (.cons ZE2 (.cons ZHb (.cons ZGY (.cons ZGK (.cons ZBP (.cons ZBJ (.cons ZBI (.cons ZBG (.cons ZBE .nil)))))))))) .nil .nil .nil (Zp _))
abbrev ZvM (f:Zqq):Ze:=⟨[.one (.P),.one (.L)],[.one (.L)],fun t K _ h=>f t.1 t.2.1 (fun r0 h=>K (r0,()) h) h⟩
abbrev ZDo (f153:ZlU):Cfg:=ZI Tryz.prog [(10,Ztj f153)] 31 [] [] [] ZJ
theorem ZAC (f153:ZlU):ZK (ZDo f153) Tryz.f17 (.seq (.leaf) (.seq (.leaf) (.seq (.seq (.leaf) (.block (.loop [5,11] [.one (.L),.one (.I .i64)] [(6,8),(12,29)] (.leaf)))) (.leaf)))) (ZvM (Zb7 f153)):=fun _ _ _ _=>by kernel_rfl
theorem ZBD:Zm Tryz.prog 17 (ZvM XX):=okF (ZAC YD) Tryz.func17 Zf (Zo _ (.cons ZxE .nil) .nil .nil .nil (Zp _))
abbrev ZvL (f:Zqp):Ze:=⟨[.one (.P),.one (.I .i64)],[.one (.P)],fun t K _ h=>f t.1 t.2.1 (fun r0 h=>K (r0,()) h) h⟩
abbrev ZDn (f41:Zu3):Cfg:=ZI Tryz.prog [(29,ZAc f41)] 15 [] [] [] ZJ
theorem ZAB (f41:Zu3):ZK (ZDn f41) Tryz.f31 (.leaf) (ZvL (X4 f41)):=fun _ _ _ _=>by kernel_rfl
theorem ZBC:Zm Tryz.prog 31 (ZvL Xg):=okF (ZAB YF) Tryz.func31 Zf (Zo _ (.cons ZE2 .nil) .nil .nil .nil (Zp _))
abbrev ZvK (f:Zqo):Ze:=⟨[.one (.P)],[.one (.L)],fun t K _ h=>f t.1 (fun r0 h=>K (r0,()) h) h⟩
abbrev ZDm:Cfg:=ZI Tryz.prog [] 14 [] [] [] ZJ
theorem ZAA:ZK (ZDm) Tryz.f32 (.leaf) (ZvK ZcE):=fun _ _ _ _=>by kernel_rfl
theorem ZBB:Zm Tryz.prog 32 (ZvK Zag):=okF (ZAA) Tryz.func32 Zf (Zo _ .nil .nil .nil .nil (Zp _))
abbrev Zti (f:ZlT):Ze:=⟨[.one (.P),.one (.I .i64)],[.one (.L)],fun t K _ h=>f t.1 t.2.1 (fun r0 h=>K (r0,()) h) h⟩
abbrev ZDl (f155:Zqp) (f156:Zqo):Cfg:=ZI Tryz.prog [(31,ZvL f155),(32,ZvK f156)] 9 [] [] [] ZJ
theorem ZAz (f155:Zqp) (f156:Zqo):ZK (ZDl f155 f156) Tryz.f12 (.leaf) (Zti (ZaE f155 f156)):=fun _ _ _ _=>by kernel_rfl
theorem ZxD:Zm Tryz.prog 12 (Zti Z8):=okF (ZAz Xg Zag) Tryz.func12 Zf (Zo _ (.cons ZBC (.cons ZBB .nil)) .nil .nil .nil (Zp _))
abbrev ZvJ (f:Zqn):Ze:=⟨[.one (.L)],[.one (.L)],fun t K _ h=>f t.1 (fun r0 h=>K (r0,()) h) h⟩
abbrev ZDk:Cfg:=ZI Tryz.prog [] 8 [] [] [] ZJ
theorem ZAy:ZK (ZDk) Tryz.f30 (.leaf) (ZvJ YB):=fun _ _ _ _=>by kernel_rfl
theorem ZBA:Zm Tryz.prog 30 (ZvJ Ya):=okF (ZAy) Tryz.func30 Zf (Zo _ .nil .nil .nil .nil (Zp _))
abbrev Zth (f:ZlS):Ze:=⟨[.one (.P)],[.one (.L)],fun t K _ h=>f t.1 (fun r0 h=>K (r0,()) h) h⟩
abbrev ZDj (f158:Zqn):Cfg:=ZI Tryz.prog [(30,ZvJ f158)] 11 [] [] [] ZJ
theorem ZAx (f158:Zqn):ZK (ZDj f158) Tryz.f11 (.leaf) (Zth (Zbi f158)):=fun _ _ _ _=>by kernel_rfl
theorem ZxC:Zm Tryz.prog 11 (Zth Yy):=okF (ZAx Ya) Tryz.func11 Zf (Zo _ (.cons ZBA .nil) .nil .nil .nil (Zp _))
abbrev ZvI (f:Zqm):Ze:=⟨[],[.one (.B)],fun _ K _ h=>f (fun r0 h=>K (r0,()) h) h⟩
abbrev ZDi (f20:Zu6) (f39:Zu4) (f154:Zqq) (f157:ZlT) (f159:ZlS):Cfg:=ZI Tryz.prog [(7,ZAf f20),(9,ZAd f39),(17,ZvM f154),(12,Zti f157),(11,Zth f159)] 81 [] [] [] ZJ
theorem ZAw (f20:Zu6) (f39:Zu4) (f154:Zqq) (f157:ZlT) (f159:ZlS):ZK (ZDi f20 f39 f154 f157 f159) Tryz.f8 (.seq (.leaf) (.seq (.leaf) (.seq (.leaf) (.seq (.leaf) (.seq (.leaf) (.seq (.leaf) (.seq (.seq (.leaf) (.block (.loop [6] [.one (.I .i64)] [(0,0),(34,44)] (.leaf)))) (.leaf)))))))) (ZvI (Zcr f20 f39 f154 f157 f159)):=fun _ _ _ _=>by kernel_rfl
theorem ZBz:Zm Tryz.prog 8 (ZvI Xv):=okF (ZAw Zbr Yf XX Z8 Yy) Tryz.func8 Zf (Zo _ (.cons ZE5 (.cons ZE3 (.cons ZBD (.cons ZxD (.cons ZxC .nil))))) .nil .nil .nil (Zp _))
abbrev ZvH (f:Zql):Ze:=⟨[.one (.P)],[.one (.I .i64)],fun t K _ h=>f t.1 (fun r0 h=>K (r0,()) h) h⟩
abbrev ZDh:Cfg:=ZI Tryz.prog [] 10 [] [] [] ZJ
theorem ZAv:ZK (ZDh) Tryz.f13 (.leaf) (ZvH Zb8):=fun _ _ _ _=>by kernel_rfl
theorem ZBy:Zm Tryz.prog 13 (ZvH XY):=okF (ZAv) Tryz.func13 Zf (Zo _ .nil .nil .nil .nil (Zp _))
abbrev ZxU (f:ZyR):Ze:=⟨[.agg [.I .i64,.I .i64,.I .i64,.I .i64,.I .i64,.L],.one (.L)],[.one (.B)],fun t K _ h=>f t.1 t.2.1 (fun r0 h=>K (r0,()) h) h⟩
abbrev ZDg (f20:Zu6) (f160:Zqm) (f39:Zu4) (f153:ZlU) (f159:ZlS) (f157:ZlT) (f161:Zql):Cfg:=ZI Tryz.prog [(7,ZAf f20),(8,ZvI f160),(9,ZAd f39),(10,Ztj f153),(11,Zth f159),(12,Zti f157),(13,ZvH f161)] 192 [] [] [] ZJ
theorem ZAu (f20:Zu6) (f160:Zqm) (f39:Zu4) (f153:ZlU) (f159:ZlS) (f157:ZlT) (f161:Zql):ZK (ZDg f20 f160 f39 f153 f159 f157 f161) Tryz.f4 (.seq (.leaf) (.seq (.leaf) (.seq (.leaf) (.seq (.leaf) (.seq (.leaf) (.seq (.leaf) (.seq (.seq (.leaf) (.block (.loop [9] [.one (.I .i64)] [(4,4),(10,19),(43,190)] (.seq (.leaf) (.seq (.block (.seq (.leaf) (.cut [] [] [(13,13),(63,92)] (.seq (.leaf) (.cond (.seq (.leaf) (.seq (.leaf) (.order (.take 0 (.take 1 (.take 2 (.take 3 (.take 4 (.take 6 (.take 5 (.take 7 (.take 8 (.take 9 .done))))))))))))) (.leaf))) (.seq (.leaf) (.seq (.leaf) (.block (.loop [15] [.one (.I .i64)] [(4,4),(16,19),(95,190)] (.seq (.leaf) (.seq (.block (.seq (.leaf) (.seq (.leaf) (.block (.loop [17] [.one (.I .i64)] [(4,4),(18,19),(104,190)] (.seq (.leaf) (.seq (.block (.seq (.leaf) (.seq (.leaf) (.seq (.seq (.leaf) (.block (.loop [18,19] [.one (.B),.one (.I .i64)] [(124,188)] (.seq (.leaf) (.seq (.block (.seq (.order (.take 0 (.take 1 (.take 2 (.take 3 (.take 4 (.take 5 (.take 6 (.take 7 (.take 8 (.take 10 (.take 9 (.take 11 (.take 12 (.take 13 (.take 14 (.take 15 (.take 16 (.take 17 (.take 19 (.take 20 (.take 21 (.take 22 (.take 18 (.take 23 (.take 24 (.take 25 (.take 26 (.take 27 (.take 28 (.take 29 (.take 30 (.take 32 (.take 33 (.take 34 (.take 35 (.take 36 (.take 37 (.take 31 (.take 38 (.take 39 (.take 40 (.take 41 (.take 42 (.take 43 (.take 44 (.take 45 (.take 46 (.take 47 (.take 49 (.take 48 (.take 50 (.take 51 (.take 52 .done)))))))))))))))))))))))))))))))))))))))))))))))))))))) (.leaf))) (.leaf)))))) (.leaf))))) (.leaf)))))))) (.leaf)))))))))) (.leaf)))))) (.leaf)))))))) (ZxU (X8 f20 f160 f39 f153 f159 f157 f161)):=fun _ _ _ _=>by kernel_rfl
theorem Zd0:Zm Tryz.prog 4 (ZxU X7):=okF (ZAu Zbr Xv Yf YD Yy Z8 XY) Tryz.func4 Zf (Zo _ (.cons ZE5 (.cons ZBz (.cons ZE3 (.cons ZxE (.cons ZxC (.cons ZxD (.cons ZBy .nil))))))) .nil .nil .nil (Zp _))
end
end Go.Proofs.YtbppjmcinoffnaaGreat
