/- That each function does what its model says. Written by a program out of the translated functions. -/
import Derived.Test.YthbfgkphlmlihaaGreatProg
import Derived.KernelRfl
import Derived.Test.YthbfgkphlmlihaaGreatPa6
set_option linter.unusedVariables false
set_option linter.unusedSimpArgs false
namespace Go.Proofs.YthbfgkphlmlihaaGreat
open Go Go.Fw
noncomputable section
theorem Zg:Tryz.prog.follows .mixedOrders=true:=by kernel_rfl
abbrev zk0 (f:zT0):Zd:=⟨[],[.one (.P)],fun _ K _ h=>f (fun r0 h=>K (r0,()) h) h⟩
abbrev zc0:Cfg:=Zv Tryz.prog [] 3 [] [] [] Zw
theorem zr0:Zx (zc0) Tryz.f19 (.leaf) (zk0 Zc0):=fun _ _ _ _=>by kernel_rfl
theorem zo0:Zj Tryz.prog 19 (zk0 ZaB):=okF (zr0) Tryz.func19 Zg (Zm _ .nil .nil .nil .nil (Zn _))
abbrev zk1 (f:zT1):Zd:=⟨[],[.one (.P)],fun _ K _ h=>f (fun r0 h=>K (r0,()) h) h⟩
abbrev zc1:Cfg:=Zv Tryz.prog [] 5 [] [] [] Zw
theorem zr1:Zx (zc1) Tryz.f20 (.leaf) (zk1 ZgN):=fun _ _ _ _=>by kernel_rfl
theorem zo1:Zj Tryz.prog 20 (zk1 Zd3):=okF (zr1) Tryz.func20 Zg (Zm _ .nil .nil .nil .nil (Zn _))
abbrev zk2 (f:zT2):Zd:=⟨[.one (.I .i64),.one (.I .u64)],[.one (.P),.one (.I .i64)],fun t K _ h=>f t.1 t.2.1 (fun r0 r1 h=>K (r0,r1,()) h) h⟩
abbrev zc2 (f0:zT0) (f1:zT1):Cfg:=Zv Tryz.prog [(19,zk0 f0),(20,zk1 f1)] 20 [] [] [] Zw
theorem zr2 (f0:zT0) (f1:zT1):Zx (zc2 f0 f1) Tryz.f9 (.leaf) (zk2 (ZfN f0 f1)):=fun _ _ _ _=>by kernel_rfl
theorem zo2:Zj Tryz.prog 9 (zk2 Zbp):=okF (zr2 ZaB Zd3) Tryz.func9 Zg (Zm _ (.cons zo0 (.cons zo1 .nil)) .nil .nil .nil (Zn _))
abbrev zk3 (f:zT3):Zd:=⟨[.agg [.L,.L,.L,.L,.L]],[.one (.L)],fun t K _ h=>f t.1 (fun r0 h=>K (r0,()) h) h⟩
abbrev zc3:Cfg:=Zv Tryz.prog [] 29 [] [] [] Zw
theorem zr3:Zx (zc3) Tryz.f80 (.leaf) (zk3 ZdN):=fun _ _ _ _=>by kernel_rfl
theorem zo3:Zj Tryz.prog 80 (zk3 Zbi):=okF (zr3) Tryz.func80 Zg (Zm _ .nil .nil .nil .nil (Zn _))
abbrev zk4 (f:zT4):Zd:=⟨[.one (.I .i64),.one (.I .i64),.one (.I .i64)],[.one (.B)],fun t K _ h=>f t.1 t.2.1 t.2.2.1 (fun r0 h=>K (r0,()) h) h⟩
abbrev zc4:Cfg:=Zv Tryz.prog [] 15 [] [] [] Zw
theorem zr4:Zx (zc4) Tryz.f141 (.leaf) (zk4 ZdM):=fun _ _ _ _=>by kernel_rfl
theorem zo4:Zj Tryz.prog 141 (zk4 Ye):=okF (zr4) Tryz.func141 Zg (Zm _ .nil .nil .nil .nil (Zn _))
abbrev zk5 (f:zT5):Zd:=⟨[.one (.S)],[.one (.B)],fun t K _ h=>f t.1 (fun r0 h=>K (r0,()) h) h⟩
abbrev zc5 (f4:zT4):Cfg:=Zv Tryz.prog [(141,zk4 f4)] 19 [] [] [] Zw
theorem zr5 (f4:zT4):Zx (zc5 f4) Tryz.f114 (.seq (.leaf) (.seq (.seq (.leaf) (.block (.loop [6] [.one (.I .i64)] [(2,3),(7,15)] (.leaf)))) (.leaf))) (zk5 (ZdO f4)):=fun _ _ _ _=>by kernel_rfl
theorem zo5:Zj Tryz.prog 114 (zk5 Y6):=okF (zr5 Ye) Tryz.func114 Zg (Zm _ (.cons zo4 .nil) .nil .nil .nil (Zn _))
abbrev zk6 (f:zT6):Zd:=⟨[.one (.S)],[.one (.B)],fun t K _ h=>f t.1 (fun r0 h=>K (r0,()) h) h⟩
abbrev zc6 (f5:zT5):Cfg:=Zv Tryz.prog [(114,zk5 f5)] 6 [] [] [] Zw
theorem zr6 (f5:zT5):Zx (zc6 f5) Tryz.f242 (.leaf) (zk6 (Za1 f5)):=fun _ _ _ _=>by kernel_rfl
theorem zo6:Zj Tryz.prog 242 (zk6 XT):=okF (zr6 Y6) Tryz.func242 Zg (Zm _ (.cons zo5 .nil) .nil .nil .nil (Zn _))
abbrev zk7 (f:zT7):Zd:=⟨[.one (.L),.fn 242],[.one (.I .i64)],fun t K _ h=>f t.1 (fun r0 h=>K (r0,()) h) h⟩
abbrev zc7 (f6:zT6):Cfg:=Zv Tryz.prog [(242,zk6 f6)] 19 [] [] [] Zw
theorem zr7 (f6:zT6):Zx (zc7 f6) Tryz.f155 (.seq (.leaf) (.seq (.seq (.leaf) (.block (.loop [8] [.one (.I .i64)] [(4,5),(9,18)] (.leaf)))) (.leaf))) (zk7 (Ya f6)):=fun _ _ _ _=>by kernel_rfl
theorem zo7:Zj Tryz.prog 155 (zk7 ZM):=okF (zr7 XT) Tryz.func155 Zg (Zm _ (.cons zo6 .nil) .nil .nil .nil (Zn _))
abbrev zk8 (f:zT8):Zd:=⟨[.one (.L),.fn 242],[.one (.B)],fun t K _ h=>f t.1 (fun r0 h=>K (r0,()) h) h⟩
abbrev zc8 (f7:zT7):Cfg:=Zv Tryz.prog [(155,zk7 f7)] 9 [] [] [] Zw
theorem zr8 (f7:zT7):Zx (zc8 f7) Tryz.f97 (.leaf) (zk8 (Z2 f7)):=fun _ _ _ _=>by kernel_rfl
theorem zo8:Zj Tryz.prog 97 (zk8 ZC):=okF (zr8 ZM) Tryz.func97 Zg (Zm _ (.cons zo7 .nil) .nil .nil .nil (Zn _))
abbrev zk9 (f:zT9):Zd:=⟨[.agg [.S,.L]],[.one (.B)],fun t K _ h=>f t.1 (fun r0 h=>K (r0,()) h) h⟩
abbrev zc9 (f5:zT5) (f8:zT8):Cfg:=Zv Tryz.prog [(114,zk5 f5),(97,zk8 f8)] 12 [] [] [] Zw
theorem zr9 (f5:zT5) (f8:zT8):Zx (zc9 f5 f8) Tryz.f198 (.leaf) (zk9 (Zbx f5 f8)):=fun _ _ _ _=>by kernel_rfl
theorem zo9:Zj Tryz.prog 198 (zk9 XD):=okF (zr9 Y6 ZC) Tryz.func198 Zg (Zm _ (.cons zo5 (.cons zo8 .nil)) .nil .nil .nil (Zn _))
abbrev Zx5 (f:Zt5):Zd:=⟨[.one (.P),.one (.P)],[.one (.B)],fun t K _ h=>f t.1 t.2.1 (fun r0 h=>K (r0,()) h) h⟩
abbrev ZDD (f4:zT4):Cfg:=Zv Tryz.prog [(141,zk4 f4)] 7 [] [] [] Zw
theorem ZBa (f4:zT4):Zx (ZDD f4) Tryz.f190 (.leaf) (Zx5 (ZdV f4)):=fun _ _ _ _=>by kernel_rfl
theorem ZCh:Zj Tryz.prog 190 (Zx5 ZcE):=okF (ZBa Ye) Tryz.func190 Zg (Zm _ (.cons zo4 .nil) .nil .nil .nil (Zn _))
abbrev Zx4 (f:Zt4):Zd:=⟨[.one (.P)],[.one (.B)],fun t K _ h=>f t.1 (fun r0 h=>K (r0,()) h) h⟩
abbrev ZDC:Cfg:=Zv Tryz.prog [] 10 [] [] [] Zw
theorem ZA9:Zx (ZDC) Tryz.f191 (.leaf) (Zx4 ZdU):=fun _ _ _ _=>by kernel_rfl
theorem ZCg:Zj Tryz.prog 191 (Zx4 ZcD):=okF (ZA9) Tryz.func191 Zg (Zm _ .nil .nil .nil .nil (Zn _))
abbrev Zx3 (f:Zt3):Zd:=⟨[.one (.P)],[.one (.B)],fun t K _ h=>f t.1 (fun r0 h=>K (r0,()) h) h⟩
abbrev ZDB:Cfg:=Zv Tryz.prog [] 10 [] [] [] Zw
theorem ZA8:Zx (ZDB) Tryz.f192 (.leaf) (Zx3 ZdT):=fun _ _ _ _=>by kernel_rfl
theorem ZCf:Zj Tryz.prog 192 (Zx3 ZcC):=okF (ZA8) Tryz.func192 Zg (Zm _ .nil .nil .nil .nil (Zn _))
abbrev Zx2 (f:Zt2):Zd:=⟨[.one (.P)],[.one (.B)],fun t K _ h=>f t.1 (fun r0 h=>K (r0,()) h) h⟩
abbrev ZDA:Cfg:=Zv Tryz.prog [] 15 [] [] [] Zw
theorem ZA7:Zx (ZDA) Tryz.f193 (.leaf) (Zx2 ZdS):=fun _ _ _ _=>by kernel_rfl
theorem ZCe:Zj Tryz.prog 193 (Zx2 ZcB):=okF (ZA7) Tryz.func193 Zg (Zm _ .nil .nil .nil .nil (Zn _))
abbrev ZsP (f:Zns):Zd:=⟨[.one (.B),.one (.I .i64),.one (.I .i64),.one (.I .i64)],[.one (.B)],fun t K _ h=>f t.1 t.2.1 t.2.2.1 t.2.2.2.1 (fun r0 h=>K (r0,()) h) h⟩
abbrev ZDz (f4:zT4):Cfg:=Zv Tryz.prog [(141,zk4 f4)] 24 [] [] [] Zw
theorem ZA6 (f4:zT4):Zx (ZDz f4) Tryz.f143 (.leaf) (ZsP (Ze5 f4)):=fun _ _ _ _=>by kernel_rfl
theorem ZwA:Zj Tryz.prog 143 (ZsP XU):=okF (ZA6 Ye) Tryz.func143 Zg (Zm _ (.cons zo4 .nil) .nil .nil .nil (Zn _))
abbrev Zx1 (f:Zt1):Zd:=⟨[.one (.P),.one (.P),.one (.P)],[.one (.B)],fun t K _ h=>f t.1 t.2.1 t.2.2.1 (fun r0 h=>K (r0,()) h) h⟩
abbrev ZDy (f14:Zns):Cfg:=Zv Tryz.prog [(143,ZsP f14)] 14 [] [] [] Zw
theorem ZA5 (f14:Zns):Zx (ZDy f14) Tryz.f194 (.leaf) (Zx1 (ZdR f14)):=fun _ _ _ _=>by kernel_rfl
theorem ZCd:Zj Tryz.prog 194 (Zx1 ZcA):=okF (ZA5 XU) Tryz.func194 Zg (Zm _ (.cons ZwA .nil) .nil .nil .nil (Zn _))
abbrev Zx0 (f:Zt0):Zd:=⟨[.one (.P)],[.one (.B)],fun t K _ h=>f t.1 (fun r0 h=>K (r0,()) h) h⟩
abbrev ZDx:Cfg:=Zv Tryz.prog [] 15 [] [] [] Zw
theorem ZA4:Zx (ZDx) Tryz.f195 (.leaf) (Zx0 ZdQ):=fun _ _ _ _=>by kernel_rfl
theorem ZCc:Zj Tryz.prog 195 (Zx0 Zcz):=okF (ZA4) Tryz.func195 Zg (Zm _ .nil .nil .nil .nil (Zn _))
abbrev ZxZ (f:ZtZ):Zd:=⟨[.one (.P)],[.one (.B)],fun t K _ h=>f t.1 (fun r0 h=>K (r0,()) h) h⟩
abbrev ZDw (f14:Zns):Cfg:=Zv Tryz.prog [(143,ZsP f14)] 16 [] [] [] Zw
theorem ZA3 (f14:Zns):Zx (ZDw f14) Tryz.f196 (.leaf) (ZxZ (ZdP f14)):=fun _ _ _ _=>by kernel_rfl
theorem ZCb:Zj Tryz.prog 196 (ZxZ Zcy):=okF (ZA3 XU) Tryz.func196 Zg (Zm _ (.cons ZwA .nil) .nil .nil .nil (Zn _))
abbrev ZxY (f:ZtX):Zd:=⟨[.one (.P),.one (.P)],[.one (.B)],fun t K _ h=>f t.1 t.2.1 (fun r0 h=>K (r0,()) h) h⟩
abbrev ZDv (f4:zT4):Cfg:=Zv Tryz.prog [(141,zk4 f4)] 12 [] [] [] Zw
theorem ZA2 (f4:zT4):Zx (ZDv f4) Tryz.f140 (.leaf) (ZxY (Zfc f4)):=fun _ _ _ _=>by kernel_rfl
theorem ZCa:Zj Tryz.prog 140 (ZxY Zdm):=okF (ZA2 Ye) Tryz.func140 Zg (Zm _ (.cons zo4 .nil) .nil .nil .nil (Zn _))
abbrev ZxX (f:ZtW):Zd:=⟨[.one (.P)],[.one (.B)],fun t K _ h=>f t.1 (fun r0 h=>K (r0,()) h) h⟩
abbrev ZDu (f14:Zns):Cfg:=Zv Tryz.prog [(143,ZsP f14)] 8 [] [] [] Zw
theorem ZA1 (f14:Zns):Zx (ZDu f14) Tryz.f142 (.leaf) (ZxX (Zfb f14)):=fun _ _ _ _=>by kernel_rfl
theorem ZB9:Zj Tryz.prog 142 (ZxX Zdl):=okF (ZA1 XU) Tryz.func142 Zg (Zm _ (.cons ZwA .nil) .nil .nil .nil (Zn _))
abbrev ZxW (f:ZtV):Zd:=⟨[.one (.P)],[.one (.B)],fun t K _ h=>f t.1 (fun r0 h=>K (r0,()) h) h⟩
abbrev ZDt (f4:zT4):Cfg:=Zv Tryz.prog [(141,zk4 f4)] 10 [] [] [] Zw
theorem ZA0 (f4:zT4):Zx (ZDt f4) Tryz.f144 (.leaf) (ZxW (Zfa f4)):=fun _ _ _ _=>by kernel_rfl
theorem ZB8:Zj Tryz.prog 144 (ZxW Zdk):=okF (ZA0 Ye) Tryz.func144 Zg (Zm _ (.cons zo4 .nil) .nil .nil .nil (Zn _))
abbrev ZxV (f:ZtU):Zd:=⟨[.one (.P)],[.one (.B)],fun t K _ h=>f t.1 (fun r0 h=>K (r0,()) h) h⟩
abbrev ZDs (f4:zT4):Cfg:=Zv Tryz.prog [(141,zk4 f4)] 5 [] [] [] Zw
theorem ZAZ (f4:zT4):Zx (ZDs f4) Tryz.f145 (.leaf) (ZxV (Ze9 f4)):=fun _ _ _ _=>by kernel_rfl
theorem ZB7:Zj Tryz.prog 145 (ZxV Zdj):=okF (ZAZ Ye) Tryz.func145 Zg (Zm _ (.cons zo4 .nil) .nil .nil .nil (Zn _))
abbrev ZuR (f:Zqs):Zd:=⟨[.agg [.S,.L,.I .i64],.one (.L)],[.one (.I .i64)],fun t K _ h=>f t.1 t.2.1 (fun r0 h=>K (r0,()) h) h⟩
abbrev ZDr (f9:zT9) (f10:Zt5) (f11:Zt4) (f12:Zt3) (f13:Zt2) (f15:Zt1) (f16:Zt0) (f17:ZtZ) (f18:ZtX) (f19:ZtW) (f20:ZtV) (f21:ZtU):Cfg:=Zv Tryz.prog [(198,zk9 f9),(190,Zx5 f10),(191,Zx4 f11),(192,Zx3 f12),(193,Zx2 f13),(194,Zx1 f15),(195,Zx0 f16),(196,ZxZ f17),(140,ZxY f18),(142,ZxX f19),(144,ZxW f20),(145,ZxV f21)] 23 [] [] [] Zw [(190,[.P,.P]),(191,[.P]),(192,[.P]),(193,[.P]),(194,[.P,.P,.P]),(195,[.P]),(196,[.P]),(140,[.P,.P]),(142,[.P]),(144,[.P]),(145,[.P])]
theorem ZAY (f9:zT9) (f10:Zt5) (f11:Zt4) (f12:Zt3) (f13:Zt2) (f15:Zt1) (f16:Zt0) (f17:ZtZ) (f18:ZtX) (f19:ZtW) (f20:ZtV) (f21:ZtU):Zx (ZDr f9 f10 f11 f12 f13 f15 f16 f17 f18 f19 f20 f21) Tryz.f139 (.seq (.leaf) (.seq (.leaf) (.seq (.seq (.leaf) (.block (.loop [13] [.one (.I .i64)] [(4,4),(6,6),(14,22)] (.leaf)))) (.leaf)))) (ZuR (Zdo f9 f10 f11 f12 f13 f15 f16 f17 f18 f19 f20 f21)):=fun _ _ _ _=>by kernel_rfl
theorem ZzC:Zj Tryz.prog 139 (ZuR XE):=okF (ZAY XD ZcE ZcD ZcC ZcB ZcA Zcz Zcy Zdm Zdl Zdk Zdj) Tryz.func139 Zg (Zm _ (.cons zo9 (.cons ZCh (.cons ZCg (.cons ZCf (.cons ZCe (.cons ZCd (.cons ZCc (.cons ZCb (.cons ZCa (.cons ZB9 (.cons ZB8 (.cons ZB7 .nil)))))))))))) .nil .nil .nil (Zn _))
abbrev ZxU (f:ZtT):Zd:=⟨[.agg [.S,.S,.B,.I .i64,.I .u8,.S,.I .u8,.I .i64,.I .i64,.B,.I .i64,.B]],[.one (.I .i64)],fun t K _ h=>f t.1 (fun r0 h=>K (r0,()) h) h⟩
abbrev ZDq (f22:Zqs):Cfg:=Zv Tryz.prog [(139,ZuR f22)] 56 [] [] [] Zw
theorem ZAX (f22:Zqs):Zx (ZDq f22) Tryz.f131 (.seq (.leaf) (.seq (.leaf) (.cut [3] [.one (.L)] [(10,22)] (.leaf) (.cut [4] [.one (.P)] [(23,30)] (.leaf) (.cut [5] [.one (.P)] [(31,38)] (.leaf) (.seq (.leaf) (.cut [] [] [(39,41)] (.leaf) (.leaf)))))))) (ZxU (Ze7 f22)):=fun _ _ _ _=>by kernel_rfl
theorem ZB6:Zj Tryz.prog 131 (ZxU Zan):=okF (ZAX XE) Tryz.func131 Zg (Zm _ (.cons ZzC .nil) .nil .nil .nil (Zn _))
abbrev ZxT (f:ZtS):Zd:=⟨[.one (.I .i64),.one (.P)],[.one (.I .i64)],fun t K _ h=>f t.1 t.2.1 (fun r0 h=>K (r0,()) h) h⟩
abbrev ZDp (f23:ZtT):Cfg:=Zv Tryz.prog [(131,ZxU f23)] 10 [] [] [] Zw
theorem ZAW (f23:ZtT):Zx (ZDp f23) Tryz.f130 (.leaf) (ZxT (ZcZ f23)):=fun _ _ _ _=>by kernel_rfl
theorem ZB5:Zj Tryz.prog 130 (ZxT ZaA):=okF (ZAW Zan) Tryz.func130 Zg (Zm _ (.cons ZB6 .nil) .nil .nil .nil (Zn _))
abbrev ZuQ (f:Zqr):Zd:=⟨[.agg [.S,.I .u8,.I .i64,.I .i64,.I .i64,.I .i64,.I .i64]],[.one (.I .i64)],fun t K _ h=>f t.1 (fun r0 h=>K (r0,()) h) h⟩
abbrev ZDo (f22:Zqs):Cfg:=Zv Tryz.prog [(139,ZuR f22)] 17 [] [] [] Zw
theorem ZAV (f22:Zqs):Zx (ZDo f22) Tryz.f84 (.seq (.leaf) (.seq (.leaf) (.cut [] [] [(4,6)] (.leaf) (.leaf)))) (ZuQ (Zf9 f22)):=fun _ _ _ _=>by kernel_rfl
theorem ZzB:Zj Tryz.prog 84 (ZuQ XW):=okF (ZAV XE) Tryz.func84 Zg (Zm _ (.cons ZzC .nil) .nil .nil .nil (Zn _))
abbrev ZxS (f:ZtR):Zd:=⟨[.one (.I .i64),.one (.P)],[.one (.I .i64)],fun t K _ h=>f t.1 t.2.1 (fun r0 h=>K (r0,()) h) h⟩
abbrev ZDn (f25:Zqr):Cfg:=Zv Tryz.prog [(84,ZuQ f25)] 10 [] [] [] Zw
theorem ZAU (f25:Zqr):Zx (ZDn f25) Tryz.f132 (.leaf) (ZxS (ZcY f25)):=fun _ _ _ _=>by kernel_rfl
theorem ZB4:Zj Tryz.prog 132 (ZxS Zaz):=okF (ZAU XW) Tryz.func132 Zg (Zm _ (.cons ZzB .nil) .nil .nil .nil (Zn _))
abbrev ZxR (f:ZtQ):Zd:=⟨[.agg [.L,.L,.L,.L,.L]],[.one (.I .u8),.one (.I .i64),.one (.I .i64)],fun t K _ h=>f t.1 (fun r0 r1 r2 h=>K (r0,r1,r2,()) h) h⟩
abbrev ZDm (f3:zT3) (f24:ZtS) (f26:ZtR):Cfg:=Zv Tryz.prog [(80,zk3 f3),(130,ZxT f24),(132,ZxS f26)] 49 [] [] [] Zw [(130,[.P]),(132,[.P])]
theorem ZAT (f3:zT3) (f24:ZtS) (f26:ZtR):Zx (ZDm f3 f24 f26) Tryz.f38 (.seq (.leaf) (.seq (.leaf) (.seq (.seq (.leaf) (.block (.loop [16] [.one (.I .i64)] [(2,4),(7,7),(17,25)] (.leaf)))) (.seq (.seq (.leaf) (.block (.loop [28] [.one (.I .i64)] [(2,4),(9,11),(29,48)] (.seq (.leaf) (.seq (.leaf) (.seq (.block (.seq (.leaf) (.seq (.leaf) (.block (.loop [34] [.one (.I .i64)] [(2,4),(10,11),(35,47)] (.leaf)))))) (.leaf))))))) (.leaf))))) (ZxR (Zeo f3 f24 f26)):=fun _ _ _ _=>by kernel_rfl
theorem ZB3:Zj Tryz.prog 38 (ZxR ZbI):=okF (ZAT Zbi ZaA Zaz) Tryz.func38 Zg (Zm _ (.cons zo3 (.cons ZB5 (.cons ZB4 .nil))) .nil .nil .nil (Zn _))
abbrev ZxQ (f:ZtP):Zd:=⟨[.one (.L)],[.one (.L)],fun t K _ h=>f t.1 (fun r0 h=>K (r0,()) h) h⟩
abbrev ZDl:Cfg:=Zv Tryz.prog [] 8 [] [] [] Zw
theorem ZAS:Zx (ZDl) Tryz.f94 (.leaf) (ZxQ X1):=fun _ _ _ _=>by kernel_rfl
theorem ZB2:Zj Tryz.prog 94 (ZxQ Y2):=okF (ZAS) Tryz.func94 Zg (Zm _ .nil .nil .nil .nil (Zn _))
abbrev ZxP (f:ZtO):Zd:=⟨[.one (.L)],[.one (.L)],fun t K _ h=>f t.1 (fun r0 h=>K (r0,()) h) h⟩
abbrev ZDk:Cfg:=Zv Tryz.prog [] 8 [] [] [] Zw
theorem ZAR:Zx (ZDk) Tryz.f138 (.leaf) (ZxP ZaE):=fun _ _ _ _=>by kernel_rfl
theorem ZB1:Zj Tryz.prog 138 (ZxP Xg):=okF (ZAR) Tryz.func138 Zg (Zm _ .nil .nil .nil .nil (Zn _))
abbrev ZxO (f:ZtN):Zd:=⟨[.one (.L)],[.agg [.L,.L,.L,.L,.L]],fun t K _ h=>f t.1 (fun r0 h=>K (r0,()) h) h⟩
abbrev ZDj (f28:ZtP) (f29:ZtO):Cfg:=Zv Tryz.prog [(94,ZxQ f28),(138,ZxP f29)] 72 [] [] [] Zw
theorem ZAQ (f28:ZtP) (f29:ZtO):Zx (ZDj f28 f29) Tryz.f81 (.seq (.leaf) (.seq (.leaf) (.seq (.seq (.leaf) (.block (.loop [12] [.one (.I .i64)] [(5,5),(7,7),(9,9),(13,70)] (.seq (.leaf) (.seq (.leaf) (.seq (.block (.seq (.leaf) (.seq (.leaf) (.seq (.leaf) (.seq (.leaf) (.seq (.seq (.leaf) (.block (.loop [37] [.one (.I .i64)] [(7,7),(38,51)] (.leaf)))) (.seq (.leaf) (.block (.loop [55] [.one (.I .i64)] [(9,9),(56,69)] (.leaf)))))))))) (.leaf))))))) (.leaf)))) (ZxO (Ze6 f28 f29)):=fun _ _ _ _=>by kernel_rfl
theorem ZB0:Zj Tryz.prog 81 (ZxO ZcI):=okF (ZAQ Y2 Xg) Tryz.func81 Zg (Zm _ (.cons ZB2 (.cons ZB1 .nil)) .nil .nil .nil (Zn _))
abbrev ZuP (f:Zqq):Zd:=⟨[.agg [.L,.L,.L,.L,.L]],[.agg [.L,.L,.L,.L,.L]],fun t K _ h=>f t.1 (fun r0 h=>K (r0,()) h) h⟩
abbrev ZDi (f30:ZtN):Cfg:=Zv Tryz.prog [(81,ZxO f30)] 6 [] [] [] Zw
theorem ZAP (f30:ZtN):Zx (ZDi f30) Tryz.f39 (.leaf) (ZuP (Ze8 f30)):=fun _ _ _ _=>by kernel_rfl
theorem ZzA:Zj Tryz.prog 39 (ZuP ZaW):=okF (ZAP ZcI) Tryz.func39 Zg (Zm _ (.cons ZB0 .nil) .nil .nil .nil (Zn _))
abbrev ZxN (f:ZtM):Zd:=⟨[.one (.P),.agg [.L,.L,.L,.L,.L]],[.one (.I .i64)],fun t K _ h=>f t.1 t.2.1 (fun r0 h=>K (r0,()) h) h⟩
abbrev ZDh (f27:ZtQ) (f31:Zqq):Cfg:=Zv Tryz.prog [(38,ZxR f27),(39,ZuP f31)] 31 [] [] [] Zw
theorem ZAO (f27:ZtQ) (f31:Zqq):Zx (ZDh f27 f31) Tryz.f21 (.leaf) (ZxN (Zb0 f27 f31)):=fun _ _ _ _=>by kernel_rfl
theorem ZBZ:Zj Tryz.prog 21 (ZxN XV):=okF (ZAO ZbI ZaW) Tryz.func21 Zg (Zm _ (.cons ZB3 (.cons ZzA .nil)) .nil .nil .nil (Zn _))
abbrev ZxM (f:ZtL):Zd:=⟨[.one (.P)],[.agg [.L,.L,.L,.L,.L],.one (.I .i64)],fun t K _ h=>f t.1 (fun r0 r1 h=>K (r0,r1,()) h) h⟩
abbrev ZDg (f31:Zqq):Cfg:=Zv Tryz.prog [(39,ZuP f31)] 16 [] [] [] Zw
theorem ZAN (f31:Zqq):Zx (ZDg f31) Tryz.f22 (.seq (.leaf) (.seq (.leaf) (.seq (.order (.take 0 (.take 1 (.take 2 (.take 5 (.take 6 (.take 7 (.take 3 (.take 8 (.take 4 (.take 9 (.take 10 .done)))))))))))) (.leaf)))) (ZxM (Zct f31)):=fun _ _ _ _=>by kernel_rfl
theorem ZBY:Zj Tryz.prog 22 (ZxM Zaj):=okF (ZAN ZaW) Tryz.func22 Zg (Zm _ (.cons ZzA .nil) .nil .nil .nil (Zn _))
abbrev ZxL (f:ZtK):Zd:=⟨[.agg [.S,.S,.B,.I .i64,.I .u8,.S,.I .u8,.I .i64,.I .i64,.B,.I .i64,.B],.agg [.S,.S,.B,.I .i64,.I .u8,.S,.I .u8,.I .i64,.I .i64,.B,.I .i64,.B]],[.one (.B)],fun t K _ h=>f t.1 t.2.1 (fun r0 h=>K (r0,()) h) h⟩
abbrev ZDf:Cfg:=Zv Tryz.prog [] 8 [] [] [] Zw
theorem ZAM:Zx (ZDf) Tryz.f41 (.leaf) (ZxL Zb9):=fun _ _ _ _=>by kernel_rfl
theorem ZBX:Zj Tryz.prog 41 (ZxL ZaJ):=okF (ZAM) Tryz.func41 Zg (Zm _ .nil .nil .nil .nil (Zn _))
abbrev ZxK (f:ZtJ):Zd:=⟨[.one (.L),.one (.L),.fn 41],[.one (.L)],fun t K _ h=>f t.1 t.2.1 (fun r0 h=>K (r0,()) h) h⟩
abbrev ZDe (f34:ZtK):Cfg:=Zv Tryz.prog [(41,ZxL f34)] 56 [] [] [] Zw
theorem ZAL (f34:ZtK):Zx (ZDe f34) Tryz.f40 (.seq (.leaf) (.seq (.leaf) (.seq (.leaf) (.seq (.seq (.leaf) (.block (.loop [8,19] [.one (.L),.one (.I .i64)] [(10,13),(20,54)] (.seq (.leaf) (.seq (.leaf) (.seq (.block (.seq (.leaf) (.seq (.leaf) (.seq (.seq (.leaf) (.block (.loop [11,25] [.one (.I .i64),.one (.I .i64)] [(12,13),(26,49)] (.leaf)))) (.leaf))))) (.leaf))))))) (.leaf))))) (ZxK (Yr f34)):=fun _ _ _ _=>by kernel_rfl
theorem ZBW:Zj Tryz.prog 40 (ZxK ZR):=okF (ZAL ZaJ) Tryz.func40 Zg (Zm _ (.cons ZBX .nil) .nil .nil .nil (Zn _))
abbrev ZzI (f:ZtI):Zd:=⟨[.one (.I .i64),.one (.I .i64)],[.one (.P),.one (.I .i64)],fun t K _ h=>f t.1 t.2.1 (fun r0 r1 h=>K (r0,r1,()) h) h⟩
theorem ZBV:Zj Tryz.prog 82 (ZzI Ze0):=Zdg Tryz.func82 (by kernel_rfl) (by kernel_rfl) fun _ _ _ _ h=>h
abbrev ZzH (f:ZtH):Zd:=⟨[.one (.I .i64),.one (.I .i64)],[.one (.P),.one (.I .i64)],fun t K _ h=>f t.1 t.2.1 (fun r0 r1 h=>K (r0,r1,()) h) h⟩
theorem ZBU:Zj Tryz.prog 83 (ZzH ZeX):=Zdg Tryz.func83 (by kernel_rfl) (by kernel_rfl) fun _ _ _ _ h=>h
abbrev ZxJ (f:ZtG):Zd:=⟨[.agg [.S,.S,.B,.I .i64,.I .u8,.S,.I .u8,.I .i64,.I .i64,.B,.I .i64,.B]],[.agg [.P,.P]],fun t K _ h=>f t.1 (fun r0 h=>K (r0,()) h) h⟩
abbrev ZDd (f36:ZtI) (f37:ZtH):Cfg:=Zv Tryz.prog [(82,ZzI f36),(83,ZzH f37)] 39 [] [] [] Zw
theorem ZAK (f36:ZtI) (f37:ZtH):Zx (ZDd f36 f37) Tryz.f42 (.seq (.leaf) (.seq (.leaf) (.cut [] [] [(4,20)] (.leaf) (.leaf)))) (ZxJ (Zcs f36 f37)):=fun _ _ _ _=>by kernel_rfl
theorem ZBT:Zj Tryz.prog 42 (ZxJ Zai):=okF (ZAK Ze0 ZeX) Tryz.func42 Zg (Zm _ (.cons ZBV (.cons ZBU .nil)) .nil .nil .nil (Zn _))
abbrev ZxI (f:ZtF):Zd:=⟨[.agg [.S,.I .u8,.I .i64,.I .i64,.I .i64,.I .i64,.I .i64],.agg [.S,.I .u8,.I .i64,.I .i64,.I .i64,.I .i64,.I .i64]],[.one (.B)],fun t K _ h=>f t.1 t.2.1 (fun r0 h=>K (r0,()) h) h⟩
abbrev ZDc:Cfg:=Zv Tryz.prog [] 8 [] [] [] Zw
theorem ZAJ:Zx (ZDc) Tryz.f44 (.leaf) (ZxI Zb8):=fun _ _ _ _=>by kernel_rfl
theorem ZBS:Zj Tryz.prog 44 (ZxI ZaI):=okF (ZAJ) Tryz.func44 Zg (Zm _ .nil .nil .nil .nil (Zn _))
abbrev ZxH (f:ZtE):Zd:=⟨[.one (.L),.one (.L),.fn 44],[.one (.L)],fun t K _ h=>f t.1 t.2.1 (fun r0 h=>K (r0,()) h) h⟩
abbrev ZDb (f39:ZtF):Cfg:=Zv Tryz.prog [(44,ZxI f39)] 56 [] [] [] Zw
theorem ZAI (f39:ZtF):Zx (ZDb f39) Tryz.f43 (.seq (.leaf) (.seq (.leaf) (.seq (.leaf) (.seq (.seq (.leaf) (.block (.loop [8,19] [.one (.L),.one (.I .i64)] [(10,13),(20,54)] (.seq (.leaf) (.seq (.leaf) (.seq (.block (.seq (.leaf) (.seq (.leaf) (.seq (.seq (.leaf) (.block (.loop [11,25] [.one (.I .i64),.one (.I .i64)] [(12,13),(26,49)] (.leaf)))) (.leaf))))) (.leaf))))))) (.leaf))))) (ZxH (Ym f39)):=fun _ _ _ _=>by kernel_rfl
theorem ZBR:Zj Tryz.prog 43 (ZxH ZN):=okF (ZAI ZaI) Tryz.func43 Zg (Zm _ (.cons ZBS .nil) .nil .nil .nil (Zn _))
abbrev ZuO (f:Zqp):Zd:=⟨[.one (.I .i64),.one (.I .i64)],[.one (.P),.one (.I .i64)],fun t K _ h=>f t.1 t.2.1 (fun r0 r1 h=>K (r0,r1,()) h) h⟩
abbrev ZDa:Cfg:=Zv Tryz.prog [] 31 [] [] [] Zw
theorem ZAH:Zx (ZDa) Tryz.f119 (.leaf) (ZuO Ze3):=fun _ _ _ _=>by kernel_rfl
theorem Zzz:Zj Tryz.prog 119 (ZuO ZaU):=okF (ZAH) Tryz.func119 Zg (Zm _ .nil .nil .nil .nil (Zn _))
abbrev ZuN (f:Zqo):Zd:=⟨[.one (.P)],[],fun t K _ h=>f t.1 (fun h=>K (()) h) h⟩
abbrev ZC9 (f41:Zqp):Cfg:=Zv Tryz.prog [(119,ZuO f41)] 14 [] [] [] Zw
theorem ZAG (f41:Zqp):Zx (ZC9 f41) Tryz.f67 (.leaf) (ZuN (Zb2 f41)):=fun _ _ _ _=>by kernel_rfl
theorem Zzy:Zj Tryz.prog 67 (ZuN Y3):=okF (ZAG ZaU) Tryz.func67 Zg (Zm _ (.cons Zzz .nil) .nil .nil .nil (Zn _))
abbrev ZxG (f:ZtD):Zd:=⟨[.agg [.S,.I .u8,.I .i64,.I .i64,.I .i64,.I .i64,.I .i64]],[.one (.P),.one (.I .i64)],fun t K _ h=>f t.1 (fun r0 r1 h=>K (r0,r1,()) h) h⟩
abbrev ZC8 (f25:Zqr) (f42:Zqo):Cfg:=Zv Tryz.prog [(84,ZuQ f25),(67,ZuN f42)] 17 [] [] [] Zw
theorem ZAF (f25:Zqr) (f42:Zqo):Zx (ZC8 f25 f42) Tryz.f45 (.leaf) (ZxG (Zgb f25 f42)):=fun _ _ _ _=>by kernel_rfl
theorem ZBQ:Zj Tryz.prog 45 (ZxG Zej):=okF (ZAF XW Y3) Tryz.func45 Zg (Zm _ (.cons ZzB (.cons Zzy .nil)) .nil .nil .nil (Zn _))
abbrev ZxF (f:ZtC):Zd:=⟨[.one (.L),.one (.L)],[.one (.B)],fun t K _ h=>f t.1 t.2.1 (fun r0 h=>K (r0,()) h) h⟩
abbrev ZC7:Cfg:=Zv Tryz.prog [] 26 [] [] [] Zw
theorem ZAE:Zx (ZC7) Tryz.f85 (.seq (.leaf) (.seq (.leaf) (.seq (.seq (.leaf) (.block (.loop [13] [.one (.I .i64)] [(4,5),(14,25)] (.leaf)))) (.leaf)))) (ZxF X0):=fun _ _ _ _=>by kernel_rfl
theorem ZBP:Zj Tryz.prog 85 (ZxF Y1):=okF (ZAE) Tryz.func85 Zg (Zm _ .nil .nil .nil .nil (Zn _))
abbrev ZxE (f:ZtB):Zd:=⟨[.one (.L),.one (.L)],[.one (.B)],fun t K _ h=>f t.1 t.2.1 (fun r0 h=>K (r0,()) h) h⟩
abbrev ZC6:Cfg:=Zv Tryz.prog [] 26 [] [] [] Zw
theorem ZAD:Zx (ZC6) Tryz.f86 (.seq (.leaf) (.seq (.leaf) (.seq (.seq (.leaf) (.block (.loop [13] [.one (.I .i64)] [(4,5),(14,25)] (.leaf)))) (.leaf)))) (ZxE XH):=fun _ _ _ _=>by kernel_rfl
theorem ZBO:Zj Tryz.prog 86 (ZxE YQ):=okF (ZAD) Tryz.func86 Zg (Zm _ .nil .nil .nil .nil (Zn _))
abbrev ZxD (f:ZtA):Zd:=⟨[.one (.L),.one (.L)],[.one (.B)],fun t K _ h=>f t.1 t.2.1 (fun r0 h=>K (r0,()) h) h⟩
abbrev ZC5:Cfg:=Zv Tryz.prog [] 26 [] [] [] Zw
theorem ZAC:Zx (ZC5) Tryz.f87 (.seq (.leaf) (.seq (.leaf) (.seq (.seq (.leaf) (.block (.loop [13] [.one (.I .i64)] [(4,5),(14,25)] (.leaf)))) (.leaf)))) (ZxD Xq):=fun _ _ _ _=>by kernel_rfl
theorem ZBN:Zj Tryz.prog 87 (ZxD YG):=okF (ZAC) Tryz.func87 Zg (Zm _ .nil .nil .nil .nil (Zn _))
abbrev ZxC (f:Ztz):Zd:=⟨[.one (.L),.one (.L)],[.one (.B)],fun t K _ h=>f t.1 t.2.1 (fun r0 h=>K (r0,()) h) h⟩
abbrev ZC4:Cfg:=Zv Tryz.prog [] 26 [] [] [] Zw
theorem ZAB:Zx (ZC4) Tryz.f146 (.seq (.leaf) (.seq (.leaf) (.seq (.seq (.leaf) (.block (.loop [13] [.one (.I .i64)] [(4,5),(14,25)] (.leaf)))) (.leaf)))) (ZxC XZ):=fun _ _ _ _=>by kernel_rfl
theorem ZBM:Zj Tryz.prog 146 (ZxC Y0):=okF (ZAB) Tryz.func146 Zg (Zm _ .nil .nil .nil .nil (Zn _))
abbrev ZxB (f:Zty):Zd:=⟨[.agg [.S,.I .i64,.I .i64,.I .i64,.L],.agg [.S,.I .i64,.I .i64,.I .i64,.L]],[.one (.B)],fun t K _ h=>f t.1 t.2.1 (fun r0 h=>K (r0,()) h) h⟩
abbrev ZC3 (f47:Ztz):Cfg:=Zv Tryz.prog [(146,ZxC f47)] 38 [] [] [] Zw
theorem ZAA (f47:Ztz):Zx (ZC3 f47) Tryz.f89 (.leaf) (ZxB (Ze4 f47)):=fun _ _ _ _=>by kernel_rfl
theorem ZBL:Zj Tryz.prog 89 (ZxB Zdi):=okF (ZAA Y0) Tryz.func89 Zg (Zm _ (.cons ZBM .nil) .nil .nil .nil (Zn _))
abbrev ZxA (f:Ztx):Zd:=⟨[.one (.L),.one (.L),.fn 89],[.one (.B)],fun t K _ h=>f t.1 t.2.1 (fun r0 h=>K (r0,()) h) h⟩
abbrev ZC2 (f48:Zty):Cfg:=Zv Tryz.prog [(89,ZxB f48)] 32 [] [] [] Zw
theorem ZAz (f48:Zty):Zx (ZC2 f48) Tryz.f88 (.seq (.leaf) (.seq (.leaf) (.seq (.seq (.leaf) (.block (.loop [17] [.one (.I .i64)] [(6,9),(18,31)] (.leaf)))) (.leaf)))) (ZxA (Yd f48)):=fun _ _ _ _=>by kernel_rfl
theorem ZBK:Zj Tryz.prog 88 (ZxA ZO):=okF (ZAz Zdi) Tryz.func88 Zg (Zm _ (.cons ZBL .nil) .nil .nil .nil (Zn _))
abbrev Zxz (f:Ztw):Zd:=⟨[.one (.L),.one (.L)],[.one (.B)],fun t K _ h=>f t.1 t.2.1 (fun r0 h=>K (r0,()) h) h⟩
abbrev ZC1:Cfg:=Zv Tryz.prog [] 26 [] [] [] Zw
theorem ZAy:Zx (ZC1) Tryz.f147 (.seq (.leaf) (.seq (.leaf) (.seq (.seq (.leaf) (.block (.loop [13] [.one (.I .i64)] [(4,5),(14,25)] (.leaf)))) (.leaf)))) (Zxz ZaD):=fun _ _ _ _=>by kernel_rfl
theorem ZBJ:Zj Tryz.prog 147 (Zxz Xf):=okF (ZAy) Tryz.func147 Zg (Zm _ .nil .nil .nil .nil (Zn _))
abbrev Zxy (f:Ztv):Zd:=⟨[.agg [.S,.B,.L],.agg [.S,.B,.L]],[.one (.B)],fun t K _ h=>f t.1 t.2.1 (fun r0 h=>K (r0,()) h) h⟩
abbrev ZC0 (f50:Ztw):Cfg:=Zv Tryz.prog [(147,Zxz f50)] 24 [] [] [] Zw
theorem ZAx (f50:Ztw):Zx (ZC0 f50) Tryz.f91 (.leaf) (Zxy (ZeD f50)):=fun _ _ _ _=>by kernel_rfl
theorem ZBI:Zj Tryz.prog 91 (Zxy ZcP):=okF (ZAx Xf) Tryz.func91 Zg (Zm _ (.cons ZBJ .nil) .nil .nil .nil (Zn _))
abbrev Zxx (f:Ztu):Zd:=⟨[.one (.L),.one (.L),.fn 91],[.one (.B)],fun t K _ h=>f t.1 t.2.1 (fun r0 h=>K (r0,()) h) h⟩
abbrev ZCZ (f51:Ztv):Cfg:=Zv Tryz.prog [(91,Zxy f51)] 32 [] [] [] Zw
theorem ZAw (f51:Ztv):Zx (ZCZ f51) Tryz.f90 (.seq (.leaf) (.seq (.leaf) (.seq (.seq (.leaf) (.block (.loop [17] [.one (.I .i64)] [(6,9),(18,31)] (.leaf)))) (.leaf)))) (Zxx (ZH f51)):=fun _ _ _ _=>by kernel_rfl
theorem ZBH:Zj Tryz.prog 90 (Zxx Zs):=okF (ZAw ZcP) Tryz.func90 Zg (Zm _ (.cons ZBI .nil) .nil .nil .nil (Zn _))
abbrev Zxw (f:Ztt):Zd:=⟨[.agg [.L,.L,.L,.L,.L],.agg [.L,.L,.L,.L,.L]],[.one (.B)],fun t K _ h=>f t.1 t.2.1 (fun r0 h=>K (r0,()) h) h⟩
abbrev ZCY (f44:ZtC) (f45:ZtB) (f46:ZtA) (f49:Ztx) (f52:Ztu):Cfg:=Zv Tryz.prog [(85,ZxF f44),(86,ZxE f45),(87,ZxD f46),(88,ZxA f49),(90,Zxx f52)] 38 [] [] [] Zw
theorem ZAv (f44:ZtC) (f45:ZtB) (f46:ZtA) (f49:Ztx) (f52:Ztu):Zx (ZCY f44 f45 f46 f49 f52) Tryz.f47 (.leaf) (Zxw (Zg4 f44 f45 f46 f49 f52)):=fun _ _ _ _=>by kernel_rfl
theorem ZBG:Zj Tryz.prog 47 (Zxw ZeY):=okF (ZAv Y1 YQ YG ZO Zs) Tryz.func47 Zg (Zm _ (.cons ZBP (.cons ZBO (.cons ZBN (.cons ZBK (.cons ZBH .nil))))) .nil .nil .nil (Zn _))
abbrev Zxv (f:Zts):Zd:=⟨[.agg [.S,.I .i64,.I .i64,.I .i64,.L],.agg [.S,.I .i64,.I .i64,.I .i64,.L]],[.one (.B)],fun t K _ h=>f t.1 t.2.1 (fun r0 h=>K (r0,()) h) h⟩
abbrev ZCX (f53:Ztt):Cfg:=Zv Tryz.prog [(47,Zxw f53)] 12 [] [] [] Zw
theorem ZAu (f53:Ztt):Zx (ZCX f53) Tryz.f46 (.leaf) (Zxv (Zb7 f53)):=fun _ _ _ _=>by kernel_rfl
theorem ZBF:Zj Tryz.prog 46 (Zxv ZaH):=okF (ZAu ZeY) Tryz.func46 Zg (Zm _ (.cons ZBG .nil) .nil .nil .nil (Zn _))
abbrev Zxu (f:Ztr):Zd:=⟨[.one (.L),.one (.L),.fn 46],[.one (.L)],fun t K _ h=>f t.1 t.2.1 (fun r0 h=>K (r0,()) h) h⟩
abbrev ZCW (f54:Zts):Cfg:=Zv Tryz.prog [(46,Zxv f54)] 56 [] [] [] Zw
theorem ZAt (f54:Zts):Zx (ZCW f54) Tryz.f48 (.seq (.leaf) (.seq (.leaf) (.seq (.leaf) (.seq (.seq (.leaf) (.block (.loop [8,19] [.one (.L),.one (.I .i64)] [(10,13),(20,54)] (.seq (.leaf) (.seq (.leaf) (.seq (.block (.seq (.leaf) (.seq (.leaf) (.seq (.seq (.leaf) (.block (.loop [11,25] [.one (.I .i64),.one (.I .i64)] [(12,13),(26,49)] (.leaf)))) (.leaf))))) (.leaf))))))) (.leaf))))) (Zxu (Ys f54)):=fun _ _ _ _=>by kernel_rfl
theorem ZBE:Zj Tryz.prog 48 (Zxu ZS):=okF (ZAt ZaH) Tryz.func48 Zg (Zm _ (.cons ZBF .nil) .nil .nil .nil (Zn _))
abbrev ZzG (f:Ztq):Zd:=⟨[.agg [.S,.I .i64,.I .i64,.I .i64,.L],.one (.I .i64),.one (.I .u64)],[.one (.P),.one (.I .i64)],fun t K _ h=>f t.1 t.2.1 t.2.2.1 (fun r0 r1 h=>K (r0,r1,()) h) h⟩
theorem ZBD:Zj Tryz.prog 49 (ZzG ZhQ):=Zdg Tryz.func49 (by kernel_rfl) (by kernel_rfl) fun _ _ _ _ h=>h
abbrev Zxt (f:Ztp):Zd:=⟨[.one (.P),.agg [.L,.L,.L,.L,.L]],[.agg [.L,.L,.L,.I .i64]],fun t K _ h=>f t.1 t.2.1 (fun r0 h=>K (r0,()) h) h⟩
abbrev ZCV (f35:ZtJ) (f38:ZtG) (f40:ZtE) (f43:ZtD) (f55:Ztr) (f56:Ztq):Cfg:=Zv Tryz.prog [(40,ZxK f35),(42,ZxJ f38),(43,ZxH f40),(45,ZxG f43),(48,Zxu f55),(49,ZzG f56)] 173 [] [] [] Zw
theorem ZAs (f35:ZtJ) (f38:ZtG) (f40:ZtE) (f43:ZtD) (f55:Ztr) (f56:Ztq):Zx (ZCV f35 f38 f40 f43 f55 f56) Tryz.f23 (.seq (.leaf) (.seq (.leaf) (.seq (.leaf) (.seq (.seq (.order (.take 0 (.take 1 (.take 2 (.take 3 (.take 5 (.take 9 (.take 4 (.take 6 (.take 7 (.take 8 .done))))))))))) (.block (.loop [34] [.one (.I .i64)] [(7,8),(35,65)] (.seq (.leaf) (.seq (.leaf) (.seq (.block (.seq (.leaf) (.seq (.leaf) (.cond (.order (.take 0 (.take 2 (.take 4 (.take 1 (.take 3 (.take 5 (.take 6 (.take 7 (.take 8 (.take 9 (.take 10 .done)))))))))))) (.order (.take 0 (.take 2 (.take 3 (.take 4 (.take 5 (.take 7 (.take 1 (.take 6 (.take 8 (.take 9 (.take 10 (.take 11 (.take 12 (.take 13 (.take 14 .done)))))))))))))))))))) (.leaf))))))) (.seq (.seq (.order (.take 0 (.take 1 (.take 2 (.take 3 (.take 5 (.take 9 (.take 4 (.take 6 (.take 7 (.take 8 .done))))))))))) (.block (.loop [75] [.one (.I .i64)] [(9,12),(76,117)] (.seq (.leaf) (.seq (.leaf) (.seq (.block (.seq (.leaf) (.seq (.seq (.leaf) (.cond (.seq (.order (.take 0 (.take 2 (.take 4 (.take 1 (.take 3 (.take 5 (.take 6 (.take 7 (.take 8 (.take 9 (.take 10 .done)))))))))))) (.leaf)) (.leaf))) (.leaf)))) (.leaf))))))) (.seq (.leaf) (.seq (.seq (.order (.take 0 (.take 1 (.take 2 (.take 3 (.take 5 (.take 7 (.take 10 (.take 4 (.take 6 (.take 8 (.take 9 .done)))))))))))) (.block (.loop [128] [.one (.I .i64)] [(14,17),(129,171)] (.seq (.leaf) (.seq (.leaf) (.seq (.block (.seq (.leaf) (.seq (.seq (.leaf) (.cond (.seq (.order (.take 0 (.take 2 (.take 4 (.take 1 (.take 3 (.take 5 (.take 6 (.take 7 (.take 8 (.take 9 (.take 10 .done)))))))))))) (.leaf)) (.leaf))) (.seq (.order (.take 0 (.take 1 (.take 2 (.take 3 (.take 5 (.take 8 (.take 9 (.take 10 (.take 12 (.take 13 (.take 14 (.take 4 (.take 6 (.take 7 (.take 11 (.take 15 (.take 16 (.take 17 (.take 18 (.take 19 (.take 20 (.take 21 .done))))))))))))))))))))))) (.leaf))))) (.leaf))))))) (.leaf)))))))) (Zxt (Zbe f35 f38 f40 f43 f55 f56)):=fun _ _ _ _=>by kernel_rfl
theorem ZBC:Zj Tryz.prog 23 (Zxt Xo):=okF (ZAs ZR Zai ZN Zej ZS ZhQ) Tryz.func23 Zg (Zm _ (.cons ZBW (.cons ZBT (.cons ZBR (.cons ZBQ (.cons ZBE (.cons ZBD .nil)))))) .nil .nil .nil (Zn _))
abbrev ZuM (f:Zqn):Zd:=⟨[.one (.P),.agg [.L,.L,.L,.L,.L]],[.one (.I .i64)],fun t K _ h=>f t.1 t.2.1 (fun r0 h=>K (r0,()) h) h⟩
abbrev ZCU (f32:ZtM) (f33:ZtL) (f57:Ztp):Cfg:=Zv Tryz.prog [(21,ZxN f32),(22,ZxM f33),(23,Zxt f57)] 46 [] [] [] Zw
theorem ZAr (f32:ZtM) (f33:ZtL) (f57:Ztp):Zx (ZCU f32 f33 f57) Tryz.f10 (.seq (.leaf) (.seq (.leaf) (.seq (.seq (.order (.take 0 (.take 1 (.take 2 (.take 3 (.take 4 (.take 5 (.take 6 (.take 7 .done))))))))) (.leaf)) (.seq (.leaf) (.seq (.leaf) (.seq (.order (.take 0 (.take 1 (.take 2 (.take 3 (.take 4 (.take 5 (.take 6 (.take 7 (.take 8 (.take 9 .done))))))))))) (.leaf))))))) (ZuM (Zbv f32 f33 f57)):=fun _ _ _ _=>by kernel_rfl
theorem Zzx:Zj Tryz.prog 10 (ZuM YP):=okF (ZAr XV Zaj Xo) Tryz.func10 Zg (Zm _ (.cons ZBZ (.cons ZBY (.cons ZBC .nil))) .nil .nil .nil (Zn _))
abbrev ZqR (f:ZjV):Zd:=⟨[.agg [.I .i64,.S,.S,.S,.B,.I .i64,.L]],[.one (.L),.one (.I .i64)],fun t K _ h=>f t.1 (fun r0 r1 h=>K (r0,r1,()) h) h⟩
abbrev ZCT (f5:zT5):Cfg:=Zv Tryz.prog [(114,zk5 f5)] 59 [] [] [] Zw
theorem ZAq (f5:zT5):Zx (ZCT f5) Tryz.f58 (.seq (.leaf) (.cut [] [] [(2,3),(5,25)] (.leaf) (.seq (.leaf) (.cut [4] [.one (.L)] [(35,45)] (.leaf) (.leaf))))) (ZqR (ZfM f5)):=fun _ _ _ _=>by kernel_rfl
theorem ZsA:Zj Tryz.prog 58 (ZqR YZ):=okF (ZAq Y6) Tryz.func58 Zg (Zm _ (.cons zo5 .nil) .nil .nil .nil (Zn _))
abbrev Zxs (f:Zto):Zd:=⟨[.one (.S)],[.one (.B)],fun t K _ h=>f t.1 (fun r0 h=>K (r0,()) h) h⟩
abbrev ZCS:Cfg:=Zv Tryz.prog [] 6 [] [] [] Zw
theorem ZAp:Zx (ZCS) Tryz.f98 (.leaf) (Zxs ZaO):=fun _ _ _ _=>by kernel_rfl
theorem ZBB:Zj Tryz.prog 98 (Zxs XI):=okF (ZAp) Tryz.func98 Zg (Zm _ .nil .nil .nil .nil (Zn _))
abbrev Zxr (f:Ztn):Zd:=⟨[.one (.L),.fn 98],[.one (.I .i64)],fun t K _ h=>f t.1 (fun r0 h=>K (r0,()) h) h⟩
abbrev ZCR (f60:Zto):Cfg:=Zv Tryz.prog [(98,Zxs f60)] 19 [] [] [] Zw
theorem ZAo (f60:Zto):Zx (ZCR f60) Tryz.f155 (.seq (.leaf) (.seq (.seq (.leaf) (.block (.loop [8] [.one (.I .i64)] [(4,5),(9,18)] (.leaf)))) (.leaf))) (Zxr (Z7 f60)):=fun _ _ _ _=>by kernel_rfl
theorem ZBA:Zj Tryz.prog 155 (Zxr ZK):=okF (ZAo XI) Tryz.func155 Zg (Zm _ (.cons ZBB .nil) .nil .nil .nil (Zn _))
abbrev Zxq (f:Ztm):Zd:=⟨[.one (.L),.fn 98],[.one (.B)],fun t K _ h=>f t.1 (fun r0 h=>K (r0,()) h) h⟩
abbrev ZCQ (f61:Ztn):Cfg:=Zv Tryz.prog [(155,Zxr f61)] 9 [] [] [] Zw
theorem ZAn (f61:Ztn):Zx (ZCQ f61) Tryz.f97 (.leaf) (Zxq (Z0 f61)):=fun _ _ _ _=>by kernel_rfl
theorem ZBz:Zj Tryz.prog 97 (Zxq Zu):=okF (ZAn ZK) Tryz.func97 Zg (Zm _ (.cons ZBA .nil) .nil .nil .nil (Zn _))
abbrev ZsN (f:ZmZ):Zd:=⟨[.one (.P),.one (.L)],[.one (.I .i64)],fun t K _ h=>f t.1 t.2.1 (fun r0 h=>K (r0,()) h) h⟩
abbrev ZCP:Cfg:=Zv Tryz.prog [] 27 [] [] [] Zw
theorem ZAm:Zx (ZCP) Tryz.f156 (.seq (.leaf) (.seq (.leaf) (.seq (.seq (.leaf) (.block (.loop [11] [.one (.I .i64)] [(7,7),(12,24)] (.seq (.leaf) (.seq (.leaf) (.seq (.block (.seq (.leaf) (.seq (.order (.take 0 (.take 1 (.take 2 (.take 3 (.take 4 (.take 5 (.take 6 .done)))))))) (.leaf)))) (.leaf))))))) (.leaf)))) (ZsN ZbR):=fun _ _ _ _=>by kernel_rfl
theorem Zv7:Zj Tryz.prog 156 (ZsN Yo):=okF (ZAm) Tryz.func156 Zg (Zm _ .nil .nil .nil .nil (Zn _))
abbrev Zxp (f:Ztl):Zd:=⟨[],[.one (.P)],fun _ K _ h=>f (fun r0 h=>K (r0,()) h) h⟩
abbrev ZCO (f41:Zqp):Cfg:=Zv Tryz.prog [(119,ZuO f41)] 18 [] [] [] Zw
theorem ZAl (f41:Zqp):Zx (ZCO f41) Tryz.f201 (.leaf) (Zxp (ZgO f41)):=fun _ _ _ _=>by kernel_rfl
theorem ZBy:Zj Tryz.prog 201 (Zxp Zd4):=okF (ZAl ZaU) Tryz.func201 Zg (Zm _ (.cons Zzz .nil) .nil .nil .nil (Zn _))
abbrev ZsM (f:ZmY):Zd:=⟨[.one (.P),.agg [.I .u8,.S,.S,.S]],[],fun t K _ h=>f t.1 t.2.1 (fun h=>K (()) h) h⟩
abbrev ZCN (f64:Ztl):Cfg:=Zv Tryz.prog [(201,Zxp f64)] 27 [] [] [] Zw
theorem ZAk (f64:Ztl):Zx (ZCN f64) Tryz.f157 (.seq (.leaf) (.seq (.order (.take 0 (.take 1 (.take 2 (.take 3 (.take 4 (.take 5 (.take 6 .done)))))))) (.cond (.seq (.order (.take 0 (.take 1 (.take 2 (.take 3 (.take 4 (.take 5 (.take 6 .done)))))))) (.order (.take 0 (.take 1 (.take 2 (.take 3 (.take 4 (.take 5 (.take 6 (.take 7 (.take 8 (.take 9 (.take 10 .done))))))))))))) (.leaf)))) (ZsM (ZbQ f64)):=fun _ _ _ _=>by kernel_rfl
theorem Zv6:Zj Tryz.prog 157 (ZsM Yn):=okF (ZAk Zd4) Tryz.func157 Zg (Zm _ (.cons ZBy .nil) .nil .nil .nil (Zn _))
abbrev Zxo (f:Ztk):Zd:=⟨[.one (.P),.one (.L)],[.one (.I .i64)],fun t K _ h=>f t.1 t.2.1 (fun r0 h=>K (r0,()) h) h⟩
abbrev ZCM (f59:ZjV) (f63:ZmZ) (f65:ZmY):Cfg:=Zv Tryz.prog [(58,ZqR f59),(156,ZsN f63),(157,ZsM f65)] 57 [] [] [] Zw
theorem ZAj (f59:ZjV) (f63:ZmZ) (f65:ZmY):Zx (ZCM f59 f63 f65) Tryz.f99 (.seq (.leaf) (.seq (.leaf) (.seq (.leaf) (.seq (.seq (.leaf) (.block (.loop [5,16] [.one (.L),.one (.I .i64)] [(4,4),(7,9),(17,31)] (.leaf)))) (.seq (.seq (.order (.take 0 (.take 1 (.take 2 (.take 3 (.take 5 (.take 6 (.take 7 (.take 8 (.take 9 (.take 10 (.take 11 (.take 4 (.take 12 .done)))))))))))))) (.leaf)) (.seq (.seq (.leaf) (.block (.loop [47] [.one (.I .i64)] [(11,11),(48,56)] (.seq (.leaf) (.seq (.leaf) (.seq (.block (.seq (.leaf) (.order (.take 0 (.take 1 (.take 2 (.take 3 (.take 4 .done)))))))) (.leaf))))))) (.leaf))))))) (Zxo (Zck f59 f63 f65)):=fun _ _ _ _=>by kernel_rfl
theorem ZBx:Zj Tryz.prog 99 (Zxo Zaa):=okF (ZAj YZ Yo Yn) Tryz.func99 Zg (Zm _ (.cons ZsA (.cons Zv7 (.cons Zv6 .nil))) .nil .nil .nil (Zn _))
abbrev Zxn (f:Ztj):Zd:=⟨[.one (.P),.agg [.I .i64,.S,.S,.S,.B,.I .i64,.L]],[.one (.I .i64)],fun t K _ h=>f t.1 t.2.1 (fun r0 h=>K (r0,()) h) h⟩
abbrev ZCL (f59:ZjV) (f62:Ztm) (f66:Ztk):Cfg:=Zv Tryz.prog [(58,ZqR f59),(97,Zxq f62),(99,Zxo f66)] 65 [] [] [] Zw
theorem ZAi (f59:ZjV) (f62:Ztm) (f66:Ztk):Zx (ZCL f59 f62 f66) Tryz.f50 (.seq (.leaf) (.seq (.leaf) (.seq (.leaf) (.seq (.order (.take 0 (.take 1 (.take 2 (.take 3 (.take 4 (.take 5 (.take 6 (.take 7 .done))))))))) (.leaf))))) (Zxn (Zbd f59 f62 f66)):=fun _ _ _ _=>by kernel_rfl
theorem ZBw:Zj Tryz.prog 50 (Zxn Xn):=okF (ZAi YZ Zu Zaa) Tryz.func50 Zg (Zm _ (.cons ZsA (.cons ZBz (.cons ZBx .nil))) .nil .nil .nil (Zn _))
abbrev Zxm (f:Zti):Zd:=⟨[.one (.I .i64),.one (.S),.one (.P),.one (.P)],[],fun t K _ h=>f t.1 t.2.1 t.2.2.1 t.2.2.2.1 (fun h=>K (()) h) h⟩
abbrev ZCK:Cfg:=Zv Tryz.prog [] 13 [] [] [] Zw
theorem ZAh:Zx (ZCK) Tryz.f63 (.leaf) (Zxm Zg5):=fun _ _ _ _=>by kernel_rfl
theorem ZBv:Zj Tryz.prog 63 (Zxm ZeZ):=okF (ZAh) Tryz.func63 Zg (Zm _ .nil .nil .nil .nil (Zn _))
abbrev ZqQ (f:ZjU):Zd:=⟨[.agg [.L,.L,.L,.L,.L],.one (.I .u8),.one (.S)],[.one (.L)],fun t K _ h=>f t.1 t.2.1 t.2.2.1 (fun r0 h=>K (r0,()) h) h⟩
abbrev ZCJ (f68:Zti):Cfg:=Zv Tryz.prog [(63,Zxm f68)] 98 [] [] [] Zw
theorem ZAg (f68:Zti):Zx (ZCJ f68) Tryz.f27 (.seq (.leaf) (.seq (.leaf) (.seq (.leaf) (.seq (.seq (.leaf) (.block (.seq (.leaf) (.cond (.seq (.leaf) (.block (.loop [25] [.one (.I .i64)] [(9,10),(26,35)] (.leaf)))) (.seq (.leaf) (.cond (.seq (.leaf) (.block (.loop [41] [.one (.I .i64)] [(11,12),(42,51)] (.leaf)))) (.seq (.leaf) (.cond (.seq (.leaf) (.block (.loop [57] [.one (.I .i64)] [(13,14),(58,67)] (.leaf)))) (.seq (.leaf) (.cond (.seq (.leaf) (.block (.loop [73] [.one (.I .i64)] [(15,15),(74,80)] (.leaf)))) (.seq (.leaf) (.cond (.seq (.leaf) (.block (.loop [86] [.one (.I .i64)] [(16,17),(87,96)] (.leaf)))) (.leaf))))))))))))) (.leaf))))) (ZqQ (ZgP f68)):=fun _ _ _ _=>by kernel_rfl
theorem Zsz:Zj Tryz.prog 27 (ZqQ Xv):=okF (ZAg ZeZ) Tryz.func27 Zg (Zm _ (.cons ZBv .nil) .nil .nil .nil (Zn _))
abbrev ZzF (f:Zth):Zd:=⟨[.one (.I .i64),.one (.P)],[.one (.B)],fun t K _ h=>f t.1 t.2.1 (fun r0 h=>K (r0,()) h) h⟩
theorem ZBu:Zj Tryz.prog 159 (ZzF Za5):=Zdg Tryz.func159 (by kernel_rfl) (by kernel_rfl) fun _ _ _ _ h=>h
abbrev Zxl (f:Ztg):Zd:=⟨[.one (.P),.one (.I .u8),.clo 159 [.P]],[.one (.I .i64),.one (.B)],fun t K _ h=>f t.1 t.2.1 t.2.2.1 (fun r0 r1 h=>K (r0,r1,()) h) h⟩
abbrev ZCI (f69:ZjU) (f70:Zth):Cfg:=Zv Tryz.prog [(27,ZqQ f69),(159,ZzF f70)] 34 [] [] [] Zw
theorem ZAf (f69:ZjU) (f70:Zth):Zx (ZCI f69 f70) Tryz.f158 (.seq (.leaf) (.seq (.seq (.order (.take 0 (.take 1 (.take 2 (.take 7 (.take 8 (.take 9 (.take 10 (.take 11 (.take 15 (.take 3 (.take 4 (.take 5 (.take 6 (.take 12 (.take 13 (.take 14 .done))))))))))))))))) (.block (.loop [25] [.one (.I .i64)] [(6,7),(9,9),(26,33)] (.leaf)))) (.leaf))) (Zxl (YB f69 f70)):=fun _ _ _ _=>by kernel_rfl
theorem ZBt:Zj Tryz.prog 158 (Zxl Z3):=okF (ZAf Xv Za5) Tryz.func158 Zg (Zm _ (.cons Zsz (.cons ZBu .nil)) .nil .nil .nil (Zn _))
abbrev Zxk (f:Ztf):Zd:=⟨[.one (.P)],[.one (.I .i64),.one (.B)],fun t K _ h=>f t.1 (fun r0 r1 h=>K (r0,r1,()) h) h⟩
abbrev ZCH (f71:Ztg):Cfg:=Zv Tryz.prog [(158,Zxl f71)] 9 [] [] [] Zw
theorem ZAe (f71:Ztg):Zx (ZCH f71) Tryz.f100 (.leaf) (Zxk (ZbW f71)):=fun _ _ _ _=>by kernel_rfl
theorem ZBs:Zj Tryz.prog 100 (Zxk XR):=okF (ZAe Z3) Tryz.func100 Zg (Zm _ (.cons ZBt .nil) .nil .nil .nil (Zn _))
theorem ZuD:Zpk Tryz.prog 79:=ZoU Tryz.func79 (by kernel_rfl) (by kernel_rfl) (by kernel_rfl) (by kernel_rfl)
abbrev Zxj (f:Zte):Zd:=⟨[.one (.M)],[.one (.M)],fun t K _ h=>f t.1 (fun r0 h=>K (r0,()) h) h⟩
abbrev ZCG:Cfg:=Zv Tryz.prog [] 9 [79] [] [] Zw
theorem ZAd:Zx (ZCG) Tryz.f187 (.leaf) (Zxj Yj):=fun _ _ _ _=>by kernel_rfl
theorem ZBr:Zj Tryz.prog 187 (Zxj ZG):=okF (ZAd) Tryz.func187 Zg (Zm _ .nil (.cons ZuD .nil) .nil .nil (Zn _))
abbrev Zxi (f:Ztd):Zd:=⟨[.one (.P)],[.one (.P)],fun t K _ h=>f t.1 (fun r0 h=>K (r0,()) h) h⟩
abbrev ZCF (f73:Zte):Cfg:=Zv Tryz.prog [(187,Zxj f73)] 15 [] [] [] Zw
theorem ZAc (f73:Zte):Zx (ZCF f73) Tryz.f127 (.leaf) (Zxi (Zba f73)):=fun _ _ _ _=>by kernel_rfl
theorem ZBq:Zj Tryz.prog 127 (Zxi Xk):=okF (ZAc ZG) Tryz.func127 Zg (Zm _ (.cons ZBr .nil) .nil .nil .nil (Zn _))
abbrev Zxh (f:Ztc):Zd:=⟨[.one (.P)],[.one (.P)],fun t K _ h=>f t.1 (fun r0 h=>K (r0,()) h) h⟩
abbrev ZCE (f74:Ztd):Cfg:=Zv Tryz.prog [(127,Zxi f74)] 23 [] [] [] Zw
theorem ZAb (f74:Ztd):Zx (ZCE f74) Tryz.f72 (.seq (.leaf) (.seq (.leaf) (.seq (.order (.take 0 (.take 1 (.take 2 (.take 5 (.take 6 (.take 7 (.take 8 (.take 12 (.take 13 (.take 14 (.take 3 (.take 9 (.take 15 (.take 4 (.take 10 (.take 11 (.take 16 (.take 17 (.take 18 .done)))))))))))))))))))) (.leaf)))) (Zxh (Zbn f74)):=fun _ _ _ _=>by kernel_rfl
theorem ZBp:Zj Tryz.prog 72 (Zxh Xe):=okF (ZAb Xk) Tryz.func72 Zg (Zm _ (.cons ZBq .nil) .nil .nil .nil (Zn _))
abbrev ZsL (f:ZmX):Zd:=⟨[.one (.P),.agg [.I .u8,.S,.S,.S]],[.one (.P)],fun t K _ h=>f t.1 t.2.1 (fun r0 h=>K (r0,()) h) h⟩
abbrev ZCD (f75:Ztc):Cfg:=Zv Tryz.prog [(72,Zxh f75)] 15 [] [] [] Zw
theorem ZAa (f75:Ztc):Zx (ZCD f75) Tryz.f30 (.seq (.leaf) (.seq (.leaf) (.seq (.order (.take 0 (.take 1 (.take 2 (.take 3 (.take 4 (.take 5 (.take 6 (.take 7 (.take 8 .done)))))))))) (.leaf)))) (ZsL (ZcS f75)):=fun _ _ _ _=>by kernel_rfl
theorem Zv5:Zj Tryz.prog 30 (ZsL YJ):=okF (ZAa Xe) Tryz.func30 Zg (Zm _ (.cons ZBp .nil) .nil .nil .nil (Zn _))
abbrev ZsK (f:ZmW):Zd:=⟨[.one (.P),.one (.I .i64)],[.one (.I .i64)],fun t K _ h=>f t.1 t.2.1 (fun r0 h=>K (r0,()) h) h⟩
abbrev ZCC:Cfg:=Zv Tryz.prog [] 22 [] [] [] Zw
theorem Zz9:Zx (ZCC) Tryz.f120 (.leaf) (ZsK ZaY):=fun _ _ _ _=>by kernel_rfl
theorem Zv4:Zj Tryz.prog 120 (ZsK Yg):=okF (Zz9) Tryz.func120 Zg (Zm _ .nil .nil .nil .nil (Zn _))
abbrev ZuL (f:Zqm):Zd:=⟨[.one (.P),.one (.I .i64)],[.clo 182 [.P,.P]],fun t K _ h=>f t.1 t.2.1 (fun r0 h=>K (r0,()) h) h⟩
abbrev ZCB:Cfg:=Zv Tryz.prog [] 6 [] [] [] Zw
theorem Zz8:Zx (ZCB) Tryz.f124 (.leaf) (ZuL ZbP):=fun _ _ _ _=>by kernel_rfl
theorem Zzw:Zj Tryz.prog 124 (ZuL YY):=okF (Zz8) Tryz.func124 Zg (Zm _ .nil .nil .nil .nil (Zn _))
abbrev Zsr (f:Zpm):Zd:=⟨[.one (.P),.one (.I .i64)],[.one (.I .i64)],fun t K _ h=>f t.1 t.2.1 (fun r0 h=>K (r0,()) h) h⟩
abbrev ZCA:Cfg:=Zv Tryz.prog [] 16 [] [] [] Zw
theorem Zz7:Zx (ZCA) Tryz.f122 (.leaf) (Zsr XJ):=fun _ _ _ _=>by kernel_rfl
theorem Zv3:Zj Tryz.prog 122 (Zsr ZQ):=okF (Zz7) Tryz.func122 Zg (Zm _ .nil .nil .nil .nil (Zn _))
abbrev ZzK:List VT:=[.yl,.one (.P),.one (.P)]
abbrev ZzJ:List VT:=[]
abbrev Zxg (f:Zql):ZaR:=⟨[.one (.P),.one (.P)],fun Y l t K h=>f Y l t.1 t.2.1 K h⟩
def ZCz (Y:Yld):Cfg:=Zv Tryz.prog [(122,(Zsr ZQ))] 52 [] [] [] Y
theorem Zz6 (f79:Zpm) (Y:Yld) (t:Xi ZzK) (K:Xi ZzJ→HP) (Kp:Value→HP) (h:Zc):Zsw (Zv Tryz.prog [(122,Zsr f79)] 52 [] [] [] Y) Tryz.f182 (.seq (.leaf) (.seq (.leaf) (.block (.loop [5] [.one (.I .i64)] [(6,7),(19,51)] (.seq (.leaf) (.seq (.block (.seq (.leaf) (.seq (.order (.take 0 (.take 1 (.take 2 (.take 3 (.take 4 (.take 5 (.take 6 (.take 7 (.take 8 (.take 9 (.take 10 (.take 11 (.take 12 (.take 13 (.take 14 (.take 15 (.take 16 (.take 17 (.take 18 .done)))))))))))))))))))) (.leaf)))) (.leaf))))))) (Xi.evs ZzK t) ZzJ K Kp h=Za8 f79 Y t.1 t.2.1 t.2.2.1 (fun h=>K (()) h) h:=by kernel_rfl
theorem Zzv:ZkE Tryz.prog 182 (Zxg YD):=fun Y hY=>ZrX (c:=ZCz Y) Tryz.func182 (by kernel_rfl) (by kernel_rfl) rfl (Nat.le_of_ble_eq_true rfl) (Zm _ (.cons Zv3 .nil) .nil .nil .nil hY) Zg (Zz6 ZQ Y)
abbrev Zxf (f:Ztb):Zd:=⟨[.one (.I .i64),.one (.I .i64)],[.one (.I .i64)],fun t K _ h=>f t.1 t.2.1 (fun r0 h=>K (r0,()) h) h⟩
abbrev ZCy:Cfg:=Zv Tryz.prog [] 11 [] [] [] Zw
theorem Zz5:Zx (ZCy) Tryz.f183 (.leaf) (Zxf Zf8):=fun _ _ _ _=>by kernel_rfl
theorem ZBo:Zj Tryz.prog 183 (Zxf Zc8):=okF (Zz5) Tryz.func183 Zg (Zm _ .nil .nil .nil .nil (Zn _))
abbrev ZuK (f:Zqk):Zd:=⟨[.agg [.I .i64,.I .i64,.I .i64,.I .i64,.I .i64,.I .i64],.agg [.I .i64,.I .i64,.I .i64,.I .i64,.I .i64,.I .i64]],[.agg [.I .i64,.I .i64,.I .i64,.I .i64,.I .i64,.I .i64]],fun t K _ h=>f t.1 t.2.1 (fun r0 h=>K (r0,()) h) h⟩
abbrev ZCx (f81:Ztb):Cfg:=Zv Tryz.prog [(183,Zxf f81)] 53 [] [] [] Zw
theorem Zz4 (f81:Ztb):Zx (ZCx f81) Tryz.f125 (.seq (.leaf) (.cut [5] [.one (.P)] [(6,31)] (.order (.take 0 (.take 2 (.take 5 (.take 7 (.take 10 (.take 12 (.take 15 (.take 17 (.take 20 (.take 22 (.take 1 (.take 3 (.take 6 (.take 8 (.take 11 (.take 13 (.take 16 (.take 18 (.take 21 (.take 23 (.fork 4 (.fork 9 (.fork 14 (.fork 19 (.fork 24 (.take 25 (.take 26 (.take 27 .done))) 26 (.take 24 (.take 25 (.take 27 .done)))) 26 (.take 19 (.take 24 (.take 25 (.take 27 .done))))) 26 (.take 14 (.take 19 (.take 24 (.take 25 (.take 27 .done)))))) 26 (.take 9 (.take 14 (.take 19 (.take 24 (.take 25 (.take 27 .done))))))) 26 (.take 4 (.take 9 (.take 14 (.take 19 (.take 24 (.take 25 (.take 27 .done))))))))))))))))))))))))))))) (.leaf))) (ZuK (Ze2 f81)):=fun _ _ _ _=>by kernel_rfl
theorem Zzu:Zj Tryz.prog 125 (ZuK ZaT):=okF (Zz4 Zc8) Tryz.func125 Zg (Zm _ (.cons ZBo .nil) .nil .nil .nil (Zn _))
abbrev ZuJ (f:Zqj):Zd:=⟨[.one (.P),.one (.I .i64)],[.agg [.I .i64,.I .i64,.I .i64,.I .i64,.I .i64,.I .i64],.one (.I .i64)],fun t K _ h=>f t.1 t.2.1 (fun r0 r1 h=>K (r0,r1,()) h) h⟩
abbrev ZCw (f77:ZmW) (f78:Zqm) (f82:Zqk) (f80:Zql):Cfg:=Zv Tryz.prog [(120,ZsK f77),(124,ZuL f78),(125,ZuK f82)] 25 [] [] [(182,Zxg f80)] Zw
theorem Zz3 (f77:ZmW) (f78:Zqm) (f82:Zqk) (f80:Zql):Zx (ZCw f77 f78 f82 f80) Tryz.f69 (.seq (.leaf) (.seq (.leaf) (.seq (.leaf) (.seq (.seq (.leaf) (.block (.range [.agg [.I .i64,.I .i64,.I .i64,.I .i64,.I .i64,.I .i64,.I .i64]] (.leaf) (.leaf)))) (.leaf))))) (ZuJ (Zbq f77 f78 f82 f80)):=fun _ _ _ _=>by kernel_rfl
theorem Zzt:Zj Tryz.prog 69 (ZuJ YM):=okF (Zz3 Yg YY ZaT YD) Tryz.func69 Zg (Zm _ (.cons Zv4 (.cons Zzw (.cons Zzu .nil))) .nil .nil (.cons Zzv .nil) (Zn _))
abbrev Zsq (f:Zlr):Zd:=⟨[.one (.P),.one (.I .i64)],[.agg [.I .i64,.I .i64,.I .i64,.I .i64,.I .i64,.I .i64],.one (.I .i64)],fun t K _ h=>f t.1 t.2.1 (fun r0 r1 h=>K (r0,r1,()) h) h⟩
abbrev ZCv (f83:Zqj):Cfg:=Zv Tryz.prog [(69,ZuJ f83)] 17 [] [] [] Zw
theorem Zz2 (f83:Zqj):Zx (ZCv f83) Tryz.f161 (.leaf) (Zsq (ZbV f83)):=fun _ _ _ _=>by kernel_rfl
theorem ZuH:Zj Tryz.prog 161 (Zsq Yl):=okF (Zz2 YM) Tryz.func161 Zg (Zm _ (.cons Zzt .nil) .nil .nil .nil (Zn _))
abbrev Zxe (f:Zta):Zd:=⟨[.one (.P),.one (.I .i64)],[.one (.I .i64),.one (.I .i64)],fun t K _ h=>f t.1 t.2.1 (fun r0 r1 h=>K (r0,r1,()) h) h⟩
abbrev ZCu (f84:Zlr):Cfg:=Zv Tryz.prog [(161,Zsq f84)] 27 [] [] [] Zw
theorem Zz1 (f84:Zlr):Zx (ZCu f84) Tryz.f162 (.leaf) (Zxe (ZcW f84)):=fun _ _ _ _=>by kernel_rfl
theorem ZBn:Zj Tryz.prog 162 (Zxe Zax):=okF (Zz1 Yl) Tryz.func162 Zg (Zm _ (.cons ZuH .nil) .nil .nil .nil (Zn _))
abbrev ZuI (f:Zqi):Zd:=⟨[.one (.P),.one (.I .i64)],[.one (.I .i64),.one (.I .i64)],fun t K _ h=>f t.1 t.2.1 (fun r0 r1 h=>K (r0,r1,()) h) h⟩
abbrev ZCt (f77:ZmW) (f78:Zqm) (f79:Zpm) (f80:Zql):Cfg:=Zv Tryz.prog [(120,ZsK f77),(124,ZuL f78),(122,Zsr f79)] 33 [] [] [(182,Zxg f80)] Zw
theorem Zz0 (f77:ZmW) (f78:Zqm) (f79:Zpm) (f80:Zql):Zx (ZCt f77 f78 f79 f80) Tryz.f202 (.seq (.leaf) (.seq (.leaf) (.seq (.leaf) (.seq (.seq (.leaf) (.block (.range [.agg [.I .i64,.I .i64,.I .i64,.I .i64,.I .i64,.I .i64,.I .i64]] (.leaf) (.block (.seq (.order (.take 1 (.take 0 (.take 2 (.take 4 (.take 5 (.take 3 (.take 6 (.take 7 .done))))))))) (.leaf)))))) (.leaf))))) (ZuI (Za9 f77 f78 f79 f80)):=fun _ _ _ _=>by kernel_rfl
theorem Zzs:Zj Tryz.prog 202 (ZuI YE):=okF (Zz0 Yg YY ZQ YD) Tryz.func202 Zg (Zm _ (.cons Zv4 (.cons Zzw (.cons Zv3 .nil))) .nil .nil (.cons Zzv .nil) (Zn _))
abbrev Zxd (f:Zs9):Zd:=⟨[.one (.P),.one (.I .i64)],[.one (.I .i64),.one (.I .i64)],fun t K _ h=>f t.1 t.2.1 (fun r0 r1 h=>K (r0,r1,()) h) h⟩
abbrev ZCs (f86:Zqi):Cfg:=Zv Tryz.prog [(202,ZuI f86)] 16 [] [] [] Zw
theorem ZzZ (f86:Zqi):Zx (ZCs f86) Tryz.f163 (.leaf) (Zxd (Zbm f86)):=fun _ _ _ _=>by kernel_rfl
theorem ZBm:Zj Tryz.prog 163 (Zxd Xd):=okF (ZzZ YE) Tryz.func163 Zg (Zm _ (.cons Zzs .nil) .nil .nil .nil (Zn _))
abbrev Zxc (f:Zs8):Zd:=⟨[.one (.P),.one (.I .i64)],[.one (.I .i64),.one (.I .i64)],fun t K _ h=>f t.1 t.2.1 (fun r0 r1 h=>K (r0,r1,()) h) h⟩
abbrev ZCr (f84:Zlr):Cfg:=Zv Tryz.prog [(161,Zsq f84)] 17 [] [] [] Zw
theorem ZzY (f84:Zlr):Zx (ZCr f84) Tryz.f164 (.leaf) (Zxc (Zcm f84)):=fun _ _ _ _=>by kernel_rfl
theorem ZBl:Zj Tryz.prog 164 (Zxc Zac):=okF (ZzY Yl) Tryz.func164 Zg (Zm _ (.cons ZuH .nil) .nil .nil .nil (Zn _))
abbrev ZqP (f:ZjT):Zd:=⟨[.one (.P)],[.one (.I .i64)],fun t K _ h=>f t.1 (fun r0 h=>K (r0,()) h) h⟩
abbrev ZCq:Cfg:=Zv Tryz.prog [] 9 [] [] [] Zw
theorem ZzX:Zx (ZCq) Tryz.f32 (.leaf) (ZqP ZaQ):=fun _ _ _ _=>by kernel_rfl
theorem Zsy:Zj Tryz.prog 32 (ZqP ZL):=okF (ZzX) Tryz.func32 Zg (Zm _ .nil .nil .nil .nil (Zn _))
abbrev ZzE (f:Zs7):Zd:=⟨[.one (.I .i64),.one (.P),.one (.P)],[.one (.B)],fun t K _ h=>f t.1 t.2.1 t.2.2.1 (fun r0 h=>K (r0,()) h) h⟩
theorem ZBk:Zj Tryz.prog 165 (ZzE ZaG):=Zdg Tryz.func165 (by kernel_rfl) (by kernel_rfl) fun _ _ _ _ h=>h
abbrev Zxb (f:Zs6):Zd:=⟨[.one (.P),.one (.I .u8),.clo 165 [.P,.P]],[.one (.I .i64),.one (.B)],fun t K _ h=>f t.1 t.2.1 t.2.2.1 (fun r0 r1 h=>K (r0,r1,()) h) h⟩
abbrev ZCp (f69:ZjU) (f90:Zs7):Cfg:=Zv Tryz.prog [(27,ZqQ f69),(165,ZzE f90)] 34 [] [] [] Zw
theorem ZzW (f69:ZjU) (f90:Zs7):Zx (ZCp f69 f90) Tryz.f158 (.seq (.leaf) (.seq (.seq (.order (.take 0 (.take 1 (.take 2 (.take 7 (.take 8 (.take 9 (.take 10 (.take 11 (.take 15 (.take 3 (.take 4 (.take 5 (.take 6 (.take 12 (.take 13 (.take 14 .done))))))))))))))))) (.block (.loop [25] [.one (.I .i64)] [(6,7),(9,9),(26,33)] (.leaf)))) (.leaf))) (Zxb (Yx f69 f90)):=fun _ _ _ _=>by kernel_rfl
theorem ZBj:Zj Tryz.prog 158 (Zxb ZW):=okF (ZzW Xv ZaG) Tryz.func158 Zg (Zm _ (.cons Zsz (.cons ZBk .nil)) .nil .nil .nil (Zn _))
abbrev Zxa (f:Zs5):Zd:=⟨[.one (.P)],[.one (.I .i64),.one (.B)],fun t K _ h=>f t.1 (fun r0 r1 h=>K (r0,r1,()) h) h⟩
abbrev ZCo (f76:ZmX) (f84:Zlr) (f85:Zta) (f87:Zs9) (f88:Zs8) (f89:ZjT) (f91:Zs6):Cfg:=Zv Tryz.prog [(30,ZsL f76),(161,Zsq f84),(162,Zxe f85),(163,Zxd f87),(164,Zxc f88),(32,ZqP f89),(158,Zxb f91)] 96 [] [] [] Zw
theorem ZzV (f76:ZmX) (f84:Zlr) (f85:Zta) (f87:Zs9) (f88:Zs8) (f89:ZjT) (f91:Zs6):Zx (ZCo f76 f84 f85 f87 f88 f89 f91) Tryz.f101 (.seq (.leaf) (.seq (.leaf) (.seq (.leaf) (.seq (.leaf) (.seq (.leaf) (.seq (.leaf) (.seq (.leaf) (.cut [13] [.one (.P)] [(69,90)] (.order (.take 0 (.take 2 (.take 4 (.take 19 (.take 20 (.take 1 (.take 5 (.take 6 (.take 7 (.take 8 (.take 9 (.take 10 (.take 11 (.take 12 (.take 13 (.take 14 (.take 15 (.take 16 (.take 17 (.take 18 (.fork 3 (.take 21 (.take 22 (.take 23 .done))) 22 (.take 3 (.take 21 (.take 23 .done))))))))))))))))))))))))) (.leaf))))))))) (Zxa (Zbc f76 f84 f85 f87 f88 f89 f91)):=fun _ _ _ _=>by kernel_rfl
theorem ZBi:Zj Tryz.prog 101 (Zxa Xm):=okF (ZzV YJ Yl Zax Xd Zac ZL ZW) Tryz.func101 Zg (Zm _ (.cons Zv5 (.cons ZuH (.cons ZBn (.cons ZBm (.cons ZBl (.cons Zsy (.cons ZBj .nil))))))) .nil .nil .nil (Zn _))
abbrev ZzD (f:Zs4):Zd:=⟨[.one (.I .i64),.one (.P)],[.one (.B)],fun t K _ h=>f t.1 t.2.1 (fun r0 h=>K (r0,()) h) h⟩
theorem ZBh:Zj Tryz.prog 167 (ZzD Zbo):=Zdg Tryz.func167 (by kernel_rfl) (by kernel_rfl) fun _ _ _ _ h=>h
abbrev Zw9 (f:Zs3):Zd:=⟨[.one (.P),.one (.I .u8),.clo 167 [.P]],[.one (.I .i64),.one (.B)],fun t K _ h=>f t.1 t.2.1 t.2.2.1 (fun r0 r1 h=>K (r0,r1,()) h) h⟩
abbrev ZCn (f69:ZjU) (f93:Zs4):Cfg:=Zv Tryz.prog [(27,ZqQ f69),(167,ZzD f93)] 34 [] [] [] Zw
theorem ZzU (f69:ZjU) (f93:Zs4):Zx (ZCn f69 f93) Tryz.f158 (.seq (.leaf) (.seq (.seq (.order (.take 0 (.take 1 (.take 2 (.take 7 (.take 8 (.take 9 (.take 10 (.take 11 (.take 15 (.take 3 (.take 4 (.take 5 (.take 6 (.take 12 (.take 13 (.take 14 .done))))))))))))))))) (.block (.loop [25] [.one (.I .i64)] [(6,7),(9,9),(26,33)] (.leaf)))) (.leaf))) (Zw9 (YH f69 f93)):=fun _ _ _ _=>by kernel_rfl
theorem ZBg:Zj Tryz.prog 158 (Zw9 Z9):=okF (ZzU Xv Zbo) Tryz.func158 Zg (Zm _ (.cons Zsz (.cons ZBh .nil)) .nil .nil .nil (Zn _))
abbrev Zw8 (f:Zs2):Zd:=⟨[.one (.P)],[.one (.I .i64),.one (.B)],fun t K _ h=>f t.1 (fun r0 r1 h=>K (r0,r1,()) h) h⟩
abbrev ZCm (f94:Zs3):Cfg:=Zv Tryz.prog [(158,Zw9 f94)] 9 [] [] [] Zw
theorem ZzT (f94:Zs3):Zx (ZCm f94) Tryz.f102 (.leaf) (Zw8 (Zcq f94)):=fun _ _ _ _=>by kernel_rfl
theorem ZBf:Zj Tryz.prog 102 (Zw8 Zag):=okF (ZzT Z9) Tryz.func102 Zg (Zm _ (.cons ZBg .nil) .nil .nil .nil (Zn _))
abbrev Zw7 (f:Zs1):Zd:=⟨[.one (.L),.agg [.I .i64,.S,.S,.S,.B,.I .i64,.L]],[.clo 255 [.P,.P]],fun t K _ h=>f t.1 t.2.1 (fun r0 h=>K (r0,()) h) h⟩
abbrev ZCl:Cfg:=Zv Tryz.prog [] 6 [] [] [] Zw
theorem ZzS:Zx (ZCl) Tryz.f209 (.leaf) (Zw7 Zep):=fun _ _ _ _=>by kernel_rfl
theorem ZBe:Zj Tryz.prog 209 (Zw7 Zc9):=okF (ZzS) Tryz.func209 Zg (Zm _ .nil .nil .nil .nil (Zn _))
abbrev Zw6 (f:Zs0):Zd:=⟨[.agg [.S,.S,.B,.I .i64,.I .u8,.S,.I .u8,.I .i64,.I .i64,.B,.I .i64,.B],.one (.P),.one (.P),.one (.P)],[.one (.B)],fun t K _ h=>f t.1 t.2.1 t.2.2.1 t.2.2.2.1 (fun r0 h=>K (r0,()) h) h⟩
abbrev ZCk:Cfg:=Zv Tryz.prog [] 28 [] [] [] Zw
theorem ZzR:Zx (ZCk) Tryz.f278 (.leaf) (Zw6 ZdD):=fun _ _ _ _=>by kernel_rfl
theorem ZBd:Zj Tryz.prog 278 (Zw6 ZbJ):=okF (ZzR) Tryz.func278 Zg (Zm _ .nil .nil .nil .nil (Zn _))
abbrev Zw5 (f:ZsZ):Zd:=⟨[.one (.L),.clo 278 [.P,.P,.P]],[.one (.I .i64)],fun t K _ h=>f t.1 t.2.1 (fun r0 h=>K (r0,()) h) h⟩
abbrev ZCj (f97:Zs0):Cfg:=Zv Tryz.prog [(278,Zw6 f97)] 19 [] [] [] Zw
theorem ZzQ (f97:Zs0):Zx (ZCj f97) Tryz.f294 (.seq (.leaf) (.seq (.seq (.leaf) (.block (.loop [8] [.one (.I .i64)] [(4,5),(9,18)] (.leaf)))) (.leaf))) (Zw5 (Yu f97)):=fun _ _ _ _=>by kernel_rfl
theorem ZBc:Zj Tryz.prog 294 (Zw5 Z4):=okF (ZzQ ZbJ) Tryz.func294 Zg (Zm _ (.cons ZBd .nil) .nil .nil .nil (Zn _))
abbrev Zw4 (f:ZsY):Zd:=⟨[.one (.L),.clo 278 [.P,.P,.P]],[.one (.B)],fun t K _ h=>f t.1 t.2.1 (fun r0 h=>K (r0,()) h) h⟩
abbrev ZCi (f98:ZsZ):Cfg:=Zv Tryz.prog [(294,Zw5 f98)] 9 [] [] [] Zw
theorem ZzP (f98:ZsZ):Zx (ZCi f98) Tryz.f279 (.leaf) (Zw4 (Yp f98)):=fun _ _ _ _=>by kernel_rfl
theorem ZBb:Zj Tryz.prog 279 (Zw4 ZX):=okF (ZzP Z4) Tryz.func279 Zg (Zm _ (.cons ZBc .nil) .nil .nil .nil (Zn _))
abbrev Zpz (f:ZpA):Zd:=⟨[.one (.L),.one (.I .i64),.one (.S)],[.one (.B)],fun t K _ h=>f t.1 t.2.1 t.2.2.1 (fun r0 h=>K (r0,()) h) h⟩
abbrev Zy9 (f99:ZsY):Cfg:=Zv Tryz.prog [(279,Zw4 f99)] 32 [] [] [] Zw
theorem Zv2 (f99:ZsY):Zx (Zy9 f99) Tryz.f256 (.leaf) (Zpz (Zc1 f99)):=fun _ _ _ _=>by kernel_rfl
theorem Zw3:Zj Tryz.prog 256 (Zpz XM):=okF (Zv2 ZX) Tryz.func256 Zg (Zm _ (.cons ZBb .nil) .nil .nil .nil (Zn _))
abbrev ZsX:List VT:=[.yl,.one (.P),.one (.P)]
abbrev ZsW:List VT:=[]
abbrev ZsV (f:ZnU):ZaR:=⟨[.one (.P),.one (.P)],fun Y l t K h=>f Y l t.1 t.2.1 K h⟩
def Zy8 (Y:Yld):Cfg:=Zv Tryz.prog [(256,(Zpz XM))] 33 [] [] [] Y
theorem Zv1 (f100:ZpA) (Y:Yld) (t:Xi ZsX) (K:Xi ZsW→HP) (Kp:Value→HP) (h:Zc):Zsw (Zv Tryz.prog [(256,Zpz f100)] 33 [] [] [] Y) Tryz.f255 (.seq (.leaf) (.block (.loop [8] [.one (.I .i64)] [(4,5),(9,32)] (.leaf)))) (Xi.evs ZsX t) ZsW K Kp h=Zdp f100 Y t.1 t.2.1 t.2.2.1 (fun h=>K (()) h) h:=by kernel_rfl
theorem Zw2:ZkE Tryz.prog 255 (ZsV ZbK):=fun Y hY=>ZrX (c:=Zy8 Y) Tryz.func255 (by kernel_rfl) (by kernel_rfl) rfl (Nat.le_of_ble_eq_true rfl) (Zm _ (.cons Zw3 .nil) .nil .nil .nil hY) Zg (Zv1 XM Y)
abbrev Zpy (f:Zj4):Zd:=⟨[.agg [.S,.S,.B,.I .i64,.I .u8,.S,.I .u8,.I .i64,.I .i64,.B,.I .i64,.B],.agg [.I .i64,.S,.S,.S,.B,.I .i64,.L]],[.agg [.S,.S,.S,.B]],fun t K _ h=>f t.1 t.2.1 (fun r0 h=>K (r0,()) h) h⟩
abbrev Zy7:Cfg:=Zv Tryz.prog [] 36 [] [] [] Zw
theorem Zv0:Zx (Zy7) Tryz.f210 (.leaf) (Zpy ZdW):=fun _ _ _ _=>by kernel_rfl
theorem ZsJ:Zj Tryz.prog 210 (Zpy X4):=okF (Zv0) Tryz.func210 Zg (Zm _ .nil .nil .nil .nil (Zn _))
abbrev ZrF (f:ZnT):Zd:=⟨[.one (.L),.agg [.I .i64,.S,.S,.S,.B,.I .i64,.L]],[.one (.L)],fun t K _ h=>f t.1 t.2.1 (fun r0 h=>K (r0,()) h) h⟩
abbrev Zy6 (f96:Zs1) (f102:Zj4) (f101:ZnU):Cfg:=Zv Tryz.prog [(209,Zw7 f96),(210,Zpy f102)] 23 [] [] [(255,ZsV f101)] Zw
theorem ZvZ (f96:Zs1) (f102:Zj4) (f101:ZnU):Zx (Zy6 f96 f102 f101) Tryz.f171 (.seq (.leaf) (.seq (.leaf) (.seq (.seq (.leaf) (.block (.range [.one (.I .i64),.agg [.S,.S,.B,.I .i64,.I .u8,.S,.I .u8,.I .i64,.I .i64,.B,.I .i64,.B]] (.leaf) (.leaf)))) (.leaf)))) (ZrF (Zeq f96 f102 f101)):=fun _ _ _ _=>by kernel_rfl
theorem Zw1:Zj Tryz.prog 171 (ZrF ZbL):=okF (ZvZ Zc9 X4 ZbK) Tryz.func171 Zg (Zm _ (.cons ZBe (.cons ZsJ .nil)) .nil .nil (.cons Zw2 .nil) (Zn _))
abbrev Zpx (f:Zj3):Zd:=⟨[.one (.S)],[.agg [.I .u8,.S,.S,.S]],fun t K _ h=>f t.1 (fun r0 h=>K (r0,()) h) h⟩
abbrev Zy5:Cfg:=Zv Tryz.prog [] 5 [] [] [] Zw
theorem ZvY:Zx (Zy5) Tryz.f31 (.leaf) (Zpx Zdn):=fun _ _ _ _=>by kernel_rfl
theorem ZsI:Zj Tryz.prog 31 (Zpx XA):=okF (ZvY) Tryz.func31 Zg (Zm _ .nil .nil .nil .nil (Zn _))
abbrev ZrE (f:ZnS):Zd:=⟨[.one (.P),.agg [.S,.S,.B,.I .i64,.I .u8,.S,.I .u8,.I .i64,.I .i64,.B,.I .i64,.B]],[.one (.P)],fun t K _ h=>f t.1 t.2.1 (fun r0 h=>K (r0,()) h) h⟩
abbrev Zy4 (f102:Zj4) (f104:Zj3) (f76:ZmX):Cfg:=Zv Tryz.prog [(210,Zpy f102),(31,Zpx f104),(30,ZsL f76)] 43 [] [] [] Zw
theorem ZvX (f102:Zj4) (f104:Zj3) (f76:ZmX):Zx (Zy4 f102 f104 f76) Tryz.f211 (.seq (.leaf) (.cut [5] [.one (.P)] [(7,12)] (.order (.take 1 (.take 2 (.take 3 (.take 0 (.take 4 (.fork 5 (.take 6 (.take 7 .done)) 6 (.take 5 (.take 7 .done))))))))) (.seq (.leaf) (.cut [] [] [(16,33)] (.leaf) (.seq (.order (.take 0 (.take 1 (.take 2 (.take 3 (.take 4 (.take 5 (.take 6 (.take 7 (.take 8 (.take 9 .done))))))))))) (.leaf)))))) (ZrE (Zco f102 f104 f76)):=fun _ _ _ _=>by kernel_rfl
theorem Zw0:Zj Tryz.prog 211 (ZrE Zae):=okF (ZvX X4 XA YJ) Tryz.func211 Zg (Zm _ (.cons ZsJ (.cons ZsI (.cons Zv5 .nil))) .nil .nil .nil (Zn _))
abbrev ZrD (f:ZnR):Zd:=⟨[.one (.P),.one (.I .i64)],[.one (.I .i64),.one (.I .i64)],fun t K _ h=>f t.1 t.2.1 (fun r0 r1 h=>K (r0,r1,()) h) h⟩
abbrev Zy3 (f86:Zqi):Cfg:=Zv Tryz.prog [(202,ZuI f86)] 17 [] [] [] Zw
theorem ZvW (f86:Zqi):Zx (Zy3 f86) Tryz.f212 (.leaf) (ZrD (Zbl f86)):=fun _ _ _ _=>by kernel_rfl
theorem ZwZ:Zj Tryz.prog 212 (ZrD Xc):=okF (ZvW YE) Tryz.func212 Zg (Zm _ (.cons Zzs .nil) .nil .nil .nil (Zn _))
abbrev ZsU (f:ZnQ):Zd:=⟨[.one (.P),.one (.I .i64),.one (.I .i64),.one (.I .i64),.one (.I .i64)],[.one (.B),.one (.I .i64)],fun t K _ h=>f t.1 t.2.1 t.2.2.1 t.2.2.2.1 t.2.2.2.2.1 (fun r0 r1 h=>K (r0,r1,()) h) h⟩
theorem ZwY:Zj Tryz.prog 215 (ZsU ZbG):=Zdg Tryz.func215 (by kernel_rfl) (by kernel_rfl) fun _ _ _ _ h=>h
abbrev ZsT (f:ZnP):Zd:=⟨[.one (.P),.one (.I .i64),.one (.I .i64)],[.one (.I .i64),.one (.B),.one (.I .i64)],fun t K _ h=>f t.1 t.2.1 t.2.2.1 (fun r0 r1 r2 h=>K (r0,r1,r2,()) h) h⟩
theorem ZwX:Zj Tryz.prog 219 (ZsT ZbM):=Zdg Tryz.func219 (by kernel_rfl) (by kernel_rfl) fun _ _ _ _ h=>h
abbrev ZrC (f:ZnO):Zd:=⟨[.one (.P),.one (.I .i64),.one (.B),.one (.I .i64)],[.one (.B)],fun t K _ h=>f t.1 t.2.1 t.2.2.1 t.2.2.2.1 (fun r0 h=>K (r0,()) h) h⟩
abbrev Zy2:Cfg:=Zv Tryz.prog [] 19 [] [] [] Zw
theorem ZvV:Zx (Zy2) Tryz.f218 (.leaf) (ZrC ZdC):=fun _ _ _ _=>by kernel_rfl
theorem ZwW:Zj Tryz.prog 218 (ZrC ZbH):=okF (ZvV) Tryz.func218 Zg (Zm _ .nil .nil .nil .nil (Zn _))
abbrev ZsS (f:ZnN):Zd:=⟨[.one (.P),.one (.I .i64),.one (.I .i64)],[.one (.I .i64),.one (.I .i64)],fun t K _ h=>f t.1 t.2.1 t.2.2.1 (fun r0 r1 h=>K (r0,r1,()) h) h⟩
theorem ZwV:Zj Tryz.prog 220 (ZsS ZbF):=Zdg Tryz.func220 (by kernel_rfl) (by kernel_rfl) fun _ _ _ _ h=>h
abbrev ZsR (f:ZnM):Zd:=⟨[.one (.P)],[.one (.P)],fun t K _ h=>f t.1 (fun r0 h=>K (r0,()) h) h⟩
theorem ZwU:Zj Tryz.prog 75 (ZsR ZbN):=Zdg Tryz.func75 (by kernel_rfl) (by kernel_rfl) fun _ _ _ _ h=>h
abbrev ZsQ (f:ZnL):Zd:=⟨[.one (.P),.one (.I .i64),.one (.I .i64),.one (.I .i64)],[.one (.I .i64),.one (.B),.one (.I .i64)],fun t K _ h=>f t.1 t.2.1 t.2.2.1 t.2.2.2.1 (fun r0 r1 r2 h=>K (r0,r1,r2,()) h) h⟩
theorem ZwT:Zj Tryz.prog 223 (ZsQ ZcQ):=Zdg Tryz.func223 (by kernel_rfl) (by kernel_rfl) fun _ _ _ _ h=>h
abbrev ZrB (f:ZnK):Zd:=⟨[.agg [.S,.S,.B,.I .i64,.I .u8,.S,.I .u8,.I .i64,.I .i64,.B,.I .i64,.B],.one (.I .i64),.one (.I .i64),.one (.I .i64)],[.one (.B)],fun t K _ h=>f t.1 t.2.1 t.2.2.1 t.2.2.2.1 (fun r0 h=>K (r0,()) h) h⟩
abbrev Zy1:Cfg:=Zv Tryz.prog [] 41 [] [] [] Zw
theorem ZvU:Zx (Zy1) Tryz.f224 (.leaf) (ZrB Zdq):=fun _ _ _ _=>by kernel_rfl
theorem ZwS:Zj Tryz.prog 224 (ZrB ZaX):=okF (ZvU) Tryz.func224 Zg (Zm _ .nil .nil .nil .nil (Zn _))
abbrev ZrA (f:ZnJ):Zd:=⟨[.one (.P),.agg [.S,.S,.B,.I .i64,.I .u8,.S,.I .u8,.I .i64,.I .i64,.B,.I .i64,.B],.agg [.P,.P]],[.one (.B)],fun t K _ h=>f t.1 t.2.1 t.2.2.1 (fun r0 h=>K (r0,()) h) h⟩
abbrev Zy0 (f105:ZnS) (f84:Zlr) (f106:ZnR) (f107:ZnQ) (f108:ZnP) (f109:ZnO) (f110:ZnN) (f111:ZnM) (f112:ZnL) (f89:ZjT) (f113:ZnK):Cfg:=Zv Tryz.prog [(211,ZrE f105),(161,Zsq f84),(212,ZrD f106),(215,ZsU f107),(219,ZsT f108),(218,ZrC f109),(220,ZsS f110),(75,ZsR f111),(223,ZsQ f112),(32,ZqP f89),(224,ZrB f113)] 140 [] [] [] Zw
theorem ZvT (f105:ZnS) (f84:Zlr) (f106:ZnR) (f107:ZnQ) (f108:ZnP) (f109:ZnO) (f110:ZnN) (f111:ZnM) (f112:ZnL) (f89:ZjT) (f113:ZnK):Zx (Zy0 f105 f84 f106 f107 f108 f109 f110 f111 f112 f89 f113) Tryz.f172 (.seq (.leaf) (.seq (.leaf) (.seq (.leaf) (.seq (.leaf) (.cut [12,13] [.one (.P),.one (.P)] [(41,50)] (.order (.take 0 (.take 1 (.take 2 (.take 3 (.take 5 (.take 6 (.take 7 (.take 8 (.take 4 (.take 9 (.fork 10 (.take 11 (.take 12 (.take 13 .done))) 11 (.take 10 (.take 12 (.take 13 .done))))))))))))))) (.seq (.seq (.leaf) (.block (.seq (.leaf) (.cond (.leaf) (.seq (.leaf) (.cond (.leaf) (.seq (.leaf) (.cond (.seq (.leaf) (.seq (.leaf) (.seq (.leaf) (.seq (.order (.take 0 (.take 1 (.take 2 (.take 4 (.take 5 (.take 6 (.take 3 (.take 7 (.take 8 (.take 9 (.take 10 (.take 11 (.take 12 .done)))))))))))))) (.leaf))))) (.leaf))))))))) (.seq (.order (.take 1 (.take 3 (.take 0 (.take 2 (.take 5 (.take 4 (.take 6 (.take 7 .done))))))))) (.leaf)))))))) (ZrA (Zcr f105 f84 f106 f107 f108 f109 f110 f111 f112 f89 f113)):=fun _ _ _ _=>by kernel_rfl
theorem ZwR:Zj Tryz.prog 172 (ZrA Zah):=okF (ZvT Zae Yl Xc ZbG ZbM ZbH ZbF ZbN ZcQ ZL ZaX) Tryz.func172 Zg (Zm _ (.cons Zw0 (.cons ZuH (.cons ZwZ (.cons ZwY (.cons ZwX (.cons ZwW (.cons ZwV (.cons ZwU (.cons ZwT (.cons Zsy (.cons ZwS .nil))))))))))) .nil .nil .nil (Zn _))
abbrev Zrz (f:ZnI):Zd:=⟨[.one (.P)],[.one (.I .i64),.one (.B)],fun t K _ h=>f t.1 (fun r0 r1 h=>K (r0,r1,()) h) h⟩
abbrev ZyZ (f103:ZnT) (f114:ZnJ):Cfg:=Zv Tryz.prog [(171,ZrF f103),(172,ZrA f114)] 66 [] [] [] Zw
theorem ZvS (f103:ZnT) (f114:ZnJ):Zx (ZyZ f103 f114) Tryz.f103 (.seq (.leaf) (.seq (.seq (.order (.take 0 (.take 1 (.take 2 (.take 8 (.take 9 (.take 10 (.take 14 (.take 3 (.take 4 (.take 5 (.take 6 (.take 7 (.take 11 (.take 12 (.take 13 .done)))))))))))))))) (.block (.loop [21] [.one (.I .i64)] [(2,3),(5,6),(22,65)] (.seq (.leaf) (.seq (.leaf) (.seq (.block (.seq (.leaf) (.seq (.leaf) (.cut [] [] [(36,48)] (.leaf) (.seq (.order (.take 0 (.take 2 (.take 3 (.take 4 (.take 10 (.take 1 (.take 5 (.take 6 (.take 7 (.take 8 (.take 9 (.take 11 (.take 12 (.take 13 (.take 14 .done)))))))))))))))) (.leaf)))))) (.leaf))))))) (.leaf))) (Zrz (ZbX f103 f114)):=fun _ _ _ _=>by kernel_rfl
theorem ZwQ:Zj Tryz.prog 103 (Zrz XS):=okF (ZvS ZbL Zah) Tryz.func103 Zg (Zm _ (.cons Zw1 (.cons ZwR .nil)) .nil .nil .nil (Zn _))
abbrev ZmV (f:Zho):Zd:=⟨[.one (.P),.one (.I .i64)],[.one (.I .i64)],fun t K _ h=>f t.1 t.2.1 (fun r0 h=>K (r0,()) h) h⟩
abbrev ZyY:Cfg:=Zv Tryz.prog [] 22 [] [] [] Zw
theorem ZvR:Zx (ZyY) Tryz.f64 (.leaf) (ZmV Zcb):=fun _ _ _ _=>by kernel_rfl
theorem ZqO:Zj Tryz.prog 64 (ZmV Yw):=okF (ZvR) Tryz.func64 Zg (Zm _ .nil .nil .nil .nil (Zn _))
abbrev Zpw (f:Zj2):Zd:=⟨[.one (.P),.one (.I .i64)],[.one (.B)],fun t K _ h=>f t.1 t.2.1 (fun r0 h=>K (r0,()) h) h⟩
abbrev ZyX:Cfg:=Zv Tryz.prog [] 25 [] [] [] Zw
theorem ZvQ:Zx (ZyX) Tryz.f225 (.leaf) (Zpw ZbA):=fun _ _ _ _=>by kernel_rfl
theorem ZsH:Zj Tryz.prog 225 (Zpw YS):=okF (ZvQ) Tryz.func225 Zg (Zm _ .nil .nil .nil .nil (Zn _))
abbrev Zry (f:ZnH):Zd:=⟨[.one (.P),.one (.I .i64)],[.one (.B),.one (.I .i64)],fun t K _ h=>f t.1 t.2.1 (fun r0 r1 h=>K (r0,r1,()) h) h⟩
abbrev ZyW (f116:Zho) (f117:Zj2):Cfg:=Zv Tryz.prog [(64,ZmV f116),(225,Zpw f117)] 16 [] [] [] Zw
theorem ZvP (f116:Zho) (f117:Zj2):Zx (ZyW f116 f117) Tryz.f176 (.leaf) (Zry (Zcc f116 f117)):=fun _ _ _ _=>by kernel_rfl
theorem ZwP:Zj Tryz.prog 176 (Zry ZaL):=okF (ZvP Yw YS) Tryz.func176 Zg (Zm _ (.cons ZqO (.cons ZsH .nil)) .nil .nil .nil (Zn _))
abbrev Zrx (f:ZnG):Zd:=⟨[.one (.I .i64),.one (.P)],[.one (.B)],fun t K _ h=>f t.1 t.2.1 (fun r0 h=>K (r0,()) h) h⟩
abbrev ZyV (f118:ZnH):Cfg:=Zv Tryz.prog [(176,Zry f118)] 41 [] [] [] Zw
theorem ZvO (f118:ZnH):Zx (ZyV f118) Tryz.f173 (.seq (.leaf) (.seq (.leaf) (.seq (.order (.take 5 (.take 0 (.take 1 (.take 2 (.take 3 (.take 4 (.take 6 (.take 7 (.take 8 (.take 9 (.take 10 .done)))))))))))) (.seq (.order (.take 0 (.take 1 (.take 2 (.take 3 (.take 4 (.take 5 (.take 6 (.take 7 (.take 8 (.take 9 (.take 10 (.take 11 (.take 12 .done)))))))))))))) (.leaf))))) (Zrx (ZcJ f118)):=fun _ _ _ _=>by kernel_rfl
theorem ZwO:Zj Tryz.prog 173 (Zrx ZaV):=okF (ZvO ZaL) Tryz.func173 Zg (Zm _ (.cons ZwP .nil) .nil .nil .nil (Zn _))
abbrev Zrw (f:ZnF):Zd:=⟨[.one (.P),.one (.I .u8),.clo 173 [.P]],[.one (.I .i64),.one (.B)],fun t K _ h=>f t.1 t.2.1 t.2.2.1 (fun r0 r1 h=>K (r0,r1,()) h) h⟩
abbrev ZyU (f69:ZjU) (f119:ZnG):Cfg:=Zv Tryz.prog [(27,ZqQ f69),(173,Zrx f119)] 34 [] [] [] Zw
theorem ZvN (f69:ZjU) (f119:ZnG):Zx (ZyU f69 f119) Tryz.f158 (.seq (.leaf) (.seq (.seq (.order (.take 0 (.take 1 (.take 2 (.take 7 (.take 8 (.take 9 (.take 10 (.take 11 (.take 15 (.take 3 (.take 4 (.take 5 (.take 6 (.take 12 (.take 13 (.take 14 .done))))))))))))))))) (.block (.loop [25] [.one (.I .i64)] [(6,7),(9,9),(26,33)] (.leaf)))) (.leaf))) (Zrw (Yz f69 f119)):=fun _ _ _ _=>by kernel_rfl
theorem ZwN:Zj Tryz.prog 158 (Zrw Z1):=okF (ZvN Xv ZaV) Tryz.func158 Zg (Zm _ (.cons Zsz (.cons ZwO .nil)) .nil .nil .nil (Zn _))
abbrev Zrv (f:ZnE):Zd:=⟨[.one (.P)],[.one (.I .i64),.one (.B)],fun t K _ h=>f t.1 (fun r0 r1 h=>K (r0,r1,()) h) h⟩
abbrev ZyT (f120:ZnF):Cfg:=Zv Tryz.prog [(158,Zrw f120)] 9 [] [] [] Zw
theorem ZvM (f120:ZnF):Zx (ZyT f120) Tryz.f104 (.leaf) (Zrv (Zbt f120)):=fun _ _ _ _=>by kernel_rfl
theorem ZwM:Zj Tryz.prog 104 (Zrv Xz):=okF (ZvM Z1) Tryz.func104 Zg (Zm _ (.cons ZwN .nil) .nil .nil .nil (Zn _))
abbrev Zru (f:ZnD):Zd:=⟨[.one (.P)],[.agg [.I .u8,.I .i64,.I .i64],.one (.B)],fun t K _ h=>f t.1 (fun r0 r1 h=>K (r0,r1,()) h) h⟩
abbrev ZyS (f72:Ztf) (f92:Zs5) (f95:Zs2) (f115:ZnI) (f121:ZnE):Cfg:=Zv Tryz.prog [(100,Zxk f72),(101,Zxa f92),(102,Zw8 f95),(103,Zrz f115),(104,Zrv f121)] 33 [] [] [] Zw [(100,[]),(101,[]),(102,[]),(103,[]),(104,[])]
theorem ZvL (f72:Ztf) (f92:Zs5) (f95:Zs2) (f115:ZnI) (f121:ZnE):Zx (ZyS f72 f92 f95 f115 f121) Tryz.f51 (.seq (.leaf) (.seq (.leaf) (.seq (.seq (.leaf) (.block (.loop [16] [.one (.I .i64)] [(3,3),(6,8),(17,31)] (.leaf)))) (.leaf)))) (Zru (Zcp f72 f92 f95 f115 f121)):=fun _ _ _ _=>by kernel_rfl
theorem ZwL:Zj Tryz.prog 51 (Zru Zaf):=okF (ZvL XR Xm Zag XS Xz) Tryz.func51 Zg (Zm _ (.cons ZBs (.cons ZBi (.cons ZBf (.cons ZwQ (.cons ZwM .nil))))) .nil .nil .nil (Zn _))
abbrev ZmU (f:Zhn):Zd:=⟨[.one (.I .i64)],[.one (.B)],fun t K _ h=>f t.1 (fun r0 h=>K (r0,()) h) h⟩
abbrev ZyR:Cfg:=Zv Tryz.prog [] 9 [] [] [] Zw
theorem ZvK:Zx (ZyR) Tryz.f59 (.leaf) (ZmU Zem):=fun _ _ _ _=>by kernel_rfl
theorem ZqN:Zj Tryz.prog 59 (ZmU Y5):=okF (ZvK) Tryz.func59 Zg (Zm _ .nil .nil .nil .nil (Zn _))
abbrev Zrt (f:ZnC):Zd:=⟨[.agg [.I .u8,.S,.S,.S],.one (.P)],[.one (.B)],fun t K _ h=>f t.1 t.2.1 (fun r0 h=>K (r0,()) h) h⟩
abbrev ZyQ (f89:ZjT):Cfg:=Zv Tryz.prog [(32,ZqP f89)] 13 [] [] [] Zw
theorem ZvJ (f89:ZjT):Zx (ZyQ f89) Tryz.f177 (.seq (.leaf) (.seq (.order (.take 0 (.take 1 (.take 2 (.take 3 (.take 4 (.take 5 (.take 6 (.take 7 (.take 8 (.take 9 .done))))))))))) (.leaf))) (Zrt (ZbS f89)):=fun _ _ _ _=>by kernel_rfl
theorem ZwK:Zj Tryz.prog 177 (Zrt XO):=okF (ZvJ ZL) Tryz.func177 Zg (Zm _ (.cons Zsy .nil) .nil .nil .nil (Zn _))
abbrev Zrs (f:ZnB):Zd:=⟨[.one (.L),.clo 177 [.P]],[.one (.I .i64)],fun t K _ h=>f t.1 t.2.1 (fun r0 h=>K (r0,()) h) h⟩
abbrev ZyP (f124:ZnC):Cfg:=Zv Tryz.prog [(177,Zrt f124)] 19 [] [] [] Zw
theorem ZvI (f124:ZnC):Zx (ZyP f124) Tryz.f115 (.seq (.leaf) (.seq (.seq (.leaf) (.block (.loop [8] [.one (.I .i64)] [(4,5),(9,18)] (.leaf)))) (.leaf))) (Zrs (Z5 f124)):=fun _ _ _ _=>by kernel_rfl
theorem ZwJ:Zj Tryz.prog 115 (Zrs ZI):=okF (ZvI XO) Tryz.func115 Zg (Zm _ (.cons ZwK .nil) .nil .nil .nil (Zn _))
abbrev Zpv (f:Zj1):Zd:=⟨[.one (.L),.clo 177 [.P]],[.one (.B)],fun t K _ h=>f t.1 t.2.1 (fun r0 h=>K (r0,()) h) h⟩
abbrev ZyO (f125:ZnB):Cfg:=Zv Tryz.prog [(115,Zrs f125)] 9 [] [] [] Zw
theorem ZvH (f125:ZnB):Zx (ZyO f125) Tryz.f60 (.leaf) (Zpv (ZY f125)):=fun _ _ _ _=>by kernel_rfl
theorem ZsG:Zj Tryz.prog 60 (Zpv Zk):=okF (ZvH ZI) Tryz.func60 Zg (Zm _ (.cons ZwJ .nil) .nil .nil .nil (Zn _))
abbrev Zpu (f:Zj0):Zd:=⟨[.one (.I .i64)],[.one (.B)],fun t K _ h=>f t.1 (fun r0 h=>K (r0,()) h) h⟩
abbrev ZyN:Cfg:=Zv Tryz.prog [] 9 [] [] [] Zw
theorem ZvG:Zx (ZyN) Tryz.f117 (.leaf) (Zpu Zen):=fun _ _ _ _=>by kernel_rfl
theorem ZsF:Zj Tryz.prog 117 (Zpu Zao):=okF (ZvG) Tryz.func117 Zg (Zm _ .nil .nil .nil .nil (Zn _))
abbrev Zrr (f:ZnA):Zd:=⟨[.one (.P)],[.one (.I .i64)],fun t K _ h=>f t.1 (fun r0 h=>K (r0,()) h) h⟩
abbrev ZyM:Cfg:=Zv Tryz.prog [] 9 [] [] [] Zw
theorem ZvF:Zx (ZyM) Tryz.f181 (.leaf) (Zrr X8):=fun _ _ _ _=>by kernel_rfl
theorem ZwI:Zj Tryz.prog 181 (Zrr Xj):=okF (ZvF) Tryz.func181 Zg (Zm _ .nil .nil .nil .nil (Zn _))
abbrev ZmT (f:Zhm):Zd:=⟨[.one (.P),.one (.I .i64),.one (.L)],[.one (.I .i64)],fun t K _ h=>f t.1 t.2.1 t.2.2.1 (fun r0 h=>K (r0,()) h) h⟩
abbrev ZyL (f127:Zj0) (f128:ZnA):Cfg:=Zv Tryz.prog [(117,Zpu f127),(181,Zrr f128)] 34 [] [] [] Zw
theorem ZvE (f127:Zj0) (f128:ZnA):Zx (ZyL f127 f128) Tryz.f116 (.seq (.leaf) (.seq (.leaf) (.seq (.leaf) (.seq (.seq (.leaf) (.block (.loop [16] [.one (.I .i64)] [(6,6),(8,8),(17,26)] (.leaf)))) (.leaf))))) (ZmT (Zbk f127 f128)):=fun _ _ _ _=>by kernel_rfl
theorem ZqM:Zj Tryz.prog 116 (ZmT Yt):=okF (ZvE Zao Xj) Tryz.func116 Zg (Zm _ (.cons ZsF (.cons ZwI .nil)) .nil .nil .nil (Zn _))
abbrev Zpt (f:ZjZ):Zd:=⟨[.agg [.I .i64,.I .i64,.I .i64,.I .i64,.I .i64,.I .i64]],[.one (.B)],fun t K _ h=>f t.1 (fun r0 h=>K (r0,()) h) h⟩
abbrev ZyK:Cfg:=Zv Tryz.prog [] 52 [] [] [] Zw
theorem ZvD:Zx (ZyK) Tryz.f121 (.seq (.leaf) (.seq (.seq (.leaf) (.block (.loop [19] [.one (.I .i64)] [(2,2),(4,4),(20,29)] (.leaf)))) (.leaf))) (Zpt ZdL):=fun _ _ _ _=>by kernel_rfl
theorem ZsE:Zj Tryz.prog 121 (Zpt X3):=okF (ZvD) Tryz.func121 Zg (Zm _ .nil .nil .nil .nil (Zn _))
abbrev Zrq (f:Znz):Zd:=⟨[.one (.L)],[.agg [.I .i64,.I .i64,.I .i64,.I .i64,.I .i64,.I .i64]],fun t K _ h=>f t.1 (fun r0 h=>K (r0,()) h) h⟩
abbrev ZyJ (f130:ZjZ) (f82:Zqk):Cfg:=Zv Tryz.prog [(121,Zpt f130),(125,ZuK f82)] 19 [] [] [] Zw
theorem ZvC (f130:ZjZ) (f82:Zqk):Zx (ZyJ f130 f82) Tryz.f123 (.seq (.leaf) (.seq (.leaf) (.seq (.seq (.leaf) (.block (.loop [8] [.one (.I .i64)] [(5,5),(9,17)] (.leaf)))) (.leaf)))) (Zrq (Zel f130 f82)):=fun _ _ _ _=>by kernel_rfl
theorem ZwH:Zj Tryz.prog 123 (Zrq ZbE):=okF (ZvC X3 ZaT) Tryz.func123 Zg (Zm _ (.cons ZsE (.cons Zzu .nil)) .nil .nil .nil (Zn _))
abbrev Zps (f:ZjY):Zd:=⟨[.one (.P),.one (.I .i64),.one (.L)],[.one (.I .i64)],fun t K _ h=>f t.1 t.2.1 t.2.2.1 (fun r0 h=>K (r0,()) h) h⟩
abbrev ZyI (f77:ZmW) (f130:ZjZ) (f79:Zpm) (f131:Znz):Cfg:=Zv Tryz.prog [(120,ZsK f77),(121,Zpt f130),(122,Zsr f79),(123,Zrq f131)] 77 [] [] [] Zw
theorem ZvB (f77:ZmW) (f130:ZjZ) (f79:Zpm) (f131:Znz):Zx (ZyI f77 f130 f79 f131) Tryz.f68 (.seq (.leaf) (.seq (.leaf) (.seq (.seq (.leaf) (.block (.loop [21] [.one (.I .i64)] [(6,6),(9,9),(22,28)] (.leaf)))) (.seq (.leaf) (.seq (.leaf) (.cut [] [] [(11,11),(36,54)] (.seq (.leaf) (.seq (.leaf) (.cond (.order (.take 0 (.take 1 (.take 2 (.take 4 (.take 3 (.take 5 (.take 6 .done)))))))) (.leaf)))) (.seq (.seq (.leaf) (.block (.loop [] [] [(12,12),(60,76)] (.cut [61] [.one (.B)] [(60,60)] (.leaf) (.leaf))))) (.leaf)))))))) (Zps (Zbr f77 f130 f79 f131)):=fun _ _ _ _=>by kernel_rfl
theorem ZsD:Zj Tryz.prog 68 (Zps YN):=okF (ZvB Yg X3 ZQ ZbE) Tryz.func68 Zg (Zm _ (.cons Zv4 (.cons ZsE (.cons Zv3 (.cons ZwH .nil)))) .nil .nil .nil (Zn _))
abbrev ZmS (f:Zhl):Zd:=⟨[.one (.P),.one (.I .i64),.one (.L)],[],fun t K _ h=>f t.1 t.2.1 t.2.2.1 (fun h=>K (()) h) h⟩
abbrev ZyH (f132:ZjY):Cfg:=Zv Tryz.prog [(68,Zps f132)] 21 [] [] [] Zw
theorem ZvA (f132:ZjY):Zx (ZyH f132) Tryz.f118 (.leaf) (ZmS (ZcU f132)):=fun _ _ _ _=>by kernel_rfl
theorem ZqL:Zj Tryz.prog 118 (ZmS YK):=okF (ZvA YN) Tryz.func118 Zg (Zm _ (.cons ZsD .nil) .nil .nil .nil (Zn _))
abbrev Zrp (f:Zny):Zd:=⟨[.one (.P),.one (.I .i64),.one (.L)],[.one (.I .i64)],fun t K _ h=>f t.1 t.2.1 t.2.2.1 (fun r0 h=>K (r0,()) h) h⟩
abbrev ZyG (f129:Zhm) (f133:Zhl):Cfg:=Zv Tryz.prog [(116,ZmT f129),(118,ZmS f133)] 34 [] [] [] Zw
theorem Zvz (f129:Zhm) (f133:Zhl):Zx (ZyG f129 f133) Tryz.f107 (.seq (.leaf) (.seq (.leaf) (.seq (.leaf) (.seq (.seq (.leaf) (.block (.loop [8,20] [.one (.L),.one (.I .i64)] [(10,10),(21,29)] (.leaf)))) (.leaf))))) (Zrp (Zcn f129 f133)):=fun _ _ _ _=>by kernel_rfl
theorem ZwG:Zj Tryz.prog 107 (Zrp Zad):=okF (Zvz Yt YK) Tryz.func107 Zg (Zm _ (.cons ZqM (.cons ZqL .nil)) .nil .nil .nil (Zn _))
abbrev Zro (f:Znx):Zd:=⟨[.one (.P),.one (.P)],[.one (.I .i64)],fun t K _ h=>f t.1 t.2.1 (fun r0 h=>K (r0,()) h) h⟩
abbrev ZyF (f134:Zny):Cfg:=Zv Tryz.prog [(107,Zrp f134)] 11 [] [] [] Zw
theorem Zvy (f134:Zny):Zx (ZyF f134) Tryz.f106 (.leaf) (Zro (Zbs f134)):=fun _ _ _ _=>by kernel_rfl
theorem ZwF:Zj Tryz.prog 106 (Zro Xy):=okF (Zvy Zad) Tryz.func106 Zg (Zm _ (.cons ZwG .nil) .nil .nil .nil (Zn _))
abbrev Zrn (f:Znw):Zd:=⟨[.one (.P),.agg [.I .i64,.S,.S,.S,.B,.I .i64,.L],.one (.B),.clo 106 [.P]],[.one (.I .i64)],fun t K _ h=>f t.1 t.2.1 t.2.2.1 t.2.2.2.1 (fun r0 h=>K (r0,()) h) h⟩
abbrev ZyE (f59:ZjV) (f123:Zhn) (f63:ZmZ) (f126:Zj1) (f65:ZmY) (f135:Znx):Cfg:=Zv Tryz.prog [(58,ZqR f59),(59,ZmU f123),(156,ZsN f63),(60,Zpv f126),(157,ZsM f65),(106,Zro f135)] 93 [] [] [] Zw
theorem Zvx (f59:ZjV) (f123:Zhn) (f63:ZmZ) (f126:Zj1) (f65:ZmY) (f135:Znx):Zx (ZyE f59 f123 f63 f126 f65 f135) Tryz.f105 (.seq (.leaf) (.seq (.leaf) (.seq (.leaf) (.seq (.block (.seq (.leaf) (.cond (.leaf) (.seq (.leaf) (.cond (.leaf) (.seq (.leaf) (.cond (.leaf) (.seq (.order (.take 3 (.take 0 (.take 1 (.take 2 (.take 5 (.take 6 (.take 7 (.take 8 (.take 9 (.take 10 (.take 11 (.take 4 (.take 12 (.take 13 .done))))))))))))))) (.leaf))))))))) (.cut [] [] [(8,8),(61,66)] (.leaf) (.seq (.seq (.leaf) (.block (.loop [69] [.one (.I .i64)] [(12,12),(70,87)] (.seq (.leaf) (.seq (.leaf) (.seq (.block (.seq (.leaf) (.seq (.order (.take 0 (.take 1 (.take 2 (.take 3 (.take 4 .done)))))) (.order (.take 0 (.take 1 (.take 2 (.take 3 (.take 4 (.take 5 (.take 6 (.take 7 (.take 8 .done))))))))))))) (.leaf))))))) (.leaf))))))) (Zrn (XG f59 f123 f63 f126 f65 f135)):=fun _ _ _ _=>by kernel_rfl
theorem ZwE:Zj Tryz.prog 105 (Zrn YO):=okF (Zvx YZ Y5 Yo Zk Yn Xy) Tryz.func105 Zg (Zm _ (.cons ZsA (.cons ZqN (.cons Zv7 (.cons ZsG (.cons Zv6 (.cons ZwF .nil)))))) .nil .nil .nil (Zn _))
abbrev Zrm (f:Znv):Zd:=⟨[.one (.P),.agg [.I .i64,.S,.S,.S,.B,.I .i64,.L]],[.one (.I .i64)],fun t K _ h=>f t.1 t.2.1 (fun r0 h=>K (r0,()) h) h⟩
abbrev ZyD (f136:Znw):Cfg:=Zv Tryz.prog [(105,Zrn f136)] 9 [] [] [] Zw
theorem Zvw (f136:Znw):Zx (ZyD f136) Tryz.f52 (.leaf) (Zrm (Zcl f136)):=fun _ _ _ _=>by kernel_rfl
theorem ZwD:Zj Tryz.prog 52 (Zrm Zab):=okF (Zvw YO) Tryz.func52 Zg (Zm _ (.cons ZwE .nil) .nil .nil .nil (Zn _))
abbrev Zrl (f:Znu):Zd:=⟨[.one (.P),.one (.I .i64)],[.one (.B),.one (.B),.one (.I .i64)],fun t K _ h=>f t.1 t.2.1 (fun r0 r1 r2 h=>K (r0,r1,r2,()) h) h⟩
abbrev ZyC (f116:Zho) (f117:Zj2):Cfg:=Zv Tryz.prog [(64,ZmV f116),(225,Zpw f117)] 34 [] [] [] Zw
theorem Zvv (f116:Zho) (f117:Zj2):Zx (ZyC f116 f117) Tryz.f175 (.leaf) (Zrl (Zb3 f116 f117)):=fun _ _ _ _=>by kernel_rfl
theorem ZwC:Zj Tryz.prog 175 (Zrl Zas):=okF (Zvv Yw YS) Tryz.func175 Zg (Zm _ (.cons ZqO (.cons ZsH .nil)) .nil .nil .nil (Zn _))
abbrev Zrk (f:Znt):Zd:=⟨[.one (.P),.one (.P)],[],fun t K _ h=>f t.1 t.2.1 (fun h=>K (()) h) h⟩
abbrev ZyB (f138:Znu):Cfg:=Zv Tryz.prog [(175,Zrl f138)] 29 [] [] [] Zw
theorem Zvu (f138:Znu):Zx (ZyB f138) Tryz.f174 (.seq (.order (.take 0 (.take 1 (.take 2 (.take 3 (.take 4 (.take 5 (.take 6 (.take 7 (.take 8 (.take 9 (.take 10 (.take 11 (.take 12 (.take 13 (.take 14 .done)))))))))))))))) (.seq (.leaf) (.cond (.order (.take 5 (.take 0 (.take 1 (.take 2 (.take 3 (.take 4 (.take 6 (.take 7 (.take 8 (.take 9 (.take 10 (.take 11 .done))))))))))))) (.leaf)))) (Zrk (ZbY f138)):=fun _ _ _ _=>by kernel_rfl
theorem ZwB:Zj Tryz.prog 174 (Zrk Zap):=okF (Zvu Zas) Tryz.func174 Zg (Zm _ (.cons ZwC .nil) .nil .nil .nil (Zn _))
abbrev Zrj (f:Znr):Zd:=⟨[.one (.P),.one (.I .i64),.one (.L)],[.one (.I .i64)],fun t K _ h=>f t.1 t.2.1 t.2.2.1 (fun r0 h=>K (r0,()) h) h⟩
abbrev ZyA (f129:Zhm) (f133:Zhl):Cfg:=Zv Tryz.prog [(116,ZmT f129),(118,ZmS f133)] 51 [] [] [] Zw
theorem Zvt (f129:Zhm) (f133:Zhl):Zx (ZyA f129 f133) Tryz.f109 (.seq (.leaf) (.seq (.leaf) (.seq (.leaf) (.seq (.leaf) (.seq (.seq (.leaf) (.block (.loop [8,28] [.one (.L),.one (.I .i64)] [(10,10),(29,37)] (.leaf)))) (.leaf)))))) (Zrj (ZcV f129 f133)):=fun _ _ _ _=>by kernel_rfl
theorem Zwz:Zj Tryz.prog 109 (Zrj Zaw):=okF (Zvt Yt YK) Tryz.func109 Zg (Zm _ (.cons ZqM (.cons ZqL .nil)) .nil .nil .nil (Zn _))
abbrev Zri (f:Znq):Zd:=⟨[.one (.P),.one (.P)],[.one (.I .i64)],fun t K _ h=>f t.1 t.2.1 (fun r0 h=>K (r0,()) h) h⟩
abbrev Zyz (f140:Znr):Cfg:=Zv Tryz.prog [(109,Zrj f140)] 11 [] [] [] Zw
theorem Zvs (f140:Znr):Zx (Zyz f140) Tryz.f108 (.leaf) (Zri (ZbT f140)):=fun _ _ _ _=>by kernel_rfl
theorem Zwy:Zj Tryz.prog 108 (Zri XP):=okF (Zvs Zaw) Tryz.func108 Zg (Zm _ (.cons Zwz .nil) .nil .nil .nil (Zn _))
abbrev Zrh (f:Znp):Zd:=⟨[.one (.P),.agg [.I .i64,.S,.S,.S,.B,.I .i64,.L],.one (.B),.clo 108 [.P]],[.one (.I .i64)],fun t K _ h=>f t.1 t.2.1 t.2.2.1 t.2.2.2.1 (fun r0 h=>K (r0,()) h) h⟩
abbrev Zyy (f59:ZjV) (f123:Zhn) (f63:ZmZ) (f126:Zj1) (f65:ZmY) (f141:Znq):Cfg:=Zv Tryz.prog [(58,ZqR f59),(59,ZmU f123),(156,ZsN f63),(60,Zpv f126),(157,ZsM f65),(108,Zri f141)] 93 [] [] [] Zw
theorem Zvr (f59:ZjV) (f123:Zhn) (f63:ZmZ) (f126:Zj1) (f65:ZmY) (f141:Znq):Zx (Zyy f59 f123 f63 f126 f65 f141) Tryz.f105 (.seq (.leaf) (.seq (.leaf) (.seq (.leaf) (.seq (.block (.seq (.leaf) (.cond (.leaf) (.seq (.leaf) (.cond (.leaf) (.seq (.leaf) (.cond (.leaf) (.seq (.order (.take 3 (.take 0 (.take 1 (.take 2 (.take 5 (.take 6 (.take 7 (.take 8 (.take 9 (.take 10 (.take 11 (.take 4 (.take 12 (.take 13 .done))))))))))))))) (.leaf))))))))) (.cut [] [] [(8,8),(61,66)] (.leaf) (.seq (.seq (.leaf) (.block (.loop [69] [.one (.I .i64)] [(12,12),(70,87)] (.seq (.leaf) (.seq (.leaf) (.seq (.block (.seq (.leaf) (.seq (.order (.take 0 (.take 1 (.take 2 (.take 3 (.take 4 .done)))))) (.order (.take 0 (.take 1 (.take 2 (.take 3 (.take 4 (.take 5 (.take 6 (.take 7 (.take 8 .done))))))))))))) (.leaf))))))) (.leaf))))))) (Zrh (Yv f59 f123 f63 f126 f65 f141)):=fun _ _ _ _=>by kernel_rfl
theorem Zwx:Zj Tryz.prog 105 (Zrh YW):=okF (Zvr YZ Y5 Yo Zk Yn XP) Tryz.func105 Zg (Zm _ (.cons ZsA (.cons ZqN (.cons Zv7 (.cons ZsG (.cons Zv6 (.cons Zwy .nil)))))) .nil .nil .nil (Zn _))
abbrev Zrg (f:Zno):Zd:=⟨[.one (.P),.agg [.I .i64,.S,.S,.S,.B,.I .i64,.L]],[.one (.I .i64)],fun t K _ h=>f t.1 t.2.1 (fun r0 h=>K (r0,()) h) h⟩
abbrev Zyx (f142:Znp):Cfg:=Zv Tryz.prog [(105,Zrh f142)] 9 [] [] [] Zw
theorem Zvq (f142:Znp):Zx (Zyx f142) Tryz.f53 (.leaf) (Zrg (ZcR f142)):=fun _ _ _ _=>by kernel_rfl
theorem Zww:Zj Tryz.prog 53 (Zrg Zau):=okF (Zvq YW) Tryz.func53 Zg (Zm _ (.cons Zwx .nil) .nil .nil .nil (Zn _))
abbrev Zrf (f:Znn):Zd:=⟨[.one (.P),.agg [.I .i64,.S,.S,.S,.B,.I .i64,.L],.one (.B)],[.one (.I .i64),.agg [.I .u8,.I .i64,.I .i64],.one (.I .i64)],fun t K _ h=>f t.1 t.2.1 t.2.2.1 (fun r0 r1 r2 h=>K (r0,r1,r2,()) h) h⟩
abbrev Zyw (f67:Ztj) (f122:ZnD) (f137:Znv) (f139:Znt) (f143:Zno):Cfg:=Zv Tryz.prog [(50,Zxn f67),(51,Zru f122),(52,Zrm f137),(174,Zrk f139),(53,Zrg f143)] 116 [] [] [] Zw [(174,[.P,.P])]
theorem Zvp (f67:Ztj) (f122:ZnD) (f137:Znv) (f139:Znt) (f143:Zno):Zx (Zyw f67 f122 f137 f139 f143) Tryz.f24 (.seq (.leaf) (.seq (.leaf) (.seq (.seq (.order (.take 0 (.take 1 (.take 2 (.take 3 (.take 4 (.take 5 .done))))))) (.leaf)) (.seq (.leaf) (.seq (.order (.take 0 (.take 1 (.take 2 (.take 4 (.take 3 (.take 5 (.take 6 (.take 7 .done))))))))) (.seq (.seq (.leaf) (.seq (.leaf) (.cond (.seq (.order (.take 0 (.take 1 (.take 2 (.take 3 (.take 4 (.take 5 (.take 6 .done)))))))) (.seq (.order (.take 1 (.take 0 (.take 2 (.take 3 .done))))) (.leaf))) (.leaf)))) (.seq (.seq (.leaf) (.block (.loop [60] [.one (.I .i64)] [(14,14),(61,66)] (.leaf)))) (.seq (.order (.take 0 (.take 1 (.take 2 (.take 3 (.take 4 (.take 5 (.take 6 .done)))))))) (.seq (.leaf) (.seq (.leaf) (.seq (.leaf) (.seq (.leaf) (.seq (.order (.take 0 (.take 1 (.take 2 (.take 3 (.take 5 (.take 7 (.take 8 (.take 9 (.take 4 (.take 6 (.take 10 (.take 11 (.take 12 .done)))))))))))))) (.seq (.order (.take 0 (.take 1 (.take 2 (.take 3 (.take 6 (.take 4 (.take 5 (.take 7 (.take 8 .done)))))))))) (.leaf))))))))))))))) (Zrf (Zbg f67 f122 f137 f139 f143)):=fun _ _ _ _=>by kernel_rfl
theorem Zwv:Zj Tryz.prog 24 (Zrf Xp):=okF (Zvp Xn Zaf Zab Zap Zau) Tryz.func24 Zg (Zm _ (.cons ZBw (.cons ZwL (.cons ZwD (.cons ZwB (.cons Zww .nil))))) .nil .nil .nil (Zn _))
abbrev Zpr (f:ZjX):Zd:=⟨[.one (.P),.agg [.I .i64,.S,.S,.S,.B,.I .i64,.L]],[.one (.I .i64),.agg [.I .u8,.I .i64,.I .i64],.one (.I .i64)],fun t K _ h=>f t.1 t.2.1 (fun r0 r1 r2 h=>K (r0,r1,r2,()) h) h⟩
abbrev Zyv (f144:Znn):Cfg:=Zv Tryz.prog [(24,Zrf f144)] 13 [] [] [] Zw
theorem Zvo (f144:Znn):Zx (Zyv f144) Tryz.f11 (.leaf) (Zpr (Zbf f144)):=fun _ _ _ _=>by kernel_rfl
theorem ZsC:Zj Tryz.prog 11 (Zpr YF):=okF (Zvo Xp) Tryz.func11 Zg (Zm _ (.cons Zwv .nil) .nil .nil .nil (Zn _))
abbrev Zpq (f:ZjW):Zd:=⟨[.one (.I .i64),.one (.P)],[.one (.B)],fun t K _ h=>f t.1 t.2.1 (fun r0 h=>K (r0,()) h) h⟩
abbrev Zyu:Cfg:=Zv Tryz.prog [] 12 [] [] [] Zw
theorem Zvn:Zx (Zyu) Tryz.f57 (.leaf) (Zpq ZaZ):=fun _ _ _ _=>by kernel_rfl
theorem ZsB:Zj Tryz.prog 57 (Zpq YR):=okF (Zvn) Tryz.func57 Zg (Zm _ .nil .nil .nil .nil (Zn _))
abbrev Zre (f:Znm):Zd:=⟨[.one (.L),.clo 57 [.P]],[.one (.I .i64)],fun t K _ h=>f t.1 t.2.1 (fun r0 h=>K (r0,()) h) h⟩
abbrev Zyt (f148:ZjW):Cfg:=Zv Tryz.prog [(57,Zpq f148)] 19 [] [] [] Zw
theorem Zvm (f148:ZjW):Zx (Zyt f148) Tryz.f110 (.seq (.leaf) (.seq (.seq (.leaf) (.block (.loop [8] [.one (.I .i64)] [(4,5),(9,18)] (.leaf)))) (.leaf))) (Zre (Yh f148)):=fun _ _ _ _=>by kernel_rfl
theorem Zwu:Zj Tryz.prog 110 (Zre ZU):=okF (Zvm YR) Tryz.func110 Zg (Zm _ (.cons ZsB .nil) .nil .nil .nil (Zn _))
abbrev Zrd (f:Znl):Zd:=⟨[.one (.L),.clo 57 [.P]],[.one (.L)],fun t K _ h=>f t.1 t.2.1 (fun r0 h=>K (r0,()) h) h⟩
abbrev Zys (f149:Znm) (f148:ZjW):Cfg:=Zv Tryz.prog [(110,Zre f149),(57,Zpq f148)] 42 [] [] [] Zw
theorem Zvl (f149:Znm) (f148:ZjW):Zx (Zys f149 f148) Tryz.f54 (.seq (.leaf) (.seq (.leaf) (.seq (.leaf) (.seq (.seq (.leaf) (.block (.loop [5,6] [.one (.I .i64),.one (.I .i64)] [(7,7),(16,35)] (.leaf)))) (.leaf))))) (Zrd (Yf f149 f148)):=fun _ _ _ _=>by kernel_rfl
theorem Zwt:Zj Tryz.prog 54 (Zrd ZT):=okF (Zvl ZU YR) Tryz.func54 Zg (Zm _ (.cons Zwu (.cons ZsB .nil)) .nil .nil .nil (Zn _))
abbrev Zrc (f:Znk):Zd:=⟨[.one (.P)],[.one (.L)],fun t K _ h=>f t.1 (fun r0 h=>K (r0,()) h) h⟩
abbrev Zyr (f146:ZrJ) (f147:ZrI) (f150:Znl):Cfg:=Zv Tryz.prog [(56,⟨[.one (.M)],[.one (.V)],fun t K _ h=>f146 t.1 (fun r0 h=>K (r0,()) h) h⟩),(55,⟨[.one (.V)],[.one (.L)],fun t K _ h=>f147 t.1 (fun r0 h=>K (r0,()) h) h⟩),(54,Zrd f150)] 14 [] [] [] Zw
theorem Zvk (f146:ZrJ) (f147:ZrI) (f150:Znl):Zx (Zyr f146 f147 f150) Tryz.f25 (.leaf) (Zrc (Zbu f146 f147 f150)):=fun _ _ _ _=>by kernel_rfl
theorem Zws:Zj Tryz.prog 25 (Zrc XB):=okF (Zvk ZV Za6 ZT) Tryz.func25 Zg (Zm _ (.cons XK (.cons ZeU (.cons Zwt .nil))) .nil .nil .nil (Zn _))
abbrev Zrb (f:Znj):Zd:=⟨[],[.one (.B)],fun _ K _ h=>f (fun r0 h=>K (r0,()) h) h⟩
abbrev Zyq (f2:zT2) (f58:Zqn) (f145:ZjX) (f151:Znk):Cfg:=Zv Tryz.prog [(9,zk2 f2),(10,ZuM f58),(11,Zpr f145),(25,Zrc f151)] 75 [] [] [] Zw
theorem Zvj (f2:zT2) (f58:Zqn) (f145:ZjX) (f151:Znk):Zx (Zyq f2 f58 f145 f151) Tryz.f12 (.leaf) (Zrb (Zbb f2 f58 f145 f151)):=fun _ _ _ _=>by kernel_rfl
theorem Zwr:Zj Tryz.prog 12 (Zrb Xl):=okF (Zvj Zbp YP YF XB) Tryz.func12 Zg (Zm _ (.cons zo2 (.cons Zzx (.cons ZsC (.cons Zws .nil)))) .nil .nil .nil (Zn _))
abbrev Zra (f:Zni):Zd:=⟨[.agg [.I .u8,.S,.S,.S],.one (.P)],[.one (.B)],fun t K _ h=>f t.1 t.2.1 (fun r0 h=>K (r0,()) h) h⟩
abbrev Zyp (f89:ZjT):Cfg:=Zv Tryz.prog [(32,ZqP f89)] 13 [] [] [] Zw
theorem Zvi (f89:ZjT):Zx (Zyp f89) Tryz.f61 (.seq (.leaf) (.seq (.order (.take 0 (.take 1 (.take 2 (.take 3 (.take 4 (.take 5 (.take 6 (.take 7 (.take 8 (.take 9 .done))))))))))) (.leaf))) (Zra (ZbU f89)):=fun _ _ _ _=>by kernel_rfl
theorem Zwq:Zj Tryz.prog 61 (Zra XQ):=okF (Zvi ZL) Tryz.func61 Zg (Zm _ (.cons Zsy .nil) .nil .nil .nil (Zn _))
abbrev Zq9 (f:Znh):Zd:=⟨[.one (.L),.clo 61 [.P]],[.one (.I .i64)],fun t K _ h=>f t.1 t.2.1 (fun r0 h=>K (r0,()) h) h⟩
abbrev Zyo (f154:Zni):Cfg:=Zv Tryz.prog [(61,Zra f154)] 19 [] [] [] Zw
theorem Zvh (f154:Zni):Zx (Zyo f154) Tryz.f115 (.seq (.leaf) (.seq (.seq (.leaf) (.block (.loop [8] [.one (.I .i64)] [(4,5),(9,18)] (.leaf)))) (.leaf))) (Zq9 (Z6 f154)):=fun _ _ _ _=>by kernel_rfl
theorem Zwp:Zj Tryz.prog 115 (Zq9 ZJ):=okF (Zvh XQ) Tryz.func115 Zg (Zm _ (.cons Zwq .nil) .nil .nil .nil (Zn _))
abbrev Zq8 (f:Zng):Zd:=⟨[.one (.L),.clo 61 [.P]],[.one (.B)],fun t K _ h=>f t.1 t.2.1 (fun r0 h=>K (r0,()) h) h⟩
abbrev Zyn (f155:Znh):Cfg:=Zv Tryz.prog [(115,Zq9 f155)] 9 [] [] [] Zw
theorem Zvg (f155:Znh):Zx (Zyn f155) Tryz.f60 (.leaf) (Zq8 (ZZ f155)):=fun _ _ _ _=>by kernel_rfl
theorem Zwo:Zj Tryz.prog 60 (Zq8 Zt):=okF (Zvg ZJ) Tryz.func60 Zg (Zm _ (.cons Zwp .nil) .nil .nil .nil (Zn _))
abbrev Zq7 (f:Znf):Zd:=⟨[.one (.P),.one (.I .i64),.one (.I .i64),.one (.B)],[.one (.I .i64)],fun t K _ h=>f t.1 t.2.1 t.2.2.1 t.2.2.2.1 (fun r0 h=>K (r0,()) h) h⟩
abbrev Zym (f129:Zhm) (f127:Zj0) (f133:Zhl):Cfg:=Zv Tryz.prog [(116,ZmT f129),(117,Zpu f127),(118,ZmS f133)] 52 [] [] [] Zw
theorem Zvf (f129:Zhm) (f127:Zj0) (f133:Zhl):Zx (Zym f129 f127 f133) Tryz.f62 (.seq (.leaf) (.seq (.leaf) (.seq (.leaf) (.cut [] [] [(38,39)] (.leaf) (.leaf))))) (Zq7 (ZcX f129 f127 f133)):=fun _ _ _ _=>by kernel_rfl
theorem Zwn:Zj Tryz.prog 62 (Zq7 Zay):=okF (Zvf Yt Zao YK) Tryz.func62 Zg (Zm _ (.cons ZqM (.cons ZsF (.cons ZqL .nil))) .nil .nil .nil (Zn _))
abbrev Zq6 (f:Zne):Zd:=⟨[.one (.P),.agg [.I .i64,.S,.S,.S,.B,.I .i64,.L],.one (.I .i64),.one (.B)],[.one (.I .i64)],fun t K _ h=>f t.1 t.2.1 t.2.2.1 t.2.2.2.1 (fun r0 h=>K (r0,()) h) h⟩
abbrev Zyl (f59:ZjV) (f123:Zhn) (f156:Zng) (f157:Znf):Cfg:=Zv Tryz.prog [(58,ZqR f59),(59,ZmU f123),(60,Zq8 f156),(62,Zq7 f157)] 70 [] [] [] Zw
theorem Zve (f59:ZjV) (f123:Zhn) (f156:Zng) (f157:Znf):Zx (Zyl f59 f123 f156 f157) Tryz.f26 (.seq (.leaf) (.seq (.leaf) (.seq (.leaf) (.seq (.leaf) (.seq (.seq (.leaf) (.block (.loop [48] [.one (.I .i64)] [(12,12),(49,64)] (.seq (.leaf) (.seq (.leaf) (.seq (.block (.seq (.leaf) (.order (.take 7 (.take 9 (.take 10 (.take 0 (.take 1 (.take 2 (.take 3 (.take 4 (.take 5 (.take 8 (.take 6 (.take 11 .done))))))))))))))) (.leaf))))))) (.leaf)))))) (Zq6 (ZcT f59 f123 f156 f157)):=fun _ _ _ _=>by kernel_rfl
theorem Zwm:Zj Tryz.prog 26 (Zq6 Zav):=okF (Zve YZ Y5 Zt Zay) Tryz.func26 Zg (Zm _ (.cons ZsA (.cons ZqN (.cons Zwo (.cons Zwn .nil)))) .nil .nil .nil (Zn _))
abbrev Zq5 (f:Znd):Zd:=⟨[.one (.L),.one (.I .i64)],[.one (.I .i64)],fun t K _ h=>f t.1 t.2.1 (fun r0 h=>K (r0,()) h) h⟩
abbrev Zyk:Cfg:=Zv Tryz.prog [] 19 [] [] [] Zw
theorem Zvd:Zx (Zyk) Tryz.f71 (.seq (.leaf) (.seq (.seq (.leaf) (.block (.loop [8] [.one (.I .i64)] [(4,5),(9,18)] (.leaf)))) (.leaf))) (Zq5 ZbZ):=fun _ _ _ _=>by kernel_rfl
theorem Zwl:Zj Tryz.prog 71 (Zq5 Zaq):=okF (Zvd) Tryz.func71 Zg (Zm _ .nil .nil .nil .nil (Zn _))
abbrev Zq4 (f:Znc):Zd:=⟨[.one (.L),.one (.I .i64)],[.one (.B)],fun t K _ h=>f t.1 t.2.1 (fun r0 h=>K (r0,()) h) h⟩
abbrev Zyj (f159:Znd):Cfg:=Zv Tryz.prog [(71,Zq5 f159)] 9 [] [] [] Zw
theorem Zvc (f159:Znd):Zx (Zyj f159) Tryz.f29 (.leaf) (Zq4 (Za3 f159)):=fun _ _ _ _=>by kernel_rfl
theorem Zwk:Zj Tryz.prog 29 (Zq4 XL):=okF (Zvc Zaq) Tryz.func29 Zg (Zm _ (.cons Zwl .nil) .nil .nil .nil (Zn _))
abbrev Zq3 (f:Znb):Zd:=⟨[.one (.P),.one (.I .i64),.one (.B)],[.one (.B)],fun t K _ h=>f t.1 t.2.1 t.2.2.1 (fun r0 h=>K (r0,()) h) h⟩
abbrev Zyi:Cfg:=Zv Tryz.prog [] 21 [] [] [] Zw
theorem Zvb:Zx (Zyi) Tryz.f65 (.leaf) (Zq3 Zb1):=fun _ _ _ _=>by kernel_rfl
theorem Zwj:Zj Tryz.prog 65 (Zq3 Zar):=okF (Zvb) Tryz.func65 Zg (Zm _ .nil .nil .nil .nil (Zn _))
abbrev Zq2 (f:Zna):Zd:=⟨[.one (.P),.one (.I .i64)],[],fun t K _ h=>f t.1 t.2.1 (fun h=>K (()) h) h⟩
abbrev Zyh:Cfg:=Zv Tryz.prog [] 25 [] [] [] Zw
theorem Zva:Zx (Zyh) Tryz.f66 (.leaf) (Zq2 Zca):=fun _ _ _ _=>by kernel_rfl
theorem Zwi:Zj Tryz.prog 66 (Zq2 ZaK):=okF (Zva) Tryz.func66 Zg (Zm _ .nil .nil .nil .nil (Zn _))
abbrev Zq1 (f:Zm9):Zd:=⟨[.one (.I .i64)],[.one (.I .u64)],fun t K _ h=>f t.1 (fun r0 h=>K (r0,()) h) h⟩
abbrev Zyg:Cfg:=Zv Tryz.prog [] 10 [] [] [] Zw
theorem Zu9:Zx (Zyg) Tryz.f238 (.leaf) (Zq1 ZiV):=fun _ _ _ _=>by kernel_rfl
theorem Zwh:Zj Tryz.prog 238 (Zq1 ZgJ):=okF (Zu9) Tryz.func238 Zg (Zm _ .nil .nil .nil .nil (Zn _))
abbrev Zq0 (f:Zm8):Zd:=⟨[.one (.I .u64),.one (.I .u64)],[.one (.I .u64),.one (.I .u64)],fun t K _ h=>f t.1 t.2.1 (fun r0 r1 h=>K (r0,r1,()) h) h⟩
abbrev Zyf:Cfg:=Zv Tryz.prog [] 51 [] [] [] Zw
theorem Zu8:Zx (Zyf) Tryz.f237 (.leaf) (Zq0 Zd7):=fun _ _ _ _=>by kernel_rfl
theorem Zwg:Zj Tryz.prog 237 (Zq0 Zcg):=okF (Zu8) Tryz.func237 Zg (Zm _ .nil .nil .nil .nil (Zn _))
abbrev ZqZ (f:Zm7):Zd:=⟨[.one (.I .i64),.one (.I .i64)],[.agg [.I .u64,.I .u64,.B]],fun t K _ h=>f t.1 t.2.1 (fun r0 h=>K (r0,()) h) h⟩
abbrev Zye (f163:Zm9) (f164:Zm8):Cfg:=Zv Tryz.prog [(238,Zq1 f163),(237,Zq0 f164)] 30 [] [] [] Zw
theorem Zu7 (f163:Zm9) (f164:Zm8):Zx (Zye f163 f164) Tryz.f184 (.leaf) (ZqZ (Zga f163 f164)):=fun _ _ _ _=>by kernel_rfl
theorem Zwf:Zj Tryz.prog 184 (ZqZ Zei):=okF (Zu7 ZgJ Zcg) Tryz.func184 Zg (Zm _ (.cons Zwh (.cons Zwg .nil)) .nil .nil .nil (Zn _))
abbrev ZqY (f:Zm6):Zd:=⟨[.agg [.I .u64,.I .u64,.B]],[.one (.I .i64),.one (.B)],fun t K _ h=>f t.1 (fun r0 r1 h=>K (r0,r1,()) h) h⟩
abbrev Zyd:Cfg:=Zv Tryz.prog [] 36 [] [] [] Zw
theorem Zu6:Zx (Zyd) Tryz.f185 (.leaf) (ZqY Zd6):=fun _ _ _ _=>by kernel_rfl
theorem Zwe:Zj Tryz.prog 185 (ZqY Zcf):=okF (Zu6) Tryz.func185 Zg (Zm _ .nil .nil .nil .nil (Zn _))
abbrev ZqX (f:Zm5):Zd:=⟨[.one (.B)],[.one (.I .i64)],fun t K _ h=>f t.1 (fun r0 h=>K (r0,()) h) h⟩
abbrev Zyc:Cfg:=Zv Tryz.prog [] 4 [] [] [] Zw
theorem Zu5:Zx (Zyc) Tryz.f186 (.leaf) (ZqX ZiW):=fun _ _ _ _=>by kernel_rfl
theorem Zwd:Zj Tryz.prog 186 (ZqX ZgK):=okF (Zu5) Tryz.func186 Zg (Zm _ .nil .nil .nil .nil (Zn _))
abbrev ZqW (f:Zm4):Zd:=⟨[.one (.I .i64),.one (.I .i64)],[.one (.I .i64)],fun t K _ h=>f t.1 t.2.1 (fun r0 h=>K (r0,()) h) h⟩
abbrev Zyb (f165:Zm7) (f166:Zm6) (f167:Zm5):Cfg:=Zv Tryz.prog [(184,ZqZ f165),(185,ZqY f166),(186,ZqX f167)] 21 [] [] [] Zw
theorem Zu4 (f165:Zm7) (f166:Zm6) (f167:Zm5):Zx (Zyb f165 f166 f167) Tryz.f126 (.leaf) (ZqW (ZhY f165 f166 f167)):=fun _ _ _ _=>by kernel_rfl
theorem Zwc:Zj Tryz.prog 126 (ZqW ZfI):=okF (Zu4 Zei Zcf ZgK) Tryz.func126 Zg (Zm _ (.cons Zwf (.cons Zwe (.cons Zwd .nil))) .nil .nil .nil (Zn _))
abbrev ZqV (f:Zm3):Zd:=⟨[.one (.P),.agg [.I .i64,.I .i64,.I .i64,.I .i64,.I .i64,.I .i64]],[.one (.B)],fun t K _ h=>f t.1 t.2.1 (fun r0 h=>K (r0,()) h) h⟩
abbrev Zya (f168:Zm4):Cfg:=Zv Tryz.prog [(126,ZqW f168)] 56 [] [] [] Zw
theorem Zu3 (f168:Zm4):Zx (Zya f168) Tryz.f70 (.leaf) (ZqV (ZbB f168)):=fun _ _ _ _=>by kernel_rfl
theorem Zwb:Zj Tryz.prog 70 (ZqV Zak):=okF (Zu3 ZfI) Tryz.func70 Zg (Zm _ (.cons Zwc .nil) .nil .nil .nil (Zn _))
abbrev ZqU (f:Zm2):Zd:=⟨[.one (.P),.one (.I .i64),.one (.I .i64),.one (.B),.one (.B)],[.one (.I .i64)],fun t K _ h=>f t.1 t.2.1 t.2.2.1 t.2.2.2.1 t.2.2.2.2.1 (fun r0 h=>K (r0,()) h) h⟩
abbrev Zx9 (f116:Zho) (f161:Znb) (f162:Zna) (f42:Zqo) (f132:ZjY) (f83:Zqj) (f169:Zm3):Cfg:=Zv Tryz.prog [(64,ZmV f116),(65,Zq3 f161),(66,Zq2 f162),(67,ZuN f42),(68,Zps f132),(69,ZuJ f83),(70,ZqV f169)] 102 [] [] [] Zw
theorem Zu2 (f116:Zho) (f161:Znb) (f162:Zna) (f42:Zqo) (f132:ZjY) (f83:Zqj) (f169:Zm3):Zx (Zx9 f116 f161 f162 f42 f132 f83 f169) Tryz.f28 (.seq (.leaf) (.cut [] [] [(10,11),(16,46)] (.leaf) (.seq (.leaf) (.seq (.leaf) (.seq (.block (.cut [55] [.one (.B)] [(56,59)] (.leaf) (.cond (.leaf) (.seq (.leaf) (.cond (.leaf) (.seq (.leaf) (.cond (.seq (.leaf) (.cut [] [] [(77,78)] (.leaf) (.seq (.order (.take 0 (.take 1 (.take 2 (.take 4 (.take 3 (.take 5 (.take 6 (.take 7 .done))))))))) (.leaf)))) (.leaf)))))))) (.leaf)))))) (ZqU (Zcd f116 f161 f162 f42 f132 f83 f169)):=fun _ _ _ _=>by kernel_rfl
theorem Zwa:Zj Tryz.prog 28 (ZqU ZaM):=okF (Zu2 Yw Zar ZaK Y3 YN YM Zak) Tryz.func28 Zg (Zm _ (.cons ZqO (.cons Zwj (.cons Zwi (.cons Zzy (.cons ZsD (.cons Zzt (.cons Zwb .nil))))))) .nil .nil .nil (Zn _))
abbrev ZqT (f:Zm1):Zd:=⟨[.one (.P),.one (.I .i64),.one (.I .i64),.one (.B)],[.one (.I .i64)],fun t K _ h=>f t.1 t.2.1 t.2.2.1 t.2.2.2.1 (fun r0 h=>K (r0,()) h) h⟩
abbrev Zx8 (f158:Zne) (f69:ZjU) (f160:Znc) (f170:Zm2):Cfg:=Zv Tryz.prog [(26,Zq6 f158),(27,ZqQ f69),(29,Zq4 f160),(28,ZqU f170)] 122 [] [] [] Zw
theorem Zu1 (f158:Zne) (f69:ZjU) (f160:Znc) (f170:Zm2):Zx (Zx8 f158 f69 f160 f170) Tryz.f13 (.seq (.leaf) (.seq (.leaf) (.seq (.leaf) (.seq (.leaf) (.seq (.leaf) (.seq (.leaf) (.seq (.leaf) (.seq (.leaf) (.seq (.leaf) (.seq (.order (.take 0 (.take 1 (.take 2 (.take 3 (.take 5 (.take 7 (.take 8 (.take 4 (.take 6 (.take 9 .done))))))))))) (.seq (.seq (.order (.take 0 (.take 1 (.take 2 (.take 3 (.take 5 (.take 6 (.take 10 (.take 4 (.take 7 (.take 8 (.take 9 .done)))))))))))) (.block (.loop [97] [.one (.I .i64)] [(13,14),(98,121)] (.seq (.leaf) (.seq (.leaf) (.seq (.block (.seq (.leaf) (.seq (.leaf) (.order (.take 0 (.take 2 (.take 3 (.take 4 (.take 5 (.take 7 (.take 1 (.take 6 (.take 8 (.take 9 (.take 10 .done))))))))))))))) (.leaf))))))) (.leaf)))))))))))) (ZqT (Zbw f158 f69 f160 f170)):=fun _ _ _ _=>by kernel_rfl
theorem Zv9:Zj Tryz.prog 13 (ZqT XC):=okF (Zu1 Zav Xv XL ZaM) Tryz.func13 Zg (Zm _ (.cons Zwm (.cons Zsz (.cons Zwk (.cons Zwa .nil)))) .nil .nil .nil (Zn _))
abbrev ZqS (f:Zm0):Zd:=⟨[.one (.P),.one (.S)],[.one (.I .i64)],fun t K _ h=>f t.1 t.2.1 (fun r0 h=>K (r0,()) h) h⟩
abbrev Zx7 (f104:Zj3) (f76:ZmX) (f89:ZjT):Cfg:=Zv Tryz.prog [(31,Zpx f104),(30,ZsL f76),(32,ZqP f89)] 16 [] [] [] Zw
theorem Zu0 (f104:Zj3) (f76:ZmX) (f89:ZjT):Zx (Zx7 f104 f76 f89) Tryz.f14 (.seq (.leaf) (.seq (.leaf) (.seq (.order (.take 0 (.take 1 (.take 2 (.take 3 (.take 5 (.take 4 (.take 6 (.take 7 (.take 8 (.take 9 .done))))))))))) (.leaf)))) (ZqS (Za0 f104 f76 f89)):=fun _ _ _ _=>by kernel_rfl
theorem Zv8:Zj Tryz.prog 14 (ZqS Y8):=okF (Zu0 XA YJ ZL) Tryz.func14 Zg (Zm _ (.cons ZsI (.cons Zv5 (.cons Zsy .nil))) .nil .nil .nil (Zn _))
abbrev ZsO (f:ZtY):Zd:=⟨[.one (.I .u8),.one (.L)],[.one (.B)],fun t K _ h=>f t.1 t.2.1 (fun r0 h=>K (r0,()) h) h⟩
abbrev Zx6 (f2:zT2) (f58:Zqn) (f145:ZjX) (f171:Zm1) (f172:Zm0) (f152:Znj):Cfg:=Zv Tryz.prog [(9,zk2 f2),(10,ZuM f58),(11,Zpr f145),(13,ZqT f171),(14,ZqS f172),(12,Zrb f152)] 117 [] [] [] Zw
theorem ZuZ (f2:zT2) (f58:Zqn) (f145:ZjX) (f171:Zm1) (f172:Zm0) (f152:Znj):Zx (Zx6 f2 f58 f145 f171 f172 f152) Tryz.f5 (.seq (.leaf) (.seq (.leaf) (.seq (.leaf) (.seq (.leaf) (.seq (.leaf) (.seq (.leaf) (.seq (.seq (.leaf) (.block (.loop [7,9] [.one (.I .i64),.one (.I .i64)] [(4,4),(10,12),(28,115)] (.seq (.leaf) (.seq (.block (.cut [7] [.one (.I .i64)] [(10,12),(38,105)] (.seq (.leaf) (.block (.seq (.leaf) (.cond (.leaf) (.seq (.leaf) (.cond (.seq (.order (.take 0 (.take 1 (.take 2 (.take 3 (.take 4 (.take 6 (.take 7 (.take 8 (.take 9 (.take 11 (.take 12 (.take 13 (.take 14 (.take 5 (.take 10 (.take 15 (.take 16 (.take 17 (.take 18 (.take 19 (.take 20 (.take 21 (.take 22 (.take 23 (.take 24 (.take 25 (.take 26 .done)))))))))))))))))))))))))))) (.leaf)) (.leaf))))))) (.leaf))) (.leaf)))))) (.leaf)))))))) (ZsO (Xt f2 f58 f145 f171 f172 f152)):=fun _ _ _ _=>by kernel_rfl
theorem ZcO:Zj Tryz.prog 5 (ZsO YU):=okF (ZuZ Zbp YP YF XC Y8 Xl) Tryz.func5 Zg (Zm _ (.cons zo2 (.cons Zzx (.cons ZsC (.cons Zv9 (.cons Zv8 (.cons Zwr .nil)))))) .nil .nil .nil (Zn _))
end
end Go.Proofs.YthbfgkphlmlihaaGreat
