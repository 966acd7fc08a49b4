/- That each function does what its model says. Written by a program out of the translated functions. -/
import Derived.Test.YthbfgkphlmlihaaGreatProg
import Derived.KernelRfl
import Derived.Below
import Derived.Test.YthbfgkphlmlihaaGreatRows
import Derived.Deep.Slices
import Derived.ChangeSlices
import Derived.Test.YthbfgkphlmlihaaGreatPa6
set_option linter.unusedVariables false
set_option linter.unusedSimpArgs false
namespace Go.Proofs.YthbfgkphlmlihaaGreat
open Go Go.Fw
noncomputable section
theorem Zg:Tryz.prog.follows .mixedOrders=true:=by kernel_rfl
abbrev zk0 (f:zT0):Zd:=⟨[],[.one (.P)],fun _ K _ h=>f (fun r0 h=>K (r0,()) h) h⟩
abbrev zc0:Cfg:=Zu Tryz.prog [] 3 [] [] [] Zv
theorem zr0:Zw (zc0) Tryz.f19 (.leaf) (zk0 Zcq):=fun _ _ _ _=>by kernel_rfl
theorem zo0:Zk Tryz.prog 19 (zk0 Zal):=okF (zr0) Tryz.func19 Zg (Zn _ .nil .nil .nil .nil (Zo _))
abbrev zk1 (f:zT1):Zd:=⟨[],[.one (.P)],fun _ K _ h=>f (fun r0 h=>K (r0,()) h) h⟩
abbrev zc1:Cfg:=Zu Tryz.prog [] 5 [] [] [] Zv
theorem zr1:Zw (zc1) Tryz.f20 (.leaf) (zk1 ZfZ):=fun _ _ _ _=>by kernel_rfl
theorem zo1:Zk Tryz.prog 20 (zk1 Zdp):=okF (zr1) Tryz.func20 Zg (Zn _ .nil .nil .nil .nil (Zo _))
abbrev zk2 (f:zT2):Zd:=⟨[.one (.I .i64),.one (.I .u64)],[.one (.P),.one (.I .i64)],fun t K _ h=>f t.1 t.2.1 (fun r0 r1 h=>K (r0,r1,()) h) h⟩
abbrev zc2 (f0:zT0) (f1:zT1):Cfg:=Zu Tryz.prog [(19,zk0 f0),(20,zk1 f1)] 20 [] [] [] Zv
theorem zr2 (f0:zT0) (f1:zT1):Zw (zc2 f0 f1) Tryz.f9 (.leaf) (zk2 (Ze5 f0 f1)):=fun _ _ _ _=>by kernel_rfl
theorem zo2:Zk Tryz.prog 9 (zk2 Za5):=okF (zr2 Zal Zdp) Tryz.func9 Zg (Zn _ (.cons zo0 (.cons zo1 .nil)) .nil .nil .nil (Zo _))
abbrev zk3 (f:zT3):Zd:=⟨[.agg [.L,.L,.L,.L,.L]],[.one (.L)],fun t K _ h=>f t.1 (fun r0 h=>K (r0,()) h) h⟩
abbrev zc3:Cfg:=Zu Tryz.prog [] 29 [] [] [] Zv
theorem zr3:Zw (zc3) Tryz.f80 (.leaf) (zk3 Zdc):=fun _ _ _ _=>by kernel_rfl
theorem zo3:Zk Tryz.prog 80 (zk3 ZaZ):=okF (zr3) Tryz.func80 Zg (Zn _ .nil .nil .nil .nil (Zo _))
abbrev zk4 (f:zT4):Zd:=⟨[.one (.I .i64),.one (.I .i64),.one (.I .i64)],[.one (.B)],fun t K _ h=>f t.1 t.2.1 t.2.2.1 (fun r0 h=>K (r0,()) h) h⟩
abbrev zc4:Cfg:=Zu Tryz.prog [] 15 [] [] [] Zv
theorem zr4:Zw (zc4) Tryz.f141 (.leaf) (zk4 Zdb):=fun _ _ _ _=>by kernel_rfl
theorem zo4:Zk Tryz.prog 141 (zk4 Z9):=okF (zr4) Tryz.func141 Zg (Zn _ .nil .nil .nil .nil (Zo _))
abbrev zk5 (f:zT5):Zd:=⟨[.one (.S)],[.one (.B)],fun t K _ h=>f t.1 (fun r0 h=>K (r0,()) h) h⟩
abbrev zc5 (f4:zT4):Cfg:=Zu Tryz.prog [(141,zk4 f4)] 19 [] [] [] Zv
theorem zr5 (f4:zT4):Zw (zc5 f4) Tryz.f114 (.seq (.leaf) (.seq (.seq (.leaf) (.block (.loop [6] [.one (.I .i64)] [(2,3),(7,15)] (.leaf)))) (.leaf))) (zk5 (Zdd f4)):=fun _ _ _ _=>by kernel_rfl
theorem zo5:Zk Tryz.prog 114 (zk5 YT):=okF (zr5 Z9) Tryz.func114 Zg (Zn _ (.cons zo4 .nil) .nil .nil .nil (Zo _))
abbrev zk6 (f:zT6):Zd:=⟨[.one (.S)],[.one (.B)],fun t K _ h=>f t.1 (fun r0 h=>K (r0,()) h) h⟩
abbrev zc6 (f5:zT5):Cfg:=Zu Tryz.prog [(114,zk5 f5)] 6 [] [] [] Zv
theorem zr6 (f5:zT5):Zw (zc6 f5) Tryz.f242 (.leaf) (zk6 (ZaI f5)):=fun _ _ _ _=>by kernel_rfl
theorem zo6:Zk Tryz.prog 242 (zk6 XF):=okF (zr6 YT) Tryz.func242 Zg (Zn _ (.cons zo5 .nil) .nil .nil .nil (Zo _))
abbrev zk7 (f:zT7):Zd:=⟨[.one (.L),.fn 242],[.one (.I .i64)],fun t K _ h=>f t.1 (fun r0 h=>K (r0,()) h) h⟩
abbrev zc7 (f6:zT6):Cfg:=Zu Tryz.prog [(242,zk6 f6)] 19 [] [] [] Zv
theorem zr7 (f6:zT6):Zw (zc7 f6) Tryz.f155 (.seq (.leaf) (.seq (.seq (.leaf) (.block (.loop [8] [.one (.I .i64)] [(4,5),(9,18)] (.leaf)))) (.leaf))) (zk7 (Z3 f6)):=fun _ _ _ _=>by kernel_rfl
theorem zo7:Zk Tryz.prog 155 (zk7 ZD):=okF (zr7 XF) Tryz.func155 Zg (Zn _ (.cons zo6 .nil) .nil .nil .nil (Zo _))
abbrev zk8 (f:zT8):Zd:=⟨[.one (.L),.fn 242],[.one (.B)],fun t K _ h=>f t.1 (fun r0 h=>K (r0,()) h) h⟩
abbrev zc8 (f7:zT7):Cfg:=Zu Tryz.prog [(155,zk7 f7)] 9 [] [] [] Zv
theorem zr8 (f7:zT7):Zw (zc8 f7) Tryz.f97 (.leaf) (zk8 (ZX f7)):=fun _ _ _ _=>by kernel_rfl
theorem zo8:Zk Tryz.prog 97 (zk8 Zy):=okF (zr8 ZD) Tryz.func97 Zg (Zn _ (.cons zo7 .nil) .nil .nil .nil (Zo _))
abbrev zk9 (f:zT9):Zd:=⟨[.agg [.S,.L]],[.one (.B)],fun t K _ h=>f t.1 (fun r0 h=>K (r0,()) h) h⟩
abbrev zc9 (f5:zT5) (f8:zT8):Cfg:=Zu Tryz.prog [(114,zk5 f5),(97,zk8 f8)] 12 [] [] [] Zv
theorem zr9 (f5:zT5) (f8:zT8):Zw (zc9 f5 f8) Tryz.f198 (.leaf) (zk9 (Zbc f5 f8)):=fun _ _ _ _=>by kernel_rfl
theorem zo9:Zk Tryz.prog 198 (zk9 Xo):=okF (zr9 YT Zy) Tryz.func198 Zg (Zn _ (.cons zo5 (.cons zo8 .nil)) .nil .nil .nil (Zo _))
abbrev ZvI (f:Zsf):Zd:=⟨[.one (.P),.one (.P)],[.one (.B)],fun t K _ h=>f t.1 t.2.1 (fun r0 h=>K (r0,()) h) h⟩
abbrev ZA1 (f4:zT4):Cfg:=Zu Tryz.prog [(141,zk4 f4)] 7 [] [] [] Zv
theorem Zyw (f4:zT4):Zw (ZA1 f4) Tryz.f190 (.leaf) (ZvI (Zdk f4)):=fun _ _ _ _=>by kernel_rfl
theorem ZzF:Zk Tryz.prog 190 (ZvI Zb7):=okF (Zyw Z9) Tryz.func190 Zg (Zn _ (.cons zo4 .nil) .nil .nil .nil (Zo _))
abbrev ZvH (f:Zse):Zd:=⟨[.one (.P)],[.one (.B)],fun t K _ h=>f t.1 (fun r0 h=>K (r0,()) h) h⟩
abbrev ZA0:Cfg:=Zu Tryz.prog [] 10 [] [] [] Zv
theorem Zyv:Zw (ZA0) Tryz.f191 (.leaf) (ZvH Zdj):=fun _ _ _ _=>by kernel_rfl
theorem ZzE:Zk Tryz.prog 191 (ZvH Zb6):=okF (Zyv) Tryz.func191 Zg (Zn _ .nil .nil .nil .nil (Zo _))
abbrev ZvG (f:Zsd):Zd:=⟨[.one (.P)],[.one (.B)],fun t K _ h=>f t.1 (fun r0 h=>K (r0,()) h) h⟩
abbrev ZAZ:Cfg:=Zu Tryz.prog [] 10 [] [] [] Zv
theorem Zyu:Zw (ZAZ) Tryz.f192 (.leaf) (ZvG Zdi):=fun _ _ _ _=>by kernel_rfl
theorem ZzD:Zk Tryz.prog 192 (ZvG Zb5):=okF (Zyu) Tryz.func192 Zg (Zn _ .nil .nil .nil .nil (Zo _))
abbrev ZvF (f:Zsc):Zd:=⟨[.one (.P)],[.one (.B)],fun t K _ h=>f t.1 (fun r0 h=>K (r0,()) h) h⟩
abbrev ZAY:Cfg:=Zu Tryz.prog [] 15 [] [] [] Zv
theorem Zyt:Zw (ZAY) Tryz.f193 (.leaf) (ZvF Zdh):=fun _ _ _ _=>by kernel_rfl
theorem ZzC:Zk Tryz.prog 193 (ZvF Zb4):=okF (Zyt) Tryz.func193 Zg (Zn _ .nil .nil .nil .nil (Zo _))
abbrev ZqX (f:Zl5):Zd:=⟨[.one (.B),.one (.I .i64),.one (.I .i64),.one (.I .i64)],[.one (.B)],fun t K _ h=>f t.1 t.2.1 t.2.2.1 t.2.2.2.1 (fun r0 h=>K (r0,()) h) h⟩
abbrev ZAX (f4:zT4):Cfg:=Zu Tryz.prog [(141,zk4 f4)] 24 [] [] [] Zv
theorem Zys (f4:zT4):Zw (ZAX f4) Tryz.f143 (.leaf) (ZqX (Zen f4)):=fun _ _ _ _=>by kernel_rfl
theorem Zt8:Zk Tryz.prog 143 (ZqX XG):=okF (Zys Z9) Tryz.func143 Zg (Zn _ (.cons zo4 .nil) .nil .nil .nil (Zo _))
abbrev ZvE (f:Zsb):Zd:=⟨[.one (.P),.one (.P),.one (.P)],[.one (.B)],fun t K _ h=>f t.1 t.2.1 t.2.2.1 (fun r0 h=>K (r0,()) h) h⟩
abbrev ZAW (f14:Zl5):Cfg:=Zu Tryz.prog [(143,ZqX f14)] 14 [] [] [] Zv
theorem Zyr (f14:Zl5):Zw (ZAW f14) Tryz.f194 (.leaf) (ZvE (Zdg f14)):=fun _ _ _ _=>by kernel_rfl
theorem ZzB:Zk Tryz.prog 194 (ZvE Zb3):=okF (Zyr XG) Tryz.func194 Zg (Zn _ (.cons Zt8 .nil) .nil .nil .nil (Zo _))
abbrev ZvD (f:Zr9):Zd:=⟨[.one (.P)],[.one (.B)],fun t K _ h=>f t.1 (fun r0 h=>K (r0,()) h) h⟩
abbrev ZAV:Cfg:=Zu Tryz.prog [] 15 [] [] [] Zv
theorem Zyq:Zw (ZAV) Tryz.f195 (.leaf) (ZvD Zdf):=fun _ _ _ _=>by kernel_rfl
theorem ZzA:Zk Tryz.prog 195 (ZvD Zb2):=okF (Zyq) Tryz.func195 Zg (Zn _ .nil .nil .nil .nil (Zo _))
abbrev ZvC (f:Zr8):Zd:=⟨[.one (.P)],[.one (.B)],fun t K _ h=>f t.1 (fun r0 h=>K (r0,()) h) h⟩
abbrev ZAU (f14:Zl5):Cfg:=Zu Tryz.prog [(143,ZqX f14)] 16 [] [] [] Zv
theorem Zyp (f14:Zl5):Zw (ZAU f14) Tryz.f196 (.leaf) (ZvC (Zde f14)):=fun _ _ _ _=>by kernel_rfl
theorem Zzz:Zk Tryz.prog 196 (ZvC Zb1):=okF (Zyp XG) Tryz.func196 Zg (Zn _ (.cons Zt8 .nil) .nil .nil .nil (Zo _))
abbrev ZvB (f:Zr7):Zd:=⟨[.one (.P),.one (.P)],[.one (.B)],fun t K _ h=>f t.1 t.2.1 (fun r0 h=>K (r0,()) h) h⟩
abbrev ZAT (f4:zT4):Cfg:=Zu Tryz.prog [(141,zk4 f4)] 12 [] [] [] Zv
theorem Zyo (f4:zT4):Zw (ZAT f4) Tryz.f140 (.leaf) (ZvB (Zeu f4)):=fun _ _ _ _=>by kernel_rfl
theorem Zzy:Zk Tryz.prog 140 (ZvB ZcQ):=okF (Zyo Z9) Tryz.func140 Zg (Zn _ (.cons zo4 .nil) .nil .nil .nil (Zo _))
abbrev ZvA (f:Zr6):Zd:=⟨[.one (.P)],[.one (.B)],fun t K _ h=>f t.1 (fun r0 h=>K (r0,()) h) h⟩
abbrev ZAS (f14:Zl5):Cfg:=Zu Tryz.prog [(143,ZqX f14)] 8 [] [] [] Zv
theorem Zyn (f14:Zl5):Zw (ZAS f14) Tryz.f142 (.leaf) (ZvA (Zet f14)):=fun _ _ _ _=>by kernel_rfl
theorem Zzx:Zk Tryz.prog 142 (ZvA ZcP):=okF (Zyn XG) Tryz.func142 Zg (Zn _ (.cons Zt8 .nil) .nil .nil .nil (Zo _))
abbrev Zvz (f:Zr5):Zd:=⟨[.one (.P)],[.one (.B)],fun t K _ h=>f t.1 (fun r0 h=>K (r0,()) h) h⟩
abbrev ZAR (f4:zT4):Cfg:=Zu Tryz.prog [(141,zk4 f4)] 10 [] [] [] Zv
theorem Zym (f4:zT4):Zw (ZAR f4) Tryz.f144 (.leaf) (Zvz (Zes f4)):=fun _ _ _ _=>by kernel_rfl
theorem Zzw:Zk Tryz.prog 144 (Zvz ZcO):=okF (Zym Z9) Tryz.func144 Zg (Zn _ (.cons zo4 .nil) .nil .nil .nil (Zo _))
abbrev Zvy (f:Zr4):Zd:=⟨[.one (.P)],[.one (.B)],fun t K _ h=>f t.1 (fun r0 h=>K (r0,()) h) h⟩
abbrev ZAQ (f4:zT4):Cfg:=Zu Tryz.prog [(141,zk4 f4)] 5 [] [] [] Zv
theorem Zyl (f4:zT4):Zw (ZAQ f4) Tryz.f145 (.leaf) (Zvy (Zer f4)):=fun _ _ _ _=>by kernel_rfl
theorem Zzv:Zk Tryz.prog 145 (Zvy ZcN):=okF (Zyl Z9) Tryz.func145 Zg (Zn _ (.cons zo4 .nil) .nil .nil .nil (Zo _))
abbrev Zs1 (f:ZoY):Zd:=⟨[.agg [.S,.L,.I .i64],.one (.L)],[.one (.I .i64)],fun t K _ h=>f t.1 t.2.1 (fun r0 h=>K (r0,()) h) h⟩
abbrev ZAP (f9:zT9) (f10:Zsf) (f11:Zse) (f12:Zsd) (f13:Zsc) (f15:Zsb) (f16:Zr9) (f17:Zr8) (f18:Zr7) (f19:Zr6) (f20:Zr5) (f21:Zr4):Cfg:=Zu Tryz.prog [(198,zk9 f9),(190,ZvI f10),(191,ZvH f11),(192,ZvG f12),(193,ZvF f13),(194,ZvE f15),(195,ZvD f16),(196,ZvC f17),(140,ZvB f18),(142,ZvA f19),(144,Zvz f20),(145,Zvy f21)] 23 [] [] [] Zv [(190,[.P,.P]),(191,[.P]),(192,[.P]),(193,[.P]),(194,[.P,.P,.P]),(195,[.P]),(196,[.P]),(140,[.P,.P]),(142,[.P]),(144,[.P]),(145,[.P])]
theorem Zyk (f9:zT9) (f10:Zsf) (f11:Zse) (f12:Zsd) (f13:Zsc) (f15:Zsb) (f16:Zr9) (f17:Zr8) (f18:Zr7) (f19:Zr6) (f20:Zr5) (f21:Zr4):Zw (ZAP f9 f10 f11 f12 f13 f15 f16 f17 f18 f19 f20 f21) Tryz.f139 (.seq (.leaf) (.seq (.leaf) (.seq (.seq (.leaf) (.block (.loop [13] [.one (.I .i64)] [(4,4),(6,6),(14,22)] (.leaf)))) (.leaf)))) (Zs1 (ZcS f9 f10 f11 f12 f13 f15 f16 f17 f18 f19 f20 f21)):=fun _ _ _ _=>by kernel_rfl
theorem ZwY:Zk Tryz.prog 139 (Zs1 Xp):=okF (Zyk Xo Zb7 Zb6 Zb5 Zb4 Zb3 Zb2 Zb1 ZcQ ZcP ZcO ZcN) Tryz.func139 Zg (Zn _ (.cons zo9 (.cons ZzF (.cons ZzE (.cons ZzD (.cons ZzC (.cons ZzB (.cons ZzA (.cons Zzz (.cons Zzy (.cons Zzx (.cons Zzw (.cons Zzv .nil)))))))))))) .nil .nil .nil (Zo _))
abbrev Zvx (f:Zr3):Zd:=⟨[.agg [.S,.S,.B,.I .i64,.I .u8,.S,.I .u8,.I .i64,.I .i64,.B,.I .i64,.B]],[.one (.I .i64)],fun t K _ h=>f t.1 (fun r0 h=>K (r0,()) h) h⟩
abbrev ZAO (f22:ZoY):Cfg:=Zu Tryz.prog [(139,Zs1 f22)] 56 [] [] [] Zv
theorem Zyj (f22:ZoY):Zw (ZAO f22) Tryz.f131 (.seq (.leaf) (.seq (.leaf) (.cut [3] [.one (.L)] [(10,22)] (.leaf) (.cut [4] [.one (.P)] [(23,30)] (.leaf) (.cut [5] [.one (.P)] [(31,38)] (.leaf) (.seq (.leaf) (.cut [] [] [(39,41)] (.leaf) (.leaf)))))))) (Zvx (Zep f22)):=fun _ _ _ _=>by kernel_rfl
theorem Zzu:Zk Tryz.prog 131 (Zvx Zaa):=okF (Zyj Xp) Tryz.func131 Zg (Zn _ (.cons ZwY .nil) .nil .nil .nil (Zo _))
abbrev Zvw (f:Zr2):Zd:=⟨[.one (.I .i64),.one (.P)],[.one (.I .i64)],fun t K _ h=>f t.1 t.2.1 (fun r0 h=>K (r0,()) h) h⟩
abbrev ZAN (f23:Zr3):Cfg:=Zu Tryz.prog [(131,Zvx f23)] 10 [] [] [] Zv
theorem Zyi (f23:Zr3):Zw (ZAN f23) Tryz.f130 (.leaf) (Zvw (Zcp f23)):=fun _ _ _ _=>by kernel_rfl
theorem Zzt:Zk Tryz.prog 130 (Zvw Zak):=okF (Zyi Zaa) Tryz.func130 Zg (Zn _ (.cons Zzu .nil) .nil .nil .nil (Zo _))
abbrev Zs0 (f:ZoX):Zd:=⟨[.agg [.S,.I .u8,.I .i64,.I .i64,.I .i64,.I .i64,.I .i64]],[.one (.I .i64)],fun t K _ h=>f t.1 (fun r0 h=>K (r0,()) h) h⟩
abbrev ZAM (f22:ZoY):Cfg:=Zu Tryz.prog [(139,Zs1 f22)] 17 [] [] [] Zv
theorem Zyh (f22:ZoY):Zw (ZAM f22) Tryz.f84 (.seq (.leaf) (.seq (.leaf) (.cut [] [] [(4,6)] (.leaf) (.leaf)))) (Zs0 (Zfr f22)):=fun _ _ _ _=>by kernel_rfl
theorem ZwX:Zk Tryz.prog 84 (Zs0 XI):=okF (Zyh Xp) Tryz.func84 Zg (Zn _ (.cons ZwY .nil) .nil .nil .nil (Zo _))
abbrev Zvv (f:Zr1):Zd:=⟨[.one (.I .i64),.one (.P)],[.one (.I .i64)],fun t K _ h=>f t.1 t.2.1 (fun r0 h=>K (r0,()) h) h⟩
abbrev ZAL (f25:ZoX):Cfg:=Zu Tryz.prog [(84,Zs0 f25)] 10 [] [] [] Zv
theorem Zyg (f25:ZoX):Zw (ZAL f25) Tryz.f132 (.leaf) (Zvv (Zco f25)):=fun _ _ _ _=>by kernel_rfl
theorem Zzs:Zk Tryz.prog 132 (Zvv Zaj):=okF (Zyg XI) Tryz.func132 Zg (Zn _ (.cons ZwX .nil) .nil .nil .nil (Zo _))
abbrev Zvu (f:Zr0):Zd:=⟨[.agg [.L,.L,.L,.L,.L]],[.one (.I .u8),.one (.I .i64),.one (.I .i64)],fun t K _ h=>f t.1 (fun r0 r1 r2 h=>K (r0,r1,r2,()) h) h⟩
abbrev ZAK (f3:zT3) (f24:Zr2) (f26:Zr1):Cfg:=Zu Tryz.prog [(80,zk3 f3),(130,Zvw f24),(132,Zvv f26)] 49 [] [] [] Zv [(130,[.P]),(132,[.P])]
theorem Zyf (f3:zT3) (f24:Zr2) (f26:Zr1):Zw (ZAK f3 f24 f26) Tryz.f38 (.seq (.leaf) (.seq (.leaf) (.seq (.seq (.leaf) (.block (.loop [16] [.one (.I .i64)] [(2,4),(7,7),(17,25)] (.leaf)))) (.seq (.seq (.leaf) (.block (.loop [28] [.one (.I .i64)] [(2,4),(9,11),(29,48)] (.seq (.leaf) (.seq (.leaf) (.seq (.block (.seq (.leaf) (.seq (.leaf) (.block (.loop [34] [.one (.I .i64)] [(2,4),(10,11),(35,47)] (.leaf)))))) (.leaf))))))) (.leaf))))) (Zvu (ZdI f3 f24 f26)):=fun _ _ _ _=>by kernel_rfl
theorem Zzr:Zk Tryz.prog 38 (Zvu Zbm):=okF (Zyf ZaZ Zak Zaj) Tryz.func38 Zg (Zn _ (.cons zo3 (.cons Zzt (.cons Zzs .nil))) .nil .nil .nil (Zo _))
abbrev Zvt (f:ZrZ):Zd:=⟨[.one (.L)],[.one (.L)],fun t K _ h=>f t.1 (fun r0 h=>K (r0,()) h) h⟩
abbrev ZAJ:Cfg:=Zu Tryz.prog [] 8 [] [] [] Zv
theorem Zye:Zw (ZAJ) Tryz.f94 (.leaf) (Zvt XM):=fun _ _ _ _=>by kernel_rfl
theorem Zzq:Zk Tryz.prog 94 (Zvt YO):=okF (Zye) Tryz.func94 Zg (Zn _ .nil .nil .nil .nil (Zo _))
abbrev Zvs (f:ZrY):Zd:=⟨[.one (.L)],[.one (.L)],fun t K _ h=>f t.1 (fun r0 h=>K (r0,()) h) h⟩
abbrev ZAI:Cfg:=Zu Tryz.prog [] 8 [] [] [] Zv
theorem Zyd:Zw (ZAI) Tryz.f138 (.leaf) (Zvs Zao):=fun _ _ _ _=>by kernel_rfl
theorem Zzp:Zk Tryz.prog 138 (Zvs Y3):=okF (Zyd) Tryz.func138 Zg (Zn _ .nil .nil .nil .nil (Zo _))
abbrev Zvr (f:ZrX):Zd:=⟨[.one (.L)],[.agg [.L,.L,.L,.L,.L]],fun t K _ h=>f t.1 (fun r0 h=>K (r0,()) h) h⟩
abbrev ZAH (f28:ZrZ) (f29:ZrY):Cfg:=Zu Tryz.prog [(94,Zvt f28),(138,Zvs f29)] 72 [] [] [] Zv
theorem Zyc (f28:ZrZ) (f29:ZrY):Zw (ZAH f28 f29) Tryz.f81 (.seq (.leaf) (.seq (.leaf) (.seq (.seq (.leaf) (.block (.loop [12] [.one (.I .i64)] [(5,5),(7,7),(9,9),(13,70)] (.seq (.leaf) (.seq (.leaf) (.seq (.block (.seq (.leaf) (.seq (.leaf) (.seq (.leaf) (.seq (.leaf) (.seq (.seq (.leaf) (.block (.loop [37] [.one (.I .i64)] [(7,7),(38,51)] (.leaf)))) (.seq (.leaf) (.block (.loop [55] [.one (.I .i64)] [(9,9),(56,69)] (.leaf)))))))))) (.leaf))))))) (.leaf)))) (Zvr (Zeo f28 f29)):=fun _ _ _ _=>by kernel_rfl
theorem Zzo:Zk Tryz.prog 81 (Zvr Zcb):=okF (Zyc YO Y3) Tryz.func81 Zg (Zn _ (.cons Zzq (.cons Zzp .nil)) .nil .nil .nil (Zo _))
abbrev ZsZ (f:ZoW):Zd:=⟨[.agg [.L,.L,.L,.L,.L]],[.agg [.L,.L,.L,.L,.L]],fun t K _ h=>f t.1 (fun r0 h=>K (r0,()) h) h⟩
abbrev ZAG (f30:ZrX):Cfg:=Zu Tryz.prog [(81,Zvr f30)] 6 [] [] [] Zv
theorem Zyb (f30:ZrX):Zw (ZAG f30) Tryz.f39 (.leaf) (ZsZ (Zeq f30)):=fun _ _ _ _=>by kernel_rfl
theorem ZwW:Zk Tryz.prog 39 (ZsZ ZaE):=okF (Zyb Zcb) Tryz.func39 Zg (Zn _ (.cons Zzo .nil) .nil .nil .nil (Zo _))
abbrev Zvq (f:ZrW):Zd:=⟨[.one (.P),.agg [.L,.L,.L,.L,.L]],[.one (.I .i64)],fun t K _ h=>f t.1 t.2.1 (fun r0 h=>K (r0,()) h) h⟩
abbrev ZAF (f27:Zr0) (f31:ZoW):Cfg:=Zu Tryz.prog [(38,Zvu f27),(39,ZsZ f31)] 31 [] [] [] Zv
theorem Zya (f27:Zr0) (f31:ZoW):Zw (ZAF f27 f31) Tryz.f21 (.leaf) (Zvq (ZbC f27 f31)):=fun _ _ _ _=>by kernel_rfl
theorem Zzn:Zk Tryz.prog 21 (Zvq XH):=okF (Zya Zbm ZaE) Tryz.func21 Zg (Zn _ (.cons Zzr (.cons ZwW .nil)) .nil .nil .nil (Zo _))
abbrev Zvp (f:ZrV):Zd:=⟨[.one (.P)],[.agg [.L,.L,.L,.L,.L],.one (.I .i64)],fun t K _ h=>f t.1 (fun r0 r1 h=>K (r0,r1,()) h) h⟩
abbrev ZAE (f31:ZoW):Cfg:=Zu Tryz.prog [(39,ZsZ f31)] 16 [] [] [] Zv
theorem Zx9 (f31:ZoW):Zw (ZAE f31) Tryz.f22 (.seq (.leaf) (.seq (.leaf) (.seq (.order (.take 0 (.take 1 (.take 2 (.take 5 (.take 6 (.take 7 (.take 3 (.take 8 (.take 4 (.take 9 (.take 10 .done)))))))))))) (.leaf)))) (Zvp (ZbX f31)):=fun _ _ _ _=>by kernel_rfl
theorem Zzm:Zk Tryz.prog 22 (Zvp X5):=okF (Zx9 ZaE) Tryz.func22 Zg (Zn _ (.cons ZwW .nil) .nil .nil .nil (Zo _))
abbrev Zvo (f:ZrU):Zd:=⟨[.agg [.S,.S,.B,.I .i64,.I .u8,.S,.I .u8,.I .i64,.I .i64,.B,.I .i64,.B],.agg [.S,.S,.B,.I .i64,.I .u8,.S,.I .u8,.I .i64,.I .i64,.B,.I .i64,.B]],[.one (.B)],fun t K _ h=>f t.1 t.2.1 (fun r0 h=>K (r0,()) h) h⟩
abbrev ZAD:Cfg:=Zu Tryz.prog [] 8 [] [] [] Zv
theorem Zx8:Zw (ZAD) Tryz.f41 (.leaf) (Zvo ZbJ):=fun _ _ _ _=>by kernel_rfl
theorem Zzl:Zk Tryz.prog 41 (Zvo Zat):=okF (Zx8) Tryz.func41 Zg (Zn _ .nil .nil .nil .nil (Zo _))
abbrev Zvn (f:ZrT):Zd:=⟨[.one (.L),.one (.L),.fn 41],[.one (.L)],fun t K _ h=>f t.1 t.2.1 (fun r0 h=>K (r0,()) h) h⟩
abbrev ZAC (f34:ZrU):Cfg:=Zu Tryz.prog [(41,Zvo f34)] 56 [] [] [] Zv
theorem Zx7 (f34:ZrU):Zw (ZAC f34) Tryz.f40 (.seq (.leaf) (.seq (.leaf) (.seq (.leaf) (.seq (.seq (.leaf) (.block (.loop [8,19] [.one (.L),.one (.I .i64)] [(10,13),(20,54)] (.seq (.leaf) (.seq (.leaf) (.seq (.block (.seq (.leaf) (.seq (.leaf) (.seq (.seq (.leaf) (.block (.loop [11,25] [.one (.I .i64),.one (.I .i64)] [(12,13),(26,49)] (.leaf)))) (.leaf))))) (.leaf))))))) (.leaf))))) (Zvn (Yn f34)):=fun _ _ _ _=>by kernel_rfl
theorem Zzk:Zk Tryz.prog 40 (Zvn ZJ):=okF (Zx7 Zat) Tryz.func40 Zg (Zn _ (.cons Zzl .nil) .nil .nil .nil (Zo _))
abbrev Zw4 (f:ZrS):Zd:=⟨[.one (.I .i64),.one (.I .i64)],[.one (.P),.one (.I .i64)],fun t K _ h=>f t.1 t.2.1 (fun r0 r1 h=>K (r0,r1,()) h) h⟩
theorem Zzj:Zk Tryz.prog 82 (Zw4 Zei):=ZcK Tryz.func82 (by kernel_rfl) (by kernel_rfl) fun _ _ _ _ h=>h
abbrev Zw3 (f:ZrR):Zd:=⟨[.one (.I .i64),.one (.I .i64)],[.one (.P),.one (.I .i64)],fun t K _ h=>f t.1 t.2.1 (fun r0 r1 h=>K (r0,r1,()) h) h⟩
theorem Zzi:Zk Tryz.prog 83 (Zw3 Zef):=ZcK Tryz.func83 (by kernel_rfl) (by kernel_rfl) fun _ _ _ _ h=>h
abbrev Zvm (f:ZrQ):Zd:=⟨[.agg [.S,.S,.B,.I .i64,.I .u8,.S,.I .u8,.I .i64,.I .i64,.B,.I .i64,.B]],[.agg [.P,.P]],fun t K _ h=>f t.1 (fun r0 h=>K (r0,()) h) h⟩
abbrev ZAB (f36:ZrS) (f37:ZrR):Cfg:=Zu Tryz.prog [(82,Zw4 f36),(83,Zw3 f37)] 39 [] [] [] Zv
theorem Zx6 (f36:ZrS) (f37:ZrR):Zw (ZAB f36 f37) Tryz.f42 (.seq (.leaf) (.seq (.leaf) (.cut [] [] [(4,20)] (.leaf) (.leaf)))) (Zvm (ZbW f36 f37)):=fun _ _ _ _=>by kernel_rfl
theorem Zzh:Zk Tryz.prog 42 (Zvm X4):=okF (Zx6 Zei Zef) Tryz.func42 Zg (Zn _ (.cons Zzj (.cons Zzi .nil)) .nil .nil .nil (Zo _))
abbrev Zvl (f:ZrP):Zd:=⟨[.agg [.S,.I .u8,.I .i64,.I .i64,.I .i64,.I .i64,.I .i64],.agg [.S,.I .u8,.I .i64,.I .i64,.I .i64,.I .i64,.I .i64]],[.one (.B)],fun t K _ h=>f t.1 t.2.1 (fun r0 h=>K (r0,()) h) h⟩
abbrev ZAA:Cfg:=Zu Tryz.prog [] 8 [] [] [] Zv
theorem Zx5:Zw (ZAA) Tryz.f44 (.leaf) (Zvl ZbI):=fun _ _ _ _=>by kernel_rfl
theorem Zzg:Zk Tryz.prog 44 (Zvl Zas):=okF (Zx5) Tryz.func44 Zg (Zn _ .nil .nil .nil .nil (Zo _))
abbrev Zvk (f:ZrO):Zd:=⟨[.one (.L),.one (.L),.fn 44],[.one (.L)],fun t K _ h=>f t.1 t.2.1 (fun r0 h=>K (r0,()) h) h⟩
abbrev ZAz (f39:ZrP):Cfg:=Zu Tryz.prog [(44,Zvl f39)] 56 [] [] [] Zv
theorem Zx4 (f39:ZrP):Zw (ZAz f39) Tryz.f43 (.seq (.leaf) (.seq (.leaf) (.seq (.leaf) (.seq (.seq (.leaf) (.block (.loop [8,19] [.one (.L),.one (.I .i64)] [(10,13),(20,54)] (.seq (.leaf) (.seq (.leaf) (.seq (.block (.seq (.leaf) (.seq (.leaf) (.seq (.seq (.leaf) (.block (.loop [11,25] [.one (.I .i64),.one (.I .i64)] [(12,13),(26,49)] (.leaf)))) (.leaf))))) (.leaf))))))) (.leaf))))) (Zvk (Yi f39)):=fun _ _ _ _=>by kernel_rfl
theorem Zzf:Zk Tryz.prog 43 (Zvk ZE):=okF (Zx4 Zas) Tryz.func43 Zg (Zn _ (.cons Zzg .nil) .nil .nil .nil (Zo _))
abbrev ZsY (f:ZoV):Zd:=⟨[.one (.I .i64),.one (.I .i64)],[.one (.P),.one (.I .i64)],fun t K _ h=>f t.1 t.2.1 (fun r0 r1 h=>K (r0,r1,()) h) h⟩
abbrev ZAy:Cfg:=Zu Tryz.prog [] 31 [] [] [] Zv
theorem Zx3:Zw (ZAy) Tryz.f119 (.leaf) (ZsY Zel):=fun _ _ _ _=>by kernel_rfl
theorem ZwV:Zk Tryz.prog 119 (ZsY ZaB):=okF (Zx3) Tryz.func119 Zg (Zn _ .nil .nil .nil .nil (Zo _))
abbrev Zvj (f:ZrN):Zd:=⟨[.one (.P)],[],fun t K _ h=>f t.1 (fun h=>K (()) h) h⟩
abbrev ZAx (f41:ZoV):Cfg:=Zu Tryz.prog [(119,ZsY f41)] 14 [] [] [] Zv
theorem Zx2 (f41:ZoV):Zw (ZAx f41) Tryz.f67 (.leaf) (Zvj (ZbD f41)):=fun _ _ _ _=>by kernel_rfl
theorem Zze:Zk Tryz.prog 67 (Zvj Zac):=okF (Zx2 ZaB) Tryz.func67 Zg (Zn _ (.cons ZwV .nil) .nil .nil .nil (Zo _))
abbrev Zvi (f:ZrM):Zd:=⟨[.agg [.S,.I .u8,.I .i64,.I .i64,.I .i64,.I .i64,.I .i64]],[.one (.P),.one (.I .i64)],fun t K _ h=>f t.1 (fun r0 r1 h=>K (r0,r1,()) h) h⟩
abbrev ZAw (f25:ZoX) (f42:ZrN):Cfg:=Zu Tryz.prog [(84,Zs0 f25),(67,Zvj f42)] 17 [] [] [] Zv
theorem Zx1 (f25:ZoX) (f42:ZrN):Zw (ZAw f25 f42) Tryz.f45 (.leaf) (Zvi (Zfs f25 f42)):=fun _ _ _ _=>by kernel_rfl
theorem Zzd:Zk Tryz.prog 45 (Zvi ZdD):=okF (Zx1 XI Zac) Tryz.func45 Zg (Zn _ (.cons ZwX (.cons Zze .nil)) .nil .nil .nil (Zo _))
abbrev Zvh (f:ZrL):Zd:=⟨[.one (.L),.one (.L)],[.one (.B)],fun t K _ h=>f t.1 t.2.1 (fun r0 h=>K (r0,()) h) h⟩
abbrev ZAv:Cfg:=Zu Tryz.prog [] 26 [] [] [] Zv
theorem Zx0:Zw (ZAv) Tryz.f85 (.seq (.leaf) (.seq (.leaf) (.seq (.seq (.leaf) (.block (.loop [13] [.one (.I .i64)] [(4,5),(14,25)] (.leaf)))) (.leaf)))) (Zvh XL):=fun _ _ _ _=>by kernel_rfl
theorem Zzc:Zk Tryz.prog 85 (Zvh YN):=okF (Zx0) Tryz.func85 Zg (Zn _ .nil .nil .nil .nil (Zo _))
abbrev Zvg (f:ZrK):Zd:=⟨[.one (.L),.one (.L)],[.one (.B)],fun t K _ h=>f t.1 t.2.1 (fun r0 h=>K (r0,()) h) h⟩
abbrev ZAu:Cfg:=Zu Tryz.prog [] 26 [] [] [] Zv
theorem ZxZ:Zw (ZAu) Tryz.f86 (.seq (.leaf) (.seq (.leaf) (.seq (.seq (.leaf) (.block (.loop [13] [.one (.I .i64)] [(4,5),(14,25)] (.leaf)))) (.leaf)))) (Zvg Xt):=fun _ _ _ _=>by kernel_rfl
theorem Zzb:Zk Tryz.prog 86 (Zvg YE):=okF (ZxZ) Tryz.func86 Zg (Zn _ .nil .nil .nil .nil (Zo _))
abbrev Zvf (f:ZrJ):Zd:=⟨[.one (.L),.one (.L)],[.one (.B)],fun t K _ h=>f t.1 t.2.1 (fun r0 h=>K (r0,()) h) h⟩
abbrev ZAt:Cfg:=Zu Tryz.prog [] 26 [] [] [] Zv
theorem ZxY:Zw (ZAt) Tryz.f87 (.seq (.leaf) (.seq (.leaf) (.seq (.seq (.leaf) (.block (.loop [13] [.one (.I .i64)] [(4,5),(14,25)] (.leaf)))) (.leaf)))) (Zvf Xc):=fun _ _ _ _=>by kernel_rfl
theorem Zza:Zk Tryz.prog 87 (Zvf YA):=okF (ZxY) Tryz.func87 Zg (Zn _ .nil .nil .nil .nil (Zo _))
abbrev Zve (f:ZrI):Zd:=⟨[.one (.L),.one (.L)],[.one (.B)],fun t K _ h=>f t.1 t.2.1 (fun r0 h=>K (r0,()) h) h⟩
abbrev ZAs:Cfg:=Zu Tryz.prog [] 26 [] [] [] Zv
theorem ZxX:Zw (ZAs) Tryz.f146 (.seq (.leaf) (.seq (.leaf) (.seq (.seq (.leaf) (.block (.loop [13] [.one (.I .i64)] [(4,5),(14,25)] (.leaf)))) (.leaf)))) (Zve XK):=fun _ _ _ _=>by kernel_rfl
theorem Zy9:Zk Tryz.prog 146 (Zve YM):=okF (ZxX) Tryz.func146 Zg (Zn _ .nil .nil .nil .nil (Zo _))
abbrev Zvd (f:ZrH):Zd:=⟨[.agg [.S,.I .i64,.I .i64,.I .i64,.L],.agg [.S,.I .i64,.I .i64,.I .i64,.L]],[.one (.B)],fun t K _ h=>f t.1 t.2.1 (fun r0 h=>K (r0,()) h) h⟩
abbrev ZAr (f47:ZrI):Cfg:=Zu Tryz.prog [(146,Zve f47)] 38 [] [] [] Zv
theorem ZxW (f47:ZrI):Zw (ZAr f47) Tryz.f89 (.leaf) (Zvd (Zem f47)):=fun _ _ _ _=>by kernel_rfl
theorem Zy8:Zk Tryz.prog 89 (Zvd ZcM):=okF (ZxW YM) Tryz.func89 Zg (Zn _ (.cons Zy9 .nil) .nil .nil .nil (Zo _))
abbrev Zvc (f:ZrG):Zd:=⟨[.one (.L),.one (.L),.fn 89],[.one (.B)],fun t K _ h=>f t.1 t.2.1 (fun r0 h=>K (r0,()) h) h⟩
abbrev ZAq (f48:ZrH):Cfg:=Zu Tryz.prog [(89,Zvd f48)] 32 [] [] [] Zv
theorem ZxV (f48:ZrH):Zw (ZAq f48) Tryz.f88 (.seq (.leaf) (.seq (.leaf) (.seq (.seq (.leaf) (.block (.loop [17] [.one (.I .i64)] [(6,9),(18,31)] (.leaf)))) (.leaf)))) (Zvc (Z8 f48)):=fun _ _ _ _=>by kernel_rfl
theorem Zy7:Zk Tryz.prog 88 (Zvc ZF):=okF (ZxV ZcM) Tryz.func88 Zg (Zn _ (.cons Zy8 .nil) .nil .nil .nil (Zo _))
abbrev Zvb (f:ZrF):Zd:=⟨[.one (.L),.one (.L)],[.one (.B)],fun t K _ h=>f t.1 t.2.1 (fun r0 h=>K (r0,()) h) h⟩
abbrev ZAp:Cfg:=Zu Tryz.prog [] 26 [] [] [] Zv
theorem ZxU:Zw (ZAp) Tryz.f147 (.seq (.leaf) (.seq (.leaf) (.seq (.seq (.leaf) (.block (.loop [13] [.one (.I .i64)] [(4,5),(14,25)] (.leaf)))) (.leaf)))) (Zvb Zan):=fun _ _ _ _=>by kernel_rfl
theorem Zy6:Zk Tryz.prog 147 (Zvb Y2):=okF (ZxU) Tryz.func147 Zg (Zn _ .nil .nil .nil .nil (Zo _))
abbrev Zva (f:ZrE):Zd:=⟨[.agg [.S,.B,.L],.agg [.S,.B,.L]],[.one (.B)],fun t K _ h=>f t.1 t.2.1 (fun r0 h=>K (r0,()) h) h⟩
abbrev ZAo (f50:ZrF):Cfg:=Zu Tryz.prog [(147,Zvb f50)] 24 [] [] [] Zv
theorem ZxT (f50:ZrF):Zw (ZAo f50) Tryz.f91 (.leaf) (Zva (ZdU f50)):=fun _ _ _ _=>by kernel_rfl
theorem Zy5:Zk Tryz.prog 91 (Zva Zcg):=okF (ZxT Y2) Tryz.func91 Zg (Zn _ (.cons Zy6 .nil) .nil .nil .nil (Zo _))
abbrev Zu9 (f:ZrD):Zd:=⟨[.one (.L),.one (.L),.fn 91],[.one (.B)],fun t K _ h=>f t.1 t.2.1 (fun r0 h=>K (r0,()) h) h⟩
abbrev ZAn (f51:ZrE):Cfg:=Zu Tryz.prog [(91,Zva f51)] 32 [] [] [] Zv
theorem ZxS (f51:ZrE):Zw (ZAn f51) Tryz.f90 (.seq (.leaf) (.seq (.leaf) (.seq (.seq (.leaf) (.block (.loop [17] [.one (.I .i64)] [(6,9),(18,31)] (.leaf)))) (.leaf)))) (Zu9 (ZA f51)):=fun _ _ _ _=>by kernel_rfl
theorem Zy4:Zk Tryz.prog 90 (Zu9 Zr):=okF (ZxS Zcg) Tryz.func90 Zg (Zn _ (.cons Zy5 .nil) .nil .nil .nil (Zo _))
abbrev Zu8 (f:ZrC):Zd:=⟨[.agg [.L,.L,.L,.L,.L],.agg [.L,.L,.L,.L,.L]],[.one (.B)],fun t K _ h=>f t.1 t.2.1 (fun r0 h=>K (r0,()) h) h⟩
abbrev ZAm (f44:ZrL) (f45:ZrK) (f46:ZrJ) (f49:ZrG) (f52:ZrD):Cfg:=Zu Tryz.prog [(85,Zvh f44),(86,Zvg f45),(87,Zvf f46),(88,Zvc f49),(90,Zu9 f52)] 38 [] [] [] Zv
theorem ZxR (f44:ZrL) (f45:ZrK) (f46:ZrJ) (f49:ZrG) (f52:ZrD):Zw (ZAm f44 f45 f46 f49 f52) Tryz.f47 (.leaf) (Zu8 (Zgd f44 f45 f46 f49 f52)):=fun _ _ _ _=>by kernel_rfl
theorem Zy3:Zk Tryz.prog 47 (Zu8 Zeg):=okF (ZxR YN YE YA ZF Zr) Tryz.func47 Zg (Zn _ (.cons Zzc (.cons Zzb (.cons Zza (.cons Zy7 (.cons Zy4 .nil))))) .nil .nil .nil (Zo _))
abbrev Zu7 (f:ZrB):Zd:=⟨[.agg [.S,.I .i64,.I .i64,.I .i64,.L],.agg [.S,.I .i64,.I .i64,.I .i64,.L]],[.one (.B)],fun t K _ h=>f t.1 t.2.1 (fun r0 h=>K (r0,()) h) h⟩
abbrev ZAl (f53:ZrC):Cfg:=Zu Tryz.prog [(47,Zu8 f53)] 12 [] [] [] Zv
theorem ZxQ (f53:ZrC):Zw (ZAl f53) Tryz.f46 (.leaf) (Zu7 (ZbH f53)):=fun _ _ _ _=>by kernel_rfl
theorem Zy2:Zk Tryz.prog 46 (Zu7 Zar):=okF (ZxQ Zeg) Tryz.func46 Zg (Zn _ (.cons Zy3 .nil) .nil .nil .nil (Zo _))
abbrev Zu6 (f:ZrA):Zd:=⟨[.one (.L),.one (.L),.fn 46],[.one (.L)],fun t K _ h=>f t.1 t.2.1 (fun r0 h=>K (r0,()) h) h⟩
abbrev ZAk (f54:ZrB):Cfg:=Zu Tryz.prog [(46,Zu7 f54)] 56 [] [] [] Zv
theorem ZxP (f54:ZrB):Zw (ZAk f54) Tryz.f48 (.seq (.leaf) (.seq (.leaf) (.seq (.leaf) (.seq (.seq (.leaf) (.block (.loop [8,19] [.one (.L),.one (.I .i64)] [(10,13),(20,54)] (.seq (.leaf) (.seq (.leaf) (.seq (.block (.seq (.leaf) (.seq (.leaf) (.seq (.seq (.leaf) (.block (.loop [11,25] [.one (.I .i64),.one (.I .i64)] [(12,13),(26,49)] (.leaf)))) (.leaf))))) (.leaf))))))) (.leaf))))) (Zu6 (Yo f54)):=fun _ _ _ _=>by kernel_rfl
theorem Zy1:Zk Tryz.prog 48 (Zu6 ZL):=okF (ZxP Zar) Tryz.func48 Zg (Zn _ (.cons Zy2 .nil) .nil .nil .nil (Zo _))
abbrev Zw2 (f:Zrz):Zd:=⟨[.agg [.S,.I .i64,.I .i64,.I .i64,.L],.one (.I .i64),.one (.I .u64)],[.one (.P),.one (.I .i64)],fun t K _ h=>f t.1 t.2.1 t.2.2.1 (fun r0 r1 h=>K (r0,r1,()) h) h⟩
theorem Zy0:Zk Tryz.prog 49 (Zw2 ZgV):=ZcK Tryz.func49 (by kernel_rfl) (by kernel_rfl) fun _ _ _ _ h=>h
abbrev Zu5 (f:Zry):Zd:=⟨[.one (.P),.agg [.L,.L,.L,.L,.L]],[.agg [.L,.L,.L,.I .i64]],fun t K _ h=>f t.1 t.2.1 (fun r0 h=>K (r0,()) h) h⟩
abbrev ZAj (f35:ZrT) (f38:ZrQ) (f40:ZrO) (f43:ZrM) (f55:ZrA) (f56:Zrz):Cfg:=Zu Tryz.prog [(40,Zvn f35),(42,Zvm f38),(43,Zvk f40),(45,Zvi f43),(48,Zu6 f55),(49,Zw2 f56)] 173 [] [] [] Zv
theorem ZxO (f35:ZrT) (f38:ZrQ) (f40:ZrO) (f43:ZrM) (f55:ZrA) (f56:Zrz):Zw (ZAj f35 f38 f40 f43 f55 f56) Tryz.f23 (.seq (.leaf) (.seq (.leaf) (.seq (.leaf) (.seq (.seq (.order (.take 0 (.take 1 (.take 2 (.take 3 (.take 5 (.take 9 (.take 4 (.take 6 (.take 7 (.take 8 .done))))))))))) (.block (.loop [34] [.one (.I .i64)] [(7,8),(35,65)] (.seq (.leaf) (.seq (.leaf) (.seq (.block (.seq (.leaf) (.seq (.leaf) (.cond (.order (.take 0 (.take 2 (.take 4 (.take 1 (.take 3 (.take 5 (.take 6 (.take 7 (.take 8 (.take 9 (.take 10 .done)))))))))))) (.order (.take 0 (.take 2 (.take 3 (.take 4 (.take 5 (.take 7 (.take 1 (.take 6 (.take 8 (.take 9 (.take 10 (.take 11 (.take 12 (.take 13 (.take 14 .done)))))))))))))))))))) (.leaf))))))) (.seq (.seq (.order (.take 0 (.take 1 (.take 2 (.take 3 (.take 5 (.take 9 (.take 4 (.take 6 (.take 7 (.take 8 .done))))))))))) (.block (.loop [75] [.one (.I .i64)] [(9,12),(76,117)] (.seq (.leaf) (.seq (.leaf) (.seq (.block (.seq (.leaf) (.seq (.seq (.leaf) (.cond (.seq (.order (.take 0 (.take 2 (.take 4 (.take 1 (.take 3 (.take 5 (.take 6 (.take 7 (.take 8 (.take 9 (.take 10 .done)))))))))))) (.leaf)) (.leaf))) (.leaf)))) (.leaf))))))) (.seq (.leaf) (.seq (.seq (.order (.take 0 (.take 1 (.take 2 (.take 3 (.take 5 (.take 7 (.take 10 (.take 4 (.take 6 (.take 8 (.take 9 .done)))))))))))) (.block (.loop [128] [.one (.I .i64)] [(14,17),(129,171)] (.seq (.leaf) (.seq (.leaf) (.seq (.block (.seq (.leaf) (.seq (.seq (.leaf) (.cond (.seq (.order (.take 0 (.take 2 (.take 4 (.take 1 (.take 3 (.take 5 (.take 6 (.take 7 (.take 8 (.take 9 (.take 10 .done)))))))))))) (.leaf)) (.leaf))) (.seq (.order (.take 0 (.take 1 (.take 2 (.take 3 (.take 5 (.take 8 (.take 9 (.take 10 (.take 12 (.take 13 (.take 14 (.take 4 (.take 6 (.take 7 (.take 11 (.take 15 (.take 16 (.take 17 (.take 18 (.take 19 (.take 20 (.take 21 .done))))))))))))))))))))))) (.leaf))))) (.leaf))))))) (.leaf)))))))) (Zu5 (ZaV f35 f38 f40 f43 f55 f56)):=fun _ _ _ _=>by kernel_rfl
theorem ZyZ:Zk Tryz.prog 23 (Zu5 Xa):=okF (ZxO ZJ X4 ZE ZdD ZL ZgV) Tryz.func23 Zg (Zn _ (.cons Zzk (.cons Zzh (.cons Zzf (.cons Zzd (.cons Zy1 (.cons Zy0 .nil)))))) .nil .nil .nil (Zo _))
abbrev ZsX (f:ZoU):Zd:=⟨[.one (.P),.agg [.L,.L,.L,.L,.L]],[.one (.I .i64)],fun t K _ h=>f t.1 t.2.1 (fun r0 h=>K (r0,()) h) h⟩
abbrev ZAi (f32:ZrW) (f33:ZrV) (f57:Zry):Cfg:=Zu Tryz.prog [(21,Zvq f32),(22,Zvp f33),(23,Zu5 f57)] 46 [] [] [] Zv
theorem ZxN (f32:ZrW) (f33:ZrV) (f57:Zry):Zw (ZAi f32 f33 f57) Tryz.f10 (.seq (.leaf) (.seq (.leaf) (.seq (.seq (.order (.take 0 (.take 1 (.take 2 (.take 3 (.take 4 (.take 5 (.take 6 (.take 7 .done))))))))) (.leaf)) (.seq (.leaf) (.seq (.leaf) (.seq (.order (.take 0 (.take 1 (.take 2 (.take 3 (.take 4 (.take 5 (.take 6 (.take 7 (.take 8 (.take 9 .done))))))))))) (.leaf))))))) (ZsX (Zbb f32 f33 f57)):=fun _ _ _ _=>by kernel_rfl
theorem ZwU:Zk Tryz.prog 10 (ZsX YD):=okF (ZxN XH X5 Xa) Tryz.func10 Zg (Zn _ (.cons Zzn (.cons Zzm (.cons ZyZ .nil))) .nil .nil .nil (Zo _))
abbrev ZqC (f:Zku):Zd:=⟨[.agg [.I .i64,.S,.S,.S,.B,.I .i64,.L]],[.one (.L),.one (.I .i64)],fun t K _ h=>f t.1 (fun r0 r1 h=>K (r0,r1,()) h) h⟩
abbrev ZAh (f5:zT5):Cfg:=Zu Tryz.prog [(114,zk5 f5)] 59 [] [] [] Zv
theorem ZxM (f5:zT5):Zw (ZAh f5) Tryz.f58 (.seq (.leaf) (.cut [] [] [(2,3),(5,25)] (.leaf) (.seq (.leaf) (.cut [4] [.one (.L)] [(35,45)] (.leaf) (.leaf))))) (ZqC (Ze4 f5)):=fun _ _ _ _=>by kernel_rfl
theorem ZsS:Zk Tryz.prog 58 (ZqC YW):=okF (ZxM YT) Tryz.func58 Zg (Zn _ (.cons zo5 .nil) .nil .nil .nil (Zo _))
abbrev Zu4 (f:Zrx):Zd:=⟨[.one (.S)],[.one (.B)],fun t K _ h=>f t.1 (fun r0 h=>K (r0,()) h) h⟩
abbrev ZAg:Cfg:=Zu Tryz.prog [] 6 [] [] [] Zv
theorem ZxL:Zw (ZAg) Tryz.f98 (.leaf) (Zu4 Zav):=fun _ _ _ _=>by kernel_rfl
theorem ZyY:Zk Tryz.prog 98 (Zu4 Xu):=okF (ZxL) Tryz.func98 Zg (Zn _ .nil .nil .nil .nil (Zo _))
abbrev Zu3 (f:Zrw):Zd:=⟨[.one (.L),.fn 98],[.one (.I .i64)],fun t K _ h=>f t.1 (fun r0 h=>K (r0,()) h) h⟩
abbrev ZAf (f60:Zrx):Cfg:=Zu Tryz.prog [(98,Zu4 f60)] 19 [] [] [] Zv
theorem ZxK (f60:Zrx):Zw (ZAf f60) Tryz.f155 (.seq (.leaf) (.seq (.seq (.leaf) (.block (.loop [8] [.one (.I .i64)] [(4,5),(9,18)] (.leaf)))) (.leaf))) (Zu3 (Z1 f60)):=fun _ _ _ _=>by kernel_rfl
theorem ZyX:Zk Tryz.prog 155 (Zu3 ZC):=okF (ZxK Xu) Tryz.func155 Zg (Zn _ (.cons ZyY .nil) .nil .nil .nil (Zo _))
abbrev Zu2 (f:Zrv):Zd:=⟨[.one (.L),.fn 98],[.one (.B)],fun t K _ h=>f t.1 (fun r0 h=>K (r0,()) h) h⟩
abbrev ZAe (f61:Zrw):Cfg:=Zu Tryz.prog [(155,Zu3 f61)] 9 [] [] [] Zv
theorem ZxJ (f61:Zrw):Zw (ZAe f61) Tryz.f97 (.leaf) (Zu2 (ZV f61)):=fun _ _ _ _=>by kernel_rfl
theorem ZyW:Zk Tryz.prog 97 (Zu2 Zt):=okF (ZxJ ZC) Tryz.func97 Zg (Zn _ (.cons ZyX .nil) .nil .nil .nil (Zo _))
abbrev ZqV (f:ZlV):Zd:=⟨[.one (.P),.one (.L)],[.one (.I .i64)],fun t K _ h=>f t.1 t.2.1 (fun r0 h=>K (r0,()) h) h⟩
abbrev ZAd:Cfg:=Zu Tryz.prog [] 27 [] [] [] Zv
theorem ZxI:Zw (ZAd) Tryz.f156 (.seq (.leaf) (.seq (.leaf) (.seq (.seq (.leaf) (.block (.loop [11] [.one (.I .i64)] [(7,7),(12,24)] (.seq (.leaf) (.seq (.leaf) (.seq (.block (.seq (.leaf) (.seq (.order (.take 0 (.take 1 (.take 2 (.take 3 (.take 4 (.take 5 (.take 6 .done)))))))) (.leaf)))) (.leaf))))))) (.leaf)))) (ZqV Zbv):=fun _ _ _ _=>by kernel_rfl
theorem ZtY:Zk Tryz.prog 156 (ZqV Yk):=okF (ZxI) Tryz.func156 Zg (Zn _ .nil .nil .nil .nil (Zo _))
abbrev Zu1 (f:Zru):Zd:=⟨[],[.one (.P)],fun _ K _ h=>f (fun r0 h=>K (r0,()) h) h⟩
abbrev ZAc (f41:ZoV):Cfg:=Zu Tryz.prog [(119,ZsY f41)] 18 [] [] [] Zv
theorem ZxH (f41:ZoV):Zw (ZAc f41) Tryz.f201 (.leaf) (Zu1 (Zf0 f41)):=fun _ _ _ _=>by kernel_rfl
theorem ZyV:Zk Tryz.prog 201 (Zu1 Zdq):=okF (ZxH ZaB) Tryz.func201 Zg (Zn _ (.cons ZwV .nil) .nil .nil .nil (Zo _))
abbrev ZqU (f:ZlU):Zd:=⟨[.one (.P),.agg [.I .u8,.S,.S,.S]],[],fun t K _ h=>f t.1 t.2.1 (fun h=>K (()) h) h⟩
abbrev ZAb (f64:Zru):Cfg:=Zu Tryz.prog [(201,Zu1 f64)] 27 [] [] [] Zv
theorem ZxG (f64:Zru):Zw (ZAb f64) Tryz.f157 (.seq (.leaf) (.seq (.order (.take 0 (.take 1 (.take 2 (.take 3 (.take 4 (.take 5 (.take 6 .done)))))))) (.cond (.seq (.order (.take 0 (.take 1 (.take 2 (.take 3 (.take 4 (.take 5 (.take 6 .done)))))))) (.order (.take 0 (.take 1 (.take 2 (.take 3 (.take 4 (.take 5 (.take 6 (.take 7 (.take 8 (.take 9 (.take 10 .done))))))))))))) (.leaf)))) (ZqU (Zbu f64)):=fun _ _ _ _=>by kernel_rfl
theorem ZtX:Zk Tryz.prog 157 (ZqU Yj):=okF (ZxG Zdq) Tryz.func157 Zg (Zn _ (.cons ZyV .nil) .nil .nil .nil (Zo _))
abbrev Zu0 (f:Zrt):Zd:=⟨[.one (.P),.one (.L)],[.one (.I .i64)],fun t K _ h=>f t.1 t.2.1 (fun r0 h=>K (r0,()) h) h⟩
abbrev ZAa (f59:Zku) (f63:ZlV) (f65:ZlU):Cfg:=Zu Tryz.prog [(58,ZqC f59),(156,ZqV f63),(157,ZqU f65)] 57 [] [] [] Zv
theorem ZxF (f59:Zku) (f63:ZlV) (f65:ZlU):Zw (ZAa f59 f63 f65) Tryz.f99 (.seq (.leaf) (.seq (.leaf) (.seq (.leaf) (.seq (.seq (.leaf) (.block (.loop [5,16] [.one (.L),.one (.I .i64)] [(4,4),(7,9),(17,31)] (.leaf)))) (.seq (.seq (.order (.take 0 (.take 1 (.take 2 (.take 3 (.take 5 (.take 6 (.take 7 (.take 8 (.take 9 (.take 10 (.take 11 (.take 4 (.take 12 .done)))))))))))))) (.leaf)) (.seq (.seq (.leaf) (.block (.loop [47] [.one (.I .i64)] [(11,11),(48,56)] (.seq (.leaf) (.seq (.leaf) (.seq (.block (.seq (.leaf) (.order (.take 0 (.take 1 (.take 2 (.take 3 (.take 4 .done)))))))) (.leaf))))))) (.leaf))))))) (Zu0 (ZbO f59 f63 f65)):=fun _ _ _ _=>by kernel_rfl
theorem ZyU:Zk Tryz.prog 99 (Zu0 XW):=okF (ZxF YW Yk Yj) Tryz.func99 Zg (Zn _ (.cons ZsS (.cons ZtY (.cons ZtX .nil))) .nil .nil .nil (Zo _))
abbrev ZuZ (f:Zrs):Zd:=⟨[.one (.P),.agg [.I .i64,.S,.S,.S,.B,.I .i64,.L]],[.one (.I .i64)],fun t K _ h=>f t.1 t.2.1 (fun r0 h=>K (r0,()) h) h⟩
abbrev Zz9 (f59:Zku) (f62:Zrv) (f66:Zrt):Cfg:=Zu Tryz.prog [(58,ZqC f59),(97,Zu2 f62),(99,Zu0 f66)] 65 [] [] [] Zv
theorem ZxE (f59:Zku) (f62:Zrv) (f66:Zrt):Zw (Zz9 f59 f62 f66) Tryz.f50 (.seq (.leaf) (.seq (.leaf) (.seq (.leaf) (.seq (.order (.take 0 (.take 1 (.take 2 (.take 3 (.take 4 (.take 5 (.take 6 (.take 7 .done))))))))) (.leaf))))) (ZuZ (ZaU f59 f62 f66)):=fun _ _ _ _=>by kernel_rfl
theorem ZyT:Zk Tryz.prog 50 (ZuZ Y9):=okF (ZxE YW Zt XW) Tryz.func50 Zg (Zn _ (.cons ZsS (.cons ZyW (.cons ZyU .nil))) .nil .nil .nil (Zo _))
abbrev ZuY (f:Zrr):Zd:=⟨[.one (.I .i64),.one (.S),.one (.P),.one (.P)],[],fun t K _ h=>f t.1 t.2.1 t.2.2.1 t.2.2.2.1 (fun h=>K (()) h) h⟩
abbrev Zz8:Cfg:=Zu Tryz.prog [] 13 [] [] [] Zv
theorem ZxD:Zw (Zz8) Tryz.f63 (.leaf) (ZuY Zge):=fun _ _ _ _=>by kernel_rfl
theorem ZyS:Zk Tryz.prog 63 (ZuY Zeh):=okF (ZxD) Tryz.func63 Zg (Zn _ .nil .nil .nil .nil (Zo _))
abbrev ZqB (f:Zkt):Zd:=⟨[.agg [.L,.L,.L,.L,.L],.one (.I .u8),.one (.S)],[.one (.L)],fun t K _ h=>f t.1 t.2.1 t.2.2.1 (fun r0 h=>K (r0,()) h) h⟩
abbrev Zz7 (f68:Zrr):Cfg:=Zu Tryz.prog [(63,ZuY f68)] 98 [] [] [] Zv
theorem ZxC (f68:Zrr):Zw (Zz7 f68) Tryz.f27 (.seq (.leaf) (.seq (.leaf) (.seq (.leaf) (.seq (.seq (.leaf) (.block (.seq (.leaf) (.cond (.seq (.leaf) (.block (.loop [25] [.one (.I .i64)] [(9,10),(26,35)] (.leaf)))) (.seq (.leaf) (.cond (.seq (.leaf) (.block (.loop [41] [.one (.I .i64)] [(11,12),(42,51)] (.leaf)))) (.seq (.leaf) (.cond (.seq (.leaf) (.block (.loop [57] [.one (.I .i64)] [(13,14),(58,67)] (.leaf)))) (.seq (.leaf) (.cond (.seq (.leaf) (.block (.loop [73] [.one (.I .i64)] [(15,15),(74,80)] (.leaf)))) (.seq (.leaf) (.cond (.seq (.leaf) (.block (.loop [86] [.one (.I .i64)] [(16,17),(87,96)] (.leaf)))) (.leaf))))))))))))) (.leaf))))) (ZqB (Zf1 f68)):=fun _ _ _ _=>by kernel_rfl
theorem ZsR:Zk Tryz.prog 27 (ZqB X6):=okF (ZxC Zeh) Tryz.func27 Zg (Zn _ (.cons ZyS .nil) .nil .nil .nil (Zo _))
abbrev Zw1 (f:Zrq):Zd:=⟨[.one (.I .i64),.one (.P)],[.one (.B)],fun t K _ h=>f t.1 t.2.1 (fun r0 h=>K (r0,()) h) h⟩
theorem ZyR:Zk Tryz.prog 159 (Zw1 ZaL):=ZcK Tryz.func159 (by kernel_rfl) (by kernel_rfl) fun _ _ _ _ h=>h
abbrev ZuX (f:Zrp):Zd:=⟨[.one (.P),.one (.I .u8),.clo 159 [.P]],[.one (.I .i64),.one (.B)],fun t K _ h=>f t.1 t.2.1 t.2.2.1 (fun r0 r1 h=>K (r0,r1,()) h) h⟩
abbrev Zz6 (f69:Zkt) (f70:Zrq):Cfg:=Zu Tryz.prog [(27,ZqB f69),(159,Zw1 f70)] 34 [] [] [] Zv
theorem ZxB (f69:Zkt) (f70:Zrq):Zw (Zz6 f69 f70) Tryz.f158 (.seq (.leaf) (.seq (.seq (.order (.take 0 (.take 1 (.take 2 (.take 7 (.take 8 (.take 9 (.take 10 (.take 11 (.take 15 (.take 3 (.take 4 (.take 5 (.take 6 (.take 12 (.take 13 (.take 14 .done))))))))))))))))) (.block (.loop [25] [.one (.I .i64)] [(6,7),(9,9),(26,33)] (.leaf)))) (.leaf))) (ZuX (Yv f69 f70)):=fun _ _ _ _=>by kernel_rfl
theorem ZyQ:Zk Tryz.prog 158 (ZuX ZY):=okF (ZxB X6 ZaL) Tryz.func158 Zg (Zn _ (.cons ZsR (.cons ZyR .nil)) .nil .nil .nil (Zo _))
abbrev ZuW (f:Zro):Zd:=⟨[.one (.P)],[.one (.I .i64),.one (.B)],fun t K _ h=>f t.1 (fun r0 r1 h=>K (r0,r1,()) h) h⟩
abbrev Zz5 (f71:Zrp):Cfg:=Zu Tryz.prog [(158,ZuX f71)] 9 [] [] [] Zv
theorem ZxA (f71:Zrp):Zw (Zz5 f71) Tryz.f100 (.leaf) (ZuW (Zbz f71)):=fun _ _ _ _=>by kernel_rfl
theorem ZyP:Zk Tryz.prog 100 (ZuW XD):=okF (ZxA ZY) Tryz.func100 Zg (Zn _ (.cons ZyQ .nil) .nil .nil .nil (Zo _))
theorem ZsN:ZnR Tryz.prog 79:=Znv Tryz.func79 (by kernel_rfl) (by kernel_rfl) (by kernel_rfl) (by kernel_rfl)
abbrev ZuV (f:Zrn):Zd:=⟨[.one (.M)],[.one (.M)],fun t K _ h=>f t.1 (fun r0 h=>K (r0,()) h) h⟩
abbrev Zz4:Cfg:=Zu Tryz.prog [] 9 [79] [] [] Zv
theorem Zxz:Zw (Zz4) Tryz.f187 (.leaf) (ZuV Ye):=fun _ _ _ _=>by kernel_rfl
theorem ZyO:Zk Tryz.prog 187 (ZuV Zz):=okF (Zxz) Tryz.func187 Zg (Zn _ .nil (.cons ZsN .nil) .nil .nil (Zo _))
abbrev ZuU (f:Zrm):Zd:=⟨[.one (.P)],[.one (.P)],fun t K _ h=>f t.1 (fun r0 h=>K (r0,()) h) h⟩
abbrev Zz3 (f73:Zrn):Cfg:=Zu Tryz.prog [(187,ZuV f73)] 15 [] [] [] Zv
theorem Zxy (f73:Zrn):Zw (Zz3 f73) Tryz.f127 (.leaf) (ZuU (ZaR f73)):=fun _ _ _ _=>by kernel_rfl
theorem ZyN:Zk Tryz.prog 127 (ZuU Y6):=okF (Zxy Zz) Tryz.func127 Zg (Zn _ (.cons ZyO .nil) .nil .nil .nil (Zo _))
abbrev ZuT (f:Zrl):Zd:=⟨[.one (.P)],[.one (.P)],fun t K _ h=>f t.1 (fun r0 h=>K (r0,()) h) h⟩
abbrev Zz2 (f74:Zrm):Cfg:=Zu Tryz.prog [(127,ZuU f74)] 23 [] [] [] Zv
theorem Zxx (f74:Zrm):Zw (Zz2 f74) Tryz.f72 (.seq (.leaf) (.seq (.leaf) (.seq (.order (.take 0 (.take 1 (.take 2 (.take 5 (.take 6 (.take 7 (.take 8 (.take 12 (.take 13 (.take 14 (.take 3 (.take 9 (.take 15 (.take 4 (.take 10 (.take 11 (.take 16 (.take 17 (.take 18 .done)))))))))))))))))))) (.leaf)))) (ZuT (Za3 f74)):=fun _ _ _ _=>by kernel_rfl
theorem ZyM:Zk Tryz.prog 72 (ZuT Y1):=okF (Zxx Y6) Tryz.func72 Zg (Zn _ (.cons ZyN .nil) .nil .nil .nil (Zo _))
abbrev ZsW (f:ZoT):Zd:=⟨[.one (.P),.agg [.I .u8,.S,.S,.S]],[.one (.P)],fun t K _ h=>f t.1 t.2.1 (fun r0 h=>K (r0,()) h) h⟩
abbrev Zz1 (f75:Zrl):Cfg:=Zu Tryz.prog [(72,ZuT f75)] 15 [] [] [] Zv
theorem Zxw (f75:Zrl):Zw (Zz1 f75) Tryz.f30 (.seq (.leaf) (.seq (.leaf) (.seq (.order (.take 0 (.take 1 (.take 2 (.take 3 (.take 4 (.take 5 (.take 6 (.take 7 (.take 8 .done)))))))))) (.leaf)))) (ZsW (Zcj f75)):=fun _ _ _ _=>by kernel_rfl
theorem ZwT:Zk Tryz.prog 30 (ZsW YV):=okF (Zxw Y1) Tryz.func30 Zg (Zn _ (.cons ZyM .nil) .nil .nil .nil (Zo _))
abbrev ZqT (f:ZlT):Zd:=⟨[.one (.P),.one (.I .i64)],[.one (.I .i64)],fun t K _ h=>f t.1 t.2.1 (fun r0 h=>K (r0,()) h) h⟩
abbrev Zz0:Cfg:=Zu Tryz.prog [] 22 [] [] [] Zv
theorem Zxv:Zw (Zz0) Tryz.f120 (.leaf) (ZqT ZaG):=fun _ _ _ _=>by kernel_rfl
theorem ZtW:Zk Tryz.prog 120 (ZqT Yb):=okF (Zxv) Tryz.func120 Zg (Zn _ .nil .nil .nil .nil (Zo _))
abbrev ZsV (f:ZoS):Zd:=⟨[.one (.P),.one (.I .i64)],[.clo 182 [.P,.P]],fun t K _ h=>f t.1 t.2.1 (fun r0 h=>K (r0,()) h) h⟩
abbrev ZzZ:Cfg:=Zu Tryz.prog [] 6 [] [] [] Zv
theorem Zxu:Zw (ZzZ) Tryz.f124 (.leaf) (ZsV Zbt):=fun _ _ _ _=>by kernel_rfl
theorem ZwS:Zk Tryz.prog 124 (ZsV YL):=okF (Zxu) Tryz.func124 Zg (Zn _ .nil .nil .nil .nil (Zo _))
abbrev ZqA (f:ZnS):Zd:=⟨[.one (.P),.one (.I .i64)],[.one (.I .i64)],fun t K _ h=>f t.1 t.2.1 (fun r0 h=>K (r0,()) h) h⟩
abbrev ZzY:Cfg:=Zu Tryz.prog [] 16 [] [] [] Zv
theorem Zxt:Zw (ZzY) Tryz.f122 (.leaf) (ZqA Xv):=fun _ _ _ _=>by kernel_rfl
theorem ZtV:Zk Tryz.prog 122 (ZqA ZH):=okF (Zxt) Tryz.func122 Zg (Zn _ .nil .nil .nil .nil (Zo _))
abbrev Zw6:List VT:=[.yl,.one (.P),.one (.P)]
abbrev Zw5:List VT:=[]
abbrev ZuS (f:ZoR):Zay:=⟨[.one (.P),.one (.P)],fun Y l t K h=>f Y l t.1 t.2.1 K h⟩
def ZzX (Y:Yld):Cfg:=Zu Tryz.prog [(122,(ZqA ZH))] 52 [] [] [] Y
theorem Zxs (f79:ZnS) (Y:Yld) (t:Y4 Zw6) (K:Y4 Zw5→HP) (Kp:Value→HP) (h:Zc):ZqG (Zu Tryz.prog [(122,ZqA f79)] 52 [] [] [] Y) Tryz.f182 (.seq (.leaf) (.seq (.leaf) (.block (.loop [5] [.one (.I .i64)] [(6,7),(19,51)] (.seq (.leaf) (.seq (.block (.seq (.leaf) (.seq (.order (.take 0 (.take 1 (.take 2 (.take 3 (.take 4 (.take 5 (.take 6 (.take 7 (.take 8 (.take 9 (.take 10 (.take 11 (.take 12 (.take 13 (.take 14 (.take 15 (.take 16 (.take 17 (.take 18 .done)))))))))))))))))))) (.leaf)))) (.leaf))))))) (Y4.evs Zw6 t) Zw5 K Kp h=ZaO f79 Y t.1 t.2.1 t.2.2.1 (fun h=>K (()) h) h:=by kernel_rfl
theorem ZwR:ZjJ Tryz.prog 182 (ZuS Yx):=fun Y hY=>Zp6 (c:=ZzX Y) Tryz.func182 (by kernel_rfl) (by kernel_rfl) rfl (Nat.le_of_ble_eq_true rfl) (Zn _ (.cons ZtV .nil) .nil .nil .nil hY) Zg (Zxs ZH Y)
abbrev ZuR (f:Zrk):Zd:=⟨[.one (.I .i64),.one (.I .i64)],[.one (.I .i64)],fun t K _ h=>f t.1 t.2.1 (fun r0 h=>K (r0,()) h) h⟩
abbrev ZzW:Cfg:=Zu Tryz.prog [] 11 [] [] [] Zv
theorem Zxr:Zw (ZzW) Tryz.f183 (.leaf) (ZuR Zfq):=fun _ _ _ _=>by kernel_rfl
theorem ZyL:Zk Tryz.prog 183 (ZuR Zcz):=okF (Zxr) Tryz.func183 Zg (Zn _ .nil .nil .nil .nil (Zo _))
abbrev ZsU (f:ZoQ):Zd:=⟨[.agg [.I .i64,.I .i64,.I .i64,.I .i64,.I .i64,.I .i64],.agg [.I .i64,.I .i64,.I .i64,.I .i64,.I .i64,.I .i64]],[.agg [.I .i64,.I .i64,.I .i64,.I .i64,.I .i64,.I .i64]],fun t K _ h=>f t.1 t.2.1 (fun r0 h=>K (r0,()) h) h⟩
abbrev ZzV (f81:Zrk):Cfg:=Zu Tryz.prog [(183,ZuR f81)] 53 [] [] [] Zv
theorem Zxq (f81:Zrk):Zw (ZzV f81) Tryz.f125 (.seq (.leaf) (.cut [5] [.one (.P)] [(6,31)] (.order (.take 0 (.take 2 (.take 5 (.take 7 (.take 10 (.take 12 (.take 15 (.take 17 (.take 20 (.take 22 (.take 1 (.take 3 (.take 6 (.take 8 (.take 11 (.take 13 (.take 16 (.take 18 (.take 21 (.take 23 (.fork 4 (.fork 9 (.fork 14 (.fork 19 (.fork 24 (.take 25 (.take 26 (.take 27 .done))) 26 (.take 24 (.take 25 (.take 27 .done)))) 26 (.take 19 (.take 24 (.take 25 (.take 27 .done))))) 26 (.take 14 (.take 19 (.take 24 (.take 25 (.take 27 .done)))))) 26 (.take 9 (.take 14 (.take 19 (.take 24 (.take 25 (.take 27 .done))))))) 26 (.take 4 (.take 9 (.take 14 (.take 19 (.take 24 (.take 25 (.take 27 .done))))))))))))))))))))))))))))) (.leaf))) (ZsU (Zek f81)):=fun _ _ _ _=>by kernel_rfl
theorem ZwQ:Zk Tryz.prog 125 (ZsU ZaA):=okF (Zxq Zcz) Tryz.func125 Zg (Zn _ (.cons ZyL .nil) .nil .nil .nil (Zo _))
abbrev ZuQ (f:Zrj):Zd:=⟨[.one (.P),.one (.I .i64)],[.agg [.I .i64,.I .i64,.I .i64,.I .i64,.I .i64,.I .i64],.one (.I .i64)],fun t K _ h=>f t.1 t.2.1 (fun r0 r1 h=>K (r0,r1,()) h) h⟩
abbrev ZzU (f77:ZlT) (f78:ZoS) (f82:ZoQ) (f80:ZoR):Cfg:=Zu Tryz.prog [(120,ZqT f77),(124,ZsV f78),(125,ZsU f82)] 25 [] [] [(182,ZuS f80)] Zv
theorem Zxp (f77:ZlT) (f78:ZoS) (f82:ZoQ) (f80:ZoR):Zw (ZzU f77 f78 f82 f80) Tryz.f69 (.seq (.leaf) (.seq (.leaf) (.seq (.leaf) (.seq (.seq (.leaf) (.block (.range [.agg [.I .i64,.I .i64,.I .i64,.I .i64,.I .i64,.I .i64,.I .i64]] (.leaf) (.leaf)))) (.leaf))))) (ZuQ (Za6 f77 f78 f82 f80)):=fun _ _ _ _=>by kernel_rfl
theorem ZyK:Zk Tryz.prog 69 (ZuQ Xj):=okF (Zxp Yb YL ZaA Yx) Tryz.func69 Zg (Zn _ (.cons ZtW (.cons ZwS (.cons ZwQ .nil))) .nil .nil (.cons ZwR .nil) (Zo _))
abbrev Zqz (f:Zks):Zd:=⟨[.one (.P),.one (.I .i64)],[.agg [.I .i64,.I .i64,.I .i64,.I .i64,.I .i64,.I .i64],.one (.I .i64)],fun t K _ h=>f t.1 t.2.1 (fun r0 r1 h=>K (r0,r1,()) h) h⟩
abbrev ZzT (f83:Zrj):Cfg:=Zu Tryz.prog [(69,ZuQ f83)] 17 [] [] [] Zv
theorem Zxo (f83:Zrj):Zw (ZzT f83) Tryz.f161 (.leaf) (Zqz (Zby f83)):=fun _ _ _ _=>by kernel_rfl
theorem ZsQ:Zk Tryz.prog 161 (Zqz Yh):=okF (Zxo Xj) Tryz.func161 Zg (Zn _ (.cons ZyK .nil) .nil .nil .nil (Zo _))
abbrev ZuP (f:Zri):Zd:=⟨[.one (.P),.one (.I .i64)],[.one (.I .i64),.one (.I .i64)],fun t K _ h=>f t.1 t.2.1 (fun r0 r1 h=>K (r0,r1,()) h) h⟩
abbrev ZzS (f84:Zks):Cfg:=Zu Tryz.prog [(161,Zqz f84)] 27 [] [] [] Zv
theorem Zxn (f84:Zks):Zw (ZzS f84) Tryz.f162 (.leaf) (ZuP (Zcn f84)):=fun _ _ _ _=>by kernel_rfl
theorem ZyJ:Zk Tryz.prog 162 (ZuP Zai):=okF (Zxn Yh) Tryz.func162 Zg (Zn _ (.cons ZsQ .nil) .nil .nil .nil (Zo _))
abbrev ZsT (f:ZoP):Zd:=⟨[.one (.P),.one (.I .i64)],[.one (.I .i64),.one (.I .i64)],fun t K _ h=>f t.1 t.2.1 (fun r0 r1 h=>K (r0,r1,()) h) h⟩
abbrev ZzR (f77:ZlT) (f78:ZoS) (f79:ZnS) (f80:ZoR):Cfg:=Zu Tryz.prog [(120,ZqT f77),(124,ZsV f78),(122,ZqA f79)] 33 [] [] [(182,ZuS f80)] Zv
theorem Zxm (f77:ZlT) (f78:ZoS) (f79:ZnS) (f80:ZoR):Zw (ZzR f77 f78 f79 f80) Tryz.f202 (.seq (.leaf) (.seq (.leaf) (.seq (.leaf) (.seq (.seq (.leaf) (.block (.range [.agg [.I .i64,.I .i64,.I .i64,.I .i64,.I .i64,.I .i64,.I .i64]] (.leaf) (.block (.seq (.order (.take 1 (.take 0 (.take 2 (.take 4 (.take 5 (.take 3 (.take 6 (.take 7 .done))))))))) (.leaf)))))) (.leaf))))) (ZsT (ZaP f77 f78 f79 f80)):=fun _ _ _ _=>by kernel_rfl
theorem ZwP:Zk Tryz.prog 202 (ZsT Yy):=okF (Zxm Yb YL ZH Yx) Tryz.func202 Zg (Zn _ (.cons ZtW (.cons ZwS (.cons ZtV .nil))) .nil .nil (.cons ZwR .nil) (Zo _))
abbrev ZuO (f:Zrh):Zd:=⟨[.one (.P),.one (.I .i64)],[.one (.I .i64),.one (.I .i64)],fun t K _ h=>f t.1 t.2.1 (fun r0 r1 h=>K (r0,r1,()) h) h⟩
abbrev ZzQ (f86:ZoP):Cfg:=Zu Tryz.prog [(202,ZsT f86)] 16 [] [] [] Zv
theorem Zxl (f86:ZoP):Zw (ZzQ f86) Tryz.f163 (.leaf) (ZuO (Za2 f86)):=fun _ _ _ _=>by kernel_rfl
theorem ZyI:Zk Tryz.prog 163 (ZuO Y0):=okF (Zxl Yy) Tryz.func163 Zg (Zn _ (.cons ZwP .nil) .nil .nil .nil (Zo _))
abbrev ZuN (f:Zrg):Zd:=⟨[.one (.P),.one (.I .i64)],[.one (.I .i64),.one (.I .i64)],fun t K _ h=>f t.1 t.2.1 (fun r0 r1 h=>K (r0,r1,()) h) h⟩
abbrev ZzP (f84:Zks):Cfg:=Zu Tryz.prog [(161,Zqz f84)] 17 [] [] [] Zv
theorem Zxk (f84:Zks):Zw (ZzP f84) Tryz.f164 (.leaf) (ZuN (ZbQ f84)):=fun _ _ _ _=>by kernel_rfl
theorem ZyH:Zk Tryz.prog 164 (ZuN XY):=okF (Zxk Yh) Tryz.func164 Zg (Zn _ (.cons ZsQ .nil) .nil .nil .nil (Zo _))
abbrev ZqS (f:ZlS):Zd:=⟨[.one (.P)],[.one (.I .i64)],fun t K _ h=>f t.1 (fun r0 h=>K (r0,()) h) h⟩
abbrev ZzO:Cfg:=Zu Tryz.prog [] 9 [] [] [] Zv
theorem Zxj:Zw (ZzO) Tryz.f32 (.leaf) (ZqS Zax):=fun _ _ _ _=>by kernel_rfl
theorem ZtU:Zk Tryz.prog 32 (ZqS Z7):=okF (Zxj) Tryz.func32 Zg (Zn _ .nil .nil .nil .nil (Zo _))
abbrev Zw0 (f:Zrf):Zd:=⟨[.one (.I .i64),.one (.P),.one (.P)],[.one (.B)],fun t K _ h=>f t.1 t.2.1 t.2.2.1 (fun r0 h=>K (r0,()) h) h⟩
theorem ZyG:Zk Tryz.prog 165 (Zw0 Zaq):=ZcK Tryz.func165 (by kernel_rfl) (by kernel_rfl) fun _ _ _ _ h=>h
abbrev ZuM (f:Zre):Zd:=⟨[.one (.P),.one (.I .u8),.clo 165 [.P,.P]],[.one (.I .i64),.one (.B)],fun t K _ h=>f t.1 t.2.1 t.2.2.1 (fun r0 r1 h=>K (r0,r1,()) h) h⟩
abbrev ZzN (f69:Zkt) (f90:Zrf):Cfg:=Zu Tryz.prog [(27,ZqB f69),(165,Zw0 f90)] 34 [] [] [] Zv
theorem Zxi (f69:Zkt) (f90:Zrf):Zw (ZzN f69 f90) Tryz.f158 (.seq (.leaf) (.seq (.seq (.order (.take 0 (.take 1 (.take 2 (.take 7 (.take 8 (.take 9 (.take 10 (.take 11 (.take 15 (.take 3 (.take 4 (.take 5 (.take 6 (.take 12 (.take 13 (.take 14 .done))))))))))))))))) (.block (.loop [25] [.one (.I .i64)] [(6,7),(9,9),(26,33)] (.leaf)))) (.leaf))) (ZuM (Yr f69 f90)):=fun _ _ _ _=>by kernel_rfl
theorem ZyF:Zk Tryz.prog 158 (ZuM ZS):=okF (Zxi X6 Zaq) Tryz.func158 Zg (Zn _ (.cons ZsR (.cons ZyG .nil)) .nil .nil .nil (Zo _))
abbrev ZuL (f:Zrd):Zd:=⟨[.one (.P)],[.one (.I .i64),.one (.B)],fun t K _ h=>f t.1 (fun r0 r1 h=>K (r0,r1,()) h) h⟩
abbrev ZzM (f76:ZoT) (f84:Zks) (f85:Zri) (f87:Zrh) (f88:Zrg) (f89:ZlS) (f91:Zre):Cfg:=Zu Tryz.prog [(30,ZsW f76),(161,Zqz f84),(162,ZuP f85),(163,ZuO f87),(164,ZuN f88),(32,ZqS f89),(158,ZuM f91)] 96 [] [] [] Zv
theorem Zxh (f76:ZoT) (f84:Zks) (f85:Zri) (f87:Zrh) (f88:Zrg) (f89:ZlS) (f91:Zre):Zw (ZzM f76 f84 f85 f87 f88 f89 f91) Tryz.f101 (.seq (.leaf) (.seq (.leaf) (.seq (.leaf) (.seq (.leaf) (.seq (.leaf) (.seq (.leaf) (.seq (.leaf) (.cut [13] [.one (.P)] [(69,90)] (.order (.take 0 (.take 2 (.take 4 (.take 19 (.take 20 (.take 1 (.take 5 (.take 6 (.take 7 (.take 8 (.take 9 (.take 10 (.take 11 (.take 12 (.take 13 (.take 14 (.take 15 (.take 16 (.take 17 (.take 18 (.fork 3 (.take 21 (.take 22 (.take 23 .done))) 22 (.take 3 (.take 21 (.take 23 .done))))))))))))))))))))))))) (.leaf))))))))) (ZuL (ZaT f76 f84 f85 f87 f88 f89 f91)):=fun _ _ _ _=>by kernel_rfl
theorem ZyE:Zk Tryz.prog 101 (ZuL Y8):=okF (Zxh YV Yh Zai Y0 XY Z7 ZS) Tryz.func101 Zg (Zn _ (.cons ZwT (.cons ZsQ (.cons ZyJ (.cons ZyI (.cons ZyH (.cons ZtU (.cons ZyF .nil))))))) .nil .nil .nil (Zo _))
abbrev ZwZ (f:Zrc):Zd:=⟨[.one (.I .i64),.one (.P)],[.one (.B)],fun t K _ h=>f t.1 t.2.1 (fun r0 h=>K (r0,()) h) h⟩
theorem ZyD:Zk Tryz.prog 167 (ZwZ Za4):=ZcK Tryz.func167 (by kernel_rfl) (by kernel_rfl) fun _ _ _ _ h=>h
abbrev ZuK (f:Zrb):Zd:=⟨[.one (.P),.one (.I .u8),.clo 167 [.P]],[.one (.I .i64),.one (.B)],fun t K _ h=>f t.1 t.2.1 t.2.2.1 (fun r0 r1 h=>K (r0,r1,()) h) h⟩
abbrev ZzL (f69:Zkt) (f93:Zrc):Cfg:=Zu Tryz.prog [(27,ZqB f69),(167,ZwZ f93)] 34 [] [] [] Zv
theorem Zxg (f69:Zkt) (f93:Zrc):Zw (ZzL f69 f93) Tryz.f158 (.seq (.leaf) (.seq (.seq (.order (.take 0 (.take 1 (.take 2 (.take 7 (.take 8 (.take 9 (.take 10 (.take 11 (.take 15 (.take 3 (.take 4 (.take 5 (.take 6 (.take 12 (.take 13 (.take 14 .done))))))))))))))))) (.block (.loop [25] [.one (.I .i64)] [(6,7),(9,9),(26,33)] (.leaf)))) (.leaf))) (ZuK (YB f69 f93)):=fun _ _ _ _=>by kernel_rfl
theorem ZyC:Zk Tryz.prog 158 (ZuK Z2):=okF (Zxg X6 Za4) Tryz.func158 Zg (Zn _ (.cons ZsR (.cons ZyD .nil)) .nil .nil .nil (Zo _))
abbrev ZuJ (f:Zra):Zd:=⟨[.one (.P)],[.one (.I .i64),.one (.B)],fun t K _ h=>f t.1 (fun r0 r1 h=>K (r0,r1,()) h) h⟩
abbrev ZzK (f94:Zrb):Cfg:=Zu Tryz.prog [(158,ZuK f94)] 9 [] [] [] Zv
theorem Zxf (f94:Zrb):Zw (ZzK f94) Tryz.f102 (.leaf) (ZuJ (ZbU f94)):=fun _ _ _ _=>by kernel_rfl
theorem ZyB:Zk Tryz.prog 102 (ZuJ X2):=okF (Zxf Z2) Tryz.func102 Zg (Zn _ (.cons ZyC .nil) .nil .nil .nil (Zo _))
abbrev ZuI (f:Zq9):Zd:=⟨[.one (.L),.agg [.I .i64,.S,.S,.S,.B,.I .i64,.L]],[.clo 255 [.P,.P]],fun t K _ h=>f t.1 t.2.1 (fun r0 h=>K (r0,()) h) h⟩
abbrev ZzJ:Cfg:=Zu Tryz.prog [] 6 [] [] [] Zv
theorem Zxe:Zw (ZzJ) Tryz.f209 (.leaf) (ZuI ZdJ):=fun _ _ _ _=>by kernel_rfl
theorem ZyA:Zk Tryz.prog 209 (ZuI ZcA):=okF (Zxe) Tryz.func209 Zg (Zn _ .nil .nil .nil .nil (Zo _))
abbrev ZuH (f:Zq8):Zd:=⟨[.agg [.S,.S,.B,.I .i64,.I .u8,.S,.I .u8,.I .i64,.I .i64,.B,.I .i64,.B],.one (.P),.one (.P),.one (.P)],[.one (.B)],fun t K _ h=>f t.1 t.2.1 t.2.2.1 t.2.2.2.1 (fun r0 h=>K (r0,()) h) h⟩
abbrev ZzI:Cfg:=Zu Tryz.prog [] 28 [] [] [] Zv
theorem Zxd:Zw (ZzI) Tryz.f278 (.leaf) (ZuH Zc7):=fun _ _ _ _=>by kernel_rfl
theorem Zyz:Zk Tryz.prog 278 (ZuH Zbn):=okF (Zxd) Tryz.func278 Zg (Zn _ .nil .nil .nil .nil (Zo _))
abbrev ZuG (f:Zq7):Zd:=⟨[.one (.L),.clo 278 [.P,.P,.P]],[.one (.I .i64)],fun t K _ h=>f t.1 t.2.1 (fun r0 h=>K (r0,()) h) h⟩
abbrev ZzH (f97:Zq8):Cfg:=Zu Tryz.prog [(278,ZuH f97)] 19 [] [] [] Zv
theorem Zxc (f97:Zq8):Zw (ZzH f97) Tryz.f294 (.seq (.leaf) (.seq (.seq (.leaf) (.block (.loop [8] [.one (.I .i64)] [(4,5),(9,18)] (.leaf)))) (.leaf))) (ZuG (Yp f97)):=fun _ _ _ _=>by kernel_rfl
theorem Zyy:Zk Tryz.prog 294 (ZuG ZZ):=okF (Zxc Zbn) Tryz.func294 Zg (Zn _ (.cons Zyz .nil) .nil .nil .nil (Zo _))
abbrev ZuF (f:Zq6):Zd:=⟨[.one (.L),.clo 278 [.P,.P,.P]],[.one (.B)],fun t K _ h=>f t.1 t.2.1 (fun r0 h=>K (r0,()) h) h⟩
abbrev ZzG (f98:Zq7):Cfg:=Zu Tryz.prog [(294,ZuG f98)] 9 [] [] [] Zv
theorem Zxb (f98:Zq7):Zw (ZzG f98) Tryz.f279 (.leaf) (ZuF (Yl f98)):=fun _ _ _ _=>by kernel_rfl
theorem Zyx:Zk Tryz.prog 279 (ZuF ZT):=okF (Zxb ZZ) Tryz.func279 Zg (Zn _ (.cons Zyy .nil) .nil .nil .nil (Zo _))
abbrev Zn5 (f:Zn6):Zd:=⟨[.one (.L),.one (.I .i64),.one (.S)],[.one (.B)],fun t K _ h=>f t.1 t.2.1 t.2.2.1 (fun r0 h=>K (r0,()) h) h⟩
abbrev Zwt (f99:Zq6):Cfg:=Zu Tryz.prog [(279,ZuF f99)] 32 [] [] [] Zv
theorem ZtT (f99:Zq6):Zw (Zwt f99) Tryz.f256 (.leaf) (Zn5 (Zcr f99)):=fun _ _ _ _=>by kernel_rfl
theorem ZuE:Zk Tryz.prog 256 (Zn5 Xx):=okF (ZtT ZT) Tryz.func256 Zg (Zn _ (.cons Zyx .nil) .nil .nil .nil (Zo _))
abbrev Zq5:List VT:=[.yl,.one (.P),.one (.P)]
abbrev Zq4:List VT:=[]
abbrev Zq3 (f:ZmA):Zay:=⟨[.one (.P),.one (.P)],fun Y l t K h=>f Y l t.1 t.2.1 K h⟩
def Zws (Y:Yld):Cfg:=Zu Tryz.prog [(256,(Zn5 Xx))] 33 [] [] [] Y
theorem ZtS (f100:Zn6) (Y:Yld) (t:Y4 Zq5) (K:Y4 Zq4→HP) (Kp:Value→HP) (h:Zc):ZqG (Zu Tryz.prog [(256,Zn5 f100)] 33 [] [] [] Y) Tryz.f255 (.seq (.leaf) (.block (.loop [8] [.one (.I .i64)] [(4,5),(9,32)] (.leaf)))) (Y4.evs Zq5 t) Zq4 K Kp h=ZcT f100 Y t.1 t.2.1 t.2.2.1 (fun h=>K (()) h) h:=by kernel_rfl
theorem ZuD:ZjJ Tryz.prog 255 (Zq3 Zbo):=fun Y hY=>Zp6 (c:=Zws Y) Tryz.func255 (by kernel_rfl) (by kernel_rfl) rfl (Nat.le_of_ble_eq_true rfl) (Zn _ (.cons ZuE .nil) .nil .nil .nil hY) Zg (ZtS Xx Y)
abbrev Zn4 (f:Zi8):Zd:=⟨[.agg [.S,.S,.B,.I .i64,.I .u8,.S,.I .u8,.I .i64,.I .i64,.B,.I .i64,.B],.agg [.I .i64,.S,.S,.S,.B,.I .i64,.L]],[.agg [.S,.S,.S,.B]],fun t K _ h=>f t.1 t.2.1 (fun r0 h=>K (r0,()) h) h⟩
abbrev Zwr:Cfg:=Zu Tryz.prog [] 36 [] [] [] Zv
theorem ZtR:Zw (Zwr) Tryz.f210 (.leaf) (Zn4 Zdl):=fun _ _ _ _=>by kernel_rfl
theorem ZqR:Zk Tryz.prog 210 (Zn4 XP):=okF (ZtR) Tryz.func210 Zg (Zn _ .nil .nil .nil .nil (Zo _))
abbrev ZpO (f:Zmz):Zd:=⟨[.one (.L),.agg [.I .i64,.S,.S,.S,.B,.I .i64,.L]],[.one (.L)],fun t K _ h=>f t.1 t.2.1 (fun r0 h=>K (r0,()) h) h⟩
abbrev Zwq (f96:Zq9) (f102:Zi8) (f101:ZmA):Cfg:=Zu Tryz.prog [(209,ZuI f96),(210,Zn4 f102)] 23 [] [] [(255,Zq3 f101)] Zv
theorem ZtQ (f96:Zq9) (f102:Zi8) (f101:ZmA):Zw (Zwq f96 f102 f101) Tryz.f171 (.seq (.leaf) (.seq (.leaf) (.seq (.seq (.leaf) (.block (.range [.one (.I .i64),.agg [.S,.S,.B,.I .i64,.I .u8,.S,.I .u8,.I .i64,.I .i64,.B,.I .i64,.B]] (.leaf) (.leaf)))) (.leaf)))) (ZpO (ZdK f96 f102 f101)):=fun _ _ _ _=>by kernel_rfl
theorem ZuC:Zk Tryz.prog 171 (ZpO Zbp):=okF (ZtQ ZcA XP Zbo) Tryz.func171 Zg (Zn _ (.cons ZyA (.cons ZqR .nil)) .nil .nil (.cons ZuD .nil) (Zo _))
abbrev ZpN (f:Zmy):Zd:=⟨[.one (.S)],[.agg [.I .u8,.S,.S,.S]],fun t K _ h=>f t.1 (fun r0 h=>K (r0,()) h) h⟩
abbrev Zwp:Cfg:=Zu Tryz.prog [] 5 [] [] [] Zv
theorem ZtP:Zw (Zwp) Tryz.f31 (.leaf) (ZpN ZcR):=fun _ _ _ _=>by kernel_rfl
theorem ZuB:Zk Tryz.prog 31 (ZpN ZaD):=okF (ZtP) Tryz.func31 Zg (Zn _ .nil .nil .nil .nil (Zo _))
abbrev ZpM (f:Zmx):Zd:=⟨[.one (.P),.agg [.S,.S,.B,.I .i64,.I .u8,.S,.I .u8,.I .i64,.I .i64,.B,.I .i64,.B]],[.one (.P)],fun t K _ h=>f t.1 t.2.1 (fun r0 h=>K (r0,()) h) h⟩
abbrev Zwo (f102:Zi8) (f104:Zmy) (f76:ZoT):Cfg:=Zu Tryz.prog [(210,Zn4 f102),(31,ZpN f104),(30,ZsW f76)] 43 [] [] [] Zv
theorem ZtO (f102:Zi8) (f104:Zmy) (f76:ZoT):Zw (Zwo f102 f104 f76) Tryz.f211 (.seq (.leaf) (.cut [5] [.one (.P)] [(7,12)] (.order (.take 1 (.take 2 (.take 3 (.take 0 (.take 4 (.fork 5 (.take 6 (.take 7 .done)) 6 (.take 5 (.take 7 .done))))))))) (.seq (.leaf) (.cut [] [] [(16,33)] (.leaf) (.seq (.order (.take 0 (.take 1 (.take 2 (.take 3 (.take 4 (.take 5 (.take 6 (.take 7 (.take 8 (.take 9 .done))))))))))) (.leaf)))))) (ZpM (ZbS f102 f104 f76)):=fun _ _ _ _=>by kernel_rfl
theorem ZuA:Zk Tryz.prog 211 (ZpM X0):=okF (ZtO XP ZaD YV) Tryz.func211 Zg (Zn _ (.cons ZqR (.cons ZuB (.cons ZwT .nil))) .nil .nil .nil (Zo _))
abbrev ZpL (f:Zmw):Zd:=⟨[.one (.P),.one (.I .i64)],[.one (.I .i64),.one (.I .i64)],fun t K _ h=>f t.1 t.2.1 (fun r0 r1 h=>K (r0,r1,()) h) h⟩
abbrev Zwn (f86:ZoP):Cfg:=Zu Tryz.prog [(202,ZsT f86)] 17 [] [] [] Zv
theorem ZtN (f86:ZoP):Zw (Zwn f86) Tryz.f212 (.leaf) (ZpL (Za1 f86)):=fun _ _ _ _=>by kernel_rfl
theorem Zuz:Zk Tryz.prog 212 (ZpL YZ):=okF (ZtN Yy) Tryz.func212 Zg (Zn _ (.cons ZwP .nil) .nil .nil .nil (Zo _))
abbrev Zq2 (f:Zmv):Zd:=⟨[.one (.P),.one (.I .i64),.one (.I .i64),.one (.I .i64),.one (.I .i64)],[.one (.B),.one (.I .i64)],fun t K _ h=>f t.1 t.2.1 t.2.2.1 t.2.2.2.1 t.2.2.2.2.1 (fun r0 r1 h=>K (r0,r1,()) h) h⟩
theorem Zuy:Zk Tryz.prog 215 (Zq2 Zbj):=ZcK Tryz.func215 (by kernel_rfl) (by kernel_rfl) fun _ _ _ _ h=>h
abbrev Zq1 (f:Zmu):Zd:=⟨[.one (.P),.one (.I .i64),.one (.I .i64)],[.one (.I .i64),.one (.B),.one (.I .i64)],fun t K _ h=>f t.1 t.2.1 t.2.2.1 (fun r0 r1 r2 h=>K (r0,r1,r2,()) h) h⟩
theorem Zux:Zk Tryz.prog 219 (Zq1 Zbq):=ZcK Tryz.func219 (by kernel_rfl) (by kernel_rfl) fun _ _ _ _ h=>h
abbrev ZpK (f:Zmt):Zd:=⟨[.one (.P),.one (.I .i64),.one (.B),.one (.I .i64)],[.one (.B)],fun t K _ h=>f t.1 t.2.1 t.2.2.1 t.2.2.2.1 (fun r0 h=>K (r0,()) h) h⟩
abbrev Zwm:Cfg:=Zu Tryz.prog [] 19 [] [] [] Zv
theorem ZtM:Zw (Zwm) Tryz.f218 (.leaf) (ZpK Zc6):=fun _ _ _ _=>by kernel_rfl
theorem Zuw:Zk Tryz.prog 218 (ZpK Zbl):=okF (ZtM) Tryz.func218 Zg (Zn _ .nil .nil .nil .nil (Zo _))
abbrev Zq0 (f:Zms):Zd:=⟨[.one (.P),.one (.I .i64),.one (.I .i64)],[.one (.I .i64),.one (.I .i64)],fun t K _ h=>f t.1 t.2.1 t.2.2.1 (fun r0 r1 h=>K (r0,r1,()) h) h⟩
theorem Zuv:Zk Tryz.prog 220 (Zq0 Zbi):=ZcK Tryz.func220 (by kernel_rfl) (by kernel_rfl) fun _ _ _ _ h=>h
abbrev ZqZ (f:Zmr):Zd:=⟨[.one (.P)],[.one (.P)],fun t K _ h=>f t.1 (fun r0 h=>K (r0,()) h) h⟩
theorem Zuu:Zk Tryz.prog 75 (ZqZ Zbr):=ZcK Tryz.func75 (by kernel_rfl) (by kernel_rfl) fun _ _ _ _ h=>h
abbrev ZqY (f:Zmq):Zd:=⟨[.one (.P),.one (.I .i64),.one (.I .i64),.one (.I .i64)],[.one (.I .i64),.one (.B),.one (.I .i64)],fun t K _ h=>f t.1 t.2.1 t.2.2.1 t.2.2.2.1 (fun r0 r1 r2 h=>K (r0,r1,r2,()) h) h⟩
theorem Zut:Zk Tryz.prog 223 (ZqY Zch):=ZcK Tryz.func223 (by kernel_rfl) (by kernel_rfl) fun _ _ _ _ h=>h
abbrev ZpJ (f:Zmp):Zd:=⟨[.agg [.S,.S,.B,.I .i64,.I .u8,.S,.I .u8,.I .i64,.I .i64,.B,.I .i64,.B],.one (.I .i64),.one (.I .i64),.one (.I .i64)],[.one (.B)],fun t K _ h=>f t.1 t.2.1 t.2.2.1 t.2.2.2.1 (fun r0 h=>K (r0,()) h) h⟩
abbrev Zwl:Cfg:=Zu Tryz.prog [] 41 [] [] [] Zv
theorem ZtL:Zw (Zwl) Tryz.f224 (.leaf) (ZpJ ZcU):=fun _ _ _ _=>by kernel_rfl
theorem Zus:Zk Tryz.prog 224 (ZpJ ZaF):=okF (ZtL) Tryz.func224 Zg (Zn _ .nil .nil .nil .nil (Zo _))
abbrev ZpI (f:Zmo):Zd:=⟨[.one (.P),.agg [.S,.S,.B,.I .i64,.I .u8,.S,.I .u8,.I .i64,.I .i64,.B,.I .i64,.B],.agg [.P,.P]],[.one (.B)],fun t K _ h=>f t.1 t.2.1 t.2.2.1 (fun r0 h=>K (r0,()) h) h⟩
abbrev Zwk (f105:Zmx) (f84:Zks) (f106:Zmw) (f107:Zmv) (f108:Zmu) (f109:Zmt) (f110:Zms) (f111:Zmr) (f112:Zmq) (f89:ZlS) (f113:Zmp):Cfg:=Zu Tryz.prog [(211,ZpM f105),(161,Zqz f84),(212,ZpL f106),(215,Zq2 f107),(219,Zq1 f108),(218,ZpK f109),(220,Zq0 f110),(75,ZqZ f111),(223,ZqY f112),(32,ZqS f89),(224,ZpJ f113)] 140 [] [] [] Zv
theorem ZtK (f105:Zmx) (f84:Zks) (f106:Zmw) (f107:Zmv) (f108:Zmu) (f109:Zmt) (f110:Zms) (f111:Zmr) (f112:Zmq) (f89:ZlS) (f113:Zmp):Zw (Zwk f105 f84 f106 f107 f108 f109 f110 f111 f112 f89 f113) Tryz.f172 (.seq (.leaf) (.seq (.leaf) (.seq (.leaf) (.seq (.leaf) (.cut [12,13] [.one (.P),.one (.P)] [(41,50)] (.order (.take 0 (.take 1 (.take 2 (.take 3 (.take 5 (.take 6 (.take 7 (.take 8 (.take 4 (.take 9 (.fork 10 (.take 11 (.take 12 (.take 13 .done))) 11 (.take 10 (.take 12 (.take 13 .done))))))))))))))) (.seq (.seq (.leaf) (.block (.seq (.leaf) (.cond (.leaf) (.seq (.leaf) (.cond (.leaf) (.seq (.leaf) (.cond (.seq (.leaf) (.seq (.leaf) (.seq (.leaf) (.seq (.order (.take 0 (.take 1 (.take 2 (.take 4 (.take 5 (.take 6 (.take 3 (.take 7 (.take 8 (.take 9 (.take 10 (.take 11 (.take 12 .done)))))))))))))) (.leaf))))) (.leaf))))))))) (.seq (.order (.take 1 (.take 3 (.take 0 (.take 2 (.take 5 (.take 4 (.take 6 (.take 7 .done))))))))) (.leaf)))))))) (ZpI (ZbV f105 f84 f106 f107 f108 f109 f110 f111 f112 f89 f113)):=fun _ _ _ _=>by kernel_rfl
theorem Zur:Zk Tryz.prog 172 (ZpI X3):=okF (ZtK X0 Yh YZ Zbj Zbq Zbl Zbi Zbr Zch Z7 ZaF) Tryz.func172 Zg (Zn _ (.cons ZuA (.cons ZsQ (.cons Zuz (.cons Zuy (.cons Zux (.cons Zuw (.cons Zuv (.cons Zuu (.cons Zut (.cons ZtU (.cons Zus .nil))))))))))) .nil .nil .nil (Zo _))
abbrev ZpH (f:Zmn):Zd:=⟨[.one (.P)],[.one (.I .i64),.one (.B)],fun t K _ h=>f t.1 (fun r0 r1 h=>K (r0,r1,()) h) h⟩
abbrev Zwj (f103:Zmz) (f114:Zmo):Cfg:=Zu Tryz.prog [(171,ZpO f103),(172,ZpI f114)] 66 [] [] [] Zv
theorem ZtJ (f103:Zmz) (f114:Zmo):Zw (Zwj f103 f114) Tryz.f103 (.seq (.leaf) (.seq (.seq (.order (.take 0 (.take 1 (.take 2 (.take 8 (.take 9 (.take 10 (.take 14 (.take 3 (.take 4 (.take 5 (.take 6 (.take 7 (.take 11 (.take 12 (.take 13 .done)))))))))))))))) (.block (.loop [21] [.one (.I .i64)] [(2,3),(5,6),(22,65)] (.seq (.leaf) (.seq (.leaf) (.seq (.block (.seq (.leaf) (.seq (.leaf) (.cut [] [] [(36,48)] (.leaf) (.seq (.order (.take 0 (.take 2 (.take 3 (.take 4 (.take 10 (.take 1 (.take 5 (.take 6 (.take 7 (.take 8 (.take 9 (.take 11 (.take 12 (.take 13 (.take 14 .done)))))))))))))))) (.leaf)))))) (.leaf))))))) (.leaf))) (ZpH (ZbA f103 f114)):=fun _ _ _ _=>by kernel_rfl
theorem Zuq:Zk Tryz.prog 103 (ZpH XE):=okF (ZtJ Zbp X3) Tryz.func103 Zg (Zn _ (.cons ZuC (.cons Zur .nil)) .nil .nil .nil (Zo _))
abbrev Zn3 (f:Zi7):Zd:=⟨[.one (.P),.one (.I .i64)],[.one (.I .i64)],fun t K _ h=>f t.1 t.2.1 (fun r0 h=>K (r0,()) h) h⟩
abbrev Zwi:Cfg:=Zu Tryz.prog [] 22 [] [] [] Zv
theorem ZtI:Zw (Zwi) Tryz.f64 (.leaf) (Zn3 ZbK):=fun _ _ _ _=>by kernel_rfl
theorem ZqQ:Zk Tryz.prog 64 (Zn3 YR):=okF (ZtI) Tryz.func64 Zg (Zn _ .nil .nil .nil .nil (Zo _))
abbrev Zn2 (f:Zi6):Zd:=⟨[.one (.P),.one (.I .i64)],[.one (.B)],fun t K _ h=>f t.1 t.2.1 (fun r0 h=>K (r0,()) h) h⟩
abbrev Zwh:Cfg:=Zu Tryz.prog [] 25 [] [] [] Zv
theorem ZtH:Zw (Zwh) Tryz.f225 (.leaf) (Zn2 Zbf):=fun _ _ _ _=>by kernel_rfl
theorem ZqP:Zk Tryz.prog 225 (Zn2 YG):=okF (ZtH) Tryz.func225 Zg (Zn _ .nil .nil .nil .nil (Zo _))
abbrev ZpG (f:Zmm):Zd:=⟨[.one (.P),.one (.I .i64)],[.one (.B),.one (.I .i64)],fun t K _ h=>f t.1 t.2.1 (fun r0 r1 h=>K (r0,r1,()) h) h⟩
abbrev Zwg (f116:Zi7) (f117:Zi6):Cfg:=Zu Tryz.prog [(64,Zn3 f116),(225,Zn2 f117)] 16 [] [] [] Zv
theorem ZtG (f116:Zi7) (f117:Zi6):Zw (Zwg f116 f117) Tryz.f176 (.leaf) (ZpG (ZbL f116 f117)):=fun _ _ _ _=>by kernel_rfl
theorem Zup:Zk Tryz.prog 176 (ZpG Zau):=okF (ZtG YR YG) Tryz.func176 Zg (Zn _ (.cons ZqQ (.cons ZqP .nil)) .nil .nil .nil (Zo _))
abbrev ZpF (f:Zml):Zd:=⟨[.one (.I .i64),.one (.P)],[.one (.B)],fun t K _ h=>f t.1 t.2.1 (fun r0 h=>K (r0,()) h) h⟩
abbrev Zwf (f118:Zmm):Cfg:=Zu Tryz.prog [(176,ZpG f118)] 41 [] [] [] Zv
theorem ZtF (f118:Zmm):Zw (Zwf f118) Tryz.f173 (.seq (.leaf) (.seq (.leaf) (.seq (.order (.take 5 (.take 0 (.take 1 (.take 2 (.take 3 (.take 4 (.take 6 (.take 7 (.take 8 (.take 9 (.take 10 .done)))))))))))) (.seq (.order (.take 0 (.take 1 (.take 2 (.take 3 (.take 4 (.take 5 (.take 6 (.take 7 (.take 8 (.take 9 (.take 10 (.take 11 (.take 12 .done)))))))))))))) (.leaf))))) (ZpF (Zcc f118)):=fun _ _ _ _=>by kernel_rfl
theorem Zuo:Zk Tryz.prog 173 (ZpF ZaC):=okF (ZtF Zau) Tryz.func173 Zg (Zn _ (.cons Zup .nil) .nil .nil .nil (Zo _))
abbrev ZpE (f:Zmk):Zd:=⟨[.one (.P),.one (.I .u8),.clo 173 [.P]],[.one (.I .i64),.one (.B)],fun t K _ h=>f t.1 t.2.1 t.2.2.1 (fun r0 r1 h=>K (r0,r1,()) h) h⟩
abbrev Zwe (f69:Zkt) (f119:Zml):Cfg:=Zu Tryz.prog [(27,ZqB f69),(173,ZpF f119)] 34 [] [] [] Zv
theorem ZtE (f69:Zkt) (f119:Zml):Zw (Zwe f69 f119) Tryz.f158 (.seq (.leaf) (.seq (.seq (.order (.take 0 (.take 1 (.take 2 (.take 7 (.take 8 (.take 9 (.take 10 (.take 11 (.take 15 (.take 3 (.take 4 (.take 5 (.take 6 (.take 12 (.take 13 (.take 14 .done))))))))))))))))) (.block (.loop [25] [.one (.I .i64)] [(6,7),(9,9),(26,33)] (.leaf)))) (.leaf))) (ZpE (Yt f69 f119)):=fun _ _ _ _=>by kernel_rfl
theorem Zun:Zk Tryz.prog 158 (ZpE ZW):=okF (ZtE X6 ZaC) Tryz.func158 Zg (Zn _ (.cons ZsR (.cons Zuo .nil)) .nil .nil .nil (Zo _))
abbrev ZpD (f:Zmj):Zd:=⟨[.one (.P)],[.one (.I .i64),.one (.B)],fun t K _ h=>f t.1 (fun r0 r1 h=>K (r0,r1,()) h) h⟩
abbrev Zwd (f120:Zmk):Cfg:=Zu Tryz.prog [(158,ZpE f120)] 9 [] [] [] Zv
theorem ZtD (f120:Zmk):Zw (Zwd f120) Tryz.f104 (.leaf) (ZpD (Za9 f120)):=fun _ _ _ _=>by kernel_rfl
theorem Zum:Zk Tryz.prog 104 (ZpD Xm):=okF (ZtD ZW) Tryz.func104 Zg (Zn _ (.cons Zun .nil) .nil .nil .nil (Zo _))
abbrev ZpC (f:Zmi):Zd:=⟨[.one (.P)],[.agg [.I .u8,.I .i64,.I .i64],.one (.B)],fun t K _ h=>f t.1 (fun r0 r1 h=>K (r0,r1,()) h) h⟩
abbrev Zwc (f72:Zro) (f92:Zrd) (f95:Zra) (f115:Zmn) (f121:Zmj):Cfg:=Zu Tryz.prog [(100,ZuW f72),(101,ZuL f92),(102,ZuJ f95),(103,ZpH f115),(104,ZpD f121)] 33 [] [] [] Zv [(100,[]),(101,[]),(102,[]),(103,[]),(104,[])]
theorem ZtC (f72:Zro) (f92:Zrd) (f95:Zra) (f115:Zmn) (f121:Zmj):Zw (Zwc f72 f92 f95 f115 f121) Tryz.f51 (.seq (.leaf) (.seq (.leaf) (.seq (.seq (.leaf) (.block (.loop [16] [.one (.I .i64)] [(3,3),(6,8),(17,31)] (.leaf)))) (.leaf)))) (ZpC (ZbT f72 f92 f95 f115 f121)):=fun _ _ _ _=>by kernel_rfl
theorem Zul:Zk Tryz.prog 51 (ZpC X1):=okF (ZtC XD Y8 X2 XE Xm) Tryz.func51 Zg (Zn _ (.cons ZyP (.cons ZyE (.cons ZyB (.cons Zuq (.cons Zum .nil))))) .nil .nil .nil (Zo _))
abbrev Zn1 (f:Zi5):Zd:=⟨[.one (.I .i64)],[.one (.B)],fun t K _ h=>f t.1 (fun r0 h=>K (r0,()) h) h⟩
abbrev Zwb:Cfg:=Zu Tryz.prog [] 9 [] [] [] Zv
theorem ZtB:Zw (Zwb) Tryz.f59 (.leaf) (Zn1 ZdG):=fun _ _ _ _=>by kernel_rfl
theorem ZqO:Zk Tryz.prog 59 (Zn1 XA):=okF (ZtB) Tryz.func59 Zg (Zn _ .nil .nil .nil .nil (Zo _))
abbrev ZpB (f:Zmh):Zd:=⟨[.agg [.I .u8,.S,.S,.S],.one (.P)],[.one (.B)],fun t K _ h=>f t.1 t.2.1 (fun r0 h=>K (r0,()) h) h⟩
abbrev Zwa (f89:ZlS):Cfg:=Zu Tryz.prog [(32,ZqS f89)] 13 [] [] [] Zv
theorem ZtA (f89:ZlS):Zw (Zwa f89) Tryz.f177 (.seq (.leaf) (.seq (.order (.take 0 (.take 1 (.take 2 (.take 3 (.take 4 (.take 5 (.take 6 (.take 7 (.take 8 (.take 9 .done))))))))))) (.leaf))) (ZpB (Zbw f89)):=fun _ _ _ _=>by kernel_rfl
theorem Zuk:Zk Tryz.prog 177 (ZpB XB):=okF (ZtA Z7) Tryz.func177 Zg (Zn _ (.cons ZtU .nil) .nil .nil .nil (Zo _))
abbrev ZpA (f:Zmg):Zd:=⟨[.one (.L),.clo 177 [.P]],[.one (.I .i64)],fun t K _ h=>f t.1 t.2.1 (fun r0 h=>K (r0,()) h) h⟩
abbrev Zv9 (f124:Zmh):Cfg:=Zu Tryz.prog [(177,ZpB f124)] 19 [] [] [] Zv
theorem Ztz (f124:Zmh):Zw (Zv9 f124) Tryz.f115 (.seq (.leaf) (.seq (.seq (.leaf) (.block (.loop [8] [.one (.I .i64)] [(4,5),(9,18)] (.leaf)))) (.leaf))) (ZpA (Z0 f124)):=fun _ _ _ _=>by kernel_rfl
theorem Zuj:Zk Tryz.prog 115 (ZpA ZB):=okF (Ztz XB) Tryz.func115 Zg (Zn _ (.cons Zuk .nil) .nil .nil .nil (Zo _))
abbrev Zn0 (f:Zi4):Zd:=⟨[.one (.L),.clo 177 [.P]],[.one (.B)],fun t K _ h=>f t.1 t.2.1 (fun r0 h=>K (r0,()) h) h⟩
abbrev Zv8 (f125:Zmg):Cfg:=Zu Tryz.prog [(115,ZpA f125)] 9 [] [] [] Zv
theorem Zty (f125:Zmg):Zw (Zv8 f125) Tryz.f60 (.leaf) (Zn0 (ZU f125)):=fun _ _ _ _=>by kernel_rfl
theorem ZqN:Zk Tryz.prog 60 (Zn0 Zj):=okF (Zty ZB) Tryz.func60 Zg (Zn _ (.cons Zuj .nil) .nil .nil .nil (Zo _))
abbrev Zpz (f:Zmf):Zd:=⟨[.one (.I .i64)],[.one (.B)],fun t K _ h=>f t.1 (fun r0 h=>K (r0,()) h) h⟩
abbrev Zv7:Cfg:=Zu Tryz.prog [] 9 [] [] [] Zv
theorem Ztx:Zw (Zv7) Tryz.f117 (.leaf) (Zpz ZdH):=fun _ _ _ _=>by kernel_rfl
theorem Zui:Zk Tryz.prog 117 (Zpz Zbk):=okF (Ztx) Tryz.func117 Zg (Zn _ .nil .nil .nil .nil (Zo _))
abbrev Zpy (f:Zme):Zd:=⟨[.one (.P)],[.one (.I .i64)],fun t K _ h=>f t.1 (fun r0 h=>K (r0,()) h) h⟩
abbrev Zv6:Cfg:=Zu Tryz.prog [] 9 [] [] [] Zv
theorem Ztw:Zw (Zv6) Tryz.f181 (.leaf) (Zpy ZaQ):=fun _ _ _ _=>by kernel_rfl
theorem Zuh:Zk Tryz.prog 181 (Zpy XU):=okF (Ztw) Tryz.func181 Zg (Zn _ .nil .nil .nil .nil (Zo _))
abbrev ZnZ (f:Zi3):Zd:=⟨[.one (.P),.one (.I .i64),.one (.L)],[.one (.I .i64)],fun t K _ h=>f t.1 t.2.1 t.2.2.1 (fun r0 h=>K (r0,()) h) h⟩
abbrev Zv5 (f127:Zmf) (f128:Zme):Cfg:=Zu Tryz.prog [(117,Zpz f127),(181,Zpy f128)] 34 [] [] [] Zv
theorem Ztv (f127:Zmf) (f128:Zme):Zw (Zv5 f127 f128) Tryz.f116 (.seq (.leaf) (.seq (.leaf) (.seq (.leaf) (.seq (.seq (.leaf) (.block (.loop [16] [.one (.I .i64)] [(6,6),(8,8),(17,26)] (.leaf)))) (.leaf))))) (ZnZ (Zcl f127 f128)):=fun _ _ _ _=>by kernel_rfl
theorem ZqM:Zk Tryz.prog 116 (ZnZ YY):=okF (Ztv Zbk XU) Tryz.func116 Zg (Zn _ (.cons Zui (.cons Zuh .nil)) .nil .nil .nil (Zo _))
abbrev ZnY (f:Zi2):Zd:=⟨[.agg [.I .i64,.I .i64,.I .i64,.I .i64,.I .i64,.I .i64]],[.one (.B)],fun t K _ h=>f t.1 (fun r0 h=>K (r0,()) h) h⟩
abbrev Zv4:Cfg:=Zu Tryz.prog [] 52 [] [] [] Zv
theorem Ztu:Zw (Zv4) Tryz.f121 (.seq (.leaf) (.seq (.seq (.leaf) (.block (.loop [19] [.one (.I .i64)] [(2,2),(4,4),(20,29)] (.leaf)))) (.leaf))) (ZnY Zda):=fun _ _ _ _=>by kernel_rfl
theorem ZqL:Zk Tryz.prog 121 (ZnY XO):=okF (Ztu) Tryz.func121 Zg (Zn _ .nil .nil .nil .nil (Zo _))
abbrev Zpx (f:Zmd):Zd:=⟨[.one (.L)],[.agg [.I .i64,.I .i64,.I .i64,.I .i64,.I .i64,.I .i64]],fun t K _ h=>f t.1 (fun r0 h=>K (r0,()) h) h⟩
abbrev Zv3 (f130:Zi2) (f82:ZoQ):Cfg:=Zu Tryz.prog [(121,ZnY f130),(125,ZsU f82)] 19 [] [] [] Zv
theorem Ztt (f130:Zi2) (f82:ZoQ):Zw (Zv3 f130 f82) Tryz.f123 (.seq (.leaf) (.seq (.leaf) (.seq (.seq (.leaf) (.block (.loop [8] [.one (.I .i64)] [(5,5),(9,17)] (.leaf)))) (.leaf)))) (Zpx (ZdF f130 f82)):=fun _ _ _ _=>by kernel_rfl
theorem Zug:Zk Tryz.prog 123 (Zpx Zbh):=okF (Ztt XO ZaA) Tryz.func123 Zg (Zn _ (.cons ZqL (.cons ZwQ .nil)) .nil .nil .nil (Zo _))
abbrev Zpw (f:Zmc):Zd:=⟨[.one (.P),.one (.I .i64),.one (.L)],[.one (.I .i64)],fun t K _ h=>f t.1 t.2.1 t.2.2.1 (fun r0 h=>K (r0,()) h) h⟩
abbrev Zv2 (f77:ZlT) (f130:Zi2) (f79:ZnS) (f131:Zmd):Cfg:=Zu Tryz.prog [(120,ZqT f77),(121,ZnY f130),(122,ZqA f79),(123,Zpx f131)] 77 [] [] [] Zv
theorem Zts (f77:ZlT) (f130:Zi2) (f79:ZnS) (f131:Zmd):Zw (Zv2 f77 f130 f79 f131) Tryz.f68 (.seq (.leaf) (.seq (.leaf) (.seq (.seq (.leaf) (.block (.loop [21] [.one (.I .i64)] [(6,6),(9,9),(22,28)] (.leaf)))) (.seq (.leaf) (.seq (.leaf) (.cut [] [] [(11,11),(36,54)] (.seq (.leaf) (.seq (.leaf) (.cond (.order (.take 0 (.take 1 (.take 2 (.take 4 (.take 3 (.take 5 (.take 6 .done)))))))) (.leaf)))) (.seq (.seq (.leaf) (.block (.loop [] [] [(12,12),(60,76)] (.cut [61] [.one (.B)] [(60,60)] (.leaf) (.leaf))))) (.leaf)))))))) (Zpw (Za7 f77 f130 f79 f131)):=fun _ _ _ _=>by kernel_rfl
theorem Zuf:Zk Tryz.prog 68 (Zpw Xk):=okF (Zts Yb XO ZH Zbh) Tryz.func68 Zg (Zn _ (.cons ZtW (.cons ZqL (.cons ZtV (.cons Zug .nil)))) .nil .nil .nil (Zo _))
abbrev ZnX (f:Zi1):Zd:=⟨[.one (.P),.one (.I .i64),.one (.L)],[],fun t K _ h=>f t.1 t.2.1 t.2.2.1 (fun h=>K (()) h) h⟩
abbrev Zv1 (f132:Zmc):Cfg:=Zu Tryz.prog [(68,Zpw f132)] 21 [] [] [] Zv
theorem Ztr (f132:Zmc):Zw (Zv1 f132) Tryz.f118 (.leaf) (ZnX (Zck f132)):=fun _ _ _ _=>by kernel_rfl
theorem ZqK:Zk Tryz.prog 118 (ZnX YX):=okF (Ztr Xk) Tryz.func118 Zg (Zn _ (.cons Zuf .nil) .nil .nil .nil (Zo _))
abbrev Zpv (f:Zmb):Zd:=⟨[.one (.P),.one (.I .i64),.one (.L)],[.one (.I .i64)],fun t K _ h=>f t.1 t.2.1 t.2.2.1 (fun r0 h=>K (r0,()) h) h⟩
abbrev Zv0 (f129:Zi3) (f133:Zi1):Cfg:=Zu Tryz.prog [(116,ZnZ f129),(118,ZnX f133)] 34 [] [] [] Zv
theorem Ztq (f129:Zi3) (f133:Zi1):Zw (Zv0 f129 f133) Tryz.f107 (.seq (.leaf) (.seq (.leaf) (.seq (.leaf) (.seq (.seq (.leaf) (.block (.loop [8,20] [.one (.L),.one (.I .i64)] [(10,10),(21,29)] (.leaf)))) (.leaf))))) (Zpv (ZbR f129 f133)):=fun _ _ _ _=>by kernel_rfl
theorem Zue:Zk Tryz.prog 107 (Zpv XZ):=okF (Ztq YY YX) Tryz.func107 Zg (Zn _ (.cons ZqM (.cons ZqK .nil)) .nil .nil .nil (Zo _))
abbrev Zpu (f:Zma):Zd:=⟨[.one (.P),.one (.P)],[.one (.I .i64)],fun t K _ h=>f t.1 t.2.1 (fun r0 h=>K (r0,()) h) h⟩
abbrev ZvZ (f134:Zmb):Cfg:=Zu Tryz.prog [(107,Zpv f134)] 11 [] [] [] Zv
theorem Ztp (f134:Zmb):Zw (ZvZ f134) Tryz.f106 (.leaf) (Zpu (Za8 f134)):=fun _ _ _ _=>by kernel_rfl
theorem Zud:Zk Tryz.prog 106 (Zpu Xl):=okF (Ztp XZ) Tryz.func106 Zg (Zn _ (.cons Zue .nil) .nil .nil .nil (Zo _))
abbrev Zpt (f:Zl9):Zd:=⟨[.one (.P),.agg [.I .i64,.S,.S,.S,.B,.I .i64,.L],.one (.B),.clo 106 [.P]],[.one (.I .i64)],fun t K _ h=>f t.1 t.2.1 t.2.2.1 t.2.2.2.1 (fun r0 h=>K (r0,()) h) h⟩
abbrev ZvY (f59:Zku) (f123:Zi5) (f63:ZlV) (f126:Zi4) (f65:ZlU) (f135:Zma):Cfg:=Zu Tryz.prog [(58,ZqC f59),(59,Zn1 f123),(156,ZqV f63),(60,Zn0 f126),(157,ZqU f65),(106,Zpu f135)] 93 [] [] [] Zv
theorem Zto (f59:Zku) (f123:Zi5) (f63:ZlV) (f126:Zi4) (f65:ZlU) (f135:Zma):Zw (ZvY f59 f123 f63 f126 f65 f135) Tryz.f105 (.seq (.leaf) (.seq (.leaf) (.seq (.leaf) (.seq (.block (.seq (.leaf) (.cond (.leaf) (.seq (.leaf) (.cond (.leaf) (.seq (.leaf) (.cond (.leaf) (.seq (.order (.take 3 (.take 0 (.take 1 (.take 2 (.take 5 (.take 6 (.take 7 (.take 8 (.take 9 (.take 10 (.take 11 (.take 4 (.take 12 (.take 13 .done))))))))))))))) (.leaf))))))))) (.cut [] [] [(8,8),(61,66)] (.leaf) (.seq (.seq (.leaf) (.block (.loop [69] [.one (.I .i64)] [(12,12),(70,87)] (.seq (.leaf) (.seq (.leaf) (.seq (.block (.seq (.leaf) (.seq (.order (.take 0 (.take 1 (.take 2 (.take 3 (.take 4 .done)))))) (.order (.take 0 (.take 1 (.take 2 (.take 3 (.take 4 (.take 5 (.take 6 (.take 7 (.take 8 .done))))))))))))) (.leaf))))))) (.leaf))))))) (Zpt (Xs f59 f123 f63 f126 f65 f135)):=fun _ _ _ _=>by kernel_rfl
theorem Zuc:Zk Tryz.prog 105 (Zpt YC):=okF (Zto YW XA Yk Zj Yj Xl) Tryz.func105 Zg (Zn _ (.cons ZsS (.cons ZqO (.cons ZtY (.cons ZqN (.cons ZtX (.cons Zud .nil)))))) .nil .nil .nil (Zo _))
abbrev Zps (f:Zl8):Zd:=⟨[.one (.P),.agg [.I .i64,.S,.S,.S,.B,.I .i64,.L]],[.one (.I .i64)],fun t K _ h=>f t.1 t.2.1 (fun r0 h=>K (r0,()) h) h⟩
abbrev ZvX (f136:Zl9):Cfg:=Zu Tryz.prog [(105,Zpt f136)] 9 [] [] [] Zv
theorem Ztn (f136:Zl9):Zw (ZvX f136) Tryz.f52 (.leaf) (Zps (ZbP f136)):=fun _ _ _ _=>by kernel_rfl
theorem Zub:Zk Tryz.prog 52 (Zps XX):=okF (Ztn YC) Tryz.func52 Zg (Zn _ (.cons Zuc .nil) .nil .nil .nil (Zo _))
abbrev Zpr (f:Zl7):Zd:=⟨[.one (.P),.one (.I .i64)],[.one (.B),.one (.B),.one (.I .i64)],fun t K _ h=>f t.1 t.2.1 (fun r0 r1 r2 h=>K (r0,r1,r2,()) h) h⟩
abbrev ZvW (f116:Zi7) (f117:Zi6):Cfg:=Zu Tryz.prog [(64,Zn3 f116),(225,Zn2 f117)] 34 [] [] [] Zv
theorem Ztm (f116:Zi7) (f117:Zi6):Zw (ZvW f116 f117) Tryz.f175 (.leaf) (Zpr (ZbE f116 f117)):=fun _ _ _ _=>by kernel_rfl
theorem Zua:Zk Tryz.prog 175 (Zpr Zad):=okF (Ztm YR YG) Tryz.func175 Zg (Zn _ (.cons ZqQ (.cons ZqP .nil)) .nil .nil .nil (Zo _))
abbrev Zpq (f:Zl6):Zd:=⟨[.one (.P),.one (.P)],[],fun t K _ h=>f t.1 t.2.1 (fun h=>K (()) h) h⟩
abbrev ZvV (f138:Zl7):Cfg:=Zu Tryz.prog [(175,Zpr f138)] 29 [] [] [] Zv
theorem Ztl (f138:Zl7):Zw (ZvV f138) Tryz.f174 (.seq (.order (.take 0 (.take 1 (.take 2 (.take 3 (.take 4 (.take 5 (.take 6 (.take 7 (.take 8 (.take 9 (.take 10 (.take 11 (.take 12 (.take 13 (.take 14 .done)))))))))))))))) (.seq (.leaf) (.cond (.order (.take 5 (.take 0 (.take 1 (.take 2 (.take 3 (.take 4 (.take 6 (.take 7 (.take 8 (.take 9 (.take 10 (.take 11 .done))))))))))))) (.leaf)))) (Zpq (ZbB f138)):=fun _ _ _ _=>by kernel_rfl
theorem Zt9:Zk Tryz.prog 174 (Zpq Zab):=okF (Ztl Zad) Tryz.func174 Zg (Zn _ (.cons Zua .nil) .nil .nil .nil (Zo _))
abbrev Zpp (f:Zl4):Zd:=⟨[.one (.P),.one (.I .i64),.one (.L)],[.one (.I .i64)],fun t K _ h=>f t.1 t.2.1 t.2.2.1 (fun r0 h=>K (r0,()) h) h⟩
abbrev ZvU (f129:Zi3) (f133:Zi1):Cfg:=Zu Tryz.prog [(116,ZnZ f129),(118,ZnX f133)] 51 [] [] [] Zv
theorem Ztk (f129:Zi3) (f133:Zi1):Zw (ZvU f129 f133) Tryz.f109 (.seq (.leaf) (.seq (.leaf) (.seq (.leaf) (.seq (.leaf) (.seq (.seq (.leaf) (.block (.loop [8,28] [.one (.L),.one (.I .i64)] [(10,10),(29,37)] (.leaf)))) (.leaf)))))) (Zpp (Zcm f129 f133)):=fun _ _ _ _=>by kernel_rfl
theorem Zt7:Zk Tryz.prog 109 (Zpp Zah):=okF (Ztk YY YX) Tryz.func109 Zg (Zn _ (.cons ZqM (.cons ZqK .nil)) .nil .nil .nil (Zo _))
abbrev Zpo (f:Zl3):Zd:=⟨[.one (.P),.one (.P)],[.one (.I .i64)],fun t K _ h=>f t.1 t.2.1 (fun r0 h=>K (r0,()) h) h⟩
abbrev ZvT (f140:Zl4):Cfg:=Zu Tryz.prog [(109,Zpp f140)] 11 [] [] [] Zv
theorem Ztj (f140:Zl4):Zw (ZvT f140) Tryz.f108 (.leaf) (Zpo (Zbx f140)):=fun _ _ _ _=>by kernel_rfl
theorem Zt6:Zk Tryz.prog 108 (Zpo XC):=okF (Ztj Zah) Tryz.func108 Zg (Zn _ (.cons Zt7 .nil) .nil .nil .nil (Zo _))
abbrev Zpn (f:Zl2):Zd:=⟨[.one (.P),.agg [.I .i64,.S,.S,.S,.B,.I .i64,.L],.one (.B),.clo 108 [.P]],[.one (.I .i64)],fun t K _ h=>f t.1 t.2.1 t.2.2.1 t.2.2.2.1 (fun r0 h=>K (r0,()) h) h⟩
abbrev ZvS (f59:Zku) (f123:Zi5) (f63:ZlV) (f126:Zi4) (f65:ZlU) (f141:Zl3):Cfg:=Zu Tryz.prog [(58,ZqC f59),(59,Zn1 f123),(156,ZqV f63),(60,Zn0 f126),(157,ZqU f65),(108,Zpo f141)] 93 [] [] [] Zv
theorem Zti (f59:Zku) (f123:Zi5) (f63:ZlV) (f126:Zi4) (f65:ZlU) (f141:Zl3):Zw (ZvS f59 f123 f63 f126 f65 f141) Tryz.f105 (.seq (.leaf) (.seq (.leaf) (.seq (.leaf) (.seq (.block (.seq (.leaf) (.cond (.leaf) (.seq (.leaf) (.cond (.leaf) (.seq (.leaf) (.cond (.leaf) (.seq (.order (.take 3 (.take 0 (.take 1 (.take 2 (.take 5 (.take 6 (.take 7 (.take 8 (.take 9 (.take 10 (.take 11 (.take 4 (.take 12 (.take 13 .done))))))))))))))) (.leaf))))))))) (.cut [] [] [(8,8),(61,66)] (.leaf) (.seq (.seq (.leaf) (.block (.loop [69] [.one (.I .i64)] [(12,12),(70,87)] (.seq (.leaf) (.seq (.leaf) (.seq (.block (.seq (.leaf) (.seq (.order (.take 0 (.take 1 (.take 2 (.take 3 (.take 4 .done)))))) (.order (.take 0 (.take 1 (.take 2 (.take 3 (.take 4 (.take 5 (.take 6 (.take 7 (.take 8 .done))))))))))))) (.leaf))))))) (.leaf))))))) (Zpn (Yq f59 f123 f63 f126 f65 f141)):=fun _ _ _ _=>by kernel_rfl
theorem Zt5:Zk Tryz.prog 105 (Zpn YJ):=okF (Zti YW XA Yk Zj Yj XC) Tryz.func105 Zg (Zn _ (.cons ZsS (.cons ZqO (.cons ZtY (.cons ZqN (.cons ZtX (.cons Zt6 .nil)))))) .nil .nil .nil (Zo _))
abbrev Zpm (f:Zl1):Zd:=⟨[.one (.P),.agg [.I .i64,.S,.S,.S,.B,.I .i64,.L]],[.one (.I .i64)],fun t K _ h=>f t.1 t.2.1 (fun r0 h=>K (r0,()) h) h⟩
abbrev ZvR (f142:Zl2):Cfg:=Zu Tryz.prog [(105,Zpn f142)] 9 [] [] [] Zv
theorem Zth (f142:Zl2):Zw (ZvR f142) Tryz.f53 (.leaf) (Zpm (Zci f142)):=fun _ _ _ _=>by kernel_rfl
theorem Zt4:Zk Tryz.prog 53 (Zpm Zag):=okF (Zth YJ) Tryz.func53 Zg (Zn _ (.cons Zt5 .nil) .nil .nil .nil (Zo _))
abbrev Zpl (f:Zl0):Zd:=⟨[.one (.P),.agg [.I .i64,.S,.S,.S,.B,.I .i64,.L],.one (.B)],[.one (.I .i64),.agg [.I .u8,.I .i64,.I .i64],.one (.I .i64)],fun t K _ h=>f t.1 t.2.1 t.2.2.1 (fun r0 r1 r2 h=>K (r0,r1,r2,()) h) h⟩
abbrev ZvQ (f67:Zrs) (f122:Zmi) (f137:Zl8) (f139:Zl6) (f143:Zl1):Cfg:=Zu Tryz.prog [(50,ZuZ f67),(51,ZpC f122),(52,Zps f137),(174,Zpq f139),(53,Zpm f143)] 116 [] [] [] Zv [(174,[.P,.P])]
theorem Ztg (f67:Zrs) (f122:Zmi) (f137:Zl8) (f139:Zl6) (f143:Zl1):Zw (ZvQ f67 f122 f137 f139 f143) Tryz.f24 (.seq (.leaf) (.seq (.leaf) (.seq (.seq (.order (.take 0 (.take 1 (.take 2 (.take 3 (.take 4 (.take 5 .done))))))) (.leaf)) (.seq (.leaf) (.seq (.order (.take 0 (.take 1 (.take 2 (.take 4 (.take 3 (.take 5 (.take 6 (.take 7 .done))))))))) (.seq (.seq (.leaf) (.seq (.leaf) (.cond (.seq (.order (.take 0 (.take 1 (.take 2 (.take 3 (.take 4 (.take 5 (.take 6 .done)))))))) (.seq (.order (.take 1 (.take 0 (.take 2 (.take 3 .done))))) (.leaf))) (.leaf)))) (.seq (.seq (.leaf) (.block (.loop [60] [.one (.I .i64)] [(14,14),(61,66)] (.leaf)))) (.seq (.order (.take 0 (.take 1 (.take 2 (.take 3 (.take 4 (.take 5 (.take 6 .done)))))))) (.seq (.leaf) (.seq (.leaf) (.seq (.leaf) (.seq (.leaf) (.seq (.order (.take 0 (.take 1 (.take 2 (.take 3 (.take 5 (.take 7 (.take 8 (.take 9 (.take 4 (.take 6 (.take 10 (.take 11 (.take 12 .done)))))))))))))) (.seq (.order (.take 0 (.take 1 (.take 2 (.take 3 (.take 6 (.take 4 (.take 5 (.take 7 (.take 8 .done)))))))))) (.leaf))))))))))))))) (Zpl (ZaX f67 f122 f137 f139 f143)):=fun _ _ _ _=>by kernel_rfl
theorem Zt3:Zk Tryz.prog 24 (Zpl Xb):=okF (Ztg Y9 X1 XX Zab Zag) Tryz.func24 Zg (Zn _ (.cons ZyT (.cons Zul (.cons Zub (.cons Zt9 (.cons Zt4 .nil))))) .nil .nil .nil (Zo _))
abbrev ZnW (f:Zi0):Zd:=⟨[.one (.P),.agg [.I .i64,.S,.S,.S,.B,.I .i64,.L]],[.one (.I .i64),.agg [.I .u8,.I .i64,.I .i64],.one (.I .i64)],fun t K _ h=>f t.1 t.2.1 (fun r0 r1 r2 h=>K (r0,r1,r2,()) h) h⟩
abbrev ZvP (f144:Zl0):Cfg:=Zu Tryz.prog [(24,Zpl f144)] 13 [] [] [] Zv
theorem Ztf (f144:Zl0):Zw (ZvP f144) Tryz.f11 (.leaf) (ZnW (ZaW f144)):=fun _ _ _ _=>by kernel_rfl
theorem ZqJ:Zk Tryz.prog 11 (ZnW Yz):=okF (Ztf Xb) Tryz.func11 Zg (Zn _ (.cons Zt3 .nil) .nil .nil .nil (Zo _))
abbrev ZnV (f:ZiZ):Zd:=⟨[.one (.I .i64),.one (.P)],[.one (.B)],fun t K _ h=>f t.1 t.2.1 (fun r0 h=>K (r0,()) h) h⟩
abbrev ZvO:Cfg:=Zu Tryz.prog [] 12 [] [] [] Zv
theorem Zte:Zw (ZvO) Tryz.f57 (.leaf) (ZnV ZaH):=fun _ _ _ _=>by kernel_rfl
theorem ZqI:Zk Tryz.prog 57 (ZnV YF):=okF (Zte) Tryz.func57 Zg (Zn _ .nil .nil .nil .nil (Zo _))
abbrev Zpk (f:ZlZ):Zd:=⟨[.one (.L),.clo 57 [.P]],[.one (.I .i64)],fun t K _ h=>f t.1 t.2.1 (fun r0 h=>K (r0,()) h) h⟩
abbrev ZvN (f148:ZiZ):Cfg:=Zu Tryz.prog [(57,ZnV f148)] 19 [] [] [] Zv
theorem Ztd (f148:ZiZ):Zw (ZvN f148) Tryz.f110 (.seq (.leaf) (.seq (.seq (.leaf) (.block (.loop [8] [.one (.I .i64)] [(4,5),(9,18)] (.leaf)))) (.leaf))) (Zpk (Yc f148)):=fun _ _ _ _=>by kernel_rfl
theorem Zt2:Zk Tryz.prog 110 (Zpk ZP):=okF (Ztd YF) Tryz.func110 Zg (Zn _ (.cons ZqI .nil) .nil .nil .nil (Zo _))
abbrev Zpj (f:ZlY):Zd:=⟨[.one (.L),.clo 57 [.P]],[.one (.L)],fun t K _ h=>f t.1 t.2.1 (fun r0 h=>K (r0,()) h) h⟩
abbrev ZvM (f149:ZlZ) (f148:ZiZ):Cfg:=Zu Tryz.prog [(110,Zpk f149),(57,ZnV f148)] 42 [] [] [] Zv
theorem Ztc (f149:ZlZ) (f148:ZiZ):Zw (ZvM f149 f148) Tryz.f54 (.seq (.leaf) (.seq (.leaf) (.seq (.leaf) (.seq (.seq (.leaf) (.block (.loop [5,6] [.one (.I .i64),.one (.I .i64)] [(7,7),(16,35)] (.leaf)))) (.leaf))))) (Zpj (Ya f149 f148)):=fun _ _ _ _=>by kernel_rfl
theorem Zt1:Zk Tryz.prog 54 (Zpj ZO):=okF (Ztc ZP YF) Tryz.func54 Zg (Zn _ (.cons Zt2 (.cons ZqI .nil)) .nil .nil .nil (Zo _))
abbrev Zpi (f:ZlX):Zd:=⟨[.one (.P)],[.one (.L)],fun t K _ h=>f t.1 (fun r0 h=>K (r0,()) h) h⟩
abbrev ZvL (f146:ZpS) (f147:ZpR) (f150:ZlY):Cfg:=Zu Tryz.prog [(56,⟨[.one (.M)],[.one (.V)],fun t K _ h=>f146 t.1 (fun r0 h=>K (r0,()) h) h⟩),(55,⟨[.one (.V)],[.one (.L)],fun t K _ h=>f147 t.1 (fun r0 h=>K (r0,()) h) h⟩),(54,Zpj f150)] 14 [] [] [] Zv
theorem Ztb (f146:ZpS) (f147:ZpR) (f150:ZlY):Zw (ZvL f146 f147 f150) Tryz.f25 (.leaf) (Zpi (Zba f146 f147 f150)):=fun _ _ _ _=>by kernel_rfl
theorem Zt0:Zk Tryz.prog 25 (Zpi Xn):=okF (Ztb ZQ ZaM ZO) Tryz.func25 Zg (Zn _ (.cons Xw (.cons Zed (.cons Zt1 .nil))) .nil .nil .nil (Zo _))
abbrev Zph (f:ZlW):Zd:=⟨[],[.one (.B)],fun _ K _ h=>f (fun r0 h=>K (r0,()) h) h⟩
abbrev ZvK (f2:zT2) (f58:ZoU) (f145:Zi0) (f151:ZlX):Cfg:=Zu Tryz.prog [(9,zk2 f2),(10,ZsX f58),(11,ZnW f145),(25,Zpi f151)] 75 [] [] [] Zv
theorem Zta (f2:zT2) (f58:ZoU) (f145:Zi0) (f151:ZlX):Zw (ZvK f2 f58 f145 f151) Tryz.f12 (.leaf) (Zph (ZaS f2 f58 f145 f151)):=fun _ _ _ _=>by kernel_rfl
theorem ZtZ:Zk Tryz.prog 12 (Zph Y7):=okF (Zta Za5 YD Yz Xn) Tryz.func12 Zg (Zn _ (.cons zo2 (.cons ZwU (.cons ZqJ (.cons Zt0 .nil)))) .nil .nil .nil (Zo _))
abbrev ZqW (f:Zsa):Zd:=⟨[.one (.I .u8),.one (.L)],[.one (.B)],fun t K _ h=>f t.1 t.2.1 (fun r0 h=>K (r0,()) h) h⟩
abbrev ZvJ (f2:zT2) (f58:ZoU) (f145:Zi0) (f152:ZlW):Cfg:=Zu Tryz.prog [(9,zk2 f2),(10,ZsX f58),(11,ZnW f145),(12,Zph f152)] 103 [] [] [] Zv
theorem Zs9 (f2:zT2) (f58:ZoU) (f145:Zi0) (f152:ZlW):Zw (ZvJ f2 f58 f145 f152) Tryz.f3 (.seq (.leaf) (.seq (.leaf) (.seq (.leaf) (.seq (.leaf) (.seq (.leaf) (.seq (.seq (.leaf) (.block (.loop [7,8] [.one (.L),.one (.I .i64)] [(4,4),(9,13),(28,101)] (.seq (.leaf) (.seq (.block (.seq (.leaf) (.seq (.leaf) (.seq (.leaf) (.cut [7] [.one (.L)] [(64,72)] (.leaf) (.seq (.leaf) (.seq (.seq (.leaf) (.block (.loop [12,13] [.one (.I .i64),.one (.I .i64)] [(73,97)] (.leaf)))) (.leaf)))))))) (.leaf)))))) (.leaf))))))) (ZqW (XQ f2 f58 f145 f152)):=fun _ _ _ _=>by kernel_rfl
theorem Zc0:Zk Tryz.prog 3 (ZqW YS):=okF (Zs9 Za5 YD Yz Y7) Tryz.func3 Zg (Zn _ (.cons zo2 (.cons ZwU (.cons ZqJ (.cons ZtZ .nil)))) .nil .nil .nil (Zo _))
end
end Go.Proofs.YthbfgkphlmlihaaGreat
namespace Go.Fw
open Go Go.RowKit
theorem Znj {P:Program} {f:FuncId} {s:Zd} (ok:Zk P f s) (t:Y4 s.args) (w:World) {args:Array Value} (hargs:((Y4.evs s.args t).map EV.v).toArray=args)
    (h:s.sem t (fun r h'=>Zsp s.res r = .bool true∧Ext w.heap h') (fun _ _=>False) w.heap):Calls P f args w fun e w'=>e = .returned (.bool true)∧Below w.heap.size w w':=by
  rw [← hargs]
  refine (ok.calls t _ _ w h).mono ?_
  rintro e w' (⟨r,rfl,hs,hr,hx⟩ | ⟨v,rfl,hs,hk⟩)
  ·exact ⟨by rw [hr],hs.2.1,hs.1,hs.2.2,hx.size,hx.old⟩
  ·exact hk.elim
end Go.Fw
namespace Go.Proofs.YthbfgkphlmlihaaGreat
open Go Go.Fw Go.ChangeShapes Go.WideShapes
theorem Zfn {n:Nat} (h:n≤maxLen):n<9223372036854775808:=by
  have e:maxLen=9223372036854775807:=by decide
  omega
theorem ZmS {w:World} {a:Addr} {v:Value} (h:w.cell? a=some v):a=⟨a.block,a.off,none⟩:=by
  obtain ⟨b,o,s⟩:=a
  unfold World.cell? at h
  split at h
  ·cases s with
   | none=>rfl
   | some s=>simp at h
  ·cases h
theorem ZkV {b o i:Nat}:(⟨b,o,none⟩:Addr).add i=⟨b,o+i,none⟩:=Zhj b o i
section
variable {H:Type} {enc:TypeId × Value→H} {P:Program} {w:World} {base:Nat} {spare:Nat→Bool} {held:Bool}
end
end Go.Proofs.YthbfgkphlmlihaaGreat
