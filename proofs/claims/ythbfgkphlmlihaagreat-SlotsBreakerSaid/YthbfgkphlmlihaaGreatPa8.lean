/- That each function does what its model says. Written by a program out of the translated functions. -/
import Derived.Test.YthbfgkphlmlihaaGreatProg
import Derived.KernelRfl
import Derived.Test.YthbfgkphlmlihaaGreatPa7
set_option linter.unusedVariables false
set_option linter.unusedSimpArgs false
namespace Go.Proofs.YthbfgkphlmlihaaGreat
open Go Go.Fw
noncomputable section
theorem Zh:Tryz.prog.follows .mixedOrders=true:=by kernel_rfl
abbrev zk0 (f:zT0):Ze:=⟨[],[.one (.P)],fun _ K _ h=>f (fun r0 h=>K (r0,()) h) h⟩
abbrev zc0:Cfg:=ZA Tryz.prog [] 3 [] [] [] ZC
theorem zr0:ZD (zc0) Tryz.f19 (.leaf) (zk0 Zdh):=fun _ _ _ _=>by kernel_rfl
theorem zo0:Zm Tryz.prog 19 (zk0 ZaZ):=okF (zr0) Tryz.func19 Zh (Zp _ .nil .nil .nil .nil (Zq _))
abbrev zk1 (f:zT1):Ze:=⟨[],[.one (.P)],fun _ K _ h=>f (fun r0 h=>K (r0,()) h) h⟩
abbrev zc1:Cfg:=ZA Tryz.prog [] 5 [] [] [] ZC
theorem zr1:ZD (zc1) Tryz.f20 (.leaf) (zk1 Zg4):=fun _ _ _ _=>by kernel_rfl
theorem zo1:Zm Tryz.prog 20 (zk1 Zel):=okF (zr1) Tryz.func20 Zh (Zp _ .nil .nil .nil .nil (Zq _))
abbrev zk2 (f:zT2):Ze:=⟨[.one (.I .i64),.one (.I .u64)],[.one (.P),.one (.I .i64)],fun t K _ h=>f t.1 t.2.1 (fun r0 r1 h=>K (r0,r1,()) h) h⟩
abbrev zc2 (f0:zT0) (f1:zT1):Cfg:=ZA Tryz.prog [(19,zk0 f0),(20,zk1 f1)] 20 [] [] [] ZC
theorem zr2 (f0:zT0) (f1:zT1):ZD (zc2 f0 f1) Tryz.f9 (.leaf) (zk2 (Zf7 f0 f1)):=fun _ _ _ _=>by kernel_rfl
theorem zo2:Zm Tryz.prog 9 (zk2 ZbN):=okF (zr2 ZaZ Zel) Tryz.func9 Zh (Zp _ (.cons zo0 (.cons zo1 .nil)) .nil .nil .nil (Zq _))
abbrev zk3 (f:zT3):Ze:=⟨[.agg [.L,.L,.L,.L,.L]],[.one (.L)],fun t K _ h=>f t.1 (fun r0 h=>K (r0,()) h) h⟩
abbrev zc3:Cfg:=ZA Tryz.prog [] 29 [] [] [] ZC
theorem zr3:ZD (zc3) Tryz.f80 (.leaf) (zk3 Zd4):=fun _ _ _ _=>by kernel_rfl
theorem zo3:Zm Tryz.prog 80 (zk3 ZbG):=okF (zr3) Tryz.func80 Zh (Zp _ .nil .nil .nil .nil (Zq _))
abbrev zk4 (f:zT4):Ze:=⟨[.one (.I .i64),.one (.I .i64),.one (.I .i64)],[.one (.B)],fun t K _ h=>f t.1 t.2.1 t.2.2.1 (fun r0 h=>K (r0,()) h) h⟩
abbrev zc4:Cfg:=ZA Tryz.prog [] 15 [] [] [] ZC
theorem zr4:ZD (zc4) Tryz.f141 (.leaf) (zk4 Zd3):=fun _ _ _ _=>by kernel_rfl
theorem zo4:Zm Tryz.prog 141 (zk4 Yf):=okF (zr4) Tryz.func141 Zh (Zp _ .nil .nil .nil .nil (Zq _))
abbrev zk5 (f:zT5):Ze:=⟨[.one (.S)],[.one (.B)],fun t K _ h=>f t.1 (fun r0 h=>K (r0,()) h) h⟩
abbrev zc5 (f4:zT4):Cfg:=ZA Tryz.prog [(141,zk4 f4)] 19 [] [] [] ZC
theorem zr5 (f4:zT4):ZD (zc5 f4) Tryz.f114 (.seq (.leaf) (.seq (.seq (.leaf) (.block (.loop [6] [.one (.I .i64)] [(2,3),(7,15)] (.leaf)))) (.leaf))) (zk5 (Zd5 f4)):=fun _ _ _ _=>by kernel_rfl
theorem zo5:Zm Tryz.prog 114 (zk5 Xt):=okF (zr5 Yf) Tryz.func114 Zh (Zp _ (.cons zo4 .nil) .nil .nil .nil (Zq _))
abbrev zk6 (f:zT6):Ze:=⟨[.one (.S)],[.one (.B)],fun t K _ h=>f t.1 (fun r0 h=>K (r0,()) h) h⟩
abbrev zc6 (f5:zT5):Cfg:=ZA Tryz.prog [(114,zk5 f5)] 6 [] [] [] ZC
theorem zr6 (f5:zT5):ZD (zc6 f5) Tryz.f242 (.leaf) (zk6 (Zbu f5)):=fun _ _ _ _=>by kernel_rfl
theorem zo6:Zm Tryz.prog 242 (zk6 Zab):=okF (zr6 Xt) Tryz.func242 Zh (Zp _ (.cons zo5 .nil) .nil .nil .nil (Zq _))
abbrev zk7 (f:zT7):Ze:=⟨[.one (.L),.fn 242],[.one (.I .i64)],fun t K _ h=>f t.1 (fun r0 h=>K (r0,()) h) h⟩
abbrev zc7 (f6:zT6):Cfg:=ZA Tryz.prog [(242,zk6 f6)] 19 [] [] [] ZC
theorem zr7 (f6:zT6):ZD (zc7 f6) Tryz.f155 (.seq (.leaf) (.seq (.seq (.leaf) (.block (.loop [8] [.one (.I .i64)] [(4,5),(9,18)] (.leaf)))) (.leaf))) (zk7 (ZQ f6)):=fun _ _ _ _=>by kernel_rfl
theorem zo7:Zm Tryz.prog 155 (zk7 ZF):=okF (zr7 Zab) Tryz.func155 Zh (Zp _ (.cons zo6 .nil) .nil .nil .nil (Zq _))
abbrev zk8 (f:zT8):Ze:=⟨[.one (.L),.fn 242],[.one (.B)],fun t K _ h=>f t.1 (fun r0 h=>K (r0,()) h) h⟩
abbrev zc8 (f7:zT7):Cfg:=ZA Tryz.prog [(155,zk7 f7)] 9 [] [] [] ZC
theorem zr8 (f7:zT7):ZD (zc8 f7) Tryz.f97 (.leaf) (zk8 (ZK f7)):=fun _ _ _ _=>by kernel_rfl
theorem zo8:Zm Tryz.prog 97 (zk8 ZB):=okF (zr8 ZF) Tryz.func97 Zh (Zp _ (.cons zo7 .nil) .nil .nil .nil (Zq _))
abbrev zk9 (f:zT9):Ze:=⟨[.agg [.S,.L]],[.one (.B)],fun t K _ h=>f t.1 (fun r0 h=>K (r0,()) h) h⟩
abbrev zc9 (f5:zT5) (f8:zT8):Cfg:=ZA Tryz.prog [(114,zk5 f5),(97,zk8 f8)] 12 [] [] [] ZC
theorem zr9 (f5:zT5) (f8:zT8):ZD (zc9 f5 f8) Tryz.f198 (.leaf) (zk9 (ZaN f5 f8)):=fun _ _ _ _=>by kernel_rfl
theorem zo9:Zm Tryz.prog 198 (zk9 Y5):=okF (zr9 Xt ZB) Tryz.func198 Zh (Zp _ (.cons zo5 (.cons zo8 .nil)) .nil .nil .nil (Zq _))
abbrev Zzk (f:Zvh):Ze:=⟨[.one (.P),.one (.P)],[.one (.B)],fun t K _ h=>f t.1 t.2.1 (fun r0 h=>K (r0,()) h) h⟩
abbrev ZEO (f4:zT4):Cfg:=ZA Tryz.prog [(141,zk4 f4)] 7 [] [] [] ZC
theorem ZCl (f4:zT4):ZD (ZEO f4) Tryz.f190 (.leaf) (Zzk (Zec f4)):=fun _ _ _ _=>by kernel_rfl
theorem ZDs:Zm Tryz.prog 190 (Zzk ZcU):=okF (ZCl Yf) Tryz.func190 Zh (Zp _ (.cons zo4 .nil) .nil .nil .nil (Zq _))
abbrev Zzj (f:Zvg):Ze:=⟨[.one (.P)],[.one (.B)],fun t K _ h=>f t.1 (fun r0 h=>K (r0,()) h) h⟩
abbrev ZEN:Cfg:=ZA Tryz.prog [] 10 [] [] [] ZC
theorem ZCk:ZD (ZEN) Tryz.f191 (.leaf) (Zzj Zeb):=fun _ _ _ _=>by kernel_rfl
theorem ZDr:Zm Tryz.prog 191 (Zzj ZcT):=okF (ZCk) Tryz.func191 Zh (Zp _ .nil .nil .nil .nil (Zq _))
abbrev Zzi (f:Zvf):Ze:=⟨[.one (.P)],[.one (.B)],fun t K _ h=>f t.1 (fun r0 h=>K (r0,()) h) h⟩
abbrev ZEM:Cfg:=ZA Tryz.prog [] 10 [] [] [] ZC
theorem ZCj:ZD (ZEM) Tryz.f192 (.leaf) (Zzi Zea):=fun _ _ _ _=>by kernel_rfl
theorem ZDq:Zm Tryz.prog 192 (Zzi ZcS):=okF (ZCj) Tryz.func192 Zh (Zp _ .nil .nil .nil .nil (Zq _))
abbrev Zzh (f:Zve):Ze:=⟨[.one (.P)],[.one (.B)],fun t K _ h=>f t.1 (fun r0 h=>K (r0,()) h) h⟩
abbrev ZEL:Cfg:=ZA Tryz.prog [] 15 [] [] [] ZC
theorem ZCi:ZD (ZEL) Tryz.f193 (.leaf) (Zzh Zd9):=fun _ _ _ _=>by kernel_rfl
theorem ZDp:Zm Tryz.prog 193 (Zzh ZcR):=okF (ZCi) Tryz.func193 Zh (Zp _ .nil .nil .nil .nil (Zq _))
abbrev Zt1 (f:ZoC):Ze:=⟨[.one (.B),.one (.I .i64),.one (.I .i64),.one (.I .i64)],[.one (.B)],fun t K _ h=>f t.1 t.2.1 t.2.2.1 t.2.2.2.1 (fun r0 h=>K (r0,()) h) h⟩
abbrev ZEK (f4:zT4):Cfg:=ZA Tryz.prog [(141,zk4 f4)] 24 [] [] [] ZC
theorem ZCh (f4:zT4):ZD (ZEK f4) Tryz.f143 (.leaf) (Zt1 (ZdY f4)):=fun _ _ _ _=>by kernel_rfl
theorem ZxO:Zm Tryz.prog 143 (Zt1 Xw):=okF (ZCh Yf) Tryz.func143 Zh (Zp _ (.cons zo4 .nil) .nil .nil .nil (Zq _))
abbrev Zzg (f:Zvd):Ze:=⟨[.one (.P),.one (.P),.one (.P)],[.one (.B)],fun t K _ h=>f t.1 t.2.1 t.2.2.1 (fun r0 h=>K (r0,()) h) h⟩
abbrev ZEJ (f14:ZoC):Cfg:=ZA Tryz.prog [(143,Zt1 f14)] 14 [] [] [] ZC
theorem ZCg (f14:ZoC):ZD (ZEJ f14) Tryz.f194 (.leaf) (Zzg (Zd8 f14)):=fun _ _ _ _=>by kernel_rfl
theorem ZDo:Zm Tryz.prog 194 (Zzg ZcQ):=okF (ZCg Xw) Tryz.func194 Zh (Zp _ (.cons ZxO .nil) .nil .nil .nil (Zq _))
abbrev Zzf (f:Zvc):Ze:=⟨[.one (.P)],[.one (.B)],fun t K _ h=>f t.1 (fun r0 h=>K (r0,()) h) h⟩
abbrev ZEI:Cfg:=ZA Tryz.prog [] 15 [] [] [] ZC
theorem ZCf:ZD (ZEI) Tryz.f195 (.leaf) (Zzf Zd7):=fun _ _ _ _=>by kernel_rfl
theorem ZDn:Zm Tryz.prog 195 (Zzf ZcP):=okF (ZCf) Tryz.func195 Zh (Zp _ .nil .nil .nil .nil (Zq _))
abbrev Zze (f:Zvb):Ze:=⟨[.one (.P)],[.one (.B)],fun t K _ h=>f t.1 (fun r0 h=>K (r0,()) h) h⟩
abbrev ZEH (f14:ZoC):Cfg:=ZA Tryz.prog [(143,Zt1 f14)] 16 [] [] [] ZC
theorem ZCe (f14:ZoC):ZD (ZEH f14) Tryz.f196 (.leaf) (Zze (Zd6 f14)):=fun _ _ _ _=>by kernel_rfl
theorem ZDm:Zm Tryz.prog 196 (Zze ZcO):=okF (ZCe Xw) Tryz.func196 Zh (Zp _ (.cons ZxO .nil) .nil .nil .nil (Zq _))
abbrev Zzd (f:Zu9):Ze:=⟨[.one (.P),.one (.P)],[.one (.B)],fun t K _ h=>f t.1 t.2.1 (fun r0 h=>K (r0,()) h) h⟩
abbrev ZEG (f4:zT4):Cfg:=ZA Tryz.prog [(141,zk4 f4)] 12 [] [] [] ZC
theorem ZCd (f4:zT4):ZD (ZEG f4) Tryz.f140 (.leaf) (Zzd (ZdN f4)):=fun _ _ _ _=>by kernel_rfl
theorem ZDl:Zm Tryz.prog 140 (Zzd Zb9):=okF (ZCd Yf) Tryz.func140 Zh (Zp _ (.cons zo4 .nil) .nil .nil .nil (Zq _))
abbrev Zzc (f:Zu8):Ze:=⟨[.one (.P)],[.one (.B)],fun t K _ h=>f t.1 (fun r0 h=>K (r0,()) h) h⟩
abbrev ZEF (f14:ZoC):Cfg:=ZA Tryz.prog [(143,Zt1 f14)] 8 [] [] [] ZC
theorem ZCc (f14:ZoC):ZD (ZEF f14) Tryz.f142 (.leaf) (Zzc (ZdM f14)):=fun _ _ _ _=>by kernel_rfl
theorem ZDk:Zm Tryz.prog 142 (Zzc Zb8):=okF (ZCc Xw) Tryz.func142 Zh (Zp _ (.cons ZxO .nil) .nil .nil .nil (Zq _))
abbrev Zzb (f:Zu7):Ze:=⟨[.one (.P)],[.one (.B)],fun t K _ h=>f t.1 (fun r0 h=>K (r0,()) h) h⟩
abbrev ZEE (f4:zT4):Cfg:=ZA Tryz.prog [(141,zk4 f4)] 10 [] [] [] ZC
theorem ZCb (f4:zT4):ZD (ZEE f4) Tryz.f144 (.leaf) (Zzb (ZdL f4)):=fun _ _ _ _=>by kernel_rfl
theorem ZDj:Zm Tryz.prog 144 (Zzb Zb7):=okF (ZCb Yf) Tryz.func144 Zh (Zp _ (.cons zo4 .nil) .nil .nil .nil (Zq _))
abbrev Zza (f:Zu6):Ze:=⟨[.one (.P)],[.one (.B)],fun t K _ h=>f t.1 (fun r0 h=>K (r0,()) h) h⟩
abbrev ZED (f4:zT4):Cfg:=ZA Tryz.prog [(141,zk4 f4)] 5 [] [] [] ZC
theorem ZCa (f4:zT4):ZD (ZED f4) Tryz.f145 (.leaf) (Zza (ZdK f4)):=fun _ _ _ _=>by kernel_rfl
theorem ZDi:Zm Tryz.prog 145 (Zza Zb6):=okF (ZCa Yf) Tryz.func145 Zh (Zp _ (.cons zo4 .nil) .nil .nil .nil (Zq _))
abbrev Zv9 (f:ZrB):Ze:=⟨[.agg [.S,.L,.I .i64],.one (.L)],[.one (.I .i64)],fun t K _ h=>f t.1 t.2.1 (fun r0 h=>K (r0,()) h) h⟩
abbrev ZEC (f9:zT9) (f10:Zvh) (f11:Zvg) (f12:Zvf) (f13:Zve) (f15:Zvd) (f16:Zvc) (f17:Zvb) (f18:Zu9) (f19:Zu8) (f20:Zu7) (f21:Zu6):Cfg:=ZA Tryz.prog [(198,zk9 f9),(190,Zzk f10),(191,Zzj f11),(192,Zzi f12),(193,Zzh f13),(194,Zzg f15),(195,Zzf f16),(196,Zze f17),(140,Zzd f18),(142,Zzc f19),(144,Zzb f20),(145,Zza f21)] 23 [] [] [] ZC [(190,[.P,.P]),(191,[.P]),(192,[.P]),(193,[.P]),(194,[.P,.P,.P]),(195,[.P]),(196,[.P]),(140,[.P,.P]),(142,[.P]),(144,[.P]),(145,[.P])]
theorem ZB9 (f9:zT9) (f10:Zvh) (f11:Zvg) (f12:Zvf) (f13:Zve) (f15:Zvd) (f16:Zvc) (f17:Zvb) (f18:Zu9) (f19:Zu8) (f20:Zu7) (f21:Zu6):ZD (ZEC f9 f10 f11 f12 f13 f15 f16 f17 f18 f19 f20 f21) Tryz.f139 (.seq (.leaf) (.seq (.leaf) (.seq (.seq (.leaf) (.block (.loop [13] [.one (.I .i64)] [(4,4),(6,6),(14,22)] (.leaf)))) (.leaf)))) (Zv9 (Zcm f9 f10 f11 f12 f13 f15 f16 f17 f18 f19 f20 f21)):=fun _ _ _ _=>by kernel_rfl
theorem ZAN:Zm Tryz.prog 139 (Zv9 Xk):=okF (ZB9 Y5 ZcU ZcT ZcS ZcR ZcQ ZcP ZcO Zb9 Zb8 Zb7 Zb6) Tryz.func139 Zh (Zp _ (.cons zo9 (.cons ZDs (.cons ZDr (.cons ZDq (.cons ZDp (.cons ZDo (.cons ZDn (.cons ZDm (.cons ZDl (.cons ZDk (.cons ZDj (.cons ZDi .nil)))))))))))) .nil .nil .nil (Zq _))
abbrev Zy9 (f:Zu5):Ze:=⟨[.agg [.S,.S,.B,.I .i64,.I .u8,.S,.I .u8,.I .i64,.I .i64,.B,.I .i64,.B]],[.one (.I .i64)],fun t K _ h=>f t.1 (fun r0 h=>K (r0,()) h) h⟩
abbrev ZEB (f22:ZrB):Cfg:=ZA Tryz.prog [(139,Zv9 f22)] 56 [] [] [] ZC
theorem ZB8 (f22:ZrB):ZD (ZEB f22) Tryz.f131 (.seq (.leaf) (.seq (.leaf) (.cut [3] [.one (.L)] [(10,22)] (.leaf) (.cut [4] [.one (.P)] [(23,30)] (.leaf) (.cut [5] [.one (.P)] [(31,38)] (.leaf) (.seq (.leaf) (.cut [] [] [(39,41)] (.leaf) (.leaf)))))))) (Zy9 (Zfr f22)):=fun _ _ _ _=>by kernel_rfl
theorem ZDh:Zm Tryz.prog 131 (Zy9 ZaG):=okF (ZB8 Xk) Tryz.func131 Zh (Zp _ (.cons ZAN .nil) .nil .nil .nil (Zq _))
abbrev Zy8 (f:Zu4):Ze:=⟨[.one (.I .i64),.one (.P)],[.one (.I .i64)],fun t K _ h=>f t.1 t.2.1 (fun r0 h=>K (r0,()) h) h⟩
abbrev ZEA (f23:Zu5):Cfg:=ZA Tryz.prog [(131,Zy9 f23)] 10 [] [] [] ZC
theorem ZB7 (f23:Zu5):ZD (ZEA f23) Tryz.f130 (.leaf) (Zy8 (Zdg f23)):=fun _ _ _ _=>by kernel_rfl
theorem ZDg:Zm Tryz.prog 130 (Zy8 ZaY):=okF (ZB7 ZaG) Tryz.func130 Zh (Zp _ (.cons ZDh .nil) .nil .nil .nil (Zq _))
abbrev Zv8 (f:ZrA):Ze:=⟨[.agg [.S,.I .u8,.I .i64,.I .i64,.I .i64,.I .i64,.I .i64]],[.one (.I .i64)],fun t K _ h=>f t.1 (fun r0 h=>K (r0,()) h) h⟩
abbrev ZEz (f22:ZrB):Cfg:=ZA Tryz.prog [(139,Zv9 f22)] 17 [] [] [] ZC
theorem ZB6 (f22:ZrB):ZD (ZEz f22) Tryz.f84 (.seq (.leaf) (.seq (.leaf) (.cut [] [] [(4,6)] (.leaf) (.leaf)))) (Zv8 (ZeL f22)):=fun _ _ _ _=>by kernel_rfl
theorem ZAM:Zm Tryz.prog 84 (Zv8 Xu):=okF (ZB6 Xk) Tryz.func84 Zh (Zp _ (.cons ZAN .nil) .nil .nil .nil (Zq _))
abbrev Zy7 (f:Zu3):Ze:=⟨[.one (.I .i64),.one (.P)],[.one (.I .i64)],fun t K _ h=>f t.1 t.2.1 (fun r0 h=>K (r0,()) h) h⟩
abbrev ZEy (f25:ZrA):Cfg:=ZA Tryz.prog [(84,Zv8 f25)] 10 [] [] [] ZC
theorem ZB5 (f25:ZrA):ZD (ZEy f25) Tryz.f132 (.leaf) (Zy7 (Zdf f25)):=fun _ _ _ _=>by kernel_rfl
theorem ZDf:Zm Tryz.prog 132 (Zy7 ZaX):=okF (ZB5 Xu) Tryz.func132 Zh (Zp _ (.cons ZAM .nil) .nil .nil .nil (Zq _))
abbrev Zy6 (f:Zu2):Ze:=⟨[.agg [.L,.L,.L,.L,.L]],[.one (.I .u8),.one (.I .i64),.one (.I .i64)],fun t K _ h=>f t.1 (fun r0 r1 r2 h=>K (r0,r1,r2,()) h) h⟩
abbrev ZEx (f3:zT3) (f24:Zu4) (f26:Zu3):Cfg:=ZA Tryz.prog [(80,zk3 f3),(130,Zy8 f24),(132,Zy7 f26)] 49 [] [] [] ZC [(130,[.P]),(132,[.P])]
theorem ZB4 (f3:zT3) (f24:Zu4) (f26:Zu3):ZD (ZEx f3 f24 f26) Tryz.f38 (.seq (.leaf) (.seq (.leaf) (.seq (.seq (.leaf) (.block (.loop [16] [.one (.I .i64)] [(2,4),(7,7),(17,25)] (.leaf)))) (.seq (.seq (.leaf) (.block (.loop [28] [.one (.I .i64)] [(2,4),(9,11),(29,48)] (.seq (.leaf) (.seq (.leaf) (.seq (.block (.seq (.leaf) (.seq (.leaf) (.block (.loop [34] [.one (.I .i64)] [(2,4),(10,11),(35,47)] (.leaf)))))) (.leaf))))))) (.leaf))))) (Zy6 (ZeK f3 f24 f26)):=fun _ _ _ _=>by kernel_rfl
theorem ZDe:Zm Tryz.prog 38 (Zy6 Zb4):=okF (ZB4 ZbG ZaY ZaX) Tryz.func38 Zh (Zp _ (.cons zo3 (.cons ZDg (.cons ZDf .nil))) .nil .nil .nil (Zq _))
abbrev Zy5 (f:Zu1):Ze:=⟨[.one (.L)],[.one (.L)],fun t K _ h=>f t.1 (fun r0 h=>K (r0,()) h) h⟩
abbrev ZEw:Cfg:=ZA Tryz.prog [] 8 [] [] [] ZC
theorem ZB3:ZD (ZEw) Tryz.f94 (.leaf) (Zy5 Zag):=fun _ _ _ _=>by kernel_rfl
theorem ZDd:Zm Tryz.prog 94 (Zy5 Xj):=okF (ZB3) Tryz.func94 Zh (Zp _ .nil .nil .nil .nil (Zq _))
abbrev Zy4 (f:Zu0):Ze:=⟨[.one (.L)],[.one (.L)],fun t K _ h=>f t.1 (fun r0 h=>K (r0,()) h) h⟩
abbrev ZEv:Cfg:=ZA Tryz.prog [] 8 [] [] [] ZC
theorem ZB2:ZD (ZEv) Tryz.f138 (.leaf) (Zy4 Za2):=fun _ _ _ _=>by kernel_rfl
theorem ZDc:Zm Tryz.prog 138 (Zy4 XG):=okF (ZB2) Tryz.func138 Zh (Zp _ .nil .nil .nil .nil (Zq _))
abbrev Zy3 (f:ZuZ):Ze:=⟨[.one (.L)],[.agg [.L,.L,.L,.L,.L]],fun t K _ h=>f t.1 (fun r0 h=>K (r0,()) h) h⟩
abbrev ZEu (f28:Zu1) (f29:Zu0):Cfg:=ZA Tryz.prog [(94,Zy5 f28),(138,Zy4 f29)] 72 [] [] [] ZC
theorem ZB1 (f28:Zu1) (f29:Zu0):ZD (ZEu f28 f29) Tryz.f81 (.seq (.leaf) (.seq (.leaf) (.seq (.seq (.leaf) (.block (.loop [12] [.one (.I .i64)] [(5,5),(7,7),(9,9),(13,70)] (.seq (.leaf) (.seq (.leaf) (.seq (.block (.seq (.leaf) (.seq (.leaf) (.seq (.leaf) (.seq (.leaf) (.seq (.seq (.leaf) (.block (.loop [37] [.one (.I .i64)] [(7,7),(38,51)] (.leaf)))) (.seq (.leaf) (.block (.loop [55] [.one (.I .i64)] [(9,9),(56,69)] (.leaf)))))))))) (.leaf))))))) (.leaf)))) (Zy3 (Zfq f28 f29)):=fun _ _ _ _=>by kernel_rfl
theorem ZDb:Zm Tryz.prog 81 (Zy3 ZcY):=okF (ZB1 Xj XG) Tryz.func81 Zh (Zp _ (.cons ZDd (.cons ZDc .nil)) .nil .nil .nil (Zq _))
abbrev Zv7 (f:Zrz):Ze:=⟨[.agg [.L,.L,.L,.L,.L]],[.agg [.L,.L,.L,.L,.L]],fun t K _ h=>f t.1 (fun r0 h=>K (r0,()) h) h⟩
abbrev ZEt (f30:ZuZ):Cfg:=ZA Tryz.prog [(81,Zy3 f30)] 6 [] [] [] ZC
theorem ZB0 (f30:ZuZ):ZD (ZEt f30) Tryz.f39 (.leaf) (Zv7 (Zfs f30)):=fun _ _ _ _=>by kernel_rfl
theorem ZAL:Zm Tryz.prog 39 (Zv7 Zbo):=okF (ZB0 ZcY) Tryz.func39 Zh (Zp _ (.cons ZDb .nil) .nil .nil .nil (Zq _))
abbrev Zy2 (f:ZuY):Ze:=⟨[.one (.P),.agg [.L,.L,.L,.L,.L]],[.one (.I .i64)],fun t K _ h=>f t.1 t.2.1 (fun r0 h=>K (r0,()) h) h⟩
abbrev ZEs (f27:Zu2) (f31:Zrz):Cfg:=ZA Tryz.prog [(38,Zy6 f27),(39,Zv7 f31)] 31 [] [] [] ZC
theorem ZBZ (f27:Zu2) (f31:Zrz):ZD (ZEs f27 f31) Tryz.f21 (.leaf) (Zy2 (Zcn f27 f31)):=fun _ _ _ _=>by kernel_rfl
theorem ZDa:Zm Tryz.prog 21 (Zy2 Zac):=okF (ZBZ Zb4 Zbo) Tryz.func21 Zh (Zp _ (.cons ZDe (.cons ZAL .nil)) .nil .nil .nil (Zq _))
abbrev Zy1 (f:ZuX):Ze:=⟨[.one (.P)],[.agg [.L,.L,.L,.L,.L],.one (.I .i64)],fun t K _ h=>f t.1 (fun r0 r1 h=>K (r0,r1,()) h) h⟩
abbrev ZEr (f31:Zrz):Cfg:=ZA Tryz.prog [(39,Zv7 f31)] 16 [] [] [] ZC
theorem ZBY (f31:Zrz):ZD (ZEr f31) Tryz.f22 (.seq (.leaf) (.seq (.leaf) (.seq (.order (.take 0 true (.take 1 true (.take 2 true (.take 5 true (.take 6 true (.take 7 true (.take 3 true (.take 8 true (.take 4 false (.take 9 false (.take 10 false .done)))))))))))) (.leaf)))) (Zy1 (ZcH f31)):=fun _ _ _ _=>by kernel_rfl
theorem ZC9:Zm Tryz.prog 22 (Zy1 ZaA):=okF (ZBY Zbo) Tryz.func22 Zh (Zp _ (.cons ZAL .nil) .nil .nil .nil (Zq _))
abbrev Zy0 (f:ZuW):Ze:=⟨[.agg [.S,.S,.B,.I .i64,.I .u8,.S,.I .u8,.I .i64,.I .i64,.B,.I .i64,.B],.agg [.S,.S,.B,.I .i64,.I .u8,.S,.I .u8,.I .i64,.I .i64,.B,.I .i64,.B]],[.one (.B)],fun t K _ h=>f t.1 t.2.1 (fun r0 h=>K (r0,()) h) h⟩
abbrev ZEq:Cfg:=ZA Tryz.prog [] 8 [] [] [] ZC
theorem ZBX:ZD (ZEq) Tryz.f41 (.leaf) (Zy0 Zcv):=fun _ _ _ _=>by kernel_rfl
theorem ZC8:Zm Tryz.prog 41 (Zy0 Za7):=okF (ZBX) Tryz.func41 Zh (Zp _ .nil .nil .nil .nil (Zq _))
abbrev ZyZ (f:ZuV):Ze:=⟨[.one (.L),.one (.L),.fn 41],[.one (.L)],fun t K _ h=>f t.1 t.2.1 (fun r0 h=>K (r0,()) h) h⟩
abbrev ZEp (f34:ZuW):Cfg:=ZA Tryz.prog [(41,Zy0 f34)] 56 [] [] [] ZC
theorem ZBW (f34:ZuW):ZD (ZEp f34) Tryz.f40 (.seq (.leaf) (.seq (.leaf) (.seq (.leaf) (.seq (.seq (.leaf) (.block (.loop [8,19] [.one (.L),.one (.I .i64)] [(10,13),(20,54)] (.seq (.leaf) (.seq (.leaf) (.seq (.block (.seq (.leaf) (.seq (.leaf) (.seq (.seq (.leaf) (.block (.loop [11,25] [.one (.I .i64),.one (.I .i64)] [(12,13),(26,49)] (.leaf)))) (.leaf))))) (.leaf))))))) (.leaf))))) (ZyZ (YB f34)):=fun _ _ _ _=>by kernel_rfl
theorem ZC7:Zm Tryz.prog 40 (ZyZ ZV):=okF (ZBW Za7) Tryz.func40 Zh (Zp _ (.cons ZC8 .nil) .nil .nil .nil (Zq _))
abbrev ZAT (f:ZuU):Ze:=⟨[.one (.I .i64),.one (.I .i64)],[.one (.P),.one (.I .i64)],fun t K _ h=>f t.1 t.2.1 (fun r0 r1 h=>K (r0,r1,()) h) h⟩
theorem ZC6:Zm Tryz.prog 82 (ZAT Zfj):=ZdF Tryz.func82 (by kernel_rfl) (by kernel_rfl) fun _ _ _ _ h=>h
abbrev ZAS (f:ZuT):Ze:=⟨[.one (.I .i64),.one (.I .i64)],[.one (.P),.one (.I .i64)],fun t K _ h=>f t.1 t.2.1 (fun r0 r1 h=>K (r0,r1,()) h) h⟩
theorem ZC5:Zm Tryz.prog 83 (ZAS Zfh):=ZdF Tryz.func83 (by kernel_rfl) (by kernel_rfl) fun _ _ _ _ h=>h
abbrev ZyY (f:ZuS):Ze:=⟨[.agg [.S,.S,.B,.I .i64,.I .u8,.S,.I .u8,.I .i64,.I .i64,.B,.I .i64,.B]],[.agg [.P,.P]],fun t K _ h=>f t.1 (fun r0 h=>K (r0,()) h) h⟩
abbrev ZEo (f36:ZuU) (f37:ZuT):Cfg:=ZA Tryz.prog [(82,ZAT f36),(83,ZAS f37)] 39 [] [] [] ZC
theorem ZBV (f36:ZuU) (f37:ZuT):ZD (ZEo f36 f37) Tryz.f42 (.seq (.leaf) (.seq (.leaf) (.cut [] [] [(4,20)] (.leaf) (.leaf)))) (ZyY (ZcG f36 f37)):=fun _ _ _ _=>by kernel_rfl
theorem ZC4:Zm Tryz.prog 42 (ZyY Zaz):=okF (ZBV Zfj Zfh) Tryz.func42 Zh (Zp _ (.cons ZC6 (.cons ZC5 .nil)) .nil .nil .nil (Zq _))
abbrev ZyX (f:ZuR):Ze:=⟨[.agg [.S,.I .u8,.I .i64,.I .i64,.I .i64,.I .i64,.I .i64],.agg [.S,.I .u8,.I .i64,.I .i64,.I .i64,.I .i64,.I .i64]],[.one (.B)],fun t K _ h=>f t.1 t.2.1 (fun r0 h=>K (r0,()) h) h⟩
abbrev ZEn:Cfg:=ZA Tryz.prog [] 8 [] [] [] ZC
theorem ZBU:ZD (ZEn) Tryz.f44 (.leaf) (ZyX Zcu):=fun _ _ _ _=>by kernel_rfl
theorem ZC3:Zm Tryz.prog 44 (ZyX Za6):=okF (ZBU) Tryz.func44 Zh (Zp _ .nil .nil .nil .nil (Zq _))
abbrev ZyW (f:ZuQ):Ze:=⟨[.one (.L),.one (.L),.fn 44],[.one (.L)],fun t K _ h=>f t.1 t.2.1 (fun r0 h=>K (r0,()) h) h⟩
abbrev ZEm (f39:ZuR):Cfg:=ZA Tryz.prog [(44,ZyX f39)] 56 [] [] [] ZC
theorem ZBT (f39:ZuR):ZD (ZEm f39) Tryz.f43 (.seq (.leaf) (.seq (.leaf) (.seq (.leaf) (.seq (.seq (.leaf) (.block (.loop [8,19] [.one (.L),.one (.I .i64)] [(10,13),(20,54)] (.seq (.leaf) (.seq (.leaf) (.seq (.block (.seq (.leaf) (.seq (.leaf) (.seq (.seq (.leaf) (.block (.loop [11,25] [.one (.I .i64),.one (.I .i64)] [(12,13),(26,49)] (.leaf)))) (.leaf))))) (.leaf))))))) (.leaf))))) (ZyW (Z8 f39)):=fun _ _ _ _=>by kernel_rfl
theorem ZC2:Zm Tryz.prog 43 (ZyW Zw):=okF (ZBT Za6) Tryz.func43 Zh (Zp _ (.cons ZC3 .nil) .nil .nil .nil (Zq _))
abbrev Zv6 (f:Zry):Ze:=⟨[.one (.I .i64),.one (.I .i64)],[.one (.P),.one (.I .i64)],fun t K _ h=>f t.1 t.2.1 (fun r0 r1 h=>K (r0,r1,()) h) h⟩
abbrev ZEl:Cfg:=ZA Tryz.prog [] 31 [] [] [] ZC
theorem ZBS:ZD (ZEl) Tryz.f119 (.leaf) (Zv6 Zfn):=fun _ _ _ _=>by kernel_rfl
theorem ZAK:Zm Tryz.prog 119 (Zv6 Zbm):=okF (ZBS) Tryz.func119 Zh (Zp _ .nil .nil .nil .nil (Zq _))
abbrev Zv5 (f:Zrx):Ze:=⟨[.one (.P)],[],fun t K _ h=>f t.1 (fun h=>K (()) h) h⟩
abbrev ZEk (f41:Zry):Cfg:=ZA Tryz.prog [(119,Zv6 f41)] 14 [] [] [] ZC
theorem ZBR (f41:Zry):ZD (ZEk f41) Tryz.f67 (.leaf) (Zv5 (ZaP f41)):=fun _ _ _ _=>by kernel_rfl
theorem ZAJ:Zm Tryz.prog 67 (Zv5 YJ):=okF (ZBR Zbm) Tryz.func67 Zh (Zp _ (.cons ZAK .nil) .nil .nil .nil (Zq _))
abbrev ZyV (f:ZuP):Ze:=⟨[.agg [.S,.I .u8,.I .i64,.I .i64,.I .i64,.I .i64,.I .i64]],[.one (.P),.one (.I .i64)],fun t K _ h=>f t.1 (fun r0 r1 h=>K (r0,r1,()) h) h⟩
abbrev ZEj (f25:ZrA) (f42:Zrx):Cfg:=ZA Tryz.prog [(84,Zv8 f25),(67,Zv5 f42)] 17 [] [] [] ZC
theorem ZBQ (f25:ZrA) (f42:Zrx):ZD (ZEj f25 f42) Tryz.f45 (.leaf) (ZyV (ZeM f25 f42)):=fun _ _ _ _=>by kernel_rfl
theorem ZC1:Zm Tryz.prog 45 (ZyV Zcd):=okF (ZBQ Xu YJ) Tryz.func45 Zh (Zp _ (.cons ZAM (.cons ZAJ .nil)) .nil .nil .nil (Zq _))
abbrev ZyU (f:ZuO):Ze:=⟨[.one (.L),.one (.L)],[.one (.B)],fun t K _ h=>f t.1 t.2.1 (fun r0 h=>K (r0,()) h) h⟩
abbrev ZEi:Cfg:=ZA Tryz.prog [] 26 [] [] [] ZC
theorem ZBP:ZD (ZEi) Tryz.f85 (.seq (.leaf) (.seq (.leaf) (.seq (.seq (.leaf) (.block (.loop [13] [.one (.I .i64)] [(4,5),(14,25)] (.leaf)))) (.leaf)))) (ZyU Zaf):=fun _ _ _ _=>by kernel_rfl
theorem ZC0:Zm Tryz.prog 85 (ZyU Xi):=okF (ZBP) Tryz.func85 Zh (Zp _ .nil .nil .nil .nil (Zq _))
abbrev ZyT (f:ZuN):Ze:=⟨[.one (.L),.one (.L)],[.one (.B)],fun t K _ h=>f t.1 t.2.1 (fun r0 h=>K (r0,()) h) h⟩
abbrev ZEh:Cfg:=ZA Tryz.prog [] 26 [] [] [] ZC
theorem ZBO:ZD (ZEh) Tryz.f86 (.seq (.leaf) (.seq (.leaf) (.seq (.seq (.leaf) (.block (.loop [13] [.one (.I .i64)] [(4,5),(14,25)] (.leaf)))) (.leaf)))) (ZyT XY):=fun _ _ _ _=>by kernel_rfl
theorem ZCZ:Zm Tryz.prog 86 (ZyT Y4):=okF (ZBO) Tryz.func86 Zh (Zp _ .nil .nil .nil .nil (Zq _))
abbrev ZyS (f:ZuM):Ze:=⟨[.one (.L),.one (.L)],[.one (.B)],fun t K _ h=>f t.1 t.2.1 (fun r0 h=>K (r0,()) h) h⟩
abbrev ZEg:Cfg:=ZA Tryz.prog [] 26 [] [] [] ZC
theorem ZBN:ZD (ZEg) Tryz.f87 (.seq (.leaf) (.seq (.leaf) (.seq (.seq (.leaf) (.block (.loop [13] [.one (.I .i64)] [(4,5),(14,25)] (.leaf)))) (.leaf)))) (ZyS XL):=fun _ _ _ _=>by kernel_rfl
theorem ZCY:Zm Tryz.prog 87 (ZyS YU):=okF (ZBN) Tryz.func87 Zh (Zp _ .nil .nil .nil .nil (Zq _))
abbrev ZyR (f:ZuL):Ze:=⟨[.one (.L),.one (.L)],[.one (.B)],fun t K _ h=>f t.1 t.2.1 (fun r0 h=>K (r0,()) h) h⟩
abbrev ZEf:Cfg:=ZA Tryz.prog [] 26 [] [] [] ZC
theorem ZBM:ZD (ZEf) Tryz.f146 (.seq (.leaf) (.seq (.leaf) (.seq (.seq (.leaf) (.block (.loop [13] [.one (.I .i64)] [(4,5),(14,25)] (.leaf)))) (.leaf)))) (ZyR Zae):=fun _ _ _ _=>by kernel_rfl
theorem ZCX:Zm Tryz.prog 146 (ZyR Xh):=okF (ZBM) Tryz.func146 Zh (Zp _ .nil .nil .nil .nil (Zq _))
abbrev ZyQ (f:ZuK):Ze:=⟨[.agg [.S,.I .i64,.I .i64,.I .i64,.L],.agg [.S,.I .i64,.I .i64,.I .i64,.L]],[.one (.B)],fun t K _ h=>f t.1 t.2.1 (fun r0 h=>K (r0,()) h) h⟩
abbrev ZEe (f47:ZuL):Cfg:=ZA Tryz.prog [(146,ZyR f47)] 38 [] [] [] ZC
theorem ZBL (f47:ZuL):ZD (ZEe f47) Tryz.f89 (.leaf) (ZyQ (Zfo f47)):=fun _ _ _ _=>by kernel_rfl
theorem ZCW:Zm Tryz.prog 89 (ZyQ ZdH):=okF (ZBL Xh) Tryz.func89 Zh (Zp _ (.cons ZCX .nil) .nil .nil .nil (Zq _))
abbrev ZyP (f:ZuJ):Ze:=⟨[.one (.L),.one (.L),.fn 89],[.one (.B)],fun t K _ h=>f t.1 t.2.1 (fun r0 h=>K (r0,()) h) h⟩
abbrev ZEd (f48:ZuK):Cfg:=ZA Tryz.prog [(89,ZyQ f48)] 32 [] [] [] ZC
theorem ZBK (f48:ZuK):ZD (ZEd f48) Tryz.f88 (.seq (.leaf) (.seq (.leaf) (.seq (.seq (.leaf) (.block (.loop [17] [.one (.I .i64)] [(6,9),(18,31)] (.leaf)))) (.leaf)))) (ZyP (Yi f48)):=fun _ _ _ _=>by kernel_rfl
theorem ZCV:Zm Tryz.prog 88 (ZyP ZT):=okF (ZBK ZdH) Tryz.func88 Zh (Zp _ (.cons ZCW .nil) .nil .nil .nil (Zq _))
abbrev ZyO (f:ZuI):Ze:=⟨[.one (.L),.one (.L)],[.one (.B)],fun t K _ h=>f t.1 t.2.1 (fun r0 h=>K (r0,()) h) h⟩
abbrev ZEc:Cfg:=ZA Tryz.prog [] 26 [] [] [] ZC
theorem ZBJ:ZD (ZEc) Tryz.f147 (.seq (.leaf) (.seq (.leaf) (.seq (.seq (.leaf) (.block (.loop [13] [.one (.I .i64)] [(4,5),(14,25)] (.leaf)))) (.leaf)))) (ZyO Za1):=fun _ _ _ _=>by kernel_rfl
theorem ZCU:Zm Tryz.prog 147 (ZyO XF):=okF (ZBJ) Tryz.func147 Zh (Zp _ .nil .nil .nil .nil (Zq _))
abbrev ZyN (f:ZuH):Ze:=⟨[.agg [.S,.B,.L],.agg [.S,.B,.L]],[.one (.B)],fun t K _ h=>f t.1 t.2.1 (fun r0 h=>K (r0,()) h) h⟩
abbrev ZEb (f50:ZuI):Cfg:=ZA Tryz.prog [(147,ZyO f50)] 24 [] [] [] ZC
theorem ZBI (f50:ZuI):ZD (ZEb f50) Tryz.f91 (.leaf) (ZyN (ZeW f50)):=fun _ _ _ _=>by kernel_rfl
theorem ZCT:Zm Tryz.prog 91 (ZyN Zc6):=okF (ZBI XF) Tryz.func91 Zh (Zp _ (.cons ZCU .nil) .nil .nil .nil (Zq _))
abbrev ZyM (f:ZuG):Ze:=⟨[.one (.L),.one (.L),.fn 91],[.one (.B)],fun t K _ h=>f t.1 t.2.1 (fun r0 h=>K (r0,()) h) h⟩
abbrev ZEa (f51:ZuH):Cfg:=ZA Tryz.prog [(91,ZyN f51)] 32 [] [] [] ZC
theorem ZBH (f51:ZuH):ZD (ZEa f51) Tryz.f90 (.seq (.leaf) (.seq (.leaf) (.seq (.seq (.leaf) (.block (.loop [17] [.one (.I .i64)] [(6,9),(18,31)] (.leaf)))) (.leaf)))) (ZyM (ZM f51)):=fun _ _ _ _=>by kernel_rfl
theorem ZCS:Zm Tryz.prog 90 (ZyM Zv):=okF (ZBH Zc6) Tryz.func90 Zh (Zp _ (.cons ZCT .nil) .nil .nil .nil (Zq _))
abbrev ZyL (f:ZuF):Ze:=⟨[.agg [.L,.L,.L,.L,.L],.agg [.L,.L,.L,.L,.L]],[.one (.B)],fun t K _ h=>f t.1 t.2.1 (fun r0 h=>K (r0,()) h) h⟩
abbrev ZD9 (f44:ZuO) (f45:ZuN) (f46:ZuM) (f49:ZuJ) (f52:ZuG):Cfg:=ZA Tryz.prog [(85,ZyU f44),(86,ZyT f45),(87,ZyS f46),(88,ZyP f49),(90,ZyM f52)] 38 [] [] [] ZC
theorem ZBG (f44:ZuO) (f45:ZuN) (f46:ZuM) (f49:ZuJ) (f52:ZuG):ZD (ZD9 f44 f45 f46 f49 f52) Tryz.f47 (.leaf) (ZyL (Zhi f44 f45 f46 f49 f52)):=fun _ _ _ _=>by kernel_rfl
theorem ZCR:Zm Tryz.prog 47 (ZyL Zfi):=okF (ZBG Xi Y4 YU ZT Zv) Tryz.func47 Zh (Zp _ (.cons ZC0 (.cons ZCZ (.cons ZCY (.cons ZCV (.cons ZCS .nil))))) .nil .nil .nil (Zq _))
abbrev ZyK (f:ZuE):Ze:=⟨[.agg [.S,.I .i64,.I .i64,.I .i64,.L],.agg [.S,.I .i64,.I .i64,.I .i64,.L]],[.one (.B)],fun t K _ h=>f t.1 t.2.1 (fun r0 h=>K (r0,()) h) h⟩
abbrev ZD8 (f53:ZuF):Cfg:=ZA Tryz.prog [(47,ZyL f53)] 12 [] [] [] ZC
theorem ZBF (f53:ZuF):ZD (ZD8 f53) Tryz.f46 (.leaf) (ZyK (Zct f53)):=fun _ _ _ _=>by kernel_rfl
theorem ZCQ:Zm Tryz.prog 46 (ZyK Za5):=okF (ZBF Zfi) Tryz.func46 Zh (Zp _ (.cons ZCR .nil) .nil .nil .nil (Zq _))
abbrev ZyJ (f:ZuD):Ze:=⟨[.one (.L),.one (.L),.fn 46],[.one (.L)],fun t K _ h=>f t.1 t.2.1 (fun r0 h=>K (r0,()) h) h⟩
abbrev ZD7 (f54:ZuE):Cfg:=ZA Tryz.prog [(46,ZyK f54)] 56 [] [] [] ZC
theorem ZBE (f54:ZuE):ZD (ZD7 f54) Tryz.f48 (.seq (.leaf) (.seq (.leaf) (.seq (.leaf) (.seq (.seq (.leaf) (.block (.loop [8,19] [.one (.L),.one (.I .i64)] [(10,13),(20,54)] (.seq (.leaf) (.seq (.leaf) (.seq (.block (.seq (.leaf) (.seq (.leaf) (.seq (.seq (.leaf) (.block (.loop [11,25] [.one (.I .i64),.one (.I .i64)] [(12,13),(26,49)] (.leaf)))) (.leaf))))) (.leaf))))))) (.leaf))))) (ZyJ (YD f54)):=fun _ _ _ _=>by kernel_rfl
theorem ZCP:Zm Tryz.prog 48 (ZyJ ZW):=okF (ZBE Za5) Tryz.func48 Zh (Zp _ (.cons ZCQ .nil) .nil .nil .nil (Zq _))
abbrev ZAR (f:ZuC):Ze:=⟨[.agg [.S,.I .i64,.I .i64,.I .i64,.L],.one (.I .i64),.one (.I .u64)],[.one (.P),.one (.I .i64)],fun t K _ h=>f t.1 t.2.1 t.2.2.1 (fun r0 r1 h=>K (r0,r1,()) h) h⟩
theorem ZCO:Zm Tryz.prog 49 (ZAR Zif):=ZdF Tryz.func49 (by kernel_rfl) (by kernel_rfl) fun _ _ _ _ h=>h
abbrev ZyI (f:ZuB):Ze:=⟨[.one (.P),.agg [.L,.L,.L,.L,.L]],[.agg [.L,.L,.L,.I .i64]],fun t K _ h=>f t.1 t.2.1 (fun r0 h=>K (r0,()) h) h⟩
abbrev ZD6 (f35:ZuV) (f38:ZuS) (f40:ZuQ) (f43:ZuP) (f55:ZuD) (f56:ZuC):Cfg:=ZA Tryz.prog [(40,ZyZ f35),(42,ZyY f38),(43,ZyW f40),(45,ZyV f43),(48,ZyJ f55),(49,ZAR f56)] 173 [] [] [] ZC
theorem ZBD (f35:ZuV) (f38:ZuS) (f40:ZuQ) (f43:ZuP) (f55:ZuD) (f56:ZuC):ZD (ZD6 f35 f38 f40 f43 f55 f56) Tryz.f23 (.seq (.leaf) (.seq (.leaf) (.seq (.leaf) (.seq (.seq (.order (.take 0 true (.take 1 true (.take 2 true (.take 3 true (.take 5 true (.take 9 true (.take 4 true (.take 6 true (.take 7 false (.take 8 false .done))))))))))) (.block (.loop [34] [.one (.I .i64)] [(7,8),(35,65)] (.seq (.leaf) (.seq (.leaf) (.seq (.block (.seq (.leaf) (.seq (.leaf) (.cond (.order (.take 0 true (.take 2 true (.take 4 true (.take 1 true (.take 3 true (.take 5 false (.take 6 true (.take 7 false (.take 8 false (.take 9 false (.take 10 false .done)))))))))))) (.order (.take 0 true (.take 2 true (.take 3 true (.take 4 true (.take 5 true (.take 7 true (.take 1 true (.take 6 true (.take 8 false (.take 9 true (.take 10 false (.take 11 false (.take 12 false (.take 13 false (.take 14 false .done)))))))))))))))))))) (.leaf))))))) (.seq (.seq (.order (.take 0 true (.take 1 true (.take 2 true (.take 3 true (.take 5 true (.take 9 true (.take 4 true (.take 6 true (.take 7 false (.take 8 false .done))))))))))) (.block (.loop [75] [.one (.I .i64)] [(9,12),(76,117)] (.seq (.leaf) (.seq (.leaf) (.seq (.block (.seq (.leaf) (.seq (.seq (.leaf) (.cond (.seq (.order (.take 0 true (.take 2 true (.take 4 true (.take 1 true (.take 3 true (.take 5 false (.take 6 true (.take 7 false (.take 8 false (.take 9 false (.take 10 false .done)))))))))))) (.leaf)) (.leaf))) (.leaf)))) (.leaf))))))) (.seq (.leaf) (.seq (.seq (.order (.take 0 true (.take 1 true (.take 2 true (.take 3 true (.take 5 true (.take 7 true (.take 10 true (.take 4 true (.take 6 true (.take 8 false (.take 9 false .done)))))))))))) (.block (.loop [128] [.one (.I .i64)] [(14,17),(129,171)] (.seq (.leaf) (.seq (.leaf) (.seq (.block (.seq (.leaf) (.seq (.seq (.leaf) (.cond (.seq (.order (.take 0 true (.take 2 true (.take 4 true (.take 1 true (.take 3 true (.take 5 false (.take 6 true (.take 7 false (.take 8 false (.take 9 false (.take 10 false .done)))))))))))) (.leaf)) (.leaf))) (.seq (.order (.take 0 true (.take 1 true (.take 2 true (.take 3 true (.take 5 true (.take 8 true (.take 9 true (.take 10 true (.take 12 true (.take 13 true (.take 14 true (.take 4 true (.take 6 true (.take 7 true (.take 11 true (.take 15 true (.take 16 false (.take 17 false (.take 18 true (.take 19 true (.take 20 false (.take 21 false .done))))))))))))))))))))))) (.leaf))))) (.leaf))))))) (.leaf)))))))) (ZyI (Zap f35 f38 f40 f43 f55 f56)):=fun _ _ _ _=>by kernel_rfl
theorem ZCN:Zm Tryz.prog 23 (ZyI YS):=okF (ZBD ZV Zaz Zw Zcd ZW Zif) Tryz.func23 Zh (Zp _ (.cons ZC7 (.cons ZC4 (.cons ZC2 (.cons ZC1 (.cons ZCP (.cons ZCO .nil)))))) .nil .nil .nil (Zq _))
abbrev Zv4 (f:Zrw):Ze:=⟨[.one (.P),.agg [.L,.L,.L,.L,.L]],[.one (.I .i64)],fun t K _ h=>f t.1 t.2.1 (fun r0 h=>K (r0,()) h) h⟩
abbrev ZD5 (f32:ZuY) (f33:ZuX) (f57:ZuB):Cfg:=ZA Tryz.prog [(21,Zy2 f32),(22,Zy1 f33),(23,ZyI f57)] 46 [] [] [] ZC
theorem ZBC (f32:ZuY) (f33:ZuX) (f57:ZuB):ZD (ZD5 f32 f33 f57) Tryz.f10 (.seq (.leaf) (.seq (.leaf) (.seq (.seq (.order (.take 0 true (.take 1 true (.take 2 true (.take 3 true (.take 4 true (.take 5 true (.take 6 false (.take 7 false .done))))))))) (.leaf)) (.seq (.leaf) (.seq (.leaf) (.seq (.order (.take 0 true (.take 1 true (.take 2 true (.take 3 true (.take 4 true (.take 5 false (.take 6 false (.take 7 false (.take 8 false (.take 9 false .done))))))))))) (.leaf))))))) (Zv4 (ZaL f32 f33 f57)):=fun _ _ _ _=>by kernel_rfl
theorem ZAI:Zm Tryz.prog 10 (Zv4 YC):=okF (ZBC Zac ZaA YS) Tryz.func10 Zh (Zp _ (.cons ZDa (.cons ZC9 (.cons ZCN .nil))) .nil .nil .nil (Zq _))
abbrev Zr2 (f:ZkQ):Ze:=⟨[.agg [.I .i64,.S,.S,.S,.B,.I .i64,.L]],[.one (.L),.one (.I .i64)],fun t K _ h=>f t.1 (fun r0 r1 h=>K (r0,r1,()) h) h⟩
abbrev ZD4 (f5:zT5):Cfg:=ZA Tryz.prog [(114,zk5 f5)] 59 [] [] [] ZC
theorem ZBB (f5:zT5):ZD (ZD4 f5) Tryz.f58 (.seq (.leaf) (.cut [] [] [(2,3),(5,25)] (.leaf) (.seq (.leaf) (.cut [4] [.one (.L)] [(35,45)] (.leaf) (.leaf))))) (Zr2 (Zf6 f5)):=fun _ _ _ _=>by kernel_rfl
theorem ZtO:Zm Tryz.prog 58 (Zr2 Xd):=okF (ZBB Xt) Tryz.func58 Zh (Zp _ (.cons zo5 .nil) .nil .nil .nil (Zq _))
abbrev ZyH (f:ZuA):Ze:=⟨[.one (.S)],[.one (.B)],fun t K _ h=>f t.1 (fun r0 h=>K (r0,()) h) h⟩
abbrev ZD3:Cfg:=ZA Tryz.prog [] 6 [] [] [] ZC
theorem ZBA:ZD (ZD3) Tryz.f98 (.leaf) (ZyH Za9):=fun _ _ _ _=>by kernel_rfl
theorem ZCM:Zm Tryz.prog 98 (ZyH XZ):=okF (ZBA) Tryz.func98 Zh (Zp _ .nil .nil .nil .nil (Zq _))
abbrev ZyG (f:Zuz):Ze:=⟨[.one (.L),.fn 98],[.one (.I .i64)],fun t K _ h=>f t.1 (fun r0 h=>K (r0,()) h) h⟩
abbrev ZD2 (f60:ZuA):Cfg:=ZA Tryz.prog [(98,ZyH f60)] 19 [] [] [] ZC
theorem ZBz (f60:ZuA):ZD (ZD2 f60) Tryz.f155 (.seq (.leaf) (.seq (.seq (.leaf) (.block (.loop [8] [.one (.I .i64)] [(4,5),(9,18)] (.leaf)))) (.leaf))) (ZyG (Yc f60)):=fun _ _ _ _=>by kernel_rfl
theorem ZCL:Zm Tryz.prog 155 (ZyG ZP):=okF (ZBz XZ) Tryz.func155 Zh (Zp _ (.cons ZCM .nil) .nil .nil .nil (Zq _))
abbrev ZyF (f:Zuy):Ze:=⟨[.one (.L),.fn 98],[.one (.B)],fun t K _ h=>f t.1 (fun r0 h=>K (r0,()) h) h⟩
abbrev ZD1 (f61:Zuz):Cfg:=ZA Tryz.prog [(155,ZyG f61)] 9 [] [] [] ZC
theorem ZBy (f61:Zuz):ZD (ZD1 f61) Tryz.f97 (.leaf) (ZyF (Z5 f61)):=fun _ _ _ _=>by kernel_rfl
theorem ZCK:Zm Tryz.prog 97 (ZyF Zy):=okF (ZBy ZP) Tryz.func97 Zh (Zp _ (.cons ZCL .nil) .nil .nil .nil (Zq _))
abbrev ZtZ (f:Zoa):Ze:=⟨[.one (.P),.one (.L)],[.one (.I .i64)],fun t K _ h=>f t.1 t.2.1 (fun r0 h=>K (r0,()) h) h⟩
abbrev ZD0:Cfg:=ZA Tryz.prog [] 27 [] [] [] ZC
theorem ZBx:ZD (ZD0) Tryz.f156 (.seq (.leaf) (.seq (.leaf) (.seq (.seq (.leaf) (.block (.loop [11] [.one (.I .i64)] [(7,7),(12,24)] (.seq (.leaf) (.seq (.leaf) (.seq (.block (.seq (.leaf) (.seq (.order (.take 0 true (.take 1 true (.take 2 true (.take 3 true (.take 4 true (.take 5 false (.take 6 false .done)))))))) (.leaf)))) (.leaf))))))) (.leaf)))) (ZtZ Zch):=fun _ _ _ _=>by kernel_rfl
theorem Zxm:Zm Tryz.prog 156 (ZtZ Yy):=okF (ZBx) Tryz.func156 Zh (Zp _ .nil .nil .nil .nil (Zq _))
abbrev ZyE (f:Zux):Ze:=⟨[],[.one (.P)],fun _ K _ h=>f (fun r0 h=>K (r0,()) h) h⟩
abbrev ZDZ (f41:Zry):Cfg:=ZA Tryz.prog [(119,Zv6 f41)] 18 [] [] [] ZC
theorem ZBw (f41:Zry):ZD (ZDZ f41) Tryz.f201 (.leaf) (ZyE (Zg5 f41)):=fun _ _ _ _=>by kernel_rfl
theorem ZCJ:Zm Tryz.prog 201 (ZyE Zem):=okF (ZBw Zbm) Tryz.func201 Zh (Zp _ (.cons ZAK .nil) .nil .nil .nil (Zq _))
abbrev ZtY (f:Zn9):Ze:=⟨[.one (.P),.agg [.I .u8,.S,.S,.S]],[],fun t K _ h=>f t.1 t.2.1 (fun h=>K (()) h) h⟩
abbrev ZDY (f64:Zux):Cfg:=ZA Tryz.prog [(201,ZyE f64)] 27 [] [] [] ZC
theorem ZBv (f64:Zux):ZD (ZDY f64) Tryz.f157 (.seq (.leaf) (.seq (.order (.take 0 true (.take 1 true (.take 2 true (.take 3 true (.take 4 true (.take 5 false (.take 6 false .done)))))))) (.cond (.seq (.order (.take 0 true (.take 1 true (.take 2 true (.take 3 true (.take 4 true (.take 5 false (.take 6 false .done)))))))) (.order (.take 0 true (.take 1 true (.take 2 true (.take 3 true (.take 4 true (.take 5 true (.take 6 false (.take 7 false (.take 8 false (.take 9 false (.take 10 false .done))))))))))))) (.leaf)))) (ZtY (Zcg f64)):=fun _ _ _ _=>by kernel_rfl
theorem Zxl:Zm Tryz.prog 157 (ZtY Yx):=okF (ZBv Zem) Tryz.func157 Zh (Zp _ (.cons ZCJ .nil) .nil .nil .nil (Zq _))
abbrev ZyD (f:Zuw):Ze:=⟨[.one (.P),.one (.L)],[.one (.I .i64)],fun t K _ h=>f t.1 t.2.1 (fun r0 h=>K (r0,()) h) h⟩
abbrev ZDX (f59:ZkQ) (f63:Zoa) (f65:Zn9):Cfg:=ZA Tryz.prog [(58,Zr2 f59),(156,ZtZ f63),(157,ZtY f65)] 57 [] [] [] ZC
theorem ZBu (f59:ZkQ) (f63:Zoa) (f65:Zn9):ZD (ZDX f59 f63 f65) Tryz.f99 (.seq (.leaf) (.seq (.leaf) (.seq (.leaf) (.seq (.seq (.leaf) (.block (.loop [5,16] [.one (.L),.one (.I .i64)] [(4,4),(7,9),(17,31)] (.leaf)))) (.seq (.seq (.order (.take 0 true (.take 1 true (.take 2 true (.take 3 true (.take 5 true (.take 6 true (.take 7 true (.take 8 true (.take 9 true (.take 10 true (.take 11 true (.take 4 false (.take 12 false .done)))))))))))))) (.leaf)) (.seq (.seq (.leaf) (.block (.loop [47] [.one (.I .i64)] [(11,11),(48,56)] (.seq (.leaf) (.seq (.leaf) (.seq (.block (.seq (.leaf) (.order (.take 0 true (.take 1 true (.take 2 true (.take 3 true (.take 4 false .done)))))))) (.leaf))))))) (.leaf))))))) (ZyD (ZcA f59 f63 f65)):=fun _ _ _ _=>by kernel_rfl
theorem ZCI:Zm Tryz.prog 99 (ZyD Zat):=okF (ZBu Xd Yy Yx) Tryz.func99 Zh (Zp _ (.cons ZtO (.cons Zxm (.cons Zxl .nil))) .nil .nil .nil (Zq _))
abbrev ZyC (f:Zuv):Ze:=⟨[.one (.P),.agg [.I .i64,.S,.S,.S,.B,.I .i64,.L]],[.one (.I .i64)],fun t K _ h=>f t.1 t.2.1 (fun r0 h=>K (r0,()) h) h⟩
abbrev ZDW (f59:ZkQ) (f62:Zuy) (f66:Zuw):Cfg:=ZA Tryz.prog [(58,Zr2 f59),(97,ZyF f62),(99,ZyD f66)] 65 [] [] [] ZC
theorem ZBt (f59:ZkQ) (f62:Zuy) (f66:Zuw):ZD (ZDW f59 f62 f66) Tryz.f50 (.seq (.leaf) (.seq (.leaf) (.seq (.leaf) (.seq (.order (.take 0 true (.take 1 true (.take 2 true (.take 3 true (.take 4 true (.take 5 false (.take 6 false (.take 7 false .done))))))))) (.leaf))))) (ZyC (Zao f59 f62 f66)):=fun _ _ _ _=>by kernel_rfl
theorem ZCH:Zm Tryz.prog 50 (ZyC YR):=okF (ZBt Xd Zy Zat) Tryz.func50 Zh (Zp _ (.cons ZtO (.cons ZCK (.cons ZCI .nil))) .nil .nil .nil (Zq _))
abbrev ZyB (f:Zuu):Ze:=⟨[.one (.I .i64),.one (.S),.one (.P),.one (.P)],[],fun t K _ h=>f t.1 t.2.1 t.2.2.1 t.2.2.2.1 (fun h=>K (()) h) h⟩
abbrev ZDV:Cfg:=ZA Tryz.prog [] 13 [] [] [] ZC
theorem ZBs:ZD (ZDV) Tryz.f63 (.leaf) (ZyB Zfp):=fun _ _ _ _=>by kernel_rfl
theorem ZCG:Zm Tryz.prog 63 (ZyB ZdV):=okF (ZBs) Tryz.func63 Zh (Zp _ .nil .nil .nil .nil (Zq _))
abbrev Zr1 (f:ZkP):Ze:=⟨[.agg [.L,.L,.L,.L,.L],.one (.I .u8),.one (.S)],[.one (.L)],fun t K _ h=>f t.1 t.2.1 t.2.2.1 (fun r0 h=>K (r0,()) h) h⟩
abbrev ZDU (f68:Zuu):Cfg:=ZA Tryz.prog [(63,ZyB f68)] 98 [] [] [] ZC
theorem ZBr (f68:Zuu):ZD (ZDU f68) Tryz.f27 (.seq (.leaf) (.seq (.leaf) (.seq (.leaf) (.seq (.seq (.leaf) (.block (.seq (.leaf) (.cond (.seq (.leaf) (.block (.loop [25] [.one (.I .i64)] [(9,10),(26,35)] (.leaf)))) (.seq (.leaf) (.cond (.seq (.leaf) (.block (.loop [41] [.one (.I .i64)] [(11,12),(42,51)] (.leaf)))) (.seq (.leaf) (.cond (.seq (.leaf) (.block (.loop [57] [.one (.I .i64)] [(13,14),(58,67)] (.leaf)))) (.seq (.leaf) (.cond (.seq (.leaf) (.block (.loop [73] [.one (.I .i64)] [(15,15),(74,80)] (.leaf)))) (.seq (.leaf) (.cond (.seq (.leaf) (.block (.loop [86] [.one (.I .i64)] [(16,17),(87,96)] (.leaf)))) (.leaf))))))))))))) (.leaf))))) (Zr1 (Zeo f68)):=fun _ _ _ _=>by kernel_rfl
theorem ZtN:Zm Tryz.prog 27 (Zr1 Y7):=okF (ZBr ZdV) Tryz.func27 Zh (Zp _ (.cons ZCG .nil) .nil .nil .nil (Zq _))
abbrev ZAQ (f:Zut):Ze:=⟨[.one (.I .i64),.one (.P)],[.one (.B)],fun t K _ h=>f t.1 t.2.1 (fun r0 h=>K (r0,()) h) h⟩
theorem ZCF:Zm Tryz.prog 159 (ZAQ Zbz):=ZdF Tryz.func159 (by kernel_rfl) (by kernel_rfl) fun _ _ _ _ h=>h
abbrev ZyA (f:Zus):Ze:=⟨[.one (.P),.one (.I .u8),.clo 159 [.P]],[.one (.I .i64),.one (.B)],fun t K _ h=>f t.1 t.2.1 t.2.2.1 (fun r0 r1 h=>K (r0,r1,()) h) h⟩
abbrev ZDT (f69:ZkP) (f70:Zut):Cfg:=ZA Tryz.prog [(27,Zr1 f69),(159,ZAQ f70)] 34 [] [] [] ZC
theorem ZBq (f69:ZkP) (f70:Zut):ZD (ZDT f69 f70) Tryz.f158 (.seq (.leaf) (.seq (.seq (.order (.take 0 true (.take 1 true (.take 2 true (.take 7 true (.take 8 true (.take 9 true (.take 10 true (.take 11 true (.take 15 true (.take 3 true (.take 4 true (.take 5 true (.take 6 true (.take 12 true (.take 13 false (.take 14 false .done))))))))))))))))) (.block (.loop [25] [.one (.I .i64)] [(6,7),(9,9),(26,33)] (.leaf)))) (.leaf))) (ZyA (Yp f69 f70)):=fun _ _ _ _=>by kernel_rfl
theorem ZCE:Zm Tryz.prog 158 (ZyA ZI):=okF (ZBq Y7 Zbz) Tryz.func158 Zh (Zp _ (.cons ZtN (.cons ZCF .nil)) .nil .nil .nil (Zq _))
abbrev Zyz (f:Zur):Ze:=⟨[.one (.P)],[.one (.I .i64),.one (.B)],fun t K _ h=>f t.1 (fun r0 r1 h=>K (r0,r1,()) h) h⟩
abbrev ZDS (f71:Zus):Cfg:=ZA Tryz.prog [(158,ZyA f71)] 9 [] [] [] ZC
theorem ZBp (f71:Zus):ZD (ZDS f71) Tryz.f100 (.leaf) (Zyz (Zbh f71)):=fun _ _ _ _=>by kernel_rfl
theorem ZCD:Zm Tryz.prog 100 (Zyz Xe):=okF (ZBp ZI) Tryz.func100 Zh (Zp _ (.cons ZCE .nil) .nil .nil .nil (Zq _))
theorem ZvS:Zqw Tryz.prog 79:=Zp9 Tryz.func79 (by kernel_rfl) (by kernel_rfl) (by kernel_rfl) (by kernel_rfl)
abbrev Zyy (f:Zuq):Ze:=⟨[.one (.M)],[.one (.M)],fun t K _ h=>f t.1 (fun r0 h=>K (r0,()) h) h⟩
abbrev ZDR:Cfg:=ZA Tryz.prog [] 9 [79] [] [] ZC
theorem ZBo:ZD (ZDR) Tryz.f187 (.leaf) (Zyy Yo):=fun _ _ _ _=>by kernel_rfl
theorem ZCC:Zm Tryz.prog 187 (Zyy ZL):=okF (ZBo) Tryz.func187 Zh (Zp _ .nil (.cons ZvS .nil) .nil .nil (Zq _))
abbrev Zyx (f:Zup):Ze:=⟨[.one (.P)],[.one (.P)],fun t K _ h=>f t.1 (fun r0 h=>K (r0,()) h) h⟩
abbrev ZDQ (f73:Zuq):Cfg:=ZA Tryz.prog [(187,Zyy f73)] 15 [] [] [] ZC
theorem ZBn (f73:Zuq):ZD (ZDQ f73) Tryz.f127 (.leaf) (Zyx (ZbD f73)):=fun _ _ _ _=>by kernel_rfl
theorem ZCB:Zm Tryz.prog 127 (Zyx XJ):=okF (ZBn ZL) Tryz.func127 Zh (Zp _ (.cons ZCC .nil) .nil .nil .nil (Zq _))
abbrev Zyw (f:Zuo):Ze:=⟨[.one (.P)],[.one (.P)],fun t K _ h=>f t.1 (fun r0 h=>K (r0,()) h) h⟩
abbrev ZDP (f74:Zup):Cfg:=ZA Tryz.prog [(127,Zyx f74)] 23 [] [] [] ZC
theorem ZBm (f74:Zup):ZD (ZDP f74) Tryz.f72 (.seq (.leaf) (.seq (.leaf) (.seq (.order (.take 0 true (.take 1 true (.take 2 true (.take 5 true (.take 6 true (.take 7 true (.take 8 true (.take 12 true (.take 13 true (.take 14 true (.take 3 true (.take 9 true (.take 15 true (.take 4 false (.take 10 false (.take 11 false (.take 16 false (.take 17 false (.take 18 false .done)))))))))))))))))))) (.leaf)))) (Zyw (ZbL f74)):=fun _ _ _ _=>by kernel_rfl
theorem ZCA:Zm Tryz.prog 72 (Zyw XE):=okF (ZBm XJ) Tryz.func72 Zh (Zp _ (.cons ZCB .nil) .nil .nil .nil (Zq _))
abbrev Zv3 (f:Zrv):Ze:=⟨[.one (.P),.agg [.I .u8,.S,.S,.S]],[.one (.P)],fun t K _ h=>f t.1 t.2.1 (fun r0 h=>K (r0,()) h) h⟩
abbrev ZDO (f75:Zuo):Cfg:=ZA Tryz.prog [(72,Zyw f75)] 15 [] [] [] ZC
theorem ZBl (f75:Zuo):ZD (ZDO f75) Tryz.f30 (.seq (.leaf) (.seq (.leaf) (.seq (.order (.take 0 true (.take 1 true (.take 2 true (.take 3 true (.take 4 true (.take 5 true (.take 6 false (.take 7 false (.take 8 false .done)))))))))) (.leaf)))) (Zv3 (Zc9 f75)):=fun _ _ _ _=>by kernel_rfl
theorem ZAH:Zm Tryz.prog 30 (Zv3 XB):=okF (ZBl XE) Tryz.func30 Zh (Zp _ (.cons ZCA .nil) .nil .nil .nil (Zq _))
abbrev ZtX (f:Zn8):Ze:=⟨[.one (.P),.one (.I .i64)],[.one (.I .i64)],fun t K _ h=>f t.1 t.2.1 (fun r0 h=>K (r0,()) h) h⟩
abbrev ZDN:Cfg:=ZA Tryz.prog [] 22 [] [] [] ZC
theorem ZBk:ZD (ZDN) Tryz.f120 (.leaf) (ZtX Zbr):=fun _ _ _ _=>by kernel_rfl
theorem Zxk:Zm Tryz.prog 120 (ZtX Yl):=okF (ZBk) Tryz.func120 Zh (Zp _ .nil .nil .nil .nil (Zq _))
abbrev Zv2 (f:Zru):Ze:=⟨[.one (.P),.one (.I .i64)],[.clo 182 [.P,.P]],fun t K _ h=>f t.1 t.2.1 (fun r0 h=>K (r0,()) h) h⟩
abbrev ZDM:Cfg:=ZA Tryz.prog [] 6 [] [] [] ZC
theorem ZBj:ZD (ZDM) Tryz.f124 (.leaf) (Zv2 Zcf):=fun _ _ _ _=>by kernel_rfl
theorem ZAG:Zm Tryz.prog 124 (Zv2 Xc):=okF (ZBj) Tryz.func124 Zh (Zp _ .nil .nil .nil .nil (Zq _))
abbrev ZtF (f:Zqy):Ze:=⟨[.one (.P),.one (.I .i64)],[.one (.I .i64)],fun t K _ h=>f t.1 t.2.1 (fun r0 h=>K (r0,()) h) h⟩
abbrev ZDL:Cfg:=ZA Tryz.prog [] 16 [] [] [] ZC
theorem ZBi:ZD (ZDL) Tryz.f122 (.leaf) (ZtF X1):=fun _ _ _ _=>by kernel_rfl
theorem Zxj:Zm Tryz.prog 122 (ZtF ZU):=okF (ZBi) Tryz.func122 Zh (Zp _ .nil .nil .nil .nil (Zq _))
abbrev ZAV:List VT:=[.yl,.one (.P),.one (.P)]
abbrev ZAU:List VT:=[]
abbrev Zyv (f:Zrt):Zbj:=⟨[.one (.P),.one (.P)],fun Y l t K h=>f Y l t.1 t.2.1 K h⟩
def ZDK (Y:Yld):Cfg:=ZA Tryz.prog [(122,(ZtF ZU))] 52 [] [] [] Y
theorem ZBh (f79:Zqy) (Y:Yld) (t:Xa ZAV) (K:Xa ZAU→HP) (Kp:Value→HP) (h:Zd):ZtK (ZA Tryz.prog [(122,ZtF f79)] 52 [] [] [] Y) Tryz.f182 (.seq (.leaf) (.seq (.leaf) (.block (.loop [5] [.one (.I .i64)] [(6,7),(19,51)] (.seq (.leaf) (.seq (.block (.seq (.leaf) (.seq (.order (.take 0 false (.take 1 false (.take 2 true (.take 3 true (.take 4 true (.take 5 true (.take 6 true (.take 7 true (.take 8 true (.take 9 true (.take 10 true (.take 11 true (.take 12 true (.take 13 true (.take 14 true (.take 15 false (.take 16 false (.take 17 false (.take 18 false .done)))))))))))))))))))) (.leaf)))) (.leaf))))))) (Xa.evs ZAV t) ZAU K Kp h=ZbB f79 Y t.1 t.2.1 t.2.2.1 (fun h=>K (()) h) h:=by kernel_rfl
theorem ZAF:ZlG Tryz.prog 182 (Zyv YO):=fun Y hY=>Ztc (c:=ZDK Y) Tryz.func182 (by kernel_rfl) (by kernel_rfl) rfl (Nat.le_of_ble_eq_true rfl) (Zp _ (.cons Zxj .nil) .nil .nil .nil hY) Zh (ZBh ZU Y)
abbrev Zyu (f:Zun):Ze:=⟨[.one (.I .i64),.one (.I .i64)],[.one (.I .i64)],fun t K _ h=>f t.1 t.2.1 (fun r0 h=>K (r0,()) h) h⟩
abbrev ZDJ:Cfg:=ZA Tryz.prog [] 11 [] [] [] ZC
theorem ZBg:ZD (ZDJ) Tryz.f183 (.leaf) (Zyu Zgu):=fun _ _ _ _=>by kernel_rfl
theorem ZCz:Zm Tryz.prog 183 (Zyu Zdr):=okF (ZBg) Tryz.func183 Zh (Zp _ .nil .nil .nil .nil (Zq _))
abbrev Zv1 (f:Zrs):Ze:=⟨[.agg [.I .i64,.I .i64,.I .i64,.I .i64,.I .i64,.I .i64],.agg [.I .i64,.I .i64,.I .i64,.I .i64,.I .i64,.I .i64]],[.agg [.I .i64,.I .i64,.I .i64,.I .i64,.I .i64,.I .i64]],fun t K _ h=>f t.1 t.2.1 (fun r0 h=>K (r0,()) h) h⟩
abbrev ZDI (f81:Zun):Cfg:=ZA Tryz.prog [(183,Zyu f81)] 53 [] [] [] ZC
theorem ZBf (f81:Zun):ZD (ZDI f81) Tryz.f125 (.seq (.leaf) (.cut [5] [.one (.P)] [(6,31)] (.order (.take 0 true (.take 2 true (.take 5 true (.take 7 true (.take 10 true (.take 12 true (.take 15 true (.take 17 true (.take 20 true (.take 22 true (.take 1 true (.take 3 true (.take 6 true (.take 8 true (.take 11 true (.take 13 true (.take 16 true (.take 18 true (.take 21 true (.take 23 true (.fork 4 (.fork 9 (.fork 14 (.fork 19 (.fork 24 (.take 25 true (.take 26 false (.take 27 false .done))) 26 (.take 24 false (.take 25 false (.take 27 false .done)))) 26 (.take 19 false (.take 24 false (.take 25 false (.take 27 false .done))))) 26 (.take 14 false (.take 19 false (.take 24 false (.take 25 false (.take 27 false .done)))))) 26 (.take 9 false (.take 14 false (.take 19 false (.take 24 false (.take 25 false (.take 27 false .done))))))) 26 (.take 4 false (.take 9 false (.take 14 false (.take 19 false (.take 24 false (.take 25 false (.take 27 false .done))))))))))))))))))))))))))))) (.leaf))) (Zv1 (Zfm f81)):=fun _ _ _ _=>by kernel_rfl
theorem ZAE:Zm Tryz.prog 125 (Zv1 Zbl):=okF (ZBf Zdr) Tryz.func125 Zh (Zp _ (.cons ZCz .nil) .nil .nil .nil (Zq _))
abbrev Zv0 (f:Zrr):Ze:=⟨[.one (.P),.one (.I .i64)],[.agg [.I .i64,.I .i64,.I .i64,.I .i64,.I .i64,.I .i64],.one (.I .i64)],fun t K _ h=>f t.1 t.2.1 (fun r0 r1 h=>K (r0,r1,()) h) h⟩
abbrev ZDH (f77:Zn8) (f78:Zru) (f82:Zrs) (f80:Zrt):Cfg:=ZA Tryz.prog [(120,ZtX f77),(124,Zv2 f78),(125,Zv1 f82)] 25 [] [] [(182,Zyv f80)] ZC
theorem ZBe (f77:Zn8) (f78:Zru) (f82:Zrs) (f80:Zrt):ZD (ZDH f77 f78 f82 f80) Tryz.f69 (.seq (.leaf) (.seq (.leaf) (.seq (.leaf) (.seq (.seq (.leaf) (.block (.range [.agg [.I .i64,.I .i64,.I .i64,.I .i64,.I .i64,.I .i64,.I .i64]] (.leaf) (.leaf)))) (.leaf))))) (Zv0 (ZbO f77 f78 f82 f80)):=fun _ _ _ _=>by kernel_rfl
theorem ZAD:Zm Tryz.prog 69 (Zv0 Y0):=okF (ZBe Yl Xc Zbl YO) Tryz.func69 Zh (Zp _ (.cons Zxk (.cons ZAG (.cons ZAE .nil))) .nil .nil (.cons ZAF .nil) (Zq _))
abbrev ZtE (f:ZmA):Ze:=⟨[.one (.P),.one (.I .i64)],[.agg [.I .i64,.I .i64,.I .i64,.I .i64,.I .i64,.I .i64],.one (.I .i64)],fun t K _ h=>f t.1 t.2.1 (fun r0 r1 h=>K (r0,r1,()) h) h⟩
abbrev ZDG (f83:Zrr):Cfg:=ZA Tryz.prog [(69,Zv0 f83)] 17 [] [] [] ZC
theorem ZBd (f83:Zrr):ZD (ZDG f83) Tryz.f161 (.leaf) (ZtE (Zcl f83)):=fun _ _ _ _=>by kernel_rfl
theorem ZvY:Zm Tryz.prog 161 (ZtE Yu):=okF (ZBd Y0) Tryz.func161 Zh (Zp _ (.cons ZAD .nil) .nil .nil .nil (Zq _))
abbrev Zyt (f:Zum):Ze:=⟨[.one (.P),.one (.I .i64)],[.one (.I .i64),.one (.I .i64)],fun t K _ h=>f t.1 t.2.1 (fun r0 r1 h=>K (r0,r1,()) h) h⟩
abbrev ZDF (f84:ZmA):Cfg:=ZA Tryz.prog [(161,ZtE f84)] 27 [] [] [] ZC
theorem ZBc (f84:ZmA):ZD (ZDF f84) Tryz.f162 (.leaf) (Zyt (Zdd f84)):=fun _ _ _ _=>by kernel_rfl
theorem ZCy:Zm Tryz.prog 162 (Zyt ZaV):=okF (ZBc Yu) Tryz.func162 Zh (Zp _ (.cons ZvY .nil) .nil .nil .nil (Zq _))
abbrev ZvZ (f:Zrq):Ze:=⟨[.one (.P),.one (.I .i64)],[.one (.I .i64),.one (.I .i64)],fun t K _ h=>f t.1 t.2.1 (fun r0 r1 h=>K (r0,r1,()) h) h⟩
abbrev ZDE (f77:Zn8) (f78:Zru) (f79:Zqy) (f80:Zrt):Cfg:=ZA Tryz.prog [(120,ZtX f77),(124,Zv2 f78),(122,ZtF f79)] 33 [] [] [(182,Zyv f80)] ZC
theorem ZBb (f77:Zn8) (f78:Zru) (f79:Zqy) (f80:Zrt):ZD (ZDE f77 f78 f79 f80) Tryz.f202 (.seq (.leaf) (.seq (.leaf) (.seq (.leaf) (.seq (.seq (.leaf) (.block (.range [.agg [.I .i64,.I .i64,.I .i64,.I .i64,.I .i64,.I .i64,.I .i64]] (.leaf) (.block (.seq (.order (.take 1 true (.take 0 true (.take 2 true (.take 4 true (.take 5 true (.take 3 false (.take 6 false (.take 7 false .done))))))))) (.leaf)))))) (.leaf))))) (ZvZ (ZbC f77 f78 f79 f80)):=fun _ _ _ _=>by kernel_rfl
theorem ZAC:Zm Tryz.prog 202 (ZvZ YP):=okF (ZBb Yl Xc ZU YO) Tryz.func202 Zh (Zp _ (.cons Zxk (.cons ZAG (.cons Zxj .nil))) .nil .nil (.cons ZAF .nil) (Zq _))
abbrev Zys (f:Zul):Ze:=⟨[.one (.P),.one (.I .i64)],[.one (.I .i64),.one (.I .i64)],fun t K _ h=>f t.1 t.2.1 (fun r0 r1 h=>K (r0,r1,()) h) h⟩
abbrev ZDD (f86:Zrq):Cfg:=ZA Tryz.prog [(202,ZvZ f86)] 16 [] [] [] ZC
theorem ZBa (f86:Zrq):ZD (ZDD f86) Tryz.f163 (.leaf) (Zys (ZbK f86)):=fun _ _ _ _=>by kernel_rfl
theorem ZCx:Zm Tryz.prog 163 (Zys XD):=okF (ZBa YP) Tryz.func163 Zh (Zp _ (.cons ZAC .nil) .nil .nil .nil (Zq _))
abbrev Zyr (f:Zuk):Ze:=⟨[.one (.P),.one (.I .i64)],[.one (.I .i64),.one (.I .i64)],fun t K _ h=>f t.1 t.2.1 (fun r0 r1 h=>K (r0,r1,()) h) h⟩
abbrev ZDC (f84:ZmA):Cfg:=ZA Tryz.prog [(161,ZtE f84)] 17 [] [] [] ZC
theorem ZA9 (f84:ZmA):ZD (ZDC f84) Tryz.f164 (.leaf) (Zyr (ZcC f84)):=fun _ _ _ _=>by kernel_rfl
theorem ZCw:Zm Tryz.prog 164 (Zyr Zav):=okF (ZA9 Yu) Tryz.func164 Zh (Zp _ (.cons ZvY .nil) .nil .nil .nil (Zq _))
abbrev ZtD (f:Zmz):Ze:=⟨[.one (.P)],[.one (.I .i64)],fun t K _ h=>f t.1 (fun r0 h=>K (r0,()) h) h⟩
abbrev ZDB:Cfg:=ZA Tryz.prog [] 9 [] [] [] ZC
theorem ZA8:ZD (ZDB) Tryz.f32 (.leaf) (ZtD Zbg):=fun _ _ _ _=>by kernel_rfl
theorem ZvX:Zm Tryz.prog 32 (ZtD ZY):=okF (ZA8) Tryz.func32 Zh (Zp _ .nil .nil .nil .nil (Zq _))
abbrev ZAP (f:Zuj):Ze:=⟨[.one (.I .i64),.one (.P),.one (.P)],[.one (.B)],fun t K _ h=>f t.1 t.2.1 t.2.2.1 (fun r0 h=>K (r0,()) h) h⟩
theorem ZCv:Zm Tryz.prog 165 (ZAP Za4):=ZdF Tryz.func165 (by kernel_rfl) (by kernel_rfl) fun _ _ _ _ h=>h
abbrev Zyq (f:Zui):Ze:=⟨[.one (.P),.one (.I .u8),.clo 165 [.P,.P]],[.one (.I .i64),.one (.B)],fun t K _ h=>f t.1 t.2.1 t.2.2.1 (fun r0 r1 h=>K (r0,r1,()) h) h⟩
abbrev ZDA (f69:ZkP) (f90:Zuj):Cfg:=ZA Tryz.prog [(27,Zr1 f69),(165,ZAP f90)] 34 [] [] [] ZC
theorem ZA7 (f69:ZkP) (f90:Zuj):ZD (ZDA f69 f90) Tryz.f158 (.seq (.leaf) (.seq (.seq (.order (.take 0 true (.take 1 true (.take 2 true (.take 7 true (.take 8 true (.take 9 true (.take 10 true (.take 11 true (.take 15 true (.take 3 true (.take 4 true (.take 5 true (.take 6 true (.take 12 true (.take 13 false (.take 14 false .done))))))))))))))))) (.block (.loop [25] [.one (.I .i64)] [(6,7),(9,9),(26,33)] (.leaf)))) (.leaf))) (Zyq (Yj f69 f90)):=fun _ _ _ _=>by kernel_rfl
theorem ZCu:Zm Tryz.prog 158 (Zyq ZG):=okF (ZA7 Y7 Za4) Tryz.func158 Zh (Zp _ (.cons ZtN (.cons ZCv .nil)) .nil .nil .nil (Zq _))
abbrev Zyp (f:Zuh):Ze:=⟨[.one (.P)],[.one (.I .i64),.one (.B)],fun t K _ h=>f t.1 (fun r0 r1 h=>K (r0,r1,()) h) h⟩
abbrev ZDz (f76:Zrv) (f84:ZmA) (f85:Zum) (f87:Zul) (f88:Zuk) (f89:Zmz) (f91:Zui):Cfg:=ZA Tryz.prog [(30,Zv3 f76),(161,ZtE f84),(162,Zyt f85),(163,Zys f87),(164,Zyr f88),(32,ZtD f89),(158,Zyq f91)] 96 [] [] [] ZC
theorem ZA6 (f76:Zrv) (f84:ZmA) (f85:Zum) (f87:Zul) (f88:Zuk) (f89:Zmz) (f91:Zui):ZD (ZDz f76 f84 f85 f87 f88 f89 f91) Tryz.f101 (.seq (.leaf) (.seq (.leaf) (.seq (.leaf) (.seq (.leaf) (.seq (.leaf) (.seq (.leaf) (.seq (.leaf) (.cut [13] [.one (.P)] [(69,90)] (.order (.take 0 true (.take 2 true (.take 4 true (.take 19 true (.take 20 true (.take 1 true (.take 5 true (.take 6 true (.take 7 true (.take 8 true (.take 9 true (.take 10 true (.take 11 true (.take 12 true (.take 13 true (.take 14 true (.take 15 true (.take 16 true (.take 17 true (.take 18 true (.fork 3 (.take 21 true (.take 22 false (.take 23 false .done))) 22 (.take 3 false (.take 21 false (.take 23 false .done))))))))))))))))))))))))) (.leaf))))))))) (Zyp (Zan f76 f84 f85 f87 f88 f89 f91)):=fun _ _ _ _=>by kernel_rfl
theorem ZCt:Zm Tryz.prog 101 (Zyp YQ):=okF (ZA6 XB Yu ZaV XD Zav ZY ZG) Tryz.func101 Zh (Zp _ (.cons ZAH (.cons ZvY (.cons ZCy (.cons ZCx (.cons ZCw (.cons ZvX (.cons ZCu .nil))))))) .nil .nil .nil (Zq _))
abbrev ZAO (f:Zug):Ze:=⟨[.one (.I .i64),.one (.P)],[.one (.B)],fun t K _ h=>f t.1 t.2.1 (fun r0 h=>K (r0,()) h) h⟩
theorem ZCs:Zm Tryz.prog 167 (ZAO ZbM):=ZdF Tryz.func167 (by kernel_rfl) (by kernel_rfl) fun _ _ _ _ h=>h
abbrev Zyo (f:Zuf):Ze:=⟨[.one (.P),.one (.I .u8),.clo 167 [.P]],[.one (.I .i64),.one (.B)],fun t K _ h=>f t.1 t.2.1 t.2.2.1 (fun r0 r1 h=>K (r0,r1,()) h) h⟩
abbrev ZDy (f69:ZkP) (f93:Zug):Cfg:=ZA Tryz.prog [(27,Zr1 f69),(167,ZAO f93)] 34 [] [] [] ZC
theorem ZA5 (f69:ZkP) (f93:Zug):ZD (ZDy f69 f93) Tryz.f158 (.seq (.leaf) (.seq (.seq (.order (.take 0 true (.take 1 true (.take 2 true (.take 7 true (.take 8 true (.take 9 true (.take 10 true (.take 11 true (.take 15 true (.take 3 true (.take 4 true (.take 5 true (.take 6 true (.take 12 true (.take 13 false (.take 14 false .done))))))))))))))))) (.block (.loop [25] [.one (.I .i64)] [(6,7),(9,9),(26,33)] (.leaf)))) (.leaf))) (Zyo (Ys f69 f93)):=fun _ _ _ _=>by kernel_rfl
theorem ZCr:Zm Tryz.prog 158 (Zyo ZJ):=okF (ZA5 Y7 ZbM) Tryz.func158 Zh (Zp _ (.cons ZtN (.cons ZCs .nil)) .nil .nil .nil (Zq _))
abbrev Zyn (f:Zue):Ze:=⟨[.one (.P)],[.one (.I .i64),.one (.B)],fun t K _ h=>f t.1 (fun r0 r1 h=>K (r0,r1,()) h) h⟩
abbrev ZDx (f94:Zuf):Cfg:=ZA Tryz.prog [(158,Zyo f94)] 9 [] [] [] ZC
theorem ZA4 (f94:Zuf):ZD (ZDx f94) Tryz.f102 (.leaf) (Zyn (Zbx f94)):=fun _ _ _ _=>by kernel_rfl
theorem ZCq:Zm Tryz.prog 102 (Zyn Xq):=okF (ZA4 ZJ) Tryz.func102 Zh (Zp _ (.cons ZCr .nil) .nil .nil .nil (Zq _))
abbrev Zym (f:Zud):Ze:=⟨[.one (.L),.agg [.I .i64,.S,.S,.S,.B,.I .i64,.L]],[.clo 255 [.P,.P]],fun t K _ h=>f t.1 t.2.1 (fun r0 h=>K (r0,()) h) h⟩
abbrev ZDw:Cfg:=ZA Tryz.prog [] 6 [] [] [] ZC
theorem ZA3:ZD (ZDw) Tryz.f209 (.leaf) (Zym Zdu):=fun _ _ _ _=>by kernel_rfl
theorem ZCp:Zm Tryz.prog 209 (Zym Zca):=okF (ZA3) Tryz.func209 Zh (Zp _ .nil .nil .nil .nil (Zq _))
abbrev Zyl (f:Zuc):Ze:=⟨[.agg [.S,.S,.B,.I .i64,.I .u8,.S,.I .u8,.I .i64,.I .i64,.B,.I .i64,.B],.one (.P),.one (.P),.one (.P)],[.one (.B)],fun t K _ h=>f t.1 t.2.1 t.2.2.1 t.2.2.2.1 (fun r0 h=>K (r0,()) h) h⟩
abbrev ZDv:Cfg:=ZA Tryz.prog [] 28 [] [] [] ZC
theorem ZA2:ZD (ZDv) Tryz.f278 (.leaf) (Zyl ZdZ):=fun _ _ _ _=>by kernel_rfl
theorem ZCo:Zm Tryz.prog 278 (Zyl Zb5):=okF (ZA2) Tryz.func278 Zh (Zp _ .nil .nil .nil .nil (Zq _))
abbrev Zyk (f:Zub):Ze:=⟨[.one (.L),.clo 278 [.P,.P,.P]],[.one (.I .i64)],fun t K _ h=>f t.1 t.2.1 (fun r0 h=>K (r0,()) h) h⟩
abbrev ZDu (f97:Zuc):Cfg:=ZA Tryz.prog [(278,Zyl f97)] 19 [] [] [] ZC
theorem ZA1 (f97:Zuc):ZD (ZDu f97) Tryz.f294 (.seq (.leaf) (.seq (.seq (.leaf) (.block (.loop [8] [.one (.I .i64)] [(4,5),(9,18)] (.leaf)))) (.leaf))) (Zyk (YF f97)):=fun _ _ _ _=>by kernel_rfl
theorem ZCn:Zm Tryz.prog 294 (Zyk Z9):=okF (ZA1 Zb5) Tryz.func294 Zh (Zp _ (.cons ZCo .nil) .nil .nil .nil (Zq _))
abbrev Zyj (f:Zua):Ze:=⟨[.one (.L),.clo 278 [.P,.P,.P]],[.one (.B)],fun t K _ h=>f t.1 t.2.1 (fun r0 h=>K (r0,()) h) h⟩
abbrev ZDt (f98:Zub):Cfg:=ZA Tryz.prog [(294,Zyk f98)] 9 [] [] [] ZC
theorem ZA0 (f98:Zub):ZD (ZDt f98) Tryz.f279 (.leaf) (Zyj (Yz f98)):=fun _ _ _ _=>by kernel_rfl
theorem ZCm:Zm Tryz.prog 279 (Zyj Z2):=okF (ZA0 Z9) Tryz.func279 Zh (Zp _ (.cons ZCn .nil) .nil .nil .nil (Zq _))
abbrev ZqJ (f:ZqK):Ze:=⟨[.one (.L),.one (.I .i64),.one (.S)],[.one (.B)],fun t K _ h=>f t.1 t.2.1 t.2.2.1 (fun r0 h=>K (r0,()) h) h⟩
abbrev ZAn (f99:Zua):Cfg:=ZA Tryz.prog [(279,Zyj f99)] 32 [] [] [] ZC
theorem Zxi (f99:Zua):ZD (ZAn f99) Tryz.f256 (.leaf) (ZqJ (Zdi f99)):=fun _ _ _ _=>by kernel_rfl
theorem Zyi:Zm Tryz.prog 256 (ZqJ X5):=okF (Zxi Z2) Tryz.func256 Zh (Zp _ (.cons ZCm .nil) .nil .nil .nil (Zq _))
abbrev Zt9:List VT:=[.yl,.one (.P),.one (.P)]
abbrev Zt8:List VT:=[]
abbrev Zt7 (f:Zo5):Zbj:=⟨[.one (.P),.one (.P)],fun Y l t K h=>f Y l t.1 t.2.1 K h⟩
def ZAm (Y:Yld):Cfg:=ZA Tryz.prog [(256,(ZqJ X5))] 33 [] [] [] Y
theorem Zxh (f100:ZqK) (Y:Yld) (t:Xa Zt9) (K:Xa Zt8→HP) (Kp:Value→HP) (h:Zd):ZtK (ZA Tryz.prog [(256,ZqJ f100)] 33 [] [] [] Y) Tryz.f255 (.seq (.leaf) (.block (.loop [8] [.one (.I .i64)] [(4,5),(9,32)] (.leaf)))) (Xa.evs Zt9 t) Zt8 K Kp h=Zco f100 Y t.1 t.2.1 t.2.2.1 (fun h=>K (()) h) h:=by kernel_rfl
theorem Zyh:ZlG Tryz.prog 255 (Zt7 Zbp):=fun Y hY=>Ztc (c:=ZAm Y) Tryz.func255 (by kernel_rfl) (by kernel_rfl) rfl (Nat.le_of_ble_eq_true rfl) (Zp _ (.cons Zyi .nil) .nil .nil .nil hY) Zh (Zxh X5 Y)
abbrev ZqI (f:ZkY):Ze:=⟨[.agg [.S,.S,.B,.I .i64,.I .u8,.S,.I .u8,.I .i64,.I .i64,.B,.I .i64,.B],.agg [.I .i64,.S,.S,.S,.B,.I .i64,.L]],[.agg [.S,.S,.S,.B]],fun t K _ h=>f t.1 t.2.1 (fun r0 h=>K (r0,()) h) h⟩
abbrev ZAl:Cfg:=ZA Tryz.prog [] 36 [] [] [] ZC
theorem Zxg:ZD (ZAl) Tryz.f210 (.leaf) (ZqI Zed):=fun _ _ _ _=>by kernel_rfl
theorem ZtW:Zm Tryz.prog 210 (ZqI Zak):=okF (Zxg) Tryz.func210 Zh (Zp _ .nil .nil .nil .nil (Zq _))
abbrev ZsQ (f:Zo4):Ze:=⟨[.one (.L),.agg [.I .i64,.S,.S,.S,.B,.I .i64,.L]],[.one (.L)],fun t K _ h=>f t.1 t.2.1 (fun r0 h=>K (r0,()) h) h⟩
abbrev ZAk (f96:Zud) (f102:ZkY) (f101:Zo5):Cfg:=ZA Tryz.prog [(209,Zym f96),(210,ZqI f102)] 23 [] [] [(255,Zt7 f101)] ZC
theorem Zxf (f96:Zud) (f102:ZkY) (f101:Zo5):ZD (ZAk f96 f102 f101) Tryz.f171 (.seq (.leaf) (.seq (.leaf) (.seq (.seq (.leaf) (.block (.range [.one (.I .i64),.agg [.S,.S,.B,.I .i64,.I .u8,.S,.I .u8,.I .i64,.I .i64,.B,.I .i64,.B]] (.leaf) (.leaf)))) (.leaf)))) (ZsQ (Zdv f96 f102 f101)):=fun _ _ _ _=>by kernel_rfl
theorem Zyg:Zm Tryz.prog 171 (ZsQ ZaI):=okF (Zxf Zca Zak Zbp) Tryz.func171 Zh (Zp _ (.cons ZCp (.cons ZtW .nil)) .nil .nil (.cons Zyh .nil) (Zq _))
abbrev ZsP (f:Zo3):Ze:=⟨[.one (.S)],[.agg [.I .u8,.S,.S,.S]],fun t K _ h=>f t.1 (fun r0 h=>K (r0,()) h) h⟩
abbrev ZAj:Cfg:=ZA Tryz.prog [] 5 [] [] [] ZC
theorem Zxe:ZD (ZAj) Tryz.f31 (.leaf) (ZsP ZdJ):=fun _ _ _ _=>by kernel_rfl
theorem Zyf:Zm Tryz.prog 31 (ZsP Zbn):=okF (Zxe) Tryz.func31 Zh (Zp _ .nil .nil .nil .nil (Zq _))
abbrev ZsO (f:Zo2):Ze:=⟨[.one (.P),.agg [.S,.S,.B,.I .i64,.I .u8,.S,.I .u8,.I .i64,.I .i64,.B,.I .i64,.B]],[.one (.P)],fun t K _ h=>f t.1 t.2.1 (fun r0 h=>K (r0,()) h) h⟩
abbrev ZAi (f102:ZkY) (f104:Zo3) (f76:Zrv):Cfg:=ZA Tryz.prog [(210,ZqI f102),(31,ZsP f104),(30,Zv3 f76)] 43 [] [] [] ZC
theorem Zxd (f102:ZkY) (f104:Zo3) (f76:Zrv):ZD (ZAi f102 f104 f76) Tryz.f211 (.seq (.leaf) (.cut [5] [.one (.P)] [(7,12)] (.order (.take 1 true (.take 2 true (.take 3 true (.take 0 true (.take 4 true (.fork 5 (.take 6 false (.take 7 false .done)) 6 (.take 5 false (.take 7 false .done))))))))) (.seq (.leaf) (.cut [] [] [(16,33)] (.leaf) (.seq (.order (.take 0 true (.take 1 true (.take 2 true (.take 3 true (.take 4 true (.take 5 true (.take 6 true (.take 7 true (.take 8 false (.take 9 false .done))))))))))) (.leaf)))))) (ZsO (ZcE f102 f104 f76)):=fun _ _ _ _=>by kernel_rfl
theorem Zye:Zm Tryz.prog 211 (ZsO Zax):=okF (Zxd Zak Zbn XB) Tryz.func211 Zh (Zp _ (.cons ZtW (.cons Zyf (.cons ZAH .nil))) .nil .nil .nil (Zq _))
abbrev ZsN (f:Zo1):Ze:=⟨[.one (.P),.one (.I .i64)],[.one (.I .i64),.one (.I .i64)],fun t K _ h=>f t.1 t.2.1 (fun r0 r1 h=>K (r0,r1,()) h) h⟩
abbrev ZAh (f86:Zrq):Cfg:=ZA Tryz.prog [(202,ZvZ f86)] 17 [] [] [] ZC
theorem Zxc (f86:Zrq):ZD (ZAh f86) Tryz.f212 (.leaf) (ZsN (ZbJ f86)):=fun _ _ _ _=>by kernel_rfl
theorem Zyd:Zm Tryz.prog 212 (ZsN XC):=okF (Zxc YP) Tryz.func212 Zh (Zp _ (.cons ZAC .nil) .nil .nil .nil (Zq _))
abbrev Zt6 (f:Zo0):Ze:=⟨[.one (.P),.one (.I .i64),.one (.I .i64),.one (.I .i64),.one (.I .i64)],[.one (.B),.one (.I .i64)],fun t K _ h=>f t.1 t.2.1 t.2.2.1 t.2.2.2.1 t.2.2.2.2.1 (fun r0 r1 h=>K (r0,r1,()) h) h⟩
theorem Zyc:Zm Tryz.prog 215 (Zt6 Zb2):=ZdF Tryz.func215 (by kernel_rfl) (by kernel_rfl) fun _ _ _ _ h=>h
abbrev Zt5 (f:ZoZ):Ze:=⟨[.one (.P),.one (.I .i64),.one (.I .i64)],[.one (.I .i64),.one (.B),.one (.I .i64)],fun t K _ h=>f t.1 t.2.1 t.2.2.1 (fun r0 r1 r2 h=>K (r0,r1,r2,()) h) h⟩
theorem Zyb:Zm Tryz.prog 219 (Zt5 Zcb):=ZdF Tryz.func219 (by kernel_rfl) (by kernel_rfl) fun _ _ _ _ h=>h
abbrev ZsM (f:ZoY):Ze:=⟨[.one (.P),.one (.I .i64),.one (.B),.one (.I .i64)],[.one (.B)],fun t K _ h=>f t.1 t.2.1 t.2.2.1 t.2.2.2.1 (fun r0 h=>K (r0,()) h) h⟩
abbrev ZAg:Cfg:=ZA Tryz.prog [] 19 [] [] [] ZC
theorem Zxb:ZD (ZAg) Tryz.f218 (.leaf) (ZsM ZdX):=fun _ _ _ _=>by kernel_rfl
theorem Zya:Zm Tryz.prog 218 (ZsM Zb3):=okF (Zxb) Tryz.func218 Zh (Zp _ .nil .nil .nil .nil (Zq _))
abbrev Zt4 (f:ZoX):Ze:=⟨[.one (.P),.one (.I .i64),.one (.I .i64)],[.one (.I .i64),.one (.I .i64)],fun t K _ h=>f t.1 t.2.1 t.2.2.1 (fun r0 r1 h=>K (r0,r1,()) h) h⟩
theorem Zx9:Zm Tryz.prog 220 (Zt4 Zb1):=ZdF Tryz.func220 (by kernel_rfl) (by kernel_rfl) fun _ _ _ _ h=>h
abbrev Zt3 (f:ZoW):Ze:=⟨[.one (.P)],[.one (.P)],fun t K _ h=>f t.1 (fun r0 h=>K (r0,()) h) h⟩
theorem Zx8:Zm Tryz.prog 75 (Zt3 Zcc):=ZdF Tryz.func75 (by kernel_rfl) (by kernel_rfl) fun _ _ _ _ h=>h
abbrev Zt2 (f:ZoV):Ze:=⟨[.one (.P),.one (.I .i64),.one (.I .i64),.one (.I .i64)],[.one (.I .i64),.one (.B),.one (.I .i64)],fun t K _ h=>f t.1 t.2.1 t.2.2.1 t.2.2.2.1 (fun r0 r1 r2 h=>K (r0,r1,r2,()) h) h⟩
theorem Zx7:Zm Tryz.prog 223 (Zt2 Zc7):=ZdF Tryz.func223 (by kernel_rfl) (by kernel_rfl) fun _ _ _ _ h=>h
abbrev ZsL (f:ZoU):Ze:=⟨[.agg [.S,.S,.B,.I .i64,.I .u8,.S,.I .u8,.I .i64,.I .i64,.B,.I .i64,.B],.one (.I .i64),.one (.I .i64),.one (.I .i64)],[.one (.B)],fun t K _ h=>f t.1 t.2.1 t.2.2.1 t.2.2.2.1 (fun r0 h=>K (r0,()) h) h⟩
abbrev ZAf:Cfg:=ZA Tryz.prog [] 41 [] [] [] ZC
theorem Zxa:ZD (ZAf) Tryz.f224 (.leaf) (ZsL ZdO):=fun _ _ _ _=>by kernel_rfl
theorem Zx6:Zm Tryz.prog 224 (ZsL Zbq):=okF (Zxa) Tryz.func224 Zh (Zp _ .nil .nil .nil .nil (Zq _))
abbrev ZsK (f:ZoT):Ze:=⟨[.one (.P),.agg [.S,.S,.B,.I .i64,.I .u8,.S,.I .u8,.I .i64,.I .i64,.B,.I .i64,.B],.agg [.P,.P]],[.one (.B)],fun t K _ h=>f t.1 t.2.1 t.2.2.1 (fun r0 h=>K (r0,()) h) h⟩
abbrev ZAe (f105:Zo2) (f84:ZmA) (f106:Zo1) (f107:Zo0) (f108:ZoZ) (f109:ZoY) (f110:ZoX) (f111:ZoW) (f112:ZoV) (f89:Zmz) (f113:ZoU):Cfg:=ZA Tryz.prog [(211,ZsO f105),(161,ZtE f84),(212,ZsN f106),(215,Zt6 f107),(219,Zt5 f108),(218,ZsM f109),(220,Zt4 f110),(75,Zt3 f111),(223,Zt2 f112),(32,ZtD f89),(224,ZsL f113)] 140 [] [] [] ZC
theorem Zw9 (f105:Zo2) (f84:ZmA) (f106:Zo1) (f107:Zo0) (f108:ZoZ) (f109:ZoY) (f110:ZoX) (f111:ZoW) (f112:ZoV) (f89:Zmz) (f113:ZoU):ZD (ZAe f105 f84 f106 f107 f108 f109 f110 f111 f112 f89 f113) Tryz.f172 (.seq (.leaf) (.seq (.leaf) (.seq (.leaf) (.seq (.leaf) (.cut [12,13] [.one (.P),.one (.P)] [(41,50)] (.order (.take 0 true (.take 1 true (.take 2 true (.take 3 true (.take 5 true (.take 6 true (.take 7 true (.take 8 true (.take 4 true (.take 9 true (.fork 10 (.take 11 false (.take 12 false (.take 13 false .done))) 11 (.take 10 false (.take 12 false (.take 13 false .done))))))))))))))) (.seq (.seq (.leaf) (.block (.seq (.leaf) (.cond (.leaf) (.seq (.leaf) (.cond (.leaf) (.seq (.leaf) (.cond (.seq (.leaf) (.seq (.leaf) (.seq (.leaf) (.seq (.order (.take 0 true (.take 1 true (.take 2 true (.take 4 true (.take 5 true (.take 6 true (.take 3 false (.take 7 false (.take 8 true (.take 9 true (.take 10 false (.take 11 false (.take 12 false .done)))))))))))))) (.leaf))))) (.leaf))))))))) (.seq (.order (.take 1 true (.take 3 true (.take 0 true (.take 2 true (.take 5 true (.take 4 false (.take 6 false (.take 7 false .done))))))))) (.leaf)))))))) (ZsK (ZcF f105 f84 f106 f107 f108 f109 f110 f111 f112 f89 f113)):=fun _ _ _ _=>by kernel_rfl
theorem Zx5:Zm Tryz.prog 172 (ZsK Zay):=okF (Zw9 Zax Yu XC Zb2 Zcb Zb3 Zb1 Zcc Zc7 ZY Zbq) Tryz.func172 Zh (Zp _ (.cons Zye (.cons ZvY (.cons Zyd (.cons Zyc (.cons Zyb (.cons Zya (.cons Zx9 (.cons Zx8 (.cons Zx7 (.cons ZvX (.cons Zx6 .nil))))))))))) .nil .nil .nil (Zq _))
abbrev ZsJ (f:ZoS):Ze:=⟨[.one (.P)],[.one (.I .i64),.one (.B)],fun t K _ h=>f t.1 (fun r0 r1 h=>K (r0,r1,()) h) h⟩
abbrev ZAd (f103:Zo4) (f114:ZoT):Cfg:=ZA Tryz.prog [(171,ZsQ f103),(172,ZsK f114)] 66 [] [] [] ZC
theorem Zw8 (f103:Zo4) (f114:ZoT):ZD (ZAd f103 f114) Tryz.f103 (.seq (.leaf) (.seq (.seq (.order (.take 0 true (.take 1 true (.take 2 true (.take 8 true (.take 9 true (.take 10 true (.take 14 true (.take 3 true (.take 4 true (.take 5 true (.take 6 true (.take 7 true (.take 11 true (.take 12 false (.take 13 false .done)))))))))))))))) (.block (.loop [21] [.one (.I .i64)] [(2,3),(5,6),(22,65)] (.seq (.leaf) (.seq (.leaf) (.seq (.block (.seq (.leaf) (.seq (.leaf) (.cut [] [] [(36,48)] (.leaf) (.seq (.order (.take 0 true (.take 2 true (.take 3 true (.take 4 true (.take 10 true (.take 1 true (.take 5 true (.take 6 false (.take 7 false (.take 8 false (.take 9 true (.take 11 false (.take 12 true (.take 13 false (.take 14 false .done)))))))))))))))) (.leaf)))))) (.leaf))))))) (.leaf))) (ZsJ (Zbi f103 f114)):=fun _ _ _ _=>by kernel_rfl
theorem Zx4:Zm Tryz.prog 103 (ZsJ Xf):=okF (Zw8 ZaI Zay) Tryz.func103 Zh (Zp _ (.cons Zyg (.cons Zx5 .nil)) .nil .nil .nil (Zq _))
abbrev Zn7 (f:ZhE):Ze:=⟨[.one (.P),.one (.I .i64)],[.one (.I .i64)],fun t K _ h=>f t.1 t.2.1 (fun r0 h=>K (r0,()) h) h⟩
abbrev ZAc:Cfg:=ZA Tryz.prog [] 22 [] [] [] ZC
theorem Zw7:ZD (ZAc) Tryz.f64 (.leaf) (Zn7 Zbb):=fun _ _ _ _=>by kernel_rfl
theorem Zr0:Zm Tryz.prog 64 (Zn7 Yh):=okF (Zw7) Tryz.func64 Zh (Zp _ .nil .nil .nil .nil (Zq _))
abbrev ZqH (f:ZkX):Ze:=⟨[.one (.P),.one (.I .i64)],[.one (.B)],fun t K _ h=>f t.1 t.2.1 (fun r0 h=>K (r0,()) h) h⟩
abbrev ZAb:Cfg:=ZA Tryz.prog [] 25 [] [] [] ZC
theorem Zw6:ZD (ZAb) Tryz.f225 (.leaf) (ZqH ZaB):=fun _ _ _ _=>by kernel_rfl
theorem ZtV:Zm Tryz.prog 225 (ZqH Yv):=okF (Zw6) Tryz.func225 Zh (Zp _ .nil .nil .nil .nil (Zq _))
abbrev ZsI (f:ZoR):Ze:=⟨[.one (.P),.one (.I .i64)],[.one (.B),.one (.I .i64)],fun t K _ h=>f t.1 t.2.1 (fun r0 r1 h=>K (r0,r1,()) h) h⟩
abbrev ZAa (f116:ZhE) (f117:ZkX):Cfg:=ZA Tryz.prog [(64,Zn7 f116),(225,ZqH f117)] 16 [] [] [] ZC
theorem Zw5 (f116:ZhE) (f117:ZkX):ZD (ZAa f116 f117) Tryz.f176 (.leaf) (ZsI (Zbc f116 f117)):=fun _ _ _ _=>by kernel_rfl
theorem Zx3:Zm Tryz.prog 176 (ZsI Xn):=okF (Zw5 Yh Yv) Tryz.func176 Zh (Zp _ (.cons Zr0 (.cons ZtV .nil)) .nil .nil .nil (Zq _))
abbrev ZsH (f:ZoQ):Ze:=⟨[.one (.I .i64),.one (.P)],[.one (.B)],fun t K _ h=>f t.1 t.2.1 (fun r0 h=>K (r0,()) h) h⟩
abbrev Zz9 (f118:ZoR):Cfg:=ZA Tryz.prog [(176,ZsI f118)] 41 [] [] [] ZC
theorem Zw4 (f118:ZoR):ZD (Zz9 f118) Tryz.f173 (.seq (.leaf) (.seq (.leaf) (.seq (.order (.take 5 true (.take 0 true (.take 1 true (.take 2 true (.take 3 true (.take 4 true (.take 6 false (.take 7 false (.take 8 false (.take 9 false (.take 10 false .done)))))))))))) (.seq (.order (.take 0 true (.take 1 true (.take 2 true (.take 3 false (.take 4 false (.take 5 false (.take 6 true (.take 7 false (.take 8 false (.take 9 true (.take 10 true (.take 11 false (.take 12 false .done)))))))))))))) (.leaf))))) (ZsH (Zbs f118)):=fun _ _ _ _=>by kernel_rfl
theorem Zx2:Zm Tryz.prog 173 (ZsH Xv):=okF (Zw4 Xn) Tryz.func173 Zh (Zp _ (.cons Zx3 .nil) .nil .nil .nil (Zq _))
abbrev ZsG (f:ZoP):Ze:=⟨[.one (.P),.one (.I .u8),.clo 173 [.P]],[.one (.I .i64),.one (.B)],fun t K _ h=>f t.1 t.2.1 t.2.2.1 (fun r0 r1 h=>K (r0,r1,()) h) h⟩
abbrev Zz8 (f69:ZkP) (f119:ZoQ):Cfg:=ZA Tryz.prog [(27,Zr1 f69),(173,ZsH f119)] 34 [] [] [] ZC
theorem Zw3 (f69:ZkP) (f119:ZoQ):ZD (Zz8 f69 f119) Tryz.f158 (.seq (.leaf) (.seq (.seq (.order (.take 0 true (.take 1 true (.take 2 true (.take 7 true (.take 8 true (.take 9 true (.take 10 true (.take 11 true (.take 15 true (.take 3 true (.take 4 true (.take 5 true (.take 6 true (.take 12 true (.take 13 false (.take 14 false .done))))))))))))))))) (.block (.loop [25] [.one (.I .i64)] [(6,7),(9,9),(26,33)] (.leaf)))) (.leaf))) (ZsG (Ym f69 f119)):=fun _ _ _ _=>by kernel_rfl
theorem Zx1:Zm Tryz.prog 158 (ZsG ZS):=okF (Zw3 Y7 Xv) Tryz.func158 Zh (Zp _ (.cons ZtN (.cons Zx2 .nil)) .nil .nil .nil (Zq _))
abbrev ZsF (f:ZoO):Ze:=⟨[.one (.P)],[.one (.I .i64),.one (.B)],fun t K _ h=>f t.1 (fun r0 r1 h=>K (r0,r1,()) h) h⟩
abbrev Zz7 (f120:ZoP):Cfg:=ZA Tryz.prog [(158,ZsG f120)] 9 [] [] [] ZC
theorem Zw2 (f120:ZoP):ZD (Zz7 f120) Tryz.f104 (.leaf) (ZsF (ZaK f120)):=fun _ _ _ _=>by kernel_rfl
theorem Zx0:Zm Tryz.prog 104 (ZsF Y3):=okF (Zw2 ZS) Tryz.func104 Zh (Zp _ (.cons Zx1 .nil) .nil .nil .nil (Zq _))
abbrev ZsE (f:ZoN):Ze:=⟨[.one (.P)],[.agg [.I .u8,.I .i64,.I .i64],.one (.B)],fun t K _ h=>f t.1 (fun r0 r1 h=>K (r0,r1,()) h) h⟩
abbrev Zz6 (f72:Zur) (f92:Zuh) (f95:Zue) (f115:ZoS) (f121:ZoO):Cfg:=ZA Tryz.prog [(100,Zyz f72),(101,Zyp f92),(102,Zyn f95),(103,ZsJ f115),(104,ZsF f121)] 33 [] [] [] ZC [(100,[]),(101,[]),(102,[]),(103,[]),(104,[])]
theorem Zw1 (f72:Zur) (f92:Zuh) (f95:Zue) (f115:ZoS) (f121:ZoO):ZD (Zz6 f72 f92 f95 f115 f121) Tryz.f51 (.seq (.leaf) (.seq (.leaf) (.seq (.seq (.leaf) (.block (.loop [16] [.one (.I .i64)] [(3,3),(6,8),(17,31)] (.leaf)))) (.leaf)))) (ZsE (Zbw f72 f92 f95 f115 f121)):=fun _ _ _ _=>by kernel_rfl
theorem ZxZ:Zm Tryz.prog 51 (ZsE Xp):=okF (Zw1 Xe YQ Xq Xf Y3) Tryz.func51 Zh (Zp _ (.cons ZCD (.cons ZCt (.cons ZCq (.cons Zx4 (.cons Zx0 .nil))))) .nil .nil .nil (Zq _))
abbrev Zn6 (f:ZhD):Ze:=⟨[.one (.I .i64)],[.one (.B)],fun t K _ h=>f t.1 (fun r0 h=>K (r0,()) h) h⟩
abbrev Zz5:Cfg:=ZA Tryz.prog [] 9 [] [] [] ZC
theorem Zw0:ZD (Zz5) Tryz.f59 (.leaf) (Zn6 ZeI):=fun _ _ _ _=>by kernel_rfl
theorem ZrZ:Zm Tryz.prog 59 (Zn6 Xs):=okF (Zw0) Tryz.func59 Zh (Zp _ .nil .nil .nil .nil (Zq _))
abbrev ZsD (f:ZoM):Ze:=⟨[.agg [.I .u8,.S,.S,.S],.one (.P)],[.one (.B)],fun t K _ h=>f t.1 t.2.1 (fun r0 h=>K (r0,()) h) h⟩
abbrev Zz4 (f89:Zmz):Cfg:=ZA Tryz.prog [(32,ZtD f89)] 13 [] [] [] ZC
theorem ZwZ (f89:Zmz):ZD (Zz4 f89) Tryz.f177 (.seq (.leaf) (.seq (.order (.take 0 true (.take 1 true (.take 2 true (.take 3 true (.take 4 true (.take 5 true (.take 6 false (.take 7 false (.take 8 false (.take 9 false .done))))))))))) (.leaf))) (ZsD (Zci f89)):=fun _ _ _ _=>by kernel_rfl
theorem ZxY:Zm Tryz.prog 177 (ZsD X8):=okF (ZwZ ZY) Tryz.func177 Zh (Zp _ (.cons ZvX .nil) .nil .nil .nil (Zq _))
abbrev ZsC (f:ZoL):Ze:=⟨[.one (.L),.clo 177 [.P]],[.one (.I .i64)],fun t K _ h=>f t.1 t.2.1 (fun r0 h=>K (r0,()) h) h⟩
abbrev Zz3 (f124:ZoM):Cfg:=ZA Tryz.prog [(177,ZsD f124)] 19 [] [] [] ZC
theorem ZwY (f124:ZoM):ZD (Zz3 f124) Tryz.f115 (.seq (.leaf) (.seq (.seq (.leaf) (.block (.loop [8] [.one (.I .i64)] [(4,5),(9,18)] (.leaf)))) (.leaf))) (ZsC (Ya f124)):=fun _ _ _ _=>by kernel_rfl
theorem ZxX:Zm Tryz.prog 115 (ZsC ZN):=okF (ZwY X8) Tryz.func115 Zh (Zp _ (.cons ZxY .nil) .nil .nil .nil (Zq _))
abbrev ZqG (f:ZkW):Ze:=⟨[.one (.L),.clo 177 [.P]],[.one (.B)],fun t K _ h=>f t.1 t.2.1 (fun r0 h=>K (r0,()) h) h⟩
abbrev Zz2 (f125:ZoL):Cfg:=ZA Tryz.prog [(115,ZsC f125)] 9 [] [] [] ZC
theorem ZwX (f125:ZoL):ZD (Zz2 f125) Tryz.f60 (.leaf) (ZqG (Z3 f125)):=fun _ _ _ _=>by kernel_rfl
theorem ZtU:Zm Tryz.prog 60 (ZqG Zn):=okF (ZwX ZN) Tryz.func60 Zh (Zp _ (.cons ZxX .nil) .nil .nil .nil (Zq _))
abbrev ZqF (f:ZkV):Ze:=⟨[.one (.I .i64)],[.one (.B)],fun t K _ h=>f t.1 (fun r0 h=>K (r0,()) h) h⟩
abbrev Zz1:Cfg:=ZA Tryz.prog [] 9 [] [] [] ZC
theorem ZwW:ZD (Zz1) Tryz.f117 (.leaf) (ZqF ZeJ):=fun _ _ _ _=>by kernel_rfl
theorem ZtT:Zm Tryz.prog 117 (ZqF ZaH):=okF (ZwW) Tryz.func117 Zh (Zp _ .nil .nil .nil .nil (Zq _))
abbrev ZsB (f:ZoK):Ze:=⟨[.one (.P)],[.one (.I .i64)],fun t K _ h=>f t.1 (fun r0 h=>K (r0,()) h) h⟩
abbrev Zz0:Cfg:=ZA Tryz.prog [] 9 [] [] [] ZC
theorem ZwV:ZD (Zz0) Tryz.f181 (.leaf) (ZsB Zam):=fun _ _ _ _=>by kernel_rfl
theorem ZxW:Zm Tryz.prog 181 (ZsB XI):=okF (ZwV) Tryz.func181 Zh (Zp _ .nil .nil .nil .nil (Zq _))
abbrev Zn5 (f:ZhC):Ze:=⟨[.one (.P),.one (.I .i64),.one (.L)],[.one (.I .i64)],fun t K _ h=>f t.1 t.2.1 t.2.2.1 (fun r0 h=>K (r0,()) h) h⟩
abbrev ZzZ (f127:ZkV) (f128:ZoK):Cfg:=ZA Tryz.prog [(117,ZqF f127),(181,ZsB f128)] 34 [] [] [] ZC
theorem ZwU (f127:ZkV) (f128:ZoK):ZD (ZzZ f127 f128) Tryz.f116 (.seq (.leaf) (.seq (.leaf) (.seq (.leaf) (.seq (.seq (.leaf) (.block (.loop [16] [.one (.I .i64)] [(6,6),(8,8),(17,26)] (.leaf)))) (.leaf))))) (Zn5 (ZbI f127 f128)):=fun _ _ _ _=>by kernel_rfl
theorem ZrY:Zm Tryz.prog 116 (Zn5 YE):=okF (ZwU ZaH XI) Tryz.func116 Zh (Zp _ (.cons ZtT (.cons ZxW .nil)) .nil .nil .nil (Zq _))
abbrev ZqE (f:ZkU):Ze:=⟨[.agg [.I .i64,.I .i64,.I .i64,.I .i64,.I .i64,.I .i64]],[.one (.B)],fun t K _ h=>f t.1 (fun r0 h=>K (r0,()) h) h⟩
abbrev ZzY:Cfg:=ZA Tryz.prog [] 52 [] [] [] ZC
theorem ZwT:ZD (ZzY) Tryz.f121 (.seq (.leaf) (.seq (.seq (.leaf) (.block (.loop [19] [.one (.I .i64)] [(2,2),(4,4),(20,29)] (.leaf)))) (.leaf))) (ZqE Zd2):=fun _ _ _ _=>by kernel_rfl
theorem ZtS:Zm Tryz.prog 121 (ZqE Zaj):=okF (ZwT) Tryz.func121 Zh (Zp _ .nil .nil .nil .nil (Zq _))
abbrev ZsA (f:ZoJ):Ze:=⟨[.one (.L)],[.agg [.I .i64,.I .i64,.I .i64,.I .i64,.I .i64,.I .i64]],fun t K _ h=>f t.1 (fun r0 h=>K (r0,()) h) h⟩
abbrev ZzX (f130:ZkU) (f82:Zrs):Cfg:=ZA Tryz.prog [(121,ZqE f130),(125,Zv1 f82)] 19 [] [] [] ZC
theorem ZwS (f130:ZkU) (f82:Zrs):ZD (ZzX f130 f82) Tryz.f123 (.seq (.leaf) (.seq (.leaf) (.seq (.seq (.leaf) (.block (.loop [8] [.one (.I .i64)] [(5,5),(9,17)] (.leaf)))) (.leaf)))) (ZsA (ZeH f130 f82)):=fun _ _ _ _=>by kernel_rfl
theorem ZxV:Zm Tryz.prog 123 (ZsA Zb0):=okF (ZwS Zaj Zbl) Tryz.func123 Zh (Zp _ (.cons ZtS (.cons ZAE .nil)) .nil .nil .nil (Zq _))
abbrev ZqD (f:ZkT):Ze:=⟨[.one (.P),.one (.I .i64),.one (.L)],[.one (.I .i64)],fun t K _ h=>f t.1 t.2.1 t.2.2.1 (fun r0 h=>K (r0,()) h) h⟩
abbrev ZzW (f77:Zn8) (f130:ZkU) (f79:Zqy) (f131:ZoJ):Cfg:=ZA Tryz.prog [(120,ZtX f77),(121,ZqE f130),(122,ZtF f79),(123,ZsA f131)] 77 [] [] [] ZC
theorem ZwR (f77:Zn8) (f130:ZkU) (f79:Zqy) (f131:ZoJ):ZD (ZzW f77 f130 f79 f131) Tryz.f68 (.seq (.leaf) (.seq (.leaf) (.seq (.seq (.leaf) (.block (.loop [21] [.one (.I .i64)] [(6,6),(9,9),(22,28)] (.leaf)))) (.seq (.leaf) (.seq (.leaf) (.cut [] [] [(11,11),(36,54)] (.seq (.leaf) (.seq (.leaf) (.cond (.order (.take 0 true (.take 1 true (.take 2 true (.take 4 true (.take 3 true (.take 5 true (.take 6 false .done)))))))) (.leaf)))) (.seq (.seq (.leaf) (.block (.loop [] [] [(12,12),(60,76)] (.cut [61] [.one (.B)] [(60,60)] (.leaf) (.leaf))))) (.leaf)))))))) (ZqD (ZbP f77 f130 f79 f131)):=fun _ _ _ _=>by kernel_rfl
theorem ZtR:Zm Tryz.prog 68 (ZqD Y1):=okF (ZwR Yl Zaj ZU Zb0) Tryz.func68 Zh (Zp _ (.cons Zxk (.cons ZtS (.cons Zxj (.cons ZxV .nil)))) .nil .nil .nil (Zq _))
abbrev Zn4 (f:ZhB):Ze:=⟨[.one (.P),.one (.I .i64),.one (.L)],[],fun t K _ h=>f t.1 t.2.1 t.2.2.1 (fun h=>K (()) h) h⟩
abbrev ZzV (f132:ZkT):Cfg:=ZA Tryz.prog [(68,ZqD f132)] 21 [] [] [] ZC
theorem ZwQ (f132:ZkT):ZD (ZzV f132) Tryz.f118 (.leaf) (Zn4 (Zdb f132)):=fun _ _ _ _=>by kernel_rfl
theorem ZrX:Zm Tryz.prog 118 (Zn4 YW):=okF (ZwQ Y1) Tryz.func118 Zh (Zp _ (.cons ZtR .nil) .nil .nil .nil (Zq _))
abbrev Zsz (f:ZoI):Ze:=⟨[.one (.P),.one (.I .i64),.one (.L)],[.one (.I .i64)],fun t K _ h=>f t.1 t.2.1 t.2.2.1 (fun r0 h=>K (r0,()) h) h⟩
abbrev ZzU (f129:ZhC) (f133:ZhB):Cfg:=ZA Tryz.prog [(116,Zn5 f129),(118,Zn4 f133)] 34 [] [] [] ZC
theorem ZwP (f129:ZhC) (f133:ZhB):ZD (ZzU f129 f133) Tryz.f107 (.seq (.leaf) (.seq (.leaf) (.seq (.leaf) (.seq (.seq (.leaf) (.block (.loop [8,20] [.one (.L),.one (.I .i64)] [(10,10),(21,29)] (.leaf)))) (.leaf))))) (Zsz (ZcD f129 f133)):=fun _ _ _ _=>by kernel_rfl
theorem ZxU:Zm Tryz.prog 107 (Zsz Zaw):=okF (ZwP YE YW) Tryz.func107 Zh (Zp _ (.cons ZrY (.cons ZrX .nil)) .nil .nil .nil (Zq _))
abbrev Zsy (f:ZoH):Ze:=⟨[.one (.P),.one (.P)],[.one (.I .i64)],fun t K _ h=>f t.1 t.2.1 (fun r0 h=>K (r0,()) h) h⟩
abbrev ZzT (f134:ZoI):Cfg:=ZA Tryz.prog [(107,Zsz f134)] 11 [] [] [] ZC
theorem ZwO (f134:ZoI):ZD (ZzT f134) Tryz.f106 (.leaf) (Zsy (ZbQ f134)):=fun _ _ _ _=>by kernel_rfl
theorem ZxT:Zm Tryz.prog 106 (Zsy XT):=okF (ZwO Zaw) Tryz.func106 Zh (Zp _ (.cons ZxU .nil) .nil .nil .nil (Zq _))
abbrev Zsx (f:ZoG):Ze:=⟨[.one (.P),.agg [.I .i64,.S,.S,.S,.B,.I .i64,.L],.one (.B),.clo 106 [.P]],[.one (.I .i64)],fun t K _ h=>f t.1 t.2.1 t.2.2.1 t.2.2.2.1 (fun r0 h=>K (r0,()) h) h⟩
abbrev ZzS (f59:ZkQ) (f123:ZhD) (f63:Zoa) (f126:ZkW) (f65:Zn9) (f135:ZoH):Cfg:=ZA Tryz.prog [(58,Zr2 f59),(59,Zn6 f123),(156,ZtZ f63),(60,ZqG f126),(157,ZtY f65),(106,Zsy f135)] 93 [] [] [] ZC
theorem ZwN (f59:ZkQ) (f123:ZhD) (f63:Zoa) (f126:ZkW) (f65:Zn9) (f135:ZoH):ZD (ZzS f59 f123 f63 f126 f65 f135) Tryz.f105 (.seq (.leaf) (.seq (.leaf) (.seq (.leaf) (.seq (.block (.seq (.leaf) (.cond (.leaf) (.seq (.leaf) (.cond (.leaf) (.seq (.leaf) (.cond (.leaf) (.seq (.order (.take 3 true (.take 0 true (.take 1 true (.take 2 true (.take 5 true (.take 6 true (.take 7 true (.take 8 true (.take 9 true (.take 10 true (.take 11 true (.take 4 false (.take 12 false (.take 13 false .done))))))))))))))) (.leaf))))))))) (.cut [] [] [(8,8),(61,66)] (.leaf) (.seq (.seq (.leaf) (.block (.loop [69] [.one (.I .i64)] [(12,12),(70,87)] (.seq (.leaf) (.seq (.leaf) (.seq (.block (.seq (.leaf) (.seq (.order (.take 0 true (.take 1 true (.take 2 true (.take 3 true (.take 4 false .done)))))) (.order (.take 0 true (.take 1 true (.take 2 true (.take 3 true (.take 4 true (.take 5 true (.take 6 true (.take 7 false (.take 8 false .done))))))))))))) (.leaf))))))) (.leaf))))))) (Zsx (XX f59 f123 f63 f126 f65 f135)):=fun _ _ _ _=>by kernel_rfl
theorem ZxS:Zm Tryz.prog 105 (Zsx Y2):=okF (ZwN Xd Xs Yy Zn Yx XT) Tryz.func105 Zh (Zp _ (.cons ZtO (.cons ZrZ (.cons Zxm (.cons ZtU (.cons Zxl (.cons ZxT .nil)))))) .nil .nil .nil (Zq _))
abbrev Zsw (f:ZoF):Ze:=⟨[.one (.P),.agg [.I .i64,.S,.S,.S,.B,.I .i64,.L]],[.one (.I .i64)],fun t K _ h=>f t.1 t.2.1 (fun r0 h=>K (r0,()) h) h⟩
abbrev ZzR (f136:ZoG):Cfg:=ZA Tryz.prog [(105,Zsx f136)] 9 [] [] [] ZC
theorem ZwM (f136:ZoG):ZD (ZzR f136) Tryz.f52 (.leaf) (Zsw (ZcB f136)):=fun _ _ _ _=>by kernel_rfl
theorem ZxR:Zm Tryz.prog 52 (Zsw Zau):=okF (ZwM Y2) Tryz.func52 Zh (Zp _ (.cons ZxS .nil) .nil .nil .nil (Zq _))
abbrev Zsv (f:ZoE):Ze:=⟨[.one (.P),.one (.I .i64)],[.one (.B),.one (.B),.one (.I .i64)],fun t K _ h=>f t.1 t.2.1 (fun r0 r1 r2 h=>K (r0,r1,r2,()) h) h⟩
abbrev ZzQ (f116:ZhE) (f117:ZkX):Cfg:=ZA Tryz.prog [(64,Zn7 f116),(225,ZqH f117)] 34 [] [] [] ZC
theorem ZwL (f116:ZhE) (f117:ZkX):ZD (ZzQ f116 f117) Tryz.f175 (.leaf) (Zsv (ZaQ f116 f117)):=fun _ _ _ _=>by kernel_rfl
theorem ZxQ:Zm Tryz.prog 175 (Zsv Xl):=okF (ZwL Yh Yv) Tryz.func175 Zh (Zp _ (.cons Zr0 (.cons ZtV .nil)) .nil .nil .nil (Zq _))
abbrev Zsu (f:ZoD):Ze:=⟨[.one (.P),.one (.P)],[],fun t K _ h=>f t.1 t.2.1 (fun h=>K (()) h) h⟩
abbrev ZzP (f138:ZoE):Cfg:=ZA Tryz.prog [(175,Zsv f138)] 29 [] [] [] ZC
theorem ZwK (f138:ZoE):ZD (ZzP f138) Tryz.f174 (.seq (.order (.take 0 true (.take 1 true (.take 2 true (.take 3 false (.take 4 false (.take 5 false (.take 6 true (.take 7 false (.take 8 false (.take 9 true (.take 10 true (.take 11 true (.take 12 false (.take 13 false (.take 14 false .done)))))))))))))))) (.seq (.leaf) (.cond (.order (.take 5 true (.take 0 true (.take 1 true (.take 2 true (.take 3 true (.take 4 true (.take 6 true (.take 7 false (.take 8 false (.take 9 false (.take 10 false (.take 11 false .done))))))))))))) (.leaf)))) (Zsu (ZaJ f138)):=fun _ _ _ _=>by kernel_rfl
theorem ZxP:Zm Tryz.prog 174 (Zsu Xg):=okF (ZwK Xl) Tryz.func174 Zh (Zp _ (.cons ZxQ .nil) .nil .nil .nil (Zq _))
abbrev Zst (f:ZoB):Ze:=⟨[.one (.P),.one (.I .i64),.one (.L)],[.one (.I .i64)],fun t K _ h=>f t.1 t.2.1 t.2.2.1 (fun r0 h=>K (r0,()) h) h⟩
abbrev ZzO (f129:ZhC) (f133:ZhB):Cfg:=ZA Tryz.prog [(116,Zn5 f129),(118,Zn4 f133)] 51 [] [] [] ZC
theorem ZwJ (f129:ZhC) (f133:ZhB):ZD (ZzO f129 f133) Tryz.f109 (.seq (.leaf) (.seq (.leaf) (.seq (.leaf) (.seq (.leaf) (.seq (.seq (.leaf) (.block (.loop [8,28] [.one (.L),.one (.I .i64)] [(10,10),(29,37)] (.leaf)))) (.leaf)))))) (Zst (Zdc f129 f133)):=fun _ _ _ _=>by kernel_rfl
theorem ZxN:Zm Tryz.prog 109 (Zst ZaU):=okF (ZwJ YE YW) Tryz.func109 Zh (Zp _ (.cons ZrY (.cons ZrX .nil)) .nil .nil .nil (Zq _))
abbrev Zss (f:ZoA):Ze:=⟨[.one (.P),.one (.P)],[.one (.I .i64)],fun t K _ h=>f t.1 t.2.1 (fun r0 h=>K (r0,()) h) h⟩
abbrev ZzN (f140:ZoB):Cfg:=ZA Tryz.prog [(109,Zst f140)] 11 [] [] [] ZC
theorem ZwI (f140:ZoB):ZD (ZzN f140) Tryz.f108 (.leaf) (Zss (Zcj f140)):=fun _ _ _ _=>by kernel_rfl
theorem ZxM:Zm Tryz.prog 108 (Zss X9):=okF (ZwI ZaU) Tryz.func108 Zh (Zp _ (.cons ZxN .nil) .nil .nil .nil (Zq _))
abbrev Zsr (f:Zoz):Ze:=⟨[.one (.P),.agg [.I .i64,.S,.S,.S,.B,.I .i64,.L],.one (.B),.clo 108 [.P]],[.one (.I .i64)],fun t K _ h=>f t.1 t.2.1 t.2.2.1 t.2.2.2.1 (fun r0 h=>K (r0,()) h) h⟩
abbrev ZzM (f59:ZkQ) (f123:ZhD) (f63:Zoa) (f126:ZkW) (f65:Zn9) (f141:ZoA):Cfg:=ZA Tryz.prog [(58,Zr2 f59),(59,Zn6 f123),(156,ZtZ f63),(60,ZqG f126),(157,ZtY f65),(108,Zss f141)] 93 [] [] [] ZC
theorem ZwH (f59:ZkQ) (f123:ZhD) (f63:Zoa) (f126:ZkW) (f65:Zn9) (f141:ZoA):ZD (ZzM f59 f123 f63 f126 f65 f141) Tryz.f105 (.seq (.leaf) (.seq (.leaf) (.seq (.leaf) (.seq (.block (.seq (.leaf) (.cond (.leaf) (.seq (.leaf) (.cond (.leaf) (.seq (.leaf) (.cond (.leaf) (.seq (.order (.take 3 true (.take 0 true (.take 1 true (.take 2 true (.take 5 true (.take 6 true (.take 7 true (.take 8 true (.take 9 true (.take 10 true (.take 11 true (.take 4 false (.take 12 false (.take 13 false .done))))))))))))))) (.leaf))))))))) (.cut [] [] [(8,8),(61,66)] (.leaf) (.seq (.seq (.leaf) (.block (.loop [69] [.one (.I .i64)] [(12,12),(70,87)] (.seq (.leaf) (.seq (.leaf) (.seq (.block (.seq (.leaf) (.seq (.order (.take 0 true (.take 1 true (.take 2 true (.take 3 true (.take 4 false .done)))))) (.order (.take 0 true (.take 1 true (.take 2 true (.take 3 true (.take 4 true (.take 5 true (.take 6 true (.take 7 false (.take 8 false .done))))))))))))) (.leaf))))))) (.leaf))))))) (Zsr (YG f59 f123 f63 f126 f65 f141)):=fun _ _ _ _=>by kernel_rfl
theorem ZxL:Zm Tryz.prog 105 (Zsr Xb):=okF (ZwH Xd Xs Yy Zn Yx X9) Tryz.func105 Zh (Zp _ (.cons ZtO (.cons ZrZ (.cons Zxm (.cons ZtU (.cons Zxl (.cons ZxM .nil)))))) .nil .nil .nil (Zq _))
abbrev Zsq (f:Zoy):Ze:=⟨[.one (.P),.agg [.I .i64,.S,.S,.S,.B,.I .i64,.L]],[.one (.I .i64)],fun t K _ h=>f t.1 t.2.1 (fun r0 h=>K (r0,()) h) h⟩
abbrev ZzL (f142:Zoz):Cfg:=ZA Tryz.prog [(105,Zsr f142)] 9 [] [] [] ZC
theorem ZwG (f142:Zoz):ZD (ZzL f142) Tryz.f53 (.leaf) (Zsq (Zc8 f142)):=fun _ _ _ _=>by kernel_rfl
theorem ZxK:Zm Tryz.prog 53 (Zsq ZaS):=okF (ZwG Xb) Tryz.func53 Zh (Zp _ (.cons ZxL .nil) .nil .nil .nil (Zq _))
abbrev Zsp (f:Zox):Ze:=⟨[.one (.P),.agg [.I .i64,.S,.S,.S,.B,.I .i64,.L],.one (.B)],[.one (.I .i64),.agg [.I .u8,.I .i64,.I .i64],.one (.I .i64)],fun t K _ h=>f t.1 t.2.1 t.2.2.1 (fun r0 r1 r2 h=>K (r0,r1,r2,()) h) h⟩
abbrev ZzK (f67:Zuv) (f122:ZoN) (f137:ZoF) (f139:ZoD) (f143:Zoy):Cfg:=ZA Tryz.prog [(50,ZyC f67),(51,ZsE f122),(52,Zsw f137),(174,Zsu f139),(53,Zsq f143)] 116 [] [] [] ZC [(174,[.P,.P])]
theorem ZwF (f67:Zuv) (f122:ZoN) (f137:ZoF) (f139:ZoD) (f143:Zoy):ZD (ZzK f67 f122 f137 f139 f143) Tryz.f24 (.seq (.leaf) (.seq (.leaf) (.seq (.seq (.order (.take 0 true (.take 1 true (.take 2 true (.take 3 true (.take 4 false (.take 5 false .done))))))) (.leaf)) (.seq (.leaf) (.seq (.order (.take 0 true (.take 1 true (.take 2 true (.take 4 true (.take 3 true (.take 5 false (.take 6 false (.take 7 false .done))))))))) (.seq (.seq (.leaf) (.seq (.leaf) (.cond (.seq (.order (.take 0 true (.take 1 true (.take 2 true (.take 3 true (.take 4 true (.take 5 true (.take 6 false .done)))))))) (.seq (.order (.take 1 true (.take 0 true (.take 2 false (.take 3 false .done))))) (.leaf))) (.leaf)))) (.seq (.seq (.leaf) (.block (.loop [60] [.one (.I .i64)] [(14,14),(61,66)] (.leaf)))) (.seq (.order (.take 0 true (.take 1 true (.take 2 true (.take 3 true (.take 4 true (.take 5 true (.take 6 false .done)))))))) (.seq (.leaf) (.seq (.leaf) (.seq (.leaf) (.seq (.leaf) (.seq (.order (.take 0 true (.take 1 true (.take 2 true (.take 3 true (.take 5 true (.take 7 true (.take 8 true (.take 9 true (.take 4 true (.take 6 true (.take 10 true (.take 11 false (.take 12 false .done)))))))))))))) (.seq (.order (.take 0 true (.take 1 true (.take 2 true (.take 3 true (.take 6 true (.take 4 true (.take 5 false (.take 7 false (.take 8 false .done)))))))))) (.leaf))))))))))))))) (Zsp (Zar f67 f122 f137 f139 f143)):=fun _ _ _ _=>by kernel_rfl
theorem ZxJ:Zm Tryz.prog 24 (Zsp YT):=okF (ZwF YR Xp Zau Xg ZaS) Tryz.func24 Zh (Zp _ (.cons ZCH (.cons ZxZ (.cons ZxR (.cons ZxP (.cons ZxK .nil))))) .nil .nil .nil (Zq _))
abbrev ZqC (f:ZkS):Ze:=⟨[.one (.P),.agg [.I .i64,.S,.S,.S,.B,.I .i64,.L]],[.one (.I .i64),.agg [.I .u8,.I .i64,.I .i64],.one (.I .i64)],fun t K _ h=>f t.1 t.2.1 (fun r0 r1 r2 h=>K (r0,r1,r2,()) h) h⟩
abbrev ZzJ (f144:Zox):Cfg:=ZA Tryz.prog [(24,Zsp f144)] 13 [] [] [] ZC
theorem ZwE (f144:Zox):ZD (ZzJ f144) Tryz.f11 (.leaf) (ZqC (Zaq f144)):=fun _ _ _ _=>by kernel_rfl
theorem ZtQ:Zm Tryz.prog 11 (ZqC Yr):=okF (ZwE YT) Tryz.func11 Zh (Zp _ (.cons ZxJ .nil) .nil .nil .nil (Zq _))
abbrev ZqB (f:ZkR):Ze:=⟨[.one (.I .i64),.one (.P)],[.one (.B)],fun t K _ h=>f t.1 t.2.1 (fun r0 h=>K (r0,()) h) h⟩
abbrev ZzI:Cfg:=ZA Tryz.prog [] 12 [] [] [] ZC
theorem ZwD:ZD (ZzI) Tryz.f57 (.leaf) (ZqB Zbt):=fun _ _ _ _=>by kernel_rfl
theorem ZtP:Zm Tryz.prog 57 (ZqB Y6):=okF (ZwD) Tryz.func57 Zh (Zp _ .nil .nil .nil .nil (Zq _))
abbrev Zso (f:Zow):Ze:=⟨[.one (.L),.clo 57 [.P]],[.one (.I .i64)],fun t K _ h=>f t.1 t.2.1 (fun r0 h=>K (r0,()) h) h⟩
abbrev ZzH (f148:ZkR):Cfg:=ZA Tryz.prog [(57,ZqB f148)] 19 [] [] [] ZC
theorem ZwC (f148:ZkR):ZD (ZzH f148) Tryz.f110 (.seq (.leaf) (.seq (.seq (.leaf) (.block (.loop [8] [.one (.I .i64)] [(4,5),(9,18)] (.leaf)))) (.leaf))) (Zso (Yn f148)):=fun _ _ _ _=>by kernel_rfl
theorem ZxI:Zm Tryz.prog 110 (Zso ZZ):=okF (ZwC Y6) Tryz.func110 Zh (Zp _ (.cons ZtP .nil) .nil .nil .nil (Zq _))
abbrev Zsn (f:Zov):Ze:=⟨[.one (.L),.clo 57 [.P]],[.one (.L)],fun t K _ h=>f t.1 t.2.1 (fun r0 h=>K (r0,()) h) h⟩
abbrev ZzG (f149:Zow) (f148:ZkR):Cfg:=ZA Tryz.prog [(110,Zso f149),(57,ZqB f148)] 42 [] [] [] ZC
theorem ZwB (f149:Zow) (f148:ZkR):ZD (ZzG f149 f148) Tryz.f54 (.seq (.leaf) (.seq (.leaf) (.seq (.leaf) (.seq (.seq (.leaf) (.block (.loop [5,6] [.one (.I .i64),.one (.I .i64)] [(7,7),(16,35)] (.leaf)))) (.leaf))))) (Zsn (Yk f149 f148)):=fun _ _ _ _=>by kernel_rfl
theorem ZxH:Zm Tryz.prog 54 (Zsn ZX):=okF (ZwB ZZ Y6) Tryz.func54 Zh (Zp _ (.cons ZxI (.cons ZtP .nil)) .nil .nil .nil (Zq _))
abbrev Zsm (f:Zou):Ze:=⟨[.one (.P)],[.one (.L)],fun t K _ h=>f t.1 (fun r0 h=>K (r0,()) h) h⟩
abbrev ZzF (f146:ZsU) (f147:ZsT) (f150:Zov):Cfg:=ZA Tryz.prog [(56,⟨[.one (.M)],[.one (.V)],fun t K _ h=>f146 t.1 (fun r0 h=>K (r0,()) h) h⟩),(55,⟨[.one (.V)],[.one (.L)],fun t K _ h=>f147 t.1 (fun r0 h=>K (r0,()) h) h⟩),(54,Zsn f150)] 14 [] [] [] ZC
theorem ZwA (f146:ZsU) (f147:ZsT) (f150:Zov):ZD (ZzF f146 f147 f150) Tryz.f25 (.leaf) (Zsm (ZbR f146 f147 f150)):=fun _ _ _ _=>by kernel_rfl
theorem ZxG:Zm Tryz.prog 25 (Zsm XU):=okF (ZwA Z0 ZbA ZX) Tryz.func25 Zh (Zp _ (.cons X3 (.cons Zff (.cons ZxH .nil))) .nil .nil .nil (Zq _))
abbrev Zsl (f:Zot):Ze:=⟨[],[.one (.B)],fun _ K _ h=>f (fun r0 h=>K (r0,()) h) h⟩
abbrev ZzE (f2:zT2) (f58:Zrw) (f145:ZkS) (f151:Zou):Cfg:=ZA Tryz.prog [(9,zk2 f2),(10,Zv4 f58),(11,ZqC f145),(25,Zsm f151)] 75 [] [] [] ZC
theorem Zwz (f2:zT2) (f58:Zrw) (f145:ZkS) (f151:Zou):ZD (ZzE f2 f58 f145 f151) Tryz.f12 (.leaf) (Zsl (ZbE f2 f58 f145 f151)):=fun _ _ _ _=>by kernel_rfl
theorem ZxF:Zm Tryz.prog 12 (Zsl XK):=okF (Zwz ZbN YC Yr XU) Tryz.func12 Zh (Zp _ (.cons zo2 (.cons ZAI (.cons ZtQ (.cons ZxG .nil)))) .nil .nil .nil (Zq _))
abbrev Zsk (f:Zos):Ze:=⟨[.agg [.I .u8,.S,.S,.S],.one (.P)],[.one (.B)],fun t K _ h=>f t.1 t.2.1 (fun r0 h=>K (r0,()) h) h⟩
abbrev ZzD (f89:Zmz):Cfg:=ZA Tryz.prog [(32,ZtD f89)] 13 [] [] [] ZC
theorem Zwy (f89:Zmz):ZD (ZzD f89) Tryz.f61 (.seq (.leaf) (.seq (.order (.take 0 true (.take 1 true (.take 2 true (.take 3 true (.take 4 true (.take 5 true (.take 6 false (.take 7 false (.take 8 false (.take 9 false .done))))))))))) (.leaf))) (Zsk (Zck f89)):=fun _ _ _ _=>by kernel_rfl
theorem ZxE:Zm Tryz.prog 61 (Zsk Zaa):=okF (Zwy ZY) Tryz.func61 Zh (Zp _ (.cons ZvX .nil) .nil .nil .nil (Zq _))
abbrev Zsj (f:Zor):Ze:=⟨[.one (.L),.clo 61 [.P]],[.one (.I .i64)],fun t K _ h=>f t.1 t.2.1 (fun r0 h=>K (r0,()) h) h⟩
abbrev ZzC (f154:Zos):Cfg:=ZA Tryz.prog [(61,Zsk f154)] 19 [] [] [] ZC
theorem Zwx (f154:Zos):ZD (ZzC f154) Tryz.f115 (.seq (.leaf) (.seq (.seq (.leaf) (.block (.loop [8] [.one (.I .i64)] [(4,5),(9,18)] (.leaf)))) (.leaf))) (Zsj (Yb f154)):=fun _ _ _ _=>by kernel_rfl
theorem ZxD:Zm Tryz.prog 115 (Zsj ZO):=okF (Zwx Zaa) Tryz.func115 Zh (Zp _ (.cons ZxE .nil) .nil .nil .nil (Zq _))
abbrev Zsi (f:Zoq):Ze:=⟨[.one (.L),.clo 61 [.P]],[.one (.B)],fun t K _ h=>f t.1 t.2.1 (fun r0 h=>K (r0,()) h) h⟩
abbrev ZzB (f155:Zor):Cfg:=ZA Tryz.prog [(115,Zsj f155)] 9 [] [] [] ZC
theorem Zww (f155:Zor):ZD (ZzB f155) Tryz.f60 (.leaf) (Zsi (Z4 f155)):=fun _ _ _ _=>by kernel_rfl
theorem ZxC:Zm Tryz.prog 60 (Zsi Zx):=okF (Zww ZO) Tryz.func60 Zh (Zp _ (.cons ZxD .nil) .nil .nil .nil (Zq _))
abbrev Zsh (f:Zop):Ze:=⟨[.one (.P),.one (.I .i64),.one (.I .i64),.one (.B)],[.one (.I .i64)],fun t K _ h=>f t.1 t.2.1 t.2.2.1 t.2.2.2.1 (fun r0 h=>K (r0,()) h) h⟩
abbrev ZzA (f129:ZhC) (f127:ZkV) (f133:ZhB):Cfg:=ZA Tryz.prog [(116,Zn5 f129),(117,ZqF f127),(118,Zn4 f133)] 52 [] [] [] ZC
theorem Zwv (f129:ZhC) (f127:ZkV) (f133:ZhB):ZD (ZzA f129 f127 f133) Tryz.f62 (.seq (.leaf) (.seq (.leaf) (.seq (.leaf) (.cut [] [] [(38,39)] (.leaf) (.leaf))))) (Zsh (Zde f129 f127 f133)):=fun _ _ _ _=>by kernel_rfl
theorem ZxB:Zm Tryz.prog 62 (Zsh ZaW):=okF (Zwv YE ZaH YW) Tryz.func62 Zh (Zp _ (.cons ZrY (.cons ZtT (.cons ZrX .nil))) .nil .nil .nil (Zq _))
abbrev Zsg (f:Zoo):Ze:=⟨[.one (.P),.agg [.I .i64,.S,.S,.S,.B,.I .i64,.L],.one (.I .i64),.one (.B)],[.one (.I .i64)],fun t K _ h=>f t.1 t.2.1 t.2.2.1 t.2.2.2.1 (fun r0 h=>K (r0,()) h) h⟩
abbrev Zzz (f59:ZkQ) (f123:ZhD) (f156:Zoq) (f157:Zop):Cfg:=ZA Tryz.prog [(58,Zr2 f59),(59,Zn6 f123),(60,Zsi f156),(62,Zsh f157)] 70 [] [] [] ZC
theorem Zwu (f59:ZkQ) (f123:ZhD) (f156:Zoq) (f157:Zop):ZD (Zzz f59 f123 f156 f157) Tryz.f26 (.seq (.leaf) (.seq (.leaf) (.seq (.leaf) (.seq (.leaf) (.seq (.seq (.leaf) (.block (.loop [48] [.one (.I .i64)] [(12,12),(49,64)] (.seq (.leaf) (.seq (.leaf) (.seq (.block (.seq (.leaf) (.order (.take 7 true (.take 9 true (.take 10 true (.take 0 true (.take 1 true (.take 2 true (.take 3 true (.take 4 true (.take 5 true (.take 8 true (.take 6 false (.take 11 false .done))))))))))))))) (.leaf))))))) (.leaf)))))) (Zsg (Zda f59 f123 f156 f157)):=fun _ _ _ _=>by kernel_rfl
theorem ZxA:Zm Tryz.prog 26 (Zsg ZaT):=okF (Zwu Xd Xs Zx ZaW) Tryz.func26 Zh (Zp _ (.cons ZtO (.cons ZrZ (.cons ZxC (.cons ZxB .nil)))) .nil .nil .nil (Zq _))
abbrev Zsf (f:Zon):Ze:=⟨[.one (.L),.one (.I .i64)],[.one (.I .i64)],fun t K _ h=>f t.1 t.2.1 (fun r0 h=>K (r0,()) h) h⟩
abbrev Zzy:Cfg:=ZA Tryz.prog [] 19 [] [] [] ZC
theorem Zwt:ZD (Zzy) Tryz.f71 (.seq (.leaf) (.seq (.seq (.leaf) (.block (.loop [8] [.one (.I .i64)] [(4,5),(9,18)] (.leaf)))) (.leaf))) (Zsf ZaM):=fun _ _ _ _=>by kernel_rfl
theorem Zxz:Zm Tryz.prog 71 (Zsf XP):=okF (Zwt) Tryz.func71 Zh (Zp _ .nil .nil .nil .nil (Zq _))
abbrev Zse (f:Zom):Ze:=⟨[.one (.L),.one (.I .i64)],[.one (.B)],fun t K _ h=>f t.1 t.2.1 (fun r0 h=>K (r0,()) h) h⟩
abbrev Zzx (f159:Zon):Cfg:=ZA Tryz.prog [(71,Zsf f159)] 9 [] [] [] ZC
theorem Zws (f159:Zon):ZD (Zzx f159) Tryz.f29 (.leaf) (Zse (X4 f159)):=fun _ _ _ _=>by kernel_rfl
theorem Zxy:Zm Tryz.prog 29 (Zse YK):=okF (Zws XP) Tryz.func29 Zh (Zp _ (.cons Zxz .nil) .nil .nil .nil (Zq _))
abbrev Zsd (f:Zol):Ze:=⟨[.one (.P),.one (.I .i64),.one (.B)],[.one (.B)],fun t K _ h=>f t.1 t.2.1 t.2.2.1 (fun r0 h=>K (r0,()) h) h⟩
abbrev Zzw:Cfg:=ZA Tryz.prog [] 21 [] [] [] ZC
theorem Zwr:ZD (Zzw) Tryz.f65 (.leaf) (Zsd ZaO):=fun _ _ _ _=>by kernel_rfl
theorem Zxx:Zm Tryz.prog 65 (Zsd XQ):=okF (Zwr) Tryz.func65 Zh (Zp _ .nil .nil .nil .nil (Zq _))
abbrev Zsc (f:Zok):Ze:=⟨[.one (.P),.one (.I .i64)],[],fun t K _ h=>f t.1 t.2.1 (fun h=>K (()) h) h⟩
abbrev Zzv:Cfg:=ZA Tryz.prog [] 25 [] [] [] ZC
theorem Zwq:ZD (Zzv) Tryz.f66 (.leaf) (Zsc Zba):=fun _ _ _ _=>by kernel_rfl
theorem Zxw:Zm Tryz.prog 66 (Zsc X0):=okF (Zwq) Tryz.func66 Zh (Zp _ .nil .nil .nil .nil (Zq _))
abbrev Zsb (f:Zoj):Ze:=⟨[.one (.I .i64)],[.one (.I .u64)],fun t K _ h=>f t.1 (fun r0 h=>K (r0,()) h) h⟩
abbrev Zzu:Cfg:=ZA Tryz.prog [] 10 [] [] [] ZC
theorem Zwp:ZD (Zzu) Tryz.f238 (.leaf) (Zsb Zjy):=fun _ _ _ _=>by kernel_rfl
theorem Zxv:Zm Tryz.prog 238 (Zsb ZgZ):=okF (Zwp) Tryz.func238 Zh (Zp _ .nil .nil .nil .nil (Zq _))
abbrev Zsa (f:Zoi):Ze:=⟨[.one (.I .u64),.one (.I .u64)],[.one (.I .u64),.one (.I .u64)],fun t K _ h=>f t.1 t.2.1 (fun r0 r1 h=>K (r0,r1,()) h) h⟩
abbrev Zzt:Cfg:=ZA Tryz.prog [] 51 [] [] [] ZC
theorem Zwo:ZD (Zzt) Tryz.f237 (.leaf) (Zsa Zeq):=fun _ _ _ _=>by kernel_rfl
theorem Zxu:Zm Tryz.prog 237 (Zsa Zcx):=okF (Zwo) Tryz.func237 Zh (Zp _ .nil .nil .nil .nil (Zq _))
abbrev Zr9 (f:Zoh):Ze:=⟨[.one (.I .i64),.one (.I .i64)],[.agg [.I .u64,.I .u64,.B]],fun t K _ h=>f t.1 t.2.1 (fun r0 h=>K (r0,()) h) h⟩
abbrev Zzs (f163:Zoj) (f164:Zoi):Cfg:=ZA Tryz.prog [(238,Zsb f163),(237,Zsa f164)] 30 [] [] [] ZC
theorem Zwn (f163:Zoj) (f164:Zoi):ZD (Zzs f163 f164) Tryz.f184 (.leaf) (Zr9 (Zgv f163 f164)):=fun _ _ _ _=>by kernel_rfl
theorem Zxt:Zm Tryz.prog 184 (Zr9 ZeE):=okF (Zwn ZgZ Zcx) Tryz.func184 Zh (Zp _ (.cons Zxv (.cons Zxu .nil)) .nil .nil .nil (Zq _))
abbrev Zr8 (f:Zog):Ze:=⟨[.agg [.I .u64,.I .u64,.B]],[.one (.I .i64),.one (.B)],fun t K _ h=>f t.1 (fun r0 r1 h=>K (r0,r1,()) h) h⟩
abbrev Zzr:Cfg:=ZA Tryz.prog [] 36 [] [] [] ZC
theorem Zwm:ZD (Zzr) Tryz.f185 (.leaf) (Zr8 Zep):=fun _ _ _ _=>by kernel_rfl
theorem Zxs:Zm Tryz.prog 185 (Zr8 Zcw):=okF (Zwm) Tryz.func185 Zh (Zp _ .nil .nil .nil .nil (Zq _))
abbrev Zr7 (f:Zof):Ze:=⟨[.one (.B)],[.one (.I .i64)],fun t K _ h=>f t.1 (fun r0 h=>K (r0,()) h) h⟩
abbrev Zzq:Cfg:=ZA Tryz.prog [] 4 [] [] [] ZC
theorem Zwl:ZD (Zzq) Tryz.f186 (.leaf) (Zr7 Zjz):=fun _ _ _ _=>by kernel_rfl
theorem Zxr:Zm Tryz.prog 186 (Zr7 Zg0):=okF (Zwl) Tryz.func186 Zh (Zp _ .nil .nil .nil .nil (Zq _))
abbrev Zr6 (f:Zoe):Ze:=⟨[.one (.I .i64),.one (.I .i64)],[.one (.I .i64)],fun t K _ h=>f t.1 t.2.1 (fun r0 h=>K (r0,()) h) h⟩
abbrev Zzp (f165:Zoh) (f166:Zog) (f167:Zof):Cfg:=ZA Tryz.prog [(184,Zr9 f165),(185,Zr8 f166),(186,Zr7 f167)] 21 [] [] [] ZC
theorem Zwk (f165:Zoh) (f166:Zog) (f167:Zof):ZD (Zzp f165 f166 f167) Tryz.f126 (.leaf) (Zr6 (Zin f165 f166 f167)):=fun _ _ _ _=>by kernel_rfl
theorem Zxq:Zm Tryz.prog 126 (Zr6 Zf3):=okF (Zwk ZeE Zcw Zg0) Tryz.func126 Zh (Zp _ (.cons Zxt (.cons Zxs (.cons Zxr .nil))) .nil .nil .nil (Zq _))
abbrev Zr5 (f:Zod):Ze:=⟨[.one (.P),.agg [.I .i64,.I .i64,.I .i64,.I .i64,.I .i64,.I .i64]],[.one (.B)],fun t K _ h=>f t.1 t.2.1 (fun r0 h=>K (r0,()) h) h⟩
abbrev Zzo (f168:Zoe):Cfg:=ZA Tryz.prog [(126,Zr6 f168)] 56 [] [] [] ZC
theorem Zwj (f168:Zoe):ZD (Zzo f168) Tryz.f70 (.leaf) (Zr5 (ZaC f168)):=fun _ _ _ _=>by kernel_rfl
theorem Zxp:Zm Tryz.prog 70 (Zr5 XA):=okF (Zwj Zf3) Tryz.func70 Zh (Zp _ (.cons Zxq .nil) .nil .nil .nil (Zq _))
abbrev Zr4 (f:Zoc):Ze:=⟨[.one (.P),.one (.I .i64),.one (.I .i64),.one (.B),.one (.B)],[.one (.I .i64)],fun t K _ h=>f t.1 t.2.1 t.2.2.1 t.2.2.2.1 t.2.2.2.2.1 (fun r0 h=>K (r0,()) h) h⟩
abbrev Zzn (f116:ZhE) (f161:Zol) (f162:Zok) (f42:Zrx) (f132:ZkT) (f83:Zrr) (f169:Zod):Cfg:=ZA Tryz.prog [(64,Zn7 f116),(65,Zsd f161),(66,Zsc f162),(67,Zv5 f42),(68,ZqD f132),(69,Zv0 f83),(70,Zr5 f169)] 102 [] [] [] ZC
theorem Zwi (f116:ZhE) (f161:Zol) (f162:Zok) (f42:Zrx) (f132:ZkT) (f83:Zrr) (f169:Zod):ZD (Zzn f116 f161 f162 f42 f132 f83 f169) Tryz.f28 (.seq (.leaf) (.cut [] [] [(10,11),(16,46)] (.leaf) (.seq (.leaf) (.seq (.leaf) (.seq (.block (.cut [55] [.one (.B)] [(56,59)] (.leaf) (.cond (.leaf) (.seq (.leaf) (.cond (.leaf) (.seq (.leaf) (.cond (.seq (.leaf) (.cut [] [] [(77,78)] (.leaf) (.seq (.order (.take 0 true (.take 1 true (.take 2 true (.take 4 true (.take 3 true (.take 5 true (.take 6 false (.take 7 false .done))))))))) (.leaf)))) (.leaf)))))))) (.leaf)))))) (Zr4 (Zbd f116 f161 f162 f42 f132 f83 f169)):=fun _ _ _ _=>by kernel_rfl
theorem Zxo:Zm Tryz.prog 28 (Zr4 Xo):=okF (Zwi Yh XQ X0 YJ Y1 Y0 XA) Tryz.func28 Zh (Zp _ (.cons Zr0 (.cons Zxx (.cons Zxw (.cons ZAJ (.cons ZtR (.cons ZAD (.cons Zxp .nil))))))) .nil .nil .nil (Zq _))
abbrev Zr3 (f:Zob):Ze:=⟨[.one (.P),.one (.I .i64),.one (.I .i64),.one (.B)],[.one (.I .i64)],fun t K _ h=>f t.1 t.2.1 t.2.2.1 t.2.2.2.1 (fun r0 h=>K (r0,()) h) h⟩
abbrev Zzm (f158:Zoo) (f69:ZkP) (f160:Zom) (f170:Zoc):Cfg:=ZA Tryz.prog [(26,Zsg f158),(27,Zr1 f69),(29,Zse f160),(28,Zr4 f170)] 122 [] [] [] ZC
theorem Zwh (f158:Zoo) (f69:ZkP) (f160:Zom) (f170:Zoc):ZD (Zzm f158 f69 f160 f170) Tryz.f13 (.seq (.leaf) (.seq (.leaf) (.seq (.leaf) (.seq (.leaf) (.seq (.leaf) (.seq (.leaf) (.seq (.leaf) (.seq (.leaf) (.seq (.leaf) (.seq (.order (.take 0 true (.take 1 true (.take 2 true (.take 3 true (.take 5 true (.take 7 true (.take 8 true (.take 4 true (.take 6 true (.take 9 false .done))))))))))) (.seq (.seq (.order (.take 0 true (.take 1 true (.take 2 true (.take 3 true (.take 5 true (.take 6 true (.take 10 true (.take 4 true (.take 7 true (.take 8 false (.take 9 false .done)))))))))))) (.block (.loop [97] [.one (.I .i64)] [(13,14),(98,121)] (.seq (.leaf) (.seq (.leaf) (.seq (.block (.seq (.leaf) (.seq (.leaf) (.order (.take 0 true (.take 2 true (.take 3 true (.take 4 true (.take 5 true (.take 7 true (.take 1 true (.take 6 true (.take 8 true (.take 9 false (.take 10 false .done))))))))))))))) (.leaf))))))) (.leaf)))))))))))) (Zr3 (ZbS f158 f69 f160 f170)):=fun _ _ _ _=>by kernel_rfl
theorem Zxn:Zm Tryz.prog 13 (Zr3 XV):=okF (Zwh ZaT Y7 YK Xo) Tryz.func13 Zh (Zp _ (.cons ZxA (.cons ZtN (.cons Zxy (.cons Zxo .nil)))) .nil .nil .nil (Zq _))
abbrev Zt0 (f:Zva):Ze:=⟨[.one (.I .i64),.one (.L)],[.one (.B)],fun t K _ h=>f t.1 t.2.1 (fun r0 h=>K (r0,()) h) h⟩
abbrev Zzl (f2:zT2) (f58:Zrw) (f152:Zot) (f145:ZkS) (f171:Zob):Cfg:=ZA Tryz.prog [(9,zk2 f2),(10,Zv4 f58),(12,Zsl f152),(11,ZqC f145),(13,Zr3 f171)] 116 [] [] [] ZC
theorem Zwg (f2:zT2) (f58:Zrw) (f152:Zot) (f145:ZkS) (f171:Zob):ZD (Zzl f2 f58 f152 f145 f171) Tryz.f4 (.seq (.leaf) (.seq (.leaf) (.seq (.leaf) (.seq (.leaf) (.seq (.leaf) (.seq (.leaf) (.seq (.leaf) (.seq (.leaf) (.seq (.leaf) (.seq (.seq (.leaf) (.block (.loop [11,12] [.one (.I .i64),.one (.I .i64)] [(4,4),(13,15),(56,114)] (.seq (.leaf) (.seq (.block (.seq (.leaf) (.seq (.leaf) (.cut [11] [.one (.I .i64)] [(86,89)] (.leaf) (.leaf))))) (.leaf)))))) (.leaf))))))))))) (Zt0 (XS f2 f58 f152 f145 f171)):=fun _ _ _ _=>by kernel_rfl
theorem Zc5:Zm Tryz.prog 4 (Zt0 Y9):=okF (Zwg ZbN YC XK Yr XV) Tryz.func4 Zh (Zp _ (.cons zo2 (.cons ZAI (.cons ZxF (.cons ZtQ (.cons Zxn .nil))))) .nil .nil .nil (Zq _))
end
end Go.Proofs.YthbfgkphlmlihaaGreat
