/- That each function does what its model says. Written by a program out of the translated functions. -/
import Derived.Test.YtbppjmcinoffnaaGreatProg
import Derived.KernelRfl
import Derived.Test.YtbppjmcinoffnaaGreatPa6
set_option linter.unusedVariables false
set_option linter.unusedSimpArgs false
namespace Go.Proofs.YtbppjmcinoffnaaGreat
open Go Go.Fw
theorem Zf:Tryz.prog.follows .mixedOrders=true:=by kernel_rfl
noncomputable abbrev zk0 (f:zT0):Ze:=⟨[.one (.I .i64)],[.one (.B)],fun t K _ h=>f t.1 (fun r0 h=>K (r0,()) h) h⟩
noncomputable abbrev zc0:Cfg:=ZG Tryz.prog [] 9 [] [] [] ZH
theorem zr0:ZJ (zc0) Tryz.f45 (.leaf) (zk0 ZeI):=fun _ _ _ _=>by kernel_rfl
theorem zo0:Zm Tryz.prog 45 (zk0 ZaL):=okF (zr0) Tryz.func45 Zf (Zo _ .nil .nil .nil .nil (Zp _))
noncomputable abbrev zk1 (f:zT1):Ze:=⟨[.one (.I .i64)],[.one (.P),.one (.I .i64)],fun t K _ h=>f t.1 (fun r0 r1 h=>K (r0,r1,()) h) h⟩
noncomputable abbrev zc1 (f0:zT0):Cfg:=ZG Tryz.prog [(45,zk0 f0)] 13 [] [] [] ZH
theorem zr1 (f0:zT0):ZJ (zc1 f0) Tryz.f22 (.leaf) (zk1 (ZgD f0)):=fun _ _ _ _=>by kernel_rfl
theorem zo1:Zm Tryz.prog 22 (zk1 Zek):=okF (zr1 ZaL) Tryz.func22 Zf (Zo _ (.cons zo0 .nil) .nil .nil .nil (Zp _))
noncomputable abbrev zk2 (f:zT2):Ze:=⟨[],[.one (.P)],fun _ K _ h=>f (fun r0 h=>K (r0,()) h) h⟩
noncomputable abbrev zc2:Cfg:=ZG Tryz.prog [] 4 [] [] [] ZH
theorem zr2:ZJ (zc2) Tryz.f23 (.leaf) (zk2 ZfW):=fun _ _ _ _=>by kernel_rfl
theorem zo2:Zm Tryz.prog 23 (zk2 ZdS):=okF (zr2) Tryz.func23 Zf (Zo _ .nil .nil .nil .nil (Zp _))
noncomputable abbrev zk3 (f:zT3):Ze:=⟨[.one (.I .i64)],[.one (.B)],fun t K _ h=>f t.1 (fun r0 h=>K (r0,()) h) h⟩
noncomputable abbrev zc3:Cfg:=ZG Tryz.prog [] 9 [] [] [] ZH
theorem zr3:ZJ (zc3) Tryz.f83 (.leaf) (zk3 Zbk):=fun _ _ _ _=>by kernel_rfl
theorem zo3:Zm Tryz.prog 83 (zk3 Xn):=okF (zr3) Tryz.func83 Zf (Zo _ .nil .nil .nil .nil (Zp _))
noncomputable abbrev zk4 (f:zT4):Ze:=⟨[.one (.L),.fn 83],[.one (.I .i64)],fun t K _ h=>f t.1 (fun r0 h=>K (r0,()) h) h⟩
noncomputable abbrev zc4 (f3:zT3):Cfg:=ZG Tryz.prog [(83,zk3 f3)] 19 [] [] [] ZH
theorem zr4 (f3:zT3):ZJ (zc4 f3) Tryz.f116 (.seq (.leaf) (.seq (.seq (.leaf) (.block (.loop [8] [.one (.I .i64)] [(4,5),(9,18)] (.leaf)))) (.leaf))) (zk4 (Yh f3)):=fun _ _ _ _=>by kernel_rfl
theorem zo4:Zm Tryz.prog 116 (zk4 ZQ):=okF (zr4 Xn) Tryz.func116 Zf (Zo _ (.cons zo3 .nil) .nil .nil .nil (Zp _))
noncomputable abbrev zk5 (f:zT5):Ze:=⟨[.one (.L),.fn 83],[.one (.B)],fun t K _ h=>f t.1 (fun r0 h=>K (r0,()) h) h⟩
noncomputable abbrev zc5 (f4:zT4):Cfg:=ZG Tryz.prog [(116,zk4 f4)] 9 [] [] [] ZH
theorem zr5 (f4:zT4):ZJ (zc5 f4) Tryz.f82 (.leaf) (zk5 (Yb f4)):=fun _ _ _ _=>by kernel_rfl
theorem zo5:Zm Tryz.prog 82 (zk5 ZY):=okF (zr5 ZQ) Tryz.func82 Zf (Zo _ (.cons zo4 .nil) .nil .nil .nil (Zp _))
noncomputable abbrev zk6 (f:zT6):Ze:=⟨[.one (.P),.one (.L)],[.one (.I .i64)],fun t K _ h=>f t.1 t.2.1 (fun r0 h=>K (r0,()) h) h⟩
noncomputable abbrev zc6 (f5:zT5):Cfg:=ZG Tryz.prog [(82,zk5 f5)] 11 [] [] [] ZH
theorem zr6 (f5:zT5):ZJ (zc6 f5) Tryz.f46 (.leaf) (zk6 (ZbT f5)):=fun _ _ _ _=>by kernel_rfl
theorem zo6:Zm Tryz.prog 46 (zk6 Yl):=okF (zr6 ZY) Tryz.func46 Zf (Zo _ (.cons zo5 .nil) .nil .nil .nil (Zp _))
noncomputable abbrev zk7 (f:zT7):Ze:=⟨[.one (.P),.one (.L)],[.one (.I .i64)],fun t K _ h=>f t.1 t.2.1 (fun r0 h=>K (r0,()) h) h⟩
noncomputable abbrev zc7 (f6:zT6):Cfg:=ZG Tryz.prog [(46,zk6 f6)] 26 [] [] [] ZH
theorem zr7 (f6:zT6):ZJ (zc7 f6) Tryz.f24 (.seq (.leaf) (.seq (.leaf) (.seq (.seq (.leaf) (.block (.loop [16] [.one (.I .i64)] [(7,7),(17,25)] (.leaf)))) (.leaf)))) (zk7 (ZcX f6)):=fun _ _ _ _=>by kernel_rfl
theorem zo7:Zm Tryz.prog 24 (zk7 YO):=okF (zr7 Yl) Tryz.func24 Zf (Zo _ (.cons zo6 .nil) .nil .nil .nil (Zp _))
noncomputable abbrev zk8 (f:zT8):Ze:=⟨[.one (.I .i64),.one (.I .i64),.one (.I .i64)],[.one (.B)],fun t K _ h=>f t.1 t.2.1 t.2.2.1 (fun r0 h=>K (r0,()) h) h⟩
noncomputable abbrev zc8:Cfg:=ZG Tryz.prog [] 15 [] [] [] ZH
theorem zr8:ZJ (zc8) Tryz.f84 (.leaf) (zk8 ZfY):=fun _ _ _ _=>by kernel_rfl
theorem zo8:Zm Tryz.prog 84 (zk8 ZaH):=okF (zr8) Tryz.func84 Zf (Zo _ .nil .nil .nil .nil (Zp _))
noncomputable abbrev zk9 (f:zT9):Ze:=⟨[.one (.S)],[.one (.B)],fun t K _ h=>f t.1 (fun r0 h=>K (r0,()) h) h⟩
noncomputable abbrev zc9 (f8:zT8):Cfg:=ZG Tryz.prog [(84,zk8 f8)] 19 [] [] [] ZH
theorem zr9 (f8:zT8):ZJ (zc9 f8) Tryz.f85 (.seq (.leaf) (.seq (.seq (.leaf) (.block (.loop [6] [.one (.I .i64)] [(2,3),(7,15)] (.leaf)))) (.leaf))) (zk9 (ZeM f8)):=fun _ _ _ _=>by kernel_rfl
theorem zo9:Zm Tryz.prog 85 (zk9 ZcE):=okF (zr9 ZaH) Tryz.func85 Zf (Zo _ (.cons zo8 .nil) .nil .nil .nil (Zp _))
noncomputable abbrev ZvB (f:ZlF):Ze:=⟨[.agg [.I .i64,.I .u8,.I .i64,.I .i64,.S,.I .i64]],[.one (.B)],fun t K _ h=>f t.1 (fun r0 h=>K (r0,()) h) h⟩
noncomputable abbrev ZHW (f8:zT8) (f9:zT9):Cfg:=ZG Tryz.prog [(84,zk8 f8),(85,zk9 f9)] 76 [] [] [] ZH
theorem ZFA (f8:zT8) (f9:zT9):ZJ (ZHW f8 f9) Tryz.f47 (.seq (.leaf) (.cut [3] [.one (.B)] [(5,17)] (.leaf) (.cut [4] [.one (.B)] [(18,25)] (.leaf) (.seq (.leaf) (.seq (.seq (.leaf) (.block (.cut [32] [.one (.B)] [(33,34)] (.leaf) (.leaf)))) (.leaf)))))) (ZvB (Zfp f8 f9)):=fun _ _ _ _=>by kernel_rfl
theorem ZwP:Zm Tryz.prog 47 (ZvB YW):=okF (ZFA ZaH ZcE) Tryz.func47 Zf (Zo _ (.cons zo8 (.cons zo9 .nil)) .nil .nil .nil (Zp _))
noncomputable abbrev Zzf (f:Zui):Ze:=⟨[],[.one (.P)],fun _ K _ h=>f (fun r0 h=>K (r0,()) h) h⟩
noncomputable abbrev ZHV:Cfg:=ZG Tryz.prog [] 3 [] [] [] ZH
theorem ZFz:ZJ (ZHV) Tryz.f48 (.leaf) (Zzf Zep):=fun _ _ _ _=>by kernel_rfl
theorem ZD8:Zm Tryz.prog 48 (Zzf ZbP):=okF (ZFz) Tryz.func48 Zf (Zo _ .nil .nil .nil .nil (Zp _))
noncomputable abbrev ZCh (f:ZxT):Ze:=⟨[.agg [.I .i64,.I .i64,.I .i64],.one (.S)],[.one (.P),.one (.I .i64)],fun t K _ h=>f t.1 t.2.1 (fun r0 r1 h=>K (r0,r1,()) h) h⟩
noncomputable abbrev ZHU (f10:ZlF) (f11:Zui):Cfg:=ZG Tryz.prog [(47,ZvB f10),(48,Zzf f11)] 45 [] [] [] ZH
theorem ZFy (f10:ZlF) (f11:Zui):ZJ (ZHU f10 f11) Tryz.f25 (.seq (.leaf) (.seq (.leaf) (.seq (.order (.take 2 (.take 4 (.take 1 (.take 5 (.fork 0 (.take 3 (.take 6 (.take 7 (.take 8 (.take 9 .done))))) 3 (.take 0 (.take 6 (.take 7 (.take 8 (.take 9 .done))))))))))) (.leaf)))) (ZCh (ZfZ f10 f11)):=fun _ _ _ _=>by kernel_rfl
theorem ZGw:Zm Tryz.prog 25 (ZCh ZdU):=okF (ZFy YW ZbP) Tryz.func25 Zf (Zo _ (.cons ZwP (.cons ZD8 .nil)) .nil .nil .nil (Zp _))
noncomputable abbrev ZpF (f:ZgS):Ze:=⟨[.one (.P)],[.one (.L)],fun t K _ h=>f t.1 (fun r0 h=>K (r0,()) h) h⟩
noncomputable abbrev ZHT (f13:ZDl) (f14:ZDk):Cfg:=ZG Tryz.prog [(69,⟨[.one (.M)],[.one (.V)],fun t K _ h=>f13 t.1 (fun r0 h=>K (r0,()) h) h⟩),(68,⟨[.one (.V)],[.one (.L)],fun t K _ h=>f14 t.1 (fun r0 h=>K (r0,()) h) h⟩)] 11 [] [] [] ZH
theorem ZFx (f13:ZDl) (f14:ZDk):ZJ (ZHT f13 f14) Tryz.f33 (.leaf) (ZpF (Zah f13 f14)):=fun _ _ _ _=>by kernel_rfl
theorem Zsy:Zm Tryz.prog 33 (ZpF Zi):=okF (ZFx YM Zcb) Tryz.func33 Zf (Zo _ (.cons Zdg (.cons ZfS .nil)) .nil .nil .nil (Zp _))
noncomputable abbrev Zsu (f:ZhS):Ze:=⟨[.one (.P),.one (.I .i64)],[],fun t K _ h=>f t.1 t.2.1 (fun h=>K (()) h) h⟩
noncomputable abbrev ZHS:Cfg:=ZG Tryz.prog [] 20 [] [] [] ZH
theorem ZFw:ZJ (ZHS) Tryz.f86 (.leaf) (Zsu Zct):=fun _ _ _ _=>by kernel_rfl
theorem ZtX:Zm Tryz.prog 86 (Zsu Zq):=okF (ZFw) Tryz.func86 Zf (Zo _ .nil .nil .nil .nil (Zp _))
noncomputable abbrev ZCg (f:ZxR):Ze:=⟨[],[.one (.I .i64)],fun _ K _ h=>f (fun r0 h=>K (r0,()) h) h⟩
noncomputable abbrev ZHR:Cfg:=ZG Tryz.prog [] 1 [] [] [] ZH
theorem ZFv:ZJ (ZHR) Tryz.f50 (.leaf) (ZCg ZbF):=fun _ _ _ _=>by kernel_rfl
theorem ZGv:Zm Tryz.prog 50 (ZCg XD):=okF (ZFv) Tryz.func50 Zf (Zo _ .nil .nil .nil .nil (Zp _))
noncomputable abbrev ZCf (f:ZxQ):Ze:=⟨[.one (.P),.one (.I .i64),.fn 50],[.one (.I .i64)],fun t K _ h=>f t.1 t.2.1 (fun r0 h=>K (r0,()) h) h⟩
noncomputable abbrev ZHQ (f15:ZgS) (f16:ZhS) (f17:ZxR):Cfg:=ZG Tryz.prog [(33,ZpF f15),(86,Zsu f16),(50,ZCg f17)] 57 [] [] [] ZH
theorem ZFu (f15:ZgS) (f16:ZhS) (f17:ZxR):ZJ (ZHQ f15 f16 f17) Tryz.f49 (.seq (.leaf) (.seq (.leaf) (.seq (.leaf) (.seq (.seq (.leaf) (.block (.loop [33] [.one (.I .i64)] [(8,8),(34,54)] (.seq (.leaf) (.seq (.leaf) (.seq (.block (.seq (.leaf) (.seq (.order (.take 0 (.take 1 (.take 2 (.take 3 (.take 5 (.take 8 (.take 9 (.take 10 (.take 11 (.take 4 (.take 12 (.take 6 (.take 7 (.take 13 .done))))))))))))))) (.leaf)))) (.leaf))))))) (.leaf))))) (ZCf (Zt f15 f16 f17)):=fun _ _ _ _=>by kernel_rfl
theorem ZGu:Zm Tryz.prog 49 (ZCf Yi):=okF (ZFu Zi Zq XD) Tryz.func49 Zf (Zo _ (.cons Zsy (.cons ZtX (.cons ZGv .nil))) .nil .nil .nil (Zp _))
noncomputable abbrev Zze (f:Zuh):Ze:=⟨[.one (.P),.one (.I .i64)],[.one (.I .i64)],fun t K _ h=>f t.1 t.2.1 (fun r0 h=>K (r0,()) h) h⟩
noncomputable abbrev ZHP (f18:ZxQ):Cfg:=ZG Tryz.prog [(49,ZCf f18)] 8 [] [] [] ZH
theorem ZFt (f18:ZxQ):ZJ (ZHP f18) Tryz.f26 (.leaf) (Zze (Zcw f18)):=fun _ _ _ _=>by kernel_rfl
theorem ZD7:Zm Tryz.prog 26 (Zze Y1):=okF (ZFt Yi) Tryz.func26 Zf (Zo _ (.cons ZGu .nil) .nil .nil .nil (Zp _))
noncomputable abbrev Zzd (f:Zug):Ze:=⟨[.one (.I .i64),.one (.I .i64),.agg [.I .i64,.I .i64,.I .i64]],[.one (.P),.one (.I .i64)],fun t K _ h=>f t.1 t.2.1 t.2.2.1 (fun r0 r1 h=>K (r0,r1,()) h) h⟩
noncomputable abbrev ZHO (f1:zT1) (f2:zT2) (f7:zT7) (f12:ZxT) (f19:Zuh):Cfg:=ZG Tryz.prog [(22,zk1 f1),(23,zk2 f2),(24,zk7 f7),(25,ZCh f12),(26,Zze f19)] 74 [] [] [] ZH
theorem ZFs (f1:zT1) (f2:zT2) (f7:zT7) (f12:ZxT) (f19:Zuh):ZJ (ZHO f1 f2 f7 f12 f19) Tryz.f7 (.seq (.leaf) (.seq (.leaf) (.seq (.leaf) (.seq (.leaf) (.seq (.leaf) (.seq (.seq (.leaf) (.block (.loop [46] [.one (.I .i64)] [(6,7),(11,12),(47,72)] (.leaf)))) (.leaf))))))) (Zzd (Zfr f1 f2 f7 f12 f19)):=fun _ _ _ _=>by kernel_rfl
theorem ZD6:Zm Tryz.prog 7 (Zzd Zbh):=okF (ZFs Zek ZdS YO ZdU Y1) Tryz.func7 Zf (Zo _ (.cons zo1 (.cons zo2 (.cons zo7 (.cons ZGw (.cons ZD7 .nil))))) .nil .nil .nil (Zp _))
noncomputable abbrev ZCe (f:ZxP):Ze:=⟨[.one (.I .i64),.one (.I .i64),.one (.I .i64)],[.one (.B)],fun t K _ h=>f t.1 t.2.1 t.2.2.1 (fun r0 h=>K (r0,()) h) h⟩
noncomputable abbrev ZHN:Cfg:=ZG Tryz.prog [] 15 [] [] [] ZH
theorem ZFr:ZJ (ZHN) Tryz.f87 (.leaf) (ZCe ZeK):=fun _ _ _ _=>by kernel_rfl
theorem ZGt:Zm Tryz.prog 87 (ZCe ZcC):=okF (ZFr) Tryz.func87 Zf (Zo _ .nil .nil .nil .nil (Zp _))
noncomputable abbrev ZCd (f:ZxO):Ze:=⟨[.one (.S)],[.one (.B)],fun t K _ h=>f t.1 (fun r0 h=>K (r0,()) h) h⟩
noncomputable abbrev ZHM (f21:ZxP):Cfg:=ZG Tryz.prog [(87,ZCe f21)] 19 [] [] [] ZH
theorem ZFq (f21:ZxP):ZJ (ZHM f21) Tryz.f51 (.seq (.leaf) (.seq (.seq (.leaf) (.block (.loop [6] [.one (.I .i64)] [(2,3),(7,15)] (.leaf)))) (.leaf))) (ZCd (ZeL f21)):=fun _ _ _ _=>by kernel_rfl
theorem ZGs:Zm Tryz.prog 51 (ZCd ZcD):=okF (ZFq ZcC) Tryz.func51 Zf (Zo _ (.cons ZGt .nil) .nil .nil .nil (Zp _))
noncomputable abbrev ZCc (f:ZxN):Ze:=⟨[.one (.I .i64),.one (.I .i64),.one (.I .i64)],[.one (.B)],fun t K _ h=>f t.1 t.2.1 t.2.2.1 (fun r0 h=>K (r0,()) h) h⟩
noncomputable abbrev ZHL:Cfg:=ZG Tryz.prog [] 15 [] [] [] ZH
theorem ZFp:ZJ (ZHL) Tryz.f89 (.leaf) (ZCc Zem):=fun _ _ _ _=>by kernel_rfl
theorem ZGr:Zm Tryz.prog 89 (ZCc ZbN):=okF (ZFp) Tryz.func89 Zf (Zo _ .nil .nil .nil .nil (Zp _))
noncomputable abbrev ZCb (f:ZxM):Ze:=⟨[.agg [.I .i64,.I .i64,.I .i64,.I .i64]],[.one (.B)],fun t K _ h=>f t.1 (fun r0 h=>K (r0,()) h) h⟩
noncomputable abbrev ZHK (f23:ZxN):Cfg:=ZG Tryz.prog [(89,ZCc f23)] 38 [] [] [] ZH
theorem ZFo (f23:ZxN):ZJ (ZHK f23) Tryz.f54 (.seq (.leaf) (.seq (.leaf) (.seq (.leaf) (.cut [4] [.one (.B)] [(8,14)] (.leaf) (.leaf))))) (ZCb (Zfm f23)):=fun _ _ _ _=>by kernel_rfl
theorem ZGq:Zm Tryz.prog 54 (ZCb Zdi):=okF (ZFo ZbN) Tryz.func54 Zf (Zo _ (.cons ZGr .nil) .nil .nil .nil (Zp _))
noncomputable abbrev ZCa (f:ZxL):Ze:=⟨[.agg [.I .i64,.I .i64,.I .i64,.I .i64]],[.one (.B)],fun t K _ h=>f t.1 (fun r0 h=>K (r0,()) h) h⟩
noncomputable abbrev ZHJ (f24:ZxM):Cfg:=ZG Tryz.prog [(54,ZCb f24)] 6 [] [] [] ZH
theorem ZFn (f24:ZxM):ZJ (ZHJ f24) Tryz.f53 (.leaf) (ZCa (ZbS f24)):=fun _ _ _ _=>by kernel_rfl
theorem ZGp:Zm Tryz.prog 53 (ZCa XP):=okF (ZFn Zdi) Tryz.func53 Zf (Zo _ (.cons ZGq .nil) .nil .nil .nil (Zp _))
noncomputable abbrev ZB9 (f:ZxK):Ze:=⟨[.one (.L),.fn 53],[.one (.I .i64)],fun t K _ h=>f t.1 (fun r0 h=>K (r0,()) h) h⟩
noncomputable abbrev ZHI (f25:ZxL):Cfg:=ZG Tryz.prog [(53,ZCa f25)] 19 [] [] [] ZH
theorem ZFm (f25:ZxL):ZJ (ZHI f25) Tryz.f88 (.seq (.leaf) (.seq (.seq (.leaf) (.block (.loop [8] [.one (.I .i64)] [(4,5),(9,18)] (.leaf)))) (.leaf))) (ZB9 (Z2 f25)):=fun _ _ _ _=>by kernel_rfl
theorem ZGo:Zm Tryz.prog 88 (ZB9 ZM):=okF (ZFm XP) Tryz.func88 Zf (Zo _ (.cons ZGp .nil) .nil .nil .nil (Zp _))
noncomputable abbrev ZB8 (f:ZxJ):Ze:=⟨[.one (.L),.fn 53],[.one (.B)],fun t K _ h=>f t.1 (fun r0 h=>K (r0,()) h) h⟩
noncomputable abbrev ZHH (f26:ZxK):Cfg:=ZG Tryz.prog [(88,ZB9 f26)] 9 [] [] [] ZH
theorem ZFl (f26:ZxK):ZJ (ZHH f26) Tryz.f52 (.leaf) (ZB8 (Z1 f26)):=fun _ _ _ _=>by kernel_rfl
theorem ZGn:Zm Tryz.prog 52 (ZB8 ZD):=okF (ZFl ZM) Tryz.func52 Zf (Zo _ (.cons ZGo .nil) .nil .nil .nil (Zp _))
noncomputable abbrev ZB7 (f:ZxI):Ze:=⟨[.one (.P),.one (.S),.one (.L)],[.one (.B)],fun t K _ h=>f t.1 t.2.1 t.2.2.1 (fun r0 h=>K (r0,()) h) h⟩
noncomputable abbrev ZHG:Cfg:=ZG Tryz.prog [] 54 [] [] [] ZH
theorem ZFk:ZJ (ZHG) Tryz.f55 (.seq (.leaf) (.seq (.leaf) (.seq (.seq (.leaf) (.block (.loop [20] [.one (.I .i64)] [(9,9),(11,11),(21,39)] (.seq (.leaf) (.seq (.leaf) (.seq (.block (.seq (.leaf) (.seq (.leaf) (.block (.loop [27] [.one (.I .i64)] [(11,11),(28,38)] (.leaf)))))) (.leaf))))))) (.seq (.seq (.leaf) (.block (.loop [42] [.one (.I .i64)] [(6,6),(13,13),(43,53)] (.leaf)))) (.leaf))))) (ZB7 Zce):=fun _ _ _ _=>by kernel_rfl
theorem ZGm:Zm Tryz.prog 55 (ZB7 X3):=okF (ZFk) Tryz.func55 Zf (Zo _ .nil .nil .nil .nil (Zp _))
noncomputable abbrev ZB6 (f:ZxH):Ze:=⟨[.agg [.S,.L],.one (.P)],[.one (.B)],fun t K _ h=>f t.1 t.2.1 (fun r0 h=>K (r0,()) h) h⟩
noncomputable abbrev ZHF:Cfg:=ZG Tryz.prog [] 8 [] [] [] ZH
theorem ZFj:ZJ (ZHF) Tryz.f91 (.leaf) (ZB6 Zbw):=fun _ _ _ _=>by kernel_rfl
theorem ZGl:Zm Tryz.prog 91 (ZB6 Xz):=okF (ZFj) Tryz.func91 Zf (Zo _ .nil .nil .nil .nil (Zp _))
noncomputable abbrev ZB5 (f:ZxG):Ze:=⟨[.one (.L),.clo 91 [.P]],[.one (.I .i64)],fun t K _ h=>f t.1 t.2.1 (fun r0 h=>K (r0,()) h) h⟩
noncomputable abbrev ZHE (f29:ZxH):Cfg:=ZG Tryz.prog [(91,ZB6 f29)] 19 [] [] [] ZH
theorem ZFi (f29:ZxH):ZJ (ZHE f29) Tryz.f90 (.seq (.leaf) (.seq (.seq (.leaf) (.block (.loop [8] [.one (.I .i64)] [(4,5),(9,18)] (.leaf)))) (.leaf))) (ZB5 (ZZ f29)):=fun _ _ _ _=>by kernel_rfl
theorem ZGk:Zm Tryz.prog 90 (ZB5 ZL):=okF (ZFi Xz) Tryz.func90 Zf (Zo _ (.cons ZGl .nil) .nil .nil .nil (Zp _))
noncomputable abbrev ZwS (f:ZpJ):Ze:=⟨[.one (.P),.one (.S)],[.one (.I .i64)],fun t K _ h=>f t.1 t.2.1 (fun r0 h=>K (r0,()) h) h⟩
noncomputable abbrev ZHD (f30:ZxG):Cfg:=ZG Tryz.prog [(90,ZB5 f30)] 11 [] [] [] ZH
theorem ZFh (f30:ZxG):ZJ (ZHD f30) Tryz.f57 (.leaf) (ZwS (Zcf f30)):=fun _ _ _ _=>by kernel_rfl
theorem ZAx:Zm Tryz.prog 57 (ZwS Yu):=okF (ZFh ZL) Tryz.func57 Zf (Zo _ (.cons ZGk .nil) .nil .nil .nil (Zp _))
noncomputable abbrev ZB4 (f:ZxF):Ze:=⟨[.one (.P),.one (.S),.one (.L)],[.one (.B)],fun t K _ h=>f t.1 t.2.1 t.2.2.1 (fun r0 h=>K (r0,()) h) h⟩
noncomputable abbrev ZHC (f31:ZpJ):Cfg:=ZG Tryz.prog [(57,ZwS f31)] 84 [] [] [] ZH
theorem ZFg (f31:ZpJ):ZJ (ZHC f31) Tryz.f56 (.seq (.leaf) (.seq (.order (.take 0 (.take 1 (.take 2 (.take 3 (.take 4 (.take 7 (.take 8 (.take 9 (.take 5 (.take 6 (.take 10 (.take 11 (.take 12 (.take 13 (.take 14 .done)))))))))))))))) (.seq (.seq (.leaf) (.block (.loop [7,33] [.one (.I .i64),.one (.I .i64)] [(11,11),(34,46)] (.leaf)))) (.cut [8] [.one (.I .i64)] [(47,52)] (.leaf) (.seq (.seq (.leaf) (.block (.loop [9,55] [.one (.I .i64),.one (.I .i64)] [(13,15),(56,73)] (.seq (.leaf) (.seq (.leaf) (.seq (.block (.seq (.leaf) (.seq (.order (.take 0 (.take 1 (.take 2 (.take 4 (.take 3 (.take 5 (.fork 6 (.take 7 (.take 8 (.take 9 (.take 10 (.take 11 (.take 12 .done)))))) 10 (.take 6 (.take 7 (.take 8 (.take 9 (.take 11 (.take 12 .done)))))))))))))) (.leaf)))) (.leaf))))))) (.leaf)))))) (ZB4 (ZcT f31)):=fun _ _ _ _=>by kernel_rfl
theorem ZGj:Zm Tryz.prog 56 (ZB4 Zap):=okF (ZFg Yu) Tryz.func56 Zf (Zo _ (.cons ZAx .nil) .nil .nil .nil (Zp _))
noncomputable abbrev ZB3 (f:ZxE):Ze:=⟨[.one (.L)],[.one (.L)],fun t K _ h=>f t.1 (fun r0 h=>K (r0,()) h) h⟩
noncomputable abbrev ZHB:Cfg:=ZG Tryz.prog [] 8 [] [] [] ZH
theorem ZFf:ZJ (ZHB) Tryz.f58 (.leaf) (ZB3 Y2):=fun _ _ _ _=>by kernel_rfl
theorem ZGi:Zm Tryz.prog 58 (ZB3 Z7):=okF (ZFf) Tryz.func58 Zf (Zo _ .nil .nil .nil .nil (Zp _))
noncomputable abbrev ZB2 (f:ZxD):Ze:=⟨[.one (.I .i64),.one (.I .i64)],[.one (.P),.one (.I .i64)],fun t K _ h=>f t.1 t.2.1 (fun r0 r1 h=>K (r0,r1,()) h) h⟩
noncomputable abbrev ZHA:Cfg:=ZG Tryz.prog [] 31 [] [] [] ZH
theorem ZFe:ZJ (ZHA) Tryz.f92 (.leaf) (ZB2 ZfV):=fun _ _ _ _=>by kernel_rfl
theorem ZGh:Zm Tryz.prog 92 (ZB2 ZdR):=okF (ZFe) Tryz.func92 Zf (Zo _ .nil .nil .nil .nil (Zp _))
noncomputable abbrev ZB1 (f:ZxC):Ze:=⟨[.one (.I .i64),.one (.I .i64)],[.one (.B)],fun t K _ h=>f t.1 t.2.1 (fun r0 h=>K (r0,()) h) h⟩
noncomputable abbrev ZHz:Cfg:=ZG Tryz.prog [] 12 [] [] [] ZH
theorem ZFd:ZJ (ZHz) Tryz.f117 (.leaf) (ZB1 ZeJ):=fun _ _ _ _=>by kernel_rfl
theorem ZGg:Zm Tryz.prog 117 (ZB1 ZcB):=okF (ZFd) Tryz.func117 Zf (Zo _ .nil .nil .nil .nil (Zp _))
noncomputable abbrev ZB0 (f:ZxB):Ze:=⟨[.one (.I .i64),.one (.I .i64),.one (.I .i64),.one (.I .i64),.one (.I .u64)],[.one (.P),.one (.I .i64)],fun t K _ h=>f t.1 t.2.1 t.2.2.1 t.2.2.2.1 t.2.2.2.2.1 (fun r0 r1 h=>K (r0,r1,()) h) h⟩
noncomputable abbrev ZHy (f35:ZxC):Cfg:=ZG Tryz.prog [(117,ZB1 f35)] 49 [] [] [] ZH
theorem ZFc (f35:ZxC):ZJ (ZHy f35) Tryz.f93 (.leaf) (ZB0 (ZfX f35)):=fun _ _ _ _=>by kernel_rfl
theorem ZGf:Zm Tryz.prog 93 (ZB0 ZdT):=okF (ZFc ZcB) Tryz.func93 Zf (Zo _ (.cons ZGg .nil) .nil .nil .nil (Zp _))
noncomputable abbrev Zzc (f:Zuf):Ze:=⟨[.agg [.I .i64,.I .i64,.I .i64,.I .i64]],[.one (.V)],fun t K _ h=>f t.1 (fun r0 h=>K (r0,()) h) h⟩
noncomputable abbrev ZHx (f34:ZxD) (f36:ZxB):Cfg:=ZG Tryz.prog [(92,ZB2 f34),(93,ZB0 f36)] 32 [] [] [] ZH
theorem ZFb (f34:ZxD) (f36:ZxB):ZJ (ZHx f34 f36) Tryz.f59 (.leaf) (Zzc (Zfl f34 f36)):=fun _ _ _ _=>by kernel_rfl
theorem ZD5:Zm Tryz.prog 59 (Zzc YV):=okF (ZFb ZdR ZdT) Tryz.func59 Zf (Zo _ (.cons ZGh (.cons ZGf .nil)) .nil .nil .nil (Zp _))
noncomputable abbrev ZBZ (f:ZxA):Ze:=⟨[.one (.P),.one (.S),.one (.L)],[.one (.I .i64)],fun t K _ h=>f t.1 t.2.1 t.2.2.1 (fun r0 h=>K (r0,()) h) h⟩
noncomputable abbrev ZHw (f22:ZxO) (f27:ZxJ) (f28:ZxI) (f32:ZxF) (f31:ZpJ) (f33:ZxE) (f37:Zuf):Cfg:=ZG Tryz.prog [(51,ZCd f22),(52,ZB8 f27),(55,ZB7 f28),(56,ZB4 f32),(57,ZwS f31),(58,ZB3 f33),(59,Zzc f37)] 99 [] [] [] ZH
theorem ZFa (f22:ZxO) (f27:ZxJ) (f28:ZxI) (f32:ZxF) (f31:ZpJ) (f33:ZxE) (f37:Zuf):ZJ (ZHw f22 f27 f28 f32 f31 f33 f37) Tryz.f27 (.seq (.leaf) (.seq (.leaf) (.seq (.leaf) (.cut [7] [.one (.I .i64)] [(35,52)] (.leaf) (.seq (.order (.take 0 (.take 1 (.take 2 (.take 4 (.take 5 (.take 3 (.take 6 (.take 7 (.take 8 (.take 9 .done))))))))))) (.seq (.seq (.leaf) (.block (.loop [64] [.one (.I .i64)] [(9,11),(65,98)] (.seq (.leaf) (.seq (.leaf) (.seq (.block (.seq (.leaf) (.cut [10,11] [.one (.P),.one (.B)] [(68,77)] (.order (.take 0 (.take 1 (.take 2 (.take 4 (.take 3 (.take 5 (.fork 6 (.take 7 (.take 8 (.take 9 (.take 10 (.take 11 (.take 12 .done)))))) 10 (.take 6 (.take 7 (.take 8 (.take 9 (.take 11 (.take 12 .done)))))))))))))) (.seq (.leaf) (.cond (.order (.take 0 (.take 1 (.take 2 (.take 4 (.take 8 (.take 3 (.take 5 (.take 6 (.take 9 (.take 7 (.take 10 (.take 11 .done))))))))))))) (.leaf)))))) (.leaf))))))) (.leaf))))))) (ZBZ (ZcW f22 f27 f28 f32 f31 f33 f37)):=fun _ _ _ _=>by kernel_rfl
theorem ZGe:Zm Tryz.prog 27 (ZBZ Zar):=okF (ZFa ZcD ZD X3 Zap Yu Z7 YV) Tryz.func27 Zf (Zo _ (.cons ZGs (.cons ZGn (.cons ZGm (.cons ZGj (.cons ZAx (.cons ZGi (.cons ZD5 .nil))))))) .nil .nil .nil (Zp _))
noncomputable abbrev Zzb (f:Zue):Ze:=⟨[.one (.P),.one (.L)],[.one (.I .i64)],fun t K _ h=>f t.1 t.2.1 (fun r0 h=>K (r0,()) h) h⟩
noncomputable abbrev ZHv (f38:ZxA):Cfg:=ZG Tryz.prog [(27,ZBZ f38)] 14 [] [] [] ZH
theorem ZE9 (f38:ZxA):ZJ (ZHv f38) Tryz.f9 (.leaf) (Zzb (ZbD f38)):=fun _ _ _ _=>by kernel_rfl
theorem ZD4:Zm Tryz.prog 9 (Zzb Yt):=okF (ZE9 Zar) Tryz.func9 Zf (Zo _ (.cons ZGe .nil) .nil .nil .nil (Zp _))
noncomputable abbrev ZBY (f:Zxz):Ze:=⟨[.one (.I .u8)],[.agg [.V,.B],.one (.B)],fun t K _ h=>f t.1 (fun r0 r1 h=>K (r0,r1,()) h) h⟩
noncomputable abbrev ZHu:Cfg:=ZG Tryz.prog [] 25 [] [] [] ZH
theorem ZE8:ZJ (ZHu) Tryz.f28 (.leaf) (ZBY ZdY):=fun _ _ _ _=>by kernel_rfl
theorem ZGd:Zm Tryz.prog 28 (ZBY Zbo):=okF (ZE8) Tryz.func28 Zf (Zo _ .nil .nil .nil .nil (Zp _))
noncomputable abbrev Zza (f:Zud):Ze:=⟨[.one (.P),.one (.I .i64)],[.one (.P)],fun t K _ h=>f t.1 t.2.1 (fun r0 h=>K (r0,()) h) h⟩
noncomputable abbrev ZHt:Cfg:=ZG Tryz.prog [] 28 [] [] [] ZH
theorem ZE7:ZJ (ZHt) Tryz.f29 (.leaf) (Zza ZbB):=fun _ _ _ _=>by kernel_rfl
theorem ZD3:Zm Tryz.prog 29 (Zza YG):=okF (ZE7) Tryz.func29 Zf (Zo _ .nil .nil .nil .nil (Zp _))
noncomputable abbrev ZBX (f:Zxy):Ze:=⟨[.one (.P),.agg [.I .u8,.I .i64,.I .i64,.I .i64,.I .i64,.I .u8,.I .i64,.I .i64,.S,.I .i64]],[.agg [.I .i64,.B,.I .i64]],fun t K _ h=>f t.1 t.2.1 (fun r0 h=>K (r0,()) h) h⟩
noncomputable abbrev ZHs (f19:Zuh):Cfg:=ZG Tryz.prog [(26,Zze f19)] 49 [] [] [] ZH
theorem ZE6 (f19:Zuh):ZJ (ZHs f19) Tryz.f60 (.seq (.leaf) (.seq (.leaf) (.seq (.leaf) (.seq (.seq (.leaf) (.block (.loop [36] [.one (.I .i64)] [(6,6),(37,47)] (.seq (.leaf) (.seq (.leaf) (.seq (.block (.seq (.leaf) (.order (.take 0 (.take 2 (.take 3 (.take 4 (.take 1 (.take 5 (.take 6 .done)))))))))) (.leaf))))))) (.leaf))))) (ZBX (Zco f19)):=fun _ _ _ _=>by kernel_rfl
theorem ZGc:Zm Tryz.prog 60 (ZBX Xt):=okF (ZE6 Y1) Tryz.func60 Zf (Zo _ (.cons ZD7 .nil) .nil .nil .nil (Zp _))
noncomputable abbrev Zy9 (f:Zuc):Ze:=⟨[.one (.P),.one (.L)],[],fun t K _ h=>f t.1 t.2.1 (fun h=>K (()) h) h⟩
noncomputable abbrev ZHr:Cfg:=ZG Tryz.prog [] 31 [] [] [] ZH
theorem ZE5:ZJ (ZHr) Tryz.f154 (.seq (.leaf) (.block (.loop [9] [.one (.I .i64)] [(5,6),(10,30)] (.seq (.leaf) (.seq (.leaf) (.seq (.block (.seq (.leaf) (.seq (.leaf) (.block (.loop [6] [.one (.I .i64)] [(13,29)] (.seq (.leaf) (.seq (.block (.order (.take 0 (.take 1 (.take 2 (.take 3 (.take 5 (.take 6 (.take 7 (.take 8 (.take 4 (.take 9 (.take 10 (.take 11 (.take 12 (.take 13 .done)))))))))))))))) (.leaf)))))))) (.leaf))))))) (Zy9 ZbA):=fun _ _ _ _=>by kernel_rfl
theorem ZD2:Zm Tryz.prog 154 (Zy9 YF):=okF (ZE5) Tryz.func154 Zf (Zo _ .nil .nil .nil .nil (Zp _))
noncomputable abbrev ZBW (f:Zxx):Ze:=⟨[.agg [.I .i64,.I .u8,.I .i64,.I .i64,.S,.I .i64]],[.one (.L),.one (.I .i64)],fun t K _ h=>f t.1 (fun r0 r1 h=>K (r0,r1,()) h) h⟩
noncomputable abbrev ZHq (f10:ZlF) (f43:Zuc):Cfg:=ZG Tryz.prog [(47,ZvB f10),(154,Zy9 f43)] 33 [] [] [] ZH
theorem ZE4 (f10:ZlF) (f43:Zuc):ZJ (ZHq f10 f43) Tryz.f170 (.seq (.leaf) (.seq (.leaf) (.seq (.leaf) (.seq (.leaf) (.seq (.order (.take 0 (.take 2 (.take 8 (.take 1 (.take 3 (.take 4 (.take 5 (.take 9 (.take 6 (.take 7 (.take 10 (.take 11 (.take 12 .done)))))))))))))) (.leaf)))))) (ZBW (Zeo f10 f43)):=fun _ _ _ _=>by kernel_rfl
theorem ZGb:Zm Tryz.prog 170 (ZBW ZbO):=okF (ZE4 YW YF) Tryz.func170 Zf (Zo _ (.cons ZwP (.cons ZD2 .nil)) .nil .nil .nil (Zp _))
noncomputable abbrev Zy8 (f:Zub):Ze:=⟨[.one (.L)],[.one (.L),.one (.I .i64)],fun t K _ h=>f t.1 (fun r0 r1 h=>K (r0,r1,()) h) h⟩
noncomputable abbrev ZHp:Cfg:=ZG Tryz.prog [] 27 [] [] [] ZH
theorem ZE3:ZJ (ZHp) Tryz.f133 (.leaf) (Zy8 Zfq):=fun _ _ _ _=>by kernel_rfl
theorem ZD1:Zm Tryz.prog 133 (Zy8 Zbg):=okF (ZE3) Tryz.func133 Zf (Zo _ .nil .nil .nil .nil (Zp _))
noncomputable abbrev ZBV (f:Zxw):Ze:=⟨[.one (.L)],[.one (.L),.one (.I .i64)],fun t K _ h=>f t.1 (fun r0 r1 h=>K (r0,r1,()) h) h⟩
noncomputable abbrev ZHo (f45:Zub):Cfg:=ZG Tryz.prog [(133,Zy8 f45)] 28 [] [] [] ZH
theorem ZE2 (f45:Zub):ZJ (ZHo f45) Tryz.f171 (.seq (.leaf) (.seq (.leaf) (.seq (.seq (.leaf) (.block (.loop [4,11] [.one (.L),.one (.I .i64)] [(2,3),(6,8),(12,26)] (.leaf)))) (.leaf)))) (ZBV (ZeP f45)):=fun _ _ _ _=>by kernel_rfl
theorem ZGa:Zm Tryz.prog 171 (ZBV ZcH):=okF (ZE2 Zbg) Tryz.func171 Zf (Zo _ (.cons ZD1 .nil) .nil .nil .nil (Zp _))
noncomputable abbrev ZBU (f:Zxv):Ze:=⟨[.one (.L)],[.one (.L),.one (.I .i64)],fun t K _ h=>f t.1 (fun r0 r1 h=>K (r0,r1,()) h) h⟩
noncomputable abbrev ZHn (f44:Zxx) (f46:Zxw):Cfg:=ZG Tryz.prog [(170,ZBW f44),(171,ZBV f46)] 32 [] [] [] ZH
theorem ZE1 (f44:Zxx) (f46:Zxw):ZJ (ZHn f44 f46) Tryz.f148 (.seq (.leaf) (.seq (.leaf) (.seq (.seq (.leaf) (.block (.loop [4,11] [.one (.L),.one (.I .i64)] [(2,3),(6,8),(12,27)] (.leaf)))) (.leaf)))) (ZBU (ZgE f44 f46)):=fun _ _ _ _=>by kernel_rfl
theorem ZF9:Zm Tryz.prog 148 (ZBU Zel):=okF (ZE1 ZbO ZcH) Tryz.func148 Zf (Zo _ (.cons ZGb (.cons ZGa .nil)) .nil .nil .nil (Zp _))
noncomputable abbrev Zy7 (f:Zua):Ze:=⟨[.one (.P),.agg [.I .i64,.I .u8,.I .i64,.I .i64,.S,.I .i64]],[],fun t K _ h=>f t.1 t.2.1 (fun h=>K (()) h) h⟩
noncomputable abbrev ZHm (f47:Zxv):Cfg:=ZG Tryz.prog [(148,ZBU f47)] 21 [] [] [] ZH
theorem ZE0 (f47:Zxv):ZJ (ZHm f47) Tryz.f119 (.leaf) (Zy7 (Zb3 f47)):=fun _ _ _ _=>by kernel_rfl
theorem ZD0:Zm Tryz.prog 119 (Zy7 YQ):=okF (ZE0 Zel) Tryz.func119 Zf (Zo _ (.cons ZF9 .nil) .nil .nil .nil (Zp _))
noncomputable abbrev ZBT (f:Zxu):Ze:=⟨[.one (.P),.one (.P),.one (.P),.one (.P),.one (.P)],[.one (.I .i64)],fun t K _ h=>f t.1 t.2.1 t.2.2.1 t.2.2.2.1 t.2.2.2.2.1 (fun r0 h=>K (r0,()) h) h⟩
noncomputable abbrev ZHl (f10:ZlF) (f48:Zua):Cfg:=ZG Tryz.prog [(47,ZvB f10),(119,Zy7 f48)] 55 [] [] [] ZH
theorem ZEZ (f10:ZlF) (f48:Zua):ZJ (ZHl f10 f48) Tryz.f118 (.seq (.leaf) (.seq (.leaf) (.seq (.leaf) (.seq (.order (.take 0 (.take 1 (.take 2 (.take 3 (.take 4 (.take 5 (.take 6 (.take 7 (.take 8 (.take 9 (.take 10 .done)))))))))))) (.seq (.leaf) (.seq (.order (.take 0 (.take 1 (.take 2 (.take 3 (.take 4 (.take 5 (.take 6 .done)))))))) (.leaf))))))) (ZBT (Zb5 f10 f48)):=fun _ _ _ _=>by kernel_rfl
theorem ZF8:Zm Tryz.prog 118 (ZBT XU):=okF (ZEZ YW YQ) Tryz.func118 Zf (Zo _ (.cons ZwP (.cons ZD0 .nil)) .nil .nil .nil (Zp _))
noncomputable abbrev ZBS (f:Zxt):Ze:=⟨[.one (.P),.one (.I .i64),.clo 118 [.P,.P,.P,.P,.P]],[.one (.I .i64)],fun t K _ h=>f t.1 t.2.1 t.2.2.1 (fun r0 h=>K (r0,()) h) h⟩
noncomputable abbrev ZHk (f15:ZgS) (f16:ZhS) (f49:Zxu):Cfg:=ZG Tryz.prog [(33,ZpF f15),(86,Zsu f16),(118,ZBT f49)] 57 [] [] [] ZH
theorem ZEY (f15:ZgS) (f16:ZhS) (f49:Zxu):ZJ (ZHk f15 f16 f49) Tryz.f49 (.seq (.leaf) (.seq (.leaf) (.seq (.leaf) (.seq (.seq (.leaf) (.block (.loop [33] [.one (.I .i64)] [(8,8),(34,54)] (.seq (.leaf) (.seq (.leaf) (.seq (.block (.seq (.leaf) (.seq (.order (.take 0 (.take 1 (.take 2 (.take 3 (.take 5 (.take 8 (.take 9 (.take 10 (.take 11 (.take 4 (.take 12 (.take 6 (.take 7 (.take 13 .done))))))))))))))) (.leaf)))) (.leaf))))))) (.leaf))))) (ZBS (XV f15 f16 f49)):=fun _ _ _ _=>by kernel_rfl
theorem ZF7:Zm Tryz.prog 49 (ZBS Yp):=okF (ZEY Zi Zq XU) Tryz.func49 Zf (Zo _ (.cons Zsy (.cons ZtX (.cons ZF8 .nil))) .nil .nil .nil (Zp _))
noncomputable abbrev ZBR (f:Zxs):Ze:=⟨[.one (.P),.one (.I .i64),.agg [.I .i64,.I .u8,.I .i64,.I .i64,.S,.I .i64]],[.one (.I .i64),.one (.B),.one (.I .i64)],fun t K _ h=>f t.1 t.2.1 t.2.2.1 (fun r0 r1 r2 h=>K (r0,r1,r2,()) h) h⟩
noncomputable abbrev ZHj (f50:Zxt):Cfg:=ZG Tryz.prog [(49,ZBS f50)] 16 [] [] [] ZH
theorem ZEX (f50:Zxt):ZJ (ZHj f50) Tryz.f94 (.seq (.leaf) (.seq (.leaf) (.seq (.order (.take 2 (.take 0 (.take 1 (.take 3 (.take 4 (.take 5 .done))))))) (.leaf)))) (ZBR (Zc4 f50)):=fun _ _ _ _=>by kernel_rfl
theorem ZF6:Zm Tryz.prog 94 (ZBR Zau):=okF (ZEX Yp) Tryz.func94 Zf (Zo _ (.cons ZF7 .nil) .nil .nil .nil (Zp _))
noncomputable abbrev ZuN (f:Zls):Ze:=⟨[.one (.P)],[.one (.B)],fun t K _ h=>f t.1 (fun r0 h=>K (r0,()) h) h⟩
noncomputable abbrev ZHi:Cfg:=ZG Tryz.prog [] 11 [] [] [] ZH
theorem ZEW:ZJ (ZHi) Tryz.f40 (.leaf) (ZuN ZcI):=fun _ _ _ _=>by kernel_rfl
theorem ZwB:Zm Tryz.prog 40 (ZuN ZP):=okF (ZEW) Tryz.func40 Zf (Zo _ .nil .nil .nil .nil (Zp _))
noncomputable abbrev ZBQ (f:Zxr):Ze:=⟨[.one (.P)],[.one (.L)],fun t K _ h=>f t.1 (fun r0 h=>K (r0,()) h) h⟩
noncomputable abbrev ZHh:Cfg:=ZG Tryz.prog [] 14 [] [] [] ZH
theorem ZEV:ZJ (ZHh) Tryz.f120 (.leaf) (ZBQ Zd3):=fun _ _ _ _=>by kernel_rfl
theorem ZF5:Zm Tryz.prog 120 (ZBQ ZaZ):=okF (ZEV) Tryz.func120 Zf (Zo _ .nil .nil .nil .nil (Zp _))
noncomputable abbrev Zwu (f:ZnY):Ze:=⟨[.one (.P),.one (.I .i64),.one (.I .i64),.one (.I .i64)],[.one (.P),.one (.I .i64)],fun t K _ h=>f t.1 t.2.1 t.2.2.1 t.2.2.2.1 (fun r0 r1 h=>K (r0,r1,()) h) h⟩
noncomputable abbrev ZHg:Cfg:=ZG Tryz.prog [] 53 [] [] [] ZH
theorem ZEU:ZJ (ZHg) Tryz.f74 (.leaf) (Zwu Zen):=fun _ _ _ _=>by kernel_rfl
theorem ZyU:Zm Tryz.prog 74 (Zwu YC):=okF (ZEU) Tryz.func74 Zf (Zo _ .nil .nil .nil .nil (Zp _))
noncomputable abbrev Zy6 (f:Zt9):Ze:=⟨[.one (.P),.one (.I .i64),.one (.I .i64),.one (.L)],[.one (.I .i64)],fun t K _ h=>f t.1 t.2.1 t.2.2.1 t.2.2.2.1 (fun r0 h=>K (r0,()) h) h⟩
noncomputable abbrev ZHf (f54:ZnY):Cfg:=ZG Tryz.prog [(74,Zwu f54)] 51 [] [] [] ZH
theorem ZET (f54:ZnY):ZJ (ZHf f54) Tryz.f121 (.leaf) (Zy6 (Zdp f54)):=fun _ _ _ _=>by kernel_rfl
theorem ZDZ:Zm Tryz.prog 121 (Zy6 Xo):=okF (ZET YC) Tryz.func121 Zf (Zo _ (.cons ZyU .nil) .nil .nil .nil (Zp _))
noncomputable abbrev Zy5 (f:Zt8):Ze:=⟨[.one (.P),.one (.L)],[.one (.I .i64)],fun t K _ h=>f t.1 t.2.1 (fun r0 h=>K (r0,()) h) h⟩
noncomputable abbrev ZHe (f54:ZnY):Cfg:=ZG Tryz.prog [(74,Zwu f54)] 69 [] [] [] ZH
theorem ZES (f54:ZnY):ZJ (ZHe f54) Tryz.f124 (.seq (.leaf) (.seq (.leaf) (.seq (.leaf) (.seq (.leaf) (.seq (.seq (.leaf) (.block (.loop [6,18] [.one (.B),.one (.I .i64)] [(4,4),(8,10),(19,43)] (.leaf)))) (.seq (.leaf) (.seq (.seq (.leaf) (.block (.loop [47] [.one (.I .i64)] [(12,12),(48,68)] (.seq (.leaf) (.seq (.leaf) (.seq (.block (.seq (.leaf) (.order (.take 0 (.take 1 (.take 2 (.take 4 (.take 5 (.take 6 (.take 7 (.take 8 (.take 10 (.take 11 (.take 3 (.take 9 (.take 12 (.take 13 (.take 14 (.take 15 (.take 16 (.take 17 .done))))))))))))))))))))) (.leaf))))))) (.leaf)))))))) (Zy5 (Zdr f54)):=fun _ _ _ _=>by kernel_rfl
theorem ZDY:Zm Tryz.prog 124 (Zy5 Xp):=okF (ZES YC) Tryz.func124 Zf (Zo _ (.cons ZyU .nil) .nil .nil .nil (Zp _))
noncomputable abbrev ZBP (f:Zxq):Ze:=⟨[.one (.P),.one (.I .i64)],[.one (.I .i64)],fun t K _ h=>f t.1 t.2.1 (fun r0 h=>K (r0,()) h) h⟩
noncomputable abbrev ZHd:Cfg:=ZG Tryz.prog [] 25 [] [] [] ZH
theorem ZER:ZJ (ZHd) Tryz.f134 (.leaf) (ZBP Zci):=fun _ _ _ _=>by kernel_rfl
theorem ZF4:Zm Tryz.prog 134 (ZBP X5):=okF (ZER) Tryz.func134 Zf (Zo _ .nil .nil .nil .nil (Zp _))
noncomputable abbrev ZBO (f:Zxp):Ze:=⟨[.one (.P)],[],fun t K _ h=>f t.1 (fun h=>K (()) h) h⟩
noncomputable abbrev ZHc:Cfg:=ZG Tryz.prog [] 10 [] [] [] ZH
theorem ZEQ:ZJ (ZHc) Tryz.f156 (.leaf) (ZBO Zcn):=fun _ _ _ _=>by kernel_rfl
theorem ZF3:Zm Tryz.prog 156 (ZBO X7):=okF (ZEQ) Tryz.func156 Zf (Zo _ .nil .nil .nil .nil (Zp _))
noncomputable abbrev Zy4 (f:Zt7):Ze:=⟨[.one (.P)],[],fun t K _ h=>f t.1 (fun h=>K (()) h) h⟩
noncomputable abbrev ZHb:Cfg:=ZG Tryz.prog [] 28 [] [] [] ZH
theorem ZEP:ZJ (ZHb) Tryz.f126 (.seq (.order (.take 0 (.take 1 (.take 2 (.take 3 (.take 5 (.take 6 (.take 7 (.take 4 (.take 8 (.take 9 (.take 10 (.take 11 (.take 12 .done)))))))))))))) (.order (.take 0 (.take 1 (.take 2 (.take 3 (.take 6 (.take 7 (.take 8 (.take 9 (.take 4 (.take 5 (.take 10 (.take 11 (.take 12 (.take 13 (.take 14 .done))))))))))))))))) (Zy4 ZbE):=fun _ _ _ _=>by kernel_rfl
theorem ZDX:Zm Tryz.prog 126 (Zy4 YH):=okF (ZEP) Tryz.func126 Zf (Zo _ .nil .nil .nil .nil (Zp _))
noncomputable abbrev Zy3 (f:Zt6):Ze:=⟨[.one (.P)],[],fun t K _ h=>f t.1 (fun h=>K (()) h) h⟩
noncomputable abbrev ZHa (f15:ZgS) (f16:ZhS) (f58:Zxp) (f59:Zt7):Cfg:=ZG Tryz.prog [(33,ZpF f15),(86,Zsu f16),(156,ZBO f58),(126,Zy4 f59)] 28 [] [] [] ZH
theorem ZEO (f15:ZgS) (f16:ZhS) (f58:Zxp) (f59:Zt7):ZJ (ZHa f15 f16 f58 f59) Tryz.f139 (.seq (.leaf) (.seq (.seq (.leaf) (.block (.loop [10] [.one (.I .i64)] [(3,3),(11,17)] (.leaf)))) (.leaf))) (Zy3 (Zcu f15 f16 f58 f59)):=fun _ _ _ _=>by kernel_rfl
theorem ZDW:Zm Tryz.prog 139 (Zy3 Y0):=okF (ZEO Zi Zq X7 YH) Tryz.func139 Zf (Zo _ (.cons Zsy (.cons ZtX (.cons ZF3 (.cons ZDX .nil)))) .nil .nil .nil (Zp _))
noncomputable abbrev ZBN (f:Zxo):Ze:=⟨[.one (.P)],[.one (.I .i64)],fun t K _ h=>f t.1 (fun r0 h=>K (r0,()) h) h⟩
noncomputable abbrev ZG9 (f60:Zt6):Cfg:=ZG Tryz.prog [(139,Zy3 f60)] 9 [] [] [] ZH
theorem ZEN (f60:Zt6):ZJ (ZG9 f60) Tryz.f155 (.leaf) (ZBN (ZbG f60)):=fun _ _ _ _=>by kernel_rfl
theorem ZF2:Zm Tryz.prog 155 (ZBN XE):=okF (ZEN Y0) Tryz.func155 Zf (Zo _ (.cons ZDW .nil) .nil .nil .nil (Zp _))
noncomputable abbrev ZBM (f:Zxn):Ze:=⟨[.one (.P),.one (.I .i64),.clo 155 [.P]],[.one (.I .i64)],fun t K _ h=>f t.1 t.2.1 t.2.2.1 (fun r0 h=>K (r0,()) h) h⟩
noncomputable abbrev ZG8 (f15:ZgS) (f16:ZhS) (f61:Zxo):Cfg:=ZG Tryz.prog [(33,ZpF f15),(86,Zsu f16),(155,ZBN f61)] 57 [] [] [] ZH
theorem ZEM (f15:ZgS) (f16:ZhS) (f61:Zxo):ZJ (ZG8 f15 f16 f61) Tryz.f49 (.seq (.leaf) (.seq (.leaf) (.seq (.leaf) (.seq (.seq (.leaf) (.block (.loop [33] [.one (.I .i64)] [(8,8),(34,54)] (.seq (.leaf) (.seq (.leaf) (.seq (.block (.seq (.leaf) (.seq (.order (.take 0 (.take 1 (.take 2 (.take 3 (.take 5 (.take 8 (.take 9 (.take 10 (.take 11 (.take 4 (.take 12 (.take 6 (.take 7 (.take 13 .done))))))))))))))) (.leaf)))) (.leaf))))))) (.leaf))))) (ZBM (XJ f15 f16 f61)):=fun _ _ _ _=>by kernel_rfl
theorem ZF1:Zm Tryz.prog 49 (ZBM Yj):=okF (ZEM Zi Zq XE) Tryz.func49 Zf (Zo _ (.cons Zsy (.cons ZtX (.cons ZF2 .nil))) .nil .nil .nil (Zp _))
noncomputable abbrev ZBL (f:Zxm):Ze:=⟨[.one (.P),.one (.I .i64)],[.one (.I .i64)],fun t K _ h=>f t.1 t.2.1 (fun r0 h=>K (r0,()) h) h⟩
noncomputable abbrev ZG7 (f62:Zxn):Cfg:=ZG Tryz.prog [(49,ZBM f62)] 9 [] [] [] ZH
theorem ZEL (f62:Zxn):ZJ (ZG7 f62) Tryz.f135 (.leaf) (ZBL (Zcx f62)):=fun _ _ _ _=>by kernel_rfl
theorem ZF0:Zm Tryz.prog 135 (ZBL X9):=okF (ZEL Yj) Tryz.func135 Zf (Zo _ (.cons ZF1 .nil) .nil .nil .nil (Zp _))
noncomputable abbrev ZuM (f:Zlr):Ze:=⟨[.one (.P),.one (.P)],[],fun t K _ h=>f t.1 t.2.1 (fun h=>K (()) h) h⟩
noncomputable abbrev ZG6 (f56:Zt8) (f57:Zxq) (f52:Zls) (f63:Zxm):Cfg:=ZG Tryz.prog [(124,Zy5 f56),(134,ZBP f57),(40,ZuN f52),(135,ZBL f63)] 44 [] [] [] ZH
theorem ZEK (f56:Zt8) (f57:Zxq) (f52:Zls) (f63:Zxm):ZJ (ZG6 f56 f57 f52 f63) Tryz.f103 (.seq (.leaf) (.seq (.leaf) (.seq (.leaf) (.seq (.leaf) (.seq (.leaf) (.seq (.leaf) (.cond (.order (.take 0 (.take 1 (.take 2 (.take 4 (.take 5 (.take 6 (.take 3 (.take 7 (.take 8 .done)))))))))) (.leaf)))))))) (ZuM (Zc2 f56 f57 f52 f63)):=fun _ _ _ _=>by kernel_rfl
theorem ZwA:Zm Tryz.prog 103 (ZuM Z4):=okF (ZEK Xp X5 ZP X9) Tryz.func103 Zf (Zo _ (.cons ZDY (.cons ZF4 (.cons ZwB (.cons ZF0 .nil)))) .nil .nil .nil (Zp _))
noncomputable abbrev ZwR (f:ZpI):Ze:=⟨[.one (.P),.one (.P)],[],fun t K _ h=>f t.1 t.2.1 (fun h=>K (()) h) h⟩
noncomputable abbrev ZG5 (f52:Zls) (f53:Zxr) (f55:Zt9) (f64:Zlr):Cfg:=ZG Tryz.prog [(40,ZuN f52),(120,ZBQ f53),(121,Zy6 f55),(103,ZuM f64)] 42 [] [] [] ZH
theorem ZEJ (f52:Zls) (f53:Zxr) (f55:Zt9) (f64:Zlr):ZJ (ZG5 f52 f53 f55 f64) Tryz.f95 (.seq (.leaf) (.seq (.leaf) (.seq (.order (.take 0 (.take 1 (.take 2 (.take 3 (.take 4 (.take 5 (.take 6 (.take 8 (.take 9 (.take 10 (.take 12 (.take 7 (.take 11 (.take 13 (.take 14 (.take 15 .done))))))))))))))))) (.leaf)))) (ZwR (ZbZ f52 f53 f55 f64)):=fun _ _ _ _=>by kernel_rfl
theorem ZAw:Zm Tryz.prog 95 (ZwR Yo):=okF (ZEJ ZP ZaZ Xo Z4) Tryz.func95 Zf (Zo _ (.cons ZwB (.cons ZF5 (.cons ZDZ (.cons ZwA .nil)))) .nil .nil .nil (Zp _))
noncomputable abbrev ZBK (f:Zxl):Ze:=⟨[.one (.P),.agg [.I .u8,.I .i64,.I .i64,.I .i64,.I .i64,.I .u8,.I .i64,.I .i64,.S,.I .i64]],[.agg [.I .i64,.B,.I .i64]],fun t K _ h=>f t.1 t.2.1 (fun r0 h=>K (r0,()) h) h⟩
noncomputable abbrev ZG4 (f51:Zxs) (f65:ZpI):Cfg:=ZG Tryz.prog [(94,ZBR f51),(95,ZwR f65)] 38 [] [] [] ZH
theorem ZEI (f51:Zxs) (f65:ZpI):ZJ (ZG4 f51 f65) Tryz.f61 (.seq (.leaf) (.seq (.leaf) (.seq (.order (.take 0 (.take 1 (.take 2 (.take 4 (.take 5 (.take 6 (.take 8 (.take 3 (.take 7 (.take 9 (.take 10 (.take 11 (.take 12 (.take 13 (.take 14 (.take 15 (.take 16 (.take 17 .done))))))))))))))))))) (.leaf)))) (ZBK (Zc3 f51 f65)):=fun _ _ _ _=>by kernel_rfl
theorem ZFZ:Zm Tryz.prog 61 (ZBK XI):=okF (ZEI Zau Yo) Tryz.func61 Zf (Zo _ (.cons ZF6 (.cons ZAw .nil)) .nil .nil .nil (Zp _))
noncomputable abbrev ZBJ (f:Zxk):Ze:=⟨[.one (.P),.one (.P),.one (.P)],[.one (.I .i64)],fun t K _ h=>f t.1 t.2.1 t.2.2.1 (fun r0 h=>K (r0,()) h) h⟩
noncomputable abbrev ZG3:Cfg:=ZG Tryz.prog [] 17 [] [] [] ZH
theorem ZEH:ZJ (ZG3) Tryz.f122 (.seq (.leaf) (.seq (.order (.take 0 (.take 1 (.take 2 (.take 3 (.take 4 (.take 5 (.take 6 (.take 7 (.take 8 (.take 9 (.take 10 (.take 11 (.take 12 (.take 13 .done))))))))))))))) (.leaf))) (ZBJ ZbH):=fun _ _ _ _=>by kernel_rfl
theorem ZFY:Zm Tryz.prog 122 (ZBJ XF):=okF (ZEH) Tryz.func122 Zf (Zo _ .nil .nil .nil .nil (Zp _))
noncomputable abbrev ZBI (f:Zxj):Ze:=⟨[.one (.P),.one (.I .i64),.clo 122 [.P,.P,.P]],[.one (.I .i64)],fun t K _ h=>f t.1 t.2.1 t.2.2.1 (fun r0 h=>K (r0,()) h) h⟩
noncomputable abbrev ZG2 (f15:ZgS) (f16:ZhS) (f67:Zxk):Cfg:=ZG Tryz.prog [(33,ZpF f15),(86,Zsu f16),(122,ZBJ f67)] 57 [] [] [] ZH
theorem ZEG (f15:ZgS) (f16:ZhS) (f67:Zxk):ZJ (ZG2 f15 f16 f67) Tryz.f49 (.seq (.leaf) (.seq (.leaf) (.seq (.leaf) (.seq (.seq (.leaf) (.block (.loop [33] [.one (.I .i64)] [(8,8),(34,54)] (.seq (.leaf) (.seq (.leaf) (.seq (.block (.seq (.leaf) (.seq (.order (.take 0 (.take 1 (.take 2 (.take 3 (.take 5 (.take 8 (.take 9 (.take 10 (.take 11 (.take 4 (.take 12 (.take 6 (.take 7 (.take 13 .done))))))))))))))) (.leaf)))) (.leaf))))))) (.leaf))))) (ZBI (XK f15 f16 f67)):=fun _ _ _ _=>by kernel_rfl
theorem ZFX:Zm Tryz.prog 49 (ZBI Yk):=okF (ZEG Zi Zq XF) Tryz.func49 Zf (Zo _ (.cons Zsy (.cons ZtX (.cons ZFY .nil))) .nil .nil .nil (Zp _))
noncomputable abbrev ZBH (f:Zxi):Ze:=⟨[.one (.P),.one (.I .i64)],[.one (.B),.one (.I .i64)],fun t K _ h=>f t.1 t.2.1 (fun r0 r1 h=>K (r0,r1,()) h) h⟩
noncomputable abbrev ZG1 (f68:Zxj):Cfg:=ZG Tryz.prog [(49,ZBI f68)] 12 [] [] [] ZH
theorem ZEF (f68:Zxj):ZJ (ZG1 f68) Tryz.f96 (.leaf) (ZBH (Zcy f68)):=fun _ _ _ _=>by kernel_rfl
theorem ZFW:Zm Tryz.prog 96 (ZBH Zaa):=okF (ZEF Yk) Tryz.func96 Zf (Zo _ (.cons ZFX .nil) .nil .nil .nil (Zp _))
noncomputable abbrev ZBG (f:Zxh):Ze:=⟨[.one (.P)],[.one (.L)],fun t K _ h=>f t.1 (fun r0 h=>K (r0,()) h) h⟩
noncomputable abbrev ZG0:Cfg:=ZG Tryz.prog [] 28 [] [] [] ZH
theorem ZEE:ZJ (ZG0) Tryz.f149 (.seq (.leaf) (.seq (.leaf) (.seq (.leaf) (.seq (.seq (.leaf) (.block (.loop [3,13] [.one (.L),.one (.I .i64)] [(4,5),(14,26)] (.leaf)))) (.leaf))))) (ZBG Zdq):=fun _ _ _ _=>by kernel_rfl
theorem ZFV:Zm Tryz.prog 149 (ZBG ZaG):=okF (ZEE) Tryz.func149 Zf (Zo _ .nil .nil .nil .nil (Zp _))
noncomputable abbrev ZBF (f:Zxg):Ze:=⟨[.one (.P),.one (.I .i64)],[.one (.I .i64),.one (.I .i64)],fun t K _ h=>f t.1 t.2.1 (fun r0 r1 h=>K (r0,r1,()) h) h⟩
noncomputable abbrev ZGZ (f6:zT6) (f70:Zxh):Cfg:=ZG Tryz.prog [(46,zk6 f6),(149,ZBG f70)] 43 [] [] [] ZH
theorem ZED (f6:zT6) (f70:Zxh):ZJ (ZGZ f6 f70) Tryz.f123 (.leaf) (ZBF (ZdM f6 f70)):=fun _ _ _ _=>by kernel_rfl
theorem ZFU:Zm Tryz.prog 123 (ZBF Za6):=okF (ZED Yl ZaG) Tryz.func123 Zf (Zo _ (.cons zo6 (.cons ZFV .nil)) .nil .nil .nil (Zp _))
noncomputable abbrev ZBE (f:Zxf):Ze:=⟨[.one (.P),.one (.I .i64)],[.one (.I .i64)],fun t K _ h=>f t.1 t.2.1 (fun r0 h=>K (r0,()) h) h⟩
noncomputable abbrev ZGY:Cfg:=ZG Tryz.prog [] 38 [] [] [] ZH
theorem ZEC:ZJ (ZGY) Tryz.f36 (.leaf) (ZBE ZcV):=fun _ _ _ _=>by kernel_rfl
theorem ZFT:Zm Tryz.prog 36 (ZBE Zaq):=okF (ZEC) Tryz.func36 Zf (Zo _ .nil .nil .nil .nil (Zp _))
noncomputable abbrev ZBD (f:Zxe):Ze:=⟨[.one (.P)],[.one (.I .i64)],fun t K _ h=>f t.1 (fun r0 h=>K (r0,()) h) h⟩
noncomputable abbrev ZGX (f71:Zxg) (f72:Zxf) (f56:Zt8):Cfg:=ZG Tryz.prog [(123,ZBF f71),(36,ZBE f72),(124,Zy5 f56)] 35 [] [] [] ZH
theorem ZEB (f71:Zxg) (f72:Zxf) (f56:Zt8):ZJ (ZGX f71 f72 f56) Tryz.f97 (.leaf) (ZBD (ZaP f71 f72 f56)):=fun _ _ _ _=>by kernel_rfl
theorem ZFS:Zm Tryz.prog 97 (ZBD Y6):=okF (ZEB Za6 Zaq Xp) Tryz.func97 Zf (Zo _ (.cons ZFU (.cons ZFT (.cons ZDY .nil))) .nil .nil .nil (Zp _))
noncomputable abbrev ZBC (f:Zxd):Ze:=⟨[.one (.P)],[.one (.I .i64)],fun t K _ h=>f t.1 (fun r0 h=>K (r0,()) h) h⟩
noncomputable abbrev ZGW (f59:Zt7):Cfg:=ZG Tryz.prog [(126,Zy4 f59)] 8 [] [] [] ZH
theorem ZEA (f59:Zt7):ZJ (ZGW f59) Tryz.f125 (.leaf) (ZBC (ZaR f59)):=fun _ _ _ _=>by kernel_rfl
theorem ZFR:Zm Tryz.prog 125 (ZBC Y7):=okF (ZEA YH) Tryz.func125 Zf (Zo _ (.cons ZDX .nil) .nil .nil .nil (Zp _))
noncomputable abbrev ZBB (f:Zxc):Ze:=⟨[.one (.P),.one (.I .i64),.clo 125 [.P]],[.one (.I .i64)],fun t K _ h=>f t.1 t.2.1 t.2.2.1 (fun r0 h=>K (r0,()) h) h⟩
noncomputable abbrev ZGV (f15:ZgS) (f16:ZhS) (f74:Zxd):Cfg:=ZG Tryz.prog [(33,ZpF f15),(86,Zsu f16),(125,ZBC f74)] 57 [] [] [] ZH
theorem ZEz (f15:ZgS) (f16:ZhS) (f74:Zxd):ZJ (ZGV f15 f16 f74) Tryz.f49 (.seq (.leaf) (.seq (.leaf) (.seq (.leaf) (.seq (.seq (.leaf) (.block (.loop [33] [.one (.I .i64)] [(8,8),(34,54)] (.seq (.leaf) (.seq (.leaf) (.seq (.block (.seq (.leaf) (.seq (.order (.take 0 (.take 1 (.take 2 (.take 3 (.take 5 (.take 8 (.take 9 (.take 10 (.take 11 (.take 4 (.take 12 (.take 6 (.take 7 (.take 13 .done))))))))))))))) (.leaf)))) (.leaf))))))) (.leaf))))) (ZBB (Xs f15 f16 f74)):=fun _ _ _ _=>by kernel_rfl
theorem ZFQ:Zm Tryz.prog 49 (ZBB Z9):=okF (ZEz Zi Zq Y7) Tryz.func49 Zf (Zo _ (.cons Zsy (.cons ZtX (.cons ZFR .nil))) .nil .nil .nil (Zp _))
noncomputable abbrev ZBA (f:Zxb):Ze:=⟨[.one (.P),.one (.I .i64)],[.one (.I .i64)],fun t K _ h=>f t.1 t.2.1 (fun r0 h=>K (r0,()) h) h⟩
noncomputable abbrev ZGU (f75:Zxc):Cfg:=ZG Tryz.prog [(49,ZBB f75)] 9 [] [] [] ZH
theorem ZEy (f75:Zxc):ZJ (ZGU f75) Tryz.f98 (.leaf) (ZBA (Zbl f75)):=fun _ _ _ _=>by kernel_rfl
theorem ZFP:Zm Tryz.prog 98 (ZBA Xq):=okF (ZEy Z9) Tryz.func98 Zf (Zo _ (.cons ZFQ .nil) .nil .nil .nil (Zp _))
noncomputable abbrev ZBz (f:Zxa):Ze:=⟨[.one (.P)],[.one (.I .i64)],fun t K _ h=>f t.1 (fun r0 h=>K (r0,()) h) h⟩
noncomputable abbrev ZGT (f48:Zua):Cfg:=ZG Tryz.prog [(119,Zy7 f48)] 24 [] [] [] ZH
theorem ZEx (f48:Zua):ZJ (ZGT f48) Tryz.f127 (.seq (.leaf) (.seq (.leaf) (.seq (.order (.take 0 (.take 1 (.take 2 (.take 3 (.take 4 (.take 5 (.take 6 (.take 7 (.take 8 (.take 9 (.take 10 (.take 11 (.take 12 .done)))))))))))))) (.seq (.order (.take 0 (.take 1 (.take 2 (.take 3 (.take 4 (.take 5 (.take 6 .done)))))))) (.leaf))))) (ZBz (Zcv f48)):=fun _ _ _ _=>by kernel_rfl
theorem ZFO:Zm Tryz.prog 127 (ZBz X8):=okF (ZEx YQ) Tryz.func127 Zf (Zo _ (.cons ZD0 .nil) .nil .nil .nil (Zp _))
noncomputable abbrev ZBy (f:Zw9):Ze:=⟨[.one (.P),.one (.I .i64),.clo 127 [.P]],[.one (.I .i64)],fun t K _ h=>f t.1 t.2.1 t.2.2.1 (fun r0 h=>K (r0,()) h) h⟩
noncomputable abbrev ZGS (f15:ZgS) (f16:ZhS) (f77:Zxa):Cfg:=ZG Tryz.prog [(33,ZpF f15),(86,Zsu f16),(127,ZBz f77)] 57 [] [] [] ZH
theorem ZEw (f15:ZgS) (f16:ZhS) (f77:Zxa):ZJ (ZGS f15 f16 f77) Tryz.f49 (.seq (.leaf) (.seq (.leaf) (.seq (.leaf) (.seq (.seq (.leaf) (.block (.loop [33] [.one (.I .i64)] [(8,8),(34,54)] (.seq (.leaf) (.seq (.leaf) (.seq (.block (.seq (.leaf) (.seq (.order (.take 0 (.take 1 (.take 2 (.take 3 (.take 5 (.take 8 (.take 9 (.take 10 (.take 11 (.take 4 (.take 12 (.take 6 (.take 7 (.take 13 .done))))))))))))))) (.leaf)))) (.leaf))))))) (.leaf))))) (ZBy (X0 f15 f16 f77)):=fun _ _ _ _=>by kernel_rfl
theorem ZFN:Zm Tryz.prog 49 (ZBy Yr):=okF (ZEw Zi Zq X8) Tryz.func49 Zf (Zo _ (.cons Zsy (.cons ZtX (.cons ZFO .nil))) .nil .nil .nil (Zp _))
noncomputable abbrev ZBx (f:Zw8):Ze:=⟨[.one (.P),.one (.I .i64)],[.one (.I .i64)],fun t K _ h=>f t.1 t.2.1 (fun r0 h=>K (r0,()) h) h⟩
noncomputable abbrev ZGR (f78:Zw9):Cfg:=ZG Tryz.prog [(49,ZBy f78)] 9 [] [] [] ZH
theorem ZEv (f78:Zw9):ZJ (ZGR f78) Tryz.f99 (.leaf) (ZBx (Zdu f78)):=fun _ _ _ _=>by kernel_rfl
theorem ZFM:Zm Tryz.prog 99 (ZBx ZaJ):=okF (ZEv Yr) Tryz.func99 Zf (Zo _ (.cons ZFN .nil) .nil .nil .nil (Zp _))
noncomputable abbrev ZBw (f:Zw7):Ze:=⟨[.one (.P),.agg [.I .u8,.I .i64,.I .i64,.I .i64,.I .i64,.I .u8,.I .i64,.I .i64,.S,.I .i64]],[.agg [.I .i64,.B,.I .i64]],fun t K _ h=>f t.1 t.2.1 (fun r0 h=>K (r0,()) h) h⟩
noncomputable abbrev ZGQ (f52:Zls) (f69:Zxi) (f73:Zxe) (f76:Zxb) (f11:Zui) (f79:Zw8) (f65:ZpI):Cfg:=ZG Tryz.prog [(40,ZuN f52),(96,ZBH f69),(97,ZBD f73),(98,ZBA f76),(48,Zzf f11),(99,ZBx f79),(95,ZwR f65)] 73 [] [] [] ZH
theorem ZEu (f52:Zls) (f69:Zxi) (f73:Zxe) (f76:Zxb) (f11:Zui) (f79:Zw8) (f65:ZpI):ZJ (ZGQ f52 f69 f73 f76 f11 f79 f65) Tryz.f62 (.seq (.leaf) (.seq (.leaf) (.seq (.leaf) (.seq (.seq (.order (.take 0 (.take 1 (.take 2 (.take 4 (.take 5 (.take 6 (.take 3 (.take 7 (.take 8 (.take 9 (.take 10 (.take 11 (.take 12 (.take 13 .done))))))))))))))) (.leaf)) (.seq (.leaf) (.seq (.seq (.leaf) (.cond (.seq (.order (.take 0 (.take 1 (.take 2 (.take 4 (.take 5 (.take 6 (.take 3 (.take 7 (.take 8 .done)))))))))) (.leaf)) (.leaf))) (.seq (.leaf) (.seq (.order (.take 0 (.take 1 (.take 2 (.take 4 (.take 5 (.take 6 (.take 3 (.take 7 (.take 8 .done)))))))))) (.leaf))))))))) (ZBw (Zcr f52 f69 f73 f76 f11 f79 f65)):=fun _ _ _ _=>by kernel_rfl
theorem ZFL:Zm Tryz.prog 62 (ZBw Xw):=okF (ZEu ZP Zaa Y6 Xq ZbP ZaJ Yo) Tryz.func62 Zf (Zo _ (.cons ZwB (.cons ZFW (.cons ZFS (.cons ZFP (.cons ZD8 (.cons ZFM (.cons ZAw .nil))))))) .nil .nil .nil (Zp _))
noncomputable abbrev Zy2 (f:Zt5):Ze:=⟨[.one (.L)],[.one (.L)],fun t K _ h=>f t.1 (fun r0 h=>K (r0,()) h) h⟩
noncomputable abbrev ZGP:Cfg:=ZG Tryz.prog [] 8 [] [] [] ZH
theorem ZEt:ZJ (ZGP) Tryz.f78 (.leaf) (Zy2 ZaO):=fun _ _ _ _=>by kernel_rfl
theorem ZDV:Zm Tryz.prog 78 (Zy2 Yq):=okF (ZEt) Tryz.func78 Zf (Zo _ .nil .nil .nil .nil (Zp _))
noncomputable abbrev ZBv (f:Zw6):Ze:=⟨[.one (.P),.one (.I .i64),.one (.I .i64),.one (.I .i64)],[.one (.I .i64),.one (.I .i64)],fun t K _ h=>f t.1 t.2.1 t.2.2.1 t.2.2.2.1 (fun r0 r1 h=>K (r0,r1,()) h) h⟩
noncomputable abbrev ZGO (f54:ZnY) (f81:Zt5):Cfg:=ZG Tryz.prog [(74,Zwu f54),(78,Zy2 f81)] 62 [] [] [] ZH
theorem ZEs (f54:ZnY) (f81:Zt5):ZJ (ZGO f54 f81) Tryz.f128 (.seq (.leaf) (.seq (.leaf) (.seq (.leaf) (.seq (.leaf) (.seq (.leaf) (.seq (.order (.take 0 (.take 1 (.take 2 (.take 3 (.take 5 (.take 6 (.take 7 (.take 9 (.take 4 (.take 8 (.take 10 (.take 11 (.take 12 (.take 13 (.take 14 .done)))))))))))))))) (.leaf))))))) (ZBv (ZdL f54 f81)):=fun _ _ _ _=>by kernel_rfl
theorem ZFK:Zm Tryz.prog 128 (ZBv Za5):=okF (ZEs YC Yq) Tryz.func128 Zf (Zo _ (.cons ZyU (.cons ZDV .nil)) .nil .nil .nil (Zp _))
noncomputable abbrev ZBu (f:Zw5):Ze:=⟨[.one (.P),.one (.I .i64),.one (.I .i64),.one (.I .i64)],[.one (.L),.one (.B),.one (.I .i64)],fun t K _ h=>f t.1 t.2.1 t.2.2.1 t.2.2.2.1 (fun r0 r1 r2 h=>K (r0,r1,r2,()) h) h⟩
noncomputable abbrev ZGN (f54:ZnY) (f81:Zt5):Cfg:=ZG Tryz.prog [(74,Zwu f54),(78,Zy2 f81)] 78 [] [] [] ZH
theorem ZEr (f54:ZnY) (f81:Zt5):ZJ (ZGN f54 f81) Tryz.f129 (.leaf) (ZBu (ZdK f54 f81)):=fun _ _ _ _=>by kernel_rfl
theorem ZFJ:Zm Tryz.prog 129 (ZBu Za4):=okF (ZEr YC Yq) Tryz.func129 Zf (Zo _ (.cons ZyU (.cons ZDV .nil)) .nil .nil .nil (Zp _))
noncomputable abbrev Zy1 (f:Zt4):Ze:=⟨[.one (.P),.one (.P),.one (.I .i64),.one (.I .i64)],[.one (.L),.one (.I .i64)],fun t K _ h=>f t.1 t.2.1 t.2.2.1 t.2.2.2.1 (fun r0 r1 h=>K (r0,r1,()) h) h⟩
noncomputable abbrev ZGM (f52:Zls) (f82:Zw6) (f83:Zw5):Cfg:=ZG Tryz.prog [(40,ZuN f52),(128,ZBv f82),(129,ZBu f83)] 57 [] [] [] ZH
theorem ZEq (f52:Zls) (f82:Zw6) (f83:Zw5):ZJ (ZGM f52 f82 f83) Tryz.f100 (.seq (.leaf) (.seq (.leaf) (.seq (.order (.take 0 (.take 1 (.take 2 (.take 4 (.take 5 (.take 6 (.take 8 (.take 9 (.take 3 (.take 7 (.take 10 .done)))))))))))) (.seq (.order (.take 0 (.take 1 (.take 2 (.take 4 (.take 5 (.take 6 (.take 8 (.take 9 (.take 3 (.take 7 (.take 10 (.take 11 (.take 12 (.take 13 (.take 14 (.take 15 (.take 16 (.take 17 .done))))))))))))))))))) (.leaf))))) (Zy1 (Zb0 f52 f82 f83)):=fun _ _ _ _=>by kernel_rfl
theorem ZDU:Zm Tryz.prog 100 (Zy1 YP):=okF (ZEq ZP Za5 Za4) Tryz.func100 Zf (Zo _ (.cons ZwB (.cons ZFK (.cons ZFJ .nil))) .nil .nil .nil (Zp _))
noncomputable abbrev ZBt (f:Zw4):Ze:=⟨[.one (.L)],[.one (.L)],fun t K _ h=>f t.1 (fun r0 h=>K (r0,()) h) h⟩
noncomputable abbrev ZGL:Cfg:=ZG Tryz.prog [] 8 [] [] [] ZH
theorem ZEp:ZJ (ZGL) Tryz.f81 (.leaf) (ZBt Zfs):=fun _ _ _ _=>by kernel_rfl
theorem ZFI:Zm Tryz.prog 81 (ZBt Zdk):=okF (ZEp) Tryz.func81 Zf (Zo _ .nil .nil .nil .nil (Zp _))
noncomputable abbrev ZBs (f:Zw3):Ze:=⟨[.one (.L)],[.one (.I .i64),.one (.B)],fun t K _ h=>f t.1 (fun r0 r1 h=>K (r0,r1,()) h) h⟩
noncomputable abbrev ZGK:Cfg:=ZG Tryz.prog [] 44 [] [] [] ZH
theorem ZEo:ZJ (ZGK) Tryz.f130 (.seq (.leaf) (.seq (.leaf) (.seq (.seq (.leaf) (.block (.loop [4,13] [.one (.I .i64),.one (.I .i64)] [(6,6),(14,22)] (.leaf)))) (.cut [] [] [(2,3),(23,36)] (.leaf) (.leaf))))) (ZBs ZeO):=fun _ _ _ _=>by kernel_rfl
theorem ZFH:Zm Tryz.prog 130 (ZBs ZcG):=okF (ZEo) Tryz.func130 Zf (Zo _ .nil .nil .nil .nil (Zp _))
noncomputable abbrev Zy0 (f:Zt3):Ze:=⟨[.one (.P),.one (.L)],[.one (.L),.one (.I .i64)],fun t K _ h=>f t.1 t.2.1 (fun r0 r1 h=>K (r0,r1,()) h) h⟩
noncomputable abbrev ZGJ (f85:Zw4) (f86:Zw3):Cfg:=ZG Tryz.prog [(81,ZBt f85),(130,ZBs f86)] 64 [] [] [] ZH
theorem ZEn (f85:Zw4) (f86:Zw3):ZJ (ZGJ f85 f86) Tryz.f101 (.seq (.leaf) (.seq (.leaf) (.seq (.leaf) (.seq (.leaf) (.cut [6,7] [.one (.L),.one (.L)] [(4,5),(8,9),(25,58)] (.block (.loop [6,7] [.one (.L),.one (.L)] [(4,5),(8,9),(25,58)] (.leaf))) (.leaf)))))) (Zy0 (Zdt f85 f86)):=fun _ _ _ _=>by kernel_rfl
theorem ZDT:Zm Tryz.prog 101 (Zy0 Y3):=okF (ZEn Zdk ZcG) Tryz.func101 Zf (Zo _ (.cons ZFI (.cons ZFH .nil)) .nil .nil .nil (Zp _))
noncomputable abbrev ZyZ (f:Zt2):Ze:=⟨[.one (.P),.one (.I .i64)],[.one (.L)],fun t K _ h=>f t.1 t.2.1 (fun r0 h=>K (r0,()) h) h⟩
noncomputable abbrev ZGI:Cfg:=ZG Tryz.prog [] 53 [] [] [] ZH
theorem ZEm:ZJ (ZGI) Tryz.f151 (.seq (.leaf) (.cut [] [] [(4,29)] (.seq (.order (.take 0 (.take 1 (.take 2 (.take 3 (.take 4 (.take 5 (.take 6 (.take 7 (.take 8 (.take 11 (.take 12 (.take 13 (.take 16 (.take 9 (.take 10 (.take 14 (.take 15 (.take 17 (.take 18 (.take 19 (.take 20 (.take 21 .done))))))))))))))))))))))) (.leaf)) (.leaf))) (ZyZ ZcZ):=fun _ _ _ _=>by kernel_rfl
theorem ZDS:Zm Tryz.prog 151 (ZyZ Xc):=okF (ZEm) Tryz.func151 Zf (Zo _ .nil .nil .nil .nil (Zp _))
noncomputable abbrev ZyY (f:Zt1):Ze:=⟨[.one (.P),.one (.I .i64)],[.one (.I .i64)],fun t K _ h=>f t.1 t.2.1 (fun r0 h=>K (r0,()) h) h⟩
noncomputable abbrev ZGH (f88:Zt2):Cfg:=ZG Tryz.prog [(151,ZyZ f88)] 24 [] [] [] ZH
theorem ZEl (f88:Zt2):ZJ (ZGH f88) Tryz.f150 (.seq (.leaf) (.seq (.leaf) (.seq (.seq (.leaf) (.block (.loop [5,12] [.one (.I .u64),.one (.I .i64)] [(7,7),(13,21)] (.leaf)))) (.leaf)))) (ZyY (ZbW f88)):=fun _ _ _ _=>by kernel_rfl
theorem ZDR:Zm Tryz.prog 150 (ZyY Yn):=okF (ZEl Xc) Tryz.func150 Zf (Zo _ (.cons ZDS .nil) .nil .nil .nil (Zp _))
noncomputable abbrev ZyX (f:Zt0):Ze:=⟨[.one (.P),.one (.B)],[.one (.I .i64),.one (.I .i64)],fun t K _ h=>f t.1 t.2.1 (fun r0 r1 h=>K (r0,r1,()) h) h⟩
noncomputable abbrev ZGG:Cfg:=ZG Tryz.prog [] 34 [] [] [] ZH
theorem ZEk:ZJ (ZGG) Tryz.f152 (.leaf) (ZyX Zcm):=fun _ _ _ _=>by kernel_rfl
theorem ZDQ:Zm Tryz.prog 152 (ZyX YZ):=okF (ZEk) Tryz.func152 Zf (Zo _ .nil .nil .nil .nil (Zp _))
noncomputable abbrev ZBr (f:Zw2):Ze:=⟨[.one (.L)],[.agg [.I .i64,.I .u8,.I .i64,.I .i64,.S,.I .i64],.one (.I .i64),.one (.I .i64)],fun t K _ h=>f t.1 (fun r0 r1 r2 h=>K (r0,r1,r2,()) h) h⟩
noncomputable abbrev ZGF (f89:Zt1) (f88:Zt2) (f10:ZlF) (f90:Zt0):Cfg:=ZG Tryz.prog [(150,ZyY f89),(151,ZyZ f88),(47,ZvB f10),(152,ZyX f90)] 60 [] [] [] ZH
theorem ZEj (f89:Zt1) (f88:Zt2) (f10:ZlF) (f90:Zt0):ZJ (ZGF f89 f88 f10 f90) Tryz.f131 (.seq (.leaf) (.seq (.leaf) (.cut [6] [.one (.P)] [(13,34)] (.order (.take 0 (.take 1 (.take 2 (.take 5 (.take 6 (.take 7 (.take 9 (.take 10 (.take 11 (.take 13 (.take 14 (.take 15 (.take 17 (.take 18 (.take 19 (.fork 3 (.take 4 (.fork 8 (.fork 12 (.fork 16 (.fork 20 (.take 21 (.take 22 (.take 23 .done))) 22 (.take 20 (.take 21 (.take 23 .done)))) 22 (.take 16 (.take 20 (.take 21 (.take 23 .done))))) 22 (.take 12 (.take 16 (.take 20 (.take 21 (.take 23 .done)))))) 22 (.take 8 (.take 12 (.take 16 (.take 20 (.take 21 (.take 23 .done)))))))) 22 (.take 3 (.take 4 (.take 8 (.take 12 (.take 16 (.take 20 (.take 21 (.take 23 .done))))))))))))))))))))))))) (.seq (.order (.take 0 (.take 1 (.take 2 (.take 3 (.take 4 (.take 5 (.take 6 (.take 7 (.take 8 (.take 9 (.take 10 .done)))))))))))) (.seq (.seq (.order (.take 0 (.take 1 (.take 2 (.take 3 (.take 4 (.take 5 (.take 6 (.take 7 (.take 8 (.take 9 (.take 10 .done)))))))))))) (.leaf)) (.leaf)))))) (ZBr (Zc1 f89 f88 f10 f90)):=fun _ _ _ _=>by kernel_rfl
theorem ZFG:Zm Tryz.prog 131 (ZBr Zat):=okF (ZEj Yn Xc YW YZ) Tryz.func131 Zf (Zo _ (.cons ZDR (.cons ZDS (.cons ZwP (.cons ZDQ .nil)))) .nil .nil .nil (Zp _))
noncomputable abbrev ZyW (f:ZtZ):Ze:=⟨[.one (.P),.one (.I .i64)],[.one (.I .i64)],fun t K _ h=>f t.1 t.2.1 (fun r0 h=>K (r0,()) h) h⟩
noncomputable abbrev ZGE (f0:zT0):Cfg:=ZG Tryz.prog [(45,zk0 f0)] 19 [] [] [] ZH
theorem ZEi (f0:zT0):ZJ (ZGE f0) Tryz.f72 (.leaf) (ZyW (ZcS f0)):=fun _ _ _ _=>by kernel_rfl
theorem ZDP:Zm Tryz.prog 72 (ZyW Xa):=okF (ZEi ZaL) Tryz.func72 Zf (Zo _ (.cons zo0 .nil) .nil .nil .nil (Zp _))
noncomputable abbrev ZBq (f:Zw1):Ze:=⟨[.one (.L)],[.one (.L)],fun t K _ h=>f t.1 (fun r0 h=>K (r0,()) h) h⟩
noncomputable abbrev ZGD:Cfg:=ZG Tryz.prog [] 8 [] [] [] ZH
theorem ZEh:ZJ (ZGD) Tryz.f76 (.leaf) (ZBq YT):=fun _ _ _ _=>by kernel_rfl
theorem ZFF:Zm Tryz.prog 76 (ZBq Z6):=okF (ZEh) Tryz.func76 Zf (Zo _ .nil .nil .nil .nil (Zp _))
noncomputable abbrev ZyV (f:ZtY):Ze:=⟨[.agg [.I .i64,.I .i64,.I .i64,.I .i64],.one (.P)],[.one (.B)],fun t K _ h=>f t.1 t.2.1 (fun r0 h=>K (r0,()) h) h⟩
noncomputable abbrev ZGC:Cfg:=ZG Tryz.prog [] 8 [] [] [] ZH
theorem ZEg:ZJ (ZGC) Tryz.f169 (.leaf) (ZyV Zby):=fun _ _ _ _=>by kernel_rfl
theorem ZDO:Zm Tryz.prog 169 (ZyV Yd):=okF (ZEg) Tryz.func169 Zf (Zo _ .nil .nil .nil .nil (Zp _))
noncomputable abbrev ZBp (f:Zw0):Ze:=⟨[.one (.L),.clo 169 [.P]],[.one (.I .i64)],fun t K _ h=>f t.1 t.2.1 (fun r0 h=>K (r0,()) h) h⟩
noncomputable abbrev ZGB (f94:ZtY):Cfg:=ZG Tryz.prog [(169,ZyV f94)] 19 [] [] [] ZH
theorem ZEf (f94:ZtY):ZJ (ZGB f94) Tryz.f144 (.seq (.leaf) (.seq (.seq (.leaf) (.block (.loop [8] [.one (.I .i64)] [(4,5),(9,18)] (.leaf)))) (.leaf))) (ZBp (Z0 f94)):=fun _ _ _ _=>by kernel_rfl
theorem ZFE:Zm Tryz.prog 144 (ZBp ZC):=okF (ZEf Yd) Tryz.func144 Zf (Zo _ (.cons ZDO .nil) .nil .nil .nil (Zp _))
noncomputable abbrev ZBo (f:ZwZ):Ze:=⟨[.one (.L),.clo 169 [.P]],[.one (.L)],fun t K _ h=>f t.1 t.2.1 (fun r0 h=>K (r0,()) h) h⟩
noncomputable abbrev ZGA (f95:Zw0) (f94:ZtY):Cfg:=ZG Tryz.prog [(144,ZBp f95),(169,ZyV f94)] 42 [] [] [] ZH
theorem ZEe (f95:Zw0) (f94:ZtY):ZJ (ZGA f95 f94) Tryz.f168 (.seq (.leaf) (.seq (.leaf) (.seq (.leaf) (.seq (.seq (.leaf) (.block (.loop [5,6] [.one (.I .i64),.one (.I .i64)] [(7,7),(16,35)] (.leaf)))) (.leaf))))) (ZBo (ZX f95 f94)):=fun _ _ _ _=>by kernel_rfl
theorem ZFD:Zm Tryz.prog 168 (ZBo ZB):=okF (ZEe ZC Yd) Tryz.func168 Zf (Zo _ (.cons ZFE (.cons ZDO .nil)) .nil .nil .nil (Zp _))
noncomputable abbrev ZwQ (f:ZpH):Ze:=⟨[.one (.P),.one (.I .i64)],[.one (.L)],fun t K _ h=>f t.1 t.2.1 (fun r0 h=>K (r0,()) h) h⟩
noncomputable abbrev ZGz (f93:Zw1) (f96:ZwZ):Cfg:=ZG Tryz.prog [(76,ZBq f93),(168,ZBo f96)] 12 [] [] [] ZH
theorem ZEd (f93:Zw1) (f96:ZwZ):ZJ (ZGz f93 f96) Tryz.f143 (.leaf) (ZwQ (Zch f93 f96)):=fun _ _ _ _=>by kernel_rfl
theorem ZAv:Zm Tryz.prog 143 (ZwQ Yv):=okF (ZEd Z6 ZB) Tryz.func143 Zf (Zo _ (.cons ZFF (.cons ZFD .nil)) .nil .nil .nil (Zp _))
noncomputable abbrev ZBn (f:ZwY):Ze:=⟨[.agg [.I .i64,.I .i64,.I .i64,.I .i64],.one (.P)],[.one (.B)],fun t K _ h=>f t.1 t.2.1 (fun r0 h=>K (r0,()) h) h⟩
noncomputable abbrev ZGy:Cfg:=ZG Tryz.prog [] 8 [] [] [] ZH
theorem ZEc:ZJ (ZGy) Tryz.f145 (.leaf) (ZBn ZaN):=fun _ _ _ _=>by kernel_rfl
theorem ZFC:Zm Tryz.prog 145 (ZBn Y5):=okF (ZEc) Tryz.func145 Zf (Zo _ .nil .nil .nil .nil (Zp _))
noncomputable abbrev ZBm (f:ZwX):Ze:=⟨[.one (.L),.clo 145 [.P]],[.one (.I .i64)],fun t K _ h=>f t.1 t.2.1 (fun r0 h=>K (r0,()) h) h⟩
noncomputable abbrev ZGx (f98:ZwY):Cfg:=ZG Tryz.prog [(145,ZBn f98)] 19 [] [] [] ZH
theorem ZEb (f98:ZwY):ZJ (ZGx f98) Tryz.f144 (.seq (.leaf) (.seq (.seq (.leaf) (.block (.loop [8] [.one (.I .i64)] [(4,5),(9,18)] (.leaf)))) (.leaf))) (ZBm (ZU f98)):=fun _ _ _ _=>by kernel_rfl
theorem ZFB:Zm Tryz.prog 144 (ZBm Zz):=okF (ZEb Y5) Tryz.func144 Zf (Zo _ (.cons ZFC .nil) .nil .nil .nil (Zp _))
noncomputable abbrev ZsK (f:ZlE):Ze:=⟨[.one (.P),.one (.S),.one (.I .i64)],[.agg [.I .i64,.I .i64,.I .i64,.I .i64],.one (.B)],fun t K _ h=>f t.1 t.2.1 t.2.2.1 (fun r0 r1 h=>K (r0,r1,()) h) h⟩
noncomputable abbrev ZDj:Cfg:=ZG Tryz.prog [] 46 [] [] [] ZH
theorem ZAu:ZJ (ZDj) Tryz.f112 (.seq (.leaf) (.seq (.seq (.leaf) (.block (.loop [17] [.one (.I .i64)] [(7,7),(9,9),(11,11),(18,44)] (.seq (.leaf) (.seq (.leaf) (.seq (.block (.seq (.leaf) (.seq (.leaf) (.block (.loop [24] [.one (.I .i64)] [(7,7),(11,11),(25,43)] (.leaf)))))) (.leaf))))))) (.leaf))) (ZsK ZcU):=fun _ _ _ _=>by kernel_rfl
theorem ZwO:Zm Tryz.prog 112 (ZsK Xb):=okF (ZAu) Tryz.func112 Zf (Zo _ .nil .nil .nil .nil (Zp _))
noncomputable abbrev ZvA (f:Zqx):Ze:=⟨[.one (.L),.one (.I .i64),.one (.I .i64)],[.one (.L)],fun t K _ h=>f t.1 t.2.1 t.2.2.1 (fun r0 h=>K (r0,()) h) h⟩
noncomputable abbrev ZDi:Cfg:=ZG Tryz.prog [] 33 [] [] [] ZH
theorem ZAt:ZJ (ZDi) Tryz.f146 (.seq (.leaf) (.seq (.leaf) (.seq (.leaf) (.seq (.leaf) (.seq (.order (.take 0 (.take 1 (.take 2 (.take 3 (.take 4 (.take 5 (.take 6 (.take 7 .done))))))))) (.leaf)))))) (ZvA YJ):=fun _ _ _ _=>by kernel_rfl
theorem ZBl:Zm Tryz.prog 146 (ZvA Z5):=okF (ZAt) Tryz.func146 Zf (Zo _ .nil .nil .nil .nil (Zp _))
noncomputable abbrev Zvz (f:Zqw):Ze:=⟨[.one (.P),.one (.I .i64),.one (.S),.one (.I .i64)],[.one (.I .u8)],fun t K _ h=>f t.1 t.2.1 t.2.2.1 t.2.2.2.1 (fun r0 h=>K (r0,()) h) h⟩
noncomputable abbrev ZDh (f97:ZpH) (f99:ZwX) (f100:ZlE) (f101:Zqx):Cfg:=ZG Tryz.prog [(143,ZwQ f97),(144,ZBm f99),(112,ZsK f100),(146,ZvA f101)] 42 [] [] [] ZH
theorem ZAs (f97:ZpH) (f99:ZwX) (f100:ZlE) (f101:Zqx):ZJ (ZDh f97 f99 f100 f101) Tryz.f111 (.leaf) (Zvz (Zbj f97 f99 f100 f101)):=fun _ _ _ _=>by kernel_rfl
theorem ZBk:Zm Tryz.prog 111 (Zvz Xm):=okF (ZAs Yv Zz Xb Z5) Tryz.func111 Zf (Zo _ (.cons ZAv (.cons ZFB (.cons ZwO (.cons ZBl .nil)))) .nil .nil .nil (Zp _))
noncomputable abbrev Zvy (f:Zqv):Ze:=⟨[.one (.P),.one (.I .i64),.agg [.I .i64,.I .i64,.I .i64,.I .i64]],[.one (.B)],fun t K _ h=>f t.1 t.2.1 t.2.2.1 (fun r0 h=>K (r0,()) h) h⟩
noncomputable abbrev ZDg:Cfg:=ZG Tryz.prog [] 17 [] [] [] ZH
theorem ZAr:ZJ (ZDg) Tryz.f113 (.leaf) (Zvy Zbx):=fun _ _ _ _=>by kernel_rfl
theorem ZBj:Zm Tryz.prog 113 (Zvy XA):=okF (ZAr) Tryz.func113 Zf (Zo _ .nil .nil .nil .nil (Zp _))
noncomputable abbrev ZsJ (f:ZlD):Ze:=⟨[.one (.P),.one (.I .i64)],[.one (.I .i64)],fun t K _ h=>f t.1 t.2.1 (fun r0 h=>K (r0,()) h) h⟩
noncomputable abbrev ZDf:Cfg:=ZG Tryz.prog [] 22 [] [] [] ZH
theorem ZAq:ZJ (ZDf) Tryz.f204 (.leaf) (ZsJ ZbQ):=fun _ _ _ _=>by kernel_rfl
theorem ZwN:Zm Tryz.prog 204 (ZsJ YN):=okF (ZAq) Tryz.func204 Zf (Zo _ .nil .nil .nil .nil (Zp _))
noncomputable abbrev Zvx (f:Zqu):Ze:=⟨[.one (.P),.one (.I .i64)],[.clo 210 [.P,.P]],fun t K _ h=>f t.1 t.2.1 (fun r0 h=>K (r0,()) h) h⟩
noncomputable abbrev ZDe:Cfg:=ZG Tryz.prog [] 6 [] [] [] ZH
theorem ZAp:ZJ (ZDe) Tryz.f208 (.leaf) (Zvx Zdm):=fun _ _ _ _=>by kernel_rfl
theorem ZBi:Zm Tryz.prog 208 (Zvx ZaD):=okF (ZAp) Tryz.func208 Zf (Zo _ .nil .nil .nil .nil (Zp _))
noncomputable abbrev ZpG (f:ZmU):Ze:=⟨[.one (.P),.one (.I .i64)],[.one (.I .i64)],fun t K _ h=>f t.1 t.2.1 (fun r0 h=>K (r0,()) h) h⟩
noncomputable abbrev ZDd:Cfg:=ZG Tryz.prog [] 16 [] [] [] ZH
theorem ZAo:ZJ (ZDd) Tryz.f206 (.leaf) (ZpG Zbv):=fun _ _ _ _=>by kernel_rfl
theorem ZwM:Zm Tryz.prog 206 (ZpG Ys):=okF (ZAo) Tryz.func206 Zf (Zo _ .nil .nil .nil .nil (Zp _))
abbrev ZwW:List VT:=[.yl,.one (.P),.one (.P)]
abbrev ZwV:List VT:=[]
noncomputable abbrev ZwU (f:Zqt):Zca:=⟨[.one (.P),.one (.P)],fun Y l t K h=>f Y l t.1 t.2.1 K h⟩
noncomputable def ZDc (Y:Yld):Cfg:=ZG Tryz.prog [(206,(ZpG Ys))] 52 [] [] [] Y
theorem ZAn (f106:ZmU) (Y:Yld) (t:Zai ZwW) (K:Zai ZwV→HP) (Kp:Value→HP) (h:Zb):ZyE (ZG Tryz.prog [(206,ZpG f106)] 52 [] [] [] Y) Tryz.f210 (.seq (.leaf) (.seq (.leaf) (.block (.loop [5] [.one (.I .i64)] [(6,7),(19,51)] (.seq (.leaf) (.seq (.block (.seq (.leaf) (.seq (.order (.take 0 (.take 1 (.take 2 (.take 3 (.take 4 (.take 5 (.take 6 (.take 7 (.take 8 (.take 9 (.take 10 (.take 11 (.take 12 (.take 13 (.take 14 (.take 15 (.take 16 (.take 17 (.take 18 .done)))))))))))))))))))) (.leaf)))) (.leaf))))))) (Zai.evs ZwW t) ZwV K Kp h=Zcd f106 Y t.1 t.2.1 t.2.2.1 (fun h=>K (()) h) h:=by kernel_rfl
theorem ZBh:ZoC Tryz.prog 210 (ZwU X2):=fun Y hY=>Zye (c:=ZDc Y) Tryz.func210 (by kernel_rfl) (by kernel_rfl) rfl (Nat.le_of_ble_eq_true rfl) (Zo _ (.cons ZwM .nil) .nil .nil .nil hY) Zf (ZAn Ys Y)
noncomputable abbrev Zvw (f:Zqs):Ze:=⟨[.one (.I .i64),.one (.I .i64)],[.one (.I .i64)],fun t K _ h=>f t.1 t.2.1 (fun r0 h=>K (r0,()) h) h⟩
noncomputable abbrev ZDb:Cfg:=ZG Tryz.prog [] 11 [] [] [] ZH
theorem ZAm:ZJ (ZDb) Tryz.f211 (.leaf) (Zvw Zg9):=fun _ _ _ _=>by kernel_rfl
theorem ZBg:Zm Tryz.prog 211 (Zvw Zd9):=okF (ZAm) Tryz.func211 Zf (Zo _ .nil .nil .nil .nil (Zp _))
noncomputable abbrev ZsI (f:ZlC):Ze:=⟨[.agg [.I .i64,.I .i64,.I .i64,.I .i64,.I .i64,.I .i64],.agg [.I .i64,.I .i64,.I .i64,.I .i64,.I .i64,.I .i64]],[.agg [.I .i64,.I .i64,.I .i64,.I .i64,.I .i64,.I .i64]],fun t K _ h=>f t.1 t.2.1 (fun r0 h=>K (r0,()) h) h⟩
noncomputable abbrev ZDa (f108:Zqs):Cfg:=ZG Tryz.prog [(211,Zvw f108)] 53 [] [] [] ZH
theorem ZAl (f108:Zqs):ZJ (ZDa f108) Tryz.f209 (.seq (.leaf) (.cut [5] [.one (.P)] [(6,31)] (.order (.take 0 (.take 2 (.take 5 (.take 7 (.take 10 (.take 12 (.take 15 (.take 17 (.take 20 (.take 22 (.take 1 (.take 3 (.take 6 (.take 8 (.take 11 (.take 13 (.take 16 (.take 18 (.take 21 (.take 23 (.fork 4 (.fork 9 (.fork 14 (.fork 19 (.fork 24 (.take 25 (.take 26 (.take 27 .done))) 26 (.take 24 (.take 25 (.take 27 .done)))) 26 (.take 19 (.take 24 (.take 25 (.take 27 .done))))) 26 (.take 14 (.take 19 (.take 24 (.take 25 (.take 27 .done)))))) 26 (.take 9 (.take 14 (.take 19 (.take 24 (.take 25 (.take 27 .done))))))) 26 (.take 4 (.take 9 (.take 14 (.take 19 (.take 24 (.take 25 (.take 27 .done))))))))))))))))))))))))))))) (.leaf))) (ZsI (ZfU f108)):=fun _ _ _ _=>by kernel_rfl
theorem ZwL:Zm Tryz.prog 209 (ZsI ZbM):=okF (ZAl Zd9) Tryz.func209 Zf (Zo _ (.cons ZBg .nil) .nil .nil .nil (Zp _))
noncomputable abbrev Zvv (f:Zqr):Ze:=⟨[.one (.P),.one (.I .i64)],[.agg [.I .i64,.I .i64,.I .i64,.I .i64,.I .i64,.I .i64],.one (.I .i64)],fun t K _ h=>f t.1 t.2.1 (fun r0 r1 h=>K (r0,r1,()) h) h⟩
noncomputable abbrev ZC9 (f104:ZlD) (f105:Zqu) (f109:ZlC) (f107:Zqt):Cfg:=ZG Tryz.prog [(204,ZsJ f104),(208,Zvx f105),(209,ZsI f109)] 25 [] [] [(210,ZwU f107)] ZH
theorem ZAk (f104:ZlD) (f105:Zqu) (f109:ZlC) (f107:Zqt):ZJ (ZC9 f104 f105 f109 f107) Tryz.f202 (.seq (.leaf) (.seq (.leaf) (.seq (.leaf) (.seq (.seq (.leaf) (.block (.range [.agg [.I .i64,.I .i64,.I .i64,.I .i64,.I .i64,.I .i64,.I .i64]] (.leaf) (.leaf)))) (.leaf))))) (Zvv (ZcN f104 f105 f109 f107)):=fun _ _ _ _=>by kernel_rfl
theorem ZBf:Zm Tryz.prog 202 (Zvv Zam):=okF (ZAk YN ZaD ZbM X2) Tryz.func202 Zf (Zo _ (.cons ZwN (.cons ZBi (.cons ZwL .nil))) .nil .nil (.cons ZBh .nil) (Zp _))
noncomputable abbrev Zvu (f:Zqq):Ze:=⟨[.agg [.P],.one (.I .i64),.one (.S)],[.one (.I .i64)],fun t K _ h=>f t.1 t.2.1 t.2.2.1 (fun r0 h=>K (r0,()) h) h⟩
noncomputable abbrev ZC8 (f110:Zqr):Cfg:=ZG Tryz.prog [(202,Zvv f110)] 18 [] [] [] ZH
theorem ZAj (f110:Zqr):ZJ (ZC8 f110) Tryz.f199 (.leaf) (Zvu (ZdG f110)):=fun _ _ _ _=>by kernel_rfl
theorem ZBe:Zm Tryz.prog 199 (Zvu Za0):=okF (ZAj Zam) Tryz.func199 Zf (Zo _ (.cons ZBf .nil) .nil .nil .nil (Zp _))
noncomputable abbrev ZsH (f:ZlB):Ze:=⟨[.one (.P),.one (.I .i64)],[.one (.I .i64)],fun t K _ h=>f t.1 t.2.1 (fun r0 h=>K (r0,()) h) h⟩
noncomputable abbrev ZC7:Cfg:=ZG Tryz.prog [] 22 [] [] [] ZH
theorem ZAi:ZJ (ZC7) Tryz.f219 (.leaf) (ZsH Zcl):=fun _ _ _ _=>by kernel_rfl
theorem ZwK:Zm Tryz.prog 219 (ZsH YY):=okF (ZAi) Tryz.func219 Zf (Zo _ .nil .nil .nil .nil (Zp _))
noncomputable abbrev Zvt (f:Zqp):Ze:=⟨[.one (.S)],[.one (.I .u64)],fun t K _ h=>f t.1 (fun r0 h=>K (r0,()) h) h⟩
noncomputable abbrev ZC6:Cfg:=ZG Tryz.prog [] 19 [] [] [] ZH
theorem ZAh:ZJ (ZC6) Tryz.f228 (.seq (.leaf) (.seq (.leaf) (.seq (.seq (.leaf) (.block (.loop [3,7] [.one (.I .u64),.one (.I .i64)] [(4,4),(8,17)] (.leaf)))) (.leaf)))) (Zvt Zfo):=fun _ _ _ _=>by kernel_rfl
theorem ZBd:Zm Tryz.prog 228 (Zvt Zdj):=okF (ZAh) Tryz.func228 Zf (Zo _ .nil .nil .nil .nil (Zp _))
noncomputable abbrev Zvs (f:Zqo):Ze:=⟨[.one (.I .u64)],[.one (.I .u64)],fun t K _ h=>f t.1 (fun r0 h=>K (r0,()) h) h⟩
noncomputable abbrev ZC5:Cfg:=ZG Tryz.prog [] 17 [] [] [] ZH
theorem ZAg:ZJ (ZC5) Tryz.f227 (.leaf) (Zvs ZgC):=fun _ _ _ _=>by kernel_rfl
theorem ZBc:Zm Tryz.prog 227 (Zvs Zej):=okF (ZAg) Tryz.func227 Zf (Zo _ .nil .nil .nil .nil (Zp _))
noncomputable abbrev ZsG (f:ZlA):Ze:=⟨[.agg [.I .i64,.I .i64,.I .i64,.I .i64,.I .u64],.one (.I .i64),.one (.S)],[.one (.I .i64)],fun t K _ h=>f t.1 t.2.1 t.2.2.1 (fun r0 h=>K (r0,()) h) h⟩
noncomputable abbrev ZC4 (f113:Zqp) (f114:Zqo):Cfg:=ZG Tryz.prog [(228,Zvt f113),(227,Zvs f114)] 23 [] [] [] ZH
theorem ZAf (f113:Zqp) (f114:Zqo):ZJ (ZC4 f113 f114) Tryz.f224 (.leaf) (ZsG (ZbU f113 f114)):=fun _ _ _ _=>by kernel_rfl
theorem ZwJ:Zm Tryz.prog 224 (ZsG YA):=okF (ZAf Zdj Zej) Tryz.func224 Zf (Zo _ (.cons ZBd (.cons ZBc .nil)) .nil .nil .nil (Zp _))
noncomputable abbrev ZsF (f:Zlz):Ze:=⟨[.agg [.I .i64,.I .i64,.I .i64,.I .i64,.I .u64],.one (.I .i64)],[.one (.I .i64)],fun t K _ h=>f t.1 t.2.1 (fun r0 h=>K (r0,()) h) h⟩
noncomputable abbrev ZC3:Cfg:=ZG Tryz.prog [] 14 [] [] [] ZH
theorem ZAe:ZJ (ZC3) Tryz.f220 (.leaf) (ZsF Zck):=fun _ _ _ _=>by kernel_rfl
theorem ZwI:Zm Tryz.prog 220 (ZsF YX):=okF (ZAe) Tryz.func220 Zf (Zo _ .nil .nil .nil .nil (Zp _))
noncomputable abbrev Zvr (f:Zqn):Ze:=⟨[.agg [.I .i64,.I .i64,.M],.one (.P)],[.one (.I .i64)],fun t K _ h=>f t.1 t.2.1 (fun r0 h=>K (r0,()) h) h⟩
noncomputable abbrev ZC2:Cfg:=ZG Tryz.prog [] 8 [] [] [] ZH
theorem ZAd:ZJ (ZC2) Tryz.f230 (.leaf) (Zvr ZaA):=fun _ _ _ _=>by kernel_rfl
theorem ZBb:Zm Tryz.prog 230 (Zvr Xy):=okF (ZAd) Tryz.func230 Zf (Zo _ .nil .nil .nil .nil (Zp _))
noncomputable abbrev ZsE (f:Zly):Ze:=⟨[.one (.I .i64),.one (.I .i64)],[.one (.I .i64)],fun t K _ h=>f t.1 t.2.1 (fun r0 h=>K (r0,()) h) h⟩
noncomputable abbrev ZC1:Cfg:=ZG Tryz.prog [] 12 [] [] [] ZH
theorem ZAc:ZJ (ZC1) Tryz.f223 (.leaf) (ZsE Zfn):=fun _ _ _ _=>by kernel_rfl
theorem ZwH:Zm Tryz.prog 223 (ZsE Zad):=okF (ZAc) Tryz.func223 Zf (Zo _ .nil .nil .nil .nil (Zp _))
noncomputable abbrev Zvq (f:Zqm):Ze:=⟨[.one (.P),.one (.I .i64),.clo 230 [.P]],[.one (.I .i64)],fun t K _ h=>f t.1 t.2.1 t.2.2.1 (fun r0 h=>K (r0,()) h) h⟩
noncomputable abbrev ZC0 (f116:Zlz) (f117:Zqn) (f118:Zly):Cfg:=ZG Tryz.prog [(220,ZsF f116),(230,Zvr f117),(223,ZsE f118)] 41 [] [] [] ZH
theorem ZAb (f116:Zlz) (f117:Zqn) (f118:Zly):ZJ (ZC0 f116 f117 f118) Tryz.f229 (.seq (.leaf) (.seq (.leaf) (.seq (.seq (.leaf) (.block (.loop [7,15] [.one (.I .i64),.one (.I .i64)] [(9,9),(16,39)] (.seq (.leaf) (.seq (.leaf) (.seq (.block (.seq (.leaf) (.seq (.order (.take 0 (.take 2 (.take 3 (.take 4 (.take 6 (.take 8 (.take 9 (.take 10 (.take 11 (.take 1 (.take 5 (.take 12 (.take 7 (.take 13 (.take 14 .done)))))))))))))))) (.leaf)))) (.leaf))))))) (.leaf)))) (Zvq (Yy f116 f117 f118)):=fun _ _ _ _=>by kernel_rfl
theorem ZBa:Zm Tryz.prog 229 (Zvq ZW):=okF (ZAb YX Xy Zad) Tryz.func229 Zf (Zo _ (.cons ZwI (.cons ZBb (.cons ZwH .nil))) .nil .nil .nil (Zp _))
noncomputable abbrev Zvp (f:Zql):Ze:=⟨[.one (.P),.one (.I .i64),.one (.S)],[.one (.I .i64)],fun t K _ h=>f t.1 t.2.1 t.2.2.1 (fun r0 h=>K (r0,()) h) h⟩
noncomputable abbrev ZCZ (f115:ZlA) (f119:Zqm):Cfg:=ZG Tryz.prog [(224,ZsG f115),(229,Zvq f119)] 35 [] [] [] ZH
theorem ZAa (f115:ZlA) (f119:Zqm):ZJ (ZCZ f115 f119) Tryz.f225 (.seq (.leaf) (.seq (.leaf) (.seq (.seq (.leaf) (.block (.loop [7,15] [.one (.I .i64),.one (.I .i64)] [(8,9),(16,33)] (.leaf)))) (.leaf)))) (Zvp (Za7 f115 f119)):=fun _ _ _ _=>by kernel_rfl
theorem ZA9:Zm Tryz.prog 225 (Zvp Xe):=okF (ZAa YA ZW) Tryz.func225 Zf (Zo _ (.cons ZwJ (.cons ZBa .nil)) .nil .nil .nil (Zp _))
noncomputable abbrev Zvo (f:Zqk):Ze:=⟨[.one (.P),.one (.I .i64),.one (.S)],[.one (.I .i64),.one (.I .i64)],fun t K _ h=>f t.1 t.2.1 t.2.2.1 (fun r0 r1 h=>K (r0,r1,()) h) h⟩
noncomputable abbrev ZCY (f112:ZlB) (f120:Zql):Cfg:=ZG Tryz.prog [(219,ZsH f112),(225,Zvp f120)] 19 [] [] [] ZH
theorem Zz9 (f112:ZlB) (f120:Zql):ZJ (ZCY f112 f120) Tryz.f218 (.leaf) (Zvo (Za8 f112 f120)):=fun _ _ _ _=>by kernel_rfl
theorem ZA8:Zm Tryz.prog 218 (Zvo XY):=okF (Zz9 YY Xe) Tryz.func218 Zf (Zo _ (.cons ZwK (.cons ZA9 .nil)) .nil .nil .nil (Zp _))
noncomputable abbrev Zvn (f:Zqj):Ze:=⟨[.agg [.P],.one (.I .i64),.one (.S)],[.one (.I .i64)],fun t K _ h=>f t.1 t.2.1 t.2.2.1 (fun r0 h=>K (r0,()) h) h⟩
noncomputable abbrev ZCX (f121:Zqk):Cfg:=ZG Tryz.prog [(218,Zvo f121)] 18 [] [] [] ZH
theorem Zz8 (f121:Zqk):ZJ (ZCX f121) Tryz.f215 (.leaf) (Zvn (Zdn f121)):=fun _ _ _ _=>by kernel_rfl
theorem ZA7:Zm Tryz.prog 215 (Zvn ZaE):=okF (Zz8 XY) Tryz.func215 Zf (Zo _ (.cons ZA8 .nil) .nil .nil .nil (Zp _))
noncomputable abbrev Zvm (f:Zqi):Ze:=⟨[.agg [],.one (.I .i64),.one (.S)],[.one (.I .i64)],fun t K _ h=>f t.1 t.2.1 t.2.2.1 (fun r0 h=>K (r0,()) h) h⟩
noncomputable abbrev ZCW:Cfg:=ZG Tryz.prog [] 7 [] [] [] ZH
theorem Zz7:ZJ (ZCW) Tryz.f233 (.leaf) (Zvm ZcP):=fun _ _ _ _=>by kernel_rfl
theorem ZA6:Zm Tryz.prog 233 (Zvm Zbe):=okF (Zz7) Tryz.func233 Zf (Zo _ .nil .nil .nil .nil (Zp _))
theorem Zl3:Zf2 Tryz.prog "spillway/token.used" 184 199:=ZhG (i:=Tryz.t184) (m:=Tryz.t184.methods.getD 6 default) (by kernel_rfl) (by kernel_rfl) (by kernel_rfl) (by kernel_rfl) (by kernel_rfl) (of_decide_eq_true (by kernel_rfl))
theorem Zl1:Zf2 Tryz.prog "spillway/token.used" 190 215:=ZhG (i:=Tryz.t190) (m:=Tryz.t190.methods.getD 11 default) (by kernel_rfl) (by kernel_rfl) (by kernel_rfl) (by kernel_rfl) (by kernel_rfl) (of_decide_eq_true (by kernel_rfl))
theorem ZlZ:Zf2 Tryz.prog "spillway/token.used" 192 233:=ZhG (i:=Tryz.t192) (m:=Tryz.t192.methods.getD 2 default) (by kernel_rfl) (by kernel_rfl) (by kernel_rfl) (by kernel_rfl) (by kernel_rfl) (of_decide_eq_true (by kernel_rfl))
noncomputable abbrev Zvl (f:Zqh):Ze:=⟨[.one (.P),.one (.I .i64),.agg [.I .i64,.I .i64,.I .i64,.I .i64],.one (.S)],[.one (.I .i64)],fun t K _ h=>f t.1 t.2.1 t.2.2.1 t.2.2.2.1 (fun r0 h=>K (r0,()) h) h⟩
noncomputable abbrev ZCV (f111:Zqq) (f122:Zqj) (f123:Zqi) (f97:ZpH):Cfg:=ZG Tryz.prog [(199,Zvu f111),(215,Zvn f122),(233,Zvm f123),(143,ZwQ f97)] 45 [] [("spillway/token.used", 184,199),("spillway/token.used", 190,215),("spillway/token.used", 192,233)] [] ZH
theorem Zz6 (f111:Zqq) (f122:Zqj) (f123:Zqi) (f97:ZpH):ZJ (ZCV f111 f122 f123 f97) Tryz.f147 (.seq (.leaf) (.seq (.seq (.leaf) (.cond (.seq (.order (.take 0 (.take 1 (.take 2 (.take 4 (.take 8 (.take 9 (.take 3 (.take 5 (.take 6 (.take 7 (.take 10 (.take 11 .done))))))))))))) (.leaf)) (.leaf))) (.seq (.leaf) (.seq (.seq (.leaf) (.block (.loop [9,30] [.one (.I .i64),.one (.I .i64)] [(11,11),(31,43)] (.leaf)))) (.leaf))))) (Zvl (ZcR f111 f122 f123 f97)):=fun _ _ _ _=>by kernel_rfl
theorem ZA5:Zm Tryz.prog 147 (Zvl Zao):=okF (Zz6 Za0 ZaE Zbe Yv) Tryz.func147 Zf (Zo _ (.cons ZBe (.cons ZA7 (.cons ZA6 (.cons ZAv .nil)))) .nil (.cons Zl3 (.cons Zl1 (.cons ZlZ .nil))) .nil (Zp _))
noncomputable abbrev ZsD (f:Zlx):Ze:=⟨[.agg [.I .i64,.I .i64,.I .i64,.I .i64,.I .i64,.I .i64]],[.one (.B)],fun t K _ h=>f t.1 (fun r0 h=>K (r0,()) h) h⟩
noncomputable abbrev ZCU:Cfg:=ZG Tryz.prog [] 52 [] [] [] ZH
theorem Zz5:ZJ (ZCU) Tryz.f205 (.seq (.leaf) (.seq (.seq (.leaf) (.block (.loop [19] [.one (.I .i64)] [(2,2),(4,4),(20,29)] (.leaf)))) (.leaf))) (ZsD ZeH):=fun _ _ _ _=>by kernel_rfl
theorem ZwG:Zm Tryz.prog 205 (ZsD ZaK):=okF (Zz5) Tryz.func205 Zf (Zo _ .nil .nil .nil .nil (Zp _))
noncomputable abbrev Zvk (f:Zqg):Ze:=⟨[.one (.L)],[.agg [.I .i64,.I .i64,.I .i64,.I .i64,.I .i64,.I .i64]],fun t K _ h=>f t.1 (fun r0 h=>K (r0,()) h) h⟩
noncomputable abbrev ZCT (f125:Zlx) (f109:ZlC):Cfg:=ZG Tryz.prog [(205,ZsD f125),(209,ZsI f109)] 19 [] [] [] ZH
theorem Zz4 (f125:Zlx) (f109:ZlC):ZJ (ZCT f125 f109) Tryz.f207 (.seq (.leaf) (.seq (.leaf) (.seq (.seq (.leaf) (.block (.loop [8] [.one (.I .i64)] [(5,5),(9,17)] (.leaf)))) (.leaf)))) (Zvk (Zfk f125 f109)):=fun _ _ _ _=>by kernel_rfl
theorem ZA4:Zm Tryz.prog 207 (Zvk Zdh):=okF (Zz4 ZaK ZbM) Tryz.func207 Zf (Zo _ (.cons ZwG (.cons ZwL .nil)) .nil .nil .nil (Zp _))
noncomputable abbrev Zvj (f:Zqf):Ze:=⟨[.one (.P),.one (.I .i64),.one (.L)],[.one (.I .i64)],fun t K _ h=>f t.1 t.2.1 t.2.2.1 (fun r0 h=>K (r0,()) h) h⟩
noncomputable abbrev ZCS (f104:ZlD) (f125:Zlx) (f106:ZmU) (f126:Zqg):Cfg:=ZG Tryz.prog [(204,ZsJ f104),(205,ZsD f125),(206,ZpG f106),(207,Zvk f126)] 77 [] [] [] ZH
theorem Zz3 (f104:ZlD) (f125:Zlx) (f106:ZmU) (f126:Zqg):ZJ (ZCS f104 f125 f106 f126) Tryz.f201 (.seq (.leaf) (.seq (.leaf) (.seq (.seq (.leaf) (.block (.loop [21] [.one (.I .i64)] [(6,6),(9,9),(22,28)] (.leaf)))) (.seq (.leaf) (.seq (.leaf) (.cut [] [] [(11,11),(36,54)] (.seq (.leaf) (.seq (.leaf) (.cond (.order (.take 0 (.take 1 (.take 2 (.take 4 (.take 3 (.take 5 (.take 6 .done)))))))) (.leaf)))) (.seq (.seq (.leaf) (.block (.loop [] [] [(12,12),(60,76)] (.cut [61] [.one (.B)] [(60,60)] (.leaf) (.leaf))))) (.leaf)))))))) (Zvj (ZcO f104 f125 f106 f126)):=fun _ _ _ _=>by kernel_rfl
theorem ZA3:Zm Tryz.prog 201 (Zvj Zan):=okF (Zz3 YN ZaK Ys Zdh) Tryz.func201 Zf (Zo _ (.cons ZwN (.cons ZwG (.cons ZwM (.cons ZA4 .nil)))) .nil .nil .nil (Zp _))
noncomputable abbrev Zvi (f:Zqe):Ze:=⟨[.agg [.P],.one (.I .i64),.one (.S),.one (.I .i64)],[],fun t K _ h=>f t.1 t.2.1 t.2.2.1 t.2.2.2.1 (fun h=>K (()) h) h⟩
noncomputable abbrev ZCR (f127:Zqf):Cfg:=ZG Tryz.prog [(201,Zvj f127)] 15 [] [] [] ZH
theorem Zz2 (f127:Zqf):ZJ (ZCR f127) Tryz.f198 (.leaf) (Zvi (ZdH f127)):=fun _ _ _ _=>by kernel_rfl
theorem ZA2:Zm Tryz.prog 198 (Zvi Za1):=okF (Zz2 Zan) Tryz.func198 Zf (Zo _ (.cons ZA3 .nil) .nil .nil .nil (Zp _))
noncomputable abbrev ZsC (f:Zlw):Ze:=⟨[.agg [.I .i64,.I .i64,.M],.one (.P),.one (.P)],[.one (.B)],fun t K _ h=>f t.1 t.2.1 t.2.2.1 (fun r0 h=>K (r0,()) h) h⟩
noncomputable abbrev ZCQ:Cfg:=ZG Tryz.prog [] 15 [] [] [] ZH
theorem Zz1:ZJ (ZCQ) Tryz.f222 (.leaf) (ZsC ZbV):=fun _ _ _ _=>by kernel_rfl
theorem ZwF:Zm Tryz.prog 222 (ZsC Ym):=okF (Zz1) Tryz.func222 Zf (Zo _ .nil .nil .nil .nil (Zp _))
noncomputable abbrev Zvh (f:Zqd):Ze:=⟨[.one (.L),.clo 222 [.P,.P]],[.one (.I .i64)],fun t K _ h=>f t.1 t.2.1 (fun r0 h=>K (r0,()) h) h⟩
noncomputable abbrev ZCP (f129:Zlw):Cfg:=ZG Tryz.prog [(222,ZsC f129)] 19 [] [] [] ZH
theorem Zz0 (f129:Zlw):ZJ (ZCP f129) Tryz.f226 (.seq (.leaf) (.seq (.seq (.leaf) (.block (.loop [8] [.one (.I .i64)] [(4,5),(9,18)] (.leaf)))) (.leaf))) (Zvh (ZV f129)):=fun _ _ _ _=>by kernel_rfl
theorem ZA1:Zm Tryz.prog 226 (Zvh ZA):=okF (Zz0 Ym) Tryz.func226 Zf (Zo _ (.cons ZwF .nil) .nil .nil .nil (Zp _))
noncomputable abbrev Zvg (f:Zqc):Ze:=⟨[.one (.L),.clo 222 [.P,.P]],[.one (.L)],fun t K _ h=>f t.1 t.2.1 (fun r0 h=>K (r0,()) h) h⟩
noncomputable abbrev ZCO (f130:Zqd) (f129:Zlw):Cfg:=ZG Tryz.prog [(226,Zvh f130),(222,ZsC f129)] 42 [] [] [] ZH
theorem ZzZ (f130:Zqd) (f129:Zlw):ZJ (ZCO f130 f129) Tryz.f221 (.seq (.leaf) (.seq (.leaf) (.seq (.leaf) (.seq (.seq (.leaf) (.block (.loop [5,6] [.one (.I .i64),.one (.I .i64)] [(7,7),(16,35)] (.leaf)))) (.leaf))))) (Zvg (ZS f130 f129)):=fun _ _ _ _=>by kernel_rfl
theorem ZA0:Zm Tryz.prog 221 (Zvg Zx):=okF (ZzZ ZA Ym) Tryz.func221 Zf (Zo _ (.cons ZA1 (.cons ZwF .nil)) .nil .nil .nil (Zp _))
noncomputable abbrev Zvf (f:Zqb):Ze:=⟨[.one (.P),.one (.I .i64),.one (.S),.one (.L)],[.one (.I .i64)],fun t K _ h=>f t.1 t.2.1 t.2.2.1 t.2.2.2.1 (fun r0 h=>K (r0,()) h) h⟩
noncomputable abbrev ZCN (f112:ZlB) (f116:Zlz) (f131:Zqc) (f118:Zly) (f115:ZlA):Cfg:=ZG Tryz.prog [(219,ZsH f112),(220,ZsF f116),(221,Zvg f131),(223,ZsE f118),(224,ZsG f115)] 154 [] [] [] ZH
theorem ZzY (f112:ZlB) (f116:Zlz) (f131:Zqc) (f118:Zly) (f115:ZlA):ZJ (ZCN f112 f116 f131 f118 f115) Tryz.f217 (.seq (.leaf) (.seq (.leaf) (.seq (.leaf) (.seq (.seq (.leaf) (.block (.loop [31] [.one (.I .i64)] [(8,8),(11,11),(32,41)] (.leaf)))) (.seq (.leaf) (.seq (.leaf) (.seq (.leaf) (.seq (.order (.take 5 (.take 0 (.take 1 (.take 2 (.take 3 (.take 4 (.take 6 (.take 7 (.take 8 (.take 9 .done))))))))))) (.cut [] [] [(13,13),(64,95)] (.seq (.leaf) (.seq (.leaf) (.cond (.order (.take 0 (.take 1 (.take 2 (.take 3 (.take 4 (.take 5 (.take 6 (.take 7 (.take 8 (.take 9 (.take 10 (.take 11 (.take 12 .done)))))))))))))) (.leaf)))) (.seq (.leaf) (.seq (.seq (.leaf) (.block (.loop [109] [.one (.I .i64)] [(16,18),(110,153)] (.seq (.leaf) (.seq (.leaf) (.seq (.block (.seq (.leaf) (.seq (.leaf) (.seq (.leaf) (.block (.loop [127] [.one (.I .i64)] [(17,18),(128,152)] (.seq (.leaf) (.seq (.leaf) (.seq (.block (.seq (.leaf) (.seq (.leaf) (.order (.take 0 (.take 1 (.take 2 (.take 5 (.take 6 (.take 7 (.take 11 (.take 3 (.take 4 (.take 8 (.take 9 (.take 10 (.take 12 (.take 13 .done)))))))))))))))))) (.leaf)))))))))) (.leaf))))))) (.leaf)))))))))))) (Zvf (ZcY f112 f116 f131 f118 f115)):=fun _ _ _ _=>by kernel_rfl
theorem ZAZ:Zm Tryz.prog 217 (Zvf Zas):=okF (ZzY YY YX Zx Zad YA) Tryz.func217 Zf (Zo _ (.cons ZwK (.cons ZwI (.cons ZA0 (.cons ZwH (.cons ZwJ .nil))))) .nil .nil .nil (Zp _))
noncomputable abbrev Zve (f:Zqa):Ze:=⟨[.agg [.P],.one (.I .i64),.one (.S),.one (.I .i64)],[],fun t K _ h=>f t.1 t.2.1 t.2.2.1 t.2.2.2.1 (fun h=>K (()) h) h⟩
noncomputable abbrev ZCM (f132:Zqb):Cfg:=ZG Tryz.prog [(217,Zvf f132)] 15 [] [] [] ZH
theorem ZzX (f132:Zqb):ZJ (ZCM f132) Tryz.f214 (.leaf) (Zve (Zdo f132)):=fun _ _ _ _=>by kernel_rfl
theorem ZAY:Zm Tryz.prog 214 (Zve ZaF):=okF (ZzX Zas) Tryz.func214 Zf (Zo _ (.cons ZAZ .nil) .nil .nil .nil (Zp _))
noncomputable abbrev Zvd (f:Zp9):Ze:=⟨[.agg [],.one (.I .i64),.one (.S),.one (.I .i64)],[],fun t K _ h=>f t.1 t.2.1 t.2.2.1 t.2.2.2.1 (fun h=>K (()) h) h⟩
noncomputable abbrev ZCL:Cfg:=ZG Tryz.prog [] 8 [] [] [] ZH
theorem ZzW:ZJ (ZCL) Tryz.f232 (.leaf) (Zvd ZcQ):=fun _ _ _ _=>by kernel_rfl
theorem ZAX:Zm Tryz.prog 232 (Zvd Zbf):=okF (ZzW) Tryz.func232 Zf (Zo _ .nil .nil .nil .nil (Zp _))
theorem Zl4:Zf2 Tryz.prog "spillway/token.take" 184 198:=ZhG (i:=Tryz.t184) (m:=Tryz.t184.methods.getD 5 default) (by kernel_rfl) (by kernel_rfl) (by kernel_rfl) (by kernel_rfl) (by kernel_rfl) (of_decide_eq_true (by kernel_rfl))
theorem Zl2:Zf2 Tryz.prog "spillway/token.take" 190 214:=ZhG (i:=Tryz.t190) (m:=Tryz.t190.methods.getD 10 default) (by kernel_rfl) (by kernel_rfl) (by kernel_rfl) (by kernel_rfl) (by kernel_rfl) (of_decide_eq_true (by kernel_rfl))
theorem Zl0:Zf2 Tryz.prog "spillway/token.take" 192 232:=ZhG (i:=Tryz.t192) (m:=Tryz.t192.methods.getD 1 default) (by kernel_rfl) (by kernel_rfl) (by kernel_rfl) (by kernel_rfl) (by kernel_rfl) (of_decide_eq_true (by kernel_rfl))
noncomputable abbrev Zvc (f:Zp8):Ze:=⟨[.one (.P),.one (.I .i64),.agg [.I .i64,.I .i64,.I .i64,.I .i64],.agg [.I .i64,.I .u8,.I .i64,.I .i64,.S,.I .i64]],[.agg [.I .i64,.I .u8,.I .i64,.I .i64,.I .i64]],fun t K _ h=>f t.1 t.2.1 t.2.2.1 t.2.2.2.1 (fun r0 h=>K (r0,()) h) h⟩
noncomputable abbrev ZCK (f124:Zqh) (f128:Zqe) (f133:Zqa) (f134:Zp9) (f97:ZpH):Cfg:=ZG Tryz.prog [(147,Zvl f124),(198,Zvi f128),(214,Zve f133),(232,Zvd f134),(143,ZwQ f97)] 107 [] [("spillway/token.take", 184,198),("spillway/token.take", 190,214),("spillway/token.take", 192,232)] [] ZH
theorem ZzV (f124:Zqh) (f128:Zqe) (f133:Zqa) (f134:Zp9) (f97:ZpH):ZJ (ZCK f124 f128 f133 f134 f97) Tryz.f114 (.seq (.leaf) (.seq (.leaf) (.seq (.leaf) (.seq (.leaf) (.seq (.seq (.leaf) (.cond (.seq (.order (.take 0 (.take 1 (.take 2 (.take 4 (.take 8 (.take 9 (.take 11 (.take 3 (.take 5 (.take 10 (.take 12 (.take 6 (.take 7 (.take 13 .done))))))))))))))) (.leaf)) (.leaf))) (.seq (.leaf) (.seq (.leaf) (.seq (.order (.take 0 (.take 1 (.take 2 (.take 4 (.take 3 (.take 6 (.take 5 (.take 7 (.take 8 (.take 9 .done))))))))))) (.seq (.order (.take 0 (.take 1 (.take 2 (.take 3 (.take 5 (.take 6 (.take 7 (.take 9 (.take 11 (.take 13 (.take 14 (.take 4 (.take 8 (.take 10 (.take 12 (.take 15 (.take 16 (.take 17 (.take 18 (.take 19 (.take 20 (.take 21 (.take 22 .done)))))))))))))))))))))))) (.leaf)))))))))) (Zvc (Zcg f124 f128 f133 f134 f97)):=fun _ _ _ _=>by kernel_rfl
theorem ZAW:Zm Tryz.prog 114 (Zvc X4):=okF (ZzV Zao Za1 ZaF Zbf Yv) Tryz.func114 Zf (Zo _ (.cons ZA5 (.cons ZA2 (.cons ZAY (.cons ZAX (.cons ZAv .nil))))) .nil (.cons Zl4 (.cons Zl2 (.cons Zl0 .nil))) .nil (Zp _))
noncomputable abbrev Zvb (f:Zp7):Ze:=⟨[.one (.P),.one (.I .i64),.one (.I .i64),.agg [.I .i64,.I .u8,.I .i64,.I .i64,.S,.I .i64]],[.agg [.I .i64,.I .u8,.I .i64,.I .i64,.I .i64]],fun t K _ h=>f t.1 t.2.1 t.2.2.1 t.2.2.2.1 (fun r0 h=>K (r0,()) h) h⟩
noncomputable abbrev ZCJ (f10:ZlF) (f31:ZpJ) (f102:Zqw) (f100:ZlE) (f103:Zqv) (f135:Zp8):Cfg:=ZG Tryz.prog [(47,ZvB f10),(57,ZwS f31),(111,Zvz f102),(112,ZsK f100),(113,Zvy f103),(114,Zvc f135)] 100 [] [] [] ZH
theorem ZzU (f10:ZlF) (f31:ZpJ) (f102:Zqw) (f100:ZlE) (f103:Zqv) (f135:Zp8):ZJ (ZCJ f10 f31 f102 f100 f103 f135) Tryz.f73 (.seq (.leaf) (.seq (.leaf) (.seq (.block (.seq (.leaf) (.cond (.leaf) (.cut [24] [.one (.B)] [(25,34)] (.leaf) (.cond (.seq (.order (.take 0 (.take 1 (.take 2 (.take 4 (.take 5 (.take 3 (.take 6 (.take 7 .done))))))))) (.leaf)) (.leaf)))))) (.leaf)))) (Zvb (ZbR f10 f31 f102 f100 f103 f135)):=fun _ _ _ _=>by kernel_rfl
theorem ZAV:Zm Tryz.prog 73 (Zvb XO):=okF (ZzU YW Yu Xm Xb XA X4) Tryz.func73 Zf (Zo _ (.cons ZwP (.cons ZAx (.cons ZBk (.cons ZwO (.cons ZBj (.cons ZAW .nil)))))) .nil .nil .nil (Zp _))
noncomputable abbrev Zva (f:Zp6):Ze:=⟨[.one (.P),.one (.I .i64),.one (.I .i64),.agg [.I .i64,.I .u8,.I .i64,.I .i64,.S,.I .i64]],[.agg [.I .i64,.I .u8,.I .i64,.I .i64,.I .i64],.one (.I .i64)],fun t K _ h=>f t.1 t.2.1 t.2.2.1 t.2.2.2.1 (fun r0 r1 h=>K (r0,r1,()) h) h⟩
noncomputable abbrev ZCI (f92:ZtZ) (f136:Zp7):Cfg:=ZG Tryz.prog [(72,ZyW f92),(73,Zvb f136)] 46 [] [] [] ZH
theorem ZzT (f92:ZtZ) (f136:Zp7):ZJ (ZCI f92 f136) Tryz.f38 (.leaf) (Zva (ZdI f92 f136)):=fun _ _ _ _=>by kernel_rfl
theorem ZAU:Zm Tryz.prog 38 (Zva Za2):=okF (ZzT Xa XO) Tryz.func38 Zf (Zo _ (.cons ZDP (.cons ZAV .nil)) .nil .nil .nil (Zp _))
noncomputable abbrev ZsB (f:Zlv):Ze:=⟨[.agg [.I .i64,.I .u8,.I .i64,.I .i64,.I .i64]],[.one (.B)],fun t K _ h=>f t.1 (fun r0 h=>K (r0,()) h) h⟩
noncomputable abbrev ZCH (f8:zT8):Cfg:=ZG Tryz.prog [(84,zk8 f8)] 31 [] [] [] ZH
theorem ZzS (f8:zT8):ZJ (ZCH f8) Tryz.f153 (.leaf) (ZsB (Zc0 f8)):=fun _ _ _ _=>by kernel_rfl
theorem ZwE:Zm Tryz.prog 153 (ZsB Xd):=okF (ZzS ZaH) Tryz.func153 Zf (Zo _ (.cons zo8 .nil) .nil .nil .nil (Zp _))
noncomputable abbrev Zu9 (f:Zp5):Ze:=⟨[.agg [.I .i64,.I .u8,.I .i64,.I .i64,.I .i64]],[.one (.L),.one (.I .i64)],fun t K _ h=>f t.1 (fun r0 r1 h=>K (r0,r1,()) h) h⟩
noncomputable abbrev ZCG (f138:Zlv) (f43:Zuc):Cfg:=ZG Tryz.prog [(153,ZsB f138),(154,Zy9 f43)] 24 [] [] [] ZH
theorem ZzR (f138:Zlv) (f43:Zuc):ZJ (ZCG f138 f43) Tryz.f132 (.leaf) (Zu9 (ZeN f138 f43)):=fun _ _ _ _=>by kernel_rfl
theorem ZAT:Zm Tryz.prog 132 (Zu9 ZcF):=okF (ZzR Xd YF) Tryz.func132 Zf (Zo _ (.cons ZwE (.cons ZD2 .nil)) .nil .nil .nil (Zp _))
noncomputable abbrev Zu8 (f:Zp4):Ze:=⟨[.one (.P),.one (.P),.one (.I .i64),.one (.L)],[.one (.B)],fun t K _ h=>f t.1 t.2.1 t.2.2.1 t.2.2.2.1 (fun r0 h=>K (r0,()) h) h⟩
noncomputable abbrev ZCF (f91:Zw2) (f137:Zp6) (f139:Zp5) (f45:Zub) (f55:Zt9):Cfg:=ZG Tryz.prog [(131,ZBr f91),(38,Zva f137),(132,Zu9 f139),(133,Zy8 f45),(121,Zy6 f55)] 94 [] [] [] ZH
theorem ZzQ (f91:Zw2) (f137:Zp6) (f139:Zp5) (f45:Zub) (f55:Zt9):ZJ (ZCF f91 f137 f139 f45 f55) Tryz.f102 (.seq (.leaf) (.seq (.leaf) (.seq (.leaf) (.cut [10,12] [.one (.I .i64),.one (.P)] [(24,40)] (.order (.take 0 (.take 1 (.take 2 (.take 4 (.take 5 (.take 6 (.take 8 (.take 9 (.take 10 (.take 3 (.take 7 (.take 11 (.take 12 (.fork 13 (.take 14 (.take 15 (.take 16 (.take 17 (.take 18 (.take 19 .done)))))) 17 (.take 13 (.take 14 (.take 15 (.take 16 (.take 18 (.take 19 .done))))))))))))))))))))) (.seq (.leaf) (.cut [] [] [(43,68)] (.seq (.leaf) (.cond (.order (.take 0 (.take 1 (.take 2 (.take 3 (.take 5 (.take 6 (.take 7 (.take 9 (.take 10 (.take 4 (.take 8 (.take 11 (.take 12 (.take 13 (.take 14 (.take 15 (.take 16 (.take 17 (.take 18 .done)))))))))))))))))))) (.leaf))) (.seq (.leaf) (.seq (.leaf) (.seq (.order (.take 0 (.take 1 (.take 2 (.take 3 (.take 4 (.take 5 (.take 7 (.take 8 (.take 9 (.take 11 (.take 6 (.take 10 (.take 12 (.take 13 (.take 14 (.take 15 .done))))))))))))))))) (.leaf)))))))))) (Zu8 (ZbY f91 f137 f139 f45 f55)):=fun _ _ _ _=>by kernel_rfl
theorem ZAS:Zm Tryz.prog 102 (Zu8 XQ):=okF (ZzQ Zat Za2 ZcF Zbg Xo) Tryz.func102 Zf (Zo _ (.cons ZFG (.cons ZAU (.cons ZAT (.cons ZD1 (.cons ZDZ .nil))))) .nil .nil .nil (Zp _))
noncomputable abbrev Zu7 (f:Zp3):Ze:=⟨[.one (.P),.agg [.I .u8,.I .i64,.I .i64,.I .i64,.I .i64,.I .u8,.I .i64,.I .i64,.S,.I .i64]],[.agg [.I .i64,.B,.I .i64]],fun t K _ h=>f t.1 t.2.1 (fun r0 h=>K (r0,()) h) h⟩
noncomputable abbrev ZCE (f84:Zt4) (f87:Zt3) (f140:Zp4) (f64:Zlr):Cfg:=ZG Tryz.prog [(100,Zy1 f84),(101,Zy0 f87),(102,Zu8 f140),(103,ZuM f64)] 60 [] [] [] ZH
theorem ZzP (f84:Zt4) (f87:Zt3) (f140:Zp4) (f64:Zlr):ZJ (ZCE f84 f87 f140 f64) Tryz.f63 (.seq (.leaf) (.seq (.leaf) (.seq (.leaf) (.seq (.leaf) (.seq (.leaf) (.cut [9] [.one (.I .i64)] [(11,11),(40,53)] (.seq (.leaf) (.block (.loop [9,42] [.one (.I .i64),.one (.I .i64)] [(11,11),(43,53)] (.leaf)))) (.leaf))))))) (Zu7 (Za9 f84 f87 f140 f64)):=fun _ _ _ _=>by kernel_rfl
theorem ZAR:Zm Tryz.prog 63 (Zu7 YK):=okF (ZzP YP Y3 XQ Z4) Tryz.func63 Zf (Zo _ (.cons ZDU (.cons ZDT (.cons ZAS (.cons ZwA .nil)))) .nil .nil .nil (Zp _))
noncomputable abbrev Zu6 (f:Zp2):Ze:=⟨[.one (.L)],[.agg [.I .i64,.I .u8,.I .i64,.I .i64,.I .i64],.one (.I .i64),.one (.I .i64)],fun t K _ h=>f t.1 (fun r0 r1 r2 h=>K (r0,r1,r2,()) h) h⟩
noncomputable abbrev ZCD (f89:Zt1) (f138:Zlv) (f90:Zt0):Cfg:=ZG Tryz.prog [(150,ZyY f89),(153,ZsB f138),(152,ZyX f90)] 37 [] [] [] ZH
theorem ZzO (f89:Zt1) (f138:Zlv) (f90:Zt0):ZJ (ZCD f89 f138 f90) Tryz.f137 (.leaf) (Zu6 (Zds f89 f138 f90)):=fun _ _ _ _=>by kernel_rfl
theorem ZAQ:Zm Tryz.prog 137 (Zu6 ZaI):=okF (ZzO Yn Xd YZ) Tryz.func137 Zf (Zo _ (.cons ZDR (.cons ZwE (.cons ZDQ .nil))) .nil .nil .nil (Zp _))
noncomputable abbrev Zu5 (f:Zp1):Ze:=⟨[.one (.P),.agg [.I .i64,.I .u8,.I .i64,.I .i64,.I .i64]],[],fun t K _ h=>f t.1 t.2.1 (fun h=>K (()) h) h⟩
noncomputable abbrev ZCC:Cfg:=ZG Tryz.prog [] 36 [] [] [] ZH
theorem ZzN:ZJ (ZCC) Tryz.f138 (.seq (.leaf) (.seq (.order (.take 0 (.take 1 (.take 2 (.take 4 (.take 3 (.take 5 (.take 6 (.take 7 (.take 8 (.take 9 (.take 10 (.take 11 .done))))))))))))) (.seq (.leaf) (.cond (.seq (.order (.take 0 (.take 1 (.take 2 (.take 4 (.take 3 (.take 5 (.take 6 .done)))))))) (.order (.take 0 (.take 1 (.take 2 (.take 3 (.take 5 (.take 4 (.take 6 (.take 7 (.take 8 (.take 9 (.take 10 (.take 11 (.take 12 (.take 13 .done)))))))))))))))) (.leaf))))) (Zu5 Zbc):=fun _ _ _ _=>by kernel_rfl
theorem ZAP:Zm Tryz.prog 138 (Zu5 Xh):=okF (ZzN) Tryz.func138 Zf (Zo _ .nil .nil .nil .nil (Zp _))
noncomputable abbrev Zu4 (f:Zp0):Ze:=⟨[.one (.P),.one (.P)],[.one (.I .i64)],fun t K _ h=>f t.1 t.2.1 (fun r0 h=>K (r0,()) h) h⟩
noncomputable abbrev ZCB (f87:Zt3) (f142:Zp2) (f143:Zp1) (f60:Zt6):Cfg:=ZG Tryz.prog [(101,Zy0 f87),(137,Zu6 f142),(138,Zu5 f143),(139,Zy3 f60)] 47 [] [] [] ZH
theorem ZzM (f87:Zt3) (f142:Zp2) (f143:Zp1) (f60:Zt6):ZJ (ZCB f87 f142 f143 f60) Tryz.f136 (.seq (.leaf) (.seq (.leaf) (.seq (.order (.take 0 (.take 1 (.take 2 (.take 3 (.take 4 (.take 5 (.take 6 (.take 7 (.take 8 (.take 9 (.take 10 .done)))))))))))) (.cut [4] [.one (.I .i64)] [(6,9),(24,41)] (.seq (.leaf) (.block (.loop [4,26] [.one (.I .i64),.one (.I .i64)] [(6,9),(27,41)] (.leaf)))) (.leaf))))) (Zu4 (Zbm f87 f142 f143 f60)):=fun _ _ _ _=>by kernel_rfl
theorem ZAO:Zm Tryz.prog 136 (Zu4 Xr):=okF (ZzM Y3 ZaI Xh Y0) Tryz.func136 Zf (Zo _ (.cons ZDT (.cons ZAQ (.cons ZAP (.cons ZDW .nil)))) .nil .nil .nil (Zp _))
noncomputable abbrev Zu3 (f:ZpZ):Ze:=⟨[.one (.P),.one (.I .i64),.clo 136 [.P,.P]],[.one (.I .i64)],fun t K _ h=>f t.1 t.2.1 t.2.2.1 (fun r0 h=>K (r0,()) h) h⟩
noncomputable abbrev ZCA (f15:ZgS) (f16:ZhS) (f144:Zp0):Cfg:=ZG Tryz.prog [(33,ZpF f15),(86,Zsu f16),(136,Zu4 f144)] 57 [] [] [] ZH
theorem ZzL (f15:ZgS) (f16:ZhS) (f144:Zp0):ZJ (ZCA f15 f16 f144) Tryz.f49 (.seq (.leaf) (.seq (.leaf) (.seq (.leaf) (.seq (.seq (.leaf) (.block (.loop [33] [.one (.I .i64)] [(8,8),(34,54)] (.seq (.leaf) (.seq (.leaf) (.seq (.block (.seq (.leaf) (.seq (.order (.take 0 (.take 1 (.take 2 (.take 3 (.take 5 (.take 8 (.take 9 (.take 10 (.take 11 (.take 4 (.take 12 (.take 6 (.take 7 (.take 13 .done))))))))))))))) (.leaf)))) (.leaf))))))) (.leaf))))) (Zu3 (XH f15 f16 f144)):=fun _ _ _ _=>by kernel_rfl
theorem ZAN:Zm Tryz.prog 49 (Zu3 Ye):=okF (ZzL Zi Zq Xr) Tryz.func49 Zf (Zo _ (.cons Zsy (.cons ZtX (.cons ZAO .nil))) .nil .nil .nil (Zp _))
noncomputable abbrev Zu2 (f:ZpY):Ze:=⟨[.one (.P),.one (.I .i64),.one (.L)],[.one (.I .i64)],fun t K _ h=>f t.1 t.2.1 t.2.2.1 (fun r0 h=>K (r0,()) h) h⟩
noncomputable abbrev ZCz (f145:ZpZ):Cfg:=ZG Tryz.prog [(49,Zu3 f145)] 11 [] [] [] ZH
theorem ZzK (f145:ZpZ):ZJ (ZCz f145) Tryz.f104 (.leaf) (Zu2 (Zb4 f145)):=fun _ _ _ _=>by kernel_rfl
theorem ZAM:Zm Tryz.prog 104 (Zu2 XT):=okF (ZzK Ye) Tryz.func104 Zf (Zo _ (.cons ZAN .nil) .nil .nil .nil (Zp _))
noncomputable abbrev Zu1 (f:ZpX):Ze:=⟨[.one (.P),.agg [.I .u8,.I .i64,.I .i64,.I .i64,.I .i64,.I .u8,.I .i64,.I .i64,.S,.I .i64]],[.agg [.I .i64,.B,.I .i64]],fun t K _ h=>f t.1 t.2.1 (fun r0 h=>K (r0,()) h) h⟩
noncomputable abbrev ZCy (f84:Zt4) (f146:ZpY) (f64:Zlr) (f65:ZpI):Cfg:=ZG Tryz.prog [(100,Zy1 f84),(104,Zu2 f146),(103,ZuM f64),(95,ZwR f65)] 50 [] [] [] ZH
theorem ZzJ (f84:Zt4) (f146:ZpY) (f64:Zlr) (f65:ZpI):ZJ (ZCy f84 f146 f64 f65) Tryz.f64 (.seq (.leaf) (.seq (.leaf) (.seq (.leaf) (.seq (.leaf) (.seq (.seq (.order (.take 0 (.take 1 (.take 2 (.take 4 (.take 5 (.take 6 (.take 8 (.take 3 (.take 7 (.take 9 (.take 10 .done)))))))))))) (.leaf)) (.leaf)))))) (Zu1 (Zba f84 f146 f64 f65)):=fun _ _ _ _=>by kernel_rfl
theorem ZAL:Zm Tryz.prog 64 (Zu1 YL):=okF (ZzJ YP XT Z4 Yo) Tryz.func64 Zf (Zo _ (.cons ZDU (.cons ZAM (.cons ZwA (.cons ZAw .nil)))) .nil .nil .nil (Zp _))
noncomputable abbrev Zu0 (f:ZpW):Ze:=⟨[.one (.P),.agg [.I .u8,.I .i64,.I .i64,.I .i64,.I .i64,.I .u8,.I .i64,.I .i64,.S,.I .i64]],[.agg [.I .i64,.B,.I .i64]],fun t K _ h=>f t.1 t.2.1 (fun r0 h=>K (r0,()) h) h⟩
noncomputable abbrev ZCx (f52:Zls) (f64:Zlr):Cfg:=ZG Tryz.prog [(40,ZuN f52),(103,ZuM f64)] 24 [] [] [] ZH
theorem ZzI (f52:Zls) (f64:Zlr):ZJ (ZCx f52 f64) Tryz.f65 (.leaf) (Zu0 (Zcq f52 f64)):=fun _ _ _ _=>by kernel_rfl
theorem ZAK:Zm Tryz.prog 65 (Zu0 Xv):=okF (ZzI ZP Z4) Tryz.func65 Zf (Zo _ (.cons ZwB (.cons ZwA .nil)) .nil .nil .nil (Zp _))
noncomputable abbrev ZuZ (f:ZpV):Ze:=⟨[.one (.P),.one (.L)],[.one (.I .i64)],fun t K _ h=>f t.1 t.2.1 (fun r0 h=>K (r0,()) h) h⟩
noncomputable abbrev ZCw (f6:zT6):Cfg:=ZG Tryz.prog [(46,zk6 f6)] 26 [] [] [] ZH
theorem ZzH (f6:zT6):ZJ (ZCw f6) Tryz.f105 (.seq (.leaf) (.seq (.leaf) (.seq (.seq (.leaf) (.block (.loop [16] [.one (.I .i64)] [(7,7),(17,25)] (.leaf)))) (.leaf)))) (ZuZ (ZdJ f6)):=fun _ _ _ _=>by kernel_rfl
theorem ZAJ:Zm Tryz.prog 105 (ZuZ Za3):=okF (ZzH Yl) Tryz.func105 Zf (Zo _ (.cons zo6 .nil) .nil .nil .nil (Zp _))
noncomputable abbrev ZuY (f:ZpU):Ze:=⟨[.one (.P),.agg [.I .u8,.I .i64,.I .i64,.I .i64,.I .i64,.I .u8,.I .i64,.I .i64,.S,.I .i64]],[.agg [.I .i64,.B,.I .i64]],fun t K _ h=>f t.1 t.2.1 (fun r0 h=>K (r0,()) h) h⟩
noncomputable abbrev ZCv (f149:ZpV) (f64:Zlr):Cfg:=ZG Tryz.prog [(105,ZuZ f149),(103,ZuM f64)] 39 [] [] [] ZH
theorem ZzG (f149:ZpV) (f64:Zlr):ZJ (ZCv f149 f64) Tryz.f66 (.seq (.leaf) (.seq (.leaf) (.seq (.leaf) (.seq (.leaf) (.seq (.seq (.leaf) (.block (.loop [26] [.one (.I .i64)] [(5,5),(27,37)] (.leaf)))) (.leaf)))))) (ZuY (Zcp f149 f64)):=fun _ _ _ _=>by kernel_rfl
theorem ZAI:Zm Tryz.prog 66 (ZuY Xu):=okF (ZzG Za3 Z4) Tryz.func66 Zf (Zo _ (.cons ZAJ (.cons ZwA .nil)) .nil .nil .nil (Zp _))
noncomputable abbrev ZuX (f:ZpT):Ze:=⟨[.one (.P),.one (.I .i64)],[.one (.I .i64)],fun t K _ h=>f t.1 t.2.1 (fun r0 h=>K (r0,()) h) h⟩
noncomputable abbrev ZCu (f92:ZtZ) (f37:Zuf):Cfg:=ZG Tryz.prog [(72,ZyW f92),(59,Zzc f37)] 85 [] [] [] ZH
theorem ZzF (f92:ZtZ) (f37:Zuf):ZJ (ZCu f92 f37) Tryz.f106 (.seq (.leaf) (.seq (.leaf) (.seq (.leaf) (.seq (.leaf) (.seq (.leaf) (.seq (.seq (.leaf) (.block (.loop [38] [.one (.I .i64)] [(7,7),(9,9),(39,61)] (.seq (.leaf) (.seq (.leaf) (.seq (.block (.seq (.leaf) (.seq (.leaf) (.block (.loop [45] [.one (.I .i64)] [(9,9),(46,60)] (.seq (.leaf) (.seq (.leaf) (.seq (.block (.seq (.leaf) (.order (.take 0 (.take 1 (.take 2 (.take 4 (.take 8 (.take 3 (.take 5 (.take 6 (.take 9 (.take 7 (.take 10 (.take 11 .done))))))))))))))) (.leaf))))))))) (.leaf))))))) (.seq (.seq (.leaf) (.block (.loop [] [] [(10,11),(67,84)] (.cut [68] [.one (.B)] [(67,67)] (.leaf) (.seq (.leaf) (.block (.seq (.leaf) (.order (.take 0 (.take 1 (.take 2 (.take 4 (.take 5 (.take 6 (.take 10 (.take 3 (.take 7 (.take 8 (.take 11 (.take 9 (.take 12 (.take 13 .done)))))))))))))))))))))) (.leaf)))))))) (ZuX (Zbz f92 f37)):=fun _ _ _ _=>by kernel_rfl
theorem ZAH:Zm Tryz.prog 106 (ZuX XB):=okF (ZzF Xa YV) Tryz.func106 Zf (Zo _ (.cons ZDP (.cons ZD5 .nil)) .nil .nil .nil (Zp _))
noncomputable abbrev ZuW (f:ZpS):Ze:=⟨[.one (.P),.agg [.I .u8,.I .i64,.I .i64,.I .i64,.I .i64,.I .u8,.I .i64,.I .i64,.S,.I .i64]],[.agg [.I .i64,.B,.I .i64]],fun t K _ h=>f t.1 t.2.1 (fun r0 h=>K (r0,()) h) h⟩
noncomputable abbrev ZCt (f151:ZpT) (f7:zT7):Cfg:=ZG Tryz.prog [(106,ZuX f151),(24,zk7 f7)] 29 [] [] [] ZH
theorem ZzE (f151:ZpT) (f7:zT7):ZJ (ZCt f151 f7) Tryz.f67 (.seq (.leaf) (.seq (.leaf) (.seq (.leaf) (.seq (.order (.take 0 (.take 1 (.take 2 (.take 4 (.take 5 (.take 6 (.take 3 (.take 7 (.take 8 .done)))))))))) (.leaf))))) (ZuW (ZbX f151 f7)):=fun _ _ _ _=>by kernel_rfl
theorem ZAG:Zm Tryz.prog 67 (ZuW Xf):=okF (ZzE XB YO) Tryz.func67 Zf (Zo _ (.cons ZAH (.cons zo7 .nil)) .nil .nil .nil (Zp _))
noncomputable abbrev ZsA (f:Zlu):Ze:=⟨[.one (.P),.agg [.I .u8,.I .i64,.I .i64,.I .i64,.I .i64,.I .u8,.I .i64,.I .i64,.S,.I .i64]],[.one (.I .i64),.one (.B),.one (.I .i64)],fun t K _ h=>f t.1 t.2.1 (fun r0 r1 r2 h=>K (r0,r1,r2,()) h) h⟩
noncomputable abbrev ZCs (f40:Zxz) (f41:Zud) (f42:Zxy) (f66:Zxl) (f80:Zw7) (f141:Zp3) (f147:ZpX) (f148:ZpW) (f150:ZpU) (f152:ZpS):Cfg:=ZG Tryz.prog [(28,ZBY f40),(29,Zza f41),(60,ZBX f42),(61,ZBK f66),(62,ZBw f80),(63,Zu7 f141),(64,Zu1 f147),(65,Zu0 f148),(66,ZuY f150),(67,ZuW f152)] 45 [] [] [] ZH [60,61,62,63,64,65,66,67]
theorem ZzD (f40:Zxz) (f41:Zud) (f42:Zxy) (f66:Zxl) (f80:Zw7) (f141:Zp3) (f147:ZpX) (f148:ZpW) (f150:ZpU) (f152:ZpS):ZJ (ZCs f40 f41 f42 f66 f80 f141 f147 f148 f150 f152) Tryz.f10 (.seq (.leaf) (.seq (.leaf) (.seq (.leaf) (.cut [] [] [(4,6),(18,31)] (.leaf) (.cut [9] [.one (.P)] [(32,38)] (.order (.take 0 (.take 2 (.take 3 (.take 4 (.take 1 (.take 5 (.fork 6 (.take 7 (.take 8 .done)) 7 (.take 6 (.take 8 .done)))))))))) (.leaf)))))) (ZsA (Zcs f40 f41 f42 f66 f80 f141 f147 f148 f150 f152)):=fun _ _ _ _=>by kernel_rfl
theorem ZwD:Zm Tryz.prog 10 (ZsA YE):=okF (ZzD Zbo YG Xt XI Xw YK YL Xv Xu Xf) Tryz.func10 Zf (Zo _ (.cons ZGd (.cons ZD3 (.cons ZGc (.cons ZFZ (.cons ZFL (.cons ZAR (.cons ZAL (.cons ZAK (.cons ZAI (.cons ZAG .nil)))))))))) .nil .nil .nil (Zp _))
noncomputable abbrev ZuV (f:ZpR):Ze:=⟨[.one (.P),.one (.L)],[.one (.L)],fun t K _ h=>f t.1 t.2.1 (fun r0 h=>K (r0,()) h) h⟩
noncomputable abbrev ZCr (f153:Zlu):Cfg:=ZG Tryz.prog [(10,ZsA f153)] 31 [] [] [] ZH
theorem ZzC (f153:Zlu):ZJ (ZCr f153) Tryz.f17 (.seq (.leaf) (.seq (.leaf) (.seq (.seq (.leaf) (.block (.loop [5,11] [.one (.L),.one (.I .i64)] [(6,8),(12,29)] (.leaf)))) (.leaf)))) (ZuV (Zb1 f153)):=fun _ _ _ _=>by kernel_rfl
theorem ZAF:Zm Tryz.prog 17 (ZuV XR):=okF (ZzC YE) Tryz.func17 Zf (Zo _ (.cons ZwD .nil) .nil .nil .nil (Zp _))
noncomputable abbrev Zsz (f:Zlt):Ze:=⟨[.one (.P),.one (.I .i64)],[.one (.P)],fun t K _ h=>f t.1 t.2.1 (fun r0 h=>K (r0,()) h) h⟩
noncomputable abbrev ZCq (f41:Zud):Cfg:=ZG Tryz.prog [(29,Zza f41)] 15 [] [] [] ZH
theorem ZzB (f41:Zud):ZJ (ZCq f41) Tryz.f31 (.leaf) (Zsz (XZ f41)):=fun _ _ _ _=>by kernel_rfl
theorem ZwC:Zm Tryz.prog 31 (Zsz Yg):=okF (ZzB YG) Tryz.func31 Zf (Zo _ (.cons ZD3 .nil) .nil .nil .nil (Zp _))
noncomputable abbrev ZuU (f:ZpQ):Ze:=⟨[.one (.P)],[.one (.L)],fun t K _ h=>f t.1 (fun r0 h=>K (r0,()) h) h⟩
noncomputable abbrev ZCp:Cfg:=ZG Tryz.prog [] 14 [] [] [] ZH
theorem ZzA:ZJ (ZCp) Tryz.f32 (.leaf) (ZuU Zd2):=fun _ _ _ _=>by kernel_rfl
theorem ZAE:Zm Tryz.prog 32 (ZuU ZaY):=okF (ZzA) Tryz.func32 Zf (Zo _ .nil .nil .nil .nil (Zp _))
noncomputable abbrev ZuT (f:ZpP):Ze:=⟨[.one (.P),.one (.I .i64)],[.one (.L)],fun t K _ h=>f t.1 t.2.1 (fun r0 h=>K (r0,()) h) h⟩
noncomputable abbrev ZCo (f155:Zlt) (f156:ZpQ):Cfg:=ZG Tryz.prog [(31,Zsz f155),(32,ZuU f156)] 9 [] [] [] ZH
theorem Zzz (f155:Zlt) (f156:ZpQ):ZJ (ZCo f155 f156) Tryz.f12 (.leaf) (ZuT (ZbC f155 f156)):=fun _ _ _ _=>by kernel_rfl
theorem ZAD:Zm Tryz.prog 12 (ZuT XC):=okF (Zzz Yg ZaY) Tryz.func12 Zf (Zo _ (.cons ZwC (.cons ZAE .nil)) .nil .nil .nil (Zp _))
noncomputable abbrev ZuS (f:ZpO):Ze:=⟨[.one (.L)],[.one (.L)],fun t K _ h=>f t.1 (fun r0 h=>K (r0,()) h) h⟩
noncomputable abbrev ZCn:Cfg:=ZG Tryz.prog [] 8 [] [] [] ZH
theorem Zzy:ZJ (ZCn) Tryz.f30 (.leaf) (ZuS YB):=fun _ _ _ _=>by kernel_rfl
theorem ZAC:Zm Tryz.prog 30 (ZuS Z8):=okF (Zzy) Tryz.func30 Zf (Zo _ .nil .nil .nil .nil (Zp _))
noncomputable abbrev ZuR (f:ZpN):Ze:=⟨[.one (.P)],[.one (.L)],fun t K _ h=>f t.1 (fun r0 h=>K (r0,()) h) h⟩
noncomputable abbrev ZCm (f158:ZpO):Cfg:=ZG Tryz.prog [(30,ZuS f158)] 11 [] [] [] ZH
theorem Zzx (f158:ZpO):ZJ (ZCm f158) Tryz.f11 (.leaf) (ZuR (Zbb f158)):=fun _ _ _ _=>by kernel_rfl
theorem ZAB:Zm Tryz.prog 11 (ZuR Xg):=okF (Zzx Z8) Tryz.func11 Zf (Zo _ (.cons ZAC .nil) .nil .nil .nil (Zp _))
noncomputable abbrev ZuQ (f:ZpM):Ze:=⟨[],[.one (.B)],fun _ K _ h=>f (fun r0 h=>K (r0,()) h) h⟩
noncomputable abbrev ZCl (f20:Zug) (f39:Zue) (f154:ZpR) (f157:ZpP) (f159:ZpN):Cfg:=ZG Tryz.prog [(7,Zzd f20),(9,Zzb f39),(17,ZuV f154),(12,ZuT f157),(11,ZuR f159)] 81 [] [] [] ZH
theorem Zzw (f20:Zug) (f39:Zue) (f154:ZpR) (f157:ZpP) (f159:ZpN):ZJ (ZCl f20 f39 f154 f157 f159) Tryz.f8 (.seq (.leaf) (.seq (.leaf) (.seq (.leaf) (.seq (.leaf) (.seq (.leaf) (.seq (.leaf) (.seq (.seq (.leaf) (.block (.loop [6] [.one (.I .i64)] [(0,0),(34,44)] (.leaf)))) (.leaf)))))))) (ZuQ (Zcj f20 f39 f154 f157 f159)):=fun _ _ _ _=>by kernel_rfl
theorem ZAA:Zm Tryz.prog 8 (ZuQ X6):=okF (Zzw Zbh Yt XR XC Xg) Tryz.func8 Zf (Zo _ (.cons ZD6 (.cons ZD4 (.cons ZAF (.cons ZAD (.cons ZAB .nil))))) .nil .nil .nil (Zp _))
noncomputable abbrev ZuP (f:ZpL):Ze:=⟨[.one (.P)],[.one (.I .i64)],fun t K _ h=>f t.1 (fun r0 h=>K (r0,()) h) h⟩
noncomputable abbrev ZCk:Cfg:=ZG Tryz.prog [] 10 [] [] [] ZH
theorem Zzv:ZJ (ZCk) Tryz.f13 (.leaf) (ZuP Zb2):=fun _ _ _ _=>by kernel_rfl
theorem ZAz:Zm Tryz.prog 13 (ZuP XS):=okF (Zzv) Tryz.func13 Zf (Zo _ .nil .nil .nil .nil (Zp _))
noncomputable abbrev ZuO (f:ZpK):Ze:=⟨[.one (.P),.one (.I .i64)],[.one (.L)],fun t K _ h=>f t.1 t.2.1 (fun r0 h=>K (r0,()) h) h⟩
noncomputable abbrev ZCj (f155:Zlt) (f15:ZgS):Cfg:=ZG Tryz.prog [(31,Zsz f155),(33,ZpF f15)] 9 [] [] [] ZH
theorem Zzu (f155:Zlt) (f15:ZgS):ZJ (ZCj f155 f15) Tryz.f14 (.leaf) (ZuO (ZaQ f155 f15)):=fun _ _ _ _=>by kernel_rfl
theorem ZAy:Zm Tryz.prog 14 (ZuO YD):=okF (Zzu Yg Zi) Tryz.func14 Zf (Zo _ (.cons ZwC (.cons Zsy .nil)) .nil .nil .nil (Zp _))
noncomputable abbrev ZwT (f:ZxS):Ze:=⟨[.agg [.I .i64,.I .i64,.I .i64,.I .i64,.I .i64,.L],.one (.L)],[.one (.B)],fun t K _ h=>f t.1 t.2.1 (fun r0 h=>K (r0,()) h) h⟩
noncomputable abbrev ZCi (f20:Zug) (f160:ZpM) (f39:Zue) (f153:Zlu) (f161:ZpL) (f162:ZpK):Cfg:=ZG Tryz.prog [(7,Zzd f20),(8,ZuQ f160),(9,Zzb f39),(10,ZsA f153),(13,ZuP f161),(14,ZuO f162)] 86 [] [] [] ZH
theorem Zzt (f20:Zug) (f160:ZpM) (f39:Zue) (f153:Zlu) (f161:ZpL) (f162:ZpK):ZJ (ZCi f20 f160 f39 f153 f161 f162) Tryz.f5 (.seq (.leaf) (.seq (.leaf) (.seq (.leaf) (.seq (.leaf) (.cut [] [] [(7,7),(33,48)] (.seq (.leaf) (.block (.loop [7] [.one (.I .i64)] [(33,48)] (.leaf)))) (.seq (.seq (.order (.take 0 (.take 2 (.take 3 (.take 4 (.take 5 (.take 1 (.take 6 .done)))))))) (.leaf)) (.seq (.order (.take 0 (.take 1 (.take 3 (.take 4 (.take 5 (.take 2 (.take 6 (.take 7 (.take 8 (.take 9 (.take 10 (.take 11 (.take 12 (.take 13 (.take 14 (.take 15 .done))))))))))))))))) (.seq (.seq (.leaf) (.block (.loop [11] [.one (.I .i64)] [(4,4),(70,80)] (.leaf)))) (.leaf))))))))) (ZwT (Zag f20 f160 f39 f153 f161 f162)):=fun _ _ _ _=>by kernel_rfl
theorem ZdX:Zm Tryz.prog 5 (ZwT Xj):=okF (Zzt Zbh X6 Yt YE XS YD) Tryz.func5 Zf (Zo _ (.cons ZD6 (.cons ZAA (.cons ZD4 (.cons ZwD (.cons ZAz (.cons ZAy .nil)))))) .nil .nil .nil (Zp _))
end Go.Proofs.YtbppjmcinoffnaaGreat
