/- That each function does what its model says. Written by a program out of the translated functions. -/
import Derived.Test.YtpjbjdheeemdiaaGreatDoorProg
import Derived.KernelRfl
import Derived.Recover
import Derived.Tactics2
import Derived.Test.YtpjbjdheeemdiaaGreatDoorPa7
set_option linter.unusedVariables false
set_option linter.unusedSimpArgs false
namespace Go.Proofs.YtpjbjdheeemdiaaGreatDoor
open Go Go.Fw
noncomputable section
def tkS:List Nat->OrdT
  | []=> .done
  | n::r=> .take (n / 2) (n % 2 ==1) (tkS r)
theorem Zf:Tryz.prog.follows .mixedOrders=true:=by kernel_rfl
abbrev zk1 (f:zT1):Zd:=⟨[.one (.P)],[],fun t K _ h=>f t.1 (fun h=>K (()) h) h⟩
abbrev zc1 (f0:zT0):Cfg:=ZD Tryz.prog [(171,⟨[.one (.S),.one (.I .u8)],[.one (.I .i64)],fun t K _ h=>f0 t.1 t.2.1 (fun r0 h=>K (r0,()) h) h⟩)] 32 [] [] [] ZE
theorem zr1 (f0:zT0):ZI (zc1 f0) Tryz.f97 (.block (.loop [] [] [(2,31)] .leaf)) (zk1 (ZcT f0)):=fun _ _ _ _=>by kernel_rfl
theorem zo1:Zj Tryz.prog 97 (zk1 Z5):=okF (zr1 X0) Tryz.func97 Zf (Zs _ (.cons ZeS .nil) .nil .nil .nil (Zr _))
abbrev zk2 (f:zT2):Zd:=⟨[.one (.P)],[.one (.I .u8)],fun t K _ h=>f t.1 (fun r0 h=>K (r0,()) h) h⟩
abbrev zc2:Cfg:=ZD Tryz.prog [] 22 [] [] [] ZE
theorem zr2:ZI (zc2) Tryz.f166 .leaf (zk2 ZdX):=fun _ _ _ _=>by kernel_rfl
theorem zo2:Zj Tryz.prog 166 (zk2 Zx):=okF (zr2) Tryz.func166 Zf (Zs _ .nil .nil .nil .nil (Zr _))
abbrev zk3 (f:zT3):Zd:=⟨[.one (.P),.one (.I .i64),.one (.I .i64)],[],fun t K Kp h=>f t.1 t.2.1 t.2.2.1 (fun h=>K (()) h) Kp h⟩
abbrev zc3:Cfg:=ZD Tryz.prog [] 24 [] [] [] ZE
theorem zr3:ZI (zc3) Tryz.f98 .leaf (zk3 Za0):=fun _ _ _ _=>by kernel_rfl
theorem zo3:Zj Tryz.prog 98 (zk3 Zp):=okF (zr3) Tryz.func98 Zf (Zs _ .nil .nil .nil .nil (Zr _))
abbrev zk6 (f:zT6):Zd:=⟨[.one (.P),.one (.I .u8)],[.one (.V)],fun t K _ h=>f t.1 t.2.1 (fun r0 h=>K (r0,()) h) h⟩
abbrev zc6 (f5:zT5):Cfg:=ZD Tryz.prog [(251,⟨[.one (.P)],[],fun t K _ h=>f5 t.1 (fun h=>K (()) h) h⟩)] 17 [] [] [] ZE
theorem zr6 (f5:zT5):ZI (zc6 f5) Tryz.f184 .leaf (zk6 (ZaG f5)):=fun _ _ _ _=>by kernel_rfl
theorem zo6:Zj Tryz.prog 184 (zk6 Yu):=okF (zr6 Yl) Tryz.func184 Zf (Zs _ (.cons Zav .nil) .nil .nil .nil (Zr _))
abbrev zk7 (f:zT7):Zd:=⟨[.one (.P)],[.one (.I .i32)],fun t K Kp h=>f t.1 (fun r0 h=>K (r0,()) h) Kp h⟩
abbrev zc7 (f2:zT2) (f3:zT3):Cfg:=ZD Tryz.prog [(166,zk2 f2),(98,zk3 f3)] 65 [] [] [] ZE
theorem zr7 (f2:zT2) (f3:zT3):ZI (zc7 f2 f3) Tryz.f297 (.seq .leaf (.seq .leaf (.seq (.seq .leaf (.block (.loop [3,5] [.one (.I .i32),.one (.I .i64)] [(4,4),(6,63)] (.seq .leaf (.seq .leaf (.seq (.block (.seq .leaf (.cut [3] [.one (.I .i32)] [(9,55)] (.block (.cut [15] [.one (.B)] [(16,21)] .leaf .leaf)) .leaf))) .leaf)))))) .leaf))) (zk7 (Zec f2 f3)):=fun _ _ _ _=>by kernel_rfl
theorem zo7:Zj Tryz.prog 297 (zk7 Zbi):=okF (zr7 Zx Zp) Tryz.func297 Zf (Zs _ (.cons zo2 (.cons zo3 .nil)) .nil .nil .nil (Zr _))
abbrev zk8 (f:zT8):Zd:=⟨[.one (.S),.one (.S)],[.one (.B)],fun t K _ h=>f t.1 t.2.1 (fun r0 h=>K (r0,()) h) h⟩
abbrev zc8:Cfg:=ZD Tryz.prog [] 18 [] [] [] ZE
theorem zr8:ZI (zc8) Tryz.f249 .leaf (zk8 XQ):=fun _ _ _ _=>by kernel_rfl
theorem zo8:Zj Tryz.prog 249 (zk8 Xa):=okF (zr8) Tryz.func249 Zf (Zs _ .nil .nil .nil .nil (Zr _))
abbrev zk9 (f:zT9):Zd:=⟨[.one (.S),.one (.S)],[.one (.B)],fun t K _ h=>f t.1 t.2.1 (fun r0 h=>K (r0,()) h) h⟩
abbrev zc9 (f8:zT8):Cfg:=ZD Tryz.prog [(249,zk8 f8)] 8 [] [] [] ZE
theorem zr9 (f8:zT8):ZI (zc9 f8) Tryz.f196 .leaf (zk9 (Zdi f8)):=fun _ _ _ _=>by kernel_rfl
theorem zo9:Zj Tryz.prog 196 (zk9 ZaB):=okF (zr9 Xa) Tryz.func196 Zf (Zs _ (.cons zo8 .nil) .nil .nil .nil (Zr _))
abbrev ZJI (f:ZEC):Zd:=⟨[.one (.L),.one (.I .i32)],[.one (.L)],fun t K _ h=>f t.1 t.2.1 (fun r0 h=>K (r0,()) h) h⟩
abbrev ZNO:Cfg:=ZD Tryz.prog [] 78 [] [] [] ZE
theorem ZMW:ZI (ZNO) Tryz.f325 (.seq .leaf (.seq .leaf (.block (.seq .leaf (.cond .leaf (.cut [25] [.one (.B)] [(26,33)] .leaf .leaf)))))) (ZJI XK):=fun _ _ _ _=>by kernel_rfl
theorem ZNn:Zj Tryz.prog 325 (ZJI Y4):=okF (ZMW) Tryz.func325 Zf (Zs _ .nil .nil .nil .nil (Zr _))
abbrev ZJH (f:ZEB):Zd:=⟨[.one (.L),.one (.I .i32)],[.one (.L)],fun t K _ h=>f t.1 t.2.1 (fun r0 h=>K (r0,()) h) h⟩
abbrev ZNN (f10:ZEC):Cfg:=ZD Tryz.prog [(325,ZJI f10)] 16 [] [] [] ZE
theorem ZMV (f10:ZEC):ZI (ZNN f10) Tryz.f309 .leaf (ZJH (Za6 f10)):=fun _ _ _ _=>by kernel_rfl
theorem ZNm:Zj Tryz.prog 309 (ZJH Xs):=okF (ZMV Y4) Tryz.func309 Zf (Zs _ (.cons ZNn .nil) .nil .nil .nil (Zr _))
abbrev ZJG (f:ZEA):Zd:=⟨[.one (.P),.one (.I .i32)],[.one (.I .i64),.one (.V)],fun t K _ h=>f t.1 t.2.1 (fun r0 r1 h=>K (r0,r1,()) h) h⟩
abbrev ZNM (f5:zT5) (f11:ZEB):Cfg:=ZD Tryz.prog [(251,⟨[.one (.P)],[],fun t K _ h=>f5 t.1 (fun h=>K (()) h) h⟩),(309,ZJH f11)] 30 [] [] [] ZE
theorem ZMU (f5:zT5) (f11:ZEB):ZI (ZNM f5 f11) Tryz.f255 .leaf (ZJG (ZaF f5 f11)):=fun _ _ _ _=>by kernel_rfl
theorem ZNl:Zj Tryz.prog 255 (ZJG Xd):=okF (ZMU Yl Xs) Tryz.func255 Zf (Zs _ (.cons Zav (.cons ZNm .nil)) .nil .nil .nil (Zr _))
abbrev ZJF (f:ZEz):Zd:=⟨[.one (.P),.one (.P)],[],fun t K Kp h=>f t.1 t.2.1 (fun h=>K (()) h) Kp h⟩
abbrev ZNL (f2:zT2) (f0:zT0) (f6:zT6) (f3:zT3) (f7:zT7) (f9:zT9) (f12:ZEA):Cfg:=ZD Tryz.prog [(166,zk2 f2),(171,⟨[.one (.S),.one (.I .u8)],[.one (.I .i64)],fun t K _ h=>f0 t.1 t.2.1 (fun r0 h=>K (r0,()) h) h⟩),(184,zk6 f6),(98,zk3 f3),(297,zk7 f7),(196,zk9 f9),(255,ZJG f12)] 114 [] [] [] ZE
theorem ZMT (f2:zT2) (f0:zT0) (f6:zT6) (f3:zT3) (f7:zT7) (f9:zT9) (f12:ZEA):ZI (ZNL f2 f0 f6 f3 f7 f9 f12) Tryz.f240 (.seq .leaf (.cut [] [] [(5,5),(11,37)] .leaf (.cut [] [] [(38,45)] .leaf (.seq .leaf (.seq .leaf (.cut [] [] [(7,8),(55,104)] (.cut [72] [.one (.B)] [(55,71)] .leaf .leaf) (.cut [6] [.one (.I .i32)] [(105,110)] .leaf .leaf))))))) (ZJF (ZcR f2 f0 f6 f3 f7 f9 f12)):=fun _ _ _ _=>by kernel_rfl
theorem ZNk:Zj Tryz.prog 240 (ZJF Zaq):=okF (ZMT Zx X0 Yu Zp Zbi ZaB Xd) Tryz.func240 Zf (Zs _ (.cons zo2 (.cons ZeS (.cons zo6 (.cons zo3 (.cons zo7 (.cons zo9 (.cons ZNl .nil))))))) .nil .nil .nil (Zr _))
abbrev ZJE (f:ZEy):Zd:=⟨[.one (.S)],[.one (.B)],fun t K _ h=>f t.1 (fun r0 h=>K (r0,()) h) h⟩
abbrev ZNK (f14:ZLC) (f15:Zun):Cfg:=ZD Tryz.prog [(323,⟨[.one (.S)],[.one (.I .i64)],fun t K _ h=>f14 t.1 (fun r0 h=>K (r0,()) h) h⟩),(163,⟨[.one (.S)],[.one (.B)],fun t K _ h=>f15 t.1 (fun r0 h=>K (r0,()) h) h⟩)] 64 [] [] [] ZE
theorem ZMS (f14:ZLC) (f15:Zun):ZI (ZNK f14 f15) Tryz.f298 (.seq .leaf (.seq (.seq .leaf (.block (.loop [11] [.one (.I .i64)] [(2,2),(4,8),(12,56)] (.seq .leaf (.seq .leaf (.seq (.block (.seq .leaf (.seq (.seq .leaf (.block (.loop [5] [.one (.I .i64)] [(2,2),(6,7),(17,36)] .leaf))) .leaf))) .leaf)))))) .leaf)) (ZJE (ZgW f14 f15)):=fun _ _ _ _=>by kernel_rfl
theorem ZNj:Zj Tryz.prog 298 (ZJE ZdM):=okF (ZMS Y9 Z6) Tryz.func298 Zf (Zs _ (.cons ZdD (.cons XG .nil)) .nil .nil .nil (Zr _))
abbrev ZJD (f:ZEx):Zd:=⟨[.one (.P),.one (.S)],[.one (.I .i64),.one (.V)],fun t K _ h=>f t.1 t.2.1 (fun r0 r1 h=>K (r0,r1,()) h) h⟩
abbrev ZNJ (f5:zT5):Cfg:=ZD Tryz.prog [(251,⟨[.one (.P)],[],fun t K _ h=>f5 t.1 (fun h=>K (()) h) h⟩)] 19 [] [] [] ZE
theorem ZMR (f5:zT5):ZI (ZNJ f5) Tryz.f183 .leaf (ZJD (Zaj f5)):=fun _ _ _ _=>by kernel_rfl
theorem ZNi:Zj Tryz.prog 183 (ZJD Y0):=okF (ZMR Yl) Tryz.func183 Zf (Zs _ (.cons Zav .nil) .nil .nil .nil (Zr _))
abbrev ZJC (f:ZEw):Zd:=⟨[.one (.P),.one (.P)],[],fun t K Kp h=>f t.1 t.2.1 (fun h=>K (()) h) Kp h⟩
abbrev ZNI (f3:zT3) (f16:ZEy) (f15:Zun) (f17:ZEx):Cfg:=ZD Tryz.prog [(98,zk3 f3),(298,ZJE f16),(163,⟨[.one (.S)],[.one (.B)],fun t K _ h=>f15 t.1 (fun r0 h=>K (r0,()) h) h⟩),(183,ZJD f17)] 67 [] [] [] ZE
theorem ZMQ (f3:zT3) (f16:ZEy) (f15:Zun) (f17:ZEx):ZI (ZNI f3 f16 f15 f17) Tryz.f241 (.seq .leaf (.block (.loop [4] [.one (.I .i64)] [(5,66)] (.seq (.block (.cut [] [] [(8,26)] .leaf (.seq .leaf (.cut [] [] [(42,53)] .leaf .leaf)))) .leaf)))) (ZJC (Zdl f3 f16 f15 f17)):=fun _ _ _ _=>by kernel_rfl
theorem ZNh:Zj Tryz.prog 241 (ZJC ZaD):=okF (ZMQ Zp ZdM Z6 Y0) Tryz.func241 Zf (Zs _ (.cons zo3 (.cons ZNj (.cons XG (.cons ZNi .nil)))) .nil .nil .nil (Zr _))
abbrev ZFO (f:ZAj):Zd:=⟨[.one (.P)],[.one (.S)],fun t K Kp h=>f t.1 (fun r0 h=>K (r0,()) h) Kp h⟩
abbrev ZNH (f2:zT2) (f3:zT3) (f4:zT4) (f13:ZEz) (f6:zT6) (f18:ZEw):Cfg:=ZD Tryz.prog [(166,zk2 f2),(98,zk3 f3),(115,⟨[.one (.P)],[.one (.S)],fun t K _ h=>f4 t.1 (fun r0 h=>K (r0,()) h) h⟩),(240,ZJF f13),(184,zk6 f6),(241,ZJC f18)] 72 [] [] [] ZE
theorem ZMP (f2:zT2) (f3:zT3) (f4:zT4) (f13:ZEz) (f6:zT6) (f18:ZEw):ZI (ZNH f2 f3 f4 f13 f6 f18) Tryz.f168 (.seq .leaf (.seq .leaf (.seq .leaf (.block (.loop [] [] [(2,2),(4,4),(12,71)] (.block (.seq .leaf (.block (.cut [16] [.one (.B)] [(17,30)] .leaf .leaf))))))))) (ZFO (ZdV f2 f3 f4 f13 f6 f18)):=fun _ _ _ _=>by kernel_rfl
theorem ZMj:Zj Tryz.prog 168 (ZFO XI):=okF (ZMP Zx Zp Zae Zaq Yu ZaD) Tryz.func168 Zf (Zs _ (.cons zo2 (.cons zo3 (.cons ZfU (.cons ZNk (.cons zo6 (.cons ZNh .nil)))))) .nil .nil .nil (Zr _))
abbrev Zyx (f:ZnA):Zd:=⟨[.one (.P),.one (.I .i64)],[.agg [.I .u8,.S,.L,.L]],fun t K Kp h=>f t.1 t.2.1 (fun r0 h=>K (r0,()) h) Kp h⟩
abbrev ZJB (f:ZEv):Zd:=⟨[.one (.P),.one (.P),.one (.I .i64)],[],fun t K Kp h=>f t.1 t.2.1 t.2.2.1 (fun h=>K (()) h) Kp h⟩
abbrev ZNF (f1:zT1) (f2:zT2) (f3:zT3) (f19:ZAj) (f20:ZnA):Cfg:=ZD Tryz.prog [(97,zk1 f1),(166,zk2 f2),(98,zk3 f3),(168,ZFO f19),(96,Zyx f20)] 66 [] [] [] ZE
theorem ZMN (f1:zT1) (f2:zT2) (f3:zT3) (f19:ZAj) (f20:ZnA):ZI (ZNF f1 f2 f3 f19 f20) Tryz.f239 (.seq .leaf (.cut [] [] [(8,50)] (.seq .leaf (.cond (.cut [] [] [(13,21)] .leaf (.seq (.order (tkS [1,3,5,7,11,9,12,14,16,18,20,22])) (.seq .leaf (.cut [] [] [(35,43)] .leaf .leaf)))) .leaf)) (.seq (.order (.take 0 true (.take 1 true (.take 2 true (.take 4 true (.take 5 true (.take 3 true (.take 7 true (.fork 6 (.take 8 false (.take 9 false (.take 10 true (.take 12 true (.take 13 true (.fork 11 (.take 14 false .done) 14 (.take 11 false .done))))))) 8 (.take 6 false (.take 9 false (.take 10 true (.take 12 true (.take 13 true (.fork 11 (.take 14 false .done) 14 (.take 11 false .done)))))))))))))))) .leaf))) (ZJB (ZdW f1 f2 f3 f19 f20)):=fun _ _ _ _=>by kernel_rfl
theorem ZM2 (f20:ZnA) (hH:Zj Tryz.prog 96 (Zyx f20)):Zj Tryz.prog 239 (ZJB (ZaR f20)):=okF (ZMN Z5 Zx Zp XI f20) Tryz.func239 Zf (Zs _ (.cons zo1 (.cons zo2 (.cons zo3 (.cons ZMj (.cons hH .nil))))) .nil .nil .nil (Zr _)) (hlen:=Awt rfl)
abbrev ZJA (f:ZEu):Zd:=⟨[.one (.P),.one (.I .u8),.one (.I .u8),.one (.I .i64)],[.agg [.I .u8,.S,.L,.L]],fun t K Kp h=>f t.1 t.2.1 t.2.2.1 t.2.2.2.1 (fun r0 h=>K (r0,()) h) Kp h⟩
abbrev ZNE (f3:zT3) (f1:zT1) (f2:zT2) (f21:ZEv):Cfg:=ZD Tryz.prog [(98,zk3 f3),(97,zk1 f1),(166,zk2 f2),(239,ZJB f21)] 77 [] [] [] ZE
theorem ZMM (f3:zT3) (f1:zT1) (f2:zT2) (f21:ZEv):ZI (ZNE f3 f1 f2 f21) Tryz.f167 (.seq .leaf (.cut [] [] [(10,17)] .leaf (.seq .leaf (.seq .leaf (.seq .leaf (.seq (.block (.loop [] [] [(29,68)] (.cut [] [] [(29,44)] .leaf (.block (.cut [] [] [(45,64)] (.seq .leaf (.cond (.cut [] [] [(49,57)] .leaf .leaf) .leaf)) .leaf))))) .leaf)))))) (ZJA (ZbJ f3 f1 f2 f21)):=fun _ _ _ _=>by kernel_rfl
theorem ZM1 (f20:ZnA) (hH:Zj Tryz.prog 96 (Zyx f20)):Zj Tryz.prog 167 (ZJA (Xc f20)):=okF (ZMM Zp Z5 Zx (ZaR f20)) Tryz.func167 Zf (Zs _ (.cons zo3 (.cons zo1 (.cons zo2 (.cons (ZM2 f20 hH) .nil)))) .nil .nil .nil (Zr _)) (hlen:=Awt rfl)
abbrev ZJz (f:ZEt):Zd:=⟨[.one (.P),.one (.S),.one (.I .u8)],[.agg [.I .u8,.S,.L,.L]],fun t K Kp h=>f t.1 t.2.1 t.2.2.1 (fun r0 h=>K (r0,()) h) Kp h⟩
abbrev ZND (f2:zT2) (f3:zT3):Cfg:=ZD Tryz.prog [(166,zk2 f2),(98,zk3 f3)] 47 [] [] [] ZE
theorem ZML (f2:zT2) (f3:zT3):ZI (ZND f2 f3) Tryz.f169 (.seq .leaf (.seq (.seq .leaf (.block (.loop [10] [.one (.I .i64)] [(7,7),(11,44)] (.seq .leaf (.seq .leaf (.seq (.block (.seq .leaf (.cut [] [] [(13,36)] .leaf .leaf))) .leaf)))))) .leaf)) (ZJz (ZdU f2 f3)):=fun _ _ _ _=>by kernel_rfl
theorem ZNf:Zj Tryz.prog 169 (ZJz ZaV):=okF (ZML Zx Zp) Tryz.func169 Zf (Zs _ (.cons zo2 (.cons zo3 .nil)) .nil .nil .nil (Zr _))
abbrev ZJy (f:ZEs):Zd:=⟨[.one (.P)],[],fun t K Kp h=>f t.1 (fun h=>K (()) h) Kp h⟩
abbrev ZNC (f2:zT2) (f3:zT3):Cfg:=ZD Tryz.prog [(166,zk2 f2),(98,zk3 f3)] 35 [] [] [] ZE
theorem ZMK (f2:zT2) (f3:zT3):ZI (ZNC f2 f3) Tryz.f242 (.cut [] [] [(2,2),(4,17)] .leaf (.seq .leaf (.block (.loop [3] [.one (.I .u8)] [(20,34)] .leaf)))) (ZJy (ZcS f2 f3)):=fun _ _ _ _=>by kernel_rfl
theorem ZNe:Zj Tryz.prog 242 (ZJy YQ):=okF (ZMK Zx Zp) Tryz.func242 Zf (Zs _ (.cons zo2 (.cons zo3 .nil)) .nil .nil .nil (Zr _))
abbrev ZJx (f:ZEr):Zd:=⟨[.one (.P)],[.agg [.I .u8,.S,.L,.L]],fun t K Kp h=>f t.1 (fun r0 h=>K (r0,()) h) Kp h⟩
abbrev ZNB (f2:zT2) (f3:zT3) (f24:ZEs):Cfg:=ZD Tryz.prog [(166,zk2 f2),(98,zk3 f3),(242,ZJy f24)] 102 [] [] [] ZE
theorem ZMJ (f2:zT2) (f3:zT3) (f24:ZEs):ZI (ZNB f2 f3 f24) Tryz.f170 (.seq .leaf (.seq .leaf (.cut [] [] [(11,20)] .leaf (.cut [] [] [(4,4),(21,46)] .leaf (.cut [] [] [(47,58)] .leaf (.cut [] [] [(5,6),(59,90)] .leaf (.seq (.order (tkS [1,3,5,9,11,13,15,7,17,18,20,22])) .leaf))))))) (ZJx (ZcQ f2 f3 f24)):=fun _ _ _ _=>by kernel_rfl
theorem ZNd:Zj Tryz.prog 170 (ZJx XN):=okF (ZMJ Zx Zp YQ) Tryz.func170 Zf (Zs _ (.cons zo2 (.cons zo3 (.cons ZNe .nil))) .nil .nil .nil (Zr _))
abbrev ZNG (f1:zT1) (f2:zT2) (f3:zT3) (f22:ZEu) (f19:ZAj) (f23:ZEt) (f25:ZEr):Cfg:=ZD Tryz.prog [(97,zk1 f1),(166,zk2 f2),(98,zk3 f3),(167,ZJA f22),(168,ZFO f19),(169,ZJz f23),(170,ZJx f25)] 80 [] [] [] ZE
theorem ZMO (f1:zT1) (f2:zT2) (f3:zT3) (f22:ZEu) (f19:ZAj) (f23:ZEt) (f25:ZEr):ZI (ZNG f1 f2 f3 f22 f19 f23 f25) Tryz.f96 (.seq .leaf (.seq .leaf (.cut [] [] [(5,5),(8,72)] .leaf .leaf))) (Zyx (Zdk f1 f2 f3 f22 f19 f23 f25)):=fun _ _ _ _=>by kernel_rfl
theorem ZM3 (f20:ZnA) (hH:Zj Tryz.prog 96 (Zyx f20)):Zj Tryz.prog 96 (Zyx (ZbB f20)):=okF (ZMO Z5 Zx Zp (Xc f20) XI ZaV XN) Tryz.func96 Zf (Zs _ (.cons zo1 (.cons zo2 (.cons zo3 (.cons (ZM1 f20 hH) (.cons ZMj (.cons ZNf (.cons ZNd .nil))))))) .nil .nil .nil (Zr _)) (hlen:=Awt rfl)
theorem ZMi:∀ n,Zj Tryz.prog 96 (Zyx (XC n))
 | 0=>Zlo Tryz.func96 (by kernel_rfl) (by kernel_rfl) fun _ _ _ _ h=>h
 | n+1=>ZM3 _ (ZMi n)
theorem ZNg:Zj Tryz.prog 96 (Zyx ZbE):=Zw0 ZMi
def sq1:Code->Code
  | .seq x _=>x
  | c=>c
def sq2:Code->Code
  | .seq _ y=>y
  | c=>c
def Zzs:Code:=Tryz.f25.body.getD .skip
def pA:Code:=sq1 Zzs
def pB:Code:=sq1 (sq2 Zzs)
def pR:Code:=sq2 (sq2 (sq2 Zzs))
def pD:Code:=sq1 (sq2 (sq2 Zzs))
theorem Zzr:Tryz.f25.body=some (.seq pA (.seq pB (.seq pD pR))):=by kernel_rfl
abbrev Zpz:List VT:=[.agg [.I .u8,.S,.L,.L],.one (.I .i64),.one (.I .i64)]
def Zzt (p:Value->HP):Cfg:={ ZD Tryz.prog [(96,Zyx ZbE),(97,zk1 Z5),(98,zk3 Zp)] 32 [] [] [] ZE with pan:=p,rnd:=none }
theorem Zq8 (p:Value->HP):(Zzt p).OK:=(Zs (ZD Tryz.prog [(96,Zyx ZbE),(97,zk1 Z5),(98,zk3 Zp)] 32 [] [] [] ZE) (.cons ZNg (.cons zo1 (.cons zo3 .nil))) .nil .nil .nil (Zr _)).at none p
def ZyA (K:Xw Zpz->HP) (e:Env) (h:Zc):Prop:=Zuo (Zzt fun _ _=>False) e h Tryz.f25.results.toList fun vs=>match Xw.un Zpz vs with
  | some r=>K r h
  | none=>False
def ZDS (b2 b3 b4:Nat):Env:=⟨fun j=>bif Nat.beq j 2 then some (.adr b2 0) else bif Nat.beq j 3 then some (.adr b3 0) else bif Nat.beq j 4 then some (.adr b4 0) else none,.no⟩
def ZLI (b2 b3 b4:Nat) (E:HP) (v:Value) (h:Zc):Prop:=∃ e n,v = .iface 160 (.agg #[.int .i64 e,.int .i64 n])/\ZFS b2 b3 b4 e n E h
def clo (b2 b3 b4:Nat):Deferred:={ target:= .fn (.func 95) #[.pointer (some ⟨b2,0,none⟩),.pointer (some ⟨b3,0,none⟩),.pointer (some ⟨b4,0,none⟩)],args:= #[]}
def ZMp (e:Env) (b2 b3 b4:Nat):Env:=⟨fun j=>bif Nat.beq j 10 then none else e.f j,.raw [clo b2 b3 b4]⟩
def prd (s:ByteArray) (K:Xw Zpz->HP) (h:Zc):Prop :=
  wpC (Zzt fun _ _=>False) (.seq pA pB) .leaf (ZiS [.val (.string s)]) h fun x e h'=>match x with
    | .ret=>ZyA K e h'
    | .normal=>match e.f 2,e.f 3,e.f 4 with
      | some (.adr b2 0),some (.adr b3 0),some (.adr b4 0)=>wpC (Zzt (ZLI b2 b3 b4 (ZyA K (ZDS b2 b3 b4)))) pR .leaf (ZMp e b2 b3 b4) h' fun x e2 h2=>match x with
          | .normal=>ZyA K e2 h2
          | .ret=>ZyA K e2 h2
          | .exit _=>False
      | _,_,_=>False
    | .exit _=>False
theorem Zq1 {e:Env} {a:Act} {w:World} {K:Xw Zpz->HP} (hag:∀ j v,e j=some v->a.tmps[j]?=some v.v) (h:ZyA K e w.heap):∃ v,(results Tryz.f25 a.tmps).run Tryz.prog w = .ok v w/\∃ r,v=ZAB Zpz r/\K r w.heap:=by
  have hag':Agr a.tmps.size ⟨e.f,.raw a.defers⟩ a:=⟨rfl,rfl,hag⟩
  have h':Zuo { Zzt (fun _ _=>False) with n:=a.tmps.size } ⟨e.f,.raw a.defers⟩ w.heap Tryz.f25.results.toList fun vs=>match Xw.un Zpz vs with
    | some r=>K r w.heap
    | none=>False:=h
  obtain ⟨vs,hr,hk⟩:=Zi9 (c:={ Zzt (fun _ _=>False) with n:=a.tmps.size }) (f:=fun
    | .tmp t=>pure (a.tmps.getD t undef)
    | .cell x t=>do loadVar t (<- asAddr (a.tmps.getD x undef))) hag' (fun _=>rfl) (fun _ _=>rfl) h'
  split at hk
  ·rename_i r hun
   refine ⟨ZAB Zpz r,?_,r,rfl,hk⟩
   unfold results
   rw [Axb]
   simp only [Awk,Sem.run_map]
   refine (congrArg (fun r=>(Result.andThen (Result.andThen r _) _)) hr).trans ?_
   simp only [Awl,Awp]
   rw [ZwM hun]
   exact congrArg (fun v=>Result.ok v w) (Zpk _)
  ·exact hk.elim
def ZFz:Code:=Tryz.f95.body.getD .skip
def cl1:Code:=sq1 ZFz
def cl2:Code:=sq2 ZFz
theorem Zs4:Tryz.f95.body=some (.seq cl1 cl2):=by kernel_rfl
def ZFT:Ann:= .block (.seq .leaf (.cond .leaf (.seq .leaf (.cond (.seq .leaf (.order (tkS [1,3,7,5,9,10,12,14]))) .leaf))))
def ZDD:Cfg:={ ZD Tryz.prog [] 17 [] [] [] ZE with pan:=fun _ _=>False,rnd:=none }
theorem Zx9:ZDD.OK:=(Zs (ZD Tryz.prog [] 17 [] [] [] ZE) .nil .nil .nil .nil (Zr _)).at none _
def ptr (b:Nat):Value:= .pointer (some ⟨b,0,none⟩)
def ZDT (b2 b3 b4:Nat) (v:Value):Env:=⟨fun j=>bif Nat.beq j 0 then some (.val (.pointer (some ⟨b2,0,none⟩))) else bif Nat.beq j 1 then some (.val (.pointer (some ⟨b3,0,none⟩))) else bif Nat.beq j 2 then some (.val (.pointer (some ⟨b4,0,none⟩))) else bif Nat.beq j 6 then some (.val v) else none,.no⟩
theorem Znm {b2 b3 b4:Nat} {x:Value} {j:Nat} {v:EV} (h:(ZDT b2 b3 b4 x).f j=some v):(j=0/\v = .val (ptr b2))\/(j=1/\v = .val (ptr b3))\/(j=2/\v = .val (ptr b4))\/(j=6/\v = .val x):=by
  unfold ZDT at h
  dsimp only at h
  cases h0:Nat.beq j 0 with
  | true=>rw [h0] at h;cases h;exact .inl ⟨Awg h0,rfl⟩
  | false =>
    rw [h0] at h
    cases h1:Nat.beq j 1 with
    | true=>rw [h1] at h;cases h;exact .inr (.inl ⟨Awg h1,rfl⟩)
    | false =>
      rw [h1] at h
      cases h2:Nat.beq j 2 with
      | true=>rw [h2] at h;cases h;exact .inr (.inr (.inl ⟨Awg h2,rfl⟩))
      | false =>
        rw [h2] at h
        cases h6:Nat.beq j 6 with
        | true=>rw [h6] at h;cases h;exact .inr (.inr (.inr ⟨Awg h6,rfl⟩))
        | false=>rw [h6] at h;cases h
def Zzw (E:HP):Ex->Env->Zc->Prop
  | .normal,_,h=>E h
  | _,_,_=>False
theorem rdC (b2 b3 b4:Nat) (e n:Int) (E:HP) (h:Zc):wpC ZDD cl2 ZFT (ZDT b2 b3 b4 (.iface 160 (.agg #[.int .i64 e,.int .i64 n]))) h (Zzw E)=ZFS b2 b3 b4 e n E h:=by kernel_rfl
theorem ZAR:cl1 = .region 0 #[⟨some 6,.call ⟨.builtin .recover,#[],#[]⟩,20, "json.go:273", #[],none⟩] false:=by kernel_rfl
theorem Zxa {l:List Nat} (h:ZbL l mkN=false):mkN∉l:=by
  induction l with
  | nil=>intro h9;cases h9
  | cons x xs ih =>
    intro h9
    simp only [ZbL] at h
    cases hx:Nat.beq mkN x with
    | true=>rw [hx] at h;cases h
    | false =>
      rw [hx] at h
      rcases Awr.1 h9 with h9 | h9
      ·rw [<- h9,Axx] at hx;cases hx
      ·exact ih h h9
set_option maxRecDepth 100000 in
theorem ZrH {b2 b3 b4:Nat} {e n:Int} {E:HP} {w:World} (hk:ZFS b2 b3 b4 e n E w.heap) :
    CallsD Tryz.prog 95 #[ptr b2,ptr b3,ptr b4] (.panicking [{ v:= .iface 160 (.agg #[.int .i64 e,.int .i64 n]),recovered:=false }]) w fun e' u' w' =>
      e' = .returned (.tuple #[])/\u' = .panicking [{ v:= .iface 160 (.agg #[.int .i64 e,.int .i64 n]),recovered:=true }]/\Fw.Same w w'/\E w'.heap:=by
  refine callsD_of_wpS Tryz.func95 Zs4 fun c₀ cs hu=>?_
  apply wpS_seq
  rw [ZAR]
  apply wpS_region
  simp [wpOpsS,go_sem,recoverD,hu,Tryz.ntmps95,Exit.thenS]
  refine wpS_of_wp ((wpIn_wide (n:=0)).1 (wpIn_mono (Zan cl2 ZDD Zx9 Zf ZFT (ZDT b2 b3 b4 (.iface 160 (.agg #[.int .i64 e,.int .i64 n]))) _ w (Zzw E) ?_ (by rw [rdC];exact hk)) ?_))
  ·refine ⟨by simp [ZDD,ZD,ptr],rfl,fun j v hj=>?_⟩
   have hv:(j=0/\v = .val (ptr b2))\/(j=1/\v = .val (ptr b3))\/(j=2/\v = .val (ptr b4))\/(j=6/\v = .val (.iface 160 (.agg #[.int .i64 e,.int .i64 n]))):=Znm hj
   rcases hv with ⟨rfl,rfl⟩ | ⟨rfl,rfl⟩ | ⟨rfl,rfl⟩ | ⟨rfl,rfl⟩<;>simp [EV.v,Aya]
  ·intro ex a' w' hp
   cases ex with
   | normal =>
     obtain ⟨e',h1,h2,h3,h4⟩:=hp
     have hd:=h3.2 (Zxa (by kernel_rfl))
     exact ⟨hd,_,rfl,.tuple #[],by simp [results,Tryz.results95],rfl,rfl,h2,h4⟩
   | ret=>obtain ⟨e',h1,h2,h3,h4⟩:=hp;exact h4.elim
   | exit id=>obtain ⟨e',h1,h2,h3,h4⟩:=hp;exact h4.elim
   | goto t=>exact hp.elim
   | outgrown=>exact hp.elim
   | panic ch=>obtain ⟨v,h1,h2,h3,h4⟩:=hp;exact h4.elim
theorem rdN (b2 b3 b4:Nat) (E:HP) (h:Zc):wpC ZDD cl2 ZFT (ZDT b2 b3 b4 .nilIface) h (Zzw E)=(Znb .nilIface fun b=>Zz b (E h) False):=by kernel_rfl
set_option maxRecDepth 100000 in
theorem Zt3 {b2 b3 b4:Nat} {w:World}:CallsD Tryz.prog 95 #[ptr b2,ptr b3,ptr b4] .returning w fun e' u' w'=>e' = .returned (.tuple #[])/\u' = .returning/\Fw.Same w w'/\w'.heap=w.heap:=by
  refine callsD_of_wpS Tryz.func95 Zs4 fun c₀ cs hu=>?_
  apply wpS_seq
  rw [ZAR]
  apply wpS_region
  simp [wpOpsS,go_sem,recoverD,hu,Tryz.ntmps95,Exit.thenS]
  refine wpS_of_wp ((wpIn_wide (n:=0)).1 (wpIn_mono (Zan cl2 ZDD Zx9 Zf ZFT (ZDT b2 b3 b4 .nilIface) _ w (Zzw fun h=>h=w.heap) ?_ (by rw [rdN];exact .inl ⟨rfl,Zn rfl rfl⟩)) ?_))
  ·refine ⟨by simp [ZDD,ZD,ptr],rfl,fun j v hj=>?_⟩
   have hv:(j=0/\v = .val (ptr b2))\/(j=1/\v = .val (ptr b3))\/(j=2/\v = .val (ptr b4))\/(j=6/\v = .val .nilIface):=Znm hj
   rcases hv with ⟨rfl,rfl⟩ | ⟨rfl,rfl⟩ | ⟨rfl,rfl⟩ | ⟨rfl,rfl⟩<;>simp [EV.v,Aya]
  ·intro ex a' w' hp
   cases ex with
   | normal =>
     obtain ⟨e',h1,h2,h3,h4⟩:=hp
     have hd:=h3.2 (Zxa (by kernel_rfl))
     refine ⟨hd,.returning,?_,.tuple #[],by simp [results,Tryz.results95],rfl,rfl,h2,h4⟩
     cases c₀
     simp_all
   | ret=>obtain ⟨e',h1,h2,h3,h4⟩:=hp;exact h4.elim
   | exit id=>obtain ⟨e',h1,h2,h3,h4⟩:=hp;exact h4.elim
   | goto t=>exact hp.elim
   | outgrown=>exact hp.elim
   | panic ch=>obtain ⟨v,h1,h2,h3,h4⟩:=hp;exact h4.elim
theorem ZLJ:pD = .region 3 #[⟨some 10,.makeFunc (.func 95) #[] #[.tmp 2,.tmp 3,.tmp 4],1, "json.go:272", #[],none⟩,⟨none,.defer ⟨.value (.tmp 10),#[],#[]⟩,0, "json.go:272", #[⟨0,.data⟩],none⟩] false:=by kernel_rfl
theorem wpD {a:Act} {w:World} {Q:Exit->Act->World->Prop} {b2 b3 b4:Nat} (h2:a.tmps[2]?=some (ptr b2)) (h3:a.tmps[3]?=some (ptr b3)) (h4:a.tmps[4]?=some (ptr b4)) (hd:a.defers=[]) (hs:a.tmps.size=32)
    (h:pR.wp Tryz.prog Q { tmps:=a.tmps.setIfInBounds 10 (.func (.func 95) #[] #[ptr b2,ptr b3,ptr b4]),defers:=[clo b2 b3 b4]} w):(Code.seq pD pR).wp Tryz.prog Q a w:=by
  apply wp_seq
  rw [ZLJ]
  apply wp_region
  have hmf:∀ (fn:Fn) (first cap:Array Value) (w:World),(Instr.makeFunc fn first cap).run Tryz.prog w = .ok (.func fn first cap) w:=fun _ _ _ _=>rfl
  have e2:a.eval (.tmp 2)=ptr b2:=by simp [Act.eval,h2]
  have e3:a.eval (.tmp 3)=ptr b3:=by simp [Act.eval,h3]
  have e4:a.eval (.tmp 4)=ptr b4:=by simp [Act.eval,h4]
  have e10:({ tmps:=a.tmps.setIfInBounds 10 (.func (.func 95) #[] #[ptr b2,ptr b3,ptr b4]),defers:=[]}:Act).eval (.tmp 10) = .func (.func 95) #[] #[ptr b2,ptr b3,ptr b4]:=by simp [Act.eval,hs]
  obtain ⟨tm,df⟩:=a
  dsimp only at hd hs h2 h3 h4
  subst hd
  show wpOps _ _ _ [0,1] _ _
  simp [wpOps,go_sem,hmf,e2,e3,e4,e10,Exit.then]
  refine .inl (.inl ?_)
  have g2:tm[2]'(by omega)=ptr b2:=(Ayd.1 h2).2
  have g3:tm[3]'(by omega)=ptr b3:=(Ayd.1 h3).2
  have g4:tm[4]'(by omega)=ptr b4:=(Ayd.1 h4).2
  simp [g2,g3,g4,hs,Oper.upon]
  exact h
theorem nR:ZbL (Fw.dstsOf pR) mkN=false/\ZbL (Fw.dstsOf pR) 2=false/\ZbL (Fw.dstsOf pR) 3=false/\ZbL (Fw.dstsOf pR) 4=false/\ZbL (Fw.dstsOf pA) mkN=false/\ZbL (Fw.dstsOf pB) mkN=false:=⟨by kernel_rfl,by kernel_rfl,by kernel_rfl,by kernel_rfl,by kernel_rfl,by kernel_rfl⟩
theorem Zei {l:List Nat} {j:Nat} (h:ZbL l j=false):j∉l:=by
  induction l with
  | nil=>intro h9;cases h9
  | cons x xs ih =>
    intro h9
    simp only [ZbL] at h
    cases hx:Nat.beq j x with
    | true=>rw [hx] at h;cases h
    | false =>
      rw [hx] at h
      rcases Awr.1 h9 with h9 | h9
      ·rw [<- h9,Axx] at hx;cases hx
      ·exact ih h h9
theorem Zud {b2 b3 b4 j:Nat} {v:EV} (h:(ZDS b2 b3 b4).f j=some v):(j=2/\v = .adr b2 0)\/(j=3/\v = .adr b3 0)\/(j=4/\v = .adr b4 0):=by
  unfold ZDS at h
  dsimp only at h
  cases h0:Nat.beq j 2 with
  | true=>rw [h0] at h;cases h;exact .inl ⟨Awg h0,rfl⟩
  | false =>
    rw [h0] at h
    cases h1:Nat.beq j 3 with
    | true=>rw [h1] at h;cases h;exact .inr (.inl ⟨Awg h1,rfl⟩)
    | false =>
      rw [h1] at h
      cases h2:Nat.beq j 4 with
      | true=>rw [h2] at h;cases h;exact .inr (.inr ⟨Awg h2,rfl⟩)
      | false=>rw [h2] at h;cases h
set_option maxRecDepth 100000 in
theorem Zyg {a:Act} {w w3:World} {K:Xw Zpz->HP} {b2 b3 b4:Nat} {e3:Env} (hag:∀ j v,e3 j=some v->a.tmps[j]?=some v.v) (hd:a.defers=[clo b2 b3 b4]) (hs:Fw.Same w w3) (hk:ZyA K e3 w3.heap) :
    Leaves Tryz.prog Tryz.f25 a.tmps (Zen Zpz w K fun _ _=>False) a.defers .returning w3:=by
  rw [hd]
  unfold clo
  refine leaves_cons (f:=95) (args:= #[ptr b2,ptr b3,ptr b4]) (by simp) (by simp [go_sem,ptr]) (Zt3.mono ?_)
  rintro e u w4 ⟨rfl,rfl,h1,h2⟩
  have hk4:ZyA K e3 w4.heap:=by rw [h2];exact hk
  obtain ⟨v,hv,r,rfl,hr⟩:=Zq1 hag hk4
  exact ⟨_,hv,.inl ⟨r,rfl,hs.trans h1,hr⟩⟩
set_option maxRecDepth 100000 in
theorem Zzv {a:Act} {w w3:World} {K:Xw Zpz->HP} {b2 b3 b4:Nat} {v:Value} (h2:a.tmps[2]?=some (ptr b2)) (h3:a.tmps[3]?=some (ptr b3)) (h4:a.tmps[4]?=some (ptr b4)) (hd:a.defers=[clo b2 b3 b4]) (hs:Fw.Same w w3)
    (hk:ZLI b2 b3 b4 (ZyA K (ZDS b2 b3 b4)) v w3.heap):Leaves Tryz.prog Tryz.f25 a.tmps (Zen Zpz w K fun _ _=>False) a.defers (.panicking [{ v,recovered:=false }]) w3:=by
  obtain ⟨e,n,rfl,hc⟩:=hk
  rw [hd]
  unfold clo
  refine leaves_cons (f:=95) (args:= #[ptr b2,ptr b3,ptr b4]) (by simp) (by simp [go_sem,ptr]) ((ZrH hc).mono ?_)
  rintro e' u w4 ⟨rfl,rfl,g1,g2⟩
  have hag:∀ j v,(ZDS b2 b3 b4) j=some v->a.tmps[j]?=some v.v:=fun j v hj=>by
    have hv:(j=2/\v = .adr b2 0)\/(j=3/\v = .adr b3 0)\/(j=4/\v = .adr b4 0):=Zud hj
    rcases hv with ⟨rfl,rfl⟩ | ⟨rfl,rfl⟩ | ⟨rfl,rfl⟩
    ·exact h2
    ·exact h3
    ·exact h4
  obtain ⟨v,hv,r,rfl,hr⟩:=Zq1 hag g2
  exact ⟨_,hv,.inl ⟨r,rfl,hs.trans g1,hr⟩⟩
theorem ZL9 {s:ByteArray}:Agr 32 (ZiS [.val (.string s)]) { tmps:= #[.string s]++Array.replicate 31 undef,defers:=[]}:=by
  refine ⟨by simp,rfl,fun j v hj=>?_⟩
  obtain ⟨k,hk,hv⟩:=Zj6 [.val (.string s)] 0 j v hj
  cases k with
  | zero=>simp at hk hv;subst hk hv;simp [EV.v]
  | succ k=>simp at hv
theorem Zz2 {e:Env} {a:Act} {b2 b3 b4:Nat} {x:Value} (h:Agr 32 e a):Agr 32 (ZMp e b2 b3 b4) { tmps:=a.tmps.setIfInBounds 10 x,defers:=[clo b2 b3 b4]}:=by
  refine ⟨by simp [h.size],rfl,fun j v hj=>?_⟩
  have hj':(bif Nat.beq j 10 then none else e.f j)=some v:=hj
  cases h10:Nat.beq j 10 with
  | true=>rw [h10] at hj';cases hj'
  | false =>
    rw [h10] at hj'
    have hne:10≠j:=fun h9=>by rw [<- h9] at h10;cases h10
    show (a.tmps.setIfInBounds 10 x)[j]?=_
    rw [Awj hne]
    exact h.val j v hj'
set_option maxRecDepth 100000 in
theorem Zq9 {s:ByteArray} {K:Xw Zpz->HP} {w:World} (hk:prd s K w.heap):Calls Tryz.prog 25 #[.string s] w (Zen Zpz w K fun _ _=>False):=by
  refine calls_of_wp_defers Tryz.func25 Zzr ?_
  show (Code.seq pA (.seq pB (.seq pD pR))).wp Tryz.prog _ { tmps:= #[.string s]++Array.replicate 31 undef,defers:=[]} w
  obtain ⟨q1,q2,q3,q4,q5,q6⟩:=nR
  have stop:∀ {a:Act} {w1:World} {e:Env},Agr 32 e a->Fw.Same w w1->a.defers=[]->ZyA K e w1.heap->Leaves Tryz.prog Tryz.f25 a.tmps (Zen Zpz w K fun _ _=>False) a.defers .returning w1:=fun {a w1 e} g1 g2 g3 g4=>by
    rw [g3]
    obtain ⟨v,hv,r,rfl,hr⟩:=Zq1 g1.val g4
    exact ⟨_,hv,.inl ⟨r,rfl,g2,hr⟩⟩
  unfold prd at hk
  have hA:=Zan pA (Zzt fun _ _=>False) (Zq8 _) Zf .leaf _ _ w _ ZL9 hk
  refine wp_seq ((wpIn_wide (n:=0)).1 (wpIn_mono hA ?_))
  intro ex a1 w1 hp
  cases ex with
  | goto t=>exact hp.elim
  | outgrown=>exact hp.elim
  | panic ch=>obtain ⟨v,h1,h2,h3,h4⟩:=hp;exact h4.elim
  | exit id=>obtain ⟨e1,g1,g2,g3,g4⟩:=hp;exact g4.elim
  | ret =>
    obtain ⟨e1,g1,g2,g3,g4⟩:=hp
    exact stop g1 g2 (g3.2 (Zei q5)) g4
  | normal =>
    obtain ⟨e1,g1,g2,g3,g4⟩:=hp
    have d1:a1.defers=[]:=g3.2 (Zei q5)
    have hB:=Zan pB (Zzt fun _ _=>False) (Zq8 _) Zf .leaf _ _ w1 _ g1 g4
    refine wp_seq ((wpIn_wide (n:=0)).1 (wpIn_mono hB ?_))
    intro ex a2 w2 hp
    cases ex with
    | goto t=>exact hp.elim
    | outgrown=>exact hp.elim
    | panic ch=>obtain ⟨v,h1,h2,h3,h4⟩:=hp;exact h4.elim
    | exit id=>obtain ⟨e2,j1,j2,j3,j4⟩:=hp;exact j4.elim
    | ret =>
      obtain ⟨e2,j1,j2,j3,j4⟩:=hp
      exact stop j1 (g2.trans j2) ((j3.2 (Zei q6)).trans d1) j4
    | normal =>
      obtain ⟨e2,j1,j2,j3,j4⟩:=hp
      have d2:a2.defers=[]:=(j3.2 (Zei q6)).trans d1
      dsimp only at j4
      split at j4
      case h_2=>exact j4.elim
      rename_i b2 b3 b4 h2 h3 h4
      have t2:=j1.val 2 _ h2
      have t3:=j1.val 3 _ h3
      have t4:=j1.val 4 _ h4
      refine wpD t2 t3 t4 d2 j1.size ?_
      have hR:=Zan pR (Zzt (ZLI b2 b3 b4 (ZyA K (ZDS b2 b3 b4)))) (Zq8 _) Zf .leaf _ _ w2 _ (Zz2 (x:= .func (.func 95) #[] #[ptr b2,ptr b3,ptr b4]) j1) j4
      refine (wpIn_wide (n:=0)).1 (wpIn_mono hR ?_)
      intro ex a3 w3 hp
      cases ex with
      | goto t=>exact hp.elim
      | outgrown=>exact hp.elim
      | exit id=>obtain ⟨e3,k1,k2,k3,k4⟩:=hp;exact k4.elim
      | normal =>
        obtain ⟨e3,k1,k2,k3,k4⟩:=hp
        exact Zyg k1.val (k3.2 (Zei q1)) ((g2.trans j2).trans k2) k4
      | ret =>
        obtain ⟨e3,k1,k2,k3,k4⟩:=hp
        exact Zyg k1.val (k3.2 (Zei q1)) ((g2.trans j2).trans k2) k4
      | panic ch =>
        obtain ⟨v,rfl,k2,k3,k4⟩:=hp
        have e2:=(k3.1 2 (Zei q2)).trans (show (a2.tmps.setIfInBounds 10 _)[2]?=some (ptr b2) by rw [Awj (by decide)];exact t2)
        have e3:=(k3.1 3 (Zei q3)).trans (show (a2.tmps.setIfInBounds 10 _)[3]?=some (ptr b3) by rw [Awj (by decide)];exact t3)
        have e4:=(k3.1 4 (Zei q4)).trans (show (a2.tmps.setIfInBounds 10 _)[4]?=some (ptr b4) by rw [Awj (by decide)];exact t4)
        exact Zzv e2 e3 e4 (k3.2 (Zei q1)) ((g2.trans j2).trans k2) k4
theorem rdP (s:ByteArray) (K:(Int × ByteArray × Sl × Sl × Unit)->Int->Int->HP) (h:Zc):prd s (fun r h=>K r.1 r.2.1 r.2.2.1 h) h=Zaz s K h:=by kernel_rfl
def Zpw:Zd:=⟨[.one (.S)],Zpz,fun t K _ h=>Zaz t.1 (fun r0 r1 r2 h=>K (r0,r1,r2,()) h) h⟩
set_option maxRecDepth 100000 in
theorem ZtP {s:ByteArray} {K:(Int × ByteArray × Sl × Sl × Unit)->Int->Int->HP} {w:World} (hk:Zaz s K w.heap):Calls Tryz.prog 25 #[.string s] w fun e w'=>∃ r:Xw Zpz,e = .returned (ZAB Zpz r)/\Fw.Same w w'/\K r.1 r.2.1 r.2.2.1 w'.heap:=by
  have hk':prd s (fun r h=>K r.1 r.2.1 r.2.2.1 h) w.heap:=(rdP s K w.heap).mpr hk
  refine (Zq9 hk').mono ?_
  rintro e w' (⟨r,he,hs,hr⟩ | ⟨v,he,hs,hr⟩)
  ·exact ⟨r,he,hs,hr⟩
  ·exact hr.elim
theorem Zjg:Zj Tryz.prog 25 Zpw where
  named:=⟨_,Tryz.func25,by kernel_rfl,by kernel_rfl⟩
  calls t K Kp w hk:=(ZtP (K:=fun r0 r1 r2 h=>K (r0,r1,r2,()) h) hk).mono fun e w' h9=>let ⟨r,he,hs,hr⟩:=h9;.inl ⟨r,he,hs,hr⟩
abbrev ZJw (f:ZEp):Zd:=⟨[.one (.S)],[.one (.B)],fun t K _ h=>f t.1 (fun r0 h=>K (r0,()) h) h⟩
abbrev ZNA (f26:ZCr):Cfg:=ZD Tryz.prog [(25,⟨[.one (.S)],[.agg [.I .u8,.S,.L,.L],.one (.I .i64),.one (.I .i64)],fun t K _ h=>f26 t.1 (fun r0 r1 r2 h=>K (r0,r1,r2,()) h) h⟩)] 25 [] [] [] ZE
theorem ZMI (f26:ZCr):ZI (ZNA f26) Tryz.f162 .leaf (ZJw (Zfy f26)):=fun _ _ _ _=>by kernel_rfl
theorem ZNc:Zj Tryz.prog 162 (ZJw Zcq):=okF (ZMI Zaz) Tryz.func162 Zf (Zs _ (.cons Zjg .nil) .nil .nil .nil (Zr _))
abbrev ZJv (f:ZEo):Zd:=⟨[.one (.S)],[.one (.B)],fun t K _ h=>f t.1 (fun r0 h=>K (r0,()) h) h⟩
abbrev ZNz (f15:Zun):Cfg:=ZD Tryz.prog [(163,⟨[.one (.S)],[.one (.B)],fun t K _ h=>f15 t.1 (fun r0 h=>K (r0,()) h) h⟩)] 6 [] [] [] ZE
theorem ZMH (f15:Zun):ZI (ZNz f15) Tryz.f165 .leaf (ZJv (Zga f15)):=fun _ _ _ _=>by kernel_rfl
theorem ZNb:Zj Tryz.prog 165 (ZJv Zel):=okF (ZMH Z6) Tryz.func165 Zf (Zs _ (.cons XG .nil) .nil .nil .nil (Zr _))
abbrev ZJu (f:ZEn):Zd:=⟨[.one (.L),.fn 165],[.one (.I .i64)],fun t K _ h=>f t.1 (fun r0 h=>K (r0,()) h) h⟩
abbrev ZNy (f48:ZEo):Cfg:=ZD Tryz.prog [(165,ZJv f48)] 19 [] [] [] ZE
theorem ZMG (f48:ZEo):ZI (ZNy f48) Tryz.f238 (.seq .leaf (.seq (.seq .leaf (.block (.loop [8] [.one (.I .i64)] [(4,5),(9,18)] .leaf))) .leaf)) (ZJu (YF f48)):=fun _ _ _ _=>by kernel_rfl
theorem ZNa:Zj Tryz.prog 238 (ZJu Yj):=okF (ZMG Zel) Tryz.func238 Zf (Zs _ (.cons ZNb .nil) .nil .nil .nil (Zr _))
abbrev ZJt (f:ZEm):Zd:=⟨[.one (.L),.fn 165],[.one (.B)],fun t K _ h=>f t.1 (fun r0 h=>K (r0,()) h) h⟩
abbrev ZNx (f49:ZEn):Cfg:=ZD Tryz.prog [(238,ZJu f49)] 9 [] [] [] ZE
theorem ZMF (f49:ZEn):ZI (ZNx f49) Tryz.f164 .leaf (ZJt (Yz f49)):=fun _ _ _ _=>by kernel_rfl
theorem ZM9:Zj Tryz.prog 164 (ZJt ZN):=okF (ZMF Yj) Tryz.func164 Zf (Zs _ (.cons ZNa .nil) .nil .nil .nil (Zr _))
abbrev ZJs (f:ZEl):Zd:=⟨[.agg [.I .u8,.S,.L,.L]],[.one (.B)],fun t K _ h=>f t.1 (fun r0 h=>K (r0,()) h) h⟩
abbrev ZNw (f47:ZEp) (f15:Zun) (f50:ZEm):Cfg:=ZD Tryz.prog [(162,ZJw f47),(163,⟨[.one (.S)],[.one (.B)],fun t K _ h=>f15 t.1 (fun r0 h=>K (r0,()) h) h⟩),(164,ZJt f50)] 86 [] [] [] ZE
theorem ZME (f47:ZEp) (f15:Zun) (f50:ZEm):ZI (ZNw f47 f15 f50) Tryz.f94 (.seq .leaf (.seq .leaf (.seq (.seq .leaf (.block (.cut [19] [.one (.B)] [(20,22)] .leaf .leaf))) .leaf))) (ZJs (ZhL f47 f15 f50)):=fun _ _ _ _=>by kernel_rfl
theorem ZM8:Zj Tryz.prog 94 (ZJs Zev):=okF (ZME Zcq Z6 ZN) Tryz.func94 Zf (Zs _ (.cons ZNc (.cons XG (.cons ZM9 .nil))) .nil .nil .nil (Zr _))
abbrev ZJr (f:ZEk):Zd:=⟨[.agg [.I .u8,.S,.L,.L]],[.one (.B)],fun t K _ h=>f t.1 (fun r0 h=>K (r0,()) h) h⟩
abbrev ZNv:Cfg:=ZD Tryz.prog [] 3 [] [] [] ZE
theorem ZMD:ZI (ZNv) Tryz.f119 .leaf (ZJr Zgb):=fun _ _ _ _=>by kernel_rfl
theorem ZM7:Zj Tryz.prog 119 (ZJr Zem):=okF (ZMD) Tryz.func119 Zf (Zs _ .nil .nil .nil .nil (Zr _))
abbrev Zyw (f:Zmu):Zd:=⟨[.one (.P),.agg [.I .u8,.S,.L,.L],.one (.I .i64),.one (.V)],[.one (.B)],fun t K _ h=>f t.1 t.2.1 t.2.2.1 t.2.2.2.1 (fun r0 h=>K (r0,()) h) h⟩
abbrev ZJq (f:ZEj):Zd:=⟨[.agg [.I .u8,.S,.L,.L],.one (.P),.one (.P),.one (.P)],[.one (.B)],fun t K _ h=>f t.1 t.2.1 t.2.2.1 t.2.2.2.1 (fun r0 h=>K (r0,()) h) h⟩
abbrev ZNt (f53:Zmu):Cfg:=ZD Tryz.prog [(93,Zyw f53)] 13 [] [] [] ZE
theorem ZMB (f53:Zmu):ZI (ZNt f53) Tryz.f161 .leaf (ZJq (Zdm f53)):=fun _ _ _ _=>by kernel_rfl
theorem ZMZ (f53:Zmu) (hH:Zj Tryz.prog 93 (Zyw f53)):Zj Tryz.prog 161 (ZJq (ZbC f53)):=okF (ZMB f53) Tryz.func161 Zf (Zs _ (.cons hH .nil) .nil .nil .nil (Zr _)) (hlen:=Awt rfl)
abbrev ZJp (f:ZEi):Zd:=⟨[.one (.L),.clo 161 [.P,.P,.P]],[.one (.I .i64)],fun t K _ h=>f t.1 t.2.1 (fun r0 h=>K (r0,()) h) h⟩
abbrev ZNs (f54:ZEj):Cfg:=ZD Tryz.prog [(161,ZJq f54)] 19 [] [] [] ZE
theorem ZMA (f54:ZEj):ZI (ZNs f54) Tryz.f236 (.seq .leaf (.seq (.seq .leaf (.block (.loop [8] [.one (.I .i64)] [(4,5),(9,18)] .leaf))) .leaf)) (ZJp (Yk f54)):=fun _ _ _ _=>by kernel_rfl
theorem ZMY (f53:Zmu) (hH:Zj Tryz.prog 93 (Zyw f53)):Zj Tryz.prog 236 (ZJp (ZP f53)):=okF (ZMA (ZbC f53)) Tryz.func236 Zf (Zs _ (.cons (ZMZ f53 hH) .nil) .nil .nil .nil (Zr _)) (hlen:=Awt rfl)
abbrev ZJo (f:ZEh):Zd:=⟨[.one (.L),.clo 161 [.P,.P,.P]],[.one (.B)],fun t K _ h=>f t.1 t.2.1 (fun r0 h=>K (r0,()) h) h⟩
abbrev ZNr (f55:ZEi):Cfg:=ZD Tryz.prog [(236,ZJp f55)] 9 [] [] [] ZE
theorem ZMz (f55:ZEi):ZI (ZNr f55) Tryz.f160 .leaf (ZJo (Yg f55)):=fun _ _ _ _=>by kernel_rfl
theorem ZMX (f53:Zmu) (hH:Zj Tryz.prog 93 (Zyw f53)):Zj Tryz.prog 160 (ZJo (Zy f53)):=okF (ZMz (ZP f53)) Tryz.func160 Zf (Zs _ (.cons (ZMY f53 hH) .nil) .nil .nil .nil (Zr _)) (hlen:=Awt rfl)
abbrev ZNu (f51:ZEl) (f52:ZEk) (f56:ZEh):Cfg:=ZD Tryz.prog [(94,ZJs f51),(119,ZJr f52),(160,ZJo f56)] 52 [] [] [] ZE [(94,[]),(119,[])]
theorem ZMC (f51:ZEl) (f52:ZEk) (f56:ZEh):ZI (ZNu f51 f52 f56) Tryz.f93 (.seq .leaf (.seq .leaf (.seq .leaf (.cut [] [] [(8,8),(27,34)] .leaf (.seq (.order (tkS [1,3,5,7,9,11,12,14,16,18,20])) .leaf))))) (Zyw (Zed f51 f52 f56)):=fun _ _ _ _=>by kernel_rfl
theorem ZM0 (f53:Zmu) (hH:Zj Tryz.prog 93 (Zyw f53)):Zj Tryz.prog 93 (Zyw (ZcF f53)):=okF (ZMC Zev Zem (Zy f53)) Tryz.func93 Zf (Zs _ (.cons ZM8 (.cons ZM7 (.cons (ZMX f53 hH) .nil))) .nil .nil .nil (Zr _)) (hlen:=Awt rfl)
theorem ZMh:∀ n,Zj Tryz.prog 93 (Zyw (X3 n))
 | 0=>Zlo Tryz.func93 (by kernel_rfl) (by kernel_rfl) fun _ _ _ _ h=>h
 | n+1=>ZM0 _ (ZMh n)
theorem ZM6:Zj Tryz.prog 93 (Zyw Zd6):=Zw0 ZMh
abbrev ZJn (f:ZEg):Zd:=⟨[.agg [.I .u8,.S,.L,.L]],[.one (.B)],fun t K _ h=>f t.1 (fun r0 h=>K (r0,()) h) h⟩
abbrev ZNq (f53:Zmu):Cfg:=ZD Tryz.prog [(93,Zyw f53)] 16 [] [] [] ZE
theorem ZMy (f53:Zmu):ZI (ZNq f53) Tryz.f22 .leaf (ZJn (ZhM f53)):=fun _ _ _ _=>by kernel_rfl
theorem ZM5:Zj Tryz.prog 22 (ZJn Zew):=okF (ZMy Zd6) Tryz.func22 Zf (Zs _ (.cons ZM6 .nil) .nil .nil .nil (Zr _))
abbrev ZJm (f:ZEf):Zd:=⟨[.one (.I .i64)],[.agg [.I .u8,.S,.L,.L]],fun t K _ h=>f t.1 (fun r0 h=>K (r0,()) h) h⟩
abbrev ZNp (f62:ZDO):Cfg:=ZD Tryz.prog [(31,⟨[.one (.I .i64)],[.one (.S)],fun t K _ h=>f62 t.1 (fun r0 h=>K (r0,()) h) h⟩)] 6 [] [] [] ZE
theorem ZMx (f62:ZDO):ZI (ZNp f62) Tryz.f30 .leaf (ZJm (ZhN f62)):=fun _ _ _ _=>by kernel_rfl
theorem ZM4:Zj Tryz.prog 30 (ZJm Zex):=okF (ZMx ZcY) Tryz.func30 Zf (Zs _ (.cons ZhC .nil) .nil .nil .nil (Zr _))
abbrev ZEc (f:Zuv):Zd:=⟨[.one (.S)],[.agg [.I .u8,.S,.L,.L]],fun t K _ h=>f t.1 (fun r0 h=>K (r0,()) h) h⟩
abbrev ZNo:Cfg:=ZD Tryz.prog [] 5 [] [] [] ZE
theorem ZMw:ZI (ZNo) Tryz.f32 .leaf (ZEc ZgX):=fun _ _ _ _=>by kernel_rfl
theorem ZHV:Zj Tryz.prog 32 (ZEc Zaw):=okF (ZMw) Tryz.func32 Zf (Zs _ .nil .nil .nil .nil (Zr _))
abbrev Znz (f:Zfd):Zd:=⟨[],[.one (.P)],fun _ K _ h=>f (fun r0 h=>K (r0,()) h) h⟩
abbrev ZLA:Cfg:=ZD Tryz.prog [] 4 [] [] [] ZE
theorem ZHP:ZI (ZLA) Tryz.f44 .leaf (Znz ZdS):=fun _ _ _ _=>by kernel_rfl
theorem ZqA:Zj Tryz.prog 44 (Znz ZS):=okF (ZHP) Tryz.func44 Zf (Zs _ .nil .nil .nil .nil (Zr _))
abbrev ZyP (f:Zo8):Zd:=⟨[.one (.L)],[.one (.L)],fun t K _ h=>f t.1 (fun r0 h=>K (r0,()) h) h⟩
abbrev ZLz:Cfg:=ZD Tryz.prog [] 8 [] [] [] ZE
theorem ZHO:ZI (ZLz) Tryz.f207 .leaf (ZyP Zal):=fun _ _ _ _=>by kernel_rfl
theorem ZEb:Zj Tryz.prog 207 (ZyP Yn):=okF (ZHO) Tryz.func207 Zf (Zs _ .nil .nil .nil .nil (Zr _))
abbrev ZCp (f:ZvU):Zd:=⟨[.one (.L)],[.one (.L)],fun t K _ h=>f t.1 (fun r0 h=>K (r0,()) h) h⟩
abbrev ZLy:Cfg:=ZD Tryz.prog [] 8 [] [] [] ZE
theorem ZHN:ZI (ZLy) Tryz.f208 .leaf (ZCp Xx):=fun _ _ _ _=>by kernel_rfl
theorem ZJl:Zj Tryz.prog 208 (ZCp Yv):=okF (ZHN) Tryz.func208 Zf (Zs _ .nil .nil .nil .nil (Zr _))
abbrev ZoX (f:Zh9):Zd:=⟨[.agg [.I .u8,.S,.L,.L]],[.agg [.I .u8,.S,.L,.L]],fun t K _ h=>f t.1 (fun r0 h=>K (r0,()) h) h⟩
abbrev ZLx (f124:Zo8) (f126:Zh9):Cfg:=ZD Tryz.prog [(207,ZyP f124),(209,ZoX f126)] 30 [] [] [] ZE
theorem ZHM (f124:Zo8) (f126:Zh9):ZI (ZLx f124 f126) Tryz.f209 (.seq .leaf (.cut [3] [.one (.P)] [(6,13)] (.order (.take 0 true (.take 2 true (.take 4 true (.take 1 true (.take 3 true (.take 5 true (.fork 6 (.take 7 true (.take 8 false (.take 9 false .done))) 8 (.take 6 false (.take 7 false (.take 9 false .done))))))))))) (.seq (.seq .leaf (.block (.loop [17] [.one (.I .i64)] [(5,5),(18,28)] (.seq .leaf (.seq .leaf (.seq (.block (.seq .leaf (.order (tkS [1,3,5,6,8,10,12,14])))) .leaf)))))) .leaf))) (ZoX (ZgV f124 f126)):=fun _ _ _ _=>by kernel_rfl
theorem ZHU (f126:Zh9) (hH:Zj Tryz.prog 209 (ZoX f126)):Zj Tryz.prog 209 (ZoX (ZeX f126)):=okF (ZHM Yn f126) Tryz.func209 Zf (Zs _ (.cons ZEb (.cons hH .nil)) .nil .nil .nil (Zr _)) (hlen:=Awt rfl)
theorem ZDZ:∀ n,Zj Tryz.prog 209 (ZoX (Zbj n))
 | 0=>Zlo Tryz.func209 (by kernel_rfl) (by kernel_rfl) fun _ _ _ _ h=>h
 | n+1=>ZHU _ (ZDZ n)
theorem ZEa:Zj Tryz.prog 209 (ZoX ZbF):=Zw0 ZDZ
abbrev ZCo (f:ZvT):Zd:=⟨[.agg [.I .u8,.S,.L,.L],.one (.S),.agg [.I .u8,.S,.L,.L]],[.agg [.I .u8,.S,.L,.L]],fun t K _ h=>f t.1 t.2.1 t.2.2.1 (fun r0 h=>K (r0,()) h) h⟩
abbrev ZLw (f124:Zo8) (f125:ZvU) (f126:Zh9):Cfg:=ZD Tryz.prog [(207,ZyP f124),(208,ZCp f125),(209,ZoX f126)] 30 [] [] [] ZE
theorem ZHL (f124:Zo8) (f125:ZvU) (f126:Zh9):ZI (ZLw f124 f125 f126) Tryz.f123 (.seq .leaf (.cut [] [] [(8,11)] .leaf (.seq (.order (.take 0 true (.take 2 true (.take 5 true (.take 1 true (.take 3 true (.inv [4,6,7,8,9] [16,18,19,20,7] [.one (.L),.one (.L),.one (.L),.agg [.I .u8,.S,.L,.L],.one (.P)] (.take 10 false .done)))))))) (.cut [] [] [(21,27)] (.order (.take 0 true (.take 1 true (.take 3 true (.fork 2 (.take 4 false (.take 5 false (.take 6 false (.take 7 false .done)))) 4 (.take 2 false (.take 5 false (.take 6 false (.take 7 false .done))))))))) .leaf)))) (ZCo (Zj0 f124 f125 f126)):=fun _ _ _ _=>by kernel_rfl
theorem ZJk:Zj Tryz.prog 123 (ZCo Zgr):=okF (ZHL Yn Yv ZbF) Tryz.func123 Zf (Zs _ (.cons ZEb (.cons ZJl (.cons ZEa .nil))) .nil .nil .nil (Zr _))
abbrev Zny (f:Zfc):Zd:=⟨[.one (.P),.one (.S),.agg [.I .u8,.S,.L,.L]],[.one (.P)],fun t K _ h=>f t.1 t.2.1 t.2.2.1 (fun r0 h=>K (r0,()) h) h⟩
abbrev ZLv (f127:ZvT):Cfg:=ZD Tryz.prog [(123,ZCo f127)] 18 [] [] [] ZE
theorem ZHK (f127:ZvT):ZI (ZLv f127) Tryz.f45 (.seq .leaf (.seq (.order (tkS [1,3,5,7,11,9,13,14,16,18,20])) .leaf)) (Zny (Zcy f127)):=fun _ _ _ _=>by kernel_rfl
theorem Zqz:Zj Tryz.prog 45 (Zny ZA):=okF (ZHK Zgr) Tryz.func45 Zf (Zs _ (.cons ZJk .nil) .nil .nil .nil (Zr _))
abbrev ZqF (f:Zhn):Zd:=⟨[.one (.P),.one (.S),.one (.S)],[.one (.P)],fun t K _ h=>f t.1 t.2.1 t.2.2.1 (fun r0 h=>K (r0,()) h) h⟩
abbrev ZLu (f92:Zuv) (f128:Zfc):Cfg:=ZD Tryz.prog [(32,ZEc f92),(45,Zny f128)] 12 [] [] [] ZE
theorem ZHJ (f92:Zuv) (f128:Zfc):ZI (ZLu f92 f128) Tryz.f125 .leaf (ZqF (Zb2 f92 f128)):=fun _ _ _ _=>by kernel_rfl
theorem Zut:Zj Tryz.prog 125 (ZqF ZU):=okF (ZHJ Zaw ZA) Tryz.func125 Zf (Zs _ (.cons ZHV (.cons Zqz .nil)) .nil .nil .nil (Zr _))
abbrev ZyO (f:Zo7):Zd:=⟨[.one (.B)],[.agg [.I .u8,.S,.L,.L]],fun t K _ h=>f t.1 (fun r0 h=>K (r0,()) h) h⟩
abbrev ZLt:Cfg:=ZD Tryz.prog [] 6 [] [] [] ZE
theorem ZHI:ZI (ZLt) Tryz.f126 .leaf (ZyO ZeK):=fun _ _ _ _=>by kernel_rfl
theorem ZD9:Zj Tryz.prog 126 (ZyO Zai):=okF (ZHI) Tryz.func126 Zf (Zs _ .nil .nil .nil .nil (Zr _))
abbrev ZqE (f:Zhm):Zd:=⟨[.one (.P),.one (.S),.one (.I .i64)],[.one (.P)],fun t K _ h=>f t.1 t.2.1 t.2.2.1 (fun r0 h=>K (r0,()) h) h⟩
abbrev ZLs (f63:ZEf) (f128:Zfc):Cfg:=ZD Tryz.prog [(30,ZJm f63),(45,Zny f128)] 12 [] [] [] ZE
theorem ZHH (f63:ZEf) (f128:Zfc):ZI (ZLs f63 f128) Tryz.f127 .leaf (ZqE (Zbq f63 f128)):=fun _ _ _ _=>by kernel_rfl
theorem Zus:Zj Tryz.prog 127 (ZqE ZJ):=okF (ZHH Zex ZA) Tryz.func127 Zf (Zs _ (.cons ZM4 (.cons Zqz .nil)) .nil .nil .nil (Zr _))
abbrev ZyN (f:Zo6):Zd:=⟨[],[.one (.L)],fun _ K _ h=>f (fun r0 h=>K (r0,()) h) h⟩
abbrev ZLr:Cfg:=ZD Tryz.prog [] 2 [] [] [] ZE
theorem ZHG:ZI (ZLr) Tryz.f128 .leaf (ZyN Zcw):=fun _ _ _ _=>by kernel_rfl
theorem ZD8:Zj Tryz.prog 128 (ZyN Xg):=okF (ZHG) Tryz.func128 Zf (Zs _ .nil .nil .nil .nil (Zr _))
abbrev ZyM (f:Zo5):Zd:=⟨[.one (.L),.one (.I .u8)],[.agg [.I .u8,.S,.L,.L]],fun t K _ h=>f t.1 t.2.1 (fun r0 h=>K (r0,()) h) h⟩
abbrev ZLq (f92:Zuv):Cfg:=ZD Tryz.prog [(32,ZEc f92)] 15 [] [] [] ZE
theorem ZHF (f92:Zuv):ZI (ZLq f92) Tryz.f129 (.seq .leaf (.cut [1] [.one (.I .u8)] [(5,9)] .leaf .leaf)) (ZyM (Zcv f92)):=fun _ _ _ _=>by kernel_rfl
theorem ZD7:Zj Tryz.prog 129 (ZyM Xf):=okF (ZHF Zaw) Tryz.func129 Zf (Zs _ (.cons ZHV .nil) .nil .nil .nil (Zr _))
abbrev ZyL (f:Zo4):Zd:=⟨[],[.one (.L)],fun _ K _ h=>f (fun r0 h=>K (r0,()) h) h⟩
abbrev ZLp:Cfg:=ZD Tryz.prog [] 2 [] [] [] ZE
theorem ZHE:ZI (ZLp) Tryz.f130 .leaf (ZyL Zd8):=fun _ _ _ _=>by kernel_rfl
theorem ZD6:Zj Tryz.prog 130 (ZyL X1):=okF (ZHE) Tryz.func130 Zf (Zs _ .nil .nil .nil .nil (Zr _))
abbrev ZCn (f:ZvS):Zd:=⟨[.agg [.S,.S,.B,.I .i64,.I .u8,.S,.I .u8,.I .i64,.I .i64,.B,.I .i64,.B]],[.one (.P)],fun t K _ h=>f t.1 (fun r0 h=>K (r0,()) h) h⟩
abbrev ZLo (f123:Zfd) (f129:Zhn) (f130:Zo7) (f128:Zfc) (f131:Zhm) (f132:Zo6) (f133:Zo5) (f134:Zo4):Cfg:=ZD Tryz.prog [(44,Znz f123),(125,ZqF f129),(126,ZyO f130),(45,Zny f128),(127,ZqE f131),(128,ZyN f132),(129,ZyM f133),(130,ZyL f134)] 51 [] [] [] ZE
theorem ZHD (f123:Zfd) (f129:Zhn) (f130:Zo7) (f128:Zfc) (f131:Zhm) (f132:Zo6) (f133:Zo5) (f134:Zo4):ZI (ZLo f123 f129 f130 f128 f131 f132 f133 f134) Tryz.f47 (.seq .leaf (.seq (.order (tkS [3,9,15,23,5,11,17,25,0,6,12,18,20,26,28])) (.seq (.order (tkS [1,5,13,21,7,15,23,2,8,10,16,18,24,26])) (.seq (.order (tkS [1,3,9,5,11,6,12])) (.seq (.order (tkS [1,3,11,17,5,13,19,6,8,14,20,22,24])) .leaf))))) (ZCn (Zfx f123 f129 f130 f128 f131 f132 f133 f134)):=fun _ _ _ _=>by kernel_rfl
theorem ZJj:Zj Tryz.prog 47 (ZCn Zcp):=okF (ZHD ZS ZU Zai ZA ZJ Xg Xf X1) Tryz.func47 Zf (Zs _ (.cons ZqA (.cons Zut (.cons ZD9 (.cons Zqz (.cons Zus (.cons ZD8 (.cons ZD7 (.cons ZD6 .nil)))))))) .nil .nil .nil (Zr _))
abbrev Znx (f:Zfb):Zd:=⟨[.one (.L)],[.agg [.I .u8,.S,.L,.L]],fun t K _ h=>f t.1 (fun r0 h=>K (r0,()) h) h⟩
abbrev ZLn (f126:Zh9):Cfg:=ZD Tryz.prog [(209,ZoX f126)] 6 [] [] [] ZE
theorem ZHC (f126:Zh9):ZI (ZLn f126) Tryz.f124 .leaf (Znx (ZiL f126)):=fun _ _ _ _=>by kernel_rfl
theorem Zqy:Zj Tryz.prog 124 (Znx Xh):=okF (ZHC ZbF) Tryz.func124 Zf (Zs _ (.cons ZEa .nil) .nil .nil .nil (Zr _))
abbrev ZCm (f:ZvR):Zd:=⟨[.one (.L),.fn 47],[.agg [.I .u8,.S,.L,.L]],fun t K _ h=>f t.1 (fun r0 h=>K (r0,()) h) h⟩
abbrev ZLm (f135:ZvS) (f136:Zfb):Cfg:=ZD Tryz.prog [(47,ZCn f135),(124,Znx f136)] 26 [] [] [] ZE
theorem ZHB (f135:ZvS) (f136:Zfb):ZI (ZLm f135 f136) Tryz.f46 (.seq .leaf (.seq .leaf (.seq (.seq .leaf (.block (.loop [5,10] [.one (.L),.one (.I .i64)] [(7,7),(11,23)] .leaf))) .leaf))) (ZCm (Y1 f135 f136)):=fun _ _ _ _=>by kernel_rfl
theorem ZJi:Zj Tryz.prog 46 (ZCm Yf):=okF (ZHB Zcp Xh) Tryz.func46 Zf (Zs _ (.cons ZJj (.cons Zqy .nil)) .nil .nil .nil (Zr _))
abbrev ZyK (f:Zo3):Zd:=⟨[],[.one (.L)],fun _ K _ h=>f (fun r0 h=>K (r0,()) h) h⟩
abbrev ZLl:Cfg:=ZD Tryz.prog [] 2 [] [] [] ZE
theorem ZHA:ZI (ZLl) Tryz.f131 .leaf (ZyK Zd9):=fun _ _ _ _=>by kernel_rfl
theorem ZD5:Zj Tryz.prog 131 (ZyK X2):=okF (ZHA) Tryz.func131 Zf (Zs _ .nil .nil .nil .nil (Zr _))
abbrev ZCl (f:ZvQ):Zd:=⟨[.agg [.S,.I .u8,.I .i64,.I .i64,.I .i64,.I .i64,.I .i64]],[.one (.P)],fun t K _ h=>f t.1 (fun r0 h=>K (r0,()) h) h⟩
abbrev ZLk (f123:Zfd) (f129:Zhn) (f138:Zo3) (f133:Zo5) (f128:Zfc) (f131:Zhm):Cfg:=ZD Tryz.prog [(44,Znz f123),(125,ZqF f129),(131,ZyK f138),(129,ZyM f133),(45,Zny f128),(127,ZqE f131)] 29 [] [] [] ZE
theorem ZHz (f123:Zfd) (f129:Zhn) (f138:Zo3) (f133:Zo5) (f128:Zfc) (f131:Zhm):ZI (ZLk f123 f129 f138 f133 f128 f131) Tryz.f49 (.seq .leaf (.seq (.order (tkS [3,11,19,5,13,21,0,6,8,14,16,22,24])) (.seq (.order (tkS [1,3,9,15,21,5,11,17,23,6,12,18,24,26])) .leaf))) (ZCl (Zea f123 f129 f138 f133 f128 f131)):=fun _ _ _ _=>by kernel_rfl
theorem ZJh:Zj Tryz.prog 49 (ZCl Zbg):=okF (ZHz ZS ZU X2 Xf ZA ZJ) Tryz.func49 Zf (Zs _ (.cons ZqA (.cons Zut (.cons ZD5 (.cons ZD7 (.cons Zqz (.cons Zus .nil)))))) .nil .nil .nil (Zr _))
abbrev ZCk (f:ZvP):Zd:=⟨[.one (.L),.fn 49],[.agg [.I .u8,.S,.L,.L]],fun t K _ h=>f t.1 (fun r0 h=>K (r0,()) h) h⟩
abbrev ZLj (f139:ZvQ) (f136:Zfb):Cfg:=ZD Tryz.prog [(49,ZCl f139),(124,Znx f136)] 26 [] [] [] ZE
theorem ZHy (f139:ZvQ) (f136:Zfb):ZI (ZLj f139 f136) Tryz.f48 (.seq .leaf (.seq .leaf (.seq (.seq .leaf (.block (.loop [5,10] [.one (.L),.one (.I .i64)] [(7,7),(11,23)] .leaf))) .leaf))) (ZCk (YV f139 f136)):=fun _ _ _ _=>by kernel_rfl
theorem ZJg:Zj Tryz.prog 48 (ZCk Z7):=okF (ZHy Zbg Xh) Tryz.func48 Zf (Zs _ (.cons ZJh (.cons Zqy .nil)) .nil .nil .nil (Zr _))
abbrev ZCj (f:ZvO):Zd:=⟨[.agg [.S,.I .i64]],[.one (.P)],fun t K _ h=>f t.1 (fun r0 h=>K (r0,()) h) h⟩
abbrev ZLi (f123:Zfd) (f129:Zhn) (f131:Zhm):Cfg:=ZD Tryz.prog [(44,Znz f123),(125,ZqF f129),(127,ZqE f131)] 10 [] [] [] ZE
theorem ZHx (f123:Zfd) (f129:Zhn) (f131:Zhm):ZI (ZLi f123 f129 f131) Tryz.f132 (.seq .leaf (.seq (.order (tkS [3,9,5,11,0,6,12,14])) .leaf)) (ZCj (ZeL f123 f129 f131)):=fun _ _ _ _=>by kernel_rfl
theorem ZJf:Zj Tryz.prog 132 (ZCj ZbU):=okF (ZHx ZS ZU ZJ) Tryz.func132 Zf (Zs _ (.cons ZqA (.cons Zut (.cons Zus .nil))) .nil .nil .nil (Zr _))
abbrev ZCi (f:ZvN):Zd:=⟨[.one (.L),.fn 132],[.agg [.I .u8,.S,.L,.L]],fun t K _ h=>f t.1 (fun r0 h=>K (r0,()) h) h⟩
abbrev ZLh (f141:ZvO) (f136:Zfb):Cfg:=ZD Tryz.prog [(132,ZCj f141),(124,Znx f136)] 26 [] [] [] ZE
theorem ZHw (f141:ZvO) (f136:Zfb):ZI (ZLh f141 f136) Tryz.f133 (.seq .leaf (.seq .leaf (.seq (.seq .leaf (.block (.loop [5,10] [.one (.L),.one (.I .i64)] [(7,7),(11,23)] .leaf))) .leaf))) (ZCi (YZ f141 f136)):=fun _ _ _ _=>by kernel_rfl
theorem ZJe:Zj Tryz.prog 133 (ZCi Yd):=okF (ZHw ZbU Xh) Tryz.func133 Zf (Zs _ (.cons ZJf (.cons Zqy .nil)) .nil .nil .nil (Zr _))
abbrev ZCh (f:ZvM):Zd:=⟨[.agg [.S,.I .i64,.I .i64,.I .i64,.L]],[.one (.P)],fun t K _ h=>f t.1 (fun r0 h=>K (r0,()) h) h⟩
abbrev ZLg (f123:Zfd) (f129:Zhn) (f131:Zhm) (f142:ZvN) (f128:Zfc):Cfg:=ZD Tryz.prog [(44,Znz f123),(125,ZqF f129),(127,ZqE f131),(133,ZCi f142),(45,Zny f128)] 24 [] [] [] ZE
theorem ZHv (f123:Zfd) (f129:Zhn) (f131:Zhm) (f142:ZvN) (f128:Zfc):ZI (ZLg f123 f129 f131 f142 f128) Tryz.f51 (.seq .leaf (.seq .leaf (.seq (.order (tkS [3,9,15,21,5,11,17,23,0,6,12,18,24,26])) .leaf))) (ZCh (Zf9 f123 f129 f131 f142 f128)):=fun _ _ _ _=>by kernel_rfl
theorem ZJd:Zj Tryz.prog 51 (ZCh Zc9):=okF (ZHv ZS ZU ZJ Yd ZA) Tryz.func51 Zf (Zs _ (.cons ZqA (.cons Zut (.cons Zus (.cons ZJe (.cons Zqz .nil))))) .nil .nil .nil (Zr _))
abbrev ZCg (f:ZvL):Zd:=⟨[.one (.L),.fn 51],[.agg [.I .u8,.S,.L,.L]],fun t K _ h=>f t.1 (fun r0 h=>K (r0,()) h) h⟩
abbrev ZLf (f143:ZvM) (f136:Zfb):Cfg:=ZD Tryz.prog [(51,ZCh f143),(124,Znx f136)] 26 [] [] [] ZE
theorem ZHu (f143:ZvM) (f136:Zfb):ZI (ZLf f143 f136) Tryz.f50 (.seq .leaf (.seq .leaf (.seq (.seq .leaf (.block (.loop [5,10] [.one (.L),.one (.I .i64)] [(7,7),(11,23)] .leaf))) .leaf))) (ZCg (Y7 f143 f136)):=fun _ _ _ _=>by kernel_rfl
theorem ZJc:Zj Tryz.prog 50 (ZCg Yh):=okF (ZHu Zc9 Xh) Tryz.func50 Zf (Zs _ (.cons ZJd (.cons Zqy .nil)) .nil .nil .nil (Zr _))
abbrev ZCf (f:ZvK):Zd:=⟨[.agg [.I .i64,.I .i64,.I .i64,.I .i64,.I .i64]],[.one (.P)],fun t K _ h=>f t.1 (fun r0 h=>K (r0,()) h) h⟩
abbrev ZLe (f123:Zfd) (f131:Zhm):Cfg:=ZD Tryz.prog [(44,Znz f123),(127,ZqE f131)] 19 [] [] [] ZE
theorem ZHt (f123:Zfd) (f131:Zhm):ZI (ZLe f123 f131) Tryz.f53 (.seq .leaf (.seq (.order (tkS [3,9,15,21,27,5,11,17,23,29,0,6,12,18,24,30,32])) .leaf)) (ZCf (Zd7 f123 f131)):=fun _ _ _ _=>by kernel_rfl
theorem ZJb:Zj Tryz.prog 53 (ZCf Zbd):=okF (ZHt ZS ZJ) Tryz.func53 Zf (Zs _ (.cons ZqA (.cons Zus .nil)) .nil .nil .nil (Zr _))
abbrev ZCe (f:ZvJ):Zd:=⟨[.one (.L),.fn 53],[.agg [.I .u8,.S,.L,.L]],fun t K _ h=>f t.1 (fun r0 h=>K (r0,()) h) h⟩
abbrev ZLd (f145:ZvK) (f136:Zfb):Cfg:=ZD Tryz.prog [(53,ZCf f145),(124,Znx f136)] 26 [] [] [] ZE
theorem ZHs (f145:ZvK) (f136:Zfb):ZI (ZLd f145 f136) Tryz.f52 (.seq .leaf (.seq .leaf (.seq (.seq .leaf (.block (.loop [5,10] [.one (.L),.one (.I .i64)] [(7,7),(11,23)] .leaf))) .leaf))) (ZCe (YK f145 f136)):=fun _ _ _ _=>by kernel_rfl
theorem ZJa:Zj Tryz.prog 52 (ZCe Z1):=okF (ZHs Zbd Xh) Tryz.func52 Zf (Zs _ (.cons ZJb (.cons Zqy .nil)) .nil .nil .nil (Zr _))
abbrev ZCd (f:ZvI):Zd:=⟨[.agg [.S,.B,.L]],[.one (.P)],fun t K _ h=>f t.1 (fun r0 h=>K (r0,()) h) h⟩
abbrev ZLc (f92:Zuv) (f123:Zfd) (f129:Zhn) (f130:Zo7) (f128:Zfc) (f136:Zfb):Cfg:=ZD Tryz.prog [(32,ZEc f92),(44,Znz f123),(125,ZqF f129),(126,ZyO f130),(45,Zny f128),(124,Znx f136)] 30 [] [] [] ZE
theorem ZHr (f92:Zuv) (f123:Zfd) (f129:Zhn) (f130:Zo7) (f128:Zfc) (f136:Zfb):ZI (ZLc f92 f123 f129 f130 f128 f136) Tryz.f55 (.seq .leaf (.seq .leaf (.seq (.seq .leaf (.block (.loop [3,9] [.one (.L),.one (.I .i64)] [(5,5),(10,18)] .leaf))) (.seq (.order (tkS [3,9,17,5,11,0,6,12,14,18,20,22])) .leaf)))) (ZCd (Zfw f92 f123 f129 f130 f128 f136)):=fun _ _ _ _=>by kernel_rfl
theorem ZI9:Zj Tryz.prog 55 (ZCd Zco):=okF (ZHr Zaw ZS ZU Zai ZA Xh) Tryz.func55 Zf (Zs _ (.cons ZHV (.cons ZqA (.cons Zut (.cons ZD9 (.cons Zqz (.cons Zqy .nil)))))) .nil .nil .nil (Zr _))
abbrev ZCc (f:ZvH):Zd:=⟨[.one (.L),.fn 55],[.agg [.I .u8,.S,.L,.L]],fun t K _ h=>f t.1 (fun r0 h=>K (r0,()) h) h⟩
abbrev ZLb (f147:ZvI) (f136:Zfb):Cfg:=ZD Tryz.prog [(55,ZCd f147),(124,Znx f136)] 26 [] [] [] ZE
theorem ZHq (f147:ZvI) (f136:Zfb):ZI (ZLb f147 f136) Tryz.f54 (.seq .leaf (.seq .leaf (.seq (.seq .leaf (.block (.loop [5,10] [.one (.L),.one (.I .i64)] [(7,7),(11,23)] .leaf))) .leaf))) (ZCc (YG f147 f136)):=fun _ _ _ _=>by kernel_rfl
theorem ZI8:Zj Tryz.prog 54 (ZCc ZV):=okF (ZHq Zco Xh) Tryz.func54 Zf (Zs _ (.cons ZI9 (.cons Zqy .nil)) .nil .nil .nil (Zr _))
abbrev ZCb (f:ZvG):Zd:=⟨[.agg [.L,.L,.L,.L,.L]],[.agg [.I .u8,.S,.L,.L]],fun t K _ h=>f t.1 (fun r0 h=>K (r0,()) h) h⟩
abbrev ZLa (f123:Zfd) (f137:ZvR) (f128:Zfc) (f140:ZvP) (f144:ZvL) (f146:ZvJ) (f148:ZvH):Cfg:=ZD Tryz.prog [(44,Znz f123),(46,ZCm f137),(45,Zny f128),(48,ZCk f140),(50,ZCg f144),(52,ZCe f146),(54,ZCc f148)] 29 [] [] [] ZE
theorem ZHp (f123:Zfd) (f137:ZvR) (f128:Zfc) (f140:ZvP) (f144:ZvL) (f146:ZvJ) (f148:ZvH):ZI (ZLa f123 f137 f128 f140 f144 f146 f148) Tryz.f14 (.seq .leaf (.seq (.order (tkS [3,11,19,5,13,21,0,6,8,14,16,22,24,26])) (.seq (.order (tkS [1,3,11,5,13,6,8,14,16,18,20,23,24])) .leaf))) (ZCb (ZdT f123 f137 f128 f140 f144 f146 f148)):=fun _ _ _ _=>by kernel_rfl
theorem ZI7:Zj Tryz.prog 14 (ZCb ZaU):=okF (ZHp ZS Yf ZA Z7 Yh Z1 ZV) Tryz.func14 Zf (Zs _ (.cons ZqA (.cons ZJi (.cons Zqz (.cons ZJg (.cons ZJc (.cons ZJa (.cons ZI8 .nil))))))) .nil .nil .nil (Zr _))
abbrev ZCa (f:ZvF):Zd:=⟨[.one (.I .i64),.one (.P),.one (.P)],[.clo 57 [.P,.P,.P]],fun t K _ h=>f t.1 t.2.1 t.2.2.1 (fun r0 h=>K (r0,()) h) h⟩
abbrev ZK9:Cfg:=ZD Tryz.prog [] 6 [] [] [] ZE
theorem ZHo:ZI (ZK9) Tryz.f56 .leaf (ZCa Zb8):=fun _ _ _ _=>by kernel_rfl
theorem ZI6:Zj Tryz.prog 56 (ZCa XY):=okF (ZHo) Tryz.func56 Zf (Zs _ .nil .nil .nil .nil (Zr _))
abbrev Zth (f:ZiV):Zd:=⟨[.one (.P),.one (.I .i64)],[],fun t K _ h=>f t.1 t.2.1 (fun h=>K (()) h) h⟩
abbrev ZK8:Cfg:=ZD Tryz.prog [] 13 [] [] [] ZE
theorem ZHn:ZI (ZK8) Tryz.f134 .leaf (Zth Zcu):=fun _ _ _ _=>by kernel_rfl
theorem ZyE:Zj Tryz.prog 134 (Zth Ye):=okF (ZHn) Tryz.func134 Zf (Zs _ .nil .nil .nil .nil (Zr _))
abbrev ZB9 (f:ZvE):Zd:=⟨[.one (.L),.one (.S)],[.one (.I .i64)],fun t K _ h=>f t.1 t.2.1 (fun r0 h=>K (r0,()) h) h⟩
abbrev ZK7:Cfg:=ZD Tryz.prog [] 19 [] [] [] ZE
theorem ZHm:ZI (ZK7) Tryz.f210 (.seq .leaf (.seq (.seq .leaf (.block (.loop [8] [.one (.I .i64)] [(4,5),(9,18)] .leaf))) .leaf)) (ZB9 Xv):=fun _ _ _ _=>by kernel_rfl
theorem ZI5:Zj Tryz.prog 210 (ZB9 Xu):=okF (ZHm) Tryz.func210 Zf (Zs _ .nil .nil .nil .nil (Zr _))
abbrev ZyJ (f:Zo2):Zd:=⟨[.one (.L),.one (.S)],[.one (.B)],fun t K _ h=>f t.1 t.2.1 (fun r0 h=>K (r0,()) h) h⟩
abbrev ZK6 (f152:ZvE):Cfg:=ZD Tryz.prog [(210,ZB9 f152)] 9 [] [] [] ZE
theorem ZHl (f152:ZvE):ZI (ZK6 f152) Tryz.f135 .leaf (ZyJ (XP f152)):=fun _ _ _ _=>by kernel_rfl
theorem ZD4:Zj Tryz.prog 135 (ZyJ ZY):=okF (ZHl Xu) Tryz.func135 Zf (Zs _ (.cons ZI5 .nil) .nil .nil .nil (Zr _))
abbrev Znw (f:Zfa):Zd:=⟨[.one (.P),.agg [.I .u8,.S,.L,.L],.one (.I .u8)],[.one (.B)],fun t K _ h=>f t.1 t.2.1 t.2.2.1 (fun r0 h=>K (r0,()) h) h⟩
abbrev ZK5 (f151:ZiV):Cfg:=ZD Tryz.prog [(134,Zth f151)] 19 [] [] [] ZE
theorem ZHk (f151:ZiV):ZI (ZK5 f151) Tryz.f58 .leaf (Znw (Zb0 f151)):=fun _ _ _ _=>by kernel_rfl
theorem Zqx:Zj Tryz.prog 58 (Znw Zw):=okF (ZHk Ye) Tryz.func58 Zf (Zs _ (.cons ZyE .nil) .nil .nil .nil (Zr _))
abbrev ZB8 (f:ZvD):Zd:=⟨[.agg [.I .u8,.S,.L,.L],.one (.P),.one (.P)],[],fun t K _ h=>f t.1 t.2.1 t.2.2.1 (fun h=>K (()) h) h⟩
abbrev ZK4 (f154:Zfa):Cfg:=ZD Tryz.prog [(58,Znw f154)] 11 [] [] [] ZE
theorem ZHj (f154:Zfa):ZI (ZK4 f154) Tryz.f211 .leaf (ZB8 (Zbm f154)):=fun _ _ _ _=>by kernel_rfl
theorem ZI4:Zj Tryz.prog 211 (ZB8 YT):=okF (ZHj Zw) Tryz.func211 Zf (Zs _ (.cons Zqx .nil) .nil .nil .nil (Zr _))
abbrev ZB7 (f:ZvC):Zd:=⟨[.agg [.I .u8,.S,.L,.L],.one (.P),.one (.P)],[],fun t K _ h=>f t.1 t.2.1 t.2.2.1 (fun h=>K (()) h) h⟩
abbrev ZK3 (f154:Zfa):Cfg:=ZD Tryz.prog [(58,Znw f154)] 15 [] [] [] ZE
theorem ZHi (f154:Zfa):ZI (ZK3 f154) Tryz.f212 .leaf (ZB7 (ZbH f154)):=fun _ _ _ _=>by kernel_rfl
theorem ZI3:Zj Tryz.prog 212 (ZB7 YY):=okF (ZHi Zw) Tryz.func212 Zf (Zs _ (.cons Zqx .nil) .nil .nil .nil (Zr _))
abbrev ZB6 (f:ZvB):Zd:=⟨[.agg [.I .u8,.S,.L,.L],.one (.P),.one (.P)],[],fun t K _ h=>f t.1 t.2.1 t.2.2.1 (fun h=>K (()) h) h⟩
abbrev ZK2 (f154:Zfa) (f72:ZLB) (f151:ZiV) (f62:ZDO):Cfg:=ZD Tryz.prog [(58,Znw f154),(108,⟨[.one (.S)],[.one (.I .i64),.one (.V)],fun t K _ h=>f72 t.1 (fun r0 r1 h=>K (r0,r1,()) h) h⟩),(134,Zth f151),(31,⟨[.one (.I .i64)],[.one (.S)],fun t K _ h=>f62 t.1 (fun r0 h=>K (r0,()) h) h⟩)] 32 [] [] [] ZE
theorem ZHh (f154:Zfa) (f72:ZLB) (f151:ZiV) (f62:ZDO):ZI (ZK2 f154 f72 f151 f62) Tryz.f213 (.seq .leaf (.seq .leaf (.seq .leaf (.seq (.seq (.order (tkS [0,2,4,7,11,13,8,14,16])) .leaf) .leaf)))) (ZB6 (ZaM f154 f72 f151 f62)):=fun _ _ _ _=>by kernel_rfl
theorem ZI2:Zj Tryz.prog 213 (ZB6 YB):=okF (ZHh Zw Zek Ye ZcY) Tryz.func213 Zf (Zs _ (.cons Zqx (.cons Zln (.cons ZyE (.cons ZhC .nil)))) .nil .nil .nil (Zr _))
abbrev ZB5 (f:ZvA):Zd:=⟨[.one (.L),.one (.S)],[.one (.I .i64)],fun t K _ h=>f t.1 t.2.1 (fun r0 h=>K (r0,()) h) h⟩
abbrev ZK1:Cfg:=ZD Tryz.prog [] 19 [] [] [] ZE
theorem ZHg:ZI (ZK1) Tryz.f215 (.seq .leaf (.seq (.seq .leaf (.block (.loop [8] [.one (.I .i64)] [(4,5),(9,18)] .leaf))) .leaf)) (ZB5 Zas):=fun _ _ _ _=>by kernel_rfl
theorem ZI1:Zj Tryz.prog 215 (ZB5 YO):=okF (ZHg) Tryz.func215 Zf (Zs _ .nil .nil .nil .nil (Zr _))
abbrev ZB4 (f:Zvz):Zd:=⟨[.one (.I .i64),.one (.P)],[],fun t K _ h=>f t.1 t.2.1 (fun h=>K (()) h) h⟩
abbrev ZK0:Cfg:=ZD Tryz.prog [] 6 [] [] [] ZE
theorem ZHf:ZI (ZK0) Tryz.f140 .leaf (ZB4 Zdv):=fun _ _ _ _=>by kernel_rfl
theorem ZI0:Zj Tryz.prog 140 (ZB4 Zbf):=okF (ZHf) Tryz.func140 Zf (Zs _ .nil .nil .nil .nil (Zr _))
abbrev ZB3 (f:Zvy):Zd:=⟨[.one (.I .i64),.one (.P)],[],fun t K _ h=>f t.1 t.2.1 (fun h=>K (()) h) h⟩
abbrev ZKZ:Cfg:=ZD Tryz.prog [] 6 [] [] [] ZE
theorem ZHe:ZI (ZKZ) Tryz.f141 .leaf (ZB3 Zdu):=fun _ _ _ _=>by kernel_rfl
theorem ZIZ:Zj Tryz.prog 141 (ZB3 Zbe):=okF (ZHe) Tryz.func141 Zf (Zs _ .nil .nil .nil .nil (Zr _))
abbrev ZB2 (f:Zvx):Zd:=⟨[.one (.I .i64),.one (.P)],[],fun t K _ h=>f t.1 t.2.1 (fun h=>K (()) h) h⟩
abbrev ZKY:Cfg:=ZD Tryz.prog [] 6 [] [] [] ZE
theorem ZHd:ZI (ZKY) Tryz.f142 .leaf (ZB2 ZcJ):=fun _ _ _ _=>by kernel_rfl
theorem ZIY:Zj Tryz.prog 142 (ZB2 ZaL):=okF (ZHd) Tryz.func142 Zf (Zs _ .nil .nil .nil .nil (Zr _))
abbrev ZB1 (f:Zvw):Zd:=⟨[.agg [.I .u8,.S,.L,.L],.one (.P),.one (.P),.one (.P)],[],fun t K _ h=>f t.1 t.2.1 t.2.2.1 t.2.2.2.1 (fun h=>K (()) h) h⟩
abbrev ZKX (f154:Zfa) (f158:ZvA) (f151:ZiV) (f159:Zvz) (f160:Zvy) (f161:Zvx):Cfg:=ZD Tryz.prog [(58,Znw f154),(215,ZB5 f158),(134,Zth f151),(140,ZB4 f159),(141,ZB3 f160),(142,ZB2 f161)] 23 [] [] [] ZE [(140,[.P]),(141,[.P]),(142,[.P])]
theorem ZHc (f154:Zfa) (f158:ZvA) (f151:ZiV) (f159:Zvz) (f160:Zvy) (f161:Zvx):ZI (ZKX f154 f158 f151 f159 f160 f161) Tryz.f214 .leaf (ZB1 (Zbl f154 f158 f151 f159 f160 f161)):=fun _ _ _ _=>by kernel_rfl
theorem ZIX:Zj Tryz.prog 214 (ZB1 YS):=okF (ZHc Zw YO Ye Zbf Zbe ZaL) Tryz.func214 Zf (Zs _ (.cons Zqx (.cons ZI1 (.cons ZyE (.cons ZI0 (.cons ZIZ (.cons ZIY .nil)))))) .nil .nil .nil (Zr _))
abbrev ZqD (f:Zhl):Zd:=⟨[.one (.P),.one (.P)],[.clo 211 [.P,.P]],fun t K _ h=>f t.1 t.2.1 (fun r0 h=>K (r0,()) h) h⟩
abbrev ZKW:Cfg:=ZD Tryz.prog [] 6 [] [] [] ZE
theorem ZHb:ZI (ZKW) Tryz.f136 .leaf (ZqD Zd3):=fun _ _ _ _=>by kernel_rfl
theorem Zur:Zj Tryz.prog 136 (ZqD Ya):=okF (ZHb) Tryz.func136 Zf (Zs _ .nil .nil .nil .nil (Zr _))
abbrev ZqC (f:Zhk):Zd:=⟨[.one (.P),.one (.P)],[.clo 213 [.P,.P]],fun t K _ h=>f t.1 t.2.1 (fun r0 h=>K (r0,()) h) h⟩
abbrev ZKV:Cfg:=ZD Tryz.prog [] 6 [] [] [] ZE
theorem ZHa:ZI (ZKV) Tryz.f138 .leaf (ZqC Zdt):=fun _ _ _ _=>by kernel_rfl
theorem Zuq:Zj Tryz.prog 138 (ZqC ZQ):=okF (ZHa) Tryz.func138 Zf (Zs _ .nil .nil .nil .nil (Zr _))
abbrev ZiT (f:ZcV):Zd:=⟨[.one (.P),.agg [.I .u8,.S,.L,.L],.one (.M)],[],fun t K _ h=>f t.1 t.2.1 t.2.2.1 (fun h=>K (()) h) h⟩
abbrev ZB0 (f:ZnB):Zd:=⟨[.agg [.I .u8,.S,.L,.L],.one (.P),.one (.P)],[],fun t K _ h=>f t.1 t.2.1 t.2.2.1 (fun h=>K (()) h) h⟩
abbrev ZKT (f163:Zhl) (f164:Zhk) (f165:ZcV):Cfg:=ZD Tryz.prog [(136,ZqD f163),(138,ZqC f164),(59,ZiT f165)] 22 [] [] [] ZE
theorem ZG8 (f163:Zhl) (f164:Zhk) (f165:ZcV):ZI (ZKT f163 f164 f165) Tryz.f143 (.seq .leaf (.seq .leaf (.seq (.order (.take 4 true (.take 8 true (.take 0 true (.take 1 true (.take 3 true (.take 7 true (.inv [2,5,6,9,10] [7,10,13] [.one (.M),.clo 211 [.P,.P],.clo 213 [.P,.P]] (.take 11 false (.take 12 false .done)))))))))) .leaf))) (ZB0 (ZbI f163 f164 f165)):=fun _ _ _ _=>by kernel_rfl
theorem ZHS (f165:ZcV) (hH:Zj Tryz.prog 59 (ZiT f165)):Zj Tryz.prog 143 (ZB0 (Xk f165)):=okF (ZG8 Ya ZQ f165) Tryz.func143 Zf (Zs _ (.cons Zur (.cons Zuq (.cons hH .nil))) .nil .nil .nil (Zr _)) (hlen:=Awt rfl)
abbrev ZBZ (f:Zvv):Zd:=⟨[.agg [.I .u8,.S,.L,.L],.one (.P),.one (.P)],[],fun t K _ h=>f t.1 t.2.1 t.2.2.1 (fun h=>K (()) h) h⟩
abbrev ZKS (f154:Zfa):Cfg:=ZD Tryz.prog [(58,Znw f154)] 14 [] [] [] ZE
theorem ZG7 (f154:Zfa):ZI (ZKS f154) Tryz.f145 .leaf (ZBZ (Zbo f154)):=fun _ _ _ _=>by kernel_rfl
theorem ZIW:Zj Tryz.prog 145 (ZBZ Yy):=okF (ZG7 Zw) Tryz.func145 Zf (Zs _ (.cons Zqx .nil) .nil .nil .nil (Zr _))
abbrev ZBY (f:ZqG):Zd:=⟨[.agg [.I .u8,.S,.L,.L],.one (.P),.one (.P)],[],fun t K _ h=>f t.1 t.2.1 t.2.2.1 (fun h=>K (()) h) h⟩
abbrev ZKR (f154:Zfa) (f166:ZnB) (f167:Zvv):Cfg:=ZD Tryz.prog [(58,Znw f154),(143,ZB0 f166),(145,ZBZ f167)] 27 [] [] [] ZE [(143,[.P,.P]),(145,[.P,.P])]
theorem ZG6 (f154:Zfa) (f166:ZnB) (f167:Zvv):ZI (ZKR f154 f166 f167) Tryz.f216 (.seq .leaf (.seq .leaf (.seq .leaf (.block (.loop [13] [.one (.I .i64)] [(5,5),(14,26)] .leaf))))) (ZBY (Xt f154 f166 f167)):=fun _ _ _ _=>by kernel_rfl
theorem ZHR (f165:ZcV) (hH:Zj Tryz.prog 59 (ZiT f165)):Zj Tryz.prog 216 (ZBY (Za4 f165)):=okF (ZG6 Zw (Xk f165) Yy) Tryz.func216 Zf (Zs _ (.cons Zqx (.cons (ZHS f165 hH) (.cons ZIW .nil))) .nil .nil .nil (Zr _)) (hlen:=Awt rfl)
abbrev ZBX (f:Zvu):Zd:=⟨[.agg [.I .u8,.S,.L,.L],.one (.P),.one (.P),.one (.P)],[],fun t K _ h=>f t.1 t.2.1 t.2.2.1 t.2.2.2.1 (fun h=>K (()) h) h⟩
abbrev ZKQ (f154:Zfa):Cfg:=ZD Tryz.prog [(58,Znw f154)] 12 [] [] [] ZE
theorem ZG5 (f154:Zfa):ZI (ZKQ f154) Tryz.f57 .leaf (ZBX (Zbr f154)):=fun _ _ _ _=>by kernel_rfl
theorem ZIV:Zj Tryz.prog 57 (ZBX YU):=okF (ZG5 Zw) Tryz.func57 Zf (Zs _ (.cons Zqx .nil) .nil .nil .nil (Zr _))
abbrev ZKU (f151:ZiV) (f153:Zo2) (f155:ZvD) (f156:ZvC) (f157:ZvB) (f162:Zvw) (f168:ZqG) (f169:Zvu):Cfg:=ZD Tryz.prog [(134,Zth f151),(135,ZyJ f153),(211,ZB8 f155),(212,ZB7 f156),(213,ZB6 f157),(214,ZB1 f162),(216,ZBY f168),(57,ZBX f169)] 64 [] [] [] ZE [(211,[.P,.P]),(212,[.P,.P]),(213,[.P,.P]),(214,[.P,.P,.P]),(216,[.P,.P]),(57,[.P,.P,.P])]
theorem ZG9 (f151:ZiV) (f153:Zo2) (f155:ZvD) (f156:ZvC) (f157:ZvB) (f162:Zvw) (f168:ZqG) (f169:Zvu):ZI (ZKU f151 f153 f155 f156 f157 f162 f168 f169) Tryz.f59 (.seq .leaf (.seq .leaf (.seq .leaf (.block (.loop [28] [.one (.I .i64)] [(6,8),(29,63)] .leaf))))) (ZiT (X5 f151 f153 f155 f156 f157 f162 f168 f169)):=fun _ _ _ _=>by kernel_rfl
theorem ZHT (f165:ZcV) (hH:Zj Tryz.prog 59 (ZiT f165)):Zj Tryz.prog 59 (ZiT (Xq f165)):=okF (ZG9 Ye ZY YT YY YB YS (Za4 f165) YU) Tryz.func59 Zf (Zs _ (.cons ZyE (.cons ZD4 (.cons ZI4 (.cons ZI3 (.cons ZI2 (.cons ZIX (.cons (ZHR f165 hH) (.cons ZIV .nil)))))))) .nil .nil .nil (Zr _)) (hlen:=Awt rfl)
theorem ZDY:∀ n,Zj Tryz.prog 59 (ZiT (ZF n))
 | 0=>Zlo Tryz.func59 (by kernel_rfl) (by kernel_rfl) fun _ _ _ _ h=>h
 | n+1=>ZHT _ (ZDY n)
theorem Ztf:Zj Tryz.prog 59 (ZiT ZG):=Zw0 ZDY
abbrev ZyI (f:Zo1):Zd:=⟨[.one (.P),.one (.P)],[.clo 212 [.P,.P]],fun t K _ h=>f t.1 t.2.1 (fun r0 h=>K (r0,()) h) h⟩
abbrev ZKP:Cfg:=ZD Tryz.prog [] 6 [] [] [] ZE
theorem ZG4:ZI (ZKP) Tryz.f137 .leaf (ZyI ZeA):=fun _ _ _ _=>by kernel_rfl
theorem ZD3:Zj Tryz.prog 137 (ZyI Xz):=okF (ZG4) Tryz.func137 Zf (Zs _ .nil .nil .nil .nil (Zr _))
abbrev ZBW (f:Zvt):Zd:=⟨[.one (.P),.one (.L),.clo 140 [.P]],[.clo 214 [.P,.P,.P]],fun t K _ h=>f t.1 t.2.1 t.2.2.1 (fun r0 h=>K (r0,()) h) h⟩
abbrev ZKO:Cfg:=ZD Tryz.prog [] 8 [] [] [] ZE
theorem ZG3:ZI (ZKO) Tryz.f139 .leaf (ZBW YM):=fun _ _ _ _=>by kernel_rfl
theorem ZIU:Zj Tryz.prog 139 (ZBW Z3):=okF (ZG3) Tryz.func139 Zf (Zs _ .nil .nil .nil .nil (Zr _))
abbrev ZBV (f:Zvs):Zd:=⟨[.one (.P),.one (.L),.clo 141 [.P]],[.clo 214 [.P,.P,.P]],fun t K _ h=>f t.1 t.2.1 t.2.2.1 (fun r0 h=>K (r0,()) h) h⟩
abbrev ZKN:Cfg:=ZD Tryz.prog [] 8 [] [] [] ZE
theorem ZG2:ZI (ZKN) Tryz.f139 .leaf (ZBV YL):=fun _ _ _ _=>by kernel_rfl
theorem ZIT:Zj Tryz.prog 139 (ZBV Z2):=okF (ZG2) Tryz.func139 Zf (Zs _ .nil .nil .nil .nil (Zr _))
abbrev ZBU (f:Zvr):Zd:=⟨[.one (.P),.agg [.I .u8,.S,.L,.L]],[.agg [.S,.S,.B,.I .i64,.I .u8,.S,.I .u8,.I .i64,.I .i64,.B,.I .i64,.B]],fun t K _ h=>f t.1 t.2.1 (fun r0 h=>K (r0,()) h) h⟩
abbrev ZKM (f163:Zhl) (f170:Zo1) (f164:Zhk) (f132:Zo6) (f171:Zvt) (f134:Zo4) (f172:Zvs) (f165:ZcV):Cfg:=ZD Tryz.prog [(136,ZqD f163),(137,ZyI f170),(138,ZqC f164),(128,ZyN f132),(139,ZBW f171),(130,ZyL f134),(139,ZBV f172),(59,ZiT f165)] 51 [] [] [] ZE
theorem ZG1 (f163:Zhl) (f170:Zo1) (f164:Zhk) (f132:Zo6) (f171:Zvt) (f134:Zo4) (f172:Zvs) (f165:ZcV):ZI (ZKM f163 f170 f164 f132 f171 f134 f172 f165) Tryz.f62 (.seq .leaf (.seq .leaf (.seq (.order (.take 0 true (.take 3 true (.take 4 true (.take 7 true (.take 8 true (.take 11 true (.take 12 true (.take 15 true (.take 16 true (.take 19 true (.take 21 true (.take 24 true (.take 25 true (.take 28 true (.take 30 true (.take 33 true (.take 34 true (.take 37 true (.take 38 true (.take 41 true (.take 42 true (.take 45 true (.take 46 true (.take 49 true (.take 50 true (.take 1 true (.inv [2,5,6,9,10,13,14,17,18,20,22,23,26,27,29,31,32,35,36,39,40,43,44,47,48,51,52] [9,12,15,18,21,23,25,28,30,32,35,38,41,44,47] [.one (.M),.clo 211 [.P,.P],.clo 211 [.P,.P],.clo 212 [.P,.P],.clo 213 [.P,.P],.one (.L),.clo 214 [.P,.P,.P],.clo 211 [.P,.P],.one (.L),.clo 214 [.P,.P,.P],.clo 213 [.P,.P],.clo 213 [.P,.P],.clo 212 [.P,.P],.clo 213 [.P,.P],.clo 212 [.P,.P]] (.take 53 false (.take 54 false .done)))))))))))))))))))))))))))))) .leaf))) (ZBU (Zb1 f163 f170 f164 f132 f171 f134 f172 f165)):=fun _ _ _ _=>by kernel_rfl
theorem ZIS:Zj Tryz.prog 62 (ZBU XS):=okF (ZG1 Ya Xz ZQ Xg Z3 X1 Z2 ZG) Tryz.func62 Zf (Zs _ (.cons Zur (.cons ZD3 (.cons Zuq (.cons ZD8 (.cons ZIU (.cons ZD6 (.cons ZIT (.cons Ztf .nil)))))))) .nil .nil .nil (Zr _))
abbrev ZBT (f:Zvq):Zd:=⟨[.one (.L),.fn 62],[.one (.L),.one (.I .i64),.one (.I .i64)],fun t K _ h=>f t.1 (fun r0 r1 r2 h=>K (r0,r1,r2,()) h) h⟩
abbrev ZKL (f173:Zvr):Cfg:=ZD Tryz.prog [(62,ZBU f173)] 41 [] [] [] ZE
theorem ZG0 (f173:Zvr):ZI (ZKL f173) Tryz.f61 (.seq .leaf (.seq .leaf (.seq (.seq .leaf (.block (.loop [7,13] [.one (.L),.one (.I .i64)] [(4,6),(8,10),(14,39)] .leaf))) .leaf))) (ZBT (YI f173)):=fun _ _ _ _=>by kernel_rfl
theorem ZIR:Zj Tryz.prog 61 (ZBT ZX):=okF (ZG0 XS) Tryz.func61 Zf (Zs _ (.cons ZIS .nil) .nil .nil .nil (Zr _))
abbrev ZBS (f:Zvp):Zd:=⟨[.one (.P),.one (.P)],[.one (.I .i64),.one (.I .i64)],fun t K _ h=>f t.1 t.2.1 (fun r0 r1 h=>K (r0,r1,()) h) h⟩
abbrev ZKK (f174:Zvq):Cfg:=ZD Tryz.prog [(61,ZBT f174)] 12 [] [] [] ZE
theorem ZGZ (f174:Zvq):ZI (ZKK f174) Tryz.f60 .leaf (ZBS (Zb7 f174)):=fun _ _ _ _=>by kernel_rfl
theorem ZIQ:Zj Tryz.prog 60 (ZBS XX):=okF (ZGZ ZX) Tryz.func60 Zf (Zs _ (.cons ZIR .nil) .nil .nil .nil (Zr _))
abbrev ZBR (f:Zvo):Zd:=⟨[.one (.P),.one (.L),.clo 142 [.P]],[.clo 214 [.P,.P,.P]],fun t K _ h=>f t.1 t.2.1 t.2.2.1 (fun r0 h=>K (r0,()) h) h⟩
abbrev ZKJ:Cfg:=ZD Tryz.prog [] 8 [] [] [] ZE
theorem ZGY:ZI (ZKJ) Tryz.f139 .leaf (ZBR YC):=fun _ _ _ _=>by kernel_rfl
theorem ZIP:Zj Tryz.prog 139 (ZBR ZT):=okF (ZGY) Tryz.func139 Zf (Zs _ .nil .nil .nil .nil (Zr _))
abbrev ZBQ (f:Zvn):Zd:=⟨[.one (.P),.agg [.I .u8,.S,.L,.L]],[.agg [.S,.I .u8,.I .i64,.I .i64,.I .i64,.I .i64,.I .i64]],fun t K _ h=>f t.1 t.2.1 (fun r0 h=>K (r0,()) h) h⟩
abbrev ZKI (f163:Zhl) (f138:Zo3) (f176:Zvo) (f164:Zhk) (f165:ZcV):Cfg:=ZD Tryz.prog [(136,ZqD f163),(131,ZyK f138),(139,ZBR f176),(138,ZqC f164),(59,ZiT f165)] 34 [] [] [] ZE
theorem ZGX (f163:Zhl) (f138:Zo3) (f176:Zvo) (f164:Zhk) (f165:ZcV):ZI (ZKI f163 f138 f176 f164 f165) Tryz.f65 (.seq .leaf (.seq .leaf (.seq (.order (.take 0 true (.take 3 true (.take 4 true (.take 7 true (.take 9 true (.take 12 true (.take 13 true (.take 16 true (.take 17 true (.take 20 true (.take 21 true (.take 24 true (.take 25 true (.take 28 true (.take 29 true (.take 1 true (.inv [2,5,6,8,10,11,14,15,18,19,22,23,26,27,30,31] [8,11,13,15,18,21,24,27,30] [.one (.M),.clo 211 [.P,.P],.one (.L),.clo 214 [.P,.P,.P],.clo 213 [.P,.P],.clo 213 [.P,.P],.clo 213 [.P,.P],.clo 213 [.P,.P],.clo 213 [.P,.P]] (.take 32 false (.take 33 false .done)))))))))))))))))))) .leaf))) (ZBQ (Zbp f163 f138 f176 f164 f165)):=fun _ _ _ _=>by kernel_rfl
theorem ZIO:Zj Tryz.prog 65 (ZBQ XB):=okF (ZGX Ya X2 ZT ZQ ZG) Tryz.func65 Zf (Zs _ (.cons Zur (.cons ZD5 (.cons ZIP (.cons Zuq (.cons Ztf .nil))))) .nil .nil .nil (Zr _))
abbrev ZBP (f:Zvm):Zd:=⟨[.one (.L),.fn 65],[.one (.L),.one (.I .i64),.one (.I .i64)],fun t K _ h=>f t.1 (fun r0 r1 r2 h=>K (r0,r1,r2,()) h) h⟩
abbrev ZKH (f177:Zvn):Cfg:=ZD Tryz.prog [(65,ZBQ f177)] 41 [] [] [] ZE
theorem ZGW (f177:Zvn):ZI (ZKH f177) Tryz.f64 (.seq .leaf (.seq .leaf (.seq (.seq .leaf (.block (.loop [7,13] [.one (.L),.one (.I .i64)] [(4,6),(8,10),(14,39)] .leaf))) .leaf))) (ZBP (YA f177)):=fun _ _ _ _=>by kernel_rfl
theorem ZIN:Zj Tryz.prog 64 (ZBP ZO):=okF (ZGW XB) Tryz.func64 Zf (Zs _ (.cons ZIO .nil) .nil .nil .nil (Zr _))
abbrev ZBO (f:Zvl):Zd:=⟨[.one (.P),.one (.P)],[.one (.I .i64),.one (.I .i64)],fun t K _ h=>f t.1 t.2.1 (fun r0 r1 h=>K (r0,r1,()) h) h⟩
abbrev ZKG (f178:Zvm):Cfg:=ZD Tryz.prog [(64,ZBP f178)] 12 [] [] [] ZE
theorem ZGV (f178:Zvm):ZI (ZKG f178) Tryz.f63 .leaf (ZBO (Zb6 f178)):=fun _ _ _ _=>by kernel_rfl
theorem ZIM:Zj Tryz.prog 63 (ZBO XW):=okF (ZGV ZO) Tryz.func63 Zf (Zs _ (.cons ZIN .nil) .nil .nil .nil (Zr _))
abbrev ZBN (f:Zvk):Zd:=⟨[.one (.P),.clo 143 [.P,.P]],[.clo 216 [.P,.P]],fun t K _ h=>f t.1 t.2.1 (fun r0 h=>K (r0,()) h) h⟩
abbrev ZKF:Cfg:=ZD Tryz.prog [] 6 [] [] [] ZE
theorem ZGU:ZI (ZKF) Tryz.f144 .leaf (ZBN YN):=fun _ _ _ _=>by kernel_rfl
theorem ZIL:Zj Tryz.prog 144 (ZBN Z4):=okF (ZGU) Tryz.func144 Zf (Zs _ .nil .nil .nil .nil (Zr _))
abbrev ZBM (f:Zvj):Zd:=⟨[.one (.P),.agg [.I .u8,.S,.L,.L]],[.agg [.S,.I .i64,.I .i64,.I .i64,.L]],fun t K _ h=>f t.1 t.2.1 (fun r0 h=>K (r0,()) h) h⟩
abbrev ZKE (f163:Zhl) (f164:Zhk) (f180:Zvk) (f165:ZcV):Cfg:=ZD Tryz.prog [(136,ZqD f163),(138,ZqC f164),(144,ZBN f180),(59,ZiT f165)] 29 [] [] [] ZE
theorem ZGT (f163:Zhl) (f164:Zhk) (f180:Zvk) (f165:ZcV):ZI (ZKE f163 f164 f180 f165) Tryz.f68 (.seq .leaf (.seq .leaf (.seq .leaf (.seq (.order (.take 4 true (.take 8 true (.take 12 true (.take 16 true (.take 20 true (.take 0 true (.take 1 true (.take 3 true (.take 7 true (.take 11 true (.take 15 true (.take 19 true (.inv [2,5,6,9,10,13,14,17,18,21,22] [10,13,16,19,22,25] [.one (.M),.clo 211 [.P,.P],.clo 213 [.P,.P],.clo 213 [.P,.P],.clo 213 [.P,.P],.clo 216 [.P,.P]] (.take 23 false (.take 24 false .done)))))))))))))))) .leaf)))) (ZBM (Zcx f163 f164 f180 f165)):=fun _ _ _ _=>by kernel_rfl
theorem ZIK:Zj Tryz.prog 68 (ZBM X9):=okF (ZGT Ya ZQ Z4 ZG) Tryz.func68 Zf (Zs _ (.cons Zur (.cons Zuq (.cons ZIL (.cons Ztf .nil)))) .nil .nil .nil (Zr _))
abbrev ZBL (f:Zvi):Zd:=⟨[.one (.L),.fn 68],[.one (.L),.one (.I .i64),.one (.I .i64)],fun t K _ h=>f t.1 (fun r0 r1 r2 h=>K (r0,r1,r2,()) h) h⟩
abbrev ZKD (f181:Zvj):Cfg:=ZD Tryz.prog [(68,ZBM f181)] 41 [] [] [] ZE
theorem ZGS (f181:Zvj):ZI (ZKD f181) Tryz.f67 (.seq .leaf (.seq .leaf (.seq (.seq .leaf (.block (.loop [7,13] [.one (.L),.one (.I .i64)] [(4,6),(8,10),(14,39)] .leaf))) .leaf))) (ZBL (YW f181)):=fun _ _ _ _=>by kernel_rfl
theorem ZIJ:Zj Tryz.prog 67 (ZBL Z8):=okF (ZGS X9) Tryz.func67 Zf (Zs _ (.cons ZIK .nil) .nil .nil .nil (Zr _))
abbrev ZBK (f:Zvh):Zd:=⟨[.one (.P),.one (.P)],[.one (.I .i64),.one (.I .i64)],fun t K _ h=>f t.1 t.2.1 (fun r0 r1 h=>K (r0,r1,()) h) h⟩
abbrev ZKC (f182:Zvi):Cfg:=ZD Tryz.prog [(67,ZBL f182)] 12 [] [] [] ZE
theorem ZGR (f182:Zvi):ZI (ZKC f182) Tryz.f66 .leaf (ZBK (Zb5 f182)):=fun _ _ _ _=>by kernel_rfl
theorem ZII:Zj Tryz.prog 66 (ZBK XV):=okF (ZGR Z8) Tryz.func66 Zf (Zs _ (.cons ZIJ .nil) .nil .nil .nil (Zr _))
abbrev ZBJ (f:Zvg):Zd:=⟨[.one (.P),.agg [.I .u8,.S,.L,.L]],[.agg [.I .i64,.I .i64,.I .i64,.I .i64,.I .i64]],fun t K _ h=>f t.1 t.2.1 (fun r0 h=>K (r0,()) h) h⟩
abbrev ZKB (f164:Zhk) (f165:ZcV):Cfg:=ZD Tryz.prog [(138,ZqC f164),(59,ZiT f165)] 28 [] [] [] ZE
theorem ZGQ (f164:Zhk) (f165:ZcV):ZI (ZKB f164 f165) Tryz.f71 (.seq .leaf (.seq .leaf (.seq (.order (.take 0 true (.take 3 true (.take 4 true (.take 7 true (.take 8 true (.take 11 true (.take 12 true (.take 15 true (.take 16 true (.take 19 true (.take 20 true (.take 1 true (.inv [2,5,6,9,10,13,14,17,18,21,22] [9,12,15,18,21,24] [.one (.M),.clo 213 [.P,.P],.clo 213 [.P,.P],.clo 213 [.P,.P],.clo 213 [.P,.P],.clo 213 [.P,.P]] (.take 23 false (.take 24 false .done)))))))))))))))) .leaf))) (ZBJ (Zbn f164 f165)):=fun _ _ _ _=>by kernel_rfl
theorem ZIH:Zj Tryz.prog 71 (ZBJ XA):=okF (ZGQ ZQ ZG) Tryz.func71 Zf (Zs _ (.cons Zuq (.cons Ztf .nil)) .nil .nil .nil (Zr _))
abbrev ZBI (f:Zvf):Zd:=⟨[.one (.L),.fn 71],[.one (.L),.one (.I .i64),.one (.I .i64)],fun t K _ h=>f t.1 (fun r0 r1 r2 h=>K (r0,r1,r2,()) h) h⟩
abbrev ZKA (f184:Zvg):Cfg:=ZD Tryz.prog [(71,ZBJ f184)] 41 [] [] [] ZE
theorem ZGP (f184:Zvg):ZI (ZKA f184) Tryz.f70 (.seq .leaf (.seq .leaf (.seq (.seq .leaf (.block (.loop [7,13] [.one (.L),.one (.I .i64)] [(4,6),(8,10),(14,39)] .leaf))) .leaf))) (ZBI (Yw f184)):=fun _ _ _ _=>by kernel_rfl
theorem ZIG:Zj Tryz.prog 70 (ZBI ZL):=okF (ZGP XA) Tryz.func70 Zf (Zs _ (.cons ZIH .nil) .nil .nil .nil (Zr _))
abbrev ZBH (f:Zve):Zd:=⟨[.one (.P),.one (.P)],[.one (.I .i64),.one (.I .i64)],fun t K _ h=>f t.1 t.2.1 (fun r0 r1 h=>K (r0,r1,()) h) h⟩
abbrev ZKz (f185:Zvf):Cfg:=ZD Tryz.prog [(70,ZBI f185)] 12 [] [] [] ZE
theorem ZGO (f185:Zvf):ZI (ZKz f185) Tryz.f69 .leaf (ZBH (Zb4 f185)):=fun _ _ _ _=>by kernel_rfl
theorem ZIF:Zj Tryz.prog 69 (ZBH XU):=okF (ZGO ZL) Tryz.func69 Zf (Zs _ (.cons ZIG .nil) .nil .nil .nil (Zr _))
abbrev ZBG (f:Zvd):Zd:=⟨[.one (.P),.clo 145 [.P,.P]],[.clo 216 [.P,.P]],fun t K _ h=>f t.1 t.2.1 (fun r0 h=>K (r0,()) h) h⟩
abbrev ZKy:Cfg:=ZD Tryz.prog [] 6 [] [] [] ZE
theorem ZGN:ZI (ZKy) Tryz.f144 .leaf (ZBG YH):=fun _ _ _ _=>by kernel_rfl
theorem ZIE:Zj Tryz.prog 144 (ZBG ZW):=okF (ZGN) Tryz.func144 Zf (Zs _ .nil .nil .nil .nil (Zr _))
abbrev ZBF (f:Zvc):Zd:=⟨[.one (.P),.agg [.I .u8,.S,.L,.L]],[.agg [.S,.B,.L]],fun t K _ h=>f t.1 t.2.1 (fun r0 h=>K (r0,()) h) h⟩
abbrev ZKx (f163:Zhl) (f170:Zo1) (f187:Zvd) (f165:ZcV):Cfg:=ZD Tryz.prog [(136,ZqD f163),(137,ZyI f170),(144,ZBG f187),(59,ZiT f165)] 23 [] [] [] ZE
theorem ZGM (f163:Zhl) (f170:Zo1) (f187:Zvd) (f165:ZcV):ZI (ZKx f163 f170 f187 f165) Tryz.f74 (.seq .leaf (.seq .leaf (.seq .leaf (.seq (.order (.take 4 true (.take 8 true (.take 12 true (.take 0 true (.take 1 true (.take 3 true (.take 7 true (.take 11 true (.inv [2,5,6,9,10,13,14] [10,13,16,19] [.one (.M),.clo 211 [.P,.P],.clo 212 [.P,.P],.clo 216 [.P,.P]] (.take 15 false (.take 16 false .done)))))))))))) .leaf)))) (ZBF (ZbZ f163 f170 f187 f165)):=fun _ _ _ _=>by kernel_rfl
theorem ZID:Zj Tryz.prog 74 (ZBF XR):=okF (ZGM Ya Xz ZW ZG) Tryz.func74 Zf (Zs _ (.cons Zur (.cons ZD3 (.cons ZIE (.cons Ztf .nil)))) .nil .nil .nil (Zr _))
abbrev ZBE (f:Zvb):Zd:=⟨[.one (.L),.fn 74],[.one (.L),.one (.I .i64),.one (.I .i64)],fun t K _ h=>f t.1 (fun r0 r1 r2 h=>K (r0,r1,r2,()) h) h⟩
abbrev ZKw (f188:Zvc):Cfg:=ZD Tryz.prog [(74,ZBF f188)] 41 [] [] [] ZE
theorem ZGL (f188:Zvc):ZI (ZKw f188) Tryz.f73 (.seq .leaf (.seq .leaf (.seq (.seq .leaf (.block (.loop [7,13] [.one (.L),.one (.I .i64)] [(4,6),(8,10),(14,39)] .leaf))) .leaf))) (ZBE (Ys f188)):=fun _ _ _ _=>by kernel_rfl
theorem ZIC:Zj Tryz.prog 73 (ZBE ZK):=okF (ZGL XR) Tryz.func73 Zf (Zs _ (.cons ZID .nil) .nil .nil .nil (Zr _))
abbrev ZBD (f:Zva):Zd:=⟨[.one (.P),.one (.P)],[.one (.I .i64),.one (.I .i64)],fun t K _ h=>f t.1 t.2.1 (fun r0 r1 h=>K (r0,r1,()) h) h⟩
abbrev ZKv (f189:Zvb):Cfg:=ZD Tryz.prog [(73,ZBE f189)] 12 [] [] [] ZE
theorem ZGK (f189:Zvb):ZI (ZKv f189) Tryz.f72 .leaf (ZBD (Zb3 f189)):=fun _ _ _ _=>by kernel_rfl
theorem ZIB:Zj Tryz.prog 72 (ZBD XT):=okF (ZGK ZK) Tryz.func72 Zf (Zs _ (.cons ZIC .nil) .nil .nil .nil (Zr _))
abbrev ZBC (f:Zu9):Zd:=⟨[.agg [.L,.L,.L,.L,.L]],[.one (.L)],fun t K _ h=>f t.1 (fun r0 h=>K (r0,()) h) h⟩
abbrev ZKu:Cfg:=ZD Tryz.prog [] 29 [] [] [] ZE
theorem ZGJ:ZI (ZKu) Tryz.f146 .leaf (ZBC ZfY):=fun _ _ _ _=>by kernel_rfl
theorem ZIA:Zj Tryz.prog 146 (ZBC ZcZ):=okF (ZGJ) Tryz.func146 Zf (Zs _ .nil .nil .nil .nil (Zr _))
abbrev Zjz (f:Zce):Zd:=⟨[.one (.I .i64),.one (.I .i64),.one (.I .i64)],[.one (.B)],fun t K _ h=>f t.1 t.2.1 t.2.2.1 (fun r0 h=>K (r0,()) h) h⟩
abbrev ZKt:Cfg:=ZD Tryz.prog [] 15 [] [] [] ZE
theorem ZGI:ZI (ZKt) Tryz.f276 .leaf (Zjz ZfX):=fun _ _ _ _=>by kernel_rfl
theorem ZkL:Zj Tryz.prog 276 (Zjz ZM):=okF (ZGI) Tryz.func276 Zf (Zs _ .nil .nil .nil .nil (Zr _))
abbrev ZyH (f:Zo0):Zd:=⟨[.one (.S)],[.one (.B)],fun t K _ h=>f t.1 (fun r0 h=>K (r0,()) h) h⟩
abbrev ZKs (f192:Zce):Cfg:=ZD Tryz.prog [(276,Zjz f192)] 19 [] [] [] ZE
theorem ZGH (f192:Zce):ZI (ZKs f192) Tryz.f333 (.seq .leaf (.seq (.seq .leaf (.block (.loop [6] [.one (.I .i64)] [(2,3),(7,15)] .leaf))) .leaf)) (ZyH (Zf1 f192)):=fun _ _ _ _=>by kernel_rfl
theorem ZD2:Zj Tryz.prog 333 (ZyH Za5):=okF (ZGH ZM) Tryz.func333 Zf (Zs _ (.cons ZkL .nil) .nil .nil .nil (Zr _))
abbrev ZBB (f:Zu8):Zd:=⟨[.one (.S)],[.one (.B)],fun t K _ h=>f t.1 (fun r0 h=>K (r0,()) h) h⟩
abbrev ZKr (f193:Zo0):Cfg:=ZD Tryz.prog [(333,ZyH f193)] 6 [] [] [] ZE
theorem ZGG (f193:Zo0):ZI (ZKr f193) Tryz.f334 .leaf (ZBB (Zct f193)):=fun _ _ _ _=>by kernel_rfl
theorem ZIz:Zj Tryz.prog 334 (ZBB ZaS):=okF (ZGG Za5) Tryz.func334 Zf (Zs _ (.cons ZD2 .nil) .nil .nil .nil (Zr _))
abbrev ZBA (f:Zu7):Zd:=⟨[.one (.L),.fn 334],[.one (.I .i64)],fun t K _ h=>f t.1 (fun r0 h=>K (r0,()) h) h⟩
abbrev ZKq (f194:Zu8):Cfg:=ZD Tryz.prog [(334,ZBB f194)] 19 [] [] [] ZE
theorem ZGF (f194:Zu8):ZI (ZKq f194) Tryz.f238 (.seq .leaf (.seq (.seq .leaf (.block (.loop [8] [.one (.I .i64)] [(4,5),(9,18)] .leaf))) .leaf)) (ZBA (Yq f194)):=fun _ _ _ _=>by kernel_rfl
theorem ZIy:Zj Tryz.prog 238 (ZBA ZH):=okF (ZGF ZaS) Tryz.func238 Zf (Zs _ (.cons ZIz .nil) .nil .nil .nil (Zr _))
abbrev ZBz (f:Zu6):Zd:=⟨[.one (.L),.fn 334],[.one (.B)],fun t K _ h=>f t.1 (fun r0 h=>K (r0,()) h) h⟩
abbrev ZKp (f195:Zu7):Cfg:=ZD Tryz.prog [(238,ZBA f195)] 9 [] [] [] ZE
theorem ZGE (f195:Zu7):ZI (ZKp f195) Tryz.f164 .leaf (ZBz (Ym f195)):=fun _ _ _ _=>by kernel_rfl
theorem ZIx:Zj Tryz.prog 164 (ZBz ZR):=okF (ZGE ZH) Tryz.func164 Zf (Zs _ (.cons ZIy .nil) .nil .nil .nil (Zr _))
abbrev ZBy (f:Zu5):Zd:=⟨[.agg [.S,.L]],[.one (.B)],fun t K _ h=>f t.1 (fun r0 h=>K (r0,()) h) h⟩
abbrev ZKo (f193:Zo0) (f196:Zu6):Cfg:=ZD Tryz.prog [(333,ZyH f193),(164,ZBz f196)] 12 [] [] [] ZE
theorem ZGD (f193:Zo0) (f196:Zu6):ZI (ZKo f193 f196) Tryz.f321 .leaf (ZBy (Zdj f193 f196)):=fun _ _ _ _=>by kernel_rfl
theorem ZIw:Zj Tryz.prog 321 (ZBy ZaC):=okF (ZGD Za5 ZR) Tryz.func321 Zf (Zs _ (.cons ZD2 (.cons ZIx .nil)) .nil .nil .nil (Zr _))
abbrev ZBx (f:Zu4):Zd:=⟨[.one (.P),.one (.P)],[.one (.B)],fun t K _ h=>f t.1 t.2.1 (fun r0 h=>K (r0,()) h) h⟩
abbrev ZKn (f192:Zce):Cfg:=ZD Tryz.prog [(276,Zjz f192)] 7 [] [] [] ZE
theorem ZGC (f192:Zce):ZI (ZKn f192) Tryz.f275 .leaf (ZBx (Zf8 f192)):=fun _ _ _ _=>by kernel_rfl
theorem ZIv:Zj Tryz.prog 275 (ZBx Zc8):=okF (ZGC ZM) Tryz.func275 Zf (Zs _ (.cons ZkL .nil) .nil .nil .nil (Zr _))
abbrev ZBw (f:Zu3):Zd:=⟨[.one (.P)],[.one (.B)],fun t K _ h=>f t.1 (fun r0 h=>K (r0,()) h) h⟩
abbrev ZKm:Cfg:=ZD Tryz.prog [] 10 [] [] [] ZE
theorem ZGB:ZI (ZKm) Tryz.f277 .leaf (ZBw Zf7):=fun _ _ _ _=>by kernel_rfl
theorem ZIu:Zj Tryz.prog 277 (ZBw Zc7):=okF (ZGB) Tryz.func277 Zf (Zs _ .nil .nil .nil .nil (Zr _))
abbrev ZBv (f:Zu2):Zd:=⟨[.one (.P)],[.one (.B)],fun t K _ h=>f t.1 (fun r0 h=>K (r0,()) h) h⟩
abbrev ZKl:Cfg:=ZD Tryz.prog [] 10 [] [] [] ZE
theorem ZGA:ZI (ZKl) Tryz.f278 .leaf (ZBv Zf6):=fun _ _ _ _=>by kernel_rfl
theorem ZIt:Zj Tryz.prog 278 (ZBv Zc6):=okF (ZGA) Tryz.func278 Zf (Zs _ .nil .nil .nil .nil (Zr _))
abbrev ZBu (f:Zu1):Zd:=⟨[.one (.P)],[.one (.B)],fun t K _ h=>f t.1 (fun r0 h=>K (r0,()) h) h⟩
abbrev ZKk:Cfg:=ZD Tryz.prog [] 15 [] [] [] ZE
theorem ZGz:ZI (ZKk) Tryz.f279 .leaf (ZBu Zf5):=fun _ _ _ _=>by kernel_rfl
theorem ZIs:Zj Tryz.prog 279 (ZBu Zc5):=okF (ZGz) Tryz.func279 Zf (Zs _ .nil .nil .nil .nil (Zr _))
abbrev Zuu (f:ZkM):Zd:=⟨[.one (.B),.one (.I .i64),.one (.I .i64),.one (.I .i64)],[.one (.B)],fun t K _ h=>f t.1 t.2.1 t.2.2.1 t.2.2.2.1 (fun r0 h=>K (r0,()) h) h⟩
abbrev ZKj (f192:Zce):Cfg:=ZD Tryz.prog [(276,Zjz f192)] 24 [] [] [] ZE
theorem ZGy (f192:Zce):ZI (ZKj f192) Tryz.f281 .leaf (Zuu (ZhI f192)):=fun _ _ _ _=>by kernel_rfl
theorem ZAY:Zj Tryz.prog 281 (Zuu ZaT):=okF (ZGy ZM) Tryz.func281 Zf (Zs _ (.cons ZkL .nil) .nil .nil .nil (Zr _))
abbrev ZBt (f:Zu0):Zd:=⟨[.one (.P),.one (.P),.one (.P)],[.one (.B)],fun t K _ h=>f t.1 t.2.1 t.2.2.1 (fun r0 h=>K (r0,()) h) h⟩
abbrev ZKi (f202:ZkM):Cfg:=ZD Tryz.prog [(281,Zuu f202)] 14 [] [] [] ZE
theorem ZGx (f202:ZkM):ZI (ZKi f202) Tryz.f280 .leaf (ZBt (Zf4 f202)):=fun _ _ _ _=>by kernel_rfl
theorem ZIr:Zj Tryz.prog 280 (ZBt Zc4):=okF (ZGx ZaT) Tryz.func280 Zf (Zs _ (.cons ZAY .nil) .nil .nil .nil (Zr _))
abbrev ZBs (f:ZuZ):Zd:=⟨[.one (.P)],[.one (.B)],fun t K _ h=>f t.1 (fun r0 h=>K (r0,()) h) h⟩
abbrev ZKh:Cfg:=ZD Tryz.prog [] 15 [] [] [] ZE
theorem ZGw:ZI (ZKh) Tryz.f282 .leaf (ZBs Zf3):=fun _ _ _ _=>by kernel_rfl
theorem ZIq:Zj Tryz.prog 282 (ZBs Zc3):=okF (ZGw) Tryz.func282 Zf (Zs _ .nil .nil .nil .nil (Zr _))
abbrev ZBr (f:ZuY):Zd:=⟨[.one (.P)],[.one (.B)],fun t K _ h=>f t.1 (fun r0 h=>K (r0,()) h) h⟩
abbrev ZKg (f202:ZkM):Cfg:=ZD Tryz.prog [(281,Zuu f202)] 16 [] [] [] ZE
theorem ZGv (f202:ZkM):ZI (ZKg f202) Tryz.f283 .leaf (ZBr (Zf2 f202)):=fun _ _ _ _=>by kernel_rfl
theorem ZIp:Zj Tryz.prog 283 (ZBr Zc2):=okF (ZGv ZaT) Tryz.func283 Zf (Zs _ (.cons ZAY .nil) .nil .nil .nil (Zr _))
abbrev ZBq (f:ZuX):Zd:=⟨[.one (.P),.one (.P)],[.one (.B)],fun t K _ h=>f t.1 t.2.1 (fun r0 h=>K (r0,()) h) h⟩
abbrev ZKf (f192:Zce):Cfg:=ZD Tryz.prog [(276,Zjz f192)] 12 [] [] [] ZE
theorem ZGu (f192:Zce):ZI (ZKf f192) Tryz.f284 .leaf (ZBq (Zfv f192)):=fun _ _ _ _=>by kernel_rfl
theorem ZIo:Zj Tryz.prog 284 (ZBq Zcn):=okF (ZGu ZM) Tryz.func284 Zf (Zs _ (.cons ZkL .nil) .nil .nil .nil (Zr _))
abbrev ZBp (f:ZuW):Zd:=⟨[.one (.P)],[.one (.B)],fun t K _ h=>f t.1 (fun r0 h=>K (r0,()) h) h⟩
abbrev ZKe (f202:ZkM):Cfg:=ZD Tryz.prog [(281,Zuu f202)] 8 [] [] [] ZE
theorem ZGt (f202:ZkM):ZI (ZKe f202) Tryz.f285 .leaf (ZBp (Zfu f202)):=fun _ _ _ _=>by kernel_rfl
theorem ZIn:Zj Tryz.prog 285 (ZBp Zcm):=okF (ZGt ZaT) Tryz.func285 Zf (Zs _ (.cons ZAY .nil) .nil .nil .nil (Zr _))
abbrev ZBo (f:ZuV):Zd:=⟨[.one (.P)],[.one (.B)],fun t K _ h=>f t.1 (fun r0 h=>K (r0,()) h) h⟩
abbrev ZKd (f192:Zce):Cfg:=ZD Tryz.prog [(276,Zjz f192)] 10 [] [] [] ZE
theorem ZGs (f192:Zce):ZI (ZKd f192) Tryz.f286 .leaf (ZBo (Zft f192)):=fun _ _ _ _=>by kernel_rfl
theorem ZIm:Zj Tryz.prog 286 (ZBo Zcl):=okF (ZGs ZM) Tryz.func286 Zf (Zs _ (.cons ZkL .nil) .nil .nil .nil (Zr _))
abbrev ZBn (f:ZuU):Zd:=⟨[.one (.P)],[.one (.B)],fun t K _ h=>f t.1 (fun r0 h=>K (r0,()) h) h⟩
abbrev ZKc (f192:Zce):Cfg:=ZD Tryz.prog [(276,Zjz f192)] 5 [] [] [] ZE
theorem ZGr (f192:Zce):ZI (ZKc f192) Tryz.f287 .leaf (ZBn (Zfs f192)):=fun _ _ _ _=>by kernel_rfl
theorem ZIl:Zj Tryz.prog 287 (ZBn Zck):=okF (ZGr ZM) Tryz.func287 Zf (Zs _ (.cons ZkL .nil) .nil .nil .nil (Zr _))
abbrev ZBm (f:ZuT):Zd:=⟨[.one (.P)],[.one (.B)],fun t K _ h=>f t.1 (fun r0 h=>K (r0,()) h) h⟩
abbrev ZKb (f192:Zce):Cfg:=ZD Tryz.prog [(276,Zjz f192)] 10 [] [] [] ZE
theorem ZGq (f192:Zce):ZI (ZKb f192) Tryz.f288 .leaf (ZBm (ZgT f192)):=fun _ _ _ _=>by kernel_rfl
theorem ZIk:Zj Tryz.prog 288 (ZBm ZdK):=okF (ZGq ZM) Tryz.func288 Zf (Zs _ (.cons ZkL .nil) .nil .nil .nil (Zr _))
abbrev ZyG (f:ZoZ):Zd:=⟨[.one (.L)],[.one (.B)],fun t K _ h=>f t.1 (fun r0 h=>K (r0,()) h) h⟩
abbrev ZKa (f153:Zo2):Cfg:=ZD Tryz.prog [(135,ZyJ f153)] 18 [] [] [] ZE
theorem ZGp (f153:Zo2):ZI (ZKa f153) Tryz.f290 (.seq .leaf (.seq (.seq .leaf (.block (.loop [7] [.one (.I .i64)] [(2,4),(8,17)] .leaf))) .leaf)) (ZyG (ZgP f153)):=fun _ _ _ _=>by kernel_rfl
theorem ZD1:Zj Tryz.prog 290 (ZyG ZbD):=okF (ZGp ZY) Tryz.func290 Zf (Zs _ (.cons ZD4 .nil) .nil .nil .nil (Zr _))
abbrev ZBl (f:ZuS):Zd:=⟨[.one (.P),.one (.P)],[.one (.B)],fun t K _ h=>f t.1 t.2.1 (fun r0 h=>K (r0,()) h) h⟩
abbrev ZJ9 (f192:Zce) (f211:ZoZ):Cfg:=ZD Tryz.prog [(276,Zjz f192),(290,ZyG f211)] 17 [] [] [] ZE
theorem ZGo (f192:Zce) (f211:ZoZ):ZI (ZJ9 f192 f211) Tryz.f289 .leaf (ZBl (ZgS f192 f211)):=fun _ _ _ _=>by kernel_rfl
theorem ZIj:Zj Tryz.prog 289 (ZBl ZdJ):=okF (ZGo ZM ZbD) Tryz.func289 Zf (Zs _ (.cons ZkL (.cons ZD1 .nil)) .nil .nil .nil (Zr _))
abbrev ZBk (f:ZuR):Zd:=⟨[.agg [.S,.I .i64]],[.one (.B)],fun t K _ h=>f t.1 (fun r0 h=>K (r0,()) h) h⟩
abbrev ZJ8 (f192:Zce):Cfg:=ZD Tryz.prog [(276,Zjz f192)] 13 [] [] [] ZE
theorem ZGn (f192:Zce):ZI (ZJ8 f192) Tryz.f293 .leaf (ZBk (Zfr f192)):=fun _ _ _ _=>by kernel_rfl
theorem ZIi:Zj Tryz.prog 293 (ZBk ZdH):=okF (ZGn ZM) Tryz.func293 Zf (Zs _ (.cons ZkL .nil) .nil .nil .nil (Zr _))
abbrev ZBj (f:ZuQ):Zd:=⟨[.one (.L),.fn 293],[.one (.I .i64)],fun t K _ h=>f t.1 (fun r0 h=>K (r0,()) h) h⟩
abbrev ZJ7 (f213:ZuR):Cfg:=ZD Tryz.prog [(293,ZBk f213)] 19 [] [] [] ZE
theorem ZGm (f213:ZuR):ZI (ZJ7 f213) Tryz.f322 (.seq .leaf (.seq (.seq .leaf (.block (.loop [8] [.one (.I .i64)] [(4,5),(9,18)] .leaf))) .leaf)) (ZBj (Yr f213)):=fun _ _ _ _=>by kernel_rfl
theorem ZIh:Zj Tryz.prog 322 (ZBj Yb):=okF (ZGm ZdH) Tryz.func322 Zf (Zs _ (.cons ZIi .nil) .nil .nil .nil (Zr _))
abbrev ZBi (f:ZuP):Zd:=⟨[.one (.L),.fn 293],[.one (.B)],fun t K _ h=>f t.1 (fun r0 h=>K (r0,()) h) h⟩
abbrev ZJ6 (f214:ZuQ):Cfg:=ZD Tryz.prog [(322,ZBj f214)] 9 [] [] [] ZE
theorem ZGl (f214:ZuQ):ZI (ZJ6 f214) Tryz.f292 .leaf (ZBi (Yo f214)):=fun _ _ _ _=>by kernel_rfl
theorem ZIg:Zj Tryz.prog 292 (ZBi ZZ):=okF (ZGl Yb) Tryz.func292 Zf (Zs _ (.cons ZIh .nil) .nil .nil .nil (Zr _))
abbrev ZBh (f:ZuO):Zd:=⟨[.one (.P)],[.one (.B)],fun t K _ h=>f t.1 (fun r0 h=>K (r0,()) h) h⟩
abbrev ZJ5 (f215:ZuP):Cfg:=ZD Tryz.prog [(292,ZBi f215)] 6 [] [] [] ZE
theorem ZGk (f215:ZuP):ZI (ZJ5 f215) Tryz.f291 .leaf (ZBh (ZgR f215)):=fun _ _ _ _=>by kernel_rfl
theorem ZIf:Zj Tryz.prog 291 (ZBh ZdI):=okF (ZGk ZZ) Tryz.func291 Zf (Zs _ (.cons ZIg .nil) .nil .nil .nil (Zr _))
abbrev ZBg (f:ZuN):Zd:=⟨[.one (.P)],[.one (.B)],fun t K _ h=>f t.1 (fun r0 h=>K (r0,()) h) h⟩
abbrev ZJ4 (f192:Zce) (f211:ZoZ):Cfg:=ZD Tryz.prog [(276,Zjz f192),(290,ZyG f211)] 12 [] [] [] ZE
theorem ZGj (f192:Zce) (f211:ZoZ):ZI (ZJ4 f192 f211) Tryz.f294 .leaf (ZBg (Zf0 f192 f211)):=fun _ _ _ _=>by kernel_rfl
theorem ZIe:Zj Tryz.prog 294 (ZBg Zc1):=okF (ZGj ZM ZbD) Tryz.func294 Zf (Zs _ (.cons ZkL (.cons ZD1 .nil)) .nil .nil .nil (Zr _))
abbrev Ztg (f:ZiU):Zd:=⟨[.agg [.S,.L,.I .i64],.one (.L)],[.one (.I .i64)],fun t K _ h=>f t.1 t.2.1 (fun r0 h=>K (r0,()) h) h⟩
abbrev ZJ3 (f197:Zu5) (f198:Zu4) (f199:Zu3) (f200:Zu2) (f201:Zu1) (f203:Zu0) (f204:ZuZ) (f205:ZuY) (f206:ZuX) (f207:ZuW) (f208:ZuV) (f209:ZuU) (f210:ZuT) (f212:ZuS) (f216:ZuO) (f217:ZuN):Cfg:=ZD Tryz.prog [(321,ZBy f197),(275,ZBx f198),(277,ZBw f199),(278,ZBv f200),(279,ZBu f201),(280,ZBt f203),(282,ZBs f204),(283,ZBr f205),(284,ZBq f206),(285,ZBp f207),(286,ZBo f208),(287,ZBn f209),(288,ZBm f210),(289,ZBl f212),(291,ZBh f216),(294,ZBg f217)] 23 [] [] [] ZE [(275,[.P,.P]),(277,[.P]),(278,[.P]),(279,[.P]),(280,[.P,.P,.P]),(282,[.P]),(283,[.P]),(284,[.P,.P]),(285,[.P]),(286,[.P]),(287,[.P]),(288,[.P]),(289,[.P,.P]),(291,[.P]),(294,[.P])]
theorem ZGi (f197:Zu5) (f198:Zu4) (f199:Zu3) (f200:Zu2) (f201:Zu1) (f203:Zu0) (f204:ZuZ) (f205:ZuY) (f206:ZuX) (f207:ZuW) (f208:ZuV) (f209:ZuU) (f210:ZuT) (f212:ZuS) (f216:ZuO) (f217:ZuN):ZI (ZJ3 f197 f198 f199 f200 f201 f203 f204 f205 f206 f207 f208 f209 f210 f212 f216 f217) Tryz.f274 (.seq .leaf (.seq .leaf (.seq (.seq .leaf (.block (.loop [13] [.one (.I .i64)] [(4,4),(6,6),(14,22)] .leaf))) .leaf))) (Ztg (Zfq f197 f198 f199 f200 f201 f203 f204 f205 f206 f207 f208 f209 f210 f212 f216 f217)):=fun _ _ _ _=>by kernel_rfl
theorem ZyD:Zj Tryz.prog 274 (Ztg Xe):=okF (ZGi ZaC Zc8 Zc7 Zc6 Zc5 Zc4 Zc3 Zc2 Zcn Zcm Zcl Zck ZdK ZdJ ZdI Zc1) Tryz.func274 Zf (Zs _ (.cons ZIw (.cons ZIv (.cons ZIu (.cons ZIt (.cons ZIs (.cons ZIr (.cons ZIq (.cons ZIp (.cons ZIo (.cons ZIn (.cons ZIm (.cons ZIl (.cons ZIk (.cons ZIj (.cons ZIf (.cons ZIe .nil)))))))))))))))) .nil .nil .nil (Zr _))
abbrev ZBf (f:ZuM):Zd:=⟨[.agg [.S,.S,.B,.I .i64,.I .u8,.S,.I .u8,.I .i64,.I .i64,.B,.I .i64,.B]],[.one (.I .i64)],fun t K _ h=>f t.1 (fun r0 h=>K (r0,()) h) h⟩
abbrev ZJ2 (f218:ZiU):Cfg:=ZD Tryz.prog [(274,Ztg f218)] 56 [] [] [] ZE
theorem ZGh (f218:ZiU):ZI (ZJ2 f218) Tryz.f218 (.seq .leaf (.seq .leaf (.cut [3] [.one (.L)] [(10,22)] .leaf (.cut [4] [.one (.P)] [(23,30)] .leaf (.cut [5] [.one (.P)] [(31,38)] .leaf (.seq .leaf (.cut [] [] [(39,41)] .leaf .leaf))))))) (ZBf (ZhK f218)):=fun _ _ _ _=>by kernel_rfl
theorem ZId:Zj Tryz.prog 218 (ZBf Zeu):=okF (ZGh Xe) Tryz.func218 Zf (Zs _ (.cons ZyD .nil) .nil .nil .nil (Zr _))
abbrev ZBe (f:ZuL):Zd:=⟨[.one (.I .i64),.one (.P)],[.one (.I .i64)],fun t K _ h=>f t.1 t.2.1 (fun r0 h=>K (r0,()) h) h⟩
abbrev ZJ1 (f219:ZuM):Cfg:=ZD Tryz.prog [(218,ZBf f219)] 10 [] [] [] ZE
theorem ZGg (f219:ZuM):ZI (ZJ1 f219) Tryz.f217 .leaf (ZBe (ZeJ f219)):=fun _ _ _ _=>by kernel_rfl
theorem ZIc:Zj Tryz.prog 217 (ZBe ZbT):=okF (ZGg Zeu) Tryz.func217 Zf (Zs _ (.cons ZId .nil) .nil .nil .nil (Zr _))
abbrev ZBd (f:ZuK):Zd:=⟨[.agg [.S,.I .u8,.I .i64,.I .i64,.I .i64,.I .i64,.I .i64]],[.one (.I .i64)],fun t K _ h=>f t.1 (fun r0 h=>K (r0,()) h) h⟩
abbrev ZJ0 (f218:ZiU):Cfg:=ZD Tryz.prog [(274,Ztg f218)] 17 [] [] [] ZE
theorem ZGf (f218:ZiU):ZI (ZJ0 f218) Tryz.f220 (.seq .leaf (.seq .leaf (.cut [] [] [(4,6)] .leaf .leaf))) (ZBd (ZgU f218)):=fun _ _ _ _=>by kernel_rfl
theorem ZIb:Zj Tryz.prog 220 (ZBd ZdL):=okF (ZGf Xe) Tryz.func220 Zf (Zs _ (.cons ZyD .nil) .nil .nil .nil (Zr _))
abbrev ZBc (f:ZuJ):Zd:=⟨[.one (.I .i64),.one (.P)],[.one (.I .i64)],fun t K _ h=>f t.1 t.2.1 (fun r0 h=>K (r0,()) h) h⟩
abbrev ZJZ (f221:ZuK):Cfg:=ZD Tryz.prog [(220,ZBd f221)] 10 [] [] [] ZE
theorem ZGe (f221:ZuK):ZI (ZJZ f221) Tryz.f219 .leaf (ZBc (ZeI f221)):=fun _ _ _ _=>by kernel_rfl
theorem ZIa:Zj Tryz.prog 219 (ZBc ZbS):=okF (ZGe ZdL) Tryz.func219 Zf (Zs _ (.cons ZIb .nil) .nil .nil .nil (Zr _))
abbrev ZBb (f:ZuI):Zd:=⟨[.agg [.S,.I .i64,.I .i64,.I .i64,.L]],[.one (.I .i64)],fun t K _ h=>f t.1 (fun r0 h=>K (r0,()) h) h⟩
abbrev ZJY (f218:ZiU):Cfg:=ZD Tryz.prog [(274,Ztg f218)] 28 [] [] [] ZE
theorem ZGd (f218:ZiU):ZI (ZJY f218) Tryz.f222 (.seq .leaf (.seq .leaf (.seq (.seq .leaf (.block (.loop [9] [.one (.I .i64)] [(5,5),(10,18)] .leaf))) .leaf))) (ZBb (ZiK f218)):=fun _ _ _ _=>by kernel_rfl
theorem ZH9:Zj Tryz.prog 222 (ZBb Zfn):=okF (ZGd Xe) Tryz.func222 Zf (Zs _ (.cons ZyD .nil) .nil .nil .nil (Zr _))
abbrev ZBa (f:ZuH):Zd:=⟨[.one (.I .i64),.one (.P)],[.one (.I .i64)],fun t K _ h=>f t.1 t.2.1 (fun r0 h=>K (r0,()) h) h⟩
abbrev ZJX (f223:ZuI):Cfg:=ZD Tryz.prog [(222,ZBb f223)] 10 [] [] [] ZE
theorem ZGc (f223:ZuI):ZI (ZJX f223) Tryz.f221 .leaf (ZBa (ZeH f223)):=fun _ _ _ _=>by kernel_rfl
theorem ZH8:Zj Tryz.prog 221 (ZBa ZbR):=okF (ZGc Zfn) Tryz.func221 Zf (Zs _ (.cons ZH9 .nil) .nil .nil .nil (Zr _))
abbrev ZA9 (f:ZuG):Zd:=⟨[.agg [.I .i64,.I .i64,.I .i64,.I .i64,.I .i64]],[.one (.I .i64)],fun t K _ h=>f t.1 (fun r0 h=>K (r0,()) h) h⟩
abbrev ZJW (f192:Zce):Cfg:=ZD Tryz.prog [(276,Zjz f192)] 25 [] [] [] ZE
theorem ZGb (f192:Zce):ZI (ZJW f192) Tryz.f224 (.seq .leaf (.seq (.seq .leaf (.block (.loop [17] [.one (.I .i64)] [(2,2),(4,4),(18,24)] .leaf))) .leaf)) (ZA9 (ZfZ f192)):=fun _ _ _ _=>by kernel_rfl
theorem ZH7:Zj Tryz.prog 224 (ZA9 Zc0):=okF (ZGb ZM) Tryz.func224 Zf (Zs _ (.cons ZkL .nil) .nil .nil .nil (Zr _))
abbrev ZA8 (f:ZuF):Zd:=⟨[.one (.I .i64),.one (.P)],[.one (.I .i64)],fun t K _ h=>f t.1 t.2.1 (fun r0 h=>K (r0,()) h) h⟩
abbrev ZJV (f225:ZuG):Cfg:=ZD Tryz.prog [(224,ZA9 f225)] 10 [] [] [] ZE
theorem ZGa (f225:ZuG):ZI (ZJV f225) Tryz.f223 .leaf (ZA8 (ZeG f225)):=fun _ _ _ _=>by kernel_rfl
theorem ZH6:Zj Tryz.prog 223 (ZA8 ZbQ):=okF (ZGa Zc0) Tryz.func223 Zf (Zs _ (.cons ZH7 .nil) .nil .nil .nil (Zr _))
abbrev ZA7 (f:ZuE):Zd:=⟨[.agg [.S,.B,.L]],[.one (.I .i64)],fun t K _ h=>f t.1 (fun r0 h=>K (r0,()) h) h⟩
abbrev ZJU (f218:ZiU):Cfg:=ZD Tryz.prog [(274,Ztg f218)] 12 [] [] [] ZE
theorem ZF9 (f218:ZiU):ZI (ZJU f218) Tryz.f226 .leaf (ZA7 (ZhJ f218)):=fun _ _ _ _=>by kernel_rfl
theorem ZH5:Zj Tryz.prog 226 (ZA7 Zet):=okF (ZF9 Xe) Tryz.func226 Zf (Zs _ (.cons ZyD .nil) .nil .nil .nil (Zr _))
abbrev ZA6 (f:ZuD):Zd:=⟨[.one (.I .i64),.one (.P)],[.one (.I .i64)],fun t K _ h=>f t.1 t.2.1 (fun r0 h=>K (r0,()) h) h⟩
abbrev ZJT (f227:ZuE):Cfg:=ZD Tryz.prog [(226,ZA7 f227)] 10 [] [] [] ZE
theorem ZF8 (f227:ZuE):ZI (ZJT f227) Tryz.f225 .leaf (ZA6 (ZeF f227)):=fun _ _ _ _=>by kernel_rfl
theorem ZH4:Zj Tryz.prog 225 (ZA6 ZbP):=okF (ZF8 Zet) Tryz.func225 Zf (Zs _ (.cons ZH5 .nil) .nil .nil .nil (Zr _))
abbrev ZA5 (f:ZuC):Zd:=⟨[.agg [.L,.L,.L,.L,.L]],[.one (.I .u8),.one (.I .i64),.one (.I .i64)],fun t K _ h=>f t.1 (fun r0 r1 r2 h=>K (r0,r1,r2,()) h) h⟩
abbrev ZJS (f191:Zu9) (f220:ZuL) (f222:ZuJ) (f224:ZuH) (f226:ZuF) (f228:ZuD):Cfg:=ZD Tryz.prog [(146,ZBC f191),(217,ZBe f220),(219,ZBc f222),(221,ZBa f224),(223,ZA8 f226),(225,ZA6 f228)] 49 [] [] [] ZE [(217,[.P]),(219,[.P]),(221,[.P]),(223,[.P]),(225,[.P])]
theorem ZF7 (f191:Zu9) (f220:ZuL) (f222:ZuJ) (f224:ZuH) (f226:ZuF) (f228:ZuD):ZI (ZJS f191 f220 f222 f224 f226 f228) Tryz.f75 (.seq .leaf (.seq .leaf (.seq (.seq .leaf (.block (.loop [16] [.one (.I .i64)] [(2,4),(7,7),(17,25)] .leaf))) (.seq (.seq .leaf (.block (.loop [28] [.one (.I .i64)] [(2,4),(9,11),(29,48)] (.seq .leaf (.seq .leaf (.seq (.block (.seq .leaf (.seq .leaf (.block (.loop [34] [.one (.I .i64)] [(2,4),(10,11),(35,47)] .leaf))))) .leaf)))))) .leaf)))) (ZA5 (ZgQ f191 f220 f222 f224 f226 f228)):=fun _ _ _ _=>by kernel_rfl
theorem ZH3:Zj Tryz.prog 75 (ZA5 ZdG):=okF (ZF7 ZcZ ZbT ZbS ZbR ZbQ ZbP) Tryz.func75 Zf (Zs _ (.cons ZIA (.cons ZIc (.cons ZIa (.cons ZH8 (.cons ZH6 (.cons ZH4 .nil)))))) .nil .nil .nil (Zr _))
abbrev ZyF (f:ZoY):Zd:=⟨[.agg [.I .u8,.S,.L,.L]],[.agg [.L,.L,.L,.L,.L],.one (.I .i64),.one (.I .u8),.one (.I .i64)],fun t K _ h=>f t.1 (fun r0 r1 r2 r3 h=>K (r0,r1,r2,r3,()) h) h⟩
abbrev ZJR (f150:ZvF) (f165:ZcV) (f175:Zvp) (f179:Zvl) (f183:Zvh) (f186:Zve) (f190:Zva) (f229:ZuC):Cfg:=ZD Tryz.prog [(56,ZCa f150),(59,ZiT f165),(60,ZBS f175),(63,ZBO f179),(66,ZBK f183),(69,ZBH f186),(72,ZBD f190),(75,ZA5 f229)] 88 [] [] [] ZE [(1000024,[]),(1000026,[]),(1000028,[]),(1000030,[]),(1000032,[]),(60,[.P,.P]),(63,[.P,.P]),(66,[.P,.P]),(69,[.P,.P]),(72,[.P,.P])]
theorem ZF6 (f150:ZvF) (f165:ZcV) (f175:Zvp) (f179:Zvl) (f183:Zvh) (f186:Zve) (f190:Zva) (f229:ZuC):ZI (ZJR f150 f165 f175 f179 f183 f186 f190 f229) Tryz.f15 (.seq .leaf (.seq .leaf (.seq .leaf (.seq .leaf (.seq (.order (.take 3 true (.take 6 true (.take 9 true (.take 12 true (.take 15 true (.take 0 true (.take 1 true (.inv [2,4,5,7,8,10,11,13,14,16,17] [23,25,27,29,31,33] [.one (.M),.clo 57 [.P,.P,.P],.clo 57 [.P,.P,.P],.clo 57 [.P,.P,.P],.clo 57 [.P,.P,.P],.clo 57 [.P,.P,.P]] (.take 18 false (.take 19 false .done))))))))))) (.seq (.seq .leaf (.cond (.seq (.order (tkS [1,3,5,7,9,11,12,14,16,18])) .leaf) .leaf)) (.seq .leaf (.seq .leaf (.seq (.seq .leaf (.block (.loop [56] [.one (.I .i64)] [(3,5),(11,14),(57,74)] .leaf))) .leaf))))))))) (ZyF (ZcP f150 f165 f175 f179 f183 f186 f190 f229)):=fun _ _ _ _=>by kernel_rfl
theorem ZD0:Zj Tryz.prog 15 (ZyF YP):=okF (ZF6 XY ZG XX XW XV XU XT ZdG) Tryz.func15 Zf (Zs _ (.cons ZI6 (.cons Ztf (.cons ZIQ (.cons ZIM (.cons ZII (.cons ZIF (.cons ZIB (.cons ZH3 .nil)))))))) .nil .nil .nil (Zr _))
abbrev ZA4 (f:ZuB):Zd:=⟨[.agg [.L,.L,.L,.L,.L],.one (.I .u8)],[.one (.I .i64)],fun t K _ h=>f t.1 t.2.1 (fun r0 h=>K (r0,()) h) h⟩
abbrev ZJQ:Cfg:=ZD Tryz.prog [] 31 [] [] [] ZE
theorem ZF5:ZI (ZJQ) Tryz.f90 .leaf (ZA4 Zcs):=fun _ _ _ _=>by kernel_rfl
theorem ZH2:Zj Tryz.prog 90 (ZA4 X8):=okF (ZF5) Tryz.func90 Zf (Zs _ .nil .nil .nil .nil (Zr _))
abbrev ZA3 (f:ZuA):Zd:=⟨[.one (.S)],[.agg [.L,.L,.L,.L,.L],.one (.I .i64),.one (.I .i64)],fun t K _ h=>f t.1 (fun r0 r1 r2 h=>K (r0,r1,r2,()) h) h⟩
abbrev ZJP (f26:ZCr) (f230:ZoY):Cfg:=ZD Tryz.prog [(25,⟨[.one (.S)],[.agg [.I .u8,.S,.L,.L],.one (.I .i64),.one (.I .i64)],fun t K _ h=>f26 t.1 (fun r0 r1 r2 h=>K (r0,r1,r2,()) h) h⟩),(15,ZyF f230)] 31 [] [] [] ZE
theorem ZF4 (f26:ZCr) (f230:ZoY):ZI (ZJP f26 f230) Tryz.f24 .leaf (ZA3 (Zeb f26 f230)):=fun _ _ _ _=>by kernel_rfl
theorem ZH1:Zj Tryz.prog 24 (ZA3 Zbh):=okF (ZF4 Zaz YP) Tryz.func24 Zf (Zs _ (.cons Zjg (.cons ZD0 .nil)) .nil .nil .nil (Zr _))
abbrev ZA2 (f:Zuz):Zd:=⟨[],[.one (.B)],fun _ K _ h=>f (fun r0 h=>K (r0,()) h) h⟩
abbrev ZJO (f251:ZuA):Cfg:=ZD Tryz.prog [(24,ZA3 f251)] 49 [] [] [] ZE
theorem ZF3 (f251:ZuA):ZI (ZJO f251) Tryz.f17 .leaf (ZA2 (ZcO f251)):=fun _ _ _ _=>by kernel_rfl
theorem ZH0:Zj Tryz.prog 17 (ZA2 Zap):=okF (ZF3 Zbh) Tryz.func17 Zf (Zs _ (.cons ZH1 .nil) .nil .nil .nil (Zr _))
abbrev ZA1 (f:Zuy):Zd:=⟨[.agg [.S,.I .i64,.I .i64,.I .i64,.L],.agg [.S,.I .i64,.I .i64,.I .i64,.L]],[.one (.B)],fun t K _ h=>f t.1 t.2.1 (fun r0 h=>K (r0,()) h) h⟩
abbrev ZJN:Cfg:=ZD Tryz.prog [] 59 [] [] [] ZE
theorem ZF2:ZI (ZJN) Tryz.f91 (.seq .leaf (.seq .leaf (.seq (.seq .leaf (.block (.loop [5] [.one (.I .i64)] [(4,4),(41,58)] .leaf))) .leaf))) (ZA1 ZbG):=fun _ _ _ _=>by kernel_rfl
theorem ZHZ:Zj Tryz.prog 91 (ZA1 XH):=okF (ZF2) Tryz.func91 Zf (Zs _ .nil .nil .nil .nil (Zr _))
abbrev ZA0 (f:Zux):Zd:=⟨[.agg [.S,.B,.L],.agg [.S,.B,.L]],[.one (.B)],fun t K _ h=>f t.1 t.2.1 (fun r0 h=>K (r0,()) h) h⟩
abbrev ZJM:Cfg:=ZD Tryz.prog [] 45 [] [] [] ZE
theorem ZF1:ZI (ZJM) Tryz.f92 (.seq .leaf (.seq .leaf (.seq (.seq .leaf (.block (.loop [5] [.one (.I .i64)] [(4,4),(27,44)] .leaf))) .leaf))) (ZA0 Zbk):=fun _ _ _ _=>by kernel_rfl
theorem ZHY:Zj Tryz.prog 92 (ZA0 Xy):=okF (ZF1) Tryz.func92 Zf (Zs _ .nil .nil .nil .nil (Zr _))
abbrev ZAZ (f:Zuw):Zd:=⟨[.agg [.L,.L,.L,.L,.L],.agg [.L,.L,.L,.L,.L]],[.one (.B)],fun t K _ h=>f t.1 t.2.1 (fun r0 h=>K (r0,()) h) h⟩
abbrev ZJL (f240:ZuB) (f264:Zuy) (f265:Zux):Cfg:=ZD Tryz.prog [(90,ZA4 f240),(91,ZA1 f264),(92,ZA0 f265)] 114 [] [] [] ZE
theorem ZF0 (f240:ZuB) (f264:Zuy) (f265:Zux):ZI (ZJL f240 f264 f265) Tryz.f20 (.seq .leaf (.seq (.seq .leaf (.block (.loop [5] [.one (.I .u8)] [(4,4),(11,21)] (.seq .leaf (.seq (.block (.seq (.order (tkS [3,9,1,7,4,10,12])) .leaf)) .leaf))))) (.seq (.seq .leaf (.block (.loop [6] [.one (.I .i64)] [(4,4),(22,39)] .leaf))) (.seq (.seq .leaf (.block (.loop [7] [.one (.I .i64)] [(4,4),(40,57)] .leaf))) (.seq (.seq .leaf (.block (.loop [8] [.one (.I .i64)] [(4,4),(58,76)] (.seq .leaf (.seq (.block (.seq (.order (tkS [1,5,11,15,3,7,9,13,16,19,20,22])) .leaf)) .leaf))))) (.seq (.seq .leaf (.block (.loop [9] [.one (.I .i64)] [(4,4),(77,94)] .leaf))) (.seq (.seq .leaf (.block (.loop [10] [.one (.I .i64)] [(4,4),(95,113)] (.seq .leaf (.seq (.block (.seq (.order (tkS [1,5,11,15,3,7,9,13,16,19,20,22])) .leaf)) .leaf))))) .leaf))))))) (ZAZ (ZcN f240 f264 f265)):=fun _ _ _ _=>by kernel_rfl
theorem ZHX:Zj Tryz.prog 20 (ZAZ Zao):=okF (ZF0 X8 XH Xy) Tryz.func20 Zf (Zs _ (.cons ZH2 (.cons ZHZ (.cons ZHY .nil))) .nil .nil .nil (Zr _))
abbrev ZqB (f:ZjA):Zd:=⟨[.agg [.I .u8,.S,.L,.L]],[.agg [.I .u8,.S,.L,.L]],fun t K _ h=>f t.1 (fun r0 h=>K (r0,()) h) h⟩
abbrev ZJK (f270:ZjA):Cfg:=ZD Tryz.prog [(21,ZqB f270)] 55 [] [] [] ZE
theorem ZFZ (f270:ZjA):ZI (ZJK f270) Tryz.f21 (.seq .leaf (.seq .leaf (.seq (.seq .leaf (.block (.loop [4] [.one (.I .i64)] [(5,5),(11,53)] (.seq .leaf (.seq (.block (.seq .leaf (.cut [5] [.one (.I .i64)] [(19,42)] (.seq .leaf (.cond (.seq .leaf (.seq .leaf (.cond (.order (tkS [1,5,9,3,7,10,13,14,16,18,20])) .leaf))) .leaf)) (.order (tkS [1,5,9,3,7,10,13,14,16,18,20,22]))))) .leaf))))) .leaf))) (ZqB (ZbY f270)):=fun _ _ _ _=>by kernel_rfl
theorem ZHQ (f270:ZjA) (hH:Zj Tryz.prog 21 (ZqB f270)):Zj Tryz.prog 21 (ZqB (ZaH f270)):=okF (ZFZ f270) Tryz.func21 Zf (Zs _ (.cons hH .nil) .nil .nil .nil (Zr _)) (hlen:=Awt rfl)
theorem ZDX:∀ n,Zj Tryz.prog 21 (ZqB (Y8 n))
 | 0=>Zlo Tryz.func21 (by kernel_rfl) (by kernel_rfl) fun _ _ _ _ h=>h
 | n+1=>ZHQ _ (ZDX n)
theorem ZHW:Zj Tryz.prog 21 (ZqB ZaI):=Zw0 ZDX
abbrev ZEd (f:ZEq):Zd:=⟨[.agg [.L,.L,.L,.L,.L]],[.one (.B)],fun t K _ h=>f t.1 (fun r0 h=>K (r0,()) h) h⟩
abbrev ZJJ (f149:ZvG) (f270:ZjA) (f57:ZEg) (f252:Zuz) (f230:ZoY) (f266:Zuw):Cfg:=ZD Tryz.prog [(14,ZCb f149),(21,ZqB f270),(22,ZJn f57),(17,ZA2 f252),(15,ZyF f230),(20,ZAZ f266)] 51 [] [] [] ZE
theorem ZFY (f149:ZvG) (f270:ZjA) (f57:ZEg) (f252:Zuz) (f230:ZoY) (f266:Zuw):ZI (ZJJ f149 f270 f57 f252 f230 f266) Tryz.f4 .leaf (ZEd (Zak f149 f270 f57 f252 f230 f266)):=fun _ _ _ _=>by kernel_rfl
theorem Zes:Zj Tryz.prog 4 (ZEd Zah):=okF (ZFY ZaU ZaI Zew Zap YP Zao) Tryz.func4 Zf (Zs _ (.cons ZI7 (.cons ZHW (.cons ZM5 (.cons ZH0 (.cons ZD0 (.cons ZHX .nil)))))) .nil .nil .nil (Zr _))
end
end Go.Proofs.YtpjbjdheeemdiaaGreatDoor
