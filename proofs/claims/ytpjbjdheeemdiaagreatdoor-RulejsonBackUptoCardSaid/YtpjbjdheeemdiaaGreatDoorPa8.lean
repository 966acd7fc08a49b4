/- That each function does what its model says. Written by a program out of the translated functions. -/
import Derived.Test.YtpjbjdheeemdiaaGreatDoorProg
import Derived.KernelRfl
import Derived.Recover
import Derived.Tactics2
import Derived.Test.YtpjbjdheeemdiaaGreatDoorPa7
set_option linter.unusedVariables false
set_option linter.unusedSimpArgs false
namespace Go.Proofs.YtpjbjdheeemdiaaGreatDoor
open Go Go.Fw
noncomputable section
def tkS:List Nat->OrdT
  | []=> .done
  | n::r=> .take (n / 2) (n % 2 ==1) (tkS r)
theorem Zf:Tryz.prog.follows .mixedOrders=true:=by kernel_rfl
abbrev zk1 (f:zT1):Zd:=⟨[.one (.P)],[],fun t K _ h=>f t.1 (fun h=>K (()) h) h⟩
abbrev zc1 (a:zT0):Cfg:=ZD Tryz.prog [(171,⟨[.one (.S),.one (.I .u8)],[.one (.I .i64)],fun t K _ h=>a t.1 t.2.1 (fun b h=>K (b,()) h) h⟩)] 32 [] [] [] ZE
theorem zr1 (a:zT0):ZI (zc1 a) Tryz.f97 (.block (.loop [] [] [(2,31)] .leaf)) (zk1 (Zdi a)):=fun _ _ _ _=>by kernel_rfl
theorem zo1:Zk Tryz.prog 97 (zk1 Z7):=okF (zr1 Xf) Tryz.func97 Zf (Zs _ (.cons Zc9 .nil) .nil .nil .nil (Zr _))
abbrev zk2 (f:zT2):Zd:=⟨[.one (.P)],[.one (.I .u8)],fun t K _ h=>f t.1 (fun a h=>K (a,()) h) h⟩
abbrev zc2:Cfg:=ZD Tryz.prog [] 22 [] [] [] ZE
theorem zr2:ZI (zc2) Tryz.f166 .leaf (zk2 Zes):=fun _ _ _ _=>by kernel_rfl
theorem zo2:Zk Tryz.prog 166 (zk2 Zx):=okF (zr2) Tryz.func166 Zf (Zs _ .nil .nil .nil .nil (Zr _))
abbrev zk3 (f:zT3):Zd:=⟨[.one (.P),.one (.I .i64),.one (.I .i64)],[],fun t K a h=>f t.1 t.2.1 t.2.2.1 (fun h=>K (()) h) a h⟩
abbrev zc3:Cfg:=ZD Tryz.prog [] 24 [] [] [] ZE
theorem zr3:ZI (zc3) Tryz.f98 .leaf (zk3 Zbb):=fun _ _ _ _=>by kernel_rfl
theorem zo3:Zk Tryz.prog 98 (zk3 Zp):=okF (zr3) Tryz.func98 Zf (Zs _ .nil .nil .nil .nil (Zr _))
abbrev zk6 (f:zT6):Zd:=⟨[.one (.P),.one (.I .u8)],[.one (.V)],fun t K _ h=>f t.1 t.2.1 (fun a h=>K (a,()) h) h⟩
abbrev zc6 (a:zT1):Cfg:=ZD Tryz.prog [(251,⟨[.one (.P)],[],fun t K _ h=>a t.1 (fun h=>K (()) h) h⟩)] 17 [] [] [] ZE
theorem zr6 (a:zT1):ZI (zc6 a) Tryz.f184 .leaf (zk6 (XT a)):=fun _ _ _ _=>by kernel_rfl
theorem zo6:Zk Tryz.prog 184 (zk6 ZB):=okF (zr6 Yf) Tryz.func184 Zf (Zs _ (.cons ZaD .nil) .nil .nil .nil (Zr _))
abbrev zk7 (f:zT7):Zd:=⟨[.one (.P)],[.one (.I .i32)],fun t K a h=>f t.1 (fun b h=>K (b,()) h) a h⟩
abbrev zc7 (a:zT2) (b:zT3):Cfg:=ZD Tryz.prog [(166,zk2 a),(98,zk3 b)] 65 [] [] [] ZE
theorem zr7 (a:zT2) (b:zT3):ZI (zc7 a b) Tryz.f297 (.seq .leaf (.seq .leaf (.seq (.seq .leaf (.block (.loop [3,5] [.one (.I .i32),.one (.I .i64)] [(4,4),(6,63)] (.seq .leaf (.seq .leaf (.seq (.block (.seq .leaf (.cut [3] [.one (.I .i32)] [(9,55)] (.block (.cut [15] [.one (.B)] [(16,21)] .leaf .leaf)) .leaf))) .leaf)))))) .leaf))) (zk7 (ZeN a b)):=fun _ _ _ _=>by kernel_rfl
theorem zo7:Zk Tryz.prog 297 (zk7 Zbt):=okF (zr7 Zx Zp) Tryz.func297 Zf (Zs _ (.cons zo2 (.cons zo3 .nil)) .nil .nil .nil (Zr _))
abbrev zk8 (f:zT8):Zd:=⟨[.one (.S),.one (.S)],[.one (.B)],fun t K _ h=>f t.1 t.2.1 (fun a h=>K (a,()) h) h⟩
abbrev zc8:Cfg:=ZD Tryz.prog [] 18 [] [] [] ZE
theorem zr8:ZI (zc8) Tryz.f249 .leaf (zk8 XZ):=fun _ _ _ _=>by kernel_rfl
theorem zo8:Zk Tryz.prog 249 (zk8 Xd):=okF (zr8) Tryz.func249 Zf (Zs _ .nil .nil .nil .nil (Zr _))
abbrev zk9 (f:zT8):Zd:=⟨[.one (.S),.one (.S)],[.one (.B)],fun t K _ h=>f t.1 t.2.1 (fun a h=>K (a,()) h) h⟩
abbrev zc9 (a:zT8):Cfg:=ZD Tryz.prog [(249,zk8 a)] 8 [] [] [] ZE
theorem zr9 (a:zT8):ZI (zc9 a) Tryz.f196 .leaf (zk9 (ZdM a)):=fun _ _ _ _=>by kernel_rfl
theorem zo9:Zk Tryz.prog 196 (zk9 ZaL):=okF (zr9 Xd) Tryz.func196 Zf (Zs _ (.cons zo8 .nil) .nil .nil .nil (Zr _))
abbrev ZLp (f:Zz4):Zd:=⟨[.one (.L),.one (.I .i32)],[.one (.L)],fun t K _ h=>f t.1 t.2.1 (fun a h=>K (a,()) h) h⟩
abbrev ZPC:Cfg:=ZD Tryz.prog [] 78 [] [] [] ZE
theorem ZOD:ZI (ZPC) Tryz.f325 (.seq .leaf (.seq .leaf (.block (.seq .leaf (.cond .leaf (.cut [25] [.one (.B)] [(26,33)] .leaf .leaf)))))) (ZLp XS):=fun _ _ _ _=>by kernel_rfl
theorem ZO7:Zk Tryz.prog 325 (ZLp Y7):=okF (ZOD) Tryz.func325 Zf (Zs _ .nil .nil .nil .nil (Zr _))
abbrev ZLo (f:Zz4):Zd:=⟨[.one (.L),.one (.I .i32)],[.one (.L)],fun t K _ h=>f t.1 t.2.1 (fun a h=>K (a,()) h) h⟩
abbrev ZPB (a:Zz4):Cfg:=ZD Tryz.prog [(325,ZLp a)] 16 [] [] [] ZE
theorem ZOC (a:Zz4):ZI (ZPB a) Tryz.f309 .leaf (ZLo (Zbf a)):=fun _ _ _ _=>by kernel_rfl
theorem ZO6:Zk Tryz.prog 309 (ZLo Xv):=okF (ZOC Y7) Tryz.func309 Zf (Zs _ (.cons ZO7 .nil) .nil .nil .nil (Zr _))
abbrev ZLn (f:ZGg):Zd:=⟨[.one (.P),.one (.I .i32)],[.one (.I .i64),.one (.V)],fun t K _ h=>f t.1 t.2.1 (fun a b h=>K (a,b,()) h) h⟩
abbrev ZPA (a:zT1) (b:Zz4):Cfg:=ZD Tryz.prog [(251,⟨[.one (.P)],[],fun t K _ h=>a t.1 (fun h=>K (()) h) h⟩),(309,ZLo b)] 30 [] [] [] ZE
theorem ZOB (a:zT1) (b:Zz4):ZI (ZPA a b) Tryz.f255 .leaf (ZLn (ZaP a b)):=fun _ _ _ _=>by kernel_rfl
theorem ZO5:Zk Tryz.prog 255 (ZLn Xg):=okF (ZOB Yf Xv) Tryz.func255 Zf (Zs _ (.cons ZaD (.cons ZO6 .nil)) .nil .nil .nil (Zr _))
abbrev ZLm (f:Zz3):Zd:=⟨[.one (.P),.one (.P)],[],fun t K a h=>f t.1 t.2.1 (fun h=>K (()) h) a h⟩
abbrev ZPz (a:zT2) (b:zT0) (c:zT6) (d:zT3) (e:zT7) (f:zT8) (g:ZGg):Cfg:=ZD Tryz.prog [(166,zk2 a),(171,⟨[.one (.S),.one (.I .u8)],[.one (.I .i64)],fun t K _ h=>b t.1 t.2.1 (fun i h=>K (i,()) h) h⟩),(184,zk6 c),(98,zk3 d),(297,zk7 e),(196,zk9 f),(255,ZLn g)] 114 [] [] [] ZE
theorem ZOA (a:zT2) (b:zT0) (c:zT6) (d:zT3) (e:zT7) (f:zT8) (g:ZGg):ZI (ZPz a b c d e f g) Tryz.f240 (.seq .leaf (.cut [] [] [(5,5),(11,37)] .leaf (.cut [] [] [(38,45)] .leaf (.seq .leaf (.seq .leaf (.cut [] [] [(7,8),(55,104)] (.cut [72] [.one (.B)] [(55,71)] .leaf .leaf) (.cut [6] [.one (.I .i32)] [(105,110)] .leaf .leaf))))))) (ZLm (Zdg a b c d e f g)):=fun _ _ _ _=>by kernel_rfl
theorem ZO4:Zk Tryz.prog 240 (ZLm Zaz):=okF (ZOA Zx Xf ZB Zp Zbt ZaL Xg) Tryz.func240 Zf (Zs _ (.cons zo2 (.cons Zc9 (.cons zo6 (.cons zo3 (.cons zo7 (.cons zo9 (.cons ZO5 .nil))))))) .nil .nil .nil (Zr _))
abbrev ZLl (f:Zhu):Zd:=⟨[.one (.S)],[.one (.B)],fun t K _ h=>f t.1 (fun a h=>K (a,()) h) h⟩
abbrev ZPy (a:ZNj) (b:Zhu):Cfg:=ZD Tryz.prog [(323,⟨[.one (.S)],[.one (.I .i64)],fun t K _ h=>a t.1 (fun c h=>K (c,()) h) h⟩),(163,⟨[.one (.S)],[.one (.B)],fun t K _ h=>b t.1 (fun c h=>K (c,()) h) h⟩)] 64 [] [] [] ZE
theorem ZOz (a:ZNj) (b:Zhu):ZI (ZPy a b) Tryz.f298 (.seq .leaf (.seq (.seq .leaf (.block (.loop [11] [.one (.I .i64)] [(2,2),(4,8),(12,56)] (.seq .leaf (.seq .leaf (.seq (.block (.seq .leaf (.seq (.seq .leaf (.block (.loop [5] [.one (.I .i64)] [(2,2),(6,7),(17,36)] .leaf))) .leaf))) .leaf)))))) .leaf)) (ZLl (ZhY a b)):=fun _ _ _ _=>by kernel_rfl
theorem ZO3:Zk Tryz.prog 298 (ZLl Zek):=okF (ZOz Xc Z8) Tryz.func298 Zf (Zs _ (.cons Zeb (.cons XP .nil)) .nil .nil .nil (Zr _))
abbrev ZF3 (f:Zw8):Zd:=⟨[.one (.P),.one (.S)],[.one (.I .i64),.one (.V)],fun t K _ h=>f t.1 t.2.1 (fun a b h=>K (a,b,()) h) h⟩
abbrev ZPx (a:zT1):Cfg:=ZD Tryz.prog [(251,⟨[.one (.P)],[],fun t K _ h=>a t.1 (fun h=>K (()) h) h⟩)] 19 [] [] [] ZE
theorem ZOy (a:zT1):ZI (ZPx a) Tryz.f183 .leaf (ZF3 (Xz a)):=fun _ _ _ _=>by kernel_rfl
theorem ZKA:Zk Tryz.prog 183 (ZF3 ZA):=okF (ZOy Yf) Tryz.func183 Zf (Zs _ (.cons ZaD .nil) .nil .nil .nil (Zr _))
abbrev ZLk (f:Zz3):Zd:=⟨[.one (.P),.one (.P)],[],fun t K a h=>f t.1 t.2.1 (fun h=>K (()) h) a h⟩
abbrev ZPw (a:zT3) (b:Zhu) (c:Zhu) (d:Zw8):Cfg:=ZD Tryz.prog [(98,zk3 a),(298,ZLl b),(163,⟨[.one (.S)],[.one (.B)],fun t K _ h=>c t.1 (fun e h=>K (e,()) h) h⟩),(183,ZF3 d)] 67 [] [] [] ZE
theorem ZOx (a:zT3) (b:Zhu) (c:Zhu) (d:Zw8):ZI (ZPw a b c d) Tryz.f241 (.seq .leaf (.block (.loop [4] [.one (.I .i64)] [(5,66)] (.seq (.block (.cut [] [] [(8,26)] .leaf (.seq .leaf (.cut [] [] [(42,53)] .leaf .leaf)))) .leaf)))) (ZLk (ZdQ a b c d)):=fun _ _ _ _=>by kernel_rfl
theorem ZO2:Zk Tryz.prog 241 (ZLk ZaN):=okF (ZOx Zp Zek Z8 ZA) Tryz.func241 Zf (Zs _ (.cons zo3 (.cons ZO3 (.cons XP (.cons ZKA .nil)))) .nil .nil .nil (Zr _))
abbrev ZHt (f:ZBW):Zd:=⟨[.one (.P)],[.one (.S)],fun t K a h=>f t.1 (fun b h=>K (b,()) h) a h⟩
abbrev ZPv (a:zT2) (b:zT3) (c:zT4) (d:Zz3) (e:zT6) (f:Zz3):Cfg:=ZD Tryz.prog [(166,zk2 a),(98,zk3 b),(115,⟨[.one (.P)],[.one (.S)],fun t K _ h=>c t.1 (fun g h=>K (g,()) h) h⟩),(240,ZLm d),(184,zk6 e),(241,ZLk f)] 72 [] [] [] ZE
theorem ZOw (a:zT2) (b:zT3) (c:zT4) (d:Zz3) (e:zT6) (f:Zz3):ZI (ZPv a b c d e f) Tryz.f168 (.seq .leaf (.seq .leaf (.seq .leaf (.block (.loop [] [] [(2,2),(4,4),(12,71)] (.block (.seq .leaf (.block (.cut [16] [.one (.B)] [(17,30)] .leaf .leaf))))))))) (ZHt (Zeq a b c d e f)):=fun _ _ _ _=>by kernel_rfl
theorem ZN0:Zk Tryz.prog 168 (ZHt XR):=okF (ZOw Zx Zp Xb Zaz ZB ZaN) Tryz.func168 Zf (Zs _ (.cons zo2 (.cons zo3 (.cons Zdp (.cons ZO4 (.cons zo6 (.cons ZO2 .nil)))))) .nil .nil .nil (Zr _))
abbrev Zz2 (f:Zpv):Zd:=⟨[.one (.P),.one (.I .i64)],[.agg [.I .u8,.S,.L,.L]],fun t K a h=>f t.1 t.2.1 (fun b h=>K (b,()) h) a h⟩
abbrev ZLj (f:ZGf):Zd:=⟨[.one (.P),.one (.P),.one (.I .i64)],[],fun t K a h=>f t.1 t.2.1 t.2.2.1 (fun h=>K (()) h) a h⟩
abbrev ZPt (a:zT1) (b:zT2) (c:zT3) (d:ZBW) (e:Zpv):Cfg:=ZD Tryz.prog [(97,zk1 a),(166,zk2 b),(98,zk3 c),(168,ZHt d),(96,Zz2 e)] 66 [] [] [] ZE
theorem ZOu (a:zT1) (b:zT2) (c:zT3) (d:ZBW) (e:Zpv):ZI (ZPt a b c d e) Tryz.f239 (.seq .leaf (.cut [] [] [(8,50)] (.seq .leaf (.cond (.cut [] [] [(13,21)] .leaf (.seq (.order (tkS [1,3,5,7,11,9,12,14,16,18,20,22])) (.seq .leaf (.cut [] [] [(35,43)] .leaf .leaf)))) .leaf)) (.seq (.order (.take 0 true (.take 1 true (.take 2 true (.take 4 true (.take 5 true (.take 3 true (.take 7 true (.fork 6 (.take 8 false (.take 9 false (.take 10 true (.take 12 true (.take 13 true (.fork 11 (.take 14 false .done) 14 (.take 11 false .done))))))) 8 (.take 6 false (.take 9 false (.take 10 true (.take 12 true (.take 13 true (.fork 11 (.take 14 false .done) 14 (.take 11 false .done)))))))))))))))) .leaf))) (ZLj (Zer a b c d e)):=fun _ _ _ _=>by kernel_rfl
theorem ZOK (a:Zpv) (b:Zk Tryz.prog 96 (Zz2 a)):Zk Tryz.prog 239 (ZLj (Za2 a)):=okF (ZOu Z7 Zx Zp XR a) Tryz.func239 Zf (Zs _ (.cons zo1 (.cons zo2 (.cons zo3 (.cons ZN0 (.cons b .nil))))) .nil .nil .nil (Zr _)) (hlen:=Awt rfl)
abbrev ZLi (f:ZGe):Zd:=⟨[.one (.P),.one (.I .u8),.one (.I .u8),.one (.I .i64)],[.agg [.I .u8,.S,.L,.L]],fun t K a h=>f t.1 t.2.1 t.2.2.1 t.2.2.2.1 (fun b h=>K (b,()) h) a h⟩
abbrev ZPs (a:zT3) (b:zT1) (c:zT2) (d:ZGf):Cfg:=ZD Tryz.prog [(98,zk3 a),(97,zk1 b),(166,zk2 c),(239,ZLj d)] 77 [] [] [] ZE
theorem ZOt (a:zT3) (b:zT1) (c:zT2) (d:ZGf):ZI (ZPs a b c d) Tryz.f167 (.seq .leaf (.cut [] [] [(10,17)] .leaf (.seq .leaf (.seq .leaf (.seq .leaf (.seq (.block (.loop [] [] [(29,68)] (.cut [] [] [(29,44)] .leaf (.block (.cut [] [] [(45,64)] (.seq .leaf (.cond (.cut [] [] [(49,57)] .leaf .leaf) .leaf)) .leaf))))) .leaf)))))) (ZLi (ZbW a b c d)):=fun _ _ _ _=>by kernel_rfl
theorem ZOJ (a:Zpv) (b:Zk Tryz.prog 96 (Zz2 a)):Zk Tryz.prog 167 (ZLi (Xe a)):=okF (ZOt Zp Z7 Zx (Za2 a)) Tryz.func167 Zf (Zs _ (.cons zo3 (.cons zo1 (.cons zo2 (.cons (ZOK a b) .nil)))) .nil .nil .nil (Zr _)) (hlen:=Awt rfl)
abbrev ZLh (f:ZGd):Zd:=⟨[.one (.P),.one (.S),.one (.I .u8)],[.agg [.I .u8,.S,.L,.L]],fun t K a h=>f t.1 t.2.1 t.2.2.1 (fun b h=>K (b,()) h) a h⟩
abbrev ZPr (a:zT2) (b:zT3):Cfg:=ZD Tryz.prog [(166,zk2 a),(98,zk3 b)] 47 [] [] [] ZE
theorem ZOs (a:zT2) (b:zT3):ZI (ZPr a b) Tryz.f169 (.seq .leaf (.seq (.seq .leaf (.block (.loop [10] [.one (.I .i64)] [(7,7),(11,44)] (.seq .leaf (.seq .leaf (.seq (.block (.seq .leaf (.cut [] [] [(13,36)] .leaf .leaf))) .leaf)))))) .leaf)) (ZLh (Zep a b)):=fun _ _ _ _=>by kernel_rfl
theorem ZO0:Zk Tryz.prog 169 (ZLh Za7):=okF (ZOs Zx Zp) Tryz.func169 Zf (Zs _ (.cons zo2 (.cons zo3 .nil)) .nil .nil .nil (Zr _))
abbrev ZLg (f:ZGc):Zd:=⟨[.one (.P)],[],fun t K a h=>f t.1 (fun h=>K (()) h) a h⟩
abbrev ZPq (a:zT2) (b:zT3):Cfg:=ZD Tryz.prog [(166,zk2 a),(98,zk3 b)] 35 [] [] [] ZE
theorem ZOr (a:zT2) (b:zT3):ZI (ZPq a b) Tryz.f242 (.cut [] [] [(2,2),(4,17)] .leaf (.seq .leaf (.block (.loop [3] [.one (.I .u8)] [(20,34)] .leaf)))) (ZLg (Zdh a b)):=fun _ _ _ _=>by kernel_rfl
theorem ZOZ:Zk Tryz.prog 242 (ZLg YS):=okF (ZOr Zx Zp) Tryz.func242 Zf (Zs _ (.cons zo2 (.cons zo3 .nil)) .nil .nil .nil (Zr _))
abbrev ZLf (f:ZGb):Zd:=⟨[.one (.P)],[.agg [.I .u8,.S,.L,.L]],fun t K a h=>f t.1 (fun b h=>K (b,()) h) a h⟩
abbrev ZPp (a:zT2) (b:zT3) (c:ZGc):Cfg:=ZD Tryz.prog [(166,zk2 a),(98,zk3 b),(242,ZLg c)] 102 [] [] [] ZE
theorem ZOq (a:zT2) (b:zT3) (c:ZGc):ZI (ZPp a b c) Tryz.f170 (.seq .leaf (.seq .leaf (.cut [] [] [(11,20)] .leaf (.cut [] [] [(4,4),(21,46)] .leaf (.cut [] [] [(47,58)] .leaf (.cut [] [] [(5,6),(59,90)] .leaf (.seq (.order (tkS [1,3,5,9,11,13,15,7,17,18,20,22])) .leaf))))))) (ZLf (Zdf a b c)):=fun _ _ _ _=>by kernel_rfl
theorem ZOY:Zk Tryz.prog 170 (ZLf XX):=okF (ZOq Zx Zp YS) Tryz.func170 Zf (Zs _ (.cons zo2 (.cons zo3 (.cons ZOZ .nil))) .nil .nil .nil (Zr _))
abbrev ZPu (a:zT1) (b:zT2) (c:zT3) (d:ZGe) (e:ZBW) (f:ZGd) (g:ZGb):Cfg:=ZD Tryz.prog [(97,zk1 a),(166,zk2 b),(98,zk3 c),(167,ZLi d),(168,ZHt e),(169,ZLh f),(170,ZLf g)] 80 [] [] [] ZE
theorem ZOv (a:zT1) (b:zT2) (c:zT3) (d:ZGe) (e:ZBW) (f:ZGd) (g:ZGb):ZI (ZPu a b c d e f g) Tryz.f96 (.seq .leaf (.seq .leaf (.cut [] [] [(5,5),(8,72)] .leaf .leaf))) (Zz2 (ZdP a b c d e f g)):=fun _ _ _ _=>by kernel_rfl
theorem ZOL (a:Zpv) (b:Zk Tryz.prog 96 (Zz2 a)):Zk Tryz.prog 96 (Zz2 (ZbM a)):=okF (ZOv Z7 Zx Zp (Xe a) XR Za7 XX) Tryz.func96 Zf (Zs _ (.cons zo1 (.cons zo2 (.cons zo3 (.cons (ZOJ a b) (.cons ZN0 (.cons ZO0 (.cons ZOY .nil))))))) .nil .nil .nil (Zr _)) (hlen:=Awt rfl)
theorem ZNY:∀ n,Zk Tryz.prog 96 (Zz2 (XK n))
 | 0=>ZmN Tryz.func96 (by kernel_rfl) (by kernel_rfl) fun _ _ _ _ h=>h
 | n+1=>ZOL _ (ZNY n)
theorem ZO1:Zk Tryz.prog 96 (Zz2 ZbQ):=Zyr ZNY
def sq1:Code->Code
  | .seq x _=>x
  | c=>c
def sq2:Code->Code
  | .seq _ y=>y
  | c=>c
def ZA1:Code:=Tryz.f25.body.getD .skip
def pA:Code:=sq1 ZA1
def pB:Code:=sq1 (sq2 ZA1)
def pR:Code:=sq2 (sq2 (sq2 ZA1))
def pD:Code:=sq1 (sq2 (sq2 ZA1))
theorem ZA0:Tryz.f25.body=some (.seq pA (.seq pB (.seq pD pR))):=by kernel_rfl
abbrev Zrx:List VT:=[.agg [.I .u8,.S,.L,.L],.one (.I .i64),.one (.I .i64)]
def ZA2 (p:Value->HP):Cfg:={ ZD Tryz.prog [(96,Zz2 ZbQ),(97,zk1 Z7),(98,zk3 Zp)] 32 [] [] [] ZE with pan:=p,rnd:=none }
theorem Ztd (p:Value->HP):(ZA2 p).OK:=(Zs (ZD Tryz.prog [(96,Zz2 ZbQ),(97,zk1 Z7),(98,zk3 Zp)] 32 [] [] [] ZE) (.cons ZO1 (.cons zo1 (.cons zo3 .nil))) .nil .nil .nil (Zr _)).at none p
def Zz7 (K:XB Zrx->HP) (e:Env) (h:Zc):Prop:=ZwD (ZA2 fun _ _=>False) e h Tryz.f25.results.toList fun vs=>match XB.un Zrx vs with
  | some r=>K r h
  | none=>False
def ZFG (a b c:Nat):Env:=⟨fun j=>bif Nat.beq j 2 then some (.adr a 0) else bif Nat.beq j 3 then some (.adr b 0) else bif Nat.beq j 4 then some (.adr c 0) else none,.no⟩
def ZNp (a b c:Nat) (E:HP) (v:Value) (h:Zc):Prop:=∃ e n,v = .iface 160 (.agg #[.int .i64 e,.int .i64 n])/\ZHx a b c e n E h
def clo (a b c:Nat):Deferred:={ target:= .fn (.func 95) #[.pointer (some ⟨a,0,none⟩),.pointer (some ⟨b,0,none⟩),.pointer (some ⟨c,0,none⟩)],args:= #[]}
def ZN3 (e:Env) (a b c:Nat):Env:=⟨fun j=>bif Nat.beq j 10 then none else e.f j,.raw [clo a b c]⟩
def prd (s:ByteArray) (K:XB Zrx->HP) (h:Zc):Prop :=
  wpC (ZA2 fun _ _=>False) (.seq pA pB) .leaf (Zj5 [.val (.string s)]) h fun x e h'=>match x with
    | .ret=>Zz7 K e h'
    | .normal=>match e.f 2,e.f 3,e.f 4 with
      | some (.adr a 0),some (.adr b 0),some (.adr c 0)=>wpC (ZA2 (ZNp a b c (Zz7 K (ZFG a b c)))) pR .leaf (ZN3 e a b c) h' fun x d g=>match x with
          | .normal=>Zz7 K d g
          | .ret=>Zz7 K d g
          | .exit _=>False
      | _,_,_=>False
    | .exit _=>False
theorem Zs5 {e:Env} {a:Act} {w:World} {K:XB Zrx->HP} (d:∀ j v,e j=some v->a.tmps[j]?=some v.v) (h:Zz7 K e w.heap):∃ v,(results Tryz.f25 a.tmps).run Tryz.prog w = .ok v w/\∃ r,v=ZCd Zrx r/\K r w.heap:=by
  have b:Agr a.tmps.size ⟨e.f,.raw a.defers⟩ a:=⟨rfl,rfl,d⟩
  have h':ZwD { ZA2 (fun _ _=>False) with n:=a.tmps.size } ⟨e.f,.raw a.defers⟩ w.heap Tryz.f25.results.toList fun vs=>match XB.un Zrx vs with
    | some r=>K r w.heap
    | none=>False:=h
  obtain ⟨vs,k,g⟩:=Zkn (c:={ ZA2 (fun _ _=>False) with n:=a.tmps.size }) (f:=fun
    | .tmp t=>pure (a.tmps.getD t undef)
    | .cell x t=>do loadVar t (<- asAddr (a.tmps.getD x undef))) b (fun _=>rfl) (fun _ _=>rfl) h'
  split at g
  ·rename_i r i
   refine ⟨ZCd Zrx r,?_,r,rfl,g⟩
   unfold results
   rw [Axb]
   simp only [Awk,Sem.run_map]
   refine (congrArg (fun r=>(Result.andThen (Result.andThen r _) _)) k).trans ?_
   simp only [Awl,Awp]
   rw [Zyb i]
   exact congrArg (fun v=>Result.ok v w) (Zri _)
  ·exact g.elim
def ZHd:Code:=Tryz.f95.body.getD .skip
def cl1:Code:=sq1 ZHd
def cl2:Code:=sq2 ZHd
theorem Zve:Tryz.f95.body=some (.seq cl1 cl2):=by kernel_rfl
def ZHz:Ann:= .block (.seq .leaf (.cond .leaf (.seq .leaf (.cond (.seq .leaf (.order (tkS [1,3,7,5,9,10,12,14]))) .leaf))))
def ZFn:Cfg:={ ZD Tryz.prog [] 17 [] [] [] ZE with pan:=fun _ _=>False,rnd:=none }
theorem ZzD:ZFn.OK:=(Zs (ZD Tryz.prog [] 17 [] [] [] ZE) .nil .nil .nil .nil (Zr _)).at none _
def ptr (b:Nat):Value:= .pointer (some ⟨b,0,none⟩)
def ZFH (a b c:Nat) (v:Value):Env:=⟨fun j=>bif Nat.beq j 0 then some (.val (.pointer (some ⟨a,0,none⟩))) else bif Nat.beq j 1 then some (.val (.pointer (some ⟨b,0,none⟩))) else bif Nat.beq j 2 then some (.val (.pointer (some ⟨c,0,none⟩))) else bif Nat.beq j 6 then some (.val v) else none,.no⟩
theorem Zpf {e g i:Nat} {x:Value} {j:Nat} {v:EV} (h:(ZFH e g i x).f j=some v):(j=0/\v = .val (ptr e))\/(j=1/\v = .val (ptr g))\/(j=2/\v = .val (ptr i))\/(j=6/\v = .val x):=by
  unfold ZFH at h
  dsimp only at h
  cases a:Nat.beq j 0 with
  | true=>rw [a] at h;cases h;exact .inl ⟨Awg a,rfl⟩
  | false =>
    rw [a] at h
    cases b:Nat.beq j 1 with
    | true=>rw [b] at h;cases h;exact .inr (.inl ⟨Awg b,rfl⟩)
    | false =>
      rw [b] at h
      cases c:Nat.beq j 2 with
      | true=>rw [c] at h;cases h;exact .inr (.inr (.inl ⟨Awg c,rfl⟩))
      | false =>
        rw [c] at h
        cases d:Nat.beq j 6 with
        | true=>rw [d] at h;cases h;exact .inr (.inr (.inr ⟨Awg d,rfl⟩))
        | false=>rw [d] at h;cases h
def ZA5 (E:HP):Ex->Env->Zc->Prop
  | .normal,_,h=>E h
  | _,_,_=>False
theorem rdC (a b c:Nat) (e n:Int) (E:HP) (h:Zc):wpC ZFn cl2 ZHz (ZFH a b c (.iface 160 (.agg #[.int .i64 e,.int .i64 n]))) h (ZA5 E)=ZHx a b c e n E h:=by kernel_rfl
theorem ZCy:cl1 = .region 0 #[⟨some 6,.call ⟨.builtin .recover,#[],#[]⟩,20, "json.go:273", #[],none⟩] false:=by kernel_rfl
theorem ZyC {l:List Nat} (h:ZbY l mkN=false):mkN∉l:=by
  induction l with
  | nil=>intro a;cases a
  | cons x xs c =>
    intro a
    simp only [ZbY] at h
    cases b:Nat.beq mkN x with
    | true=>rw [b] at h;cases h
    | false =>
      rw [b] at h
      rcases Awr.1 a with a | a
      ·rw [<- a,Axx] at b;cases b
      ·exact c h a
set_option maxRecDepth 100000 in
theorem ZtL {b c d:Nat} {e n:Int} {E:HP} {w:World} (k:ZHx b c d e n E w.heap) :
    CallsD Tryz.prog 95 #[ptr b,ptr c,ptr d] (.panicking [{ v:= .iface 160 (.agg #[.int .i64 e,.int .i64 n]),recovered:=false }]) w fun f l w' =>
      f = .returned (.tuple #[])/\l = .panicking [{ v:= .iface 160 (.agg #[.int .i64 e,.int .i64 n]),recovered:=true }]/\Fw.Same w w'/\E w'.heap:=by
  refine callsD_of_wpS Tryz.func95 Zve fun p cs hu=>?_
  apply wpS_seq
  rw [ZCy]
  apply wpS_region
  simp [wpOpsS,go_sem,recoverD,hu,Tryz.ntmps95,Exit.thenS]
  refine wpS_of_wp ((wpIn_wide (n:=0)).1 (wpIn_mono (Zaw cl2 ZFn ZzD Zf ZHz (ZFH b c d (.iface 160 (.agg #[.int .i64 e,.int .i64 n]))) _ w (ZA5 E) ?_ (by rw [rdC];exact k)) ?_))
  ·refine ⟨by simp [ZFn,ZD,ptr],rfl,fun j v m=>?_⟩
   have o:(j=0/\v = .val (ptr b))\/(j=1/\v = .val (ptr c))\/(j=2/\v = .val (ptr d))\/(j=6/\v = .val (.iface 160 (.agg #[.int .i64 e,.int .i64 n]))):=Zpf m
   rcases o with ⟨rfl,rfl⟩ | ⟨rfl,rfl⟩ | ⟨rfl,rfl⟩ | ⟨rfl,rfl⟩<;>simp [EV.v,Aya]
  ·intro ex q w' hp
   cases ex with
   | normal =>
     obtain ⟨f,i,g,h,a⟩:=hp
     have hd:=h.2 (ZyC (by kernel_rfl))
     exact ⟨hd,_,rfl,.tuple #[],by simp [results,Tryz.results95],rfl,rfl,g,a⟩
   | ret=>obtain ⟨f,i,g,h,a⟩:=hp;exact a.elim
   | exit id=>obtain ⟨f,i,g,h,a⟩:=hp;exact a.elim
   | goto t=>exact hp.elim
   | outgrown=>exact hp.elim
   | panic ch=>obtain ⟨v,i,g,h,a⟩:=hp;exact a.elim
theorem rdN (a c d:Nat) (E:HP) (h:Zc):wpC ZFn cl2 ZHz (ZFH a c d .nilIface) h (ZA5 E)=(Zo2 .nilIface fun b=>Zy b (E h) False):=by kernel_rfl
set_option maxRecDepth 100000 in
theorem Zwj {e f g:Nat} {w:World}:CallsD Tryz.prog 95 #[ptr e,ptr f,ptr g] .returning w fun b k w'=>b = .returned (.tuple #[])/\k = .returning/\Fw.Same w w'/\w'.heap=w.heap:=by
  refine callsD_of_wpS Tryz.func95 Zve fun l cs hu=>?_
  apply wpS_seq
  rw [ZCy]
  apply wpS_region
  simp [wpOpsS,go_sem,recoverD,hu,Tryz.ntmps95,Exit.thenS]
  refine wpS_of_wp ((wpIn_wide (n:=0)).1 (wpIn_mono (Zaw cl2 ZFn ZzD Zf ZHz (ZFH e f g .nilIface) _ w (ZA5 fun h=>h=w.heap) ?_ (by rw [rdN];exact .inl ⟨rfl,Zm rfl rfl⟩)) ?_))
  ·refine ⟨by simp [ZFn,ZD,ptr],rfl,fun j v m=>?_⟩
   have o:(j=0/\v = .val (ptr e))\/(j=1/\v = .val (ptr f))\/(j=2/\v = .val (ptr g))\/(j=6/\v = .val .nilIface):=Zpf m
   rcases o with ⟨rfl,rfl⟩ | ⟨rfl,rfl⟩ | ⟨rfl,rfl⟩ | ⟨rfl,rfl⟩<;>simp [EV.v,Aya]
  ·intro ex p w' hp
   cases ex with
   | normal =>
     obtain ⟨b,i,c,d,a⟩:=hp
     have hd:=d.2 (ZyC (by kernel_rfl))
     refine ⟨hd,.returning,?_,.tuple #[],by simp [results,Tryz.results95],rfl,rfl,c,a⟩
     cases l
     simp_all
   | ret=>obtain ⟨b,i,c,d,a⟩:=hp;exact a.elim
   | exit id=>obtain ⟨b,i,c,d,a⟩:=hp;exact a.elim
   | goto t=>exact hp.elim
   | outgrown=>exact hp.elim
   | panic ch=>obtain ⟨v,i,c,d,a⟩:=hp;exact a.elim
theorem ZNq:pD = .region 3 #[⟨some 10,.makeFunc (.func 95) #[] #[.tmp 2,.tmp 3,.tmp 4],1, "json.go:272", #[],none⟩,⟨none,.defer ⟨.value (.tmp 10),#[],#[]⟩,0, "json.go:272", #[⟨0,.data⟩],none⟩] false:=by kernel_rfl
theorem wpD {a:Act} {w:World} {Q:Exit->Act->World->Prop} {b c d:Nat} (e:a.tmps[2]?=some (ptr b)) (f:a.tmps[3]?=some (ptr c)) (g:a.tmps[4]?=some (ptr d)) (hd:a.defers=[]) (i:a.tmps.size=32)
    (h:pR.wp Tryz.prog Q { tmps:=a.tmps.setIfInBounds 10 (.func (.func 95) #[] #[ptr b,ptr c,ptr d]),defers:=[clo b c d]} w):(Code.seq pD pR).wp Tryz.prog Q a w:=by
  apply wp_seq
  rw [ZNq]
  apply wp_region
  have j:∀ (fn:Fn) (first cap:Array Value) (w:World),(Instr.makeFunc fn first cap).run Tryz.prog w = .ok (.func fn first cap) w:=fun _ _ _ _=>rfl
  have m:a.eval (.tmp 2)=ptr b:=by simp [Act.eval,e]
  have n:a.eval (.tmp 3)=ptr c:=by simp [Act.eval,f]
  have o:a.eval (.tmp 4)=ptr d:=by simp [Act.eval,g]
  have k:({ tmps:=a.tmps.setIfInBounds 10 (.func (.func 95) #[] #[ptr b,ptr c,ptr d]),defers:=[]}:Act).eval (.tmp 10) = .func (.func 95) #[] #[ptr b,ptr c,ptr d]:=by simp [Act.eval,i]
  obtain ⟨l,p⟩:=a
  dsimp only at hd i e f g
  subst hd
  show wpOps _ _ _ [0,1] _ _
  simp [wpOps,go_sem,j,m,n,o,k,Exit.then]
  refine .inl (.inl ?_)
  have g2:l[2]'(by omega)=ptr b:=(Ayd.1 e).2
  have g3:l[3]'(by omega)=ptr c:=(Ayd.1 f).2
  have g4:l[4]'(by omega)=ptr d:=(Ayd.1 g).2
  simp [g2,g3,g4,i,Oper.upon]
  exact h
theorem nR:ZbY (Fw.dstsOf pR) mkN=false/\ZbY (Fw.dstsOf pR) 2=false/\ZbY (Fw.dstsOf pR) 3=false/\ZbY (Fw.dstsOf pR) 4=false/\ZbY (Fw.dstsOf pA) mkN=false/\ZbY (Fw.dstsOf pB) mkN=false:=⟨by kernel_rfl,by kernel_rfl,by kernel_rfl,by kernel_rfl,by kernel_rfl,by kernel_rfl⟩
theorem ZeV {l:List Nat} {j:Nat} (h:ZbY l j=false):j∉l:=by
  induction l with
  | nil=>intro a;cases a
  | cons x xs c =>
    intro a
    simp only [ZbY] at h
    cases b:Nat.beq j x with
    | true=>rw [b] at h;cases h
    | false =>
      rw [b] at h
      rcases Awr.1 a with a | a
      ·rw [<- a,Axx] at b;cases b
      ·exact c h a
theorem Zwv {d e g j:Nat} {v:EV} (h:(ZFG d e g).f j=some v):(j=2/\v = .adr d 0)\/(j=3/\v = .adr e 0)\/(j=4/\v = .adr g 0):=by
  unfold ZFG at h
  dsimp only at h
  cases a:Nat.beq j 2 with
  | true=>rw [a] at h;cases h;exact .inl ⟨Awg a,rfl⟩
  | false =>
    rw [a] at h
    cases b:Nat.beq j 3 with
    | true=>rw [b] at h;cases h;exact .inr (.inl ⟨Awg b,rfl⟩)
    | false =>
      rw [b] at h
      cases c:Nat.beq j 4 with
      | true=>rw [c] at h;cases h;exact .inr (.inr ⟨Awg c,rfl⟩)
      | false=>rw [c] at h;cases h
set_option maxRecDepth 100000 in
theorem ZzK {a:Act} {w b:World} {K:XB Zrx->HP} {h i k:Nat} {c:Env} (d:∀ j v,c j=some v->a.tmps[j]?=some v.v) (hd:a.defers=[clo h i k]) (l:Fw.Same w b) (m:Zz7 K c b.heap) :
    Leaves Tryz.prog Tryz.f25 a.tmps (Ze0 Zrx w K fun _ _=>False) a.defers .returning b:=by
  rw [hd]
  unfold clo
  refine leaves_cons (f:=95) (args:= #[ptr h,ptr i,ptr k]) (by simp) (by simp [go_sem,ptr]) (Zwj.mono ?_)
  rintro e u n ⟨rfl,rfl,o,p⟩
  have g:Zz7 K c n.heap:=by rw [p];exact m
  obtain ⟨v,q,r,rfl,s⟩:=Zs5 d g
  exact ⟨_,q,.inl ⟨r,rfl,l.trans o,s⟩⟩
set_option maxRecDepth 100000 in
theorem ZA4 {a:Act} {w g:World} {K:XB Zrx->HP} {b c d:Nat} {v:Value} (k:a.tmps[2]?=some (ptr b)) (l:a.tmps[3]?=some (ptr c)) (m:a.tmps[4]?=some (ptr d)) (hd:a.defers=[clo b c d]) (o:Fw.Same w g)
    (p:ZNp b c d (Zz7 K (ZFG b c d)) v g.heap):Leaves Tryz.prog Tryz.f25 a.tmps (Ze0 Zrx w K fun _ _=>False) a.defers (.panicking [{ v,recovered:=false }]) g:=by
  obtain ⟨e,n,rfl,q⟩:=p
  rw [hd]
  unfold clo
  refine leaves_cons (f:=95) (args:= #[ptr b,ptr c,ptr d]) (by simp) (by simp [go_sem,ptr]) ((ZtL q).mono ?_)
  rintro x u y ⟨rfl,rfl,g1,g2⟩
  have h:∀ j v,(ZFG b c d) j=some v->a.tmps[j]?=some v.v:=fun j v s=>by
    have i:(j=2/\v = .adr b 0)\/(j=3/\v = .adr c 0)\/(j=4/\v = .adr d 0):=Zwv s
    rcases i with ⟨rfl,rfl⟩ | ⟨rfl,rfl⟩ | ⟨rfl,rfl⟩
    ·exact k
    ·exact l
    ·exact m
  obtain ⟨v,i,r,rfl,t⟩:=Zs5 h g2
  exact ⟨_,i,.inl ⟨r,rfl,o.trans g1,t⟩⟩
theorem ZNR {s:ByteArray}:Agr 32 (Zj5 [.val (.string s)]) { tmps:= #[.string s]++Array.replicate 31 undef,defers:=[]}:=by
  refine ⟨by simp,rfl,fun j v c=>?_⟩
  obtain ⟨k,b,a⟩:=Zll [.val (.string s)] 0 j v c
  cases k with
  | zero=>simp at b a;subst b a;simp [EV.v]
  | succ k=>simp at a
theorem ZBE {e:Env} {a:Act} {g i k:Nat} {x:Value} (h:Agr 32 e a):Agr 32 (ZN3 e g i k) { tmps:=a.tmps.setIfInBounds 10 x,defers:=[clo g i k]}:=by
  refine ⟨by simp [h.size],rfl,fun j v l=>?_⟩
  have b:(bif Nat.beq j 10 then none else e.f j)=some v:=l
  cases c:Nat.beq j 10 with
  | true=>rw [c] at b;cases b
  | false =>
    rw [c] at b
    have d:10≠j:=fun m=>by rw [<- m] at c;cases c
    show (a.tmps.setIfInBounds 10 x)[j]?=_
    rw [Awj d]
    exact h.val j v b
set_option maxRecDepth 100000 in
theorem Zte {s:ByteArray} {K:XB Zrx->HP} {w:World} (B:prd s K w.heap):Calls Tryz.prog 25 #[.string s] w (Ze0 Zrx w K fun _ _=>False):=by
  refine calls_of_wp_defers Tryz.func25 ZA0 ?_
  show (Code.seq pA (.seq pB (.seq pD pR))).wp Tryz.prog _ { tmps:= #[.string s]++Array.replicate 31 undef,defers:=[]} w
  obtain ⟨y,F,G,H,C,D⟩:=nR
  have stop:∀ {a:Act} {g:World} {e:Env},Agr 32 e a->Fw.Same w g->a.defers=[]->Zz7 K e g.heap->Leaves Tryz.prog Tryz.f25 a.tmps (Ze0 Zrx w K fun _ _=>False) a.defers .returning g:=fun {a g e} g1 g2 g3 g4=>by
    rw [g3]
    obtain ⟨v,I,r,rfl,J⟩:=Zs5 g1.val g4
    exact ⟨_,I,.inl ⟨r,rfl,g2,J⟩⟩
  unfold prd at B
  have L:=Zaw pA (ZA2 fun _ _=>False) (Ztd _) Zf .leaf _ _ w _ ZNR B
  refine wp_seq ((wpIn_wide (n:=0)).1 (wpIn_mono L ?_))
  intro ex M g hp
  cases ex with
  | goto t=>exact hp.elim
  | outgrown=>exact hp.elim
  | panic ch=>obtain ⟨v,N,z,A,j⟩:=hp;exact j.elim
  | exit id=>obtain ⟨E,g1,g2,g3,g4⟩:=hp;exact g4.elim
  | ret =>
    obtain ⟨E,g1,g2,g3,g4⟩:=hp
    exact stop g1 g2 (g3.2 (ZeV C)) g4
  | normal =>
    obtain ⟨E,g1,g2,g3,g4⟩:=hp
    have d1:M.defers=[]:=g3.2 (ZeV C)
    have O:=Zaw pB (ZA2 fun _ _=>False) (Ztd _) Zf .leaf _ _ g _ g1 g4
    refine wp_seq ((wpIn_wide (n:=0)).1 (wpIn_mono O ?_))
    intro ex a2 P hp
    cases ex with
    | goto t=>exact hp.elim
    | outgrown=>exact hp.elim
    | panic ch=>obtain ⟨v,N,z,A,j⟩:=hp;exact j.elim
    | exit id=>obtain ⟨k,c,h,l,d⟩:=hp;exact d.elim
    | ret =>
      obtain ⟨k,c,h,l,d⟩:=hp
      exact stop c (g2.trans h) ((l.2 (ZeV D)).trans d1) d
    | normal =>
      obtain ⟨k,c,h,l,d⟩:=hp
      have d2:a2.defers=[]:=(l.2 (ZeV D)).trans d1
      dsimp only at d
      split at d
      case h_2=>exact d.elim
      rename_i m o p z A j
      have t2:=c.val 2 _ z
      have t3:=c.val 3 _ A
      have t4:=c.val 4 _ j
      refine wpD t2 t3 t4 d2 c.size ?_
      have Q:=Zaw pR (ZA2 (ZNp m o p (Zz7 K (ZFG m o p)))) (Ztd _) Zf .leaf _ _ P _ (ZBE (x:= .func (.func 95) #[] #[ptr m,ptr o,ptr p]) c) d
      refine (wpIn_wide (n:=0)).1 (wpIn_mono Q ?_)
      intro ex a3 S hp
      cases ex with
      | goto t=>exact hp.elim
      | outgrown=>exact hp.elim
      | exit id=>obtain ⟨q,u,i,b,f⟩:=hp;exact f.elim
      | normal =>
        obtain ⟨q,u,i,b,f⟩:=hp
        exact ZzK u.val (b.2 (ZeV y)) ((g2.trans h).trans i) f
      | ret =>
        obtain ⟨q,u,i,b,f⟩:=hp
        exact ZzK u.val (b.2 (ZeV y)) ((g2.trans h).trans i) f
      | panic ch =>
        obtain ⟨v,rfl,i,b,f⟩:=hp
        have k:=(b.1 2 (ZeV F)).trans (show (a2.tmps.setIfInBounds 10 _)[2]?=some (ptr m) by rw [Awj (by decide)];exact t2)
        have q:=(b.1 3 (ZeV G)).trans (show (a2.tmps.setIfInBounds 10 _)[3]?=some (ptr o) by rw [Awj (by decide)];exact t3)
        have R:=(b.1 4 (ZeV H)).trans (show (a2.tmps.setIfInBounds 10 _)[4]?=some (ptr p) by rw [Awj (by decide)];exact t4)
        exact ZA4 k q R (b.2 (ZeV y)) ((g2.trans h).trans i) f
theorem rdP (s:ByteArray) (K:(Int × ByteArray × Sl × Sl × Unit)->Int->Int->HP) (h:Zc):prd s (fun r h=>K r.1 r.2.1 r.2.2.1 h) h=ZaH s K h:=by kernel_rfl
def Zru:Zd:=⟨[.one (.S)],Zrx,fun t K _ h=>ZaH t.1 (fun a b c h=>K (a,b,c,()) h) h⟩
set_option maxRecDepth 100000 in
theorem Zv4 {s:ByteArray} {K:(Int × ByteArray × Sl × Sl × Unit)->Int->Int->HP} {w:World} (d:ZaH s K w.heap):Calls Tryz.prog 25 #[.string s] w fun e w'=>∃ r:XB Zrx,e = .returned (ZCd Zrx r)/\Fw.Same w w'/\K r.1 r.2.1 r.2.2.1 w'.heap:=by
  have a:prd s (fun r h=>K r.1 r.2.1 r.2.2.1 h) w.heap:=(rdP s K w.heap).mpr d
  refine (Zte a).mono ?_
  rintro e w' (⟨r,he,c,b⟩ | ⟨v,he,c,b⟩)
  ·exact ⟨r,he,c,b⟩
  ·exact b.elim
theorem Zkt:Zk Tryz.prog 25 Zru where
  named:=⟨_,Tryz.func25,by kernel_rfl,by kernel_rfl⟩
  calls t K j w a:=(Zv4 (K:=fun b c d h=>K (b,c,d,()) h) a).mono fun e w' f=>let ⟨r,he,g,i⟩:=f;.inl ⟨r,he,g,i⟩
abbrev ZLe (f:Zhu):Zd:=⟨[.one (.S)],[.one (.B)],fun t K _ h=>f t.1 (fun a h=>K (a,()) h) h⟩
abbrev ZPo (a:ZD9):Cfg:=ZD Tryz.prog [(25,⟨[.one (.S)],[.agg [.I .u8,.S,.L,.L],.one (.I .i64),.one (.I .i64)],fun t K _ h=>a t.1 (fun b c d h=>K (b,c,d,()) h) h⟩)] 25 [] [] [] ZE
theorem ZOp (a:ZD9):ZI (ZPo a) Tryz.f162 .leaf (ZLe (Zgi a)):=fun _ _ _ _=>by kernel_rfl
theorem ZOX:Zk Tryz.prog 162 (ZLe ZcL):=okF (ZOp ZaH) Tryz.func162 Zf (Zs _ (.cons Zkt .nil) .nil .nil .nil (Zr _))
abbrev ZLd (f:Zhu):Zd:=⟨[.one (.S)],[.one (.B)],fun t K _ h=>f t.1 (fun a h=>K (a,()) h) h⟩
abbrev ZPn (a:Zhu):Cfg:=ZD Tryz.prog [(163,⟨[.one (.S)],[.one (.B)],fun t K _ h=>a t.1 (fun b h=>K (b,()) h) h⟩)] 6 [] [] [] ZE
theorem ZOo (a:Zhu):ZI (ZPn a) Tryz.f165 .leaf (ZLd (Zg5 a)):=fun _ _ _ _=>by kernel_rfl
theorem ZOW:Zk Tryz.prog 165 (ZLd ZeY):=okF (ZOo Z8) Tryz.func165 Zf (Zs _ (.cons XP .nil) .nil .nil .nil (Zr _))
abbrev ZLc (f:ZsK):Zd:=⟨[.one (.L),.fn 165],[.one (.I .i64)],fun t K _ h=>f t.1 (fun a h=>K (a,()) h) h⟩
abbrev ZPm (a:Zhu):Cfg:=ZD Tryz.prog [(165,ZLd a)] 19 [] [] [] ZE
theorem ZOn (a:Zhu):ZI (ZPm a) Tryz.f238 (.seq .leaf (.seq (.seq .leaf (.block (.loop [8] [.one (.I .i64)] [(4,5),(9,18)] .leaf))) .leaf)) (ZLc (YI a)):=fun _ _ _ _=>by kernel_rfl
theorem ZOV:Zk Tryz.prog 238 (ZLc Yn):=okF (ZOn ZeY) Tryz.func238 Zf (Zs _ (.cons ZOW .nil) .nil .nil .nil (Zr _))
abbrev ZLb (f:Zl1):Zd:=⟨[.one (.L),.fn 165],[.one (.B)],fun t K _ h=>f t.1 (fun a h=>K (a,()) h) h⟩
abbrev ZPl (a:ZsK):Cfg:=ZD Tryz.prog [(238,ZLc a)] 9 [] [] [] ZE
theorem ZOm (a:ZsK):ZI (ZPl a) Tryz.f164 .leaf (ZLb (YC a)):=fun _ _ _ _=>by kernel_rfl
theorem ZOU:Zk Tryz.prog 164 (ZLb ZQ):=okF (ZOm Yn) Tryz.func164 Zf (Zs _ (.cons ZOV .nil) .nil .nil .nil (Zr _))
abbrev ZLa (f:ZsJ):Zd:=⟨[.agg [.I .u8,.S,.L,.L]],[.one (.B)],fun t K _ h=>f t.1 (fun a h=>K (a,()) h) h⟩
abbrev ZPk (a:Zhu) (b:Zhu) (c:Zl1):Cfg:=ZD Tryz.prog [(162,ZLe a),(163,⟨[.one (.S)],[.one (.B)],fun t K _ h=>b t.1 (fun d h=>K (d,()) h) h⟩),(164,ZLb c)] 86 [] [] [] ZE
theorem ZOl (a:Zhu) (b:Zhu) (c:Zl1):ZI (ZPk a b c) Tryz.f94 (.seq .leaf (.seq .leaf (.seq (.seq .leaf (.block (.cut [19] [.one (.B)] [(20,22)] .leaf .leaf))) .leaf))) (ZLa (ZiH a b c)):=fun _ _ _ _=>by kernel_rfl
theorem ZOT:Zk Tryz.prog 94 (ZLa Ze6):=okF (ZOl ZcL Z8 ZQ) Tryz.func94 Zf (Zs _ (.cons ZOX (.cons XP (.cons ZOU .nil))) .nil .nil .nil (Zr _))
abbrev ZK9 (f:ZsJ):Zd:=⟨[.agg [.I .u8,.S,.L,.L]],[.one (.B)],fun t K _ h=>f t.1 (fun a h=>K (a,()) h) h⟩
abbrev ZPj:Cfg:=ZD Tryz.prog [] 3 [] [] [] ZE
theorem ZOk:ZI (ZPj) Tryz.f119 .leaf (ZK9 Zg6):=fun _ _ _ _=>by kernel_rfl
theorem ZOS:Zk Tryz.prog 119 (ZK9 ZeZ):=okF (ZOk) Tryz.func119 Zf (Zs _ .nil .nil .nil .nil (Zr _))
abbrev Zz1 (f:Zoc):Zd:=⟨[.one (.P),.agg [.I .u8,.S,.L,.L],.one (.I .i64),.one (.V)],[.one (.B)],fun t K _ h=>f t.1 t.2.1 t.2.2.1 t.2.2.2.1 (fun a h=>K (a,()) h) h⟩
abbrev ZK8 (f:ZF9):Zd:=⟨[.agg [.I .u8,.S,.L,.L],.one (.P),.one (.P),.one (.P)],[.one (.B)],fun t K _ h=>f t.1 t.2.1 t.2.2.1 t.2.2.2.1 (fun a h=>K (a,()) h) h⟩
abbrev ZPh (a:Zoc):Cfg:=ZD Tryz.prog [(93,Zz1 a)] 13 [] [] [] ZE
theorem ZOi (a:Zoc):ZI (ZPh a) Tryz.f161 .leaf (ZK8 (ZdR a)):=fun _ _ _ _=>by kernel_rfl
theorem ZOH (a:Zoc) (b:Zk Tryz.prog 93 (Zz1 a)):Zk Tryz.prog 161 (ZK8 (ZbN a)):=okF (ZOi a) Tryz.func161 Zf (Zs _ (.cons b .nil) .nil .nil .nil (Zr _)) (hlen:=Awt rfl)
abbrev ZK7 (f:ZF8):Zd:=⟨[.one (.L),.clo 161 [.P,.P,.P]],[.one (.I .i64)],fun t K _ h=>f t.1 t.2.1 (fun a h=>K (a,()) h) h⟩
abbrev ZPg (a:ZF9):Cfg:=ZD Tryz.prog [(161,ZK8 a)] 19 [] [] [] ZE
theorem ZOh (a:ZF9):ZI (ZPg a) Tryz.f236 (.seq .leaf (.seq (.seq .leaf (.block (.loop [8] [.one (.I .i64)] [(4,5),(9,18)] .leaf))) .leaf)) (ZK7 (Yo a)):=fun _ _ _ _=>by kernel_rfl
theorem ZOG (a:Zoc) (b:Zk Tryz.prog 93 (Zz1 a)):Zk Tryz.prog 236 (ZK7 (ZS a)):=okF (ZOh (ZbN a)) Tryz.func236 Zf (Zs _ (.cons (ZOH a b) .nil) .nil .nil .nil (Zr _)) (hlen:=Awt rfl)
abbrev ZK6 (f:ZF7):Zd:=⟨[.one (.L),.clo 161 [.P,.P,.P]],[.one (.B)],fun t K _ h=>f t.1 t.2.1 (fun a h=>K (a,()) h) h⟩
abbrev ZPf (a:ZF8):Cfg:=ZD Tryz.prog [(236,ZK7 a)] 9 [] [] [] ZE
theorem ZOg (a:ZF8):ZI (ZPf a) Tryz.f160 .leaf (ZK6 (Yk a)):=fun _ _ _ _=>by kernel_rfl
theorem ZOF (a:Zoc) (b:Zk Tryz.prog 93 (Zz1 a)):Zk Tryz.prog 160 (ZK6 (Zz a)):=okF (ZOg (ZS a)) Tryz.func160 Zf (Zs _ (.cons (ZOG a b) .nil) .nil .nil .nil (Zr _)) (hlen:=Awt rfl)
abbrev ZPi (a:ZsJ) (b:ZsJ) (c:ZF7):Cfg:=ZD Tryz.prog [(94,ZLa a),(119,ZK9 b),(160,ZK6 c)] 52 [] [] [] ZE [(94,[]),(119,[])]
theorem ZOj (a:ZsJ) (b:ZsJ) (c:ZF7):ZI (ZPi a b c) Tryz.f93 (.seq .leaf (.seq .leaf (.seq .leaf (.cut [] [] [(8,8),(27,34)] .leaf (.seq (.order (tkS [1,3,5,7,9,11,12,14,16,18,20])) .leaf))))) (Zz1 (ZeO a b c)):=fun _ _ _ _=>by kernel_rfl
theorem ZOI (a:Zoc) (b:Zk Tryz.prog 93 (Zz1 a)):Zk Tryz.prog 93 (Zz1 (Zc3 a)):=okF (ZOj Ze6 ZeZ (Zz a)) Tryz.func93 Zf (Zs _ (.cons ZOT (.cons ZOS (.cons (ZOF a b) .nil))) .nil .nil .nil (Zr _)) (hlen:=Awt rfl)
theorem ZNX:∀ n,Zk Tryz.prog 93 (Zz1 (Zae n))
 | 0=>ZmN Tryz.func93 (by kernel_rfl) (by kernel_rfl) fun _ _ _ _ h=>h
 | n+1=>ZOI _ (ZNX n)
theorem ZOR:Zk Tryz.prog 93 (Zz1 ZeG):=Zyr ZNX
abbrev ZK5 (f:ZsJ):Zd:=⟨[.agg [.I .u8,.S,.L,.L]],[.one (.B)],fun t K _ h=>f t.1 (fun a h=>K (a,()) h) h⟩
abbrev ZPe (a:Zoc):Cfg:=ZD Tryz.prog [(93,Zz1 a)] 16 [] [] [] ZE
theorem ZOf (a:Zoc):ZI (ZPe a) Tryz.f22 .leaf (ZK5 (ZiI a)):=fun _ _ _ _=>by kernel_rfl
theorem ZOQ:Zk Tryz.prog 22 (ZK5 Ze7):=okF (ZOf ZeG) Tryz.func22 Zf (Zs _ (.cons ZOR .nil) .nil .nil .nil (Zr _))
abbrev ZHs (f:zT2):Zd:=⟨[.one (.P)],[.one (.I .i64)],fun t K _ h=>f t.1 (fun a h=>K (a,()) h) h⟩
abbrev ZPd:Cfg:=ZD Tryz.prog [] 8 [] [] [] ZE
theorem ZOe:ZI (ZPd) Tryz.f114 .leaf (ZHs ZcN):=fun _ _ _ _=>by kernel_rfl
theorem ZNZ:Zk Tryz.prog 114 (ZHs Xh):=okF (ZOe) Tryz.func114 Zf (Zs _ .nil .nil .nil .nil (Zr _))
abbrev ZK4 (f:ZF6):Zd:=⟨[.one (.P),.one (.S)],[],fun t K _ h=>f t.1 t.2.1 (fun h=>K (()) h) h⟩
abbrev ZPc (a:zT6) (b:zT0) (c:Zw8):Cfg:=ZD Tryz.prog [(184,zk6 a),(171,⟨[.one (.S),.one (.I .u8)],[.one (.I .i64)],fun t K _ h=>b t.1 t.2.1 (fun d h=>K (d,()) h) h⟩),(183,ZF3 c)] 81 [] [] [] ZE
theorem ZOd (a:zT6) (b:zT0) (c:Zw8):ZI (ZPc a b c) Tryz.f201 (.seq .leaf (.seq (.seq .leaf (.block (.loop [13] [.one (.I .i64)] [(4,6),(14,76)] (.seq .leaf (.seq .leaf (.seq (.block (.seq .leaf (.seq .leaf (.seq .leaf (.block (.cut [26] [.one (.B)] [(27,32)] .leaf (.cond .leaf (.seq .leaf (.cond (.seq .leaf (.order (tkS [1,3,5,6,8,10]))) (.seq .leaf (.cond (.seq .leaf (.seq (.order (tkS [1,3,5,6,8,10,12])) (.order (tkS [1,3,5,6,8,10,12])))) .leaf))))))))))) .leaf)))))) .leaf)) (ZK4 (Zeo a b c)):=fun _ _ _ _=>by kernel_rfl
theorem ZOP:Zk Tryz.prog 201 (ZK4 Za6):=okF (ZOd ZB Xf ZA) Tryz.func201 Zf (Zs _ (.cons zo6 (.cons Zc9 (.cons ZKA .nil))) .nil .nil .nil (Zr _))
abbrev ZCG (f:ZtY):Zd:=⟨[.one (.P),.agg [.I .u8,.S,.L,.L]],[],fun t K _ h=>f t.1 t.2.1 (fun h=>K (()) h) h⟩
abbrev ZPb (a:zT2) (b:Zw8) (c:ZF6) (d:zT6) (e:ZtY):Cfg:=ZD Tryz.prog [(114,ZHs a),(183,ZF3 b),(201,ZK4 c),(184,zk6 d),(113,ZCG e)] 93 [] [] [] ZE
theorem ZOc (a:zT2) (b:Zw8) (c:ZF6) (d:zT6) (e:ZtY):ZI (ZPb a b c d e) Tryz.f113 (.seq .leaf (.seq .leaf (.seq .leaf (.block (.seq .leaf (.cond .leaf (.seq .leaf (.cond .leaf (.seq .leaf (.cond .leaf (.seq .leaf (.cond (.order (tkS [1,3,5,6,9,10])) (.seq .leaf (.cond .leaf (.seq .leaf (.cut [4] [.one (.S)] [(14,16)] .leaf (.seq (.order (tkS [1,3,5,6,8,10])) (.seq (.seq .leaf (.block (.loop [26] [.one (.I .i64)] [(5,6),(27,54)] (.seq .leaf (.seq .leaf (.seq (.block (.seq .leaf (.cut [] [] [(31,36)] .leaf (.cut [] [] [(37,50)] .leaf .leaf)))) .leaf)))))) (.order (tkS [1,3,5,6,8,10])))))))))))))))))))) (ZCG (ZdO a b c d e)):=fun _ _ _ _=>by kernel_rfl
theorem ZOE (a:ZtY) (b:Zk Tryz.prog 113 (ZCG a)):Zk Tryz.prog 113 (ZCG (ZbL a)):=okF (ZOc Xh ZA Za6 ZB a) Tryz.func113 Zf (Zs _ (.cons ZNZ (.cons ZKA (.cons ZOP (.cons zo6 (.cons b .nil))))) .nil .nil .nil (Zr _)) (hlen:=Awt rfl)
theorem ZNW:∀ n,Zk Tryz.prog 113 (ZCG (XJ n))
 | 0=>ZmN Tryz.func113 (by kernel_rfl) (by kernel_rfl) fun _ _ _ _ h=>h
 | n+1=>ZOE _ (ZNW n)
theorem ZOO:Zk Tryz.prog 113 (ZCG ZdL):=Zyr ZNW
abbrev ZK3 (f:ZF5):Zd:=⟨[.agg [.I .u8,.S,.L,.L]],[.one (.S),.one (.I .i64)],fun t K _ h=>f t.1 (fun a b h=>K (a,b,()) h) h⟩
abbrev ZPa (a:ZsJ) (b:ZtY) (c:zT2) (d:zT4):Cfg:=ZD Tryz.prog [(22,ZK5 a),(113,ZCG b),(114,ZHs c),(115,⟨[.one (.P)],[.one (.S)],fun t K _ h=>d t.1 (fun e h=>K (e,()) h) h⟩)] 15 [] [] [] ZE
theorem ZOb (a:ZsJ) (b:ZtY) (c:zT2) (d:zT4):ZI (ZPa a b c d) Tryz.f36 .leaf (ZK3 (ZiJ a b c d)):=fun _ _ _ _=>by kernel_rfl
theorem ZON:Zk Tryz.prog 36 (ZK3 Ze8):=okF (ZOb Ze7 ZdL Xh Xb) Tryz.func36 Zf (Zs _ (.cons ZOQ (.cons ZOO (.cons ZNZ (.cons Zdp .nil)))) .nil .nil .nil (Zr _))
abbrev ZK2 (f:ZF4):Zd:=⟨[.one (.I .i64)],[.agg [.I .u8,.S,.L,.L]],fun t K _ h=>f t.1 (fun a h=>K (a,()) h) h⟩
abbrev ZO9 (a:ZFA):Cfg:=ZD Tryz.prog [(31,⟨[.one (.I .i64)],[.one (.S)],fun t K _ h=>a t.1 (fun b h=>K (b,()) h) h⟩)] 6 [] [] [] ZE
theorem ZOa (a:ZFA):ZI (ZO9 a) Tryz.f30 .leaf (ZK2 (ZiK a)):=fun _ _ _ _=>by kernel_rfl
theorem ZOM:Zk Tryz.prog 30 (ZK2 Ze9):=okF (ZOa Zdq) Tryz.func30 Zf (Zs _ (.cons Ziy .nil) .nil .nil .nil (Zr _))
abbrev ZF1 (f:ZwM):Zd:=⟨[.one (.S)],[.agg [.I .u8,.S,.L,.L]],fun t K _ h=>f t.1 (fun a h=>K (a,()) h) h⟩
abbrev ZO8:Cfg:=ZD Tryz.prog [] 5 [] [] [] ZE
theorem ZN9:ZI (ZO8) Tryz.f32 .leaf (ZF1 ZhZ):=fun _ _ _ _=>by kernel_rfl
theorem ZJB:Zk Tryz.prog 32 (ZF1 ZaF):=okF (ZN9) Tryz.func32 Zf (Zs _ .nil .nil .nil .nil (Zr _))
abbrev Zpu (f:ZfR):Zd:=⟨[],[.one (.P)],fun _ K _ h=>f (fun a h=>K (a,()) h) h⟩
abbrev ZNh:Cfg:=ZD Tryz.prog [] 4 [] [] [] ZE
theorem ZJw:ZI (ZNh) Tryz.f44 .leaf (Zpu Zem):=fun _ _ _ _=>by kernel_rfl
theorem ZsE:Zk Tryz.prog 44 (Zpu ZV):=okF (ZJw) Tryz.func44 Zf (Zs _ .nil .nil .nil .nil (Zr _))
abbrev ZAm (f:ZkK):Zd:=⟨[.one (.L)],[.one (.L)],fun t K _ h=>f t.1 (fun a h=>K (a,()) h) h⟩
abbrev ZNg:Cfg:=ZD Tryz.prog [] 8 [] [] [] ZE
theorem ZJv:ZI (ZNg) Tryz.f207 .leaf (ZAm Zav):=fun _ _ _ _=>by kernel_rfl
theorem ZF0:Zk Tryz.prog 207 (ZAm Yr):=okF (ZJv) Tryz.func207 Zf (Zs _ .nil .nil .nil .nil (Zr _))
abbrev ZD7 (f:ZkK):Zd:=⟨[.one (.L)],[.one (.L)],fun t K _ h=>f t.1 (fun a h=>K (a,()) h) h⟩
abbrev ZNf:Cfg:=ZD Tryz.prog [] 8 [] [] [] ZE
theorem ZJu:ZI (ZNf) Tryz.f208 .leaf (ZD7 XE):=fun _ _ _ _=>by kernel_rfl
theorem ZK1:Zk Tryz.prog 208 (ZD7 Yy):=okF (ZJu) Tryz.func208 Zf (Zs _ .nil .nil .nil .nil (Zr _))
abbrev Zq1 (f:Zjg):Zd:=⟨[.agg [.I .u8,.S,.L,.L]],[.agg [.I .u8,.S,.L,.L]],fun t K _ h=>f t.1 (fun a h=>K (a,()) h) h⟩
abbrev ZNe (a:ZkK) (b:Zjg):Cfg:=ZD Tryz.prog [(207,ZAm a),(209,Zq1 b)] 30 [] [] [] ZE
theorem ZJt (a:ZkK) (b:Zjg):ZI (ZNe a b) Tryz.f209 (.seq .leaf (.cut [3] [.one (.P)] [(6,13)] (.order (.take 0 true (.take 2 true (.take 4 true (.take 1 true (.take 3 true (.take 5 true (.fork 6 (.take 7 true (.take 8 false (.take 9 false .done))) 8 (.take 6 false (.take 7 false (.take 9 false .done))))))))))) (.seq (.seq .leaf (.block (.loop [17] [.one (.I .i64)] [(5,5),(18,28)] (.seq .leaf (.seq .leaf (.seq (.block (.seq .leaf (.order (tkS [1,3,5,6,8,10,12,14])))) .leaf)))))) .leaf))) (Zq1 (ZhX a b)):=fun _ _ _ _=>by kernel_rfl
theorem ZJA (a:Zjg) (b:Zk Tryz.prog 209 (Zq1 a)):Zk Tryz.prog 209 (Zq1 (ZfB a)):=okF (ZJt Yr a) Tryz.func209 Zf (Zs _ (.cons ZF0 (.cons b .nil)) .nil .nil .nil (Zr _)) (hlen:=Awt rfl)
theorem ZFN:∀ n,Zk Tryz.prog 209 (Zq1 (Zbu n))
 | 0=>ZmN Tryz.func209 (by kernel_rfl) (by kernel_rfl) fun _ _ _ _ h=>h
 | n+1=>ZJA _ (ZFN n)
theorem ZFZ:Zk Tryz.prog 209 (Zq1 ZbR):=Zyr ZFN
abbrev ZD6 (f:Zxh):Zd:=⟨[.agg [.I .u8,.S,.L,.L],.one (.S),.agg [.I .u8,.S,.L,.L]],[.agg [.I .u8,.S,.L,.L]],fun t K _ h=>f t.1 t.2.1 t.2.2.1 (fun a h=>K (a,()) h) h⟩
abbrev ZNd (a:ZkK) (b:ZkK) (c:Zjg):Cfg:=ZD Tryz.prog [(207,ZAm a),(208,ZD7 b),(209,Zq1 c)] 30 [] [] [] ZE
theorem ZJs (a:ZkK) (b:ZkK) (c:Zjg):ZI (ZNd a b c) Tryz.f123 (.seq .leaf (.cut [] [] [(8,11)] .leaf (.seq (.order (.take 0 true (.take 2 true (.take 5 true (.take 1 true (.take 3 true (.inv [4,6,7,8,9] [16,18,19,20,7] [.one (.L),.one (.L),.one (.L),.agg [.I .u8,.S,.L,.L],.one (.P)] (.take 10 false .done)))))))) (.cut [] [] [(21,27)] (.order (.take 0 true (.take 1 true (.take 3 true (.fork 2 (.take 4 false (.take 5 false (.take 6 false (.take 7 false .done)))) 4 (.take 2 false (.take 5 false (.take 6 false (.take 7 false .done))))))))) .leaf)))) (ZD6 (Zle a b c)):=fun _ _ _ _=>by kernel_rfl
theorem ZK0:Zk Tryz.prog 123 (ZD6 Zhj):=okF (ZJs Yr Yy ZbR) Tryz.func123 Zf (Zs _ (.cons ZF0 (.cons ZK1 (.cons ZFZ .nil))) .nil .nil .nil (Zr _))
abbrev Zpt (f:ZfQ):Zd:=⟨[.one (.P),.one (.S),.agg [.I .u8,.S,.L,.L]],[.one (.P)],fun t K _ h=>f t.1 t.2.1 t.2.2.1 (fun a h=>K (a,()) h) h⟩
abbrev ZNc (a:Zxh):Cfg:=ZD Tryz.prog [(123,ZD6 a)] 18 [] [] [] ZE
theorem ZJr (a:Zxh):ZI (ZNc a) Tryz.f45 (.seq .leaf (.seq (.order (tkS [1,3,5,7,11,9,13,14,16,18,20])) .leaf)) (Zpt (ZcU a)):=fun _ _ _ _=>by kernel_rfl
theorem ZsD:Zk Tryz.prog 45 (Zpt ZC):=okF (ZJr Zhj) Tryz.func45 Zf (Zs _ (.cons ZK0 .nil) .nil .nil .nil (Zr _))
abbrev ZsI (f:Zij):Zd:=⟨[.one (.P),.one (.S),.one (.S)],[.one (.P)],fun t K _ h=>f t.1 t.2.1 t.2.2.1 (fun a h=>K (a,()) h) h⟩
abbrev ZNb (a:ZwM) (b:ZfQ):Cfg:=ZD Tryz.prog [(32,ZF1 a),(45,Zpt b)] 12 [] [] [] ZE
theorem ZJq (a:ZwM) (b:ZfQ):ZI (ZNb a b) Tryz.f125 .leaf (ZsI (Zci a b)):=fun _ _ _ _=>by kernel_rfl
theorem ZwK:Zk Tryz.prog 125 (ZsI ZX):=okF (ZJq ZaF ZC) Tryz.func125 Zf (Zs _ (.cons ZJB (.cons ZsD .nil)) .nil .nil .nil (Zr _))
abbrev ZAl (f:Zq6):Zd:=⟨[.one (.B)],[.agg [.I .u8,.S,.L,.L]],fun t K _ h=>f t.1 (fun a h=>K (a,()) h) h⟩
abbrev ZNa:Cfg:=ZD Tryz.prog [] 6 [] [] [] ZE
theorem ZJp:ZI (ZNa) Tryz.f126 .leaf (ZAl Zfp):=fun _ _ _ _=>by kernel_rfl
theorem ZFY:Zk Tryz.prog 126 (ZAl Zat):=okF (ZJp) Tryz.func126 Zf (Zs _ .nil .nil .nil .nil (Zr _))
abbrev ZsH (f:Zii):Zd:=⟨[.one (.P),.one (.S),.one (.I .i64)],[.one (.P)],fun t K _ h=>f t.1 t.2.1 t.2.2.1 (fun a h=>K (a,()) h) h⟩
abbrev ZM9 (a:ZF4) (b:ZfQ):Cfg:=ZD Tryz.prog [(30,ZK2 a),(45,Zpt b)] 12 [] [] [] ZE
theorem ZJo (a:ZF4) (b:ZfQ):ZI (ZM9 a b) Tryz.f127 .leaf (ZsH (ZbB a b)):=fun _ _ _ _=>by kernel_rfl
theorem ZwJ:Zk Tryz.prog 127 (ZsH ZL):=okF (ZJo Ze9 ZC) Tryz.func127 Zf (Zs _ (.cons ZOM (.cons ZsD .nil)) .nil .nil .nil (Zr _))
abbrev ZAk (f:Zfz):Zd:=⟨[],[.one (.L)],fun _ K _ h=>f (fun a h=>K (a,()) h) h⟩
abbrev ZM8:Cfg:=ZD Tryz.prog [] 2 [] [] [] ZE
theorem ZJn:ZI (ZM8) Tryz.f128 .leaf (ZAk ZcS):=fun _ _ _ _=>by kernel_rfl
theorem ZFX:Zk Tryz.prog 128 (ZAk Xk):=okF (ZJn) Tryz.func128 Zf (Zs _ .nil .nil .nil .nil (Zr _))
abbrev ZAj (f:Zq5):Zd:=⟨[.one (.L),.one (.I .u8)],[.agg [.I .u8,.S,.L,.L]],fun t K _ h=>f t.1 t.2.1 (fun a h=>K (a,()) h) h⟩
abbrev ZM7 (a:ZwM):Cfg:=ZD Tryz.prog [(32,ZF1 a)] 15 [] [] [] ZE
theorem ZJm (a:ZwM):ZI (ZM7 a) Tryz.f129 (.seq .leaf (.cut [1] [.one (.I .u8)] [(5,9)] .leaf .leaf)) (ZAj (ZcR a)):=fun _ _ _ _=>by kernel_rfl
theorem ZFW:Zk Tryz.prog 129 (ZAj Xj):=okF (ZJm ZaF) Tryz.func129 Zf (Zs _ (.cons ZJB .nil) .nil .nil .nil (Zr _))
abbrev ZAi (f:Zfz):Zd:=⟨[],[.one (.L)],fun _ K _ h=>f (fun a h=>K (a,()) h) h⟩
abbrev ZM6:Cfg:=ZD Tryz.prog [] 2 [] [] [] ZE
theorem ZJl:ZI (ZM6) Tryz.f130 .leaf (ZAi ZeI):=fun _ _ _ _=>by kernel_rfl
theorem ZFV:Zk Tryz.prog 130 (ZAi Zab):=okF (ZJl) Tryz.func130 Zf (Zs _ .nil .nil .nil .nil (Zr _))
abbrev ZD5 (f:Zxg):Zd:=⟨[.agg [.S,.S,.B,.I .i64,.I .u8,.S,.I .u8,.I .i64,.I .i64,.B,.I .i64,.B]],[.one (.P)],fun t K _ h=>f t.1 (fun a h=>K (a,()) h) h⟩
abbrev ZM5 (a:ZfR) (b:Zij) (c:Zq6) (d:ZfQ) (e:Zii) (f:Zfz) (g:Zq5) (h:Zfz):Cfg:=ZD Tryz.prog [(44,Zpu a),(125,ZsI b),(126,ZAl c),(45,Zpt d),(127,ZsH e),(128,ZAk f),(129,ZAj g),(130,ZAi h)] 51 [] [] [] ZE
theorem ZJk (a:ZfR) (b:Zij) (c:Zq6) (d:ZfQ) (e:Zii) (f:Zfz) (g:Zq5) (h:Zfz):ZI (ZM5 a b c d e f g h) Tryz.f47 (.seq .leaf (.seq (.order (tkS [3,9,15,23,5,11,17,25,0,6,12,18,20,26,28])) (.seq (.order (tkS [1,5,13,21,7,15,23,2,8,10,16,18,24,26])) (.seq (.order (tkS [1,3,9,5,11,6,12])) (.seq (.order (tkS [1,3,11,17,5,13,19,6,8,14,20,22,24])) .leaf))))) (ZD5 (Zgh a b c d e f g h)):=fun _ _ _ _=>by kernel_rfl
theorem ZKZ:Zk Tryz.prog 47 (ZD5 ZcK):=okF (ZJk ZV ZX Zat ZC ZL Xk Xj Zab) Tryz.func47 Zf (Zs _ (.cons ZsE (.cons ZwK (.cons ZFY (.cons ZsD (.cons ZwJ (.cons ZFX (.cons ZFW (.cons ZFV .nil)))))))) .nil .nil .nil (Zr _))
abbrev Zps (f:Zaj):Zd:=⟨[.one (.L)],[.agg [.I .u8,.S,.L,.L]],fun t K _ h=>f t.1 (fun a h=>K (a,()) h) h⟩
abbrev ZM4 (a:Zjg):Cfg:=ZD Tryz.prog [(209,Zq1 a)] 6 [] [] [] ZE
theorem ZJj (a:Zjg):ZI (ZM4 a) Tryz.f124 .leaf (Zps (ZjU a)):=fun _ _ _ _=>by kernel_rfl
theorem ZsC:Zk Tryz.prog 124 (Zps Xl):=okF (ZJj ZbR) Tryz.func124 Zf (Zs _ (.cons ZFZ .nil) .nil .nil .nil (Zr _))
abbrev ZD4 (f:Zaj):Zd:=⟨[.one (.L),.fn 47],[.agg [.I .u8,.S,.L,.L]],fun t K _ h=>f t.1 (fun a h=>K (a,()) h) h⟩
abbrev ZM3 (a:Zxg) (b:Zaj):Cfg:=ZD Tryz.prog [(47,ZD5 a),(124,Zps b)] 26 [] [] [] ZE
theorem ZJi (a:Zxg) (b:Zaj):ZI (ZM3 a b) Tryz.f46 (.seq .leaf (.seq .leaf (.seq (.seq .leaf (.block (.loop [5,10] [.one (.L),.one (.I .i64)] [(7,7),(11,23)] .leaf))) .leaf))) (ZD4 (Y3 a b)):=fun _ _ _ _=>by kernel_rfl
theorem ZKY:Zk Tryz.prog 46 (ZD4 Yj):=okF (ZJi ZcK Xl) Tryz.func46 Zf (Zs _ (.cons ZKZ (.cons ZsC .nil)) .nil .nil .nil (Zr _))
abbrev ZAh (f:Zfz):Zd:=⟨[],[.one (.L)],fun _ K _ h=>f (fun a h=>K (a,()) h) h⟩
abbrev ZM2:Cfg:=ZD Tryz.prog [] 2 [] [] [] ZE
theorem ZJh:ZI (ZM2) Tryz.f131 .leaf (ZAh ZeJ):=fun _ _ _ _=>by kernel_rfl
theorem ZFU:Zk Tryz.prog 131 (ZAh Zac):=okF (ZJh) Tryz.func131 Zf (Zs _ .nil .nil .nil .nil (Zr _))
abbrev ZD3 (f:Zxf):Zd:=⟨[.agg [.S,.I .u8,.I .i64,.I .i64,.I .i64,.I .i64,.I .i64]],[.one (.P)],fun t K _ h=>f t.1 (fun a h=>K (a,()) h) h⟩
abbrev ZM1 (a:ZfR) (b:Zij) (c:Zfz) (d:Zq5) (e:ZfQ) (f:Zii):Cfg:=ZD Tryz.prog [(44,Zpu a),(125,ZsI b),(131,ZAh c),(129,ZAj d),(45,Zpt e),(127,ZsH f)] 29 [] [] [] ZE
theorem ZJg (a:ZfR) (b:Zij) (c:Zfz) (d:Zq5) (e:ZfQ) (f:Zii):ZI (ZM1 a b c d e f) Tryz.f49 (.seq .leaf (.seq (.order (tkS [3,11,19,5,13,21,0,6,8,14,16,22,24])) (.seq (.order (tkS [1,3,9,15,21,5,11,17,23,6,12,18,24,26])) .leaf))) (ZD3 (ZeK a b c d e f)):=fun _ _ _ _=>by kernel_rfl
theorem ZKX:Zk Tryz.prog 49 (ZD3 Zbr):=okF (ZJg ZV ZX Zac Xj ZC ZL) Tryz.func49 Zf (Zs _ (.cons ZsE (.cons ZwK (.cons ZFU (.cons ZFW (.cons ZsD (.cons ZwJ .nil)))))) .nil .nil .nil (Zr _))
abbrev ZD2 (f:Zaj):Zd:=⟨[.one (.L),.fn 49],[.agg [.I .u8,.S,.L,.L]],fun t K _ h=>f t.1 (fun a h=>K (a,()) h) h⟩
abbrev ZM0 (a:Zxf) (b:Zaj):Cfg:=ZD Tryz.prog [(49,ZD3 a),(124,Zps b)] 26 [] [] [] ZE
theorem ZJf (a:Zxf) (b:Zaj):ZI (ZM0 a b) Tryz.f48 (.seq .leaf (.seq .leaf (.seq (.seq .leaf (.block (.loop [5,10] [.one (.L),.one (.I .i64)] [(7,7),(11,23)] .leaf))) .leaf))) (ZD2 (YX a b)):=fun _ _ _ _=>by kernel_rfl
theorem ZKW:Zk Tryz.prog 48 (ZD2 Z9):=okF (ZJf Zbr Xl) Tryz.func48 Zf (Zs _ (.cons ZKX (.cons ZsC .nil)) .nil .nil .nil (Zr _))
abbrev ZD1 (f:Zxe):Zd:=⟨[.agg [.S,.I .i64]],[.one (.P)],fun t K _ h=>f t.1 (fun a h=>K (a,()) h) h⟩
abbrev ZMZ (a:ZfR) (b:Zij) (c:Zii):Cfg:=ZD Tryz.prog [(44,Zpu a),(125,ZsI b),(127,ZsH c)] 10 [] [] [] ZE
theorem ZJe (a:ZfR) (b:Zij) (c:Zii):ZI (ZMZ a b c) Tryz.f132 (.seq .leaf (.seq (.order (tkS [3,9,5,11,0,6,12,14])) .leaf)) (ZD1 (Zfq a b c)):=fun _ _ _ _=>by kernel_rfl
theorem ZKV:Zk Tryz.prog 132 (ZD1 Zb9):=okF (ZJe ZV ZX ZL) Tryz.func132 Zf (Zs _ (.cons ZsE (.cons ZwK (.cons ZwJ .nil))) .nil .nil .nil (Zr _))
abbrev ZD0 (f:Zaj):Zd:=⟨[.one (.L),.fn 132],[.agg [.I .u8,.S,.L,.L]],fun t K _ h=>f t.1 (fun a h=>K (a,()) h) h⟩
abbrev ZMY (a:Zxe) (b:Zaj):Cfg:=ZD Tryz.prog [(132,ZD1 a),(124,Zps b)] 26 [] [] [] ZE
theorem ZJd (a:Zxe) (b:Zaj):ZI (ZMY a b) Tryz.f133 (.seq .leaf (.seq .leaf (.seq (.seq .leaf (.block (.loop [5,10] [.one (.L),.one (.I .i64)] [(7,7),(11,23)] .leaf))) .leaf))) (ZD0 (Y1 a b)):=fun _ _ _ _=>by kernel_rfl
theorem ZKU:Zk Tryz.prog 133 (ZD0 Yg):=okF (ZJd Zb9 Xl) Tryz.func133 Zf (Zs _ (.cons ZKV (.cons ZsC .nil)) .nil .nil .nil (Zr _))
abbrev ZDZ (f:Zxd):Zd:=⟨[.agg [.S,.I .i64,.I .i64,.I .i64,.L]],[.one (.P)],fun t K _ h=>f t.1 (fun a h=>K (a,()) h) h⟩
abbrev ZMX (a:ZfR) (b:Zij) (c:Zii) (d:Zaj) (e:ZfQ):Cfg:=ZD Tryz.prog [(44,Zpu a),(125,ZsI b),(127,ZsH c),(133,ZD0 d),(45,Zpt e)] 24 [] [] [] ZE
theorem ZJc (a:ZfR) (b:Zij) (c:Zii) (d:Zaj) (e:ZfQ):ZI (ZMX a b c d e) Tryz.f51 (.seq .leaf (.seq .leaf (.seq (.order (tkS [3,9,15,21,5,11,17,23,0,6,12,18,24,26])) .leaf))) (ZDZ (Zg4 a b c d e)):=fun _ _ _ _=>by kernel_rfl
theorem ZKT:Zk Tryz.prog 51 (ZDZ ZdB):=okF (ZJc ZV ZX ZL Yg ZC) Tryz.func51 Zf (Zs _ (.cons ZsE (.cons ZwK (.cons ZwJ (.cons ZKU (.cons ZsD .nil))))) .nil .nil .nil (Zr _))
abbrev ZDY (f:Zaj):Zd:=⟨[.one (.L),.fn 51],[.agg [.I .u8,.S,.L,.L]],fun t K _ h=>f t.1 (fun a h=>K (a,()) h) h⟩
abbrev ZMW (a:Zxd) (b:Zaj):Cfg:=ZD Tryz.prog [(51,ZDZ a),(124,Zps b)] 26 [] [] [] ZE
theorem ZJb (a:Zxd) (b:Zaj):ZI (ZMW a b) Tryz.f50 (.seq .leaf (.seq .leaf (.seq (.seq .leaf (.block (.loop [5,10] [.one (.L),.one (.I .i64)] [(7,7),(11,23)] .leaf))) .leaf))) (ZDY (Xa a b)):=fun _ _ _ _=>by kernel_rfl
theorem ZKS:Zk Tryz.prog 50 (ZDY Yl):=okF (ZJb ZdB Xl) Tryz.func50 Zf (Zs _ (.cons ZKT (.cons ZsC .nil)) .nil .nil .nil (Zr _))
abbrev ZDX (f:Zxc):Zd:=⟨[.agg [.I .i64,.I .i64,.I .i64,.I .i64,.I .i64]],[.one (.P)],fun t K _ h=>f t.1 (fun a h=>K (a,()) h) h⟩
abbrev ZMV (a:ZfR) (b:Zii):Cfg:=ZD Tryz.prog [(44,Zpu a),(127,ZsH b)] 19 [] [] [] ZE
theorem ZJa (a:ZfR) (b:Zii):ZI (ZMV a b) Tryz.f53 (.seq .leaf (.seq (.order (tkS [3,9,15,21,27,5,11,17,23,29,0,6,12,18,24,30,32])) .leaf)) (ZDX (ZeH a b)):=fun _ _ _ _=>by kernel_rfl
theorem ZKR:Zk Tryz.prog 53 (ZDX Zbo):=okF (ZJa ZV ZL) Tryz.func53 Zf (Zs _ (.cons ZsE (.cons ZwJ .nil)) .nil .nil .nil (Zr _))
abbrev ZDW (f:Zaj):Zd:=⟨[.one (.L),.fn 53],[.agg [.I .u8,.S,.L,.L]],fun t K _ h=>f t.1 (fun a h=>K (a,()) h) h⟩
abbrev ZMU (a:Zxc) (b:Zaj):Cfg:=ZD Tryz.prog [(53,ZDX a),(124,Zps b)] 26 [] [] [] ZE
theorem ZI9 (a:Zxc) (b:Zaj):ZI (ZMU a b) Tryz.f52 (.seq .leaf (.seq .leaf (.seq (.seq .leaf (.block (.loop [5,10] [.one (.L),.one (.I .i64)] [(7,7),(11,23)] .leaf))) .leaf))) (ZDW (YN a b)):=fun _ _ _ _=>by kernel_rfl
theorem ZKQ:Zk Tryz.prog 52 (ZDW Z3):=okF (ZI9 Zbo Xl) Tryz.func52 Zf (Zs _ (.cons ZKR (.cons ZsC .nil)) .nil .nil .nil (Zr _))
abbrev ZDV (f:Zxb):Zd:=⟨[.agg [.S,.B,.L]],[.one (.P)],fun t K _ h=>f t.1 (fun a h=>K (a,()) h) h⟩
abbrev ZMT (a:ZwM) (b:ZfR) (c:Zij) (d:Zq6) (e:ZfQ) (f:Zaj):Cfg:=ZD Tryz.prog [(32,ZF1 a),(44,Zpu b),(125,ZsI c),(126,ZAl d),(45,Zpt e),(124,Zps f)] 30 [] [] [] ZE
theorem ZI8 (a:ZwM) (b:ZfR) (c:Zij) (d:Zq6) (e:ZfQ) (f:Zaj):ZI (ZMT a b c d e f) Tryz.f55 (.seq .leaf (.seq .leaf (.seq (.seq .leaf (.block (.loop [3,9] [.one (.L),.one (.I .i64)] [(5,5),(10,18)] .leaf))) (.seq (.order (tkS [3,9,17,5,11,0,6,12,14,18,20,22])) .leaf)))) (ZDV (Zgg a b c d e f)):=fun _ _ _ _=>by kernel_rfl
theorem ZKP:Zk Tryz.prog 55 (ZDV ZcJ):=okF (ZI8 ZaF ZV ZX Zat ZC Xl) Tryz.func55 Zf (Zs _ (.cons ZJB (.cons ZsE (.cons ZwK (.cons ZFY (.cons ZsD (.cons ZsC .nil)))))) .nil .nil .nil (Zr _))
abbrev ZDU (f:Zaj):Zd:=⟨[.one (.L),.fn 55],[.agg [.I .u8,.S,.L,.L]],fun t K _ h=>f t.1 (fun a h=>K (a,()) h) h⟩
abbrev ZMS (a:Zxb) (b:Zaj):Cfg:=ZD Tryz.prog [(55,ZDV a),(124,Zps b)] 26 [] [] [] ZE
theorem ZI7 (a:Zxb) (b:Zaj):ZI (ZMS a b) Tryz.f54 (.seq .leaf (.seq .leaf (.seq (.seq .leaf (.block (.loop [5,10] [.one (.L),.one (.I .i64)] [(7,7),(11,23)] .leaf))) .leaf))) (ZDU (YJ a b)):=fun _ _ _ _=>by kernel_rfl
theorem ZKO:Zk Tryz.prog 54 (ZDU ZY):=okF (ZI7 ZcJ Xl) Tryz.func54 Zf (Zs _ (.cons ZKP (.cons ZsC .nil)) .nil .nil .nil (Zr _))
abbrev ZDT (f:Zxa):Zd:=⟨[.agg [.L,.L,.L,.L,.L]],[.agg [.I .u8,.S,.L,.L]],fun t K _ h=>f t.1 (fun a h=>K (a,()) h) h⟩
abbrev ZMR (a:ZfR) (b:Zaj) (c:ZfQ) (d:Zaj) (e:Zaj) (f:Zaj) (g:Zaj):Cfg:=ZD Tryz.prog [(44,Zpu a),(46,ZD4 b),(45,Zpt c),(48,ZD2 d),(50,ZDY e),(52,ZDW f),(54,ZDU g)] 29 [] [] [] ZE
theorem ZI6 (a:ZfR) (b:Zaj) (c:ZfQ) (d:Zaj) (e:Zaj) (f:Zaj) (g:Zaj):ZI (ZMR a b c d e f g) Tryz.f14 (.seq .leaf (.seq (.order (tkS [3,11,19,5,13,21,0,6,8,14,16,22,24,26])) (.seq (.order (tkS [1,3,11,5,13,6,8,14,16,18,20,23,24])) .leaf))) (ZDT (Zen a b c d e f g)):=fun _ _ _ _=>by kernel_rfl
theorem ZKN:Zk Tryz.prog 14 (ZDT Za5):=okF (ZI6 ZV Yj ZC Z9 Yl Z3 ZY) Tryz.func14 Zf (Zs _ (.cons ZsE (.cons ZKY (.cons ZsD (.cons ZKW (.cons ZKS (.cons ZKQ (.cons ZKO .nil))))))) .nil .nil .nil (Zr _))
abbrev ZDS (f:Zw9):Zd:=⟨[.one (.I .i64),.one (.P),.one (.P)],[.clo 57 [.P,.P,.P]],fun t K _ h=>f t.1 t.2.1 t.2.2.1 (fun a h=>K (a,()) h) h⟩
abbrev ZMQ:Cfg:=ZD Tryz.prog [] 6 [] [] [] ZE
theorem ZI5:ZI (ZMQ) Tryz.f56 .leaf (ZDS Zco):=fun _ _ _ _=>by kernel_rfl
theorem ZKM:Zk Tryz.prog 56 (ZDS X7):=okF (ZI5) Tryz.func56 Zf (Zs _ .nil .nil .nil .nil (Zr _))
abbrev Zvt (f:Zj8):Zd:=⟨[.one (.P),.one (.I .i64)],[],fun t K _ h=>f t.1 t.2.1 (fun h=>K (()) h) h⟩
abbrev ZMP:Cfg:=ZD Tryz.prog [] 13 [] [] [] ZE
theorem ZI4:ZI (ZMP) Tryz.f134 .leaf (Zvt ZcQ):=fun _ _ _ _=>by kernel_rfl
theorem ZAa:Zk Tryz.prog 134 (Zvt Yi):=okF (ZI4) Tryz.func134 Zf (Zs _ .nil .nil .nil .nil (Zr _))
abbrev ZDR (f:ZnN):Zd:=⟨[.one (.L),.one (.S)],[.one (.I .i64)],fun t K _ h=>f t.1 t.2.1 (fun a h=>K (a,()) h) h⟩
abbrev ZMO:Cfg:=ZD Tryz.prog [] 19 [] [] [] ZE
theorem ZI3:ZI (ZMO) Tryz.f210 (.seq .leaf (.seq (.seq .leaf (.block (.loop [8] [.one (.I .i64)] [(4,5),(9,18)] .leaf))) .leaf)) (ZDR XA):=fun _ _ _ _=>by kernel_rfl
theorem ZKL:Zk Tryz.prog 210 (ZDR Xy):=okF (ZI3) Tryz.func210 Zf (Zs _ .nil .nil .nil .nil (Zr _))
abbrev ZAg (f:Zq4):Zd:=⟨[.one (.L),.one (.S)],[.one (.B)],fun t K _ h=>f t.1 t.2.1 (fun a h=>K (a,()) h) h⟩
abbrev ZMN (a:ZnN):Cfg:=ZD Tryz.prog [(210,ZDR a)] 9 [] [] [] ZE
theorem ZI2 (a:ZnN):ZI (ZMN a) Tryz.f135 .leaf (ZAg (XY a)):=fun _ _ _ _=>by kernel_rfl
theorem ZFT:Zk Tryz.prog 135 (ZAg Z1):=okF (ZI2 Xy) Tryz.func135 Zf (Zs _ (.cons ZKL .nil) .nil .nil .nil (Zr _))
abbrev Zpr (f:ZfP):Zd:=⟨[.one (.P),.agg [.I .u8,.S,.L,.L],.one (.I .u8)],[.one (.B)],fun t K _ h=>f t.1 t.2.1 t.2.2.1 (fun a h=>K (a,()) h) h⟩
abbrev ZMM (a:Zj8):Cfg:=ZD Tryz.prog [(134,Zvt a)] 19 [] [] [] ZE
theorem ZI1 (a:Zj8):ZI (ZMM a) Tryz.f58 .leaf (Zpr (Zcg a)):=fun _ _ _ _=>by kernel_rfl
theorem ZsB:Zk Tryz.prog 58 (Zpr Zw):=okF (ZI1 Yi) Tryz.func58 Zf (Zs _ (.cons ZAa .nil) .nil .nil .nil (Zr _))
abbrev ZDQ (f:Zcv):Zd:=⟨[.agg [.I .u8,.S,.L,.L],.one (.P),.one (.P)],[],fun t K _ h=>f t.1 t.2.1 t.2.2.1 (fun h=>K (()) h) h⟩
abbrev ZML (a:ZfP):Cfg:=ZD Tryz.prog [(58,Zpr a)] 11 [] [] [] ZE
theorem ZI0 (a:ZfP):ZI (ZML a) Tryz.f211 .leaf (ZDQ (Zbx a)):=fun _ _ _ _=>by kernel_rfl
theorem ZKK:Zk Tryz.prog 211 (ZDQ YV):=okF (ZI0 Zw) Tryz.func211 Zf (Zs _ (.cons ZsB .nil) .nil .nil .nil (Zr _))
abbrev ZDP (f:Zcv):Zd:=⟨[.agg [.I .u8,.S,.L,.L],.one (.P),.one (.P)],[],fun t K _ h=>f t.1 t.2.1 t.2.2.1 (fun h=>K (()) h) h⟩
abbrev ZMK (a:ZfP):Cfg:=ZD Tryz.prog [(58,Zpr a)] 15 [] [] [] ZE
theorem ZIZ (a:ZfP):ZI (ZMK a) Tryz.f212 .leaf (ZDP (ZbU a)):=fun _ _ _ _=>by kernel_rfl
theorem ZKJ:Zk Tryz.prog 212 (ZDP Y0):=okF (ZIZ Zw) Tryz.func212 Zf (Zs _ (.cons ZsB .nil) .nil .nil .nil (Zr _))
abbrev ZDO (f:Zcv):Zd:=⟨[.agg [.I .u8,.S,.L,.L],.one (.P),.one (.P)],[],fun t K _ h=>f t.1 t.2.1 t.2.2.1 (fun h=>K (()) h) h⟩
abbrev ZMJ (a:ZfP) (b:ZNi) (c:Zj8) (d:ZFA):Cfg:=ZD Tryz.prog [(58,Zpr a),(108,⟨[.one (.S)],[.one (.I .i64),.one (.V)],fun t K _ h=>b t.1 (fun e f h=>K (e,f,()) h) h⟩),(134,Zvt c),(31,⟨[.one (.I .i64)],[.one (.S)],fun t K _ h=>d t.1 (fun e h=>K (e,()) h) h⟩)] 32 [] [] [] ZE
theorem ZIY (a:ZfP) (b:ZNi) (c:Zj8) (d:ZFA):ZI (ZMJ a b c d) Tryz.f213 (.seq .leaf (.seq .leaf (.seq .leaf (.seq (.seq (.order (tkS [0,2,4,7,11,13,8,14,16])) .leaf) .leaf)))) (ZDO (ZaV a b c d)):=fun _ _ _ _=>by kernel_rfl
theorem ZKI:Zk Tryz.prog 213 (ZDO YE):=okF (ZIY Zw ZeX Yi Zdq) Tryz.func213 Zf (Zs _ (.cons ZsB (.cons ZmM (.cons ZAa (.cons Ziy .nil)))) .nil .nil .nil (Zr _))
abbrev ZDN (f:ZnN):Zd:=⟨[.one (.L),.one (.S)],[.one (.I .i64)],fun t K _ h=>f t.1 t.2.1 (fun a h=>K (a,()) h) h⟩
abbrev ZMI:Cfg:=ZD Tryz.prog [] 19 [] [] [] ZE
theorem ZIX:ZI (ZMI) Tryz.f215 (.seq .leaf (.seq (.seq .leaf (.block (.loop [8] [.one (.I .i64)] [(4,5),(9,18)] .leaf))) .leaf)) (ZDN ZaA):=fun _ _ _ _=>by kernel_rfl
theorem ZKH:Zk Tryz.prog 215 (ZDN YR):=okF (ZIX) Tryz.func215 Zf (Zs _ .nil .nil .nil .nil (Zr _))
abbrev ZDM (f:Zjv):Zd:=⟨[.one (.I .i64),.one (.P)],[],fun t K _ h=>f t.1 t.2.1 (fun h=>K (()) h) h⟩
abbrev ZMH:Cfg:=ZD Tryz.prog [] 6 [] [] [] ZE
theorem ZIW:ZI (ZMH) Tryz.f140 .leaf (ZDM Zd1):=fun _ _ _ _=>by kernel_rfl
theorem ZKG:Zk Tryz.prog 140 (ZDM Zbq):=okF (ZIW) Tryz.func140 Zf (Zs _ .nil .nil .nil .nil (Zr _))
abbrev ZDL (f:Zjv):Zd:=⟨[.one (.I .i64),.one (.P)],[],fun t K _ h=>f t.1 t.2.1 (fun h=>K (()) h) h⟩
abbrev ZMG:Cfg:=ZD Tryz.prog [] 6 [] [] [] ZE
theorem ZIV:ZI (ZMG) Tryz.f141 .leaf (ZDL Zd0):=fun _ _ _ _=>by kernel_rfl
theorem ZKF:Zk Tryz.prog 141 (ZDL Zbp):=okF (ZIV) Tryz.func141 Zf (Zs _ .nil .nil .nil .nil (Zr _))
abbrev ZDK (f:Zjv):Zd:=⟨[.one (.I .i64),.one (.P)],[],fun t K _ h=>f t.1 t.2.1 (fun h=>K (()) h) h⟩
abbrev ZMF:Cfg:=ZD Tryz.prog [] 6 [] [] [] ZE
theorem ZIU:ZI (ZMF) Tryz.f142 .leaf (ZDK Zc7):=fun _ _ _ _=>by kernel_rfl
theorem ZKE:Zk Tryz.prog 142 (ZDK ZaU):=okF (ZIU) Tryz.func142 Zf (Zs _ .nil .nil .nil .nil (Zr _))
abbrev ZDJ (f:ZnM):Zd:=⟨[.agg [.I .u8,.S,.L,.L],.one (.P),.one (.P),.one (.P)],[],fun t K _ h=>f t.1 t.2.1 t.2.2.1 t.2.2.2.1 (fun h=>K (()) h) h⟩
abbrev ZME (a:ZfP) (b:ZnN) (c:Zj8) (d:Zjv) (e:Zjv) (f:Zjv):Cfg:=ZD Tryz.prog [(58,Zpr a),(215,ZDN b),(134,Zvt c),(140,ZDM d),(141,ZDL e),(142,ZDK f)] 23 [] [] [] ZE [(140,[.P]),(141,[.P]),(142,[.P])]
theorem ZIT (a:ZfP) (b:ZnN) (c:Zj8) (d:Zjv) (e:Zjv) (f:Zjv):ZI (ZME a b c d e f) Tryz.f214 .leaf (ZDJ (Zbw a b c d e f)):=fun _ _ _ _=>by kernel_rfl
theorem ZKD:Zk Tryz.prog 214 (ZDJ YU):=okF (ZIT Zw YR Yi Zbq Zbp ZaU) Tryz.func214 Zf (Zs _ (.cons ZsB (.cons ZKH (.cons ZAa (.cons ZKG (.cons ZKF (.cons ZKE .nil)))))) .nil .nil .nil (Zr _))
abbrev ZsG (f:Zbg):Zd:=⟨[.one (.P),.one (.P)],[.clo 211 [.P,.P]],fun t K _ h=>f t.1 t.2.1 (fun a h=>K (a,()) h) h⟩
abbrev ZMD:Cfg:=ZD Tryz.prog [] 6 [] [] [] ZE
theorem ZIS:ZI (ZMD) Tryz.f136 .leaf (ZsG ZeA):=fun _ _ _ _=>by kernel_rfl
theorem ZwI:Zk Tryz.prog 136 (ZsG Yc):=okF (ZIS) Tryz.func136 Zf (Zs _ .nil .nil .nil .nil (Zr _))
abbrev ZsF (f:Zbg):Zd:=⟨[.one (.P),.one (.P)],[.clo 213 [.P,.P]],fun t K _ h=>f t.1 t.2.1 (fun a h=>K (a,()) h) h⟩
abbrev ZMC:Cfg:=ZD Tryz.prog [] 6 [] [] [] ZE
theorem ZIR:ZI (ZMC) Tryz.f138 .leaf (ZsF ZdZ):=fun _ _ _ _=>by kernel_rfl
theorem ZwH:Zk Tryz.prog 138 (ZsF ZT):=okF (ZIR) Tryz.func138 Zf (Zs _ .nil .nil .nil .nil (Zr _))
abbrev Zj6 (f:Zdk):Zd:=⟨[.one (.P),.agg [.I .u8,.S,.L,.L],.one (.M)],[],fun t K _ h=>f t.1 t.2.1 t.2.2.1 (fun h=>K (()) h) h⟩
abbrev ZDI (f:Zcv):Zd:=⟨[.agg [.I .u8,.S,.L,.L],.one (.P),.one (.P)],[],fun t K _ h=>f t.1 t.2.1 t.2.2.1 (fun h=>K (()) h) h⟩
abbrev ZMA (a:Zbg) (b:Zbg) (c:Zdk):Cfg:=ZD Tryz.prog [(136,ZsG a),(138,ZsF b),(59,Zj6 c)] 22 [] [] [] ZE
theorem ZIP (a:Zbg) (b:Zbg) (c:Zdk):ZI (ZMA a b c) Tryz.f143 (.seq .leaf (.seq .leaf (.seq (.order (.take 4 true (.take 8 true (.take 0 true (.take 1 true (.take 3 true (.take 7 true (.inv [2,5,6,9,10] [7,10,13] [.one (.M),.clo 211 [.P,.P],.clo 213 [.P,.P]] (.take 11 false (.take 12 false .done)))))))))) .leaf))) (ZDI (ZbV a b c)):=fun _ _ _ _=>by kernel_rfl
theorem ZJy (a:Zdk) (b:Zk Tryz.prog 59 (Zj6 a)):Zk Tryz.prog 143 (ZDI (Xo a)):=okF (ZIP Yc ZT a) Tryz.func143 Zf (Zs _ (.cons ZwI (.cons ZwH (.cons b .nil))) .nil .nil .nil (Zr _)) (hlen:=Awt rfl)
abbrev ZDH (f:Zcv):Zd:=⟨[.agg [.I .u8,.S,.L,.L],.one (.P),.one (.P)],[],fun t K _ h=>f t.1 t.2.1 t.2.2.1 (fun h=>K (()) h) h⟩
abbrev ZMz (a:ZfP):Cfg:=ZD Tryz.prog [(58,Zpr a)] 14 [] [] [] ZE
theorem ZIO (a:ZfP):ZI (ZMz a) Tryz.f145 .leaf (ZDH (Zbz a)):=fun _ _ _ _=>by kernel_rfl
theorem ZKC:Zk Tryz.prog 145 (ZDH YB):=okF (ZIO Zw) Tryz.func145 Zf (Zs _ (.cons ZsB .nil) .nil .nil .nil (Zr _))
abbrev ZDG (f:Zcv):Zd:=⟨[.agg [.I .u8,.S,.L,.L],.one (.P),.one (.P)],[],fun t K _ h=>f t.1 t.2.1 t.2.2.1 (fun h=>K (()) h) h⟩
abbrev ZMy (a:ZfP) (b:Zcv) (c:Zcv):Cfg:=ZD Tryz.prog [(58,Zpr a),(143,ZDI b),(145,ZDH c)] 27 [] [] [] ZE [(143,[.P,.P]),(145,[.P,.P])]
theorem ZIN (a:ZfP) (b:Zcv) (c:Zcv):ZI (ZMy a b c) Tryz.f216 (.seq .leaf (.seq .leaf (.seq .leaf (.block (.loop [13] [.one (.I .i64)] [(5,5),(14,26)] .leaf))))) (ZDG (Xx a b c)):=fun _ _ _ _=>by kernel_rfl
theorem ZJx (a:Zdk) (b:Zk Tryz.prog 59 (Zj6 a)):Zk Tryz.prog 216 (ZDG (Zbd a)):=okF (ZIN Zw (Xo a) YB) Tryz.func216 Zf (Zs _ (.cons ZsB (.cons (ZJy a b) (.cons ZKC .nil))) .nil .nil .nil (Zr _)) (hlen:=Awt rfl)
abbrev ZDF (f:ZnM):Zd:=⟨[.agg [.I .u8,.S,.L,.L],.one (.P),.one (.P),.one (.P)],[],fun t K _ h=>f t.1 t.2.1 t.2.2.1 t.2.2.2.1 (fun h=>K (()) h) h⟩
abbrev ZMx (a:ZfP):Cfg:=ZD Tryz.prog [(58,Zpr a)] 12 [] [] [] ZE
theorem ZIM (a:ZfP):ZI (ZMx a) Tryz.f57 .leaf (ZDF (ZbC a)):=fun _ _ _ _=>by kernel_rfl
theorem ZKB:Zk Tryz.prog 57 (ZDF YW):=okF (ZIM Zw) Tryz.func57 Zf (Zs _ (.cons ZsB .nil) .nil .nil .nil (Zr _))
abbrev ZMB (a:Zj8) (b:Zq4) (c:Zcv) (d:Zcv) (e:Zcv) (f:ZnM) (g:Zcv) (h:ZnM):Cfg:=ZD Tryz.prog [(134,Zvt a),(135,ZAg b),(211,ZDQ c),(212,ZDP d),(213,ZDO e),(214,ZDJ f),(216,ZDG g),(57,ZDF h)] 64 [] [] [] ZE [(211,[.P,.P]),(212,[.P,.P]),(213,[.P,.P]),(214,[.P,.P,.P]),(216,[.P,.P]),(57,[.P,.P,.P])]
theorem ZIQ (a:Zj8) (b:Zq4) (c:Zcv) (d:Zcv) (e:Zcv) (f:ZnM) (g:Zcv) (h:ZnM):ZI (ZMB a b c d e f g h) Tryz.f59 (.seq .leaf (.seq .leaf (.seq .leaf (.block (.loop [28] [.one (.I .i64)] [(6,8),(29,63)] .leaf))))) (Zj6 (Zah a b c d e f g h)):=fun _ _ _ _=>by kernel_rfl
theorem ZJz (a:Zdk) (b:Zk Tryz.prog 59 (Zj6 a)):Zk Tryz.prog 59 (Zj6 (Xt a)):=okF (ZIQ Yi Z1 YV Y0 YE YU (Zbd a) YW) Tryz.func59 Zf (Zs _ (.cons ZAa (.cons ZFT (.cons ZKK (.cons ZKJ (.cons ZKI (.cons ZKD (.cons (ZJx a b) (.cons ZKB .nil)))))))) .nil .nil .nil (Zr _)) (hlen:=Awt rfl)
theorem ZFM:∀ n,Zk Tryz.prog 59 (Zj6 (ZH n))
 | 0=>ZmN Tryz.func59 (by kernel_rfl) (by kernel_rfl) fun _ _ _ _ h=>h
 | n+1=>ZJz _ (ZFM n)
theorem Zvr:Zk Tryz.prog 59 (Zj6 ZJ):=Zyr ZFM
abbrev ZAf (f:Zbg):Zd:=⟨[.one (.P),.one (.P)],[.clo 212 [.P,.P]],fun t K _ h=>f t.1 t.2.1 (fun a h=>K (a,()) h) h⟩
abbrev ZMw:Cfg:=ZD Tryz.prog [] 6 [] [] [] ZE
theorem ZIL:ZI (ZMw) Tryz.f137 .leaf (ZAf Zfc):=fun _ _ _ _=>by kernel_rfl
theorem ZFS:Zk Tryz.prog 137 (ZAf XG):=okF (ZIL) Tryz.func137 Zf (Zs _ .nil .nil .nil .nil (Zr _))
abbrev ZDE (f:Zju):Zd:=⟨[.one (.P),.one (.L),.clo 140 [.P]],[.clo 214 [.P,.P,.P]],fun t K _ h=>f t.1 t.2.1 t.2.2.1 (fun a h=>K (a,()) h) h⟩
abbrev ZMv:Cfg:=ZD Tryz.prog [] 8 [] [] [] ZE
theorem ZIK:ZI (ZMv) Tryz.f139 .leaf (ZDE YP):=fun _ _ _ _=>by kernel_rfl
theorem ZKz:Zk Tryz.prog 139 (ZDE Z5):=okF (ZIK) Tryz.func139 Zf (Zs _ .nil .nil .nil .nil (Zr _))
abbrev ZDD (f:Zju):Zd:=⟨[.one (.P),.one (.L),.clo 141 [.P]],[.clo 214 [.P,.P,.P]],fun t K _ h=>f t.1 t.2.1 t.2.2.1 (fun a h=>K (a,()) h) h⟩
abbrev ZMu:Cfg:=ZD Tryz.prog [] 8 [] [] [] ZE
theorem ZIJ:ZI (ZMu) Tryz.f139 .leaf (ZDD YO):=fun _ _ _ _=>by kernel_rfl
theorem ZKy:Zk Tryz.prog 139 (ZDD Z4):=okF (ZIJ) Tryz.func139 Zf (Zs _ .nil .nil .nil .nil (Zr _))
abbrev ZDC (f:Zw7):Zd:=⟨[.one (.P),.agg [.I .u8,.S,.L,.L]],[.agg [.S,.S,.B,.I .i64,.I .u8,.S,.I .u8,.I .i64,.I .i64,.B,.I .i64,.B]],fun t K _ h=>f t.1 t.2.1 (fun a h=>K (a,()) h) h⟩
abbrev ZMt (a:Zbg) (b:Zbg) (c:Zbg) (d:Zfz) (e:Zju) (f:Zfz) (g:Zju) (h:Zdk):Cfg:=ZD Tryz.prog [(136,ZsG a),(137,ZAf b),(138,ZsF c),(128,ZAk d),(139,ZDE e),(130,ZAi f),(139,ZDD g),(59,Zj6 h)] 51 [] [] [] ZE
theorem ZII (a:Zbg) (b:Zbg) (c:Zbg) (d:Zfz) (e:Zju) (f:Zfz) (g:Zju) (h:Zdk):ZI (ZMt a b c d e f g h) Tryz.f62 (.seq .leaf (.seq .leaf (.seq (.order (.take 0 true (.take 3 true (.take 4 true (.take 7 true (.take 8 true (.take 11 true (.take 12 true (.take 15 true (.take 16 true (.take 19 true (.take 21 true (.take 24 true (.take 25 true (.take 28 true (.take 30 true (.take 33 true (.take 34 true (.take 37 true (.take 38 true (.take 41 true (.take 42 true (.take 45 true (.take 46 true (.take 49 true (.take 50 true (.take 1 true (.inv [2,5,6,9,10,13,14,17,18,20,22,23,26,27,29,31,32,35,36,39,40,43,44,47,48,51,52] [9,12,15,18,21,23,25,28,30,32,35,38,41,44,47] [.one (.M),.clo 211 [.P,.P],.clo 211 [.P,.P],.clo 212 [.P,.P],.clo 213 [.P,.P],.one (.L),.clo 214 [.P,.P,.P],.clo 211 [.P,.P],.one (.L),.clo 214 [.P,.P,.P],.clo 213 [.P,.P],.clo 213 [.P,.P],.clo 212 [.P,.P],.clo 213 [.P,.P],.clo 212 [.P,.P]] (.take 53 false (.take 54 false .done)))))))))))))))))))))))))))))) .leaf))) (ZDC (Zch a b c d e f g h)):=fun _ _ _ _=>by kernel_rfl
theorem ZKx:Zk Tryz.prog 62 (ZDC X1):=okF (ZII Yc XG ZT Xk Z5 Zab Z4 ZJ) Tryz.func62 Zf (Zs _ (.cons ZwI (.cons ZFS (.cons ZwH (.cons ZFX (.cons ZKz (.cons ZFV (.cons ZKy (.cons Zvr .nil)))))))) .nil .nil .nil (Zr _))
abbrev ZDB (f:Zfi):Zd:=⟨[.one (.L),.fn 62],[.one (.L),.one (.I .i64),.one (.I .i64)],fun t K _ h=>f t.1 (fun a b c h=>K (a,b,c,()) h) h⟩
abbrev ZMs (a:Zw7):Cfg:=ZD Tryz.prog [(62,ZDC a)] 41 [] [] [] ZE
theorem ZIH (a:Zw7):ZI (ZMs a) Tryz.f61 (.seq .leaf (.seq .leaf (.seq (.seq .leaf (.block (.loop [7,13] [.one (.L),.one (.I .i64)] [(4,6),(8,10),(14,39)] .leaf))) .leaf))) (ZDB (YL a)):=fun _ _ _ _=>by kernel_rfl
theorem ZKw:Zk Tryz.prog 61 (ZDB Z0):=okF (ZIH X1) Tryz.func61 Zf (Zs _ (.cons ZKx .nil) .nil .nil .nil (Zr _))
abbrev ZDA (f:Zfh):Zd:=⟨[.one (.P),.one (.P)],[.one (.I .i64),.one (.I .i64)],fun t K _ h=>f t.1 t.2.1 (fun a b h=>K (a,b,()) h) h⟩
abbrev ZMr (a:Zfi):Cfg:=ZD Tryz.prog [(61,ZDB a)] 12 [] [] [] ZE
theorem ZIG (a:Zfi):ZI (ZMr a) Tryz.f60 .leaf (ZDA (Zcn a)):=fun _ _ _ _=>by kernel_rfl
theorem ZKv:Zk Tryz.prog 60 (ZDA X6):=okF (ZIG Z0) Tryz.func60 Zf (Zs _ (.cons ZKw .nil) .nil .nil .nil (Zr _))
abbrev ZDz (f:Zju):Zd:=⟨[.one (.P),.one (.L),.clo 142 [.P]],[.clo 214 [.P,.P,.P]],fun t K _ h=>f t.1 t.2.1 t.2.2.1 (fun a h=>K (a,()) h) h⟩
abbrev ZMq:Cfg:=ZD Tryz.prog [] 8 [] [] [] ZE
theorem ZIF:ZI (ZMq) Tryz.f139 .leaf (ZDz YF):=fun _ _ _ _=>by kernel_rfl
theorem ZKu:Zk Tryz.prog 139 (ZDz ZW):=okF (ZIF) Tryz.func139 Zf (Zs _ .nil .nil .nil .nil (Zr _))
abbrev ZDy (f:Zw6):Zd:=⟨[.one (.P),.agg [.I .u8,.S,.L,.L]],[.agg [.S,.I .u8,.I .i64,.I .i64,.I .i64,.I .i64,.I .i64]],fun t K _ h=>f t.1 t.2.1 (fun a h=>K (a,()) h) h⟩
abbrev ZMp (a:Zbg) (b:Zfz) (c:Zju) (d:Zbg) (e:Zdk):Cfg:=ZD Tryz.prog [(136,ZsG a),(131,ZAh b),(139,ZDz c),(138,ZsF d),(59,Zj6 e)] 34 [] [] [] ZE
theorem ZIE (a:Zbg) (b:Zfz) (c:Zju) (d:Zbg) (e:Zdk):ZI (ZMp a b c d e) Tryz.f65 (.seq .leaf (.seq .leaf (.seq (.order (.take 0 true (.take 3 true (.take 4 true (.take 7 true (.take 9 true (.take 12 true (.take 13 true (.take 16 true (.take 17 true (.take 20 true (.take 21 true (.take 24 true (.take 25 true (.take 28 true (.take 29 true (.take 1 true (.inv [2,5,6,8,10,11,14,15,18,19,22,23,26,27,30,31] [8,11,13,15,18,21,24,27,30] [.one (.M),.clo 211 [.P,.P],.one (.L),.clo 214 [.P,.P,.P],.clo 213 [.P,.P],.clo 213 [.P,.P],.clo 213 [.P,.P],.clo 213 [.P,.P],.clo 213 [.P,.P]] (.take 32 false (.take 33 false .done)))))))))))))))))))) .leaf))) (ZDy (ZbA a b c d e)):=fun _ _ _ _=>by kernel_rfl
theorem ZKt:Zk Tryz.prog 65 (ZDy XI):=okF (ZIE Yc Zac ZW ZT ZJ) Tryz.func65 Zf (Zs _ (.cons ZwI (.cons ZFU (.cons ZKu (.cons ZwH (.cons Zvr .nil))))) .nil .nil .nil (Zr _))
abbrev ZDx (f:Zfi):Zd:=⟨[.one (.L),.fn 65],[.one (.L),.one (.I .i64),.one (.I .i64)],fun t K _ h=>f t.1 (fun a b c h=>K (a,b,c,()) h) h⟩
abbrev ZMo (a:Zw6):Cfg:=ZD Tryz.prog [(65,ZDy a)] 41 [] [] [] ZE
theorem ZID (a:Zw6):ZI (ZMo a) Tryz.f64 (.seq .leaf (.seq .leaf (.seq (.seq .leaf (.block (.loop [7,13] [.one (.L),.one (.I .i64)] [(4,6),(8,10),(14,39)] .leaf))) .leaf))) (ZDx (YD a)):=fun _ _ _ _=>by kernel_rfl
theorem ZKs:Zk Tryz.prog 64 (ZDx ZR):=okF (ZID XI) Tryz.func64 Zf (Zs _ (.cons ZKt .nil) .nil .nil .nil (Zr _))
abbrev ZDw (f:Zfh):Zd:=⟨[.one (.P),.one (.P)],[.one (.I .i64),.one (.I .i64)],fun t K _ h=>f t.1 t.2.1 (fun a b h=>K (a,b,()) h) h⟩
abbrev ZMn (a:Zfi):Cfg:=ZD Tryz.prog [(64,ZDx a)] 12 [] [] [] ZE
theorem ZIC (a:Zfi):ZI (ZMn a) Tryz.f63 .leaf (ZDw (Zcm a)):=fun _ _ _ _=>by kernel_rfl
theorem ZKr:Zk Tryz.prog 63 (ZDw X5):=okF (ZIC ZR) Tryz.func63 Zf (Zs _ (.cons ZKs .nil) .nil .nil .nil (Zr _))
abbrev ZDv (f:ZnL):Zd:=⟨[.one (.P),.clo 143 [.P,.P]],[.clo 216 [.P,.P]],fun t K _ h=>f t.1 t.2.1 (fun a h=>K (a,()) h) h⟩
abbrev ZMm:Cfg:=ZD Tryz.prog [] 6 [] [] [] ZE
theorem ZIB:ZI (ZMm) Tryz.f144 .leaf (ZDv YQ):=fun _ _ _ _=>by kernel_rfl
theorem ZKq:Zk Tryz.prog 144 (ZDv Z6):=okF (ZIB) Tryz.func144 Zf (Zs _ .nil .nil .nil .nil (Zr _))
abbrev ZDu (f:Zw5):Zd:=⟨[.one (.P),.agg [.I .u8,.S,.L,.L]],[.agg [.S,.I .i64,.I .i64,.I .i64,.L]],fun t K _ h=>f t.1 t.2.1 (fun a h=>K (a,()) h) h⟩
abbrev ZMl (a:Zbg) (b:Zbg) (c:ZnL) (d:Zdk):Cfg:=ZD Tryz.prog [(136,ZsG a),(138,ZsF b),(144,ZDv c),(59,Zj6 d)] 29 [] [] [] ZE
theorem ZIA (a:Zbg) (b:Zbg) (c:ZnL) (d:Zdk):ZI (ZMl a b c d) Tryz.f68 (.seq .leaf (.seq .leaf (.seq .leaf (.seq (.order (.take 4 true (.take 8 true (.take 12 true (.take 16 true (.take 20 true (.take 0 true (.take 1 true (.take 3 true (.take 7 true (.take 11 true (.take 15 true (.take 19 true (.inv [2,5,6,9,10,13,14,17,18,21,22] [10,13,16,19,22,25] [.one (.M),.clo 211 [.P,.P],.clo 213 [.P,.P],.clo 213 [.P,.P],.clo 213 [.P,.P],.clo 216 [.P,.P]] (.take 23 false (.take 24 false .done)))))))))))))))) .leaf)))) (ZDu (ZcT a b c d)):=fun _ _ _ _=>by kernel_rfl
theorem ZKp:Zk Tryz.prog 68 (ZDu Zan):=okF (ZIA Yc ZT Z6 ZJ) Tryz.func68 Zf (Zs _ (.cons ZwI (.cons ZwH (.cons ZKq (.cons Zvr .nil)))) .nil .nil .nil (Zr _))
abbrev ZDt (f:Zfi):Zd:=⟨[.one (.L),.fn 68],[.one (.L),.one (.I .i64),.one (.I .i64)],fun t K _ h=>f t.1 (fun a b c h=>K (a,b,c,()) h) h⟩
abbrev ZMk (a:Zw5):Cfg:=ZD Tryz.prog [(68,ZDu a)] 41 [] [] [] ZE
theorem ZIz (a:Zw5):ZI (ZMk a) Tryz.f67 (.seq .leaf (.seq .leaf (.seq (.seq .leaf (.block (.loop [7,13] [.one (.L),.one (.I .i64)] [(4,6),(8,10),(14,39)] .leaf))) .leaf))) (ZDt (YY a)):=fun _ _ _ _=>by kernel_rfl
theorem ZKo:Zk Tryz.prog 67 (ZDt Ya):=okF (ZIz Zan) Tryz.func67 Zf (Zs _ (.cons ZKp .nil) .nil .nil .nil (Zr _))
abbrev ZDs (f:Zfh):Zd:=⟨[.one (.P),.one (.P)],[.one (.I .i64),.one (.I .i64)],fun t K _ h=>f t.1 t.2.1 (fun a b h=>K (a,b,()) h) h⟩
abbrev ZMj (a:Zfi):Cfg:=ZD Tryz.prog [(67,ZDt a)] 12 [] [] [] ZE
theorem ZIy (a:Zfi):ZI (ZMj a) Tryz.f66 .leaf (ZDs (Zcl a)):=fun _ _ _ _=>by kernel_rfl
theorem ZKn:Zk Tryz.prog 66 (ZDs X4):=okF (ZIy Ya) Tryz.func66 Zf (Zs _ (.cons ZKo .nil) .nil .nil .nil (Zr _))
abbrev ZDr (f:Zw4):Zd:=⟨[.one (.P),.agg [.I .u8,.S,.L,.L]],[.agg [.I .i64,.I .i64,.I .i64,.I .i64,.I .i64]],fun t K _ h=>f t.1 t.2.1 (fun a h=>K (a,()) h) h⟩
abbrev ZMi (a:Zbg) (b:Zdk):Cfg:=ZD Tryz.prog [(138,ZsF a),(59,Zj6 b)] 28 [] [] [] ZE
theorem ZIx (a:Zbg) (b:Zdk):ZI (ZMi a b) Tryz.f71 (.seq .leaf (.seq .leaf (.seq (.order (.take 0 true (.take 3 true (.take 4 true (.take 7 true (.take 8 true (.take 11 true (.take 12 true (.take 15 true (.take 16 true (.take 19 true (.take 20 true (.take 1 true (.inv [2,5,6,9,10,13,14,17,18,21,22] [9,12,15,18,21,24] [.one (.M),.clo 213 [.P,.P],.clo 213 [.P,.P],.clo 213 [.P,.P],.clo 213 [.P,.P],.clo 213 [.P,.P]] (.take 23 false (.take 24 false .done)))))))))))))))) .leaf))) (ZDr (Zby a b)):=fun _ _ _ _=>by kernel_rfl
theorem ZKm:Zk Tryz.prog 71 (ZDr XH):=okF (ZIx ZT ZJ) Tryz.func71 Zf (Zs _ (.cons ZwH (.cons Zvr .nil)) .nil .nil .nil (Zr _))
abbrev ZDq (f:Zfi):Zd:=⟨[.one (.L),.fn 71],[.one (.L),.one (.I .i64),.one (.I .i64)],fun t K _ h=>f t.1 (fun a b c h=>K (a,b,c,()) h) h⟩
abbrev ZMh (a:Zw4):Cfg:=ZD Tryz.prog [(71,ZDr a)] 41 [] [] [] ZE
theorem ZIw (a:Zw4):ZI (ZMh a) Tryz.f70 (.seq .leaf (.seq .leaf (.seq (.seq .leaf (.block (.loop [7,13] [.one (.L),.one (.I .i64)] [(4,6),(8,10),(14,39)] .leaf))) .leaf))) (ZDq (Yz a)):=fun _ _ _ _=>by kernel_rfl
theorem ZKl:Zk Tryz.prog 70 (ZDq ZN):=okF (ZIw XH) Tryz.func70 Zf (Zs _ (.cons ZKm .nil) .nil .nil .nil (Zr _))
abbrev ZDp (f:Zfh):Zd:=⟨[.one (.P),.one (.P)],[.one (.I .i64),.one (.I .i64)],fun t K _ h=>f t.1 t.2.1 (fun a b h=>K (a,b,()) h) h⟩
abbrev ZMg (a:Zfi):Cfg:=ZD Tryz.prog [(70,ZDq a)] 12 [] [] [] ZE
theorem ZIv (a:Zfi):ZI (ZMg a) Tryz.f69 .leaf (ZDp (Zck a)):=fun _ _ _ _=>by kernel_rfl
theorem ZKk:Zk Tryz.prog 69 (ZDp X3):=okF (ZIv ZN) Tryz.func69 Zf (Zs _ (.cons ZKl .nil) .nil .nil .nil (Zr _))
abbrev ZDo (f:ZnL):Zd:=⟨[.one (.P),.clo 145 [.P,.P]],[.clo 216 [.P,.P]],fun t K _ h=>f t.1 t.2.1 (fun a h=>K (a,()) h) h⟩
abbrev ZMf:Cfg:=ZD Tryz.prog [] 6 [] [] [] ZE
theorem ZIu:ZI (ZMf) Tryz.f144 .leaf (ZDo YK):=fun _ _ _ _=>by kernel_rfl
theorem ZKj:Zk Tryz.prog 144 (ZDo ZZ):=okF (ZIu) Tryz.func144 Zf (Zs _ .nil .nil .nil .nil (Zr _))
abbrev ZDn (f:Zw3):Zd:=⟨[.one (.P),.agg [.I .u8,.S,.L,.L]],[.agg [.S,.B,.L]],fun t K _ h=>f t.1 t.2.1 (fun a h=>K (a,()) h) h⟩
abbrev ZMe (a:Zbg) (b:Zbg) (c:ZnL) (d:Zdk):Cfg:=ZD Tryz.prog [(136,ZsG a),(137,ZAf b),(144,ZDo c),(59,Zj6 d)] 23 [] [] [] ZE
theorem ZIt (a:Zbg) (b:Zbg) (c:ZnL) (d:Zdk):ZI (ZMe a b c d) Tryz.f74 (.seq .leaf (.seq .leaf (.seq .leaf (.seq (.order (.take 4 true (.take 8 true (.take 12 true (.take 0 true (.take 1 true (.take 3 true (.take 7 true (.take 11 true (.inv [2,5,6,9,10,13,14] [10,13,16,19] [.one (.M),.clo 211 [.P,.P],.clo 212 [.P,.P],.clo 216 [.P,.P]] (.take 15 false (.take 16 false .done)))))))))))) .leaf)))) (ZDn (Zcf a b c d)):=fun _ _ _ _=>by kernel_rfl
theorem ZKi:Zk Tryz.prog 74 (ZDn X0):=okF (ZIt Yc XG ZZ ZJ) Tryz.func74 Zf (Zs _ (.cons ZwI (.cons ZFS (.cons ZKj (.cons Zvr .nil)))) .nil .nil .nil (Zr _))
abbrev ZDm (f:Zfi):Zd:=⟨[.one (.L),.fn 74],[.one (.L),.one (.I .i64),.one (.I .i64)],fun t K _ h=>f t.1 (fun a b c h=>K (a,b,c,()) h) h⟩
abbrev ZMd (a:Zw3):Cfg:=ZD Tryz.prog [(74,ZDn a)] 41 [] [] [] ZE
theorem ZIs (a:Zw3):ZI (ZMd a) Tryz.f73 (.seq .leaf (.seq .leaf (.seq (.seq .leaf (.block (.loop [7,13] [.one (.L),.one (.I .i64)] [(4,6),(8,10),(14,39)] .leaf))) .leaf))) (ZDm (Yw a)):=fun _ _ _ _=>by kernel_rfl
theorem ZKh:Zk Tryz.prog 73 (ZDm ZM):=okF (ZIs X0) Tryz.func73 Zf (Zs _ (.cons ZKi .nil) .nil .nil .nil (Zr _))
abbrev ZDl (f:Zfh):Zd:=⟨[.one (.P),.one (.P)],[.one (.I .i64),.one (.I .i64)],fun t K _ h=>f t.1 t.2.1 (fun a b h=>K (a,b,()) h) h⟩
abbrev ZMc (a:Zfi):Cfg:=ZD Tryz.prog [(73,ZDm a)] 12 [] [] [] ZE
theorem ZIr (a:Zfi):ZI (ZMc a) Tryz.f72 .leaf (ZDl (Zcj a)):=fun _ _ _ _=>by kernel_rfl
theorem ZKg:Zk Tryz.prog 72 (ZDl X2):=okF (ZIr ZM) Tryz.func72 Zf (Zs _ (.cons ZKh .nil) .nil .nil .nil (Zr _))
abbrev ZDk (f:Zw2):Zd:=⟨[.agg [.L,.L,.L,.L,.L]],[.one (.L)],fun t K _ h=>f t.1 (fun a h=>K (a,()) h) h⟩
abbrev ZMb:Cfg:=ZD Tryz.prog [] 29 [] [] [] ZE
theorem ZIq:ZI (ZMb) Tryz.f146 .leaf (ZDk ZgT):=fun _ _ _ _=>by kernel_rfl
theorem ZKf:Zk Tryz.prog 146 (ZDk Zdr):=okF (ZIq) Tryz.func146 Zf (Zs _ .nil .nil .nil .nil (Zr _))
abbrev ZkJ (f:Zcz):Zd:=⟨[.one (.I .i64),.one (.I .i64),.one (.I .i64)],[.one (.B)],fun t K _ h=>f t.1 t.2.1 t.2.2.1 (fun a h=>K (a,()) h) h⟩
abbrev ZMa:Cfg:=ZD Tryz.prog [] 15 [] [] [] ZE
theorem ZIp:ZI (ZMa) Tryz.f276 .leaf (ZkJ ZgS):=fun _ _ _ _=>by kernel_rfl
theorem Zl0:Zk Tryz.prog 276 (ZkJ ZP):=okF (ZIp) Tryz.func276 Zf (Zs _ .nil .nil .nil .nil (Zr _))
abbrev ZAe (f:Zhu):Zd:=⟨[.one (.S)],[.one (.B)],fun t K _ h=>f t.1 (fun a h=>K (a,()) h) h⟩
abbrev ZL9 (a:Zcz):Cfg:=ZD Tryz.prog [(276,ZkJ a)] 19 [] [] [] ZE
theorem ZIo (a:Zcz):ZI (ZL9 a) Tryz.f333 (.seq .leaf (.seq (.seq .leaf (.block (.loop [6] [.one (.I .i64)] [(2,3),(7,15)] .leaf))) .leaf)) (ZAe (ZgW a)):=fun _ _ _ _=>by kernel_rfl
theorem ZFR:Zk Tryz.prog 333 (ZAe Zbe):=okF (ZIo ZP) Tryz.func333 Zf (Zs _ (.cons Zl0 .nil) .nil .nil .nil (Zr _))
abbrev ZDj (f:Zhu):Zd:=⟨[.one (.S)],[.one (.B)],fun t K _ h=>f t.1 (fun a h=>K (a,()) h) h⟩
abbrev ZL8 (a:Zhu):Cfg:=ZD Tryz.prog [(333,ZAe a)] 6 [] [] [] ZE
theorem ZIn (a:Zhu):ZI (ZL8 a) Tryz.f334 .leaf (ZDj (ZcP a)):=fun _ _ _ _=>by kernel_rfl
theorem ZKe:Zk Tryz.prog 334 (ZDj Za3):=okF (ZIn Zbe) Tryz.func334 Zf (Zs _ (.cons ZFR .nil) .nil .nil .nil (Zr _))
abbrev ZDi (f:ZsK):Zd:=⟨[.one (.L),.fn 334],[.one (.I .i64)],fun t K _ h=>f t.1 (fun a h=>K (a,()) h) h⟩
abbrev ZL7 (a:Zhu):Cfg:=ZD Tryz.prog [(334,ZDj a)] 19 [] [] [] ZE
theorem ZIm (a:Zhu):ZI (ZL7 a) Tryz.f238 (.seq .leaf (.seq (.seq .leaf (.block (.loop [8] [.one (.I .i64)] [(4,5),(9,18)] .leaf))) .leaf)) (ZDi (Yu a)):=fun _ _ _ _=>by kernel_rfl
theorem ZKd:Zk Tryz.prog 238 (ZDi ZK):=okF (ZIm Za3) Tryz.func238 Zf (Zs _ (.cons ZKe .nil) .nil .nil .nil (Zr _))
abbrev ZDh (f:Zl1):Zd:=⟨[.one (.L),.fn 334],[.one (.B)],fun t K _ h=>f t.1 (fun a h=>K (a,()) h) h⟩
abbrev ZL6 (a:ZsK):Cfg:=ZD Tryz.prog [(238,ZDi a)] 9 [] [] [] ZE
theorem ZIl (a:ZsK):ZI (ZL6 a) Tryz.f164 .leaf (ZDh (Yp a)):=fun _ _ _ _=>by kernel_rfl
theorem ZKc:Zk Tryz.prog 164 (ZDh ZU):=okF (ZIl ZK) Tryz.func164 Zf (Zs _ (.cons ZKd .nil) .nil .nil .nil (Zr _))
abbrev ZDg (f:Zw1):Zd:=⟨[.agg [.S,.L]],[.one (.B)],fun t K _ h=>f t.1 (fun a h=>K (a,()) h) h⟩
abbrev ZL5 (a:Zhu) (b:Zl1):Cfg:=ZD Tryz.prog [(333,ZAe a),(164,ZDh b)] 12 [] [] [] ZE
theorem ZIk (a:Zhu) (b:Zl1):ZI (ZL5 a b) Tryz.f321 .leaf (ZDg (ZdN a b)):=fun _ _ _ _=>by kernel_rfl
theorem ZKb:Zk Tryz.prog 321 (ZDg ZaM):=okF (ZIk Zbe ZU) Tryz.func321 Zf (Zs _ (.cons ZFR (.cons ZKc .nil)) .nil .nil .nil (Zr _))
abbrev ZDf (f:Zjt):Zd:=⟨[.one (.P),.one (.P)],[.one (.B)],fun t K _ h=>f t.1 t.2.1 (fun a h=>K (a,()) h) h⟩
abbrev ZL4 (a:Zcz):Cfg:=ZD Tryz.prog [(276,ZkJ a)] 7 [] [] [] ZE
theorem ZIj (a:Zcz):ZI (ZL4 a) Tryz.f275 .leaf (ZDf (Zg3 a)):=fun _ _ _ _=>by kernel_rfl
theorem ZKa:Zk Tryz.prog 275 (ZDf ZdA):=okF (ZIj ZP) Tryz.func275 Zf (Zs _ (.cons Zl0 .nil) .nil .nil .nil (Zr _))
abbrev ZDe (f:X8):Zd:=⟨[.one (.P)],[.one (.B)],fun t K _ h=>f t.1 (fun a h=>K (a,()) h) h⟩
abbrev ZL3:Cfg:=ZD Tryz.prog [] 10 [] [] [] ZE
theorem ZIi:ZI (ZL3) Tryz.f277 .leaf (ZDe Zg2):=fun _ _ _ _=>by kernel_rfl
theorem ZJ9:Zk Tryz.prog 277 (ZDe Zdz):=okF (ZIi) Tryz.func277 Zf (Zs _ .nil .nil .nil .nil (Zr _))
abbrev ZDd (f:X8):Zd:=⟨[.one (.P)],[.one (.B)],fun t K _ h=>f t.1 (fun a h=>K (a,()) h) h⟩
abbrev ZL2:Cfg:=ZD Tryz.prog [] 10 [] [] [] ZE
theorem ZIh:ZI (ZL2) Tryz.f278 .leaf (ZDd Zg1):=fun _ _ _ _=>by kernel_rfl
theorem ZJ8:Zk Tryz.prog 278 (ZDd Zdy):=okF (ZIh) Tryz.func278 Zf (Zs _ .nil .nil .nil .nil (Zr _))
abbrev ZDc (f:X8):Zd:=⟨[.one (.P)],[.one (.B)],fun t K _ h=>f t.1 (fun a h=>K (a,()) h) h⟩
abbrev ZL1:Cfg:=ZD Tryz.prog [] 15 [] [] [] ZE
theorem ZIg:ZI (ZL1) Tryz.f279 .leaf (ZDc Zg0):=fun _ _ _ _=>by kernel_rfl
theorem ZJ7:Zk Tryz.prog 279 (ZDc Zdx):=okF (ZIg) Tryz.func279 Zf (Zs _ .nil .nil .nil .nil (Zr _))
abbrev ZwL (f:Zl2):Zd:=⟨[.one (.B),.one (.I .i64),.one (.I .i64),.one (.I .i64)],[.one (.B)],fun t K _ h=>f t.1 t.2.1 t.2.2.1 t.2.2.2.1 (fun a h=>K (a,()) h) h⟩
abbrev ZL0 (a:Zcz):Cfg:=ZD Tryz.prog [(276,ZkJ a)] 24 [] [] [] ZE
theorem ZIf (a:Zcz):ZI (ZL0 a) Tryz.f281 .leaf (ZwL (ZiE a)):=fun _ _ _ _=>by kernel_rfl
theorem ZCF:Zk Tryz.prog 281 (ZwL Za4):=okF (ZIf ZP) Tryz.func281 Zf (Zs _ (.cons Zl0 .nil) .nil .nil .nil (Zr _))
abbrev ZDb (f:Zw0):Zd:=⟨[.one (.P),.one (.P),.one (.P)],[.one (.B)],fun t K _ h=>f t.1 t.2.1 t.2.2.1 (fun a h=>K (a,()) h) h⟩
abbrev ZLZ (a:Zl2):Cfg:=ZD Tryz.prog [(281,ZwL a)] 14 [] [] [] ZE
theorem ZIe (a:Zl2):ZI (ZLZ a) Tryz.f280 .leaf (ZDb (ZgZ a)):=fun _ _ _ _=>by kernel_rfl
theorem ZJ6:Zk Tryz.prog 280 (ZDb Zdw):=okF (ZIe Za4) Tryz.func280 Zf (Zs _ (.cons ZCF .nil) .nil .nil .nil (Zr _))
abbrev ZDa (f:X8):Zd:=⟨[.one (.P)],[.one (.B)],fun t K _ h=>f t.1 (fun a h=>K (a,()) h) h⟩
abbrev ZLY:Cfg:=ZD Tryz.prog [] 15 [] [] [] ZE
theorem ZId:ZI (ZLY) Tryz.f282 .leaf (ZDa ZgY):=fun _ _ _ _=>by kernel_rfl
theorem ZJ5:Zk Tryz.prog 282 (ZDa Zdv):=okF (ZId) Tryz.func282 Zf (Zs _ .nil .nil .nil .nil (Zr _))
abbrev ZC9 (f:X8):Zd:=⟨[.one (.P)],[.one (.B)],fun t K _ h=>f t.1 (fun a h=>K (a,()) h) h⟩
abbrev ZLX (a:Zl2):Cfg:=ZD Tryz.prog [(281,ZwL a)] 16 [] [] [] ZE
theorem ZIc (a:Zl2):ZI (ZLX a) Tryz.f283 .leaf (ZC9 (ZgX a)):=fun _ _ _ _=>by kernel_rfl
theorem ZJ4:Zk Tryz.prog 283 (ZC9 Zdu):=okF (ZIc Za4) Tryz.func283 Zf (Zs _ (.cons ZCF .nil) .nil .nil .nil (Zr _))
abbrev ZC8 (f:Zjt):Zd:=⟨[.one (.P),.one (.P)],[.one (.B)],fun t K _ h=>f t.1 t.2.1 (fun a h=>K (a,()) h) h⟩
abbrev ZLW (a:Zcz):Cfg:=ZD Tryz.prog [(276,ZkJ a)] 12 [] [] [] ZE
theorem ZIb (a:Zcz):ZI (ZLW a) Tryz.f284 .leaf (ZC8 (Zgf a)):=fun _ _ _ _=>by kernel_rfl
theorem ZJ3:Zk Tryz.prog 284 (ZC8 ZcI):=okF (ZIb ZP) Tryz.func284 Zf (Zs _ (.cons Zl0 .nil) .nil .nil .nil (Zr _))
abbrev ZC7 (f:X8):Zd:=⟨[.one (.P)],[.one (.B)],fun t K _ h=>f t.1 (fun a h=>K (a,()) h) h⟩
abbrev ZLV (a:Zl2):Cfg:=ZD Tryz.prog [(281,ZwL a)] 8 [] [] [] ZE
theorem ZIa (a:Zl2):ZI (ZLV a) Tryz.f285 .leaf (ZC7 (Zge a)):=fun _ _ _ _=>by kernel_rfl
theorem ZJ2:Zk Tryz.prog 285 (ZC7 ZcH):=okF (ZIa Za4) Tryz.func285 Zf (Zs _ (.cons ZCF .nil) .nil .nil .nil (Zr _))
abbrev ZC6 (f:X8):Zd:=⟨[.one (.P)],[.one (.B)],fun t K _ h=>f t.1 (fun a h=>K (a,()) h) h⟩
abbrev ZLU (a:Zcz):Cfg:=ZD Tryz.prog [(276,ZkJ a)] 10 [] [] [] ZE
theorem ZH9 (a:Zcz):ZI (ZLU a) Tryz.f286 .leaf (ZC6 (Zgd a)):=fun _ _ _ _=>by kernel_rfl
theorem ZJ1:Zk Tryz.prog 286 (ZC6 ZcG):=okF (ZH9 ZP) Tryz.func286 Zf (Zs _ (.cons Zl0 .nil) .nil .nil .nil (Zr _))
abbrev ZC5 (f:X8):Zd:=⟨[.one (.P)],[.one (.B)],fun t K _ h=>f t.1 (fun a h=>K (a,()) h) h⟩
abbrev ZLT (a:Zcz):Cfg:=ZD Tryz.prog [(276,ZkJ a)] 5 [] [] [] ZE
theorem ZH8 (a:Zcz):ZI (ZLT a) Tryz.f287 .leaf (ZC5 (Zgc a)):=fun _ _ _ _=>by kernel_rfl
theorem ZJ0:Zk Tryz.prog 287 (ZC5 ZcF):=okF (ZH8 ZP) Tryz.func287 Zf (Zs _ (.cons Zl0 .nil) .nil .nil .nil (Zr _))
abbrev ZC4 (f:X8):Zd:=⟨[.one (.P)],[.one (.B)],fun t K _ h=>f t.1 (fun a h=>K (a,()) h) h⟩
abbrev ZLS (a:Zcz):Cfg:=ZD Tryz.prog [(276,ZkJ a)] 10 [] [] [] ZE
theorem ZH7 (a:Zcz):ZI (ZLS a) Tryz.f288 .leaf (ZC4 (ZhV a)):=fun _ _ _ _=>by kernel_rfl
theorem ZJZ:Zk Tryz.prog 288 (ZC4 Zei):=okF (ZH7 ZP) Tryz.func288 Zf (Zs _ (.cons Zl0 .nil) .nil .nil .nil (Zr _))
abbrev ZAd (f:Zl1):Zd:=⟨[.one (.L)],[.one (.B)],fun t K _ h=>f t.1 (fun a h=>K (a,()) h) h⟩
abbrev ZLR (a:Zq4):Cfg:=ZD Tryz.prog [(135,ZAg a)] 18 [] [] [] ZE
theorem ZH6 (a:Zq4):ZI (ZLR a) Tryz.f290 (.seq .leaf (.seq (.seq .leaf (.block (.loop [7] [.one (.I .i64)] [(2,4),(8,17)] .leaf))) .leaf)) (ZAd (ZhR a)):=fun _ _ _ _=>by kernel_rfl
theorem ZFQ:Zk Tryz.prog 290 (ZAd ZbO):=okF (ZH6 Z1) Tryz.func290 Zf (Zs _ (.cons ZFT .nil) .nil .nil .nil (Zr _))
abbrev ZC3 (f:Zjt):Zd:=⟨[.one (.P),.one (.P)],[.one (.B)],fun t K _ h=>f t.1 t.2.1 (fun a h=>K (a,()) h) h⟩
abbrev ZLQ (a:Zcz) (b:Zl1):Cfg:=ZD Tryz.prog [(276,ZkJ a),(290,ZAd b)] 17 [] [] [] ZE
theorem ZH5 (a:Zcz) (b:Zl1):ZI (ZLQ a b) Tryz.f289 .leaf (ZC3 (ZhU a b)):=fun _ _ _ _=>by kernel_rfl
theorem ZJY:Zk Tryz.prog 289 (ZC3 Zeh):=okF (ZH5 ZP ZbO) Tryz.func289 Zf (Zs _ (.cons Zl0 (.cons ZFQ .nil)) .nil .nil .nil (Zr _))
abbrev ZC2 (f:ZwZ):Zd:=⟨[.agg [.S,.I .i64]],[.one (.B)],fun t K _ h=>f t.1 (fun a h=>K (a,()) h) h⟩
abbrev ZLP (a:Zcz):Cfg:=ZD Tryz.prog [(276,ZkJ a)] 13 [] [] [] ZE
theorem ZH4 (a:Zcz):ZI (ZLP a) Tryz.f293 .leaf (ZC2 (Zgb a)):=fun _ _ _ _=>by kernel_rfl
theorem ZJX:Zk Tryz.prog 293 (ZC2 Zef):=okF (ZH4 ZP) Tryz.func293 Zf (Zs _ (.cons Zl0 .nil) .nil .nil .nil (Zr _))
abbrev ZC1 (f:ZsK):Zd:=⟨[.one (.L),.fn 293],[.one (.I .i64)],fun t K _ h=>f t.1 (fun a h=>K (a,()) h) h⟩
abbrev ZLO (a:ZwZ):Cfg:=ZD Tryz.prog [(293,ZC2 a)] 19 [] [] [] ZE
theorem ZH3 (a:ZwZ):ZI (ZLO a) Tryz.f322 (.seq .leaf (.seq (.seq .leaf (.block (.loop [8] [.one (.I .i64)] [(4,5),(9,18)] .leaf))) .leaf)) (ZC1 (Yv a)):=fun _ _ _ _=>by kernel_rfl
theorem ZJW:Zk Tryz.prog 322 (ZC1 Yd):=okF (ZH3 Zef) Tryz.func322 Zf (Zs _ (.cons ZJX .nil) .nil .nil .nil (Zr _))
abbrev ZC0 (f:Zl1):Zd:=⟨[.one (.L),.fn 293],[.one (.B)],fun t K _ h=>f t.1 (fun a h=>K (a,()) h) h⟩
abbrev ZLN (a:ZsK):Cfg:=ZD Tryz.prog [(322,ZC1 a)] 9 [] [] [] ZE
theorem ZH2 (a:ZsK):ZI (ZLN a) Tryz.f292 .leaf (ZC0 (Ys a)):=fun _ _ _ _=>by kernel_rfl
theorem ZJV:Zk Tryz.prog 292 (ZC0 Z2):=okF (ZH2 Yd) Tryz.func292 Zf (Zs _ (.cons ZJW .nil) .nil .nil .nil (Zr _))
abbrev ZCZ (f:X8):Zd:=⟨[.one (.P)],[.one (.B)],fun t K _ h=>f t.1 (fun a h=>K (a,()) h) h⟩
abbrev ZLM (a:Zl1):Cfg:=ZD Tryz.prog [(292,ZC0 a)] 6 [] [] [] ZE
theorem ZH1 (a:Zl1):ZI (ZLM a) Tryz.f291 .leaf (ZCZ (ZhT a)):=fun _ _ _ _=>by kernel_rfl
theorem ZJU:Zk Tryz.prog 291 (ZCZ Zeg):=okF (ZH1 Z2) Tryz.func291 Zf (Zs _ (.cons ZJV .nil) .nil .nil .nil (Zr _))
abbrev ZCY (f:X8):Zd:=⟨[.one (.P)],[.one (.B)],fun t K _ h=>f t.1 (fun a h=>K (a,()) h) h⟩
abbrev ZLL (a:Zcz) (b:Zl1):Cfg:=ZD Tryz.prog [(276,ZkJ a),(290,ZAd b)] 12 [] [] [] ZE
theorem ZH0 (a:Zcz) (b:Zl1):ZI (ZLL a b) Tryz.f294 .leaf (ZCY (ZgV a b)):=fun _ _ _ _=>by kernel_rfl
theorem ZJT:Zk Tryz.prog 294 (ZCY Zdt):=okF (ZH0 ZP ZbO) Tryz.func294 Zf (Zs _ (.cons Zl0 (.cons ZFQ .nil)) .nil .nil .nil (Zr _))
abbrev Zvs (f:Zj7):Zd:=⟨[.agg [.S,.L,.I .i64],.one (.L)],[.one (.I .i64)],fun t K _ h=>f t.1 t.2.1 (fun a h=>K (a,()) h) h⟩
abbrev ZLK (a:Zw1) (b:Zjt) (c:X8) (d:X8) (e:X8) (f:Zw0) (g:X8) (h:X8) (i:Zjt) (j:X8) (k:X8) (l:X8) (m:X8) (n:Zjt) (o:X8) (p:X8):Cfg:=ZD Tryz.prog [(321,ZDg a),(275,ZDf b),(277,ZDe c),(278,ZDd d),(279,ZDc e),(280,ZDb f),(282,ZDa g),(283,ZC9 h),(284,ZC8 i),(285,ZC7 j),(286,ZC6 k),(287,ZC5 l),(288,ZC4 m),(289,ZC3 n),(291,ZCZ o),(294,ZCY p)] 23 [] [] [] ZE [(275,[.P,.P]),(277,[.P]),(278,[.P]),(279,[.P]),(280,[.P,.P,.P]),(282,[.P]),(283,[.P]),(284,[.P,.P]),(285,[.P]),(286,[.P]),(287,[.P]),(288,[.P]),(289,[.P,.P]),(291,[.P]),(294,[.P])]
theorem ZHZ (a:Zw1) (b:Zjt) (c:X8) (d:X8) (e:X8) (f:Zw0) (g:X8) (h:X8) (i:Zjt) (j:X8) (k:X8) (l:X8) (m:X8) (n:Zjt) (o:X8) (p:X8):ZI (ZLK a b c d e f g h i j k l m n o p) Tryz.f274 (.seq .leaf (.seq .leaf (.seq (.seq .leaf (.block (.loop [13] [.one (.I .i64)] [(4,4),(6,6),(14,22)] .leaf))) .leaf))) (Zvs (Zga a b c d e f g h i j k l m n o p)):=fun _ _ _ _=>by kernel_rfl
theorem Zz9:Zk Tryz.prog 274 (Zvs Xi):=okF (ZHZ ZaM ZdA Zdz Zdy Zdx Zdw Zdv Zdu ZcI ZcH ZcG ZcF Zei Zeh Zeg Zdt) Tryz.func274 Zf (Zs _ (.cons ZKb (.cons ZKa (.cons ZJ9 (.cons ZJ8 (.cons ZJ7 (.cons ZJ6 (.cons ZJ5 (.cons ZJ4 (.cons ZJ3 (.cons ZJ2 (.cons ZJ1 (.cons ZJ0 (.cons ZJZ (.cons ZJY (.cons ZJU (.cons ZJT .nil)))))))))))))))) .nil .nil .nil (Zr _))
abbrev ZCX (f:ZwY):Zd:=⟨[.agg [.S,.S,.B,.I .i64,.I .u8,.S,.I .u8,.I .i64,.I .i64,.B,.I .i64,.B]],[.one (.I .i64)],fun t K _ h=>f t.1 (fun a h=>K (a,()) h) h⟩
abbrev ZLJ (a:Zj7):Cfg:=ZD Tryz.prog [(274,Zvs a)] 56 [] [] [] ZE
theorem ZHY (a:Zj7):ZI (ZLJ a) Tryz.f218 (.seq .leaf (.seq .leaf (.cut [3] [.one (.L)] [(10,22)] .leaf (.cut [4] [.one (.P)] [(23,30)] .leaf (.cut [5] [.one (.P)] [(31,38)] .leaf (.seq .leaf (.cut [] [] [(39,41)] .leaf .leaf))))))) (ZCX (ZiG a)):=fun _ _ _ _=>by kernel_rfl
theorem ZJS:Zk Tryz.prog 218 (ZCX Ze5):=okF (ZHY Xi) Tryz.func218 Zf (Zs _ (.cons Zz9 .nil) .nil .nil .nil (Zr _))
abbrev ZCW (f:Zfg):Zd:=⟨[.one (.I .i64),.one (.P)],[.one (.I .i64)],fun t K _ h=>f t.1 t.2.1 (fun a h=>K (a,()) h) h⟩
abbrev ZLI (a:ZwY):Cfg:=ZD Tryz.prog [(218,ZCX a)] 10 [] [] [] ZE
theorem ZHX (a:ZwY):ZI (ZLI a) Tryz.f217 .leaf (ZCW (Zfo a)):=fun _ _ _ _=>by kernel_rfl
theorem ZJR:Zk Tryz.prog 217 (ZCW Zb8):=okF (ZHX Ze5) Tryz.func217 Zf (Zs _ (.cons ZJS .nil) .nil .nil .nil (Zr _))
abbrev ZCV (f:ZwX):Zd:=⟨[.agg [.S,.I .u8,.I .i64,.I .i64,.I .i64,.I .i64,.I .i64]],[.one (.I .i64)],fun t K _ h=>f t.1 (fun a h=>K (a,()) h) h⟩
abbrev ZLH (a:Zj7):Cfg:=ZD Tryz.prog [(274,Zvs a)] 17 [] [] [] ZE
theorem ZHW (a:Zj7):ZI (ZLH a) Tryz.f220 (.seq .leaf (.seq .leaf (.cut [] [] [(4,6)] .leaf .leaf))) (ZCV (ZhW a)):=fun _ _ _ _=>by kernel_rfl
theorem ZJQ:Zk Tryz.prog 220 (ZCV Zej):=okF (ZHW Xi) Tryz.func220 Zf (Zs _ (.cons Zz9 .nil) .nil .nil .nil (Zr _))
abbrev ZCU (f:Zfg):Zd:=⟨[.one (.I .i64),.one (.P)],[.one (.I .i64)],fun t K _ h=>f t.1 t.2.1 (fun a h=>K (a,()) h) h⟩
abbrev ZLG (a:ZwX):Cfg:=ZD Tryz.prog [(220,ZCV a)] 10 [] [] [] ZE
theorem ZHV (a:ZwX):ZI (ZLG a) Tryz.f219 .leaf (ZCU (Zfn a)):=fun _ _ _ _=>by kernel_rfl
theorem ZJP:Zk Tryz.prog 219 (ZCU Zb7):=okF (ZHV Zej) Tryz.func219 Zf (Zs _ (.cons ZJQ .nil) .nil .nil .nil (Zr _))
abbrev ZCT (f:ZwW):Zd:=⟨[.agg [.S,.I .i64,.I .i64,.I .i64,.L]],[.one (.I .i64)],fun t K _ h=>f t.1 (fun a h=>K (a,()) h) h⟩
abbrev ZLF (a:Zj7):Cfg:=ZD Tryz.prog [(274,Zvs a)] 28 [] [] [] ZE
theorem ZHU (a:Zj7):ZI (ZLF a) Tryz.f222 (.seq .leaf (.seq .leaf (.seq (.seq .leaf (.block (.loop [9] [.one (.I .i64)] [(5,5),(10,18)] .leaf))) .leaf))) (ZCT (ZjT a)):=fun _ _ _ _=>by kernel_rfl
theorem ZJO:Zk Tryz.prog 222 (ZCT Zf5):=okF (ZHU Xi) Tryz.func222 Zf (Zs _ (.cons Zz9 .nil) .nil .nil .nil (Zr _))
abbrev ZCS (f:Zfg):Zd:=⟨[.one (.I .i64),.one (.P)],[.one (.I .i64)],fun t K _ h=>f t.1 t.2.1 (fun a h=>K (a,()) h) h⟩
abbrev ZLE (a:ZwW):Cfg:=ZD Tryz.prog [(222,ZCT a)] 10 [] [] [] ZE
theorem ZHT (a:ZwW):ZI (ZLE a) Tryz.f221 .leaf (ZCS (Zfm a)):=fun _ _ _ _=>by kernel_rfl
theorem ZJN:Zk Tryz.prog 221 (ZCS Zb6):=okF (ZHT Zf5) Tryz.func221 Zf (Zs _ (.cons ZJO .nil) .nil .nil .nil (Zr _))
abbrev ZCR (f:ZwV):Zd:=⟨[.agg [.I .i64,.I .i64,.I .i64,.I .i64,.I .i64]],[.one (.I .i64)],fun t K _ h=>f t.1 (fun a h=>K (a,()) h) h⟩
abbrev ZLD (a:Zcz):Cfg:=ZD Tryz.prog [(276,ZkJ a)] 25 [] [] [] ZE
theorem ZHS (a:Zcz):ZI (ZLD a) Tryz.f224 (.seq .leaf (.seq (.seq .leaf (.block (.loop [17] [.one (.I .i64)] [(2,2),(4,4),(18,24)] .leaf))) .leaf)) (ZCR (ZgU a)):=fun _ _ _ _=>by kernel_rfl
theorem ZJM:Zk Tryz.prog 224 (ZCR Zds):=okF (ZHS ZP) Tryz.func224 Zf (Zs _ (.cons Zl0 .nil) .nil .nil .nil (Zr _))
abbrev ZCQ (f:Zfg):Zd:=⟨[.one (.I .i64),.one (.P)],[.one (.I .i64)],fun t K _ h=>f t.1 t.2.1 (fun a h=>K (a,()) h) h⟩
abbrev ZLC (a:ZwV):Cfg:=ZD Tryz.prog [(224,ZCR a)] 10 [] [] [] ZE
theorem ZHR (a:ZwV):ZI (ZLC a) Tryz.f223 .leaf (ZCQ (Zfl a)):=fun _ _ _ _=>by kernel_rfl
theorem ZJL:Zk Tryz.prog 223 (ZCQ Zb5):=okF (ZHR Zds) Tryz.func223 Zf (Zs _ (.cons ZJM .nil) .nil .nil .nil (Zr _))
abbrev ZCP (f:ZwU):Zd:=⟨[.agg [.S,.B,.L]],[.one (.I .i64)],fun t K _ h=>f t.1 (fun a h=>K (a,()) h) h⟩
abbrev ZLB (a:Zj7):Cfg:=ZD Tryz.prog [(274,Zvs a)] 12 [] [] [] ZE
theorem ZHQ (a:Zj7):ZI (ZLB a) Tryz.f226 .leaf (ZCP (ZiF a)):=fun _ _ _ _=>by kernel_rfl
theorem ZJK:Zk Tryz.prog 226 (ZCP Ze4):=okF (ZHQ Xi) Tryz.func226 Zf (Zs _ (.cons Zz9 .nil) .nil .nil .nil (Zr _))
abbrev ZCO (f:Zfg):Zd:=⟨[.one (.I .i64),.one (.P)],[.one (.I .i64)],fun t K _ h=>f t.1 t.2.1 (fun a h=>K (a,()) h) h⟩
abbrev ZLA (a:ZwU):Cfg:=ZD Tryz.prog [(226,ZCP a)] 10 [] [] [] ZE
theorem ZHP (a:ZwU):ZI (ZLA a) Tryz.f225 .leaf (ZCO (Zfk a)):=fun _ _ _ _=>by kernel_rfl
theorem ZJJ:Zk Tryz.prog 225 (ZCO Zb4):=okF (ZHP Ze4) Tryz.func225 Zf (Zs _ (.cons ZJK .nil) .nil .nil .nil (Zr _))
abbrev ZAc (f:Zq3):Zd:=⟨[.agg [.L,.L,.L,.L,.L]],[.one (.I .u8),.one (.I .i64),.one (.I .i64)],fun t K _ h=>f t.1 (fun a b c h=>K (a,b,c,()) h) h⟩
abbrev ZLz (a:Zw2) (b:Zfg) (c:Zfg) (d:Zfg) (e:Zfg) (f:Zfg):Cfg:=ZD Tryz.prog [(146,ZDk a),(217,ZCW b),(219,ZCU c),(221,ZCS d),(223,ZCQ e),(225,ZCO f)] 49 [] [] [] ZE [(217,[.P]),(219,[.P]),(221,[.P]),(223,[.P]),(225,[.P])]
theorem ZHO (a:Zw2) (b:Zfg) (c:Zfg) (d:Zfg) (e:Zfg) (f:Zfg):ZI (ZLz a b c d e f) Tryz.f75 (.seq .leaf (.seq .leaf (.seq (.seq .leaf (.block (.loop [16] [.one (.I .i64)] [(2,4),(7,7),(17,25)] .leaf))) (.seq (.seq .leaf (.block (.loop [28] [.one (.I .i64)] [(2,4),(9,11),(29,48)] (.seq .leaf (.seq .leaf (.seq (.block (.seq .leaf (.seq .leaf (.block (.loop [34] [.one (.I .i64)] [(2,4),(10,11),(35,47)] .leaf))))) .leaf)))))) .leaf)))) (ZAc (ZhS a b c d e f)):=fun _ _ _ _=>by kernel_rfl
theorem ZFP:Zk Tryz.prog 75 (ZAc ZbP):=okF (ZHO Zdr Zb8 Zb7 Zb6 Zb5 Zb4) Tryz.func75 Zf (Zs _ (.cons ZKf (.cons ZJR (.cons ZJP (.cons ZJN (.cons ZJL (.cons ZJJ .nil)))))) .nil .nil .nil (Zr _))
abbrev ZCN (f:ZwT):Zd:=⟨[.agg [.I .u8,.S,.L,.L]],[.agg [.L,.L,.L,.L,.L],.one (.I .i64),.one (.I .u8),.one (.I .i64)],fun t K _ h=>f t.1 (fun a b c d h=>K (a,b,c,d,()) h) h⟩
abbrev ZLy (a:Zw9) (b:Zdk) (c:Zfh) (d:Zfh) (e:Zfh) (f:Zfh) (g:Zfh) (h:Zq3):Cfg:=ZD Tryz.prog [(56,ZDS a),(59,Zj6 b),(60,ZDA c),(63,ZDw d),(66,ZDs e),(69,ZDp f),(72,ZDl g),(75,ZAc h)] 88 [] [] [] ZE [(1000024,[]),(1000026,[]),(1000028,[]),(1000030,[]),(1000032,[]),(60,[.P,.P]),(63,[.P,.P]),(66,[.P,.P]),(69,[.P,.P]),(72,[.P,.P])]
theorem ZHN (a:Zw9) (b:Zdk) (c:Zfh) (d:Zfh) (e:Zfh) (f:Zfh) (g:Zfh) (h:Zq3):ZI (ZLy a b c d e f g h) Tryz.f15 (.seq .leaf (.seq .leaf (.seq .leaf (.seq .leaf (.seq (.order (.take 3 true (.take 6 true (.take 9 true (.take 12 true (.take 15 true (.take 0 true (.take 1 true (.inv [2,4,5,7,8,10,11,13,14,16,17] [23,25,27,29,31,33] [.one (.M),.clo 57 [.P,.P,.P],.clo 57 [.P,.P,.P],.clo 57 [.P,.P,.P],.clo 57 [.P,.P,.P],.clo 57 [.P,.P,.P]] (.take 18 false (.take 19 false .done))))))))))) (.seq (.seq .leaf (.cond (.seq (.order (tkS [1,3,5,7,9,11,12,14,16,18])) .leaf) .leaf)) (.seq .leaf (.seq .leaf (.seq (.seq .leaf (.block (.loop [56] [.one (.I .i64)] [(3,5),(11,14),(57,74)] .leaf))) .leaf))))))))) (ZCN (Zde a b c d e f g h)):=fun _ _ _ _=>by kernel_rfl
theorem ZJI:Zk Tryz.prog 15 (ZCN XW):=okF (ZHN X7 ZJ X6 X5 X4 X3 X2 ZbP) Tryz.func15 Zf (Zs _ (.cons ZKM (.cons Zvr (.cons ZKv (.cons ZKr (.cons ZKn (.cons ZKk (.cons ZKg (.cons ZFP .nil)))))))) .nil .nil .nil (Zr _))
abbrev ZCM (f:ZwS):Zd:=⟨[.agg [.L,.L,.L,.L,.L],.one (.I .u8)],[.one (.I .i64)],fun t K _ h=>f t.1 t.2.1 (fun a h=>K (a,()) h) h⟩
abbrev ZLx:Cfg:=ZD Tryz.prog [] 31 [] [] [] ZE
theorem ZHM:ZI (ZLx) Tryz.f90 .leaf (ZCM ZcO):=fun _ _ _ _=>by kernel_rfl
theorem ZJH:Zk Tryz.prog 90 (ZCM Zam):=okF (ZHM) Tryz.func90 Zf (Zs _ .nil .nil .nil .nil (Zr _))
abbrev ZAb (f:Zq2):Zd:=⟨[.one (.S)],[.agg [.L,.L,.L,.L,.L],.one (.I .i64),.one (.I .i64)],fun t K _ h=>f t.1 (fun a b c h=>K (a,b,c,()) h) h⟩
abbrev ZLw (a:ZD9) (b:ZwT):Cfg:=ZD Tryz.prog [(25,⟨[.one (.S)],[.agg [.I .u8,.S,.L,.L],.one (.I .i64),.one (.I .i64)],fun t K _ h=>a t.1 (fun c d e h=>K (c,d,e,()) h) h⟩),(15,ZCN b)] 31 [] [] [] ZE
theorem ZHL (a:ZD9) (b:ZwT):ZI (ZLw a b) Tryz.f24 .leaf (ZAb (ZeM a b)):=fun _ _ _ _=>by kernel_rfl
theorem ZFO:Zk Tryz.prog 24 (ZAb Zad):=okF (ZHL ZaH XW) Tryz.func24 Zf (Zs _ (.cons Zkt (.cons ZJI .nil)) .nil .nil .nil (Zr _))
abbrev ZCL (f:ZwR):Zd:=⟨[],[.one (.B)],fun _ K _ h=>f (fun a h=>K (a,()) h) h⟩
abbrev ZLv (a:Zq2):Cfg:=ZD Tryz.prog [(24,ZAb a)] 49 [] [] [] ZE
theorem ZHK (a:Zq2):ZI (ZLv a) Tryz.f17 .leaf (ZCL (Zdd a)):=fun _ _ _ _=>by kernel_rfl
theorem ZJG:Zk Tryz.prog 17 (ZCL Zay):=okF (ZHK Zad) Tryz.func17 Zf (Zs _ (.cons ZFO .nil) .nil .nil .nil (Zr _))
abbrev ZCK (f:ZwQ):Zd:=⟨[.agg [.S,.I .i64,.I .i64,.I .i64,.L],.agg [.S,.I .i64,.I .i64,.I .i64,.L]],[.one (.B)],fun t K _ h=>f t.1 t.2.1 (fun a h=>K (a,()) h) h⟩
abbrev ZLu:Cfg:=ZD Tryz.prog [] 59 [] [] [] ZE
theorem ZHJ:ZI (ZLu) Tryz.f91 (.seq .leaf (.seq .leaf (.seq (.seq .leaf (.block (.loop [5] [.one (.I .i64)] [(4,4),(41,58)] .leaf))) .leaf))) (ZCK ZbT):=fun _ _ _ _=>by kernel_rfl
theorem ZJF:Zk Tryz.prog 91 (ZCK XQ):=okF (ZHJ) Tryz.func91 Zf (Zs _ .nil .nil .nil .nil (Zr _))
abbrev ZCJ (f:ZwP):Zd:=⟨[.agg [.S,.B,.L],.agg [.S,.B,.L]],[.one (.B)],fun t K _ h=>f t.1 t.2.1 (fun a h=>K (a,()) h) h⟩
abbrev ZLt:Cfg:=ZD Tryz.prog [] 45 [] [] [] ZE
theorem ZHI:ZI (ZLt) Tryz.f92 (.seq .leaf (.seq .leaf (.seq (.seq .leaf (.block (.loop [5] [.one (.I .i64)] [(4,4),(27,44)] .leaf))) .leaf))) (ZCJ Zbv):=fun _ _ _ _=>by kernel_rfl
theorem ZJE:Zk Tryz.prog 92 (ZCJ XF):=okF (ZHI) Tryz.func92 Zf (Zs _ .nil .nil .nil .nil (Zr _))
abbrev ZCI (f:ZwO):Zd:=⟨[.agg [.L,.L,.L,.L,.L],.agg [.L,.L,.L,.L,.L]],[.one (.B)],fun t K _ h=>f t.1 t.2.1 (fun a h=>K (a,()) h) h⟩
abbrev ZLs (a:ZwS) (b:ZwQ) (c:ZwP):Cfg:=ZD Tryz.prog [(90,ZCM a),(91,ZCK b),(92,ZCJ c)] 114 [] [] [] ZE
theorem ZHH (a:ZwS) (b:ZwQ) (c:ZwP):ZI (ZLs a b c) Tryz.f20 (.seq .leaf (.seq (.seq .leaf (.block (.loop [5] [.one (.I .u8)] [(4,4),(11,21)] (.seq .leaf (.seq (.block (.seq (.order (tkS [3,9,1,7,4,10,12])) .leaf)) .leaf))))) (.seq (.seq .leaf (.block (.loop [6] [.one (.I .i64)] [(4,4),(22,39)] .leaf))) (.seq (.seq .leaf (.block (.loop [7] [.one (.I .i64)] [(4,4),(40,57)] .leaf))) (.seq (.seq .leaf (.block (.loop [8] [.one (.I .i64)] [(4,4),(58,76)] (.seq .leaf (.seq (.block (.seq (.order (tkS [1,5,11,15,3,7,9,13,16,19,20,22])) .leaf)) .leaf))))) (.seq (.seq .leaf (.block (.loop [9] [.one (.I .i64)] [(4,4),(77,94)] .leaf))) (.seq (.seq .leaf (.block (.loop [10] [.one (.I .i64)] [(4,4),(95,113)] (.seq .leaf (.seq (.block (.seq (.order (tkS [1,5,11,15,3,7,9,13,16,19,20,22])) .leaf)) .leaf))))) .leaf))))))) (ZCI (Zdc a b c)):=fun _ _ _ _=>by kernel_rfl
theorem ZJD:Zk Tryz.prog 20 (ZCI Zax):=okF (ZHH Zam XQ XF) Tryz.func20 Zf (Zs _ (.cons ZJH (.cons ZJF (.cons ZJE .nil))) .nil .nil .nil (Zr _))
abbrev ZCH (f:ZwN):Zd:=⟨[.agg [.L,.L,.L,.L,.L]],[.one (.S),.one (.I .i64)],fun t K _ h=>f t.1 (fun a b h=>K (a,b,()) h) h⟩
abbrev ZLr (a:Zq3) (b:Zxa) (c:ZF5):Cfg:=ZD Tryz.prog [(75,ZAc a),(14,ZDT b),(36,ZK3 c)] 21 [] [] [] ZE
theorem ZHG (a:Zq3) (b:Zxa) (c:ZF5):ZI (ZLr a b c) Tryz.f23 .leaf (ZCH (ZeL a b c)):=fun _ _ _ _=>by kernel_rfl
theorem ZJC:Zk Tryz.prog 23 (ZCH Zbs):=okF (ZHG ZbP Za5 Ze8) Tryz.func23 Zf (Zs _ (.cons ZFP (.cons ZKN (.cons ZON .nil))) .nil .nil .nil (Zr _))
abbrev ZF2 (f:ZGa):Zd:=⟨[.agg [.L,.L,.L,.L,.L],.one (.S)],[.one (.B)],fun t K _ h=>f t.1 t.2.1 (fun a h=>K (a,()) h) h⟩
abbrev ZLq (a:ZwN) (b:Zq2) (c:ZwO) (d:ZwR):Cfg:=ZD Tryz.prog [(23,ZCH a),(24,ZAb b),(20,ZCI c),(17,ZCL d)] 79 [] [] [] ZE
theorem ZHF (a:ZwN) (b:Zq2) (c:ZwO) (d:ZwR):ZI (ZLq a b c d) Tryz.f5 (.seq .leaf (.seq .leaf (.cut [] [] [(4,4),(7,9),(21,36)] .leaf .leaf))) (ZF2 (ZaG a b c d)):=fun _ _ _ _=>by kernel_rfl
theorem Zfj:Zk Tryz.prog 5 (ZF2 ZaE):=okF (ZHF Zbs Zad Zax Zay) Tryz.func5 Zf (Zs _ (.cons ZJC (.cons ZFO (.cons ZJD (.cons ZJG .nil)))) .nil .nil .nil (Zr _))
end
end Go.Proofs.YtpjbjdheeemdiaaGreatDoor
