/- That each function does what its model says. Written by a program out of the translated functions. -/
import Derived.Test.YtgiolidekcckiaaDoorProg
import Derived.KernelRfl
import Derived.Recover
import Derived.Tactics2
import Derived.Below
import Derived.Test.YtgiolidekcckiaaDoorPa5
set_option linter.unusedVariables false
set_option linter.unusedSimpArgs false
namespace Go.Proofs.YtgiolidekcckiaaDoor
open Go Go.Fw
noncomputable section
theorem Zn:Tryd.prog.follows .mixedOrders=true:=by kernel_rfl
abbrev zk0 (f:zT0):Zh:=⟨[.one (.S)],[.agg [.I .u8,.S,.L,.L]],fun t K _ h=>f t.1 (fun r0 h=>K (r0,()) h) h⟩
abbrev zc0:Cfg:=Ya Tryd.prog [] 5 [] [] [] Yg
theorem zr0:Yo (zc0) Tryd.f4 (.leaf) (zk0 ZbS):=fun _ _ _ _=>by kernel_rfl
theorem zo0:Zx Tryd.prog 4 (zk0 X0):=okF (zr0) Tryd.func4 Zn (ZN _ .nil .nil .nil .nil (ZL _))
abbrev zk2 (f:zT2):Zh:=⟨[.one (.P)],[],fun t K _ h=>f t.1 (fun h=>K (()) h) h⟩
abbrev zc2 (f1:zT1):Cfg:=Ya Tryd.prog [(43,⟨[.one (.S),.one (.I .u8)],[.one (.I .i64)],fun t K _ h=>f1 t.1 t.2.1 (fun r0 h=>K (r0,()) h) h⟩)] 32 [] [] [] Yg
theorem zr2 (f1:zT1):Yo (zc2 f1) Tryd.f18 (.block (.loop [] [] [(2,31)] (.leaf))) (zk2 (Xw f1)):=fun _ _ _ _=>by kernel_rfl
theorem zo2:Zx Tryd.prog 18 (zk2 Zv):=okF (zr2 ZY) Tryd.func18 Zn (ZN _ (.cons Xs .nil) .nil .nil .nil (ZL _))
abbrev zk3 (f:zT3):Zh:=⟨[.one (.P)],[.one (.I .u8)],fun t K _ h=>f t.1 (fun r0 h=>K (r0,()) h) h⟩
abbrev zc3:Cfg:=Ya Tryd.prog [] 22 [] [] [] Yg
theorem zr3:Yo (zc3) Tryd.f38 (.leaf) (zk3 X6):=fun _ _ _ _=>by kernel_rfl
theorem zo3:Zx Tryd.prog 38 (zk3 Zi):=okF (zr3) Tryd.func38 Zn (ZN _ .nil .nil .nil .nil (ZL _))
abbrev zk4 (f:zT4):Zh:=⟨[.one (.P),.one (.I .i64),.one (.I .i64)],[],fun t K Kp h=>f t.1 t.2.1 t.2.2.1 (fun h=>K (()) h) Kp h⟩
abbrev zc4:Cfg:=Ya Tryd.prog [] 24 [] [] [] Yg
theorem zr4:Yo (zc4) Tryd.f19 (.leaf) (zk4 YJ):=fun _ _ _ _=>by kernel_rfl
theorem zo4:Zx Tryd.prog 19 (zk4 Ze):=okF (zr4) Tryd.func19 Zn (ZN _ .nil .nil .nil .nil (ZL _))
abbrev zk7 (f:zT7):Zh:=⟨[.one (.P),.one (.I .u8)],[.one (.V)],fun t K _ h=>f t.1 t.2.1 (fun r0 h=>K (r0,()) h) h⟩
abbrev zc7 (f6:zT6):Cfg:=Ya Tryd.prog [(45,⟨[.one (.P)],[],fun t K _ h=>f6 t.1 (fun h=>K (()) h) h⟩)] 17 [] [] [] Yg
theorem zr7 (f6:zT6):Yo (zc7 f6) Tryd.f31 (.leaf) (zk7 (Yd f6)):=fun _ _ _ _=>by kernel_rfl
theorem zo7:Zx Tryd.prog 31 (zk7 Zl):=okF (zr7 Zz) Tryd.func31 Zn (ZN _ (.cons Yx .nil) .nil .nil .nil (ZL _))
abbrev zk8 (f:zT8):Zh:=⟨[.one (.P)],[.one (.I .i32)],fun t K Kp h=>f t.1 (fun r0 h=>K (r0,()) h) Kp h⟩
abbrev zc8 (f3:zT3) (f4:zT4):Cfg:=Ya Tryd.prog [(38,zk3 f3),(19,zk4 f4)] 65 [] [] [] Yg
theorem zr8 (f3:zT3) (f4:zT4):Yo (zc8 f3 f4) Tryd.f56 (.seq (.leaf) (.seq (.leaf) (.seq (.seq (.leaf) (.block (.loop [3,5] [.one (.I .i32),.one (.I .i64)] [(4,4),(6,63)] (.seq (.leaf) (.seq (.leaf) (.seq (.block (.seq (.leaf) (.cut [3] [.one (.I .i32)] [(9,55)] (.block (.cut [15] [.one (.B)] [(16,21)] (.leaf) (.leaf))) (.leaf)))) (.leaf))))))) (.leaf)))) (zk8 (Zae f3 f4)):=fun _ _ _ _=>by kernel_rfl
theorem zo8:Zx Tryd.prog 56 (zk8 YT):=okF (zr8 Zi Ze) Tryd.func56 Zn (ZN _ (.cons zo3 (.cons zo4 .nil)) .nil .nil .nil (ZL _))
abbrev zk9 (f:zT9):Zh:=⟨[.one (.S),.one (.S)],[.one (.B)],fun t K _ h=>f t.1 t.2.1 (fun r0 h=>K (r0,()) h) h⟩
abbrev zc9:Cfg:=Ya Tryd.prog [] 18 [] [] [] Yg
theorem zr9:Yo (zc9) Tryd.f61 (.leaf) (zk9 Yh):=fun _ _ _ _=>by kernel_rfl
theorem zo9:Zx Tryd.prog 61 (zk9 ZV):=okF (zr9) Tryd.func61 Zn (ZN _ .nil .nil .nil .nil (ZL _))
abbrev Zq2 (f:Zpu):Zh:=⟨[.one (.S),.one (.S)],[.one (.B)],fun t K _ h=>f t.1 t.2.1 (fun r0 h=>K (r0,()) h) h⟩
abbrev ZtS (f9:zT9):Cfg:=Ya Tryd.prog [(61,zk9 f9)] 8 [] [] [] Yg
theorem Zst (f9:zT9):Yo (ZtS f9) Tryd.f57 (.leaf) (Zq2 (XG f9)):=fun _ _ _ _=>by kernel_rfl
theorem Zs8:Zx Tryd.prog 57 (Zq2 Yy):=okF (Zst ZV) Tryd.func57 Zn (ZN _ (.cons zo9 .nil) .nil .nil .nil (ZL _))
abbrev Zq1 (f:Zpt):Zh:=⟨[.one (.L),.one (.I .i32)],[.one (.L)],fun t K _ h=>f t.1 t.2.1 (fun r0 h=>K (r0,()) h) h⟩
abbrev ZtR:Cfg:=Ya Tryd.prog [] 78 [] [] [] Yg
theorem Zss:Yo (ZtR) Tryd.f64 (.seq (.leaf) (.seq (.leaf) (.block (.seq (.leaf) (.cond (.leaf) (.cut [25] [.one (.B)] [(26,33)] (.leaf) (.leaf))))))) (Zq1 Yc):=fun _ _ _ _=>by kernel_rfl
theorem Zs7:Zx Tryd.prog 64 (Zq1 ZS):=okF (Zss) Tryd.func64 Zn (ZN _ .nil .nil .nil .nil (ZL _))
abbrev Zq0 (f:Zps):Zh:=⟨[.one (.L),.one (.I .i32)],[.one (.L)],fun t K _ h=>f t.1 t.2.1 (fun r0 h=>K (r0,()) h) h⟩
abbrev ZtQ (f11:Zpt):Cfg:=Ya Tryd.prog [(64,Zq1 f11)] 16 [] [] [] Yg
theorem Zsr (f11:Zpt):Yo (ZtQ f11) Tryd.f62 (.leaf) (Zq0 (YL f11)):=fun _ _ _ _=>by kernel_rfl
theorem Zs6:Zx Tryd.prog 62 (Zq0 Z3):=okF (Zsr ZS) Tryd.func62 Zn (ZN _ (.cons Zs7 .nil) .nil .nil .nil (ZL _))
abbrev ZqZ (f:Zpr):Zh:=⟨[.one (.P),.one (.I .i32)],[.one (.I .i64),.one (.V)],fun t K _ h=>f t.1 t.2.1 (fun r0 r1 h=>K (r0,r1,()) h) h⟩
abbrev ZtP (f6:zT6) (f12:Zps):Cfg:=Ya Tryd.prog [(45,⟨[.one (.P)],[],fun t K _ h=>f6 t.1 (fun h=>K (()) h) h⟩),(62,Zq0 f12)] 30 [] [] [] Yg
theorem Zsq (f6:zT6) (f12:Zps):Yo (ZtP f6 f12) Tryd.f58 (.leaf) (ZqZ (YC f6 f12)):=fun _ _ _ _=>by kernel_rfl
theorem Zs5:Zx Tryd.prog 58 (ZqZ ZZ):=okF (Zsq Zz Z3) Tryd.func58 Zn (ZN _ (.cons Yx (.cons Zs6 .nil)) .nil .nil .nil (ZL _))
abbrev ZqY (f:Zpq):Zh:=⟨[.one (.P),.one (.P)],[],fun t K Kp h=>f t.1 t.2.1 (fun h=>K (()) h) Kp h⟩
abbrev ZtO (f3:zT3) (f1:zT1) (f7:zT7) (f4:zT4) (f8:zT8) (f10:Zpu) (f13:Zpr):Cfg:=Ya Tryd.prog [(38,zk3 f3),(43,⟨[.one (.S),.one (.I .u8)],[.one (.I .i64)],fun t K _ h=>f1 t.1 t.2.1 (fun r0 h=>K (r0,()) h) h⟩),(31,zk7 f7),(19,zk4 f4),(56,zk8 f8),(57,Zq2 f10),(58,ZqZ f13)] 114 [] [] [] Yg
theorem Zsp (f3:zT3) (f1:zT1) (f7:zT7) (f4:zT4) (f8:zT8) (f10:Zpu) (f13:Zpr):Yo (ZtO f3 f1 f7 f4 f8 f10 f13) Tryd.f50 (.seq (.leaf) (.cut [] [] [(5,5),(11,37)] (.leaf) (.cut [] [] [(38,45)] (.leaf) (.seq (.leaf) (.seq (.leaf) (.cut [] [] [(7,8),(55,104)] (.cut [72] [.one (.B)] [(55,71)] (.leaf) (.leaf)) (.cut [6] [.one (.I .i32)] [(105,110)] (.leaf) (.leaf)))))))) (ZqY (Xu f3 f1 f7 f4 f8 f10 f13)):=fun _ _ _ _=>by kernel_rfl
theorem Zs4:Zx Tryd.prog 50 (ZqY Yv):=okF (Zsp Zi ZY Zl Ze YT Yy ZZ) Tryd.func50 Zn (ZN _ (.cons zo3 (.cons Xs (.cons zo7 (.cons zo4 (.cons zo8 (.cons Zs8 (.cons Zs5 .nil))))))) .nil .nil .nil (ZL _))
abbrev ZqX (f:Zpp):Zh:=⟨[.one (.S)],[.one (.B)],fun t K _ h=>f t.1 (fun r0 h=>K (r0,()) h) h⟩
abbrev ZtN (f15:Zq3) (f16:Zky):Cfg:=Ya Tryd.prog [(63,⟨[.one (.S)],[.one (.I .i64)],fun t K _ h=>f15 t.1 (fun r0 h=>K (r0,()) h) h⟩),(35,⟨[.one (.S)],[.one (.B)],fun t K _ h=>f16 t.1 (fun r0 h=>K (r0,()) h) h⟩)] 64 [] [] [] Yg
theorem Zso (f15:Zq3) (f16:Zky):Yo (ZtN f15 f16) Tryd.f59 (.seq (.leaf) (.seq (.seq (.leaf) (.block (.loop [11] [.one (.I .i64)] [(2,2),(4,8),(12,56)] (.seq (.leaf) (.seq (.leaf) (.seq (.block (.seq (.leaf) (.seq (.seq (.leaf) (.block (.loop [5] [.one (.I .i64)] [(2,2),(6,7),(17,36)] (.leaf)))) (.leaf)))) (.leaf))))))) (.leaf))) (ZqX (ZbR f15 f16)):=fun _ _ _ _=>by kernel_rfl
theorem Zs3:Zx Tryd.prog 59 (ZqX XZ):=okF (Zso ZU Zw) Tryd.func59 Zn (ZN _ (.cons XW (.cons Z9 .nil)) .nil .nil .nil (ZL _))
abbrev ZoV (f:ZkE):Zh:=⟨[.one (.P),.one (.S)],[.one (.I .i64),.one (.V)],fun t K _ h=>f t.1 t.2.1 (fun r0 r1 h=>K (r0,r1,()) h) h⟩
abbrev ZtM (f6:zT6):Cfg:=Ya Tryd.prog [(45,⟨[.one (.P)],[],fun t K _ h=>f6 t.1 (fun h=>K (()) h) h⟩)] 19 [] [] [] Yg
theorem Zsn (f6:zT6):Yo (ZtM f6) Tryd.f29 (.leaf) (ZoV (Z5 f6)):=fun _ _ _ _=>by kernel_rfl
theorem Zqt:Zx Tryd.prog 29 (ZoV Zk):=okF (Zsn Zz) Tryd.func29 Zn (ZN _ (.cons Yx .nil) .nil .nil .nil (ZL _))
abbrev ZqW (f:Zpo):Zh:=⟨[.one (.P),.one (.P)],[],fun t K Kp h=>f t.1 t.2.1 (fun h=>K (()) h) Kp h⟩
abbrev ZtL (f4:zT4) (f17:Zpp) (f16:Zky) (f18:ZkE):Cfg:=Ya Tryd.prog [(19,zk4 f4),(59,ZqX f17),(35,⟨[.one (.S)],[.one (.B)],fun t K _ h=>f16 t.1 (fun r0 h=>K (r0,()) h) h⟩),(29,ZoV f18)] 67 [] [] [] Yg
theorem Zsm (f4:zT4) (f17:Zpp) (f16:Zky) (f18:ZkE):Yo (ZtL f4 f17 f16 f18) Tryd.f51 (.seq (.leaf) (.block (.loop [4] [.one (.I .i64)] [(5,66)] (.seq (.block (.cut [] [] [(8,26)] (.leaf) (.seq (.leaf) (.cut [] [] [(42,53)] (.leaf) (.leaf))))) (.leaf))))) (ZqW (XK f4 f17 f16 f18)):=fun _ _ _ _=>by kernel_rfl
theorem Zs2:Zx Tryd.prog 51 (ZqW YA):=okF (Zsm Ze XZ Zw Zk) Tryd.func51 Zn (ZN _ (.cons zo4 (.cons Zs3 (.cons Z9 (.cons Zqt .nil)))) .nil .nil .nil (ZL _))
abbrev Zqg (f:Znp):Zh:=⟨[.one (.P)],[.one (.S)],fun t K Kp h=>f t.1 (fun r0 h=>K (r0,()) h) Kp h⟩
abbrev ZtK (f3:zT3) (f4:zT4) (f5:zT5) (f14:Zpq) (f7:zT7) (f19:Zpo):Cfg:=Ya Tryd.prog [(38,zk3 f3),(19,zk4 f4),(12,⟨[.one (.P)],[.one (.S)],fun t K _ h=>f5 t.1 (fun r0 h=>K (r0,()) h) h⟩),(50,ZqY f14),(31,zk7 f7),(51,ZqW f19)] 72 [] [] [] Yg
theorem Zsl (f3:zT3) (f4:zT4) (f5:zT5) (f14:Zpq) (f7:zT7) (f19:Zpo):Yo (ZtK f3 f4 f5 f14 f7 f19) Tryd.f40 (.seq (.leaf) (.seq (.leaf) (.seq (.leaf) (.block (.loop [] [] [(2,2),(4,4),(12,71)] (.block (.seq (.leaf) (.block (.cut [16] [.one (.B)] [(17,30)] (.leaf) (.leaf)))))))))) (Zqg (X4 f3 f4 f5 f14 f7 f19)):=fun _ _ _ _=>by kernel_rfl
theorem Zrz:Zx Tryd.prog 40 (Zqg Yb):=okF (Zsl Zi Ze ZT Yv Zl YA) Tryd.func40 Zn (ZN _ (.cons zo3 (.cons zo4 (.cons Xy (.cons Zs4 (.cons zo7 (.cons Zs2 .nil)))))) .nil .nil .nil (ZL _))
abbrev Zmn (f:Zgx):Zh:=⟨[.one (.P),.one (.I .i64)],[.agg [.I .u8,.S,.L,.L]],fun t K Kp h=>f t.1 t.2.1 (fun r0 h=>K (r0,()) h) Kp h⟩
abbrev ZqV (f:Zpn):Zh:=⟨[.one (.P),.one (.P),.one (.I .i64)],[],fun t K Kp h=>f t.1 t.2.1 t.2.2.1 (fun h=>K (()) h) Kp h⟩
abbrev ZtI (f2:zT2) (f3:zT3) (f4:zT4) (f20:Znp) (f21:Zgx):Cfg:=Ya Tryd.prog [(18,zk2 f2),(38,zk3 f3),(19,zk4 f4),(40,Zqg f20),(17,Zmn f21)] 66 [] [] [] Yg
theorem Zsj (f2:zT2) (f3:zT3) (f4:zT4) (f20:Znp) (f21:Zgx):Yo (ZtI f2 f3 f4 f20 f21) Tryd.f49 (.seq (.leaf) (.cut [] [] [(8,50)] (.seq (.leaf) (.cond (.cut [] [] [(13,21)] (.leaf) (.seq (.order (.take 0 (.take 1 (.take 2 (.take 3 (.take 5 (.take 4 (.take 6 (.take 7 (.take 8 (.take 9 (.take 10 (.take 11 .done))))))))))))) (.seq (.leaf) (.cut [] [] [(35,43)] (.leaf) (.leaf))))) (.leaf))) (.seq (.order (.take 0 (.take 1 (.take 2 (.take 4 (.take 5 (.take 3 (.take 7 (.fork 6 (.take 8 (.take 9 (.take 10 (.take 12 (.take 13 (.fork 11 (.take 14 .done) 14 (.take 11 .done))))))) 8 (.take 6 (.take 9 (.take 10 (.take 12 (.take 13 (.fork 11 (.take 14 .done) 14 (.take 11 .done)))))))))))))))) (.leaf)))) (ZqV (X5 f2 f3 f4 f20 f21)):=fun _ _ _ _=>by kernel_rfl
theorem ZsA (f21:Zgx) (hH:Zx Tryd.prog 17 (Zmn f21)):Zx Tryd.prog 49 (ZqV (YD f21)):=okF (Zsj Zv Zi Ze Yb f21) Tryd.func49 Zn (ZN _ (.cons zo2 (.cons zo3 (.cons zo4 (.cons Zrz (.cons hH .nil))))) .nil .nil .nil (ZL _)) (hlen:=Nat.le_of_ble_eq_true rfl)
abbrev ZqU (f:Zpm):Zh:=⟨[.one (.P),.one (.I .u8),.one (.I .u8),.one (.I .i64)],[.agg [.I .u8,.S,.L,.L]],fun t K Kp h=>f t.1 t.2.1 t.2.2.1 t.2.2.2.1 (fun r0 h=>K (r0,()) h) Kp h⟩
abbrev ZtH (f4:zT4) (f2:zT2) (f3:zT3) (f22:Zpn):Cfg:=Ya Tryd.prog [(19,zk4 f4),(18,zk2 f2),(38,zk3 f3),(49,ZqV f22)] 77 [] [] [] Yg
theorem Zsi (f4:zT4) (f2:zT2) (f3:zT3) (f22:Zpn):Yo (ZtH f4 f2 f3 f22) Tryd.f39 (.seq (.leaf) (.cut [] [] [(10,17)] (.leaf) (.seq (.leaf) (.seq (.leaf) (.seq (.leaf) (.seq (.block (.loop [] [] [(29,68)] (.cut [] [] [(29,44)] (.leaf) (.block (.cut [] [] [(45,64)] (.seq (.leaf) (.cond (.cut [] [] [(49,57)] (.leaf) (.leaf)) (.leaf))) (.leaf)))))) (.leaf))))))) (ZqU (Y3 f4 f2 f3 f22)):=fun _ _ _ _=>by kernel_rfl
theorem Zsz (f21:Zgx) (hH:Zx Tryd.prog 17 (Zmn f21)):Zx Tryd.prog 39 (ZqU (ZX f21)):=okF (Zsi Ze Zv Zi (YD f21)) Tryd.func39 Zn (ZN _ (.cons zo4 (.cons zo2 (.cons zo3 (.cons (ZsA f21 hH) .nil)))) .nil .nil .nil (ZL _)) (hlen:=Nat.le_of_ble_eq_true rfl)
abbrev ZqT (f:Zpl):Zh:=⟨[.one (.P),.one (.S),.one (.I .u8)],[.agg [.I .u8,.S,.L,.L]],fun t K Kp h=>f t.1 t.2.1 t.2.2.1 (fun r0 h=>K (r0,()) h) Kp h⟩
abbrev ZtG (f3:zT3) (f4:zT4):Cfg:=Ya Tryd.prog [(38,zk3 f3),(19,zk4 f4)] 47 [] [] [] Yg
theorem Zsh (f3:zT3) (f4:zT4):Yo (ZtG f3 f4) Tryd.f41 (.seq (.leaf) (.seq (.seq (.leaf) (.block (.loop [10] [.one (.I .i64)] [(7,7),(11,44)] (.seq (.leaf) (.seq (.leaf) (.seq (.block (.seq (.leaf) (.cut [] [] [(13,36)] (.leaf) (.leaf)))) (.leaf))))))) (.leaf))) (ZqT (X3 f3 f4)):=fun _ _ _ _=>by kernel_rfl
theorem Zs0:Zx Tryd.prog 41 (ZqT YG):=okF (Zsh Zi Ze) Tryd.func41 Zn (ZN _ (.cons zo3 (.cons zo4 .nil)) .nil .nil .nil (ZL _))
abbrev ZqS (f:Zpk):Zh:=⟨[.one (.P)],[],fun t K Kp h=>f t.1 (fun h=>K (()) h) Kp h⟩
abbrev ZtF (f3:zT3) (f4:zT4):Cfg:=Ya Tryd.prog [(38,zk3 f3),(19,zk4 f4)] 35 [] [] [] Yg
theorem Zsg (f3:zT3) (f4:zT4):Yo (ZtF f3 f4) Tryd.f52 (.cut [] [] [(2,2),(4,17)] (.leaf) (.seq (.leaf) (.block (.loop [3] [.one (.I .u8)] [(20,34)] (.leaf))))) (ZqS (Xv f3 f4)):=fun _ _ _ _=>by kernel_rfl
theorem ZsZ:Zx Tryd.prog 52 (ZqS ZK):=okF (Zsg Zi Ze) Tryd.func52 Zn (ZN _ (.cons zo3 (.cons zo4 .nil)) .nil .nil .nil (ZL _))
abbrev ZqR (f:Zpj):Zh:=⟨[.one (.P)],[.agg [.I .u8,.S,.L,.L]],fun t K Kp h=>f t.1 (fun r0 h=>K (r0,()) h) Kp h⟩
abbrev ZtE (f3:zT3) (f4:zT4) (f25:Zpk):Cfg:=Ya Tryd.prog [(38,zk3 f3),(19,zk4 f4),(52,ZqS f25)] 102 [] [] [] Yg
theorem Zsf (f3:zT3) (f4:zT4) (f25:Zpk):Yo (ZtE f3 f4 f25) Tryd.f42 (.seq (.leaf) (.seq (.leaf) (.cut [] [] [(11,20)] (.leaf) (.cut [] [] [(4,4),(21,46)] (.leaf) (.cut [] [] [(47,58)] (.leaf) (.cut [] [] [(5,6),(59,90)] (.leaf) (.seq (.order (.take 0 (.take 1 (.take 2 (.take 4 (.take 5 (.take 6 (.take 7 (.take 3 (.take 8 (.take 9 (.take 10 (.take 11 .done))))))))))))) (.leaf)))))))) (ZqR (Xt f3 f4 f25)):=fun _ _ _ _=>by kernel_rfl
theorem ZsY:Zx Tryd.prog 42 (ZqR Yf):=okF (Zsf Zi Ze ZK) Tryd.func42 Zn (ZN _ (.cons zo3 (.cons zo4 (.cons ZsZ .nil))) .nil .nil .nil (ZL _))
abbrev ZtJ (f2:zT2) (f3:zT3) (f4:zT4) (f23:Zpm) (f20:Znp) (f24:Zpl) (f26:Zpj):Cfg:=Ya Tryd.prog [(18,zk2 f2),(38,zk3 f3),(19,zk4 f4),(39,ZqU f23),(40,Zqg f20),(41,ZqT f24),(42,ZqR f26)] 80 [] [] [] Yg
theorem Zsk (f2:zT2) (f3:zT3) (f4:zT4) (f23:Zpm) (f20:Znp) (f24:Zpl) (f26:Zpj):Yo (ZtJ f2 f3 f4 f23 f20 f24 f26) Tryd.f17 (.seq (.leaf) (.seq (.leaf) (.cut [] [] [(5,5),(8,72)] (.leaf) (.leaf)))) (Zmn (XJ f2 f3 f4 f23 f20 f24 f26)):=fun _ _ _ _=>by kernel_rfl
theorem ZsB (f21:Zgx) (hH:Zx Tryd.prog 17 (Zmn f21)):Zx Tryd.prog 17 (Zmn (Y0 f21)):=okF (Zsk Zv Zi Ze (ZX f21) Yb YG Yf) Tryd.func17 Zn (ZN _ (.cons zo2 (.cons zo3 (.cons zo4 (.cons (Zsz f21 hH) (.cons Zrz (.cons Zs0 (.cons ZsY .nil))))))) .nil .nil .nil (ZL _)) (hlen:=Nat.le_of_ble_eq_true rfl)
theorem Zrv:∀ n,Zx Tryd.prog 17 (Zmn (Z7 n))
 | 0=>ZiA Tryd.func17 (by kernel_rfl) (by kernel_rfl) fun _ _ _ _ h=>h
 | n+1=>ZsB _ (Zrv n)
theorem Zs1:Zx Tryd.prog 17 (Zmn Y2):=Zob Zrv
def sq1:Code→Code
  | .seq x _=>x
  | c=>c
def sq2:Code→Code
  | .seq _ y=>y
  | c=>c
def ZmJ:Code:=Tryd.f8.body.getD .skip
def pA:Code:=sq1 ZmJ
def pB:Code:=sq1 (sq2 ZmJ)
def pR:Code:=sq2 (sq2 (sq2 ZmJ))
def pD:Code:=sq1 (sq2 (sq2 ZmJ))
theorem ZmI:Tryd.f8.body=some (.seq pA (.seq pB (.seq pD pR))):=by kernel_rfl
abbrev ZhH:List VT:=[.agg [.I .u8,.S,.L,.L],.one (.I .i64),.one (.I .i64)]
def ZmK (p:Value→HP):Cfg:={ Ya Tryd.prog [(17,Zmn Y2),(18,zk2 Zv),(19,zk4 Ze)] 32 [] [] [] Yg with pan:=p,rnd:=none }
theorem Zix (p:Value→HP):(ZmK p).OK:=(ZN (Ya Tryd.prog [(17,Zmn Y2),(18,zk2 Zv),(19,zk4 Ze)] 32 [] [] [] Yg) (.cons Zs1 (.cons zo2 (.cons zo4 .nil))) .nil .nil .nil (ZL _)).at none p
def Zmp (K:Yp ZhH→HP) (e:Env) (h:Zb):Prop:=Zkz (ZmK fun _ _=>False) e h Tryd.f8.results.toList fun vs=>match Yp.un ZhH vs with
  | some r=>K r h
  | none=>False
def ZoO (b2 b3 b4:Nat):Env:=⟨fun j=>bif Nat.beq j 2 then some (.adr b2 0) else bif Nat.beq j 3 then some (.adr b3 0) else bif Nat.beq j 4 then some (.adr b4 0) else none,.no⟩
def Zq7 (b2 b3 b4:Nat) (E:HP) (v:Value) (h:Zb):Prop:=∃ e n,v = .iface 55 (.agg #[.int .i64 e,.int .i64 n])∧Zql b2 b3 b4 e n E h
def clo (b2 b3 b4:Nat):Deferred:={ target:= .fn (.func 16) #[.pointer (some ⟨b2,0,none⟩),.pointer (some ⟨b3,0,none⟩),.pointer (some ⟨b4,0,none⟩)],args:= #[]}
def ZrE (e:Env) (b2 b3 b4:Nat):Env:=⟨fun j=>bif Nat.beq j 10 then none else e.f j,.raw [clo b2 b3 b4]⟩
def prd (s:ByteArray) (K:Yp ZhH→HP) (h:Zb):Prop :=
  wpC (ZmK fun _ _=>False) (.seq pA pB) .leaf (Zdj [.val (.string s)]) h fun x e h'=>match x with
    | .ret=>Zmp K e h'
    | .normal=>match e.f 2,e.f 3,e.f 4 with
      | some (.adr b2 0),some (.adr b3 0),some (.adr b4 0)=>wpC (ZmK (Zq7 b2 b3 b4 (Zmp K (ZoO b2 b3 b4)))) pR .leaf (ZrE e b2 b3 b4) h' fun x e2 h2=>match x with
          | .normal=>Zmp K e2 h2
          | .ret=>Zmp K e2 h2
          | .exit _=>False
      | _,_,_=>False
    | .exit _=>False
theorem Zis {e:Env} {a:Act} {w:World} {K:Yp ZhH→HP} (hag:∀ j v,e j=some v→a.tmps[j]?=some v.v) (h:Zmp K e w.heap):∃ v,(results Tryd.f8 a.tmps).run Tryd.prog w = .ok v w∧∃ r,v=Zny ZhH r∧K r w.heap:=by
  have hag':Agr a.tmps.size ⟨e.f,.raw a.defers⟩ a:=⟨rfl,rfl,hag⟩
  have h':Zkz { ZmK (fun _ _=>False) with n:=a.tmps.size } ⟨e.f,.raw a.defers⟩ w.heap Tryd.f8.results.toList fun vs=>match Yp.un ZhH vs with
    | some r=>K r w.heap
    | none=>False:=h
  obtain ⟨vs,hr,hk⟩:=Zds (c:={ ZmK (fun _ _=>False) with n:=a.tmps.size }) (f:=fun
    | .tmp t=>pure (a.tmps.getD t undef)
    | .cell x t=>do loadVar t (← asAddr (a.tmps.getD x undef))) hag' (fun _=>rfl) (fun _ _=>rfl) h'
  split at hk
  ·rename_i r hun
   refine ⟨Zny ZhH r,?_,r,rfl,hk⟩
   unfold results
   rw [Array.mapM_eq_mapM_toList]
   simp only [Sem.run_bind,Sem.run_map]
   refine (congrArg (fun r=>(Result.andThen (Result.andThen r _) _)) hr).trans ?_
   simp only [Result.andThen_ok,Sem.run_pure]
   rw [Zlc hun]
   exact congrArg (fun v=>Result.ok v w) (Zhz _)
  ·exact hk.elim
def Zp4:Code:=Tryd.f16.body.getD .skip
def cl1:Code:=sq1 Zp4
def cl2:Code:=sq2 Zp4
theorem ZjH:Tryd.f16.body=some (.seq cl1 cl2):=by kernel_rfl
def Zqn:Ann:= .block (.seq (.leaf) (.cond (.leaf) (.seq (.leaf) (.cond (.seq (.leaf) (.order (.take 0 (.take 1 (.take 3 (.take 2 (.take 4 (.take 5 (.take 6 (.take 7 .done)))))))))) (.leaf)))))
def ZoB:Cfg:={ Ya Tryd.prog [] 17 [] [] [] Yg with pan:=fun _ _=>False,rnd:=none }
theorem Zl4:ZoB.OK:=(ZN (Ya Tryd.prog [] 17 [] [] [] Yg) .nil .nil .nil .nil (ZL _)).at none _
def ptr (b:Nat):Value:= .pointer (some ⟨b,0,none⟩)
def ZoP (b2 b3 b4:Nat) (v:Value):Env:=⟨fun j=>bif Nat.beq j 0 then some (.val (.pointer (some ⟨b2,0,none⟩))) else bif Nat.beq j 1 then some (.val (.pointer (some ⟨b3,0,none⟩))) else bif Nat.beq j 2 then some (.val (.pointer (some ⟨b4,0,none⟩))) else bif Nat.beq j 6 then some (.val v) else none,.no⟩
theorem Zgo {b2 b3 b4:Nat} {x:Value} {j:Nat} {v:EV} (h:(ZoP b2 b3 b4 x).f j=some v):(j=0∧v = .val (ptr b2))∨(j=1∧v = .val (ptr b3))∨(j=2∧v = .val (ptr b4))∨(j=6∧v = .val x):=by
  unfold ZoP at h
  dsimp only at h
  cases h0:Nat.beq j 0 with
  | true=>rw [h0] at h;cases h;exact .inl ⟨Nat.eq_of_beq_eq_true h0,rfl⟩
  | false =>
    rw [h0] at h
    cases h1:Nat.beq j 1 with
    | true=>rw [h1] at h;cases h;exact .inr (.inl ⟨Nat.eq_of_beq_eq_true h1,rfl⟩)
    | false =>
      rw [h1] at h
      cases h2:Nat.beq j 2 with
      | true=>rw [h2] at h;cases h;exact .inr (.inr (.inl ⟨Nat.eq_of_beq_eq_true h2,rfl⟩))
      | false =>
        rw [h2] at h
        cases h6:Nat.beq j 6 with
        | true=>rw [h6] at h;cases h;exact .inr (.inr (.inr ⟨Nat.eq_of_beq_eq_true h6,rfl⟩))
        | false=>rw [h6] at h;cases h
def ZmN (E:HP):Ex→Env→Zb→Prop
  | .normal,_,h=>E h
  | _,_,_=>False
theorem rdC (b2 b3 b4:Nat) (e n:Int) (E:HP) (h:Zb):wpC ZoB cl2 Zqn (ZoP b2 b3 b4 (.iface 55 (.agg #[.int .i64 e,.int .i64 n]))) h (ZmN E)=Zql b2 b3 b4 e n E h:=by kernel_rfl
theorem ZnN:cl1 = .region 0 #[⟨some 6,.call ⟨.builtin .recover,#[],#[]⟩,20, "json.go:273", #[],none⟩] false:=by kernel_rfl
theorem Zls {l:List Nat} (h:Zft l mkN=false):mkN∉l:=by
  induction l with
  | nil=>intro h9;cases h9
  | cons x xs ih =>
    intro h9
    simp only [Zft] at h
    cases hx:Nat.beq mkN x with
    | true=>rw [hx] at h;cases h
    | false =>
      rw [hx] at h
      rcases List.mem_cons.1 h9 with h9 | h9
      ·rw [← h9,Nat.beq_refl] at hx;cases hx
      ·exact ih h h9
set_option maxRecDepth 100000 in
theorem ZiS {b2 b3 b4:Nat} {e n:Int} {E:HP} {w:World} (hk:Zql b2 b3 b4 e n E w.heap) :
    CallsD Tryd.prog 16 #[ptr b2,ptr b3,ptr b4] (.panicking [{ v:= .iface 55 (.agg #[.int .i64 e,.int .i64 n]),recovered:=false }]) w fun e' u' w' =>
      e' = .returned (.tuple #[])∧u' = .panicking [{ v:= .iface 55 (.agg #[.int .i64 e,.int .i64 n]),recovered:=true }]∧Fw.Same w w'∧E w'.heap:=by
  refine callsD_of_wpS Tryd.func16 ZjH fun c₀ cs hu=>?_
  apply wpS_seq
  rw [ZnN]
  apply wpS_region
  simp [wpOpsS,go_sem,recoverD,hu,Tryd.ntmps16,Exit.thenS]
  refine wpS_of_wp ((wpIn_wide (n:=0)).1 (wpIn_mono (Yu cl2 ZoB Zl4 Zn Zqn (ZoP b2 b3 b4 (.iface 55 (.agg #[.int .i64 e,.int .i64 n]))) _ w (ZmN E) ?_ (by rw [rdC];exact hk)) ?_))
  ·refine ⟨by simp [ZoB,Ya,ptr],rfl,fun j v hj=>?_⟩
   have hv:(j=0∧v = .val (ptr b2))∨(j=1∧v = .val (ptr b3))∨(j=2∧v = .val (ptr b4))∨(j=6∧v = .val (.iface 55 (.agg #[.int .i64 e,.int .i64 n]))):=Zgo hj
   rcases hv with ⟨rfl,rfl⟩ | ⟨rfl,rfl⟩ | ⟨rfl,rfl⟩ | ⟨rfl,rfl⟩<;>simp [EV.v,Array.getElem?_append]
  ·intro ex a' w' hp
   cases ex with
   | normal =>
     obtain ⟨e',h1,h2,h3,h4⟩:=hp
     have hd:=h3.2 (Zls (by kernel_rfl))
     exact ⟨hd,_,rfl,.tuple #[],by simp [results,Tryd.results16],rfl,rfl,h2,h4⟩
   | ret=>obtain ⟨e',h1,h2,h3,h4⟩:=hp;exact h4.elim
   | exit id=>obtain ⟨e',h1,h2,h3,h4⟩:=hp;exact h4.elim
   | goto t=>exact hp.elim
   | outgrown=>exact hp.elim
   | panic ch=>obtain ⟨v,h1,h2,h3,h4⟩:=hp;exact h4.elim
theorem rdN (b2 b3 b4:Nat) (E:HP) (h:Zb):wpC ZoB cl2 Zqn (ZoP b2 b3 b4 .nilIface) h (ZmN E)=(ZhZ .nilIface fun b=>ZE b (E h) False):=by kernel_rfl
set_option maxRecDepth 100000 in
theorem Zkl {b2 b3 b4:Nat} {w:World}:CallsD Tryd.prog 16 #[ptr b2,ptr b3,ptr b4] .returning w fun e' u' w'=>e' = .returned (.tuple #[])∧u' = .returning∧Fw.Same w w'∧w'.heap=w.heap:=by
  refine callsD_of_wpS Tryd.func16 ZjH fun c₀ cs hu=>?_
  apply wpS_seq
  rw [ZnN]
  apply wpS_region
  simp [wpOpsS,go_sem,recoverD,hu,Tryd.ntmps16,Exit.thenS]
  refine wpS_of_wp ((wpIn_wide (n:=0)).1 (wpIn_mono (Yu cl2 ZoB Zl4 Zn Zqn (ZoP b2 b3 b4 .nilIface) _ w (ZmN fun h=>h=w.heap) ?_ (by rw [rdN];exact .inl ⟨rfl,Zt rfl rfl⟩)) ?_))
  ·refine ⟨by simp [ZoB,Ya,ptr],rfl,fun j v hj=>?_⟩
   have hv:(j=0∧v = .val (ptr b2))∨(j=1∧v = .val (ptr b3))∨(j=2∧v = .val (ptr b4))∨(j=6∧v = .val .nilIface):=Zgo hj
   rcases hv with ⟨rfl,rfl⟩ | ⟨rfl,rfl⟩ | ⟨rfl,rfl⟩ | ⟨rfl,rfl⟩<;>simp [EV.v,Array.getElem?_append]
  ·intro ex a' w' hp
   cases ex with
   | normal =>
     obtain ⟨e',h1,h2,h3,h4⟩:=hp
     have hd:=h3.2 (Zls (by kernel_rfl))
     refine ⟨hd,.returning,?_,.tuple #[],by simp [results,Tryd.results16],rfl,rfl,h2,h4⟩
     cases c₀
     simp_all
   | ret=>obtain ⟨e',h1,h2,h3,h4⟩:=hp;exact h4.elim
   | exit id=>obtain ⟨e',h1,h2,h3,h4⟩:=hp;exact h4.elim
   | goto t=>exact hp.elim
   | outgrown=>exact hp.elim
   | panic ch=>obtain ⟨v,h1,h2,h3,h4⟩:=hp;exact h4.elim
theorem Zq8:pD = .region 3 #[⟨some 10,.makeFunc (.func 16) #[] #[.tmp 2,.tmp 3,.tmp 4],1, "json.go:272", #[],none⟩,⟨none,.defer ⟨.value (.tmp 10),#[],#[]⟩,0, "json.go:272", #[⟨0,.data⟩],none⟩] false:=by kernel_rfl
theorem wpD {a:Act} {w:World} {Q:Exit→Act→World→Prop} {b2 b3 b4:Nat} (h2:a.tmps[2]?=some (ptr b2)) (h3:a.tmps[3]?=some (ptr b3)) (h4:a.tmps[4]?=some (ptr b4)) (hd:a.defers=[]) (hs:a.tmps.size=32)
    (h:pR.wp Tryd.prog Q { tmps:=a.tmps.setIfInBounds 10 (.func (.func 16) #[] #[ptr b2,ptr b3,ptr b4]),defers:=[clo b2 b3 b4]} w):(Code.seq pD pR).wp Tryd.prog Q a w:=by
  apply wp_seq
  rw [Zq8]
  apply wp_region
  have hmf:∀ (fn:Fn) (first cap:Array Value) (w:World),(Instr.makeFunc fn first cap).run Tryd.prog w = .ok (.func fn first cap) w:=fun _ _ _ _=>rfl
  have e2:a.eval (.tmp 2)=ptr b2:=by simp [Act.eval,h2]
  have e3:a.eval (.tmp 3)=ptr b3:=by simp [Act.eval,h3]
  have e4:a.eval (.tmp 4)=ptr b4:=by simp [Act.eval,h4]
  have e10:({ tmps:=a.tmps.setIfInBounds 10 (.func (.func 16) #[] #[ptr b2,ptr b3,ptr b4]),defers:=[]}:Act).eval (.tmp 10) = .func (.func 16) #[] #[ptr b2,ptr b3,ptr b4]:=by simp [Act.eval,hs]
  obtain ⟨tm,df⟩:=a
  dsimp only at hd hs h2 h3 h4
  subst hd
  show wpOps _ _ _ [0,1] _ _
  simp [wpOps,go_sem,hmf,e2,e3,e4,e10,Exit.then]
  refine .inl (.inl ?_)
  have g2:tm[2]'(by omega)=ptr b2:=(Array.getElem?_eq_some_iff.1 h2).2
  have g3:tm[3]'(by omega)=ptr b3:=(Array.getElem?_eq_some_iff.1 h3).2
  have g4:tm[4]'(by omega)=ptr b4:=(Array.getElem?_eq_some_iff.1 h4).2
  simp [g2,g3,g4,hs,Oper.upon]
  exact h
theorem nR:Zft (Fw.dstsOf pR) mkN=false∧Zft (Fw.dstsOf pR) 2=false∧Zft (Fw.dstsOf pR) 3=false∧Zft (Fw.dstsOf pR) 4=false∧Zft (Fw.dstsOf pA) mkN=false∧Zft (Fw.dstsOf pB) mkN=false:=⟨by kernel_rfl,by kernel_rfl,by kernel_rfl,by kernel_rfl,by kernel_rfl,by kernel_rfl⟩
theorem Zai {l:List Nat} {j:Nat} (h:Zft l j=false):j∉l:=by
  induction l with
  | nil=>intro h9;cases h9
  | cons x xs ih =>
    intro h9
    simp only [Zft] at h
    cases hx:Nat.beq j x with
    | true=>rw [hx] at h;cases h
    | false =>
      rw [hx] at h
      rcases List.mem_cons.1 h9 with h9 | h9
      ·rw [← h9,Nat.beq_refl] at hx;cases hx
      ·exact ih h h9
theorem Zks {b2 b3 b4 j:Nat} {v:EV} (h:(ZoO b2 b3 b4).f j=some v):(j=2∧v = .adr b2 0)∨(j=3∧v = .adr b3 0)∨(j=4∧v = .adr b4 0):=by
  unfold ZoO at h
  dsimp only at h
  cases h0:Nat.beq j 2 with
  | true=>rw [h0] at h;cases h;exact .inl ⟨Nat.eq_of_beq_eq_true h0,rfl⟩
  | false =>
    rw [h0] at h
    cases h1:Nat.beq j 3 with
    | true=>rw [h1] at h;cases h;exact .inr (.inl ⟨Nat.eq_of_beq_eq_true h1,rfl⟩)
    | false =>
      rw [h1] at h
      cases h2:Nat.beq j 4 with
      | true=>rw [h2] at h;cases h;exact .inr (.inr ⟨Nat.eq_of_beq_eq_true h2,rfl⟩)
      | false=>rw [h2] at h;cases h
set_option maxRecDepth 100000 in
theorem Zl9 {a:Act} {w w3:World} {K:Yp ZhH→HP} {b2 b3 b4:Nat} {e3:Env} (hag:∀ j v,e3 j=some v→a.tmps[j]?=some v.v) (hd:a.defers=[clo b2 b3 b4]) (hs:Fw.Same w w3) (hk:Zmp K e3 w3.heap) :
    Leaves Tryd.prog Tryd.f8 a.tmps (Zak ZhH w K fun _ _=>False) a.defers .returning w3:=by
  rw [hd]
  unfold clo
  refine leaves_cons (f:=16) (args:= #[ptr b2,ptr b3,ptr b4]) (by simp) (by simp [go_sem,ptr]) (Zkl.mono ?_)
  rintro e u w4 ⟨rfl,rfl,h1,h2⟩
  have hk4:Zmp K e3 w4.heap:=by rw [h2];exact hk
  obtain ⟨v,hv,r,rfl,hr⟩:=Zis hag hk4
  exact ⟨_,hv,.inl ⟨r,rfl,hs.trans h1,hr⟩⟩
set_option maxRecDepth 100000 in
theorem ZmM {a:Act} {w w3:World} {K:Yp ZhH→HP} {b2 b3 b4:Nat} {v:Value} (h2:a.tmps[2]?=some (ptr b2)) (h3:a.tmps[3]?=some (ptr b3)) (h4:a.tmps[4]?=some (ptr b4)) (hd:a.defers=[clo b2 b3 b4]) (hs:Fw.Same w w3)
    (hk:Zq7 b2 b3 b4 (Zmp K (ZoO b2 b3 b4)) v w3.heap):Leaves Tryd.prog Tryd.f8 a.tmps (Zak ZhH w K fun _ _=>False) a.defers (.panicking [{ v,recovered:=false }]) w3:=by
  obtain ⟨e,n,rfl,hc⟩:=hk
  rw [hd]
  unfold clo
  refine leaves_cons (f:=16) (args:= #[ptr b2,ptr b3,ptr b4]) (by simp) (by simp [go_sem,ptr]) ((ZiS hc).mono ?_)
  rintro e' u w4 ⟨rfl,rfl,g1,g2⟩
  have hag:∀ j v,(ZoO b2 b3 b4) j=some v→a.tmps[j]?=some v.v:=fun j v hj=>by
    have hv:(j=2∧v = .adr b2 0)∨(j=3∧v = .adr b3 0)∨(j=4∧v = .adr b4 0):=Zks hj
    rcases hv with ⟨rfl,rfl⟩ | ⟨rfl,rfl⟩ | ⟨rfl,rfl⟩
    ·exact h2
    ·exact h3
    ·exact h4
  obtain ⟨v,hv,r,rfl,hr⟩:=Zis hag g2
  exact ⟨_,hv,.inl ⟨r,rfl,hs.trans g1,hr⟩⟩
theorem Zro {s:ByteArray}:Agr 32 (Zdj [.val (.string s)]) { tmps:= #[.string s]++Array.replicate 31 undef,defers:=[]}:=by
  refine ⟨by simp,rfl,fun j v hj=>?_⟩
  obtain ⟨k,hk,hv⟩:=Zd3 [.val (.string s)] 0 j v hj
  cases k with
  | zero=>simp at hk hv;subst hk hv;simp [EV.v]
  | succ k=>simp at hv
theorem Zna {e:Env} {a:Act} {b2 b3 b4:Nat} {x:Value} (h:Agr 32 e a):Agr 32 (ZrE e b2 b3 b4) { tmps:=a.tmps.setIfInBounds 10 x,defers:=[clo b2 b3 b4]}:=by
  refine ⟨by simp [h.size],rfl,fun j v hj=>?_⟩
  have hj':(bif Nat.beq j 10 then none else e.f j)=some v:=hj
  cases h10:Nat.beq j 10 with
  | true=>rw [h10] at hj';cases hj'
  | false =>
    rw [h10] at hj'
    have hne:10≠j:=fun h9=>by rw [← h9] at h10;cases h10
    show (a.tmps.setIfInBounds 10 x)[j]?=_
    rw [Array.getElem?_setIfInBounds_ne hne]
    exact h.val j v hj'
set_option maxRecDepth 100000 in
theorem Ziz {s:ByteArray} {K:Yp ZhH→HP} {w:World} (hk:prd s K w.heap):Calls Tryd.prog 8 #[.string s] w (Zak ZhH w K fun _ _=>False):=by
  refine calls_of_wp_defers Tryd.func8 ZmI ?_
  show (Code.seq pA (.seq pB (.seq pD pR))).wp Tryd.prog _ { tmps:= #[.string s]++Array.replicate 31 undef,defers:=[]} w
  obtain ⟨q1,q2,q3,q4,q5,q6⟩:=nR
  have stop:∀ {a:Act} {w1:World} {e:Env},Agr 32 e a→Fw.Same w w1→a.defers=[]→Zmp K e w1.heap→Leaves Tryd.prog Tryd.f8 a.tmps (Zak ZhH w K fun _ _=>False) a.defers .returning w1:=fun {a w1 e} g1 g2 g3 g4=>by
    rw [g3]
    obtain ⟨v,hv,r,rfl,hr⟩:=Zis g1.val g4
    exact ⟨_,hv,.inl ⟨r,rfl,g2,hr⟩⟩
  unfold prd at hk
  have hA:=Yu pA (ZmK fun _ _=>False) (Zix _) Zn .leaf _ _ w _ Zro hk
  refine wp_seq ((wpIn_wide (n:=0)).1 (wpIn_mono hA ?_))
  intro ex a1 w1 hp
  cases ex with
  | goto t=>exact hp.elim
  | outgrown=>exact hp.elim
  | panic ch=>obtain ⟨v,h1,h2,h3,h4⟩:=hp;exact h4.elim
  | exit id=>obtain ⟨e1,g1,g2,g3,g4⟩:=hp;exact g4.elim
  | ret =>
    obtain ⟨e1,g1,g2,g3,g4⟩:=hp
    exact stop g1 g2 (g3.2 (Zai q5)) g4
  | normal =>
    obtain ⟨e1,g1,g2,g3,g4⟩:=hp
    have d1:a1.defers=[]:=g3.2 (Zai q5)
    have hB:=Yu pB (ZmK fun _ _=>False) (Zix _) Zn .leaf _ _ w1 _ g1 g4
    refine wp_seq ((wpIn_wide (n:=0)).1 (wpIn_mono hB ?_))
    intro ex a2 w2 hp
    cases ex with
    | goto t=>exact hp.elim
    | outgrown=>exact hp.elim
    | panic ch=>obtain ⟨v,h1,h2,h3,h4⟩:=hp;exact h4.elim
    | exit id=>obtain ⟨e2,j1,j2,j3,j4⟩:=hp;exact j4.elim
    | ret =>
      obtain ⟨e2,j1,j2,j3,j4⟩:=hp
      exact stop j1 (g2.trans j2) ((j3.2 (Zai q6)).trans d1) j4
    | normal =>
      obtain ⟨e2,j1,j2,j3,j4⟩:=hp
      have d2:a2.defers=[]:=(j3.2 (Zai q6)).trans d1
      dsimp only at j4
      split at j4
      case h_2=>exact j4.elim
      rename_i b2 b3 b4 h2 h3 h4
      have t2:=j1.val 2 _ h2
      have t3:=j1.val 3 _ h3
      have t4:=j1.val 4 _ h4
      refine wpD t2 t3 t4 d2 j1.size ?_
      have hR:=Yu pR (ZmK (Zq7 b2 b3 b4 (Zmp K (ZoO b2 b3 b4)))) (Zix _) Zn .leaf _ _ w2 _ (Zna (x:= .func (.func 16) #[] #[ptr b2,ptr b3,ptr b4]) j1) j4
      refine (wpIn_wide (n:=0)).1 (wpIn_mono hR ?_)
      intro ex a3 w3 hp
      cases ex with
      | goto t=>exact hp.elim
      | outgrown=>exact hp.elim
      | exit id=>obtain ⟨e3,k1,k2,k3,k4⟩:=hp;exact k4.elim
      | normal =>
        obtain ⟨e3,k1,k2,k3,k4⟩:=hp
        exact Zl9 k1.val (k3.2 (Zai q1)) ((g2.trans j2).trans k2) k4
      | ret =>
        obtain ⟨e3,k1,k2,k3,k4⟩:=hp
        exact Zl9 k1.val (k3.2 (Zai q1)) ((g2.trans j2).trans k2) k4
      | panic ch =>
        obtain ⟨v,rfl,k2,k3,k4⟩:=hp
        have e2:=(k3.1 2 (Zai q2)).trans (show (a2.tmps.setIfInBounds 10 _)[2]?=some (ptr b2) by rw [Array.getElem?_setIfInBounds_ne (by decide)];exact t2)
        have e3:=(k3.1 3 (Zai q3)).trans (show (a2.tmps.setIfInBounds 10 _)[3]?=some (ptr b3) by rw [Array.getElem?_setIfInBounds_ne (by decide)];exact t3)
        have e4:=(k3.1 4 (Zai q4)).trans (show (a2.tmps.setIfInBounds 10 _)[4]?=some (ptr b4) by rw [Array.getElem?_setIfInBounds_ne (by decide)];exact t4)
        exact ZmM e2 e3 e4 (k3.2 (Zai q1)) ((g2.trans j2).trans k2) k4
theorem rdP (s:ByteArray) (K:(Int × ByteArray × Sl × Sl × Unit)→Int→Int→HP) (h:Zb):prd s (fun r h=>K r.1 r.2.1 r.2.2.1 h) h=YH s K h:=by kernel_rfl
def ZhE:Zh:=⟨[.one (.S)],ZhH,fun t K _ h=>YH t.1 (fun r0 r1 r2 h=>K (r0,r1,r2,()) h) h⟩
set_option maxRecDepth 100000 in
theorem Zkc {s:ByteArray} {K:(Int × ByteArray × Sl × Sl × Unit)→Int→Int→HP} {w:World} (hk:YH s K w.heap):Calls Tryd.prog 8 #[.string s] w fun e w'=>∃ r:Yp ZhH,e = .returned (Zny ZhH r)∧Fw.Same w w'∧K r.1 r.2.1 r.2.2.1 w'.heap:=by
  have hk':prd s (fun r h=>K r.1 r.2.1 r.2.2.1 h) w.heap:=(rdP s K w.heap).mpr hk
  refine (Ziz hk').mono ?_
  rintro e w' (⟨r,he,hs,hr⟩ | ⟨v,he,hs,hr⟩)
  ·exact ⟨r,he,hs,hr⟩
  ·exact hr.elim
theorem Zdx:Zx Tryd.prog 8 ZhE where
  named:=⟨_,Tryd.func8,by kernel_rfl,by kernel_rfl⟩
  calls t K Kp w hk:=(Zkc (K:=fun r0 r1 r2 h=>K (r0,r1,r2,()) h) hk).mono fun e w' h9=>let ⟨r,he,hs,hr⟩:=h9;.inl ⟨r,he,hs,hr⟩
abbrev ZqQ (f:Zpi):Zh:=⟨[.one (.S)],[.one (.B)],fun t K _ h=>f t.1 (fun r0 h=>K (r0,()) h) h⟩
abbrev ZtD (f27:ZoK):Cfg:=Ya Tryd.prog [(8,⟨[.one (.S)],[.agg [.I .u8,.S,.L,.L],.one (.I .i64),.one (.I .i64)],fun t K _ h=>f27 t.1 (fun r0 r1 r2 h=>K (r0,r1,r2,()) h) h⟩)] 25 [] [] [] Yg
theorem Zse (f27:ZoK):Yo (ZtD f27) Tryd.f34 (.leaf) (ZqQ (ZaS f27)):=fun _ _ _ _=>by kernel_rfl
theorem ZsX:Zx Tryd.prog 34 (ZqQ Xh):=okF (Zse YH) Tryd.func34 Zn (ZN _ (.cons Zdx .nil) .nil .nil .nil (ZL _))
abbrev ZqP (f:Zph):Zh:=⟨[.one (.S)],[.one (.B)],fun t K _ h=>f t.1 (fun r0 h=>K (r0,()) h) h⟩
abbrev ZtC (f16:Zky):Cfg:=Ya Tryd.prog [(35,⟨[.one (.S)],[.one (.B)],fun t K _ h=>f16 t.1 (fun r0 h=>K (r0,()) h) h⟩)] 6 [] [] [] Yg
theorem Zsd (f16:Zky):Yo (ZtC f16) Tryd.f37 (.leaf) (ZqP (Zbk f16)):=fun _ _ _ _=>by kernel_rfl
theorem ZsW:Zx Tryd.prog 37 (ZqP Zaj):=okF (Zsd Zw) Tryd.func37 Zn (ZN _ (.cons Z9 .nil) .nil .nil .nil (ZL _))
abbrev ZqO (f:Zpg):Zh:=⟨[.one (.L),.fn 37],[.one (.I .i64)],fun t K _ h=>f t.1 (fun r0 h=>K (r0,()) h) h⟩
abbrev ZtB (f29:Zph):Cfg:=Ya Tryd.prog [(37,ZqP f29)] 19 [] [] [] Yg
theorem Zsc (f29:Zph):Yo (ZtB f29) Tryd.f48 (.seq (.leaf) (.seq (.seq (.leaf) (.block (.loop [8] [.one (.I .i64)] [(4,5),(9,18)] (.leaf)))) (.leaf))) (ZqO (ZI f29)):=fun _ _ _ _=>by kernel_rfl
theorem ZsV:Zx Tryd.prog 48 (ZqO ZB):=okF (Zsc Zaj) Tryd.func48 Zn (ZN _ (.cons ZsW .nil) .nil .nil .nil (ZL _))
abbrev ZqN (f:Zpf):Zh:=⟨[.one (.L),.fn 37],[.one (.B)],fun t K _ h=>f t.1 (fun r0 h=>K (r0,()) h) h⟩
abbrev ZtA (f30:Zpg):Cfg:=Ya Tryd.prog [(48,ZqO f30)] 9 [] [] [] Yg
theorem Zsb (f30:Zpg):Yo (ZtA f30) Tryd.f36 (.leaf) (ZqN (ZH f30)):=fun _ _ _ _=>by kernel_rfl
theorem ZsU:Zx Tryd.prog 36 (ZqN Zq):=okF (Zsb ZB) Tryd.func36 Zn (ZN _ (.cons ZsV .nil) .nil .nil .nil (ZL _))
abbrev ZqM (f:Zpe):Zh:=⟨[.agg [.I .u8,.S,.L,.L]],[.one (.B)],fun t K _ h=>f t.1 (fun r0 h=>K (r0,()) h) h⟩
abbrev Ztz (f28:Zpi) (f16:Zky) (f31:Zpf):Cfg:=Ya Tryd.prog [(34,ZqQ f28),(35,⟨[.one (.S)],[.one (.B)],fun t K _ h=>f16 t.1 (fun r0 h=>K (r0,()) h) h⟩),(36,ZqN f31)] 86 [] [] [] Yg
theorem Zsa (f28:Zpi) (f16:Zky) (f31:Zpf):Yo (Ztz f28 f16 f31) Tryd.f15 (.seq (.leaf) (.seq (.leaf) (.seq (.seq (.leaf) (.block (.cut [19] [.one (.B)] [(20,22)] (.leaf) (.leaf)))) (.leaf)))) (ZqM (Zcs f28 f16 f31)):=fun _ _ _ _=>by kernel_rfl
theorem ZsT:Zx Tryd.prog 15 (ZqM Zap):=okF (Zsa Xh Zw Zq) Tryd.func15 Zn (ZN _ (.cons ZsX (.cons Z9 (.cons ZsU .nil))) .nil .nil .nil (ZL _))
abbrev Zmm (f:ZfJ):Zh:=⟨[.one (.P),.agg [.I .u8,.S,.L,.L],.one (.I .i64),.one (.V)],[.one (.B)],fun t K _ h=>f t.1 t.2.1 t.2.2.1 t.2.2.2.1 (fun r0 h=>K (r0,()) h) h⟩
abbrev ZqL (f:Zpd):Zh:=⟨[.agg [.I .u8,.S,.L,.L],.one (.P),.one (.P),.one (.P)],[.one (.B)],fun t K _ h=>f t.1 t.2.1 t.2.2.1 t.2.2.2.1 (fun r0 h=>K (r0,()) h) h⟩
abbrev Ztx (f33:ZfJ):Cfg:=Ya Tryd.prog [(14,Zmm f33)] 13 [] [] [] Yg
theorem Zr8 (f33:ZfJ):Yo (Ztx f33) Tryd.f33 (.leaf) (ZqL (XL f33)):=fun _ _ _ _=>by kernel_rfl
theorem Zsx (f33:ZfJ) (hH:Zx Tryd.prog 14 (Zmm f33)):Zx Tryd.prog 33 (ZqL (Y1 f33)):=okF (Zr8 f33) Tryd.func33 Zn (ZN _ (.cons hH .nil) .nil .nil .nil (ZL _)) (hlen:=Nat.le_of_ble_eq_true rfl)
abbrev ZqK (f:Zpc):Zh:=⟨[.one (.L),.clo 33 [.P,.P,.P]],[.one (.I .i64)],fun t K _ h=>f t.1 t.2.1 (fun r0 h=>K (r0,()) h) h⟩
abbrev Ztw (f34:Zpd):Cfg:=Ya Tryd.prog [(33,ZqL f34)] 19 [] [] [] Yg
theorem Zr7 (f34:Zpd):Yo (Ztw f34) Tryd.f46 (.seq (.leaf) (.seq (.seq (.leaf) (.block (.loop [8] [.one (.I .i64)] [(4,5),(9,18)] (.leaf)))) (.leaf))) (ZqK (ZC f34)):=fun _ _ _ _=>by kernel_rfl
theorem Zsw (f33:ZfJ) (hH:Zx Tryd.prog 14 (Zmm f33)):Zx Tryd.prog 46 (ZqK (Zr f33)):=okF (Zr7 (Y1 f33)) Tryd.func46 Zn (ZN _ (.cons (Zsx f33 hH) .nil) .nil .nil .nil (ZL _)) (hlen:=Nat.le_of_ble_eq_true rfl)
abbrev ZqJ (f:Zpb):Zh:=⟨[.one (.L),.clo 33 [.P,.P,.P]],[.one (.B)],fun t K _ h=>f t.1 t.2.1 (fun r0 h=>K (r0,()) h) h⟩
abbrev Ztv (f35:Zpc):Cfg:=Ya Tryd.prog [(46,ZqK f35)] 9 [] [] [] Yg
theorem Zr6 (f35:Zpc):Yo (Ztv f35) Tryd.f32 (.leaf) (ZqJ (ZA f35)):=fun _ _ _ _=>by kernel_rfl
theorem Zsv (f33:ZfJ) (hH:Zx Tryd.prog 14 (Zmm f33)):Zx Tryd.prog 32 (ZqJ (Zj f33)):=okF (Zr6 (Zr f33)) Tryd.func32 Zn (ZN _ (.cons (Zsw f33 hH) .nil) .nil .nil .nil (ZL _)) (hlen:=Nat.le_of_ble_eq_true rfl)
abbrev Zty (f32:Zpe) (f36:Zpb):Cfg:=Ya Tryd.prog [(15,ZqM f32),(32,ZqJ f36)] 52 [] [] [] Yg [(15,[])]
theorem Zr9 (f32:Zpe) (f36:Zpb):Yo (Zty f32 f36) Tryd.f14 (.seq (.leaf) (.seq (.leaf) (.seq (.leaf) (.cut [] [] [(8,8),(27,34)] (.leaf) (.seq (.order (.take 0 (.take 1 (.take 2 (.take 3 (.take 4 (.take 5 (.take 6 (.take 7 (.take 8 (.take 9 (.take 10 .done)))))))))))) (.leaf)))))) (Zmm (Zaf f32 f36)):=fun _ _ _ _=>by kernel_rfl
theorem Zsy (f33:ZfJ) (hH:Zx Tryd.prog 14 (Zmm f33)):Zx Tryd.prog 14 (Zmm (Xp f33)):=okF (Zr9 Zap (Zj f33)) Tryd.func14 Zn (ZN _ (.cons ZsT (.cons (Zsv f33 hH) .nil)) .nil .nil .nil (ZL _)) (hlen:=Nat.le_of_ble_eq_true rfl)
theorem Zru:∀ n,Zx Tryd.prog 14 (Zmm (Yi n))
 | 0=>ZiA Tryd.func14 (by kernel_rfl) (by kernel_rfl) fun _ _ _ _ h=>h
 | n+1=>Zsy _ (Zru n)
theorem ZsS:Zx Tryd.prog 14 (Zmm Zad):=Zob Zru
abbrev Zqf (f:Zno):Zh:=⟨[.agg [.I .u8,.S,.L,.L]],[.one (.B)],fun t K _ h=>f t.1 (fun r0 h=>K (r0,()) h) h⟩
abbrev Ztu (f33:ZfJ):Cfg:=Ya Tryd.prog [(14,Zmm f33)] 16 [] [] [] Yg
theorem Zr5 (f33:ZfJ):Yo (Ztu f33) Tryd.f7 (.leaf) (Zqf (Zct f33)):=fun _ _ _ _=>by kernel_rfl
theorem Zry:Zx Tryd.prog 7 (Zqf Xi):=okF (Zr5 Zad) Tryd.func7 Zn (ZN _ (.cons ZsS .nil) .nil .nil .nil (ZL _))
abbrev Zqe (f:Znn):Zh:=⟨[.one (.P)],[.one (.I .i64)],fun t K _ h=>f t.1 (fun r0 h=>K (r0,()) h) h⟩
abbrev Ztt:Cfg:=Ya Tryd.prog [] 8 [] [] [] Yg
theorem Zr4:Yo (Ztt) Tryd.f11 (.leaf) (Zqe Xj):=fun _ _ _ _=>by kernel_rfl
theorem Zrx:Zx Tryd.prog 11 (Zqe Z0):=okF (Zr4) Tryd.func11 Zn (ZN _ .nil .nil .nil .nil (ZL _))
abbrev ZqI (f:Zpa):Zh:=⟨[.one (.P),.one (.S)],[],fun t K _ h=>f t.1 t.2.1 (fun h=>K (()) h) h⟩
abbrev Zts (f7:zT7) (f1:zT1) (f18:ZkE):Cfg:=Ya Tryd.prog [(31,zk7 f7),(43,⟨[.one (.S),.one (.I .u8)],[.one (.I .i64)],fun t K _ h=>f1 t.1 t.2.1 (fun r0 h=>K (r0,()) h) h⟩),(29,ZoV f18)] 81 [] [] [] Yg
theorem Zr3 (f7:zT7) (f1:zT1) (f18:ZkE):Yo (Zts f7 f1 f18) Tryd.f30 (.seq (.leaf) (.seq (.seq (.leaf) (.block (.loop [13] [.one (.I .i64)] [(4,6),(14,76)] (.seq (.leaf) (.seq (.leaf) (.seq (.block (.seq (.leaf) (.seq (.leaf) (.seq (.leaf) (.block (.cut [26] [.one (.B)] [(27,32)] (.leaf) (.cond (.leaf) (.seq (.leaf) (.cond (.seq (.leaf) (.order (.take 0 (.take 1 (.take 2 (.take 3 (.take 4 (.take 5 .done)))))))) (.seq (.leaf) (.cond (.seq (.leaf) (.seq (.order (.take 0 (.take 1 (.take 2 (.take 3 (.take 4 (.take 5 (.take 6 .done)))))))) (.order (.take 0 (.take 1 (.take 2 (.take 3 (.take 4 (.take 5 (.take 6 .done)))))))))) (.leaf)))))))))))) (.leaf))))))) (.leaf))) (ZqI (X2 f7 f1 f18)):=fun _ _ _ _=>by kernel_rfl
theorem ZsR:Zx Tryd.prog 30 (ZqI YF):=okF (Zr3 Zl ZY Zk) Tryd.func30 Zn (ZN _ (.cons zo7 (.cons Xs (.cons Zqt .nil))) .nil .nil .nil (ZL _))
abbrev ZnS (f:Zi1):Zh:=⟨[.one (.P),.agg [.I .u8,.S,.L,.L]],[],fun t K _ h=>f t.1 t.2.1 (fun h=>K (()) h) h⟩
abbrev Ztr (f38:Znn) (f18:ZkE) (f39:Zpa) (f7:zT7) (f40:Zi1):Cfg:=Ya Tryd.prog [(11,Zqe f38),(29,ZoV f18),(30,ZqI f39),(31,zk7 f7),(10,ZnS f40)] 93 [] [] [] Yg
theorem Zr2 (f38:Znn) (f18:ZkE) (f39:Zpa) (f7:zT7) (f40:Zi1):Yo (Ztr f38 f18 f39 f7 f40) Tryd.f10 (.seq (.leaf) (.seq (.leaf) (.seq (.leaf) (.block (.seq (.leaf) (.cond (.leaf) (.seq (.leaf) (.cond (.leaf) (.seq (.leaf) (.cond (.leaf) (.seq (.leaf) (.cond (.order (.take 0 (.take 1 (.take 2 (.take 3 (.take 4 (.take 5 .done))))))) (.seq (.leaf) (.cond (.leaf) (.seq (.leaf) (.cut [4] [.one (.S)] [(14,16)] (.leaf) (.seq (.order (.take 0 (.take 1 (.take 2 (.take 3 (.take 4 (.take 5 .done))))))) (.seq (.seq (.leaf) (.block (.loop [26] [.one (.I .i64)] [(5,6),(27,54)] (.seq (.leaf) (.seq (.leaf) (.seq (.block (.seq (.leaf) (.cut [] [] [(31,36)] (.leaf) (.cut [] [] [(37,50)] (.leaf) (.leaf))))) (.leaf))))))) (.order (.take 0 (.take 1 (.take 2 (.take 3 (.take 4 (.take 5 .done))))))))))))))))))))))))) (ZnS (XI f38 f18 f39 f7 f40)):=fun _ _ _ _=>by kernel_rfl
theorem Zsu (f40:Zi1) (hH:Zx Tryd.prog 10 (ZnS f40)):Zx Tryd.prog 10 (ZnS (YZ f40)):=okF (Zr2 Z0 Zk YF Zl f40) Tryd.func10 Zn (ZN _ (.cons Zrx (.cons Zqt (.cons ZsR (.cons zo7 (.cons hH .nil))))) .nil .nil .nil (ZL _)) (hlen:=Nat.le_of_ble_eq_true rfl)
theorem Zrt:∀ n,Zx Tryd.prog 10 (ZnS (Z6 n))
 | 0=>ZiA Tryd.func10 (by kernel_rfl) (by kernel_rfl) fun _ _ _ _ h=>h
 | n+1=>Zsu _ (Zrt n)
theorem ZsQ:Zx Tryd.prog 10 (ZnS XF):=Zob Zrt
abbrev ZqH (f:Zo9):Zh:=⟨[.agg [.I .u8,.S,.L,.L]],[.one (.S),.one (.I .i64)],fun t K _ h=>f t.1 (fun r0 r1 h=>K (r0,r1,()) h) h⟩
abbrev Ztq (f37:Zno) (f40:Zi1) (f38:Znn) (f5:zT5):Cfg:=Ya Tryd.prog [(7,Zqf f37),(10,ZnS f40),(11,Zqe f38),(12,⟨[.one (.P)],[.one (.S)],fun t K _ h=>f5 t.1 (fun r0 h=>K (r0,()) h) h⟩)] 15 [] [] [] Yg
theorem Zr1 (f37:Zno) (f40:Zi1) (f38:Znn) (f5:zT5):Yo (Ztq f37 f40 f38 f5) Tryd.f5 (.leaf) (ZqH (Zcu f37 f40 f38 f5)):=fun _ _ _ _=>by kernel_rfl
theorem ZsP:Zx Tryd.prog 5 (ZqH Zaq):=okF (Zr1 Xi XF Z0 ZT) Tryd.func5 Zn (ZN _ (.cons Zry (.cons ZsQ (.cons Zrx (.cons Xy .nil)))) .nil .nil .nil (ZL _))
abbrev ZoU (f:ZkD):Zh:=⟨[.one (.I .i64),.one (.I .i64),.one (.I .i64)],[.one (.B)],fun t K _ h=>f t.1 t.2.1 t.2.2.1 (fun r0 h=>K (r0,()) h) h⟩
abbrev Ztp:Cfg:=Ya Tryd.prog [] 15 [] [] [] Yg
theorem Zr0:Yo (Ztp) Tryd.f13 (.leaf) (ZoU Zbi):=fun _ _ _ _=>by kernel_rfl
theorem Zqs:Zx Tryd.prog 13 (ZoU Yl):=okF (Zr0) Tryd.func13 Zn (ZN _ .nil .nil .nil .nil (ZL _))
abbrev ZoT (f:ZkC):Zh:=⟨[.one (.S)],[.one (.B)],fun t K _ h=>f t.1 (fun r0 h=>K (r0,()) h) h⟩
abbrev Zto (f42:ZkD):Cfg:=Ya Tryd.prog [(13,ZoU f42)] 19 [] [] [] Yg
theorem ZrZ (f42:ZkD):Yo (Zto f42) Tryd.f6 (.seq (.leaf) (.seq (.seq (.leaf) (.block (.loop [6] [.one (.I .i64)] [(2,3),(7,15)] (.leaf)))) (.leaf))) (ZoT (Zbj f42)):=fun _ _ _ _=>by kernel_rfl
theorem Zqr:Zx Tryd.prog 6 (ZoT Ym):=okF (ZrZ Yl) Tryd.func6 Zn (ZN _ (.cons Zqs .nil) .nil .nil .nil (ZL _))
abbrev ZqG (f:Zo8):Zh:=⟨[.one (.S)],[.one (.B)],fun t K _ h=>f t.1 (fun r0 h=>K (r0,()) h) h⟩
abbrev Ztn (f43:ZkC):Cfg:=Ya Tryd.prog [(6,ZoT f43)] 6 [] [] [] Yg
theorem ZrY (f43:ZkC):Yo (Ztn f43) Tryd.f54 (.leaf) (ZqG (Xk f43)):=fun _ _ _ _=>by kernel_rfl
theorem ZsO:Zx Tryd.prog 54 (ZqG YE):=okF (ZrY Ym) Tryd.func54 Zn (ZN _ (.cons Zqr .nil) .nil .nil .nil (ZL _))
abbrev ZqF (f:Zo7):Zh:=⟨[.one (.L),.fn 54],[.one (.I .i64)],fun t K _ h=>f t.1 (fun r0 h=>K (r0,()) h) h⟩
abbrev Ztm (f44:Zo8):Cfg:=Ya Tryd.prog [(54,ZqG f44)] 19 [] [] [] Yg
theorem ZrX (f44:Zo8):Yo (Ztm f44) Tryd.f48 (.seq (.leaf) (.seq (.seq (.leaf) (.block (.loop [8] [.one (.I .i64)] [(4,5),(9,18)] (.leaf)))) (.leaf))) (ZqF (ZF f44)):=fun _ _ _ _=>by kernel_rfl
theorem ZsN:Zx Tryd.prog 48 (ZqF Zu):=okF (ZrX YE) Tryd.func48 Zn (ZN _ (.cons ZsO .nil) .nil .nil .nil (ZL _))
abbrev ZqE (f:Zo6):Zh:=⟨[.one (.L),.fn 54],[.one (.B)],fun t K _ h=>f t.1 (fun r0 h=>K (r0,()) h) h⟩
abbrev Ztl (f45:Zo7):Cfg:=Ya Tryd.prog [(48,ZqF f45)] 9 [] [] [] Yg
theorem ZrW (f45:Zo7):Yo (Ztl f45) Tryd.f36 (.leaf) (ZqE (ZD f45)):=fun _ _ _ _=>by kernel_rfl
theorem ZsM:Zx Tryd.prog 36 (ZqE Zs):=okF (ZrW Zu) Tryd.func36 Zn (ZN _ (.cons ZsN .nil) .nil .nil .nil (ZL _))
abbrev ZqD (f:Zo5):Zh:=⟨[.agg [.S,.L]],[.one (.B)],fun t K _ h=>f t.1 (fun r0 h=>K (r0,()) h) h⟩
abbrev Ztk (f43:ZkC) (f46:Zo6):Cfg:=Ya Tryd.prog [(6,ZoT f43),(36,ZqE f46)] 12 [] [] [] Yg
theorem ZrV (f43:ZkC) (f46:Zo6):Yo (Ztk f43 f46) Tryd.f44 (.leaf) (ZqD (XH f43 f46)):=fun _ _ _ _=>by kernel_rfl
theorem ZsL:Zx Tryd.prog 44 (ZqD Yz):=okF (ZrV Ym Zs) Tryd.func44 Zn (ZN _ (.cons Zqr (.cons ZsM .nil)) .nil .nil .nil (ZL _))
abbrev ZqC (f:Zo4):Zh:=⟨[.one (.P),.one (.P)],[.one (.B)],fun t K _ h=>f t.1 t.2.1 (fun r0 h=>K (r0,()) h) h⟩
abbrev Ztj (f42:ZkD):Cfg:=Ya Tryd.prog [(13,ZoU f42)] 7 [] [] [] Yg
theorem ZrU (f42:ZkD):Yo (Ztj f42) Tryd.f21 (.leaf) (ZqC (Zc2 f42)):=fun _ _ _ _=>by kernel_rfl
theorem ZsK:Zx Tryd.prog 21 (ZqC Zbh):=okF (ZrU Yl) Tryd.func21 Zn (ZN _ (.cons Zqs .nil) .nil .nil .nil (ZL _))
abbrev ZqB (f:Zo3):Zh:=⟨[.one (.P)],[.one (.B)],fun t K _ h=>f t.1 (fun r0 h=>K (r0,()) h) h⟩
abbrev Zti:Cfg:=Ya Tryd.prog [] 10 [] [] [] Yg
theorem ZrT:Yo (Zti) Tryd.f22 (.leaf) (ZqB Zc1):=fun _ _ _ _=>by kernel_rfl
theorem ZsJ:Zx Tryd.prog 22 (ZqB Zbg):=okF (ZrT) Tryd.func22 Zn (ZN _ .nil .nil .nil .nil (ZL _))
abbrev ZqA (f:Zo2):Zh:=⟨[.one (.P)],[.one (.B)],fun t K _ h=>f t.1 (fun r0 h=>K (r0,()) h) h⟩
abbrev Zth:Cfg:=Ya Tryd.prog [] 10 [] [] [] Yg
theorem ZrS:Yo (Zth) Tryd.f23 (.leaf) (ZqA Zc0):=fun _ _ _ _=>by kernel_rfl
theorem ZsI:Zx Tryd.prog 23 (ZqA Zbf):=okF (ZrS) Tryd.func23 Zn (ZN _ .nil .nil .nil .nil (ZL _))
abbrev Zqz (f:Zo1):Zh:=⟨[.one (.P)],[.one (.B)],fun t K _ h=>f t.1 (fun r0 h=>K (r0,()) h) h⟩
abbrev Ztg:Cfg:=Ya Tryd.prog [] 15 [] [] [] Yg
theorem ZrR:Yo (Ztg) Tryd.f24 (.leaf) (Zqz ZcZ):=fun _ _ _ _=>by kernel_rfl
theorem ZsH:Zx Tryd.prog 24 (Zqz Zbe):=okF (ZrR) Tryd.func24 Zn (ZN _ .nil .nil .nil .nil (ZL _))
abbrev Zqd (f:Znm):Zh:=⟨[.one (.B),.one (.I .i64),.one (.I .i64),.one (.I .i64)],[.one (.B)],fun t K _ h=>f t.1 t.2.1 t.2.2.1 t.2.2.2.1 (fun r0 h=>K (r0,()) h) h⟩
abbrev Ztf (f42:ZkD):Cfg:=Ya Tryd.prog [(13,ZoU f42)] 24 [] [] [] Yg
theorem ZrQ (f42:ZkD):Yo (Ztf f42) Tryd.f26 (.leaf) (Zqd (Zd8 f42)):=fun _ _ _ _=>by kernel_rfl
theorem Zrw:Zx Tryd.prog 26 (Zqd Zan):=okF (ZrQ Yl) Tryd.func26 Zn (ZN _ (.cons Zqs .nil) .nil .nil .nil (ZL _))
abbrev Zqy (f:Zo0):Zh:=⟨[.one (.P),.one (.P),.one (.P)],[.one (.B)],fun t K _ h=>f t.1 t.2.1 t.2.2.1 (fun r0 h=>K (r0,()) h) h⟩
abbrev Zte (f52:Znm):Cfg:=Ya Tryd.prog [(26,Zqd f52)] 14 [] [] [] Yg
theorem ZrP (f52:Znm):Yo (Zte f52) Tryd.f25 (.leaf) (Zqy (ZcY f52)):=fun _ _ _ _=>by kernel_rfl
theorem ZsG:Zx Tryd.prog 25 (Zqy Zbd):=okF (ZrP Zan) Tryd.func25 Zn (ZN _ (.cons Zrw .nil) .nil .nil .nil (ZL _))
abbrev Zqx (f:ZoZ):Zh:=⟨[.one (.P)],[.one (.B)],fun t K _ h=>f t.1 (fun r0 h=>K (r0,()) h) h⟩
abbrev Ztd:Cfg:=Ya Tryd.prog [] 15 [] [] [] Yg
theorem ZrO:Yo (Ztd) Tryd.f27 (.leaf) (Zqx ZcX):=fun _ _ _ _=>by kernel_rfl
theorem ZsF:Zx Tryd.prog 27 (Zqx Zbc):=okF (ZrO) Tryd.func27 Zn (ZN _ .nil .nil .nil .nil (ZL _))
abbrev Zqw (f:ZoY):Zh:=⟨[.one (.P)],[.one (.B)],fun t K _ h=>f t.1 (fun r0 h=>K (r0,()) h) h⟩
abbrev Ztc (f52:Znm):Cfg:=Ya Tryd.prog [(26,Zqd f52)] 16 [] [] [] Yg
theorem ZrN (f52:Znm):Yo (Ztc f52) Tryd.f28 (.leaf) (Zqw (ZcW f52)):=fun _ _ _ _=>by kernel_rfl
theorem ZsE:Zx Tryd.prog 28 (Zqw Zbb):=okF (ZrN Zan) Tryd.func28 Zn (ZN _ (.cons Zrw .nil) .nil .nil .nil (ZL _))
abbrev Zqv (f:ZoX):Zh:=⟨[.agg [.S,.L,.I .i64],.one (.L)],[.one (.I .i64)],fun t K _ h=>f t.1 t.2.1 (fun r0 h=>K (r0,()) h) h⟩
abbrev Ztb (f47:Zo5) (f48:Zo4) (f49:Zo3) (f50:Zo2) (f51:Zo1) (f53:Zo0) (f54:ZoZ) (f55:ZoY):Cfg:=Ya Tryd.prog [(44,ZqD f47),(21,ZqC f48),(22,ZqB f49),(23,ZqA f50),(24,Zqz f51),(25,Zqy f53),(27,Zqx f54),(28,Zqw f55)] 23 [] [] [] Yg [(21,[.P,.P]),(22,[.P]),(23,[.P]),(24,[.P]),(25,[.P,.P,.P]),(27,[.P]),(28,[.P])]
theorem ZrM (f47:Zo5) (f48:Zo4) (f49:Zo3) (f50:Zo2) (f51:Zo1) (f53:Zo0) (f54:ZoZ) (f55:ZoY):Yo (Ztb f47 f48 f49 f50 f51 f53 f54 f55) Tryd.f20 (.seq (.leaf) (.seq (.leaf) (.seq (.seq (.leaf) (.block (.loop [13] [.one (.I .i64)] [(4,4),(6,6),(14,22)] (.leaf)))) (.leaf)))) (Zqv (ZaR f47 f48 f49 f50 f51 f53 f54 f55)):=fun _ _ _ _=>by kernel_rfl
theorem ZsD:Zx Tryd.prog 20 (Zqv XY):=okF (ZrM Yz Zbh Zbg Zbf Zbe Zbd Zbc Zbb) Tryd.func20 Zn (ZN _ (.cons ZsL (.cons ZsK (.cons ZsJ (.cons ZsI (.cons ZsH (.cons ZsG (.cons ZsF (.cons ZsE .nil)))))))) .nil .nil .nil (ZL _))
abbrev Zqu (f:ZoW):Zh:=⟨[.agg [.S,.S,.B,.I .i64,.I .u8,.S,.I .u8,.I .i64,.I .i64,.B,.I .i64,.B]],[.one (.I .i64)],fun t K _ h=>f t.1 (fun r0 h=>K (r0,()) h) h⟩
abbrev Zta (f56:ZoX):Cfg:=Ya Tryd.prog [(20,Zqv f56)] 56 [] [] [] Yg
theorem ZrL (f56:ZoX):Yo (Zta f56) Tryd.f9 (.seq (.leaf) (.seq (.leaf) (.cut [3] [.one (.L)] [(10,22)] (.leaf) (.cut [4] [.one (.P)] [(23,30)] (.leaf) (.cut [5] [.one (.P)] [(31,38)] (.leaf) (.seq (.leaf) (.cut [] [] [(39,41)] (.leaf) (.leaf)))))))) (Zqu (Zcr f56)):=fun _ _ _ _=>by kernel_rfl
theorem ZsC:Zx Tryd.prog 9 (Zqu Zao):=okF (ZrL XY) Tryd.func9 Zn (ZN _ (.cons ZsD .nil) .nil .nil .nil (ZL _))
abbrev ZrA (f:ZrB):Zh:=⟨[.one (.S)],[.one (.B)],fun t K _ h=>f t.1 (fun r0 h=>K (r0,()) h) h⟩
abbrev Zs9 (f0:zT0) (f41:Zo9) (f43:ZkC) (f37:Zno) (f27:ZoK) (f57:ZoW):Cfg:=Ya Tryd.prog [(4,zk0 f0),(5,ZqH f41),(6,ZoT f43),(7,Zqf f37),(8,⟨[.one (.S)],[.agg [.I .u8,.S,.L,.L],.one (.I .i64),.one (.I .i64)],fun t K _ h=>f27 t.1 (fun r0 r1 r2 h=>K (r0,r1,r2,()) h) h⟩),(9,Zqu f57)] 68 [] [] [] Yg
theorem ZrK (f0:zT0) (f41:Zo9) (f43:ZkC) (f37:Zno) (f27:ZoK) (f57:ZoW):Yo (Zs9 f0 f41 f43 f37 f27 f57) Tryd.f3 (.leaf) (ZrA (Xb f0 f41 f43 f37 f27 f57)):=fun _ _ _ _=>by kernel_rfl
theorem ZbK:Zx Tryd.prog 3 (ZrA Y9):=okF (ZrK X0 Zaq Ym Xi YH Zao) Tryd.func3 Zn (ZN _ (.cons zo0 (.cons ZsP (.cons Zqr (.cons Zry (.cons Zdx (.cons ZsC .nil)))))) .nil .nil .nil (ZL _))
end
end Go.Proofs.YtgiolidekcckiaaDoor
namespace Go.Fw
open Go Go.RowKit
theorem ZlB {P:Program} {f:FuncId} {s:Zh} (ok:Zx P f s) (t:Yp s.args) (w:World) {args:Array Value} (hargs:((Yp.evs s.args t).map EV.v).toArray=args)
    (h:s.sem t (fun r h'=>Zny s.res r = .bool true∧Ext w.heap h') (fun _ _=>False) w.heap):Calls P f args w fun e w'=>e = .returned (.bool true)∧Below w.heap.size w w':=by
  rw [← hargs]
  refine (ok.calls t _ _ w h).mono ?_
  rintro e w' (⟨r,rfl,hs,hr,hx⟩ | ⟨v,rfl,hs,hk⟩)
  ·exact ⟨by rw [hr],hs.2.1,hs.1,hs.2.2,hx.size,hx.old⟩
  ·exact hk.elim
end Go.Fw
namespace Go.Fw
open Go
def obj (h:Zb) (b:Nat):Option Obj:=h[b]?
def sz (h:Zb):Nat:=h.size
theorem Zk2 {h:Zb} {x:Obj}:sz (h.push x)=sz h+1:=by unfold sz;simp
theorem Znt {h:Zb} {b o:Nat} {v:Value}:sz (h.put b o v)=sz h:=by unfold sz;exact Zen
def Zjh (o:Nat) (v:Value):Option Obj→Option Obj
  | some (.cells c e f)=>some (.cells (c.setIfInBounds o v) e f)
  | x=>x
theorem Zcm {o:Nat} {v:Value} {l:List Value} {e:TypeId} {f:Nat × Nat}:Zjh o v (some (.cells l.toArray e f))=some (.cells (l.set o v).toArray e f):=by
  simp [Zjh]
theorem ZeV {h:Zb} {b o k:Nat} {v:Value}:obj (h.put b o v) k=if k=b then Zjh o v (obj h k) else obj h k:=by
  unfold obj Zb.put
  rw [Array.getElem?_modify]
  by_cases hk:b=k
  ·subst hk
   rw [if_pos rfl,if_pos rfl]
   cases h[b]? with
   | none=>rfl
   | some x=>cases x<;>rfl
  ·rw [if_neg hk,if_neg (Ne.symm hk)]
def YY (o:Nat):Option Obj→Option Value
  | some (.cells c _ _)=>c[o]?
  | _=>none
def ZgY (o:Nat):Option Obj→Bool
  | some (.cells c _ f)=>decide (o<c.size)&&(f.1 ==0&&f.2 ==0)
  | _=>false
theorem ZgZ {o:Nat} {l:List Value} {e:TypeId} {f:Nat × Nat}:YY o (some (.cells l.toArray e f))=l[o]?:=by simp [YY]
theorem Xq {h:Zb} {b o:Nat}:h.cell b o=YY o (obj h b):=by unfold Zb.cell obj YY;rfl
theorem ZlL {h:Zb} {b o:Nat} (hf:ZgY o (obj h b)=true):(∃ u,h.cell b o=some u)∧h.froz b o=false:=by
  unfold ZgY at hf
  split at hf
  ·rename_i c e f hb
   simp only [Bool.and_eq_true,decide_eq_true_eq,beq_iff_eq] at hf
   obtain ⟨h1,h2,h3⟩:=hf
   have hb':h[b]?=some (.cells c e f):=hb
   refine ⟨⟨c[o],by unfold Zb.cell;rw [hb'];simp [h1]⟩,?_⟩
   unfold Zb.froz
   rw [hb']
   obtain ⟨lo,hi⟩:=f
   simp only at h2 h3
   subst h2 h3
   simp
  ·cases hf
theorem ZpU {h:Zb} {b o:Nat} {k:IntKind} {n:Int} {K:Int→Prop} (hc:YY o (obj h b)=some (.int k n)):ldI h b o k K=K n :=
  propext ⟨fun ⟨m,e,hk⟩=>(by rw [Xq,hc] at e;cases e;exact hk),fun hk=>⟨n,by rw [Xq,hc],hk⟩⟩
theorem ZpR {h:Zb} {b o:Nat} {n:ByteArray} {K:ByteArray→Prop} (hc:YY o (obj h b)=some (.string n)):ldS h b o K=K n :=
  propext ⟨fun ⟨m,e,hk⟩=>(by rw [Xq,hc] at e;cases e;exact hk),fun hk=>⟨n,by rw [Xq,hc],hk⟩⟩
theorem ZpS {h:Zb} {b o:Nat} {n:Option Addr} {K:Option Addr→Prop} (hc:YY o (obj h b)=some (.pointer n)):ldP h b o K=K n :=
  propext ⟨fun ⟨m,e,hk⟩=>(by rw [Xq,hc] at e;cases e;exact hk),fun hk=>⟨n,by rw [Xq,hc],hk⟩⟩
theorem ZpQ {h:Zb} {b o:Nat} {n:Value} {K:Value→Prop} (hc:YY o (obj h b)=some n):ldV h b o K=K n :=
  propext ⟨fun ⟨m,e,hk⟩=>(by rw [Xq,hc] at e;cases e;exact hk),fun hk=>⟨n,by rw [Xq,hc],hk⟩⟩
theorem ZpT {h:Zb} {b o:Nat} {p:Option Addr} {l c:Nat} {K:Sl→Prop} (hc:YY o (obj h b)=some (.slice p l c)):ldL h b o K=K ⟨p,l,c⟩ :=
  propext ⟨fun ⟨m,e,hk⟩=>(by rw [Xq,hc] at e;cases e;exact hk),fun hk=>⟨⟨p,l,c⟩,by rw [Xq,hc],hk⟩⟩
theorem Zju {h:Zb} {b:Nat}:∀ (n o:Nat),(∀ i,i<n→ZgY (o+i) (obj h b)=true)→h.free b o n
  | 0,_,_=>trivial
  | n+1,o,hf=>⟨ZlL (by have:=hf 0 (by omega);simpa using this),Zju n (o+1) fun i hi=>by have:=hf (i+1) (by omega);rw [show o+1+i=o+(i+1) from by omega];exact this⟩
def ZlM (o n:Nat):Option Obj→Bool
  | some (.cells c _ f)=>decide (o+n≤c.size)&&(f.1 ==0&&f.2 ==0)
  | _=>false
theorem ZaT {o n:Nat} {l:List Value} {e:TypeId}:ZlM o n (some (.cells l.toArray e (0,0)))=decide (o+n≤l.length):=by simp [ZlM]
theorem ZmZ {h:Zb} {b o n:Nat} (hf:ZlM o n (obj h b)=true):h.free b o n:=by
  refine Zju n o fun i hi=>?_
  unfold ZlM at hf
  split at hf
  ·rename_i c e f hb
   rw [hb]
   simp only [Bool.and_eq_true,decide_eq_true_eq] at hf
   simp only [ZgY,Bool.and_eq_true,decide_eq_true_eq]
   exact ⟨by omega,hf.2⟩
  ·cases hf
theorem ZhB {h:Zb} {b o:Nat} {vs:List Value} {K:Zb→Prop} (hf:ZlM o vs.length (obj h b)=true) (hv:vs.all ZW=true):sts h b o vs K=K (h.puts b o vs) :=
  propext ⟨fun hk=>hk.2.2,fun hk=>⟨ZmZ hf,hv,hk⟩⟩
theorem Zce {h:Zb} {b o:Nat} {vs:List Value}:sz (h.puts b o vs)=sz h:=Zdt
def ZeW:Nat→List Value→Option Obj→Option Obj
  | _,[],x=>x
  | o,v::vs,x=>ZeW (o+1) vs (Zjh o v x)
def YN:Nat→List Value→List Value→List Value
  | _,[],l=>l
  | o,v::vs,l=>YN (o+1) vs (l.set o v)
theorem YX {e:TypeId} {f:Nat × Nat}:∀ {vs:List Value} {o:Nat} {l:List Value},ZeW o vs (some (.cells l.toArray e f))=some (.cells (YN o vs l).toArray e f)
  | [],_,_=>rfl
  | v::vs,o,l=>by unfold ZeW YN;rw [Zcm,YX]
theorem XX {b:Nat}:∀ {vs:List Value} {h:Zb} {o k:Nat},obj (h.puts b o vs) k=if k=b then ZeW o vs (obj h k) else obj h k
  | [],h,o,k=>by
    unfold Zb.puts ZeW
    split<;>rfl
  | v::vs,h,o,k=>by
    unfold Zb.puts
    rw [XX,ZeV]
    by_cases hk:k=b
    ·rw [if_pos hk,if_pos hk,if_pos hk];rfl
    ·rw [if_neg hk,if_neg hk,if_neg hk]
theorem Zg5 {b o l size:Nat} {i:Int} {n:Nat} {K:Nat→Nat→Prop} (hi:i=(n:Int)) (hl:n<l) (hk:K b (o+n*size)):Zh0 (some ⟨b,o,none⟩) l i size K:=by
  subst hi
  exact ⟨b,o,rfl,by omega,by omega,by simpa using hk⟩
theorem ZpA {s t:Sl}:(slV s=slV t)=(s=t):=by
  refine propext ⟨fun h=>?_,fun h=>by rw [h]⟩
  cases s;cases t
  unfold slV at h
  injection h with h1 h2 h3
  subst h1 h2 h3
  rfl
theorem Zba {k:IntKind} {n:Int}:ZW (.int k n)=true:=by simp [ZW]
theorem ZhO {b:Option Addr} {l c:Nat}:ZW (.slice b l c)=true:=by simp [ZW]
theorem YU {h h':Zb} (e:Ext h h') {b:Nat} (hb:b<sz h):obj h' b=obj h b:=e.old b hb
theorem Yq {S:Nat→Prop} {h h':Zb} (e:Upd S h h') {b:Nat} (hb:b<sz h) (hs:¬ S b):obj h' b=obj h b:=e.old b hb hs
theorem Zmx {S:Nat→Prop} {h h1:Zb} {b o:Nat} {vs:List Value} (he:Upd S h h1) (hb:sz h≤b∨S b):Upd S h (h1.puts b o vs) :=
  ⟨by rw [Zdt];exact he.size,fun k hk hs=>(ZdS fun e=>by subst e;exact hb.elim (fun h9=>by unfold sz at h9;omega) hs).trans (he.old k hk hs)⟩
theorem Zav {h:Zb} {b:Nat} {x:Obj} (hb:obj h b=some x):b<sz h:=by
  unfold obj at hb
  rcases Nat.lt_or_ge b h.size with hl | hl
  ·exact hl
  ·rw [Array.getElem?_eq_none hl] at hb;cases hb
theorem Yn {h h':Zb} {b:Nat} {x:Obj} (hb:obj h b=some x) (e:Ext h h'):obj h' b=some x:=(YU e (Zav hb)).trans hb
theorem Yj {S:Nat→Prop} {h h':Zb} {b:Nat} {x:Obj} (hb:obj h b=some x) (e:Upd S h h') (hs:¬ S b):obj h' b=some x:=(Yq e (Zav hb) hs).trans hb
theorem Ext.updS {h h1 h2:Zb} {S:Nat→Prop} (e:Ext h h1) (u:Upd S h1 h2) (hs:∀ k,S k→sz h≤k):Ext h h2:=e.then u fun k hk=>hs k hk
end Go.Fw
namespace Go.Js
open Go
abbrev BL:=List UInt8
inductive JL where
  | nil
  | cons (k:Nat) (t:BL) (ns:List BL) (sub rest:JL)
deriving DecidableEq
structure JV where
  k:Nat
  t:BL
  ns:List BL
  sub:JL
deriving DecidableEq
namespace JL
def len:JL→Nat
  | nil=>0
  | cons _ _ _ _ r=>r.len+1
def snoc (v:JV):JL→JL
  | nil=>cons v.k v.t v.ns v.sub nil
  | cons k t ns s r=>cons k t ns s (r.snoc v)
def isNil:JL→Bool
  | nil=>true
  | _=>false
theorem len_snoc (v:JV):∀ l:JL,(l.snoc v).len=l.len+1
  | nil=>rfl
  | cons _ _ _ _ r=>by simp [snoc,len,len_snoc v r]
theorem Zol {l:JL}:l.len=0↔l=nil:=by cases l<;>simp [len]
end JL
inductive Out (α:Type) where
  | ok (a:α) (r:BL)
  | err (e:Nat) (r:BL)
def Out.bind {α β:Type}:Out α→(α→BL→Out β)→Out β
  | .ok a r,f=>f a r
  | .err e r,_=> .err e r
@[simp] theorem Out.bind_ok {α β:Type} (a:α) (r:BL) (f:α→BL→Out β):(Out.ok a r).bind f=f a r:=rfl
@[simp] theorem Out.bind_err {α β:Type} (e:Nat) (r:BL) (f:α→BL→Out β):(Out.err e r:Out α).bind f = .err e r:=rfl
def YK {α:Type} (e:Nat):BL→Out α
  | []=> .err 24 []
  | c::l=> .err e (c::l)
def Z4 (c:UInt8):Bool:=c ==32||c ==9||c ==10||c ==13
def XS (c:UInt8):Bool:=decide (48≤c.toNat)&&decide (c.toNat≤57)
def Yk (l:BL):BL:=l.dropWhile Z4
def ZaW:BL→BL→Out Unit
  | [],l=> .ok () l
  | c::w,d::l=>if d=c then ZaW w l else .err 20 (d::l)
  | _::_,[]=> .err 24 []
def Z8:BL→Out Unit
  | c::l=>if XS c then .ok () (l.dropWhile XS) else .err 21 (c::l)
  | []=> .err 24 []
def Zam:BL→BL
  | c::l=>if c=45 then l else c::l
  | []=>[]
def Zeb:BL→BL
  | c::l=>if c=43∨c=45 then l else c::l
  | []=>[]
def XE:BL→Out Unit
  | c::l=>if XS c then .err 21 (c::l) else .ok () (c::l)
  | []=> .ok () []
def Ze5:BL→Out Unit
  | c::l=>if c=48 then XE l else Z8 (c::l)
  | []=> .err 24 []
def Zde:BL→Out Unit
  | c::l=>if c=46 then Z8 l else .ok () (c::l)
  | []=> .ok () []
def Zfu:BL→Out Unit
  | c::l=>if c=101∨c=69 then Z8 (Zeb l) else .ok () (c::l)
  | []=> .ok () []
def ZcT (l:BL):Out Unit:=(Ze5 (Zam l)).bind fun _ l1=>(Zde l1).bind fun _ l2=>Zfu l2
def upto (l r:BL):BL:=l.take (l.length - r.length)
def Zeg (c:UInt8):Option Nat :=
  if 48≤c.toNat∧c.toNat≤57 then some (c.toNat - 48)
  else if 97≤c.toNat∧c.toNat≤102 then some (c.toNat - 87)
  else if 65≤c.toNat∧c.toNat≤70 then some (c.toNat - 55)
  else none
def ZcO:Nat→Nat→BL→Out Nat
  | 0,n,l=> .ok n l
  | _+1,_,[]=> .err 24 []
  | k+1,n,c::l=>match Zeg c with
    | some d=>ZcO k (n*16+d) l
    | none=> .err 22 (c::l)
def ZbF (n:Nat):BL :=
  if n<128 then [UInt8.ofNat n]
  else if n<2048 then [UInt8.ofNat (192+n / 64),UInt8.ofNat (128+n % 64)]
  else if n<65536 then [UInt8.ofNat (224+n / 4096),UInt8.ofNat (128+n / 64 % 64),UInt8.ofNat (128+n % 64)]
  else [UInt8.ofNat (240+n / 262144),UInt8.ofNat (128+n / 4096 % 64),UInt8.ofNat (128+n / 64 % 64),UInt8.ofNat (128+n % 64)]
def Zei (n:Nat):Nat:=if 55296≤n∧n<57344 then 65533 else n
def Zay (c:UInt8):Option UInt8 :=
  if c=34 then some 34 else if c=92 then some 92 else if c=47 then some 47 else if c=98 then some 8 else if c=102 then some 12 else if c=110 then some 10 else if c=114 then some 13 else if c=116 then some 9 else none
def XM:BL→Option BL
  | a::b::l=>if a=92∧b=117 then some l else none
  | _=>none
def Zqh (l:BL):Out BL:=(ZcO 4 0 l).bind fun n l1 =>
  match (if 55296≤n∧n<56320 then XM l1 else none) with
  | some l2=>(ZcO 4 0 l2).bind fun m l3=>if 56320≤m∧m<57344 then .ok (ZbF (65536+(n - 55296)*1024+(m - 56320))) l3 else .ok (ZbF (Zei n)) l1
  | none=> .ok (ZbF (Zei n)) l1
def ZjB:BL→Out BL
  | []=> .err 24 []
  | c::l=>match Zay c with
    | some m=> .ok [m] l
    | none=>if c=117 then Zqh l else .err 22 (c::l)
def Zi7 (c:Nat):Nat × Nat × Nat :=
  if c<128 then (1,0,0)
  else if 194≤c∧c≤223 then (2,128,191)
  else if c=224 then (3,160,191)
  else if c=237 then (3,128,159)
  else if 225≤c∧c≤239 then (3,128,191)
  else if c=240 then (4,144,191)
  else if 241≤c∧c≤243 then (4,128,191)
  else if c=244 then (4,128,143)
  else (0,0,0)
def Zas:Nat→Nat→Nat→BL→Out Unit
  | 0,_,_,l=> .ok () l
  | _+1,_,_,[]=> .err 24 []
  | n+1,lo,hi,d::l=>if lo≤d.toNat∧d.toNat≤hi then Zas n 128 191 l else .err 22 (d::l)
def Xe:BL→Out Unit
  | []=> .err 24 []
  | c::l=>if (Zi7 c.toNat).1=0 then .err 22 (c::l) else Zas ((Zi7 c.toNat).1 - 1) (Zi7 c.toNat).2.1 (Zi7 c.toNat).2.2 l
def Zdo:Nat→BL→BL→Out BL
  | 0,_,_=> .err 24 []
  | _+1,_,[]=> .err 24 []
  | n+1,out,c::l =>
    if c.toNat<32 then .err 22 (c::l)
    else if c=34 then .ok out l
    else if c=92 then (ZjB l).bind fun o l2=>Zdo n (out++o) l2
    else if c.toNat<128 then Zdo n (out++[c]) l
    else (Xe (c::l)).bind fun _ l2=>Zdo n (out++upto (c::l) l2) l2
def Zfx (l:BL):Out BL:=Zdo (l.length+1) [] l
def Zcn (l:BL):Out BL :=
  match Yk l with
  | c::l1=>if c=34 then (Zfx l1).bind fun nm l2=>match Yk l2 with
     | d::l3=>if d=58 then .ok nm l3 else .err 20 (d::l3)
     | []=> .err 24 []
    else .err 20 (c::l1)
  | []=> .err 24 []
def Xg (pv:BL→Out JV) (ob:Bool) (ns:List BL) (sub:JL) (l:BL):Out (List BL × JL) :=
  if ob then (Zcn l).bind fun nm l3=>(pv l3).bind fun v l4=> .ok (ns++[nm],sub.snoc v) (Yk l4)
  else (pv (Yk l)).bind fun v l4=> .ok (ns,sub.snoc v) (Yk l4)
def ZbX (ob:Bool):UInt8:=if ob then 125 else 93
def Zb8 (c:UInt8):BL→Bool
  | d::_=>d ==c
  | []=>false
def Zbu (pv:BL→Out JV) (ob:Bool):Nat→List BL→JL→BL→Out (List BL × JL)
  | 0,_,_,_=> .err 24 []
  | m+1,ns,sub,l =>
    if Zb8 (ZbX ob) l then .ok (ns,sub) l.tail
    else if sub.isNil then (Xg pv ob ns sub l).bind fun p l2=>Zbu pv ob m p.1 p.2 l2
    else if Zb8 44 l then (Xg pv ob ns sub l.tail).bind fun p l2=>Zbu pv ob m p.1 p.2 l2
    else YK 20 l
def Zb4 (op:Bool→BL→Out JV) (l:BL):Out JV :=
  match Yk l with
  | []=> .err 24 []
  | c::l1 =>
    if c=123 then op true (c::l1)
    else if c=91 then op false (c::l1)
    else if c=34 then (Zfx l1).bind fun t r=> .ok ⟨5,t,[],.nil⟩ r
    else if c=110 then (ZaW [110,117,108,108] (c::l1)).bind fun _ r=> .ok ⟨1,[],[],.nil⟩ r
    else if c=102 then (ZaW [102,97,108,115,101] (c::l1)).bind fun _ r=> .ok ⟨2,[],[],.nil⟩ r
    else if c=116 then (ZaW [116,114,117,101] (c::l1)).bind fun _ r=> .ok ⟨3,[],[],.nil⟩ r
    else if c=45∨XS c then (ZcT (c::l1)).bind fun _ r=> .ok ⟨4,upto (c::l1) r,[],.nil⟩ r
    else .err 20 (c::l1)
def ZhN (pv:BL→Out JV) (ob:Bool) (l:BL):Out JV :=
  (Zbu pv ob (l.length+1) [] .nil (Yk l.tail)).bind fun p r=> .ok ⟨if ob then 7 else 6,[],p.1,p.2⟩ r
def ZR:Nat→BL→Out JV
  | 0=>Zb4 fun _ l=>YK 23 l
  | n+1=>Zb4 (ZhN (ZR n))
inductive Got where
  | ok (v:JV)
  | err (e:Nat) (at_:Nat)
def Zbr (l:BL):Got :=
  if 65536<l.length then .err 5 65536
  else match ZR 64 l with
    | .err e r=> .err e (l.length - r.length)
    | .ok v r=>match Yk r with
      | []=> .ok v
      | c::r'=> .err 25 (l.length - (c::r').length)
theorem YW {c:UInt8} {l r:BL} (h:r <:+l):r <:+c::l:=h.trans (List.suffix_cons _ _)
theorem ZhD (l:BL):Yk l <:+l:=List.dropWhile_suffix _
theorem Zdh {l r:BL} (h:Z8 l = .ok () r):r <:+l:=by
  rcases l with _ | ⟨c,l⟩
  ·cases h
  ·dsimp only [Z8] at h
   split at h
   ·cases h;exact YW (List.dropWhile_suffix _)
   ·cases h
theorem Zki (l:BL):Zam l <:+l:=by
  rcases l with _ | ⟨c,l⟩
  ·exact List.suffix_refl _
  ·dsimp only [Zam]
   split
   ·exact List.suffix_cons _ _
   ·exact List.suffix_refl _
theorem Zk5 (l:BL):Zeb l <:+l:=by
  rcases l with _ | ⟨c,l⟩
  ·exact List.suffix_refl _
  ·dsimp only [Zeb]
   split
   ·exact List.suffix_cons _ _
   ·exact List.suffix_refl _
theorem ZmX {l r:BL} (h:Ze5 l = .ok () r):r <:+l:=by
  rcases l with _ | ⟨c,l⟩
  ·cases h
  ·dsimp only [Ze5] at h
   split at h
   ·rcases l with _ | ⟨d,l⟩
    ·cases h;exact List.suffix_cons _ _
    ·dsimp only [XE] at h
     split at h
     ·cases h
     ·cases h;exact List.suffix_cons _ _
   ·exact Zdh h
theorem ZlN {l r:BL} (h:Zde l = .ok () r):r <:+l:=by
  rcases l with _ | ⟨c,l⟩
  ·cases h;exact List.suffix_refl _
  ·dsimp only [Zde] at h
   split at h
   ·exact YW (Zdh h)
   ·cases h;exact List.suffix_refl _
theorem Zm6 {l r:BL} (h:Zfu l = .ok () r):r <:+l:=by
  rcases l with _ | ⟨c,l⟩
  ·cases h;exact List.suffix_refl _
  ·dsimp only [Zfu] at h
   split at h
   ·exact YW ((Zdh h).trans (Zk5 _))
   ·cases h;exact List.suffix_refl _
theorem ZO {α β:Type} {x:Out α} {f:α→BL→Out β} {b:β} {r:BL} (h:x.bind f = .ok b r):∃ a l,x = .ok a l∧f a l = .ok b r:=by
  cases x with
  | ok a l=>exact ⟨a,l,rfl,h⟩
  | err e l=>cases h
theorem Zg0 {l r:BL} (h:ZcT l = .ok () r):∃ l1 l2,Ze5 (Zam l) = .ok () l1∧Zde l1 = .ok () l2∧Zfu l2 = .ok () r:=by
  obtain ⟨_,l1,h1,h⟩:=ZO h
  obtain ⟨_,l2,h2,h⟩:=ZO h
  exact ⟨l1,l2,h1,h2,h⟩
theorem ZmS {l r:BL} (h:ZcT l = .ok () r):r <:+l:=by
  obtain ⟨l1,l2,h1,h2,h3⟩:=Zg0 h
  exact (Zm6 h3).trans ((ZlN h2).trans ((ZmX h1).trans (Zki l)))
end Go.Js
namespace Go.Proofs.YtgiolidekcckiaaDoor
open Go Go.Fw Go.Js
theorem ZbA {h:Zb} {cells:List Value} {t:TypeId} {K:Nat→Zb→Prop} (hk:∀ h1,h1[h.size]?=some (.cells cells.toArray t (0,0))→Ext h h1→h1.size=h.size+1→K h.size h1):newC h cells t K :=
  Zkf (hk _ Zdu (Ext.push _ _) (by simp))
theorem ZG {b o:Nat} {K:Nat→Nat→Prop} (hk:K b o):Zd (some ⟨b,o,none⟩) K:=⟨b,o,rfl,hk⟩
theorem Zm {h:Zb} {b o:Nat} {l:List Value} {e:TypeId} {f:Nat × Nat} {v:Value} (hb:obj h b=some (.cells l.toArray e f)) (hv:l[o]?=some v):YY o (obj h b)=some v:=by rw [hb,ZgZ];exact hv
theorem rI {h:Zb} {b o:Nat} {k:IntKind} {n:Int} {K:Int→Prop} (hc:YY o (obj h b)=some (.int k n)) (hk:K n):ldI h b o k K:=by rw [ZpU hc];exact hk
theorem rS {h:Zb} {b o:Nat} {n:ByteArray} {K:ByteArray→Prop} (hc:YY o (obj h b)=some (.string n)) (hk:K n):ldS h b o K:=by rw [ZpR hc];exact hk
theorem rP {h:Zb} {b o:Nat} {n:Option Addr} {K:Option Addr→Prop} (hc:YY o (obj h b)=some (.pointer n)) (hk:K n):ldP h b o K:=by rw [ZpS hc];exact hk
theorem rL {h:Zb} {b o:Nat} {s:Sl} {K:Sl→Prop} (hc:YY o (obj h b)=some (slV s)) (hk:K s):ldL h b o K:=by cases s;exact (ZpT hc).mpr hk
theorem Zhs {h:Zb} {b o:Nat} {v:Value} {K:Zb→Prop} {l:List Value} {e:TypeId} (hb:obj h b=some (.cells l.toArray e (0,0))) (ho:o<l.length) (hv:ZW v=true)
    (hk:∀ h',obj h' b=some (.cells (l.set o v).toArray e (0,0))→Upd (· = b) h h'→sz h'=sz h→K h'):st h b o v K:=by
  refine ⟨⟨l[o],by rw [Zd2 hb];simp [ho]⟩,?_,hv,?_⟩
  ·unfold Zb.froz;rw [show h[b]?=obj h b from rfl,hb];simp
  ·refine hk _ ?_ (Upd.put h b o v) Zen
   have:=ZhL (v:=v) (o:=o) hb
   rw [show obj (h.put b o v) b=(h.put b o v)[b]? from rfl,this]
   simp
structure Zd4 (s:ByteArray) (n:Nat) (l:BL):Prop where
  drop:s.data.toList.drop n=l
  len:n+l.length=s.size
theorem Zd4.head {s:ByteArray} {n:Nat} {c:UInt8} {l:BL} (h:Zd4 s n (c::l)):s[n]?=some c:=by
  have h1:s.data.toList[n]?=some c:=by
    have:=congrArg (fun x=>x[0]?) h.drop
    simp only [List.getElem?_drop] at this
    simpa using this
  have hn:n<s.size:=by have:=h.len;simp at this;omega
  rw [Array.getElem?_toList] at h1
  rw [getElem?_pos s n hn]
  rw [getElem?_pos s.data n hn] at h1
  exact h1
theorem Zd4.tail {s:ByteArray} {n:Nat} {c:UInt8} {l:BL} (h:Zd4 s n (c::l)):Zd4 s (n+1) l:=by
  refine ⟨?_,by have:=h.len;simp at this;omega⟩
  rw [show s.data.toList.drop (n+1)=(s.data.toList.drop n).drop 1 by rw [List.drop_drop],h.drop]
  rfl
theorem Zd4.dropK {s:ByteArray} {n:Nat} {l:BL} (h:Zd4 s n l) {k:Nat} (hk:k≤l.length):Zd4 s (n+k) (l.drop k):=by
  refine ⟨?_,by have:=h.len;simp;omega⟩
  rw [← h.drop,List.drop_drop]
theorem Zd4.start (s:ByteArray):Zd4 s 0 s.data.toList:=⟨rfl,by simp⟩
theorem Zd4.extract {s:ByteArray} {n m:Nat} {l r:BL} (h:Zd4 s n l) (h':Zd4 s m r) (hnm:n≤m):s.extract n m=Zg (upto l r):=by
  have e:m - n=l.length - r.length:=by have:=h.len;have:=h'.len;omega
  have hm:m≤s.size:=by have:=h'.len;omega
  unfold upto
  rw [← e,← h.drop]
  have:(s.extract n m).data.toList=(s.data.toList.drop n).take (m - n):=by
    simp [ByteArray.data_extract]
  rcases hx:s.extract n m with ⟨⟨x⟩⟩
  rw [hx] at this
  simp only at this
  rw [this]
def Rd (h:Zb) (R:Nat) (s:ByteArray) (l:BL):Prop:=s.size≤65536∧∃ n:Nat,obj h R=some (.cells [.string s,.int .i64 n].toArray 58 (0,0))∧Zd4 s n l
abbrev At (R:Nat):Option Addr:=some ⟨R,0,none⟩
def Za1 (e:Nat) (n:Nat):Value:= .iface 55 (.agg #[.int .i64 e,.int .i64 n])
theorem Rd.congr {h h':Zb} {R:Nat} {s:ByteArray} {l:BL} (hr:Rd h R s l) (e:obj h' R=obj h R):Rd h' R s l:=by
  obtain ⟨a,n,b,c⟩:=hr
  exact ⟨a,n,e.trans b,c⟩
theorem Rd.lt {h:Zb} {R:Nat} {s:ByteArray} {l:BL} (hr:Rd h R s l):R<sz h:=by
  obtain ⟨_,n,b,_⟩:=hr
  exact Zav b
theorem Rd.upd {S:Nat→Prop} {h h':Zb} {R:Nat} {s:ByteArray} {l:BL} (hr:Rd h R s l) (u:Upd S h h') (hs:¬ S R):Rd h' R s l:=hr.congr (Yq u hr.lt hs)
theorem Rd.ext {h h':Zb} {R:Nat} {s:ByteArray} {l:BL} (hr:Rd h R s l) (u:Ext h h'):Rd h' R s l:=hr.congr (YU u hr.lt)
theorem Rd.len {h:Zb} {R:Nat} {s:ByteArray} {l:BL} (hr:Rd h R s l):l.length≤s.size∧s.size≤65536:=by
  obtain ⟨a,n,b,c⟩:=hr
  have:=c.len
  omega
theorem ZcN {h:Zb} {R:Nat} {s:ByteArray} {l:BL} (hr:Rd h R s l) {K:Int→Prop} (hk:∀ n:Nat,Zd4 s n l→K n):Zd (At R) fun b o=>ldI h b (o+1) .i64 K:=by
  obtain ⟨_,n,hb,hn⟩:=hr
  exact ZG (rI (Zm hb rfl) (hk n hn))
theorem Zjc {h:Zb} {R:Nat} {s:ByteArray} {l:BL} (hr:Rd h R s l) {K:ByteArray→Prop} (hk:K s):Zd (At R) fun b o=>ldS h b o K:=by
  obtain ⟨_,n,hb,hn⟩:=hr
  exact ZG (rS (Zm hb rfl) hk)
theorem Zjd {h:Zb} {R:Nat} {s:ByteArray} {l l':BL} (hr:Rd h R s l) {m:Int} {n:Nat} (hm:m=n) (hn:Zd4 s n l') {K:HP} (hk:∀ h',Rd h' R s l'→Upd (· = R) h h'→sz h'=sz h→K h'):Zd (At R) fun b o=>st h b (o+1) (.int .i64 m) K:=by
  obtain ⟨hs,n0,hb,hn0⟩:=hr
  refine ZG (Zhs hb (by simp) Zba fun h' c u z=>hk h' ⟨hs,n,?_,hn⟩ u z)
  rw [c,hm];rfl
theorem XP {h:Zb} {R:Nat} {s:ByteArray} {c:UInt8} {l:BL} (hr:Rd h R s (c::l)) {K:HP} (hk:∀ h',Rd h' R s l→Upd (· = R) h h'→sz h'=sz h→K h') :
    Zd (At R) fun b o=>ldI h b (o+1) .i64 fun t=>Zd (At R) fun b o=>st h b (o+1) (.int .i64 (IntKind.wrap .i64 (t+1))) K:=by
  refine ZcN hr fun n hn=>?_
  have:=hn.len
  have:=hr.len
  refine Zjd hr (n:=n+1) ?_ hn.tail hk
  rw [Y5 (by omega) (by omega)];rfl
theorem Zn8 {h:Zb} {R:Nat} {s:ByteArray} {l:BL} (hr:Rd h R s l) {k:Int} {m:Nat} (hk:k=m) (hm:m≤l.length) {K:HP} (hK:∀ h',Rd h' R s (l.drop m)→Upd (· = R) h h'→sz h'=sz h→K h') :
    Zd (At R) fun b o=>ldI h b (o+1) .i64 fun t=>Zd (At R) fun b o=>st h b (o+1) (.int .i64 (IntKind.wrap .i64 (t+k))) K:=by
  refine ZcN hr fun n hn=>?_
  have:=hn.len
  have:=hr.len
  refine Zjd hr (n:=n+m) ?_ (hn.dropK hm) hK
  rw [Y5 (by omega) (by omega),hk];rfl
theorem Ziu {h:Zb} {R:Nat} {s:ByteArray} {l:BL} (hr:Rd h R s l) {A B:Prop} (ha:l≠[]→A) (hb:l=[]→B) :
    Zd (At R) fun b o=>ldI h b (o+1) .i64 fun t=>Zd (At R) fun b o=>ldS h b o fun t5=>ZE (decide (t<(t5.size:Int))) A B:=by
  refine ZcN hr fun n hn=>Zjc hr (Zp (fun e=>ha ?_) fun e=>hb ?_)
  ·have:=hn.len
   intro e;subst e;simp at this;omega
  ·have:=hn.len
   exact List.eq_nil_of_length_eq_zero (by omega)
theorem ZgT {h:Zb} {R:Nat} {s:ByteArray} {l:BL} (hr:Rd h R s l) {A B:Prop} (ha:l=[]→A) (hb:l≠[]→B) :
    Zd (At R) fun b o=>ldI h b (o+1) .i64 fun t=>Zd (At R) fun b o=>ldS h b o fun t5=>ZE (decide (t≥(t5.size:Int))) A B:=by
  refine ZcN hr fun n hn=>Zjc hr (Zp (fun e=>ha ?_) fun e=>hb ?_)
  ·have:=hn.len
   exact List.eq_nil_of_length_eq_zero (by omega)
  ·have:=hn.len
   intro e;subst e;simp at this;omega
def Xa:BL→Int
  | c::_=>c.toNat
  | []=>0
theorem Yr {h:Zb} {R:Nat} {s:ByteArray} {l:BL} (hr:Rd h R s l) {K:Int→HP} (hk:K (Xa l) h):Zi (At R) K h:=by
  unfold Zi X6
  refine Zc (Ziu hr (fun hne=>?_) fun he=>Zc ?_)
  ·obtain ⟨c,l',rfl⟩:=List.exists_cons_of_ne_nil hne
   refine Zjc hr (ZcN hr fun n hn=>⟨c,by omega,by rw [Int.toNat_natCast];exact hn.head,Zc hk⟩)
  ·subst he;exact hk
theorem ZpN {h:Zb} {R:Nat} {s:ByteArray} {l:BL} (hr:Rd h R s l) {K:Int × Unit→Prop} (hk:K (Xa l,())):Zj6 (ρ:=Int × Unit) (fun K h=>Zi (At R) (fun q h=>K (q,()) h) h) h K :=
  ⟨(Xa l,()),Yr hr ⟨rfl,rfl⟩,hk⟩
def OnE {α:Type} (h:Zb) (R:Nat) (s:ByteArray) (S:Nat→Prop) (res:Out α) (P:Value→HP):Prop:=∀ e r h',res = .err e r→Upd S h h'→P (Za1 e (s.size - r.length)) h'
def left (h:Zb) (R:Nat):Nat:=match obj h R with
  | some (.cells c _ _)=>(match c.toList with
    | [.string s,.int _ n]=>s.size - n.toNat
    | _=>0)
  | _=>0
theorem Rd.left {h:Zb} {R:Nat} {s:ByteArray} {l:BL} (hr:Rd h R s l):left h R=l.length:=by
  obtain ⟨_,n,b,g⟩:=hr
  unfold Go.Proofs.YtgiolidekcckiaaDoor.left
  rw [b]
  have:=g.len
  simp
  omega
theorem ZlS {α:Type} {h:Zb} {R:Nat} {s:ByteArray} {l:BL} (hr:Rd h R s l) {e:Nat} {n:Int} (hn:n=((s.size - l.length:Nat):Int)) {K:HP} {P:Value→HP} (hp:∀ e' r,(YK e l:Out α) = .err e' r→r=l→P (Za1 e' (s.size - r.length)) h):Ze (At R) (e:Int) n K P h:=by
  unfold Ze YJ
  have hl:=hr.len
  refine Zjc hr (Zp (fun hd=>?_) fun hd=>?_)
  ·have:l=[]:=by
     refine List.eq_nil_of_length_eq_zero ?_
     omega
   subst this
   have:=hp 24 [] rfl rfl
   exact Zjc hr this
  ·have hne:l≠[]:=by intro e;subst e;simp at hn;omega
   obtain ⟨c,l',rfl⟩:=List.exists_cons_of_ne_nil hne
   have:=hp e (c::l') rfl rfl
   subst hn
   exact this
theorem Y4 {α:Type} {h:Zb} {R:Nat} {s:ByteArray} {l:BL} (hr:Rd h R s l) {e:Nat} {K:HP} {P:Value→HP} {e0:Int} (he:e0=e) (hp:∀ e' r,(YK e l:Out α) = .err e' r→r=l→P (Za1 e' (s.size - r.length)) h) :
    Zd (At R) fun b o=>ldI h b (o+1) .i64 fun t=>Ze (At R) e0 t K P h:=by
  subst he
  refine ZcN hr fun n hn=>ZlS (α:=α) hr ?_ hp
  have:=hn.len
  congr 1;omega
theorem Ze6 {s:ByteArray} {c:Int} {K:Int→HP} {h:Zb} (hk:K (Lib.indexByte s.data.toList c.toNat.toUInt8) h):ZY s c K h:=hk
theorem ZoR {p:UInt8→Prop} (h:∀ f:Fin 256,p ⟨⟨f⟩⟩):∀ c,p c:=fun ⟨⟨f⟩⟩=>h f
theorem ZjJ (c:UInt8):(Lib.indexByte [32,9,10,13] c≥0)↔Z4 c=true:=by
  revert c
  exact ZoR (by decide +kernel)
theorem Zag {h:Zb} {R:Nat} {s:ByteArray} {l:BL} (hr:Rd h R s l) {K:HP} (hk:∀ h',Rd h' R s (Yk l)→Upd (· = R) h h'→sz h'=sz h→K h'):Zv (At R) K h:=by
  unfold Zv Xw
  refine Z2 (fun _ h'=>∃ l',Rd h' R s l'∧Yk l'=Yk l∧Upd (· = R) h h'∧sz h'=sz h) (fun _ h'=>left h' R) ⟨l,hr,rfl,Upd.refl _ _,rfl⟩ ?_
  rintro ⟨⟩ h1 ⟨l1,r1,e1,u1,z1⟩
  dsimp only
  refine Ziu r1 (fun hne=>?_) fun he=>?_
  ·obtain ⟨c,l',rfl⟩:=List.exists_cons_of_ne_nil hne
   refine Zjc r1 (ZcN r1 fun n hn=>⟨c,by omega,by rw [Int.toNat_natCast];exact hn.head,?_⟩)
   refine ⟨(Lib.indexByte [32,9,10,13] c,()),⟨by simp,rfl⟩,Zp (fun hb=>?_) fun hb=>?_⟩
   ·refine XP r1 fun h2 r2 u2 z2=>⟨⟨l',r2,?_,u1.trans u2,z2.trans z1⟩,?_⟩
    ·rw [← e1]
     unfold Yk
     rw [List.dropWhile_cons_of_pos ((ZjJ c).1 hb)]
    ·rw [r1.left,r2.left];simp
   ·refine hk h1 ?_ u1 z1
    have:Z4 c=false:=by
      cases hc:Z4 c
      ·rfl
      ·exact absurd ((ZjJ c).2 hc) hb
    rw [← e1]
    unfold Yk
    rw [List.dropWhile_cons_of_neg (by simp [this])]
    exact r1
  ·subst he
   refine hk h1 ?_ u1 z1
   rw [← e1]
   exact r1
theorem ZeD {h:Zb} {b:Nat} {l:List Value} (hb:obj h b=some (.cells l.toArray 26 (0,0))) (hl:l.length=4) {k:Int} {t:ByteArray} {x y:Sl} {K:(Int × ByteArray × Sl × Sl × Unit)→HP}
    (hk:∀ h',Upd (· = b) h h'→sz h'=sz h→K (k,t,x,y,()) h') :
    sts h b 0 [.int .u8 k,.string t,.slice x.ptr x.len x.cap,.slice y.ptr y.len y.cap] fun h83 =>
      ldI h83 b 0 .u8 fun t84=>ldS h83 b (0+1) fun t85=>ldL h83 b (0+2) fun t86=>ldL h83 b (0+3) fun t87=>K (t84,t85,t86,t87,()) h83:=by
  obtain ⟨a0,a1,a2,a3,rfl⟩:∃ a0 a1 a2 a3,l=[a0,a1,a2,a3]:=by
    rcases l with _ | ⟨a0,_ | ⟨a1,_ | ⟨a2,_ | ⟨a3,_ | ⟨a4,l⟩⟩⟩⟩⟩<;>simp at hl
    exact ⟨a0,a1,a2,a3,rfl⟩
  rw [ZhB (by rw [hb,ZaT];rfl) (by rfl)]
  have hc:obj (h.puts b 0 [.int .u8 k,.string t,.slice x.ptr x.len x.cap,.slice y.ptr y.len y.cap]) b=some (.cells [.int .u8 k,.string t,.slice x.ptr x.len x.cap,.slice y.ptr y.len y.cap].toArray 26 (0,0)):=by
    rw [XX,if_pos rfl,hb,YX];rfl
  refine rI (Zm hc rfl) (rS (Zm hc rfl) (rL (s:=x) (Zm hc rfl) (rL (s:=y) (Zm hc rfl) (hk _ ?_ Zce))))
  exact Zmx (Upd.refl _ _) (.inr rfl)
theorem UT {S T:Nat→Prop} {h0 h h':Zb} (u0:Upd S h0 h) (u:Upd T h h') (hT:∀ k,T k→S k∨sz h0≤k):Upd S h0 h' :=
  ⟨Nat.le_trans u0.size u.size,fun k hk hs=>(u.old k (Nat.lt_of_lt_of_le hk u0.size) fun t=>(hT k t).elim hs fun h9=>by have:sz h0=h0.size:=rfl;omega).trans (u0.old k hk hs)⟩
theorem UN {T:Nat→Prop} {h h1 h':Zb} (e:Ext h h1) (u:Upd T h1 h'):Upd T h h':=UT (e.upd T) u fun _ t=> .inl t
theorem ZdL {c d:UInt8} (h:(c.toNat:Int)≠(d.toNat:Int)):c≠d:=fun e=>h (by rw [e])
theorem Zdm {c d:UInt8} (h:(c.toNat:Int)=(d.toNat:Int)):c=d:=UInt8.toNat_inj.1 (by omega)
theorem ZcI {a b:Int} {A B:Prop} (h1:a≠b→A) (h2:a=b→B):ZE (a !=b) A B:=⟨fun e=>h1 (by simpa using e),fun e=>h2 (by simpa using e)⟩
theorem Xd {a b:Int} {A B:Prop} (h1:a=b→A) (h2:a≠b→B):ZE (a ==b) A B:=⟨fun e=>h1 (by simpa using e),fun e=>h2 (by simpa using e)⟩
theorem Zew {h:Zb} {R:Nat} {s:ByteArray} {l:BL} (hr:Rd h R s l) {w:ByteArray} {wl:BL} (hw:w.data.toList=wl) (hs:w.size≤10) {k:Int} {K:(Int × ByteArray × Sl × Sl × Unit)→HP} {P:Value→HP}
    (hok:∀ r h',ZaW wl l = .ok () r→Rd h' R s r→Upd (· = R) h h'→K (k,ByteArray.mk #[],⟨none,0,0⟩,⟨none,0,0⟩,()) h') (herr:OnE h R s (· = R) (ZaW wl l) P):YG (At R) w k K P h:=by
  unfold YG X3
  have hR:=hr.lt
  have hwl:wl.length=w.size:=by rw [← hw];simp
  refine ZbA fun h1 c1 e1 z1=>?_
  have r1:=hr.ext e1
  refine Z2 (fun p h'=>∃ (n:Nat) (l':BL),p.1=n∧n≤w.size∧Rd h' R s l'∧ZaW (wl.drop n) l'=ZaW wl l∧Upd (· = R) h1 h') (fun p _=>w.size - p.1.toNat) ⟨0,l,rfl,Nat.zero_le _,r1,rfl,Upd.refl _ _⟩ ?_
  rintro ⟨i,u⟩ h2 ⟨n,l2,hi,hn,r2,q2,u2⟩
  dsimp only at hi
  subst hi
  dsimp only
  refine Zp (fun hlt=>Zc (Zh8 ?_)) fun hge=>?_
  ·have hn':n<wl.length:=by omega
   have hd:wl.drop n=wl[n]::wl.drop (n+1):=List.drop_eq_getElem_cons hn'
   have hx:w[n]?=some wl[n]:=by
     subst hw
     rw [getElem?_pos w n (by omega)]
     simp
     rfl
   refine ZpN r2 ⟨wl[n],by omega,by rw [Int.toNat_natCast];exact hx,?_⟩
   dsimp only
   rw [hd] at q2
   rcases l2 with _ | ⟨c,l2⟩
   ·have hfail:∀ e' r,(YK 20 ([]:BL):Out Unit) = .err e' r→r=[]→P (Za1 e' (s.size - r.length)) h2:=fun e' r he hr'=>herr e' r h2 (by rw [← q2,← he];rfl) (UN e1 u2)
    refine ZcI (fun _=>Y4 r2 rfl hfail) fun _=>ZgT r2 (fun _=>Y4 r2 rfl hfail) fun hne=>absurd rfl hne
   ·refine ZcI (fun hne=>Y4 (α:=Unit) r2 rfl fun e' r he hr'=>?_) fun heq=>ZgT r2 (fun hl=>by cases hl) fun _=>XP r2 fun h3 r3 u3 z3=>?_
    ·refine herr e' r h2 ?_ (UN e1 u2)
     rw [← q2,← he]
     unfold ZaW
     rw [if_neg (ZdL hne)]
     rfl
    ·rw [Y5 (by omega) (by omega)]
     refine ⟨⟨n+1,l2,rfl,by omega,r3,?_,u2.trans u3⟩,by omega⟩
     rw [← q2]
     conv=>rhs;unfold ZaW
     rw [if_pos (Zdm heq)]
  ·have hn':n=wl.length:=by omega
   subst hn'
   rw [List.drop_length] at q2
   have hb:obj h2 h.size=some (.cells zV.toArray 26 (0,0)):=Yj c1 u2 (show ¬ h.size=R from by have:sz h=h.size:=rfl;omega)
   refine ZeD (x:=⟨none,0,0⟩) (y:=⟨none,0,0⟩) hb rfl fun h3 u3 z3=>hok l2 h3 (by rw [← q2];rfl) (r2.upd u3 (show ¬ R=h.size from by have:sz h=h.size:=rfl;omega)) ?_
   exact UT (UN e1 u2) u3 fun k hk=> .inr (by subst hk;exact Nat.le_refl _)
theorem Zar {c:UInt8}:XS c=true↔48≤c.toNat∧c.toNat≤57:=by unfold XS;simp
theorem Zdg {h:Zb} {R:Nat} {s:ByteArray} {l:BL} (hr:Rd h R s l) {K:HP} {P:Value→HP}
    (hok:∀ r h',Z8 l = .ok () r→Rd h' R s r→Upd (· = R) h h'→K h') (herr:OnE h R s (· = R) (Z8 l) P):ZK (At R) K P h:=by
  unfold ZK Xv
  refine Zh8 (Yr hr (Zc ?_))
  have hfail:(∀ c l',l=c::l'→¬ XS c=true)→∀ e' r,(YK 21 l:Out Unit) = .err e' r→r=l→P (Za1 e' (s.size - r.length)) h:=fun hc e' r he hr'=>herr e' r h (by
    rw [← he]
    rcases l with _ | ⟨c,l⟩
    ·rfl
    ·dsimp only [Z8]
     rw [if_neg (hc c l rfl)];rfl) (Upd.refl _ _)
  refine Zp (fun hlo=>Y4 hr rfl (hfail ?_)) fun hlo=>Zp (fun hhi=>Y4 hr rfl (hfail ?_)) fun hhi=>?_
  ·rintro c l' rfl hd
   have:=Zar.1 hd
   simp only [Xa] at hlo
   omega
  ·rintro c l' rfl hd
   have:=Zar.1 hd
   simp only [Xa] at hhi
   omega
  ·rcases l with _ | ⟨c,l⟩
   ·simp [Xa] at hlo
   ·simp only [Xa] at hlo hhi
    have hd:XS c=true:=Zar.2 (by omega)
    have hq:Z8 (c::l) = .ok () (l.dropWhile XS):=by dsimp only [Z8];rw [if_pos hd]
    refine Yr hr (Zc ?_)
    refine Z2 (fun p h'=>∃ l',p.1=Xa l'∧Rd h' R s l'∧l'.dropWhile XS=l.dropWhile XS∧Upd (· = R) h h') (fun _ h'=>left h' R) ⟨c::l,rfl,hr,by rw [List.dropWhile_cons_of_pos hd],Upd.refl _ _⟩ ?_
    rintro ⟨i,u⟩ h1 ⟨l1,hi,r1,q1,u1⟩
    dsimp only at hi ⊢
    subst hi
    have fin:(∀ c l',l1=c::l'→¬ XS c=true)→K h1:=fun hc=>hok _ h1 hq (by
      rw [← q1]
      rcases l1 with _ | ⟨d,l1⟩
      ·exact r1
      ·rw [List.dropWhile_cons_of_neg (by simpa using hc d l1 rfl)];exact r1) u1
    refine Zp (fun h48=>Zp (fun h57=>?_) fun h57=>fin ?_) fun h48=>fin ?_
    ·rcases l1 with _ | ⟨d,l1⟩
     ·simp [Xa] at h48
     ·simp only [Xa] at h48 h57
      have hd1:XS d=true:=Zar.2 (by omega)
      refine XP r1 fun h2 r2 u2 z2=>Yr r2 (Zc ⟨⟨l1,rfl,r2,?_,u1.trans u2⟩,by rw [r1.left,r2.left];simp⟩)
      rw [← q1,List.dropWhile_cons_of_pos hd1]
    ·rintro d l' rfl hd
     have:=Zar.1 hd
     simp only [Xa] at h57
     omega
    ·rintro d l' rfl hd
     have:=Zar.1 hd
     simp only [Xa] at h48
     omega
end Go.Proofs.YtgiolidekcckiaaDoor
