/- The models of the functions. Written by a program out of the translated functions. -/
import GoSem.Machine.Frame
import GoSem.Op.String
import Derived.Test.YthbfgkphlmlihaaGreatPa1
set_option linter.unusedVariables false
set_option linter.unusedSimpArgs false
namespace Go.Proofs.YthbfgkphlmlihaaGreat
open Go Go.Fw
abbrev zT0:=((Option Addr)→HP)→HP
def Zc0 (K:(Option Addr)→HP) (h:Zc):Prop :=
 newC h [.slice none 0 0,.slice none 0 0,.slice none 0 0,.slice none 0 0,.slice none 0 0,.int .i64 0] 108 fun b h1 =>
 K (some ⟨b,0,none⟩) h1
def ZaB:zT0:=Zc0
abbrev zT1:=((Option Addr)→HP)→HP
def ZgN (K:(Option Addr)→HP) (h:Zc):Prop :=
 ZeV h fun b h1 =>
 newC h1 [.map (some b),.slice none 0 0,.int .i64 0] 116 fun b2 h3 =>
 K (some ⟨b2,0,none⟩) h3
def Zd3:zT1:=ZgN
abbrev zT2:=Int→Int→((Option Addr)→Int→HP)→HP
def ZfN (f0:zT0) (f1:zT1) (keys:Int) (seed:Int) (K:(Option Addr)→Int→HP) (h:Zc):Prop :=
 Ze 0 fun t =>
 Zr (decide (keys<1)) (
 Ze 2 fun t1 =>
 K none t1 h) (
 Zr (decide (keys>4096)) (
 Ze 2 fun t2 =>
 K none t2 h) (
 f0 (fun t3 h4 =>
 f1 (fun t5 h6 =>
 ZeV h6 fun b h7 =>
 newC h7 [.int .i64 keys,.int .u64 seed,.pointer t3,.slice none 0 0,.slice none 0 0,.slice none 0 0,.slice none 0 0,.slice none 0 0,.slice none 0 0,.slice none 0 0,.slice none 0 0,.int .i64 0,.pointer t5,.int .i64 0,.int .i64 0,.map (some b),.int .i64 0,.int .i64 1,.int .i64 0] 82 fun b8 h9 =>
 Ze 0 fun t10 =>
 K (some ⟨b8,0,none⟩) t10 h9) h4) h))
def Zbp:zT2:=ZfN ZaB Zd3
abbrev zT3:=(Sl × Sl × Sl × Sl × Sl × Unit)→(Sl→HP)→HP
def ZdN (r:Sl × Sl × Sl × Sl × Sl × Unit) (K:Sl→HP) (h:Zc):Prop :=
 newC h [.slice r.1.ptr r.1.len r.1.cap,.slice r.2.1.ptr r.2.1.len r.2.1.cap,.slice r.2.2.1.ptr r.2.2.1.len r.2.2.1.cap,.slice r.2.2.2.1.ptr r.2.2.2.1.len r.2.2.2.1.cap,.slice r.2.2.2.2.1.ptr r.2.2.2.2.1.len r.2.2.2.2.1.cap] 39 fun b h1 =>
 ldL h1 b 0 fun t =>
 ZP (ZA (.func (.func 130) #[] #[.pointer (some ⟨b,0,none⟩)])=true) <|
 ldL h1 b (0+1) fun t2 =>
 ZP (ZA (.func (.func 132) #[] #[.pointer (some ⟨b,0,none⟩)])=true) <|
 ldL h1 b (0+2) fun t3 =>
 ZP (ZA (.func (.func 133) #[] #[.pointer (some ⟨b,0,none⟩)])=true) <|
 ldL h1 b (0+3) fun t4 =>
 ZP (ZA (.func (.func 134) #[] #[.pointer (some ⟨b,0,none⟩)])=true) <|
 ldL h1 b (0+4) fun t5 =>
 ZP (ZA (.func (.func 136) #[] #[.pointer (some ⟨b,0,none⟩)])=true) <|
 newC h1 [.int .u8 1,.int .i64 (t.len:Int),.func (.func 130) #[] #[.pointer (some ⟨b,0,none⟩)],.int .u8 2,.int .i64 (t2.len:Int),.func (.func 132) #[] #[.pointer (some ⟨b,0,none⟩)],.int .u8 3,.int .i64 (t3.len:Int),.func (.func 133) #[] #[.pointer (some ⟨b,0,none⟩)],.int .u8 4,.int .i64 (t4.len:Int),.func (.func 134) #[] #[.pointer (some ⟨b,0,none⟩)],.int .u8 5,.int .i64 (t5.len:Int),.func (.func 136) #[] #[.pointer (some ⟨b,0,none⟩)]] 190 fun b6 h7 =>
 K ⟨some ⟨b6,0,none⟩,5,5⟩ h7
def Zbi:zT3:=ZdN
abbrev zT4:=Int→Int→Int→(Bool→HP)→HP
def ZdM (n:Int) (lo:Int) (hi:Int) (K:Bool→HP) (h:Zc):Prop :=
 Zr (decide (n≥lo)) (
 Zy (decide (n≤hi)) fun t =>
 K t h) (
 K false h)
def Ye:zT4:=ZdM
abbrev zT5:=ByteArray→(Bool→HP)→HP
def ZdO (f4:zT4) (s:ByteArray) (K:Bool→HP) (h:Zc):Prop :=
 YL (σ:=Int × Unit) (fun J1 s2 h3 =>
 (fun (s6:Int) =>
 Zr (decide (s6<(s.size:Int))) (
 Ze s6 fun i =>
 ZzN s i fun t =>
 f4 (IntKind.wrap .i64 t) 33 126 (fun t4 h5 =>
 Zr (!t4) (
 K false h5) (
 J1 (IntKind.wrap .i64 (s6+1),()) h5)) h3) (
 f4 (s.size:Int) 1 64 (fun t6 h7 =>
 Zy t6 fun t8 =>
 K t8 h7) h3)) s2.1) (0,()) h
def Y6:zT5:=ZdO Ye
abbrev zT6:=ByteArray→(Bool→HP)→HP
def Za1 (f5:zT5) (s:ByteArray) (K:Bool→HP) (h:Zc):Prop :=
 f5 s (fun t h1 =>
 Zy (!t) fun t2 =>
 K t2 h1) h
def XT:zT6:=Za1 Y6
abbrev zT7:=Sl→(Int→HP)→HP
def Ya (f6:zT6) (s:Sl) (K:Int→HP) (h:Zc):Prop :=
 Ze 0 fun t =>
 YL (σ:=Int × Unit) (fun J1 s2 h3 =>
 (fun (s8:Int) =>
 Zr (decide (s8<(s.len:Int))) (
 Ze s8 fun i =>
 Xh s.ptr s.len i 1 fun b o =>
 ldS h3 b o fun t4 =>
 f6 t4 (fun t5 h6 =>
 Zr t5 (
 Ze i fun t7 =>
 K t7 h6) (
 J1 (IntKind.wrap .i64 (s8+1),()) h6)) h3) (
 Ze (-1) fun t8 =>
 K t8 h3)) s2.1) (0,()) h
def ZM:zT7:=Ya XT
abbrev zT8:=Sl→(Bool→HP)→HP
def Z2 (f7:zT7) (s:Sl) (K:Bool→HP) (h:Zc):Prop :=
 f7 s (fun t h1 =>
 Zy (decide (t≥0)) fun t2 =>
 K t2 h1) h
def ZC:zT8:=Z2 ZM
abbrev zT9:=(ByteArray × Sl × Unit)→(Bool→HP)→HP
def Zbx (f5:zT5) (f8:zT8) (r:ByteArray × Sl × Unit) (K:Bool→HP) (h:Zc):Prop :=
 newC h [.string r.1,.slice r.2.1.ptr r.2.1.len r.2.1.cap] 269 fun b h1 =>
 ldS h1 b 0 fun t =>
 f5 t (fun t2 h3 =>
 Zr t2 (
 ldL h3 b (0+1) fun t4 =>
 f8 t4 (fun t5 h6 =>
 Zy (!t5) fun t7 =>
 K t7 h6) h3) (
 K false h3)) h1
def XD:zT9:=Zbx Y6 ZC
abbrev Zt5:=(Option Addr)→(Option Addr)→(Bool→HP)→HP
def ZdV (f4:zT4) (a0:Option Addr) (a1:Option Addr) (K:Bool→HP) (h:Zc):Prop :=
 Zf a0 fun b o =>
 ldI h b (o+3) .i64 fun t =>
 Zf a1 fun b1 o2=>ldI h b1 o2 .i64 fun t3 =>
 f4 t t3 1099511627776 (fun t4 h5 =>
 Zy t4 fun t6 =>
 K t6 h5) h
def ZcE:Zt5:=ZdV Ye
abbrev Zt4:=(Option Addr)→(Bool→HP)→HP
def ZdU (a0:Option Addr) (K:Bool→HP) (h:Zc):Prop :=
 Zf a0 fun b o =>
 ldI h b (o+4) .u8 fun t =>
 Zr (decide (t≤2)) (
 Zf a0 fun b1 o2 =>
 ldI h b1 (o2+6) .u8 fun t3 =>
 Zy (decide (t3≤3)) fun t4 =>
 K t4 h) (
 K false h)
def ZcD:Zt4:=ZdU
abbrev Zt3:=(Option Addr)→(Bool→HP)→HP
def ZdT (a0:Option Addr) (K:Bool→HP) (h:Zc):Prop :=
 Zf a0 fun b o =>
 ldI h b (o+4) .u8 fun t =>
 Zr (t !=0) (
 K true h) (
 Zf a0 fun b1 o2 =>
 ldS h b1 (o2+5) fun t3 =>
 Zy (Xu t3 (ByteArray.mk #[])) fun t4 =>
 K t4 h)
def ZcC:Zt3:=ZdT
abbrev Zt2:=(Option Addr)→(Bool→HP)→HP
def ZdS (a0:Option Addr) (K:Bool→HP) (h:Zc):Prop :=
 Zf a0 fun b o =>
 ldB h b (o+2) fun t =>
 Zr (!t) (
 K true h) (
 Zf a0 fun b1 o2 =>
 ldI h b1 (o2+6) .u8 fun t3 =>
 Zr (t3 ==0) (
 Zf a0 fun b4 o5 =>
 ldB h b4 (o5+9) fun t6 =>
 Zy (!t6) fun t7 =>
 K t7 h) (
 K false h))
def ZcB:Zt2:=ZdS
abbrev Zns:=Bool→Int→Int→Int→(Bool→HP)→HP
def Ze5 (f4:zT4) (asked:Bool) (n:Int) (lo:Int) (hi:Int) (K:Bool→HP) (h:Zc):Prop :=
 Zr asked (
 f4 n lo hi (fun t h1 =>
 Zr t (
 K true h1) (
 Zr (!asked) (
 Zy (n ==0) fun t2 =>
 K t2 h1) (
 K false h1))) h) (
 Zr (!asked) (
 Zy (n ==0) fun t3 =>
 K t3 h) (
 K false h))
def XU:Zns:=Ze5 Ye
abbrev Zt1:=(Option Addr)→(Option Addr)→(Option Addr)→(Bool→HP)→HP
def ZdR (f14:Zns) (a0:Option Addr) (a1:Option Addr) (a2:Option Addr) (K:Bool→HP) (h:Zc):Prop :=
 Zf a0 fun b o=>ldB h b o fun t =>
 Zf a1 fun b1 o2 =>
 ldI h b1 (o2+7) .i64 fun t3 =>
 f14 t t3 1 3600 (fun t4 h5 =>
 Zr t4 (
 Zf a2 fun b6 o7=>ldB h5 b6 o7 fun t8 =>
 Zf a1 fun b9 o10 =>
 ldI h5 b9 (o10+8) .i64 fun t11 =>
 f14 t8 t11 0 3600000000 (fun t12 h13 =>
 Zy t12 fun t14 =>
 K t14 h13) h5) (
 K false h5)) h
def ZcA:Zt1:=ZdR XU
abbrev Zt0:=(Option Addr)→(Bool→HP)→HP
def ZdQ (a0:Option Addr) (K:Bool→HP) (h:Zc):Prop :=
 Zf a0 fun b o =>
 ldB h b (o+9) fun t =>
 Zr (!t) (
 K true h) (
 Zf a0 fun b1 o2 =>
 ldI h b1 (o2+4) .u8 fun t3 =>
 Zr (t3 ==0) (
 Zf a0 fun b4 o5 =>
 ldI h b4 (o5+6) .u8 fun t6 =>
 Zy (t6 ==0) fun t7 =>
 K t7 h) (
 K false h))
def Zcz:Zt0:=ZdQ
abbrev ZtZ:=(Option Addr)→(Bool→HP)→HP
def ZdP (f14:Zns) (a0:Option Addr) (K:Bool→HP) (h:Zc):Prop :=
 Zf a0 fun b o =>
 ldB h b (o+9) fun t =>
 Zf a0 fun b1 o2 =>
 ldI h b1 (o2+10) .i64 fun t3 =>
 f14 t t3 1 1099511627776 (fun t4 h5 =>
 Zr t4 (
 Zf a0 fun b6 o7 =>
 ldB h5 b6 (o7+9) fun t8 =>
 Zr t8 (
 K true h5) (
 Zf a0 fun b9 o10 =>
 ldB h5 b9 (o10+11) fun t11 =>
 Zy (!t11) fun t12 =>
 K t12 h5)) (
 K false h5)) h
def Zcy:ZtZ:=ZdP XU
abbrev ZtX:=(Option Addr)→(Option Addr)→(Bool→HP)→HP
def Zfc (f4:zT4) (a0:Option Addr) (a1:Option Addr) (K:Bool→HP) (h:Zc):Prop :=
 Zf a0 fun b o =>
 ldI h b (o+1) .u8 fun t =>
 Zr (decide (t≤2)) (
 Zf a0 fun b1 o2 =>
 ldI h b1 (o2+2) .i64 fun t3 =>
 Zf a1 fun b4 o5=>ldI h b4 o5 .i64 fun t6 =>
 f4 t3 0 t6 (fun t7 h8 =>
 Zy t7 fun t9 =>
 K t9 h8) h) (
 K false h)
def Zdm:ZtX:=Zfc Ye
abbrev ZtW:=(Option Addr)→(Bool→HP)→HP
def Zfb (f14:Zns) (a0:Option Addr) (K:Bool→HP) (h:Zc):Prop :=
 Zf a0 fun b o =>
 ldI h b (o+1) .u8 fun t =>
 Zf a0 fun b1 o2 =>
 ldI h b1 (o2+3) .i64 fun t3 =>
 f14 (t ==0) t3 1 3600000000 (fun t4 h5 =>
 Zy t4 fun t6 =>
 K t6 h5) h
def Zdl:ZtW:=Zfb XU
abbrev ZtV:=(Option Addr)→(Bool→HP)→HP
def Zfa (f4:zT4) (a0:Option Addr) (K:Bool→HP) (h:Zc):Prop :=
 Zf a0 fun b o =>
 ldI h b (o+4) .i64 fun t =>
 f4 t 1 1099511627776 (fun t1 h2 =>
 Zr t1 (
 Zf a0 fun b3 o4 =>
 ldI h2 b3 (o4+5) .i64 fun t5 =>
 f4 t5 1000000 120000000 (fun t6 h7 =>
 Zy t6 fun t8 =>
 K t8 h7) h2) (
 K false h2)) h
def Zdk:ZtV:=Zfa Ye
abbrev ZtU:=(Option Addr)→(Bool→HP)→HP
def Ze9 (f4:zT4) (a0:Option Addr) (K:Bool→HP) (h:Zc):Prop :=
 Zf a0 fun b o =>
 ldI h b (o+6) .i64 fun t =>
 f4 t 1000000 3600000000 (fun t1 h2 =>
 Zy t1 fun t3 =>
 K t3 h2) h
def Zdj:ZtU:=Ze9 Ye
abbrev Zqs:=(ByteArray × Sl × Int × Unit)→Sl→(Int→HP)→HP
def Zdo (f9:zT9) (f10:Zt5) (f11:Zt4) (f12:Zt3) (f13:Zt2) (f15:Zt1) (f16:Zt0) (f17:ZtZ) (f18:ZtX) (f19:ZtW) (f20:ZtV) (f21:ZtU) (l:ByteArray × Sl × Int × Unit) (all:Sl) (K:Int→HP) (h:Zc):Prop :=
 newC h [.string l.1,.slice l.2.1.ptr l.2.1.len l.2.1.cap,.int .i64 l.2.2.1] 271 fun b h1 =>
 Ze 0 fun t =>
 ldS h1 b 0 fun t2=>ldL h1 b (0+1) fun t3 =>
 f9 (t2,t3,()) (fun t4 h5 =>
 Zr (!t4) (
 Ze 10 fun t6 =>
 K t6 h5) (
 YL (σ:=Int × Unit) (fun J7 s h8 =>
 (fun (s13:Int) =>
 Zr (decide (s13<(all.len:Int))) (
 Xh all.ptr all.len s13 1 fun b9 o =>
 ldV h8 b9 o fun t10 =>
 (exG t10 (fun c:Option Addr × Option Addr × Unit=> .func (.func 190) #[] ⟨[.pointer c.1,.pointer c.2.1]⟩) fun c=>f10 c.1 c.2.1 (fun t12 h11 =>
 Zr (!t12) (
 ldI h11 b (0+2) .i64 fun t23 =>
 Ze t23 fun t24 =>
 K t24 h11) (
 J7 (IntKind.wrap .i64 (s13+1),()) h11)) h8)∨(
 (exG t10 (fun c13:Option Addr × Unit=> .func (.func 191) #[] ⟨[.pointer c13.1]⟩) fun c13=>f11 c13.1 (fun t12 h11 =>
 Zr (!t12) (
 ldI h11 b (0+2) .i64 fun t23 =>
 Ze t23 fun t24 =>
 K t24 h11) (
 J7 (IntKind.wrap .i64 (s13+1),()) h11)) h8)∨(
 (exG t10 (fun c14:Option Addr × Unit=> .func (.func 192) #[] ⟨[.pointer c14.1]⟩) fun c14=>f12 c14.1 (fun t12 h11 =>
 Zr (!t12) (
 ldI h11 b (0+2) .i64 fun t23 =>
 Ze t23 fun t24 =>
 K t24 h11) (
 J7 (IntKind.wrap .i64 (s13+1),()) h11)) h8)∨(
 (exG t10 (fun c15:Option Addr × Unit=> .func (.func 193) #[] ⟨[.pointer c15.1]⟩) fun c15=>f13 c15.1 (fun t12 h11 =>
 Zr (!t12) (
 ldI h11 b (0+2) .i64 fun t23 =>
 Ze t23 fun t24 =>
 K t24 h11) (
 J7 (IntKind.wrap .i64 (s13+1),()) h11)) h8)∨(
 (exG t10 (fun c16:Option Addr × Option Addr × Option Addr × Unit=> .func (.func 194) #[] ⟨[.pointer c16.1,.pointer c16.2.1,.pointer c16.2.2.1]⟩) fun c16=>f15 c16.1 c16.2.1 c16.2.2.1 (fun t12 h11 =>
 Zr (!t12) (
 ldI h11 b (0+2) .i64 fun t23 =>
 Ze t23 fun t24 =>
 K t24 h11) (
 J7 (IntKind.wrap .i64 (s13+1),()) h11)) h8)∨(
 (exG t10 (fun c17:Option Addr × Unit=> .func (.func 195) #[] ⟨[.pointer c17.1]⟩) fun c17=>f16 c17.1 (fun t12 h11 =>
 Zr (!t12) (
 ldI h11 b (0+2) .i64 fun t23 =>
 Ze t23 fun t24 =>
 K t24 h11) (
 J7 (IntKind.wrap .i64 (s13+1),()) h11)) h8)∨(
 (exG t10 (fun c18:Option Addr × Unit=> .func (.func 196) #[] ⟨[.pointer c18.1]⟩) fun c18=>f17 c18.1 (fun t12 h11 =>
 Zr (!t12) (
 ldI h11 b (0+2) .i64 fun t23 =>
 Ze t23 fun t24 =>
 K t24 h11) (
 J7 (IntKind.wrap .i64 (s13+1),()) h11)) h8)∨(
 (exG t10 (fun c19:Option Addr × Option Addr × Unit=> .func (.func 140) #[] ⟨[.pointer c19.1,.pointer c19.2.1]⟩) fun c19=>f18 c19.1 c19.2.1 (fun t12 h11 =>
 Zr (!t12) (
 ldI h11 b (0+2) .i64 fun t23 =>
 Ze t23 fun t24 =>
 K t24 h11) (
 J7 (IntKind.wrap .i64 (s13+1),()) h11)) h8)∨(
 (exG t10 (fun c20:Option Addr × Unit=> .func (.func 142) #[] ⟨[.pointer c20.1]⟩) fun c20=>f19 c20.1 (fun t12 h11 =>
 Zr (!t12) (
 ldI h11 b (0+2) .i64 fun t23 =>
 Ze t23 fun t24 =>
 K t24 h11) (
 J7 (IntKind.wrap .i64 (s13+1),()) h11)) h8)∨(
 (exG t10 (fun c21:Option Addr × Unit=> .func (.func 144) #[] ⟨[.pointer c21.1]⟩) fun c21=>f20 c21.1 (fun t12 h11 =>
 Zr (!t12) (
 ldI h11 b (0+2) .i64 fun t23 =>
 Ze t23 fun t24 =>
 K t24 h11) (
 J7 (IntKind.wrap .i64 (s13+1),()) h11)) h8)∨(
 (exG t10 (fun c22:Option Addr × Unit=> .func (.func 145) #[] ⟨[.pointer c22.1]⟩) fun c22=>f21 c22.1 (fun t12 h11 =>
 Zr (!t12) (
 ldI h11 b (0+2) .i64 fun t23 =>
 Ze t23 fun t24 =>
 K t24 h11) (
 J7 (IntKind.wrap .i64 (s13+1),()) h11)) h8)∨(
 False)))))))))))) (
 Ze 0 fun t25 =>
 K t25 h8)) s.1) (0,()) h5)) h1
def XE:Zqs:=Zdo XD ZcE ZcD ZcC ZcB ZcA Zcz Zcy Zdm Zdl Zdk Zdj
abbrev ZtT:=(ByteArray × ByteArray × Bool × Int × Int × ByteArray × Int × Int × Int × Bool × Int × Bool × Unit)→(Int→HP)→HP
def Ze7 (f22:Zqs) (r:ByteArray × ByteArray × Bool × Int × Int × ByteArray × Int × Int × Int × Bool × Int × Bool × Unit) (K:Int→HP) (h:Zc):Prop :=
 newC h [.string r.1,.string r.2.1,.bool r.2.2.1,.int .i64 r.2.2.2.1,.int .u8 r.2.2.2.2.1,.string r.2.2.2.2.2.1,.int .u8 r.2.2.2.2.2.2.1,.int .i64 r.2.2.2.2.2.2.2.1,.int .i64 r.2.2.2.2.2.2.2.2.1,.bool r.2.2.2.2.2.2.2.2.2.1,.int .i64 r.2.2.2.2.2.2.2.2.2.2.1,.bool r.2.2.2.2.2.2.2.2.2.2.2.1] 32 fun b h1 =>
 Ze 0 fun t =>
 ldS h1 b (0+1) fun t2 =>
 newC h1 [.string t2] 9 fun b3 h4 =>
 ZgR (σ:=Sl × Unit) (fun s h19 =>
 (fun (names:Sl) =>
 ZgR (σ:=Option Addr × Unit) (fun s29 h30 =>
 (fun (warm:Option Addr) =>
 ZgR (σ:=Option Addr × Unit) (fun s40 h41 =>
 (fun (paced:Option Addr) =>
 newC h41 [.int .i64 0] 3 fun b42 h43 =>
 st h43 b42 0 (.int .i64 1) fun h44 =>
 ZgR (σ:=Unit) (fun s48 h49 =>
 ldS h49 b 0 fun t50 =>
 newC h49 [.func (.func 190) #[] #[.pointer (some ⟨b,0,none⟩),.pointer (some ⟨b42,0,none⟩)],.func (.func 191) #[] #[.pointer (some ⟨b,0,none⟩)],.func (.func 192) #[] #[.pointer (some ⟨b,0,none⟩)],.func (.func 193) #[] #[.pointer (some ⟨b,0,none⟩)],.func (.func 194) #[] #[.pointer warm,.pointer (some ⟨b,0,none⟩),.pointer paced],.func (.func 195) #[] #[.pointer (some ⟨b,0,none⟩)],.func (.func 196) #[] #[.pointer (some ⟨b,0,none⟩)]] 48 fun b51 h52 =>
 f22 (t50,names,30,()) ⟨some ⟨b51,0,none⟩,7,7⟩ (fun t53 h54 =>
 Ze t53 fun t55 =>
 K t55 h54) h52) (fun J45 =>
 ldI h44 b (0+6) .u8 fun t46 =>
 Zr (t46 ==0) (
 st h44 b42 0 (.int .i64 0) fun h47 =>
 J45 (()) h47) (
 J45 (()) h44))) s40.1) (fun J31 =>
 ldI h30 b (0+6) .u8 fun t32 =>
 Zr (t32 ==2) (
 newC h30 [.bool false] 4 fun b33 h34 =>
 st h34 b33 0 (.bool true) fun h35 =>
 J31 (some ⟨b33,0,none⟩,()) h35) (
 ldI h30 b (0+6) .u8 fun t36 =>
 newC h30 [.bool false] 4 fun b37 h38 =>
 st h38 b37 0 (.bool (t36 ==3)) fun h39 =>
 J31 (some ⟨b37,0,none⟩,()) h39))) s29.1) (fun J20 =>
 ldI h19 b (0+6) .u8 fun t21 =>
 Zr (t21 ==1) (
 newC h19 [.bool false] 4 fun b22 h23 =>
 st h23 b22 0 (.bool true) fun h24 =>
 J20 (some ⟨b22,0,none⟩,()) h24) (
 ldI h19 b (0+6) .u8 fun t25 =>
 newC h19 [.bool false] 4 fun b26 h27 =>
 st h27 b26 0 (.bool (t25 ==3)) fun h28 =>
 J20 (some ⟨b26,0,none⟩,()) h28))) s.1) (fun J5 =>
 ldI h4 b (0+4) .u8 fun t6 =>
 Zr (t6 ==1) (
 ldS h4 b (0+5) fun t7 =>
 newC h4 [.string t7] 9 fun b8 h9 =>
 rdS ⟨some ⟨b8,0,none⟩,1,1⟩ 1 h9 fun new=>app 9 1 16 [.string (ByteArray.mk #[])] ⟨some ⟨b3,0,none⟩,1,1⟩ 1 new h9 fun t10 h11 =>
 J5 (t10,()) h11) (
 ldI h4 b (0+4) .u8 fun t12 =>
 Zr (t12 ==2) (
 ldS h4 b (0+5) fun t13 =>
 newC h4 [.string t13] 9 fun b14 h15 =>
 rdS ⟨some ⟨b14,0,none⟩,1,1⟩ 1 h15 fun new18=>app 9 1 16 [.string (ByteArray.mk #[])] ⟨some ⟨b3,0,none⟩,1,1⟩ 1 new18 h15 fun t16 h17 =>
 J5 (t16,()) h17) (
 J5 (⟨some ⟨b3,0,none⟩,1,1⟩,()) h4)))
def Zan:ZtT:=Ze7 XE
abbrev ZtS:=Int→(Option Addr)→(Int→HP)→HP
def ZcZ (f23:ZtT) (i:Int) (a1:Option Addr) (K:Int→HP) (h:Zc):Prop :=
 Ze 0 fun t =>
 Zf a1 fun b o =>
 ldL h b o fun t1 =>
 Xh t1.ptr t1.len i 12 fun b2 o3 =>
 ldS h b2 o3 fun t4=>ldS h b2 (o3+1) fun t5=>ldB h b2 (o3+2) fun t6=>ldI h b2 (o3+3) .i64 fun t7=>ldI h b2 (o3+4) .u8 fun t8=>ldS h b2 (o3+5) fun t9=>ldI h b2 (o3+6) .u8 fun t10=>ldI h b2 (o3+7) .i64 fun t11=>ldI h b2 (o3+8) .i64 fun t12=>ldB h b2 (o3+9) fun t13=>ldI h b2 (o3+10) .i64 fun t14=>ldB h b2 (o3+11) fun t15 =>
 f23 (t4,t5,t6,t7,t8,t9,t10,t11,t12,t13,t14,t15,()) (fun t16 h17 =>
 Ze t16 fun t18 =>
 K t18 h17) h
def ZaA:ZtS:=ZcZ Zan
abbrev Zqr:=(ByteArray × Int × Int × Int × Int × Int × Int × Unit)→(Int→HP)→HP
def Zf9 (f22:Zqs) (r:ByteArray × Int × Int × Int × Int × Int × Int × Unit) (K:Int→HP) (h:Zc):Prop :=
 newC h [.string r.1,.int .u8 r.2.1,.int .i64 r.2.2.1,.int .i64 r.2.2.2.1,.int .i64 r.2.2.2.2.1,.int .i64 r.2.2.2.2.2.1,.int .i64 r.2.2.2.2.2.2.1] 52 fun b h1 =>
 Ze 0 fun t =>
 newC h1 [.int .i64 0] 3 fun b2 h3 =>
 st h3 b2 0 (.int .i64 1000) fun h4 =>
 ZgR (σ:=Unit) (fun s h8 =>
 ldS h8 b 0 fun t9 =>
 newC h8 [.func (.func 140) #[] #[.pointer (some ⟨b,0,none⟩),.pointer (some ⟨b2,0,none⟩)],.func (.func 142) #[] #[.pointer (some ⟨b,0,none⟩)],.func (.func 144) #[] #[.pointer (some ⟨b,0,none⟩)],.func (.func 145) #[] #[.pointer (some ⟨b,0,none⟩)]] 48 fun b10 h11 =>
 f22 (t9,⟨none,0,0⟩,31,()) ⟨some ⟨b10,0,none⟩,4,4⟩ (fun t12 h13 =>
 Ze t12 fun t14 =>
 K t14 h13) h11) (fun J5 =>
 ldI h4 b (0+1) .u8 fun t6 =>
 Zr (t6 ==2) (
 st h4 b2 0 (.int .i64 1099511627776) fun h7 =>
 J5 (()) h7) (
 J5 (()) h4))
def XW:Zqr:=Zf9 XE
abbrev ZtR:=Int→(Option Addr)→(Int→HP)→HP
def ZcY (f25:Zqr) (i:Int) (a1:Option Addr) (K:Int→HP) (h:Zc):Prop :=
 Ze 0 fun t =>
 Zf a1 fun b o =>
 ldL h b (o+1) fun t1 =>
 Xh t1.ptr t1.len i 7 fun b2 o3 =>
 ldS h b2 o3 fun t4=>ldI h b2 (o3+1) .u8 fun t5=>ldI h b2 (o3+2) .i64 fun t6=>ldI h b2 (o3+3) .i64 fun t7=>ldI h b2 (o3+4) .i64 fun t8=>ldI h b2 (o3+5) .i64 fun t9=>ldI h b2 (o3+6) .i64 fun t10 =>
 f25 (t4,t5,t6,t7,t8,t9,t10,()) (fun t11 h12 =>
 Ze t11 fun t13 =>
 K t13 h12) h
def Zaz:ZtR:=ZcY XW
abbrev ZtQ:=(Sl × Sl × Sl × Sl × Sl × Unit)→(Int→Int→Int→HP)→HP
def Zeo (f3:zT3) (f24:ZtS) (f26:ZtR) (r:Sl × Sl × Sl × Sl × Sl × Unit) (K:Int→Int→Int→HP) (h:Zc):Prop :=
 newC h [.slice r.1.ptr r.1.len r.1.cap,.slice r.2.1.ptr r.2.1.len r.2.1.cap,.slice r.2.2.1.ptr r.2.2.1.len r.2.2.1.cap,.slice r.2.2.2.1.ptr r.2.2.2.1.len r.2.2.2.1.cap,.slice r.2.2.2.2.1.ptr r.2.2.2.2.1.len r.2.2.2.2.1.cap] 39 fun b h1 =>
 Ze 0 fun t =>
 Ze 0 fun t2 =>
 Ze 0 fun t3 =>
 ldL h1 b 0 fun t4=>ldL h1 b (0+1) fun t5=>ldL h1 b (0+2) fun t6=>ldL h1 b (0+3) fun t7=>ldL h1 b (0+4) fun t8 =>
 f3 (t4,t5,t6,t7,t8,()) (fun t9 h10 =>
 YL (σ:=Int × Unit) (fun J11 s h12 =>
 (fun (s16:Int) =>
 Zr (decide (s16<(t9.len:Int))) (
 Xh t9.ptr t9.len s16 3 fun b13 o =>
 ldI h12 b13 o .u8 fun t14=>ldI h12 b13 (o+1) .i64 fun t15=>ldV h12 b13 (o+2) fun t16 =>
 newC h12 [.int .u8 0,.int .i64 0,.nilFunc] 190 fun b17 h18 =>
 sts h18 b17 0 [.int .u8 t14,.int .i64 t15,t16] fun h19 =>
 ldI h19 b17 (0+1) .i64 fun t20 =>
 Zr (decide (t20>256)) (
 ldI h19 b17 0 .u8 fun t21 =>
 Ze t21 fun t22 =>
 Ze 0 fun t23 =>
 Ze 5 fun t24 =>
 K t22 t23 t24 h19) (
 J11 (IntKind.wrap .i64 (s16+1),()) h19)) (
 YL (σ:=Int × Unit) (fun J25 s26 h27 =>
 (fun (s28:Int) =>
 Zr (decide (s28<(t9.len:Int))) (
 Xh t9.ptr t9.len s28 3 fun b28 o29 =>
 ldI h27 b28 o29 .u8 fun t30=>ldI h27 b28 (o29+1) .i64 fun t31=>ldV h27 b28 (o29+2) fun t32 =>
 newC h27 [.int .u8 0,.int .i64 0,.nilFunc] 190 fun b33 h34 =>
 sts h34 b33 0 [.int .u8 t30,.int .i64 t31,t32] fun h35 =>
 ldI h35 b33 (0+1) .i64 fun t36 =>
 YL (σ:=Int × Unit) (fun J37 s38 h39 =>
 (fun (s34:Int) =>
 Zr (decide (s34<t36)) (
 Ze s34 fun i =>
 ldV h39 b33 (0+2) fun t40 =>
 (exG t40 (fun c:Option Addr × Unit=> .func (.func 130) #[] ⟨[.pointer c.1]⟩) fun c=>f24 i c.1 (fun t42 h41 =>
 Ze t42 fun err =>
 Zr (err !=0) (
 ldI h41 b33 0 .u8 fun t44 =>
 Ze t44 fun t45 =>
 Ze i fun t46 =>
 Ze err fun t47 =>
 K t45 t46 t47 h41) (
 J37 (IntKind.wrap .i64 (s34+1),()) h41)) h39)∨(
 (exG t40 (fun c43:Option Addr × Unit=> .func (.func 132) #[] ⟨[.pointer c43.1]⟩) fun c43=>f26 i c43.1 (fun t42 h41 =>
 Ze t42 fun err =>
 Zr (err !=0) (
 ldI h41 b33 0 .u8 fun t44 =>
 Ze t44 fun t45 =>
 Ze i fun t46 =>
 Ze err fun t47 =>
 K t45 t46 t47 h41) (
 J37 (IntKind.wrap .i64 (s34+1),()) h41)) h39)∨(
 False))) (
 J25 (IntKind.wrap .i64 (s28+1),()) h39)) s38.1) (0,()) h35) (
 Ze 0 fun t48 =>
 Ze 0 fun t49 =>
 Ze 0 fun t50 =>
 K t48 t49 t50 h27)) s26.1) (0,()) h12)) s.1) (0,()) h10) h1
def ZbI:ZtQ:=Zeo Zbi ZaA Zaz
abbrev ZtP:=Sl→(Sl→HP)→HP
def X1 (s:Sl) (K:Sl→HP) (h:Zc):Prop :=
 Zr s.ptr.isNone (
 K ⟨none,0,0⟩ h) (
 newC h [] 212 fun b h1 =>
 rdS s 2 h1 fun new=>app 212 2 24 [.string (ByteArray.mk #[]),.int .i64 0] ⟨some ⟨b,0,none⟩,0,0⟩ s.len new h1 fun t h2 =>
 K t h2)
def Y2:ZtP:=X1
abbrev ZtO:=Sl→(Sl→HP)→HP
def ZaE (s:Sl) (K:Sl→HP) (h:Zc):Prop :=
 Zr s.ptr.isNone (
 K ⟨none,0,0⟩ h) (
 newC h [] 9 fun b h1 =>
 rdS s 1 h1 fun new=>app 9 1 16 [.string (ByteArray.mk #[])] ⟨some ⟨b,0,none⟩,0,0⟩ s.len new h1 fun t h2 =>
 K t h2)
def Xg:ZtO:=ZaE
abbrev ZtN:=Sl→((Sl × Sl × Sl × Sl × Sl × Unit)→HP)→HP
def Ze6 (f28:ZtP) (f29:ZtO) (l:Sl) (K:(Sl × Sl × Sl × Sl × Sl × Unit)→HP) (h:Zc):Prop :=
 newC h [.slice none 0 0,.slice none 0 0,.slice none 0 0,.slice none 0 0,.slice none 0 0] 39 fun b h1 =>
 newC h1 [.slice none 0 0,.slice none 0 0,.slice none 0 0,.slice none 0 0,.slice none 0 0] 39 fun b2 h3 =>
 YL (σ:=Int × Unit) (fun J4 s h5 =>
 (fun (s12:Int) =>
 Zr (decide (s12<(l.len:Int))) (
 Xh l.ptr l.len s12 5 fun b6 o =>
 ldL h5 b6 o fun t=>ldL h5 b6 (o+1) fun t7=>ldL h5 b6 (o+2) fun t8=>ldL h5 b6 (o+3) fun t9=>ldL h5 b6 (o+4) fun t10 =>
 newC h5 [.slice none 0 0,.slice none 0 0,.slice none 0 0,.slice none 0 0,.slice none 0 0] 39 fun b11 h12 =>
 sts h12 b11 0 [.slice t.ptr t.len t.cap,.slice t7.ptr t7.len t7.cap,.slice t8.ptr t8.len t8.cap,.slice t9.ptr t9.len t9.cap,.slice t10.ptr t10.len t10.cap] fun h13 =>
 ldL h13 b2 0 fun t14 =>
 ldL h13 b11 0 fun t15 =>
 rdS t15 12 h13 fun new=>app 32 12 120 [.string (ByteArray.mk #[]),.string (ByteArray.mk #[]),.bool false,.int .i64 0,.int .u8 0,.string (ByteArray.mk #[]),.int .u8 0,.int .i64 0,.int .i64 0,.bool false,.int .i64 0,.bool false] t14 t15.len new h13 fun t16 h17 =>
 st h17 b2 0 (.slice t16.ptr t16.len t16.cap) fun h18 =>
 ldL h18 b2 (0+1) fun t19 =>
 ldL h18 b11 (0+1) fun t20 =>
 rdS t20 7 h18 fun new23=>app 52 7 64 [.string (ByteArray.mk #[]),.int .u8 0,.int .i64 0,.int .i64 0,.int .i64 0,.int .i64 0,.int .i64 0] t19 t20.len new23 h18 fun t21 h22 =>
 st h22 b2 (0+1) (.slice t21.ptr t21.len t21.cap) fun h24 =>
 ldL h24 b2 (0+3) fun t25 =>
 ldL h24 b11 (0+3) fun t26 =>
 rdS t26 5 h24 fun new29=>app 202 5 40 [.int .i64 0,.int .i64 0,.int .i64 0,.int .i64 0,.int .i64 0] t25 t26.len new29 h24 fun t27 h28 =>
 st h28 b2 (0+3) (.slice t27.ptr t27.len t27.cap) fun h30 =>
 ldL h30 b11 (0+2) fun t31 =>
 YL (σ:=Int × Unit) (fun J32 s33 h34 =>
 (fun (s37:Int) =>
 Zr (decide (s37<(t31.len:Int))) (
 Xh t31.ptr t31.len s37 5 fun b35 o36 =>
 ldS h34 b35 o36 fun t37=>ldI h34 b35 (o36+1) .i64 fun t38=>ldI h34 b35 (o36+2) .i64 fun t39=>ldI h34 b35 (o36+3) .i64 fun t40=>ldL h34 b35 (o36+4) fun t41 =>
 newC h34 [.string (ByteArray.mk #[]),.int .i64 0,.int .i64 0,.int .i64 0,.slice none 0 0] 134 fun b42 h43 =>
 sts h43 b42 0 [.string t37,.int .i64 t38,.int .i64 t39,.int .i64 t40,.slice t41.ptr t41.len t41.cap] fun h44 =>
 ldL h44 b42 (0+4) fun t45 =>
 f28 t45 (fun t46 h47 =>
 st h47 b42 (0+4) (.slice t46.ptr t46.len t46.cap) fun h48 =>
 ldL h48 b2 (0+2) fun t49 =>
 ldS h48 b42 0 fun t50=>ldI h48 b42 (0+1) .i64 fun t51=>ldI h48 b42 (0+2) .i64 fun t52=>ldI h48 b42 (0+3) .i64 fun t53=>ldL h48 b42 (0+4) fun t54 =>
 newC h48 [.string t50,.int .i64 t51,.int .i64 t52,.int .i64 t53,.slice t54.ptr t54.len t54.cap] 134 fun b55 h56 =>
 rdS ⟨some ⟨b55,0,none⟩,1,1⟩ 5 h56 fun new59=>app 134 5 64 [.string (ByteArray.mk #[]),.int .i64 0,.int .i64 0,.int .i64 0,.slice none 0 0] t49 1 new59 h56 fun t57 h58 =>
 st h58 b2 (0+2) (.slice t57.ptr t57.len t57.cap) fun h60 =>
 J32 (IntKind.wrap .i64 (s37+1),()) h60) h44) (
 ldL h34 b11 (0+4) fun t61 =>
 YL (σ:=Int × Unit) (fun J62 s63 h64 =>
 (fun (s55:Int) =>
 Zr (decide (s55<(t61.len:Int))) (
 Xh t61.ptr t61.len s55 3 fun b65 o66 =>
 ldS h64 b65 o66 fun t67=>ldB h64 b65 (o66+1) fun t68=>ldL h64 b65 (o66+2) fun t69 =>
 newC h64 [.string (ByteArray.mk #[]),.bool false,.slice none 0 0] 160 fun b70 h71 =>
 sts h71 b70 0 [.string t67,.bool t68,.slice t69.ptr t69.len t69.cap] fun h72 =>
 ldL h72 b70 (0+2) fun t73 =>
 f29 t73 (fun t74 h75 =>
 st h75 b70 (0+2) (.slice t74.ptr t74.len t74.cap) fun h76 =>
 ldL h76 b2 (0+4) fun t77 =>
 ldS h76 b70 0 fun t78=>ldB h76 b70 (0+1) fun t79=>ldL h76 b70 (0+2) fun t80 =>
 newC h76 [.string t78,.bool t79,.slice t80.ptr t80.len t80.cap] 160 fun b81 h82 =>
 rdS ⟨some ⟨b81,0,none⟩,1,1⟩ 3 h82 fun new85=>app 160 3 48 [.string (ByteArray.mk #[]),.bool false,.slice none 0 0] t77 1 new85 h82 fun t83 h84 =>
 st h84 b2 (0+4) (.slice t83.ptr t83.len t83.cap) fun h86 =>
 J62 (IntKind.wrap .i64 (s55+1),()) h86) h72) (
 J4 (IntKind.wrap .i64 (s12+1),()) h64)) s63.1) (0,()) h34)) s33.1) (0,()) h30) (
 ldL h5 b2 0 fun t87=>ldL h5 b2 (0+1) fun t88=>ldL h5 b2 (0+2) fun t89=>ldL h5 b2 (0+3) fun t90=>ldL h5 b2 (0+4) fun t91 =>
 sts h5 b 0 [.slice t87.ptr t87.len t87.cap,.slice t88.ptr t88.len t88.cap,.slice t89.ptr t89.len t89.cap,.slice t90.ptr t90.len t90.cap,.slice t91.ptr t91.len t91.cap] fun h92 =>
 ldL h92 b 0 fun t93=>ldL h92 b (0+1) fun t94=>ldL h92 b (0+2) fun t95=>ldL h92 b (0+3) fun t96=>ldL h92 b (0+4) fun t97=>K (t93,t94,t95,t96,t97,()) h92)) s.1) (0,()) h3
def ZcI:ZtN:=Ze6 Y2 Xg
abbrev Zqq:=(Sl × Sl × Sl × Sl × Sl × Unit)→((Sl × Sl × Sl × Sl × Sl × Unit)→HP)→HP
def Ze8 (f30:ZtN) (r:Sl × Sl × Sl × Sl × Sl × Unit) (K:(Sl × Sl × Sl × Sl × Sl × Unit)→HP) (h:Zc):Prop :=
 newC h [.slice r.1.ptr r.1.len r.1.cap,.slice r.2.1.ptr r.2.1.len r.2.1.cap,.slice r.2.2.1.ptr r.2.2.1.len r.2.2.1.cap,.slice r.2.2.2.1.ptr r.2.2.2.1.len r.2.2.2.1.cap,.slice r.2.2.2.2.1.ptr r.2.2.2.2.1.len r.2.2.2.2.1.cap] 39 fun b h1 =>
 newC h1 [.slice none 0 0,.slice none 0 0,.slice none 0 0,.slice none 0 0,.slice none 0 0] 39 fun b2 h3 =>
 ldL h3 b 0 fun t=>ldL h3 b (0+1) fun t4=>ldL h3 b (0+2) fun t5=>ldL h3 b (0+3) fun t6=>ldL h3 b (0+4) fun t7 =>
 newC h3 [.slice t.ptr t.len t.cap,.slice t4.ptr t4.len t4.cap,.slice t5.ptr t5.len t5.cap,.slice t6.ptr t6.len t6.cap,.slice t7.ptr t7.len t7.cap] 39 fun b8 h9 =>
 f30 ⟨some ⟨b8,0,none⟩,1,1⟩ (fun t10 h11 =>
 sts h11 b2 0 [.slice t10.1.ptr t10.1.len t10.1.cap,.slice t10.2.1.ptr t10.2.1.len t10.2.1.cap,.slice t10.2.2.1.ptr t10.2.2.1.len t10.2.2.1.cap,.slice t10.2.2.2.1.ptr t10.2.2.2.1.len t10.2.2.2.1.cap,.slice t10.2.2.2.2.1.ptr t10.2.2.2.2.1.len t10.2.2.2.2.1.cap] fun h12 =>
 ldL h12 b2 0 fun t13=>ldL h12 b2 (0+1) fun t14=>ldL h12 b2 (0+2) fun t15=>ldL h12 b2 (0+3) fun t16=>ldL h12 b2 (0+4) fun t17=>K (t13,t14,t15,t16,t17,()) h12) h9
def ZaW:Zqq:=Ze8 ZcI
abbrev ZtM:=(Option Addr)→(Sl × Sl × Sl × Sl × Sl × Unit)→(Int→HP)→HP
def Zb0 (f27:ZtQ) (f31:Zqq) (s:Option Addr) (r:Sl × Sl × Sl × Sl × Sl × Unit) (K:Int→HP) (h:Zc):Prop :=
 newC h [.slice r.1.ptr r.1.len r.1.cap,.slice r.2.1.ptr r.2.1.len r.2.1.cap,.slice r.2.2.1.ptr r.2.2.1.len r.2.2.1.cap,.slice r.2.2.2.1.ptr r.2.2.2.1.len r.2.2.2.1.cap,.slice r.2.2.2.2.1.ptr r.2.2.2.2.1.len r.2.2.2.2.1.cap] 39 fun b h1 =>
 Ze 0 fun t =>
 Zr s.isNone (
 Ze 1 fun t2 =>
 K t2 h1) (
 ldL h1 b 0 fun t3=>ldL h1 b (0+1) fun t4=>ldL h1 b (0+2) fun t5=>ldL h1 b (0+3) fun t6=>ldL h1 b (0+4) fun t7 =>
 f27 (t3,t4,t5,t6,t7,()) (fun t8 t9 t10 h11 =>
 Ze t8 fun x =>
 Ze t9 fun x12 =>
 Ze t10 fun err =>
 Zr (err !=0) (
 Ze err fun t13 =>
 K t13 h11) (
 ldL h11 b 0 fun t14=>ldL h11 b (0+1) fun t15=>ldL h11 b (0+2) fun t16=>ldL h11 b (0+3) fun t17=>ldL h11 b (0+4) fun t18 =>
 f31 (t14,t15,t16,t17,t18,()) (fun t19 h20 =>
 Zf s fun b21 o =>
 sts h20 b21 o [.slice t19.1.ptr t19.1.len t19.1.cap,.slice t19.2.1.ptr t19.2.1.len t19.2.1.cap,.slice t19.2.2.1.ptr t19.2.2.1.len t19.2.2.1.cap,.slice t19.2.2.2.1.ptr t19.2.2.2.1.len t19.2.2.2.1.cap,.slice t19.2.2.2.2.1.ptr t19.2.2.2.2.1.len t19.2.2.2.2.1.cap] fun h22 =>
 Zf s fun b23 o24 =>
 ldI h22 b23 (o24+5) .i64 fun t25 =>
 Zf s fun b26 o27 =>
 st h22 b26 (o27+5) (.int .i64 (IntKind.wrap .i64 (t25+1))) fun h28 =>
 Ze 0 fun t29 =>
 K t29 h28) h11)) h1)
def XV:ZtM:=Zb0 ZbI ZaW
abbrev ZtL:=(Option Addr)→((Sl × Sl × Sl × Sl × Sl × Unit)→Int→HP)→HP
def Zct (f31:Zqq) (s:Option Addr) (K:(Sl × Sl × Sl × Sl × Sl × Unit)→Int→HP) (h:Zc):Prop :=
 newC h [.slice none 0 0,.slice none 0 0,.slice none 0 0,.slice none 0 0,.slice none 0 0] 39 fun b h1 =>
 Ze 0 fun t =>
 Zr s.isNone (
 sts h1 b 0 [.slice none 0 0,.slice none 0 0,.slice none 0 0,.slice none 0 0,.slice none 0 0] fun h2 =>
 Ze 0 fun t3 =>
 ldL h2 b 0 fun t4=>ldL h2 b (0+1) fun t5=>ldL h2 b (0+2) fun t6=>ldL h2 b (0+3) fun t7=>ldL h2 b (0+4) fun t8=>K (t4,t5,t6,t7,t8,()) t3 h2) (
 Zf s fun b9 o =>
 Zf s fun b10 o11 =>
 ldL h1 b9 o fun t12=>ldL h1 b9 (o+1) fun t13=>ldL h1 b9 (o+2) fun t14=>ldL h1 b9 (o+3) fun t15=>ldL h1 b9 (o+4) fun t16 =>
 ldI h1 b10 (o11+5) .i64 fun t17 =>
 f31 (t12,t13,t14,t15,t16,()) (fun t18 h19 =>
 ZP (Zo h19 [(b10,o11+5,.int .i64 t17)]) <|
 sts h19 b 0 [.slice t18.1.ptr t18.1.len t18.1.cap,.slice t18.2.1.ptr t18.2.1.len t18.2.1.cap,.slice t18.2.2.1.ptr t18.2.2.1.len t18.2.2.1.cap,.slice t18.2.2.2.1.ptr t18.2.2.2.1.len t18.2.2.2.1.cap,.slice t18.2.2.2.2.1.ptr t18.2.2.2.2.1.len t18.2.2.2.2.1.cap] fun h20 =>
 ZP (Zo h20 [(b10,o11+5,.int .i64 t17)]) <|
 Ze t17 fun t21 =>
 ldL h20 b 0 fun t22=>ldL h20 b (0+1) fun t23=>ldL h20 b (0+2) fun t24=>ldL h20 b (0+3) fun t25=>ldL h20 b (0+4) fun t26=>K (t22,t23,t24,t25,t26,()) t21 h20) h1)
def Zaj:ZtL:=Zct ZaW
abbrev ZtK:=(ByteArray × ByteArray × Bool × Int × Int × ByteArray × Int × Int × Int × Bool × Int × Bool × Unit)→(ByteArray × ByteArray × Bool × Int × Int × ByteArray × Int × Int × Int × Bool × Int × Bool × Unit)→(Bool→HP)→HP
def Zb9 (a:ByteArray × ByteArray × Bool × Int × Int × ByteArray × Int × Int × Int × Bool × Int × Bool × Unit) (b:ByteArray × ByteArray × Bool × Int × Int × ByteArray × Int × Int × Int × Bool × Int × Bool × Unit) (K:Bool→HP) (h:Zc):Prop :=
 newC h [.string a.1,.string a.2.1,.bool a.2.2.1,.int .i64 a.2.2.2.1,.int .u8 a.2.2.2.2.1,.string a.2.2.2.2.2.1,.int .u8 a.2.2.2.2.2.2.1,.int .i64 a.2.2.2.2.2.2.2.1,.int .i64 a.2.2.2.2.2.2.2.2.1,.bool a.2.2.2.2.2.2.2.2.2.1,.int .i64 a.2.2.2.2.2.2.2.2.2.2.1,.bool a.2.2.2.2.2.2.2.2.2.2.2.1] 32 fun b1 h2 =>
 newC h2 [.string b.1,.string b.2.1,.bool b.2.2.1,.int .i64 b.2.2.2.1,.int .u8 b.2.2.2.2.1,.string b.2.2.2.2.2.1,.int .u8 b.2.2.2.2.2.2.1,.int .i64 b.2.2.2.2.2.2.2.1,.int .i64 b.2.2.2.2.2.2.2.2.1,.bool b.2.2.2.2.2.2.2.2.2.1,.int .i64 b.2.2.2.2.2.2.2.2.2.2.1,.bool b.2.2.2.2.2.2.2.2.2.2.2.1] 32 fun b3 h4 =>
 ldS h4 b1 0 fun t=>ldS h4 b1 (0+1) fun t5=>ldB h4 b1 (0+2) fun t6=>ldI h4 b1 (0+3) .i64 fun t7=>ldI h4 b1 (0+4) .u8 fun t8=>ldS h4 b1 (0+5) fun t9=>ldI h4 b1 (0+6) .u8 fun t10=>ldI h4 b1 (0+7) .i64 fun t11=>ldI h4 b1 (0+8) .i64 fun t12=>ldB h4 b1 (0+9) fun t13=>ldI h4 b1 (0+10) .i64 fun t14=>ldB h4 b1 (0+11) fun t15 =>
 ldS h4 b3 0 fun t16=>ldS h4 b3 (0+1) fun t17=>ldB h4 b3 (0+2) fun t18=>ldI h4 b3 (0+3) .i64 fun t19=>ldI h4 b3 (0+4) .u8 fun t20=>ldS h4 b3 (0+5) fun t21=>ldI h4 b3 (0+6) .u8 fun t22=>ldI h4 b3 (0+7) .i64 fun t23=>ldI h4 b3 (0+8) .i64 fun t24=>ldB h4 b3 (0+9) fun t25=>ldI h4 b3 (0+10) .i64 fun t26=>ldB h4 b3 (0+11) fun t27 =>
 Zy (bif Xu t t16 then (bif Xu t5 t17 then (bif t6 ==t18 then (bif t7 ==t19 then (bif t8 ==t20 then (bif Xu t9 t21 then (bif t10 ==t22 then (bif t11 ==t23 then (bif t12 ==t24 then (bif t13 ==t25 then (bif t14 ==t26 then (bif t15 ==t27 then true else false) else false) else false) else false) else false) else false) else false) else false) else false) else false) else false) else false) fun t28 =>
 K t28 h4
def ZaJ:ZtK:=Zb9
abbrev ZtJ:=Sl→Sl→(Sl→HP)→HP
def Yr (f34:ZtK) (now:Sl) (was:Sl) (K:Sl→HP) (h:Zc):Prop :=
 mkS 4 1 [.bool false] (was.len:Int) (was.len:Int) h fun t h1 =>
 YL (σ:=Sl × Int × Unit) (fun J2 s h3 =>
 (fun (l:Sl) (s19:Int) =>
 Zr (decide (s19<(now.len:Int))) (
 Xh now.ptr now.len s19 12 fun b o =>
 ldS h3 b o fun t4=>ldS h3 b (o+1) fun t5=>ldB h3 b (o+2) fun t6=>ldI h3 b (o+3) .i64 fun t7=>ldI h3 b (o+4) .u8 fun t8=>ldS h3 b (o+5) fun t9=>ldI h3 b (o+6) .u8 fun t10=>ldI h3 b (o+7) .i64 fun t11=>ldI h3 b (o+8) .i64 fun t12=>ldB h3 b (o+9) fun t13=>ldI h3 b (o+10) .i64 fun t14=>ldB h3 b (o+11) fun t15 =>
 newC h3 [.string (ByteArray.mk #[]),.string (ByteArray.mk #[]),.bool false,.int .i64 0,.int .u8 0,.string (ByteArray.mk #[]),.int .u8 0,.int .i64 0,.int .i64 0,.bool false,.int .i64 0,.bool false] 32 fun b16 h17 =>
 sts h17 b16 0 [.string t4,.string t5,.bool t6,.int .i64 t7,.int .u8 t8,.string t9,.int .u8 t10,.int .i64 t11,.int .i64 t12,.bool t13,.int .i64 t14,.bool t15] fun h18 =>
 Ze (-1) fun found =>
 YL (σ:=Int × Int × Unit) (fun J20 s21 h22 =>
 (fun (found19:Int) (s25:Int) =>
 Zr (decide (s25<(was.len:Int))) (
 Xh was.ptr was.len s25 12 fun b23 o24 =>
 ldS h22 b23 o24 fun t25=>ldS h22 b23 (o24+1) fun t26=>ldB h22 b23 (o24+2) fun t27=>ldI h22 b23 (o24+3) .i64 fun t28=>ldI h22 b23 (o24+4) .u8 fun t29=>ldS h22 b23 (o24+5) fun t30=>ldI h22 b23 (o24+6) .u8 fun t31=>ldI h22 b23 (o24+7) .i64 fun t32=>ldI h22 b23 (o24+8) .i64 fun t33=>ldB h22 b23 (o24+9) fun t34=>ldI h22 b23 (o24+10) .i64 fun t35=>ldB h22 b23 (o24+11) fun t36 =>
 newC h22 [.string (ByteArray.mk #[]),.string (ByteArray.mk #[]),.bool false,.int .i64 0,.int .u8 0,.string (ByteArray.mk #[]),.int .u8 0,.int .i64 0,.int .i64 0,.bool false,.int .i64 0,.bool false] 32 fun b37 h38 =>
 Ze s25 fun i =>
 sts h38 b37 0 [.string t25,.string t26,.bool t27,.int .i64 t28,.int .u8 t29,.string t30,.int .u8 t31,.int .i64 t32,.int .i64 t33,.bool t34,.int .i64 t35,.bool t36] fun h39 =>
 Zr (decide (found19<0)) (
 Xh t.ptr t.len i 1 fun b40 o41 =>
 ldB h39 b40 o41 fun t42 =>
 Zr (!t42) (
 ldS h39 b16 0 fun t43=>ldS h39 b16 (0+1) fun t44=>ldB h39 b16 (0+2) fun t45=>ldI h39 b16 (0+3) .i64 fun t46=>ldI h39 b16 (0+4) .u8 fun t47=>ldS h39 b16 (0+5) fun t48=>ldI h39 b16 (0+6) .u8 fun t49=>ldI h39 b16 (0+7) .i64 fun t50=>ldI h39 b16 (0+8) .i64 fun t51=>ldB h39 b16 (0+9) fun t52=>ldI h39 b16 (0+10) .i64 fun t53=>ldB h39 b16 (0+11) fun t54 =>
 ldS h39 b37 0 fun t55=>ldS h39 b37 (0+1) fun t56=>ldB h39 b37 (0+2) fun t57=>ldI h39 b37 (0+3) .i64 fun t58=>ldI h39 b37 (0+4) .u8 fun t59=>ldS h39 b37 (0+5) fun t60=>ldI h39 b37 (0+6) .u8 fun t61=>ldI h39 b37 (0+7) .i64 fun t62=>ldI h39 b37 (0+8) .i64 fun t63=>ldB h39 b37 (0+9) fun t64=>ldI h39 b37 (0+10) .i64 fun t65=>ldB h39 b37 (0+11) fun t66 =>
 f34 (t43,t44,t45,t46,t47,t48,t49,t50,t51,t52,t53,t54,()) (t55,t56,t57,t58,t59,t60,t61,t62,t63,t64,t65,t66,()) (fun t67 h68 =>
 Zr t67 (
 Ze i fun found69 =>
 Xh t.ptr t.len i 1 fun b70 o71 =>
 st h68 b70 o71 (.bool true) fun h72 =>
 J20 (found69,IntKind.wrap .i64 (s25+1),()) h72) (
 J20 (found19,IntKind.wrap .i64 (s25+1),()) h68)) h39) (
 J20 (found19,IntKind.wrap .i64 (s25+1),()) h39)) (
 J20 (found19,IntKind.wrap .i64 (s25+1),()) h39)) (
 newC h22 [.int .i64 found19] 3 fun b73 h74 =>
 rdS ⟨some ⟨b73,0,none⟩,1,1⟩ 1 h74 fun new=>app 3 1 8 [.int .i64 0] l 1 new h74 fun t75 h76 =>
 J2 (t75,IntKind.wrap .i64 (s19+1),()) h76)) s21.1 s21.2.1) (found,0,()) h18) (
 K l h3)) s.1 s.2.1) (⟨none,0,0⟩,0,()) h1
def ZR:ZtJ:=Yr ZaJ
abbrev ZtI:=Int→Int→((Option Addr)→Int→HP)→HP
def Ze0:ZtI:=fun _ _ _ _=>False
abbrev ZtH:=Int→Int→((Option Addr)→Int→HP)→HP
def ZeX:ZtH:=fun _ _ _ _=>False
abbrev ZtG:=(ByteArray × ByteArray × Bool × Int × Int × ByteArray × Int × Int × Int × Bool × Int × Bool × Unit)→((Option Addr × Option Addr × Unit)→HP)→HP
def Zcs (f36:ZtI) (f37:ZtH) (r:ByteArray × ByteArray × Bool × Int × Int × ByteArray × Int × Int × Int × Bool × Int × Bool × Unit) (K:(Option Addr × Option Addr × Unit)→HP) (h:Zc):Prop :=
 newC h [.string r.1,.string r.2.1,.bool r.2.2.1,.int .i64 r.2.2.2.1,.int .u8 r.2.2.2.2.1,.string r.2.2.2.2.2.1,.int .u8 r.2.2.2.2.2.2.1,.int .i64 r.2.2.2.2.2.2.2.1,.int .i64 r.2.2.2.2.2.2.2.2.1,.bool r.2.2.2.2.2.2.2.2.2.1,.int .i64 r.2.2.2.2.2.2.2.2.2.2.1,.bool r.2.2.2.2.2.2.2.2.2.2.2.1] 32 fun b h1 =>
 newC h1 [.pointer none,.pointer none] 126 fun b2 h3 =>
 newC h3 [.pointer none,.pointer none] 126 fun b4 h5 =>
 ZgR (σ:=Unit) (fun s h20 =>
 ldI h20 b (0+6) .u8 fun t21 =>
 Zr (t21 ==1) (
 ldI h20 b (0+3) .i64 fun t22 =>
 ldI h20 b (0+7) .i64 fun t23 =>
 f37 t22 t23 (fun t24 t25 h26 =>
 st h26 b4 (0+1) (.pointer t24) fun h27 =>
 ldP h27 b4 0 fun t28=>ldP h27 b4 (0+1) fun t29 =>
 sts h27 b2 0 [.pointer t28,.pointer t29] fun h30 =>
 ldP h30 b2 0 fun t31=>ldP h30 b2 (0+1) fun t32=>K (t31,t32,()) h30) h20) (
 ldI h20 b (0+6) .u8 fun t33 =>
 Zr (t33 ==3) (
 ldI h20 b (0+3) .i64 fun t34 =>
 ldI h20 b (0+7) .i64 fun t35 =>
 f37 t34 t35 (fun t36 t37 h38 =>
 st h38 b4 (0+1) (.pointer t36) fun h39 =>
 ldP h39 b4 0 fun t40=>ldP h39 b4 (0+1) fun t41 =>
 sts h39 b2 0 [.pointer t40,.pointer t41] fun h42 =>
 ldP h42 b2 0 fun t43=>ldP h42 b2 (0+1) fun t44=>K (t43,t44,()) h42) h20) (
 ldP h20 b4 0 fun t45=>ldP h20 b4 (0+1) fun t46 =>
 sts h20 b2 0 [.pointer t45,.pointer t46] fun h47 =>
 ldP h47 b2 0 fun t48=>ldP h47 b2 (0+1) fun t49=>K (t48,t49,()) h47))) (fun J6 =>
 ldI h5 b (0+6) .u8 fun t =>
 Zr (t ==2) (
 ldI h5 b (0+3) .i64 fun t7 =>
 ldI h5 b (0+8) .i64 fun t8 =>
 f36 t7 t8 (fun t9 t10 h11 =>
 st h11 b4 0 (.pointer t9) fun h12 =>
 J6 (()) h12) h5) (
 ldI h5 b (0+6) .u8 fun t13 =>
 Zr (t13 ==3) (
 ldI h5 b (0+3) .i64 fun t14 =>
 ldI h5 b (0+8) .i64 fun t15 =>
 f36 t14 t15 (fun t16 t17 h18 =>
 st h18 b4 0 (.pointer t16) fun h19 =>
 J6 (()) h19) h5) (
 J6 (()) h5)))
def Zai:ZtG:=Zcs Ze0 ZeX
abbrev ZtF:=(ByteArray × Int × Int × Int × Int × Int × Int × Unit)→(ByteArray × Int × Int × Int × Int × Int × Int × Unit)→(Bool→HP)→HP
def Zb8 (a:ByteArray × Int × Int × Int × Int × Int × Int × Unit) (b:ByteArray × Int × Int × Int × Int × Int × Int × Unit) (K:Bool→HP) (h:Zc):Prop :=
 newC h [.string a.1,.int .u8 a.2.1,.int .i64 a.2.2.1,.int .i64 a.2.2.2.1,.int .i64 a.2.2.2.2.1,.int .i64 a.2.2.2.2.2.1,.int .i64 a.2.2.2.2.2.2.1] 52 fun b1 h2 =>
 newC h2 [.string b.1,.int .u8 b.2.1,.int .i64 b.2.2.1,.int .i64 b.2.2.2.1,.int .i64 b.2.2.2.2.1,.int .i64 b.2.2.2.2.2.1,.int .i64 b.2.2.2.2.2.2.1] 52 fun b3 h4 =>
 ldS h4 b1 0 fun t=>ldI h4 b1 (0+1) .u8 fun t5=>ldI h4 b1 (0+2) .i64 fun t6=>ldI h4 b1 (0+3) .i64 fun t7=>ldI h4 b1 (0+4) .i64 fun t8=>ldI h4 b1 (0+5) .i64 fun t9=>ldI h4 b1 (0+6) .i64 fun t10 =>
 ldS h4 b3 0 fun t11=>ldI h4 b3 (0+1) .u8 fun t12=>ldI h4 b3 (0+2) .i64 fun t13=>ldI h4 b3 (0+3) .i64 fun t14=>ldI h4 b3 (0+4) .i64 fun t15=>ldI h4 b3 (0+5) .i64 fun t16=>ldI h4 b3 (0+6) .i64 fun t17 =>
 Zy (bif Xu t t11 then (bif t5 ==t12 then (bif t6 ==t13 then (bif t7 ==t14 then (bif t8 ==t15 then (bif t9 ==t16 then (bif t10 ==t17 then true else false) else false) else false) else false) else false) else false) else false) fun t18 =>
 K t18 h4
def ZaI:ZtF:=Zb8
abbrev ZtE:=Sl→Sl→(Sl→HP)→HP
def Ym (f39:ZtF) (now:Sl) (was:Sl) (K:Sl→HP) (h:Zc):Prop :=
 mkS 4 1 [.bool false] (was.len:Int) (was.len:Int) h fun t h1 =>
 YL (σ:=Sl × Int × Unit) (fun J2 s h3 =>
 (fun (l:Sl) (s19:Int) =>
 Zr (decide (s19<(now.len:Int))) (
 Xh now.ptr now.len s19 7 fun b o =>
 ldS h3 b o fun t4=>ldI h3 b (o+1) .u8 fun t5=>ldI h3 b (o+2) .i64 fun t6=>ldI h3 b (o+3) .i64 fun t7=>ldI h3 b (o+4) .i64 fun t8=>ldI h3 b (o+5) .i64 fun t9=>ldI h3 b (o+6) .i64 fun t10 =>
 newC h3 [.string (ByteArray.mk #[]),.int .u8 0,.int .i64 0,.int .i64 0,.int .i64 0,.int .i64 0,.int .i64 0] 52 fun b11 h12 =>
 sts h12 b11 0 [.string t4,.int .u8 t5,.int .i64 t6,.int .i64 t7,.int .i64 t8,.int .i64 t9,.int .i64 t10] fun h13 =>
 Ze (-1) fun found =>
 YL (σ:=Int × Int × Unit) (fun J15 s16 h17 =>
 (fun (found14:Int) (s25:Int) =>
 Zr (decide (s25<(was.len:Int))) (
 Xh was.ptr was.len s25 7 fun b18 o19 =>
 ldS h17 b18 o19 fun t20=>ldI h17 b18 (o19+1) .u8 fun t21=>ldI h17 b18 (o19+2) .i64 fun t22=>ldI h17 b18 (o19+3) .i64 fun t23=>ldI h17 b18 (o19+4) .i64 fun t24=>ldI h17 b18 (o19+5) .i64 fun t25=>ldI h17 b18 (o19+6) .i64 fun t26 =>
 newC h17 [.string (ByteArray.mk #[]),.int .u8 0,.int .i64 0,.int .i64 0,.int .i64 0,.int .i64 0,.int .i64 0] 52 fun b27 h28 =>
 Ze s25 fun i =>
 sts h28 b27 0 [.string t20,.int .u8 t21,.int .i64 t22,.int .i64 t23,.int .i64 t24,.int .i64 t25,.int .i64 t26] fun h29 =>
 Zr (decide (found14<0)) (
 Xh t.ptr t.len i 1 fun b30 o31 =>
 ldB h29 b30 o31 fun t32 =>
 Zr (!t32) (
 ldS h29 b11 0 fun t33=>ldI h29 b11 (0+1) .u8 fun t34=>ldI h29 b11 (0+2) .i64 fun t35=>ldI h29 b11 (0+3) .i64 fun t36=>ldI h29 b11 (0+4) .i64 fun t37=>ldI h29 b11 (0+5) .i64 fun t38=>ldI h29 b11 (0+6) .i64 fun t39 =>
 ldS h29 b27 0 fun t40=>ldI h29 b27 (0+1) .u8 fun t41=>ldI h29 b27 (0+2) .i64 fun t42=>ldI h29 b27 (0+3) .i64 fun t43=>ldI h29 b27 (0+4) .i64 fun t44=>ldI h29 b27 (0+5) .i64 fun t45=>ldI h29 b27 (0+6) .i64 fun t46 =>
 f39 (t33,t34,t35,t36,t37,t38,t39,()) (t40,t41,t42,t43,t44,t45,t46,()) (fun t47 h48 =>
 Zr t47 (
 Ze i fun found49 =>
 Xh t.ptr t.len i 1 fun b50 o51 =>
 st h48 b50 o51 (.bool true) fun h52 =>
 J15 (found49,IntKind.wrap .i64 (s25+1),()) h52) (
 J15 (found14,IntKind.wrap .i64 (s25+1),()) h48)) h29) (
 J15 (found14,IntKind.wrap .i64 (s25+1),()) h29)) (
 J15 (found14,IntKind.wrap .i64 (s25+1),()) h29)) (
 newC h17 [.int .i64 found14] 3 fun b53 h54 =>
 rdS ⟨some ⟨b53,0,none⟩,1,1⟩ 1 h54 fun new=>app 3 1 8 [.int .i64 0] l 1 new h54 fun t55 h56 =>
 J2 (t55,IntKind.wrap .i64 (s19+1),()) h56)) s16.1 s16.2.1) (found,0,()) h13) (
 K l h3)) s.1 s.2.1) (⟨none,0,0⟩,0,()) h1
def ZN:ZtE:=Ym ZaI
abbrev Zqp:=Int→Int→((Option Addr)→Int→HP)→HP
def Ze3 (width:Int) (buckets:Int) (K:(Option Addr)→Int→HP) (h:Zc):Prop :=
 Ze 0 fun t =>
 Zr (decide (width<1)) (
 Ze 2 fun t1 =>
 K none t1 h) (
 Zr (decide (width>1099511627776)) (
 Ze 2 fun t2 =>
 K none t2 h) (
 Zr (decide (buckets<1)) (
 Ze 2 fun t3 =>
 K none t3 h) (
 Zy (decide (buckets>60)) fun t4 =>
 Zr t4 (
 Ze 2 fun t5 =>
 K none t5 h) (
 ZP (buckets≠0) <|
 Zy ((Int.tmod width buckets) !=0) fun t6 =>
 Zr t6 (
 Ze 6 fun t7 =>
 K none t7 h) (
 ZeV h fun b h8 =>
 newC h8 [.int .i64 width,.int .i64 buckets,.int .i64 0,.map (some b)] 242 fun b9 h10 =>
 Ze 0 fun t11 =>
 K (some ⟨b9,0,none⟩) t11 h10)))))
def ZaU:Zqp:=Ze3
abbrev Zqo:=(Option Addr)→(HP)→HP
def Zb2 (f41:Zqp) (b:Option Addr) (K:HP) (h:Zc):Prop :=
 Zf b fun b1 o =>
 ldI h b1 (o+5) .i64 fun t =>
 f41 t 1 (fun t2 t3 h4 =>
 Zf b fun b5 o6 =>
 st h4 b5 (o6+7) (.pointer t2) fun h7 =>
 K h7) h
def Y3:Zqo:=Zb2 ZaU
abbrev ZtD:=(ByteArray × Int × Int × Int × Int × Int × Int × Unit)→((Option Addr)→Int→HP)→HP
def Zgb (f25:Zqr) (f42:Zqo) (r:ByteArray × Int × Int × Int × Int × Int × Int × Unit) (K:(Option Addr)→Int→HP) (h:Zc):Prop :=
 newC h [.string r.1,.int .u8 r.2.1,.int .i64 r.2.2.1,.int .i64 r.2.2.2.1,.int .i64 r.2.2.2.2.1,.int .i64 r.2.2.2.2.2.1,.int .i64 r.2.2.2.2.2.2.1] 52 fun b h1 =>
 Ze 0 fun t =>
 ldS h1 b 0 fun t2=>ldI h1 b (0+1) .u8 fun t3=>ldI h1 b (0+2) .i64 fun t4=>ldI h1 b (0+3) .i64 fun t5=>ldI h1 b (0+4) .i64 fun t6=>ldI h1 b (0+5) .i64 fun t7=>ldI h1 b (0+6) .i64 fun t8 =>
 f25 (t2,t3,t4,t5,t6,t7,t8,()) (fun t9 h10 =>
 Ze t9 fun e =>
 Zr (e !=0) (
 Ze e fun t11 =>
 K none t11 h10) (
 ldS h10 b 0 fun t12=>ldI h10 b (0+1) .u8 fun t13=>ldI h10 b (0+2) .i64 fun t14=>ldI h10 b (0+3) .i64 fun t15=>ldI h10 b (0+4) .i64 fun t16=>ldI h10 b (0+5) .i64 fun t17=>ldI h10 b (0+6) .i64 fun t18 =>
 newC h10 [.string t12,.int .u8 t13,.int .i64 t14,.int .i64 t15,.int .i64 t16,.int .i64 t17,.int .i64 t18,.pointer none,.int .u8 1,.int .i64 0,.int .i64 0,.int .i64 0] 165 fun b19 h20 =>
 f42 (some ⟨b19,0,none⟩) (fun h21 =>
 Ze 0 fun t22 =>
 K (some ⟨b19,0,none⟩) t22 h21) h20)) h1
def Zej:ZtD:=Zgb XW Y3
abbrev ZtC:=Sl→Sl→(Bool→HP)→HP
def X0 (s1:Sl) (s2:Sl) (K:Bool→HP) (h:Zc):Prop :=
 Zr ((s1.len:Int) !=(s2.len:Int)) (
 K false h) (
 YL (σ:=Int × Unit) (fun J1 s h2 =>
 (fun (s13:Int) =>
 Zr (decide (s13<(s1.len:Int))) (
 Ze s13 fun i =>
 Xh s1.ptr s1.len i 12 fun b o =>
 ldS h2 b o fun t=>ldS h2 b (o+1) fun t3=>ldB h2 b (o+2) fun t4=>ldI h2 b (o+3) .i64 fun t5=>ldI h2 b (o+4) .u8 fun t6=>ldS h2 b (o+5) fun t7=>ldI h2 b (o+6) .u8 fun t8=>ldI h2 b (o+7) .i64 fun t9=>ldI h2 b (o+8) .i64 fun t10=>ldB h2 b (o+9) fun t11=>ldI h2 b (o+10) .i64 fun t12=>ldB h2 b (o+11) fun t13 =>
 Xh s2.ptr s2.len i 12 fun b14 o15 =>
 ldS h2 b14 o15 fun t16=>ldS h2 b14 (o15+1) fun t17=>ldB h2 b14 (o15+2) fun t18=>ldI h2 b14 (o15+3) .i64 fun t19=>ldI h2 b14 (o15+4) .u8 fun t20=>ldS h2 b14 (o15+5) fun t21=>ldI h2 b14 (o15+6) .u8 fun t22=>ldI h2 b14 (o15+7) .i64 fun t23=>ldI h2 b14 (o15+8) .i64 fun t24=>ldB h2 b14 (o15+9) fun t25=>ldI h2 b14 (o15+10) .i64 fun t26=>ldB h2 b14 (o15+11) fun t27 =>
 Zr (!(bif Xu t t16 then (bif Xu t3 t17 then (bif t4 ==t18 then (bif t5 ==t19 then (bif t6 ==t20 then (bif Xu t7 t21 then (bif t8 ==t22 then (bif t9 ==t23 then (bif t10 ==t24 then (bif t11 ==t25 then (bif t12 ==t26 then (bif t13 ==t27 then true else false) else false) else false) else false) else false) else false) else false) else false) else false) else false) else false) else false)) (
 K false h2) (
 J1 (IntKind.wrap .i64 (s13+1),()) h2)) (
 K true h2)) s.1) (0,()) h)
def Y1:ZtC:=X0
abbrev ZtB:=Sl→Sl→(Bool→HP)→HP
def XH (s1:Sl) (s2:Sl) (K:Bool→HP) (h:Zc):Prop :=
 Zr ((s1.len:Int) !=(s2.len:Int)) (
 K false h) (
 YL (σ:=Int × Unit) (fun J1 s h2 =>
 (fun (s13:Int) =>
 Zr (decide (s13<(s1.len:Int))) (
 Ze s13 fun i =>
 Xh s1.ptr s1.len i 7 fun b o =>
 ldS h2 b o fun t=>ldI h2 b (o+1) .u8 fun t3=>ldI h2 b (o+2) .i64 fun t4=>ldI h2 b (o+3) .i64 fun t5=>ldI h2 b (o+4) .i64 fun t6=>ldI h2 b (o+5) .i64 fun t7=>ldI h2 b (o+6) .i64 fun t8 =>
 Xh s2.ptr s2.len i 7 fun b9 o10 =>
 ldS h2 b9 o10 fun t11=>ldI h2 b9 (o10+1) .u8 fun t12=>ldI h2 b9 (o10+2) .i64 fun t13=>ldI h2 b9 (o10+3) .i64 fun t14=>ldI h2 b9 (o10+4) .i64 fun t15=>ldI h2 b9 (o10+5) .i64 fun t16=>ldI h2 b9 (o10+6) .i64 fun t17 =>
 Zr (!(bif Xu t t11 then (bif t3 ==t12 then (bif t4 ==t13 then (bif t5 ==t14 then (bif t6 ==t15 then (bif t7 ==t16 then (bif t8 ==t17 then true else false) else false) else false) else false) else false) else false) else false)) (
 K false h2) (
 J1 (IntKind.wrap .i64 (s13+1),()) h2)) (
 K true h2)) s.1) (0,()) h)
def YQ:ZtB:=XH
abbrev ZtA:=Sl→Sl→(Bool→HP)→HP
def Xq (s1:Sl) (s2:Sl) (K:Bool→HP) (h:Zc):Prop :=
 Zr ((s1.len:Int) !=(s2.len:Int)) (
 K false h) (
 YL (σ:=Int × Unit) (fun J1 s h2 =>
 (fun (s13:Int) =>
 Zr (decide (s13<(s1.len:Int))) (
 Ze s13 fun i =>
 Xh s1.ptr s1.len i 5 fun b o =>
 ldI h2 b o .i64 fun t=>ldI h2 b (o+1) .i64 fun t3=>ldI h2 b (o+2) .i64 fun t4=>ldI h2 b (o+3) .i64 fun t5=>ldI h2 b (o+4) .i64 fun t6 =>
 Xh s2.ptr s2.len i 5 fun b7 o8 =>
 ldI h2 b7 o8 .i64 fun t9=>ldI h2 b7 (o8+1) .i64 fun t10=>ldI h2 b7 (o8+2) .i64 fun t11=>ldI h2 b7 (o8+3) .i64 fun t12=>ldI h2 b7 (o8+4) .i64 fun t13 =>
 Zr (!(bif t ==t9 then (bif t3 ==t10 then (bif t4 ==t11 then (bif t5 ==t12 then (bif t6 ==t13 then true else false) else false) else false) else false) else false)) (
 K false h2) (
 J1 (IntKind.wrap .i64 (s13+1),()) h2)) (
 K true h2)) s.1) (0,()) h)
def YG:ZtA:=Xq
abbrev Ztz:=Sl→Sl→(Bool→HP)→HP
def XZ (s1:Sl) (s2:Sl) (K:Bool→HP) (h:Zc):Prop :=
 Zr ((s1.len:Int) !=(s2.len:Int)) (
 K false h) (
 YL (σ:=Int × Unit) (fun J1 s h2 =>
 (fun (s13:Int) =>
 Zr (decide (s13<(s1.len:Int))) (
 Ze s13 fun i =>
 Xh s1.ptr s1.len i 2 fun b o =>
 ldS h2 b o fun t=>ldI h2 b (o+1) .i64 fun t3 =>
 Xh s2.ptr s2.len i 2 fun b4 o5 =>
 ldS h2 b4 o5 fun t6=>ldI h2 b4 (o5+1) .i64 fun t7 =>
 Zr (!(bif Xu t t6 then (bif t3 ==t7 then true else false) else false)) (
 K false h2) (
 J1 (IntKind.wrap .i64 (s13+1),()) h2)) (
 K true h2)) s.1) (0,()) h)
def Y0:Ztz:=XZ
abbrev Zty:=(ByteArray × Int × Int × Int × Sl × Unit)→(ByteArray × Int × Int × Int × Sl × Unit)→(Bool→HP)→HP
def Ze4 (f47:Ztz) (a:ByteArray × Int × Int × Int × Sl × Unit) (b:ByteArray × Int × Int × Int × Sl × Unit) (K:Bool→HP) (h:Zc):Prop :=
 newC h [.string a.1,.int .i64 a.2.1,.int .i64 a.2.2.1,.int .i64 a.2.2.2.1,.slice a.2.2.2.2.1.ptr a.2.2.2.2.1.len a.2.2.2.2.1.cap] 134 fun b1 h2 =>
 newC h2 [.string b.1,.int .i64 b.2.1,.int .i64 b.2.2.1,.int .i64 b.2.2.2.1,.slice b.2.2.2.2.1.ptr b.2.2.2.2.1.len b.2.2.2.2.1.cap] 134 fun b3 h4 =>
 ldS h4 b1 0 fun t =>
 ldS h4 b3 0 fun t5 =>
 Zr (Xu t t5) (
 ldI h4 b1 (0+1) .i64 fun t6 =>
 ldI h4 b3 (0+1) .i64 fun t7 =>
 Zr (t6 ==t7) (
 ldI h4 b1 (0+2) .i64 fun t8 =>
 ldI h4 b3 (0+2) .i64 fun t9 =>
 Zr (t8 ==t9) (
 ldI h4 b1 (0+3) .i64 fun t10 =>
 ldI h4 b3 (0+3) .i64 fun t11 =>
 Zr (t10 ==t11) (
 ldL h4 b1 (0+4) fun t12 =>
 ldL h4 b3 (0+4) fun t13 =>
 f47 t12 t13 (fun t14 h15 =>
 Zy t14 fun t16 =>
 K t16 h15) h4) (
 K false h4)) (
 K false h4)) (
 K false h4)) (
 K false h4)
def Zdi:Zty:=Ze4 Y0
abbrev Ztx:=Sl→Sl→(Bool→HP)→HP
def Yd (f48:Zty) (s1:Sl) (s2:Sl) (K:Bool→HP) (h:Zc):Prop :=
 Zr ((s1.len:Int) !=(s2.len:Int)) (
 K false h) (
 YL (σ:=Int × Unit) (fun J1 s h2 =>
 (fun (s17:Int) =>
 Zr (decide (s17<(s1.len:Int))) (
 Xh s1.ptr s1.len s17 5 fun b o =>
 ldS h2 b o fun t=>ldI h2 b (o+1) .i64 fun t3=>ldI h2 b (o+2) .i64 fun t4=>ldI h2 b (o+3) .i64 fun t5=>ldL h2 b (o+4) fun t6 =>
 newC h2 [.string (ByteArray.mk #[]),.int .i64 0,.int .i64 0,.int .i64 0,.slice none 0 0] 134 fun b7 h8 =>
 Ze s17 fun i =>
 sts h8 b7 0 [.string t,.int .i64 t3,.int .i64 t4,.int .i64 t5,.slice t6.ptr t6.len t6.cap] fun h9 =>
 Xh s2.ptr s2.len i 5 fun b10 o11 =>
 ldS h9 b10 o11 fun t12=>ldI h9 b10 (o11+1) .i64 fun t13=>ldI h9 b10 (o11+2) .i64 fun t14=>ldI h9 b10 (o11+3) .i64 fun t15=>ldL h9 b10 (o11+4) fun t16 =>
 newC h9 [.string (ByteArray.mk #[]),.int .i64 0,.int .i64 0,.int .i64 0,.slice none 0 0] 134 fun b17 h18 =>
 sts h18 b17 0 [.string t12,.int .i64 t13,.int .i64 t14,.int .i64 t15,.slice t16.ptr t16.len t16.cap] fun h19 =>
 ldS h19 b7 0 fun t20=>ldI h19 b7 (0+1) .i64 fun t21=>ldI h19 b7 (0+2) .i64 fun t22=>ldI h19 b7 (0+3) .i64 fun t23=>ldL h19 b7 (0+4) fun t24 =>
 ldS h19 b17 0 fun t25=>ldI h19 b17 (0+1) .i64 fun t26=>ldI h19 b17 (0+2) .i64 fun t27=>ldI h19 b17 (0+3) .i64 fun t28=>ldL h19 b17 (0+4) fun t29 =>
 f48 (t20,t21,t22,t23,t24,()) (t25,t26,t27,t28,t29,()) (fun t30 h31 =>
 Zr (!t30) (
 K false h31) (
 J1 (IntKind.wrap .i64 (s17+1),()) h31)) h19) (
 K true h2)) s.1) (0,()) h)
def ZO:Ztx:=Yd Zdi
abbrev Ztw:=Sl→Sl→(Bool→HP)→HP
def ZaD (s1:Sl) (s2:Sl) (K:Bool→HP) (h:Zc):Prop :=
 Zr ((s1.len:Int) !=(s2.len:Int)) (
 K false h) (
 YL (σ:=Int × Unit) (fun J1 s h2 =>
 (fun (s13:Int) =>
 Zr (decide (s13<(s1.len:Int))) (
 Ze s13 fun i =>
 Xh s1.ptr s1.len i 1 fun b o =>
 ldS h2 b o fun t =>
 Xh s2.ptr s2.len i 1 fun b3 o4 =>
 ldS h2 b3 o4 fun t5 =>
 Zr (!(Xu t t5)) (
 K false h2) (
 J1 (IntKind.wrap .i64 (s13+1),()) h2)) (
 K true h2)) s.1) (0,()) h)
def Xf:Ztw:=ZaD
abbrev Ztv:=(ByteArray × Bool × Sl × Unit)→(ByteArray × Bool × Sl × Unit)→(Bool→HP)→HP
def ZeD (f50:Ztw) (a:ByteArray × Bool × Sl × Unit) (b:ByteArray × Bool × Sl × Unit) (K:Bool→HP) (h:Zc):Prop :=
 newC h [.string a.1,.bool a.2.1,.slice a.2.2.1.ptr a.2.2.1.len a.2.2.1.cap] 160 fun b1 h2 =>
 newC h2 [.string b.1,.bool b.2.1,.slice b.2.2.1.ptr b.2.2.1.len b.2.2.1.cap] 160 fun b3 h4 =>
 ldS h4 b1 0 fun t =>
 ldS h4 b3 0 fun t5 =>
 Zr (Xu t t5) (
 ldB h4 b1 (0+1) fun t6 =>
 ldB h4 b3 (0+1) fun t7 =>
 Zr (t6 ==t7) (
 ldL h4 b1 (0+2) fun t8 =>
 ldL h4 b3 (0+2) fun t9 =>
 f50 t8 t9 (fun t10 h11 =>
 Zy t10 fun t12 =>
 K t12 h11) h4) (
 K false h4)) (
 K false h4)
def ZcP:Ztv:=ZeD Xf
abbrev Ztu:=Sl→Sl→(Bool→HP)→HP
def ZH (f51:Ztv) (s1:Sl) (s2:Sl) (K:Bool→HP) (h:Zc):Prop :=
 Zr ((s1.len:Int) !=(s2.len:Int)) (
 K false h) (
 YL (σ:=Int × Unit) (fun J1 s h2 =>
 (fun (s17:Int) =>
 Zr (decide (s17<(s1.len:Int))) (
 Xh s1.ptr s1.len s17 3 fun b o =>
 ldS h2 b o fun t=>ldB h2 b (o+1) fun t3=>ldL h2 b (o+2) fun t4 =>
 newC h2 [.string (ByteArray.mk #[]),.bool false,.slice none 0 0] 160 fun b5 h6 =>
 Ze s17 fun i =>
 sts h6 b5 0 [.string t,.bool t3,.slice t4.ptr t4.len t4.cap] fun h7 =>
 Xh s2.ptr s2.len i 3 fun b8 o9 =>
 ldS h7 b8 o9 fun t10=>ldB h7 b8 (o9+1) fun t11=>ldL h7 b8 (o9+2) fun t12 =>
 newC h7 [.string (ByteArray.mk #[]),.bool false,.slice none 0 0] 160 fun b13 h14 =>
 sts h14 b13 0 [.string t10,.bool t11,.slice t12.ptr t12.len t12.cap] fun h15 =>
 ldS h15 b5 0 fun t16=>ldB h15 b5 (0+1) fun t17=>ldL h15 b5 (0+2) fun t18 =>
 ldS h15 b13 0 fun t19=>ldB h15 b13 (0+1) fun t20=>ldL h15 b13 (0+2) fun t21 =>
 f51 (t16,t17,t18,()) (t19,t20,t21,()) (fun t22 h23 =>
 Zr (!t22) (
 K false h23) (
 J1 (IntKind.wrap .i64 (s17+1),()) h23)) h15) (
 K true h2)) s.1) (0,()) h)
def Zs:Ztu:=ZH ZcP
abbrev Ztt:=(Sl × Sl × Sl × Sl × Sl × Unit)→(Sl × Sl × Sl × Sl × Sl × Unit)→(Bool→HP)→HP
def Zg4 (f44:ZtC) (f45:ZtB) (f46:ZtA) (f49:Ztx) (f52:Ztu) (a:Sl × Sl × Sl × Sl × Sl × Unit) (b:Sl × Sl × Sl × Sl × Sl × Unit) (K:Bool→HP) (h:Zc):Prop :=
 newC h [.slice a.1.ptr a.1.len a.1.cap,.slice a.2.1.ptr a.2.1.len a.2.1.cap,.slice a.2.2.1.ptr a.2.2.1.len a.2.2.1.cap,.slice a.2.2.2.1.ptr a.2.2.2.1.len a.2.2.2.1.cap,.slice a.2.2.2.2.1.ptr a.2.2.2.2.1.len a.2.2.2.2.1.cap] 39 fun b1 h2 =>
 newC h2 [.slice b.1.ptr b.1.len b.1.cap,.slice b.2.1.ptr b.2.1.len b.2.1.cap,.slice b.2.2.1.ptr b.2.2.1.len b.2.2.1.cap,.slice b.2.2.2.1.ptr b.2.2.2.1.len b.2.2.2.1.cap,.slice b.2.2.2.2.1.ptr b.2.2.2.2.1.len b.2.2.2.2.1.cap] 39 fun b3 h4 =>
 ldL h4 b1 0 fun t =>
 ldL h4 b3 0 fun t5 =>
 f44 t t5 (fun t6 h7 =>
 Zr t6 (
 ldL h7 b1 (0+1) fun t8 =>
 ldL h7 b3 (0+1) fun t9 =>
 f45 t8 t9 (fun t10 h11 =>
 Zr t10 (
 ldL h11 b1 (0+3) fun t12 =>
 ldL h11 b3 (0+3) fun t13 =>
 f46 t12 t13 (fun t14 h15 =>
 Zr t14 (
 ldL h15 b1 (0+2) fun t16 =>
 ldL h15 b3 (0+2) fun t17 =>
 f49 t16 t17 (fun t18 h19 =>
 Zr t18 (
 ldL h19 b1 (0+4) fun t20 =>
 ldL h19 b3 (0+4) fun t21 =>
 f52 t20 t21 (fun t22 h23 =>
 Zy t22 fun t24 =>
 K t24 h23) h19) (
 K false h19)) h15) (
 K false h15)) h11) (
 K false h11)) h7) (
 K false h7)) h4
def ZeY:Ztt:=Zg4 Y1 YQ YG ZO Zs
abbrev Zts:=(ByteArray × Int × Int × Int × Sl × Unit)→(ByteArray × Int × Int × Int × Sl × Unit)→(Bool→HP)→HP
def Zb7 (f53:Ztt) (a:ByteArray × Int × Int × Int × Sl × Unit) (b:ByteArray × Int × Int × Int × Sl × Unit) (K:Bool→HP) (h:Zc):Prop :=
 newC h [.string a.1,.int .i64 a.2.1,.int .i64 a.2.2.1,.int .i64 a.2.2.2.1,.slice a.2.2.2.2.1.ptr a.2.2.2.2.1.len a.2.2.2.2.1.cap] 134 fun b1 h2 =>
 newC h2 [.string b.1,.int .i64 b.2.1,.int .i64 b.2.2.1,.int .i64 b.2.2.2.1,.slice b.2.2.2.2.1.ptr b.2.2.2.2.1.len b.2.2.2.2.1.cap] 134 fun b3 h4 =>
 ldS h4 b1 0 fun t=>ldI h4 b1 (0+1) .i64 fun t5=>ldI h4 b1 (0+2) .i64 fun t6=>ldI h4 b1 (0+3) .i64 fun t7=>ldL h4 b1 (0+4) fun t8 =>
 newC h4 [.string t,.int .i64 t5,.int .i64 t6,.int .i64 t7,.slice t8.ptr t8.len t8.cap] 134 fun b9 h10 =>
 ldS h10 b3 0 fun t11=>ldI h10 b3 (0+1) .i64 fun t12=>ldI h10 b3 (0+2) .i64 fun t13=>ldI h10 b3 (0+3) .i64 fun t14=>ldL h10 b3 (0+4) fun t15 =>
 newC h10 [.string t11,.int .i64 t12,.int .i64 t13,.int .i64 t14,.slice t15.ptr t15.len t15.cap] 134 fun b16 h17 =>
 f53 (⟨none,0,0⟩,⟨none,0,0⟩,⟨some ⟨b9,0,none⟩,1,1⟩,⟨none,0,0⟩,⟨none,0,0⟩,()) (⟨none,0,0⟩,⟨none,0,0⟩,⟨some ⟨b16,0,none⟩,1,1⟩,⟨none,0,0⟩,⟨none,0,0⟩,()) (fun t18 h19 =>
 Zy t18 fun t20 =>
 K t20 h19) h17
def ZaH:Zts:=Zb7 ZeY
abbrev Ztr:=Sl→Sl→(Sl→HP)→HP
def Ys (f54:Zts) (now:Sl) (was:Sl) (K:Sl→HP) (h:Zc):Prop :=
 mkS 4 1 [.bool false] (was.len:Int) (was.len:Int) h fun t h1 =>
 YL (σ:=Sl × Int × Unit) (fun J2 s h3 =>
 (fun (l:Sl) (s19:Int) =>
 Zr (decide (s19<(now.len:Int))) (
 Xh now.ptr now.len s19 5 fun b o =>
 ldS h3 b o fun t4=>ldI h3 b (o+1) .i64 fun t5=>ldI h3 b (o+2) .i64 fun t6=>ldI h3 b (o+3) .i64 fun t7=>ldL h3 b (o+4) fun t8 =>
 newC h3 [.string (ByteArray.mk #[]),.int .i64 0,.int .i64 0,.int .i64 0,.slice none 0 0] 134 fun b9 h10 =>
 sts h10 b9 0 [.string t4,.int .i64 t5,.int .i64 t6,.int .i64 t7,.slice t8.ptr t8.len t8.cap] fun h11 =>
 Ze (-1) fun found =>
 YL (σ:=Int × Int × Unit) (fun J13 s14 h15 =>
 (fun (found12:Int) (s25:Int) =>
 Zr (decide (s25<(was.len:Int))) (
 Xh was.ptr was.len s25 5 fun b16 o17 =>
 ldS h15 b16 o17 fun t18=>ldI h15 b16 (o17+1) .i64 fun t19=>ldI h15 b16 (o17+2) .i64 fun t20=>ldI h15 b16 (o17+3) .i64 fun t21=>ldL h15 b16 (o17+4) fun t22 =>
 newC h15 [.string (ByteArray.mk #[]),.int .i64 0,.int .i64 0,.int .i64 0,.slice none 0 0] 134 fun b23 h24 =>
 Ze s25 fun i =>
 sts h24 b23 0 [.string t18,.int .i64 t19,.int .i64 t20,.int .i64 t21,.slice t22.ptr t22.len t22.cap] fun h25 =>
 Zr (decide (found12<0)) (
 Xh t.ptr t.len i 1 fun b26 o27 =>
 ldB h25 b26 o27 fun t28 =>
 Zr (!t28) (
 ldS h25 b9 0 fun t29=>ldI h25 b9 (0+1) .i64 fun t30=>ldI h25 b9 (0+2) .i64 fun t31=>ldI h25 b9 (0+3) .i64 fun t32=>ldL h25 b9 (0+4) fun t33 =>
 ldS h25 b23 0 fun t34=>ldI h25 b23 (0+1) .i64 fun t35=>ldI h25 b23 (0+2) .i64 fun t36=>ldI h25 b23 (0+3) .i64 fun t37=>ldL h25 b23 (0+4) fun t38 =>
 f54 (t29,t30,t31,t32,t33,()) (t34,t35,t36,t37,t38,()) (fun t39 h40 =>
 Zr t39 (
 Ze i fun found41 =>
 Xh t.ptr t.len i 1 fun b42 o43 =>
 st h40 b42 o43 (.bool true) fun h44 =>
 J13 (found41,IntKind.wrap .i64 (s25+1),()) h44) (
 J13 (found12,IntKind.wrap .i64 (s25+1),()) h40)) h25) (
 J13 (found12,IntKind.wrap .i64 (s25+1),()) h25)) (
 J13 (found12,IntKind.wrap .i64 (s25+1),()) h25)) (
 newC h15 [.int .i64 found12] 3 fun b45 h46 =>
 rdS ⟨some ⟨b45,0,none⟩,1,1⟩ 1 h46 fun new=>app 3 1 8 [.int .i64 0] l 1 new h46 fun t47 h48 =>
 J2 (t47,IntKind.wrap .i64 (s19+1),()) h48)) s14.1 s14.2.1) (found,0,()) h11) (
 K l h3)) s.1 s.2.1) (⟨none,0,0⟩,0,()) h1
def ZS:Ztr:=Ys ZaH
abbrev Ztq:=(ByteArray × Int × Int × Int × Sl × Unit)→Int→Int→((Option Addr)→Int→HP)→HP
def ZhQ:Ztq:=fun _ _ _ _ _=>False
abbrev Ztp:=(Option Addr)→(Sl × Sl × Sl × Sl × Sl × Unit)→((Sl × Sl × Sl × Int × Unit)→HP)→HP
def Zbe (f35:ZtJ) (f38:ZtG) (f40:ZtE) (f43:ZtD) (f55:Ztr) (f56:Ztq) (e:Option Addr) (was:Sl × Sl × Sl × Sl × Sl × Unit) (K:(Sl × Sl × Sl × Int × Unit)→HP) (h:Zc):Prop :=
 newC h [.slice was.1.ptr was.1.len was.1.cap,.slice was.2.1.ptr was.2.1.len was.2.1.cap,.slice was.2.2.1.ptr was.2.2.1.len was.2.2.1.cap,.slice was.2.2.2.1.ptr was.2.2.2.1.len was.2.2.2.1.cap,.slice was.2.2.2.2.1.ptr was.2.2.2.2.1.len was.2.2.2.2.1.cap] 39 fun b h1 =>
 newC h1 [.slice none 0 0,.slice none 0 0,.slice none 0 0,.int .i64 0] 78 fun b2 h3 =>
 Zf e fun b4 o =>
 ldL h3 b4 (o+8) fun t=>ldL h3 b4 (o+8+1) fun t5=>ldL h3 b4 (o+8+2) fun t6=>ldI h3 b4 (o+8+3) .i64 fun t7 =>
 newC h3 [.slice none 0 0,.slice none 0 0,.slice none 0 0,.int .i64 0] 78 fun b8 h9 =>
 sts h9 b8 0 [.slice t.ptr t.len t.cap,.slice t5.ptr t5.len t5.cap,.slice t6.ptr t6.len t6.cap,.int .i64 t7] fun h10 =>
 ldI h10 b8 (0+3) .i64 fun t11 =>
 newC h10 [.slice none 0 0,.slice none 0 0,.slice none 0 0,.int .i64 0] 78 fun b12 h13 =>
 sts h13 b12 0 [.slice none 0 0,.slice none 0 0,.slice none 0 0,.int .i64 t11] fun h14 =>
 Zf e fun b15 o16 =>
 ldL h14 b15 (o16+3) fun t17 =>
 ldL h14 b 0 fun t18 =>
 f35 t17 t18 (fun t19 h20 =>
 YL (σ:=Int × Unit) (fun J21 s h22 =>
 (fun (s34:Int) =>
 Zr (decide (s34<(t19.len:Int))) (
 Xh t19.ptr t19.len s34 1 fun b23 o24 =>
 ldI h22 b23 o24 .i64 fun t25 =>
 Ze s34 fun k =>
 Ze t25 fun i =>
 Zr (decide (i≥0)) (
 ldL h22 b12 0 fun t26 =>
 ldL h22 b8 0 fun t27 =>
 Xh t27.ptr t27.len i 2 fun b28 o29 =>
 ldP h22 b28 o29 fun t30=>ldP h22 b28 (o29+1) fun t31 =>
 newC h22 [.pointer t30,.pointer t31] 126 fun b32 h33 =>
 ZP (Zo h33 [(b8,0,.slice t27.ptr t27.len t27.cap)]) <|
 ZP (Zo h33 [(b12,0,.slice t26.ptr t26.len t26.cap)]) <|
 rdS ⟨some ⟨b32,0,none⟩,1,1⟩ 2 h33 fun new=>app 126 2 16 [.pointer none,.pointer none] t26 1 new h33 fun t34 h35 =>
 ZP (Zo h35 [(b8,0,.slice t27.ptr t27.len t27.cap)]) <|
 st h35 b12 0 (.slice t34.ptr t34.len t34.cap) fun h36 =>
 J21 (IntKind.wrap .i64 (s34+1),()) h36) (
 Zf e fun b37 o38 =>
 ldL h22 b12 0 fun t39 =>
 ldL h22 b37 (o38+3) fun t40 =>
 Xh t40.ptr t40.len k 12 fun b41 o42 =>
 ldS h22 b41 o42 fun t43=>ldS h22 b41 (o42+1) fun t44=>ldB h22 b41 (o42+2) fun t45=>ldI h22 b41 (o42+3) .i64 fun t46=>ldI h22 b41 (o42+4) .u8 fun t47=>ldS h22 b41 (o42+5) fun t48=>ldI h22 b41 (o42+6) .u8 fun t49=>ldI h22 b41 (o42+7) .i64 fun t50=>ldI h22 b41 (o42+8) .i64 fun t51=>ldB h22 b41 (o42+9) fun t52=>ldI h22 b41 (o42+10) .i64 fun t53=>ldB h22 b41 (o42+11) fun t54 =>
 f38 (t43,t44,t45,t46,t47,t48,t49,t50,t51,t52,t53,t54,()) (fun t55 h56 =>
 ZP (Zo h56 [(b37,o38+3,.slice t40.ptr t40.len t40.cap)]) <|
 ZP (Zo h56 [(b12,0,.slice t39.ptr t39.len t39.cap)]) <|
 newC h56 [.pointer t55.1,.pointer t55.2.1] 126 fun b57 h58 =>
 ZP (Zo h58 [(b37,o38+3,.slice t40.ptr t40.len t40.cap)]) <|
 ZP (Zo h58 [(b12,0,.slice t39.ptr t39.len t39.cap)]) <|
 rdS ⟨some ⟨b57,0,none⟩,1,1⟩ 2 h58 fun new61=>app 126 2 16 [.pointer none,.pointer none] t39 1 new61 h58 fun t59 h60 =>
 ZP (Zo h60 [(b37,o38+3,.slice t40.ptr t40.len t40.cap)]) <|
 st h60 b12 0 (.slice t59.ptr t59.len t59.cap) fun h62 =>
 J21 (IntKind.wrap .i64 (s34+1),()) h62) h22)) (
 Zf e fun b63 o64 =>
 ldL h22 b63 (o64+3+1) fun t65 =>
 ldL h22 b (0+1) fun t66 =>
 f40 t65 t66 (fun t67 h68 =>
 YL (σ:=Int × Unit) (fun J69 s70 h71 =>
 (fun (s75:Int) =>
 Zr (decide (s75<(t67.len:Int))) (
 Xh t67.ptr t67.len s75 1 fun b72 o73 =>
 ldI h71 b72 o73 .i64 fun t74 =>
 Ze s75 fun k75 =>
 Ze t74 fun i76 =>
 Zr (decide (i76≥0)) (
 ldL h71 b12 (0+1) fun t77 =>
 ldL h71 b8 (0+1) fun t78 =>
 Xh t78.ptr t78.len i76 2 fun b79 o80 =>
 ldP h71 b79 o80 fun t81=>ldI h71 b79 (o80+1) .i64 fun t82 =>
 newC h71 [.pointer t81,.int .i64 t82] 95 fun b83 h84 =>
 ZP (Zo h84 [(b8,0+1,.slice t78.ptr t78.len t78.cap)]) <|
 ZP (Zo h84 [(b12,0+1,.slice t77.ptr t77.len t77.cap)]) <|
 rdS ⟨some ⟨b83,0,none⟩,1,1⟩ 2 h84 fun new87=>app 95 2 16 [.pointer none,.int .i64 0] t77 1 new87 h84 fun t85 h86 =>
 ZP (Zo h86 [(b8,0+1,.slice t78.ptr t78.len t78.cap)]) <|
 st h86 b12 (0+1) (.slice t85.ptr t85.len t85.cap) fun h88 =>
 J69 (IntKind.wrap .i64 (s75+1),()) h88) (
 Zf e fun b89 o90 =>
 ldL h71 b89 (o90+3+1) fun t91 =>
 Xh t91.ptr t91.len k75 7 fun b92 o93 =>
 ldS h71 b92 o93 fun t94=>ldI h71 b92 (o93+1) .u8 fun t95=>ldI h71 b92 (o93+2) .i64 fun t96=>ldI h71 b92 (o93+3) .i64 fun t97=>ldI h71 b92 (o93+4) .i64 fun t98=>ldI h71 b92 (o93+5) .i64 fun t99=>ldI h71 b92 (o93+6) .i64 fun t100 =>
 f43 (t94,t95,t96,t97,t98,t99,t100,()) (fun t101 t102 h103 =>
 Ze t102 fun x =>
 ldI h103 b12 (0+3) .i64 fun t104 =>
 st h103 b12 (0+3) (.int .i64 (IntKind.wrap .i64 (t104+1))) fun h105 =>
 ldL h105 b12 (0+1) fun t106 =>
 ldI h105 b12 (0+3) .i64 fun t107 =>
 newC h105 [.pointer t101,.int .i64 t107] 95 fun b108 h109 =>
 rdS ⟨some ⟨b108,0,none⟩,1,1⟩ 2 h109 fun new112=>app 95 2 16 [.pointer none,.int .i64 0] t106 1 new112 h109 fun t110 h111 =>
 st h111 b12 (0+1) (.slice t110.ptr t110.len t110.cap) fun h113 =>
 J69 (IntKind.wrap .i64 (s75+1),()) h113) h71)) (
 Zf e fun b114 o115 =>
 ldL h71 b114 (o115+3+2) fun t116 =>
 ldL h71 b (0+2) fun t117 =>
 f55 t116 t117 (fun t118 h119 =>
 YL (σ:=Int × Unit) (fun J120 s121 h122 =>
 (fun (s128:Int) =>
 Zr (decide (s128<(t118.len:Int))) (
 Xh t118.ptr t118.len s128 1 fun b123 o124 =>
 ldI h122 b123 o124 .i64 fun t125 =>
 Ze s128 fun k126 =>
 Ze t125 fun i127 =>
 Zr (decide (i127≥0)) (
 ldL h122 b12 (0+2) fun t128 =>
 ldL h122 b8 (0+2) fun t129 =>
 Xh t129.ptr t129.len i127 1 fun b130 o131 =>
 ldP h122 b130 o131 fun t132 =>
 newC h122 [.pointer t132] 138 fun b133 h134 =>
 ZP (Zo h134 [(b8,0+2,.slice t129.ptr t129.len t129.cap)]) <|
 ZP (Zo h134 [(b12,0+2,.slice t128.ptr t128.len t128.cap)]) <|
 rdS ⟨some ⟨b133,0,none⟩,1,1⟩ 1 h134 fun new137=>app 138 1 8 [.pointer none] t128 1 new137 h134 fun t135 h136 =>
 ZP (Zo h136 [(b8,0+2,.slice t129.ptr t129.len t129.cap)]) <|
 st h136 b12 (0+2) (.slice t135.ptr t135.len t135.cap) fun h138 =>
 J120 (IntKind.wrap .i64 (s128+1),()) h138) (
 Zf e fun b139 o140 =>
 Zf e fun b141 o142 =>
 Zf e fun b143 o144 =>
 ldL h122 b139 (o140+3+2) fun t145 =>
 Xh t145.ptr t145.len k126 5 fun b146 o147 =>
 ldS h122 b146 o147 fun t148=>ldI h122 b146 (o147+1) .i64 fun t149=>ldI h122 b146 (o147+2) .i64 fun t150=>ldI h122 b146 (o147+3) .i64 fun t151=>ldL h122 b146 (o147+4) fun t152 =>
 ldI h122 b141 o142 .i64 fun t153 =>
 ldI h122 b143 (o144+1) .u64 fun t154 =>
 f56 (t148,t149,t150,t151,t152,()) t153 t154 (fun t155 t156 h157 =>
 ZP (Zo h157 [(b139,o140+3+2,.slice t145.ptr t145.len t145.cap)]) <|
 Ze t156 fun x158 =>
 ldL h157 b12 (0+2) fun t159 =>
 newC h157 [.pointer t155] 138 fun b160 h161 =>
 rdS ⟨some ⟨b160,0,none⟩,1,1⟩ 1 h161 fun new164=>app 138 1 8 [.pointer none] t159 1 new164 h161 fun t162 h163 =>
 st h163 b12 (0+2) (.slice t162.ptr t162.len t162.cap) fun h165 =>
 J120 (IntKind.wrap .i64 (s128+1),()) h165) h122)) (
 ldL h122 b12 0 fun t166=>ldL h122 b12 (0+1) fun t167=>ldL h122 b12 (0+2) fun t168=>ldI h122 b12 (0+3) .i64 fun t169 =>
 sts h122 b2 0 [.slice t166.ptr t166.len t166.cap,.slice t167.ptr t167.len t167.cap,.slice t168.ptr t168.len t168.cap,.int .i64 t169] fun h170 =>
 ldL h170 b2 0 fun t171=>ldL h170 b2 (0+1) fun t172=>ldL h170 b2 (0+2) fun t173=>ldI h170 b2 (0+3) .i64 fun t174=>K (t171,t172,t173,t174,()) h170)) s121.1) (0,()) h119) h71)) s70.1) (0,()) h68) h22)) s.1) (0,()) h20) h14
def Xo:Ztp:=Zbe ZR Zai ZN Zej ZS ZhQ
abbrev Zqn:=(Option Addr)→(Sl × Sl × Sl × Sl × Sl × Unit)→(Int→HP)→HP
def Zbv (f32:ZtM) (f33:ZtL) (f57:Ztp) (e:Option Addr) (r:Sl × Sl × Sl × Sl × Sl × Unit) (K:Int→HP) (h:Zc):Prop :=
 newC h [.slice r.1.ptr r.1.len r.1.cap,.slice r.2.1.ptr r.2.1.len r.2.1.cap,.slice r.2.2.1.ptr r.2.2.1.len r.2.2.1.cap,.slice r.2.2.2.1.ptr r.2.2.2.1.len r.2.2.2.1.cap,.slice r.2.2.2.2.1.ptr r.2.2.2.2.1.len r.2.2.2.2.1.cap] 39 fun b h1 =>
 Ze 0 fun t =>
 Zr e.isNone (
 Ze 1 fun t2 =>
 K t2 h1) (
 Zf e fun b3 o =>
 ldP h1 b3 (o+2) fun t4 =>
 ldL h1 b 0 fun t5=>ldL h1 b (0+1) fun t6=>ldL h1 b (0+2) fun t7=>ldL h1 b (0+3) fun t8=>ldL h1 b (0+4) fun t9 =>
 f32 t4 (t5,t6,t7,t8,t9,()) (fun t10 h11 =>
 Ze t10 fun err =>
 Zr (err !=0) (
 Ze err fun t12 =>
 K t12 h11) (
 Zf e fun b13 o14 =>
 ldL h11 b13 (o14+3) fun t15=>ldL h11 b13 (o14+3+1) fun t16=>ldL h11 b13 (o14+3+2) fun t17=>ldL h11 b13 (o14+3+3) fun t18=>ldL h11 b13 (o14+3+4) fun t19 =>
 newC h11 [.slice none 0 0,.slice none 0 0,.slice none 0 0,.slice none 0 0,.slice none 0 0] 39 fun b20 h21 =>
 sts h21 b20 0 [.slice t15.ptr t15.len t15.cap,.slice t16.ptr t16.len t16.cap,.slice t17.ptr t17.len t17.cap,.slice t18.ptr t18.len t18.cap,.slice t19.ptr t19.len t19.cap] fun h22 =>
 Zf e fun b23 o24 =>
 ldP h22 b23 (o24+2) fun t25 =>
 f33 t25 (fun t26 t27 h28 =>
 Zf e fun b29 o30 =>
 sts h28 b29 (o30+3) [.slice t26.1.ptr t26.1.len t26.1.cap,.slice t26.2.1.ptr t26.2.1.len t26.2.1.cap,.slice t26.2.2.1.ptr t26.2.2.1.len t26.2.2.1.cap,.slice t26.2.2.2.1.ptr t26.2.2.2.1.len t26.2.2.2.1.cap,.slice t26.2.2.2.2.1.ptr t26.2.2.2.2.1.len t26.2.2.2.2.1.cap] fun h31 =>
 Zf e fun b32 o33 =>
 ldL h31 b20 0 fun t34=>ldL h31 b20 (0+1) fun t35=>ldL h31 b20 (0+2) fun t36=>ldL h31 b20 (0+3) fun t37=>ldL h31 b20 (0+4) fun t38 =>
 f57 (some ⟨b32,o33,none⟩) (t34,t35,t36,t37,t38,()) (fun t39 h40 =>
 Zf e fun b41 o42 =>
 sts h40 b41 (o42+8) [.slice t39.1.ptr t39.1.len t39.1.cap,.slice t39.2.1.ptr t39.2.1.len t39.2.1.cap,.slice t39.2.2.1.ptr t39.2.2.1.len t39.2.2.1.cap,.int .i64 t39.2.2.2.1] fun h43 =>
 Ze 0 fun t44 =>
 K t44 h43) h31) h22)) h1)
def YP:Zqn:=Zbv XV Zaj Xo
abbrev ZjV:=(Int × ByteArray × ByteArray × ByteArray × Bool × Int × Sl × Unit)→(Sl→Int→HP)→HP
def ZfM (f5:zT5) (c:Int × ByteArray × ByteArray × ByteArray × Bool × Int × Sl × Unit) (K:Sl→Int→HP) (h:Zc):Prop :=
 newC h [.int .i64 c.1,.string c.2.1,.string c.2.2.1,.string c.2.2.2.1,.bool c.2.2.2.2.1,.int .i64 c.2.2.2.2.2.1,.slice c.2.2.2.2.2.2.1.ptr c.2.2.2.2.2.2.1.len c.2.2.2.2.2.2.1.cap] 47 fun b h1 =>
 Ze 0 fun t =>
 ZgR (σ:=Unit) (fun s h16 =>
 ldS h16 b (0+2) fun t17 =>
 ldS h16 b (0+1) fun t18 =>
 ldS h16 b (0+1) fun t19 =>
 newC h16 [.int .u8 3,.string t17,.string t18,.string (ByteArray.mk #[]),.int .u8 4,.string (ByteArray.mk #[]),.string t19,.string (ByteArray.mk #[])] 102 fun b20 h21 =>
 ZgR (σ:=Sl × Unit) (fun s30 h31 =>
 (fun (l:Sl) =>
 ldS h31 b (0+2) fun t32 =>
 newC h31 [.int .u8 2,.string t32,.string (ByteArray.mk #[]),.string (ByteArray.mk #[])] 102 fun b33 h34 =>
 rdS ⟨some ⟨b33,0,none⟩,1,1⟩ 4 h34 fun new37=>app 102 4 56 [.int .u8 0,.string (ByteArray.mk #[]),.string (ByteArray.mk #[]),.string (ByteArray.mk #[])] l 1 new37 h34 fun t35 h36 =>
 ldB h36 b (0+4) fun t38 =>
 Zr t38 (
 newC h36 [.int .u8 1,.string (ByteArray.mk #[]),.string (ByteArray.mk #[]),.string (ByteArray.mk #[])] 102 fun b39 h40 =>
 rdS ⟨some ⟨b39,0,none⟩,1,1⟩ 4 h40 fun new43=>app 102 4 56 [.int .u8 0,.string (ByteArray.mk #[]),.string (ByteArray.mk #[]),.string (ByteArray.mk #[])] t35 1 new43 h40 fun t41 h42 =>
 Ze 0 fun t44 =>
 K t41 t44 h42) (
 Ze 0 fun t45 =>
 K t35 t45 h36)) s30.1) (fun J22 =>
 ldS h21 b (0+3) fun t23 =>
 Zr (!(Xu t23 (ByteArray.mk #[]))) (
 ldS h21 b (0+1) fun t24 =>
 ldS h21 b (0+3) fun t25 =>
 newC h21 [.int .u8 5,.string (ByteArray.mk #[]),.string t24,.string t25] 102 fun b26 h27 =>
 rdS ⟨some ⟨b26,0,none⟩,1,1⟩ 4 h27 fun new=>app 102 4 56 [.int .u8 0,.string (ByteArray.mk #[]),.string (ByteArray.mk #[]),.string (ByteArray.mk #[])] ⟨some ⟨b20,0,none⟩,2,2⟩ 1 new h27 fun t28 h29 =>
 J22 (t28,()) h29) (
 J22 (⟨some ⟨b20,0,none⟩,2,2⟩,()) h21))) (fun J2 =>
 ldS h1 b (0+1) fun t3 =>
 f5 t3 (fun t4 h5 =>
 Zr (!t4) (
 Ze 10 fun t6 =>
 K ⟨none,0,0⟩ t6 h5) (
 ldS h5 b (0+2) fun t7 =>
 f5 t7 (fun t8 h9 =>
 Zr (!t8) (
 Ze 10 fun t10 =>
 K ⟨none,0,0⟩ t10 h9) (
 ldS h9 b (0+3) fun t11 =>
 Zr (!(Xu t11 (ByteArray.mk #[]))) (
 ldS h9 b (0+3) fun t12 =>
 f5 t12 (fun t13 h14 =>
 Zr (!t13) (
 Ze 10 fun t15 =>
 K ⟨none,0,0⟩ t15 h14) (
 J2 (()) h14)) h9) (
 J2 (()) h9))) h5)) h1)
def YZ:ZjV:=ZfM Y6
abbrev Zto:=ByteArray→(Bool→HP)→HP
def ZaO (s:ByteArray) (K:Bool→HP) (h:Zc):Prop :=
 Zy (decide ((s.size:Int)>64)) fun t =>
 K t h
def XI:Zto:=ZaO
abbrev Ztn:=Sl→(Int→HP)→HP
def Z7 (f60:Zto) (s:Sl) (K:Int→HP) (h:Zc):Prop :=
 Ze 0 fun t =>
 YL (σ:=Int × Unit) (fun J1 s2 h3 =>
 (fun (s8:Int) =>
 Zr (decide (s8<(s.len:Int))) (
 Ze s8 fun i =>
 Xh s.ptr s.len i 1 fun b o =>
 ldS h3 b o fun t4 =>
 f60 t4 (fun t5 h6 =>
 Zr t5 (
 Ze i fun t7 =>
 K t7 h6) (
 J1 (IntKind.wrap .i64 (s8+1),()) h6)) h3) (
 Ze (-1) fun t8 =>
 K t8 h3)) s2.1) (0,()) h
def ZK:Ztn:=Z7 XI
abbrev Ztm:=Sl→(Bool→HP)→HP
def Z0 (f61:Ztn) (s:Sl) (K:Bool→HP) (h:Zc):Prop :=
 f61 s (fun t h1 =>
 Zy (decide (t≥0)) fun t2 =>
 K t2 h1) h
def Zu:Ztm:=Z0 ZK
abbrev ZmZ:=(Option Addr)→Sl→(Int→HP)→HP
def ZbR (n:Option Addr) (l:Sl) (K:Int→HP) (h:Zc):Prop :=
 Ze 0 fun t =>
 ZeV h fun b h1 =>
 YL (σ:=Int × Unit) (fun J2 s h3 =>
 (fun (s11:Int) =>
 Zr (decide (s11<(l.len:Int))) (
 Xh l.ptr l.len s11 4 fun b4 o =>
 ldI h3 b4 o .u8 fun t5=>ldS h3 b4 (o+1) fun t6=>ldS h3 b4 (o+2) fun t7=>ldS h3 b4 (o+3) fun t8 =>
 newC h3 [.int .u8 0,.string (ByteArray.mk #[]),.string (ByteArray.mk #[]),.string (ByteArray.mk #[])] 102 fun b9 h10 =>
 sts h10 b9 0 [.int .u8 t5,.string t6,.string t7,.string t8] fun h11 =>
 Zf n fun b12 o13 =>
 ldM h11 b12 o13 fun t14 =>
 ldI h11 b9 0 .u8 fun t15=>ldS h11 b9 (0+1) fun t16=>ldS h11 b9 (0+2) fun t17=>ldS h11 b9 (0+3) fun t18 =>
 ZbD [(.int .u8),.string,.string,.string] h11 t14 [.int .u8 t15,.string t16,.string t17,.string t18] fun r=>asP (r.getD (.pointer none)) fun t19 =>
 Zr t19.isNone (
 ldI h11 b9 0 .u8 fun t20=>ldS h11 b9 (0+1) fun t21=>ldS h11 b9 (0+2) fun t22=>ldS h11 b9 (0+3) fun t23 =>
 ZgI [(.int .u8),.string,.string,.string] h11 (some b) [.int .u8 t20,.string t21,.string t22,.string t23] (.bool true) fun h24 =>
 J2 (IntKind.wrap .i64 (s11+1),()) h24) (
 J2 (IntKind.wrap .i64 (s11+1),()) h11)) (
 ZuT h3 (some b) fun t25 =>
 Ze t25 fun t26 =>
 K t26 h3)) s.1) (0,()) h1
def Yo:ZmZ:=ZbR
abbrev Ztl:=((Option Addr)→HP)→HP
def ZgO (f41:Zqp) (K:(Option Addr)→HP) (h:Zc):Prop :=
 f41 1000000 10 (fun t t1 h2 =>
 Ze t1 fun x =>
 f41 2000000 2 (fun t3 t4 h5 =>
 Ze t4 fun x6 =>
 newC h5 [.pointer t,.pointer t3,.int .i64 0] 179 fun b h7 =>
 K (some ⟨b,0,none⟩) h7) h2) h
def Zd4:Ztl:=ZgO ZaU
abbrev ZmY:=(Option Addr)→(Int × ByteArray × ByteArray × ByteArray × Unit)→(HP)→HP
def ZbQ (f64:Ztl) (n:Option Addr) (k:Int × ByteArray × ByteArray × ByteArray × Unit) (K:HP) (h:Zc):Prop :=
 newC h [.int .u8 k.1,.string k.2.1,.string k.2.2.1,.string k.2.2.2.1] 102 fun b h1 =>
 Zf n fun b2 o =>
 ldM h1 b2 o fun t =>
 ldI h1 b 0 .u8 fun t3=>ldS h1 b (0+1) fun t4=>ldS h1 b (0+2) fun t5=>ldS h1 b (0+3) fun t6 =>
 ZbD [(.int .u8),.string,.string,.string] h1 t [.int .u8 t3,.string t4,.string t5,.string t6] fun r=>asP (r.getD (.pointer none)) fun t7 =>
 Zr t7.isNone (
 Zf n fun b8 o9 =>
 ldM h1 b8 o9 fun t10 =>
 ldI h1 b 0 .u8 fun t11=>ldS h1 b (0+1) fun t12=>ldS h1 b (0+2) fun t13=>ldS h1 b (0+3) fun t14 =>
 f64 (fun t15 h16 =>
 ZP (Zo h16 [(b,0,.int .u8 t11),(b,0+1,.string t12),(b,0+2,.string t13),(b,0+3,.string t14)]) <|
 ZP (Zo h16 [(b8,o9,.map t10)]) <|
 ZgI [(.int .u8),.string,.string,.string] h16 t10 [.int .u8 t11,.string t12,.string t13,.string t14] (.pointer t15) fun h17 =>
 Zf n fun b18 o19 =>
 ldL h17 b18 (o19+1) fun t20 =>
 ldI h17 b 0 .u8 fun t21=>ldS h17 b (0+1) fun t22=>ldS h17 b (0+2) fun t23=>ldS h17 b (0+3) fun t24 =>
 newC h17 [.int .u8 t21,.string t22,.string t23,.string t24] 102 fun b25 h26 =>
 ZP (Zo h26 [(b18,o19+1,.slice t20.ptr t20.len t20.cap)]) <|
 rdS ⟨some ⟨b25,0,none⟩,1,1⟩ 4 h26 fun new=>app 102 4 56 [.int .u8 0,.string (ByteArray.mk #[]),.string (ByteArray.mk #[]),.string (ByteArray.mk #[])] t20 1 new h26 fun t27 h28 =>
 Zf n fun b29 o30 =>
 st h28 b29 (o30+1) (.slice t27.ptr t27.len t27.cap) fun h31 =>
 K h31) h1) (
 K h1)
def Yn:ZmY:=ZbQ Zd4
abbrev Ztk:=(Option Addr)→Sl→(Int→HP)→HP
def Zck (f59:ZjV) (f63:ZmZ) (f65:ZmY) (t:Option Addr) (calls:Sl) (K:Int→HP) (h:Zc):Prop :=
 Ze 0 fun t1 =>
 Zr t.isNone (
 Ze 1 fun t2 =>
 K t2 h) (
 YL (σ:=Sl × Int × Unit) (fun J3 s h4 =>
 (fun (all:Sl) (s16:Int) =>
 Zr (decide (s16<(calls.len:Int))) (
 Xh calls.ptr calls.len s16 7 fun b o =>
 ldI h4 b o .i64 fun t5=>ldS h4 b (o+1) fun t6=>ldS h4 b (o+2) fun t7=>ldS h4 b (o+3) fun t8=>ldB h4 b (o+4) fun t9=>ldI h4 b (o+5) .i64 fun t10=>ldL h4 b (o+6) fun t11 =>
 newC h4 [.int .i64 0,.string (ByteArray.mk #[]),.string (ByteArray.mk #[]),.string (ByteArray.mk #[]),.bool false,.int .i64 0,.slice none 0 0] 47 fun b12 h13 =>
 sts h13 b12 0 [.int .i64 t5,.string t6,.string t7,.string t8,.bool t9,.int .i64 t10,.slice t11.ptr t11.len t11.cap] fun h14 =>
 ldI h14 b12 0 .i64 fun t15=>ldS h14 b12 (0+1) fun t16=>ldS h14 b12 (0+2) fun t17=>ldS h14 b12 (0+3) fun t18=>ldB h14 b12 (0+4) fun t19=>ldI h14 b12 (0+5) .i64 fun t20=>ldL h14 b12 (0+6) fun t21 =>
 f59 (t15,t16,t17,t18,t19,t20,t21,()) (fun t22 t23 h24 =>
 Ze t23 fun e =>
 Zr (e !=0) (
 Ze e fun t25 =>
 K t25 h24) (
 rdS t22 4 h24 fun new=>app 102 4 56 [.int .u8 0,.string (ByteArray.mk #[]),.string (ByteArray.mk #[]),.string (ByteArray.mk #[])] all t22.len new h24 fun t26 h27 =>
 J3 (t26,IntKind.wrap .i64 (s16+1),()) h27)) h14) (
 Zf t fun b28 o29 =>
 Zf t fun b30 o31 =>
 ldL h4 b30 (o31+1) fun t32 =>
 f63 (some ⟨b28,o29,none⟩) all (fun t33 h34 =>
 ZP (Zo h34 [(b30,o31+1,.slice t32.ptr t32.len t32.cap)]) <|
 Zr (decide (t33>(IntKind.wrap .i64 ((512:Int) - (t32.len:Int))))) (
 Ze 3 fun t35 =>
 K t35 h34) (
 YL (σ:=Int × Unit) (fun J36 s37 h38 =>
 (fun (s47:Int) =>
 Zr (decide (s47<(all.len:Int))) (
 Xh all.ptr all.len s47 4 fun b39 o40 =>
 ldI h38 b39 o40 .u8 fun t41=>ldS h38 b39 (o40+1) fun t42=>ldS h38 b39 (o40+2) fun t43=>ldS h38 b39 (o40+3) fun t44 =>
 newC h38 [.int .u8 0,.string (ByteArray.mk #[]),.string (ByteArray.mk #[]),.string (ByteArray.mk #[])] 102 fun b45 h46 =>
 sts h46 b45 0 [.int .u8 t41,.string t42,.string t43,.string t44] fun h47 =>
 Zf t fun b48 o49 =>
 ldI h47 b45 0 .u8 fun t50=>ldS h47 b45 (0+1) fun t51=>ldS h47 b45 (0+2) fun t52=>ldS h47 b45 (0+3) fun t53 =>
 f65 (some ⟨b48,o49,none⟩) (t50,t51,t52,t53,()) (fun h54 =>
 J36 (IntKind.wrap .i64 (s47+1),()) h54) h47) (
 Ze 0 fun t55 =>
 K t55 h38)) s37.1) (0,()) h34)) h4)) s.1 s.2.1) (⟨none,0,0⟩,0,()) h)
def Zaa:Ztk:=Zck YZ Yo Yn
abbrev Ztj:=(Option Addr)→(Int × ByteArray × ByteArray × ByteArray × Bool × Int × Sl × Unit)→(Int→HP)→HP
def Zbd (f59:ZjV) (f62:Ztm) (f66:Ztk) (e:Option Addr) (c:Int × ByteArray × ByteArray × ByteArray × Bool × Int × Sl × Unit) (K:Int→HP) (h:Zc):Prop :=
 newC h [.int .i64 c.1,.string c.2.1,.string c.2.2.1,.string c.2.2.2.1,.bool c.2.2.2.2.1,.int .i64 c.2.2.2.2.2.1,.slice c.2.2.2.2.2.2.1.ptr c.2.2.2.2.2.2.1.len c.2.2.2.2.2.2.1.cap] 47 fun b h1 =>
 Ze 0 fun t =>
 ldI h1 b 0 .i64 fun t2=>ldS h1 b (0+1) fun t3=>ldS h1 b (0+2) fun t4=>ldS h1 b (0+3) fun t5=>ldB h1 b (0+4) fun t6=>ldI h1 b (0+5) .i64 fun t7=>ldL h1 b (0+6) fun t8 =>
 f59 (t2,t3,t4,t5,t6,t7,t8,()) (fun t9 t10 h11 =>
 Ze t10 fun err =>
 Zr (err !=0) (
 Ze err fun t12 =>
 K t12 h11) (
 ldI h11 b 0 .i64 fun t13 =>
 Zr (decide (t13<0)) (
 Ze 2 fun t14 =>
 K t14 h11) (
 ldI h11 b 0 .i64 fun t15 =>
 Zr (decide (t15>1152921504606846976)) (
 Ze 2 fun t16 =>
 K t16 h11) (
 ldI h11 b (0+5) .i64 fun t17 =>
 Zr (decide (t17<1)) (
 Ze 2 fun t18 =>
 K t18 h11) (
 ldI h11 b (0+5) .i64 fun t19 =>
 Zy (decide (t19>1099511627776)) fun t20 =>
 Zr t20 (
 Ze 2 fun t21 =>
 K t21 h11) (
 ldL h11 b (0+6) fun t22 =>
 Zr (decide ((t22.len:Int)>8)) (
 Ze 5 fun t23 =>
 K t23 h11) (
 ldL h11 b (0+6) fun t24 =>
 f62 t24 (fun t25 h26 =>
 Zy t25 fun t27 =>
 Zr t27 (
 Ze 5 fun t28 =>
 K t28 h26) (
 ldI h26 b 0 .i64 fun t29 =>
 Zf e fun b30 o =>
 ldI h26 b30 (o+18) .i64 fun t31 =>
 Zy (decide (t29<t31)) fun t32 =>
 Zr t32 (
 Ze 7 fun t33 =>
 K t33 h26) (
 Zf e fun b34 o35 =>
 ldI h26 b34 (o35+16) .i64 fun t36 =>
 Zy (decide (t36≥4096)) fun t37 =>
 Zr t37 (
 Ze 3 fun t38 =>
 K t38 h26) (
 Zf e fun b39 o40 =>
 ldP h26 b39 (o40+12) fun t41 =>
 ldI h26 b 0 .i64 fun t42=>ldS h26 b (0+1) fun t43=>ldS h26 b (0+2) fun t44=>ldS h26 b (0+3) fun t45=>ldB h26 b (0+4) fun t46=>ldI h26 b (0+5) .i64 fun t47=>ldL h26 b (0+6) fun t48 =>
 newC h26 [.int .i64 t42,.string t43,.string t44,.string t45,.bool t46,.int .i64 t47,.slice t48.ptr t48.len t48.cap] 47 fun b49 h50 =>
 ZP (Zo h50 [(b39,o40+12,.pointer t41)]) <|
 f66 t41 ⟨some ⟨b49,0,none⟩,1,1⟩ (fun t51 h52 =>
 Ze t51 fun t53 =>
 K t53 h52) h50)))) h11))))))) h1
def Xn:Ztj:=Zbd YZ Zu Zaa
abbrev Zti:=Int→ByteArray→(Option Addr)→(Option Addr)→(HP)→HP
def Zg5 (i:Int) (of:ByteArray) (a2:Option Addr) (a3:Option Addr) (K:HP) (h:Zc):Prop :=
 Zf a2 fun b o=>ldS h b o fun t =>
 Zr (Xu of t) (
 Zf a3 fun b1 o2=>ldL h b1 o2 fun t3 =>
 newC h [.int .i64 i] 3 fun b4 h5 =>
 rdS ⟨some ⟨b4,0,none⟩,1,1⟩ 1 h5 fun new=>app 3 1 8 [.int .i64 0] t3 1 new h5 fun t6 h7 =>
 Zf a3 fun b8 o9=>st h7 b8 o9 (.slice t6.ptr t6.len t6.cap) fun h10 =>
 K h10) (
 K h)
def ZeZ:Zti:=Zg5
abbrev ZjU:=(Sl × Sl × Sl × Sl × Sl × Unit)→Int→ByteArray→(Sl→HP)→HP
def ZgP (f68:Zti) (r:Sl × Sl × Sl × Sl × Sl × Unit) (kind:Int) (resource:ByteArray) (K:Sl→HP) (h:Zc):Prop :=
 newC h [.slice r.1.ptr r.1.len r.1.cap,.slice r.2.1.ptr r.2.1.len r.2.1.cap,.slice r.2.2.1.ptr r.2.2.1.len r.2.2.1.cap,.slice r.2.2.2.1.ptr r.2.2.2.1.len r.2.2.2.1.cap,.slice r.2.2.2.2.1.ptr r.2.2.2.2.1.len r.2.2.2.2.1.cap] 39 fun b h1 =>
 newC h1 [.string resource] 9 fun b2 h3 =>
 newC h3 [.slice none 0 0] 85 fun b4 h5 =>
 Zy (kind ==1) fun t =>
 Zr t (
 ldL h5 b 0 fun t6 =>
 YL (σ:=Int × Unit) (fun J7 s h8 =>
 (fun (s25:Int) =>
 Zr (decide (s25<(t6.len:Int))) (
 Xh t6.ptr t6.len s25 12 fun b9 o =>
 ldS h8 b9 o fun t10=>ldS h8 b9 (o+1) fun t11=>ldB h8 b9 (o+2) fun t12=>ldI h8 b9 (o+3) .i64 fun t13=>ldI h8 b9 (o+4) .u8 fun t14=>ldS h8 b9 (o+5) fun t15=>ldI h8 b9 (o+6) .u8 fun t16=>ldI h8 b9 (o+7) .i64 fun t17=>ldI h8 b9 (o+8) .i64 fun t18=>ldB h8 b9 (o+9) fun t19=>ldI h8 b9 (o+10) .i64 fun t20=>ldB h8 b9 (o+11) fun t21 =>
 newC h8 [.string (ByteArray.mk #[]),.string (ByteArray.mk #[]),.bool false,.int .i64 0,.int .u8 0,.string (ByteArray.mk #[]),.int .u8 0,.int .i64 0,.int .i64 0,.bool false,.int .i64 0,.bool false] 32 fun b22 h23 =>
 Ze s25 fun i =>
 sts h23 b22 0 [.string t10,.string t11,.bool t12,.int .i64 t13,.int .u8 t14,.string t15,.int .u8 t16,.int .i64 t17,.int .i64 t18,.bool t19,.int .i64 t20,.bool t21] fun h24 =>
 ldS h24 b22 0 fun t25 =>
 f68 i t25 (some ⟨b2,0,none⟩) (some ⟨b4,0,none⟩) (fun h26 =>
 J7 (IntKind.wrap .i64 (s25+1),()) h26) h24) (
 ldL h8 b4 0 fun t27 =>
 K t27 h8)) s.1) (0,()) h5) (
 Zy (kind ==2) fun t28 =>
 Zr t28 (
 ldL h5 b (0+1) fun t29 =>
 YL (σ:=Int × Unit) (fun J30 s31 h32 =>
 (fun (s41:Int) =>
 Zr (decide (s41<(t29.len:Int))) (
 Xh t29.ptr t29.len s41 7 fun b33 o34 =>
 ldS h32 b33 o34 fun t35=>ldI h32 b33 (o34+1) .u8 fun t36=>ldI h32 b33 (o34+2) .i64 fun t37=>ldI h32 b33 (o34+3) .i64 fun t38=>ldI h32 b33 (o34+4) .i64 fun t39=>ldI h32 b33 (o34+5) .i64 fun t40=>ldI h32 b33 (o34+6) .i64 fun t41 =>
 newC h32 [.string (ByteArray.mk #[]),.int .u8 0,.int .i64 0,.int .i64 0,.int .i64 0,.int .i64 0,.int .i64 0] 52 fun b42 h43 =>
 Ze s41 fun i44 =>
 sts h43 b42 0 [.string t35,.int .u8 t36,.int .i64 t37,.int .i64 t38,.int .i64 t39,.int .i64 t40,.int .i64 t41] fun h45 =>
 ldS h45 b42 0 fun t46 =>
 f68 i44 t46 (some ⟨b2,0,none⟩) (some ⟨b4,0,none⟩) (fun h47 =>
 J30 (IntKind.wrap .i64 (s41+1),()) h47) h45) (
 ldL h32 b4 0 fun t48 =>
 K t48 h32)) s31.1) (0,()) h5) (
 Zy (kind ==3) fun t49 =>
 Zr t49 (
 ldL h5 b (0+2) fun t50 =>
 YL (σ:=Int × Unit) (fun J51 s52 h53 =>
 (fun (s57:Int) =>
 Zr (decide (s57<(t50.len:Int))) (
 Xh t50.ptr t50.len s57 5 fun b54 o55 =>
 ldS h53 b54 o55 fun t56=>ldI h53 b54 (o55+1) .i64 fun t57=>ldI h53 b54 (o55+2) .i64 fun t58=>ldI h53 b54 (o55+3) .i64 fun t59=>ldL h53 b54 (o55+4) fun t60 =>
 newC h53 [.string (ByteArray.mk #[]),.int .i64 0,.int .i64 0,.int .i64 0,.slice none 0 0] 134 fun b61 h62 =>
 Ze s57 fun i63 =>
 sts h62 b61 0 [.string t56,.int .i64 t57,.int .i64 t58,.int .i64 t59,.slice t60.ptr t60.len t60.cap] fun h64 =>
 ldS h64 b61 0 fun t65 =>
 f68 i63 t65 (some ⟨b2,0,none⟩) (some ⟨b4,0,none⟩) (fun h66 =>
 J51 (IntKind.wrap .i64 (s57+1),()) h66) h64) (
 ldL h53 b4 0 fun t67 =>
 K t67 h53)) s52.1) (0,()) h5) (
 Zy (kind ==4) fun t68 =>
 Zr t68 (
 ldL h5 b (0+3) fun t69 =>
 YL (σ:=Int × Unit) (fun J70 s71 h72 =>
 (fun (s73:Int) =>
 Zr (decide (s73<(t69.len:Int))) (
 Ze s73 fun i73 =>
 ldS h72 b2 0 fun t74 =>
 f68 i73 t74 (some ⟨b2,0,none⟩) (some ⟨b4,0,none⟩) (fun h75 =>
 J70 (IntKind.wrap .i64 (s73+1),()) h75) h72) (
 ldL h72 b4 0 fun t76 =>
 K t76 h72)) s71.1) (0,()) h5) (
 Zy (kind ==5) fun t77 =>
 Zr t77 (
 ldL h5 b (0+4) fun t78 =>
 YL (σ:=Int × Unit) (fun J79 s80 h81 =>
 (fun (s86:Int) =>
 Zr (decide (s86<(t78.len:Int))) (
 Xh t78.ptr t78.len s86 3 fun b82 o83 =>
 ldS h81 b82 o83 fun t84=>ldB h81 b82 (o83+1) fun t85=>ldL h81 b82 (o83+2) fun t86 =>
 newC h81 [.string (ByteArray.mk #[]),.bool false,.slice none 0 0] 160 fun b87 h88 =>
 Ze s86 fun i89 =>
 sts h88 b87 0 [.string t84,.bool t85,.slice t86.ptr t86.len t86.cap] fun h90 =>
 ldS h90 b87 0 fun t91 =>
 f68 i89 t91 (some ⟨b2,0,none⟩) (some ⟨b4,0,none⟩) (fun h92 =>
 J79 (IntKind.wrap .i64 (s86+1),()) h92) h90) (
 ldL h81 b4 0 fun t93 =>
 K t93 h81)) s80.1) (0,()) h5) (
 ldL h5 b4 0 fun t94 =>
 K t94 h5)))))
def Xv:ZjU:=ZgP ZeZ
abbrev Zth:=Int→(Option Addr)→(Bool→HP)→HP
def Za5:Zth:=fun _ _ _ _=>False
abbrev Ztg:=(Option Addr)→Int→(Option Addr × Unit)→(Int→Bool→HP)→HP
def YB (f69:ZjU) (f70:Zth) (w:Option Addr) (kind:Int) (blocks:Option Addr × Unit) (K:Int→Bool→HP) (h:Zc):Prop :=
 Ze 0 fun t =>
 Zf w fun b o =>
 Zf w fun b1 o2 =>
 ldP h b o fun t3 =>
 Zf t3 fun b4 o5 =>
 ldL h b4 (o5+3) fun t6=>ldL h b4 (o5+3+1) fun t7=>ldL h b4 (o5+3+2) fun t8=>ldL h b4 (o5+3+3) fun t9=>ldL h b4 (o5+3+4) fun t10 =>
 ldS h b1 (o2+1+1) fun t11 =>
 f69 (t6,t7,t8,t9,t10,()) kind t11 (fun t12 h13 =>
 ZP (Zo h13 [(b,o,.pointer t3)]) <|
 YL (σ:=Int × Unit) (fun J14 s h15 =>
 (fun (s25:Int) =>
 Zr (decide (s25<(t12.len:Int))) (
 Xh t12.ptr t12.len s25 1 fun b16 o17 =>
 ldI h15 b16 o17 .i64 fun t18 =>
 Ze t18 fun i =>
 f70 i blocks.1 (fun t19 h20 =>
 Zr t19 (
 Ze i fun t21 =>
 K t21 true h20) (
 J14 (IntKind.wrap .i64 (s25+1),()) h20)) h15) (
 Ze 0 fun t22 =>
 K t22 false h15)) s.1) (0,()) h13) h
def Z3:Ztg:=YB Xv Za5
abbrev Ztf:=(Option Addr)→(Int→Bool→HP)→HP
def ZbW (f71:Ztg) (w:Option Addr) (K:Int→Bool→HP) (h:Zc):Prop :=
 newC h [.pointer w] 142 fun b h1 =>
 Ze 0 fun t =>
 ldP h1 b 0 fun t2 =>
 f71 t2 5 (some ⟨b,0,none⟩,()) (fun t3 t4 h5 =>
 Ze t3 fun t6 =>
 Zy t4 fun t7 =>
 K t6 t7 h5) h1
def XR:Ztf:=ZbW Z3
abbrev Zte:=(Option Nat)→((Option Nat)→HP)→HP
def Yj (m:Option Nat) (K:(Option Nat)→HP) (h:Zc):Prop :=
 Zr m.isNone (
 K none h) (
 ZqH (.iface 240 (.map m)) h fun t h1 =>
 asT t 240 fun y=>asM y fun t2 =>
 K t2 h1)
def ZG:Zte:=Yj
abbrev Ztd:=(Option Addr)→((Option Addr)→HP)→HP
def Zba (f73:Zte) (w:Option Addr) (K:(Option Addr)→HP) (h:Zc):Prop :=
 Zr w.isNone (
 K none h) (
 Zf w fun b o =>
 ldI h b o .i64 fun t=>ldI h b (o+1) .i64 fun t1=>ldI h b (o+2) .i64 fun t2=>ldM h b (o+3) fun t3 =>
 newC h [.int .i64 0,.int .i64 0,.int .i64 0,.map none] 242 fun b4 h5 =>
 sts h5 b4 0 [.int .i64 t,.int .i64 t1,.int .i64 t2,.map t3] fun h6 =>
 Zf w fun b7 o8 =>
 ldM h6 b7 (o8+3) fun t9 =>
 f73 t9 (fun t10 h11 =>
 st h11 b4 (0+3) (.map t10) fun h12 =>
 K (some ⟨b4,0,none⟩) h12) h6)
def Xk:Ztd:=Zba ZG
abbrev Ztc:=(Option Addr)→((Option Addr)→HP)→HP
def Zbn (f74:Ztd) (n:Option Addr) (K:(Option Addr)→HP) (h:Zc):Prop :=
 Zr n.isNone (
 K none h) (
 Zf n fun b o =>
 Zf n fun b1 o2 =>
 Zf n fun b3 o4 =>
 ldP h b o fun t =>
 ldP h b1 (o2+1) fun t5 =>
 ldI h b3 (o4+2) .i64 fun t6 =>
 f74 t (fun t7 h8 =>
 ZP (Zo h8 [(b3,o4+2,.int .i64 t6)]) <|
 ZP (Zo h8 [(b1,o2+1,.pointer t5)]) <|
 f74 t5 (fun t9 h10 =>
 ZP (Zo h10 [(b3,o4+2,.int .i64 t6)]) <|
 newC h10 [.pointer t7,.pointer t9,.int .i64 t6] 179 fun b11 h12 =>
 ZP (Zo h12 [(b3,o4+2,.int .i64 t6)]) <|
 K (some ⟨b11,0,none⟩) h12) h8) h)
def Xe:Ztc:=Zbn Xk
abbrev ZmX:=(Option Addr)→(Int × ByteArray × ByteArray × ByteArray × Unit)→((Option Addr)→HP)→HP
def ZcS (f75:Ztc) (t:Option Addr) (k:Int × ByteArray × ByteArray × ByteArray × Unit) (K:(Option Addr)→HP) (h:Zc):Prop :=
 newC h [.int .u8 k.1,.string k.2.1,.string k.2.2.1,.string k.2.2.2.1] 102 fun b h1 =>
 Zr t.isNone (
 K none h1) (
 Zf t fun b2 o =>
 ldM h1 b2 o fun t3 =>
 ldI h1 b 0 .u8 fun t4=>ldS h1 b (0+1) fun t5=>ldS h1 b (0+2) fun t6=>ldS h1 b (0+3) fun t7 =>
 ZbD [(.int .u8),.string,.string,.string] h1 t3 [.int .u8 t4,.string t5,.string t6,.string t7] fun r=>asP (r.getD (.pointer none)) fun t8 =>
 f75 t8 (fun t9 h10 =>
 K t9 h10) h1)
def YJ:ZmX:=ZcS Xe
abbrev ZmW:=(Option Addr)→Int→(Int→HP)→HP
def ZaY (w:Option Addr) (at_:Int) (K:Int→HP) (h:Zc):Prop :=
 Ze 0 fun t =>
 Zy w.isNone fun t1 =>
 Zr t1 (
 Ze 1 fun t2 =>
 K t2 h) (
 Zr (decide (at_<0)) (
 Ze 2 fun t3 =>
 K t3 h) (
 Zy (decide (at_>1152921504606846976)) fun t4 =>
 Zr t4 (
 Ze 2 fun t5 =>
 K t5 h) (
 Zf w fun b o =>
 ldI h b (o+2) .i64 fun t6 =>
 Zy (decide (at_<t6)) fun t7 =>
 Zr t7 (
 Ze 7 fun t8 =>
 K t8 h) (
 Ze 0 fun t9 =>
 K t9 h))))
def Yg:ZmW:=ZaY
abbrev Zqm:=(Option Addr)→Int→((Option Addr × Option Addr × Unit)→HP)→HP
def ZbP (w:Option Addr) (at_:Int) (K:(Option Addr × Option Addr × Unit)→HP) (h:Zc):Prop :=
 newC h [.pointer w] 162 fun b h1 =>
 newC h1 [.int .i64 at_] 3 fun b2 h3 =>
 K (some ⟨b,0,none⟩,some ⟨b2,0,none⟩,()) h3
def YY:Zqm:=ZbP
abbrev Zpm:=(Option Addr)→Int→(Int→HP)→HP
def XJ (w:Option Addr) (at_:Int) (K:Int→HP) (h:Zc):Prop :=
 Ze 0 fun t =>
 Zf w fun b o =>
 ldI h b o .i64 fun t1 =>
 Zf w fun b2 o3 =>
 ldI h b2 (o3+1) .i64 fun t4 =>
 ZP (t4≠0) <|
 ZP ((IntKind.wrap .i64 (Int.tdiv t1 t4))≠0) <|
 Ze (IntKind.wrap .i64 (Int.tdiv at_ (IntKind.wrap .i64 (Int.tdiv t1 t4)))) fun t5 =>
 K t5 h
def ZQ:Zpm:=XJ
abbrev Zql:=Yld→Nat→(Option Addr)→(Option Addr)→(HP)→HP
def Za8 (f79:Zpm) (Y:Yld) (yield:Nat) (a1:Option Addr) (a2:Option Addr) (K:HP) (h:Zc):Prop :=
 Zf a1 fun b o=>ldP h b o fun t =>
 Zf a2 fun b1 o2=>ldI h b1 o2 .i64 fun t3 =>
 f79 t t3 (fun t4 h5 =>
 Ze t4 fun k =>
 Zf a1 fun b6 o7=>ldP h5 b6 o7 fun t8 =>
 Zf t8 fun b9 o10 =>
 ldI h5 b9 (o10+1) .i64 fun t11 =>
 Ze (Zk3 0 (IntKind.wrap .i64 ((IntKind.wrap .i64 (k - t11))+1))) fun i =>
 YL (σ:=Int × Unit) (fun J13 s h14 =>
 (fun (i12:Int) =>
 Zr (decide (i12≤k)) (
 Zf a1 fun b15 o16=>ldP h14 b15 o16 fun t17 =>
 Zf t17 fun b18 o19 =>
 ldM h14 b18 (o19+3) fun t20 =>
 Zg3 (.int .i64) h14 t20 (.int .i64 i12) fun r=>exG (r.getD (.agg #[.int .i64 0,.int .i64 0,.int .i64 0,.int .i64 0,.int .i64 0,.int .i64 0])) (fun t21:Int × Int × Int × Int × Int × Int × Unit=> .agg #[.int .i64 t21.1,.int .i64 t21.2.1,.int .i64 t21.2.2.1,.int .i64 t21.2.2.2.1,.int .i64 t21.2.2.2.2.1,.int .i64 t21.2.2.2.2.2.1]) fun t21 =>
 newC h14 [.int .i64 0,.int .i64 0,.int .i64 0,.int .i64 0,.int .i64 0,.int .i64 0] 169 fun b22 h23 =>
 sts h23 b22 0 [.int .i64 t21.1,.int .i64 t21.2.1,.int .i64 t21.2.2.1,.int .i64 t21.2.2.2.1,.int .i64 t21.2.2.2.2.1,.int .i64 t21.2.2.2.2.2.1] fun h24 =>
 Zy r.isSome fun there =>
 Zr there (
 Zf a1 fun b25 o26=>ldP h24 b25 o26 fun t27 =>
 Zf t27 fun b28 o29 =>
 ldI h24 b28 o29 .i64 fun t30 =>
 Zf a1 fun b31 o32=>ldP h24 b31 o32 fun t33 =>
 Zf t33 fun b34 o35 =>
 ldI h24 b34 (o35+1) .i64 fun t36 =>
 ZP (t36≠0) <|
 ldI h24 b22 0 .i64 fun t37=>ldI h24 b22 (0+1) .i64 fun t38=>ldI h24 b22 (0+2) .i64 fun t39=>ldI h24 b22 (0+3) .i64 fun t40=>ldI h24 b22 (0+4) .i64 fun t41=>ldI h24 b22 (0+5) .i64 fun t42 =>
 Y yield [.agg #[.int .i64 (IntKind.wrap .i64 (i12*(IntKind.wrap .i64 (Int.tdiv t30 t36)))),.int .i64 t37,.int .i64 t38,.int .i64 t39,.int .i64 t40,.int .i64 t41,.int .i64 t42]] (fun go h43 =>
 ZP (Zo h43 [(b22,0,.int .i64 t37),(b22,0+1,.int .i64 t38),(b22,0+2,.int .i64 t39),(b22,0+3,.int .i64 t40),(b22,0+4,.int .i64 t41),(b22,0+5,.int .i64 t42)]) <|
 ZP (Zo h43 [(b34,o35+1,.int .i64 t36)]) <|
 ZP (Zo h43 [(b31,o32,.pointer t33)]) <|
 ZP (Zo h43 [(b28,o29,.int .i64 t30)]) <|
 ZP (Zo h43 [(b25,o26,.pointer t27)]) <|
 Zr (!go) (
 K h43) (
 Ze (IntKind.wrap .i64 (i12+1)) fun i44 =>
 J13 (i44,()) h43)) h24) (
 Ze (IntKind.wrap .i64 (i12+1)) fun i45 =>
 J13 (i45,()) h24)) (
 K h14)) s.1) (i,()) h5) h
def YD:Zql:=Za8 ZQ
abbrev Ztb:=Int→Int→(Int→HP)→HP
def Zf8 (a:Int) (b:Int) (K:Int→HP) (h:Zc):Prop :=
 Ze 0 fun t =>
 Ze (IntKind.wrap .i64 ((Zpp a (IntKind.wrap .i64 ((4611686018427387904:Int) - b)))+b)) fun t1 =>
 K t1 h
def Zc8:Ztb:=Zf8
abbrev Zqk:=(Int × Int × Int × Int × Int × Int × Unit)→(Int × Int × Int × Int × Int × Int × Unit)→((Int × Int × Int × Int × Int × Int × Unit)→HP)→HP
def Ze2 (f81:Ztb) (a:Int × Int × Int × Int × Int × Int × Unit) (b:Int × Int × Int × Int × Int × Int × Unit) (K:(Int × Int × Int × Int × Int × Int × Unit)→HP) (h:Zc):Prop :=
 newC h [.int .i64 a.1,.int .i64 a.2.1,.int .i64 a.2.2.1,.int .i64 a.2.2.2.1,.int .i64 a.2.2.2.2.1,.int .i64 a.2.2.2.2.2.1] 169 fun b1 h2 =>
 newC h2 [.int .i64 b.1,.int .i64 b.2.1,.int .i64 b.2.2.1,.int .i64 b.2.2.2.1,.int .i64 b.2.2.2.2.1,.int .i64 b.2.2.2.2.2.1] 169 fun b3 h4 =>
 newC h4 [.int .i64 0,.int .i64 0,.int .i64 0,.int .i64 0,.int .i64 0,.int .i64 0] 169 fun b5 h6 =>
 ZgR (σ:=Option Addr × Unit) (fun s h75 =>
 (fun (c:Option Addr) =>
 ldI h75 b1 (0+2) .i64 fun t76 =>
 Zy (t76 ==0) fun t77 =>
 Zr t77 (
 ldI h75 b3 (0+5) .i64 fun t78 =>
 Zf c fun b79 o =>
 st h75 b79 (o+5) (.int .i64 t78) fun h80 =>
 Zf c fun b81 o82=>ldI h80 b81 o82 .i64 fun t83=>ldI h80 b81 (o82+1) .i64 fun t84=>ldI h80 b81 (o82+2) .i64 fun t85=>ldI h80 b81 (o82+3) .i64 fun t86=>ldI h80 b81 (o82+4) .i64 fun t87=>ldI h80 b81 (o82+5) .i64 fun t88 =>
 sts h80 b5 0 [.int .i64 t83,.int .i64 t84,.int .i64 t85,.int .i64 t86,.int .i64 t87,.int .i64 t88] fun h89 =>
 ldI h89 b5 0 .i64 fun t90=>ldI h89 b5 (0+1) .i64 fun t91=>ldI h89 b5 (0+2) .i64 fun t92=>ldI h89 b5 (0+3) .i64 fun t93=>ldI h89 b5 (0+4) .i64 fun t94=>ldI h89 b5 (0+5) .i64 fun t95=>K (t90,t91,t92,t93,t94,t95,()) h89) (
 ldI h75 b3 (0+2) .i64 fun t96 =>
 Zy (t96 ==0) fun t97 =>
 Zr t97 (
 ldI h75 b1 (0+5) .i64 fun t98 =>
 Zf c fun b99 o100 =>
 st h75 b99 (o100+5) (.int .i64 t98) fun h101 =>
 Zf c fun b102 o103=>ldI h101 b102 o103 .i64 fun t104=>ldI h101 b102 (o103+1) .i64 fun t105=>ldI h101 b102 (o103+2) .i64 fun t106=>ldI h101 b102 (o103+3) .i64 fun t107=>ldI h101 b102 (o103+4) .i64 fun t108=>ldI h101 b102 (o103+5) .i64 fun t109 =>
 sts h101 b5 0 [.int .i64 t104,.int .i64 t105,.int .i64 t106,.int .i64 t107,.int .i64 t108,.int .i64 t109] fun h110 =>
 ldI h110 b5 0 .i64 fun t111=>ldI h110 b5 (0+1) .i64 fun t112=>ldI h110 b5 (0+2) .i64 fun t113=>ldI h110 b5 (0+3) .i64 fun t114=>ldI h110 b5 (0+4) .i64 fun t115=>ldI h110 b5 (0+5) .i64 fun t116=>K (t111,t112,t113,t114,t115,t116,()) h110) (
 ldI h75 b1 (0+5) .i64 fun t117 =>
 ldI h75 b3 (0+5) .i64 fun t118 =>
 Zf c fun b119 o120 =>
 st h75 b119 (o120+5) (.int .i64 (Zpp t117 t118)) fun h121 =>
 Zf c fun b122 o123=>ldI h121 b122 o123 .i64 fun t124=>ldI h121 b122 (o123+1) .i64 fun t125=>ldI h121 b122 (o123+2) .i64 fun t126=>ldI h121 b122 (o123+3) .i64 fun t127=>ldI h121 b122 (o123+4) .i64 fun t128=>ldI h121 b122 (o123+5) .i64 fun t129 =>
 sts h121 b5 0 [.int .i64 t124,.int .i64 t125,.int .i64 t126,.int .i64 t127,.int .i64 t128,.int .i64 t129] fun h130 =>
 ldI h130 b5 0 .i64 fun t131=>ldI h130 b5 (0+1) .i64 fun t132=>ldI h130 b5 (0+2) .i64 fun t133=>ldI h130 b5 (0+3) .i64 fun t134=>ldI h130 b5 (0+4) .i64 fun t135=>ldI h130 b5 (0+5) .i64 fun t136=>K (t131,t132,t133,t134,t135,t136,()) h130))) s.1) (fun J7 =>
 ldI h6 b1 0 .i64 fun t =>
 ldI h6 b3 0 .i64 fun t8 =>
 ldI h6 b1 (0+1) .i64 fun t9 =>
 ldI h6 b3 (0+1) .i64 fun t10 =>
 ldI h6 b1 (0+2) .i64 fun t11 =>
 ldI h6 b3 (0+2) .i64 fun t12 =>
 ldI h6 b1 (0+3) .i64 fun t13 =>
 ldI h6 b3 (0+3) .i64 fun t14 =>
 ldI h6 b1 (0+4) .i64 fun t15 =>
 ldI h6 b3 (0+4) .i64 fun t16 =>
 Zh8 (
 f81 t t8 (fun t17 h18 =>
 ZP (Zo h18 [(b3,0+4,.int .i64 t16)]) <|
 ZP (Zo h18 [(b1,0+4,.int .i64 t15)]) <|
 ZP (Zo h18 [(b3,0+3,.int .i64 t14)]) <|
 ZP (Zo h18 [(b1,0+3,.int .i64 t13)]) <|
 ZP (Zo h18 [(b3,0+2,.int .i64 t12)]) <|
 ZP (Zo h18 [(b1,0+2,.int .i64 t11)]) <|
 ZP (Zo h18 [(b3,0+1,.int .i64 t10)]) <|
 ZP (Zo h18 [(b1,0+1,.int .i64 t9)]) <|
 Zh8 (
 f81 t9 t10 (fun t19 h20 =>
 ZP (Zo h20 [(b3,0+4,.int .i64 t16)]) <|
 ZP (Zo h20 [(b1,0+4,.int .i64 t15)]) <|
 ZP (Zo h20 [(b3,0+3,.int .i64 t14)]) <|
 ZP (Zo h20 [(b1,0+3,.int .i64 t13)]) <|
 ZP (Zo h20 [(b3,0+2,.int .i64 t12)]) <|
 ZP (Zo h20 [(b1,0+2,.int .i64 t11)]) <|
 Zh8 (
 f81 t11 t12 (fun t21 h22 =>
 ZP (Zo h22 [(b3,0+4,.int .i64 t16)]) <|
 ZP (Zo h22 [(b1,0+4,.int .i64 t15)]) <|
 ZP (Zo h22 [(b3,0+3,.int .i64 t14)]) <|
 ZP (Zo h22 [(b1,0+3,.int .i64 t13)]) <|
 Zh8 (
 f81 t13 t14 (fun t23 h24 =>
 ZP (Zo h24 [(b3,0+4,.int .i64 t16)]) <|
 ZP (Zo h24 [(b1,0+4,.int .i64 t15)]) <|
 Zh8 (
 f81 t15 t16 (fun t25 h26 =>
 newC h26 [.int .i64 0,.int .i64 0,.int .i64 0,.int .i64 0,.int .i64 0,.int .i64 0] 169 fun b27 h28 =>
 sts h28 b27 0 [.int .i64 t17,.int .i64 t19,.int .i64 t21,.int .i64 t23,.int .i64 t25,.int .i64 0] fun h29 =>
 J7 (some ⟨b27,0,none⟩,()) h29) h24) (
 newC h24 [.int .i64 0,.int .i64 0,.int .i64 0,.int .i64 0,.int .i64 0,.int .i64 0] 169 fun b30 h31 =>
 ZP (Zo h31 [(b3,0+4,.int .i64 t16)]) <|
 ZP (Zo h31 [(b1,0+4,.int .i64 t15)]) <|
 f81 t15 t16 (fun t32 h33 =>
 sts h33 b30 0 [.int .i64 t17,.int .i64 t19,.int .i64 t21,.int .i64 t23,.int .i64 t32,.int .i64 0] fun h34 =>
 J7 (some ⟨b30,0,none⟩,()) h34) h31)) h22) (
 newC h22 [.int .i64 0,.int .i64 0,.int .i64 0,.int .i64 0,.int .i64 0,.int .i64 0] 169 fun b35 h36 =>
 ZP (Zo h36 [(b3,0+4,.int .i64 t16)]) <|
 ZP (Zo h36 [(b1,0+4,.int .i64 t15)]) <|
 ZP (Zo h36 [(b3,0+3,.int .i64 t14)]) <|
 ZP (Zo h36 [(b1,0+3,.int .i64 t13)]) <|
 f81 t13 t14 (fun t37 h38 =>
 ZP (Zo h38 [(b3,0+4,.int .i64 t16)]) <|
 ZP (Zo h38 [(b1,0+4,.int .i64 t15)]) <|
 f81 t15 t16 (fun t39 h40 =>
 sts h40 b35 0 [.int .i64 t17,.int .i64 t19,.int .i64 t21,.int .i64 t37,.int .i64 t39,.int .i64 0] fun h41 =>
 J7 (some ⟨b35,0,none⟩,()) h41) h38) h36)) h20) (
 newC h20 [.int .i64 0,.int .i64 0,.int .i64 0,.int .i64 0,.int .i64 0,.int .i64 0] 169 fun b42 h43 =>
 ZP (Zo h43 [(b3,0+4,.int .i64 t16)]) <|
 ZP (Zo h43 [(b1,0+4,.int .i64 t15)]) <|
 ZP (Zo h43 [(b3,0+3,.int .i64 t14)]) <|
 ZP (Zo h43 [(b1,0+3,.int .i64 t13)]) <|
 ZP (Zo h43 [(b3,0+2,.int .i64 t12)]) <|
 ZP (Zo h43 [(b1,0+2,.int .i64 t11)]) <|
 f81 t11 t12 (fun t44 h45 =>
 ZP (Zo h45 [(b3,0+4,.int .i64 t16)]) <|
 ZP (Zo h45 [(b1,0+4,.int .i64 t15)]) <|
 ZP (Zo h45 [(b3,0+3,.int .i64 t14)]) <|
 ZP (Zo h45 [(b1,0+3,.int .i64 t13)]) <|
 f81 t13 t14 (fun t46 h47 =>
 ZP (Zo h47 [(b3,0+4,.int .i64 t16)]) <|
 ZP (Zo h47 [(b1,0+4,.int .i64 t15)]) <|
 f81 t15 t16 (fun t48 h49 =>
 sts h49 b42 0 [.int .i64 t17,.int .i64 t19,.int .i64 t44,.int .i64 t46,.int .i64 t48,.int .i64 0] fun h50 =>
 J7 (some ⟨b42,0,none⟩,()) h50) h47) h45) h43)) h18) (
 newC h18 [.int .i64 0,.int .i64 0,.int .i64 0,.int .i64 0,.int .i64 0,.int .i64 0] 169 fun b51 h52 =>
 ZP (Zo h52 [(b3,0+4,.int .i64 t16)]) <|
 ZP (Zo h52 [(b1,0+4,.int .i64 t15)]) <|
 ZP (Zo h52 [(b3,0+3,.int .i64 t14)]) <|
 ZP (Zo h52 [(b1,0+3,.int .i64 t13)]) <|
 ZP (Zo h52 [(b3,0+2,.int .i64 t12)]) <|
 ZP (Zo h52 [(b1,0+2,.int .i64 t11)]) <|
 ZP (Zo h52 [(b3,0+1,.int .i64 t10)]) <|
 ZP (Zo h52 [(b1,0+1,.int .i64 t9)]) <|
 f81 t9 t10 (fun t53 h54 =>
 ZP (Zo h54 [(b3,0+4,.int .i64 t16)]) <|
 ZP (Zo h54 [(b1,0+4,.int .i64 t15)]) <|
 ZP (Zo h54 [(b3,0+3,.int .i64 t14)]) <|
 ZP (Zo h54 [(b1,0+3,.int .i64 t13)]) <|
 ZP (Zo h54 [(b3,0+2,.int .i64 t12)]) <|
 ZP (Zo h54 [(b1,0+2,.int .i64 t11)]) <|
 f81 t11 t12 (fun t55 h56 =>
 ZP (Zo h56 [(b3,0+4,.int .i64 t16)]) <|
 ZP (Zo h56 [(b1,0+4,.int .i64 t15)]) <|
 ZP (Zo h56 [(b3,0+3,.int .i64 t14)]) <|
 ZP (Zo h56 [(b1,0+3,.int .i64 t13)]) <|
 f81 t13 t14 (fun t57 h58 =>
 ZP (Zo h58 [(b3,0+4,.int .i64 t16)]) <|
 ZP (Zo h58 [(b1,0+4,.int .i64 t15)]) <|
 f81 t15 t16 (fun t59 h60 =>
 sts h60 b51 0 [.int .i64 t17,.int .i64 t53,.int .i64 t55,.int .i64 t57,.int .i64 t59,.int .i64 0] fun h61 =>
 J7 (some ⟨b51,0,none⟩,()) h61) h58) h56) h54) h52)) h6) (
 newC h6 [.int .i64 0,.int .i64 0,.int .i64 0,.int .i64 0,.int .i64 0,.int .i64 0] 169 fun b62 h63 =>
 ZP (Zo h63 [(b3,0+4,.int .i64 t16)]) <|
 ZP (Zo h63 [(b1,0+4,.int .i64 t15)]) <|
 ZP (Zo h63 [(b3,0+3,.int .i64 t14)]) <|
 ZP (Zo h63 [(b1,0+3,.int .i64 t13)]) <|
 ZP (Zo h63 [(b3,0+2,.int .i64 t12)]) <|
 ZP (Zo h63 [(b1,0+2,.int .i64 t11)]) <|
 ZP (Zo h63 [(b3,0+1,.int .i64 t10)]) <|
 ZP (Zo h63 [(b1,0+1,.int .i64 t9)]) <|
 ZP (Zo h63 [(b3,0,.int .i64 t8)]) <|
 ZP (Zo h63 [(b1,0,.int .i64 t)]) <|
 f81 t t8 (fun t64 h65 =>
 ZP (Zo h65 [(b3,0+4,.int .i64 t16)]) <|
 ZP (Zo h65 [(b1,0+4,.int .i64 t15)]) <|
 ZP (Zo h65 [(b3,0+3,.int .i64 t14)]) <|
 ZP (Zo h65 [(b1,0+3,.int .i64 t13)]) <|
 ZP (Zo h65 [(b3,0+2,.int .i64 t12)]) <|
 ZP (Zo h65 [(b1,0+2,.int .i64 t11)]) <|
 ZP (Zo h65 [(b3,0+1,.int .i64 t10)]) <|
 ZP (Zo h65 [(b1,0+1,.int .i64 t9)]) <|
 f81 t9 t10 (fun t66 h67 =>
 ZP (Zo h67 [(b3,0+4,.int .i64 t16)]) <|
 ZP (Zo h67 [(b1,0+4,.int .i64 t15)]) <|
 ZP (Zo h67 [(b3,0+3,.int .i64 t14)]) <|
 ZP (Zo h67 [(b1,0+3,.int .i64 t13)]) <|
 ZP (Zo h67 [(b3,0+2,.int .i64 t12)]) <|
 ZP (Zo h67 [(b1,0+2,.int .i64 t11)]) <|
 f81 t11 t12 (fun t68 h69 =>
 ZP (Zo h69 [(b3,0+4,.int .i64 t16)]) <|
 ZP (Zo h69 [(b1,0+4,.int .i64 t15)]) <|
 ZP (Zo h69 [(b3,0+3,.int .i64 t14)]) <|
 ZP (Zo h69 [(b1,0+3,.int .i64 t13)]) <|
 f81 t13 t14 (fun t70 h71 =>
 ZP (Zo h71 [(b3,0+4,.int .i64 t16)]) <|
 ZP (Zo h71 [(b1,0+4,.int .i64 t15)]) <|
 f81 t15 t16 (fun t72 h73 =>
 sts h73 b62 0 [.int .i64 t64,.int .i64 t66,.int .i64 t68,.int .i64 t70,.int .i64 t72,.int .i64 0] fun h74 =>
 J7 (some ⟨b62,0,none⟩,()) h74) h71) h69) h67) h65) h63))
def ZaT:Zqk:=Ze2 Zc8
abbrev Zqj:=(Option Addr)→Int→((Int × Int × Int × Int × Int × Int × Unit)→Int→HP)→HP
def Zbq (f77:ZmW) (f78:Zqm) (f82:Zqk) (f80:Zql) (w:Option Addr) (at_:Int) (K:(Int × Int × Int × Int × Int × Int × Unit)→Int→HP) (h:Zc):Prop :=
 newC h [.int .i64 0,.int .i64 0,.int .i64 0,.int .i64 0,.int .i64 0,.int .i64 0] 169 fun b h1 =>
 Ze 0 fun t =>
 f77 w at_ (fun t2 h3 =>
 Ze t2 fun err =>
 Zr (err !=0) (
 sts h3 b 0 [.int .i64 0,.int .i64 0,.int .i64 0,.int .i64 0,.int .i64 0,.int .i64 0] fun h4 =>
 Ze err fun t5 =>
 ldI h4 b 0 .i64 fun t6=>ldI h4 b (0+1) .i64 fun t7=>ldI h4 b (0+2) .i64 fun t8=>ldI h4 b (0+3) .i64 fun t9=>ldI h4 b (0+4) .i64 fun t10=>ldI h4 b (0+5) .i64 fun t11=>K (t6,t7,t8,t9,t10,t11,()) t5 h4) (
 newC h3 [.int .i64 0,.int .i64 0,.int .i64 0,.int .i64 0,.int .i64 0,.int .i64 0] 169 fun b12 h13 =>
 f78 w at_ (fun t14 h15 =>
 ZiD 1 (fun Y l K h=>f80 Y l t14.1 t14.2.1 K h) (fun l rec vs h16 k =>
 Zo7 (fun a:(Int × Int × Int × Int × Int × Int × Int × Unit) × Unit=>[.agg #[.int .i64 a.1.1,.int .i64 a.1.2.1,.int .i64 a.1.2.2.1,.int .i64 a.1.2.2.2.1,.int .i64 a.1.2.2.2.2.1,.int .i64 a.1.2.2.2.2.2.1,.int .i64 a.1.2.2.2.2.2.2.1]]) vs fun a =>
 newC h16 [.int .i64 0,.int .i64 0,.int .i64 0,.int .i64 0,.int .i64 0,.int .i64 0,.int .i64 0] 249 fun b17 h18 =>
 sts h18 b17 0 [.int .i64 a.1.1,.int .i64 a.1.2.1,.int .i64 a.1.2.2.1,.int .i64 a.1.2.2.2.1,.int .i64 a.1.2.2.2.2.1,.int .i64 a.1.2.2.2.2.2.1,.int .i64 a.1.2.2.2.2.2.2.1] fun h19 =>
 Zlf rec l h19 fun h20 =>
 ldI h20 b12 0 .i64 fun t21=>ldI h20 b12 (0+1) .i64 fun t22=>ldI h20 b12 (0+2) .i64 fun t23=>ldI h20 b12 (0+3) .i64 fun t24=>ldI h20 b12 (0+4) .i64 fun t25=>ldI h20 b12 (0+5) .i64 fun t26 =>
 ldI h20 b17 (0+1) .i64 fun t27=>ldI h20 b17 (0+1+1) .i64 fun t28=>ldI h20 b17 (0+1+2) .i64 fun t29=>ldI h20 b17 (0+1+3) .i64 fun t30=>ldI h20 b17 (0+1+4) .i64 fun t31=>ldI h20 b17 (0+1+5) .i64 fun t32 =>
 f82 (t21,t22,t23,t24,t25,t26,()) (t27,t28,t29,t30,t31,t32,()) (fun t33 h34 =>
 sts h34 b12 0 [.int .i64 t33.1,.int .i64 t33.2.1,.int .i64 t33.2.2.1,.int .i64 t33.2.2.2.1,.int .i64 t33.2.2.2.2.1,.int .i64 t33.2.2.2.2.2.1] fun h35 =>
 k none h35) h20) h15 (fun p D h36 =>
 Zk8 p (
 ldI h36 b12 0 .i64 fun t37=>ldI h36 b12 (0+1) .i64 fun t38=>ldI h36 b12 (0+2) .i64 fun t39=>ldI h36 b12 (0+3) .i64 fun t40=>ldI h36 b12 (0+4) .i64 fun t41=>ldI h36 b12 (0+5) .i64 fun t42 =>
 sts h36 b 0 [.int .i64 t37,.int .i64 t38,.int .i64 t39,.int .i64 t40,.int .i64 t41,.int .i64 t42] fun h43 =>
 Ze 0 fun t44 =>
 ZeL D h43 fun h45=>ldI h45 b 0 .i64 fun t46=>ldI h45 b (0+1) .i64 fun t47=>ldI h45 b (0+2) .i64 fun t48=>ldI h45 b (0+3) .i64 fun t49=>ldI h45 b (0+4) .i64 fun t50=>ldI h45 b (0+5) .i64 fun t51=>K (t46,t47,t48,t49,t50,t51,()) t44 h45) (fun x =>
 bif Nat.beq x 0 then (
 ldI h36 b12 0 .i64 fun t59=>ldI h36 b12 (0+1) .i64 fun t60=>ldI h36 b12 (0+2) .i64 fun t61=>ldI h36 b12 (0+3) .i64 fun t62=>ldI h36 b12 (0+4) .i64 fun t63=>ldI h36 b12 (0+5) .i64 fun t64 =>
 sts h36 b 0 [.int .i64 t59,.int .i64 t60,.int .i64 t61,.int .i64 t62,.int .i64 t63,.int .i64 t64] fun h65 =>
 Ze 0 fun t66 =>
 ZeL D h65 fun h67=>ldI h67 b 0 .i64 fun t68=>ldI h67 b (0+1) .i64 fun t69=>ldI h67 b (0+2) .i64 fun t70=>ldI h67 b (0+3) .i64 fun t71=>ldI h67 b (0+4) .i64 fun t72=>ldI h67 b (0+5) .i64 fun t73=>K (t68,t69,t70,t71,t72,t73,()) t66 h67) else (False)) (
 ZeL D h36 fun h52=>ldI h52 b 0 .i64 fun t53=>ldI h52 b (0+1) .i64 fun t54=>ldI h52 b (0+2) .i64 fun t55=>ldI h52 b (0+3) .i64 fun t56=>ldI h52 b (0+4) .i64 fun t57=>ldI h52 b (0+5) .i64 fun t58=>K (t53,t54,t55,t56,t57,t58,()) t h52))) h13)) h1
def YM:Zqj:=Zbq Yg YY ZaT YD
abbrev Zlr:=(Option Addr)→Int→((Int × Int × Int × Int × Int × Int × Unit)→Int→HP)→HP
def ZbV (f83:Zqj) (n:Option Addr) (at_:Int) (K:(Int × Int × Int × Int × Int × Int × Unit)→Int→HP) (h:Zc):Prop :=
 newC h [.int .i64 0,.int .i64 0,.int .i64 0,.int .i64 0,.int .i64 0,.int .i64 0] 169 fun b h1 =>
 Ze 0 fun t =>
 Zr n.isNone (
 sts h1 b 0 [.int .i64 0,.int .i64 0,.int .i64 0,.int .i64 0,.int .i64 0,.int .i64 0] fun h2 =>
 Ze 1 fun t3 =>
 ldI h2 b 0 .i64 fun t4=>ldI h2 b (0+1) .i64 fun t5=>ldI h2 b (0+2) .i64 fun t6=>ldI h2 b (0+3) .i64 fun t7=>ldI h2 b (0+4) .i64 fun t8=>ldI h2 b (0+5) .i64 fun t9=>K (t4,t5,t6,t7,t8,t9,()) t3 h2) (
 Zf n fun b10 o =>
 ldP h1 b10 o fun t11 =>
 f83 t11 at_ (fun t12 t13 h14 =>
 sts h14 b 0 [.int .i64 t12.1,.int .i64 t12.2.1,.int .i64 t12.2.2.1,.int .i64 t12.2.2.2.1,.int .i64 t12.2.2.2.2.1,.int .i64 t12.2.2.2.2.2.1] fun h15 =>
 Ze t13 fun t16 =>
 ldI h15 b 0 .i64 fun t17=>ldI h15 b (0+1) .i64 fun t18=>ldI h15 b (0+2) .i64 fun t19=>ldI h15 b (0+3) .i64 fun t20=>ldI h15 b (0+4) .i64 fun t21=>ldI h15 b (0+5) .i64 fun t22=>K (t17,t18,t19,t20,t21,t22,()) t16 h15) h1)
def Yl:Zlr:=ZbV YM
abbrev Zta:=(Option Addr)→Int→(Int→Int→HP)→HP
def ZcW (f84:Zlr) (n:Option Addr) (at_:Int) (K:Int→Int→HP) (h:Zc):Prop :=
 Ze 0 fun t =>
 Ze 0 fun t1 =>
 f84 n at_ (fun t2 t3 h4 =>
 newC h4 [.int .i64 0,.int .i64 0,.int .i64 0,.int .i64 0,.int .i64 0,.int .i64 0] 169 fun b h5 =>
 sts h5 b 0 [.int .i64 t2.1,.int .i64 t2.2.1,.int .i64 t2.2.2.1,.int .i64 t2.2.2.2.1,.int .i64 t2.2.2.2.2.1,.int .i64 t2.2.2.2.2.2.1] fun h6 =>
 Ze t3 fun e =>
 Zr (e !=0) (
 Ze 0 fun t7 =>
 Ze e fun t8 =>
 K t7 t8 h6) (
 ldI h6 b (0+2) .i64 fun t9 =>
 Zr (t9 ==0) (
 Ze 0 fun t10 =>
 Ze e fun t11 =>
 K t10 t11 h6) (
 ldI h6 b (0+4) .i64 fun t12 =>
 ldI h6 b (0+2) .i64 fun t13 =>
 ZP (t13≠0) <|
 Ze (IntKind.wrap .i64 (Int.tdiv t12 t13)) fun t14 =>
 Ze 0 fun t15 =>
 K t14 t15 h6))) h
def Zax:Zta:=ZcW Yl
abbrev Zqi:=(Option Addr)→Int→(Int→Int→HP)→HP
def Za9 (f77:ZmW) (f78:Zqm) (f79:Zpm) (f80:Zql) (w:Option Addr) (at_:Int) (K:Int→Int→HP) (h:Zc):Prop :=
 newC h [.pointer w] 162 fun b h1 =>
 newC h1 [.int .i64 at_] 3 fun b2 h3 =>
 Ze 0 fun t =>
 Ze 0 fun t4 =>
 ldP h3 b 0 fun t5 =>
 ldI h3 b2 0 .i64 fun t6 =>
 f77 t5 t6 (fun t7 h8 =>
 Ze t7 fun err =>
 Zr (err !=0) (
 Ze 0 fun t9 =>
 Ze err fun t10 =>
 K t9 t10 h8) (
 newC h8 [.int .i64 0] 3 fun b11 h12 =>
 st h12 b11 0 (.int .i64 0) fun h13 =>
 ldP h13 b 0 fun t14 =>
 ldI h13 b2 0 .i64 fun t15 =>
 f78 t14 t15 (fun t16 h17 =>
 ZiD 1 (fun Y l K h=>f80 Y l t16.1 t16.2.1 K h) (fun l rec vs h18 k =>
 Zo7 (fun a:(Int × Int × Int × Int × Int × Int × Int × Unit) × Unit=>[.agg #[.int .i64 a.1.1,.int .i64 a.1.2.1,.int .i64 a.1.2.2.1,.int .i64 a.1.2.2.2.1,.int .i64 a.1.2.2.2.2.1,.int .i64 a.1.2.2.2.2.2.1,.int .i64 a.1.2.2.2.2.2.2.1]]) vs fun a =>
 newC h18 [.int .i64 0,.int .i64 0,.int .i64 0,.int .i64 0,.int .i64 0,.int .i64 0,.int .i64 0] 249 fun b19 h20 =>
 sts h20 b19 0 [.int .i64 a.1.1,.int .i64 a.1.2.1,.int .i64 a.1.2.2.1,.int .i64 a.1.2.2.2.1,.int .i64 a.1.2.2.2.2.1,.int .i64 a.1.2.2.2.2.2.1,.int .i64 a.1.2.2.2.2.2.2.1] fun h21 =>
 Zlf rec l h21 fun h22 =>
 ldP h22 b 0 fun t23 =>
 ldI h22 b19 0 .i64 fun t24 =>
 ldP h22 b 0 fun t25 =>
 ldI h22 b2 0 .i64 fun t26 =>
 f79 t23 t24 (fun t27 h28 =>
 ZP (Zo h28 [(b2,0,.int .i64 t26)]) <|
 ZP (Zo h28 [(b,0,.pointer t25)]) <|
 f79 t25 t26 (fun t29 h30 =>
 Zr (t27 !=t29) (
 ldI h30 b11 0 .i64 fun t31 =>
 ldI h30 b19 (0+1) .i64 fun t32 =>
 st h30 b11 0 (.int .i64 (Zk3 t31 t32)) fun h33 =>
 k none h33) (
 k none h30)) h28) h22) h17 (fun p D h34 =>
 Zk8 p (
 ldI h34 b11 0 .i64 fun t35 =>
 Ze t35 fun t36 =>
 Ze 0 fun t37 =>
 ZeL D h34 fun h38=>K t36 t37 h38) (fun x =>
 bif Nat.beq x 0 then (
 ldI h34 b11 0 .i64 fun t40 =>
 Ze t40 fun t41 =>
 Ze 0 fun t42 =>
 ZeL D h34 fun h43=>K t41 t42 h43) else (False)) (
 ZeL D h34 fun h39=>K t t4 h39))) h13)) h3
def YE:Zqi:=Za9 Yg YY ZQ YD
abbrev Zs9:=(Option Addr)→Int→(Int→Int→HP)→HP
def Zbm (f86:Zqi) (n:Option Addr) (at_:Int) (K:Int→Int→HP) (h:Zc):Prop :=
 Ze 0 fun t =>
 Ze 0 fun t1 =>
 Zr n.isNone (
 Ze 0 fun t2 =>
 Ze 1 fun t3 =>
 K t2 t3 h) (
 Zf n fun b o =>
 ldP h b o fun t4 =>
 f86 t4 at_ (fun t5 t6 h7 =>
 Ze t5 fun t8 =>
 Ze t6 fun t9 =>
 K t8 t9 h7) h)
def Xd:Zs9:=Zbm YE
abbrev Zs8:=(Option Addr)→Int→(Int→Int→HP)→HP
def Zcm (f84:Zlr) (n:Option Addr) (at_:Int) (K:Int→Int→HP) (h:Zc):Prop :=
 Ze 0 fun t =>
 Ze 0 fun t1 =>
 f84 n at_ (fun t2 t3 h4 =>
 newC h4 [.int .i64 0,.int .i64 0,.int .i64 0,.int .i64 0,.int .i64 0,.int .i64 0] 169 fun b h5 =>
 sts h5 b 0 [.int .i64 t2.1,.int .i64 t2.2.1,.int .i64 t2.2.2.1,.int .i64 t2.2.2.2.1,.int .i64 t2.2.2.2.2.1,.int .i64 t2.2.2.2.2.2.1] fun h6 =>
 Ze t3 fun e =>
 ldI h6 b (0+5) .i64 fun t7 =>
 Ze t7 fun t8 =>
 Ze e fun t9 =>
 K t8 t9 h6) h
def Zac:Zs8:=Zcm Yl
abbrev ZjT:=(Option Addr)→(Int→HP)→HP
def ZaQ (n:Option Addr) (K:Int→HP) (h:Zc):Prop :=
 Ze 0 fun t =>
 Zr n.isNone (
 Ze 0 fun t1 =>
 K t1 h) (
 Zf n fun b o =>
 ldI h b (o+2) .i64 fun t2 =>
 Ze t2 fun t3 =>
 K t3 h)
def ZL:ZjT:=ZaQ
abbrev Zs7:=Int→(Option Addr)→(Option Addr)→(Bool→HP)→HP
def ZaG:Zs7:=fun _ _ _ _ _=>False
abbrev Zs6:=(Option Addr)→Int→(Option Addr × Option Addr × Unit)→(Int→Bool→HP)→HP
def Yx (f69:ZjU) (f90:Zs7) (w:Option Addr) (kind:Int) (blocks:Option Addr × Option Addr × Unit) (K:Int→Bool→HP) (h:Zc):Prop :=
 Ze 0 fun t =>
 Zf w fun b o =>
 Zf w fun b1 o2 =>
 ldP h b o fun t3 =>
 Zf t3 fun b4 o5 =>
 ldL h b4 (o5+3) fun t6=>ldL h b4 (o5+3+1) fun t7=>ldL h b4 (o5+3+2) fun t8=>ldL h b4 (o5+3+3) fun t9=>ldL h b4 (o5+3+4) fun t10 =>
 ldS h b1 (o2+1+1) fun t11 =>
 f69 (t6,t7,t8,t9,t10,()) kind t11 (fun t12 h13 =>
 ZP (Zo h13 [(b,o,.pointer t3)]) <|
 YL (σ:=Int × Unit) (fun J14 s h15 =>
 (fun (s25:Int) =>
 Zr (decide (s25<(t12.len:Int))) (
 Xh t12.ptr t12.len s25 1 fun b16 o17 =>
 ldI h15 b16 o17 .i64 fun t18 =>
 Ze t18 fun i =>
 f90 i blocks.1 blocks.2.1 (fun t19 h20 =>
 Zr t19 (
 Ze i fun t21 =>
 K t21 true h20) (
 J14 (IntKind.wrap .i64 (s25+1),()) h20)) h15) (
 Ze 0 fun t22 =>
 K t22 false h15)) s.1) (0,()) h13) h
def ZW:Zs6:=Yx Xv ZaG
abbrev Zs5:=(Option Addr)→(Int→Bool→HP)→HP
def Zbc (f76:ZmX) (f84:Zlr) (f85:Zta) (f87:Zs9) (f88:Zs8) (f89:ZjT) (f91:Zs6) (w:Option Addr) (K:Int→Bool→HP) (h:Zc):Prop :=
 newC h [.pointer w] 142 fun b h1 =>
 Ze 0 fun t =>
 ldP h1 b 0 fun t2 =>
 Zf t2 fun b3 o =>
 ldB h1 b3 (o+1+4) fun t4 =>
 Zr (!t4) (
 Ze 0 fun t5 =>
 K t5 false h1) (
 ldP h1 b 0 fun t6 =>
 Zf t6 fun b7 o8 =>
 ldP h1 b7 o8 fun t9 =>
 Zf t9 fun b10 o11 =>
 ldP h1 b10 (o11+12) fun t12 =>
 f76 t12 (1,ByteArray.mk #[],ByteArray.mk #[],ByteArray.mk #[],()) (fun t13 h14 =>
 ldP h14 b 0 fun t15 =>
 Zf t15 fun b16 o17 =>
 ldI h14 b16 (o17+1) .i64 fun t18 =>
 f84 t13 t18 (fun t19 t20 h21 =>
 newC h21 [.int .i64 0,.int .i64 0,.int .i64 0,.int .i64 0,.int .i64 0,.int .i64 0] 169 fun b22 h23 =>
 sts h23 b22 0 [.int .i64 t19.1,.int .i64 t19.2.1,.int .i64 t19.2.2.1,.int .i64 t19.2.2.2.1,.int .i64 t19.2.2.2.2.1,.int .i64 t19.2.2.2.2.2.1] fun h24 =>
 Ze t20 fun x =>
 ldP h24 b 0 fun t25 =>
 Zf t25 fun b26 o27 =>
 ldI h24 b26 (o27+1) .i64 fun t28 =>
 f85 t13 t28 (fun t29 t30 h31 =>
 Ze t29 fun mean =>
 Ze t30 fun x32 =>
 ldP h31 b 0 fun t33 =>
 Zf t33 fun b34 o35 =>
 ldI h31 b34 (o35+1) .i64 fun t36 =>
 f87 t13 t36 (fun t37 t38 h39 =>
 Ze t37 fun most =>
 Ze t38 fun x40 =>
 ldP h39 b 0 fun t41 =>
 Zf t41 fun b42 o43 =>
 ldI h39 b42 (o43+1) .i64 fun t44 =>
 f88 t13 t44 (fun t45 t46 h47 =>
 Ze t45 fun least =>
 Ze t46 fun x48 =>
 ZgR (σ:=Option Addr × Unit) (fun s h75 =>
 (fun (now:Option Addr) =>
 ldP h75 b 0 fun t76 =>
 f91 t76 4 (some ⟨b,0,none⟩,now,()) (fun t77 t78 h79 =>
 Ze t77 fun t80 =>
 Zy t78 fun t81 =>
 K t80 t81 h79) h75) s.1) (fun J49 =>
 ldI h47 b22 0 .i64 fun t50 =>
 ldP h47 b 0 fun t51 =>
 Zf t51 fun b52 o53 =>
 ldP h47 b52 o53 fun t54 =>
 Zf t54 fun b55 o56 =>
 ldI h47 b55 (o56+13) .i64 fun t57 =>
 ldP h47 b 0 fun t58 =>
 Zf t58 fun b59 o60 =>
 ldP h47 b59 o60 fun t61 =>
 Zf t61 fun b62 o63 =>
 ldI h47 b62 (o63+14) .i64 fun t64 =>
 Zh8 (
 f89 t13 (fun t65 h66 =>
 ZP (Zo h66 [(b62,o63+14,.int .i64 t64)]) <|
 ZP (Zo h66 [(b59,o60,.pointer t61)]) <|
 ZP (Zo h66 [(b,0,.pointer t58)]) <|
 ZP (Zo h66 [(b55,o56+13,.int .i64 t57)]) <|
 ZP (Zo h66 [(b52,o53,.pointer t54)]) <|
 ZP (Zo h66 [(b,0,.pointer t51)]) <|
 ZP (Zo h66 [(b22,0,.int .i64 t50)]) <|
 newC h66 [.int .i64 0,.int .i64 0,.int .i64 0,.int .i64 0,.int .i64 0,.int .i64 0,.int .i64 0] 302 fun b67 h68 =>
 ZP (Zo h68 [(b62,o63+14,.int .i64 t64)]) <|
 ZP (Zo h68 [(b59,o60,.pointer t61)]) <|
 ZP (Zo h68 [(b,0,.pointer t58)]) <|
 ZP (Zo h68 [(b55,o56+13,.int .i64 t57)]) <|
 ZP (Zo h68 [(b52,o53,.pointer t54)]) <|
 ZP (Zo h68 [(b,0,.pointer t51)]) <|
 ZP (Zo h68 [(b22,0,.int .i64 t50)]) <|
 sts h68 b67 0 [.int .i64 t50,.int .i64 t65,.int .i64 mean,.int .i64 t57,.int .i64 t64,.int .i64 most,.int .i64 least] fun h69 =>
 J49 (some ⟨b67,0,none⟩,()) h69) h47) (
 newC h47 [.int .i64 0,.int .i64 0,.int .i64 0,.int .i64 0,.int .i64 0,.int .i64 0,.int .i64 0] 302 fun b70 h71 =>
 ZP (Zo h71 [(b62,o63+14,.int .i64 t64)]) <|
 ZP (Zo h71 [(b59,o60,.pointer t61)]) <|
 ZP (Zo h71 [(b,0,.pointer t58)]) <|
 ZP (Zo h71 [(b55,o56+13,.int .i64 t57)]) <|
 ZP (Zo h71 [(b52,o53,.pointer t54)]) <|
 ZP (Zo h71 [(b,0,.pointer t51)]) <|
 ZP (Zo h71 [(b22,0,.int .i64 t50)]) <|
 f89 t13 (fun t72 h73 =>
 ZP (Zo h73 [(b62,o63+14,.int .i64 t64)]) <|
 ZP (Zo h73 [(b59,o60,.pointer t61)]) <|
 ZP (Zo h73 [(b,0,.pointer t58)]) <|
 ZP (Zo h73 [(b55,o56+13,.int .i64 t57)]) <|
 ZP (Zo h73 [(b52,o53,.pointer t54)]) <|
 ZP (Zo h73 [(b,0,.pointer t51)]) <|
 ZP (Zo h73 [(b22,0,.int .i64 t50)]) <|
 sts h73 b70 0 [.int .i64 t50,.int .i64 t72,.int .i64 mean,.int .i64 t57,.int .i64 t64,.int .i64 most,.int .i64 least] fun h74 =>
 J49 (some ⟨b70,0,none⟩,()) h74) h71))) h39) h31) h24) h14) h1)
def Xm:Zs5:=Zbc YJ Yl Zax Xd Zac ZL ZW
abbrev Zs4:=Int→(Option Addr)→(Bool→HP)→HP
def Zbo:Zs4:=fun _ _ _ _=>False
abbrev Zs3:=(Option Addr)→Int→(Option Addr × Unit)→(Int→Bool→HP)→HP
def YH (f69:ZjU) (f93:Zs4) (w:Option Addr) (kind:Int) (blocks:Option Addr × Unit) (K:Int→Bool→HP) (h:Zc):Prop :=
 Ze 0 fun t =>
 Zf w fun b o =>
 Zf w fun b1 o2 =>
 ldP h b o fun t3 =>
 Zf t3 fun b4 o5 =>
 ldL h b4 (o5+3) fun t6=>ldL h b4 (o5+3+1) fun t7=>ldL h b4 (o5+3+2) fun t8=>ldL h b4 (o5+3+3) fun t9=>ldL h b4 (o5+3+4) fun t10 =>
 ldS h b1 (o2+1+1) fun t11 =>
 f69 (t6,t7,t8,t9,t10,()) kind t11 (fun t12 h13 =>
 ZP (Zo h13 [(b,o,.pointer t3)]) <|
 YL (σ:=Int × Unit) (fun J14 s h15 =>
 (fun (s25:Int) =>
 Zr (decide (s25<(t12.len:Int))) (
 Xh t12.ptr t12.len s25 1 fun b16 o17 =>
 ldI h15 b16 o17 .i64 fun t18 =>
 Ze t18 fun i =>
 f93 i blocks.1 (fun t19 h20 =>
 Zr t19 (
 Ze i fun t21 =>
 K t21 true h20) (
 J14 (IntKind.wrap .i64 (s25+1),()) h20)) h15) (
 Ze 0 fun t22 =>
 K t22 false h15)) s.1) (0,()) h13) h
def Z9:Zs3:=YH Xv Zbo
abbrev Zs2:=(Option Addr)→(Int→Bool→HP)→HP
def Zcq (f94:Zs3) (w:Option Addr) (K:Int→Bool→HP) (h:Zc):Prop :=
 newC h [.pointer w] 142 fun b h1 =>
 Ze 0 fun t =>
 ldP h1 b 0 fun t2 =>
 f94 t2 3 (some ⟨b,0,none⟩,()) (fun t3 t4 h5 =>
 Ze t3 fun t6 =>
 Zy t4 fun t7 =>
 K t6 t7 h5) h1
def Zag:Zs2:=Zcq Z9
abbrev Zs1:=Sl→(Int × ByteArray × ByteArray × ByteArray × Bool × Int × Sl × Unit)→((Option Addr × Option Addr × Unit)→HP)→HP
def Zep (l:Sl) (c:Int × ByteArray × ByteArray × ByteArray × Bool × Int × Sl × Unit) (K:(Option Addr × Option Addr × Unit)→HP) (h:Zc):Prop :=
 newC h [.slice l.ptr l.len l.cap] 33 fun b h1 =>
 newC h1 [.int .i64 c.1,.string c.2.1,.string c.2.2.1,.string c.2.2.2.1,.bool c.2.2.2.2.1,.int .i64 c.2.2.2.2.2.1,.slice c.2.2.2.2.2.2.1.ptr c.2.2.2.2.2.2.1.len c.2.2.2.2.2.2.1.cap] 47 fun b2 h3 =>
 K (some ⟨b,0,none⟩,some ⟨b2,0,none⟩,()) h3
def Zc9:Zs1:=Zep
abbrev Zs0:=(ByteArray × ByteArray × Bool × Int × Int × ByteArray × Int × Int × Int × Bool × Int × Bool × Unit)→(Option Addr)→(Option Addr)→(Option Addr)→(Bool→HP)→HP
def ZdD (r:ByteArray × ByteArray × Bool × Int × Int × ByteArray × Int × Int × Int × Bool × Int × Bool × Unit) (a1:Option Addr) (a2:Option Addr) (a3:Option Addr) (K:Bool→HP) (h:Zc):Prop :=
 newC h [.string r.1,.string r.2.1,.bool r.2.2.1,.int .i64 r.2.2.2.1,.int .u8 r.2.2.2.2.1,.string r.2.2.2.2.2.1,.int .u8 r.2.2.2.2.2.2.1,.int .i64 r.2.2.2.2.2.2.2.1,.int .i64 r.2.2.2.2.2.2.2.2.1,.bool r.2.2.2.2.2.2.2.2.2.1,.int .i64 r.2.2.2.2.2.2.2.2.2.2.1,.bool r.2.2.2.2.2.2.2.2.2.2.2.1] 32 fun b h1 =>
 ldS h1 b 0 fun t =>
 Zf a1 fun b2 o=>ldL h1 b2 o fun t3 =>
 Zf a2 fun b4 o5=>ldI h1 b4 o5 .i64 fun t6 =>
 Xh t3.ptr t3.len t6 12 fun b7 o8 =>
 ldS h1 b7 o8 fun t9 =>
 Zr (Xu t t9) (
 ldS h1 b (0+1) fun t10 =>
 Zf a3 fun b11 o12=>ldS h1 b11 o12 fun t13 =>
 Zr (Xu t10 t13) (
 Zf a3 fun b14 o15=>ldS h1 b14 o15 fun t16 =>
 Zr (!(Xu t16 (ByteArray.mk #[100,101,102,97,117,108,116]))) (
 Zf a3 fun b17 o18=>ldS h1 b17 o18 fun t19 =>
 Zy (!(Xu t19 (ByteArray.mk #[111,116,104,101,114]))) fun t20 =>
 K t20 h1) (
 K false h1)) (
 K false h1)) (
 K false h1)
def ZbJ:Zs0:=ZdD
abbrev ZsZ:=Sl→(Option Addr × Option Addr × Option Addr × Unit)→(Int→HP)→HP
def Yu (f97:Zs0) (s:Sl) (f:Option Addr × Option Addr × Option Addr × Unit) (K:Int→HP) (h:Zc):Prop :=
 Ze 0 fun t =>
 YL (σ:=Int × Unit) (fun J1 s2 h3 =>
 (fun (s8:Int) =>
 Zr (decide (s8<(s.len:Int))) (
 Ze s8 fun i =>
 Xh s.ptr s.len i 12 fun b o =>
 ldS h3 b o fun t4=>ldS h3 b (o+1) fun t5=>ldB h3 b (o+2) fun t6=>ldI h3 b (o+3) .i64 fun t7=>ldI h3 b (o+4) .u8 fun t8=>ldS h3 b (o+5) fun t9=>ldI h3 b (o+6) .u8 fun t10=>ldI h3 b (o+7) .i64 fun t11=>ldI h3 b (o+8) .i64 fun t12=>ldB h3 b (o+9) fun t13=>ldI h3 b (o+10) .i64 fun t14=>ldB h3 b (o+11) fun t15 =>
 f97 (t4,t5,t6,t7,t8,t9,t10,t11,t12,t13,t14,t15,()) f.1 f.2.1 f.2.2.1 (fun t16 h17 =>
 Zr t16 (
 Ze i fun t18 =>
 K t18 h17) (
 J1 (IntKind.wrap .i64 (s8+1),()) h17)) h3) (
 Ze (-1) fun t19 =>
 K t19 h3)) s2.1) (0,()) h
def Z4:ZsZ:=Yu ZbJ
abbrev ZsY:=Sl→(Option Addr × Option Addr × Option Addr × Unit)→(Bool→HP)→HP
def Yp (f98:ZsZ) (s:Sl) (f:Option Addr × Option Addr × Option Addr × Unit) (K:Bool→HP) (h:Zc):Prop :=
 f98 s (f.1,f.2.1,f.2.2.1,()) (fun t h1 =>
 Zy (decide (t≥0)) fun t2 =>
 K t2 h1) h
def ZX:ZsY:=Yp Z4
abbrev ZpA:=Sl→Int→ByteArray→(Bool→HP)→HP
def Zc1 (f99:ZsY) (l:Sl) (i:Int) (origin:ByteArray) (K:Bool→HP) (h:Zc):Prop :=
 newC h [.slice l.ptr l.len l.cap] 33 fun b h1 =>
 newC h1 [.int .i64 i] 3 fun b2 h3 =>
 newC h3 [.string origin] 9 fun b4 h5 =>
 ldI h5 b2 0 .i64 fun t =>
 Zr (decide (t<0)) (
 K false h5) (
 ldI h5 b2 0 .i64 fun t6 =>
 ldL h5 b 0 fun t7 =>
 Zr (decide (t6≥(t7.len:Int))) (
 K false h5) (
 ldL h5 b 0 fun t8 =>
 ldI h5 b2 0 .i64 fun t9 =>
 Xh t8.ptr t8.len t9 12 fun b10 o =>
 ldS h5 b10 (o+1) fun t11 =>
 Zy (Xu t11 (ByteArray.mk #[100,101,102,97,117,108,116])) fun t12 =>
 Zr t12 (
 Zr t12 (
 K true h5) (
 Zy (Xu t11 (ByteArray.mk #[111,116,104,101,114])) fun t13 =>
 Zr t13 (
 ldL h5 b 0 fun t14 =>
 f99 t14 (some ⟨b,0,none⟩,some ⟨b2,0,none⟩,some ⟨b4,0,none⟩,()) (fun t15 h16 =>
 Zy (!t15) fun t17 =>
 K t17 h16) h5) (
 K false h5))) (
 ldS h5 b4 0 fun t18 =>
 Zy (Xu t11 t18) fun t19 =>
 Zr t19 (
 K true h5) (
 Zy (Xu t11 (ByteArray.mk #[111,116,104,101,114])) fun t20 =>
 Zr t20 (
 ldL h5 b 0 fun t21 =>
 f99 t21 (some ⟨b,0,none⟩,some ⟨b2,0,none⟩,some ⟨b4,0,none⟩,()) (fun t22 h23 =>
 Zy (!t22) fun t24 =>
 K t24 h23) h5) (
 K false h5)))))
def XM:ZpA:=Zc1 ZX
abbrev ZnU:=Yld→Nat→(Option Addr)→(Option Addr)→(HP)→HP
def Zdp (f100:ZpA) (Y:Yld) (yield:Nat) (a1:Option Addr) (a2:Option Addr) (K:HP) (h:Zc):Prop :=
 Zf a1 fun b o=>ldL h b o fun t =>
 YL (σ:=Int × Unit) (fun J1 s h2 =>
 (fun (s8:Int) =>
 Zr (decide (s8<(t.len:Int))) (
 Xh t.ptr t.len s8 12 fun b3 o4 =>
 ldS h2 b3 o4 fun t5=>ldS h2 b3 (o4+1) fun t6=>ldB h2 b3 (o4+2) fun t7=>ldI h2 b3 (o4+3) .i64 fun t8=>ldI h2 b3 (o4+4) .u8 fun t9=>ldS h2 b3 (o4+5) fun t10=>ldI h2 b3 (o4+6) .u8 fun t11=>ldI h2 b3 (o4+7) .i64 fun t12=>ldI h2 b3 (o4+8) .i64 fun t13=>ldB h2 b3 (o4+9) fun t14=>ldI h2 b3 (o4+10) .i64 fun t15=>ldB h2 b3 (o4+11) fun t16 =>
 newC h2 [.string (ByteArray.mk #[]),.string (ByteArray.mk #[]),.bool false,.int .i64 0,.int .u8 0,.string (ByteArray.mk #[]),.int .u8 0,.int .i64 0,.int .i64 0,.bool false,.int .i64 0,.bool false] 32 fun b17 h18 =>
 Ze s8 fun i =>
 sts h18 b17 0 [.string t5,.string t6,.bool t7,.int .i64 t8,.int .u8 t9,.string t10,.int .u8 t11,.int .i64 t12,.int .i64 t13,.bool t14,.int .i64 t15,.bool t16] fun h19 =>
 ldS h19 b17 0 fun t20 =>
 Zf a2 fun b21 o22 =>
 ldS h19 b21 (o22+1) fun t23 =>
 Zr (Xu t20 t23) (
 Zf a1 fun b24 o25=>ldL h19 b24 o25 fun t26 =>
 Zf a2 fun b27 o28 =>
 ldS h19 b27 (o28+3) fun t29 =>
 f100 t26 i t29 (fun t30 h31 =>
 Zr t30 (
 ldS h31 b17 0 fun t32=>ldS h31 b17 (0+1) fun t33=>ldB h31 b17 (0+2) fun t34=>ldI h31 b17 (0+3) .i64 fun t35=>ldI h31 b17 (0+4) .u8 fun t36=>ldS h31 b17 (0+5) fun t37=>ldI h31 b17 (0+6) .u8 fun t38=>ldI h31 b17 (0+7) .i64 fun t39=>ldI h31 b17 (0+8) .i64 fun t40=>ldB h31 b17 (0+9) fun t41=>ldI h31 b17 (0+10) .i64 fun t42=>ldB h31 b17 (0+11) fun t43 =>
 Y yield [.int .i64 i,.agg #[.string t32,.string t33,.bool t34,.int .i64 t35,.int .u8 t36,.string t37,.int .u8 t38,.int .i64 t39,.int .i64 t40,.bool t41,.int .i64 t42,.bool t43]] (fun go h44 =>
 Zr (!go) (
 K h44) (
 J1 (IntKind.wrap .i64 (s8+1),()) h44)) h31) (
 J1 (IntKind.wrap .i64 (s8+1),()) h31)) h19) (
 J1 (IntKind.wrap .i64 (s8+1),()) h19)) (
 K h2)) s.1) (0,()) h
def ZbK:ZnU:=Zdp XM
abbrev Zj4:=(ByteArray × ByteArray × Bool × Int × Int × ByteArray × Int × Int × Int × Bool × Int × Bool × Unit)→(Int × ByteArray × ByteArray × ByteArray × Bool × Int × Sl × Unit)→((ByteArray × ByteArray × ByteArray × Bool × Unit)→HP)→HP
def ZdW (r:ByteArray × ByteArray × Bool × Int × Int × ByteArray × Int × Int × Int × Bool × Int × Bool × Unit) (c:Int × ByteArray × ByteArray × ByteArray × Bool × Int × Sl × Unit) (K:(ByteArray × ByteArray × ByteArray × Bool × Unit)→HP) (h:Zc):Prop :=
 newC h [.string r.1,.string r.2.1,.bool r.2.2.1,.int .i64 r.2.2.2.1,.int .u8 r.2.2.2.2.1,.string r.2.2.2.2.2.1,.int .u8 r.2.2.2.2.2.2.1,.int .i64 r.2.2.2.2.2.2.2.1,.int .i64 r.2.2.2.2.2.2.2.2.1,.bool r.2.2.2.2.2.2.2.2.2.1,.int .i64 r.2.2.2.2.2.2.2.2.2.2.1,.bool r.2.2.2.2.2.2.2.2.2.2.2.1] 32 fun b h1 =>
 newC h1 [.int .i64 c.1,.string c.2.1,.string c.2.2.1,.string c.2.2.2.1,.bool c.2.2.2.2.1,.int .i64 c.2.2.2.2.2.1,.slice c.2.2.2.2.2.2.1.ptr c.2.2.2.2.2.2.1.len c.2.2.2.2.2.2.1.cap] 47 fun b2 h3 =>
 newC h3 [.string (ByteArray.mk #[]),.string (ByteArray.mk #[]),.string (ByteArray.mk #[]),.bool false] 346 fun b4 h5 =>
 ldI h5 b (0+4) .u8 fun t =>
 Zy (t ==1) fun t6 =>
 Zr t6 (
 ldS h5 b (0+5) fun t7 =>
 sts h5 b4 0 [.string t7,.string (ByteArray.mk #[]),.string (ByteArray.mk #[]),.bool false] fun h8 =>
 ldS h8 b4 0 fun t9=>ldS h8 b4 (0+1) fun t10=>ldS h8 b4 (0+2) fun t11=>ldB h8 b4 (0+3) fun t12=>K (t9,t10,t11,t12,()) h8) (
 Zy (t ==2) fun t13 =>
 Zr t13 (
 ldS h5 b2 (0+2) fun t14 =>
 ldS h5 b (0+5) fun t15 =>
 Zr (!(Xu t14 t15)) (
 sts h5 b4 0 [.string (ByteArray.mk #[]),.string (ByteArray.mk #[]),.string (ByteArray.mk #[]),.bool true] fun h16 =>
 ldS h16 b4 0 fun t17=>ldS h16 b4 (0+1) fun t18=>ldS h16 b4 (0+2) fun t19=>ldB h16 b4 (0+3) fun t20=>K (t17,t18,t19,t20,()) h16) (
 ldS h5 b2 (0+1) fun t21 =>
 ldS h5 b2 (0+2) fun t22 =>
 sts h5 b4 0 [.string t21,.string t22,.string (ByteArray.mk #[]),.bool false] fun h23 =>
 ldS h23 b4 0 fun t24=>ldS h23 b4 (0+1) fun t25=>ldS h23 b4 (0+2) fun t26=>ldB h23 b4 (0+3) fun t27=>K (t24,t25,t26,t27,()) h23)) (
 ldS h5 b (0+1) fun t28 =>
 Zr (!(Xu t28 (ByteArray.mk #[100,101,102,97,117,108,116]))) (
 ldS h5 b2 (0+1) fun t29 =>
 ldS h5 b2 (0+3) fun t30 =>
 sts h5 b4 0 [.string t29,.string (ByteArray.mk #[]),.string t30,.bool false] fun h31 =>
 ldS h31 b4 0 fun t32=>ldS h31 b4 (0+1) fun t33=>ldS h31 b4 (0+2) fun t34=>ldB h31 b4 (0+3) fun t35=>K (t32,t33,t34,t35,()) h31) (
 ldS h5 b2 (0+1) fun t36 =>
 sts h5 b4 0 [.string t36,.string (ByteArray.mk #[]),.string (ByteArray.mk #[]),.bool false] fun h37 =>
 ldS h37 b4 0 fun t38=>ldS h37 b4 (0+1) fun t39=>ldS h37 b4 (0+2) fun t40=>ldB h37 b4 (0+3) fun t41=>K (t38,t39,t40,t41,()) h37)))
def X4:Zj4:=ZdW
abbrev ZnT:=Sl→(Int × ByteArray × ByteArray × ByteArray × Bool × Int × Sl × Unit)→(Sl→HP)→HP
def Zeq (f96:Zs1) (f102:Zj4) (f101:ZnU) (l:Sl) (c:Int × ByteArray × ByteArray × ByteArray × Bool × Int × Sl × Unit) (K:Sl→HP) (h:Zc):Prop :=
 newC h [.int .i64 c.1,.string c.2.1,.string c.2.2.1,.string c.2.2.2.1,.bool c.2.2.2.2.1,.int .i64 c.2.2.2.2.2.1,.slice c.2.2.2.2.2.2.1.ptr c.2.2.2.2.2.2.1.len c.2.2.2.2.2.2.1.cap] 47 fun b h1 =>
 newC h1 [.slice none 0 0] 85 fun b2 h3 =>
 ldI h3 b 0 .i64 fun t=>ldS h3 b (0+1) fun t4=>ldS h3 b (0+2) fun t5=>ldS h3 b (0+3) fun t6=>ldB h3 b (0+4) fun t7=>ldI h3 b (0+5) .i64 fun t8=>ldL h3 b (0+6) fun t9 =>
 f96 l (t,t4,t5,t6,t7,t8,t9,()) (fun t10 h11 =>
 ZiD 2 (fun Y l12 K h=>f101 Y l12 t10.1 t10.2.1 K h) (fun l12 rec vs h13 k =>
 Zo7 (fun a:Int × (ByteArray × ByteArray × Bool × Int × Int × ByteArray × Int × Int × Int × Bool × Int × Bool × Unit) × Unit=>[.int .i64 a.1,.agg #[.string a.2.1.1,.string a.2.1.2.1,.bool a.2.1.2.2.1,.int .i64 a.2.1.2.2.2.1,.int .u8 a.2.1.2.2.2.2.1,.string a.2.1.2.2.2.2.2.1,.int .u8 a.2.1.2.2.2.2.2.2.1,.int .i64 a.2.1.2.2.2.2.2.2.2.1,.int .i64 a.2.1.2.2.2.2.2.2.2.2.1,.bool a.2.1.2.2.2.2.2.2.2.2.2.1,.int .i64 a.2.1.2.2.2.2.2.2.2.2.2.2.1,.bool a.2.1.2.2.2.2.2.2.2.2.2.2.2.1]]) vs fun a =>
 Ze a.1 fun i =>
 newC h13 [.string (ByteArray.mk #[]),.string (ByteArray.mk #[]),.bool false,.int .i64 0,.int .u8 0,.string (ByteArray.mk #[]),.int .u8 0,.int .i64 0,.int .i64 0,.bool false,.int .i64 0,.bool false] 32 fun b14 h15 =>
 sts h15 b14 0 [.string a.2.1.1,.string a.2.1.2.1,.bool a.2.1.2.2.1,.int .i64 a.2.1.2.2.2.1,.int .u8 a.2.1.2.2.2.2.1,.string a.2.1.2.2.2.2.2.1,.int .u8 a.2.1.2.2.2.2.2.2.1,.int .i64 a.2.1.2.2.2.2.2.2.2.1,.int .i64 a.2.1.2.2.2.2.2.2.2.2.1,.bool a.2.1.2.2.2.2.2.2.2.2.2.1,.int .i64 a.2.1.2.2.2.2.2.2.2.2.2.2.1,.bool a.2.1.2.2.2.2.2.2.2.2.2.2.2.1] fun h16 =>
 Zlf rec l12 h16 fun h17 =>
 ldS h17 b14 0 fun t18=>ldS h17 b14 (0+1) fun t19=>ldB h17 b14 (0+2) fun t20=>ldI h17 b14 (0+3) .i64 fun t21=>ldI h17 b14 (0+4) .u8 fun t22=>ldS h17 b14 (0+5) fun t23=>ldI h17 b14 (0+6) .u8 fun t24=>ldI h17 b14 (0+7) .i64 fun t25=>ldI h17 b14 (0+8) .i64 fun t26=>ldB h17 b14 (0+9) fun t27=>ldI h17 b14 (0+10) .i64 fun t28=>ldB h17 b14 (0+11) fun t29 =>
 ldI h17 b 0 .i64 fun t30=>ldS h17 b (0+1) fun t31=>ldS h17 b (0+2) fun t32=>ldS h17 b (0+3) fun t33=>ldB h17 b (0+4) fun t34=>ldI h17 b (0+5) .i64 fun t35=>ldL h17 b (0+6) fun t36 =>
 f102 (t18,t19,t20,t21,t22,t23,t24,t25,t26,t27,t28,t29,()) (t30,t31,t32,t33,t34,t35,t36,()) (fun t37 h38 =>
 Zr (!t37.2.2.2.1) (
 ldL h38 b2 0 fun t39 =>
 newC h38 [.int .i64 i] 3 fun b40 h41 =>
 rdS ⟨some ⟨b40,0,none⟩,1,1⟩ 1 h41 fun new=>app 3 1 8 [.int .i64 0] t39 1 new h41 fun t42 h43 =>
 st h43 b2 0 (.slice t42.ptr t42.len t42.cap) fun h44 =>
 k none h44) (
 k none h38)) h17) h11 (fun p D h45 =>
 Zk8 p (
 ldL h45 b2 0 fun t46 =>
 ZeL D h45 fun h47=>K t46 h47) (fun x =>
 bif Nat.beq x 0 then (
 ldL h45 b2 0 fun t49 =>
 ZeL D h45 fun h50=>K t49 h50) else (False)) (
 ZeL D h45 fun h48=>K ⟨none,0,0⟩ h48))) h3
def ZbL:ZnT:=Zeq Zc9 X4 ZbK
abbrev Zj3:=ByteArray→((Int × ByteArray × ByteArray × ByteArray × Unit)→HP)→HP
def Zdn (resource:ByteArray) (K:(Int × ByteArray × ByteArray × ByteArray × Unit)→HP) (h:Zc):Prop :=
 newC h [.int .u8 0,.string (ByteArray.mk #[]),.string (ByteArray.mk #[]),.string (ByteArray.mk #[])] 102 fun b h1 =>
 sts h1 b 0 [.int .u8 4,.string (ByteArray.mk #[]),.string resource,.string (ByteArray.mk #[])] fun h2 =>
 ldI h2 b 0 .u8 fun t=>ldS h2 b (0+1) fun t3=>ldS h2 b (0+2) fun t4=>ldS h2 b (0+3) fun t5=>K (t,t3,t4,t5,()) h2
def XA:Zj3:=Zdn
abbrev ZnS:=(Option Addr)→(ByteArray × ByteArray × Bool × Int × Int × ByteArray × Int × Int × Int × Bool × Int × Bool × Unit)→((Option Addr)→HP)→HP
def Zco (f102:Zj4) (f104:Zj3) (f76:ZmX) (w:Option Addr) (r:ByteArray × ByteArray × Bool × Int × Int × ByteArray × Int × Int × Int × Bool × Int × Bool × Unit) (K:(Option Addr)→HP) (h:Zc):Prop :=
 newC h [.string r.1,.string r.2.1,.bool r.2.2.1,.int .i64 r.2.2.2.1,.int .u8 r.2.2.2.2.1,.string r.2.2.2.2.2.1,.int .u8 r.2.2.2.2.2.2.1,.int .i64 r.2.2.2.2.2.2.2.1,.int .i64 r.2.2.2.2.2.2.2.2.1,.bool r.2.2.2.2.2.2.2.2.2.1,.int .i64 r.2.2.2.2.2.2.2.2.2.2.1,.bool r.2.2.2.2.2.2.2.2.2.2.2.1] 32 fun b h1 =>
 ZgR (σ:=Option Addr × Unit) (fun s h32 =>
 (fun (l:Option Addr) =>
 Zf l fun b33 o34 =>
 ldS h32 b33 o34 fun t35 =>
 f104 t35 (fun t36 h37 =>
 newC h37 [.int .u8 0,.string (ByteArray.mk #[]),.string (ByteArray.mk #[]),.string (ByteArray.mk #[])] 102 fun b38 h39 =>
 sts h39 b38 0 [.int .u8 t36.1,.string t36.2.1,.string t36.2.2.1,.string t36.2.2.2.1] fun h40 =>
 ZgR (σ:=Unit) (fun s64 h65 =>
 Zf w fun b66 o67 =>
 ldP h65 b66 o67 fun t68 =>
 Zf t68 fun b69 o70 =>
 ldP h65 b69 (o70+12) fun t71 =>
 ldI h65 b38 0 .u8 fun t72=>ldS h65 b38 (0+1) fun t73=>ldS h65 b38 (0+2) fun t74=>ldS h65 b38 (0+3) fun t75 =>
 f76 t71 (t72,t73,t74,t75,()) (fun t76 h77 =>
 ZP (Zo h77 [(b66,o67,.pointer t68)]) <|
 K t76 h77) h65) (fun J41 =>
 Zf l fun b42 o43 =>
 ldS h40 b42 (o43+2) fun t44 =>
 Zy (!(Xu t44 (ByteArray.mk #[]))) fun t45 =>
 Zr t45 (
 Zf l fun b46 o47 =>
 ldS h40 b46 o47 fun t48 =>
 Zf l fun b49 o50 =>
 ldS h40 b49 (o50+2) fun t51 =>
 sts h40 b38 0 [.int .u8 5,.string (ByteArray.mk #[]),.string t48,.string t51] fun h52 =>
 J41 (()) h52) (
 Zf l fun b53 o54 =>
 ldS h40 b53 (o54+1) fun t55 =>
 Zy (!(Xu t55 (ByteArray.mk #[]))) fun t56 =>
 Zr t56 (
 Zf l fun b57 o58 =>
 ldS h40 b57 (o58+1) fun t59 =>
 Zf l fun b60 o61 =>
 ldS h40 b60 o61 fun t62 =>
 sts h40 b38 0 [.int .u8 3,.string t59,.string t62,.string (ByteArray.mk #[])] fun h63 =>
 J41 (()) h63) (
 J41 (()) h40)))) h32) s.1) (fun J2 =>
 Zf w fun b3 o =>
 ldS h1 b 0 fun t=>ldS h1 b (0+1) fun t4=>ldB h1 b (0+2) fun t5=>ldI h1 b (0+3) .i64 fun t6=>ldI h1 b (0+4) .u8 fun t7=>ldS h1 b (0+5) fun t8=>ldI h1 b (0+6) .u8 fun t9=>ldI h1 b (0+7) .i64 fun t10=>ldI h1 b (0+8) .i64 fun t11=>ldB h1 b (0+9) fun t12=>ldI h1 b (0+10) .i64 fun t13=>ldB h1 b (0+11) fun t14 =>
 ldI h1 b3 (o+1) .i64 fun t15=>ldS h1 b3 (o+1+1) fun t16=>ldS h1 b3 (o+1+2) fun t17=>ldS h1 b3 (o+1+3) fun t18=>ldB h1 b3 (o+1+4) fun t19=>ldI h1 b3 (o+1+5) .i64 fun t20=>ldL h1 b3 (o+1+6) fun t21 =>
 Zh8 (
 f102 (t,t4,t5,t6,t7,t8,t9,t10,t11,t12,t13,t14,()) (t15,t16,t17,t18,t19,t20,t21,()) (fun t22 h23 =>
 newC h23 [.string (ByteArray.mk #[]),.string (ByteArray.mk #[]),.string (ByteArray.mk #[]),.bool false] 346 fun b24 h25 =>
 sts h25 b24 0 [.string t22.1,.string t22.2.1,.string t22.2.2.1,.bool t22.2.2.2.1] fun h26 =>
 J2 (some ⟨b24,0,none⟩,()) h26) h1) (
 newC h1 [.string (ByteArray.mk #[]),.string (ByteArray.mk #[]),.string (ByteArray.mk #[]),.bool false] 346 fun b27 h28 =>
 ZP (Zo h28 [(b3,o+1,.int .i64 t15),(b3,o+1+1,.string t16),(b3,o+1+2,.string t17),(b3,o+1+3,.string t18),(b3,o+1+4,.bool t19),(b3,o+1+5,.int .i64 t20),(b3,o+1+6,.slice t21.ptr t21.len t21.cap)]) <|
 ZP (Zo h28 [(b,0,.string t),(b,0+1,.string t4),(b,0+2,.bool t5),(b,0+3,.int .i64 t6),(b,0+4,.int .u8 t7),(b,0+5,.string t8),(b,0+6,.int .u8 t9),(b,0+7,.int .i64 t10),(b,0+8,.int .i64 t11),(b,0+9,.bool t12),(b,0+10,.int .i64 t13),(b,0+11,.bool t14)]) <|
 f102 (t,t4,t5,t6,t7,t8,t9,t10,t11,t12,t13,t14,()) (t15,t16,t17,t18,t19,t20,t21,()) (fun t29 h30 =>
 sts h30 b27 0 [.string t29.1,.string t29.2.1,.string t29.2.2.1,.bool t29.2.2.2.1] fun h31 =>
 J2 (some ⟨b27,0,none⟩,()) h31) h28))
def Zae:ZnS:=Zco X4 XA YJ
abbrev ZnR:=(Option Addr)→Int→(Int→Int→HP)→HP
def Zbl (f86:Zqi) (n:Option Addr) (at_:Int) (K:Int→Int→HP) (h:Zc):Prop :=
 Ze 0 fun t =>
 Ze 0 fun t1 =>
 Zr n.isNone (
 Ze 0 fun t2 =>
 Ze 1 fun t3 =>
 K t2 t3 h) (
 Zf n fun b o =>
 ldP h b (o+1) fun t4 =>
 f86 t4 at_ (fun t5 t6 h7 =>
 Ze t5 fun t8 =>
 Ze t6 fun t9 =>
 K t8 t9 h7) h)
def Xc:ZnR:=Zbl YE
abbrev ZnQ:=(Option Addr)→Int→Int→Int→Int→(Bool→Int→HP)→HP
def ZbG:ZnQ:=fun _ _ _ _ _ _ _=>False
abbrev ZnP:=(Option Addr)→Int→Int→(Int→Bool→Int→HP)→HP
def ZbM:ZnP:=fun _ _ _ _ _=>False
abbrev ZnO:=(Option Addr)→Int→Bool→Int→(Bool→HP)→HP
def ZdC (w:Option Addr) (wait:Int) (ok:Bool) (x:Int) (K:Bool→HP) (h:Zc):Prop :=
 Zf w fun b o =>
 ldI h b (o+11) .i64 fun t =>
 Zf w fun b1 o2 =>
 st h b1 (o2+11) (.int .i64 (Zk3 t wait)) fun h3 =>
 Zy ok fun t4 =>
 K t4 h3
def ZbH:ZnO:=ZdC
abbrev ZnN:=(Option Addr)→Int→Int→(Int→Int→HP)→HP
def ZbF:ZnN:=fun _ _ _ _ _=>False
abbrev ZnM:=(Option Addr)→((Option Addr)→HP)→HP
def ZbN:ZnM:=fun _ _ _=>False
abbrev ZnL:=(Option Addr)→Int→Int→Int→(Int→Bool→Int→HP)→HP
def ZcQ:ZnL:=fun _ _ _ _ _ _=>False
abbrev ZnK:=(ByteArray × ByteArray × Bool × Int × Int × ByteArray × Int × Int × Int × Bool × Int × Bool × Unit)→Int→Int→Int→(Bool→HP)→HP
def Zdq (r:ByteArray × ByteArray × Bool × Int × Int × ByteArray × Int × Int × Int × Bool × Int × Bool × Unit) (passed:Int) (flight:Int) (count:Int) (K:Bool→HP) (h:Zc):Prop :=
 newC h [.string r.1,.string r.2.1,.bool r.2.2.1,.int .i64 r.2.2.2.1,.int .u8 r.2.2.2.2.1,.string r.2.2.2.2.2.1,.int .u8 r.2.2.2.2.2.2.1,.int .i64 r.2.2.2.2.2.2.2.1,.int .i64 r.2.2.2.2.2.2.2.2.1,.bool r.2.2.2.2.2.2.2.2.2.1,.int .i64 r.2.2.2.2.2.2.2.2.2.2.1,.bool r.2.2.2.2.2.2.2.2.2.2.2.1] 32 fun b h1 =>
 ldB h1 b (0+2) fun t =>
 Zr t (
 ldI h1 b (0+3) .i64 fun t2 =>
 Zy (decide (flight<t2)) fun t3 =>
 K t3 h1) (
 ldI h1 b (0+3) .i64 fun t4 =>
 Ze (IntKind.wrap .i64 (t4 - passed)) fun left =>
 Zr (decide (passed<0)) (
 ldI h1 b (0+3) .i64 fun t5 =>
 Zy (decide (left<t5)) fun t6 =>
 Zr t6 (
 K true h1) (
 Zr (decide (passed≥0)) (
 ldI h1 b (0+3) .i64 fun t7 =>
 Zy (decide (left>t7)) fun t8 =>
 Zr t8 (
 K false h1) (
 Zy (decide (count≤left)) fun t9 =>
 K t9 h1)) (
 Zy (decide (count≤left)) fun t10 =>
 K t10 h1))) (
 Zr (decide (passed≥0)) (
 ldI h1 b (0+3) .i64 fun t11 =>
 Zy (decide (left>t11)) fun t12 =>
 Zr t12 (
 K false h1) (
 Zy (decide (count≤left)) fun t13 =>
 K t13 h1)) (
 Zy (decide (count≤left)) fun t14 =>
 K t14 h1)))
def ZaX:ZnK:=Zdq
abbrev ZnJ:=(Option Addr)→(ByteArray × ByteArray × Bool × Int × Int × ByteArray × Int × Int × Int × Bool × Int × Bool × Unit)→(Option Addr × Option Addr × Unit)→(Bool→HP)→HP
def Zcr (f105:ZnS) (f84:Zlr) (f106:ZnR) (f107:ZnQ) (f108:ZnP) (f109:ZnO) (f110:ZnN) (f111:ZnM) (f112:ZnL) (f89:ZjT) (f113:ZnK) (w:Option Addr) (r:ByteArray × ByteArray × Bool × Int × Int × ByteArray × Int × Int × Int × Bool × Int × Bool × Unit) (s:Option Addr × Option Addr × Unit) (K:Bool→HP) (h:Zc):Prop :=
 newC h [.string r.1,.string r.2.1,.bool r.2.2.1,.int .i64 r.2.2.2.1,.int .u8 r.2.2.2.2.1,.string r.2.2.2.2.2.1,.int .u8 r.2.2.2.2.2.2.1,.int .i64 r.2.2.2.2.2.2.2.1,.int .i64 r.2.2.2.2.2.2.2.2.1,.bool r.2.2.2.2.2.2.2.2.2.1,.int .i64 r.2.2.2.2.2.2.2.2.2.2.1,.bool r.2.2.2.2.2.2.2.2.2.2.2.1] 32 fun b h1 =>
 newC h1 [.pointer s.1,.pointer s.2.1] 126 fun b2 h3 =>
 ldS h3 b 0 fun t=>ldS h3 b (0+1) fun t4=>ldB h3 b (0+2) fun t5=>ldI h3 b (0+3) .i64 fun t6=>ldI h3 b (0+4) .u8 fun t7=>ldS h3 b (0+5) fun t8=>ldI h3 b (0+6) .u8 fun t9=>ldI h3 b (0+7) .i64 fun t10=>ldI h3 b (0+8) .i64 fun t11=>ldB h3 b (0+9) fun t12=>ldI h3 b (0+10) .i64 fun t13=>ldB h3 b (0+11) fun t14 =>
 f105 w (t,t4,t5,t6,t7,t8,t9,t10,t11,t12,t13,t14,()) (fun t15 h16 =>
 Zf w fun b17 o =>
 ldI h16 b17 (o+1) .i64 fun t18 =>
 f84 t15 t18 (fun t19 t20 h21 =>
 newC h21 [.int .i64 0,.int .i64 0,.int .i64 0,.int .i64 0,.int .i64 0,.int .i64 0] 169 fun b22 h23 =>
 sts h23 b22 0 [.int .i64 t19.1,.int .i64 t19.2.1,.int .i64 t19.2.2.1,.int .i64 t19.2.2.2.1,.int .i64 t19.2.2.2.2.1,.int .i64 t19.2.2.2.2.2.1] fun h24 =>
 Ze t20 fun x =>
 Zf w fun b25 o26 =>
 ldI h24 b25 (o26+1) .i64 fun t27 =>
 f106 t15 t27 (fun t28 t29 h30 =>
 newC h30 [.int .i64 0] 3 fun b31 h32 =>
 st h32 b31 0 (.int .i64 t28) fun h33 =>
 Ze t29 fun x34 =>
 ZgR (σ:=Option Addr × Option Addr × Unit) (fun s54 h55 =>
 (fun (at_:Option Addr) (count:Option Addr) =>
 ldI h55 b (0+6) .u8 fun t56 =>
 Zy (t56 ==1) fun t57 =>
 Zr t57 (
 Zf w fun b58 o59 =>
 ldL h55 b58 (o59+9) fun t60 =>
 newC h55 [.func (.func 213) #[] #[.pointer (some ⟨b2,0,none⟩),.pointer at_,.pointer (some ⟨b31,0,none⟩),.pointer (some ⟨b22,0,none⟩),.pointer count]] 1 fun b61 h62 =>
 rdS ⟨some ⟨b61,0,none⟩,1,1⟩ 1 h62 fun new=>app 1 1 8 [.nilFunc] t60 1 new h62 fun t63 h64 =>
 Zf w fun b65 o66 =>
 st h64 b65 (o66+9) (.slice t63.ptr t63.len t63.cap) fun h67 =>
 ldP h67 b2 (0+1) fun t68 =>
 Zf at_ fun b69 o70=>ldI h67 b69 o70 .i64 fun t71 =>
 ldI h67 b31 0 .i64 fun t72 =>
 ldI h67 b22 0 .i64 fun t73 =>
 Zf count fun b74 o75=>ldI h67 b74 o75 .i64 fun t76 =>
 f107 t68 t71 t72 t73 t76 (fun t77 t78 h79 =>
 Zy t77 fun ok =>
 Ze t78 fun x80 =>
 Zy ok fun t81 =>
 K t81 h79) h67) (
 Zy (t56 ==2) fun t82 =>
 Zr t82 (
 Zf w fun b83 o84 =>
 ldL h55 b83 (o84+9) fun t85 =>
 newC h55 [.func (.func 216) #[] #[.pointer (some ⟨b2,0,none⟩),.pointer at_,.pointer count]] 1 fun b86 h87 =>
 rdS ⟨some ⟨b86,0,none⟩,1,1⟩ 1 h87 fun new90=>app 1 1 8 [.nilFunc] t85 1 new90 h87 fun t88 h89 =>
 Zf w fun b91 o92 =>
 st h89 b91 (o92+9) (.slice t88.ptr t88.len t88.cap) fun h93 =>
 ldP h93 b2 0 fun t94 =>
 Zf at_ fun b95 o96=>ldI h93 b95 o96 .i64 fun t97 =>
 Zf count fun b98 o99=>ldI h93 b98 o99 .i64 fun t100 =>
 f108 t94 t97 t100 (fun t101 t102 t103 h104 =>
 f109 w t101 t102 t103 (fun t105 h106 =>
 Zy t105 fun t107 =>
 K t107 h106) h104) h93) (
 Zy (t56 ==3) fun t108 =>
 Zr t108 (
 ldP h55 b2 (0+1) fun t109 =>
 Zf at_ fun b110 o111=>ldI h55 b110 o111 .i64 fun t112 =>
 ldI h55 b31 0 .i64 fun t113 =>
 f110 t109 t112 t113 (fun t114 t115 h116 =>
 newC h116 [.int .i64 0] 3 fun b117 h118 =>
 st h118 b117 0 (.int .i64 t114) fun h119 =>
 Ze t115 fun x120 =>
 ldI h119 b117 0 .i64 fun t121 =>
 st h119 b117 0 (.int .i64 (Zk3 t121 1)) fun h122 =>
 Zf w fun b123 o124 =>
 ldL h122 b123 (o124+9) fun t125 =>
 newC h122 [.func (.func 221) #[] #[.pointer (some ⟨b2,0,none⟩),.pointer at_,.pointer (some ⟨b31,0,none⟩),.pointer count,.pointer (some ⟨b117,0,none⟩)]] 1 fun b126 h127 =>
 rdS ⟨some ⟨b126,0,none⟩,1,1⟩ 1 h127 fun new130=>app 1 1 8 [.nilFunc] t125 1 new130 h127 fun t128 h129 =>
 Zf w fun b131 o132 =>
 st h129 b131 (o132+9) (.slice t128.ptr t128.len t128.cap) fun h133 =>
 ldP h133 b2 0 fun t134 =>
 Zf at_ fun b135 o136=>ldI h133 b135 o136 .i64 fun t137 =>
 Zf count fun b138 o139=>ldI h133 b138 o139 .i64 fun t140 =>
 ldI h133 b117 0 .i64 fun t141 =>
 f111 t134 (fun t142 h143 =>
 ZP (Zo h143 [(b117,0,.int .i64 t141)]) <|
 ZP (Zo h143 [(b138,o139,.int .i64 t140)]) <|
 ZP (Zo h143 [(b135,o136,.int .i64 t137)]) <|
 f112 t142 t137 t140 t141 (fun t144 t145 t146 h147 =>
 f109 w t144 t145 t146 (fun t148 h149 =>
 Zy t148 fun t150 =>
 K t150 h149) h147) h143) h133) h55) (
 ldS h55 b 0 fun t151=>ldS h55 b (0+1) fun t152=>ldB h55 b (0+2) fun t153=>ldI h55 b (0+3) .i64 fun t154=>ldI h55 b (0+4) .u8 fun t155=>ldS h55 b (0+5) fun t156=>ldI h55 b (0+6) .u8 fun t157=>ldI h55 b (0+7) .i64 fun t158=>ldI h55 b (0+8) .i64 fun t159=>ldB h55 b (0+9) fun t160=>ldI h55 b (0+10) .i64 fun t161=>ldB h55 b (0+11) fun t162 =>
 ldI h55 b22 0 .i64 fun t163 =>
 Zf count fun b164 o165=>ldI h55 b164 o165 .i64 fun t166 =>
 f89 t15 (fun t167 h168 =>
 ZP (Zo h168 [(b164,o165,.int .i64 t166)]) <|
 ZP (Zo h168 [(b22,0,.int .i64 t163)]) <|
 ZP (Zo h168 [(b,0,.string t151),(b,0+1,.string t152),(b,0+2,.bool t153),(b,0+3,.int .i64 t154),(b,0+4,.int .u8 t155),(b,0+5,.string t156),(b,0+6,.int .u8 t157),(b,0+7,.int .i64 t158),(b,0+8,.int .i64 t159),(b,0+9,.bool t160),(b,0+10,.int .i64 t161),(b,0+11,.bool t162)]) <|
 f113 (t151,t152,t153,t154,t155,t156,t157,t158,t159,t160,t161,t162,()) t163 t167 t166 (fun t169 h170 =>
 Zy t169 fun t171 =>
 K t171 h170) h168) h55)))) s54.1 s54.2.1) (fun J35 =>
 Zf w fun b36 o37 =>
 Zf w fun b38 o39 =>
 ldI h33 b36 (o37+1) .i64 fun t40 =>
 ldI h33 b38 (o39+1+5) .i64 fun t41 =>
 Zh8 (
 newC h33 [.int .i64 0] 3 fun b42 h43 =>
 ZP (Zo h43 [(b38,o39+1+5,.int .i64 t41)]) <|
 ZP (Zo h43 [(b36,o37+1,.int .i64 t40)]) <|
 newC h43 [.int .i64 0] 3 fun b44 h45 =>
 ZP (Zo h45 [(b38,o39+1+5,.int .i64 t41)]) <|
 ZP (Zo h45 [(b36,o37+1,.int .i64 t40)]) <|
 st h45 b42 0 (.int .i64 t40) fun h46 =>
 ZP (Zo h46 [(b38,o39+1+5,.int .i64 t41)]) <|
 st h46 b44 0 (.int .i64 t41) fun h47 =>
 J35 (some ⟨b42,0,none⟩,some ⟨b44,0,none⟩,()) h47) (
 newC h33 [.int .i64 0] 3 fun b48 h49 =>
 ZP (Zo h49 [(b38,o39+1+5,.int .i64 t41)]) <|
 ZP (Zo h49 [(b36,o37+1,.int .i64 t40)]) <|
 newC h49 [.int .i64 0] 3 fun b50 h51 =>
 ZP (Zo h51 [(b38,o39+1+5,.int .i64 t41)]) <|
 ZP (Zo h51 [(b36,o37+1,.int .i64 t40)]) <|
 st h51 b50 0 (.int .i64 t40) fun h52 =>
 ZP (Zo h52 [(b38,o39+1+5,.int .i64 t41)]) <|
 st h52 b48 0 (.int .i64 t41) fun h53 =>
 J35 (some ⟨b50,0,none⟩,some ⟨b48,0,none⟩,()) h53))) h24) h16) h3
def Zah:ZnJ:=Zcr Zae Yl Xc ZbG ZbM ZbH ZbF ZbN ZcQ ZL ZaX
abbrev ZnI:=(Option Addr)→(Int→Bool→HP)→HP
def ZbX (f103:ZnT) (f114:ZnJ) (w:Option Addr) (K:Int→Bool→HP) (h:Zc):Prop :=
 Ze 0 fun t =>
 Zf w fun b o =>
 Zf w fun b1 o2 =>
 ldP h b o fun t3 =>
 Zf t3 fun b4 o5 =>
 ldL h b4 (o5+3) fun t6 =>
 ldI h b1 (o2+1) .i64 fun t7=>ldS h b1 (o2+1+1) fun t8=>ldS h b1 (o2+1+2) fun t9=>ldS h b1 (o2+1+3) fun t10=>ldB h b1 (o2+1+4) fun t11=>ldI h b1 (o2+1+5) .i64 fun t12=>ldL h b1 (o2+1+6) fun t13 =>
 f103 t6 (t7,t8,t9,t10,t11,t12,t13,()) (fun t14 h15 =>
 ZP (Zo h15 [(b,o,.pointer t3)]) <|
 YL (σ:=Int × Unit) (fun J16 s h17 =>
 (fun (s21:Int) =>
 Zr (decide (s21<(t14.len:Int))) (
 Xh t14.ptr t14.len s21 1 fun b18 o19 =>
 ldI h17 b18 o19 .i64 fun t20 =>
 Ze t20 fun i =>
 Zf w fun b21 o22 =>
 ldP h17 b21 o22 fun t23 =>
 Zf t23 fun b24 o25 =>
 ldL h17 b24 (o25+3) fun t26 =>
 Xh t26.ptr t26.len i 12 fun b27 o28 =>
 ldS h17 b27 o28 fun t29=>ldS h17 b27 (o28+1) fun t30=>ldB h17 b27 (o28+2) fun t31=>ldI h17 b27 (o28+3) .i64 fun t32=>ldI h17 b27 (o28+4) .u8 fun t33=>ldS h17 b27 (o28+5) fun t34=>ldI h17 b27 (o28+6) .u8 fun t35=>ldI h17 b27 (o28+7) .i64 fun t36=>ldI h17 b27 (o28+8) .i64 fun t37=>ldB h17 b27 (o28+9) fun t38=>ldI h17 b27 (o28+10) .i64 fun t39=>ldB h17 b27 (o28+11) fun t40 =>
 newC h17 [.string (ByteArray.mk #[]),.string (ByteArray.mk #[]),.bool false,.int .i64 0,.int .u8 0,.string (ByteArray.mk #[]),.int .u8 0,.int .i64 0,.int .i64 0,.bool false,.int .i64 0,.bool false] 32 fun b41 h42 =>
 sts h42 b41 0 [.string t29,.string t30,.bool t31,.int .i64 t32,.int .u8 t33,.string t34,.int .u8 t35,.int .i64 t36,.int .i64 t37,.bool t38,.int .i64 t39,.bool t40] fun h43 =>
 ZgR (σ:=Unit) (fun s50 h51 =>
 Zf w fun b52 o53 =>
 ldS h51 b41 0 fun t54=>ldS h51 b41 (0+1) fun t55=>ldB h51 b41 (0+2) fun t56=>ldI h51 b41 (0+3) .i64 fun t57=>ldI h51 b41 (0+4) .u8 fun t58=>ldS h51 b41 (0+5) fun t59=>ldI h51 b41 (0+6) .u8 fun t60=>ldI h51 b41 (0+7) .i64 fun t61=>ldI h51 b41 (0+8) .i64 fun t62=>ldB h51 b41 (0+9) fun t63=>ldI h51 b41 (0+10) .i64 fun t64=>ldB h51 b41 (0+11) fun t65 =>
 ldP h51 b52 o53 fun t66 =>
 Zf t66 fun b67 o68 =>
 ldL h51 b67 (o68+8) fun t69 =>
 Xh t69.ptr t69.len i 2 fun b70 o71 =>
 ldP h51 b70 o71 fun t72=>ldP h51 b70 (o71+1) fun t73 =>
 f114 w (t54,t55,t56,t57,t58,t59,t60,t61,t62,t63,t64,t65,()) (t72,t73,()) (fun t74 h75 =>
 ZP (Zo h75 [(b67,o68+8,.slice t69.ptr t69.len t69.cap)]) <|
 ZP (Zo h75 [(b52,o53,.pointer t66)]) <|
 Zr (!t74) (
 Ze i fun t76 =>
 K t76 true h75) (
 J16 (IntKind.wrap .i64 (s21+1),()) h75)) h51) (fun J44 =>
 ldB h43 b41 (0+9) fun t45 =>
 Zr t45 (
 Zf w fun b46 o47 =>
 ldB h43 b46 (o47+8) fun t48 =>
 Zr t48 (
 J16 (IntKind.wrap .i64 (s21+1),()) h43) (
 ldB h43 b41 (0+11) fun t49 =>
 Zr (!t49) (
 J16 (IntKind.wrap .i64 (s21+1),()) h43) (
 J44 (()) h43))) (
 J44 (()) h43))) (
 Ze 0 fun t77 =>
 K t77 false h17)) s.1) (0,()) h15) h
def XS:ZnI:=ZbX ZbL Zah
abbrev Zho:=(Option Addr)→Int→(Int→HP)→HP
def Zcb (b:Option Addr) (at_:Int) (K:Int→HP) (h:Zc):Prop :=
 Ze 0 fun t =>
 Zy b.isNone fun t1 =>
 Zr t1 (
 Ze 1 fun t2 =>
 K t2 h) (
 Zr (decide (at_<0)) (
 Ze 2 fun t3 =>
 K t3 h) (
 Zy (decide (at_>1152921504606846976)) fun t4 =>
 Zr t4 (
 Ze 2 fun t5 =>
 K t5 h) (
 Zf b fun b6 o =>
 ldI h b6 (o+11) .i64 fun t7 =>
 Zy (decide (at_<t7)) fun t8 =>
 Zr t8 (
 Ze 7 fun t9 =>
 K t9 h) (
 Ze 0 fun t10 =>
 K t10 h))))
def Yw:Zho:=Zcb
abbrev Zj2:=(Option Addr)→Int→(Bool→HP)→HP
def ZbA (b:Option Addr) (at_:Int) (K:Bool→HP) (h:Zc):Prop :=
 Zf b fun b1 o =>
 ldI h b1 (o+8) .u8 fun t =>
 Zr (t ==1) (
 K true h) (
 Zf b fun b2 o3 =>
 ldI h b2 (o3+8) .u8 fun t4 =>
 Zr (t4 ==2) (
 Zf b fun b5 o6 =>
 ldI h b5 (o6+9) .i64 fun t7 =>
 Zy (decide (at_≥t7)) fun t8 =>
 K t8 h) (
 K false h))
def YS:Zj2:=ZbA
abbrev ZnH:=(Option Addr)→Int→(Bool→Int→HP)→HP
def Zcc (f116:Zho) (f117:Zj2) (b:Option Addr) (at_:Int) (K:Bool→Int→HP) (h:Zc):Prop :=
 Ze 0 fun t =>
 f116 b at_ (fun t1 h2 =>
 Ze t1 fun e =>
 Zr (e !=0) (
 Ze e fun t3 =>
 K false t3 h2) (
 f117 b at_ (fun t4 h5 =>
 Zy t4 fun t6 =>
 Ze 0 fun t7 =>
 K t6 t7 h5) h2)) h
def ZaL:ZnH:=Zcc Yw YS
abbrev ZnG:=Int→(Option Addr)→(Bool→HP)→HP
def ZcJ (f118:ZnH) (i:Int) (a1:Option Addr) (K:Bool→HP) (h:Zc):Prop :=
 Zf a1 fun b o=>ldP h b o fun t =>
 Zf t fun b1 o2 =>
 ldP h b1 o2 fun t3 =>
 Zf t3 fun b4 o5 =>
 ldL h b4 (o5+8+1) fun t6 =>
 Xh t6.ptr t6.len i 2 fun b7 o8 =>
 ldP h b7 o8 fun t9=>ldI h b7 (o8+1) .i64 fun t10 =>
 newC h [.pointer none,.int .i64 0] 95 fun b11 h12 =>
 sts h12 b11 0 [.pointer t9,.int .i64 t10] fun h13 =>
 Zf a1 fun b14 o15=>ldP h13 b14 o15 fun t16 =>
 Zf a1 fun b17 o18=>ldP h13 b17 o18 fun t19 =>
 Zf t19 fun b20 o21 =>
 ldL h13 b20 (o21+9) fun t22 =>
 newC h13 [.func (.func 174) #[] #[.pointer (some ⟨b11,0,none⟩),.pointer a1]] 1 fun b23 h24 =>
 ZP (Zo h24 [(b20,o21+9,.slice t22.ptr t22.len t22.cap)]) <|
 ZP (Zo h24 [(b17,o18,.pointer t19)]) <|
 ZP (Zo h24 [(b14,o15,.pointer t16)]) <|
 rdS ⟨some ⟨b23,0,none⟩,1,1⟩ 1 h24 fun new=>app 1 1 8 [.nilFunc] t22 1 new h24 fun t25 h26 =>
 ZP (Zo h26 [(b17,o18,.pointer t19)]) <|
 ZP (Zo h26 [(b14,o15,.pointer t16)]) <|
 Zf t16 fun b27 o28 =>
 st h26 b27 (o28+9) (.slice t25.ptr t25.len t25.cap) fun h29 =>
 ldP h29 b11 0 fun t30 =>
 Zf a1 fun b31 o32=>ldP h29 b31 o32 fun t33 =>
 Zf t33 fun b34 o35 =>
 ldI h29 b34 (o35+1) .i64 fun t36 =>
 f118 t30 t36 (fun t37 t38 h39 =>
 ZP (Zo h39 [(b31,o32,.pointer t33)]) <|
 Zy t37 fun ok =>
 Ze t38 fun x =>
 Zy (!ok) fun t40 =>
 K t40 h39) h29
def ZaV:ZnG:=ZcJ ZaL
abbrev ZnF:=(Option Addr)→Int→(Option Addr × Unit)→(Int→Bool→HP)→HP
def Yz (f69:ZjU) (f119:ZnG) (w:Option Addr) (kind:Int) (blocks:Option Addr × Unit) (K:Int→Bool→HP) (h:Zc):Prop :=
 Ze 0 fun t =>
 Zf w fun b o =>
 Zf w fun b1 o2 =>
 ldP h b o fun t3 =>
 Zf t3 fun b4 o5 =>
 ldL h b4 (o5+3) fun t6=>ldL h b4 (o5+3+1) fun t7=>ldL h b4 (o5+3+2) fun t8=>ldL h b4 (o5+3+3) fun t9=>ldL h b4 (o5+3+4) fun t10 =>
 ldS h b1 (o2+1+1) fun t11 =>
 f69 (t6,t7,t8,t9,t10,()) kind t11 (fun t12 h13 =>
 ZP (Zo h13 [(b,o,.pointer t3)]) <|
 YL (σ:=Int × Unit) (fun J14 s h15 =>
 (fun (s25:Int) =>
 Zr (decide (s25<(t12.len:Int))) (
 Xh t12.ptr t12.len s25 1 fun b16 o17 =>
 ldI h15 b16 o17 .i64 fun t18 =>
 Ze t18 fun i =>
 f119 i blocks.1 (fun t19 h20 =>
 Zr t19 (
 Ze i fun t21 =>
 K t21 true h20) (
 J14 (IntKind.wrap .i64 (s25+1),()) h20)) h15) (
 Ze 0 fun t22 =>
 K t22 false h15)) s.1) (0,()) h13) h
def Z1:ZnF:=Yz Xv ZaV
abbrev ZnE:=(Option Addr)→(Int→Bool→HP)→HP
def Zbt (f120:ZnF) (w:Option Addr) (K:Int→Bool→HP) (h:Zc):Prop :=
 newC h [.pointer w] 142 fun b h1 =>
 Ze 0 fun t =>
 ldP h1 b 0 fun t2 =>
 f120 t2 2 (some ⟨b,0,none⟩,()) (fun t3 t4 h5 =>
 Ze t3 fun t6 =>
 Zy t4 fun t7 =>
 K t6 t7 h5) h1
def Xz:ZnE:=Zbt Z1
abbrev ZnD:=(Option Addr)→((Int × Int × Int × Unit)→Bool→HP)→HP
def Zcp (f72:Ztf) (f92:Zs5) (f95:Zs2) (f115:ZnI) (f121:ZnE) (w:Option Addr) (K:(Int × Int × Int × Unit)→Bool→HP) (h:Zc):Prop :=
 newC h [.int .u8 0,.int .i64 0,.int .i64 0] 42 fun b h1 =>
 ZP (ZA (.func (.func 100) #[] #[])=true) <|
 ZP (ZA (.func (.func 101) #[] #[])=true) <|
 ZP (ZA (.func (.func 102) #[] #[])=true) <|
 ZP (ZA (.func (.func 103) #[] #[])=true) <|
 ZP (ZA (.func (.func 104) #[] #[])=true) <|
 newC h1 [.int .u8 0,.nilFunc,.int .u8 0,.nilFunc,.int .u8 0,.nilFunc,.int .u8 0,.nilFunc,.int .u8 0,.nilFunc] 228 fun b2 h3 =>
 sts h3 b2 0 [.int .u8 1,.func (.func 100) #[] #[],.int .u8 2,.func (.func 101) #[] #[],.int .u8 3,.func (.func 102) #[] #[],.int .u8 4,.func (.func 103) #[] #[],.int .u8 5,.func (.func 104) #[] #[]] fun h4 =>
 ldI h4 b2 0 .u8 fun t=>ldV h4 b2 (0+1) fun t5=>ldI h4 b2 (0+2) .u8 fun t6=>ldV h4 b2 (0+3) fun t7=>ldI h4 b2 (0+4) .u8 fun t8=>ldV h4 b2 (0+5) fun t9=>ldI h4 b2 (0+6) .u8 fun t10=>ldV h4 b2 (0+7) fun t11=>ldI h4 b2 (0+8) .u8 fun t12=>ldV h4 b2 (0+9) fun t13 =>
 YL (σ:=Int × Unit) (fun J14 s h15 =>
 (fun (s16:Int) =>
 Zr (decide (s16<5)) (
 Zzj 5 s16 fun j=>exG (.agg ⟨([.int .u8 t,t5,.int .u8 t6,t7,.int .u8 t8,t9,.int .u8 t10,t11,.int .u8 t12,t13].drop (j*2)).take 2⟩) (fun t16:Int × Value × Unit=> .agg #[.int .u8 t16.1,t16.2.1]) fun t16 =>
 newC h15 [.int .u8 0,.nilFunc] 227 fun b17 h18 =>
 sts h18 b17 0 [.int .u8 t16.1,t16.2.1] fun h19 =>
 ldV h19 b17 (0+1) fun t20 =>
 (Zsu t20 100 <| f72 w (fun t22 t23 h21 =>
 Ze t22 fun i =>
 Zy t23 fun blocked =>
 Zr blocked (
 ldI h21 b17 0 .u8 fun t28 =>
 sts h21 b 0 [.int .u8 t28,.int .i64 i,.int .i64 0] fun h29 =>
 ldI h29 b 0 .u8 fun t30=>ldI h29 b (0+1) .i64 fun t31=>ldI h29 b (0+2) .i64 fun t32=>K (t30,t31,t32,()) true h29) (
 J14 (IntKind.wrap .i64 (s16+1),()) h21)) h19)∨(
 (Zsu t20 101 <| f92 w (fun t22 t23 h21 =>
 Ze t22 fun i =>
 Zy t23 fun blocked =>
 Zr blocked (
 ldI h21 b17 0 .u8 fun t28 =>
 sts h21 b 0 [.int .u8 t28,.int .i64 i,.int .i64 0] fun h29 =>
 ldI h29 b 0 .u8 fun t30=>ldI h29 b (0+1) .i64 fun t31=>ldI h29 b (0+2) .i64 fun t32=>K (t30,t31,t32,()) true h29) (
 J14 (IntKind.wrap .i64 (s16+1),()) h21)) h19)∨(
 (Zsu t20 102 <| f95 w (fun t22 t23 h21 =>
 Ze t22 fun i =>
 Zy t23 fun blocked =>
 Zr blocked (
 ldI h21 b17 0 .u8 fun t28 =>
 sts h21 b 0 [.int .u8 t28,.int .i64 i,.int .i64 0] fun h29 =>
 ldI h29 b 0 .u8 fun t30=>ldI h29 b (0+1) .i64 fun t31=>ldI h29 b (0+2) .i64 fun t32=>K (t30,t31,t32,()) true h29) (
 J14 (IntKind.wrap .i64 (s16+1),()) h21)) h19)∨(
 (Zsu t20 103 <| f115 w (fun t22 t23 h21 =>
 Ze t22 fun i =>
 Zy t23 fun blocked =>
 Zr blocked (
 ldI h21 b17 0 .u8 fun t28 =>
 sts h21 b 0 [.int .u8 t28,.int .i64 i,.int .i64 0] fun h29 =>
 ldI h29 b 0 .u8 fun t30=>ldI h29 b (0+1) .i64 fun t31=>ldI h29 b (0+2) .i64 fun t32=>K (t30,t31,t32,()) true h29) (
 J14 (IntKind.wrap .i64 (s16+1),()) h21)) h19)∨(
 (Zsu t20 104 <| f121 w (fun t22 t23 h21 =>
 Ze t22 fun i =>
 Zy t23 fun blocked =>
 Zr blocked (
 ldI h21 b17 0 .u8 fun t28 =>
 sts h21 b 0 [.int .u8 t28,.int .i64 i,.int .i64 0] fun h29 =>
 ldI h29 b 0 .u8 fun t30=>ldI h29 b (0+1) .i64 fun t31=>ldI h29 b (0+2) .i64 fun t32=>K (t30,t31,t32,()) true h29) (
 J14 (IntKind.wrap .i64 (s16+1),()) h21)) h19)∨(
 False)))))) (
 sts h15 b 0 [.int .u8 0,.int .i64 0,.int .i64 0] fun h33 =>
 ldI h33 b 0 .u8 fun t34=>ldI h33 b (0+1) .i64 fun t35=>ldI h33 b (0+2) .i64 fun t36=>K (t34,t35,t36,()) false h33)) s.1) (0,()) h4
def Zaf:ZnD:=Zcp XR Xm Zag XS Xz
abbrev Zhn:=Int→(Bool→HP)→HP
def Zem (at_:Int) (K:Bool→HP) (h:Zc):Prop :=
 Zr (decide (at_≥0)) (
 Zy (decide (at_≤1152921504606846976)) fun t =>
 K t h) (
 K false h)
def Y5:Zhn:=Zem
abbrev ZnC:=(Int × ByteArray × ByteArray × ByteArray × Unit)→(Option Addr)→(Bool→HP)→HP
def ZbS (f89:ZjT) (k:Int × ByteArray × ByteArray × ByteArray × Unit) (a1:Option Addr) (K:Bool→HP) (h:Zc):Prop :=
 newC h [.int .u8 k.1,.string k.2.1,.string k.2.2.1,.string k.2.2.2.1] 102 fun b h1 =>
 Zf a1 fun b2 o=>ldP h1 b2 o fun t =>
 Zf t fun b3 o4 =>
 ldM h1 b3 o4 fun t5 =>
 ldI h1 b 0 .u8 fun t6=>ldS h1 b (0+1) fun t7=>ldS h1 b (0+2) fun t8=>ldS h1 b (0+3) fun t9 =>
 ZbD [(.int .u8),.string,.string,.string] h1 t5 [.int .u8 t6,.string t7,.string t8,.string t9] fun r=>asP (r.getD (.pointer none)) fun t10 =>
 ZP (Zo h1 [(b2,o,.pointer t)]) <|
 f89 t10 (fun t11 h12 =>
 ZP (Zo h12 [(b2,o,.pointer t)]) <|
 Zy (decide (t11≥4096)) fun t13 =>
 K t13 h12) h1
def XO:ZnC:=ZbS ZL
abbrev ZnB:=Sl→(Option Addr × Unit)→(Int→HP)→HP
def Z5 (f124:ZnC) (s:Sl) (f:Option Addr × Unit) (K:Int→HP) (h:Zc):Prop :=
 Ze 0 fun t =>
 YL (σ:=Int × Unit) (fun J1 s2 h3 =>
 (fun (s8:Int) =>
 Zr (decide (s8<(s.len:Int))) (
 Ze s8 fun i =>
 Xh s.ptr s.len i 4 fun b o =>
 ldI h3 b o .u8 fun t4=>ldS h3 b (o+1) fun t5=>ldS h3 b (o+2) fun t6=>ldS h3 b (o+3) fun t7 =>
 f124 (t4,t5,t6,t7,()) f.1 (fun t8 h9 =>
 Zr t8 (
 Ze i fun t10 =>
 K t10 h9) (
 J1 (IntKind.wrap .i64 (s8+1),()) h9)) h3) (
 Ze (-1) fun t11 =>
 K t11 h3)) s2.1) (0,()) h
def ZI:ZnB:=Z5 XO
abbrev Zj1:=Sl→(Option Addr × Unit)→(Bool→HP)→HP
def ZY (f125:ZnB) (s:Sl) (f:Option Addr × Unit) (K:Bool→HP) (h:Zc):Prop :=
 f125 s (f.1,()) (fun t h1 =>
 Zy (decide (t≥0)) fun t2 =>
 K t2 h1) h
def Zk:Zj1:=ZY ZI
abbrev Zj0:=Int→(Bool→HP)→HP
def Zen (at_:Int) (K:Bool→HP) (h:Zc):Prop :=
 Zr (decide (at_≥0)) (
 Zy (decide (at_≤1152921504606846976)) fun t =>
 K t h) (
 K false h)
def Zao:Zj0:=Zen
abbrev ZnA:=(Option Addr)→(Int→HP)→HP
def X8 (w:Option Addr) (K:Int→HP) (h:Zc):Prop :=
 Ze 0 fun t =>
 Zr w.isNone (
 Ze 0 fun t1 =>
 K t1 h) (
 Zf w fun b o =>
 ldI h b (o+2) .i64 fun t2 =>
 Ze t2 fun t3 =>
 K t3 h)
def Xj:ZnA:=X8
abbrev Zhm:=(Option Addr)→Int→Sl→(Int→HP)→HP
def Zbk (f127:Zj0) (f128:ZnA) (n:Option Addr) (at_:Int) (counts:Sl) (K:Int→HP) (h:Zc):Prop :=
 Ze 0 fun t =>
 Zr n.isNone (
 Ze 1 fun t1 =>
 K t1 h) (
 f127 at_ (fun t2 h3 =>
 Zr (!t2) (
 Ze 2 fun t4 =>
 K t4 h3) (
 YL (σ:=Int × Unit) (fun J5 s h6 =>
 (fun (s16:Int) =>
 Zr (decide (s16<(counts.len:Int))) (
 Xh counts.ptr counts.len s16 1 fun b o =>
 ldI h6 b o .i64 fun t7 =>
 Ze t7 fun c =>
 Zr (decide (c<1)) (
 Ze 2 fun t8 =>
 K t8 h6) (
 Zr (decide (c>1099511627776)) (
 Ze 2 fun t9 =>
 K t9 h6) (
 J5 (IntKind.wrap .i64 (s16+1),()) h6))) (
 Zf n fun b10 o11 =>
 ldP h6 b10 o11 fun t12 =>
 f128 t12 (fun t13 h14 =>
 Zr (decide (at_<t13)) (
 Ze 7 fun t15 =>
 K t15 h14) (
 Ze 0 fun t16 =>
 K t16 h14)) h6)) s.1) (0,()) h3)) h)
def Yt:Zhm:=Zbk Zao Xj
abbrev ZjZ:=(Int × Int × Int × Int × Int × Int × Unit)→(Bool→HP)→HP
def ZdL (c:Int × Int × Int × Int × Int × Int × Unit) (K:Bool→HP) (h:Zc):Prop :=
 newC h [.int .i64 c.1,.int .i64 c.2.1,.int .i64 c.2.2.1,.int .i64 c.2.2.2.1,.int .i64 c.2.2.2.2.1,.int .i64 c.2.2.2.2.2.1] 169 fun b h1 =>
 ldI h1 b 0 .i64 fun t =>
 ldI h1 b (0+1) .i64 fun t2 =>
 ldI h1 b (0+2) .i64 fun t3 =>
 ldI h1 b (0+3) .i64 fun t4 =>
 ldI h1 b (0+4) .i64 fun t5 =>
 ldI h1 b (0+5) .i64 fun t6 =>
 newC h1 [.int .i64 t,.int .i64 t2,.int .i64 t3,.int .i64 t4,.int .i64 t5,.int .i64 t6] 3 fun b7 h8 =>
 YL (σ:=Int × Unit) (fun J9 s h10 =>
 (fun (s19:Int) =>
 Zr (decide (s19<(6:Int))) (
 Xh (some ⟨b7,0,none⟩) 6 s19 1 fun b11 o =>
 ldI h10 b11 o .i64 fun t12 =>
 Ze t12 fun n =>
 Zr (decide (n<0)) (
 K false h10) (
 Zr (decide (n>4611686018427387904)) (
 K false h10) (
 J9 (IntKind.wrap .i64 (s19+1),()) h10))) (
 ldI h10 b (0+3) .i64 fun t13 =>
 ldI h10 b (0+2) .i64 fun t14 =>
 Zr (decide (t13≤t14)) (
 ldI h10 b (0+5) .i64 fun t15 =>
 ldI h10 b (0+4) .i64 fun t16 =>
 Zr (decide (t15≤t16)) (
 ldI h10 b (0+2) .i64 fun t17 =>
 Zr (decide (t17>0)) (
 K true h10) (
 ldI h10 b (0+4) .i64 fun t18 =>
 Zy (t18 ==0) fun t19 =>
 K t19 h10)) (
 K false h10)) (
 K false h10))) s.1) (0,()) h8
def X3:ZjZ:=ZdL
abbrev Znz:=Sl→((Int × Int × Int × Int × Int × Int × Unit)→HP)→HP
def Zel (f130:ZjZ) (f82:Zqk) (l:Sl) (K:(Int × Int × Int × Int × Int × Int × Unit)→HP) (h:Zc):Prop :=
 newC h [.int .i64 0,.int .i64 0,.int .i64 0,.int .i64 0,.int .i64 0,.int .i64 0] 169 fun b h1 =>
 newC h1 [.int .i64 0,.int .i64 0,.int .i64 0,.int .i64 0,.int .i64 0,.int .i64 0] 169 fun b2 h3 =>
 YL (σ:=Int × Unit) (fun J4 s h5 =>
 (fun (s8:Int) =>
 Zr (decide (s8<(l.len:Int))) (
 Xh l.ptr l.len s8 6 fun b6 o =>
 ldI h5 b6 o .i64 fun t=>ldI h5 b6 (o+1) .i64 fun t7=>ldI h5 b6 (o+2) .i64 fun t8=>ldI h5 b6 (o+3) .i64 fun t9=>ldI h5 b6 (o+4) .i64 fun t10=>ldI h5 b6 (o+5) .i64 fun t11 =>
 newC h5 [.int .i64 0,.int .i64 0,.int .i64 0,.int .i64 0,.int .i64 0,.int .i64 0] 169 fun b12 h13 =>
 sts h13 b12 0 [.int .i64 t,.int .i64 t7,.int .i64 t8,.int .i64 t9,.int .i64 t10,.int .i64 t11] fun h14 =>
 ldI h14 b12 0 .i64 fun t15=>ldI h14 b12 (0+1) .i64 fun t16=>ldI h14 b12 (0+2) .i64 fun t17=>ldI h14 b12 (0+3) .i64 fun t18=>ldI h14 b12 (0+4) .i64 fun t19=>ldI h14 b12 (0+5) .i64 fun t20 =>
 f130 (t15,t16,t17,t18,t19,t20,()) (fun t21 h22 =>
 Zr t21 (
 ldI h22 b2 0 .i64 fun t23=>ldI h22 b2 (0+1) .i64 fun t24=>ldI h22 b2 (0+2) .i64 fun t25=>ldI h22 b2 (0+3) .i64 fun t26=>ldI h22 b2 (0+4) .i64 fun t27=>ldI h22 b2 (0+5) .i64 fun t28 =>
 ldI h22 b12 0 .i64 fun t29=>ldI h22 b12 (0+1) .i64 fun t30=>ldI h22 b12 (0+2) .i64 fun t31=>ldI h22 b12 (0+3) .i64 fun t32=>ldI h22 b12 (0+4) .i64 fun t33=>ldI h22 b12 (0+5) .i64 fun t34 =>
 f82 (t23,t24,t25,t26,t27,t28,()) (t29,t30,t31,t32,t33,t34,()) (fun t35 h36 =>
 sts h36 b2 0 [.int .i64 t35.1,.int .i64 t35.2.1,.int .i64 t35.2.2.1,.int .i64 t35.2.2.2.1,.int .i64 t35.2.2.2.2.1,.int .i64 t35.2.2.2.2.2.1] fun h37 =>
 J4 (IntKind.wrap .i64 (s8+1),()) h37) h22) (
 J4 (IntKind.wrap .i64 (s8+1),()) h22)) h14) (
 ldI h5 b2 0 .i64 fun t38=>ldI h5 b2 (0+1) .i64 fun t39=>ldI h5 b2 (0+2) .i64 fun t40=>ldI h5 b2 (0+3) .i64 fun t41=>ldI h5 b2 (0+4) .i64 fun t42=>ldI h5 b2 (0+5) .i64 fun t43 =>
 sts h5 b 0 [.int .i64 t38,.int .i64 t39,.int .i64 t40,.int .i64 t41,.int .i64 t42,.int .i64 t43] fun h44 =>
 ldI h44 b 0 .i64 fun t45=>ldI h44 b (0+1) .i64 fun t46=>ldI h44 b (0+2) .i64 fun t47=>ldI h44 b (0+3) .i64 fun t48=>ldI h44 b (0+4) .i64 fun t49=>ldI h44 b (0+5) .i64 fun t50=>K (t45,t46,t47,t48,t49,t50,()) h44)) s.1) (0,()) h3
def ZbE:Znz:=Zel X3 ZaT
abbrev ZjY:=(Option Addr)→Int→Sl→(Int→HP)→HP
def Zbr (f77:ZmW) (f130:ZjZ) (f79:Zpm) (f131:Znz) (w:Option Addr) (at_:Int) (l:Sl) (K:Int→HP) (h:Zc):Prop :=
 Ze 0 fun t =>
 f77 w at_ (fun t1 h2 =>
 Ze t1 fun err =>
 Zr (err !=0) (
 Ze err fun t3 =>
 K t3 h2) (
 YL (σ:=Int × Unit) (fun J4 s h5 =>
 (fun (s21:Int) =>
 Zr (decide (s21<(l.len:Int))) (
 Xh l.ptr l.len s21 6 fun b o =>
 ldI h5 b o .i64 fun t6=>ldI h5 b (o+1) .i64 fun t7=>ldI h5 b (o+2) .i64 fun t8=>ldI h5 b (o+3) .i64 fun t9=>ldI h5 b (o+4) .i64 fun t10=>ldI h5 b (o+5) .i64 fun t11 =>
 newC h5 [.int .i64 0,.int .i64 0,.int .i64 0,.int .i64 0,.int .i64 0,.int .i64 0] 169 fun b12 h13 =>
 sts h13 b12 0 [.int .i64 t6,.int .i64 t7,.int .i64 t8,.int .i64 t9,.int .i64 t10,.int .i64 t11] fun h14 =>
 ldI h14 b12 0 .i64 fun t15=>ldI h14 b12 (0+1) .i64 fun t16=>ldI h14 b12 (0+2) .i64 fun t17=>ldI h14 b12 (0+3) .i64 fun t18=>ldI h14 b12 (0+4) .i64 fun t19=>ldI h14 b12 (0+5) .i64 fun t20 =>
 f130 (t15,t16,t17,t18,t19,t20,()) (fun t21 h22 =>
 Zr (!t21) (
 Ze 6 fun t23 =>
 K t23 h22) (
 J4 (IntKind.wrap .i64 (s21+1),()) h22)) h14) (
 Zf w fun b24 o25 =>
 st h5 b24 (o25+2) (.int .i64 at_) fun h26 =>
 f79 w at_ (fun t27 h28 =>
 Ze t27 fun k =>
 ZgR (σ:=Unit) (fun s59 h60 =>
 Zf w fun b61 o62 =>
 ldM h60 b61 (o62+3) fun t63 =>
 rgM h60 t63 fun it h64 =>
 YL (σ:=Unit) (fun J65 s66 h67 =>
 ZgR (σ:=Bool × Unit) (fun s70 h71 =>
 (fun (s61:Bool) =>
 Zr s61 (
 Zzl h71 it fun k72 v=>asI k72 .i64 fun t73=>exG v (fun t74:Int × Int × Int × Int × Int × Int × Unit=> .agg #[.int .i64 t74.1,.int .i64 t74.2.1,.int .i64 t74.2.2.1,.int .i64 t74.2.2.2.1,.int .i64 t74.2.2.2.2.1,.int .i64 t74.2.2.2.2.2.1]) fun t74 =>
 Ze t73 fun old =>
 Zf w fun b75 o76 =>
 ldI h71 b75 (o76+1) .i64 fun t77 =>
 Zr (decide (old≤(IntKind.wrap .i64 (k - t77)))) (
 Zf w fun b78 o79 =>
 ldM h71 b78 (o79+3) fun t80 =>
 Zki (.int .i64) h71 t80 (.int .i64 old) fun h81 =>
 J65 (()) h81) (
 J65 (()) h71)) (
 Ze 0 fun t82 =>
 K t82 h71)) s70.1) (fun J68 =>
 ZrY h67 it (fun _ _ h69 =>
 J68 (true,()) h69) (
 J68 (false,()) h67))) (()) h64) (fun J29 =>
 Zf w fun b30 o31 =>
 ldM h28 b30 (o31+3) fun t32 =>
 Zg3 (.int .i64) h28 t32 (.int .i64 k) fun r=>exG (r.getD (.agg #[.int .i64 0,.int .i64 0,.int .i64 0,.int .i64 0,.int .i64 0,.int .i64 0])) (fun t33:Int × Int × Int × Int × Int × Int × Unit=> .agg #[.int .i64 t33.1,.int .i64 t33.2.1,.int .i64 t33.2.2.1,.int .i64 t33.2.2.2.1,.int .i64 t33.2.2.2.2.1,.int .i64 t33.2.2.2.2.2.1]) fun t33 =>
 newC h28 [.int .i64 t33.1,.int .i64 t33.2.1,.int .i64 t33.2.2.1,.int .i64 t33.2.2.2.1,.int .i64 t33.2.2.2.2.1,.int .i64 t33.2.2.2.2.2.1] 169 fun b34 h35 =>
 rdS l 6 h35 fun new=>app 169 6 48 [.int .i64 0,.int .i64 0,.int .i64 0,.int .i64 0,.int .i64 0,.int .i64 0] ⟨some ⟨b34,0,none⟩,1,1⟩ l.len new h35 fun t36 h37 =>
 f131 t36 (fun t38 h39 =>
 newC h39 [.int .i64 0,.int .i64 0,.int .i64 0,.int .i64 0,.int .i64 0,.int .i64 0] 169 fun b40 h41 =>
 sts h41 b40 0 [.int .i64 t38.1,.int .i64 t38.2.1,.int .i64 t38.2.2.1,.int .i64 t38.2.2.2.1,.int .i64 t38.2.2.2.2.1,.int .i64 t38.2.2.2.2.2.1] fun h42 =>
 ldI h42 b40 0 .i64 fun t43=>ldI h42 b40 (0+1) .i64 fun t44=>ldI h42 b40 (0+2) .i64 fun t45=>ldI h42 b40 (0+3) .i64 fun t46=>ldI h42 b40 (0+4) .i64 fun t47=>ldI h42 b40 (0+5) .i64 fun t48 =>
 Zr (!(bif t43 ==0 then (bif t44 ==0 then (bif t45 ==0 then (bif t46 ==0 then (bif t47 ==0 then (bif t48 ==0 then true else false) else false) else false) else false) else false) else false)) (
 Zf w fun b49 o50 =>
 ldM h42 b49 (o50+3) fun t51 =>
 ldI h42 b40 0 .i64 fun t52=>ldI h42 b40 (0+1) .i64 fun t53=>ldI h42 b40 (0+2) .i64 fun t54=>ldI h42 b40 (0+3) .i64 fun t55=>ldI h42 b40 (0+4) .i64 fun t56=>ldI h42 b40 (0+5) .i64 fun t57 =>
 Zg2 (.int .i64) h42 t51 (.int .i64 k) (.agg #[.int .i64 t52,.int .i64 t53,.int .i64 t54,.int .i64 t55,.int .i64 t56,.int .i64 t57]) fun h58 =>
 J29 (()) h58) (
 J29 (()) h42)) h37)) h26)) s.1) (0,()) h2)) h
def YN:ZjY:=Zbr Yg X3 ZQ ZbE
abbrev Zhl:=(Option Addr)→Int→Sl→(HP)→HP
def ZcU (f132:ZjY) (n:Option Addr) (at_:Int) (c:Sl) (K:HP) (h:Zc):Prop :=
 Zf n fun b o =>
 ldP h b o fun t =>
 f132 t at_ c (fun t1 h2 =>
 Zf n fun b3 o4 =>
 ldP h2 b3 (o4+1) fun t5 =>
 f132 t5 at_ c (fun t6 h7 =>
 K h7) h2) h
def YK:Zhl:=ZcU YN
abbrev Zny:=(Option Addr)→Int→Sl→(Int→HP)→HP
def Zcn (f129:Zhm) (f133:Zhl) (n:Option Addr) (at_:Int) (counts:Sl) (K:Int→HP) (h:Zc):Prop :=
 Ze 0 fun t =>
 f129 n at_ counts (fun t1 h2 =>
 Ze t1 fun e =>
 Zr (e !=0) (
 Ze e fun t3 =>
 K t3 h2) (
 YL (σ:=Sl × Int × Unit) (fun J4 s h5 =>
 (fun (l:Sl) (s20:Int) =>
 Zr (decide (s20<(counts.len:Int))) (
 Xh counts.ptr counts.len s20 1 fun b o =>
 ldI h5 b o .i64 fun t6 =>
 Ze t6 fun c =>
 newC h5 [.int .i64 0,.int .i64 c,.int .i64 0,.int .i64 0,.int .i64 0,.int .i64 0] 169 fun b7 h8 =>
 rdS ⟨some ⟨b7,0,none⟩,1,1⟩ 6 h8 fun new=>app 169 6 48 [.int .i64 0,.int .i64 0,.int .i64 0,.int .i64 0,.int .i64 0,.int .i64 0] l 1 new h8 fun t9 h10 =>
 J4 (t9,IntKind.wrap .i64 (s20+1),()) h10) (
 f133 n at_ l (fun h11 =>
 Ze 0 fun t12 =>
 K t12 h11) h5)) s.1 s.2.1) (⟨none,0,0⟩,0,()) h2)) h
def Zad:Zny:=Zcn Yt YK
abbrev Znx:=(Option Addr)→(Option Addr)→(Int→HP)→HP
def Zbs (f134:Zny) (n:Option Addr) (a1:Option Addr) (K:Int→HP) (h:Zc):Prop :=
 Ze 0 fun t =>
 Zf a1 fun b o =>
 ldI h b o .i64 fun t1 =>
 Zf a1 fun b2 o3 =>
 ldI h b2 (o3+5) .i64 fun t4 =>
 newC h [.int .i64 t4] 3 fun b5 h6 =>
 f134 n t1 ⟨some ⟨b5,0,none⟩,1,1⟩ (fun t7 h8 =>
 Ze t7 fun t9 =>
 K t9 h8) h6
def Xy:Znx:=Zbs Zad
abbrev Znw:=(Option Addr)→(Int × ByteArray × ByteArray × ByteArray × Bool × Int × Sl × Unit)→Bool→(Option Addr × Unit)→(Int→HP)→HP
def XG (f59:ZjV) (f123:Zhn) (f63:ZmZ) (f126:Zj1) (f65:ZmY) (f135:Znx) (t:Option Addr) (c:Int × ByteArray × ByteArray × ByteArray × Bool × Int × Sl × Unit) (full:Bool) (one:Option Addr × Unit) (K:Int→HP) (h:Zc):Prop :=
 newC h [.pointer t] 71 fun b h1 =>
 newC h1 [.int .i64 c.1,.string c.2.1,.string c.2.2.1,.string c.2.2.2.1,.bool c.2.2.2.2.1,.int .i64 c.2.2.2.2.2.1,.slice c.2.2.2.2.2.2.1.ptr c.2.2.2.2.2.2.1.len c.2.2.2.2.2.2.1.cap] 47 fun b2 h3 =>
 Ze 0 fun t4 =>
 ldP h3 b 0 fun t5 =>
 Zr t5.isNone (
 Ze 1 fun t6 =>
 K t6 h3) (
 ldI h3 b2 0 .i64 fun t7=>ldS h3 b2 (0+1) fun t8=>ldS h3 b2 (0+2) fun t9=>ldS h3 b2 (0+3) fun t10=>ldB h3 b2 (0+4) fun t11=>ldI h3 b2 (0+5) .i64 fun t12=>ldL h3 b2 (0+6) fun t13 =>
 f59 (t7,t8,t9,t10,t11,t12,t13,()) (fun t14 t15 h16 =>
 Ze t15 fun e =>
 Zy (e !=0) fun t17 =>
 Zr t17 (
 Ze e fun t18 =>
 K t18 h16) (
 ldI h16 b2 0 .i64 fun t19 =>
 f123 t19 (fun t20 h21 =>
 Zr (!t20) (
 Ze 2 fun t22 =>
 K t22 h21) (
 ldI h21 b2 (0+5) .i64 fun t23 =>
 Zr (decide (t23<1)) (
 Ze 2 fun t24 =>
 K t24 h21) (
 ldI h21 b2 (0+5) .i64 fun t25 =>
 Zy (decide (t25>1099511627776)) fun t26 =>
 Zr t26 (
 Ze 2 fun t27 =>
 K t27 h21) (
 ldI h21 b2 0 .i64 fun t28 =>
 ldP h21 b 0 fun t29 =>
 Zf t29 fun b30 o =>
 ldI h21 b30 (o+2) .i64 fun t31 =>
 Zy (decide (t28<t31)) fun t32 =>
 Zr t32 (
 Ze 7 fun t33 =>
 K t33 h21) (
 ldP h21 b 0 fun t34 =>
 Zf t34 fun b35 o36 =>
 ldP h21 b 0 fun t37 =>
 Zf t37 fun b38 o39 =>
 ldL h21 b38 (o39+1) fun t40 =>
 f63 (some ⟨b35,o36,none⟩) t14 (fun t41 h42 =>
 ZP (Zo h42 [(b38,o39+1,.slice t40.ptr t40.len t40.cap)]) <|
 ZP (Zo h42 [(b,0,.pointer t37)]) <|
 ZP (Zo h42 [(b,0,.pointer t34)]) <|
 Zy (decide (t41>(IntKind.wrap .i64 ((512:Int) - (t40.len:Int))))) fun t43 =>
 Zr t43 (
 Ze 3 fun t44 =>
 K t44 h42) (
 ZgR (σ:=Unit) (fun s h49 =>
 YL (σ:=Int × Unit) (fun J50 s51 h52 =>
 (fun (s69:Int) =>
 Zr (decide (s69<(t14.len:Int))) (
 Xh t14.ptr t14.len s69 4 fun b53 o54 =>
 ldI h52 b53 o54 .u8 fun t55=>ldS h52 b53 (o54+1) fun t56=>ldS h52 b53 (o54+2) fun t57=>ldS h52 b53 (o54+3) fun t58 =>
 newC h52 [.int .u8 0,.string (ByteArray.mk #[]),.string (ByteArray.mk #[]),.string (ByteArray.mk #[])] 102 fun b59 h60 =>
 sts h60 b59 0 [.int .u8 t55,.string t56,.string t57,.string t58] fun h61 =>
 ldP h61 b 0 fun t62 =>
 Zf t62 fun b63 o64 =>
 ldI h61 b59 0 .u8 fun t65=>ldS h61 b59 (0+1) fun t66=>ldS h61 b59 (0+2) fun t67=>ldS h61 b59 (0+3) fun t68 =>
 f65 (some ⟨b63,o64,none⟩) (t65,t66,t67,t68,()) (fun h69 =>
 ZP (Zo h69 [(b,0,.pointer t62)]) <|
 ldP h69 b 0 fun t70 =>
 Zf t70 fun b71 o72 =>
 ldM h69 b71 o72 fun t73 =>
 ldI h69 b59 0 .u8 fun t74=>ldS h69 b59 (0+1) fun t75=>ldS h69 b59 (0+2) fun t76=>ldS h69 b59 (0+3) fun t77 =>
 ZbD [(.int .u8),.string,.string,.string] h69 t73 [.int .u8 t74,.string t75,.string t76,.string t77] fun r=>asP (r.getD (.pointer none)) fun t78 =>
 ZP (Zo h69 [(b,0,.pointer t70)]) <|
 f135 t78 one.1 (fun t79 h80 =>
 ZP (Zo h80 [(b,0,.pointer t70)]) <|
 J50 (IntKind.wrap .i64 (s69+1),()) h80) h69) h61) (
 ldP h52 b 0 fun t81 =>
 ldI h52 b2 0 .i64 fun t82 =>
 Zf t81 fun b83 o84 =>
 st h52 b83 (o84+2) (.int .i64 t82) fun h85 =>
 Ze 0 fun t86 =>
 K t86 h85)) s51.1) (0,()) h49) (fun J45 =>
 Zr full (
 f126 t14 (some ⟨b,0,none⟩,()) (fun t46 h47 =>
 Zr t46 (
 Ze 3 fun t48 =>
 K t48 h47) (
 J45 (()) h47)) h42) (
 J45 (()) h42)))) h21))))) h16)) h3)
def YO:Znw:=XG YZ Y5 Yo Zk Yn Xy
abbrev Znv:=(Option Addr)→(Int × ByteArray × ByteArray × ByteArray × Bool × Int × Sl × Unit)→(Int→HP)→HP
def Zcl (f136:Znw) (t:Option Addr) (c:Int × ByteArray × ByteArray × ByteArray × Bool × Int × Sl × Unit) (K:Int→HP) (h:Zc):Prop :=
 newC h [.int .i64 c.1,.string c.2.1,.string c.2.2.1,.string c.2.2.2.1,.bool c.2.2.2.2.1,.int .i64 c.2.2.2.2.2.1,.slice c.2.2.2.2.2.2.1.ptr c.2.2.2.2.2.2.1.len c.2.2.2.2.2.2.1.cap] 47 fun b h1 =>
 Ze 0 fun t2 =>
 ldI h1 b 0 .i64 fun t3=>ldS h1 b (0+1) fun t4=>ldS h1 b (0+2) fun t5=>ldS h1 b (0+3) fun t6=>ldB h1 b (0+4) fun t7=>ldI h1 b (0+5) .i64 fun t8=>ldL h1 b (0+6) fun t9 =>
 f136 t (t3,t4,t5,t6,t7,t8,t9,()) false (some ⟨b,0,none⟩,()) (fun t10 h11 =>
 Ze t10 fun t12 =>
 K t12 h11) h1
def Zab:Znv:=Zcl YO
abbrev Znu:=(Option Addr)→Int→(Bool→Bool→Int→HP)→HP
def Zb3 (f116:Zho) (f117:Zj2) (b:Option Addr) (at_:Int) (K:Bool→Bool→Int→HP) (h:Zc):Prop :=
 Ze 0 fun e =>
 f116 b at_ (fun t h1 =>
 Ze t fun e2 =>
 Zr (e2 !=0) (
 Ze e2 fun e3 =>
 K false false e3 h1) (
 Zf b fun b4 o =>
 st h1 b4 (o+11) (.int .i64 at_) fun h5 =>
 f117 b at_ (fun t6 h7 =>
 Zy t6 fun passes =>
 Zr passes (
 Zf b fun b8 o9 =>
 ldI h7 b8 (o9+8) .u8 fun t10 =>
 Zr (t10 ==2) (
 Zf b fun b11 o12 =>
 st h7 b11 (o12+8) (.int .u8 3) fun h13 =>
 Zy passes fun passes14 =>
 Ze 0 fun e15 =>
 K passes14 true e15 h13) (
 Zy passes fun passes16 =>
 Ze 0 fun e17 =>
 K passes16 false e17 h7)) (
 Zy passes fun passes18 =>
 Ze 0 fun e19 =>
 K passes18 false e19 h7)) h5)) h
def Zas:Znu:=Zb3 Yw YS
abbrev Znt:=(Option Addr)→(Option Addr)→(HP)→HP
def ZbY (f138:Znu) (a0:Option Addr) (a1:Option Addr) (K:HP) (h:Zc):Prop :=
 Zf a0 fun b o =>
 ldP h b o fun t =>
 Zf a1 fun b1 o2=>ldP h b1 o2 fun t3 =>
 Zf t3 fun b4 o5 =>
 ldI h b4 (o5+1) .i64 fun t6 =>
 f138 t t6 (fun t7 t8 t9 h10 =>
 ZP (Zo h10 [(b1,o2,.pointer t3)]) <|
 Zy t7 fun x =>
 Zy t8 fun probe =>
 Ze t9 fun x11 =>
 Zr probe (
 Zf a0 fun b12 o13 =>
 Zf a1 fun b14 o15=>ldP h10 b14 o15 fun t16 =>
 Zf a1 fun b17 o18=>ldP h10 b17 o18 fun t19 =>
 Zf t19 fun b20 o21 =>
 ldL h10 b20 (o21+10) fun t22 =>
 ldI h10 b12 (o13+1) .i64 fun t23 =>
 newC h10 [.int .i64 t23] 3 fun b24 h25 =>
 ZP (Zo h25 [(b20,o21+10,.slice t22.ptr t22.len t22.cap)]) <|
 ZP (Zo h25 [(b17,o18,.pointer t19)]) <|
 ZP (Zo h25 [(b14,o15,.pointer t16)]) <|
 rdS ⟨some ⟨b24,0,none⟩,1,1⟩ 1 h25 fun new=>app 3 1 8 [.int .i64 0] t22 1 new h25 fun t26 h27 =>
 ZP (Zo h27 [(b17,o18,.pointer t19)]) <|
 ZP (Zo h27 [(b14,o15,.pointer t16)]) <|
 Zf t16 fun b28 o29 =>
 st h27 b28 (o29+10) (.slice t26.ptr t26.len t26.cap) fun h30 =>
 K h30) (
 K h10)) h
def Zap:Znt:=ZbY Zas
abbrev Znr:=(Option Addr)→Int→Sl→(Int→HP)→HP
def ZcV (f129:Zhm) (f133:Zhl) (n:Option Addr) (at_:Int) (counts:Sl) (K:Int→HP) (h:Zc):Prop :=
 Ze 0 fun t =>
 f129 n at_ counts (fun t1 h2 =>
 Ze t1 fun e =>
 Zr (e !=0) (
 Ze e fun t3 =>
 K t3 h2) (
 Zf n fun b o =>
 ldI h2 b (o+2) .i64 fun t4 =>
 Zr (decide ((counts.len:Int)>(IntKind.wrap .i64 ((4096:Int) - t4)))) (
 Ze 3 fun t5 =>
 K t5 h2) (
 YL (σ:=Sl × Int × Unit) (fun J6 s h7 =>
 (fun (l:Sl) (s28:Int) =>
 Zr (decide (s28<(counts.len:Int))) (
 Xh counts.ptr counts.len s28 1 fun b8 o9 =>
 ldI h7 b8 o9 .i64 fun t10 =>
 Ze t10 fun c =>
 newC h7 [.int .i64 c,.int .i64 0,.int .i64 0,.int .i64 0,.int .i64 0,.int .i64 0] 169 fun b11 h12 =>
 rdS ⟨some ⟨b11,0,none⟩,1,1⟩ 6 h12 fun new=>app 169 6 48 [.int .i64 0,.int .i64 0,.int .i64 0,.int .i64 0,.int .i64 0,.int .i64 0] l 1 new h12 fun t13 h14 =>
 J6 (t13,IntKind.wrap .i64 (s28+1),()) h14) (
 f133 n at_ l (fun h15 =>
 Zf n fun b16 o17 =>
 ldI h15 b16 (o17+2) .i64 fun t18 =>
 Zf n fun b19 o20 =>
 st h15 b19 (o20+2) (.int .i64 (IntKind.wrap .i64 (t18+(counts.len:Int)))) fun h21 =>
 Ze 0 fun t22 =>
 K t22 h21) h7)) s.1 s.2.1) (⟨none,0,0⟩,0,()) h2))) h
def Zaw:Znr:=ZcV Yt YK
abbrev Znq:=(Option Addr)→(Option Addr)→(Int→HP)→HP
def ZbT (f140:Znr) (n:Option Addr) (a1:Option Addr) (K:Int→HP) (h:Zc):Prop :=
 Ze 0 fun t =>
 Zf a1 fun b o =>
 ldI h b o .i64 fun t1 =>
 Zf a1 fun b2 o3 =>
 ldI h b2 (o3+5) .i64 fun t4 =>
 newC h [.int .i64 t4] 3 fun b5 h6 =>
 f140 n t1 ⟨some ⟨b5,0,none⟩,1,1⟩ (fun t7 h8 =>
 Ze t7 fun t9 =>
 K t9 h8) h6
def XP:Znq:=ZbT Zaw
abbrev Znp:=(Option Addr)→(Int × ByteArray × ByteArray × ByteArray × Bool × Int × Sl × Unit)→Bool→(Option Addr × Unit)→(Int→HP)→HP
def Yv (f59:ZjV) (f123:Zhn) (f63:ZmZ) (f126:Zj1) (f65:ZmY) (f141:Znq) (t:Option Addr) (c:Int × ByteArray × ByteArray × ByteArray × Bool × Int × Sl × Unit) (full:Bool) (one:Option Addr × Unit) (K:Int→HP) (h:Zc):Prop :=
 newC h [.pointer t] 71 fun b h1 =>
 newC h1 [.int .i64 c.1,.string c.2.1,.string c.2.2.1,.string c.2.2.2.1,.bool c.2.2.2.2.1,.int .i64 c.2.2.2.2.2.1,.slice c.2.2.2.2.2.2.1.ptr c.2.2.2.2.2.2.1.len c.2.2.2.2.2.2.1.cap] 47 fun b2 h3 =>
 Ze 0 fun t4 =>
 ldP h3 b 0 fun t5 =>
 Zr t5.isNone (
 Ze 1 fun t6 =>
 K t6 h3) (
 ldI h3 b2 0 .i64 fun t7=>ldS h3 b2 (0+1) fun t8=>ldS h3 b2 (0+2) fun t9=>ldS h3 b2 (0+3) fun t10=>ldB h3 b2 (0+4) fun t11=>ldI h3 b2 (0+5) .i64 fun t12=>ldL h3 b2 (0+6) fun t13 =>
 f59 (t7,t8,t9,t10,t11,t12,t13,()) (fun t14 t15 h16 =>
 Ze t15 fun e =>
 Zy (e !=0) fun t17 =>
 Zr t17 (
 Ze e fun t18 =>
 K t18 h16) (
 ldI h16 b2 0 .i64 fun t19 =>
 f123 t19 (fun t20 h21 =>
 Zr (!t20) (
 Ze 2 fun t22 =>
 K t22 h21) (
 ldI h21 b2 (0+5) .i64 fun t23 =>
 Zr (decide (t23<1)) (
 Ze 2 fun t24 =>
 K t24 h21) (
 ldI h21 b2 (0+5) .i64 fun t25 =>
 Zy (decide (t25>1099511627776)) fun t26 =>
 Zr t26 (
 Ze 2 fun t27 =>
 K t27 h21) (
 ldI h21 b2 0 .i64 fun t28 =>
 ldP h21 b 0 fun t29 =>
 Zf t29 fun b30 o =>
 ldI h21 b30 (o+2) .i64 fun t31 =>
 Zy (decide (t28<t31)) fun t32 =>
 Zr t32 (
 Ze 7 fun t33 =>
 K t33 h21) (
 ldP h21 b 0 fun t34 =>
 Zf t34 fun b35 o36 =>
 ldP h21 b 0 fun t37 =>
 Zf t37 fun b38 o39 =>
 ldL h21 b38 (o39+1) fun t40 =>
 f63 (some ⟨b35,o36,none⟩) t14 (fun t41 h42 =>
 ZP (Zo h42 [(b38,o39+1,.slice t40.ptr t40.len t40.cap)]) <|
 ZP (Zo h42 [(b,0,.pointer t37)]) <|
 ZP (Zo h42 [(b,0,.pointer t34)]) <|
 Zy (decide (t41>(IntKind.wrap .i64 ((512:Int) - (t40.len:Int))))) fun t43 =>
 Zr t43 (
 Ze 3 fun t44 =>
 K t44 h42) (
 ZgR (σ:=Unit) (fun s h49 =>
 YL (σ:=Int × Unit) (fun J50 s51 h52 =>
 (fun (s69:Int) =>
 Zr (decide (s69<(t14.len:Int))) (
 Xh t14.ptr t14.len s69 4 fun b53 o54 =>
 ldI h52 b53 o54 .u8 fun t55=>ldS h52 b53 (o54+1) fun t56=>ldS h52 b53 (o54+2) fun t57=>ldS h52 b53 (o54+3) fun t58 =>
 newC h52 [.int .u8 0,.string (ByteArray.mk #[]),.string (ByteArray.mk #[]),.string (ByteArray.mk #[])] 102 fun b59 h60 =>
 sts h60 b59 0 [.int .u8 t55,.string t56,.string t57,.string t58] fun h61 =>
 ldP h61 b 0 fun t62 =>
 Zf t62 fun b63 o64 =>
 ldI h61 b59 0 .u8 fun t65=>ldS h61 b59 (0+1) fun t66=>ldS h61 b59 (0+2) fun t67=>ldS h61 b59 (0+3) fun t68 =>
 f65 (some ⟨b63,o64,none⟩) (t65,t66,t67,t68,()) (fun h69 =>
 ZP (Zo h69 [(b,0,.pointer t62)]) <|
 ldP h69 b 0 fun t70 =>
 Zf t70 fun b71 o72 =>
 ldM h69 b71 o72 fun t73 =>
 ldI h69 b59 0 .u8 fun t74=>ldS h69 b59 (0+1) fun t75=>ldS h69 b59 (0+2) fun t76=>ldS h69 b59 (0+3) fun t77 =>
 ZbD [(.int .u8),.string,.string,.string] h69 t73 [.int .u8 t74,.string t75,.string t76,.string t77] fun r=>asP (r.getD (.pointer none)) fun t78 =>
 ZP (Zo h69 [(b,0,.pointer t70)]) <|
 f141 t78 one.1 (fun t79 h80 =>
 ZP (Zo h80 [(b,0,.pointer t70)]) <|
 J50 (IntKind.wrap .i64 (s69+1),()) h80) h69) h61) (
 ldP h52 b 0 fun t81 =>
 ldI h52 b2 0 .i64 fun t82 =>
 Zf t81 fun b83 o84 =>
 st h52 b83 (o84+2) (.int .i64 t82) fun h85 =>
 Ze 0 fun t86 =>
 K t86 h85)) s51.1) (0,()) h49) (fun J45 =>
 Zr full (
 f126 t14 (some ⟨b,0,none⟩,()) (fun t46 h47 =>
 Zr t46 (
 Ze 3 fun t48 =>
 K t48 h47) (
 J45 (()) h47)) h42) (
 J45 (()) h42)))) h21))))) h16)) h3)
def YW:Znp:=Yv YZ Y5 Yo Zk Yn XP
abbrev Zno:=(Option Addr)→(Int × ByteArray × ByteArray × ByteArray × Bool × Int × Sl × Unit)→(Int→HP)→HP
def ZcR (f142:Znp) (t:Option Addr) (c:Int × ByteArray × ByteArray × ByteArray × Bool × Int × Sl × Unit) (K:Int→HP) (h:Zc):Prop :=
 newC h [.int .i64 c.1,.string c.2.1,.string c.2.2.1,.string c.2.2.2.1,.bool c.2.2.2.2.1,.int .i64 c.2.2.2.2.2.1,.slice c.2.2.2.2.2.2.1.ptr c.2.2.2.2.2.2.1.len c.2.2.2.2.2.2.1.cap] 47 fun b h1 =>
 Ze 0 fun t2 =>
 ldI h1 b 0 .i64 fun t3=>ldS h1 b (0+1) fun t4=>ldS h1 b (0+2) fun t5=>ldS h1 b (0+3) fun t6=>ldB h1 b (0+4) fun t7=>ldI h1 b (0+5) .i64 fun t8=>ldL h1 b (0+6) fun t9 =>
 f142 t (t3,t4,t5,t6,t7,t8,t9,()) true (some ⟨b,0,none⟩,()) (fun t10 h11 =>
 Ze t10 fun t12 =>
 K t12 h11) h1
def Zau:Zno:=ZcR YW
abbrev Znn:=(Option Addr)→(Int × ByteArray × ByteArray × ByteArray × Bool × Int × Sl × Unit)→Bool→(Int→(Int × Int × Int × Unit)→Int→HP)→HP
def Zbg (f67:Ztj) (f122:ZnD) (f137:Znv) (f139:Znt) (f143:Zno) (e:Option Addr) (c:Int × ByteArray × ByteArray × ByteArray × Bool × Int × Sl × Unit) (granted:Bool) (K:Int→(Int × Int × Int × Unit)→Int→HP) (h:Zc):Prop :=
 newC h [.int .i64 c.1,.string c.2.1,.string c.2.2.1,.string c.2.2.2.1,.bool c.2.2.2.2.1,.int .i64 c.2.2.2.2.2.1,.slice c.2.2.2.2.2.2.1.ptr c.2.2.2.2.2.2.1.len c.2.2.2.2.2.2.1.cap] 47 fun b h1 =>
 Ze 0 fun t =>
 newC h1 [.int .u8 0,.int .i64 0,.int .i64 0] 42 fun b2 h3 =>
 Ze 0 fun t4 =>
 Zr e.isNone (
 Ze 0 fun t5 =>
 sts h3 b2 0 [.int .u8 0,.int .i64 0,.int .i64 0] fun h6 =>
 Ze 1 fun t7 =>
 ldI h6 b2 0 .u8 fun t8=>ldI h6 b2 (0+1) .i64 fun t9=>ldI h6 b2 (0+2) .i64 fun t10=>K t5 (t8,t9,t10,()) t7 h6) (
 Zf e fun b11 o =>
 ldI h3 b 0 .i64 fun t12=>ldS h3 b (0+1) fun t13=>ldS h3 b (0+2) fun t14=>ldS h3 b (0+3) fun t15=>ldB h3 b (0+4) fun t16=>ldI h3 b (0+5) .i64 fun t17=>ldL h3 b (0+6) fun t18 =>
 f67 (some ⟨b11,o,none⟩) (t12,t13,t14,t15,t16,t17,t18,()) (fun t19 h20 =>
 Ze t19 fun err =>
 Zr (err !=0) (
 Ze 0 fun t21 =>
 sts h20 b2 0 [.int .u8 0,.int .i64 0,.int .i64 0] fun h22 =>
 Ze err fun t23 =>
 ldI h22 b2 0 .u8 fun t24=>ldI h22 b2 (0+1) .i64 fun t25=>ldI h22 b2 (0+2) .i64 fun t26=>K t21 (t24,t25,t26,()) t23 h22) (
 ldI h20 b 0 .i64 fun t27 =>
 Zf e fun b28 o29 =>
 st h20 b28 (o29+18) (.int .i64 t27) fun h30 =>
 Zf e fun b31 o32 =>
 ldI h30 b 0 .i64 fun t33=>ldS h30 b (0+1) fun t34=>ldS h30 b (0+2) fun t35=>ldS h30 b (0+3) fun t36=>ldB h30 b (0+4) fun t37=>ldI h30 b (0+5) .i64 fun t38=>ldL h30 b (0+6) fun t39 =>
 newC h30 [.pointer (some ⟨b31,o32,none⟩),.int .i64 t33,.string t34,.string t35,.string t36,.bool t37,.int .i64 t38,.slice t39.ptr t39.len t39.cap,.bool granted,.slice none 0 0,.slice none 0 0,.int .i64 0] 145 fun b40 h41 =>
 ZP (Zo h41 [(b,0,.int .i64 t33),(b,0+1,.string t34),(b,0+2,.string t35),(b,0+3,.string t36),(b,0+4,.bool t37),(b,0+5,.int .i64 t38),(b,0+6,.slice t39.ptr t39.len t39.cap)]) <|
 f122 (some ⟨b40,0,none⟩) (fun t42 t43 h44 =>
 newC h44 [.int .u8 0,.int .i64 0,.int .i64 0] 42 fun b45 h46 =>
 sts h46 b45 0 [.int .u8 t42.1,.int .i64 t42.2.1,.int .i64 t42.2.2.1] fun h47 =>
 Zy t43 fun blocked =>
 Zr blocked (
 Zf e fun b48 o49 =>
 ldP h47 b48 (o49+12) fun t50 =>
 ldI h47 b 0 .i64 fun t51=>ldS h47 b (0+1) fun t52=>ldS h47 b (0+2) fun t53=>ldS h47 b (0+3) fun t54=>ldB h47 b (0+4) fun t55=>ldI h47 b (0+5) .i64 fun t56=>ldL h47 b (0+6) fun t57 =>
 f137 t50 (t51,t52,t53,t54,t55,t56,t57,()) (fun t58 h59 =>
 Ze 0 fun t60 =>
 ldI h59 b45 0 .u8 fun t61=>ldI h59 b45 (0+1) .i64 fun t62=>ldI h59 b45 (0+2) .i64 fun t63 =>
 sts h59 b2 0 [.int .u8 t61,.int .i64 t62,.int .i64 t63] fun h64 =>
 Ze 0 fun t65 =>
 ldI h64 b2 0 .u8 fun t66=>ldI h64 b2 (0+1) .i64 fun t67=>ldI h64 b2 (0+2) .i64 fun t68=>K t60 (t66,t67,t68,()) t65 h64) h47) (
 ldL h47 b40 (0+9) fun t69 =>
 YL (σ:=Int × Unit) (fun J70 s h71 =>
 (fun (s60:Int) =>
 Zr (decide (s60<(t69.len:Int))) (
 Xh t69.ptr t69.len s60 1 fun b72 o73 =>
 ldV h71 b72 o73 fun t74 =>
 (exG t74 (fun c76:Option Addr × Option Addr × Unit=> .func (.func 174) #[] ⟨[.pointer c76.1,.pointer c76.2.1]⟩) fun c76=>f139 c76.1 c76.2.1 (fun h75 =>
 J70 (IntKind.wrap .i64 (s60+1),()) h75) h71)∨(
 False)) (
 Zf e fun b77 o78 =>
 ldP h71 b77 (o78+12) fun t79 =>
 ldI h71 b 0 .i64 fun t80=>ldS h71 b (0+1) fun t81=>ldS h71 b (0+2) fun t82=>ldS h71 b (0+3) fun t83=>ldB h71 b (0+4) fun t84=>ldI h71 b (0+5) .i64 fun t85=>ldL h71 b (0+6) fun t86 =>
 f143 t79 (t80,t81,t82,t83,t84,t85,t86,()) (fun t87 h88 =>
 st h88 b (0+6) (.slice none 0 0) fun h89 =>
 Zf e fun b90 o91 =>
 ldI h89 b90 (o91+17) .i64 fun t92 =>
 Ze t92 fun n =>
 Zf e fun b93 o94 =>
 ldI h89 b93 (o94+17) .i64 fun t95 =>
 Zf e fun b96 o97 =>
 st h89 b96 (o97+17) (.int .i64 (IntKind.wrap .i64 (t95+1))) fun h98 =>
 Zf e fun b99 o100 =>
 ldI h98 b99 (o100+16) .i64 fun t101 =>
 Zf e fun b102 o103 =>
 st h98 b102 (o103+16) (.int .i64 (IntKind.wrap .i64 (t101+1))) fun h104 =>
 Zf e fun b105 o106 =>
 ldM h104 b105 (o106+15) fun t107 =>
 ldI h104 b 0 .i64 fun t108=>ldS h104 b (0+1) fun t109=>ldS h104 b (0+2) fun t110=>ldS h104 b (0+3) fun t111=>ldB h104 b (0+4) fun t112=>ldI h104 b (0+5) .i64 fun t113=>ldL h104 b (0+6) fun t114 =>
 ldL h104 b40 (0+10) fun t115 =>
 Zg2 (.int .i64) h104 t107 (.int .i64 n) (.agg #[.int .i64 t108,.string t109,.string t110,.string t111,.bool t112,.int .i64 t113,.slice t114.ptr t114.len t114.cap,.bool false,.slice t115.ptr t115.len t115.cap]) fun h116 =>
 Ze n fun t117 =>
 ldI h116 b40 (0+11) .i64 fun t118 =>
 sts h116 b2 0 [.int .u8 0,.int .i64 0,.int .i64 t118] fun h119 =>
 Ze 0 fun t120 =>
 ldI h119 b2 0 .u8 fun t121=>ldI h119 b2 (0+1) .i64 fun t122=>ldI h119 b2 (0+2) .i64 fun t123=>K t117 (t121,t122,t123,()) t120 h119) h71)) s.1) (0,()) h47)) h41)) h3)
def Xp:Znn:=Zbg Xn Zaf Zab Zap Zau
abbrev ZjX:=(Option Addr)→(Int × ByteArray × ByteArray × ByteArray × Bool × Int × Sl × Unit)→(Int→(Int × Int × Int × Unit)→Int→HP)→HP
def Zbf (f144:Znn) (e:Option Addr) (c:Int × ByteArray × ByteArray × ByteArray × Bool × Int × Sl × Unit) (K:Int→(Int × Int × Int × Unit)→Int→HP) (h:Zc):Prop :=
 newC h [.int .i64 c.1,.string c.2.1,.string c.2.2.1,.string c.2.2.2.1,.bool c.2.2.2.2.1,.int .i64 c.2.2.2.2.2.1,.slice c.2.2.2.2.2.2.1.ptr c.2.2.2.2.2.2.1.len c.2.2.2.2.2.2.1.cap] 47 fun b h1 =>
 Ze 0 fun t =>
 newC h1 [.int .u8 0,.int .i64 0,.int .i64 0] 42 fun b2 h3 =>
 Ze 0 fun t4 =>
 ldI h3 b 0 .i64 fun t5=>ldS h3 b (0+1) fun t6=>ldS h3 b (0+2) fun t7=>ldS h3 b (0+3) fun t8=>ldB h3 b (0+4) fun t9=>ldI h3 b (0+5) .i64 fun t10=>ldL h3 b (0+6) fun t11 =>
 f144 e (t5,t6,t7,t8,t9,t10,t11,()) false (fun t12 t13 t14 h15 =>
 Ze t12 fun t16 =>
 sts h15 b2 0 [.int .u8 t13.1,.int .i64 t13.2.1,.int .i64 t13.2.2.1] fun h17 =>
 Ze t14 fun t18 =>
 ldI h17 b2 0 .u8 fun t19=>ldI h17 b2 (0+1) .i64 fun t20=>ldI h17 b2 (0+2) .i64 fun t21=>K t16 (t19,t20,t21,()) t18 h17) h3
def YF:ZjX:=Zbf Xp
abbrev ZjW:=Int→(Option Addr)→(Bool→HP)→HP
def ZaZ (n:Int) (a1:Option Addr) (K:Bool→HP) (h:Zc):Prop :=
 Zf a1 fun b o=>ldP h b o fun t =>
 Zf t fun b1 o2 =>
 ldM h b1 (o2+15) fun t3 =>
 Zg3 (.int .i64) h t3 (.int .i64 n) fun r=>exG (r.getD (.agg #[.int .i64 0,.string (ByteArray.mk #[]),.string (ByteArray.mk #[]),.string (ByteArray.mk #[]),.bool false,.int .i64 0,.slice none 0 0,.bool false,.slice none 0 0])) (fun t4:Int × ByteArray × ByteArray × ByteArray × Bool × Int × Sl × Bool × Sl × Unit=> .agg #[.int .i64 t4.1,.string t4.2.1,.string t4.2.2.1,.string t4.2.2.2.1,.bool t4.2.2.2.2.1,.int .i64 t4.2.2.2.2.2.1,.slice t4.2.2.2.2.2.2.1.ptr t4.2.2.2.2.2.2.1.len t4.2.2.2.2.2.2.1.cap,.bool t4.2.2.2.2.2.2.2.1,.slice t4.2.2.2.2.2.2.2.2.1.ptr t4.2.2.2.2.2.2.2.2.1.len t4.2.2.2.2.2.2.2.2.1.cap]) fun t4 =>
 Zy t4.2.2.2.2.2.2.2.1 fun t5 =>
 K t5 h
def YR:ZjW:=ZaZ
abbrev Znm:=Sl→(Option Addr × Unit)→(Int→HP)→HP
def Yh (f148:ZjW) (s:Sl) (f:Option Addr × Unit) (K:Int→HP) (h:Zc):Prop :=
 Ze 0 fun t =>
 YL (σ:=Int × Unit) (fun J1 s2 h3 =>
 (fun (s8:Int) =>
 Zr (decide (s8<(s.len:Int))) (
 Ze s8 fun i =>
 Xh s.ptr s.len i 1 fun b o =>
 ldI h3 b o .i64 fun t4 =>
 f148 t4 f.1 (fun t5 h6 =>
 Zr t5 (
 Ze i fun t7 =>
 K t7 h6) (
 J1 (IntKind.wrap .i64 (s8+1),()) h6)) h3) (
 Ze (-1) fun t8 =>
 K t8 h3)) s2.1) (0,()) h
def ZU:Znm:=Yh YR
abbrev Znl:=Sl→(Option Addr × Unit)→(Sl→HP)→HP
def Yf (f149:Znm) (f148:ZjW) (s:Sl) (del:Option Addr × Unit) (K:Sl→HP) (h:Zc):Prop :=
 f149 s (del.1,()) (fun t h1 =>
 Ze t fun i =>
 Zr (i ==(-1)) (
 K s h1) (
 Ze (IntKind.wrap .i64 (i+1)) fun j =>
 YL (σ:=Int × Int × Unit) (fun J4 s5 h6 =>
 (fun (i2:Int) (j3:Int) =>
 Zr (decide (j3<(s.len:Int))) (
 Xh s.ptr s.len j3 1 fun b o =>
 ldI h6 b o .i64 fun t7 =>
 Ze t7 fun v =>
 f148 v del.1 (fun t8 h9 =>
 Zr (!t8) (
 Xh s.ptr s.len i2 1 fun b10 o11 =>
 st h9 b10 o11 (.int .i64 v) fun h12 =>
 Ze (IntKind.wrap .i64 (i2+1)) fun i13 =>
 Ze (IntKind.wrap .i64 (j3+1)) fun j14 =>
 J4 (i13,j14,()) h12) (
 Ze (IntKind.wrap .i64 (j3+1)) fun j15 =>
 J4 (i2,j15,()) h9)) h6) (
 slc s.ptr s.cap 1 i2 s.len s.cap fun t16 =>
 Zzn t16 [.int .i64 0] h6 fun h17 =>
 slc s.ptr s.cap 1 0 i2 s.cap fun t18 =>
 K t18 h17)) s5.1 s5.2.1) (i,j,()) h1)) h
def ZT:Znl:=Yf ZU YR
abbrev ZrJ:=(Option Nat)→(Value→HP)→HP
abbrev ZrI:=Value→(Sl→HP)→HP
abbrev Znk:=(Option Addr)→(Sl→HP)→HP
def Zbu (f146:ZrJ) (f147:ZrI) (f150:Znl) (e:Option Addr) (K:Sl→HP) (h:Zc):Prop :=
 newC h [.pointer e] 23 fun b h1 =>
 ldP h1 b 0 fun t =>
 Zr t.isNone (
 K ⟨none,0,0⟩ h1) (
 ldP h1 b 0 fun t2 =>
 Zf t2 fun b3 o =>
 ldM h1 b3 (o+15) fun t4 =>
 f146 t4 (fun t5 h6 =>
 f147 t5 (fun t7 h8 =>
 f150 t7 (some ⟨b,0,none⟩,()) (fun t9 h10 =>
 K t9 h10) h8) h6) h1)
def XB:Znk:=Zbu ZV Za6 ZT
abbrev Znj:=(Bool→HP)→HP
def Zbb (f2:zT2) (f58:Zqn) (f145:ZjX) (f151:Znk) (K:Bool→HP) (h:Zc):Prop :=
 f2 10 1 (fun t t1 h2 =>
 Ze t1 fun x =>
 Zr (x !=0) (
 K false h2) (
 Zr t.isNone (
 K false h2) (
 newC h2 [.string (ByteArray.mk #[97]),.string (ByteArray.mk #[100,101,102,97,117,108,116]),.bool false,.int .i64 1,.int .u8 0,.string (ByteArray.mk #[]),.int .u8 0,.int .i64 0,.int .i64 0,.bool false,.int .i64 0,.bool false] 32 fun b h3 =>
 f58 t (⟨some ⟨b,0,none⟩,1,1⟩,⟨none,0,0⟩,⟨none,0,0⟩,⟨none,0,0⟩,⟨none,0,0⟩,()) (fun t4 h5 =>
 Ze t4 fun y =>
 newC h5 [.int .i64 0,.string (ByteArray.mk #[]),.string (ByteArray.mk #[]),.string (ByteArray.mk #[]),.bool false,.int .i64 0,.slice none 0 0] 47 fun b6 h7 =>
 sts h7 b6 0 [.int .i64 0,.string (ByteArray.mk #[97]),.string (ByteArray.mk #[109,97,105,110]),.string (ByteArray.mk #[]),.bool false,.int .i64 1,.slice none 0 0] fun h8 =>
 ldI h8 b6 0 .i64 fun t9=>ldS h8 b6 (0+1) fun t10=>ldS h8 b6 (0+2) fun t11=>ldS h8 b6 (0+3) fun t12=>ldB h8 b6 (0+4) fun t13=>ldI h8 b6 (0+5) .i64 fun t14=>ldL h8 b6 (0+6) fun t15 =>
 f145 t (t9,t10,t11,t12,t13,t14,t15,()) (fun t16 t17 t18 h19 =>
 newC h19 [.int .u8 0,.int .i64 0,.int .i64 0] 42 fun b20 h21 =>
 Ze t16 fun n =>
 sts h21 b20 0 [.int .u8 t17.1,.int .i64 t17.2.1,.int .i64 t17.2.2.1] fun h22 =>
 Ze t18 fun z =>
 ldI h22 b6 0 .i64 fun t23=>ldS h22 b6 (0+1) fun t24=>ldS h22 b6 (0+2) fun t25=>ldS h22 b6 (0+3) fun t26=>ldB h22 b6 (0+4) fun t27=>ldI h22 b6 (0+5) .i64 fun t28=>ldL h22 b6 (0+6) fun t29 =>
 f145 t (t23,t24,t25,t26,t27,t28,t29,()) (fun t30 t31 t32 h33 =>
 newC h33 [.int .u8 0,.int .i64 0,.int .i64 0] 42 fun b34 h35 =>
 Ze t30 fun m =>
 sts h35 b34 0 [.int .u8 t31.1,.int .i64 t31.2.1,.int .i64 t31.2.2.1] fun h36 =>
 Ze t32 fun u =>
 Zr (y ==0) (
 Zr (n ==1) (
 ldI h36 b20 0 .u8 fun t37 =>
 Zr (t37 ==0) (
 Zr (z ==0) (
 Zr (m ==0) (
 ldI h36 b34 0 .u8 fun t38 =>
 Zr (t38 ==4) (
 Zr (u ==0) (
 f151 t (fun t39 h40 =>
 Zy ((t39.len:Int) ==1) fun t41 =>
 K t41 h40) h36) (
 K false h36)) (
 K false h36)) (
 K false h36)) (
 K false h36)) (
 K false h36)) (
 K false h36)) (
 K false h36)) h22) h8) h3))) h
def Xl:Znj:=Zbb Zbp YP YF XB
abbrev Zni:=(Int × ByteArray × ByteArray × ByteArray × Unit)→(Option Addr)→(Bool→HP)→HP
def ZbU (f89:ZjT) (k:Int × ByteArray × ByteArray × ByteArray × Unit) (a1:Option Addr) (K:Bool→HP) (h:Zc):Prop :=
 newC h [.int .u8 k.1,.string k.2.1,.string k.2.2.1,.string k.2.2.2.1] 102 fun b h1 =>
 Zf a1 fun b2 o=>ldP h1 b2 o fun t =>
 Zf t fun b3 o4 =>
 ldM h1 b3 o4 fun t5 =>
 ldI h1 b 0 .u8 fun t6=>ldS h1 b (0+1) fun t7=>ldS h1 b (0+2) fun t8=>ldS h1 b (0+3) fun t9 =>
 ZbD [(.int .u8),.string,.string,.string] h1 t5 [.int .u8 t6,.string t7,.string t8,.string t9] fun r=>asP (r.getD (.pointer none)) fun t10 =>
 ZP (Zo h1 [(b2,o,.pointer t)]) <|
 f89 t10 (fun t11 h12 =>
 ZP (Zo h12 [(b2,o,.pointer t)]) <|
 Zy (t11 ==0) fun t13 =>
 K t13 h12) h1
def XQ:Zni:=ZbU ZL
abbrev Znh:=Sl→(Option Addr × Unit)→(Int→HP)→HP
def Z6 (f154:Zni) (s:Sl) (f:Option Addr × Unit) (K:Int→HP) (h:Zc):Prop :=
 Ze 0 fun t =>
 YL (σ:=Int × Unit) (fun J1 s2 h3 =>
 (fun (s8:Int) =>
 Zr (decide (s8<(s.len:Int))) (
 Ze s8 fun i =>
 Xh s.ptr s.len i 4 fun b o =>
 ldI h3 b o .u8 fun t4=>ldS h3 b (o+1) fun t5=>ldS h3 b (o+2) fun t6=>ldS h3 b (o+3) fun t7 =>
 f154 (t4,t5,t6,t7,()) f.1 (fun t8 h9 =>
 Zr t8 (
 Ze i fun t10 =>
 K t10 h9) (
 J1 (IntKind.wrap .i64 (s8+1),()) h9)) h3) (
 Ze (-1) fun t11 =>
 K t11 h3)) s2.1) (0,()) h
def ZJ:Znh:=Z6 XQ
abbrev Zng:=Sl→(Option Addr × Unit)→(Bool→HP)→HP
def ZZ (f155:Znh) (s:Sl) (f:Option Addr × Unit) (K:Bool→HP) (h:Zc):Prop :=
 f155 s (f.1,()) (fun t h1 =>
 Zy (decide (t≥0)) fun t2 =>
 K t2 h1) h
def Zt:Zng:=ZZ ZJ
abbrev Znf:=(Option Addr)→Int→Int→Bool→(Int→HP)→HP
def ZcX (f129:Zhm) (f127:Zj0) (f133:Zhl) (n:Option Addr) (at_:Int) (rt:Int) (failed:Bool) (K:Int→HP) (h:Zc):Prop :=
 Ze 0 fun t =>
 f129 n at_ ⟨none,0,0⟩ (fun t1 h2 =>
 Ze t1 fun e =>
 Zy n.isNone fun t3 =>
 Zr t3 (
 Ze 1 fun t4 =>
 K t4 h2) (
 Zr (e ==2) (
 Ze 2 fun t5 =>
 K t5 h2) (
 f127 rt (fun t6 h7 =>
 Zy (!t6) fun t8 =>
 Zr t8 (
 Ze 2 fun t9 =>
 K t9 h7) (
 Zy (e !=0) fun t10 =>
 Zr t10 (
 Ze e fun t11 =>
 K t11 h7) (
 Zf n fun b o =>
 ldI h7 b (o+2) .i64 fun t12 =>
 Zy (t12 ==0) fun t13 =>
 Zr t13 (
 Ze 4 fun t14 =>
 K t14 h7) (
 newC h7 [.int .i64 0,.int .i64 0,.int .i64 0,.int .i64 0,.int .i64 0,.int .i64 0] 169 fun b15 h16 =>
 sts h16 b15 0 [.int .i64 0,.int .i64 0,.int .i64 1,.int .i64 0,.int .i64 rt,.int .i64 rt] fun h17 =>
 ZgR (σ:=Unit) (fun s h20 =>
 ldI h20 b15 0 .i64 fun t21=>ldI h20 b15 (0+1) .i64 fun t22=>ldI h20 b15 (0+2) .i64 fun t23=>ldI h20 b15 (0+3) .i64 fun t24=>ldI h20 b15 (0+4) .i64 fun t25=>ldI h20 b15 (0+5) .i64 fun t26 =>
 newC h20 [.int .i64 t21,.int .i64 t22,.int .i64 t23,.int .i64 t24,.int .i64 t25,.int .i64 t26] 169 fun b27 h28 =>
 f133 n at_ ⟨some ⟨b27,0,none⟩,1,1⟩ (fun h29 =>
 Zf n fun b30 o31 =>
 ldI h29 b30 (o31+2) .i64 fun t32 =>
 Zf n fun b33 o34 =>
 st h29 b33 (o34+2) (.int .i64 (IntKind.wrap .i64 (t32 - 1))) fun h35 =>
 Ze 0 fun t36 =>
 K t36 h35) h28) (fun J18 =>
 Zr failed (
 st h17 b15 (0+3) (.int .i64 1) fun h19 =>
 J18 (()) h19) (
 J18 (()) h17)))))) h2))) h
def Zay:Znf:=ZcX Yt Zao YK
abbrev Zne:=(Option Addr)→(Int × ByteArray × ByteArray × ByteArray × Bool × Int × Sl × Unit)→Int→Bool→(Int→HP)→HP
def ZcT (f59:ZjV) (f123:Zhn) (f156:Zng) (f157:Znf) (t:Option Addr) (c:Int × ByteArray × ByteArray × ByteArray × Bool × Int × Sl × Unit) (rt:Int) (failed:Bool) (K:Int→HP) (h:Zc):Prop :=
 newC h [.pointer t] 71 fun b h1 =>
 newC h1 [.int .i64 c.1,.string c.2.1,.string c.2.2.1,.string c.2.2.2.1,.bool c.2.2.2.2.1,.int .i64 c.2.2.2.2.2.1,.slice c.2.2.2.2.2.2.1.ptr c.2.2.2.2.2.2.1.len c.2.2.2.2.2.2.1.cap] 47 fun b2 h3 =>
 Ze 0 fun t4 =>
 ldP h3 b 0 fun t5 =>
 Zr t5.isNone (
 Ze 1 fun t6 =>
 K t6 h3) (
 ldI h3 b2 0 .i64 fun t7=>ldS h3 b2 (0+1) fun t8=>ldS h3 b2 (0+2) fun t9=>ldS h3 b2 (0+3) fun t10=>ldB h3 b2 (0+4) fun t11=>ldI h3 b2 (0+5) .i64 fun t12=>ldL h3 b2 (0+6) fun t13 =>
 f59 (t7,t8,t9,t10,t11,t12,t13,()) (fun t14 t15 h16 =>
 Ze t15 fun e =>
 Zy (e !=0) fun t17 =>
 Zr t17 (
 Ze e fun t18 =>
 K t18 h16) (
 ldI h16 b2 0 .i64 fun t19 =>
 f123 t19 (fun t20 h21 =>
 Zr (!t20) (
 Ze 2 fun t22 =>
 K t22 h21) (
 f123 rt (fun t23 h24 =>
 Zy (!t23) fun t25 =>
 Zr t25 (
 Ze 2 fun t26 =>
 K t26 h24) (
 ldI h24 b2 0 .i64 fun t27 =>
 ldP h24 b 0 fun t28 =>
 Zf t28 fun b29 o =>
 ldI h24 b29 (o+2) .i64 fun t30 =>
 Zy (decide (t27<t30)) fun t31 =>
 Zr t31 (
 Ze 7 fun t32 =>
 K t32 h24) (
 f156 t14 (some ⟨b,0,none⟩,()) (fun t33 h34 =>
 Zy t33 fun t35 =>
 Zr t35 (
 Ze 4 fun t36 =>
 K t36 h34) (
 YL (σ:=Int × Unit) (fun J37 s h38 =>
 (fun (s48:Int) =>
 Zr (decide (s48<(t14.len:Int))) (
 Xh t14.ptr t14.len s48 4 fun b39 o40 =>
 ldI h38 b39 o40 .u8 fun t41=>ldS h38 b39 (o40+1) fun t42=>ldS h38 b39 (o40+2) fun t43=>ldS h38 b39 (o40+3) fun t44 =>
 newC h38 [.int .u8 0,.string (ByteArray.mk #[]),.string (ByteArray.mk #[]),.string (ByteArray.mk #[])] 102 fun b45 h46 =>
 sts h46 b45 0 [.int .u8 t41,.string t42,.string t43,.string t44] fun h47 =>
 ldP h47 b 0 fun t48 =>
 Zf t48 fun b49 o50 =>
 ldM h47 b49 o50 fun t51 =>
 ldI h47 b45 0 .u8 fun t52=>ldS h47 b45 (0+1) fun t53=>ldS h47 b45 (0+2) fun t54=>ldS h47 b45 (0+3) fun t55 =>
 ldI h47 b2 0 .i64 fun t56 =>
 ZbD [(.int .u8),.string,.string,.string] h47 t51 [.int .u8 t52,.string t53,.string t54,.string t55] fun r=>asP (r.getD (.pointer none)) fun t57 =>
 ZP (Zo h47 [(b2,0,.int .i64 t56)]) <|
 ZP (Zo h47 [(b,0,.pointer t48)]) <|
 f157 t57 t56 rt failed (fun t58 h59 =>
 ZP (Zo h59 [(b,0,.pointer t48)]) <|
 J37 (IntKind.wrap .i64 (s48+1),()) h59) h47) (
 ldP h38 b 0 fun t60 =>
 ldI h38 b2 0 .i64 fun t61 =>
 Zf t60 fun b62 o63 =>
 st h38 b62 (o63+2) (.int .i64 t61) fun h64 =>
 Ze 0 fun t65 =>
 K t65 h64)) s.1) (0,()) h34)) h24))) h21)) h16)) h3)
def Zav:Zne:=ZcT YZ Y5 Zt Zay
abbrev Znd:=Sl→Int→(Int→HP)→HP
def ZbZ (s:Sl) (v:Int) (K:Int→HP) (h:Zc):Prop :=
 Ze 0 fun t =>
 YL (σ:=Int × Unit) (fun J1 s2 h3 =>
 (fun (s8:Int) =>
 Zr (decide (s8<(s.len:Int))) (
 Ze s8 fun i =>
 Xh s.ptr s.len i 1 fun b o =>
 ldI h3 b o .i64 fun t4 =>
 Zr (v ==t4) (
 Ze i fun t5 =>
 K t5 h3) (
 J1 (IntKind.wrap .i64 (s8+1),()) h3)) (
 Ze (-1) fun t6 =>
 K t6 h3)) s2.1) (0,()) h
def Zaq:Znd:=ZbZ
abbrev Znc:=Sl→Int→(Bool→HP)→HP
def Za3 (f159:Znd) (s:Sl) (v:Int) (K:Bool→HP) (h:Zc):Prop :=
 f159 s v (fun t h1 =>
 Zy (decide (t≥0)) fun t2 =>
 K t2 h1) h
def XL:Znc:=Za3 Zaq
abbrev Znb:=(Option Addr)→Int→Bool→(Bool→HP)→HP
def Zb1 (b:Option Addr) (rt:Int) (failed:Bool) (K:Bool→HP) (h:Zc):Prop :=
 Zf b fun b1 o =>
 ldI h b1 (o+1) .u8 fun t =>
 Zr (t ==0) (
 Zf b fun b2 o3 =>
 ldI h b2 (o3+3) .i64 fun t4 =>
 Zy (decide (rt>t4)) fun t5 =>
 K t5 h) (
 Zy failed fun t6 =>
 K t6 h)
def Zar:Znb:=Zb1
abbrev Zna:=(Option Addr)→Int→(HP)→HP
def Zca (b:Option Addr) (at_:Int) (K:HP) (h:Zc):Prop :=
 Zf b fun b1 o =>
 st h b1 (o+8) (.int .u8 2) fun h2 =>
 Zf b fun b3 o4 =>
 ldI h2 b3 (o4+6) .i64 fun t =>
 Zf b fun b5 o6 =>
 st h2 b5 (o6+9) (.int .i64 (Zpp (IntKind.wrap .i64 (at_+t)) 4611686018427387904)) fun h7 =>
 Zf b fun b8 o9 =>
 ldI h7 b8 (o9+10) .i64 fun t10 =>
 Zf b fun b11 o12 =>
 st h7 b11 (o12+10) (.int .i64 (IntKind.wrap .i64 (t10+1))) fun h13 =>
 K h13
def ZaK:Zna:=Zca
abbrev Zm9:=Int→(Int→HP)→HP
def ZiV (n:Int) (K:Int→HP) (h:Zc):Prop :=
 Ze 0 fun t =>
 Zr (decide (n<0)) (
 Ze (IntKind.wrap .u64 (0 - (IntKind.wrap .u64 n))) fun t1 =>
 K t1 h) (
 Ze (IntKind.wrap .u64 n) fun t2 =>
 K t2 h)
def ZgJ:Zm9:=ZiV
abbrev Zm8:=Int→Int→(Int→Int→HP)→HP
def Zd7 (x:Int) (y:Int) (K:Int→Int→HP) (h:Zc):Prop :=
 Ze 0 fun hi =>
 Ze 0 fun lo =>
 Ze (ZuX .u64 x 4294967295) fun x0 =>
 ZP (0≤(32:Int)) <|
 Ze (Zss .u64 x 32) fun x1 =>
 Ze (ZuX .u64 y 4294967295) fun y0 =>
 ZP (0≤(32:Int)) <|
 Ze (Zss .u64 y 32) fun y1 =>
 Ze (IntKind.wrap .u64 (x0*y0)) fun w0 =>
 ZP (0≤(32:Int)) <|
 Ze (IntKind.wrap .u64 ((IntKind.wrap .u64 (x1*y0))+(Zss .u64 w0 32))) fun t =>
 Ze (ZuX .u64 t 4294967295) fun w1 =>
 ZP (0≤(32:Int)) <|
 Ze (Zss .u64 t 32) fun w2 =>
 Ze (IntKind.wrap .u64 (w1+(IntKind.wrap .u64 (x0*y1)))) fun w11 =>
 ZP (0≤(32:Int)) <|
 Ze (IntKind.wrap .u64 ((IntKind.wrap .u64 ((IntKind.wrap .u64 (x1*y1))+w2))+(Zss .u64 w11 32))) fun hi2 =>
 Ze (IntKind.wrap .u64 (x*y)) fun lo3 =>
 K hi2 lo3 h
def Zcg:Zm8:=Zd7
abbrev Zm7:=Int→Int→((Int × Int × Bool × Unit)→HP)→HP
def Zga (f163:Zm9) (f164:Zm8) (a:Int) (b:Int) (K:(Int × Int × Bool × Unit)→HP) (h:Zc):Prop :=
 newC h [.int .u64 0,.int .u64 0,.bool false] 320 fun b1 h2 =>
 f163 a (fun t h3 =>
 f163 b (fun t4 h5 =>
 f164 t t4 (fun t6 t7 h8 =>
 Ze t6 fun hi =>
 Ze t7 fun lo =>
 Zr ((decide (a<0)) !=(decide (b<0))) (
 sts h8 b1 0 [.int .u64 hi,.int .u64 lo,.bool ((orV .u64 hi lo) !=0)] fun h9 =>
 ldI h9 b1 0 .u64 fun t10=>ldI h9 b1 (0+1) .u64 fun t11=>ldB h9 b1 (0+2) fun t12=>K (t10,t11,t12,()) h9) (
 sts h8 b1 0 [.int .u64 hi,.int .u64 lo,.bool false] fun h13 =>
 ldI h13 b1 0 .u64 fun t14=>ldI h13 b1 (0+1) .u64 fun t15=>ldB h13 b1 (0+2) fun t16=>K (t14,t15,t16,()) h13)) h5) h3) h2
def Zei:Zm7:=Zga ZgJ Zcg
abbrev Zm6:=(Int × Int × Bool × Unit)→(Int→Bool→HP)→HP
def Zd6 (w:Int × Int × Bool × Unit) (K:Int→Bool→HP) (h:Zc):Prop :=
 newC h [.int .u64 w.1,.int .u64 w.2.1,.bool w.2.2.1] 320 fun b h1 =>
 Ze 0 fun t =>
 ldI h1 b 0 .u64 fun t2=>ldI h1 b (0+1) .u64 fun t3 =>
 Zr (bif t2 ==0 then (bif t3 ==9223372036854775808 then true else false) else false) (
 ldB h1 b (0+2) fun t4 =>
 Zy t4 fun t5 =>
 Zr t5 (
 Ze (-9223372036854775808) fun t6 =>
 K t6 true h1) (
 ldI h1 b 0 .u64 fun t7 =>
 Zr (t7 !=0) (
 Ze 0 fun t8 =>
 K t8 false h1) (
 ldI h1 b (0+1) .u64 fun t9 =>
 Zy (decide (t9≥9223372036854775808)) fun t10 =>
 Zr t10 (
 Ze 0 fun t11 =>
 K t11 false h1) (
 ldB h1 b (0+2) fun t12 =>
 Zy t12 fun t13 =>
 Zr t13 (
 ldI h1 b (0+1) .u64 fun t14 =>
 Ze (IntKind.wrap .i64 (0 - (IntKind.wrap .i64 t14))) fun t15 =>
 K t15 true h1) (
 ldI h1 b (0+1) .u64 fun t16 =>
 Ze (IntKind.wrap .i64 t16) fun t17 =>
 K t17 true h1))))) (
 ldI h1 b 0 .u64 fun t18 =>
 Zr (t18 !=0) (
 Ze 0 fun t19 =>
 K t19 false h1) (
 ldI h1 b (0+1) .u64 fun t20 =>
 Zy (decide (t20≥9223372036854775808)) fun t21 =>
 Zr t21 (
 Ze 0 fun t22 =>
 K t22 false h1) (
 ldB h1 b (0+2) fun t23 =>
 Zy t23 fun t24 =>
 Zr t24 (
 ldI h1 b (0+1) .u64 fun t25 =>
 Ze (IntKind.wrap .i64 (0 - (IntKind.wrap .i64 t25))) fun t26 =>
 K t26 true h1) (
 ldI h1 b (0+1) .u64 fun t27 =>
 Ze (IntKind.wrap .i64 t27) fun t28 =>
 K t28 true h1))))
def Zcf:Zm6:=Zd6
abbrev Zm5:=Bool→(Int→HP)→HP
def ZiW (below:Bool) (K:Int→HP) (h:Zc):Prop :=
 Ze 0 fun t =>
 Zr below (
 Ze (-9223372036854775808) fun t1 =>
 K t1 h) (
 Ze 9223372036854775807 fun t2 =>
 K t2 h)
def ZgK:Zm5:=ZiW
abbrev Zm4:=Int→Int→(Int→HP)→HP
def ZhY (f165:Zm7) (f166:Zm6) (f167:Zm5) (a:Int) (b:Int) (K:Int→HP) (h:Zc):Prop :=
 Ze 0 fun t =>
 f165 a b (fun t1 h2 =>
 newC h2 [.int .u64 0,.int .u64 0,.bool false] 320 fun b3 h4 =>
 sts h4 b3 0 [.int .u64 t1.1,.int .u64 t1.2.1,.bool t1.2.2.1] fun h5 =>
 ldI h5 b3 0 .u64 fun t6=>ldI h5 b3 (0+1) .u64 fun t7=>ldB h5 b3 (0+2) fun t8 =>
 f166 (t6,t7,t8,()) (fun t9 t10 h11 =>
 Ze t9 fun n =>
 Zy t10 fun ok =>
 Zr ok (
 Ze n fun t12 =>
 K t12 h11) (
 ldB h11 b3 (0+2) fun t13 =>
 f167 t13 (fun t14 h15 =>
 Ze t14 fun t16 =>
 K t16 h15) h11)) h5) h
def ZfI:Zm4:=ZhY Zei Zcf ZgK
abbrev Zm3:=(Option Addr)→(Int × Int × Int × Int × Int × Int × Unit)→(Bool→HP)→HP
def ZbB (f168:Zm4) (b:Option Addr) (c:Int × Int × Int × Int × Int × Int × Unit) (K:Bool→HP) (h:Zc):Prop :=
 newC h [.int .i64 c.1,.int .i64 c.2.1,.int .i64 c.2.2.1,.int .i64 c.2.2.2.1,.int .i64 c.2.2.2.2.1,.int .i64 c.2.2.2.2.2.1] 169 fun b1 h2 =>
 ldI h2 b1 (0+2) .i64 fun t =>
 Zf b fun b3 o =>
 ldI h2 b3 (o+4) .i64 fun t4 =>
 Zy (decide (t<t4)) fun t5 =>
 Zr t5 (
 K false h2) (
 Zf b fun b6 o7 =>
 ldI h2 b6 (o7+1) .u8 fun t8 =>
 Zy (t8 ==2) fun t9 =>
 Zr t9 (
 ldI h2 b1 (0+3) .i64 fun t10 =>
 Zf b fun b11 o12 =>
 ldI h2 b11 (o12+2) .i64 fun t13 =>
 Zy (decide (t10>t13)) fun t14 =>
 K t14 h2) (
 ldI h2 b1 (0+3) .i64 fun t15 =>
 ZrQ (ρ:=Int × Unit) (fun K h=>f168 1000 t15 (fun q h=>K (q,()) h) h) h2 fun r =>
 Zf b fun b17 o18 =>
 ldI h2 b17 (o18+2) .i64 fun t19 =>
 ldI h2 b1 (0+2) .i64 fun t20 =>
 ZrQ (ρ:=Int × Unit) (fun K h=>f168 t19 t20 (fun q22 h=>K (q22,()) h) h) h2 fun r23 =>
 Zr (decide (r.1>r23.1)) (
 K true h2) (
 Zf b fun b24 o25 =>
 ldI h2 b24 (o25+2) .i64 fun t26 =>
 Zr (t26 ==1000) (
 ldI h2 b1 (0+3) .i64 fun t27 =>
 ldI h2 b1 (0+2) .i64 fun t28 =>
 Zy (t27 ==t28) fun t29 =>
 K t29 h2) (
 K false h2))))
def Zak:Zm3:=ZbB ZfI
abbrev Zm2:=(Option Addr)→Int→Int→Bool→Bool→(Int→HP)→HP
def Zcd (f116:Zho) (f161:Znb) (f162:Zna) (f42:Zqo) (f132:ZjY) (f83:Zqj) (f169:Zm3) (b:Option Addr) (at_:Int) (rt:Int) (failed:Bool) (probe:Bool) (K:Int→HP) (h:Zc):Prop :=
 Ze 0 fun t =>
 ZgR (σ:=Unit) (fun s h16 =>
 Zf b fun b17 o18 =>
 st h16 b17 (o18+11) (.int .i64 at_) fun h19 =>
 f161 b rt failed (fun t20 h21 =>
 Zy t20 fun bad =>
 ZgR (σ:=Bool × Unit) (fun s24 h25 =>
 (fun (s55:Bool) =>
 Zr s55 (
 f162 b at_ (fun h26 =>
 Ze 0 fun t27 =>
 K t27 h26) h25) (
 Zy probe fun t28 =>
 Zr t28 (
 Zf b fun b29 o30 =>
 st h25 b29 (o30+8) (.int .u8 1) fun h31 =>
 f42 b (fun h32 =>
 Ze 0 fun t33 =>
 K t33 h32) h31) (
 Zf b fun b34 o35 =>
 ldI h25 b34 (o35+8) .u8 fun t36 =>
 Zy (t36 ==1) fun t37 =>
 Zr t37 (
 newC h25 [.int .i64 0,.int .i64 0,.int .i64 0,.int .i64 0,.int .i64 0,.int .i64 0] 169 fun b38 h39 =>
 sts h39 b38 0 [.int .i64 0,.int .i64 0,.int .i64 1,.int .i64 0,.int .i64 0,.int .i64 0] fun h40 =>
 ZgR (σ:=Unit) (fun s43 h44 =>
 Zf b fun b45 o46 =>
 ldP h44 b45 (o46+7) fun t47 =>
 ldI h44 b38 0 .i64 fun t48=>ldI h44 b38 (0+1) .i64 fun t49=>ldI h44 b38 (0+2) .i64 fun t50=>ldI h44 b38 (0+3) .i64 fun t51=>ldI h44 b38 (0+4) .i64 fun t52=>ldI h44 b38 (0+5) .i64 fun t53 =>
 newC h44 [.int .i64 t48,.int .i64 t49,.int .i64 t50,.int .i64 t51,.int .i64 t52,.int .i64 t53] 169 fun b54 h55 =>
 ZP (Zo h55 [(b45,o46+7,.pointer t47)]) <|
 f132 t47 at_ ⟨some ⟨b54,0,none⟩,1,1⟩ (fun t56 h57 =>
 Zf b fun b58 o59 =>
 ldP h57 b58 (o59+7) fun t60 =>
 f83 t60 at_ (fun t61 t62 h63 =>
 newC h63 [.int .i64 0,.int .i64 0,.int .i64 0,.int .i64 0,.int .i64 0,.int .i64 0] 169 fun b64 h65 =>
 sts h65 b64 0 [.int .i64 t61.1,.int .i64 t61.2.1,.int .i64 t61.2.2.1,.int .i64 t61.2.2.2.1,.int .i64 t61.2.2.2.2.1,.int .i64 t61.2.2.2.2.2.1] fun h66 =>
 Ze t62 fun x =>
 ldI h66 b64 0 .i64 fun t67=>ldI h66 b64 (0+1) .i64 fun t68=>ldI h66 b64 (0+2) .i64 fun t69=>ldI h66 b64 (0+3) .i64 fun t70=>ldI h66 b64 (0+4) .i64 fun t71=>ldI h66 b64 (0+5) .i64 fun t72 =>
 f169 b (t67,t68,t69,t70,t71,t72,()) (fun t73 h74 =>
 Zr t73 (
 f162 b at_ (fun h75 =>
 Ze 0 fun t76 =>
 K t76 h75) h74) (
 Ze 0 fun t77 =>
 K t77 h74)) h66) h57) h55) (fun J41 =>
 Zr bad (
 st h40 b38 (0+3) (.int .i64 1) fun h42 =>
 J41 (()) h42) (
 J41 (()) h40))) (
 Ze 0 fun t78 =>
 K t78 h25)))) s24.1) (fun J22 =>
 Zr probe (
 Zy bad fun t23 =>
 J22 (t23,()) h21) (
 J22 (false,()) h21))) h19) (fun J1 =>
 f116 b at_ (fun t2 h3 =>
 Ze t2 fun e =>
 Zy (e ==1) fun t4 =>
 Zr t4 (
 Ze e fun t5 =>
 K t5 h3) (
 Zr (e ==2) (
 Ze 2 fun t6 =>
 K t6 h3) (
 Zr (decide (rt<0)) (
 Ze 2 fun t7 =>
 K t7 h3) (
 Zy (decide (rt>1152921504606846976)) fun t8 =>
 Zr t8 (
 Ze 2 fun t9 =>
 K t9 h3) (
 Zy (e !=0) fun t10 =>
 Zr t10 (
 Ze e fun t11 =>
 K t11 h3) (
 Zr probe (
 Zf b fun b12 o =>
 ldI h3 b12 (o+8) .u8 fun t13 =>
 Zy (t13 !=3) fun t14 =>
 Zr t14 (
 Ze 4 fun t15 =>
 K t15 h3) (
 J1 (()) h3)) (
 J1 (()) h3))))))) h)
def ZaM:Zm2:=Zcd Yw Zar ZaK Y3 YN YM Zak
abbrev Zm1:=(Option Addr)→Int→Int→Bool→(Int→HP)→HP
def Zbw (f158:Zne) (f69:ZjU) (f160:Znc) (f170:Zm2) (e:Option Addr) (number:Int) (at_:Int) (failed:Bool) (K:Int→HP) (h:Zc):Prop :=
 Ze 0 fun t =>
 Zr e.isNone (
 Ze 1 fun t1 =>
 K t1 h) (
 Zf e fun b o =>
 ldM h b (o+15) fun t2 =>
 Zg3 (.int .i64) h t2 (.int .i64 number) fun r=>exG (r.getD (.agg #[.int .i64 0,.string (ByteArray.mk #[]),.string (ByteArray.mk #[]),.string (ByteArray.mk #[]),.bool false,.int .i64 0,.slice none 0 0,.bool false,.slice none 0 0])) (fun t3:Int × ByteArray × ByteArray × ByteArray × Bool × Int × Sl × Bool × Sl × Unit=> .agg #[.int .i64 t3.1,.string t3.2.1,.string t3.2.2.1,.string t3.2.2.2.1,.bool t3.2.2.2.2.1,.int .i64 t3.2.2.2.2.2.1,.slice t3.2.2.2.2.2.2.1.ptr t3.2.2.2.2.2.2.1.len t3.2.2.2.2.2.2.1.cap,.bool t3.2.2.2.2.2.2.2.1,.slice t3.2.2.2.2.2.2.2.2.1.ptr t3.2.2.2.2.2.2.2.2.1.len t3.2.2.2.2.2.2.2.2.1.cap]) fun t3 =>
 newC h [.int .i64 0,.string (ByteArray.mk #[]),.string (ByteArray.mk #[]),.string (ByteArray.mk #[]),.bool false,.int .i64 0,.slice none 0 0,.bool false,.slice none 0 0] 88 fun b4 h5 =>
 sts h5 b4 0 [.int .i64 t3.1,.string t3.2.1,.string t3.2.2.1,.string t3.2.2.2.1,.bool t3.2.2.2.2.1,.int .i64 t3.2.2.2.2.2.1,.slice t3.2.2.2.2.2.2.1.ptr t3.2.2.2.2.2.2.1.len t3.2.2.2.2.2.2.1.cap,.bool t3.2.2.2.2.2.2.2.1,.slice t3.2.2.2.2.2.2.2.2.1.ptr t3.2.2.2.2.2.2.2.2.1.len t3.2.2.2.2.2.2.2.2.1.cap] fun h6 =>
 Zy r.isSome fun given =>
 Zy (!given) fun t7 =>
 Zr t7 (
 Ze 40 fun t8 =>
 K t8 h6) (
 ldB h6 b4 (0+7) fun t9 =>
 Zy t9 fun t10 =>
 Zr t10 (
 Ze 41 fun t11 =>
 K t11 h6) (
 Zr (decide (at_<0)) (
 Ze 2 fun t12 =>
 K t12 h6) (
 Zy (decide (at_>1152921504606846976)) fun t13 =>
 Zr t13 (
 Ze 2 fun t14 =>
 K t14 h6) (
 Zf e fun b15 o16 =>
 ldI h6 b15 (o16+18) .i64 fun t17 =>
 Zy (decide (at_<t17)) fun t18 =>
 Zr t18 (
 Ze 7 fun t19 =>
 K t19 h6) (
 Zf e fun b20 o21 =>
 st h6 b20 (o21+18) (.int .i64 at_) fun h22 =>
 Zf e fun b23 o24 =>
 ldM h22 b23 (o24+15) fun t25 =>
 Zg2 (.int .i64) h22 t25 (.int .i64 number) (.agg #[.int .i64 0,.string (ByteArray.mk #[]),.string (ByteArray.mk #[]),.string (ByteArray.mk #[]),.bool false,.int .i64 0,.slice none 0 0,.bool true,.slice none 0 0]) fun h26 =>
 Zf e fun b27 o28 =>
 ldI h26 b27 (o28+16) .i64 fun t29 =>
 Zf e fun b30 o31 =>
 st h26 b30 (o31+16) (.int .i64 (IntKind.wrap .i64 (t29 - 1))) fun h32 =>
 ldI h32 b4 0 .i64 fun t33 =>
 Ze (IntKind.wrap .i64 (at_ - t33)) fun rt =>
 st h32 b4 0 (.int .i64 at_) fun h34 =>
 Zf e fun b35 o36 =>
 ldP h34 b35 (o36+12) fun t37 =>
 ldI h34 b4 0 .i64 fun t38=>ldS h34 b4 (0+1) fun t39=>ldS h34 b4 (0+2) fun t40=>ldS h34 b4 (0+3) fun t41=>ldB h34 b4 (0+4) fun t42=>ldI h34 b4 (0+5) .i64 fun t43=>ldL h34 b4 (0+6) fun t44 =>
 f158 t37 (t38,t39,t40,t41,t42,t43,t44,()) rt failed (fun t45 h46 =>
 Zf e fun b47 o48 =>
 ldL h46 b47 (o48+3) fun t49=>ldL h46 b47 (o48+3+1) fun t50=>ldL h46 b47 (o48+3+2) fun t51=>ldL h46 b47 (o48+3+3) fun t52=>ldL h46 b47 (o48+3+4) fun t53 =>
 ldS h46 b4 (0+1) fun t54 =>
 f69 (t49,t50,t51,t52,t53,()) 2 t54 (fun t55 h56 =>
 YL (σ:=Int × Unit) (fun J57 s h58 =>
 (fun (s97:Int) =>
 Zr (decide (s97<(t55.len:Int))) (
 Xh t55.ptr t55.len s97 1 fun b59 o60 =>
 ldI h58 b59 o60 .i64 fun t61 =>
 Ze t61 fun i =>
 Zf e fun b62 o63 =>
 ldL h58 b62 (o63+8+1) fun t64 =>
 Xh t64.ptr t64.len i 2 fun b65 o66 =>
 ldP h58 b65 o66 fun t67=>ldI h58 b65 (o66+1) .i64 fun t68 =>
 newC h58 [.pointer none,.int .i64 0] 95 fun b69 h70 =>
 sts h70 b69 0 [.pointer t67,.int .i64 t68] fun h71 =>
 ldP h71 b69 0 fun t72 =>
 ldL h71 b4 (0+8) fun t73 =>
 ldI h71 b69 (0+1) .i64 fun t74 =>
 f160 t73 t74 (fun t75 h76 =>
 ZP (Zo h76 [(b69,0,.pointer t72)]) <|
 f170 t72 at_ rt failed t75 (fun t77 h78 =>
 J57 (IntKind.wrap .i64 (s97+1),()) h78) h76) h71) (
 Ze 0 fun t79 =>
 K t79 h58)) s.1) (0,()) h56) h46) h34))))))
def XC:Zm1:=Zbw Zav Xv XL ZaM
abbrev Zm0:=(Option Addr)→ByteArray→(Int→HP)→HP
def Za0 (f104:Zj3) (f76:ZmX) (f89:ZjT) (e:Option Addr) (resource:ByteArray) (K:Int→HP) (h:Zc):Prop :=
 Ze 0 fun t =>
 Zr e.isNone (
 Ze 0 fun t1 =>
 K t1 h) (
 Zf e fun b o =>
 ldP h b (o+12) fun t2 =>
 f104 resource (fun t3 h4 =>
 ZP (Zo h4 [(b,o+12,.pointer t2)]) <|
 f76 t2 (t3.1,t3.2.1,t3.2.2.1,t3.2.2.2.1,()) (fun t5 h6 =>
 f89 t5 (fun t7 h8 =>
 Ze t7 fun t9 =>
 K t9 h8) h6) h4) h)
def Y8:Zm0:=Za0 XA YJ ZL
abbrev ZtY:=Int→Sl→(Bool→HP)→HP
def Xt (f2:zT2) (f58:Zqn) (f145:ZjX) (f171:Zm1) (f172:Zm0) (f152:Znj) (count:Int) (l:Sl) (K:Bool→HP) (h:Zc):Prop :=
 f2 10 1 (fun t t1 h2 =>
 Ze t1 fun x =>
 Zr (x !=0) (
 K false h2) (
 newC h2 [.string (ByteArray.mk #[97]),.string (ByteArray.mk #[100,101,102,97,117,108,116]),.bool true,.int .i64 (IntKind.wrap .i64 count),.int .u8 0,.string (ByteArray.mk #[]),.int .u8 0,.int .i64 0,.int .i64 0,.bool false,.int .i64 0,.bool false] 32 fun b h3 =>
 f58 t (⟨some ⟨b,0,none⟩,1,1⟩,⟨none,0,0⟩,⟨none,0,0⟩,⟨none,0,0⟩,⟨none,0,0⟩,()) (fun t4 h5 =>
 Zr (t4 !=0) (
 K false h5) (
 Ze 0 fun open_ =>
 ZeV h5 fun b6 h7 =>
 Ze 0 fun i =>
 YL (σ:=Int × Int × Unit) (fun J10 s h11 =>
 (fun (open_8:Int) (i9:Int) =>
 Zr (decide (i9<(l.len:Int))) (
 Zr (decide (i9<200)) (
 ZgR (σ:=Int × Unit) (fun s55 h56 =>
 (fun (open_54:Int) =>
 Zr (decide (open_54>(IntKind.wrap .i64 count))) (
 K false h56) (
 f172 t (ByteArray.mk #[97]) (fun t57 h58 =>
 Zr (t57 !=open_54) (
 K false h58) (
 Ze (IntKind.wrap .i64 (i9+1)) fun i59 =>
 J10 (open_54,i59,()) h58)) h56)) s55.1) (fun J12 =>
 Xh l.ptr l.len i9 19 fun b13 o =>
 ldI h11 b13 o .i64 fun t14 =>
 Zy (t14 ==0) fun t15 =>
 Zr t15 (
 Xh l.ptr l.len i9 19 fun b16 o17 =>
 ldI h11 b16 (o17+1) .i64 fun t18=>ldS h11 b16 (o17+1+1) fun t19=>ldS h11 b16 (o17+1+2) fun t20=>ldS h11 b16 (o17+1+3) fun t21=>ldB h11 b16 (o17+1+4) fun t22=>ldI h11 b16 (o17+1+5) .i64 fun t23=>ldL h11 b16 (o17+1+6) fun t24 =>
 f145 t (t18,t19,t20,t21,t22,t23,t24,()) (fun t25 t26 t27 h28 =>
 newC h28 [.int .u8 0,.int .i64 0,.int .i64 0] 42 fun b29 h30 =>
 Ze t25 fun n =>
 sts h30 b29 0 [.int .u8 t26.1,.int .i64 t26.2.1,.int .i64 t26.2.2.1] fun h31 =>
 Ze t27 fun f =>
 Zr (f ==0) (
 Zr (decide (n>0)) (
 Xh l.ptr l.len i9 19 fun b32 o33 =>
 ldS h31 b32 (o33+1+1) fun t34 =>
 Zr (Xu t34 (ByteArray.mk #[97])) (
 Ze (IntKind.wrap .i64 (open_8+1)) fun open_35 =>
 Zg2 (.int .i64) h31 (some b6) (.int .i64 n) (.bool true) fun h36 =>
 J12 (open_35,()) h36) (
 J12 (open_8,()) h31)) (
 J12 (open_8,()) h31)) (
 J12 (open_8,()) h31)) h11) (
 Zy (t14 ==1) fun t37 =>
 Zr t37 (
 Xh l.ptr l.len i9 19 fun b38 o39 =>
 Xh l.ptr l.len i9 19 fun b40 o41 =>
 Xh l.ptr l.len i9 19 fun b42 o43 =>
 ldI h11 b38 (o39+9) .i64 fun t44 =>
 ldI h11 b40 (o41+10) .i64 fun t45 =>
 ldB h11 b42 (o43+11) fun t46 =>
 f171 t t44 t45 t46 (fun t47 h48 =>
 Zr (t47 ==0) (
 Xh l.ptr l.len i9 19 fun b49 o50 =>
 ldI h48 b49 (o50+9) .i64 fun t51 =>
 Zg3 (.int .i64) h48 (some b6) (.int .i64 t51) fun r=>asB (r.getD (.bool false)) fun t52 =>
 Zr t52 (
 Ze (IntKind.wrap .i64 (open_8 - 1)) fun open_53 =>
 J12 (open_53,()) h48) (
 J12 (open_8,()) h48)) (
 J12 (open_8,()) h48)) h11) (
 J12 (open_8,()) h11)))) (
 f152 (fun t60 h61 =>
 Zy t60 fun t62 =>
 K t62 h61) h11)) (
 f152 (fun t63 h64 =>
 Zy t63 fun t65 =>
 K t65 h64) h11)) s.1 s.2.1) (open_,i,()) h7)) h3)) h
def YU:ZtY:=Xt Zbp YP YF XC Y8 Xl
end Go.Proofs.YthbfgkphlmlihaaGreat
