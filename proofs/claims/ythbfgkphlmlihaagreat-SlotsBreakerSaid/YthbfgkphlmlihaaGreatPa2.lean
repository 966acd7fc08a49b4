/- The models of the functions. Written by a program out of the translated functions. -/
import GoSem.Machine.Frame
import GoSem.Op.String
import Derived.Test.YthbfgkphlmlihaaGreatPa1
set_option linter.unusedVariables false
set_option linter.unusedSimpArgs false
namespace Go.Proofs.YthbfgkphlmlihaaGreat
open Go Go.Fw
abbrev zT0:=((Option Addr)→HP)→HP
def Zdh (K:(Option Addr)→HP) (h:Zd):Prop :=
 newC h [.slice none 0 0,.slice none 0 0,.slice none 0 0,.slice none 0 0,.slice none 0 0,.int .i64 0] 108 fun b h1 =>
 K (some ⟨b,0,none⟩) h1
def ZaZ:zT0:=Zdh
abbrev zT1:=((Option Addr)→HP)→HP
def Zg4 (K:(Option Addr)→HP) (h:Zd):Prop :=
 ZfP h fun b h1 =>
 newC h1 [.map (some b),.slice none 0 0,.int .i64 0] 116 fun b2 h3 =>
 K (some ⟨b2,0,none⟩) h3
def Zel:zT1:=Zg4
abbrev zT2:=Int→Int→((Option Addr)→Int→HP)→HP
def Zf7 (f0:zT0) (f1:zT1) (keys:Int) (seed:Int) (K:(Option Addr)→Int→HP) (h:Zd):Prop :=
 Zf 0 fun t =>
 Zs (decide (keys<1)) (
 Zf 2 fun t1 =>
 K none t1 h) (
 Zs (decide (keys>4096)) (
 Zf 2 fun t2 =>
 K none t2 h) (
 f0 (fun t3 h4 =>
 f1 (fun t5 h6 =>
 ZfP h6 fun b h7 =>
 newC h7 [.int .i64 keys,.int .u64 seed,.pointer t3,.slice none 0 0,.slice none 0 0,.slice none 0 0,.slice none 0 0,.slice none 0 0,.slice none 0 0,.slice none 0 0,.slice none 0 0,.int .i64 0,.pointer t5,.int .i64 0,.int .i64 0,.map (some b),.int .i64 0,.int .i64 1,.int .i64 0] 82 fun b8 h9 =>
 Zf 0 fun t10 =>
 K (some ⟨b8,0,none⟩) t10 h9) h4) h))
def ZbN:zT2:=Zf7 ZaZ Zel
abbrev zT3:=(Sl × Sl × Sl × Sl × Sl × Unit)→(Sl→HP)→HP
def Zd4 (r:Sl × Sl × Sl × Sl × Sl × Unit) (K:Sl→HP) (h:Zd):Prop :=
 newC h [.slice r.1.ptr r.1.len r.1.cap,.slice r.2.1.ptr r.2.1.len r.2.1.cap,.slice r.2.2.1.ptr r.2.2.1.len r.2.2.1.cap,.slice r.2.2.2.1.ptr r.2.2.2.1.len r.2.2.2.1.cap,.slice r.2.2.2.2.1.ptr r.2.2.2.2.1.len r.2.2.2.2.1.cap] 39 fun b h1 =>
 ldL h1 b 0 fun t =>
 ZR (ZH (.func (.func 130) #[] #[.pointer (some ⟨b,0,none⟩)])=true) <|
 ldL h1 b (0+1) fun t2 =>
 ZR (ZH (.func (.func 132) #[] #[.pointer (some ⟨b,0,none⟩)])=true) <|
 ldL h1 b (0+2) fun t3 =>
 ZR (ZH (.func (.func 133) #[] #[.pointer (some ⟨b,0,none⟩)])=true) <|
 ldL h1 b (0+3) fun t4 =>
 ZR (ZH (.func (.func 134) #[] #[.pointer (some ⟨b,0,none⟩)])=true) <|
 ldL h1 b (0+4) fun t5 =>
 ZR (ZH (.func (.func 136) #[] #[.pointer (some ⟨b,0,none⟩)])=true) <|
 newC h1 [.int .u8 1,.int .i64 (t.len:Int),.func (.func 130) #[] #[.pointer (some ⟨b,0,none⟩)],.int .u8 2,.int .i64 (t2.len:Int),.func (.func 132) #[] #[.pointer (some ⟨b,0,none⟩)],.int .u8 3,.int .i64 (t3.len:Int),.func (.func 133) #[] #[.pointer (some ⟨b,0,none⟩)],.int .u8 4,.int .i64 (t4.len:Int),.func (.func 134) #[] #[.pointer (some ⟨b,0,none⟩)],.int .u8 5,.int .i64 (t5.len:Int),.func (.func 136) #[] #[.pointer (some ⟨b,0,none⟩)]] 190 fun b6 h7 =>
 K ⟨some ⟨b6,0,none⟩,5,5⟩ h7
def ZbG:zT3:=Zd4
abbrev zT4:=Int→Int→Int→(Bool→HP)→HP
def Zd3 (n:Int) (lo:Int) (hi:Int) (K:Bool→HP) (h:Zd):Prop :=
 Zs (decide (n≥lo)) (
 ZE (decide (n≤hi)) fun t =>
 K t h) (
 K false h)
def Yf:zT4:=Zd3
abbrev zT5:=ByteArray→(Bool→HP)→HP
def Zd5 (f4:zT4) (s:ByteArray) (K:Bool→HP) (h:Zd):Prop :=
 YY (σ:=Int × Unit) (fun J1 s2 h3 =>
 (fun (s6:Int) =>
 Zs (decide (s6<(s.size:Int))) (
 Zf s6 fun i =>
 ZAY s i fun t =>
 f4 (IntKind.wrap .i64 t) 33 126 (fun t4 h5 =>
 Zs (!t4) (
 K false h5) (
 J1 (IntKind.wrap .i64 (s6+1),()) h5)) h3) (
 f4 (s.size:Int) 1 64 (fun t6 h7 =>
 ZE t6 fun t8 =>
 K t8 h7) h3)) s2.1) (0,()) h
def Xt:zT5:=Zd5 Yf
abbrev zT6:=ByteArray→(Bool→HP)→HP
def Zbu (f5:zT5) (s:ByteArray) (K:Bool→HP) (h:Zd):Prop :=
 f5 s (fun t h1 =>
 ZE (!t) fun t2 =>
 K t2 h1) h
def Zab:zT6:=Zbu Xt
abbrev zT7:=Sl→(Int→HP)→HP
def ZQ (f6:zT6) (s:Sl) (K:Int→HP) (h:Zd):Prop :=
 Zf 0 fun t =>
 YY (σ:=Int × Unit) (fun J1 s2 h3 =>
 (fun (s8:Int) =>
 Zs (decide (s8<(s.len:Int))) (
 Zf s8 fun i =>
 Xy s.ptr s.len i 1 fun b o =>
 ldS h3 b o fun t4 =>
 f6 t4 (fun t5 h6 =>
 Zs t5 (
 Zf i fun t7 =>
 K t7 h6) (
 J1 (IntKind.wrap .i64 (s8+1),()) h6)) h3) (
 Zf (-1) fun t8 =>
 K t8 h3)) s2.1) (0,()) h
def ZF:zT7:=ZQ Zab
abbrev zT8:=Sl→(Bool→HP)→HP
def ZK (f7:zT7) (s:Sl) (K:Bool→HP) (h:Zd):Prop :=
 f7 s (fun t h1 =>
 ZE (decide (t≥0)) fun t2 =>
 K t2 h1) h
def ZB:zT8:=ZK ZF
abbrev zT9:=(ByteArray × Sl × Unit)→(Bool→HP)→HP
def ZaN (f5:zT5) (f8:zT8) (r:ByteArray × Sl × Unit) (K:Bool→HP) (h:Zd):Prop :=
 newC h [.string r.1,.slice r.2.1.ptr r.2.1.len r.2.1.cap] 269 fun b h1 =>
 ldS h1 b 0 fun t =>
 f5 t (fun t2 h3 =>
 Zs t2 (
 ldL h3 b (0+1) fun t4 =>
 f8 t4 (fun t5 h6 =>
 ZE (!t5) fun t7 =>
 K t7 h6) h3) (
 K false h3)) h1
def Y5:zT9:=ZaN Xt ZB
abbrev Zvh:=(Option Addr)→(Option Addr)→(Bool→HP)→HP
def Zec (f4:zT4) (a0:Option Addr) (a1:Option Addr) (K:Bool→HP) (h:Zd):Prop :=
 Zg a0 fun b o =>
 ldI h b (o+3) .i64 fun t =>
 Zg a1 fun b1 o2=>ldI h b1 o2 .i64 fun t3 =>
 f4 t t3 1099511627776 (fun t4 h5 =>
 ZE t4 fun t6 =>
 K t6 h5) h
def ZcU:Zvh:=Zec Yf
abbrev Zvg:=(Option Addr)→(Bool→HP)→HP
def Zeb (a0:Option Addr) (K:Bool→HP) (h:Zd):Prop :=
 Zg a0 fun b o =>
 ldI h b (o+4) .u8 fun t =>
 Zs (decide (t≤2)) (
 Zg a0 fun b1 o2 =>
 ldI h b1 (o2+6) .u8 fun t3 =>
 ZE (decide (t3≤3)) fun t4 =>
 K t4 h) (
 K false h)
def ZcT:Zvg:=Zeb
abbrev Zvf:=(Option Addr)→(Bool→HP)→HP
def Zea (a0:Option Addr) (K:Bool→HP) (h:Zd):Prop :=
 Zg a0 fun b o =>
 ldI h b (o+4) .u8 fun t =>
 Zs (t !=0) (
 K true h) (
 Zg a0 fun b1 o2 =>
 ldS h b1 (o2+5) fun t3 =>
 ZE (XN t3 (ByteArray.mk #[])) fun t4 =>
 K t4 h)
def ZcS:Zvf:=Zea
abbrev Zve:=(Option Addr)→(Bool→HP)→HP
def Zd9 (a0:Option Addr) (K:Bool→HP) (h:Zd):Prop :=
 Zg a0 fun b o =>
 ldB h b (o+2) fun t =>
 Zs (!t) (
 K true h) (
 Zg a0 fun b1 o2 =>
 ldI h b1 (o2+6) .u8 fun t3 =>
 Zs (t3 ==0) (
 Zg a0 fun b4 o5 =>
 ldB h b4 (o5+9) fun t6 =>
 ZE (!t6) fun t7 =>
 K t7 h) (
 K false h))
def ZcR:Zve:=Zd9
abbrev ZoC:=Bool→Int→Int→Int→(Bool→HP)→HP
def ZdY (f4:zT4) (asked:Bool) (n:Int) (lo:Int) (hi:Int) (K:Bool→HP) (h:Zd):Prop :=
 Zs asked (
 f4 n lo hi (fun t h1 =>
 Zs t (
 K true h1) (
 Zs (!asked) (
 ZE (n ==0) fun t2 =>
 K t2 h1) (
 K false h1))) h) (
 Zs (!asked) (
 ZE (n ==0) fun t3 =>
 K t3 h) (
 K false h))
def Xw:ZoC:=ZdY Yf
abbrev Zvd:=(Option Addr)→(Option Addr)→(Option Addr)→(Bool→HP)→HP
def Zd8 (f14:ZoC) (a0:Option Addr) (a1:Option Addr) (a2:Option Addr) (K:Bool→HP) (h:Zd):Prop :=
 Zg a0 fun b o=>ldB h b o fun t =>
 Zg a1 fun b1 o2 =>
 ldI h b1 (o2+7) .i64 fun t3 =>
 f14 t t3 1 3600 (fun t4 h5 =>
 Zs t4 (
 Zg a2 fun b6 o7=>ldB h5 b6 o7 fun t8 =>
 Zg a1 fun b9 o10 =>
 ldI h5 b9 (o10+8) .i64 fun t11 =>
 f14 t8 t11 0 3600000000 (fun t12 h13 =>
 ZE t12 fun t14 =>
 K t14 h13) h5) (
 K false h5)) h
def ZcQ:Zvd:=Zd8 Xw
abbrev Zvc:=(Option Addr)→(Bool→HP)→HP
def Zd7 (a0:Option Addr) (K:Bool→HP) (h:Zd):Prop :=
 Zg a0 fun b o =>
 ldB h b (o+9) fun t =>
 Zs (!t) (
 K true h) (
 Zg a0 fun b1 o2 =>
 ldI h b1 (o2+4) .u8 fun t3 =>
 Zs (t3 ==0) (
 Zg a0 fun b4 o5 =>
 ldI h b4 (o5+6) .u8 fun t6 =>
 ZE (t6 ==0) fun t7 =>
 K t7 h) (
 K false h))
def ZcP:Zvc:=Zd7
abbrev Zvb:=(Option Addr)→(Bool→HP)→HP
def Zd6 (f14:ZoC) (a0:Option Addr) (K:Bool→HP) (h:Zd):Prop :=
 Zg a0 fun b o =>
 ldB h b (o+9) fun t =>
 Zg a0 fun b1 o2 =>
 ldI h b1 (o2+10) .i64 fun t3 =>
 f14 t t3 1 1099511627776 (fun t4 h5 =>
 Zs t4 (
 Zg a0 fun b6 o7 =>
 ldB h5 b6 (o7+9) fun t8 =>
 Zs t8 (
 K true h5) (
 Zg a0 fun b9 o10 =>
 ldB h5 b9 (o10+11) fun t11 =>
 ZE (!t11) fun t12 =>
 K t12 h5)) (
 K false h5)) h
def ZcO:Zvb:=Zd6 Xw
abbrev Zu9:=(Option Addr)→(Option Addr)→(Bool→HP)→HP
def ZdN (f4:zT4) (a0:Option Addr) (a1:Option Addr) (K:Bool→HP) (h:Zd):Prop :=
 Zg a0 fun b o =>
 ldI h b (o+1) .u8 fun t =>
 Zs (decide (t≤2)) (
 Zg a0 fun b1 o2 =>
 ldI h b1 (o2+2) .i64 fun t3 =>
 Zg a1 fun b4 o5=>ldI h b4 o5 .i64 fun t6 =>
 f4 t3 0 t6 (fun t7 h8 =>
 ZE t7 fun t9 =>
 K t9 h8) h) (
 K false h)
def Zb9:Zu9:=ZdN Yf
abbrev Zu8:=(Option Addr)→(Bool→HP)→HP
def ZdM (f14:ZoC) (a0:Option Addr) (K:Bool→HP) (h:Zd):Prop :=
 Zg a0 fun b o =>
 ldI h b (o+1) .u8 fun t =>
 Zg a0 fun b1 o2 =>
 ldI h b1 (o2+3) .i64 fun t3 =>
 f14 (t ==0) t3 1 3600000000 (fun t4 h5 =>
 ZE t4 fun t6 =>
 K t6 h5) h
def Zb8:Zu8:=ZdM Xw
abbrev Zu7:=(Option Addr)→(Bool→HP)→HP
def ZdL (f4:zT4) (a0:Option Addr) (K:Bool→HP) (h:Zd):Prop :=
 Zg a0 fun b o =>
 ldI h b (o+4) .i64 fun t =>
 f4 t 1 1099511627776 (fun t1 h2 =>
 Zs t1 (
 Zg a0 fun b3 o4 =>
 ldI h2 b3 (o4+5) .i64 fun t5 =>
 f4 t5 1000000 120000000 (fun t6 h7 =>
 ZE t6 fun t8 =>
 K t8 h7) h2) (
 K false h2)) h
def Zb7:Zu7:=ZdL Yf
abbrev Zu6:=(Option Addr)→(Bool→HP)→HP
def ZdK (f4:zT4) (a0:Option Addr) (K:Bool→HP) (h:Zd):Prop :=
 Zg a0 fun b o =>
 ldI h b (o+6) .i64 fun t =>
 f4 t 1000000 3600000000 (fun t1 h2 =>
 ZE t1 fun t3 =>
 K t3 h2) h
def Zb6:Zu6:=ZdK Yf
abbrev ZrB:=(ByteArray × Sl × Int × Unit)→Sl→(Int→HP)→HP
def Zcm (f9:zT9) (f10:Zvh) (f11:Zvg) (f12:Zvf) (f13:Zve) (f15:Zvd) (f16:Zvc) (f17:Zvb) (f18:Zu9) (f19:Zu8) (f20:Zu7) (f21:Zu6) (l:ByteArray × Sl × Int × Unit) (all:Sl) (K:Int→HP) (h:Zd):Prop :=
 newC h [.string l.1,.slice l.2.1.ptr l.2.1.len l.2.1.cap,.int .i64 l.2.2.1] 271 fun b h1 =>
 Zf 0 fun t =>
 ldS h1 b 0 fun t2=>ldL h1 b (0+1) fun t3 =>
 f9 (t2,t3,()) (fun t4 h5 =>
 Zs (!t4) (
 Zf 10 fun t6 =>
 K t6 h5) (
 YY (σ:=Int × Unit) (fun J7 s h8 =>
 (fun (s13:Int) =>
 Zs (decide (s13<(all.len:Int))) (
 Xy all.ptr all.len s13 1 fun b9 o =>
 ldV h8 b9 o fun t10 =>
 (exG t10 (fun c:Option Addr × Option Addr × Unit=> .func (.func 190) #[] ⟨[.pointer c.1,.pointer c.2.1]⟩) fun c=>f10 c.1 c.2.1 (fun t12 h11 =>
 Zs (!t12) (
 ldI h11 b (0+2) .i64 fun t23 =>
 Zf t23 fun t24 =>
 K t24 h11) (
 J7 (IntKind.wrap .i64 (s13+1),()) h11)) h8)∨(
 (exG t10 (fun c13:Option Addr × Unit=> .func (.func 191) #[] ⟨[.pointer c13.1]⟩) fun c13=>f11 c13.1 (fun t12 h11 =>
 Zs (!t12) (
 ldI h11 b (0+2) .i64 fun t23 =>
 Zf t23 fun t24 =>
 K t24 h11) (
 J7 (IntKind.wrap .i64 (s13+1),()) h11)) h8)∨(
 (exG t10 (fun c14:Option Addr × Unit=> .func (.func 192) #[] ⟨[.pointer c14.1]⟩) fun c14=>f12 c14.1 (fun t12 h11 =>
 Zs (!t12) (
 ldI h11 b (0+2) .i64 fun t23 =>
 Zf t23 fun t24 =>
 K t24 h11) (
 J7 (IntKind.wrap .i64 (s13+1),()) h11)) h8)∨(
 (exG t10 (fun c15:Option Addr × Unit=> .func (.func 193) #[] ⟨[.pointer c15.1]⟩) fun c15=>f13 c15.1 (fun t12 h11 =>
 Zs (!t12) (
 ldI h11 b (0+2) .i64 fun t23 =>
 Zf t23 fun t24 =>
 K t24 h11) (
 J7 (IntKind.wrap .i64 (s13+1),()) h11)) h8)∨(
 (exG t10 (fun c16:Option Addr × Option Addr × Option Addr × Unit=> .func (.func 194) #[] ⟨[.pointer c16.1,.pointer c16.2.1,.pointer c16.2.2.1]⟩) fun c16=>f15 c16.1 c16.2.1 c16.2.2.1 (fun t12 h11 =>
 Zs (!t12) (
 ldI h11 b (0+2) .i64 fun t23 =>
 Zf t23 fun t24 =>
 K t24 h11) (
 J7 (IntKind.wrap .i64 (s13+1),()) h11)) h8)∨(
 (exG t10 (fun c17:Option Addr × Unit=> .func (.func 195) #[] ⟨[.pointer c17.1]⟩) fun c17=>f16 c17.1 (fun t12 h11 =>
 Zs (!t12) (
 ldI h11 b (0+2) .i64 fun t23 =>
 Zf t23 fun t24 =>
 K t24 h11) (
 J7 (IntKind.wrap .i64 (s13+1),()) h11)) h8)∨(
 (exG t10 (fun c18:Option Addr × Unit=> .func (.func 196) #[] ⟨[.pointer c18.1]⟩) fun c18=>f17 c18.1 (fun t12 h11 =>
 Zs (!t12) (
 ldI h11 b (0+2) .i64 fun t23 =>
 Zf t23 fun t24 =>
 K t24 h11) (
 J7 (IntKind.wrap .i64 (s13+1),()) h11)) h8)∨(
 (exG t10 (fun c19:Option Addr × Option Addr × Unit=> .func (.func 140) #[] ⟨[.pointer c19.1,.pointer c19.2.1]⟩) fun c19=>f18 c19.1 c19.2.1 (fun t12 h11 =>
 Zs (!t12) (
 ldI h11 b (0+2) .i64 fun t23 =>
 Zf t23 fun t24 =>
 K t24 h11) (
 J7 (IntKind.wrap .i64 (s13+1),()) h11)) h8)∨(
 (exG t10 (fun c20:Option Addr × Unit=> .func (.func 142) #[] ⟨[.pointer c20.1]⟩) fun c20=>f19 c20.1 (fun t12 h11 =>
 Zs (!t12) (
 ldI h11 b (0+2) .i64 fun t23 =>
 Zf t23 fun t24 =>
 K t24 h11) (
 J7 (IntKind.wrap .i64 (s13+1),()) h11)) h8)∨(
 (exG t10 (fun c21:Option Addr × Unit=> .func (.func 144) #[] ⟨[.pointer c21.1]⟩) fun c21=>f20 c21.1 (fun t12 h11 =>
 Zs (!t12) (
 ldI h11 b (0+2) .i64 fun t23 =>
 Zf t23 fun t24 =>
 K t24 h11) (
 J7 (IntKind.wrap .i64 (s13+1),()) h11)) h8)∨(
 (exG t10 (fun c22:Option Addr × Unit=> .func (.func 145) #[] ⟨[.pointer c22.1]⟩) fun c22=>f21 c22.1 (fun t12 h11 =>
 Zs (!t12) (
 ldI h11 b (0+2) .i64 fun t23 =>
 Zf t23 fun t24 =>
 K t24 h11) (
 J7 (IntKind.wrap .i64 (s13+1),()) h11)) h8)∨(
 False)))))))))))) (
 Zf 0 fun t25 =>
 K t25 h8)) s.1) (0,()) h5)) h1
def Xk:ZrB:=Zcm Y5 ZcU ZcT ZcS ZcR ZcQ ZcP ZcO Zb9 Zb8 Zb7 Zb6
abbrev Zu5:=(ByteArray × ByteArray × Bool × Int × Int × ByteArray × Int × Int × Int × Bool × Int × Bool × Unit)→(Int→HP)→HP
def Zfr (f22:ZrB) (r:ByteArray × ByteArray × Bool × Int × Int × ByteArray × Int × Int × Int × Bool × Int × Bool × Unit) (K:Int→HP) (h:Zd):Prop :=
 newC h [.string r.1,.string r.2.1,.bool r.2.2.1,.int .i64 r.2.2.2.1,.int .u8 r.2.2.2.2.1,.string r.2.2.2.2.2.1,.int .u8 r.2.2.2.2.2.2.1,.int .i64 r.2.2.2.2.2.2.2.1,.int .i64 r.2.2.2.2.2.2.2.2.1,.bool r.2.2.2.2.2.2.2.2.2.1,.int .i64 r.2.2.2.2.2.2.2.2.2.2.1,.bool r.2.2.2.2.2.2.2.2.2.2.2.1] 32 fun b h1 =>
 Zf 0 fun t =>
 ldS h1 b (0+1) fun t2 =>
 newC h1 [.string t2] 9 fun b3 h4 =>
 Zg7 (σ:=Sl × Unit) (fun s h19 =>
 (fun (names:Sl) =>
 Zg7 (σ:=Option Addr × Unit) (fun s29 h30 =>
 (fun (warm:Option Addr) =>
 Zg7 (σ:=Option Addr × Unit) (fun s40 h41 =>
 (fun (paced:Option Addr) =>
 newC h41 [.int .i64 0] 3 fun b42 h43 =>
 st h43 b42 0 (.int .i64 1) fun h44 =>
 Zg7 (σ:=Unit) (fun s48 h49 =>
 ldS h49 b 0 fun t50 =>
 newC h49 [.func (.func 190) #[] #[.pointer (some ⟨b,0,none⟩),.pointer (some ⟨b42,0,none⟩)],.func (.func 191) #[] #[.pointer (some ⟨b,0,none⟩)],.func (.func 192) #[] #[.pointer (some ⟨b,0,none⟩)],.func (.func 193) #[] #[.pointer (some ⟨b,0,none⟩)],.func (.func 194) #[] #[.pointer warm,.pointer (some ⟨b,0,none⟩),.pointer paced],.func (.func 195) #[] #[.pointer (some ⟨b,0,none⟩)],.func (.func 196) #[] #[.pointer (some ⟨b,0,none⟩)]] 48 fun b51 h52 =>
 f22 (t50,names,30,()) ⟨some ⟨b51,0,none⟩,7,7⟩ (fun t53 h54 =>
 Zf t53 fun t55 =>
 K t55 h54) h52) (fun J45 =>
 ldI h44 b (0+6) .u8 fun t46 =>
 Zs (t46 ==0) (
 st h44 b42 0 (.int .i64 0) fun h47 =>
 J45 (()) h47) (
 J45 (()) h44))) s40.1) (fun J31 =>
 ldI h30 b (0+6) .u8 fun t32 =>
 Zs (t32 ==2) (
 newC h30 [.bool false] 4 fun b33 h34 =>
 st h34 b33 0 (.bool true) fun h35 =>
 J31 (some ⟨b33,0,none⟩,()) h35) (
 ldI h30 b (0+6) .u8 fun t36 =>
 newC h30 [.bool false] 4 fun b37 h38 =>
 st h38 b37 0 (.bool (t36 ==3)) fun h39 =>
 J31 (some ⟨b37,0,none⟩,()) h39))) s29.1) (fun J20 =>
 ldI h19 b (0+6) .u8 fun t21 =>
 Zs (t21 ==1) (
 newC h19 [.bool false] 4 fun b22 h23 =>
 st h23 b22 0 (.bool true) fun h24 =>
 J20 (some ⟨b22,0,none⟩,()) h24) (
 ldI h19 b (0+6) .u8 fun t25 =>
 newC h19 [.bool false] 4 fun b26 h27 =>
 st h27 b26 0 (.bool (t25 ==3)) fun h28 =>
 J20 (some ⟨b26,0,none⟩,()) h28))) s.1) (fun J5 =>
 ldI h4 b (0+4) .u8 fun t6 =>
 Zs (t6 ==1) (
 ldS h4 b (0+5) fun t7 =>
 newC h4 [.string t7] 9 fun b8 h9 =>
 rdS ⟨some ⟨b8,0,none⟩,1,1⟩ 1 h9 fun new=>app 9 1 16 [.string (ByteArray.mk #[])] ⟨some ⟨b3,0,none⟩,1,1⟩ 1 new h9 fun t10 h11 =>
 J5 (t10,()) h11) (
 ldI h4 b (0+4) .u8 fun t12 =>
 Zs (t12 ==2) (
 ldS h4 b (0+5) fun t13 =>
 newC h4 [.string t13] 9 fun b14 h15 =>
 rdS ⟨some ⟨b14,0,none⟩,1,1⟩ 1 h15 fun new18=>app 9 1 16 [.string (ByteArray.mk #[])] ⟨some ⟨b3,0,none⟩,1,1⟩ 1 new18 h15 fun t16 h17 =>
 J5 (t16,()) h17) (
 J5 (⟨some ⟨b3,0,none⟩,1,1⟩,()) h4)))
def ZaG:Zu5:=Zfr Xk
abbrev Zu4:=Int→(Option Addr)→(Int→HP)→HP
def Zdg (f23:Zu5) (i:Int) (a1:Option Addr) (K:Int→HP) (h:Zd):Prop :=
 Zf 0 fun t =>
 Zg a1 fun b o =>
 ldL h b o fun t1 =>
 Xy t1.ptr t1.len i 12 fun b2 o3 =>
 ldS h b2 o3 fun t4=>ldS h b2 (o3+1) fun t5=>ldB h b2 (o3+2) fun t6=>ldI h b2 (o3+3) .i64 fun t7=>ldI h b2 (o3+4) .u8 fun t8=>ldS h b2 (o3+5) fun t9=>ldI h b2 (o3+6) .u8 fun t10=>ldI h b2 (o3+7) .i64 fun t11=>ldI h b2 (o3+8) .i64 fun t12=>ldB h b2 (o3+9) fun t13=>ldI h b2 (o3+10) .i64 fun t14=>ldB h b2 (o3+11) fun t15 =>
 f23 (t4,t5,t6,t7,t8,t9,t10,t11,t12,t13,t14,t15,()) (fun t16 h17 =>
 Zf t16 fun t18 =>
 K t18 h17) h
def ZaY:Zu4:=Zdg ZaG
abbrev ZrA:=(ByteArray × Int × Int × Int × Int × Int × Int × Unit)→(Int→HP)→HP
def ZeL (f22:ZrB) (r:ByteArray × Int × Int × Int × Int × Int × Int × Unit) (K:Int→HP) (h:Zd):Prop :=
 newC h [.string r.1,.int .u8 r.2.1,.int .i64 r.2.2.1,.int .i64 r.2.2.2.1,.int .i64 r.2.2.2.2.1,.int .i64 r.2.2.2.2.2.1,.int .i64 r.2.2.2.2.2.2.1] 52 fun b h1 =>
 Zf 0 fun t =>
 newC h1 [.int .i64 0] 3 fun b2 h3 =>
 st h3 b2 0 (.int .i64 1000) fun h4 =>
 Zg7 (σ:=Unit) (fun s h8 =>
 ldS h8 b 0 fun t9 =>
 newC h8 [.func (.func 140) #[] #[.pointer (some ⟨b,0,none⟩),.pointer (some ⟨b2,0,none⟩)],.func (.func 142) #[] #[.pointer (some ⟨b,0,none⟩)],.func (.func 144) #[] #[.pointer (some ⟨b,0,none⟩)],.func (.func 145) #[] #[.pointer (some ⟨b,0,none⟩)]] 48 fun b10 h11 =>
 f22 (t9,⟨none,0,0⟩,31,()) ⟨some ⟨b10,0,none⟩,4,4⟩ (fun t12 h13 =>
 Zf t12 fun t14 =>
 K t14 h13) h11) (fun J5 =>
 ldI h4 b (0+1) .u8 fun t6 =>
 Zs (t6 ==2) (
 st h4 b2 0 (.int .i64 1099511627776) fun h7 =>
 J5 (()) h7) (
 J5 (()) h4))
def Xu:ZrA:=ZeL Xk
abbrev Zu3:=Int→(Option Addr)→(Int→HP)→HP
def Zdf (f25:ZrA) (i:Int) (a1:Option Addr) (K:Int→HP) (h:Zd):Prop :=
 Zf 0 fun t =>
 Zg a1 fun b o =>
 ldL h b (o+1) fun t1 =>
 Xy t1.ptr t1.len i 7 fun b2 o3 =>
 ldS h b2 o3 fun t4=>ldI h b2 (o3+1) .u8 fun t5=>ldI h b2 (o3+2) .i64 fun t6=>ldI h b2 (o3+3) .i64 fun t7=>ldI h b2 (o3+4) .i64 fun t8=>ldI h b2 (o3+5) .i64 fun t9=>ldI h b2 (o3+6) .i64 fun t10 =>
 f25 (t4,t5,t6,t7,t8,t9,t10,()) (fun t11 h12 =>
 Zf t11 fun t13 =>
 K t13 h12) h
def ZaX:Zu3:=Zdf Xu
abbrev Zu2:=(Sl × Sl × Sl × Sl × Sl × Unit)→(Int→Int→Int→HP)→HP
def ZeK (f3:zT3) (f24:Zu4) (f26:Zu3) (r:Sl × Sl × Sl × Sl × Sl × Unit) (K:Int→Int→Int→HP) (h:Zd):Prop :=
 newC h [.slice r.1.ptr r.1.len r.1.cap,.slice r.2.1.ptr r.2.1.len r.2.1.cap,.slice r.2.2.1.ptr r.2.2.1.len r.2.2.1.cap,.slice r.2.2.2.1.ptr r.2.2.2.1.len r.2.2.2.1.cap,.slice r.2.2.2.2.1.ptr r.2.2.2.2.1.len r.2.2.2.2.1.cap] 39 fun b h1 =>
 Zf 0 fun t =>
 Zf 0 fun t2 =>
 Zf 0 fun t3 =>
 ldL h1 b 0 fun t4=>ldL h1 b (0+1) fun t5=>ldL h1 b (0+2) fun t6=>ldL h1 b (0+3) fun t7=>ldL h1 b (0+4) fun t8 =>
 f3 (t4,t5,t6,t7,t8,()) (fun t9 h10 =>
 YY (σ:=Int × Unit) (fun J11 s h12 =>
 (fun (s16:Int) =>
 Zs (decide (s16<(t9.len:Int))) (
 Xy t9.ptr t9.len s16 3 fun b13 o =>
 ldI h12 b13 o .u8 fun t14=>ldI h12 b13 (o+1) .i64 fun t15=>ldV h12 b13 (o+2) fun t16 =>
 newC h12 [.int .u8 0,.int .i64 0,.nilFunc] 190 fun b17 h18 =>
 sts h18 b17 0 [.int .u8 t14,.int .i64 t15,t16] fun h19 =>
 ldI h19 b17 (0+1) .i64 fun t20 =>
 Zs (decide (t20>256)) (
 ldI h19 b17 0 .u8 fun t21 =>
 Zf t21 fun t22 =>
 Zf 0 fun t23 =>
 Zf 5 fun t24 =>
 K t22 t23 t24 h19) (
 J11 (IntKind.wrap .i64 (s16+1),()) h19)) (
 YY (σ:=Int × Unit) (fun J25 s26 h27 =>
 (fun (s28:Int) =>
 Zs (decide (s28<(t9.len:Int))) (
 Xy t9.ptr t9.len s28 3 fun b28 o29 =>
 ldI h27 b28 o29 .u8 fun t30=>ldI h27 b28 (o29+1) .i64 fun t31=>ldV h27 b28 (o29+2) fun t32 =>
 newC h27 [.int .u8 0,.int .i64 0,.nilFunc] 190 fun b33 h34 =>
 sts h34 b33 0 [.int .u8 t30,.int .i64 t31,t32] fun h35 =>
 ldI h35 b33 (0+1) .i64 fun t36 =>
 YY (σ:=Int × Unit) (fun J37 s38 h39 =>
 (fun (s34:Int) =>
 Zs (decide (s34<t36)) (
 Zf s34 fun i =>
 ldV h39 b33 (0+2) fun t40 =>
 (exG t40 (fun c:Option Addr × Unit=> .func (.func 130) #[] ⟨[.pointer c.1]⟩) fun c=>f24 i c.1 (fun t42 h41 =>
 Zf t42 fun err =>
 Zs (err !=0) (
 ldI h41 b33 0 .u8 fun t44 =>
 Zf t44 fun t45 =>
 Zf i fun t46 =>
 Zf err fun t47 =>
 K t45 t46 t47 h41) (
 J37 (IntKind.wrap .i64 (s34+1),()) h41)) h39)∨(
 (exG t40 (fun c43:Option Addr × Unit=> .func (.func 132) #[] ⟨[.pointer c43.1]⟩) fun c43=>f26 i c43.1 (fun t42 h41 =>
 Zf t42 fun err =>
 Zs (err !=0) (
 ldI h41 b33 0 .u8 fun t44 =>
 Zf t44 fun t45 =>
 Zf i fun t46 =>
 Zf err fun t47 =>
 K t45 t46 t47 h41) (
 J37 (IntKind.wrap .i64 (s34+1),()) h41)) h39)∨(
 False))) (
 J25 (IntKind.wrap .i64 (s28+1),()) h39)) s38.1) (0,()) h35) (
 Zf 0 fun t48 =>
 Zf 0 fun t49 =>
 Zf 0 fun t50 =>
 K t48 t49 t50 h27)) s26.1) (0,()) h12)) s.1) (0,()) h10) h1
def Zb4:Zu2:=ZeK ZbG ZaY ZaX
abbrev Zu1:=Sl→(Sl→HP)→HP
def Zag (s:Sl) (K:Sl→HP) (h:Zd):Prop :=
 Zs s.ptr.isNone (
 K ⟨none,0,0⟩ h) (
 newC h [] 212 fun b h1 =>
 rdS s 2 h1 fun new=>app 212 2 24 [.string (ByteArray.mk #[]),.int .i64 0] ⟨some ⟨b,0,none⟩,0,0⟩ s.len new h1 fun t h2 =>
 K t h2)
def Xj:Zu1:=Zag
abbrev Zu0:=Sl→(Sl→HP)→HP
def Za2 (s:Sl) (K:Sl→HP) (h:Zd):Prop :=
 Zs s.ptr.isNone (
 K ⟨none,0,0⟩ h) (
 newC h [] 9 fun b h1 =>
 rdS s 1 h1 fun new=>app 9 1 16 [.string (ByteArray.mk #[])] ⟨some ⟨b,0,none⟩,0,0⟩ s.len new h1 fun t h2 =>
 K t h2)
def XG:Zu0:=Za2
abbrev ZuZ:=Sl→((Sl × Sl × Sl × Sl × Sl × Unit)→HP)→HP
def Zfq (f28:Zu1) (f29:Zu0) (l:Sl) (K:(Sl × Sl × Sl × Sl × Sl × Unit)→HP) (h:Zd):Prop :=
 newC h [.slice none 0 0,.slice none 0 0,.slice none 0 0,.slice none 0 0,.slice none 0 0] 39 fun b h1 =>
 newC h1 [.slice none 0 0,.slice none 0 0,.slice none 0 0,.slice none 0 0,.slice none 0 0] 39 fun b2 h3 =>
 YY (σ:=Int × Unit) (fun J4 s h5 =>
 (fun (s12:Int) =>
 Zs (decide (s12<(l.len:Int))) (
 Xy l.ptr l.len s12 5 fun b6 o =>
 ldL h5 b6 o fun t=>ldL h5 b6 (o+1) fun t7=>ldL h5 b6 (o+2) fun t8=>ldL h5 b6 (o+3) fun t9=>ldL h5 b6 (o+4) fun t10 =>
 newC h5 [.slice none 0 0,.slice none 0 0,.slice none 0 0,.slice none 0 0,.slice none 0 0] 39 fun b11 h12 =>
 sts h12 b11 0 [.slice t.ptr t.len t.cap,.slice t7.ptr t7.len t7.cap,.slice t8.ptr t8.len t8.cap,.slice t9.ptr t9.len t9.cap,.slice t10.ptr t10.len t10.cap] fun h13 =>
 ldL h13 b2 0 fun t14 =>
 ldL h13 b11 0 fun t15 =>
 rdS t15 12 h13 fun new=>app 32 12 120 [.string (ByteArray.mk #[]),.string (ByteArray.mk #[]),.bool false,.int .i64 0,.int .u8 0,.string (ByteArray.mk #[]),.int .u8 0,.int .i64 0,.int .i64 0,.bool false,.int .i64 0,.bool false] t14 t15.len new h13 fun t16 h17 =>
 st h17 b2 0 (.slice t16.ptr t16.len t16.cap) fun h18 =>
 ldL h18 b2 (0+1) fun t19 =>
 ldL h18 b11 (0+1) fun t20 =>
 rdS t20 7 h18 fun new23=>app 52 7 64 [.string (ByteArray.mk #[]),.int .u8 0,.int .i64 0,.int .i64 0,.int .i64 0,.int .i64 0,.int .i64 0] t19 t20.len new23 h18 fun t21 h22 =>
 st h22 b2 (0+1) (.slice t21.ptr t21.len t21.cap) fun h24 =>
 ldL h24 b2 (0+3) fun t25 =>
 ldL h24 b11 (0+3) fun t26 =>
 rdS t26 5 h24 fun new29=>app 202 5 40 [.int .i64 0,.int .i64 0,.int .i64 0,.int .i64 0,.int .i64 0] t25 t26.len new29 h24 fun t27 h28 =>
 st h28 b2 (0+3) (.slice t27.ptr t27.len t27.cap) fun h30 =>
 ldL h30 b11 (0+2) fun t31 =>
 YY (σ:=Int × Unit) (fun J32 s33 h34 =>
 (fun (s37:Int) =>
 Zs (decide (s37<(t31.len:Int))) (
 Xy t31.ptr t31.len s37 5 fun b35 o36 =>
 ldS h34 b35 o36 fun t37=>ldI h34 b35 (o36+1) .i64 fun t38=>ldI h34 b35 (o36+2) .i64 fun t39=>ldI h34 b35 (o36+3) .i64 fun t40=>ldL h34 b35 (o36+4) fun t41 =>
 newC h34 [.string (ByteArray.mk #[]),.int .i64 0,.int .i64 0,.int .i64 0,.slice none 0 0] 134 fun b42 h43 =>
 sts h43 b42 0 [.string t37,.int .i64 t38,.int .i64 t39,.int .i64 t40,.slice t41.ptr t41.len t41.cap] fun h44 =>
 ldL h44 b42 (0+4) fun t45 =>
 f28 t45 (fun t46 h47 =>
 st h47 b42 (0+4) (.slice t46.ptr t46.len t46.cap) fun h48 =>
 ldL h48 b2 (0+2) fun t49 =>
 ldS h48 b42 0 fun t50=>ldI h48 b42 (0+1) .i64 fun t51=>ldI h48 b42 (0+2) .i64 fun t52=>ldI h48 b42 (0+3) .i64 fun t53=>ldL h48 b42 (0+4) fun t54 =>
 newC h48 [.string t50,.int .i64 t51,.int .i64 t52,.int .i64 t53,.slice t54.ptr t54.len t54.cap] 134 fun b55 h56 =>
 rdS ⟨some ⟨b55,0,none⟩,1,1⟩ 5 h56 fun new59=>app 134 5 64 [.string (ByteArray.mk #[]),.int .i64 0,.int .i64 0,.int .i64 0,.slice none 0 0] t49 1 new59 h56 fun t57 h58 =>
 st h58 b2 (0+2) (.slice t57.ptr t57.len t57.cap) fun h60 =>
 J32 (IntKind.wrap .i64 (s37+1),()) h60) h44) (
 ldL h34 b11 (0+4) fun t61 =>
 YY (σ:=Int × Unit) (fun J62 s63 h64 =>
 (fun (s55:Int) =>
 Zs (decide (s55<(t61.len:Int))) (
 Xy t61.ptr t61.len s55 3 fun b65 o66 =>
 ldS h64 b65 o66 fun t67=>ldB h64 b65 (o66+1) fun t68=>ldL h64 b65 (o66+2) fun t69 =>
 newC h64 [.string (ByteArray.mk #[]),.bool false,.slice none 0 0] 160 fun b70 h71 =>
 sts h71 b70 0 [.string t67,.bool t68,.slice t69.ptr t69.len t69.cap] fun h72 =>
 ldL h72 b70 (0+2) fun t73 =>
 f29 t73 (fun t74 h75 =>
 st h75 b70 (0+2) (.slice t74.ptr t74.len t74.cap) fun h76 =>
 ldL h76 b2 (0+4) fun t77 =>
 ldS h76 b70 0 fun t78=>ldB h76 b70 (0+1) fun t79=>ldL h76 b70 (0+2) fun t80 =>
 newC h76 [.string t78,.bool t79,.slice t80.ptr t80.len t80.cap] 160 fun b81 h82 =>
 rdS ⟨some ⟨b81,0,none⟩,1,1⟩ 3 h82 fun new85=>app 160 3 48 [.string (ByteArray.mk #[]),.bool false,.slice none 0 0] t77 1 new85 h82 fun t83 h84 =>
 st h84 b2 (0+4) (.slice t83.ptr t83.len t83.cap) fun h86 =>
 J62 (IntKind.wrap .i64 (s55+1),()) h86) h72) (
 J4 (IntKind.wrap .i64 (s12+1),()) h64)) s63.1) (0,()) h34)) s33.1) (0,()) h30) (
 ldL h5 b2 0 fun t87=>ldL h5 b2 (0+1) fun t88=>ldL h5 b2 (0+2) fun t89=>ldL h5 b2 (0+3) fun t90=>ldL h5 b2 (0+4) fun t91 =>
 sts h5 b 0 [.slice t87.ptr t87.len t87.cap,.slice t88.ptr t88.len t88.cap,.slice t89.ptr t89.len t89.cap,.slice t90.ptr t90.len t90.cap,.slice t91.ptr t91.len t91.cap] fun h92 =>
 ldL h92 b 0 fun t93=>ldL h92 b (0+1) fun t94=>ldL h92 b (0+2) fun t95=>ldL h92 b (0+3) fun t96=>ldL h92 b (0+4) fun t97=>K (t93,t94,t95,t96,t97,()) h92)) s.1) (0,()) h3
def ZcY:ZuZ:=Zfq Xj XG
abbrev Zrz:=(Sl × Sl × Sl × Sl × Sl × Unit)→((Sl × Sl × Sl × Sl × Sl × Unit)→HP)→HP
def Zfs (f30:ZuZ) (r:Sl × Sl × Sl × Sl × Sl × Unit) (K:(Sl × Sl × Sl × Sl × Sl × Unit)→HP) (h:Zd):Prop :=
 newC h [.slice r.1.ptr r.1.len r.1.cap,.slice r.2.1.ptr r.2.1.len r.2.1.cap,.slice r.2.2.1.ptr r.2.2.1.len r.2.2.1.cap,.slice r.2.2.2.1.ptr r.2.2.2.1.len r.2.2.2.1.cap,.slice r.2.2.2.2.1.ptr r.2.2.2.2.1.len r.2.2.2.2.1.cap] 39 fun b h1 =>
 newC h1 [.slice none 0 0,.slice none 0 0,.slice none 0 0,.slice none 0 0,.slice none 0 0] 39 fun b2 h3 =>
 ldL h3 b 0 fun t=>ldL h3 b (0+1) fun t4=>ldL h3 b (0+2) fun t5=>ldL h3 b (0+3) fun t6=>ldL h3 b (0+4) fun t7 =>
 newC h3 [.slice t.ptr t.len t.cap,.slice t4.ptr t4.len t4.cap,.slice t5.ptr t5.len t5.cap,.slice t6.ptr t6.len t6.cap,.slice t7.ptr t7.len t7.cap] 39 fun b8 h9 =>
 f30 ⟨some ⟨b8,0,none⟩,1,1⟩ (fun t10 h11 =>
 sts h11 b2 0 [.slice t10.1.ptr t10.1.len t10.1.cap,.slice t10.2.1.ptr t10.2.1.len t10.2.1.cap,.slice t10.2.2.1.ptr t10.2.2.1.len t10.2.2.1.cap,.slice t10.2.2.2.1.ptr t10.2.2.2.1.len t10.2.2.2.1.cap,.slice t10.2.2.2.2.1.ptr t10.2.2.2.2.1.len t10.2.2.2.2.1.cap] fun h12 =>
 ldL h12 b2 0 fun t13=>ldL h12 b2 (0+1) fun t14=>ldL h12 b2 (0+2) fun t15=>ldL h12 b2 (0+3) fun t16=>ldL h12 b2 (0+4) fun t17=>K (t13,t14,t15,t16,t17,()) h12) h9
def Zbo:Zrz:=Zfs ZcY
abbrev ZuY:=(Option Addr)→(Sl × Sl × Sl × Sl × Sl × Unit)→(Int→HP)→HP
def Zcn (f27:Zu2) (f31:Zrz) (s:Option Addr) (r:Sl × Sl × Sl × Sl × Sl × Unit) (K:Int→HP) (h:Zd):Prop :=
 newC h [.slice r.1.ptr r.1.len r.1.cap,.slice r.2.1.ptr r.2.1.len r.2.1.cap,.slice r.2.2.1.ptr r.2.2.1.len r.2.2.1.cap,.slice r.2.2.2.1.ptr r.2.2.2.1.len r.2.2.2.1.cap,.slice r.2.2.2.2.1.ptr r.2.2.2.2.1.len r.2.2.2.2.1.cap] 39 fun b h1 =>
 Zf 0 fun t =>
 Zs s.isNone (
 Zf 1 fun t2 =>
 K t2 h1) (
 ldL h1 b 0 fun t3=>ldL h1 b (0+1) fun t4=>ldL h1 b (0+2) fun t5=>ldL h1 b (0+3) fun t6=>ldL h1 b (0+4) fun t7 =>
 f27 (t3,t4,t5,t6,t7,()) (fun t8 t9 t10 h11 =>
 Zf t8 fun x =>
 Zf t9 fun x12 =>
 Zf t10 fun err =>
 Zs (err !=0) (
 Zf err fun t13 =>
 K t13 h11) (
 ldL h11 b 0 fun t14=>ldL h11 b (0+1) fun t15=>ldL h11 b (0+2) fun t16=>ldL h11 b (0+3) fun t17=>ldL h11 b (0+4) fun t18 =>
 f31 (t14,t15,t16,t17,t18,()) (fun t19 h20 =>
 Zg s fun b21 o =>
 sts h20 b21 o [.slice t19.1.ptr t19.1.len t19.1.cap,.slice t19.2.1.ptr t19.2.1.len t19.2.1.cap,.slice t19.2.2.1.ptr t19.2.2.1.len t19.2.2.1.cap,.slice t19.2.2.2.1.ptr t19.2.2.2.1.len t19.2.2.2.1.cap,.slice t19.2.2.2.2.1.ptr t19.2.2.2.2.1.len t19.2.2.2.2.1.cap] fun h22 =>
 Zg s fun b23 o24 =>
 ldI h22 b23 (o24+5) .i64 fun t25 =>
 Zg s fun b26 o27 =>
 st h22 b26 (o27+5) (.int .i64 (IntKind.wrap .i64 (t25+1))) fun h28 =>
 Zf 0 fun t29 =>
 K t29 h28) h11)) h1)
def Zac:ZuY:=Zcn Zb4 Zbo
abbrev ZuX:=(Option Addr)→((Sl × Sl × Sl × Sl × Sl × Unit)→Int→HP)→HP
def ZcH (f31:Zrz) (s:Option Addr) (K:(Sl × Sl × Sl × Sl × Sl × Unit)→Int→HP) (h:Zd):Prop :=
 newC h [.slice none 0 0,.slice none 0 0,.slice none 0 0,.slice none 0 0,.slice none 0 0] 39 fun b h1 =>
 Zf 0 fun t =>
 Zs s.isNone (
 sts h1 b 0 [.slice none 0 0,.slice none 0 0,.slice none 0 0,.slice none 0 0,.slice none 0 0] fun h2 =>
 Zf 0 fun t3 =>
 ldL h2 b 0 fun t4=>ldL h2 b (0+1) fun t5=>ldL h2 b (0+2) fun t6=>ldL h2 b (0+3) fun t7=>ldL h2 b (0+4) fun t8=>K (t4,t5,t6,t7,t8,()) t3 h2) (
 Zg s fun b9 o =>
 Zg s fun b10 o11 =>
 ldL h1 b9 o fun t12=>ldL h1 b9 (o+1) fun t13=>ldL h1 b9 (o+2) fun t14=>ldL h1 b9 (o+3) fun t15=>ldL h1 b9 (o+4) fun t16 =>
 ldI h1 b10 (o11+5) .i64 fun t17 =>
 f31 (t12,t13,t14,t15,t16,()) (fun t18 h19 =>
 ZR (Zo h19 [(b10,o11+5,.int .i64 t17)]) <|
 sts h19 b 0 [.slice t18.1.ptr t18.1.len t18.1.cap,.slice t18.2.1.ptr t18.2.1.len t18.2.1.cap,.slice t18.2.2.1.ptr t18.2.2.1.len t18.2.2.1.cap,.slice t18.2.2.2.1.ptr t18.2.2.2.1.len t18.2.2.2.1.cap,.slice t18.2.2.2.2.1.ptr t18.2.2.2.2.1.len t18.2.2.2.2.1.cap] fun h20 =>
 ZR (Zo h20 [(b10,o11+5,.int .i64 t17)]) <|
 Zf t17 fun t21 =>
 ldL h20 b 0 fun t22=>ldL h20 b (0+1) fun t23=>ldL h20 b (0+2) fun t24=>ldL h20 b (0+3) fun t25=>ldL h20 b (0+4) fun t26=>K (t22,t23,t24,t25,t26,()) t21 h20) h1)
def ZaA:ZuX:=ZcH Zbo
abbrev ZuW:=(ByteArray × ByteArray × Bool × Int × Int × ByteArray × Int × Int × Int × Bool × Int × Bool × Unit)→(ByteArray × ByteArray × Bool × Int × Int × ByteArray × Int × Int × Int × Bool × Int × Bool × Unit)→(Bool→HP)→HP
def Zcv (a:ByteArray × ByteArray × Bool × Int × Int × ByteArray × Int × Int × Int × Bool × Int × Bool × Unit) (b:ByteArray × ByteArray × Bool × Int × Int × ByteArray × Int × Int × Int × Bool × Int × Bool × Unit) (K:Bool→HP) (h:Zd):Prop :=
 newC h [.string a.1,.string a.2.1,.bool a.2.2.1,.int .i64 a.2.2.2.1,.int .u8 a.2.2.2.2.1,.string a.2.2.2.2.2.1,.int .u8 a.2.2.2.2.2.2.1,.int .i64 a.2.2.2.2.2.2.2.1,.int .i64 a.2.2.2.2.2.2.2.2.1,.bool a.2.2.2.2.2.2.2.2.2.1,.int .i64 a.2.2.2.2.2.2.2.2.2.2.1,.bool a.2.2.2.2.2.2.2.2.2.2.2.1] 32 fun b1 h2 =>
 newC h2 [.string b.1,.string b.2.1,.bool b.2.2.1,.int .i64 b.2.2.2.1,.int .u8 b.2.2.2.2.1,.string b.2.2.2.2.2.1,.int .u8 b.2.2.2.2.2.2.1,.int .i64 b.2.2.2.2.2.2.2.1,.int .i64 b.2.2.2.2.2.2.2.2.1,.bool b.2.2.2.2.2.2.2.2.2.1,.int .i64 b.2.2.2.2.2.2.2.2.2.2.1,.bool b.2.2.2.2.2.2.2.2.2.2.2.1] 32 fun b3 h4 =>
 ldS h4 b1 0 fun t=>ldS h4 b1 (0+1) fun t5=>ldB h4 b1 (0+2) fun t6=>ldI h4 b1 (0+3) .i64 fun t7=>ldI h4 b1 (0+4) .u8 fun t8=>ldS h4 b1 (0+5) fun t9=>ldI h4 b1 (0+6) .u8 fun t10=>ldI h4 b1 (0+7) .i64 fun t11=>ldI h4 b1 (0+8) .i64 fun t12=>ldB h4 b1 (0+9) fun t13=>ldI h4 b1 (0+10) .i64 fun t14=>ldB h4 b1 (0+11) fun t15 =>
 ldS h4 b3 0 fun t16=>ldS h4 b3 (0+1) fun t17=>ldB h4 b3 (0+2) fun t18=>ldI h4 b3 (0+3) .i64 fun t19=>ldI h4 b3 (0+4) .u8 fun t20=>ldS h4 b3 (0+5) fun t21=>ldI h4 b3 (0+6) .u8 fun t22=>ldI h4 b3 (0+7) .i64 fun t23=>ldI h4 b3 (0+8) .i64 fun t24=>ldB h4 b3 (0+9) fun t25=>ldI h4 b3 (0+10) .i64 fun t26=>ldB h4 b3 (0+11) fun t27 =>
 ZE (bif XN t t16 then (bif XN t5 t17 then (bif t6 ==t18 then (bif t7 ==t19 then (bif t8 ==t20 then (bif XN t9 t21 then (bif t10 ==t22 then (bif t11 ==t23 then (bif t12 ==t24 then (bif t13 ==t25 then (bif t14 ==t26 then (bif t15 ==t27 then true else false) else false) else false) else false) else false) else false) else false) else false) else false) else false) else false) else false) fun t28 =>
 K t28 h4
def Za7:ZuW:=Zcv
abbrev ZuV:=Sl→Sl→(Sl→HP)→HP
def YB (f34:ZuW) (now:Sl) (was:Sl) (K:Sl→HP) (h:Zd):Prop :=
 mkS 4 1 [.bool false] (was.len:Int) (was.len:Int) h fun t h1 =>
 YY (σ:=Sl × Int × Unit) (fun J2 s h3 =>
 (fun (l:Sl) (s19:Int) =>
 Zs (decide (s19<(now.len:Int))) (
 Xy now.ptr now.len s19 12 fun b o =>
 ldS h3 b o fun t4=>ldS h3 b (o+1) fun t5=>ldB h3 b (o+2) fun t6=>ldI h3 b (o+3) .i64 fun t7=>ldI h3 b (o+4) .u8 fun t8=>ldS h3 b (o+5) fun t9=>ldI h3 b (o+6) .u8 fun t10=>ldI h3 b (o+7) .i64 fun t11=>ldI h3 b (o+8) .i64 fun t12=>ldB h3 b (o+9) fun t13=>ldI h3 b (o+10) .i64 fun t14=>ldB h3 b (o+11) fun t15 =>
 newC h3 [.string (ByteArray.mk #[]),.string (ByteArray.mk #[]),.bool false,.int .i64 0,.int .u8 0,.string (ByteArray.mk #[]),.int .u8 0,.int .i64 0,.int .i64 0,.bool false,.int .i64 0,.bool false] 32 fun b16 h17 =>
 sts h17 b16 0 [.string t4,.string t5,.bool t6,.int .i64 t7,.int .u8 t8,.string t9,.int .u8 t10,.int .i64 t11,.int .i64 t12,.bool t13,.int .i64 t14,.bool t15] fun h18 =>
 Zf (-1) fun found =>
 YY (σ:=Int × Int × Unit) (fun J20 s21 h22 =>
 (fun (found19:Int) (s25:Int) =>
 Zs (decide (s25<(was.len:Int))) (
 Xy was.ptr was.len s25 12 fun b23 o24 =>
 ldS h22 b23 o24 fun t25=>ldS h22 b23 (o24+1) fun t26=>ldB h22 b23 (o24+2) fun t27=>ldI h22 b23 (o24+3) .i64 fun t28=>ldI h22 b23 (o24+4) .u8 fun t29=>ldS h22 b23 (o24+5) fun t30=>ldI h22 b23 (o24+6) .u8 fun t31=>ldI h22 b23 (o24+7) .i64 fun t32=>ldI h22 b23 (o24+8) .i64 fun t33=>ldB h22 b23 (o24+9) fun t34=>ldI h22 b23 (o24+10) .i64 fun t35=>ldB h22 b23 (o24+11) fun t36 =>
 newC h22 [.string (ByteArray.mk #[]),.string (ByteArray.mk #[]),.bool false,.int .i64 0,.int .u8 0,.string (ByteArray.mk #[]),.int .u8 0,.int .i64 0,.int .i64 0,.bool false,.int .i64 0,.bool false] 32 fun b37 h38 =>
 Zf s25 fun i =>
 sts h38 b37 0 [.string t25,.string t26,.bool t27,.int .i64 t28,.int .u8 t29,.string t30,.int .u8 t31,.int .i64 t32,.int .i64 t33,.bool t34,.int .i64 t35,.bool t36] fun h39 =>
 Zs (decide (found19<0)) (
 Xy t.ptr t.len i 1 fun b40 o41 =>
 ldB h39 b40 o41 fun t42 =>
 Zs (!t42) (
 ldS h39 b16 0 fun t43=>ldS h39 b16 (0+1) fun t44=>ldB h39 b16 (0+2) fun t45=>ldI h39 b16 (0+3) .i64 fun t46=>ldI h39 b16 (0+4) .u8 fun t47=>ldS h39 b16 (0+5) fun t48=>ldI h39 b16 (0+6) .u8 fun t49=>ldI h39 b16 (0+7) .i64 fun t50=>ldI h39 b16 (0+8) .i64 fun t51=>ldB h39 b16 (0+9) fun t52=>ldI h39 b16 (0+10) .i64 fun t53=>ldB h39 b16 (0+11) fun t54 =>
 ldS h39 b37 0 fun t55=>ldS h39 b37 (0+1) fun t56=>ldB h39 b37 (0+2) fun t57=>ldI h39 b37 (0+3) .i64 fun t58=>ldI h39 b37 (0+4) .u8 fun t59=>ldS h39 b37 (0+5) fun t60=>ldI h39 b37 (0+6) .u8 fun t61=>ldI h39 b37 (0+7) .i64 fun t62=>ldI h39 b37 (0+8) .i64 fun t63=>ldB h39 b37 (0+9) fun t64=>ldI h39 b37 (0+10) .i64 fun t65=>ldB h39 b37 (0+11) fun t66 =>
 f34 (t43,t44,t45,t46,t47,t48,t49,t50,t51,t52,t53,t54,()) (t55,t56,t57,t58,t59,t60,t61,t62,t63,t64,t65,t66,()) (fun t67 h68 =>
 Zs t67 (
 Zf i fun found69 =>
 Xy t.ptr t.len i 1 fun b70 o71 =>
 st h68 b70 o71 (.bool true) fun h72 =>
 J20 (found69,IntKind.wrap .i64 (s25+1),()) h72) (
 J20 (found19,IntKind.wrap .i64 (s25+1),()) h68)) h39) (
 J20 (found19,IntKind.wrap .i64 (s25+1),()) h39)) (
 J20 (found19,IntKind.wrap .i64 (s25+1),()) h39)) (
 newC h22 [.int .i64 found19] 3 fun b73 h74 =>
 rdS ⟨some ⟨b73,0,none⟩,1,1⟩ 1 h74 fun new=>app 3 1 8 [.int .i64 0] l 1 new h74 fun t75 h76 =>
 J2 (t75,IntKind.wrap .i64 (s19+1),()) h76)) s21.1 s21.2.1) (found,0,()) h18) (
 K l h3)) s.1 s.2.1) (⟨none,0,0⟩,0,()) h1
def ZV:ZuV:=YB Za7
abbrev ZuU:=Int→Int→((Option Addr)→Int→HP)→HP
def Zfj:ZuU:=fun _ _ _ _=>False
abbrev ZuT:=Int→Int→((Option Addr)→Int→HP)→HP
def Zfh:ZuT:=fun _ _ _ _=>False
abbrev ZuS:=(ByteArray × ByteArray × Bool × Int × Int × ByteArray × Int × Int × Int × Bool × Int × Bool × Unit)→((Option Addr × Option Addr × Unit)→HP)→HP
def ZcG (f36:ZuU) (f37:ZuT) (r:ByteArray × ByteArray × Bool × Int × Int × ByteArray × Int × Int × Int × Bool × Int × Bool × Unit) (K:(Option Addr × Option Addr × Unit)→HP) (h:Zd):Prop :=
 newC h [.string r.1,.string r.2.1,.bool r.2.2.1,.int .i64 r.2.2.2.1,.int .u8 r.2.2.2.2.1,.string r.2.2.2.2.2.1,.int .u8 r.2.2.2.2.2.2.1,.int .i64 r.2.2.2.2.2.2.2.1,.int .i64 r.2.2.2.2.2.2.2.2.1,.bool r.2.2.2.2.2.2.2.2.2.1,.int .i64 r.2.2.2.2.2.2.2.2.2.2.1,.bool r.2.2.2.2.2.2.2.2.2.2.2.1] 32 fun b h1 =>
 newC h1 [.pointer none,.pointer none] 126 fun b2 h3 =>
 newC h3 [.pointer none,.pointer none] 126 fun b4 h5 =>
 Zg7 (σ:=Unit) (fun s h20 =>
 ldI h20 b (0+6) .u8 fun t21 =>
 Zs (t21 ==1) (
 ldI h20 b (0+3) .i64 fun t22 =>
 ldI h20 b (0+7) .i64 fun t23 =>
 f37 t22 t23 (fun t24 t25 h26 =>
 st h26 b4 (0+1) (.pointer t24) fun h27 =>
 ldP h27 b4 0 fun t28=>ldP h27 b4 (0+1) fun t29 =>
 sts h27 b2 0 [.pointer t28,.pointer t29] fun h30 =>
 ldP h30 b2 0 fun t31=>ldP h30 b2 (0+1) fun t32=>K (t31,t32,()) h30) h20) (
 ldI h20 b (0+6) .u8 fun t33 =>
 Zs (t33 ==3) (
 ldI h20 b (0+3) .i64 fun t34 =>
 ldI h20 b (0+7) .i64 fun t35 =>
 f37 t34 t35 (fun t36 t37 h38 =>
 st h38 b4 (0+1) (.pointer t36) fun h39 =>
 ldP h39 b4 0 fun t40=>ldP h39 b4 (0+1) fun t41 =>
 sts h39 b2 0 [.pointer t40,.pointer t41] fun h42 =>
 ldP h42 b2 0 fun t43=>ldP h42 b2 (0+1) fun t44=>K (t43,t44,()) h42) h20) (
 ldP h20 b4 0 fun t45=>ldP h20 b4 (0+1) fun t46 =>
 sts h20 b2 0 [.pointer t45,.pointer t46] fun h47 =>
 ldP h47 b2 0 fun t48=>ldP h47 b2 (0+1) fun t49=>K (t48,t49,()) h47))) (fun J6 =>
 ldI h5 b (0+6) .u8 fun t =>
 Zs (t ==2) (
 ldI h5 b (0+3) .i64 fun t7 =>
 ldI h5 b (0+8) .i64 fun t8 =>
 f36 t7 t8 (fun t9 t10 h11 =>
 st h11 b4 0 (.pointer t9) fun h12 =>
 J6 (()) h12) h5) (
 ldI h5 b (0+6) .u8 fun t13 =>
 Zs (t13 ==3) (
 ldI h5 b (0+3) .i64 fun t14 =>
 ldI h5 b (0+8) .i64 fun t15 =>
 f36 t14 t15 (fun t16 t17 h18 =>
 st h18 b4 0 (.pointer t16) fun h19 =>
 J6 (()) h19) h5) (
 J6 (()) h5)))
def Zaz:ZuS:=ZcG Zfj Zfh
abbrev ZuR:=(ByteArray × Int × Int × Int × Int × Int × Int × Unit)→(ByteArray × Int × Int × Int × Int × Int × Int × Unit)→(Bool→HP)→HP
def Zcu (a:ByteArray × Int × Int × Int × Int × Int × Int × Unit) (b:ByteArray × Int × Int × Int × Int × Int × Int × Unit) (K:Bool→HP) (h:Zd):Prop :=
 newC h [.string a.1,.int .u8 a.2.1,.int .i64 a.2.2.1,.int .i64 a.2.2.2.1,.int .i64 a.2.2.2.2.1,.int .i64 a.2.2.2.2.2.1,.int .i64 a.2.2.2.2.2.2.1] 52 fun b1 h2 =>
 newC h2 [.string b.1,.int .u8 b.2.1,.int .i64 b.2.2.1,.int .i64 b.2.2.2.1,.int .i64 b.2.2.2.2.1,.int .i64 b.2.2.2.2.2.1,.int .i64 b.2.2.2.2.2.2.1] 52 fun b3 h4 =>
 ldS h4 b1 0 fun t=>ldI h4 b1 (0+1) .u8 fun t5=>ldI h4 b1 (0+2) .i64 fun t6=>ldI h4 b1 (0+3) .i64 fun t7=>ldI h4 b1 (0+4) .i64 fun t8=>ldI h4 b1 (0+5) .i64 fun t9=>ldI h4 b1 (0+6) .i64 fun t10 =>
 ldS h4 b3 0 fun t11=>ldI h4 b3 (0+1) .u8 fun t12=>ldI h4 b3 (0+2) .i64 fun t13=>ldI h4 b3 (0+3) .i64 fun t14=>ldI h4 b3 (0+4) .i64 fun t15=>ldI h4 b3 (0+5) .i64 fun t16=>ldI h4 b3 (0+6) .i64 fun t17 =>
 ZE (bif XN t t11 then (bif t5 ==t12 then (bif t6 ==t13 then (bif t7 ==t14 then (bif t8 ==t15 then (bif t9 ==t16 then (bif t10 ==t17 then true else false) else false) else false) else false) else false) else false) else false) fun t18 =>
 K t18 h4
def Za6:ZuR:=Zcu
abbrev ZuQ:=Sl→Sl→(Sl→HP)→HP
def Z8 (f39:ZuR) (now:Sl) (was:Sl) (K:Sl→HP) (h:Zd):Prop :=
 mkS 4 1 [.bool false] (was.len:Int) (was.len:Int) h fun t h1 =>
 YY (σ:=Sl × Int × Unit) (fun J2 s h3 =>
 (fun (l:Sl) (s19:Int) =>
 Zs (decide (s19<(now.len:Int))) (
 Xy now.ptr now.len s19 7 fun b o =>
 ldS h3 b o fun t4=>ldI h3 b (o+1) .u8 fun t5=>ldI h3 b (o+2) .i64 fun t6=>ldI h3 b (o+3) .i64 fun t7=>ldI h3 b (o+4) .i64 fun t8=>ldI h3 b (o+5) .i64 fun t9=>ldI h3 b (o+6) .i64 fun t10 =>
 newC h3 [.string (ByteArray.mk #[]),.int .u8 0,.int .i64 0,.int .i64 0,.int .i64 0,.int .i64 0,.int .i64 0] 52 fun b11 h12 =>
 sts h12 b11 0 [.string t4,.int .u8 t5,.int .i64 t6,.int .i64 t7,.int .i64 t8,.int .i64 t9,.int .i64 t10] fun h13 =>
 Zf (-1) fun found =>
 YY (σ:=Int × Int × Unit) (fun J15 s16 h17 =>
 (fun (found14:Int) (s25:Int) =>
 Zs (decide (s25<(was.len:Int))) (
 Xy was.ptr was.len s25 7 fun b18 o19 =>
 ldS h17 b18 o19 fun t20=>ldI h17 b18 (o19+1) .u8 fun t21=>ldI h17 b18 (o19+2) .i64 fun t22=>ldI h17 b18 (o19+3) .i64 fun t23=>ldI h17 b18 (o19+4) .i64 fun t24=>ldI h17 b18 (o19+5) .i64 fun t25=>ldI h17 b18 (o19+6) .i64 fun t26 =>
 newC h17 [.string (ByteArray.mk #[]),.int .u8 0,.int .i64 0,.int .i64 0,.int .i64 0,.int .i64 0,.int .i64 0] 52 fun b27 h28 =>
 Zf s25 fun i =>
 sts h28 b27 0 [.string t20,.int .u8 t21,.int .i64 t22,.int .i64 t23,.int .i64 t24,.int .i64 t25,.int .i64 t26] fun h29 =>
 Zs (decide (found14<0)) (
 Xy t.ptr t.len i 1 fun b30 o31 =>
 ldB h29 b30 o31 fun t32 =>
 Zs (!t32) (
 ldS h29 b11 0 fun t33=>ldI h29 b11 (0+1) .u8 fun t34=>ldI h29 b11 (0+2) .i64 fun t35=>ldI h29 b11 (0+3) .i64 fun t36=>ldI h29 b11 (0+4) .i64 fun t37=>ldI h29 b11 (0+5) .i64 fun t38=>ldI h29 b11 (0+6) .i64 fun t39 =>
 ldS h29 b27 0 fun t40=>ldI h29 b27 (0+1) .u8 fun t41=>ldI h29 b27 (0+2) .i64 fun t42=>ldI h29 b27 (0+3) .i64 fun t43=>ldI h29 b27 (0+4) .i64 fun t44=>ldI h29 b27 (0+5) .i64 fun t45=>ldI h29 b27 (0+6) .i64 fun t46 =>
 f39 (t33,t34,t35,t36,t37,t38,t39,()) (t40,t41,t42,t43,t44,t45,t46,()) (fun t47 h48 =>
 Zs t47 (
 Zf i fun found49 =>
 Xy t.ptr t.len i 1 fun b50 o51 =>
 st h48 b50 o51 (.bool true) fun h52 =>
 J15 (found49,IntKind.wrap .i64 (s25+1),()) h52) (
 J15 (found14,IntKind.wrap .i64 (s25+1),()) h48)) h29) (
 J15 (found14,IntKind.wrap .i64 (s25+1),()) h29)) (
 J15 (found14,IntKind.wrap .i64 (s25+1),()) h29)) (
 newC h17 [.int .i64 found14] 3 fun b53 h54 =>
 rdS ⟨some ⟨b53,0,none⟩,1,1⟩ 1 h54 fun new=>app 3 1 8 [.int .i64 0] l 1 new h54 fun t55 h56 =>
 J2 (t55,IntKind.wrap .i64 (s19+1),()) h56)) s16.1 s16.2.1) (found,0,()) h13) (
 K l h3)) s.1 s.2.1) (⟨none,0,0⟩,0,()) h1
def Zw:ZuQ:=Z8 Za6
abbrev Zry:=Int→Int→((Option Addr)→Int→HP)→HP
def Zfn (width:Int) (buckets:Int) (K:(Option Addr)→Int→HP) (h:Zd):Prop :=
 Zf 0 fun t =>
 Zs (decide (width<1)) (
 Zf 2 fun t1 =>
 K none t1 h) (
 Zs (decide (width>1099511627776)) (
 Zf 2 fun t2 =>
 K none t2 h) (
 Zs (decide (buckets<1)) (
 Zf 2 fun t3 =>
 K none t3 h) (
 ZE (decide (buckets>60)) fun t4 =>
 Zs t4 (
 Zf 2 fun t5 =>
 K none t5 h) (
 ZR (buckets≠0) <|
 ZE ((Int.tmod width buckets) !=0) fun t6 =>
 Zs t6 (
 Zf 6 fun t7 =>
 K none t7 h) (
 ZfP h fun b h8 =>
 newC h8 [.int .i64 width,.int .i64 buckets,.int .i64 0,.map (some b)] 242 fun b9 h10 =>
 Zf 0 fun t11 =>
 K (some ⟨b9,0,none⟩) t11 h10)))))
def Zbm:Zry:=Zfn
abbrev Zrx:=(Option Addr)→(HP)→HP
def ZaP (f41:Zry) (b:Option Addr) (K:HP) (h:Zd):Prop :=
 Zg b fun b1 o =>
 ldI h b1 (o+5) .i64 fun t =>
 f41 t 1 (fun t2 t3 h4 =>
 Zg b fun b5 o6 =>
 st h4 b5 (o6+7) (.pointer t2) fun h7 =>
 K h7) h
def YJ:Zrx:=ZaP Zbm
abbrev ZuP:=(ByteArray × Int × Int × Int × Int × Int × Int × Unit)→((Option Addr)→Int→HP)→HP
def ZeM (f25:ZrA) (f42:Zrx) (r:ByteArray × Int × Int × Int × Int × Int × Int × Unit) (K:(Option Addr)→Int→HP) (h:Zd):Prop :=
 newC h [.string r.1,.int .u8 r.2.1,.int .i64 r.2.2.1,.int .i64 r.2.2.2.1,.int .i64 r.2.2.2.2.1,.int .i64 r.2.2.2.2.2.1,.int .i64 r.2.2.2.2.2.2.1] 52 fun b h1 =>
 Zf 0 fun t =>
 ldS h1 b 0 fun t2=>ldI h1 b (0+1) .u8 fun t3=>ldI h1 b (0+2) .i64 fun t4=>ldI h1 b (0+3) .i64 fun t5=>ldI h1 b (0+4) .i64 fun t6=>ldI h1 b (0+5) .i64 fun t7=>ldI h1 b (0+6) .i64 fun t8 =>
 f25 (t2,t3,t4,t5,t6,t7,t8,()) (fun t9 h10 =>
 Zf t9 fun e =>
 Zs (e !=0) (
 Zf e fun t11 =>
 K none t11 h10) (
 ldS h10 b 0 fun t12=>ldI h10 b (0+1) .u8 fun t13=>ldI h10 b (0+2) .i64 fun t14=>ldI h10 b (0+3) .i64 fun t15=>ldI h10 b (0+4) .i64 fun t16=>ldI h10 b (0+5) .i64 fun t17=>ldI h10 b (0+6) .i64 fun t18 =>
 newC h10 [.string t12,.int .u8 t13,.int .i64 t14,.int .i64 t15,.int .i64 t16,.int .i64 t17,.int .i64 t18,.pointer none,.int .u8 1,.int .i64 0,.int .i64 0,.int .i64 0] 165 fun b19 h20 =>
 f42 (some ⟨b19,0,none⟩) (fun h21 =>
 Zf 0 fun t22 =>
 K (some ⟨b19,0,none⟩) t22 h21) h20)) h1
def Zcd:ZuP:=ZeM Xu YJ
abbrev ZuO:=Sl→Sl→(Bool→HP)→HP
def Zaf (s1:Sl) (s2:Sl) (K:Bool→HP) (h:Zd):Prop :=
 Zs ((s1.len:Int) !=(s2.len:Int)) (
 K false h) (
 YY (σ:=Int × Unit) (fun J1 s h2 =>
 (fun (s13:Int) =>
 Zs (decide (s13<(s1.len:Int))) (
 Zf s13 fun i =>
 Xy s1.ptr s1.len i 12 fun b o =>
 ldS h2 b o fun t=>ldS h2 b (o+1) fun t3=>ldB h2 b (o+2) fun t4=>ldI h2 b (o+3) .i64 fun t5=>ldI h2 b (o+4) .u8 fun t6=>ldS h2 b (o+5) fun t7=>ldI h2 b (o+6) .u8 fun t8=>ldI h2 b (o+7) .i64 fun t9=>ldI h2 b (o+8) .i64 fun t10=>ldB h2 b (o+9) fun t11=>ldI h2 b (o+10) .i64 fun t12=>ldB h2 b (o+11) fun t13 =>
 Xy s2.ptr s2.len i 12 fun b14 o15 =>
 ldS h2 b14 o15 fun t16=>ldS h2 b14 (o15+1) fun t17=>ldB h2 b14 (o15+2) fun t18=>ldI h2 b14 (o15+3) .i64 fun t19=>ldI h2 b14 (o15+4) .u8 fun t20=>ldS h2 b14 (o15+5) fun t21=>ldI h2 b14 (o15+6) .u8 fun t22=>ldI h2 b14 (o15+7) .i64 fun t23=>ldI h2 b14 (o15+8) .i64 fun t24=>ldB h2 b14 (o15+9) fun t25=>ldI h2 b14 (o15+10) .i64 fun t26=>ldB h2 b14 (o15+11) fun t27 =>
 Zs (!(bif XN t t16 then (bif XN t3 t17 then (bif t4 ==t18 then (bif t5 ==t19 then (bif t6 ==t20 then (bif XN t7 t21 then (bif t8 ==t22 then (bif t9 ==t23 then (bif t10 ==t24 then (bif t11 ==t25 then (bif t12 ==t26 then (bif t13 ==t27 then true else false) else false) else false) else false) else false) else false) else false) else false) else false) else false) else false) else false)) (
 K false h2) (
 J1 (IntKind.wrap .i64 (s13+1),()) h2)) (
 K true h2)) s.1) (0,()) h)
def Xi:ZuO:=Zaf
abbrev ZuN:=Sl→Sl→(Bool→HP)→HP
def XY (s1:Sl) (s2:Sl) (K:Bool→HP) (h:Zd):Prop :=
 Zs ((s1.len:Int) !=(s2.len:Int)) (
 K false h) (
 YY (σ:=Int × Unit) (fun J1 s h2 =>
 (fun (s13:Int) =>
 Zs (decide (s13<(s1.len:Int))) (
 Zf s13 fun i =>
 Xy s1.ptr s1.len i 7 fun b o =>
 ldS h2 b o fun t=>ldI h2 b (o+1) .u8 fun t3=>ldI h2 b (o+2) .i64 fun t4=>ldI h2 b (o+3) .i64 fun t5=>ldI h2 b (o+4) .i64 fun t6=>ldI h2 b (o+5) .i64 fun t7=>ldI h2 b (o+6) .i64 fun t8 =>
 Xy s2.ptr s2.len i 7 fun b9 o10 =>
 ldS h2 b9 o10 fun t11=>ldI h2 b9 (o10+1) .u8 fun t12=>ldI h2 b9 (o10+2) .i64 fun t13=>ldI h2 b9 (o10+3) .i64 fun t14=>ldI h2 b9 (o10+4) .i64 fun t15=>ldI h2 b9 (o10+5) .i64 fun t16=>ldI h2 b9 (o10+6) .i64 fun t17 =>
 Zs (!(bif XN t t11 then (bif t3 ==t12 then (bif t4 ==t13 then (bif t5 ==t14 then (bif t6 ==t15 then (bif t7 ==t16 then (bif t8 ==t17 then true else false) else false) else false) else false) else false) else false) else false)) (
 K false h2) (
 J1 (IntKind.wrap .i64 (s13+1),()) h2)) (
 K true h2)) s.1) (0,()) h)
def Y4:ZuN:=XY
abbrev ZuM:=Sl→Sl→(Bool→HP)→HP
def XL (s1:Sl) (s2:Sl) (K:Bool→HP) (h:Zd):Prop :=
 Zs ((s1.len:Int) !=(s2.len:Int)) (
 K false h) (
 YY (σ:=Int × Unit) (fun J1 s h2 =>
 (fun (s13:Int) =>
 Zs (decide (s13<(s1.len:Int))) (
 Zf s13 fun i =>
 Xy s1.ptr s1.len i 5 fun b o =>
 ldI h2 b o .i64 fun t=>ldI h2 b (o+1) .i64 fun t3=>ldI h2 b (o+2) .i64 fun t4=>ldI h2 b (o+3) .i64 fun t5=>ldI h2 b (o+4) .i64 fun t6 =>
 Xy s2.ptr s2.len i 5 fun b7 o8 =>
 ldI h2 b7 o8 .i64 fun t9=>ldI h2 b7 (o8+1) .i64 fun t10=>ldI h2 b7 (o8+2) .i64 fun t11=>ldI h2 b7 (o8+3) .i64 fun t12=>ldI h2 b7 (o8+4) .i64 fun t13 =>
 Zs (!(bif t ==t9 then (bif t3 ==t10 then (bif t4 ==t11 then (bif t5 ==t12 then (bif t6 ==t13 then true else false) else false) else false) else false) else false)) (
 K false h2) (
 J1 (IntKind.wrap .i64 (s13+1),()) h2)) (
 K true h2)) s.1) (0,()) h)
def YU:ZuM:=XL
abbrev ZuL:=Sl→Sl→(Bool→HP)→HP
def Zae (s1:Sl) (s2:Sl) (K:Bool→HP) (h:Zd):Prop :=
 Zs ((s1.len:Int) !=(s2.len:Int)) (
 K false h) (
 YY (σ:=Int × Unit) (fun J1 s h2 =>
 (fun (s13:Int) =>
 Zs (decide (s13<(s1.len:Int))) (
 Zf s13 fun i =>
 Xy s1.ptr s1.len i 2 fun b o =>
 ldS h2 b o fun t=>ldI h2 b (o+1) .i64 fun t3 =>
 Xy s2.ptr s2.len i 2 fun b4 o5 =>
 ldS h2 b4 o5 fun t6=>ldI h2 b4 (o5+1) .i64 fun t7 =>
 Zs (!(bif XN t t6 then (bif t3 ==t7 then true else false) else false)) (
 K false h2) (
 J1 (IntKind.wrap .i64 (s13+1),()) h2)) (
 K true h2)) s.1) (0,()) h)
def Xh:ZuL:=Zae
abbrev ZuK:=(ByteArray × Int × Int × Int × Sl × Unit)→(ByteArray × Int × Int × Int × Sl × Unit)→(Bool→HP)→HP
def Zfo (f47:ZuL) (a:ByteArray × Int × Int × Int × Sl × Unit) (b:ByteArray × Int × Int × Int × Sl × Unit) (K:Bool→HP) (h:Zd):Prop :=
 newC h [.string a.1,.int .i64 a.2.1,.int .i64 a.2.2.1,.int .i64 a.2.2.2.1,.slice a.2.2.2.2.1.ptr a.2.2.2.2.1.len a.2.2.2.2.1.cap] 134 fun b1 h2 =>
 newC h2 [.string b.1,.int .i64 b.2.1,.int .i64 b.2.2.1,.int .i64 b.2.2.2.1,.slice b.2.2.2.2.1.ptr b.2.2.2.2.1.len b.2.2.2.2.1.cap] 134 fun b3 h4 =>
 ldS h4 b1 0 fun t =>
 ldS h4 b3 0 fun t5 =>
 Zs (XN t t5) (
 ldI h4 b1 (0+1) .i64 fun t6 =>
 ldI h4 b3 (0+1) .i64 fun t7 =>
 Zs (t6 ==t7) (
 ldI h4 b1 (0+2) .i64 fun t8 =>
 ldI h4 b3 (0+2) .i64 fun t9 =>
 Zs (t8 ==t9) (
 ldI h4 b1 (0+3) .i64 fun t10 =>
 ldI h4 b3 (0+3) .i64 fun t11 =>
 Zs (t10 ==t11) (
 ldL h4 b1 (0+4) fun t12 =>
 ldL h4 b3 (0+4) fun t13 =>
 f47 t12 t13 (fun t14 h15 =>
 ZE t14 fun t16 =>
 K t16 h15) h4) (
 K false h4)) (
 K false h4)) (
 K false h4)) (
 K false h4)
def ZdH:ZuK:=Zfo Xh
abbrev ZuJ:=Sl→Sl→(Bool→HP)→HP
def Yi (f48:ZuK) (s1:Sl) (s2:Sl) (K:Bool→HP) (h:Zd):Prop :=
 Zs ((s1.len:Int) !=(s2.len:Int)) (
 K false h) (
 YY (σ:=Int × Unit) (fun J1 s h2 =>
 (fun (s17:Int) =>
 Zs (decide (s17<(s1.len:Int))) (
 Xy s1.ptr s1.len s17 5 fun b o =>
 ldS h2 b o fun t=>ldI h2 b (o+1) .i64 fun t3=>ldI h2 b (o+2) .i64 fun t4=>ldI h2 b (o+3) .i64 fun t5=>ldL h2 b (o+4) fun t6 =>
 newC h2 [.string (ByteArray.mk #[]),.int .i64 0,.int .i64 0,.int .i64 0,.slice none 0 0] 134 fun b7 h8 =>
 Zf s17 fun i =>
 sts h8 b7 0 [.string t,.int .i64 t3,.int .i64 t4,.int .i64 t5,.slice t6.ptr t6.len t6.cap] fun h9 =>
 Xy s2.ptr s2.len i 5 fun b10 o11 =>
 ldS h9 b10 o11 fun t12=>ldI h9 b10 (o11+1) .i64 fun t13=>ldI h9 b10 (o11+2) .i64 fun t14=>ldI h9 b10 (o11+3) .i64 fun t15=>ldL h9 b10 (o11+4) fun t16 =>
 newC h9 [.string (ByteArray.mk #[]),.int .i64 0,.int .i64 0,.int .i64 0,.slice none 0 0] 134 fun b17 h18 =>
 sts h18 b17 0 [.string t12,.int .i64 t13,.int .i64 t14,.int .i64 t15,.slice t16.ptr t16.len t16.cap] fun h19 =>
 ldS h19 b7 0 fun t20=>ldI h19 b7 (0+1) .i64 fun t21=>ldI h19 b7 (0+2) .i64 fun t22=>ldI h19 b7 (0+3) .i64 fun t23=>ldL h19 b7 (0+4) fun t24 =>
 ldS h19 b17 0 fun t25=>ldI h19 b17 (0+1) .i64 fun t26=>ldI h19 b17 (0+2) .i64 fun t27=>ldI h19 b17 (0+3) .i64 fun t28=>ldL h19 b17 (0+4) fun t29 =>
 f48 (t20,t21,t22,t23,t24,()) (t25,t26,t27,t28,t29,()) (fun t30 h31 =>
 Zs (!t30) (
 K false h31) (
 J1 (IntKind.wrap .i64 (s17+1),()) h31)) h19) (
 K true h2)) s.1) (0,()) h)
def ZT:ZuJ:=Yi ZdH
abbrev ZuI:=Sl→Sl→(Bool→HP)→HP
def Za1 (s1:Sl) (s2:Sl) (K:Bool→HP) (h:Zd):Prop :=
 Zs ((s1.len:Int) !=(s2.len:Int)) (
 K false h) (
 YY (σ:=Int × Unit) (fun J1 s h2 =>
 (fun (s13:Int) =>
 Zs (decide (s13<(s1.len:Int))) (
 Zf s13 fun i =>
 Xy s1.ptr s1.len i 1 fun b o =>
 ldS h2 b o fun t =>
 Xy s2.ptr s2.len i 1 fun b3 o4 =>
 ldS h2 b3 o4 fun t5 =>
 Zs (!(XN t t5)) (
 K false h2) (
 J1 (IntKind.wrap .i64 (s13+1),()) h2)) (
 K true h2)) s.1) (0,()) h)
def XF:ZuI:=Za1
abbrev ZuH:=(ByteArray × Bool × Sl × Unit)→(ByteArray × Bool × Sl × Unit)→(Bool→HP)→HP
def ZeW (f50:ZuI) (a:ByteArray × Bool × Sl × Unit) (b:ByteArray × Bool × Sl × Unit) (K:Bool→HP) (h:Zd):Prop :=
 newC h [.string a.1,.bool a.2.1,.slice a.2.2.1.ptr a.2.2.1.len a.2.2.1.cap] 160 fun b1 h2 =>
 newC h2 [.string b.1,.bool b.2.1,.slice b.2.2.1.ptr b.2.2.1.len b.2.2.1.cap] 160 fun b3 h4 =>
 ldS h4 b1 0 fun t =>
 ldS h4 b3 0 fun t5 =>
 Zs (XN t t5) (
 ldB h4 b1 (0+1) fun t6 =>
 ldB h4 b3 (0+1) fun t7 =>
 Zs (t6 ==t7) (
 ldL h4 b1 (0+2) fun t8 =>
 ldL h4 b3 (0+2) fun t9 =>
 f50 t8 t9 (fun t10 h11 =>
 ZE t10 fun t12 =>
 K t12 h11) h4) (
 K false h4)) (
 K false h4)
def Zc6:ZuH:=ZeW XF
abbrev ZuG:=Sl→Sl→(Bool→HP)→HP
def ZM (f51:ZuH) (s1:Sl) (s2:Sl) (K:Bool→HP) (h:Zd):Prop :=
 Zs ((s1.len:Int) !=(s2.len:Int)) (
 K false h) (
 YY (σ:=Int × Unit) (fun J1 s h2 =>
 (fun (s17:Int) =>
 Zs (decide (s17<(s1.len:Int))) (
 Xy s1.ptr s1.len s17 3 fun b o =>
 ldS h2 b o fun t=>ldB h2 b (o+1) fun t3=>ldL h2 b (o+2) fun t4 =>
 newC h2 [.string (ByteArray.mk #[]),.bool false,.slice none 0 0] 160 fun b5 h6 =>
 Zf s17 fun i =>
 sts h6 b5 0 [.string t,.bool t3,.slice t4.ptr t4.len t4.cap] fun h7 =>
 Xy s2.ptr s2.len i 3 fun b8 o9 =>
 ldS h7 b8 o9 fun t10=>ldB h7 b8 (o9+1) fun t11=>ldL h7 b8 (o9+2) fun t12 =>
 newC h7 [.string (ByteArray.mk #[]),.bool false,.slice none 0 0] 160 fun b13 h14 =>
 sts h14 b13 0 [.string t10,.bool t11,.slice t12.ptr t12.len t12.cap] fun h15 =>
 ldS h15 b5 0 fun t16=>ldB h15 b5 (0+1) fun t17=>ldL h15 b5 (0+2) fun t18 =>
 ldS h15 b13 0 fun t19=>ldB h15 b13 (0+1) fun t20=>ldL h15 b13 (0+2) fun t21 =>
 f51 (t16,t17,t18,()) (t19,t20,t21,()) (fun t22 h23 =>
 Zs (!t22) (
 K false h23) (
 J1 (IntKind.wrap .i64 (s17+1),()) h23)) h15) (
 K true h2)) s.1) (0,()) h)
def Zv:ZuG:=ZM Zc6
abbrev ZuF:=(Sl × Sl × Sl × Sl × Sl × Unit)→(Sl × Sl × Sl × Sl × Sl × Unit)→(Bool→HP)→HP
def Zhi (f44:ZuO) (f45:ZuN) (f46:ZuM) (f49:ZuJ) (f52:ZuG) (a:Sl × Sl × Sl × Sl × Sl × Unit) (b:Sl × Sl × Sl × Sl × Sl × Unit) (K:Bool→HP) (h:Zd):Prop :=
 newC h [.slice a.1.ptr a.1.len a.1.cap,.slice a.2.1.ptr a.2.1.len a.2.1.cap,.slice a.2.2.1.ptr a.2.2.1.len a.2.2.1.cap,.slice a.2.2.2.1.ptr a.2.2.2.1.len a.2.2.2.1.cap,.slice a.2.2.2.2.1.ptr a.2.2.2.2.1.len a.2.2.2.2.1.cap] 39 fun b1 h2 =>
 newC h2 [.slice b.1.ptr b.1.len b.1.cap,.slice b.2.1.ptr b.2.1.len b.2.1.cap,.slice b.2.2.1.ptr b.2.2.1.len b.2.2.1.cap,.slice b.2.2.2.1.ptr b.2.2.2.1.len b.2.2.2.1.cap,.slice b.2.2.2.2.1.ptr b.2.2.2.2.1.len b.2.2.2.2.1.cap] 39 fun b3 h4 =>
 ldL h4 b1 0 fun t =>
 ldL h4 b3 0 fun t5 =>
 f44 t t5 (fun t6 h7 =>
 Zs t6 (
 ldL h7 b1 (0+1) fun t8 =>
 ldL h7 b3 (0+1) fun t9 =>
 f45 t8 t9 (fun t10 h11 =>
 Zs t10 (
 ldL h11 b1 (0+3) fun t12 =>
 ldL h11 b3 (0+3) fun t13 =>
 f46 t12 t13 (fun t14 h15 =>
 Zs t14 (
 ldL h15 b1 (0+2) fun t16 =>
 ldL h15 b3 (0+2) fun t17 =>
 f49 t16 t17 (fun t18 h19 =>
 Zs t18 (
 ldL h19 b1 (0+4) fun t20 =>
 ldL h19 b3 (0+4) fun t21 =>
 f52 t20 t21 (fun t22 h23 =>
 ZE t22 fun t24 =>
 K t24 h23) h19) (
 K false h19)) h15) (
 K false h15)) h11) (
 K false h11)) h7) (
 K false h7)) h4
def Zfi:ZuF:=Zhi Xi Y4 YU ZT Zv
abbrev ZuE:=(ByteArray × Int × Int × Int × Sl × Unit)→(ByteArray × Int × Int × Int × Sl × Unit)→(Bool→HP)→HP
def Zct (f53:ZuF) (a:ByteArray × Int × Int × Int × Sl × Unit) (b:ByteArray × Int × Int × Int × Sl × Unit) (K:Bool→HP) (h:Zd):Prop :=
 newC h [.string a.1,.int .i64 a.2.1,.int .i64 a.2.2.1,.int .i64 a.2.2.2.1,.slice a.2.2.2.2.1.ptr a.2.2.2.2.1.len a.2.2.2.2.1.cap] 134 fun b1 h2 =>
 newC h2 [.string b.1,.int .i64 b.2.1,.int .i64 b.2.2.1,.int .i64 b.2.2.2.1,.slice b.2.2.2.2.1.ptr b.2.2.2.2.1.len b.2.2.2.2.1.cap] 134 fun b3 h4 =>
 ldS h4 b1 0 fun t=>ldI h4 b1 (0+1) .i64 fun t5=>ldI h4 b1 (0+2) .i64 fun t6=>ldI h4 b1 (0+3) .i64 fun t7=>ldL h4 b1 (0+4) fun t8 =>
 newC h4 [.string t,.int .i64 t5,.int .i64 t6,.int .i64 t7,.slice t8.ptr t8.len t8.cap] 134 fun b9 h10 =>
 ldS h10 b3 0 fun t11=>ldI h10 b3 (0+1) .i64 fun t12=>ldI h10 b3 (0+2) .i64 fun t13=>ldI h10 b3 (0+3) .i64 fun t14=>ldL h10 b3 (0+4) fun t15 =>
 newC h10 [.string t11,.int .i64 t12,.int .i64 t13,.int .i64 t14,.slice t15.ptr t15.len t15.cap] 134 fun b16 h17 =>
 f53 (⟨none,0,0⟩,⟨none,0,0⟩,⟨some ⟨b9,0,none⟩,1,1⟩,⟨none,0,0⟩,⟨none,0,0⟩,()) (⟨none,0,0⟩,⟨none,0,0⟩,⟨some ⟨b16,0,none⟩,1,1⟩,⟨none,0,0⟩,⟨none,0,0⟩,()) (fun t18 h19 =>
 ZE t18 fun t20 =>
 K t20 h19) h17
def Za5:ZuE:=Zct Zfi
abbrev ZuD:=Sl→Sl→(Sl→HP)→HP
def YD (f54:ZuE) (now:Sl) (was:Sl) (K:Sl→HP) (h:Zd):Prop :=
 mkS 4 1 [.bool false] (was.len:Int) (was.len:Int) h fun t h1 =>
 YY (σ:=Sl × Int × Unit) (fun J2 s h3 =>
 (fun (l:Sl) (s19:Int) =>
 Zs (decide (s19<(now.len:Int))) (
 Xy now.ptr now.len s19 5 fun b o =>
 ldS h3 b o fun t4=>ldI h3 b (o+1) .i64 fun t5=>ldI h3 b (o+2) .i64 fun t6=>ldI h3 b (o+3) .i64 fun t7=>ldL h3 b (o+4) fun t8 =>
 newC h3 [.string (ByteArray.mk #[]),.int .i64 0,.int .i64 0,.int .i64 0,.slice none 0 0] 134 fun b9 h10 =>
 sts h10 b9 0 [.string t4,.int .i64 t5,.int .i64 t6,.int .i64 t7,.slice t8.ptr t8.len t8.cap] fun h11 =>
 Zf (-1) fun found =>
 YY (σ:=Int × Int × Unit) (fun J13 s14 h15 =>
 (fun (found12:Int) (s25:Int) =>
 Zs (decide (s25<(was.len:Int))) (
 Xy was.ptr was.len s25 5 fun b16 o17 =>
 ldS h15 b16 o17 fun t18=>ldI h15 b16 (o17+1) .i64 fun t19=>ldI h15 b16 (o17+2) .i64 fun t20=>ldI h15 b16 (o17+3) .i64 fun t21=>ldL h15 b16 (o17+4) fun t22 =>
 newC h15 [.string (ByteArray.mk #[]),.int .i64 0,.int .i64 0,.int .i64 0,.slice none 0 0] 134 fun b23 h24 =>
 Zf s25 fun i =>
 sts h24 b23 0 [.string t18,.int .i64 t19,.int .i64 t20,.int .i64 t21,.slice t22.ptr t22.len t22.cap] fun h25 =>
 Zs (decide (found12<0)) (
 Xy t.ptr t.len i 1 fun b26 o27 =>
 ldB h25 b26 o27 fun t28 =>
 Zs (!t28) (
 ldS h25 b9 0 fun t29=>ldI h25 b9 (0+1) .i64 fun t30=>ldI h25 b9 (0+2) .i64 fun t31=>ldI h25 b9 (0+3) .i64 fun t32=>ldL h25 b9 (0+4) fun t33 =>
 ldS h25 b23 0 fun t34=>ldI h25 b23 (0+1) .i64 fun t35=>ldI h25 b23 (0+2) .i64 fun t36=>ldI h25 b23 (0+3) .i64 fun t37=>ldL h25 b23 (0+4) fun t38 =>
 f54 (t29,t30,t31,t32,t33,()) (t34,t35,t36,t37,t38,()) (fun t39 h40 =>
 Zs t39 (
 Zf i fun found41 =>
 Xy t.ptr t.len i 1 fun b42 o43 =>
 st h40 b42 o43 (.bool true) fun h44 =>
 J13 (found41,IntKind.wrap .i64 (s25+1),()) h44) (
 J13 (found12,IntKind.wrap .i64 (s25+1),()) h40)) h25) (
 J13 (found12,IntKind.wrap .i64 (s25+1),()) h25)) (
 J13 (found12,IntKind.wrap .i64 (s25+1),()) h25)) (
 newC h15 [.int .i64 found12] 3 fun b45 h46 =>
 rdS ⟨some ⟨b45,0,none⟩,1,1⟩ 1 h46 fun new=>app 3 1 8 [.int .i64 0] l 1 new h46 fun t47 h48 =>
 J2 (t47,IntKind.wrap .i64 (s19+1),()) h48)) s14.1 s14.2.1) (found,0,()) h11) (
 K l h3)) s.1 s.2.1) (⟨none,0,0⟩,0,()) h1
def ZW:ZuD:=YD Za5
abbrev ZuC:=(ByteArray × Int × Int × Int × Sl × Unit)→Int→Int→((Option Addr)→Int→HP)→HP
def Zif:ZuC:=fun _ _ _ _ _=>False
abbrev ZuB:=(Option Addr)→(Sl × Sl × Sl × Sl × Sl × Unit)→((Sl × Sl × Sl × Int × Unit)→HP)→HP
def Zap (f35:ZuV) (f38:ZuS) (f40:ZuQ) (f43:ZuP) (f55:ZuD) (f56:ZuC) (e:Option Addr) (was:Sl × Sl × Sl × Sl × Sl × Unit) (K:(Sl × Sl × Sl × Int × Unit)→HP) (h:Zd):Prop :=
 newC h [.slice was.1.ptr was.1.len was.1.cap,.slice was.2.1.ptr was.2.1.len was.2.1.cap,.slice was.2.2.1.ptr was.2.2.1.len was.2.2.1.cap,.slice was.2.2.2.1.ptr was.2.2.2.1.len was.2.2.2.1.cap,.slice was.2.2.2.2.1.ptr was.2.2.2.2.1.len was.2.2.2.2.1.cap] 39 fun b h1 =>
 newC h1 [.slice none 0 0,.slice none 0 0,.slice none 0 0,.int .i64 0] 78 fun b2 h3 =>
 Zg e fun b4 o =>
 ldL h3 b4 (o+8) fun t=>ldL h3 b4 (o+8+1) fun t5=>ldL h3 b4 (o+8+2) fun t6=>ldI h3 b4 (o+8+3) .i64 fun t7 =>
 newC h3 [.slice none 0 0,.slice none 0 0,.slice none 0 0,.int .i64 0] 78 fun b8 h9 =>
 sts h9 b8 0 [.slice t.ptr t.len t.cap,.slice t5.ptr t5.len t5.cap,.slice t6.ptr t6.len t6.cap,.int .i64 t7] fun h10 =>
 ldI h10 b8 (0+3) .i64 fun t11 =>
 newC h10 [.slice none 0 0,.slice none 0 0,.slice none 0 0,.int .i64 0] 78 fun b12 h13 =>
 sts h13 b12 0 [.slice none 0 0,.slice none 0 0,.slice none 0 0,.int .i64 t11] fun h14 =>
 Zg e fun b15 o16 =>
 ldL h14 b15 (o16+3) fun t17 =>
 ldL h14 b 0 fun t18 =>
 f35 t17 t18 (fun t19 h20 =>
 YY (σ:=Int × Unit) (fun J21 s h22 =>
 (fun (s34:Int) =>
 Zs (decide (s34<(t19.len:Int))) (
 Xy t19.ptr t19.len s34 1 fun b23 o24 =>
 ldI h22 b23 o24 .i64 fun t25 =>
 Zf s34 fun k =>
 Zf t25 fun i =>
 Zs (decide (i≥0)) (
 ldL h22 b12 0 fun t26 =>
 ldL h22 b8 0 fun t27 =>
 Xy t27.ptr t27.len i 2 fun b28 o29 =>
 ldP h22 b28 o29 fun t30=>ldP h22 b28 (o29+1) fun t31 =>
 newC h22 [.pointer t30,.pointer t31] 126 fun b32 h33 =>
 ZR (Zo h33 [(b8,0,.slice t27.ptr t27.len t27.cap)]) <|
 ZR (Zo h33 [(b12,0,.slice t26.ptr t26.len t26.cap)]) <|
 rdS ⟨some ⟨b32,0,none⟩,1,1⟩ 2 h33 fun new=>app 126 2 16 [.pointer none,.pointer none] t26 1 new h33 fun t34 h35 =>
 ZR (Zo h35 [(b8,0,.slice t27.ptr t27.len t27.cap)]) <|
 st h35 b12 0 (.slice t34.ptr t34.len t34.cap) fun h36 =>
 J21 (IntKind.wrap .i64 (s34+1),()) h36) (
 Zg e fun b37 o38 =>
 ldL h22 b12 0 fun t39 =>
 ldL h22 b37 (o38+3) fun t40 =>
 Xy t40.ptr t40.len k 12 fun b41 o42 =>
 ldS h22 b41 o42 fun t43=>ldS h22 b41 (o42+1) fun t44=>ldB h22 b41 (o42+2) fun t45=>ldI h22 b41 (o42+3) .i64 fun t46=>ldI h22 b41 (o42+4) .u8 fun t47=>ldS h22 b41 (o42+5) fun t48=>ldI h22 b41 (o42+6) .u8 fun t49=>ldI h22 b41 (o42+7) .i64 fun t50=>ldI h22 b41 (o42+8) .i64 fun t51=>ldB h22 b41 (o42+9) fun t52=>ldI h22 b41 (o42+10) .i64 fun t53=>ldB h22 b41 (o42+11) fun t54 =>
 f38 (t43,t44,t45,t46,t47,t48,t49,t50,t51,t52,t53,t54,()) (fun t55 h56 =>
 ZR (Zo h56 [(b37,o38+3,.slice t40.ptr t40.len t40.cap)]) <|
 ZR (Zo h56 [(b12,0,.slice t39.ptr t39.len t39.cap)]) <|
 newC h56 [.pointer t55.1,.pointer t55.2.1] 126 fun b57 h58 =>
 ZR (Zo h58 [(b37,o38+3,.slice t40.ptr t40.len t40.cap)]) <|
 ZR (Zo h58 [(b12,0,.slice t39.ptr t39.len t39.cap)]) <|
 rdS ⟨some ⟨b57,0,none⟩,1,1⟩ 2 h58 fun new61=>app 126 2 16 [.pointer none,.pointer none] t39 1 new61 h58 fun t59 h60 =>
 ZR (Zo h60 [(b37,o38+3,.slice t40.ptr t40.len t40.cap)]) <|
 st h60 b12 0 (.slice t59.ptr t59.len t59.cap) fun h62 =>
 J21 (IntKind.wrap .i64 (s34+1),()) h62) h22)) (
 Zg e fun b63 o64 =>
 ldL h22 b63 (o64+3+1) fun t65 =>
 ldL h22 b (0+1) fun t66 =>
 f40 t65 t66 (fun t67 h68 =>
 YY (σ:=Int × Unit) (fun J69 s70 h71 =>
 (fun (s75:Int) =>
 Zs (decide (s75<(t67.len:Int))) (
 Xy t67.ptr t67.len s75 1 fun b72 o73 =>
 ldI h71 b72 o73 .i64 fun t74 =>
 Zf s75 fun k75 =>
 Zf t74 fun i76 =>
 Zs (decide (i76≥0)) (
 ldL h71 b12 (0+1) fun t77 =>
 ldL h71 b8 (0+1) fun t78 =>
 Xy t78.ptr t78.len i76 2 fun b79 o80 =>
 ldP h71 b79 o80 fun t81=>ldI h71 b79 (o80+1) .i64 fun t82 =>
 newC h71 [.pointer t81,.int .i64 t82] 95 fun b83 h84 =>
 ZR (Zo h84 [(b8,0+1,.slice t78.ptr t78.len t78.cap)]) <|
 ZR (Zo h84 [(b12,0+1,.slice t77.ptr t77.len t77.cap)]) <|
 rdS ⟨some ⟨b83,0,none⟩,1,1⟩ 2 h84 fun new87=>app 95 2 16 [.pointer none,.int .i64 0] t77 1 new87 h84 fun t85 h86 =>
 ZR (Zo h86 [(b8,0+1,.slice t78.ptr t78.len t78.cap)]) <|
 st h86 b12 (0+1) (.slice t85.ptr t85.len t85.cap) fun h88 =>
 J69 (IntKind.wrap .i64 (s75+1),()) h88) (
 Zg e fun b89 o90 =>
 ldL h71 b89 (o90+3+1) fun t91 =>
 Xy t91.ptr t91.len k75 7 fun b92 o93 =>
 ldS h71 b92 o93 fun t94=>ldI h71 b92 (o93+1) .u8 fun t95=>ldI h71 b92 (o93+2) .i64 fun t96=>ldI h71 b92 (o93+3) .i64 fun t97=>ldI h71 b92 (o93+4) .i64 fun t98=>ldI h71 b92 (o93+5) .i64 fun t99=>ldI h71 b92 (o93+6) .i64 fun t100 =>
 f43 (t94,t95,t96,t97,t98,t99,t100,()) (fun t101 t102 h103 =>
 Zf t102 fun x =>
 ldI h103 b12 (0+3) .i64 fun t104 =>
 st h103 b12 (0+3) (.int .i64 (IntKind.wrap .i64 (t104+1))) fun h105 =>
 ldL h105 b12 (0+1) fun t106 =>
 ldI h105 b12 (0+3) .i64 fun t107 =>
 newC h105 [.pointer t101,.int .i64 t107] 95 fun b108 h109 =>
 rdS ⟨some ⟨b108,0,none⟩,1,1⟩ 2 h109 fun new112=>app 95 2 16 [.pointer none,.int .i64 0] t106 1 new112 h109 fun t110 h111 =>
 st h111 b12 (0+1) (.slice t110.ptr t110.len t110.cap) fun h113 =>
 J69 (IntKind.wrap .i64 (s75+1),()) h113) h71)) (
 Zg e fun b114 o115 =>
 ldL h71 b114 (o115+3+2) fun t116 =>
 ldL h71 b (0+2) fun t117 =>
 f55 t116 t117 (fun t118 h119 =>
 YY (σ:=Int × Unit) (fun J120 s121 h122 =>
 (fun (s128:Int) =>
 Zs (decide (s128<(t118.len:Int))) (
 Xy t118.ptr t118.len s128 1 fun b123 o124 =>
 ldI h122 b123 o124 .i64 fun t125 =>
 Zf s128 fun k126 =>
 Zf t125 fun i127 =>
 Zs (decide (i127≥0)) (
 ldL h122 b12 (0+2) fun t128 =>
 ldL h122 b8 (0+2) fun t129 =>
 Xy t129.ptr t129.len i127 1 fun b130 o131 =>
 ldP h122 b130 o131 fun t132 =>
 newC h122 [.pointer t132] 138 fun b133 h134 =>
 ZR (Zo h134 [(b8,0+2,.slice t129.ptr t129.len t129.cap)]) <|
 ZR (Zo h134 [(b12,0+2,.slice t128.ptr t128.len t128.cap)]) <|
 rdS ⟨some ⟨b133,0,none⟩,1,1⟩ 1 h134 fun new137=>app 138 1 8 [.pointer none] t128 1 new137 h134 fun t135 h136 =>
 ZR (Zo h136 [(b8,0+2,.slice t129.ptr t129.len t129.cap)]) <|
 st h136 b12 (0+2) (.slice t135.ptr t135.len t135.cap) fun h138 =>
 J120 (IntKind.wrap .i64 (s128+1),()) h138) (
 Zg e fun b139 o140 =>
 Zg e fun b141 o142 =>
 Zg e fun b143 o144 =>
 ldL h122 b139 (o140+3+2) fun t145 =>
 Xy t145.ptr t145.len k126 5 fun b146 o147 =>
 ldS h122 b146 o147 fun t148=>ldI h122 b146 (o147+1) .i64 fun t149=>ldI h122 b146 (o147+2) .i64 fun t150=>ldI h122 b146 (o147+3) .i64 fun t151=>ldL h122 b146 (o147+4) fun t152 =>
 ldI h122 b141 o142 .i64 fun t153 =>
 ldI h122 b143 (o144+1) .u64 fun t154 =>
 f56 (t148,t149,t150,t151,t152,()) t153 t154 (fun t155 t156 h157 =>
 ZR (Zo h157 [(b139,o140+3+2,.slice t145.ptr t145.len t145.cap)]) <|
 Zf t156 fun x158 =>
 ldL h157 b12 (0+2) fun t159 =>
 newC h157 [.pointer t155] 138 fun b160 h161 =>
 rdS ⟨some ⟨b160,0,none⟩,1,1⟩ 1 h161 fun new164=>app 138 1 8 [.pointer none] t159 1 new164 h161 fun t162 h163 =>
 st h163 b12 (0+2) (.slice t162.ptr t162.len t162.cap) fun h165 =>
 J120 (IntKind.wrap .i64 (s128+1),()) h165) h122)) (
 ldL h122 b12 0 fun t166=>ldL h122 b12 (0+1) fun t167=>ldL h122 b12 (0+2) fun t168=>ldI h122 b12 (0+3) .i64 fun t169 =>
 sts h122 b2 0 [.slice t166.ptr t166.len t166.cap,.slice t167.ptr t167.len t167.cap,.slice t168.ptr t168.len t168.cap,.int .i64 t169] fun h170 =>
 ldL h170 b2 0 fun t171=>ldL h170 b2 (0+1) fun t172=>ldL h170 b2 (0+2) fun t173=>ldI h170 b2 (0+3) .i64 fun t174=>K (t171,t172,t173,t174,()) h170)) s121.1) (0,()) h119) h71)) s70.1) (0,()) h68) h22)) s.1) (0,()) h20) h14
def YS:ZuB:=Zap ZV Zaz Zw Zcd ZW Zif
abbrev Zrw:=(Option Addr)→(Sl × Sl × Sl × Sl × Sl × Unit)→(Int→HP)→HP
def ZaL (f32:ZuY) (f33:ZuX) (f57:ZuB) (e:Option Addr) (r:Sl × Sl × Sl × Sl × Sl × Unit) (K:Int→HP) (h:Zd):Prop :=
 newC h [.slice r.1.ptr r.1.len r.1.cap,.slice r.2.1.ptr r.2.1.len r.2.1.cap,.slice r.2.2.1.ptr r.2.2.1.len r.2.2.1.cap,.slice r.2.2.2.1.ptr r.2.2.2.1.len r.2.2.2.1.cap,.slice r.2.2.2.2.1.ptr r.2.2.2.2.1.len r.2.2.2.2.1.cap] 39 fun b h1 =>
 Zf 0 fun t =>
 Zs e.isNone (
 Zf 1 fun t2 =>
 K t2 h1) (
 Zg e fun b3 o =>
 ldP h1 b3 (o+2) fun t4 =>
 ldL h1 b 0 fun t5=>ldL h1 b (0+1) fun t6=>ldL h1 b (0+2) fun t7=>ldL h1 b (0+3) fun t8=>ldL h1 b (0+4) fun t9 =>
 f32 t4 (t5,t6,t7,t8,t9,()) (fun t10 h11 =>
 Zf t10 fun err =>
 Zs (err !=0) (
 Zf err fun t12 =>
 K t12 h11) (
 Zg e fun b13 o14 =>
 ldL h11 b13 (o14+3) fun t15=>ldL h11 b13 (o14+3+1) fun t16=>ldL h11 b13 (o14+3+2) fun t17=>ldL h11 b13 (o14+3+3) fun t18=>ldL h11 b13 (o14+3+4) fun t19 =>
 newC h11 [.slice none 0 0,.slice none 0 0,.slice none 0 0,.slice none 0 0,.slice none 0 0] 39 fun b20 h21 =>
 sts h21 b20 0 [.slice t15.ptr t15.len t15.cap,.slice t16.ptr t16.len t16.cap,.slice t17.ptr t17.len t17.cap,.slice t18.ptr t18.len t18.cap,.slice t19.ptr t19.len t19.cap] fun h22 =>
 Zg e fun b23 o24 =>
 ldP h22 b23 (o24+2) fun t25 =>
 f33 t25 (fun t26 t27 h28 =>
 Zg e fun b29 o30 =>
 sts h28 b29 (o30+3) [.slice t26.1.ptr t26.1.len t26.1.cap,.slice t26.2.1.ptr t26.2.1.len t26.2.1.cap,.slice t26.2.2.1.ptr t26.2.2.1.len t26.2.2.1.cap,.slice t26.2.2.2.1.ptr t26.2.2.2.1.len t26.2.2.2.1.cap,.slice t26.2.2.2.2.1.ptr t26.2.2.2.2.1.len t26.2.2.2.2.1.cap] fun h31 =>
 Zg e fun b32 o33 =>
 ldL h31 b20 0 fun t34=>ldL h31 b20 (0+1) fun t35=>ldL h31 b20 (0+2) fun t36=>ldL h31 b20 (0+3) fun t37=>ldL h31 b20 (0+4) fun t38 =>
 f57 (some ⟨b32,o33,none⟩) (t34,t35,t36,t37,t38,()) (fun t39 h40 =>
 Zg e fun b41 o42 =>
 sts h40 b41 (o42+8) [.slice t39.1.ptr t39.1.len t39.1.cap,.slice t39.2.1.ptr t39.2.1.len t39.2.1.cap,.slice t39.2.2.1.ptr t39.2.2.1.len t39.2.2.1.cap,.int .i64 t39.2.2.2.1] fun h43 =>
 Zf 0 fun t44 =>
 K t44 h43) h31) h22)) h1)
def YC:Zrw:=ZaL Zac ZaA YS
abbrev ZkQ:=(Int × ByteArray × ByteArray × ByteArray × Bool × Int × Sl × Unit)→(Sl→Int→HP)→HP
def Zf6 (f5:zT5) (c:Int × ByteArray × ByteArray × ByteArray × Bool × Int × Sl × Unit) (K:Sl→Int→HP) (h:Zd):Prop :=
 newC h [.int .i64 c.1,.string c.2.1,.string c.2.2.1,.string c.2.2.2.1,.bool c.2.2.2.2.1,.int .i64 c.2.2.2.2.2.1,.slice c.2.2.2.2.2.2.1.ptr c.2.2.2.2.2.2.1.len c.2.2.2.2.2.2.1.cap] 47 fun b h1 =>
 Zf 0 fun t =>
 Zg7 (σ:=Unit) (fun s h16 =>
 ldS h16 b (0+2) fun t17 =>
 ldS h16 b (0+1) fun t18 =>
 ldS h16 b (0+1) fun t19 =>
 newC h16 [.int .u8 3,.string t17,.string t18,.string (ByteArray.mk #[]),.int .u8 4,.string (ByteArray.mk #[]),.string t19,.string (ByteArray.mk #[])] 102 fun b20 h21 =>
 Zg7 (σ:=Sl × Unit) (fun s30 h31 =>
 (fun (l:Sl) =>
 ldS h31 b (0+2) fun t32 =>
 newC h31 [.int .u8 2,.string t32,.string (ByteArray.mk #[]),.string (ByteArray.mk #[])] 102 fun b33 h34 =>
 rdS ⟨some ⟨b33,0,none⟩,1,1⟩ 4 h34 fun new37=>app 102 4 56 [.int .u8 0,.string (ByteArray.mk #[]),.string (ByteArray.mk #[]),.string (ByteArray.mk #[])] l 1 new37 h34 fun t35 h36 =>
 ldB h36 b (0+4) fun t38 =>
 Zs t38 (
 newC h36 [.int .u8 1,.string (ByteArray.mk #[]),.string (ByteArray.mk #[]),.string (ByteArray.mk #[])] 102 fun b39 h40 =>
 rdS ⟨some ⟨b39,0,none⟩,1,1⟩ 4 h40 fun new43=>app 102 4 56 [.int .u8 0,.string (ByteArray.mk #[]),.string (ByteArray.mk #[]),.string (ByteArray.mk #[])] t35 1 new43 h40 fun t41 h42 =>
 Zf 0 fun t44 =>
 K t41 t44 h42) (
 Zf 0 fun t45 =>
 K t35 t45 h36)) s30.1) (fun J22 =>
 ldS h21 b (0+3) fun t23 =>
 Zs (!(XN t23 (ByteArray.mk #[]))) (
 ldS h21 b (0+1) fun t24 =>
 ldS h21 b (0+3) fun t25 =>
 newC h21 [.int .u8 5,.string (ByteArray.mk #[]),.string t24,.string t25] 102 fun b26 h27 =>
 rdS ⟨some ⟨b26,0,none⟩,1,1⟩ 4 h27 fun new=>app 102 4 56 [.int .u8 0,.string (ByteArray.mk #[]),.string (ByteArray.mk #[]),.string (ByteArray.mk #[])] ⟨some ⟨b20,0,none⟩,2,2⟩ 1 new h27 fun t28 h29 =>
 J22 (t28,()) h29) (
 J22 (⟨some ⟨b20,0,none⟩,2,2⟩,()) h21))) (fun J2 =>
 ldS h1 b (0+1) fun t3 =>
 f5 t3 (fun t4 h5 =>
 Zs (!t4) (
 Zf 10 fun t6 =>
 K ⟨none,0,0⟩ t6 h5) (
 ldS h5 b (0+2) fun t7 =>
 f5 t7 (fun t8 h9 =>
 Zs (!t8) (
 Zf 10 fun t10 =>
 K ⟨none,0,0⟩ t10 h9) (
 ldS h9 b (0+3) fun t11 =>
 Zs (!(XN t11 (ByteArray.mk #[]))) (
 ldS h9 b (0+3) fun t12 =>
 f5 t12 (fun t13 h14 =>
 Zs (!t13) (
 Zf 10 fun t15 =>
 K ⟨none,0,0⟩ t15 h14) (
 J2 (()) h14)) h9) (
 J2 (()) h9))) h5)) h1)
def Xd:ZkQ:=Zf6 Xt
abbrev ZuA:=ByteArray→(Bool→HP)→HP
def Za9 (s:ByteArray) (K:Bool→HP) (h:Zd):Prop :=
 ZE (decide ((s.size:Int)>64)) fun t =>
 K t h
def XZ:ZuA:=Za9
abbrev Zuz:=Sl→(Int→HP)→HP
def Yc (f60:ZuA) (s:Sl) (K:Int→HP) (h:Zd):Prop :=
 Zf 0 fun t =>
 YY (σ:=Int × Unit) (fun J1 s2 h3 =>
 (fun (s8:Int) =>
 Zs (decide (s8<(s.len:Int))) (
 Zf s8 fun i =>
 Xy s.ptr s.len i 1 fun b o =>
 ldS h3 b o fun t4 =>
 f60 t4 (fun t5 h6 =>
 Zs t5 (
 Zf i fun t7 =>
 K t7 h6) (
 J1 (IntKind.wrap .i64 (s8+1),()) h6)) h3) (
 Zf (-1) fun t8 =>
 K t8 h3)) s2.1) (0,()) h
def ZP:Zuz:=Yc XZ
abbrev Zuy:=Sl→(Bool→HP)→HP
def Z5 (f61:Zuz) (s:Sl) (K:Bool→HP) (h:Zd):Prop :=
 f61 s (fun t h1 =>
 ZE (decide (t≥0)) fun t2 =>
 K t2 h1) h
def Zy:Zuy:=Z5 ZP
abbrev Zoa:=(Option Addr)→Sl→(Int→HP)→HP
def Zch (n:Option Addr) (l:Sl) (K:Int→HP) (h:Zd):Prop :=
 Zf 0 fun t =>
 ZfP h fun b h1 =>
 YY (σ:=Int × Unit) (fun J2 s h3 =>
 (fun (s11:Int) =>
 Zs (decide (s11<(l.len:Int))) (
 Xy l.ptr l.len s11 4 fun b4 o =>
 ldI h3 b4 o .u8 fun t5=>ldS h3 b4 (o+1) fun t6=>ldS h3 b4 (o+2) fun t7=>ldS h3 b4 (o+3) fun t8 =>
 newC h3 [.int .u8 0,.string (ByteArray.mk #[]),.string (ByteArray.mk #[]),.string (ByteArray.mk #[])] 102 fun b9 h10 =>
 sts h10 b9 0 [.int .u8 t5,.string t6,.string t7,.string t8] fun h11 =>
 Zg n fun b12 o13 =>
 ldM h11 b12 o13 fun t14 =>
 ldI h11 b9 0 .u8 fun t15=>ldS h11 b9 (0+1) fun t16=>ldS h11 b9 (0+2) fun t17=>ldS h11 b9 (0+3) fun t18 =>
 ZbZ [(.int .u8),.string,.string,.string] h11 t14 [.int .u8 t15,.string t16,.string t17,.string t18] fun r=>asP (r.getD (.pointer none)) fun t19 =>
 Zs t19.isNone (
 ldI h11 b9 0 .u8 fun t20=>ldS h11 b9 (0+1) fun t21=>ldS h11 b9 (0+2) fun t22=>ldS h11 b9 (0+3) fun t23 =>
 ZgY [(.int .u8),.string,.string,.string] h11 (some b) [.int .u8 t20,.string t21,.string t22,.string t23] (.bool true) fun h24 =>
 J2 (IntKind.wrap .i64 (s11+1),()) h24) (
 J2 (IntKind.wrap .i64 (s11+1),()) h11)) (
 Zwc h3 (some b) fun t25 =>
 Zf t25 fun t26 =>
 K t26 h3)) s.1) (0,()) h1
def Yy:Zoa:=Zch
abbrev Zux:=((Option Addr)→HP)→HP
def Zg5 (f41:Zry) (K:(Option Addr)→HP) (h:Zd):Prop :=
 f41 1000000 10 (fun t t1 h2 =>
 Zf t1 fun x =>
 f41 2000000 2 (fun t3 t4 h5 =>
 Zf t4 fun x6 =>
 newC h5 [.pointer t,.pointer t3,.int .i64 0] 179 fun b h7 =>
 K (some ⟨b,0,none⟩) h7) h2) h
def Zem:Zux:=Zg5 Zbm
abbrev Zn9:=(Option Addr)→(Int × ByteArray × ByteArray × ByteArray × Unit)→(HP)→HP
def Zcg (f64:Zux) (n:Option Addr) (k:Int × ByteArray × ByteArray × ByteArray × Unit) (K:HP) (h:Zd):Prop :=
 newC h [.int .u8 k.1,.string k.2.1,.string k.2.2.1,.string k.2.2.2.1] 102 fun b h1 =>
 Zg n fun b2 o =>
 ldM h1 b2 o fun t =>
 ldI h1 b 0 .u8 fun t3=>ldS h1 b (0+1) fun t4=>ldS h1 b (0+2) fun t5=>ldS h1 b (0+3) fun t6 =>
 ZbZ [(.int .u8),.string,.string,.string] h1 t [.int .u8 t3,.string t4,.string t5,.string t6] fun r=>asP (r.getD (.pointer none)) fun t7 =>
 Zs t7.isNone (
 Zg n fun b8 o9 =>
 ldM h1 b8 o9 fun t10 =>
 ldI h1 b 0 .u8 fun t11=>ldS h1 b (0+1) fun t12=>ldS h1 b (0+2) fun t13=>ldS h1 b (0+3) fun t14 =>
 f64 (fun t15 h16 =>
 ZR (Zo h16 [(b,0,.int .u8 t11),(b,0+1,.string t12),(b,0+2,.string t13),(b,0+3,.string t14)]) <|
 ZR (Zo h16 [(b8,o9,.map t10)]) <|
 ZgY [(.int .u8),.string,.string,.string] h16 t10 [.int .u8 t11,.string t12,.string t13,.string t14] (.pointer t15) fun h17 =>
 Zg n fun b18 o19 =>
 ldL h17 b18 (o19+1) fun t20 =>
 ldI h17 b 0 .u8 fun t21=>ldS h17 b (0+1) fun t22=>ldS h17 b (0+2) fun t23=>ldS h17 b (0+3) fun t24 =>
 newC h17 [.int .u8 t21,.string t22,.string t23,.string t24] 102 fun b25 h26 =>
 ZR (Zo h26 [(b18,o19+1,.slice t20.ptr t20.len t20.cap)]) <|
 rdS ⟨some ⟨b25,0,none⟩,1,1⟩ 4 h26 fun new=>app 102 4 56 [.int .u8 0,.string (ByteArray.mk #[]),.string (ByteArray.mk #[]),.string (ByteArray.mk #[])] t20 1 new h26 fun t27 h28 =>
 Zg n fun b29 o30 =>
 st h28 b29 (o30+1) (.slice t27.ptr t27.len t27.cap) fun h31 =>
 K h31) h1) (
 K h1)
def Yx:Zn9:=Zcg Zem
abbrev Zuw:=(Option Addr)→Sl→(Int→HP)→HP
def ZcA (f59:ZkQ) (f63:Zoa) (f65:Zn9) (t:Option Addr) (calls:Sl) (K:Int→HP) (h:Zd):Prop :=
 Zf 0 fun t1 =>
 Zs t.isNone (
 Zf 1 fun t2 =>
 K t2 h) (
 YY (σ:=Sl × Int × Unit) (fun J3 s h4 =>
 (fun (all:Sl) (s16:Int) =>
 Zs (decide (s16<(calls.len:Int))) (
 Xy calls.ptr calls.len s16 7 fun b o =>
 ldI h4 b o .i64 fun t5=>ldS h4 b (o+1) fun t6=>ldS h4 b (o+2) fun t7=>ldS h4 b (o+3) fun t8=>ldB h4 b (o+4) fun t9=>ldI h4 b (o+5) .i64 fun t10=>ldL h4 b (o+6) fun t11 =>
 newC h4 [.int .i64 0,.string (ByteArray.mk #[]),.string (ByteArray.mk #[]),.string (ByteArray.mk #[]),.bool false,.int .i64 0,.slice none 0 0] 47 fun b12 h13 =>
 sts h13 b12 0 [.int .i64 t5,.string t6,.string t7,.string t8,.bool t9,.int .i64 t10,.slice t11.ptr t11.len t11.cap] fun h14 =>
 ldI h14 b12 0 .i64 fun t15=>ldS h14 b12 (0+1) fun t16=>ldS h14 b12 (0+2) fun t17=>ldS h14 b12 (0+3) fun t18=>ldB h14 b12 (0+4) fun t19=>ldI h14 b12 (0+5) .i64 fun t20=>ldL h14 b12 (0+6) fun t21 =>
 f59 (t15,t16,t17,t18,t19,t20,t21,()) (fun t22 t23 h24 =>
 Zf t23 fun e =>
 Zs (e !=0) (
 Zf e fun t25 =>
 K t25 h24) (
 rdS t22 4 h24 fun new=>app 102 4 56 [.int .u8 0,.string (ByteArray.mk #[]),.string (ByteArray.mk #[]),.string (ByteArray.mk #[])] all t22.len new h24 fun t26 h27 =>
 J3 (t26,IntKind.wrap .i64 (s16+1),()) h27)) h14) (
 Zg t fun b28 o29 =>
 Zg t fun b30 o31 =>
 ldL h4 b30 (o31+1) fun t32 =>
 f63 (some ⟨b28,o29,none⟩) all (fun t33 h34 =>
 ZR (Zo h34 [(b30,o31+1,.slice t32.ptr t32.len t32.cap)]) <|
 Zs (decide (t33>(IntKind.wrap .i64 ((512:Int) - (t32.len:Int))))) (
 Zf 3 fun t35 =>
 K t35 h34) (
 YY (σ:=Int × Unit) (fun J36 s37 h38 =>
 (fun (s47:Int) =>
 Zs (decide (s47<(all.len:Int))) (
 Xy all.ptr all.len s47 4 fun b39 o40 =>
 ldI h38 b39 o40 .u8 fun t41=>ldS h38 b39 (o40+1) fun t42=>ldS h38 b39 (o40+2) fun t43=>ldS h38 b39 (o40+3) fun t44 =>
 newC h38 [.int .u8 0,.string (ByteArray.mk #[]),.string (ByteArray.mk #[]),.string (ByteArray.mk #[])] 102 fun b45 h46 =>
 sts h46 b45 0 [.int .u8 t41,.string t42,.string t43,.string t44] fun h47 =>
 Zg t fun b48 o49 =>
 ldI h47 b45 0 .u8 fun t50=>ldS h47 b45 (0+1) fun t51=>ldS h47 b45 (0+2) fun t52=>ldS h47 b45 (0+3) fun t53 =>
 f65 (some ⟨b48,o49,none⟩) (t50,t51,t52,t53,()) (fun h54 =>
 J36 (IntKind.wrap .i64 (s47+1),()) h54) h47) (
 Zf 0 fun t55 =>
 K t55 h38)) s37.1) (0,()) h34)) h4)) s.1 s.2.1) (⟨none,0,0⟩,0,()) h)
def Zat:Zuw:=ZcA Xd Yy Yx
abbrev Zuv:=(Option Addr)→(Int × ByteArray × ByteArray × ByteArray × Bool × Int × Sl × Unit)→(Int→HP)→HP
def Zao (f59:ZkQ) (f62:Zuy) (f66:Zuw) (e:Option Addr) (c:Int × ByteArray × ByteArray × ByteArray × Bool × Int × Sl × Unit) (K:Int→HP) (h:Zd):Prop :=
 newC h [.int .i64 c.1,.string c.2.1,.string c.2.2.1,.string c.2.2.2.1,.bool c.2.2.2.2.1,.int .i64 c.2.2.2.2.2.1,.slice c.2.2.2.2.2.2.1.ptr c.2.2.2.2.2.2.1.len c.2.2.2.2.2.2.1.cap] 47 fun b h1 =>
 Zf 0 fun t =>
 ldI h1 b 0 .i64 fun t2=>ldS h1 b (0+1) fun t3=>ldS h1 b (0+2) fun t4=>ldS h1 b (0+3) fun t5=>ldB h1 b (0+4) fun t6=>ldI h1 b (0+5) .i64 fun t7=>ldL h1 b (0+6) fun t8 =>
 f59 (t2,t3,t4,t5,t6,t7,t8,()) (fun t9 t10 h11 =>
 Zf t10 fun err =>
 Zs (err !=0) (
 Zf err fun t12 =>
 K t12 h11) (
 ldI h11 b 0 .i64 fun t13 =>
 Zs (decide (t13<0)) (
 Zf 2 fun t14 =>
 K t14 h11) (
 ldI h11 b 0 .i64 fun t15 =>
 Zs (decide (t15>1152921504606846976)) (
 Zf 2 fun t16 =>
 K t16 h11) (
 ldI h11 b (0+5) .i64 fun t17 =>
 Zs (decide (t17<1)) (
 Zf 2 fun t18 =>
 K t18 h11) (
 ldI h11 b (0+5) .i64 fun t19 =>
 ZE (decide (t19>1099511627776)) fun t20 =>
 Zs t20 (
 Zf 2 fun t21 =>
 K t21 h11) (
 ldL h11 b (0+6) fun t22 =>
 Zs (decide ((t22.len:Int)>8)) (
 Zf 5 fun t23 =>
 K t23 h11) (
 ldL h11 b (0+6) fun t24 =>
 f62 t24 (fun t25 h26 =>
 ZE t25 fun t27 =>
 Zs t27 (
 Zf 5 fun t28 =>
 K t28 h26) (
 ldI h26 b 0 .i64 fun t29 =>
 Zg e fun b30 o =>
 ldI h26 b30 (o+18) .i64 fun t31 =>
 ZE (decide (t29<t31)) fun t32 =>
 Zs t32 (
 Zf 7 fun t33 =>
 K t33 h26) (
 Zg e fun b34 o35 =>
 ldI h26 b34 (o35+16) .i64 fun t36 =>
 ZE (decide (t36≥4096)) fun t37 =>
 Zs t37 (
 Zf 3 fun t38 =>
 K t38 h26) (
 Zg e fun b39 o40 =>
 ldP h26 b39 (o40+12) fun t41 =>
 ldI h26 b 0 .i64 fun t42=>ldS h26 b (0+1) fun t43=>ldS h26 b (0+2) fun t44=>ldS h26 b (0+3) fun t45=>ldB h26 b (0+4) fun t46=>ldI h26 b (0+5) .i64 fun t47=>ldL h26 b (0+6) fun t48 =>
 newC h26 [.int .i64 t42,.string t43,.string t44,.string t45,.bool t46,.int .i64 t47,.slice t48.ptr t48.len t48.cap] 47 fun b49 h50 =>
 ZR (Zo h50 [(b39,o40+12,.pointer t41)]) <|
 f66 t41 ⟨some ⟨b49,0,none⟩,1,1⟩ (fun t51 h52 =>
 Zf t51 fun t53 =>
 K t53 h52) h50)))) h11))))))) h1
def YR:Zuv:=Zao Xd Zy Zat
abbrev Zuu:=Int→ByteArray→(Option Addr)→(Option Addr)→(HP)→HP
def Zfp (i:Int) (of:ByteArray) (a2:Option Addr) (a3:Option Addr) (K:HP) (h:Zd):Prop :=
 Zg a2 fun b o=>ldS h b o fun t =>
 Zs (XN of t) (
 Zg a3 fun b1 o2=>ldL h b1 o2 fun t3 =>
 newC h [.int .i64 i] 3 fun b4 h5 =>
 rdS ⟨some ⟨b4,0,none⟩,1,1⟩ 1 h5 fun new=>app 3 1 8 [.int .i64 0] t3 1 new h5 fun t6 h7 =>
 Zg a3 fun b8 o9=>st h7 b8 o9 (.slice t6.ptr t6.len t6.cap) fun h10 =>
 K h10) (
 K h)
def ZdV:Zuu:=Zfp
abbrev ZkP:=(Sl × Sl × Sl × Sl × Sl × Unit)→Int→ByteArray→(Sl→HP)→HP
def Zeo (f68:Zuu) (r:Sl × Sl × Sl × Sl × Sl × Unit) (kind:Int) (resource:ByteArray) (K:Sl→HP) (h:Zd):Prop :=
 newC h [.slice r.1.ptr r.1.len r.1.cap,.slice r.2.1.ptr r.2.1.len r.2.1.cap,.slice r.2.2.1.ptr r.2.2.1.len r.2.2.1.cap,.slice r.2.2.2.1.ptr r.2.2.2.1.len r.2.2.2.1.cap,.slice r.2.2.2.2.1.ptr r.2.2.2.2.1.len r.2.2.2.2.1.cap] 39 fun b h1 =>
 newC h1 [.string resource] 9 fun b2 h3 =>
 newC h3 [.slice none 0 0] 85 fun b4 h5 =>
 ZE (kind ==1) fun t =>
 Zs t (
 ldL h5 b 0 fun t6 =>
 YY (σ:=Int × Unit) (fun J7 s h8 =>
 (fun (s25:Int) =>
 Zs (decide (s25<(t6.len:Int))) (
 Xy t6.ptr t6.len s25 12 fun b9 o =>
 ldS h8 b9 o fun t10=>ldS h8 b9 (o+1) fun t11=>ldB h8 b9 (o+2) fun t12=>ldI h8 b9 (o+3) .i64 fun t13=>ldI h8 b9 (o+4) .u8 fun t14=>ldS h8 b9 (o+5) fun t15=>ldI h8 b9 (o+6) .u8 fun t16=>ldI h8 b9 (o+7) .i64 fun t17=>ldI h8 b9 (o+8) .i64 fun t18=>ldB h8 b9 (o+9) fun t19=>ldI h8 b9 (o+10) .i64 fun t20=>ldB h8 b9 (o+11) fun t21 =>
 newC h8 [.string (ByteArray.mk #[]),.string (ByteArray.mk #[]),.bool false,.int .i64 0,.int .u8 0,.string (ByteArray.mk #[]),.int .u8 0,.int .i64 0,.int .i64 0,.bool false,.int .i64 0,.bool false] 32 fun b22 h23 =>
 Zf s25 fun i =>
 sts h23 b22 0 [.string t10,.string t11,.bool t12,.int .i64 t13,.int .u8 t14,.string t15,.int .u8 t16,.int .i64 t17,.int .i64 t18,.bool t19,.int .i64 t20,.bool t21] fun h24 =>
 ldS h24 b22 0 fun t25 =>
 f68 i t25 (some ⟨b2,0,none⟩) (some ⟨b4,0,none⟩) (fun h26 =>
 J7 (IntKind.wrap .i64 (s25+1),()) h26) h24) (
 ldL h8 b4 0 fun t27 =>
 K t27 h8)) s.1) (0,()) h5) (
 ZE (kind ==2) fun t28 =>
 Zs t28 (
 ldL h5 b (0+1) fun t29 =>
 YY (σ:=Int × Unit) (fun J30 s31 h32 =>
 (fun (s41:Int) =>
 Zs (decide (s41<(t29.len:Int))) (
 Xy t29.ptr t29.len s41 7 fun b33 o34 =>
 ldS h32 b33 o34 fun t35=>ldI h32 b33 (o34+1) .u8 fun t36=>ldI h32 b33 (o34+2) .i64 fun t37=>ldI h32 b33 (o34+3) .i64 fun t38=>ldI h32 b33 (o34+4) .i64 fun t39=>ldI h32 b33 (o34+5) .i64 fun t40=>ldI h32 b33 (o34+6) .i64 fun t41 =>
 newC h32 [.string (ByteArray.mk #[]),.int .u8 0,.int .i64 0,.int .i64 0,.int .i64 0,.int .i64 0,.int .i64 0] 52 fun b42 h43 =>
 Zf s41 fun i44 =>
 sts h43 b42 0 [.string t35,.int .u8 t36,.int .i64 t37,.int .i64 t38,.int .i64 t39,.int .i64 t40,.int .i64 t41] fun h45 =>
 ldS h45 b42 0 fun t46 =>
 f68 i44 t46 (some ⟨b2,0,none⟩) (some ⟨b4,0,none⟩) (fun h47 =>
 J30 (IntKind.wrap .i64 (s41+1),()) h47) h45) (
 ldL h32 b4 0 fun t48 =>
 K t48 h32)) s31.1) (0,()) h5) (
 ZE (kind ==3) fun t49 =>
 Zs t49 (
 ldL h5 b (0+2) fun t50 =>
 YY (σ:=Int × Unit) (fun J51 s52 h53 =>
 (fun (s57:Int) =>
 Zs (decide (s57<(t50.len:Int))) (
 Xy t50.ptr t50.len s57 5 fun b54 o55 =>
 ldS h53 b54 o55 fun t56=>ldI h53 b54 (o55+1) .i64 fun t57=>ldI h53 b54 (o55+2) .i64 fun t58=>ldI h53 b54 (o55+3) .i64 fun t59=>ldL h53 b54 (o55+4) fun t60 =>
 newC h53 [.string (ByteArray.mk #[]),.int .i64 0,.int .i64 0,.int .i64 0,.slice none 0 0] 134 fun b61 h62 =>
 Zf s57 fun i63 =>
 sts h62 b61 0 [.string t56,.int .i64 t57,.int .i64 t58,.int .i64 t59,.slice t60.ptr t60.len t60.cap] fun h64 =>
 ldS h64 b61 0 fun t65 =>
 f68 i63 t65 (some ⟨b2,0,none⟩) (some ⟨b4,0,none⟩) (fun h66 =>
 J51 (IntKind.wrap .i64 (s57+1),()) h66) h64) (
 ldL h53 b4 0 fun t67 =>
 K t67 h53)) s52.1) (0,()) h5) (
 ZE (kind ==4) fun t68 =>
 Zs t68 (
 ldL h5 b (0+3) fun t69 =>
 YY (σ:=Int × Unit) (fun J70 s71 h72 =>
 (fun (s73:Int) =>
 Zs (decide (s73<(t69.len:Int))) (
 Zf s73 fun i73 =>
 ldS h72 b2 0 fun t74 =>
 f68 i73 t74 (some ⟨b2,0,none⟩) (some ⟨b4,0,none⟩) (fun h75 =>
 J70 (IntKind.wrap .i64 (s73+1),()) h75) h72) (
 ldL h72 b4 0 fun t76 =>
 K t76 h72)) s71.1) (0,()) h5) (
 ZE (kind ==5) fun t77 =>
 Zs t77 (
 ldL h5 b (0+4) fun t78 =>
 YY (σ:=Int × Unit) (fun J79 s80 h81 =>
 (fun (s86:Int) =>
 Zs (decide (s86<(t78.len:Int))) (
 Xy t78.ptr t78.len s86 3 fun b82 o83 =>
 ldS h81 b82 o83 fun t84=>ldB h81 b82 (o83+1) fun t85=>ldL h81 b82 (o83+2) fun t86 =>
 newC h81 [.string (ByteArray.mk #[]),.bool false,.slice none 0 0] 160 fun b87 h88 =>
 Zf s86 fun i89 =>
 sts h88 b87 0 [.string t84,.bool t85,.slice t86.ptr t86.len t86.cap] fun h90 =>
 ldS h90 b87 0 fun t91 =>
 f68 i89 t91 (some ⟨b2,0,none⟩) (some ⟨b4,0,none⟩) (fun h92 =>
 J79 (IntKind.wrap .i64 (s86+1),()) h92) h90) (
 ldL h81 b4 0 fun t93 =>
 K t93 h81)) s80.1) (0,()) h5) (
 ldL h5 b4 0 fun t94 =>
 K t94 h5)))))
def Y7:ZkP:=Zeo ZdV
abbrev Zut:=Int→(Option Addr)→(Bool→HP)→HP
def Zbz:Zut:=fun _ _ _ _=>False
abbrev Zus:=(Option Addr)→Int→(Option Addr × Unit)→(Int→Bool→HP)→HP
def Yp (f69:ZkP) (f70:Zut) (w:Option Addr) (kind:Int) (blocks:Option Addr × Unit) (K:Int→Bool→HP) (h:Zd):Prop :=
 Zf 0 fun t =>
 Zg w fun b o =>
 Zg w fun b1 o2 =>
 ldP h b o fun t3 =>
 Zg t3 fun b4 o5 =>
 ldL h b4 (o5+3) fun t6=>ldL h b4 (o5+3+1) fun t7=>ldL h b4 (o5+3+2) fun t8=>ldL h b4 (o5+3+3) fun t9=>ldL h b4 (o5+3+4) fun t10 =>
 ldS h b1 (o2+1+1) fun t11 =>
 f69 (t6,t7,t8,t9,t10,()) kind t11 (fun t12 h13 =>
 ZR (Zo h13 [(b,o,.pointer t3)]) <|
 YY (σ:=Int × Unit) (fun J14 s h15 =>
 (fun (s25:Int) =>
 Zs (decide (s25<(t12.len:Int))) (
 Xy t12.ptr t12.len s25 1 fun b16 o17 =>
 ldI h15 b16 o17 .i64 fun t18 =>
 Zf t18 fun i =>
 f70 i blocks.1 (fun t19 h20 =>
 Zs t19 (
 Zf i fun t21 =>
 K t21 true h20) (
 J14 (IntKind.wrap .i64 (s25+1),()) h20)) h15) (
 Zf 0 fun t22 =>
 K t22 false h15)) s.1) (0,()) h13) h
def ZI:Zus:=Yp Y7 Zbz
abbrev Zur:=(Option Addr)→(Int→Bool→HP)→HP
def Zbh (f71:Zus) (w:Option Addr) (K:Int→Bool→HP) (h:Zd):Prop :=
 newC h [.pointer w] 142 fun b h1 =>
 Zf 0 fun t =>
 ldP h1 b 0 fun t2 =>
 f71 t2 5 (some ⟨b,0,none⟩,()) (fun t3 t4 h5 =>
 Zf t3 fun t6 =>
 ZE t4 fun t7 =>
 K t6 t7 h5) h1
def Xe:Zur:=Zbh ZI
abbrev Zuq:=(Option Nat)→((Option Nat)→HP)→HP
def Yo (m:Option Nat) (K:(Option Nat)→HP) (h:Zd):Prop :=
 Zs m.isNone (
 K none h) (
 ZrQ (.iface 240 (.map m)) h fun t h1 =>
 asT t 240 fun y=>asM y fun t2 =>
 K t2 h1)
def ZL:Zuq:=Yo
abbrev Zup:=(Option Addr)→((Option Addr)→HP)→HP
def ZbD (f73:Zuq) (w:Option Addr) (K:(Option Addr)→HP) (h:Zd):Prop :=
 Zs w.isNone (
 K none h) (
 Zg w fun b o =>
 ldI h b o .i64 fun t=>ldI h b (o+1) .i64 fun t1=>ldI h b (o+2) .i64 fun t2=>ldM h b (o+3) fun t3 =>
 newC h [.int .i64 0,.int .i64 0,.int .i64 0,.map none] 242 fun b4 h5 =>
 sts h5 b4 0 [.int .i64 t,.int .i64 t1,.int .i64 t2,.map t3] fun h6 =>
 Zg w fun b7 o8 =>
 ldM h6 b7 (o8+3) fun t9 =>
 f73 t9 (fun t10 h11 =>
 st h11 b4 (0+3) (.map t10) fun h12 =>
 K (some ⟨b4,0,none⟩) h12) h6)
def XJ:Zup:=ZbD ZL
abbrev Zuo:=(Option Addr)→((Option Addr)→HP)→HP
def ZbL (f74:Zup) (n:Option Addr) (K:(Option Addr)→HP) (h:Zd):Prop :=
 Zs n.isNone (
 K none h) (
 Zg n fun b o =>
 Zg n fun b1 o2 =>
 Zg n fun b3 o4 =>
 ldP h b o fun t =>
 ldP h b1 (o2+1) fun t5 =>
 ldI h b3 (o4+2) .i64 fun t6 =>
 f74 t (fun t7 h8 =>
 ZR (Zo h8 [(b3,o4+2,.int .i64 t6)]) <|
 ZR (Zo h8 [(b1,o2+1,.pointer t5)]) <|
 f74 t5 (fun t9 h10 =>
 ZR (Zo h10 [(b3,o4+2,.int .i64 t6)]) <|
 newC h10 [.pointer t7,.pointer t9,.int .i64 t6] 179 fun b11 h12 =>
 ZR (Zo h12 [(b3,o4+2,.int .i64 t6)]) <|
 K (some ⟨b11,0,none⟩) h12) h8) h)
def XE:Zuo:=ZbL XJ
abbrev Zrv:=(Option Addr)→(Int × ByteArray × ByteArray × ByteArray × Unit)→((Option Addr)→HP)→HP
def Zc9 (f75:Zuo) (t:Option Addr) (k:Int × ByteArray × ByteArray × ByteArray × Unit) (K:(Option Addr)→HP) (h:Zd):Prop :=
 newC h [.int .u8 k.1,.string k.2.1,.string k.2.2.1,.string k.2.2.2.1] 102 fun b h1 =>
 Zs t.isNone (
 K none h1) (
 Zg t fun b2 o =>
 ldM h1 b2 o fun t3 =>
 ldI h1 b 0 .u8 fun t4=>ldS h1 b (0+1) fun t5=>ldS h1 b (0+2) fun t6=>ldS h1 b (0+3) fun t7 =>
 ZbZ [(.int .u8),.string,.string,.string] h1 t3 [.int .u8 t4,.string t5,.string t6,.string t7] fun r=>asP (r.getD (.pointer none)) fun t8 =>
 f75 t8 (fun t9 h10 =>
 K t9 h10) h1)
def XB:Zrv:=Zc9 XE
abbrev Zn8:=(Option Addr)→Int→(Int→HP)→HP
def Zbr (w:Option Addr) (at_:Int) (K:Int→HP) (h:Zd):Prop :=
 Zf 0 fun t =>
 ZE w.isNone fun t1 =>
 Zs t1 (
 Zf 1 fun t2 =>
 K t2 h) (
 Zs (decide (at_<0)) (
 Zf 2 fun t3 =>
 K t3 h) (
 ZE (decide (at_>1152921504606846976)) fun t4 =>
 Zs t4 (
 Zf 2 fun t5 =>
 K t5 h) (
 Zg w fun b o =>
 ldI h b (o+2) .i64 fun t6 =>
 ZE (decide (at_<t6)) fun t7 =>
 Zs t7 (
 Zf 7 fun t8 =>
 K t8 h) (
 Zf 0 fun t9 =>
 K t9 h))))
def Yl:Zn8:=Zbr
abbrev Zru:=(Option Addr)→Int→((Option Addr × Option Addr × Unit)→HP)→HP
def Zcf (w:Option Addr) (at_:Int) (K:(Option Addr × Option Addr × Unit)→HP) (h:Zd):Prop :=
 newC h [.pointer w] 162 fun b h1 =>
 newC h1 [.int .i64 at_] 3 fun b2 h3 =>
 K (some ⟨b,0,none⟩,some ⟨b2,0,none⟩,()) h3
def Xc:Zru:=Zcf
abbrev Zqy:=(Option Addr)→Int→(Int→HP)→HP
def X1 (w:Option Addr) (at_:Int) (K:Int→HP) (h:Zd):Prop :=
 Zf 0 fun t =>
 Zg w fun b o =>
 ldI h b o .i64 fun t1 =>
 Zg w fun b2 o3 =>
 ldI h b2 (o3+1) .i64 fun t4 =>
 ZR (t4≠0) <|
 ZR ((IntKind.wrap .i64 (Int.tdiv t1 t4))≠0) <|
 Zf (IntKind.wrap .i64 (Int.tdiv at_ (IntKind.wrap .i64 (Int.tdiv t1 t4)))) fun t5 =>
 K t5 h
def ZU:Zqy:=X1
abbrev Zrt:=Yld→Nat→(Option Addr)→(Option Addr)→(HP)→HP
def ZbB (f79:Zqy) (Y:Yld) (yield:Nat) (a1:Option Addr) (a2:Option Addr) (K:HP) (h:Zd):Prop :=
 Zg a1 fun b o=>ldP h b o fun t =>
 Zg a2 fun b1 o2=>ldI h b1 o2 .i64 fun t3 =>
 f79 t t3 (fun t4 h5 =>
 Zf t4 fun k =>
 Zg a1 fun b6 o7=>ldP h5 b6 o7 fun t8 =>
 Zg t8 fun b9 o10 =>
 ldI h5 b9 (o10+1) .i64 fun t11 =>
 Zf (Zl6 0 (IntKind.wrap .i64 ((IntKind.wrap .i64 (k - t11))+1))) fun i =>
 YY (σ:=Int × Unit) (fun J13 s h14 =>
 (fun (i12:Int) =>
 Zs (decide (i12≤k)) (
 Zg a1 fun b15 o16=>ldP h14 b15 o16 fun t17 =>
 Zg t17 fun b18 o19 =>
 ldM h14 b18 (o19+3) fun t20 =>
 Zid (.int .i64) h14 t20 (.int .i64 i12) fun r=>exG (r.getD (.agg #[.int .i64 0,.int .i64 0,.int .i64 0,.int .i64 0,.int .i64 0,.int .i64 0])) (fun t21:Int × Int × Int × Int × Int × Int × Unit=> .agg #[.int .i64 t21.1,.int .i64 t21.2.1,.int .i64 t21.2.2.1,.int .i64 t21.2.2.2.1,.int .i64 t21.2.2.2.2.1,.int .i64 t21.2.2.2.2.2.1]) fun t21 =>
 newC h14 [.int .i64 0,.int .i64 0,.int .i64 0,.int .i64 0,.int .i64 0,.int .i64 0] 169 fun b22 h23 =>
 sts h23 b22 0 [.int .i64 t21.1,.int .i64 t21.2.1,.int .i64 t21.2.2.1,.int .i64 t21.2.2.2.1,.int .i64 t21.2.2.2.2.1,.int .i64 t21.2.2.2.2.2.1] fun h24 =>
 ZE r.isSome fun there =>
 Zs there (
 Zg a1 fun b25 o26=>ldP h24 b25 o26 fun t27 =>
 Zg t27 fun b28 o29 =>
 ldI h24 b28 o29 .i64 fun t30 =>
 Zg a1 fun b31 o32=>ldP h24 b31 o32 fun t33 =>
 Zg t33 fun b34 o35 =>
 ldI h24 b34 (o35+1) .i64 fun t36 =>
 ZR (t36≠0) <|
 ldI h24 b22 0 .i64 fun t37=>ldI h24 b22 (0+1) .i64 fun t38=>ldI h24 b22 (0+2) .i64 fun t39=>ldI h24 b22 (0+3) .i64 fun t40=>ldI h24 b22 (0+4) .i64 fun t41=>ldI h24 b22 (0+5) .i64 fun t42 =>
 Y yield [.agg #[.int .i64 (IntKind.wrap .i64 (i12*(IntKind.wrap .i64 (Int.tdiv t30 t36)))),.int .i64 t37,.int .i64 t38,.int .i64 t39,.int .i64 t40,.int .i64 t41,.int .i64 t42]] (fun go h43 =>
 ZR (Zo h43 [(b22,0,.int .i64 t37),(b22,0+1,.int .i64 t38),(b22,0+2,.int .i64 t39),(b22,0+3,.int .i64 t40),(b22,0+4,.int .i64 t41),(b22,0+5,.int .i64 t42)]) <|
 ZR (Zo h43 [(b34,o35+1,.int .i64 t36)]) <|
 ZR (Zo h43 [(b31,o32,.pointer t33)]) <|
 ZR (Zo h43 [(b28,o29,.int .i64 t30)]) <|
 ZR (Zo h43 [(b25,o26,.pointer t27)]) <|
 Zs (!go) (
 K h43) (
 Zf (IntKind.wrap .i64 (i12+1)) fun i44 =>
 J13 (i44,()) h43)) h24) (
 Zf (IntKind.wrap .i64 (i12+1)) fun i45 =>
 J13 (i45,()) h24)) (
 K h14)) s.1) (i,()) h5) h
def YO:Zrt:=ZbB ZU
abbrev Zun:=Int→Int→(Int→HP)→HP
def Zgu (a:Int) (b:Int) (K:Int→HP) (h:Zd):Prop :=
 Zf 0 fun t =>
 Zf (IntKind.wrap .i64 ((Zn1 a (IntKind.wrap .i64 ((4611686018427387904:Int) - b)))+b)) fun t1 =>
 K t1 h
def Zdr:Zun:=Zgu
abbrev Zrs:=(Int × Int × Int × Int × Int × Int × Unit)→(Int × Int × Int × Int × Int × Int × Unit)→((Int × Int × Int × Int × Int × Int × Unit)→HP)→HP
def Zfm (f81:Zun) (a:Int × Int × Int × Int × Int × Int × Unit) (b:Int × Int × Int × Int × Int × Int × Unit) (K:(Int × Int × Int × Int × Int × Int × Unit)→HP) (h:Zd):Prop :=
 newC h [.int .i64 a.1,.int .i64 a.2.1,.int .i64 a.2.2.1,.int .i64 a.2.2.2.1,.int .i64 a.2.2.2.2.1,.int .i64 a.2.2.2.2.2.1] 169 fun b1 h2 =>
 newC h2 [.int .i64 b.1,.int .i64 b.2.1,.int .i64 b.2.2.1,.int .i64 b.2.2.2.1,.int .i64 b.2.2.2.2.1,.int .i64 b.2.2.2.2.2.1] 169 fun b3 h4 =>
 newC h4 [.int .i64 0,.int .i64 0,.int .i64 0,.int .i64 0,.int .i64 0,.int .i64 0] 169 fun b5 h6 =>
 Zg7 (σ:=Option Addr × Unit) (fun s h75 =>
 (fun (c:Option Addr) =>
 ldI h75 b1 (0+2) .i64 fun t76 =>
 ZE (t76 ==0) fun t77 =>
 Zs t77 (
 ldI h75 b3 (0+5) .i64 fun t78 =>
 Zg c fun b79 o =>
 st h75 b79 (o+5) (.int .i64 t78) fun h80 =>
 Zg c fun b81 o82=>ldI h80 b81 o82 .i64 fun t83=>ldI h80 b81 (o82+1) .i64 fun t84=>ldI h80 b81 (o82+2) .i64 fun t85=>ldI h80 b81 (o82+3) .i64 fun t86=>ldI h80 b81 (o82+4) .i64 fun t87=>ldI h80 b81 (o82+5) .i64 fun t88 =>
 sts h80 b5 0 [.int .i64 t83,.int .i64 t84,.int .i64 t85,.int .i64 t86,.int .i64 t87,.int .i64 t88] fun h89 =>
 ldI h89 b5 0 .i64 fun t90=>ldI h89 b5 (0+1) .i64 fun t91=>ldI h89 b5 (0+2) .i64 fun t92=>ldI h89 b5 (0+3) .i64 fun t93=>ldI h89 b5 (0+4) .i64 fun t94=>ldI h89 b5 (0+5) .i64 fun t95=>K (t90,t91,t92,t93,t94,t95,()) h89) (
 ldI h75 b3 (0+2) .i64 fun t96 =>
 ZE (t96 ==0) fun t97 =>
 Zs t97 (
 ldI h75 b1 (0+5) .i64 fun t98 =>
 Zg c fun b99 o100 =>
 st h75 b99 (o100+5) (.int .i64 t98) fun h101 =>
 Zg c fun b102 o103=>ldI h101 b102 o103 .i64 fun t104=>ldI h101 b102 (o103+1) .i64 fun t105=>ldI h101 b102 (o103+2) .i64 fun t106=>ldI h101 b102 (o103+3) .i64 fun t107=>ldI h101 b102 (o103+4) .i64 fun t108=>ldI h101 b102 (o103+5) .i64 fun t109 =>
 sts h101 b5 0 [.int .i64 t104,.int .i64 t105,.int .i64 t106,.int .i64 t107,.int .i64 t108,.int .i64 t109] fun h110 =>
 ldI h110 b5 0 .i64 fun t111=>ldI h110 b5 (0+1) .i64 fun t112=>ldI h110 b5 (0+2) .i64 fun t113=>ldI h110 b5 (0+3) .i64 fun t114=>ldI h110 b5 (0+4) .i64 fun t115=>ldI h110 b5 (0+5) .i64 fun t116=>K (t111,t112,t113,t114,t115,t116,()) h110) (
 ldI h75 b1 (0+5) .i64 fun t117 =>
 ldI h75 b3 (0+5) .i64 fun t118 =>
 Zg c fun b119 o120 =>
 st h75 b119 (o120+5) (.int .i64 (Zn1 t117 t118)) fun h121 =>
 Zg c fun b122 o123=>ldI h121 b122 o123 .i64 fun t124=>ldI h121 b122 (o123+1) .i64 fun t125=>ldI h121 b122 (o123+2) .i64 fun t126=>ldI h121 b122 (o123+3) .i64 fun t127=>ldI h121 b122 (o123+4) .i64 fun t128=>ldI h121 b122 (o123+5) .i64 fun t129 =>
 sts h121 b5 0 [.int .i64 t124,.int .i64 t125,.int .i64 t126,.int .i64 t127,.int .i64 t128,.int .i64 t129] fun h130 =>
 ldI h130 b5 0 .i64 fun t131=>ldI h130 b5 (0+1) .i64 fun t132=>ldI h130 b5 (0+2) .i64 fun t133=>ldI h130 b5 (0+3) .i64 fun t134=>ldI h130 b5 (0+4) .i64 fun t135=>ldI h130 b5 (0+5) .i64 fun t136=>K (t131,t132,t133,t134,t135,t136,()) h130))) s.1) (fun J7 =>
 ldI h6 b1 0 .i64 fun t =>
 ldI h6 b3 0 .i64 fun t8 =>
 ldI h6 b1 (0+1) .i64 fun t9 =>
 ldI h6 b3 (0+1) .i64 fun t10 =>
 ldI h6 b1 (0+2) .i64 fun t11 =>
 ldI h6 b3 (0+2) .i64 fun t12 =>
 ldI h6 b1 (0+3) .i64 fun t13 =>
 ldI h6 b3 (0+3) .i64 fun t14 =>
 ldI h6 b1 (0+4) .i64 fun t15 =>
 ldI h6 b3 (0+4) .i64 fun t16 =>
 Ziz (
 f81 t t8 (fun t17 h18 =>
 ZR (Zo h18 [(b3,0+4,.int .i64 t16)]) <|
 ZR (Zo h18 [(b1,0+4,.int .i64 t15)]) <|
 ZR (Zo h18 [(b3,0+3,.int .i64 t14)]) <|
 ZR (Zo h18 [(b1,0+3,.int .i64 t13)]) <|
 ZR (Zo h18 [(b3,0+2,.int .i64 t12)]) <|
 ZR (Zo h18 [(b1,0+2,.int .i64 t11)]) <|
 ZR (Zo h18 [(b3,0+1,.int .i64 t10)]) <|
 ZR (Zo h18 [(b1,0+1,.int .i64 t9)]) <|
 Ziz (
 f81 t9 t10 (fun t19 h20 =>
 ZR (Zo h20 [(b3,0+4,.int .i64 t16)]) <|
 ZR (Zo h20 [(b1,0+4,.int .i64 t15)]) <|
 ZR (Zo h20 [(b3,0+3,.int .i64 t14)]) <|
 ZR (Zo h20 [(b1,0+3,.int .i64 t13)]) <|
 ZR (Zo h20 [(b3,0+2,.int .i64 t12)]) <|
 ZR (Zo h20 [(b1,0+2,.int .i64 t11)]) <|
 Ziz (
 f81 t11 t12 (fun t21 h22 =>
 ZR (Zo h22 [(b3,0+4,.int .i64 t16)]) <|
 ZR (Zo h22 [(b1,0+4,.int .i64 t15)]) <|
 ZR (Zo h22 [(b3,0+3,.int .i64 t14)]) <|
 ZR (Zo h22 [(b1,0+3,.int .i64 t13)]) <|
 Ziz (
 f81 t13 t14 (fun t23 h24 =>
 ZR (Zo h24 [(b3,0+4,.int .i64 t16)]) <|
 ZR (Zo h24 [(b1,0+4,.int .i64 t15)]) <|
 Ziz (
 f81 t15 t16 (fun t25 h26 =>
 newC h26 [.int .i64 0,.int .i64 0,.int .i64 0,.int .i64 0,.int .i64 0,.int .i64 0] 169 fun b27 h28 =>
 sts h28 b27 0 [.int .i64 t17,.int .i64 t19,.int .i64 t21,.int .i64 t23,.int .i64 t25,.int .i64 0] fun h29 =>
 J7 (some ⟨b27,0,none⟩,()) h29) h24) (
 newC h24 [.int .i64 0,.int .i64 0,.int .i64 0,.int .i64 0,.int .i64 0,.int .i64 0] 169 fun b30 h31 =>
 ZR (Zo h31 [(b3,0+4,.int .i64 t16)]) <|
 ZR (Zo h31 [(b1,0+4,.int .i64 t15)]) <|
 f81 t15 t16 (fun t32 h33 =>
 sts h33 b30 0 [.int .i64 t17,.int .i64 t19,.int .i64 t21,.int .i64 t23,.int .i64 t32,.int .i64 0] fun h34 =>
 J7 (some ⟨b30,0,none⟩,()) h34) h31)) h22) (
 newC h22 [.int .i64 0,.int .i64 0,.int .i64 0,.int .i64 0,.int .i64 0,.int .i64 0] 169 fun b35 h36 =>
 ZR (Zo h36 [(b3,0+4,.int .i64 t16)]) <|
 ZR (Zo h36 [(b1,0+4,.int .i64 t15)]) <|
 ZR (Zo h36 [(b3,0+3,.int .i64 t14)]) <|
 ZR (Zo h36 [(b1,0+3,.int .i64 t13)]) <|
 f81 t13 t14 (fun t37 h38 =>
 ZR (Zo h38 [(b3,0+4,.int .i64 t16)]) <|
 ZR (Zo h38 [(b1,0+4,.int .i64 t15)]) <|
 f81 t15 t16 (fun t39 h40 =>
 sts h40 b35 0 [.int .i64 t17,.int .i64 t19,.int .i64 t21,.int .i64 t37,.int .i64 t39,.int .i64 0] fun h41 =>
 J7 (some ⟨b35,0,none⟩,()) h41) h38) h36)) h20) (
 newC h20 [.int .i64 0,.int .i64 0,.int .i64 0,.int .i64 0,.int .i64 0,.int .i64 0] 169 fun b42 h43 =>
 ZR (Zo h43 [(b3,0+4,.int .i64 t16)]) <|
 ZR (Zo h43 [(b1,0+4,.int .i64 t15)]) <|
 ZR (Zo h43 [(b3,0+3,.int .i64 t14)]) <|
 ZR (Zo h43 [(b1,0+3,.int .i64 t13)]) <|
 ZR (Zo h43 [(b3,0+2,.int .i64 t12)]) <|
 ZR (Zo h43 [(b1,0+2,.int .i64 t11)]) <|
 f81 t11 t12 (fun t44 h45 =>
 ZR (Zo h45 [(b3,0+4,.int .i64 t16)]) <|
 ZR (Zo h45 [(b1,0+4,.int .i64 t15)]) <|
 ZR (Zo h45 [(b3,0+3,.int .i64 t14)]) <|
 ZR (Zo h45 [(b1,0+3,.int .i64 t13)]) <|
 f81 t13 t14 (fun t46 h47 =>
 ZR (Zo h47 [(b3,0+4,.int .i64 t16)]) <|
 ZR (Zo h47 [(b1,0+4,.int .i64 t15)]) <|
 f81 t15 t16 (fun t48 h49 =>
 sts h49 b42 0 [.int .i64 t17,.int .i64 t19,.int .i64 t44,.int .i64 t46,.int .i64 t48,.int .i64 0] fun h50 =>
 J7 (some ⟨b42,0,none⟩,()) h50) h47) h45) h43)) h18) (
 newC h18 [.int .i64 0,.int .i64 0,.int .i64 0,.int .i64 0,.int .i64 0,.int .i64 0] 169 fun b51 h52 =>
 ZR (Zo h52 [(b3,0+4,.int .i64 t16)]) <|
 ZR (Zo h52 [(b1,0+4,.int .i64 t15)]) <|
 ZR (Zo h52 [(b3,0+3,.int .i64 t14)]) <|
 ZR (Zo h52 [(b1,0+3,.int .i64 t13)]) <|
 ZR (Zo h52 [(b3,0+2,.int .i64 t12)]) <|
 ZR (Zo h52 [(b1,0+2,.int .i64 t11)]) <|
 ZR (Zo h52 [(b3,0+1,.int .i64 t10)]) <|
 ZR (Zo h52 [(b1,0+1,.int .i64 t9)]) <|
 f81 t9 t10 (fun t53 h54 =>
 ZR (Zo h54 [(b3,0+4,.int .i64 t16)]) <|
 ZR (Zo h54 [(b1,0+4,.int .i64 t15)]) <|
 ZR (Zo h54 [(b3,0+3,.int .i64 t14)]) <|
 ZR (Zo h54 [(b1,0+3,.int .i64 t13)]) <|
 ZR (Zo h54 [(b3,0+2,.int .i64 t12)]) <|
 ZR (Zo h54 [(b1,0+2,.int .i64 t11)]) <|
 f81 t11 t12 (fun t55 h56 =>
 ZR (Zo h56 [(b3,0+4,.int .i64 t16)]) <|
 ZR (Zo h56 [(b1,0+4,.int .i64 t15)]) <|
 ZR (Zo h56 [(b3,0+3,.int .i64 t14)]) <|
 ZR (Zo h56 [(b1,0+3,.int .i64 t13)]) <|
 f81 t13 t14 (fun t57 h58 =>
 ZR (Zo h58 [(b3,0+4,.int .i64 t16)]) <|
 ZR (Zo h58 [(b1,0+4,.int .i64 t15)]) <|
 f81 t15 t16 (fun t59 h60 =>
 sts h60 b51 0 [.int .i64 t17,.int .i64 t53,.int .i64 t55,.int .i64 t57,.int .i64 t59,.int .i64 0] fun h61 =>
 J7 (some ⟨b51,0,none⟩,()) h61) h58) h56) h54) h52)) h6) (
 newC h6 [.int .i64 0,.int .i64 0,.int .i64 0,.int .i64 0,.int .i64 0,.int .i64 0] 169 fun b62 h63 =>
 ZR (Zo h63 [(b3,0+4,.int .i64 t16)]) <|
 ZR (Zo h63 [(b1,0+4,.int .i64 t15)]) <|
 ZR (Zo h63 [(b3,0+3,.int .i64 t14)]) <|
 ZR (Zo h63 [(b1,0+3,.int .i64 t13)]) <|
 ZR (Zo h63 [(b3,0+2,.int .i64 t12)]) <|
 ZR (Zo h63 [(b1,0+2,.int .i64 t11)]) <|
 ZR (Zo h63 [(b3,0+1,.int .i64 t10)]) <|
 ZR (Zo h63 [(b1,0+1,.int .i64 t9)]) <|
 ZR (Zo h63 [(b3,0,.int .i64 t8)]) <|
 ZR (Zo h63 [(b1,0,.int .i64 t)]) <|
 f81 t t8 (fun t64 h65 =>
 ZR (Zo h65 [(b3,0+4,.int .i64 t16)]) <|
 ZR (Zo h65 [(b1,0+4,.int .i64 t15)]) <|
 ZR (Zo h65 [(b3,0+3,.int .i64 t14)]) <|
 ZR (Zo h65 [(b1,0+3,.int .i64 t13)]) <|
 ZR (Zo h65 [(b3,0+2,.int .i64 t12)]) <|
 ZR (Zo h65 [(b1,0+2,.int .i64 t11)]) <|
 ZR (Zo h65 [(b3,0+1,.int .i64 t10)]) <|
 ZR (Zo h65 [(b1,0+1,.int .i64 t9)]) <|
 f81 t9 t10 (fun t66 h67 =>
 ZR (Zo h67 [(b3,0+4,.int .i64 t16)]) <|
 ZR (Zo h67 [(b1,0+4,.int .i64 t15)]) <|
 ZR (Zo h67 [(b3,0+3,.int .i64 t14)]) <|
 ZR (Zo h67 [(b1,0+3,.int .i64 t13)]) <|
 ZR (Zo h67 [(b3,0+2,.int .i64 t12)]) <|
 ZR (Zo h67 [(b1,0+2,.int .i64 t11)]) <|
 f81 t11 t12 (fun t68 h69 =>
 ZR (Zo h69 [(b3,0+4,.int .i64 t16)]) <|
 ZR (Zo h69 [(b1,0+4,.int .i64 t15)]) <|
 ZR (Zo h69 [(b3,0+3,.int .i64 t14)]) <|
 ZR (Zo h69 [(b1,0+3,.int .i64 t13)]) <|
 f81 t13 t14 (fun t70 h71 =>
 ZR (Zo h71 [(b3,0+4,.int .i64 t16)]) <|
 ZR (Zo h71 [(b1,0+4,.int .i64 t15)]) <|
 f81 t15 t16 (fun t72 h73 =>
 sts h73 b62 0 [.int .i64 t64,.int .i64 t66,.int .i64 t68,.int .i64 t70,.int .i64 t72,.int .i64 0] fun h74 =>
 J7 (some ⟨b62,0,none⟩,()) h74) h71) h69) h67) h65) h63))
def Zbl:Zrs:=Zfm Zdr
abbrev Zrr:=(Option Addr)→Int→((Int × Int × Int × Int × Int × Int × Unit)→Int→HP)→HP
def ZbO (f77:Zn8) (f78:Zru) (f82:Zrs) (f80:Zrt) (w:Option Addr) (at_:Int) (K:(Int × Int × Int × Int × Int × Int × Unit)→Int→HP) (h:Zd):Prop :=
 newC h [.int .i64 0,.int .i64 0,.int .i64 0,.int .i64 0,.int .i64 0,.int .i64 0] 169 fun b h1 =>
 Zf 0 fun t =>
 f77 w at_ (fun t2 h3 =>
 Zf t2 fun err =>
 Zs (err !=0) (
 sts h3 b 0 [.int .i64 0,.int .i64 0,.int .i64 0,.int .i64 0,.int .i64 0,.int .i64 0] fun h4 =>
 Zf err fun t5 =>
 ldI h4 b 0 .i64 fun t6=>ldI h4 b (0+1) .i64 fun t7=>ldI h4 b (0+2) .i64 fun t8=>ldI h4 b (0+3) .i64 fun t9=>ldI h4 b (0+4) .i64 fun t10=>ldI h4 b (0+5) .i64 fun t11=>K (t6,t7,t8,t9,t10,t11,()) t5 h4) (
 newC h3 [.int .i64 0,.int .i64 0,.int .i64 0,.int .i64 0,.int .i64 0,.int .i64 0] 169 fun b12 h13 =>
 f78 w at_ (fun t14 h15 =>
 Zjf 1 (fun Y l K h=>f80 Y l t14.1 t14.2.1 K h) (fun l rec vs h16 k =>
 Zqk (fun a:(Int × Int × Int × Int × Int × Int × Int × Unit) × Unit=>[.agg #[.int .i64 a.1.1,.int .i64 a.1.2.1,.int .i64 a.1.2.2.1,.int .i64 a.1.2.2.2.1,.int .i64 a.1.2.2.2.2.1,.int .i64 a.1.2.2.2.2.2.1,.int .i64 a.1.2.2.2.2.2.2.1]]) vs fun a =>
 newC h16 [.int .i64 0,.int .i64 0,.int .i64 0,.int .i64 0,.int .i64 0,.int .i64 0,.int .i64 0] 249 fun b17 h18 =>
 sts h18 b17 0 [.int .i64 a.1.1,.int .i64 a.1.2.1,.int .i64 a.1.2.2.1,.int .i64 a.1.2.2.2.1,.int .i64 a.1.2.2.2.2.1,.int .i64 a.1.2.2.2.2.2.1,.int .i64 a.1.2.2.2.2.2.2.1] fun h19 =>
 Zmk rec l h19 fun h20 =>
 ldI h20 b12 0 .i64 fun t21=>ldI h20 b12 (0+1) .i64 fun t22=>ldI h20 b12 (0+2) .i64 fun t23=>ldI h20 b12 (0+3) .i64 fun t24=>ldI h20 b12 (0+4) .i64 fun t25=>ldI h20 b12 (0+5) .i64 fun t26 =>
 ldI h20 b17 (0+1) .i64 fun t27=>ldI h20 b17 (0+1+1) .i64 fun t28=>ldI h20 b17 (0+1+2) .i64 fun t29=>ldI h20 b17 (0+1+3) .i64 fun t30=>ldI h20 b17 (0+1+4) .i64 fun t31=>ldI h20 b17 (0+1+5) .i64 fun t32 =>
 f82 (t21,t22,t23,t24,t25,t26,()) (t27,t28,t29,t30,t31,t32,()) (fun t33 h34 =>
 sts h34 b12 0 [.int .i64 t33.1,.int .i64 t33.2.1,.int .i64 t33.2.2.1,.int .i64 t33.2.2.2.1,.int .i64 t33.2.2.2.2.1,.int .i64 t33.2.2.2.2.2.1] fun h35 =>
 k none h35) h20) h15 (fun p D h36 =>
 Zma p (
 ldI h36 b12 0 .i64 fun t37=>ldI h36 b12 (0+1) .i64 fun t38=>ldI h36 b12 (0+2) .i64 fun t39=>ldI h36 b12 (0+3) .i64 fun t40=>ldI h36 b12 (0+4) .i64 fun t41=>ldI h36 b12 (0+5) .i64 fun t42 =>
 sts h36 b 0 [.int .i64 t37,.int .i64 t38,.int .i64 t39,.int .i64 t40,.int .i64 t41,.int .i64 t42] fun h43 =>
 Zf 0 fun t44 =>
 ZeY D h43 fun h45=>ldI h45 b 0 .i64 fun t46=>ldI h45 b (0+1) .i64 fun t47=>ldI h45 b (0+2) .i64 fun t48=>ldI h45 b (0+3) .i64 fun t49=>ldI h45 b (0+4) .i64 fun t50=>ldI h45 b (0+5) .i64 fun t51=>K (t46,t47,t48,t49,t50,t51,()) t44 h45) (fun x =>
 bif Nat.beq x 0 then (
 ldI h36 b12 0 .i64 fun t59=>ldI h36 b12 (0+1) .i64 fun t60=>ldI h36 b12 (0+2) .i64 fun t61=>ldI h36 b12 (0+3) .i64 fun t62=>ldI h36 b12 (0+4) .i64 fun t63=>ldI h36 b12 (0+5) .i64 fun t64 =>
 sts h36 b 0 [.int .i64 t59,.int .i64 t60,.int .i64 t61,.int .i64 t62,.int .i64 t63,.int .i64 t64] fun h65 =>
 Zf 0 fun t66 =>
 ZeY D h65 fun h67=>ldI h67 b 0 .i64 fun t68=>ldI h67 b (0+1) .i64 fun t69=>ldI h67 b (0+2) .i64 fun t70=>ldI h67 b (0+3) .i64 fun t71=>ldI h67 b (0+4) .i64 fun t72=>ldI h67 b (0+5) .i64 fun t73=>K (t68,t69,t70,t71,t72,t73,()) t66 h67) else (False)) (
 ZeY D h36 fun h52=>ldI h52 b 0 .i64 fun t53=>ldI h52 b (0+1) .i64 fun t54=>ldI h52 b (0+2) .i64 fun t55=>ldI h52 b (0+3) .i64 fun t56=>ldI h52 b (0+4) .i64 fun t57=>ldI h52 b (0+5) .i64 fun t58=>K (t53,t54,t55,t56,t57,t58,()) t h52))) h13)) h1
def Y0:Zrr:=ZbO Yl Xc Zbl YO
abbrev ZmA:=(Option Addr)→Int→((Int × Int × Int × Int × Int × Int × Unit)→Int→HP)→HP
def Zcl (f83:Zrr) (n:Option Addr) (at_:Int) (K:(Int × Int × Int × Int × Int × Int × Unit)→Int→HP) (h:Zd):Prop :=
 newC h [.int .i64 0,.int .i64 0,.int .i64 0,.int .i64 0,.int .i64 0,.int .i64 0] 169 fun b h1 =>
 Zf 0 fun t =>
 Zs n.isNone (
 sts h1 b 0 [.int .i64 0,.int .i64 0,.int .i64 0,.int .i64 0,.int .i64 0,.int .i64 0] fun h2 =>
 Zf 1 fun t3 =>
 ldI h2 b 0 .i64 fun t4=>ldI h2 b (0+1) .i64 fun t5=>ldI h2 b (0+2) .i64 fun t6=>ldI h2 b (0+3) .i64 fun t7=>ldI h2 b (0+4) .i64 fun t8=>ldI h2 b (0+5) .i64 fun t9=>K (t4,t5,t6,t7,t8,t9,()) t3 h2) (
 Zg n fun b10 o =>
 ldP h1 b10 o fun t11 =>
 f83 t11 at_ (fun t12 t13 h14 =>
 sts h14 b 0 [.int .i64 t12.1,.int .i64 t12.2.1,.int .i64 t12.2.2.1,.int .i64 t12.2.2.2.1,.int .i64 t12.2.2.2.2.1,.int .i64 t12.2.2.2.2.2.1] fun h15 =>
 Zf t13 fun t16 =>
 ldI h15 b 0 .i64 fun t17=>ldI h15 b (0+1) .i64 fun t18=>ldI h15 b (0+2) .i64 fun t19=>ldI h15 b (0+3) .i64 fun t20=>ldI h15 b (0+4) .i64 fun t21=>ldI h15 b (0+5) .i64 fun t22=>K (t17,t18,t19,t20,t21,t22,()) t16 h15) h1)
def Yu:ZmA:=Zcl Y0
abbrev Zum:=(Option Addr)→Int→(Int→Int→HP)→HP
def Zdd (f84:ZmA) (n:Option Addr) (at_:Int) (K:Int→Int→HP) (h:Zd):Prop :=
 Zf 0 fun t =>
 Zf 0 fun t1 =>
 f84 n at_ (fun t2 t3 h4 =>
 newC h4 [.int .i64 0,.int .i64 0,.int .i64 0,.int .i64 0,.int .i64 0,.int .i64 0] 169 fun b h5 =>
 sts h5 b 0 [.int .i64 t2.1,.int .i64 t2.2.1,.int .i64 t2.2.2.1,.int .i64 t2.2.2.2.1,.int .i64 t2.2.2.2.2.1,.int .i64 t2.2.2.2.2.2.1] fun h6 =>
 Zf t3 fun e =>
 Zs (e !=0) (
 Zf 0 fun t7 =>
 Zf e fun t8 =>
 K t7 t8 h6) (
 ldI h6 b (0+2) .i64 fun t9 =>
 Zs (t9 ==0) (
 Zf 0 fun t10 =>
 Zf e fun t11 =>
 K t10 t11 h6) (
 ldI h6 b (0+4) .i64 fun t12 =>
 ldI h6 b (0+2) .i64 fun t13 =>
 ZR (t13≠0) <|
 Zf (IntKind.wrap .i64 (Int.tdiv t12 t13)) fun t14 =>
 Zf 0 fun t15 =>
 K t14 t15 h6))) h
def ZaV:Zum:=Zdd Yu
abbrev Zrq:=(Option Addr)→Int→(Int→Int→HP)→HP
def ZbC (f77:Zn8) (f78:Zru) (f79:Zqy) (f80:Zrt) (w:Option Addr) (at_:Int) (K:Int→Int→HP) (h:Zd):Prop :=
 newC h [.pointer w] 162 fun b h1 =>
 newC h1 [.int .i64 at_] 3 fun b2 h3 =>
 Zf 0 fun t =>
 Zf 0 fun t4 =>
 ldP h3 b 0 fun t5 =>
 ldI h3 b2 0 .i64 fun t6 =>
 f77 t5 t6 (fun t7 h8 =>
 Zf t7 fun err =>
 Zs (err !=0) (
 Zf 0 fun t9 =>
 Zf err fun t10 =>
 K t9 t10 h8) (
 newC h8 [.int .i64 0] 3 fun b11 h12 =>
 st h12 b11 0 (.int .i64 0) fun h13 =>
 ldP h13 b 0 fun t14 =>
 ldI h13 b2 0 .i64 fun t15 =>
 f78 t14 t15 (fun t16 h17 =>
 Zjf 1 (fun Y l K h=>f80 Y l t16.1 t16.2.1 K h) (fun l rec vs h18 k =>
 Zqk (fun a:(Int × Int × Int × Int × Int × Int × Int × Unit) × Unit=>[.agg #[.int .i64 a.1.1,.int .i64 a.1.2.1,.int .i64 a.1.2.2.1,.int .i64 a.1.2.2.2.1,.int .i64 a.1.2.2.2.2.1,.int .i64 a.1.2.2.2.2.2.1,.int .i64 a.1.2.2.2.2.2.2.1]]) vs fun a =>
 newC h18 [.int .i64 0,.int .i64 0,.int .i64 0,.int .i64 0,.int .i64 0,.int .i64 0,.int .i64 0] 249 fun b19 h20 =>
 sts h20 b19 0 [.int .i64 a.1.1,.int .i64 a.1.2.1,.int .i64 a.1.2.2.1,.int .i64 a.1.2.2.2.1,.int .i64 a.1.2.2.2.2.1,.int .i64 a.1.2.2.2.2.2.1,.int .i64 a.1.2.2.2.2.2.2.1] fun h21 =>
 Zmk rec l h21 fun h22 =>
 ldP h22 b 0 fun t23 =>
 ldI h22 b19 0 .i64 fun t24 =>
 ldP h22 b 0 fun t25 =>
 ldI h22 b2 0 .i64 fun t26 =>
 f79 t23 t24 (fun t27 h28 =>
 ZR (Zo h28 [(b2,0,.int .i64 t26)]) <|
 ZR (Zo h28 [(b,0,.pointer t25)]) <|
 f79 t25 t26 (fun t29 h30 =>
 Zs (t27 !=t29) (
 ldI h30 b11 0 .i64 fun t31 =>
 ldI h30 b19 (0+1) .i64 fun t32 =>
 st h30 b11 0 (.int .i64 (Zl6 t31 t32)) fun h33 =>
 k none h33) (
 k none h30)) h28) h22) h17 (fun p D h34 =>
 Zma p (
 ldI h34 b11 0 .i64 fun t35 =>
 Zf t35 fun t36 =>
 Zf 0 fun t37 =>
 ZeY D h34 fun h38=>K t36 t37 h38) (fun x =>
 bif Nat.beq x 0 then (
 ldI h34 b11 0 .i64 fun t40 =>
 Zf t40 fun t41 =>
 Zf 0 fun t42 =>
 ZeY D h34 fun h43=>K t41 t42 h43) else (False)) (
 ZeY D h34 fun h39=>K t t4 h39))) h13)) h3
def YP:Zrq:=ZbC Yl Xc ZU YO
abbrev Zul:=(Option Addr)→Int→(Int→Int→HP)→HP
def ZbK (f86:Zrq) (n:Option Addr) (at_:Int) (K:Int→Int→HP) (h:Zd):Prop :=
 Zf 0 fun t =>
 Zf 0 fun t1 =>
 Zs n.isNone (
 Zf 0 fun t2 =>
 Zf 1 fun t3 =>
 K t2 t3 h) (
 Zg n fun b o =>
 ldP h b o fun t4 =>
 f86 t4 at_ (fun t5 t6 h7 =>
 Zf t5 fun t8 =>
 Zf t6 fun t9 =>
 K t8 t9 h7) h)
def XD:Zul:=ZbK YP
abbrev Zuk:=(Option Addr)→Int→(Int→Int→HP)→HP
def ZcC (f84:ZmA) (n:Option Addr) (at_:Int) (K:Int→Int→HP) (h:Zd):Prop :=
 Zf 0 fun t =>
 Zf 0 fun t1 =>
 f84 n at_ (fun t2 t3 h4 =>
 newC h4 [.int .i64 0,.int .i64 0,.int .i64 0,.int .i64 0,.int .i64 0,.int .i64 0] 169 fun b h5 =>
 sts h5 b 0 [.int .i64 t2.1,.int .i64 t2.2.1,.int .i64 t2.2.2.1,.int .i64 t2.2.2.2.1,.int .i64 t2.2.2.2.2.1,.int .i64 t2.2.2.2.2.2.1] fun h6 =>
 Zf t3 fun e =>
 ldI h6 b (0+5) .i64 fun t7 =>
 Zf t7 fun t8 =>
 Zf e fun t9 =>
 K t8 t9 h6) h
def Zav:Zuk:=ZcC Yu
abbrev Zmz:=(Option Addr)→(Int→HP)→HP
def Zbg (n:Option Addr) (K:Int→HP) (h:Zd):Prop :=
 Zf 0 fun t =>
 Zs n.isNone (
 Zf 0 fun t1 =>
 K t1 h) (
 Zg n fun b o =>
 ldI h b (o+2) .i64 fun t2 =>
 Zf t2 fun t3 =>
 K t3 h)
def ZY:Zmz:=Zbg
abbrev Zuj:=Int→(Option Addr)→(Option Addr)→(Bool→HP)→HP
def Za4:Zuj:=fun _ _ _ _ _=>False
abbrev Zui:=(Option Addr)→Int→(Option Addr × Option Addr × Unit)→(Int→Bool→HP)→HP
def Yj (f69:ZkP) (f90:Zuj) (w:Option Addr) (kind:Int) (blocks:Option Addr × Option Addr × Unit) (K:Int→Bool→HP) (h:Zd):Prop :=
 Zf 0 fun t =>
 Zg w fun b o =>
 Zg w fun b1 o2 =>
 ldP h b o fun t3 =>
 Zg t3 fun b4 o5 =>
 ldL h b4 (o5+3) fun t6=>ldL h b4 (o5+3+1) fun t7=>ldL h b4 (o5+3+2) fun t8=>ldL h b4 (o5+3+3) fun t9=>ldL h b4 (o5+3+4) fun t10 =>
 ldS h b1 (o2+1+1) fun t11 =>
 f69 (t6,t7,t8,t9,t10,()) kind t11 (fun t12 h13 =>
 ZR (Zo h13 [(b,o,.pointer t3)]) <|
 YY (σ:=Int × Unit) (fun J14 s h15 =>
 (fun (s25:Int) =>
 Zs (decide (s25<(t12.len:Int))) (
 Xy t12.ptr t12.len s25 1 fun b16 o17 =>
 ldI h15 b16 o17 .i64 fun t18 =>
 Zf t18 fun i =>
 f90 i blocks.1 blocks.2.1 (fun t19 h20 =>
 Zs t19 (
 Zf i fun t21 =>
 K t21 true h20) (
 J14 (IntKind.wrap .i64 (s25+1),()) h20)) h15) (
 Zf 0 fun t22 =>
 K t22 false h15)) s.1) (0,()) h13) h
def ZG:Zui:=Yj Y7 Za4
abbrev Zuh:=(Option Addr)→(Int→Bool→HP)→HP
def Zan (f76:Zrv) (f84:ZmA) (f85:Zum) (f87:Zul) (f88:Zuk) (f89:Zmz) (f91:Zui) (w:Option Addr) (K:Int→Bool→HP) (h:Zd):Prop :=
 newC h [.pointer w] 142 fun b h1 =>
 Zf 0 fun t =>
 ldP h1 b 0 fun t2 =>
 Zg t2 fun b3 o =>
 ldB h1 b3 (o+1+4) fun t4 =>
 Zs (!t4) (
 Zf 0 fun t5 =>
 K t5 false h1) (
 ldP h1 b 0 fun t6 =>
 Zg t6 fun b7 o8 =>
 ldP h1 b7 o8 fun t9 =>
 Zg t9 fun b10 o11 =>
 ldP h1 b10 (o11+12) fun t12 =>
 f76 t12 (1,ByteArray.mk #[],ByteArray.mk #[],ByteArray.mk #[],()) (fun t13 h14 =>
 ldP h14 b 0 fun t15 =>
 Zg t15 fun b16 o17 =>
 ldI h14 b16 (o17+1) .i64 fun t18 =>
 f84 t13 t18 (fun t19 t20 h21 =>
 newC h21 [.int .i64 0,.int .i64 0,.int .i64 0,.int .i64 0,.int .i64 0,.int .i64 0] 169 fun b22 h23 =>
 sts h23 b22 0 [.int .i64 t19.1,.int .i64 t19.2.1,.int .i64 t19.2.2.1,.int .i64 t19.2.2.2.1,.int .i64 t19.2.2.2.2.1,.int .i64 t19.2.2.2.2.2.1] fun h24 =>
 Zf t20 fun x =>
 ldP h24 b 0 fun t25 =>
 Zg t25 fun b26 o27 =>
 ldI h24 b26 (o27+1) .i64 fun t28 =>
 f85 t13 t28 (fun t29 t30 h31 =>
 Zf t29 fun mean =>
 Zf t30 fun x32 =>
 ldP h31 b 0 fun t33 =>
 Zg t33 fun b34 o35 =>
 ldI h31 b34 (o35+1) .i64 fun t36 =>
 f87 t13 t36 (fun t37 t38 h39 =>
 Zf t37 fun most =>
 Zf t38 fun x40 =>
 ldP h39 b 0 fun t41 =>
 Zg t41 fun b42 o43 =>
 ldI h39 b42 (o43+1) .i64 fun t44 =>
 f88 t13 t44 (fun t45 t46 h47 =>
 Zf t45 fun least =>
 Zf t46 fun x48 =>
 Zg7 (σ:=Option Addr × Unit) (fun s h75 =>
 (fun (now:Option Addr) =>
 ldP h75 b 0 fun t76 =>
 f91 t76 4 (some ⟨b,0,none⟩,now,()) (fun t77 t78 h79 =>
 Zf t77 fun t80 =>
 ZE t78 fun t81 =>
 K t80 t81 h79) h75) s.1) (fun J49 =>
 ldI h47 b22 0 .i64 fun t50 =>
 ldP h47 b 0 fun t51 =>
 Zg t51 fun b52 o53 =>
 ldP h47 b52 o53 fun t54 =>
 Zg t54 fun b55 o56 =>
 ldI h47 b55 (o56+13) .i64 fun t57 =>
 ldP h47 b 0 fun t58 =>
 Zg t58 fun b59 o60 =>
 ldP h47 b59 o60 fun t61 =>
 Zg t61 fun b62 o63 =>
 ldI h47 b62 (o63+14) .i64 fun t64 =>
 Ziz (
 f89 t13 (fun t65 h66 =>
 ZR (Zo h66 [(b62,o63+14,.int .i64 t64)]) <|
 ZR (Zo h66 [(b59,o60,.pointer t61)]) <|
 ZR (Zo h66 [(b,0,.pointer t58)]) <|
 ZR (Zo h66 [(b55,o56+13,.int .i64 t57)]) <|
 ZR (Zo h66 [(b52,o53,.pointer t54)]) <|
 ZR (Zo h66 [(b,0,.pointer t51)]) <|
 ZR (Zo h66 [(b22,0,.int .i64 t50)]) <|
 newC h66 [.int .i64 0,.int .i64 0,.int .i64 0,.int .i64 0,.int .i64 0,.int .i64 0,.int .i64 0] 302 fun b67 h68 =>
 ZR (Zo h68 [(b62,o63+14,.int .i64 t64)]) <|
 ZR (Zo h68 [(b59,o60,.pointer t61)]) <|
 ZR (Zo h68 [(b,0,.pointer t58)]) <|
 ZR (Zo h68 [(b55,o56+13,.int .i64 t57)]) <|
 ZR (Zo h68 [(b52,o53,.pointer t54)]) <|
 ZR (Zo h68 [(b,0,.pointer t51)]) <|
 ZR (Zo h68 [(b22,0,.int .i64 t50)]) <|
 sts h68 b67 0 [.int .i64 t50,.int .i64 t65,.int .i64 mean,.int .i64 t57,.int .i64 t64,.int .i64 most,.int .i64 least] fun h69 =>
 J49 (some ⟨b67,0,none⟩,()) h69) h47) (
 newC h47 [.int .i64 0,.int .i64 0,.int .i64 0,.int .i64 0,.int .i64 0,.int .i64 0,.int .i64 0] 302 fun b70 h71 =>
 ZR (Zo h71 [(b62,o63+14,.int .i64 t64)]) <|
 ZR (Zo h71 [(b59,o60,.pointer t61)]) <|
 ZR (Zo h71 [(b,0,.pointer t58)]) <|
 ZR (Zo h71 [(b55,o56+13,.int .i64 t57)]) <|
 ZR (Zo h71 [(b52,o53,.pointer t54)]) <|
 ZR (Zo h71 [(b,0,.pointer t51)]) <|
 ZR (Zo h71 [(b22,0,.int .i64 t50)]) <|
 f89 t13 (fun t72 h73 =>
 ZR (Zo h73 [(b62,o63+14,.int .i64 t64)]) <|
 ZR (Zo h73 [(b59,o60,.pointer t61)]) <|
 ZR (Zo h73 [(b,0,.pointer t58)]) <|
 ZR (Zo h73 [(b55,o56+13,.int .i64 t57)]) <|
 ZR (Zo h73 [(b52,o53,.pointer t54)]) <|
 ZR (Zo h73 [(b,0,.pointer t51)]) <|
 ZR (Zo h73 [(b22,0,.int .i64 t50)]) <|
 sts h73 b70 0 [.int .i64 t50,.int .i64 t72,.int .i64 mean,.int .i64 t57,.int .i64 t64,.int .i64 most,.int .i64 least] fun h74 =>
 J49 (some ⟨b70,0,none⟩,()) h74) h71))) h39) h31) h24) h14) h1)
def YQ:Zuh:=Zan XB Yu ZaV XD Zav ZY ZG
abbrev Zug:=Int→(Option Addr)→(Bool→HP)→HP
def ZbM:Zug:=fun _ _ _ _=>False
abbrev Zuf:=(Option Addr)→Int→(Option Addr × Unit)→(Int→Bool→HP)→HP
def Ys (f69:ZkP) (f93:Zug) (w:Option Addr) (kind:Int) (blocks:Option Addr × Unit) (K:Int→Bool→HP) (h:Zd):Prop :=
 Zf 0 fun t =>
 Zg w fun b o =>
 Zg w fun b1 o2 =>
 ldP h b o fun t3 =>
 Zg t3 fun b4 o5 =>
 ldL h b4 (o5+3) fun t6=>ldL h b4 (o5+3+1) fun t7=>ldL h b4 (o5+3+2) fun t8=>ldL h b4 (o5+3+3) fun t9=>ldL h b4 (o5+3+4) fun t10 =>
 ldS h b1 (o2+1+1) fun t11 =>
 f69 (t6,t7,t8,t9,t10,()) kind t11 (fun t12 h13 =>
 ZR (Zo h13 [(b,o,.pointer t3)]) <|
 YY (σ:=Int × Unit) (fun J14 s h15 =>
 (fun (s25:Int) =>
 Zs (decide (s25<(t12.len:Int))) (
 Xy t12.ptr t12.len s25 1 fun b16 o17 =>
 ldI h15 b16 o17 .i64 fun t18 =>
 Zf t18 fun i =>
 f93 i blocks.1 (fun t19 h20 =>
 Zs t19 (
 Zf i fun t21 =>
 K t21 true h20) (
 J14 (IntKind.wrap .i64 (s25+1),()) h20)) h15) (
 Zf 0 fun t22 =>
 K t22 false h15)) s.1) (0,()) h13) h
def ZJ:Zuf:=Ys Y7 ZbM
abbrev Zue:=(Option Addr)→(Int→Bool→HP)→HP
def Zbx (f94:Zuf) (w:Option Addr) (K:Int→Bool→HP) (h:Zd):Prop :=
 newC h [.pointer w] 142 fun b h1 =>
 Zf 0 fun t =>
 ldP h1 b 0 fun t2 =>
 f94 t2 3 (some ⟨b,0,none⟩,()) (fun t3 t4 h5 =>
 Zf t3 fun t6 =>
 ZE t4 fun t7 =>
 K t6 t7 h5) h1
def Xq:Zue:=Zbx ZJ
abbrev Zud:=Sl→(Int × ByteArray × ByteArray × ByteArray × Bool × Int × Sl × Unit)→((Option Addr × Option Addr × Unit)→HP)→HP
def Zdu (l:Sl) (c:Int × ByteArray × ByteArray × ByteArray × Bool × Int × Sl × Unit) (K:(Option Addr × Option Addr × Unit)→HP) (h:Zd):Prop :=
 newC h [.slice l.ptr l.len l.cap] 33 fun b h1 =>
 newC h1 [.int .i64 c.1,.string c.2.1,.string c.2.2.1,.string c.2.2.2.1,.bool c.2.2.2.2.1,.int .i64 c.2.2.2.2.2.1,.slice c.2.2.2.2.2.2.1.ptr c.2.2.2.2.2.2.1.len c.2.2.2.2.2.2.1.cap] 47 fun b2 h3 =>
 K (some ⟨b,0,none⟩,some ⟨b2,0,none⟩,()) h3
def Zca:Zud:=Zdu
abbrev Zuc:=(ByteArray × ByteArray × Bool × Int × Int × ByteArray × Int × Int × Int × Bool × Int × Bool × Unit)→(Option Addr)→(Option Addr)→(Option Addr)→(Bool→HP)→HP
def ZdZ (r:ByteArray × ByteArray × Bool × Int × Int × ByteArray × Int × Int × Int × Bool × Int × Bool × Unit) (a1:Option Addr) (a2:Option Addr) (a3:Option Addr) (K:Bool→HP) (h:Zd):Prop :=
 newC h [.string r.1,.string r.2.1,.bool r.2.2.1,.int .i64 r.2.2.2.1,.int .u8 r.2.2.2.2.1,.string r.2.2.2.2.2.1,.int .u8 r.2.2.2.2.2.2.1,.int .i64 r.2.2.2.2.2.2.2.1,.int .i64 r.2.2.2.2.2.2.2.2.1,.bool r.2.2.2.2.2.2.2.2.2.1,.int .i64 r.2.2.2.2.2.2.2.2.2.2.1,.bool r.2.2.2.2.2.2.2.2.2.2.2.1] 32 fun b h1 =>
 ldS h1 b 0 fun t =>
 Zg a1 fun b2 o=>ldL h1 b2 o fun t3 =>
 Zg a2 fun b4 o5=>ldI h1 b4 o5 .i64 fun t6 =>
 Xy t3.ptr t3.len t6 12 fun b7 o8 =>
 ldS h1 b7 o8 fun t9 =>
 Zs (XN t t9) (
 ldS h1 b (0+1) fun t10 =>
 Zg a3 fun b11 o12=>ldS h1 b11 o12 fun t13 =>
 Zs (XN t10 t13) (
 Zg a3 fun b14 o15=>ldS h1 b14 o15 fun t16 =>
 Zs (!(XN t16 (ByteArray.mk #[100,101,102,97,117,108,116]))) (
 Zg a3 fun b17 o18=>ldS h1 b17 o18 fun t19 =>
 ZE (!(XN t19 (ByteArray.mk #[111,116,104,101,114]))) fun t20 =>
 K t20 h1) (
 K false h1)) (
 K false h1)) (
 K false h1)
def Zb5:Zuc:=ZdZ
abbrev Zub:=Sl→(Option Addr × Option Addr × Option Addr × Unit)→(Int→HP)→HP
def YF (f97:Zuc) (s:Sl) (f:Option Addr × Option Addr × Option Addr × Unit) (K:Int→HP) (h:Zd):Prop :=
 Zf 0 fun t =>
 YY (σ:=Int × Unit) (fun J1 s2 h3 =>
 (fun (s8:Int) =>
 Zs (decide (s8<(s.len:Int))) (
 Zf s8 fun i =>
 Xy s.ptr s.len i 12 fun b o =>
 ldS h3 b o fun t4=>ldS h3 b (o+1) fun t5=>ldB h3 b (o+2) fun t6=>ldI h3 b (o+3) .i64 fun t7=>ldI h3 b (o+4) .u8 fun t8=>ldS h3 b (o+5) fun t9=>ldI h3 b (o+6) .u8 fun t10=>ldI h3 b (o+7) .i64 fun t11=>ldI h3 b (o+8) .i64 fun t12=>ldB h3 b (o+9) fun t13=>ldI h3 b (o+10) .i64 fun t14=>ldB h3 b (o+11) fun t15 =>
 f97 (t4,t5,t6,t7,t8,t9,t10,t11,t12,t13,t14,t15,()) f.1 f.2.1 f.2.2.1 (fun t16 h17 =>
 Zs t16 (
 Zf i fun t18 =>
 K t18 h17) (
 J1 (IntKind.wrap .i64 (s8+1),()) h17)) h3) (
 Zf (-1) fun t19 =>
 K t19 h3)) s2.1) (0,()) h
def Z9:Zub:=YF Zb5
abbrev Zua:=Sl→(Option Addr × Option Addr × Option Addr × Unit)→(Bool→HP)→HP
def Yz (f98:Zub) (s:Sl) (f:Option Addr × Option Addr × Option Addr × Unit) (K:Bool→HP) (h:Zd):Prop :=
 f98 s (f.1,f.2.1,f.2.2.1,()) (fun t h1 =>
 ZE (decide (t≥0)) fun t2 =>
 K t2 h1) h
def Z2:Zua:=Yz Z9
abbrev ZqK:=Sl→Int→ByteArray→(Bool→HP)→HP
def Zdi (f99:Zua) (l:Sl) (i:Int) (origin:ByteArray) (K:Bool→HP) (h:Zd):Prop :=
 newC h [.slice l.ptr l.len l.cap] 33 fun b h1 =>
 newC h1 [.int .i64 i] 3 fun b2 h3 =>
 newC h3 [.string origin] 9 fun b4 h5 =>
 ldI h5 b2 0 .i64 fun t =>
 Zs (decide (t<0)) (
 K false h5) (
 ldI h5 b2 0 .i64 fun t6 =>
 ldL h5 b 0 fun t7 =>
 Zs (decide (t6≥(t7.len:Int))) (
 K false h5) (
 ldL h5 b 0 fun t8 =>
 ldI h5 b2 0 .i64 fun t9 =>
 Xy t8.ptr t8.len t9 12 fun b10 o =>
 ldS h5 b10 (o+1) fun t11 =>
 ZE (XN t11 (ByteArray.mk #[100,101,102,97,117,108,116])) fun t12 =>
 Zs t12 (
 Zs t12 (
 K true h5) (
 ZE (XN t11 (ByteArray.mk #[111,116,104,101,114])) fun t13 =>
 Zs t13 (
 ldL h5 b 0 fun t14 =>
 f99 t14 (some ⟨b,0,none⟩,some ⟨b2,0,none⟩,some ⟨b4,0,none⟩,()) (fun t15 h16 =>
 ZE (!t15) fun t17 =>
 K t17 h16) h5) (
 K false h5))) (
 ldS h5 b4 0 fun t18 =>
 ZE (XN t11 t18) fun t19 =>
 Zs t19 (
 K true h5) (
 ZE (XN t11 (ByteArray.mk #[111,116,104,101,114])) fun t20 =>
 Zs t20 (
 ldL h5 b 0 fun t21 =>
 f99 t21 (some ⟨b,0,none⟩,some ⟨b2,0,none⟩,some ⟨b4,0,none⟩,()) (fun t22 h23 =>
 ZE (!t22) fun t24 =>
 K t24 h23) h5) (
 K false h5)))))
def X5:ZqK:=Zdi Z2
abbrev Zo5:=Yld→Nat→(Option Addr)→(Option Addr)→(HP)→HP
def Zco (f100:ZqK) (Y:Yld) (yield:Nat) (a1:Option Addr) (a2:Option Addr) (K:HP) (h:Zd):Prop :=
 Zg a1 fun b o=>ldL h b o fun t =>
 YY (σ:=Int × Unit) (fun J1 s h2 =>
 (fun (s8:Int) =>
 Zs (decide (s8<(t.len:Int))) (
 Xy t.ptr t.len s8 12 fun b3 o4 =>
 ldS h2 b3 o4 fun t5=>ldS h2 b3 (o4+1) fun t6=>ldB h2 b3 (o4+2) fun t7=>ldI h2 b3 (o4+3) .i64 fun t8=>ldI h2 b3 (o4+4) .u8 fun t9=>ldS h2 b3 (o4+5) fun t10=>ldI h2 b3 (o4+6) .u8 fun t11=>ldI h2 b3 (o4+7) .i64 fun t12=>ldI h2 b3 (o4+8) .i64 fun t13=>ldB h2 b3 (o4+9) fun t14=>ldI h2 b3 (o4+10) .i64 fun t15=>ldB h2 b3 (o4+11) fun t16 =>
 newC h2 [.string (ByteArray.mk #[]),.string (ByteArray.mk #[]),.bool false,.int .i64 0,.int .u8 0,.string (ByteArray.mk #[]),.int .u8 0,.int .i64 0,.int .i64 0,.bool false,.int .i64 0,.bool false] 32 fun b17 h18 =>
 Zf s8 fun i =>
 sts h18 b17 0 [.string t5,.string t6,.bool t7,.int .i64 t8,.int .u8 t9,.string t10,.int .u8 t11,.int .i64 t12,.int .i64 t13,.bool t14,.int .i64 t15,.bool t16] fun h19 =>
 ldS h19 b17 0 fun t20 =>
 Zg a2 fun b21 o22 =>
 ldS h19 b21 (o22+1) fun t23 =>
 Zs (XN t20 t23) (
 Zg a1 fun b24 o25=>ldL h19 b24 o25 fun t26 =>
 Zg a2 fun b27 o28 =>
 ldS h19 b27 (o28+3) fun t29 =>
 f100 t26 i t29 (fun t30 h31 =>
 Zs t30 (
 ldS h31 b17 0 fun t32=>ldS h31 b17 (0+1) fun t33=>ldB h31 b17 (0+2) fun t34=>ldI h31 b17 (0+3) .i64 fun t35=>ldI h31 b17 (0+4) .u8 fun t36=>ldS h31 b17 (0+5) fun t37=>ldI h31 b17 (0+6) .u8 fun t38=>ldI h31 b17 (0+7) .i64 fun t39=>ldI h31 b17 (0+8) .i64 fun t40=>ldB h31 b17 (0+9) fun t41=>ldI h31 b17 (0+10) .i64 fun t42=>ldB h31 b17 (0+11) fun t43 =>
 Y yield [.int .i64 i,.agg #[.string t32,.string t33,.bool t34,.int .i64 t35,.int .u8 t36,.string t37,.int .u8 t38,.int .i64 t39,.int .i64 t40,.bool t41,.int .i64 t42,.bool t43]] (fun go h44 =>
 Zs (!go) (
 K h44) (
 J1 (IntKind.wrap .i64 (s8+1),()) h44)) h31) (
 J1 (IntKind.wrap .i64 (s8+1),()) h31)) h19) (
 J1 (IntKind.wrap .i64 (s8+1),()) h19)) (
 K h2)) s.1) (0,()) h
def Zbp:Zo5:=Zco X5
abbrev ZkY:=(ByteArray × ByteArray × Bool × Int × Int × ByteArray × Int × Int × Int × Bool × Int × Bool × Unit)→(Int × ByteArray × ByteArray × ByteArray × Bool × Int × Sl × Unit)→((ByteArray × ByteArray × ByteArray × Bool × Unit)→HP)→HP
def Zed (r:ByteArray × ByteArray × Bool × Int × Int × ByteArray × Int × Int × Int × Bool × Int × Bool × Unit) (c:Int × ByteArray × ByteArray × ByteArray × Bool × Int × Sl × Unit) (K:(ByteArray × ByteArray × ByteArray × Bool × Unit)→HP) (h:Zd):Prop :=
 newC h [.string r.1,.string r.2.1,.bool r.2.2.1,.int .i64 r.2.2.2.1,.int .u8 r.2.2.2.2.1,.string r.2.2.2.2.2.1,.int .u8 r.2.2.2.2.2.2.1,.int .i64 r.2.2.2.2.2.2.2.1,.int .i64 r.2.2.2.2.2.2.2.2.1,.bool r.2.2.2.2.2.2.2.2.2.1,.int .i64 r.2.2.2.2.2.2.2.2.2.2.1,.bool r.2.2.2.2.2.2.2.2.2.2.2.1] 32 fun b h1 =>
 newC h1 [.int .i64 c.1,.string c.2.1,.string c.2.2.1,.string c.2.2.2.1,.bool c.2.2.2.2.1,.int .i64 c.2.2.2.2.2.1,.slice c.2.2.2.2.2.2.1.ptr c.2.2.2.2.2.2.1.len c.2.2.2.2.2.2.1.cap] 47 fun b2 h3 =>
 newC h3 [.string (ByteArray.mk #[]),.string (ByteArray.mk #[]),.string (ByteArray.mk #[]),.bool false] 346 fun b4 h5 =>
 ldI h5 b (0+4) .u8 fun t =>
 ZE (t ==1) fun t6 =>
 Zs t6 (
 ldS h5 b (0+5) fun t7 =>
 sts h5 b4 0 [.string t7,.string (ByteArray.mk #[]),.string (ByteArray.mk #[]),.bool false] fun h8 =>
 ldS h8 b4 0 fun t9=>ldS h8 b4 (0+1) fun t10=>ldS h8 b4 (0+2) fun t11=>ldB h8 b4 (0+3) fun t12=>K (t9,t10,t11,t12,()) h8) (
 ZE (t ==2) fun t13 =>
 Zs t13 (
 ldS h5 b2 (0+2) fun t14 =>
 ldS h5 b (0+5) fun t15 =>
 Zs (!(XN t14 t15)) (
 sts h5 b4 0 [.string (ByteArray.mk #[]),.string (ByteArray.mk #[]),.string (ByteArray.mk #[]),.bool true] fun h16 =>
 ldS h16 b4 0 fun t17=>ldS h16 b4 (0+1) fun t18=>ldS h16 b4 (0+2) fun t19=>ldB h16 b4 (0+3) fun t20=>K (t17,t18,t19,t20,()) h16) (
 ldS h5 b2 (0+1) fun t21 =>
 ldS h5 b2 (0+2) fun t22 =>
 sts h5 b4 0 [.string t21,.string t22,.string (ByteArray.mk #[]),.bool false] fun h23 =>
 ldS h23 b4 0 fun t24=>ldS h23 b4 (0+1) fun t25=>ldS h23 b4 (0+2) fun t26=>ldB h23 b4 (0+3) fun t27=>K (t24,t25,t26,t27,()) h23)) (
 ldS h5 b (0+1) fun t28 =>
 Zs (!(XN t28 (ByteArray.mk #[100,101,102,97,117,108,116]))) (
 ldS h5 b2 (0+1) fun t29 =>
 ldS h5 b2 (0+3) fun t30 =>
 sts h5 b4 0 [.string t29,.string (ByteArray.mk #[]),.string t30,.bool false] fun h31 =>
 ldS h31 b4 0 fun t32=>ldS h31 b4 (0+1) fun t33=>ldS h31 b4 (0+2) fun t34=>ldB h31 b4 (0+3) fun t35=>K (t32,t33,t34,t35,()) h31) (
 ldS h5 b2 (0+1) fun t36 =>
 sts h5 b4 0 [.string t36,.string (ByteArray.mk #[]),.string (ByteArray.mk #[]),.bool false] fun h37 =>
 ldS h37 b4 0 fun t38=>ldS h37 b4 (0+1) fun t39=>ldS h37 b4 (0+2) fun t40=>ldB h37 b4 (0+3) fun t41=>K (t38,t39,t40,t41,()) h37)))
def Zak:ZkY:=Zed
abbrev Zo4:=Sl→(Int × ByteArray × ByteArray × ByteArray × Bool × Int × Sl × Unit)→(Sl→HP)→HP
def Zdv (f96:Zud) (f102:ZkY) (f101:Zo5) (l:Sl) (c:Int × ByteArray × ByteArray × ByteArray × Bool × Int × Sl × Unit) (K:Sl→HP) (h:Zd):Prop :=
 newC h [.int .i64 c.1,.string c.2.1,.string c.2.2.1,.string c.2.2.2.1,.bool c.2.2.2.2.1,.int .i64 c.2.2.2.2.2.1,.slice c.2.2.2.2.2.2.1.ptr c.2.2.2.2.2.2.1.len c.2.2.2.2.2.2.1.cap] 47 fun b h1 =>
 newC h1 [.slice none 0 0] 85 fun b2 h3 =>
 ldI h3 b 0 .i64 fun t=>ldS h3 b (0+1) fun t4=>ldS h3 b (0+2) fun t5=>ldS h3 b (0+3) fun t6=>ldB h3 b (0+4) fun t7=>ldI h3 b (0+5) .i64 fun t8=>ldL h3 b (0+6) fun t9 =>
 f96 l (t,t4,t5,t6,t7,t8,t9,()) (fun t10 h11 =>
 Zjf 2 (fun Y l12 K h=>f101 Y l12 t10.1 t10.2.1 K h) (fun l12 rec vs h13 k =>
 Zqk (fun a:Int × (ByteArray × ByteArray × Bool × Int × Int × ByteArray × Int × Int × Int × Bool × Int × Bool × Unit) × Unit=>[.int .i64 a.1,.agg #[.string a.2.1.1,.string a.2.1.2.1,.bool a.2.1.2.2.1,.int .i64 a.2.1.2.2.2.1,.int .u8 a.2.1.2.2.2.2.1,.string a.2.1.2.2.2.2.2.1,.int .u8 a.2.1.2.2.2.2.2.2.1,.int .i64 a.2.1.2.2.2.2.2.2.2.1,.int .i64 a.2.1.2.2.2.2.2.2.2.2.1,.bool a.2.1.2.2.2.2.2.2.2.2.2.1,.int .i64 a.2.1.2.2.2.2.2.2.2.2.2.2.1,.bool a.2.1.2.2.2.2.2.2.2.2.2.2.2.1]]) vs fun a =>
 Zf a.1 fun i =>
 newC h13 [.string (ByteArray.mk #[]),.string (ByteArray.mk #[]),.bool false,.int .i64 0,.int .u8 0,.string (ByteArray.mk #[]),.int .u8 0,.int .i64 0,.int .i64 0,.bool false,.int .i64 0,.bool false] 32 fun b14 h15 =>
 sts h15 b14 0 [.string a.2.1.1,.string a.2.1.2.1,.bool a.2.1.2.2.1,.int .i64 a.2.1.2.2.2.1,.int .u8 a.2.1.2.2.2.2.1,.string a.2.1.2.2.2.2.2.1,.int .u8 a.2.1.2.2.2.2.2.2.1,.int .i64 a.2.1.2.2.2.2.2.2.2.1,.int .i64 a.2.1.2.2.2.2.2.2.2.2.1,.bool a.2.1.2.2.2.2.2.2.2.2.2.1,.int .i64 a.2.1.2.2.2.2.2.2.2.2.2.2.1,.bool a.2.1.2.2.2.2.2.2.2.2.2.2.2.1] fun h16 =>
 Zmk rec l12 h16 fun h17 =>
 ldS h17 b14 0 fun t18=>ldS h17 b14 (0+1) fun t19=>ldB h17 b14 (0+2) fun t20=>ldI h17 b14 (0+3) .i64 fun t21=>ldI h17 b14 (0+4) .u8 fun t22=>ldS h17 b14 (0+5) fun t23=>ldI h17 b14 (0+6) .u8 fun t24=>ldI h17 b14 (0+7) .i64 fun t25=>ldI h17 b14 (0+8) .i64 fun t26=>ldB h17 b14 (0+9) fun t27=>ldI h17 b14 (0+10) .i64 fun t28=>ldB h17 b14 (0+11) fun t29 =>
 ldI h17 b 0 .i64 fun t30=>ldS h17 b (0+1) fun t31=>ldS h17 b (0+2) fun t32=>ldS h17 b (0+3) fun t33=>ldB h17 b (0+4) fun t34=>ldI h17 b (0+5) .i64 fun t35=>ldL h17 b (0+6) fun t36 =>
 f102 (t18,t19,t20,t21,t22,t23,t24,t25,t26,t27,t28,t29,()) (t30,t31,t32,t33,t34,t35,t36,()) (fun t37 h38 =>
 Zs (!t37.2.2.2.1) (
 ldL h38 b2 0 fun t39 =>
 newC h38 [.int .i64 i] 3 fun b40 h41 =>
 rdS ⟨some ⟨b40,0,none⟩,1,1⟩ 1 h41 fun new=>app 3 1 8 [.int .i64 0] t39 1 new h41 fun t42 h43 =>
 st h43 b2 0 (.slice t42.ptr t42.len t42.cap) fun h44 =>
 k none h44) (
 k none h38)) h17) h11 (fun p D h45 =>
 Zma p (
 ldL h45 b2 0 fun t46 =>
 ZeY D h45 fun h47=>K t46 h47) (fun x =>
 bif Nat.beq x 0 then (
 ldL h45 b2 0 fun t49 =>
 ZeY D h45 fun h50=>K t49 h50) else (False)) (
 ZeY D h45 fun h48=>K ⟨none,0,0⟩ h48))) h3
def ZaI:Zo4:=Zdv Zca Zak Zbp
abbrev Zo3:=ByteArray→((Int × ByteArray × ByteArray × ByteArray × Unit)→HP)→HP
def ZdJ (resource:ByteArray) (K:(Int × ByteArray × ByteArray × ByteArray × Unit)→HP) (h:Zd):Prop :=
 newC h [.int .u8 0,.string (ByteArray.mk #[]),.string (ByteArray.mk #[]),.string (ByteArray.mk #[])] 102 fun b h1 =>
 sts h1 b 0 [.int .u8 4,.string (ByteArray.mk #[]),.string resource,.string (ByteArray.mk #[])] fun h2 =>
 ldI h2 b 0 .u8 fun t=>ldS h2 b (0+1) fun t3=>ldS h2 b (0+2) fun t4=>ldS h2 b (0+3) fun t5=>K (t,t3,t4,t5,()) h2
def Zbn:Zo3:=ZdJ
abbrev Zo2:=(Option Addr)→(ByteArray × ByteArray × Bool × Int × Int × ByteArray × Int × Int × Int × Bool × Int × Bool × Unit)→((Option Addr)→HP)→HP
def ZcE (f102:ZkY) (f104:Zo3) (f76:Zrv) (w:Option Addr) (r:ByteArray × ByteArray × Bool × Int × Int × ByteArray × Int × Int × Int × Bool × Int × Bool × Unit) (K:(Option Addr)→HP) (h:Zd):Prop :=
 newC h [.string r.1,.string r.2.1,.bool r.2.2.1,.int .i64 r.2.2.2.1,.int .u8 r.2.2.2.2.1,.string r.2.2.2.2.2.1,.int .u8 r.2.2.2.2.2.2.1,.int .i64 r.2.2.2.2.2.2.2.1,.int .i64 r.2.2.2.2.2.2.2.2.1,.bool r.2.2.2.2.2.2.2.2.2.1,.int .i64 r.2.2.2.2.2.2.2.2.2.2.1,.bool r.2.2.2.2.2.2.2.2.2.2.2.1] 32 fun b h1 =>
 Zg7 (σ:=Option Addr × Unit) (fun s h32 =>
 (fun (l:Option Addr) =>
 Zg l fun b33 o34 =>
 ldS h32 b33 o34 fun t35 =>
 f104 t35 (fun t36 h37 =>
 newC h37 [.int .u8 0,.string (ByteArray.mk #[]),.string (ByteArray.mk #[]),.string (ByteArray.mk #[])] 102 fun b38 h39 =>
 sts h39 b38 0 [.int .u8 t36.1,.string t36.2.1,.string t36.2.2.1,.string t36.2.2.2.1] fun h40 =>
 Zg7 (σ:=Unit) (fun s64 h65 =>
 Zg w fun b66 o67 =>
 ldP h65 b66 o67 fun t68 =>
 Zg t68 fun b69 o70 =>
 ldP h65 b69 (o70+12) fun t71 =>
 ldI h65 b38 0 .u8 fun t72=>ldS h65 b38 (0+1) fun t73=>ldS h65 b38 (0+2) fun t74=>ldS h65 b38 (0+3) fun t75 =>
 f76 t71 (t72,t73,t74,t75,()) (fun t76 h77 =>
 ZR (Zo h77 [(b66,o67,.pointer t68)]) <|
 K t76 h77) h65) (fun J41 =>
 Zg l fun b42 o43 =>
 ldS h40 b42 (o43+2) fun t44 =>
 ZE (!(XN t44 (ByteArray.mk #[]))) fun t45 =>
 Zs t45 (
 Zg l fun b46 o47 =>
 ldS h40 b46 o47 fun t48 =>
 Zg l fun b49 o50 =>
 ldS h40 b49 (o50+2) fun t51 =>
 sts h40 b38 0 [.int .u8 5,.string (ByteArray.mk #[]),.string t48,.string t51] fun h52 =>
 J41 (()) h52) (
 Zg l fun b53 o54 =>
 ldS h40 b53 (o54+1) fun t55 =>
 ZE (!(XN t55 (ByteArray.mk #[]))) fun t56 =>
 Zs t56 (
 Zg l fun b57 o58 =>
 ldS h40 b57 (o58+1) fun t59 =>
 Zg l fun b60 o61 =>
 ldS h40 b60 o61 fun t62 =>
 sts h40 b38 0 [.int .u8 3,.string t59,.string t62,.string (ByteArray.mk #[])] fun h63 =>
 J41 (()) h63) (
 J41 (()) h40)))) h32) s.1) (fun J2 =>
 Zg w fun b3 o =>
 ldS h1 b 0 fun t=>ldS h1 b (0+1) fun t4=>ldB h1 b (0+2) fun t5=>ldI h1 b (0+3) .i64 fun t6=>ldI h1 b (0+4) .u8 fun t7=>ldS h1 b (0+5) fun t8=>ldI h1 b (0+6) .u8 fun t9=>ldI h1 b (0+7) .i64 fun t10=>ldI h1 b (0+8) .i64 fun t11=>ldB h1 b (0+9) fun t12=>ldI h1 b (0+10) .i64 fun t13=>ldB h1 b (0+11) fun t14 =>
 ldI h1 b3 (o+1) .i64 fun t15=>ldS h1 b3 (o+1+1) fun t16=>ldS h1 b3 (o+1+2) fun t17=>ldS h1 b3 (o+1+3) fun t18=>ldB h1 b3 (o+1+4) fun t19=>ldI h1 b3 (o+1+5) .i64 fun t20=>ldL h1 b3 (o+1+6) fun t21 =>
 Ziz (
 f102 (t,t4,t5,t6,t7,t8,t9,t10,t11,t12,t13,t14,()) (t15,t16,t17,t18,t19,t20,t21,()) (fun t22 h23 =>
 newC h23 [.string (ByteArray.mk #[]),.string (ByteArray.mk #[]),.string (ByteArray.mk #[]),.bool false] 346 fun b24 h25 =>
 sts h25 b24 0 [.string t22.1,.string t22.2.1,.string t22.2.2.1,.bool t22.2.2.2.1] fun h26 =>
 J2 (some ⟨b24,0,none⟩,()) h26) h1) (
 newC h1 [.string (ByteArray.mk #[]),.string (ByteArray.mk #[]),.string (ByteArray.mk #[]),.bool false] 346 fun b27 h28 =>
 ZR (Zo h28 [(b3,o+1,.int .i64 t15),(b3,o+1+1,.string t16),(b3,o+1+2,.string t17),(b3,o+1+3,.string t18),(b3,o+1+4,.bool t19),(b3,o+1+5,.int .i64 t20),(b3,o+1+6,.slice t21.ptr t21.len t21.cap)]) <|
 ZR (Zo h28 [(b,0,.string t),(b,0+1,.string t4),(b,0+2,.bool t5),(b,0+3,.int .i64 t6),(b,0+4,.int .u8 t7),(b,0+5,.string t8),(b,0+6,.int .u8 t9),(b,0+7,.int .i64 t10),(b,0+8,.int .i64 t11),(b,0+9,.bool t12),(b,0+10,.int .i64 t13),(b,0+11,.bool t14)]) <|
 f102 (t,t4,t5,t6,t7,t8,t9,t10,t11,t12,t13,t14,()) (t15,t16,t17,t18,t19,t20,t21,()) (fun t29 h30 =>
 sts h30 b27 0 [.string t29.1,.string t29.2.1,.string t29.2.2.1,.bool t29.2.2.2.1] fun h31 =>
 J2 (some ⟨b27,0,none⟩,()) h31) h28))
def Zax:Zo2:=ZcE Zak Zbn XB
abbrev Zo1:=(Option Addr)→Int→(Int→Int→HP)→HP
def ZbJ (f86:Zrq) (n:Option Addr) (at_:Int) (K:Int→Int→HP) (h:Zd):Prop :=
 Zf 0 fun t =>
 Zf 0 fun t1 =>
 Zs n.isNone (
 Zf 0 fun t2 =>
 Zf 1 fun t3 =>
 K t2 t3 h) (
 Zg n fun b o =>
 ldP h b (o+1) fun t4 =>
 f86 t4 at_ (fun t5 t6 h7 =>
 Zf t5 fun t8 =>
 Zf t6 fun t9 =>
 K t8 t9 h7) h)
def XC:Zo1:=ZbJ YP
abbrev Zo0:=(Option Addr)→Int→Int→Int→Int→(Bool→Int→HP)→HP
def Zb2:Zo0:=fun _ _ _ _ _ _ _=>False
abbrev ZoZ:=(Option Addr)→Int→Int→(Int→Bool→Int→HP)→HP
def Zcb:ZoZ:=fun _ _ _ _ _=>False
abbrev ZoY:=(Option Addr)→Int→Bool→Int→(Bool→HP)→HP
def ZdX (w:Option Addr) (wait:Int) (ok:Bool) (x:Int) (K:Bool→HP) (h:Zd):Prop :=
 Zg w fun b o =>
 ldI h b (o+11) .i64 fun t =>
 Zg w fun b1 o2 =>
 st h b1 (o2+11) (.int .i64 (Zl6 t wait)) fun h3 =>
 ZE ok fun t4 =>
 K t4 h3
def Zb3:ZoY:=ZdX
abbrev ZoX:=(Option Addr)→Int→Int→(Int→Int→HP)→HP
def Zb1:ZoX:=fun _ _ _ _ _=>False
abbrev ZoW:=(Option Addr)→((Option Addr)→HP)→HP
def Zcc:ZoW:=fun _ _ _=>False
abbrev ZoV:=(Option Addr)→Int→Int→Int→(Int→Bool→Int→HP)→HP
def Zc7:ZoV:=fun _ _ _ _ _ _=>False
abbrev ZoU:=(ByteArray × ByteArray × Bool × Int × Int × ByteArray × Int × Int × Int × Bool × Int × Bool × Unit)→Int→Int→Int→(Bool→HP)→HP
def ZdO (r:ByteArray × ByteArray × Bool × Int × Int × ByteArray × Int × Int × Int × Bool × Int × Bool × Unit) (passed:Int) (flight:Int) (count:Int) (K:Bool→HP) (h:Zd):Prop :=
 newC h [.string r.1,.string r.2.1,.bool r.2.2.1,.int .i64 r.2.2.2.1,.int .u8 r.2.2.2.2.1,.string r.2.2.2.2.2.1,.int .u8 r.2.2.2.2.2.2.1,.int .i64 r.2.2.2.2.2.2.2.1,.int .i64 r.2.2.2.2.2.2.2.2.1,.bool r.2.2.2.2.2.2.2.2.2.1,.int .i64 r.2.2.2.2.2.2.2.2.2.2.1,.bool r.2.2.2.2.2.2.2.2.2.2.2.1] 32 fun b h1 =>
 ldB h1 b (0+2) fun t =>
 Zs t (
 ldI h1 b (0+3) .i64 fun t2 =>
 ZE (decide (flight<t2)) fun t3 =>
 K t3 h1) (
 ldI h1 b (0+3) .i64 fun t4 =>
 Zf (IntKind.wrap .i64 (t4 - passed)) fun left =>
 Zs (decide (passed<0)) (
 ldI h1 b (0+3) .i64 fun t5 =>
 ZE (decide (left<t5)) fun t6 =>
 Zs t6 (
 K true h1) (
 Zs (decide (passed≥0)) (
 ldI h1 b (0+3) .i64 fun t7 =>
 ZE (decide (left>t7)) fun t8 =>
 Zs t8 (
 K false h1) (
 ZE (decide (count≤left)) fun t9 =>
 K t9 h1)) (
 ZE (decide (count≤left)) fun t10 =>
 K t10 h1))) (
 Zs (decide (passed≥0)) (
 ldI h1 b (0+3) .i64 fun t11 =>
 ZE (decide (left>t11)) fun t12 =>
 Zs t12 (
 K false h1) (
 ZE (decide (count≤left)) fun t13 =>
 K t13 h1)) (
 ZE (decide (count≤left)) fun t14 =>
 K t14 h1)))
def Zbq:ZoU:=ZdO
abbrev ZoT:=(Option Addr)→(ByteArray × ByteArray × Bool × Int × Int × ByteArray × Int × Int × Int × Bool × Int × Bool × Unit)→(Option Addr × Option Addr × Unit)→(Bool→HP)→HP
def ZcF (f105:Zo2) (f84:ZmA) (f106:Zo1) (f107:Zo0) (f108:ZoZ) (f109:ZoY) (f110:ZoX) (f111:ZoW) (f112:ZoV) (f89:Zmz) (f113:ZoU) (w:Option Addr) (r:ByteArray × ByteArray × Bool × Int × Int × ByteArray × Int × Int × Int × Bool × Int × Bool × Unit) (s:Option Addr × Option Addr × Unit) (K:Bool→HP) (h:Zd):Prop :=
 newC h [.string r.1,.string r.2.1,.bool r.2.2.1,.int .i64 r.2.2.2.1,.int .u8 r.2.2.2.2.1,.string r.2.2.2.2.2.1,.int .u8 r.2.2.2.2.2.2.1,.int .i64 r.2.2.2.2.2.2.2.1,.int .i64 r.2.2.2.2.2.2.2.2.1,.bool r.2.2.2.2.2.2.2.2.2.1,.int .i64 r.2.2.2.2.2.2.2.2.2.2.1,.bool r.2.2.2.2.2.2.2.2.2.2.2.1] 32 fun b h1 =>
 newC h1 [.pointer s.1,.pointer s.2.1] 126 fun b2 h3 =>
 ldS h3 b 0 fun t=>ldS h3 b (0+1) fun t4=>ldB h3 b (0+2) fun t5=>ldI h3 b (0+3) .i64 fun t6=>ldI h3 b (0+4) .u8 fun t7=>ldS h3 b (0+5) fun t8=>ldI h3 b (0+6) .u8 fun t9=>ldI h3 b (0+7) .i64 fun t10=>ldI h3 b (0+8) .i64 fun t11=>ldB h3 b (0+9) fun t12=>ldI h3 b (0+10) .i64 fun t13=>ldB h3 b (0+11) fun t14 =>
 f105 w (t,t4,t5,t6,t7,t8,t9,t10,t11,t12,t13,t14,()) (fun t15 h16 =>
 Zg w fun b17 o =>
 ldI h16 b17 (o+1) .i64 fun t18 =>
 f84 t15 t18 (fun t19 t20 h21 =>
 newC h21 [.int .i64 0,.int .i64 0,.int .i64 0,.int .i64 0,.int .i64 0,.int .i64 0] 169 fun b22 h23 =>
 sts h23 b22 0 [.int .i64 t19.1,.int .i64 t19.2.1,.int .i64 t19.2.2.1,.int .i64 t19.2.2.2.1,.int .i64 t19.2.2.2.2.1,.int .i64 t19.2.2.2.2.2.1] fun h24 =>
 Zf t20 fun x =>
 Zg w fun b25 o26 =>
 ldI h24 b25 (o26+1) .i64 fun t27 =>
 f106 t15 t27 (fun t28 t29 h30 =>
 newC h30 [.int .i64 0] 3 fun b31 h32 =>
 st h32 b31 0 (.int .i64 t28) fun h33 =>
 Zf t29 fun x34 =>
 Zg7 (σ:=Option Addr × Option Addr × Unit) (fun s54 h55 =>
 (fun (at_:Option Addr) (count:Option Addr) =>
 ldI h55 b (0+6) .u8 fun t56 =>
 ZE (t56 ==1) fun t57 =>
 Zs t57 (
 Zg w fun b58 o59 =>
 ldL h55 b58 (o59+9) fun t60 =>
 newC h55 [.func (.func 213) #[] #[.pointer (some ⟨b2,0,none⟩),.pointer at_,.pointer (some ⟨b31,0,none⟩),.pointer (some ⟨b22,0,none⟩),.pointer count]] 1 fun b61 h62 =>
 rdS ⟨some ⟨b61,0,none⟩,1,1⟩ 1 h62 fun new=>app 1 1 8 [.nilFunc] t60 1 new h62 fun t63 h64 =>
 Zg w fun b65 o66 =>
 st h64 b65 (o66+9) (.slice t63.ptr t63.len t63.cap) fun h67 =>
 ldP h67 b2 (0+1) fun t68 =>
 Zg at_ fun b69 o70=>ldI h67 b69 o70 .i64 fun t71 =>
 ldI h67 b31 0 .i64 fun t72 =>
 ldI h67 b22 0 .i64 fun t73 =>
 Zg count fun b74 o75=>ldI h67 b74 o75 .i64 fun t76 =>
 f107 t68 t71 t72 t73 t76 (fun t77 t78 h79 =>
 ZE t77 fun ok =>
 Zf t78 fun x80 =>
 ZE ok fun t81 =>
 K t81 h79) h67) (
 ZE (t56 ==2) fun t82 =>
 Zs t82 (
 Zg w fun b83 o84 =>
 ldL h55 b83 (o84+9) fun t85 =>
 newC h55 [.func (.func 216) #[] #[.pointer (some ⟨b2,0,none⟩),.pointer at_,.pointer count]] 1 fun b86 h87 =>
 rdS ⟨some ⟨b86,0,none⟩,1,1⟩ 1 h87 fun new90=>app 1 1 8 [.nilFunc] t85 1 new90 h87 fun t88 h89 =>
 Zg w fun b91 o92 =>
 st h89 b91 (o92+9) (.slice t88.ptr t88.len t88.cap) fun h93 =>
 ldP h93 b2 0 fun t94 =>
 Zg at_ fun b95 o96=>ldI h93 b95 o96 .i64 fun t97 =>
 Zg count fun b98 o99=>ldI h93 b98 o99 .i64 fun t100 =>
 f108 t94 t97 t100 (fun t101 t102 t103 h104 =>
 f109 w t101 t102 t103 (fun t105 h106 =>
 ZE t105 fun t107 =>
 K t107 h106) h104) h93) (
 ZE (t56 ==3) fun t108 =>
 Zs t108 (
 ldP h55 b2 (0+1) fun t109 =>
 Zg at_ fun b110 o111=>ldI h55 b110 o111 .i64 fun t112 =>
 ldI h55 b31 0 .i64 fun t113 =>
 f110 t109 t112 t113 (fun t114 t115 h116 =>
 newC h116 [.int .i64 0] 3 fun b117 h118 =>
 st h118 b117 0 (.int .i64 t114) fun h119 =>
 Zf t115 fun x120 =>
 ldI h119 b117 0 .i64 fun t121 =>
 st h119 b117 0 (.int .i64 (Zl6 t121 1)) fun h122 =>
 Zg w fun b123 o124 =>
 ldL h122 b123 (o124+9) fun t125 =>
 newC h122 [.func (.func 221) #[] #[.pointer (some ⟨b2,0,none⟩),.pointer at_,.pointer (some ⟨b31,0,none⟩),.pointer count,.pointer (some ⟨b117,0,none⟩)]] 1 fun b126 h127 =>
 rdS ⟨some ⟨b126,0,none⟩,1,1⟩ 1 h127 fun new130=>app 1 1 8 [.nilFunc] t125 1 new130 h127 fun t128 h129 =>
 Zg w fun b131 o132 =>
 st h129 b131 (o132+9) (.slice t128.ptr t128.len t128.cap) fun h133 =>
 ldP h133 b2 0 fun t134 =>
 Zg at_ fun b135 o136=>ldI h133 b135 o136 .i64 fun t137 =>
 Zg count fun b138 o139=>ldI h133 b138 o139 .i64 fun t140 =>
 ldI h133 b117 0 .i64 fun t141 =>
 f111 t134 (fun t142 h143 =>
 ZR (Zo h143 [(b117,0,.int .i64 t141)]) <|
 ZR (Zo h143 [(b138,o139,.int .i64 t140)]) <|
 ZR (Zo h143 [(b135,o136,.int .i64 t137)]) <|
 f112 t142 t137 t140 t141 (fun t144 t145 t146 h147 =>
 f109 w t144 t145 t146 (fun t148 h149 =>
 ZE t148 fun t150 =>
 K t150 h149) h147) h143) h133) h55) (
 ldS h55 b 0 fun t151=>ldS h55 b (0+1) fun t152=>ldB h55 b (0+2) fun t153=>ldI h55 b (0+3) .i64 fun t154=>ldI h55 b (0+4) .u8 fun t155=>ldS h55 b (0+5) fun t156=>ldI h55 b (0+6) .u8 fun t157=>ldI h55 b (0+7) .i64 fun t158=>ldI h55 b (0+8) .i64 fun t159=>ldB h55 b (0+9) fun t160=>ldI h55 b (0+10) .i64 fun t161=>ldB h55 b (0+11) fun t162 =>
 ldI h55 b22 0 .i64 fun t163 =>
 Zg count fun b164 o165=>ldI h55 b164 o165 .i64 fun t166 =>
 f89 t15 (fun t167 h168 =>
 ZR (Zo h168 [(b164,o165,.int .i64 t166)]) <|
 ZR (Zo h168 [(b22,0,.int .i64 t163)]) <|
 ZR (Zo h168 [(b,0,.string t151),(b,0+1,.string t152),(b,0+2,.bool t153),(b,0+3,.int .i64 t154),(b,0+4,.int .u8 t155),(b,0+5,.string t156),(b,0+6,.int .u8 t157),(b,0+7,.int .i64 t158),(b,0+8,.int .i64 t159),(b,0+9,.bool t160),(b,0+10,.int .i64 t161),(b,0+11,.bool t162)]) <|
 f113 (t151,t152,t153,t154,t155,t156,t157,t158,t159,t160,t161,t162,()) t163 t167 t166 (fun t169 h170 =>
 ZE t169 fun t171 =>
 K t171 h170) h168) h55)))) s54.1 s54.2.1) (fun J35 =>
 Zg w fun b36 o37 =>
 Zg w fun b38 o39 =>
 ldI h33 b36 (o37+1) .i64 fun t40 =>
 ldI h33 b38 (o39+1+5) .i64 fun t41 =>
 Ziz (
 newC h33 [.int .i64 0] 3 fun b42 h43 =>
 ZR (Zo h43 [(b38,o39+1+5,.int .i64 t41)]) <|
 ZR (Zo h43 [(b36,o37+1,.int .i64 t40)]) <|
 newC h43 [.int .i64 0] 3 fun b44 h45 =>
 ZR (Zo h45 [(b38,o39+1+5,.int .i64 t41)]) <|
 ZR (Zo h45 [(b36,o37+1,.int .i64 t40)]) <|
 st h45 b42 0 (.int .i64 t40) fun h46 =>
 ZR (Zo h46 [(b38,o39+1+5,.int .i64 t41)]) <|
 st h46 b44 0 (.int .i64 t41) fun h47 =>
 J35 (some ⟨b42,0,none⟩,some ⟨b44,0,none⟩,()) h47) (
 newC h33 [.int .i64 0] 3 fun b48 h49 =>
 ZR (Zo h49 [(b38,o39+1+5,.int .i64 t41)]) <|
 ZR (Zo h49 [(b36,o37+1,.int .i64 t40)]) <|
 newC h49 [.int .i64 0] 3 fun b50 h51 =>
 ZR (Zo h51 [(b38,o39+1+5,.int .i64 t41)]) <|
 ZR (Zo h51 [(b36,o37+1,.int .i64 t40)]) <|
 st h51 b50 0 (.int .i64 t40) fun h52 =>
 ZR (Zo h52 [(b38,o39+1+5,.int .i64 t41)]) <|
 st h52 b48 0 (.int .i64 t41) fun h53 =>
 J35 (some ⟨b50,0,none⟩,some ⟨b48,0,none⟩,()) h53))) h24) h16) h3
def Zay:ZoT:=ZcF Zax Yu XC Zb2 Zcb Zb3 Zb1 Zcc Zc7 ZY Zbq
abbrev ZoS:=(Option Addr)→(Int→Bool→HP)→HP
def Zbi (f103:Zo4) (f114:ZoT) (w:Option Addr) (K:Int→Bool→HP) (h:Zd):Prop :=
 Zf 0 fun t =>
 Zg w fun b o =>
 Zg w fun b1 o2 =>
 ldP h b o fun t3 =>
 Zg t3 fun b4 o5 =>
 ldL h b4 (o5+3) fun t6 =>
 ldI h b1 (o2+1) .i64 fun t7=>ldS h b1 (o2+1+1) fun t8=>ldS h b1 (o2+1+2) fun t9=>ldS h b1 (o2+1+3) fun t10=>ldB h b1 (o2+1+4) fun t11=>ldI h b1 (o2+1+5) .i64 fun t12=>ldL h b1 (o2+1+6) fun t13 =>
 f103 t6 (t7,t8,t9,t10,t11,t12,t13,()) (fun t14 h15 =>
 ZR (Zo h15 [(b,o,.pointer t3)]) <|
 YY (σ:=Int × Unit) (fun J16 s h17 =>
 (fun (s21:Int) =>
 Zs (decide (s21<(t14.len:Int))) (
 Xy t14.ptr t14.len s21 1 fun b18 o19 =>
 ldI h17 b18 o19 .i64 fun t20 =>
 Zf t20 fun i =>
 Zg w fun b21 o22 =>
 ldP h17 b21 o22 fun t23 =>
 Zg t23 fun b24 o25 =>
 ldL h17 b24 (o25+3) fun t26 =>
 Xy t26.ptr t26.len i 12 fun b27 o28 =>
 ldS h17 b27 o28 fun t29=>ldS h17 b27 (o28+1) fun t30=>ldB h17 b27 (o28+2) fun t31=>ldI h17 b27 (o28+3) .i64 fun t32=>ldI h17 b27 (o28+4) .u8 fun t33=>ldS h17 b27 (o28+5) fun t34=>ldI h17 b27 (o28+6) .u8 fun t35=>ldI h17 b27 (o28+7) .i64 fun t36=>ldI h17 b27 (o28+8) .i64 fun t37=>ldB h17 b27 (o28+9) fun t38=>ldI h17 b27 (o28+10) .i64 fun t39=>ldB h17 b27 (o28+11) fun t40 =>
 newC h17 [.string (ByteArray.mk #[]),.string (ByteArray.mk #[]),.bool false,.int .i64 0,.int .u8 0,.string (ByteArray.mk #[]),.int .u8 0,.int .i64 0,.int .i64 0,.bool false,.int .i64 0,.bool false] 32 fun b41 h42 =>
 sts h42 b41 0 [.string t29,.string t30,.bool t31,.int .i64 t32,.int .u8 t33,.string t34,.int .u8 t35,.int .i64 t36,.int .i64 t37,.bool t38,.int .i64 t39,.bool t40] fun h43 =>
 Zg7 (σ:=Unit) (fun s50 h51 =>
 Zg w fun b52 o53 =>
 ldS h51 b41 0 fun t54=>ldS h51 b41 (0+1) fun t55=>ldB h51 b41 (0+2) fun t56=>ldI h51 b41 (0+3) .i64 fun t57=>ldI h51 b41 (0+4) .u8 fun t58=>ldS h51 b41 (0+5) fun t59=>ldI h51 b41 (0+6) .u8 fun t60=>ldI h51 b41 (0+7) .i64 fun t61=>ldI h51 b41 (0+8) .i64 fun t62=>ldB h51 b41 (0+9) fun t63=>ldI h51 b41 (0+10) .i64 fun t64=>ldB h51 b41 (0+11) fun t65 =>
 ldP h51 b52 o53 fun t66 =>
 Zg t66 fun b67 o68 =>
 ldL h51 b67 (o68+8) fun t69 =>
 Xy t69.ptr t69.len i 2 fun b70 o71 =>
 ldP h51 b70 o71 fun t72=>ldP h51 b70 (o71+1) fun t73 =>
 f114 w (t54,t55,t56,t57,t58,t59,t60,t61,t62,t63,t64,t65,()) (t72,t73,()) (fun t74 h75 =>
 ZR (Zo h75 [(b67,o68+8,.slice t69.ptr t69.len t69.cap)]) <|
 ZR (Zo h75 [(b52,o53,.pointer t66)]) <|
 Zs (!t74) (
 Zf i fun t76 =>
 K t76 true h75) (
 J16 (IntKind.wrap .i64 (s21+1),()) h75)) h51) (fun J44 =>
 ldB h43 b41 (0+9) fun t45 =>
 Zs t45 (
 Zg w fun b46 o47 =>
 ldB h43 b46 (o47+8) fun t48 =>
 Zs t48 (
 J16 (IntKind.wrap .i64 (s21+1),()) h43) (
 ldB h43 b41 (0+11) fun t49 =>
 Zs (!t49) (
 J16 (IntKind.wrap .i64 (s21+1),()) h43) (
 J44 (()) h43))) (
 J44 (()) h43))) (
 Zf 0 fun t77 =>
 K t77 false h17)) s.1) (0,()) h15) h
def Xf:ZoS:=Zbi ZaI Zay
abbrev ZhE:=(Option Addr)→Int→(Int→HP)→HP
def Zbb (b:Option Addr) (at_:Int) (K:Int→HP) (h:Zd):Prop :=
 Zf 0 fun t =>
 ZE b.isNone fun t1 =>
 Zs t1 (
 Zf 1 fun t2 =>
 K t2 h) (
 Zs (decide (at_<0)) (
 Zf 2 fun t3 =>
 K t3 h) (
 ZE (decide (at_>1152921504606846976)) fun t4 =>
 Zs t4 (
 Zf 2 fun t5 =>
 K t5 h) (
 Zg b fun b6 o =>
 ldI h b6 (o+11) .i64 fun t7 =>
 ZE (decide (at_<t7)) fun t8 =>
 Zs t8 (
 Zf 7 fun t9 =>
 K t9 h) (
 Zf 0 fun t10 =>
 K t10 h))))
def Yh:ZhE:=Zbb
abbrev ZkX:=(Option Addr)→Int→(Bool→HP)→HP
def ZaB (b:Option Addr) (at_:Int) (K:Bool→HP) (h:Zd):Prop :=
 Zg b fun b1 o =>
 ldI h b1 (o+8) .u8 fun t =>
 Zs (t ==1) (
 K true h) (
 Zg b fun b2 o3 =>
 ldI h b2 (o3+8) .u8 fun t4 =>
 Zs (t4 ==2) (
 Zg b fun b5 o6 =>
 ldI h b5 (o6+9) .i64 fun t7 =>
 ZE (decide (at_≥t7)) fun t8 =>
 K t8 h) (
 K false h))
def Yv:ZkX:=ZaB
abbrev ZoR:=(Option Addr)→Int→(Bool→Int→HP)→HP
def Zbc (f116:ZhE) (f117:ZkX) (b:Option Addr) (at_:Int) (K:Bool→Int→HP) (h:Zd):Prop :=
 Zf 0 fun t =>
 f116 b at_ (fun t1 h2 =>
 Zf t1 fun e =>
 Zs (e !=0) (
 Zf e fun t3 =>
 K false t3 h2) (
 f117 b at_ (fun t4 h5 =>
 ZE t4 fun t6 =>
 Zf 0 fun t7 =>
 K t6 t7 h5) h2)) h
def Xn:ZoR:=Zbc Yh Yv
abbrev ZoQ:=Int→(Option Addr)→(Bool→HP)→HP
def Zbs (f118:ZoR) (i:Int) (a1:Option Addr) (K:Bool→HP) (h:Zd):Prop :=
 Zg a1 fun b o=>ldP h b o fun t =>
 Zg t fun b1 o2 =>
 ldP h b1 o2 fun t3 =>
 Zg t3 fun b4 o5 =>
 ldL h b4 (o5+8+1) fun t6 =>
 Xy t6.ptr t6.len i 2 fun b7 o8 =>
 ldP h b7 o8 fun t9=>ldI h b7 (o8+1) .i64 fun t10 =>
 newC h [.pointer none,.int .i64 0] 95 fun b11 h12 =>
 sts h12 b11 0 [.pointer t9,.int .i64 t10] fun h13 =>
 Zg a1 fun b14 o15=>ldP h13 b14 o15 fun t16 =>
 Zg a1 fun b17 o18=>ldP h13 b17 o18 fun t19 =>
 Zg t19 fun b20 o21 =>
 ldL h13 b20 (o21+9) fun t22 =>
 newC h13 [.func (.func 174) #[] #[.pointer (some ⟨b11,0,none⟩),.pointer a1]] 1 fun b23 h24 =>
 ZR (Zo h24 [(b20,o21+9,.slice t22.ptr t22.len t22.cap)]) <|
 ZR (Zo h24 [(b17,o18,.pointer t19)]) <|
 ZR (Zo h24 [(b14,o15,.pointer t16)]) <|
 rdS ⟨some ⟨b23,0,none⟩,1,1⟩ 1 h24 fun new=>app 1 1 8 [.nilFunc] t22 1 new h24 fun t25 h26 =>
 ZR (Zo h26 [(b17,o18,.pointer t19)]) <|
 ZR (Zo h26 [(b14,o15,.pointer t16)]) <|
 Zg t16 fun b27 o28 =>
 st h26 b27 (o28+9) (.slice t25.ptr t25.len t25.cap) fun h29 =>
 ldP h29 b11 0 fun t30 =>
 Zg a1 fun b31 o32=>ldP h29 b31 o32 fun t33 =>
 Zg t33 fun b34 o35 =>
 ldI h29 b34 (o35+1) .i64 fun t36 =>
 f118 t30 t36 (fun t37 t38 h39 =>
 ZR (Zo h39 [(b31,o32,.pointer t33)]) <|
 ZE t37 fun ok =>
 Zf t38 fun x =>
 ZE (!ok) fun t40 =>
 K t40 h39) h29
def Xv:ZoQ:=Zbs Xn
abbrev ZoP:=(Option Addr)→Int→(Option Addr × Unit)→(Int→Bool→HP)→HP
def Ym (f69:ZkP) (f119:ZoQ) (w:Option Addr) (kind:Int) (blocks:Option Addr × Unit) (K:Int→Bool→HP) (h:Zd):Prop :=
 Zf 0 fun t =>
 Zg w fun b o =>
 Zg w fun b1 o2 =>
 ldP h b o fun t3 =>
 Zg t3 fun b4 o5 =>
 ldL h b4 (o5+3) fun t6=>ldL h b4 (o5+3+1) fun t7=>ldL h b4 (o5+3+2) fun t8=>ldL h b4 (o5+3+3) fun t9=>ldL h b4 (o5+3+4) fun t10 =>
 ldS h b1 (o2+1+1) fun t11 =>
 f69 (t6,t7,t8,t9,t10,()) kind t11 (fun t12 h13 =>
 ZR (Zo h13 [(b,o,.pointer t3)]) <|
 YY (σ:=Int × Unit) (fun J14 s h15 =>
 (fun (s25:Int) =>
 Zs (decide (s25<(t12.len:Int))) (
 Xy t12.ptr t12.len s25 1 fun b16 o17 =>
 ldI h15 b16 o17 .i64 fun t18 =>
 Zf t18 fun i =>
 f119 i blocks.1 (fun t19 h20 =>
 Zs t19 (
 Zf i fun t21 =>
 K t21 true h20) (
 J14 (IntKind.wrap .i64 (s25+1),()) h20)) h15) (
 Zf 0 fun t22 =>
 K t22 false h15)) s.1) (0,()) h13) h
def ZS:ZoP:=Ym Y7 Xv
abbrev ZoO:=(Option Addr)→(Int→Bool→HP)→HP
def ZaK (f120:ZoP) (w:Option Addr) (K:Int→Bool→HP) (h:Zd):Prop :=
 newC h [.pointer w] 142 fun b h1 =>
 Zf 0 fun t =>
 ldP h1 b 0 fun t2 =>
 f120 t2 2 (some ⟨b,0,none⟩,()) (fun t3 t4 h5 =>
 Zf t3 fun t6 =>
 ZE t4 fun t7 =>
 K t6 t7 h5) h1
def Y3:ZoO:=ZaK ZS
abbrev ZoN:=(Option Addr)→((Int × Int × Int × Unit)→Bool→HP)→HP
def Zbw (f72:Zur) (f92:Zuh) (f95:Zue) (f115:ZoS) (f121:ZoO) (w:Option Addr) (K:(Int × Int × Int × Unit)→Bool→HP) (h:Zd):Prop :=
 newC h [.int .u8 0,.int .i64 0,.int .i64 0] 42 fun b h1 =>
 ZR (ZH (.func (.func 100) #[] #[])=true) <|
 ZR (ZH (.func (.func 101) #[] #[])=true) <|
 ZR (ZH (.func (.func 102) #[] #[])=true) <|
 ZR (ZH (.func (.func 103) #[] #[])=true) <|
 ZR (ZH (.func (.func 104) #[] #[])=true) <|
 newC h1 [.int .u8 0,.nilFunc,.int .u8 0,.nilFunc,.int .u8 0,.nilFunc,.int .u8 0,.nilFunc,.int .u8 0,.nilFunc] 228 fun b2 h3 =>
 sts h3 b2 0 [.int .u8 1,.func (.func 100) #[] #[],.int .u8 2,.func (.func 101) #[] #[],.int .u8 3,.func (.func 102) #[] #[],.int .u8 4,.func (.func 103) #[] #[],.int .u8 5,.func (.func 104) #[] #[]] fun h4 =>
 ldI h4 b2 0 .u8 fun t=>ldV h4 b2 (0+1) fun t5=>ldI h4 b2 (0+2) .u8 fun t6=>ldV h4 b2 (0+3) fun t7=>ldI h4 b2 (0+4) .u8 fun t8=>ldV h4 b2 (0+5) fun t9=>ldI h4 b2 (0+6) .u8 fun t10=>ldV h4 b2 (0+7) fun t11=>ldI h4 b2 (0+8) .u8 fun t12=>ldV h4 b2 (0+9) fun t13 =>
 YY (σ:=Int × Unit) (fun J14 s h15 =>
 (fun (s16:Int) =>
 Zs (decide (s16<5)) (
 ZAu 5 s16 fun j=>exG (.agg ⟨([.int .u8 t,t5,.int .u8 t6,t7,.int .u8 t8,t9,.int .u8 t10,t11,.int .u8 t12,t13].drop (j*2)).take 2⟩) (fun t16:Int × Value × Unit=> .agg #[.int .u8 t16.1,t16.2.1]) fun t16 =>
 newC h15 [.int .u8 0,.nilFunc] 227 fun b17 h18 =>
 sts h18 b17 0 [.int .u8 t16.1,t16.2.1] fun h19 =>
 ldV h19 b17 (0+1) fun t20 =>
 (ZtI t20 100 <| f72 w (fun t22 t23 h21 =>
 Zf t22 fun i =>
 ZE t23 fun blocked =>
 Zs blocked (
 ldI h21 b17 0 .u8 fun t28 =>
 sts h21 b 0 [.int .u8 t28,.int .i64 i,.int .i64 0] fun h29 =>
 ldI h29 b 0 .u8 fun t30=>ldI h29 b (0+1) .i64 fun t31=>ldI h29 b (0+2) .i64 fun t32=>K (t30,t31,t32,()) true h29) (
 J14 (IntKind.wrap .i64 (s16+1),()) h21)) h19)∨(
 (ZtI t20 101 <| f92 w (fun t22 t23 h21 =>
 Zf t22 fun i =>
 ZE t23 fun blocked =>
 Zs blocked (
 ldI h21 b17 0 .u8 fun t28 =>
 sts h21 b 0 [.int .u8 t28,.int .i64 i,.int .i64 0] fun h29 =>
 ldI h29 b 0 .u8 fun t30=>ldI h29 b (0+1) .i64 fun t31=>ldI h29 b (0+2) .i64 fun t32=>K (t30,t31,t32,()) true h29) (
 J14 (IntKind.wrap .i64 (s16+1),()) h21)) h19)∨(
 (ZtI t20 102 <| f95 w (fun t22 t23 h21 =>
 Zf t22 fun i =>
 ZE t23 fun blocked =>
 Zs blocked (
 ldI h21 b17 0 .u8 fun t28 =>
 sts h21 b 0 [.int .u8 t28,.int .i64 i,.int .i64 0] fun h29 =>
 ldI h29 b 0 .u8 fun t30=>ldI h29 b (0+1) .i64 fun t31=>ldI h29 b (0+2) .i64 fun t32=>K (t30,t31,t32,()) true h29) (
 J14 (IntKind.wrap .i64 (s16+1),()) h21)) h19)∨(
 (ZtI t20 103 <| f115 w (fun t22 t23 h21 =>
 Zf t22 fun i =>
 ZE t23 fun blocked =>
 Zs blocked (
 ldI h21 b17 0 .u8 fun t28 =>
 sts h21 b 0 [.int .u8 t28,.int .i64 i,.int .i64 0] fun h29 =>
 ldI h29 b 0 .u8 fun t30=>ldI h29 b (0+1) .i64 fun t31=>ldI h29 b (0+2) .i64 fun t32=>K (t30,t31,t32,()) true h29) (
 J14 (IntKind.wrap .i64 (s16+1),()) h21)) h19)∨(
 (ZtI t20 104 <| f121 w (fun t22 t23 h21 =>
 Zf t22 fun i =>
 ZE t23 fun blocked =>
 Zs blocked (
 ldI h21 b17 0 .u8 fun t28 =>
 sts h21 b 0 [.int .u8 t28,.int .i64 i,.int .i64 0] fun h29 =>
 ldI h29 b 0 .u8 fun t30=>ldI h29 b (0+1) .i64 fun t31=>ldI h29 b (0+2) .i64 fun t32=>K (t30,t31,t32,()) true h29) (
 J14 (IntKind.wrap .i64 (s16+1),()) h21)) h19)∨(
 False)))))) (
 sts h15 b 0 [.int .u8 0,.int .i64 0,.int .i64 0] fun h33 =>
 ldI h33 b 0 .u8 fun t34=>ldI h33 b (0+1) .i64 fun t35=>ldI h33 b (0+2) .i64 fun t36=>K (t34,t35,t36,()) false h33)) s.1) (0,()) h4
def Xp:ZoN:=Zbw Xe YQ Xq Xf Y3
abbrev ZhD:=Int→(Bool→HP)→HP
def ZeI (at_:Int) (K:Bool→HP) (h:Zd):Prop :=
 Zs (decide (at_≥0)) (
 ZE (decide (at_≤1152921504606846976)) fun t =>
 K t h) (
 K false h)
def Xs:ZhD:=ZeI
abbrev ZoM:=(Int × ByteArray × ByteArray × ByteArray × Unit)→(Option Addr)→(Bool→HP)→HP
def Zci (f89:Zmz) (k:Int × ByteArray × ByteArray × ByteArray × Unit) (a1:Option Addr) (K:Bool→HP) (h:Zd):Prop :=
 newC h [.int .u8 k.1,.string k.2.1,.string k.2.2.1,.string k.2.2.2.1] 102 fun b h1 =>
 Zg a1 fun b2 o=>ldP h1 b2 o fun t =>
 Zg t fun b3 o4 =>
 ldM h1 b3 o4 fun t5 =>
 ldI h1 b 0 .u8 fun t6=>ldS h1 b (0+1) fun t7=>ldS h1 b (0+2) fun t8=>ldS h1 b (0+3) fun t9 =>
 ZbZ [(.int .u8),.string,.string,.string] h1 t5 [.int .u8 t6,.string t7,.string t8,.string t9] fun r=>asP (r.getD (.pointer none)) fun t10 =>
 ZR (Zo h1 [(b2,o,.pointer t)]) <|
 f89 t10 (fun t11 h12 =>
 ZR (Zo h12 [(b2,o,.pointer t)]) <|
 ZE (decide (t11≥4096)) fun t13 =>
 K t13 h12) h1
def X8:ZoM:=Zci ZY
abbrev ZoL:=Sl→(Option Addr × Unit)→(Int→HP)→HP
def Ya (f124:ZoM) (s:Sl) (f:Option Addr × Unit) (K:Int→HP) (h:Zd):Prop :=
 Zf 0 fun t =>
 YY (σ:=Int × Unit) (fun J1 s2 h3 =>
 (fun (s8:Int) =>
 Zs (decide (s8<(s.len:Int))) (
 Zf s8 fun i =>
 Xy s.ptr s.len i 4 fun b o =>
 ldI h3 b o .u8 fun t4=>ldS h3 b (o+1) fun t5=>ldS h3 b (o+2) fun t6=>ldS h3 b (o+3) fun t7 =>
 f124 (t4,t5,t6,t7,()) f.1 (fun t8 h9 =>
 Zs t8 (
 Zf i fun t10 =>
 K t10 h9) (
 J1 (IntKind.wrap .i64 (s8+1),()) h9)) h3) (
 Zf (-1) fun t11 =>
 K t11 h3)) s2.1) (0,()) h
def ZN:ZoL:=Ya X8
abbrev ZkW:=Sl→(Option Addr × Unit)→(Bool→HP)→HP
def Z3 (f125:ZoL) (s:Sl) (f:Option Addr × Unit) (K:Bool→HP) (h:Zd):Prop :=
 f125 s (f.1,()) (fun t h1 =>
 ZE (decide (t≥0)) fun t2 =>
 K t2 h1) h
def Zn:ZkW:=Z3 ZN
abbrev ZkV:=Int→(Bool→HP)→HP
def ZeJ (at_:Int) (K:Bool→HP) (h:Zd):Prop :=
 Zs (decide (at_≥0)) (
 ZE (decide (at_≤1152921504606846976)) fun t =>
 K t h) (
 K false h)
def ZaH:ZkV:=ZeJ
abbrev ZoK:=(Option Addr)→(Int→HP)→HP
def Zam (w:Option Addr) (K:Int→HP) (h:Zd):Prop :=
 Zf 0 fun t =>
 Zs w.isNone (
 Zf 0 fun t1 =>
 K t1 h) (
 Zg w fun b o =>
 ldI h b (o+2) .i64 fun t2 =>
 Zf t2 fun t3 =>
 K t3 h)
def XI:ZoK:=Zam
abbrev ZhC:=(Option Addr)→Int→Sl→(Int→HP)→HP
def ZbI (f127:ZkV) (f128:ZoK) (n:Option Addr) (at_:Int) (counts:Sl) (K:Int→HP) (h:Zd):Prop :=
 Zf 0 fun t =>
 Zs n.isNone (
 Zf 1 fun t1 =>
 K t1 h) (
 f127 at_ (fun t2 h3 =>
 Zs (!t2) (
 Zf 2 fun t4 =>
 K t4 h3) (
 YY (σ:=Int × Unit) (fun J5 s h6 =>
 (fun (s16:Int) =>
 Zs (decide (s16<(counts.len:Int))) (
 Xy counts.ptr counts.len s16 1 fun b o =>
 ldI h6 b o .i64 fun t7 =>
 Zf t7 fun c =>
 Zs (decide (c<1)) (
 Zf 2 fun t8 =>
 K t8 h6) (
 Zs (decide (c>1099511627776)) (
 Zf 2 fun t9 =>
 K t9 h6) (
 J5 (IntKind.wrap .i64 (s16+1),()) h6))) (
 Zg n fun b10 o11 =>
 ldP h6 b10 o11 fun t12 =>
 f128 t12 (fun t13 h14 =>
 Zs (decide (at_<t13)) (
 Zf 7 fun t15 =>
 K t15 h14) (
 Zf 0 fun t16 =>
 K t16 h14)) h6)) s.1) (0,()) h3)) h)
def YE:ZhC:=ZbI ZaH XI
abbrev ZkU:=(Int × Int × Int × Int × Int × Int × Unit)→(Bool→HP)→HP
def Zd2 (c:Int × Int × Int × Int × Int × Int × Unit) (K:Bool→HP) (h:Zd):Prop :=
 newC h [.int .i64 c.1,.int .i64 c.2.1,.int .i64 c.2.2.1,.int .i64 c.2.2.2.1,.int .i64 c.2.2.2.2.1,.int .i64 c.2.2.2.2.2.1] 169 fun b h1 =>
 ldI h1 b 0 .i64 fun t =>
 ldI h1 b (0+1) .i64 fun t2 =>
 ldI h1 b (0+2) .i64 fun t3 =>
 ldI h1 b (0+3) .i64 fun t4 =>
 ldI h1 b (0+4) .i64 fun t5 =>
 ldI h1 b (0+5) .i64 fun t6 =>
 newC h1 [.int .i64 t,.int .i64 t2,.int .i64 t3,.int .i64 t4,.int .i64 t5,.int .i64 t6] 3 fun b7 h8 =>
 YY (σ:=Int × Unit) (fun J9 s h10 =>
 (fun (s19:Int) =>
 Zs (decide (s19<(6:Int))) (
 Xy (some ⟨b7,0,none⟩) 6 s19 1 fun b11 o =>
 ldI h10 b11 o .i64 fun t12 =>
 Zf t12 fun n =>
 Zs (decide (n<0)) (
 K false h10) (
 Zs (decide (n>4611686018427387904)) (
 K false h10) (
 J9 (IntKind.wrap .i64 (s19+1),()) h10))) (
 ldI h10 b (0+3) .i64 fun t13 =>
 ldI h10 b (0+2) .i64 fun t14 =>
 Zs (decide (t13≤t14)) (
 ldI h10 b (0+5) .i64 fun t15 =>
 ldI h10 b (0+4) .i64 fun t16 =>
 Zs (decide (t15≤t16)) (
 ldI h10 b (0+2) .i64 fun t17 =>
 Zs (decide (t17>0)) (
 K true h10) (
 ldI h10 b (0+4) .i64 fun t18 =>
 ZE (t18 ==0) fun t19 =>
 K t19 h10)) (
 K false h10)) (
 K false h10))) s.1) (0,()) h8
def Zaj:ZkU:=Zd2
abbrev ZoJ:=Sl→((Int × Int × Int × Int × Int × Int × Unit)→HP)→HP
def ZeH (f130:ZkU) (f82:Zrs) (l:Sl) (K:(Int × Int × Int × Int × Int × Int × Unit)→HP) (h:Zd):Prop :=
 newC h [.int .i64 0,.int .i64 0,.int .i64 0,.int .i64 0,.int .i64 0,.int .i64 0] 169 fun b h1 =>
 newC h1 [.int .i64 0,.int .i64 0,.int .i64 0,.int .i64 0,.int .i64 0,.int .i64 0] 169 fun b2 h3 =>
 YY (σ:=Int × Unit) (fun J4 s h5 =>
 (fun (s8:Int) =>
 Zs (decide (s8<(l.len:Int))) (
 Xy l.ptr l.len s8 6 fun b6 o =>
 ldI h5 b6 o .i64 fun t=>ldI h5 b6 (o+1) .i64 fun t7=>ldI h5 b6 (o+2) .i64 fun t8=>ldI h5 b6 (o+3) .i64 fun t9=>ldI h5 b6 (o+4) .i64 fun t10=>ldI h5 b6 (o+5) .i64 fun t11 =>
 newC h5 [.int .i64 0,.int .i64 0,.int .i64 0,.int .i64 0,.int .i64 0,.int .i64 0] 169 fun b12 h13 =>
 sts h13 b12 0 [.int .i64 t,.int .i64 t7,.int .i64 t8,.int .i64 t9,.int .i64 t10,.int .i64 t11] fun h14 =>
 ldI h14 b12 0 .i64 fun t15=>ldI h14 b12 (0+1) .i64 fun t16=>ldI h14 b12 (0+2) .i64 fun t17=>ldI h14 b12 (0+3) .i64 fun t18=>ldI h14 b12 (0+4) .i64 fun t19=>ldI h14 b12 (0+5) .i64 fun t20 =>
 f130 (t15,t16,t17,t18,t19,t20,()) (fun t21 h22 =>
 Zs t21 (
 ldI h22 b2 0 .i64 fun t23=>ldI h22 b2 (0+1) .i64 fun t24=>ldI h22 b2 (0+2) .i64 fun t25=>ldI h22 b2 (0+3) .i64 fun t26=>ldI h22 b2 (0+4) .i64 fun t27=>ldI h22 b2 (0+5) .i64 fun t28 =>
 ldI h22 b12 0 .i64 fun t29=>ldI h22 b12 (0+1) .i64 fun t30=>ldI h22 b12 (0+2) .i64 fun t31=>ldI h22 b12 (0+3) .i64 fun t32=>ldI h22 b12 (0+4) .i64 fun t33=>ldI h22 b12 (0+5) .i64 fun t34 =>
 f82 (t23,t24,t25,t26,t27,t28,()) (t29,t30,t31,t32,t33,t34,()) (fun t35 h36 =>
 sts h36 b2 0 [.int .i64 t35.1,.int .i64 t35.2.1,.int .i64 t35.2.2.1,.int .i64 t35.2.2.2.1,.int .i64 t35.2.2.2.2.1,.int .i64 t35.2.2.2.2.2.1] fun h37 =>
 J4 (IntKind.wrap .i64 (s8+1),()) h37) h22) (
 J4 (IntKind.wrap .i64 (s8+1),()) h22)) h14) (
 ldI h5 b2 0 .i64 fun t38=>ldI h5 b2 (0+1) .i64 fun t39=>ldI h5 b2 (0+2) .i64 fun t40=>ldI h5 b2 (0+3) .i64 fun t41=>ldI h5 b2 (0+4) .i64 fun t42=>ldI h5 b2 (0+5) .i64 fun t43 =>
 sts h5 b 0 [.int .i64 t38,.int .i64 t39,.int .i64 t40,.int .i64 t41,.int .i64 t42,.int .i64 t43] fun h44 =>
 ldI h44 b 0 .i64 fun t45=>ldI h44 b (0+1) .i64 fun t46=>ldI h44 b (0+2) .i64 fun t47=>ldI h44 b (0+3) .i64 fun t48=>ldI h44 b (0+4) .i64 fun t49=>ldI h44 b (0+5) .i64 fun t50=>K (t45,t46,t47,t48,t49,t50,()) h44)) s.1) (0,()) h3
def Zb0:ZoJ:=ZeH Zaj Zbl
abbrev ZkT:=(Option Addr)→Int→Sl→(Int→HP)→HP
def ZbP (f77:Zn8) (f130:ZkU) (f79:Zqy) (f131:ZoJ) (w:Option Addr) (at_:Int) (l:Sl) (K:Int→HP) (h:Zd):Prop :=
 Zf 0 fun t =>
 f77 w at_ (fun t1 h2 =>
 Zf t1 fun err =>
 Zs (err !=0) (
 Zf err fun t3 =>
 K t3 h2) (
 YY (σ:=Int × Unit) (fun J4 s h5 =>
 (fun (s21:Int) =>
 Zs (decide (s21<(l.len:Int))) (
 Xy l.ptr l.len s21 6 fun b o =>
 ldI h5 b o .i64 fun t6=>ldI h5 b (o+1) .i64 fun t7=>ldI h5 b (o+2) .i64 fun t8=>ldI h5 b (o+3) .i64 fun t9=>ldI h5 b (o+4) .i64 fun t10=>ldI h5 b (o+5) .i64 fun t11 =>
 newC h5 [.int .i64 0,.int .i64 0,.int .i64 0,.int .i64 0,.int .i64 0,.int .i64 0] 169 fun b12 h13 =>
 sts h13 b12 0 [.int .i64 t6,.int .i64 t7,.int .i64 t8,.int .i64 t9,.int .i64 t10,.int .i64 t11] fun h14 =>
 ldI h14 b12 0 .i64 fun t15=>ldI h14 b12 (0+1) .i64 fun t16=>ldI h14 b12 (0+2) .i64 fun t17=>ldI h14 b12 (0+3) .i64 fun t18=>ldI h14 b12 (0+4) .i64 fun t19=>ldI h14 b12 (0+5) .i64 fun t20 =>
 f130 (t15,t16,t17,t18,t19,t20,()) (fun t21 h22 =>
 Zs (!t21) (
 Zf 6 fun t23 =>
 K t23 h22) (
 J4 (IntKind.wrap .i64 (s21+1),()) h22)) h14) (
 Zg w fun b24 o25 =>
 st h5 b24 (o25+2) (.int .i64 at_) fun h26 =>
 f79 w at_ (fun t27 h28 =>
 Zf t27 fun k =>
 Zg7 (σ:=Unit) (fun s59 h60 =>
 Zg w fun b61 o62 =>
 ldM h60 b61 (o62+3) fun t63 =>
 rgM h60 t63 fun it h64 =>
 YY (σ:=Unit) (fun J65 s66 h67 =>
 Zg7 (σ:=Bool × Unit) (fun s70 h71 =>
 (fun (s61:Bool) =>
 Zs s61 (
 ZAw h71 it fun k72 v=>asI k72 .i64 fun t73=>exG v (fun t74:Int × Int × Int × Int × Int × Int × Unit=> .agg #[.int .i64 t74.1,.int .i64 t74.2.1,.int .i64 t74.2.2.1,.int .i64 t74.2.2.2.1,.int .i64 t74.2.2.2.2.1,.int .i64 t74.2.2.2.2.2.1]) fun t74 =>
 Zf t73 fun old =>
 Zg w fun b75 o76 =>
 ldI h71 b75 (o76+1) .i64 fun t77 =>
 Zs (decide (old≤(IntKind.wrap .i64 (k - t77)))) (
 Zg w fun b78 o79 =>
 ldM h71 b78 (o79+3) fun t80 =>
 Zle (.int .i64) h71 t80 (.int .i64 old) fun h81 =>
 J65 (()) h81) (
 J65 (()) h71)) (
 Zf 0 fun t82 =>
 K t82 h71)) s70.1) (fun J68 =>
 Ztd h67 it (fun _ _ h69 =>
 J68 (true,()) h69) (
 J68 (false,()) h67))) (()) h64) (fun J29 =>
 Zg w fun b30 o31 =>
 ldM h28 b30 (o31+3) fun t32 =>
 Zid (.int .i64) h28 t32 (.int .i64 k) fun r=>exG (r.getD (.agg #[.int .i64 0,.int .i64 0,.int .i64 0,.int .i64 0,.int .i64 0,.int .i64 0])) (fun t33:Int × Int × Int × Int × Int × Int × Unit=> .agg #[.int .i64 t33.1,.int .i64 t33.2.1,.int .i64 t33.2.2.1,.int .i64 t33.2.2.2.1,.int .i64 t33.2.2.2.2.1,.int .i64 t33.2.2.2.2.2.1]) fun t33 =>
 newC h28 [.int .i64 t33.1,.int .i64 t33.2.1,.int .i64 t33.2.2.1,.int .i64 t33.2.2.2.1,.int .i64 t33.2.2.2.2.1,.int .i64 t33.2.2.2.2.2.1] 169 fun b34 h35 =>
 rdS l 6 h35 fun new=>app 169 6 48 [.int .i64 0,.int .i64 0,.int .i64 0,.int .i64 0,.int .i64 0,.int .i64 0] ⟨some ⟨b34,0,none⟩,1,1⟩ l.len new h35 fun t36 h37 =>
 f131 t36 (fun t38 h39 =>
 newC h39 [.int .i64 0,.int .i64 0,.int .i64 0,.int .i64 0,.int .i64 0,.int .i64 0] 169 fun b40 h41 =>
 sts h41 b40 0 [.int .i64 t38.1,.int .i64 t38.2.1,.int .i64 t38.2.2.1,.int .i64 t38.2.2.2.1,.int .i64 t38.2.2.2.2.1,.int .i64 t38.2.2.2.2.2.1] fun h42 =>
 ldI h42 b40 0 .i64 fun t43=>ldI h42 b40 (0+1) .i64 fun t44=>ldI h42 b40 (0+2) .i64 fun t45=>ldI h42 b40 (0+3) .i64 fun t46=>ldI h42 b40 (0+4) .i64 fun t47=>ldI h42 b40 (0+5) .i64 fun t48 =>
 Zs (!(bif t43 ==0 then (bif t44 ==0 then (bif t45 ==0 then (bif t46 ==0 then (bif t47 ==0 then (bif t48 ==0 then true else false) else false) else false) else false) else false) else false)) (
 Zg w fun b49 o50 =>
 ldM h42 b49 (o50+3) fun t51 =>
 ldI h42 b40 0 .i64 fun t52=>ldI h42 b40 (0+1) .i64 fun t53=>ldI h42 b40 (0+2) .i64 fun t54=>ldI h42 b40 (0+3) .i64 fun t55=>ldI h42 b40 (0+4) .i64 fun t56=>ldI h42 b40 (0+5) .i64 fun t57 =>
 Zib (.int .i64) h42 t51 (.int .i64 k) (.agg #[.int .i64 t52,.int .i64 t53,.int .i64 t54,.int .i64 t55,.int .i64 t56,.int .i64 t57]) fun h58 =>
 J29 (()) h58) (
 J29 (()) h42)) h37)) h26)) s.1) (0,()) h2)) h
def Y1:ZkT:=ZbP Yl Zaj ZU Zb0
abbrev ZhB:=(Option Addr)→Int→Sl→(HP)→HP
def Zdb (f132:ZkT) (n:Option Addr) (at_:Int) (c:Sl) (K:HP) (h:Zd):Prop :=
 Zg n fun b o =>
 ldP h b o fun t =>
 f132 t at_ c (fun t1 h2 =>
 Zg n fun b3 o4 =>
 ldP h2 b3 (o4+1) fun t5 =>
 f132 t5 at_ c (fun t6 h7 =>
 K h7) h2) h
def YW:ZhB:=Zdb Y1
abbrev ZoI:=(Option Addr)→Int→Sl→(Int→HP)→HP
def ZcD (f129:ZhC) (f133:ZhB) (n:Option Addr) (at_:Int) (counts:Sl) (K:Int→HP) (h:Zd):Prop :=
 Zf 0 fun t =>
 f129 n at_ counts (fun t1 h2 =>
 Zf t1 fun e =>
 Zs (e !=0) (
 Zf e fun t3 =>
 K t3 h2) (
 YY (σ:=Sl × Int × Unit) (fun J4 s h5 =>
 (fun (l:Sl) (s20:Int) =>
 Zs (decide (s20<(counts.len:Int))) (
 Xy counts.ptr counts.len s20 1 fun b o =>
 ldI h5 b o .i64 fun t6 =>
 Zf t6 fun c =>
 newC h5 [.int .i64 0,.int .i64 c,.int .i64 0,.int .i64 0,.int .i64 0,.int .i64 0] 169 fun b7 h8 =>
 rdS ⟨some ⟨b7,0,none⟩,1,1⟩ 6 h8 fun new=>app 169 6 48 [.int .i64 0,.int .i64 0,.int .i64 0,.int .i64 0,.int .i64 0,.int .i64 0] l 1 new h8 fun t9 h10 =>
 J4 (t9,IntKind.wrap .i64 (s20+1),()) h10) (
 f133 n at_ l (fun h11 =>
 Zf 0 fun t12 =>
 K t12 h11) h5)) s.1 s.2.1) (⟨none,0,0⟩,0,()) h2)) h
def Zaw:ZoI:=ZcD YE YW
abbrev ZoH:=(Option Addr)→(Option Addr)→(Int→HP)→HP
def ZbQ (f134:ZoI) (n:Option Addr) (a1:Option Addr) (K:Int→HP) (h:Zd):Prop :=
 Zf 0 fun t =>
 Zg a1 fun b o =>
 ldI h b o .i64 fun t1 =>
 Zg a1 fun b2 o3 =>
 ldI h b2 (o3+5) .i64 fun t4 =>
 newC h [.int .i64 t4] 3 fun b5 h6 =>
 f134 n t1 ⟨some ⟨b5,0,none⟩,1,1⟩ (fun t7 h8 =>
 Zf t7 fun t9 =>
 K t9 h8) h6
def XT:ZoH:=ZbQ Zaw
abbrev ZoG:=(Option Addr)→(Int × ByteArray × ByteArray × ByteArray × Bool × Int × Sl × Unit)→Bool→(Option Addr × Unit)→(Int→HP)→HP
def XX (f59:ZkQ) (f123:ZhD) (f63:Zoa) (f126:ZkW) (f65:Zn9) (f135:ZoH) (t:Option Addr) (c:Int × ByteArray × ByteArray × ByteArray × Bool × Int × Sl × Unit) (full:Bool) (one:Option Addr × Unit) (K:Int→HP) (h:Zd):Prop :=
 newC h [.pointer t] 71 fun b h1 =>
 newC h1 [.int .i64 c.1,.string c.2.1,.string c.2.2.1,.string c.2.2.2.1,.bool c.2.2.2.2.1,.int .i64 c.2.2.2.2.2.1,.slice c.2.2.2.2.2.2.1.ptr c.2.2.2.2.2.2.1.len c.2.2.2.2.2.2.1.cap] 47 fun b2 h3 =>
 Zf 0 fun t4 =>
 ldP h3 b 0 fun t5 =>
 Zs t5.isNone (
 Zf 1 fun t6 =>
 K t6 h3) (
 ldI h3 b2 0 .i64 fun t7=>ldS h3 b2 (0+1) fun t8=>ldS h3 b2 (0+2) fun t9=>ldS h3 b2 (0+3) fun t10=>ldB h3 b2 (0+4) fun t11=>ldI h3 b2 (0+5) .i64 fun t12=>ldL h3 b2 (0+6) fun t13 =>
 f59 (t7,t8,t9,t10,t11,t12,t13,()) (fun t14 t15 h16 =>
 Zf t15 fun e =>
 ZE (e !=0) fun t17 =>
 Zs t17 (
 Zf e fun t18 =>
 K t18 h16) (
 ldI h16 b2 0 .i64 fun t19 =>
 f123 t19 (fun t20 h21 =>
 Zs (!t20) (
 Zf 2 fun t22 =>
 K t22 h21) (
 ldI h21 b2 (0+5) .i64 fun t23 =>
 Zs (decide (t23<1)) (
 Zf 2 fun t24 =>
 K t24 h21) (
 ldI h21 b2 (0+5) .i64 fun t25 =>
 ZE (decide (t25>1099511627776)) fun t26 =>
 Zs t26 (
 Zf 2 fun t27 =>
 K t27 h21) (
 ldI h21 b2 0 .i64 fun t28 =>
 ldP h21 b 0 fun t29 =>
 Zg t29 fun b30 o =>
 ldI h21 b30 (o+2) .i64 fun t31 =>
 ZE (decide (t28<t31)) fun t32 =>
 Zs t32 (
 Zf 7 fun t33 =>
 K t33 h21) (
 ldP h21 b 0 fun t34 =>
 Zg t34 fun b35 o36 =>
 ldP h21 b 0 fun t37 =>
 Zg t37 fun b38 o39 =>
 ldL h21 b38 (o39+1) fun t40 =>
 f63 (some ⟨b35,o36,none⟩) t14 (fun t41 h42 =>
 ZR (Zo h42 [(b38,o39+1,.slice t40.ptr t40.len t40.cap)]) <|
 ZR (Zo h42 [(b,0,.pointer t37)]) <|
 ZR (Zo h42 [(b,0,.pointer t34)]) <|
 ZE (decide (t41>(IntKind.wrap .i64 ((512:Int) - (t40.len:Int))))) fun t43 =>
 Zs t43 (
 Zf 3 fun t44 =>
 K t44 h42) (
 Zg7 (σ:=Unit) (fun s h49 =>
 YY (σ:=Int × Unit) (fun J50 s51 h52 =>
 (fun (s69:Int) =>
 Zs (decide (s69<(t14.len:Int))) (
 Xy t14.ptr t14.len s69 4 fun b53 o54 =>
 ldI h52 b53 o54 .u8 fun t55=>ldS h52 b53 (o54+1) fun t56=>ldS h52 b53 (o54+2) fun t57=>ldS h52 b53 (o54+3) fun t58 =>
 newC h52 [.int .u8 0,.string (ByteArray.mk #[]),.string (ByteArray.mk #[]),.string (ByteArray.mk #[])] 102 fun b59 h60 =>
 sts h60 b59 0 [.int .u8 t55,.string t56,.string t57,.string t58] fun h61 =>
 ldP h61 b 0 fun t62 =>
 Zg t62 fun b63 o64 =>
 ldI h61 b59 0 .u8 fun t65=>ldS h61 b59 (0+1) fun t66=>ldS h61 b59 (0+2) fun t67=>ldS h61 b59 (0+3) fun t68 =>
 f65 (some ⟨b63,o64,none⟩) (t65,t66,t67,t68,()) (fun h69 =>
 ZR (Zo h69 [(b,0,.pointer t62)]) <|
 ldP h69 b 0 fun t70 =>
 Zg t70 fun b71 o72 =>
 ldM h69 b71 o72 fun t73 =>
 ldI h69 b59 0 .u8 fun t74=>ldS h69 b59 (0+1) fun t75=>ldS h69 b59 (0+2) fun t76=>ldS h69 b59 (0+3) fun t77 =>
 ZbZ [(.int .u8),.string,.string,.string] h69 t73 [.int .u8 t74,.string t75,.string t76,.string t77] fun r=>asP (r.getD (.pointer none)) fun t78 =>
 ZR (Zo h69 [(b,0,.pointer t70)]) <|
 f135 t78 one.1 (fun t79 h80 =>
 ZR (Zo h80 [(b,0,.pointer t70)]) <|
 J50 (IntKind.wrap .i64 (s69+1),()) h80) h69) h61) (
 ldP h52 b 0 fun t81 =>
 ldI h52 b2 0 .i64 fun t82 =>
 Zg t81 fun b83 o84 =>
 st h52 b83 (o84+2) (.int .i64 t82) fun h85 =>
 Zf 0 fun t86 =>
 K t86 h85)) s51.1) (0,()) h49) (fun J45 =>
 Zs full (
 f126 t14 (some ⟨b,0,none⟩,()) (fun t46 h47 =>
 Zs t46 (
 Zf 3 fun t48 =>
 K t48 h47) (
 J45 (()) h47)) h42) (
 J45 (()) h42)))) h21))))) h16)) h3)
def Y2:ZoG:=XX Xd Xs Yy Zn Yx XT
abbrev ZoF:=(Option Addr)→(Int × ByteArray × ByteArray × ByteArray × Bool × Int × Sl × Unit)→(Int→HP)→HP
def ZcB (f136:ZoG) (t:Option Addr) (c:Int × ByteArray × ByteArray × ByteArray × Bool × Int × Sl × Unit) (K:Int→HP) (h:Zd):Prop :=
 newC h [.int .i64 c.1,.string c.2.1,.string c.2.2.1,.string c.2.2.2.1,.bool c.2.2.2.2.1,.int .i64 c.2.2.2.2.2.1,.slice c.2.2.2.2.2.2.1.ptr c.2.2.2.2.2.2.1.len c.2.2.2.2.2.2.1.cap] 47 fun b h1 =>
 Zf 0 fun t2 =>
 ldI h1 b 0 .i64 fun t3=>ldS h1 b (0+1) fun t4=>ldS h1 b (0+2) fun t5=>ldS h1 b (0+3) fun t6=>ldB h1 b (0+4) fun t7=>ldI h1 b (0+5) .i64 fun t8=>ldL h1 b (0+6) fun t9 =>
 f136 t (t3,t4,t5,t6,t7,t8,t9,()) false (some ⟨b,0,none⟩,()) (fun t10 h11 =>
 Zf t10 fun t12 =>
 K t12 h11) h1
def Zau:ZoF:=ZcB Y2
abbrev ZoE:=(Option Addr)→Int→(Bool→Bool→Int→HP)→HP
def ZaQ (f116:ZhE) (f117:ZkX) (b:Option Addr) (at_:Int) (K:Bool→Bool→Int→HP) (h:Zd):Prop :=
 Zf 0 fun e =>
 f116 b at_ (fun t h1 =>
 Zf t fun e2 =>
 Zs (e2 !=0) (
 Zf e2 fun e3 =>
 K false false e3 h1) (
 Zg b fun b4 o =>
 st h1 b4 (o+11) (.int .i64 at_) fun h5 =>
 f117 b at_ (fun t6 h7 =>
 ZE t6 fun passes =>
 Zs passes (
 Zg b fun b8 o9 =>
 ldI h7 b8 (o9+8) .u8 fun t10 =>
 Zs (t10 ==2) (
 Zg b fun b11 o12 =>
 st h7 b11 (o12+8) (.int .u8 3) fun h13 =>
 ZE passes fun passes14 =>
 Zf 0 fun e15 =>
 K passes14 true e15 h13) (
 ZE passes fun passes16 =>
 Zf 0 fun e17 =>
 K passes16 false e17 h7)) (
 ZE passes fun passes18 =>
 Zf 0 fun e19 =>
 K passes18 false e19 h7)) h5)) h
def Xl:ZoE:=ZaQ Yh Yv
abbrev ZoD:=(Option Addr)→(Option Addr)→(HP)→HP
def ZaJ (f138:ZoE) (a0:Option Addr) (a1:Option Addr) (K:HP) (h:Zd):Prop :=
 Zg a0 fun b o =>
 ldP h b o fun t =>
 Zg a1 fun b1 o2=>ldP h b1 o2 fun t3 =>
 Zg t3 fun b4 o5 =>
 ldI h b4 (o5+1) .i64 fun t6 =>
 f138 t t6 (fun t7 t8 t9 h10 =>
 ZR (Zo h10 [(b1,o2,.pointer t3)]) <|
 ZE t7 fun x =>
 ZE t8 fun probe =>
 Zf t9 fun x11 =>
 Zs probe (
 Zg a0 fun b12 o13 =>
 Zg a1 fun b14 o15=>ldP h10 b14 o15 fun t16 =>
 Zg a1 fun b17 o18=>ldP h10 b17 o18 fun t19 =>
 Zg t19 fun b20 o21 =>
 ldL h10 b20 (o21+10) fun t22 =>
 ldI h10 b12 (o13+1) .i64 fun t23 =>
 newC h10 [.int .i64 t23] 3 fun b24 h25 =>
 ZR (Zo h25 [(b20,o21+10,.slice t22.ptr t22.len t22.cap)]) <|
 ZR (Zo h25 [(b17,o18,.pointer t19)]) <|
 ZR (Zo h25 [(b14,o15,.pointer t16)]) <|
 rdS ⟨some ⟨b24,0,none⟩,1,1⟩ 1 h25 fun new=>app 3 1 8 [.int .i64 0] t22 1 new h25 fun t26 h27 =>
 ZR (Zo h27 [(b17,o18,.pointer t19)]) <|
 ZR (Zo h27 [(b14,o15,.pointer t16)]) <|
 Zg t16 fun b28 o29 =>
 st h27 b28 (o29+10) (.slice t26.ptr t26.len t26.cap) fun h30 =>
 K h30) (
 K h10)) h
def Xg:ZoD:=ZaJ Xl
abbrev ZoB:=(Option Addr)→Int→Sl→(Int→HP)→HP
def Zdc (f129:ZhC) (f133:ZhB) (n:Option Addr) (at_:Int) (counts:Sl) (K:Int→HP) (h:Zd):Prop :=
 Zf 0 fun t =>
 f129 n at_ counts (fun t1 h2 =>
 Zf t1 fun e =>
 Zs (e !=0) (
 Zf e fun t3 =>
 K t3 h2) (
 Zg n fun b o =>
 ldI h2 b (o+2) .i64 fun t4 =>
 Zs (decide ((counts.len:Int)>(IntKind.wrap .i64 ((4096:Int) - t4)))) (
 Zf 3 fun t5 =>
 K t5 h2) (
 YY (σ:=Sl × Int × Unit) (fun J6 s h7 =>
 (fun (l:Sl) (s28:Int) =>
 Zs (decide (s28<(counts.len:Int))) (
 Xy counts.ptr counts.len s28 1 fun b8 o9 =>
 ldI h7 b8 o9 .i64 fun t10 =>
 Zf t10 fun c =>
 newC h7 [.int .i64 c,.int .i64 0,.int .i64 0,.int .i64 0,.int .i64 0,.int .i64 0] 169 fun b11 h12 =>
 rdS ⟨some ⟨b11,0,none⟩,1,1⟩ 6 h12 fun new=>app 169 6 48 [.int .i64 0,.int .i64 0,.int .i64 0,.int .i64 0,.int .i64 0,.int .i64 0] l 1 new h12 fun t13 h14 =>
 J6 (t13,IntKind.wrap .i64 (s28+1),()) h14) (
 f133 n at_ l (fun h15 =>
 Zg n fun b16 o17 =>
 ldI h15 b16 (o17+2) .i64 fun t18 =>
 Zg n fun b19 o20 =>
 st h15 b19 (o20+2) (.int .i64 (IntKind.wrap .i64 (t18+(counts.len:Int)))) fun h21 =>
 Zf 0 fun t22 =>
 K t22 h21) h7)) s.1 s.2.1) (⟨none,0,0⟩,0,()) h2))) h
def ZaU:ZoB:=Zdc YE YW
abbrev ZoA:=(Option Addr)→(Option Addr)→(Int→HP)→HP
def Zcj (f140:ZoB) (n:Option Addr) (a1:Option Addr) (K:Int→HP) (h:Zd):Prop :=
 Zf 0 fun t =>
 Zg a1 fun b o =>
 ldI h b o .i64 fun t1 =>
 Zg a1 fun b2 o3 =>
 ldI h b2 (o3+5) .i64 fun t4 =>
 newC h [.int .i64 t4] 3 fun b5 h6 =>
 f140 n t1 ⟨some ⟨b5,0,none⟩,1,1⟩ (fun t7 h8 =>
 Zf t7 fun t9 =>
 K t9 h8) h6
def X9:ZoA:=Zcj ZaU
abbrev Zoz:=(Option Addr)→(Int × ByteArray × ByteArray × ByteArray × Bool × Int × Sl × Unit)→Bool→(Option Addr × Unit)→(Int→HP)→HP
def YG (f59:ZkQ) (f123:ZhD) (f63:Zoa) (f126:ZkW) (f65:Zn9) (f141:ZoA) (t:Option Addr) (c:Int × ByteArray × ByteArray × ByteArray × Bool × Int × Sl × Unit) (full:Bool) (one:Option Addr × Unit) (K:Int→HP) (h:Zd):Prop :=
 newC h [.pointer t] 71 fun b h1 =>
 newC h1 [.int .i64 c.1,.string c.2.1,.string c.2.2.1,.string c.2.2.2.1,.bool c.2.2.2.2.1,.int .i64 c.2.2.2.2.2.1,.slice c.2.2.2.2.2.2.1.ptr c.2.2.2.2.2.2.1.len c.2.2.2.2.2.2.1.cap] 47 fun b2 h3 =>
 Zf 0 fun t4 =>
 ldP h3 b 0 fun t5 =>
 Zs t5.isNone (
 Zf 1 fun t6 =>
 K t6 h3) (
 ldI h3 b2 0 .i64 fun t7=>ldS h3 b2 (0+1) fun t8=>ldS h3 b2 (0+2) fun t9=>ldS h3 b2 (0+3) fun t10=>ldB h3 b2 (0+4) fun t11=>ldI h3 b2 (0+5) .i64 fun t12=>ldL h3 b2 (0+6) fun t13 =>
 f59 (t7,t8,t9,t10,t11,t12,t13,()) (fun t14 t15 h16 =>
 Zf t15 fun e =>
 ZE (e !=0) fun t17 =>
 Zs t17 (
 Zf e fun t18 =>
 K t18 h16) (
 ldI h16 b2 0 .i64 fun t19 =>
 f123 t19 (fun t20 h21 =>
 Zs (!t20) (
 Zf 2 fun t22 =>
 K t22 h21) (
 ldI h21 b2 (0+5) .i64 fun t23 =>
 Zs (decide (t23<1)) (
 Zf 2 fun t24 =>
 K t24 h21) (
 ldI h21 b2 (0+5) .i64 fun t25 =>
 ZE (decide (t25>1099511627776)) fun t26 =>
 Zs t26 (
 Zf 2 fun t27 =>
 K t27 h21) (
 ldI h21 b2 0 .i64 fun t28 =>
 ldP h21 b 0 fun t29 =>
 Zg t29 fun b30 o =>
 ldI h21 b30 (o+2) .i64 fun t31 =>
 ZE (decide (t28<t31)) fun t32 =>
 Zs t32 (
 Zf 7 fun t33 =>
 K t33 h21) (
 ldP h21 b 0 fun t34 =>
 Zg t34 fun b35 o36 =>
 ldP h21 b 0 fun t37 =>
 Zg t37 fun b38 o39 =>
 ldL h21 b38 (o39+1) fun t40 =>
 f63 (some ⟨b35,o36,none⟩) t14 (fun t41 h42 =>
 ZR (Zo h42 [(b38,o39+1,.slice t40.ptr t40.len t40.cap)]) <|
 ZR (Zo h42 [(b,0,.pointer t37)]) <|
 ZR (Zo h42 [(b,0,.pointer t34)]) <|
 ZE (decide (t41>(IntKind.wrap .i64 ((512:Int) - (t40.len:Int))))) fun t43 =>
 Zs t43 (
 Zf 3 fun t44 =>
 K t44 h42) (
 Zg7 (σ:=Unit) (fun s h49 =>
 YY (σ:=Int × Unit) (fun J50 s51 h52 =>
 (fun (s69:Int) =>
 Zs (decide (s69<(t14.len:Int))) (
 Xy t14.ptr t14.len s69 4 fun b53 o54 =>
 ldI h52 b53 o54 .u8 fun t55=>ldS h52 b53 (o54+1) fun t56=>ldS h52 b53 (o54+2) fun t57=>ldS h52 b53 (o54+3) fun t58 =>
 newC h52 [.int .u8 0,.string (ByteArray.mk #[]),.string (ByteArray.mk #[]),.string (ByteArray.mk #[])] 102 fun b59 h60 =>
 sts h60 b59 0 [.int .u8 t55,.string t56,.string t57,.string t58] fun h61 =>
 ldP h61 b 0 fun t62 =>
 Zg t62 fun b63 o64 =>
 ldI h61 b59 0 .u8 fun t65=>ldS h61 b59 (0+1) fun t66=>ldS h61 b59 (0+2) fun t67=>ldS h61 b59 (0+3) fun t68 =>
 f65 (some ⟨b63,o64,none⟩) (t65,t66,t67,t68,()) (fun h69 =>
 ZR (Zo h69 [(b,0,.pointer t62)]) <|
 ldP h69 b 0 fun t70 =>
 Zg t70 fun b71 o72 =>
 ldM h69 b71 o72 fun t73 =>
 ldI h69 b59 0 .u8 fun t74=>ldS h69 b59 (0+1) fun t75=>ldS h69 b59 (0+2) fun t76=>ldS h69 b59 (0+3) fun t77 =>
 ZbZ [(.int .u8),.string,.string,.string] h69 t73 [.int .u8 t74,.string t75,.string t76,.string t77] fun r=>asP (r.getD (.pointer none)) fun t78 =>
 ZR (Zo h69 [(b,0,.pointer t70)]) <|
 f141 t78 one.1 (fun t79 h80 =>
 ZR (Zo h80 [(b,0,.pointer t70)]) <|
 J50 (IntKind.wrap .i64 (s69+1),()) h80) h69) h61) (
 ldP h52 b 0 fun t81 =>
 ldI h52 b2 0 .i64 fun t82 =>
 Zg t81 fun b83 o84 =>
 st h52 b83 (o84+2) (.int .i64 t82) fun h85 =>
 Zf 0 fun t86 =>
 K t86 h85)) s51.1) (0,()) h49) (fun J45 =>
 Zs full (
 f126 t14 (some ⟨b,0,none⟩,()) (fun t46 h47 =>
 Zs t46 (
 Zf 3 fun t48 =>
 K t48 h47) (
 J45 (()) h47)) h42) (
 J45 (()) h42)))) h21))))) h16)) h3)
def Xb:Zoz:=YG Xd Xs Yy Zn Yx X9
abbrev Zoy:=(Option Addr)→(Int × ByteArray × ByteArray × ByteArray × Bool × Int × Sl × Unit)→(Int→HP)→HP
def Zc8 (f142:Zoz) (t:Option Addr) (c:Int × ByteArray × ByteArray × ByteArray × Bool × Int × Sl × Unit) (K:Int→HP) (h:Zd):Prop :=
 newC h [.int .i64 c.1,.string c.2.1,.string c.2.2.1,.string c.2.2.2.1,.bool c.2.2.2.2.1,.int .i64 c.2.2.2.2.2.1,.slice c.2.2.2.2.2.2.1.ptr c.2.2.2.2.2.2.1.len c.2.2.2.2.2.2.1.cap] 47 fun b h1 =>
 Zf 0 fun t2 =>
 ldI h1 b 0 .i64 fun t3=>ldS h1 b (0+1) fun t4=>ldS h1 b (0+2) fun t5=>ldS h1 b (0+3) fun t6=>ldB h1 b (0+4) fun t7=>ldI h1 b (0+5) .i64 fun t8=>ldL h1 b (0+6) fun t9 =>
 f142 t (t3,t4,t5,t6,t7,t8,t9,()) true (some ⟨b,0,none⟩,()) (fun t10 h11 =>
 Zf t10 fun t12 =>
 K t12 h11) h1
def ZaS:Zoy:=Zc8 Xb
abbrev Zox:=(Option Addr)→(Int × ByteArray × ByteArray × ByteArray × Bool × Int × Sl × Unit)→Bool→(Int→(Int × Int × Int × Unit)→Int→HP)→HP
def Zar (f67:Zuv) (f122:ZoN) (f137:ZoF) (f139:ZoD) (f143:Zoy) (e:Option Addr) (c:Int × ByteArray × ByteArray × ByteArray × Bool × Int × Sl × Unit) (granted:Bool) (K:Int→(Int × Int × Int × Unit)→Int→HP) (h:Zd):Prop :=
 newC h [.int .i64 c.1,.string c.2.1,.string c.2.2.1,.string c.2.2.2.1,.bool c.2.2.2.2.1,.int .i64 c.2.2.2.2.2.1,.slice c.2.2.2.2.2.2.1.ptr c.2.2.2.2.2.2.1.len c.2.2.2.2.2.2.1.cap] 47 fun b h1 =>
 Zf 0 fun t =>
 newC h1 [.int .u8 0,.int .i64 0,.int .i64 0] 42 fun b2 h3 =>
 Zf 0 fun t4 =>
 Zs e.isNone (
 Zf 0 fun t5 =>
 sts h3 b2 0 [.int .u8 0,.int .i64 0,.int .i64 0] fun h6 =>
 Zf 1 fun t7 =>
 ldI h6 b2 0 .u8 fun t8=>ldI h6 b2 (0+1) .i64 fun t9=>ldI h6 b2 (0+2) .i64 fun t10=>K t5 (t8,t9,t10,()) t7 h6) (
 Zg e fun b11 o =>
 ldI h3 b 0 .i64 fun t12=>ldS h3 b (0+1) fun t13=>ldS h3 b (0+2) fun t14=>ldS h3 b (0+3) fun t15=>ldB h3 b (0+4) fun t16=>ldI h3 b (0+5) .i64 fun t17=>ldL h3 b (0+6) fun t18 =>
 f67 (some ⟨b11,o,none⟩) (t12,t13,t14,t15,t16,t17,t18,()) (fun t19 h20 =>
 Zf t19 fun err =>
 Zs (err !=0) (
 Zf 0 fun t21 =>
 sts h20 b2 0 [.int .u8 0,.int .i64 0,.int .i64 0] fun h22 =>
 Zf err fun t23 =>
 ldI h22 b2 0 .u8 fun t24=>ldI h22 b2 (0+1) .i64 fun t25=>ldI h22 b2 (0+2) .i64 fun t26=>K t21 (t24,t25,t26,()) t23 h22) (
 ldI h20 b 0 .i64 fun t27 =>
 Zg e fun b28 o29 =>
 st h20 b28 (o29+18) (.int .i64 t27) fun h30 =>
 Zg e fun b31 o32 =>
 ldI h30 b 0 .i64 fun t33=>ldS h30 b (0+1) fun t34=>ldS h30 b (0+2) fun t35=>ldS h30 b (0+3) fun t36=>ldB h30 b (0+4) fun t37=>ldI h30 b (0+5) .i64 fun t38=>ldL h30 b (0+6) fun t39 =>
 newC h30 [.pointer (some ⟨b31,o32,none⟩),.int .i64 t33,.string t34,.string t35,.string t36,.bool t37,.int .i64 t38,.slice t39.ptr t39.len t39.cap,.bool granted,.slice none 0 0,.slice none 0 0,.int .i64 0] 145 fun b40 h41 =>
 ZR (Zo h41 [(b,0,.int .i64 t33),(b,0+1,.string t34),(b,0+2,.string t35),(b,0+3,.string t36),(b,0+4,.bool t37),(b,0+5,.int .i64 t38),(b,0+6,.slice t39.ptr t39.len t39.cap)]) <|
 f122 (some ⟨b40,0,none⟩) (fun t42 t43 h44 =>
 newC h44 [.int .u8 0,.int .i64 0,.int .i64 0] 42 fun b45 h46 =>
 sts h46 b45 0 [.int .u8 t42.1,.int .i64 t42.2.1,.int .i64 t42.2.2.1] fun h47 =>
 ZE t43 fun blocked =>
 Zs blocked (
 Zg e fun b48 o49 =>
 ldP h47 b48 (o49+12) fun t50 =>
 ldI h47 b 0 .i64 fun t51=>ldS h47 b (0+1) fun t52=>ldS h47 b (0+2) fun t53=>ldS h47 b (0+3) fun t54=>ldB h47 b (0+4) fun t55=>ldI h47 b (0+5) .i64 fun t56=>ldL h47 b (0+6) fun t57 =>
 f137 t50 (t51,t52,t53,t54,t55,t56,t57,()) (fun t58 h59 =>
 Zf 0 fun t60 =>
 ldI h59 b45 0 .u8 fun t61=>ldI h59 b45 (0+1) .i64 fun t62=>ldI h59 b45 (0+2) .i64 fun t63 =>
 sts h59 b2 0 [.int .u8 t61,.int .i64 t62,.int .i64 t63] fun h64 =>
 Zf 0 fun t65 =>
 ldI h64 b2 0 .u8 fun t66=>ldI h64 b2 (0+1) .i64 fun t67=>ldI h64 b2 (0+2) .i64 fun t68=>K t60 (t66,t67,t68,()) t65 h64) h47) (
 ldL h47 b40 (0+9) fun t69 =>
 YY (σ:=Int × Unit) (fun J70 s h71 =>
 (fun (s60:Int) =>
 Zs (decide (s60<(t69.len:Int))) (
 Xy t69.ptr t69.len s60 1 fun b72 o73 =>
 ldV h71 b72 o73 fun t74 =>
 (exG t74 (fun c76:Option Addr × Option Addr × Unit=> .func (.func 174) #[] ⟨[.pointer c76.1,.pointer c76.2.1]⟩) fun c76=>f139 c76.1 c76.2.1 (fun h75 =>
 J70 (IntKind.wrap .i64 (s60+1),()) h75) h71)∨(
 False)) (
 Zg e fun b77 o78 =>
 ldP h71 b77 (o78+12) fun t79 =>
 ldI h71 b 0 .i64 fun t80=>ldS h71 b (0+1) fun t81=>ldS h71 b (0+2) fun t82=>ldS h71 b (0+3) fun t83=>ldB h71 b (0+4) fun t84=>ldI h71 b (0+5) .i64 fun t85=>ldL h71 b (0+6) fun t86 =>
 f143 t79 (t80,t81,t82,t83,t84,t85,t86,()) (fun t87 h88 =>
 st h88 b (0+6) (.slice none 0 0) fun h89 =>
 Zg e fun b90 o91 =>
 ldI h89 b90 (o91+17) .i64 fun t92 =>
 Zf t92 fun n =>
 Zg e fun b93 o94 =>
 ldI h89 b93 (o94+17) .i64 fun t95 =>
 Zg e fun b96 o97 =>
 st h89 b96 (o97+17) (.int .i64 (IntKind.wrap .i64 (t95+1))) fun h98 =>
 Zg e fun b99 o100 =>
 ldI h98 b99 (o100+16) .i64 fun t101 =>
 Zg e fun b102 o103 =>
 st h98 b102 (o103+16) (.int .i64 (IntKind.wrap .i64 (t101+1))) fun h104 =>
 Zg e fun b105 o106 =>
 ldM h104 b105 (o106+15) fun t107 =>
 ldI h104 b 0 .i64 fun t108=>ldS h104 b (0+1) fun t109=>ldS h104 b (0+2) fun t110=>ldS h104 b (0+3) fun t111=>ldB h104 b (0+4) fun t112=>ldI h104 b (0+5) .i64 fun t113=>ldL h104 b (0+6) fun t114 =>
 ldL h104 b40 (0+10) fun t115 =>
 Zib (.int .i64) h104 t107 (.int .i64 n) (.agg #[.int .i64 t108,.string t109,.string t110,.string t111,.bool t112,.int .i64 t113,.slice t114.ptr t114.len t114.cap,.bool false,.slice t115.ptr t115.len t115.cap]) fun h116 =>
 Zf n fun t117 =>
 ldI h116 b40 (0+11) .i64 fun t118 =>
 sts h116 b2 0 [.int .u8 0,.int .i64 0,.int .i64 t118] fun h119 =>
 Zf 0 fun t120 =>
 ldI h119 b2 0 .u8 fun t121=>ldI h119 b2 (0+1) .i64 fun t122=>ldI h119 b2 (0+2) .i64 fun t123=>K t117 (t121,t122,t123,()) t120 h119) h71)) s.1) (0,()) h47)) h41)) h3)
def YT:Zox:=Zar YR Xp Zau Xg ZaS
abbrev ZkS:=(Option Addr)→(Int × ByteArray × ByteArray × ByteArray × Bool × Int × Sl × Unit)→(Int→(Int × Int × Int × Unit)→Int→HP)→HP
def Zaq (f144:Zox) (e:Option Addr) (c:Int × ByteArray × ByteArray × ByteArray × Bool × Int × Sl × Unit) (K:Int→(Int × Int × Int × Unit)→Int→HP) (h:Zd):Prop :=
 newC h [.int .i64 c.1,.string c.2.1,.string c.2.2.1,.string c.2.2.2.1,.bool c.2.2.2.2.1,.int .i64 c.2.2.2.2.2.1,.slice c.2.2.2.2.2.2.1.ptr c.2.2.2.2.2.2.1.len c.2.2.2.2.2.2.1.cap] 47 fun b h1 =>
 Zf 0 fun t =>
 newC h1 [.int .u8 0,.int .i64 0,.int .i64 0] 42 fun b2 h3 =>
 Zf 0 fun t4 =>
 ldI h3 b 0 .i64 fun t5=>ldS h3 b (0+1) fun t6=>ldS h3 b (0+2) fun t7=>ldS h3 b (0+3) fun t8=>ldB h3 b (0+4) fun t9=>ldI h3 b (0+5) .i64 fun t10=>ldL h3 b (0+6) fun t11 =>
 f144 e (t5,t6,t7,t8,t9,t10,t11,()) false (fun t12 t13 t14 h15 =>
 Zf t12 fun t16 =>
 sts h15 b2 0 [.int .u8 t13.1,.int .i64 t13.2.1,.int .i64 t13.2.2.1] fun h17 =>
 Zf t14 fun t18 =>
 ldI h17 b2 0 .u8 fun t19=>ldI h17 b2 (0+1) .i64 fun t20=>ldI h17 b2 (0+2) .i64 fun t21=>K t16 (t19,t20,t21,()) t18 h17) h3
def Yr:ZkS:=Zaq YT
abbrev ZkR:=Int→(Option Addr)→(Bool→HP)→HP
def Zbt (n:Int) (a1:Option Addr) (K:Bool→HP) (h:Zd):Prop :=
 Zg a1 fun b o=>ldP h b o fun t =>
 Zg t fun b1 o2 =>
 ldM h b1 (o2+15) fun t3 =>
 Zid (.int .i64) h t3 (.int .i64 n) fun r=>exG (r.getD (.agg #[.int .i64 0,.string (ByteArray.mk #[]),.string (ByteArray.mk #[]),.string (ByteArray.mk #[]),.bool false,.int .i64 0,.slice none 0 0,.bool false,.slice none 0 0])) (fun t4:Int × ByteArray × ByteArray × ByteArray × Bool × Int × Sl × Bool × Sl × Unit=> .agg #[.int .i64 t4.1,.string t4.2.1,.string t4.2.2.1,.string t4.2.2.2.1,.bool t4.2.2.2.2.1,.int .i64 t4.2.2.2.2.2.1,.slice t4.2.2.2.2.2.2.1.ptr t4.2.2.2.2.2.2.1.len t4.2.2.2.2.2.2.1.cap,.bool t4.2.2.2.2.2.2.2.1,.slice t4.2.2.2.2.2.2.2.2.1.ptr t4.2.2.2.2.2.2.2.2.1.len t4.2.2.2.2.2.2.2.2.1.cap]) fun t4 =>
 ZE t4.2.2.2.2.2.2.2.1 fun t5 =>
 K t5 h
def Y6:ZkR:=Zbt
abbrev Zow:=Sl→(Option Addr × Unit)→(Int→HP)→HP
def Yn (f148:ZkR) (s:Sl) (f:Option Addr × Unit) (K:Int→HP) (h:Zd):Prop :=
 Zf 0 fun t =>
 YY (σ:=Int × Unit) (fun J1 s2 h3 =>
 (fun (s8:Int) =>
 Zs (decide (s8<(s.len:Int))) (
 Zf s8 fun i =>
 Xy s.ptr s.len i 1 fun b o =>
 ldI h3 b o .i64 fun t4 =>
 f148 t4 f.1 (fun t5 h6 =>
 Zs t5 (
 Zf i fun t7 =>
 K t7 h6) (
 J1 (IntKind.wrap .i64 (s8+1),()) h6)) h3) (
 Zf (-1) fun t8 =>
 K t8 h3)) s2.1) (0,()) h
def ZZ:Zow:=Yn Y6
abbrev Zov:=Sl→(Option Addr × Unit)→(Sl→HP)→HP
def Yk (f149:Zow) (f148:ZkR) (s:Sl) (del:Option Addr × Unit) (K:Sl→HP) (h:Zd):Prop :=
 f149 s (del.1,()) (fun t h1 =>
 Zf t fun i =>
 Zs (i ==(-1)) (
 K s h1) (
 Zf (IntKind.wrap .i64 (i+1)) fun j =>
 YY (σ:=Int × Int × Unit) (fun J4 s5 h6 =>
 (fun (i2:Int) (j3:Int) =>
 Zs (decide (j3<(s.len:Int))) (
 Xy s.ptr s.len j3 1 fun b o =>
 ldI h6 b o .i64 fun t7 =>
 Zf t7 fun v =>
 f148 v del.1 (fun t8 h9 =>
 Zs (!t8) (
 Xy s.ptr s.len i2 1 fun b10 o11 =>
 st h9 b10 o11 (.int .i64 v) fun h12 =>
 Zf (IntKind.wrap .i64 (i2+1)) fun i13 =>
 Zf (IntKind.wrap .i64 (j3+1)) fun j14 =>
 J4 (i13,j14,()) h12) (
 Zf (IntKind.wrap .i64 (j3+1)) fun j15 =>
 J4 (i2,j15,()) h9)) h6) (
 slc s.ptr s.cap 1 i2 s.len s.cap fun t16 =>
 ZAx t16 [.int .i64 0] h6 fun h17 =>
 slc s.ptr s.cap 1 0 i2 s.cap fun t18 =>
 K t18 h17)) s5.1 s5.2.1) (i,j,()) h1)) h
def ZX:Zov:=Yk ZZ Y6
abbrev ZsU:=(Option Nat)→(Value→HP)→HP
abbrev ZsT:=Value→(Sl→HP)→HP
abbrev Zou:=(Option Addr)→(Sl→HP)→HP
def ZbR (f146:ZsU) (f147:ZsT) (f150:Zov) (e:Option Addr) (K:Sl→HP) (h:Zd):Prop :=
 newC h [.pointer e] 23 fun b h1 =>
 ldP h1 b 0 fun t =>
 Zs t.isNone (
 K ⟨none,0,0⟩ h1) (
 ldP h1 b 0 fun t2 =>
 Zg t2 fun b3 o =>
 ldM h1 b3 (o+15) fun t4 =>
 f146 t4 (fun t5 h6 =>
 f147 t5 (fun t7 h8 =>
 f150 t7 (some ⟨b,0,none⟩,()) (fun t9 h10 =>
 K t9 h10) h8) h6) h1)
def XU:Zou:=ZbR Z0 ZbA ZX
abbrev Zot:=(Bool→HP)→HP
def ZbE (f2:zT2) (f58:Zrw) (f145:ZkS) (f151:Zou) (K:Bool→HP) (h:Zd):Prop :=
 f2 10 1 (fun t t1 h2 =>
 Zf t1 fun x =>
 Zs (x !=0) (
 K false h2) (
 Zs t.isNone (
 K false h2) (
 newC h2 [.string (ByteArray.mk #[97]),.string (ByteArray.mk #[100,101,102,97,117,108,116]),.bool false,.int .i64 1,.int .u8 0,.string (ByteArray.mk #[]),.int .u8 0,.int .i64 0,.int .i64 0,.bool false,.int .i64 0,.bool false] 32 fun b h3 =>
 f58 t (⟨some ⟨b,0,none⟩,1,1⟩,⟨none,0,0⟩,⟨none,0,0⟩,⟨none,0,0⟩,⟨none,0,0⟩,()) (fun t4 h5 =>
 Zf t4 fun y =>
 newC h5 [.int .i64 0,.string (ByteArray.mk #[]),.string (ByteArray.mk #[]),.string (ByteArray.mk #[]),.bool false,.int .i64 0,.slice none 0 0] 47 fun b6 h7 =>
 sts h7 b6 0 [.int .i64 0,.string (ByteArray.mk #[97]),.string (ByteArray.mk #[109,97,105,110]),.string (ByteArray.mk #[]),.bool false,.int .i64 1,.slice none 0 0] fun h8 =>
 ldI h8 b6 0 .i64 fun t9=>ldS h8 b6 (0+1) fun t10=>ldS h8 b6 (0+2) fun t11=>ldS h8 b6 (0+3) fun t12=>ldB h8 b6 (0+4) fun t13=>ldI h8 b6 (0+5) .i64 fun t14=>ldL h8 b6 (0+6) fun t15 =>
 f145 t (t9,t10,t11,t12,t13,t14,t15,()) (fun t16 t17 t18 h19 =>
 newC h19 [.int .u8 0,.int .i64 0,.int .i64 0] 42 fun b20 h21 =>
 Zf t16 fun n =>
 sts h21 b20 0 [.int .u8 t17.1,.int .i64 t17.2.1,.int .i64 t17.2.2.1] fun h22 =>
 Zf t18 fun z =>
 ldI h22 b6 0 .i64 fun t23=>ldS h22 b6 (0+1) fun t24=>ldS h22 b6 (0+2) fun t25=>ldS h22 b6 (0+3) fun t26=>ldB h22 b6 (0+4) fun t27=>ldI h22 b6 (0+5) .i64 fun t28=>ldL h22 b6 (0+6) fun t29 =>
 f145 t (t23,t24,t25,t26,t27,t28,t29,()) (fun t30 t31 t32 h33 =>
 newC h33 [.int .u8 0,.int .i64 0,.int .i64 0] 42 fun b34 h35 =>
 Zf t30 fun m =>
 sts h35 b34 0 [.int .u8 t31.1,.int .i64 t31.2.1,.int .i64 t31.2.2.1] fun h36 =>
 Zf t32 fun u =>
 Zs (y ==0) (
 Zs (n ==1) (
 ldI h36 b20 0 .u8 fun t37 =>
 Zs (t37 ==0) (
 Zs (z ==0) (
 Zs (m ==0) (
 ldI h36 b34 0 .u8 fun t38 =>
 Zs (t38 ==4) (
 Zs (u ==0) (
 f151 t (fun t39 h40 =>
 ZE ((t39.len:Int) ==1) fun t41 =>
 K t41 h40) h36) (
 K false h36)) (
 K false h36)) (
 K false h36)) (
 K false h36)) (
 K false h36)) (
 K false h36)) (
 K false h36)) h22) h8) h3))) h
def XK:Zot:=ZbE ZbN YC Yr XU
abbrev Zos:=(Int × ByteArray × ByteArray × ByteArray × Unit)→(Option Addr)→(Bool→HP)→HP
def Zck (f89:Zmz) (k:Int × ByteArray × ByteArray × ByteArray × Unit) (a1:Option Addr) (K:Bool→HP) (h:Zd):Prop :=
 newC h [.int .u8 k.1,.string k.2.1,.string k.2.2.1,.string k.2.2.2.1] 102 fun b h1 =>
 Zg a1 fun b2 o=>ldP h1 b2 o fun t =>
 Zg t fun b3 o4 =>
 ldM h1 b3 o4 fun t5 =>
 ldI h1 b 0 .u8 fun t6=>ldS h1 b (0+1) fun t7=>ldS h1 b (0+2) fun t8=>ldS h1 b (0+3) fun t9 =>
 ZbZ [(.int .u8),.string,.string,.string] h1 t5 [.int .u8 t6,.string t7,.string t8,.string t9] fun r=>asP (r.getD (.pointer none)) fun t10 =>
 ZR (Zo h1 [(b2,o,.pointer t)]) <|
 f89 t10 (fun t11 h12 =>
 ZR (Zo h12 [(b2,o,.pointer t)]) <|
 ZE (t11 ==0) fun t13 =>
 K t13 h12) h1
def Zaa:Zos:=Zck ZY
abbrev Zor:=Sl→(Option Addr × Unit)→(Int→HP)→HP
def Yb (f154:Zos) (s:Sl) (f:Option Addr × Unit) (K:Int→HP) (h:Zd):Prop :=
 Zf 0 fun t =>
 YY (σ:=Int × Unit) (fun J1 s2 h3 =>
 (fun (s8:Int) =>
 Zs (decide (s8<(s.len:Int))) (
 Zf s8 fun i =>
 Xy s.ptr s.len i 4 fun b o =>
 ldI h3 b o .u8 fun t4=>ldS h3 b (o+1) fun t5=>ldS h3 b (o+2) fun t6=>ldS h3 b (o+3) fun t7 =>
 f154 (t4,t5,t6,t7,()) f.1 (fun t8 h9 =>
 Zs t8 (
 Zf i fun t10 =>
 K t10 h9) (
 J1 (IntKind.wrap .i64 (s8+1),()) h9)) h3) (
 Zf (-1) fun t11 =>
 K t11 h3)) s2.1) (0,()) h
def ZO:Zor:=Yb Zaa
abbrev Zoq:=Sl→(Option Addr × Unit)→(Bool→HP)→HP
def Z4 (f155:Zor) (s:Sl) (f:Option Addr × Unit) (K:Bool→HP) (h:Zd):Prop :=
 f155 s (f.1,()) (fun t h1 =>
 ZE (decide (t≥0)) fun t2 =>
 K t2 h1) h
def Zx:Zoq:=Z4 ZO
abbrev Zop:=(Option Addr)→Int→Int→Bool→(Int→HP)→HP
def Zde (f129:ZhC) (f127:ZkV) (f133:ZhB) (n:Option Addr) (at_:Int) (rt:Int) (failed:Bool) (K:Int→HP) (h:Zd):Prop :=
 Zf 0 fun t =>
 f129 n at_ ⟨none,0,0⟩ (fun t1 h2 =>
 Zf t1 fun e =>
 ZE n.isNone fun t3 =>
 Zs t3 (
 Zf 1 fun t4 =>
 K t4 h2) (
 Zs (e ==2) (
 Zf 2 fun t5 =>
 K t5 h2) (
 f127 rt (fun t6 h7 =>
 ZE (!t6) fun t8 =>
 Zs t8 (
 Zf 2 fun t9 =>
 K t9 h7) (
 ZE (e !=0) fun t10 =>
 Zs t10 (
 Zf e fun t11 =>
 K t11 h7) (
 Zg n fun b o =>
 ldI h7 b (o+2) .i64 fun t12 =>
 ZE (t12 ==0) fun t13 =>
 Zs t13 (
 Zf 4 fun t14 =>
 K t14 h7) (
 newC h7 [.int .i64 0,.int .i64 0,.int .i64 0,.int .i64 0,.int .i64 0,.int .i64 0] 169 fun b15 h16 =>
 sts h16 b15 0 [.int .i64 0,.int .i64 0,.int .i64 1,.int .i64 0,.int .i64 rt,.int .i64 rt] fun h17 =>
 Zg7 (σ:=Unit) (fun s h20 =>
 ldI h20 b15 0 .i64 fun t21=>ldI h20 b15 (0+1) .i64 fun t22=>ldI h20 b15 (0+2) .i64 fun t23=>ldI h20 b15 (0+3) .i64 fun t24=>ldI h20 b15 (0+4) .i64 fun t25=>ldI h20 b15 (0+5) .i64 fun t26 =>
 newC h20 [.int .i64 t21,.int .i64 t22,.int .i64 t23,.int .i64 t24,.int .i64 t25,.int .i64 t26] 169 fun b27 h28 =>
 f133 n at_ ⟨some ⟨b27,0,none⟩,1,1⟩ (fun h29 =>
 Zg n fun b30 o31 =>
 ldI h29 b30 (o31+2) .i64 fun t32 =>
 Zg n fun b33 o34 =>
 st h29 b33 (o34+2) (.int .i64 (IntKind.wrap .i64 (t32 - 1))) fun h35 =>
 Zf 0 fun t36 =>
 K t36 h35) h28) (fun J18 =>
 Zs failed (
 st h17 b15 (0+3) (.int .i64 1) fun h19 =>
 J18 (()) h19) (
 J18 (()) h17)))))) h2))) h
def ZaW:Zop:=Zde YE ZaH YW
abbrev Zoo:=(Option Addr)→(Int × ByteArray × ByteArray × ByteArray × Bool × Int × Sl × Unit)→Int→Bool→(Int→HP)→HP
def Zda (f59:ZkQ) (f123:ZhD) (f156:Zoq) (f157:Zop) (t:Option Addr) (c:Int × ByteArray × ByteArray × ByteArray × Bool × Int × Sl × Unit) (rt:Int) (failed:Bool) (K:Int→HP) (h:Zd):Prop :=
 newC h [.pointer t] 71 fun b h1 =>
 newC h1 [.int .i64 c.1,.string c.2.1,.string c.2.2.1,.string c.2.2.2.1,.bool c.2.2.2.2.1,.int .i64 c.2.2.2.2.2.1,.slice c.2.2.2.2.2.2.1.ptr c.2.2.2.2.2.2.1.len c.2.2.2.2.2.2.1.cap] 47 fun b2 h3 =>
 Zf 0 fun t4 =>
 ldP h3 b 0 fun t5 =>
 Zs t5.isNone (
 Zf 1 fun t6 =>
 K t6 h3) (
 ldI h3 b2 0 .i64 fun t7=>ldS h3 b2 (0+1) fun t8=>ldS h3 b2 (0+2) fun t9=>ldS h3 b2 (0+3) fun t10=>ldB h3 b2 (0+4) fun t11=>ldI h3 b2 (0+5) .i64 fun t12=>ldL h3 b2 (0+6) fun t13 =>
 f59 (t7,t8,t9,t10,t11,t12,t13,()) (fun t14 t15 h16 =>
 Zf t15 fun e =>
 ZE (e !=0) fun t17 =>
 Zs t17 (
 Zf e fun t18 =>
 K t18 h16) (
 ldI h16 b2 0 .i64 fun t19 =>
 f123 t19 (fun t20 h21 =>
 Zs (!t20) (
 Zf 2 fun t22 =>
 K t22 h21) (
 f123 rt (fun t23 h24 =>
 ZE (!t23) fun t25 =>
 Zs t25 (
 Zf 2 fun t26 =>
 K t26 h24) (
 ldI h24 b2 0 .i64 fun t27 =>
 ldP h24 b 0 fun t28 =>
 Zg t28 fun b29 o =>
 ldI h24 b29 (o+2) .i64 fun t30 =>
 ZE (decide (t27<t30)) fun t31 =>
 Zs t31 (
 Zf 7 fun t32 =>
 K t32 h24) (
 f156 t14 (some ⟨b,0,none⟩,()) (fun t33 h34 =>
 ZE t33 fun t35 =>
 Zs t35 (
 Zf 4 fun t36 =>
 K t36 h34) (
 YY (σ:=Int × Unit) (fun J37 s h38 =>
 (fun (s48:Int) =>
 Zs (decide (s48<(t14.len:Int))) (
 Xy t14.ptr t14.len s48 4 fun b39 o40 =>
 ldI h38 b39 o40 .u8 fun t41=>ldS h38 b39 (o40+1) fun t42=>ldS h38 b39 (o40+2) fun t43=>ldS h38 b39 (o40+3) fun t44 =>
 newC h38 [.int .u8 0,.string (ByteArray.mk #[]),.string (ByteArray.mk #[]),.string (ByteArray.mk #[])] 102 fun b45 h46 =>
 sts h46 b45 0 [.int .u8 t41,.string t42,.string t43,.string t44] fun h47 =>
 ldP h47 b 0 fun t48 =>
 Zg t48 fun b49 o50 =>
 ldM h47 b49 o50 fun t51 =>
 ldI h47 b45 0 .u8 fun t52=>ldS h47 b45 (0+1) fun t53=>ldS h47 b45 (0+2) fun t54=>ldS h47 b45 (0+3) fun t55 =>
 ldI h47 b2 0 .i64 fun t56 =>
 ZbZ [(.int .u8),.string,.string,.string] h47 t51 [.int .u8 t52,.string t53,.string t54,.string t55] fun r=>asP (r.getD (.pointer none)) fun t57 =>
 ZR (Zo h47 [(b2,0,.int .i64 t56)]) <|
 ZR (Zo h47 [(b,0,.pointer t48)]) <|
 f157 t57 t56 rt failed (fun t58 h59 =>
 ZR (Zo h59 [(b,0,.pointer t48)]) <|
 J37 (IntKind.wrap .i64 (s48+1),()) h59) h47) (
 ldP h38 b 0 fun t60 =>
 ldI h38 b2 0 .i64 fun t61 =>
 Zg t60 fun b62 o63 =>
 st h38 b62 (o63+2) (.int .i64 t61) fun h64 =>
 Zf 0 fun t65 =>
 K t65 h64)) s.1) (0,()) h34)) h24))) h21)) h16)) h3)
def ZaT:Zoo:=Zda Xd Xs Zx ZaW
abbrev Zon:=Sl→Int→(Int→HP)→HP
def ZaM (s:Sl) (v:Int) (K:Int→HP) (h:Zd):Prop :=
 Zf 0 fun t =>
 YY (σ:=Int × Unit) (fun J1 s2 h3 =>
 (fun (s8:Int) =>
 Zs (decide (s8<(s.len:Int))) (
 Zf s8 fun i =>
 Xy s.ptr s.len i 1 fun b o =>
 ldI h3 b o .i64 fun t4 =>
 Zs (v ==t4) (
 Zf i fun t5 =>
 K t5 h3) (
 J1 (IntKind.wrap .i64 (s8+1),()) h3)) (
 Zf (-1) fun t6 =>
 K t6 h3)) s2.1) (0,()) h
def XP:Zon:=ZaM
abbrev Zom:=Sl→Int→(Bool→HP)→HP
def X4 (f159:Zon) (s:Sl) (v:Int) (K:Bool→HP) (h:Zd):Prop :=
 f159 s v (fun t h1 =>
 ZE (decide (t≥0)) fun t2 =>
 K t2 h1) h
def YK:Zom:=X4 XP
abbrev Zol:=(Option Addr)→Int→Bool→(Bool→HP)→HP
def ZaO (b:Option Addr) (rt:Int) (failed:Bool) (K:Bool→HP) (h:Zd):Prop :=
 Zg b fun b1 o =>
 ldI h b1 (o+1) .u8 fun t =>
 Zs (t ==0) (
 Zg b fun b2 o3 =>
 ldI h b2 (o3+3) .i64 fun t4 =>
 ZE (decide (rt>t4)) fun t5 =>
 K t5 h) (
 ZE failed fun t6 =>
 K t6 h)
def XQ:Zol:=ZaO
abbrev Zok:=(Option Addr)→Int→(HP)→HP
def Zba (b:Option Addr) (at_:Int) (K:HP) (h:Zd):Prop :=
 Zg b fun b1 o =>
 st h b1 (o+8) (.int .u8 2) fun h2 =>
 Zg b fun b3 o4 =>
 ldI h2 b3 (o4+6) .i64 fun t =>
 Zg b fun b5 o6 =>
 st h2 b5 (o6+9) (.int .i64 (Zn1 (IntKind.wrap .i64 (at_+t)) 4611686018427387904)) fun h7 =>
 Zg b fun b8 o9 =>
 ldI h7 b8 (o9+10) .i64 fun t10 =>
 Zg b fun b11 o12 =>
 st h7 b11 (o12+10) (.int .i64 (IntKind.wrap .i64 (t10+1))) fun h13 =>
 K h13
def X0:Zok:=Zba
abbrev Zoj:=Int→(Int→HP)→HP
def Zjy (n:Int) (K:Int→HP) (h:Zd):Prop :=
 Zf 0 fun t =>
 Zs (decide (n<0)) (
 Zf (IntKind.wrap .u64 (0 - (IntKind.wrap .u64 n))) fun t1 =>
 K t1 h) (
 Zf (IntKind.wrap .u64 n) fun t2 =>
 K t2 h)
def ZgZ:Zoj:=Zjy
abbrev Zoi:=Int→Int→(Int→Int→HP)→HP
def Zeq (x:Int) (y:Int) (K:Int→Int→HP) (h:Zd):Prop :=
 Zf 0 fun hi =>
 Zf 0 fun lo =>
 Zf (Zwf .u64 x 4294967295) fun x0 =>
 ZR (0≤(32:Int)) <|
 Zf (ZtG .u64 x 32) fun x1 =>
 Zf (Zwf .u64 y 4294967295) fun y0 =>
 ZR (0≤(32:Int)) <|
 Zf (ZtG .u64 y 32) fun y1 =>
 Zf (IntKind.wrap .u64 (x0*y0)) fun w0 =>
 ZR (0≤(32:Int)) <|
 Zf (IntKind.wrap .u64 ((IntKind.wrap .u64 (x1*y0))+(ZtG .u64 w0 32))) fun t =>
 Zf (Zwf .u64 t 4294967295) fun w1 =>
 ZR (0≤(32:Int)) <|
 Zf (ZtG .u64 t 32) fun w2 =>
 Zf (IntKind.wrap .u64 (w1+(IntKind.wrap .u64 (x0*y1)))) fun w11 =>
 ZR (0≤(32:Int)) <|
 Zf (IntKind.wrap .u64 ((IntKind.wrap .u64 ((IntKind.wrap .u64 (x1*y1))+w2))+(ZtG .u64 w11 32))) fun hi2 =>
 Zf (IntKind.wrap .u64 (x*y)) fun lo3 =>
 K hi2 lo3 h
def Zcx:Zoi:=Zeq
abbrev Zoh:=Int→Int→((Int × Int × Bool × Unit)→HP)→HP
def Zgv (f163:Zoj) (f164:Zoi) (a:Int) (b:Int) (K:(Int × Int × Bool × Unit)→HP) (h:Zd):Prop :=
 newC h [.int .u64 0,.int .u64 0,.bool false] 320 fun b1 h2 =>
 f163 a (fun t h3 =>
 f163 b (fun t4 h5 =>
 f164 t t4 (fun t6 t7 h8 =>
 Zf t6 fun hi =>
 Zf t7 fun lo =>
 Zs ((decide (a<0)) !=(decide (b<0))) (
 sts h8 b1 0 [.int .u64 hi,.int .u64 lo,.bool ((orV .u64 hi lo) !=0)] fun h9 =>
 ldI h9 b1 0 .u64 fun t10=>ldI h9 b1 (0+1) .u64 fun t11=>ldB h9 b1 (0+2) fun t12=>K (t10,t11,t12,()) h9) (
 sts h8 b1 0 [.int .u64 hi,.int .u64 lo,.bool false] fun h13 =>
 ldI h13 b1 0 .u64 fun t14=>ldI h13 b1 (0+1) .u64 fun t15=>ldB h13 b1 (0+2) fun t16=>K (t14,t15,t16,()) h13)) h5) h3) h2
def ZeE:Zoh:=Zgv ZgZ Zcx
abbrev Zog:=(Int × Int × Bool × Unit)→(Int→Bool→HP)→HP
def Zep (w:Int × Int × Bool × Unit) (K:Int→Bool→HP) (h:Zd):Prop :=
 newC h [.int .u64 w.1,.int .u64 w.2.1,.bool w.2.2.1] 320 fun b h1 =>
 Zf 0 fun t =>
 ldI h1 b 0 .u64 fun t2=>ldI h1 b (0+1) .u64 fun t3 =>
 Zs (bif t2 ==0 then (bif t3 ==9223372036854775808 then true else false) else false) (
 ldB h1 b (0+2) fun t4 =>
 ZE t4 fun t5 =>
 Zs t5 (
 Zf (-9223372036854775808) fun t6 =>
 K t6 true h1) (
 ldI h1 b 0 .u64 fun t7 =>
 Zs (t7 !=0) (
 Zf 0 fun t8 =>
 K t8 false h1) (
 ldI h1 b (0+1) .u64 fun t9 =>
 ZE (decide (t9≥9223372036854775808)) fun t10 =>
 Zs t10 (
 Zf 0 fun t11 =>
 K t11 false h1) (
 ldB h1 b (0+2) fun t12 =>
 ZE t12 fun t13 =>
 Zs t13 (
 ldI h1 b (0+1) .u64 fun t14 =>
 Zf (IntKind.wrap .i64 (0 - (IntKind.wrap .i64 t14))) fun t15 =>
 K t15 true h1) (
 ldI h1 b (0+1) .u64 fun t16 =>
 Zf (IntKind.wrap .i64 t16) fun t17 =>
 K t17 true h1))))) (
 ldI h1 b 0 .u64 fun t18 =>
 Zs (t18 !=0) (
 Zf 0 fun t19 =>
 K t19 false h1) (
 ldI h1 b (0+1) .u64 fun t20 =>
 ZE (decide (t20≥9223372036854775808)) fun t21 =>
 Zs t21 (
 Zf 0 fun t22 =>
 K t22 false h1) (
 ldB h1 b (0+2) fun t23 =>
 ZE t23 fun t24 =>
 Zs t24 (
 ldI h1 b (0+1) .u64 fun t25 =>
 Zf (IntKind.wrap .i64 (0 - (IntKind.wrap .i64 t25))) fun t26 =>
 K t26 true h1) (
 ldI h1 b (0+1) .u64 fun t27 =>
 Zf (IntKind.wrap .i64 t27) fun t28 =>
 K t28 true h1))))
def Zcw:Zog:=Zep
abbrev Zof:=Bool→(Int→HP)→HP
def Zjz (below:Bool) (K:Int→HP) (h:Zd):Prop :=
 Zf 0 fun t =>
 Zs below (
 Zf (-9223372036854775808) fun t1 =>
 K t1 h) (
 Zf 9223372036854775807 fun t2 =>
 K t2 h)
def Zg0:Zof:=Zjz
abbrev Zoe:=Int→Int→(Int→HP)→HP
def Zin (f165:Zoh) (f166:Zog) (f167:Zof) (a:Int) (b:Int) (K:Int→HP) (h:Zd):Prop :=
 Zf 0 fun t =>
 f165 a b (fun t1 h2 =>
 newC h2 [.int .u64 0,.int .u64 0,.bool false] 320 fun b3 h4 =>
 sts h4 b3 0 [.int .u64 t1.1,.int .u64 t1.2.1,.bool t1.2.2.1] fun h5 =>
 ldI h5 b3 0 .u64 fun t6=>ldI h5 b3 (0+1) .u64 fun t7=>ldB h5 b3 (0+2) fun t8 =>
 f166 (t6,t7,t8,()) (fun t9 t10 h11 =>
 Zf t9 fun n =>
 ZE t10 fun ok =>
 Zs ok (
 Zf n fun t12 =>
 K t12 h11) (
 ldB h11 b3 (0+2) fun t13 =>
 f167 t13 (fun t14 h15 =>
 Zf t14 fun t16 =>
 K t16 h15) h11)) h5) h
def Zf3:Zoe:=Zin ZeE Zcw Zg0
abbrev Zod:=(Option Addr)→(Int × Int × Int × Int × Int × Int × Unit)→(Bool→HP)→HP
def ZaC (f168:Zoe) (b:Option Addr) (c:Int × Int × Int × Int × Int × Int × Unit) (K:Bool→HP) (h:Zd):Prop :=
 newC h [.int .i64 c.1,.int .i64 c.2.1,.int .i64 c.2.2.1,.int .i64 c.2.2.2.1,.int .i64 c.2.2.2.2.1,.int .i64 c.2.2.2.2.2.1] 169 fun b1 h2 =>
 ldI h2 b1 (0+2) .i64 fun t =>
 Zg b fun b3 o =>
 ldI h2 b3 (o+4) .i64 fun t4 =>
 ZE (decide (t<t4)) fun t5 =>
 Zs t5 (
 K false h2) (
 Zg b fun b6 o7 =>
 ldI h2 b6 (o7+1) .u8 fun t8 =>
 ZE (t8 ==2) fun t9 =>
 Zs t9 (
 ldI h2 b1 (0+3) .i64 fun t10 =>
 Zg b fun b11 o12 =>
 ldI h2 b11 (o12+2) .i64 fun t13 =>
 ZE (decide (t10>t13)) fun t14 =>
 K t14 h2) (
 ldI h2 b1 (0+3) .i64 fun t15 =>
 Zs4 (ρ:=Int × Unit) (fun K h=>f168 1000 t15 (fun q h=>K (q,()) h) h) h2 fun r =>
 Zg b fun b17 o18 =>
 ldI h2 b17 (o18+2) .i64 fun t19 =>
 ldI h2 b1 (0+2) .i64 fun t20 =>
 Zs4 (ρ:=Int × Unit) (fun K h=>f168 t19 t20 (fun q22 h=>K (q22,()) h) h) h2 fun r23 =>
 Zs (decide (r.1>r23.1)) (
 K true h2) (
 Zg b fun b24 o25 =>
 ldI h2 b24 (o25+2) .i64 fun t26 =>
 Zs (t26 ==1000) (
 ldI h2 b1 (0+3) .i64 fun t27 =>
 ldI h2 b1 (0+2) .i64 fun t28 =>
 ZE (t27 ==t28) fun t29 =>
 K t29 h2) (
 K false h2))))
def XA:Zod:=ZaC Zf3
abbrev Zoc:=(Option Addr)→Int→Int→Bool→Bool→(Int→HP)→HP
def Zbd (f116:ZhE) (f161:Zol) (f162:Zok) (f42:Zrx) (f132:ZkT) (f83:Zrr) (f169:Zod) (b:Option Addr) (at_:Int) (rt:Int) (failed:Bool) (probe:Bool) (K:Int→HP) (h:Zd):Prop :=
 Zf 0 fun t =>
 Zg7 (σ:=Unit) (fun s h16 =>
 Zg b fun b17 o18 =>
 st h16 b17 (o18+11) (.int .i64 at_) fun h19 =>
 f161 b rt failed (fun t20 h21 =>
 ZE t20 fun bad =>
 Zg7 (σ:=Bool × Unit) (fun s24 h25 =>
 (fun (s55:Bool) =>
 Zs s55 (
 f162 b at_ (fun h26 =>
 Zf 0 fun t27 =>
 K t27 h26) h25) (
 ZE probe fun t28 =>
 Zs t28 (
 Zg b fun b29 o30 =>
 st h25 b29 (o30+8) (.int .u8 1) fun h31 =>
 f42 b (fun h32 =>
 Zf 0 fun t33 =>
 K t33 h32) h31) (
 Zg b fun b34 o35 =>
 ldI h25 b34 (o35+8) .u8 fun t36 =>
 ZE (t36 ==1) fun t37 =>
 Zs t37 (
 newC h25 [.int .i64 0,.int .i64 0,.int .i64 0,.int .i64 0,.int .i64 0,.int .i64 0] 169 fun b38 h39 =>
 sts h39 b38 0 [.int .i64 0,.int .i64 0,.int .i64 1,.int .i64 0,.int .i64 0,.int .i64 0] fun h40 =>
 Zg7 (σ:=Unit) (fun s43 h44 =>
 Zg b fun b45 o46 =>
 ldP h44 b45 (o46+7) fun t47 =>
 ldI h44 b38 0 .i64 fun t48=>ldI h44 b38 (0+1) .i64 fun t49=>ldI h44 b38 (0+2) .i64 fun t50=>ldI h44 b38 (0+3) .i64 fun t51=>ldI h44 b38 (0+4) .i64 fun t52=>ldI h44 b38 (0+5) .i64 fun t53 =>
 newC h44 [.int .i64 t48,.int .i64 t49,.int .i64 t50,.int .i64 t51,.int .i64 t52,.int .i64 t53] 169 fun b54 h55 =>
 ZR (Zo h55 [(b45,o46+7,.pointer t47)]) <|
 f132 t47 at_ ⟨some ⟨b54,0,none⟩,1,1⟩ (fun t56 h57 =>
 Zg b fun b58 o59 =>
 ldP h57 b58 (o59+7) fun t60 =>
 f83 t60 at_ (fun t61 t62 h63 =>
 newC h63 [.int .i64 0,.int .i64 0,.int .i64 0,.int .i64 0,.int .i64 0,.int .i64 0] 169 fun b64 h65 =>
 sts h65 b64 0 [.int .i64 t61.1,.int .i64 t61.2.1,.int .i64 t61.2.2.1,.int .i64 t61.2.2.2.1,.int .i64 t61.2.2.2.2.1,.int .i64 t61.2.2.2.2.2.1] fun h66 =>
 Zf t62 fun x =>
 ldI h66 b64 0 .i64 fun t67=>ldI h66 b64 (0+1) .i64 fun t68=>ldI h66 b64 (0+2) .i64 fun t69=>ldI h66 b64 (0+3) .i64 fun t70=>ldI h66 b64 (0+4) .i64 fun t71=>ldI h66 b64 (0+5) .i64 fun t72 =>
 f169 b (t67,t68,t69,t70,t71,t72,()) (fun t73 h74 =>
 Zs t73 (
 f162 b at_ (fun h75 =>
 Zf 0 fun t76 =>
 K t76 h75) h74) (
 Zf 0 fun t77 =>
 K t77 h74)) h66) h57) h55) (fun J41 =>
 Zs bad (
 st h40 b38 (0+3) (.int .i64 1) fun h42 =>
 J41 (()) h42) (
 J41 (()) h40))) (
 Zf 0 fun t78 =>
 K t78 h25)))) s24.1) (fun J22 =>
 Zs probe (
 ZE bad fun t23 =>
 J22 (t23,()) h21) (
 J22 (false,()) h21))) h19) (fun J1 =>
 f116 b at_ (fun t2 h3 =>
 Zf t2 fun e =>
 ZE (e ==1) fun t4 =>
 Zs t4 (
 Zf e fun t5 =>
 K t5 h3) (
 Zs (e ==2) (
 Zf 2 fun t6 =>
 K t6 h3) (
 Zs (decide (rt<0)) (
 Zf 2 fun t7 =>
 K t7 h3) (
 ZE (decide (rt>1152921504606846976)) fun t8 =>
 Zs t8 (
 Zf 2 fun t9 =>
 K t9 h3) (
 ZE (e !=0) fun t10 =>
 Zs t10 (
 Zf e fun t11 =>
 K t11 h3) (
 Zs probe (
 Zg b fun b12 o =>
 ldI h3 b12 (o+8) .u8 fun t13 =>
 ZE (t13 !=3) fun t14 =>
 Zs t14 (
 Zf 4 fun t15 =>
 K t15 h3) (
 J1 (()) h3)) (
 J1 (()) h3))))))) h)
def Xo:Zoc:=Zbd Yh XQ X0 YJ Y1 Y0 XA
abbrev Zob:=(Option Addr)→Int→Int→Bool→(Int→HP)→HP
def ZbS (f158:Zoo) (f69:ZkP) (f160:Zom) (f170:Zoc) (e:Option Addr) (number:Int) (at_:Int) (failed:Bool) (K:Int→HP) (h:Zd):Prop :=
 Zf 0 fun t =>
 Zs e.isNone (
 Zf 1 fun t1 =>
 K t1 h) (
 Zg e fun b o =>
 ldM h b (o+15) fun t2 =>
 Zid (.int .i64) h t2 (.int .i64 number) fun r=>exG (r.getD (.agg #[.int .i64 0,.string (ByteArray.mk #[]),.string (ByteArray.mk #[]),.string (ByteArray.mk #[]),.bool false,.int .i64 0,.slice none 0 0,.bool false,.slice none 0 0])) (fun t3:Int × ByteArray × ByteArray × ByteArray × Bool × Int × Sl × Bool × Sl × Unit=> .agg #[.int .i64 t3.1,.string t3.2.1,.string t3.2.2.1,.string t3.2.2.2.1,.bool t3.2.2.2.2.1,.int .i64 t3.2.2.2.2.2.1,.slice t3.2.2.2.2.2.2.1.ptr t3.2.2.2.2.2.2.1.len t3.2.2.2.2.2.2.1.cap,.bool t3.2.2.2.2.2.2.2.1,.slice t3.2.2.2.2.2.2.2.2.1.ptr t3.2.2.2.2.2.2.2.2.1.len t3.2.2.2.2.2.2.2.2.1.cap]) fun t3 =>
 newC h [.int .i64 0,.string (ByteArray.mk #[]),.string (ByteArray.mk #[]),.string (ByteArray.mk #[]),.bool false,.int .i64 0,.slice none 0 0,.bool false,.slice none 0 0] 88 fun b4 h5 =>
 sts h5 b4 0 [.int .i64 t3.1,.string t3.2.1,.string t3.2.2.1,.string t3.2.2.2.1,.bool t3.2.2.2.2.1,.int .i64 t3.2.2.2.2.2.1,.slice t3.2.2.2.2.2.2.1.ptr t3.2.2.2.2.2.2.1.len t3.2.2.2.2.2.2.1.cap,.bool t3.2.2.2.2.2.2.2.1,.slice t3.2.2.2.2.2.2.2.2.1.ptr t3.2.2.2.2.2.2.2.2.1.len t3.2.2.2.2.2.2.2.2.1.cap] fun h6 =>
 ZE r.isSome fun given =>
 ZE (!given) fun t7 =>
 Zs t7 (
 Zf 40 fun t8 =>
 K t8 h6) (
 ldB h6 b4 (0+7) fun t9 =>
 ZE t9 fun t10 =>
 Zs t10 (
 Zf 41 fun t11 =>
 K t11 h6) (
 Zs (decide (at_<0)) (
 Zf 2 fun t12 =>
 K t12 h6) (
 ZE (decide (at_>1152921504606846976)) fun t13 =>
 Zs t13 (
 Zf 2 fun t14 =>
 K t14 h6) (
 Zg e fun b15 o16 =>
 ldI h6 b15 (o16+18) .i64 fun t17 =>
 ZE (decide (at_<t17)) fun t18 =>
 Zs t18 (
 Zf 7 fun t19 =>
 K t19 h6) (
 Zg e fun b20 o21 =>
 st h6 b20 (o21+18) (.int .i64 at_) fun h22 =>
 Zg e fun b23 o24 =>
 ldM h22 b23 (o24+15) fun t25 =>
 Zib (.int .i64) h22 t25 (.int .i64 number) (.agg #[.int .i64 0,.string (ByteArray.mk #[]),.string (ByteArray.mk #[]),.string (ByteArray.mk #[]),.bool false,.int .i64 0,.slice none 0 0,.bool true,.slice none 0 0]) fun h26 =>
 Zg e fun b27 o28 =>
 ldI h26 b27 (o28+16) .i64 fun t29 =>
 Zg e fun b30 o31 =>
 st h26 b30 (o31+16) (.int .i64 (IntKind.wrap .i64 (t29 - 1))) fun h32 =>
 ldI h32 b4 0 .i64 fun t33 =>
 Zf (IntKind.wrap .i64 (at_ - t33)) fun rt =>
 st h32 b4 0 (.int .i64 at_) fun h34 =>
 Zg e fun b35 o36 =>
 ldP h34 b35 (o36+12) fun t37 =>
 ldI h34 b4 0 .i64 fun t38=>ldS h34 b4 (0+1) fun t39=>ldS h34 b4 (0+2) fun t40=>ldS h34 b4 (0+3) fun t41=>ldB h34 b4 (0+4) fun t42=>ldI h34 b4 (0+5) .i64 fun t43=>ldL h34 b4 (0+6) fun t44 =>
 f158 t37 (t38,t39,t40,t41,t42,t43,t44,()) rt failed (fun t45 h46 =>
 Zg e fun b47 o48 =>
 ldL h46 b47 (o48+3) fun t49=>ldL h46 b47 (o48+3+1) fun t50=>ldL h46 b47 (o48+3+2) fun t51=>ldL h46 b47 (o48+3+3) fun t52=>ldL h46 b47 (o48+3+4) fun t53 =>
 ldS h46 b4 (0+1) fun t54 =>
 f69 (t49,t50,t51,t52,t53,()) 2 t54 (fun t55 h56 =>
 YY (σ:=Int × Unit) (fun J57 s h58 =>
 (fun (s97:Int) =>
 Zs (decide (s97<(t55.len:Int))) (
 Xy t55.ptr t55.len s97 1 fun b59 o60 =>
 ldI h58 b59 o60 .i64 fun t61 =>
 Zf t61 fun i =>
 Zg e fun b62 o63 =>
 ldL h58 b62 (o63+8+1) fun t64 =>
 Xy t64.ptr t64.len i 2 fun b65 o66 =>
 ldP h58 b65 o66 fun t67=>ldI h58 b65 (o66+1) .i64 fun t68 =>
 newC h58 [.pointer none,.int .i64 0] 95 fun b69 h70 =>
 sts h70 b69 0 [.pointer t67,.int .i64 t68] fun h71 =>
 ldP h71 b69 0 fun t72 =>
 ldL h71 b4 (0+8) fun t73 =>
 ldI h71 b69 (0+1) .i64 fun t74 =>
 f160 t73 t74 (fun t75 h76 =>
 ZR (Zo h76 [(b69,0,.pointer t72)]) <|
 f170 t72 at_ rt failed t75 (fun t77 h78 =>
 J57 (IntKind.wrap .i64 (s97+1),()) h78) h76) h71) (
 Zf 0 fun t79 =>
 K t79 h58)) s.1) (0,()) h56) h46) h34))))))
def XV:Zob:=ZbS ZaT Y7 YK Xo
abbrev Zva:=Int→Sl→(Bool→HP)→HP
def XS (f2:zT2) (f58:Zrw) (f152:Zot) (f145:ZkS) (f171:Zob) (at_:Int) (l:Sl) (K:Bool→HP) (h:Zd):Prop :=
 f2 10 1 (fun t t1 h2 =>
 Zf t1 fun x =>
 Zs (x !=0) (
 K false h2) (
 newC h2 [.string (ByteArray.mk #[]),.int .u8 0,.int .i64 0,.int .i64 0,.int .i64 0,.int .i64 0,.int .i64 0] 52 fun b h3 =>
 sts h3 b 0 [.string (ByteArray.mk #[97]),.int .u8 2,.int .i64 0,.int .i64 0,.int .i64 1,.int .i64 1000000,.int .i64 2000000] fun h4 =>
 ldS h4 b 0 fun t5=>ldI h4 b (0+1) .u8 fun t6=>ldI h4 b (0+2) .i64 fun t7=>ldI h4 b (0+3) .i64 fun t8=>ldI h4 b (0+4) .i64 fun t9=>ldI h4 b (0+5) .i64 fun t10=>ldI h4 b (0+6) .i64 fun t11 =>
 newC h4 [.string t5,.int .u8 t6,.int .i64 t7,.int .i64 t8,.int .i64 t9,.int .i64 t10,.int .i64 t11] 52 fun b12 h13 =>
 f58 t (⟨none,0,0⟩,⟨some ⟨b12,0,none⟩,1,1⟩,⟨none,0,0⟩,⟨none,0,0⟩,⟨none,0,0⟩,()) (fun t14 h15 =>
 Zs (t14 !=0) (
 K false h15) (
 Zs (decide (at_<0)) (
 f152 (fun t16 h17 =>
 ZE t16 fun t18 =>
 K t18 h17) h15) (
 Zs (decide (at_>1125899906842624)) (
 f152 (fun t19 h20 =>
 ZE t19 fun t21 =>
 K t21 h20) h15) (
 f145 t (at_,ByteArray.mk #[97],ByteArray.mk #[109,97,105,110],ByteArray.mk #[],false,1,⟨none,0,0⟩,()) (fun t22 t23 t24 h25 =>
 newC h25 [.int .u8 0,.int .i64 0,.int .i64 0] 42 fun b26 h27 =>
 Zf t22 fun n =>
 sts h27 b26 0 [.int .u8 t23.1,.int .i64 t23.2.1,.int .i64 t23.2.2.1] fun h28 =>
 Zf t24 fun f =>
 Zs (f !=0) (
 K false h28) (
 Zs (n !=1) (
 K false h28) (
 f171 t 1 at_ true (fun t29 h30 =>
 Zs (t29 !=0) (
 K false h30) (
 Zf 0 fun probes =>
 Zf 0 fun i =>
 YY (σ:=Int × Int × Unit) (fun J33 s h34 =>
 (fun (probes31:Int) (i32:Int) =>
 Zs (decide (i32<(l.len:Int))) (
 Zs (decide (i32<60)) (
 Xy l.ptr l.len i32 7 fun b35 o =>
 ldI h34 b35 o .i64 fun t36=>ldS h34 b35 (o+1) fun t37=>ldS h34 b35 (o+2) fun t38=>ldS h34 b35 (o+3) fun t39=>ldB h34 b35 (o+4) fun t40=>ldI h34 b35 (o+5) .i64 fun t41=>ldL h34 b35 (o+6) fun t42 =>
 f145 t (t36,t37,t38,t39,t40,t41,t42,()) (fun t43 t44 t45 h46 =>
 newC h46 [.int .u8 0,.int .i64 0,.int .i64 0] 42 fun b47 h48 =>
 Zf t43 fun n49 =>
 sts h48 b47 0 [.int .u8 t44.1,.int .i64 t44.2.1,.int .i64 t44.2.2.1] fun h50 =>
 Zf t45 fun f51 =>
 Zs (f51 !=0) (
 Zf (IntKind.wrap .i64 (i32+1)) fun i52 =>
 J33 (probes31,i52,()) h50) (
 Xy l.ptr l.len i32 7 fun b53 o54 =>
 ldS h50 b53 (o54+1) fun t55 =>
 Zs (!(XN t55 (ByteArray.mk #[97]))) (
 Zf (IntKind.wrap .i64 (i32+1)) fun i56 =>
 J33 (probes31,i56,()) h50) (
 Zg7 (σ:=Int × Unit) (fun s60 h61 =>
 (fun (probes59:Int) =>
 Zs (decide (n49>0)) (
 Xy l.ptr l.len i32 7 fun b62 o63 =>
 ldI h61 b62 o63 .i64 fun t64 =>
 Zs (decide (t64<(IntKind.wrap .i64 (at_+2000000)))) (
 K false h61) (
 Zs (n49 ==0) (
 ldI h61 b47 0 .u8 fun t65 =>
 Zs (t65 !=5) (
 K false h61) (
 Zs (decide (probes59>1)) (
 K false h61) (
 Zf (IntKind.wrap .i64 (i32+1)) fun i66 =>
 J33 (probes59,i66,()) h61))) (
 Zs (decide (probes59>1)) (
 K false h61) (
 Zf (IntKind.wrap .i64 (i32+1)) fun i67 =>
 J33 (probes59,i67,()) h61)))) (
 Zs (n49 ==0) (
 ldI h61 b47 0 .u8 fun t68 =>
 Zs (t68 !=5) (
 K false h61) (
 Zs (decide (probes59>1)) (
 K false h61) (
 Zf (IntKind.wrap .i64 (i32+1)) fun i69 =>
 J33 (probes59,i69,()) h61))) (
 Zs (decide (probes59>1)) (
 K false h61) (
 Zf (IntKind.wrap .i64 (i32+1)) fun i70 =>
 J33 (probes59,i70,()) h61)))) s60.1) (fun J57 =>
 Zs (decide (n49>0)) (
 Zf (IntKind.wrap .i64 (probes31+1)) fun probes58 =>
 J57 (probes58,()) h50) (
 J57 (probes31,()) h50))))) h34) (
 f152 (fun t71 h72 =>
 ZE t71 fun t73 =>
 K t73 h72) h34)) (
 f152 (fun t74 h75 =>
 ZE t74 fun t76 =>
 K t76 h75) h34)) s.1 s.2.1) (probes,i,()) h30)) h28))) h15)))) h13)) h
def Y9:Zva:=XS ZbN YC XK Yr XV
end Go.Proofs.YthbfgkphlmlihaaGreat
