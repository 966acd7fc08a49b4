/- The models of the functions. Written by a program out of the translated functions. -/
import GoSem.Machine.Frame
import GoSem.Op.String
import Derived.Test.YtbppjmcinoffnaaGreatPa1
set_option linter.unusedVariables false
set_option linter.unusedSimpArgs false
namespace Go.Proofs.YtbppjmcinoffnaaGreat
open Go Go.Fw
abbrev zT0:=Int→(Bool→HP)→HP
def ZeU (at_:Int) (K:Bool→HP) (h:Zb):Prop :=
 Zw (decide (at_≥0)) (
 ZG (decide (at_≤1152921504606846976)) fun t =>
 K t h) (
 K false h)
def ZaV:zT0:=ZeU
abbrev zT1:=Int→((Option Addr)→Int→HP)→HP
def Zg0 (f0:zT0) (at_:Int) (K:(Option Addr)→Int→HP) (h:Zb):Prop :=
 Zc 0 fun t =>
 f0 at_ (fun t1 h2 =>
 Zw (!t1) (
 Zc 2 fun t3 =>
 K none t3 h2) (
 Zci h2 fun b h4 =>
 Zci h4 fun b5 h6 =>
 newC h6 [.int .i64 at_,.int .i64 at_,.slice none 0 0,.map (some b),.map (some b5),.slice none 0 0,.int .i64 1] 118 fun b7 h8 =>
 Zc 0 fun t9 =>
 K (some ⟨b7,0,none⟩) t9 h8)) h
def Zet:zT1:=Zg0 ZaV
abbrev zT2:=((Option Addr)→HP)→HP
def Zge (K:(Option Addr)→HP) (h:Zb):Prop :=
 Zci h fun b h1 =>
 newC h1 [.map (some b),.slice none 0 0] 122 fun b2 h3 =>
 K (some ⟨b2,0,none⟩) h3
def Zd3:zT2:=Zge
abbrev zT3:=Int→(Bool→HP)→HP
def Zbt (p:Int) (K:Bool→HP) (h:Zb):Prop :=
 Zw (decide (p<1)) (
 K true h) (
 ZG (decide (p>65535)) fun t =>
 K t h)
def Xo:zT3:=Zbt
abbrev zT4:=Sl→(Int→HP)→HP
def Yi (f3:zT3) (s:Sl) (K:Int→HP) (h:Zb):Prop :=
 Zc 0 fun t =>
 YI (σ:=Int × Unit) (fun J1 s2 h3 =>
 (fun (s8:Int) =>
 Zw (decide (s8<(s.len:Int))) (
 Zc s8 fun i =>
 Zap s.ptr s.len i 1 fun b o =>
 ldI h3 b o .i64 fun t4 =>
 f3 t4 (fun t5 h6 =>
 Zw t5 (
 Zc i fun t7 =>
 K t7 h6) (
 J1 (IntKind.wrap .i64 (s8+1),()) h6)) h3) (
 Zc (-1) fun t8 =>
 K t8 h3)) s2.1) (0,()) h
def ZQ:zT4:=Yi Xo
abbrev zT5:=Sl→(Bool→HP)→HP
def Yd (f4:zT4) (s:Sl) (K:Bool→HP) (h:Zb):Prop :=
 f4 s (fun t h1 =>
 ZG (decide (t≥0)) fun t2 =>
 K t2 h1) h
def ZY:zT5:=Yd ZQ
abbrev zT6:=(Option Addr)→Sl→(Int→HP)→HP
def ZbZ (f5:zT5) (n:Option Addr) (l:Sl) (K:Int→HP) (h:Zb):Prop :=
 Zc 0 fun t =>
 ZG n.isNone fun t1 =>
 Zw t1 (
 Zc 1 fun t2 =>
 K t2 h) (
 f5 l (fun t3 h4 =>
 ZG t3 fun t5 =>
 Zw t5 (
 Zc 2 fun t6 =>
 K t6 h4) (
 Zc 0 fun t7 =>
 K t7 h4)) h)
def Ym:zT6:=ZbZ ZY
abbrev zT7:=(Option Addr)→Sl→(Int→HP)→HP
def Zc7 (f6:zT6) (n:Option Addr) (ports:Sl) (K:Int→HP) (h:Zb):Prop :=
 Zc 0 fun t =>
 f6 n ports (fun t1 h2 =>
 Zc t1 fun e =>
 Zw (e !=0) (
 Zc e fun t3 =>
 K t3 h2) (
 YI (σ:=Int × Unit) (fun J4 s h5 =>
 (fun (s16:Int) =>
 Zw (decide (s16<(ports.len:Int))) (
 Zap ports.ptr ports.len s16 1 fun b o =>
 ldI h5 b o .i64 fun t6 =>
 Zc t6 fun p =>
 Zd n fun b7 o8 =>
 ldM h5 b7 o8 fun t9 =>
 X9 (.int .i64) h5 t9 (.int .i64 p) (.bool true) fun h10 =>
 J4 (IntKind.wrap .i64 (s16+1),()) h10) (
 Zc 0 fun t11 =>
 K t11 h5)) s.1) (0,()) h2)) h
def YP:zT7:=Zc7 Ym
abbrev zT8:=Int→Int→Int→(Bool→HP)→HP
def Zgg (n:Int) (lo:Int) (hi:Int) (K:Bool→HP) (h:Zb):Prop :=
 Zw (decide (n≥lo)) (
 ZG (decide (n≤hi)) fun t =>
 K t h) (
 K false h)
def ZaP:zT8:=Zgg
abbrev zT9:=ByteArray→(Bool→HP)→HP
def ZeY (f8:zT8) (s:ByteArray) (K:Bool→HP) (h:Zb):Prop :=
 YI (σ:=Int × Unit) (fun J1 s2 h3 =>
 (fun (s6:Int) =>
 Zw (decide (s6<(s.size:Int))) (
 Zc s6 fun i =>
 ZAk s i fun t =>
 f8 (IntKind.wrap .i64 t) 33 126 (fun t4 h5 =>
 Zw (!t4) (
 K false h5) (
 J1 (IntKind.wrap .i64 (s6+1),()) h5)) h3) (
 f8 (s.size:Int) 1 64 (fun t6 h7 =>
 ZG t6 fun t8 =>
 K t8 h7) h3)) s2.1) (0,()) h
def ZcN:zT9:=ZeY ZaP
abbrev Zl5:=(Int × Int × Int × Int × ByteArray × Int × Unit)→(Bool→HP)→HP
def ZfD (f8:zT8) (f9:zT9) (r:Int × Int × Int × Int × ByteArray × Int × Unit) (K:Bool→HP) (h:Zb):Prop :=
 newC h [.int .i64 r.1,.int .u8 r.2.1,.int .i64 r.2.2.1,.int .i64 r.2.2.2.1,.string r.2.2.2.2.1,.int .i64 r.2.2.2.2.2.1] 39 fun b h1 =>
 Zg5 (σ:=Bool × Unit) (fun s h10 =>
 (fun (asks9:Bool) =>
 Zg5 (σ:=Bool × Unit) (fun s15 h16 =>
 (fun (bare14:Bool) =>
 ldI h16 b 0 .i64 fun t17 =>
 f8 t17 0 2147483647 (fun t18 h19 =>
 Zw (!t18) (
 K false h19) (
 ldI h19 b (0+1) .u8 fun t20 =>
 Zg5 (σ:=Bool × Unit) (fun s24 h25 =>
 (fun (s32:Bool) =>
 Zw s32 (
 Zw asks9 (
 ldS h25 b (0+4) fun t26 =>
 ZG (ZaF t26 (ByteArray.mk #[])) fun t27 =>
 K t27 h25) (
 K false h25)) (
 ZG (t20 ==2) fun t28 =>
 Zw t28 (
 Zw asks9 (
 ldS h25 b (0+4) fun t29 =>
 ZG (decide ((t29.size:Int)≤64)) fun t30 =>
 K t30 h25) (
 K false h25)) (
 ZG (t20 ==4) fun t31 =>
 Zw t31 (
 Zw bare14 (
 ldI h25 b (0+5) .i64 fun t32 =>
 f8 t32 1 2147483647 (fun t33 h34 =>
 Zw t33 (
 ldS h34 b (0+4) fun t35 =>
 ZG (ZaF t35 (ByteArray.mk #[])) fun t36 =>
 K t36 h34) (
 K false h34)) h25) (
 K false h25)) (
 ZG (t20 ==5) fun t37 =>
 Zw t37 (
 Zw bare14 (
 ldI h25 b (0+5) .i64 fun t38 =>
 Zw (t38 ==0) (
 ldS h25 b (0+4) fun t39 =>
 f9 t39 (fun t40 h41 =>
 ZG t40 fun t42 =>
 K t42 h41) h25) (
 K false h25)) (
 K false h25)) (
 K false h25))))) s24.1) (fun J21 =>
 ZG (t20 ==1) fun t22 =>
 Zw t22 (
 J21 (t22,()) h19) (
 ZG (t20 ==3) fun t23 =>
 J21 (t23,()) h19)))) h16) s15.1) (fun J11 =>
 ldI h10 b (0+2) .i64 fun t12 =>
 Zw (t12 ==0) (
 ldI h10 b (0+3) .i64 fun t13 =>
 ZG (t13 ==0) fun bare =>
 J11 (bare,()) h10) (
 J11 (false,()) h10))) s.1) (fun J2 =>
 ldI h1 b (0+2) .i64 fun t =>
 f8 t 1 1099511627776 (fun t3 h4 =>
 Zw t3 (
 ldI h4 b (0+3) .i64 fun t5 =>
 f8 t5 1 1099511627776 (fun t6 h7 =>
 Zw t6 (
 ldI h7 b (0+5) .i64 fun t8 =>
 ZG (t8 ==0) fun asks =>
 J2 (asks,()) h7) (
 J2 (false,()) h7)) h4) (
 J2 (false,()) h4)) h1)
def YY:Zl5:=ZfD ZaP ZcN
abbrev Zu8:=((Option Addr)→HP)→HP
def Zey (K:(Option Addr)→HP) (h:Zb):Prop :=
 newC h [.slice none 0 0,.bool false] 173 fun b h1 =>
 K (some ⟨b,0,none⟩) h1
def ZbV:Zu8:=Zey
abbrev ZyU:=(Int × Int × Int × Unit)→ByteArray→((Option Addr)→Int→HP)→HP
def Zgh (f10:Zl5) (f11:Zu8) (s:Int × Int × Int × Unit) (namespace_:ByteArray) (K:(Option Addr)→Int→HP) (h:Zb):Prop :=
 newC h [.int .i64 s.1,.int .i64 s.2.1,.int .i64 s.2.2.1] 23 fun b h1 =>
 Zc 0 fun t =>
 ldI h1 b 0 .i64 fun t2 =>
 Zw (decide (t2<1)) (
 Zc 2 fun t3 =>
 K none t3 h1) (
 ldI h1 b 0 .i64 fun t4 =>
 Zw (decide (t4>60000000)) (
 Zc 2 fun t5 =>
 K none t5 h1) (
 ldI h1 b (0+1) .i64 fun t6 =>
 Zw (decide (t6<1)) (
 Zc 2 fun t7 =>
 K none t7 h1) (
 ldI h1 b (0+2) .i64 fun t8 =>
 ldI h1 b (0+1) .i64 fun t9 =>
 Zw (decide (t8<t9)) (
 Zc 2 fun t10 =>
 K none t10 h1) (
 ldI h1 b (0+2) .i64 fun t11 =>
 ZG (decide (t11>3600000000)) fun t12 =>
 Zw t12 (
 Zc 2 fun t13 =>
 K none t13 h1) (
 f10 (0,5,0,0,namespace_,0,()) (fun t14 h15 =>
 ZG (!t14) fun t16 =>
 Zw t16 (
 Zc 10 fun t17 =>
 K none t17 h15) (
 ldI h15 b 0 .i64 fun t18=>ldI h15 b (0+1) .i64 fun t19=>ldI h15 b (0+2) .i64 fun t20 =>
 ldI h15 b (0+1) .i64 fun t21 =>
 Zfj (
 f11 (fun t22 h23 =>
 ZH (Zi h23 [(b,0+1,.int .i64 t21)]) <|
 ZH (Zi h23 [(b,0,.int .i64 t18),(b,0+1,.int .i64 t19),(b,0+2,.int .i64 t20)]) <|
 Zci h23 fun b24 h25 =>
 ZH (Zi h25 [(b,0+1,.int .i64 t21)]) <|
 ZH (Zi h25 [(b,0,.int .i64 t18),(b,0+1,.int .i64 t19),(b,0+2,.int .i64 t20)]) <|
 newC h25 [.pointer t22,.int .i64 t18,.int .i64 t19,.int .i64 t20,.string namespace_,.bool false,.int .i64 0,.int .i64 1,.map (some b24),.slice none 0 0,.slice none 0 0,.int .i64 0,.int .i64 t21] 128 fun b26 h27 =>
 ZH (Zi h27 [(b,0+1,.int .i64 t21)]) <|
 ZH (Zi h27 [(b,0,.int .i64 t18),(b,0+1,.int .i64 t19),(b,0+2,.int .i64 t20)]) <|
 Zc 0 fun t28 =>
 K (some ⟨b26,0,none⟩) t28 h27) h15) (
 Zci h15 fun b29 h30 =>
 ZH (Zi h30 [(b,0+1,.int .i64 t21)]) <|
 ZH (Zi h30 [(b,0,.int .i64 t18),(b,0+1,.int .i64 t19),(b,0+2,.int .i64 t20)]) <|
 f11 (fun t31 h32 =>
 ZH (Zi h32 [(b,0+1,.int .i64 t21)]) <|
 ZH (Zi h32 [(b,0,.int .i64 t18),(b,0+1,.int .i64 t19),(b,0+2,.int .i64 t20)]) <|
 newC h32 [.pointer t31,.int .i64 t18,.int .i64 t19,.int .i64 t20,.string namespace_,.bool false,.int .i64 0,.int .i64 1,.map (some b29),.slice none 0 0,.slice none 0 0,.int .i64 0,.int .i64 t21] 128 fun b33 h34 =>
 ZH (Zi h34 [(b,0+1,.int .i64 t21)]) <|
 ZH (Zi h34 [(b,0,.int .i64 t18),(b,0+1,.int .i64 t19),(b,0+2,.int .i64 t20)]) <|
 Zc 0 fun t35 =>
 K (some ⟨b33,0,none⟩) t35 h34) h30))) h1)))))
def Zd5:ZyU:=Zgh YY ZbV
abbrev ZEi:=(Option Nat)→(Value→HP)→HP
abbrev ZEh:=Value→(Sl→HP)→HP
abbrev Zic:=(Option Addr)→(Sl→HP)→HP
def Zbu (f13:ZEi) (f14:ZEh) (c:Option Addr) (K:Sl→HP) (h:Zb):Prop :=
 Zw c.isNone (
 K ⟨none,0,0⟩ h) (
 Zd c fun b o =>
 ldM h b (o+8) fun t =>
 f13 t (fun t1 h2 =>
 f14 t1 (fun t3 h4 =>
 K t3 h4) h2) h)
def Zk:Zic:=Zbu YM Zck
abbrev Zib:=(Option Addr)→Int→(HP)→HP
def ZcB (c:Option Addr) (id:Int) (K:HP) (h:Zb):Prop :=
 Zd c fun b o =>
 ldM h b (o+8) fun t =>
 Zgb (.int .i64) h t (.int .i64 id) fun h1 =>
 Zd c fun b2 o3 =>
 ldL h1 b2 (o3+10) fun t4 =>
 newC h1 [.int .i64 id,.int .i64 0,.int .u8 0,.int .i64 0,.int .i64 0,.int .i64 0,.bool true] 59 fun b5 h6 =>
 rdS ⟨some ⟨b5,0,none⟩,1,1⟩ 7 h6 fun new=>app 59 7 56 [.int .i64 0,.int .i64 0,.int .u8 0,.int .i64 0,.int .i64 0,.int .i64 0,.bool false] t4 1 new h6 fun t7 h8 =>
 Zd c fun b9 o10 =>
 st h8 b9 (o10+10) (.slice t7.ptr t7.len t7.cap) fun h11 =>
 K h11
def Zq:Zib:=ZcB
abbrev ZyT:=(Int→HP)→HP
def ZbL (K:Int→HP) (h:Zb):Prop :=
 Zc 0 fun t =>
 Zc 0 fun t1 =>
 K t1 h
def XJ:ZyT:=ZbL
abbrev ZyS:=(Option Addr)→Int→(Int→HP)→HP
def Zu (f15:Zic) (f16:Zib) (f17:ZyT) (c:Option Addr) (at_:Int) (K:Int→HP) (h:Zb):Prop :=
 Zc 0 fun t =>
 ZG c.isNone fun t1 =>
 Zw t1 (
 Zc 1 fun t2 =>
 K t2 h) (
 Zw (decide (at_<0)) (
 Zc 2 fun t3 =>
 K t3 h) (
 ZG (decide (at_>1152921504606846976)) fun t4 =>
 Zw t4 (
 Zc 2 fun t5 =>
 K t5 h) (
 Zd c fun b o =>
 ldI h b (o+6) .i64 fun t6 =>
 ZG (decide (at_<t6)) fun t7 =>
 Zw t7 (
 Zc 7 fun t8 =>
 K t8 h) (
 Zd c fun b9 o10 =>
 st h b9 (o10+6) (.int .i64 at_) fun h11 =>
 f15 c (fun t12 h13 =>
 YI (σ:=Int × Unit) (fun J14 s h15 =>
 (fun (s33:Int) =>
 Zw (decide (s33<(t12.len:Int))) (
 Zap t12.ptr t12.len s33 1 fun b16 o17 =>
 ldI h15 b16 o17 .i64 fun t18 =>
 Zc t18 fun id =>
 Zd c fun b19 o20 =>
 Zd c fun b21 o22 =>
 ldM h15 b19 (o20+8) fun t23 =>
 ldI h15 b21 (o22+1) .i64 fun t24 =>
 XF (.int .i64) h15 t23 (.int .i64 id) fun r=>asI (r.getD (.int .i64 0)) .i64 fun t25 =>
 ZH (Zi h15 [(b21,o22+1,.int .i64 t24)]) <|
 Zw (decide ((IntKind.wrap .i64 (at_ - t25))≥t24)) (
 f16 c id (fun h26 =>
 J14 (IntKind.wrap .i64 (s33+1),()) h26) h15) (
 J14 (IntKind.wrap .i64 (s33+1),()) h15)) (
 f17 (fun t27 h28 =>
 Zc t27 fun t29 =>
 K t29 h28) h15)) s.1) (0,()) h13) h11))))
def Yj:ZyS:=Zu Zk Zq XJ
abbrev Zu7:=(Option Addr)→Int→(Int→HP)→HP
def ZcF (f18:ZyS) (c:Option Addr) (at_:Int) (K:Int→HP) (h:Zb):Prop :=
 Zc 0 fun t =>
 f18 c at_ (fun t1 h2 =>
 Zc t1 fun t3 =>
 K t3 h2) h
def Y3:Zu7:=ZcF Yj
abbrev Zu6:=Int→Int→(Int × Int × Int × Unit)→((Option Addr)→Int→HP)→HP
def ZfF (f1:zT1) (f2:zT2) (f7:zT7) (f12:ZyU) (f19:Zu7) (at_:Int) (clients:Int) (s:Int × Int × Int × Unit) (K:(Option Addr)→Int→HP) (h:Zb):Prop :=
 newC h [.int .i64 s.1,.int .i64 s.2.1,.int .i64 s.2.2.1] 23 fun b h1 =>
 Zc 0 fun t =>
 Zw (decide (at_<0)) (
 Zc 2 fun t2 =>
 K none t2 h1) (
 Zw (decide (at_>1152921504606846976)) (
 Zc 2 fun t3 =>
 K none t3 h1) (
 Zw (decide (clients<1)) (
 Zc 2 fun t4 =>
 K none t4 h1) (
 Zw (decide (clients>8)) (
 Zc 2 fun t5 =>
 K none t5 h1) (
 f1 at_ (fun t6 t7 h8 =>
 Zc t7 fun x =>
 f2 (fun t9 h10 =>
 newC h10 [.pointer t9,.pointer t6,.bool true,.slice none 0 0,.int .i64 at_,.slice none 0 0] 82 fun b11 h12 =>
 ldP h12 b11 0 fun t13 =>
 newC h12 [.int .i64 1] 3 fun b14 h15 =>
 f7 t13 ⟨some ⟨b14,0,none⟩,1,1⟩ (fun t16 h17 =>
 YI (σ:=Int × Unit) (fun J18 s19 h20 =>
 (fun (s46:Int) =>
 Zw (decide (s46<clients)) (
 ldI h20 b 0 .i64 fun t21=>ldI h20 b (0+1) .i64 fun t22=>ldI h20 b (0+2) .i64 fun t23 =>
 f12 (t21,t22,t23,()) (ByteArray.mk #[99,108,117,115,116,101,114]) (fun t24 t25 h26 =>
 Zc t25 fun err =>
 Zw (err !=0) (
 Zc err fun t27 =>
 K none t27 h26) (
 f19 t24 at_ (fun t28 h29 =>
 ldL h29 b11 (0+3) fun t30 =>
 newC h29 [.pointer t24,.int .i64 0,.pointer none] 90 fun b31 h32 =>
 rdS ⟨some ⟨b31,0,none⟩,1,1⟩ 3 h32 fun new=>app 90 3 24 [.pointer none,.int .i64 0,.pointer none] t30 1 new h32 fun t33 h34 =>
 st h34 b11 (0+3) (.slice t33.ptr t33.len t33.cap) fun h35 =>
 J18 (IntKind.wrap .i64 (s46+1),()) h35) h26)) h20) (
 Zc 0 fun t36 =>
 K (some ⟨b11,0,none⟩) t36 h20)) s19.1) (0,()) h17) h15) h8) h1))))
def Zbr:Zu6:=ZfF Zet Zd3 YP Zd5 Y3
abbrev ZyQ:=Int→Int→Int→(Bool→HP)→HP
def ZeW (n:Int) (lo:Int) (hi:Int) (K:Bool→HP) (h:Zb):Prop :=
 Zw (decide (n≥lo)) (
 ZG (decide (n≤hi)) fun t =>
 K t h) (
 K false h)
def ZcL:ZyQ:=ZeW
abbrev ZyP:=ByteArray→(Bool→HP)→HP
def ZeX (f21:ZyQ) (s:ByteArray) (K:Bool→HP) (h:Zb):Prop :=
 YI (σ:=Int × Unit) (fun J1 s2 h3 =>
 (fun (s6:Int) =>
 Zw (decide (s6<(s.size:Int))) (
 Zc s6 fun i =>
 ZAk s i fun t =>
 f21 (IntKind.wrap .i64 t) 33 126 (fun t4 h5 =>
 Zw (!t4) (
 K false h5) (
 J1 (IntKind.wrap .i64 (s6+1),()) h5)) h3) (
 f21 (s.size:Int) 1 64 (fun t6 h7 =>
 ZG t6 fun t8 =>
 K t8 h7) h3)) s2.1) (0,()) h
def ZcM:ZyP:=ZeX ZcL
abbrev ZyO:=Int→Int→Int→(Bool→HP)→HP
def Zev (n:Int) (lo:Int) (hi:Int) (K:Bool→HP) (h:Zb):Prop :=
 Zw (decide (n≥lo)) (
 ZG (decide (n≤hi)) fun t =>
 K t h) (
 K false h)
def ZbT:ZyO:=Zev
abbrev ZyN:=(Int × Int × Int × Int × Unit)→(Bool→HP)→HP
def ZfA (f23:ZyO) (f:Int × Int × Int × Int × Unit) (K:Bool→HP) (h:Zb):Prop :=
 newC h [.int .i64 f.1,.int .i64 f.2.1,.int .i64 f.2.2.1,.int .i64 f.2.2.2.1] 46 fun b h1 =>
 ldI h1 b (0+3) .i64 fun t =>
 ZG (t ==0) fun lease =>
 Zg5 (σ:=Bool × Unit) (fun s h9 =>
 (fun (lease8:Bool) =>
 ldI h9 b 0 .i64 fun t10 =>
 f23 t10 1 1099511627776 (fun t11 h12 =>
 Zw t11 (
 ldI h12 b (0+1) .i64 fun t13 =>
 f23 t13 0 1099511627776 (fun t14 h15 =>
 Zw t14 (
 ldI h15 b (0+2) .i64 fun t16 =>
 Zw (decide (t16≥1)) (
 ldI h15 b (0+2) .i64 fun t17 =>
 Zw (decide (t17≤3)) (
 ZG lease8 fun t18 =>
 K t18 h15) (
 K false h15)) (
 K false h15)) (
 K false h15)) h12) (
 K false h12)) h9) s.1) (fun J2 =>
 ldI h1 b (0+2) .i64 fun t3 =>
 Zw (t3 ==3) (
 ldI h1 b (0+3) .i64 fun t4 =>
 f23 t4 1000000 3600000000 (fun t5 h6 =>
 ZG t5 fun lease7 =>
 J2 (lease7,()) h6) h1) (
 J2 (lease,()) h1))
def Zdp:ZyN:=ZfA ZbT
abbrev ZyM:=(Int × Int × Int × Int × Unit)→(Bool→HP)→HP
def ZbY (f24:ZyN) (f:Int × Int × Int × Int × Unit) (K:Bool→HP) (h:Zb):Prop :=
 newC h [.int .i64 f.1,.int .i64 f.2.1,.int .i64 f.2.2.1,.int .i64 f.2.2.2.1] 46 fun b h1 =>
 ldI h1 b 0 .i64 fun t=>ldI h1 b (0+1) .i64 fun t2=>ldI h1 b (0+2) .i64 fun t3=>ldI h1 b (0+3) .i64 fun t4 =>
 f24 (t,t2,t3,t4,()) (fun t5 h6 =>
 ZG (!t5) fun t7 =>
 K t7 h6) h1
def XV:ZyM:=ZbY Zdp
abbrev ZyL:=Sl→(Int→HP)→HP
def Z2 (f25:ZyM) (s:Sl) (K:Int→HP) (h:Zb):Prop :=
 Zc 0 fun t =>
 YI (σ:=Int × Unit) (fun J1 s2 h3 =>
 (fun (s8:Int) =>
 Zw (decide (s8<(s.len:Int))) (
 Zc s8 fun i =>
 Zap s.ptr s.len i 4 fun b o =>
 ldI h3 b o .i64 fun t4=>ldI h3 b (o+1) .i64 fun t5=>ldI h3 b (o+2) .i64 fun t6=>ldI h3 b (o+3) .i64 fun t7 =>
 f25 (t4,t5,t6,t7,()) (fun t8 h9 =>
 Zw t8 (
 Zc i fun t10 =>
 K t10 h9) (
 J1 (IntKind.wrap .i64 (s8+1),()) h9)) h3) (
 Zc (-1) fun t11 =>
 K t11 h3)) s2.1) (0,()) h
def ZN:ZyL:=Z2 XV
abbrev ZyK:=Sl→(Bool→HP)→HP
def Z1 (f26:ZyL) (s:Sl) (K:Bool→HP) (h:Zb):Prop :=
 f26 s (fun t h1 =>
 ZG (decide (t≥0)) fun t2 =>
 K t2 h1) h
def ZD:ZyK:=Z1 ZN
abbrev ZyJ:=(Option Addr)→ByteArray→Sl→(Bool→HP)→HP
def Zcm (s:Option Addr) (name:ByteArray) (l:Sl) (K:Bool→HP) (h:Zb):Prop :=
 Zci h fun b h1 =>
 Zd s fun b2 o =>
 ldL h1 b2 (o+2) fun t =>
 YI (σ:=Int × Unit) (fun J3 s4 h5 =>
 (fun (s20:Int) =>
 Zw (decide (s20<(t.len:Int))) (
 Zap t.ptr t.len s20 2 fun b6 o7 =>
 ldS h5 b6 o7 fun t8=>ldL h5 b6 (o7+1) fun t9 =>
 newC h5 [.string (ByteArray.mk #[]),.slice none 0 0] 137 fun b10 h11 =>
 sts h11 b10 0 [.string t8,.slice t9.ptr t9.len t9.cap] fun h12 =>
 ldL h12 b10 (0+1) fun t13 =>
 YI (σ:=Int × Unit) (fun J14 s15 h16 =>
 (fun (s27:Int) =>
 Zw (decide (s27<(t13.len:Int))) (
 Zap t13.ptr t13.len s27 4 fun b17 o18 =>
 ldI h16 b17 o18 .i64 fun t19=>ldI h16 b17 (o18+1) .i64 fun t20=>ldI h16 b17 (o18+2) .i64 fun t21=>ldI h16 b17 (o18+3) .i64 fun t22 =>
 newC h16 [.int .i64 0,.int .i64 0,.int .i64 0,.int .i64 0] 46 fun b23 h24 =>
 sts h24 b23 0 [.int .i64 t19,.int .i64 t20,.int .i64 t21,.int .i64 t22] fun h25 =>
 ldS h25 b10 0 fun t26 =>
 Zw (!(ZaF t26 name)) (
 ldI h25 b23 0 .i64 fun t27 =>
 X9 (.int .i64) h25 (some b) (.int .i64 t27) (.bool true) fun h28 =>
 J14 (IntKind.wrap .i64 (s27+1),()) h28) (
 J14 (IntKind.wrap .i64 (s27+1),()) h25)) (
 J3 (IntKind.wrap .i64 (s20+1),()) h16)) s15.1) (0,()) h12) (
 YI (σ:=Int × Unit) (fun J29 s30 h31 =>
 (fun (s42:Int) =>
 Zw (decide (s42<(l.len:Int))) (
 Zap l.ptr l.len s42 4 fun b32 o33 =>
 ldI h31 b32 o33 .i64 fun t34=>ldI h31 b32 (o33+1) .i64 fun t35=>ldI h31 b32 (o33+2) .i64 fun t36=>ldI h31 b32 (o33+3) .i64 fun t37 =>
 newC h31 [.int .i64 0,.int .i64 0,.int .i64 0,.int .i64 0] 46 fun b38 h39 =>
 sts h39 b38 0 [.int .i64 t34,.int .i64 t35,.int .i64 t36,.int .i64 t37] fun h40 =>
 ldI h40 b38 0 .i64 fun t41 =>
 XF (.int .i64) h40 (some b) (.int .i64 t41) fun r=>asB (r.getD (.bool false)) fun t42 =>
 Zw t42 (
 K true h40) (
 ldI h40 b38 0 .i64 fun t43 =>
 X9 (.int .i64) h40 (some b) (.int .i64 t43) (.bool true) fun h44 =>
 J29 (IntKind.wrap .i64 (s42+1),()) h44)) (
 K false h31)) s30.1) (0,()) h5)) s4.1) (0,()) h1
def Zab:ZyJ:=Zcm
abbrev ZyI:=(ByteArray × Sl × Unit)→(Option Addr)→(Bool→HP)→HP
def ZbD (x:ByteArray × Sl × Unit) (a1:Option Addr) (K:Bool→HP) (h:Zb):Prop :=
 newC h [.string x.1,.slice x.2.1.ptr x.2.1.len x.2.1.cap] 137 fun b h1 =>
 ldS h1 b 0 fun t =>
 Zd a1 fun b2 o=>ldS h1 b2 o fun t3 =>
 ZG (ZaF t t3) fun t4 =>
 K t4 h1
def XG:ZyI:=ZbD
abbrev ZyH:=Sl→(Option Addr × Unit)→(Int→HP)→HP
def ZZ (f29:ZyI) (s:Sl) (f:Option Addr × Unit) (K:Int→HP) (h:Zb):Prop :=
 Zc 0 fun t =>
 YI (σ:=Int × Unit) (fun J1 s2 h3 =>
 (fun (s8:Int) =>
 Zw (decide (s8<(s.len:Int))) (
 Zc s8 fun i =>
 Zap s.ptr s.len i 2 fun b o =>
 ldS h3 b o fun t4=>ldL h3 b (o+1) fun t5 =>
 f29 (t4,t5,()) f.1 (fun t6 h7 =>
 Zw t6 (
 Zc i fun t8 =>
 K t8 h7) (
 J1 (IntKind.wrap .i64 (s8+1),()) h7)) h3) (
 Zc (-1) fun t9 =>
 K t9 h3)) s2.1) (0,()) h
def ZM:ZyH:=ZZ XG
abbrev Zqk:=(Option Addr)→ByteArray→(Int→HP)→HP
def Zcn (f30:ZyH) (s:Option Addr) (name:ByteArray) (K:Int→HP) (h:Zb):Prop :=
 newC h [.string name] 9 fun b h1 =>
 Zc 0 fun t =>
 Zd s fun b2 o =>
 ldL h1 b2 (o+2) fun t3 =>
 f30 t3 (some ⟨b,0,none⟩,()) (fun t4 h5 =>
 Zc t4 fun t6 =>
 K t6 h5) h1
def Yu:Zqk:=Zcn ZM
abbrev ZyG:=(Option Addr)→ByteArray→Sl→(Bool→HP)→HP
def Zc3 (f31:Zqk) (s:Option Addr) (name:ByteArray) (l:Sl) (K:Bool→HP) (h:Zb):Prop :=
 Zd s fun b o =>
 Zd s fun b1 o2 =>
 ldL h b (o+2) fun t =>
 ldM h b1 (o2+3) fun t3 =>
 ZwU h t3 fun t4 =>
 ZH (Zi h [(b,o+2,.slice t.ptr t.len t.cap)]) <|
 Zc (l.len:Int) fun flows =>
 Zc (t.len:Int) fun spaces =>
 Zc t4 fun ids =>
 Zd s fun b5 o6 =>
 ldL h b5 (o6+2) fun t7 =>
 YI (σ:=Int × Int × Unit) (fun J9 s10 h11 =>
 (fun (flows8:Int) (s33:Int) =>
 Zw (decide (s33<(t7.len:Int))) (
 Zap t7.ptr t7.len s33 2 fun b12 o13 =>
 ldS h11 b12 o13 fun t14=>ldL h11 b12 (o13+1) fun t15 =>
 newC h11 [.string (ByteArray.mk #[]),.slice none 0 0] 137 fun b16 h17 =>
 sts h17 b16 0 [.string t14,.slice t15.ptr t15.len t15.cap] fun h18 =>
 ldS h18 b16 0 fun t19 =>
 Zw (!(ZaF t19 name)) (
 ldL h18 b16 (0+1) fun t20 =>
 Zc (IntKind.wrap .i64 (flows8+(t20.len:Int))) fun flows21 =>
 J9 (flows21,IntKind.wrap .i64 (s33+1),()) h18) (
 J9 (flows8,IntKind.wrap .i64 (s33+1),()) h18)) (
 Zg5 (σ:=Int × Unit) (fun s27 h28 =>
 (fun (spaces26:Int) =>
 YI (σ:=Int × Int × Unit) (fun J30 s31 h32 =>
 (fun (ids29:Int) (s55:Int) =>
 Zw (decide (s55<(l.len:Int))) (
 Zap l.ptr l.len s55 4 fun b33 o34 =>
 ldI h32 b33 o34 .i64 fun t35=>ldI h32 b33 (o34+1) .i64 fun t36=>ldI h32 b33 (o34+2) .i64 fun t37=>ldI h32 b33 (o34+3) .i64 fun t38 =>
 newC h32 [.int .i64 0,.int .i64 0,.int .i64 0,.int .i64 0] 46 fun b39 h40 =>
 sts h40 b39 0 [.int .i64 t35,.int .i64 t36,.int .i64 t37,.int .i64 t38] fun h41 =>
 Zd s fun b42 o43 =>
 ldM h41 b42 (o43+3) fun t44 =>
 ldI h41 b39 0 .i64 fun t45 =>
 Zfj (
 XF (.int .i64) h41 t44 (.int .i64 t45) fun r=>exG (r.getD (.agg #[.nilIface,.int .i64 0])) (fun t46:Value × Int × Unit=> .agg #[t46.1,.int .i64 t46.2.1]) fun t46 =>
 newC h41 [.nilIface,.int .i64 0] 142 fun b47 h48 =>
 sts h48 b47 0 [t46.1,.int .i64 t46.2.1] fun h49 =>
 ZG r.isSome fun there =>
 Zw (!there) (
 Zc (IntKind.wrap .i64 (ids29+1)) fun ids50 =>
 J30 (ids50,IntKind.wrap .i64 (s55+1),()) h49) (
 J30 (ids29,IntKind.wrap .i64 (s55+1),()) h49)) (
 newC h41 [.nilIface,.int .i64 0] 142 fun b51 h52 =>
 ZH (Zi h52 [(b39,0,.int .i64 t45)]) <|
 ZH (Zi h52 [(b42,o43+3,.map t44)]) <|
 XF (.int .i64) h52 t44 (.int .i64 t45) fun r53=>exG (r53.getD (.agg #[.nilIface,.int .i64 0])) (fun t54:Value × Int × Unit=> .agg #[t54.1,.int .i64 t54.2.1]) fun t54 =>
 sts h52 b51 0 [t54.1,.int .i64 t54.2.1] fun h55 =>
 ZG r53.isSome fun there56 =>
 Zw (!there56) (
 Zc (IntKind.wrap .i64 (ids29+1)) fun ids57 =>
 J30 (ids57,IntKind.wrap .i64 (s55+1),()) h55) (
 J30 (ids29,IntKind.wrap .i64 (s55+1),()) h55))) (
 Zw (decide (flows8>256)) (
 K true h32) (
 Zw (decide (spaces26>8)) (
 K true h32) (
 ZG (decide (ids29>512)) fun t58 =>
 K t58 h32)))) s31.1 s31.2.1) (ids,0,()) h28) s27.1) (fun J22 =>
 f31 s name (fun t23 h24 =>
 Zw (decide (t23<0)) (
 Zc (IntKind.wrap .i64 (spaces+1)) fun spaces25 =>
 J22 (spaces25,()) h24) (
 J22 (spaces,()) h24)) h11))) s10.1 s10.2.1) (flows,0,()) h
def Zaw:ZyG:=Zc3 Yu
abbrev ZyF:=Sl→(Sl→HP)→HP
def Y4 (s:Sl) (K:Sl→HP) (h:Zb):Prop :=
 Zw s.ptr.isNone (
 K ⟨none,0,0⟩ h) (
 newC h [] 46 fun b h1 =>
 rdS s 4 h1 fun new=>app 46 4 32 [.int .i64 0,.int .i64 0,.int .i64 0,.int .i64 0] ⟨some ⟨b,0,none⟩,0,0⟩ s.len new h1 fun t h2 =>
 K t h2)
def Z9:ZyF:=Y4
abbrev ZyE:=Int→Int→((Option Addr)→Int→HP)→HP
def Zgd (width:Int) (buckets:Int) (K:(Option Addr)→Int→HP) (h:Zb):Prop :=
 Zc 0 fun t =>
 Zw (decide (width<1)) (
 Zc 2 fun t1 =>
 K none t1 h) (
 Zw (decide (width>1099511627776)) (
 Zc 2 fun t2 =>
 K none t2 h) (
 Zw (decide (buckets<1)) (
 Zc 2 fun t3 =>
 K none t3 h) (
 ZG (decide (buckets>60)) fun t4 =>
 Zw t4 (
 Zc 2 fun t5 =>
 K none t5 h) (
 ZH (buckets≠0) <|
 ZG ((Int.tmod width buckets) !=0) fun t6 =>
 Zw t6 (
 Zc 6 fun t7 =>
 K none t7 h) (
 Zci h fun b h8 =>
 newC h8 [.int .i64 width,.int .i64 buckets,.int .i64 0,.map (some b)] 214 fun b9 h10 =>
 Zc 0 fun t11 =>
 K (some ⟨b9,0,none⟩) t11 h10)))))
def Zd2:ZyE:=Zgd
abbrev ZyD:=Int→Int→(Bool→HP)→HP
def ZeV (n:Int) (most:Int) (K:Bool→HP) (h:Zb):Prop :=
 Zw (decide (n≥1)) (
 ZG (decide (n≤most)) fun t =>
 K t h) (
 K false h)
def ZcK:ZyD:=ZeV
abbrev ZyC:=Int→Int→Int→Int→Int→((Option Addr)→Int→HP)→HP
def Zgf (f35:ZyD) (width:Int) (buckets:Int) (rows:Int) (columns:Int) (seed:Int) (K:(Option Addr)→Int→HP) (h:Zb):Prop :=
 Zc 0 fun t =>
 f35 width 1099511627776 (fun t1 h2 =>
 Zw (!t1) (
 Zc 2 fun t3 =>
 K none t3 h2) (
 f35 buckets 60 (fun t4 h5 =>
 Zw (!t4) (
 Zc 2 fun t6 =>
 K none t6 h5) (
 f35 rows 8 (fun t7 h8 =>
 Zw (!t7) (
 Zc 2 fun t9 =>
 K none t9 h8) (
 f35 columns 4096 (fun t10 h11 =>
 ZG (!t10) fun t12 =>
 Zw t12 (
 Zc 2 fun t13 =>
 K none t13 h11) (
 ZH (buckets≠0) <|
 ZG ((Int.tmod width buckets) !=0) fun t14 =>
 Zw t14 (
 Zc 6 fun t15 =>
 K none t15 h11) (
 newC h11 [.int .i64 width,.int .i64 buckets,.int .i64 rows,.int .i64 columns,.int .u64 seed,.slice none 0 0,.int .i64 0] 220 fun b h16 =>
 Zc 0 fun t17 =>
 K (some ⟨b,0,none⟩) t17 h16))) h8)) h5)) h2)) h
def Zd4:ZyC:=Zgf ZcK
abbrev Zu5:=(Int × Int × Int × Int × Unit)→(Value→HP)→HP
def Zfz (f34:ZyE) (f36:ZyC) (f:Int × Int × Int × Int × Unit) (K:Value→HP) (h:Zb):Prop :=
 newC h [.int .i64 f.1,.int .i64 f.2.1,.int .i64 f.2.2.1,.int .i64 f.2.2.2.1] 46 fun b h1 =>
 ldI h1 b (0+2) .i64 fun t =>
 ZG (t ==1) fun t2 =>
 Zw t2 (
 f34 1000000 10 (fun t3 t4 h5 =>
 Zc t4 fun x =>
 K (.iface 184 (.agg #[.pointer t3])) h5) h1) (
 ZG (t ==2) fun t6 =>
 Zw t6 (
 ldI h1 b 0 .i64 fun t7 =>
 f36 1000000 10 3 256 (IntKind.wrap .u64 t7) (fun t8 t9 h10 =>
 Zc t9 fun x11 =>
 K (.iface 190 (.agg #[.pointer t8])) h10) h1) (
 K (.iface 192 (.agg #[])) h1))
def YX:Zu5:=Zfz Zd2 Zd4
abbrev ZyB:=(Option Addr)→ByteArray→Sl→(Int→HP)→HP
def Zc6 (f22:ZyP) (f27:ZyK) (f28:ZyJ) (f32:ZyG) (f31:Zqk) (f33:ZyF) (f37:Zu5) (s:Option Addr) (namespace_:ByteArray) (l:Sl) (K:Int→HP) (h:Zb):Prop :=
 Zc 0 fun t =>
 ZG s.isNone fun t1 =>
 Zw t1 (
 Zc 1 fun t2 =>
 K t2 h) (
 f22 namespace_ (fun t3 h4 =>
 ZG (!t3) fun t5 =>
 Zw t5 (
 Zc 10 fun t6 =>
 K t6 h4) (
 f27 l (fun t7 h8 =>
 ZG t7 fun t9 =>
 Zw t9 (
 Zc 6 fun t10 =>
 K t10 h8) (
 f28 s namespace_ l (fun t11 h12 =>
 ZG t11 fun t13 =>
 Zw t13 (
 Zc 11 fun t14 =>
 K t14 h12) (
 f32 s namespace_ l (fun t15 h16 =>
 ZG t15 fun t17 =>
 Zw t17 (
 Zc 3 fun t18 =>
 K t18 h16) (
 f31 s namespace_ (fun t19 h20 =>
 Zc t19 fun i =>
 Zg5 (σ:=Int × Unit) (fun s35 h36 =>
 (fun (i34:Int) =>
 Zd s fun b37 o38 =>
 ldL h36 b37 (o38+2) fun t39 =>
 f33 l (fun t40 h41 =>
 ZH (Zi h41 [(b37,o38+2,.slice t39.ptr t39.len t39.cap)]) <|
 Zap t39.ptr t39.len i34 2 fun b42 o43 =>
 st h41 b42 (o43+1) (.slice t40.ptr t40.len t40.cap) fun h44 =>
 YI (σ:=Int × Unit) (fun J45 s46 h47 =>
 (fun (s64:Int) =>
 Zw (decide (s64<(l.len:Int))) (
 Zap l.ptr l.len s64 4 fun b48 o49 =>
 ldI h47 b48 o49 .i64 fun t50=>ldI h47 b48 (o49+1) .i64 fun t51=>ldI h47 b48 (o49+2) .i64 fun t52=>ldI h47 b48 (o49+3) .i64 fun t53 =>
 newC h47 [.int .i64 0,.int .i64 0,.int .i64 0,.int .i64 0] 46 fun b54 h55 =>
 sts h55 b54 0 [.int .i64 t50,.int .i64 t51,.int .i64 t52,.int .i64 t53] fun h56 =>
 Zg5 (σ:=Option Addr × Bool × Unit) (fun s73 h74 =>
 (fun (c:Option Addr) (there72:Bool) =>
 Zw (!there72) (
 Zd s fun b75 o76 =>
 ldM h74 b75 (o76+3) fun t77 =>
 ldI h74 b54 0 .i64 fun t78 =>
 ldI h74 b54 0 .i64 fun t79=>ldI h74 b54 (0+1) .i64 fun t80=>ldI h74 b54 (0+2) .i64 fun t81=>ldI h74 b54 (0+3) .i64 fun t82 =>
 ldI h74 b54 (0+2) .i64 fun t83 =>
 f37 (t79,t80,t81,t82,()) (fun t84 h85 =>
 ZH (Zi h85 [(b54,0+2,.int .i64 t83)]) <|
 ZH (Zi h85 [(b54,0,.int .i64 t78)]) <|
 ZH (Zi h85 [(b75,o76+3,.map t77)]) <|
 ZH (Zv t84=true) <|
 X9 (.int .i64) h85 t77 (.int .i64 t78) (.agg #[t84,.int .i64 t83]) fun h86 =>
 J45 (IntKind.wrap .i64 (s64+1),()) h86) h74) (
 Zd c fun b87 o88 =>
 ldI h74 b87 (o88+1) .i64 fun t89 =>
 ldI h74 b54 (0+2) .i64 fun t90 =>
 Zw (t89 !=t90) (
 Zd s fun b91 o92 =>
 ldM h74 b91 (o92+3) fun t93 =>
 ldI h74 b54 0 .i64 fun t94 =>
 ldI h74 b54 0 .i64 fun t95=>ldI h74 b54 (0+1) .i64 fun t96=>ldI h74 b54 (0+2) .i64 fun t97=>ldI h74 b54 (0+3) .i64 fun t98 =>
 ldI h74 b54 (0+2) .i64 fun t99 =>
 f37 (t95,t96,t97,t98,()) (fun t100 h101 =>
 ZH (Zi h101 [(b54,0+2,.int .i64 t99)]) <|
 ZH (Zi h101 [(b54,0,.int .i64 t94)]) <|
 ZH (Zi h101 [(b91,o92+3,.map t93)]) <|
 ZH (Zv t100=true) <|
 X9 (.int .i64) h101 t93 (.int .i64 t94) (.agg #[t100,.int .i64 t99]) fun h102 =>
 J45 (IntKind.wrap .i64 (s64+1),()) h102) h74) (
 J45 (IntKind.wrap .i64 (s64+1),()) h74))) s73.1 s73.2.1) (fun J57 =>
 Zd s fun b58 o59 =>
 ldM h56 b58 (o59+3) fun t60 =>
 ldI h56 b54 0 .i64 fun t61 =>
 Zfj (
 XF (.int .i64) h56 t60 (.int .i64 t61) fun r=>exG (r.getD (.agg #[.nilIface,.int .i64 0])) (fun t62:Value × Int × Unit=> .agg #[t62.1,.int .i64 t62.2.1]) fun t62 =>
 newC h56 [.nilIface,.int .i64 0] 142 fun b63 h64 =>
 sts h64 b63 0 [t62.1,.int .i64 t62.2.1] fun h65 =>
 ZG r.isSome fun there =>
 J57 (some ⟨b63,0,none⟩,there,()) h65) (
 newC h56 [.nilIface,.int .i64 0] 142 fun b66 h67 =>
 ZH (Zi h67 [(b54,0,.int .i64 t61)]) <|
 ZH (Zi h67 [(b58,o59+3,.map t60)]) <|
 XF (.int .i64) h67 t60 (.int .i64 t61) fun r68=>exG (r68.getD (.agg #[.nilIface,.int .i64 0])) (fun t69:Value × Int × Unit=> .agg #[t69.1,.int .i64 t69.2.1]) fun t69 =>
 sts h67 b66 0 [t69.1,.int .i64 t69.2.1] fun h70 =>
 ZG r68.isSome fun there71 =>
 J57 (some ⟨b66,0,none⟩,there71,()) h70))) (
 Zc 0 fun t103 =>
 K t103 h47)) s46.1) (0,()) h44) h36) s35.1) (fun J21 =>
 Zw (decide (i<0)) (
 Zd s fun b o =>
 ldL h20 b (o+2) fun t22 =>
 Zc (t22.len:Int) fun i23 =>
 Zd s fun b24 o25 =>
 ldL h20 b24 (o25+2) fun t26 =>
 newC h20 [.string namespace_,.slice none 0 0] 137 fun b27 h28 =>
 rdS ⟨some ⟨b27,0,none⟩,1,1⟩ 2 h28 fun new=>app 137 2 40 [.string (ByteArray.mk #[]),.slice none 0 0] t26 1 new h28 fun t29 h30 =>
 Zd s fun b31 o32 =>
 st h30 b31 (o32+2) (.slice t29.ptr t29.len t29.cap) fun h33 =>
 J21 (i23,()) h33) (
 J21 (i,()) h20))) h16)) h12)) h8)) h4)) h)
def Zay:ZyB:=Zc6 ZcM ZD Zab Zaw Yu Z9 YX
abbrev Zu4:=(Option Addr)→Sl→(Int→HP)→HP
def ZbJ (f38:ZyB) (c:Option Addr) (l:Sl) (K:Int→HP) (h:Zb):Prop :=
 Zc 0 fun t =>
 Zw c.isNone (
 Zc 1 fun t1 =>
 K t1 h) (
 Zd c fun b o =>
 ldP h b (o+1) fun t2 =>
 f38 t2 (ByteArray.mk #[99,108,117,115,116,101,114]) l (fun t3 h4 =>
 Zc t3 fun t5 =>
 K t5 h4) h)
def Yf:Zu4:=ZbJ Zay
abbrev ZyA:=Int→((Value × Bool × Unit)→Bool→HP)→HP
def Zd7 (k:Int) (K:(Value × Bool × Unit)→Bool→HP) (h:Zb):Prop :=
 newC h [.nilFunc,.bool false] 94 fun b h1 =>
 ZH (Zv (.func (.func 60) #[] #[])=true) <|
 ZH (Zv (.func (.func 61) #[] #[])=true) <|
 ZH (Zv (.func (.func 62) #[] #[])=true) <|
 ZH (Zv (.func (.func 63) #[] #[])=true) <|
 ZH (Zv (.func (.func 64) #[] #[])=true) <|
 ZH (Zv (.func (.func 65) #[] #[])=true) <|
 ZH (Zv (.func (.func 66) #[] #[])=true) <|
 ZH (Zv (.func (.func 67) #[] #[])=true) <|
 newC h1 [.nilFunc,.bool false,.nilFunc,.bool false,.nilFunc,.bool false,.nilFunc,.bool false,.nilFunc,.bool false,.nilFunc,.bool false,.nilFunc,.bool false,.nilFunc,.bool false,.nilFunc,.bool false] 146 fun b2 h3 =>
 sts h3 b2 0 [.nilFunc,.bool false,.func (.func 60) #[] #[],.bool true,.func (.func 61) #[] #[],.bool false,.func (.func 62) #[] #[],.bool false,.func (.func 63) #[] #[],.bool false,.func (.func 64) #[] #[],.bool false,.func (.func 65) #[] #[],.bool false,.func (.func 66) #[] #[],.bool true,.func (.func 67) #[] #[],.bool true] fun h4 =>
 Zw (decide (k<1)) (
 sts h4 b 0 [.nilFunc,.bool false] fun h5 =>
 ldV h5 b 0 fun t=>ldB h5 b (0+1) fun t6=>K (t,t6,()) false h5) (
 Zw (decide ((IntKind.wrap .i64 k)≥9)) (
 sts h4 b 0 [.nilFunc,.bool false] fun h7 =>
 ldV h7 b 0 fun t8=>ldB h7 b (0+1) fun t9=>K (t8,t9,()) false h7) (
 Zxw 9 k fun j =>
 ldV h4 b2 (0+j*2) fun t10=>ldB h4 b2 (0+j*2+1) fun t11 =>
 sts h4 b 0 [t10,.bool t11] fun h12 =>
 ldV h12 b 0 fun t13=>ldB h12 b (0+1) fun t14=>K (t13,t14,()) true h12))
def Zby:ZyA:=Zd7
abbrev Zu3:=(Option Addr)→Int→((Option Addr)→HP)→HP
def ZbI (c:Option Addr) (i:Int) (K:(Option Addr)→HP) (h:Zb):Prop :=
 Zw c.isNone (
 K none h) (
 Zw (decide (i<0)) (
 K none h) (
 Zd c fun b o =>
 ldL h b (o+3) fun t =>
 Zw (decide (i≥(t.len:Int))) (
 K none h) (
 Zd c fun b1 o2 =>
 ldL h b1 (o2+3) fun t3 =>
 Zap t3.ptr t3.len i 3 fun b4 o5 =>
 K (some ⟨b4,o5,none⟩) h)))
def YF:Zu3:=ZbI
abbrev Zyz:=(Option Addr)→(Int × Int × Int × Int × Int × Int × Int × Int × ByteArray × Int × Unit)→((Int × Bool × Int × Unit)→HP)→HP
def Zcw (f19:Zu7) (w:Option Addr) (o:Int × Int × Int × Int × Int × Int × Int × Int × ByteArray × Int × Unit) (K:(Int × Bool × Int × Unit)→HP) (h:Zb):Prop :=
 newC h [.int .u8 o.1,.int .i64 o.2.1,.int .i64 o.2.2.1,.int .i64 o.2.2.2.1,.int .i64 o.2.2.2.2.1,.int .u8 o.2.2.2.2.2.1,.int .i64 o.2.2.2.2.2.2.1,.int .i64 o.2.2.2.2.2.2.2.1,.string o.2.2.2.2.2.2.2.2.1,.int .i64 o.2.2.2.2.2.2.2.2.2.1] 41 fun b h1 =>
 newC h1 [.int .i64 0,.bool false,.int .i64 0] 100 fun b2 h3 =>
 ldI h3 b (0+2) .i64 fun t =>
 Zw (decide (t<0)) (
 sts h3 b2 0 [.int .i64 0,.bool false,.int .i64 2] fun h4 =>
 ldI h4 b2 0 .i64 fun t5=>ldB h4 b2 (0+1) fun t6=>ldI h4 b2 (0+2) .i64 fun t7=>K (t5,t6,t7,()) h4) (
 ldI h3 b (0+2) .i64 fun t8 =>
 ZG (decide (t8>1152921504606846976)) fun t9 =>
 Zw t9 (
 sts h3 b2 0 [.int .i64 0,.bool false,.int .i64 2] fun h10 =>
 ldI h10 b2 0 .i64 fun t11=>ldB h10 b2 (0+1) fun t12=>ldI h10 b2 (0+2) .i64 fun t13=>K (t11,t12,t13,()) h10) (
 ldI h3 b (0+2) .i64 fun t14 =>
 Zd w fun b15 o16 =>
 ldI h3 b15 (o16+4) .i64 fun t17 =>
 ZG (decide (t14<t17)) fun t18 =>
 Zw t18 (
 sts h3 b2 0 [.int .i64 0,.bool false,.int .i64 7] fun h19 =>
 ldI h19 b2 0 .i64 fun t20=>ldB h19 b2 (0+1) fun t21=>ldI h19 b2 (0+2) .i64 fun t22=>K (t20,t21,t22,()) h19) (
 ldI h3 b (0+2) .i64 fun t23 =>
 Zd w fun b24 o25 =>
 st h3 b24 (o25+4) (.int .i64 t23) fun h26 =>
 Zd w fun b27 o28 =>
 ldL h26 b27 (o28+3) fun t29 =>
 YI (σ:=Int × Unit) (fun J30 s h31 =>
 (fun (s36:Int) =>
 Zw (decide (s36<(t29.len:Int))) (
 Zap t29.ptr t29.len s36 3 fun b32 o33 =>
 ldP h31 b32 o33 fun t34=>ldI h31 b32 (o33+1) .i64 fun t35=>ldP h31 b32 (o33+2) fun t36 =>
 newC h31 [.pointer none,.int .i64 0,.pointer none] 90 fun b37 h38 =>
 sts h38 b37 0 [.pointer t34,.int .i64 t35,.pointer t36] fun h39 =>
 Zd w fun b40 o41 =>
 ldP h39 b37 0 fun t42 =>
 ldI h39 b40 (o41+4) .i64 fun t43 =>
 f19 t42 t43 (fun t44 h45 =>
 J30 (IntKind.wrap .i64 (s36+1),()) h45) h39) (
 sts h31 b2 0 [.int .i64 0,.bool false,.int .i64 0] fun h46 =>
 ldI h46 b2 0 .i64 fun t47=>ldB h46 b2 (0+1) fun t48=>ldI h46 b2 (0+2) .i64 fun t49=>K (t47,t48,t49,()) h46)) s.1) (0,()) h26)))
def Xw:Zyz:=Zcw Y3
abbrev Zu2:=(Option Addr)→Sl→(HP)→HP
def ZbH (w:Option Addr) (l:Sl) (K:HP) (h:Zb):Prop :=
 YI (σ:=Int × Unit) (fun J1 s h2 =>
 (fun (s9:Int) =>
 Zw (decide (s9<(l.len:Int))) (
 Zap l.ptr l.len s9 1 fun b o =>
 ldI h2 b o .i64 fun t =>
 Zc t fun n =>
 Zc 56 fun shift =>
 YI (σ:=Int × Unit) (fun J4 s5 h6 =>
 (fun (shift3:Int) =>
 Zw (decide (shift3≥0)) (
 Zd w fun b7 o8 =>
 ZH (0≤shift3) <|
 ldL h6 b7 o8 fun t9 =>
 newC h6 [.int .u8 (IntKind.wrap .u8 (ZlM .i64 n shift3))] 5 fun b10 h11 =>
 ZH (Zi h11 [(b7,o8,.slice t9.ptr t9.len t9.cap)]) <|
 rdS ⟨some ⟨b10,0,none⟩,1,1⟩ 1 h11 fun new=>app 5 1 1 [.int .u8 0] t9 1 new h11 fun t12 h13 =>
 Zd w fun b14 o15 =>
 st h13 b14 o15 (.slice t12.ptr t12.len t12.cap) fun h16 =>
 Zc (IntKind.wrap .i64 (shift3 - 8)) fun shift17 =>
 J4 (shift17,()) h16) (
 J1 (IntKind.wrap .i64 (s9+1),()) h6)) s5.1) (shift,()) h2) (
 K h2)) s.1) (0,()) h
def YE:Zu2:=ZbH
abbrev Zyy:=(Int × Int × Int × Int × ByteArray × Int × Unit)→(Sl→Int→HP)→HP
def Zex (f10:Zl5) (f43:Zu2) (r:Int × Int × Int × Int × ByteArray × Int × Unit) (K:Sl→Int→HP) (h:Zb):Prop :=
 newC h [.int .i64 r.1,.int .u8 r.2.1,.int .i64 r.2.2.1,.int .i64 r.2.2.2.1,.string r.2.2.2.2.1,.int .i64 r.2.2.2.2.2.1] 39 fun b h1 =>
 Zc 0 fun t =>
 ldI h1 b 0 .i64 fun t2=>ldI h1 b (0+1) .u8 fun t3=>ldI h1 b (0+2) .i64 fun t4=>ldI h1 b (0+3) .i64 fun t5=>ldS h1 b (0+4) fun t6=>ldI h1 b (0+5) .i64 fun t7 =>
 f10 (t2,t3,t4,t5,t6,t7,()) (fun t8 h9 =>
 Zw (!t8) (
 Zc 6 fun t10 =>
 K ⟨none,0,0⟩ t10 h9) (
 ldI h9 b (0+1) .u8 fun t11 =>
 newC h9 [.int .u8 t11] 5 fun b12 h13 =>
 newC h13 [.slice none 0 0] 261 fun b14 h15 =>
 sts h15 b14 0 [.slice (some ⟨b12,0,none⟩) 1 1] fun h16 =>
 ldI h16 b 0 .i64 fun t17 =>
 ldI h16 b (0+2) .i64 fun t18 =>
 ldI h16 b (0+3) .i64 fun t19 =>
 ldI h16 b (0+5) .i64 fun t20 =>
 newC h16 [.int .i64 t17,.int .i64 t18,.int .i64 t19,.int .i64 t20] 3 fun b21 h22 =>
 f43 (some ⟨b14,0,none⟩) ⟨some ⟨b21,0,none⟩,4,4⟩ (fun h23 =>
 ldL h23 b14 0 fun t24 =>
 ldS h23 b (0+4) fun t25 =>
 ldS h23 b (0+4) fun t26 =>
 newC h23 [.int .u8 (IntKind.wrap .u8 (t25.size:Int))] 5 fun b27 h28 =>
 ZH (Zi h28 [(b,0+4,.string t26)]) <|
 ZH (Zi h28 [(b,0+4,.string t25)]) <|
 ZH (Zi h28 [(b14,0,.slice t24.ptr t24.len t24.cap)]) <|
 rdS ⟨some ⟨b27,0,none⟩,1,1⟩ 1 h28 fun new=>app 5 1 1 [.int .u8 0] t24 1 new h28 fun t29 h30 =>
 ZH (Zi h30 [(b,0+4,.string t26)]) <|
 ZH (Zi h30 [(b,0+4,.string t25)]) <|
 app 5 1 1 [.int .u8 0] t29 t26.size (Zbx t26) h30 fun t31 h32 =>
 ZH (Zi h32 [(b,0+4,.string t25)]) <|
 Zc 0 fun t33 =>
 K t31 t33 h32) h22)) h1
def ZbU:Zyy:=Zex YY YE
abbrev Zu1:=Sl→(Sl→Int→HP)→HP
def ZfE (payload:Sl) (K:Sl→Int→HP) (h:Zb):Prop :=
 Zc 0 fun t =>
 Zc (payload.len:Int) fun n =>
 ZG (decide (n>4096)) fun t1 =>
 Zw t1 (
 Zc 5 fun t2 =>
 K ⟨none,0,0⟩ t2 h) (
 ZG (n ==0) fun t3 =>
 Zw t3 (
 Zc 6 fun t4 =>
 K ⟨none,0,0⟩ t4 h) (
 ZH (0≤(24:Int)) <|
 ZH (0≤(16:Int)) <|
 ZH (0≤(8:Int)) <|
 newC h [.int .u8 (IntKind.wrap .u8 (ZlM .i64 n 24)),.int .u8 (IntKind.wrap .u8 (ZlM .i64 n 16)),.int .u8 (IntKind.wrap .u8 (ZlM .i64 n 8)),.int .u8 (IntKind.wrap .u8 n)] 5 fun b h5 =>
 rdS payload 1 h5 fun new=>app 5 1 1 [.int .u8 0] ⟨some ⟨b,0,none⟩,4,4⟩ payload.len new h5 fun t6 h7 =>
 Zc 0 fun t8 =>
 K t6 t8 h7))
def Zbq:Zu1:=ZfE
abbrev Zyx:=Sl→(Sl→Int→HP)→HP
def Ze1 (f45:Zu1) (l:Sl) (K:Sl→Int→HP) (h:Zb):Prop :=
 Zc 0 fun t =>
 YI (σ:=Sl × Int × Unit) (fun J1 s h2 =>
 (fun (out:Sl) (s11:Int) =>
 Zw (decide (s11<(l.len:Int))) (
 Zap l.ptr l.len s11 1 fun b o =>
 ldL h2 b o fun t3 =>
 f45 t3 (fun t4 t5 h6 =>
 Zc t5 fun e =>
 Zw (e !=0) (
 Zc e fun t7 =>
 K ⟨none,0,0⟩ t7 h6) (
 rdS t4 1 h6 fun new=>app 5 1 1 [.int .u8 0] out t4.len new h6 fun t8 h9 =>
 J1 (t8,IntKind.wrap .i64 (s11+1),()) h9)) h2) (
 Zc 0 fun t10 =>
 K out t10 h2)) s.1 s.2.1) (⟨none,0,0⟩,0,()) h
def ZcQ:Zyx:=Ze1 Zbq
abbrev Zyw:=Sl→(Sl→Int→HP)→HP
def Zg1 (f44:Zyy) (f46:Zyx) (l:Sl) (K:Sl→Int→HP) (h:Zb):Prop :=
 Zc 0 fun t =>
 YI (σ:=Sl × Int × Unit) (fun J1 s h2 =>
 (fun (payloads:Sl) (s11:Int) =>
 Zw (decide (s11<(l.len:Int))) (
 Zap l.ptr l.len s11 6 fun b o =>
 ldI h2 b o .i64 fun t3=>ldI h2 b (o+1) .u8 fun t4=>ldI h2 b (o+2) .i64 fun t5=>ldI h2 b (o+3) .i64 fun t6=>ldS h2 b (o+4) fun t7=>ldI h2 b (o+5) .i64 fun t8 =>
 newC h2 [.int .i64 0,.int .u8 0,.int .i64 0,.int .i64 0,.string (ByteArray.mk #[]),.int .i64 0] 39 fun b9 h10 =>
 sts h10 b9 0 [.int .i64 t3,.int .u8 t4,.int .i64 t5,.int .i64 t6,.string t7,.int .i64 t8] fun h11 =>
 ldI h11 b9 0 .i64 fun t12=>ldI h11 b9 (0+1) .u8 fun t13=>ldI h11 b9 (0+2) .i64 fun t14=>ldI h11 b9 (0+3) .i64 fun t15=>ldS h11 b9 (0+4) fun t16=>ldI h11 b9 (0+5) .i64 fun t17 =>
 f44 (t12,t13,t14,t15,t16,t17,()) (fun t18 t19 h20 =>
 Zc t19 fun err =>
 Zw (err !=0) (
 Zc err fun t21 =>
 K ⟨none,0,0⟩ t21 h20) (
 newC h20 [.slice t18.ptr t18.len t18.cap] 126 fun b22 h23 =>
 rdS ⟨some ⟨b22,0,none⟩,1,1⟩ 1 h23 fun new=>app 126 1 24 [.slice none 0 0] payloads 1 new h23 fun t24 h25 =>
 J1 (t24,IntKind.wrap .i64 (s11+1),()) h25)) h11) (
 f46 payloads (fun t26 t27 h28 =>
 Zc t27 fun t29 =>
 K t26 t29 h28) h2)) s.1 s.2.1) (⟨none,0,0⟩,0,()) h
def Zeu:Zyw:=Zg1 ZbU ZcQ
abbrev Zu0:=(Option Addr)→(Int × Int × Int × Int × ByteArray × Int × Unit)→(HP)→HP
def Zb9 (f47:Zyw) (c:Option Addr) (r:Int × Int × Int × Int × ByteArray × Int × Unit) (K:HP) (h:Zb):Prop :=
 newC h [.int .i64 r.1,.int .u8 r.2.1,.int .i64 r.2.2.1,.int .i64 r.2.2.2.1,.string r.2.2.2.2.1,.int .i64 r.2.2.2.2.2.1] 39 fun b h1 =>
 ldI h1 b 0 .i64 fun t=>ldI h1 b (0+1) .u8 fun t2=>ldI h1 b (0+2) .i64 fun t3=>ldI h1 b (0+3) .i64 fun t4=>ldS h1 b (0+4) fun t5=>ldI h1 b (0+5) .i64 fun t6 =>
 newC h1 [.int .i64 t,.int .u8 t2,.int .i64 t3,.int .i64 t4,.string t5,.int .i64 t6] 39 fun b7 h8 =>
 f47 ⟨some ⟨b7,0,none⟩,1,1⟩ (fun t9 t10 h11 =>
 Zc t10 fun x =>
 Zd c fun b12 o =>
 ldL h11 b12 (o+9) fun t13 =>
 rdS t9 1 h11 fun new=>app 5 1 1 [.int .u8 0] t13 t9.len new h11 fun t14 h15 =>
 Zd c fun b16 o17 =>
 st h15 b16 (o17+9) (.slice t14.ptr t14.len t14.cap) fun h18 =>
 K h18) h8
def YR:Zu0:=Zb9 Zeu
abbrev Zyv:=(Option Addr)→(Option Addr)→(Option Addr)→(Option Addr)→(Option Addr)→(Int→HP)→HP
def Zcb (f10:Zl5) (f48:Zu0) (a0:Option Addr) (a1:Option Addr) (a2:Option Addr) (a3:Option Addr) (a4:Option Addr) (K:Int→HP) (h:Zb):Prop :=
 Zc 0 fun t =>
 Zd a0 fun b o =>
 st h b o (.int .i64 0) fun h1 =>
 Zd a0 fun b2 o3=>ldI h1 b2 o3 .i64 fun t4=>ldI h1 b2 (o3+1) .u8 fun t5=>ldI h1 b2 (o3+2) .i64 fun t6=>ldI h1 b2 (o3+3) .i64 fun t7=>ldS h1 b2 (o3+4) fun t8=>ldI h1 b2 (o3+5) .i64 fun t9 =>
 f10 (t4,t5,t6,t7,t8,t9,()) (fun t10 h11 =>
 Zw (!t10) (
 Zc 6 fun t12 =>
 K t12 h11) (
 Zd a0 fun b13 o14 =>
 ldI h11 b13 (o14+1) .u8 fun t15 =>
 ZG (t15 ==5) fun t16 =>
 Zw t16 (
 Zc 6 fun t17 =>
 K t17 h11) (
 Zd a1 fun b18 o19=>ldP h11 b18 o19 fun t20 =>
 Zd t20 fun b21 o22 =>
 ldB h11 b21 (o22+5) fun t23 =>
 Zw (!t23) (
 Zd a2 fun b24 o25=>st h11 b24 o25 (.bool true) fun h26 =>
 Zc 0 fun t27 =>
 K t27 h26) (
 Zd a1 fun b28 o29=>ldP h11 b28 o29 fun t30 =>
 Zd t30 fun b31 o32 =>
 ldM h11 b31 (o32+8) fun t33 =>
 ZwU h11 t33 fun t34 =>
 ZG (decide (t34≥256)) fun t35 =>
 Zw t35 (
 Zd a2 fun b36 o37=>st h11 b36 o37 (.bool true) fun h38 =>
 Zc 0 fun t39 =>
 K t39 h38) (
 Zd a1 fun b40 o41=>ldP h11 b40 o41 fun t42 =>
 Zd t42 fun b43 o44 =>
 ldI h11 b43 (o44+7) .i64 fun t45 =>
 Zd a1 fun b46 o47=>ldP h11 b46 o47 fun t48 =>
 Zd t48 fun b49 o50 =>
 ldI h11 b49 (o50+7) .i64 fun t51 =>
 Zd a3 fun b52 o53=>st h11 b52 o53 (.int .i64 t45) fun h54 =>
 ZH (Zi h54 [(b49,o50+7,.int .i64 t51)]) <|
 ZH (Zi h54 [(b46,o47,.pointer t48)]) <|
 Zd a0 fun b55 o56 =>
 st h54 b55 o56 (.int .i64 t51) fun h57 =>
 Zd a1 fun b58 o59=>ldP h57 b58 o59 fun t60 =>
 Zd t60 fun b61 o62 =>
 ldI h57 b61 (o62+7) .i64 fun t63 =>
 Zd t60 fun b64 o65 =>
 st h57 b64 (o65+7) (.int .i64 (IntKind.wrap .i64 (t63+1))) fun h66 =>
 Zd a1 fun b67 o68=>ldP h66 b67 o68 fun t69 =>
 Zd t69 fun b70 o71 =>
 ldM h66 b70 (o71+8) fun t72 =>
 Zd a3 fun b73 o74=>ldI h66 b73 o74 .i64 fun t75 =>
 Zd a4 fun b76 o77=>ldI h66 b76 o77 .i64 fun t78 =>
 X9 (.int .i64) h66 t72 (.int .i64 t75) (.int .i64 t78) fun h79 =>
 Zd a1 fun b80 o81=>ldP h79 b80 o81 fun t82 =>
 Zd a0 fun b83 o84=>ldI h79 b83 o84 .i64 fun t85=>ldI h79 b83 (o84+1) .u8 fun t86=>ldI h79 b83 (o84+2) .i64 fun t87=>ldI h79 b83 (o84+3) .i64 fun t88=>ldS h79 b83 (o84+4) fun t89=>ldI h79 b83 (o84+5) .i64 fun t90 =>
 f48 t82 (t85,t86,t87,t88,t89,t90,()) (fun h91 =>
 Zc 0 fun t92 =>
 K t92 h91) h79))))) h1
def X0:Zyv:=Zcb YY YR
abbrev Zyu:=(Option Addr)→Int→(Option Addr × Option Addr × Option Addr × Option Addr × Option Addr × Unit)→(Int→HP)→HP
def X1 (f15:Zic) (f16:Zib) (f49:Zyv) (c:Option Addr) (at_:Int) (then_:Option Addr × Option Addr × Option Addr × Option Addr × Option Addr × Unit) (K:Int→HP) (h:Zb):Prop :=
 Zc 0 fun t =>
 ZG c.isNone fun t1 =>
 Zw t1 (
 Zc 1 fun t2 =>
 K t2 h) (
 Zw (decide (at_<0)) (
 Zc 2 fun t3 =>
 K t3 h) (
 ZG (decide (at_>1152921504606846976)) fun t4 =>
 Zw t4 (
 Zc 2 fun t5 =>
 K t5 h) (
 Zd c fun b o =>
 ldI h b (o+6) .i64 fun t6 =>
 ZG (decide (at_<t6)) fun t7 =>
 Zw t7 (
 Zc 7 fun t8 =>
 K t8 h) (
 Zd c fun b9 o10 =>
 st h b9 (o10+6) (.int .i64 at_) fun h11 =>
 f15 c (fun t12 h13 =>
 YI (σ:=Int × Unit) (fun J14 s h15 =>
 (fun (s33:Int) =>
 Zw (decide (s33<(t12.len:Int))) (
 Zap t12.ptr t12.len s33 1 fun b16 o17 =>
 ldI h15 b16 o17 .i64 fun t18 =>
 Zc t18 fun id =>
 Zd c fun b19 o20 =>
 Zd c fun b21 o22 =>
 ldM h15 b19 (o20+8) fun t23 =>
 ldI h15 b21 (o22+1) .i64 fun t24 =>
 XF (.int .i64) h15 t23 (.int .i64 id) fun r=>asI (r.getD (.int .i64 0)) .i64 fun t25 =>
 ZH (Zi h15 [(b21,o22+1,.int .i64 t24)]) <|
 Zw (decide ((IntKind.wrap .i64 (at_ - t25))≥t24)) (
 f16 c id (fun h26 =>
 J14 (IntKind.wrap .i64 (s33+1),()) h26) h15) (
 J14 (IntKind.wrap .i64 (s33+1),()) h15)) (
 f49 then_.1 then_.2.1 then_.2.2.1 then_.2.2.2.1 then_.2.2.2.2.1 (fun t27 h28 =>
 Zc t27 fun t29 =>
 K t29 h28) h15)) s.1) (0,()) h13) h11))))
def Yq:Zyu:=X1 Zk Zq X0
abbrev Zyt:=(Option Addr)→Int→(Int × Int × Int × Int × ByteArray × Int × Unit)→(Int→Bool→Int→HP)→HP
def Zde (f50:Zyu) (c:Option Addr) (at_:Int) (r:Int × Int × Int × Int × ByteArray × Int × Unit) (K:Int→Bool→Int→HP) (h:Zb):Prop :=
 newC h [.pointer c] 84 fun b h1 =>
 newC h1 [.int .i64 at_] 3 fun b2 h3 =>
 newC h3 [.int .i64 r.1,.int .u8 r.2.1,.int .i64 r.2.2.1,.int .i64 r.2.2.2.1,.string r.2.2.2.2.1,.int .i64 r.2.2.2.2.2.1] 39 fun b4 h5 =>
 newC h5 [.int .i64 0] 3 fun b6 h7 =>
 newC h7 [.bool false] 4 fun b8 h9 =>
 Zc 0 fun e =>
 ldP h9 b 0 fun t =>
 ldI h9 b2 0 .i64 fun t10 =>
 f50 t t10 (some ⟨b4,0,none⟩,some ⟨b,0,none⟩,some ⟨b8,0,none⟩,some ⟨b6,0,none⟩,some ⟨b2,0,none⟩,()) (fun t11 h12 =>
 Zc t11 fun e13 =>
 ldI h12 b6 0 .i64 fun t14 =>
 ldB h12 b8 0 fun t15 =>
 st h12 b6 0 (.int .i64 t14) fun h16 =>
 ZH (Zi h16 [(b8,0,.bool t15)]) <|
 st h16 b8 0 (.bool t15) fun h17 =>
 Zc e13 fun e18 =>
 ldI h17 b6 0 .i64 fun t19=>ldB h17 b8 0 fun t20=>K t19 t20 e18 h17) h9
def ZaB:Zyt:=Zde Yq
abbrev ZlR:=(Option Addr)→(Bool→HP)→HP
def ZcS (c:Option Addr) (K:Bool→HP) (h:Zb):Prop :=
 Zw c.isSome (
 Zd c fun b o =>
 ldB h b (o+5) fun t =>
 ZG t fun t1 =>
 K t1 h) (
 K false h)
def ZP:ZlR:=ZcS
abbrev Zys:=(Option Addr)→(Sl→HP)→HP
def Zeb (c:Option Addr) (K:Sl→HP) (h:Zb):Prop :=
 Zw c.isNone (
 K ⟨none,0,0⟩ h) (
 Zd c fun b o =>
 ldL h b (o+9) fun t =>
 Zd c fun b1 o2 =>
 st h b1 (o2+9) (.slice none 0 0) fun h3 =>
 K t h3)
def Za4:Zys:=Zeb
abbrev Zoq:=(Option Addr)→Int→Int→Int→((Option Addr)→Int→HP)→HP
def Zew (n:Option Addr) (k:Int) (end_:Int) (most:Int) (K:(Option Addr)→Int→HP) (h:Zb):Prop :=
 Zc 0 fun t =>
 ZG n.isNone fun t1 =>
 Zw t1 (
 Zc 1 fun t2 =>
 K none t2 h) (
 Zw (decide (k<1)) (
 Zc 4 fun t3 =>
 K none t3 h) (
 Zd n fun b o =>
 ldL h b (o+1) fun t4 =>
 ZG (decide (k>(t4.len:Int))) fun t5 =>
 Zw t5 (
 Zc 4 fun t6 =>
 K none t6 h) (
 Zw (decide (end_<0)) (
 Zc 2 fun t7 =>
 K none t7 h) (
 Zw (decide (end_>1)) (
 Zc 2 fun t8 =>
 K none t8 h) (
 ZG (decide (most<0)) fun t9 =>
 Zw t9 (
 Zc 2 fun t10 =>
 K none t10 h) (
 Zd n fun b11 o12 =>
 ldL h b11 (o12+1) fun t13 =>
 Zap t13.ptr t13.len (IntKind.wrap .i64 (k - 1)) 8 fun b14 o15 =>
 ldB h b14 (o15+7) fun t16 =>
 ZG t16 fun t17 =>
 Zw t17 (
 Zc 51 fun t18 =>
 K none t18 h) (
 Zd n fun b19 o20 =>
 ldL h b19 (o20+1) fun t21 =>
 Zap t21.ptr t21.len (IntKind.wrap .i64 (k - 1)) 8 fun b22 o23 =>
 Zc 0 fun t24 =>
 K (some ⟨b22,o23,none⟩) t24 h)))))))
def YC:Zoq:=Zew
abbrev ZuZ:=(Option Addr)→Int→Int→Sl→(Int→HP)→HP
def Zdx (f54:Zoq) (n:Option Addr) (k:Int) (end_:Int) (b:Sl) (K:Int→HP) (h:Zb):Prop :=
 Zc 0 fun t =>
 f54 n k end_ 0 (fun t1 t2 h3 =>
 Zc t2 fun e =>
 Zw (e !=0) (
 Zc e fun t4 =>
 K t4 h3) (
 Zd t1 fun b5 o =>
 Zxw 2 end_ fun j =>
 ldB h3 b5 (o+j*3+2) fun t6 =>
 ZG t6 fun t7 =>
 Zw t7 (
 Zc 51 fun t8 =>
 K t8 h3) (
 ldL h3 b5 (o+j*3) fun t9 =>
 ZG (decide ((IntKind.wrap .i64 ((t9.len:Int)+(b.len:Int)))>65536)) fun t10 =>
 Zw t10 (
 Zc 3 fun t11 =>
 K t11 h3) (
 ldL h3 b5 (o+j*3) fun t12 =>
 rdS b 1 h3 fun new=>app 5 1 1 [.int .u8 0] t12 b.len new h3 fun t13 h14 =>
 st h14 b5 (o+j*3) (.slice t13.ptr t13.len t13.cap) fun h15 =>
 Zc 0 fun t16 =>
 K t16 h15)))) h
def Xp:ZuZ:=Zdx YC
abbrev ZuY:=(Option Addr)→Sl→(Int→HP)→HP
def Zdz (f54:Zoq) (n:Option Addr) (conns:Sl) (K:Int→HP) (h:Zb):Prop :=
 Zc 0 fun t =>
 Zw n.isNone (
 Zc 1 fun t1 =>
 K t1 h) (
 Zci h fun b h2 =>
 YI (σ:=Bool × Int × Unit) (fun J3 s h4 =>
 (fun (down:Bool) (s18:Int) =>
 Zw (decide (s18<(conns.len:Int))) (
 Zap conns.ptr conns.len s18 1 fun b5 o =>
 ldI h4 b5 o .i64 fun t6 =>
 Zc t6 fun k =>
 f54 n k 0 0 (fun t7 t8 h9 =>
 Zc t8 fun e =>
 Zw (e ==4) (
 Zc e fun t10 =>
 K t10 h9) (
 Zw down (
 X9 (.int .i64) h9 (some b) (.int .i64 k) (.bool true) fun h11 =>
 J3 (true,IntKind.wrap .i64 (s18+1),()) h11) (
 Zw (e !=0) (
 X9 (.int .i64) h9 (some b) (.int .i64 k) (.bool true) fun h12 =>
 J3 (true,IntKind.wrap .i64 (s18+1),()) h12) (
 XF (.int .i64) h9 (some b) (.int .i64 k) fun r=>asB (r.getD (.bool false)) fun t13 =>
 ZG t13 fun down14 =>
 X9 (.int .i64) h9 (some b) (.int .i64 k) (.bool true) fun h15 =>
 J3 (down14,IntKind.wrap .i64 (s18+1),()) h15)))) h4) (
 Zw down (
 Zc 51 fun t16 =>
 K t16 h4) (
 YI (σ:=Int × Unit) (fun J17 s19 h20 =>
 (fun (s47:Int) =>
 Zw (decide (s47<(conns.len:Int))) (
 Zap conns.ptr conns.len s47 1 fun b21 o22 =>
 ldI h20 b21 o22 .i64 fun t23 =>
 Zc t23 fun k24 =>
 Zd n fun b25 o26 =>
 Zd n fun b27 o28 =>
 ldL h20 b25 (o26+1) fun t29 =>
 ldL h20 b27 (o28+1) fun t30 =>
 Zap t30.ptr t30.len (IntKind.wrap .i64 (k24 - 1)) 8 fun b31 o32 =>
 ldI h20 b31 (o32+6) .i64 fun t33 =>
 Zap t29.ptr t29.len (IntKind.wrap .i64 (k24 - 1)) 8 fun b34 o35 =>
 sts h20 b34 o35 [.slice none 0 0,.slice none 0 0,.bool false,.slice none 0 0,.slice none 0 0,.bool false,.int .i64 t33,.bool true] fun h36 =>
 J17 (IntKind.wrap .i64 (s47+1),()) h36) (
 Zc 0 fun t37 =>
 K t37 h20)) s19.1) (0,()) h4))) s.1 s.2.1) (false,0,()) h2)
def Xq:ZuY:=Zdz YC
abbrev Zyr:=(Option Addr)→Int→(Int→HP)→HP
def Zcq (s:Option Addr) (conn:Int) (K:Int→HP) (h:Zb):Prop :=
 Zc 0 fun t =>
 Zw s.isNone (
 Zc 1 fun t1 =>
 K t1 h) (
 Zd s fun b o =>
 ldM h b (o+4) fun t2 =>
 XF (.int .i64) h t2 (.int .i64 conn) fun r=>asS (r.getD (.string (ByteArray.mk #[]))) fun t3 =>
 ZG r.isSome fun there =>
 Zw (!there) (
 Zc 4 fun t4 =>
 K t4 h) (
 Zd s fun b5 o6 =>
 ldM h b5 (o6+4) fun t7 =>
 Zgb (.int .i64) h t7 (.int .i64 conn) fun h8 =>
 Zc 0 fun t9 =>
 K t9 h8))
def Zad:Zyr:=Zcq
abbrev Zyq:=(Option Addr)→(HP)→HP
def Zcv (r:Option Addr) (K:HP) (h:Zb):Prop :=
 Zw r.isSome (
 Zd r fun b o =>
 st h b o (.slice none 0 0) fun h1 =>
 Zd r fun b2 o3 =>
 st h1 b2 (o3+1) (.bool false) fun h4 =>
 K h4) (
 K h)
def Zae:Zyq:=Zcv
abbrev ZuX:=(Option Addr)→(HP)→HP
def ZbK (c:Option Addr) (K:HP) (h:Zb):Prop :=
 Zd c fun b o =>
 Zd c fun b1 o2 =>
 ldI h b (o+6) .i64 fun t =>
 ldI h b1 (o2+12) .i64 fun t3 =>
 Zd c fun b4 o5 =>
 st h b4 (o5+11) (.int .i64 (IntKind.wrap .i64 (t+t3))) fun h6 =>
 Zd c fun b7 o8 =>
 Zd c fun b9 o10 =>
 ldI h6 b7 (o8+12) .i64 fun t11 =>
 ldI h6 b9 (o10+1+2) .i64 fun t12 =>
 Zd c fun b13 o14 =>
 st h6 b13 (o14+12) (.int .i64 (Zjf (IntKind.wrap .i64 ((2:Int)*t11)) t12)) fun h15 =>
 K h15
def YG:ZuX:=ZbK
abbrev ZuW:=(Option Addr)→(HP)→HP
def ZcC (f15:Zic) (f16:Zib) (f58:Zyq) (f59:ZuX) (c:Option Addr) (K:HP) (h:Zb):Prop :=
 Zd c fun b o =>
 st h b (o+5) (.bool false) fun h1 =>
 f15 c (fun t h2 =>
 YI (σ:=Int × Unit) (fun J3 s h4 =>
 (fun (s10:Int) =>
 Zw (decide (s10<(t.len:Int))) (
 Zap t.ptr t.len s10 1 fun b5 o6 =>
 ldI h4 b5 o6 .i64 fun t7 =>
 Zc t7 fun id =>
 f16 c id (fun h8 =>
 J3 (IntKind.wrap .i64 (s10+1),()) h8) h4) (
 Zd c fun b9 o10 =>
 st h4 b9 (o10+9) (.slice none 0 0) fun h11 =>
 Zd c fun b12 o13 =>
 ldP h11 b12 o13 fun t14 =>
 f58 t14 (fun h15 =>
 f59 c (fun h16 =>
 K h16) h15) h11)) s.1) (0,()) h2) h1
def Y2:ZuW:=ZcC Zk Zq Zae YG
abbrev Zyp:=(Option Addr)→(Int→HP)→HP
def ZbM (f60:ZuW) (a0:Option Addr) (K:Int→HP) (h:Zb):Prop :=
 Zc 0 fun t =>
 Zd a0 fun b o=>ldP h b o fun t1 =>
 Zd t1 fun b2 o3 =>
 ldB h b2 (o3+5) fun t4 =>
 Zw (!t4) (
 Zc 51 fun t5 =>
 K t5 h) (
 Zd a0 fun b6 o7=>ldP h b6 o7 fun t8 =>
 f60 t8 (fun h9 =>
 Zc 0 fun t10 =>
 K t10 h9) h)
def XK:Zyp:=ZbM Y2
abbrev Zyo:=(Option Addr)→Int→(Option Addr × Unit)→(Int→HP)→HP
def XQ (f15:Zic) (f16:Zib) (f61:Zyp) (c:Option Addr) (at_:Int) (then_:Option Addr × Unit) (K:Int→HP) (h:Zb):Prop :=
 Zc 0 fun t =>
 ZG c.isNone fun t1 =>
 Zw t1 (
 Zc 1 fun t2 =>
 K t2 h) (
 Zw (decide (at_<0)) (
 Zc 2 fun t3 =>
 K t3 h) (
 ZG (decide (at_>1152921504606846976)) fun t4 =>
 Zw t4 (
 Zc 2 fun t5 =>
 K t5 h) (
 Zd c fun b o =>
 ldI h b (o+6) .i64 fun t6 =>
 ZG (decide (at_<t6)) fun t7 =>
 Zw t7 (
 Zc 7 fun t8 =>
 K t8 h) (
 Zd c fun b9 o10 =>
 st h b9 (o10+6) (.int .i64 at_) fun h11 =>
 f15 c (fun t12 h13 =>
 YI (σ:=Int × Unit) (fun J14 s h15 =>
 (fun (s33:Int) =>
 Zw (decide (s33<(t12.len:Int))) (
 Zap t12.ptr t12.len s33 1 fun b16 o17 =>
 ldI h15 b16 o17 .i64 fun t18 =>
 Zc t18 fun id =>
 Zd c fun b19 o20 =>
 Zd c fun b21 o22 =>
 ldM h15 b19 (o20+8) fun t23 =>
 ldI h15 b21 (o22+1) .i64 fun t24 =>
 XF (.int .i64) h15 t23 (.int .i64 id) fun r=>asI (r.getD (.int .i64 0)) .i64 fun t25 =>
 ZH (Zi h15 [(b21,o22+1,.int .i64 t24)]) <|
 Zw (decide ((IntKind.wrap .i64 (at_ - t25))≥t24)) (
 f16 c id (fun h26 =>
 J14 (IntKind.wrap .i64 (s33+1),()) h26) h15) (
 J14 (IntKind.wrap .i64 (s33+1),()) h15)) (
 f61 then_.1 (fun t27 h28 =>
 Zc t27 fun t29 =>
 K t29 h28) h15)) s.1) (0,()) h13) h11))))
def Yk:Zyo:=XQ Zk Zq XK
abbrev Zyn:=(Option Addr)→Int→(Int→HP)→HP
def ZcG (f62:Zyo) (c:Option Addr) (at_:Int) (K:Int→HP) (h:Zb):Prop :=
 newC h [.pointer c] 84 fun b h1 =>
 Zc 0 fun t =>
 ldP h1 b 0 fun t2 =>
 f62 t2 at_ (some ⟨b,0,none⟩,()) (fun t3 h4 =>
 Zc t3 fun t5 =>
 K t5 h4) h1
def Zah:Zyn:=ZcG Yk
abbrev ZlQ:=(Option Addr)→(Option Addr)→(HP)→HP
def Zdc (f56:ZuY) (f57:Zyr) (f52:ZlR) (f63:Zyn) (w:Option Addr) (p:Option Addr) (K:HP) (h:Zb):Prop :=
 Zd p fun b o =>
 ldI h b (o+1) .i64 fun t =>
 Zc t fun conn =>
 Zw (conn ==0) (
 K h) (
 Zd p fun b1 o2 =>
 st h b1 (o2+1) (.int .i64 0) fun h3 =>
 Zd p fun b4 o5 =>
 st h3 b4 (o5+2) (.pointer none) fun h6 =>
 Zd w fun b7 o8 =>
 ldP h6 b7 o8 fun t9 =>
 newC h6 [.int .i64 conn] 3 fun b10 h11 =>
 f56 t9 ⟨some ⟨b10,0,none⟩,1,1⟩ (fun t12 h13 =>
 Zd w fun b14 o15 =>
 ldP h13 b14 (o15+1) fun t16 =>
 f57 t16 conn (fun t17 h18 =>
 Zd p fun b19 o20 =>
 ldP h18 b19 o20 fun t21 =>
 f52 t21 (fun t22 h23 =>
 Zw t22 (
 Zd p fun b24 o25 =>
 Zd w fun b26 o27 =>
 ldP h23 b24 o25 fun t28 =>
 ldI h23 b26 (o27+4) .i64 fun t29 =>
 f63 t28 t29 (fun t30 h31 =>
 K h31) h23) (
 K h23)) h18) h13) h11)
def Z4:ZlQ:=Zdc Xq Zad ZP Zah
abbrev Zqj:=(Option Addr)→(Option Addr)→(HP)→HP
def Zb5 (f52:ZlR) (f53:Zys) (f55:ZuZ) (f64:ZlQ) (w:Option Addr) (p:Option Addr) (K:HP) (h:Zb):Prop :=
 Zd p fun b o =>
 ldI h b (o+1) .i64 fun t =>
 Zw (t ==0) (
 K h) (
 Zd p fun b1 o2 =>
 ldP h b1 o2 fun t3 =>
 f52 t3 (fun t4 h5 =>
 Zw (!t4) (
 K h5) (
 Zd p fun b6 o7 =>
 ldP h5 b6 o7 fun t8 =>
 f53 t8 (fun t9 h10 =>
 Zw (decide ((t9.len:Int)>0)) (
 Zd w fun b11 o12 =>
 Zd p fun b13 o14 =>
 ldP h10 b11 o12 fun t15 =>
 ldI h10 b13 (o14+1) .i64 fun t16 =>
 f55 t15 t16 0 t9 (fun t17 h18 =>
 Zw (t17 !=0) (
 f64 w p (fun h19 =>
 K h19) h18) (
 K h18)) h10) (
 K h10)) h5)) h)
def Yp:Zqj:=Zb5 ZP Za4 Xp Z4
abbrev Zym:=(Option Addr)→(Int × Int × Int × Int × Int × Int × Int × Int × ByteArray × Int × Unit)→((Int × Bool × Int × Unit)→HP)→HP
def Zdd (f51:Zyt) (f65:Zqj) (w:Option Addr) (o:Int × Int × Int × Int × Int × Int × Int × Int × ByteArray × Int × Unit) (K:(Int × Bool × Int × Unit)→HP) (h:Zb):Prop :=
 newC h [.int .u8 o.1,.int .i64 o.2.1,.int .i64 o.2.2.1,.int .i64 o.2.2.2.1,.int .i64 o.2.2.2.2.1,.int .u8 o.2.2.2.2.2.1,.int .i64 o.2.2.2.2.2.2.1,.int .i64 o.2.2.2.2.2.2.2.1,.string o.2.2.2.2.2.2.2.2.1,.int .i64 o.2.2.2.2.2.2.2.2.2.1] 41 fun b h1 =>
 newC h1 [.int .i64 0,.bool false,.int .i64 0] 100 fun b2 h3 =>
 Zd w fun b4 o5 =>
 ldL h3 b4 (o5+3) fun t =>
 ldI h3 b (0+1) .i64 fun t6 =>
 Zap t.ptr t.len t6 3 fun b7 o8 =>
 Zd w fun b9 o10 =>
 ldP h3 b7 o8 fun t11 =>
 ldI h3 b9 (o10+4) .i64 fun t12 =>
 ldI h3 b (0+4) .i64 fun t13=>ldI h3 b (0+4+1) .u8 fun t14=>ldI h3 b (0+4+2) .i64 fun t15=>ldI h3 b (0+4+3) .i64 fun t16=>ldS h3 b (0+4+4) fun t17=>ldI h3 b (0+4+5) .i64 fun t18 =>
 f51 t11 t12 (t13,t14,t15,t16,t17,t18,()) (fun t19 t20 t21 h22 =>
 Zc t19 fun n =>
 ZG t20 fun fallback =>
 Zc t21 fun err =>
 f65 w (some ⟨b7,o8,none⟩) (fun h23 =>
 sts h23 b2 0 [.int .i64 n,.bool fallback,.int .i64 err] fun h24 =>
 ldI h24 b2 0 .i64 fun t25=>ldB h24 b2 (0+1) fun t26=>ldI h24 b2 (0+2) .i64 fun t27=>K (t25,t26,t27,()) h24) h22) h3
def XP:Zym:=Zdd ZaB Yp
abbrev Zyl:=(Option Addr)→(Option Addr)→(Option Addr)→(Int→HP)→HP
def ZbN (a0:Option Addr) (a1:Option Addr) (a2:Option Addr) (K:Int→HP) (h:Zb):Prop :=
 Zc 0 fun t =>
 Zd a0 fun b o=>ldP h b o fun t1 =>
 Zd t1 fun b2 o3 =>
 ldB h b2 (o3+5) fun t4 =>
 Zw (!t4) (
 Zd a1 fun b5 o6=>ldI h b5 o6 .i64 fun t7 =>
 Zd a0 fun b8 o9=>ldP h b8 o9 fun t10 =>
 Zd t10 fun b11 o12 =>
 ldI h b11 (o12+11) .i64 fun t13 =>
 Zd a2 fun b14 o15=>st h b14 o15 (.bool (decide (t7≥t13))) fun h16 =>
 Zc 0 fun t17 =>
 K t17 h16) (
 Zd a2 fun b18 o19=>st h b18 o19 (.bool false) fun h20 =>
 Zc 0 fun t21 =>
 K t21 h20)
def XL:Zyl:=ZbN
abbrev Zyk:=(Option Addr)→Int→(Option Addr × Option Addr × Option Addr × Unit)→(Int→HP)→HP
def XR (f15:Zic) (f16:Zib) (f67:Zyl) (c:Option Addr) (at_:Int) (then_:Option Addr × Option Addr × Option Addr × Unit) (K:Int→HP) (h:Zb):Prop :=
 Zc 0 fun t =>
 ZG c.isNone fun t1 =>
 Zw t1 (
 Zc 1 fun t2 =>
 K t2 h) (
 Zw (decide (at_<0)) (
 Zc 2 fun t3 =>
 K t3 h) (
 ZG (decide (at_>1152921504606846976)) fun t4 =>
 Zw t4 (
 Zc 2 fun t5 =>
 K t5 h) (
 Zd c fun b o =>
 ldI h b (o+6) .i64 fun t6 =>
 ZG (decide (at_<t6)) fun t7 =>
 Zw t7 (
 Zc 7 fun t8 =>
 K t8 h) (
 Zd c fun b9 o10 =>
 st h b9 (o10+6) (.int .i64 at_) fun h11 =>
 f15 c (fun t12 h13 =>
 YI (σ:=Int × Unit) (fun J14 s h15 =>
 (fun (s33:Int) =>
 Zw (decide (s33<(t12.len:Int))) (
 Zap t12.ptr t12.len s33 1 fun b16 o17 =>
 ldI h15 b16 o17 .i64 fun t18 =>
 Zc t18 fun id =>
 Zd c fun b19 o20 =>
 Zd c fun b21 o22 =>
 ldM h15 b19 (o20+8) fun t23 =>
 ldI h15 b21 (o22+1) .i64 fun t24 =>
 XF (.int .i64) h15 t23 (.int .i64 id) fun r=>asI (r.getD (.int .i64 0)) .i64 fun t25 =>
 ZH (Zi h15 [(b21,o22+1,.int .i64 t24)]) <|
 Zw (decide ((IntKind.wrap .i64 (at_ - t25))≥t24)) (
 f16 c id (fun h26 =>
 J14 (IntKind.wrap .i64 (s33+1),()) h26) h15) (
 J14 (IntKind.wrap .i64 (s33+1),()) h15)) (
 f67 then_.1 then_.2.1 then_.2.2.1 (fun t27 h28 =>
 Zc t27 fun t29 =>
 K t29 h28) h15)) s.1) (0,()) h13) h11))))
def Yl:Zyk:=XR Zk Zq XL
abbrev Zyj:=(Option Addr)→Int→(Bool→Int→HP)→HP
def ZcH (f68:Zyk) (c:Option Addr) (at_:Int) (K:Bool→Int→HP) (h:Zb):Prop :=
 newC h [.pointer c] 84 fun b h1 =>
 newC h1 [.int .i64 at_] 3 fun b2 h3 =>
 newC h3 [.bool false] 4 fun b4 h5 =>
 Zc 0 fun e =>
 ldP h5 b 0 fun t =>
 ldI h5 b2 0 .i64 fun t6 =>
 f68 t t6 (some ⟨b,0,none⟩,some ⟨b2,0,none⟩,some ⟨b4,0,none⟩,()) (fun t7 h8 =>
 Zc t7 fun e9 =>
 ldB h8 b4 0 fun t10 =>
 st h8 b4 0 (.bool t10) fun h11 =>
 Zc e9 fun e12 =>
 ldB h11 b4 0 fun t13=>K t13 e12 h11) h5
def Zai:Zyj:=ZcH Yl
abbrev Zyi:=(Option Addr)→(Sl→HP)→HP
def Zdy (n:Option Addr) (K:Sl→HP) (h:Zb):Prop :=
 Zw n.isNone (
 K ⟨none,0,0⟩ h) (
 Zd n fun b o =>
 ldL h b (o+1) fun t =>
 YI (σ:=Sl × Int × Unit) (fun J1 s h2 =>
 (fun (l:Sl) (s13:Int) =>
 Zw (decide (s13<(t.len:Int))) (
 Zap t.ptr t.len s13 8 fun b3 o4 =>
 ldL h2 b3 o4 fun t5=>ldL h2 b3 (o4+1) fun t6=>ldB h2 b3 (o4+2) fun t7=>ldL h2 b3 (o4+3) fun t8=>ldL h2 b3 (o4+4) fun t9=>ldB h2 b3 (o4+5) fun t10=>ldI h2 b3 (o4+6) .i64 fun t11=>ldB h2 b3 (o4+7) fun t12 =>
 newC h2 [.slice none 0 0,.slice none 0 0,.bool false,.slice none 0 0,.slice none 0 0,.bool false,.int .i64 0,.bool false] 162 fun b13 h14 =>
 Zc s13 fun i =>
 sts h14 b13 0 [.slice t5.ptr t5.len t5.cap,.slice t6.ptr t6.len t6.cap,.bool t7,.slice t8.ptr t8.len t8.cap,.slice t9.ptr t9.len t9.cap,.bool t10,.int .i64 t11,.bool t12] fun h15 =>
 ldB h15 b13 (0+7) fun t16 =>
 Zw (!t16) (
 newC h15 [.int .i64 (IntKind.wrap .i64 (i+1))] 3 fun b17 h18 =>
 rdS ⟨some ⟨b17,0,none⟩,1,1⟩ 1 h18 fun new=>app 3 1 8 [.int .i64 0] l 1 new h18 fun t19 h20 =>
 J1 (t19,IntKind.wrap .i64 (s13+1),()) h20) (
 J1 (l,IntKind.wrap .i64 (s13+1),()) h15)) (
 K l h2)) s.1 s.2.1) (⟨none,0,0⟩,0,()) h)
def ZaO:Zyi:=Zdy
abbrev Zyh:=(Option Addr)→Int→(Int→Int→HP)→HP
def ZdT (f6:zT6) (f70:Zyi) (n:Option Addr) (port:Int) (K:Int→Int→HP) (h:Zb):Prop :=
 Zc 0 fun t =>
 Zc 0 fun t1 =>
 newC h [.int .i64 port] 3 fun b h2 =>
 f6 n ⟨some ⟨b,0,none⟩,1,1⟩ (fun t3 h4 =>
 Zc t3 fun e =>
 Zw (e !=0) (
 Zc 0 fun t5 =>
 Zc e fun t6 =>
 K t5 t6 h4) (
 Zd n fun b7 o =>
 ldM h4 b7 o fun t8 =>
 XF (.int .i64) h4 t8 (.int .i64 port) fun r=>asB (r.getD (.bool false)) fun t9 =>
 ZG (!t9) fun t10 =>
 Zw t10 (
 Zc 0 fun t11 =>
 Zc 51 fun t12 =>
 K t11 t12 h4) (
 f70 n (fun t13 h14 =>
 ZG (decide ((t13.len:Int)≥64)) fun t15 =>
 Zw t15 (
 Zc 0 fun t16 =>
 Zc 3 fun t17 =>
 K t16 t17 h14) (
 Zd n fun b18 o19 =>
 ldL h14 b18 (o19+1) fun t20 =>
 newC h14 [.slice none 0 0,.slice none 0 0,.bool false,.slice none 0 0,.slice none 0 0,.bool false,.int .i64 port,.bool false] 162 fun b21 h22 =>
 rdS ⟨some ⟨b21,0,none⟩,1,1⟩ 8 h22 fun new=>app 162 8 128 [.slice none 0 0,.slice none 0 0,.bool false,.slice none 0 0,.slice none 0 0,.bool false,.int .i64 0,.bool false] t20 1 new h22 fun t23 h24 =>
 Zd n fun b25 o26 =>
 st h24 b25 (o26+1) (.slice t23.ptr t23.len t23.cap) fun h27 =>
 Zd n fun b28 o29 =>
 ldL h27 b28 (o29+1) fun t30 =>
 Zc (t30.len:Int) fun t31 =>
 Zc 0 fun t32 =>
 K t31 t32 h27)) h4))) h2
def Zbb:Zyh:=ZdT Ym ZaO
abbrev Zyg:=(Option Addr)→Int→(Int→HP)→HP
def Zc5 (s:Option Addr) (conn:Int) (K:Int→HP) (h:Zb):Prop :=
 Zc 0 fun t =>
 ZG s.isNone fun t1 =>
 Zw t1 (
 Zc 1 fun t2 =>
 K t2 h) (
 Zw (decide (conn<1)) (
 Zc 2 fun t3 =>
 K t3 h) (
 ZG (decide (conn>2147483647)) fun t4 =>
 Zw t4 (
 Zc 2 fun t5 =>
 K t5 h) (
 Zd s fun b o =>
 ldM h b (o+4) fun t6 =>
 XF (.int .i64) h t6 (.int .i64 conn) fun r=>asS (r.getD (.string (ByteArray.mk #[]))) fun t7 =>
 ZG r.isSome fun there =>
 Zw there (
 Zc 11 fun t8 =>
 K t8 h) (
 Zd s fun b9 o10 =>
 ldM h b9 (o10+4) fun t11 =>
 ZwU h t11 fun t12 =>
 Zw (decide (t12≥64)) (
 Zc 3 fun t13 =>
 K t13 h) (
 Zd s fun b14 o15 =>
 ldM h b14 (o15+4) fun t16 =>
 X9 (.int .i64) h t16 (.int .i64 conn) (.string (ByteArray.mk #[])) fun h17 =>
 Zc 0 fun t18 =>
 K t18 h17)))))
def Zax:Zyg:=Zc5
abbrev Zyf:=(Option Addr)→(Int→HP)→HP
def ZaY (f71:Zyh) (f72:Zyg) (f56:ZuY) (w:Option Addr) (K:Int→HP) (h:Zb):Prop :=
 Zc 0 fun t =>
 Zd w fun b o =>
 ldB h b (o+2) fun t1 =>
 Zw (!t1) (
 Zc 0 fun t2 =>
 K t2 h) (
 Zd w fun b3 o4 =>
 ldP h b3 o4 fun t5 =>
 f71 t5 1 (fun t6 t7 h8 =>
 Zc t6 fun conn =>
 Zc t7 fun err =>
 Zw (err !=0) (
 Zc 0 fun t9 =>
 K t9 h8) (
 Zd w fun b10 o11 =>
 ldP h8 b10 (o11+1) fun t12 =>
 f72 t12 conn (fun t13 h14 =>
 Zw (t13 !=0) (
 Zd w fun b15 o16 =>
 ldP h14 b15 o16 fun t17 =>
 newC h14 [.int .i64 conn] 3 fun b18 h19 =>
 f56 t17 ⟨some ⟨b18,0,none⟩,1,1⟩ (fun t20 h21 =>
 Zc 0 fun t22 =>
 K t22 h21) h19) (
 Zc conn fun t23 =>
 K t23 h14)) h8)) h)
def Y7:Zyf:=ZaY Zbb Zax Xq
abbrev Zye:=(Option Addr)→(Int→HP)→HP
def ZaZ (f59:ZuX) (a0:Option Addr) (K:Int→HP) (h:Zb):Prop :=
 Zc 0 fun t =>
 Zd a0 fun b o=>ldP h b o fun t1 =>
 Zd t1 fun b2 o3 =>
 ldB h b2 (o3+5) fun t4 =>
 Zw t4 (
 Zc 52 fun t5 =>
 K t5 h) (
 Zd a0 fun b6 o7=>ldP h b6 o7 fun t8 =>
 f59 t8 (fun h9 =>
 Zc 0 fun t10 =>
 K t10 h9) h)
def Y8:Zye:=ZaZ YG
abbrev Zyd:=(Option Addr)→Int→(Option Addr × Unit)→(Int→HP)→HP
def Xt (f15:Zic) (f16:Zib) (f74:Zye) (c:Option Addr) (at_:Int) (then_:Option Addr × Unit) (K:Int→HP) (h:Zb):Prop :=
 Zc 0 fun t =>
 ZG c.isNone fun t1 =>
 Zw t1 (
 Zc 1 fun t2 =>
 K t2 h) (
 Zw (decide (at_<0)) (
 Zc 2 fun t3 =>
 K t3 h) (
 ZG (decide (at_>1152921504606846976)) fun t4 =>
 Zw t4 (
 Zc 2 fun t5 =>
 K t5 h) (
 Zd c fun b o =>
 ldI h b (o+6) .i64 fun t6 =>
 ZG (decide (at_<t6)) fun t7 =>
 Zw t7 (
 Zc 7 fun t8 =>
 K t8 h) (
 Zd c fun b9 o10 =>
 st h b9 (o10+6) (.int .i64 at_) fun h11 =>
 f15 c (fun t12 h13 =>
 YI (σ:=Int × Unit) (fun J14 s h15 =>
 (fun (s33:Int) =>
 Zw (decide (s33<(t12.len:Int))) (
 Zap t12.ptr t12.len s33 1 fun b16 o17 =>
 ldI h15 b16 o17 .i64 fun t18 =>
 Zc t18 fun id =>
 Zd c fun b19 o20 =>
 Zd c fun b21 o22 =>
 ldM h15 b19 (o20+8) fun t23 =>
 ldI h15 b21 (o22+1) .i64 fun t24 =>
 XF (.int .i64) h15 t23 (.int .i64 id) fun r=>asI (r.getD (.int .i64 0)) .i64 fun t25 =>
 ZH (Zi h15 [(b21,o22+1,.int .i64 t24)]) <|
 Zw (decide ((IntKind.wrap .i64 (at_ - t25))≥t24)) (
 f16 c id (fun h26 =>
 J14 (IntKind.wrap .i64 (s33+1),()) h26) h15) (
 J14 (IntKind.wrap .i64 (s33+1),()) h15)) (
 f74 then_.1 (fun t27 h28 =>
 Zc t27 fun t29 =>
 K t29 h28) h15)) s.1) (0,()) h13) h11))))
def Yb:Zyd:=Xt Zk Zq Y8
abbrev Zyc:=(Option Addr)→Int→(Int→HP)→HP
def Zbv (f75:Zyd) (c:Option Addr) (at_:Int) (K:Int→HP) (h:Zb):Prop :=
 newC h [.pointer c] 84 fun b h1 =>
 Zc 0 fun t =>
 ldP h1 b 0 fun t2 =>
 f75 t2 at_ (some ⟨b,0,none⟩,()) (fun t3 h4 =>
 Zc t3 fun t5 =>
 K t5 h4) h1
def Xr:Zyc:=Zbv Yb
abbrev Zyb:=(Option Addr)→(Int→HP)→HP
def ZcD (f48:Zu0) (a0:Option Addr) (K:Int→HP) (h:Zb):Prop :=
 Zc 0 fun t =>
 Zd a0 fun b o=>ldP h b o fun t1 =>
 Zd t1 fun b2 o3 =>
 ldB h b2 (o3+5) fun t4 =>
 Zw t4 (
 Zc 52 fun t5 =>
 K t5 h) (
 Zd a0 fun b6 o7=>ldP h b6 o7 fun t8 =>
 Zd a0 fun b9 o10=>ldP h b9 o10 fun t11 =>
 Zd a0 fun b12 o13=>ldP h b12 o13 fun t14 =>
 Zd t14 fun b15 o16 =>
 ldI h b15 (o16+1+1) .i64 fun t17 =>
 Zd t8 fun b18 o19 =>
 st h b18 (o19+5) (.bool true) fun h20 =>
 ZH (Zi h20 [(b12,o13,.pointer t14)]) <|
 ZH (Zi h20 [(b9,o10,.pointer t11)]) <|
 Zd t11 fun b21 o22 =>
 st h20 b21 (o22+12) (.int .i64 t17) fun h23 =>
 Zd a0 fun b24 o25=>ldP h23 b24 o25 fun t26 =>
 Zd a0 fun b27 o28=>ldP h23 b27 o28 fun t29 =>
 Zd t29 fun b30 o31 =>
 ldS h23 b30 (o31+4) fun t32 =>
 f48 t26 (0,5,0,0,t32,0,()) (fun h33 =>
 ZH (Zi h33 [(b30,o31+4,.string t32)]) <|
 ZH (Zi h33 [(b27,o28,.pointer t29)]) <|
 Zc 0 fun t34 =>
 K t34 h33) h23)
def Zaf:Zyb:=ZcD YR
abbrev Zya:=(Option Addr)→Int→(Option Addr × Unit)→(Int→HP)→HP
def X5 (f15:Zic) (f16:Zib) (f77:Zyb) (c:Option Addr) (at_:Int) (then_:Option Addr × Unit) (K:Int→HP) (h:Zb):Prop :=
 Zc 0 fun t =>
 ZG c.isNone fun t1 =>
 Zw t1 (
 Zc 1 fun t2 =>
 K t2 h) (
 Zw (decide (at_<0)) (
 Zc 2 fun t3 =>
 K t3 h) (
 ZG (decide (at_>1152921504606846976)) fun t4 =>
 Zw t4 (
 Zc 2 fun t5 =>
 K t5 h) (
 Zd c fun b o =>
 ldI h b (o+6) .i64 fun t6 =>
 ZG (decide (at_<t6)) fun t7 =>
 Zw t7 (
 Zc 7 fun t8 =>
 K t8 h) (
 Zd c fun b9 o10 =>
 st h b9 (o10+6) (.int .i64 at_) fun h11 =>
 f15 c (fun t12 h13 =>
 YI (σ:=Int × Unit) (fun J14 s h15 =>
 (fun (s33:Int) =>
 Zw (decide (s33<(t12.len:Int))) (
 Zap t12.ptr t12.len s33 1 fun b16 o17 =>
 ldI h15 b16 o17 .i64 fun t18 =>
 Zc t18 fun id =>
 Zd c fun b19 o20 =>
 Zd c fun b21 o22 =>
 ldM h15 b19 (o20+8) fun t23 =>
 ldI h15 b21 (o22+1) .i64 fun t24 =>
 XF (.int .i64) h15 t23 (.int .i64 id) fun r=>asI (r.getD (.int .i64 0)) .i64 fun t25 =>
 ZH (Zi h15 [(b21,o22+1,.int .i64 t24)]) <|
 Zw (decide ((IntKind.wrap .i64 (at_ - t25))≥t24)) (
 f16 c id (fun h26 =>
 J14 (IntKind.wrap .i64 (s33+1),()) h26) h15) (
 J14 (IntKind.wrap .i64 (s33+1),()) h15)) (
 f77 then_.1 (fun t27 h28 =>
 Zc t27 fun t29 =>
 K t29 h28) h15)) s.1) (0,()) h13) h11))))
def Ys:Zya:=X5 Zk Zq Zaf
abbrev Zx9:=(Option Addr)→Int→(Int→HP)→HP
def ZdC (f78:Zya) (c:Option Addr) (at_:Int) (K:Int→HP) (h:Zb):Prop :=
 newC h [.pointer c] 84 fun b h1 =>
 Zc 0 fun t =>
 ldP h1 b 0 fun t2 =>
 f78 t2 at_ (some ⟨b,0,none⟩,()) (fun t3 h4 =>
 Zc t3 fun t5 =>
 K t5 h4) h1
def ZaR:Zx9:=ZdC Ys
abbrev Zx8:=(Option Addr)→(Int × Int × Int × Int × Int × Int × Int × Int × ByteArray × Int × Unit)→((Int × Bool × Int × Unit)→HP)→HP
def Zcz (f52:ZlR) (f69:Zyj) (f73:Zyf) (f76:Zyc) (f11:Zu8) (f79:Zx9) (f65:Zqj) (w:Option Addr) (o:Int × Int × Int × Int × Int × Int × Int × Int × ByteArray × Int × Unit) (K:(Int × Bool × Int × Unit)→HP) (h:Zb):Prop :=
 newC h [.int .u8 o.1,.int .i64 o.2.1,.int .i64 o.2.2.1,.int .i64 o.2.2.2.1,.int .i64 o.2.2.2.2.1,.int .u8 o.2.2.2.2.2.1,.int .i64 o.2.2.2.2.2.2.1,.int .i64 o.2.2.2.2.2.2.2.1,.string o.2.2.2.2.2.2.2.2.1,.int .i64 o.2.2.2.2.2.2.2.2.2.1] 41 fun b h1 =>
 newC h1 [.int .i64 0,.bool false,.int .i64 0] 100 fun b2 h3 =>
 Zd w fun b4 o5 =>
 ldL h3 b4 (o5+3) fun t =>
 ldI h3 b (0+1) .i64 fun t6 =>
 Zap t.ptr t.len t6 3 fun b7 o8 =>
 ldP h3 b7 o8 fun t9 =>
 f52 t9 (fun t10 h11 =>
 Zw t10 (
 sts h11 b2 0 [.int .i64 0,.bool false,.int .i64 52] fun h12 =>
 ldI h12 b2 0 .i64 fun t13=>ldB h12 b2 (0+1) fun t14=>ldI h12 b2 (0+2) .i64 fun t15=>K (t13,t14,t15,()) h12) (
 Zd w fun b16 o17 =>
 ldP h11 b7 o8 fun t18 =>
 ldI h11 b16 (o17+4) .i64 fun t19 =>
 f69 t18 t19 (fun t20 t21 h22 =>
 ZG t20 fun may =>
 Zc t21 fun x =>
 Zw (!may) (
 sts h22 b2 0 [.int .i64 0,.bool false,.int .i64 4] fun h23 =>
 ldI h23 b2 0 .i64 fun t24=>ldB h23 b2 (0+1) fun t25=>ldI h23 b2 (0+2) .i64 fun t26=>K (t24,t25,t26,()) h23) (
 f73 w (fun t27 h28 =>
 st h28 b7 (o8+1) (.int .i64 t27) fun h29 =>
 ldI h29 b7 (o8+1) .i64 fun t30 =>
 Zw (t30 ==0) (
 Zd w fun b31 o32 =>
 ldP h29 b7 o8 fun t33 =>
 ldI h29 b31 (o32+4) .i64 fun t34 =>
 f76 t33 t34 (fun t35 h36 =>
 sts h36 b2 0 [.int .i64 0,.bool false,.int .i64 51] fun h37 =>
 ldI h37 b2 0 .i64 fun t38=>ldB h37 b2 (0+1) fun t39=>ldI h37 b2 (0+2) .i64 fun t40=>K (t38,t39,t40,()) h37) h29) (
 f11 (fun t41 h42 =>
 st h42 b7 (o8+2) (.pointer t41) fun h43 =>
 Zd w fun b44 o45 =>
 ldP h43 b7 o8 fun t46 =>
 ldI h43 b44 (o45+4) .i64 fun t47 =>
 f79 t46 t47 (fun t48 h49 =>
 f65 w (some ⟨b7,o8,none⟩) (fun h50 =>
 sts h50 b2 0 [.int .i64 0,.bool false,.int .i64 0] fun h51 =>
 ldI h51 b2 0 .i64 fun t52=>ldB h51 b2 (0+1) fun t53=>ldI h51 b2 (0+2) .i64 fun t54=>K (t52,t53,t54,()) h51) h49) h43) h29)) h22)) h11)) h3
def Xz:Zx8:=Zcz ZP Zai Y7 Xr ZbV ZaR Yp
abbrev ZuV:=Sl→(Sl→HP)→HP
def ZaX (s:Sl) (K:Sl→HP) (h:Zb):Prop :=
 Zw s.ptr.isNone (
 K ⟨none,0,0⟩ h) (
 newC h [] 5 fun b h1 =>
 rdS s 1 h1 fun new=>app 5 1 1 [.int .u8 0] ⟨some ⟨b,0,none⟩,0,0⟩ s.len new h1 fun t h2 =>
 K t h2)
def Yr:ZuV:=ZaX
abbrev Zx7:=(Option Addr)→Int→Int→Int→(Int→Int→HP)→HP
def ZdS (f54:Zoq) (f81:ZuV) (n:Option Addr) (k:Int) (end_:Int) (most:Int) (K:Int→Int→HP) (h:Zb):Prop :=
 Zc 0 fun t =>
 Zc 0 fun t1 =>
 f54 n k end_ most (fun t2 t3 h4 =>
 Zc t3 fun e =>
 Zw (e !=0) (
 Zc 0 fun t5 =>
 Zc e fun t6 =>
 K t5 t6 h4) (
 Zd t2 fun b o =>
 Zxw 2 end_ fun j =>
 ldL h4 b (o+j*3) fun t7 =>
 Zc (Zjf most (t7.len:Int)) fun m =>
 ldL h4 b (o+j*3+1) fun t8 =>
 ldL h4 b (o+j*3) fun t9 =>
 slc t9.ptr t9.cap 1 0 m t9.cap fun t10 =>
 rdS t10 1 h4 fun new=>app 5 1 1 [.int .u8 0] t8 t10.len new h4 fun t11 h12 =>
 ZH (Zi h12 [(b,o+j*3,.slice t9.ptr t9.len t9.cap)]) <|
 st h12 b (o+j*3+1) (.slice t11.ptr t11.len t11.cap) fun h13 =>
 ldL h13 b (o+j*3) fun t14 =>
 slc t14.ptr t14.cap 1 m t14.len t14.cap fun t15 =>
 f81 t15 (fun t16 h17 =>
 st h17 b (o+j*3) (.slice t16.ptr t16.len t16.cap) fun h18 =>
 Zc m fun t19 =>
 Zc 0 fun t20 =>
 K t19 t20 h18) h13)) h
def Zba:Zx7:=ZdS YC Yr
abbrev Zx6:=(Option Addr)→Int→Int→Int→(Sl→Bool→Int→HP)→HP
def ZdR (f54:Zoq) (f81:ZuV) (n:Option Addr) (k:Int) (end_:Int) (most:Int) (K:Sl→Bool→Int→HP) (h:Zb):Prop :=
 Zc 0 fun t =>
 f54 n k end_ most (fun t1 t2 h3 =>
 Zc t2 fun e =>
 Zw (e !=0) (
 Zc e fun t4 =>
 K ⟨none,0,0⟩ false t4 h3) (
 Zd t1 fun b o =>
 Zxw 2 (IntKind.wrap .i64 ((1:Int) - end_)) fun j =>
 ldL h3 b (o+j*3+1) fun t5 =>
 Zc (Zjf most (t5.len:Int)) fun m =>
 ldL h3 b (o+j*3+1) fun t6 =>
 slc t6.ptr t6.cap 1 0 m t6.cap fun t7 =>
 f81 t7 (fun t8 h9 =>
 ldL h9 b (o+j*3+1) fun t10 =>
 slc t10.ptr t10.cap 1 m t10.len t10.cap fun t11 =>
 f81 t11 (fun t12 h13 =>
 st h13 b (o+j*3+1) (.slice t12.ptr t12.len t12.cap) fun h14 =>
 ldB h14 b (o+j*3+2) fun t15 =>
 Zw t15 (
 ldL h14 b (o+j*3) fun t16 =>
 Zw ((t16.len:Int) ==0) (
 ldL h14 b (o+j*3+1) fun t17 =>
 ZG ((t17.len:Int) ==0) fun t18 =>
 Zc 0 fun t19 =>
 K t8 t18 t19 h14) (
 Zc 0 fun t20 =>
 K t8 false t20 h14)) (
 Zc 0 fun t21 =>
 K t8 false t21 h14)) h9) h3)) h
def Za9:Zx6:=ZdR YC Yr
abbrev ZuU:=(Option Addr)→(Option Addr)→Int→Int→(Sl→Int→HP)→HP
def Zb6 (f52:ZlR) (f82:Zx7) (f83:Zx6) (w:Option Addr) (p:Option Addr) (end_:Int) (most:Int) (K:Sl→Int→HP) (h:Zb):Prop :=
 Zc 0 fun t =>
 Zd p fun b o =>
 ldP h b o fun t1 =>
 f52 t1 (fun t2 h3 =>
 Zw (!t2) (
 Zc 51 fun t4 =>
 K ⟨none,0,0⟩ t4 h3) (
 Zd p fun b5 o6 =>
 ldI h3 b5 (o6+1) .i64 fun t7 =>
 ZG (t7 ==0) fun t8 =>
 Zw t8 (
 Zc 51 fun t9 =>
 K ⟨none,0,0⟩ t9 h3) (
 ZG (decide (most<0)) fun t10 =>
 Zw t10 (
 Zc 2 fun t11 =>
 K ⟨none,0,0⟩ t11 h3) (
 Zd w fun b12 o13 =>
 Zd p fun b14 o15 =>
 ldP h3 b12 o13 fun t16 =>
 ldI h3 b14 (o15+1) .i64 fun t17 =>
 f82 t16 t17 end_ most (fun t18 t19 h20 =>
 Zd w fun b21 o22 =>
 Zd p fun b23 o24 =>
 ldP h20 b21 o22 fun t25 =>
 ldI h20 b23 (o24+1) .i64 fun t26 =>
 f83 t25 t26 (IntKind.wrap .i64 ((1:Int) - end_)) 9223372036854775807 (fun t27 t28 t29 h30 =>
 ZG t28 fun x =>
 Zc t29 fun x31 =>
 Zc 0 fun t32 =>
 K t27 t32 h30) h20) h3)))) h
def YQ:ZuU:=Zb6 ZP Zba Za9
abbrev Zx5:=Sl→(Sl→HP)→HP
def ZfG (b:Sl) (K:Sl→HP) (h:Zb):Prop :=
 Zw b.ptr.isNone (
 K ⟨none,0,0⟩ h) (
 newC h [] 5 fun b1 h2 =>
 rdS b 1 h2 fun new=>app 5 1 1 [.int .u8 0] ⟨some ⟨b1,0,none⟩,0,0⟩ b.len new h2 fun t h3 =>
 K t h3)
def Zdr:Zx5:=ZfG
abbrev Zx4:=Sl→(Int→Bool→HP)→HP
def Ze0 (b:Sl) (K:Int→Bool→HP) (h:Zb):Prop :=
 Zc 0 fun t =>
 Zc 0 fun n =>
 slc b.ptr b.cap 1 0 (Zjf 4 (b.len:Int)) b.cap fun t1 =>
 YI (σ:=Int × Int × Unit) (fun J3 s h4 =>
 (fun (n2:Int) (s13:Int) =>
 Zw (decide (s13<(t1.len:Int))) (
 Zap t1.ptr t1.len s13 1 fun b5 o =>
 ldI h4 b5 o .u8 fun t6 =>
 Zc t6 fun c =>
 ZH (0≤(8:Int)) <|
 Zc (orV .i64 (Zvi .i64 n2 8) (IntKind.wrap .i64 c)) fun n7 =>
 J3 (n7,IntKind.wrap .i64 (s13+1),()) h4) (
 Zg5 (σ:=Unit) (fun s27 h28 =>
 Zw (decide (n2≥1)) (
 Zc n2 fun t29 =>
 ZG (decide (n2≤4096)) fun t30 =>
 K t29 t30 h28) (
 Zc n2 fun t31 =>
 K t31 false h28)) (fun J8 =>
 ZG ((b.len:Int) ==0) fun t9 =>
 Zw t9 (
 Zw t9 (
 Zc n2 fun t10 =>
 ZG (n2 ==0) fun t11 =>
 K t10 t11 h4) (
 ZG ((b.len:Int) ==3) fun t12 =>
 Zw t12 (
 Zc n2 fun t13 =>
 ZG (decide (n2≤16)) fun t14 =>
 K t13 t14 h4) (
 J8 (()) h4))) (
 ZG ((b.len:Int) ==1) fun t15 =>
 Zw t15 (
 Zw t15 (
 Zc n2 fun t16 =>
 ZG (n2 ==0) fun t17 =>
 K t16 t17 h4) (
 ZG ((b.len:Int) ==3) fun t18 =>
 Zw t18 (
 Zc n2 fun t19 =>
 ZG (decide (n2≤16)) fun t20 =>
 K t19 t20 h4) (
 J8 (()) h4))) (
 ZG ((b.len:Int) ==2) fun t21 =>
 Zw t21 (
 Zc n2 fun t22 =>
 ZG (n2 ==0) fun t23 =>
 K t22 t23 h4) (
 ZG ((b.len:Int) ==3) fun t24 =>
 Zw t24 (
 Zc n2 fun t25 =>
 ZG (decide (n2≤16)) fun t26 =>
 K t25 t26 h4) (
 J8 (()) h4))))))) s.1 s.2.1) (n,0,()) h
def ZcP:Zx4:=Ze0
abbrev ZuT:=(Option Addr)→Sl→(Sl→Int→HP)→HP
def ZdB (f85:Zx5) (f86:Zx4) (r:Option Addr) (b:Sl) (K:Sl→Int→HP) (h:Zb):Prop :=
 Zc 0 fun t =>
 ZG r.isNone fun t1 =>
 Zw t1 (
 Zc 1 fun t2 =>
 K ⟨none,0,0⟩ t2 h) (
 Zd r fun b3 o =>
 ldB h b3 (o+1) fun t4 =>
 ZG t4 fun t5 =>
 Zw t5 (
 Zc 50 fun t6 =>
 K ⟨none,0,0⟩ t6 h) (
 Zd r fun b7 o8 =>
 ldL h b7 o8 fun t9 =>
 f85 t9 (fun t10 h11 =>
 rdS b 1 h11 fun new=>app 5 1 1 [.int .u8 0] t10 b.len new h11 fun t12 h13 =>
 Zg5 (σ:=Sl × Sl × Unit) (fun s38 h39 =>
 (fun (all36:Sl) (out37:Sl) =>
 Zd r fun b40 o41 =>
 st h39 b40 o41 (.slice all36.ptr all36.len all36.cap) fun h42 =>
 Zc 0 fun t43 =>
 K out37 t43 h42) s38.1 s38.2.1) (fun J14 =>
 YI (σ:=Sl × Sl × Unit) (fun J15 s h16 =>
 (fun (all:Sl) (out:Sl) =>
 Zw (decide ((all.len:Int)≥4)) (
 f86 all (fun t17 t18 h19 =>
 Zc t17 fun n =>
 ZG t18 fun ok =>
 Zw (!ok) (
 Zd r fun b20 o21 =>
 st h19 b20 o21 (.slice none 0 0) fun h22 =>
 Zd r fun b23 o24 =>
 st h22 b23 (o24+1) (.bool true) fun h25 =>
 Zc 50 fun t26 =>
 K out t26 h25) (
 Zw (decide ((IntKind.wrap .i64 ((all.len:Int) - 4))<n)) (
 J14 (all,out,()) h19) (
 slc all.ptr all.cap 1 4 (IntKind.wrap .i64 ((4:Int)+n)) all.cap fun t27 =>
 f85 t27 (fun t28 h29 =>
 newC h29 [.slice t28.ptr t28.len t28.cap] 126 fun b30 h31 =>
 rdS ⟨some ⟨b30,0,none⟩,1,1⟩ 1 h31 fun new34=>app 126 1 24 [.slice none 0 0] out 1 new34 h31 fun t32 h33 =>
 slc all.ptr all.cap 1 (IntKind.wrap .i64 ((4:Int)+n)) all.len all.cap fun t35 =>
 J15 (t35,t32,()) h33) h19))) h16) (
 J14 (all,out,()) h16)) s.1 s.2.1) (t12,⟨none,0,0⟩,()) h13)) h))
def Y5:ZuT:=ZdB Zdr ZcP
abbrev ZuS:=(Option Addr)→Int→(Sl→HP)→HP
def Zc9 (r:Option Addr) (n:Int) (K:Sl→HP) (h:Zb):Prop :=
 Zg5 (σ:=Unit) (fun s h20 =>
 Zd r fun b21 o22 =>
 ldI h20 b21 (o22+1) .i64 fun t23 =>
 Zd r fun b24 o25 =>
 st h20 b24 (o25+1) (.int .i64 (IntKind.wrap .i64 (t23+n))) fun h26 =>
 Zd r fun b27 o28 =>
 ldL h26 b27 o28 fun t29 =>
 Zd r fun b30 o31 =>
 ldI h26 b30 (o31+1) .i64 fun t32 =>
 Zd r fun b33 o34 =>
 ldI h26 b33 (o34+1) .i64 fun t35 =>
 slc t29.ptr t29.cap 1 (IntKind.wrap .i64 (t32 - n)) t35 t29.cap fun t36 =>
 K t36 h26) (fun J1 =>
 Zd r fun b o =>
 ldB h b (o+2) fun t =>
 Zw t (
 Zd r fun b2 o3 =>
 st h b2 (o3+2) (.bool true) fun h4 =>
 Zd r fun b5 o6 =>
 ldB h4 b5 (o6+2) fun t7 =>
 Zw t7 (
 K ⟨none,0,0⟩ h4) (
 J1 (()) h4)) (
 Zd r fun b8 o9 =>
 Zd r fun b10 o11 =>
 ldL h b8 o9 fun t12 =>
 ldI h b10 (o11+1) .i64 fun t13 =>
 Zd r fun b14 o15 =>
 st h b14 (o15+2) (.bool (decide ((IntKind.wrap .i64 ((t12.len:Int) - t13))<n))) fun h16 =>
 Zd r fun b17 o18 =>
 ldB h16 b17 (o18+2) fun t19 =>
 Zw t19 (
 K ⟨none,0,0⟩ h16) (
 J1 (()) h16)))
def Xc:ZuS:=Zc9
abbrev ZuR:=(Option Addr)→Int→(Int→HP)→HP
def Zb2 (f88:ZuS) (r:Option Addr) (bytes:Int) (K:Int→HP) (h:Zb):Prop :=
 Zc 0 fun t =>
 Zc 0 fun n =>
 f88 r bytes (fun t1 h2 =>
 YI (σ:=Int × Int × Unit) (fun J4 s h5 =>
 (fun (n3:Int) (s12:Int) =>
 Zw (decide (s12<(t1.len:Int))) (
 Zap t1.ptr t1.len s12 1 fun b o =>
 ldI h5 b o .u8 fun t6 =>
 Zc t6 fun c =>
 ZH (0≤(8:Int)) <|
 Zc (orV .u64 (Zvi .u64 n3 8) (IntKind.wrap .u64 c)) fun n7 =>
 J4 (n7,IntKind.wrap .i64 (s12+1),()) h5) (
 Zc (IntKind.wrap .i64 n3) fun t8 =>
 K t8 h5)) s.1 s.2.1) (n,0,()) h2) h
def Yo:ZuR:=Zb2 Xc
abbrev ZuQ:=(Option Addr)→Bool→(Int→Int→HP)→HP
def Zcu (r:Option Addr) (right:Bool) (K:Int→Int→HP) (h:Zb):Prop :=
 Zc 0 fun t =>
 Zc 0 fun t1 =>
 Zd r fun b o =>
 ldB h b (o+2) fun t2 =>
 ZG t2 fun t3 =>
 Zw t3 (
 Zd r fun b4 o5 =>
 ldL h b4 o5 fun t6 =>
 Zc 6 fun t7 =>
 Zc (t6.len:Int) fun t8 =>
 K t7 t8 h) (
 Zd r fun b9 o10 =>
 ldI h b9 (o10+1) .i64 fun t11 =>
 Zd r fun b12 o13 =>
 ldL h b12 o13 fun t14 =>
 ZG (decide (t11<(t14.len:Int))) fun t15 =>
 Zw t15 (
 Zd r fun b16 o17 =>
 ldI h b16 (o17+1) .i64 fun t18 =>
 Zc 6 fun t19 =>
 Zc t18 fun t20 =>
 K t19 t20 h) (
 ZG (!right) fun t21 =>
 Zw t21 (
 Zc 6 fun t22 =>
 Zc 0 fun t23 =>
 K t22 t23 h) (
 Zc 0 fun t24 =>
 Zc 0 fun t25 =>
 K t24 t25 h)))
def Y1:ZuQ:=Zcu
abbrev Zx3:=Sl→((Int × Int × Int × Int × ByteArray × Int × Unit)→Int→Int→HP)→HP
def Zdb (f89:ZuR) (f88:ZuS) (f10:Zl5) (f90:ZuQ) (b:Sl) (K:(Int × Int × Int × Int × ByteArray × Int × Unit)→Int→Int→HP) (h:Zb):Prop :=
 newC h [.int .i64 0,.int .u8 0,.int .i64 0,.int .i64 0,.string (ByteArray.mk #[]),.int .i64 0] 39 fun b1 h2 =>
 Zc 0 fun t =>
 Zc 0 fun t3 =>
 newC h2 [.slice b.ptr b.len b.cap,.int .i64 0,.bool false] 254 fun b4 h5 =>
 Zg5 (σ:=Option Addr × Unit) (fun s h65 =>
 (fun (q:Option Addr) =>
 f89 (some ⟨b4,0,none⟩) 1 (fun t66 h67 =>
 f88 (some ⟨b4,0,none⟩) t66 (fun t68 h69 =>
 b2s t68 h69 fun t70 =>
 Zd q fun b71 o =>
 st h69 b71 (o+4) (.string t70) fun h72 =>
 Zd q fun b73 o74=>ldI h72 b73 o74 .i64 fun t75=>ldI h72 b73 (o74+1) .u8 fun t76=>ldI h72 b73 (o74+2) .i64 fun t77=>ldI h72 b73 (o74+3) .i64 fun t78=>ldS h72 b73 (o74+4) fun t79=>ldI h72 b73 (o74+5) .i64 fun t80 =>
 f10 (t75,t76,t77,t78,t79,t80,()) (fun t81 h82 =>
 f90 (some ⟨b4,0,none⟩) t81 (fun t83 t84 h85 =>
 Zc t83 fun err =>
 Zc t84 fun at_ =>
 Zw (err !=0) (
 sts h85 b1 0 [.int .i64 0,.int .u8 0,.int .i64 0,.int .i64 0,.string (ByteArray.mk #[]),.int .i64 0] fun h86 =>
 Zc err fun t87 =>
 Zc at_ fun t88 =>
 ldI h86 b1 0 .i64 fun t89=>ldI h86 b1 (0+1) .u8 fun t90=>ldI h86 b1 (0+2) .i64 fun t91=>ldI h86 b1 (0+3) .i64 fun t92=>ldS h86 b1 (0+4) fun t93=>ldI h86 b1 (0+5) .i64 fun t94=>K (t89,t90,t91,t92,t93,t94,()) t87 t88 h86) (
 Zd q fun b95 o96=>ldI h85 b95 o96 .i64 fun t97=>ldI h85 b95 (o96+1) .u8 fun t98=>ldI h85 b95 (o96+2) .i64 fun t99=>ldI h85 b95 (o96+3) .i64 fun t100=>ldS h85 b95 (o96+4) fun t101=>ldI h85 b95 (o96+5) .i64 fun t102 =>
 sts h85 b1 0 [.int .i64 t97,.int .u8 t98,.int .i64 t99,.int .i64 t100,.string t101,.int .i64 t102] fun h103 =>
 Zc 0 fun t104 =>
 Zc 0 fun t105 =>
 ldI h103 b1 0 .i64 fun t106=>ldI h103 b1 (0+1) .u8 fun t107=>ldI h103 b1 (0+2) .i64 fun t108=>ldI h103 b1 (0+3) .i64 fun t109=>ldS h103 b1 (0+4) fun t110=>ldI h103 b1 (0+5) .i64 fun t111=>K (t106,t107,t108,t109,t110,t111,()) t104 t105 h103)) h82) h72) h67) h65) s.1) (fun J6 =>
 Zfj (
 f89 (some ⟨b4,0,none⟩) 1 (fun t7 h8 =>
 Zfj (
 f89 (some ⟨b4,0,none⟩) 8 (fun t9 h10 =>
 Zfj (
 f89 (some ⟨b4,0,none⟩) 8 (fun t11 h12 =>
 Zfj (
 f89 (some ⟨b4,0,none⟩) 8 (fun t13 h14 =>
 Zfj (
 f89 (some ⟨b4,0,none⟩) 8 (fun t15 h16 =>
 newC h16 [.int .i64 0,.int .u8 0,.int .i64 0,.int .i64 0,.string (ByteArray.mk #[]),.int .i64 0] 39 fun b17 h18 =>
 sts h18 b17 0 [.int .i64 t9,.int .u8 (IntKind.wrap .u8 t7),.int .i64 t11,.int .i64 t13,.string (ByteArray.mk #[]),.int .i64 t15] fun h19 =>
 J6 (some ⟨b17,0,none⟩,()) h19) h14) (
 newC h14 [.int .i64 0,.int .u8 0,.int .i64 0,.int .i64 0,.string (ByteArray.mk #[]),.int .i64 0] 39 fun b20 h21 =>
 f89 (some ⟨b4,0,none⟩) 8 (fun t22 h23 =>
 sts h23 b20 0 [.int .i64 t9,.int .u8 (IntKind.wrap .u8 t7),.int .i64 t11,.int .i64 t13,.string (ByteArray.mk #[]),.int .i64 t22] fun h24 =>
 J6 (some ⟨b20,0,none⟩,()) h24) h21)) h12) (
 newC h12 [.int .i64 0,.int .u8 0,.int .i64 0,.int .i64 0,.string (ByteArray.mk #[]),.int .i64 0] 39 fun b25 h26 =>
 f89 (some ⟨b4,0,none⟩) 8 (fun t27 h28 =>
 f89 (some ⟨b4,0,none⟩) 8 (fun t29 h30 =>
 sts h30 b25 0 [.int .i64 t9,.int .u8 (IntKind.wrap .u8 t7),.int .i64 t11,.int .i64 t27,.string (ByteArray.mk #[]),.int .i64 t29] fun h31 =>
 J6 (some ⟨b25,0,none⟩,()) h31) h28) h26)) h10) (
 newC h10 [.int .i64 0,.int .u8 0,.int .i64 0,.int .i64 0,.string (ByteArray.mk #[]),.int .i64 0] 39 fun b32 h33 =>
 f89 (some ⟨b4,0,none⟩) 8 (fun t34 h35 =>
 f89 (some ⟨b4,0,none⟩) 8 (fun t36 h37 =>
 f89 (some ⟨b4,0,none⟩) 8 (fun t38 h39 =>
 sts h39 b32 0 [.int .i64 t9,.int .u8 (IntKind.wrap .u8 t7),.int .i64 t34,.int .i64 t36,.string (ByteArray.mk #[]),.int .i64 t38] fun h40 =>
 J6 (some ⟨b32,0,none⟩,()) h40) h37) h35) h33)) h8) (
 newC h8 [.int .i64 0,.int .u8 0,.int .i64 0,.int .i64 0,.string (ByteArray.mk #[]),.int .i64 0] 39 fun b41 h42 =>
 f89 (some ⟨b4,0,none⟩) 8 (fun t43 h44 =>
 f89 (some ⟨b4,0,none⟩) 8 (fun t45 h46 =>
 f89 (some ⟨b4,0,none⟩) 8 (fun t47 h48 =>
 f89 (some ⟨b4,0,none⟩) 8 (fun t49 h50 =>
 sts h50 b41 0 [.int .i64 t43,.int .u8 (IntKind.wrap .u8 t7),.int .i64 t45,.int .i64 t47,.string (ByteArray.mk #[]),.int .i64 t49] fun h51 =>
 J6 (some ⟨b41,0,none⟩,()) h51) h48) h46) h44) h42)) h5) (
 newC h5 [.int .i64 0,.int .u8 0,.int .i64 0,.int .i64 0,.string (ByteArray.mk #[]),.int .i64 0] 39 fun b52 h53 =>
 f89 (some ⟨b4,0,none⟩) 1 (fun t54 h55 =>
 f89 (some ⟨b4,0,none⟩) 8 (fun t56 h57 =>
 f89 (some ⟨b4,0,none⟩) 8 (fun t58 h59 =>
 f89 (some ⟨b4,0,none⟩) 8 (fun t60 h61 =>
 f89 (some ⟨b4,0,none⟩) 8 (fun t62 h63 =>
 sts h63 b52 0 [.int .i64 t56,.int .u8 (IntKind.wrap .u8 t54),.int .i64 t58,.int .i64 t60,.string (ByteArray.mk #[]),.int .i64 t62] fun h64 =>
 J6 (some ⟨b52,0,none⟩,()) h64) h61) h59) h57) h55) h53))
def ZaA:Zx3:=Zdb Yo Xc YY Y1
abbrev ZuP:=(Option Addr)→Int→(Int→HP)→HP
def Zc2 (f0:zT0) (s:Option Addr) (at_:Int) (K:Int→HP) (h:Zb):Prop :=
 Zc 0 fun t =>
 ZG s.isNone fun t1 =>
 Zw t1 (
 Zc 1 fun t2 =>
 K t2 h) (
 f0 at_ (fun t3 h4 =>
 ZG (!t3) fun t5 =>
 Zw t5 (
 Zc 2 fun t6 =>
 K t6 h4) (
 Zd s fun b o =>
 ldI h4 b (o+1) .i64 fun t7 =>
 ZG (decide (at_<t7)) fun t8 =>
 Zw t8 (
 Zc 7 fun t9 =>
 K t9 h4) (
 Zc 0 fun t10 =>
 K t10 h4))) h)
def Xa:ZuP:=Zc2 ZaV
abbrev Zx2:=Sl→(Sl→HP)→HP
def YT (s:Sl) (K:Sl→HP) (h:Zb):Prop :=
 Zw s.ptr.isNone (
 K ⟨none,0,0⟩ h) (
 newC h [] 167 fun b h1 =>
 rdS s 4 h1 fun new=>app 167 4 32 [.int .i64 0,.int .i64 0,.int .i64 0,.int .i64 0] ⟨some ⟨b,0,none⟩,0,0⟩ s.len new h1 fun t h2 =>
 K t h2)
def Z6:Zx2:=YT
abbrev ZuO:=(Int × Int × Int × Int × Unit)→(Option Addr)→(Bool→HP)→HP
def ZbF (t:Int × Int × Int × Int × Unit) (a1:Option Addr) (K:Bool→HP) (h:Zb):Prop :=
 newC h [.int .i64 t.1,.int .i64 t.2.1,.int .i64 t.2.2.1,.int .i64 t.2.2.2.1] 167 fun b h1 =>
 Zd a1 fun b2 o=>ldI h1 b2 o .i64 fun t3 =>
 ldI h1 b (0+3) .i64 fun t4 =>
 ZG (decide (t3≥t4)) fun t5 =>
 K t5 h1
def Ye:ZuO:=ZbF
abbrev Zx1:=Sl→(Option Addr × Unit)→(Int→HP)→HP
def Z0 (f94:ZuO) (s:Sl) (f:Option Addr × Unit) (K:Int→HP) (h:Zb):Prop :=
 Zc 0 fun t =>
 YI (σ:=Int × Unit) (fun J1 s2 h3 =>
 (fun (s8:Int) =>
 Zw (decide (s8<(s.len:Int))) (
 Zc s8 fun i =>
 Zap s.ptr s.len i 4 fun b o =>
 ldI h3 b o .i64 fun t4=>ldI h3 b (o+1) .i64 fun t5=>ldI h3 b (o+2) .i64 fun t6=>ldI h3 b (o+3) .i64 fun t7 =>
 f94 (t4,t5,t6,t7,()) f.1 (fun t8 h9 =>
 Zw t8 (
 Zc i fun t10 =>
 K t10 h9) (
 J1 (IntKind.wrap .i64 (s8+1),()) h9)) h3) (
 Zc (-1) fun t11 =>
 K t11 h3)) s2.1) (0,()) h
def ZC:Zx1:=Z0 Ye
abbrev Zx0:=Sl→(Option Addr × Unit)→(Sl→HP)→HP
def ZX (f95:Zx1) (f94:ZuO) (s:Sl) (del:Option Addr × Unit) (K:Sl→HP) (h:Zb):Prop :=
 f95 s (del.1,()) (fun t h1 =>
 Zc t fun i =>
 Zw (i ==(-1)) (
 K s h1) (
 Zc (IntKind.wrap .i64 (i+1)) fun j =>
 YI (σ:=Int × Int × Unit) (fun J4 s5 h6 =>
 (fun (i2:Int) (j3:Int) =>
 Zw (decide (j3<(s.len:Int))) (
 Zap s.ptr s.len j3 4 fun b o =>
 ldI h6 b o .i64 fun t7=>ldI h6 b (o+1) .i64 fun t8=>ldI h6 b (o+2) .i64 fun t9=>ldI h6 b (o+3) .i64 fun t10 =>
 newC h6 [.int .i64 0,.int .i64 0,.int .i64 0,.int .i64 0] 167 fun b11 h12 =>
 sts h12 b11 0 [.int .i64 t7,.int .i64 t8,.int .i64 t9,.int .i64 t10] fun h13 =>
 ldI h13 b11 0 .i64 fun t14=>ldI h13 b11 (0+1) .i64 fun t15=>ldI h13 b11 (0+2) .i64 fun t16=>ldI h13 b11 (0+3) .i64 fun t17 =>
 f94 (t14,t15,t16,t17,()) del.1 (fun t18 h19 =>
 Zw (!t18) (
 ldI h19 b11 0 .i64 fun t20=>ldI h19 b11 (0+1) .i64 fun t21=>ldI h19 b11 (0+2) .i64 fun t22=>ldI h19 b11 (0+3) .i64 fun t23 =>
 Zap s.ptr s.len i2 4 fun b24 o25 =>
 sts h19 b24 o25 [.int .i64 t20,.int .i64 t21,.int .i64 t22,.int .i64 t23] fun h26 =>
 Zc (IntKind.wrap .i64 (i2+1)) fun i27 =>
 Zc (IntKind.wrap .i64 (j3+1)) fun j28 =>
 J4 (i27,j28,()) h26) (
 Zc (IntKind.wrap .i64 (j3+1)) fun j29 =>
 J4 (i2,j29,()) h19)) h13) (
 slc s.ptr s.cap 4 i2 s.len s.cap fun t30 =>
 ZsF t30 [.int .i64 0,.int .i64 0,.int .i64 0,.int .i64 0] h6 fun h31 =>
 slc s.ptr s.cap 4 0 i2 s.cap fun t32 =>
 K t32 h31)) s5.1 s5.2.1) (i,j,()) h1)) h
def ZB:Zx0:=ZX ZC Ye
abbrev Zqi:=(Option Addr)→Int→(Sl→HP)→HP
def Zcp (f93:Zx2) (f96:Zx0) (s:Option Addr) (at_:Int) (K:Sl→HP) (h:Zb):Prop :=
 newC h [.int .i64 at_] 3 fun b h1 =>
 Zd s fun b2 o =>
 ldL h1 b2 (o+5) fun t =>
 f93 t (fun t3 h4 =>
 f96 t3 (some ⟨b,0,none⟩,()) (fun t5 h6 =>
 K t5 h6) h4) h1
def Yv:Zqi:=Zcp Z6 ZB
abbrev ZxZ:=(Int × Int × Int × Int × Unit)→(Option Addr)→(Bool→HP)→HP
def ZaW (t:Int × Int × Int × Int × Unit) (a1:Option Addr) (K:Bool→HP) (h:Zb):Prop :=
 newC h [.int .i64 t.1,.int .i64 t.2.1,.int .i64 t.2.2.1,.int .i64 t.2.2.2.1] 167 fun b h1 =>
 ldI h1 b 0 .i64 fun t2 =>
 Zd a1 fun b3 o=>ldI h1 b3 o .i64 fun t4 =>
 ZG (t2 ==t4) fun t5 =>
 K t5 h1
def Y6:ZxZ:=ZaW
abbrev ZxY:=Sl→(Option Addr × Unit)→(Int→HP)→HP
def ZU (f98:ZxZ) (s:Sl) (f:Option Addr × Unit) (K:Int→HP) (h:Zb):Prop :=
 Zc 0 fun t =>
 YI (σ:=Int × Unit) (fun J1 s2 h3 =>
 (fun (s8:Int) =>
 Zw (decide (s8<(s.len:Int))) (
 Zc s8 fun i =>
 Zap s.ptr s.len i 4 fun b o =>
 ldI h3 b o .i64 fun t4=>ldI h3 b (o+1) .i64 fun t5=>ldI h3 b (o+2) .i64 fun t6=>ldI h3 b (o+3) .i64 fun t7 =>
 f98 (t4,t5,t6,t7,()) f.1 (fun t8 h9 =>
 Zw t8 (
 Zc i fun t10 =>
 K t10 h9) (
 J1 (IntKind.wrap .i64 (s8+1),()) h9)) h3) (
 Zc (-1) fun t11 =>
 K t11 h3)) s2.1) (0,()) h
def Zz:ZxY:=ZU Y6
abbrev Zl4:=(Option Addr)→ByteArray→Int→((Int × Int × Int × Int × Unit)→Bool→HP)→HP
def Zc4 (s:Option Addr) (namespace_:ByteArray) (id:Int) (K:(Int × Int × Int × Int × Unit)→Bool→HP) (h:Zb):Prop :=
 newC h [.int .i64 0,.int .i64 0,.int .i64 0,.int .i64 0] 46 fun b h1 =>
 Zd s fun b2 o =>
 ldL h1 b2 (o+2) fun t =>
 YI (σ:=Int × Unit) (fun J3 s4 h5 =>
 (fun (s17:Int) =>
 Zw (decide (s17<(t.len:Int))) (
 Zap t.ptr t.len s17 2 fun b6 o7 =>
 ldS h5 b6 o7 fun t8=>ldL h5 b6 (o7+1) fun t9 =>
 newC h5 [.string (ByteArray.mk #[]),.slice none 0 0] 137 fun b10 h11 =>
 sts h11 b10 0 [.string t8,.slice t9.ptr t9.len t9.cap] fun h12 =>
 ldL h12 b10 (0+1) fun t13 =>
 YI (σ:=Int × Unit) (fun J14 s15 h16 =>
 (fun (s24:Int) =>
 Zw (decide (s24<(t13.len:Int))) (
 Zap t13.ptr t13.len s24 4 fun b17 o18 =>
 ldI h16 b17 o18 .i64 fun t19=>ldI h16 b17 (o18+1) .i64 fun t20=>ldI h16 b17 (o18+2) .i64 fun t21=>ldI h16 b17 (o18+3) .i64 fun t22 =>
 newC h16 [.int .i64 0,.int .i64 0,.int .i64 0,.int .i64 0] 46 fun b23 h24 =>
 sts h24 b23 0 [.int .i64 t19,.int .i64 t20,.int .i64 t21,.int .i64 t22] fun h25 =>
 ldI h25 b23 0 .i64 fun t26 =>
 Zw (t26 ==id) (
 Zw (ZaF namespace_ (ByteArray.mk #[])) (
 ldI h25 b23 0 .i64 fun t27=>ldI h25 b23 (0+1) .i64 fun t28=>ldI h25 b23 (0+2) .i64 fun t29=>ldI h25 b23 (0+3) .i64 fun t30 =>
 sts h25 b 0 [.int .i64 t27,.int .i64 t28,.int .i64 t29,.int .i64 t30] fun h31 =>
 ldI h31 b 0 .i64 fun t32=>ldI h31 b (0+1) .i64 fun t33=>ldI h31 b (0+2) .i64 fun t34=>ldI h31 b (0+3) .i64 fun t35=>K (t32,t33,t34,t35,()) true h31) (
 ldS h25 b10 0 fun t36 =>
 Zw (ZaF t36 namespace_) (
 ldI h25 b23 0 .i64 fun t37=>ldI h25 b23 (0+1) .i64 fun t38=>ldI h25 b23 (0+2) .i64 fun t39=>ldI h25 b23 (0+3) .i64 fun t40 =>
 sts h25 b 0 [.int .i64 t37,.int .i64 t38,.int .i64 t39,.int .i64 t40] fun h41 =>
 ldI h41 b 0 .i64 fun t42=>ldI h41 b (0+1) .i64 fun t43=>ldI h41 b (0+2) .i64 fun t44=>ldI h41 b (0+3) .i64 fun t45=>K (t42,t43,t44,t45,()) true h41) (
 J14 (IntKind.wrap .i64 (s24+1),()) h25))) (
 J14 (IntKind.wrap .i64 (s24+1),()) h25)) (
 J3 (IntKind.wrap .i64 (s17+1),()) h16)) s15.1) (0,()) h12) (
 sts h5 b 0 [.int .i64 0,.int .i64 0,.int .i64 0,.int .i64 0] fun h46 =>
 ldI h46 b 0 .i64 fun t47=>ldI h46 b (0+1) .i64 fun t48=>ldI h46 b (0+2) .i64 fun t49=>ldI h46 b (0+3) .i64 fun t50=>K (t47,t48,t49,t50,()) false h46)) s4.1) (0,()) h1
def Xb:Zl4:=Zc4
abbrev Zq6:=Sl→Int→Int→(Sl→HP)→HP
def YJ (s:Sl) (i:Int) (j:Int) (K:Sl→HP) (h:Zb):Prop :=
 slc s.ptr s.cap 4 i j (s.len:Int) fun t =>
 Zw (i ==j) (
 K s h) (
 Zc (s.len:Int) fun oldlen =>
 slc s.ptr s.cap 4 0 i s.cap fun t1 =>
 slc s.ptr s.cap 4 j s.len s.cap fun t2 =>
 rdS t2 4 h fun new=>app 167 4 32 [.int .i64 0,.int .i64 0,.int .i64 0,.int .i64 0] t1 t2.len new h fun t3 h4 =>
 slc t3.ptr t3.cap 4 (t3.len:Int) oldlen t3.cap fun t5 =>
 ZsF t5 [.int .i64 0,.int .i64 0,.int .i64 0,.int .i64 0] h4 fun h6 =>
 K t3 h6)
def Z5:Zq6:=YJ
abbrev Zq5:=(Option Addr)→Int→ByteArray→Int→(Int→HP)→HP
def Zbs (f97:Zqi) (f99:ZxY) (f100:Zl4) (f101:Zq6) (s:Option Addr) (at_:Int) (namespace_:ByteArray) (number:Int) (K:Int→HP) (h:Zb):Prop :=
 newC h [.int .i64 number] 3 fun b h1 =>
 Zc 0 fun t =>
 f97 s at_ (fun t2 h3 =>
 f99 t2 (some ⟨b,0,none⟩,()) (fun t4 h5 =>
 Zc t4 fun i =>
 Zw (decide (i<0)) (
 Zc 4 fun t6 =>
 K t6 h5) (
 Zap t2.ptr t2.len i 4 fun b7 o =>
 ldI h5 b7 (o+1) .i64 fun t8 =>
 f100 s namespace_ t8 (fun t9 t10 h11 =>
 newC h11 [.int .i64 0,.int .i64 0,.int .i64 0,.int .i64 0] 46 fun b12 h13 =>
 sts h13 b12 0 [.int .i64 t9.1,.int .i64 t9.2.1,.int .i64 t9.2.2.1,.int .i64 t9.2.2.2.1] fun h14 =>
 ZG t10 fun mine =>
 Zw (!mine) (
 Zc 4 fun t15 =>
 K t15 h14) (
 f101 t2 i (IntKind.wrap .i64 (i+1)) (fun t16 h17 =>
 Zd s fun b18 o19 =>
 st h17 b18 (o19+5) (.slice t16.ptr t16.len t16.cap) fun h20 =>
 Zc 8 fun t21 =>
 K t21 h20) h14)) h5)) h3) h1
def Xn:Zq5:=Zbs Yv Zz Xb Z5
abbrev Zq4:=(Option Addr)→Int→(Int × Int × Int × Int × Unit)→(Bool→HP)→HP
def ZbE (s:Option Addr) (at_:Int) (f:Int × Int × Int × Int × Unit) (K:Bool→HP) (h:Zb):Prop :=
 newC h [.int .i64 f.1,.int .i64 f.2.1,.int .i64 f.2.2.1,.int .i64 f.2.2.2.1] 46 fun b h1 =>
 Zd s fun b2 o =>
 ldI h1 b2 o .i64 fun t =>
 ldI h1 b (0+3) .i64 fun t3 =>
 ZG (decide (at_<(IntKind.wrap .i64 (t+(Zqf 1000000 t3))))) fun t4 =>
 K t4 h1
def XH:Zq4:=ZbE
abbrev Zl3:=(Option Addr)→Int→(Int→HP)→HP
def ZbW (w:Option Addr) (at_:Int) (K:Int→HP) (h:Zb):Prop :=
 Zc 0 fun t =>
 ZG w.isNone fun t1 =>
 Zw t1 (
 Zc 1 fun t2 =>
 K t2 h) (
 Zw (decide (at_<0)) (
 Zc 2 fun t3 =>
 K t3 h) (
 ZG (decide (at_>1152921504606846976)) fun t4 =>
 Zw t4 (
 Zc 2 fun t5 =>
 K t5 h) (
 Zd w fun b o =>
 ldI h b (o+2) .i64 fun t6 =>
 ZG (decide (at_<t6)) fun t7 =>
 Zw t7 (
 Zc 7 fun t8 =>
 K t8 h) (
 Zc 0 fun t9 =>
 K t9 h))))
def YO:Zl3:=ZbW
abbrev Zq3:=(Option Addr)→Int→((Option Addr × Option Addr × Unit)→HP)→HP
def Zdu (w:Option Addr) (at_:Int) (K:(Option Addr × Option Addr × Unit)→HP) (h:Zb):Prop :=
 newC h [.pointer w] 180 fun b h1 =>
 newC h1 [.int .i64 at_] 3 fun b2 h3 =>
 K (some ⟨b,0,none⟩,some ⟨b2,0,none⟩,()) h3
def ZaL:Zq3:=Zdu
abbrev Znn:=(Option Addr)→Int→(Int→HP)→HP
def ZbC (w:Option Addr) (at_:Int) (K:Int→HP) (h:Zb):Prop :=
 Zc 0 fun t =>
 Zd w fun b o =>
 ldI h b o .i64 fun t1 =>
 Zd w fun b2 o3 =>
 ldI h b2 (o3+1) .i64 fun t4 =>
 ZH (t4≠0) <|
 ZH ((IntKind.wrap .i64 (Int.tdiv t1 t4))≠0) <|
 Zc (IntKind.wrap .i64 (Int.tdiv at_ (IntKind.wrap .i64 (Int.tdiv t1 t4)))) fun t5 =>
 K t5 h
def Yt:Znn:=ZbC
abbrev Zq2:=Yld→Nat→(Option Addr)→(Option Addr)→(HP)→HP
def Zcl (f106:Znn) (Y:Yld) (yield:Nat) (a1:Option Addr) (a2:Option Addr) (K:HP) (h:Zb):Prop :=
 Zd a1 fun b o=>ldP h b o fun t =>
 Zd a2 fun b1 o2=>ldI h b1 o2 .i64 fun t3 =>
 f106 t t3 (fun t4 h5 =>
 Zc t4 fun k =>
 Zd a1 fun b6 o7=>ldP h5 b6 o7 fun t8 =>
 Zd t8 fun b9 o10 =>
 ldI h5 b9 (o10+1) .i64 fun t11 =>
 Zc (Zqf 0 (IntKind.wrap .i64 ((IntKind.wrap .i64 (k - t11))+1))) fun i =>
 YI (σ:=Int × Unit) (fun J13 s h14 =>
 (fun (i12:Int) =>
 Zw (decide (i12≤k)) (
 Zd a1 fun b15 o16=>ldP h14 b15 o16 fun t17 =>
 Zd t17 fun b18 o19 =>
 ldM h14 b18 (o19+3) fun t20 =>
 XF (.int .i64) h14 t20 (.int .i64 i12) fun r=>exG (r.getD (.agg #[.int .i64 0,.int .i64 0,.int .i64 0,.int .i64 0,.int .i64 0,.int .i64 0])) (fun t21:Int × Int × Int × Int × Int × Int × Unit=> .agg #[.int .i64 t21.1,.int .i64 t21.2.1,.int .i64 t21.2.2.1,.int .i64 t21.2.2.2.1,.int .i64 t21.2.2.2.2.1,.int .i64 t21.2.2.2.2.2.1]) fun t21 =>
 newC h14 [.int .i64 0,.int .i64 0,.int .i64 0,.int .i64 0,.int .i64 0,.int .i64 0] 305 fun b22 h23 =>
 sts h23 b22 0 [.int .i64 t21.1,.int .i64 t21.2.1,.int .i64 t21.2.2.1,.int .i64 t21.2.2.2.1,.int .i64 t21.2.2.2.2.1,.int .i64 t21.2.2.2.2.2.1] fun h24 =>
 ZG r.isSome fun there =>
 Zw there (
 Zd a1 fun b25 o26=>ldP h24 b25 o26 fun t27 =>
 Zd t27 fun b28 o29 =>
 ldI h24 b28 o29 .i64 fun t30 =>
 Zd a1 fun b31 o32=>ldP h24 b31 o32 fun t33 =>
 Zd t33 fun b34 o35 =>
 ldI h24 b34 (o35+1) .i64 fun t36 =>
 ZH (t36≠0) <|
 ldI h24 b22 0 .i64 fun t37=>ldI h24 b22 (0+1) .i64 fun t38=>ldI h24 b22 (0+2) .i64 fun t39=>ldI h24 b22 (0+3) .i64 fun t40=>ldI h24 b22 (0+4) .i64 fun t41=>ldI h24 b22 (0+5) .i64 fun t42 =>
 Y yield [.agg #[.int .i64 (IntKind.wrap .i64 (i12*(IntKind.wrap .i64 (Int.tdiv t30 t36)))),.int .i64 t37,.int .i64 t38,.int .i64 t39,.int .i64 t40,.int .i64 t41,.int .i64 t42]] (fun go h43 =>
 ZH (Zi h43 [(b22,0,.int .i64 t37),(b22,0+1,.int .i64 t38),(b22,0+2,.int .i64 t39),(b22,0+3,.int .i64 t40),(b22,0+4,.int .i64 t41),(b22,0+5,.int .i64 t42)]) <|
 ZH (Zi h43 [(b34,o35+1,.int .i64 t36)]) <|
 ZH (Zi h43 [(b31,o32,.pointer t33)]) <|
 ZH (Zi h43 [(b28,o29,.int .i64 t30)]) <|
 ZH (Zi h43 [(b25,o26,.pointer t27)]) <|
 Zw (!go) (
 K h43) (
 Zc (IntKind.wrap .i64 (i12+1)) fun i44 =>
 J13 (i44,()) h43)) h24) (
 Zc (IntKind.wrap .i64 (i12+1)) fun i45 =>
 J13 (i45,()) h24)) (
 K h14)) s.1) (i,()) h5) h
def Zaa:Zq2:=Zcl Yt
abbrev Zq1:=Int→Int→(Int→HP)→HP
def Zhp (a:Int) (b:Int) (K:Int→HP) (h:Zb):Prop :=
 Zc 0 fun t =>
 Zc (IntKind.wrap .i64 ((Zjf a (IntKind.wrap .i64 ((4611686018427387904:Int) - b)))+b)) fun t1 =>
 K t1 h
def Zei:Zq1:=Zhp
abbrev Zl2:=(Int × Int × Int × Int × Int × Int × Unit)→(Int × Int × Int × Int × Int × Int × Unit)→((Int × Int × Int × Int × Int × Int × Unit)→HP)→HP
def Zgc (f108:Zq1) (a:Int × Int × Int × Int × Int × Int × Unit) (b:Int × Int × Int × Int × Int × Int × Unit) (K:(Int × Int × Int × Int × Int × Int × Unit)→HP) (h:Zb):Prop :=
 newC h [.int .i64 a.1,.int .i64 a.2.1,.int .i64 a.2.2.1,.int .i64 a.2.2.2.1,.int .i64 a.2.2.2.2.1,.int .i64 a.2.2.2.2.2.1] 305 fun b1 h2 =>
 newC h2 [.int .i64 b.1,.int .i64 b.2.1,.int .i64 b.2.2.1,.int .i64 b.2.2.2.1,.int .i64 b.2.2.2.2.1,.int .i64 b.2.2.2.2.2.1] 305 fun b3 h4 =>
 newC h4 [.int .i64 0,.int .i64 0,.int .i64 0,.int .i64 0,.int .i64 0,.int .i64 0] 305 fun b5 h6 =>
 Zg5 (σ:=Option Addr × Unit) (fun s h75 =>
 (fun (c:Option Addr) =>
 ldI h75 b1 (0+2) .i64 fun t76 =>
 ZG (t76 ==0) fun t77 =>
 Zw t77 (
 ldI h75 b3 (0+5) .i64 fun t78 =>
 Zd c fun b79 o =>
 st h75 b79 (o+5) (.int .i64 t78) fun h80 =>
 Zd c fun b81 o82=>ldI h80 b81 o82 .i64 fun t83=>ldI h80 b81 (o82+1) .i64 fun t84=>ldI h80 b81 (o82+2) .i64 fun t85=>ldI h80 b81 (o82+3) .i64 fun t86=>ldI h80 b81 (o82+4) .i64 fun t87=>ldI h80 b81 (o82+5) .i64 fun t88 =>
 sts h80 b5 0 [.int .i64 t83,.int .i64 t84,.int .i64 t85,.int .i64 t86,.int .i64 t87,.int .i64 t88] fun h89 =>
 ldI h89 b5 0 .i64 fun t90=>ldI h89 b5 (0+1) .i64 fun t91=>ldI h89 b5 (0+2) .i64 fun t92=>ldI h89 b5 (0+3) .i64 fun t93=>ldI h89 b5 (0+4) .i64 fun t94=>ldI h89 b5 (0+5) .i64 fun t95=>K (t90,t91,t92,t93,t94,t95,()) h89) (
 ldI h75 b3 (0+2) .i64 fun t96 =>
 ZG (t96 ==0) fun t97 =>
 Zw t97 (
 ldI h75 b1 (0+5) .i64 fun t98 =>
 Zd c fun b99 o100 =>
 st h75 b99 (o100+5) (.int .i64 t98) fun h101 =>
 Zd c fun b102 o103=>ldI h101 b102 o103 .i64 fun t104=>ldI h101 b102 (o103+1) .i64 fun t105=>ldI h101 b102 (o103+2) .i64 fun t106=>ldI h101 b102 (o103+3) .i64 fun t107=>ldI h101 b102 (o103+4) .i64 fun t108=>ldI h101 b102 (o103+5) .i64 fun t109 =>
 sts h101 b5 0 [.int .i64 t104,.int .i64 t105,.int .i64 t106,.int .i64 t107,.int .i64 t108,.int .i64 t109] fun h110 =>
 ldI h110 b5 0 .i64 fun t111=>ldI h110 b5 (0+1) .i64 fun t112=>ldI h110 b5 (0+2) .i64 fun t113=>ldI h110 b5 (0+3) .i64 fun t114=>ldI h110 b5 (0+4) .i64 fun t115=>ldI h110 b5 (0+5) .i64 fun t116=>K (t111,t112,t113,t114,t115,t116,()) h110) (
 ldI h75 b1 (0+5) .i64 fun t117 =>
 ldI h75 b3 (0+5) .i64 fun t118 =>
 Zd c fun b119 o120 =>
 st h75 b119 (o120+5) (.int .i64 (Zjf t117 t118)) fun h121 =>
 Zd c fun b122 o123=>ldI h121 b122 o123 .i64 fun t124=>ldI h121 b122 (o123+1) .i64 fun t125=>ldI h121 b122 (o123+2) .i64 fun t126=>ldI h121 b122 (o123+3) .i64 fun t127=>ldI h121 b122 (o123+4) .i64 fun t128=>ldI h121 b122 (o123+5) .i64 fun t129 =>
 sts h121 b5 0 [.int .i64 t124,.int .i64 t125,.int .i64 t126,.int .i64 t127,.int .i64 t128,.int .i64 t129] fun h130 =>
 ldI h130 b5 0 .i64 fun t131=>ldI h130 b5 (0+1) .i64 fun t132=>ldI h130 b5 (0+2) .i64 fun t133=>ldI h130 b5 (0+3) .i64 fun t134=>ldI h130 b5 (0+4) .i64 fun t135=>ldI h130 b5 (0+5) .i64 fun t136=>K (t131,t132,t133,t134,t135,t136,()) h130))) s.1) (fun J7 =>
 ldI h6 b1 0 .i64 fun t =>
 ldI h6 b3 0 .i64 fun t8 =>
 ldI h6 b1 (0+1) .i64 fun t9 =>
 ldI h6 b3 (0+1) .i64 fun t10 =>
 ldI h6 b1 (0+2) .i64 fun t11 =>
 ldI h6 b3 (0+2) .i64 fun t12 =>
 ldI h6 b1 (0+3) .i64 fun t13 =>
 ldI h6 b3 (0+3) .i64 fun t14 =>
 ldI h6 b1 (0+4) .i64 fun t15 =>
 ldI h6 b3 (0+4) .i64 fun t16 =>
 Zfj (
 f108 t t8 (fun t17 h18 =>
 ZH (Zi h18 [(b3,0+4,.int .i64 t16)]) <|
 ZH (Zi h18 [(b1,0+4,.int .i64 t15)]) <|
 ZH (Zi h18 [(b3,0+3,.int .i64 t14)]) <|
 ZH (Zi h18 [(b1,0+3,.int .i64 t13)]) <|
 ZH (Zi h18 [(b3,0+2,.int .i64 t12)]) <|
 ZH (Zi h18 [(b1,0+2,.int .i64 t11)]) <|
 ZH (Zi h18 [(b3,0+1,.int .i64 t10)]) <|
 ZH (Zi h18 [(b1,0+1,.int .i64 t9)]) <|
 Zfj (
 f108 t9 t10 (fun t19 h20 =>
 ZH (Zi h20 [(b3,0+4,.int .i64 t16)]) <|
 ZH (Zi h20 [(b1,0+4,.int .i64 t15)]) <|
 ZH (Zi h20 [(b3,0+3,.int .i64 t14)]) <|
 ZH (Zi h20 [(b1,0+3,.int .i64 t13)]) <|
 ZH (Zi h20 [(b3,0+2,.int .i64 t12)]) <|
 ZH (Zi h20 [(b1,0+2,.int .i64 t11)]) <|
 Zfj (
 f108 t11 t12 (fun t21 h22 =>
 ZH (Zi h22 [(b3,0+4,.int .i64 t16)]) <|
 ZH (Zi h22 [(b1,0+4,.int .i64 t15)]) <|
 ZH (Zi h22 [(b3,0+3,.int .i64 t14)]) <|
 ZH (Zi h22 [(b1,0+3,.int .i64 t13)]) <|
 Zfj (
 f108 t13 t14 (fun t23 h24 =>
 ZH (Zi h24 [(b3,0+4,.int .i64 t16)]) <|
 ZH (Zi h24 [(b1,0+4,.int .i64 t15)]) <|
 Zfj (
 f108 t15 t16 (fun t25 h26 =>
 newC h26 [.int .i64 0,.int .i64 0,.int .i64 0,.int .i64 0,.int .i64 0,.int .i64 0] 305 fun b27 h28 =>
 sts h28 b27 0 [.int .i64 t17,.int .i64 t19,.int .i64 t21,.int .i64 t23,.int .i64 t25,.int .i64 0] fun h29 =>
 J7 (some ⟨b27,0,none⟩,()) h29) h24) (
 newC h24 [.int .i64 0,.int .i64 0,.int .i64 0,.int .i64 0,.int .i64 0,.int .i64 0] 305 fun b30 h31 =>
 ZH (Zi h31 [(b3,0+4,.int .i64 t16)]) <|
 ZH (Zi h31 [(b1,0+4,.int .i64 t15)]) <|
 f108 t15 t16 (fun t32 h33 =>
 sts h33 b30 0 [.int .i64 t17,.int .i64 t19,.int .i64 t21,.int .i64 t23,.int .i64 t32,.int .i64 0] fun h34 =>
 J7 (some ⟨b30,0,none⟩,()) h34) h31)) h22) (
 newC h22 [.int .i64 0,.int .i64 0,.int .i64 0,.int .i64 0,.int .i64 0,.int .i64 0] 305 fun b35 h36 =>
 ZH (Zi h36 [(b3,0+4,.int .i64 t16)]) <|
 ZH (Zi h36 [(b1,0+4,.int .i64 t15)]) <|
 ZH (Zi h36 [(b3,0+3,.int .i64 t14)]) <|
 ZH (Zi h36 [(b1,0+3,.int .i64 t13)]) <|
 f108 t13 t14 (fun t37 h38 =>
 ZH (Zi h38 [(b3,0+4,.int .i64 t16)]) <|
 ZH (Zi h38 [(b1,0+4,.int .i64 t15)]) <|
 f108 t15 t16 (fun t39 h40 =>
 sts h40 b35 0 [.int .i64 t17,.int .i64 t19,.int .i64 t21,.int .i64 t37,.int .i64 t39,.int .i64 0] fun h41 =>
 J7 (some ⟨b35,0,none⟩,()) h41) h38) h36)) h20) (
 newC h20 [.int .i64 0,.int .i64 0,.int .i64 0,.int .i64 0,.int .i64 0,.int .i64 0] 305 fun b42 h43 =>
 ZH (Zi h43 [(b3,0+4,.int .i64 t16)]) <|
 ZH (Zi h43 [(b1,0+4,.int .i64 t15)]) <|
 ZH (Zi h43 [(b3,0+3,.int .i64 t14)]) <|
 ZH (Zi h43 [(b1,0+3,.int .i64 t13)]) <|
 ZH (Zi h43 [(b3,0+2,.int .i64 t12)]) <|
 ZH (Zi h43 [(b1,0+2,.int .i64 t11)]) <|
 f108 t11 t12 (fun t44 h45 =>
 ZH (Zi h45 [(b3,0+4,.int .i64 t16)]) <|
 ZH (Zi h45 [(b1,0+4,.int .i64 t15)]) <|
 ZH (Zi h45 [(b3,0+3,.int .i64 t14)]) <|
 ZH (Zi h45 [(b1,0+3,.int .i64 t13)]) <|
 f108 t13 t14 (fun t46 h47 =>
 ZH (Zi h47 [(b3,0+4,.int .i64 t16)]) <|
 ZH (Zi h47 [(b1,0+4,.int .i64 t15)]) <|
 f108 t15 t16 (fun t48 h49 =>
 sts h49 b42 0 [.int .i64 t17,.int .i64 t19,.int .i64 t44,.int .i64 t46,.int .i64 t48,.int .i64 0] fun h50 =>
 J7 (some ⟨b42,0,none⟩,()) h50) h47) h45) h43)) h18) (
 newC h18 [.int .i64 0,.int .i64 0,.int .i64 0,.int .i64 0,.int .i64 0,.int .i64 0] 305 fun b51 h52 =>
 ZH (Zi h52 [(b3,0+4,.int .i64 t16)]) <|
 ZH (Zi h52 [(b1,0+4,.int .i64 t15)]) <|
 ZH (Zi h52 [(b3,0+3,.int .i64 t14)]) <|
 ZH (Zi h52 [(b1,0+3,.int .i64 t13)]) <|
 ZH (Zi h52 [(b3,0+2,.int .i64 t12)]) <|
 ZH (Zi h52 [(b1,0+2,.int .i64 t11)]) <|
 ZH (Zi h52 [(b3,0+1,.int .i64 t10)]) <|
 ZH (Zi h52 [(b1,0+1,.int .i64 t9)]) <|
 f108 t9 t10 (fun t53 h54 =>
 ZH (Zi h54 [(b3,0+4,.int .i64 t16)]) <|
 ZH (Zi h54 [(b1,0+4,.int .i64 t15)]) <|
 ZH (Zi h54 [(b3,0+3,.int .i64 t14)]) <|
 ZH (Zi h54 [(b1,0+3,.int .i64 t13)]) <|
 ZH (Zi h54 [(b3,0+2,.int .i64 t12)]) <|
 ZH (Zi h54 [(b1,0+2,.int .i64 t11)]) <|
 f108 t11 t12 (fun t55 h56 =>
 ZH (Zi h56 [(b3,0+4,.int .i64 t16)]) <|
 ZH (Zi h56 [(b1,0+4,.int .i64 t15)]) <|
 ZH (Zi h56 [(b3,0+3,.int .i64 t14)]) <|
 ZH (Zi h56 [(b1,0+3,.int .i64 t13)]) <|
 f108 t13 t14 (fun t57 h58 =>
 ZH (Zi h58 [(b3,0+4,.int .i64 t16)]) <|
 ZH (Zi h58 [(b1,0+4,.int .i64 t15)]) <|
 f108 t15 t16 (fun t59 h60 =>
 sts h60 b51 0 [.int .i64 t17,.int .i64 t53,.int .i64 t55,.int .i64 t57,.int .i64 t59,.int .i64 0] fun h61 =>
 J7 (some ⟨b51,0,none⟩,()) h61) h58) h56) h54) h52)) h6) (
 newC h6 [.int .i64 0,.int .i64 0,.int .i64 0,.int .i64 0,.int .i64 0,.int .i64 0] 305 fun b62 h63 =>
 ZH (Zi h63 [(b3,0+4,.int .i64 t16)]) <|
 ZH (Zi h63 [(b1,0+4,.int .i64 t15)]) <|
 ZH (Zi h63 [(b3,0+3,.int .i64 t14)]) <|
 ZH (Zi h63 [(b1,0+3,.int .i64 t13)]) <|
 ZH (Zi h63 [(b3,0+2,.int .i64 t12)]) <|
 ZH (Zi h63 [(b1,0+2,.int .i64 t11)]) <|
 ZH (Zi h63 [(b3,0+1,.int .i64 t10)]) <|
 ZH (Zi h63 [(b1,0+1,.int .i64 t9)]) <|
 ZH (Zi h63 [(b3,0,.int .i64 t8)]) <|
 ZH (Zi h63 [(b1,0,.int .i64 t)]) <|
 f108 t t8 (fun t64 h65 =>
 ZH (Zi h65 [(b3,0+4,.int .i64 t16)]) <|
 ZH (Zi h65 [(b1,0+4,.int .i64 t15)]) <|
 ZH (Zi h65 [(b3,0+3,.int .i64 t14)]) <|
 ZH (Zi h65 [(b1,0+3,.int .i64 t13)]) <|
 ZH (Zi h65 [(b3,0+2,.int .i64 t12)]) <|
 ZH (Zi h65 [(b1,0+2,.int .i64 t11)]) <|
 ZH (Zi h65 [(b3,0+1,.int .i64 t10)]) <|
 ZH (Zi h65 [(b1,0+1,.int .i64 t9)]) <|
 f108 t9 t10 (fun t66 h67 =>
 ZH (Zi h67 [(b3,0+4,.int .i64 t16)]) <|
 ZH (Zi h67 [(b1,0+4,.int .i64 t15)]) <|
 ZH (Zi h67 [(b3,0+3,.int .i64 t14)]) <|
 ZH (Zi h67 [(b1,0+3,.int .i64 t13)]) <|
 ZH (Zi h67 [(b3,0+2,.int .i64 t12)]) <|
 ZH (Zi h67 [(b1,0+2,.int .i64 t11)]) <|
 f108 t11 t12 (fun t68 h69 =>
 ZH (Zi h69 [(b3,0+4,.int .i64 t16)]) <|
 ZH (Zi h69 [(b1,0+4,.int .i64 t15)]) <|
 ZH (Zi h69 [(b3,0+3,.int .i64 t14)]) <|
 ZH (Zi h69 [(b1,0+3,.int .i64 t13)]) <|
 f108 t13 t14 (fun t70 h71 =>
 ZH (Zi h71 [(b3,0+4,.int .i64 t16)]) <|
 ZH (Zi h71 [(b1,0+4,.int .i64 t15)]) <|
 f108 t15 t16 (fun t72 h73 =>
 sts h73 b62 0 [.int .i64 t64,.int .i64 t66,.int .i64 t68,.int .i64 t70,.int .i64 t72,.int .i64 0] fun h74 =>
 J7 (some ⟨b62,0,none⟩,()) h74) h71) h69) h67) h65) h63))
def ZbS:Zl2:=Zgc Zei
abbrev Zq0:=(Option Addr)→Int→((Int × Int × Int × Int × Int × Int × Unit)→Int→HP)→HP
def ZcX (f104:Zl3) (f105:Zq3) (f109:Zl2) (f107:Zq2) (w:Option Addr) (at_:Int) (K:(Int × Int × Int × Int × Int × Int × Unit)→Int→HP) (h:Zb):Prop :=
 newC h [.int .i64 0,.int .i64 0,.int .i64 0,.int .i64 0,.int .i64 0,.int .i64 0] 305 fun b h1 =>
 Zc 0 fun t =>
 f104 w at_ (fun t2 h3 =>
 Zc t2 fun err =>
 Zw (err !=0) (
 sts h3 b 0 [.int .i64 0,.int .i64 0,.int .i64 0,.int .i64 0,.int .i64 0,.int .i64 0] fun h4 =>
 Zc err fun t5 =>
 ldI h4 b 0 .i64 fun t6=>ldI h4 b (0+1) .i64 fun t7=>ldI h4 b (0+2) .i64 fun t8=>ldI h4 b (0+3) .i64 fun t9=>ldI h4 b (0+4) .i64 fun t10=>ldI h4 b (0+5) .i64 fun t11=>K (t6,t7,t8,t9,t10,t11,()) t5 h4) (
 newC h3 [.int .i64 0,.int .i64 0,.int .i64 0,.int .i64 0,.int .i64 0,.int .i64 0] 305 fun b12 h13 =>
 f105 w at_ (fun t14 h15 =>
 ZrL 1 (fun Y l K h=>f107 Y l t14.1 t14.2.1 K h) (fun l rec vs h16 k =>
 Zxj (fun a:(Int × Int × Int × Int × Int × Int × Int × Unit) × Unit=>[.agg #[.int .i64 a.1.1,.int .i64 a.1.2.1,.int .i64 a.1.2.2.1,.int .i64 a.1.2.2.2.1,.int .i64 a.1.2.2.2.2.1,.int .i64 a.1.2.2.2.2.2.1,.int .i64 a.1.2.2.2.2.2.2.1]]) vs fun a =>
 newC h16 [.int .i64 0,.int .i64 0,.int .i64 0,.int .i64 0,.int .i64 0,.int .i64 0,.int .i64 0] 316 fun b17 h18 =>
 sts h18 b17 0 [.int .i64 a.1.1,.int .i64 a.1.2.1,.int .i64 a.1.2.2.1,.int .i64 a.1.2.2.2.1,.int .i64 a.1.2.2.2.2.1,.int .i64 a.1.2.2.2.2.2.1,.int .i64 a.1.2.2.2.2.2.2.1] fun h19 =>
 Zuu rec l h19 fun h20 =>
 ldI h20 b12 0 .i64 fun t21=>ldI h20 b12 (0+1) .i64 fun t22=>ldI h20 b12 (0+2) .i64 fun t23=>ldI h20 b12 (0+3) .i64 fun t24=>ldI h20 b12 (0+4) .i64 fun t25=>ldI h20 b12 (0+5) .i64 fun t26 =>
 ldI h20 b17 (0+1) .i64 fun t27=>ldI h20 b17 (0+1+1) .i64 fun t28=>ldI h20 b17 (0+1+2) .i64 fun t29=>ldI h20 b17 (0+1+3) .i64 fun t30=>ldI h20 b17 (0+1+4) .i64 fun t31=>ldI h20 b17 (0+1+5) .i64 fun t32 =>
 f109 (t21,t22,t23,t24,t25,t26,()) (t27,t28,t29,t30,t31,t32,()) (fun t33 h34 =>
 sts h34 b12 0 [.int .i64 t33.1,.int .i64 t33.2.1,.int .i64 t33.2.2.1,.int .i64 t33.2.2.2.1,.int .i64 t33.2.2.2.2.1,.int .i64 t33.2.2.2.2.2.1] fun h35 =>
 k none h35) h20) h15 (fun p D h36 =>
 Zud p (
 ldI h36 b12 0 .i64 fun t37=>ldI h36 b12 (0+1) .i64 fun t38=>ldI h36 b12 (0+2) .i64 fun t39=>ldI h36 b12 (0+3) .i64 fun t40=>ldI h36 b12 (0+4) .i64 fun t41=>ldI h36 b12 (0+5) .i64 fun t42 =>
 sts h36 b 0 [.int .i64 t37,.int .i64 t38,.int .i64 t39,.int .i64 t40,.int .i64 t41,.int .i64 t42] fun h43 =>
 Zc 0 fun t44 =>
 Zps D h43 fun h45=>ldI h45 b 0 .i64 fun t46=>ldI h45 b (0+1) .i64 fun t47=>ldI h45 b (0+2) .i64 fun t48=>ldI h45 b (0+3) .i64 fun t49=>ldI h45 b (0+4) .i64 fun t50=>ldI h45 b (0+5) .i64 fun t51=>K (t46,t47,t48,t49,t50,t51,()) t44 h45) (fun x =>
 bif Nat.beq x 0 then (
 ldI h36 b12 0 .i64 fun t59=>ldI h36 b12 (0+1) .i64 fun t60=>ldI h36 b12 (0+2) .i64 fun t61=>ldI h36 b12 (0+3) .i64 fun t62=>ldI h36 b12 (0+4) .i64 fun t63=>ldI h36 b12 (0+5) .i64 fun t64 =>
 sts h36 b 0 [.int .i64 t59,.int .i64 t60,.int .i64 t61,.int .i64 t62,.int .i64 t63,.int .i64 t64] fun h65 =>
 Zc 0 fun t66 =>
 Zps D h65 fun h67=>ldI h67 b 0 .i64 fun t68=>ldI h67 b (0+1) .i64 fun t69=>ldI h67 b (0+2) .i64 fun t70=>ldI h67 b (0+3) .i64 fun t71=>ldI h67 b (0+4) .i64 fun t72=>ldI h67 b (0+5) .i64 fun t73=>K (t68,t69,t70,t71,t72,t73,()) t66 h67) else (False)) (
 Zps D h36 fun h52=>ldI h52 b 0 .i64 fun t53=>ldI h52 b (0+1) .i64 fun t54=>ldI h52 b (0+2) .i64 fun t55=>ldI h52 b (0+3) .i64 fun t56=>ldI h52 b (0+4) .i64 fun t57=>ldI h52 b (0+5) .i64 fun t58=>K (t53,t54,t55,t56,t57,t58,()) t h52))) h13)) h1
def Zat:Zq0:=ZcX YO ZaL ZbS Zaa
abbrev ZqZ:=(Option Addr × Unit)→Int→ByteArray→(Int→HP)→HP
def ZdN (f110:Zq0) (r:Option Addr × Unit) (at_:Int) (x:ByteArray) (K:Int→HP) (h:Zb):Prop :=
 newC h [.pointer r.1] 184 fun b h1 =>
 Zc 0 fun t =>
 ldP h1 b 0 fun t2 =>
 f110 t2 at_ (fun t3 t4 h5 =>
 newC h5 [.int .i64 0,.int .i64 0,.int .i64 0,.int .i64 0,.int .i64 0,.int .i64 0] 305 fun b6 h7 =>
 sts h7 b6 0 [.int .i64 t3.1,.int .i64 t3.2.1,.int .i64 t3.2.2.1,.int .i64 t3.2.2.2.1,.int .i64 t3.2.2.2.2.1,.int .i64 t3.2.2.2.2.2.1] fun h8 =>
 Zc t4 fun x9 =>
 ldI h8 b6 0 .i64 fun t10 =>
 Zc t10 fun t11 =>
 K t11 h8) h1
def Za5:ZqZ:=ZdN Zat
abbrev Zl1:=(Option Addr)→Int→(Int→HP)→HP
def Zct (s:Option Addr) (at_:Int) (K:Int→HP) (h:Zb):Prop :=
 Zc 0 fun t =>
 ZG s.isNone fun t1 =>
 Zw t1 (
 Zc 1 fun t2 =>
 K t2 h) (
 Zw (decide (at_<0)) (
 Zc 2 fun t3 =>
 K t3 h) (
 ZG (decide (at_>1152921504606846976)) fun t4 =>
 Zw t4 (
 Zc 2 fun t5 =>
 K t5 h) (
 Zd s fun b o =>
 ldI h b (o+6) .i64 fun t6 =>
 ZG (decide (at_<t6)) fun t7 =>
 Zw t7 (
 Zc 7 fun t8 =>
 K t8 h) (
 Zc 0 fun t9 =>
 K t9 h))))
def Y0:Zl1:=Zct
abbrev ZqY:=ByteArray→(Int→HP)→HP
def ZfC (key:ByteArray) (K:Int→HP) (h:Zb):Prop :=
 Zc 0 fun t =>
 Zc 14695981039346656037 fun h1 =>
 YI (σ:=Int × Int × Unit) (fun J3 s h4 =>
 (fun (h2:Int) (s7:Int) =>
 Zw (decide (s7<(key.size:Int))) (
 Zc s7 fun i =>
 ZAk key i fun t5 =>
 Zc (IntKind.wrap .u64 ((Ztv .u64 h2 (IntKind.wrap .u64 t5))*1099511628211)) fun h6 =>
 J3 (h6,IntKind.wrap .i64 (s7+1),()) h4) (
 Zc h2 fun t7 =>
 K t7 h4)) s.1 s.2.1) (h1,0,()) h
def Zdq:ZqY:=ZfC
abbrev ZqX:=Int→(Int→HP)→HP
def ZgZ (x:Int) (K:Int→HP) (h:Zb):Prop :=
 Zc 0 fun t =>
 ZH (0≤(30:Int)) <|
 Zc (IntKind.wrap .u64 ((Ztv .u64 x (ZlM .u64 x 30))*13787848793156543929)) fun x1 =>
 ZH (0≤(27:Int)) <|
 Zc (IntKind.wrap .u64 ((Ztv .u64 x1 (ZlM .u64 x1 27))*10723151780598845931)) fun x2 =>
 ZH (0≤(31:Int)) <|
 Zc (Ztv .u64 x2 (ZlM .u64 x2 31)) fun t3 =>
 K t3 h
def Zes:ZqX:=ZgZ
abbrev Zl0:=(Int × Int × Int × Int × Int × Unit)→Int→ByteArray→(Int→HP)→HP
def Zb0 (f113:ZqY) (f114:ZqX) (s:Int × Int × Int × Int × Int × Unit) (row:Int) (key:ByteArray) (K:Int→HP) (h:Zb):Prop :=
 newC h [.int .i64 s.1,.int .i64 s.2.1,.int .i64 s.2.2.1,.int .i64 s.2.2.2.1,.int .u64 s.2.2.2.2.1] 217 fun b h1 =>
 Zc 0 fun t =>
 ZwE (ρ:=Int × Unit) (fun K h=>f113 key (fun q h=>K (q,()) h) h) h1 fun r =>
 ldI h1 b (0+4) .u64 fun t3 =>
 ZwE (ρ:=Int × Unit) (fun K h=>f114 (IntKind.wrap .u64 ((IntKind.wrap .u64 (r.1+t3))+(IntKind.wrap .u64 ((11400714819323198485:Int)*(IntKind.wrap .u64 (IntKind.wrap .i64 (row+1))))))) (fun q5 h=>K (q5,()) h) h) h1 fun r6 =>
 ldI h1 b (0+3) .i64 fun t7 =>
 ZH ((IntKind.wrap .u64 t7)≠0) <|
 Zc (IntKind.wrap .i64 (Int.tmod r6.1 (IntKind.wrap .u64 t7))) fun t8 =>
 K t8 h1
def YA:Zl0:=Zb0 Zdq Zes
abbrev ZlZ:=(Int × Int × Int × Int × Int × Unit)→Int→(Int→HP)→HP
def Zcs (s:Int × Int × Int × Int × Int × Unit) (at_:Int) (K:Int→HP) (h:Zb):Prop :=
 newC h [.int .i64 s.1,.int .i64 s.2.1,.int .i64 s.2.2.1,.int .i64 s.2.2.2.1,.int .u64 s.2.2.2.2.1] 217 fun b h1 =>
 Zc 0 fun t =>
 ldI h1 b 0 .i64 fun t2 =>
 ldI h1 b (0+1) .i64 fun t3 =>
 ZH (t3≠0) <|
 ZH ((IntKind.wrap .i64 (Int.tdiv t2 t3))≠0) <|
 Zc (IntKind.wrap .i64 (at_ - (Int.tmod at_ (IntKind.wrap .i64 (Int.tdiv t2 t3))))) fun t4 =>
 K t4 h1
def YZ:ZlZ:=Zcs
abbrev ZqW:=(Int × Int × Option Nat × Unit)→(Option Addr)→(Int→HP)→HP
def ZaH (b:Int × Int × Option Nat × Unit) (a1:Option Addr) (K:Int→HP) (h:Zb):Prop :=
 newC h [.int .i64 b.1,.int .i64 b.2.1,.map b.2.2.1] 326 fun b1 h2 =>
 Zc 0 fun t =>
 ldM h2 b1 (0+2) fun t3 =>
 Zd a1 fun b4 o=>ldI h2 b4 o .i64 fun t5=>ldI h2 b4 (o+1) .i64 fun t6 =>
 Zfv [(.int .i64),(.int .i64)] h2 t3 [.int .i64 t5,.int .i64 t6] fun r=>asI (r.getD (.int .i64 0)) .i64 fun t7 =>
 Zc t7 fun t8 =>
 K t8 h2
def XD:ZqW:=ZaH
abbrev ZlY:=Int→Int→(Int→HP)→HP
def ZfB (a:Int) (b:Int) (K:Int→HP) (h:Zb):Prop :=
 Zc 0 fun t =>
 Zw (decide (a>(IntKind.wrap .i64 ((4611686018427387904:Int) - b)))) (
 Zc 4611686018427387904 fun t1 =>
 K t1 h) (
 Zc (IntKind.wrap .i64 (a+b)) fun t2 =>
 K t2 h)
def Zak:ZlY:=ZfB
abbrev ZqV:=(Option Addr)→Int→(Option Addr × Unit)→(Int→HP)→HP
def Yz (f116:ZlZ) (f117:ZqW) (f118:ZlY) (s:Option Addr) (at_:Int) (of:Option Addr × Unit) (K:Int→HP) (h:Zb):Prop :=
 Zc 0 fun t =>
 Zc 0 fun n =>
 Zd s fun b o =>
 ldL h b (o+5) fun t1 =>
 YI (σ:=Int × Int × Unit) (fun J3 s4 h5 =>
 (fun (n2:Int) (s15:Int) =>
 Zw (decide (s15<(t1.len:Int))) (
 Zap t1.ptr t1.len s15 3 fun b6 o7 =>
 ldI h5 b6 o7 .i64 fun t8=>ldI h5 b6 (o7+1) .i64 fun t9=>ldM h5 b6 (o7+2) fun t10 =>
 newC h5 [.int .i64 0,.int .i64 0,.map none] 326 fun b11 h12 =>
 sts h12 b11 0 [.int .i64 t8,.int .i64 t9,.map t10] fun h13 =>
 Zd s fun b14 o15 =>
 Zd s fun b16 o17 =>
 ldI h13 b11 0 .i64 fun t18 =>
 ldI h13 b14 o15 .i64 fun t19=>ldI h13 b14 (o15+1) .i64 fun t20=>ldI h13 b14 (o15+2) .i64 fun t21=>ldI h13 b14 (o15+3) .i64 fun t22=>ldI h13 b14 (o15+4) .u64 fun t23 =>
 ldI h13 b16 o17 .i64 fun t24 =>
 f116 (t19,t20,t21,t22,t23,()) at_ (fun t25 h26 =>
 ZH (Zi h26 [(b16,o17,.int .i64 t24)]) <|
 ZH (Zi h26 [(b11,0,.int .i64 t18)]) <|
 Zw (decide (t18>(IntKind.wrap .i64 (t25 - t24)))) (
 ldI h26 b11 0 .i64 fun t27=>ldI h26 b11 (0+1) .i64 fun t28=>ldM h26 b11 (0+2) fun t29 =>
 f117 (t27,t28,t29,()) of.1 (fun t30 h31 =>
 f118 n2 t30 (fun t32 h33 =>
 Zc t32 fun n34 =>
 J3 (n34,IntKind.wrap .i64 (s15+1),()) h33) h31) h26) (
 J3 (n2,IntKind.wrap .i64 (s15+1),()) h26)) h13) (
 Zc n2 fun t35 =>
 K t35 h5)) s4.1 s4.2.1) (n,0,()) h
def ZW:ZqV:=Yz YZ XD Zak
abbrev ZqU:=(Option Addr)→Int→ByteArray→(Int→HP)→HP
def Zbe (f115:Zl0) (f119:ZqV) (s:Option Addr) (at_:Int) (key:ByteArray) (K:Int→HP) (h:Zb):Prop :=
 Zc 0 fun t =>
 Zc 4611686018427387904 fun least =>
 Zd s fun b o =>
 ldI h b (o+2) .i64 fun t1 =>
 YI (σ:=Int × Int × Unit) (fun J3 s4 h5 =>
 (fun (least2:Int) (s15:Int) =>
 Zw (decide (s15<t1)) (
 Zc s15 fun row =>
 Zd s fun b6 o7 =>
 ldI h5 b6 o7 .i64 fun t8=>ldI h5 b6 (o7+1) .i64 fun t9=>ldI h5 b6 (o7+2) .i64 fun t10=>ldI h5 b6 (o7+3) .i64 fun t11=>ldI h5 b6 (o7+4) .u64 fun t12 =>
 f115 (t8,t9,t10,t11,t12,()) row key (fun t13 h14 =>
 newC h14 [.int .i64 0,.int .i64 0] 328 fun b15 h16 =>
 sts h16 b15 0 [.int .i64 row,.int .i64 t13] fun h17 =>
 f119 s at_ (some ⟨b15,0,none⟩,()) (fun t18 h19 =>
 Zc (Zjf least2 t18) fun least20 =>
 J3 (least20,IntKind.wrap .i64 (s15+1),()) h19) h17) h5) (
 Zc least2 fun t21 =>
 K t21 h5)) s4.1 s4.2.1) (least,0,()) h
def Xe:ZqU:=Zbe YA ZW
abbrev ZqT:=(Option Addr)→Int→ByteArray→(Int→Int→HP)→HP
def Zbf (f112:Zl1) (f120:ZqU) (s:Option Addr) (at_:Int) (key:ByteArray) (K:Int→Int→HP) (h:Zb):Prop :=
 Zc 0 fun t =>
 Zc 0 fun t1 =>
 f112 s at_ (fun t2 h3 =>
 Zc t2 fun e =>
 Zw (e !=0) (
 Zc 0 fun t4 =>
 Zc e fun t5 =>
 K t4 t5 h3) (
 f120 s at_ key (fun t6 h7 =>
 Zc t6 fun t8 =>
 Zc 0 fun t9 =>
 K t8 t9 h7) h3)) h
def X3:ZqT:=Zbf Y0 Xe
abbrev ZqS:=(Option Addr × Unit)→Int→ByteArray→(Int→HP)→HP
def Zdv (f121:ZqT) (v:Option Addr × Unit) (at_:Int) (text:ByteArray) (K:Int→HP) (h:Zb):Prop :=
 newC h [.pointer v.1] 190 fun b h1 =>
 Zc 0 fun t =>
 ldP h1 b 0 fun t2 =>
 f121 t2 at_ text (fun t3 t4 h5 =>
 Zc t3 fun n =>
 Zc t4 fun x =>
 Zc n fun t6 =>
 K t6 h5) h1
def ZaM:ZqS:=Zdv X3
abbrev ZqR:=Unit→Int→ByteArray→(Int→HP)→HP
def ZcZ (a0:Unit) (a1:Int) (a2:ByteArray) (K:Int→HP) (h:Zb):Prop :=
 newC h [] 192 fun b h1 =>
 Zc 0 fun t =>
 Zc 0 fun t2 =>
 K t2 h1
def Zbo:ZqR:=ZcZ
abbrev ZqQ:=(Option Addr)→Int→(Int × Int × Int × Int × Unit)→ByteArray→(Int→HP)→HP
def Zc1 (f111:ZqZ) (f122:ZqS) (f123:ZqR) (f97:Zqi) (s:Option Addr) (at_:Int) (f:Int × Int × Int × Int × Unit) (text:ByteArray) (K:Int→HP) (h:Zb):Prop :=
 newC h [.int .i64 f.1,.int .i64 f.2.1,.int .i64 f.2.2.1,.int .i64 f.2.2.2.1] 46 fun b h1 =>
 Zc 0 fun t =>
 ldI h1 b (0+2) .i64 fun t2 =>
 Zw (t2 !=3) (
 Zd s fun b3 o =>
 ldM h1 b3 (o+3) fun t4 =>
 ldI h1 b 0 .i64 fun t5 =>
 XF (.int .i64) h1 t4 (.int .i64 t5) fun r=>exG (r.getD (.agg #[.nilIface,.int .i64 0])) (fun t6:Value × Int × Unit=> .agg #[t6.1,.int .i64 t6.2.1]) fun t6 =>
 (exG t6.1 (fun rc:Option Addr × Unit=> .iface 184 (.agg #[.pointer rc.1])) fun rc=>f111 rc at_ text (fun t8 h7 =>
 Zc t8 fun t9 =>
 K t9 h7) h1)∨(
 (exG t6.1 (fun rc:Option Addr × Unit=> .iface 190 (.agg #[.pointer rc.1])) fun rc=>f122 rc at_ text (fun t8 h7 =>
 Zc t8 fun t9 =>
 K t9 h7) h1)∨(
 (exG t6.1 (fun rc:Unit=> .iface 192 (.agg #[])) fun rc=>f123 rc at_ text (fun t8 h7 =>
 Zc t8 fun t9 =>
 K t9 h7) h1)∨(
 False)))) (
 Zc 0 fun n =>
 f97 s at_ (fun t10 h11 =>
 YI (σ:=Int × Int × Unit) (fun J13 s14 h15 =>
 (fun (n12:Int) (s30:Int) =>
 Zw (decide (s30<(t10.len:Int))) (
 Zap t10.ptr t10.len s30 4 fun b16 o17 =>
 ldI h15 b16 o17 .i64 fun t18=>ldI h15 b16 (o17+1) .i64 fun t19=>ldI h15 b16 (o17+2) .i64 fun t20=>ldI h15 b16 (o17+3) .i64 fun t21 =>
 newC h15 [.int .i64 0,.int .i64 0,.int .i64 0,.int .i64 0] 167 fun b22 h23 =>
 sts h23 b22 0 [.int .i64 t18,.int .i64 t19,.int .i64 t20,.int .i64 t21] fun h24 =>
 ldI h24 b22 (0+1) .i64 fun t25 =>
 ldI h24 b 0 .i64 fun t26 =>
 Zw (t25 ==t26) (
 ldI h24 b22 (0+2) .i64 fun t27 =>
 Zc (IntKind.wrap .i64 (n12+t27)) fun n28 =>
 J13 (n28,IntKind.wrap .i64 (s30+1),()) h24) (
 J13 (n12,IntKind.wrap .i64 (s30+1),()) h24)) (
 Zc n12 fun t29 =>
 K t29 h15)) s14.1 s14.2.1) (n,0,()) h11) h1)
def Zav:ZqQ:=Zc1 Za5 ZaM Zbo Yv
abbrev ZlX:=(Int × Int × Int × Int × Int × Int × Unit)→(Bool→HP)→HP
def ZeT (c:Int × Int × Int × Int × Int × Int × Unit) (K:Bool→HP) (h:Zb):Prop :=
 newC h [.int .i64 c.1,.int .i64 c.2.1,.int .i64 c.2.2.1,.int .i64 c.2.2.2.1,.int .i64 c.2.2.2.2.1,.int .i64 c.2.2.2.2.2.1] 305 fun b h1 =>
 ldI h1 b 0 .i64 fun t =>
 ldI h1 b (0+1) .i64 fun t2 =>
 ldI h1 b (0+2) .i64 fun t3 =>
 ldI h1 b (0+3) .i64 fun t4 =>
 ldI h1 b (0+4) .i64 fun t5 =>
 ldI h1 b (0+5) .i64 fun t6 =>
 newC h1 [.int .i64 t,.int .i64 t2,.int .i64 t3,.int .i64 t4,.int .i64 t5,.int .i64 t6] 3 fun b7 h8 =>
 YI (σ:=Int × Unit) (fun J9 s h10 =>
 (fun (s19:Int) =>
 Zw (decide (s19<(6:Int))) (
 Zap (some ⟨b7,0,none⟩) 6 s19 1 fun b11 o =>
 ldI h10 b11 o .i64 fun t12 =>
 Zc t12 fun n =>
 Zw (decide (n<0)) (
 K false h10) (
 Zw (decide (n>4611686018427387904)) (
 K false h10) (
 J9 (IntKind.wrap .i64 (s19+1),()) h10))) (
 ldI h10 b (0+3) .i64 fun t13 =>
 ldI h10 b (0+2) .i64 fun t14 =>
 Zw (decide (t13≤t14)) (
 ldI h10 b (0+5) .i64 fun t15 =>
 ldI h10 b (0+4) .i64 fun t16 =>
 Zw (decide (t15≤t16)) (
 ldI h10 b (0+2) .i64 fun t17 =>
 Zw (decide (t17>0)) (
 K true h10) (
 ldI h10 b (0+4) .i64 fun t18 =>
 ZG (t18 ==0) fun t19 =>
 K t19 h10)) (
 K false h10)) (
 K false h10))) s.1) (0,()) h8
def ZaU:ZlX:=ZeT
abbrev ZqP:=Sl→((Int × Int × Int × Int × Int × Int × Unit)→HP)→HP
def Zfy (f125:ZlX) (f109:Zl2) (l:Sl) (K:(Int × Int × Int × Int × Int × Int × Unit)→HP) (h:Zb):Prop :=
 newC h [.int .i64 0,.int .i64 0,.int .i64 0,.int .i64 0,.int .i64 0,.int .i64 0] 305 fun b h1 =>
 newC h1 [.int .i64 0,.int .i64 0,.int .i64 0,.int .i64 0,.int .i64 0,.int .i64 0] 305 fun b2 h3 =>
 YI (σ:=Int × Unit) (fun J4 s h5 =>
 (fun (s8:Int) =>
 Zw (decide (s8<(l.len:Int))) (
 Zap l.ptr l.len s8 6 fun b6 o =>
 ldI h5 b6 o .i64 fun t=>ldI h5 b6 (o+1) .i64 fun t7=>ldI h5 b6 (o+2) .i64 fun t8=>ldI h5 b6 (o+3) .i64 fun t9=>ldI h5 b6 (o+4) .i64 fun t10=>ldI h5 b6 (o+5) .i64 fun t11 =>
 newC h5 [.int .i64 0,.int .i64 0,.int .i64 0,.int .i64 0,.int .i64 0,.int .i64 0] 305 fun b12 h13 =>
 sts h13 b12 0 [.int .i64 t,.int .i64 t7,.int .i64 t8,.int .i64 t9,.int .i64 t10,.int .i64 t11] fun h14 =>
 ldI h14 b12 0 .i64 fun t15=>ldI h14 b12 (0+1) .i64 fun t16=>ldI h14 b12 (0+2) .i64 fun t17=>ldI h14 b12 (0+3) .i64 fun t18=>ldI h14 b12 (0+4) .i64 fun t19=>ldI h14 b12 (0+5) .i64 fun t20 =>
 f125 (t15,t16,t17,t18,t19,t20,()) (fun t21 h22 =>
 Zw t21 (
 ldI h22 b2 0 .i64 fun t23=>ldI h22 b2 (0+1) .i64 fun t24=>ldI h22 b2 (0+2) .i64 fun t25=>ldI h22 b2 (0+3) .i64 fun t26=>ldI h22 b2 (0+4) .i64 fun t27=>ldI h22 b2 (0+5) .i64 fun t28 =>
 ldI h22 b12 0 .i64 fun t29=>ldI h22 b12 (0+1) .i64 fun t30=>ldI h22 b12 (0+2) .i64 fun t31=>ldI h22 b12 (0+3) .i64 fun t32=>ldI h22 b12 (0+4) .i64 fun t33=>ldI h22 b12 (0+5) .i64 fun t34 =>
 f109 (t23,t24,t25,t26,t27,t28,()) (t29,t30,t31,t32,t33,t34,()) (fun t35 h36 =>
 sts h36 b2 0 [.int .i64 t35.1,.int .i64 t35.2.1,.int .i64 t35.2.2.1,.int .i64 t35.2.2.2.1,.int .i64 t35.2.2.2.2.1,.int .i64 t35.2.2.2.2.2.1] fun h37 =>
 J4 (IntKind.wrap .i64 (s8+1),()) h37) h22) (
 J4 (IntKind.wrap .i64 (s8+1),()) h22)) h14) (
 ldI h5 b2 0 .i64 fun t38=>ldI h5 b2 (0+1) .i64 fun t39=>ldI h5 b2 (0+2) .i64 fun t40=>ldI h5 b2 (0+3) .i64 fun t41=>ldI h5 b2 (0+4) .i64 fun t42=>ldI h5 b2 (0+5) .i64 fun t43 =>
 sts h5 b 0 [.int .i64 t38,.int .i64 t39,.int .i64 t40,.int .i64 t41,.int .i64 t42,.int .i64 t43] fun h44 =>
 ldI h44 b 0 .i64 fun t45=>ldI h44 b (0+1) .i64 fun t46=>ldI h44 b (0+2) .i64 fun t47=>ldI h44 b (0+3) .i64 fun t48=>ldI h44 b (0+4) .i64 fun t49=>ldI h44 b (0+5) .i64 fun t50=>K (t45,t46,t47,t48,t49,t50,()) h44)) s.1) (0,()) h3
def Zdo:ZqP:=Zfy ZaU ZbS
abbrev ZqO:=(Option Addr)→Int→Sl→(Int→HP)→HP
def ZcY (f104:Zl3) (f125:ZlX) (f106:Znn) (f126:ZqP) (w:Option Addr) (at_:Int) (l:Sl) (K:Int→HP) (h:Zb):Prop :=
 Zc 0 fun t =>
 f104 w at_ (fun t1 h2 =>
 Zc t1 fun err =>
 Zw (err !=0) (
 Zc err fun t3 =>
 K t3 h2) (
 YI (σ:=Int × Unit) (fun J4 s h5 =>
 (fun (s21:Int) =>
 Zw (decide (s21<(l.len:Int))) (
 Zap l.ptr l.len s21 6 fun b o =>
 ldI h5 b o .i64 fun t6=>ldI h5 b (o+1) .i64 fun t7=>ldI h5 b (o+2) .i64 fun t8=>ldI h5 b (o+3) .i64 fun t9=>ldI h5 b (o+4) .i64 fun t10=>ldI h5 b (o+5) .i64 fun t11 =>
 newC h5 [.int .i64 0,.int .i64 0,.int .i64 0,.int .i64 0,.int .i64 0,.int .i64 0] 305 fun b12 h13 =>
 sts h13 b12 0 [.int .i64 t6,.int .i64 t7,.int .i64 t8,.int .i64 t9,.int .i64 t10,.int .i64 t11] fun h14 =>
 ldI h14 b12 0 .i64 fun t15=>ldI h14 b12 (0+1) .i64 fun t16=>ldI h14 b12 (0+2) .i64 fun t17=>ldI h14 b12 (0+3) .i64 fun t18=>ldI h14 b12 (0+4) .i64 fun t19=>ldI h14 b12 (0+5) .i64 fun t20 =>
 f125 (t15,t16,t17,t18,t19,t20,()) (fun t21 h22 =>
 Zw (!t21) (
 Zc 6 fun t23 =>
 K t23 h22) (
 J4 (IntKind.wrap .i64 (s21+1),()) h22)) h14) (
 Zd w fun b24 o25 =>
 st h5 b24 (o25+2) (.int .i64 at_) fun h26 =>
 f106 w at_ (fun t27 h28 =>
 Zc t27 fun k =>
 Zg5 (σ:=Unit) (fun s59 h60 =>
 Zd w fun b61 o62 =>
 ldM h60 b61 (o62+3) fun t63 =>
 rgM h60 t63 fun it h64 =>
 YI (σ:=Unit) (fun J65 s66 h67 =>
 Zg5 (σ:=Bool × Unit) (fun s70 h71 =>
 (fun (s61:Bool) =>
 Zw s61 (
 ZAl h71 it fun k72 v=>asI k72 .i64 fun t73=>exG v (fun t74:Int × Int × Int × Int × Int × Int × Unit=> .agg #[.int .i64 t74.1,.int .i64 t74.2.1,.int .i64 t74.2.2.1,.int .i64 t74.2.2.2.1,.int .i64 t74.2.2.2.2.1,.int .i64 t74.2.2.2.2.2.1]) fun t74 =>
 Zc t73 fun old =>
 Zd w fun b75 o76 =>
 ldI h71 b75 (o76+1) .i64 fun t77 =>
 Zw (decide (old≤(IntKind.wrap .i64 (k - t77)))) (
 Zd w fun b78 o79 =>
 ldM h71 b78 (o79+3) fun t80 =>
 Zgb (.int .i64) h71 t80 (.int .i64 old) fun h81 =>
 J65 (()) h81) (
 J65 (()) h71)) (
 Zc 0 fun t82 =>
 K t82 h71)) s70.1) (fun J68 =>
 Zt4 h67 it (fun _ _ h69 =>
 J68 (true,()) h69) (
 J68 (false,()) h67))) (()) h64) (fun J29 =>
 Zd w fun b30 o31 =>
 ldM h28 b30 (o31+3) fun t32 =>
 XF (.int .i64) h28 t32 (.int .i64 k) fun r=>exG (r.getD (.agg #[.int .i64 0,.int .i64 0,.int .i64 0,.int .i64 0,.int .i64 0,.int .i64 0])) (fun t33:Int × Int × Int × Int × Int × Int × Unit=> .agg #[.int .i64 t33.1,.int .i64 t33.2.1,.int .i64 t33.2.2.1,.int .i64 t33.2.2.2.1,.int .i64 t33.2.2.2.2.1,.int .i64 t33.2.2.2.2.2.1]) fun t33 =>
 newC h28 [.int .i64 t33.1,.int .i64 t33.2.1,.int .i64 t33.2.2.1,.int .i64 t33.2.2.2.1,.int .i64 t33.2.2.2.2.1,.int .i64 t33.2.2.2.2.2.1] 305 fun b34 h35 =>
 rdS l 6 h35 fun new=>app 305 6 48 [.int .i64 0,.int .i64 0,.int .i64 0,.int .i64 0,.int .i64 0,.int .i64 0] ⟨some ⟨b34,0,none⟩,1,1⟩ l.len new h35 fun t36 h37 =>
 f126 t36 (fun t38 h39 =>
 newC h39 [.int .i64 0,.int .i64 0,.int .i64 0,.int .i64 0,.int .i64 0,.int .i64 0] 305 fun b40 h41 =>
 sts h41 b40 0 [.int .i64 t38.1,.int .i64 t38.2.1,.int .i64 t38.2.2.1,.int .i64 t38.2.2.2.1,.int .i64 t38.2.2.2.2.1,.int .i64 t38.2.2.2.2.2.1] fun h42 =>
 ldI h42 b40 0 .i64 fun t43=>ldI h42 b40 (0+1) .i64 fun t44=>ldI h42 b40 (0+2) .i64 fun t45=>ldI h42 b40 (0+3) .i64 fun t46=>ldI h42 b40 (0+4) .i64 fun t47=>ldI h42 b40 (0+5) .i64 fun t48 =>
 Zw (!(bif t43 ==0 then (bif t44 ==0 then (bif t45 ==0 then (bif t46 ==0 then (bif t47 ==0 then (bif t48 ==0 then true else false) else false) else false) else false) else false) else false)) (
 Zd w fun b49 o50 =>
 ldM h42 b49 (o50+3) fun t51 =>
 ldI h42 b40 0 .i64 fun t52=>ldI h42 b40 (0+1) .i64 fun t53=>ldI h42 b40 (0+2) .i64 fun t54=>ldI h42 b40 (0+3) .i64 fun t55=>ldI h42 b40 (0+4) .i64 fun t56=>ldI h42 b40 (0+5) .i64 fun t57 =>
 X9 (.int .i64) h42 t51 (.int .i64 k) (.agg #[.int .i64 t52,.int .i64 t53,.int .i64 t54,.int .i64 t55,.int .i64 t56,.int .i64 t57]) fun h58 =>
 J29 (()) h58) (
 J29 (()) h42)) h37)) h26)) s.1) (0,()) h2)) h
def Zau:ZqO:=ZcY YO ZaU Yt Zdo
abbrev ZqN:=(Option Addr × Unit)→Int→ByteArray→Int→(HP)→HP
def ZdO (f127:ZqO) (r:Option Addr × Unit) (at_:Int) (x:ByteArray) (n:Int) (K:HP) (h:Zb):Prop :=
 newC h [.pointer r.1] 184 fun b h1 =>
 ldP h1 b 0 fun t =>
 newC h1 [.int .i64 n,.int .i64 0,.int .i64 0,.int .i64 0,.int .i64 0,.int .i64 0] 305 fun b2 h3 =>
 f127 t at_ ⟨some ⟨b2,0,none⟩,1,1⟩ (fun t4 h5 =>
 K h5) h3
def Za6:ZqN:=ZdO Zau
abbrev ZlW:=(Int × Int × Option Nat × Unit)→(Option Addr)→(Option Addr)→(Bool→HP)→HP
def Zb1 (b:Int × Int × Option Nat × Unit) (a1:Option Addr) (a2:Option Addr) (K:Bool→HP) (h:Zb):Prop :=
 newC h [.int .i64 b.1,.int .i64 b.2.1,.map b.2.2.1] 326 fun b1 h2 =>
 ldI h2 b1 0 .i64 fun t =>
 Zd a1 fun b3 o=>ldI h2 b3 o .i64 fun t4 =>
 Zd a2 fun b5 o6=>ldP h2 b5 o6 fun t7 =>
 Zd t7 fun b8 o9 =>
 ldI h2 b8 o9 .i64 fun t10 =>
 ZG (decide (t≤(IntKind.wrap .i64 (t4 - t10)))) fun t11 =>
 K t11 h2
def Yn:ZlW:=Zb1
abbrev ZqM:=Sl→(Option Addr × Option Addr × Unit)→(Int→HP)→HP
def ZV (f129:ZlW) (s:Sl) (f:Option Addr × Option Addr × Unit) (K:Int→HP) (h:Zb):Prop :=
 Zc 0 fun t =>
 YI (σ:=Int × Unit) (fun J1 s2 h3 =>
 (fun (s8:Int) =>
 Zw (decide (s8<(s.len:Int))) (
 Zc s8 fun i =>
 Zap s.ptr s.len i 3 fun b o =>
 ldI h3 b o .i64 fun t4=>ldI h3 b (o+1) .i64 fun t5=>ldM h3 b (o+2) fun t6 =>
 f129 (t4,t5,t6,()) f.1 f.2.1 (fun t7 h8 =>
 Zw t7 (
 Zc i fun t9 =>
 K t9 h8) (
 J1 (IntKind.wrap .i64 (s8+1),()) h8)) h3) (
 Zc (-1) fun t10 =>
 K t10 h3)) s2.1) (0,()) h
def ZA:ZqM:=ZV Yn
abbrev ZqL:=Sl→(Option Addr × Option Addr × Unit)→(Sl→HP)→HP
def ZT (f130:ZqM) (f129:ZlW) (s:Sl) (del:Option Addr × Option Addr × Unit) (K:Sl→HP) (h:Zb):Prop :=
 f130 s (del.1,del.2.1,()) (fun t h1 =>
 Zc t fun i =>
 Zw (i ==(-1)) (
 K s h1) (
 Zc (IntKind.wrap .i64 (i+1)) fun j =>
 YI (σ:=Int × Int × Unit) (fun J4 s5 h6 =>
 (fun (i2:Int) (j3:Int) =>
 Zw (decide (j3<(s.len:Int))) (
 Zap s.ptr s.len j3 3 fun b o =>
 ldI h6 b o .i64 fun t7=>ldI h6 b (o+1) .i64 fun t8=>ldM h6 b (o+2) fun t9 =>
 newC h6 [.int .i64 0,.int .i64 0,.map none] 326 fun b10 h11 =>
 sts h11 b10 0 [.int .i64 t7,.int .i64 t8,.map t9] fun h12 =>
 ldI h12 b10 0 .i64 fun t13=>ldI h12 b10 (0+1) .i64 fun t14=>ldM h12 b10 (0+2) fun t15 =>
 f129 (t13,t14,t15,()) del.1 del.2.1 (fun t16 h17 =>
 Zw (!t16) (
 ldI h17 b10 0 .i64 fun t18=>ldI h17 b10 (0+1) .i64 fun t19=>ldM h17 b10 (0+2) fun t20 =>
 Zap s.ptr s.len i2 3 fun b21 o22 =>
 sts h17 b21 o22 [.int .i64 t18,.int .i64 t19,.map t20] fun h23 =>
 Zc (IntKind.wrap .i64 (i2+1)) fun i24 =>
 Zc (IntKind.wrap .i64 (j3+1)) fun j25 =>
 J4 (i24,j25,()) h23) (
 Zc (IntKind.wrap .i64 (j3+1)) fun j26 =>
 J4 (i2,j26,()) h17)) h12) (
 slc s.ptr s.cap 3 i2 s.len s.cap fun t27 =>
 ZsF t27 [.int .i64 0,.int .i64 0,.map none] h6 fun h28 =>
 slc s.ptr s.cap 3 0 i2 s.cap fun t29 =>
 K t29 h28)) s5.1 s5.2.1) (i,j,()) h1)) h
def Zy:ZqL:=ZT ZA Yn
abbrev ZqK:=(Option Addr)→Int→ByteArray→Sl→(Int→HP)→HP
def Zc8 (f112:Zl1) (f116:ZlZ) (f131:ZqL) (f118:ZlY) (f115:Zl0) (s:Option Addr) (at_:Int) (key:ByteArray) (n:Sl) (K:Int→HP) (h:Zb):Prop :=
 newC h [.pointer s] 185 fun b h1 =>
 Zc 0 fun t =>
 ldP h1 b 0 fun t2 =>
 f112 t2 at_ (fun t3 h4 =>
 Zc t3 fun e =>
 Zw (e ==1) (
 Zc e fun t5 =>
 K t5 h4) (
 Zw (e ==2) (
 Zc e fun t6 =>
 K t6 h4) (
 YI (σ:=Int × Unit) (fun J7 s8 h9 =>
 (fun (s31:Int) =>
 Zw (decide (s31<(n.len:Int))) (
 Zap n.ptr n.len s31 1 fun b10 o =>
 ldI h9 b10 o .i64 fun t11 =>
 Zc t11 fun x =>
 Zw (decide (x<0)) (
 Zc 2 fun t12 =>
 K t12 h9) (
 Zw (decide (x>1099511627776)) (
 Zc 2 fun t13 =>
 K t13 h9) (
 J7 (IntKind.wrap .i64 (s31+1),()) h9))) (
 Zw (e !=0) (
 Zc e fun t14 =>
 K t14 h9) (
 ldP h9 b 0 fun t15 =>
 Zd t15 fun b16 o17 =>
 st h9 b16 (o17+6) (.int .i64 at_) fun h18 =>
 ldP h18 b 0 fun t19 =>
 Zd t19 fun b20 o21 =>
 ldI h18 b20 o21 .i64 fun t22=>ldI h18 b20 (o21+1) .i64 fun t23=>ldI h18 b20 (o21+2) .i64 fun t24=>ldI h18 b20 (o21+3) .i64 fun t25=>ldI h18 b20 (o21+4) .u64 fun t26 =>
 f116 (t22,t23,t24,t25,t26,()) at_ (fun t27 h28 =>
 newC h28 [.int .i64 0] 3 fun b29 h30 =>
 st h30 b29 0 (.int .i64 t27) fun h31 =>
 ldP h31 b 0 fun t32 =>
 ldP h31 b 0 fun t33 =>
 Zd t33 fun b34 o35 =>
 ldL h31 b34 (o35+5) fun t36 =>
 f131 t36 (some ⟨b29,0,none⟩,some ⟨b,0,none⟩,()) (fun t37 h38 =>
 ZH (Zi h38 [(b,0,.pointer t33)]) <|
 ZH (Zi h38 [(b,0,.pointer t32)]) <|
 Zd t32 fun b39 o40 =>
 st h38 b39 (o40+5) (.slice t37.ptr t37.len t37.cap) fun h41 =>
 Zg5 (σ:=Unit) (fun s86 h87 =>
 ldP h87 b 0 fun t88 =>
 Zd t88 fun b89 o90 =>
 ldL h87 b89 (o90+5) fun t91 =>
 ldP h87 b 0 fun t92 =>
 Zd t92 fun b93 o94 =>
 ldL h87 b93 (o94+5) fun t95 =>
 Zap t91.ptr t91.len (IntKind.wrap .i64 ((t95.len:Int) - 1)) 3 fun b96 o97 =>
 YI (σ:=Int × Unit) (fun J98 s99 h100 =>
 (fun (s109:Int) =>
 Zw (decide (s109<(n.len:Int))) (
 Zap n.ptr n.len s109 1 fun b101 o102 =>
 ldI h100 b101 o102 .i64 fun t103 =>
 Zc t103 fun x104 =>
 ldI h100 b96 (o97+1) .i64 fun t105 =>
 f118 t105 x104 (fun t106 h107 =>
 st h107 b96 (o97+1) (.int .i64 t106) fun h108 =>
 ldP h108 b 0 fun t109 =>
 Zd t109 fun b110 o111 =>
 ldI h108 b110 (o111+2) .i64 fun t112 =>
 YI (σ:=Int × Unit) (fun J113 s114 h115 =>
 (fun (s127:Int) =>
 Zw (decide (s127<t112)) (
 Zc s127 fun row =>
 ldP h115 b 0 fun t116 =>
 Zd t116 fun b117 o118 =>
 ldI h115 b117 o118 .i64 fun t119=>ldI h115 b117 (o118+1) .i64 fun t120=>ldI h115 b117 (o118+2) .i64 fun t121=>ldI h115 b117 (o118+3) .i64 fun t122=>ldI h115 b117 (o118+4) .u64 fun t123 =>
 f115 (t119,t120,t121,t122,t123,()) row key (fun t124 h125 =>
 newC h125 [.int .i64 0,.int .i64 0] 328 fun b126 h127 =>
 sts h127 b126 0 [.int .i64 row,.int .i64 t124] fun h128 =>
 ldM h128 b96 (o97+2) fun t129 =>
 ldI h128 b126 0 .i64 fun t130=>ldI h128 b126 (0+1) .i64 fun t131 =>
 ldM h128 b96 (o97+2) fun t132 =>
 ldI h128 b126 0 .i64 fun t133=>ldI h128 b126 (0+1) .i64 fun t134 =>
 Zfv [(.int .i64),(.int .i64)] h128 t132 [.int .i64 t133,.int .i64 t134] fun r=>asI (r.getD (.int .i64 0)) .i64 fun t135 =>
 ZH (Zi h128 [(b126,0,.int .i64 t130),(b126,0+1,.int .i64 t131)]) <|
 ZH (Zi h128 [(b96,o97+2,.map t129)]) <|
 f118 t135 x104 (fun t136 h137 =>
 ZH (Zi h137 [(b126,0,.int .i64 t130),(b126,0+1,.int .i64 t131)]) <|
 ZH (Zi h137 [(b96,o97+2,.map t129)]) <|
 Zfu [(.int .i64),(.int .i64)] h137 t129 [.int .i64 t130,.int .i64 t131] (.int .i64 t136) fun h138 =>
 J113 (IntKind.wrap .i64 (s127+1),()) h138) h128) h115) (
 J98 (IntKind.wrap .i64 (s109+1),()) h115)) s114.1) (0,()) h108) h100) (
 Zc 0 fun t139 =>
 K t139 h100)) s99.1) (0,()) h87) (fun J42 =>
 ldP h41 b 0 fun t43 =>
 Zd t43 fun b44 o45 =>
 ldL h41 b44 (o45+5) fun t46 =>
 Zc (t46.len:Int) fun k =>
 Zw (k ==0) (
 ldP h41 b 0 fun t47 =>
 ldP h41 b 0 fun t48 =>
 Zd t48 fun b49 o50 =>
 ldL h41 b49 (o50+5) fun t51 =>
 ldI h41 b29 0 .i64 fun t52 =>
 Zci h41 fun b53 h54 =>
 ZH (Zi h54 [(b29,0,.int .i64 t52)]) <|
 ZH (Zi h54 [(b49,o50+5,.slice t51.ptr t51.len t51.cap)]) <|
 ZH (Zi h54 [(b,0,.pointer t48)]) <|
 ZH (Zi h54 [(b,0,.pointer t47)]) <|
 newC h54 [.int .i64 t52,.int .i64 0,.map (some b53)] 326 fun b55 h56 =>
 ZH (Zi h56 [(b29,0,.int .i64 t52)]) <|
 ZH (Zi h56 [(b49,o50+5,.slice t51.ptr t51.len t51.cap)]) <|
 ZH (Zi h56 [(b,0,.pointer t48)]) <|
 ZH (Zi h56 [(b,0,.pointer t47)]) <|
 rdS ⟨some ⟨b55,0,none⟩,1,1⟩ 3 h56 fun new=>app 326 3 24 [.int .i64 0,.int .i64 0,.map none] t51 1 new h56 fun t57 h58 =>
 ZH (Zi h58 [(b29,0,.int .i64 t52)]) <|
 ZH (Zi h58 [(b,0,.pointer t48)]) <|
 ZH (Zi h58 [(b,0,.pointer t47)]) <|
 Zd t47 fun b59 o60 =>
 st h58 b59 (o60+5) (.slice t57.ptr t57.len t57.cap) fun h61 =>
 J42 (()) h61) (
 ldP h41 b 0 fun t62 =>
 Zd t62 fun b63 o64 =>
 ldL h41 b63 (o64+5) fun t65 =>
 Zap t65.ptr t65.len (IntKind.wrap .i64 (k - 1)) 3 fun b66 o67 =>
 ldI h41 b66 o67 .i64 fun t68 =>
 ldI h41 b29 0 .i64 fun t69 =>
 Zw (t68 !=t69) (
 ldP h41 b 0 fun t70 =>
 ldP h41 b 0 fun t71 =>
 Zd t71 fun b72 o73 =>
 ldL h41 b72 (o73+5) fun t74 =>
 ldI h41 b29 0 .i64 fun t75 =>
 Zci h41 fun b76 h77 =>
 ZH (Zi h77 [(b29,0,.int .i64 t75)]) <|
 ZH (Zi h77 [(b72,o73+5,.slice t74.ptr t74.len t74.cap)]) <|
 ZH (Zi h77 [(b,0,.pointer t71)]) <|
 ZH (Zi h77 [(b,0,.pointer t70)]) <|
 newC h77 [.int .i64 t75,.int .i64 0,.map (some b76)] 326 fun b78 h79 =>
 ZH (Zi h79 [(b29,0,.int .i64 t75)]) <|
 ZH (Zi h79 [(b72,o73+5,.slice t74.ptr t74.len t74.cap)]) <|
 ZH (Zi h79 [(b,0,.pointer t71)]) <|
 ZH (Zi h79 [(b,0,.pointer t70)]) <|
 rdS ⟨some ⟨b78,0,none⟩,1,1⟩ 3 h79 fun new82=>app 326 3 24 [.int .i64 0,.int .i64 0,.map none] t74 1 new82 h79 fun t80 h81 =>
 ZH (Zi h81 [(b29,0,.int .i64 t75)]) <|
 ZH (Zi h81 [(b,0,.pointer t71)]) <|
 ZH (Zi h81 [(b,0,.pointer t70)]) <|
 Zd t70 fun b83 o84 =>
 st h81 b83 (o84+5) (.slice t80.ptr t80.len t80.cap) fun h85 =>
 J42 (()) h85) (
 J42 (()) h41)))) h31) h18))) s8.1) (0,()) h4))) h1
def Zaz:ZqK:=Zc8 Y0 YZ Zy Zak YA
abbrev ZqJ:=(Option Addr × Unit)→Int→ByteArray→Int→(HP)→HP
def Zdw (f132:ZqK) (v:Option Addr × Unit) (at_:Int) (text:ByteArray) (n:Int) (K:HP) (h:Zb):Prop :=
 newC h [.pointer v.1] 190 fun b h1 =>
 ldP h1 b 0 fun t =>
 newC h1 [.int .i64 n] 3 fun b2 h3 =>
 f132 t at_ text ⟨some ⟨b2,0,none⟩,1,1⟩ (fun t4 h5 =>
 K h5) h3
def ZaN:ZqJ:=Zdw Zaz
abbrev ZqI:=Unit→Int→ByteArray→Int→(HP)→HP
def Zc0 (a0:Unit) (a1:Int) (a2:ByteArray) (a3:Int) (K:HP) (h:Zb):Prop :=
 newC h [] 192 fun b h1 =>
 K h1
def Zbp:ZqI:=Zc0
abbrev ZqH:=(Option Addr)→Int→(Int × Int × Int × Int × Unit)→(Int × Int × Int × Int × ByteArray × Int × Unit)→((Int × Int × Int × Int × Int × Unit)→HP)→HP
def Zco (f124:ZqQ) (f128:ZqN) (f133:ZqJ) (f134:ZqI) (f97:Zqi) (s:Option Addr) (at_:Int) (f:Int × Int × Int × Int × Unit) (r:Int × Int × Int × Int × ByteArray × Int × Unit) (K:(Int × Int × Int × Int × Int × Unit)→HP) (h:Zb):Prop :=
 newC h [.int .i64 f.1,.int .i64 f.2.1,.int .i64 f.2.2.1,.int .i64 f.2.2.2.1] 46 fun b h1 =>
 newC h1 [.int .i64 r.1,.int .u8 r.2.1,.int .i64 r.2.2.1,.int .i64 r.2.2.2.1,.string r.2.2.2.2.1,.int .i64 r.2.2.2.2.2.1] 39 fun b2 h3 =>
 newC h3 [.int .i64 0,.int .u8 0,.int .i64 0,.int .i64 0,.int .i64 0] 57 fun b4 h5 =>
 ldI h5 b 0 .i64 fun t=>ldI h5 b (0+1) .i64 fun t6=>ldI h5 b (0+2) .i64 fun t7=>ldI h5 b (0+3) .i64 fun t8 =>
 ldS h5 b2 (0+4) fun t9 =>
 f124 s at_ (t,t6,t7,t8,()) t9 (fun t10 h11 =>
 Zc t10 fun used =>
 ldI h11 b (0+1) .i64 fun t12 =>
 ldI h11 b2 (0+3) .i64 fun t13 =>
 Zw (decide (used>(IntKind.wrap .i64 (t12 - t13)))) (
 ldI h11 b (0+1) .i64 fun t14 =>
 sts h11 b4 0 [.int .i64 0,.int .u8 2,.int .i64 (Zqf (IntKind.wrap .i64 (t14 - used)) 0),.int .i64 0,.int .i64 0] fun h15 =>
 ldI h15 b4 0 .i64 fun t16=>ldI h15 b4 (0+1) .u8 fun t17=>ldI h15 b4 (0+2) .i64 fun t18=>ldI h15 b4 (0+3) .i64 fun t19=>ldI h15 b4 (0+4) .i64 fun t20=>K (t16,t17,t18,t19,t20,()) h15) (
 ldI h11 b (0+1) .i64 fun t21 =>
 ldI h11 b2 (0+3) .i64 fun t22 =>
 newC h11 [.int .i64 0,.int .u8 0,.int .i64 0,.int .i64 0,.int .i64 0] 57 fun b23 h24 =>
 sts h24 b23 0 [.int .i64 0,.int .u8 1,.int .i64 (IntKind.wrap .i64 ((IntKind.wrap .i64 (t21 - used)) - t22)),.int .i64 0,.int .i64 0] fun h25 =>
 ldI h25 b (0+2) .i64 fun t26 =>
 Zw (t26 !=3) (
 Zd s fun b27 o =>
 ldM h25 b27 (o+3) fun t28 =>
 ldI h25 b 0 .i64 fun t29 =>
 ldS h25 b2 (0+4) fun t30 =>
 ldI h25 b2 (0+3) .i64 fun t31 =>
 XF (.int .i64) h25 t28 (.int .i64 t29) fun r32=>exG (r32.getD (.agg #[.nilIface,.int .i64 0])) (fun t33:Value × Int × Unit=> .agg #[t33.1,.int .i64 t33.2.1]) fun t33 =>
 ZH (Zi h25 [(b2,0+3,.int .i64 t31)]) <|
 ZH (Zi h25 [(b2,0+4,.string t30)]) <|
 (exG t33.1 (fun rc:Option Addr × Unit=> .iface 184 (.agg #[.pointer rc.1])) fun rc=>f128 rc at_ t30 t31 (fun h34 =>
 ldI h34 b23 0 .i64 fun t35=>ldI h34 b23 (0+1) .u8 fun t36=>ldI h34 b23 (0+2) .i64 fun t37=>ldI h34 b23 (0+3) .i64 fun t38=>ldI h34 b23 (0+4) .i64 fun t39 =>
 sts h34 b4 0 [.int .i64 t35,.int .u8 t36,.int .i64 t37,.int .i64 t38,.int .i64 t39] fun h40 =>
 ldI h40 b4 0 .i64 fun t41=>ldI h40 b4 (0+1) .u8 fun t42=>ldI h40 b4 (0+2) .i64 fun t43=>ldI h40 b4 (0+3) .i64 fun t44=>ldI h40 b4 (0+4) .i64 fun t45=>K (t41,t42,t43,t44,t45,()) h40) h25)∨(
 (exG t33.1 (fun rc:Option Addr × Unit=> .iface 190 (.agg #[.pointer rc.1])) fun rc=>f133 rc at_ t30 t31 (fun h34 =>
 ldI h34 b23 0 .i64 fun t35=>ldI h34 b23 (0+1) .u8 fun t36=>ldI h34 b23 (0+2) .i64 fun t37=>ldI h34 b23 (0+3) .i64 fun t38=>ldI h34 b23 (0+4) .i64 fun t39 =>
 sts h34 b4 0 [.int .i64 t35,.int .u8 t36,.int .i64 t37,.int .i64 t38,.int .i64 t39] fun h40 =>
 ldI h40 b4 0 .i64 fun t41=>ldI h40 b4 (0+1) .u8 fun t42=>ldI h40 b4 (0+2) .i64 fun t43=>ldI h40 b4 (0+3) .i64 fun t44=>ldI h40 b4 (0+4) .i64 fun t45=>K (t41,t42,t43,t44,t45,()) h40) h25)∨(
 (exG t33.1 (fun rc:Unit=> .iface 192 (.agg #[])) fun rc=>f134 rc at_ t30 t31 (fun h34 =>
 ldI h34 b23 0 .i64 fun t35=>ldI h34 b23 (0+1) .u8 fun t36=>ldI h34 b23 (0+2) .i64 fun t37=>ldI h34 b23 (0+3) .i64 fun t38=>ldI h34 b23 (0+4) .i64 fun t39 =>
 sts h34 b4 0 [.int .i64 t35,.int .u8 t36,.int .i64 t37,.int .i64 t38,.int .i64 t39] fun h40 =>
 ldI h40 b4 0 .i64 fun t41=>ldI h40 b4 (0+1) .u8 fun t42=>ldI h40 b4 (0+2) .i64 fun t43=>ldI h40 b4 (0+3) .i64 fun t44=>ldI h40 b4 (0+4) .i64 fun t45=>K (t41,t42,t43,t44,t45,()) h40) h25)∨(
 False)))) (
 f97 s at_ (fun t46 h47 =>
 Zd s fun b48 o49 =>
 st h47 b48 (o49+5) (.slice t46.ptr t46.len t46.cap) fun h50 =>
 Zd s fun b51 o52 =>
 ldL h50 b51 (o52+5) fun t53 =>
 Zw (decide ((t53.len:Int)≥1024)) (
 sts h50 b4 0 [.int .i64 0,.int .u8 6,.int .i64 0,.int .i64 0,.int .i64 0] fun h54 =>
 ldI h54 b4 0 .i64 fun t55=>ldI h54 b4 (0+1) .u8 fun t56=>ldI h54 b4 (0+2) .i64 fun t57=>ldI h54 b4 (0+3) .i64 fun t58=>ldI h54 b4 (0+4) .i64 fun t59=>K (t55,t56,t57,t58,t59,()) h54) (
 Zd s fun b60 o61 =>
 ldI h50 b60 (o61+6) .i64 fun t62 =>
 ldI h50 b (0+3) .i64 fun t63 =>
 st h50 b23 (0+4) (.int .i64 t62) fun h64 =>
 ZH (Zi h64 [(b,0+3,.int .i64 t63)]) <|
 st h64 b23 (0+3) (.int .i64 t63) fun h65 =>
 Zd s fun b66 o67 =>
 Zd s fun b68 o69 =>
 ldL h65 b66 (o67+5) fun t70 =>
 ldI h65 b68 (o69+6) .i64 fun t71 =>
 ldI h65 b 0 .i64 fun t72 =>
 ldI h65 b2 (0+3) .i64 fun t73 =>
 ldI h65 b (0+3) .i64 fun t74 =>
 newC h65 [.int .i64 t71,.int .i64 t72,.int .i64 t73,.int .i64 (IntKind.wrap .i64 (at_+t74))] 167 fun b75 h76 =>
 ZH (Zi h76 [(b,0+3,.int .i64 t74)]) <|
 ZH (Zi h76 [(b2,0+3,.int .i64 t73)]) <|
 ZH (Zi h76 [(b,0,.int .i64 t72)]) <|
 ZH (Zi h76 [(b68,o69+6,.int .i64 t71)]) <|
 ZH (Zi h76 [(b66,o67+5,.slice t70.ptr t70.len t70.cap)]) <|
 rdS ⟨some ⟨b75,0,none⟩,1,1⟩ 4 h76 fun new=>app 167 4 32 [.int .i64 0,.int .i64 0,.int .i64 0,.int .i64 0] t70 1 new h76 fun t77 h78 =>
 ZH (Zi h78 [(b,0+3,.int .i64 t74)]) <|
 ZH (Zi h78 [(b2,0+3,.int .i64 t73)]) <|
 ZH (Zi h78 [(b,0,.int .i64 t72)]) <|
 ZH (Zi h78 [(b68,o69+6,.int .i64 t71)]) <|
 Zd s fun b79 o80 =>
 st h78 b79 (o80+5) (.slice t77.ptr t77.len t77.cap) fun h81 =>
 Zd s fun b82 o83 =>
 ldI h81 b82 (o83+6) .i64 fun t84 =>
 Zd s fun b85 o86 =>
 st h81 b85 (o86+6) (.int .i64 (IntKind.wrap .i64 (t84+1))) fun h87 =>
 ldI h87 b23 0 .i64 fun t88=>ldI h87 b23 (0+1) .u8 fun t89=>ldI h87 b23 (0+2) .i64 fun t90=>ldI h87 b23 (0+3) .i64 fun t91=>ldI h87 b23 (0+4) .i64 fun t92 =>
 sts h87 b4 0 [.int .i64 t88,.int .u8 t89,.int .i64 t90,.int .i64 t91,.int .i64 t92] fun h93 =>
 ldI h93 b4 0 .i64 fun t94=>ldI h93 b4 (0+1) .u8 fun t95=>ldI h93 b4 (0+2) .i64 fun t96=>ldI h93 b4 (0+3) .i64 fun t97=>ldI h93 b4 (0+4) .i64 fun t98=>K (t94,t95,t96,t97,t98,()) h93)) h25))) h5
def Zac:ZqH:=Zco Zav Za6 ZaN Zbp Yv
abbrev ZqG:=(Option Addr)→Int→Int→(Int × Int × Int × Int × ByteArray × Int × Unit)→((Int × Int × Int × Int × Int × Unit)→HP)→HP
def ZbX (f10:Zl5) (f31:Zqk) (f102:Zq5) (f100:Zl4) (f103:Zq4) (f135:ZqH) (s:Option Addr) (at_:Int) (conn:Int) (r:Int × Int × Int × Int × ByteArray × Int × Unit) (K:(Int × Int × Int × Int × Int × Unit)→HP) (h:Zb):Prop :=
 newC h [.int .i64 r.1,.int .u8 r.2.1,.int .i64 r.2.2.1,.int .i64 r.2.2.2.1,.string r.2.2.2.2.1,.int .i64 r.2.2.2.2.2.1] 39 fun b h1 =>
 newC h1 [.int .i64 0,.int .u8 0,.int .i64 0,.int .i64 0,.int .i64 0] 57 fun b2 h3 =>
 Zd s fun b4 o =>
 ldM h3 b4 (o+4) fun t =>
 XF (.int .i64) h3 t (.int .i64 conn) fun r5=>asS (r5.getD (.string (ByteArray.mk #[]))) fun t6 =>
 ldI h3 b 0 .i64 fun t7=>ldI h3 b (0+1) .u8 fun t8=>ldI h3 b (0+2) .i64 fun t9=>ldI h3 b (0+3) .i64 fun t10=>ldS h3 b (0+4) fun t11=>ldI h3 b (0+5) .i64 fun t12 =>
 f10 (t7,t8,t9,t10,t11,t12,()) (fun t13 h14 =>
 ZG (!t13) fun t15 =>
 Zw t15 (
 sts h14 b2 0 [.int .i64 0,.int .u8 5,.int .i64 0,.int .i64 0,.int .i64 0] fun h16 =>
 ldI h16 b2 0 .i64 fun t17=>ldI h16 b2 (0+1) .u8 fun t18=>ldI h16 b2 (0+2) .i64 fun t19=>ldI h16 b2 (0+3) .i64 fun t20=>ldI h16 b2 (0+4) .i64 fun t21=>K (t17,t18,t19,t20,t21,()) h16) (
 Zg5 (σ:=Bool × Unit) (fun s28 h29 =>
 (fun (s24:Bool) =>
 Zw s24 (
 Zd s fun b30 o31 =>
 ldM h29 b30 (o31+4) fun t32 =>
 ldS h29 b (0+4) fun t33 =>
 X9 (.int .i64) h29 t32 (.int .i64 conn) (.string t33) fun h34 =>
 sts h34 b2 0 [.int .i64 0,.int .u8 1,.int .i64 0,.int .i64 0,.int .i64 0] fun h35 =>
 ldI h35 b2 0 .i64 fun t36=>ldI h35 b2 (0+1) .u8 fun t37=>ldI h35 b2 (0+2) .i64 fun t38=>ldI h35 b2 (0+3) .i64 fun t39=>ldI h35 b2 (0+4) .i64 fun t40=>K (t36,t37,t38,t39,t40,()) h35) (
 ldI h29 b (0+1) .u8 fun t41 =>
 ZG (t41 ==5) fun t42 =>
 Zw t42 (
 Zd s fun b43 o44 =>
 ldM h29 b43 (o44+4) fun t45 =>
 X9 (.int .i64) h29 t45 (.int .i64 conn) (.string (ByteArray.mk #[])) fun h46 =>
 sts h46 b2 0 [.int .i64 0,.int .u8 4,.int .i64 0,.int .i64 0,.int .i64 0] fun h47 =>
 ldI h47 b2 0 .i64 fun t48=>ldI h47 b2 (0+1) .u8 fun t49=>ldI h47 b2 (0+2) .i64 fun t50=>ldI h47 b2 (0+3) .i64 fun t51=>ldI h47 b2 (0+4) .i64 fun t52=>K (t48,t49,t50,t51,t52,()) h47) (
 ZG (ZaF t6 (ByteArray.mk #[])) fun t53 =>
 Zw t53 (
 sts h29 b2 0 [.int .i64 0,.int .u8 4,.int .i64 0,.int .i64 0,.int .i64 0] fun h54 =>
 ldI h54 b2 0 .i64 fun t55=>ldI h54 b2 (0+1) .u8 fun t56=>ldI h54 b2 (0+2) .i64 fun t57=>ldI h54 b2 (0+3) .i64 fun t58=>ldI h54 b2 (0+4) .i64 fun t59=>K (t55,t56,t57,t58,t59,()) h54) (
 ldI h29 b (0+1) .u8 fun t60 =>
 ZG (t60 ==4) fun t61 =>
 Zw t61 (
 ldI h29 b (0+5) .i64 fun t62 =>
 f102 s at_ t6 t62 (fun t63 h64 =>
 sts h64 b2 0 [.int .i64 0,.int .u8 t63,.int .i64 0,.int .i64 0,.int .i64 0] fun h65 =>
 ldI h65 b2 0 .i64 fun t66=>ldI h65 b2 (0+1) .u8 fun t67=>ldI h65 b2 (0+2) .i64 fun t68=>ldI h65 b2 (0+3) .i64 fun t69=>ldI h65 b2 (0+4) .i64 fun t70=>K (t66,t67,t68,t69,t70,()) h65) h29) (
 ldI h29 b (0+2) .i64 fun t71 =>
 f100 s t6 t71 (fun t72 t73 h74 =>
 newC h74 [.int .i64 0,.int .i64 0,.int .i64 0,.int .i64 0] 46 fun b75 h76 =>
 sts h76 b75 0 [.int .i64 t72.1,.int .i64 t72.2.1,.int .i64 t72.2.2.1,.int .i64 t72.2.2.2.1] fun h77 =>
 ZG t73 fun some_ =>
 ldI h77 b (0+1) .u8 fun t78 =>
 Zc (IntKind.wrap .i64 t78) fun want =>
 Zw (!some_) (
 sts h77 b2 0 [.int .i64 0,.int .u8 4,.int .i64 0,.int .i64 0,.int .i64 0] fun h79 =>
 ldI h79 b2 0 .i64 fun t80=>ldI h79 b2 (0+1) .u8 fun t81=>ldI h79 b2 (0+2) .i64 fun t82=>ldI h79 b2 (0+3) .i64 fun t83=>ldI h79 b2 (0+4) .i64 fun t84=>K (t80,t81,t82,t83,t84,()) h79) (
 ldI h77 b75 (0+2) .i64 fun t85 =>
 ZG (t85 !=want) fun t86 =>
 Zw t86 (
 sts h77 b2 0 [.int .i64 0,.int .u8 4,.int .i64 0,.int .i64 0,.int .i64 0] fun h87 =>
 ldI h87 b2 0 .i64 fun t88=>ldI h87 b2 (0+1) .u8 fun t89=>ldI h87 b2 (0+2) .i64 fun t90=>ldI h87 b2 (0+3) .i64 fun t91=>ldI h87 b2 (0+4) .i64 fun t92=>K (t88,t89,t90,t91,t92,()) h87) (
 ldI h77 b75 0 .i64 fun t93=>ldI h77 b75 (0+1) .i64 fun t94=>ldI h77 b75 (0+2) .i64 fun t95=>ldI h77 b75 (0+3) .i64 fun t96 =>
 f103 s at_ (t93,t94,t95,t96,()) (fun t97 h98 =>
 ZG t97 fun t99 =>
 Zw t99 (
 sts h98 b2 0 [.int .i64 0,.int .u8 7,.int .i64 0,.int .i64 0,.int .i64 0] fun h100 =>
 ldI h100 b2 0 .i64 fun t101=>ldI h100 b2 (0+1) .u8 fun t102=>ldI h100 b2 (0+2) .i64 fun t103=>ldI h100 b2 (0+3) .i64 fun t104=>ldI h100 b2 (0+4) .i64 fun t105=>K (t101,t102,t103,t104,t105,()) h100) (
 ldI h98 b75 0 .i64 fun t106=>ldI h98 b75 (0+1) .i64 fun t107=>ldI h98 b75 (0+2) .i64 fun t108=>ldI h98 b75 (0+3) .i64 fun t109 =>
 ldI h98 b 0 .i64 fun t110=>ldI h98 b (0+1) .u8 fun t111=>ldI h98 b (0+2) .i64 fun t112=>ldI h98 b (0+3) .i64 fun t113=>ldS h98 b (0+4) fun t114=>ldI h98 b (0+5) .i64 fun t115 =>
 f135 s at_ (t106,t107,t108,t109,()) (t110,t111,t112,t113,t114,t115,()) (fun t116 h117 =>
 sts h117 b2 0 [.int .i64 t116.1,.int .u8 t116.2.1,.int .i64 t116.2.2.1,.int .i64 t116.2.2.2.1,.int .i64 t116.2.2.2.2.1] fun h118 =>
 ldI h118 b2 0 .i64 fun t119=>ldI h118 b2 (0+1) .u8 fun t120=>ldI h118 b2 (0+2) .i64 fun t121=>ldI h118 b2 (0+3) .i64 fun t122=>ldI h118 b2 (0+4) .i64 fun t123=>K (t119,t120,t121,t122,t123,()) h118) h98)) h77))) h29))))) s28.1) (fun J22 =>
 ldI h14 b (0+1) .u8 fun t23 =>
 Zw (t23 ==5) (
 ldS h14 b (0+4) fun t24 =>
 f31 s t24 (fun t25 h26 =>
 ZG (decide (t25≥0)) fun t27 =>
 J22 (t27,()) h26) h14) (
 J22 (false,()) h14)))) h3
def XU:ZqG:=ZbX YY Yu Xn Xb XH Zac
abbrev ZqF:=(Option Addr)→Int→Int→(Int × Int × Int × Int × ByteArray × Int × Unit)→((Int × Int × Int × Int × Int × Unit)→Int→HP)→HP
def ZdP (f92:ZuP) (f136:ZqG) (s:Option Addr) (at_:Int) (conn:Int) (r:Int × Int × Int × Int × ByteArray × Int × Unit) (K:(Int × Int × Int × Int × Int × Unit)→Int→HP) (h:Zb):Prop :=
 newC h [.int .i64 r.1,.int .u8 r.2.1,.int .i64 r.2.2.1,.int .i64 r.2.2.2.1,.string r.2.2.2.2.1,.int .i64 r.2.2.2.2.2.1] 39 fun b h1 =>
 newC h1 [.int .i64 0,.int .u8 0,.int .i64 0,.int .i64 0,.int .i64 0] 57 fun b2 h3 =>
 Zc 0 fun t =>
 f92 s at_ (fun t4 h5 =>
 Zc t4 fun e =>
 Zw (e !=0) (
 sts h5 b2 0 [.int .i64 0,.int .u8 0,.int .i64 0,.int .i64 0,.int .i64 0] fun h6 =>
 Zc e fun t7 =>
 ldI h6 b2 0 .i64 fun t8=>ldI h6 b2 (0+1) .u8 fun t9=>ldI h6 b2 (0+2) .i64 fun t10=>ldI h6 b2 (0+3) .i64 fun t11=>ldI h6 b2 (0+4) .i64 fun t12=>K (t8,t9,t10,t11,t12,()) t7 h6) (
 Zd s fun b13 o =>
 ldM h5 b13 (o+4) fun t14 =>
 XF (.int .i64) h5 t14 (.int .i64 conn) fun r15=>asS (r15.getD (.string (ByteArray.mk #[]))) fun t16 =>
 ZG r15.isSome fun there =>
 Zw (!there) (
 sts h5 b2 0 [.int .i64 0,.int .u8 0,.int .i64 0,.int .i64 0,.int .i64 0] fun h17 =>
 Zc 4 fun t18 =>
 ldI h17 b2 0 .i64 fun t19=>ldI h17 b2 (0+1) .u8 fun t20=>ldI h17 b2 (0+2) .i64 fun t21=>ldI h17 b2 (0+3) .i64 fun t22=>ldI h17 b2 (0+4) .i64 fun t23=>K (t19,t20,t21,t22,t23,()) t18 h17) (
 Zd s fun b24 o25 =>
 st h5 b24 (o25+1) (.int .i64 at_) fun h26 =>
 ldI h26 b 0 .i64 fun t27=>ldI h26 b (0+1) .u8 fun t28=>ldI h26 b (0+2) .i64 fun t29=>ldI h26 b (0+3) .i64 fun t30=>ldS h26 b (0+4) fun t31=>ldI h26 b (0+5) .i64 fun t32 =>
 f136 s at_ conn (t27,t28,t29,t30,t31,t32,()) (fun t33 h34 =>
 newC h34 [.int .i64 0,.int .u8 0,.int .i64 0,.int .i64 0,.int .i64 0] 57 fun b35 h36 =>
 sts h36 b35 0 [.int .i64 t33.1,.int .u8 t33.2.1,.int .i64 t33.2.2.1,.int .i64 t33.2.2.2.1,.int .i64 t33.2.2.2.2.1] fun h37 =>
 ldI h37 b 0 .i64 fun t38 =>
 st h37 b35 0 (.int .i64 t38) fun h39 =>
 ldI h39 b35 0 .i64 fun t40=>ldI h39 b35 (0+1) .u8 fun t41=>ldI h39 b35 (0+2) .i64 fun t42=>ldI h39 b35 (0+3) .i64 fun t43=>ldI h39 b35 (0+4) .i64 fun t44 =>
 sts h39 b2 0 [.int .i64 t40,.int .u8 t41,.int .i64 t42,.int .i64 t43,.int .i64 t44] fun h45 =>
 Zc 0 fun t46 =>
 ldI h45 b2 0 .i64 fun t47=>ldI h45 b2 (0+1) .u8 fun t48=>ldI h45 b2 (0+2) .i64 fun t49=>ldI h45 b2 (0+3) .i64 fun t50=>ldI h45 b2 (0+4) .i64 fun t51=>K (t47,t48,t49,t50,t51,()) t46 h45) h26))) h3
def Za7:ZqF:=ZdP Xa XU
abbrev ZlV:=(Int × Int × Int × Int × Int × Unit)→(Bool→HP)→HP
def Zda (f8:zT8) (a:Int × Int × Int × Int × Int × Unit) (K:Bool→HP) (h:Zb):Prop :=
 newC h [.int .i64 a.1,.int .u8 a.2.1,.int .i64 a.2.2.1,.int .i64 a.2.2.2.1,.int .i64 a.2.2.2.2.1] 57 fun b h1 =>
 ldI h1 b 0 .i64 fun t =>
 f8 t 0 2147483647 (fun t2 h3 =>
 Zw t2 (
 ldI h3 b (0+1) .u8 fun t4 =>
 Zw (decide (t4≥1)) (
 ldI h3 b (0+1) .u8 fun t5 =>
 Zw (decide (t5≤8)) (
 ldI h3 b (0+2) .i64 fun t6 =>
 f8 t6 0 1099511627776 (fun t7 h8 =>
 Zw t7 (
 ldI h8 b (0+3) .i64 fun t9 =>
 f8 t9 0 1099511627776 (fun t10 h11 =>
 Zw t10 (
 ldI h11 b (0+4) .i64 fun t12 =>
 f8 t12 0 2147483647 (fun t13 h14 =>
 ZG t13 fun t15 =>
 K t15 h14) h11) (
 K false h11)) h8) (
 K false h8)) h3) (
 K false h3)) (
 K false h3)) (
 K false h3)) h1
def Xd:ZlV:=Zda ZaP
abbrev ZqE:=(Int × Int × Int × Int × Int × Unit)→(Sl→Int→HP)→HP
def ZeZ (f138:ZlV) (f43:Zu2) (a:Int × Int × Int × Int × Int × Unit) (K:Sl→Int→HP) (h:Zb):Prop :=
 newC h [.int .i64 a.1,.int .u8 a.2.1,.int .i64 a.2.2.1,.int .i64 a.2.2.2.1,.int .i64 a.2.2.2.2.1] 57 fun b h1 =>
 Zc 0 fun t =>
 ldI h1 b 0 .i64 fun t2=>ldI h1 b (0+1) .u8 fun t3=>ldI h1 b (0+2) .i64 fun t4=>ldI h1 b (0+3) .i64 fun t5=>ldI h1 b (0+4) .i64 fun t6 =>
 f138 (t2,t3,t4,t5,t6,()) (fun t7 h8 =>
 Zw (!t7) (
 Zc 6 fun t9 =>
 K ⟨none,0,0⟩ t9 h8) (
 ldI h8 b (0+1) .u8 fun t10 =>
 newC h8 [.int .u8 t10] 5 fun b11 h12 =>
 newC h12 [.slice none 0 0] 261 fun b13 h14 =>
 sts h14 b13 0 [.slice (some ⟨b11,0,none⟩) 1 1] fun h15 =>
 ldI h15 b 0 .i64 fun t16 =>
 ldI h15 b (0+2) .i64 fun t17 =>
 ldI h15 b (0+3) .i64 fun t18 =>
 ldI h15 b (0+4) .i64 fun t19 =>
 newC h15 [.int .i64 t16,.int .i64 t17,.int .i64 t18,.int .i64 t19] 3 fun b20 h21 =>
 f43 (some ⟨b13,0,none⟩) ⟨some ⟨b20,0,none⟩,4,4⟩ (fun h22 =>
 ldL h22 b13 0 fun t23 =>
 Zc 0 fun t24 =>
 K t23 t24 h22) h21)) h1
def ZcO:ZqE:=ZeZ Xd YE
abbrev ZqD:=(Option Addr)→(Option Addr)→Int→Sl→(Bool→HP)→HP
def Zb4 (f91:Zx3) (f137:ZqF) (f139:ZqE) (f45:Zu1) (f55:ZuZ) (w:Option Addr) (p:Option Addr) (i:Int) (payload:Sl) (K:Bool→HP) (h:Zb):Prop :=
 f91 payload (fun t t1 t2 h3 =>
 newC h3 [.int .i64 0,.int .u8 0,.int .i64 0,.int .i64 0,.string (ByteArray.mk #[]),.int .i64 0] 39 fun b h4 =>
 sts h4 b 0 [.int .i64 t.1,.int .u8 t.2.1,.int .i64 t.2.2.1,.int .i64 t.2.2.2.1,.string t.2.2.2.2.1,.int .i64 t.2.2.2.2.2.1] fun h5 =>
 Zc t1 fun err =>
 Zc t2 fun x =>
 Zw (err !=0) (
 K false h5) (
 Zg5 (σ:=Int × Option Addr × Unit) (fun s h36 =>
 (fun (err35:Int) (a:Option Addr) =>
 Zw (err35 !=0) (
 K false h36) (
 Zg5 (σ:=Unit) (fun s62 h63 =>
 Zd a fun b64 o65=>ldI h63 b64 o65 .i64 fun t66=>ldI h63 b64 (o65+1) .u8 fun t67=>ldI h63 b64 (o65+2) .i64 fun t68=>ldI h63 b64 (o65+3) .i64 fun t69=>ldI h63 b64 (o65+4) .i64 fun t70 =>
 f139 (t66,t67,t68,t69,t70,()) (fun t71 t72 h73 =>
 Zc t72 fun x74 =>
 f45 t71 (fun t75 t76 h77 =>
 Zc t76 fun err78 =>
 Zw (err78 ==0) (
 Zd w fun b79 o80 =>
 Zd p fun b81 o82 =>
 ldP h77 b79 o80 fun t83 =>
 ldI h77 b81 (o82+1) .i64 fun t84 =>
 f55 t83 t84 1 t75 (fun t85 h86 =>
 ZG (t85 ==0) fun t87 =>
 K t87 h86) h77) (
 K false h77)) h73) h63) (fun J37 =>
 Zd a fun b38 o39 =>
 ldI h36 b38 (o39+1) .u8 fun t40 =>
 Zw (t40 ==1) (
 ldI h36 b (0+1) .u8 fun t41 =>
 Zw (t41 !=5) (
 Zd w fun b42 o43 =>
 Zd w fun b44 o45 =>
 ldL h36 b42 (o43+5) fun t46 =>
 ldI h36 b44 (o45+4) .i64 fun t47 =>
 ldI h36 b 0 .i64 fun t48 =>
 ldI h36 b 0 .i64 fun t49=>ldI h36 b (0+1) .u8 fun t50=>ldI h36 b (0+2) .i64 fun t51=>ldI h36 b (0+3) .i64 fun t52=>ldS h36 b (0+4) fun t53=>ldI h36 b (0+5) .i64 fun t54 =>
 newC h36 [.int .i64 t47,.int .i64 i,.int .i64 t48,.int .i64 t49,.int .u8 t50,.int .i64 t51,.int .i64 t52,.string t53,.int .i64 t54] 48 fun b55 h56 =>
 ZH (Zi h56 [(b,0,.int .i64 t49),(b,0+1,.int .u8 t50),(b,0+2,.int .i64 t51),(b,0+3,.int .i64 t52),(b,0+4,.string t53),(b,0+5,.int .i64 t54)]) <|
 ZH (Zi h56 [(b,0,.int .i64 t48)]) <|
 ZH (Zi h56 [(b44,o45+4,.int .i64 t47)]) <|
 ZH (Zi h56 [(b42,o43+5,.slice t46.ptr t46.len t46.cap)]) <|
 rdS ⟨some ⟨b55,0,none⟩,1,1⟩ 9 h56 fun new=>app 48 9 80 [.int .i64 0,.int .i64 0,.int .i64 0,.int .i64 0,.int .u8 0,.int .i64 0,.int .i64 0,.string (ByteArray.mk #[]),.int .i64 0] t46 1 new h56 fun t57 h58 =>
 ZH (Zi h58 [(b,0,.int .i64 t49),(b,0+1,.int .u8 t50),(b,0+2,.int .i64 t51),(b,0+3,.int .i64 t52),(b,0+4,.string t53),(b,0+5,.int .i64 t54)]) <|
 ZH (Zi h58 [(b,0,.int .i64 t48)]) <|
 ZH (Zi h58 [(b44,o45+4,.int .i64 t47)]) <|
 Zd w fun b59 o60 =>
 st h58 b59 (o60+5) (.slice t57.ptr t57.len t57.cap) fun h61 =>
 J37 (()) h61) (
 J37 (()) h36)) (
 J37 (()) h36)))) s.1 s.2.1) (fun J6 =>
 Zd w fun b7 o =>
 Zd w fun b8 o9 =>
 Zd p fun b10 o11 =>
 ldP h5 b7 (o+1) fun t12 =>
 ldI h5 b8 (o9+4) .i64 fun t13 =>
 ldI h5 b10 (o11+1) .i64 fun t14 =>
 ldI h5 b 0 .i64 fun t15=>ldI h5 b (0+1) .u8 fun t16=>ldI h5 b (0+2) .i64 fun t17=>ldI h5 b (0+3) .i64 fun t18=>ldS h5 b (0+4) fun t19=>ldI h5 b (0+5) .i64 fun t20 =>
 Zfj (
 f137 t12 t13 t14 (t15,t16,t17,t18,t19,t20,()) (fun t21 t22 h23 =>
 newC h23 [.int .i64 0,.int .u8 0,.int .i64 0,.int .i64 0,.int .i64 0] 57 fun b24 h25 =>
 sts h25 b24 0 [.int .i64 t21.1,.int .u8 t21.2.1,.int .i64 t21.2.2.1,.int .i64 t21.2.2.2.1,.int .i64 t21.2.2.2.2.1] fun h26 =>
 Zc t22 fun err27 =>
 J6 (err27,some ⟨b24,0,none⟩,()) h26) h5) (
 newC h5 [.int .i64 0,.int .u8 0,.int .i64 0,.int .i64 0,.int .i64 0] 57 fun b28 h29 =>
 ZH (Zi h29 [(b,0,.int .i64 t15),(b,0+1,.int .u8 t16),(b,0+2,.int .i64 t17),(b,0+3,.int .i64 t18),(b,0+4,.string t19),(b,0+5,.int .i64 t20)]) <|
 ZH (Zi h29 [(b10,o11+1,.int .i64 t14)]) <|
 ZH (Zi h29 [(b8,o9+4,.int .i64 t13)]) <|
 ZH (Zi h29 [(b7,o+1,.pointer t12)]) <|
 f137 t12 t13 t14 (t15,t16,t17,t18,t19,t20,()) (fun t30 t31 h32 =>
 sts h32 b28 0 [.int .i64 t30.1,.int .u8 t30.2.1,.int .i64 t30.2.2.1,.int .i64 t30.2.2.2.1,.int .i64 t30.2.2.2.2.1] fun h33 =>
 Zc t31 fun err34 =>
 J6 (err34,some ⟨b28,0,none⟩,()) h33) h29)))) h
def XW:ZqD:=Zb4 ZaA Za7 ZcO Zbq Xp
abbrev ZqC:=(Option Addr)→(Int × Int × Int × Int × Int × Int × Int × Int × ByteArray × Int × Unit)→((Int × Bool × Int × Unit)→HP)→HP
def Zbg (f84:ZuU) (f87:ZuT) (f140:ZqD) (f64:ZlQ) (w:Option Addr) (o:Int × Int × Int × Int × Int × Int × Int × Int × ByteArray × Int × Unit) (K:(Int × Bool × Int × Unit)→HP) (h:Zb):Prop :=
 newC h [.int .u8 o.1,.int .i64 o.2.1,.int .i64 o.2.2.1,.int .i64 o.2.2.2.1,.int .i64 o.2.2.2.2.1,.int .u8 o.2.2.2.2.2.1,.int .i64 o.2.2.2.2.2.2.1,.int .i64 o.2.2.2.2.2.2.2.1,.string o.2.2.2.2.2.2.2.2.1,.int .i64 o.2.2.2.2.2.2.2.2.2.1] 41 fun b h1 =>
 newC h1 [.int .i64 0,.bool false,.int .i64 0] 100 fun b2 h3 =>
 Zd w fun b4 o5 =>
 ldL h3 b4 (o5+3) fun t =>
 ldI h3 b (0+1) .i64 fun t6 =>
 Zap t.ptr t.len t6 3 fun b7 o8 =>
 ldI h3 b (0+3) .i64 fun t9 =>
 f84 w (some ⟨b7,o8,none⟩) 0 t9 (fun t10 t11 h12 =>
 Zc t11 fun err =>
 Zw (err !=0) (
 sts h12 b2 0 [.int .i64 0,.bool false,.int .i64 err] fun h13 =>
 ldI h13 b2 0 .i64 fun t14=>ldB h13 b2 (0+1) fun t15=>ldI h13 b2 (0+2) .i64 fun t16=>K (t14,t15,t16,()) h13) (
 ldP h12 b7 (o8+2) fun t17 =>
 f87 t17 t10 (fun t18 t19 h20 =>
 Zc t19 fun wrong =>
 Zg5 (σ:=Int × Unit) (fun s33 h34 =>
 (fun (wrong32:Int) =>
 Zw (wrong32 !=0) (
 f64 w (some ⟨b7,o8,none⟩) (fun h35 =>
 sts h35 b2 0 [.int .i64 0,.bool false,.int .i64 0] fun h36 =>
 ldI h36 b2 0 .i64 fun t37=>ldB h36 b2 (0+1) fun t38=>ldI h36 b2 (0+2) .i64 fun t39=>K (t37,t38,t39,()) h36) h34) (
 sts h34 b2 0 [.int .i64 0,.bool false,.int .i64 0] fun h40 =>
 ldI h40 b2 0 .i64 fun t41=>ldB h40 b2 (0+1) fun t42=>ldI h40 b2 (0+2) .i64 fun t43=>K (t41,t42,t43,()) h40)) s33.1) (fun J21 =>
 YI (σ:=Int × Int × Unit) (fun J23 s h24 =>
 (fun (wrong22:Int) (s42:Int) =>
 Zw (decide (s42<(t18.len:Int))) (
 Zap t18.ptr t18.len s42 1 fun b25 o26 =>
 ldL h24 b25 o26 fun t27 =>
 ldI h24 b (0+1) .i64 fun t28 =>
 f140 w (some ⟨b7,o8,none⟩) t28 t27 (fun t29 h30 =>
 Zw (!t29) (
 Zc 50 fun wrong31 =>
 J21 (wrong31,()) h30) (
 J23 (wrong22,IntKind.wrap .i64 (s42+1),()) h30)) h24) (
 J21 (wrong22,()) h24)) s.1 s.2.1) (wrong,0,()) h20)) h12)) h3
def YK:ZqC:=Zbg YQ Y5 XW Z4
abbrev ZqB:=Sl→((Int × Int × Int × Int × Int × Unit)→Int→Int→HP)→HP
def ZdA (f89:ZuR) (f138:ZlV) (f90:ZuQ) (b:Sl) (K:(Int × Int × Int × Int × Int × Unit)→Int→Int→HP) (h:Zb):Prop :=
 newC h [.int .i64 0,.int .u8 0,.int .i64 0,.int .i64 0,.int .i64 0] 57 fun b1 h2 =>
 Zc 0 fun t =>
 Zc 0 fun t3 =>
 newC h2 [.slice b.ptr b.len b.cap,.int .i64 0,.bool false] 252 fun b4 h5 =>
 f89 (some ⟨b4,0,none⟩) 1 (fun t6 h7 =>
 f89 (some ⟨b4,0,none⟩) 8 (fun t8 h9 =>
 f89 (some ⟨b4,0,none⟩) 8 (fun t10 h11 =>
 f89 (some ⟨b4,0,none⟩) 8 (fun t12 h13 =>
 f89 (some ⟨b4,0,none⟩) 8 (fun t14 h15 =>
 newC h15 [.int .i64 0,.int .u8 0,.int .i64 0,.int .i64 0,.int .i64 0] 57 fun b16 h17 =>
 sts h17 b16 0 [.int .i64 t8,.int .u8 (IntKind.wrap .u8 t6),.int .i64 t10,.int .i64 t12,.int .i64 t14] fun h18 =>
 ldI h18 b16 0 .i64 fun t19=>ldI h18 b16 (0+1) .u8 fun t20=>ldI h18 b16 (0+2) .i64 fun t21=>ldI h18 b16 (0+3) .i64 fun t22=>ldI h18 b16 (0+4) .i64 fun t23 =>
 f138 (t19,t20,t21,t22,t23,()) (fun t24 h25 =>
 f90 (some ⟨b4,0,none⟩) t24 (fun t26 t27 h28 =>
 Zc t26 fun err =>
 Zc t27 fun at_ =>
 Zw (err !=0) (
 sts h28 b1 0 [.int .i64 0,.int .u8 0,.int .i64 0,.int .i64 0,.int .i64 0] fun h29 =>
 Zc err fun t30 =>
 Zc at_ fun t31 =>
 ldI h29 b1 0 .i64 fun t32=>ldI h29 b1 (0+1) .u8 fun t33=>ldI h29 b1 (0+2) .i64 fun t34=>ldI h29 b1 (0+3) .i64 fun t35=>ldI h29 b1 (0+4) .i64 fun t36=>K (t32,t33,t34,t35,t36,()) t30 t31 h29) (
 ldI h28 b16 0 .i64 fun t37=>ldI h28 b16 (0+1) .u8 fun t38=>ldI h28 b16 (0+2) .i64 fun t39=>ldI h28 b16 (0+3) .i64 fun t40=>ldI h28 b16 (0+4) .i64 fun t41 =>
 sts h28 b1 0 [.int .i64 t37,.int .u8 t38,.int .i64 t39,.int .i64 t40,.int .i64 t41] fun h42 =>
 Zc 0 fun t43 =>
 Zc 0 fun t44 =>
 ldI h42 b1 0 .i64 fun t45=>ldI h42 b1 (0+1) .u8 fun t46=>ldI h42 b1 (0+2) .i64 fun t47=>ldI h42 b1 (0+3) .i64 fun t48=>ldI h42 b1 (0+4) .i64 fun t49=>K (t45,t46,t47,t48,t49,()) t43 t44 h42)) h25) h18) h13) h11) h9) h7) h5
def ZaQ:ZqB:=ZdA Yo Xd Y1
abbrev ZqA:=(Option Addr)→(Int × Int × Int × Int × Int × Unit)→(HP)→HP
def Zbj (c:Option Addr) (a:Int × Int × Int × Int × Int × Unit) (K:HP) (h:Zb):Prop :=
 newC h [.int .i64 a.1,.int .u8 a.2.1,.int .i64 a.2.2.1,.int .i64 a.2.2.2.1,.int .i64 a.2.2.2.2.1] 57 fun b h1 =>
 Zd c fun b2 o =>
 ldM h1 b2 (o+8) fun t =>
 ldI h1 b 0 .i64 fun t3 =>
 XF (.int .i64) h1 t (.int .i64 t3) fun r=>asI (r.getD (.int .i64 0)) .i64 fun t4 =>
 Zc t4 fun x =>
 ZG r.isSome fun waits =>
 Zw waits (
 Zd c fun b5 o6 =>
 ldM h1 b5 (o6+8) fun t7 =>
 ldI h1 b 0 .i64 fun t8 =>
 Zgb (.int .i64) h1 t7 (.int .i64 t8) fun h9 =>
 Zd c fun b10 o11 =>
 ldL h9 b10 (o11+10) fun t12 =>
 ldI h9 b 0 .i64 fun t13 =>
 ldI h9 b 0 .i64 fun t14=>ldI h9 b (0+1) .u8 fun t15=>ldI h9 b (0+2) .i64 fun t16=>ldI h9 b (0+3) .i64 fun t17=>ldI h9 b (0+4) .i64 fun t18 =>
 newC h9 [.int .i64 t13,.int .i64 t14,.int .u8 t15,.int .i64 t16,.int .i64 t17,.int .i64 t18,.bool false] 59 fun b19 h20 =>
 ZH (Zi h20 [(b,0,.int .i64 t14),(b,0+1,.int .u8 t15),(b,0+2,.int .i64 t16),(b,0+3,.int .i64 t17),(b,0+4,.int .i64 t18)]) <|
 ZH (Zi h20 [(b,0,.int .i64 t13)]) <|
 ZH (Zi h20 [(b10,o11+10,.slice t12.ptr t12.len t12.cap)]) <|
 rdS ⟨some ⟨b19,0,none⟩,1,1⟩ 7 h20 fun new=>app 59 7 56 [.int .i64 0,.int .i64 0,.int .u8 0,.int .i64 0,.int .i64 0,.int .i64 0,.bool false] t12 1 new h20 fun t21 h22 =>
 ZH (Zi h22 [(b,0,.int .i64 t14),(b,0+1,.int .u8 t15),(b,0+2,.int .i64 t16),(b,0+3,.int .i64 t17),(b,0+4,.int .i64 t18)]) <|
 ZH (Zi h22 [(b,0,.int .i64 t13)]) <|
 Zd c fun b23 o24 =>
 st h22 b23 (o24+10) (.slice t21.ptr t21.len t21.cap) fun h25 =>
 K h25) (
 K h1)
def Xh:ZqA:=Zbj
abbrev Zqz:=(Option Addr)→(Option Addr)→(Int→HP)→HP
def Zbw (f87:ZuT) (f142:ZqB) (f143:ZqA) (f60:ZuW) (a0:Option Addr) (a1:Option Addr) (K:Int→HP) (h:Zb):Prop :=
 Zc 0 fun t =>
 Zd a0 fun b o=>ldP h b o fun t1 =>
 Zd t1 fun b2 o3 =>
 ldB h b2 (o3+5) fun t4 =>
 Zw (!t4) (
 Zc 51 fun t5 =>
 K t5 h) (
 Zd a0 fun b6 o7=>ldP h b6 o7 fun t8 =>
 Zd t8 fun b9 o10 =>
 ldP h b9 o10 fun t11 =>
 Zd a1 fun b12 o13=>ldL h b12 o13 fun t14 =>
 f87 t11 t14 (fun t15 t16 h17 =>
 ZH (Zi h17 [(b6,o7,.pointer t8)]) <|
 Zc t16 fun err =>
 Zg5 (σ:=Int × Unit) (fun s43 h44 =>
 (fun (err42:Int) =>
 Zw (err42 !=0) (
 Zd a0 fun b45 o46=>ldP h44 b45 o46 fun t47 =>
 f60 t47 (fun h48 =>
 Zc err42 fun t49 =>
 K t49 h48) h44) (
 Zc err42 fun t50 =>
 K t50 h44)) s43.1) (fun J18 =>
 YI (σ:=Int × Int × Unit) (fun J20 s h21 =>
 (fun (err19:Int) (s26:Int) =>
 Zw (decide (s26<(t15.len:Int))) (
 Zap t15.ptr t15.len s26 1 fun b22 o23 =>
 ldL h21 b22 o23 fun t24 =>
 f142 t24 (fun t25 t26 t27 h28 =>
 newC h28 [.int .i64 0,.int .u8 0,.int .i64 0,.int .i64 0,.int .i64 0] 57 fun b29 h30 =>
 sts h30 b29 0 [.int .i64 t25.1,.int .u8 t25.2.1,.int .i64 t25.2.2.1,.int .i64 t25.2.2.2.1,.int .i64 t25.2.2.2.2.1] fun h31 =>
 Zc t26 fun wrong =>
 Zc t27 fun x =>
 Zw (wrong !=0) (
 Zc 50 fun err32 =>
 J18 (err32,()) h31) (
 Zd a0 fun b33 o34=>ldP h31 b33 o34 fun t35 =>
 ldI h31 b29 0 .i64 fun t36=>ldI h31 b29 (0+1) .u8 fun t37=>ldI h31 b29 (0+2) .i64 fun t38=>ldI h31 b29 (0+3) .i64 fun t39=>ldI h31 b29 (0+4) .i64 fun t40 =>
 f143 t35 (t36,t37,t38,t39,t40,()) (fun h41 =>
 J20 (err19,IntKind.wrap .i64 (s26+1),()) h41) h31)) h21) (
 J18 (err19,()) h21)) s.1 s.2.1) (err,0,()) h17)) h)
def Xs:Zqz:=Zbw Y5 ZaQ Xh Y2
abbrev Zqy:=(Option Addr)→Int→(Option Addr × Option Addr × Unit)→(Int→HP)→HP
def XN (f15:Zic) (f16:Zib) (f144:Zqz) (c:Option Addr) (at_:Int) (then_:Option Addr × Option Addr × Unit) (K:Int→HP) (h:Zb):Prop :=
 Zc 0 fun t =>
 ZG c.isNone fun t1 =>
 Zw t1 (
 Zc 1 fun t2 =>
 K t2 h) (
 Zw (decide (at_<0)) (
 Zc 2 fun t3 =>
 K t3 h) (
 ZG (decide (at_>1152921504606846976)) fun t4 =>
 Zw t4 (
 Zc 2 fun t5 =>
 K t5 h) (
 Zd c fun b o =>
 ldI h b (o+6) .i64 fun t6 =>
 ZG (decide (at_<t6)) fun t7 =>
 Zw t7 (
 Zc 7 fun t8 =>
 K t8 h) (
 Zd c fun b9 o10 =>
 st h b9 (o10+6) (.int .i64 at_) fun h11 =>
 f15 c (fun t12 h13 =>
 YI (σ:=Int × Unit) (fun J14 s h15 =>
 (fun (s33:Int) =>
 Zw (decide (s33<(t12.len:Int))) (
 Zap t12.ptr t12.len s33 1 fun b16 o17 =>
 ldI h15 b16 o17 .i64 fun t18 =>
 Zc t18 fun id =>
 Zd c fun b19 o20 =>
 Zd c fun b21 o22 =>
 ldM h15 b19 (o20+8) fun t23 =>
 ldI h15 b21 (o22+1) .i64 fun t24 =>
 XF (.int .i64) h15 t23 (.int .i64 id) fun r=>asI (r.getD (.int .i64 0)) .i64 fun t25 =>
 ZH (Zi h15 [(b21,o22+1,.int .i64 t24)]) <|
 Zw (decide ((IntKind.wrap .i64 (at_ - t25))≥t24)) (
 f16 c id (fun h26 =>
 J14 (IntKind.wrap .i64 (s33+1),()) h26) h15) (
 J14 (IntKind.wrap .i64 (s33+1),()) h15)) (
 f144 then_.1 then_.2.1 (fun t27 h28 =>
 Zc t27 fun t29 =>
 K t29 h28) h15)) s.1) (0,()) h13) h11))))
def Yg:Zqy:=XN Zk Zq Xs
abbrev Zqx:=(Option Addr)→Int→Sl→(Int→HP)→HP
def Zca (f145:Zqy) (c:Option Addr) (at_:Int) (b:Sl) (K:Int→HP) (h:Zb):Prop :=
 newC h [.pointer c] 84 fun b1 h2 =>
 newC h2 [.slice b.ptr b.len b.cap] 126 fun b3 h4 =>
 Zc 0 fun t =>
 ldP h4 b1 0 fun t5 =>
 f145 t5 at_ (some ⟨b1,0,none⟩,some ⟨b3,0,none⟩,()) (fun t6 h7 =>
 Zc t6 fun t8 =>
 K t8 h7) h4
def XZ:Zqx:=Zca Yg
abbrev Zqw:=(Option Addr)→(Int × Int × Int × Int × Int × Int × Int × Int × ByteArray × Int × Unit)→((Int × Bool × Int × Unit)→HP)→HP
def Zbh (f84:ZuU) (f146:Zqx) (f64:ZlQ) (f65:Zqj) (w:Option Addr) (o:Int × Int × Int × Int × Int × Int × Int × Int × ByteArray × Int × Unit) (K:(Int × Bool × Int × Unit)→HP) (h:Zb):Prop :=
 newC h [.int .u8 o.1,.int .i64 o.2.1,.int .i64 o.2.2.1,.int .i64 o.2.2.2.1,.int .i64 o.2.2.2.2.1,.int .u8 o.2.2.2.2.2.1,.int .i64 o.2.2.2.2.2.2.1,.int .i64 o.2.2.2.2.2.2.2.1,.string o.2.2.2.2.2.2.2.2.1,.int .i64 o.2.2.2.2.2.2.2.2.2.1] 41 fun b h1 =>
 newC h1 [.int .i64 0,.bool false,.int .i64 0] 100 fun b2 h3 =>
 Zd w fun b4 o5 =>
 ldL h3 b4 (o5+3) fun t =>
 ldI h3 b (0+1) .i64 fun t6 =>
 Zap t.ptr t.len t6 3 fun b7 o8 =>
 ldI h3 b (0+3) .i64 fun t9 =>
 f84 w (some ⟨b7,o8,none⟩) 1 t9 (fun t10 t11 h12 =>
 Zc t11 fun err =>
 Zw (err !=0) (
 sts h12 b2 0 [.int .i64 0,.bool false,.int .i64 err] fun h13 =>
 ldI h13 b2 0 .i64 fun t14=>ldB h13 b2 (0+1) fun t15=>ldI h13 b2 (0+2) .i64 fun t16=>K (t14,t15,t16,()) h13) (
 Zw ((t10.len:Int) ==0) (
 sts h12 b2 0 [.int .i64 0,.bool false,.int .i64 err] fun h17 =>
 ldI h17 b2 0 .i64 fun t18=>ldB h17 b2 (0+1) fun t19=>ldI h17 b2 (0+2) .i64 fun t20=>K (t18,t19,t20,()) h17) (
 Zd w fun b21 o22 =>
 ldP h12 b7 o8 fun t23 =>
 ldI h12 b21 (o22+4) .i64 fun t24 =>
 f146 t23 t24 t10 (fun t25 h26 =>
 Zw (t25 !=0) (
 f64 w (some ⟨b7,o8,none⟩) (fun h27 =>
 sts h27 b2 0 [.int .i64 0,.bool false,.int .i64 0] fun h28 =>
 ldI h28 b2 0 .i64 fun t29=>ldB h28 b2 (0+1) fun t30=>ldI h28 b2 (0+2) .i64 fun t31=>K (t29,t30,t31,()) h28) h26) (
 f65 w (some ⟨b7,o8,none⟩) (fun h32 =>
 sts h32 b2 0 [.int .i64 0,.bool false,.int .i64 0] fun h33 =>
 ldI h33 b2 0 .i64 fun t34=>ldB h33 b2 (0+1) fun t35=>ldI h33 b2 (0+2) .i64 fun t36=>K (t34,t35,t36,()) h33) h26)) h12))) h3
def YL:Zqw:=Zbh YQ XZ Z4 Yp
abbrev Zqv:=(Option Addr)→(Int × Int × Int × Int × Int × Int × Int × Int × ByteArray × Int × Unit)→((Int × Bool × Int × Unit)→HP)→HP
def Zcy (f52:ZlR) (f64:ZlQ) (w:Option Addr) (o:Int × Int × Int × Int × Int × Int × Int × Int × ByteArray × Int × Unit) (K:(Int × Bool × Int × Unit)→HP) (h:Zb):Prop :=
 newC h [.int .u8 o.1,.int .i64 o.2.1,.int .i64 o.2.2.1,.int .i64 o.2.2.2.1,.int .i64 o.2.2.2.2.1,.int .u8 o.2.2.2.2.2.1,.int .i64 o.2.2.2.2.2.2.1,.int .i64 o.2.2.2.2.2.2.2.1,.string o.2.2.2.2.2.2.2.2.1,.int .i64 o.2.2.2.2.2.2.2.2.2.1] 41 fun b h1 =>
 newC h1 [.int .i64 0,.bool false,.int .i64 0] 100 fun b2 h3 =>
 Zd w fun b4 o5 =>
 ldL h3 b4 (o5+3) fun t =>
 ldI h3 b (0+1) .i64 fun t6 =>
 Zap t.ptr t.len t6 3 fun b7 o8 =>
 ldP h3 b7 o8 fun t9 =>
 f52 t9 (fun t10 h11 =>
 Zw (!t10) (
 sts h11 b2 0 [.int .i64 0,.bool false,.int .i64 51] fun h12 =>
 ldI h12 b2 0 .i64 fun t13=>ldB h12 b2 (0+1) fun t14=>ldI h12 b2 (0+2) .i64 fun t15=>K (t13,t14,t15,()) h12) (
 f64 w (some ⟨b7,o8,none⟩) (fun h16 =>
 sts h16 b2 0 [.int .i64 0,.bool false,.int .i64 0] fun h17 =>
 ldI h17 b2 0 .i64 fun t18=>ldB h17 b2 (0+1) fun t19=>ldI h17 b2 (0+2) .i64 fun t20=>K (t18,t19,t20,()) h17) h11)) h3
def Xy:Zqv:=Zcy ZP Z4
abbrev Zqu:=(Option Addr)→Sl→(Int→HP)→HP
def ZdQ (f6:zT6) (n:Option Addr) (ports:Sl) (K:Int→HP) (h:Zb):Prop :=
 Zc 0 fun t =>
 f6 n ports (fun t1 h2 =>
 Zc t1 fun e =>
 Zw (e !=0) (
 Zc e fun t3 =>
 K t3 h2) (
 YI (σ:=Int × Unit) (fun J4 s h5 =>
 (fun (s16:Int) =>
 Zw (decide (s16<(ports.len:Int))) (
 Zap ports.ptr ports.len s16 1 fun b o =>
 ldI h5 b o .i64 fun t6 =>
 Zc t6 fun p =>
 Zd n fun b7 o8 =>
 ldM h5 b7 o8 fun t9 =>
 Zgb (.int .i64) h5 t9 (.int .i64 p) fun h10 =>
 J4 (IntKind.wrap .i64 (s16+1),()) h10) (
 Zc 0 fun t11 =>
 K t11 h5)) s.1) (0,()) h2)) h
def Za8:Zqu:=ZdQ Ym
abbrev Zqt:=(Option Addr)→(Int × Int × Int × Int × Int × Int × Int × Int × ByteArray × Int × Unit)→((Int × Bool × Int × Unit)→HP)→HP
def Zcx (f149:Zqu) (f64:ZlQ) (w:Option Addr) (a1:Int × Int × Int × Int × Int × Int × Int × Int × ByteArray × Int × Unit) (K:(Int × Bool × Int × Unit)→HP) (h:Zb):Prop :=
 newC h [.int .u8 a1.1,.int .i64 a1.2.1,.int .i64 a1.2.2.1,.int .i64 a1.2.2.2.1,.int .i64 a1.2.2.2.2.1,.int .u8 a1.2.2.2.2.2.1,.int .i64 a1.2.2.2.2.2.2.1,.int .i64 a1.2.2.2.2.2.2.2.1,.string a1.2.2.2.2.2.2.2.2.1,.int .i64 a1.2.2.2.2.2.2.2.2.2.1] 41 fun b h1 =>
 newC h1 [.int .i64 0,.bool false,.int .i64 0] 100 fun b2 h3 =>
 Zd w fun b4 o =>
 ldB h3 b4 (o+2) fun t =>
 Zw (!t) (
 sts h3 b2 0 [.int .i64 0,.bool false,.int .i64 51] fun h5 =>
 ldI h5 b2 0 .i64 fun t6=>ldB h5 b2 (0+1) fun t7=>ldI h5 b2 (0+2) .i64 fun t8=>K (t6,t7,t8,()) h5) (
 Zd w fun b9 o10 =>
 st h3 b9 (o10+2) (.bool false) fun h11 =>
 Zd w fun b12 o13 =>
 ldP h11 b12 o13 fun t14 =>
 newC h11 [.int .i64 1] 3 fun b15 h16 =>
 f149 t14 ⟨some ⟨b15,0,none⟩,1,1⟩ (fun t17 h18 =>
 Zd w fun b19 o20 =>
 ldL h18 b19 (o20+3) fun t21 =>
 YI (σ:=Int × Unit) (fun J22 s h23 =>
 (fun (s26:Int) =>
 Zw (decide (s26<(t21.len:Int))) (
 Zc s26 fun i =>
 Zd w fun b24 o25 =>
 ldL h23 b24 (o25+3) fun t26 =>
 Zap t26.ptr t26.len i 3 fun b27 o28 =>
 f64 w (some ⟨b27,o28,none⟩) (fun h29 =>
 J22 (IntKind.wrap .i64 (s26+1),()) h29) h23) (
 sts h23 b2 0 [.int .i64 0,.bool false,.int .i64 0] fun h30 =>
 ldI h30 b2 0 .i64 fun t31=>ldB h30 b2 (0+1) fun t32=>ldI h30 b2 (0+2) .i64 fun t33=>K (t31,t32,t33,()) h30)) s.1) (0,()) h18) h16)
def Xx:Zqt:=Zcx Za8 Z4
abbrev Zqs:=(Option Addr)→Int→(Int→HP)→HP
def ZbG (f92:ZuP) (f37:Zu5) (s:Option Addr) (at_:Int) (K:Int→HP) (h:Zb):Prop :=
 Zc 0 fun t =>
 f92 s at_ (fun t1 h2 =>
 Zc t1 fun e =>
 Zw (e !=0) (
 Zc e fun t3 =>
 K t3 h2) (
 Zd s fun b o =>
 st h2 b o (.int .i64 at_) fun h4 =>
 Zd s fun b5 o6 =>
 st h4 b5 (o6+1) (.int .i64 at_) fun h7 =>
 Zd s fun b8 o9 =>
 ldM h7 b8 (o9+4) fun t10 =>
 ZAn h7 t10 fun h11 =>
 Zd s fun b12 o13 =>
 st h11 b12 (o13+5) (.slice none 0 0) fun h14 =>
 Zd s fun b15 o16 =>
 ldL h14 b15 (o16+2) fun t17 =>
 YI (σ:=Int × Unit) (fun J18 s19 h20 =>
 (fun (s38:Int) =>
 Zw (decide (s38<(t17.len:Int))) (
 Zap t17.ptr t17.len s38 2 fun b21 o22 =>
 ldS h20 b21 o22 fun t23=>ldL h20 b21 (o22+1) fun t24 =>
 newC h20 [.string (ByteArray.mk #[]),.slice none 0 0] 137 fun b25 h26 =>
 sts h26 b25 0 [.string t23,.slice t24.ptr t24.len t24.cap] fun h27 =>
 ldL h27 b25 (0+1) fun t28 =>
 YI (σ:=Int × Unit) (fun J29 s30 h31 =>
 (fun (s45:Int) =>
 Zw (decide (s45<(t28.len:Int))) (
 Zap t28.ptr t28.len s45 4 fun b32 o33 =>
 ldI h31 b32 o33 .i64 fun t34=>ldI h31 b32 (o33+1) .i64 fun t35=>ldI h31 b32 (o33+2) .i64 fun t36=>ldI h31 b32 (o33+3) .i64 fun t37 =>
 newC h31 [.int .i64 0,.int .i64 0,.int .i64 0,.int .i64 0] 46 fun b38 h39 =>
 sts h39 b38 0 [.int .i64 t34,.int .i64 t35,.int .i64 t36,.int .i64 t37] fun h40 =>
 Zd s fun b41 o42 =>
 ldM h40 b41 (o42+3) fun t43 =>
 ldI h40 b38 0 .i64 fun t44 =>
 ldI h40 b38 0 .i64 fun t45=>ldI h40 b38 (0+1) .i64 fun t46=>ldI h40 b38 (0+2) .i64 fun t47=>ldI h40 b38 (0+3) .i64 fun t48 =>
 ldI h40 b38 (0+2) .i64 fun t49 =>
 f37 (t45,t46,t47,t48,()) (fun t50 h51 =>
 ZH (Zi h51 [(b38,0+2,.int .i64 t49)]) <|
 ZH (Zi h51 [(b38,0,.int .i64 t44)]) <|
 ZH (Zi h51 [(b41,o42+3,.map t43)]) <|
 ZH (Zv t50=true) <|
 X9 (.int .i64) h51 t43 (.int .i64 t44) (.agg #[t50,.int .i64 t49]) fun h52 =>
 J29 (IntKind.wrap .i64 (s45+1),()) h52) h40) (
 J18 (IntKind.wrap .i64 (s38+1),()) h31)) s30.1) (0,()) h27) (
 Zd s fun b53 o54 =>
 ldM h20 b53 (o54+3) fun t55 =>
 rgM h20 t55 fun it h56 =>
 YI (σ:=Unit) (fun J57 s58 h59 =>
 Zg5 (σ:=Bool × Unit) (fun s62 h63 =>
 (fun (s68:Bool) =>
 Zw s68 (
 ZAl h63 it fun k v=>asI k .i64 fun t64=>exG v (fun t65:Value × Int × Unit=> .agg #[t65.1,.int .i64 t65.2.1]) fun t65 =>
 newC h63 [.nilIface,.int .i64 0] 142 fun b66 h67 =>
 Zc t64 fun id =>
 sts h67 b66 0 [t65.1,.int .i64 t65.2.1] fun h68 =>
 Zd s fun b69 o70 =>
 ldM h68 b69 (o70+3) fun t71 =>
 ldI h68 b66 (0+1) .i64 fun t72 =>
 ldI h68 b66 (0+1) .i64 fun t73 =>
 f37 (id,0,t72,0,()) (fun t74 h75 =>
 ZH (Zi h75 [(b66,0+1,.int .i64 t73)]) <|
 ZH (Zi h75 [(b66,0+1,.int .i64 t72)]) <|
 ZH (Zi h75 [(b69,o70+3,.map t71)]) <|
 ZH (Zv t74=true) <|
 X9 (.int .i64) h75 t71 (.int .i64 id) (.agg #[t74,.int .i64 t73]) fun h76 =>
 J57 (()) h76) h68) (
 Zc 0 fun t77 =>
 K t77 h63)) s62.1) (fun J60 =>
 Zt4 h59 it (fun _ _ h61 =>
 J60 (true,()) h61) (
 J60 (false,()) h59))) (()) h56)) s19.1) (0,()) h14)) h
def XI:Zqs:=ZbG Xa YX
abbrev Zqr:=(Option Addr)→(Int × Int × Int × Int × Int × Int × Int × Int × ByteArray × Int × Unit)→((Int × Bool × Int × Unit)→HP)→HP
def Zb3 (f151:Zqs) (f7:zT7) (w:Option Addr) (a1:Int × Int × Int × Int × Int × Int × Int × Int × ByteArray × Int × Unit) (K:(Int × Bool × Int × Unit)→HP) (h:Zb):Prop :=
 newC h [.int .u8 a1.1,.int .i64 a1.2.1,.int .i64 a1.2.2.1,.int .i64 a1.2.2.2.1,.int .i64 a1.2.2.2.2.1,.int .u8 a1.2.2.2.2.2.1,.int .i64 a1.2.2.2.2.2.2.1,.int .i64 a1.2.2.2.2.2.2.2.1,.string a1.2.2.2.2.2.2.2.2.1,.int .i64 a1.2.2.2.2.2.2.2.2.2.1] 41 fun b h1 =>
 newC h1 [.int .i64 0,.bool false,.int .i64 0] 100 fun b2 h3 =>
 Zd w fun b4 o =>
 ldB h3 b4 (o+2) fun t =>
 Zw t (
 sts h3 b2 0 [.int .i64 0,.bool false,.int .i64 52] fun h5 =>
 ldI h5 b2 0 .i64 fun t6=>ldB h5 b2 (0+1) fun t7=>ldI h5 b2 (0+2) .i64 fun t8=>K (t6,t7,t8,()) h5) (
 Zd w fun b9 o10 =>
 st h3 b9 (o10+2) (.bool true) fun h11 =>
 Zd w fun b12 o13 =>
 Zd w fun b14 o15 =>
 ldP h11 b12 (o13+1) fun t16 =>
 ldI h11 b14 (o15+4) .i64 fun t17 =>
 f151 t16 t17 (fun t18 h19 =>
 Zd w fun b20 o21 =>
 ldP h19 b20 o21 fun t22 =>
 newC h19 [.int .i64 1] 3 fun b23 h24 =>
 f7 t22 ⟨some ⟨b23,0,none⟩,1,1⟩ (fun t25 h26 =>
 sts h26 b2 0 [.int .i64 0,.bool false,.int .i64 0] fun h27 =>
 ldI h27 b2 0 .i64 fun t28=>ldB h27 b2 (0+1) fun t29=>ldI h27 b2 (0+2) .i64 fun t30=>K (t28,t29,t30,()) h27) h24) h11)
def Xf:Zqr:=Zb3 XI YP
abbrev ZlU:=(Option Addr)→(Int × Int × Int × Int × Int × Int × Int × Int × ByteArray × Int × Unit)→(Int→Bool→Int→HP)→HP
def ZcA (f40:ZyA) (f41:Zu3) (f42:Zyz) (f66:Zym) (f80:Zx8) (f141:ZqC) (f147:Zqw) (f148:Zqv) (f150:Zqt) (f152:Zqr) (c:Option Addr) (o:Int × Int × Int × Int × Int × Int × Int × Int × ByteArray × Int × Unit) (K:Int→Bool→Int→HP) (h:Zb):Prop :=
 newC h [.int .u8 o.1,.int .i64 o.2.1,.int .i64 o.2.2.1,.int .i64 o.2.2.2.1,.int .i64 o.2.2.2.2.1,.int .u8 o.2.2.2.2.2.1,.int .i64 o.2.2.2.2.2.2.1,.int .i64 o.2.2.2.2.2.2.2.1,.string o.2.2.2.2.2.2.2.2.1,.int .i64 o.2.2.2.2.2.2.2.2.2.1] 41 fun b h1 =>
 Zc 0 fun t =>
 Zc 0 fun t2 =>
 Zw c.isNone (
 Zc 0 fun t3 =>
 Zc 1 fun t4 =>
 K t3 false t4 h1) (
 ldI h1 b 0 .u8 fun t5 =>
 f40 t5 (fun t6 t7 h8 =>
 newC h8 [.nilFunc,.bool false] 94 fun b9 h10 =>
 sts h10 b9 0 [t6.1,.bool t6.2.1] fun h11 =>
 ZG t7 fun there =>
 Zg5 (σ:=Unit) (fun s h23 =>
 Zg5 (σ:=Option Addr × Unit) (fun s49 h50 =>
 (fun (t48:Option Addr) =>
 Zd t48 fun b51 o52 =>
 ldI h50 b51 o52 .i64 fun t53 =>
 Zd t48 fun b54 o55 =>
 ldB h50 b54 (o55+1) fun t56 =>
 Zd t48 fun b57 o58 =>
 ldI h50 b57 (o58+2) .i64 fun t59 =>
 Zc t53 fun t60 =>
 ZG t56 fun t61 =>
 Zc t59 fun t62 =>
 K t60 t61 t62 h50) s49.1) (fun J24 =>
 Zd c fun b25 o26 =>
 ldV h23 b9 0 fun t27 =>
 ldI h23 b 0 .u8 fun t28=>ldI h23 b (0+1) .i64 fun t29=>ldI h23 b (0+2) .i64 fun t30=>ldI h23 b (0+3) .i64 fun t31=>ldI h23 b (0+4) .i64 fun t32=>ldI h23 b (0+5) .u8 fun t33=>ldI h23 b (0+6) .i64 fun t34=>ldI h23 b (0+7) .i64 fun t35=>ldS h23 b (0+8) fun t36=>ldI h23 b (0+9) .i64 fun t37 =>
 Zfj (
 (ZmE t27 60 <| f42 (some ⟨b25,o26,none⟩) (t28,t29,t30,t31,t32,t33,t34,t35,t36,t37,()) (fun t39 h38 =>
 newC h38 [.int .i64 0,.bool false,.int .i64 0] 100 fun b40 h41 =>
 sts h41 b40 0 [.int .i64 t39.1,.bool t39.2.1,.int .i64 t39.2.2.1] fun h42 =>
 J24 (some ⟨b40,0,none⟩,()) h42) h23)∨(
 (ZmE t27 61 <| f66 (some ⟨b25,o26,none⟩) (t28,t29,t30,t31,t32,t33,t34,t35,t36,t37,()) (fun t39 h38 =>
 newC h38 [.int .i64 0,.bool false,.int .i64 0] 100 fun b40 h41 =>
 sts h41 b40 0 [.int .i64 t39.1,.bool t39.2.1,.int .i64 t39.2.2.1] fun h42 =>
 J24 (some ⟨b40,0,none⟩,()) h42) h23)∨(
 (ZmE t27 62 <| f80 (some ⟨b25,o26,none⟩) (t28,t29,t30,t31,t32,t33,t34,t35,t36,t37,()) (fun t39 h38 =>
 newC h38 [.int .i64 0,.bool false,.int .i64 0] 100 fun b40 h41 =>
 sts h41 b40 0 [.int .i64 t39.1,.bool t39.2.1,.int .i64 t39.2.2.1] fun h42 =>
 J24 (some ⟨b40,0,none⟩,()) h42) h23)∨(
 (ZmE t27 63 <| f141 (some ⟨b25,o26,none⟩) (t28,t29,t30,t31,t32,t33,t34,t35,t36,t37,()) (fun t39 h38 =>
 newC h38 [.int .i64 0,.bool false,.int .i64 0] 100 fun b40 h41 =>
 sts h41 b40 0 [.int .i64 t39.1,.bool t39.2.1,.int .i64 t39.2.2.1] fun h42 =>
 J24 (some ⟨b40,0,none⟩,()) h42) h23)∨(
 (ZmE t27 64 <| f147 (some ⟨b25,o26,none⟩) (t28,t29,t30,t31,t32,t33,t34,t35,t36,t37,()) (fun t39 h38 =>
 newC h38 [.int .i64 0,.bool false,.int .i64 0] 100 fun b40 h41 =>
 sts h41 b40 0 [.int .i64 t39.1,.bool t39.2.1,.int .i64 t39.2.2.1] fun h42 =>
 J24 (some ⟨b40,0,none⟩,()) h42) h23)∨(
 (ZmE t27 65 <| f148 (some ⟨b25,o26,none⟩) (t28,t29,t30,t31,t32,t33,t34,t35,t36,t37,()) (fun t39 h38 =>
 newC h38 [.int .i64 0,.bool false,.int .i64 0] 100 fun b40 h41 =>
 sts h41 b40 0 [.int .i64 t39.1,.bool t39.2.1,.int .i64 t39.2.2.1] fun h42 =>
 J24 (some ⟨b40,0,none⟩,()) h42) h23)∨(
 (ZmE t27 66 <| f150 (some ⟨b25,o26,none⟩) (t28,t29,t30,t31,t32,t33,t34,t35,t36,t37,()) (fun t39 h38 =>
 newC h38 [.int .i64 0,.bool false,.int .i64 0] 100 fun b40 h41 =>
 sts h41 b40 0 [.int .i64 t39.1,.bool t39.2.1,.int .i64 t39.2.2.1] fun h42 =>
 J24 (some ⟨b40,0,none⟩,()) h42) h23)∨(
 (ZmE t27 67 <| f152 (some ⟨b25,o26,none⟩) (t28,t29,t30,t31,t32,t33,t34,t35,t36,t37,()) (fun t39 h38 =>
 newC h38 [.int .i64 0,.bool false,.int .i64 0] 100 fun b40 h41 =>
 sts h41 b40 0 [.int .i64 t39.1,.bool t39.2.1,.int .i64 t39.2.2.1] fun h42 =>
 J24 (some ⟨b40,0,none⟩,()) h42) h23)∨(
 False))))))))) (
 newC h23 [.int .i64 0,.bool false,.int .i64 0] 100 fun b43 h44 =>
 ZH (Zi h44 [(b,0,.int .u8 t28),(b,0+1,.int .i64 t29),(b,0+2,.int .i64 t30),(b,0+3,.int .i64 t31),(b,0+4,.int .i64 t32),(b,0+5,.int .u8 t33),(b,0+6,.int .i64 t34),(b,0+7,.int .i64 t35),(b,0+8,.string t36),(b,0+9,.int .i64 t37)]) <|
 ZH (Zi h44 [(b9,0,t27)]) <|
 (ZmE t27 60 <| f42 (some ⟨b25,o26,none⟩) (t28,t29,t30,t31,t32,t33,t34,t35,t36,t37,()) (fun t46 h45 =>
 sts h45 b43 0 [.int .i64 t46.1,.bool t46.2.1,.int .i64 t46.2.2.1] fun h47 =>
 J24 (some ⟨b43,0,none⟩,()) h47) h44)∨(
 (ZmE t27 61 <| f66 (some ⟨b25,o26,none⟩) (t28,t29,t30,t31,t32,t33,t34,t35,t36,t37,()) (fun t46 h45 =>
 sts h45 b43 0 [.int .i64 t46.1,.bool t46.2.1,.int .i64 t46.2.2.1] fun h47 =>
 J24 (some ⟨b43,0,none⟩,()) h47) h44)∨(
 (ZmE t27 62 <| f80 (some ⟨b25,o26,none⟩) (t28,t29,t30,t31,t32,t33,t34,t35,t36,t37,()) (fun t46 h45 =>
 sts h45 b43 0 [.int .i64 t46.1,.bool t46.2.1,.int .i64 t46.2.2.1] fun h47 =>
 J24 (some ⟨b43,0,none⟩,()) h47) h44)∨(
 (ZmE t27 63 <| f141 (some ⟨b25,o26,none⟩) (t28,t29,t30,t31,t32,t33,t34,t35,t36,t37,()) (fun t46 h45 =>
 sts h45 b43 0 [.int .i64 t46.1,.bool t46.2.1,.int .i64 t46.2.2.1] fun h47 =>
 J24 (some ⟨b43,0,none⟩,()) h47) h44)∨(
 (ZmE t27 64 <| f147 (some ⟨b25,o26,none⟩) (t28,t29,t30,t31,t32,t33,t34,t35,t36,t37,()) (fun t46 h45 =>
 sts h45 b43 0 [.int .i64 t46.1,.bool t46.2.1,.int .i64 t46.2.2.1] fun h47 =>
 J24 (some ⟨b43,0,none⟩,()) h47) h44)∨(
 (ZmE t27 65 <| f148 (some ⟨b25,o26,none⟩) (t28,t29,t30,t31,t32,t33,t34,t35,t36,t37,()) (fun t46 h45 =>
 sts h45 b43 0 [.int .i64 t46.1,.bool t46.2.1,.int .i64 t46.2.2.1] fun h47 =>
 J24 (some ⟨b43,0,none⟩,()) h47) h44)∨(
 (ZmE t27 66 <| f150 (some ⟨b25,o26,none⟩) (t28,t29,t30,t31,t32,t33,t34,t35,t36,t37,()) (fun t46 h45 =>
 sts h45 b43 0 [.int .i64 t46.1,.bool t46.2.1,.int .i64 t46.2.2.1] fun h47 =>
 J24 (some ⟨b43,0,none⟩,()) h47) h44)∨(
 (ZmE t27 67 <| f152 (some ⟨b25,o26,none⟩) (t28,t29,t30,t31,t32,t33,t34,t35,t36,t37,()) (fun t46 h45 =>
 sts h45 b43 0 [.int .i64 t46.1,.bool t46.2.1,.int .i64 t46.2.2.1] fun h47 =>
 J24 (some ⟨b43,0,none⟩,()) h47) h44)∨(
 False))))))))))) (fun J12 =>
 ZG (!there) fun t13 =>
 Zw t13 (
 Zc 0 fun t14 =>
 Zc 6 fun t15 =>
 K t14 false t15 h11) (
 ldB h11 b9 (0+1) fun t16 =>
 Zw (!t16) (
 ldI h11 b (0+1) .i64 fun t17 =>
 f41 c t17 (fun t18 h19 =>
 ZG t18.isNone fun t20 =>
 Zw t20 (
 Zc 0 fun t21 =>
 Zc 2 fun t22 =>
 K t21 false t22 h19) (
 J12 (()) h19)) h11) (
 J12 (()) h11)))) h1)
def YD:ZlU:=ZcA Zby YF Xw XP Xz YK YL Xy Xx Xf
abbrev Zqq:=(Option Addr)→Sl→(Sl→HP)→HP
def Zb7 (f153:ZlU) (c:Option Addr) (l:Sl) (K:Sl→HP) (h:Zb):Prop :=
 YI (σ:=Sl × Int × Unit) (fun J1 s h2 =>
 (fun (out:Sl) (s11:Int) =>
 Zw (decide (s11<(l.len:Int))) (
 Zap l.ptr l.len s11 10 fun b o =>
 ldI h2 b o .u8 fun t=>ldI h2 b (o+1) .i64 fun t3=>ldI h2 b (o+2) .i64 fun t4=>ldI h2 b (o+3) .i64 fun t5=>ldI h2 b (o+4) .i64 fun t6=>ldI h2 b (o+5) .u8 fun t7=>ldI h2 b (o+6) .i64 fun t8=>ldI h2 b (o+7) .i64 fun t9=>ldS h2 b (o+8) fun t10=>ldI h2 b (o+9) .i64 fun t11 =>
 newC h2 [.int .u8 0,.int .i64 0,.int .i64 0,.int .i64 0,.int .i64 0,.int .u8 0,.int .i64 0,.int .i64 0,.string (ByteArray.mk #[]),.int .i64 0] 41 fun b12 h13 =>
 Zc s11 fun i =>
 sts h13 b12 0 [.int .u8 t,.int .i64 t3,.int .i64 t4,.int .i64 t5,.int .i64 t6,.int .u8 t7,.int .i64 t8,.int .i64 t9,.string t10,.int .i64 t11] fun h14 =>
 Zc 5 fun err =>
 Zw (decide (i<4096)) (
 ldI h14 b12 0 .u8 fun t15=>ldI h14 b12 (0+1) .i64 fun t16=>ldI h14 b12 (0+2) .i64 fun t17=>ldI h14 b12 (0+3) .i64 fun t18=>ldI h14 b12 (0+4) .i64 fun t19=>ldI h14 b12 (0+5) .u8 fun t20=>ldI h14 b12 (0+6) .i64 fun t21=>ldI h14 b12 (0+7) .i64 fun t22=>ldS h14 b12 (0+8) fun t23=>ldI h14 b12 (0+9) .i64 fun t24 =>
 f153 c (t15,t16,t17,t18,t19,t20,t21,t22,t23,t24,()) (fun t25 t26 t27 h28 =>
 Zc t27 fun err29 =>
 newC h28 [.int .i64 err29] 29 fun b30 h31 =>
 rdS ⟨some ⟨b30,0,none⟩,1,1⟩ 1 h31 fun new=>app 29 1 8 [.int .i64 0] out 1 new h31 fun t32 h33 =>
 J1 (t32,IntKind.wrap .i64 (s11+1),()) h33) h14) (
 newC h14 [.int .i64 err] 29 fun b34 h35 =>
 rdS ⟨some ⟨b34,0,none⟩,1,1⟩ 1 h35 fun new38=>app 29 1 8 [.int .i64 0] out 1 new38 h35 fun t36 h37 =>
 J1 (t36,IntKind.wrap .i64 (s11+1),()) h37)) (
 K out h2)) s.1 s.2.1) (⟨none,0,0⟩,0,()) h
def XX:Zqq:=Zb7 YD
abbrev Zqp:=(Option Addr)→Int→((Option Addr)→HP)→HP
def X4 (f41:Zu3) (c:Option Addr) (i:Int) (K:(Option Addr)→HP) (h:Zb):Prop :=
 f41 c i (fun t h1 =>
 Zw t.isSome (
 Zd t fun b o =>
 ldP h1 b o fun t2 =>
 K t2 h1) (
 K none h1)) h
def Xg:Zqp:=X4 YF
abbrev Zqo:=(Option Addr)→(Sl→HP)→HP
def ZcE (c:Option Addr) (K:Sl→HP) (h:Zb):Prop :=
 Zw c.isNone (
 K ⟨none,0,0⟩ h) (
 Zd c fun b o =>
 ldL h b (o+10) fun t =>
 Zd c fun b1 o2 =>
 st h b1 (o2+10) (.slice none 0 0) fun h3 =>
 K t h3)
def Zag:Zqo:=ZcE
abbrev ZlT:=(Option Addr)→Int→(Sl→HP)→HP
def ZaE (f155:Zqp) (f156:Zqo) (c:Option Addr) (i:Int) (K:Sl→HP) (h:Zb):Prop :=
 f155 c i (fun t h1 =>
 f156 t (fun t2 h3 =>
 K t2 h3) h1) h
def Z8:ZlT:=ZaE Xg Zag
abbrev Zqn:=Sl→(Sl→HP)→HP
def YB (s:Sl) (K:Sl→HP) (h:Zb):Prop :=
 Zw s.ptr.isNone (
 K ⟨none,0,0⟩ h) (
 newC h [] 48 fun b h1 =>
 rdS s 9 h1 fun new=>app 48 9 80 [.int .i64 0,.int .i64 0,.int .i64 0,.int .i64 0,.int .u8 0,.int .i64 0,.int .i64 0,.string (ByteArray.mk #[]),.int .i64 0] ⟨some ⟨b,0,none⟩,0,0⟩ s.len new h1 fun t h2 =>
 K t h2)
def Ya:Zqn:=YB
abbrev ZlS:=(Option Addr)→(Sl→HP)→HP
def Zbi (f158:Zqn) (c:Option Addr) (K:Sl→HP) (h:Zb):Prop :=
 Zw c.isNone (
 K ⟨none,0,0⟩ h) (
 Zd c fun b o =>
 ldL h b (o+5) fun t =>
 f158 t (fun t1 h2 =>
 K t1 h2) h)
def Yy:ZlS:=Zbi Ya
abbrev Zqm:=(Bool→HP)→HP
def Zcr (f20:Zu6) (f39:Zu4) (f154:Zqq) (f157:ZlT) (f159:ZlS) (K:Bool→HP) (h:Zb):Prop :=
 f20 0 1 (1000000,1,2,()) (fun t t1 h2 =>
 Zc t1 fun e =>
 Zw (e !=0) (
 K false h2) (
 Zw t.isNone (
 K false h2) (
 newC h2 [.int .i64 1,.int .i64 2,.int .i64 1,.int .i64 0] 46 fun b h3 =>
 f39 t ⟨some ⟨b,0,none⟩,1,1⟩ (fun t4 h5 =>
 Zc t4 fun f =>
 newC h5 [.int .u8 0,.int .i64 0,.int .i64 0,.int .i64 0,.int .i64 0,.int .u8 0,.int .i64 0,.int .i64 0,.string (ByteArray.mk #[]),.int .i64 0] 41 fun b6 h7 =>
 sts h7 b6 0 [.int .u8 2,.int .i64 0,.int .i64 0,.int .i64 0,.int .i64 0,.int .u8 1,.int .i64 1,.int .i64 2,.string (ByteArray.mk #[]),.int .i64 0] fun h8 =>
 ldI h8 b6 0 .u8 fun t9=>ldI h8 b6 (0+1) .i64 fun t10=>ldI h8 b6 (0+2) .i64 fun t11=>ldI h8 b6 (0+3) .i64 fun t12=>ldI h8 b6 (0+4) .i64 fun t13=>ldI h8 b6 (0+5) .u8 fun t14=>ldI h8 b6 (0+6) .i64 fun t15=>ldI h8 b6 (0+7) .i64 fun t16=>ldS h8 b6 (0+8) fun t17=>ldI h8 b6 (0+9) .i64 fun t18 =>
 ldI h8 b6 0 .u8 fun t19=>ldI h8 b6 (0+1) .i64 fun t20=>ldI h8 b6 (0+2) .i64 fun t21=>ldI h8 b6 (0+3) .i64 fun t22=>ldI h8 b6 (0+4) .i64 fun t23=>ldI h8 b6 (0+5) .u8 fun t24=>ldI h8 b6 (0+6) .i64 fun t25=>ldI h8 b6 (0+7) .i64 fun t26=>ldS h8 b6 (0+8) fun t27=>ldI h8 b6 (0+9) .i64 fun t28 =>
 newC h8 [.int .u8 1,.int .i64 0,.int .i64 2000000,.int .i64 0,.int .i64 0,.int .u8 0,.int .i64 0,.int .i64 0,.string (ByteArray.mk #[]),.int .i64 0,.int .u8 3,.int .i64 0,.int .i64 0,.int .i64 0,.int .i64 0,.int .u8 0,.int .i64 0,.int .i64 0,.string (ByteArray.mk #[]),.int .i64 0,.int .u8 t9,.int .i64 t10,.int .i64 t11,.int .i64 t12,.int .i64 t13,.int .u8 t14,.int .i64 t15,.int .i64 t16,.string t17,.int .i64 t18,.int .u8 t19,.int .i64 t20,.int .i64 t21,.int .i64 t22,.int .i64 t23,.int .u8 t24,.int .i64 t25,.int .i64 t26,.string t27,.int .i64 t28,.int .u8 4,.int .i64 0,.int .i64 0,.int .i64 1000,.int .i64 0,.int .u8 0,.int .i64 0,.int .i64 0,.string (ByteArray.mk #[]),.int .i64 0,.int .u8 5,.int .i64 0,.int .i64 0,.int .i64 1000,.int .i64 0,.int .u8 0,.int .i64 0,.int .i64 0,.string (ByteArray.mk #[]),.int .i64 0] 41 fun b29 h30 =>
 f154 t ⟨some ⟨b29,0,none⟩,6,6⟩ (fun t31 h32 =>
 Zc 0 fun i =>
 YI (σ:=Int × Unit) (fun J34 s h35 =>
 (fun (i33:Int) =>
 Zw (decide (i33<(t31.len:Int))) (
 Zap t31.ptr t31.len i33 1 fun b36 o =>
 ldI h35 b36 o .i64 fun t37 =>
 Zw (t37 !=0) (
 K false h35) (
 Zc (IntKind.wrap .i64 (i33+1)) fun i38 =>
 J34 (i38,()) h35)) (
 f157 t 0 (fun t39 h40 =>
 Zw (f ==0) (
 Zw ((t31.len:Int) ==6) (
 Zw ((t39.len:Int) ==2) (
 Zap t39.ptr t39.len 0 7 fun b41 o42 =>
 ldI h40 b41 (o42+1+1) .u8 fun t43 =>
 Zw (t43 ==1) (
 Zap t39.ptr t39.len 1 7 fun b44 o45 =>
 ldI h40 b44 (o45+1+1) .u8 fun t46 =>
 Zw (t46 ==2) (
 f159 t (fun t47 h48 =>
 ZG ((t47.len:Int) ==1) fun t49 =>
 K t49 h48) h40) (
 K false h40)) (
 K false h40)) (
 K false h40)) (
 K false h40)) (
 K false h40)) h35)) s.1) (i,()) h32) h30) h3))) h
def Xv:Zqm:=Zcr Zbr Yf XX Z8 Yy
abbrev Zql:=(Option Addr)→(Int→HP)→HP
def Zb8 (c:Option Addr) (K:Int→HP) (h:Zb):Prop :=
 Zc 0 fun t =>
 Zw c.isNone (
 Zc 0 fun t1 =>
 K t1 h) (
 Zd c fun b o =>
 ldI h b (o+4) .i64 fun t2 =>
 Zc t2 fun t3 =>
 K t3 h)
def XY:Zql:=Zb8
abbrev ZyR:=(Int × Int × Int × Int × Int × Sl × Unit)→Sl→(Bool→HP)→HP
def X8 (f20:Zu6) (f160:Zqm) (f39:Zu4) (f153:ZlU) (f159:ZlS) (f157:ZlT) (f161:Zql) (s:Int × Int × Int × Int × Int × Sl × Unit) (l:Sl) (K:Bool→HP) (h:Zb):Prop :=
 newC h [.int .i64 s.1,.int .i64 s.2.1,.int .i64 s.2.2.1,.int .i64 s.2.2.2.1,.int .i64 s.2.2.2.2.1,.slice s.2.2.2.2.2.1.ptr s.2.2.2.2.2.1.len s.2.2.2.2.2.1.cap] 26 fun b h1 =>
 ldI h1 b 0 .i64 fun t =>
 ldI h1 b (0+1) .i64 fun t2 =>
 ldI h1 b (0+2) .i64 fun t3=>ldI h1 b (0+2+1) .i64 fun t4=>ldI h1 b (0+2+2) .i64 fun t5 =>
 f20 t t2 (t3,t4,t5,()) (fun t6 t7 h8 =>
 Zc t7 fun e =>
 Zw (e !=0) (
 f160 (fun t9 h10 =>
 Zw t9 (
 ZG t6.isNone fun t11 =>
 K t11 h10) (
 K false h10)) h8) (
 ldL h8 b (0+5) fun t12 =>
 f39 t6 t12 (fun t13 h14 =>
 Zci h14 fun b15 h16 =>
 Zci h16 fun b17 h18 =>
 Zc 0 fun i =>
 YI (σ:=Int × Unit) (fun J20 s21 h22 =>
 (fun (i19:Int) =>
 Zw (decide (i19<(l.len:Int))) (
 Zw (decide (i19<100)) (
 Zap l.ptr l.len i19 10 fun b23 o =>
 ldI h22 b23 o .u8 fun t24=>ldI h22 b23 (o+1) .i64 fun t25=>ldI h22 b23 (o+2) .i64 fun t26=>ldI h22 b23 (o+3) .i64 fun t27=>ldI h22 b23 (o+4) .i64 fun t28=>ldI h22 b23 (o+5) .u8 fun t29=>ldI h22 b23 (o+6) .i64 fun t30=>ldI h22 b23 (o+7) .i64 fun t31=>ldS h22 b23 (o+8) fun t32=>ldI h22 b23 (o+9) .i64 fun t33 =>
 f153 t6 (t24,t25,t26,t27,t28,t29,t30,t31,t32,t33,()) (fun t34 t35 t36 h37 =>
 Zc t34 fun n =>
 ZG t35 fun fall =>
 Zc t36 fun e38 =>
 Zg5 (σ:=Unit) (fun s65 h66 =>
 f159 t6 (fun t67 h68 =>
 Zc 0 fun k =>
 YI (σ:=Int × Unit) (fun J70 s71 h72 =>
 (fun (k69:Int) =>
 ldI h72 b (0+1) .i64 fun t73 =>
 Zw (decide (k69<t73)) (
 f157 t6 k69 (fun t74 h75 =>
 Zc 0 fun x =>
 YI (σ:=Int × Unit) (fun J77 s78 h79 =>
 (fun (x76:Int) =>
 Zw (decide (x76<(t74.len:Int))) (
 Zap t74.ptr t74.len x76 7 fun b80 o81 =>
 ldB h79 b80 (o81+6) fun t82 =>
 Zw t82 (
 Zc (IntKind.wrap .i64 (x76+1)) fun x83 =>
 J77 (x83,()) h79) (
 Zap t74.ptr t74.len x76 7 fun b84 o85 =>
 ldI h79 b84 (o85+1+1) .u8 fun t86 =>
 Zw (t86 !=1) (
 Zc (IntKind.wrap .i64 (x76+1)) fun x87 =>
 J77 (x87,()) h79) (
 Zc 0 fun y =>
 YI (σ:=Bool × Int × Unit) (fun J89 s90 h91 =>
 (fun (found:Bool) (y88:Int) =>
 Zw (decide (y88<(t67.len:Int))) (
 Zw (!found) (
 XF (.int .i64) h91 (some b15) (.int .i64 y88) fun r=>asB (r.getD (.bool false)) fun t92 =>
 Zw (!t92) (
 Zap t67.ptr t67.len y88 9 fun b93 o94 =>
 ldI h91 b93 (o94+1) .i64 fun t95 =>
 Zw (t95 ==k69) (
 Zap t67.ptr t67.len y88 9 fun b96 o97 =>
 Zap t74.ptr t74.len x76 7 fun b98 o99 =>
 ldI h91 b96 (o97+2) .i64 fun t100 =>
 ldI h91 b98 o99 .i64 fun t101 =>
 Zw (t100 ==t101) (
 Zap t67.ptr t67.len y88 9 fun b102 o103 =>
 Zap t74.ptr t74.len x76 7 fun b104 o105 =>
 ldI h91 b102 (o103+3) .i64 fun t106=>ldI h91 b102 (o103+3+1) .u8 fun t107=>ldI h91 b102 (o103+3+2) .i64 fun t108=>ldI h91 b102 (o103+3+3) .i64 fun t109=>ldS h91 b102 (o103+3+4) fun t110=>ldI h91 b102 (o103+3+5) .i64 fun t111 =>
 ldI h91 b104 o105 .i64 fun t112 =>
 Zfv [(.int .i64),(.int .i64)] h91 (some b17) [.int .i64 k69,.int .i64 t112] fun r113=>exG (r113.getD (.agg #[.int .i64 0,.int .u8 0,.int .i64 0,.int .i64 0,.string (ByteArray.mk #[]),.int .i64 0])) (fun t114:Int × Int × Int × Int × ByteArray × Int × Unit=> .agg #[.int .i64 t114.1,.int .u8 t114.2.1,.int .i64 t114.2.2.1,.int .i64 t114.2.2.2.1,.string t114.2.2.2.2.1,.int .i64 t114.2.2.2.2.2.1]) fun t114 =>
 ZH (Zi h91 [(b104,o105,.int .i64 t112)]) <|
 ZH (Zi h91 [(b102,o103+3,.int .i64 t106),(b102,o103+3+1,.int .u8 t107),(b102,o103+3+2,.int .i64 t108),(b102,o103+3+3,.int .i64 t109),(b102,o103+3+4,.string t110),(b102,o103+3+5,.int .i64 t111)]) <|
 ZH (Zi h91 [(b98,o99,.int .i64 t101)]) <|
 ZH (Zi h91 [(b96,o97+2,.int .i64 t100)]) <|
 ZH (Zi h91 [(b93,o94+1,.int .i64 t95)]) <|
 Zw (bif t106 ==t114.1 then (bif t107 ==t114.2.1 then (bif t108 ==t114.2.2.1 then (bif t109 ==t114.2.2.2.1 then (bif ZaF t110 t114.2.2.2.2.1 then (bif t111 ==t114.2.2.2.2.2.1 then true else false) else false) else false) else false) else false) else false) (
 Zap t67.ptr t67.len y88 9 fun b115 o116 =>
 ldI h91 b115 o116 .i64 fun t117 =>
 f161 t6 (fun t118 h119 =>
 ZH (Zi h119 [(b115,o116,.int .i64 t117)]) <|
 ZH (Zi h119 [(b104,o105,.int .i64 t112)]) <|
 ZH (Zi h119 [(b102,o103+3,.int .i64 t106),(b102,o103+3+1,.int .u8 t107),(b102,o103+3+2,.int .i64 t108),(b102,o103+3+3,.int .i64 t109),(b102,o103+3+4,.string t110),(b102,o103+3+5,.int .i64 t111)]) <|
 ZH (Zi h119 [(b98,o99,.int .i64 t101)]) <|
 ZH (Zi h119 [(b96,o97+2,.int .i64 t100)]) <|
 ZH (Zi h119 [(b93,o94+1,.int .i64 t95)]) <|
 Zw (decide (t117≤t118)) (
 X9 (.int .i64) h119 (some b15) (.int .i64 y88) (.bool true) fun h120 =>
 Zc (IntKind.wrap .i64 (y88+1)) fun y121 =>
 J89 (true,y121,()) h120) (
 Zc (IntKind.wrap .i64 (y88+1)) fun y122 =>
 J89 (found,y122,()) h119)) h91) (
 Zc (IntKind.wrap .i64 (y88+1)) fun y123 =>
 J89 (found,y123,()) h91)) (
 Zc (IntKind.wrap .i64 (y88+1)) fun y124 =>
 J89 (found,y124,()) h91)) (
 Zc (IntKind.wrap .i64 (y88+1)) fun y125 =>
 J89 (found,y125,()) h91)) (
 Zc (IntKind.wrap .i64 (y88+1)) fun y126 =>
 J89 (found,y126,()) h91)) (
 Zw (!found) (
 K false h91) (
 Zc (IntKind.wrap .i64 (x76+1)) fun x127 =>
 J77 (x127,()) h91))) (
 Zw (!found) (
 K false h91) (
 Zc (IntKind.wrap .i64 (x76+1)) fun x128 =>
 J77 (x128,()) h91))) s90.1 s90.2.1) (false,y,()) h79))) (
 Zc (IntKind.wrap .i64 (k69+1)) fun k129 =>
 J70 (k129,()) h79)) s78.1) (x,()) h75) h72) (
 Zc (IntKind.wrap .i64 (i19+1)) fun i130 =>
 J20 (i130,()) h72)) s71.1) (k,()) h68) h66) (fun J39 =>
 Zap l.ptr l.len i19 10 fun b40 o41 =>
 ldI h37 b40 o41 .u8 fun t42 =>
 Zw (t42 ==2) (
 Zw (e38 ==0) (
 Zw (!fall) (
 Zap l.ptr l.len i19 10 fun b43 o44 =>
 ldI h37 b43 (o44+4) .i64 fun t45=>ldI h37 b43 (o44+4+1) .u8 fun t46=>ldI h37 b43 (o44+4+2) .i64 fun t47=>ldI h37 b43 (o44+4+3) .i64 fun t48=>ldS h37 b43 (o44+4+4) fun t49=>ldI h37 b43 (o44+4+5) .i64 fun t50 =>
 newC h37 [.int .i64 0,.int .u8 0,.int .i64 0,.int .i64 0,.string (ByteArray.mk #[]),.int .i64 0] 39 fun b51 h52 =>
 sts h52 b51 0 [.int .i64 t45,.int .u8 t46,.int .i64 t47,.int .i64 t48,.string t49,.int .i64 t50] fun h53 =>
 st h53 b51 0 (.int .i64 n) fun h54 =>
 Zap l.ptr l.len i19 10 fun b55 o56 =>
 ldI h54 b55 (o56+1) .i64 fun t57 =>
 ldI h54 b51 0 .i64 fun t58=>ldI h54 b51 (0+1) .u8 fun t59=>ldI h54 b51 (0+2) .i64 fun t60=>ldI h54 b51 (0+3) .i64 fun t61=>ldS h54 b51 (0+4) fun t62=>ldI h54 b51 (0+5) .i64 fun t63 =>
 Zfu [(.int .i64),(.int .i64)] h54 (some b17) [.int .i64 t57,.int .i64 n] (.agg #[.int .i64 t58,.int .u8 t59,.int .i64 t60,.int .i64 t61,.string t62,.int .i64 t63]) fun h64 =>
 J39 (()) h64) (
 J39 (()) h37)) (
 J39 (()) h37)) (
 J39 (()) h37))) h22) (
 f160 (fun t131 h132 =>
 ZG t131 fun t133 =>
 K t133 h132) h22)) (
 f160 (fun t134 h135 =>
 ZG t134 fun t136 =>
 K t136 h135) h22)) s21.1) (i,()) h18) h8)) h1
def X7:ZyR:=X8 Zbr Xv Yf YD Yy Z8 XY
end Go.Proofs.YtbppjmcinoffnaaGreat
