/- The models of the functions. Written by a program out of the translated functions. -/
import GoSem.Machine.Frame
import GoSem.Op.String
import Derived.Test.YtpjbjdheeemdiaaGreatDoorPa1
set_option linter.unusedVariables false
set_option linter.unusedSimpArgs false
namespace Go.Proofs.YtpjbjdheeemdiaaGreatDoor
open Go Go.Fw
abbrev zT0:=ByteArray→Int→(Int→HP)→HP
abbrev zT1:=(Option Addr)→(HP)→HP
def ZaZ (f0:zT0) (r:Option Addr) (K:HP) (h:Ze):Prop :=
 Zan (σ:=Unit) (fun J1 s h2 =>
 Zb r fun b o =>
 ldI h2 b (o+1) .i64 fun t =>
 Zb r fun b3 o4 =>
 ldS h2 b3 o4 fun t5 =>
 Zp (decide (t<(t5.size:Int))) (
 Zb r fun b6 o7 =>
 ldS h2 b6 o7 fun t8 =>
 Zb r fun b9 o10 =>
 ldI h2 b9 (o10+1) .i64 fun t11 =>
 ZeH t8 t11 fun t12 =>
 Zbe (ρ:=Int × Unit) (fun K h=>f0 (ByteArray.mk #[32,9,10,13]) t12 (fun q h=>K (q,()) h) h) h2 fun r14 =>
 Zp (decide (r14.1≥0)) (
 Zb r fun b15 o16 =>
 ldI h2 b15 (o16+1) .i64 fun t17 =>
 Zb r fun b18 o19 =>
 st h2 b18 (o19+1) (.int .i64 (IntKind.wrap .i64 (t17+1))) fun h20 =>
 J1 (()) h20) (
 K h2)) (
 K h2)) (()) h
def ZH:zT1:=ZaZ Yq
abbrev zT2:=(Option Addr)→(Int→HP)→HP
def ZbT (r:Option Addr) (K:Int→HP) (h:Ze):Prop :=
 Zk 0 fun t =>
 Zb r fun b o =>
 ldI h b (o+1) .i64 fun t1 =>
 Zb r fun b2 o3 =>
 ldS h b2 o3 fun t4 =>
 Zp (decide (t1<(t4.size:Int))) (
 Zb r fun b5 o6 =>
 ldS h b5 o6 fun t7 =>
 Zb r fun b8 o9 =>
 ldI h b8 (o9+1) .i64 fun t10 =>
 ZeH t7 t10 fun t11 =>
 Zk t11 fun t12 =>
 K t12 h) (
 Zk 0 fun t13 =>
 K t13 h)
def Zv:zT2:=ZbT
abbrev zT3:=(Option Addr)→Int→Int→(HP)→(Value→HP)→HP
def XQ (r:Option Addr) (e:Int) (at_:Int) (K:HP) (P:Value→HP) (h:Ze):Prop :=
 Zb r fun b o =>
 ldS h b o fun t =>
 Zp (decide (at_≥(t.size:Int))) (
 Zb r fun b1 o2 =>
 ldS h b1 o2 fun t3 =>
 P (.iface 160 (.agg #[.int .i64 24,.int .i64 (t3.size:Int)])) h) (
 P (.iface 160 (.agg #[.int .i64 e,.int .i64 at_])) h)
def Zo:zT3:=XQ
abbrev zT5:=(Option Addr)→(HP)→HP
abbrev zT6:=(Option Addr)→Int→(Value→HP)→HP
def YJ (f5:zT5) (b:Option Addr) (c:Int) (K:Value→HP) (h:Ze):Prop :=
 f5 b (fun h1 =>
 Zb b fun b2 o =>
 ldL h1 b2 (o+1) fun t =>
 newC h1 [.int .u8 c] 5 fun b3 h4 =>
 rdS ⟨some ⟨b3,0,none⟩,1,1⟩ 1 h4 fun new=>app 5 1 1 [.int .u8 0] t 1 new h4 fun t5 h6 =>
 Zb b fun b7 o8 =>
 st h6 b7 (o8+1) (.slice t5.ptr t5.len t5.cap) fun h9 =>
 K .nilIface h9) h
def Zz:zT6:=YJ ZK
abbrev zT7:=(Option Addr)→(Int→HP)→(Value→HP)→HP
def Zb7 (f2:zT2) (f3:zT3) (r:Option Addr) (K:Int→HP) (P:Value→HP) (h:Ze):Prop :=
 Zk 0 fun t =>
 Zk 0 fun n =>
 Zan (σ:=Int × Int × Unit) (fun J2 s h3 =>
 (fun (n1:Int) (s5:Int) =>
 Zp (decide (s5<4)) (
 f2 r (fun t4 h5 =>
 Zk t4 fun c =>
 Zaq (σ:=Int × Unit) (fun s33 h34 =>
 (fun (n32:Int) =>
 Zb r fun b35 o36 =>
 ldI h34 b35 (o36+1) .i64 fun t37 =>
 Zb r fun b38 o39 =>
 st h34 b38 (o39+1) (.int .i64 (IntKind.wrap .i64 (t37+1))) fun h40 =>
 J2 (n32,IntKind.wrap .i64 (s5+1),()) h40) s33.1) (fun J6 =>
 Zaq (σ:=Bool × Unit) (fun s9 h10 =>
 (fun (s15:Bool) =>
 Zp s15 (
 Zby (0≤(4:Int)) <|
 Zk (orV .i32 (ZmF .i32 n1 4) (IntKind.wrap .i32 (IntKind.wrap .u8 (c - 48)))) fun n11 =>
 J6 (n11,()) h10) (
 Zp (decide (c≥97)) (
 ZF (decide (c≤102)) fun t12 =>
 Zp t12 (
 Zby (0≤(4:Int)) <|
 Zk (orV .i32 (ZmF .i32 n1 4) (IntKind.wrap .i32 (IntKind.wrap .u8 ((IntKind.wrap .u8 (c - 97))+10)))) fun n13 =>
 J6 (n13,()) h10) (
 Zp (decide (c≥65)) (
 ZF (decide (c≤70)) fun t14 =>
 Zp t14 (
 Zby (0≤(4:Int)) <|
 Zk (orV .i32 (ZmF .i32 n1 4) (IntKind.wrap .i32 (IntKind.wrap .u8 ((IntKind.wrap .u8 (c - 65))+10)))) fun n15 =>
 J6 (n15,()) h10) (
 Zb r fun b o =>
 ldI h10 b (o+1) .i64 fun t16 =>
 f3 r 22 t16 (fun h17 =>
 J6 (n1,()) h17) P h10)) (
 Zb r fun b18 o19 =>
 ldI h10 b18 (o19+1) .i64 fun t20 =>
 f3 r 22 t20 (fun h21 =>
 J6 (n1,()) h21) P h10))) (
 Zp (decide (c≥65)) (
 ZF (decide (c≤70)) fun t22 =>
 Zp t22 (
 Zby (0≤(4:Int)) <|
 Zk (orV .i32 (ZmF .i32 n1 4) (IntKind.wrap .i32 (IntKind.wrap .u8 ((IntKind.wrap .u8 (c - 65))+10)))) fun n23 =>
 J6 (n23,()) h10) (
 Zb r fun b24 o25 =>
 ldI h10 b24 (o25+1) .i64 fun t26 =>
 f3 r 22 t26 (fun h27 =>
 J6 (n1,()) h27) P h10)) (
 Zb r fun b28 o29 =>
 ldI h10 b28 (o29+1) .i64 fun t30 =>
 f3 r 22 t30 (fun h31 =>
 J6 (n1,()) h31) P h10)))) s9.1) (fun J7 =>
 Zp (decide (c≥48)) (
 ZF (decide (c≤57)) fun t8 =>
 J7 (t8,()) h5) (
 J7 (false,()) h5)))) h3) (
 Zk n1 fun t41 =>
 K t41 h3)) s.1 s.2.1) (n,0,()) h
def X4:zT7:=Zb7 Zv Zo
abbrev zT8:=ByteArray→ByteArray→(Bool→HP)→HP
def Yo (s:ByteArray) (prefix_:ByteArray) (K:Bool→HP) (h:Ze):Prop :=
 Zp (decide ((s.size:Int)≥(prefix_.size:Int))) (
 ZfW s 0 (prefix_.size:Int) fun t =>
 ZF (Za2 t prefix_) fun t1 =>
 K t1 h) (
 K false h)
def ZA:zT8:=Yo
abbrev zT9:=ByteArray→ByteArray→(Bool→HP)→HP
def Zbg (f8:zT8) (s:ByteArray) (prefix_:ByteArray) (K:Bool→HP) (h:Ze):Prop :=
 f8 s prefix_ (fun t h1 =>
 ZF t fun t2 =>
 K t2 h1) h
def Xq:zT9:=Zbg ZA
abbrev ZuG:=Sl→Int→(Sl→HP)→HP
def YI (p:Sl) (r:Int) (K:Sl→HP) (h:Ze):Prop :=
 Zk (IntKind.wrap .u32 r) fun i =>
 ZF (decide (i≤2047)) fun t =>
 Zp t (
 Zby (0≤(6:Int)) <|
 newC h [.int .u8 (orV .u8 (192:Int) (IntKind.wrap .u8 (Zh5 .i32 r 6))),.int .u8 (orV .u8 (128:Int) (Zh1 .u8 (IntKind.wrap .u8 r) 63))] 5 fun b h1 =>
 rdS ⟨some ⟨b,0,none⟩,2,2⟩ 1 h1 fun new=>app 5 1 1 [.int .u8 0] p 2 new h1 fun t2 h3 =>
 K t2 h3) (
 Zaq (σ:=Bool × Unit) (fun s h7 =>
 (fun (s25:Bool) =>
 Zp s25 (
 Zby (0≤(12:Int)) <|
 Zby (0≤(6:Int)) <|
 newC h7 [.int .u8 (orV .u8 (224:Int) (IntKind.wrap .u8 (Zh5 .i32 r 12))),.int .u8 (orV .u8 (128:Int) (Zh1 .u8 (IntKind.wrap .u8 (Zh5 .i32 r 6)) 63)),.int .u8 (orV .u8 (128:Int) (Zh1 .u8 (IntKind.wrap .u8 r) 63))] 5 fun b8 h9 =>
 rdS ⟨some ⟨b8,0,none⟩,3,3⟩ 1 h9 fun new12=>app 5 1 1 [.int .u8 0] p 3 new12 h9 fun t10 h11 =>
 K t10 h11) (
 Zp (decide (i>65535)) (
 ZF (decide (i≤1114111)) fun t13 =>
 Zp t13 (
 Zby (0≤(18:Int)) <|
 Zby (0≤(12:Int)) <|
 Zby (0≤(6:Int)) <|
 newC h7 [.int .u8 (orV .u8 (240:Int) (IntKind.wrap .u8 (Zh5 .i32 r 18))),.int .u8 (orV .u8 (128:Int) (Zh1 .u8 (IntKind.wrap .u8 (Zh5 .i32 r 12)) 63)),.int .u8 (orV .u8 (128:Int) (Zh1 .u8 (IntKind.wrap .u8 (Zh5 .i32 r 6)) 63)),.int .u8 (orV .u8 (128:Int) (Zh1 .u8 (IntKind.wrap .u8 r) 63))] 5 fun b14 h15 =>
 rdS ⟨some ⟨b14,0,none⟩,4,4⟩ 1 h15 fun new18=>app 5 1 1 [.int .u8 0] p 4 new18 h15 fun t16 h17 =>
 K t16 h17) (
 newC h7 [.int .u8 239,.int .u8 191,.int .u8 189] 5 fun b19 h20 =>
 rdS ⟨some ⟨b19,0,none⟩,3,3⟩ 1 h20 fun new23=>app 5 1 1 [.int .u8 0] p 3 new23 h20 fun t21 h22 =>
 K t21 h22)) (
 newC h7 [.int .u8 239,.int .u8 191,.int .u8 189] 5 fun b24 h25 =>
 rdS ⟨some ⟨b24,0,none⟩,3,3⟩ 1 h25 fun new28=>app 5 1 1 [.int .u8 0] p 3 new28 h25 fun t26 h27 =>
 K t26 h27))) s.1) (fun J4 =>
 ZF (decide (i<55296)) fun t5 =>
 Zp t5 (
 J4 (t5,()) h) (
 Zp (decide ((57343:Int)<i)) (
 ZF (decide (i≤65535)) fun t6 =>
 J4 (t6,()) h) (
 J4 (false,()) h))))
def Yh:ZuG:=YI
abbrev ZuF:=Sl→Int→(Sl→HP)→HP
def XV (f10:ZuG) (p:Sl) (r:Int) (K:Sl→HP) (h:Ze):Prop :=
 Zp (decide ((IntKind.wrap .u32 r)≤127)) (
 newC h [.int .u8 (IntKind.wrap .u8 r)] 5 fun b h1 =>
 rdS ⟨some ⟨b,0,none⟩,1,1⟩ 1 h1 fun new=>app 5 1 1 [.int .u8 0] p 1 new h1 fun t h2 =>
 K t h2) (
 f10 p r (fun t3 h4 =>
 K t3 h4) h)
def Yy:ZuF:=XV Yh
abbrev ZuE:=(Option Addr)→Int→(Int→Value→HP)→HP
def Xw (f5:zT5) (f11:ZuF) (b:Option Addr) (r:Int) (K:Int→Value→HP) (h:Ze):Prop :=
 Zk 0 fun t =>
 f5 b (fun h1 =>
 Zb b fun b2 o =>
 ldL h1 b2 (o+1) fun t3 =>
 Zk (t3.len:Int) fun n =>
 Zb b fun b4 o5 =>
 ldL h1 b4 (o5+1) fun t6 =>
 f11 t6 r (fun t7 h8 =>
 Zb b fun b9 o10 =>
 st h8 b9 (o10+1) (.slice t7.ptr t7.len t7.cap) fun h11 =>
 Zb b fun b12 o13 =>
 ldL h11 b12 (o13+1) fun t14 =>
 Zk (IntKind.wrap .i64 ((t14.len:Int) - n)) fun t15 =>
 K t15 .nilIface h11) h1) h
def Yr:ZuE:=Xw ZK Yy
abbrev ZuD:=(Option Addr)→(Option Addr)→(HP)→(Value→HP)→HP
def ZaX (f2:zT2) (f0:zT0) (f6:zT6) (f3:zT3) (f7:zT7) (f9:zT9) (f12:ZuE) (r:Option Addr) (b:Option Addr) (K:HP) (P:Value→HP) (h:Ze):Prop :=
 f2 r (fun t h1 =>
 Zk t fun c =>
 Zaq (σ:=Unit) (fun s h19 =>
 Zaq (σ:=Unit) (fun s25 h26 =>
 Zb r fun b27 o28 =>
 ldI h26 b27 (o28+1) .i64 fun t29 =>
 Zb r fun b30 o31 =>
 st h26 b30 (o31+1) (.int .i64 (IntKind.wrap .i64 (t29+1))) fun h32 =>
 f7 r (fun t33 h34 =>
 Zk t33 fun n =>
 Zaq (σ:=Unit) (fun s68 h69 =>
 Zaq (σ:=Int × Unit) (fun s73 h74 =>
 (fun (n72:Int) =>
 f12 b n72 (fun t75 t76 h77 =>
 K h77) h74) s73.1) (fun J70 =>
 Zp (decide (n≥55296)) (
 Zp (decide (n<57344)) (
 Zk 65533 fun n71 =>
 J70 (n71,()) h69) (
 J70 (n,()) h69)) (
 J70 (n,()) h69))) (fun J35 =>
 Zaq (σ:=Bool × Unit) (fun s46 h47 =>
 (fun (s72:Bool) =>
 Zp s72 (
 Zb r fun b48 o49 =>
 ldI h47 b48 (o49+1) .i64 fun t50 =>
 Zk t50 fun was =>
 Zb r fun b51 o52 =>
 ldI h47 b51 (o52+1) .i64 fun t53 =>
 Zb r fun b54 o55 =>
 st h47 b54 (o55+1) (.int .i64 (IntKind.wrap .i64 (t53+2))) fun h56 =>
 f7 r (fun t57 h58 =>
 Zk t57 fun low =>
 Zp (decide (low≥56320)) (
 Zp (decide (low<57344)) (
 Zby (0≤(10:Int)) <|
 f12 b (IntKind.wrap .i32 ((IntKind.wrap .i32 ((65536:Int)+(ZmF .i32 (IntKind.wrap .i32 (n - 55296)) 10)))+(IntKind.wrap .i32 (low - 56320)))) (fun t59 t60 h61 =>
 K h61) h58) (
 Zb r fun b62 o63 =>
 st h58 b62 (o63+1) (.int .i64 was) fun h64 =>
 J35 (()) h64)) (
 Zb r fun b65 o66 =>
 st h58 b65 (o66+1) (.int .i64 was) fun h67 =>
 J35 (()) h67)) P h56) (
 J35 (()) h47)) s46.1) (fun J36 =>
 Zp (decide (n≥55296)) (
 Zp (decide (n<56320)) (
 Zb r fun b37 o38 =>
 ldS h34 b37 o38 fun t39 =>
 Zb r fun b40 o41 =>
 ldI h34 b40 (o41+1) .i64 fun t42 =>
 ZfW t39 t42 t39.size fun t43 =>
 Zbe (ρ:=Bool × Unit) (fun K h=>f9 t43 (ByteArray.mk #[92,117]) (fun q h=>K (q,()) h) h) h34 fun r45 =>
 J36 (r45.1,()) h34) (
 J36 (false,()) h34)) (
 J36 (false,()) h34)))) P h32) (fun J20 =>
 Zp (c !=117) (
 Zb r fun b21 o22 =>
 ldI h19 b21 (o22+1) .i64 fun t23 =>
 f3 r 22 t23 (fun h24 =>
 J20 (()) h24) P h19) (
 J20 (()) h19))) (fun J2 =>
 f0 (ByteArray.mk #[34,92,47,98,102,110,114,116]) c (fun t3 h4 =>
 Zk t3 fun i =>
 Zp (decide (i≥0)) (
 Zb r fun b5 o =>
 ldI h4 b5 (o+1) .i64 fun t6 =>
 Zb r fun b7 o8 =>
 ldS h4 b7 o8 fun t9 =>
 Zp (decide (t6<(t9.size:Int))) (
 ZeH (ByteArray.mk #[34,92,47,8,12,10,13,9]) i fun t10 =>
 f6 b t10 (fun t11 h12 =>
 Zb r fun b13 o14 =>
 ldI h12 b13 (o14+1) .i64 fun t15 =>
 Zb r fun b16 o17 =>
 st h12 b16 (o17+1) (.int .i64 (IntKind.wrap .i64 (t15+1))) fun h18 =>
 K h18) h4) (
 J2 (()) h4)) (
 J2 (()) h4)) h1)) h
def Xe:ZuD:=ZaX Zv Yq Zz Zo X4 Xq Yr
abbrev ZwL:=ByteArray→(Int→HP)→HP
abbrev Zor:=ByteArray→(Bool→HP)→HP
abbrev ZuC:=ByteArray→(Bool→HP)→HP
def Zdy (f14:ZwL) (f15:Zor) (s:ByteArray) (K:Bool→HP) (h:Ze):Prop :=
 newC h [.string (ByteArray.mk #[128,128,128]),.string (ByteArray.mk #[144,128,128]),.string (ByteArray.mk #[160,128,128])] 9 fun b h1 =>
 Zan (σ:=Int × Unit) (fun J2 s3 h4 =>
 (fun (s11:Int) =>
 Zp (decide (s11<(3:Int))) (
 ZjY (some ⟨b,0,none⟩) 3 s11 1 fun b5 o =>
 ldS h4 b5 o fun t =>
 Zk (s.size:Int) fun k =>
 Zan (σ:=Int × Unit) (fun J7 s8 h9 =>
 (fun (k6:Int) =>
 Zp (decide (k6<4)) (
 ZfW t 0 (IntKind.wrap .i64 (k6 - (s.size:Int))) fun t10 =>
 Zkg s t10 fun s12 =>
 f14 s12 (fun t13 h14 =>
 Zk t13 fun n =>
 Zp (n ==1) (
 f15 s12 (fun t15 h16 =>
 Zp t15 (
 K true h16) (
 Zk (IntKind.wrap .i64 (k6+1)) fun k17 =>
 J7 (k17,()) h16)) h14) (
 Zk (IntKind.wrap .i64 (k6+1)) fun k18 =>
 J7 (k18,()) h14)) h9) (
 Zp (decide ((s.size:Int)<4)) (
 Zkg s t fun s19 =>
 ZfW s19 0 4 fun t20 =>
 f15 t20 (fun t21 h22 =>
 Zp t21 (
 Zkg s t fun s23 =>
 ZfW s23 0 4 fun t24 =>
 f14 t24 (fun t25 h26 =>
 Zp (t25 ==1) (
 K true h26) (
 J2 (IntKind.wrap .i64 (s11+1),()) h26)) h22) (
 J2 (IntKind.wrap .i64 (s11+1),()) h22)) h9) (
 J2 (IntKind.wrap .i64 (s11+1),()) h9))) s8.1) (k,()) h4) (
 f15 s (fun t27 h28 =>
 Zp t27 (
 f14 s (fun t29 h30 =>
 ZF (t29 ==1) fun t31 =>
 K t31 h30) h28) (
 K false h28)) h4)) s3.1) (0,()) h1
def ZbL:ZuC:=Zdy Ym ZJ
abbrev ZoA:=(Option Addr)→ByteArray→(Int→Value→HP)→HP
def Yz (f5:zT5) (b:Option Addr) (s:ByteArray) (K:Int→Value→HP) (h:Ze):Prop :=
 Zk 0 fun t =>
 f5 b (fun h1 =>
 Zb b fun b2 o =>
 ldL h1 b2 (o+1) fun t3 =>
 app 5 1 1 [.int .u8 0] t3 s.size (XD s) h1 fun t4 h5 =>
 Zb b fun b6 o7 =>
 st h5 b6 (o7+1) (.slice t4.ptr t4.len t4.cap) fun h8 =>
 Zk (s.size:Int) fun t9 =>
 K t9 .nilIface h8) h
def Zx:ZoA:=Yz ZK
abbrev ZuB:=(Option Addr)→(Option Addr)→(HP)→(Value→HP)→HP
def Zbl (f3:zT3) (f16:ZuC) (f15:Zor) (f17:ZoA) (r:Option Addr) (b:Option Addr) (K:HP) (P:Value→HP) (h:Ze):Prop :=
 Zk 1 fun k =>
 Zan (σ:=Int × Unit) (fun J2 s h3 =>
 (fun (k1:Int) =>
 Zaq (σ:=Unit) (fun s13 h14 =>
 Zb r fun b15 o16 =>
 ldS h14 b15 o16 fun t17 =>
 Zb r fun b18 o19 =>
 ldI h14 b18 (o19+1) .i64 fun t20 =>
 Zb r fun b21 o22 =>
 ldI h14 b21 (o22+1) .i64 fun t23 =>
 ZfW t17 t20 (IntKind.wrap .i64 (t23+k1)) fun t24 =>
 Zaq (σ:=Unit) (fun s32 h33 =>
 f15 t24 (fun t34 h35 =>
 Zp t34 (
 f17 b t24 (fun t36 t37 h38 =>
 Zb r fun b39 o40 =>
 ldI h38 b39 (o40+1) .i64 fun t41 =>
 Zb r fun b42 o43 =>
 st h38 b42 (o43+1) (.int .i64 (IntKind.wrap .i64 (t41+k1))) fun h44 =>
 K h44) h35) (
 Zk (IntKind.wrap .i64 (k1+1)) fun k45 =>
 J2 (k45,()) h35)) h33) (fun J25 =>
 f16 t24 (fun t26 h27 =>
 Zp (!t26) (
 Zb r fun b28 o29 =>
 ldI h27 b28 (o29+1) .i64 fun t30 =>
 f3 r 22 (IntKind.wrap .i64 ((IntKind.wrap .i64 (t30+k1)) - 1)) (fun h31 =>
 J25 (()) h31) P h27) (
 J25 (()) h27)) h14)) (fun J4 =>
 Zb r fun b5 o =>
 ldI h3 b5 (o+1) .i64 fun t =>
 Zb r fun b6 o7 =>
 ldS h3 b6 o7 fun t8 =>
 Zp (decide ((IntKind.wrap .i64 (t+k1))>(t8.size:Int))) (
 Zb r fun b9 o10 =>
 ldS h3 b9 o10 fun t11 =>
 f3 r 24 (t11.size:Int) (fun h12 =>
 J4 (()) h12) P h3) (
 J4 (()) h3))) s.1) (k,()) h
def Xt:ZuB:=Zbl Zo ZbL ZJ Zx
abbrev zT4:=(Option Addr)→(ByteArray→HP)→HP
abbrev Zr9:=(Option Addr)→(ByteArray→HP)→(Value→HP)→HP
def ZbR (f2:zT2) (f3:zT3) (f4:zT4) (f13:ZuD) (f6:zT6) (f18:ZuB) (r:Option Addr) (K:ByteArray→HP) (P:Value→HP) (h:Ze):Prop :=
 Zb r fun b o =>
 ldI h b (o+1) .i64 fun t =>
 Zb r fun b1 o2 =>
 st h b1 (o2+1) (.int .i64 (IntKind.wrap .i64 (t+1))) fun h3 =>
 newC h3 [.pointer none,.slice none 0 0] 188 fun b4 h5 =>
 Zan (σ:=Unit) (fun J6 s h7 =>
 f2 r (fun t8 h9 =>
 Zk t8 fun c =>
 Zaq (σ:=Bool × Unit) (fun s18 h19 =>
 (fun (s16:Bool) =>
 Zp s16 (
 Zb r fun b20 o21 =>
 ldI h19 b20 (o21+1) .i64 fun t22 =>
 f3 r 22 t22 (fun h23 =>
 J6 (()) h23) P h19) (
 ZF (c ==34) fun t24 =>
 Zp t24 (
 Zb r fun b25 o26 =>
 ldI h19 b25 (o26+1) .i64 fun t27 =>
 Zb r fun b28 o29 =>
 st h19 b28 (o29+1) (.int .i64 (IntKind.wrap .i64 (t27+1))) fun h30 =>
 f4 (some ⟨b4,0,none⟩) (fun t31 h32 =>
 K t31 h32) h30) (
 ZF (c ==92) fun t33 =>
 Zp t33 (
 Zb r fun b34 o35 =>
 ldI h19 b34 (o35+1) .i64 fun t36 =>
 Zb r fun b37 o38 =>
 st h19 b37 (o38+1) (.int .i64 (IntKind.wrap .i64 (t36+1))) fun h39 =>
 f13 r (some ⟨b4,0,none⟩) (fun h40 =>
 J6 (()) h40) P h39) (
 ZF (decide (c<128)) fun t41 =>
 Zp t41 (
 f6 (some ⟨b4,0,none⟩) c (fun t42 h43 =>
 Zb r fun b44 o45 =>
 ldI h43 b44 (o45+1) .i64 fun t46 =>
 Zb r fun b47 o48 =>
 st h43 b47 (o48+1) (.int .i64 (IntKind.wrap .i64 (t46+1))) fun h49 =>
 J6 (()) h49) h19) (
 f18 r (some ⟨b4,0,none⟩) (fun h50 =>
 J6 (()) h50) P h19))))) s18.1) (fun J10 =>
 Zb r fun b11 o12 =>
 ldI h9 b11 (o12+1) .i64 fun t13 =>
 Zb r fun b14 o15 =>
 ldS h9 b14 o15 fun t16 =>
 Zp (decide (t13≥(t16.size:Int))) (
 J10 (true,()) h9) (
 ZF (decide (c<32)) fun t17 =>
 J10 (t17,()) h9))) h7) (()) h5
def YH:Zr9:=ZbR Zv Zo Yl Xe Zz Xt
abbrev Zjl:=(Option Addr)→Int→((Int × ByteArray × Sl × Sl × Unit)→HP)→(Value→HP)→HP
abbrev ZuA:=(Option Addr)→(Option Addr)→Int→(HP)→(Value→HP)→HP
def ZbS (f1:zT1) (f2:zT2) (f3:zT3) (f19:Zr9) (f20:Zjl) (r:Option Addr) (v:Option Addr) (deep:Int) (K:HP) (P:Value→HP) (h:Ze):Prop :=
 f1 r (fun h1 =>
 Zaq (σ:=Unit) (fun s39 h40 =>
 Zb v fun b41 o42 =>
 ldL h40 b41 (o42+2) fun t43 =>
 Zok (
 f20 r deep (fun t44 h45 =>
 Zby (ZbZ h45 [(b41,o42+2,.slice t43.ptr t43.len t43.cap)]) <|
 newC h45 [.int .u8 0,.string (ByteArray.mk #[]),.slice none 0 0,.slice none 0 0] 33 fun b46 h47 =>
 Zby (ZbZ h47 [(b41,o42+2,.slice t43.ptr t43.len t43.cap)]) <|
 rdS ⟨some ⟨b46,0,none⟩,1,1⟩ 4 h47 fun new50=>app 33 4 72 [.int .u8 0,.string (ByteArray.mk #[]),.slice none 0 0,.slice none 0 0] t43 1 new50 h47 fun t48 h49 =>
 ZjY t48.ptr t48.len (t43.len:Int) 4 fun b51 o52 =>
 Zb v fun b53 o54 =>
 Zok (
 sts h49 b51 o52 [.int .u8 t44.1,.string t44.2.1,.slice t44.2.2.1.ptr t44.2.2.1.len t44.2.2.1.cap,.slice t44.2.2.2.1.ptr t44.2.2.2.1.len t44.2.2.2.1.cap] fun h55 =>
 st h55 b53 (o54+2) (.slice t48.ptr t48.len t48.cap) fun h56 =>
 f1 r (fun h57 =>
 K h57) h56) (
 st h49 b53 (o54+2) (.slice t48.ptr t48.len t48.cap) fun h58 =>
 sts h58 b51 o52 [.int .u8 t44.1,.string t44.2.1,.slice t44.2.2.1.ptr t44.2.2.1.len t44.2.2.1.cap,.slice t44.2.2.2.1.ptr t44.2.2.2.1.len t44.2.2.2.1.cap] fun h59 =>
 f1 r (fun h60 =>
 K h60) h59)) P h40) (
 newC h40 [.int .u8 0,.string (ByteArray.mk #[]),.slice none 0 0,.slice none 0 0] 33 fun b61 h62 =>
 Zby (ZbZ h62 [(b41,o42+2,.slice t43.ptr t43.len t43.cap)]) <|
 f20 r deep (fun t63 h64 =>
 Zby (ZbZ h64 [(b41,o42+2,.slice t43.ptr t43.len t43.cap)]) <|
 rdS ⟨some ⟨b61,0,none⟩,1,1⟩ 4 h64 fun new67=>app 33 4 72 [.int .u8 0,.string (ByteArray.mk #[]),.slice none 0 0,.slice none 0 0] t43 1 new67 h64 fun t65 h66 =>
 ZjY t65.ptr t65.len (t43.len:Int) 4 fun b68 o69 =>
 Zb v fun b70 o71 =>
 Zok (
 sts h66 b68 o69 [.int .u8 t63.1,.string t63.2.1,.slice t63.2.2.1.ptr t63.2.2.1.len t63.2.2.1.cap,.slice t63.2.2.2.1.ptr t63.2.2.2.1.len t63.2.2.2.1.cap] fun h72 =>
 st h72 b70 (o71+2) (.slice t65.ptr t65.len t65.cap) fun h73 =>
 f1 r (fun h74 =>
 K h74) h73) (
 st h66 b70 (o71+2) (.slice t65.ptr t65.len t65.cap) fun h75 =>
 sts h75 b68 o69 [.int .u8 t63.1,.string t63.2.1,.slice t63.2.2.1.ptr t63.2.2.1.len t63.2.2.1.cap,.slice t63.2.2.2.1.ptr t63.2.2.2.1.len t63.2.2.2.1.cap] fun h76 =>
 f1 r (fun h77 =>
 K h77) h76)) P h62)) (fun J2 =>
 Zb v fun b o =>
 ldI h1 b o .u8 fun t =>
 Zp (t ==7) (
 Zaq (σ:=Unit) (fun s h10 =>
 Zb v fun b11 o12 =>
 ldL h10 b11 (o12+3) fun t13 =>
 f19 r (fun t14 h15 =>
 Zby (ZbZ h15 [(b11,o12+3,.slice t13.ptr t13.len t13.cap)]) <|
 newC h15 [.string t14] 9 fun b16 h17 =>
 Zby (ZbZ h17 [(b11,o12+3,.slice t13.ptr t13.len t13.cap)]) <|
 rdS ⟨some ⟨b16,0,none⟩,1,1⟩ 1 h17 fun new=>app 9 1 16 [.string (ByteArray.mk #[])] t13 1 new h17 fun t18 h19 =>
 Zb v fun b20 o21 =>
 st h19 b20 (o21+3) (.slice t18.ptr t18.len t18.cap) fun h22 =>
 f1 r (fun h23 =>
 Zaq (σ:=Unit) (fun s31 h32 =>
 Zb r fun b33 o34 =>
 ldI h32 b33 (o34+1) .i64 fun t35 =>
 Zb r fun b36 o37 =>
 st h32 b36 (o37+1) (.int .i64 (IntKind.wrap .i64 (t35+1))) fun h38 =>
 J2 (()) h38) (fun J24 =>
 f2 r (fun t25 h26 =>
 Zp (t25 !=58) (
 Zb r fun b27 o28 =>
 ldI h26 b27 (o28+1) .i64 fun t29 =>
 f3 r 20 t29 (fun h30 =>
 J24 (()) h30) P h26) (
 J24 (()) h26)) h23)) h22) P h10) (fun J3 =>
 f2 r (fun t4 h5 =>
 Zp (t4 !=34) (
 Zb r fun b6 o7 =>
 ldI h5 b6 (o7+1) .i64 fun t8 =>
 f3 r 20 t8 (fun h9 =>
 J3 (()) h9) P h5) (
 J3 (()) h5)) h1)) (
 J2 (()) h1))) h
def XL (f20:Zjl):ZuA:=ZbS ZH Zv Zo YH f20
abbrev Zuz:=(Option Addr)→Int→Int→Int→((Int × ByteArray × Sl × Sl × Unit)→HP)→(Value→HP)→HP
def Zaf (f3:zT3) (f1:zT1) (f2:zT2) (f21:ZuA) (r:Option Addr) (k:Int) (end_:Int) (deep:Int) (K:(Int × ByteArray × Sl × Sl × Unit)→HP) (P:Value→HP) (h:Ze):Prop :=
 newC h [.int .u8 0,.string (ByteArray.mk #[]),.slice none 0 0,.slice none 0 0] 33 fun b h1 =>
 Zaq (σ:=Unit) (fun s h5 =>
 Zb r fun b6 o7 =>
 ldI h5 b6 (o7+1) .i64 fun t8 =>
 Zb r fun b9 o10 =>
 st h5 b9 (o10+1) (.int .i64 (IntKind.wrap .i64 (t8+1))) fun h11 =>
 newC h11 [.int .u8 0,.string (ByteArray.mk #[]),.slice none 0 0,.slice none 0 0] 33 fun b12 h13 =>
 sts h13 b12 0 [.int .u8 k,.string (ByteArray.mk #[]),.slice none 0 0,.slice none 0 0] fun h14 =>
 f1 r (fun h15 =>
 Zan (σ:=Unit) (fun J16 s17 h18 =>
 Zaq (σ:=Unit) (fun s43 h44 =>
 Zaq (σ:=Unit) (fun s62 h63 =>
 f21 r (some ⟨b12,0,none⟩) (IntKind.wrap .i64 (deep+1)) (fun h64 =>
 J16 (()) h64) P h63) (fun J45 =>
 ldL h44 b12 (0+2) fun t46 =>
 Zp (decide ((t46.len:Int)>0)) (
 Zaq (σ:=Unit) (fun s54 h55 =>
 Zb r fun b56 o57 =>
 ldI h55 b56 (o57+1) .i64 fun t58 =>
 Zb r fun b59 o60 =>
 st h55 b59 (o60+1) (.int .i64 (IntKind.wrap .i64 (t58+1))) fun h61 =>
 J45 (()) h61) (fun J47 =>
 f2 r (fun t48 h49 =>
 Zp (t48 !=44) (
 Zb r fun b50 o51 =>
 ldI h49 b50 (o51+1) .i64 fun t52 =>
 f3 r 20 t52 (fun h53 =>
 J47 (()) h53) P h49) (
 J47 (()) h49)) h44)) (
 J45 (()) h44))) (fun J19 =>
 Zbe (ρ:=Int × Unit) (fun K h=>f2 r (fun q h=>K (q,()) h) h) h18 fun r21 =>
 Zp (r21.1 !=end_) (
 J19 (()) h18) (
 Zb r fun b22 o23 =>
 ldI h18 b22 (o23+1) .i64 fun t24 =>
 Zb r fun b25 o26 =>
 ldS h18 b25 o26 fun t27 =>
 Zp (decide (t24≥(t27.size:Int))) (
 J19 (()) h18) (
 Zb r fun b28 o29 =>
 ldI h18 b28 (o29+1) .i64 fun t30 =>
 Zb r fun b31 o32 =>
 st h18 b31 (o32+1) (.int .i64 (IntKind.wrap .i64 (t30+1))) fun h33 =>
 ldI h33 b12 0 .u8 fun t34=>ldS h33 b12 (0+1) fun t35=>ldL h33 b12 (0+2) fun t36=>ldL h33 b12 (0+3) fun t37 =>
 sts h33 b 0 [.int .u8 t34,.string t35,.slice t36.ptr t36.len t36.cap,.slice t37.ptr t37.len t37.cap] fun h38 =>
 ldI h38 b 0 .u8 fun t39=>ldS h38 b (0+1) fun t40=>ldL h38 b (0+2) fun t41=>ldL h38 b (0+3) fun t42=>K (t39,t40,t41,t42,()) h38)))) (()) h15) h14) (fun J2 =>
 Zp (decide (deep≥64)) (
 Zb r fun b3 o =>
 ldI h1 b3 (o+1) .i64 fun t =>
 f3 r 23 t (fun h4 =>
 J2 (()) h4) P h1) (
 J2 (()) h1))
def Yp (f20:Zjl):Zuz:=Zaf Zo ZH Zv (XL f20)
abbrev Zuy:=(Option Addr)→ByteArray→Int→((Int × ByteArray × Sl × Sl × Unit)→HP)→(Value→HP)→HP
def ZbQ (f2:zT2) (f3:zT3) (r:Option Addr) (w:ByteArray) (k:Int) (K:(Int × ByteArray × Sl × Sl × Unit)→HP) (P:Value→HP) (h:Ze):Prop :=
 newC h [.int .u8 0,.string (ByteArray.mk #[]),.slice none 0 0,.slice none 0 0] 33 fun b h1 =>
 Zan (σ:=Int × Unit) (fun J2 s h3 =>
 (fun (s10:Int) =>
 Zp (decide (s10<(w.size:Int))) (
 Zk s10 fun i =>
 Zaq (σ:=Unit) (fun s20 h21 =>
 Zb r fun b22 o23 =>
 ldI h21 b22 (o23+1) .i64 fun t24 =>
 Zb r fun b25 o26 =>
 st h21 b25 (o26+1) (.int .i64 (IntKind.wrap .i64 (t24+1))) fun h27 =>
 J2 (IntKind.wrap .i64 (s10+1),()) h27) (fun J4 =>
 Zbe (ρ:=Int × Unit) (fun K h=>f2 r (fun q h=>K (q,()) h) h) h3 fun r5 =>
 ZeH w i fun t6 =>
 Zp (r5.1 !=t6) (
 Zb r fun b7 o =>
 ldI h3 b7 (o+1) .i64 fun t8 =>
 f3 r 20 t8 (fun h9 =>
 J4 (()) h9) P h3) (
 Zb r fun b10 o11 =>
 ldI h3 b10 (o11+1) .i64 fun t12 =>
 Zb r fun b13 o14 =>
 ldS h3 b13 o14 fun t15 =>
 Zp (decide (t12≥(t15.size:Int))) (
 Zb r fun b16 o17 =>
 ldI h3 b16 (o17+1) .i64 fun t18 =>
 f3 r 20 t18 (fun h19 =>
 J4 (()) h19) P h3) (
 J4 (()) h3)))) (
 sts h3 b 0 [.int .u8 k,.string (ByteArray.mk #[]),.slice none 0 0,.slice none 0 0] fun h28 =>
 ldI h28 b 0 .u8 fun t29=>ldS h28 b (0+1) fun t30=>ldL h28 b (0+2) fun t31=>ldL h28 b (0+3) fun t32=>K (t29,t30,t31,t32,()) h28)) s.1) (0,()) h1
def XN:Zuy:=ZbQ Zv Zo
abbrev Zux:=(Option Addr)→(HP)→(Value→HP)→HP
def ZaY (f2:zT2) (f3:zT3) (r:Option Addr) (K:HP) (P:Value→HP) (h:Ze):Prop :=
 Zaq (σ:=Unit) (fun s h9 =>
 f2 r (fun t10 h11 =>
 Zk t10 fun c12 =>
 Zan (σ:=Int × Unit) (fun J14 s15 h16 =>
 (fun (c13:Int) =>
 Zp (decide (c13≥48)) (
 Zp (decide (c13≤57)) (
 Zb r fun b17 o18 =>
 ldI h16 b17 (o18+1) .i64 fun t19 =>
 Zb r fun b20 o21 =>
 st h16 b20 (o21+1) (.int .i64 (IntKind.wrap .i64 (t19+1))) fun h22 =>
 f2 r (fun t23 h24 =>
 Zk t23 fun c25 =>
 J14 (c25,()) h24) h22) (
 K h16)) (
 K h16)) s15.1) (c12,()) h11) h9) (fun J1 =>
 f2 r (fun t h2 =>
 Zk t fun c =>
 Zp (decide (c<48)) (
 Zb r fun b o =>
 ldI h2 b (o+1) .i64 fun t3 =>
 f3 r 21 t3 (fun h4 =>
 J1 (()) h4) P h2) (
 Zp (decide (c>57)) (
 Zb r fun b5 o6 =>
 ldI h2 b5 (o6+1) .i64 fun t7 =>
 f3 r 21 t7 (fun h8 =>
 J1 (()) h8) P h2) (
 J1 (()) h2))) h)
def Z3:Zux:=ZaY Zv Zo
abbrev Zuw:=(Option Addr)→((Int × ByteArray × Sl × Sl × Unit)→HP)→(Value→HP)→HP
def ZaW (f2:zT2) (f3:zT3) (f24:Zux) (r:Option Addr) (K:(Int × ByteArray × Sl × Sl × Unit)→HP) (P:Value→HP) (h:Ze):Prop :=
 newC h [.int .u8 0,.string (ByteArray.mk #[]),.slice none 0 0,.slice none 0 0] 33 fun b h1 =>
 Zb r fun b2 o =>
 ldI h1 b2 (o+1) .i64 fun t =>
 Zk t fun from_ =>
 Zaq (σ:=Unit) (fun s h12 =>
 Zaq (σ:=Unit) (fun s29 h30 =>
 Zaq (σ:=Unit) (fun s41 h42 =>
 Zaq (σ:=Unit) (fun s95 h96 =>
 Zb r fun b97 o98 =>
 Zb r fun b99 o100 =>
 ldS h96 b97 o98 fun t101 =>
 ldI h96 b99 (o100+1) .i64 fun t102 =>
 ZfW t101 from_ t102 fun t103 =>
 sts h96 b 0 [.int .u8 4,.string t103,.slice none 0 0,.slice none 0 0] fun h104 =>
 ldI h104 b 0 .u8 fun t105=>ldS h104 b (0+1) fun t106=>ldL h104 b (0+2) fun t107=>ldL h104 b (0+3) fun t108=>K (t105,t106,t107,t108,()) h104) (fun J43 =>
 f2 r (fun t44 h45 =>
 Zk t44 fun c46 =>
 Zp (c46 ==101) (
 Zb r fun b47 o48 =>
 ldI h45 b47 (o48+1) .i64 fun t49 =>
 Zb r fun b50 o51 =>
 st h45 b50 (o51+1) (.int .i64 (IntKind.wrap .i64 (t49+1))) fun h52 =>
 f2 r (fun t53 h54 =>
 Zk t53 fun c55 =>
 Zp (c55 ==43) (
 Zb r fun b56 o57 =>
 ldI h54 b56 (o57+1) .i64 fun t58 =>
 Zb r fun b59 o60 =>
 st h54 b59 (o60+1) (.int .i64 (IntKind.wrap .i64 (t58+1))) fun h61 =>
 f24 r (fun h62 =>
 J43 (()) h62) P h61) (
 Zp (c55 ==45) (
 Zb r fun b63 o64 =>
 ldI h54 b63 (o64+1) .i64 fun t65 =>
 Zb r fun b66 o67 =>
 st h54 b66 (o67+1) (.int .i64 (IntKind.wrap .i64 (t65+1))) fun h68 =>
 f24 r (fun h69 =>
 J43 (()) h69) P h68) (
 f24 r (fun h70 =>
 J43 (()) h70) P h54))) h52) (
 Zp (c46 ==69) (
 Zb r fun b71 o72 =>
 ldI h45 b71 (o72+1) .i64 fun t73 =>
 Zb r fun b74 o75 =>
 st h45 b74 (o75+1) (.int .i64 (IntKind.wrap .i64 (t73+1))) fun h76 =>
 f2 r (fun t77 h78 =>
 Zk t77 fun c79 =>
 Zp (c79 ==43) (
 Zb r fun b80 o81 =>
 ldI h78 b80 (o81+1) .i64 fun t82 =>
 Zb r fun b83 o84 =>
 st h78 b83 (o84+1) (.int .i64 (IntKind.wrap .i64 (t82+1))) fun h85 =>
 f24 r (fun h86 =>
 J43 (()) h86) P h85) (
 Zp (c79 ==45) (
 Zb r fun b87 o88 =>
 ldI h78 b87 (o88+1) .i64 fun t89 =>
 Zb r fun b90 o91 =>
 st h78 b90 (o91+1) (.int .i64 (IntKind.wrap .i64 (t89+1))) fun h92 =>
 f24 r (fun h93 =>
 J43 (()) h93) P h92) (
 f24 r (fun h94 =>
 J43 (()) h94) P h78))) h76) (
 J43 (()) h45))) h42)) (fun J31 =>
 f2 r (fun t32 h33 =>
 Zp (t32 ==46) (
 Zb r fun b34 o35 =>
 ldI h33 b34 (o35+1) .i64 fun t36 =>
 Zb r fun b37 o38 =>
 st h33 b37 (o38+1) (.int .i64 (IntKind.wrap .i64 (t36+1))) fun h39 =>
 f24 r (fun h40 =>
 J31 (()) h40) P h39) (
 J31 (()) h33)) h30)) (fun J13 =>
 f2 r (fun t14 h15 =>
 Zp (t14 ==48) (
 Zb r fun b16 o17 =>
 ldI h15 b16 (o17+1) .i64 fun t18 =>
 Zb r fun b19 o20 =>
 st h15 b19 (o20+1) (.int .i64 (IntKind.wrap .i64 (t18+1))) fun h21 =>
 f2 r (fun t22 h23 =>
 Zk t22 fun c =>
 Zp (decide (c≥48)) (
 Zp (decide (c≤57)) (
 Zb r fun b24 o25 =>
 ldI h23 b24 (o25+1) .i64 fun t26 =>
 f3 r 21 t26 (fun h27 =>
 J13 (()) h27) P h23) (
 J13 (()) h23)) (
 J13 (()) h23)) h21) (
 f24 r (fun h28 =>
 J13 (()) h28) P h15)) h12)) (fun J3 =>
 f2 r (fun t4 h5 =>
 Zp (t4 ==45) (
 Zb r fun b6 o7 =>
 ldI h5 b6 (o7+1) .i64 fun t8 =>
 Zb r fun b9 o10 =>
 st h5 b9 (o10+1) (.int .i64 (IntKind.wrap .i64 (t8+1))) fun h11 =>
 J3 (()) h11) (
 J3 (()) h5)) h1)
def YO:Zuw:=ZaW Zv Zo Z3
def Zbk (f1:zT1) (f2:zT2) (f3:zT3) (f22:Zuz) (f19:Zr9) (f23:Zuy) (f25:Zuw) (r:Option Addr) (deep:Int) (K:(Int × ByteArray × Sl × Sl × Unit)→HP) (P:Value→HP) (h:Ze):Prop :=
 newC h [.int .u8 0,.string (ByteArray.mk #[]),.slice none 0 0,.slice none 0 0] 33 fun b h1 =>
 f1 r (fun h2 =>
 Zaq (σ:=Unit) (fun s h78 =>
 Zb r fun b79 o80 =>
 ldI h78 b79 (o80+1) .i64 fun t81 =>
 f3 r 20 t81 (fun h82 =>
 sts h82 b 0 [.int .u8 0,.string (ByteArray.mk #[]),.slice none 0 0,.slice none 0 0] fun h83 =>
 ldI h83 b 0 .u8 fun t84=>ldS h83 b (0+1) fun t85=>ldL h83 b (0+2) fun t86=>ldL h83 b (0+3) fun t87=>K (t84,t85,t86,t87,()) h83) P h78) (fun J3 =>
 f2 r (fun t h4 =>
 Zk t fun c =>
 Zb r fun b5 o =>
 ldI h4 b5 (o+1) .i64 fun t6 =>
 Zb r fun b7 o8 =>
 ldS h4 b7 o8 fun t9 =>
 ZF (decide (t6≥(t9.size:Int))) fun t10 =>
 Zp t10 (
 Zb r fun b11 o12 =>
 ldI h4 b11 (o12+1) .i64 fun t13 =>
 f3 r 24 t13 (fun h14 =>
 J3 (()) h14) P h4) (
 ZF (c ==123) fun t15 =>
 Zp t15 (
 f22 r 7 125 deep (fun t16 h17 =>
 sts h17 b 0 [.int .u8 t16.1,.string t16.2.1,.slice t16.2.2.1.ptr t16.2.2.1.len t16.2.2.1.cap,.slice t16.2.2.2.1.ptr t16.2.2.2.1.len t16.2.2.2.1.cap] fun h18 =>
 ldI h18 b 0 .u8 fun t19=>ldS h18 b (0+1) fun t20=>ldL h18 b (0+2) fun t21=>ldL h18 b (0+3) fun t22=>K (t19,t20,t21,t22,()) h18) P h4) (
 ZF (c ==91) fun t23 =>
 Zp t23 (
 f22 r 6 93 deep (fun t24 h25 =>
 sts h25 b 0 [.int .u8 t24.1,.string t24.2.1,.slice t24.2.2.1.ptr t24.2.2.1.len t24.2.2.1.cap,.slice t24.2.2.2.1.ptr t24.2.2.2.1.len t24.2.2.2.1.cap] fun h26 =>
 ldI h26 b 0 .u8 fun t27=>ldS h26 b (0+1) fun t28=>ldL h26 b (0+2) fun t29=>ldL h26 b (0+3) fun t30=>K (t27,t28,t29,t30,()) h26) P h4) (
 ZF (c ==34) fun t31 =>
 Zp t31 (
 f19 r (fun t32 h33 =>
 sts h33 b 0 [.int .u8 5,.string t32,.slice none 0 0,.slice none 0 0] fun h34 =>
 ldI h34 b 0 .u8 fun t35=>ldS h34 b (0+1) fun t36=>ldL h34 b (0+2) fun t37=>ldL h34 b (0+3) fun t38=>K (t35,t36,t37,t38,()) h34) P h4) (
 ZF (c ==110) fun t39 =>
 Zp t39 (
 f23 r (ByteArray.mk #[110,117,108,108]) 1 (fun t40 h41 =>
 sts h41 b 0 [.int .u8 t40.1,.string t40.2.1,.slice t40.2.2.1.ptr t40.2.2.1.len t40.2.2.1.cap,.slice t40.2.2.2.1.ptr t40.2.2.2.1.len t40.2.2.2.1.cap] fun h42 =>
 ldI h42 b 0 .u8 fun t43=>ldS h42 b (0+1) fun t44=>ldL h42 b (0+2) fun t45=>ldL h42 b (0+3) fun t46=>K (t43,t44,t45,t46,()) h42) P h4) (
 ZF (c ==102) fun t47 =>
 Zp t47 (
 f23 r (ByteArray.mk #[102,97,108,115,101]) 2 (fun t48 h49 =>
 sts h49 b 0 [.int .u8 t48.1,.string t48.2.1,.slice t48.2.2.1.ptr t48.2.2.1.len t48.2.2.1.cap,.slice t48.2.2.2.1.ptr t48.2.2.2.1.len t48.2.2.2.1.cap] fun h50 =>
 ldI h50 b 0 .u8 fun t51=>ldS h50 b (0+1) fun t52=>ldL h50 b (0+2) fun t53=>ldL h50 b (0+3) fun t54=>K (t51,t52,t53,t54,()) h50) P h4) (
 ZF (c ==116) fun t55 =>
 Zp t55 (
 f23 r (ByteArray.mk #[116,114,117,101]) 3 (fun t56 h57 =>
 sts h57 b 0 [.int .u8 t56.1,.string t56.2.1,.slice t56.2.2.1.ptr t56.2.2.1.len t56.2.2.1.cap,.slice t56.2.2.2.1.ptr t56.2.2.2.1.len t56.2.2.2.1.cap] fun h58 =>
 ldI h58 b 0 .u8 fun t59=>ldS h58 b (0+1) fun t60=>ldL h58 b (0+2) fun t61=>ldL h58 b (0+3) fun t62=>K (t59,t60,t61,t62,()) h58) P h4) (
 Zp (c ==45) (
 f25 r (fun t63 h64 =>
 sts h64 b 0 [.int .u8 t63.1,.string t63.2.1,.slice t63.2.2.1.ptr t63.2.2.1.len t63.2.2.1.cap,.slice t63.2.2.2.1.ptr t63.2.2.2.1.len t63.2.2.2.1.cap] fun h65 =>
 ldI h65 b 0 .u8 fun t66=>ldS h65 b (0+1) fun t67=>ldL h65 b (0+2) fun t68=>ldL h65 b (0+3) fun t69=>K (t66,t67,t68,t69,()) h65) P h4) (
 Zp (decide (c≥48)) (
 ZF (decide (c≤57)) fun t70 =>
 Zp t70 (
 f25 r (fun t71 h72 =>
 sts h72 b 0 [.int .u8 t71.1,.string t71.2.1,.slice t71.2.2.1.ptr t71.2.2.1.len t71.2.2.1.cap,.slice t71.2.2.2.1.ptr t71.2.2.2.1.len t71.2.2.2.1.cap] fun h73 =>
 ldI h73 b 0 .u8 fun t74=>ldS h73 b (0+1) fun t75=>ldL h73 b (0+2) fun t76=>ldL h73 b (0+3) fun t77=>K (t74,t75,t76,t77,()) h73) P h4) (
 J3 (()) h4)) (
 J3 (()) h4)))))))))) h2)) h1
def Zab (f20:Zjl):Zjl:=Zbk ZH Zv Zo (Yp f20) YH XN YO
def YE:Nat→Zjl
 | 0=>fun _ _ _ _ _=>False
 | n+1=>Zab (YE n)
def Zae:Zjl:=fun r deep K P h=>∃ n,YE n r deep K P h
abbrev zV:List Value:=[.int .u8 0,.string (ByteArray.mk #[]),.slice none 0 0,.slice none 0 0]
def ZvO (b2 b3 b4:Nat) (e n:Int) (E:HP) (h:Ze):Prop :=
 Zgq (.iface 160 (.agg #[.int .i64 e,.int .i64 n])) fun b=>Zp b (E h) (Zp true (
 newC h [.int .i64 0,.int .i64 0] 160 fun b1 h2=>sts h2 b1 0 [.int .i64 e,.int .i64 n] fun h3 =>
 ldI h3 b1 0 .i64 fun t=>ldI h3 b1 (0+1) .i64 fun t4 =>
 Zb (some ⟨b2,0,none⟩) fun b5 o=>sts h3 b5 o zV fun h6=>Zby (ZbZ h6 [(b1,0+1,.int .i64 t4)]) <| Zby (ZbZ h6 [(b1,0,.int .i64 t)]) <|
 Zb (some ⟨b3,0,none⟩) fun b7 o8=>st h6 b7 o8 (.int .i64 t) fun h9=>Zby (ZbZ h9 [(b1,0+1,.int .i64 t4)]) <|
 Zb (some ⟨b4,0,none⟩) fun b10 o11=>st h9 b10 o11 (.int .i64 t4) fun h12=>E h12) False)
def ZeF (b b2 b4:Nat) (K:(Int × ByteArray × Sl × Sl × Unit)→Int→Int→HP) (h:Ze):Prop :=
 ldI h b 0 .u8 fun t=>ldS h b (0+1) fun t9=>ldL h b (0+2) fun t10=>ldL h b (0+3) fun t11=>ldI h b2 0 .i64 fun t12=>ldI h b4 0 .i64 fun t13=>K (t,t9,t10,t11,()) t12 t13 h
def Zba (b b2 b4:Nat) (K:(Int × ByteArray × Sl × Sl × Unit)→Int→Int→HP) (v:Value) (h:Ze):Prop :=
 ∃ e n,v = .iface 160 (.agg #[.int .i64 e,.int .i64 n])∧ZvO b b2 b4 e n (ZeF b b2 b4 K) h
def Zfa (b b2 b4:Nat) (K:(Int × ByteArray × Sl × Sl × Unit)→Int→Int→HP) (h:Ze):Prop :=
 ldI h b 0 .u8 fun t36=>ldS h b (0+1) fun t37=>ldL h b (0+2) fun t38=>ldL h b (0+3) fun t39 =>
 sts h b 0 [.int .u8 t36,.string t37,.slice t38.ptr t38.len t38.cap,.slice t39.ptr t39.len t39.cap] fun h40 =>
 st h40 b2 0 (.int .i64 0) fun h41=>st h41 b4 0 (.int .i64 0) fun h42=>ZeF b b2 b4 K h42
def Xn (s:ByteArray) (K:(Int × ByteArray × Sl × Sl × Unit)→Int→Int→HP) (h:Ze):Prop :=
 newC h zV 33 fun b h1=>newC h1 [.int .i64 0] 37 fun b2 h3=>newC h3 [.int .i64 0] 3 fun b4 h5 =>
 Zp (decide ((s.size:Int)>65536)) (
 sts h5 b 0 zV fun h6=>st h6 b2 0 (.int .i64 5) fun h7=>st h7 b4 0 (.int .i64 65536) fun h8=>ZeF b b2 b4 K h8) (
 newC h5 [.string s,.int .i64 0] 163 fun b14 h15 =>
 Zae (some ⟨b14,0,none⟩) 0 (fun t16 h17 =>
 sts h17 b 0 [.int .u8 t16.1,.string t16.2.1,.slice t16.2.2.1.ptr t16.2.2.1.len t16.2.2.1.cap,.slice t16.2.2.2.1.ptr t16.2.2.2.1.len t16.2.2.2.1.cap] fun h18 =>
 ZH (some ⟨b14,0,none⟩) (fun h19 =>
 ldI h19 b14 (0+1) .i64 fun t20=>Zp (decide (t20<(s.size:Int))) (
 ldI h19 b14 (0+1) .i64 fun t21=>Zo (some ⟨b14,0,none⟩) 25 t21 (Zfa b b2 b4 K) (Zba b b2 b4 K) h19) (Zfa b b2 b4 K h19)) h18) (Zba b b2 b4 K) h15)
abbrev ZdJ:=(Option Addr)→(Int→HP)→HP
def XF (r:Option Addr) (K:Int→HP) (h:Ze):Prop :=
 Zk 0 fun t =>
 Zb r fun b o =>
 ldI h b (o+1) .i64 fun t1 =>
 Zb r fun b2 o3 =>
 ldS h b2 o3 fun t4 =>
 Zp (decide (t1≥(t4.size:Int))) (
 Zk 0 fun t5 =>
 K t5 h) (
 Zb r fun b6 o7 =>
 ldS h b6 o7 fun t8 =>
 Zb r fun b9 o10 =>
 ldI h b9 (o10+1) .i64 fun t11 =>
 ZeH t8 t11 fun t12 =>
 Zk t12 fun t13 =>
 K t13 h)
def Zg:ZdJ:=XF
abbrev Zkp:=(Option Addr)→(HP)→HP
def YA (f27:ZdJ) (r:Option Addr) (K:HP) (h:Ze):Prop :=
 Zan (σ:=Unit) (fun J1 s h2 =>
 Zaq (σ:=Unit) (fun s21 h22 =>
 Zb r fun b23 o24 =>
 ldI h22 b23 (o24+1) .i64 fun t25 =>
 Zb r fun b26 o27 =>
 st h22 b26 (o27+1) (.int .i64 (IntKind.wrap .i64 (t25+1))) fun h28 =>
 J1 (()) h28) (fun J3 =>
 Zb r fun b o =>
 ldI h2 b (o+2) .i64 fun t =>
 Zp (t ==0) (
 Zb r fun b4 o5 =>
 ldI h2 b4 (o5+1) .i64 fun t6 =>
 Zb r fun b7 o8 =>
 ldS h2 b7 o8 fun t9 =>
 Zp (decide (t6<(t9.size:Int))) (
 Zbe (ρ:=Int × Unit) (fun K h=>f27 r (fun q h=>K (q,()) h) h) h2 fun r11 =>
 Zp (r11.1 ==32) (
 J3 (()) h2) (
 Zbe (ρ:=Int × Unit) (fun K h=>f27 r (fun q13 h=>K (q13,()) h) h) h2 fun r14 =>
 Zp (r14.1 ==9) (
 J3 (()) h2) (
 Zbe (ρ:=Int × Unit) (fun K h=>f27 r (fun q16 h=>K (q16,()) h) h) h2 fun r17 =>
 Zp (r17.1 ==10) (
 J3 (()) h2) (
 Zbe (ρ:=Int × Unit) (fun K h=>f27 r (fun q19 h=>K (q19,()) h) h) h2 fun r20 =>
 Zp (r20.1 ==13) (
 J3 (()) h2) (
 K h2))))) (
 K h2)) (
 K h2))) (()) h
def Zq:Zkp:=YA Zg
abbrev Zgm:=(Option Addr)→Int→(HP)→HP
def XA (r:Option Addr) (e:Int) (K:HP) (h:Ze):Prop :=
 Zb r fun b o =>
 ldI h b (o+2) .i64 fun t =>
 Zp (t ==0) (
 Zb r fun b1 o2 =>
 st h b1 (o2+2) (.int .i64 e) fun h3 =>
 Zb r fun b4 o5 =>
 ldI h3 b4 (o5+1) .i64 fun t6 =>
 Zb r fun b7 o8 =>
 ldS h3 b7 o8 fun t9 =>
 Zp (decide (t6≥(t9.size:Int))) (
 Zb r fun b10 o11 =>
 ldS h3 b10 o11 fun t12 =>
 Zb r fun b13 o14 =>
 st h3 b13 (o14+1) (.int .i64 (t12.size:Int)) fun h15 =>
 Zb r fun b16 o17 =>
 st h15 b16 (o17+2) (.int .i64 24) fun h18 =>
 K h18) (
 K h3)) (
 K h)
def Zh:Zgm:=XA
abbrev Zms:=(Option Addr)→Int→(HP)→HP
def YK (f29:Zgm) (f27:ZdJ) (r:Option Addr) (c:Int) (K:HP) (h:Ze):Prop :=
 Zb r fun b o =>
 ldI h b (o+2) .i64 fun t =>
 Zp (t !=0) (
 K h) (
 Zb r fun b1 o2 =>
 ldI h b1 (o2+1) .i64 fun t3 =>
 Zb r fun b4 o5 =>
 ldS h b4 o5 fun t6 =>
 Zp (decide (t3≥(t6.size:Int))) (
 f29 r 20 (fun h7 =>
 K h7) h) (
 Zbe (ρ:=Int × Unit) (fun K h=>f27 r (fun q h=>K (q,()) h) h) h fun r9 =>
 Zp (r9.1 !=c) (
 f29 r 20 (fun h10 =>
 K h10) h) (
 Zb r fun b11 o12 =>
 ldI h b11 (o12+1) .i64 fun t13 =>
 Zb r fun b14 o15 =>
 st h b14 (o15+1) (.int .i64 (IntKind.wrap .i64 (t13+1))) fun h16 =>
 K h16)))
def Zu:Zms:=YK Zh Zg
abbrev Zko:=Int→(Bool→HP)→HP
def ZaA (c:Int) (K:Bool→HP) (h:Ze):Prop :=
 Zp (decide (c≥48)) (
 ZF (decide (c≤57)) fun t =>
 K t h) (
 K false h)
def ZE:Zko:=ZaA
abbrev Zr8:=(Option Addr)→(Int→HP)→HP
def XG (f27:ZdJ) (f31:Zko) (f29:Zgm) (r:Option Addr) (K:Int→HP) (h:Ze):Prop :=
 Zk 0 fun t =>
 Zk 0 fun n =>
 Zk 0 fun i =>
 Zan (σ:=Int × Int × Unit) (fun J3 s h4 =>
 (fun (n1:Int) (i2:Int) =>
 Zp (decide (i2<4)) (
 Zb r fun b o =>
 ldI h4 b (o+2) .i64 fun t5 =>
 Zp (t5 ==0) (
 f27 r (fun t6 h7 =>
 Zk t6 fun c =>
 Zaq (σ:=Int × Unit) (fun s48 h49 =>
 (fun (n47:Int) =>
 Zb r fun b50 o51 =>
 ldI h49 b50 (o51+1) .i64 fun t52 =>
 Zb r fun b53 o54 =>
 st h49 b53 (o54+1) (.int .i64 (IntKind.wrap .i64 (t52+1))) fun h55 =>
 Zk (IntKind.wrap .i64 (i2+1)) fun i56 =>
 J3 (n47,i56,()) h55) s48.1) (fun J8 =>
 Zaq (σ:=Bool × Unit) (fun s19 h20 =>
 (fun (s21:Bool) =>
 Zp s21 (
 Zk (IntKind.wrap .i64 ((IntKind.wrap .i64 (n1*16))+(IntKind.wrap .i64 (IntKind.wrap .u8 (c - 48))))) fun n21 =>
 J8 (n21,()) h20) (
 Zaq (σ:=Bool × Unit) (fun s30 h31 =>
 (fun (s42:Bool) =>
 Zp s42 (
 Zk (IntKind.wrap .i64 ((IntKind.wrap .i64 ((IntKind.wrap .i64 (n1*16))+(IntKind.wrap .i64 (IntKind.wrap .u8 (c - 97)))))+10)) fun n32 =>
 J8 (n32,()) h31) (
 Zb r fun b33 o34 =>
 ldI h31 b33 (o34+1) .i64 fun t35 =>
 Zb r fun b36 o37 =>
 ldS h31 b36 o37 fun t38 =>
 Zp (decide (t35<(t38.size:Int))) (
 Zp (decide (c≥65)) (
 ZF (decide (c≤70)) fun t39 =>
 Zp t39 (
 Zk (IntKind.wrap .i64 ((IntKind.wrap .i64 ((IntKind.wrap .i64 (n1*16))+(IntKind.wrap .i64 (IntKind.wrap .u8 (c - 65)))))+10)) fun n40 =>
 J8 (n40,()) h31) (
 f29 r 22 (fun h41 =>
 Zk 0 fun t42 =>
 K t42 h41) h31)) (
 f29 r 22 (fun h43 =>
 Zk 0 fun t44 =>
 K t44 h43) h31)) (
 f29 r 22 (fun h45 =>
 Zk 0 fun t46 =>
 K t46 h45) h31))) s30.1) (fun J22 =>
 Zb r fun b23 o24 =>
 ldI h20 b23 (o24+1) .i64 fun t25 =>
 Zb r fun b26 o27 =>
 ldS h20 b26 o27 fun t28 =>
 Zp (decide (t25<(t28.size:Int))) (
 Zp (decide (c≥97)) (
 ZF (decide (c≤102)) fun t29 =>
 J22 (t29,()) h20) (
 J22 (false,()) h20)) (
 J22 (false,()) h20)))) s19.1) (fun J9 =>
 Zb r fun b10 o11 =>
 ldI h7 b10 (o11+1) .i64 fun t12 =>
 Zb r fun b13 o14 =>
 ldS h7 b13 o14 fun t15 =>
 Zp (decide (t12<(t15.size:Int))) (
 Zbe (ρ:=Bool × Unit) (fun K h=>f31 c (fun q h=>K (q,()) h) h) h7 fun r17 =>
 ZF r17.1 fun t18 =>
 J9 (t18,()) h7) (
 J9 (false,()) h7)))) h4) (
 Zk n1 fun t57 =>
 K t57 h4)) (
 Zk n1 fun t58 =>
 K t58 h4)) s.1 s.2.1) (n,i,()) h
def ZV:Zr8:=XG Zg ZE Zh
abbrev Zuv:=(Option Addr)→(Int→HP)→HP
def YP (f32:Zr8) (r:Option Addr) (K:Int→HP) (h:Ze):Prop :=
 Zk 0 fun t =>
 Zb r fun b o =>
 ldI h b (o+1) .i64 fun t1 =>
 Zb r fun b2 o3 =>
 ldS h b2 o3 fun t4 =>
 Zp (decide ((IntKind.wrap .i64 (t1+6))>(t4.size:Int))) (
 Zk 0 fun t5 =>
 K t5 h) (
 Zb r fun b6 o7 =>
 ldS h b6 o7 fun t8 =>
 Zb r fun b9 o10 =>
 ldI h b9 (o10+1) .i64 fun t11 =>
 ZeH t8 t11 fun t12 =>
 Zp (t12 !=92) (
 Zk 0 fun t13 =>
 K t13 h) (
 Zb r fun b14 o15 =>
 ldS h b14 o15 fun t16 =>
 Zb r fun b17 o18 =>
 ldI h b17 (o18+1) .i64 fun t19 =>
 ZeH t16 (IntKind.wrap .i64 (t19+1)) fun t20 =>
 Zp (t20 !=117) (
 Zk 0 fun t21 =>
 K t21 h) (
 Zb r fun b22 o23 =>
 Zb r fun b24 o25 =>
 Zb r fun b26 o27 =>
 ldS h b22 o23 fun t28 =>
 ldI h b24 (o25+1) .i64 fun t29 =>
 ZfW t28 0 (IntKind.wrap .i64 (t29+6)) fun t30 =>
 ldI h b26 (o27+1) .i64 fun t31 =>
 newC h [.string t30,.int .i64 (IntKind.wrap .i64 (t31+2)),.int .i64 0] 167 fun b32 h33 =>
 Zby (ZbZ h33 [(b26,o27+1,.int .i64 t31)]) <|
 Zby (ZbZ h33 [(b24,o25+1,.int .i64 t29)]) <|
 Zby (ZbZ h33 [(b22,o23,.string t28)]) <|
 f32 (some ⟨b32,0,none⟩) (fun t34 h35 =>
 Zk t34 fun n =>
 ldI h35 b32 (0+2) .i64 fun t36 =>
 Zp (t36 !=0) (
 Zk 0 fun t37 =>
 K t37 h35) (
 Zp (decide (n<56320)) (
 Zk 0 fun t38 =>
 K t38 h35) (
 Zp (decide (n>57343)) (
 Zk 0 fun t39 =>
 K t39 h35) (
 Zk n fun t40 =>
 K t40 h35)))) h33)))
def Z1:Zuv:=YP ZV
abbrev Zuu:=Int→(ByteArray→HP)→HP
def Zbi (n:Int) (K:ByteArray→HP) (h:Ze):Prop :=
 ZF (decide (n<128)) fun t =>
 Zp t (
 newC h [.int .u8 (IntKind.wrap .u8 n)] 5 fun b h1 =>
 b2s ⟨some ⟨b,0,none⟩,1,1⟩ h1 fun t2 =>
 K t2 h1) (
 ZF (decide (n<2048)) fun t3 =>
 Zp t3 (
 Zby (0≤(6:Int)) <|
 newC h [.int .u8 (IntKind.wrap .u8 (orV .i64 (192:Int) (Zh5 .i64 n 6))),.int .u8 (IntKind.wrap .u8 (orV .i64 (128:Int) (Zh1 .i64 n 63)))] 5 fun b4 h5 =>
 b2s ⟨some ⟨b4,0,none⟩,2,2⟩ h5 fun t6 =>
 K t6 h5) (
 ZF (decide (n<65536)) fun t7 =>
 Zp t7 (
 Zby (0≤(12:Int)) <|
 Zby (0≤(6:Int)) <|
 newC h [.int .u8 (IntKind.wrap .u8 (orV .i64 (224:Int) (Zh5 .i64 n 12))),.int .u8 (IntKind.wrap .u8 (orV .i64 (128:Int) (Zh1 .i64 (Zh5 .i64 n 6) 63))),.int .u8 (IntKind.wrap .u8 (orV .i64 (128:Int) (Zh1 .i64 n 63)))] 5 fun b8 h9 =>
 b2s ⟨some ⟨b8,0,none⟩,3,3⟩ h9 fun t10 =>
 K t10 h9) (
 Zby (0≤(18:Int)) <|
 Zby (0≤(12:Int)) <|
 Zby (0≤(6:Int)) <|
 newC h [.int .u8 (IntKind.wrap .u8 (orV .i64 (240:Int) (Zh5 .i64 n 18))),.int .u8 (IntKind.wrap .u8 (orV .i64 (128:Int) (Zh1 .i64 (Zh5 .i64 n 12) 63))),.int .u8 (IntKind.wrap .u8 (orV .i64 (128:Int) (Zh1 .i64 (Zh5 .i64 n 6) 63))),.int .u8 (IntKind.wrap .u8 (orV .i64 (128:Int) (Zh1 .i64 n 63)))] 5 fun b11 h12 =>
 b2s ⟨some ⟨b11,0,none⟩,4,4⟩ h12 fun t13 =>
 K t13 h12)))
def YT:Zuu:=Zbi
abbrev Zut:=(Option Addr)→(ByteArray→HP)→HP
def Y7 (f27:ZdJ) (f29:Zgm) (f32:Zr8) (f33:Zuv) (f34:Zuu) (r:Option Addr) (K:ByteArray→HP) (h:Ze):Prop :=
 f27 r (fun t h1 =>
 Zk t fun c =>
 Zb r fun b o =>
 ldI h1 b (o+1) .i64 fun t2 =>
 Zb r fun b3 o4 =>
 ldS h1 b3 o4 fun t5 =>
 Zp (decide (t2≥(t5.size:Int))) (
 f29 r 24 (fun h6 =>
 K (ByteArray.mk #[]) h6) h1) (
 Zaq (σ:=ByteArray × Unit) (fun s51 h52 =>
 (fun (out:ByteArray) =>
 Zb r fun b53 o54 =>
 ldI h52 b53 (o54+1) .i64 fun t55 =>
 Zb r fun b56 o57 =>
 st h52 b56 (o57+1) (.int .i64 (IntKind.wrap .i64 (t55+1))) fun h58 =>
 K out h58) s51.1) (fun J7 =>
 Zaq (σ:=Bool × Unit) (fun s h12 =>
 (fun (s24:Bool) =>
 Zp s24 (
 newC h12 [.int .u8 c] 5 fun b13 h14 =>
 b2s ⟨some ⟨b13,0,none⟩,1,1⟩ h14 fun t15 =>
 J7 (t15,()) h14) (
 ZF (c ==98) fun t16 =>
 Zp t16 (
 J7 (ByteArray.mk #[8],()) h12) (
 ZF (c ==102) fun t17 =>
 Zp t17 (
 J7 (ByteArray.mk #[12],()) h12) (
 ZF (c ==110) fun t18 =>
 Zp t18 (
 J7 (ByteArray.mk #[10],()) h12) (
 ZF (c ==114) fun t19 =>
 Zp t19 (
 J7 (ByteArray.mk #[13],()) h12) (
 ZF (c ==116) fun t20 =>
 Zp t20 (
 J7 (ByteArray.mk #[9],()) h12) (
 ZF (c ==117) fun t21 =>
 Zp t21 (
 Zb r fun b22 o23 =>
 ldI h12 b22 (o23+1) .i64 fun t24 =>
 Zb r fun b25 o26 =>
 st h12 b25 (o26+1) (.int .i64 (IntKind.wrap .i64 (t24+1))) fun h27 =>
 f32 r (fun t28 h29 =>
 Zk t28 fun n =>
 Zaq (σ:=Unit) (fun s41 h42 =>
 Zaq (σ:=Unit) (fun s46 h47 =>
 f34 n (fun t48 h49 =>
 K t48 h49) h47) (fun J43 =>
 Zp (decide (n≥55296)) (
 Zp (decide (n≤57343)) (
 f34 65533 (fun t44 h45 =>
 K t44 h45) h42) (
 J43 (()) h42)) (
 J43 (()) h42))) (fun J30 =>
 Zp (decide (n≥55296)) (
 Zp (decide (n≤56319)) (
 f33 r (fun t31 h32 =>
 Zk t31 fun low =>
 Zp (decide (low>0)) (
 Zb r fun b33 o34 =>
 ldI h32 b33 (o34+1) .i64 fun t35 =>
 Zb r fun b36 o37 =>
 st h32 b36 (o37+1) (.int .i64 (IntKind.wrap .i64 (t35+6))) fun h38 =>
 Zby (0≤(10:Int)) <|
 f34 (IntKind.wrap .i64 ((IntKind.wrap .i64 ((IntKind.wrap .i64 ((65536:Int)+(ZmF .i64 (IntKind.wrap .i64 (n - 55296)) 10)))+low)) - 56320)) (fun t39 h40 =>
 K t39 h40) h38) (
 J30 (()) h32)) h29) (
 J30 (()) h29)) (
 J30 (()) h29))) h27) (
 f29 r 22 (fun h50 =>
 K (ByteArray.mk #[]) h50) h12)))))))) s.1) (fun J8 =>
 ZF (c ==34) fun t9 =>
 Zp t9 (
 J8 (t9,()) h1) (
 ZF (c ==92) fun t10 =>
 Zp t10 (
 J8 (t10,()) h1) (
 ZF (c ==47) fun t11 =>
 J8 (t11,()) h1)))))) h
def Yc:Zut:=Y7 Zg Zh ZV Z1 YT
abbrev Zr7:=Int→(Int→Int→Int→HP)→HP
def Zao (c:Int) (K:Int→Int→Int→HP) (h:Ze):Prop :=
 Zk 0 fun t =>
 Zk 0 fun t1 =>
 Zk 0 fun t2 =>
 ZF (decide (c<128)) fun t3 =>
 Zp t3 (
 Zk 1 fun t4 =>
 Zk 0 fun t5 =>
 Zk 0 fun t6 =>
 K t4 t5 t6 h) (
 Zaq (σ:=Bool × Unit) (fun s h9 =>
 (fun (s8:Bool) =>
 Zp s8 (
 Zk 2 fun t10 =>
 Zk 128 fun t11 =>
 Zk 191 fun t12 =>
 K t10 t11 t12 h9) (
 ZF (c ==224) fun t13 =>
 Zp t13 (
 Zk 3 fun t14 =>
 Zk 160 fun t15 =>
 Zk 191 fun t16 =>
 K t14 t15 t16 h9) (
 ZF (c ==237) fun t17 =>
 Zp t17 (
 Zk 3 fun t18 =>
 Zk 128 fun t19 =>
 Zk 159 fun t20 =>
 K t18 t19 t20 h9) (
 Zp (decide (c≥225)) (
 ZF (decide (c≤239)) fun t21 =>
 Zp t21 (
 Zk 3 fun t22 =>
 Zk 128 fun t23 =>
 Zk 191 fun t24 =>
 K t22 t23 t24 h9) (
 ZF (c ==240) fun t25 =>
 Zp t25 (
 Zk 4 fun t26 =>
 Zk 144 fun t27 =>
 Zk 191 fun t28 =>
 K t26 t27 t28 h9) (
 Zp (decide (c≥241)) (
 ZF (decide (c≤243)) fun t29 =>
 Zp t29 (
 Zk 4 fun t30 =>
 Zk 128 fun t31 =>
 Zk 191 fun t32 =>
 K t30 t31 t32 h9) (
 ZF (c ==244) fun t33 =>
 Zp t33 (
 Zk 4 fun t34 =>
 Zk 128 fun t35 =>
 Zk 143 fun t36 =>
 K t34 t35 t36 h9) (
 Zk 0 fun t37 =>
 Zk 0 fun t38 =>
 Zk 0 fun t39 =>
 K t37 t38 t39 h9))) (
 ZF (c ==244) fun t40 =>
 Zp t40 (
 Zk 4 fun t41 =>
 Zk 128 fun t42 =>
 Zk 143 fun t43 =>
 K t41 t42 t43 h9) (
 Zk 0 fun t44 =>
 Zk 0 fun t45 =>
 Zk 0 fun t46 =>
 K t44 t45 t46 h9))))) (
 ZF (c ==240) fun t47 =>
 Zp t47 (
 Zk 4 fun t48 =>
 Zk 144 fun t49 =>
 Zk 191 fun t50 =>
 K t48 t49 t50 h9) (
 Zp (decide (c≥241)) (
 ZF (decide (c≤243)) fun t51 =>
 Zp t51 (
 Zk 4 fun t52 =>
 Zk 128 fun t53 =>
 Zk 191 fun t54 =>
 K t52 t53 t54 h9) (
 ZF (c ==244) fun t55 =>
 Zp t55 (
 Zk 4 fun t56 =>
 Zk 128 fun t57 =>
 Zk 143 fun t58 =>
 K t56 t57 t58 h9) (
 Zk 0 fun t59 =>
 Zk 0 fun t60 =>
 Zk 0 fun t61 =>
 K t59 t60 t61 h9))) (
 ZF (c ==244) fun t62 =>
 Zp t62 (
 Zk 4 fun t63 =>
 Zk 128 fun t64 =>
 Zk 143 fun t65 =>
 K t63 t64 t65 h9) (
 Zk 0 fun t66 =>
 Zk 0 fun t67 =>
 Zk 0 fun t68 =>
 K t66 t67 t68 h9)))))))) s.1) (fun J7 =>
 Zp (decide (c≥194)) (
 ZF (decide (c≤223)) fun t8 =>
 J7 (t8,()) h) (
 J7 (false,()) h)))
def Ye:Zr7:=Zao
abbrev Zus:=(Option Addr)→(HP)→HP
def YQ (f27:ZdJ) (f36:Zr7) (f29:Zgm) (r:Option Addr) (K:HP) (h:Ze):Prop :=
 f27 r (fun t h1 =>
 f36 t (fun t2 t3 t4 h5 =>
 Zk t2 fun n =>
 Zk t3 fun lo =>
 Zk t4 fun hi =>
 Zp (n ==0) (
 f29 r 22 (fun h6 =>
 K h6) h5) (
 f27 r (fun t7 h8 =>
 Zp (decide (t7<32)) (
 f29 r 22 (fun h9 =>
 K h9) h8) (
 Zb r fun b o =>
 ldI h8 b (o+1) .i64 fun t10 =>
 Zb r fun b11 o12 =>
 st h8 b11 (o12+1) (.int .i64 (IntKind.wrap .i64 (t10+1))) fun h13 =>
 Zk 1 fun i =>
 Zan (σ:=Int × Int × Int × Unit) (fun J17 s h18 =>
 (fun (lo14:Int) (hi15:Int) (i16:Int) =>
 Zp (decide (i16<n)) (
 Zb r fun b19 o20 =>
 ldI h18 b19 (o20+1) .i64 fun t21 =>
 Zb r fun b22 o23 =>
 ldS h18 b22 o23 fun t24 =>
 Zp (decide (t21≥(t24.size:Int))) (
 f29 r 22 (fun h25 =>
 K h25) h18) (
 Zbe (ρ:=Int × Unit) (fun K h=>f27 r (fun q h=>K (q,()) h) h) h18 fun r27 =>
 Zp (decide (r27.1<lo14)) (
 f29 r 22 (fun h28 =>
 K h28) h18) (
 Zbe (ρ:=Int × Unit) (fun K h=>f27 r (fun q30 h=>K (q30,()) h) h) h18 fun r31 =>
 Zp (decide (r31.1>hi15)) (
 f29 r 22 (fun h32 =>
 K h32) h18) (
 Zb r fun b33 o34 =>
 ldI h18 b33 (o34+1) .i64 fun t35 =>
 Zb r fun b36 o37 =>
 st h18 b36 (o37+1) (.int .i64 (IntKind.wrap .i64 (t35+1))) fun h38 =>
 Zk 128 fun lo39 =>
 Zk 191 fun hi40 =>
 Zk (IntKind.wrap .i64 (i16+1)) fun i41 =>
 J17 (lo39,hi40,i41,()) h38)))) (
 K h18)) s.1 s.2.1 s.2.2.1) (lo,hi,i,()) h13)) h5)) h1) h
def Z2:Zus:=YQ Zg Ye Zh
abbrev Zr6:=(Option Addr)→(ByteArray→HP)→HP
def Xy (f30:Zms) (f29:Zgm) (f27:ZdJ) (f35:Zut) (f37:Zus) (r:Option Addr) (K:ByteArray→HP) (h:Ze):Prop :=
 f30 r 34 (fun h1 =>
 Zan (σ:=ByteArray × Unit) (fun J2 s h3 =>
 (fun (out:ByteArray) =>
 Zb r fun b o =>
 ldI h3 b (o+2) .i64 fun t =>
 Zp (t ==0) (
 Zb r fun b4 o5 =>
 ldI h3 b4 (o5+1) .i64 fun t6 =>
 Zb r fun b7 o8 =>
 ldS h3 b7 o8 fun t9 =>
 Zp (decide (t6≥(t9.size:Int))) (
 f29 r 24 (fun h10 =>
 K (ByteArray.mk #[]) h10) h3) (
 f27 r (fun t11 h12 =>
 Zk t11 fun c =>
 Zp (c ==34) (
 Zb r fun b13 o14 =>
 ldI h12 b13 (o14+1) .i64 fun t15 =>
 Zb r fun b16 o17 =>
 st h12 b16 (o17+1) (.int .i64 (IntKind.wrap .i64 (t15+1))) fun h18 =>
 K out h18) (
 Zp (c ==92) (
 Zb r fun b19 o20 =>
 ldI h12 b19 (o20+1) .i64 fun t21 =>
 Zb r fun b22 o23 =>
 st h12 b22 (o23+1) (.int .i64 (IntKind.wrap .i64 (t21+1))) fun h24 =>
 f35 r (fun t25 h26 =>
 Zkg out t25 fun s27 =>
 J2 (s27,()) h26) h24) (
 Zb r fun b28 o29 =>
 ldI h12 b28 (o29+1) .i64 fun t30 =>
 Zk t30 fun from_ =>
 f37 r (fun h31 =>
 Zb r fun b32 o33 =>
 ldS h31 b32 o33 fun t34 =>
 Zb r fun b35 o36 =>
 ldI h31 b35 (o36+1) .i64 fun t37 =>
 ZfW t34 from_ t37 fun t38 =>
 Zkg out t38 fun s39 =>
 J2 (s39,()) h31) h12))) h3)) (
 K (ByteArray.mk #[]) h3)) s.1) (ByteArray.mk #[],()) h1) h
def ZS:Zr6:=Xy Zu Zh Zg Yc Z2
abbrev Zur:=(Option Addr)→(HP)→HP
def Y8 (f29:Zgm) (f27:ZdJ) (f31:Zko) (r:Option Addr) (K:HP) (h:Ze):Prop :=
 Zb r fun b o =>
 ldI h b (o+2) .i64 fun t =>
 Zp (t !=0) (
 K h) (
 Zb r fun b1 o2 =>
 ldI h b1 (o2+1) .i64 fun t3 =>
 Zb r fun b4 o5 =>
 ldS h b4 o5 fun t6 =>
 Zp (decide (t3≥(t6.size:Int))) (
 f29 r 21 (fun h7 =>
 K h7) h) (
 Zbe (ρ:=Int × Unit) (fun K h=>f27 r (fun q h=>K (q,()) h) h) h fun r9 =>
 Zbe (ρ:=Bool × Unit) (fun K h=>f31 r9.1 (fun q11 h=>K (q11,()) h) h) h fun r12 =>
 Zp (!r12.1) (
 f29 r 21 (fun h13 =>
 K h13) h) (
 Zan (σ:=Unit) (fun J14 s h15 =>
 Zb r fun b16 o17 =>
 ldI h15 b16 (o17+1) .i64 fun t18 =>
 Zb r fun b19 o20 =>
 ldS h15 b19 o20 fun t21 =>
 Zp (decide (t18<(t21.size:Int))) (
 Zbe (ρ:=Int × Unit) (fun K h=>f27 r (fun q23 h=>K (q23,()) h) h) h15 fun r24 =>
 Zbe (ρ:=Bool × Unit) (fun K h=>f31 r24.1 (fun q26 h=>K (q26,()) h) h) h15 fun r27 =>
 Zp r27.1 (
 Zb r fun b28 o29 =>
 ldI h15 b28 (o29+1) .i64 fun t30 =>
 Zb r fun b31 o32 =>
 st h15 b31 (o32+1) (.int .i64 (IntKind.wrap .i64 (t30+1))) fun h33 =>
 J14 (()) h33) (
 K h15)) (
 K h15)) (()) h)))
def ZW:Zur:=Y8 Zh Zg ZE
abbrev Zuq:=(Option Addr)→(ByteArray→HP)→HP
def Y6 (f27:ZdJ) (f31:Zko) (f29:Zgm) (f39:Zur) (r:Option Addr) (K:ByteArray→HP) (h:Ze):Prop :=
 Zb r fun b o =>
 ldI h b (o+1) .i64 fun t =>
 Zk t fun from_ =>
 Zaq (σ:=Unit) (fun s h10 =>
 Zaq (σ:=Bool × Unit) (fun s21 h22 =>
 (fun (nought20:Bool) =>
 Zaq (σ:=Unit) (fun s44 h45 =>
 Zaq (σ:=Unit) (fun s66 h67 =>
 Zaq (σ:=Unit) (fun s121 h122 =>
 Zb r fun b123 o124 =>
 ldS h122 b123 o124 fun t125 =>
 Zb r fun b126 o127 =>
 ldI h122 b126 (o127+1) .i64 fun t128 =>
 ZfW t125 from_ t128 fun t129 =>
 K t129 h122) (fun J68 =>
 Zaq (σ:=Bool × Unit) (fun s85 h86 =>
 (fun (s118:Bool) =>
 Zp s118 (
 Zb r fun b87 o88 =>
 ldI h86 b87 (o88+1) .i64 fun t89 =>
 Zb r fun b90 o91 =>
 st h86 b90 (o91+1) (.int .i64 (IntKind.wrap .i64 (t89+1))) fun h92 =>
 Zb r fun b93 o94 =>
 ldI h92 b93 (o94+1) .i64 fun t95 =>
 Zb r fun b96 o97 =>
 ldS h92 b96 o97 fun t98 =>
 Zp (decide (t95<(t98.size:Int))) (
 Zbe (ρ:=Int × Unit) (fun K h=>f27 r (fun q100 h=>K (q100,()) h) h) h92 fun r101 =>
 Zp (r101.1 ==43) (
 Zb r fun b102 o103 =>
 ldI h92 b102 (o103+1) .i64 fun t104 =>
 Zb r fun b105 o106 =>
 st h92 b105 (o106+1) (.int .i64 (IntKind.wrap .i64 (t104+1))) fun h107 =>
 f39 r (fun h108 =>
 J68 (()) h108) h107) (
 Zbe (ρ:=Int × Unit) (fun K h=>f27 r (fun q110 h=>K (q110,()) h) h) h92 fun r111 =>
 Zp (r111.1 ==45) (
 Zb r fun b112 o113 =>
 ldI h92 b112 (o113+1) .i64 fun t114 =>
 Zb r fun b115 o116 =>
 st h92 b115 (o116+1) (.int .i64 (IntKind.wrap .i64 (t114+1))) fun h117 =>
 f39 r (fun h118 =>
 J68 (()) h118) h117) (
 f39 r (fun h119 =>
 J68 (()) h119) h92))) (
 f39 r (fun h120 =>
 J68 (()) h120) h92)) (
 J68 (()) h86)) s85.1) (fun J69 =>
 Zb r fun b70 o71 =>
 ldI h67 b70 (o71+2) .i64 fun t72 =>
 Zp (t72 ==0) (
 Zb r fun b73 o74 =>
 ldI h67 b73 (o74+1) .i64 fun t75 =>
 Zb r fun b76 o77 =>
 ldS h67 b76 o77 fun t78 =>
 Zp (decide (t75<(t78.size:Int))) (
 Zbe (ρ:=Int × Unit) (fun K h=>f27 r (fun q80 h=>K (q80,()) h) h) h67 fun r81 =>
 Zp (r81.1 ==101) (
 J69 (true,()) h67) (
 Zbe (ρ:=Int × Unit) (fun K h=>f27 r (fun q83 h=>K (q83,()) h) h) h67 fun r84 =>
 J69 (r84.1 ==69,()) h67)) (
 J69 (false,()) h67)) (
 J69 (false,()) h67)))) (fun J46 =>
 Zb r fun b47 o48 =>
 ldI h45 b47 (o48+2) .i64 fun t49 =>
 Zp (t49 ==0) (
 Zb r fun b50 o51 =>
 ldI h45 b50 (o51+1) .i64 fun t52 =>
 Zb r fun b53 o54 =>
 ldS h45 b53 o54 fun t55 =>
 Zp (decide (t52<(t55.size:Int))) (
 Zbe (ρ:=Int × Unit) (fun K h=>f27 r (fun q57 h=>K (q57,()) h) h) h45 fun r58 =>
 Zp (r58.1 ==46) (
 Zb r fun b59 o60 =>
 ldI h45 b59 (o60+1) .i64 fun t61 =>
 Zb r fun b62 o63 =>
 st h45 b62 (o63+1) (.int .i64 (IntKind.wrap .i64 (t61+1))) fun h64 =>
 f39 r (fun h65 =>
 J46 (()) h65) h64) (
 J46 (()) h45)) (
 J46 (()) h45)) (
 J46 (()) h45))) (fun J23 =>
 Zp nought20 (
 Zb r fun b24 o25 =>
 ldI h22 b24 (o25+1) .i64 fun t26 =>
 Zb r fun b27 o28 =>
 st h22 b27 (o28+1) (.int .i64 (IntKind.wrap .i64 (t26+1))) fun h29 =>
 Zb r fun b30 o31 =>
 ldI h29 b30 (o31+1) .i64 fun t32 =>
 Zb r fun b33 o34 =>
 ldS h29 b33 o34 fun t35 =>
 Zp (decide (t32<(t35.size:Int))) (
 Zbe (ρ:=Int × Unit) (fun K h=>f27 r (fun q37 h=>K (q37,()) h) h) h29 fun r38 =>
 Zbe (ρ:=Bool × Unit) (fun K h=>f31 r38.1 (fun q40 h=>K (q40,()) h) h) h29 fun r41 =>
 Zp r41.1 (
 f29 r 21 (fun h42 =>
 J23 (()) h42) h29) (
 J23 (()) h29)) (
 J23 (()) h29)) (
 f39 r (fun h43 =>
 J23 (()) h43) h22))) s21.1) (fun J11 =>
 Zb r fun b12 o13 =>
 ldI h10 b12 (o13+1) .i64 fun t14 =>
 Zb r fun b15 o16 =>
 ldS h10 b15 o16 fun t17 =>
 Zp (decide (t14<(t17.size:Int))) (
 Zbe (ρ:=Int × Unit) (fun K h=>f27 r (fun q h=>K (q,()) h) h) h10 fun r19 =>
 ZF (r19.1 ==48) fun nought =>
 J11 (nought,()) h10) (
 J11 (false,()) h10))) (fun J1 =>
 f27 r (fun t2 h3 =>
 Zp (t2 ==45) (
 Zb r fun b4 o5 =>
 ldI h3 b4 (o5+1) .i64 fun t6 =>
 Zb r fun b7 o8 =>
 st h3 b7 (o8+1) (.int .i64 (IntKind.wrap .i64 (t6+1))) fun h9 =>
 J1 (()) h9) (
 J1 (()) h3)) h)
def Yb:Zuq:=Y6 Zg ZE Zh ZW
abbrev Zup:=(Option Addr)→ByteArray→(HP)→HP
def Xx (f30:Zms) (r:Option Addr) (w:ByteArray) (K:HP) (h:Ze):Prop :=
 Zk 0 fun i =>
 Zan (σ:=Int × Unit) (fun J2 s h3 =>
 (fun (i1:Int) =>
 Zp (decide (i1<(w.size:Int))) (
 ZeH w i1 fun t =>
 f30 r t (fun h4 =>
 Zk (IntKind.wrap .i64 (i1+1)) fun i5 =>
 J2 (i5,()) h4) h3) (
 K h3)) s.1) (i,()) h
def Z5:Zup:=Xx Zu
abbrev ZgF:=(Option Addr)→Int→((Int × ByteArray × Sl × Sl × Unit)→HP)→HP
abbrev Zr5:=(Option Addr)→Int→(Bool→HP)→HP
def Xz (f28:Zkp) (f27:ZdJ) (f30:Zms) (r:Option Addr) (end_:Int) (K:Bool→HP) (h:Ze):Prop :=
 f28 r (fun h1 =>
 Zaq (σ:=Unit) (fun s h17 =>
 f30 r end_ (fun h18 =>
 K false h18) h17) (fun J2 =>
 Zb r fun b o =>
 ldI h1 b (o+2) .i64 fun t =>
 Zp (t ==0) (
 Zbe (ρ:=Int × Unit) (fun K h=>f27 r (fun q h=>K (q,()) h) h) h1 fun r4 =>
 Zp (r4.1 ==44) (
 Zb r fun b5 o6 =>
 ldI h1 b5 (o6+1) .i64 fun t7 =>
 Zb r fun b8 o9 =>
 ldS h1 b8 o9 fun t10 =>
 Zp (decide (t7<(t10.size:Int))) (
 Zb r fun b11 o12 =>
 ldI h1 b11 (o12+1) .i64 fun t13 =>
 Zb r fun b14 o15 =>
 st h1 b14 (o15+1) (.int .i64 (IntKind.wrap .i64 (t13+1))) fun h16 =>
 K true h16) (
 J2 (()) h1)) (
 J2 (()) h1)) (
 J2 (()) h1))) h
def ZR:Zr5:=Xz Zq Zg Zu
abbrev Zuo:=(Option Addr)→Int→((Int × ByteArray × Sl × Sl × Unit)→HP)→HP
def Xm (f28:Zkp) (f27:ZdJ) (f42:ZgF) (f43:Zr5) (r:Option Addr) (depth:Int) (K:(Int × ByteArray × Sl × Sl × Unit)→HP) (h:Ze):Prop :=
 newC h [.int .u8 0,.string (ByteArray.mk #[]),.slice none 0 0,.slice none 0 0] 33 fun b h1 =>
 newC h1 [.int .u8 0,.string (ByteArray.mk #[]),.slice none 0 0,.slice none 0 0] 33 fun b2 h3 =>
 sts h3 b2 0 [.int .u8 6,.string (ByteArray.mk #[]),.slice none 0 0,.slice none 0 0] fun h4 =>
 f28 r (fun h5 =>
 Zaq (σ:=Unit) (fun s h31 =>
 Zan (σ:=Unit) (fun J32 s33 h34 =>
 Zb r fun b35 o36 =>
 ldI h34 b35 (o36+2) .i64 fun t37 =>
 Zp (t37 ==0) (
 ldL h34 b2 (0+2) fun t38 =>
 f42 r depth (fun t39 h40 =>
 Zby (ZbZ h40 [(b2,0+2,.slice t38.ptr t38.len t38.cap)]) <|
 newC h40 [.int .u8 t39.1,.string t39.2.1,.slice t39.2.2.1.ptr t39.2.2.1.len t39.2.2.1.cap,.slice t39.2.2.2.1.ptr t39.2.2.2.1.len t39.2.2.2.1.cap] 33 fun b41 h42 =>
 Zby (ZbZ h42 [(b2,0+2,.slice t38.ptr t38.len t38.cap)]) <|
 rdS ⟨some ⟨b41,0,none⟩,1,1⟩ 4 h42 fun new=>app 33 4 72 [.int .u8 0,.string (ByteArray.mk #[]),.slice none 0 0,.slice none 0 0] t38 1 new h42 fun t43 h44 =>
 st h44 b2 (0+2) (.slice t43.ptr t43.len t43.cap) fun h45 =>
 f43 r 93 (fun t46 h47 =>
 Zp (!t46) (
 ldI h47 b2 0 .u8 fun t48=>ldS h47 b2 (0+1) fun t49=>ldL h47 b2 (0+2) fun t50=>ldL h47 b2 (0+3) fun t51 =>
 sts h47 b 0 [.int .u8 t48,.string t49,.slice t50.ptr t50.len t50.cap,.slice t51.ptr t51.len t51.cap] fun h52 =>
 ldI h52 b 0 .u8 fun t53=>ldS h52 b (0+1) fun t54=>ldL h52 b (0+2) fun t55=>ldL h52 b (0+3) fun t56=>K (t53,t54,t55,t56,()) h52) (
 J32 (()) h47)) h45) h34) (
 ldI h34 b2 0 .u8 fun t57=>ldS h34 b2 (0+1) fun t58=>ldL h34 b2 (0+2) fun t59=>ldL h34 b2 (0+3) fun t60 =>
 sts h34 b 0 [.int .u8 t57,.string t58,.slice t59.ptr t59.len t59.cap,.slice t60.ptr t60.len t60.cap] fun h61 =>
 ldI h61 b 0 .u8 fun t62=>ldS h61 b (0+1) fun t63=>ldL h61 b (0+2) fun t64=>ldL h61 b (0+3) fun t65=>K (t62,t63,t64,t65,()) h61)) (()) h31) (fun J6 =>
 Zb r fun b7 o =>
 ldI h5 b7 (o+2) .i64 fun t =>
 Zp (t ==0) (
 Zb r fun b8 o9 =>
 ldI h5 b8 (o9+1) .i64 fun t10 =>
 Zb r fun b11 o12 =>
 ldS h5 b11 o12 fun t13 =>
 Zp (decide (t10<(t13.size:Int))) (
 Zbe (ρ:=Int × Unit) (fun K h=>f27 r (fun q h=>K (q,()) h) h) h5 fun r15 =>
 Zp (r15.1 ==93) (
 Zb r fun b16 o17 =>
 ldI h5 b16 (o17+1) .i64 fun t18 =>
 Zb r fun b19 o20 =>
 st h5 b19 (o20+1) (.int .i64 (IntKind.wrap .i64 (t18+1))) fun h21 =>
 ldI h21 b2 0 .u8 fun t22=>ldS h21 b2 (0+1) fun t23=>ldL h21 b2 (0+2) fun t24=>ldL h21 b2 (0+3) fun t25 =>
 sts h21 b 0 [.int .u8 t22,.string t23,.slice t24.ptr t24.len t24.cap,.slice t25.ptr t25.len t25.cap] fun h26 =>
 ldI h26 b 0 .u8 fun t27=>ldS h26 b (0+1) fun t28=>ldL h26 b (0+2) fun t29=>ldL h26 b (0+3) fun t30=>K (t27,t28,t29,t30,()) h26) (
 J6 (()) h5)) (
 J6 (()) h5)) (
 J6 (()) h5))) h4
def Yg (f42:ZgF):Zuo:=Xm Zq Zg f42 ZR
abbrev Zun:=(Option Addr)→Int→((Int × ByteArray × Sl × Sl × Unit)→HP)→HP
def Y5 (f28:Zkp) (f27:ZdJ) (f38:Zr6) (f30:Zms) (f42:ZgF) (f43:Zr5) (r:Option Addr) (depth:Int) (K:(Int × ByteArray × Sl × Sl × Unit)→HP) (h:Ze):Prop :=
 newC h [.int .u8 0,.string (ByteArray.mk #[]),.slice none 0 0,.slice none 0 0] 33 fun b h1 =>
 newC h1 [.int .u8 0,.string (ByteArray.mk #[]),.slice none 0 0,.slice none 0 0] 33 fun b2 h3 =>
 sts h3 b2 0 [.int .u8 7,.string (ByteArray.mk #[]),.slice none 0 0,.slice none 0 0] fun h4 =>
 f28 r (fun h5 =>
 Zaq (σ:=Unit) (fun s h31 =>
 Zan (σ:=Unit) (fun J32 s33 h34 =>
 Zb r fun b35 o36 =>
 ldI h34 b35 (o36+2) .i64 fun t37 =>
 Zp (t37 ==0) (
 f28 r (fun h38 =>
 ldL h38 b2 (0+3) fun t39 =>
 f38 r (fun t40 h41 =>
 Zby (ZbZ h41 [(b2,0+3,.slice t39.ptr t39.len t39.cap)]) <|
 newC h41 [.string t40] 9 fun b42 h43 =>
 Zby (ZbZ h43 [(b2,0+3,.slice t39.ptr t39.len t39.cap)]) <|
 rdS ⟨some ⟨b42,0,none⟩,1,1⟩ 1 h43 fun new=>app 9 1 16 [.string (ByteArray.mk #[])] t39 1 new h43 fun t44 h45 =>
 st h45 b2 (0+3) (.slice t44.ptr t44.len t44.cap) fun h46 =>
 f28 r (fun h47 =>
 f30 r 58 (fun h48 =>
 ldL h48 b2 (0+2) fun t49 =>
 f42 r depth (fun t50 h51 =>
 Zby (ZbZ h51 [(b2,0+2,.slice t49.ptr t49.len t49.cap)]) <|
 newC h51 [.int .u8 t50.1,.string t50.2.1,.slice t50.2.2.1.ptr t50.2.2.1.len t50.2.2.1.cap,.slice t50.2.2.2.1.ptr t50.2.2.2.1.len t50.2.2.2.1.cap] 33 fun b52 h53 =>
 Zby (ZbZ h53 [(b2,0+2,.slice t49.ptr t49.len t49.cap)]) <|
 rdS ⟨some ⟨b52,0,none⟩,1,1⟩ 4 h53 fun new56=>app 33 4 72 [.int .u8 0,.string (ByteArray.mk #[]),.slice none 0 0,.slice none 0 0] t49 1 new56 h53 fun t54 h55 =>
 st h55 b2 (0+2) (.slice t54.ptr t54.len t54.cap) fun h57 =>
 f43 r 125 (fun t58 h59 =>
 Zp (!t58) (
 ldI h59 b2 0 .u8 fun t60=>ldS h59 b2 (0+1) fun t61=>ldL h59 b2 (0+2) fun t62=>ldL h59 b2 (0+3) fun t63 =>
 sts h59 b 0 [.int .u8 t60,.string t61,.slice t62.ptr t62.len t62.cap,.slice t63.ptr t63.len t63.cap] fun h64 =>
 ldI h64 b 0 .u8 fun t65=>ldS h64 b (0+1) fun t66=>ldL h64 b (0+2) fun t67=>ldL h64 b (0+3) fun t68=>K (t65,t66,t67,t68,()) h64) (
 J32 (()) h59)) h57) h48) h47) h46) h38) h34) (
 ldI h34 b2 0 .u8 fun t69=>ldS h34 b2 (0+1) fun t70=>ldL h34 b2 (0+2) fun t71=>ldL h34 b2 (0+3) fun t72 =>
 sts h34 b 0 [.int .u8 t69,.string t70,.slice t71.ptr t71.len t71.cap,.slice t72.ptr t72.len t72.cap] fun h73 =>
 ldI h73 b 0 .u8 fun t74=>ldS h73 b (0+1) fun t75=>ldL h73 b (0+2) fun t76=>ldL h73 b (0+3) fun t77=>K (t74,t75,t76,t77,()) h73)) (()) h31) (fun J6 =>
 Zb r fun b7 o =>
 ldI h5 b7 (o+2) .i64 fun t =>
 Zp (t ==0) (
 Zb r fun b8 o9 =>
 ldI h5 b8 (o9+1) .i64 fun t10 =>
 Zb r fun b11 o12 =>
 ldS h5 b11 o12 fun t13 =>
 Zp (decide (t10<(t13.size:Int))) (
 Zbe (ρ:=Int × Unit) (fun K h=>f27 r (fun q h=>K (q,()) h) h) h5 fun r15 =>
 Zp (r15.1 ==125) (
 Zb r fun b16 o17 =>
 ldI h5 b16 (o17+1) .i64 fun t18 =>
 Zb r fun b19 o20 =>
 st h5 b19 (o20+1) (.int .i64 (IntKind.wrap .i64 (t18+1))) fun h21 =>
 ldI h21 b2 0 .u8 fun t22=>ldS h21 b2 (0+1) fun t23=>ldL h21 b2 (0+2) fun t24=>ldL h21 b2 (0+3) fun t25 =>
 sts h21 b 0 [.int .u8 t22,.string t23,.slice t24.ptr t24.len t24.cap,.slice t25.ptr t25.len t25.cap] fun h26 =>
 ldI h26 b 0 .u8 fun t27=>ldS h26 b (0+1) fun t28=>ldL h26 b (0+2) fun t29=>ldL h26 b (0+3) fun t30=>K (t27,t28,t29,t30,()) h26) (
 J6 (()) h5)) (
 J6 (()) h5)) (
 J6 (()) h5))) h4
def Ya (f42:ZgF):Zun:=Y5 Zq Zg ZS Zu f42 ZR
def Xl (f28:Zkp) (f27:ZdJ) (f29:Zgm) (f38:Zr6) (f31:Zko) (f40:Zuq) (f41:Zup) (f44:Zuo) (f45:Zun) (r:Option Addr) (depth:Int) (K:(Int × ByteArray × Sl × Sl × Unit)→HP) (h:Ze):Prop :=
 newC h [.int .u8 0,.string (ByteArray.mk #[]),.slice none 0 0,.slice none 0 0] 33 fun b h1 =>
 f28 r (fun h2 =>
 Zb r fun b3 o =>
 ldI h2 b3 (o+2) .i64 fun t =>
 Zp (t !=0) (
 sts h2 b 0 [.int .u8 0,.string (ByteArray.mk #[]),.slice none 0 0,.slice none 0 0] fun h4 =>
 ldI h4 b 0 .u8 fun t5=>ldS h4 b (0+1) fun t6=>ldL h4 b (0+2) fun t7=>ldL h4 b (0+3) fun t8=>K (t5,t6,t7,t8,()) h4) (
 f27 r (fun t9 h10 =>
 Zk t9 fun c =>
 Zb r fun b11 o12 =>
 ldI h10 b11 (o12+1) .i64 fun t13 =>
 Zb r fun b14 o15 =>
 ldS h10 b14 o15 fun t16 =>
 ZF (decide (t13≥(t16.size:Int))) fun t17 =>
 Zp t17 (
 f29 r 24 (fun h18 =>
 sts h18 b 0 [.int .u8 0,.string (ByteArray.mk #[]),.slice none 0 0,.slice none 0 0] fun h19 =>
 ldI h19 b 0 .u8 fun t20=>ldS h19 b (0+1) fun t21=>ldL h19 b (0+2) fun t22=>ldL h19 b (0+3) fun t23=>K (t20,t21,t22,t23,()) h19) h10) (
 ZF (c ==34) fun t24 =>
 Zp t24 (
 f38 r (fun t25 h26 =>
 sts h26 b 0 [.int .u8 5,.string t25,.slice none 0 0,.slice none 0 0] fun h27 =>
 ldI h27 b 0 .u8 fun t28=>ldS h27 b (0+1) fun t29=>ldL h27 b (0+2) fun t30=>ldL h27 b (0+3) fun t31=>K (t28,t29,t30,t31,()) h27) h10) (
 Zaq (σ:=Bool × Unit) (fun s h36 =>
 (fun (s37:Bool) =>
 Zp s37 (
 f40 r (fun t37 h38 =>
 sts h38 b 0 [.int .u8 4,.string t37,.slice none 0 0,.slice none 0 0] fun h39 =>
 ldI h39 b 0 .u8 fun t40=>ldS h39 b (0+1) fun t41=>ldL h39 b (0+2) fun t42=>ldL h39 b (0+3) fun t43=>K (t40,t41,t42,t43,()) h39) h36) (
 ZF (c ==110) fun t44 =>
 Zp t44 (
 f41 r (ByteArray.mk #[110,117,108,108]) (fun h45 =>
 sts h45 b 0 [.int .u8 1,.string (ByteArray.mk #[]),.slice none 0 0,.slice none 0 0] fun h46 =>
 ldI h46 b 0 .u8 fun t47=>ldS h46 b (0+1) fun t48=>ldL h46 b (0+2) fun t49=>ldL h46 b (0+3) fun t50=>K (t47,t48,t49,t50,()) h46) h36) (
 ZF (c ==116) fun t51 =>
 Zp t51 (
 f41 r (ByteArray.mk #[116,114,117,101]) (fun h52 =>
 sts h52 b 0 [.int .u8 3,.string (ByteArray.mk #[]),.slice none 0 0,.slice none 0 0] fun h53 =>
 ldI h53 b 0 .u8 fun t54=>ldS h53 b (0+1) fun t55=>ldL h53 b (0+2) fun t56=>ldL h53 b (0+3) fun t57=>K (t54,t55,t56,t57,()) h53) h36) (
 ZF (c ==102) fun t58 =>
 Zp t58 (
 f41 r (ByteArray.mk #[102,97,108,115,101]) (fun h59 =>
 sts h59 b 0 [.int .u8 2,.string (ByteArray.mk #[]),.slice none 0 0,.slice none 0 0] fun h60 =>
 ldI h60 b 0 .u8 fun t61=>ldS h60 b (0+1) fun t62=>ldL h60 b (0+2) fun t63=>ldL h60 b (0+3) fun t64=>K (t61,t62,t63,t64,()) h60) h36) (
 Zaq (σ:=Bool × Unit) (fun s67 h68 =>
 (fun (s65:Bool) =>
 Zp s65 (
 Zp (depth ==64) (
 f29 r 23 (fun h69 =>
 sts h69 b 0 [.int .u8 0,.string (ByteArray.mk #[]),.slice none 0 0,.slice none 0 0] fun h70 =>
 ldI h70 b 0 .u8 fun t71=>ldS h70 b (0+1) fun t72=>ldL h70 b (0+2) fun t73=>ldL h70 b (0+3) fun t74=>K (t71,t72,t73,t74,()) h70) h68) (
 Zb r fun b75 o76 =>
 ldI h68 b75 (o76+1) .i64 fun t77 =>
 Zb r fun b78 o79 =>
 st h68 b78 (o79+1) (.int .i64 (IntKind.wrap .i64 (t77+1))) fun h80 =>
 Zp (c ==91) (
 f44 r (IntKind.wrap .i64 (depth+1)) (fun t81 h82 =>
 sts h82 b 0 [.int .u8 t81.1,.string t81.2.1,.slice t81.2.2.1.ptr t81.2.2.1.len t81.2.2.1.cap,.slice t81.2.2.2.1.ptr t81.2.2.2.1.len t81.2.2.2.1.cap] fun h83 =>
 ldI h83 b 0 .u8 fun t84=>ldS h83 b (0+1) fun t85=>ldL h83 b (0+2) fun t86=>ldL h83 b (0+3) fun t87=>K (t84,t85,t86,t87,()) h83) h80) (
 f45 r (IntKind.wrap .i64 (depth+1)) (fun t88 h89 =>
 sts h89 b 0 [.int .u8 t88.1,.string t88.2.1,.slice t88.2.2.1.ptr t88.2.2.1.len t88.2.2.1.cap,.slice t88.2.2.2.1.ptr t88.2.2.2.1.len t88.2.2.2.1.cap] fun h90 =>
 ldI h90 b 0 .u8 fun t91=>ldS h90 b (0+1) fun t92=>ldL h90 b (0+2) fun t93=>ldL h90 b (0+3) fun t94=>K (t91,t92,t93,t94,()) h90) h80))) (
 f29 r 20 (fun h95 =>
 sts h95 b 0 [.int .u8 0,.string (ByteArray.mk #[]),.slice none 0 0,.slice none 0 0] fun h96 =>
 ldI h96 b 0 .u8 fun t97=>ldS h96 b (0+1) fun t98=>ldL h96 b (0+2) fun t99=>ldL h96 b (0+3) fun t100=>K (t97,t98,t99,t100,()) h96) h68)) s67.1) (fun J65 =>
 Zp (c ==91) (
 J65 (true,()) h36) (
 ZF (c ==123) fun t66 =>
 J65 (t66,()) h36))))))) s.1) (fun J32 =>
 Zp (c ==45) (
 J32 (true,()) h10) (
 f31 c (fun t33 h34 =>
 ZF t33 fun t35 =>
 J32 (t35,()) h34) h10))))) h2)) h1
def YF (f42:ZgF):ZgF:=Xl Zq Zg Zh ZS ZE Yb Z5 (Yg f42) (Ya f42)
def ZT:Nat→ZgF
 | 0=>fun _ _ _ _=>False
 | n+1=>YF (ZT n)
def Xj:ZgF:=fun r depth K h=>∃ n,ZT n r depth K h
abbrev Zum:=ByteArray→((Int × ByteArray × Sl × Sl × Unit)→Int→Int→HP)→HP
def ZaE (f42:ZgF) (f28:Zkp) (s:ByteArray) (K:(Int × ByteArray × Sl × Sl × Unit)→Int→Int→HP) (h:Ze):Prop :=
 newC h [.int .u8 0,.string (ByteArray.mk #[]),.slice none 0 0,.slice none 0 0] 33 fun b h1 =>
 Zk 0 fun t =>
 Zk 0 fun t2 =>
 Zp (decide ((s.size:Int)>65536)) (
 sts h1 b 0 [.int .u8 0,.string (ByteArray.mk #[]),.slice none 0 0,.slice none 0 0] fun h3 =>
 Zk 5 fun t4 =>
 Zk 65536 fun t5 =>
 ldI h3 b 0 .u8 fun t6=>ldS h3 b (0+1) fun t7=>ldL h3 b (0+2) fun t8=>ldL h3 b (0+3) fun t9=>K (t6,t7,t8,t9,()) t4 t5 h3) (
 newC h1 [.string s,.int .i64 0,.int .i64 0] 167 fun b10 h11 =>
 f42 (some ⟨b10,0,none⟩) 0 (fun t12 h13 =>
 newC h13 [.int .u8 0,.string (ByteArray.mk #[]),.slice none 0 0,.slice none 0 0] 33 fun b14 h15 =>
 sts h15 b14 0 [.int .u8 t12.1,.string t12.2.1,.slice t12.2.2.1.ptr t12.2.2.1.len t12.2.2.1.cap,.slice t12.2.2.2.1.ptr t12.2.2.2.1.len t12.2.2.2.1.cap] fun h16 =>
 f28 (some ⟨b10,0,none⟩) (fun h17 =>
 Zaq (σ:=Unit) (fun s23 h24 =>
 ldI h24 b10 (0+2) .i64 fun t25 =>
 Zp (t25 !=0) (
 ldI h24 b10 (0+2) .i64 fun t26 =>
 ldI h24 b10 (0+1) .i64 fun t27 =>
 sts h24 b 0 [.int .u8 0,.string (ByteArray.mk #[]),.slice none 0 0,.slice none 0 0] fun h28 =>
 Zby (ZbZ h28 [(b10,0+1,.int .i64 t27)]) <|
 Zby (ZbZ h28 [(b10,0+2,.int .i64 t26)]) <|
 Zk t26 fun t29 =>
 Zk t27 fun t30 =>
 ldI h28 b 0 .u8 fun t31=>ldS h28 b (0+1) fun t32=>ldL h28 b (0+2) fun t33=>ldL h28 b (0+3) fun t34=>K (t31,t32,t33,t34,()) t29 t30 h28) (
 ldI h24 b14 0 .u8 fun t35=>ldS h24 b14 (0+1) fun t36=>ldL h24 b14 (0+2) fun t37=>ldL h24 b14 (0+3) fun t38 =>
 sts h24 b 0 [.int .u8 t35,.string t36,.slice t37.ptr t37.len t37.cap,.slice t38.ptr t38.len t38.cap] fun h39 =>
 Zk 0 fun t40 =>
 Zk 0 fun t41 =>
 ldI h39 b 0 .u8 fun t42=>ldS h39 b (0+1) fun t43=>ldL h39 b (0+2) fun t44=>ldL h39 b (0+3) fun t45=>K (t42,t43,t44,t45,()) t40 t41 h39)) (fun J18 =>
 ldI h17 b10 (0+2) .i64 fun t19 =>
 Zp (t19 ==0) (
 ldI h17 b10 (0+1) .i64 fun t20 =>
 ldS h17 b10 0 fun t21 =>
 Zp (decide (t20<(t21.size:Int))) (
 st h17 b10 (0+2) (.int .i64 25) fun h22 =>
 J18 (()) h22) (
 J18 (()) h17)) (
 J18 (()) h17))) h16) h11)
def YZ:Zum:=ZaE Xj Zq
abbrev ZsK:=ByteArray→((Int × ByteArray × Sl × Sl × Unit)→Int→Int→HP)→HP
abbrev Zul:=ByteArray→(Bool→HP)→HP
def ZcN (f26:ZsK) (s:ByteArray) (K:Bool→HP) (h:Ze):Prop :=
 f26 s (fun t t1 t2 h3 =>
 newC h3 [.int .u8 0,.string (ByteArray.mk #[]),.slice none 0 0,.slice none 0 0] 33 fun b h4 =>
 sts h4 b 0 [.int .u8 t.1,.string t.2.1,.slice t.2.2.1.ptr t.2.2.1.len t.2.2.1.cap,.slice t.2.2.2.1.ptr t.2.2.2.1.len t.2.2.2.1.cap] fun h5 =>
 Zk t1 fun e =>
 Zk t2 fun x =>
 Zp (e ==0) (
 ldI h5 b 0 .u8 fun t6 =>
 Zp (t6 ==4) (
 ldS h5 b (0+1) fun t7 =>
 ZF (Za2 t7 s) fun t8 =>
 K t8 h5) (
 K false h5)) (
 K false h5)) h
def Zat:Zul:=ZcN Xn
abbrev Zuk:=ByteArray→(Bool→HP)→HP
def Zc7 (f15:Zor) (s:ByteArray) (K:Bool→HP) (h:Ze):Prop :=
 f15 s (fun t h1 =>
 ZF (!t) fun t2 =>
 K t2 h1) h
def Zcf:Zuk:=Zc7 ZJ
abbrev Zuj:=Sl→(Int→HP)→HP
def ZZ (f48:Zuk) (s:Sl) (K:Int→HP) (h:Ze):Prop :=
 Zk 0 fun t =>
 Zan (σ:=Int × Unit) (fun J1 s2 h3 =>
 (fun (s8:Int) =>
 Zp (decide (s8<(s.len:Int))) (
 Zk s8 fun i =>
 ZjY s.ptr s.len i 1 fun b o =>
 ldS h3 b o fun t4 =>
 f48 t4 (fun t5 h6 =>
 Zp t5 (
 Zk i fun t7 =>
 K t7 h6) (
 J1 (IntKind.wrap .i64 (s8+1),()) h6)) h3) (
 Zk (-1) fun t8 =>
 K t8 h3)) s2.1) (0,()) h
def ZP:Zuj:=ZZ Zcf
abbrev Zui:=Sl→(Bool→HP)→HP
def ZU (f49:Zuj) (s:Sl) (K:Bool→HP) (h:Ze):Prop :=
 f49 s (fun t h1 =>
 ZF (decide (t≥0)) fun t2 =>
 K t2 h1) h
def ZC:Zui:=ZU ZP
abbrev Zuh:=(Int × ByteArray × Sl × Sl × Unit)→(Bool→HP)→HP
def Zej (f47:Zul) (f15:Zor) (f50:Zui) (v:Int × ByteArray × Sl × Sl × Unit) (K:Bool→HP) (h:Ze):Prop :=
 newC h [.int .u8 v.1,.string v.2.1,.slice v.2.2.1.ptr v.2.2.1.len v.2.2.1.cap,.slice v.2.2.2.1.ptr v.2.2.2.1.len v.2.2.2.1.cap] 33 fun b h1 =>
 ldS h1 b (0+1) fun t =>
 ldL h1 b (0+2) fun t2 =>
 ldL h1 b (0+3) fun t3 =>
 ZF (!(Za2 t (ByteArray.mk #[]))) fun text =>
 ZF (decide ((t2.len:Int)>0)) fun list =>
 ZF (decide ((t3.len:Int)>0)) fun names =>
 ldI h1 b 0 .u8 fun t4 =>
 Zaq (σ:=Bool × Unit) (fun s h9 =>
 (fun (s19:Bool) =>
 Zp s19 (
 Zp (!text) (
 Zp (!list) (
 ZF (!names) fun t10 =>
 K t10 h9) (
 K false h9)) (
 K false h9)) (
 ZF (t4 ==4) fun t11 =>
 Zp t11 (
 ldS h9 b (0+1) fun t12 =>
 f47 t12 (fun t13 h14 =>
 Zp t13 (
 Zp (!list) (
 ZF (!names) fun t15 =>
 K t15 h14) (
 K false h14)) (
 K false h14)) h9) (
 ZF (t4 ==5) fun t16 =>
 Zp t16 (
 ldS h9 b (0+1) fun t17 =>
 f15 t17 (fun t18 h19 =>
 Zp t18 (
 Zp (!list) (
 ZF (!names) fun t20 =>
 K t20 h19) (
 K false h19)) (
 K false h19)) h9) (
 ZF (t4 ==6) fun t21 =>
 Zp t21 (
 Zp (!text) (
 ZF (!names) fun t22 =>
 K t22 h9) (
 K false h9)) (
 ZF (t4 ==7) fun t23 =>
 Zp t23 (
 Zp (!text) (
 ldL h9 b (0+3) fun t24 =>
 ldL h9 b (0+2) fun t25 =>
 Zp ((t24.len:Int) ==(t25.len:Int)) (
 ldL h9 b (0+3) fun t26 =>
 f50 t26 (fun t27 h28 =>
 ZF (!t27) fun t29 =>
 K t29 h28) h9) (
 K false h9)) (
 K false h9)) (
 K false h9)))))) s.1) (fun J5 =>
 ZF (t4 ==1) fun t6 =>
 Zp t6 (
 J5 (t6,()) h1) (
 ZF (t4 ==2) fun t7 =>
 Zp t7 (
 J5 (t7,()) h1) (
 ZF (t4 ==3) fun t8 =>
 J5 (t8,()) h1)))
def Zcl:Zuh:=Zej Zat ZJ ZC
abbrev Zug:=(Int × ByteArray × Sl × Sl × Unit)→(Bool→HP)→HP
def Zc8 (a0:Int × ByteArray × Sl × Sl × Unit) (K:Bool→HP) (h:Ze):Prop :=
 newC h [.int .u8 a0.1,.string a0.2.1,.slice a0.2.2.1.ptr a0.2.2.1.len a0.2.2.1.cap,.slice a0.2.2.2.1.ptr a0.2.2.2.1.len a0.2.2.2.1.cap] 33 fun b h1 =>
 K true h1
def Zcg:Zug:=Zc8
abbrev ZgS:=(Option Addr)→(Int × ByteArray × Sl × Sl × Unit)→Int→Value→(Bool→HP)→HP
abbrev Zuf:=(Int × ByteArray × Sl × Sl × Unit)→(Option Addr)→(Option Addr)→(Option Addr)→(Bool→HP)→HP
def Zbm (f53:ZgS) (p:Int × ByteArray × Sl × Sl × Unit) (a1:Option Addr) (a2:Option Addr) (a3:Option Addr) (K:Bool→HP) (h:Ze):Prop :=
 newC h [.int .u8 p.1,.string p.2.1,.slice p.2.2.1.ptr p.2.2.1.len p.2.2.1.cap,.slice p.2.2.2.1.ptr p.2.2.2.1.len p.2.2.2.1.cap] 33 fun b h1 =>
 Zb a1 fun b2 o=>ldP h1 b2 o fun t =>
 ldI h1 b 0 .u8 fun t3=>ldS h1 b (0+1) fun t4=>ldL h1 b (0+2) fun t5=>ldL h1 b (0+3) fun t6 =>
 Zb a2 fun b7 o8=>ldI h1 b7 o8 .i64 fun t9 =>
 Zb a3 fun b10 o11=>ldV h1 b10 o11 fun t12 =>
 f53 t (t3,t4,t5,t6,()) (IntKind.wrap .i64 (t9+1)) t12 (fun t13 h14 =>
 ZF (!t13) fun t15 =>
 K t15 h14) h1
def Zac (f53:ZgS):Zuf:=Zbm f53
abbrev Zue:=Sl→(Option Addr × Option Addr × Option Addr × Unit)→(Int→HP)→HP
def ZQ (f54:Zuf) (s:Sl) (f:Option Addr × Option Addr × Option Addr × Unit) (K:Int→HP) (h:Ze):Prop :=
 Zk 0 fun t =>
 Zan (σ:=Int × Unit) (fun J1 s2 h3 =>
 (fun (s8:Int) =>
 Zp (decide (s8<(s.len:Int))) (
 Zk s8 fun i =>
 ZjY s.ptr s.len i 4 fun b o =>
 ldI h3 b o .u8 fun t4=>ldS h3 b (o+1) fun t5=>ldL h3 b (o+2) fun t6=>ldL h3 b (o+3) fun t7 =>
 f54 (t4,t5,t6,t7,()) f.1 f.2.1 f.2.2.1 (fun t8 h9 =>
 Zp t8 (
 Zk i fun t10 =>
 K t10 h9) (
 J1 (IntKind.wrap .i64 (s8+1),()) h9)) h3) (
 Zk (-1) fun t11 =>
 K t11 h3)) s2.1) (0,()) h
def ZD (f53:ZgS):Zue:=ZQ (Zac f53)
abbrev Zud:=Sl→(Option Addr × Option Addr × Option Addr × Unit)→(Bool→HP)→HP
def ZN (f55:Zue) (s:Sl) (f:Option Addr × Option Addr × Option Addr × Unit) (K:Bool→HP) (h:Ze):Prop :=
 f55 s (f.1,f.2.1,f.2.2.1,()) (fun t h1 =>
 ZF (decide (t≥0)) fun t2 =>
 K t2 h1) h
def Zw (f53:ZgS):Zud:=ZN (ZD f53)
def Zb8 (f51:Zuh) (f52:Zug) (f56:Zud) (c:Option Addr) (v:Int × ByteArray × Sl × Sl × Unit) (deep:Int) (right:Value) (K:Bool→HP) (h:Ze):Prop :=
 newC h [.pointer c] 155 fun b h1 =>
 newC h1 [.int .u8 v.1,.string v.2.1,.slice v.2.2.1.ptr v.2.2.1.len v.2.2.1.cap,.slice v.2.2.2.1.ptr v.2.2.2.1.len v.2.2.2.1.cap] 33 fun b2 h3 =>
 newC h3 [.int .i64 deep] 3 fun b4 h5 =>
 Zby (Z7 right=true) <| newC h5 [right] 45 fun b6 h7 =>
 ldP h7 b 0 fun t =>
 Zb t fun b8 o =>
 ldI h7 b8 o .i64 fun t9 =>
 Zb t fun b10 o11 =>
 st h7 b10 o11 (.int .i64 (IntKind.wrap .i64 (t9+1))) fun h12 =>
 ldP h12 b 0 fun t13 =>
 Zb t13 fun b14 o15 =>
 ldI h12 b14 o15 .i64 fun t16 =>
 Zp (decide (t16>65536)) (
 K false h12) (
 ldV h12 b6 0 fun t17 =>
 ldI h12 b2 0 .u8 fun t18=>ldS h12 b2 (0+1) fun t19=>ldL h12 b2 (0+2) fun t20=>ldL h12 b2 (0+3) fun t21 =>
 (Zw3 t17 94 <| f51 (t18,t19,t20,t21,()) (fun t24 h22 =>
 Zp (!t24) (
 K false h22) (
 Zaq (σ:=Unit) (fun s h29 =>
 ldP h29 b 0 fun t30 =>
 ldP h29 b 0 fun t31 =>
 Zb t31 fun b32 o33 =>
 ldI h29 b32 (o33+1) .i64 fun t34 =>
 ldI h29 b4 0 .i64 fun t35 =>
 Zb t30 fun b36 o37 =>
 st h29 b36 (o37+1) (.int .i64 (Zsn t34 (IntKind.wrap .i64 (t35+1)))) fun h38 =>
 ldI h38 b4 0 .i64 fun t39 =>
 Zp (decide (t39≥64)) (
 K true h38) (
 ldL h38 b2 (0+2) fun t40 =>
 f56 t40 (some ⟨b,0,none⟩,some ⟨b4,0,none⟩,some ⟨b6,0,none⟩,()) (fun t41 h42 =>
 ZF (!t41) fun t43 =>
 K t43 h42) h38)) (fun J26 =>
 ldI h22 b2 0 .u8 fun t27 =>
 Zp (t27 !=6) (
 ldI h22 b2 0 .u8 fun t28 =>
 Zp (t28 !=7) (
 K true h22) (
 J26 (()) h22)) (
 J26 (()) h22)))) h12)∨(
 (Zw3 t17 119 <| f52 (t18,t19,t20,t21,()) (fun t24 h22 =>
 Zp (!t24) (
 K false h22) (
 Zaq (σ:=Unit) (fun s h29 =>
 ldP h29 b 0 fun t30 =>
 ldP h29 b 0 fun t31 =>
 Zb t31 fun b32 o33 =>
 ldI h29 b32 (o33+1) .i64 fun t34 =>
 ldI h29 b4 0 .i64 fun t35 =>
 Zb t30 fun b36 o37 =>
 st h29 b36 (o37+1) (.int .i64 (Zsn t34 (IntKind.wrap .i64 (t35+1)))) fun h38 =>
 ldI h38 b4 0 .i64 fun t39 =>
 Zp (decide (t39≥64)) (
 K true h38) (
 ldL h38 b2 (0+2) fun t40 =>
 f56 t40 (some ⟨b,0,none⟩,some ⟨b4,0,none⟩,some ⟨b6,0,none⟩,()) (fun t41 h42 =>
 ZF (!t41) fun t43 =>
 K t43 h42) h38)) (fun J26 =>
 ldI h22 b2 0 .u8 fun t27 =>
 Zp (t27 !=6) (
 ldI h22 b2 0 .u8 fun t28 =>
 Zp (t28 !=7) (
 K true h22) (
 J26 (()) h22)) (
 J26 (()) h22)))) h12)∨(
 False)))
def ZaN (f53:ZgS):ZgS:=Zb8 Zcl Zcg (Zw f53)
def YU:Nat→ZgS
 | 0=>fun _ _ _ _ _ _=>False
 | n+1=>ZaN (YU n)
def X5:ZgS:=fun c v deep right K h=>∃ n,YU n c v deep right K h
abbrev Zoz:=(Int × ByteArray × Sl × Sl × Unit)→(Bool→HP)→HP
def Zem (f53:ZgS) (v:Int × ByteArray × Sl × Sl × Unit) (K:Bool→HP) (h:Ze):Prop :=
 newC h [.int .u8 v.1,.string v.2.1,.slice v.2.2.1.ptr v.2.2.1.len v.2.2.1.cap,.slice v.2.2.2.1.ptr v.2.2.2.1.len v.2.2.2.1.cap] 33 fun b h1 =>
 newC h1 [.int .i64 0,.int .i64 0] 157 fun b2 h3 =>
 ldI h3 b 0 .u8 fun t=>ldS h3 b (0+1) fun t4=>ldL h3 b (0+2) fun t5=>ldL h3 b (0+3) fun t6 =>
 f53 (some ⟨b2,0,none⟩) (t,t4,t5,t6,()) 0 (.func (.func 94) #[] #[]) (fun t7 h8 =>
 Zp t7 (
 ldI h8 b2 (0+1) .i64 fun t9 =>
 ZF (decide (t9≤64)) fun t10 =>
 K t10 h8) (
 K false h8)) h3
def XO:Zoz:=Zem X5
abbrev Zr4:=(Option Addr)→(Int→HP)→HP
def Zax (b:Option Addr) (K:Int→HP) (h:Ze):Prop :=
 Zk 0 fun t =>
 Zb b fun b1 o =>
 ldL h b1 (o+1) fun t2 =>
 Zk (t2.len:Int) fun t3 =>
 K t3 h
def Ys:Zr4:=Zax
abbrev Zuc:=(Option Addr)→ByteArray→(HP)→HP
def ZbP (f6:zT6) (f0:zT0) (f17:ZoA) (w:Option Addr) (s:ByteArray) (K:HP) (h:Ze):Prop :=
 Zb w fun b o =>
 f6 (some ⟨b,o,none⟩) 34 (fun t h1 =>
 Zan (σ:=Int × Unit) (fun J2 s3 h4 =>
 (fun (s13:Int) =>
 Zp (decide (s13<(s.size:Int))) (
 Zk s13 fun i =>
 ZeH s i fun t5 =>
 Zk t5 fun c =>
 f0 (ByteArray.mk #[8,12,10,13,9]) c (fun t6 h7 =>
 Zk t6 fun k =>
 Zaq (σ:=Bool × Unit) (fun s10 h11 =>
 (fun (s26:Bool) =>
 Zp s26 (
 Zb w fun b12 o13 =>
 f6 (some ⟨b12,o13,none⟩) 92 (fun t14 h15 =>
 Zb w fun b16 o17 =>
 f6 (some ⟨b16,o17,none⟩) c (fun t18 h19 =>
 J2 (IntKind.wrap .i64 (s13+1),()) h19) h15) h11) (
 ZF (decide (k≥0)) fun t20 =>
 Zp t20 (
 Zb w fun b21 o22 =>
 f6 (some ⟨b21,o22,none⟩) 92 (fun t23 h24 =>
 Zb w fun b25 o26 =>
 ZeH (ByteArray.mk #[98,102,110,114,116]) k fun t27 =>
 f6 (some ⟨b25,o26,none⟩) t27 (fun t28 h29 =>
 J2 (IntKind.wrap .i64 (s13+1),()) h29) h24) h11) (
 ZF (decide (c<32)) fun t30 =>
 Zp t30 (
 Zb w fun b31 o32 =>
 f17 (some ⟨b31,o32,none⟩) (ByteArray.mk #[92,117,48,48]) (fun t33 t34 h35 =>
 Zb w fun b36 o37 =>
 Zby (0≤(4:Int)) <|
 ZeH (ByteArray.mk #[48,49,50,51,52,53,54,55,56,57,97,98,99,100,101,102]) (Zh5 .u8 c 4) fun t38 =>
 f6 (some ⟨b36,o37,none⟩) t38 (fun t39 h40 =>
 Zb w fun b41 o42 =>
 ZeH (ByteArray.mk #[48,49,50,51,52,53,54,55,56,57,97,98,99,100,101,102]) (Zh1 .u8 c 15) fun t43 =>
 f6 (some ⟨b41,o42,none⟩) t43 (fun t44 h45 =>
 J2 (IntKind.wrap .i64 (s13+1),()) h45) h40) h35) h11) (
 Zb w fun b46 o47 =>
 f6 (some ⟨b46,o47,none⟩) c (fun t48 h49 =>
 J2 (IntKind.wrap .i64 (s13+1),()) h49) h11)))) s10.1) (fun J8 =>
 Zp (c ==34) (
 J8 (true,()) h7) (
 ZF (c ==92) fun t9 =>
 J8 (t9,()) h7))) h4) (
 Zb w fun b50 o51 =>
 f6 (some ⟨b50,o51,none⟩) 34 (fun t52 h53 =>
 K h53) h4)) s3.1) (0,()) h1) h
def XM:Zuc:=ZbP Zz Yq Zx
abbrev Zmr:=(Option Addr)→(Int × ByteArray × Sl × Sl × Unit)→(HP)→HP
def Zbj (f58:Zr4) (f17:ZoA) (f59:Zuc) (f6:zT6) (f60:Zmr) (w:Option Addr) (v:Int × ByteArray × Sl × Sl × Unit) (K:HP) (h:Ze):Prop :=
 newC h [.int .u8 v.1,.string v.2.1,.slice v.2.2.1.ptr v.2.2.1.len v.2.2.1.cap,.slice v.2.2.2.1.ptr v.2.2.2.1.len v.2.2.2.1.cap] 33 fun b h1 =>
 Zb w fun b2 o =>
 f58 (some ⟨b2,o,none⟩) (fun t h3 =>
 Zp (decide (t>65536)) (
 K h3) (
 ldI h3 b 0 .u8 fun t4 =>
 ZF (t4 ==1) fun t5 =>
 Zp t5 (
 Zb w fun b6 o7 =>
 f17 (some ⟨b6,o7,none⟩) (ByteArray.mk #[110,117,108,108]) (fun t8 t9 h10 =>
 K h10) h3) (
 ZF (t4 ==2) fun t11 =>
 Zp t11 (
 Zb w fun b12 o13 =>
 f17 (some ⟨b12,o13,none⟩) (ByteArray.mk #[102,97,108,115,101]) (fun t14 t15 h16 =>
 K h16) h3) (
 ZF (t4 ==3) fun t17 =>
 Zp t17 (
 Zb w fun b18 o19 =>
 f17 (some ⟨b18,o19,none⟩) (ByteArray.mk #[116,114,117,101]) (fun t20 t21 h22 =>
 K h22) h3) (
 ZF (t4 ==4) fun t23 =>
 Zp t23 (
 Zb w fun b24 o25 =>
 ldS h3 b (0+1) fun t26 =>
 f17 (some ⟨b24,o25,none⟩) t26 (fun t27 t28 h29 =>
 K h29) h3) (
 ZF (t4 ==5) fun t30 =>
 Zp t30 (
 ldS h3 b (0+1) fun t31 =>
 f59 w t31 (fun h32 =>
 K h32) h3) (
 Zaq (σ:=ByteArray × Unit) (fun s h35 =>
 (fun (ends:ByteArray) =>
 Zb w fun b36 o37 =>
 ZeH ends 0 fun t38 =>
 f6 (some ⟨b36,o37,none⟩) t38 (fun t39 h40 =>
 ldL h40 b (0+2) fun t41 =>
 Zan (σ:=Int × Unit) (fun J42 s43 h44 =>
 (fun (s26:Int) =>
 Zp (decide (s26<(t41.len:Int))) (
 ZjY t41.ptr t41.len s26 4 fun b45 o46 =>
 ldI h44 b45 o46 .u8 fun t47=>ldS h44 b45 (o46+1) fun t48=>ldL h44 b45 (o46+2) fun t49=>ldL h44 b45 (o46+3) fun t50 =>
 newC h44 [.int .u8 0,.string (ByteArray.mk #[]),.slice none 0 0,.slice none 0 0] 33 fun b51 h52 =>
 Zk s26 fun i =>
 sts h52 b51 0 [.int .u8 t47,.string t48,.slice t49.ptr t49.len t49.cap,.slice t50.ptr t50.len t50.cap] fun h53 =>
 Zaq (σ:=Unit) (fun s59 h60 =>
 Zaq (σ:=Unit) (fun s72 h73 =>
 ldI h73 b51 0 .u8 fun t74=>ldS h73 b51 (0+1) fun t75=>ldL h73 b51 (0+2) fun t76=>ldL h73 b51 (0+3) fun t77 =>
 f60 w (t74,t75,t76,t77,()) (fun h78 =>
 J42 (IntKind.wrap .i64 (s26+1),()) h78) h73) (fun J61 =>
 ldI h60 b 0 .u8 fun t62 =>
 Zp (t62 ==7) (
 ldL h60 b (0+3) fun t63 =>
 ZjY t63.ptr t63.len i 1 fun b64 o65 =>
 ldS h60 b64 o65 fun t66 =>
 f59 w t66 (fun h67 =>
 Zb w fun b68 o69 =>
 f6 (some ⟨b68,o69,none⟩) 58 (fun t70 h71 =>
 J61 (()) h71) h67) h60) (
 J61 (()) h60))) (fun J54 =>
 Zp (decide (i>0)) (
 Zb w fun b55 o56 =>
 f6 (some ⟨b55,o56,none⟩) 44 (fun t57 h58 =>
 J54 (()) h58) h53) (
 J54 (()) h53))) (
 Zb w fun b79 o80 =>
 ZeH ends 1 fun t81 =>
 f6 (some ⟨b79,o80,none⟩) t81 (fun t82 h83 =>
 K h83) h44)) s43.1) (0,()) h40) h35) s.1) (fun J33 =>
 ldI h3 b 0 .u8 fun t34 =>
 Zp (t34 ==7) (
 J33 (ByteArray.mk #[123,125],()) h3) (
 J33 (ByteArray.mk #[91,93],()) h3))))))))) h1
def Zaa (f60:Zmr):Zmr:=Zbj Ys Zx XM Zz f60
def YD:Nat→Zmr
 | 0=>fun _ _ _ _=>False
 | n+1=>Zaa (YD n)
def Zbf:Zmr:=fun w v K h=>∃ n,YD n w v K h
abbrev Zub:=(Int × ByteArray × Sl × Sl × Unit)→(ByteArray→Int→HP)→HP
def Zen (f57:Zoz) (f60:Zmr) (f58:Zr4) (f4:zT4) (v:Int × ByteArray × Sl × Sl × Unit) (K:ByteArray→Int→HP) (h:Ze):Prop :=
 newC h [.int .u8 v.1,.string v.2.1,.slice v.2.2.1.ptr v.2.2.1.len v.2.2.1.cap,.slice v.2.2.2.1.ptr v.2.2.2.1.len v.2.2.2.1.cap] 33 fun b h1 =>
 Zk 0 fun t =>
 ldI h1 b 0 .u8 fun t2=>ldS h1 b (0+1) fun t3=>ldL h1 b (0+2) fun t4=>ldL h1 b (0+3) fun t5 =>
 f57 (t2,t3,t4,t5,()) (fun t6 h7 =>
 Zp (!t6) (
 Zk 6 fun t8 =>
 K (ByteArray.mk #[]) t8 h7) (
 newC h7 [.pointer none,.slice none 0 0] 190 fun b9 h10 =>
 ldI h10 b 0 .u8 fun t11=>ldS h10 b (0+1) fun t12=>ldL h10 b (0+2) fun t13=>ldL h10 b (0+3) fun t14 =>
 f60 (some ⟨b9,0,none⟩) (t11,t12,t13,t14,()) (fun h15 =>
 f58 (some ⟨b9,0,none⟩) (fun t16 h17 =>
 Zp (decide (t16>65536)) (
 Zk 5 fun t18 =>
 K (ByteArray.mk #[]) t18 h17) (
 f4 (some ⟨b9,0,none⟩) (fun t19 h20 =>
 Zk 0 fun t21 =>
 K t19 t21 h20) h17)) h15) h10)) h1
def Zcn:Zub:=Zen XO Zbf Ys Yl
abbrev ZtJ:=Int→(ByteArray→HP)→HP
abbrev Zr3:=Int→((Int × ByteArray × Sl × Sl × Unit)→HP)→HP
def Zeo (f62:ZtJ) (n:Int) (K:(Int × ByteArray × Sl × Sl × Unit)→HP) (h:Ze):Prop :=
 newC h [.int .u8 0,.string (ByteArray.mk #[]),.slice none 0 0,.slice none 0 0] 33 fun b h1 =>
 f62 n (fun t h2 =>
 sts h2 b 0 [.int .u8 4,.string t,.slice none 0 0,.slice none 0 0] fun h3 =>
 ldI h3 b 0 .u8 fun t4=>ldS h3 b (0+1) fun t5=>ldL h3 b (0+2) fun t6=>ldL h3 b (0+3) fun t7=>K (t4,t5,t6,t7,()) h3) h1
def Zaw:Zr3:=Zeo Za6
abbrev Zua:=ByteArray→ByteArray→(ByteArray→Bool→HP)→HP
def YR (f8:zT8) (s:ByteArray) (prefix_:ByteArray) (K:ByteArray→Bool→HP) (h:Ze):Prop :=
 f8 s prefix_ (fun t h1 =>
 Zp (!t) (
 K s false h1) (
 ZfW s (prefix_.size:Int) s.size fun t2 =>
 K t2 true h1)) h
def Yn:Zua:=YR ZA
abbrev Zt9:=ByteArray→ByteArray→(ByteArray→Bool→HP)→HP
def Zbh (f64:Zua) (s:ByteArray) (prefix_:ByteArray) (K:ByteArray→Bool→HP) (h:Ze):Prop :=
 f64 s prefix_ (fun t t1 h2 =>
 ZF t1 fun found =>
 K t found h2) h
def Xr:Zt9:=Zbh Yn
abbrev Zt8:=ByteArray→ByteArray→(ByteArray→HP)→HP
def YL (f8:zT8) (s:ByteArray) (prefix_:ByteArray) (K:ByteArray→HP) (h:Ze):Prop :=
 f8 s prefix_ (fun t h1 =>
 Zp t (
 ZfW s (prefix_.size:Int) s.size fun t2 =>
 K t2 h1) (
 K s h1)) h
def Yi:Zt8:=YL ZA
abbrev Zt7:=ByteArray→ByteArray→(ByteArray→HP)→HP
def ZaU (f70:Zt8) (s:ByteArray) (prefix_:ByteArray) (K:ByteArray→HP) (h:Ze):Prop :=
 f70 s prefix_ (fun t h1 =>
 K t h1) h
def Xc:Zt7:=ZaU Yi
abbrev ZtI:=ByteArray→(Int→Value→HP)→HP
abbrev Zt6:=ByteArray→(Int→Bool→HP)→HP
def ZcO (f71:Zt7) (f72:ZtI) (s:ByteArray) (K:Int→Bool→HP) (h:Ze):Prop :=
 Zk 0 fun t =>
 Zp (Za2 s (ByteArray.mk #[])) (
 Zk 0 fun t1 =>
 K t1 true h) (
 f71 s (ByteArray.mk #[43]) (fun t2 h3 =>
 f72 t2 (fun t4 t5 h6 =>
 Zk t4 fun n =>
 Zgq t5 fun b =>
 Zp b (
 Zp (decide (n≥(-1048576))) (
 Zk n fun t7 =>
 ZF (decide (n≤1048576)) fun t8 =>
 K t7 t8 h6) (
 Zk n fun t9 =>
 K t9 false h6)) (
 Zk n fun t10 =>
 K t10 false h6)) h3) h)
def Zau:Zt6:=ZcO Xc XU
abbrev ZwK:=ByteArray→(ByteArray→HP)→HP
abbrev ZwJ:=ByteArray→ByteArray→(ByteArray→ByteArray→Bool→HP)→HP
abbrev ZwI:=ByteArray→ByteArray→(ByteArray→HP)→HP
abbrev ZwH:=ByteArray→ByteArray→(ByteArray→HP)→HP
abbrev ZwG:=ByteArray→Int→(ByteArray→HP)→HP
abbrev Zr2:=(Int × ByteArray × Sl × Sl × Unit)→(Int→Bool→HP)→HP
def Zel (f57:Zoz) (f65:Zt9) (f66:ZwK) (f67:ZwJ) (f68:ZwI) (f69:ZwH) (f73:Zt6) (f74:ZwG) (f72:ZtI) (v:Int × ByteArray × Sl × Sl × Unit) (K:Int→Bool→HP) (h:Ze):Prop :=
 newC h [.int .u8 v.1,.string v.2.1,.slice v.2.2.1.ptr v.2.2.1.len v.2.2.1.cap,.slice v.2.2.2.1.ptr v.2.2.2.1.len v.2.2.2.1.cap] 33 fun b h1 =>
 Zk 0 fun t =>
 ldI h1 b 0 .u8 fun t2 =>
 Zp (t2 !=4) (
 Zk 0 fun t3 =>
 K t3 false h1) (
 ldI h1 b 0 .u8 fun t4=>ldS h1 b (0+1) fun t5=>ldL h1 b (0+2) fun t6=>ldL h1 b (0+3) fun t7 =>
 f57 (t4,t5,t6,t7,()) (fun t8 h9 =>
 Zp (!t8) (
 Zk 0 fun t10 =>
 K t10 false h9) (
 ldS h9 b (0+1) fun t11 =>
 f65 t11 (ByteArray.mk #[45]) (fun t12 t13 h14 =>
 ZF t13 fun below =>
 f66 t12 (fun t15 h16 =>
 f67 t15 (ByteArray.mk #[101]) (fun t17 t18 t19 h20 =>
 ZF t19 fun x =>
 f67 t17 (ByteArray.mk #[46]) (fun t21 t22 t23 h24 =>
 ZF t23 fun x25 =>
 Zkg t21 t22 fun s =>
 f68 s (ByteArray.mk #[48]) (fun t26 h27 =>
 f69 t26 (ByteArray.mk #[48]) (fun t28 h29 =>
 f69 t26 (ByteArray.mk #[48]) (fun t30 h31 =>
 Zk (IntKind.wrap .i64 ((t26.size:Int) - (t30.size:Int))) fun zeros =>
 Zp (Za2 t28 (ByteArray.mk #[])) (
 Zk 0 fun t32 =>
 K t32 true h31) (
 f73 t18 (fun t33 t34 h35 =>
 Zk t33 fun by_ =>
 ZF t34 fun ok =>
 Zp (!ok) (
 Zk 0 fun t36 =>
 K t36 false h35) (
 Zk (IntKind.wrap .i64 (by_+(IntKind.wrap .i64 (zeros - (t22.size:Int))))) fun by_37 =>
 Zp (decide (by_37<0)) (
 Zk 0 fun t38 =>
 K t38 false h35) (
 Zp (decide (by_37>20)) (
 Zk 0 fun t39 =>
 K t39 false h35) (
 f74 (ByteArray.mk #[48]) by_37 (fun t40 h41 =>
 Zkg t28 t40 fun s42 =>
 Zaq (σ:=ByteArray × Unit) (fun s45 h46 =>
 (fun (digits:ByteArray) =>
 f72 digits (fun t47 t48 h49 =>
 Zk t47 fun n =>
 Zgq t48 fun b50 =>
 Zp (!b50) (
 Zk 0 fun t51 =>
 K t51 false h49) (
 Zk n fun t52 =>
 K t52 true h49)) h46) s45.1) (fun J43 =>
 Zp below (
 Zkg (ByteArray.mk #[45]) s42 fun s44 =>
 J43 (s44,()) h41) (
 J43 (s42,()) h41))) h35)))) h31)) h29) h27) h24) h20) h16) h14) h9)) h1)
def Zav:Zr2:=Zel XO Xr Zb6 ZbK ZbJ Zad Zau Zcq XU
abbrev Znu:=(Int × ByteArray × Sl × Sl × Unit)→Int→(Int→HP)→HP
def Zdx (f76:Znu) (v:Int × ByteArray × Sl × Sl × Unit) (most:Int) (K:Int→HP) (h:Ze):Prop :=
 newC h [.int .u8 v.1,.string v.2.1,.slice v.2.2.1.ptr v.2.2.1.len v.2.2.1.cap,.slice v.2.2.2.1.ptr v.2.2.2.1.len v.2.2.2.1.cap] 33 fun b h1 =>
 Zk 0 fun t =>
 Zk 1 fun n =>
 ldL h1 b (0+2) fun t2 =>
 Zan (σ:=Int × Int × Unit) (fun J4 s h5 =>
 (fun (n3:Int) (s11:Int) =>
 Zp (decide (s11<(t2.len:Int))) (
 ZjY t2.ptr t2.len s11 4 fun b6 o =>
 ldI h5 b6 o .u8 fun t7=>ldS h5 b6 (o+1) fun t8=>ldL h5 b6 (o+2) fun t9=>ldL h5 b6 (o+3) fun t10 =>
 newC h5 [.int .u8 0,.string (ByteArray.mk #[]),.slice none 0 0,.slice none 0 0] 33 fun b11 h12 =>
 sts h12 b11 0 [.int .u8 t7,.string t8,.slice t9.ptr t9.len t9.cap,.slice t10.ptr t10.len t10.cap] fun h13 =>
 Zp (decide (n3>most)) (
 Zk n3 fun t14 =>
 K t14 h13) (
 ldI h13 b11 0 .u8 fun t15=>ldS h13 b11 (0+1) fun t16=>ldL h13 b11 (0+2) fun t17=>ldL h13 b11 (0+3) fun t18 =>
 f76 (t15,t16,t17,t18,()) (IntKind.wrap .i64 (most - n3)) (fun t19 h20 =>
 Zk (IntKind.wrap .i64 (n3+t19)) fun n21 =>
 J4 (n21,IntKind.wrap .i64 (s11+1),()) h20) h13)) (
 Zk n3 fun t22 =>
 K t22 h5)) s.1 s.2.1) (n,0,()) h1
def Zcu (f76:Znu):Znu:=Zdx f76
def X3:Nat→Znu
 | 0=>fun _ _ _ _=>False
 | n+1=>Zcu (X3 n)
def Zdt:Znu:=fun v most K h=>∃ n,X3 n v most K h
abbrev Zt5:=(Int × ByteArray × Sl × Sl × Unit)→(Bool→HP)→HP
def Zek (f76:Znu) (v:Int × ByteArray × Sl × Sl × Unit) (K:Bool→HP) (h:Ze):Prop :=
 newC h [.int .u8 v.1,.string v.2.1,.slice v.2.2.1.ptr v.2.2.1.len v.2.2.1.cap,.slice v.2.2.2.1.ptr v.2.2.2.1.len v.2.2.2.1.cap] 33 fun b h1 =>
 ldI h1 b 0 .u8 fun t=>ldS h1 b (0+1) fun t2=>ldL h1 b (0+2) fun t3=>ldL h1 b (0+3) fun t4 =>
 f76 (t,t2,t3,t4,()) 65536 (fun t5 h6 =>
 ZF (decide (t5≤65536)) fun t7 =>
 K t7 h6) h1
def Zcm:Zt5:=Zek Zdt
abbrev Zt4:=(Int × ByteArray × Sl × Sl × Unit)→(Int→HP)→HP
def Zep (f77:Zt5) (f53:ZgS) (v:Int × ByteArray × Sl × Sl × Unit) (K:Int→HP) (h:Ze):Prop :=
 newC h [.int .u8 v.1,.string v.2.1,.slice v.2.2.1.ptr v.2.2.1.len v.2.2.1.cap,.slice v.2.2.2.1.ptr v.2.2.2.1.len v.2.2.2.1.cap] 33 fun b h1 =>
 Zk 0 fun t =>
 newC h1 [.int .i64 0,.int .i64 0] 157 fun b2 h3 =>
 ldI h3 b 0 .u8 fun t4=>ldS h3 b (0+1) fun t5=>ldL h3 b (0+2) fun t6=>ldL h3 b (0+3) fun t7 =>
 f77 (t4,t5,t6,t7,()) (fun t8 h9 =>
 Zp (!t8) (
 Zk 0 fun t10 =>
 K t10 h9) (
 ldI h9 b 0 .u8 fun t11=>ldS h9 b (0+1) fun t12=>ldL h9 b (0+2) fun t13=>ldL h9 b (0+3) fun t14 =>
 f53 (some ⟨b2,0,none⟩) (t11,t12,t13,t14,()) 0 (.func (.func 119) #[] #[]) (fun t15 h16 =>
 Zp (!t15) (
 Zk 0 fun t17 =>
 K t17 h16) (
 ldI h16 b2 (0+1) .i64 fun t18 =>
 Zk t18 fun t19 =>
 K t19 h16)) h9)) h3
def Zco:Zt4:=Zep Zcm X5
abbrev Zt3:=(Bool→HP)→HP
def ZaV (f26:ZsK) (f61:Zub) (f63:Zr3) (f75:Zr2) (f78:Zt4) (K:Bool→HP) (h:Ze):Prop :=
 f26 (ByteArray.mk #[91,49,44,32,34,97,92,117,48,48,52,49,34,44,32,123,34,98,34,58,32,110,117,108,108,125,93]) (fun t t1 t2 h3 =>
 newC h3 [.int .u8 0,.string (ByteArray.mk #[]),.slice none 0 0,.slice none 0 0] 33 fun b h4 =>
 sts h4 b 0 [.int .u8 t.1,.string t.2.1,.slice t.2.2.1.ptr t.2.2.1.len t.2.2.1.cap,.slice t.2.2.2.1.ptr t.2.2.2.1.len t.2.2.2.1.cap] fun h5 =>
 Zk t1 fun e =>
 Zk t2 fun x =>
 ldI h5 b 0 .u8 fun t6=>ldS h5 b (0+1) fun t7=>ldL h5 b (0+2) fun t8=>ldL h5 b (0+3) fun t9 =>
 f61 (t6,t7,t8,t9,()) (fun t10 t11 h12 =>
 Zk t11 fun f =>
 f26 (ByteArray.mk #[91,49,44,93]) (fun t13 t14 t15 h16 =>
 newC h16 [.int .u8 0,.string (ByteArray.mk #[]),.slice none 0 0,.slice none 0 0] 33 fun b17 h18 =>
 sts h18 b17 0 [.int .u8 t13.1,.string t13.2.1,.slice t13.2.2.1.ptr t13.2.2.1.len t13.2.2.1.cap,.slice t13.2.2.2.1.ptr t13.2.2.2.1.len t13.2.2.2.1.cap] fun h19 =>
 Zk t14 fun g =>
 Zk t15 fun at_ =>
 f63 (-7) (fun t20 h21 =>
 f75 (t20.1,t20.2.1,⟨t20.2.2.1.ptr,t20.2.2.1.len,t20.2.2.1.cap⟩,⟨t20.2.2.2.1.ptr,t20.2.2.2.1.len,t20.2.2.2.1.cap⟩,()) (fun t22 t23 h24 =>
 Zk t22 fun n =>
 ZF t23 fun ok =>
 Zp (e ==0) (
 Zp (f ==0) (
 Zp (Za2 t10 (ByteArray.mk #[91,49,44,34,97,65,34,44,123,34,98,34,58,110,117,108,108,125,93])) (
 Zp (g ==20) (
 Zp (at_ ==3) (
 Zp ok (
 Zp (n ==(-7)) (
 ldI h24 b 0 .u8 fun t25=>ldS h24 b (0+1) fun t26=>ldL h24 b (0+2) fun t27=>ldL h24 b (0+3) fun t28 =>
 f78 (t25,t26,t27,t28,()) (fun t29 h30 =>
 ZF (t29 ==2) fun t31 =>
 K t31 h30) h24) (
 K false h24)) (
 K false h24)) (
 K false h24)) (
 K false h24)) (
 K false h24)) (
 K false h24)) (
 K false h24)) h21) h19) h12) h5) h
def Xd:Zt3:=ZaV Xn Zcn Zaw Zav Zco
abbrev Znt:=(Int × ByteArray × Sl × Sl × Unit)→Int→(Int→HP)→HP
def ZaB (f85:Znt) (v:Int × ByteArray × Sl × Sl × Unit) (most:Int) (K:Int→HP) (h:Ze):Prop :=
 newC h [.int .u8 v.1,.string v.2.1,.slice v.2.2.1.ptr v.2.2.1.len v.2.2.1.cap,.slice v.2.2.2.1.ptr v.2.2.2.1.len v.2.2.2.1.cap] 33 fun b h1 =>
 Zk 0 fun t =>
 Zk 1 fun n =>
 Zk 0 fun i =>
 Zan (σ:=Int × Int × Unit) (fun J4 s h5 =>
 (fun (n2:Int) (i3:Int) =>
 ldL h5 b (0+2) fun t6 =>
 Zp (decide (i3<(t6.len:Int))) (
 Zp (decide (n2≤most)) (
 ldL h5 b (0+2) fun t7 =>
 ZjY t7.ptr t7.len i3 4 fun b8 o =>
 ldI h5 b8 o .u8 fun t9=>ldS h5 b8 (o+1) fun t10=>ldL h5 b8 (o+2) fun t11=>ldL h5 b8 (o+3) fun t12 =>
 f85 (t9,t10,t11,t12,()) (IntKind.wrap .i64 (most - n2)) (fun t13 h14 =>
 Zk (IntKind.wrap .i64 (n2+t13)) fun n15 =>
 Zk (IntKind.wrap .i64 (i3+1)) fun i16 =>
 J4 (n15,i16,()) h14) h5) (
 Zk n2 fun t17 =>
 K t17 h5)) (
 Zk n2 fun t18 =>
 K t18 h5)) s.1 s.2.1) (n,i,()) h1
def XK (f85:Znt):Znt:=ZaB f85
def Yv:Nat→Znt
 | 0=>fun _ _ _ _=>False
 | n+1=>XK (Yv n)
def Zas:Znt:=fun v most K h=>∃ n,Yv n v most K h
abbrev Zt2:=(Int × ByteArray × Sl × Sl × Unit)→(Bool→HP)→HP
def ZaF (f85:Znt) (v:Int × ByteArray × Sl × Sl × Unit) (K:Bool→HP) (h:Ze):Prop :=
 newC h [.int .u8 v.1,.string v.2.1,.slice v.2.2.1.ptr v.2.2.1.len v.2.2.1.cap,.slice v.2.2.2.1.ptr v.2.2.2.1.len v.2.2.2.1.cap] 33 fun b h1 =>
 ldI h1 b 0 .u8 fun t=>ldS h1 b (0+1) fun t2=>ldL h1 b (0+2) fun t3=>ldL h1 b (0+3) fun t4 =>
 f85 (t,t2,t3,t4,()) 65536 (fun t5 h6 =>
 ZF (decide (t5>65536)) fun t7 =>
 K t7 h6) h1
def Y0:Zt2:=ZaF Zas
abbrev Zt1:=ByteArray→(Bool→HP)→HP
def Zaz (f36:Zr7) (s:ByteArray) (K:Bool→HP) (h:Ze):Prop :=
 Zk 0 fun at_ =>
 Zan (σ:=Int × Unit) (fun J2 s3 h4 =>
 (fun (at_1:Int) =>
 Zp (decide (at_1<(s.size:Int))) (
 ZeH s at_1 fun t =>
 f36 t (fun t5 t6 t7 h8 =>
 Zk t5 fun n =>
 Zk t6 fun lo =>
 Zk t7 fun hi =>
 Zp (n ==0) (
 K false h8) (
 Zp (decide ((IntKind.wrap .i64 (at_1+n))>(s.size:Int))) (
 K false h8) (
 Zk 1 fun i =>
 Zan (σ:=Int × Int × Int × Unit) (fun J12 s13 h14 =>
 (fun (lo9:Int) (hi10:Int) (i11:Int) =>
 Zp (decide (i11<n)) (
 ZeH s (IntKind.wrap .i64 (at_1+i11)) fun t15 =>
 Zp (decide (t15<lo9)) (
 K false h14) (
 ZeH s (IntKind.wrap .i64 (at_1+i11)) fun t16 =>
 Zp (decide (t16>hi10)) (
 K false h14) (
 Zk 128 fun lo17 =>
 Zk 191 fun hi18 =>
 Zk (IntKind.wrap .i64 (i11+1)) fun i19 =>
 J12 (lo17,hi18,i19,()) h14))) (
 Zk (IntKind.wrap .i64 (at_1+n)) fun at_20 =>
 J2 (at_20,()) h14)) s13.1 s13.2.1 s13.2.2.1) (lo,hi,i,()) h8))) h4) (
 K true h4)) s3.1) (at_,()) h
def YW:Zt1:=Zaz Ye
abbrev Zns:=(Int × ByteArray × Sl × Sl × Unit)→Int→(Bool→HP)→HP
def Zay (f46:Zum) (f87:Zt1) (f88:Zns) (v:Int × ByteArray × Sl × Sl × Unit) (depth:Int) (K:Bool→HP) (h:Ze):Prop :=
 newC h [.int .u8 v.1,.string v.2.1,.slice v.2.2.1.ptr v.2.2.1.len v.2.2.1.cap,.slice v.2.2.2.1.ptr v.2.2.2.1.len v.2.2.2.1.cap] 33 fun b h1 =>
 Zaq (σ:=Unit) (fun s h32 =>
 Zaq (σ:=Unit) (fun s61 h62 =>
 Zaq (σ:=Unit) (fun s67 h68 =>
 Zk 0 fun i =>
 Zan (σ:=Int × Unit) (fun J70 s71 h72 =>
 (fun (i69:Int) =>
 ldL h72 b (0+3) fun t73 =>
 Zp (decide (i69<(t73.len:Int))) (
 ldL h72 b (0+3) fun t74 =>
 ZjY t74.ptr t74.len i69 1 fun b75 o =>
 ldS h72 b75 o fun t76 =>
 f87 t76 (fun t77 h78 =>
 Zp (!t77) (
 K false h78) (
 Zk (IntKind.wrap .i64 (i69+1)) fun i79 =>
 J70 (i79,()) h78)) h72) (
 Zk 0 fun i80 =>
 Zan (σ:=Int × Unit) (fun J82 s83 h84 =>
 (fun (i81:Int) =>
 ldL h84 b (0+2) fun t85 =>
 Zp (decide (i81<(t85.len:Int))) (
 ldL h84 b (0+2) fun t86 =>
 ZjY t86.ptr t86.len i81 4 fun b87 o88 =>
 ldI h84 b87 o88 .u8 fun t89=>ldS h84 b87 (o88+1) fun t90=>ldL h84 b87 (o88+2) fun t91=>ldL h84 b87 (o88+3) fun t92 =>
 f88 (t89,t90,t91,t92,()) (IntKind.wrap .i64 (depth+1)) (fun t93 h94 =>
 Zp (!t93) (
 K false h94) (
 Zk (IntKind.wrap .i64 (i81+1)) fun i95 =>
 J82 (i95,()) h94)) h84) (
 K true h84)) s83.1) (i80,()) h72)) s71.1) (i,()) h68) (fun J63 =>
 Zp (depth ==64) (
 K false h62) (
 ldI h62 b 0 .u8 fun t64 =>
 Zp (t64 ==7) (
 ldL h62 b (0+3) fun t65 =>
 ldL h62 b (0+2) fun t66 =>
 Zp ((t65.len:Int) !=(t66.len:Int)) (
 K false h62) (
 J63 (()) h62)) (
 J63 (()) h62)))) (fun J33 =>
 ldI h32 b 0 .u8 fun t34 =>
 Zaq (σ:=Bool × Unit) (fun s39 h40 =>
 (fun (s52:Bool) =>
 Zp s52 (
 K true h40) (
 ZF (t34 ==4) fun t41 =>
 Zp t41 (
 ldS h40 b (0+1) fun t42 =>
 f46 t42 (fun t43 t44 t45 h46 =>
 newC h46 [.int .u8 0,.string (ByteArray.mk #[]),.slice none 0 0,.slice none 0 0] 33 fun b47 h48 =>
 sts h48 b47 0 [.int .u8 t43.1,.string t43.2.1,.slice t43.2.2.1.ptr t43.2.2.1.len t43.2.2.1.cap,.slice t43.2.2.2.1.ptr t43.2.2.2.1.len t43.2.2.2.1.cap] fun h49 =>
 Zk t44 fun e =>
 Zk t45 fun x =>
 Zp (e ==0) (
 ldI h49 b47 0 .u8 fun t50 =>
 Zp (t50 ==4) (
 ldS h49 b47 (0+1) fun t51 =>
 ldS h49 b (0+1) fun t52 =>
 ZF (Za2 t51 t52) fun t53 =>
 K t53 h49) (
 K false h49)) (
 K false h49)) h40) (
 ZF (t34 ==5) fun t54 =>
 Zp t54 (
 ldS h40 b (0+1) fun t55 =>
 f87 t55 (fun t56 h57 =>
 ZF t56 fun t58 =>
 K t58 h57) h40) (
 ZF (t34 ==6) fun t59 =>
 Zp t59 (
 Zp t59 (
 J33 (()) h40) (
 K false h40)) (
 ZF (t34 ==7) fun t60 =>
 Zp t60 (
 J33 (()) h40) (
 K false h40)))))) s39.1) (fun J35 =>
 ZF (t34 ==1) fun t36 =>
 Zp t36 (
 J35 (t36,()) h32) (
 ZF (t34 ==2) fun t37 =>
 Zp t37 (
 J35 (t37,()) h32) (
 ZF (t34 ==3) fun t38 =>
 J35 (t38,()) h32))))) (fun J2 =>
 ldI h1 b 0 .u8 fun t =>
 Zp (t !=4) (
 ldI h1 b 0 .u8 fun t3 =>
 Zp (t3 !=5) (
 ldS h1 b (0+1) fun t4 =>
 Zp (!(Za2 t4 (ByteArray.mk #[]))) (
 K false h1) (
 ldI h1 b 0 .u8 fun t5 =>
 Zp (t5 !=6) (
 ldI h1 b 0 .u8 fun t6 =>
 Zp (t6 !=7) (
 ldL h1 b (0+2) fun t7 =>
 Zp (decide ((t7.len:Int)>0)) (
 K false h1) (
 ldI h1 b 0 .u8 fun t8 =>
 Zp (t8 !=7) (
 ldL h1 b (0+3) fun t9 =>
 Zp (decide ((t9.len:Int)>0)) (
 K false h1) (
 J2 (()) h1)) (
 J2 (()) h1))) (
 ldI h1 b 0 .u8 fun t10 =>
 Zp (t10 !=7) (
 ldL h1 b (0+3) fun t11 =>
 Zp (decide ((t11.len:Int)>0)) (
 K false h1) (
 J2 (()) h1)) (
 J2 (()) h1))) (
 ldI h1 b 0 .u8 fun t12 =>
 Zp (t12 !=7) (
 ldL h1 b (0+3) fun t13 =>
 Zp (decide ((t13.len:Int)>0)) (
 K false h1) (
 J2 (()) h1)) (
 J2 (()) h1)))) (
 ldI h1 b 0 .u8 fun t14 =>
 Zp (t14 !=6) (
 ldI h1 b 0 .u8 fun t15 =>
 Zp (t15 !=7) (
 ldL h1 b (0+2) fun t16 =>
 Zp (decide ((t16.len:Int)>0)) (
 K false h1) (
 ldI h1 b 0 .u8 fun t17 =>
 Zp (t17 !=7) (
 ldL h1 b (0+3) fun t18 =>
 Zp (decide ((t18.len:Int)>0)) (
 K false h1) (
 J2 (()) h1)) (
 J2 (()) h1))) (
 ldI h1 b 0 .u8 fun t19 =>
 Zp (t19 !=7) (
 ldL h1 b (0+3) fun t20 =>
 Zp (decide ((t20.len:Int)>0)) (
 K false h1) (
 J2 (()) h1)) (
 J2 (()) h1))) (
 ldI h1 b 0 .u8 fun t21 =>
 Zp (t21 !=7) (
 ldL h1 b (0+3) fun t22 =>
 Zp (decide ((t22.len:Int)>0)) (
 K false h1) (
 J2 (()) h1)) (
 J2 (()) h1)))) (
 ldI h1 b 0 .u8 fun t23 =>
 Zp (t23 !=6) (
 ldI h1 b 0 .u8 fun t24 =>
 Zp (t24 !=7) (
 ldL h1 b (0+2) fun t25 =>
 Zp (decide ((t25.len:Int)>0)) (
 K false h1) (
 ldI h1 b 0 .u8 fun t26 =>
 Zp (t26 !=7) (
 ldL h1 b (0+3) fun t27 =>
 Zp (decide ((t27.len:Int)>0)) (
 K false h1) (
 J2 (()) h1)) (
 J2 (()) h1))) (
 ldI h1 b 0 .u8 fun t28 =>
 Zp (t28 !=7) (
 ldL h1 b (0+3) fun t29 =>
 Zp (decide ((t29.len:Int)>0)) (
 K false h1) (
 J2 (()) h1)) (
 J2 (()) h1))) (
 ldI h1 b 0 .u8 fun t30 =>
 Zp (t30 !=7) (
 ldL h1 b (0+3) fun t31 =>
 Zp (decide ((t31.len:Int)>0)) (
 K false h1) (
 J2 (()) h1)) (
 J2 (()) h1))))
def XJ (f88:Zns):Zns:=Zay YZ YW f88
def Yu:Nat→Zns
 | 0=>fun _ _ _ _=>False
 | n+1=>XJ (Yu n)
def Zar:Zns:=fun v depth K h=>∃ n,Yu n v depth K h
abbrev Zt0:=(Int × ByteArray × Sl × Sl × Unit)→(Bool→HP)→HP
def ZaD (f86:Zt2) (f88:Zns) (v:Int × ByteArray × Sl × Sl × Unit) (K:Bool→HP) (h:Ze):Prop :=
 newC h [.int .u8 v.1,.string v.2.1,.slice v.2.2.1.ptr v.2.2.1.len v.2.2.1.cap,.slice v.2.2.2.1.ptr v.2.2.2.1.len v.2.2.2.1.cap] 33 fun b h1 =>
 ldI h1 b 0 .u8 fun t=>ldS h1 b (0+1) fun t2=>ldL h1 b (0+2) fun t3=>ldL h1 b (0+3) fun t4 =>
 f86 (t,t2,t3,t4,()) (fun t5 h6 =>
 Zp (!t5) (
 ldI h6 b 0 .u8 fun t7=>ldS h6 b (0+1) fun t8=>ldL h6 b (0+2) fun t9=>ldL h6 b (0+3) fun t10 =>
 f88 (t7,t8,t9,t10,()) 0 (fun t11 h12 =>
 ZF t11 fun t13 =>
 K t13 h12) h6) (
 K false h6)) h1
def YY:Zt0:=ZaD Y0 Zar
abbrev ZtZ:=ByteArray→(ByteArray→Int→Bool→HP)→HP
def X6 (f31:Zko) (s:ByteArray) (K:ByteArray→Int→Bool→HP) (h:Ze):Prop :=
 Zk 0 fun t =>
 Zaq (σ:=Bool × Unit) (fun s4 h5 =>
 (fun (neg3:Bool) =>
 Zk 0 fun at_ =>
 Zaq (σ:=Int × Unit) (fun s9 h10 =>
 (fun (at_8:Int) =>
 Zk 0 fun places =>
 Zaq (σ:=Int × ByteArray × Int × Unit) (fun s34 h35 =>
 (fun (at_31:Int) (digits32:ByteArray) (places33:Int) =>
 Zk 0 fun exp =>
 Zaq (σ:=Int × Unit) (fun s58 h59 =>
 (fun (exp57:Int) =>
 Zaq (σ:=ByteArray × Unit) (fun s68 h69 =>
 (fun (digits67:ByteArray) =>
 Zaq (σ:=ByteArray × Int × Unit) (fun s81 h82 =>
 (fun (digits79:ByteArray) (places80:Int) =>
 Zk (IntKind.wrap .i64 (places80+exp57)) fun t83 =>
 ZF neg3 fun t84 =>
 K digits79 t83 t84 h82) s81.1 s81.2.1) (fun J70 =>
 Zan (σ:=ByteArray × Int × Unit) (fun J73 s74 h75 =>
 (fun (digits71:ByteArray) (places72:Int) =>
 Zp (decide ((digits71.size:Int)>0)) (
 ZeH digits71 (IntKind.wrap .i64 ((digits71.size:Int) - 1)) fun t76 =>
 Zp (t76 ==48) (
 ZfW digits71 0 (IntKind.wrap .i64 ((digits71.size:Int) - 1)) fun t77 =>
 Zk (IntKind.wrap .i64 (places72+1)) fun places78 =>
 J73 (t77,places78,()) h75) (
 J70 (digits71,places72,()) h75)) (
 J70 (digits71,places72,()) h75)) s74.1 s74.2.1) (digits67,places33,()) h69)) s68.1) (fun J60 =>
 Zan (σ:=ByteArray × Unit) (fun J62 s63 h64 =>
 (fun (digits61:ByteArray) =>
 Zp (decide ((digits61.size:Int)>0)) (
 ZeH digits61 0 fun t65 =>
 Zp (t65 ==48) (
 ZfW digits61 1 digits61.size fun t66 =>
 J62 (t66,()) h64) (
 J60 (digits61,()) h64)) (
 J60 (digits61,()) h64)) s63.1) (digits32,()) h59)) s58.1) (fun J36 =>
 Zp (decide (at_31<(s.size:Int))) (
 Zk (IntKind.wrap .i64 (at_31+1)) fun at_37 =>
 ZeH s at_37 fun t38 =>
 ZF (t38 ==45) fun below =>
 Zaq (σ:=Int × Unit) (fun s45 h46 =>
 (fun (at_44:Int) =>
 Zan (σ:=Int × Int × Unit) (fun J49 s50 h51 =>
 (fun (at_47:Int) (exp48:Int) =>
 Zp (decide (at_47<(s.size:Int))) (
 Zp (decide (exp48<1073741824)) (
 ZeH s at_47 fun t52 =>
 Zk (IntKind.wrap .i64 ((IntKind.wrap .i64 (exp48*10))+(IntKind.wrap .i64 (IntKind.wrap .u8 (t52 - 48))))) fun exp53 =>
 Zk (IntKind.wrap .i64 (at_47+1)) fun at_54 =>
 J49 (at_54,exp53,()) h51) (
 Zk (IntKind.wrap .i64 (at_47+1)) fun at_55 =>
 J49 (at_55,exp48,()) h51)) (
 Zp below (
 Zk (IntKind.wrap .i64 (0 - exp48)) fun exp56 =>
 J36 (exp56,()) h51) (
 J36 (exp48,()) h51))) s50.1 s50.2.1) (at_44,exp,()) h46) s45.1) (fun J39 =>
 ZeH s at_37 fun t40 =>
 Zp (t40 ==45) (
 Zk (IntKind.wrap .i64 (at_37+1)) fun at_41 =>
 J39 (at_41,()) h35) (
 ZeH s at_37 fun t42 =>
 Zp (t42 ==43) (
 Zk (IntKind.wrap .i64 (at_37+1)) fun at_43 =>
 J39 (at_43,()) h35) (
 J39 (at_37,()) h35)))) (
 J36 (exp,()) h35))) s34.1 s34.2.1 s34.2.2.1) (fun J11 =>
 Zan (σ:=Int × ByteArray × Int × Bool × Unit) (fun J14 s15 h16 =>
 (fun (at_12:Int) (digits:ByteArray) (places13:Int) (point:Bool) =>
 Zaq (σ:=Unit) (fun s22 h23 =>
 ZeH s at_12 fun t24 =>
 Zp (t24 ==46) (
 Zk (IntKind.wrap .i64 (at_12+1)) fun at_25 =>
 J14 (at_25,digits,places13,true,()) h23) (
 ZfW s at_12 (IntKind.wrap .i64 (at_12+1)) fun t26 =>
 Zkg digits t26 fun s27 =>
 Zp point (
 Zk (IntKind.wrap .i64 (places13 - 1)) fun places28 =>
 Zk (IntKind.wrap .i64 (at_12+1)) fun at_29 =>
 J14 (at_29,s27,places28,point,()) h23) (
 Zk (IntKind.wrap .i64 (at_12+1)) fun at_30 =>
 J14 (at_30,s27,places13,point,()) h23))) (fun J17 =>
 Zp (decide (at_12<(s.size:Int))) (
 ZeH s at_12 fun t18 =>
 f31 t18 (fun t19 h20 =>
 Zp t19 (
 J17 (()) h20) (
 ZeH s at_12 fun t21 =>
 Zp (t21 ==46) (
 J17 (()) h20) (
 J11 (at_12,digits,places13,()) h20))) h16) (
 J11 (at_12,digits,places13,()) h16))) s15.1 s15.2.1 s15.2.2.1 s15.2.2.2.1) (at_8,ByteArray.mk #[],places,false,()) h10)) s9.1) (fun J6 =>
 Zp neg3 (
 Zk 1 fun at_7 =>
 J6 (at_7,()) h5) (
 J6 (at_,()) h5))) s4.1) (fun J1 =>
 Zp (decide ((s.size:Int)>0)) (
 ZeH s 0 fun t2 =>
 ZF (t2 ==45) fun neg =>
 J1 (neg,()) h) (
 J1 (false,()) h))
def YC:ZtZ:=X6 ZE
abbrev ZtY:=(Int × ByteArray × Sl × Sl × Unit)→(Int→Bool→HP)→HP
def ZaC (f89:Zt0) (f90:ZtZ) (v:Int × ByteArray × Sl × Sl × Unit) (K:Int→Bool→HP) (h:Ze):Prop :=
 newC h [.int .u8 v.1,.string v.2.1,.slice v.2.2.1.ptr v.2.2.1.len v.2.2.1.cap,.slice v.2.2.2.1.ptr v.2.2.2.1.len v.2.2.2.1.cap] 33 fun b h1 =>
 Zk 0 fun t =>
 ldI h1 b 0 .u8 fun t2 =>
 Zp (t2 !=4) (
 Zk 0 fun t3 =>
 K t3 false h1) (
 ldI h1 b 0 .u8 fun t4=>ldS h1 b (0+1) fun t5=>ldL h1 b (0+2) fun t6=>ldL h1 b (0+3) fun t7 =>
 f89 (t4,t5,t6,t7,()) (fun t8 h9 =>
 Zp (!t8) (
 Zk 0 fun t10 =>
 K t10 false h9) (
 ldS h9 b (0+1) fun t11 =>
 f90 t11 (fun t12 t13 t14 h15 =>
 Zk t13 fun places =>
 ZF t14 fun neg =>
 Zp (Za2 t12 (ByteArray.mk #[])) (
 Zk 0 fun t16 =>
 K t16 true h15) (
 Zp (decide (places<0)) (
 Zk 0 fun t17 =>
 K t17 false h15) (
 Zp (decide (places>20)) (
 Zk 0 fun t18 =>
 K t18 false h15) (
 Zp (decide ((IntKind.wrap .i64 ((t12.size:Int)+places))>19)) (
 Zk 0 fun t19 =>
 K t19 false h15) (
 Zk 0 fun n =>
 Zk 0 fun i =>
 Zan (σ:=Int × Int × Unit) (fun J22 s h23 =>
 (fun (n20:Int) (i21:Int) =>
 Zp (decide (i21<(IntKind.wrap .i64 ((t12.size:Int)+places)))) (
 Zk (IntKind.wrap .u64 (n20*10)) fun n24 =>
 Zp (decide (i21<(t12.size:Int))) (
 ZeH t12 i21 fun t25 =>
 Zk (IntKind.wrap .u64 (n24+(IntKind.wrap .u64 (IntKind.wrap .u8 (t25 - 48))))) fun n26 =>
 Zk (IntKind.wrap .i64 (i21+1)) fun i27 =>
 J22 (n26,i27,()) h23) (
 Zk (IntKind.wrap .i64 (i21+1)) fun i28 =>
 J22 (n24,i28,()) h23)) (
 Zaq (σ:=Unit) (fun s31 h32 =>
 Zp neg (
 Zk 0 fun t33 =>
 K t33 false h32) (
 Zp (decide (n20≥9223372036854775808)) (
 Zk 0 fun t34 =>
 K t34 false h32) (
 Zk (IntKind.wrap .i64 n20) fun t35 =>
 K t35 true h32))) (fun J29 =>
 Zp neg (
 Zp (decide (n20≤9223372036854775808)) (
 Zk (IntKind.wrap .i64 (IntKind.wrap .u64 (0 - n20))) fun t30 =>
 K t30 true h23) (
 J29 (()) h23)) (
 J29 (()) h23)))) s.1 s.2.1) (n,i,()) h15))))) h9)) h1)
def YX:ZtY:=ZaC YY YC
abbrev ZtX:=ByteArray→((Int × ByteArray × Sl × Sl × Unit)→HP)→HP
def Zdz (s:ByteArray) (K:(Int × ByteArray × Sl × Sl × Unit)→HP) (h:Ze):Prop :=
 newC h [.int .u8 0,.string (ByteArray.mk #[]),.slice none 0 0,.slice none 0 0] 33 fun b h1 =>
 sts h1 b 0 [.int .u8 5,.string s,.slice none 0 0,.slice none 0 0] fun h2 =>
 ldI h2 b 0 .u8 fun t=>ldS h2 b (0+1) fun t3=>ldL h2 b (0+2) fun t4=>ldL h2 b (0+3) fun t5=>K (t,t3,t4,t5,()) h2
def ZbM:ZtX:=Zdz
abbrev Zxx:=ByteArray→Int→ByteArray→(Bool→HP)→HP
def XB (f75:Zr2) (f91:ZtY) (f63:Zr3) (f79:Zt3) (f62:ZtJ) (f92:ZtX) (f57:Zoz) (text:ByteArray) (n:Int) (s:ByteArray) (K:Bool→HP) (h:Ze):Prop :=
 newC h [.int .u8 0,.string (ByteArray.mk #[]),.slice none 0 0,.slice none 0 0] 33 fun b h1 =>
 sts h1 b 0 [.int .u8 4,.string text,.slice none 0 0,.slice none 0 0] fun h2 =>
 ldI h2 b 0 .u8 fun t=>ldS h2 b (0+1) fun t3=>ldL h2 b (0+2) fun t4=>ldL h2 b (0+3) fun t5 =>
 f75 (t,t3,t4,t5,()) (fun t6 t7 h8 =>
 Zk t6 fun a =>
 ZF t7 fun ok =>
 ldI h8 b 0 .u8 fun t9=>ldS h8 b (0+1) fun t10=>ldL h8 b (0+2) fun t11=>ldL h8 b (0+3) fun t12 =>
 f91 (t9,t10,t11,t12,()) (fun t13 t14 h15 =>
 Zk t13 fun b16 =>
 ZF t14 fun yes =>
 f63 n (fun t17 h18 =>
 f75 (t17.1,t17.2.1,⟨t17.2.2.1.ptr,t17.2.2.1.len,t17.2.2.1.cap⟩,⟨t17.2.2.2.1.ptr,t17.2.2.2.1.len,t17.2.2.2.1.cap⟩,()) (fun t19 t20 h21 =>
 Zk t19 fun c =>
 ZF t20 fun fine =>
 f79 (fun t22 h23 =>
 Zp (!t22) (
 K false h23) (
 Zp (a !=b16) (
 K false h23) (
 Zp (ok !=yes) (
 K false h23) (
 Zp (!fine) (
 K false h23) (
 Zp (c !=n) (
 K false h23) (
 f63 n (fun t24 h25 =>
 f62 n (fun t26 h27 =>
 Zp (!(Za2 t24.2.1 t26)) (
 K false h27) (
 f92 s (fun t28 h29 =>
 Zp (!(Za2 t28.2.1 s)) (
 K false h29) (
 f92 s (fun t30 h31 =>
 Zp (t30.1 !=5) (
 K false h31) (
 ldI h31 b 0 .u8 fun t32=>ldS h31 b (0+1) fun t33=>ldL h31 b (0+2) fun t34=>ldL h31 b (0+3) fun t35 =>
 f57 (t32,t33,t34,t35,()) (fun t36 h37 =>
 Zp (!t36) (
 K true h37) (
 Zk 0 fun k =>
 Zaq (σ:=Int × Unit) (fun s47 h48 =>
 (fun (k46:Int) =>
 Zk 0 fun i =>
 Zan (σ:=Bool × Int × Unit) (fun J50 s51 h52 =>
 (fun (point:Bool) (i49:Int) =>
 Zp (decide (i49<k46)) (
 Zp point (
 Zk (IntKind.wrap .i64 (i49+1)) fun i53 =>
 J50 (true,i53,()) h52) (
 ZeH text i49 fun t54 =>
 ZF (t54 ==46) fun point55 =>
 Zk (IntKind.wrap .i64 (i49+1)) fun i56 =>
 J50 (point55,i56,()) h52)) (
 ZfW text 0 k46 fun t57 =>
 Zkg t57 (ByteArray.mk #[48]) fun s58 =>
 ZfW text k46 text.size fun t59 =>
 Zkg s58 t59 fun s60 =>
 Zaq (σ:=ByteArray × Unit) (fun s66 h67 =>
 (fun (more:ByteArray) =>
 f75 (4,more,⟨none,0,0⟩,⟨none,0,0⟩,()) (fun t68 t69 h70 =>
 Zk t68 fun d =>
 ZF t69 fun same =>
 Zp (decide ((more.size:Int)>65536)) (
 K true h70) (
 Zp (d ==a) (
 ZF (same ==ok) fun t71 =>
 K t71 h70) (
 K false h70))) h67) s66.1) (fun J61 =>
 Zp (!point) (
 ZfW text 0 k46 fun t62 =>
 Zkg t62 (ByteArray.mk #[46,48]) fun s63 =>
 ZfW text k46 text.size fun t64 =>
 Zkg s63 t64 fun s65 =>
 J61 (s65,()) h52) (
 J61 (s60,()) h52)))) s51.1 s51.2.1) (false,i,()) h48) s47.1) (fun J38 =>
 Zan (σ:=Int × Unit) (fun J40 s41 h42 =>
 (fun (k39:Int) =>
 Zp (decide (k39<(text.size:Int))) (
 ZeH text k39 fun t43 =>
 Zp (t43 !=101) (
 ZeH text k39 fun t44 =>
 Zp (t44 !=69) (
 Zk (IntKind.wrap .i64 (k39+1)) fun k45 =>
 J40 (k45,()) h42) (
 J38 (k39,()) h42)) (
 J38 (k39,()) h42)) (
 J38 (k39,()) h42)) s41.1) (k,()) h37))) h31)) h29)) h27)) h25) h23)))))) h21) h18) h15) h8) h2
def Xs:Zxx:=XB Zav YX Zaw Xd Za6 ZbM XO
end Go.Proofs.YtpjbjdheeemdiaaGreatDoor
