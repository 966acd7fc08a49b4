/- The models of the functions. Written by a program out of the translated functions. -/
import GoSem.Machine.Frame
import GoSem.Op.String
import Derived.Sort.QuietThIn
import Derived.Test.YtpjbjdheeemdiaaGreatDoorPa1
set_option linter.unusedVariables false
set_option linter.unusedSimpArgs false
namespace Go.Proofs.YtpjbjdheeemdiaaGreatDoor
open Go Go.Fw
abbrev zT0:=ByteArray→Int→(Int→HP)→HP
abbrev zT1:=(Option Addr)→(HP)→HP
def XD (f0:zT0) (r:Option Addr) (K:HP) (h:Zc):Prop :=
 Zc6 (σ:=Unit) (fun J1 s h2 =>
 Ze r fun b o =>
 ldI h2 b (o+1) .i64 fun t =>
 Ze r fun b3 o4 =>
 ldS h2 b3 o4 fun t5 =>
 ZD (decide (t<(t5.size:Int))) (
 Ze r fun b6 o7 =>
 ldS h2 b6 o7 fun t8 =>
 Ze r fun b9 o10 =>
 ldI h2 b9 (o10+1) .i64 fun t11 =>
 Zmv t8 t11 fun t12 =>
 ZkM (ρ:=Int × Unit) (fun K h=>f0 (ByteArray.mk #[32,9,10,13]) t12 (fun q h=>K (q,()) h) h) h2 fun r14 =>
 ZD (decide (r14.1≥0)) (
 Ze r fun b15 o16 =>
 ldI h2 b15 (o16+1) .i64 fun t17 =>
 Ze r fun b18 o19 =>
 st h2 b18 (o19+1) (.int .i64 (IntKind.wrap .i64 (t17+1))) fun h20 =>
 J1 (()) h20) (
 K h2)) (
 K h2)) (()) h
def Zv:zT1:=XD ZX
abbrev zT2:=(Option Addr)→(Int→HP)→HP
def Zac (r:Option Addr) (K:Int→HP) (h:Zc):Prop :=
 ZA 0 fun t =>
 Ze r fun b o =>
 ldI h b (o+1) .i64 fun t1 =>
 Ze r fun b2 o3 =>
 ldS h b2 o3 fun t4 =>
 ZD (decide (t1<(t4.size:Int))) (
 Ze r fun b5 o6 =>
 ldS h b5 o6 fun t7 =>
 Ze r fun b8 o9 =>
 ldI h b8 (o9+1) .i64 fun t10 =>
 Zmv t7 t10 fun t11 =>
 ZA t11 fun t12 =>
 K t12 h) (
 ZA 0 fun t13 =>
 K t13 h)
def Zi:zT2:=Zac
abbrev zT3:=(Option Addr)→Int→Int→(HP)→(Value→HP)→HP
def YO (r:Option Addr) (e:Int) (at_:Int) (K:HP) (P:Value→HP) (h:Zc):Prop :=
 Ze r fun b o =>
 ldS h b o fun t =>
 ZD (decide (at_≥(t.size:Int))) (
 Ze r fun b1 o2 =>
 ldS h b1 o2 fun t3 =>
 P (.iface 160 (.agg #[.int .i64 24,.int .i64 (t3.size:Int)])) h) (
 P (.iface 160 (.agg #[.int .i64 e,.int .i64 at_])) h)
def Zf:zT3:=YO
abbrev zT5:=(Option Addr)→(HP)→HP
abbrev zT6:=(Option Addr)→Int→(Value→HP)→HP
def Yc (f5:zT5) (b:Option Addr) (c:Int) (K:Value→HP) (h:Zc):Prop :=
 f5 b (fun h1 =>
 Ze b fun b2 o =>
 ldL h1 b2 (o+1) fun t =>
 newC h1 [.int .u8 c] 5 fun b3 h4 =>
 rdS ⟨some ⟨b3,0,none⟩,1,1⟩ 1 h4 fun new=>app 5 1 1 [.int .u8 0] t 1 new h4 fun t5 h6 =>
 Ze b fun b7 o8 =>
 st h6 b7 (o8+1) (.slice t5.ptr t5.len t5.cap) fun h9 =>
 K .nilIface h9) h
def Zl:zT6:=Yc Zx
abbrev zT7:=(Option Addr)→(Int→HP)→(Value→HP)→HP
def Zan (f2:zT2) (f3:zT3) (r:Option Addr) (K:Int→HP) (P:Value→HP) (h:Zc):Prop :=
 ZA 0 fun t =>
 ZA 0 fun n =>
 Zc6 (σ:=Int × Int × Unit) (fun J2 s h3 =>
 (fun (n1:Int) (s5:Int) =>
 ZD (decide (s5<4)) (
 f2 r (fun t4 h5 =>
 ZA t4 fun c =>
 Zb4 (σ:=Int × Unit) (fun s33 h34 =>
 (fun (n32:Int) =>
 Ze r fun b35 o36 =>
 ldI h34 b35 (o36+1) .i64 fun t37 =>
 Ze r fun b38 o39 =>
 st h34 b38 (o39+1) (.int .i64 (IntKind.wrap .i64 (t37+1))) fun h40 =>
 J2 (n32,IntKind.wrap .i64 (s5+1),()) h40) s33.1) (fun J6 =>
 Zb4 (σ:=Bool × Unit) (fun s9 h10 =>
 (fun (s15:Bool) =>
 ZD s15 (
 ZbA (0≤(4:Int)) <|
 ZA (orV .i32 (Zng .i32 n1 4) (IntKind.wrap .i32 (IntKind.wrap .u8 (c - 48)))) fun n11 =>
 J6 (n11,()) h10) (
 ZD (decide (c≥97)) (
 ZK (decide (c≤102)) fun t12 =>
 ZD t12 (
 ZbA (0≤(4:Int)) <|
 ZA (orV .i32 (Zng .i32 n1 4) (IntKind.wrap .i32 (IntKind.wrap .u8 ((IntKind.wrap .u8 (c - 97))+10)))) fun n13 =>
 J6 (n13,()) h10) (
 ZD (decide (c≥65)) (
 ZK (decide (c≤70)) fun t14 =>
 ZD t14 (
 ZbA (0≤(4:Int)) <|
 ZA (orV .i32 (Zng .i32 n1 4) (IntKind.wrap .i32 (IntKind.wrap .u8 ((IntKind.wrap .u8 (c - 65))+10)))) fun n15 =>
 J6 (n15,()) h10) (
 Ze r fun b o =>
 ldI h10 b (o+1) .i64 fun t16 =>
 f3 r 22 t16 (fun h17 =>
 J6 (n1,()) h17) P h10)) (
 Ze r fun b18 o19 =>
 ldI h10 b18 (o19+1) .i64 fun t20 =>
 f3 r 22 t20 (fun h21 =>
 J6 (n1,()) h21) P h10))) (
 ZD (decide (c≥65)) (
 ZK (decide (c≤70)) fun t22 =>
 ZD t22 (
 ZbA (0≤(4:Int)) <|
 ZA (orV .i32 (Zng .i32 n1 4) (IntKind.wrap .i32 (IntKind.wrap .u8 ((IntKind.wrap .u8 (c - 65))+10)))) fun n23 =>
 J6 (n23,()) h10) (
 Ze r fun b24 o25 =>
 ldI h10 b24 (o25+1) .i64 fun t26 =>
 f3 r 22 t26 (fun h27 =>
 J6 (n1,()) h27) P h10)) (
 Ze r fun b28 o29 =>
 ldI h10 b28 (o29+1) .i64 fun t30 =>
 f3 r 22 t30 (fun h31 =>
 J6 (n1,()) h31) P h10)))) s9.1) (fun J7 =>
 ZD (decide (c≥48)) (
 ZK (decide (c≤57)) fun t8 =>
 J7 (t8,()) h5) (
 J7 (false,()) h5)))) h3) (
 ZA n1 fun t41 =>
 K t41 h3)) s.1 s.2.1) (n,0,()) h
def YY:zT7:=Zan Zi Zf
abbrev zT8:=ByteArray→ByteArray→(Bool→HP)→HP
def ZU (s:ByteArray) (prefix_:ByteArray) (K:Bool→HP) (h:Zc):Prop :=
 ZD (decide ((s.size:Int)≥(prefix_.size:Int))) (
 ZiT s 0 (prefix_.size:Int) fun t =>
 ZK (Zbd t prefix_) fun t1 =>
 K t1 h) (
 K false h)
def Zm:zT8:=ZU
abbrev zT9:=ByteArray→ByteArray→(Bool→HP)→HP
def XO (f8:zT8) (s:ByteArray) (prefix_:ByteArray) (K:Bool→HP) (h:Zc):Prop :=
 f8 s prefix_ (fun t h1 =>
 ZK t fun t2 =>
 K t2 h1) h
def Yz:zT9:=XO Zm
abbrev Zqr:=Sl→Int→(Sl→HP)→HP
def Yb (p:Sl) (r:Int) (K:Sl→HP) (h:Zc):Prop :=
 ZA (IntKind.wrap .u32 r) fun i =>
 ZK (decide (i≤2047)) fun t =>
 ZD t (
 ZbA (0≤(6:Int)) <|
 newC h [.int .u8 (orV .u8 (192:Int) (IntKind.wrap .u8 (ZkA .i32 r 6))),.int .u8 (orV .u8 (128:Int) (Zkp .u8 (IntKind.wrap .u8 r) 63))] 5 fun b h1 =>
 rdS ⟨some ⟨b,0,none⟩,2,2⟩ 1 h1 fun new=>app 5 1 1 [.int .u8 0] p 2 new h1 fun t2 h3 =>
 K t2 h3) (
 Zb4 (σ:=Bool × Unit) (fun s h7 =>
 (fun (s25:Bool) =>
 ZD s25 (
 ZbA (0≤(12:Int)) <|
 ZbA (0≤(6:Int)) <|
 newC h7 [.int .u8 (orV .u8 (224:Int) (IntKind.wrap .u8 (ZkA .i32 r 12))),.int .u8 (orV .u8 (128:Int) (Zkp .u8 (IntKind.wrap .u8 (ZkA .i32 r 6)) 63)),.int .u8 (orV .u8 (128:Int) (Zkp .u8 (IntKind.wrap .u8 r) 63))] 5 fun b8 h9 =>
 rdS ⟨some ⟨b8,0,none⟩,3,3⟩ 1 h9 fun new12=>app 5 1 1 [.int .u8 0] p 3 new12 h9 fun t10 h11 =>
 K t10 h11) (
 ZD (decide (i>65535)) (
 ZK (decide (i≤1114111)) fun t13 =>
 ZD t13 (
 ZbA (0≤(18:Int)) <|
 ZbA (0≤(12:Int)) <|
 ZbA (0≤(6:Int)) <|
 newC h7 [.int .u8 (orV .u8 (240:Int) (IntKind.wrap .u8 (ZkA .i32 r 18))),.int .u8 (orV .u8 (128:Int) (Zkp .u8 (IntKind.wrap .u8 (ZkA .i32 r 12)) 63)),.int .u8 (orV .u8 (128:Int) (Zkp .u8 (IntKind.wrap .u8 (ZkA .i32 r 6)) 63)),.int .u8 (orV .u8 (128:Int) (Zkp .u8 (IntKind.wrap .u8 r) 63))] 5 fun b14 h15 =>
 rdS ⟨some ⟨b14,0,none⟩,4,4⟩ 1 h15 fun new18=>app 5 1 1 [.int .u8 0] p 4 new18 h15 fun t16 h17 =>
 K t16 h17) (
 newC h7 [.int .u8 239,.int .u8 191,.int .u8 189] 5 fun b19 h20 =>
 rdS ⟨some ⟨b19,0,none⟩,3,3⟩ 1 h20 fun new23=>app 5 1 1 [.int .u8 0] p 3 new23 h20 fun t21 h22 =>
 K t21 h22)) (
 newC h7 [.int .u8 239,.int .u8 191,.int .u8 189] 5 fun b24 h25 =>
 rdS ⟨some ⟨b24,0,none⟩,3,3⟩ 1 h25 fun new28=>app 5 1 1 [.int .u8 0] p 3 new28 h25 fun t26 h27 =>
 K t26 h27))) s.1) (fun J4 =>
 ZK (decide (i<55296)) fun t5 =>
 ZD t5 (
 J4 (t5,()) h) (
 ZD (decide ((57343:Int)<i)) (
 ZK (decide (i≤65535)) fun t6 =>
 J4 (t6,()) h) (
 J4 (false,()) h))))
def ZP:Zqr:=Yb
abbrev Zqq:=Sl→Int→(Sl→HP)→HP
def YR (f10:Zqr) (p:Sl) (r:Int) (K:Sl→HP) (h:Zc):Prop :=
 ZD (decide ((IntKind.wrap .u32 r)≤127)) (
 newC h [.int .u8 (IntKind.wrap .u8 r)] 5 fun b h1 =>
 rdS ⟨some ⟨b,0,none⟩,1,1⟩ 1 h1 fun new=>app 5 1 1 [.int .u8 0] p 1 new h1 fun t h2 =>
 K t h2) (
 f10 p r (fun t3 h4 =>
 K t3 h4) h)
def Z2:Zqq:=YR ZP
abbrev Zqp:=(Option Addr)→Int→(Int→Value→HP)→HP
def YD (f5:zT5) (f11:Zqq) (b:Option Addr) (r:Int) (K:Int→Value→HP) (h:Zc):Prop :=
 ZA 0 fun t =>
 f5 b (fun h1 =>
 Ze b fun b2 o =>
 ldL h1 b2 (o+1) fun t3 =>
 ZA (t3.len:Int) fun n =>
 Ze b fun b4 o5 =>
 ldL h1 b4 (o5+1) fun t6 =>
 f11 t6 r (fun t7 h8 =>
 Ze b fun b9 o10 =>
 st h8 b9 (o10+1) (.slice t7.ptr t7.len t7.cap) fun h11 =>
 Ze b fun b12 o13 =>
 ldL h11 b12 (o13+1) fun t14 =>
 ZA (IntKind.wrap .i64 ((t14.len:Int) - n)) fun t15 =>
 K t15 .nilIface h11) h1) h
def ZY:Zqp:=YD Zx Z2
abbrev Zqo:=(Option Addr)→(Option Addr)→(HP)→(Value→HP)→HP
def XB (f2:zT2) (f0:zT0) (f6:zT6) (f3:zT3) (f7:zT7) (f9:zT9) (f12:Zqp) (r:Option Addr) (b:Option Addr) (K:HP) (P:Value→HP) (h:Zc):Prop :=
 f2 r (fun t h1 =>
 ZA t fun c =>
 Zb4 (σ:=Unit) (fun s h19 =>
 Zb4 (σ:=Unit) (fun s25 h26 =>
 Ze r fun b27 o28 =>
 ldI h26 b27 (o28+1) .i64 fun t29 =>
 Ze r fun b30 o31 =>
 st h26 b30 (o31+1) (.int .i64 (IntKind.wrap .i64 (t29+1))) fun h32 =>
 f7 r (fun t33 h34 =>
 ZA t33 fun n =>
 Zb4 (σ:=Unit) (fun s68 h69 =>
 Zb4 (σ:=Int × Unit) (fun s73 h74 =>
 (fun (n72:Int) =>
 f12 b n72 (fun t75 t76 h77 =>
 K h77) h74) s73.1) (fun J70 =>
 ZD (decide (n≥55296)) (
 ZD (decide (n<57344)) (
 ZA 65533 fun n71 =>
 J70 (n71,()) h69) (
 J70 (n,()) h69)) (
 J70 (n,()) h69))) (fun J35 =>
 Zb4 (σ:=Bool × Unit) (fun s46 h47 =>
 (fun (s72:Bool) =>
 ZD s72 (
 Ze r fun b48 o49 =>
 ldI h47 b48 (o49+1) .i64 fun t50 =>
 ZA t50 fun was =>
 Ze r fun b51 o52 =>
 ldI h47 b51 (o52+1) .i64 fun t53 =>
 Ze r fun b54 o55 =>
 st h47 b54 (o55+1) (.int .i64 (IntKind.wrap .i64 (t53+2))) fun h56 =>
 f7 r (fun t57 h58 =>
 ZA t57 fun low =>
 ZD (decide (low≥56320)) (
 ZD (decide (low<57344)) (
 ZbA (0≤(10:Int)) <|
 f12 b (IntKind.wrap .i32 ((IntKind.wrap .i32 ((65536:Int)+(Zng .i32 (IntKind.wrap .i32 (n - 55296)) 10)))+(IntKind.wrap .i32 (low - 56320)))) (fun t59 t60 h61 =>
 K h61) h58) (
 Ze r fun b62 o63 =>
 st h58 b62 (o63+1) (.int .i64 was) fun h64 =>
 J35 (()) h64)) (
 Ze r fun b65 o66 =>
 st h58 b65 (o66+1) (.int .i64 was) fun h67 =>
 J35 (()) h67)) P h56) (
 J35 (()) h47)) s46.1) (fun J36 =>
 ZD (decide (n≥55296)) (
 ZD (decide (n<56320)) (
 Ze r fun b37 o38 =>
 ldS h34 b37 o38 fun t39 =>
 Ze r fun b40 o41 =>
 ldI h34 b40 (o41+1) .i64 fun t42 =>
 ZiT t39 t42 t39.size fun t43 =>
 ZkM (ρ:=Bool × Unit) (fun K h=>f9 t43 (ByteArray.mk #[92,117]) (fun q h=>K (q,()) h) h) h34 fun r45 =>
 J36 (r45.1,()) h34) (
 J36 (false,()) h34)) (
 J36 (false,()) h34)))) P h32) (fun J20 =>
 ZD (c !=117) (
 Ze r fun b21 o22 =>
 ldI h19 b21 (o22+1) .i64 fun t23 =>
 f3 r 22 t23 (fun h24 =>
 J20 (()) h24) P h19) (
 J20 (()) h19))) (fun J2 =>
 f0 (ByteArray.mk #[34,92,47,98,102,110,114,116]) c (fun t3 h4 =>
 ZA t3 fun i =>
 ZD (decide (i≥0)) (
 Ze r fun b5 o =>
 ldI h4 b5 (o+1) .i64 fun t6 =>
 Ze r fun b7 o8 =>
 ldS h4 b7 o8 fun t9 =>
 ZD (decide (t6<(t9.size:Int))) (
 Zmv (ByteArray.mk #[34,92,47,8,12,10,13,9]) i fun t10 =>
 f6 b t10 (fun t11 h12 =>
 Ze r fun b13 o14 =>
 ldI h12 b13 (o14+1) .i64 fun t15 =>
 Ze r fun b16 o17 =>
 st h12 b16 (o17+1) (.int .i64 (IntKind.wrap .i64 (t15+1))) fun h18 =>
 K h18) h4) (
 J2 (()) h4)) (
 J2 (()) h4)) h1)) h
def Yv:Zqo:=XB Zi ZX Zl Zf YY Yz ZY
abbrev Zr0:=ByteArray→(Int→HP)→HP
abbrev Zlj:=ByteArray→(Bool→HP)→HP
abbrev Zqn:=ByteArray→(Bool→HP)→HP
def ZbX (f14:Zr0) (f15:Zlj) (s:ByteArray) (K:Bool→HP) (h:Zc):Prop :=
 newC h [.string (ByteArray.mk #[128,128,128]),.string (ByteArray.mk #[144,128,128]),.string (ByteArray.mk #[160,128,128])] 9 fun b h1 =>
 Zc6 (σ:=Int × Unit) (fun J2 s3 h4 =>
 (fun (s11:Int) =>
 ZD (decide (s11<(3:Int))) (
 ZiN (some ⟨b,0,none⟩) 3 s11 1 fun b5 o =>
 ldS h4 b5 o fun t =>
 ZA (s.size:Int) fun k =>
 Zc6 (σ:=Int × Unit) (fun J7 s8 h9 =>
 (fun (k6:Int) =>
 ZD (decide (k6<4)) (
 ZiT t 0 (IntKind.wrap .i64 (k6 - (s.size:Int))) fun t10 =>
 ZmW s t10 fun s12 =>
 f14 s12 (fun t13 h14 =>
 ZA t13 fun n =>
 ZD (n ==1) (
 f15 s12 (fun t15 h16 =>
 ZD t15 (
 K true h16) (
 ZA (IntKind.wrap .i64 (k6+1)) fun k17 =>
 J7 (k17,()) h16)) h14) (
 ZA (IntKind.wrap .i64 (k6+1)) fun k18 =>
 J7 (k18,()) h14)) h9) (
 ZD (decide ((s.size:Int)<4)) (
 ZmW s t fun s19 =>
 ZiT s19 0 4 fun t20 =>
 f15 t20 (fun t21 h22 =>
 ZD t21 (
 ZmW s t fun s23 =>
 ZiT s23 0 4 fun t24 =>
 f14 t24 (fun t25 h26 =>
 ZD (t25 ==1) (
 K true h26) (
 J2 (IntKind.wrap .i64 (s11+1),()) h26)) h22) (
 J2 (IntKind.wrap .i64 (s11+1),()) h22)) h9) (
 J2 (IntKind.wrap .i64 (s11+1),()) h9))) s8.1) (k,()) h4) (
 f15 s (fun t27 h28 =>
 ZD t27 (
 f14 s (fun t29 h30 =>
 ZK (t29 ==1) fun t31 =>
 K t31 h30) h28) (
 K false h28)) h4)) s3.1) (0,()) h1
def X6:Zqn:=ZbX ZS Zw
abbrev Zln:=(Option Addr)→ByteArray→(Int→Value→HP)→HP
def Z5 (f5:zT5) (b:Option Addr) (s:ByteArray) (K:Int→Value→HP) (h:Zc):Prop :=
 ZA 0 fun t =>
 f5 b (fun h1 =>
 Ze b fun b2 o =>
 ldL h1 b2 (o+1) fun t3 =>
 app 5 1 1 [.int .u8 0] t3 s.size (YV s) h1 fun t4 h5 =>
 Ze b fun b6 o7 =>
 st h5 b6 (o7+1) (.slice t4.ptr t4.len t4.cap) fun h8 =>
 ZA (s.size:Int) fun t9 =>
 K t9 .nilIface h8) h
def Zk:Zln:=Z5 Zx
abbrev Zqm:=(Option Addr)→(Option Addr)→(HP)→(Value→HP)→HP
def XS (f3:zT3) (f16:Zqn) (f15:Zlj) (f17:Zln) (r:Option Addr) (b:Option Addr) (K:HP) (P:Value→HP) (h:Zc):Prop :=
 ZA 1 fun k =>
 Zc6 (σ:=Int × Unit) (fun J2 s h3 =>
 (fun (k1:Int) =>
 Zb4 (σ:=Unit) (fun s13 h14 =>
 Ze r fun b15 o16 =>
 ldS h14 b15 o16 fun t17 =>
 Ze r fun b18 o19 =>
 ldI h14 b18 (o19+1) .i64 fun t20 =>
 Ze r fun b21 o22 =>
 ldI h14 b21 (o22+1) .i64 fun t23 =>
 ZiT t17 t20 (IntKind.wrap .i64 (t23+k1)) fun t24 =>
 Zb4 (σ:=Unit) (fun s32 h33 =>
 f15 t24 (fun t34 h35 =>
 ZD t34 (
 f17 b t24 (fun t36 t37 h38 =>
 Ze r fun b39 o40 =>
 ldI h38 b39 (o40+1) .i64 fun t41 =>
 Ze r fun b42 o43 =>
 st h38 b42 (o43+1) (.int .i64 (IntKind.wrap .i64 (t41+k1))) fun h44 =>
 K h44) h35) (
 ZA (IntKind.wrap .i64 (k1+1)) fun k45 =>
 J2 (k45,()) h35)) h33) (fun J25 =>
 f16 t24 (fun t26 h27 =>
 ZD (!t26) (
 Ze r fun b28 o29 =>
 ldI h27 b28 (o29+1) .i64 fun t30 =>
 f3 r 22 (IntKind.wrap .i64 ((IntKind.wrap .i64 (t30+k1)) - 1)) (fun h31 =>
 J25 (()) h31) P h27) (
 J25 (()) h27)) h14)) (fun J4 =>
 Ze r fun b5 o =>
 ldI h3 b5 (o+1) .i64 fun t =>
 Ze r fun b6 o7 =>
 ldS h3 b6 o7 fun t8 =>
 ZD (decide ((IntKind.wrap .i64 (t+k1))>(t8.size:Int))) (
 Ze r fun b9 o10 =>
 ldS h3 b9 o10 fun t11 =>
 f3 r 24 (t11.size:Int) (fun h12 =>
 J4 (()) h12) P h3) (
 J4 (()) h3))) s.1) (k,()) h
def YB:Zqm:=XS Zf X6 Zw Zk
abbrev zT4:=(Option Addr)→(ByteArray→HP)→HP
abbrev Zor:=(Option Addr)→(ByteArray→HP)→(Value→HP)→HP
def Zaa (f2:zT2) (f3:zT3) (f4:zT4) (f13:Zqo) (f6:zT6) (f18:Zqm) (r:Option Addr) (K:ByteArray→HP) (P:Value→HP) (h:Zc):Prop :=
 Ze r fun b o =>
 ldI h b (o+1) .i64 fun t =>
 Ze r fun b1 o2 =>
 st h b1 (o2+1) (.int .i64 (IntKind.wrap .i64 (t+1))) fun h3 =>
 newC h3 [.pointer none,.slice none 0 0] 188 fun b4 h5 =>
 Zc6 (σ:=Unit) (fun J6 s h7 =>
 f2 r (fun t8 h9 =>
 ZA t8 fun c =>
 Zb4 (σ:=Bool × Unit) (fun s18 h19 =>
 (fun (s16:Bool) =>
 ZD s16 (
 Ze r fun b20 o21 =>
 ldI h19 b20 (o21+1) .i64 fun t22 =>
 f3 r 22 t22 (fun h23 =>
 J6 (()) h23) P h19) (
 ZK (c ==34) fun t24 =>
 ZD t24 (
 Ze r fun b25 o26 =>
 ldI h19 b25 (o26+1) .i64 fun t27 =>
 Ze r fun b28 o29 =>
 st h19 b28 (o29+1) (.int .i64 (IntKind.wrap .i64 (t27+1))) fun h30 =>
 f4 (some ⟨b4,0,none⟩) (fun t31 h32 =>
 K t31 h32) h30) (
 ZK (c ==92) fun t33 =>
 ZD t33 (
 Ze r fun b34 o35 =>
 ldI h19 b34 (o35+1) .i64 fun t36 =>
 Ze r fun b37 o38 =>
 st h19 b37 (o38+1) (.int .i64 (IntKind.wrap .i64 (t36+1))) fun h39 =>
 f13 r (some ⟨b4,0,none⟩) (fun h40 =>
 J6 (()) h40) P h39) (
 ZK (decide (c<128)) fun t41 =>
 ZD t41 (
 f6 (some ⟨b4,0,none⟩) c (fun t42 h43 =>
 Ze r fun b44 o45 =>
 ldI h43 b44 (o45+1) .i64 fun t46 =>
 Ze r fun b47 o48 =>
 st h43 b47 (o48+1) (.int .i64 (IntKind.wrap .i64 (t46+1))) fun h49 =>
 J6 (()) h49) h19) (
 f18 r (some ⟨b4,0,none⟩) (fun h50 =>
 J6 (()) h50) P h19))))) s18.1) (fun J10 =>
 Ze r fun b11 o12 =>
 ldI h9 b11 (o12+1) .i64 fun t13 =>
 Ze r fun b14 o15 =>
 ldS h9 b14 o15 fun t16 =>
 ZD (decide (t13≥(t16.size:Int))) (
 J10 (true,()) h9) (
 ZK (decide (c<32)) fun t17 =>
 J10 (t17,()) h9))) h7) (()) h5
def Z9:Zor:=Zaa Zi Zf ZR Yv Zl YB
abbrev Zg2:=(Option Addr)→Int→((Int × ByteArray × Sl × Sl × Unit)→HP)→(Value→HP)→HP
abbrev Zql:=(Option Addr)→(Option Addr)→Int→(HP)→(Value→HP)→HP
def Zab (f1:zT1) (f2:zT2) (f3:zT3) (f19:Zor) (f20:Zg2) (r:Option Addr) (v:Option Addr) (deep:Int) (K:HP) (P:Value→HP) (h:Zc):Prop :=
 f1 r (fun h1 =>
 Zb4 (σ:=Unit) (fun s39 h40 =>
 Ze v fun b41 o42 =>
 ldL h40 b41 (o42+2) fun t43 =>
 Zlg (
 f20 r deep (fun t44 h45 =>
 ZbA (Zdr h45 [(b41,o42+2,.slice t43.ptr t43.len t43.cap)]) <|
 newC h45 [.int .u8 0,.string (ByteArray.mk #[]),.slice none 0 0,.slice none 0 0] 33 fun b46 h47 =>
 ZbA (Zdr h47 [(b41,o42+2,.slice t43.ptr t43.len t43.cap)]) <|
 rdS ⟨some ⟨b46,0,none⟩,1,1⟩ 4 h47 fun new50=>app 33 4 72 [.int .u8 0,.string (ByteArray.mk #[]),.slice none 0 0,.slice none 0 0] t43 1 new50 h47 fun t48 h49 =>
 ZiN t48.ptr t48.len (t43.len:Int) 4 fun b51 o52 =>
 Ze v fun b53 o54 =>
 Zlg (
 sts h49 b51 o52 [.int .u8 t44.1,.string t44.2.1,.slice t44.2.2.1.ptr t44.2.2.1.len t44.2.2.1.cap,.slice t44.2.2.2.1.ptr t44.2.2.2.1.len t44.2.2.2.1.cap] fun h55 =>
 st h55 b53 (o54+2) (.slice t48.ptr t48.len t48.cap) fun h56 =>
 f1 r (fun h57 =>
 K h57) h56) (
 st h49 b53 (o54+2) (.slice t48.ptr t48.len t48.cap) fun h58 =>
 sts h58 b51 o52 [.int .u8 t44.1,.string t44.2.1,.slice t44.2.2.1.ptr t44.2.2.1.len t44.2.2.1.cap,.slice t44.2.2.2.1.ptr t44.2.2.2.1.len t44.2.2.2.1.cap] fun h59 =>
 f1 r (fun h60 =>
 K h60) h59)) P h40) (
 newC h40 [.int .u8 0,.string (ByteArray.mk #[]),.slice none 0 0,.slice none 0 0] 33 fun b61 h62 =>
 ZbA (Zdr h62 [(b41,o42+2,.slice t43.ptr t43.len t43.cap)]) <|
 f20 r deep (fun t63 h64 =>
 ZbA (Zdr h64 [(b41,o42+2,.slice t43.ptr t43.len t43.cap)]) <|
 rdS ⟨some ⟨b61,0,none⟩,1,1⟩ 4 h64 fun new67=>app 33 4 72 [.int .u8 0,.string (ByteArray.mk #[]),.slice none 0 0,.slice none 0 0] t43 1 new67 h64 fun t65 h66 =>
 ZiN t65.ptr t65.len (t43.len:Int) 4 fun b68 o69 =>
 Ze v fun b70 o71 =>
 Zlg (
 sts h66 b68 o69 [.int .u8 t63.1,.string t63.2.1,.slice t63.2.2.1.ptr t63.2.2.1.len t63.2.2.1.cap,.slice t63.2.2.2.1.ptr t63.2.2.2.1.len t63.2.2.2.1.cap] fun h72 =>
 st h72 b70 (o71+2) (.slice t65.ptr t65.len t65.cap) fun h73 =>
 f1 r (fun h74 =>
 K h74) h73) (
 st h66 b70 (o71+2) (.slice t65.ptr t65.len t65.cap) fun h75 =>
 sts h75 b68 o69 [.int .u8 t63.1,.string t63.2.1,.slice t63.2.2.1.ptr t63.2.2.1.len t63.2.2.1.cap,.slice t63.2.2.2.1.ptr t63.2.2.2.1.len t63.2.2.2.1.cap] fun h76 =>
 f1 r (fun h77 =>
 K h77) h76)) P h62)) (fun J2 =>
 Ze v fun b o =>
 ldI h1 b o .u8 fun t =>
 ZD (t ==7) (
 Zb4 (σ:=Unit) (fun s h10 =>
 Ze v fun b11 o12 =>
 ldL h10 b11 (o12+3) fun t13 =>
 f19 r (fun t14 h15 =>
 ZbA (Zdr h15 [(b11,o12+3,.slice t13.ptr t13.len t13.cap)]) <|
 newC h15 [.string t14] 9 fun b16 h17 =>
 ZbA (Zdr h17 [(b11,o12+3,.slice t13.ptr t13.len t13.cap)]) <|
 rdS ⟨some ⟨b16,0,none⟩,1,1⟩ 1 h17 fun new=>app 9 1 16 [.string (ByteArray.mk #[])] t13 1 new h17 fun t18 h19 =>
 Ze v fun b20 o21 =>
 st h19 b20 (o21+3) (.slice t18.ptr t18.len t18.cap) fun h22 =>
 f1 r (fun h23 =>
 Zb4 (σ:=Unit) (fun s31 h32 =>
 Ze r fun b33 o34 =>
 ldI h32 b33 (o34+1) .i64 fun t35 =>
 Ze r fun b36 o37 =>
 st h32 b36 (o37+1) (.int .i64 (IntKind.wrap .i64 (t35+1))) fun h38 =>
 J2 (()) h38) (fun J24 =>
 f2 r (fun t25 h26 =>
 ZD (t25 !=58) (
 Ze r fun b27 o28 =>
 ldI h26 b27 (o28+1) .i64 fun t29 =>
 f3 r 20 t29 (fun h30 =>
 J24 (()) h30) P h26) (
 J24 (()) h26)) h23)) h22) P h10) (fun J3 =>
 f2 r (fun t4 h5 =>
 ZD (t4 !=34) (
 Ze r fun b6 o7 =>
 ldI h5 b6 (o7+1) .i64 fun t8 =>
 f3 r 20 t8 (fun h9 =>
 J3 (()) h9) P h5) (
 J3 (()) h5)) h1)) (
 J2 (()) h1))) h
def YJ (f20:Zg2):Zql:=Zab Zv Zi Zf Z9 f20
abbrev Zqk:=(Option Addr)→Int→Int→Int→((Int × ByteArray × Sl × Sl × Unit)→HP)→(Value→HP)→HP
def Y9 (f3:zT3) (f1:zT1) (f2:zT2) (f21:Zql) (r:Option Addr) (k:Int) (end_:Int) (deep:Int) (K:(Int × ByteArray × Sl × Sl × Unit)→HP) (P:Value→HP) (h:Zc):Prop :=
 newC h [.int .u8 0,.string (ByteArray.mk #[]),.slice none 0 0,.slice none 0 0] 33 fun b h1 =>
 Zb4 (σ:=Unit) (fun s h5 =>
 Ze r fun b6 o7 =>
 ldI h5 b6 (o7+1) .i64 fun t8 =>
 Ze r fun b9 o10 =>
 st h5 b9 (o10+1) (.int .i64 (IntKind.wrap .i64 (t8+1))) fun h11 =>
 newC h11 [.int .u8 0,.string (ByteArray.mk #[]),.slice none 0 0,.slice none 0 0] 33 fun b12 h13 =>
 sts h13 b12 0 [.int .u8 k,.string (ByteArray.mk #[]),.slice none 0 0,.slice none 0 0] fun h14 =>
 f1 r (fun h15 =>
 Zc6 (σ:=Unit) (fun J16 s17 h18 =>
 Zb4 (σ:=Unit) (fun s43 h44 =>
 Zb4 (σ:=Unit) (fun s62 h63 =>
 f21 r (some ⟨b12,0,none⟩) (IntKind.wrap .i64 (deep+1)) (fun h64 =>
 J16 (()) h64) P h63) (fun J45 =>
 ldL h44 b12 (0+2) fun t46 =>
 ZD (decide ((t46.len:Int)>0)) (
 Zb4 (σ:=Unit) (fun s54 h55 =>
 Ze r fun b56 o57 =>
 ldI h55 b56 (o57+1) .i64 fun t58 =>
 Ze r fun b59 o60 =>
 st h55 b59 (o60+1) (.int .i64 (IntKind.wrap .i64 (t58+1))) fun h61 =>
 J45 (()) h61) (fun J47 =>
 f2 r (fun t48 h49 =>
 ZD (t48 !=44) (
 Ze r fun b50 o51 =>
 ldI h49 b50 (o51+1) .i64 fun t52 =>
 f3 r 20 t52 (fun h53 =>
 J47 (()) h53) P h49) (
 J47 (()) h49)) h44)) (
 J45 (()) h44))) (fun J19 =>
 ZkM (ρ:=Int × Unit) (fun K h=>f2 r (fun q h=>K (q,()) h) h) h18 fun r21 =>
 ZD (r21.1 !=end_) (
 J19 (()) h18) (
 Ze r fun b22 o23 =>
 ldI h18 b22 (o23+1) .i64 fun t24 =>
 Ze r fun b25 o26 =>
 ldS h18 b25 o26 fun t27 =>
 ZD (decide (t24≥(t27.size:Int))) (
 J19 (()) h18) (
 Ze r fun b28 o29 =>
 ldI h18 b28 (o29+1) .i64 fun t30 =>
 Ze r fun b31 o32 =>
 st h18 b31 (o32+1) (.int .i64 (IntKind.wrap .i64 (t30+1))) fun h33 =>
 ldI h33 b12 0 .u8 fun t34=>ldS h33 b12 (0+1) fun t35=>ldL h33 b12 (0+2) fun t36=>ldL h33 b12 (0+3) fun t37 =>
 sts h33 b 0 [.int .u8 t34,.string t35,.slice t36.ptr t36.len t36.cap,.slice t37.ptr t37.len t37.cap] fun h38 =>
 ldI h38 b 0 .u8 fun t39=>ldS h38 b (0+1) fun t40=>ldL h38 b (0+2) fun t41=>ldL h38 b (0+3) fun t42=>K (t39,t40,t41,t42,()) h38)))) (()) h15) h14) (fun J2 =>
 ZD (decide (deep≥64)) (
 Ze r fun b3 o =>
 ldI h1 b3 (o+1) .i64 fun t =>
 f3 r 23 t (fun h4 =>
 J2 (()) h4) P h1) (
 J2 (()) h1))
def ZW (f20:Zg2):Zqk:=Y9 Zf Zv Zi (YJ f20)
abbrev Zqj:=(Option Addr)→ByteArray→Int→((Int × ByteArray × Sl × Sl × Unit)→HP)→(Value→HP)→HP
def X9 (f2:zT2) (f3:zT3) (r:Option Addr) (w:ByteArray) (k:Int) (K:(Int × ByteArray × Sl × Sl × Unit)→HP) (P:Value→HP) (h:Zc):Prop :=
 newC h [.int .u8 0,.string (ByteArray.mk #[]),.slice none 0 0,.slice none 0 0] 33 fun b h1 =>
 Zc6 (σ:=Int × Unit) (fun J2 s h3 =>
 (fun (s10:Int) =>
 ZD (decide (s10<(w.size:Int))) (
 ZA s10 fun i =>
 Zb4 (σ:=Unit) (fun s20 h21 =>
 Ze r fun b22 o23 =>
 ldI h21 b22 (o23+1) .i64 fun t24 =>
 Ze r fun b25 o26 =>
 st h21 b25 (o26+1) (.int .i64 (IntKind.wrap .i64 (t24+1))) fun h27 =>
 J2 (IntKind.wrap .i64 (s10+1),()) h27) (fun J4 =>
 ZkM (ρ:=Int × Unit) (fun K h=>f2 r (fun q h=>K (q,()) h) h) h3 fun r5 =>
 Zmv w i fun t6 =>
 ZD (r5.1 !=t6) (
 Ze r fun b7 o =>
 ldI h3 b7 (o+1) .i64 fun t8 =>
 f3 r 20 t8 (fun h9 =>
 J4 (()) h9) P h3) (
 Ze r fun b10 o11 =>
 ldI h3 b10 (o11+1) .i64 fun t12 =>
 Ze r fun b13 o14 =>
 ldS h3 b13 o14 fun t15 =>
 ZD (decide (t12≥(t15.size:Int))) (
 Ze r fun b16 o17 =>
 ldI h3 b16 (o17+1) .i64 fun t18 =>
 f3 r 20 t18 (fun h19 =>
 J4 (()) h19) P h3) (
 J4 (()) h3)))) (
 sts h3 b 0 [.int .u8 k,.string (ByteArray.mk #[]),.slice none 0 0,.slice none 0 0] fun h28 =>
 ldI h28 b 0 .u8 fun t29=>ldS h28 b (0+1) fun t30=>ldL h28 b (0+2) fun t31=>ldL h28 b (0+3) fun t32=>K (t29,t30,t31,t32,()) h28)) s.1) (0,()) h1
def YL:Zqj:=X9 Zi Zf
abbrev Zqi:=(Option Addr)→(HP)→(Value→HP)→HP
def XC (f2:zT2) (f3:zT3) (r:Option Addr) (K:HP) (P:Value→HP) (h:Zc):Prop :=
 Zb4 (σ:=Unit) (fun s h9 =>
 f2 r (fun t10 h11 =>
 ZA t10 fun c12 =>
 Zc6 (σ:=Int × Unit) (fun J14 s15 h16 =>
 (fun (c13:Int) =>
 ZD (decide (c13≥48)) (
 ZD (decide (c13≤57)) (
 Ze r fun b17 o18 =>
 ldI h16 b17 (o18+1) .i64 fun t19 =>
 Ze r fun b20 o21 =>
 st h16 b20 (o21+1) (.int .i64 (IntKind.wrap .i64 (t19+1))) fun h22 =>
 f2 r (fun t23 h24 =>
 ZA t23 fun c25 =>
 J14 (c25,()) h24) h22) (
 K h16)) (
 K h16)) s15.1) (c12,()) h11) h9) (fun J1 =>
 f2 r (fun t h2 =>
 ZA t fun c =>
 ZD (decide (c<48)) (
 Ze r fun b o =>
 ldI h2 b (o+1) .i64 fun t3 =>
 f3 r 21 t3 (fun h4 =>
 J1 (()) h4) P h2) (
 ZD (decide (c>57)) (
 Ze r fun b5 o6 =>
 ldI h2 b5 (o6+1) .i64 fun t7 =>
 f3 r 21 t7 (fun h8 =>
 J1 (()) h8) P h2) (
 J1 (()) h2))) h)
def ZG:Zqi:=XC Zi Zf
abbrev Zqh:=(Option Addr)→((Int × ByteArray × Sl × Sl × Unit)→HP)→(Value→HP)→HP
def XA (f2:zT2) (f3:zT3) (f24:Zqi) (r:Option Addr) (K:(Int × ByteArray × Sl × Sl × Unit)→HP) (P:Value→HP) (h:Zc):Prop :=
 newC h [.int .u8 0,.string (ByteArray.mk #[]),.slice none 0 0,.slice none 0 0] 33 fun b h1 =>
 Ze r fun b2 o =>
 ldI h1 b2 (o+1) .i64 fun t =>
 ZA t fun from_ =>
 Zb4 (σ:=Unit) (fun s h12 =>
 Zb4 (σ:=Unit) (fun s29 h30 =>
 Zb4 (σ:=Unit) (fun s41 h42 =>
 Zb4 (σ:=Unit) (fun s95 h96 =>
 Ze r fun b97 o98 =>
 Ze r fun b99 o100 =>
 ldS h96 b97 o98 fun t101 =>
 ldI h96 b99 (o100+1) .i64 fun t102 =>
 ZiT t101 from_ t102 fun t103 =>
 sts h96 b 0 [.int .u8 4,.string t103,.slice none 0 0,.slice none 0 0] fun h104 =>
 ldI h104 b 0 .u8 fun t105=>ldS h104 b (0+1) fun t106=>ldL h104 b (0+2) fun t107=>ldL h104 b (0+3) fun t108=>K (t105,t106,t107,t108,()) h104) (fun J43 =>
 f2 r (fun t44 h45 =>
 ZA t44 fun c46 =>
 ZD (c46 ==101) (
 Ze r fun b47 o48 =>
 ldI h45 b47 (o48+1) .i64 fun t49 =>
 Ze r fun b50 o51 =>
 st h45 b50 (o51+1) (.int .i64 (IntKind.wrap .i64 (t49+1))) fun h52 =>
 f2 r (fun t53 h54 =>
 ZA t53 fun c55 =>
 ZD (c55 ==43) (
 Ze r fun b56 o57 =>
 ldI h54 b56 (o57+1) .i64 fun t58 =>
 Ze r fun b59 o60 =>
 st h54 b59 (o60+1) (.int .i64 (IntKind.wrap .i64 (t58+1))) fun h61 =>
 f24 r (fun h62 =>
 J43 (()) h62) P h61) (
 ZD (c55 ==45) (
 Ze r fun b63 o64 =>
 ldI h54 b63 (o64+1) .i64 fun t65 =>
 Ze r fun b66 o67 =>
 st h54 b66 (o67+1) (.int .i64 (IntKind.wrap .i64 (t65+1))) fun h68 =>
 f24 r (fun h69 =>
 J43 (()) h69) P h68) (
 f24 r (fun h70 =>
 J43 (()) h70) P h54))) h52) (
 ZD (c46 ==69) (
 Ze r fun b71 o72 =>
 ldI h45 b71 (o72+1) .i64 fun t73 =>
 Ze r fun b74 o75 =>
 st h45 b74 (o75+1) (.int .i64 (IntKind.wrap .i64 (t73+1))) fun h76 =>
 f2 r (fun t77 h78 =>
 ZA t77 fun c79 =>
 ZD (c79 ==43) (
 Ze r fun b80 o81 =>
 ldI h78 b80 (o81+1) .i64 fun t82 =>
 Ze r fun b83 o84 =>
 st h78 b83 (o84+1) (.int .i64 (IntKind.wrap .i64 (t82+1))) fun h85 =>
 f24 r (fun h86 =>
 J43 (()) h86) P h85) (
 ZD (c79 ==45) (
 Ze r fun b87 o88 =>
 ldI h78 b87 (o88+1) .i64 fun t89 =>
 Ze r fun b90 o91 =>
 st h78 b90 (o91+1) (.int .i64 (IntKind.wrap .i64 (t89+1))) fun h92 =>
 f24 r (fun h93 =>
 J43 (()) h93) P h92) (
 f24 r (fun h94 =>
 J43 (()) h94) P h78))) h76) (
 J43 (()) h45))) h42)) (fun J31 =>
 f2 r (fun t32 h33 =>
 ZD (t32 ==46) (
 Ze r fun b34 o35 =>
 ldI h33 b34 (o35+1) .i64 fun t36 =>
 Ze r fun b37 o38 =>
 st h33 b37 (o38+1) (.int .i64 (IntKind.wrap .i64 (t36+1))) fun h39 =>
 f24 r (fun h40 =>
 J31 (()) h40) P h39) (
 J31 (()) h33)) h30)) (fun J13 =>
 f2 r (fun t14 h15 =>
 ZD (t14 ==48) (
 Ze r fun b16 o17 =>
 ldI h15 b16 (o17+1) .i64 fun t18 =>
 Ze r fun b19 o20 =>
 st h15 b19 (o20+1) (.int .i64 (IntKind.wrap .i64 (t18+1))) fun h21 =>
 f2 r (fun t22 h23 =>
 ZA t22 fun c =>
 ZD (decide (c≥48)) (
 ZD (decide (c≤57)) (
 Ze r fun b24 o25 =>
 ldI h23 b24 (o25+1) .i64 fun t26 =>
 f3 r 21 t26 (fun h27 =>
 J13 (()) h27) P h23) (
 J13 (()) h23)) (
 J13 (()) h23)) h21) (
 f24 r (fun h28 =>
 J13 (()) h28) P h15)) h12)) (fun J3 =>
 f2 r (fun t4 h5 =>
 ZD (t4 ==45) (
 Ze r fun b6 o7 =>
 ldI h5 b6 (o7+1) .i64 fun t8 =>
 Ze r fun b9 o10 =>
 st h5 b9 (o10+1) (.int .i64 (IntKind.wrap .i64 (t8+1))) fun h11 =>
 J3 (()) h11) (
 J3 (()) h5)) h1)
def Yg:Zqh:=XA Zi Zf ZG
def XR (f1:zT1) (f2:zT2) (f3:zT3) (f22:Zqk) (f19:Zor) (f23:Zqj) (f25:Zqh) (r:Option Addr) (deep:Int) (K:(Int × ByteArray × Sl × Sl × Unit)→HP) (P:Value→HP) (h:Zc):Prop :=
 newC h [.int .u8 0,.string (ByteArray.mk #[]),.slice none 0 0,.slice none 0 0] 33 fun b h1 =>
 f1 r (fun h2 =>
 Zb4 (σ:=Unit) (fun s h78 =>
 Ze r fun b79 o80 =>
 ldI h78 b79 (o80+1) .i64 fun t81 =>
 f3 r 20 t81 (fun h82 =>
 sts h82 b 0 [.int .u8 0,.string (ByteArray.mk #[]),.slice none 0 0,.slice none 0 0] fun h83 =>
 ldI h83 b 0 .u8 fun t84=>ldS h83 b (0+1) fun t85=>ldL h83 b (0+2) fun t86=>ldL h83 b (0+3) fun t87=>K (t84,t85,t86,t87,()) h83) P h78) (fun J3 =>
 f2 r (fun t h4 =>
 ZA t fun c =>
 Ze r fun b5 o =>
 ldI h4 b5 (o+1) .i64 fun t6 =>
 Ze r fun b7 o8 =>
 ldS h4 b7 o8 fun t9 =>
 ZK (decide (t6≥(t9.size:Int))) fun t10 =>
 ZD t10 (
 Ze r fun b11 o12 =>
 ldI h4 b11 (o12+1) .i64 fun t13 =>
 f3 r 24 t13 (fun h14 =>
 J3 (()) h14) P h4) (
 ZK (c ==123) fun t15 =>
 ZD t15 (
 f22 r 7 125 deep (fun t16 h17 =>
 sts h17 b 0 [.int .u8 t16.1,.string t16.2.1,.slice t16.2.2.1.ptr t16.2.2.1.len t16.2.2.1.cap,.slice t16.2.2.2.1.ptr t16.2.2.2.1.len t16.2.2.2.1.cap] fun h18 =>
 ldI h18 b 0 .u8 fun t19=>ldS h18 b (0+1) fun t20=>ldL h18 b (0+2) fun t21=>ldL h18 b (0+3) fun t22=>K (t19,t20,t21,t22,()) h18) P h4) (
 ZK (c ==91) fun t23 =>
 ZD t23 (
 f22 r 6 93 deep (fun t24 h25 =>
 sts h25 b 0 [.int .u8 t24.1,.string t24.2.1,.slice t24.2.2.1.ptr t24.2.2.1.len t24.2.2.1.cap,.slice t24.2.2.2.1.ptr t24.2.2.2.1.len t24.2.2.2.1.cap] fun h26 =>
 ldI h26 b 0 .u8 fun t27=>ldS h26 b (0+1) fun t28=>ldL h26 b (0+2) fun t29=>ldL h26 b (0+3) fun t30=>K (t27,t28,t29,t30,()) h26) P h4) (
 ZK (c ==34) fun t31 =>
 ZD t31 (
 f19 r (fun t32 h33 =>
 sts h33 b 0 [.int .u8 5,.string t32,.slice none 0 0,.slice none 0 0] fun h34 =>
 ldI h34 b 0 .u8 fun t35=>ldS h34 b (0+1) fun t36=>ldL h34 b (0+2) fun t37=>ldL h34 b (0+3) fun t38=>K (t35,t36,t37,t38,()) h34) P h4) (
 ZK (c ==110) fun t39 =>
 ZD t39 (
 f23 r (ByteArray.mk #[110,117,108,108]) 1 (fun t40 h41 =>
 sts h41 b 0 [.int .u8 t40.1,.string t40.2.1,.slice t40.2.2.1.ptr t40.2.2.1.len t40.2.2.1.cap,.slice t40.2.2.2.1.ptr t40.2.2.2.1.len t40.2.2.2.1.cap] fun h42 =>
 ldI h42 b 0 .u8 fun t43=>ldS h42 b (0+1) fun t44=>ldL h42 b (0+2) fun t45=>ldL h42 b (0+3) fun t46=>K (t43,t44,t45,t46,()) h42) P h4) (
 ZK (c ==102) fun t47 =>
 ZD t47 (
 f23 r (ByteArray.mk #[102,97,108,115,101]) 2 (fun t48 h49 =>
 sts h49 b 0 [.int .u8 t48.1,.string t48.2.1,.slice t48.2.2.1.ptr t48.2.2.1.len t48.2.2.1.cap,.slice t48.2.2.2.1.ptr t48.2.2.2.1.len t48.2.2.2.1.cap] fun h50 =>
 ldI h50 b 0 .u8 fun t51=>ldS h50 b (0+1) fun t52=>ldL h50 b (0+2) fun t53=>ldL h50 b (0+3) fun t54=>K (t51,t52,t53,t54,()) h50) P h4) (
 ZK (c ==116) fun t55 =>
 ZD t55 (
 f23 r (ByteArray.mk #[116,114,117,101]) 3 (fun t56 h57 =>
 sts h57 b 0 [.int .u8 t56.1,.string t56.2.1,.slice t56.2.2.1.ptr t56.2.2.1.len t56.2.2.1.cap,.slice t56.2.2.2.1.ptr t56.2.2.2.1.len t56.2.2.2.1.cap] fun h58 =>
 ldI h58 b 0 .u8 fun t59=>ldS h58 b (0+1) fun t60=>ldL h58 b (0+2) fun t61=>ldL h58 b (0+3) fun t62=>K (t59,t60,t61,t62,()) h58) P h4) (
 ZD (c ==45) (
 f25 r (fun t63 h64 =>
 sts h64 b 0 [.int .u8 t63.1,.string t63.2.1,.slice t63.2.2.1.ptr t63.2.2.1.len t63.2.2.1.cap,.slice t63.2.2.2.1.ptr t63.2.2.2.1.len t63.2.2.2.1.cap] fun h65 =>
 ldI h65 b 0 .u8 fun t66=>ldS h65 b (0+1) fun t67=>ldL h65 b (0+2) fun t68=>ldL h65 b (0+3) fun t69=>K (t66,t67,t68,t69,()) h65) P h4) (
 ZD (decide (c≥48)) (
 ZK (decide (c≤57)) fun t70 =>
 ZD t70 (
 f25 r (fun t71 h72 =>
 sts h72 b 0 [.int .u8 t71.1,.string t71.2.1,.slice t71.2.2.1.ptr t71.2.2.1.len t71.2.2.1.cap,.slice t71.2.2.2.1.ptr t71.2.2.2.1.len t71.2.2.2.1.cap] fun h73 =>
 ldI h73 b 0 .u8 fun t74=>ldS h73 b (0+1) fun t75=>ldL h73 b (0+2) fun t76=>ldL h73 b (0+3) fun t77=>K (t74,t75,t76,t77,()) h73) P h4) (
 J3 (()) h4)) (
 J3 (()) h4)))))))))) h2)) h1
def Y4 (f20:Zg2):Zg2:=XR Zv Zi Zf (ZW f20) Z9 YL Yg
def Z7:Nat→Zg2
 | 0=>fun _ _ _ _ _=>False
 | n+1=>Y4 (Z7 n)
def Y7:Zg2:=fun r deep K P h=>∃ n,Z7 n r deep K P h
abbrev zV:List Value:=[.int .u8 0,.string (ByteArray.mk #[]),.slice none 0 0,.slice none 0 0]
def Zrh (b2 b3 b4:Nat) (e n:Int) (E:HP) (h:Zc):Prop :=
 Zep (.iface 160 (.agg #[.int .i64 e,.int .i64 n])) fun b=>ZD b (E h) (ZD true (
 newC h [.int .i64 0,.int .i64 0] 160 fun b1 h2=>sts h2 b1 0 [.int .i64 e,.int .i64 n] fun h3 =>
 ldI h3 b1 0 .i64 fun t=>ldI h3 b1 (0+1) .i64 fun t4 =>
 Ze (some ⟨b2,0,none⟩) fun b5 o=>sts h3 b5 o zV fun h6=>ZbA (Zdr h6 [(b1,0+1,.int .i64 t4)]) <| ZbA (Zdr h6 [(b1,0,.int .i64 t)]) <|
 Ze (some ⟨b3,0,none⟩) fun b7 o8=>st h6 b7 o8 (.int .i64 t) fun h9=>ZbA (Zdr h9 [(b1,0+1,.int .i64 t4)]) <|
 Ze (some ⟨b4,0,none⟩) fun b10 o11=>st h9 b10 o11 (.int .i64 t4) fun h12=>E h12) False)
def ZcY (b b2 b4:Nat) (K:(Int × ByteArray × Sl × Sl × Unit)→Int→Int→HP) (h:Zc):Prop :=
 ldI h b 0 .u8 fun t=>ldS h b (0+1) fun t9=>ldL h b (0+2) fun t10=>ldL h b (0+3) fun t11=>ldI h b2 0 .i64 fun t12=>ldI h b4 0 .i64 fun t13=>K (t,t9,t10,t11,()) t12 t13 h
def XK (b b2 b4:Nat) (K:(Int × ByteArray × Sl × Sl × Unit)→Int→Int→HP) (v:Value) (h:Zc):Prop :=
 ∃ e n,v = .iface 160 (.agg #[.int .i64 e,.int .i64 n])∧Zrh b b2 b4 e n (ZcY b b2 b4 K) h
def Zdo (b b2 b4:Nat) (K:(Int × ByteArray × Sl × Sl × Unit)→Int→Int→HP) (h:Zc):Prop :=
 ldI h b 0 .u8 fun t36=>ldS h b (0+1) fun t37=>ldL h b (0+2) fun t38=>ldL h b (0+3) fun t39 =>
 sts h b 0 [.int .u8 t36,.string t37,.slice t38.ptr t38.len t38.cap,.slice t39.ptr t39.len t39.cap] fun h40 =>
 st h40 b2 0 (.int .i64 0) fun h41=>st h41 b4 0 (.int .i64 0) fun h42=>ZcY b b2 b4 K h42
def Yh (s:ByteArray) (K:(Int × ByteArray × Sl × Sl × Unit)→Int→Int→HP) (h:Zc):Prop :=
 newC h zV 33 fun b h1=>newC h1 [.int .i64 0] 37 fun b2 h3=>newC h3 [.int .i64 0] 3 fun b4 h5 =>
 ZD (decide ((s.size:Int)>65536)) (
 sts h5 b 0 zV fun h6=>st h6 b2 0 (.int .i64 5) fun h7=>st h7 b4 0 (.int .i64 65536) fun h8=>ZcY b b2 b4 K h8) (
 newC h5 [.string s,.int .i64 0] 163 fun b14 h15 =>
 Y7 (some ⟨b14,0,none⟩) 0 (fun t16 h17 =>
 sts h17 b 0 [.int .u8 t16.1,.string t16.2.1,.slice t16.2.2.1.ptr t16.2.2.1.len t16.2.2.1.cap,.slice t16.2.2.2.1.ptr t16.2.2.2.1.len t16.2.2.2.1.cap] fun h18 =>
 Zv (some ⟨b14,0,none⟩) (fun h19 =>
 ldI h19 b14 (0+1) .i64 fun t20=>ZD (decide (t20<(s.size:Int))) (
 ldI h19 b14 (0+1) .i64 fun t21=>Zf (some ⟨b14,0,none⟩) 25 t21 (Zdo b b2 b4 K) (XK b b2 b4 K) h19) (Zdo b b2 b4 K h19)) h18) (XK b b2 b4 K) h15)
abbrev Znf:=ByteArray→((Int × ByteArray × Sl × Sl × Unit)→Int→Int→HP)→HP
abbrev Zqg:=ByteArray→(Bool→HP)→HP
def Za6 (f26:Znf) (s:ByteArray) (K:Bool→HP) (h:Zc):Prop :=
 f26 s (fun t t1 t2 h3 =>
 newC h3 [.int .u8 0,.string (ByteArray.mk #[]),.slice none 0 0,.slice none 0 0] 33 fun b h4 =>
 sts h4 b 0 [.int .u8 t.1,.string t.2.1,.slice t.2.2.1.ptr t.2.2.1.len t.2.2.1.cap,.slice t.2.2.2.1.ptr t.2.2.2.1.len t.2.2.2.1.cap] fun h5 =>
 ZA t1 fun e =>
 ZA t2 fun x =>
 ZD (e ==0) (
 ldI h5 b 0 .u8 fun t6 =>
 ZD (t6 ==4) (
 ldS h5 b (0+1) fun t7 =>
 ZK (Zbd t7 s) fun t8 =>
 K t8 h5) (
 K false h5)) (
 K false h5)) h
def Xl:Zqg:=Za6 Yh
abbrev Zqf:=ByteArray→(Bool→HP)→HP
def Zbq (f15:Zlj) (s:ByteArray) (K:Bool→HP) (h:Zc):Prop :=
 f15 s (fun t h1 =>
 ZK (!t) fun t2 =>
 K t2 h1) h
def Zau:Zqf:=Zbq Zw
abbrev Zqe:=Sl→(Int→HP)→HP
def ZF (f48:Zqf) (s:Sl) (K:Int→HP) (h:Zc):Prop :=
 ZA 0 fun t =>
 Zc6 (σ:=Int × Unit) (fun J1 s2 h3 =>
 (fun (s8:Int) =>
 ZD (decide (s8<(s.len:Int))) (
 ZA s8 fun i =>
 ZiN s.ptr s.len i 1 fun b o =>
 ldS h3 b o fun t4 =>
 f48 t4 (fun t5 h6 =>
 ZD t5 (
 ZA i fun t7 =>
 K t7 h6) (
 J1 (IntKind.wrap .i64 (s8+1),()) h6)) h3) (
 ZA (-1) fun t8 =>
 K t8 h3)) s2.1) (0,()) h
def ZB:Zqe:=ZF Zau
abbrev Zqd:=Sl→(Bool→HP)→HP
def ZE (f49:Zqe) (s:Sl) (K:Bool→HP) (h:Zc):Prop :=
 f49 s (fun t h1 =>
 ZK (decide (t≥0)) fun t2 =>
 K t2 h1) h
def Zr:Zqd:=ZE ZB
abbrev Zqc:=(Int × ByteArray × Sl × Sl × Unit)→(Bool→HP)→HP
def ZcE (f47:Zqg) (f15:Zlj) (f50:Zqd) (v:Int × ByteArray × Sl × Sl × Unit) (K:Bool→HP) (h:Zc):Prop :=
 newC h [.int .u8 v.1,.string v.2.1,.slice v.2.2.1.ptr v.2.2.1.len v.2.2.1.cap,.slice v.2.2.2.1.ptr v.2.2.2.1.len v.2.2.2.1.cap] 33 fun b h1 =>
 ldS h1 b (0+1) fun t =>
 ldL h1 b (0+2) fun t2 =>
 ldL h1 b (0+3) fun t3 =>
 ZK (!(Zbd t (ByteArray.mk #[]))) fun text =>
 ZK (decide ((t2.len:Int)>0)) fun list =>
 ZK (decide ((t3.len:Int)>0)) fun names =>
 ldI h1 b 0 .u8 fun t4 =>
 Zb4 (σ:=Bool × Unit) (fun s h9 =>
 (fun (s19:Bool) =>
 ZD s19 (
 ZD (!text) (
 ZD (!list) (
 ZK (!names) fun t10 =>
 K t10 h9) (
 K false h9)) (
 K false h9)) (
 ZK (t4 ==4) fun t11 =>
 ZD t11 (
 ldS h9 b (0+1) fun t12 =>
 f47 t12 (fun t13 h14 =>
 ZD t13 (
 ZD (!list) (
 ZK (!names) fun t15 =>
 K t15 h14) (
 K false h14)) (
 K false h14)) h9) (
 ZK (t4 ==5) fun t16 =>
 ZD t16 (
 ldS h9 b (0+1) fun t17 =>
 f15 t17 (fun t18 h19 =>
 ZD t18 (
 ZD (!list) (
 ZK (!names) fun t20 =>
 K t20 h19) (
 K false h19)) (
 K false h19)) h9) (
 ZK (t4 ==6) fun t21 =>
 ZD t21 (
 ZD (!text) (
 ZK (!names) fun t22 =>
 K t22 h9) (
 K false h9)) (
 ZK (t4 ==7) fun t23 =>
 ZD t23 (
 ZD (!text) (
 ldL h9 b (0+3) fun t24 =>
 ldL h9 b (0+2) fun t25 =>
 ZD ((t24.len:Int) ==(t25.len:Int)) (
 ldL h9 b (0+3) fun t26 =>
 f50 t26 (fun t27 h28 =>
 ZK (!t27) fun t29 =>
 K t29 h28) h9) (
 K false h9)) (
 K false h9)) (
 K false h9)))))) s.1) (fun J5 =>
 ZK (t4 ==1) fun t6 =>
 ZD t6 (
 J5 (t6,()) h1) (
 ZK (t4 ==2) fun t7 =>
 ZD t7 (
 J5 (t7,()) h1) (
 ZK (t4 ==3) fun t8 =>
 J5 (t8,()) h1)))
def Zay:Zqc:=ZcE Xl Zw Zr
abbrev Zqb:=(Int × ByteArray × Sl × Sl × Unit)→(Bool→HP)→HP
def Zbr (a0:Int × ByteArray × Sl × Sl × Unit) (K:Bool→HP) (h:Zc):Prop :=
 newC h [.int .u8 a0.1,.string a0.2.1,.slice a0.2.2.1.ptr a0.2.2.1.len a0.2.2.1.cap,.slice a0.2.2.2.1.ptr a0.2.2.2.1.len a0.2.2.2.1.cap] 33 fun b h1 =>
 K true h1
def Zav:Zqb:=Zbr
abbrev ZeQ:=(Option Addr)→(Int × ByteArray × Sl × Sl × Unit)→Int→Value→(Bool→HP)→HP
abbrev Zqa:=(Int × ByteArray × Sl × Sl × Unit)→(Option Addr)→(Option Addr)→(Option Addr)→(Bool→HP)→HP
def XT (f53:ZeQ) (p:Int × ByteArray × Sl × Sl × Unit) (a1:Option Addr) (a2:Option Addr) (a3:Option Addr) (K:Bool→HP) (h:Zc):Prop :=
 newC h [.int .u8 p.1,.string p.2.1,.slice p.2.2.1.ptr p.2.2.1.len p.2.2.1.cap,.slice p.2.2.2.1.ptr p.2.2.2.1.len p.2.2.2.1.cap] 33 fun b h1 =>
 Ze a1 fun b2 o=>ldP h1 b2 o fun t =>
 ldI h1 b 0 .u8 fun t3=>ldS h1 b (0+1) fun t4=>ldL h1 b (0+2) fun t5=>ldL h1 b (0+3) fun t6 =>
 Ze a2 fun b7 o8=>ldI h1 b7 o8 .i64 fun t9 =>
 Ze a3 fun b10 o11=>ldV h1 b10 o11 fun t12 =>
 f53 t (t3,t4,t5,t6,()) (IntKind.wrap .i64 (t9+1)) t12 (fun t13 h14 =>
 ZK (!t13) fun t15 =>
 K t15 h14) h1
def Y5 (f53:ZeQ):Zqa:=XT f53
abbrev Zp9:=Sl→(Option Addr × Option Addr × Option Addr × Unit)→(Int→HP)→HP
def ZC (f54:Zqa) (s:Sl) (f:Option Addr × Option Addr × Option Addr × Unit) (K:Int→HP) (h:Zc):Prop :=
 ZA 0 fun t =>
 Zc6 (σ:=Int × Unit) (fun J1 s2 h3 =>
 (fun (s8:Int) =>
 ZD (decide (s8<(s.len:Int))) (
 ZA s8 fun i =>
 ZiN s.ptr s.len i 4 fun b o =>
 ldI h3 b o .u8 fun t4=>ldS h3 b (o+1) fun t5=>ldL h3 b (o+2) fun t6=>ldL h3 b (o+3) fun t7 =>
 f54 (t4,t5,t6,t7,()) f.1 f.2.1 f.2.2.1 (fun t8 h9 =>
 ZD t8 (
 ZA i fun t10 =>
 K t10 h9) (
 J1 (IntKind.wrap .i64 (s8+1),()) h9)) h3) (
 ZA (-1) fun t11 =>
 K t11 h3)) s2.1) (0,()) h
def Zs (f53:ZeQ):Zp9:=ZC (Y5 f53)
abbrev Zp8:=Sl→(Option Addr × Option Addr × Option Addr × Unit)→(Bool→HP)→HP
def Zy (f55:Zp9) (s:Sl) (f:Option Addr × Option Addr × Option Addr × Unit) (K:Bool→HP) (h:Zc):Prop :=
 f55 s (f.1,f.2.1,f.2.2.1,()) (fun t h1 =>
 ZK (decide (t≥0)) fun t2 =>
 K t2 h1) h
def Zj (f53:ZeQ):Zp8:=Zy (Zs f53)
def Zao (f51:Zqc) (f52:Zqb) (f56:Zp8) (c:Option Addr) (v:Int × ByteArray × Sl × Sl × Unit) (deep:Int) (right:Value) (K:Bool→HP) (h:Zc):Prop :=
 newC h [.pointer c] 155 fun b h1 =>
 newC h1 [.int .u8 v.1,.string v.2.1,.slice v.2.2.1.ptr v.2.2.1.len v.2.2.1.cap,.slice v.2.2.2.1.ptr v.2.2.2.1.len v.2.2.2.1.cap] 33 fun b2 h3 =>
 newC h3 [.int .i64 deep] 3 fun b4 h5 =>
 ZbA (ZV right=true) <| newC h5 [right] 45 fun b6 h7 =>
 ldP h7 b 0 fun t =>
 Ze t fun b8 o =>
 ldI h7 b8 o .i64 fun t9 =>
 Ze t fun b10 o11 =>
 st h7 b10 o11 (.int .i64 (IntKind.wrap .i64 (t9+1))) fun h12 =>
 ldP h12 b 0 fun t13 =>
 Ze t13 fun b14 o15 =>
 ldI h12 b14 o15 .i64 fun t16 =>
 ZD (decide (t16>65536)) (
 K false h12) (
 ldV h12 b6 0 fun t17 =>
 ldI h12 b2 0 .u8 fun t18=>ldS h12 b2 (0+1) fun t19=>ldL h12 b2 (0+2) fun t20=>ldL h12 b2 (0+3) fun t21 =>
 (Zsh t17 94 <| f51 (t18,t19,t20,t21,()) (fun t24 h22 =>
 ZD (!t24) (
 K false h22) (
 Zb4 (σ:=Unit) (fun s h29 =>
 ldP h29 b 0 fun t30 =>
 ldP h29 b 0 fun t31 =>
 Ze t31 fun b32 o33 =>
 ldI h29 b32 (o33+1) .i64 fun t34 =>
 ldI h29 b4 0 .i64 fun t35 =>
 Ze t30 fun b36 o37 =>
 st h29 b36 (o37+1) (.int .i64 (ZoF t34 (IntKind.wrap .i64 (t35+1)))) fun h38 =>
 ldI h38 b4 0 .i64 fun t39 =>
 ZD (decide (t39≥64)) (
 K true h38) (
 ldL h38 b2 (0+2) fun t40 =>
 f56 t40 (some ⟨b,0,none⟩,some ⟨b4,0,none⟩,some ⟨b6,0,none⟩,()) (fun t41 h42 =>
 ZK (!t41) fun t43 =>
 K t43 h42) h38)) (fun J26 =>
 ldI h22 b2 0 .u8 fun t27 =>
 ZD (t27 !=6) (
 ldI h22 b2 0 .u8 fun t28 =>
 ZD (t28 !=7) (
 K true h22) (
 J26 (()) h22)) (
 J26 (()) h22)))) h12)∨(
 (Zsh t17 119 <| f52 (t18,t19,t20,t21,()) (fun t24 h22 =>
 ZD (!t24) (
 K false h22) (
 Zb4 (σ:=Unit) (fun s h29 =>
 ldP h29 b 0 fun t30 =>
 ldP h29 b 0 fun t31 =>
 Ze t31 fun b32 o33 =>
 ldI h29 b32 (o33+1) .i64 fun t34 =>
 ldI h29 b4 0 .i64 fun t35 =>
 Ze t30 fun b36 o37 =>
 st h29 b36 (o37+1) (.int .i64 (ZoF t34 (IntKind.wrap .i64 (t35+1)))) fun h38 =>
 ldI h38 b4 0 .i64 fun t39 =>
 ZD (decide (t39≥64)) (
 K true h38) (
 ldL h38 b2 (0+2) fun t40 =>
 f56 t40 (some ⟨b,0,none⟩,some ⟨b4,0,none⟩,some ⟨b6,0,none⟩,()) (fun t41 h42 =>
 ZK (!t41) fun t43 =>
 K t43 h42) h38)) (fun J26 =>
 ldI h22 b2 0 .u8 fun t27 =>
 ZD (t27 !=6) (
 ldI h22 b2 0 .u8 fun t28 =>
 ZD (t28 !=7) (
 K true h22) (
 J26 (()) h22)) (
 J26 (()) h22)))) h12)∨(
 False)))
def Xt (f53:ZeQ):ZeQ:=Zao Zay Zav (Zj f53)
def Yj:Nat→ZeQ
 | 0=>fun _ _ _ _ _ _=>False
 | n+1=>Xt (Yj n)
def YZ:ZeQ:=fun c v deep right K h=>∃ n,Yj n c v deep right K h
abbrev Zoq:=(Int × ByteArray × Sl × Sl × Unit)→(Bool→HP)→HP
def ZcH (f53:ZeQ) (v:Int × ByteArray × Sl × Sl × Unit) (K:Bool→HP) (h:Zc):Prop :=
 newC h [.int .u8 v.1,.string v.2.1,.slice v.2.2.1.ptr v.2.2.1.len v.2.2.1.cap,.slice v.2.2.2.1.ptr v.2.2.2.1.len v.2.2.2.1.cap] 33 fun b h1 =>
 newC h1 [.int .i64 0,.int .i64 0] 157 fun b2 h3 =>
 ldI h3 b 0 .u8 fun t=>ldS h3 b (0+1) fun t4=>ldL h3 b (0+2) fun t5=>ldL h3 b (0+3) fun t6 =>
 f53 (some ⟨b2,0,none⟩) (t,t4,t5,t6,()) 0 (.func (.func 94) #[] #[]) (fun t7 h8 =>
 ZD t7 (
 ldI h8 b2 (0+1) .i64 fun t9 =>
 ZK (decide (t9≤64)) fun t10 =>
 K t10 h8) (
 K false h8)) h3
def Xn:Zoq:=ZcH YZ
abbrev Zop:=(Option Addr)→(Int→HP)→HP
def Xo (b:Option Addr) (K:Int→HP) (h:Zc):Prop :=
 ZA 0 fun t =>
 Ze b fun b1 o =>
 ldL h b1 (o+1) fun t2 =>
 ZA (t2.len:Int) fun t3 =>
 K t3 h
def ZZ:Zop:=Xo
abbrev Zp7:=(Option Addr)→ByteArray→(HP)→HP
def X8 (f6:zT6) (f0:zT0) (f17:Zln) (w:Option Addr) (s:ByteArray) (K:HP) (h:Zc):Prop :=
 Ze w fun b o =>
 f6 (some ⟨b,o,none⟩) 34 (fun t h1 =>
 Zc6 (σ:=Int × Unit) (fun J2 s3 h4 =>
 (fun (s13:Int) =>
 ZD (decide (s13<(s.size:Int))) (
 ZA s13 fun i =>
 Zmv s i fun t5 =>
 ZA t5 fun c =>
 f0 (ByteArray.mk #[8,12,10,13,9]) c (fun t6 h7 =>
 ZA t6 fun k =>
 Zb4 (σ:=Bool × Unit) (fun s10 h11 =>
 (fun (s26:Bool) =>
 ZD s26 (
 Ze w fun b12 o13 =>
 f6 (some ⟨b12,o13,none⟩) 92 (fun t14 h15 =>
 Ze w fun b16 o17 =>
 f6 (some ⟨b16,o17,none⟩) c (fun t18 h19 =>
 J2 (IntKind.wrap .i64 (s13+1),()) h19) h15) h11) (
 ZK (decide (k≥0)) fun t20 =>
 ZD t20 (
 Ze w fun b21 o22 =>
 f6 (some ⟨b21,o22,none⟩) 92 (fun t23 h24 =>
 Ze w fun b25 o26 =>
 Zmv (ByteArray.mk #[98,102,110,114,116]) k fun t27 =>
 f6 (some ⟨b25,o26,none⟩) t27 (fun t28 h29 =>
 J2 (IntKind.wrap .i64 (s13+1),()) h29) h24) h11) (
 ZK (decide (c<32)) fun t30 =>
 ZD t30 (
 Ze w fun b31 o32 =>
 f17 (some ⟨b31,o32,none⟩) (ByteArray.mk #[92,117,48,48]) (fun t33 t34 h35 =>
 Ze w fun b36 o37 =>
 ZbA (0≤(4:Int)) <|
 Zmv (ByteArray.mk #[48,49,50,51,52,53,54,55,56,57,97,98,99,100,101,102]) (ZkA .u8 c 4) fun t38 =>
 f6 (some ⟨b36,o37,none⟩) t38 (fun t39 h40 =>
 Ze w fun b41 o42 =>
 Zmv (ByteArray.mk #[48,49,50,51,52,53,54,55,56,57,97,98,99,100,101,102]) (Zkp .u8 c 15) fun t43 =>
 f6 (some ⟨b41,o42,none⟩) t43 (fun t44 h45 =>
 J2 (IntKind.wrap .i64 (s13+1),()) h45) h40) h35) h11) (
 Ze w fun b46 o47 =>
 f6 (some ⟨b46,o47,none⟩) c (fun t48 h49 =>
 J2 (IntKind.wrap .i64 (s13+1),()) h49) h11)))) s10.1) (fun J8 =>
 ZD (c ==34) (
 J8 (true,()) h7) (
 ZK (c ==92) fun t9 =>
 J8 (t9,()) h7))) h4) (
 Ze w fun b50 o51 =>
 f6 (some ⟨b50,o51,none⟩) 34 (fun t52 h53 =>
 K h53) h4)) s3.1) (0,()) h1) h
def YK:Zp7:=X8 Zl ZX Zk
abbrev Zjz:=(Option Addr)→(Int × ByteArray × Sl × Sl × Unit)→(HP)→HP
def XQ (f58:Zop) (f17:Zln) (f59:Zp7) (f6:zT6) (f60:Zjz) (w:Option Addr) (v:Int × ByteArray × Sl × Sl × Unit) (K:HP) (h:Zc):Prop :=
 newC h [.int .u8 v.1,.string v.2.1,.slice v.2.2.1.ptr v.2.2.1.len v.2.2.1.cap,.slice v.2.2.2.1.ptr v.2.2.2.1.len v.2.2.2.1.cap] 33 fun b h1 =>
 Ze w fun b2 o =>
 f58 (some ⟨b2,o,none⟩) (fun t h3 =>
 ZD (decide (t>65536)) (
 K h3) (
 ldI h3 b 0 .u8 fun t4 =>
 ZK (t4 ==1) fun t5 =>
 ZD t5 (
 Ze w fun b6 o7 =>
 f17 (some ⟨b6,o7,none⟩) (ByteArray.mk #[110,117,108,108]) (fun t8 t9 h10 =>
 K h10) h3) (
 ZK (t4 ==2) fun t11 =>
 ZD t11 (
 Ze w fun b12 o13 =>
 f17 (some ⟨b12,o13,none⟩) (ByteArray.mk #[102,97,108,115,101]) (fun t14 t15 h16 =>
 K h16) h3) (
 ZK (t4 ==3) fun t17 =>
 ZD t17 (
 Ze w fun b18 o19 =>
 f17 (some ⟨b18,o19,none⟩) (ByteArray.mk #[116,114,117,101]) (fun t20 t21 h22 =>
 K h22) h3) (
 ZK (t4 ==4) fun t23 =>
 ZD t23 (
 Ze w fun b24 o25 =>
 ldS h3 b (0+1) fun t26 =>
 f17 (some ⟨b24,o25,none⟩) t26 (fun t27 t28 h29 =>
 K h29) h3) (
 ZK (t4 ==5) fun t30 =>
 ZD t30 (
 ldS h3 b (0+1) fun t31 =>
 f59 w t31 (fun h32 =>
 K h32) h3) (
 Zb4 (σ:=ByteArray × Unit) (fun s h35 =>
 (fun (ends:ByteArray) =>
 Ze w fun b36 o37 =>
 Zmv ends 0 fun t38 =>
 f6 (some ⟨b36,o37,none⟩) t38 (fun t39 h40 =>
 ldL h40 b (0+2) fun t41 =>
 Zc6 (σ:=Int × Unit) (fun J42 s43 h44 =>
 (fun (s26:Int) =>
 ZD (decide (s26<(t41.len:Int))) (
 ZiN t41.ptr t41.len s26 4 fun b45 o46 =>
 ldI h44 b45 o46 .u8 fun t47=>ldS h44 b45 (o46+1) fun t48=>ldL h44 b45 (o46+2) fun t49=>ldL h44 b45 (o46+3) fun t50 =>
 newC h44 [.int .u8 0,.string (ByteArray.mk #[]),.slice none 0 0,.slice none 0 0] 33 fun b51 h52 =>
 ZA s26 fun i =>
 sts h52 b51 0 [.int .u8 t47,.string t48,.slice t49.ptr t49.len t49.cap,.slice t50.ptr t50.len t50.cap] fun h53 =>
 Zb4 (σ:=Unit) (fun s59 h60 =>
 Zb4 (σ:=Unit) (fun s72 h73 =>
 ldI h73 b51 0 .u8 fun t74=>ldS h73 b51 (0+1) fun t75=>ldL h73 b51 (0+2) fun t76=>ldL h73 b51 (0+3) fun t77 =>
 f60 w (t74,t75,t76,t77,()) (fun h78 =>
 J42 (IntKind.wrap .i64 (s26+1),()) h78) h73) (fun J61 =>
 ldI h60 b 0 .u8 fun t62 =>
 ZD (t62 ==7) (
 ldL h60 b (0+3) fun t63 =>
 ZiN t63.ptr t63.len i 1 fun b64 o65 =>
 ldS h60 b64 o65 fun t66 =>
 f59 w t66 (fun h67 =>
 Ze w fun b68 o69 =>
 f6 (some ⟨b68,o69,none⟩) 58 (fun t70 h71 =>
 J61 (()) h71) h67) h60) (
 J61 (()) h60))) (fun J54 =>
 ZD (decide (i>0)) (
 Ze w fun b55 o56 =>
 f6 (some ⟨b55,o56,none⟩) 44 (fun t57 h58 =>
 J54 (()) h58) h53) (
 J54 (()) h53))) (
 Ze w fun b79 o80 =>
 Zmv ends 1 fun t81 =>
 f6 (some ⟨b79,o80,none⟩) t81 (fun t82 h83 =>
 K h83) h44)) s43.1) (0,()) h40) h35) s.1) (fun J33 =>
 ldI h3 b 0 .u8 fun t34 =>
 ZD (t34 ==7) (
 J33 (ByteArray.mk #[123,125],()) h3) (
 J33 (ByteArray.mk #[91,93],()) h3))))))))) h1
def Y3 (f60:Zjz):Zjz:=XQ ZZ Zk YK Zl f60
def Z6:Nat→Zjz
 | 0=>fun _ _ _ _=>False
 | n+1=>Y3 (Z6 n)
def XN:Zjz:=fun w v K h=>∃ n,Z6 n w v K h
abbrev Zp6:=(Int × ByteArray × Sl × Sl × Unit)→(ByteArray→Int→HP)→HP
def ZcI (f57:Zoq) (f60:Zjz) (f58:Zop) (f4:zT4) (v:Int × ByteArray × Sl × Sl × Unit) (K:ByteArray→Int→HP) (h:Zc):Prop :=
 newC h [.int .u8 v.1,.string v.2.1,.slice v.2.2.1.ptr v.2.2.1.len v.2.2.1.cap,.slice v.2.2.2.1.ptr v.2.2.2.1.len v.2.2.2.1.cap] 33 fun b h1 =>
 ZA 0 fun t =>
 ldI h1 b 0 .u8 fun t2=>ldS h1 b (0+1) fun t3=>ldL h1 b (0+2) fun t4=>ldL h1 b (0+3) fun t5 =>
 f57 (t2,t3,t4,t5,()) (fun t6 h7 =>
 ZD (!t6) (
 ZA 6 fun t8 =>
 K (ByteArray.mk #[]) t8 h7) (
 newC h7 [.pointer none,.slice none 0 0] 190 fun b9 h10 =>
 ldI h10 b 0 .u8 fun t11=>ldS h10 b (0+1) fun t12=>ldL h10 b (0+2) fun t13=>ldL h10 b (0+3) fun t14 =>
 f60 (some ⟨b9,0,none⟩) (t11,t12,t13,t14,()) (fun h15 =>
 f58 (some ⟨b9,0,none⟩) (fun t16 h17 =>
 ZD (decide (t16>65536)) (
 ZA 5 fun t18 =>
 K (ByteArray.mk #[]) t18 h17) (
 f4 (some ⟨b9,0,none⟩) (fun t19 h20 =>
 ZA 0 fun t21 =>
 K t19 t21 h20) h17)) h15) h10)) h1
def ZaB:Zp6:=ZcI Xn XN ZZ ZR
abbrev ZrZ:=Int→(ByteArray→HP)→HP
abbrev Zp5:=Int→((Int × ByteArray × Sl × Sl × Unit)→HP)→HP
def ZcJ (f62:ZrZ) (n:Int) (K:(Int × ByteArray × Sl × Sl × Unit)→HP) (h:Zc):Prop :=
 newC h [.int .u8 0,.string (ByteArray.mk #[]),.slice none 0 0,.slice none 0 0] 33 fun b h1 =>
 f62 n (fun t h2 =>
 sts h2 b 0 [.int .u8 4,.string t,.slice none 0 0,.slice none 0 0] fun h3 =>
 ldI h3 b 0 .u8 fun t4=>ldS h3 b (0+1) fun t5=>ldL h3 b (0+2) fun t6=>ldL h3 b (0+3) fun t7=>K (t4,t5,t6,t7,()) h3) h1
def ZaC:Zp5:=ZcJ Zbp
abbrev Zp4:=ByteArray→ByteArray→(ByteArray→Bool→HP)→HP
def Yi (f8:zT8) (s:ByteArray) (prefix_:ByteArray) (K:ByteArray→Bool→HP) (h:Zc):Prop :=
 f8 s prefix_ (fun t h1 =>
 ZD (!t) (
 K s false h1) (
 ZiT s (prefix_.size:Int) s.size fun t2 =>
 K t2 true h1)) h
def ZT:Zp4:=Yi Zm
abbrev Zp3:=ByteArray→ByteArray→(ByteArray→Bool→HP)→HP
def XP (f64:Zp4) (s:ByteArray) (prefix_:ByteArray) (K:ByteArray→Bool→HP) (h:Zc):Prop :=
 f64 s prefix_ (fun t t1 h2 =>
 ZK t1 fun found =>
 K t found h2) h
def YA:Zp3:=XP ZT
abbrev Zp2:=ByteArray→ByteArray→(ByteArray→HP)→HP
def Yd (f8:zT8) (s:ByteArray) (prefix_:ByteArray) (K:ByteArray→HP) (h:Zc):Prop :=
 f8 s prefix_ (fun t h1 =>
 ZD t (
 ZiT s (prefix_.size:Int) s.size fun t2 =>
 K t2 h1) (
 K s h1)) h
def ZQ:Zp2:=Yd Zm
abbrev Zp1:=ByteArray→ByteArray→(ByteArray→HP)→HP
def Xy (f70:Zp2) (s:ByteArray) (prefix_:ByteArray) (K:ByteArray→HP) (h:Zc):Prop :=
 f70 s prefix_ (fun t h1 =>
 K t h1) h
def Yu:Zp1:=Xy ZQ
abbrev ZpM:=ByteArray→(Int→Value→HP)→HP
abbrev Zp0:=ByteArray→(Int→Bool→HP)→HP
def Za7 (f71:Zp1) (f72:ZpM) (s:ByteArray) (K:Int→Bool→HP) (h:Zc):Prop :=
 ZA 0 fun t =>
 ZD (Zbd s (ByteArray.mk #[])) (
 ZA 0 fun t1 =>
 K t1 true h) (
 f71 s (ByteArray.mk #[43]) (fun t2 h3 =>
 f72 t2 (fun t4 t5 h6 =>
 ZA t4 fun n =>
 Zep t5 fun b =>
 ZD b (
 ZD (decide (n≥(-1048576))) (
 ZA n fun t7 =>
 ZK (decide (n≤1048576)) fun t8 =>
 K t7 t8 h6) (
 ZA n fun t9 =>
 K t9 false h6)) (
 ZA n fun t10 =>
 K t10 false h6)) h3) h)
def Xm:Zp0:=Za7 Yu YQ
abbrev ZrY:=ByteArray→(ByteArray→HP)→HP
abbrev ZrX:=ByteArray→ByteArray→(ByteArray→ByteArray→Bool→HP)→HP
abbrev ZrW:=ByteArray→ByteArray→(ByteArray→HP)→HP
abbrev ZrV:=ByteArray→ByteArray→(ByteArray→HP)→HP
abbrev ZrU:=ByteArray→Int→(ByteArray→HP)→HP
abbrev ZpZ:=(Int × ByteArray × Sl × Sl × Unit)→(Int→Bool→HP)→HP
def ZcG (f57:Zoq) (f65:Zp3) (f66:ZrY) (f67:ZrX) (f68:ZrW) (f69:ZrV) (f73:Zp0) (f74:ZrU) (f72:ZpM) (v:Int × ByteArray × Sl × Sl × Unit) (K:Int→Bool→HP) (h:Zc):Prop :=
 newC h [.int .u8 v.1,.string v.2.1,.slice v.2.2.1.ptr v.2.2.1.len v.2.2.1.cap,.slice v.2.2.2.1.ptr v.2.2.2.1.len v.2.2.2.1.cap] 33 fun b h1 =>
 ZA 0 fun t =>
 ldI h1 b 0 .u8 fun t2 =>
 ZD (t2 !=4) (
 ZA 0 fun t3 =>
 K t3 false h1) (
 ldI h1 b 0 .u8 fun t4=>ldS h1 b (0+1) fun t5=>ldL h1 b (0+2) fun t6=>ldL h1 b (0+3) fun t7 =>
 f57 (t4,t5,t6,t7,()) (fun t8 h9 =>
 ZD (!t8) (
 ZA 0 fun t10 =>
 K t10 false h9) (
 ldS h9 b (0+1) fun t11 =>
 f65 t11 (ByteArray.mk #[45]) (fun t12 t13 h14 =>
 ZK t13 fun below =>
 f66 t12 (fun t15 h16 =>
 f67 t15 (ByteArray.mk #[101]) (fun t17 t18 t19 h20 =>
 ZK t19 fun x =>
 f67 t17 (ByteArray.mk #[46]) (fun t21 t22 t23 h24 =>
 ZK t23 fun x25 =>
 ZmW t21 t22 fun s =>
 f68 s (ByteArray.mk #[48]) (fun t26 h27 =>
 f69 t26 (ByteArray.mk #[48]) (fun t28 h29 =>
 f69 t26 (ByteArray.mk #[48]) (fun t30 h31 =>
 ZA (IntKind.wrap .i64 ((t26.size:Int) - (t30.size:Int))) fun zeros =>
 ZD (Zbd t28 (ByteArray.mk #[])) (
 ZA 0 fun t32 =>
 K t32 true h31) (
 f73 t18 (fun t33 t34 h35 =>
 ZA t33 fun by_ =>
 ZK t34 fun ok =>
 ZD (!ok) (
 ZA 0 fun t36 =>
 K t36 false h35) (
 ZA (IntKind.wrap .i64 (by_+(IntKind.wrap .i64 (zeros - (t22.size:Int))))) fun by_37 =>
 ZD (decide (by_37<0)) (
 ZA 0 fun t38 =>
 K t38 false h35) (
 ZD (decide (by_37>20)) (
 ZA 0 fun t39 =>
 K t39 false h35) (
 f74 (ByteArray.mk #[48]) by_37 (fun t40 h41 =>
 ZmW t28 t40 fun s42 =>
 Zb4 (σ:=ByteArray × Unit) (fun s45 h46 =>
 (fun (digits:ByteArray) =>
 f72 digits (fun t47 t48 h49 =>
 ZA t47 fun n =>
 Zep t48 fun b50 =>
 ZD (!b50) (
 ZA 0 fun t51 =>
 K t51 false h49) (
 ZA n fun t52 =>
 K t52 true h49)) h46) s45.1) (fun J43 =>
 ZD below (
 ZmW (ByteArray.mk #[45]) s42 fun s44 =>
 J43 (s44,()) h41) (
 J43 (s42,()) h41))) h35)))) h31)) h29) h27) h24) h20) h16) h14) h9)) h1)
def ZaA:ZpZ:=ZcG Xn YA Zam X5 X4 Y6 Xm ZaE YQ
abbrev Zks:=(Int × ByteArray × Sl × Sl × Unit)→Int→(Int→HP)→HP
def ZbW (f76:Zks) (v:Int × ByteArray × Sl × Sl × Unit) (most:Int) (K:Int→HP) (h:Zc):Prop :=
 newC h [.int .u8 v.1,.string v.2.1,.slice v.2.2.1.ptr v.2.2.1.len v.2.2.1.cap,.slice v.2.2.2.1.ptr v.2.2.2.1.len v.2.2.2.1.cap] 33 fun b h1 =>
 ZA 0 fun t =>
 ZA 1 fun n =>
 ldL h1 b (0+2) fun t2 =>
 Zc6 (σ:=Int × Int × Unit) (fun J4 s h5 =>
 (fun (n3:Int) (s11:Int) =>
 ZD (decide (s11<(t2.len:Int))) (
 ZiN t2.ptr t2.len s11 4 fun b6 o =>
 ldI h5 b6 o .u8 fun t7=>ldS h5 b6 (o+1) fun t8=>ldL h5 b6 (o+2) fun t9=>ldL h5 b6 (o+3) fun t10 =>
 newC h5 [.int .u8 0,.string (ByteArray.mk #[]),.slice none 0 0,.slice none 0 0] 33 fun b11 h12 =>
 sts h12 b11 0 [.int .u8 t7,.string t8,.slice t9.ptr t9.len t9.cap,.slice t10.ptr t10.len t10.cap] fun h13 =>
 ZD (decide (n3>most)) (
 ZA n3 fun t14 =>
 K t14 h13) (
 ldI h13 b11 0 .u8 fun t15=>ldS h13 b11 (0+1) fun t16=>ldL h13 b11 (0+2) fun t17=>ldL h13 b11 (0+3) fun t18 =>
 f76 (t15,t16,t17,t18,()) (IntKind.wrap .i64 (most - n3)) (fun t19 h20 =>
 ZA (IntKind.wrap .i64 (n3+t19)) fun n21 =>
 J4 (n21,IntKind.wrap .i64 (s11+1),()) h20) h13)) (
 ZA n3 fun t22 =>
 K t22 h5)) s.1 s.2.1) (n,0,()) h1
def ZaL (f76:Zks):Zks:=ZbW f76
def YX:Nat→Zks
 | 0=>fun _ _ _ _=>False
 | n+1=>ZaL (YX n)
def ZbQ:Zks:=fun v most K h=>∃ n,YX n v most K h
abbrev ZpY:=(Int × ByteArray × Sl × Sl × Unit)→(Bool→HP)→HP
def ZcF (f76:Zks) (v:Int × ByteArray × Sl × Sl × Unit) (K:Bool→HP) (h:Zc):Prop :=
 newC h [.int .u8 v.1,.string v.2.1,.slice v.2.2.1.ptr v.2.2.1.len v.2.2.1.cap,.slice v.2.2.2.1.ptr v.2.2.2.1.len v.2.2.2.1.cap] 33 fun b h1 =>
 ldI h1 b 0 .u8 fun t=>ldS h1 b (0+1) fun t2=>ldL h1 b (0+2) fun t3=>ldL h1 b (0+3) fun t4 =>
 f76 (t,t2,t3,t4,()) 65536 (fun t5 h6 =>
 ZK (decide (t5≤65536)) fun t7 =>
 K t7 h6) h1
def Zaz:ZpY:=ZcF ZbQ
abbrev ZpX:=(Int × ByteArray × Sl × Sl × Unit)→(Int→HP)→HP
def ZcK (f77:ZpY) (f53:ZeQ) (v:Int × ByteArray × Sl × Sl × Unit) (K:Int→HP) (h:Zc):Prop :=
 newC h [.int .u8 v.1,.string v.2.1,.slice v.2.2.1.ptr v.2.2.1.len v.2.2.1.cap,.slice v.2.2.2.1.ptr v.2.2.2.1.len v.2.2.2.1.cap] 33 fun b h1 =>
 ZA 0 fun t =>
 newC h1 [.int .i64 0,.int .i64 0] 157 fun b2 h3 =>
 ldI h3 b 0 .u8 fun t4=>ldS h3 b (0+1) fun t5=>ldL h3 b (0+2) fun t6=>ldL h3 b (0+3) fun t7 =>
 f77 (t4,t5,t6,t7,()) (fun t8 h9 =>
 ZD (!t8) (
 ZA 0 fun t10 =>
 K t10 h9) (
 ldI h9 b 0 .u8 fun t11=>ldS h9 b (0+1) fun t12=>ldL h9 b (0+2) fun t13=>ldL h9 b (0+3) fun t14 =>
 f53 (some ⟨b2,0,none⟩) (t11,t12,t13,t14,()) 0 (.func (.func 119) #[] #[]) (fun t15 h16 =>
 ZD (!t15) (
 ZA 0 fun t17 =>
 K t17 h16) (
 ldI h16 b2 (0+1) .i64 fun t18 =>
 ZA t18 fun t19 =>
 K t19 h16)) h9)) h3
def ZaD:ZpX:=ZcK Zaz YZ
abbrev ZpW:=(Bool→HP)→HP
def Xz (f26:Znf) (f61:Zp6) (f63:Zp5) (f75:ZpZ) (f78:ZpX) (K:Bool→HP) (h:Zc):Prop :=
 f26 (ByteArray.mk #[91,49,44,32,34,97,92,117,48,48,52,49,34,44,32,123,34,98,34,58,32,110,117,108,108,125,93]) (fun t t1 t2 h3 =>
 newC h3 [.int .u8 0,.string (ByteArray.mk #[]),.slice none 0 0,.slice none 0 0] 33 fun b h4 =>
 sts h4 b 0 [.int .u8 t.1,.string t.2.1,.slice t.2.2.1.ptr t.2.2.1.len t.2.2.1.cap,.slice t.2.2.2.1.ptr t.2.2.2.1.len t.2.2.2.1.cap] fun h5 =>
 ZA t1 fun e =>
 ZA t2 fun x =>
 ldI h5 b 0 .u8 fun t6=>ldS h5 b (0+1) fun t7=>ldL h5 b (0+2) fun t8=>ldL h5 b (0+3) fun t9 =>
 f61 (t6,t7,t8,t9,()) (fun t10 t11 h12 =>
 ZA t11 fun f =>
 f26 (ByteArray.mk #[91,49,44,93]) (fun t13 t14 t15 h16 =>
 newC h16 [.int .u8 0,.string (ByteArray.mk #[]),.slice none 0 0,.slice none 0 0] 33 fun b17 h18 =>
 sts h18 b17 0 [.int .u8 t13.1,.string t13.2.1,.slice t13.2.2.1.ptr t13.2.2.1.len t13.2.2.1.cap,.slice t13.2.2.2.1.ptr t13.2.2.2.1.len t13.2.2.2.1.cap] fun h19 =>
 ZA t14 fun g =>
 ZA t15 fun at_ =>
 f63 (-7) (fun t20 h21 =>
 f75 (t20.1,t20.2.1,⟨t20.2.2.1.ptr,t20.2.2.1.len,t20.2.2.1.cap⟩,⟨t20.2.2.2.1.ptr,t20.2.2.2.1.len,t20.2.2.2.1.cap⟩,()) (fun t22 t23 h24 =>
 ZA t22 fun n =>
 ZK t23 fun ok =>
 ZD (e ==0) (
 ZD (f ==0) (
 ZD (Zbd t10 (ByteArray.mk #[91,49,44,34,97,65,34,44,123,34,98,34,58,110,117,108,108,125,93])) (
 ZD (g ==20) (
 ZD (at_ ==3) (
 ZD ok (
 ZD (n ==(-7)) (
 ldI h24 b 0 .u8 fun t25=>ldS h24 b (0+1) fun t26=>ldL h24 b (0+2) fun t27=>ldL h24 b (0+3) fun t28 =>
 f78 (t25,t26,t27,t28,()) (fun t29 h30 =>
 ZK (t29 ==2) fun t31 =>
 K t31 h30) h24) (
 K false h24)) (
 K false h24)) (
 K false h24)) (
 K false h24)) (
 K false h24)) (
 K false h24)) (
 K false h24)) h21) h19) h12) h5) h
def Yf:ZpW:=Xz Yh ZaB ZaC ZaA ZaD
abbrev ZsC:=ByteArray→ByteArray→(Bool→HP)→HP
def YF (f26:Znf) (f79:ZpW) (s:ByteArray) (other:ByteArray) (K:Bool→HP) (h:Zc):Prop :=
 f26 s (fun t t1 t2 h3 =>
 newC h3 [.int .u8 0,.string (ByteArray.mk #[]),.slice none 0 0,.slice none 0 0] 33 fun b h4 =>
 sts h4 b 0 [.int .u8 t.1,.string t.2.1,.slice t.2.2.1.ptr t.2.2.1.len t.2.2.1.cap,.slice t.2.2.2.1.ptr t.2.2.2.1.len t.2.2.2.1.cap] fun h5 =>
 ZA t1 fun e =>
 ZA t2 fun at_ =>
 f79 (fun t6 h7 =>
 ZD (!t6) (
 f79 (fun t8 h9 =>
 ZK t8 fun t10 =>
 K t10 h9) h7) (
 ZD (e ==0) (
 f79 (fun t11 h12 =>
 ZK t11 fun t13 =>
 K t13 h12) h7) (
 ZD (e ==5) (
 f79 (fun t14 h15 =>
 ZK t14 fun t16 =>
 K t16 h15) h7) (
 Zb4 (σ:=Unit) (fun s18 h19 =>
 ZiT s 0 at_ fun t20 =>
 f26 t20 (fun t21 t22 t23 h24 =>
 newC h24 [.int .u8 0,.string (ByteArray.mk #[]),.slice none 0 0,.slice none 0 0] 33 fun b25 h26 =>
 sts h26 b25 0 [.int .u8 t21.1,.string t21.2.1,.slice t21.2.2.1.ptr t21.2.2.1.len t21.2.2.1.cap,.slice t21.2.2.2.1.ptr t21.2.2.2.1.len t21.2.2.2.1.cap] fun h27 =>
 ZA t22 fun f =>
 ZA t23 fun k =>
 Zb4 (σ:=Unit) (fun s29 h30 =>
 ZD (e ==24) (
 K true h30) (
 ZD (decide ((IntKind.wrap .i64 ((IntKind.wrap .i64 (at_+1))+(other.size:Int)))>65536)) (
 K true h30) (
 ZiT s 0 (IntKind.wrap .i64 (at_+1)) fun t31 =>
 ZmW t31 other fun s32 =>
 f26 s32 (fun t33 t34 t35 h36 =>
 newC h36 [.int .u8 0,.string (ByteArray.mk #[]),.slice none 0 0,.slice none 0 0] 33 fun b37 h38 =>
 sts h38 b37 0 [.int .u8 t33.1,.string t33.2.1,.slice t33.2.2.1.ptr t33.2.2.1.len t33.2.2.1.cap,.slice t33.2.2.2.1.ptr t33.2.2.2.1.len t33.2.2.2.1.cap] fun h39 =>
 ZA t34 fun g =>
 ZA t35 fun m =>
 ZD (g ==e) (
 ZK (m ==at_) fun t40 =>
 K t40 h39) (
 K false h39)) h30))) (fun J28 =>
 ZD (f !=0) (
 ZD (f !=24) (
 K false h27) (
 ZD (k !=at_) (
 K false h27) (
 J28 (()) h27))) (
 J28 (()) h27))) h19) (fun J17 =>
 ZD (decide (at_<0)) (
 K false h7) (
 ZD (decide (at_>(s.size:Int))) (
 K false h7) (
 ZD (e ==24) (
 ZD (at_ !=(s.size:Int)) (
 K false h7) (
 ZD (e !=24) (
 ZD (decide (at_≥(s.size:Int))) (
 K false h7) (
 J17 (()) h7)) (
 J17 (()) h7))) (
 ZD (e !=24) (
 ZD (decide (at_≥(s.size:Int))) (
 K false h7) (
 J17 (()) h7)) (
 J17 (()) h7))))))))) h5) h
def YE:ZsC:=YF Yh Yf
end Go.Proofs.YtpjbjdheeemdiaaGreatDoor
namespace Go.Fw
open Go
inductive Leaf where
  | I (k:IntKind) | B | S | P | L | M | V
abbrev Leaf.D:Leaf→Type
  | .I _=>Int | .B=>Bool | .S=>ByteArray | .P=>Option Addr | .L=>Sl | .M=>Option Nat | .V=>Value
def Leaf.mk:(l:Leaf)→l.D→Value
  | .I k,n=> .int k n | .B,b=> .bool b | .S,s=> .string s | .P,p=> .pointer p | .L,s=> .slice s.ptr s.len s.cap | .M,m=> .map m | .V,v=>v
def Leaf.un:(l:Leaf)→Value→Option l.D
  | .I k,.int k' n=>if k'=k then some n else none
  | .B,.bool b=>some b
  | .S,.string s=>some s
  | .P,.pointer p=>some p
  | .L,.slice p l c=>some ⟨p,l,c⟩
  | .M,.map m=>some m
  | .V,v=>some v
  | _,_=>none
abbrev Tup:List Leaf→Type
  | []=>Unit
  | l::ls=>l.D × Tup ls
def Tup.vals:(ls:List Leaf)→Tup ls→List Value
  | [],_=>[]
  | l::ls,t=>l.mk t.1::Tup.vals ls t.2
def Tup.un:(ls:List Leaf)→List Value→Option (Tup ls)
  | [],[]=>some ()
  | l::ls,v::vs=>match l.un v,Tup.un ls vs with
    | some x,some t=>some (x,t)
    | _,_=>none
  | _,_=>none
inductive VT where
  | one (l:Leaf) | agg (ls:List Leaf) | fn (f:FuncId) | clo (f:FuncId) (ls:List Leaf) | yl
abbrev VT.D:VT→Type
  | .one l=>l.D
  | .agg ls=>Tup ls
  | .fn _=>Unit
  | .clo _ ls=>Tup ls
  | .yl=>Nat
abbrev Ym:List VT→Type
  | []=>Unit
  | v::vs=>v.D × Ym vs
inductive EV where
  | val (v:Value) | lit (b:Bool) | adr (b o:Nat) | itr (t:TypeId) (b:Nat) | more (k v:Value) | over
def EV.v:EV→Value
  | .val v=>v
  | .lit b=> .bool b
  | .adr b o=> .pointer (some ⟨b,o,none⟩)
  | .itr _ b=> .pointer (some ⟨b,0,none⟩)
  | .more k v=> .tuple #[.bool true,k,v]
  | .over=> .tuple #[.bool false]
def VT.ev:(v:VT)→v.D→EV
  | .one l,x=> .val (l.mk x)
  | .agg ls,x=> .val (.agg (Tup.vals ls x).toArray)
  | .fn f,_=> .val (.func (.func f) ⟨[]⟩ ⟨[]⟩)
  | .clo f ls,x=> .val (.func (.func f) ⟨[]⟩ ⟨Tup.vals ls x⟩)
  | .yl,l=> .val (.func (.yield l) ⟨[]⟩ ⟨[]⟩)
def fnU (f:FuncId):EV→Option Unit
  | .val (.func (.func g) ⟨[]⟩ ⟨[]⟩)=>bif Nat.beq f g then some () else none
  | _=>none
def Zsk (f:FuncId) (ls:List Leaf):EV→Option (Tup ls)
  | .val (.func (.func g) ⟨[]⟩ ⟨cs⟩)=>bif Nat.beq f g then Tup.un ls cs else none
  | _=>none
def ylU:EV→Option Nat
  | .val (.func (.yield l) ⟨[]⟩ ⟨[]⟩)=>some l
  | _=>none
def VT.un:(v:VT)→EV→Option v.D
  | .one l,e=>l.un e.v
  | .agg ls,.val (.agg cs)=>Tup.un ls cs.toList
  | .agg _,_=>none
  | .fn f,e=>fnU f e
  | .clo f ls,e=>Zsk f ls e
  | .yl,e=>ylU e
def Ym.evs:(vs:List VT)→Ym vs→List EV
  | [],_=>[]
  | v::vs,t=>v.ev t.1::Ym.evs vs t.2
def Ym.un:(vs:List VT)→List EV→Option (Ym vs)
  | [],[]=>some ()
  | v::vs,e::es=>match v.un e,Ym.un vs es with
    | some x,some t=>some (x,t)
    | _,_=>none
  | _,_=>none
def ZaX:List EV→EV
  | [e]=>e
  | es=> .val (.tuple (es.map EV.v).toArray)
structure Zh where
  args:List VT
  res:List VT
  sem:Ym args→(Ym res→Zc→Prop)→(Value→Zc→Prop)→Zc→Prop
structure XM where
  caps:List VT
  sem:Yld→Nat→Ym caps→(Zc→Prop)→Zc→Prop
inductive Mark where
  | no | at_ (D:Nat) | raw (ds:List Deferred)
def Mark.isNo:Mark→Bool
  | .no=>true
  | _=>false
structure Env where
  f:Nat→Option EV
  mD:Mark
instance:CoeFun Env (fun _=>Nat→Option EV):=⟨Env.f⟩
def Env.set (e:Env) (d:Nat) (v:EV):Env:=⟨fun j=>bif Nat.beq j d then some v else e.f j,e.mD⟩
def Env.ev (e:Env):Operand→Option EV
  | .tmp t=>e.f t
  | .const (.bool b)=>some (.lit b)
  | .const v=>some (.val v)
  | .global g=>some (.adr g 0)
  | .func f=>some (.val (.func (.func f) #[] #[]))
structure Cfg where
  P:Program
  calls:List (FuncId × Zh)
  n:Nat
  ext:List FuncId
  dyn:List (String × TypeId × FuncId)
  iters:List (FuncId × XM)
  rnd:Option Nat
  pan:Value→Zc→Prop
  yld:Yld
  fns:List (FuncId × List Leaf)
def Yl (P:Program) (calls:List (FuncId × Zh)) (n:Nat) (ext:List FuncId) (dyn:List (String × TypeId × FuncId)) (iters:List (FuncId × XM)) (yld:Yld) (fns:List (FuncId × List Leaf):=[]):Cfg :=
  ⟨P,calls,n,ext,dyn,iters,none,fun _ _=>False,yld,fns⟩
def Yp:Yld:=fun _ _ _ _=>False
structure ZoU where
  s:Zh
  t:Ym s.args
def Zf8 (f:FuncId) (es:List EV):List (FuncId × Zh)→Option ZoU
  | []=>none
  | (g,s)::r=>bif Nat.beq f g then (match Ym.un s.args es with
    | some t=>some ⟨s,t⟩
    | none=>Zf8 f es r) else Zf8 f es r
structure Zna where
  s:XM
  t:Ym s.caps
def ZkP (f:FuncId) (es:List EV):List (FuncId × XM)→Option Zna
  | []=>none
  | (g,s)::r=>bif Nat.beq f g then (match Ym.un s.caps es with
    | some t=>some ⟨s,t⟩
    | none=>ZkP f es r) else ZkP f es r
structure ZhT where
  a0:VT
  rest:List VT
  res:List VT
  sem:Ym (a0::rest)→(Ym res→Zc→Prop)→(Value→Zc→Prop)→Zc→Prop
  t:Ym rest
def Zf7 (f:FuncId) (es:List EV):List (FuncId × Zh)→Option ZhT
  | []=>none
  | (g,⟨a0::rest,res,sem⟩)::r=>bif Nat.beq f g then (match Ym.un rest es with
    | some t=>some ⟨a0,rest,res,sem,t⟩
    | none=>Zf7 f es r) else Zf7 f es r
  | (_,⟨[],_,_⟩)::r=>Zf7 f es r
def ZpC (calls:List (FuncId × Zh)) (Kp:Value→Zc→Prop) (name:String) (v:Value) (es:List EV) (h:Zc) (K:EV→Zc→Prop):List (String × TypeId × FuncId)→Prop
  | []=>False
  | (n,t,f)::r=>bif n ==name then (match Zf7 f es calls with
    | some p=>exG v (fun x:p.a0.D=> .iface t (p.a0.ev x).v) (fun x=>p.sem (x,p.t) (fun rr h'=>K (ZaX (Ym.evs p.res rr)) h') Kp h)∨ZpC calls Kp name v es h K r
    | none=>ZpC calls Kp name v es h K r) else ZpC calls Kp name v es h K r
def Zoi (es:List EV) (cs:List Value):List EV:=es++cs.map EV.val
def fnP (calls:List (FuncId × Zh)) (Kp:Value→Zc→Prop) (v:Value) (es:List EV) (h:Zc) (K:EV→Zc→Prop):List (FuncId × List Leaf)→Prop
  | []=>False
  | (f,[])::r=>match Zf8 f es calls with
    | some ⟨s,t⟩=>Zsh v f (s.sem t (fun rr h'=>K (ZaX (Ym.evs s.res rr)) h') Kp h)∨fnP calls Kp v es h K r
    | none=>fnP calls Kp v es h K r
  | (f,l::ls)::r=>exG v (fun c:Tup (l::ls)=> .func (.func f) ⟨[]⟩ ⟨Tup.vals (l::ls) c⟩) (fun c=>match Zf8 f (Zoi es (Tup.vals (l::ls) c)) calls with
    | some ⟨s,t⟩=>s.sem t (fun rr h'=>K (ZaX (Ym.evs s.res rr)) h') Kp h
    | none=>False)∨fnP calls Kp v es h K r
def Zsi (l:List (FuncId × List Leaf)):Operand→List (FuncId × List Leaf)
  | .tmp _=>l
  | _=>[]
def ZpO (f:FuncId):List FuncId→Bool
  | []=>false
  | g::r=>bif Nat.beq f g then true else ZpO f r
def evs (e:Env):List Operand→Option (List EV)
  | []=>some []
  | x::xs=>match e.ev x,evs e xs with
    | some v,some vs=>some (v::vs)
    | _,_=>none
def ZoS (op:BinOp) (x y:EV) (K:EV→Prop):Prop :=
  match x,y with
  | .val (.int k a),.val (.int k' b) =>
    match op with
    | .shl=>ZbA (0≤b) (K (.val (.int k (Zng k a b))))
    | .shr=>ZbA (0≤b) (K (.val (.int k (ZkA k a b))))
    | _=>if k=k' then
       match op with
       | .add=>K (.val (.int k (k.wrap (a+b))))
       | .sub=>K (.val (.int k (k.wrap (a - b))))
       | .mul=>K (.val (.int k (k.wrap (a*b))))
       | .quo=>ZbA (b≠0) (K (.val (.int k (k.wrap (a.tdiv b)))))
       | .rem=>ZbA (b≠0) (K (.val (.int k (a.tmod b))))
       | .and=>K (.val (.int k (Zkp k a b)))
       | .or=>K (.val (.int k (orV k a b)))
       | .xor=>K (.val (.int k (ZuJ k a b)))
       | .andNot=>K (.val (.int k (Zsp k a b)))
       | .eql=>K (.val (.bool (a ==b)))
       | .neq=>K (.val (.bool (a !=b)))
       | .lss=>K (.val (.bool (decide (a<b))))
       | .leq=>K (.val (.bool (decide (a≤b))))
       | .gtr=>K (.val (.bool (decide (a>b))))
       | .geq=>K (.val (.bool (decide (a≥b))))
       | _=>False
      else False
  | .val (.string a),.val (.string b) =>
    match op with
    | .add=>ZmW a b fun s=>K (.val (.string s))
    | .eql=>K (.val (.bool (Zbd a b)))
    | .neq=>K (.val (.bool (!Zbd a b)))
    | .lss=>K (.val (.bool (Op.bytesLess a.toList b.toList)))
    | .leq=>K (.val (.bool (Op.bytesLess a.toList b.toList||Zbd a b)))
    | .gtr=>K (.val (.bool (!(Op.bytesLess a.toList b.toList||Zbd a b))))
    | .geq=>K (.val (.bool (!Op.bytesLess a.toList b.toList)))
    | _=>False
  | _,_=>False
def eqP (t:Option TypeDesc) (neg:Bool) (x y:EV) (K:EV→Prop):Prop :=
  match t,x,y with
  | some (.pointer _),.adr _ _,.val (.pointer none)=>K (.lit neg)
  | some (.pointer _),.val (.pointer p),.val (.pointer none)=>K (.val (.bool (bif neg then p.isSome else p.isNone)))
  | some (.slice _),.val (.slice p _ _),.val (.slice none _ _)=>K (.val (.bool (bif neg then p.isSome else p.isNone)))
  | some (.map _ _),.val (.map p),.val (.map none)=>K (.val (.bool (bif neg then p.isSome else p.isNone)))
  | some .bool,x,y =>
    match x.v,y.v with
    | .bool a,.bool b=>K (.val (.bool (bif neg then a !=b else a ==b)))
    | _,_=>False
  | _,_,_=>False
def Zfs (d:Option TypeDesc) (h:Zc) (b o:Nat) (K:EV→Prop):Prop :=
  match d with
  | some (.int k)=>ldI h b o k fun x=>K (.val (.int k x))
  | some .bool=>ldB h b o fun x=>K (.val (.bool x))
  | some .string=>ldS h b o fun x=>K (.val (.string x))
  | some (.pointer _)=>ldP h b o fun x=>K (.val (.pointer x))
  | some (.slice _)=>ldL h b o fun x=>K (.val (.slice x.ptr x.len x.cap))
  | some (.map _ _)=>ldM h b o fun x=>K (.val (.map x))
  | some (.struct _) | some (.array _ _) | none=>False
  | some _=>ldV h b o fun x=>K (.val x)
def ZaN (P:Program):Nat→TypeId→List (Option TypeDesc)
  | 0,_=>[none]
  | d+1,t=>match P.underlying t with
    | some (.struct fs)=>fs.toList.flatMap fun f=>ZaN P d f.type
    | some (.array n e)=>(List.replicate n (ZaN P d e)).flatten
    | x=>[x]
def Zq8 (o i:Nat):Nat:=bif Nat.beq i 0 then o else o+i
def ZnW (h:Zc) (b o:Nat):Nat→List (Option TypeDesc)→(List Value→Prop)→Prop
  | _,[],K=>K []
  | i,d::ds,K=>Zfs d h b (Zq8 o i) fun v=>ZnW h b o (i+1) ds fun vs=>K (v.v::vs)
def Xd:Option TypeDesc→Bool
  | some (.struct _) | some (.array _ _)=>true
  | _=>false
def ldT (P:Program) (t:TypeId) (h:Zc) (b o:Nat) (K:EV→Prop):Prop :=
  bif Xd (P.underlying t) then
    (bif Nat.beq (ZaN P 8 t).length (P.cellsOf t) then ZnW h b o 0 (ZaN P 8 t) fun vs=>K (.val (.agg vs.toArray)) else False)
  else Zfs (P.underlying t) h b o K
def atP (x:EV) (K:Nat→Nat→Prop):Prop :=
  match x with
  | .adr b o=>K b o
  | .val (.pointer p)=>Ze p K
  | _=>False
def stT (P:Program) (t:TypeId) (h:Zc) (b o:Nat) (v:EV) (K:Zc→Prop):Prop :=
  match v with
  | .val (.agg cs)=>bif Xd (P.underlying t) then (bif Nat.beq cs.toList.length (P.cellsOf t) then sts h b o cs.toList K else False) else False
  | v=>bif Xd (P.underlying t) then False else (bif Nat.beq (P.cellsOf t) 1 then st h b o v.v K else False)
def ZdT:EV→List Value
  | .val (.agg cs)=>cs.toList
  | v=>[v.v]
def Zms:Option TypeDesc→Bool
  | some (.int _) | some .bool | some .string | some (.pointer _) | some (.slice _) | some (.map _ _) | some (.struct _) | some (.array _ _) | none=>false
  | some _=>true
def ZfM (d:Option TypeDesc) (v:EV):List Value:=bif Zms d then [v.v] else ZdT v
def ZhZ (P:Program) (fs:List Field) (e:Env):List (Nat × Operand)→List Value
  | []=>[]
  | (i,x)::r=>match fs[i]?,e.ev x with
    | some f,some v=>bif Zms (P.underlying f.type) then v.v::ZhZ P fs e r else ZhZ P fs e r
    | _,_=>ZhZ P fs e r
def Zpf:List Value→Prop→Prop
  | [],K=>K
  | v::vs,K=>ZbA (ZV v=true) (Zpf vs K)
def Za2:List Value→List (Nat × List Value)→List Value
  | cs,[]=>cs
  | cs,(o,vs)::r=>Za2 (cs.take o++vs++cs.drop (o+vs.length)) r
def Zfh (P:Program) (fs:List Field) (e:Env) (n:Nat):List (Nat × Operand)→Option (List (Nat × List Value))
  | []=>some []
  | (i,x)::r=>match fs[i]?,e.ev x,Zfh P fs e n r with
    | some f,some v,some l=>bif Nat.beq (ZfM (P.underlying f.type) v).length (P.cellsOf f.type) then (bif Nat.ble (f.offset+(ZfM (P.underlying f.type) v).length) n then some ((f.offset,ZfM (P.underlying f.type) v)::l) else none) else none
    | _,_,_=>none
def Zea (size:Nat) (e:Env) (n:Nat):List (Nat × Operand)→Option (List (Nat × List Value))
  | []=>some []
  | (i,x)::r=>match e.ev x,Zea size e n r with
    | some v,some l=>bif Nat.beq (ZdT v).length size then (bif Nat.ble (i*size+(ZdT v).length) n then some ((i*size,ZdT v)::l) else none) else none
    | _,_=>none
def Zes (P:Program) (t:TypeId):Option (List Value):=match P.info? t with
  | some i=>match i.zero with
    | some v=>some v.cells.toList
    | none=>none
  | none=>none
def ZiU (P:Program) (t:TypeId):Option (Nat × Nat):=match P.info? t with
  | some i=>some (i.size,i.bytes)
  | none=>none
def ZoB (d:Int):Option (Option EV)→Option Int
  | none=>some d
  | some (some (.val (.int _ n)))=>some n
  | _=>none
def ZdU:Nat:=16777216
def Zmq:TypeDesc→Value→Bool
  | .int k,.int k' _=>if k=k' then true else false
  | .string,.string _=>true
  | .bool,.bool _=>true
  | _,_=>false
def Zga:Option TypeDesc→Bool
  | some (.int _) | some .string | some .bool=>true
  | _=>false
def ZcM (P:Program):List Field→Nat→Bool
  | [],_=>true
  | f::fs,i=>bif f.name == "_" then false else bif Nat.beq f.offset i&&Zga (P.underlying f.type) then ZcM P fs (i+1) else false
def ZcN (P:Program) (fs:List Field):List TypeDesc:=fs.map fun f=>(P.underlying f.type).getD .bool
def Zmp:List TypeDesc→List Value→Bool
  | [],[]=>true
  | d::ds,v::vs=>bif Zmq d v then Zmp ds vs else false
  | _,_=>false
def Zn4 (P:Program) (kt:TypeId) (fs:Array Field) (cs:List Value):Bool :=
  bif P.stoodInHeld kt then false else bif ZcM P fs.toList 0 then Zmp (ZcN P fs.toList) cs else false
def Zn5 (P:Program) (n:Nat) (e:TypeId) (cs:List Value):Bool :=
  bif Nat.beq n 2 then (bif Zga (P.underlying e) then (match P.info? e with
    | some i=>bif Nat.beq i.size 1 then Zmp [(P.underlying e).getD .bool,(P.underlying e).getD .bool] cs else false
    | none=>false) else false) else false
def Zje (P:Program) (kt:TypeId) (d:TypeDesc) (h:Zc) (m:Option Nat) (k:Value) (K:Option Value→Prop):Prop :=
  match d,k with
  | .struct fs,.agg cs=>bif Zn4 P kt fs cs.toList then Zjf (ZcN P fs.toList) h m cs.toList K else False
  | .array n e,.agg cs=>bif Zn5 P n e cs.toList then Zjf [(P.underlying e).getD .bool,(P.underlying e).getD .bool] h m cs.toList K else False
  | d,k=>bif Zmq d k then ZoH d h m k K else False
def Zjc (P:Program) (kt:TypeId) (d:TypeDesc) (h:Zc) (m:Option Nat) (k v:Value) (K:Zc→Prop):Prop :=
  match d,k with
  | .struct fs,.agg cs=>bif Zn4 P kt fs cs.toList then Zjd (ZcN P fs.toList) h m cs.toList v K else False
  | .array n e,.agg cs=>bif Zn5 P n e cs.toList then Zjd [(P.underlying e).getD .bool,(P.underlying e).getD .bool] h m cs.toList v K else False
  | d,k=>bif Zmq d k then ZoG d h m k v K else False
def Zkn (d:Option TypeDesc) (v:Value) (K:EV→Prop):Prop :=
  match d with
  | some (.int k)=>asI v k fun x=>K (.val (.int k x))
  | some .bool=>asB v fun x=>K (.val (.bool x))
  | some .string=>asS v fun x=>K (.val (.string x))
  | some (.pointer _)=>asP v fun x=>K (.val (.pointer x))
  | some (.slice _)=>asL v fun x=>K (.val (.slice x.ptr x.len x.cap))
  | some (.map _ _)=>asM v fun x=>K (.val (.map x))
  | _=>False
def ZqP:Option TypeDesc→Leaf
  | some (.int k)=> .I k | some .bool=> .B | some .string=> .S | some (.pointer _)=> .P | some (.slice _)=> .L | some (.map _ _)=> .M | _=> .V
def ZpS (P:Program) (t:TypeId) (v:Value) (K:EV→Prop):Prop :=
  bif Xd (P.underlying t) then exG v (fun r:Tup ((ZaN P 8 t).map ZqP)=> .agg (Tup.vals _ r).toArray) (fun r=>K (.val (.agg (Tup.vals _ r).toArray)))
  else Zkn (P.underlying t) v K
def ZoX (P:Program) (t:TypeId):Option Value:=match P.info? t with
  | some i=>i.zero
  | none=>none
def ZbS:Option TypeDesc→Bool
  | some (.interface _)=>true
  | none=>true
  | _=>false
def Zdd (P:Program) (ts:Array TypeId):Bool:=match ts[0]? with
  | some t=>match P.underlying t with
    | some (.map _ _)=>true
    | _=>false
  | none=>false
def Zgd (c:Cfg) (o:Op) (ρ:Env) (h:Zc) (K:EV→Zc→Prop):Prop :=
  match o with
  | .call ⟨.builtin .len,args,ts⟩ =>
    match ts[0]?,evs ρ args.toList with
    | some t,some [v]=>match c.P.underlying t,v with
      | some .string,.val (.string s)=>K (.val (.int .i64 s.size)) h
      | some (.slice _),.val (.slice _ n _)=>K (.val (.int .i64 n)) h
      | some (.array n _),_=>K (.val (.int .i64 n)) h
      | some (.map _ _),.val (.map m)=>ZuM h m fun n=>K (.val (.int .i64 n)) h
      | _,_=>False
    | _,_=>False
  | .call ⟨.builtin .cap,args,ts⟩ =>
    match ts[0]?,evs ρ args.toList with
    | some t,some [v]=>match c.P.underlying t,v with
      | some (.slice _),.val (.slice _ _ n)=>K (.val (.int .i64 n)) h
      | _,_=>False
    | _,_=>False
  | .call ⟨.builtin .min,args,_⟩ =>
    match evs ρ args.toList with
    | some [.val (.int k x),.val (.int _ y)]=>K (.val (.int k (Zsf x y))) h
    | _=>False
  | .call ⟨.builtin .max,args,_⟩ =>
    match evs ρ args.toList with
    | some [.val (.int k x),.val (.int _ y)]=>K (.val (.int k (ZoF x y))) h
    | _=>False
  | .call ⟨.builtin .append,args,ts⟩ =>
    match ts[0]?,(match ts[1]? with | none=>false | some t=>match c.P.underlying t with | some (.int _)=>true | some _=>false | none=>true) with
    | some t,false=>match c.P.underlying t with
      | some (.slice e)=>match ZiU c.P e,Zes c.P e,evs ρ args.toList with
        | some (size,bytes),some zs,some [.val (.slice p n m),.val (.slice p' n' m')] =>
          rdS ⟨p',n',m'⟩ size h fun new=>app e size bytes zs ⟨p,n,m⟩ n' new h fun s h'=>K (.val (.slice s.ptr s.len s.cap)) h'
        | some (size,bytes),some zs,some [.val (.slice p n m),.val (.string s)] =>
          app e size bytes zs ⟨p,n,m⟩ s.size (YV s) h fun s h'=>K (.val (.slice s.ptr s.len s.cap)) h'
        | _,_,_=>False
      | _=>False
    | _,_=>False
  | .call ⟨.value x,args,_⟩ =>
    match Zsi c.fns x with
    | f::r=>(match ρ.ev x,evs ρ args.toList with
      | some v,some es=>fnP c.calls c.pan v.v es h K (f::r)
      | _,_=>False)
    | [] =>
    match ρ.ev x with
    | some (.val (.func (.func f) ⟨[]⟩ ⟨cs⟩)) =>
      match evs ρ args.toList with
      | some es=>match Zf8 f (Zoi es cs) c.calls with
        | some ⟨s,t⟩=>s.sem t (fun r h'=>K (ZaX (Ym.evs s.res r)) h') c.pan h
        | none=>bif ZpO f c.ext then (match Zoi es cs with
          | [x]=>Zq2 x.v h fun v h'=>K (.val v) h'
          | _=>False) else False
      | none=>False
    | some (.val (.func (.yield l) ⟨[]⟩ ⟨[]⟩)) =>
      match evs ρ args.toList with
      | some es=>c.yld l (es.map EV.v) (fun b h'=>K (.val (.bool b)) h') h
      | none=>False
    | _=>False
  | .call ⟨.builtin .delete,args,ts⟩ =>
    match ts[0]?,evs ρ args.toList with
    | some t,some [.val (.map m),k]=>match c.P.underlying t with
      | some (.map kt _)=>match c.P.underlying kt with
        | some d=>bif Zmq d k.v then ZoI d h m k.v fun h'=>K (.val (.tuple #[])) h' else False
        | none=>False
      | _=>False
    | _,_=>False
  | .call ⟨.invoke x name,args,_⟩ =>
    match ρ.ev x,evs ρ args.toList with
    | some v,some es=>ZpC c.calls c.pan name v.v es h K c.dyn
    | _,_=>False
  | .call ⟨.builtin .clear,args,ts⟩ =>
    match ts[0]?,evs ρ args.toList with
    | some t,some [.val (.map m)]=>match c.P.underlying t with
      | some (.map _ _)=>ZsJ h m fun h'=>K (.val (.tuple #[])) h'
      | _=>False
    | some t,some [.val (.slice p l m)]=>match c.P.underlying t with
      | some (.slice e)=>match Zes c.P e with
        | some zs=>ZsI ⟨p,l,m⟩ zs h fun h'=>K (.val (.tuple #[])) h'
        | none=>False
      | _=>False
    | _,_=>False
  | _=>False
def ZbZ (d:Option TypeDesc) (x y:Value):Option Bool :=
  match d,x,y with
  | some (.int _),.int k a,.int k' b=>if k=k' then some (a ==b) else none
  | some .string,.string a,.string b=>some (Zbd a b)
  | some .bool,.bool a,.bool b=>some (a ==b)
  | _,_,_=>none
def Za9 (P:Program):List Field→List Value→List Value→Option Bool
  | [],_,_=>some true
  | f::fs,xs,ys =>
    bif f.name == "_" then none else
    match xs[f.offset]?,ys[f.offset]? with
    | some x,some y=>match ZbZ (P.underlying f.type) x y,Za9 P fs xs ys with
      | some a,some r=>some (bif a then r else false)
      | _,_=>none
    | _,_=>none
def ZaU (P:Program):List Field→List Value→List Value→Option Bool
  | [],_,_=>some true
  | f::fs,xs,ys =>
    bif f.name == "_" then none else
    match P.underlying f.type with
    | some (.struct gs) =>
      bif P.stoodInHeld f.type then none else
      bif Nat.ble (f.offset+P.cellsOf f.type) xs.length&&Nat.ble (f.offset+P.cellsOf f.type) ys.length then
        match Za9 P gs.toList ((xs.drop f.offset).take (P.cellsOf f.type)) ((ys.drop f.offset).take (P.cellsOf f.type)),ZaU P fs xs ys with
        | some a,some r=>some (bif a then r else false)
        | _,_=>none
      else none
    | u=>match xs[f.offset]?,ys[f.offset]? with
      | some x,some y=>match ZbZ u x y,ZaU P fs xs ys with
        | some a,some r=>some (bif a then r else false)
        | _,_=>none
      | _,_=>none
def eqS (P:Program) (t:TypeId) (fs:Array Field) (x y:EV) (K:Bool→Prop):Prop :=
  match x,y with
  | .val (.agg xs),.val (.agg ys)=>bif P.stoodInHeld t||P.eqGuardType P.depth t then False else
    match ZaU P fs.toList xs.toList ys.toList with
    | some b=>K b
    | none=>False
  | _,_=>False
def opP (c:Cfg) (o:Op) (ρ:Env) (h:Zc) (K:EV→Zc→Prop):Prop :=
  match o with
  | .move x=>match ρ.ev x with
    | some v=>K v h
    | none=>False
  | .assign x=>match ρ.ev x with
    | some (.val (.int k n))=>ZA n fun n=>K (.val (.int k n)) h
    | some (.val (.bool b))=>ZK b fun b=>K (.val (.bool b)) h
    | some v=>K v h
    | none=>False
  | .pick x a b=>match ρ.ev x,ρ.ev a,ρ.ev b with
    | some (.lit true),some a,_=>K a h
    | some (.lit false),_,some b=>K b h
    | some (.val (.bool x)),some a,some b=>match a.v,b.v with
      | .bool a,.bool b=>K (.val (.bool (bif x then a else b))) h
      | _,_=>False
    | _,_,_=>False
  | .alloc e=>match Zes c.P e with
    | some zs=>newC h zs e fun b h'=>K (.adr b 0) h'
    | none=>False
  | .box e x=>match ρ.ev x with
    | some v=>bif Zms (c.P.underlying e) then ZbA (ZV v.v=true) (newC h [v.v] e fun b h'=>K (.adr b 0) h') else newC h (ZdT v) e fun b h'=>K (.adr b 0) h'
    | none=>False
  | .build t parts=>match c.P.underlying t,Zes c.P t with
    | some (.struct fs),some zs=>match Zfh c.P fs.toList ρ zs.length parts.toList with
      | some l=>bif fs.toList.all fun f=>(c.P.info? f.type).isSome then Zpf (ZhZ c.P fs.toList ρ parts.toList) (K (.val (.agg (Za2 zs l).toArray)) h) else False
      | none=>False
    | some (.array _ e),some zs=>match Zea (c.P.cellsOf e) ρ zs.length parts.toList with
      | some l=>bif (c.P.info? e).isSome then K (.val (.agg (Za2 zs l).toArray)) h else False
      | none=>False
    | _,_=>False
  | .buildSlice t n parts=>match c.P.underlying t with
    | some (.slice e)=>match Zes c.P e,Zea (c.P.cellsOf e) ρ (n*c.P.cellsOf e) parts.toList with
      | some zs,some l=>bif Nat.ble (n*c.P.cellsOf e) ZdU then
          (bif Nat.beq zs.length (c.P.cellsOf e) then
            newC h (Za2 (YW zs n) l) e fun b h'=>K (.val (.slice (some ⟨b,0,none⟩) n n)) h' else False) else False
      | _,_=>False
    | _=>False
  | .load t a=>match ρ.ev a with
    | some x=>atP x fun b o=>ldT c.P t h b o fun v=>K v h
    | none=>False
  | .store t a x=>match ρ.ev a,ρ.ev x with
    | some a,some x=>atP a fun b o=>stT c.P t h b o x fun h'=>K (.val undef) h'
    | _,_=>False
  | .nilCheck x=>match ρ.ev x with
    | some x=>atP x fun b o=>K (.adr b o) h
    | none=>False
  | .binOp op t x yo _=>match ρ.ev x,ρ.ev yo with
    | some x,some y=>match op,c.P.underlying t with
      | .eql,some (.int _) | .eql,some .string=>ZoS op x y fun v=>K v h
      | .neq,some (.int _) | .neq,some .string=>ZoS op x y fun v=>K v h
      | .eql,some (.struct fs)=>eqS c.P t fs x y fun b=>K (.val (.bool b)) h
      | .neq,some (.struct fs)=>eqS c.P t fs x y fun b=>K (.val (.bool (!b))) h
      | .eql,some (.interface _)=>match yo with
        | .const .nilIface=>Zep x.v fun b=>K (.val (.bool b)) h
        | _=>False
      | .neq,some (.interface _)=>match yo with
        | .const .nilIface=>Zep x.v fun b=>K (.val (.bool (!b))) h
        | _=>False
      | .eql,some (.func _ _ _)=>match yo with
        | .const .nilFunc=>Zmt x.v fun b=>K (.val (.bool b)) h
        | _=>False
      | .neq,some (.func _ _ _)=>match yo with
        | .const .nilFunc=>Zmt x.v fun b=>K (.val (.bool (!b))) h
        | _=>False
      | .eql,d=>eqP d false x y fun v=>K v h
      | .neq,d=>eqP d true x y fun v=>K v h
      | _,_=>ZoS op x y fun v=>K v h
    | _,_=>False
  | .unOp op _ x=>match op,ρ.ev x with
    | .not,some (.lit b)=>K (.lit (!b)) h
    | .not,some (.val (.bool b))=>K (.val (.bool (!b))) h
    | .neg,some (.val (.int k n))=>K (.val (.int k (k.wrap (0 - n)))) h
    | _,_=>False
  | .convert s d x=>match c.P.underlying s,c.P.underlying d,ρ.ev x with
    | some (.int _),some (.int k),some (.val (.int _ n))=>K (.val (.int k (k.wrap n))) h
    | some .string,some .string,some (.val (.string s))=>K (.val (.string s)) h
    | some .string,some (.slice e),some (.val (.string s))=>match c.P.underlying e with
      | some (.int .u8)=>s2b e s h fun x h'=>K (.val (.slice x.ptr x.len x.cap)) h'
      | _=>False
    | some (.slice e),some .string,some (.val (.slice p l m))=>match c.P.underlying e with
      | some (.int .u8)=>b2s ⟨p,l,m⟩ h fun s=>K (.val (.string s)) h
      | _=>False
    | some (.slice _),some (.slice e),some (.val (.slice p l m))=>match c.P.underlying e with
      | some (.int .u8)=>bif Nat.beq s d then Zsg p h fun h'=>K (.val (.slice p l m)) h' else False
      | _=>False
    | _,_,_=>False
  | .makeSlice t l m=>match c.P.underlying t,ρ.ev l,ρ.ev m with
    | some (.slice e),some (.val (.int _ l)),some (.val (.int _ m))=>match ZiU c.P e,Zes c.P e with
      | some (size,bytes),some zs=>bif Nat.beq zs.length size then mkS e bytes zs l m h fun s h'=>K (.val (.slice s.ptr s.len s.cap)) h' else False
      | _,_=>False
    | _,_,_=>False
  | .slice t x lo hi mx=>match c.P.underlying t,ρ.ev x with
    | some .string,some (.val (.string s))=>match mx,ZoB 0 (lo.map ρ.ev),ZoB s.size (hi.map ρ.ev) with
      | none,some lo,some hi=>ZiT s lo hi fun s=>K (.val (.string s)) h
      | _,_,_=>False
    | some (.slice e),some (.val (.slice p l m))=>match ZoB 0 (lo.map ρ.ev),ZoB l (hi.map ρ.ev),ZoB m (mx.map ρ.ev),ZiU c.P e with
      | some lo,some up,some most,some (size,_)=>bif hi.isNone&&mx.isSome then False else slc p m size lo up most fun s=>K (.val (.slice s.ptr s.len s.cap)) h
      | _,_,_,_=>False
    | _,_=>False
  | .fieldAddr s x f=>match c.P.underlying s,ρ.ev x with
    | some (.struct fs),some x=>match fs.toList[f]? with
      | some fd=>bif Nat.beq (c.P.cellsOf fd.type) 0 then False else atP x fun b o=>K (.adr b (Zq8 o fd.offset)) h
      | none=>False
    | _,_=>False
  | .field s x f=>match c.P.underlying s,ρ.ev x with
    | some (.struct fs),some (.val (.agg cs))=>match fs.toList[f]? with
      | some fd=>bif (c.P.underlying fd.type).isNone then False else bif Xd (c.P.underlying fd.type) then K (.val (.agg ((cs.toList.drop fd.offset).take (c.P.cellsOf fd.type)).toArray)) h
        else match cs.toList[fd.offset]? with
          | some v=>K (.val v) h
          | none=>False
      | none=>False
    | _,_=>False
  | .indexAddr t x i=>match c.P.underlying t,ρ.ev x,ρ.ev i with
    | some (.slice e),some (.val (.slice p l _)),some (.val (.int _ i))=>match ZiU c.P e with
      | some (size,_)=>ZiN p l i size fun b o=>K (.adr b o) h
      | none=>False
    | some (.array n e),some x,some (.val (.int _ i))=>match ZiU c.P e with
      | some (size,_)=>atP x fun b o=>ZsF n i fun j=>K (.adr b (o+j*size)) h
      | none=>False
    | _,_,_=>False
  | .index t x i=>match c.P.underlying t,ρ.ev x,ρ.ev i with
    | some .string,some (.val (.string s)),some (.val (.int _ i))=>Zmv s i fun n=>K (.val (.int .u8 n)) h
    | some (.array n e),some (.val (.agg cs)),some (.val (.int _ i))=>match c.P.underlying e with
      | some (.struct _)=>bif Nat.beq cs.toList.length (n*c.P.cellsOf e) then ZsF n i fun j=>ZpS c.P e (.agg ⟨(cs.toList.drop (j*c.P.cellsOf e)).take (c.P.cellsOf e)⟩) fun v=>K v h else False
      | _=>False
    | _,_,_=>False
  | .extract x i=>match ρ.ev x with
    | some (.more _ _)=>bif Nat.beq i 0 then K (.lit true) h else False
    | some .over=>bif Nat.beq i 0 then K (.lit false) h else False
    | some (.val (.tuple vs))=>match vs.toList[i]? with
      | some v=>K (.val v) h
      | none=>False
    | _=>False
  | .call _=>Zgd c o ρ h K
  | .panic x=>match ρ.ev x with
    | some (.val (.iface t v))=>c.pan (.iface t v) h
    | _=>False
  | .makeFunc (.func f) first caps=>match first.toList,evs ρ caps.toList with
    | [],some es=>K (.val (.func (.func f) ⟨[]⟩ ⟨es.map EV.v⟩)) h
    | _,_=>False
  | .makeMap _ none=>ZqI h fun b h'=>K (.val (.map (some b))) h'
  | .lookup t x i ok=>match c.P.underlying t,ρ.ev x,ρ.ev i with
    | some (.map kt et),some (.val (.map m)),some k=>match c.P.underlying kt,ZoX c.P et with
      | some d,some z=>Zje c.P kt d h m k.v fun r=>ZpS c.P et (r.getD z) fun v=>K (bif ok then .val (.tuple #[v.v,.bool r.isSome]) else v) h
      | _,_=>False
    | _,_,_=>False
  | .mapUpdate t m k x=>match c.P.underlying t,ρ.ev m,ρ.ev k,ρ.ev x with
    | some (.map kt _),some (.val (.map m)),some k,some x=>match c.P.underlying kt with
      | some d=>Zjc c.P kt d h m k.v x.v fun h'=>K (.val undef) h'
      | none=>False
    | _,_,_,_=>False
  | .range t x=>match c.P.underlying t,ρ.ev x with
    | some (.map _ _),some (.val (.map m))=>rgM h m fun b h'=>K (.itr t b) h'
    | _,_=>False
  | .next x false=>match ρ.ev x with
    | some (.itr _ b)=>Zsc h b (fun k v h'=>K (.more k v) h') (K .over h)
    | _=>False
  | .entry x=>match ρ.ev x with
    | some (.itr t b)=>match c.P.underlying t with
      | some (.map kt et)=>ZuP h b fun k v=>ZpS c.P kt k fun k'=>ZpS c.P et v fun v'=>K (.val (.tuple #[k'.v,v'.v])) h
      | _=>False
    | _=>False
  | .makeInterface t x=>match ρ.ev x with
    | some v=>bif ZbS (c.P.underlying t) then False else K (.val (.iface t v.v)) h
    | none=>False
  | .typeAssert x _ t ok=>match ρ.ev x with
    | some v=>bif ZbS (c.P.underlying t) then False else bif ok then (match v with
      | .val (.iface t' u)=>bif Nat.beq t' t then K (.val (.tuple #[u,.bool true])) h else False
      | _=>False) else asT v.v t fun y=>Zkn (c.P.underlying t) y fun u=>K u h
    | none=>False
  | _=>False
end Go.Fw
