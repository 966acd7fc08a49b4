/- The models of the functions. Written by a program out of the translated functions. -/
import GoSem.Machine.Frame
import GoSem.Op.String
import Derived.Test.YtpjbjdheeemdiaaGreatDoorPa1
set_option linter.unusedVariables false
set_option linter.unusedSimpArgs false
namespace Go.Proofs.YtpjbjdheeemdiaaGreatDoor
open Go Go.Fw
abbrev zT0:=ByteArray→Int→(Int→HP)→HP
abbrev zT1:=(Option Addr)→(HP)→HP
def XN (f0:zT0) (r:Option Addr) (K:HP) (h:Zc):Prop :=
 ZbK (σ:=Unit) (fun J1 s h2 =>
 Ze r fun b o =>
 ldI h2 b (o+1) .i64 fun t =>
 Ze r fun b3 o4 =>
 ldS h2 b3 o4 fun t5 =>
 ZD (decide (t<(t5.size:Int))) (
 Ze r fun b6 o7 =>
 ldS h2 b6 o7 fun t8 =>
 Ze r fun b9 o10 =>
 ldI h2 b9 (o10+1) .i64 fun t11 =>
 ZmK t8 t11 fun t12 =>
 ZkZ (ρ:=Int × Unit) (fun K h=>f0 (ByteArray.mk #[32,9,10,13]) t12 (fun q h=>K (q,()) h) h) h2 fun r14 =>
 ZD (decide (r14.1≥0)) (
 Ze r fun b15 o16 =>
 ldI h2 b15 (o16+1) .i64 fun t17 =>
 Ze r fun b18 o19 =>
 st h2 b18 (o19+1) (.int .i64 (IntKind.wrap .i64 (t17+1))) fun h20 =>
 J1 (()) h20) (
 K h2)) (
 K h2)) (()) h
def Zv:zT1:=XN ZY
abbrev zT2:=(Option Addr)→(Int→HP)→HP
def Zal (r:Option Addr) (K:Int→HP) (h:Zc):Prop :=
 Zy 0 fun t =>
 Ze r fun b o =>
 ldI h b (o+1) .i64 fun t1 =>
 Ze r fun b2 o3 =>
 ldS h b2 o3 fun t4 =>
 ZD (decide (t1<(t4.size:Int))) (
 Ze r fun b5 o6 =>
 ldS h b5 o6 fun t7 =>
 Ze r fun b8 o9 =>
 ldI h b8 (o9+1) .i64 fun t10 =>
 ZmK t7 t10 fun t11 =>
 Zy t11 fun t12 =>
 K t12 h) (
 Zy 0 fun t13 =>
 K t13 h)
def Zi:zT2:=Zal
abbrev zT3:=(Option Addr)→Int→Int→(HP)→(Value→HP)→HP
def YR (r:Option Addr) (e:Int) (at_:Int) (K:HP) (P:Value→HP) (h:Zc):Prop :=
 Ze r fun b o =>
 ldS h b o fun t =>
 ZD (decide (at_≥(t.size:Int))) (
 Ze r fun b1 o2 =>
 ldS h b1 o2 fun t3 =>
 P (.iface 160 (.agg #[.int .i64 24,.int .i64 (t3.size:Int)])) h) (
 P (.iface 160 (.agg #[.int .i64 e,.int .i64 at_])) h)
def Zf:zT3:=YR
abbrev zT5:=(Option Addr)→(HP)→HP
abbrev zT6:=(Option Addr)→Int→(Value→HP)→HP
def Ye (f5:zT5) (b:Option Addr) (c:Int) (K:Value→HP) (h:Zc):Prop :=
 f5 b (fun h1 =>
 Ze b fun b2 o =>
 ldL h1 b2 (o+1) fun t =>
 newC h1 [.int .u8 c] 5 fun b3 h4 =>
 rdS ⟨some ⟨b3,0,none⟩,1,1⟩ 1 h4 fun new=>app 5 1 1 [.int .u8 0] t 1 new h4 fun t5 h6 =>
 Ze b fun b7 o8 =>
 st h6 b7 (o8+1) (.slice t5.ptr t5.len t5.cap) fun h9 =>
 K .nilIface h9) h
def Zl:zT6:=Ye Zx
abbrev zT7:=(Option Addr)→(Int→HP)→(Value→HP)→HP
def Zau (f2:zT2) (f3:zT3) (r:Option Addr) (K:Int→HP) (P:Value→HP) (h:Zc):Prop :=
 Zy 0 fun t =>
 Zy 0 fun n =>
 ZbK (σ:=Int × Int × Unit) (fun J2 s h3 =>
 (fun (n1:Int) (s5:Int) =>
 ZD (decide (s5<4)) (
 f2 r (fun t4 h5 =>
 Zy t4 fun c =>
 Zcn (σ:=Int × Unit) (fun s33 h34 =>
 (fun (n32:Int) =>
 Ze r fun b35 o36 =>
 ldI h34 b35 (o36+1) .i64 fun t37 =>
 Ze r fun b38 o39 =>
 st h34 b38 (o39+1) (.int .i64 (IntKind.wrap .i64 (t37+1))) fun h40 =>
 J2 (n32,IntKind.wrap .i64 (s5+1),()) h40) s33.1) (fun J6 =>
 Zcn (σ:=Bool × Unit) (fun s9 h10 =>
 (fun (s15:Bool) =>
 ZD s15 (
 Zbd (0≤(4:Int)) <|
 Zy (orV .i32 (Znv .i32 n1 4) (IntKind.wrap .i32 (IntKind.wrap .u8 (c - 48)))) fun n11 =>
 J6 (n11,()) h10) (
 ZD (decide (c≥97)) (
 ZK (decide (c≤102)) fun t12 =>
 ZD t12 (
 Zbd (0≤(4:Int)) <|
 Zy (orV .i32 (Znv .i32 n1 4) (IntKind.wrap .i32 (IntKind.wrap .u8 ((IntKind.wrap .u8 (c - 97))+10)))) fun n13 =>
 J6 (n13,()) h10) (
 ZD (decide (c≥65)) (
 ZK (decide (c≤70)) fun t14 =>
 ZD t14 (
 Zbd (0≤(4:Int)) <|
 Zy (orV .i32 (Znv .i32 n1 4) (IntKind.wrap .i32 (IntKind.wrap .u8 ((IntKind.wrap .u8 (c - 65))+10)))) fun n15 =>
 J6 (n15,()) h10) (
 Ze r fun b o =>
 ldI h10 b (o+1) .i64 fun t16 =>
 f3 r 22 t16 (fun h17 =>
 J6 (n1,()) h17) P h10)) (
 Ze r fun b18 o19 =>
 ldI h10 b18 (o19+1) .i64 fun t20 =>
 f3 r 22 t20 (fun h21 =>
 J6 (n1,()) h21) P h10))) (
 ZD (decide (c≥65)) (
 ZK (decide (c≤70)) fun t22 =>
 ZD t22 (
 Zbd (0≤(4:Int)) <|
 Zy (orV .i32 (Znv .i32 n1 4) (IntKind.wrap .i32 (IntKind.wrap .u8 ((IntKind.wrap .u8 (c - 65))+10)))) fun n23 =>
 J6 (n23,()) h10) (
 Ze r fun b24 o25 =>
 ldI h10 b24 (o25+1) .i64 fun t26 =>
 f3 r 22 t26 (fun h27 =>
 J6 (n1,()) h27) P h10)) (
 Ze r fun b28 o29 =>
 ldI h10 b28 (o29+1) .i64 fun t30 =>
 f3 r 22 t30 (fun h31 =>
 J6 (n1,()) h31) P h10)))) s9.1) (fun J7 =>
 ZD (decide (c≥48)) (
 ZK (decide (c≤57)) fun t8 =>
 J7 (t8,()) h5) (
 J7 (false,()) h5)))) h3) (
 Zy n1 fun t41 =>
 K t41 h3)) s.1 s.2.1) (n,0,()) h
def Y1:zT7:=Zau Zi Zf
abbrev zT8:=ByteArray→ByteArray→(Bool→HP)→HP
def ZV (s:ByteArray) (prefix_:ByteArray) (K:Bool→HP) (h:Zc):Prop :=
 ZD (decide ((s.size:Int)≥(prefix_.size:Int))) (
 Zi3 s 0 (prefix_.size:Int) fun t =>
 ZK (ZaK t prefix_) fun t1 =>
 K t1 h) (
 K false h)
def Zn:zT8:=ZV
abbrev zT9:=ByteArray→ByteArray→(Bool→HP)→HP
def XX (f8:zT8) (s:ByteArray) (prefix_:ByteArray) (K:Bool→HP) (h:Zc):Prop :=
 f8 s prefix_ (fun t h1 =>
 ZK t fun t2 =>
 K t2 h1) h
def YE:zT9:=XX Zn
abbrev ZqF:=Sl→Int→(Sl→HP)→HP
def Yd (p:Sl) (r:Int) (K:Sl→HP) (h:Zc):Prop :=
 Zy (IntKind.wrap .u32 r) fun i =>
 ZK (decide (i≤2047)) fun t =>
 ZD t (
 Zbd (0≤(6:Int)) <|
 newC h [.int .u8 (orV .u8 (192:Int) (IntKind.wrap .u8 (ZkN .i32 r 6))),.int .u8 (orV .u8 (128:Int) (ZkB .u8 (IntKind.wrap .u8 r) 63))] 5 fun b h1 =>
 rdS ⟨some ⟨b,0,none⟩,2,2⟩ 1 h1 fun new=>app 5 1 1 [.int .u8 0] p 2 new h1 fun t2 h3 =>
 K t2 h3) (
 Zcn (σ:=Bool × Unit) (fun s h7 =>
 (fun (s25:Bool) =>
 ZD s25 (
 Zbd (0≤(12:Int)) <|
 Zbd (0≤(6:Int)) <|
 newC h7 [.int .u8 (orV .u8 (224:Int) (IntKind.wrap .u8 (ZkN .i32 r 12))),.int .u8 (orV .u8 (128:Int) (ZkB .u8 (IntKind.wrap .u8 (ZkN .i32 r 6)) 63)),.int .u8 (orV .u8 (128:Int) (ZkB .u8 (IntKind.wrap .u8 r) 63))] 5 fun b8 h9 =>
 rdS ⟨some ⟨b8,0,none⟩,3,3⟩ 1 h9 fun new12=>app 5 1 1 [.int .u8 0] p 3 new12 h9 fun t10 h11 =>
 K t10 h11) (
 ZD (decide (i>65535)) (
 ZK (decide (i≤1114111)) fun t13 =>
 ZD t13 (
 Zbd (0≤(18:Int)) <|
 Zbd (0≤(12:Int)) <|
 Zbd (0≤(6:Int)) <|
 newC h7 [.int .u8 (orV .u8 (240:Int) (IntKind.wrap .u8 (ZkN .i32 r 18))),.int .u8 (orV .u8 (128:Int) (ZkB .u8 (IntKind.wrap .u8 (ZkN .i32 r 12)) 63)),.int .u8 (orV .u8 (128:Int) (ZkB .u8 (IntKind.wrap .u8 (ZkN .i32 r 6)) 63)),.int .u8 (orV .u8 (128:Int) (ZkB .u8 (IntKind.wrap .u8 r) 63))] 5 fun b14 h15 =>
 rdS ⟨some ⟨b14,0,none⟩,4,4⟩ 1 h15 fun new18=>app 5 1 1 [.int .u8 0] p 4 new18 h15 fun t16 h17 =>
 K t16 h17) (
 newC h7 [.int .u8 239,.int .u8 191,.int .u8 189] 5 fun b19 h20 =>
 rdS ⟨some ⟨b19,0,none⟩,3,3⟩ 1 h20 fun new23=>app 5 1 1 [.int .u8 0] p 3 new23 h20 fun t21 h22 =>
 K t21 h22)) (
 newC h7 [.int .u8 239,.int .u8 191,.int .u8 189] 5 fun b24 h25 =>
 rdS ⟨some ⟨b24,0,none⟩,3,3⟩ 1 h25 fun new28=>app 5 1 1 [.int .u8 0] p 3 new28 h25 fun t26 h27 =>
 K t26 h27))) s.1) (fun J4 =>
 ZK (decide (i<55296)) fun t5 =>
 ZD t5 (
 J4 (t5,()) h) (
 ZD (decide ((57343:Int)<i)) (
 ZK (decide (i≤65535)) fun t6 =>
 J4 (t6,()) h) (
 J4 (false,()) h))))
def ZQ:ZqF:=Yd
abbrev ZqE:=Sl→Int→(Sl→HP)→HP
def YU (f10:ZqF) (p:Sl) (r:Int) (K:Sl→HP) (h:Zc):Prop :=
 ZD (decide ((IntKind.wrap .u32 r)≤127)) (
 newC h [.int .u8 (IntKind.wrap .u8 r)] 5 fun b h1 =>
 rdS ⟨some ⟨b,0,none⟩,1,1⟩ 1 h1 fun new=>app 5 1 1 [.int .u8 0] p 1 new h1 fun t h2 =>
 K t h2) (
 f10 p r (fun t3 h4 =>
 K t3 h4) h)
def Z4:ZqE:=YU ZQ
abbrev ZqD:=(Option Addr)→Int→(Int→Value→HP)→HP
def YI (f5:zT5) (f11:ZqE) (b:Option Addr) (r:Int) (K:Int→Value→HP) (h:Zc):Prop :=
 Zy 0 fun t =>
 f5 b (fun h1 =>
 Ze b fun b2 o =>
 ldL h1 b2 (o+1) fun t3 =>
 Zy (t3.len:Int) fun n =>
 Ze b fun b4 o5 =>
 ldL h1 b4 (o5+1) fun t6 =>
 f11 t6 r (fun t7 h8 =>
 Ze b fun b9 o10 =>
 st h8 b9 (o10+1) (.slice t7.ptr t7.len t7.cap) fun h11 =>
 Ze b fun b12 o13 =>
 ldL h11 b12 (o13+1) fun t14 =>
 Zy (IntKind.wrap .i64 ((t14.len:Int) - n)) fun t15 =>
 K t15 .nilIface h11) h1) h
def ZZ:ZqD:=YI Zx Z4
abbrev ZqC:=(Option Addr)→(Option Addr)→(HP)→(Value→HP)→HP
def XL (f2:zT2) (f0:zT0) (f6:zT6) (f3:zT3) (f7:zT7) (f9:zT9) (f12:ZqD) (r:Option Addr) (b:Option Addr) (K:HP) (P:Value→HP) (h:Zc):Prop :=
 f2 r (fun t h1 =>
 Zy t fun c =>
 Zcn (σ:=Unit) (fun s h19 =>
 Zcn (σ:=Unit) (fun s25 h26 =>
 Ze r fun b27 o28 =>
 ldI h26 b27 (o28+1) .i64 fun t29 =>
 Ze r fun b30 o31 =>
 st h26 b30 (o31+1) (.int .i64 (IntKind.wrap .i64 (t29+1))) fun h32 =>
 f7 r (fun t33 h34 =>
 Zy t33 fun n =>
 Zcn (σ:=Unit) (fun s68 h69 =>
 Zcn (σ:=Int × Unit) (fun s73 h74 =>
 (fun (n72:Int) =>
 f12 b n72 (fun t75 t76 h77 =>
 K h77) h74) s73.1) (fun J70 =>
 ZD (decide (n≥55296)) (
 ZD (decide (n<57344)) (
 Zy 65533 fun n71 =>
 J70 (n71,()) h69) (
 J70 (n,()) h69)) (
 J70 (n,()) h69))) (fun J35 =>
 Zcn (σ:=Bool × Unit) (fun s46 h47 =>
 (fun (s72:Bool) =>
 ZD s72 (
 Ze r fun b48 o49 =>
 ldI h47 b48 (o49+1) .i64 fun t50 =>
 Zy t50 fun was =>
 Ze r fun b51 o52 =>
 ldI h47 b51 (o52+1) .i64 fun t53 =>
 Ze r fun b54 o55 =>
 st h47 b54 (o55+1) (.int .i64 (IntKind.wrap .i64 (t53+2))) fun h56 =>
 f7 r (fun t57 h58 =>
 Zy t57 fun low =>
 ZD (decide (low≥56320)) (
 ZD (decide (low<57344)) (
 Zbd (0≤(10:Int)) <|
 f12 b (IntKind.wrap .i32 ((IntKind.wrap .i32 ((65536:Int)+(Znv .i32 (IntKind.wrap .i32 (n - 55296)) 10)))+(IntKind.wrap .i32 (low - 56320)))) (fun t59 t60 h61 =>
 K h61) h58) (
 Ze r fun b62 o63 =>
 st h58 b62 (o63+1) (.int .i64 was) fun h64 =>
 J35 (()) h64)) (
 Ze r fun b65 o66 =>
 st h58 b65 (o66+1) (.int .i64 was) fun h67 =>
 J35 (()) h67)) P h56) (
 J35 (()) h47)) s46.1) (fun J36 =>
 ZD (decide (n≥55296)) (
 ZD (decide (n<56320)) (
 Ze r fun b37 o38 =>
 ldS h34 b37 o38 fun t39 =>
 Ze r fun b40 o41 =>
 ldI h34 b40 (o41+1) .i64 fun t42 =>
 Zi3 t39 t42 t39.size fun t43 =>
 ZkZ (ρ:=Bool × Unit) (fun K h=>f9 t43 (ByteArray.mk #[92,117]) (fun q h=>K (q,()) h) h) h34 fun r45 =>
 J36 (r45.1,()) h34) (
 J36 (false,()) h34)) (
 J36 (false,()) h34)))) P h32) (fun J20 =>
 ZD (c !=117) (
 Ze r fun b21 o22 =>
 ldI h19 b21 (o22+1) .i64 fun t23 =>
 f3 r 22 t23 (fun h24 =>
 J20 (()) h24) P h19) (
 J20 (()) h19))) (fun J2 =>
 f0 (ByteArray.mk #[34,92,47,98,102,110,114,116]) c (fun t3 h4 =>
 Zy t3 fun i =>
 ZD (decide (i≥0)) (
 Ze r fun b5 o =>
 ldI h4 b5 (o+1) .i64 fun t6 =>
 Ze r fun b7 o8 =>
 ldS h4 b7 o8 fun t9 =>
 ZD (decide (t6<(t9.size:Int))) (
 ZmK (ByteArray.mk #[34,92,47,8,12,10,13,9]) i fun t10 =>
 f6 b t10 (fun t11 h12 =>
 Ze r fun b13 o14 =>
 ldI h12 b13 (o14+1) .i64 fun t15 =>
 Ze r fun b16 o17 =>
 st h12 b16 (o17+1) (.int .i64 (IntKind.wrap .i64 (t15+1))) fun h18 =>
 K h18) h4) (
 J2 (()) h4)) (
 J2 (()) h4)) h1)) h
def YA:ZqC:=XL Zi ZY Zl Zf Y1 YE ZZ
abbrev Zsg:=ByteArray→(Int→HP)→HP
abbrev Zly:=ByteArray→(Bool→HP)→HP
abbrev ZqB:=ByteArray→(Bool→HP)→HP
def Zb7 (f14:Zsg) (f15:Zly) (s:ByteArray) (K:Bool→HP) (h:Zc):Prop :=
 newC h [.string (ByteArray.mk #[128,128,128]),.string (ByteArray.mk #[144,128,128]),.string (ByteArray.mk #[160,128,128])] 9 fun b h1 =>
 ZbK (σ:=Int × Unit) (fun J2 s3 h4 =>
 (fun (s11:Int) =>
 ZD (decide (s11<(3:Int))) (
 ZgU (some ⟨b,0,none⟩) 3 s11 1 fun b5 o =>
 ldS h4 b5 o fun t =>
 Zy (s.size:Int) fun k =>
 ZbK (σ:=Int × Unit) (fun J7 s8 h9 =>
 (fun (k6:Int) =>
 ZD (decide (k6<4)) (
 Zi3 t 0 (IntKind.wrap .i64 (k6 - (s.size:Int))) fun t10 =>
 Zku s t10 fun s12 =>
 f14 s12 (fun t13 h14 =>
 Zy t13 fun n =>
 ZD (n ==1) (
 f15 s12 (fun t15 h16 =>
 ZD t15 (
 K true h16) (
 Zy (IntKind.wrap .i64 (k6+1)) fun k17 =>
 J7 (k17,()) h16)) h14) (
 Zy (IntKind.wrap .i64 (k6+1)) fun k18 =>
 J7 (k18,()) h14)) h9) (
 ZD (decide ((s.size:Int)<4)) (
 Zku s t fun s19 =>
 Zi3 s19 0 4 fun t20 =>
 f15 t20 (fun t21 h22 =>
 ZD t21 (
 Zku s t fun s23 =>
 Zi3 s23 0 4 fun t24 =>
 f14 t24 (fun t25 h26 =>
 ZD (t25 ==1) (
 K true h26) (
 J2 (IntKind.wrap .i64 (s11+1),()) h26)) h22) (
 J2 (IntKind.wrap .i64 (s11+1),()) h22)) h9) (
 J2 (IntKind.wrap .i64 (s11+1),()) h9))) s8.1) (k,()) h4) (
 f15 s (fun t27 h28 =>
 ZD t27 (
 f14 s (fun t29 h30 =>
 ZK (t29 ==1) fun t31 =>
 K t31 h30) h28) (
 K false h28)) h4)) s3.1) (0,()) h1
def Zag:ZqB:=Zb7 ZT Zw
abbrev ZlC:=(Option Addr)→ByteArray→(Int→Value→HP)→HP
def Z7 (f5:zT5) (b:Option Addr) (s:ByteArray) (K:Int→Value→HP) (h:Zc):Prop :=
 Zy 0 fun t =>
 f5 b (fun h1 =>
 Ze b fun b2 o =>
 ldL h1 b2 (o+1) fun t3 =>
 app 5 1 1 [.int .u8 0] t3 s.size (YY s) h1 fun t4 h5 =>
 Ze b fun b6 o7 =>
 st h5 b6 (o7+1) (.slice t4.ptr t4.len t4.cap) fun h8 =>
 Zy (s.size:Int) fun t9 =>
 K t9 .nilIface h8) h
def Zk:ZlC:=Z7 Zx
abbrev ZqA:=(Option Addr)→(Option Addr)→(HP)→(Value→HP)→HP
def X1 (f3:zT3) (f16:ZqB) (f15:Zly) (f17:ZlC) (r:Option Addr) (b:Option Addr) (K:HP) (P:Value→HP) (h:Zc):Prop :=
 Zy 1 fun k =>
 ZbK (σ:=Int × Unit) (fun J2 s h3 =>
 (fun (k1:Int) =>
 Zcn (σ:=Unit) (fun s13 h14 =>
 Ze r fun b15 o16 =>
 ldS h14 b15 o16 fun t17 =>
 Ze r fun b18 o19 =>
 ldI h14 b18 (o19+1) .i64 fun t20 =>
 Ze r fun b21 o22 =>
 ldI h14 b21 (o22+1) .i64 fun t23 =>
 Zi3 t17 t20 (IntKind.wrap .i64 (t23+k1)) fun t24 =>
 Zcn (σ:=Unit) (fun s32 h33 =>
 f15 t24 (fun t34 h35 =>
 ZD t34 (
 f17 b t24 (fun t36 t37 h38 =>
 Ze r fun b39 o40 =>
 ldI h38 b39 (o40+1) .i64 fun t41 =>
 Ze r fun b42 o43 =>
 st h38 b42 (o43+1) (.int .i64 (IntKind.wrap .i64 (t41+k1))) fun h44 =>
 K h44) h35) (
 Zy (IntKind.wrap .i64 (k1+1)) fun k45 =>
 J2 (k45,()) h35)) h33) (fun J25 =>
 f16 t24 (fun t26 h27 =>
 ZD (!t26) (
 Ze r fun b28 o29 =>
 ldI h27 b28 (o29+1) .i64 fun t30 =>
 f3 r 22 (IntKind.wrap .i64 ((IntKind.wrap .i64 (t30+k1)) - 1)) (fun h31 =>
 J25 (()) h31) P h27) (
 J25 (()) h27)) h14)) (fun J4 =>
 Ze r fun b5 o =>
 ldI h3 b5 (o+1) .i64 fun t =>
 Ze r fun b6 o7 =>
 ldS h3 b6 o7 fun t8 =>
 ZD (decide ((IntKind.wrap .i64 (t+k1))>(t8.size:Int))) (
 Ze r fun b9 o10 =>
 ldS h3 b9 o10 fun t11 =>
 f3 r 24 (t11.size:Int) (fun h12 =>
 J4 (()) h12) P h3) (
 J4 (()) h3))) s.1) (k,()) h
def YG:ZqA:=X1 Zf Zag Zw Zk
abbrev zT4:=(Option Addr)→(ByteArray→HP)→HP
abbrev ZoE:=(Option Addr)→(ByteArray→HP)→(Value→HP)→HP
def Zaj (f2:zT2) (f3:zT3) (f4:zT4) (f13:ZqC) (f6:zT6) (f18:ZqA) (r:Option Addr) (K:ByteArray→HP) (P:Value→HP) (h:Zc):Prop :=
 Ze r fun b o =>
 ldI h b (o+1) .i64 fun t =>
 Ze r fun b1 o2 =>
 st h b1 (o2+1) (.int .i64 (IntKind.wrap .i64 (t+1))) fun h3 =>
 newC h3 [.pointer none,.slice none 0 0] 188 fun b4 h5 =>
 ZbK (σ:=Unit) (fun J6 s h7 =>
 f2 r (fun t8 h9 =>
 Zy t8 fun c =>
 Zcn (σ:=Bool × Unit) (fun s18 h19 =>
 (fun (s16:Bool) =>
 ZD s16 (
 Ze r fun b20 o21 =>
 ldI h19 b20 (o21+1) .i64 fun t22 =>
 f3 r 22 t22 (fun h23 =>
 J6 (()) h23) P h19) (
 ZK (c ==34) fun t24 =>
 ZD t24 (
 Ze r fun b25 o26 =>
 ldI h19 b25 (o26+1) .i64 fun t27 =>
 Ze r fun b28 o29 =>
 st h19 b28 (o29+1) (.int .i64 (IntKind.wrap .i64 (t27+1))) fun h30 =>
 f4 (some ⟨b4,0,none⟩) (fun t31 h32 =>
 K t31 h32) h30) (
 ZK (c ==92) fun t33 =>
 ZD t33 (
 Ze r fun b34 o35 =>
 ldI h19 b34 (o35+1) .i64 fun t36 =>
 Ze r fun b37 o38 =>
 st h19 b37 (o38+1) (.int .i64 (IntKind.wrap .i64 (t36+1))) fun h39 =>
 f13 r (some ⟨b4,0,none⟩) (fun h40 =>
 J6 (()) h40) P h39) (
 ZK (decide (c<128)) fun t41 =>
 ZD t41 (
 f6 (some ⟨b4,0,none⟩) c (fun t42 h43 =>
 Ze r fun b44 o45 =>
 ldI h43 b44 (o45+1) .i64 fun t46 =>
 Ze r fun b47 o48 =>
 st h43 b47 (o48+1) (.int .i64 (IntKind.wrap .i64 (t46+1))) fun h49 =>
 J6 (()) h49) h19) (
 f18 r (some ⟨b4,0,none⟩) (fun h50 =>
 J6 (()) h50) P h19))))) s18.1) (fun J10 =>
 Ze r fun b11 o12 =>
 ldI h9 b11 (o12+1) .i64 fun t13 =>
 Ze r fun b14 o15 =>
 ldS h9 b14 o15 fun t16 =>
 ZD (decide (t13≥(t16.size:Int))) (
 J10 (true,()) h9) (
 ZK (decide (c<32)) fun t17 =>
 J10 (t17,()) h9))) h7) (()) h5
def Yc:ZoE:=Zaj Zi Zf ZS YA Zl YG
abbrev Zhd:=(Option Addr)→Int→((Int × ByteArray × Sl × Sl × Unit)→HP)→(Value→HP)→HP
abbrev Zqz:=(Option Addr)→(Option Addr)→Int→(HP)→(Value→HP)→HP
def Zak (f1:zT1) (f2:zT2) (f3:zT3) (f19:ZoE) (f20:Zhd) (r:Option Addr) (v:Option Addr) (deep:Int) (K:HP) (P:Value→HP) (h:Zc):Prop :=
 f1 r (fun h1 =>
 Zcn (σ:=Unit) (fun s39 h40 =>
 Ze v fun b41 o42 =>
 ldL h40 b41 (o42+2) fun t43 =>
 Zlt (
 f20 r deep (fun t44 h45 =>
 Zbd (ZcI h45 [(b41,o42+2,.slice t43.ptr t43.len t43.cap)]) <|
 newC h45 [.int .u8 0,.string (ByteArray.mk #[]),.slice none 0 0,.slice none 0 0] 33 fun b46 h47 =>
 Zbd (ZcI h47 [(b41,o42+2,.slice t43.ptr t43.len t43.cap)]) <|
 rdS ⟨some ⟨b46,0,none⟩,1,1⟩ 4 h47 fun new50=>app 33 4 72 [.int .u8 0,.string (ByteArray.mk #[]),.slice none 0 0,.slice none 0 0] t43 1 new50 h47 fun t48 h49 =>
 ZgU t48.ptr t48.len (t43.len:Int) 4 fun b51 o52 =>
 Ze v fun b53 o54 =>
 Zlt (
 sts h49 b51 o52 [.int .u8 t44.1,.string t44.2.1,.slice t44.2.2.1.ptr t44.2.2.1.len t44.2.2.1.cap,.slice t44.2.2.2.1.ptr t44.2.2.2.1.len t44.2.2.2.1.cap] fun h55 =>
 st h55 b53 (o54+2) (.slice t48.ptr t48.len t48.cap) fun h56 =>
 f1 r (fun h57 =>
 K h57) h56) (
 st h49 b53 (o54+2) (.slice t48.ptr t48.len t48.cap) fun h58 =>
 sts h58 b51 o52 [.int .u8 t44.1,.string t44.2.1,.slice t44.2.2.1.ptr t44.2.2.1.len t44.2.2.1.cap,.slice t44.2.2.2.1.ptr t44.2.2.2.1.len t44.2.2.2.1.cap] fun h59 =>
 f1 r (fun h60 =>
 K h60) h59)) P h40) (
 newC h40 [.int .u8 0,.string (ByteArray.mk #[]),.slice none 0 0,.slice none 0 0] 33 fun b61 h62 =>
 Zbd (ZcI h62 [(b41,o42+2,.slice t43.ptr t43.len t43.cap)]) <|
 f20 r deep (fun t63 h64 =>
 Zbd (ZcI h64 [(b41,o42+2,.slice t43.ptr t43.len t43.cap)]) <|
 rdS ⟨some ⟨b61,0,none⟩,1,1⟩ 4 h64 fun new67=>app 33 4 72 [.int .u8 0,.string (ByteArray.mk #[]),.slice none 0 0,.slice none 0 0] t43 1 new67 h64 fun t65 h66 =>
 ZgU t65.ptr t65.len (t43.len:Int) 4 fun b68 o69 =>
 Ze v fun b70 o71 =>
 Zlt (
 sts h66 b68 o69 [.int .u8 t63.1,.string t63.2.1,.slice t63.2.2.1.ptr t63.2.2.1.len t63.2.2.1.cap,.slice t63.2.2.2.1.ptr t63.2.2.2.1.len t63.2.2.2.1.cap] fun h72 =>
 st h72 b70 (o71+2) (.slice t65.ptr t65.len t65.cap) fun h73 =>
 f1 r (fun h74 =>
 K h74) h73) (
 st h66 b70 (o71+2) (.slice t65.ptr t65.len t65.cap) fun h75 =>
 sts h75 b68 o69 [.int .u8 t63.1,.string t63.2.1,.slice t63.2.2.1.ptr t63.2.2.1.len t63.2.2.1.cap,.slice t63.2.2.2.1.ptr t63.2.2.2.1.len t63.2.2.2.1.cap] fun h76 =>
 f1 r (fun h77 =>
 K h77) h76)) P h62)) (fun J2 =>
 Ze v fun b o =>
 ldI h1 b o .u8 fun t =>
 ZD (t ==7) (
 Zcn (σ:=Unit) (fun s h10 =>
 Ze v fun b11 o12 =>
 ldL h10 b11 (o12+3) fun t13 =>
 f19 r (fun t14 h15 =>
 Zbd (ZcI h15 [(b11,o12+3,.slice t13.ptr t13.len t13.cap)]) <|
 newC h15 [.string t14] 9 fun b16 h17 =>
 Zbd (ZcI h17 [(b11,o12+3,.slice t13.ptr t13.len t13.cap)]) <|
 rdS ⟨some ⟨b16,0,none⟩,1,1⟩ 1 h17 fun new=>app 9 1 16 [.string (ByteArray.mk #[])] t13 1 new h17 fun t18 h19 =>
 Ze v fun b20 o21 =>
 st h19 b20 (o21+3) (.slice t18.ptr t18.len t18.cap) fun h22 =>
 f1 r (fun h23 =>
 Zcn (σ:=Unit) (fun s31 h32 =>
 Ze r fun b33 o34 =>
 ldI h32 b33 (o34+1) .i64 fun t35 =>
 Ze r fun b36 o37 =>
 st h32 b36 (o37+1) (.int .i64 (IntKind.wrap .i64 (t35+1))) fun h38 =>
 J2 (()) h38) (fun J24 =>
 f2 r (fun t25 h26 =>
 ZD (t25 !=58) (
 Ze r fun b27 o28 =>
 ldI h26 b27 (o28+1) .i64 fun t29 =>
 f3 r 20 t29 (fun h30 =>
 J24 (()) h30) P h26) (
 J24 (()) h26)) h23)) h22) P h10) (fun J3 =>
 f2 r (fun t4 h5 =>
 ZD (t4 !=34) (
 Ze r fun b6 o7 =>
 ldI h5 b6 (o7+1) .i64 fun t8 =>
 f3 r 20 t8 (fun h9 =>
 J3 (()) h9) P h5) (
 J3 (()) h5)) h1)) (
 J2 (()) h1))) h
def YN (f20:Zhd):Zqz:=Zak Zv Zi Zf Yc f20
abbrev Zqy:=(Option Addr)→Int→Int→Int→((Int × ByteArray × Sl × Sl × Unit)→HP)→(Value→HP)→HP
def Xe (f3:zT3) (f1:zT1) (f2:zT2) (f21:Zqz) (r:Option Addr) (k:Int) (end_:Int) (deep:Int) (K:(Int × ByteArray × Sl × Sl × Unit)→HP) (P:Value→HP) (h:Zc):Prop :=
 newC h [.int .u8 0,.string (ByteArray.mk #[]),.slice none 0 0,.slice none 0 0] 33 fun b h1 =>
 Zcn (σ:=Unit) (fun s h5 =>
 Ze r fun b6 o7 =>
 ldI h5 b6 (o7+1) .i64 fun t8 =>
 Ze r fun b9 o10 =>
 st h5 b9 (o10+1) (.int .i64 (IntKind.wrap .i64 (t8+1))) fun h11 =>
 newC h11 [.int .u8 0,.string (ByteArray.mk #[]),.slice none 0 0,.slice none 0 0] 33 fun b12 h13 =>
 sts h13 b12 0 [.int .u8 k,.string (ByteArray.mk #[]),.slice none 0 0,.slice none 0 0] fun h14 =>
 f1 r (fun h15 =>
 ZbK (σ:=Unit) (fun J16 s17 h18 =>
 Zcn (σ:=Unit) (fun s43 h44 =>
 Zcn (σ:=Unit) (fun s62 h63 =>
 f21 r (some ⟨b12,0,none⟩) (IntKind.wrap .i64 (deep+1)) (fun h64 =>
 J16 (()) h64) P h63) (fun J45 =>
 ldL h44 b12 (0+2) fun t46 =>
 ZD (decide ((t46.len:Int)>0)) (
 Zcn (σ:=Unit) (fun s54 h55 =>
 Ze r fun b56 o57 =>
 ldI h55 b56 (o57+1) .i64 fun t58 =>
 Ze r fun b59 o60 =>
 st h55 b59 (o60+1) (.int .i64 (IntKind.wrap .i64 (t58+1))) fun h61 =>
 J45 (()) h61) (fun J47 =>
 f2 r (fun t48 h49 =>
 ZD (t48 !=44) (
 Ze r fun b50 o51 =>
 ldI h49 b50 (o51+1) .i64 fun t52 =>
 f3 r 20 t52 (fun h53 =>
 J47 (()) h53) P h49) (
 J47 (()) h49)) h44)) (
 J45 (()) h44))) (fun J19 =>
 ZkZ (ρ:=Int × Unit) (fun K h=>f2 r (fun q h=>K (q,()) h) h) h18 fun r21 =>
 ZD (r21.1 !=end_) (
 J19 (()) h18) (
 Ze r fun b22 o23 =>
 ldI h18 b22 (o23+1) .i64 fun t24 =>
 Ze r fun b25 o26 =>
 ldS h18 b25 o26 fun t27 =>
 ZD (decide (t24≥(t27.size:Int))) (
 J19 (()) h18) (
 Ze r fun b28 o29 =>
 ldI h18 b28 (o29+1) .i64 fun t30 =>
 Ze r fun b31 o32 =>
 st h18 b31 (o32+1) (.int .i64 (IntKind.wrap .i64 (t30+1))) fun h33 =>
 ldI h33 b12 0 .u8 fun t34=>ldS h33 b12 (0+1) fun t35=>ldL h33 b12 (0+2) fun t36=>ldL h33 b12 (0+3) fun t37 =>
 sts h33 b 0 [.int .u8 t34,.string t35,.slice t36.ptr t36.len t36.cap,.slice t37.ptr t37.len t37.cap] fun h38 =>
 ldI h38 b 0 .u8 fun t39=>ldS h38 b (0+1) fun t40=>ldL h38 b (0+2) fun t41=>ldL h38 b (0+3) fun t42=>K (t39,t40,t41,t42,()) h38)))) (()) h15) h14) (fun J2 =>
 ZD (decide (deep≥64)) (
 Ze r fun b3 o =>
 ldI h1 b3 (o+1) .i64 fun t =>
 f3 r 23 t (fun h4 =>
 J2 (()) h4) P h1) (
 J2 (()) h1))
def ZX (f20:Zhd):Zqy:=Xe Zf Zv Zi (YN f20)
abbrev Zqx:=(Option Addr)→ByteArray→Int→((Int × ByteArray × Sl × Sl × Unit)→HP)→(Value→HP)→HP
def Zai (f2:zT2) (f3:zT3) (r:Option Addr) (w:ByteArray) (k:Int) (K:(Int × ByteArray × Sl × Sl × Unit)→HP) (P:Value→HP) (h:Zc):Prop :=
 newC h [.int .u8 0,.string (ByteArray.mk #[]),.slice none 0 0,.slice none 0 0] 33 fun b h1 =>
 ZbK (σ:=Int × Unit) (fun J2 s h3 =>
 (fun (s10:Int) =>
 ZD (decide (s10<(w.size:Int))) (
 Zy s10 fun i =>
 Zcn (σ:=Unit) (fun s20 h21 =>
 Ze r fun b22 o23 =>
 ldI h21 b22 (o23+1) .i64 fun t24 =>
 Ze r fun b25 o26 =>
 st h21 b25 (o26+1) (.int .i64 (IntKind.wrap .i64 (t24+1))) fun h27 =>
 J2 (IntKind.wrap .i64 (s10+1),()) h27) (fun J4 =>
 ZkZ (ρ:=Int × Unit) (fun K h=>f2 r (fun q h=>K (q,()) h) h) h3 fun r5 =>
 ZmK w i fun t6 =>
 ZD (r5.1 !=t6) (
 Ze r fun b7 o =>
 ldI h3 b7 (o+1) .i64 fun t8 =>
 f3 r 20 t8 (fun h9 =>
 J4 (()) h9) P h3) (
 Ze r fun b10 o11 =>
 ldI h3 b10 (o11+1) .i64 fun t12 =>
 Ze r fun b13 o14 =>
 ldS h3 b13 o14 fun t15 =>
 ZD (decide (t12≥(t15.size:Int))) (
 Ze r fun b16 o17 =>
 ldI h3 b16 (o17+1) .i64 fun t18 =>
 f3 r 20 t18 (fun h19 =>
 J4 (()) h19) P h3) (
 J4 (()) h3)))) (
 sts h3 b 0 [.int .u8 k,.string (ByteArray.mk #[]),.slice none 0 0,.slice none 0 0] fun h28 =>
 ldI h28 b 0 .u8 fun t29=>ldS h28 b (0+1) fun t30=>ldL h28 b (0+2) fun t31=>ldL h28 b (0+3) fun t32=>K (t29,t30,t31,t32,()) h28)) s.1) (0,()) h1
def YP:Zqx:=Zai Zi Zf
abbrev Zqw:=(Option Addr)→(HP)→(Value→HP)→HP
def XM (f2:zT2) (f3:zT3) (r:Option Addr) (K:HP) (P:Value→HP) (h:Zc):Prop :=
 Zcn (σ:=Unit) (fun s h9 =>
 f2 r (fun t10 h11 =>
 Zy t10 fun c12 =>
 ZbK (σ:=Int × Unit) (fun J14 s15 h16 =>
 (fun (c13:Int) =>
 ZD (decide (c13≥48)) (
 ZD (decide (c13≤57)) (
 Ze r fun b17 o18 =>
 ldI h16 b17 (o18+1) .i64 fun t19 =>
 Ze r fun b20 o21 =>
 st h16 b20 (o21+1) (.int .i64 (IntKind.wrap .i64 (t19+1))) fun h22 =>
 f2 r (fun t23 h24 =>
 Zy t23 fun c25 =>
 J14 (c25,()) h24) h22) (
 K h16)) (
 K h16)) s15.1) (c12,()) h11) h9) (fun J1 =>
 f2 r (fun t h2 =>
 Zy t fun c =>
 ZD (decide (c<48)) (
 Ze r fun b o =>
 ldI h2 b (o+1) .i64 fun t3 =>
 f3 r 21 t3 (fun h4 =>
 J1 (()) h4) P h2) (
 ZD (decide (c>57)) (
 Ze r fun b5 o6 =>
 ldI h2 b5 (o6+1) .i64 fun t7 =>
 f3 r 21 t7 (fun h8 =>
 J1 (()) h8) P h2) (
 J1 (()) h2))) h)
def ZG:Zqw:=XM Zi Zf
abbrev Zqv:=(Option Addr)→((Int × ByteArray × Sl × Sl × Unit)→HP)→(Value→HP)→HP
def XK (f2:zT2) (f3:zT3) (f24:Zqw) (r:Option Addr) (K:(Int × ByteArray × Sl × Sl × Unit)→HP) (P:Value→HP) (h:Zc):Prop :=
 newC h [.int .u8 0,.string (ByteArray.mk #[]),.slice none 0 0,.slice none 0 0] 33 fun b h1 =>
 Ze r fun b2 o =>
 ldI h1 b2 (o+1) .i64 fun t =>
 Zy t fun from_ =>
 Zcn (σ:=Unit) (fun s h12 =>
 Zcn (σ:=Unit) (fun s29 h30 =>
 Zcn (σ:=Unit) (fun s41 h42 =>
 Zcn (σ:=Unit) (fun s95 h96 =>
 Ze r fun b97 o98 =>
 Ze r fun b99 o100 =>
 ldS h96 b97 o98 fun t101 =>
 ldI h96 b99 (o100+1) .i64 fun t102 =>
 Zi3 t101 from_ t102 fun t103 =>
 sts h96 b 0 [.int .u8 4,.string t103,.slice none 0 0,.slice none 0 0] fun h104 =>
 ldI h104 b 0 .u8 fun t105=>ldS h104 b (0+1) fun t106=>ldL h104 b (0+2) fun t107=>ldL h104 b (0+3) fun t108=>K (t105,t106,t107,t108,()) h104) (fun J43 =>
 f2 r (fun t44 h45 =>
 Zy t44 fun c46 =>
 ZD (c46 ==101) (
 Ze r fun b47 o48 =>
 ldI h45 b47 (o48+1) .i64 fun t49 =>
 Ze r fun b50 o51 =>
 st h45 b50 (o51+1) (.int .i64 (IntKind.wrap .i64 (t49+1))) fun h52 =>
 f2 r (fun t53 h54 =>
 Zy t53 fun c55 =>
 ZD (c55 ==43) (
 Ze r fun b56 o57 =>
 ldI h54 b56 (o57+1) .i64 fun t58 =>
 Ze r fun b59 o60 =>
 st h54 b59 (o60+1) (.int .i64 (IntKind.wrap .i64 (t58+1))) fun h61 =>
 f24 r (fun h62 =>
 J43 (()) h62) P h61) (
 ZD (c55 ==45) (
 Ze r fun b63 o64 =>
 ldI h54 b63 (o64+1) .i64 fun t65 =>
 Ze r fun b66 o67 =>
 st h54 b66 (o67+1) (.int .i64 (IntKind.wrap .i64 (t65+1))) fun h68 =>
 f24 r (fun h69 =>
 J43 (()) h69) P h68) (
 f24 r (fun h70 =>
 J43 (()) h70) P h54))) h52) (
 ZD (c46 ==69) (
 Ze r fun b71 o72 =>
 ldI h45 b71 (o72+1) .i64 fun t73 =>
 Ze r fun b74 o75 =>
 st h45 b74 (o75+1) (.int .i64 (IntKind.wrap .i64 (t73+1))) fun h76 =>
 f2 r (fun t77 h78 =>
 Zy t77 fun c79 =>
 ZD (c79 ==43) (
 Ze r fun b80 o81 =>
 ldI h78 b80 (o81+1) .i64 fun t82 =>
 Ze r fun b83 o84 =>
 st h78 b83 (o84+1) (.int .i64 (IntKind.wrap .i64 (t82+1))) fun h85 =>
 f24 r (fun h86 =>
 J43 (()) h86) P h85) (
 ZD (c79 ==45) (
 Ze r fun b87 o88 =>
 ldI h78 b87 (o88+1) .i64 fun t89 =>
 Ze r fun b90 o91 =>
 st h78 b90 (o91+1) (.int .i64 (IntKind.wrap .i64 (t89+1))) fun h92 =>
 f24 r (fun h93 =>
 J43 (()) h93) P h92) (
 f24 r (fun h94 =>
 J43 (()) h94) P h78))) h76) (
 J43 (()) h45))) h42)) (fun J31 =>
 f2 r (fun t32 h33 =>
 ZD (t32 ==46) (
 Ze r fun b34 o35 =>
 ldI h33 b34 (o35+1) .i64 fun t36 =>
 Ze r fun b37 o38 =>
 st h33 b37 (o38+1) (.int .i64 (IntKind.wrap .i64 (t36+1))) fun h39 =>
 f24 r (fun h40 =>
 J31 (()) h40) P h39) (
 J31 (()) h33)) h30)) (fun J13 =>
 f2 r (fun t14 h15 =>
 ZD (t14 ==48) (
 Ze r fun b16 o17 =>
 ldI h15 b16 (o17+1) .i64 fun t18 =>
 Ze r fun b19 o20 =>
 st h15 b19 (o20+1) (.int .i64 (IntKind.wrap .i64 (t18+1))) fun h21 =>
 f2 r (fun t22 h23 =>
 Zy t22 fun c =>
 ZD (decide (c≥48)) (
 ZD (decide (c≤57)) (
 Ze r fun b24 o25 =>
 ldI h23 b24 (o25+1) .i64 fun t26 =>
 f3 r 21 t26 (fun h27 =>
 J13 (()) h27) P h23) (
 J13 (()) h23)) (
 J13 (()) h23)) h21) (
 f24 r (fun h28 =>
 J13 (()) h28) P h15)) h12)) (fun J3 =>
 f2 r (fun t4 h5 =>
 ZD (t4 ==45) (
 Ze r fun b6 o7 =>
 ldI h5 b6 (o7+1) .i64 fun t8 =>
 Ze r fun b9 o10 =>
 st h5 b9 (o10+1) (.int .i64 (IntKind.wrap .i64 (t8+1))) fun h11 =>
 J3 (()) h11) (
 J3 (()) h5)) h1)
def Yi:Zqv:=XK Zi Zf ZG
def X0 (f1:zT1) (f2:zT2) (f3:zT3) (f22:Zqy) (f19:ZoE) (f23:Zqx) (f25:Zqv) (r:Option Addr) (deep:Int) (K:(Int × ByteArray × Sl × Sl × Unit)→HP) (P:Value→HP) (h:Zc):Prop :=
 newC h [.int .u8 0,.string (ByteArray.mk #[]),.slice none 0 0,.slice none 0 0] 33 fun b h1 =>
 f1 r (fun h2 =>
 Zcn (σ:=Unit) (fun s h78 =>
 Ze r fun b79 o80 =>
 ldI h78 b79 (o80+1) .i64 fun t81 =>
 f3 r 20 t81 (fun h82 =>
 sts h82 b 0 [.int .u8 0,.string (ByteArray.mk #[]),.slice none 0 0,.slice none 0 0] fun h83 =>
 ldI h83 b 0 .u8 fun t84=>ldS h83 b (0+1) fun t85=>ldL h83 b (0+2) fun t86=>ldL h83 b (0+3) fun t87=>K (t84,t85,t86,t87,()) h83) P h78) (fun J3 =>
 f2 r (fun t h4 =>
 Zy t fun c =>
 Ze r fun b5 o =>
 ldI h4 b5 (o+1) .i64 fun t6 =>
 Ze r fun b7 o8 =>
 ldS h4 b7 o8 fun t9 =>
 ZK (decide (t6≥(t9.size:Int))) fun t10 =>
 ZD t10 (
 Ze r fun b11 o12 =>
 ldI h4 b11 (o12+1) .i64 fun t13 =>
 f3 r 24 t13 (fun h14 =>
 J3 (()) h14) P h4) (
 ZK (c ==123) fun t15 =>
 ZD t15 (
 f22 r 7 125 deep (fun t16 h17 =>
 sts h17 b 0 [.int .u8 t16.1,.string t16.2.1,.slice t16.2.2.1.ptr t16.2.2.1.len t16.2.2.1.cap,.slice t16.2.2.2.1.ptr t16.2.2.2.1.len t16.2.2.2.1.cap] fun h18 =>
 ldI h18 b 0 .u8 fun t19=>ldS h18 b (0+1) fun t20=>ldL h18 b (0+2) fun t21=>ldL h18 b (0+3) fun t22=>K (t19,t20,t21,t22,()) h18) P h4) (
 ZK (c ==91) fun t23 =>
 ZD t23 (
 f22 r 6 93 deep (fun t24 h25 =>
 sts h25 b 0 [.int .u8 t24.1,.string t24.2.1,.slice t24.2.2.1.ptr t24.2.2.1.len t24.2.2.1.cap,.slice t24.2.2.2.1.ptr t24.2.2.2.1.len t24.2.2.2.1.cap] fun h26 =>
 ldI h26 b 0 .u8 fun t27=>ldS h26 b (0+1) fun t28=>ldL h26 b (0+2) fun t29=>ldL h26 b (0+3) fun t30=>K (t27,t28,t29,t30,()) h26) P h4) (
 ZK (c ==34) fun t31 =>
 ZD t31 (
 f19 r (fun t32 h33 =>
 sts h33 b 0 [.int .u8 5,.string t32,.slice none 0 0,.slice none 0 0] fun h34 =>
 ldI h34 b 0 .u8 fun t35=>ldS h34 b (0+1) fun t36=>ldL h34 b (0+2) fun t37=>ldL h34 b (0+3) fun t38=>K (t35,t36,t37,t38,()) h34) P h4) (
 ZK (c ==110) fun t39 =>
 ZD t39 (
 f23 r (ByteArray.mk #[110,117,108,108]) 1 (fun t40 h41 =>
 sts h41 b 0 [.int .u8 t40.1,.string t40.2.1,.slice t40.2.2.1.ptr t40.2.2.1.len t40.2.2.1.cap,.slice t40.2.2.2.1.ptr t40.2.2.2.1.len t40.2.2.2.1.cap] fun h42 =>
 ldI h42 b 0 .u8 fun t43=>ldS h42 b (0+1) fun t44=>ldL h42 b (0+2) fun t45=>ldL h42 b (0+3) fun t46=>K (t43,t44,t45,t46,()) h42) P h4) (
 ZK (c ==102) fun t47 =>
 ZD t47 (
 f23 r (ByteArray.mk #[102,97,108,115,101]) 2 (fun t48 h49 =>
 sts h49 b 0 [.int .u8 t48.1,.string t48.2.1,.slice t48.2.2.1.ptr t48.2.2.1.len t48.2.2.1.cap,.slice t48.2.2.2.1.ptr t48.2.2.2.1.len t48.2.2.2.1.cap] fun h50 =>
 ldI h50 b 0 .u8 fun t51=>ldS h50 b (0+1) fun t52=>ldL h50 b (0+2) fun t53=>ldL h50 b (0+3) fun t54=>K (t51,t52,t53,t54,()) h50) P h4) (
 ZK (c ==116) fun t55 =>
 ZD t55 (
 f23 r (ByteArray.mk #[116,114,117,101]) 3 (fun t56 h57 =>
 sts h57 b 0 [.int .u8 t56.1,.string t56.2.1,.slice t56.2.2.1.ptr t56.2.2.1.len t56.2.2.1.cap,.slice t56.2.2.2.1.ptr t56.2.2.2.1.len t56.2.2.2.1.cap] fun h58 =>
 ldI h58 b 0 .u8 fun t59=>ldS h58 b (0+1) fun t60=>ldL h58 b (0+2) fun t61=>ldL h58 b (0+3) fun t62=>K (t59,t60,t61,t62,()) h58) P h4) (
 ZD (c ==45) (
 f25 r (fun t63 h64 =>
 sts h64 b 0 [.int .u8 t63.1,.string t63.2.1,.slice t63.2.2.1.ptr t63.2.2.1.len t63.2.2.1.cap,.slice t63.2.2.2.1.ptr t63.2.2.2.1.len t63.2.2.2.1.cap] fun h65 =>
 ldI h65 b 0 .u8 fun t66=>ldS h65 b (0+1) fun t67=>ldL h65 b (0+2) fun t68=>ldL h65 b (0+3) fun t69=>K (t66,t67,t68,t69,()) h65) P h4) (
 ZD (decide (c≥48)) (
 ZK (decide (c≤57)) fun t70 =>
 ZD t70 (
 f25 r (fun t71 h72 =>
 sts h72 b 0 [.int .u8 t71.1,.string t71.2.1,.slice t71.2.2.1.ptr t71.2.2.1.len t71.2.2.1.cap,.slice t71.2.2.2.1.ptr t71.2.2.2.1.len t71.2.2.2.1.cap] fun h73 =>
 ldI h73 b 0 .u8 fun t74=>ldS h73 b (0+1) fun t75=>ldL h73 b (0+2) fun t76=>ldL h73 b (0+3) fun t77=>K (t74,t75,t76,t77,()) h73) P h4) (
 J3 (()) h4)) (
 J3 (()) h4)))))))))) h2)) h1
def Y8 (f20:Zhd):Zhd:=X0 Zv Zi Zf (ZX f20) Yc YP Yi
def Z9:Nat→Zhd
 | 0=>fun _ _ _ _ _=>False
 | n+1=>Y8 (Z9 n)
def Xb:Zhd:=fun r deep K P h=>∃ n,Z9 n r deep K P h
abbrev zV:List Value:=[.int .u8 0,.string (ByteArray.mk #[]),.slice none 0 0,.slice none 0 0]
def Zrw (b2 b3 b4:Nat) (e n:Int) (E:HP) (h:Zc):Prop :=
 Zex (.iface 160 (.agg #[.int .i64 e,.int .i64 n])) fun b=>ZD b (E h) (ZD true (
 newC h [.int .i64 0,.int .i64 0] 160 fun b1 h2=>sts h2 b1 0 [.int .i64 e,.int .i64 n] fun h3 =>
 ldI h3 b1 0 .i64 fun t=>ldI h3 b1 (0+1) .i64 fun t4 =>
 Ze (some ⟨b2,0,none⟩) fun b5 o=>sts h3 b5 o zV fun h6=>Zbd (ZcI h6 [(b1,0+1,.int .i64 t4)]) <| Zbd (ZcI h6 [(b1,0,.int .i64 t)]) <|
 Ze (some ⟨b3,0,none⟩) fun b7 o8=>st h6 b7 o8 (.int .i64 t) fun h9=>Zbd (ZcI h9 [(b1,0+1,.int .i64 t4)]) <|
 Ze (some ⟨b4,0,none⟩) fun b10 o11=>st h9 b10 o11 (.int .i64 t4) fun h12=>E h12) False)
def Zc5 (b b2 b4:Nat) (K:(Int × ByteArray × Sl × Sl × Unit)→Int→Int→HP) (h:Zc):Prop :=
 ldI h b 0 .u8 fun t=>ldS h b (0+1) fun t9=>ldL h b (0+2) fun t10=>ldL h b (0+3) fun t11=>ldI h b2 0 .i64 fun t12=>ldI h b4 0 .i64 fun t13=>K (t,t9,t10,t11,()) t12 t13 h
def XT (b b2 b4:Nat) (K:(Int × ByteArray × Sl × Sl × Unit)→Int→Int→HP) (v:Value) (h:Zc):Prop :=
 ∃ e n,v = .iface 160 (.agg #[.int .i64 e,.int .i64 n])∧Zrw b b2 b4 e n (Zc5 b b2 b4 K) h
def Zdu (b b2 b4:Nat) (K:(Int × ByteArray × Sl × Sl × Unit)→Int→Int→HP) (h:Zc):Prop :=
 ldI h b 0 .u8 fun t36=>ldS h b (0+1) fun t37=>ldL h b (0+2) fun t38=>ldL h b (0+3) fun t39 =>
 sts h b 0 [.int .u8 t36,.string t37,.slice t38.ptr t38.len t38.cap,.slice t39.ptr t39.len t39.cap] fun h40 =>
 st h40 b2 0 (.int .i64 0) fun h41=>st h41 b4 0 (.int .i64 0) fun h42=>Zc5 b b2 b4 K h42
def Yj (s:ByteArray) (K:(Int × ByteArray × Sl × Sl × Unit)→Int→Int→HP) (h:Zc):Prop :=
 newC h zV 33 fun b h1=>newC h1 [.int .i64 0] 37 fun b2 h3=>newC h3 [.int .i64 0] 3 fun b4 h5 =>
 ZD (decide ((s.size:Int)>65536)) (
 sts h5 b 0 zV fun h6=>st h6 b2 0 (.int .i64 5) fun h7=>st h7 b4 0 (.int .i64 65536) fun h8=>Zc5 b b2 b4 K h8) (
 newC h5 [.string s,.int .i64 0] 163 fun b14 h15 =>
 Xb (some ⟨b14,0,none⟩) 0 (fun t16 h17 =>
 sts h17 b 0 [.int .u8 t16.1,.string t16.2.1,.slice t16.2.2.1.ptr t16.2.2.1.len t16.2.2.1.cap,.slice t16.2.2.2.1.ptr t16.2.2.2.1.len t16.2.2.2.1.cap] fun h18 =>
 Zv (some ⟨b14,0,none⟩) (fun h19 =>
 ldI h19 b14 (0+1) .i64 fun t20=>ZD (decide (t20<(s.size:Int))) (
 ldI h19 b14 (0+1) .i64 fun t21=>Zf (some ⟨b14,0,none⟩) 25 t21 (Zdu b b2 b4 K) (XT b b2 b4 K) h19) (Zdu b b2 b4 K h19)) h18) (XT b b2 b4 K) h15)
abbrev Znu:=ByteArray→((Int × ByteArray × Sl × Sl × Unit)→Int→Int→HP)→HP
abbrev Zqu:=ByteArray→(Bool→HP)→HP
def Zbf (f26:Znu) (s:ByteArray) (K:Bool→HP) (h:Zc):Prop :=
 f26 s (fun t t1 t2 h3 =>
 newC h3 [.int .u8 0,.string (ByteArray.mk #[]),.slice none 0 0,.slice none 0 0] 33 fun b h4 =>
 sts h4 b 0 [.int .u8 t.1,.string t.2.1,.slice t.2.2.1.ptr t.2.2.1.len t.2.2.1.cap,.slice t.2.2.2.1.ptr t.2.2.2.1.len t.2.2.2.1.cap] fun h5 =>
 Zy t1 fun e =>
 Zy t2 fun x =>
 ZD (e ==0) (
 ldI h5 b 0 .u8 fun t6 =>
 ZD (t6 ==4) (
 ldS h5 b (0+1) fun t7 =>
 ZK (ZaK t7 s) fun t8 =>
 K t8 h5) (
 K false h5)) (
 K false h5)) h
def Xt:Zqu:=Zbf Yj
abbrev Zqt:=ByteArray→(Bool→HP)→HP
def ZbA (f15:Zly) (s:ByteArray) (K:Bool→HP) (h:Zc):Prop :=
 f15 s (fun t h1 =>
 ZK (!t) fun t2 =>
 K t2 h1) h
def Zaz:Zqt:=ZbA Zw
abbrev Zqs:=Sl→(Int→HP)→HP
def ZF (f48:Zqt) (s:Sl) (K:Int→HP) (h:Zc):Prop :=
 Zy 0 fun t =>
 ZbK (σ:=Int × Unit) (fun J1 s2 h3 =>
 (fun (s8:Int) =>
 ZD (decide (s8<(s.len:Int))) (
 Zy s8 fun i =>
 ZgU s.ptr s.len i 1 fun b o =>
 ldS h3 b o fun t4 =>
 f48 t4 (fun t5 h6 =>
 ZD t5 (
 Zy i fun t7 =>
 K t7 h6) (
 J1 (IntKind.wrap .i64 (s8+1),()) h6)) h3) (
 Zy (-1) fun t8 =>
 K t8 h3)) s2.1) (0,()) h
def ZA:Zqs:=ZF Zaz
abbrev Zqr:=Sl→(Bool→HP)→HP
def ZE (f49:Zqs) (s:Sl) (K:Bool→HP) (h:Zc):Prop :=
 f49 s (fun t h1 =>
 ZK (decide (t≥0)) fun t2 =>
 K t2 h1) h
def Zq:Zqr:=ZE ZA
abbrev Zqq:=(Int × ByteArray × Sl × Sl × Unit)→(Bool→HP)→HP
def ZcL (f47:Zqu) (f15:Zly) (f50:Zqr) (v:Int × ByteArray × Sl × Sl × Unit) (K:Bool→HP) (h:Zc):Prop :=
 newC h [.int .u8 v.1,.string v.2.1,.slice v.2.2.1.ptr v.2.2.1.len v.2.2.1.cap,.slice v.2.2.2.1.ptr v.2.2.2.1.len v.2.2.2.1.cap] 33 fun b h1 =>
 ldS h1 b (0+1) fun t =>
 ldL h1 b (0+2) fun t2 =>
 ldL h1 b (0+3) fun t3 =>
 ZK (!(ZaK t (ByteArray.mk #[]))) fun text =>
 ZK (decide ((t2.len:Int)>0)) fun list =>
 ZK (decide ((t3.len:Int)>0)) fun names =>
 ldI h1 b 0 .u8 fun t4 =>
 Zcn (σ:=Bool × Unit) (fun s h9 =>
 (fun (s19:Bool) =>
 ZD s19 (
 ZD (!text) (
 ZD (!list) (
 ZK (!names) fun t10 =>
 K t10 h9) (
 K false h9)) (
 K false h9)) (
 ZK (t4 ==4) fun t11 =>
 ZD t11 (
 ldS h9 b (0+1) fun t12 =>
 f47 t12 (fun t13 h14 =>
 ZD t13 (
 ZD (!list) (
 ZK (!names) fun t15 =>
 K t15 h14) (
 K false h14)) (
 K false h14)) h9) (
 ZK (t4 ==5) fun t16 =>
 ZD t16 (
 ldS h9 b (0+1) fun t17 =>
 f15 t17 (fun t18 h19 =>
 ZD t18 (
 ZD (!list) (
 ZK (!names) fun t20 =>
 K t20 h19) (
 K false h19)) (
 K false h19)) h9) (
 ZK (t4 ==6) fun t21 =>
 ZD t21 (
 ZD (!text) (
 ZK (!names) fun t22 =>
 K t22 h9) (
 K false h9)) (
 ZK (t4 ==7) fun t23 =>
 ZD t23 (
 ZD (!text) (
 ldL h9 b (0+3) fun t24 =>
 ldL h9 b (0+2) fun t25 =>
 ZD ((t24.len:Int) ==(t25.len:Int)) (
 ldL h9 b (0+3) fun t26 =>
 f50 t26 (fun t27 h28 =>
 ZK (!t27) fun t29 =>
 K t29 h28) h9) (
 K false h9)) (
 K false h9)) (
 K false h9)))))) s.1) (fun J5 =>
 ZK (t4 ==1) fun t6 =>
 ZD t6 (
 J5 (t6,()) h1) (
 ZK (t4 ==2) fun t7 =>
 ZD t7 (
 J5 (t7,()) h1) (
 ZK (t4 ==3) fun t8 =>
 J5 (t8,()) h1)))
def ZaE:Zqq:=ZcL Xt Zw Zq
abbrev Zqp:=(Int × ByteArray × Sl × Sl × Unit)→(Bool→HP)→HP
def ZbB (a0:Int × ByteArray × Sl × Sl × Unit) (K:Bool→HP) (h:Zc):Prop :=
 newC h [.int .u8 a0.1,.string a0.2.1,.slice a0.2.2.1.ptr a0.2.2.1.len a0.2.2.1.cap,.slice a0.2.2.2.1.ptr a0.2.2.2.1.len a0.2.2.2.1.cap] 33 fun b h1 =>
 K true h1
def ZaA:Zqp:=ZbB
abbrev ZeX:=(Option Addr)→(Int × ByteArray × Sl × Sl × Unit)→Int→Value→(Bool→HP)→HP
abbrev Zqo:=(Int × ByteArray × Sl × Sl × Unit)→(Option Addr)→(Option Addr)→(Option Addr)→(Bool→HP)→HP
def X2 (f53:ZeX) (p:Int × ByteArray × Sl × Sl × Unit) (a1:Option Addr) (a2:Option Addr) (a3:Option Addr) (K:Bool→HP) (h:Zc):Prop :=
 newC h [.int .u8 p.1,.string p.2.1,.slice p.2.2.1.ptr p.2.2.1.len p.2.2.1.cap,.slice p.2.2.2.1.ptr p.2.2.2.1.len p.2.2.2.1.cap] 33 fun b h1 =>
 Ze a1 fun b2 o=>ldP h1 b2 o fun t =>
 ldI h1 b 0 .u8 fun t3=>ldS h1 b (0+1) fun t4=>ldL h1 b (0+2) fun t5=>ldL h1 b (0+3) fun t6 =>
 Ze a2 fun b7 o8=>ldI h1 b7 o8 .i64 fun t9 =>
 Ze a3 fun b10 o11=>ldV h1 b10 o11 fun t12 =>
 f53 t (t3,t4,t5,t6,()) (IntKind.wrap .i64 (t9+1)) t12 (fun t13 h14 =>
 ZK (!t13) fun t15 =>
 K t15 h14) h1
def Y9 (f53:ZeX):Zqo:=X2 f53
abbrev Zqn:=Sl→(Option Addr × Option Addr × Option Addr × Unit)→(Int→HP)→HP
def ZB (f54:Zqo) (s:Sl) (f:Option Addr × Option Addr × Option Addr × Unit) (K:Int→HP) (h:Zc):Prop :=
 Zy 0 fun t =>
 ZbK (σ:=Int × Unit) (fun J1 s2 h3 =>
 (fun (s8:Int) =>
 ZD (decide (s8<(s.len:Int))) (
 Zy s8 fun i =>
 ZgU s.ptr s.len i 4 fun b o =>
 ldI h3 b o .u8 fun t4=>ldS h3 b (o+1) fun t5=>ldL h3 b (o+2) fun t6=>ldL h3 b (o+3) fun t7 =>
 f54 (t4,t5,t6,t7,()) f.1 f.2.1 f.2.2.1 (fun t8 h9 =>
 ZD t8 (
 Zy i fun t10 =>
 K t10 h9) (
 J1 (IntKind.wrap .i64 (s8+1),()) h9)) h3) (
 Zy (-1) fun t11 =>
 K t11 h3)) s2.1) (0,()) h
def Zu (f53:ZeX):Zqn:=ZB (Y9 f53)
abbrev Zqm:=Sl→(Option Addr × Option Addr × Option Addr × Unit)→(Bool→HP)→HP
def Zz (f55:Zqn) (s:Sl) (f:Option Addr × Option Addr × Option Addr × Unit) (K:Bool→HP) (h:Zc):Prop :=
 f55 s (f.1,f.2.1,f.2.2.1,()) (fun t h1 =>
 ZK (decide (t≥0)) fun t2 =>
 K t2 h1) h
def Zj (f53:ZeX):Zqm:=Zz (Zu f53)
def Zav (f51:Zqq) (f52:Zqp) (f56:Zqm) (c:Option Addr) (v:Int × ByteArray × Sl × Sl × Unit) (deep:Int) (right:Value) (K:Bool→HP) (h:Zc):Prop :=
 newC h [.pointer c] 155 fun b h1 =>
 newC h1 [.int .u8 v.1,.string v.2.1,.slice v.2.2.1.ptr v.2.2.1.len v.2.2.1.cap,.slice v.2.2.2.1.ptr v.2.2.2.1.len v.2.2.2.1.cap] 33 fun b2 h3 =>
 newC h3 [.int .i64 deep] 3 fun b4 h5 =>
 Zbd (ZW right=true) <| newC h5 [right] 45 fun b6 h7 =>
 ldP h7 b 0 fun t =>
 Ze t fun b8 o =>
 ldI h7 b8 o .i64 fun t9 =>
 Ze t fun b10 o11 =>
 st h7 b10 o11 (.int .i64 (IntKind.wrap .i64 (t9+1))) fun h12 =>
 ldP h12 b 0 fun t13 =>
 Ze t13 fun b14 o15 =>
 ldI h12 b14 o15 .i64 fun t16 =>
 ZD (decide (t16>65536)) (
 K false h12) (
 ldV h12 b6 0 fun t17 =>
 ldI h12 b2 0 .u8 fun t18=>ldS h12 b2 (0+1) fun t19=>ldL h12 b2 (0+2) fun t20=>ldL h12 b2 (0+3) fun t21 =>
 (Zsy t17 94 <| f51 (t18,t19,t20,t21,()) (fun t24 h22 =>
 ZD (!t24) (
 K false h22) (
 Zcn (σ:=Unit) (fun s h29 =>
 ldP h29 b 0 fun t30 =>
 ldP h29 b 0 fun t31 =>
 Ze t31 fun b32 o33 =>
 ldI h29 b32 (o33+1) .i64 fun t34 =>
 ldI h29 b4 0 .i64 fun t35 =>
 Ze t30 fun b36 o37 =>
 st h29 b36 (o37+1) (.int .i64 (ZoS t34 (IntKind.wrap .i64 (t35+1)))) fun h38 =>
 ldI h38 b4 0 .i64 fun t39 =>
 ZD (decide (t39≥64)) (
 K true h38) (
 ldL h38 b2 (0+2) fun t40 =>
 f56 t40 (some ⟨b,0,none⟩,some ⟨b4,0,none⟩,some ⟨b6,0,none⟩,()) (fun t41 h42 =>
 ZK (!t41) fun t43 =>
 K t43 h42) h38)) (fun J26 =>
 ldI h22 b2 0 .u8 fun t27 =>
 ZD (t27 !=6) (
 ldI h22 b2 0 .u8 fun t28 =>
 ZD (t28 !=7) (
 K true h22) (
 J26 (()) h22)) (
 J26 (()) h22)))) h12)∨(
 (Zsy t17 119 <| f52 (t18,t19,t20,t21,()) (fun t24 h22 =>
 ZD (!t24) (
 K false h22) (
 Zcn (σ:=Unit) (fun s h29 =>
 ldP h29 b 0 fun t30 =>
 ldP h29 b 0 fun t31 =>
 Ze t31 fun b32 o33 =>
 ldI h29 b32 (o33+1) .i64 fun t34 =>
 ldI h29 b4 0 .i64 fun t35 =>
 Ze t30 fun b36 o37 =>
 st h29 b36 (o37+1) (.int .i64 (ZoS t34 (IntKind.wrap .i64 (t35+1)))) fun h38 =>
 ldI h38 b4 0 .i64 fun t39 =>
 ZD (decide (t39≥64)) (
 K true h38) (
 ldL h38 b2 (0+2) fun t40 =>
 f56 t40 (some ⟨b,0,none⟩,some ⟨b4,0,none⟩,some ⟨b6,0,none⟩,()) (fun t41 h42 =>
 ZK (!t41) fun t43 =>
 K t43 h42) h38)) (fun J26 =>
 ldI h22 b2 0 .u8 fun t27 =>
 ZD (t27 !=6) (
 ldI h22 b2 0 .u8 fun t28 =>
 ZD (t28 !=7) (
 K true h22) (
 J26 (()) h22)) (
 J26 (()) h22)))) h12)∨(
 False)))
def XC (f53:ZeX):ZeX:=Zav ZaE ZaA (Zj f53)
def Yp:Nat→ZeX
 | 0=>fun _ _ _ _ _ _=>False
 | n+1=>XC (Yp n)
def Y2:ZeX:=fun c v deep right K h=>∃ n,Yp n c v deep right K h
abbrev ZoD:=(Int × ByteArray × Sl × Sl × Unit)→(Bool→HP)→HP
def ZcO (f53:ZeX) (v:Int × ByteArray × Sl × Sl × Unit) (K:Bool→HP) (h:Zc):Prop :=
 newC h [.int .u8 v.1,.string v.2.1,.slice v.2.2.1.ptr v.2.2.1.len v.2.2.1.cap,.slice v.2.2.2.1.ptr v.2.2.2.1.len v.2.2.2.1.cap] 33 fun b h1 =>
 newC h1 [.int .i64 0,.int .i64 0] 157 fun b2 h3 =>
 ldI h3 b 0 .u8 fun t=>ldS h3 b (0+1) fun t4=>ldL h3 b (0+2) fun t5=>ldL h3 b (0+3) fun t6 =>
 f53 (some ⟨b2,0,none⟩) (t,t4,t5,t6,()) 0 (.func (.func 94) #[] #[]) (fun t7 h8 =>
 ZD t7 (
 ldI h8 b2 (0+1) .i64 fun t9 =>
 ZK (decide (t9≤64)) fun t10 =>
 K t10 h8) (
 K false h8)) h3
def Xv:ZoD:=ZcO Y2
abbrev ZoC:=(Option Addr)→(Int→HP)→HP
def Xx (b:Option Addr) (K:Int→HP) (h:Zc):Prop :=
 Zy 0 fun t =>
 Ze b fun b1 o =>
 ldL h b1 (o+1) fun t2 =>
 Zy (t2.len:Int) fun t3 =>
 K t3 h
def Z0:ZoC:=Xx
abbrev Zql:=(Option Addr)→ByteArray→(HP)→HP
def Zah (f6:zT6) (f0:zT0) (f17:ZlC) (w:Option Addr) (s:ByteArray) (K:HP) (h:Zc):Prop :=
 Ze w fun b o =>
 f6 (some ⟨b,o,none⟩) 34 (fun t h1 =>
 ZbK (σ:=Int × Unit) (fun J2 s3 h4 =>
 (fun (s13:Int) =>
 ZD (decide (s13<(s.size:Int))) (
 Zy s13 fun i =>
 ZmK s i fun t5 =>
 Zy t5 fun c =>
 f0 (ByteArray.mk #[8,12,10,13,9]) c (fun t6 h7 =>
 Zy t6 fun k =>
 Zcn (σ:=Bool × Unit) (fun s10 h11 =>
 (fun (s26:Bool) =>
 ZD s26 (
 Ze w fun b12 o13 =>
 f6 (some ⟨b12,o13,none⟩) 92 (fun t14 h15 =>
 Ze w fun b16 o17 =>
 f6 (some ⟨b16,o17,none⟩) c (fun t18 h19 =>
 J2 (IntKind.wrap .i64 (s13+1),()) h19) h15) h11) (
 ZK (decide (k≥0)) fun t20 =>
 ZD t20 (
 Ze w fun b21 o22 =>
 f6 (some ⟨b21,o22,none⟩) 92 (fun t23 h24 =>
 Ze w fun b25 o26 =>
 ZmK (ByteArray.mk #[98,102,110,114,116]) k fun t27 =>
 f6 (some ⟨b25,o26,none⟩) t27 (fun t28 h29 =>
 J2 (IntKind.wrap .i64 (s13+1),()) h29) h24) h11) (
 ZK (decide (c<32)) fun t30 =>
 ZD t30 (
 Ze w fun b31 o32 =>
 f17 (some ⟨b31,o32,none⟩) (ByteArray.mk #[92,117,48,48]) (fun t33 t34 h35 =>
 Ze w fun b36 o37 =>
 Zbd (0≤(4:Int)) <|
 ZmK (ByteArray.mk #[48,49,50,51,52,53,54,55,56,57,97,98,99,100,101,102]) (ZkN .u8 c 4) fun t38 =>
 f6 (some ⟨b36,o37,none⟩) t38 (fun t39 h40 =>
 Ze w fun b41 o42 =>
 ZmK (ByteArray.mk #[48,49,50,51,52,53,54,55,56,57,97,98,99,100,101,102]) (ZkB .u8 c 15) fun t43 =>
 f6 (some ⟨b41,o42,none⟩) t43 (fun t44 h45 =>
 J2 (IntKind.wrap .i64 (s13+1),()) h45) h40) h35) h11) (
 Ze w fun b46 o47 =>
 f6 (some ⟨b46,o47,none⟩) c (fun t48 h49 =>
 J2 (IntKind.wrap .i64 (s13+1),()) h49) h11)))) s10.1) (fun J8 =>
 ZD (c ==34) (
 J8 (true,()) h7) (
 ZK (c ==92) fun t9 =>
 J8 (t9,()) h7))) h4) (
 Ze w fun b50 o51 =>
 f6 (some ⟨b50,o51,none⟩) 34 (fun t52 h53 =>
 K h53) h4)) s3.1) (0,()) h1) h
def YO:Zql:=Zah Zl ZY Zk
abbrev ZjJ:=(Option Addr)→(Int × ByteArray × Sl × Sl × Unit)→(HP)→HP
def XZ (f58:ZoC) (f17:ZlC) (f59:Zql) (f6:zT6) (f60:ZjJ) (w:Option Addr) (v:Int × ByteArray × Sl × Sl × Unit) (K:HP) (h:Zc):Prop :=
 newC h [.int .u8 v.1,.string v.2.1,.slice v.2.2.1.ptr v.2.2.1.len v.2.2.1.cap,.slice v.2.2.2.1.ptr v.2.2.2.1.len v.2.2.2.1.cap] 33 fun b h1 =>
 Ze w fun b2 o =>
 f58 (some ⟨b2,o,none⟩) (fun t h3 =>
 ZD (decide (t>65536)) (
 K h3) (
 ldI h3 b 0 .u8 fun t4 =>
 ZK (t4 ==1) fun t5 =>
 ZD t5 (
 Ze w fun b6 o7 =>
 f17 (some ⟨b6,o7,none⟩) (ByteArray.mk #[110,117,108,108]) (fun t8 t9 h10 =>
 K h10) h3) (
 ZK (t4 ==2) fun t11 =>
 ZD t11 (
 Ze w fun b12 o13 =>
 f17 (some ⟨b12,o13,none⟩) (ByteArray.mk #[102,97,108,115,101]) (fun t14 t15 h16 =>
 K h16) h3) (
 ZK (t4 ==3) fun t17 =>
 ZD t17 (
 Ze w fun b18 o19 =>
 f17 (some ⟨b18,o19,none⟩) (ByteArray.mk #[116,114,117,101]) (fun t20 t21 h22 =>
 K h22) h3) (
 ZK (t4 ==4) fun t23 =>
 ZD t23 (
 Ze w fun b24 o25 =>
 ldS h3 b (0+1) fun t26 =>
 f17 (some ⟨b24,o25,none⟩) t26 (fun t27 t28 h29 =>
 K h29) h3) (
 ZK (t4 ==5) fun t30 =>
 ZD t30 (
 ldS h3 b (0+1) fun t31 =>
 f59 w t31 (fun h32 =>
 K h32) h3) (
 Zcn (σ:=ByteArray × Unit) (fun s h35 =>
 (fun (ends:ByteArray) =>
 Ze w fun b36 o37 =>
 ZmK ends 0 fun t38 =>
 f6 (some ⟨b36,o37,none⟩) t38 (fun t39 h40 =>
 ldL h40 b (0+2) fun t41 =>
 ZbK (σ:=Int × Unit) (fun J42 s43 h44 =>
 (fun (s26:Int) =>
 ZD (decide (s26<(t41.len:Int))) (
 ZgU t41.ptr t41.len s26 4 fun b45 o46 =>
 ldI h44 b45 o46 .u8 fun t47=>ldS h44 b45 (o46+1) fun t48=>ldL h44 b45 (o46+2) fun t49=>ldL h44 b45 (o46+3) fun t50 =>
 newC h44 [.int .u8 0,.string (ByteArray.mk #[]),.slice none 0 0,.slice none 0 0] 33 fun b51 h52 =>
 Zy s26 fun i =>
 sts h52 b51 0 [.int .u8 t47,.string t48,.slice t49.ptr t49.len t49.cap,.slice t50.ptr t50.len t50.cap] fun h53 =>
 Zcn (σ:=Unit) (fun s59 h60 =>
 Zcn (σ:=Unit) (fun s72 h73 =>
 ldI h73 b51 0 .u8 fun t74=>ldS h73 b51 (0+1) fun t75=>ldL h73 b51 (0+2) fun t76=>ldL h73 b51 (0+3) fun t77 =>
 f60 w (t74,t75,t76,t77,()) (fun h78 =>
 J42 (IntKind.wrap .i64 (s26+1),()) h78) h73) (fun J61 =>
 ldI h60 b 0 .u8 fun t62 =>
 ZD (t62 ==7) (
 ldL h60 b (0+3) fun t63 =>
 ZgU t63.ptr t63.len i 1 fun b64 o65 =>
 ldS h60 b64 o65 fun t66 =>
 f59 w t66 (fun h67 =>
 Ze w fun b68 o69 =>
 f6 (some ⟨b68,o69,none⟩) 58 (fun t70 h71 =>
 J61 (()) h71) h67) h60) (
 J61 (()) h60))) (fun J54 =>
 ZD (decide (i>0)) (
 Ze w fun b55 o56 =>
 f6 (some ⟨b55,o56,none⟩) 44 (fun t57 h58 =>
 J54 (()) h58) h53) (
 J54 (()) h53))) (
 Ze w fun b79 o80 =>
 ZmK ends 1 fun t81 =>
 f6 (some ⟨b79,o80,none⟩) t81 (fun t82 h83 =>
 K h83) h44)) s43.1) (0,()) h40) h35) s.1) (fun J33 =>
 ldI h3 b 0 .u8 fun t34 =>
 ZD (t34 ==7) (
 J33 (ByteArray.mk #[123,125],()) h3) (
 J33 (ByteArray.mk #[91,93],()) h3))))))))) h1
def Y7 (f60:ZjJ):ZjJ:=XZ Z0 Zk YO Zl f60
def Z8:Nat→ZjJ
 | 0=>fun _ _ _ _=>False
 | n+1=>Y7 (Z8 n)
def XW:ZjJ:=fun w v K h=>∃ n,Z8 n w v K h
abbrev Zqk:=(Int × ByteArray × Sl × Sl × Unit)→(ByteArray→Int→HP)→HP
def ZcP (f57:ZoD) (f60:ZjJ) (f58:ZoC) (f4:zT4) (v:Int × ByteArray × Sl × Sl × Unit) (K:ByteArray→Int→HP) (h:Zc):Prop :=
 newC h [.int .u8 v.1,.string v.2.1,.slice v.2.2.1.ptr v.2.2.1.len v.2.2.1.cap,.slice v.2.2.2.1.ptr v.2.2.2.1.len v.2.2.2.1.cap] 33 fun b h1 =>
 Zy 0 fun t =>
 ldI h1 b 0 .u8 fun t2=>ldS h1 b (0+1) fun t3=>ldL h1 b (0+2) fun t4=>ldL h1 b (0+3) fun t5 =>
 f57 (t2,t3,t4,t5,()) (fun t6 h7 =>
 ZD (!t6) (
 Zy 6 fun t8 =>
 K (ByteArray.mk #[]) t8 h7) (
 newC h7 [.pointer none,.slice none 0 0] 190 fun b9 h10 =>
 ldI h10 b 0 .u8 fun t11=>ldS h10 b (0+1) fun t12=>ldL h10 b (0+2) fun t13=>ldL h10 b (0+3) fun t14 =>
 f60 (some ⟨b9,0,none⟩) (t11,t12,t13,t14,()) (fun h15 =>
 f58 (some ⟨b9,0,none⟩) (fun t16 h17 =>
 ZD (decide (t16>65536)) (
 Zy 5 fun t18 =>
 K (ByteArray.mk #[]) t18 h17) (
 f4 (some ⟨b9,0,none⟩) (fun t19 h20 =>
 Zy 0 fun t21 =>
 K t19 t21 h20) h17)) h15) h10)) h1
def ZaH:Zqk:=ZcP Xv XW Z0 ZS
abbrev Zsf:=Int→(ByteArray→HP)→HP
abbrev Zqj:=Int→((Int × ByteArray × Sl × Sl × Unit)→HP)→HP
def ZcQ (f62:Zsf) (n:Int) (K:(Int × ByteArray × Sl × Sl × Unit)→HP) (h:Zc):Prop :=
 newC h [.int .u8 0,.string (ByteArray.mk #[]),.slice none 0 0,.slice none 0 0] 33 fun b h1 =>
 f62 n (fun t h2 =>
 sts h2 b 0 [.int .u8 4,.string t,.slice none 0 0,.slice none 0 0] fun h3 =>
 ldI h3 b 0 .u8 fun t4=>ldS h3 b (0+1) fun t5=>ldL h3 b (0+2) fun t6=>ldL h3 b (0+3) fun t7=>K (t4,t5,t6,t7,()) h3) h1
def ZaI:Zqj:=ZcQ Zbz
abbrev Zqi:=ByteArray→ByteArray→(ByteArray→Bool→HP)→HP
def Yl (f8:zT8) (s:ByteArray) (prefix_:ByteArray) (K:ByteArray→Bool→HP) (h:Zc):Prop :=
 f8 s prefix_ (fun t h1 =>
 ZD (!t) (
 K s false h1) (
 Zi3 s (prefix_.size:Int) s.size fun t2 =>
 K t2 true h1)) h
def ZU:Zqi:=Yl Zn
abbrev Zqh:=ByteArray→ByteArray→(ByteArray→Bool→HP)→HP
def XY (f64:Zqi) (s:ByteArray) (prefix_:ByteArray) (K:ByteArray→Bool→HP) (h:Zc):Prop :=
 f64 s prefix_ (fun t t1 h2 =>
 ZK t1 fun found =>
 K t found h2) h
def YF:Zqh:=XY ZU
abbrev Zqg:=ByteArray→ByteArray→(ByteArray→HP)→HP
def Yf (f8:zT8) (s:ByteArray) (prefix_:ByteArray) (K:ByteArray→HP) (h:Zc):Prop :=
 f8 s prefix_ (fun t h1 =>
 ZD t (
 Zi3 s (prefix_.size:Int) s.size fun t2 =>
 K t2 h1) (
 K s h1)) h
def ZR:Zqg:=Yf Zn
abbrev Zqf:=ByteArray→ByteArray→(ByteArray→HP)→HP
def XI (f70:Zqg) (s:ByteArray) (prefix_:ByteArray) (K:ByteArray→HP) (h:Zc):Prop :=
 f70 s prefix_ (fun t h1 =>
 K t h1) h
def Yz:Zqf:=XI ZR
abbrev ZpZ:=ByteArray→(Int→Value→HP)→HP
abbrev Zqe:=ByteArray→(Int→Bool→HP)→HP
def Zbg (f71:Zqf) (f72:ZpZ) (s:ByteArray) (K:Int→Bool→HP) (h:Zc):Prop :=
 Zy 0 fun t =>
 ZD (ZaK s (ByteArray.mk #[])) (
 Zy 0 fun t1 =>
 K t1 true h) (
 f71 s (ByteArray.mk #[43]) (fun t2 h3 =>
 f72 t2 (fun t4 t5 h6 =>
 Zy t4 fun n =>
 Zex t5 fun b =>
 ZD b (
 ZD (decide (n≥(-1048576))) (
 Zy n fun t7 =>
 ZK (decide (n≤1048576)) fun t8 =>
 K t7 t8 h6) (
 Zy n fun t9 =>
 K t9 false h6)) (
 Zy n fun t10 =>
 K t10 false h6)) h3) h)
def Xu:Zqe:=Zbg Yz YT
abbrev Zse:=ByteArray→(ByteArray→HP)→HP
abbrev Zsd:=ByteArray→ByteArray→(ByteArray→ByteArray→Bool→HP)→HP
abbrev Zsc:=ByteArray→ByteArray→(ByteArray→HP)→HP
abbrev Zsb:=ByteArray→ByteArray→(ByteArray→HP)→HP
abbrev Zsa:=ByteArray→Int→(ByteArray→HP)→HP
abbrev Zqd:=(Int × ByteArray × Sl × Sl × Unit)→(Int→Bool→HP)→HP
def ZcN (f57:ZoD) (f65:Zqh) (f66:Zse) (f67:Zsd) (f68:Zsc) (f69:Zsb) (f73:Zqe) (f74:Zsa) (f72:ZpZ) (v:Int × ByteArray × Sl × Sl × Unit) (K:Int→Bool→HP) (h:Zc):Prop :=
 newC h [.int .u8 v.1,.string v.2.1,.slice v.2.2.1.ptr v.2.2.1.len v.2.2.1.cap,.slice v.2.2.2.1.ptr v.2.2.2.1.len v.2.2.2.1.cap] 33 fun b h1 =>
 Zy 0 fun t =>
 ldI h1 b 0 .u8 fun t2 =>
 ZD (t2 !=4) (
 Zy 0 fun t3 =>
 K t3 false h1) (
 ldI h1 b 0 .u8 fun t4=>ldS h1 b (0+1) fun t5=>ldL h1 b (0+2) fun t6=>ldL h1 b (0+3) fun t7 =>
 f57 (t4,t5,t6,t7,()) (fun t8 h9 =>
 ZD (!t8) (
 Zy 0 fun t10 =>
 K t10 false h9) (
 ldS h9 b (0+1) fun t11 =>
 f65 t11 (ByteArray.mk #[45]) (fun t12 t13 h14 =>
 ZK t13 fun below =>
 f66 t12 (fun t15 h16 =>
 f67 t15 (ByteArray.mk #[101]) (fun t17 t18 t19 h20 =>
 ZK t19 fun x =>
 f67 t17 (ByteArray.mk #[46]) (fun t21 t22 t23 h24 =>
 ZK t23 fun x25 =>
 Zku t21 t22 fun s =>
 f68 s (ByteArray.mk #[48]) (fun t26 h27 =>
 f69 t26 (ByteArray.mk #[48]) (fun t28 h29 =>
 f69 t26 (ByteArray.mk #[48]) (fun t30 h31 =>
 Zy (IntKind.wrap .i64 ((t26.size:Int) - (t30.size:Int))) fun zeros =>
 ZD (ZaK t28 (ByteArray.mk #[])) (
 Zy 0 fun t32 =>
 K t32 true h31) (
 f73 t18 (fun t33 t34 h35 =>
 Zy t33 fun by_ =>
 ZK t34 fun ok =>
 ZD (!ok) (
 Zy 0 fun t36 =>
 K t36 false h35) (
 Zy (IntKind.wrap .i64 (by_+(IntKind.wrap .i64 (zeros - (t22.size:Int))))) fun by_37 =>
 ZD (decide (by_37<0)) (
 Zy 0 fun t38 =>
 K t38 false h35) (
 ZD (decide (by_37>20)) (
 Zy 0 fun t39 =>
 K t39 false h35) (
 f74 (ByteArray.mk #[48]) by_37 (fun t40 h41 =>
 Zku t28 t40 fun s42 =>
 Zcn (σ:=ByteArray × Unit) (fun s45 h46 =>
 (fun (digits:ByteArray) =>
 f72 digits (fun t47 t48 h49 =>
 Zy t47 fun n =>
 Zex t48 fun b50 =>
 ZD (!b50) (
 Zy 0 fun t51 =>
 K t51 false h49) (
 Zy n fun t52 =>
 K t52 true h49)) h46) s45.1) (fun J43 =>
 ZD below (
 Zku (ByteArray.mk #[45]) s42 fun s44 =>
 J43 (s44,()) h41) (
 J43 (s42,()) h41))) h35)))) h31)) h29) h27) h24) h20) h16) h14) h9)) h1)
def ZaG:Zqd:=ZcN Xv YF Zat Zaf Zae Xa Xu ZaL YT
abbrev ZkE:=(Int × ByteArray × Sl × Sl × Unit)→Int→(Int→HP)→HP
def Zb6 (f76:ZkE) (v:Int × ByteArray × Sl × Sl × Unit) (most:Int) (K:Int→HP) (h:Zc):Prop :=
 newC h [.int .u8 v.1,.string v.2.1,.slice v.2.2.1.ptr v.2.2.1.len v.2.2.1.cap,.slice v.2.2.2.1.ptr v.2.2.2.1.len v.2.2.2.1.cap] 33 fun b h1 =>
 Zy 0 fun t =>
 Zy 1 fun n =>
 ldL h1 b (0+2) fun t2 =>
 ZbK (σ:=Int × Int × Unit) (fun J4 s h5 =>
 (fun (n3:Int) (s11:Int) =>
 ZD (decide (s11<(t2.len:Int))) (
 ZgU t2.ptr t2.len s11 4 fun b6 o =>
 ldI h5 b6 o .u8 fun t7=>ldS h5 b6 (o+1) fun t8=>ldL h5 b6 (o+2) fun t9=>ldL h5 b6 (o+3) fun t10 =>
 newC h5 [.int .u8 0,.string (ByteArray.mk #[]),.slice none 0 0,.slice none 0 0] 33 fun b11 h12 =>
 sts h12 b11 0 [.int .u8 t7,.string t8,.slice t9.ptr t9.len t9.cap,.slice t10.ptr t10.len t10.cap] fun h13 =>
 ZD (decide (n3>most)) (
 Zy n3 fun t14 =>
 K t14 h13) (
 ldI h13 b11 0 .u8 fun t15=>ldS h13 b11 (0+1) fun t16=>ldL h13 b11 (0+2) fun t17=>ldL h13 b11 (0+3) fun t18 =>
 f76 (t15,t16,t17,t18,()) (IntKind.wrap .i64 (most - n3)) (fun t19 h20 =>
 Zy (IntKind.wrap .i64 (n3+t19)) fun n21 =>
 J4 (n21,IntKind.wrap .i64 (s11+1),()) h20) h13)) (
 Zy n3 fun t22 =>
 K t22 h5)) s.1 s.2.1) (n,0,()) h1
def ZaS (f76:ZkE):ZkE:=Zb6 f76
def Y0:Nat→ZkE
 | 0=>fun _ _ _ _=>False
 | n+1=>ZaS (Y0 n)
def Zb0:ZkE:=fun v most K h=>∃ n,Y0 n v most K h
abbrev Zqc:=(Int × ByteArray × Sl × Sl × Unit)→(Bool→HP)→HP
def ZcM (f76:ZkE) (v:Int × ByteArray × Sl × Sl × Unit) (K:Bool→HP) (h:Zc):Prop :=
 newC h [.int .u8 v.1,.string v.2.1,.slice v.2.2.1.ptr v.2.2.1.len v.2.2.1.cap,.slice v.2.2.2.1.ptr v.2.2.2.1.len v.2.2.2.1.cap] 33 fun b h1 =>
 ldI h1 b 0 .u8 fun t=>ldS h1 b (0+1) fun t2=>ldL h1 b (0+2) fun t3=>ldL h1 b (0+3) fun t4 =>
 f76 (t,t2,t3,t4,()) 65536 (fun t5 h6 =>
 ZK (decide (t5≤65536)) fun t7 =>
 K t7 h6) h1
def ZaF:Zqc:=ZcM Zb0
abbrev Zqb:=(Int × ByteArray × Sl × Sl × Unit)→(Int→HP)→HP
def ZcR (f77:Zqc) (f53:ZeX) (v:Int × ByteArray × Sl × Sl × Unit) (K:Int→HP) (h:Zc):Prop :=
 newC h [.int .u8 v.1,.string v.2.1,.slice v.2.2.1.ptr v.2.2.1.len v.2.2.1.cap,.slice v.2.2.2.1.ptr v.2.2.2.1.len v.2.2.2.1.cap] 33 fun b h1 =>
 Zy 0 fun t =>
 newC h1 [.int .i64 0,.int .i64 0] 157 fun b2 h3 =>
 ldI h3 b 0 .u8 fun t4=>ldS h3 b (0+1) fun t5=>ldL h3 b (0+2) fun t6=>ldL h3 b (0+3) fun t7 =>
 f77 (t4,t5,t6,t7,()) (fun t8 h9 =>
 ZD (!t8) (
 Zy 0 fun t10 =>
 K t10 h9) (
 ldI h9 b 0 .u8 fun t11=>ldS h9 b (0+1) fun t12=>ldL h9 b (0+2) fun t13=>ldL h9 b (0+3) fun t14 =>
 f53 (some ⟨b2,0,none⟩) (t11,t12,t13,t14,()) 0 (.func (.func 119) #[] #[]) (fun t15 h16 =>
 ZD (!t15) (
 Zy 0 fun t17 =>
 K t17 h16) (
 ldI h16 b2 (0+1) .i64 fun t18 =>
 Zy t18 fun t19 =>
 K t19 h16)) h9)) h3
def ZaJ:Zqb:=ZcR ZaF Y2
abbrev Zqa:=(Bool→HP)→HP
def XJ (f26:Znu) (f61:Zqk) (f63:Zqj) (f75:Zqd) (f78:Zqb) (K:Bool→HP) (h:Zc):Prop :=
 f26 (ByteArray.mk #[91,49,44,32,34,97,92,117,48,48,52,49,34,44,32,123,34,98,34,58,32,110,117,108,108,125,93]) (fun t t1 t2 h3 =>
 newC h3 [.int .u8 0,.string (ByteArray.mk #[]),.slice none 0 0,.slice none 0 0] 33 fun b h4 =>
 sts h4 b 0 [.int .u8 t.1,.string t.2.1,.slice t.2.2.1.ptr t.2.2.1.len t.2.2.1.cap,.slice t.2.2.2.1.ptr t.2.2.2.1.len t.2.2.2.1.cap] fun h5 =>
 Zy t1 fun e =>
 Zy t2 fun x =>
 ldI h5 b 0 .u8 fun t6=>ldS h5 b (0+1) fun t7=>ldL h5 b (0+2) fun t8=>ldL h5 b (0+3) fun t9 =>
 f61 (t6,t7,t8,t9,()) (fun t10 t11 h12 =>
 Zy t11 fun f =>
 f26 (ByteArray.mk #[91,49,44,93]) (fun t13 t14 t15 h16 =>
 newC h16 [.int .u8 0,.string (ByteArray.mk #[]),.slice none 0 0,.slice none 0 0] 33 fun b17 h18 =>
 sts h18 b17 0 [.int .u8 t13.1,.string t13.2.1,.slice t13.2.2.1.ptr t13.2.2.1.len t13.2.2.1.cap,.slice t13.2.2.2.1.ptr t13.2.2.2.1.len t13.2.2.2.1.cap] fun h19 =>
 Zy t14 fun g =>
 Zy t15 fun at_ =>
 f63 (-7) (fun t20 h21 =>
 f75 (t20.1,t20.2.1,⟨t20.2.2.1.ptr,t20.2.2.1.len,t20.2.2.1.cap⟩,⟨t20.2.2.2.1.ptr,t20.2.2.2.1.len,t20.2.2.2.1.cap⟩,()) (fun t22 t23 h24 =>
 Zy t22 fun n =>
 ZK t23 fun ok =>
 ZD (e ==0) (
 ZD (f ==0) (
 ZD (ZaK t10 (ByteArray.mk #[91,49,44,34,97,65,34,44,123,34,98,34,58,110,117,108,108,125,93])) (
 ZD (g ==20) (
 ZD (at_ ==3) (
 ZD ok (
 ZD (n ==(-7)) (
 ldI h24 b 0 .u8 fun t25=>ldS h24 b (0+1) fun t26=>ldL h24 b (0+2) fun t27=>ldL h24 b (0+3) fun t28 =>
 f78 (t25,t26,t27,t28,()) (fun t29 h30 =>
 ZK (t29 ==2) fun t31 =>
 K t31 h30) h24) (
 K false h24)) (
 K false h24)) (
 K false h24)) (
 K false h24)) (
 K false h24)) (
 K false h24)) (
 K false h24)) h21) h19) h12) h5) h
def Yh:Zqa:=XJ Yj ZaH ZaI ZaG ZaJ
abbrev Zp9:=Sl→Sl→(Bool→HP)→HP
def Xd (a:Sl) (b:Sl) (K:Bool→HP) (h:Zc):Prop :=
 ZD ((a.len:Int) !=(b.len:Int)) (
 K false h) (
 Zy 0 fun i =>
 ZbK (σ:=Int × Unit) (fun J2 s h3 =>
 (fun (i1:Int) =>
 ZD (decide (i1<(a.len:Int))) (
 ZgU a.ptr a.len i1 1 fun b4 o =>
 ldS h3 b4 o fun t =>
 ZgU b.ptr b.len i1 1 fun b5 o6 =>
 ldS h3 b5 o6 fun t7 =>
 ZD (!(ZaK t t7)) (
 K false h3) (
 Zy (IntKind.wrap .i64 (i1+1)) fun i8 =>
 J2 (i8,()) h3)) (
 K true h3)) s.1) (i,()) h)
def Yb:Zp9:=Xd
abbrev Zlx:=(Int × ByteArray × Sl × Sl × Unit)→(Int × ByteArray × Sl × Sl × Unit)→(Bool→HP)→HP
def Xc (f80:Zp9) (f81:Zlx) (a:Int × ByteArray × Sl × Sl × Unit) (b:Int × ByteArray × Sl × Sl × Unit) (K:Bool→HP) (h:Zc):Prop :=
 newC h [.int .u8 a.1,.string a.2.1,.slice a.2.2.1.ptr a.2.2.1.len a.2.2.1.cap,.slice a.2.2.2.1.ptr a.2.2.2.1.len a.2.2.2.1.cap] 33 fun b1 h2 =>
 newC h2 [.int .u8 b.1,.string b.2.1,.slice b.2.2.1.ptr b.2.2.1.len b.2.2.1.cap,.slice b.2.2.2.1.ptr b.2.2.2.1.len b.2.2.2.1.cap] 33 fun b3 h4 =>
 ldI h4 b1 0 .u8 fun t =>
 ldI h4 b3 0 .u8 fun t5 =>
 ZD (t !=t5) (
 K false h4) (
 ldS h4 b1 (0+1) fun t6 =>
 ldS h4 b3 (0+1) fun t7 =>
 ZD (!(ZaK t6 t7)) (
 K false h4) (
 ldL h4 b1 (0+2) fun t8 =>
 ldL h4 b3 (0+2) fun t9 =>
 ZD ((t8.len:Int) !=(t9.len:Int)) (
 K false h4) (
 ldL h4 b1 (0+3) fun t10 =>
 ldL h4 b3 (0+3) fun t11 =>
 f80 t10 t11 (fun t12 h13 =>
 ZD (!t12) (
 K false h13) (
 Zy 0 fun i =>
 ZbK (σ:=Int × Unit) (fun J15 s h16 =>
 (fun (i14:Int) =>
 ldL h16 b1 (0+2) fun t17 =>
 ZD (decide (i14<(t17.len:Int))) (
 ldL h16 b1 (0+2) fun t18 =>
 ZgU t18.ptr t18.len i14 4 fun b19 o =>
 ldI h16 b19 o .u8 fun t20=>ldS h16 b19 (o+1) fun t21=>ldL h16 b19 (o+2) fun t22=>ldL h16 b19 (o+3) fun t23 =>
 ldL h16 b3 (0+2) fun t24 =>
 ZgU t24.ptr t24.len i14 4 fun b25 o26 =>
 ldI h16 b25 o26 .u8 fun t27=>ldS h16 b25 (o26+1) fun t28=>ldL h16 b25 (o26+2) fun t29=>ldL h16 b25 (o26+3) fun t30 =>
 f81 (t20,t21,t22,t23,()) (t27,t28,t29,t30,()) (fun t31 h32 =>
 Zbd (ZcI h32 [(b3,0+2,.slice t24.ptr t24.len t24.cap)]) <|
 Zbd (ZcI h32 [(b1,0+2,.slice t18.ptr t18.len t18.cap)]) <|
 ZD (!t31) (
 K false h32) (
 Zy (IntKind.wrap .i64 (i14+1)) fun i33 =>
 J15 (i33,()) h32)) h16) (
 K true h16)) s.1) (i,()) h13)) h4)))
def Y6 (f81:Zlx):Zlx:=Xc Yb f81
def Z5:Nat→Zlx
 | 0=>fun _ _ _ _=>False
 | n+1=>Y6 (Z5 n)
def YD:Zlx:=fun a b K h=>∃ n,Z5 n a b K h
abbrev ZsU:=ByteArray→Int→Int→(Bool→HP)→HP
def YL (f26:Znu) (f79:Zqa) (f81:Zlx) (s:ByteArray) (ahead:Int) (behind:Int) (K:Bool→HP) (h:Zc):Prop :=
 f26 s (fun t t1 t2 h3 =>
 newC h3 [.int .u8 0,.string (ByteArray.mk #[]),.slice none 0 0,.slice none 0 0] 33 fun b h4 =>
 sts h4 b 0 [.int .u8 t.1,.string t.2.1,.slice t.2.2.1.ptr t.2.2.1.len t.2.2.1.cap,.slice t.2.2.2.1.ptr t.2.2.2.1.len t.2.2.2.1.cap] fun h5 =>
 Zy t1 fun e =>
 Zy t2 fun at_ =>
 f79 (fun t6 h7 =>
 ZD (!t6) (
 f79 (fun t8 h9 =>
 ZK t8 fun t10 =>
 K t10 h9) h7) (
 ZD (decide ((s.size:Int)>64936)) (
 f79 (fun t11 h12 =>
 ZK t11 fun t13 =>
 K t13 h12) h7) (
 Zy 0 fun i =>
 ZbK (σ:=ByteArray × Int × Unit) (fun J15 s16 h17 =>
 (fun (a:ByteArray) (i14:Int) =>
 ZD (decide (i14<(IntKind.wrap .i64 ahead))) (
 Zbd ((4:Int)≠0) <|
 Zbd ((4:Int)≠0) <|
 Zi3 (ByteArray.mk #[32,9,10,13]) (Int.tmod i14 4) (IntKind.wrap .i64 ((Int.tmod i14 4)+1)) fun t18 =>
 Zku a t18 fun s19 =>
 Zy (IntKind.wrap .i64 (i14+1)) fun i20 =>
 J15 (s19,i20,()) h17) (
 Zy 0 fun i21 =>
 ZbK (σ:=ByteArray × Int × Unit) (fun J24 s25 h26 =>
 (fun (b22:ByteArray) (i23:Int) =>
 ZD (decide (i23<(IntKind.wrap .i64 behind))) (
 Zbd ((4:Int)≠0) <|
 Zbd ((4:Int)≠0) <|
 Zi3 (ByteArray.mk #[32,9,10,13]) (Int.tmod i23 4) (IntKind.wrap .i64 ((Int.tmod i23 4)+1)) fun t27 =>
 Zku b22 t27 fun s28 =>
 Zy (IntKind.wrap .i64 (i23+1)) fun i29 =>
 J24 (s28,i29,()) h26) (
 Zku a s fun s30 =>
 Zku s30 b22 fun s31 =>
 f26 s31 (fun t32 t33 t34 h35 =>
 newC h35 [.int .u8 0,.string (ByteArray.mk #[]),.slice none 0 0,.slice none 0 0] 33 fun b36 h37 =>
 sts h37 b36 0 [.int .u8 t32.1,.string t32.2.1,.slice t32.2.2.1.ptr t32.2.2.1.len t32.2.2.1.cap,.slice t32.2.2.2.1.ptr t32.2.2.2.1.len t32.2.2.2.1.cap] fun h38 =>
 Zy t33 fun f =>
 Zy t34 fun k =>
 ZD (e ==0) (
 ZD (f ==0) (
 ldI h38 b 0 .u8 fun t39=>ldS h38 b (0+1) fun t40=>ldL h38 b (0+2) fun t41=>ldL h38 b (0+3) fun t42 =>
 ldI h38 b36 0 .u8 fun t43=>ldS h38 b36 (0+1) fun t44=>ldL h38 b36 (0+2) fun t45=>ldL h38 b36 (0+3) fun t46 =>
 f81 (t39,t40,t41,t42,()) (t43,t44,t45,t46,()) (fun t47 h48 =>
 ZK t47 fun t49 =>
 K t49 h48) h38) (
 K false h38)) (
 ZD (e ==24) (
 ZD (f !=0) (
 ZK (decide (k≥(IntKind.wrap .i64 ((a.size:Int)+at_)))) fun t50 =>
 K t50 h38) (
 K false h38)) (
 ZD (f ==e) (
 ZK (k ==(IntKind.wrap .i64 ((a.size:Int)+at_))) fun t51 =>
 K t51 h38) (
 K false h38)))) h26)) s25.1 s25.2.1) (ByteArray.mk #[],i21,()) h17)) s16.1 s16.2.1) (ByteArray.mk #[],i,()) h7))) h5) h
def YJ:ZsU:=YL Yj Yh YD
end Go.Proofs.YtpjbjdheeemdiaaGreatDoor
