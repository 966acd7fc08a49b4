/- The models of the functions. Written by a program out of the translated functions. -/
import GoSem.Machine.Frame
import GoSem.Op.String
import Derived.Test.YtpjbjdheeemdiaaGreatDoorPa1
set_option linter.unusedVariables false
set_option linter.unusedSimpArgs false
namespace Go.Proofs.YtpjbjdheeemdiaaGreatDoor
open Go Go.Fw
abbrev zT0:=ByteArray→Int→(Int→HP)→HP
abbrev zT1:=(Option Addr)→(HP)→HP
def X7 (f0:zT0) (r:Option Addr) (K:HP) (h:Zc):Prop :=
 ZbX (σ:=Unit) (fun J1 s h2 =>
 Ze r fun b o =>
 ldI h2 b (o+1) .i64 fun t =>
 Ze r fun b3 o4 =>
 ldS h2 b3 o4 fun t5 =>
 ZC (decide (t<(t5.size:Int))) (
 Ze r fun b6 o7 =>
 ldS h2 b6 o7 fun t8 =>
 Ze r fun b9 o10 =>
 ldI h2 b9 (o10+1) .i64 fun t11 =>
 ZnF t8 t11 fun t12 =>
 ZlJ (ρ:=Int × Unit) (fun K h=>f0 (ByteArray.mk #[32,9,10,13]) t12 (fun q h=>K (q,()) h) h) h2 fun r14 =>
 ZC (decide (r14.1≥0)) (
 Ze r fun b15 o16 =>
 ldI h2 b15 (o16+1) .i64 fun t17 =>
 Ze r fun b18 o19 =>
 st h2 b18 (o19+1) (.int .i64 (IntKind.wrap .i64 (t17+1))) fun h20 =>
 J1 (()) h20) (
 K h2)) (
 K h2)) (()) h
def Zy:zT1:=X7 Z1
abbrev zT2:=(Option Addr)→(Int→HP)→HP
def ZaH (r:Option Addr) (K:Int→HP) (h:Zc):Prop :=
 Zx 0 fun t =>
 Ze r fun b o =>
 ldI h b (o+1) .i64 fun t1 =>
 Ze r fun b2 o3 =>
 ldS h b2 o3 fun t4 =>
 ZC (decide (t1<(t4.size:Int))) (
 Ze r fun b5 o6 =>
 ldS h b5 o6 fun t7 =>
 Ze r fun b8 o9 =>
 ldI h b8 (o9+1) .i64 fun t10 =>
 ZnF t7 t10 fun t11 =>
 Zx t11 fun t12 =>
 K t12 h) (
 Zx 0 fun t13 =>
 K t13 h)
def Zk:zT2:=ZaH
abbrev zT3:=(Option Addr)→Int→Int→(HP)→(Value→HP)→HP
def Y3 (r:Option Addr) (e:Int) (at_:Int) (K:HP) (P:Value→HP) (h:Zc):Prop :=
 Ze r fun b o =>
 ldS h b o fun t =>
 ZC (decide (at_≥(t.size:Int))) (
 Ze r fun b1 o2 =>
 ldS h b1 o2 fun t3 =>
 P (.iface 160 (.agg #[.int .i64 24,.int .i64 (t3.size:Int)])) h) (
 P (.iface 160 (.agg #[.int .i64 e,.int .i64 at_])) h)
def Zg:zT3:=Y3
abbrev zT5:=(Option Addr)→(HP)→HP
abbrev zT6:=(Option Addr)→Int→(Value→HP)→HP
def Yo (f5:zT5) (b:Option Addr) (c:Int) (K:Value→HP) (h:Zc):Prop :=
 f5 b (fun h1 =>
 Ze b fun b2 o =>
 ldL h1 b2 (o+1) fun t =>
 newC h1 [.int .u8 c] 5 fun b3 h4 =>
 rdS ⟨some ⟨b3,0,none⟩,1,1⟩ 1 h4 fun new=>app 5 1 1 [.int .u8 0] t 1 new h4 fun t5 h6 =>
 Ze b fun b7 o8 =>
 st h6 b7 (o8+1) (.slice t5.ptr t5.len t5.cap) fun h9 =>
 K .nilIface h9) h
def Zp:zT6:=Yo ZA
abbrev zT7:=(Option Addr)→(Int→HP)→(Value→HP)→HP
def ZaS (f2:zT2) (f3:zT3) (r:Option Addr) (K:Int→HP) (P:Value→HP) (h:Zc):Prop :=
 Zx 0 fun t =>
 Zx 0 fun n =>
 ZbX (σ:=Int × Int × Unit) (fun J2 s h3 =>
 (fun (n1:Int) (s5:Int) =>
 ZC (decide (s5<4)) (
 f2 r (fun t4 h5 =>
 Zx t4 fun c =>
 ZcH (σ:=Int × Unit) (fun s33 h34 =>
 (fun (n32:Int) =>
 Ze r fun b35 o36 =>
 ldI h34 b35 (o36+1) .i64 fun t37 =>
 Ze r fun b38 o39 =>
 st h34 b38 (o39+1) (.int .i64 (IntKind.wrap .i64 (t37+1))) fun h40 =>
 J2 (n32,IntKind.wrap .i64 (s5+1),()) h40) s33.1) (fun J6 =>
 ZcH (σ:=Bool × Unit) (fun s9 h10 =>
 (fun (s15:Bool) =>
 ZC s15 (
 ZbV (0≤(4:Int)) <|
 Zx (orV .i32 (Zor .i32 n1 4) (IntKind.wrap .i32 (IntKind.wrap .u8 (c - 48)))) fun n11 =>
 J6 (n11,()) h10) (
 ZC (decide (c≥97)) (
 ZN (decide (c≤102)) fun t12 =>
 ZC t12 (
 ZbV (0≤(4:Int)) <|
 Zx (orV .i32 (Zor .i32 n1 4) (IntKind.wrap .i32 (IntKind.wrap .u8 ((IntKind.wrap .u8 (c - 97))+10)))) fun n13 =>
 J6 (n13,()) h10) (
 ZC (decide (c≥65)) (
 ZN (decide (c≤70)) fun t14 =>
 ZC t14 (
 ZbV (0≤(4:Int)) <|
 Zx (orV .i32 (Zor .i32 n1 4) (IntKind.wrap .i32 (IntKind.wrap .u8 ((IntKind.wrap .u8 (c - 65))+10)))) fun n15 =>
 J6 (n15,()) h10) (
 Ze r fun b o =>
 ldI h10 b (o+1) .i64 fun t16 =>
 f3 r 22 t16 (fun h17 =>
 J6 (n1,()) h17) P h10)) (
 Ze r fun b18 o19 =>
 ldI h10 b18 (o19+1) .i64 fun t20 =>
 f3 r 22 t20 (fun h21 =>
 J6 (n1,()) h21) P h10))) (
 ZC (decide (c≥65)) (
 ZN (decide (c≤70)) fun t22 =>
 ZC t22 (
 ZbV (0≤(4:Int)) <|
 Zx (orV .i32 (Zor .i32 n1 4) (IntKind.wrap .i32 (IntKind.wrap .u8 ((IntKind.wrap .u8 (c - 65))+10)))) fun n23 =>
 J6 (n23,()) h10) (
 Ze r fun b24 o25 =>
 ldI h10 b24 (o25+1) .i64 fun t26 =>
 f3 r 22 t26 (fun h27 =>
 J6 (n1,()) h27) P h10)) (
 Ze r fun b28 o29 =>
 ldI h10 b28 (o29+1) .i64 fun t30 =>
 f3 r 22 t30 (fun h31 =>
 J6 (n1,()) h31) P h10)))) s9.1) (fun J7 =>
 ZC (decide (c≥48)) (
 ZN (decide (c≤57)) fun t8 =>
 J7 (t8,()) h5) (
 J7 (false,()) h5)))) h3) (
 Zx n1 fun t41 =>
 K t41 h3)) s.1 s.2.1) (n,0,()) h
def Xg:zT7:=ZaS Zk Zg
abbrev zT8:=ByteArray→ByteArray→(Bool→HP)→HP
def ZY (s:ByteArray) (prefix_:ByteArray) (K:Bool→HP) (h:Zc):Prop :=
 ZC (decide ((s.size:Int)≥(prefix_.size:Int))) (
 Zmg s 0 (prefix_.size:Int) fun t =>
 ZN (ZaK t prefix_) fun t1 =>
 K t1 h) (
 K false h)
def Zs:zT8:=ZY
abbrev zT9:=ByteArray→ByteArray→(Bool→HP)→HP
def Zai (f8:zT8) (s:ByteArray) (prefix_:ByteArray) (K:Bool→HP) (h:Zc):Prop :=
 f8 s prefix_ (fun t h1 =>
 ZN t fun t2 =>
 K t2 h1) h
def YS:zT9:=Zai Zs
abbrev ZrO:=Sl→Int→(Sl→HP)→HP
def Yn (p:Sl) (r:Int) (K:Sl→HP) (h:Zc):Prop :=
 Zx (IntKind.wrap .u32 r) fun i =>
 ZN (decide (i≤2047)) fun t =>
 ZC t (
 ZbV (0≤(6:Int)) <|
 newC h [.int .u8 (orV .u8 (192:Int) (IntKind.wrap .u8 (Zlx .i32 r 6))),.int .u8 (orV .u8 (128:Int) (Zll .u8 (IntKind.wrap .u8 r) 63))] 5 fun b h1 =>
 rdS ⟨some ⟨b,0,none⟩,2,2⟩ 1 h1 fun new=>app 5 1 1 [.int .u8 0] p 2 new h1 fun t2 h3 =>
 K t2 h3) (
 ZcH (σ:=Bool × Unit) (fun s h7 =>
 (fun (s25:Bool) =>
 ZC s25 (
 ZbV (0≤(12:Int)) <|
 ZbV (0≤(6:Int)) <|
 newC h7 [.int .u8 (orV .u8 (224:Int) (IntKind.wrap .u8 (Zlx .i32 r 12))),.int .u8 (orV .u8 (128:Int) (Zll .u8 (IntKind.wrap .u8 (Zlx .i32 r 6)) 63)),.int .u8 (orV .u8 (128:Int) (Zll .u8 (IntKind.wrap .u8 r) 63))] 5 fun b8 h9 =>
 rdS ⟨some ⟨b8,0,none⟩,3,3⟩ 1 h9 fun new12=>app 5 1 1 [.int .u8 0] p 3 new12 h9 fun t10 h11 =>
 K t10 h11) (
 ZC (decide (i>65535)) (
 ZN (decide (i≤1114111)) fun t13 =>
 ZC t13 (
 ZbV (0≤(18:Int)) <|
 ZbV (0≤(12:Int)) <|
 ZbV (0≤(6:Int)) <|
 newC h7 [.int .u8 (orV .u8 (240:Int) (IntKind.wrap .u8 (Zlx .i32 r 18))),.int .u8 (orV .u8 (128:Int) (Zll .u8 (IntKind.wrap .u8 (Zlx .i32 r 12)) 63)),.int .u8 (orV .u8 (128:Int) (Zll .u8 (IntKind.wrap .u8 (Zlx .i32 r 6)) 63)),.int .u8 (orV .u8 (128:Int) (Zll .u8 (IntKind.wrap .u8 r) 63))] 5 fun b14 h15 =>
 rdS ⟨some ⟨b14,0,none⟩,4,4⟩ 1 h15 fun new18=>app 5 1 1 [.int .u8 0] p 4 new18 h15 fun t16 h17 =>
 K t16 h17) (
 newC h7 [.int .u8 239,.int .u8 191,.int .u8 189] 5 fun b19 h20 =>
 rdS ⟨some ⟨b19,0,none⟩,3,3⟩ 1 h20 fun new23=>app 5 1 1 [.int .u8 0] p 3 new23 h20 fun t21 h22 =>
 K t21 h22)) (
 newC h7 [.int .u8 239,.int .u8 191,.int .u8 189] 5 fun b24 h25 =>
 rdS ⟨some ⟨b24,0,none⟩,3,3⟩ 1 h25 fun new28=>app 5 1 1 [.int .u8 0] p 3 new28 h25 fun t26 h27 =>
 K t26 h27))) s.1) (fun J4 =>
 ZN (decide (i<55296)) fun t5 =>
 ZC t5 (
 J4 (t5,()) h) (
 ZC (decide ((57343:Int)<i)) (
 ZN (decide (i≤65535)) fun t6 =>
 J4 (t6,()) h) (
 J4 (false,()) h))))
def ZT:ZrO:=Yn
abbrev ZrN:=Sl→Int→(Sl→HP)→HP
def Y7 (f10:ZrO) (p:Sl) (r:Int) (K:Sl→HP) (h:Zc):Prop :=
 ZC (decide ((IntKind.wrap .u32 r)≤127)) (
 newC h [.int .u8 (IntKind.wrap .u8 r)] 5 fun b h1 =>
 rdS ⟨some ⟨b,0,none⟩,1,1⟩ 1 h1 fun new=>app 5 1 1 [.int .u8 0] p 1 new h1 fun t h2 =>
 K t h2) (
 f10 p r (fun t3 h4 =>
 K t3 h4) h)
def Z9:ZrN:=Y7 ZT
abbrev ZrL:=(Option Addr)→Int→(Int→Value→HP)→HP
def YW (f5:zT5) (f11:ZrN) (b:Option Addr) (r:Int) (K:Int→Value→HP) (h:Zc):Prop :=
 Zx 0 fun t =>
 f5 b (fun h1 =>
 Ze b fun b2 o =>
 ldL h1 b2 (o+1) fun t3 =>
 Zx (t3.len:Int) fun n =>
 Ze b fun b4 o5 =>
 ldL h1 b4 (o5+1) fun t6 =>
 f11 t6 r (fun t7 h8 =>
 Ze b fun b9 o10 =>
 st h8 b9 (o10+1) (.slice t7.ptr t7.len t7.cap) fun h11 =>
 Ze b fun b12 o13 =>
 ldL h11 b12 (o13+1) fun t14 =>
 Zx (IntKind.wrap .i64 ((t14.len:Int) - n)) fun t15 =>
 K t15 .nilIface h11) h1) h
def Z2:ZrL:=YW ZA Z9
abbrev ZrK:=(Option Addr)→(Option Addr)→(HP)→(Value→HP)→HP
def X5 (f2:zT2) (f0:zT0) (f6:zT6) (f3:zT3) (f7:zT7) (f9:zT9) (f12:ZrL) (r:Option Addr) (b:Option Addr) (K:HP) (P:Value→HP) (h:Zc):Prop :=
 f2 r (fun t h1 =>
 Zx t fun c =>
 ZcH (σ:=Unit) (fun s h19 =>
 ZcH (σ:=Unit) (fun s25 h26 =>
 Ze r fun b27 o28 =>
 ldI h26 b27 (o28+1) .i64 fun t29 =>
 Ze r fun b30 o31 =>
 st h26 b30 (o31+1) (.int .i64 (IntKind.wrap .i64 (t29+1))) fun h32 =>
 f7 r (fun t33 h34 =>
 Zx t33 fun n =>
 ZcH (σ:=Unit) (fun s68 h69 =>
 ZcH (σ:=Int × Unit) (fun s73 h74 =>
 (fun (n72:Int) =>
 f12 b n72 (fun t75 t76 h77 =>
 K h77) h74) s73.1) (fun J70 =>
 ZC (decide (n≥55296)) (
 ZC (decide (n<57344)) (
 Zx 65533 fun n71 =>
 J70 (n71,()) h69) (
 J70 (n,()) h69)) (
 J70 (n,()) h69))) (fun J35 =>
 ZcH (σ:=Bool × Unit) (fun s46 h47 =>
 (fun (s72:Bool) =>
 ZC s72 (
 Ze r fun b48 o49 =>
 ldI h47 b48 (o49+1) .i64 fun t50 =>
 Zx t50 fun was =>
 Ze r fun b51 o52 =>
 ldI h47 b51 (o52+1) .i64 fun t53 =>
 Ze r fun b54 o55 =>
 st h47 b54 (o55+1) (.int .i64 (IntKind.wrap .i64 (t53+2))) fun h56 =>
 f7 r (fun t57 h58 =>
 Zx t57 fun low =>
 ZC (decide (low≥56320)) (
 ZC (decide (low<57344)) (
 ZbV (0≤(10:Int)) <|
 f12 b (IntKind.wrap .i32 ((IntKind.wrap .i32 ((65536:Int)+(Zor .i32 (IntKind.wrap .i32 (n - 55296)) 10)))+(IntKind.wrap .i32 (low - 56320)))) (fun t59 t60 h61 =>
 K h61) h58) (
 Ze r fun b62 o63 =>
 st h58 b62 (o63+1) (.int .i64 was) fun h64 =>
 J35 (()) h64)) (
 Ze r fun b65 o66 =>
 st h58 b65 (o66+1) (.int .i64 was) fun h67 =>
 J35 (()) h67)) P h56) (
 J35 (()) h47)) s46.1) (fun J36 =>
 ZC (decide (n≥55296)) (
 ZC (decide (n<56320)) (
 Ze r fun b37 o38 =>
 ldS h34 b37 o38 fun t39 =>
 Ze r fun b40 o41 =>
 ldI h34 b40 (o41+1) .i64 fun t42 =>
 Zmg t39 t42 t39.size fun t43 =>
 ZlJ (ρ:=Bool × Unit) (fun K h=>f9 t43 (ByteArray.mk #[92,117]) (fun q h=>K (q,()) h) h) h34 fun r45 =>
 J36 (r45.1,()) h34) (
 J36 (false,()) h34)) (
 J36 (false,()) h34)))) P h32) (fun J20 =>
 ZC (c !=117) (
 Ze r fun b21 o22 =>
 ldI h19 b21 (o22+1) .i64 fun t23 =>
 f3 r 22 t23 (fun h24 =>
 J20 (()) h24) P h19) (
 J20 (()) h19))) (fun J2 =>
 f0 (ByteArray.mk #[34,92,47,98,102,110,114,116]) c (fun t3 h4 =>
 Zx t3 fun i =>
 ZC (decide (i≥0)) (
 Ze r fun b5 o =>
 ldI h4 b5 (o+1) .i64 fun t6 =>
 Ze r fun b7 o8 =>
 ldS h4 b7 o8 fun t9 =>
 ZC (decide (t6<(t9.size:Int))) (
 ZnF (ByteArray.mk #[34,92,47,8,12,10,13,9]) i fun t10 =>
 f6 b t10 (fun t11 h12 =>
 Ze r fun b13 o14 =>
 ldI h12 b13 (o14+1) .i64 fun t15 =>
 Ze r fun b16 o17 =>
 st h12 b16 (o17+1) (.int .i64 (IntKind.wrap .i64 (t15+1))) fun h18 =>
 K h18) h4) (
 J2 (()) h4)) (
 J2 (()) h4)) h1)) h
def YL:ZrK:=X5 Zk Z1 Zp Zg Xg YS Z2
abbrev Ztz:=ByteArray→(Int→HP)→HP
abbrev Zmf:=ByteArray→(Bool→HP)→HP
abbrev ZrJ:=ByteArray→(Bool→HP)→HP
def Zcs (f14:Ztz) (f15:Zmf) (s:ByteArray) (K:Bool→HP) (h:Zc):Prop :=
 newC h [.string (ByteArray.mk #[128,128,128]),.string (ByteArray.mk #[144,128,128]),.string (ByteArray.mk #[160,128,128])] 9 fun b h1 =>
 ZbX (σ:=Int × Unit) (fun J2 s3 h4 =>
 (fun (s11:Int) =>
 ZC (decide (s11<(3:Int))) (
 Zfe (some ⟨b,0,none⟩) 3 s11 1 fun b5 o =>
 ldS h4 b5 o fun t =>
 Zx (s.size:Int) fun k =>
 ZbX (σ:=Int × Unit) (fun J7 s8 h9 =>
 (fun (k6:Int) =>
 ZC (decide (k6<4)) (
 Zmg t 0 (IntKind.wrap .i64 (k6 - (s.size:Int))) fun t10 =>
 Zot s t10 fun s12 =>
 f14 s12 (fun t13 h14 =>
 Zx t13 fun n =>
 ZC (n ==1) (
 f15 s12 (fun t15 h16 =>
 ZC t15 (
 K true h16) (
 Zx (IntKind.wrap .i64 (k6+1)) fun k17 =>
 J7 (k17,()) h16)) h14) (
 Zx (IntKind.wrap .i64 (k6+1)) fun k18 =>
 J7 (k18,()) h14)) h9) (
 ZC (decide ((s.size:Int)<4)) (
 Zot s t fun s19 =>
 Zmg s19 0 4 fun t20 =>
 f15 t20 (fun t21 h22 =>
 ZC t21 (
 Zot s t fun s23 =>
 Zmg s23 0 4 fun t24 =>
 f14 t24 (fun t25 h26 =>
 ZC (t25 ==1) (
 K true h26) (
 J2 (IntKind.wrap .i64 (s11+1),()) h26)) h22) (
 J2 (IntKind.wrap .i64 (s11+1),()) h22)) h9) (
 J2 (IntKind.wrap .i64 (s11+1),()) h9))) s8.1) (k,()) h4) (
 f15 s (fun t27 h28 =>
 ZC t27 (
 f14 s (fun t29 h30 =>
 ZN (t29 ==1) fun t31 =>
 K t31 h30) h28) (
 K false h28)) h4)) s3.1) (0,()) h1
def ZaC:ZrJ:=Zcs ZW Zz
abbrev Zmm:=(Option Addr)→ByteArray→(Int→Value→HP)→HP
def Yd (f5:zT5) (b:Option Addr) (s:ByteArray) (K:Int→Value→HP) (h:Zc):Prop :=
 Zx 0 fun t =>
 f5 b (fun h1 =>
 Ze b fun b2 o =>
 ldL h1 b2 (o+1) fun t3 =>
 app 5 1 1 [.int .u8 0] t3 s.size (Xc s) h1 fun t4 h5 =>
 Ze b fun b6 o7 =>
 st h5 b6 (o7+1) (.slice t4.ptr t4.len t4.cap) fun h8 =>
 Zx (s.size:Int) fun t9 =>
 K t9 .nilIface h8) h
def Zo:Zmm:=Yd ZA
abbrev ZrI:=(Option Addr)→(Option Addr)→(HP)→(Value→HP)→HP
def Zam (f3:zT3) (f16:ZrJ) (f15:Zmf) (f17:Zmm) (r:Option Addr) (b:Option Addr) (K:HP) (P:Value→HP) (h:Zc):Prop :=
 Zx 1 fun k =>
 ZbX (σ:=Int × Unit) (fun J2 s h3 =>
 (fun (k1:Int) =>
 ZcH (σ:=Unit) (fun s13 h14 =>
 Ze r fun b15 o16 =>
 ldS h14 b15 o16 fun t17 =>
 Ze r fun b18 o19 =>
 ldI h14 b18 (o19+1) .i64 fun t20 =>
 Ze r fun b21 o22 =>
 ldI h14 b21 (o22+1) .i64 fun t23 =>
 Zmg t17 t20 (IntKind.wrap .i64 (t23+k1)) fun t24 =>
 ZcH (σ:=Unit) (fun s32 h33 =>
 f15 t24 (fun t34 h35 =>
 ZC t34 (
 f17 b t24 (fun t36 t37 h38 =>
 Ze r fun b39 o40 =>
 ldI h38 b39 (o40+1) .i64 fun t41 =>
 Ze r fun b42 o43 =>
 st h38 b42 (o43+1) (.int .i64 (IntKind.wrap .i64 (t41+k1))) fun h44 =>
 K h44) h35) (
 Zx (IntKind.wrap .i64 (k1+1)) fun k45 =>
 J2 (k45,()) h35)) h33) (fun J25 =>
 f16 t24 (fun t26 h27 =>
 ZC (!t26) (
 Ze r fun b28 o29 =>
 ldI h27 b28 (o29+1) .i64 fun t30 =>
 f3 r 22 (IntKind.wrap .i64 ((IntKind.wrap .i64 (t30+k1)) - 1)) (fun h31 =>
 J25 (()) h31) P h27) (
 J25 (()) h27)) h14)) (fun J4 =>
 Ze r fun b5 o =>
 ldI h3 b5 (o+1) .i64 fun t =>
 Ze r fun b6 o7 =>
 ldS h3 b6 o7 fun t8 =>
 ZC (decide ((IntKind.wrap .i64 (t+k1))>(t8.size:Int))) (
 Ze r fun b9 o10 =>
 ldS h3 b9 o10 fun t11 =>
 f3 r 24 (t11.size:Int) (fun h12 =>
 J4 (()) h12) P h3) (
 J4 (()) h3))) s.1) (k,()) h
def YU:ZrI:=Zam Zg ZaC Zz Zo
abbrev zT4:=(Option Addr)→(ByteArray→HP)→HP
abbrev ZpA:=(Option Addr)→(ByteArray→HP)→(Value→HP)→HP
def ZaF (f2:zT2) (f3:zT3) (f4:zT4) (f13:ZrK) (f6:zT6) (f18:ZrI) (r:Option Addr) (K:ByteArray→HP) (P:Value→HP) (h:Zc):Prop :=
 Ze r fun b o =>
 ldI h b (o+1) .i64 fun t =>
 Ze r fun b1 o2 =>
 st h b1 (o2+1) (.int .i64 (IntKind.wrap .i64 (t+1))) fun h3 =>
 newC h3 [.pointer none,.slice none 0 0] 188 fun b4 h5 =>
 ZbX (σ:=Unit) (fun J6 s h7 =>
 f2 r (fun t8 h9 =>
 Zx t8 fun c =>
 ZcH (σ:=Bool × Unit) (fun s18 h19 =>
 (fun (s16:Bool) =>
 ZC s16 (
 Ze r fun b20 o21 =>
 ldI h19 b20 (o21+1) .i64 fun t22 =>
 f3 r 22 t22 (fun h23 =>
 J6 (()) h23) P h19) (
 ZN (c ==34) fun t24 =>
 ZC t24 (
 Ze r fun b25 o26 =>
 ldI h19 b25 (o26+1) .i64 fun t27 =>
 Ze r fun b28 o29 =>
 st h19 b28 (o29+1) (.int .i64 (IntKind.wrap .i64 (t27+1))) fun h30 =>
 f4 (some ⟨b4,0,none⟩) (fun t31 h32 =>
 K t31 h32) h30) (
 ZN (c ==92) fun t33 =>
 ZC t33 (
 Ze r fun b34 o35 =>
 ldI h19 b34 (o35+1) .i64 fun t36 =>
 Ze r fun b37 o38 =>
 st h19 b37 (o38+1) (.int .i64 (IntKind.wrap .i64 (t36+1))) fun h39 =>
 f13 r (some ⟨b4,0,none⟩) (fun h40 =>
 J6 (()) h40) P h39) (
 ZN (decide (c<128)) fun t41 =>
 ZC t41 (
 f6 (some ⟨b4,0,none⟩) c (fun t42 h43 =>
 Ze r fun b44 o45 =>
 ldI h43 b44 (o45+1) .i64 fun t46 =>
 Ze r fun b47 o48 =>
 st h43 b47 (o48+1) (.int .i64 (IntKind.wrap .i64 (t46+1))) fun h49 =>
 J6 (()) h49) h19) (
 f18 r (some ⟨b4,0,none⟩) (fun h50 =>
 J6 (()) h50) P h19))))) s18.1) (fun J10 =>
 Ze r fun b11 o12 =>
 ldI h9 b11 (o12+1) .i64 fun t13 =>
 Ze r fun b14 o15 =>
 ldS h9 b14 o15 fun t16 =>
 ZC (decide (t13≥(t16.size:Int))) (
 J10 (true,()) h9) (
 ZN (decide (c<32)) fun t17 =>
 J10 (t17,()) h9))) h7) (()) h5
def Ym:ZpA:=ZaF Zk Zg ZV YL Zp YU
abbrev ZhG:=(Option Addr)→Int→((Int × ByteArray × Sl × Sl × Unit)→HP)→(Value→HP)→HP
abbrev ZrH:=(Option Addr)→(Option Addr)→Int→(HP)→(Value→HP)→HP
def ZaG (f1:zT1) (f2:zT2) (f3:zT3) (f19:ZpA) (f20:ZhG) (r:Option Addr) (v:Option Addr) (deep:Int) (K:HP) (P:Value→HP) (h:Zc):Prop :=
 f1 r (fun h1 =>
 ZcH (σ:=Unit) (fun s39 h40 =>
 Ze v fun b41 o42 =>
 ldL h40 b41 (o42+2) fun t43 =>
 Zmb (
 f20 r deep (fun t44 h45 =>
 ZbV (Zc4 h45 [(b41,o42+2,.slice t43.ptr t43.len t43.cap)]) <|
 newC h45 [.int .u8 0,.string (ByteArray.mk #[]),.slice none 0 0,.slice none 0 0] 33 fun b46 h47 =>
 ZbV (Zc4 h47 [(b41,o42+2,.slice t43.ptr t43.len t43.cap)]) <|
 rdS ⟨some ⟨b46,0,none⟩,1,1⟩ 4 h47 fun new50=>app 33 4 72 [.int .u8 0,.string (ByteArray.mk #[]),.slice none 0 0,.slice none 0 0] t43 1 new50 h47 fun t48 h49 =>
 Zfe t48.ptr t48.len (t43.len:Int) 4 fun b51 o52 =>
 Ze v fun b53 o54 =>
 Zmb (
 sts h49 b51 o52 [.int .u8 t44.1,.string t44.2.1,.slice t44.2.2.1.ptr t44.2.2.1.len t44.2.2.1.cap,.slice t44.2.2.2.1.ptr t44.2.2.2.1.len t44.2.2.2.1.cap] fun h55 =>
 st h55 b53 (o54+2) (.slice t48.ptr t48.len t48.cap) fun h56 =>
 f1 r (fun h57 =>
 K h57) h56) (
 st h49 b53 (o54+2) (.slice t48.ptr t48.len t48.cap) fun h58 =>
 sts h58 b51 o52 [.int .u8 t44.1,.string t44.2.1,.slice t44.2.2.1.ptr t44.2.2.1.len t44.2.2.1.cap,.slice t44.2.2.2.1.ptr t44.2.2.2.1.len t44.2.2.2.1.cap] fun h59 =>
 f1 r (fun h60 =>
 K h60) h59)) P h40) (
 newC h40 [.int .u8 0,.string (ByteArray.mk #[]),.slice none 0 0,.slice none 0 0] 33 fun b61 h62 =>
 ZbV (Zc4 h62 [(b41,o42+2,.slice t43.ptr t43.len t43.cap)]) <|
 f20 r deep (fun t63 h64 =>
 ZbV (Zc4 h64 [(b41,o42+2,.slice t43.ptr t43.len t43.cap)]) <|
 rdS ⟨some ⟨b61,0,none⟩,1,1⟩ 4 h64 fun new67=>app 33 4 72 [.int .u8 0,.string (ByteArray.mk #[]),.slice none 0 0,.slice none 0 0] t43 1 new67 h64 fun t65 h66 =>
 Zfe t65.ptr t65.len (t43.len:Int) 4 fun b68 o69 =>
 Ze v fun b70 o71 =>
 Zmb (
 sts h66 b68 o69 [.int .u8 t63.1,.string t63.2.1,.slice t63.2.2.1.ptr t63.2.2.1.len t63.2.2.1.cap,.slice t63.2.2.2.1.ptr t63.2.2.2.1.len t63.2.2.2.1.cap] fun h72 =>
 st h72 b70 (o71+2) (.slice t65.ptr t65.len t65.cap) fun h73 =>
 f1 r (fun h74 =>
 K h74) h73) (
 st h66 b70 (o71+2) (.slice t65.ptr t65.len t65.cap) fun h75 =>
 sts h75 b68 o69 [.int .u8 t63.1,.string t63.2.1,.slice t63.2.2.1.ptr t63.2.2.1.len t63.2.2.1.cap,.slice t63.2.2.2.1.ptr t63.2.2.2.1.len t63.2.2.2.1.cap] fun h76 =>
 f1 r (fun h77 =>
 K h77) h76)) P h62)) (fun J2 =>
 Ze v fun b o =>
 ldI h1 b o .u8 fun t =>
 ZC (t ==7) (
 ZcH (σ:=Unit) (fun s h10 =>
 Ze v fun b11 o12 =>
 ldL h10 b11 (o12+3) fun t13 =>
 f19 r (fun t14 h15 =>
 ZbV (Zc4 h15 [(b11,o12+3,.slice t13.ptr t13.len t13.cap)]) <|
 newC h15 [.string t14] 9 fun b16 h17 =>
 ZbV (Zc4 h17 [(b11,o12+3,.slice t13.ptr t13.len t13.cap)]) <|
 rdS ⟨some ⟨b16,0,none⟩,1,1⟩ 1 h17 fun new=>app 9 1 16 [.string (ByteArray.mk #[])] t13 1 new h17 fun t18 h19 =>
 Ze v fun b20 o21 =>
 st h19 b20 (o21+3) (.slice t18.ptr t18.len t18.cap) fun h22 =>
 f1 r (fun h23 =>
 ZcH (σ:=Unit) (fun s31 h32 =>
 Ze r fun b33 o34 =>
 ldI h32 b33 (o34+1) .i64 fun t35 =>
 Ze r fun b36 o37 =>
 st h32 b36 (o37+1) (.int .i64 (IntKind.wrap .i64 (t35+1))) fun h38 =>
 J2 (()) h38) (fun J24 =>
 f2 r (fun t25 h26 =>
 ZC (t25 !=58) (
 Ze r fun b27 o28 =>
 ldI h26 b27 (o28+1) .i64 fun t29 =>
 f3 r 20 t29 (fun h30 =>
 J24 (()) h30) P h26) (
 J24 (()) h26)) h23)) h22) P h10) (fun J3 =>
 f2 r (fun t4 h5 =>
 ZC (t4 !=34) (
 Ze r fun b6 o7 =>
 ldI h5 b6 (o7+1) .i64 fun t8 =>
 f3 r 20 t8 (fun h9 =>
 J3 (()) h9) P h5) (
 J3 (()) h5)) h1)) (
 J2 (()) h1))) h
def YZ (f20:ZhG):ZrH:=ZaG Zy Zk Zg Ym f20
abbrev ZrG:=(Option Addr)→Int→Int→Int→((Int × ByteArray × Sl × Sl × Unit)→HP)→(Value→HP)→HP
def Xy (f3:zT3) (f1:zT1) (f2:zT2) (f21:ZrH) (r:Option Addr) (k:Int) (end_:Int) (deep:Int) (K:(Int × ByteArray × Sl × Sl × Unit)→HP) (P:Value→HP) (h:Zc):Prop :=
 newC h [.int .u8 0,.string (ByteArray.mk #[]),.slice none 0 0,.slice none 0 0] 33 fun b h1 =>
 ZcH (σ:=Unit) (fun s h5 =>
 Ze r fun b6 o7 =>
 ldI h5 b6 (o7+1) .i64 fun t8 =>
 Ze r fun b9 o10 =>
 st h5 b9 (o10+1) (.int .i64 (IntKind.wrap .i64 (t8+1))) fun h11 =>
 newC h11 [.int .u8 0,.string (ByteArray.mk #[]),.slice none 0 0,.slice none 0 0] 33 fun b12 h13 =>
 sts h13 b12 0 [.int .u8 k,.string (ByteArray.mk #[]),.slice none 0 0,.slice none 0 0] fun h14 =>
 f1 r (fun h15 =>
 ZbX (σ:=Unit) (fun J16 s17 h18 =>
 ZcH (σ:=Unit) (fun s43 h44 =>
 ZcH (σ:=Unit) (fun s62 h63 =>
 f21 r (some ⟨b12,0,none⟩) (IntKind.wrap .i64 (deep+1)) (fun h64 =>
 J16 (()) h64) P h63) (fun J45 =>
 ldL h44 b12 (0+2) fun t46 =>
 ZC (decide ((t46.len:Int)>0)) (
 ZcH (σ:=Unit) (fun s54 h55 =>
 Ze r fun b56 o57 =>
 ldI h55 b56 (o57+1) .i64 fun t58 =>
 Ze r fun b59 o60 =>
 st h55 b59 (o60+1) (.int .i64 (IntKind.wrap .i64 (t58+1))) fun h61 =>
 J45 (()) h61) (fun J47 =>
 f2 r (fun t48 h49 =>
 ZC (t48 !=44) (
 Ze r fun b50 o51 =>
 ldI h49 b50 (o51+1) .i64 fun t52 =>
 f3 r 20 t52 (fun h53 =>
 J47 (()) h53) P h49) (
 J47 (()) h49)) h44)) (
 J45 (()) h44))) (fun J19 =>
 ZlJ (ρ:=Int × Unit) (fun K h=>f2 r (fun q h=>K (q,()) h) h) h18 fun r21 =>
 ZC (r21.1 !=end_) (
 J19 (()) h18) (
 Ze r fun b22 o23 =>
 ldI h18 b22 (o23+1) .i64 fun t24 =>
 Ze r fun b25 o26 =>
 ldS h18 b25 o26 fun t27 =>
 ZC (decide (t24≥(t27.size:Int))) (
 J19 (()) h18) (
 Ze r fun b28 o29 =>
 ldI h18 b28 (o29+1) .i64 fun t30 =>
 Ze r fun b31 o32 =>
 st h18 b31 (o32+1) (.int .i64 (IntKind.wrap .i64 (t30+1))) fun h33 =>
 ldI h33 b12 0 .u8 fun t34=>ldS h33 b12 (0+1) fun t35=>ldL h33 b12 (0+2) fun t36=>ldL h33 b12 (0+3) fun t37 =>
 sts h33 b 0 [.int .u8 t34,.string t35,.slice t36.ptr t36.len t36.cap,.slice t37.ptr t37.len t37.cap] fun h38 =>
 ldI h38 b 0 .u8 fun t39=>ldS h38 b (0+1) fun t40=>ldL h38 b (0+2) fun t41=>ldL h38 b (0+3) fun t42=>K (t39,t40,t41,t42,()) h38)))) (()) h15) h14) (fun J2 =>
 ZC (decide (deep≥64)) (
 Ze r fun b3 o =>
 ldI h1 b3 (o+1) .i64 fun t =>
 f3 r 23 t (fun h4 =>
 J2 (()) h4) P h1) (
 J2 (()) h1))
def Z0 (f20:ZhG):ZrG:=Xy Zg Zy Zk (YZ f20)
abbrev ZrF:=(Option Addr)→ByteArray→Int→((Int × ByteArray × Sl × Sl × Unit)→HP)→(Value→HP)→HP
def ZaE (f2:zT2) (f3:zT3) (r:Option Addr) (w:ByteArray) (k:Int) (K:(Int × ByteArray × Sl × Sl × Unit)→HP) (P:Value→HP) (h:Zc):Prop :=
 newC h [.int .u8 0,.string (ByteArray.mk #[]),.slice none 0 0,.slice none 0 0] 33 fun b h1 =>
 ZbX (σ:=Int × Unit) (fun J2 s h3 =>
 (fun (s10:Int) =>
 ZC (decide (s10<(w.size:Int))) (
 Zx s10 fun i =>
 ZcH (σ:=Unit) (fun s20 h21 =>
 Ze r fun b22 o23 =>
 ldI h21 b22 (o23+1) .i64 fun t24 =>
 Ze r fun b25 o26 =>
 st h21 b25 (o26+1) (.int .i64 (IntKind.wrap .i64 (t24+1))) fun h27 =>
 J2 (IntKind.wrap .i64 (s10+1),()) h27) (fun J4 =>
 ZlJ (ρ:=Int × Unit) (fun K h=>f2 r (fun q h=>K (q,()) h) h) h3 fun r5 =>
 ZnF w i fun t6 =>
 ZC (r5.1 !=t6) (
 Ze r fun b7 o =>
 ldI h3 b7 (o+1) .i64 fun t8 =>
 f3 r 20 t8 (fun h9 =>
 J4 (()) h9) P h3) (
 Ze r fun b10 o11 =>
 ldI h3 b10 (o11+1) .i64 fun t12 =>
 Ze r fun b13 o14 =>
 ldS h3 b13 o14 fun t15 =>
 ZC (decide (t12≥(t15.size:Int))) (
 Ze r fun b16 o17 =>
 ldI h3 b16 (o17+1) .i64 fun t18 =>
 f3 r 20 t18 (fun h19 =>
 J4 (()) h19) P h3) (
 J4 (()) h3)))) (
 sts h3 b 0 [.int .u8 k,.string (ByteArray.mk #[]),.slice none 0 0,.slice none 0 0] fun h28 =>
 ldI h28 b 0 .u8 fun t29=>ldS h28 b (0+1) fun t30=>ldL h28 b (0+2) fun t31=>ldL h28 b (0+3) fun t32=>K (t29,t30,t31,t32,()) h28)) s.1) (0,()) h1
def Y1:ZrF:=ZaE Zk Zg
abbrev ZrE:=(Option Addr)→(HP)→(Value→HP)→HP
def X6 (f2:zT2) (f3:zT3) (r:Option Addr) (K:HP) (P:Value→HP) (h:Zc):Prop :=
 ZcH (σ:=Unit) (fun s h9 =>
 f2 r (fun t10 h11 =>
 Zx t10 fun c12 =>
 ZbX (σ:=Int × Unit) (fun J14 s15 h16 =>
 (fun (c13:Int) =>
 ZC (decide (c13≥48)) (
 ZC (decide (c13≤57)) (
 Ze r fun b17 o18 =>
 ldI h16 b17 (o18+1) .i64 fun t19 =>
 Ze r fun b20 o21 =>
 st h16 b20 (o21+1) (.int .i64 (IntKind.wrap .i64 (t19+1))) fun h22 =>
 f2 r (fun t23 h24 =>
 Zx t23 fun c25 =>
 J14 (c25,()) h24) h22) (
 K h16)) (
 K h16)) s15.1) (c12,()) h11) h9) (fun J1 =>
 f2 r (fun t h2 =>
 Zx t fun c =>
 ZC (decide (c<48)) (
 Ze r fun b o =>
 ldI h2 b (o+1) .i64 fun t3 =>
 f3 r 21 t3 (fun h4 =>
 J1 (()) h4) P h2) (
 ZC (decide (c>57)) (
 Ze r fun b5 o6 =>
 ldI h2 b5 (o6+1) .i64 fun t7 =>
 f3 r 21 t7 (fun h8 =>
 J1 (()) h8) P h2) (
 J1 (()) h2))) h)
def ZO:ZrE:=X6 Zk Zg
abbrev ZrD:=(Option Addr)→((Int × ByteArray × Sl × Sl × Unit)→HP)→(Value→HP)→HP
def X4 (f2:zT2) (f3:zT3) (f24:ZrE) (r:Option Addr) (K:(Int × ByteArray × Sl × Sl × Unit)→HP) (P:Value→HP) (h:Zc):Prop :=
 newC h [.int .u8 0,.string (ByteArray.mk #[]),.slice none 0 0,.slice none 0 0] 33 fun b h1 =>
 Ze r fun b2 o =>
 ldI h1 b2 (o+1) .i64 fun t =>
 Zx t fun from_ =>
 ZcH (σ:=Unit) (fun s h12 =>
 ZcH (σ:=Unit) (fun s29 h30 =>
 ZcH (σ:=Unit) (fun s41 h42 =>
 ZcH (σ:=Unit) (fun s95 h96 =>
 Ze r fun b97 o98 =>
 Ze r fun b99 o100 =>
 ldS h96 b97 o98 fun t101 =>
 ldI h96 b99 (o100+1) .i64 fun t102 =>
 Zmg t101 from_ t102 fun t103 =>
 sts h96 b 0 [.int .u8 4,.string t103,.slice none 0 0,.slice none 0 0] fun h104 =>
 ldI h104 b 0 .u8 fun t105=>ldS h104 b (0+1) fun t106=>ldL h104 b (0+2) fun t107=>ldL h104 b (0+3) fun t108=>K (t105,t106,t107,t108,()) h104) (fun J43 =>
 f2 r (fun t44 h45 =>
 Zx t44 fun c46 =>
 ZC (c46 ==101) (
 Ze r fun b47 o48 =>
 ldI h45 b47 (o48+1) .i64 fun t49 =>
 Ze r fun b50 o51 =>
 st h45 b50 (o51+1) (.int .i64 (IntKind.wrap .i64 (t49+1))) fun h52 =>
 f2 r (fun t53 h54 =>
 Zx t53 fun c55 =>
 ZC (c55 ==43) (
 Ze r fun b56 o57 =>
 ldI h54 b56 (o57+1) .i64 fun t58 =>
 Ze r fun b59 o60 =>
 st h54 b59 (o60+1) (.int .i64 (IntKind.wrap .i64 (t58+1))) fun h61 =>
 f24 r (fun h62 =>
 J43 (()) h62) P h61) (
 ZC (c55 ==45) (
 Ze r fun b63 o64 =>
 ldI h54 b63 (o64+1) .i64 fun t65 =>
 Ze r fun b66 o67 =>
 st h54 b66 (o67+1) (.int .i64 (IntKind.wrap .i64 (t65+1))) fun h68 =>
 f24 r (fun h69 =>
 J43 (()) h69) P h68) (
 f24 r (fun h70 =>
 J43 (()) h70) P h54))) h52) (
 ZC (c46 ==69) (
 Ze r fun b71 o72 =>
 ldI h45 b71 (o72+1) .i64 fun t73 =>
 Ze r fun b74 o75 =>
 st h45 b74 (o75+1) (.int .i64 (IntKind.wrap .i64 (t73+1))) fun h76 =>
 f2 r (fun t77 h78 =>
 Zx t77 fun c79 =>
 ZC (c79 ==43) (
 Ze r fun b80 o81 =>
 ldI h78 b80 (o81+1) .i64 fun t82 =>
 Ze r fun b83 o84 =>
 st h78 b83 (o84+1) (.int .i64 (IntKind.wrap .i64 (t82+1))) fun h85 =>
 f24 r (fun h86 =>
 J43 (()) h86) P h85) (
 ZC (c79 ==45) (
 Ze r fun b87 o88 =>
 ldI h78 b87 (o88+1) .i64 fun t89 =>
 Ze r fun b90 o91 =>
 st h78 b90 (o91+1) (.int .i64 (IntKind.wrap .i64 (t89+1))) fun h92 =>
 f24 r (fun h93 =>
 J43 (()) h93) P h92) (
 f24 r (fun h94 =>
 J43 (()) h94) P h78))) h76) (
 J43 (()) h45))) h42)) (fun J31 =>
 f2 r (fun t32 h33 =>
 ZC (t32 ==46) (
 Ze r fun b34 o35 =>
 ldI h33 b34 (o35+1) .i64 fun t36 =>
 Ze r fun b37 o38 =>
 st h33 b37 (o38+1) (.int .i64 (IntKind.wrap .i64 (t36+1))) fun h39 =>
 f24 r (fun h40 =>
 J31 (()) h40) P h39) (
 J31 (()) h33)) h30)) (fun J13 =>
 f2 r (fun t14 h15 =>
 ZC (t14 ==48) (
 Ze r fun b16 o17 =>
 ldI h15 b16 (o17+1) .i64 fun t18 =>
 Ze r fun b19 o20 =>
 st h15 b19 (o20+1) (.int .i64 (IntKind.wrap .i64 (t18+1))) fun h21 =>
 f2 r (fun t22 h23 =>
 Zx t22 fun c =>
 ZC (decide (c≥48)) (
 ZC (decide (c≤57)) (
 Ze r fun b24 o25 =>
 ldI h23 b24 (o25+1) .i64 fun t26 =>
 f3 r 21 t26 (fun h27 =>
 J13 (()) h27) P h23) (
 J13 (()) h23)) (
 J13 (()) h23)) h21) (
 f24 r (fun h28 =>
 J13 (()) h28) P h15)) h12)) (fun J3 =>
 f2 r (fun t4 h5 =>
 ZC (t4 ==45) (
 Ze r fun b6 o7 =>
 ldI h5 b6 (o7+1) .i64 fun t8 =>
 Ze r fun b9 o10 =>
 st h5 b9 (o10+1) (.int .i64 (IntKind.wrap .i64 (t8+1))) fun h11 =>
 J3 (()) h11) (
 J3 (()) h5)) h1)
def Yr:ZrD:=X4 Zk Zg ZO
def Zal (f1:zT1) (f2:zT2) (f3:zT3) (f22:ZrG) (f19:ZpA) (f23:ZrF) (f25:ZrD) (r:Option Addr) (deep:Int) (K:(Int × ByteArray × Sl × Sl × Unit)→HP) (P:Value→HP) (h:Zc):Prop :=
 newC h [.int .u8 0,.string (ByteArray.mk #[]),.slice none 0 0,.slice none 0 0] 33 fun b h1 =>
 f1 r (fun h2 =>
 ZcH (σ:=Unit) (fun s h78 =>
 Ze r fun b79 o80 =>
 ldI h78 b79 (o80+1) .i64 fun t81 =>
 f3 r 20 t81 (fun h82 =>
 sts h82 b 0 [.int .u8 0,.string (ByteArray.mk #[]),.slice none 0 0,.slice none 0 0] fun h83 =>
 ldI h83 b 0 .u8 fun t84=>ldS h83 b (0+1) fun t85=>ldL h83 b (0+2) fun t86=>ldL h83 b (0+3) fun t87=>K (t84,t85,t86,t87,()) h83) P h78) (fun J3 =>
 f2 r (fun t h4 =>
 Zx t fun c =>
 Ze r fun b5 o =>
 ldI h4 b5 (o+1) .i64 fun t6 =>
 Ze r fun b7 o8 =>
 ldS h4 b7 o8 fun t9 =>
 ZN (decide (t6≥(t9.size:Int))) fun t10 =>
 ZC t10 (
 Ze r fun b11 o12 =>
 ldI h4 b11 (o12+1) .i64 fun t13 =>
 f3 r 24 t13 (fun h14 =>
 J3 (()) h14) P h4) (
 ZN (c ==123) fun t15 =>
 ZC t15 (
 f22 r 7 125 deep (fun t16 h17 =>
 sts h17 b 0 [.int .u8 t16.1,.string t16.2.1,.slice t16.2.2.1.ptr t16.2.2.1.len t16.2.2.1.cap,.slice t16.2.2.2.1.ptr t16.2.2.2.1.len t16.2.2.2.1.cap] fun h18 =>
 ldI h18 b 0 .u8 fun t19=>ldS h18 b (0+1) fun t20=>ldL h18 b (0+2) fun t21=>ldL h18 b (0+3) fun t22=>K (t19,t20,t21,t22,()) h18) P h4) (
 ZN (c ==91) fun t23 =>
 ZC t23 (
 f22 r 6 93 deep (fun t24 h25 =>
 sts h25 b 0 [.int .u8 t24.1,.string t24.2.1,.slice t24.2.2.1.ptr t24.2.2.1.len t24.2.2.1.cap,.slice t24.2.2.2.1.ptr t24.2.2.2.1.len t24.2.2.2.1.cap] fun h26 =>
 ldI h26 b 0 .u8 fun t27=>ldS h26 b (0+1) fun t28=>ldL h26 b (0+2) fun t29=>ldL h26 b (0+3) fun t30=>K (t27,t28,t29,t30,()) h26) P h4) (
 ZN (c ==34) fun t31 =>
 ZC t31 (
 f19 r (fun t32 h33 =>
 sts h33 b 0 [.int .u8 5,.string t32,.slice none 0 0,.slice none 0 0] fun h34 =>
 ldI h34 b 0 .u8 fun t35=>ldS h34 b (0+1) fun t36=>ldL h34 b (0+2) fun t37=>ldL h34 b (0+3) fun t38=>K (t35,t36,t37,t38,()) h34) P h4) (
 ZN (c ==110) fun t39 =>
 ZC t39 (
 f23 r (ByteArray.mk #[110,117,108,108]) 1 (fun t40 h41 =>
 sts h41 b 0 [.int .u8 t40.1,.string t40.2.1,.slice t40.2.2.1.ptr t40.2.2.1.len t40.2.2.1.cap,.slice t40.2.2.2.1.ptr t40.2.2.2.1.len t40.2.2.2.1.cap] fun h42 =>
 ldI h42 b 0 .u8 fun t43=>ldS h42 b (0+1) fun t44=>ldL h42 b (0+2) fun t45=>ldL h42 b (0+3) fun t46=>K (t43,t44,t45,t46,()) h42) P h4) (
 ZN (c ==102) fun t47 =>
 ZC t47 (
 f23 r (ByteArray.mk #[102,97,108,115,101]) 2 (fun t48 h49 =>
 sts h49 b 0 [.int .u8 t48.1,.string t48.2.1,.slice t48.2.2.1.ptr t48.2.2.1.len t48.2.2.1.cap,.slice t48.2.2.2.1.ptr t48.2.2.2.1.len t48.2.2.2.1.cap] fun h50 =>
 ldI h50 b 0 .u8 fun t51=>ldS h50 b (0+1) fun t52=>ldL h50 b (0+2) fun t53=>ldL h50 b (0+3) fun t54=>K (t51,t52,t53,t54,()) h50) P h4) (
 ZN (c ==116) fun t55 =>
 ZC t55 (
 f23 r (ByteArray.mk #[116,114,117,101]) 3 (fun t56 h57 =>
 sts h57 b 0 [.int .u8 t56.1,.string t56.2.1,.slice t56.2.2.1.ptr t56.2.2.1.len t56.2.2.1.cap,.slice t56.2.2.2.1.ptr t56.2.2.2.1.len t56.2.2.2.1.cap] fun h58 =>
 ldI h58 b 0 .u8 fun t59=>ldS h58 b (0+1) fun t60=>ldL h58 b (0+2) fun t61=>ldL h58 b (0+3) fun t62=>K (t59,t60,t61,t62,()) h58) P h4) (
 ZC (c ==45) (
 f25 r (fun t63 h64 =>
 sts h64 b 0 [.int .u8 t63.1,.string t63.2.1,.slice t63.2.2.1.ptr t63.2.2.1.len t63.2.2.1.cap,.slice t63.2.2.2.1.ptr t63.2.2.2.1.len t63.2.2.2.1.cap] fun h65 =>
 ldI h65 b 0 .u8 fun t66=>ldS h65 b (0+1) fun t67=>ldL h65 b (0+2) fun t68=>ldL h65 b (0+3) fun t69=>K (t66,t67,t68,t69,()) h65) P h4) (
 ZC (decide (c≥48)) (
 ZN (decide (c≤57)) fun t70 =>
 ZC t70 (
 f25 r (fun t71 h72 =>
 sts h72 b 0 [.int .u8 t71.1,.string t71.2.1,.slice t71.2.2.1.ptr t71.2.2.1.len t71.2.2.1.cap,.slice t71.2.2.2.1.ptr t71.2.2.2.1.len t71.2.2.2.1.cap] fun h73 =>
 ldI h73 b 0 .u8 fun t74=>ldS h73 b (0+1) fun t75=>ldL h73 b (0+2) fun t76=>ldL h73 b (0+3) fun t77=>K (t74,t75,t76,t77,()) h73) P h4) (
 J3 (()) h4)) (
 J3 (()) h4)))))))))) h2)) h1
def Xq (f20:ZhG):ZhG:=Zal Zy Zk Zg (Z0 f20) Ym Y1 Yr
def Yh:Nat→ZhG
 | 0=>fun _ _ _ _ _=>False
 | n+1=>Xq (Yh n)
def Xt:ZhG:=fun r deep K P h=>∃ n,Yh n r deep K P h
abbrev zV:List Value:=[.int .u8 0,.string (ByteArray.mk #[]),.slice none 0 0,.slice none 0 0]
def ZsL (b2 b3 b4:Nat) (e n:Int) (E:HP) (h:Zc):Prop :=
 Ze2 (.iface 160 (.agg #[.int .i64 e,.int .i64 n])) fun b=>ZC b (E h) (ZC true (
 newC h [.int .i64 0,.int .i64 0] 160 fun b1 h2=>sts h2 b1 0 [.int .i64 e,.int .i64 n] fun h3 =>
 ldI h3 b1 0 .i64 fun t=>ldI h3 b1 (0+1) .i64 fun t4 =>
 Ze (some ⟨b2,0,none⟩) fun b5 o=>sts h3 b5 o zV fun h6=>ZbV (Zc4 h6 [(b1,0+1,.int .i64 t4)]) <| ZbV (Zc4 h6 [(b1,0,.int .i64 t)]) <|
 Ze (some ⟨b3,0,none⟩) fun b7 o8=>st h6 b7 o8 (.int .i64 t) fun h9=>ZbV (Zc4 h9 [(b1,0+1,.int .i64 t4)]) <|
 Ze (some ⟨b4,0,none⟩) fun b10 o11=>st h9 b10 o11 (.int .i64 t4) fun h12=>E h12) False)
def Zdv (b b2 b4:Nat) (K:(Int × ByteArray × Sl × Sl × Unit)→Int→Int→HP) (h:Zc):Prop :=
 ldI h b 0 .u8 fun t=>ldS h b (0+1) fun t9=>ldL h b (0+2) fun t10=>ldL h b (0+3) fun t11=>ldI h b2 0 .i64 fun t12=>ldI h b4 0 .i64 fun t13=>K (t,t9,t10,t11,()) t12 t13 h
def Zae (b b2 b4:Nat) (K:(Int × ByteArray × Sl × Sl × Unit)→Int→Int→HP) (v:Value) (h:Zc):Prop :=
 ∃ e n,v = .iface 160 (.agg #[.int .i64 e,.int .i64 n])∧ZsL b b2 b4 e n (Zdv b b2 b4 K) h
def ZdW (b b2 b4:Nat) (K:(Int × ByteArray × Sl × Sl × Unit)→Int→Int→HP) (h:Zc):Prop :=
 ldI h b 0 .u8 fun t36=>ldS h b (0+1) fun t37=>ldL h b (0+2) fun t38=>ldL h b (0+3) fun t39 =>
 sts h b 0 [.int .u8 t36,.string t37,.slice t38.ptr t38.len t38.cap,.slice t39.ptr t39.len t39.cap] fun h40 =>
 st h40 b2 0 (.int .i64 0) fun h41=>st h41 b4 0 (.int .i64 0) fun h42=>Zdv b b2 b4 K h42
def Z8 (s:ByteArray) (K:(Int × ByteArray × Sl × Sl × Unit)→Int→Int→HP) (h:Zc):Prop :=
 newC h zV 33 fun b h1=>newC h1 [.int .i64 0] 37 fun b2 h3=>newC h3 [.int .i64 0] 3 fun b4 h5 =>
 ZC (decide ((s.size:Int)>65536)) (
 sts h5 b 0 zV fun h6=>st h6 b2 0 (.int .i64 5) fun h7=>st h7 b4 0 (.int .i64 65536) fun h8=>Zdv b b2 b4 K h8) (
 newC h5 [.string s,.int .i64 0] 163 fun b14 h15 =>
 Xt (some ⟨b14,0,none⟩) 0 (fun t16 h17 =>
 sts h17 b 0 [.int .u8 t16.1,.string t16.2.1,.slice t16.2.2.1.ptr t16.2.2.1.len t16.2.2.1.cap,.slice t16.2.2.2.1.ptr t16.2.2.2.1.len t16.2.2.2.1.cap] fun h18 =>
 Zy (some ⟨b14,0,none⟩) (fun h19 =>
 ldI h19 b14 (0+1) .i64 fun t20=>ZC (decide (t20<(s.size:Int))) (
 ldI h19 b14 (0+1) .i64 fun t21=>Zg (some ⟨b14,0,none⟩) 25 t21 (ZdW b b2 b4 K) (Zae b b2 b4 K) h19) (ZdW b b2 b4 K h19)) h18) (Zae b b2 b4 K) h15)
abbrev Zoq:=ByteArray→((Int × ByteArray × Sl × Sl × Unit)→Int→Int→HP)→HP
abbrev ZrC:=ByteArray→(Bool→HP)→HP
def ZbB (f26:Zoq) (s:ByteArray) (K:Bool→HP) (h:Zc):Prop :=
 f26 s (fun t t1 t2 h3 =>
 newC h3 [.int .u8 0,.string (ByteArray.mk #[]),.slice none 0 0,.slice none 0 0] 33 fun b h4 =>
 sts h4 b 0 [.int .u8 t.1,.string t.2.1,.slice t.2.2.1.ptr t.2.2.1.len t.2.2.1.cap,.slice t.2.2.2.1.ptr t.2.2.2.1.len t.2.2.2.1.cap] fun h5 =>
 Zx t1 fun e =>
 Zx t2 fun x =>
 ZC (e ==0) (
 ldI h5 b 0 .u8 fun t6 =>
 ZC (t6 ==4) (
 ldS h5 b (0+1) fun t7 =>
 ZN (ZaK t7 s) fun t8 =>
 K t8 h5) (
 K false h5)) (
 K false h5)) h
def XM:ZrC:=ZbB Z8
abbrev ZrB:=ByteArray→(Bool→HP)→HP
def ZbY (f15:Zmf) (s:ByteArray) (K:Bool→HP) (h:Zc):Prop :=
 f15 s (fun t h1 =>
 ZN (!t) fun t2 =>
 K t2 h1) h
def ZaX:ZrB:=ZbY Zz
abbrev ZrA:=Sl→(Int→HP)→HP
def ZL (f48:ZrB) (s:Sl) (K:Int→HP) (h:Zc):Prop :=
 Zx 0 fun t =>
 ZbX (σ:=Int × Unit) (fun J1 s2 h3 =>
 (fun (s8:Int) =>
 ZC (decide (s8<(s.len:Int))) (
 Zx s8 fun i =>
 Zfe s.ptr s.len i 1 fun b o =>
 ldS h3 b o fun t4 =>
 f48 t4 (fun t5 h6 =>
 ZC t5 (
 Zx i fun t7 =>
 K t7 h6) (
 J1 (IntKind.wrap .i64 (s8+1),()) h6)) h3) (
 Zx (-1) fun t8 =>
 K t8 h3)) s2.1) (0,()) h
def ZF:ZrA:=ZL ZaX
abbrev Zrz:=Sl→(Bool→HP)→HP
def ZH (f49:ZrA) (s:Sl) (K:Bool→HP) (h:Zc):Prop :=
 f49 s (fun t h1 =>
 ZN (decide (t≥0)) fun t2 =>
 K t2 h1) h
def Zu:Zrz:=ZH ZF
abbrev Zry:=(Int × ByteArray × Sl × Sl × Unit)→(Bool→HP)→HP
def Zc7 (f47:ZrC) (f15:Zmf) (f50:Zrz) (v:Int × ByteArray × Sl × Sl × Unit) (K:Bool→HP) (h:Zc):Prop :=
 newC h [.int .u8 v.1,.string v.2.1,.slice v.2.2.1.ptr v.2.2.1.len v.2.2.1.cap,.slice v.2.2.2.1.ptr v.2.2.2.1.len v.2.2.2.1.cap] 33 fun b h1 =>
 ldS h1 b (0+1) fun t =>
 ldL h1 b (0+2) fun t2 =>
 ldL h1 b (0+3) fun t3 =>
 ZN (!(ZaK t (ByteArray.mk #[]))) fun text =>
 ZN (decide ((t2.len:Int)>0)) fun list =>
 ZN (decide ((t3.len:Int)>0)) fun names =>
 ldI h1 b 0 .u8 fun t4 =>
 ZcH (σ:=Bool × Unit) (fun s h9 =>
 (fun (s19:Bool) =>
 ZC s19 (
 ZC (!text) (
 ZC (!list) (
 ZN (!names) fun t10 =>
 K t10 h9) (
 K false h9)) (
 K false h9)) (
 ZN (t4 ==4) fun t11 =>
 ZC t11 (
 ldS h9 b (0+1) fun t12 =>
 f47 t12 (fun t13 h14 =>
 ZC t13 (
 ZC (!list) (
 ZN (!names) fun t15 =>
 K t15 h14) (
 K false h14)) (
 K false h14)) h9) (
 ZN (t4 ==5) fun t16 =>
 ZC t16 (
 ldS h9 b (0+1) fun t17 =>
 f15 t17 (fun t18 h19 =>
 ZC t18 (
 ZC (!list) (
 ZN (!names) fun t20 =>
 K t20 h19) (
 K false h19)) (
 K false h19)) h9) (
 ZN (t4 ==6) fun t21 =>
 ZC t21 (
 ZC (!text) (
 ZN (!names) fun t22 =>
 K t22 h9) (
 K false h9)) (
 ZN (t4 ==7) fun t23 =>
 ZC t23 (
 ZC (!text) (
 ldL h9 b (0+3) fun t24 =>
 ldL h9 b (0+2) fun t25 =>
 ZC ((t24.len:Int) ==(t25.len:Int)) (
 ldL h9 b (0+3) fun t26 =>
 f50 t26 (fun t27 h28 =>
 ZN (!t27) fun t29 =>
 K t29 h28) h9) (
 K false h9)) (
 K false h9)) (
 K false h9)))))) s.1) (fun J5 =>
 ZN (t4 ==1) fun t6 =>
 ZC t6 (
 J5 (t6,()) h1) (
 ZN (t4 ==2) fun t7 =>
 ZC t7 (
 J5 (t7,()) h1) (
 ZN (t4 ==3) fun t8 =>
 J5 (t8,()) h1)))
def Za3:Zry:=Zc7 XM Zz Zu
abbrev Zrx:=(Int × ByteArray × Sl × Sl × Unit)→(Bool→HP)→HP
def ZbZ (a0:Int × ByteArray × Sl × Sl × Unit) (K:Bool→HP) (h:Zc):Prop :=
 newC h [.int .u8 a0.1,.string a0.2.1,.slice a0.2.2.1.ptr a0.2.2.1.len a0.2.2.1.cap,.slice a0.2.2.2.1.ptr a0.2.2.2.1.len a0.2.2.2.1.cap] 33 fun b h1 =>
 K true h1
def ZaY:Zrx:=ZbZ
abbrev Zfv:=(Option Addr)→(Int × ByteArray × Sl × Sl × Unit)→Int→Value→(Bool→HP)→HP
abbrev Zrw:=(Int × ByteArray × Sl × Sl × Unit)→(Option Addr)→(Option Addr)→(Option Addr)→(Bool→HP)→HP
def Zan (f53:Zfv) (p:Int × ByteArray × Sl × Sl × Unit) (a1:Option Addr) (a2:Option Addr) (a3:Option Addr) (K:Bool→HP) (h:Zc):Prop :=
 newC h [.int .u8 p.1,.string p.2.1,.slice p.2.2.1.ptr p.2.2.1.len p.2.2.1.cap,.slice p.2.2.2.1.ptr p.2.2.2.1.len p.2.2.2.1.cap] 33 fun b h1 =>
 Ze a1 fun b2 o=>ldP h1 b2 o fun t =>
 ldI h1 b 0 .u8 fun t3=>ldS h1 b (0+1) fun t4=>ldL h1 b (0+2) fun t5=>ldL h1 b (0+3) fun t6 =>
 Ze a2 fun b7 o8=>ldI h1 b7 o8 .i64 fun t9 =>
 Ze a3 fun b10 o11=>ldV h1 b10 o11 fun t12 =>
 f53 t (t3,t4,t5,t6,()) (IntKind.wrap .i64 (t9+1)) t12 (fun t13 h14 =>
 ZN (!t13) fun t15 =>
 K t15 h14) h1
def Xr (f53:Zfv):Zrw:=Zan f53
abbrev Zrv:=Sl→(Option Addr × Option Addr × Option Addr × Unit)→(Int→HP)→HP
def ZG (f54:Zrw) (s:Sl) (f:Option Addr × Option Addr × Option Addr × Unit) (K:Int→HP) (h:Zc):Prop :=
 Zx 0 fun t =>
 ZbX (σ:=Int × Unit) (fun J1 s2 h3 =>
 (fun (s8:Int) =>
 ZC (decide (s8<(s.len:Int))) (
 Zx s8 fun i =>
 Zfe s.ptr s.len i 4 fun b o =>
 ldI h3 b o .u8 fun t4=>ldS h3 b (o+1) fun t5=>ldL h3 b (o+2) fun t6=>ldL h3 b (o+3) fun t7 =>
 f54 (t4,t5,t6,t7,()) f.1 f.2.1 f.2.2.1 (fun t8 h9 =>
 ZC t8 (
 Zx i fun t10 =>
 K t10 h9) (
 J1 (IntKind.wrap .i64 (s8+1),()) h9)) h3) (
 Zx (-1) fun t11 =>
 K t11 h3)) s2.1) (0,()) h
def Zv (f53:Zfv):Zrv:=ZG (Xr f53)
abbrev Zru:=Sl→(Option Addr × Option Addr × Option Addr × Unit)→(Bool→HP)→HP
def ZD (f55:Zrv) (s:Sl) (f:Option Addr × Option Addr × Option Addr × Unit) (K:Bool→HP) (h:Zc):Prop :=
 f55 s (f.1,f.2.1,f.2.2.1,()) (fun t h1 =>
 ZN (decide (t≥0)) fun t2 =>
 K t2 h1) h
def Zl (f53:Zfv):Zru:=ZD (Zv f53)
def ZaT (f51:Zry) (f52:Zrx) (f56:Zru) (c:Option Addr) (v:Int × ByteArray × Sl × Sl × Unit) (deep:Int) (right:Value) (K:Bool→HP) (h:Zc):Prop :=
 newC h [.pointer c] 155 fun b h1 =>
 newC h1 [.int .u8 v.1,.string v.2.1,.slice v.2.2.1.ptr v.2.2.1.len v.2.2.1.cap,.slice v.2.2.2.1.ptr v.2.2.2.1.len v.2.2.2.1.cap] 33 fun b2 h3 =>
 newC h3 [.int .i64 deep] 3 fun b4 h5 =>
 ZbV (ZZ right=true) <| newC h5 [right] 45 fun b6 h7 =>
 ldP h7 b 0 fun t =>
 Ze t fun b8 o =>
 ldI h7 b8 o .i64 fun t9 =>
 Ze t fun b10 o11 =>
 st h7 b10 o11 (.int .i64 (IntKind.wrap .i64 (t9+1))) fun h12 =>
 ldP h12 b 0 fun t13 =>
 Ze t13 fun b14 o15 =>
 ldI h12 b14 o15 .i64 fun t16 =>
 ZC (decide (t16>65536)) (
 K false h12) (
 ldV h12 b6 0 fun t17 =>
 ldI h12 b2 0 .u8 fun t18=>ldS h12 b2 (0+1) fun t19=>ldL h12 b2 (0+2) fun t20=>ldL h12 b2 (0+3) fun t21 =>
 (ZtS t17 94 <| f51 (t18,t19,t20,t21,()) (fun t24 h22 =>
 ZC (!t24) (
 K false h22) (
 ZcH (σ:=Unit) (fun s h29 =>
 ldP h29 b 0 fun t30 =>
 ldP h29 b 0 fun t31 =>
 Ze t31 fun b32 o33 =>
 ldI h29 b32 (o33+1) .i64 fun t34 =>
 ldI h29 b4 0 .i64 fun t35 =>
 Ze t30 fun b36 o37 =>
 st h29 b36 (o37+1) (.int .i64 (ZpQ t34 (IntKind.wrap .i64 (t35+1)))) fun h38 =>
 ldI h38 b4 0 .i64 fun t39 =>
 ZC (decide (t39≥64)) (
 K true h38) (
 ldL h38 b2 (0+2) fun t40 =>
 f56 t40 (some ⟨b,0,none⟩,some ⟨b4,0,none⟩,some ⟨b6,0,none⟩,()) (fun t41 h42 =>
 ZN (!t41) fun t43 =>
 K t43 h42) h38)) (fun J26 =>
 ldI h22 b2 0 .u8 fun t27 =>
 ZC (t27 !=6) (
 ldI h22 b2 0 .u8 fun t28 =>
 ZC (t28 !=7) (
 K true h22) (
 J26 (()) h22)) (
 J26 (()) h22)))) h12)∨(
 (ZtS t17 119 <| f52 (t18,t19,t20,t21,()) (fun t24 h22 =>
 ZC (!t24) (
 K false h22) (
 ZcH (σ:=Unit) (fun s h29 =>
 ldP h29 b 0 fun t30 =>
 ldP h29 b 0 fun t31 =>
 Ze t31 fun b32 o33 =>
 ldI h29 b32 (o33+1) .i64 fun t34 =>
 ldI h29 b4 0 .i64 fun t35 =>
 Ze t30 fun b36 o37 =>
 st h29 b36 (o37+1) (.int .i64 (ZpQ t34 (IntKind.wrap .i64 (t35+1)))) fun h38 =>
 ldI h38 b4 0 .i64 fun t39 =>
 ZC (decide (t39≥64)) (
 K true h38) (
 ldL h38 b2 (0+2) fun t40 =>
 f56 t40 (some ⟨b,0,none⟩,some ⟨b4,0,none⟩,some ⟨b6,0,none⟩,()) (fun t41 h42 =>
 ZN (!t41) fun t43 =>
 K t43 h42) h38)) (fun J26 =>
 ldI h22 b2 0 .u8 fun t27 =>
 ZC (t27 !=6) (
 ldI h22 b2 0 .u8 fun t28 =>
 ZC (t28 !=7) (
 K true h22) (
 J26 (()) h22)) (
 J26 (()) h22)))) h12)∨(
 False)))
def XW (f53:Zfv):Zfv:=ZaT Za3 ZaY (Zl f53)
def Yw:Nat→Zfv
 | 0=>fun _ _ _ _ _ _=>False
 | n+1=>XW (Yw n)
def Xh:Zfv:=fun c v deep right K h=>∃ n,Yw n c v deep right K h
abbrev Zkp:=(Int × ByteArray × Sl × Sl × Unit)→(Bool→HP)→HP
def Zdb (f53:Zfv) (v:Int × ByteArray × Sl × Sl × Unit) (K:Bool→HP) (h:Zc):Prop :=
 newC h [.int .u8 v.1,.string v.2.1,.slice v.2.2.1.ptr v.2.2.1.len v.2.2.1.cap,.slice v.2.2.2.1.ptr v.2.2.2.1.len v.2.2.2.1.cap] 33 fun b h1 =>
 newC h1 [.int .i64 0,.int .i64 0] 157 fun b2 h3 =>
 ldI h3 b 0 .u8 fun t=>ldS h3 b (0+1) fun t4=>ldL h3 b (0+2) fun t5=>ldL h3 b (0+3) fun t6 =>
 f53 (some ⟨b2,0,none⟩) (t,t4,t5,t6,()) 0 (.func (.func 94) #[] #[]) (fun t7 h8 =>
 ZC t7 (
 ldI h8 b2 (0+1) .i64 fun t9 =>
 ZN (decide (t9≤64)) fun t10 =>
 K t10 h8) (
 K false h8)) h3
def Yt:Zkp:=Zdb Xh
abbrev Zpz:=(Option Addr)→(Int→HP)→HP
def XP (b:Option Addr) (K:Int→HP) (h:Zc):Prop :=
 Zx 0 fun t =>
 Ze b fun b1 o =>
 ldL h b1 (o+1) fun t2 =>
 Zx (t2.len:Int) fun t3 =>
 K t3 h
def Z3:Zpz:=XP
abbrev Zrt:=(Option Addr)→ByteArray→(HP)→HP
def ZaD (f6:zT6) (f0:zT0) (f17:Zmm) (w:Option Addr) (s:ByteArray) (K:HP) (h:Zc):Prop :=
 Ze w fun b o =>
 f6 (some ⟨b,o,none⟩) 34 (fun t h1 =>
 ZbX (σ:=Int × Unit) (fun J2 s3 h4 =>
 (fun (s13:Int) =>
 ZC (decide (s13<(s.size:Int))) (
 Zx s13 fun i =>
 ZnF s i fun t5 =>
 Zx t5 fun c =>
 f0 (ByteArray.mk #[8,12,10,13,9]) c (fun t6 h7 =>
 Zx t6 fun k =>
 ZcH (σ:=Bool × Unit) (fun s10 h11 =>
 (fun (s26:Bool) =>
 ZC s26 (
 Ze w fun b12 o13 =>
 f6 (some ⟨b12,o13,none⟩) 92 (fun t14 h15 =>
 Ze w fun b16 o17 =>
 f6 (some ⟨b16,o17,none⟩) c (fun t18 h19 =>
 J2 (IntKind.wrap .i64 (s13+1),()) h19) h15) h11) (
 ZN (decide (k≥0)) fun t20 =>
 ZC t20 (
 Ze w fun b21 o22 =>
 f6 (some ⟨b21,o22,none⟩) 92 (fun t23 h24 =>
 Ze w fun b25 o26 =>
 ZnF (ByteArray.mk #[98,102,110,114,116]) k fun t27 =>
 f6 (some ⟨b25,o26,none⟩) t27 (fun t28 h29 =>
 J2 (IntKind.wrap .i64 (s13+1),()) h29) h24) h11) (
 ZN (decide (c<32)) fun t30 =>
 ZC t30 (
 Ze w fun b31 o32 =>
 f17 (some ⟨b31,o32,none⟩) (ByteArray.mk #[92,117,48,48]) (fun t33 t34 h35 =>
 Ze w fun b36 o37 =>
 ZbV (0≤(4:Int)) <|
 ZnF (ByteArray.mk #[48,49,50,51,52,53,54,55,56,57,97,98,99,100,101,102]) (Zlx .u8 c 4) fun t38 =>
 f6 (some ⟨b36,o37,none⟩) t38 (fun t39 h40 =>
 Ze w fun b41 o42 =>
 ZnF (ByteArray.mk #[48,49,50,51,52,53,54,55,56,57,97,98,99,100,101,102]) (Zll .u8 c 15) fun t43 =>
 f6 (some ⟨b41,o42,none⟩) t43 (fun t44 h45 =>
 J2 (IntKind.wrap .i64 (s13+1),()) h45) h40) h35) h11) (
 Ze w fun b46 o47 =>
 f6 (some ⟨b46,o47,none⟩) c (fun t48 h49 =>
 J2 (IntKind.wrap .i64 (s13+1),()) h49) h11)))) s10.1) (fun J8 =>
 ZC (c ==34) (
 J8 (true,()) h7) (
 ZN (c ==92) fun t9 =>
 J8 (t9,()) h7))) h4) (
 Ze w fun b50 o51 =>
 f6 (some ⟨b50,o51,none⟩) 34 (fun t52 h53 =>
 K h53) h4)) s3.1) (0,()) h1) h
def Y0:Zrt:=ZaD Zp Z1 Zo
abbrev Zko:=(Option Addr)→(Int × ByteArray × Sl × Sl × Unit)→(HP)→HP
def Zak (f58:Zpz) (f17:Zmm) (f59:Zrt) (f6:zT6) (f60:Zko) (w:Option Addr) (v:Int × ByteArray × Sl × Sl × Unit) (K:HP) (h:Zc):Prop :=
 newC h [.int .u8 v.1,.string v.2.1,.slice v.2.2.1.ptr v.2.2.1.len v.2.2.1.cap,.slice v.2.2.2.1.ptr v.2.2.2.1.len v.2.2.2.1.cap] 33 fun b h1 =>
 Ze w fun b2 o =>
 f58 (some ⟨b2,o,none⟩) (fun t h3 =>
 ZC (decide (t>65536)) (
 K h3) (
 ldI h3 b 0 .u8 fun t4 =>
 ZN (t4 ==1) fun t5 =>
 ZC t5 (
 Ze w fun b6 o7 =>
 f17 (some ⟨b6,o7,none⟩) (ByteArray.mk #[110,117,108,108]) (fun t8 t9 h10 =>
 K h10) h3) (
 ZN (t4 ==2) fun t11 =>
 ZC t11 (
 Ze w fun b12 o13 =>
 f17 (some ⟨b12,o13,none⟩) (ByteArray.mk #[102,97,108,115,101]) (fun t14 t15 h16 =>
 K h16) h3) (
 ZN (t4 ==3) fun t17 =>
 ZC t17 (
 Ze w fun b18 o19 =>
 f17 (some ⟨b18,o19,none⟩) (ByteArray.mk #[116,114,117,101]) (fun t20 t21 h22 =>
 K h22) h3) (
 ZN (t4 ==4) fun t23 =>
 ZC t23 (
 Ze w fun b24 o25 =>
 ldS h3 b (0+1) fun t26 =>
 f17 (some ⟨b24,o25,none⟩) t26 (fun t27 t28 h29 =>
 K h29) h3) (
 ZN (t4 ==5) fun t30 =>
 ZC t30 (
 ldS h3 b (0+1) fun t31 =>
 f59 w t31 (fun h32 =>
 K h32) h3) (
 ZcH (σ:=ByteArray × Unit) (fun s h35 =>
 (fun (ends:ByteArray) =>
 Ze w fun b36 o37 =>
 ZnF ends 0 fun t38 =>
 f6 (some ⟨b36,o37,none⟩) t38 (fun t39 h40 =>
 ldL h40 b (0+2) fun t41 =>
 ZbX (σ:=Int × Unit) (fun J42 s43 h44 =>
 (fun (s26:Int) =>
 ZC (decide (s26<(t41.len:Int))) (
 Zfe t41.ptr t41.len s26 4 fun b45 o46 =>
 ldI h44 b45 o46 .u8 fun t47=>ldS h44 b45 (o46+1) fun t48=>ldL h44 b45 (o46+2) fun t49=>ldL h44 b45 (o46+3) fun t50 =>
 newC h44 [.int .u8 0,.string (ByteArray.mk #[]),.slice none 0 0,.slice none 0 0] 33 fun b51 h52 =>
 Zx s26 fun i =>
 sts h52 b51 0 [.int .u8 t47,.string t48,.slice t49.ptr t49.len t49.cap,.slice t50.ptr t50.len t50.cap] fun h53 =>
 ZcH (σ:=Unit) (fun s59 h60 =>
 ZcH (σ:=Unit) (fun s72 h73 =>
 ldI h73 b51 0 .u8 fun t74=>ldS h73 b51 (0+1) fun t75=>ldL h73 b51 (0+2) fun t76=>ldL h73 b51 (0+3) fun t77 =>
 f60 w (t74,t75,t76,t77,()) (fun h78 =>
 J42 (IntKind.wrap .i64 (s26+1),()) h78) h73) (fun J61 =>
 ldI h60 b 0 .u8 fun t62 =>
 ZC (t62 ==7) (
 ldL h60 b (0+3) fun t63 =>
 Zfe t63.ptr t63.len i 1 fun b64 o65 =>
 ldS h60 b64 o65 fun t66 =>
 f59 w t66 (fun h67 =>
 Ze w fun b68 o69 =>
 f6 (some ⟨b68,o69,none⟩) 58 (fun t70 h71 =>
 J61 (()) h71) h67) h60) (
 J61 (()) h60))) (fun J54 =>
 ZC (decide (i>0)) (
 Ze w fun b55 o56 =>
 f6 (some ⟨b55,o56,none⟩) 44 (fun t57 h58 =>
 J54 (()) h58) h53) (
 J54 (()) h53))) (
 Ze w fun b79 o80 =>
 ZnF ends 1 fun t81 =>
 f6 (some ⟨b79,o80,none⟩) t81 (fun t82 h83 =>
 K h83) h44)) s43.1) (0,()) h40) h35) s.1) (fun J33 =>
 ldI h3 b 0 .u8 fun t34 =>
 ZC (t34 ==7) (
 J33 (ByteArray.mk #[123,125],()) h3) (
 J33 (ByteArray.mk #[91,93],()) h3))))))))) h1
def Xp (f60:Zko):Zko:=Zak Z3 Zo Y0 Zp f60
def Yg:Nat→Zko
 | 0=>fun _ _ _ _=>False
 | n+1=>Xp (Yg n)
def Zah:Zko:=fun w v K h=>∃ n,Yg n w v K h
abbrev Zml:=(Int × ByteArray × Sl × Sl × Unit)→(ByteArray→Int→HP)→HP
def Zdc (f57:Zkp) (f60:Zko) (f58:Zpz) (f4:zT4) (v:Int × ByteArray × Sl × Sl × Unit) (K:ByteArray→Int→HP) (h:Zc):Prop :=
 newC h [.int .u8 v.1,.string v.2.1,.slice v.2.2.1.ptr v.2.2.1.len v.2.2.1.cap,.slice v.2.2.2.1.ptr v.2.2.2.1.len v.2.2.2.1.cap] 33 fun b h1 =>
 Zx 0 fun t =>
 ldI h1 b 0 .u8 fun t2=>ldS h1 b (0+1) fun t3=>ldL h1 b (0+2) fun t4=>ldL h1 b (0+3) fun t5 =>
 f57 (t2,t3,t4,t5,()) (fun t6 h7 =>
 ZC (!t6) (
 Zx 6 fun t8 =>
 K (ByteArray.mk #[]) t8 h7) (
 newC h7 [.pointer none,.slice none 0 0] 190 fun b9 h10 =>
 ldI h10 b 0 .u8 fun t11=>ldS h10 b (0+1) fun t12=>ldL h10 b (0+2) fun t13=>ldL h10 b (0+3) fun t14 =>
 f60 (some ⟨b9,0,none⟩) (t11,t12,t13,t14,()) (fun h15 =>
 f58 (some ⟨b9,0,none⟩) (fun t16 h17 =>
 ZC (decide (t16>65536)) (
 Zx 5 fun t18 =>
 K (ByteArray.mk #[]) t18 h17) (
 f4 (some ⟨b9,0,none⟩) (fun t19 h20 =>
 Zx 0 fun t21 =>
 K t19 t21 h20) h17)) h15) h10)) h1
def YP:Zml:=Zdc Yt Zah Z3 ZV
abbrev Zty:=Int→(ByteArray→HP)→HP
abbrev Zrs:=Int→((Int × ByteArray × Sl × Sl × Unit)→HP)→HP
def Zdd (f62:Zty) (n:Int) (K:(Int × ByteArray × Sl × Sl × Unit)→HP) (h:Zc):Prop :=
 newC h [.int .u8 0,.string (ByteArray.mk #[]),.slice none 0 0,.slice none 0 0] 33 fun b h1 =>
 f62 n (fun t h2 =>
 sts h2 b 0 [.int .u8 4,.string t,.slice none 0 0,.slice none 0 0] fun h3 =>
 ldI h3 b 0 .u8 fun t4=>ldS h3 b (0+1) fun t5=>ldL h3 b (0+2) fun t6=>ldL h3 b (0+3) fun t7=>K (t4,t5,t6,t7,()) h3) h1
def Za5:Zrs:=Zdd ZbW
abbrev Zrr:=ByteArray→ByteArray→(ByteArray→Bool→HP)→HP
def Yu (f8:zT8) (s:ByteArray) (prefix_:ByteArray) (K:ByteArray→Bool→HP) (h:Zc):Prop :=
 f8 s prefix_ (fun t h1 =>
 ZC (!t) (
 K s false h1) (
 Zmg s (prefix_.size:Int) s.size fun t2 =>
 K t2 true h1)) h
def ZX:Zrr:=Yu Zs
abbrev Zrq:=ByteArray→ByteArray→(ByteArray→Bool→HP)→HP
def Zaj (f64:Zrr) (s:ByteArray) (prefix_:ByteArray) (K:ByteArray→Bool→HP) (h:Zc):Prop :=
 f64 s prefix_ (fun t t1 h2 =>
 ZN t1 fun found =>
 K t found h2) h
def YT:Zrq:=Zaj ZX
abbrev Zrp:=ByteArray→ByteArray→(ByteArray→HP)→HP
def Yp (f8:zT8) (s:ByteArray) (prefix_:ByteArray) (K:ByteArray→HP) (h:Zc):Prop :=
 f8 s prefix_ (fun t h1 =>
 ZC t (
 Zmg s (prefix_.size:Int) s.size fun t2 =>
 K t2 h1) (
 K s h1)) h
def ZU:Zrp:=Yp Zs
abbrev Zro:=ByteArray→ByteArray→(ByteArray→HP)→HP
def X2 (f70:Zrp) (s:ByteArray) (prefix_:ByteArray) (K:ByteArray→HP) (h:Zc):Prop :=
 f70 s prefix_ (fun t h1 =>
 K t h1) h
def YK:Zro:=X2 ZU
abbrev Zq5:=ByteArray→(Int→Value→HP)→HP
abbrev Zrn:=ByteArray→(Int→Bool→HP)→HP
def ZbC (f71:Zro) (f72:Zq5) (s:ByteArray) (K:Int→Bool→HP) (h:Zc):Prop :=
 Zx 0 fun t =>
 ZC (ZaK s (ByteArray.mk #[])) (
 Zx 0 fun t1 =>
 K t1 true h) (
 f71 s (ByteArray.mk #[43]) (fun t2 h3 =>
 f72 t2 (fun t4 t5 h6 =>
 Zx t4 fun n =>
 Ze2 t5 fun b =>
 ZC b (
 ZC (decide (n≥(-1048576))) (
 Zx n fun t7 =>
 ZN (decide (n≤1048576)) fun t8 =>
 K t7 t8 h6) (
 Zx n fun t9 =>
 K t9 false h6)) (
 Zx n fun t10 =>
 K t10 false h6)) h3) h)
def XN:Zrn:=ZbC YK Y6
abbrev Ztx:=ByteArray→(ByteArray→HP)→HP
abbrev Ztw:=ByteArray→ByteArray→(ByteArray→ByteArray→Bool→HP)→HP
abbrev Ztv:=ByteArray→ByteArray→(ByteArray→HP)→HP
abbrev Ztu:=ByteArray→ByteArray→(ByteArray→HP)→HP
abbrev Ztt:=ByteArray→Int→(ByteArray→HP)→HP
abbrev Zrm:=(Int × ByteArray × Sl × Sl × Unit)→(Int→Bool→HP)→HP
def Zda (f57:Zkp) (f65:Zrq) (f66:Ztx) (f67:Ztw) (f68:Ztv) (f69:Ztu) (f73:Zrn) (f74:Ztt) (f72:Zq5) (v:Int × ByteArray × Sl × Sl × Unit) (K:Int→Bool→HP) (h:Zc):Prop :=
 newC h [.int .u8 v.1,.string v.2.1,.slice v.2.2.1.ptr v.2.2.1.len v.2.2.1.cap,.slice v.2.2.2.1.ptr v.2.2.2.1.len v.2.2.2.1.cap] 33 fun b h1 =>
 Zx 0 fun t =>
 ldI h1 b 0 .u8 fun t2 =>
 ZC (t2 !=4) (
 Zx 0 fun t3 =>
 K t3 false h1) (
 ldI h1 b 0 .u8 fun t4=>ldS h1 b (0+1) fun t5=>ldL h1 b (0+2) fun t6=>ldL h1 b (0+3) fun t7 =>
 f57 (t4,t5,t6,t7,()) (fun t8 h9 =>
 ZC (!t8) (
 Zx 0 fun t10 =>
 K t10 false h9) (
 ldS h9 b (0+1) fun t11 =>
 f65 t11 (ByteArray.mk #[45]) (fun t12 t13 h14 =>
 ZN t13 fun below =>
 f66 t12 (fun t15 h16 =>
 f67 t15 (ByteArray.mk #[101]) (fun t17 t18 t19 h20 =>
 ZN t19 fun x =>
 f67 t17 (ByteArray.mk #[46]) (fun t21 t22 t23 h24 =>
 ZN t23 fun x25 =>
 Zot t21 t22 fun s =>
 f68 s (ByteArray.mk #[48]) (fun t26 h27 =>
 f69 t26 (ByteArray.mk #[48]) (fun t28 h29 =>
 f69 t26 (ByteArray.mk #[48]) (fun t30 h31 =>
 Zx (IntKind.wrap .i64 ((t26.size:Int) - (t30.size:Int))) fun zeros =>
 ZC (ZaK t28 (ByteArray.mk #[])) (
 Zx 0 fun t32 =>
 K t32 true h31) (
 f73 t18 (fun t33 t34 h35 =>
 Zx t33 fun by_ =>
 ZN t34 fun ok =>
 ZC (!ok) (
 Zx 0 fun t36 =>
 K t36 false h35) (
 Zx (IntKind.wrap .i64 (by_+(IntKind.wrap .i64 (zeros - (t22.size:Int))))) fun by_37 =>
 ZC (decide (by_37<0)) (
 Zx 0 fun t38 =>
 K t38 false h35) (
 ZC (decide (by_37>20)) (
 Zx 0 fun t39 =>
 K t39 false h35) (
 f74 (ByteArray.mk #[48]) by_37 (fun t40 h41 =>
 Zot t28 t40 fun s42 =>
 ZcH (σ:=ByteArray × Unit) (fun s45 h46 =>
 (fun (digits:ByteArray) =>
 f72 digits (fun t47 t48 h49 =>
 Zx t47 fun n =>
 Ze2 t48 fun b50 =>
 ZC (!b50) (
 Zx 0 fun t51 =>
 K t51 false h49) (
 Zx n fun t52 =>
 K t52 true h49)) h46) s45.1) (fun J43 =>
 ZC below (
 Zot (ByteArray.mk #[45]) s42 fun s44 =>
 J43 (s44,()) h41) (
 J43 (s42,()) h41))) h35)))) h31)) h29) h27) h24) h20) h16) h14) h9)) h1)
def Za4:Zrm:=Zda Yt YT ZaR ZaB ZaA Xs XN Za7 Y6
abbrev Zlq:=(Int × ByteArray × Sl × Sl × Unit)→Int→(Int→HP)→HP
def Zcr (f76:Zlq) (v:Int × ByteArray × Sl × Sl × Unit) (most:Int) (K:Int→HP) (h:Zc):Prop :=
 newC h [.int .u8 v.1,.string v.2.1,.slice v.2.2.1.ptr v.2.2.1.len v.2.2.1.cap,.slice v.2.2.2.1.ptr v.2.2.2.1.len v.2.2.2.1.cap] 33 fun b h1 =>
 Zx 0 fun t =>
 Zx 1 fun n =>
 ldL h1 b (0+2) fun t2 =>
 ZbX (σ:=Int × Int × Unit) (fun J4 s h5 =>
 (fun (n3:Int) (s11:Int) =>
 ZC (decide (s11<(t2.len:Int))) (
 Zfe t2.ptr t2.len s11 4 fun b6 o =>
 ldI h5 b6 o .u8 fun t7=>ldS h5 b6 (o+1) fun t8=>ldL h5 b6 (o+2) fun t9=>ldL h5 b6 (o+3) fun t10 =>
 newC h5 [.int .u8 0,.string (ByteArray.mk #[]),.slice none 0 0,.slice none 0 0] 33 fun b11 h12 =>
 sts h12 b11 0 [.int .u8 t7,.string t8,.slice t9.ptr t9.len t9.cap,.slice t10.ptr t10.len t10.cap] fun h13 =>
 ZC (decide (n3>most)) (
 Zx n3 fun t14 =>
 K t14 h13) (
 ldI h13 b11 0 .u8 fun t15=>ldS h13 b11 (0+1) fun t16=>ldL h13 b11 (0+2) fun t17=>ldL h13 b11 (0+3) fun t18 =>
 f76 (t15,t16,t17,t18,()) (IntKind.wrap .i64 (most - n3)) (fun t19 h20 =>
 Zx (IntKind.wrap .i64 (n3+t19)) fun n21 =>
 J4 (n21,IntKind.wrap .i64 (s11+1),()) h20) h13)) (
 Zx n3 fun t22 =>
 K t22 h5)) s.1 s.2.1) (n,0,()) h1
def Zbh (f76:Zlq):Zlq:=Zcr f76
def Xf:Nat→Zlq
 | 0=>fun _ _ _ _=>False
 | n+1=>Zbh (Xf n)
def Zcm:Zlq:=fun v most K h=>∃ n,Xf n v most K h
abbrev Zpy:=(Int × ByteArray × Sl × Sl × Unit)→(Bool→HP)→HP
def Zc8 (f76:Zlq) (v:Int × ByteArray × Sl × Sl × Unit) (K:Bool→HP) (h:Zc):Prop :=
 newC h [.int .u8 v.1,.string v.2.1,.slice v.2.2.1.ptr v.2.2.1.len v.2.2.1.cap,.slice v.2.2.2.1.ptr v.2.2.2.1.len v.2.2.2.1.cap] 33 fun b h1 =>
 ldI h1 b 0 .u8 fun t=>ldS h1 b (0+1) fun t2=>ldL h1 b (0+2) fun t3=>ldL h1 b (0+3) fun t4 =>
 f76 (t,t2,t3,t4,()) 65536 (fun t5 h6 =>
 ZN (decide (t5≤65536)) fun t7 =>
 K t7 h6) h1
def XL:Zpy:=Zc8 Zcm
abbrev Zmk:=(Int × ByteArray × Sl × Sl × Unit)→(Int→HP)→HP
def Zdf (f77:Zpy) (f53:Zfv) (v:Int × ByteArray × Sl × Sl × Unit) (K:Int→HP) (h:Zc):Prop :=
 newC h [.int .u8 v.1,.string v.2.1,.slice v.2.2.1.ptr v.2.2.1.len v.2.2.1.cap,.slice v.2.2.2.1.ptr v.2.2.2.1.len v.2.2.2.1.cap] 33 fun b h1 =>
 Zx 0 fun t =>
 newC h1 [.int .i64 0,.int .i64 0] 157 fun b2 h3 =>
 ldI h3 b 0 .u8 fun t4=>ldS h3 b (0+1) fun t5=>ldL h3 b (0+2) fun t6=>ldL h3 b (0+3) fun t7 =>
 f77 (t4,t5,t6,t7,()) (fun t8 h9 =>
 ZC (!t8) (
 Zx 0 fun t10 =>
 K t10 h9) (
 ldI h9 b 0 .u8 fun t11=>ldS h9 b (0+1) fun t12=>ldL h9 b (0+2) fun t13=>ldL h9 b (0+3) fun t14 =>
 f53 (some ⟨b2,0,none⟩) (t11,t12,t13,t14,()) 0 (.func (.func 119) #[] #[]) (fun t15 h16 =>
 ZC (!t15) (
 Zx 0 fun t17 =>
 K t17 h16) (
 ldI h16 b2 (0+1) .i64 fun t18 =>
 Zx t18 fun t19 =>
 K t19 h16)) h9)) h3
def YQ:Zmk:=Zdf XL Xh
abbrev Zpx:=(Bool→HP)→HP
def X3 (f26:Zoq) (f61:Zml) (f63:Zrs) (f75:Zrm) (f78:Zmk) (K:Bool→HP) (h:Zc):Prop :=
 f26 (ByteArray.mk #[91,49,44,32,34,97,92,117,48,48,52,49,34,44,32,123,34,98,34,58,32,110,117,108,108,125,93]) (fun t t1 t2 h3 =>
 newC h3 [.int .u8 0,.string (ByteArray.mk #[]),.slice none 0 0,.slice none 0 0] 33 fun b h4 =>
 sts h4 b 0 [.int .u8 t.1,.string t.2.1,.slice t.2.2.1.ptr t.2.2.1.len t.2.2.1.cap,.slice t.2.2.2.1.ptr t.2.2.2.1.len t.2.2.2.1.cap] fun h5 =>
 Zx t1 fun e =>
 Zx t2 fun x =>
 ldI h5 b 0 .u8 fun t6=>ldS h5 b (0+1) fun t7=>ldL h5 b (0+2) fun t8=>ldL h5 b (0+3) fun t9 =>
 f61 (t6,t7,t8,t9,()) (fun t10 t11 h12 =>
 Zx t11 fun f =>
 f26 (ByteArray.mk #[91,49,44,93]) (fun t13 t14 t15 h16 =>
 newC h16 [.int .u8 0,.string (ByteArray.mk #[]),.slice none 0 0,.slice none 0 0] 33 fun b17 h18 =>
 sts h18 b17 0 [.int .u8 t13.1,.string t13.2.1,.slice t13.2.2.1.ptr t13.2.2.1.len t13.2.2.1.cap,.slice t13.2.2.2.1.ptr t13.2.2.2.1.len t13.2.2.2.1.cap] fun h19 =>
 Zx t14 fun g =>
 Zx t15 fun at_ =>
 f63 (-7) (fun t20 h21 =>
 f75 (t20.1,t20.2.1,⟨t20.2.2.1.ptr,t20.2.2.1.len,t20.2.2.1.cap⟩,⟨t20.2.2.2.1.ptr,t20.2.2.2.1.len,t20.2.2.2.1.cap⟩,()) (fun t22 t23 h24 =>
 Zx t22 fun n =>
 ZN t23 fun ok =>
 ZC (e ==0) (
 ZC (f ==0) (
 ZC (ZaK t10 (ByteArray.mk #[91,49,44,34,97,65,34,44,123,34,98,34,58,110,117,108,108,125,93])) (
 ZC (g ==20) (
 ZC (at_ ==3) (
 ZC ok (
 ZC (n ==(-7)) (
 ldI h24 b 0 .u8 fun t25=>ldS h24 b (0+1) fun t26=>ldL h24 b (0+2) fun t27=>ldL h24 b (0+3) fun t28 =>
 f78 (t25,t26,t27,t28,()) (fun t29 h30 =>
 ZN (t29 ==2) fun t31 =>
 K t31 h30) h24) (
 K false h24)) (
 K false h24)) (
 K false h24)) (
 K false h24)) (
 K false h24)) (
 K false h24)) (
 K false h24)) h21) h19) h12) h5) h
def Z7:Zpx:=X3 Z8 YP Za5 Za4 YQ
abbrev Zrl:=Sl→Sl→(Bool→HP)→HP
def Xw (a:Sl) (b:Sl) (K:Bool→HP) (h:Zc):Prop :=
 ZC ((a.len:Int) !=(b.len:Int)) (
 K false h) (
 Zx 0 fun i =>
 ZbX (σ:=Int × Unit) (fun J2 s h3 =>
 (fun (i1:Int) =>
 ZC (decide (i1<(a.len:Int))) (
 Zfe a.ptr a.len i1 1 fun b4 o =>
 ldS h3 b4 o fun t =>
 Zfe b.ptr b.len i1 1 fun b5 o6 =>
 ldS h3 b5 o6 fun t7 =>
 ZC (!(ZaK t t7)) (
 K false h3) (
 Zx (IntKind.wrap .i64 (i1+1)) fun i8 =>
 J2 (i8,()) h3)) (
 K true h3)) s.1) (i,()) h)
def Yk:Zrl:=Xw
abbrev Zme:=(Int × ByteArray × Sl × Sl × Unit)→(Int × ByteArray × Sl × Sl × Unit)→(Bool→HP)→HP
def Xv (f80:Zrl) (f81:Zme) (a:Int × ByteArray × Sl × Sl × Unit) (b:Int × ByteArray × Sl × Sl × Unit) (K:Bool→HP) (h:Zc):Prop :=
 newC h [.int .u8 a.1,.string a.2.1,.slice a.2.2.1.ptr a.2.2.1.len a.2.2.1.cap,.slice a.2.2.2.1.ptr a.2.2.2.1.len a.2.2.2.1.cap] 33 fun b1 h2 =>
 newC h2 [.int .u8 b.1,.string b.2.1,.slice b.2.2.1.ptr b.2.2.1.len b.2.2.1.cap,.slice b.2.2.2.1.ptr b.2.2.2.1.len b.2.2.2.1.cap] 33 fun b3 h4 =>
 ldI h4 b1 0 .u8 fun t =>
 ldI h4 b3 0 .u8 fun t5 =>
 ZC (t !=t5) (
 K false h4) (
 ldS h4 b1 (0+1) fun t6 =>
 ldS h4 b3 (0+1) fun t7 =>
 ZC (!(ZaK t6 t7)) (
 K false h4) (
 ldL h4 b1 (0+2) fun t8 =>
 ldL h4 b3 (0+2) fun t9 =>
 ZC ((t8.len:Int) !=(t9.len:Int)) (
 K false h4) (
 ldL h4 b1 (0+3) fun t10 =>
 ldL h4 b3 (0+3) fun t11 =>
 f80 t10 t11 (fun t12 h13 =>
 ZC (!t12) (
 K false h13) (
 Zx 0 fun i =>
 ZbX (σ:=Int × Unit) (fun J15 s h16 =>
 (fun (i14:Int) =>
 ldL h16 b1 (0+2) fun t17 =>
 ZC (decide (i14<(t17.len:Int))) (
 ldL h16 b1 (0+2) fun t18 =>
 Zfe t18.ptr t18.len i14 4 fun b19 o =>
 ldI h16 b19 o .u8 fun t20=>ldS h16 b19 (o+1) fun t21=>ldL h16 b19 (o+2) fun t22=>ldL h16 b19 (o+3) fun t23 =>
 ldL h16 b3 (0+2) fun t24 =>
 Zfe t24.ptr t24.len i14 4 fun b25 o26 =>
 ldI h16 b25 o26 .u8 fun t27=>ldS h16 b25 (o26+1) fun t28=>ldL h16 b25 (o26+2) fun t29=>ldL h16 b25 (o26+3) fun t30 =>
 f81 (t20,t21,t22,t23,()) (t27,t28,t29,t30,()) (fun t31 h32 =>
 ZbV (Zc4 h32 [(b3,0+2,.slice t24.ptr t24.len t24.cap)]) <|
 ZbV (Zc4 h32 [(b1,0+2,.slice t18.ptr t18.len t18.cap)]) <|
 ZC (!t31) (
 K false h32) (
 Zx (IntKind.wrap .i64 (i14+1)) fun i33 =>
 J15 (i33,()) h32)) h16) (
 K true h16)) s.1) (i,()) h13)) h4)))
def Xo (f81:Zme):Zme:=Xv Yk f81
def Ya:Nat→Zme
 | 0=>fun _ _ _ _=>False
 | n+1=>Xo (Ya n)
def Yj:Zme:=fun a b K h=>∃ n,Ya n a b K h
abbrev Zlp:=(Int × ByteArray × Sl × Sl × Unit)→Int→(Int→HP)→HP
def XQ (f85:Zlp) (v:Int × ByteArray × Sl × Sl × Unit) (most:Int) (K:Int→HP) (h:Zc):Prop :=
 newC h [.int .u8 v.1,.string v.2.1,.slice v.2.2.1.ptr v.2.2.1.len v.2.2.1.cap,.slice v.2.2.2.1.ptr v.2.2.2.1.len v.2.2.2.1.cap] 33 fun b h1 =>
 Zx 0 fun t =>
 Zx 1 fun n =>
 Zx 0 fun i =>
 ZbX (σ:=Int × Int × Unit) (fun J4 s h5 =>
 (fun (n2:Int) (i3:Int) =>
 ldL h5 b (0+2) fun t6 =>
 ZC (decide (i3<(t6.len:Int))) (
 ZC (decide (n2≤most)) (
 ldL h5 b (0+2) fun t7 =>
 Zfe t7.ptr t7.len i3 4 fun b8 o =>
 ldI h5 b8 o .u8 fun t9=>ldS h5 b8 (o+1) fun t10=>ldL h5 b8 (o+2) fun t11=>ldL h5 b8 (o+3) fun t12 =>
 f85 (t9,t10,t11,t12,()) (IntKind.wrap .i64 (most - n2)) (fun t13 h14 =>
 Zx (IntKind.wrap .i64 (n2+t13)) fun n15 =>
 Zx (IntKind.wrap .i64 (i3+1)) fun i16 =>
 J4 (n15,i16,()) h14) h5) (
 Zx n2 fun t17 =>
 K t17 h5)) (
 Zx n2 fun t18 =>
 K t18 h5)) s.1 s.2.1) (n,i,()) h1
def YY (f85:Zlp):Zlp:=XQ f85
def Z6:Nat→Zlp
 | 0=>fun _ _ _ _=>False
 | n+1=>YY (Z6 n)
def XK:Zlp:=fun v most K h=>∃ n,Z6 n v most K h
abbrev Zrk:=(Int × ByteArray × Sl × Sl × Unit)→(Bool→HP)→HP
def XR (f85:Zlp) (v:Int × ByteArray × Sl × Sl × Unit) (K:Bool→HP) (h:Zc):Prop :=
 newC h [.int .u8 v.1,.string v.2.1,.slice v.2.2.1.ptr v.2.2.1.len v.2.2.1.cap,.slice v.2.2.2.1.ptr v.2.2.2.1.len v.2.2.2.1.cap] 33 fun b h1 =>
 ldI h1 b 0 .u8 fun t=>ldS h1 b (0+1) fun t2=>ldL h1 b (0+2) fun t3=>ldL h1 b (0+3) fun t4 =>
 f85 (t,t2,t3,t4,()) 65536 (fun t5 h6 =>
 ZN (decide (t5>65536)) fun t7 =>
 K t7 h6) h1
def YC:Zrk:=XR XK
abbrev Zrj:=Sl→Sl→(Bool→HP)→HP
def YH (s1:Sl) (s2:Sl) (K:Bool→HP) (h:Zc):Prop :=
 ZC ((s1.len:Int) !=(s2.len:Int)) (
 K false h) (
 ZbX (σ:=Int × Unit) (fun J1 s h2 =>
 (fun (s13:Int) =>
 ZC (decide (s13<(s1.len:Int))) (
 Zx s13 fun i =>
 Zfe s1.ptr s1.len i 1 fun b o =>
 ldS h2 b o fun t =>
 Zfe s2.ptr s2.len i 1 fun b3 o4 =>
 ldS h2 b3 o4 fun t5 =>
 ZC (!(ZaK t t5)) (
 K false h2) (
 J1 (IntKind.wrap .i64 (s13+1),()) h2)) (
 K true h2)) s.1) (0,()) h)
def ZR:Zrj:=YH
abbrev Zkn:=(Int × ByteArray × Sl × Sl × Unit)→(Int × ByteArray × Sl × Sl × Unit)→(Bool→HP)→HP
abbrev Zri:=Sl→Sl→(Bool→HP)→HP
def Zw (f95:Zkn) (s1:Sl) (s2:Sl) (K:Bool→HP) (h:Zc):Prop :=
 ZC ((s1.len:Int) !=(s2.len:Int)) (
 K false h) (
 ZbX (σ:=Int × Unit) (fun J1 s h2 =>
 (fun (s17:Int) =>
 ZC (decide (s17<(s1.len:Int))) (
 Zfe s1.ptr s1.len s17 4 fun b o =>
 ldI h2 b o .u8 fun t=>ldS h2 b (o+1) fun t3=>ldL h2 b (o+2) fun t4=>ldL h2 b (o+3) fun t5 =>
 newC h2 [.int .u8 0,.string (ByteArray.mk #[]),.slice none 0 0,.slice none 0 0] 33 fun b6 h7 =>
 Zx s17 fun i =>
 sts h7 b6 0 [.int .u8 t,.string t3,.slice t4.ptr t4.len t4.cap,.slice t5.ptr t5.len t5.cap] fun h8 =>
 Zfe s2.ptr s2.len i 4 fun b9 o10 =>
 ldI h8 b9 o10 .u8 fun t11=>ldS h8 b9 (o10+1) fun t12=>ldL h8 b9 (o10+2) fun t13=>ldL h8 b9 (o10+3) fun t14 =>
 newC h8 [.int .u8 0,.string (ByteArray.mk #[]),.slice none 0 0,.slice none 0 0] 33 fun b15 h16 =>
 sts h16 b15 0 [.int .u8 t11,.string t12,.slice t13.ptr t13.len t13.cap,.slice t14.ptr t14.len t14.cap] fun h17 =>
 ldI h17 b6 0 .u8 fun t18=>ldS h17 b6 (0+1) fun t19=>ldL h17 b6 (0+2) fun t20=>ldL h17 b6 (0+3) fun t21 =>
 ldI h17 b15 0 .u8 fun t22=>ldS h17 b15 (0+1) fun t23=>ldL h17 b15 (0+2) fun t24=>ldL h17 b15 (0+3) fun t25 =>
 f95 (t18,t19,t20,t21,()) (t22,t23,t24,t25,()) (fun t26 h27 =>
 ZC (!t26) (
 K false h27) (
 J1 (IntKind.wrap .i64 (s17+1),()) h27)) h17) (
 K true h2)) s.1) (0,()) h)
def Zm (f95:Zkn):Zri:=Zw f95
def Zc9 (f94:Zrj) (f96:Zri) (a:Int × ByteArray × Sl × Sl × Unit) (b:Int × ByteArray × Sl × Sl × Unit) (K:Bool→HP) (h:Zc):Prop :=
 newC h [.int .u8 a.1,.string a.2.1,.slice a.2.2.1.ptr a.2.2.1.len a.2.2.1.cap,.slice a.2.2.2.1.ptr a.2.2.2.1.len a.2.2.2.1.cap] 33 fun b1 h2 =>
 newC h2 [.int .u8 b.1,.string b.2.1,.slice b.2.2.1.ptr b.2.2.1.len b.2.2.1.cap,.slice b.2.2.2.1.ptr b.2.2.2.1.len b.2.2.2.1.cap] 33 fun b3 h4 =>
 ldI h4 b1 0 .u8 fun t =>
 ldI h4 b3 0 .u8 fun t5 =>
 ZC (t ==t5) (
 ldS h4 b1 (0+1) fun t6 =>
 ldS h4 b3 (0+1) fun t7 =>
 ZC (ZaK t6 t7) (
 ldL h4 b1 (0+3) fun t8 =>
 ldL h4 b3 (0+3) fun t9 =>
 f94 t8 t9 (fun t10 h11 =>
 ZC t10 (
 ldL h11 b1 (0+2) fun t12 =>
 ldL h11 b3 (0+2) fun t13 =>
 f96 t12 t13 (fun t14 h15 =>
 ZN t14 fun t16 =>
 K t16 h15) h11) (
 K false h11)) h4) (
 K false h4)) (
 K false h4)
def ZcZ (f95:Zkn):Zkn:=Zc9 ZR (Zm f95)
def Zac:Nat→Zkn
 | 0=>fun _ _ _ _=>False
 | n+1=>ZcZ (Zac n)
def Zc0:Zkn:=fun a b K h=>∃ n,Zac n a b K h
abbrev Zpw:=(Int × ByteArray × Sl × Sl × Unit)→(Int × ByteArray × Sl × Sl × Unit)→(Bool→HP)→HP
def Zde (f77:Zpy) (f95:Zkn) (a:Int × ByteArray × Sl × Sl × Unit) (b:Int × ByteArray × Sl × Sl × Unit) (K:Bool→HP) (h:Zc):Prop :=
 newC h [.int .u8 a.1,.string a.2.1,.slice a.2.2.1.ptr a.2.2.1.len a.2.2.1.cap,.slice a.2.2.2.1.ptr a.2.2.2.1.len a.2.2.2.1.cap] 33 fun b1 h2 =>
 newC h2 [.int .u8 b.1,.string b.2.1,.slice b.2.2.1.ptr b.2.2.1.len b.2.2.1.cap,.slice b.2.2.2.1.ptr b.2.2.2.1.len b.2.2.2.1.cap] 33 fun b3 h4 =>
 ldI h4 b1 0 .u8 fun t=>ldS h4 b1 (0+1) fun t5=>ldL h4 b1 (0+2) fun t6=>ldL h4 b1 (0+3) fun t7 =>
 f77 (t,t5,t6,t7,()) (fun t8 h9 =>
 ZC t8 (
 ldI h9 b3 0 .u8 fun t10=>ldS h9 b3 (0+1) fun t11=>ldL h9 b3 (0+2) fun t12=>ldL h9 b3 (0+3) fun t13 =>
 f77 (t10,t11,t12,t13,()) (fun t14 h15 =>
 ZC t14 (
 ldI h15 b1 0 .u8 fun t16=>ldS h15 b1 (0+1) fun t17=>ldL h15 b1 (0+2) fun t18=>ldL h15 b1 (0+3) fun t19 =>
 ldI h15 b3 0 .u8 fun t20=>ldS h15 b3 (0+1) fun t21=>ldL h15 b3 (0+2) fun t22=>ldL h15 b3 (0+3) fun t23 =>
 f95 (t16,t17,t18,t19,()) (t20,t21,t22,t23,()) (fun t24 h25 =>
 ZN t24 fun t26 =>
 K t26 h25) h15) (
 K false h15)) h9) (
 K false h9)) h4
def Xk:Zpw:=Zde XL Zc0
abbrev Zrh:=(Int × ByteArray × Sl × Sl × Unit)→(Bool→HP)→HP
def Xx (f61:Zml) (f79:Zpx) (f57:Zkp) (f78:Zmk) (f97:Zpw) (v:Int × ByteArray × Sl × Sl × Unit) (K:Bool→HP) (h:Zc):Prop :=
 newC h [.int .u8 v.1,.string v.2.1,.slice v.2.2.1.ptr v.2.2.1.len v.2.2.1.cap,.slice v.2.2.2.1.ptr v.2.2.2.1.len v.2.2.2.1.cap] 33 fun b h1 =>
 ldI h1 b 0 .u8 fun t=>ldS h1 b (0+1) fun t2=>ldL h1 b (0+2) fun t3=>ldL h1 b (0+3) fun t4 =>
 f61 (t,t2,t3,t4,()) (fun t5 t6 h7 =>
 Zx t6 fun e =>
 f79 (fun t8 h9 =>
 ZC t8 (
 ldI h9 b 0 .u8 fun t10=>ldS h9 b (0+1) fun t11=>ldL h9 b (0+2) fun t12=>ldL h9 b (0+3) fun t13 =>
 f57 (t10,t11,t12,t13,()) (fun t14 h15 =>
 ZC (!t14) (
 ZC (e ==6) (
 ldI h15 b 0 .u8 fun t16=>ldS h15 b (0+1) fun t17=>ldL h15 b (0+2) fun t18=>ldL h15 b (0+3) fun t19 =>
 f78 (t16,t17,t18,t19,()) (fun t20 h21 =>
 ZC (t20 ==0) (
 ldI h21 b 0 .u8 fun t22=>ldS h21 b (0+1) fun t23=>ldL h21 b (0+2) fun t24=>ldL h21 b (0+3) fun t25 =>
 ldI h21 b 0 .u8 fun t26=>ldS h21 b (0+1) fun t27=>ldL h21 b (0+2) fun t28=>ldL h21 b (0+3) fun t29 =>
 f97 (t22,t23,t24,t25,()) (t26,t27,t28,t29,()) (fun t30 h31 =>
 ZN (!t30) fun t32 =>
 K t32 h31) h21) (
 K false h21)) h15) (
 K false h15)) (
 K false h15)) h9) (
 K false h9)) h7) h1
def Yl:Zrh:=Xx YP Z7 Yt YQ Xk
abbrev ZrM:=(Int × ByteArray × Sl × Sl × Unit)→ByteArray→(Bool→HP)→HP
def Xi (f79:Zpx) (f86:Zrk) (f98:Zrh) (f61:Zml) (f26:Zoq) (f97:Zpw) (f57:Zkp) (f81:Zme) (f78:Zmk) (v:Int × ByteArray × Sl × Sl × Unit) (s:ByteArray) (K:Bool→HP) (h:Zc):Prop :=
 newC h [.int .u8 v.1,.string v.2.1,.slice v.2.2.1.ptr v.2.2.1.len v.2.2.1.cap,.slice v.2.2.2.1.ptr v.2.2.2.1.len v.2.2.2.1.cap] 33 fun b h1 =>
 f79 (fun t h2 =>
 ZC (!t) (
 K false h2) (
 ldI h2 b 0 .u8 fun t3=>ldS h2 b (0+1) fun t4=>ldL h2 b (0+2) fun t5=>ldL h2 b (0+3) fun t6 =>
 f86 (t3,t4,t5,t6,()) (fun t7 h8 =>
 ZC t7 (
 ldI h8 b 0 .u8 fun t9=>ldS h8 b (0+1) fun t10=>ldL h8 b (0+2) fun t11=>ldL h8 b (0+3) fun t12 =>
 f98 (t9,t10,t11,t12,()) (fun t13 h14 =>
 ZN t13 fun t15 =>
 K t15 h14) h8) (
 ldI h8 b 0 .u8 fun t16=>ldS h8 b (0+1) fun t17=>ldL h8 b (0+2) fun t18=>ldL h8 b (0+3) fun t19 =>
 f61 (t16,t17,t18,t19,()) (fun t20 t21 h22 =>
 Zx t21 fun e =>
 ZcH (σ:=Unit) (fun s47 h48 =>
 f26 s (fun t49 t50 t51 h52 =>
 newC h52 [.int .u8 0,.string (ByteArray.mk #[]),.slice none 0 0,.slice none 0 0] 33 fun b53 h54 =>
 sts h54 b53 0 [.int .u8 t49.1,.string t49.2.1,.slice t49.2.2.1.ptr t49.2.2.1.len t49.2.2.1.cap,.slice t49.2.2.2.1.ptr t49.2.2.2.1.len t49.2.2.2.1.cap] fun h55 =>
 Zx t50 fun e56 =>
 Zx t51 fun x =>
 ZC (e56 !=0) (
 ldI h55 b53 0 .u8 fun t57=>ldS h55 b53 (0+1) fun t58=>ldL h55 b53 (0+2) fun t59=>ldL h55 b53 (0+3) fun t60 =>
 f81 (t57,t58,t59,t60,()) (0,ByteArray.mk #[],⟨none,0,0⟩,⟨none,0,0⟩,()) (fun t61 h62 =>
 ZN t61 fun t63 =>
 K t63 h62) h55) (
 ldI h55 b53 0 .u8 fun t64=>ldS h55 b53 (0+1) fun t65=>ldL h55 b53 (0+2) fun t66=>ldL h55 b53 (0+3) fun t67 =>
 f61 (t64,t65,t66,t67,()) (fun t68 t69 h70 =>
 Zx t69 fun f71 =>
 ZC (f71 !=0) (
 ZC (f71 ==5) (
 ldI h70 b53 0 .u8 fun t72=>ldS h70 b53 (0+1) fun t73=>ldL h70 b53 (0+2) fun t74=>ldL h70 b53 (0+3) fun t75 =>
 f57 (t72,t73,t74,t75,()) (fun t76 h77 =>
 ZN t76 fun t78 =>
 K t78 h77) h70) (
 K false h70)) (
 f26 t68 (fun t79 t80 t81 h82 =>
 newC h82 [.int .u8 0,.string (ByteArray.mk #[]),.slice none 0 0,.slice none 0 0] 33 fun b83 h84 =>
 sts h84 b83 0 [.int .u8 t79.1,.string t79.2.1,.slice t79.2.2.1.ptr t79.2.2.1.len t79.2.2.1.cap,.slice t79.2.2.2.1.ptr t79.2.2.2.1.len t79.2.2.2.1.cap] fun h85 =>
 Zx t80 fun g =>
 Zx t81 fun x86 =>
 ZC (g ==0) (
 ldI h85 b53 0 .u8 fun t87=>ldS h85 b53 (0+1) fun t88=>ldL h85 b53 (0+2) fun t89=>ldL h85 b53 (0+3) fun t90 =>
 ldI h85 b83 0 .u8 fun t91=>ldS h85 b83 (0+1) fun t92=>ldL h85 b83 (0+2) fun t93=>ldL h85 b83 (0+3) fun t94 =>
 f97 (t87,t88,t89,t90,()) (t91,t92,t93,t94,()) (fun t95 h96 =>
 ZC t95 (
 ldI h96 b53 0 .u8 fun t97=>ldS h96 b53 (0+1) fun t98=>ldL h96 b53 (0+2) fun t99=>ldL h96 b53 (0+3) fun t100 =>
 f78 (t97,t98,t99,t100,()) (fun t101 h102 =>
 ZN (decide (t101≤64)) fun t103 =>
 K t103 h102) h96) (
 K false h96)) h85) (
 K false h85)) h70)) h55)) h48) (fun J23 =>
 ZC (e ==0) (
 f26 t20 (fun t24 t25 t26 h27 =>
 newC h27 [.int .u8 0,.string (ByteArray.mk #[]),.slice none 0 0,.slice none 0 0] 33 fun b28 h29 =>
 sts h29 b28 0 [.int .u8 t24.1,.string t24.2.1,.slice t24.2.2.1.ptr t24.2.2.1.len t24.2.2.1.cap,.slice t24.2.2.2.1.ptr t24.2.2.2.1.len t24.2.2.2.1.cap] fun h30 =>
 Zx t25 fun f =>
 Zx t26 fun at_ =>
 ZC (f !=0) (
 K false h30) (
 ZC (at_ !=0) (
 K false h30) (
 ldI h30 b 0 .u8 fun t31=>ldS h30 b (0+1) fun t32=>ldL h30 b (0+2) fun t33=>ldL h30 b (0+3) fun t34 =>
 ldI h30 b28 0 .u8 fun t35=>ldS h30 b28 (0+1) fun t36=>ldL h30 b28 (0+2) fun t37=>ldL h30 b28 (0+3) fun t38 =>
 f97 (t31,t32,t33,t34,()) (t35,t36,t37,t38,()) (fun t39 h40 =>
 ZC (!t39) (
 K false h40) (
 ldI h40 b 0 .u8 fun t41=>ldS h40 b (0+1) fun t42=>ldL h40 b (0+2) fun t43=>ldL h40 b (0+3) fun t44 =>
 f57 (t41,t42,t43,t44,()) (fun t45 h46 =>
 ZC (!t45) (
 K false h46) (
 J23 (()) h46)) h40)) h30))) h22) (
 J23 (()) h22))) h8)) h2)) h1
def YG:ZrM:=Xi Z7 YC Yl YP Z8 Xk Yt Yj YQ
end Go.Proofs.YtpjbjdheeemdiaaGreatDoor
