/- The models of the functions. Written by a program out of the translated functions. -/
import GoSem.Machine.Frame
import GoSem.Op.String
import Derived.Test.YtpjbjdheeemdiaaGreatDoorPa1
set_option linter.unusedVariables false
set_option linter.unusedSimpArgs false
namespace Go.Proofs.YtpjbjdheeemdiaaGreatDoor
open Go Go.Fw
abbrev zT0:=ByteArray→Int→(Int→HP)→HP
abbrev zT1:=(Option Addr)→(HP)→HP
def ZbE (f0:zT0) (r:Option Addr) (K:HP) (h:Zc):Prop :=
 Zau (σ:=Unit) (fun J1 s h2 =>
 Zb r fun b o =>
 ldI h2 b (o+1) .i64 fun t =>
 Zb r fun b3 o4 =>
 ldS h2 b3 o4 fun t5 =>
 Zs (decide (t<(t5.size:Int))) (
 Zb r fun b6 o7 =>
 ldS h2 b6 o7 fun t8 =>
 Zb r fun b9 o10 =>
 ldI h2 b9 (o10+1) .i64 fun t11 =>
 ZiO t8 t11 fun t12 =>
 ZbR (ρ:=Int × Unit) (fun K h=>f0 (ByteArray.mk #[32,9,10,13]) t12 (fun q h=>K (q,()) h) h) h2 fun r14 =>
 Zs (decide (r14.1≥0)) (
 Zb r fun b15 o16 =>
 ldI h2 b15 (o16+1) .i64 fun t17 =>
 Zb r fun b18 o19 =>
 st h2 b18 (o19+1) (.int .i64 (IntKind.wrap .i64 (t17+1))) fun h20 =>
 J1 (()) h20) (
 K h2)) (
 K h2)) (()) h
def ZK:zT1:=ZbE Yz
abbrev zT2:=(Option Addr)→(Int→HP)→HP
def Zcs (r:Option Addr) (K:Int→HP) (h:Zc):Prop :=
 Zl 0 fun t =>
 Zb r fun b o =>
 ldI h b (o+1) .i64 fun t1 =>
 Zb r fun b2 o3 =>
 ldS h b2 o3 fun t4 =>
 Zs (decide (t1<(t4.size:Int))) (
 Zb r fun b5 o6 =>
 ldS h b5 o6 fun t7 =>
 Zb r fun b8 o9 =>
 ldI h b8 (o9+1) .i64 fun t10 =>
 ZiO t7 t10 fun t11 =>
 Zl t11 fun t12 =>
 K t12 h) (
 Zl 0 fun t13 =>
 K t13 h)
def Zv:zT2:=Zcs
abbrev zT3:=(Option Addr)→Int→Int→(HP)→(Value→HP)→HP
def Zae (r:Option Addr) (e:Int) (at_:Int) (K:HP) (P:Value→HP) (h:Zc):Prop :=
 Zb r fun b o =>
 ldS h b o fun t =>
 Zs (decide (at_≥(t.size:Int))) (
 Zb r fun b1 o2 =>
 ldS h b1 o2 fun t3 =>
 P (.iface 160 (.agg #[.int .i64 24,.int .i64 (t3.size:Int)])) h) (
 P (.iface 160 (.agg #[.int .i64 e,.int .i64 at_])) h)
def Zq:zT3:=Zae
abbrev zT5:=(Option Addr)→(HP)→HP
abbrev zT6:=(Option Addr)→Int→(Value→HP)→HP
def Y2 (f5:zT5) (b:Option Addr) (c:Int) (K:Value→HP) (h:Zc):Prop :=
 f5 b (fun h1 =>
 Zb b fun b2 o =>
 ldL h1 b2 (o+1) fun t =>
 newC h1 [.int .u8 c] 5 fun b3 h4 =>
 rdS ⟨some ⟨b3,0,none⟩,1,1⟩ 1 h4 fun new=>app 5 1 1 [.int .u8 0] t 1 new h4 fun t5 h6 =>
 Zb b fun b7 o8 =>
 st h6 b7 (o8+1) (.slice t5.ptr t5.len t5.cap) fun h9 =>
 K .nilIface h9) h
def ZA:zT6:=Y2 ZN
abbrev zT7:=(Option Addr)→(Int→HP)→(Value→HP)→HP
def ZcF (f2:zT2) (f3:zT3) (r:Option Addr) (K:Int→HP) (P:Value→HP) (h:Zc):Prop :=
 Zl 0 fun t =>
 Zl 0 fun n =>
 Zau (σ:=Int × Int × Unit) (fun J2 s h3 =>
 (fun (n1:Int) (s5:Int) =>
 Zs (decide (s5<4)) (
 f2 r (fun t4 h5 =>
 Zl t4 fun c =>
 ZbG (σ:=Int × Unit) (fun s33 h34 =>
 (fun (n32:Int) =>
 Zb r fun b35 o36 =>
 ldI h34 b35 (o36+1) .i64 fun t37 =>
 Zb r fun b38 o39 =>
 st h34 b38 (o39+1) (.int .i64 (IntKind.wrap .i64 (t37+1))) fun h40 =>
 J2 (n32,IntKind.wrap .i64 (s5+1),()) h40) s33.1) (fun J6 =>
 ZbG (σ:=Bool × Unit) (fun s9 h10 =>
 (fun (s15:Bool) =>
 Zs s15 (
 ZaY (0≤(4:Int)) <|
 Zl (orV .i32 (Znl .i32 n1 4) (IntKind.wrap .i32 (IntKind.wrap .u8 (c - 48)))) fun n11 =>
 J6 (n11,()) h10) (
 Zs (decide (c≥97)) (
 ZD (decide (c≤102)) fun t12 =>
 Zs t12 (
 ZaY (0≤(4:Int)) <|
 Zl (orV .i32 (Znl .i32 n1 4) (IntKind.wrap .i32 (IntKind.wrap .u8 ((IntKind.wrap .u8 (c - 97))+10)))) fun n13 =>
 J6 (n13,()) h10) (
 Zs (decide (c≥65)) (
 ZD (decide (c≤70)) fun t14 =>
 Zs t14 (
 ZaY (0≤(4:Int)) <|
 Zl (orV .i32 (Znl .i32 n1 4) (IntKind.wrap .i32 (IntKind.wrap .u8 ((IntKind.wrap .u8 (c - 65))+10)))) fun n15 =>
 J6 (n15,()) h10) (
 Zb r fun b o =>
 ldI h10 b (o+1) .i64 fun t16 =>
 f3 r 22 t16 (fun h17 =>
 J6 (n1,()) h17) P h10)) (
 Zb r fun b18 o19 =>
 ldI h10 b18 (o19+1) .i64 fun t20 =>
 f3 r 22 t20 (fun h21 =>
 J6 (n1,()) h21) P h10))) (
 Zs (decide (c≥65)) (
 ZD (decide (c≤70)) fun t22 =>
 Zs t22 (
 ZaY (0≤(4:Int)) <|
 Zl (orV .i32 (Znl .i32 n1 4) (IntKind.wrap .i32 (IntKind.wrap .u8 ((IntKind.wrap .u8 (c - 65))+10)))) fun n23 =>
 J6 (n23,()) h10) (
 Zb r fun b24 o25 =>
 ldI h10 b24 (o25+1) .i64 fun t26 =>
 f3 r 22 t26 (fun h27 =>
 J6 (n1,()) h27) P h10)) (
 Zb r fun b28 o29 =>
 ldI h10 b28 (o29+1) .i64 fun t30 =>
 f3 r 22 t30 (fun h31 =>
 J6 (n1,()) h31) P h10)))) s9.1) (fun J7 =>
 Zs (decide (c≥48)) (
 ZD (decide (c≤57)) fun t8 =>
 J7 (t8,()) h5) (
 J7 (false,()) h5)))) h3) (
 Zl n1 fun t41 =>
 K t41 h3)) s.1 s.2.1) (n,0,()) h
def Zas:zT7:=ZcF Zv Zq
abbrev zT8:=ByteArray→ByteArray→(Bool→HP)→HP
def Yx (s:ByteArray) (prefix_:ByteArray) (K:Bool→HP) (h:Zc):Prop :=
 Zs (decide ((s.size:Int)≥(prefix_.size:Int))) (
 Zlg s 0 (prefix_.size:Int) fun t =>
 ZD (Za0 t prefix_) fun t1 =>
 K t1 h) (
 K false h)
def ZC:zT8:=Yx
abbrev zT9:=ByteArray→ByteArray→(Bool→HP)→HP
def ZbT (f8:zT8) (s:ByteArray) (prefix_:ByteArray) (K:Bool→HP) (h:Zc):Prop :=
 f8 s prefix_ (fun t h1 =>
 ZD t fun t2 =>
 K t2 h1) h
def XN:zT9:=ZbT ZC
abbrev Zvy:=Sl→Int→(Sl→HP)→HP
def Y1 (p:Sl) (r:Int) (K:Sl→HP) (h:Zc):Prop :=
 Zl (IntKind.wrap .u32 r) fun i =>
 ZD (decide (i≤2047)) fun t =>
 Zs t (
 ZaY (0≤(6:Int)) <|
 newC h [.int .u8 (orV .u8 (192:Int) (IntKind.wrap .u8 (ZhO .i32 r 6))),.int .u8 (orV .u8 (128:Int) (Zht .u8 (IntKind.wrap .u8 r) 63))] 5 fun b h1 =>
 rdS ⟨some ⟨b,0,none⟩,2,2⟩ 1 h1 fun new=>app 5 1 1 [.int .u8 0] p 2 new h1 fun t2 h3 =>
 K t2 h3) (
 ZbG (σ:=Bool × Unit) (fun s h7 =>
 (fun (s25:Bool) =>
 Zs s25 (
 ZaY (0≤(12:Int)) <|
 ZaY (0≤(6:Int)) <|
 newC h7 [.int .u8 (orV .u8 (224:Int) (IntKind.wrap .u8 (ZhO .i32 r 12))),.int .u8 (orV .u8 (128:Int) (Zht .u8 (IntKind.wrap .u8 (ZhO .i32 r 6)) 63)),.int .u8 (orV .u8 (128:Int) (Zht .u8 (IntKind.wrap .u8 r) 63))] 5 fun b8 h9 =>
 rdS ⟨some ⟨b8,0,none⟩,3,3⟩ 1 h9 fun new12=>app 5 1 1 [.int .u8 0] p 3 new12 h9 fun t10 h11 =>
 K t10 h11) (
 Zs (decide (i>65535)) (
 ZD (decide (i≤1114111)) fun t13 =>
 Zs t13 (
 ZaY (0≤(18:Int)) <|
 ZaY (0≤(12:Int)) <|
 ZaY (0≤(6:Int)) <|
 newC h7 [.int .u8 (orV .u8 (240:Int) (IntKind.wrap .u8 (ZhO .i32 r 18))),.int .u8 (orV .u8 (128:Int) (Zht .u8 (IntKind.wrap .u8 (ZhO .i32 r 12)) 63)),.int .u8 (orV .u8 (128:Int) (Zht .u8 (IntKind.wrap .u8 (ZhO .i32 r 6)) 63)),.int .u8 (orV .u8 (128:Int) (Zht .u8 (IntKind.wrap .u8 r) 63))] 5 fun b14 h15 =>
 rdS ⟨some ⟨b14,0,none⟩,4,4⟩ 1 h15 fun new18=>app 5 1 1 [.int .u8 0] p 4 new18 h15 fun t16 h17 =>
 K t16 h17) (
 newC h7 [.int .u8 239,.int .u8 191,.int .u8 189] 5 fun b19 h20 =>
 rdS ⟨some ⟨b19,0,none⟩,3,3⟩ 1 h20 fun new23=>app 5 1 1 [.int .u8 0] p 3 new23 h20 fun t21 h22 =>
 K t21 h22)) (
 newC h7 [.int .u8 239,.int .u8 191,.int .u8 189] 5 fun b24 h25 =>
 rdS ⟨some ⟨b24,0,none⟩,3,3⟩ 1 h25 fun new28=>app 5 1 1 [.int .u8 0] p 3 new28 h25 fun t26 h27 =>
 K t26 h27))) s.1) (fun J4 =>
 ZD (decide (i<55296)) fun t5 =>
 Zs t5 (
 J4 (t5,()) h) (
 Zs (decide ((57343:Int)<i)) (
 ZD (decide (i≤65535)) fun t6 =>
 J4 (t6,()) h) (
 J4 (false,()) h))))
def Yr:Zvy:=Y1
abbrev Zvw:=Sl→Int→(Sl→HP)→HP
def Zai (f10:Zvy) (p:Sl) (r:Int) (K:Sl→HP) (h:Zc):Prop :=
 Zs (decide ((IntKind.wrap .u32 r)≤127)) (
 newC h [.int .u8 (IntKind.wrap .u8 r)] 5 fun b h1 =>
 rdS ⟨some ⟨b,0,none⟩,1,1⟩ 1 h1 fun new=>app 5 1 1 [.int .u8 0] p 1 new h1 fun t h2 =>
 K t h2) (
 f10 p r (fun t3 h4 =>
 K t3 h4) h)
def YK:Zvw:=Zai Yr
abbrev Zvv:=(Option Addr)→Int→(Int→Value→HP)→HP
def XR (f5:zT5) (f11:Zvw) (b:Option Addr) (r:Int) (K:Int→Value→HP) (h:Zc):Prop :=
 Zl 0 fun t =>
 f5 b (fun h1 =>
 Zb b fun b2 o =>
 ldL h1 b2 (o+1) fun t3 =>
 Zl (t3.len:Int) fun n =>
 Zb b fun b4 o5 =>
 ldL h1 b4 (o5+1) fun t6 =>
 f11 t6 r (fun t7 h8 =>
 Zb b fun b9 o10 =>
 st h8 b9 (o10+1) (.slice t7.ptr t7.len t7.cap) fun h11 =>
 Zb b fun b12 o13 =>
 ldL h11 b12 (o13+1) fun t14 =>
 Zl (IntKind.wrap .i64 ((t14.len:Int) - n)) fun t15 =>
 K t15 .nilIface h11) h1) h
def YA:Zvv:=XR ZN YK
abbrev Zvu:=(Option Addr)→(Option Addr)→(HP)→(Value→HP)→HP
def ZbC (f2:zT2) (f0:zT0) (f6:zT6) (f3:zT3) (f7:zT7) (f9:zT9) (f12:Zvv) (r:Option Addr) (b:Option Addr) (K:HP) (P:Value→HP) (h:Zc):Prop :=
 f2 r (fun t h1 =>
 Zl t fun c =>
 ZbG (σ:=Unit) (fun s h19 =>
 ZbG (σ:=Unit) (fun s25 h26 =>
 Zb r fun b27 o28 =>
 ldI h26 b27 (o28+1) .i64 fun t29 =>
 Zb r fun b30 o31 =>
 st h26 b30 (o31+1) (.int .i64 (IntKind.wrap .i64 (t29+1))) fun h32 =>
 f7 r (fun t33 h34 =>
 Zl t33 fun n =>
 ZbG (σ:=Unit) (fun s68 h69 =>
 ZbG (σ:=Int × Unit) (fun s73 h74 =>
 (fun (n72:Int) =>
 f12 b n72 (fun t75 t76 h77 =>
 K h77) h74) s73.1) (fun J70 =>
 Zs (decide (n≥55296)) (
 Zs (decide (n<57344)) (
 Zl 65533 fun n71 =>
 J70 (n71,()) h69) (
 J70 (n,()) h69)) (
 J70 (n,()) h69))) (fun J35 =>
 ZbG (σ:=Bool × Unit) (fun s46 h47 =>
 (fun (s72:Bool) =>
 Zs s72 (
 Zb r fun b48 o49 =>
 ldI h47 b48 (o49+1) .i64 fun t50 =>
 Zl t50 fun was =>
 Zb r fun b51 o52 =>
 ldI h47 b51 (o52+1) .i64 fun t53 =>
 Zb r fun b54 o55 =>
 st h47 b54 (o55+1) (.int .i64 (IntKind.wrap .i64 (t53+2))) fun h56 =>
 f7 r (fun t57 h58 =>
 Zl t57 fun low =>
 Zs (decide (low≥56320)) (
 Zs (decide (low<57344)) (
 ZaY (0≤(10:Int)) <|
 f12 b (IntKind.wrap .i32 ((IntKind.wrap .i32 ((65536:Int)+(Znl .i32 (IntKind.wrap .i32 (n - 55296)) 10)))+(IntKind.wrap .i32 (low - 56320)))) (fun t59 t60 h61 =>
 K h61) h58) (
 Zb r fun b62 o63 =>
 st h58 b62 (o63+1) (.int .i64 was) fun h64 =>
 J35 (()) h64)) (
 Zb r fun b65 o66 =>
 st h58 b65 (o66+1) (.int .i64 was) fun h67 =>
 J35 (()) h67)) P h56) (
 J35 (()) h47)) s46.1) (fun J36 =>
 Zs (decide (n≥55296)) (
 Zs (decide (n<56320)) (
 Zb r fun b37 o38 =>
 ldS h34 b37 o38 fun t39 =>
 Zb r fun b40 o41 =>
 ldI h34 b40 (o41+1) .i64 fun t42 =>
 Zlg t39 t42 t39.size fun t43 =>
 ZbR (ρ:=Bool × Unit) (fun K h=>f9 t43 (ByteArray.mk #[92,117]) (fun q h=>K (q,()) h) h) h34 fun r45 =>
 J36 (r45.1,()) h34) (
 J36 (false,()) h34)) (
 J36 (false,()) h34)))) P h32) (fun J20 =>
 Zs (c !=117) (
 Zb r fun b21 o22 =>
 ldI h19 b21 (o22+1) .i64 fun t23 =>
 f3 r 22 t23 (fun h24 =>
 J20 (()) h24) P h19) (
 J20 (()) h19))) (fun J2 =>
 f0 (ByteArray.mk #[34,92,47,98,102,110,114,116]) c (fun t3 h4 =>
 Zl t3 fun i =>
 Zs (decide (i≥0)) (
 Zb r fun b5 o =>
 ldI h4 b5 (o+1) .i64 fun t6 =>
 Zb r fun b7 o8 =>
 ldS h4 b7 o8 fun t9 =>
 Zs (decide (t6<(t9.size:Int))) (
 ZiO (ByteArray.mk #[34,92,47,8,12,10,13,9]) i fun t10 =>
 f6 b t10 (fun t11 h12 =>
 Zb r fun b13 o14 =>
 ldI h12 b13 (o14+1) .i64 fun t15 =>
 Zb r fun b16 o17 =>
 st h12 b16 (o17+1) (.int .i64 (IntKind.wrap .i64 (t15+1))) fun h18 =>
 K h18) h4) (
 J2 (()) h4)) (
 J2 (()) h4)) h1)) h
def XA:Zvu:=ZbC Zv Yz ZA Zq Zas XN YA
abbrev Zyb:=ByteArray→(Int→HP)→HP
abbrev Zo4:=ByteArray→(Bool→HP)→HP
abbrev Zvt:=ByteArray→(Bool→HP)→HP
def Zd9 (f14:Zyb) (f15:Zo4) (s:ByteArray) (K:Bool→HP) (h:Zc):Prop :=
 newC h [.string (ByteArray.mk #[128,128,128]),.string (ByteArray.mk #[144,128,128]),.string (ByteArray.mk #[160,128,128])] 9 fun b h1 =>
 Zau (σ:=Int × Unit) (fun J2 s3 h4 =>
 (fun (s11:Int) =>
 Zs (decide (s11<(3:Int))) (
 Zd6 (some ⟨b,0,none⟩) 3 s11 1 fun b5 o =>
 ldS h4 b5 o fun t =>
 Zl (s.size:Int) fun k =>
 Zau (σ:=Int × Unit) (fun J7 s8 h9 =>
 (fun (k6:Int) =>
 Zs (decide (k6<4)) (
 Zlg t 0 (IntKind.wrap .i64 (k6 - (s.size:Int))) fun t10 =>
 Zi9 s t10 fun s12 =>
 f14 s12 (fun t13 h14 =>
 Zl t13 fun n =>
 Zs (n ==1) (
 f15 s12 (fun t15 h16 =>
 Zs t15 (
 K true h16) (
 Zl (IntKind.wrap .i64 (k6+1)) fun k17 =>
 J7 (k17,()) h16)) h14) (
 Zl (IntKind.wrap .i64 (k6+1)) fun k18 =>
 J7 (k18,()) h14)) h9) (
 Zs (decide ((s.size:Int)<4)) (
 Zi9 s t fun s19 =>
 Zlg s19 0 4 fun t20 =>
 f15 t20 (fun t21 h22 =>
 Zs t21 (
 Zi9 s t fun s23 =>
 Zlg s23 0 4 fun t24 =>
 f14 t24 (fun t25 h26 =>
 Zs (t25 ==1) (
 K true h26) (
 J2 (IntKind.wrap .i64 (s11+1),()) h26)) h22) (
 J2 (IntKind.wrap .i64 (s11+1),()) h22)) h9) (
 J2 (IntKind.wrap .i64 (s11+1),()) h9))) s8.1) (k,()) h4) (
 f15 s (fun t27 h28 =>
 Zs t27 (
 f14 s (fun t29 h30 =>
 ZD (t29 ==1) fun t31 =>
 K t31 h30) h28) (
 K false h28)) h4)) s3.1) (0,()) h1
def Zck:Zvt:=Zd9 Yv ZL
abbrev Zpd:=(Option Addr)→ByteArray→(Int→Value→HP)→HP
def YM (f5:zT5) (b:Option Addr) (s:ByteArray) (K:Int→Value→HP) (h:Zc):Prop :=
 Zl 0 fun t =>
 f5 b (fun h1 =>
 Zb b fun b2 o =>
 ldL h1 b2 (o+1) fun t3 =>
 app 5 1 1 [.int .u8 0] t3 s.size (YU s) h1 fun t4 h5 =>
 Zb b fun b6 o7 =>
 st h5 b6 (o7+1) (.slice t4.ptr t4.len t4.cap) fun h8 =>
 Zl (s.size:Int) fun t9 =>
 K t9 .nilIface h8) h
def Zz:Zpd:=YM ZN
abbrev Zvs:=(Option Addr)→(Option Addr)→(HP)→(Value→HP)→HP
def ZbY (f3:zT3) (f16:Zvt) (f15:Zo4) (f17:Zpd) (r:Option Addr) (b:Option Addr) (K:HP) (P:Value→HP) (h:Zc):Prop :=
 Zl 1 fun k =>
 Zau (σ:=Int × Unit) (fun J2 s h3 =>
 (fun (k1:Int) =>
 ZbG (σ:=Unit) (fun s13 h14 =>
 Zb r fun b15 o16 =>
 ldS h14 b15 o16 fun t17 =>
 Zb r fun b18 o19 =>
 ldI h14 b18 (o19+1) .i64 fun t20 =>
 Zb r fun b21 o22 =>
 ldI h14 b21 (o22+1) .i64 fun t23 =>
 Zlg t17 t20 (IntKind.wrap .i64 (t23+k1)) fun t24 =>
 ZbG (σ:=Unit) (fun s32 h33 =>
 f15 t24 (fun t34 h35 =>
 Zs t34 (
 f17 b t24 (fun t36 t37 h38 =>
 Zb r fun b39 o40 =>
 ldI h38 b39 (o40+1) .i64 fun t41 =>
 Zb r fun b42 o43 =>
 st h38 b42 (o43+1) (.int .i64 (IntKind.wrap .i64 (t41+k1))) fun h44 =>
 K h44) h35) (
 Zl (IntKind.wrap .i64 (k1+1)) fun k45 =>
 J2 (k45,()) h35)) h33) (fun J25 =>
 f16 t24 (fun t26 h27 =>
 Zs (!t26) (
 Zb r fun b28 o29 =>
 ldI h27 b28 (o29+1) .i64 fun t30 =>
 f3 r 22 (IntKind.wrap .i64 ((IntKind.wrap .i64 (t30+k1)) - 1)) (fun h31 =>
 J25 (()) h31) P h27) (
 J25 (()) h27)) h14)) (fun J4 =>
 Zb r fun b5 o =>
 ldI h3 b5 (o+1) .i64 fun t =>
 Zb r fun b6 o7 =>
 ldS h3 b6 o7 fun t8 =>
 Zs (decide ((IntKind.wrap .i64 (t+k1))>(t8.size:Int))) (
 Zb r fun b9 o10 =>
 ldS h3 b9 o10 fun t11 =>
 f3 r 24 (t11.size:Int) (fun h12 =>
 J4 (()) h12) P h3) (
 J4 (()) h3))) s.1) (k,()) h
def XP:Zvs:=ZbY Zq Zck ZL Zz
abbrev zT4:=(Option Addr)→(ByteArray→HP)→HP
abbrev ZsQ:=(Option Addr)→(ByteArray→HP)→(Value→HP)→HP
def Zcq (f2:zT2) (f3:zT3) (f4:zT4) (f13:Zvu) (f6:zT6) (f18:Zvs) (r:Option Addr) (K:ByteArray→HP) (P:Value→HP) (h:Zc):Prop :=
 Zb r fun b o =>
 ldI h b (o+1) .i64 fun t =>
 Zb r fun b1 o2 =>
 st h b1 (o2+1) (.int .i64 (IntKind.wrap .i64 (t+1))) fun h3 =>
 newC h3 [.pointer none,.slice none 0 0] 188 fun b4 h5 =>
 Zau (σ:=Unit) (fun J6 s h7 =>
 f2 r (fun t8 h9 =>
 Zl t8 fun c =>
 ZbG (σ:=Bool × Unit) (fun s18 h19 =>
 (fun (s16:Bool) =>
 Zs s16 (
 Zb r fun b20 o21 =>
 ldI h19 b20 (o21+1) .i64 fun t22 =>
 f3 r 22 t22 (fun h23 =>
 J6 (()) h23) P h19) (
 ZD (c ==34) fun t24 =>
 Zs t24 (
 Zb r fun b25 o26 =>
 ldI h19 b25 (o26+1) .i64 fun t27 =>
 Zb r fun b28 o29 =>
 st h19 b28 (o29+1) (.int .i64 (IntKind.wrap .i64 (t27+1))) fun h30 =>
 f4 (some ⟨b4,0,none⟩) (fun t31 h32 =>
 K t31 h32) h30) (
 ZD (c ==92) fun t33 =>
 Zs t33 (
 Zb r fun b34 o35 =>
 ldI h19 b34 (o35+1) .i64 fun t36 =>
 Zb r fun b37 o38 =>
 st h19 b37 (o38+1) (.int .i64 (IntKind.wrap .i64 (t36+1))) fun h39 =>
 f13 r (some ⟨b4,0,none⟩) (fun h40 =>
 J6 (()) h40) P h39) (
 ZD (decide (c<128)) fun t41 =>
 Zs t41 (
 f6 (some ⟨b4,0,none⟩) c (fun t42 h43 =>
 Zb r fun b44 o45 =>
 ldI h43 b44 (o45+1) .i64 fun t46 =>
 Zb r fun b47 o48 =>
 st h43 b47 (o48+1) (.int .i64 (IntKind.wrap .i64 (t46+1))) fun h49 =>
 J6 (()) h49) h19) (
 f18 r (some ⟨b4,0,none⟩) (fun h50 =>
 J6 (()) h50) P h19))))) s18.1) (fun J10 =>
 Zb r fun b11 o12 =>
 ldI h9 b11 (o12+1) .i64 fun t13 =>
 Zb r fun b14 o15 =>
 ldS h9 b14 o15 fun t16 =>
 Zs (decide (t13≥(t16.size:Int))) (
 J10 (true,()) h9) (
 ZD (decide (c<32)) fun t17 =>
 J10 (t17,()) h9))) h7) (()) h5
def Y0:ZsQ:=Zcq Zv Zq Yt XA ZA XP
abbrev Zj4:=(Option Addr)→Int→((Int × ByteArray × Sl × Sl × Unit)→HP)→(Value→HP)→HP
abbrev Zvr:=(Option Addr)→(Option Addr)→Int→(HP)→(Value→HP)→HP
def Zcr (f1:zT1) (f2:zT2) (f3:zT3) (f19:ZsQ) (f20:Zj4) (r:Option Addr) (v:Option Addr) (deep:Int) (K:HP) (P:Value→HP) (h:Zc):Prop :=
 f1 r (fun h1 =>
 ZbG (σ:=Unit) (fun s39 h40 =>
 Zb v fun b41 o42 =>
 ldL h40 b41 (o42+2) fun t43 =>
 ZoW (
 f20 r deep (fun t44 h45 =>
 ZaY (Za1 h45 [(b41,o42+2,.slice t43.ptr t43.len t43.cap)]) <|
 newC h45 [.int .u8 0,.string (ByteArray.mk #[]),.slice none 0 0,.slice none 0 0] 33 fun b46 h47 =>
 ZaY (Za1 h47 [(b41,o42+2,.slice t43.ptr t43.len t43.cap)]) <|
 rdS ⟨some ⟨b46,0,none⟩,1,1⟩ 4 h47 fun new50=>app 33 4 72 [.int .u8 0,.string (ByteArray.mk #[]),.slice none 0 0,.slice none 0 0] t43 1 new50 h47 fun t48 h49 =>
 Zd6 t48.ptr t48.len (t43.len:Int) 4 fun b51 o52 =>
 Zb v fun b53 o54 =>
 ZoW (
 sts h49 b51 o52 [.int .u8 t44.1,.string t44.2.1,.slice t44.2.2.1.ptr t44.2.2.1.len t44.2.2.1.cap,.slice t44.2.2.2.1.ptr t44.2.2.2.1.len t44.2.2.2.1.cap] fun h55 =>
 st h55 b53 (o54+2) (.slice t48.ptr t48.len t48.cap) fun h56 =>
 f1 r (fun h57 =>
 K h57) h56) (
 st h49 b53 (o54+2) (.slice t48.ptr t48.len t48.cap) fun h58 =>
 sts h58 b51 o52 [.int .u8 t44.1,.string t44.2.1,.slice t44.2.2.1.ptr t44.2.2.1.len t44.2.2.1.cap,.slice t44.2.2.2.1.ptr t44.2.2.2.1.len t44.2.2.2.1.cap] fun h59 =>
 f1 r (fun h60 =>
 K h60) h59)) P h40) (
 newC h40 [.int .u8 0,.string (ByteArray.mk #[]),.slice none 0 0,.slice none 0 0] 33 fun b61 h62 =>
 ZaY (Za1 h62 [(b41,o42+2,.slice t43.ptr t43.len t43.cap)]) <|
 f20 r deep (fun t63 h64 =>
 ZaY (Za1 h64 [(b41,o42+2,.slice t43.ptr t43.len t43.cap)]) <|
 rdS ⟨some ⟨b61,0,none⟩,1,1⟩ 4 h64 fun new67=>app 33 4 72 [.int .u8 0,.string (ByteArray.mk #[]),.slice none 0 0,.slice none 0 0] t43 1 new67 h64 fun t65 h66 =>
 Zd6 t65.ptr t65.len (t43.len:Int) 4 fun b68 o69 =>
 Zb v fun b70 o71 =>
 ZoW (
 sts h66 b68 o69 [.int .u8 t63.1,.string t63.2.1,.slice t63.2.2.1.ptr t63.2.2.1.len t63.2.2.1.cap,.slice t63.2.2.2.1.ptr t63.2.2.2.1.len t63.2.2.2.1.cap] fun h72 =>
 st h72 b70 (o71+2) (.slice t65.ptr t65.len t65.cap) fun h73 =>
 f1 r (fun h74 =>
 K h74) h73) (
 st h66 b70 (o71+2) (.slice t65.ptr t65.len t65.cap) fun h75 =>
 sts h75 b68 o69 [.int .u8 t63.1,.string t63.2.1,.slice t63.2.2.1.ptr t63.2.2.1.len t63.2.2.1.cap,.slice t63.2.2.2.1.ptr t63.2.2.2.1.len t63.2.2.2.1.cap] fun h76 =>
 f1 r (fun h77 =>
 K h77) h76)) P h62)) (fun J2 =>
 Zb v fun b o =>
 ldI h1 b o .u8 fun t =>
 Zs (t ==7) (
 ZbG (σ:=Unit) (fun s h10 =>
 Zb v fun b11 o12 =>
 ldL h10 b11 (o12+3) fun t13 =>
 f19 r (fun t14 h15 =>
 ZaY (Za1 h15 [(b11,o12+3,.slice t13.ptr t13.len t13.cap)]) <|
 newC h15 [.string t14] 9 fun b16 h17 =>
 ZaY (Za1 h17 [(b11,o12+3,.slice t13.ptr t13.len t13.cap)]) <|
 rdS ⟨some ⟨b16,0,none⟩,1,1⟩ 1 h17 fun new=>app 9 1 16 [.string (ByteArray.mk #[])] t13 1 new h17 fun t18 h19 =>
 Zb v fun b20 o21 =>
 st h19 b20 (o21+3) (.slice t18.ptr t18.len t18.cap) fun h22 =>
 f1 r (fun h23 =>
 ZbG (σ:=Unit) (fun s31 h32 =>
 Zb r fun b33 o34 =>
 ldI h32 b33 (o34+1) .i64 fun t35 =>
 Zb r fun b36 o37 =>
 st h32 b36 (o37+1) (.int .i64 (IntKind.wrap .i64 (t35+1))) fun h38 =>
 J2 (()) h38) (fun J24 =>
 f2 r (fun t25 h26 =>
 Zs (t25 !=58) (
 Zb r fun b27 o28 =>
 ldI h26 b27 (o28+1) .i64 fun t29 =>
 f3 r 20 t29 (fun h30 =>
 J24 (()) h30) P h26) (
 J24 (()) h26)) h23)) h22) P h10) (fun J3 =>
 f2 r (fun t4 h5 =>
 Zs (t4 !=34) (
 Zb r fun b6 o7 =>
 ldI h5 b6 (o7+1) .i64 fun t8 =>
 f3 r 20 t8 (fun h9 =>
 J3 (()) h9) P h5) (
 J3 (()) h5)) h1)) (
 J2 (()) h1))) h
def X8 (f20:Zj4):Zvr:=Zcr ZK Zv Zq Y0 f20
abbrev Zvq:=(Option Addr)→Int→Int→Int→((Int × ByteArray × Sl × Sl × Unit)→HP)→(Value→HP)→HP
def ZaK (f3:zT3) (f1:zT1) (f2:zT2) (f21:Zvr) (r:Option Addr) (k:Int) (end_:Int) (deep:Int) (K:(Int × ByteArray × Sl × Sl × Unit)→HP) (P:Value→HP) (h:Zc):Prop :=
 newC h [.int .u8 0,.string (ByteArray.mk #[]),.slice none 0 0,.slice none 0 0] 33 fun b h1 =>
 ZbG (σ:=Unit) (fun s h5 =>
 Zb r fun b6 o7 =>
 ldI h5 b6 (o7+1) .i64 fun t8 =>
 Zb r fun b9 o10 =>
 st h5 b9 (o10+1) (.int .i64 (IntKind.wrap .i64 (t8+1))) fun h11 =>
 newC h11 [.int .u8 0,.string (ByteArray.mk #[]),.slice none 0 0,.slice none 0 0] 33 fun b12 h13 =>
 sts h13 b12 0 [.int .u8 k,.string (ByteArray.mk #[]),.slice none 0 0,.slice none 0 0] fun h14 =>
 f1 r (fun h15 =>
 Zau (σ:=Unit) (fun J16 s17 h18 =>
 ZbG (σ:=Unit) (fun s43 h44 =>
 ZbG (σ:=Unit) (fun s62 h63 =>
 f21 r (some ⟨b12,0,none⟩) (IntKind.wrap .i64 (deep+1)) (fun h64 =>
 J16 (()) h64) P h63) (fun J45 =>
 ldL h44 b12 (0+2) fun t46 =>
 Zs (decide ((t46.len:Int)>0)) (
 ZbG (σ:=Unit) (fun s54 h55 =>
 Zb r fun b56 o57 =>
 ldI h55 b56 (o57+1) .i64 fun t58 =>
 Zb r fun b59 o60 =>
 st h55 b59 (o60+1) (.int .i64 (IntKind.wrap .i64 (t58+1))) fun h61 =>
 J45 (()) h61) (fun J47 =>
 f2 r (fun t48 h49 =>
 Zs (t48 !=44) (
 Zb r fun b50 o51 =>
 ldI h49 b50 (o51+1) .i64 fun t52 =>
 f3 r 20 t52 (fun h53 =>
 J47 (()) h53) P h49) (
 J47 (()) h49)) h44)) (
 J45 (()) h44))) (fun J19 =>
 ZbR (ρ:=Int × Unit) (fun K h=>f2 r (fun q h=>K (q,()) h) h) h18 fun r21 =>
 Zs (r21.1 !=end_) (
 J19 (()) h18) (
 Zb r fun b22 o23 =>
 ldI h18 b22 (o23+1) .i64 fun t24 =>
 Zb r fun b25 o26 =>
 ldS h18 b25 o26 fun t27 =>
 Zs (decide (t24≥(t27.size:Int))) (
 J19 (()) h18) (
 Zb r fun b28 o29 =>
 ldI h18 b28 (o29+1) .i64 fun t30 =>
 Zb r fun b31 o32 =>
 st h18 b31 (o32+1) (.int .i64 (IntKind.wrap .i64 (t30+1))) fun h33 =>
 ldI h33 b12 0 .u8 fun t34=>ldS h33 b12 (0+1) fun t35=>ldL h33 b12 (0+2) fun t36=>ldL h33 b12 (0+3) fun t37 =>
 sts h33 b 0 [.int .u8 t34,.string t35,.slice t36.ptr t36.len t36.cap,.slice t37.ptr t37.len t37.cap] fun h38 =>
 ldI h38 b 0 .u8 fun t39=>ldS h38 b (0+1) fun t40=>ldL h38 b (0+2) fun t41=>ldL h38 b (0+3) fun t42=>K (t39,t40,t41,t42,()) h38)))) (()) h15) h14) (fun J2 =>
 Zs (decide (deep≥64)) (
 Zb r fun b3 o =>
 ldI h1 b3 (o+1) .i64 fun t =>
 f3 r 23 t (fun h4 =>
 J2 (()) h4) P h1) (
 J2 (()) h1))
def Yy (f20:Zj4):Zvq:=ZaK Zq ZK Zv (X8 f20)
abbrev Zvp:=(Option Addr)→ByteArray→Int→((Int × ByteArray × Sl × Sl × Unit)→HP)→(Value→HP)→HP
def Zcp (f2:zT2) (f3:zT3) (r:Option Addr) (w:ByteArray) (k:Int) (K:(Int × ByteArray × Sl × Sl × Unit)→HP) (P:Value→HP) (h:Zc):Prop :=
 newC h [.int .u8 0,.string (ByteArray.mk #[]),.slice none 0 0,.slice none 0 0] 33 fun b h1 =>
 Zau (σ:=Int × Unit) (fun J2 s h3 =>
 (fun (s10:Int) =>
 Zs (decide (s10<(w.size:Int))) (
 Zl s10 fun i =>
 ZbG (σ:=Unit) (fun s20 h21 =>
 Zb r fun b22 o23 =>
 ldI h21 b22 (o23+1) .i64 fun t24 =>
 Zb r fun b25 o26 =>
 st h21 b25 (o26+1) (.int .i64 (IntKind.wrap .i64 (t24+1))) fun h27 =>
 J2 (IntKind.wrap .i64 (s10+1),()) h27) (fun J4 =>
 ZbR (ρ:=Int × Unit) (fun K h=>f2 r (fun q h=>K (q,()) h) h) h3 fun r5 =>
 ZiO w i fun t6 =>
 Zs (r5.1 !=t6) (
 Zb r fun b7 o =>
 ldI h3 b7 (o+1) .i64 fun t8 =>
 f3 r 20 t8 (fun h9 =>
 J4 (()) h9) P h3) (
 Zb r fun b10 o11 =>
 ldI h3 b10 (o11+1) .i64 fun t12 =>
 Zb r fun b13 o14 =>
 ldS h3 b13 o14 fun t15 =>
 Zs (decide (t12≥(t15.size:Int))) (
 Zb r fun b16 o17 =>
 ldI h3 b16 (o17+1) .i64 fun t18 =>
 f3 r 20 t18 (fun h19 =>
 J4 (()) h19) P h3) (
 J4 (()) h3)))) (
 sts h3 b 0 [.int .u8 k,.string (ByteArray.mk #[]),.slice none 0 0,.slice none 0 0] fun h28 =>
 ldI h28 b 0 .u8 fun t29=>ldS h28 b (0+1) fun t30=>ldL h28 b (0+2) fun t31=>ldL h28 b (0+3) fun t32=>K (t29,t30,t31,t32,()) h28)) s.1) (0,()) h1
def Zaa:Zvp:=Zcp Zv Zq
abbrev Zvo:=(Option Addr)→(HP)→(Value→HP)→HP
def ZbD (f2:zT2) (f3:zT3) (r:Option Addr) (K:HP) (P:Value→HP) (h:Zc):Prop :=
 ZbG (σ:=Unit) (fun s h9 =>
 f2 r (fun t10 h11 =>
 Zl t10 fun c12 =>
 Zau (σ:=Int × Unit) (fun J14 s15 h16 =>
 (fun (c13:Int) =>
 Zs (decide (c13≥48)) (
 Zs (decide (c13≤57)) (
 Zb r fun b17 o18 =>
 ldI h16 b17 (o18+1) .i64 fun t19 =>
 Zb r fun b20 o21 =>
 st h16 b20 (o21+1) (.int .i64 (IntKind.wrap .i64 (t19+1))) fun h22 =>
 f2 r (fun t23 h24 =>
 Zl t23 fun c25 =>
 J14 (c25,()) h24) h22) (
 K h16)) (
 K h16)) s15.1) (c12,()) h11) h9) (fun J1 =>
 f2 r (fun t h2 =>
 Zl t fun c =>
 Zs (decide (c<48)) (
 Zb r fun b o =>
 ldI h2 b (o+1) .i64 fun t3 =>
 f3 r 21 t3 (fun h4 =>
 J1 (()) h4) P h2) (
 Zs (decide (c>57)) (
 Zb r fun b5 o6 =>
 ldI h2 b5 (o6+1) .i64 fun t7 =>
 f3 r 21 t7 (fun h8 =>
 J1 (()) h8) P h2) (
 J1 (()) h2))) h)
def Yb:Zvo:=ZbD Zv Zq
abbrev Zvn:=(Option Addr)→((Int × ByteArray × Sl × Sl × Unit)→HP)→(Value→HP)→HP
def ZbB (f2:zT2) (f3:zT3) (f24:Zvo) (r:Option Addr) (K:(Int × ByteArray × Sl × Sl × Unit)→HP) (P:Value→HP) (h:Zc):Prop :=
 newC h [.int .u8 0,.string (ByteArray.mk #[]),.slice none 0 0,.slice none 0 0] 33 fun b h1 =>
 Zb r fun b2 o =>
 ldI h1 b2 (o+1) .i64 fun t =>
 Zl t fun from_ =>
 ZbG (σ:=Unit) (fun s h12 =>
 ZbG (σ:=Unit) (fun s29 h30 =>
 ZbG (σ:=Unit) (fun s41 h42 =>
 ZbG (σ:=Unit) (fun s95 h96 =>
 Zb r fun b97 o98 =>
 Zb r fun b99 o100 =>
 ldS h96 b97 o98 fun t101 =>
 ldI h96 b99 (o100+1) .i64 fun t102 =>
 Zlg t101 from_ t102 fun t103 =>
 sts h96 b 0 [.int .u8 4,.string t103,.slice none 0 0,.slice none 0 0] fun h104 =>
 ldI h104 b 0 .u8 fun t105=>ldS h104 b (0+1) fun t106=>ldL h104 b (0+2) fun t107=>ldL h104 b (0+3) fun t108=>K (t105,t106,t107,t108,()) h104) (fun J43 =>
 f2 r (fun t44 h45 =>
 Zl t44 fun c46 =>
 Zs (c46 ==101) (
 Zb r fun b47 o48 =>
 ldI h45 b47 (o48+1) .i64 fun t49 =>
 Zb r fun b50 o51 =>
 st h45 b50 (o51+1) (.int .i64 (IntKind.wrap .i64 (t49+1))) fun h52 =>
 f2 r (fun t53 h54 =>
 Zl t53 fun c55 =>
 Zs (c55 ==43) (
 Zb r fun b56 o57 =>
 ldI h54 b56 (o57+1) .i64 fun t58 =>
 Zb r fun b59 o60 =>
 st h54 b59 (o60+1) (.int .i64 (IntKind.wrap .i64 (t58+1))) fun h61 =>
 f24 r (fun h62 =>
 J43 (()) h62) P h61) (
 Zs (c55 ==45) (
 Zb r fun b63 o64 =>
 ldI h54 b63 (o64+1) .i64 fun t65 =>
 Zb r fun b66 o67 =>
 st h54 b66 (o67+1) (.int .i64 (IntKind.wrap .i64 (t65+1))) fun h68 =>
 f24 r (fun h69 =>
 J43 (()) h69) P h68) (
 f24 r (fun h70 =>
 J43 (()) h70) P h54))) h52) (
 Zs (c46 ==69) (
 Zb r fun b71 o72 =>
 ldI h45 b71 (o72+1) .i64 fun t73 =>
 Zb r fun b74 o75 =>
 st h45 b74 (o75+1) (.int .i64 (IntKind.wrap .i64 (t73+1))) fun h76 =>
 f2 r (fun t77 h78 =>
 Zl t77 fun c79 =>
 Zs (c79 ==43) (
 Zb r fun b80 o81 =>
 ldI h78 b80 (o81+1) .i64 fun t82 =>
 Zb r fun b83 o84 =>
 st h78 b83 (o84+1) (.int .i64 (IntKind.wrap .i64 (t82+1))) fun h85 =>
 f24 r (fun h86 =>
 J43 (()) h86) P h85) (
 Zs (c79 ==45) (
 Zb r fun b87 o88 =>
 ldI h78 b87 (o88+1) .i64 fun t89 =>
 Zb r fun b90 o91 =>
 st h78 b90 (o91+1) (.int .i64 (IntKind.wrap .i64 (t89+1))) fun h92 =>
 f24 r (fun h93 =>
 J43 (()) h93) P h92) (
 f24 r (fun h94 =>
 J43 (()) h94) P h78))) h76) (
 J43 (()) h45))) h42)) (fun J31 =>
 f2 r (fun t32 h33 =>
 Zs (t32 ==46) (
 Zb r fun b34 o35 =>
 ldI h33 b34 (o35+1) .i64 fun t36 =>
 Zb r fun b37 o38 =>
 st h33 b37 (o38+1) (.int .i64 (IntKind.wrap .i64 (t36+1))) fun h39 =>
 f24 r (fun h40 =>
 J31 (()) h40) P h39) (
 J31 (()) h33)) h30)) (fun J13 =>
 f2 r (fun t14 h15 =>
 Zs (t14 ==48) (
 Zb r fun b16 o17 =>
 ldI h15 b16 (o17+1) .i64 fun t18 =>
 Zb r fun b19 o20 =>
 st h15 b19 (o20+1) (.int .i64 (IntKind.wrap .i64 (t18+1))) fun h21 =>
 f2 r (fun t22 h23 =>
 Zl t22 fun c =>
 Zs (decide (c≥48)) (
 Zs (decide (c≤57)) (
 Zb r fun b24 o25 =>
 ldI h23 b24 (o25+1) .i64 fun t26 =>
 f3 r 21 t26 (fun h27 =>
 J13 (()) h27) P h23) (
 J13 (()) h23)) (
 J13 (()) h23)) h21) (
 f24 r (fun h28 =>
 J13 (()) h28) P h15)) h12)) (fun J3 =>
 f2 r (fun t4 h5 =>
 Zs (t4 ==45) (
 Zb r fun b6 o7 =>
 ldI h5 b6 (o7+1) .i64 fun t8 =>
 Zb r fun b9 o10 =>
 st h5 b9 (o10+1) (.int .i64 (IntKind.wrap .i64 (t8+1))) fun h11 =>
 J3 (()) h11) (
 J3 (()) h5)) h1)
def Y6:Zvn:=ZbB Zv Zq Yb
def ZbX (f1:zT1) (f2:zT2) (f3:zT3) (f22:Zvq) (f19:ZsQ) (f23:Zvp) (f25:Zvn) (r:Option Addr) (deep:Int) (K:(Int × ByteArray × Sl × Sl × Unit)→HP) (P:Value→HP) (h:Zc):Prop :=
 newC h [.int .u8 0,.string (ByteArray.mk #[]),.slice none 0 0,.slice none 0 0] 33 fun b h1 =>
 f1 r (fun h2 =>
 ZbG (σ:=Unit) (fun s h78 =>
 Zb r fun b79 o80 =>
 ldI h78 b79 (o80+1) .i64 fun t81 =>
 f3 r 20 t81 (fun h82 =>
 sts h82 b 0 [.int .u8 0,.string (ByteArray.mk #[]),.slice none 0 0,.slice none 0 0] fun h83 =>
 ldI h83 b 0 .u8 fun t84=>ldS h83 b (0+1) fun t85=>ldL h83 b (0+2) fun t86=>ldL h83 b (0+3) fun t87=>K (t84,t85,t86,t87,()) h83) P h78) (fun J3 =>
 f2 r (fun t h4 =>
 Zl t fun c =>
 Zb r fun b5 o =>
 ldI h4 b5 (o+1) .i64 fun t6 =>
 Zb r fun b7 o8 =>
 ldS h4 b7 o8 fun t9 =>
 ZD (decide (t6≥(t9.size:Int))) fun t10 =>
 Zs t10 (
 Zb r fun b11 o12 =>
 ldI h4 b11 (o12+1) .i64 fun t13 =>
 f3 r 24 t13 (fun h14 =>
 J3 (()) h14) P h4) (
 ZD (c ==123) fun t15 =>
 Zs t15 (
 f22 r 7 125 deep (fun t16 h17 =>
 sts h17 b 0 [.int .u8 t16.1,.string t16.2.1,.slice t16.2.2.1.ptr t16.2.2.1.len t16.2.2.1.cap,.slice t16.2.2.2.1.ptr t16.2.2.2.1.len t16.2.2.2.1.cap] fun h18 =>
 ldI h18 b 0 .u8 fun t19=>ldS h18 b (0+1) fun t20=>ldL h18 b (0+2) fun t21=>ldL h18 b (0+3) fun t22=>K (t19,t20,t21,t22,()) h18) P h4) (
 ZD (c ==91) fun t23 =>
 Zs t23 (
 f22 r 6 93 deep (fun t24 h25 =>
 sts h25 b 0 [.int .u8 t24.1,.string t24.2.1,.slice t24.2.2.1.ptr t24.2.2.1.len t24.2.2.1.cap,.slice t24.2.2.2.1.ptr t24.2.2.2.1.len t24.2.2.2.1.cap] fun h26 =>
 ldI h26 b 0 .u8 fun t27=>ldS h26 b (0+1) fun t28=>ldL h26 b (0+2) fun t29=>ldL h26 b (0+3) fun t30=>K (t27,t28,t29,t30,()) h26) P h4) (
 ZD (c ==34) fun t31 =>
 Zs t31 (
 f19 r (fun t32 h33 =>
 sts h33 b 0 [.int .u8 5,.string t32,.slice none 0 0,.slice none 0 0] fun h34 =>
 ldI h34 b 0 .u8 fun t35=>ldS h34 b (0+1) fun t36=>ldL h34 b (0+2) fun t37=>ldL h34 b (0+3) fun t38=>K (t35,t36,t37,t38,()) h34) P h4) (
 ZD (c ==110) fun t39 =>
 Zs t39 (
 f23 r (ByteArray.mk #[110,117,108,108]) 1 (fun t40 h41 =>
 sts h41 b 0 [.int .u8 t40.1,.string t40.2.1,.slice t40.2.2.1.ptr t40.2.2.1.len t40.2.2.1.cap,.slice t40.2.2.2.1.ptr t40.2.2.2.1.len t40.2.2.2.1.cap] fun h42 =>
 ldI h42 b 0 .u8 fun t43=>ldS h42 b (0+1) fun t44=>ldL h42 b (0+2) fun t45=>ldL h42 b (0+3) fun t46=>K (t43,t44,t45,t46,()) h42) P h4) (
 ZD (c ==102) fun t47 =>
 Zs t47 (
 f23 r (ByteArray.mk #[102,97,108,115,101]) 2 (fun t48 h49 =>
 sts h49 b 0 [.int .u8 t48.1,.string t48.2.1,.slice t48.2.2.1.ptr t48.2.2.1.len t48.2.2.1.cap,.slice t48.2.2.2.1.ptr t48.2.2.2.1.len t48.2.2.2.1.cap] fun h50 =>
 ldI h50 b 0 .u8 fun t51=>ldS h50 b (0+1) fun t52=>ldL h50 b (0+2) fun t53=>ldL h50 b (0+3) fun t54=>K (t51,t52,t53,t54,()) h50) P h4) (
 ZD (c ==116) fun t55 =>
 Zs t55 (
 f23 r (ByteArray.mk #[116,114,117,101]) 3 (fun t56 h57 =>
 sts h57 b 0 [.int .u8 t56.1,.string t56.2.1,.slice t56.2.2.1.ptr t56.2.2.1.len t56.2.2.1.cap,.slice t56.2.2.2.1.ptr t56.2.2.2.1.len t56.2.2.2.1.cap] fun h58 =>
 ldI h58 b 0 .u8 fun t59=>ldS h58 b (0+1) fun t60=>ldL h58 b (0+2) fun t61=>ldL h58 b (0+3) fun t62=>K (t59,t60,t61,t62,()) h58) P h4) (
 Zs (c ==45) (
 f25 r (fun t63 h64 =>
 sts h64 b 0 [.int .u8 t63.1,.string t63.2.1,.slice t63.2.2.1.ptr t63.2.2.1.len t63.2.2.1.cap,.slice t63.2.2.2.1.ptr t63.2.2.2.1.len t63.2.2.2.1.cap] fun h65 =>
 ldI h65 b 0 .u8 fun t66=>ldS h65 b (0+1) fun t67=>ldL h65 b (0+2) fun t68=>ldL h65 b (0+3) fun t69=>K (t66,t67,t68,t69,()) h65) P h4) (
 Zs (decide (c≥48)) (
 ZD (decide (c≤57)) fun t70 =>
 Zs t70 (
 f25 r (fun t71 h72 =>
 sts h72 b 0 [.int .u8 t71.1,.string t71.2.1,.slice t71.2.2.1.ptr t71.2.2.1.len t71.2.2.1.cap,.slice t71.2.2.2.1.ptr t71.2.2.2.1.len t71.2.2.2.1.cap] fun h73 =>
 ldI h73 b 0 .u8 fun t74=>ldS h73 b (0+1) fun t75=>ldL h73 b (0+2) fun t76=>ldL h73 b (0+3) fun t77=>K (t74,t75,t76,t77,()) h73) P h4) (
 J3 (()) h4)) (
 J3 (()) h4)))))))))) h2)) h1
def Zaz (f20:Zj4):Zj4:=ZbX ZK Zv Zq (Yy f20) Y0 Zaa Y6
def YQ:Nat→Zj4
 | 0=>fun _ _ _ _ _=>False
 | n+1=>Zaz (YQ n)
def ZaD:Zj4:=fun r deep K P h=>∃ n,YQ n r deep K P h
abbrev zV:List Value:=[.int .u8 0,.string (ByteArray.mk #[]),.slice none 0 0,.slice none 0 0]
def ZwH (b2 b3 b4:Nat) (e n:Int) (E:HP) (h:Zc):Prop :=
 Zg0 (.iface 160 (.agg #[.int .i64 e,.int .i64 n])) fun b=>Zs b (E h) (Zs true (
 newC h [.int .i64 0,.int .i64 0] 160 fun b1 h2=>sts h2 b1 0 [.int .i64 e,.int .i64 n] fun h3 =>
 ldI h3 b1 0 .i64 fun t=>ldI h3 b1 (0+1) .i64 fun t4 =>
 Zb (some ⟨b2,0,none⟩) fun b5 o=>sts h3 b5 o zV fun h6=>ZaY (Za1 h6 [(b1,0+1,.int .i64 t4)]) <| ZaY (Za1 h6 [(b1,0,.int .i64 t)]) <|
 Zb (some ⟨b3,0,none⟩) fun b7 o8=>st h6 b7 o8 (.int .i64 t) fun h9=>ZaY (Za1 h9 [(b1,0+1,.int .i64 t4)]) <|
 Zb (some ⟨b4,0,none⟩) fun b10 o11=>st h9 b10 o11 (.int .i64 t4) fun h12=>E h12) False)
def Zff (b b2 b4:Nat) (K:(Int × ByteArray × Sl × Sl × Unit)→Int→Int→HP) (h:Zc):Prop :=
 ldI h b 0 .u8 fun t=>ldS h b (0+1) fun t9=>ldL h b (0+2) fun t10=>ldL h b (0+3) fun t11=>ldI h b2 0 .i64 fun t12=>ldI h b4 0 .i64 fun t13=>K (t,t9,t10,t11,()) t12 t13 h
def ZbO (b b2 b4:Nat) (K:(Int × ByteArray × Sl × Sl × Unit)→Int→Int→HP) (v:Value) (h:Zc):Prop :=
 ∃ e n,v = .iface 160 (.agg #[.int .i64 e,.int .i64 n])∧ZwH b b2 b4 e n (Zff b b2 b4 K) h
def ZfG (b b2 b4:Nat) (K:(Int × ByteArray × Sl × Sl × Unit)→Int→Int→HP) (h:Zc):Prop :=
 ldI h b 0 .u8 fun t36=>ldS h b (0+1) fun t37=>ldL h b (0+2) fun t38=>ldL h b (0+3) fun t39 =>
 sts h b 0 [.int .u8 t36,.string t37,.slice t38.ptr t38.len t38.cap,.slice t39.ptr t39.len t39.cap] fun h40 =>
 st h40 b2 0 (.int .i64 0) fun h41=>st h41 b4 0 (.int .i64 0) fun h42=>Zff b b2 b4 K h42
def XK (s:ByteArray) (K:(Int × ByteArray × Sl × Sl × Unit)→Int→Int→HP) (h:Zc):Prop :=
 newC h zV 33 fun b h1=>newC h1 [.int .i64 0] 37 fun b2 h3=>newC h3 [.int .i64 0] 3 fun b4 h5 =>
 Zs (decide ((s.size:Int)>65536)) (
 sts h5 b 0 zV fun h6=>st h6 b2 0 (.int .i64 5) fun h7=>st h7 b4 0 (.int .i64 65536) fun h8=>Zff b b2 b4 K h8) (
 newC h5 [.string s,.int .i64 0] 163 fun b14 h15 =>
 ZaD (some ⟨b14,0,none⟩) 0 (fun t16 h17 =>
 sts h17 b 0 [.int .u8 t16.1,.string t16.2.1,.slice t16.2.2.1.ptr t16.2.2.1.len t16.2.2.1.cap,.slice t16.2.2.2.1.ptr t16.2.2.2.1.len t16.2.2.2.1.cap] fun h18 =>
 ZK (some ⟨b14,0,none⟩) (fun h19 =>
 ldI h19 b14 (0+1) .i64 fun t20=>Zs (decide (t20<(s.size:Int))) (
 ldI h19 b14 (0+1) .i64 fun t21=>Zq (some ⟨b14,0,none⟩) 25 t21 (ZfG b b2 b4 K) (ZbO b b2 b4 K) h19) (ZfG b b2 b4 K h19)) h18) (ZbO b b2 b4 K) h15)
abbrev Zej:=(Option Addr)→(Int→HP)→HP
def X0 (r:Option Addr) (K:Int→HP) (h:Zc):Prop :=
 Zl 0 fun t =>
 Zb r fun b o =>
 ldI h b (o+1) .i64 fun t1 =>
 Zb r fun b2 o3 =>
 ldS h b2 o3 fun t4 =>
 Zs (decide (t1≥(t4.size:Int))) (
 Zl 0 fun t5 =>
 K t5 h) (
 Zb r fun b6 o7 =>
 ldS h b6 o7 fun t8 =>
 Zb r fun b9 o10 =>
 ldI h b9 (o10+1) .i64 fun t11 =>
 ZiO t8 t11 fun t12 =>
 Zl t12 fun t13 =>
 K t13 h)
def Zg:Zej:=X0
abbrev Zk3:=(Option Addr)→(HP)→HP
def YN (f27:Zej) (r:Option Addr) (K:HP) (h:Zc):Prop :=
 Zau (σ:=Unit) (fun J1 s h2 =>
 ZbG (σ:=Unit) (fun s21 h22 =>
 Zb r fun b23 o24 =>
 ldI h22 b23 (o24+1) .i64 fun t25 =>
 Zb r fun b26 o27 =>
 st h22 b26 (o27+1) (.int .i64 (IntKind.wrap .i64 (t25+1))) fun h28 =>
 J1 (()) h28) (fun J3 =>
 Zb r fun b o =>
 ldI h2 b (o+2) .i64 fun t =>
 Zs (t ==0) (
 Zb r fun b4 o5 =>
 ldI h2 b4 (o5+1) .i64 fun t6 =>
 Zb r fun b7 o8 =>
 ldS h2 b7 o8 fun t9 =>
 Zs (decide (t6<(t9.size:Int))) (
 ZbR (ρ:=Int × Unit) (fun K h=>f27 r (fun q h=>K (q,()) h) h) h2 fun r11 =>
 Zs (r11.1 ==32) (
 J3 (()) h2) (
 ZbR (ρ:=Int × Unit) (fun K h=>f27 r (fun q13 h=>K (q13,()) h) h) h2 fun r14 =>
 Zs (r14.1 ==9) (
 J3 (()) h2) (
 ZbR (ρ:=Int × Unit) (fun K h=>f27 r (fun q16 h=>K (q16,()) h) h) h2 fun r17 =>
 Zs (r17.1 ==10) (
 J3 (()) h2) (
 ZbR (ρ:=Int × Unit) (fun K h=>f27 r (fun q19 h=>K (q19,()) h) h) h2 fun r20 =>
 Zs (r20.1 ==13) (
 J3 (()) h2) (
 K h2))))) (
 K h2)) (
 K h2))) (()) h
def Zt:Zk3:=YN Zg
abbrev ZgW:=(Option Addr)→Int→(HP)→HP
def XV (r:Option Addr) (e:Int) (K:HP) (h:Zc):Prop :=
 Zb r fun b o =>
 ldI h b (o+2) .i64 fun t =>
 Zs (t ==0) (
 Zb r fun b1 o2 =>
 st h b1 (o2+2) (.int .i64 e) fun h3 =>
 Zb r fun b4 o5 =>
 ldI h3 b4 (o5+1) .i64 fun t6 =>
 Zb r fun b7 o8 =>
 ldS h3 b7 o8 fun t9 =>
 Zs (decide (t6≥(t9.size:Int))) (
 Zb r fun b10 o11 =>
 ldS h3 b10 o11 fun t12 =>
 Zb r fun b13 o14 =>
 st h3 b13 (o14+1) (.int .i64 (t12.size:Int)) fun h15 =>
 Zb r fun b16 o17 =>
 st h15 b16 (o17+2) (.int .i64 24) fun h18 =>
 K h18) (
 K h3)) (
 K h)
def Zk:ZgW:=XV
abbrev Zm9:=(Option Addr)→Int→(HP)→HP
def Y3 (f29:ZgW) (f27:Zej) (r:Option Addr) (c:Int) (K:HP) (h:Zc):Prop :=
 Zb r fun b o =>
 ldI h b (o+2) .i64 fun t =>
 Zs (t !=0) (
 K h) (
 Zb r fun b1 o2 =>
 ldI h b1 (o2+1) .i64 fun t3 =>
 Zb r fun b4 o5 =>
 ldS h b4 o5 fun t6 =>
 Zs (decide (t3≥(t6.size:Int))) (
 f29 r 20 (fun h7 =>
 K h7) h) (
 ZbR (ρ:=Int × Unit) (fun K h=>f27 r (fun q h=>K (q,()) h) h) h fun r9 =>
 Zs (r9.1 !=c) (
 f29 r 20 (fun h10 =>
 K h10) h) (
 Zb r fun b11 o12 =>
 ldI h b11 (o12+1) .i64 fun t13 =>
 Zb r fun b14 o15 =>
 st h b14 (o15+1) (.int .i64 (IntKind.wrap .i64 (t13+1))) fun h16 =>
 K h16)))
def Zu:Zm9:=Y3 Zk Zg
abbrev Zm8:=Int→(Bool→HP)→HP
def Zbd (c:Int) (K:Bool→HP) (h:Zc):Prop :=
 Zs (decide (c≥48)) (
 ZD (decide (c≤57)) fun t =>
 K t h) (
 K false h)
def ZO:Zm8:=Zbd
abbrev ZsP:=(Option Addr)→(Int→HP)→HP
def X1 (f27:Zej) (f31:Zm8) (f29:ZgW) (r:Option Addr) (K:Int→HP) (h:Zc):Prop :=
 Zl 0 fun t =>
 Zl 0 fun n =>
 Zl 0 fun i =>
 Zau (σ:=Int × Int × Unit) (fun J3 s h4 =>
 (fun (n1:Int) (i2:Int) =>
 Zs (decide (i2<4)) (
 Zb r fun b o =>
 ldI h4 b (o+2) .i64 fun t5 =>
 Zs (t5 ==0) (
 f27 r (fun t6 h7 =>
 Zl t6 fun c =>
 ZbG (σ:=Int × Unit) (fun s48 h49 =>
 (fun (n47:Int) =>
 Zb r fun b50 o51 =>
 ldI h49 b50 (o51+1) .i64 fun t52 =>
 Zb r fun b53 o54 =>
 st h49 b53 (o54+1) (.int .i64 (IntKind.wrap .i64 (t52+1))) fun h55 =>
 Zl (IntKind.wrap .i64 (i2+1)) fun i56 =>
 J3 (n47,i56,()) h55) s48.1) (fun J8 =>
 ZbG (σ:=Bool × Unit) (fun s19 h20 =>
 (fun (s21:Bool) =>
 Zs s21 (
 Zl (IntKind.wrap .i64 ((IntKind.wrap .i64 (n1*16))+(IntKind.wrap .i64 (IntKind.wrap .u8 (c - 48))))) fun n21 =>
 J8 (n21,()) h20) (
 ZbG (σ:=Bool × Unit) (fun s30 h31 =>
 (fun (s42:Bool) =>
 Zs s42 (
 Zl (IntKind.wrap .i64 ((IntKind.wrap .i64 ((IntKind.wrap .i64 (n1*16))+(IntKind.wrap .i64 (IntKind.wrap .u8 (c - 97)))))+10)) fun n32 =>
 J8 (n32,()) h31) (
 Zb r fun b33 o34 =>
 ldI h31 b33 (o34+1) .i64 fun t35 =>
 Zb r fun b36 o37 =>
 ldS h31 b36 o37 fun t38 =>
 Zs (decide (t35<(t38.size:Int))) (
 Zs (decide (c≥65)) (
 ZD (decide (c≤70)) fun t39 =>
 Zs t39 (
 Zl (IntKind.wrap .i64 ((IntKind.wrap .i64 ((IntKind.wrap .i64 (n1*16))+(IntKind.wrap .i64 (IntKind.wrap .u8 (c - 65)))))+10)) fun n40 =>
 J8 (n40,()) h31) (
 f29 r 22 (fun h41 =>
 Zl 0 fun t42 =>
 K t42 h41) h31)) (
 f29 r 22 (fun h43 =>
 Zl 0 fun t44 =>
 K t44 h43) h31)) (
 f29 r 22 (fun h45 =>
 Zl 0 fun t46 =>
 K t46 h45) h31))) s30.1) (fun J22 =>
 Zb r fun b23 o24 =>
 ldI h20 b23 (o24+1) .i64 fun t25 =>
 Zb r fun b26 o27 =>
 ldS h20 b26 o27 fun t28 =>
 Zs (decide (t25<(t28.size:Int))) (
 Zs (decide (c≥97)) (
 ZD (decide (c≤102)) fun t29 =>
 J22 (t29,()) h20) (
 J22 (false,()) h20)) (
 J22 (false,()) h20)))) s19.1) (fun J9 =>
 Zb r fun b10 o11 =>
 ldI h7 b10 (o11+1) .i64 fun t12 =>
 Zb r fun b13 o14 =>
 ldS h7 b13 o14 fun t15 =>
 Zs (decide (t12<(t15.size:Int))) (
 ZbR (ρ:=Bool × Unit) (fun K h=>f31 c (fun q h=>K (q,()) h) h) h7 fun r17 =>
 ZD r17.1 fun t18 =>
 J9 (t18,()) h7) (
 J9 (false,()) h7)))) h4) (
 Zl n1 fun t57 =>
 K t57 h4)) (
 Zl n1 fun t58 =>
 K t58 h4)) s.1 s.2.1) (n,i,()) h
def Z2:ZsP:=X1 Zg ZO Zk
abbrev Zvm:=(Option Addr)→(Int→HP)→HP
def Y7 (f32:ZsP) (r:Option Addr) (K:Int→HP) (h:Zc):Prop :=
 Zl 0 fun t =>
 Zb r fun b o =>
 ldI h b (o+1) .i64 fun t1 =>
 Zb r fun b2 o3 =>
 ldS h b2 o3 fun t4 =>
 Zs (decide ((IntKind.wrap .i64 (t1+6))>(t4.size:Int))) (
 Zl 0 fun t5 =>
 K t5 h) (
 Zb r fun b6 o7 =>
 ldS h b6 o7 fun t8 =>
 Zb r fun b9 o10 =>
 ldI h b9 (o10+1) .i64 fun t11 =>
 ZiO t8 t11 fun t12 =>
 Zs (t12 !=92) (
 Zl 0 fun t13 =>
 K t13 h) (
 Zb r fun b14 o15 =>
 ldS h b14 o15 fun t16 =>
 Zb r fun b17 o18 =>
 ldI h b17 (o18+1) .i64 fun t19 =>
 ZiO t16 (IntKind.wrap .i64 (t19+1)) fun t20 =>
 Zs (t20 !=117) (
 Zl 0 fun t21 =>
 K t21 h) (
 Zb r fun b22 o23 =>
 Zb r fun b24 o25 =>
 Zb r fun b26 o27 =>
 ldS h b22 o23 fun t28 =>
 ldI h b24 (o25+1) .i64 fun t29 =>
 Zlg t28 0 (IntKind.wrap .i64 (t29+6)) fun t30 =>
 ldI h b26 (o27+1) .i64 fun t31 =>
 newC h [.string t30,.int .i64 (IntKind.wrap .i64 (t31+2)),.int .i64 0] 167 fun b32 h33 =>
 ZaY (Za1 h33 [(b26,o27+1,.int .i64 t31)]) <|
 ZaY (Za1 h33 [(b24,o25+1,.int .i64 t29)]) <|
 ZaY (Za1 h33 [(b22,o23,.string t28)]) <|
 f32 (some ⟨b32,0,none⟩) (fun t34 h35 =>
 Zl t34 fun n =>
 ldI h35 b32 (0+2) .i64 fun t36 =>
 Zs (t36 !=0) (
 Zl 0 fun t37 =>
 K t37 h35) (
 Zs (decide (n<56320)) (
 Zl 0 fun t38 =>
 K t38 h35) (
 Zs (decide (n>57343)) (
 Zl 0 fun t39 =>
 K t39 h35) (
 Zl n fun t40 =>
 K t40 h35)))) h33)))
def Z9:Zvm:=Y7 Z2
abbrev Zvl:=Int→(ByteArray→HP)→HP
def ZbV (n:Int) (K:ByteArray→HP) (h:Zc):Prop :=
 ZD (decide (n<128)) fun t =>
 Zs t (
 newC h [.int .u8 (IntKind.wrap .u8 n)] 5 fun b h1 =>
 b2s ⟨some ⟨b,0,none⟩,1,1⟩ h1 fun t2 =>
 K t2 h1) (
 ZD (decide (n<2048)) fun t3 =>
 Zs t3 (
 ZaY (0≤(6:Int)) <|
 newC h [.int .u8 (IntKind.wrap .u8 (orV .i64 (192:Int) (ZhO .i64 n 6))),.int .u8 (IntKind.wrap .u8 (orV .i64 (128:Int) (Zht .i64 n 63)))] 5 fun b4 h5 =>
 b2s ⟨some ⟨b4,0,none⟩,2,2⟩ h5 fun t6 =>
 K t6 h5) (
 ZD (decide (n<65536)) fun t7 =>
 Zs t7 (
 ZaY (0≤(12:Int)) <|
 ZaY (0≤(6:Int)) <|
 newC h [.int .u8 (IntKind.wrap .u8 (orV .i64 (224:Int) (ZhO .i64 n 12))),.int .u8 (IntKind.wrap .u8 (orV .i64 (128:Int) (Zht .i64 (ZhO .i64 n 6) 63))),.int .u8 (IntKind.wrap .u8 (orV .i64 (128:Int) (Zht .i64 n 63)))] 5 fun b8 h9 =>
 b2s ⟨some ⟨b8,0,none⟩,3,3⟩ h9 fun t10 =>
 K t10 h9) (
 ZaY (0≤(18:Int)) <|
 ZaY (0≤(12:Int)) <|
 ZaY (0≤(6:Int)) <|
 newC h [.int .u8 (IntKind.wrap .u8 (orV .i64 (240:Int) (ZhO .i64 n 18))),.int .u8 (IntKind.wrap .u8 (orV .i64 (128:Int) (Zht .i64 (ZhO .i64 n 12) 63))),.int .u8 (IntKind.wrap .u8 (orV .i64 (128:Int) (Zht .i64 (ZhO .i64 n 6) 63))),.int .u8 (IntKind.wrap .u8 (orV .i64 (128:Int) (Zht .i64 n 63)))] 5 fun b11 h12 =>
 b2s ⟨some ⟨b11,0,none⟩,4,4⟩ h12 fun t13 =>
 K t13 h12)))
def Xd:Zvl:=ZbV
abbrev Zvk:=(Option Addr)→(ByteArray→HP)→HP
def Xu (f27:Zej) (f29:ZgW) (f32:ZsP) (f33:Zvm) (f34:Zvl) (r:Option Addr) (K:ByteArray→HP) (h:Zc):Prop :=
 f27 r (fun t h1 =>
 Zl t fun c =>
 Zb r fun b o =>
 ldI h1 b (o+1) .i64 fun t2 =>
 Zb r fun b3 o4 =>
 ldS h1 b3 o4 fun t5 =>
 Zs (decide (t2≥(t5.size:Int))) (
 f29 r 24 (fun h6 =>
 K (ByteArray.mk #[]) h6) h1) (
 ZbG (σ:=ByteArray × Unit) (fun s51 h52 =>
 (fun (out:ByteArray) =>
 Zb r fun b53 o54 =>
 ldI h52 b53 (o54+1) .i64 fun t55 =>
 Zb r fun b56 o57 =>
 st h52 b56 (o57+1) (.int .i64 (IntKind.wrap .i64 (t55+1))) fun h58 =>
 K out h58) s51.1) (fun J7 =>
 ZbG (σ:=Bool × Unit) (fun s h12 =>
 (fun (s24:Bool) =>
 Zs s24 (
 newC h12 [.int .u8 c] 5 fun b13 h14 =>
 b2s ⟨some ⟨b13,0,none⟩,1,1⟩ h14 fun t15 =>
 J7 (t15,()) h14) (
 ZD (c ==98) fun t16 =>
 Zs t16 (
 J7 (ByteArray.mk #[8],()) h12) (
 ZD (c ==102) fun t17 =>
 Zs t17 (
 J7 (ByteArray.mk #[12],()) h12) (
 ZD (c ==110) fun t18 =>
 Zs t18 (
 J7 (ByteArray.mk #[10],()) h12) (
 ZD (c ==114) fun t19 =>
 Zs t19 (
 J7 (ByteArray.mk #[13],()) h12) (
 ZD (c ==116) fun t20 =>
 Zs t20 (
 J7 (ByteArray.mk #[9],()) h12) (
 ZD (c ==117) fun t21 =>
 Zs t21 (
 Zb r fun b22 o23 =>
 ldI h12 b22 (o23+1) .i64 fun t24 =>
 Zb r fun b25 o26 =>
 st h12 b25 (o26+1) (.int .i64 (IntKind.wrap .i64 (t24+1))) fun h27 =>
 f32 r (fun t28 h29 =>
 Zl t28 fun n =>
 ZbG (σ:=Unit) (fun s41 h42 =>
 ZbG (σ:=Unit) (fun s46 h47 =>
 f34 n (fun t48 h49 =>
 K t48 h49) h47) (fun J43 =>
 Zs (decide (n≥55296)) (
 Zs (decide (n≤57343)) (
 f34 65533 (fun t44 h45 =>
 K t44 h45) h42) (
 J43 (()) h42)) (
 J43 (()) h42))) (fun J30 =>
 Zs (decide (n≥55296)) (
 Zs (decide (n≤56319)) (
 f33 r (fun t31 h32 =>
 Zl t31 fun low =>
 Zs (decide (low>0)) (
 Zb r fun b33 o34 =>
 ldI h32 b33 (o34+1) .i64 fun t35 =>
 Zb r fun b36 o37 =>
 st h32 b36 (o37+1) (.int .i64 (IntKind.wrap .i64 (t35+6))) fun h38 =>
 ZaY (0≤(10:Int)) <|
 f34 (IntKind.wrap .i64 ((IntKind.wrap .i64 ((IntKind.wrap .i64 ((65536:Int)+(Znl .i64 (IntKind.wrap .i64 (n - 55296)) 10)))+low)) - 56320)) (fun t39 h40 =>
 K t39 h40) h38) (
 J30 (()) h32)) h29) (
 J30 (()) h29)) (
 J30 (()) h29))) h27) (
 f29 r 22 (fun h50 =>
 K (ByteArray.mk #[]) h50) h12)))))))) s.1) (fun J8 =>
 ZD (c ==34) fun t9 =>
 Zs t9 (
 J8 (t9,()) h1) (
 ZD (c ==92) fun t10 =>
 Zs t10 (
 J8 (t10,()) h1) (
 ZD (c ==47) fun t11 =>
 J8 (t11,()) h1)))))) h
def Yk:Zvk:=Xu Zg Zk Z2 Z9 Xd
abbrev ZsO:=Int→(Int→Int→Int→HP)→HP
def ZaU (c:Int) (K:Int→Int→Int→HP) (h:Zc):Prop :=
 Zl 0 fun t =>
 Zl 0 fun t1 =>
 Zl 0 fun t2 =>
 ZD (decide (c<128)) fun t3 =>
 Zs t3 (
 Zl 1 fun t4 =>
 Zl 0 fun t5 =>
 Zl 0 fun t6 =>
 K t4 t5 t6 h) (
 ZbG (σ:=Bool × Unit) (fun s h9 =>
 (fun (s8:Bool) =>
 Zs s8 (
 Zl 2 fun t10 =>
 Zl 128 fun t11 =>
 Zl 191 fun t12 =>
 K t10 t11 t12 h9) (
 ZD (c ==224) fun t13 =>
 Zs t13 (
 Zl 3 fun t14 =>
 Zl 160 fun t15 =>
 Zl 191 fun t16 =>
 K t14 t15 t16 h9) (
 ZD (c ==237) fun t17 =>
 Zs t17 (
 Zl 3 fun t18 =>
 Zl 128 fun t19 =>
 Zl 159 fun t20 =>
 K t18 t19 t20 h9) (
 Zs (decide (c≥225)) (
 ZD (decide (c≤239)) fun t21 =>
 Zs t21 (
 Zl 3 fun t22 =>
 Zl 128 fun t23 =>
 Zl 191 fun t24 =>
 K t22 t23 t24 h9) (
 ZD (c ==240) fun t25 =>
 Zs t25 (
 Zl 4 fun t26 =>
 Zl 144 fun t27 =>
 Zl 191 fun t28 =>
 K t26 t27 t28 h9) (
 Zs (decide (c≥241)) (
 ZD (decide (c≤243)) fun t29 =>
 Zs t29 (
 Zl 4 fun t30 =>
 Zl 128 fun t31 =>
 Zl 191 fun t32 =>
 K t30 t31 t32 h9) (
 ZD (c ==244) fun t33 =>
 Zs t33 (
 Zl 4 fun t34 =>
 Zl 128 fun t35 =>
 Zl 143 fun t36 =>
 K t34 t35 t36 h9) (
 Zl 0 fun t37 =>
 Zl 0 fun t38 =>
 Zl 0 fun t39 =>
 K t37 t38 t39 h9))) (
 ZD (c ==244) fun t40 =>
 Zs t40 (
 Zl 4 fun t41 =>
 Zl 128 fun t42 =>
 Zl 143 fun t43 =>
 K t41 t42 t43 h9) (
 Zl 0 fun t44 =>
 Zl 0 fun t45 =>
 Zl 0 fun t46 =>
 K t44 t45 t46 h9))))) (
 ZD (c ==240) fun t47 =>
 Zs t47 (
 Zl 4 fun t48 =>
 Zl 144 fun t49 =>
 Zl 191 fun t50 =>
 K t48 t49 t50 h9) (
 Zs (decide (c≥241)) (
 ZD (decide (c≤243)) fun t51 =>
 Zs t51 (
 Zl 4 fun t52 =>
 Zl 128 fun t53 =>
 Zl 191 fun t54 =>
 K t52 t53 t54 h9) (
 ZD (c ==244) fun t55 =>
 Zs t55 (
 Zl 4 fun t56 =>
 Zl 128 fun t57 =>
 Zl 143 fun t58 =>
 K t56 t57 t58 h9) (
 Zl 0 fun t59 =>
 Zl 0 fun t60 =>
 Zl 0 fun t61 =>
 K t59 t60 t61 h9))) (
 ZD (c ==244) fun t62 =>
 Zs t62 (
 Zl 4 fun t63 =>
 Zl 128 fun t64 =>
 Zl 143 fun t65 =>
 K t63 t64 t65 h9) (
 Zl 0 fun t66 =>
 Zl 0 fun t67 =>
 Zl 0 fun t68 =>
 K t66 t67 t68 h9)))))))) s.1) (fun J7 =>
 Zs (decide (c≥194)) (
 ZD (decide (c≤223)) fun t8 =>
 J7 (t8,()) h) (
 J7 (false,()) h)))
def Yo:ZsO:=ZaU
abbrev Zvj:=(Option Addr)→(HP)→HP
def Y8 (f27:Zej) (f36:ZsO) (f29:ZgW) (r:Option Addr) (K:HP) (h:Zc):Prop :=
 f27 r (fun t h1 =>
 f36 t (fun t2 t3 t4 h5 =>
 Zl t2 fun n =>
 Zl t3 fun lo =>
 Zl t4 fun hi =>
 Zs (n ==0) (
 f29 r 22 (fun h6 =>
 K h6) h5) (
 f27 r (fun t7 h8 =>
 Zs (decide (t7<32)) (
 f29 r 22 (fun h9 =>
 K h9) h8) (
 Zb r fun b o =>
 ldI h8 b (o+1) .i64 fun t10 =>
 Zb r fun b11 o12 =>
 st h8 b11 (o12+1) (.int .i64 (IntKind.wrap .i64 (t10+1))) fun h13 =>
 Zl 1 fun i =>
 Zau (σ:=Int × Int × Int × Unit) (fun J17 s h18 =>
 (fun (lo14:Int) (hi15:Int) (i16:Int) =>
 Zs (decide (i16<n)) (
 Zb r fun b19 o20 =>
 ldI h18 b19 (o20+1) .i64 fun t21 =>
 Zb r fun b22 o23 =>
 ldS h18 b22 o23 fun t24 =>
 Zs (decide (t21≥(t24.size:Int))) (
 f29 r 22 (fun h25 =>
 K h25) h18) (
 ZbR (ρ:=Int × Unit) (fun K h=>f27 r (fun q h=>K (q,()) h) h) h18 fun r27 =>
 Zs (decide (r27.1<lo14)) (
 f29 r 22 (fun h28 =>
 K h28) h18) (
 ZbR (ρ:=Int × Unit) (fun K h=>f27 r (fun q30 h=>K (q30,()) h) h) h18 fun r31 =>
 Zs (decide (r31.1>hi15)) (
 f29 r 22 (fun h32 =>
 K h32) h18) (
 Zb r fun b33 o34 =>
 ldI h18 b33 (o34+1) .i64 fun t35 =>
 Zb r fun b36 o37 =>
 st h18 b36 (o37+1) (.int .i64 (IntKind.wrap .i64 (t35+1))) fun h38 =>
 Zl 128 fun lo39 =>
 Zl 191 fun hi40 =>
 Zl (IntKind.wrap .i64 (i16+1)) fun i41 =>
 J17 (lo39,hi40,i41,()) h38)))) (
 K h18)) s.1 s.2.1 s.2.2.1) (lo,hi,i,()) h13)) h5)) h1) h
def Ya:Zvj:=Y8 Zg Yo Zk
abbrev ZsN:=(Option Addr)→(ByteArray→HP)→HP
def XT (f30:Zm9) (f29:ZgW) (f27:Zej) (f35:Zvk) (f37:Zvj) (r:Option Addr) (K:ByteArray→HP) (h:Zc):Prop :=
 f30 r 34 (fun h1 =>
 Zau (σ:=ByteArray × Unit) (fun J2 s h3 =>
 (fun (out:ByteArray) =>
 Zb r fun b o =>
 ldI h3 b (o+2) .i64 fun t =>
 Zs (t ==0) (
 Zb r fun b4 o5 =>
 ldI h3 b4 (o5+1) .i64 fun t6 =>
 Zb r fun b7 o8 =>
 ldS h3 b7 o8 fun t9 =>
 Zs (decide (t6≥(t9.size:Int))) (
 f29 r 24 (fun h10 =>
 K (ByteArray.mk #[]) h10) h3) (
 f27 r (fun t11 h12 =>
 Zl t11 fun c =>
 Zs (c ==34) (
 Zb r fun b13 o14 =>
 ldI h12 b13 (o14+1) .i64 fun t15 =>
 Zb r fun b16 o17 =>
 st h12 b16 (o17+1) (.int .i64 (IntKind.wrap .i64 (t15+1))) fun h18 =>
 K out h18) (
 Zs (c ==92) (
 Zb r fun b19 o20 =>
 ldI h12 b19 (o20+1) .i64 fun t21 =>
 Zb r fun b22 o23 =>
 st h12 b22 (o23+1) (.int .i64 (IntKind.wrap .i64 (t21+1))) fun h24 =>
 f35 r (fun t25 h26 =>
 Zi9 out t25 fun s27 =>
 J2 (s27,()) h26) h24) (
 Zb r fun b28 o29 =>
 ldI h12 b28 (o29+1) .i64 fun t30 =>
 Zl t30 fun from_ =>
 f37 r (fun h31 =>
 Zb r fun b32 o33 =>
 ldS h31 b32 o33 fun t34 =>
 Zb r fun b35 o36 =>
 ldI h31 b35 (o36+1) .i64 fun t37 =>
 Zlg t34 from_ t37 fun t38 =>
 Zi9 out t38 fun s39 =>
 J2 (s39,()) h31) h12))) h3)) (
 K (ByteArray.mk #[]) h3)) s.1) (ByteArray.mk #[],()) h1) h
def ZZ:ZsN:=XT Zu Zk Zg Yk Ya
abbrev Zvi:=(Option Addr)→(HP)→HP
def Xv (f29:ZgW) (f27:Zej) (f31:Zm8) (r:Option Addr) (K:HP) (h:Zc):Prop :=
 Zb r fun b o =>
 ldI h b (o+2) .i64 fun t =>
 Zs (t !=0) (
 K h) (
 Zb r fun b1 o2 =>
 ldI h b1 (o2+1) .i64 fun t3 =>
 Zb r fun b4 o5 =>
 ldS h b4 o5 fun t6 =>
 Zs (decide (t3≥(t6.size:Int))) (
 f29 r 21 (fun h7 =>
 K h7) h) (
 ZbR (ρ:=Int × Unit) (fun K h=>f27 r (fun q h=>K (q,()) h) h) h fun r9 =>
 ZbR (ρ:=Bool × Unit) (fun K h=>f31 r9.1 (fun q11 h=>K (q11,()) h) h) h fun r12 =>
 Zs (!r12.1) (
 f29 r 21 (fun h13 =>
 K h13) h) (
 Zau (σ:=Unit) (fun J14 s h15 =>
 Zb r fun b16 o17 =>
 ldI h15 b16 (o17+1) .i64 fun t18 =>
 Zb r fun b19 o20 =>
 ldS h15 b19 o20 fun t21 =>
 Zs (decide (t18<(t21.size:Int))) (
 ZbR (ρ:=Int × Unit) (fun K h=>f27 r (fun q23 h=>K (q23,()) h) h) h15 fun r24 =>
 ZbR (ρ:=Bool × Unit) (fun K h=>f31 r24.1 (fun q26 h=>K (q26,()) h) h) h15 fun r27 =>
 Zs r27.1 (
 Zb r fun b28 o29 =>
 ldI h15 b28 (o29+1) .i64 fun t30 =>
 Zb r fun b31 o32 =>
 st h15 b31 (o32+1) (.int .i64 (IntKind.wrap .i64 (t30+1))) fun h33 =>
 J14 (()) h33) (
 K h15)) (
 K h15)) (()) h)))
def Z4:Zvi:=Xv Zk Zg ZO
abbrev Zvh:=(Option Addr)→(ByteArray→HP)→HP
def Xt (f27:Zej) (f31:Zm8) (f29:ZgW) (f39:Zvi) (r:Option Addr) (K:ByteArray→HP) (h:Zc):Prop :=
 Zb r fun b o =>
 ldI h b (o+1) .i64 fun t =>
 Zl t fun from_ =>
 ZbG (σ:=Unit) (fun s h10 =>
 ZbG (σ:=Bool × Unit) (fun s21 h22 =>
 (fun (nought20:Bool) =>
 ZbG (σ:=Unit) (fun s44 h45 =>
 ZbG (σ:=Unit) (fun s66 h67 =>
 ZbG (σ:=Unit) (fun s121 h122 =>
 Zb r fun b123 o124 =>
 ldS h122 b123 o124 fun t125 =>
 Zb r fun b126 o127 =>
 ldI h122 b126 (o127+1) .i64 fun t128 =>
 Zlg t125 from_ t128 fun t129 =>
 K t129 h122) (fun J68 =>
 ZbG (σ:=Bool × Unit) (fun s85 h86 =>
 (fun (s118:Bool) =>
 Zs s118 (
 Zb r fun b87 o88 =>
 ldI h86 b87 (o88+1) .i64 fun t89 =>
 Zb r fun b90 o91 =>
 st h86 b90 (o91+1) (.int .i64 (IntKind.wrap .i64 (t89+1))) fun h92 =>
 Zb r fun b93 o94 =>
 ldI h92 b93 (o94+1) .i64 fun t95 =>
 Zb r fun b96 o97 =>
 ldS h92 b96 o97 fun t98 =>
 Zs (decide (t95<(t98.size:Int))) (
 ZbR (ρ:=Int × Unit) (fun K h=>f27 r (fun q100 h=>K (q100,()) h) h) h92 fun r101 =>
 Zs (r101.1 ==43) (
 Zb r fun b102 o103 =>
 ldI h92 b102 (o103+1) .i64 fun t104 =>
 Zb r fun b105 o106 =>
 st h92 b105 (o106+1) (.int .i64 (IntKind.wrap .i64 (t104+1))) fun h107 =>
 f39 r (fun h108 =>
 J68 (()) h108) h107) (
 ZbR (ρ:=Int × Unit) (fun K h=>f27 r (fun q110 h=>K (q110,()) h) h) h92 fun r111 =>
 Zs (r111.1 ==45) (
 Zb r fun b112 o113 =>
 ldI h92 b112 (o113+1) .i64 fun t114 =>
 Zb r fun b115 o116 =>
 st h92 b115 (o116+1) (.int .i64 (IntKind.wrap .i64 (t114+1))) fun h117 =>
 f39 r (fun h118 =>
 J68 (()) h118) h117) (
 f39 r (fun h119 =>
 J68 (()) h119) h92))) (
 f39 r (fun h120 =>
 J68 (()) h120) h92)) (
 J68 (()) h86)) s85.1) (fun J69 =>
 Zb r fun b70 o71 =>
 ldI h67 b70 (o71+2) .i64 fun t72 =>
 Zs (t72 ==0) (
 Zb r fun b73 o74 =>
 ldI h67 b73 (o74+1) .i64 fun t75 =>
 Zb r fun b76 o77 =>
 ldS h67 b76 o77 fun t78 =>
 Zs (decide (t75<(t78.size:Int))) (
 ZbR (ρ:=Int × Unit) (fun K h=>f27 r (fun q80 h=>K (q80,()) h) h) h67 fun r81 =>
 Zs (r81.1 ==101) (
 J69 (true,()) h67) (
 ZbR (ρ:=Int × Unit) (fun K h=>f27 r (fun q83 h=>K (q83,()) h) h) h67 fun r84 =>
 J69 (r84.1 ==69,()) h67)) (
 J69 (false,()) h67)) (
 J69 (false,()) h67)))) (fun J46 =>
 Zb r fun b47 o48 =>
 ldI h45 b47 (o48+2) .i64 fun t49 =>
 Zs (t49 ==0) (
 Zb r fun b50 o51 =>
 ldI h45 b50 (o51+1) .i64 fun t52 =>
 Zb r fun b53 o54 =>
 ldS h45 b53 o54 fun t55 =>
 Zs (decide (t52<(t55.size:Int))) (
 ZbR (ρ:=Int × Unit) (fun K h=>f27 r (fun q57 h=>K (q57,()) h) h) h45 fun r58 =>
 Zs (r58.1 ==46) (
 Zb r fun b59 o60 =>
 ldI h45 b59 (o60+1) .i64 fun t61 =>
 Zb r fun b62 o63 =>
 st h45 b62 (o63+1) (.int .i64 (IntKind.wrap .i64 (t61+1))) fun h64 =>
 f39 r (fun h65 =>
 J46 (()) h65) h64) (
 J46 (()) h45)) (
 J46 (()) h45)) (
 J46 (()) h45))) (fun J23 =>
 Zs nought20 (
 Zb r fun b24 o25 =>
 ldI h22 b24 (o25+1) .i64 fun t26 =>
 Zb r fun b27 o28 =>
 st h22 b27 (o28+1) (.int .i64 (IntKind.wrap .i64 (t26+1))) fun h29 =>
 Zb r fun b30 o31 =>
 ldI h29 b30 (o31+1) .i64 fun t32 =>
 Zb r fun b33 o34 =>
 ldS h29 b33 o34 fun t35 =>
 Zs (decide (t32<(t35.size:Int))) (
 ZbR (ρ:=Int × Unit) (fun K h=>f27 r (fun q37 h=>K (q37,()) h) h) h29 fun r38 =>
 ZbR (ρ:=Bool × Unit) (fun K h=>f31 r38.1 (fun q40 h=>K (q40,()) h) h) h29 fun r41 =>
 Zs r41.1 (
 f29 r 21 (fun h42 =>
 J23 (()) h42) h29) (
 J23 (()) h29)) (
 J23 (()) h29)) (
 f39 r (fun h43 =>
 J23 (()) h43) h22))) s21.1) (fun J11 =>
 Zb r fun b12 o13 =>
 ldI h10 b12 (o13+1) .i64 fun t14 =>
 Zb r fun b15 o16 =>
 ldS h10 b15 o16 fun t17 =>
 Zs (decide (t14<(t17.size:Int))) (
 ZbR (ρ:=Int × Unit) (fun K h=>f27 r (fun q h=>K (q,()) h) h) h10 fun r19 =>
 ZD (r19.1 ==48) fun nought =>
 J11 (nought,()) h10) (
 J11 (false,()) h10))) (fun J1 =>
 f27 r (fun t2 h3 =>
 Zs (t2 ==45) (
 Zb r fun b4 o5 =>
 ldI h3 b4 (o5+1) .i64 fun t6 =>
 Zb r fun b7 o8 =>
 st h3 b7 (o8+1) (.int .i64 (IntKind.wrap .i64 (t6+1))) fun h9 =>
 J1 (()) h9) (
 J1 (()) h3)) h)
def Yj:Zvh:=Xt Zg ZO Zk Z4
abbrev Zvg:=(Option Addr)→ByteArray→(HP)→HP
def XS (f30:Zm9) (r:Option Addr) (w:ByteArray) (K:HP) (h:Zc):Prop :=
 Zl 0 fun i =>
 Zau (σ:=Int × Unit) (fun J2 s h3 =>
 (fun (i1:Int) =>
 Zs (decide (i1<(w.size:Int))) (
 ZiO w i1 fun t =>
 f30 r t (fun h4 =>
 Zl (IntKind.wrap .i64 (i1+1)) fun i5 =>
 J2 (i5,()) h4) h3) (
 K h3)) s.1) (i,()) h
def Ye:Zvg:=XS Zu
abbrev Zhf:=(Option Addr)→Int→((Int × ByteArray × Sl × Sl × Unit)→HP)→HP
abbrev ZsM:=(Option Addr)→Int→(Bool→HP)→HP
def XU (f28:Zk3) (f27:Zej) (f30:Zm9) (r:Option Addr) (end_:Int) (K:Bool→HP) (h:Zc):Prop :=
 f28 r (fun h1 =>
 ZbG (σ:=Unit) (fun s h17 =>
 f30 r end_ (fun h18 =>
 K false h18) h17) (fun J2 =>
 Zb r fun b o =>
 ldI h1 b (o+2) .i64 fun t =>
 Zs (t ==0) (
 ZbR (ρ:=Int × Unit) (fun K h=>f27 r (fun q h=>K (q,()) h) h) h1 fun r4 =>
 Zs (r4.1 ==44) (
 Zb r fun b5 o6 =>
 ldI h1 b5 (o6+1) .i64 fun t7 =>
 Zb r fun b8 o9 =>
 ldS h1 b8 o9 fun t10 =>
 Zs (decide (t7<(t10.size:Int))) (
 Zb r fun b11 o12 =>
 ldI h1 b11 (o12+1) .i64 fun t13 =>
 Zb r fun b14 o15 =>
 st h1 b14 (o15+1) (.int .i64 (IntKind.wrap .i64 (t13+1))) fun h16 =>
 K true h16) (
 J2 (()) h1)) (
 J2 (()) h1)) (
 J2 (()) h1))) h
def ZU:ZsM:=XU Zt Zg Zu
abbrev Zvf:=(Option Addr)→Int→((Int × ByteArray × Sl × Sl × Unit)→HP)→HP
def XJ (f28:Zk3) (f27:Zej) (f42:Zhf) (f43:ZsM) (r:Option Addr) (depth:Int) (K:(Int × ByteArray × Sl × Sl × Unit)→HP) (h:Zc):Prop :=
 newC h [.int .u8 0,.string (ByteArray.mk #[]),.slice none 0 0,.slice none 0 0] 33 fun b h1 =>
 newC h1 [.int .u8 0,.string (ByteArray.mk #[]),.slice none 0 0,.slice none 0 0] 33 fun b2 h3 =>
 sts h3 b2 0 [.int .u8 6,.string (ByteArray.mk #[]),.slice none 0 0,.slice none 0 0] fun h4 =>
 f28 r (fun h5 =>
 ZbG (σ:=Unit) (fun s h31 =>
 Zau (σ:=Unit) (fun J32 s33 h34 =>
 Zb r fun b35 o36 =>
 ldI h34 b35 (o36+2) .i64 fun t37 =>
 Zs (t37 ==0) (
 ldL h34 b2 (0+2) fun t38 =>
 f42 r depth (fun t39 h40 =>
 ZaY (Za1 h40 [(b2,0+2,.slice t38.ptr t38.len t38.cap)]) <|
 newC h40 [.int .u8 t39.1,.string t39.2.1,.slice t39.2.2.1.ptr t39.2.2.1.len t39.2.2.1.cap,.slice t39.2.2.2.1.ptr t39.2.2.2.1.len t39.2.2.2.1.cap] 33 fun b41 h42 =>
 ZaY (Za1 h42 [(b2,0+2,.slice t38.ptr t38.len t38.cap)]) <|
 rdS ⟨some ⟨b41,0,none⟩,1,1⟩ 4 h42 fun new=>app 33 4 72 [.int .u8 0,.string (ByteArray.mk #[]),.slice none 0 0,.slice none 0 0] t38 1 new h42 fun t43 h44 =>
 st h44 b2 (0+2) (.slice t43.ptr t43.len t43.cap) fun h45 =>
 f43 r 93 (fun t46 h47 =>
 Zs (!t46) (
 ldI h47 b2 0 .u8 fun t48=>ldS h47 b2 (0+1) fun t49=>ldL h47 b2 (0+2) fun t50=>ldL h47 b2 (0+3) fun t51 =>
 sts h47 b 0 [.int .u8 t48,.string t49,.slice t50.ptr t50.len t50.cap,.slice t51.ptr t51.len t51.cap] fun h52 =>
 ldI h52 b 0 .u8 fun t53=>ldS h52 b (0+1) fun t54=>ldL h52 b (0+2) fun t55=>ldL h52 b (0+3) fun t56=>K (t53,t54,t55,t56,()) h52) (
 J32 (()) h47)) h45) h34) (
 ldI h34 b2 0 .u8 fun t57=>ldS h34 b2 (0+1) fun t58=>ldL h34 b2 (0+2) fun t59=>ldL h34 b2 (0+3) fun t60 =>
 sts h34 b 0 [.int .u8 t57,.string t58,.slice t59.ptr t59.len t59.cap,.slice t60.ptr t60.len t60.cap] fun h61 =>
 ldI h61 b 0 .u8 fun t62=>ldS h61 b (0+1) fun t63=>ldL h61 b (0+2) fun t64=>ldL h61 b (0+3) fun t65=>K (t62,t63,t64,t65,()) h61)) (()) h31) (fun J6 =>
 Zb r fun b7 o =>
 ldI h5 b7 (o+2) .i64 fun t =>
 Zs (t ==0) (
 Zb r fun b8 o9 =>
 ldI h5 b8 (o9+1) .i64 fun t10 =>
 Zb r fun b11 o12 =>
 ldS h5 b11 o12 fun t13 =>
 Zs (decide (t10<(t13.size:Int))) (
 ZbR (ρ:=Int × Unit) (fun K h=>f27 r (fun q h=>K (q,()) h) h) h5 fun r15 =>
 Zs (r15.1 ==93) (
 Zb r fun b16 o17 =>
 ldI h5 b16 (o17+1) .i64 fun t18 =>
 Zb r fun b19 o20 =>
 st h5 b19 (o20+1) (.int .i64 (IntKind.wrap .i64 (t18+1))) fun h21 =>
 ldI h21 b2 0 .u8 fun t22=>ldS h21 b2 (0+1) fun t23=>ldL h21 b2 (0+2) fun t24=>ldL h21 b2 (0+3) fun t25 =>
 sts h21 b 0 [.int .u8 t22,.string t23,.slice t24.ptr t24.len t24.cap,.slice t25.ptr t25.len t25.cap] fun h26 =>
 ldI h26 b 0 .u8 fun t27=>ldS h26 b (0+1) fun t28=>ldL h26 b (0+2) fun t29=>ldL h26 b (0+3) fun t30=>K (t27,t28,t29,t30,()) h26) (
 J6 (()) h5)) (
 J6 (()) h5)) (
 J6 (()) h5))) h4
def Yq (f42:Zhf):Zvf:=XJ Zt Zg f42 ZU
abbrev Zve:=(Option Addr)→Int→((Int × ByteArray × Sl × Sl × Unit)→HP)→HP
def Xs (f28:Zk3) (f27:Zej) (f38:ZsN) (f30:Zm9) (f42:Zhf) (f43:ZsM) (r:Option Addr) (depth:Int) (K:(Int × ByteArray × Sl × Sl × Unit)→HP) (h:Zc):Prop :=
 newC h [.int .u8 0,.string (ByteArray.mk #[]),.slice none 0 0,.slice none 0 0] 33 fun b h1 =>
 newC h1 [.int .u8 0,.string (ByteArray.mk #[]),.slice none 0 0,.slice none 0 0] 33 fun b2 h3 =>
 sts h3 b2 0 [.int .u8 7,.string (ByteArray.mk #[]),.slice none 0 0,.slice none 0 0] fun h4 =>
 f28 r (fun h5 =>
 ZbG (σ:=Unit) (fun s h31 =>
 Zau (σ:=Unit) (fun J32 s33 h34 =>
 Zb r fun b35 o36 =>
 ldI h34 b35 (o36+2) .i64 fun t37 =>
 Zs (t37 ==0) (
 f28 r (fun h38 =>
 ldL h38 b2 (0+3) fun t39 =>
 f38 r (fun t40 h41 =>
 ZaY (Za1 h41 [(b2,0+3,.slice t39.ptr t39.len t39.cap)]) <|
 newC h41 [.string t40] 9 fun b42 h43 =>
 ZaY (Za1 h43 [(b2,0+3,.slice t39.ptr t39.len t39.cap)]) <|
 rdS ⟨some ⟨b42,0,none⟩,1,1⟩ 1 h43 fun new=>app 9 1 16 [.string (ByteArray.mk #[])] t39 1 new h43 fun t44 h45 =>
 st h45 b2 (0+3) (.slice t44.ptr t44.len t44.cap) fun h46 =>
 f28 r (fun h47 =>
 f30 r 58 (fun h48 =>
 ldL h48 b2 (0+2) fun t49 =>
 f42 r depth (fun t50 h51 =>
 ZaY (Za1 h51 [(b2,0+2,.slice t49.ptr t49.len t49.cap)]) <|
 newC h51 [.int .u8 t50.1,.string t50.2.1,.slice t50.2.2.1.ptr t50.2.2.1.len t50.2.2.1.cap,.slice t50.2.2.2.1.ptr t50.2.2.2.1.len t50.2.2.2.1.cap] 33 fun b52 h53 =>
 ZaY (Za1 h53 [(b2,0+2,.slice t49.ptr t49.len t49.cap)]) <|
 rdS ⟨some ⟨b52,0,none⟩,1,1⟩ 4 h53 fun new56=>app 33 4 72 [.int .u8 0,.string (ByteArray.mk #[]),.slice none 0 0,.slice none 0 0] t49 1 new56 h53 fun t54 h55 =>
 st h55 b2 (0+2) (.slice t54.ptr t54.len t54.cap) fun h57 =>
 f43 r 125 (fun t58 h59 =>
 Zs (!t58) (
 ldI h59 b2 0 .u8 fun t60=>ldS h59 b2 (0+1) fun t61=>ldL h59 b2 (0+2) fun t62=>ldL h59 b2 (0+3) fun t63 =>
 sts h59 b 0 [.int .u8 t60,.string t61,.slice t62.ptr t62.len t62.cap,.slice t63.ptr t63.len t63.cap] fun h64 =>
 ldI h64 b 0 .u8 fun t65=>ldS h64 b (0+1) fun t66=>ldL h64 b (0+2) fun t67=>ldL h64 b (0+3) fun t68=>K (t65,t66,t67,t68,()) h64) (
 J32 (()) h59)) h57) h48) h47) h46) h38) h34) (
 ldI h34 b2 0 .u8 fun t69=>ldS h34 b2 (0+1) fun t70=>ldL h34 b2 (0+2) fun t71=>ldL h34 b2 (0+3) fun t72 =>
 sts h34 b 0 [.int .u8 t69,.string t70,.slice t71.ptr t71.len t71.cap,.slice t72.ptr t72.len t72.cap] fun h73 =>
 ldI h73 b 0 .u8 fun t74=>ldS h73 b (0+1) fun t75=>ldL h73 b (0+2) fun t76=>ldL h73 b (0+3) fun t77=>K (t74,t75,t76,t77,()) h73)) (()) h31) (fun J6 =>
 Zb r fun b7 o =>
 ldI h5 b7 (o+2) .i64 fun t =>
 Zs (t ==0) (
 Zb r fun b8 o9 =>
 ldI h5 b8 (o9+1) .i64 fun t10 =>
 Zb r fun b11 o12 =>
 ldS h5 b11 o12 fun t13 =>
 Zs (decide (t10<(t13.size:Int))) (
 ZbR (ρ:=Int × Unit) (fun K h=>f27 r (fun q h=>K (q,()) h) h) h5 fun r15 =>
 Zs (r15.1 ==125) (
 Zb r fun b16 o17 =>
 ldI h5 b16 (o17+1) .i64 fun t18 =>
 Zb r fun b19 o20 =>
 st h5 b19 (o20+1) (.int .i64 (IntKind.wrap .i64 (t18+1))) fun h21 =>
 ldI h21 b2 0 .u8 fun t22=>ldS h21 b2 (0+1) fun t23=>ldL h21 b2 (0+2) fun t24=>ldL h21 b2 (0+3) fun t25 =>
 sts h21 b 0 [.int .u8 t22,.string t23,.slice t24.ptr t24.len t24.cap,.slice t25.ptr t25.len t25.cap] fun h26 =>
 ldI h26 b 0 .u8 fun t27=>ldS h26 b (0+1) fun t28=>ldL h26 b (0+2) fun t29=>ldL h26 b (0+3) fun t30=>K (t27,t28,t29,t30,()) h26) (
 J6 (()) h5)) (
 J6 (()) h5)) (
 J6 (()) h5))) h4
def Yi (f42:Zhf):Zve:=Xs Zt Zg ZZ Zu f42 ZU
def XI (f28:Zk3) (f27:Zej) (f29:ZgW) (f38:ZsN) (f31:Zm8) (f40:Zvh) (f41:Zvg) (f44:Zvf) (f45:Zve) (r:Option Addr) (depth:Int) (K:(Int × ByteArray × Sl × Sl × Unit)→HP) (h:Zc):Prop :=
 newC h [.int .u8 0,.string (ByteArray.mk #[]),.slice none 0 0,.slice none 0 0] 33 fun b h1 =>
 f28 r (fun h2 =>
 Zb r fun b3 o =>
 ldI h2 b3 (o+2) .i64 fun t =>
 Zs (t !=0) (
 sts h2 b 0 [.int .u8 0,.string (ByteArray.mk #[]),.slice none 0 0,.slice none 0 0] fun h4 =>
 ldI h4 b 0 .u8 fun t5=>ldS h4 b (0+1) fun t6=>ldL h4 b (0+2) fun t7=>ldL h4 b (0+3) fun t8=>K (t5,t6,t7,t8,()) h4) (
 f27 r (fun t9 h10 =>
 Zl t9 fun c =>
 Zb r fun b11 o12 =>
 ldI h10 b11 (o12+1) .i64 fun t13 =>
 Zb r fun b14 o15 =>
 ldS h10 b14 o15 fun t16 =>
 ZD (decide (t13≥(t16.size:Int))) fun t17 =>
 Zs t17 (
 f29 r 24 (fun h18 =>
 sts h18 b 0 [.int .u8 0,.string (ByteArray.mk #[]),.slice none 0 0,.slice none 0 0] fun h19 =>
 ldI h19 b 0 .u8 fun t20=>ldS h19 b (0+1) fun t21=>ldL h19 b (0+2) fun t22=>ldL h19 b (0+3) fun t23=>K (t20,t21,t22,t23,()) h19) h10) (
 ZD (c ==34) fun t24 =>
 Zs t24 (
 f38 r (fun t25 h26 =>
 sts h26 b 0 [.int .u8 5,.string t25,.slice none 0 0,.slice none 0 0] fun h27 =>
 ldI h27 b 0 .u8 fun t28=>ldS h27 b (0+1) fun t29=>ldL h27 b (0+2) fun t30=>ldL h27 b (0+3) fun t31=>K (t28,t29,t30,t31,()) h27) h10) (
 ZbG (σ:=Bool × Unit) (fun s h36 =>
 (fun (s37:Bool) =>
 Zs s37 (
 f40 r (fun t37 h38 =>
 sts h38 b 0 [.int .u8 4,.string t37,.slice none 0 0,.slice none 0 0] fun h39 =>
 ldI h39 b 0 .u8 fun t40=>ldS h39 b (0+1) fun t41=>ldL h39 b (0+2) fun t42=>ldL h39 b (0+3) fun t43=>K (t40,t41,t42,t43,()) h39) h36) (
 ZD (c ==110) fun t44 =>
 Zs t44 (
 f41 r (ByteArray.mk #[110,117,108,108]) (fun h45 =>
 sts h45 b 0 [.int .u8 1,.string (ByteArray.mk #[]),.slice none 0 0,.slice none 0 0] fun h46 =>
 ldI h46 b 0 .u8 fun t47=>ldS h46 b (0+1) fun t48=>ldL h46 b (0+2) fun t49=>ldL h46 b (0+3) fun t50=>K (t47,t48,t49,t50,()) h46) h36) (
 ZD (c ==116) fun t51 =>
 Zs t51 (
 f41 r (ByteArray.mk #[116,114,117,101]) (fun h52 =>
 sts h52 b 0 [.int .u8 3,.string (ByteArray.mk #[]),.slice none 0 0,.slice none 0 0] fun h53 =>
 ldI h53 b 0 .u8 fun t54=>ldS h53 b (0+1) fun t55=>ldL h53 b (0+2) fun t56=>ldL h53 b (0+3) fun t57=>K (t54,t55,t56,t57,()) h53) h36) (
 ZD (c ==102) fun t58 =>
 Zs t58 (
 f41 r (ByteArray.mk #[102,97,108,115,101]) (fun h59 =>
 sts h59 b 0 [.int .u8 2,.string (ByteArray.mk #[]),.slice none 0 0,.slice none 0 0] fun h60 =>
 ldI h60 b 0 .u8 fun t61=>ldS h60 b (0+1) fun t62=>ldL h60 b (0+2) fun t63=>ldL h60 b (0+3) fun t64=>K (t61,t62,t63,t64,()) h60) h36) (
 ZbG (σ:=Bool × Unit) (fun s67 h68 =>
 (fun (s65:Bool) =>
 Zs s65 (
 Zs (depth ==64) (
 f29 r 23 (fun h69 =>
 sts h69 b 0 [.int .u8 0,.string (ByteArray.mk #[]),.slice none 0 0,.slice none 0 0] fun h70 =>
 ldI h70 b 0 .u8 fun t71=>ldS h70 b (0+1) fun t72=>ldL h70 b (0+2) fun t73=>ldL h70 b (0+3) fun t74=>K (t71,t72,t73,t74,()) h70) h68) (
 Zb r fun b75 o76 =>
 ldI h68 b75 (o76+1) .i64 fun t77 =>
 Zb r fun b78 o79 =>
 st h68 b78 (o79+1) (.int .i64 (IntKind.wrap .i64 (t77+1))) fun h80 =>
 Zs (c ==91) (
 f44 r (IntKind.wrap .i64 (depth+1)) (fun t81 h82 =>
 sts h82 b 0 [.int .u8 t81.1,.string t81.2.1,.slice t81.2.2.1.ptr t81.2.2.1.len t81.2.2.1.cap,.slice t81.2.2.2.1.ptr t81.2.2.2.1.len t81.2.2.2.1.cap] fun h83 =>
 ldI h83 b 0 .u8 fun t84=>ldS h83 b (0+1) fun t85=>ldL h83 b (0+2) fun t86=>ldL h83 b (0+3) fun t87=>K (t84,t85,t86,t87,()) h83) h80) (
 f45 r (IntKind.wrap .i64 (depth+1)) (fun t88 h89 =>
 sts h89 b 0 [.int .u8 t88.1,.string t88.2.1,.slice t88.2.2.1.ptr t88.2.2.1.len t88.2.2.1.cap,.slice t88.2.2.2.1.ptr t88.2.2.2.1.len t88.2.2.2.1.cap] fun h90 =>
 ldI h90 b 0 .u8 fun t91=>ldS h90 b (0+1) fun t92=>ldL h90 b (0+2) fun t93=>ldL h90 b (0+3) fun t94=>K (t91,t92,t93,t94,()) h90) h80))) (
 f29 r 20 (fun h95 =>
 sts h95 b 0 [.int .u8 0,.string (ByteArray.mk #[]),.slice none 0 0,.slice none 0 0] fun h96 =>
 ldI h96 b 0 .u8 fun t97=>ldS h96 b (0+1) fun t98=>ldL h96 b (0+2) fun t99=>ldL h96 b (0+3) fun t100=>K (t97,t98,t99,t100,()) h96) h68)) s67.1) (fun J65 =>
 Zs (c ==91) (
 J65 (true,()) h36) (
 ZD (c ==123) fun t66 =>
 J65 (t66,()) h36))))))) s.1) (fun J32 =>
 Zs (c ==45) (
 J32 (true,()) h10) (
 f31 c (fun t33 h34 =>
 ZD t33 fun t35 =>
 J32 (t35,()) h34) h10))))) h2)) h1
def YT (f42:Zhf):Zhf:=XI Zt Zg Zk ZZ ZO Yj Ye (Yq f42) (Yi f42)
def Z0:Nat→Zhf
 | 0=>fun _ _ _ _=>False
 | n+1=>YT (Z0 n)
def XG:Zhf:=fun r depth K h=>∃ n,Z0 n r depth K h
abbrev Zvd:=ByteArray→((Int × ByteArray × Sl × Sl × Unit)→Int→Int→HP)→HP
def Zbi (f42:Zhf) (f28:Zk3) (s:ByteArray) (K:(Int × ByteArray × Sl × Sl × Unit)→Int→Int→HP) (h:Zc):Prop :=
 newC h [.int .u8 0,.string (ByteArray.mk #[]),.slice none 0 0,.slice none 0 0] 33 fun b h1 =>
 Zl 0 fun t =>
 Zl 0 fun t2 =>
 Zs (decide ((s.size:Int)>65536)) (
 sts h1 b 0 [.int .u8 0,.string (ByteArray.mk #[]),.slice none 0 0,.slice none 0 0] fun h3 =>
 Zl 5 fun t4 =>
 Zl 65536 fun t5 =>
 ldI h3 b 0 .u8 fun t6=>ldS h3 b (0+1) fun t7=>ldL h3 b (0+2) fun t8=>ldL h3 b (0+3) fun t9=>K (t6,t7,t8,t9,()) t4 t5 h3) (
 newC h1 [.string s,.int .i64 0,.int .i64 0] 167 fun b10 h11 =>
 f42 (some ⟨b10,0,none⟩) 0 (fun t12 h13 =>
 newC h13 [.int .u8 0,.string (ByteArray.mk #[]),.slice none 0 0,.slice none 0 0] 33 fun b14 h15 =>
 sts h15 b14 0 [.int .u8 t12.1,.string t12.2.1,.slice t12.2.2.1.ptr t12.2.2.1.len t12.2.2.1.cap,.slice t12.2.2.2.1.ptr t12.2.2.2.1.len t12.2.2.2.1.cap] fun h16 =>
 f28 (some ⟨b10,0,none⟩) (fun h17 =>
 ZbG (σ:=Unit) (fun s23 h24 =>
 ldI h24 b10 (0+2) .i64 fun t25 =>
 Zs (t25 !=0) (
 ldI h24 b10 (0+2) .i64 fun t26 =>
 ldI h24 b10 (0+1) .i64 fun t27 =>
 sts h24 b 0 [.int .u8 0,.string (ByteArray.mk #[]),.slice none 0 0,.slice none 0 0] fun h28 =>
 ZaY (Za1 h28 [(b10,0+1,.int .i64 t27)]) <|
 ZaY (Za1 h28 [(b10,0+2,.int .i64 t26)]) <|
 Zl t26 fun t29 =>
 Zl t27 fun t30 =>
 ldI h28 b 0 .u8 fun t31=>ldS h28 b (0+1) fun t32=>ldL h28 b (0+2) fun t33=>ldL h28 b (0+3) fun t34=>K (t31,t32,t33,t34,()) t29 t30 h28) (
 ldI h24 b14 0 .u8 fun t35=>ldS h24 b14 (0+1) fun t36=>ldL h24 b14 (0+2) fun t37=>ldL h24 b14 (0+3) fun t38 =>
 sts h24 b 0 [.int .u8 t35,.string t36,.slice t37.ptr t37.len t37.cap,.slice t38.ptr t38.len t38.cap] fun h39 =>
 Zl 0 fun t40 =>
 Zl 0 fun t41 =>
 ldI h39 b 0 .u8 fun t42=>ldS h39 b (0+1) fun t43=>ldL h39 b (0+2) fun t44=>ldL h39 b (0+3) fun t45=>K (t42,t43,t44,t45,()) t40 t41 h39)) (fun J18 =>
 ldI h17 b10 (0+2) .i64 fun t19 =>
 Zs (t19 ==0) (
 ldI h17 b10 (0+1) .i64 fun t20 =>
 ldS h17 b10 0 fun t21 =>
 Zs (decide (t20<(t21.size:Int))) (
 st h17 b10 (0+2) (.int .i64 25) fun h22 =>
 J18 (()) h22) (
 J18 (()) h17)) (
 J18 (()) h17))) h16) h11)
def Xj:Zvd:=Zbi XG Zt
abbrev Ztx:=ByteArray→((Int × ByteArray × Sl × Sl × Unit)→Int→Int→HP)→HP
abbrev Zvc:=ByteArray→(Bool→HP)→HP
def Zdo (f26:Ztx) (s:ByteArray) (K:Bool→HP) (h:Zc):Prop :=
 f26 s (fun t t1 t2 h3 =>
 newC h3 [.int .u8 0,.string (ByteArray.mk #[]),.slice none 0 0,.slice none 0 0] 33 fun b h4 =>
 sts h4 b 0 [.int .u8 t.1,.string t.2.1,.slice t.2.2.1.ptr t.2.2.1.len t.2.2.1.cap,.slice t.2.2.2.1.ptr t.2.2.2.1.len t.2.2.2.1.cap] fun h5 =>
 Zl t1 fun e =>
 Zl t2 fun x =>
 Zs (e ==0) (
 ldI h5 b 0 .u8 fun t6 =>
 Zs (t6 ==4) (
 ldS h5 b (0+1) fun t7 =>
 ZD (Za0 t7 s) fun t8 =>
 K t8 h5) (
 K false h5)) (
 K false h5)) h
def Za8:Zvc:=Zdo XK
abbrev Zvb:=ByteArray→(Bool→HP)→HP
def ZdF (f15:Zo4) (s:ByteArray) (K:Bool→HP) (h:Zc):Prop :=
 f15 s (fun t h1 =>
 ZD (!t) fun t2 =>
 K t2 h1) h
def ZcO:Zvb:=ZdF ZL
abbrev Zva:=Sl→(Int→HP)→HP
def Z8 (f48:Zvb) (s:Sl) (K:Int→HP) (h:Zc):Prop :=
 Zl 0 fun t =>
 Zau (σ:=Int × Unit) (fun J1 s2 h3 =>
 (fun (s8:Int) =>
 Zs (decide (s8<(s.len:Int))) (
 Zl s8 fun i =>
 Zd6 s.ptr s.len i 1 fun b o =>
 ldS h3 b o fun t4 =>
 f48 t4 (fun t5 h6 =>
 Zs t5 (
 Zl i fun t7 =>
 K t7 h6) (
 J1 (IntKind.wrap .i64 (s8+1),()) h6)) h3) (
 Zl (-1) fun t8 =>
 K t8 h3)) s2.1) (0,()) h
def ZS:Zva:=Z8 ZcO
abbrev Zu9:=Sl→(Bool→HP)→HP
def Z1 (f49:Zva) (s:Sl) (K:Bool→HP) (h:Zc):Prop :=
 f49 s (fun t h1 =>
 ZD (decide (t≥0)) fun t2 =>
 K t2 h1) h
def ZE:Zu9:=Z1 ZS
abbrev Zu8:=(Int × ByteArray × Sl × Sl × Unit)→(Bool→HP)→HP
def ZeQ (f47:Zvc) (f15:Zo4) (f50:Zu9) (v:Int × ByteArray × Sl × Sl × Unit) (K:Bool→HP) (h:Zc):Prop :=
 newC h [.int .u8 v.1,.string v.2.1,.slice v.2.2.1.ptr v.2.2.1.len v.2.2.1.cap,.slice v.2.2.2.1.ptr v.2.2.2.1.len v.2.2.2.1.cap] 33 fun b h1 =>
 ldS h1 b (0+1) fun t =>
 ldL h1 b (0+2) fun t2 =>
 ldL h1 b (0+3) fun t3 =>
 ZD (!(Za0 t (ByteArray.mk #[]))) fun text =>
 ZD (decide ((t2.len:Int)>0)) fun list =>
 ZD (decide ((t3.len:Int)>0)) fun names =>
 ldI h1 b 0 .u8 fun t4 =>
 ZbG (σ:=Bool × Unit) (fun s h9 =>
 (fun (s19:Bool) =>
 Zs s19 (
 Zs (!text) (
 Zs (!list) (
 ZD (!names) fun t10 =>
 K t10 h9) (
 K false h9)) (
 K false h9)) (
 ZD (t4 ==4) fun t11 =>
 Zs t11 (
 ldS h9 b (0+1) fun t12 =>
 f47 t12 (fun t13 h14 =>
 Zs t13 (
 Zs (!list) (
 ZD (!names) fun t15 =>
 K t15 h14) (
 K false h14)) (
 K false h14)) h9) (
 ZD (t4 ==5) fun t16 =>
 Zs t16 (
 ldS h9 b (0+1) fun t17 =>
 f15 t17 (fun t18 h19 =>
 Zs t18 (
 Zs (!list) (
 ZD (!names) fun t20 =>
 K t20 h19) (
 K false h19)) (
 K false h19)) h9) (
 ZD (t4 ==6) fun t21 =>
 Zs t21 (
 Zs (!text) (
 ZD (!names) fun t22 =>
 K t22 h9) (
 K false h9)) (
 ZD (t4 ==7) fun t23 =>
 Zs t23 (
 Zs (!text) (
 ldL h9 b (0+3) fun t24 =>
 ldL h9 b (0+2) fun t25 =>
 Zs ((t24.len:Int) ==(t25.len:Int)) (
 ldL h9 b (0+3) fun t26 =>
 f50 t26 (fun t27 h28 =>
 ZD (!t27) fun t29 =>
 K t29 h28) h9) (
 K false h9)) (
 K false h9)) (
 K false h9)))))) s.1) (fun J5 =>
 ZD (t4 ==1) fun t6 =>
 Zs t6 (
 J5 (t6,()) h1) (
 ZD (t4 ==2) fun t7 =>
 Zs t7 (
 J5 (t7,()) h1) (
 ZD (t4 ==3) fun t8 =>
 J5 (t8,()) h1)))
def ZcU:Zu8:=ZeQ Za8 ZL ZE
abbrev Zu7:=(Int × ByteArray × Sl × Sl × Unit)→(Bool→HP)→HP
def ZdG (a0:Int × ByteArray × Sl × Sl × Unit) (K:Bool→HP) (h:Zc):Prop :=
 newC h [.int .u8 a0.1,.string a0.2.1,.slice a0.2.2.1.ptr a0.2.2.1.len a0.2.2.1.cap,.slice a0.2.2.2.1.ptr a0.2.2.2.1.len a0.2.2.2.1.cap] 33 fun b h1 =>
 K true h1
def ZcP:Zu7:=ZdG
abbrev Zhv:=(Option Addr)→(Int × ByteArray × Sl × Sl × Unit)→Int→Value→(Bool→HP)→HP
abbrev Zu6:=(Int × ByteArray × Sl × Sl × Unit)→(Option Addr)→(Option Addr)→(Option Addr)→(Bool→HP)→HP
def ZbZ (f53:Zhv) (p:Int × ByteArray × Sl × Sl × Unit) (a1:Option Addr) (a2:Option Addr) (a3:Option Addr) (K:Bool→HP) (h:Zc):Prop :=
 newC h [.int .u8 p.1,.string p.2.1,.slice p.2.2.1.ptr p.2.2.1.len p.2.2.1.cap,.slice p.2.2.2.1.ptr p.2.2.2.1.len p.2.2.2.1.cap] 33 fun b h1 =>
 Zb a1 fun b2 o=>ldP h1 b2 o fun t =>
 ldI h1 b 0 .u8 fun t3=>ldS h1 b (0+1) fun t4=>ldL h1 b (0+2) fun t5=>ldL h1 b (0+3) fun t6 =>
 Zb a2 fun b7 o8=>ldI h1 b7 o8 .i64 fun t9 =>
 Zb a3 fun b10 o11=>ldV h1 b10 o11 fun t12 =>
 f53 t (t3,t4,t5,t6,()) (IntKind.wrap .i64 (t9+1)) t12 (fun t13 h14 =>
 ZD (!t13) fun t15 =>
 K t15 h14) h1
def ZaA (f53:Zhv):Zu6:=ZbZ f53
abbrev Zu5:=Sl→(Option Addr × Option Addr × Option Addr × Unit)→(Int→HP)→HP
def ZT (f54:Zu6) (s:Sl) (f:Option Addr × Option Addr × Option Addr × Unit) (K:Int→HP) (h:Zc):Prop :=
 Zl 0 fun t =>
 Zau (σ:=Int × Unit) (fun J1 s2 h3 =>
 (fun (s8:Int) =>
 Zs (decide (s8<(s.len:Int))) (
 Zl s8 fun i =>
 Zd6 s.ptr s.len i 4 fun b o =>
 ldI h3 b o .u8 fun t4=>ldS h3 b (o+1) fun t5=>ldL h3 b (o+2) fun t6=>ldL h3 b (o+3) fun t7 =>
 f54 (t4,t5,t6,t7,()) f.1 f.2.1 f.2.2.1 (fun t8 h9 =>
 Zs t8 (
 Zl i fun t10 =>
 K t10 h9) (
 J1 (IntKind.wrap .i64 (s8+1),()) h9)) h3) (
 Zl (-1) fun t11 =>
 K t11 h3)) s2.1) (0,()) h
def ZH (f53:Zhv):Zu5:=ZT (ZaA f53)
abbrev Zu4:=Sl→(Option Addr × Option Addr × Option Addr × Unit)→(Bool→HP)→HP
def ZP (f55:Zu5) (s:Sl) (f:Option Addr × Option Addr × Option Addr × Unit) (K:Bool→HP) (h:Zc):Prop :=
 f55 s (f.1,f.2.1,f.2.2.1,()) (fun t h1 =>
 ZD (decide (t≥0)) fun t2 =>
 K t2 h1) h
def Zw (f53:Zhv):Zu4:=ZP (ZH f53)
def ZcG (f51:Zu8) (f52:Zu7) (f56:Zu4) (c:Option Addr) (v:Int × ByteArray × Sl × Sl × Unit) (deep:Int) (right:Value) (K:Bool→HP) (h:Zc):Prop :=
 newC h [.pointer c] 155 fun b h1 =>
 newC h1 [.int .u8 v.1,.string v.2.1,.slice v.2.2.1.ptr v.2.2.1.len v.2.2.1.cap,.slice v.2.2.2.1.ptr v.2.2.2.1.len v.2.2.2.1.cap] 33 fun b2 h3 =>
 newC h3 [.int .i64 deep] 3 fun b4 h5 =>
 ZaY (Yd right=true) <| newC h5 [right] 45 fun b6 h7 =>
 ldP h7 b 0 fun t =>
 Zb t fun b8 o =>
 ldI h7 b8 o .i64 fun t9 =>
 Zb t fun b10 o11 =>
 st h7 b10 o11 (.int .i64 (IntKind.wrap .i64 (t9+1))) fun h12 =>
 ldP h12 b 0 fun t13 =>
 Zb t13 fun b14 o15 =>
 ldI h12 b14 o15 .i64 fun t16 =>
 Zs (decide (t16>65536)) (
 K false h12) (
 ldV h12 b6 0 fun t17 =>
 ldI h12 b2 0 .u8 fun t18=>ldS h12 b2 (0+1) fun t19=>ldL h12 b2 (0+2) fun t20=>ldL h12 b2 (0+3) fun t21 =>
 (Zyv t17 94 <| f51 (t18,t19,t20,t21,()) (fun t24 h22 =>
 Zs (!t24) (
 K false h22) (
 ZbG (σ:=Unit) (fun s h29 =>
 ldP h29 b 0 fun t30 =>
 ldP h29 b 0 fun t31 =>
 Zb t31 fun b32 o33 =>
 ldI h29 b32 (o33+1) .i64 fun t34 =>
 ldI h29 b4 0 .i64 fun t35 =>
 Zb t30 fun b36 o37 =>
 st h29 b36 (o37+1) (.int .i64 (Zs7 t34 (IntKind.wrap .i64 (t35+1)))) fun h38 =>
 ldI h38 b4 0 .i64 fun t39 =>
 Zs (decide (t39≥64)) (
 K true h38) (
 ldL h38 b2 (0+2) fun t40 =>
 f56 t40 (some ⟨b,0,none⟩,some ⟨b4,0,none⟩,some ⟨b6,0,none⟩,()) (fun t41 h42 =>
 ZD (!t41) fun t43 =>
 K t43 h42) h38)) (fun J26 =>
 ldI h22 b2 0 .u8 fun t27 =>
 Zs (t27 !=6) (
 ldI h22 b2 0 .u8 fun t28 =>
 Zs (t28 !=7) (
 K true h22) (
 J26 (()) h22)) (
 J26 (()) h22)))) h12)∨(
 (Zyv t17 119 <| f52 (t18,t19,t20,t21,()) (fun t24 h22 =>
 Zs (!t24) (
 K false h22) (
 ZbG (σ:=Unit) (fun s h29 =>
 ldP h29 b 0 fun t30 =>
 ldP h29 b 0 fun t31 =>
 Zb t31 fun b32 o33 =>
 ldI h29 b32 (o33+1) .i64 fun t34 =>
 ldI h29 b4 0 .i64 fun t35 =>
 Zb t30 fun b36 o37 =>
 st h29 b36 (o37+1) (.int .i64 (Zs7 t34 (IntKind.wrap .i64 (t35+1)))) fun h38 =>
 ldI h38 b4 0 .i64 fun t39 =>
 Zs (decide (t39≥64)) (
 K true h38) (
 ldL h38 b2 (0+2) fun t40 =>
 f56 t40 (some ⟨b,0,none⟩,some ⟨b4,0,none⟩,some ⟨b6,0,none⟩,()) (fun t41 h42 =>
 ZD (!t41) fun t43 =>
 K t43 h42) h38)) (fun J26 =>
 ldI h22 b2 0 .u8 fun t27 =>
 Zs (t27 !=6) (
 ldI h22 b2 0 .u8 fun t28 =>
 Zs (t28 !=7) (
 K true h22) (
 J26 (()) h22)) (
 J26 (()) h22)))) h12)∨(
 False)))
def Zbq (f53:Zhv):Zhv:=ZcG ZcU ZcP (Zw f53)
def Xe:Nat→Zhv
 | 0=>fun _ _ _ _ _ _=>False
 | n+1=>Zbq (Xe n)
def Zat:Zhv:=fun c v deep right K h=>∃ n,Xe n c v deep right K h
abbrev Zm7:=(Int × ByteArray × Sl × Sl × Unit)→(Bool→HP)→HP
def ZeU (f53:Zhv) (v:Int × ByteArray × Sl × Sl × Unit) (K:Bool→HP) (h:Zc):Prop :=
 newC h [.int .u8 v.1,.string v.2.1,.slice v.2.2.1.ptr v.2.2.1.len v.2.2.1.cap,.slice v.2.2.2.1.ptr v.2.2.2.1.len v.2.2.2.1.cap] 33 fun b h1 =>
 newC h1 [.int .i64 0,.int .i64 0] 157 fun b2 h3 =>
 ldI h3 b 0 .u8 fun t=>ldS h3 b (0+1) fun t4=>ldL h3 b (0+2) fun t5=>ldL h3 b (0+3) fun t6 =>
 f53 (some ⟨b2,0,none⟩) (t,t4,t5,t6,()) 0 (.func (.func 94) #[] #[]) (fun t7 h8 =>
 Zs t7 (
 ldI h8 b2 (0+1) .i64 fun t9 =>
 ZD (decide (t9≤64)) fun t10 =>
 K t10 h8) (
 K false h8)) h3
def Xl:Zm7:=ZeU Zat
abbrev ZsL:=(Option Addr)→(Int→HP)→HP
def Zba (b:Option Addr) (K:Int→HP) (h:Zc):Prop :=
 Zl 0 fun t =>
 Zb b fun b1 o =>
 ldL h b1 (o+1) fun t2 =>
 Zl (t2.len:Int) fun t3 =>
 K t3 h
def YB:ZsL:=Zba
abbrev Zu3:=(Option Addr)→ByteArray→(HP)→HP
def Zco (f6:zT6) (f0:zT0) (f17:Zpd) (w:Option Addr) (s:ByteArray) (K:HP) (h:Zc):Prop :=
 Zb w fun b o =>
 f6 (some ⟨b,o,none⟩) 34 (fun t h1 =>
 Zau (σ:=Int × Unit) (fun J2 s3 h4 =>
 (fun (s13:Int) =>
 Zs (decide (s13<(s.size:Int))) (
 Zl s13 fun i =>
 ZiO s i fun t5 =>
 Zl t5 fun c =>
 f0 (ByteArray.mk #[8,12,10,13,9]) c (fun t6 h7 =>
 Zl t6 fun k =>
 ZbG (σ:=Bool × Unit) (fun s10 h11 =>
 (fun (s26:Bool) =>
 Zs s26 (
 Zb w fun b12 o13 =>
 f6 (some ⟨b12,o13,none⟩) 92 (fun t14 h15 =>
 Zb w fun b16 o17 =>
 f6 (some ⟨b16,o17,none⟩) c (fun t18 h19 =>
 J2 (IntKind.wrap .i64 (s13+1),()) h19) h15) h11) (
 ZD (decide (k≥0)) fun t20 =>
 Zs t20 (
 Zb w fun b21 o22 =>
 f6 (some ⟨b21,o22,none⟩) 92 (fun t23 h24 =>
 Zb w fun b25 o26 =>
 ZiO (ByteArray.mk #[98,102,110,114,116]) k fun t27 =>
 f6 (some ⟨b25,o26,none⟩) t27 (fun t28 h29 =>
 J2 (IntKind.wrap .i64 (s13+1),()) h29) h24) h11) (
 ZD (decide (c<32)) fun t30 =>
 Zs t30 (
 Zb w fun b31 o32 =>
 f17 (some ⟨b31,o32,none⟩) (ByteArray.mk #[92,117,48,48]) (fun t33 t34 h35 =>
 Zb w fun b36 o37 =>
 ZaY (0≤(4:Int)) <|
 ZiO (ByteArray.mk #[48,49,50,51,52,53,54,55,56,57,97,98,99,100,101,102]) (ZhO .u8 c 4) fun t38 =>
 f6 (some ⟨b36,o37,none⟩) t38 (fun t39 h40 =>
 Zb w fun b41 o42 =>
 ZiO (ByteArray.mk #[48,49,50,51,52,53,54,55,56,57,97,98,99,100,101,102]) (Zht .u8 c 15) fun t43 =>
 f6 (some ⟨b41,o42,none⟩) t43 (fun t44 h45 =>
 J2 (IntKind.wrap .i64 (s13+1),()) h45) h40) h35) h11) (
 Zb w fun b46 o47 =>
 f6 (some ⟨b46,o47,none⟩) c (fun t48 h49 =>
 J2 (IntKind.wrap .i64 (s13+1),()) h49) h11)))) s10.1) (fun J8 =>
 Zs (c ==34) (
 J8 (true,()) h7) (
 ZD (c ==92) fun t9 =>
 J8 (t9,()) h7))) h4) (
 Zb w fun b50 o51 =>
 f6 (some ⟨b50,o51,none⟩) 34 (fun t52 h53 =>
 K h53) h4)) s3.1) (0,()) h1) h
def X9:Zu3:=Zco ZA Yz Zz
abbrev Zm6:=(Option Addr)→(Int × ByteArray × Sl × Sl × Unit)→(HP)→HP
def ZbW (f58:ZsL) (f17:Zpd) (f59:Zu3) (f6:zT6) (f60:Zm6) (w:Option Addr) (v:Int × ByteArray × Sl × Sl × Unit) (K:HP) (h:Zc):Prop :=
 newC h [.int .u8 v.1,.string v.2.1,.slice v.2.2.1.ptr v.2.2.1.len v.2.2.1.cap,.slice v.2.2.2.1.ptr v.2.2.2.1.len v.2.2.2.1.cap] 33 fun b h1 =>
 Zb w fun b2 o =>
 f58 (some ⟨b2,o,none⟩) (fun t h3 =>
 Zs (decide (t>65536)) (
 K h3) (
 ldI h3 b 0 .u8 fun t4 =>
 ZD (t4 ==1) fun t5 =>
 Zs t5 (
 Zb w fun b6 o7 =>
 f17 (some ⟨b6,o7,none⟩) (ByteArray.mk #[110,117,108,108]) (fun t8 t9 h10 =>
 K h10) h3) (
 ZD (t4 ==2) fun t11 =>
 Zs t11 (
 Zb w fun b12 o13 =>
 f17 (some ⟨b12,o13,none⟩) (ByteArray.mk #[102,97,108,115,101]) (fun t14 t15 h16 =>
 K h16) h3) (
 ZD (t4 ==3) fun t17 =>
 Zs t17 (
 Zb w fun b18 o19 =>
 f17 (some ⟨b18,o19,none⟩) (ByteArray.mk #[116,114,117,101]) (fun t20 t21 h22 =>
 K h22) h3) (
 ZD (t4 ==4) fun t23 =>
 Zs t23 (
 Zb w fun b24 o25 =>
 ldS h3 b (0+1) fun t26 =>
 f17 (some ⟨b24,o25,none⟩) t26 (fun t27 t28 h29 =>
 K h29) h3) (
 ZD (t4 ==5) fun t30 =>
 Zs t30 (
 ldS h3 b (0+1) fun t31 =>
 f59 w t31 (fun h32 =>
 K h32) h3) (
 ZbG (σ:=ByteArray × Unit) (fun s h35 =>
 (fun (ends:ByteArray) =>
 Zb w fun b36 o37 =>
 ZiO ends 0 fun t38 =>
 f6 (some ⟨b36,o37,none⟩) t38 (fun t39 h40 =>
 ldL h40 b (0+2) fun t41 =>
 Zau (σ:=Int × Unit) (fun J42 s43 h44 =>
 (fun (s26:Int) =>
 Zs (decide (s26<(t41.len:Int))) (
 Zd6 t41.ptr t41.len s26 4 fun b45 o46 =>
 ldI h44 b45 o46 .u8 fun t47=>ldS h44 b45 (o46+1) fun t48=>ldL h44 b45 (o46+2) fun t49=>ldL h44 b45 (o46+3) fun t50 =>
 newC h44 [.int .u8 0,.string (ByteArray.mk #[]),.slice none 0 0,.slice none 0 0] 33 fun b51 h52 =>
 Zl s26 fun i =>
 sts h52 b51 0 [.int .u8 t47,.string t48,.slice t49.ptr t49.len t49.cap,.slice t50.ptr t50.len t50.cap] fun h53 =>
 ZbG (σ:=Unit) (fun s59 h60 =>
 ZbG (σ:=Unit) (fun s72 h73 =>
 ldI h73 b51 0 .u8 fun t74=>ldS h73 b51 (0+1) fun t75=>ldL h73 b51 (0+2) fun t76=>ldL h73 b51 (0+3) fun t77 =>
 f60 w (t74,t75,t76,t77,()) (fun h78 =>
 J42 (IntKind.wrap .i64 (s26+1),()) h78) h73) (fun J61 =>
 ldI h60 b 0 .u8 fun t62 =>
 Zs (t62 ==7) (
 ldL h60 b (0+3) fun t63 =>
 Zd6 t63.ptr t63.len i 1 fun b64 o65 =>
 ldS h60 b64 o65 fun t66 =>
 f59 w t66 (fun h67 =>
 Zb w fun b68 o69 =>
 f6 (some ⟨b68,o69,none⟩) 58 (fun t70 h71 =>
 J61 (()) h71) h67) h60) (
 J61 (()) h60))) (fun J54 =>
 Zs (decide (i>0)) (
 Zb w fun b55 o56 =>
 f6 (some ⟨b55,o56,none⟩) 44 (fun t57 h58 =>
 J54 (()) h58) h53) (
 J54 (()) h53))) (
 Zb w fun b79 o80 =>
 ZiO ends 1 fun t81 =>
 f6 (some ⟨b79,o80,none⟩) t81 (fun t82 h83 =>
 K h83) h44)) s43.1) (0,()) h40) h35) s.1) (fun J33 =>
 ldI h3 b 0 .u8 fun t34 =>
 Zs (t34 ==7) (
 J33 (ByteArray.mk #[123,125],()) h3) (
 J33 (ByteArray.mk #[91,93],()) h3))))))))) h1
def Zay (f60:Zm6):Zm6:=ZbW YB Zz X9 ZA f60
def YP:Nat→Zm6
 | 0=>fun _ _ _ _=>False
 | n+1=>Zay (YP n)
def ZbS:Zm6:=fun w v K h=>∃ n,YP n w v K h
abbrev Zpc:=(Int × ByteArray × Sl × Sl × Unit)→(ByteArray→Int→HP)→HP
def ZeV (f57:Zm7) (f60:Zm6) (f58:ZsL) (f4:zT4) (v:Int × ByteArray × Sl × Sl × Unit) (K:ByteArray→Int→HP) (h:Zc):Prop :=
 newC h [.int .u8 v.1,.string v.2.1,.slice v.2.2.1.ptr v.2.2.1.len v.2.2.1.cap,.slice v.2.2.2.1.ptr v.2.2.2.1.len v.2.2.2.1.cap] 33 fun b h1 =>
 Zl 0 fun t =>
 ldI h1 b 0 .u8 fun t2=>ldS h1 b (0+1) fun t3=>ldL h1 b (0+2) fun t4=>ldL h1 b (0+3) fun t5 =>
 f57 (t2,t3,t4,t5,()) (fun t6 h7 =>
 Zs (!t6) (
 Zl 6 fun t8 =>
 K (ByteArray.mk #[]) t8 h7) (
 newC h7 [.pointer none,.slice none 0 0] 190 fun b9 h10 =>
 ldI h10 b 0 .u8 fun t11=>ldS h10 b (0+1) fun t12=>ldL h10 b (0+2) fun t13=>ldL h10 b (0+3) fun t14 =>
 f60 (some ⟨b9,0,none⟩) (t11,t12,t13,t14,()) (fun h15 =>
 f58 (some ⟨b9,0,none⟩) (fun t16 h17 =>
 Zs (decide (t16>65536)) (
 Zl 5 fun t18 =>
 K (ByteArray.mk #[]) t18 h17) (
 f4 (some ⟨b9,0,none⟩) (fun t19 h20 =>
 Zl 0 fun t21 =>
 K t19 t21 h20) h17)) h15) h10)) h1
def Zab:Zpc:=ZeV Xl ZbS YB Yt
abbrev Zya:=Int→(ByteArray→HP)→HP
abbrev Zu2:=Int→((Int × ByteArray × Sl × Sl × Unit)→HP)→HP
def ZeW (f62:Zya) (n:Int) (K:(Int × ByteArray × Sl × Sl × Unit)→HP) (h:Zc):Prop :=
 newC h [.int .u8 0,.string (ByteArray.mk #[]),.slice none 0 0,.slice none 0 0] 33 fun b h1 =>
 f62 n (fun t h2 =>
 sts h2 b 0 [.int .u8 4,.string t,.slice none 0 0,.slice none 0 0] fun h3 =>
 ldI h3 b 0 .u8 fun t4=>ldS h3 b (0+1) fun t5=>ldL h3 b (0+2) fun t6=>ldL h3 b (0+3) fun t7=>K (t4,t5,t6,t7,()) h3) h1
def ZcW:Zu2:=ZeW ZdE
abbrev Zu1:=ByteArray→ByteArray→(ByteArray→Bool→HP)→HP
def Y9 (f8:zT8) (s:ByteArray) (prefix_:ByteArray) (K:ByteArray→Bool→HP) (h:Zc):Prop :=
 f8 s prefix_ (fun t h1 =>
 Zs (!t) (
 K s false h1) (
 Zlg s (prefix_.size:Int) s.size fun t2 =>
 K t2 true h1)) h
def Yw:Zu1:=Y9 ZC
abbrev Zu0:=ByteArray→ByteArray→(ByteArray→Bool→HP)→HP
def ZbU (f64:Zu1) (s:ByteArray) (prefix_:ByteArray) (K:ByteArray→Bool→HP) (h:Zc):Prop :=
 f64 s prefix_ (fun t t1 h2 =>
 ZD t1 fun found =>
 K t found h2) h
def XO:Zu0:=ZbU Yw
abbrev ZuZ:=ByteArray→ByteArray→(ByteArray→HP)→HP
def Y4 (f8:zT8) (s:ByteArray) (prefix_:ByteArray) (K:ByteArray→HP) (h:Zc):Prop :=
 f8 s prefix_ (fun t h1 =>
 Zs t (
 Zlg s (prefix_.size:Int) s.size fun t2 =>
 K t2 h1) (
 K s h1)) h
def Ys:ZuZ:=Y4 ZC
abbrev ZuY:=ByteArray→ByteArray→(ByteArray→HP)→HP
def Zby (f70:ZuZ) (s:ByteArray) (prefix_:ByteArray) (K:ByteArray→HP) (h:Zc):Prop :=
 f70 s prefix_ (fun t h1 =>
 K t h1) h
def Xz:ZuY:=Zby Ys
abbrev Zuy:=ByteArray→(Int→Value→HP)→HP
abbrev ZuX:=ByteArray→(Int→Bool→HP)→HP
def Zdp (f71:ZuY) (f72:Zuy) (s:ByteArray) (K:Int→Bool→HP) (h:Zc):Prop :=
 Zl 0 fun t =>
 Zs (Za0 s (ByteArray.mk #[])) (
 Zl 0 fun t1 =>
 K t1 true h) (
 f71 s (ByteArray.mk #[43]) (fun t2 h3 =>
 f72 t2 (fun t4 t5 h6 =>
 Zl t4 fun n =>
 Zg0 t5 fun b =>
 Zs b (
 Zs (decide (n≥(-1048576))) (
 Zl n fun t7 =>
 ZD (decide (n≤1048576)) fun t8 =>
 K t7 t8 h6) (
 Zl n fun t9 =>
 K t9 false h6)) (
 Zl n fun t10 =>
 K t10 false h6)) h3) h)
def Za9:ZuX:=Zdp Xz Zah
abbrev Zx9:=ByteArray→(ByteArray→HP)→HP
abbrev Zx8:=ByteArray→ByteArray→(ByteArray→ByteArray→Bool→HP)→HP
abbrev Zx7:=ByteArray→ByteArray→(ByteArray→HP)→HP
abbrev Zx6:=ByteArray→ByteArray→(ByteArray→HP)→HP
abbrev Zx5:=ByteArray→Int→(ByteArray→HP)→HP
abbrev ZuW:=(Int × ByteArray × Sl × Sl × Unit)→(Int→Bool→HP)→HP
def ZeT (f57:Zm7) (f65:Zu0) (f66:Zx9) (f67:Zx8) (f68:Zx7) (f69:Zx6) (f73:ZuX) (f74:Zx5) (f72:Zuy) (v:Int × ByteArray × Sl × Sl × Unit) (K:Int→Bool→HP) (h:Zc):Prop :=
 newC h [.int .u8 v.1,.string v.2.1,.slice v.2.2.1.ptr v.2.2.1.len v.2.2.1.cap,.slice v.2.2.2.1.ptr v.2.2.2.1.len v.2.2.2.1.cap] 33 fun b h1 =>
 Zl 0 fun t =>
 ldI h1 b 0 .u8 fun t2 =>
 Zs (t2 !=4) (
 Zl 0 fun t3 =>
 K t3 false h1) (
 ldI h1 b 0 .u8 fun t4=>ldS h1 b (0+1) fun t5=>ldL h1 b (0+2) fun t6=>ldL h1 b (0+3) fun t7 =>
 f57 (t4,t5,t6,t7,()) (fun t8 h9 =>
 Zs (!t8) (
 Zl 0 fun t10 =>
 K t10 false h9) (
 ldS h9 b (0+1) fun t11 =>
 f65 t11 (ByteArray.mk #[45]) (fun t12 t13 h14 =>
 ZD t13 fun below =>
 f66 t12 (fun t15 h16 =>
 f67 t15 (ByteArray.mk #[101]) (fun t17 t18 t19 h20 =>
 ZD t19 fun x =>
 f67 t17 (ByteArray.mk #[46]) (fun t21 t22 t23 h24 =>
 ZD t23 fun x25 =>
 Zi9 t21 t22 fun s =>
 f68 s (ByteArray.mk #[48]) (fun t26 h27 =>
 f69 t26 (ByteArray.mk #[48]) (fun t28 h29 =>
 f69 t26 (ByteArray.mk #[48]) (fun t30 h31 =>
 Zl (IntKind.wrap .i64 ((t26.size:Int) - (t30.size:Int))) fun zeros =>
 Zs (Za0 t28 (ByteArray.mk #[])) (
 Zl 0 fun t32 =>
 K t32 true h31) (
 f73 t18 (fun t33 t34 h35 =>
 Zl t33 fun by_ =>
 ZD t34 fun ok =>
 Zs (!ok) (
 Zl 0 fun t36 =>
 K t36 false h35) (
 Zl (IntKind.wrap .i64 (by_+(IntKind.wrap .i64 (zeros - (t22.size:Int))))) fun by_37 =>
 Zs (decide (by_37<0)) (
 Zl 0 fun t38 =>
 K t38 false h35) (
 Zs (decide (by_37>20)) (
 Zl 0 fun t39 =>
 K t39 false h35) (
 f74 (ByteArray.mk #[48]) by_37 (fun t40 h41 =>
 Zi9 t28 t40 fun s42 =>
 ZbG (σ:=ByteArray × Unit) (fun s45 h46 =>
 (fun (digits:ByteArray) =>
 f72 digits (fun t47 t48 h49 =>
 Zl t47 fun n =>
 Zg0 t48 fun b50 =>
 Zs (!b50) (
 Zl 0 fun t51 =>
 K t51 false h49) (
 Zl n fun t52 =>
 K t52 true h49)) h46) s45.1) (fun J43 =>
 Zs below (
 Zi9 (ByteArray.mk #[45]) s42 fun s44 =>
 J43 (s44,()) h41) (
 J43 (s42,()) h41))) h35)))) h31)) h29) h27) h24) h20) h16) h14) h9)) h1)
def ZcV:ZuW:=ZeT Xl XO ZcD Zcj Zci ZaB Za9 ZcZ Zah
abbrev Zn9:=(Int × ByteArray × Sl × Sl × Unit)→Int→(Int→HP)→HP
def Zd8 (f76:Zn9) (v:Int × ByteArray × Sl × Sl × Unit) (most:Int) (K:Int→HP) (h:Zc):Prop :=
 newC h [.int .u8 v.1,.string v.2.1,.slice v.2.2.1.ptr v.2.2.1.len v.2.2.1.cap,.slice v.2.2.2.1.ptr v.2.2.2.1.len v.2.2.2.1.cap] 33 fun b h1 =>
 Zl 0 fun t =>
 Zl 1 fun n =>
 ldL h1 b (0+2) fun t2 =>
 Zau (σ:=Int × Int × Unit) (fun J4 s h5 =>
 (fun (n3:Int) (s11:Int) =>
 Zs (decide (s11<(t2.len:Int))) (
 Zd6 t2.ptr t2.len s11 4 fun b6 o =>
 ldI h5 b6 o .u8 fun t7=>ldS h5 b6 (o+1) fun t8=>ldL h5 b6 (o+2) fun t9=>ldL h5 b6 (o+3) fun t10 =>
 newC h5 [.int .u8 0,.string (ByteArray.mk #[]),.slice none 0 0,.slice none 0 0] 33 fun b11 h12 =>
 sts h12 b11 0 [.int .u8 t7,.string t8,.slice t9.ptr t9.len t9.cap,.slice t10.ptr t10.len t10.cap] fun h13 =>
 Zs (decide (n3>most)) (
 Zl n3 fun t14 =>
 K t14 h13) (
 ldI h13 b11 0 .u8 fun t15=>ldS h13 b11 (0+1) fun t16=>ldL h13 b11 (0+2) fun t17=>ldL h13 b11 (0+3) fun t18 =>
 f76 (t15,t16,t17,t18,()) (IntKind.wrap .i64 (most - n3)) (fun t19 h20 =>
 Zl (IntKind.wrap .i64 (n3+t19)) fun n21 =>
 J4 (n21,IntKind.wrap .i64 (s11+1),()) h20) h13)) (
 Zl n3 fun t22 =>
 K t22 h5)) s.1 s.2.1) (n,0,()) h1
def Zc3 (f76:Zn9):Zn9:=Zd8 f76
def Zar:Nat→Zn9
 | 0=>fun _ _ _ _=>False
 | n+1=>Zc3 (Zar n)
def Zd3:Zn9:=fun v most K h=>∃ n,Zar n v most K h
abbrev ZsK:=(Int × ByteArray × Sl × Sl × Unit)→(Bool→HP)→HP
def ZeR (f76:Zn9) (v:Int × ByteArray × Sl × Sl × Unit) (K:Bool→HP) (h:Zc):Prop :=
 newC h [.int .u8 v.1,.string v.2.1,.slice v.2.2.1.ptr v.2.2.1.len v.2.2.1.cap,.slice v.2.2.2.1.ptr v.2.2.2.1.len v.2.2.2.1.cap] 33 fun b h1 =>
 ldI h1 b 0 .u8 fun t=>ldS h1 b (0+1) fun t2=>ldL h1 b (0+2) fun t3=>ldL h1 b (0+3) fun t4 =>
 f76 (t,t2,t3,t4,()) 65536 (fun t5 h6 =>
 ZD (decide (t5≤65536)) fun t7 =>
 K t7 h6) h1
def Za7:ZsK:=ZeR Zd3
abbrev Zpb:=(Int × ByteArray × Sl × Sl × Unit)→(Int→HP)→HP
def ZeY (f77:ZsK) (f53:Zhv) (v:Int × ByteArray × Sl × Sl × Unit) (K:Int→HP) (h:Zc):Prop :=
 newC h [.int .u8 v.1,.string v.2.1,.slice v.2.2.1.ptr v.2.2.1.len v.2.2.1.cap,.slice v.2.2.2.1.ptr v.2.2.2.1.len v.2.2.2.1.cap] 33 fun b h1 =>
 Zl 0 fun t =>
 newC h1 [.int .i64 0,.int .i64 0] 157 fun b2 h3 =>
 ldI h3 b 0 .u8 fun t4=>ldS h3 b (0+1) fun t5=>ldL h3 b (0+2) fun t6=>ldL h3 b (0+3) fun t7 =>
 f77 (t4,t5,t6,t7,()) (fun t8 h9 =>
 Zs (!t8) (
 Zl 0 fun t10 =>
 K t10 h9) (
 ldI h9 b 0 .u8 fun t11=>ldS h9 b (0+1) fun t12=>ldL h9 b (0+2) fun t13=>ldL h9 b (0+3) fun t14 =>
 f53 (some ⟨b2,0,none⟩) (t11,t12,t13,t14,()) 0 (.func (.func 119) #[] #[]) (fun t15 h16 =>
 Zs (!t15) (
 Zl 0 fun t17 =>
 K t17 h16) (
 ldI h16 b2 (0+1) .i64 fun t18 =>
 Zl t18 fun t19 =>
 K t19 h16)) h9)) h3
def Zac:Zpb:=ZeY Za7 Zat
abbrev ZsJ:=(Bool→HP)→HP
def ZbA (f26:Ztx) (f61:Zpc) (f63:Zu2) (f75:ZuW) (f78:Zpb) (K:Bool→HP) (h:Zc):Prop :=
 f26 (ByteArray.mk #[91,49,44,32,34,97,92,117,48,48,52,49,34,44,32,123,34,98,34,58,32,110,117,108,108,125,93]) (fun t t1 t2 h3 =>
 newC h3 [.int .u8 0,.string (ByteArray.mk #[]),.slice none 0 0,.slice none 0 0] 33 fun b h4 =>
 sts h4 b 0 [.int .u8 t.1,.string t.2.1,.slice t.2.2.1.ptr t.2.2.1.len t.2.2.1.cap,.slice t.2.2.2.1.ptr t.2.2.2.1.len t.2.2.2.1.cap] fun h5 =>
 Zl t1 fun e =>
 Zl t2 fun x =>
 ldI h5 b 0 .u8 fun t6=>ldS h5 b (0+1) fun t7=>ldL h5 b (0+2) fun t8=>ldL h5 b (0+3) fun t9 =>
 f61 (t6,t7,t8,t9,()) (fun t10 t11 h12 =>
 Zl t11 fun f =>
 f26 (ByteArray.mk #[91,49,44,93]) (fun t13 t14 t15 h16 =>
 newC h16 [.int .u8 0,.string (ByteArray.mk #[]),.slice none 0 0,.slice none 0 0] 33 fun b17 h18 =>
 sts h18 b17 0 [.int .u8 t13.1,.string t13.2.1,.slice t13.2.2.1.ptr t13.2.2.1.len t13.2.2.1.cap,.slice t13.2.2.2.1.ptr t13.2.2.2.1.len t13.2.2.2.1.cap] fun h19 =>
 Zl t14 fun g =>
 Zl t15 fun at_ =>
 f63 (-7) (fun t20 h21 =>
 f75 (t20.1,t20.2.1,⟨t20.2.2.1.ptr,t20.2.2.1.len,t20.2.2.1.cap⟩,⟨t20.2.2.2.1.ptr,t20.2.2.2.1.len,t20.2.2.2.1.cap⟩,()) (fun t22 t23 h24 =>
 Zl t22 fun n =>
 ZD t23 fun ok =>
 Zs (e ==0) (
 Zs (f ==0) (
 Zs (Za0 t10 (ByteArray.mk #[91,49,44,34,97,65,34,44,123,34,98,34,58,110,117,108,108,125,93])) (
 Zs (g ==20) (
 Zs (at_ ==3) (
 Zs ok (
 Zs (n ==(-7)) (
 ldI h24 b 0 .u8 fun t25=>ldS h24 b (0+1) fun t26=>ldL h24 b (0+2) fun t27=>ldL h24 b (0+3) fun t28 =>
 f78 (t25,t26,t27,t28,()) (fun t29 h30 =>
 ZD (t29 ==2) fun t31 =>
 K t31 h30) h24) (
 K false h24)) (
 K false h24)) (
 K false h24)) (
 K false h24)) (
 K false h24)) (
 K false h24)) (
 K false h24)) h21) h19) h12) h5) h
def YI:ZsJ:=ZbA XK Zab ZcW ZcV Zac
abbrev ZsI:=Sl→Sl→(Bool→HP)→HP
def ZaF (a:Sl) (b:Sl) (K:Bool→HP) (h:Zc):Prop :=
 Zs ((a.len:Int) !=(b.len:Int)) (
 K false h) (
 Zl 0 fun i =>
 Zau (σ:=Int × Unit) (fun J2 s h3 =>
 (fun (i1:Int) =>
 Zs (decide (i1<(a.len:Int))) (
 Zd6 a.ptr a.len i1 1 fun b4 o =>
 ldS h3 b4 o fun t =>
 Zd6 b.ptr b.len i1 1 fun b5 o6 =>
 ldS h3 b5 o6 fun t7 =>
 Zs (!(Za0 t t7)) (
 K false h3) (
 Zl (IntKind.wrap .i64 (i1+1)) fun i8 =>
 J2 (i8,()) h3)) (
 K true h3)) s.1) (i,()) h)
def Yg:ZsI:=ZaF
abbrev Zo3:=(Int × ByteArray × Sl × Sl × Unit)→(Int × ByteArray × Sl × Sl × Unit)→(Bool→HP)→HP
def ZaE (f80:ZsI) (f81:Zo3) (a:Int × ByteArray × Sl × Sl × Unit) (b:Int × ByteArray × Sl × Sl × Unit) (K:Bool→HP) (h:Zc):Prop :=
 newC h [.int .u8 a.1,.string a.2.1,.slice a.2.2.1.ptr a.2.2.1.len a.2.2.1.cap,.slice a.2.2.2.1.ptr a.2.2.2.1.len a.2.2.2.1.cap] 33 fun b1 h2 =>
 newC h2 [.int .u8 b.1,.string b.2.1,.slice b.2.2.1.ptr b.2.2.1.len b.2.2.1.cap,.slice b.2.2.2.1.ptr b.2.2.2.1.len b.2.2.2.1.cap] 33 fun b3 h4 =>
 ldI h4 b1 0 .u8 fun t =>
 ldI h4 b3 0 .u8 fun t5 =>
 Zs (t !=t5) (
 K false h4) (
 ldS h4 b1 (0+1) fun t6 =>
 ldS h4 b3 (0+1) fun t7 =>
 Zs (!(Za0 t6 t7)) (
 K false h4) (
 ldL h4 b1 (0+2) fun t8 =>
 ldL h4 b3 (0+2) fun t9 =>
 Zs ((t8.len:Int) !=(t9.len:Int)) (
 K false h4) (
 ldL h4 b1 (0+3) fun t10 =>
 ldL h4 b3 (0+3) fun t11 =>
 f80 t10 t11 (fun t12 h13 =>
 Zs (!t12) (
 K false h13) (
 Zl 0 fun i =>
 Zau (σ:=Int × Unit) (fun J15 s h16 =>
 (fun (i14:Int) =>
 ldL h16 b1 (0+2) fun t17 =>
 Zs (decide (i14<(t17.len:Int))) (
 ldL h16 b1 (0+2) fun t18 =>
 Zd6 t18.ptr t18.len i14 4 fun b19 o =>
 ldI h16 b19 o .u8 fun t20=>ldS h16 b19 (o+1) fun t21=>ldL h16 b19 (o+2) fun t22=>ldL h16 b19 (o+3) fun t23 =>
 ldL h16 b3 (0+2) fun t24 =>
 Zd6 t24.ptr t24.len i14 4 fun b25 o26 =>
 ldI h16 b25 o26 .u8 fun t27=>ldS h16 b25 (o26+1) fun t28=>ldL h16 b25 (o26+2) fun t29=>ldL h16 b25 (o26+3) fun t30 =>
 f81 (t20,t21,t22,t23,()) (t27,t28,t29,t30,()) (fun t31 h32 =>
 ZaY (Za1 h32 [(b3,0+2,.slice t24.ptr t24.len t24.cap)]) <|
 ZaY (Za1 h32 [(b1,0+2,.slice t18.ptr t18.len t18.cap)]) <|
 Zs (!t31) (
 K false h32) (
 Zl (IntKind.wrap .i64 (i14+1)) fun i33 =>
 J15 (i33,()) h32)) h16) (
 K true h16)) s.1) (i,()) h13)) h4)))
def Zax (f81:Zo3):Zo3:=ZaE Yg f81
def YL:Nat→Zo3
 | 0=>fun _ _ _ _=>False
 | n+1=>Zax (YL n)
def XH:Zo3:=fun a b K h=>∃ n,YL n a b K h
abbrev Zn8:=(Int × ByteArray × Sl × Sl × Unit)→Int→(Int→HP)→HP
def Zbf (f85:Zn8) (v:Int × ByteArray × Sl × Sl × Unit) (most:Int) (K:Int→HP) (h:Zc):Prop :=
 newC h [.int .u8 v.1,.string v.2.1,.slice v.2.2.1.ptr v.2.2.1.len v.2.2.1.cap,.slice v.2.2.2.1.ptr v.2.2.2.1.len v.2.2.2.1.cap] 33 fun b h1 =>
 Zl 0 fun t =>
 Zl 1 fun n =>
 Zl 0 fun i =>
 Zau (σ:=Int × Int × Unit) (fun J4 s h5 =>
 (fun (n2:Int) (i3:Int) =>
 ldL h5 b (0+2) fun t6 =>
 Zs (decide (i3<(t6.len:Int))) (
 Zs (decide (n2≤most)) (
 ldL h5 b (0+2) fun t7 =>
 Zd6 t7.ptr t7.len i3 4 fun b8 o =>
 ldI h5 b8 o .u8 fun t9=>ldS h5 b8 (o+1) fun t10=>ldL h5 b8 (o+2) fun t11=>ldL h5 b8 (o+3) fun t12 =>
 f85 (t9,t10,t11,t12,()) (IntKind.wrap .i64 (most - n2)) (fun t13 h14 =>
 Zl (IntKind.wrap .i64 (n2+t13)) fun n15 =>
 Zl (IntKind.wrap .i64 (i3+1)) fun i16 =>
 J4 (n15,i16,()) h14) h5) (
 Zl n2 fun t17 =>
 K t17 h5)) (
 Zl n2 fun t18 =>
 K t18 h5)) s.1 s.2.1) (n,i,()) h1
def X7 (f85:Zn8):Zn8:=Zbf f85
def YG:Nat→Zn8
 | 0=>fun _ _ _ _=>False
 | n+1=>X7 (YG n)
def Za6:Zn8:=fun v most K h=>∃ n,YG n v most K h
abbrev Zpa:=(Int × ByteArray × Sl × Sl × Unit)→(Bool→HP)→HP
def Zbj (f85:Zn8) (v:Int × ByteArray × Sl × Sl × Unit) (K:Bool→HP) (h:Zc):Prop :=
 newC h [.int .u8 v.1,.string v.2.1,.slice v.2.2.1.ptr v.2.2.1.len v.2.2.1.cap,.slice v.2.2.2.1.ptr v.2.2.2.1.len v.2.2.2.1.cap] 33 fun b h1 =>
 ldI h1 b 0 .u8 fun t=>ldS h1 b (0+1) fun t2=>ldL h1 b (0+2) fun t3=>ldL h1 b (0+3) fun t4 =>
 f85 (t,t2,t3,t4,()) 65536 (fun t5 h6 =>
 ZD (decide (t5>65536)) fun t7 =>
 K t7 h6) h1
def Z5:Zpa:=Zbj Za6
abbrev ZuV:=ByteArray→(Bool→HP)→HP
def Zbc (f36:ZsO) (s:ByteArray) (K:Bool→HP) (h:Zc):Prop :=
 Zl 0 fun at_ =>
 Zau (σ:=Int × Unit) (fun J2 s3 h4 =>
 (fun (at_1:Int) =>
 Zs (decide (at_1<(s.size:Int))) (
 ZiO s at_1 fun t =>
 f36 t (fun t5 t6 t7 h8 =>
 Zl t5 fun n =>
 Zl t6 fun lo =>
 Zl t7 fun hi =>
 Zs (n ==0) (
 K false h8) (
 Zs (decide ((IntKind.wrap .i64 (at_1+n))>(s.size:Int))) (
 K false h8) (
 Zl 1 fun i =>
 Zau (σ:=Int × Int × Int × Unit) (fun J12 s13 h14 =>
 (fun (lo9:Int) (hi10:Int) (i11:Int) =>
 Zs (decide (i11<n)) (
 ZiO s (IntKind.wrap .i64 (at_1+i11)) fun t15 =>
 Zs (decide (t15<lo9)) (
 K false h14) (
 ZiO s (IntKind.wrap .i64 (at_1+i11)) fun t16 =>
 Zs (decide (t16>hi10)) (
 K false h14) (
 Zl 128 fun lo17 =>
 Zl 191 fun hi18 =>
 Zl (IntKind.wrap .i64 (i11+1)) fun i19 =>
 J12 (lo17,hi18,i19,()) h14))) (
 Zl (IntKind.wrap .i64 (at_1+n)) fun at_20 =>
 J2 (at_20,()) h14)) s13.1 s13.2.1 s13.2.2.1) (lo,hi,i,()) h8))) h4) (
 K true h4)) s3.1) (at_,()) h
def Xh:ZuV:=Zbc Yo
abbrev Zn7:=(Int × ByteArray × Sl × Sl × Unit)→Int→(Bool→HP)→HP
def Zbb (f46:Zvd) (f87:ZuV) (f88:Zn7) (v:Int × ByteArray × Sl × Sl × Unit) (depth:Int) (K:Bool→HP) (h:Zc):Prop :=
 newC h [.int .u8 v.1,.string v.2.1,.slice v.2.2.1.ptr v.2.2.1.len v.2.2.1.cap,.slice v.2.2.2.1.ptr v.2.2.2.1.len v.2.2.2.1.cap] 33 fun b h1 =>
 ZbG (σ:=Unit) (fun s h32 =>
 ZbG (σ:=Unit) (fun s61 h62 =>
 ZbG (σ:=Unit) (fun s67 h68 =>
 Zl 0 fun i =>
 Zau (σ:=Int × Unit) (fun J70 s71 h72 =>
 (fun (i69:Int) =>
 ldL h72 b (0+3) fun t73 =>
 Zs (decide (i69<(t73.len:Int))) (
 ldL h72 b (0+3) fun t74 =>
 Zd6 t74.ptr t74.len i69 1 fun b75 o =>
 ldS h72 b75 o fun t76 =>
 f87 t76 (fun t77 h78 =>
 Zs (!t77) (
 K false h78) (
 Zl (IntKind.wrap .i64 (i69+1)) fun i79 =>
 J70 (i79,()) h78)) h72) (
 Zl 0 fun i80 =>
 Zau (σ:=Int × Unit) (fun J82 s83 h84 =>
 (fun (i81:Int) =>
 ldL h84 b (0+2) fun t85 =>
 Zs (decide (i81<(t85.len:Int))) (
 ldL h84 b (0+2) fun t86 =>
 Zd6 t86.ptr t86.len i81 4 fun b87 o88 =>
 ldI h84 b87 o88 .u8 fun t89=>ldS h84 b87 (o88+1) fun t90=>ldL h84 b87 (o88+2) fun t91=>ldL h84 b87 (o88+3) fun t92 =>
 f88 (t89,t90,t91,t92,()) (IntKind.wrap .i64 (depth+1)) (fun t93 h94 =>
 Zs (!t93) (
 K false h94) (
 Zl (IntKind.wrap .i64 (i81+1)) fun i95 =>
 J82 (i95,()) h94)) h84) (
 K true h84)) s83.1) (i80,()) h72)) s71.1) (i,()) h68) (fun J63 =>
 Zs (depth ==64) (
 K false h62) (
 ldI h62 b 0 .u8 fun t64 =>
 Zs (t64 ==7) (
 ldL h62 b (0+3) fun t65 =>
 ldL h62 b (0+2) fun t66 =>
 Zs ((t65.len:Int) !=(t66.len:Int)) (
 K false h62) (
 J63 (()) h62)) (
 J63 (()) h62)))) (fun J33 =>
 ldI h32 b 0 .u8 fun t34 =>
 ZbG (σ:=Bool × Unit) (fun s39 h40 =>
 (fun (s52:Bool) =>
 Zs s52 (
 K true h40) (
 ZD (t34 ==4) fun t41 =>
 Zs t41 (
 ldS h40 b (0+1) fun t42 =>
 f46 t42 (fun t43 t44 t45 h46 =>
 newC h46 [.int .u8 0,.string (ByteArray.mk #[]),.slice none 0 0,.slice none 0 0] 33 fun b47 h48 =>
 sts h48 b47 0 [.int .u8 t43.1,.string t43.2.1,.slice t43.2.2.1.ptr t43.2.2.1.len t43.2.2.1.cap,.slice t43.2.2.2.1.ptr t43.2.2.2.1.len t43.2.2.2.1.cap] fun h49 =>
 Zl t44 fun e =>
 Zl t45 fun x =>
 Zs (e ==0) (
 ldI h49 b47 0 .u8 fun t50 =>
 Zs (t50 ==4) (
 ldS h49 b47 (0+1) fun t51 =>
 ldS h49 b (0+1) fun t52 =>
 ZD (Za0 t51 t52) fun t53 =>
 K t53 h49) (
 K false h49)) (
 K false h49)) h40) (
 ZD (t34 ==5) fun t54 =>
 Zs t54 (
 ldS h40 b (0+1) fun t55 =>
 f87 t55 (fun t56 h57 =>
 ZD t56 fun t58 =>
 K t58 h57) h40) (
 ZD (t34 ==6) fun t59 =>
 Zs t59 (
 Zs t59 (
 J33 (()) h40) (
 K false h40)) (
 ZD (t34 ==7) fun t60 =>
 Zs t60 (
 J33 (()) h40) (
 K false h40)))))) s39.1) (fun J35 =>
 ZD (t34 ==1) fun t36 =>
 Zs t36 (
 J35 (t36,()) h32) (
 ZD (t34 ==2) fun t37 =>
 Zs t37 (
 J35 (t37,()) h32) (
 ZD (t34 ==3) fun t38 =>
 J35 (t38,()) h32))))) (fun J2 =>
 ldI h1 b 0 .u8 fun t =>
 Zs (t !=4) (
 ldI h1 b 0 .u8 fun t3 =>
 Zs (t3 !=5) (
 ldS h1 b (0+1) fun t4 =>
 Zs (!(Za0 t4 (ByteArray.mk #[]))) (
 K false h1) (
 ldI h1 b 0 .u8 fun t5 =>
 Zs (t5 !=6) (
 ldI h1 b 0 .u8 fun t6 =>
 Zs (t6 !=7) (
 ldL h1 b (0+2) fun t7 =>
 Zs (decide ((t7.len:Int)>0)) (
 K false h1) (
 ldI h1 b 0 .u8 fun t8 =>
 Zs (t8 !=7) (
 ldL h1 b (0+3) fun t9 =>
 Zs (decide ((t9.len:Int)>0)) (
 K false h1) (
 J2 (()) h1)) (
 J2 (()) h1))) (
 ldI h1 b 0 .u8 fun t10 =>
 Zs (t10 !=7) (
 ldL h1 b (0+3) fun t11 =>
 Zs (decide ((t11.len:Int)>0)) (
 K false h1) (
 J2 (()) h1)) (
 J2 (()) h1))) (
 ldI h1 b 0 .u8 fun t12 =>
 Zs (t12 !=7) (
 ldL h1 b (0+3) fun t13 =>
 Zs (decide ((t13.len:Int)>0)) (
 K false h1) (
 J2 (()) h1)) (
 J2 (()) h1)))) (
 ldI h1 b 0 .u8 fun t14 =>
 Zs (t14 !=6) (
 ldI h1 b 0 .u8 fun t15 =>
 Zs (t15 !=7) (
 ldL h1 b (0+2) fun t16 =>
 Zs (decide ((t16.len:Int)>0)) (
 K false h1) (
 ldI h1 b 0 .u8 fun t17 =>
 Zs (t17 !=7) (
 ldL h1 b (0+3) fun t18 =>
 Zs (decide ((t18.len:Int)>0)) (
 K false h1) (
 J2 (()) h1)) (
 J2 (()) h1))) (
 ldI h1 b 0 .u8 fun t19 =>
 Zs (t19 !=7) (
 ldL h1 b (0+3) fun t20 =>
 Zs (decide ((t20.len:Int)>0)) (
 K false h1) (
 J2 (()) h1)) (
 J2 (()) h1))) (
 ldI h1 b 0 .u8 fun t21 =>
 Zs (t21 !=7) (
 ldL h1 b (0+3) fun t22 =>
 Zs (decide ((t22.len:Int)>0)) (
 K false h1) (
 J2 (()) h1)) (
 J2 (()) h1)))) (
 ldI h1 b 0 .u8 fun t23 =>
 Zs (t23 !=6) (
 ldI h1 b 0 .u8 fun t24 =>
 Zs (t24 !=7) (
 ldL h1 b (0+2) fun t25 =>
 Zs (decide ((t25.len:Int)>0)) (
 K false h1) (
 ldI h1 b 0 .u8 fun t26 =>
 Zs (t26 !=7) (
 ldL h1 b (0+3) fun t27 =>
 Zs (decide ((t27.len:Int)>0)) (
 K false h1) (
 J2 (()) h1)) (
 J2 (()) h1))) (
 ldI h1 b 0 .u8 fun t28 =>
 Zs (t28 !=7) (
 ldL h1 b (0+3) fun t29 =>
 Zs (decide ((t29.len:Int)>0)) (
 K false h1) (
 J2 (()) h1)) (
 J2 (()) h1))) (
 ldI h1 b 0 .u8 fun t30 =>
 Zs (t30 !=7) (
 ldL h1 b (0+3) fun t31 =>
 Zs (decide ((t31.len:Int)>0)) (
 K false h1) (
 J2 (()) h1)) (
 J2 (()) h1))))
def X5 (f88:Zn7):Zn7:=Zbb Xj Xh f88
def YE:Nat→Zn7
 | 0=>fun _ _ _ _=>False
 | n+1=>X5 (YE n)
def Za4:Zn7:=fun v depth K h=>∃ n,YE n v depth K h
abbrev ZsH:=(Int × ByteArray × Sl × Sl × Unit)→(Bool→HP)→HP
def Zbg (f86:Zpa) (f88:Zn7) (v:Int × ByteArray × Sl × Sl × Unit) (K:Bool→HP) (h:Zc):Prop :=
 newC h [.int .u8 v.1,.string v.2.1,.slice v.2.2.1.ptr v.2.2.1.len v.2.2.1.cap,.slice v.2.2.2.1.ptr v.2.2.2.1.len v.2.2.2.1.cap] 33 fun b h1 =>
 ldI h1 b 0 .u8 fun t=>ldS h1 b (0+1) fun t2=>ldL h1 b (0+2) fun t3=>ldL h1 b (0+3) fun t4 =>
 f86 (t,t2,t3,t4,()) (fun t5 h6 =>
 Zs (!t5) (
 ldI h6 b 0 .u8 fun t7=>ldS h6 b (0+1) fun t8=>ldL h6 b (0+2) fun t9=>ldL h6 b (0+3) fun t10 =>
 f88 (t7,t8,t9,t10,()) 0 (fun t11 h12 =>
 ZD t11 fun t13 =>
 K t13 h12) h6) (
 K false h6)) h1
def YC:ZsH:=Zbg Z5 Za4
abbrev ZuU:=Sl→Sl→(Bool→HP)→HP
def Xw (s1:Sl) (s2:Sl) (K:Bool→HP) (h:Zc):Prop :=
 Zs ((s1.len:Int) !=(s2.len:Int)) (
 K false h) (
 Zau (σ:=Int × Unit) (fun J1 s h2 =>
 (fun (s13:Int) =>
 Zs (decide (s13<(s1.len:Int))) (
 Zl s13 fun i =>
 Zd6 s1.ptr s1.len i 1 fun b o =>
 ldS h2 b o fun t =>
 Zd6 s2.ptr s2.len i 1 fun b3 o4 =>
 ldS h2 b3 o4 fun t5 =>
 Zs (!(Za0 t t5)) (
 K false h2) (
 J1 (IntKind.wrap .i64 (s13+1),()) h2)) (
 K true h2)) s.1) (0,()) h)
def Yl:ZuU:=Xw
abbrev Zm5:=(Int × ByteArray × Sl × Sl × Unit)→(Int × ByteArray × Sl × Sl × Unit)→(Bool→HP)→HP
abbrev ZuT:=Sl→Sl→(Bool→HP)→HP
def ZI (f95:Zm5) (s1:Sl) (s2:Sl) (K:Bool→HP) (h:Zc):Prop :=
 Zs ((s1.len:Int) !=(s2.len:Int)) (
 K false h) (
 Zau (σ:=Int × Unit) (fun J1 s h2 =>
 (fun (s17:Int) =>
 Zs (decide (s17<(s1.len:Int))) (
 Zd6 s1.ptr s1.len s17 4 fun b o =>
 ldI h2 b o .u8 fun t=>ldS h2 b (o+1) fun t3=>ldL h2 b (o+2) fun t4=>ldL h2 b (o+3) fun t5 =>
 newC h2 [.int .u8 0,.string (ByteArray.mk #[]),.slice none 0 0,.slice none 0 0] 33 fun b6 h7 =>
 Zl s17 fun i =>
 sts h7 b6 0 [.int .u8 t,.string t3,.slice t4.ptr t4.len t4.cap,.slice t5.ptr t5.len t5.cap] fun h8 =>
 Zd6 s2.ptr s2.len i 4 fun b9 o10 =>
 ldI h8 b9 o10 .u8 fun t11=>ldS h8 b9 (o10+1) fun t12=>ldL h8 b9 (o10+2) fun t13=>ldL h8 b9 (o10+3) fun t14 =>
 newC h8 [.int .u8 0,.string (ByteArray.mk #[]),.slice none 0 0,.slice none 0 0] 33 fun b15 h16 =>
 sts h16 b15 0 [.int .u8 t11,.string t12,.slice t13.ptr t13.len t13.cap,.slice t14.ptr t14.len t14.cap] fun h17 =>
 ldI h17 b6 0 .u8 fun t18=>ldS h17 b6 (0+1) fun t19=>ldL h17 b6 (0+2) fun t20=>ldL h17 b6 (0+3) fun t21 =>
 ldI h17 b15 0 .u8 fun t22=>ldS h17 b15 (0+1) fun t23=>ldL h17 b15 (0+2) fun t24=>ldL h17 b15 (0+3) fun t25 =>
 f95 (t18,t19,t20,t21,()) (t22,t23,t24,t25,()) (fun t26 h27 =>
 Zs (!t26) (
 K false h27) (
 J1 (IntKind.wrap .i64 (s17+1),()) h27)) h17) (
 K true h2)) s.1) (0,()) h)
def Zy (f95:Zm5):ZuT:=ZI f95
def ZeS (f94:ZuU) (f96:ZuT) (a:Int × ByteArray × Sl × Sl × Unit) (b:Int × ByteArray × Sl × Sl × Unit) (K:Bool→HP) (h:Zc):Prop :=
 newC h [.int .u8 a.1,.string a.2.1,.slice a.2.2.1.ptr a.2.2.1.len a.2.2.1.cap,.slice a.2.2.2.1.ptr a.2.2.2.1.len a.2.2.2.1.cap] 33 fun b1 h2 =>
 newC h2 [.int .u8 b.1,.string b.2.1,.slice b.2.2.1.ptr b.2.2.1.len b.2.2.1.cap,.slice b.2.2.2.1.ptr b.2.2.2.1.len b.2.2.2.1.cap] 33 fun b3 h4 =>
 ldI h4 b1 0 .u8 fun t =>
 ldI h4 b3 0 .u8 fun t5 =>
 Zs (t ==t5) (
 ldS h4 b1 (0+1) fun t6 =>
 ldS h4 b3 (0+1) fun t7 =>
 Zs (Za0 t6 t7) (
 ldL h4 b1 (0+3) fun t8 =>
 ldL h4 b3 (0+3) fun t9 =>
 f94 t8 t9 (fun t10 h11 =>
 Zs t10 (
 ldL h11 b1 (0+2) fun t12 =>
 ldL h11 b3 (0+2) fun t13 =>
 f96 t12 t13 (fun t14 h15 =>
 ZD t14 fun t16 =>
 K t16 h15) h11) (
 K false h11)) h4) (
 K false h4)) (
 K false h4)
def ZeL (f95:Zm5):Zm5:=ZeS Yl (Zy f95)
def ZbL:Nat→Zm5
 | 0=>fun _ _ _ _=>False
 | n+1=>ZeL (ZbL n)
def ZeM:Zm5:=fun a b K h=>∃ n,ZbL n a b K h
abbrev ZuS:=(Int × ByteArray × Sl × Sl × Unit)→(Int × ByteArray × Sl × Sl × Unit)→(Bool→HP)→HP
def ZeX (f77:ZsK) (f95:Zm5) (a:Int × ByteArray × Sl × Sl × Unit) (b:Int × ByteArray × Sl × Sl × Unit) (K:Bool→HP) (h:Zc):Prop :=
 newC h [.int .u8 a.1,.string a.2.1,.slice a.2.2.1.ptr a.2.2.1.len a.2.2.1.cap,.slice a.2.2.2.1.ptr a.2.2.2.1.len a.2.2.2.1.cap] 33 fun b1 h2 =>
 newC h2 [.int .u8 b.1,.string b.2.1,.slice b.2.2.1.ptr b.2.2.1.len b.2.2.1.cap,.slice b.2.2.2.1.ptr b.2.2.2.1.len b.2.2.2.1.cap] 33 fun b3 h4 =>
 ldI h4 b1 0 .u8 fun t=>ldS h4 b1 (0+1) fun t5=>ldL h4 b1 (0+2) fun t6=>ldL h4 b1 (0+3) fun t7 =>
 f77 (t,t5,t6,t7,()) (fun t8 h9 =>
 Zs t8 (
 ldI h9 b3 0 .u8 fun t10=>ldS h9 b3 (0+1) fun t11=>ldL h9 b3 (0+2) fun t12=>ldL h9 b3 (0+3) fun t13 =>
 f77 (t10,t11,t12,t13,()) (fun t14 h15 =>
 Zs t14 (
 ldI h15 b1 0 .u8 fun t16=>ldS h15 b1 (0+1) fun t17=>ldL h15 b1 (0+2) fun t18=>ldL h15 b1 (0+3) fun t19 =>
 ldI h15 b3 0 .u8 fun t20=>ldS h15 b3 (0+1) fun t21=>ldL h15 b3 (0+2) fun t22=>ldL h15 b3 (0+3) fun t23 =>
 f95 (t16,t17,t18,t19,()) (t20,t21,t22,t23,()) (fun t24 h25 =>
 ZD t24 fun t26 =>
 K t26 h25) h15) (
 K false h15)) h9) (
 K false h9)) h4
def ZcX:ZuS:=ZeX Za7 ZeM
abbrev ZuR:=(Int × ByteArray × Sl × Sl × Unit)→(Bool→HP)→HP
def ZaJ (f61:Zpc) (f79:ZsJ) (f57:Zm7) (f78:Zpb) (f97:ZuS) (v:Int × ByteArray × Sl × Sl × Unit) (K:Bool→HP) (h:Zc):Prop :=
 newC h [.int .u8 v.1,.string v.2.1,.slice v.2.2.1.ptr v.2.2.1.len v.2.2.1.cap,.slice v.2.2.2.1.ptr v.2.2.2.1.len v.2.2.2.1.cap] 33 fun b h1 =>
 ldI h1 b 0 .u8 fun t=>ldS h1 b (0+1) fun t2=>ldL h1 b (0+2) fun t3=>ldL h1 b (0+3) fun t4 =>
 f61 (t,t2,t3,t4,()) (fun t5 t6 h7 =>
 Zl t6 fun e =>
 f79 (fun t8 h9 =>
 Zs t8 (
 ldI h9 b 0 .u8 fun t10=>ldS h9 b (0+1) fun t11=>ldL h9 b (0+2) fun t12=>ldL h9 b (0+3) fun t13 =>
 f57 (t10,t11,t12,t13,()) (fun t14 h15 =>
 Zs (!t14) (
 Zs (e ==6) (
 ldI h15 b 0 .u8 fun t16=>ldS h15 b (0+1) fun t17=>ldL h15 b (0+2) fun t18=>ldL h15 b (0+3) fun t19 =>
 f78 (t16,t17,t18,t19,()) (fun t20 h21 =>
 Zs (t20 ==0) (
 ldI h21 b 0 .u8 fun t22=>ldS h21 b (0+1) fun t23=>ldL h21 b (0+2) fun t24=>ldL h21 b (0+3) fun t25 =>
 ldI h21 b 0 .u8 fun t26=>ldS h21 b (0+1) fun t27=>ldL h21 b (0+2) fun t28=>ldL h21 b (0+3) fun t29 =>
 f97 (t22,t23,t24,t25,()) (t26,t27,t28,t29,()) (fun t30 h31 =>
 ZD (!t30) fun t32 =>
 K t32 h31) h21) (
 K false h21)) h15) (
 K false h15)) (
 K false h15)) h9) (
 K false h9)) h7) h1
def YZ:ZuR:=ZaJ Zab YI Xl Zac ZcX
abbrev ZsG:=Int→(ByteArray→HP)→HP
def Zcn (i:Int) (K:ByteArray→HP) (h:Zc):Prop :=
 ZaY ((26:Int)≠0) <|
 ZaY ((26:Int)≠0) <|
 ZaY ((26:Int)≠0) <|
 ZaY ((676:Int)≠0) <|
 ZaY ((26:Int)≠0) <|
 newC h [.int .u8 (IntKind.wrap .u8 (IntKind.wrap .i64 ((97:Int)+(Int.tmod i 26)))),.int .u8 (IntKind.wrap .u8 (IntKind.wrap .i64 ((97:Int)+(Int.tmod (IntKind.wrap .i64 (Int.tdiv i 26)) 26)))),.int .u8 (IntKind.wrap .u8 (IntKind.wrap .i64 ((97:Int)+(Int.tmod (IntKind.wrap .i64 (Int.tdiv i 676)) 26))))] 5 fun b h1 =>
 b2s ⟨some ⟨b,0,none⟩,3,3⟩ h1 fun t =>
 Zi9 (ByteArray.mk #[109,97,114,107,32]) t fun s =>
 K s h1
def YW:ZsG:=Zcn
abbrev Zpi:=Sl→(Sl→HP)→HP
def ZaI (f99:ZsG) (l:Sl) (K:Sl→HP) (h:Zc):Prop :=
 mkS 9 16 [.string (ByteArray.mk #[])] (IntKind.wrap .i64 ((l.len:Int)+9)) (IntKind.wrap .i64 ((l.len:Int)+9)) h fun t h1 =>
 Zl 0 fun i =>
 Zau (σ:=Int × Unit) (fun J3 s h4 =>
 (fun (i2:Int) =>
 Zs (decide (i2<(l.len:Int))) (
 Zd6 l.ptr l.len i2 1 fun b o =>
 ldS h4 b o fun t5 =>
 Zd6 t.ptr t.len i2 1 fun b6 o7 =>
 st h4 b6 o7 (.string t5) fun h8 =>
 Zl (IntKind.wrap .i64 (i2+1)) fun i9 =>
 J3 (i9,()) h8) (
 Zl (l.len:Int) fun i10 =>
 Zau (σ:=Int × Unit) (fun J12 s13 h14 =>
 (fun (i11:Int) =>
 Zs (decide (i11<(t.len:Int))) (
 f99 (IntKind.wrap .i64 ((IntKind.wrap .i64 ((700:Int)+i11)) - (l.len:Int))) (fun t15 h16 =>
 Zd6 t.ptr t.len i11 1 fun b17 o18 =>
 st h16 b17 o18 (.string t15) fun h19 =>
 Zl (IntKind.wrap .i64 (i11+1)) fun i20 =>
 J12 (i20,()) h19) h14) (
 slc t.ptr t.cap 1 0 (l.len:Int) t.cap fun t21 =>
 K t21 h14)) s13.1) (i10,()) h4)) s.1) (i,()) h1
def YY:Zpi:=ZaI YW
abbrev Zgm:=(Int × ByteArray × Sl × Sl × Unit)→((Int × ByteArray × Sl × Sl × Unit)→HP)→HP
def ZaV (f100:Zpi) (f101:Zgm) (v:Int × ByteArray × Sl × Sl × Unit) (K:(Int × ByteArray × Sl × Sl × Unit)→HP) (h:Zc):Prop :=
 newC h [.int .u8 v.1,.string v.2.1,.slice v.2.2.1.ptr v.2.2.1.len v.2.2.1.cap,.slice v.2.2.2.1.ptr v.2.2.2.1.len v.2.2.2.1.cap] 33 fun b h1 =>
 newC h1 [.int .u8 0,.string (ByteArray.mk #[]),.slice none 0 0,.slice none 0 0] 33 fun b2 h3 =>
 ldL h3 b (0+3) fun t =>
 f100 t (fun t4 h5 =>
 st h5 b (0+3) (.slice t4.ptr t4.len t4.cap) fun h6 =>
 Zl 0 fun i =>
 Zau (σ:=Sl × Int × Unit) (fun J8 s h9 =>
 (fun (l:Sl) (i7:Int) =>
 ldL h9 b (0+2) fun t10 =>
 Zs (decide (i7<(t10.len:Int))) (
 ldL h9 b (0+2) fun t11 =>
 Zd6 t11.ptr t11.len i7 4 fun b12 o =>
 ldI h9 b12 o .u8 fun t13=>ldS h9 b12 (o+1) fun t14=>ldL h9 b12 (o+2) fun t15=>ldL h9 b12 (o+3) fun t16 =>
 f101 (t13,t14,t15,t16,()) (fun t17 h18 =>
 newC h18 [.int .u8 t17.1,.string t17.2.1,.slice t17.2.2.1.ptr t17.2.2.1.len t17.2.2.1.cap,.slice t17.2.2.2.1.ptr t17.2.2.2.1.len t17.2.2.2.1.cap] 33 fun b19 h20 =>
 rdS ⟨some ⟨b19,0,none⟩,1,1⟩ 4 h20 fun new=>app 33 4 72 [.int .u8 0,.string (ByteArray.mk #[]),.slice none 0 0,.slice none 0 0] l 1 new h20 fun t21 h22 =>
 Zl (IntKind.wrap .i64 (i7+1)) fun i23 =>
 J8 (t21,i23,()) h22) h9) (
 st h9 b (0+2) (.slice l.ptr l.len l.cap) fun h24 =>
 ldI h24 b 0 .u8 fun t25=>ldS h24 b (0+1) fun t26=>ldL h24 b (0+2) fun t27=>ldL h24 b (0+3) fun t28 =>
 sts h24 b2 0 [.int .u8 t25,.string t26,.slice t27.ptr t27.len t27.cap,.slice t28.ptr t28.len t28.cap] fun h29 =>
 ldI h29 b2 0 .u8 fun t30=>ldS h29 b2 (0+1) fun t31=>ldL h29 b2 (0+2) fun t32=>ldL h29 b2 (0+3) fun t33=>K (t30,t31,t32,t33,()) h29)) s.1 s.2.1) (⟨none,0,0⟩,i,()) h6) h3
def XX (f101:Zgm):Zgm:=ZaV YY f101
def Yu:Nat→Zgm
 | 0=>fun _ _ _=>False
 | n+1=>XX (Yu n)
def ZaS:Zgm:=fun v K h=>∃ n,Yu n v K h
abbrev Zph:=ByteArray→(ByteArray→HP)→HP
def ZaT (s:ByteArray) (K:ByteArray→HP) (h:Zc):Prop :=
 newC h [.int .u8 34] 5 fun b h1 =>
 Zl 0 fun i =>
 Zau (σ:=Sl × Int × Unit) (fun J3 s4 h5 =>
 (fun (out:Sl) (i2:Int) =>
 Zs (decide (i2<(s.size:Int))) (
 ZiO s i2 fun t =>
 Zl t fun c =>
 ZbG (σ:=Bool × Unit) (fun s8 h9 =>
 (fun (s21:Bool) =>
 Zs s21 (
 newC h9 [.int .u8 92,.int .u8 c] 5 fun b10 h11 =>
 rdS ⟨some ⟨b10,0,none⟩,2,2⟩ 1 h11 fun new=>app 5 1 1 [.int .u8 0] out 2 new h11 fun t12 h13 =>
 Zl (IntKind.wrap .i64 (i2+1)) fun i14 =>
 J3 (t12,i14,()) h13) (
 ZD (c ==8) fun t15 =>
 Zs t15 (
 app 5 1 1 [.int .u8 0] out (ByteArray.mk #[92,98]).size (YU (ByteArray.mk #[92,98])) h9 fun t16 h17 =>
 Zl (IntKind.wrap .i64 (i2+1)) fun i18 =>
 J3 (t16,i18,()) h17) (
 ZD (c ==12) fun t19 =>
 Zs t19 (
 app 5 1 1 [.int .u8 0] out (ByteArray.mk #[92,102]).size (YU (ByteArray.mk #[92,102])) h9 fun t20 h21 =>
 Zl (IntKind.wrap .i64 (i2+1)) fun i22 =>
 J3 (t20,i22,()) h21) (
 ZD (c ==10) fun t23 =>
 Zs t23 (
 app 5 1 1 [.int .u8 0] out (ByteArray.mk #[92,110]).size (YU (ByteArray.mk #[92,110])) h9 fun t24 h25 =>
 Zl (IntKind.wrap .i64 (i2+1)) fun i26 =>
 J3 (t24,i26,()) h25) (
 ZD (c ==13) fun t27 =>
 Zs t27 (
 app 5 1 1 [.int .u8 0] out (ByteArray.mk #[92,114]).size (YU (ByteArray.mk #[92,114])) h9 fun t28 h29 =>
 Zl (IntKind.wrap .i64 (i2+1)) fun i30 =>
 J3 (t28,i30,()) h29) (
 ZD (c ==9) fun t31 =>
 Zs t31 (
 app 5 1 1 [.int .u8 0] out (ByteArray.mk #[92,116]).size (YU (ByteArray.mk #[92,116])) h9 fun t32 h33 =>
 Zl (IntKind.wrap .i64 (i2+1)) fun i34 =>
 J3 (t32,i34,()) h33) (
 ZD (decide (c<32)) fun t35 =>
 Zs t35 (
 app 5 1 1 [.int .u8 0] out (ByteArray.mk #[92,117,48,48]).size (YU (ByteArray.mk #[92,117,48,48])) h9 fun t36 h37 =>
 ZaY (0≤(4:Int)) <|
 ZiO (ByteArray.mk #[48,49,50,51,52,53,54,55,56,57,97,98,99,100,101,102]) (ZhO .u8 c 4) fun t38 =>
 ZiO (ByteArray.mk #[48,49,50,51,52,53,54,55,56,57,97,98,99,100,101,102]) (Zht .u8 c 15) fun t39 =>
 newC h37 [.int .u8 t38,.int .u8 t39] 5 fun b40 h41 =>
 rdS ⟨some ⟨b40,0,none⟩,2,2⟩ 1 h41 fun new44=>app 5 1 1 [.int .u8 0] t36 2 new44 h41 fun t42 h43 =>
 Zl (IntKind.wrap .i64 (i2+1)) fun i45 =>
 J3 (t42,i45,()) h43) (
 newC h9 [.int .u8 c] 5 fun b46 h47 =>
 rdS ⟨some ⟨b46,0,none⟩,1,1⟩ 1 h47 fun new50=>app 5 1 1 [.int .u8 0] out 1 new50 h47 fun t48 h49 =>
 Zl (IntKind.wrap .i64 (i2+1)) fun i51 =>
 J3 (t48,i51,()) h49)))))))) s8.1) (fun J6 =>
 Zs (c ==34) (
 J6 (true,()) h5) (
 ZD (c ==92) fun t7 =>
 J6 (t7,()) h5))) (
 newC h5 [.int .u8 34] 5 fun b52 h53 =>
 rdS ⟨some ⟨b52,0,none⟩,1,1⟩ 1 h53 fun new56=>app 5 1 1 [.int .u8 0] out 1 new56 h53 fun t54 h55 =>
 b2s t54 h55 fun t57 =>
 K t57 h55)) s4.1 s4.2.1) (⟨some ⟨b,0,none⟩,1,1⟩,i,()) h1
def Xa:Zph:=ZaT
abbrev Zgl:=(Int × ByteArray × Sl × Sl × Unit)→(ByteArray→HP)→HP
def Zbz (f102:Zph) (f103:Zgl) (v:Int × ByteArray × Sl × Sl × Unit) (K:ByteArray→HP) (h:Zc):Prop :=
 newC h [.int .u8 v.1,.string v.2.1,.slice v.2.2.1.ptr v.2.2.1.len v.2.2.1.cap,.slice v.2.2.2.1.ptr v.2.2.2.1.len v.2.2.2.1.cap] 33 fun b h1 =>
 ldI h1 b 0 .u8 fun t =>
 ZD (t ==1) fun t2 =>
 Zs t2 (
 K (ByteArray.mk #[110,117,108,108]) h1) (
 ZD (t ==2) fun t3 =>
 Zs t3 (
 K (ByteArray.mk #[102,97,108,115,101]) h1) (
 ZD (t ==3) fun t4 =>
 Zs t4 (
 K (ByteArray.mk #[116,114,117,101]) h1) (
 ZD (t ==4) fun t5 =>
 Zs t5 (
 ldS h1 b (0+1) fun t6 =>
 K t6 h1) (
 ZD (t ==5) fun t7 =>
 Zs t7 (
 ldS h1 b (0+1) fun t8 =>
 f102 t8 (fun t9 h10 =>
 K t9 h10) h1) (
 ZbG (σ:=ByteArray × ByteArray × Unit) (fun s h13 =>
 (fun (out:ByteArray) (end_:ByteArray) =>
 Zl 0 fun i =>
 Zau (σ:=ByteArray × Int × Unit) (fun J16 s17 h18 =>
 (fun (out14:ByteArray) (i15:Int) =>
 ldL h18 b (0+2) fun t19 =>
 Zs (decide (i15<(t19.len:Int))) (
 Zs (decide ((out14.size:Int)≤65536)) (
 ZbG (σ:=ByteArray × Unit) (fun s23 h24 =>
 (fun (out22:ByteArray) =>
 ZbG (σ:=ByteArray × Unit) (fun s35 h36 =>
 (fun (out34:ByteArray) =>
 ldL h36 b (0+2) fun t37 =>
 Zd6 t37.ptr t37.len i15 4 fun b38 o39 =>
 ldI h36 b38 o39 .u8 fun t40=>ldS h36 b38 (o39+1) fun t41=>ldL h36 b38 (o39+2) fun t42=>ldL h36 b38 (o39+3) fun t43 =>
 f103 (t40,t41,t42,t43,()) (fun t44 h45 =>
 Zi9 out34 t44 fun s46 =>
 Zl (IntKind.wrap .i64 (i15+1)) fun i47 =>
 J16 (s46,i47,()) h45) h36) s35.1) (fun J25 =>
 ldI h24 b 0 .u8 fun t26 =>
 Zs (t26 ==7) (
 ldL h24 b (0+3) fun t27 =>
 Zd6 t27.ptr t27.len i15 1 fun b28 o =>
 ldS h24 b28 o fun t29 =>
 f102 t29 (fun t30 h31 =>
 Zi9 t30 (ByteArray.mk #[58]) fun s32 =>
 Zi9 out22 s32 fun s33 =>
 J25 (s33,()) h31) h24) (
 J25 (out22,()) h24))) s23.1) (fun J20 =>
 Zs (decide (i15>0)) (
 Zi9 out14 (ByteArray.mk #[44]) fun s21 =>
 J20 (s21,()) h18) (
 J20 (out14,()) h18))) (
 Zi9 out14 end_ fun s48 =>
 K s48 h18)) (
 Zi9 out14 end_ fun s49 =>
 K s49 h18)) s17.1 s17.2.1) (out,i,()) h13) s.1 s.2.1) (fun J11 =>
 ldI h1 b 0 .u8 fun t12 =>
 Zs (t12 ==7) (
 J11 (ByteArray.mk #[123],ByteArray.mk #[125],()) h1) (
 J11 (ByteArray.mk #[91],ByteArray.mk #[93],()) h1)))))))
def Zam (f103:Zgl):Zgl:=Zbz Xa f103
def YJ:Nat→Zgl
 | 0=>fun _ _ _=>False
 | n+1=>Zam (YJ n)
def Zbx:Zgl:=fun v K h=>∃ n,YJ n v K h
abbrev Zpg:=(Int × ByteArray × Sl × Sl × Unit)→(ByteArray→Int→HP)→HP
def Zbh (f89:ZsH) (f103:Zgl) (v:Int × ByteArray × Sl × Sl × Unit) (K:ByteArray→Int→HP) (h:Zc):Prop :=
 newC h [.int .u8 v.1,.string v.2.1,.slice v.2.2.1.ptr v.2.2.1.len v.2.2.1.cap,.slice v.2.2.2.1.ptr v.2.2.2.1.len v.2.2.2.1.cap] 33 fun b h1 =>
 Zl 0 fun t =>
 ldI h1 b 0 .u8 fun t2=>ldS h1 b (0+1) fun t3=>ldL h1 b (0+2) fun t4=>ldL h1 b (0+3) fun t5 =>
 f89 (t2,t3,t4,t5,()) (fun t6 h7 =>
 Zs (!t6) (
 Zl 6 fun t8 =>
 K (ByteArray.mk #[]) t8 h7) (
 ldI h7 b 0 .u8 fun t9=>ldS h7 b (0+1) fun t10=>ldL h7 b (0+2) fun t11=>ldL h7 b (0+3) fun t12 =>
 f103 (t9,t10,t11,t12,()) (fun t13 h14 =>
 Zs (decide ((t13.size:Int)>65536)) (
 Zl 5 fun t15 =>
 K (ByteArray.mk #[]) t15 h14) (
 Zl 0 fun t16 =>
 K t13 t16 h14)) h7)) h1
def Xi:Zpg:=Zbh YC Zbx
abbrev Zgk:=(Int × ByteArray × Sl × Sl × Unit)→Int→(Int→HP)→HP
def Zbe (f105:Zgk) (v:Int × ByteArray × Sl × Sl × Unit) (most:Int) (K:Int→HP) (h:Zc):Prop :=
 newC h [.int .u8 v.1,.string v.2.1,.slice v.2.2.1.ptr v.2.2.1.len v.2.2.1.cap,.slice v.2.2.2.1.ptr v.2.2.2.1.len v.2.2.2.1.cap] 33 fun b h1 =>
 Zl 0 fun t =>
 ZbG (σ:=Unit) (fun s h6 =>
 Zl 1 fun d =>
 Zl 0 fun i =>
 Zau (σ:=Int × Int × Unit) (fun J9 s10 h11 =>
 (fun (d7:Int) (i8:Int) =>
 ldL h11 b (0+2) fun t12 =>
 Zs (decide (i8<(t12.len:Int))) (
 Zs (decide (most>1)) (
 ldL h11 b (0+2) fun t13 =>
 Zd6 t13.ptr t13.len i8 4 fun b14 o =>
 ldI h11 b14 o .u8 fun t15=>ldS h11 b14 (o+1) fun t16=>ldL h11 b14 (o+2) fun t17=>ldL h11 b14 (o+3) fun t18 =>
 f105 (t15,t16,t17,t18,()) (IntKind.wrap .i64 (most - 1)) (fun t19 h20 =>
 Zl (IntKind.wrap .i64 (t19+1)) fun k =>
 Zs (decide (k>d7)) (
 Zl k fun d21 =>
 Zl (IntKind.wrap .i64 (i8+1)) fun i22 =>
 J9 (d21,i22,()) h20) (
 Zl (IntKind.wrap .i64 (i8+1)) fun i23 =>
 J9 (d7,i23,()) h20)) h11) (
 Zl d7 fun t24 =>
 K t24 h11)) (
 Zl d7 fun t25 =>
 K t25 h11)) s10.1 s10.2.1) (d,i,()) h6) (fun J2 =>
 ldI h1 b 0 .u8 fun t3 =>
 Zs (t3 !=6) (
 ldI h1 b 0 .u8 fun t4 =>
 Zs (t4 !=7) (
 Zl 0 fun t5 =>
 K t5 h1) (
 J2 (()) h1)) (
 J2 (()) h1))
def X6 (f105:Zgk):Zgk:=Zbe f105
def YF:Nat→Zgk
 | 0=>fun _ _ _ _=>False
 | n+1=>X6 (YF n)
def Za5:Zgk:=fun v most K h=>∃ n,YF n v most K h
abbrev Zpf:=(Int × ByteArray × Sl × Sl × Unit)→(Int→HP)→HP
def Zbk (f86:Zpa) (f105:Zgk) (v:Int × ByteArray × Sl × Sl × Unit) (K:Int→HP) (h:Zc):Prop :=
 newC h [.int .u8 v.1,.string v.2.1,.slice v.2.2.1.ptr v.2.2.1.len v.2.2.1.cap,.slice v.2.2.2.1.ptr v.2.2.2.1.len v.2.2.2.1.cap] 33 fun b h1 =>
 Zl 0 fun t =>
 ldI h1 b 0 .u8 fun t2=>ldS h1 b (0+1) fun t3=>ldL h1 b (0+2) fun t4=>ldL h1 b (0+3) fun t5 =>
 f86 (t2,t3,t4,t5,()) (fun t6 h7 =>
 Zs t6 (
 Zl 0 fun t8 =>
 K t8 h7) (
 ldI h7 b 0 .u8 fun t9=>ldS h7 b (0+1) fun t10=>ldL h7 b (0+2) fun t11=>ldL h7 b (0+3) fun t12 =>
 f105 (t9,t10,t11,t12,()) 65 (fun t13 h14 =>
 Zl t13 fun t15 =>
 K t15 h14) h7)) h1
def Xk:Zpf:=Zbk Z5 Za5
abbrev Zpe:=Sl→Sl→(Bool→HP)→HP
def ZaH (f80:ZsI) (f99:ZsG) (in_:Sl) (l:Sl) (K:Bool→HP) (h:Zc):Prop :=
 f80 in_ l (fun t h1 =>
 Zs (!t) (
 K false h1) (
 slc in_.ptr in_.cap 1 0 (IntKind.wrap .i64 ((l.len:Int)+9)) in_.cap fun t2 =>
 Zl (l.len:Int) fun i =>
 Zau (σ:=Int × Unit) (fun J4 s h5 =>
 (fun (i3:Int) =>
 Zs (decide (i3<(t2.len:Int))) (
 Zd6 t2.ptr t2.len i3 1 fun b o =>
 ldS h5 b o fun t6 =>
 f99 (IntKind.wrap .i64 ((IntKind.wrap .i64 ((700:Int)+i3)) - (l.len:Int))) (fun t7 h8 =>
 ZaY (Za1 h8 [(b,o,.string t6)]) <|
 Zs (!(Za0 t6 t7)) (
 K false h8) (
 Zl (IntKind.wrap .i64 (i3+1)) fun i9 =>
 J4 (i9,()) h8)) h5) (
 K true h5)) s.1) (i,()) h1)) h
def YX:Zpe:=ZaH Yg YW
abbrev Zgj:=(Int × ByteArray × Sl × Sl × Unit)→(Int × ByteArray × Sl × Sl × Unit)→(Bool→HP)→HP
def ZaG (f81:Zo3) (f107:Zpe) (f108:Zgj) (in_:Int × ByteArray × Sl × Sl × Unit) (v:Int × ByteArray × Sl × Sl × Unit) (K:Bool→HP) (h:Zc):Prop :=
 newC h [.int .u8 in_.1,.string in_.2.1,.slice in_.2.2.1.ptr in_.2.2.1.len in_.2.2.1.cap,.slice in_.2.2.2.1.ptr in_.2.2.2.1.len in_.2.2.2.1.cap] 33 fun b h1 =>
 newC h1 [.int .u8 v.1,.string v.2.1,.slice v.2.2.1.ptr v.2.2.1.len v.2.2.1.cap,.slice v.2.2.2.1.ptr v.2.2.2.1.len v.2.2.2.1.cap] 33 fun b2 h3 =>
 ldI h3 b 0 .u8 fun t=>ldS h3 b (0+1) fun t4=>ldL h3 b (0+2) fun t5=>ldL h3 b (0+3) fun t6 =>
 ldI h3 b2 0 .u8 fun t7=>ldS h3 b2 (0+1) fun t8=>ldL h3 b2 (0+2) fun t9=>ldL h3 b2 (0+3) fun t10 =>
 f81 (t,t4,t5,t6,()) (t7,t8,t9,t10,()) (fun t11 h12 =>
 Zs (!t11) (
 K false h12) (
 ldL h12 b (0+3) fun t13 =>
 ldL h12 b2 (0+3) fun t14 =>
 f107 t13 t14 (fun t15 h16 =>
 Zs (!t15) (
 K false h16) (
 Zl 0 fun i =>
 Zau (σ:=Int × Unit) (fun J18 s h19 =>
 (fun (i17:Int) =>
 ldL h19 b2 (0+2) fun t20 =>
 Zs (decide (i17<(t20.len:Int))) (
 ldL h19 b (0+2) fun t21 =>
 Zd6 t21.ptr t21.len i17 4 fun b22 o =>
 ldI h19 b22 o .u8 fun t23=>ldS h19 b22 (o+1) fun t24=>ldL h19 b22 (o+2) fun t25=>ldL h19 b22 (o+3) fun t26 =>
 ldL h19 b2 (0+2) fun t27 =>
 Zd6 t27.ptr t27.len i17 4 fun b28 o29 =>
 ldI h19 b28 o29 .u8 fun t30=>ldS h19 b28 (o29+1) fun t31=>ldL h19 b28 (o29+2) fun t32=>ldL h19 b28 (o29+3) fun t33 =>
 f108 (t23,t24,t25,t26,()) (t30,t31,t32,t33,()) (fun t34 h35 =>
 ZaY (Za1 h35 [(b2,0+2,.slice t27.ptr t27.len t27.cap)]) <|
 ZaY (Za1 h35 [(b,0+2,.slice t21.ptr t21.len t21.cap)]) <|
 Zs (!t34) (
 K false h35) (
 Zl (IntKind.wrap .i64 (i17+1)) fun i36 =>
 J18 (i36,()) h35)) h19) (
 K true h19)) s.1) (i,()) h16)) h12)) h3
def XF (f108:Zgj):Zgj:=ZaG XH YX f108
def Yn:Nat→Zgj
 | 0=>fun _ _ _ _=>False
 | n+1=>XF (Yn n)
def ZaC:Zgj:=fun in_ v K h=>∃ n,Yn n in_ v K h
abbrev Zvx:=(Int × ByteArray × Sl × Sl × Unit)→(Bool→HP)→HP
def X2 (f86:Zpa) (f98:ZuR) (f101:Zgm) (f61:Zpc) (f104:Zpg) (f79:ZsJ) (f57:Zm7) (f89:ZsH) (f78:Zpb) (f106:Zpf) (f108:Zgj) (v:Int × ByteArray × Sl × Sl × Unit) (K:Bool→HP) (h:Zc):Prop :=
 newC h [.int .u8 v.1,.string v.2.1,.slice v.2.2.1.ptr v.2.2.1.len v.2.2.1.cap,.slice v.2.2.2.1.ptr v.2.2.2.1.len v.2.2.2.1.cap] 33 fun b h1 =>
 ldI h1 b 0 .u8 fun t=>ldS h1 b (0+1) fun t2=>ldL h1 b (0+2) fun t3=>ldL h1 b (0+3) fun t4 =>
 f86 (t,t2,t3,t4,()) (fun t5 h6 =>
 Zs t5 (
 ldI h6 b 0 .u8 fun t7=>ldS h6 b (0+1) fun t8=>ldL h6 b (0+2) fun t9=>ldL h6 b (0+3) fun t10 =>
 f98 (t7,t8,t9,t10,()) (fun t11 h12 =>
 ZD t11 fun t13 =>
 K t13 h12) h6) (
 ldI h6 b 0 .u8 fun t14=>ldS h6 b (0+1) fun t15=>ldL h6 b (0+2) fun t16=>ldL h6 b (0+3) fun t17 =>
 f101 (t14,t15,t16,t17,()) (fun t18 h19 =>
 newC h19 [.int .u8 0,.string (ByteArray.mk #[]),.slice none 0 0,.slice none 0 0] 33 fun b20 h21 =>
 sts h21 b20 0 [.int .u8 t18.1,.string t18.2.1,.slice t18.2.2.1.ptr t18.2.2.1.len t18.2.2.1.cap,.slice t18.2.2.2.1.ptr t18.2.2.2.1.len t18.2.2.2.1.cap] fun h22 =>
 ldI h22 b20 0 .u8 fun t23=>ldS h22 b20 (0+1) fun t24=>ldL h22 b20 (0+2) fun t25=>ldL h22 b20 (0+3) fun t26 =>
 f61 (t23,t24,t25,t26,()) (fun t27 t28 h29 =>
 Zl t28 fun e =>
 ldI h29 b 0 .u8 fun t30=>ldS h29 b (0+1) fun t31=>ldL h29 b (0+2) fun t32=>ldL h29 b (0+3) fun t33 =>
 f104 (t30,t31,t32,t33,()) (fun t34 t35 h36 =>
 Zl t35 fun f =>
 f79 (fun t37 h38 =>
 Zs t37 (
 ldI h38 b20 0 .u8 fun t39=>ldS h38 b20 (0+1) fun t40=>ldL h38 b20 (0+2) fun t41=>ldL h38 b20 (0+3) fun t42 =>
 ldI h38 b 0 .u8 fun t43=>ldS h38 b (0+1) fun t44=>ldL h38 b (0+2) fun t45=>ldL h38 b (0+3) fun t46 =>
 f57 (t39,t40,t41,t42,()) (fun t47 h48 =>
 ZaY (Za1 h48 [(b,0,.int .u8 t43),(b,0+1,.string t44),(b,0+2,.slice t45.ptr t45.len t45.cap),(b,0+3,.slice t46.ptr t46.len t46.cap)]) <|
 f89 (t43,t44,t45,t46,()) (fun t49 h50 =>
 Zs (t47 ==t49) (
 Zs (Za0 t27 t34) (
 Zs (e ==f) (
 ldI h50 b20 0 .u8 fun t51=>ldS h50 b20 (0+1) fun t52=>ldL h50 b20 (0+2) fun t53=>ldL h50 b20 (0+3) fun t54 =>
 ldI h50 b 0 .u8 fun t55=>ldS h50 b (0+1) fun t56=>ldL h50 b (0+2) fun t57=>ldL h50 b (0+3) fun t58 =>
 f78 (t51,t52,t53,t54,()) (fun t59 h60 =>
 ZaY (Za1 h60 [(b,0,.int .u8 t55),(b,0+1,.string t56),(b,0+2,.slice t57.ptr t57.len t57.cap),(b,0+3,.slice t58.ptr t58.len t58.cap)]) <|
 f106 (t55,t56,t57,t58,()) (fun t61 h62 =>
 Zs (t59 ==t61) (
 ldI h62 b20 0 .u8 fun t63=>ldS h62 b20 (0+1) fun t64=>ldL h62 b20 (0+2) fun t65=>ldL h62 b20 (0+3) fun t66 =>
 ldI h62 b 0 .u8 fun t67=>ldS h62 b (0+1) fun t68=>ldL h62 b (0+2) fun t69=>ldL h62 b (0+3) fun t70 =>
 f108 (t63,t64,t65,t66,()) (t67,t68,t69,t70,()) (fun t71 h72 =>
 ZD t71 fun t73 =>
 K t73 h72) h62) (
 K false h62)) h60) h50) (
 K false h50)) (
 K false h50)) (
 K false h50)) h48) h38) (
 K false h38)) h36) h29) h22) h6)) h1
def XZ:Zvx:=X2 Z5 YZ ZaS Zab Xi YI Xl YC Zac Xk ZaC
end Go.Proofs.YtpjbjdheeemdiaaGreatDoor
