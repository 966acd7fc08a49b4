/- The models of the functions. Written by a program out of the translated functions. -/
import GoSem.Machine.Frame
import GoSem.Op.String
import Derived.Test.YtpjbjdheeemdiaaGreatDoorPa1
set_option linter.unusedVariables false
set_option linter.unusedSimpArgs false
namespace Go.Proofs.YtpjbjdheeemdiaaGreatDoor
open Go Go.Fw
abbrev oA:=Option Addr
abbrev e0B:ByteArray:=ByteArray.mk #[]
abbrev rTy:=Sl × Sl × Sl × Sl × Sl × Unit
abbrev vTy:=Int × ByteArray × Sl × Sl × Unit
abbrev slv (s:Sl):Value:= .slice s.ptr s.len s.cap
abbrev n0S:Sl:=⟨none,0,0⟩
abbrev n0V:Value:= .slice none 0 0
abbrev vCl (v:vTy):List Value:=[.int .u8 v.1,.string v.2.1,slv v.2.2.1,slv v.2.2.2.1]
abbrev rCl (r:rTy):List Value:=[slv r.1,slv r.2.1,slv r.2.2.1,slv r.2.2.2.1,slv r.2.2.2.2.1]
abbrev v0C:List Value:=[.int .u8 0,.string e0B,n0V,n0V]
abbrev r0C:List Value:=[n0V,n0V,n0V,n0V,n0V]
abbrev ndV (h:Zc) (b:Nat) (i:Int) (s:ByteArray) (x y:Sl) (K:Prop):Prop:=Y6 (Z9 h [(b,0,.int .u8 i),(b,0+1,.string s),(b,0+2,slv x),(b,0+3,slv y)]) K
abbrev ndP (h:Zc) (b o:Nat) (p:oA) (K:Prop):Prop:=Y6 (Z9 h [(b,o,.pointer p)]) K
abbrev ndL (h:Zc) (b o:Nat) (x:Sl) (K:Prop):Prop:=Y6 (Z9 h [(b,o,slv x)]) K
abbrev zT0:=ByteArray->Int->(Int->HP)->HP
abbrev zT1:=oA->(HP)->HP
def ZcT (f0:zT0) (r:oA) (K:HP) (h:Zc):Prop :=
 Zar (σ:=Unit) (fun J1 s h2 =>
 Ze r fun b o =>
 ldI h2 b (o+1) .i64 fun t =>
 Ze r fun b3 o4 =>
 ldS h2 b3 o4 fun t5 =>
 Zz (decide (t<(t5.size:Int))) (
 Ze r fun b6 o7 =>
 ldS h2 b6 o7 fun t8 =>
 Ze r fun b9 o10 =>
 ldI h2 b9 (o10+1) .i64 fun t11 =>
 ZDP t8 t11 fun t12 =>
 ZtL (ρ:=Int × Unit) (fun K h=>f0 (ByteArray.mk #[32,9,10,13]) t12 (fun q h=>K (q,()) h) h) h2 fun r14 =>
 Zz (decide (r14.1>=0)) (
 Ze r fun b15 o16 =>
 ldI h2 b15 (o16+1) .i64 fun t17 =>
 Ze r fun b18 o19 =>
 st h2 b18 (o19+1) (.int .i64 (IntKind.wrap .i64 (t17+1))) fun h20 =>
 J1 (()) h20) (
 K h2)) (
 K h2)) (()) h
def Z5:zT1:=ZcT X0
abbrev zT2:=oA->(Int->HP)->HP
def ZdX (r:oA) (K:Int->HP) (h:Zc):Prop :=
 Zi 0 fun t =>
 Ze r fun b o =>
 ldI h b (o+1) .i64 fun t1 =>
 Ze r fun b2 o3 =>
 ldS h b2 o3 fun t4 =>
 Zz (decide (t1<(t4.size:Int))) (
 Ze r fun b5 o6 =>
 ldS h b5 o6 fun t7 =>
 Ze r fun b8 o9 =>
 ldI h b8 (o9+1) .i64 fun t10 =>
 ZDP t7 t10 fun t11 =>
 Zi t11 fun t12 =>
 K t12 h) (
 Zi 0 fun t13 =>
 K t13 h)
def Zx:zT2:=ZdX
abbrev zT3:=oA->Int->Int->(HP)->(Value->HP)->HP
def Za0 (r:oA) (e:Int) (at_:Int) (K:HP) (P:Value->HP) (h:Zc):Prop :=
 Ze r fun b o =>
 ldS h b o fun t =>
 Zz (decide (at_>=(t.size:Int))) (
 Ze r fun b1 o2 =>
 ldS h b1 o2 fun t3 =>
 P (.iface 160 (.agg #[.int .i64 24,.int .i64 (t3.size:Int)])) h) (
 P (.iface 160 (.agg #[.int .i64 e,.int .i64 at_])) h)
def Zp:zT3:=Za0
abbrev zT5:=oA->(HP)->HP
abbrev zT6:=oA->Int->(Value->HP)->HP
def ZaG (f5:zT5) (b:oA) (c:Int) (K:Value->HP) (h:Zc):Prop :=
 f5 b (fun h1 =>
 Ze b fun b2 o =>
 ldL h1 b2 (o+1) fun t =>
 newC h1 [.int .u8 c] 5 fun b3 h4 =>
 rdS ⟨some ⟨b3,0,none⟩,1,1⟩ 1 h4 fun new=>app 5 1 1 [.int .u8 0] t 1 new h4 fun t5 h6 =>
 Ze b fun b7 o8 =>
 st h6 b7 (o8+1) (slv t5) fun h9 =>
 K .nilIface h9) h
def Yu:zT6:=ZaG Yl
abbrev zT7:=oA->(Int->HP)->(Value->HP)->HP
def Zec (f2:zT2) (f3:zT3) (r:oA) (K:Int->HP) (P:Value->HP) (h:Zc):Prop :=
 Zi 0 fun t =>
 Zi 0 fun n =>
 Zar (σ:=Int × Int × Unit) (fun J2 s h3 =>
 (fun (n1:Int) (s5:Int) =>
 Zz (decide (s5<4)) (
 f2 r (fun t4 h5 =>
 Zi t4 fun c =>
 Zgf (σ:=Int × Unit) (fun s33 h34 =>
 (fun (n32:Int) =>
 Ze r fun b35 o36 =>
 ldI h34 b35 (o36+1) .i64 fun t37 =>
 Ze r fun b38 o39 =>
 st h34 b38 (o39+1) (.int .i64 (IntKind.wrap .i64 (t37+1))) fun h40 =>
 J2 (n32,IntKind.wrap .i64 (s5+1),()) h40) s33.1) (fun J6 =>
 Zgf (σ:=Bool × Unit) (fun s9 h10 =>
 (fun (s15:Bool) =>
 Zz s15 (
 Y6 (0<=(4:Int)) <|
 Zi (orV .i32 (Zyy .i32 n1 4) (IntKind.wrap .i32 (IntKind.wrap .u8 (c - 48)))) fun n11 =>
 J6 (n11,()) h10) (
 Zz (decide (c>=97)) (
 Yx (decide (c<=102)) fun t12 =>
 Zz t12 (
 Y6 (0<=(4:Int)) <|
 Zi (orV .i32 (Zyy .i32 n1 4) (IntKind.wrap .i32 (IntKind.wrap .u8 ((IntKind.wrap .u8 (c - 97))+10)))) fun n13 =>
 J6 (n13,()) h10) (
 Zz (decide (c>=65)) (
 Yx (decide (c<=70)) fun t14 =>
 Zz t14 (
 Y6 (0<=(4:Int)) <|
 Zi (orV .i32 (Zyy .i32 n1 4) (IntKind.wrap .i32 (IntKind.wrap .u8 ((IntKind.wrap .u8 (c - 65))+10)))) fun n15 =>
 J6 (n15,()) h10) (
 Ze r fun b o =>
 ldI h10 b (o+1) .i64 fun t16 =>
 f3 r 22 t16 (fun h17 =>
 J6 (n1,()) h17) P h10)) (
 Ze r fun b18 o19 =>
 ldI h10 b18 (o19+1) .i64 fun t20 =>
 f3 r 22 t20 (fun h21 =>
 J6 (n1,()) h21) P h10))) (
 Zz (decide (c>=65)) (
 Yx (decide (c<=70)) fun t22 =>
 Zz t22 (
 Y6 (0<=(4:Int)) <|
 Zi (orV .i32 (Zyy .i32 n1 4) (IntKind.wrap .i32 (IntKind.wrap .u8 ((IntKind.wrap .u8 (c - 65))+10)))) fun n23 =>
 J6 (n23,()) h10) (
 Ze r fun b24 o25 =>
 ldI h10 b24 (o25+1) .i64 fun t26 =>
 f3 r 22 t26 (fun h27 =>
 J6 (n1,()) h27) P h10)) (
 Ze r fun b28 o29 =>
 ldI h10 b28 (o29+1) .i64 fun t30 =>
 f3 r 22 t30 (fun h31 =>
 J6 (n1,()) h31) P h10)))) s9.1) (fun J7 =>
 Zz (decide (c>=48)) (
 Yx (decide (c<=57)) fun t8 =>
 J7 (t8,()) h5) (
 J7 (false,()) h5)))) h3) (
 Zi n1 fun t41 =>
 K t41 h3)) s.1 s.2.1) (n,0,()) h
def Zbi:zT7:=Zec Zx Zp
abbrev zT8:=ByteArray->ByteArray->(Bool->HP)->HP
def XQ (s:ByteArray) (prefix_:ByteArray) (K:Bool->HP) (h:Zc):Prop :=
 Zz (decide ((s.size:Int)>=(prefix_.size:Int))) (
 Zze s 0 (prefix_.size:Int) fun t =>
 Yx (Zch t prefix_) fun t1 =>
 K t1 h) (
 K false h)
def Xa:zT8:=XQ
abbrev zT9:=ByteArray->ByteArray->(Bool->HP)->HP
def Zdi (f8:zT8) (s:ByteArray) (prefix_:ByteArray) (K:Bool->HP) (h:Zc):Prop :=
 f8 s prefix_ (fun t h1 =>
 Yx t fun t2 =>
 K t2 h1) h
def ZaB:zT9:=Zdi Xa
abbrev ZEC:=Sl->Int->(Sl->HP)->HP
def XK (p:Sl) (r:Int) (K:Sl->HP) (h:Zc):Prop :=
 Zi (IntKind.wrap .u32 r) fun i =>
 Yx (decide (i<=2047)) fun t =>
 Zz t (
 Y6 (0<=(6:Int)) <|
 newC h [.int .u8 (orV .u8 (192:Int) (IntKind.wrap .u8 (Zzg .i32 r 6))),.int .u8 (orV .u8 (128:Int) (ZyB .u8 (IntKind.wrap .u8 r) 63))] 5 fun b h1 =>
 rdS ⟨some ⟨b,0,none⟩,2,2⟩ 1 h1 fun new=>app 5 1 1 [.int .u8 0] p 2 new h1 fun t2 h3 =>
 K t2 h3) (
 Zgf (σ:=Bool × Unit) (fun s h7 =>
 (fun (s25:Bool) =>
 Zz s25 (
 Y6 (0<=(12:Int)) <|
 Y6 (0<=(6:Int)) <|
 newC h7 [.int .u8 (orV .u8 (224:Int) (IntKind.wrap .u8 (Zzg .i32 r 12))),.int .u8 (orV .u8 (128:Int) (ZyB .u8 (IntKind.wrap .u8 (Zzg .i32 r 6)) 63)),.int .u8 (orV .u8 (128:Int) (ZyB .u8 (IntKind.wrap .u8 r) 63))] 5 fun b8 h9 =>
 rdS ⟨some ⟨b8,0,none⟩,3,3⟩ 1 h9 fun new12=>app 5 1 1 [.int .u8 0] p 3 new12 h9 fun t10 h11 =>
 K t10 h11) (
 Zz (decide (i>65535)) (
 Yx (decide (i<=1114111)) fun t13 =>
 Zz t13 (
 Y6 (0<=(18:Int)) <|
 Y6 (0<=(12:Int)) <|
 Y6 (0<=(6:Int)) <|
 newC h7 [.int .u8 (orV .u8 (240:Int) (IntKind.wrap .u8 (Zzg .i32 r 18))),.int .u8 (orV .u8 (128:Int) (ZyB .u8 (IntKind.wrap .u8 (Zzg .i32 r 12)) 63)),.int .u8 (orV .u8 (128:Int) (ZyB .u8 (IntKind.wrap .u8 (Zzg .i32 r 6)) 63)),.int .u8 (orV .u8 (128:Int) (ZyB .u8 (IntKind.wrap .u8 r) 63))] 5 fun b14 h15 =>
 rdS ⟨some ⟨b14,0,none⟩,4,4⟩ 1 h15 fun new18=>app 5 1 1 [.int .u8 0] p 4 new18 h15 fun t16 h17 =>
 K t16 h17) (
 newC h7 [.int .u8 239,.int .u8 191,.int .u8 189] 5 fun b19 h20 =>
 rdS ⟨some ⟨b19,0,none⟩,3,3⟩ 1 h20 fun new23=>app 5 1 1 [.int .u8 0] p 3 new23 h20 fun t21 h22 =>
 K t21 h22)) (
 newC h7 [.int .u8 239,.int .u8 191,.int .u8 189] 5 fun b24 h25 =>
 rdS ⟨some ⟨b24,0,none⟩,3,3⟩ 1 h25 fun new28=>app 5 1 1 [.int .u8 0] p 3 new28 h25 fun t26 h27 =>
 K t26 h27))) s.1) (fun J4 =>
 Yx (decide (i<55296)) fun t5 =>
 Zz t5 (
 J4 (t5,()) h) (
 Zz (decide ((57343:Int)<i)) (
 Yx (decide (i<=65535)) fun t6 =>
 J4 (t6,()) h) (
 J4 (false,()) h))))
def Y4:ZEC:=XK
abbrev ZEB:=Sl->Int->(Sl->HP)->HP
def Za6 (f10:ZEC) (p:Sl) (r:Int) (K:Sl->HP) (h:Zc):Prop :=
 Zz (decide ((IntKind.wrap .u32 r)<=127)) (
 newC h [.int .u8 (IntKind.wrap .u8 r)] 5 fun b h1 =>
 rdS ⟨some ⟨b,0,none⟩,1,1⟩ 1 h1 fun new=>app 5 1 1 [.int .u8 0] p 1 new h1 fun t h2 =>
 K t h2) (
 f10 p r (fun t3 h4 =>
 K t3 h4) h)
def Xs:ZEB:=Za6 Y4
abbrev ZEA:=oA->Int->(Int->Value->HP)->HP
def ZaF (f5:zT5) (f11:ZEB) (b:oA) (r:Int) (K:Int->Value->HP) (h:Zc):Prop :=
 Zi 0 fun t =>
 f5 b (fun h1 =>
 Ze b fun b2 o =>
 ldL h1 b2 (o+1) fun t3 =>
 Zi (t3.len:Int) fun n =>
 Ze b fun b4 o5 =>
 ldL h1 b4 (o5+1) fun t6 =>
 f11 t6 r (fun t7 h8 =>
 Ze b fun b9 o10 =>
 st h8 b9 (o10+1) (slv t7) fun h11 =>
 Ze b fun b12 o13 =>
 ldL h11 b12 (o13+1) fun t14 =>
 Zi (IntKind.wrap .i64 ((t14.len:Int) - n)) fun t15 =>
 K t15 .nilIface h11) h1) h
def Xd:ZEA:=ZaF Yl Xs
abbrev ZEz:=oA->oA->(HP)->(Value->HP)->HP
def ZcR (f2:zT2) (f0:zT0) (f6:zT6) (f3:zT3) (f7:zT7) (f9:zT9) (f12:ZEA) (r:oA) (b:oA) (K:HP) (P:Value->HP) (h:Zc):Prop :=
 f2 r (fun t h1 =>
 Zi t fun c =>
 Zgf (σ:=Unit) (fun s h19 =>
 Zgf (σ:=Unit) (fun s25 h26 =>
 Ze r fun b27 o28 =>
 ldI h26 b27 (o28+1) .i64 fun t29 =>
 Ze r fun b30 o31 =>
 st h26 b30 (o31+1) (.int .i64 (IntKind.wrap .i64 (t29+1))) fun h32 =>
 f7 r (fun t33 h34 =>
 Zi t33 fun n =>
 Zgf (σ:=Unit) (fun s68 h69 =>
 Zgf (σ:=Int × Unit) (fun s73 h74 =>
 (fun (n72:Int) =>
 f12 b n72 (fun t75 t76 h77 =>
 K h77) h74) s73.1) (fun J70 =>
 Zz (decide (n>=55296)) (
 Zz (decide (n<57344)) (
 Zi 65533 fun n71 =>
 J70 (n71,()) h69) (
 J70 (n,()) h69)) (
 J70 (n,()) h69))) (fun J35 =>
 Zgf (σ:=Bool × Unit) (fun s46 h47 =>
 (fun (s72:Bool) =>
 Zz s72 (
 Ze r fun b48 o49 =>
 ldI h47 b48 (o49+1) .i64 fun t50 =>
 Zi t50 fun was =>
 Ze r fun b51 o52 =>
 ldI h47 b51 (o52+1) .i64 fun t53 =>
 Ze r fun b54 o55 =>
 st h47 b54 (o55+1) (.int .i64 (IntKind.wrap .i64 (t53+2))) fun h56 =>
 f7 r (fun t57 h58 =>
 Zi t57 fun low =>
 Zz (decide (low>=56320)) (
 Zz (decide (low<57344)) (
 Y6 (0<=(10:Int)) <|
 f12 b (IntKind.wrap .i32 ((IntKind.wrap .i32 ((65536:Int)+(Zyy .i32 (IntKind.wrap .i32 (n - 55296)) 10)))+(IntKind.wrap .i32 (low - 56320)))) (fun t59 t60 h61 =>
 K h61) h58) (
 Ze r fun b62 o63 =>
 st h58 b62 (o63+1) (.int .i64 was) fun h64 =>
 J35 (()) h64)) (
 Ze r fun b65 o66 =>
 st h58 b65 (o66+1) (.int .i64 was) fun h67 =>
 J35 (()) h67)) P h56) (
 J35 (()) h47)) s46.1) (fun J36 =>
 Zz (decide (n>=55296)) (
 Zz (decide (n<56320)) (
 Ze r fun b37 o38 =>
 ldS h34 b37 o38 fun t39 =>
 Ze r fun b40 o41 =>
 ldI h34 b40 (o41+1) .i64 fun t42 =>
 Zze t39 t42 t39.size fun t43 =>
 ZtL (ρ:=Bool × Unit) (fun K h=>f9 t43 (ByteArray.mk #[92,117]) (fun q h=>K (q,()) h) h) h34 fun r45 =>
 J36 (r45.1,()) h34) (
 J36 (false,()) h34)) (
 J36 (false,()) h34)))) P h32) (fun J20 =>
 Zz (c !=117) (
 Ze r fun b21 o22 =>
 ldI h19 b21 (o22+1) .i64 fun t23 =>
 f3 r 22 t23 (fun h24 =>
 J20 (()) h24) P h19) (
 J20 (()) h19))) (fun J2 =>
 f0 (ByteArray.mk #[34,92,47,98,102,110,114,116]) c (fun t3 h4 =>
 Zi t3 fun i =>
 Zz (decide (i>=0)) (
 Ze r fun b5 o =>
 ldI h4 b5 (o+1) .i64 fun t6 =>
 Ze r fun b7 o8 =>
 ldS h4 b7 o8 fun t9 =>
 Zz (decide (t6<(t9.size:Int))) (
 ZDP (ByteArray.mk #[34,92,47,8,12,10,13,9]) i fun t10 =>
 f6 b t10 (fun t11 h12 =>
 Ze r fun b13 o14 =>
 ldI h12 b13 (o14+1) .i64 fun t15 =>
 Ze r fun b16 o17 =>
 st h12 b16 (o17+1) (.int .i64 (IntKind.wrap .i64 (t15+1))) fun h18 =>
 K h18) h4) (
 J2 (()) h4)) (
 J2 (()) h4)) h1)) h
def Zaq:ZEz:=ZcR Zx X0 Yu Zp Zbi ZaB Xd
abbrev ZLC:=ByteArray->(Int->HP)->HP
abbrev Zun:=ByteArray->(Bool->HP)->HP
abbrev ZEy:=ByteArray->(Bool->HP)->HP
def ZgW (f14:ZLC) (f15:Zun) (s:ByteArray) (K:Bool->HP) (h:Zc):Prop :=
 newC h [.string (ByteArray.mk #[128,128,128]),.string (ByteArray.mk #[144,128,128]),.string (ByteArray.mk #[160,128,128])] 9 fun b h1 =>
 Zar (σ:=Int × Unit) (fun J2 s3 h4 =>
 (fun (s11:Int) =>
 Zz (decide (s11<(3:Int))) (
 ZcM (some ⟨b,0,none⟩) 3 s11 1 fun b5 o =>
 ldS h4 b5 o fun t =>
 Zi (s.size:Int) fun k =>
 Zar (σ:=Int × Unit) (fun J7 s8 h9 =>
 (fun (k6:Int) =>
 Zz (decide (k6<4)) (
 Zze t 0 (IntKind.wrap .i64 (k6 - (s.size:Int))) fun t10 =>
 ZFA s t10 fun s12 =>
 f14 s12 (fun t13 h14 =>
 Zi t13 fun n =>
 Zz (n ==1) (
 f15 s12 (fun t15 h16 =>
 Zz t15 (
 K true h16) (
 Zi (IntKind.wrap .i64 (k6+1)) fun k17 =>
 J7 (k17,()) h16)) h14) (
 Zi (IntKind.wrap .i64 (k6+1)) fun k18 =>
 J7 (k18,()) h14)) h9) (
 Zz (decide ((s.size:Int)<4)) (
 ZFA s t fun s19 =>
 Zze s19 0 4 fun t20 =>
 f15 t20 (fun t21 h22 =>
 Zz t21 (
 ZFA s t fun s23 =>
 Zze s23 0 4 fun t24 =>
 f14 t24 (fun t25 h26 =>
 Zz (t25 ==1) (
 K true h26) (
 J2 (IntKind.wrap .i64 (s11+1),()) h26)) h22) (
 J2 (IntKind.wrap .i64 (s11+1),()) h22)) h9) (
 J2 (IntKind.wrap .i64 (s11+1),()) h9))) s8.1) (k,()) h4) (
 f15 s (fun t27 h28 =>
 Zz t27 (
 f14 s (fun t29 h30 =>
 Yx (t29 ==1) fun t31 =>
 K t31 h30) h28) (
 K false h28)) h4)) s3.1) (0,()) h1
def ZdM:ZEy:=ZgW Y9 Z6
abbrev ZEx:=oA->ByteArray->(Int->Value->HP)->HP
def Zaj (f5:zT5) (b:oA) (s:ByteArray) (K:Int->Value->HP) (h:Zc):Prop :=
 Zi 0 fun t =>
 f5 b (fun h1 =>
 Ze b fun b2 o =>
 ldL h1 b2 (o+1) fun t3 =>
 app 5 1 1 [.int .u8 0] t3 s.size (Zba s) h1 fun t4 h5 =>
 Ze b fun b6 o7 =>
 st h5 b6 (o7+1) (slv t4) fun h8 =>
 Zi (s.size:Int) fun t9 =>
 K t9 .nilIface h8) h
def Y0:ZEx:=Zaj Yl
abbrev ZEw:=oA->oA->(HP)->(Value->HP)->HP
def Zdl (f3:zT3) (f16:ZEy) (f15:Zun) (f17:ZEx) (r:oA) (b:oA) (K:HP) (P:Value->HP) (h:Zc):Prop :=
 Zi 1 fun k =>
 Zar (σ:=Int × Unit) (fun J2 s h3 =>
 (fun (k1:Int) =>
 Zgf (σ:=Unit) (fun s13 h14 =>
 Ze r fun b15 o16 =>
 ldS h14 b15 o16 fun t17 =>
 Ze r fun b18 o19 =>
 ldI h14 b18 (o19+1) .i64 fun t20 =>
 Ze r fun b21 o22 =>
 ldI h14 b21 (o22+1) .i64 fun t23 =>
 Zze t17 t20 (IntKind.wrap .i64 (t23+k1)) fun t24 =>
 Zgf (σ:=Unit) (fun s32 h33 =>
 f15 t24 (fun t34 h35 =>
 Zz t34 (
 f17 b t24 (fun t36 t37 h38 =>
 Ze r fun b39 o40 =>
 ldI h38 b39 (o40+1) .i64 fun t41 =>
 Ze r fun b42 o43 =>
 st h38 b42 (o43+1) (.int .i64 (IntKind.wrap .i64 (t41+k1))) fun h44 =>
 K h44) h35) (
 Zi (IntKind.wrap .i64 (k1+1)) fun k45 =>
 J2 (k45,()) h35)) h33) (fun J25 =>
 f16 t24 (fun t26 h27 =>
 Zz (!t26) (
 Ze r fun b28 o29 =>
 ldI h27 b28 (o29+1) .i64 fun t30 =>
 f3 r 22 (IntKind.wrap .i64 ((IntKind.wrap .i64 (t30+k1)) - 1)) (fun h31 =>
 J25 (()) h31) P h27) (
 J25 (()) h27)) h14)) (fun J4 =>
 Ze r fun b5 o =>
 ldI h3 b5 (o+1) .i64 fun t =>
 Ze r fun b6 o7 =>
 ldS h3 b6 o7 fun t8 =>
 Zz (decide ((IntKind.wrap .i64 (t+k1))>(t8.size:Int))) (
 Ze r fun b9 o10 =>
 ldS h3 b9 o10 fun t11 =>
 f3 r 24 (t11.size:Int) (fun h12 =>
 J4 (()) h12) P h3) (
 J4 (()) h3))) s.1) (k,()) h
def ZaD:ZEw:=Zdl Zp ZdM Z6 Y0
abbrev zT4:=oA->(ByteArray->HP)->HP
abbrev ZAj:=oA->(ByteArray->HP)->(Value->HP)->HP
def ZdV (f2:zT2) (f3:zT3) (f4:zT4) (f13:ZEz) (f6:zT6) (f18:ZEw) (r:oA) (K:ByteArray->HP) (P:Value->HP) (h:Zc):Prop :=
 Ze r fun b o =>
 ldI h b (o+1) .i64 fun t =>
 Ze r fun b1 o2 =>
 st h b1 (o2+1) (.int .i64 (IntKind.wrap .i64 (t+1))) fun h3 =>
 newC h3 [.pointer none,n0V] 188 fun b4 h5 =>
 Zar (σ:=Unit) (fun J6 s h7 =>
 f2 r (fun t8 h9 =>
 Zi t8 fun c =>
 Zgf (σ:=Bool × Unit) (fun s18 h19 =>
 (fun (s16:Bool) =>
 Zz s16 (
 Ze r fun b20 o21 =>
 ldI h19 b20 (o21+1) .i64 fun t22 =>
 f3 r 22 t22 (fun h23 =>
 J6 (()) h23) P h19) (
 Yx (c ==34) fun t24 =>
 Zz t24 (
 Ze r fun b25 o26 =>
 ldI h19 b25 (o26+1) .i64 fun t27 =>
 Ze r fun b28 o29 =>
 st h19 b28 (o29+1) (.int .i64 (IntKind.wrap .i64 (t27+1))) fun h30 =>
 f4 (some ⟨b4,0,none⟩) (fun t31 h32 =>
 K t31 h32) h30) (
 Yx (c ==92) fun t33 =>
 Zz t33 (
 Ze r fun b34 o35 =>
 ldI h19 b34 (o35+1) .i64 fun t36 =>
 Ze r fun b37 o38 =>
 st h19 b37 (o38+1) (.int .i64 (IntKind.wrap .i64 (t36+1))) fun h39 =>
 f13 r (some ⟨b4,0,none⟩) (fun h40 =>
 J6 (()) h40) P h39) (
 Yx (decide (c<128)) fun t41 =>
 Zz t41 (
 f6 (some ⟨b4,0,none⟩) c (fun t42 h43 =>
 Ze r fun b44 o45 =>
 ldI h43 b44 (o45+1) .i64 fun t46 =>
 Ze r fun b47 o48 =>
 st h43 b47 (o48+1) (.int .i64 (IntKind.wrap .i64 (t46+1))) fun h49 =>
 J6 (()) h49) h19) (
 f18 r (some ⟨b4,0,none⟩) (fun h50 =>
 J6 (()) h50) P h19))))) s18.1) (fun J10 =>
 Ze r fun b11 o12 =>
 ldI h9 b11 (o12+1) .i64 fun t13 =>
 Ze r fun b14 o15 =>
 ldS h9 b14 o15 fun t16 =>
 Zz (decide (t13>=(t16.size:Int))) (
 J10 (true,()) h9) (
 Yx (decide (c<32)) fun t17 =>
 J10 (t17,()) h9))) h7) (()) h5
def XI:ZAj:=ZdV Zx Zp Zae Zaq Yu ZaD
abbrev ZnA:=oA->Int->((vTy)->HP)->(Value->HP)->HP
abbrev ZEv:=oA->oA->Int->(HP)->(Value->HP)->HP
def ZdW (f1:zT1) (f2:zT2) (f3:zT3) (f19:ZAj) (f20:ZnA) (r:oA) (v:oA) (deep:Int) (K:HP) (P:Value->HP) (h:Zc):Prop :=
 f1 r (fun h1 =>
 Zgf (σ:=Unit) (fun s39 h40 =>
 Ze v fun b41 o42 =>
 ldL h40 b41 (o42+2) fun t43 =>
 Zqt (
 f20 r deep (fun t44 h45 =>
 Y6 (Z9 h45 [(b41,o42+2,slv t43)]) <|
 newC h45 v0C 33 fun b46 h47 =>
 Y6 (Z9 h47 [(b41,o42+2,slv t43)]) <|
 rdS ⟨some ⟨b46,0,none⟩,1,1⟩ 4 h47 fun new50=>app 33 4 72 v0C t43 1 new50 h47 fun t48 h49 =>
 ZcM t48.ptr t48.len (t43.len:Int) 4 fun b51 o52 =>
 Ze v fun b53 o54 =>
 Zqt (
 sts h49 b51 o52 (vCl t44) fun h55 =>
 st h55 b53 (o54+2) (slv t48) fun h56 =>
 f1 r (fun h57 =>
 K h57) h56) (
 st h49 b53 (o54+2) (slv t48) fun h58 =>
 sts h58 b51 o52 (vCl t44) fun h59 =>
 f1 r (fun h60 =>
 K h60) h59)) P h40) (
 newC h40 v0C 33 fun b61 h62 =>
 Y6 (Z9 h62 [(b41,o42+2,slv t43)]) <|
 f20 r deep (fun t63 h64 =>
 Y6 (Z9 h64 [(b41,o42+2,slv t43)]) <|
 rdS ⟨some ⟨b61,0,none⟩,1,1⟩ 4 h64 fun new67=>app 33 4 72 v0C t43 1 new67 h64 fun t65 h66 =>
 ZcM t65.ptr t65.len (t43.len:Int) 4 fun b68 o69 =>
 Ze v fun b70 o71 =>
 Zqt (
 sts h66 b68 o69 (vCl t63) fun h72 =>
 st h72 b70 (o71+2) (slv t65) fun h73 =>
 f1 r (fun h74 =>
 K h74) h73) (
 st h66 b70 (o71+2) (slv t65) fun h75 =>
 sts h75 b68 o69 (vCl t63) fun h76 =>
 f1 r (fun h77 =>
 K h77) h76)) P h62)) (fun J2 =>
 Ze v fun b o =>
 ldI h1 b o .u8 fun t =>
 Zz (t ==7) (
 Zgf (σ:=Unit) (fun s h10 =>
 Ze v fun b11 o12 =>
 ldL h10 b11 (o12+3) fun t13 =>
 f19 r (fun t14 h15 =>
 Y6 (Z9 h15 [(b11,o12+3,slv t13)]) <|
 newC h15 [.string t14] 9 fun b16 h17 =>
 Y6 (Z9 h17 [(b11,o12+3,slv t13)]) <|
 rdS ⟨some ⟨b16,0,none⟩,1,1⟩ 1 h17 fun new=>app 9 1 16 [.string e0B] t13 1 new h17 fun t18 h19 =>
 Ze v fun b20 o21 =>
 st h19 b20 (o21+3) (slv t18) fun h22 =>
 f1 r (fun h23 =>
 Zgf (σ:=Unit) (fun s31 h32 =>
 Ze r fun b33 o34 =>
 ldI h32 b33 (o34+1) .i64 fun t35 =>
 Ze r fun b36 o37 =>
 st h32 b36 (o37+1) (.int .i64 (IntKind.wrap .i64 (t35+1))) fun h38 =>
 J2 (()) h38) (fun J24 =>
 f2 r (fun t25 h26 =>
 Zz (t25 !=58) (
 Ze r fun b27 o28 =>
 ldI h26 b27 (o28+1) .i64 fun t29 =>
 f3 r 20 t29 (fun h30 =>
 J24 (()) h30) P h26) (
 J24 (()) h26)) h23)) h22) P h10) (fun J3 =>
 f2 r (fun t4 h5 =>
 Zz (t4 !=34) (
 Ze r fun b6 o7 =>
 ldI h5 b6 (o7+1) .i64 fun t8 =>
 f3 r 20 t8 (fun h9 =>
 J3 (()) h9) P h5) (
 J3 (()) h5)) h1)) (
 J2 (()) h1))) h
def ZaR (f20:ZnA):ZEv:=ZdW Z5 Zx Zp XI f20
abbrev ZEu:=oA->Int->Int->Int->((vTy)->HP)->(Value->HP)->HP
def ZbJ (f3:zT3) (f1:zT1) (f2:zT2) (f21:ZEv) (r:oA) (k:Int) (end_:Int) (deep:Int) (K:(vTy)->HP) (P:Value->HP) (h:Zc):Prop :=
 newC h v0C 33 fun b h1 =>
 Zgf (σ:=Unit) (fun s h5 =>
 Ze r fun b6 o7 =>
 ldI h5 b6 (o7+1) .i64 fun t8 =>
 Ze r fun b9 o10 =>
 st h5 b9 (o10+1) (.int .i64 (IntKind.wrap .i64 (t8+1))) fun h11 =>
 newC h11 v0C 33 fun b12 h13 =>
 sts h13 b12 0 [.int .u8 k,.string e0B,n0V,n0V] fun h14 =>
 f1 r (fun h15 =>
 Zar (σ:=Unit) (fun J16 s17 h18 =>
 Zgf (σ:=Unit) (fun s43 h44 =>
 Zgf (σ:=Unit) (fun s62 h63 =>
 f21 r (some ⟨b12,0,none⟩) (IntKind.wrap .i64 (deep+1)) (fun h64 =>
 J16 (()) h64) P h63) (fun J45 =>
 ldL h44 b12 (0+2) fun t46 =>
 Zz (decide ((t46.len:Int)>0)) (
 Zgf (σ:=Unit) (fun s54 h55 =>
 Ze r fun b56 o57 =>
 ldI h55 b56 (o57+1) .i64 fun t58 =>
 Ze r fun b59 o60 =>
 st h55 b59 (o60+1) (.int .i64 (IntKind.wrap .i64 (t58+1))) fun h61 =>
 J45 (()) h61) (fun J47 =>
 f2 r (fun t48 h49 =>
 Zz (t48 !=44) (
 Ze r fun b50 o51 =>
 ldI h49 b50 (o51+1) .i64 fun t52 =>
 f3 r 20 t52 (fun h53 =>
 J47 (()) h53) P h49) (
 J47 (()) h49)) h44)) (
 J45 (()) h44))) (fun J19 =>
 ZtL (ρ:=Int × Unit) (fun K h=>f2 r (fun q h=>K (q,()) h) h) h18 fun r21 =>
 Zz (r21.1 !=end_) (
 J19 (()) h18) (
 Ze r fun b22 o23 =>
 ldI h18 b22 (o23+1) .i64 fun t24 =>
 Ze r fun b25 o26 =>
 ldS h18 b25 o26 fun t27 =>
 Zz (decide (t24>=(t27.size:Int))) (
 J19 (()) h18) (
 Ze r fun b28 o29 =>
 ldI h18 b28 (o29+1) .i64 fun t30 =>
 Ze r fun b31 o32 =>
 st h18 b31 (o32+1) (.int .i64 (IntKind.wrap .i64 (t30+1))) fun h33 =>
 ldI h33 b12 0 .u8 fun t34=>ldS h33 b12 (0+1) fun t35=>ldL h33 b12 (0+2) fun t36=>ldL h33 b12 (0+3) fun t37 =>
 sts h33 b 0 [.int .u8 t34,.string t35,slv t36,slv t37] fun h38 =>
 ldI h38 b 0 .u8 fun t39=>ldS h38 b (0+1) fun t40=>ldL h38 b (0+2) fun t41=>ldL h38 b (0+3) fun t42=>K (t39,t40,t41,t42,()) h38)))) (()) h15) h14) (fun J2 =>
 Zz (decide (deep>=64)) (
 Ze r fun b3 o =>
 ldI h1 b3 (o+1) .i64 fun t =>
 f3 r 23 t (fun h4 =>
 J2 (()) h4) P h1) (
 J2 (()) h1))
def Xc (f20:ZnA):ZEu:=ZbJ Zp Z5 Zx (ZaR f20)
abbrev ZEt:=oA->ByteArray->Int->((vTy)->HP)->(Value->HP)->HP
def ZdU (f2:zT2) (f3:zT3) (r:oA) (w:ByteArray) (k:Int) (K:(vTy)->HP) (P:Value->HP) (h:Zc):Prop :=
 newC h v0C 33 fun b h1 =>
 Zar (σ:=Int × Unit) (fun J2 s h3 =>
 (fun (s10:Int) =>
 Zz (decide (s10<(w.size:Int))) (
 Zi s10 fun i =>
 Zgf (σ:=Unit) (fun s20 h21 =>
 Ze r fun b22 o23 =>
 ldI h21 b22 (o23+1) .i64 fun t24 =>
 Ze r fun b25 o26 =>
 st h21 b25 (o26+1) (.int .i64 (IntKind.wrap .i64 (t24+1))) fun h27 =>
 J2 (IntKind.wrap .i64 (s10+1),()) h27) (fun J4 =>
 ZtL (ρ:=Int × Unit) (fun K h=>f2 r (fun q h=>K (q,()) h) h) h3 fun r5 =>
 ZDP w i fun t6 =>
 Zz (r5.1 !=t6) (
 Ze r fun b7 o =>
 ldI h3 b7 (o+1) .i64 fun t8 =>
 f3 r 20 t8 (fun h9 =>
 J4 (()) h9) P h3) (
 Ze r fun b10 o11 =>
 ldI h3 b10 (o11+1) .i64 fun t12 =>
 Ze r fun b13 o14 =>
 ldS h3 b13 o14 fun t15 =>
 Zz (decide (t12>=(t15.size:Int))) (
 Ze r fun b16 o17 =>
 ldI h3 b16 (o17+1) .i64 fun t18 =>
 f3 r 20 t18 (fun h19 =>
 J4 (()) h19) P h3) (
 J4 (()) h3)))) (
 sts h3 b 0 [.int .u8 k,.string e0B,n0V,n0V] fun h28 =>
 ldI h28 b 0 .u8 fun t29=>ldS h28 b (0+1) fun t30=>ldL h28 b (0+2) fun t31=>ldL h28 b (0+3) fun t32=>K (t29,t30,t31,t32,()) h28)) s.1) (0,()) h1
def ZaV:ZEt:=ZdU Zx Zp
abbrev ZEs:=oA->(HP)->(Value->HP)->HP
def ZcS (f2:zT2) (f3:zT3) (r:oA) (K:HP) (P:Value->HP) (h:Zc):Prop :=
 Zgf (σ:=Unit) (fun s h9 =>
 f2 r (fun t10 h11 =>
 Zi t10 fun c12 =>
 Zar (σ:=Int × Unit) (fun J14 s15 h16 =>
 (fun (c13:Int) =>
 Zz (decide (c13>=48)) (
 Zz (decide (c13<=57)) (
 Ze r fun b17 o18 =>
 ldI h16 b17 (o18+1) .i64 fun t19 =>
 Ze r fun b20 o21 =>
 st h16 b20 (o21+1) (.int .i64 (IntKind.wrap .i64 (t19+1))) fun h22 =>
 f2 r (fun t23 h24 =>
 Zi t23 fun c25 =>
 J14 (c25,()) h24) h22) (
 K h16)) (
 K h16)) s15.1) (c12,()) h11) h9) (fun J1 =>
 f2 r (fun t h2 =>
 Zi t fun c =>
 Zz (decide (c<48)) (
 Ze r fun b o =>
 ldI h2 b (o+1) .i64 fun t3 =>
 f3 r 21 t3 (fun h4 =>
 J1 (()) h4) P h2) (
 Zz (decide (c>57)) (
 Ze r fun b5 o6 =>
 ldI h2 b5 (o6+1) .i64 fun t7 =>
 f3 r 21 t7 (fun h8 =>
 J1 (()) h8) P h2) (
 J1 (()) h2))) h)
def YQ:ZEs:=ZcS Zx Zp
abbrev ZEr:=oA->((vTy)->HP)->(Value->HP)->HP
def ZcQ (f2:zT2) (f3:zT3) (f24:ZEs) (r:oA) (K:(vTy)->HP) (P:Value->HP) (h:Zc):Prop :=
 newC h v0C 33 fun b h1 =>
 Ze r fun b2 o =>
 ldI h1 b2 (o+1) .i64 fun t =>
 Zi t fun from_ =>
 Zgf (σ:=Unit) (fun s h12 =>
 Zgf (σ:=Unit) (fun s29 h30 =>
 Zgf (σ:=Unit) (fun s41 h42 =>
 Zgf (σ:=Unit) (fun s95 h96 =>
 Ze r fun b97 o98 =>
 Ze r fun b99 o100 =>
 ldS h96 b97 o98 fun t101 =>
 ldI h96 b99 (o100+1) .i64 fun t102 =>
 Zze t101 from_ t102 fun t103 =>
 sts h96 b 0 [.int .u8 4,.string t103,n0V,n0V] fun h104 =>
 ldI h104 b 0 .u8 fun t105=>ldS h104 b (0+1) fun t106=>ldL h104 b (0+2) fun t107=>ldL h104 b (0+3) fun t108=>K (t105,t106,t107,t108,()) h104) (fun J43 =>
 f2 r (fun t44 h45 =>
 Zi t44 fun c46 =>
 Zz (c46 ==101) (
 Ze r fun b47 o48 =>
 ldI h45 b47 (o48+1) .i64 fun t49 =>
 Ze r fun b50 o51 =>
 st h45 b50 (o51+1) (.int .i64 (IntKind.wrap .i64 (t49+1))) fun h52 =>
 f2 r (fun t53 h54 =>
 Zi t53 fun c55 =>
 Zz (c55 ==43) (
 Ze r fun b56 o57 =>
 ldI h54 b56 (o57+1) .i64 fun t58 =>
 Ze r fun b59 o60 =>
 st h54 b59 (o60+1) (.int .i64 (IntKind.wrap .i64 (t58+1))) fun h61 =>
 f24 r (fun h62 =>
 J43 (()) h62) P h61) (
 Zz (c55 ==45) (
 Ze r fun b63 o64 =>
 ldI h54 b63 (o64+1) .i64 fun t65 =>
 Ze r fun b66 o67 =>
 st h54 b66 (o67+1) (.int .i64 (IntKind.wrap .i64 (t65+1))) fun h68 =>
 f24 r (fun h69 =>
 J43 (()) h69) P h68) (
 f24 r (fun h70 =>
 J43 (()) h70) P h54))) h52) (
 Zz (c46 ==69) (
 Ze r fun b71 o72 =>
 ldI h45 b71 (o72+1) .i64 fun t73 =>
 Ze r fun b74 o75 =>
 st h45 b74 (o75+1) (.int .i64 (IntKind.wrap .i64 (t73+1))) fun h76 =>
 f2 r (fun t77 h78 =>
 Zi t77 fun c79 =>
 Zz (c79 ==43) (
 Ze r fun b80 o81 =>
 ldI h78 b80 (o81+1) .i64 fun t82 =>
 Ze r fun b83 o84 =>
 st h78 b83 (o84+1) (.int .i64 (IntKind.wrap .i64 (t82+1))) fun h85 =>
 f24 r (fun h86 =>
 J43 (()) h86) P h85) (
 Zz (c79 ==45) (
 Ze r fun b87 o88 =>
 ldI h78 b87 (o88+1) .i64 fun t89 =>
 Ze r fun b90 o91 =>
 st h78 b90 (o91+1) (.int .i64 (IntKind.wrap .i64 (t89+1))) fun h92 =>
 f24 r (fun h93 =>
 J43 (()) h93) P h92) (
 f24 r (fun h94 =>
 J43 (()) h94) P h78))) h76) (
 J43 (()) h45))) h42)) (fun J31 =>
 f2 r (fun t32 h33 =>
 Zz (t32 ==46) (
 Ze r fun b34 o35 =>
 ldI h33 b34 (o35+1) .i64 fun t36 =>
 Ze r fun b37 o38 =>
 st h33 b37 (o38+1) (.int .i64 (IntKind.wrap .i64 (t36+1))) fun h39 =>
 f24 r (fun h40 =>
 J31 (()) h40) P h39) (
 J31 (()) h33)) h30)) (fun J13 =>
 f2 r (fun t14 h15 =>
 Zz (t14 ==48) (
 Ze r fun b16 o17 =>
 ldI h15 b16 (o17+1) .i64 fun t18 =>
 Ze r fun b19 o20 =>
 st h15 b19 (o20+1) (.int .i64 (IntKind.wrap .i64 (t18+1))) fun h21 =>
 f2 r (fun t22 h23 =>
 Zi t22 fun c =>
 Zz (decide (c>=48)) (
 Zz (decide (c<=57)) (
 Ze r fun b24 o25 =>
 ldI h23 b24 (o25+1) .i64 fun t26 =>
 f3 r 21 t26 (fun h27 =>
 J13 (()) h27) P h23) (
 J13 (()) h23)) (
 J13 (()) h23)) h21) (
 f24 r (fun h28 =>
 J13 (()) h28) P h15)) h12)) (fun J3 =>
 f2 r (fun t4 h5 =>
 Zz (t4 ==45) (
 Ze r fun b6 o7 =>
 ldI h5 b6 (o7+1) .i64 fun t8 =>
 Ze r fun b9 o10 =>
 st h5 b9 (o10+1) (.int .i64 (IntKind.wrap .i64 (t8+1))) fun h11 =>
 J3 (()) h11) (
 J3 (()) h5)) h1)
def XN:ZEr:=ZcQ Zx Zp YQ
def Zdk (f1:zT1) (f2:zT2) (f3:zT3) (f22:ZEu) (f19:ZAj) (f23:ZEt) (f25:ZEr) (r:oA) (deep:Int) (K:(vTy)->HP) (P:Value->HP) (h:Zc):Prop :=
 newC h v0C 33 fun b h1 =>
 f1 r (fun h2 =>
 Zgf (σ:=Unit) (fun s h78 =>
 Ze r fun b79 o80 =>
 ldI h78 b79 (o80+1) .i64 fun t81 =>
 f3 r 20 t81 (fun h82 =>
 sts h82 b 0 v0C fun h83 =>
 ldI h83 b 0 .u8 fun t84=>ldS h83 b (0+1) fun t85=>ldL h83 b (0+2) fun t86=>ldL h83 b (0+3) fun t87=>K (t84,t85,t86,t87,()) h83) P h78) (fun J3 =>
 f2 r (fun t h4 =>
 Zi t fun c =>
 Ze r fun b5 o =>
 ldI h4 b5 (o+1) .i64 fun t6 =>
 Ze r fun b7 o8 =>
 ldS h4 b7 o8 fun t9 =>
 Yx (decide (t6>=(t9.size:Int))) fun t10 =>
 Zz t10 (
 Ze r fun b11 o12 =>
 ldI h4 b11 (o12+1) .i64 fun t13 =>
 f3 r 24 t13 (fun h14 =>
 J3 (()) h14) P h4) (
 Yx (c ==123) fun t15 =>
 Zz t15 (
 f22 r 7 125 deep (fun t16 h17 =>
 sts h17 b 0 (vCl t16) fun h18 =>
 ldI h18 b 0 .u8 fun t19=>ldS h18 b (0+1) fun t20=>ldL h18 b (0+2) fun t21=>ldL h18 b (0+3) fun t22=>K (t19,t20,t21,t22,()) h18) P h4) (
 Yx (c ==91) fun t23 =>
 Zz t23 (
 f22 r 6 93 deep (fun t24 h25 =>
 sts h25 b 0 (vCl t24) fun h26 =>
 ldI h26 b 0 .u8 fun t27=>ldS h26 b (0+1) fun t28=>ldL h26 b (0+2) fun t29=>ldL h26 b (0+3) fun t30=>K (t27,t28,t29,t30,()) h26) P h4) (
 Yx (c ==34) fun t31 =>
 Zz t31 (
 f19 r (fun t32 h33 =>
 sts h33 b 0 [.int .u8 5,.string t32,n0V,n0V] fun h34 =>
 ldI h34 b 0 .u8 fun t35=>ldS h34 b (0+1) fun t36=>ldL h34 b (0+2) fun t37=>ldL h34 b (0+3) fun t38=>K (t35,t36,t37,t38,()) h34) P h4) (
 Yx (c ==110) fun t39 =>
 Zz t39 (
 f23 r (ByteArray.mk #[110,117,108,108]) 1 (fun t40 h41 =>
 sts h41 b 0 (vCl t40) fun h42 =>
 ldI h42 b 0 .u8 fun t43=>ldS h42 b (0+1) fun t44=>ldL h42 b (0+2) fun t45=>ldL h42 b (0+3) fun t46=>K (t43,t44,t45,t46,()) h42) P h4) (
 Yx (c ==102) fun t47 =>
 Zz t47 (
 f23 r (ByteArray.mk #[102,97,108,115,101]) 2 (fun t48 h49 =>
 sts h49 b 0 (vCl t48) fun h50 =>
 ldI h50 b 0 .u8 fun t51=>ldS h50 b (0+1) fun t52=>ldL h50 b (0+2) fun t53=>ldL h50 b (0+3) fun t54=>K (t51,t52,t53,t54,()) h50) P h4) (
 Yx (c ==116) fun t55 =>
 Zz t55 (
 f23 r (ByteArray.mk #[116,114,117,101]) 3 (fun t56 h57 =>
 sts h57 b 0 (vCl t56) fun h58 =>
 ldI h58 b 0 .u8 fun t59=>ldS h58 b (0+1) fun t60=>ldL h58 b (0+2) fun t61=>ldL h58 b (0+3) fun t62=>K (t59,t60,t61,t62,()) h58) P h4) (
 Zz (c ==45) (
 f25 r (fun t63 h64 =>
 sts h64 b 0 (vCl t63) fun h65 =>
 ldI h65 b 0 .u8 fun t66=>ldS h65 b (0+1) fun t67=>ldL h65 b (0+2) fun t68=>ldL h65 b (0+3) fun t69=>K (t66,t67,t68,t69,()) h65) P h4) (
 Zz (decide (c>=48)) (
 Yx (decide (c<=57)) fun t70 =>
 Zz t70 (
 f25 r (fun t71 h72 =>
 sts h72 b 0 (vCl t71) fun h73 =>
 ldI h73 b 0 .u8 fun t74=>ldS h73 b (0+1) fun t75=>ldL h73 b (0+2) fun t76=>ldL h73 b (0+3) fun t77=>K (t74,t75,t76,t77,()) h73) P h4) (
 J3 (()) h4)) (
 J3 (()) h4)))))))))) h2)) h1
def ZbB (f20:ZnA):ZnA:=Zdk Z5 Zx Zp (Xc f20) XI ZaV XN
def XC:Nat->ZnA
 | 0=>fun _ _ _ _ _=>False
 | n+1=>ZbB (XC n)
def ZbE:ZnA:=fun r deep K P h=>∃ n,XC n r deep K P h
abbrev zV:List Value:=v0C
def ZFS (b2 b3 b4:Nat) (e n:Int) (E:HP) (h:Zc):Prop :=
 Znb (.iface 160 (.agg #[.int .i64 e,.int .i64 n])) fun b=>Zz b (E h) (Zz true (
 newC h [.int .i64 0,.int .i64 0] 160 fun b1 h2=>sts h2 b1 0 [.int .i64 e,.int .i64 n] fun h3 =>
 ldI h3 b1 0 .i64 fun t=>ldI h3 b1 (0+1) .i64 fun t4 =>
 Ze (some ⟨b2,0,none⟩) fun b5 o=>sts h3 b5 o zV fun h6=>Y6 (Z9 h6 [(b1,0+1,.int .i64 t4)]) <| Y6 (Z9 h6 [(b1,0,.int .i64 t)]) <|
 Ze (some ⟨b3,0,none⟩) fun b7 o8=>st h6 b7 o8 (.int .i64 t) fun h9=>Y6 (Z9 h9 [(b1,0+1,.int .i64 t4)]) <|
 Ze (some ⟨b4,0,none⟩) fun b10 o11=>st h9 b10 o11 (.int .i64 t4) fun h12=>E h12) False)
def Zh3 (b b2 b4:Nat) (K:(vTy)->Int->Int->HP) (h:Zc):Prop :=
 ldI h b 0 .u8 fun t=>ldS h b (0+1) fun t9=>ldL h b (0+2) fun t10=>ldL h b (0+3) fun t11=>ldI h b2 0 .i64 fun t12=>ldI h b4 0 .i64 fun t13=>K (t,t9,t10,t11,()) t12 t13 h
def Zdd (b b2 b4:Nat) (K:(vTy)->Int->Int->HP) (v:Value) (h:Zc):Prop :=
 ∃ e n,v = .iface 160 (.agg #[.int .i64 e,.int .i64 n])/\ZFS b b2 b4 e n (Zh3 b b2 b4 K) h
def ZiE (b b2 b4:Nat) (K:(vTy)->Int->Int->HP) (h:Zc):Prop :=
 ldI h b 0 .u8 fun t36=>ldS h b (0+1) fun t37=>ldL h b (0+2) fun t38=>ldL h b (0+3) fun t39 =>
 sts h b 0 [.int .u8 t36,.string t37,slv t38,slv t39] fun h40 =>
 st h40 b2 0 (.int .i64 0) fun h41=>st h41 b4 0 (.int .i64 0) fun h42=>Zh3 b b2 b4 K h42
def Zaz (s:ByteArray) (K:(vTy)->Int->Int->HP) (h:Zc):Prop :=
 newC h zV 33 fun b h1=>newC h1 [.int .i64 0] 37 fun b2 h3=>newC h3 [.int .i64 0] 3 fun b4 h5 =>
 Zz (decide ((s.size:Int)>65536)) (
 sts h5 b 0 zV fun h6=>st h6 b2 0 (.int .i64 5) fun h7=>st h7 b4 0 (.int .i64 65536) fun h8=>Zh3 b b2 b4 K h8) (
 newC h5 [.string s,.int .i64 0] 163 fun b14 h15 =>
 ZbE (some ⟨b14,0,none⟩) 0 (fun t16 h17 =>
 sts h17 b 0 (vCl t16) fun h18 =>
 Z5 (some ⟨b14,0,none⟩) (fun h19 =>
 ldI h19 b14 (0+1) .i64 fun t20=>Zz (decide (t20<(s.size:Int))) (
 ldI h19 b14 (0+1) .i64 fun t21=>Zp (some ⟨b14,0,none⟩) 25 t21 (ZiE b b2 b4 K) (Zdd b b2 b4 K) h19) (ZiE b b2 b4 K h19)) h18) (Zdd b b2 b4 K) h15)
abbrev ZCr:=ByteArray->((vTy)->Int->Int->HP)->HP
abbrev ZEp:=ByteArray->(Bool->HP)->HP
def Zfy (f26:ZCr) (s:ByteArray) (K:Bool->HP) (h:Zc):Prop :=
 f26 s (fun t t1 t2 h3 =>
 newC h3 v0C 33 fun b h4 =>
 sts h4 b 0 (vCl t) fun h5 =>
 Zi t1 fun e =>
 Zi t2 fun x =>
 Zz (e ==0) (
 ldI h5 b 0 .u8 fun t6 =>
 Zz (t6 ==4) (
 ldS h5 b (0+1) fun t7 =>
 Yx (Zch t7 s) fun t8 =>
 K t8 h5) (
 K false h5)) (
 K false h5)) h
def Zcq:ZEp:=Zfy Zaz
abbrev ZEo:=ByteArray->(Bool->HP)->HP
def Zga (f15:Zun) (s:ByteArray) (K:Bool->HP) (h:Zc):Prop :=
 f15 s (fun t h1 =>
 Yx (!t) fun t2 =>
 K t2 h1) h
def Zel:ZEo:=Zga Z6
abbrev ZEn:=Sl->(Int->HP)->HP
def YF (f48:ZEo) (s:Sl) (K:Int->HP) (h:Zc):Prop :=
 Zi 0 fun t =>
 Zar (σ:=Int × Unit) (fun J1 s2 h3 =>
 (fun (s8:Int) =>
 Zz (decide (s8<(s.len:Int))) (
 Zi s8 fun i =>
 ZcM s.ptr s.len i 1 fun b o =>
 ldS h3 b o fun t4 =>
 f48 t4 (fun t5 h6 =>
 Zz t5 (
 Zi i fun t7 =>
 K t7 h6) (
 J1 (IntKind.wrap .i64 (s8+1),()) h6)) h3) (
 Zi (-1) fun t8 =>
 K t8 h3)) s2.1) (0,()) h
def Yj:ZEn:=YF Zel
abbrev ZEm:=Sl->(Bool->HP)->HP
def Yz (f49:ZEn) (s:Sl) (K:Bool->HP) (h:Zc):Prop :=
 f49 s (fun t h1 =>
 Yx (decide (t>=0)) fun t2 =>
 K t2 h1) h
def ZN:ZEm:=Yz Yj
abbrev ZEl:=(vTy)->(Bool->HP)->HP
def ZhL (f47:ZEp) (f15:Zun) (f50:ZEm) (v:vTy) (K:Bool->HP) (h:Zc):Prop :=
 newC h (vCl v) 33 fun b h1 =>
 ldS h1 b (0+1) fun t =>
 ldL h1 b (0+2) fun t2 =>
 ldL h1 b (0+3) fun t3 =>
 Yx (!(Zch t e0B)) fun text =>
 Yx (decide ((t2.len:Int)>0)) fun list =>
 Yx (decide ((t3.len:Int)>0)) fun names =>
 ldI h1 b 0 .u8 fun t4 =>
 Zgf (σ:=Bool × Unit) (fun s h9 =>
 (fun (s19:Bool) =>
 Zz s19 (
 Zz (!text) (
 Zz (!list) (
 Yx (!names) fun t10 =>
 K t10 h9) (
 K false h9)) (
 K false h9)) (
 Yx (t4 ==4) fun t11 =>
 Zz t11 (
 ldS h9 b (0+1) fun t12 =>
 f47 t12 (fun t13 h14 =>
 Zz t13 (
 Zz (!list) (
 Yx (!names) fun t15 =>
 K t15 h14) (
 K false h14)) (
 K false h14)) h9) (
 Yx (t4 ==5) fun t16 =>
 Zz t16 (
 ldS h9 b (0+1) fun t17 =>
 f15 t17 (fun t18 h19 =>
 Zz t18 (
 Zz (!list) (
 Yx (!names) fun t20 =>
 K t20 h19) (
 K false h19)) (
 K false h19)) h9) (
 Yx (t4 ==6) fun t21 =>
 Zz t21 (
 Zz (!text) (
 Yx (!names) fun t22 =>
 K t22 h9) (
 K false h9)) (
 Yx (t4 ==7) fun t23 =>
 Zz t23 (
 Zz (!text) (
 ldL h9 b (0+3) fun t24 =>
 ldL h9 b (0+2) fun t25 =>
 Zz ((t24.len:Int) ==(t25.len:Int)) (
 ldL h9 b (0+3) fun t26 =>
 f50 t26 (fun t27 h28 =>
 Yx (!t27) fun t29 =>
 K t29 h28) h9) (
 K false h9)) (
 K false h9)) (
 K false h9)))))) s.1) (fun J5 =>
 Yx (t4 ==1) fun t6 =>
 Zz t6 (
 J5 (t6,()) h1) (
 Yx (t4 ==2) fun t7 =>
 Zz t7 (
 J5 (t7,()) h1) (
 Yx (t4 ==3) fun t8 =>
 J5 (t8,()) h1)))
def Zev:ZEl:=ZhL Zcq Z6 ZN
abbrev ZEk:=(vTy)->(Bool->HP)->HP
def Zgb (a0:vTy) (K:Bool->HP) (h:Zc):Prop :=
 newC h (vCl a0) 33 fun b h1 =>
 K true h1
def Zem:ZEk:=Zgb
abbrev Zmu:=oA->(vTy)->Int->Value->(Bool->HP)->HP
abbrev ZEj:=(vTy)->oA->oA->oA->(Bool->HP)->HP
def Zdm (f53:Zmu) (p:vTy) (a1:oA) (a2:oA) (a3:oA) (K:Bool->HP) (h:Zc):Prop :=
 newC h (vCl p) 33 fun b h1 =>
 Ze a1 fun b2 o=>ldP h1 b2 o fun t =>
 ldI h1 b 0 .u8 fun t3=>ldS h1 b (0+1) fun t4=>ldL h1 b (0+2) fun t5=>ldL h1 b (0+3) fun t6 =>
 Ze a2 fun b7 o8=>ldI h1 b7 o8 .i64 fun t9 =>
 Ze a3 fun b10 o11=>ldV h1 b10 o11 fun t12 =>
 f53 t (t3,t4,t5,t6,()) (IntKind.wrap .i64 (t9+1)) t12 (fun t13 h14 =>
 Yx (!t13) fun t15 =>
 K t15 h14) h1
def ZbC (f53:Zmu):ZEj:=Zdm f53
abbrev ZEi:=Sl->(oA × oA × oA × Unit)->(Int->HP)->HP
def Yk (f54:ZEj) (s:Sl) (f:oA × oA × oA × Unit) (K:Int->HP) (h:Zc):Prop :=
 Zi 0 fun t =>
 Zar (σ:=Int × Unit) (fun J1 s2 h3 =>
 (fun (s8:Int) =>
 Zz (decide (s8<(s.len:Int))) (
 Zi s8 fun i =>
 ZcM s.ptr s.len i 4 fun b o =>
 ldI h3 b o .u8 fun t4=>ldS h3 b (o+1) fun t5=>ldL h3 b (o+2) fun t6=>ldL h3 b (o+3) fun t7 =>
 f54 (t4,t5,t6,t7,()) f.1 f.2.1 f.2.2.1 (fun t8 h9 =>
 Zz t8 (
 Zi i fun t10 =>
 K t10 h9) (
 J1 (IntKind.wrap .i64 (s8+1),()) h9)) h3) (
 Zi (-1) fun t11 =>
 K t11 h3)) s2.1) (0,()) h
def ZP (f53:Zmu):ZEi:=Yk (ZbC f53)
abbrev ZEh:=Sl->(oA × oA × oA × Unit)->(Bool->HP)->HP
def Yg (f55:ZEi) (s:Sl) (f:oA × oA × oA × Unit) (K:Bool->HP) (h:Zc):Prop :=
 f55 s (f.1,f.2.1,f.2.2.1,()) (fun t h1 =>
 Yx (decide (t>=0)) fun t2 =>
 K t2 h1) h
def Zy (f53:Zmu):ZEh:=Yg (ZP f53)
def Zed (f51:ZEl) (f52:ZEk) (f56:ZEh) (c:oA) (v:vTy) (deep:Int) (right:Value) (K:Bool->HP) (h:Zc):Prop :=
 newC h [.pointer c] 155 fun b h1 =>
 newC h1 (vCl v) 33 fun b2 h3 =>
 newC h3 [.int .i64 deep] 3 fun b4 h5 =>
 Y6 (Yc right=true) <| newC h5 [right] 45 fun b6 h7 =>
 ldP h7 b 0 fun t =>
 Ze t fun b8 o =>
 ldI h7 b8 o .i64 fun t9 =>
 Ze t fun b10 o11 =>
 st h7 b10 o11 (.int .i64 (IntKind.wrap .i64 (t9+1))) fun h12 =>
 ldP h12 b 0 fun t13 =>
 Ze t13 fun b14 o15 =>
 ldI h12 b14 o15 .i64 fun t16 =>
 Zz (decide (t16>65536)) (
 K false h12) (
 ldV h12 b6 0 fun t17 =>
 ldI h12 b2 0 .u8 fun t18=>ldS h12 b2 (0+1) fun t19=>ldL h12 b2 (0+2) fun t20=>ldL h12 b2 (0+3) fun t21 =>
 (ZLW t17 94 <| f51 (t18,t19,t20,t21,()) (fun t24 h22 =>
 Zz (!t24) (
 K false h22) (
 Zgf (σ:=Unit) (fun s h29 =>
 ldP h29 b 0 fun t30 =>
 ldP h29 b 0 fun t31 =>
 Ze t31 fun b32 o33 =>
 ldI h29 b32 (o33+1) .i64 fun t34 =>
 ldI h29 b4 0 .i64 fun t35 =>
 Ze t30 fun b36 o37 =>
 st h29 b36 (o37+1) (.int .i64 (ZAI t34 (IntKind.wrap .i64 (t35+1)))) fun h38 =>
 ldI h38 b4 0 .i64 fun t39 =>
 Zz (decide (t39>=64)) (
 K true h38) (
 ldL h38 b2 (0+2) fun t40 =>
 f56 t40 (some ⟨b,0,none⟩,some ⟨b4,0,none⟩,some ⟨b6,0,none⟩,()) (fun t41 h42 =>
 Yx (!t41) fun t43 =>
 K t43 h42) h38)) (fun J26 =>
 ldI h22 b2 0 .u8 fun t27 =>
 Zz (t27 !=6) (
 ldI h22 b2 0 .u8 fun t28 =>
 Zz (t28 !=7) (
 K true h22) (
 J26 (()) h22)) (
 J26 (()) h22)))) h12)\/(
 (ZLW t17 119 <| f52 (t18,t19,t20,t21,()) (fun t24 h22 =>
 Zz (!t24) (
 K false h22) (
 Zgf (σ:=Unit) (fun s h29 =>
 ldP h29 b 0 fun t30 =>
 ldP h29 b 0 fun t31 =>
 Ze t31 fun b32 o33 =>
 ldI h29 b32 (o33+1) .i64 fun t34 =>
 ldI h29 b4 0 .i64 fun t35 =>
 Ze t30 fun b36 o37 =>
 st h29 b36 (o37+1) (.int .i64 (ZAI t34 (IntKind.wrap .i64 (t35+1)))) fun h38 =>
 ldI h38 b4 0 .i64 fun t39 =>
 Zz (decide (t39>=64)) (
 K true h38) (
 ldL h38 b2 (0+2) fun t40 =>
 f56 t40 (some ⟨b,0,none⟩,some ⟨b4,0,none⟩,some ⟨b6,0,none⟩,()) (fun t41 h42 =>
 Yx (!t41) fun t43 =>
 K t43 h42) h38)) (fun J26 =>
 ldI h22 b2 0 .u8 fun t27 =>
 Zz (t27 !=6) (
 ldI h22 b2 0 .u8 fun t28 =>
 Zz (t28 !=7) (
 K true h22) (
 J26 (()) h22)) (
 J26 (()) h22)))) h12)\/(
 False)))
def ZcF (f53:Zmu):Zmu:=Zed Zev Zem (Zy f53)
def X3:Nat->Zmu
 | 0=>fun _ _ _ _ _ _=>False
 | n+1=>ZcF (X3 n)
def Zd6:Zmu:=fun c v deep right K h=>∃ n,X3 n c v deep right K h
abbrev ZEg:=(vTy)->(Bool->HP)->HP
def ZhM (f53:Zmu) (v:vTy) (K:Bool->HP) (h:Zc):Prop :=
 newC h (vCl v) 33 fun b h1 =>
 newC h1 [.int .i64 0,.int .i64 0] 157 fun b2 h3 =>
 ldI h3 b 0 .u8 fun t=>ldS h3 b (0+1) fun t4=>ldL h3 b (0+2) fun t5=>ldL h3 b (0+3) fun t6 =>
 f53 (some ⟨b2,0,none⟩) (t,t4,t5,t6,()) 0 (.func (.func 94) #[] #[]) (fun t7 h8 =>
 Zz t7 (
 ldI h8 b2 (0+1) .i64 fun t9 =>
 Yx (decide (t9<=64)) fun t10 =>
 K t10 h8) (
 K false h8)) h3
def Zew:ZEg:=ZhM Zd6
abbrev ZDO:=Int->(ByteArray->HP)->HP
abbrev ZEf:=Int->((vTy)->HP)->HP
def ZhN (f62:ZDO) (n:Int) (K:(vTy)->HP) (h:Zc):Prop :=
 newC h v0C 33 fun b h1 =>
 f62 n (fun t h2 =>
 sts h2 b 0 [.int .u8 4,.string t,n0V,n0V] fun h3 =>
 ldI h3 b 0 .u8 fun t4=>ldS h3 b (0+1) fun t5=>ldL h3 b (0+2) fun t6=>ldL h3 b (0+3) fun t7=>K (t4,t5,t6,t7,()) h3) h1
def Zex:ZEf:=ZhN ZcY
abbrev ZLB:=ByteArray->(Int->Value->HP)->HP
abbrev Zuv:=ByteArray->((vTy)->HP)->HP
def ZgX (s:ByteArray) (K:(vTy)->HP) (h:Zc):Prop :=
 newC h v0C 33 fun b h1 =>
 sts h1 b 0 [.int .u8 5,.string s,n0V,n0V] fun h2 =>
 ldI h2 b 0 .u8 fun t=>ldS h2 b (0+1) fun t3=>ldL h2 b (0+2) fun t4=>ldL h2 b (0+3) fun t5=>K (t,t3,t4,t5,()) h2
def Zaw:Zuv:=ZgX
abbrev Zfd:=(oA->HP)->HP
def ZdS (K:oA->HP) (h:Zc):Prop :=
 newC h [.int .u8 7,.string e0B,n0V,n0V] 88 fun b h1 =>
 K (some ⟨b,0,none⟩) h1
def ZS:Zfd:=ZdS
abbrev Zo8:=Sl->(Sl->HP)->HP
def Zal (s:Sl) (K:Sl->HP) (h:Zc):Prop :=
 Zz s.ptr.isNone (
 K n0S h) (
 newC h [] 9 fun b h1 =>
 rdS s 1 h1 fun new=>app 9 1 16 [.string e0B] ⟨some ⟨b,0,none⟩,0,0⟩ s.len new h1 fun t h2 =>
 K t h2)
def Yn:Zo8:=Zal
abbrev ZvU:=Sl->(Sl->HP)->HP
def Xx (s:Sl) (K:Sl->HP) (h:Zc):Prop :=
 Zz s.ptr.isNone (
 K n0S h) (
 newC h [] 33 fun b h1 =>
 rdS s 4 h1 fun new=>app 33 4 72 v0C ⟨some ⟨b,0,none⟩,0,0⟩ s.len new h1 fun t h2 =>
 K t h2)
def Yv:ZvU:=Xx
abbrev Zh9:=(vTy)->((vTy)->HP)->HP
def ZgV (f124:Zo8) (f126:Zh9) (v:vTy) (K:(vTy)->HP) (h:Zc):Prop :=
 newC h (vCl v) 33 fun b h1 =>
 newC h1 v0C 33 fun b2 h3 =>
 Zgf (σ:=oA × Unit) (fun s h17 =>
 (fun (out:oA) =>
 ldL h17 b (0+2) fun t18 =>
 Zar (σ:=Int × Unit) (fun J19 s20 h21 =>
 (fun (s17:Int) =>
 Zz (decide (s17<(t18.len:Int))) (
 ZcM t18.ptr t18.len s17 4 fun b22 o =>
 ldI h21 b22 o .u8 fun t23=>ldS h21 b22 (o+1) fun t24=>ldL h21 b22 (o+2) fun t25=>ldL h21 b22 (o+3) fun t26 =>
 newC h21 v0C 33 fun b27 h28 =>
 sts h28 b27 0 [.int .u8 t23,.string t24,slv t25,slv t26] fun h29 =>
 Ze out fun b30 o31 =>
 ldL h29 b30 (o31+2) fun t32 =>
 ldI h29 b27 0 .u8 fun t33=>ldS h29 b27 (0+1) fun t34=>ldL h29 b27 (0+2) fun t35=>ldL h29 b27 (0+3) fun t36 =>
 f126 (t33,t34,t35,t36,()) (fun t37 h38 =>
 Y6 (Z9 h38 [(b30,o31+2,slv t32)]) <|
 newC h38 (vCl t37) 33 fun b39 h40 =>
 Y6 (Z9 h40 [(b30,o31+2,slv t32)]) <|
 rdS ⟨some ⟨b39,0,none⟩,1,1⟩ 4 h40 fun new=>app 33 4 72 v0C t32 1 new h40 fun t41 h42 =>
 Ze out fun b43 o44 =>
 st h42 b43 (o44+2) (slv t41) fun h45 =>
 J19 (IntKind.wrap .i64 (s17+1),()) h45) h29) (
 Ze out fun b46 o47=>ldI h21 b46 o47 .u8 fun t48=>ldS h21 b46 (o47+1) fun t49=>ldL h21 b46 (o47+2) fun t50=>ldL h21 b46 (o47+3) fun t51 =>
 sts h21 b2 0 [.int .u8 t48,.string t49,slv t50,slv t51] fun h52 =>
 ldI h52 b2 0 .u8 fun t53=>ldS h52 b2 (0+1) fun t54=>ldL h52 b2 (0+2) fun t55=>ldL h52 b2 (0+3) fun t56=>K (t53,t54,t55,t56,()) h52)) s20.1) (0,()) h17) s.1) (fun J4 =>
 ldI h3 b 0 .u8 fun t =>
 ldS h3 b (0+1) fun t5 =>
 ldL h3 b (0+3) fun t6 =>
 Zqt (
 f124 t6 (fun t7 h8 =>
 Y6 (Z9 h8 [(b,0+1,.string t5)]) <|
 Y6 (Z9 h8 [(b,0,.int .u8 t)]) <|
 newC h8 v0C 33 fun b9 h10 =>
 Y6 (Z9 h10 [(b,0+1,.string t5)]) <|
 Y6 (Z9 h10 [(b,0,.int .u8 t)]) <|
 sts h10 b9 0 [.int .u8 t,.string t5,n0V,slv t7] fun h11 =>
 J4 (some ⟨b9,0,none⟩,()) h11) h3) (
 newC h3 v0C 33 fun b12 h13 =>
 ndL h13 b (0+3) t6 <|
 Y6 (Z9 h13 [(b,0+1,.string t5)]) <|
 Y6 (Z9 h13 [(b,0,.int .u8 t)]) <|
 f124 t6 (fun t14 h15 =>
 Y6 (Z9 h15 [(b,0+1,.string t5)]) <|
 Y6 (Z9 h15 [(b,0,.int .u8 t)]) <|
 sts h15 b12 0 [.int .u8 t,.string t5,n0V,slv t14] fun h16 =>
 J4 (some ⟨b12,0,none⟩,()) h16) h13))
def ZeX (f126:Zh9):Zh9:=ZgV Yn f126
def Zbj:Nat->Zh9
 | 0=>fun _ _ _=>False
 | n+1=>ZeX (Zbj n)
def ZbF:Zh9:=fun v K h=>∃ n,Zbj n v K h
abbrev ZvT:=(vTy)->ByteArray->(vTy)->((vTy)->HP)->HP
def Zj0 (f124:Zo8) (f125:ZvU) (f126:Zh9) (v:vTy) (name:ByteArray) (part:vTy) (K:(vTy)->HP) (h:Zc):Prop :=
 newC h (vCl v) 33 fun b h1 =>
 newC h1 (vCl part) 33 fun b2 h3 =>
 newC h3 v0C 33 fun b4 h5 =>
 Zgf (σ:=Unit) (fun s h8 =>
 ldS h8 b (0+1) fun t9 =>
 ldL h8 b (0+3) fun t10 =>
 Zyz (σ:=Sl × Sl × Sl × (vTy) × oA × Unit) (fun I d s11 h12 =>
 (fun (s16:Sl) (s18:Sl) (s19:Sl) (s20:vTy) (out:oA) =>
 (d 4=false->(
 f124 t10 (fun s1613 h14 =>
 Y6 (Z9 h14 [(b,0+1,.string t9)]) <|
 I (XL d 4) (s1613,s18,s19,s20,out,()) h14) h12)) /\
 (d 6=false->(
 newC h12 [.string name] 9 fun b15 h16 =>
 ndL h16 b (0+3) t10 <|
 Y6 (Z9 h16 [(b,0+1,.string t9)]) <|
 I (XL d 6) (s16,⟨some ⟨b15,0,none⟩,1,1⟩,s19,s20,out,()) h16)) /\
 (d 7=false->d 4=true->d 6=true->d 4=true->(
 rdS s18 1 h12 fun new=>app 9 1 16 [.string e0B] s16 s18.len new h12 fun s1917 h18 =>
 ndL h18 b (0+3) t10 <|
 Y6 (Z9 h18 [(b,0+1,.string t9)]) <|
 I (XL d 7) (s16,s18,s1917,s20,out,()) h18)) /\
 (d 8=false->d 7=true->(
 ndL h12 b (0+3) t10 <|
 I (XL d 8) (s16,s18,s19,(7,t9,n0S,s19,()),out,()) h12)) /\
 (d 9=false->(
 newC h12 v0C 33 fun b19 h20 =>
 ndL h20 b (0+3) t10 <|
 Y6 (Z9 h20 [(b,0+1,.string t9)]) <|
 I (XL d 9) (s16,s18,s19,s20,some ⟨b19,0,none⟩,()) h20))/\True) s11.1 s11.2.1 s11.2.2.1 s11.2.2.2.1 s11.2.2.2.2.1) (fun d21 s22 h23 =>
 (fun (s1624:Sl) (s1825:Sl) (s1926:Sl) (s2027:vTy) (out28:oA) =>
 d21 4=true->d21 6=true->d21 7=true->d21 8=true->d21 9=true->(
 ndL h23 b (0+3) t10 <|
 Y6 (Z9 h23 [(b,0+1,.string t9)]) <|
 Ze out28 fun b29 o=>sts h23 b29 o (vCl s2027) fun h30 =>
 Zgf (σ:=Unit) (fun s57 h58 =>
 Ze out28 fun b59 o60=>ldI h58 b59 o60 .u8 fun t61=>ldS h58 b59 (o60+1) fun t62=>ldL h58 b59 (o60+2) fun t63=>ldL h58 b59 (o60+3) fun t64 =>
 f126 (t61,t62,t63,t64,()) (fun t65 h66 =>
 sts h66 b4 0 (vCl t65) fun h67 =>
 ldI h67 b4 0 .u8 fun t68=>ldS h67 b4 (0+1) fun t69=>ldL h67 b4 (0+2) fun t70=>ldL h67 b4 (0+3) fun t71=>K (t68,t69,t70,t71,()) h67) h58) (fun J31 =>
 ldL h30 b (0+2) fun t32 =>
 ldI h30 b2 0 .u8 fun t33=>ldS h30 b2 (0+1) fun t34=>ldL h30 b2 (0+2) fun t35=>ldL h30 b2 (0+3) fun t36 =>
 Zqt (
 f125 t32 (fun t37 h38 =>
 ndV h38 b2 t33 t34 t35 t36 <|
 newC h38 [.int .u8 t33,.string t34,slv t35,slv t36] 33 fun b39 h40 =>
 rdS ⟨some ⟨b39,0,none⟩,1,1⟩ 4 h40 fun new43=>app 33 4 72 v0C t37 1 new43 h40 fun t41 h42 =>
 Ze out28 fun b44 o45 =>
 st h42 b44 (o45+2) (slv t41) fun h46 =>
 J31 (()) h46) h30) (
 newC h30 [.int .u8 t33,.string t34,slv t35,slv t36] 33 fun b47 h48 =>
 ndL h48 b (0+2) t32 <|
 f125 t32 (fun t49 h50 =>
 rdS ⟨some ⟨b47,0,none⟩,1,1⟩ 4 h50 fun new53=>app 33 4 72 v0C t49 1 new53 h50 fun t51 h52 =>
 Ze out28 fun b54 o55 =>
 st h52 b54 (o55+2) (slv t51) fun h56 =>
 J31 (()) h56) h48)))) s22.1 s22.2.1 s22.2.2.1 s22.2.2.2.1 s22.2.2.2.2.1) h8) (fun J6 =>
 ldI h5 b 0 .u8 fun t =>
 Zz (t !=7) (
 sts h5 b 0 [.int .u8 7,.string e0B,n0V,n0V] fun h7 =>
 J6 (()) h7) (
 J6 (()) h5))
def Zgr:ZvT:=Zj0 Yn Yv ZbF
abbrev Zfc:=oA->ByteArray->(vTy)->(oA->HP)->HP
def Zcy (f127:ZvT) (o:oA) (name:ByteArray) (v:vTy) (K:oA->HP) (h:Zc):Prop :=
 newC h (vCl v) 33 fun b h1 =>
 Ze o fun b2 o3 =>
 ldI h1 b2 o3 .u8 fun t=>ldS h1 b2 (o3+1) fun t4=>ldL h1 b2 (o3+2) fun t5=>ldL h1 b2 (o3+3) fun t6 =>
 ldI h1 b 0 .u8 fun t7=>ldS h1 b (0+1) fun t8=>ldL h1 b (0+2) fun t9=>ldL h1 b (0+3) fun t10 =>
 f127 (t,t4,t5,t6,()) name (t7,t8,t9,t10,()) (fun t11 h12 =>
 Ze o fun b13 o14 =>
 sts h12 b13 o14 (vCl t11) fun h15 =>
 K o h15) h1
def ZA:Zfc:=Zcy Zgr
abbrev Zhn:=oA->ByteArray->ByteArray->(oA->HP)->HP
def Zb2 (f92:Zuv) (f128:Zfc) (o:oA) (name:ByteArray) (s:ByteArray) (K:oA->HP) (h:Zc):Prop :=
 f92 s (fun t h1 =>
 f128 o name (t.1,t.2.1,⟨t.2.2.1.ptr,t.2.2.1.len,t.2.2.1.cap⟩,⟨t.2.2.2.1.ptr,t.2.2.2.1.len,t.2.2.2.1.cap⟩,()) (fun t2 h3 =>
 K t2 h3) h1) h
def ZU:Zhn:=Zb2 Zaw ZA
abbrev Zo7:=Bool->((vTy)->HP)->HP
def ZeK (yes:Bool) (K:(vTy)->HP) (h:Zc):Prop :=
 newC h v0C 33 fun b h1 =>
 Zz yes (
 sts h1 b 0 [.int .u8 3,.string e0B,n0V,n0V] fun h2 =>
 ldI h2 b 0 .u8 fun t=>ldS h2 b (0+1) fun t3=>ldL h2 b (0+2) fun t4=>ldL h2 b (0+3) fun t5=>K (t,t3,t4,t5,()) h2) (
 sts h1 b 0 [.int .u8 2,.string e0B,n0V,n0V] fun h6 =>
 ldI h6 b 0 .u8 fun t7=>ldS h6 b (0+1) fun t8=>ldL h6 b (0+2) fun t9=>ldL h6 b (0+3) fun t10=>K (t7,t8,t9,t10,()) h6)
def Zai:Zo7:=ZeK
abbrev Zhm:=oA->ByteArray->Int->(oA->HP)->HP
def Zbq (f63:ZEf) (f128:Zfc) (o:oA) (name:ByteArray) (n:Int) (K:oA->HP) (h:Zc):Prop :=
 f63 n (fun t h1 =>
 f128 o name (t.1,t.2.1,⟨t.2.2.1.ptr,t.2.2.1.len,t.2.2.1.cap⟩,⟨t.2.2.2.1.ptr,t.2.2.2.1.len,t.2.2.2.1.cap⟩,()) (fun t2 h3 =>
 K t2 h3) h1) h
def ZJ:Zhm:=Zbq Zex ZA
abbrev Zo6:=(Sl->HP)->HP
def Zcw (K:Sl->HP) (h:Zc):Prop :=
 newC h [.string (ByteArray.mk #[100,105,114,101,99,116]),.string (ByteArray.mk #[114,101,108,97,116,101]),.string (ByteArray.mk #[99,104,97,105,110])] 9 fun b h1 =>
 K ⟨some ⟨b,0,none⟩,3,3⟩ h1
def Xg:Zo6:=Zcw
abbrev Zo5:=Sl->Int->((vTy)->HP)->HP
def Zcv (f92:Zuv) (w:Sl) (n:Int) (K:(vTy)->HP) (h:Zc):Prop :=
 newC h v0C 33 fun b h1 =>
 Zgf (σ:=Int × Unit) (fun s h5 =>
 (fun (n4:Int) =>
 ZcM w.ptr w.len n4 1 fun b6 o =>
 ldS h5 b6 o fun t =>
 f92 t (fun t7 h8 =>
 sts h8 b 0 (vCl t7) fun h9 =>
 ldI h9 b 0 .u8 fun t10=>ldS h9 b (0+1) fun t11=>ldL h9 b (0+2) fun t12=>ldL h9 b (0+3) fun t13=>K (t10,t11,t12,t13,()) h9) h5) s.1) (fun J2 =>
 Zz (decide ((IntKind.wrap .i64 n)>=(w.len:Int))) (
 Zi 0 fun n3 =>
 J2 (n3,()) h1) (
 J2 (n,()) h1))
def Xf:Zo5:=Zcv Zaw
abbrev Zo4:=(Sl->HP)->HP
def Zd8 (K:Sl->HP) (h:Zc):Prop :=
 newC h [.string (ByteArray.mk #[114,101,106,101,99,116]),.string (ByteArray.mk #[119,97,114,109,117,112]),.string (ByteArray.mk #[112,97,99,101]),.string (ByteArray.mk #[119,97,114,109,112,97,99,101])] 9 fun b h1 =>
 K ⟨some ⟨b,0,none⟩,4,4⟩ h1
def X1:Zo4:=Zd8
abbrev ZvS:=(ByteArray × ByteArray × Bool × Int × Int × ByteArray × Int × Int × Int × Bool × Int × Bool × Unit)->(oA->HP)->HP
def Zfx (f123:Zfd) (f129:Zhn) (f130:Zo7) (f128:Zfc) (f131:Zhm) (f132:Zo6) (f133:Zo5) (f134:Zo4) (r:ByteArray × ByteArray × Bool × Int × Int × ByteArray × Int × Int × Int × Bool × Int × Bool × Unit) (K:oA->HP) (h:Zc):Prop :=
 newC h [.string r.1,.string r.2.1,.bool r.2.2.1,.int .i64 r.2.2.2.1,.int .u8 r.2.2.2.2.1,.string r.2.2.2.2.2.1,.int .u8 r.2.2.2.2.2.2.1,.int .i64 r.2.2.2.2.2.2.2.1,.int .i64 r.2.2.2.2.2.2.2.2.1,.bool r.2.2.2.2.2.2.2.2.2.1,.int .i64 r.2.2.2.2.2.2.2.2.2.2.1,.bool r.2.2.2.2.2.2.2.2.2.2.2.1] 75 fun b h1 =>
 ldS h1 b 0 fun t =>
 ldS h1 b (0+1) fun t2 =>
 ldB h1 b (0+2) fun t3 =>
 ldI h1 b (0+3) .i64 fun t4 =>
 f123 (fun t5 h6 =>
 Y6 (Z9 h6 [(b,0+3,.int .i64 t4)]) <|
 Y6 (Z9 h6 [(b,0+2,.bool t3)]) <|
 Y6 (Z9 h6 [(b,0+1,.string t2)]) <|
 Y6 (Z9 h6 [(b,0,.string t)]) <|
 f129 t5 (ByteArray.mk #[114,101,115,111,117,114,99,101]) t (fun t7 h8 =>
 Y6 (Z9 h8 [(b,0+3,.int .i64 t4)]) <|
 Y6 (Z9 h8 [(b,0+2,.bool t3)]) <|
 Y6 (Z9 h8 [(b,0+1,.string t2)]) <|
 f129 t7 (ByteArray.mk #[111,114,105,103,105,110]) t2 (fun t9 h10 =>
 Y6 (Z9 h10 [(b,0+3,.int .i64 t4)]) <|
 Y6 (Z9 h10 [(b,0+2,.bool t3)]) <|
 f130 t3 (fun t11 h12 =>
 Y6 (Z9 h12 [(b,0+3,.int .i64 t4)]) <|
 f128 t9 (ByteArray.mk #[116,104,114,101,97,100,115]) (t11.1,t11.2.1,⟨t11.2.2.1.ptr,t11.2.2.1.len,t11.2.2.1.cap⟩,⟨t11.2.2.2.1.ptr,t11.2.2.2.1.len,t11.2.2.2.1.cap⟩,()) (fun t13 h14 =>
 Y6 (Z9 h14 [(b,0+3,.int .i64 t4)]) <|
 f131 t13 (ByteArray.mk #[99,111,117,110,116]) t4 (fun t15 h16 =>
 ldI h16 b (0+4) .u8 fun t17 =>
 ldS h16 b (0+5) fun t18 =>
 ldI h16 b (0+6) .u8 fun t19 =>
 f132 (fun t20 h21 =>
 Y6 (Z9 h21 [(b,0+6,.int .u8 t19)]) <|
 Y6 (Z9 h21 [(b,0+5,.string t18)]) <|
 Y6 (Z9 h21 [(b,0+4,.int .u8 t17)]) <|
 f133 t20 t17 (fun t22 h23 =>
 Y6 (Z9 h23 [(b,0+6,.int .u8 t19)]) <|
 Y6 (Z9 h23 [(b,0+5,.string t18)]) <|
 f128 t15 (ByteArray.mk #[115,116,114,97,116,101,103,121]) (t22.1,t22.2.1,⟨t22.2.2.1.ptr,t22.2.2.1.len,t22.2.2.1.cap⟩,⟨t22.2.2.2.1.ptr,t22.2.2.2.1.len,t22.2.2.2.1.cap⟩,()) (fun t24 h25 =>
 Y6 (Z9 h25 [(b,0+6,.int .u8 t19)]) <|
 Y6 (Z9 h25 [(b,0+5,.string t18)]) <|
 f129 t24 (ByteArray.mk #[114,101,102]) t18 (fun t26 h27 =>
 Y6 (Z9 h27 [(b,0+6,.int .u8 t19)]) <|
 f134 (fun t28 h29 =>
 Y6 (Z9 h29 [(b,0+6,.int .u8 t19)]) <|
 f133 t28 t19 (fun t30 h31 =>
 f128 t26 (ByteArray.mk #[115,104,97,112,101]) (t30.1,t30.2.1,⟨t30.2.2.1.ptr,t30.2.2.1.len,t30.2.2.1.cap⟩,⟨t30.2.2.2.1.ptr,t30.2.2.2.1.len,t30.2.2.2.1.cap⟩,()) (fun t32 h33 =>
 ldI h33 b (0+7) .i64 fun t34 =>
 ldI h33 b (0+8) .i64 fun t35 =>
 f131 t15 (ByteArray.mk #[119,97,114,109]) t34 (fun t36 h37 =>
 Y6 (Z9 h37 [(b,0+8,.int .i64 t35)]) <|
 f131 t36 (ByteArray.mk #[113,117,101,117,101]) t35 (fun t38 h39 =>
 ldB h39 b (0+9) fun t40 =>
 ldI h39 b (0+10) .i64 fun t41 =>
 ldB h39 b (0+11) fun t42 =>
 f130 t40 (fun t43 h44 =>
 Y6 (Z9 h44 [(b,0+11,.bool t42)]) <|
 Y6 (Z9 h44 [(b,0+10,.int .i64 t41)]) <|
 f128 t15 (ByteArray.mk #[99,108,117,115,116,101,114]) (t43.1,t43.2.1,⟨t43.2.2.1.ptr,t43.2.2.1.len,t43.2.2.1.cap⟩,⟨t43.2.2.2.1.ptr,t43.2.2.2.1.len,t43.2.2.2.1.cap⟩,()) (fun t45 h46 =>
 Y6 (Z9 h46 [(b,0+11,.bool t42)]) <|
 Y6 (Z9 h46 [(b,0+10,.int .i64 t41)]) <|
 f131 t45 (ByteArray.mk #[105,100]) t41 (fun t47 h48 =>
 Y6 (Z9 h48 [(b,0+11,.bool t42)]) <|
 f130 t42 (fun t49 h50 =>
 f128 t47 (ByteArray.mk #[102,97,108,108,98,97,99,107]) (t49.1,t49.2.1,⟨t49.2.2.1.ptr,t49.2.2.1.len,t49.2.2.1.cap⟩,⟨t49.2.2.2.1.ptr,t49.2.2.2.1.len,t49.2.2.2.1.cap⟩,()) (fun t51 h52 =>
 K t51 h52) h50) h48) h46) h44) h39) h37) h33) h31) h29) h27) h25) h23) h21) h16) h14) h12) h10) h8) h6) h1
def Zcp:ZvS:=Zfx ZS ZU Zai ZA ZJ Xg Xf X1
abbrev Zfb:=Sl->((vTy)->HP)->HP
def ZiL (f126:Zh9) (l:Sl) (K:(vTy)->HP) (h:Zc):Prop :=
 newC h v0C 33 fun b h1 =>
 f126 (6,ByteArray.mk #[],l,n0S,()) (fun t h2 =>
 sts h2 b 0 (vCl t) fun h3 =>
 ldI h3 b 0 .u8 fun t4=>ldS h3 b (0+1) fun t5=>ldL h3 b (0+2) fun t6=>ldL h3 b (0+3) fun t7=>K (t4,t5,t6,t7,()) h3) h1
def Xh:Zfb:=ZiL ZbF
abbrev ZvR:=Sl->((vTy)->HP)->HP
def Y1 (f135:ZvS) (f136:Zfb) (l:Sl) (K:(vTy)->HP) (h:Zc):Prop :=
 newC h v0C 33 fun b h1 =>
 Zar (σ:=Sl × Int × Unit) (fun J2 s h3 =>
 (fun (out:Sl) (s10:Int) =>
 Zz (decide (s10<(l.len:Int))) (
 ZcM l.ptr l.len s10 12 fun b4 o =>
 ldS h3 b4 o fun t=>ldS h3 b4 (o+1) fun t5=>ldB h3 b4 (o+2) fun t6=>ldI h3 b4 (o+3) .i64 fun t7=>ldI h3 b4 (o+4) .u8 fun t8=>ldS h3 b4 (o+5) fun t9=>ldI h3 b4 (o+6) .u8 fun t10=>ldI h3 b4 (o+7) .i64 fun t11=>ldI h3 b4 (o+8) .i64 fun t12=>ldB h3 b4 (o+9) fun t13=>ldI h3 b4 (o+10) .i64 fun t14=>ldB h3 b4 (o+11) fun t15 =>
 newC h3 [.string e0B,.string e0B,.bool false,.int .i64 0,.int .u8 0,.string e0B,.int .u8 0,.int .i64 0,.int .i64 0,.bool false,.int .i64 0,.bool false] 75 fun b16 h17 =>
 sts h17 b16 0 [.string t,.string t5,.bool t6,.int .i64 t7,.int .u8 t8,.string t9,.int .u8 t10,.int .i64 t11,.int .i64 t12,.bool t13,.int .i64 t14,.bool t15] fun h18 =>
 ldS h18 b16 0 fun t19=>ldS h18 b16 (0+1) fun t20=>ldB h18 b16 (0+2) fun t21=>ldI h18 b16 (0+3) .i64 fun t22=>ldI h18 b16 (0+4) .u8 fun t23=>ldS h18 b16 (0+5) fun t24=>ldI h18 b16 (0+6) .u8 fun t25=>ldI h18 b16 (0+7) .i64 fun t26=>ldI h18 b16 (0+8) .i64 fun t27=>ldB h18 b16 (0+9) fun t28=>ldI h18 b16 (0+10) .i64 fun t29=>ldB h18 b16 (0+11) fun t30 =>
 f135 (t19,t20,t21,t22,t23,t24,t25,t26,t27,t28,t29,t30,()) (fun t31 h32 =>
 Ze t31 fun b33 o34 =>
 ldI h32 b33 o34 .u8 fun t35=>ldS h32 b33 (o34+1) fun t36=>ldL h32 b33 (o34+2) fun t37=>ldL h32 b33 (o34+3) fun t38 =>
 newC h32 [.int .u8 t35,.string t36,slv t37,slv t38] 33 fun b39 h40 =>
 rdS ⟨some ⟨b39,0,none⟩,1,1⟩ 4 h40 fun new=>app 33 4 72 v0C out 1 new h40 fun t41 h42 =>
 J2 (t41,IntKind.wrap .i64 (s10+1),()) h42) h18) (
 f136 out (fun t43 h44 =>
 sts h44 b 0 (vCl t43) fun h45 =>
 ldI h45 b 0 .u8 fun t46=>ldS h45 b (0+1) fun t47=>ldL h45 b (0+2) fun t48=>ldL h45 b (0+3) fun t49=>K (t46,t47,t48,t49,()) h45) h3)) s.1 s.2.1) (n0S,0,()) h1
def Yf:ZvR:=Y1 Zcp Xh
abbrev Zo3:=(Sl->HP)->HP
def Zd9 (K:Sl->HP) (h:Zc):Prop :=
 newC h [.string (ByteArray.mk #[115,108,111,119]),.string (ByteArray.mk #[101,114,114,111,114,115]),.string (ByteArray.mk #[99,111,117,110,116])] 9 fun b h1 =>
 K ⟨some ⟨b,0,none⟩,3,3⟩ h1
def X2:Zo3:=Zd9
abbrev ZvQ:=(ByteArray × Int × Int × Int × Int × Int × Int × Unit)->(oA->HP)->HP
def Zea (f123:Zfd) (f129:Zhn) (f138:Zo3) (f133:Zo5) (f128:Zfc) (f131:Zhm) (r:ByteArray × Int × Int × Int × Int × Int × Int × Unit) (K:oA->HP) (h:Zc):Prop :=
 newC h [.string r.1,.int .u8 r.2.1,.int .i64 r.2.2.1,.int .i64 r.2.2.2.1,.int .i64 r.2.2.2.2.1,.int .i64 r.2.2.2.2.2.1,.int .i64 r.2.2.2.2.2.2.1] 80 fun b h1 =>
 ldS h1 b 0 fun t =>
 ldI h1 b (0+1) .u8 fun t2 =>
 ldI h1 b (0+2) .i64 fun t3 =>
 f123 (fun t4 h5 =>
 Y6 (Z9 h5 [(b,0+2,.int .i64 t3)]) <|
 Y6 (Z9 h5 [(b,0+1,.int .u8 t2)]) <|
 Y6 (Z9 h5 [(b,0,.string t)]) <|
 f129 t4 (ByteArray.mk #[114,101,115,111,117,114,99,101]) t (fun t6 h7 =>
 Y6 (Z9 h7 [(b,0+2,.int .i64 t3)]) <|
 Y6 (Z9 h7 [(b,0+1,.int .u8 t2)]) <|
 f138 (fun t8 h9 =>
 Y6 (Z9 h9 [(b,0+2,.int .i64 t3)]) <|
 Y6 (Z9 h9 [(b,0+1,.int .u8 t2)]) <|
 f133 t8 t2 (fun t10 h11 =>
 Y6 (Z9 h11 [(b,0+2,.int .i64 t3)]) <|
 f128 t6 (ByteArray.mk #[103,114,97,100,101]) (t10.1,t10.2.1,⟨t10.2.2.1.ptr,t10.2.2.1.len,t10.2.2.1.cap⟩,⟨t10.2.2.2.1.ptr,t10.2.2.2.1.len,t10.2.2.2.1.cap⟩,()) (fun t12 h13 =>
 Y6 (Z9 h13 [(b,0+2,.int .i64 t3)]) <|
 f131 t12 (ByteArray.mk #[99,111,117,110,116]) t3 (fun t14 h15 =>
 ldI h15 b (0+3) .i64 fun t16 =>
 ldI h15 b (0+4) .i64 fun t17 =>
 ldI h15 b (0+5) .i64 fun t18 =>
 ldI h15 b (0+6) .i64 fun t19 =>
 f131 t14 (ByteArray.mk #[115,108,111,119]) t16 (fun t20 h21 =>
 Y6 (Z9 h21 [(b,0+6,.int .i64 t19)]) <|
 Y6 (Z9 h21 [(b,0+5,.int .i64 t18)]) <|
 Y6 (Z9 h21 [(b,0+4,.int .i64 t17)]) <|
 f131 t20 (ByteArray.mk #[108,101,97,115,116]) t17 (fun t22 h23 =>
 Y6 (Z9 h23 [(b,0+6,.int .i64 t19)]) <|
 Y6 (Z9 h23 [(b,0+5,.int .i64 t18)]) <|
 f131 t22 (ByteArray.mk #[119,105,110,100,111,119]) t18 (fun t24 h25 =>
 Y6 (Z9 h25 [(b,0+6,.int .i64 t19)]) <|
 f131 t24 (ByteArray.mk #[114,101,99,111,118,101,114]) t19 (fun t26 h27 =>
 K t26 h27) h25) h23) h21) h15) h13) h11) h9) h7) h5) h1
def Zbg:ZvQ:=Zea ZS ZU X2 Xf ZA ZJ
abbrev ZvP:=Sl->((vTy)->HP)->HP
def YV (f139:ZvQ) (f136:Zfb) (l:Sl) (K:(vTy)->HP) (h:Zc):Prop :=
 newC h v0C 33 fun b h1 =>
 Zar (σ:=Sl × Int × Unit) (fun J2 s h3 =>
 (fun (out:Sl) (s10:Int) =>
 Zz (decide (s10<(l.len:Int))) (
 ZcM l.ptr l.len s10 7 fun b4 o =>
 ldS h3 b4 o fun t=>ldI h3 b4 (o+1) .u8 fun t5=>ldI h3 b4 (o+2) .i64 fun t6=>ldI h3 b4 (o+3) .i64 fun t7=>ldI h3 b4 (o+4) .i64 fun t8=>ldI h3 b4 (o+5) .i64 fun t9=>ldI h3 b4 (o+6) .i64 fun t10 =>
 newC h3 [.string e0B,.int .u8 0,.int .i64 0,.int .i64 0,.int .i64 0,.int .i64 0,.int .i64 0] 80 fun b11 h12 =>
 sts h12 b11 0 [.string t,.int .u8 t5,.int .i64 t6,.int .i64 t7,.int .i64 t8,.int .i64 t9,.int .i64 t10] fun h13 =>
 ldS h13 b11 0 fun t14=>ldI h13 b11 (0+1) .u8 fun t15=>ldI h13 b11 (0+2) .i64 fun t16=>ldI h13 b11 (0+3) .i64 fun t17=>ldI h13 b11 (0+4) .i64 fun t18=>ldI h13 b11 (0+5) .i64 fun t19=>ldI h13 b11 (0+6) .i64 fun t20 =>
 f139 (t14,t15,t16,t17,t18,t19,t20,()) (fun t21 h22 =>
 Ze t21 fun b23 o24 =>
 ldI h22 b23 o24 .u8 fun t25=>ldS h22 b23 (o24+1) fun t26=>ldL h22 b23 (o24+2) fun t27=>ldL h22 b23 (o24+3) fun t28 =>
 newC h22 [.int .u8 t25,.string t26,slv t27,slv t28] 33 fun b29 h30 =>
 rdS ⟨some ⟨b29,0,none⟩,1,1⟩ 4 h30 fun new=>app 33 4 72 v0C out 1 new h30 fun t31 h32 =>
 J2 (t31,IntKind.wrap .i64 (s10+1),()) h32) h13) (
 f136 out (fun t33 h34 =>
 sts h34 b 0 (vCl t33) fun h35 =>
 ldI h35 b 0 .u8 fun t36=>ldS h35 b (0+1) fun t37=>ldL h35 b (0+2) fun t38=>ldL h35 b (0+3) fun t39=>K (t36,t37,t38,t39,()) h35) h3)) s.1 s.2.1) (n0S,0,()) h1
def Z7:ZvP:=YV Zbg Xh
abbrev ZvO:=(ByteArray × Int × Unit)->(oA->HP)->HP
def ZeL (f123:Zfd) (f129:Zhn) (f131:Zhm) (x:ByteArray × Int × Unit) (K:oA->HP) (h:Zc):Prop :=
 newC h [.string x.1,.int .i64 x.2.1] 203 fun b h1 =>
 ldS h1 b 0 fun t =>
 ldI h1 b (0+1) .i64 fun t2 =>
 f123 (fun t3 h4 =>
 Y6 (Z9 h4 [(b,0+1,.int .i64 t2)]) <|
 Y6 (Z9 h4 [(b,0,.string t)]) <|
 f129 t3 (ByteArray.mk #[118,97,108,117,101]) t (fun t5 h6 =>
 Y6 (Z9 h6 [(b,0+1,.int .i64 t2)]) <|
 f131 t5 (ByteArray.mk #[99,111,117,110,116]) t2 (fun t7 h8 =>
 K t7 h8) h6) h4) h1
def ZbU:ZvO:=ZeL ZS ZU ZJ
abbrev ZvN:=Sl->((vTy)->HP)->HP
def YZ (f141:ZvO) (f136:Zfb) (l:Sl) (K:(vTy)->HP) (h:Zc):Prop :=
 newC h v0C 33 fun b h1 =>
 Zar (σ:=Sl × Int × Unit) (fun J2 s h3 =>
 (fun (out:Sl) (s10:Int) =>
 Zz (decide (s10<(l.len:Int))) (
 ZcM l.ptr l.len s10 2 fun b4 o =>
 ldS h3 b4 o fun t=>ldI h3 b4 (o+1) .i64 fun t5 =>
 newC h3 [.string e0B,.int .i64 0] 203 fun b6 h7 =>
 sts h7 b6 0 [.string t,.int .i64 t5] fun h8 =>
 ldS h8 b6 0 fun t9=>ldI h8 b6 (0+1) .i64 fun t10 =>
 f141 (t9,t10,()) (fun t11 h12 =>
 Ze t11 fun b13 o14 =>
 ldI h12 b13 o14 .u8 fun t15=>ldS h12 b13 (o14+1) fun t16=>ldL h12 b13 (o14+2) fun t17=>ldL h12 b13 (o14+3) fun t18 =>
 newC h12 [.int .u8 t15,.string t16,slv t17,slv t18] 33 fun b19 h20 =>
 rdS ⟨some ⟨b19,0,none⟩,1,1⟩ 4 h20 fun new=>app 33 4 72 v0C out 1 new h20 fun t21 h22 =>
 J2 (t21,IntKind.wrap .i64 (s10+1),()) h22) h8) (
 f136 out (fun t23 h24 =>
 sts h24 b 0 (vCl t23) fun h25 =>
 ldI h25 b 0 .u8 fun t26=>ldS h25 b (0+1) fun t27=>ldL h25 b (0+2) fun t28=>ldL h25 b (0+3) fun t29=>K (t26,t27,t28,t29,()) h25) h3)) s.1 s.2.1) (n0S,0,()) h1
def Yd:ZvN:=YZ ZbU Xh
abbrev ZvM:=(ByteArray × Int × Int × Int × Sl × Unit)->(oA->HP)->HP
def Zf9 (f123:Zfd) (f129:Zhn) (f131:Zhm) (f142:ZvN) (f128:Zfc) (r:ByteArray × Int × Int × Int × Sl × Unit) (K:oA->HP) (h:Zc):Prop :=
 newC h [.string r.1,.int .i64 r.2.1,.int .i64 r.2.2.1,.int .i64 r.2.2.2.1,slv r.2.2.2.2.1] 85 fun b h1 =>
 ldS h1 b 0 fun t =>
 ldI h1 b (0+1) .i64 fun t2 =>
 ldI h1 b (0+2) .i64 fun t3 =>
 ldI h1 b (0+3) .i64 fun t4 =>
 f123 (fun t5 h6 =>
 Y6 (Z9 h6 [(b,0+3,.int .i64 t4)]) <|
 Y6 (Z9 h6 [(b,0+2,.int .i64 t3)]) <|
 Y6 (Z9 h6 [(b,0+1,.int .i64 t2)]) <|
 Y6 (Z9 h6 [(b,0,.string t)]) <|
 f129 t5 (ByteArray.mk #[114,101,115,111,117,114,99,101]) t (fun t7 h8 =>
 Y6 (Z9 h8 [(b,0+3,.int .i64 t4)]) <|
 Y6 (Z9 h8 [(b,0+2,.int .i64 t3)]) <|
 Y6 (Z9 h8 [(b,0+1,.int .i64 t2)]) <|
 f131 t7 (ByteArray.mk #[105,110,100,101,120]) t2 (fun t9 h10 =>
 Y6 (Z9 h10 [(b,0+3,.int .i64 t4)]) <|
 Y6 (Z9 h10 [(b,0+2,.int .i64 t3)]) <|
 f131 t9 (ByteArray.mk #[99,111,117,110,116]) t3 (fun t11 h12 =>
 Y6 (Z9 h12 [(b,0+3,.int .i64 t4)]) <|
 f131 t11 (ByteArray.mk #[115,101,99,111,110,100,115]) t4 (fun t13 h14 =>
 ldL h14 b (0+4) fun t15 =>
 f142 t15 (fun t16 h17 =>
 f128 t13 (ByteArray.mk #[105,116,101,109,115]) (t16.1,t16.2.1,⟨t16.2.2.1.ptr,t16.2.2.1.len,t16.2.2.1.cap⟩,⟨t16.2.2.2.1.ptr,t16.2.2.2.1.len,t16.2.2.2.1.cap⟩,()) (fun t18 h19 =>
 K t18 h19) h17) h14) h12) h10) h8) h6) h1
def Zc9:ZvM:=Zf9 ZS ZU ZJ Yd ZA
abbrev ZvL:=Sl->((vTy)->HP)->HP
def Y7 (f143:ZvM) (f136:Zfb) (l:Sl) (K:(vTy)->HP) (h:Zc):Prop :=
 newC h v0C 33 fun b h1 =>
 Zar (σ:=Sl × Int × Unit) (fun J2 s h3 =>
 (fun (out:Sl) (s10:Int) =>
 Zz (decide (s10<(l.len:Int))) (
 ZcM l.ptr l.len s10 5 fun b4 o =>
 ldS h3 b4 o fun t=>ldI h3 b4 (o+1) .i64 fun t5=>ldI h3 b4 (o+2) .i64 fun t6=>ldI h3 b4 (o+3) .i64 fun t7=>ldL h3 b4 (o+4) fun t8 =>
 newC h3 [.string e0B,.int .i64 0,.int .i64 0,.int .i64 0,n0V] 85 fun b9 h10 =>
 sts h10 b9 0 [.string t,.int .i64 t5,.int .i64 t6,.int .i64 t7,slv t8] fun h11 =>
 ldS h11 b9 0 fun t12=>ldI h11 b9 (0+1) .i64 fun t13=>ldI h11 b9 (0+2) .i64 fun t14=>ldI h11 b9 (0+3) .i64 fun t15=>ldL h11 b9 (0+4) fun t16 =>
 f143 (t12,t13,t14,t15,t16,()) (fun t17 h18 =>
 Ze t17 fun b19 o20 =>
 ldI h18 b19 o20 .u8 fun t21=>ldS h18 b19 (o20+1) fun t22=>ldL h18 b19 (o20+2) fun t23=>ldL h18 b19 (o20+3) fun t24 =>
 newC h18 [.int .u8 t21,.string t22,slv t23,slv t24] 33 fun b25 h26 =>
 rdS ⟨some ⟨b25,0,none⟩,1,1⟩ 4 h26 fun new=>app 33 4 72 v0C out 1 new h26 fun t27 h28 =>
 J2 (t27,IntKind.wrap .i64 (s10+1),()) h28) h11) (
 f136 out (fun t29 h30 =>
 sts h30 b 0 (vCl t29) fun h31 =>
 ldI h31 b 0 .u8 fun t32=>ldS h31 b (0+1) fun t33=>ldL h31 b (0+2) fun t34=>ldL h31 b (0+3) fun t35=>K (t32,t33,t34,t35,()) h31) h3)) s.1 s.2.1) (n0S,0,()) h1
def Yh:ZvL:=Y7 Zc9 Xh
abbrev ZvK:=(Int × Int × Int × Int × Int × Unit)->(oA->HP)->HP
def Zd7 (f123:Zfd) (f131:Zhm) (r:Int × Int × Int × Int × Int × Unit) (K:oA->HP) (h:Zc):Prop :=
 newC h [.int .i64 r.1,.int .i64 r.2.1,.int .i64 r.2.2.1,.int .i64 r.2.2.2.1,.int .i64 r.2.2.2.2.1] 91 fun b h1 =>
 ldI h1 b 0 .i64 fun t =>
 ldI h1 b (0+1) .i64 fun t2 =>
 ldI h1 b (0+2) .i64 fun t3 =>
 ldI h1 b (0+3) .i64 fun t4 =>
 ldI h1 b (0+4) .i64 fun t5 =>
 f123 (fun t6 h7 =>
 Y6 (Z9 h7 [(b,0+4,.int .i64 t5)]) <|
 Y6 (Z9 h7 [(b,0+3,.int .i64 t4)]) <|
 Y6 (Z9 h7 [(b,0+2,.int .i64 t3)]) <|
 Y6 (Z9 h7 [(b,0+1,.int .i64 t2)]) <|
 Y6 (Z9 h7 [(b,0,.int .i64 t)]) <|
 f131 t6 (ByteArray.mk #[113,112,115]) t (fun t8 h9 =>
 Y6 (Z9 h9 [(b,0+4,.int .i64 t5)]) <|
 Y6 (Z9 h9 [(b,0+3,.int .i64 t4)]) <|
 Y6 (Z9 h9 [(b,0+2,.int .i64 t3)]) <|
 Y6 (Z9 h9 [(b,0+1,.int .i64 t2)]) <|
 f131 t8 (ByteArray.mk #[116,104,114,101,97,100,115]) t2 (fun t10 h11 =>
 Y6 (Z9 h11 [(b,0+4,.int .i64 t5)]) <|
 Y6 (Z9 h11 [(b,0+3,.int .i64 t4)]) <|
 Y6 (Z9 h11 [(b,0+2,.int .i64 t3)]) <|
 f131 t10 (ByteArray.mk #[114,116]) t3 (fun t12 h13 =>
 Y6 (Z9 h13 [(b,0+4,.int .i64 t5)]) <|
 Y6 (Z9 h13 [(b,0+3,.int .i64 t4)]) <|
 f131 t12 (ByteArray.mk #[108,111,97,100]) t4 (fun t14 h15 =>
 Y6 (Z9 h15 [(b,0+4,.int .i64 t5)]) <|
 f131 t14 (ByteArray.mk #[99,112,117]) t5 (fun t16 h17 =>
 K t16 h17) h15) h13) h11) h9) h7) h1
def Zbd:ZvK:=Zd7 ZS ZJ
abbrev ZvJ:=Sl->((vTy)->HP)->HP
def YK (f145:ZvK) (f136:Zfb) (l:Sl) (K:(vTy)->HP) (h:Zc):Prop :=
 newC h v0C 33 fun b h1 =>
 Zar (σ:=Sl × Int × Unit) (fun J2 s h3 =>
 (fun (out:Sl) (s10:Int) =>
 Zz (decide (s10<(l.len:Int))) (
 ZcM l.ptr l.len s10 5 fun b4 o =>
 ldI h3 b4 o .i64 fun t=>ldI h3 b4 (o+1) .i64 fun t5=>ldI h3 b4 (o+2) .i64 fun t6=>ldI h3 b4 (o+3) .i64 fun t7=>ldI h3 b4 (o+4) .i64 fun t8 =>
 newC h3 [.int .i64 0,.int .i64 0,.int .i64 0,.int .i64 0,.int .i64 0] 91 fun b9 h10 =>
 sts h10 b9 0 [.int .i64 t,.int .i64 t5,.int .i64 t6,.int .i64 t7,.int .i64 t8] fun h11 =>
 ldI h11 b9 0 .i64 fun t12=>ldI h11 b9 (0+1) .i64 fun t13=>ldI h11 b9 (0+2) .i64 fun t14=>ldI h11 b9 (0+3) .i64 fun t15=>ldI h11 b9 (0+4) .i64 fun t16 =>
 f145 (t12,t13,t14,t15,t16,()) (fun t17 h18 =>
 Ze t17 fun b19 o20 =>
 ldI h18 b19 o20 .u8 fun t21=>ldS h18 b19 (o20+1) fun t22=>ldL h18 b19 (o20+2) fun t23=>ldL h18 b19 (o20+3) fun t24 =>
 newC h18 [.int .u8 t21,.string t22,slv t23,slv t24] 33 fun b25 h26 =>
 rdS ⟨some ⟨b25,0,none⟩,1,1⟩ 4 h26 fun new=>app 33 4 72 v0C out 1 new h26 fun t27 h28 =>
 J2 (t27,IntKind.wrap .i64 (s10+1),()) h28) h11) (
 f136 out (fun t29 h30 =>
 sts h30 b 0 (vCl t29) fun h31 =>
 ldI h31 b 0 .u8 fun t32=>ldS h31 b (0+1) fun t33=>ldL h31 b (0+2) fun t34=>ldL h31 b (0+3) fun t35=>K (t32,t33,t34,t35,()) h31) h3)) s.1 s.2.1) (n0S,0,()) h1
def Z1:ZvJ:=YK Zbd Xh
abbrev ZvI:=(ByteArray × Bool × Sl × Unit)->(oA->HP)->HP
def Zfw (f92:Zuv) (f123:Zfd) (f129:Zhn) (f130:Zo7) (f128:Zfc) (f136:Zfb) (r:ByteArray × Bool × Sl × Unit) (K:oA->HP) (h:Zc):Prop :=
 newC h [.string r.1,.bool r.2.1,slv r.2.2.1] 95 fun b h1 =>
 ldL h1 b (0+2) fun t =>
 Zar (σ:=Sl × Int × Unit) (fun J2 s h3 =>
 (fun (origins:Sl) (s9:Int) =>
 Zz (decide (s9<(t.len:Int))) (
 ZcM t.ptr t.len s9 1 fun b4 o =>
 ldS h3 b4 o fun t5 =>
 f92 t5 (fun t6 h7 =>
 newC h7 (vCl t6) 33 fun b8 h9 =>
 rdS ⟨some ⟨b8,0,none⟩,1,1⟩ 4 h9 fun new=>app 33 4 72 v0C origins 1 new h9 fun t10 h11 =>
 J2 (t10,IntKind.wrap .i64 (s9+1),()) h11) h3) (
 ldS h3 b 0 fun t12 =>
 ldB h3 b (0+1) fun t13 =>
 f123 (fun t14 h15 =>
 Y6 (Z9 h15 [(b,0+1,.bool t13)]) <|
 Y6 (Z9 h15 [(b,0,.string t12)]) <|
 f129 t14 (ByteArray.mk #[114,101,115,111,117,114,99,101]) t12 (fun t16 h17 =>
 Y6 (Z9 h17 [(b,0+1,.bool t13)]) <|
 f130 t13 (fun t18 h19 =>
 f128 t16 (ByteArray.mk #[119,104,105,116,101]) (t18.1,t18.2.1,⟨t18.2.2.1.ptr,t18.2.2.1.len,t18.2.2.1.cap⟩,⟨t18.2.2.2.1.ptr,t18.2.2.2.1.len,t18.2.2.2.1.cap⟩,()) (fun t20 h21 =>
 f136 origins (fun t22 h23 =>
 f128 t20 (ByteArray.mk #[111,114,105,103,105,110,115]) (t22.1,t22.2.1,⟨t22.2.2.1.ptr,t22.2.2.1.len,t22.2.2.1.cap⟩,⟨t22.2.2.2.1.ptr,t22.2.2.2.1.len,t22.2.2.2.1.cap⟩,()) (fun t24 h25 =>
 K t24 h25) h23) h21) h19) h17) h15) h3)) s.1 s.2.1) (n0S,0,()) h1
def Zco:ZvI:=Zfw Zaw ZS ZU Zai ZA Xh
abbrev ZvH:=Sl->((vTy)->HP)->HP
def YG (f147:ZvI) (f136:Zfb) (l:Sl) (K:(vTy)->HP) (h:Zc):Prop :=
 newC h v0C 33 fun b h1 =>
 Zar (σ:=Sl × Int × Unit) (fun J2 s h3 =>
 (fun (out:Sl) (s10:Int) =>
 Zz (decide (s10<(l.len:Int))) (
 ZcM l.ptr l.len s10 3 fun b4 o =>
 ldS h3 b4 o fun t=>ldB h3 b4 (o+1) fun t5=>ldL h3 b4 (o+2) fun t6 =>
 newC h3 [.string e0B,.bool false,n0V] 95 fun b7 h8 =>
 sts h8 b7 0 [.string t,.bool t5,slv t6] fun h9 =>
 ldS h9 b7 0 fun t10=>ldB h9 b7 (0+1) fun t11=>ldL h9 b7 (0+2) fun t12 =>
 f147 (t10,t11,t12,()) (fun t13 h14 =>
 Ze t13 fun b15 o16 =>
 ldI h14 b15 o16 .u8 fun t17=>ldS h14 b15 (o16+1) fun t18=>ldL h14 b15 (o16+2) fun t19=>ldL h14 b15 (o16+3) fun t20 =>
 newC h14 [.int .u8 t17,.string t18,slv t19,slv t20] 33 fun b21 h22 =>
 rdS ⟨some ⟨b21,0,none⟩,1,1⟩ 4 h22 fun new=>app 33 4 72 v0C out 1 new h22 fun t23 h24 =>
 J2 (t23,IntKind.wrap .i64 (s10+1),()) h24) h9) (
 f136 out (fun t25 h26 =>
 sts h26 b 0 (vCl t25) fun h27 =>
 ldI h27 b 0 .u8 fun t28=>ldS h27 b (0+1) fun t29=>ldL h27 b (0+2) fun t30=>ldL h27 b (0+3) fun t31=>K (t28,t29,t30,t31,()) h27) h3)) s.1 s.2.1) (n0S,0,()) h1
def ZV:ZvH:=YG Zco Xh
abbrev ZvG:=(rTy)->((vTy)->HP)->HP
def ZdT (f123:Zfd) (f137:ZvR) (f128:Zfc) (f140:ZvP) (f144:ZvL) (f146:ZvJ) (f148:ZvH) (r:rTy) (K:(vTy)->HP) (h:Zc):Prop :=
 newC h (rCl r) 28 fun b h1 =>
 newC h1 v0C 33 fun b2 h3 =>
 ldL h3 b 0 fun t =>
 ldL h3 b (0+1) fun t4 =>
 ldL h3 b (0+2) fun t5 =>
 f123 (fun t6 h7 =>
 ndL h7 b (0+2) t5 <|
 ndL h7 b (0+1) t4 <|
 ndL h7 b 0 t <|
 f137 t (fun t8 h9 =>
 ndL h9 b (0+2) t5 <|
 ndL h9 b (0+1) t4 <|
 f128 t6 (ByteArray.mk #[102,108,111,119]) (t8.1,t8.2.1,⟨t8.2.2.1.ptr,t8.2.2.1.len,t8.2.2.1.cap⟩,⟨t8.2.2.2.1.ptr,t8.2.2.2.1.len,t8.2.2.2.1.cap⟩,()) (fun t10 h11 =>
 ndL h11 b (0+2) t5 <|
 ndL h11 b (0+1) t4 <|
 f140 t4 (fun t12 h13 =>
 ndL h13 b (0+2) t5 <|
 f128 t10 (ByteArray.mk #[98,114,101,97,107]) (t12.1,t12.2.1,⟨t12.2.2.1.ptr,t12.2.2.1.len,t12.2.2.1.cap⟩,⟨t12.2.2.2.1.ptr,t12.2.2.2.1.len,t12.2.2.2.1.cap⟩,()) (fun t14 h15 =>
 ndL h15 b (0+2) t5 <|
 f144 t5 (fun t16 h17 =>
 f128 t14 (ByteArray.mk #[104,111,116]) (t16.1,t16.2.1,⟨t16.2.2.1.ptr,t16.2.2.1.len,t16.2.2.1.cap⟩,⟨t16.2.2.2.1.ptr,t16.2.2.2.1.len,t16.2.2.2.1.cap⟩,()) (fun t18 h19 =>
 ldL h19 b (0+3) fun t20 =>
 ldL h19 b (0+4) fun t21 =>
 f146 t20 (fun t22 h23 =>
 ndL h23 b (0+4) t21 <|
 f128 t18 (ByteArray.mk #[115,121,115,116,101,109]) (t22.1,t22.2.1,⟨t22.2.2.1.ptr,t22.2.2.1.len,t22.2.2.1.cap⟩,⟨t22.2.2.2.1.ptr,t22.2.2.2.1.len,t22.2.2.2.1.cap⟩,()) (fun t24 h25 =>
 ndL h25 b (0+4) t21 <|
 f148 t21 (fun t26 h27 =>
 f128 t24 (ByteArray.mk #[97,117,116,104,111,114,105,116,121]) (t26.1,t26.2.1,⟨t26.2.2.1.ptr,t26.2.2.1.len,t26.2.2.1.cap⟩,⟨t26.2.2.2.1.ptr,t26.2.2.2.1.len,t26.2.2.2.1.cap⟩,()) (fun t28 h29 =>
 Ze t28 fun b30 o =>
 ldI h29 b30 o .u8 fun t31=>ldS h29 b30 (o+1) fun t32=>ldL h29 b30 (o+2) fun t33=>ldL h29 b30 (o+3) fun t34 =>
 sts h29 b2 0 [.int .u8 t31,.string t32,slv t33,slv t34] fun h35 =>
 ldI h35 b2 0 .u8 fun t36=>ldS h35 b2 (0+1) fun t37=>ldL h35 b2 (0+2) fun t38=>ldL h35 b2 (0+3) fun t39=>K (t36,t37,t38,t39,()) h35) h27) h25) h23) h19) h17) h15) h13) h11) h9) h7) h3
def ZaU:ZvG:=ZdT ZS Yf ZA Z7 Yh Z1 ZV
abbrev ZvF:=Int->oA->oA->((oA × oA × oA × Unit)->HP)->HP
def Zb8 (k:Int) (a1:oA) (a2:oA) (K:(oA × oA × oA × Unit)->HP) (h:Zc):Prop :=
 newC h [.int .i64 k] 3 fun b h1 =>
 K (a1,a2,some ⟨b,0,none⟩,()) h1
def XY:ZvF:=Zb8
abbrev ZiV:=oA->Int->(HP)->HP
def Zcu (w:oA) (err:Int) (K:HP) (h:Zc):Prop :=
 Ze w fun b o =>
 ldI h b o .i64 fun t =>
 Zz (t ==0) (
 Ze w fun b1 o2 =>
 st h b1 o2 (.int .i64 err) fun h3 =>
 K h3) (
 K h)
def Ye:ZiV:=Zcu
abbrev ZvE:=Sl->ByteArray->(Int->HP)->HP
def Xv (s:Sl) (v:ByteArray) (K:Int->HP) (h:Zc):Prop :=
 Zi 0 fun t =>
 Zar (σ:=Int × Unit) (fun J1 s2 h3 =>
 (fun (s8:Int) =>
 Zz (decide (s8<(s.len:Int))) (
 Zi s8 fun i =>
 ZcM s.ptr s.len i 1 fun b o =>
 ldS h3 b o fun t4 =>
 Zz (Zch v t4) (
 Zi i fun t5 =>
 K t5 h3) (
 J1 (IntKind.wrap .i64 (s8+1),()) h3)) (
 Zi (-1) fun t6 =>
 K t6 h3)) s2.1) (0,()) h
def Xu:ZvE:=Xv
abbrev Zo2:=Sl->ByteArray->(Bool->HP)->HP
def XP (f152:ZvE) (s:Sl) (v:ByteArray) (K:Bool->HP) (h:Zc):Prop :=
 f152 s v (fun t h1 =>
 Yx (decide (t>=0)) fun t2 =>
 K t2 h1) h
def ZY:Zo2:=XP Xu
abbrev Zfa:=oA->(vTy)->Int->(Bool->HP)->HP
def Zb0 (f151:ZiV) (r:oA) (v:vTy) (k:Int) (K:Bool->HP) (h:Zc):Prop :=
 newC h (vCl v) 33 fun b h1 =>
 ldI h1 b 0 .u8 fun t =>
 Zz (t !=k) (
 Ze r fun b2 o =>
 f151 (some ⟨b2,o,none⟩) 26 (fun h3 =>
 ldI h3 b 0 .u8 fun t4 =>
 Yx (t4 ==k) fun t5 =>
 K t5 h3) h1) (
 ldI h1 b 0 .u8 fun t6 =>
 Yx (t6 ==k) fun t7 =>
 K t7 h1)
def Zw:Zfa:=Zb0 Ye
abbrev ZvD:=(vTy)->oA->oA->(HP)->HP
def Zbm (f154:Zfa) (v:vTy) (a1:oA) (a2:oA) (K:HP) (h:Zc):Prop :=
 newC h (vCl v) 33 fun b h1 =>
 Ze a1 fun b2 o=>ldP h1 b2 o fun t =>
 ldI h1 b 0 .u8 fun t3=>ldS h1 b (0+1) fun t4=>ldL h1 b (0+2) fun t5=>ldL h1 b (0+3) fun t6 =>
 f154 t (t3,t4,t5,t6,()) 5 (fun t7 h8 =>
 Zz t7 (
 Ze a2 fun b9 o10=>ldP h8 b9 o10 fun t11 =>
 ldS h8 b (0+1) fun t12 =>
 Ze t11 fun b13 o14 =>
 st h8 b13 o14 (.string t12) fun h15 =>
 K h15) (
 K h8)) h1
def YT:ZvD:=Zbm Zw
abbrev ZvC:=(vTy)->oA->oA->(HP)->HP
def ZbH (f154:Zfa) (v:vTy) (a1:oA) (a2:oA) (K:HP) (h:Zc):Prop :=
 newC h (vCl v) 33 fun b h1 =>
 ldI h1 b 0 .u8 fun t =>
 Zz (t !=3) (
 Ze a1 fun b2 o=>ldP h1 b2 o fun t3 =>
 ldI h1 b 0 .u8 fun t4=>ldS h1 b (0+1) fun t5=>ldL h1 b (0+2) fun t6=>ldL h1 b (0+3) fun t7 =>
 f154 t3 (t4,t5,t6,t7,()) 2 (fun t8 h9 =>
 Ze a2 fun b10 o11=>ldP h9 b10 o11 fun t12 =>
 ldI h9 b 0 .u8 fun t13 =>
 Ze t12 fun b14 o15 =>
 st h9 b14 o15 (.bool (t13 ==3)) fun h16 =>
 K h16) h1) (
 Ze a2 fun b17 o18=>ldP h1 b17 o18 fun t19 =>
 ldI h1 b 0 .u8 fun t20 =>
 Ze t19 fun b21 o22 =>
 st h1 b21 o22 (.bool (t20 ==3)) fun h23 =>
 K h23)
def YY:ZvC:=ZbH Zw
abbrev ZvB:=(vTy)->oA->oA->(HP)->HP
def ZaM (f154:Zfa) (f72:ZLB) (f151:ZiV) (f62:ZDO) (v:vTy) (a1:oA) (a2:oA) (K:HP) (h:Zc):Prop :=
 newC h (vCl v) 33 fun b h1 =>
 Ze a1 fun b2 o=>ldP h1 b2 o fun t =>
 ldI h1 b 0 .u8 fun t3=>ldS h1 b (0+1) fun t4=>ldL h1 b (0+2) fun t5=>ldL h1 b (0+3) fun t6 =>
 f154 t (t3,t4,t5,t6,()) 4 (fun t7 h8 =>
 Zz (!t7) (
 K h8) (
 ldS h8 b (0+1) fun t9 =>
 f72 t9 (fun t10 t11 h12 =>
 Zi t10 fun n =>
 Znb t11 fun b13 =>
 Zz (!b13) (
 Ze a1 fun b14 o15=>ldP h12 b14 o15 fun t16 =>
 Ze t16 fun b17 o18 =>
 f151 (some ⟨b17,o18,none⟩) 21 (fun h19 =>
 K h19) h12) (
 ldS h12 b (0+1) fun t20 =>
 f62 n (fun t21 h22 =>
 Y6 (Z9 h22 [(b,0+1,.string t20)]) <|
 Zz (!(Zch t21 t20)) (
 Ze a1 fun b23 o24=>ldP h22 b23 o24 fun t25 =>
 Ze t25 fun b26 o27 =>
 f151 (some ⟨b26,o27,none⟩) 21 (fun h28 =>
 K h28) h22) (
 Ze a2 fun b29 o30=>ldP h22 b29 o30 fun t31 =>
 Ze t31 fun b32 o33 =>
 st h22 b32 o33 (.int .i64 n) fun h34 =>
 K h34)) h12)) h8)) h1
def YB:ZvB:=ZaM Zw Zek Ye ZcY
abbrev ZvA:=Sl->ByteArray->(Int->HP)->HP
def Zas (s:Sl) (v:ByteArray) (K:Int->HP) (h:Zc):Prop :=
 Zi 0 fun t =>
 Zar (σ:=Int × Unit) (fun J1 s2 h3 =>
 (fun (s8:Int) =>
 Zz (decide (s8<(s.len:Int))) (
 Zi s8 fun i =>
 ZcM s.ptr s.len i 1 fun b o =>
 ldS h3 b o fun t4 =>
 Zz (Zch v t4) (
 Zi i fun t5 =>
 K t5 h3) (
 J1 (IntKind.wrap .i64 (s8+1),()) h3)) (
 Zi (-1) fun t6 =>
 K t6 h3)) s2.1) (0,()) h
def YO:ZvA:=Zas
abbrev Zvz:=Int->oA->(HP)->HP
def Zdv (n:Int) (a1:oA) (K:HP) (h:Zc):Prop :=
 Ze a1 fun b o =>
 st h b (o+4) (.int .u8 (IntKind.wrap .u8 n)) fun h1 =>
 K h1
def Zbf:Zvz:=Zdv
abbrev Zvy:=Int->oA->(HP)->HP
def Zdu (n:Int) (a1:oA) (K:HP) (h:Zc):Prop :=
 Ze a1 fun b o =>
 st h b (o+6) (.int .u8 (IntKind.wrap .u8 n)) fun h1 =>
 K h1
def Zbe:Zvy:=Zdu
abbrev Zvx:=Int->oA->(HP)->HP
def ZcJ (n:Int) (a1:oA) (K:HP) (h:Zc):Prop :=
 Ze a1 fun b o =>
 st h b (o+1) (.int .u8 (IntKind.wrap .u8 n)) fun h1 =>
 K h1
def ZaL:Zvx:=ZcJ
abbrev Zvw:=(vTy)->oA->oA->oA->(HP)->HP
def Zbl (f154:Zfa) (f158:ZvA) (f151:ZiV) (f159:Zvz) (f160:Zvy) (f161:Zvx) (v:vTy) (a1:oA) (a2:oA) (a3:oA) (K:HP) (h:Zc):Prop :=
 newC h (vCl v) 33 fun b h1 =>
 Ze a1 fun b2 o=>ldP h1 b2 o fun t =>
 ldI h1 b 0 .u8 fun t3=>ldS h1 b (0+1) fun t4=>ldL h1 b (0+2) fun t5=>ldL h1 b (0+3) fun t6 =>
 f154 t (t3,t4,t5,t6,()) 5 (fun t7 h8 =>
 Zz (!t7) (
 K h8) (
 Ze a2 fun b9 o10=>ldL h8 b9 o10 fun t11 =>
 ldS h8 b (0+1) fun t12 =>
 f158 t11 t12 (fun t13 h14 =>
 Zi t13 fun n =>
 Zz (decide (n<0)) (
 Ze a1 fun b15 o16=>ldP h14 b15 o16 fun t17 =>
 Ze t17 fun b18 o19 =>
 f151 (some ⟨b18,o19,none⟩) 26 (fun h20 =>
 K h20) h14) (
 Ze a3 fun b21 o22=>ldV h14 b21 o22 fun t23 =>
 (exG t23 (fun c:oA × Unit=> .func (.func 140) #[] ⟨[.pointer c.1]⟩) fun c=>f159 n c.1 (fun h24 =>
 K h24) h14)\/(
 (exG t23 (fun c25:oA × Unit=> .func (.func 141) #[] ⟨[.pointer c25.1]⟩) fun c25=>f160 n c25.1 (fun h24 =>
 K h24) h14)\/(
 (exG t23 (fun c26:oA × Unit=> .func (.func 142) #[] ⟨[.pointer c26.1]⟩) fun c26=>f161 n c26.1 (fun h24 =>
 K h24) h14)\/(
 False))))) h8)) h1
def YS:Zvw:=Zbl Zw YO Ye Zbf Zbe ZaL
abbrev Zhl:=oA->oA->((oA × oA × Unit)->HP)->HP
def Zd3 (r:oA) (tO:oA) (K:(oA × oA × Unit)->HP) (h:Zc):Prop :=
 newC h [.pointer r] 98 fun b h1 =>
 newC h1 [.pointer tO] 209 fun b2 h3 =>
 K (some ⟨b,0,none⟩,some ⟨b2,0,none⟩,()) h3
def Ya:Zhl:=Zd3
abbrev Zhk:=oA->oA->((oA × oA × Unit)->HP)->HP
def Zdt (r:oA) (tO:oA) (K:(oA × oA × Unit)->HP) (h:Zc):Prop :=
 newC h [.pointer r] 98 fun b h1 =>
 newC h1 [.pointer tO] 213 fun b2 h3 =>
 K (some ⟨b,0,none⟩,some ⟨b2,0,none⟩,()) h3
def ZQ:Zhk:=Zdt
abbrev ZcV:=oA->(vTy)->(Option Nat)->(HP)->HP
abbrev ZnB:=(vTy)->oA->oA->(HP)->HP
def ZbI (f163:Zhl) (f164:Zhk) (f165:ZcV) (v:vTy) (a1:oA) (a2:oA) (K:HP) (h:Zc):Prop :=
 newC h (vCl v) 33 fun b h1 =>
 newC h1 [.string e0B,.int .i64 0] 203 fun b2 h3 =>
 Ze a1 fun b4 o=>ldP h3 b4 o fun t =>
 ldI h3 b 0 .u8 fun t5=>ldS h3 b (0+1) fun t6=>ldL h3 b (0+2) fun t7=>ldL h3 b (0+3) fun t8 =>
 Ze a1 fun b9 o10=>ldP h3 b9 o10 fun t11 =>
 Ze a1 fun b12 o13=>ldP h3 b12 o13 fun t14 =>
 Zyz (σ:=Option Nat × (oA × oA × Unit) × (oA × oA × Unit) × Unit) (fun I d s h15 =>
 (fun (s7:Option Nat) (s10:oA × oA × Unit) (s13:oA × oA × Unit) =>
 (d 2=false->(
 Zij h15 fun b16 h17 =>
 ndP h17 b12 o13 t14 <|
 ndP h17 b9 o10 t11 <|
 ndV h17 b t5 t6 t7 t8 <|
 ndP h17 b4 o t <|
 I (XL d 2) (some b16,s10,s13,()) h17)) /\
 (d 5=false->(
 f163 t11 (some ⟨b2,0,none⟩) (fun s1018 h19 =>
 ndP h19 b12 o13 t14 <|
 ndV h19 b t5 t6 t7 t8 <|
 ndP h19 b4 o t <|
 I (XL d 5) (s7,(s1018.1,s1018.2.1,()),s13,()) h19) h15)) /\
 (d 6=false->d 2=true->d 5=true->(
 Xr .string h15 s7 (.string (ByteArray.mk #[118,97,108,117,101])) (.func (.func 211) #[] #[.pointer s10.1,.pointer s10.2.1]) fun h20 =>
 ndP h20 b12 o13 t14 <|
 ndP h20 b9 o10 t11 <|
 ndV h20 b t5 t6 t7 t8 <|
 ndP h20 b4 o t <|
 I (XL d 6) (s7,s10,s13,()) h20)) /\
 (d 9=false->d 5=true->(
 f164 t14 (some ⟨b2,0+1,none⟩) (fun s1321 h22 =>
 ndP h22 b9 o10 t11 <|
 ndV h22 b t5 t6 t7 t8 <|
 ndP h22 b4 o t <|
 I (XL d 9) (s7,s10,(s1321.1,s1321.2.1,()),()) h22) h15)) /\
 (d 10=false->d 2=true->d 9=true->(
 Xr .string h15 s7 (.string (ByteArray.mk #[99,111,117,110,116])) (.func (.func 213) #[] #[.pointer s13.1,.pointer s13.2.1]) fun h23 =>
 ndP h23 b12 o13 t14 <|
 ndP h23 b9 o10 t11 <|
 ndV h23 b t5 t6 t7 t8 <|
 ndP h23 b4 o t <|
 I (XL d 10) (s7,s10,s13,()) h23))/\True) s.1 s.2.1 s.2.2.1) (fun d24 s25 h26 =>
 (fun (s727:Option Nat) (s1028:oA × oA × Unit) (s1329:oA × oA × Unit) =>
 d24 2=true->d24 5=true->d24 6=true->d24 9=true->d24 10=true->(
 ndP h26 b12 o13 t14 <|
 ndP h26 b9 o10 t11 <|
 ndV h26 b t5 t6 t7 t8 <|
 ndP h26 b4 o t <|
 f165 t (t5,t6,t7,t8,()) s727 (fun h30 =>
 ndP h30 b12 o13 t14 <|
 ndP h30 b9 o10 t11 <|
 Ze a2 fun b31 o32 =>
 ldL h30 b31 (o32+4) fun t33 =>
 ldS h30 b2 0 fun t34=>ldI h30 b2 (0+1) .i64 fun t35 =>
 newC h30 [.string t34,.int .i64 t35] 203 fun b36 h37 =>
 rdS ⟨some ⟨b36,0,none⟩,1,1⟩ 2 h37 fun new=>app 203 2 24 [.string e0B,.int .i64 0] t33 1 new h37 fun t38 h39 =>
 Ze a2 fun b40 o41 =>
 st h39 b40 (o41+4) (slv t38) fun h42 =>
 K h42) h26)) s25.1 s25.2.1 s25.2.2.1) h3
def Xk (f165:ZcV):ZnB:=ZbI Ya ZQ f165
abbrev Zvv:=(vTy)->oA->oA->(HP)->HP
def Zbo (f154:Zfa) (v:vTy) (a1:oA) (a2:oA) (K:HP) (h:Zc):Prop :=
 newC h (vCl v) 33 fun b h1 =>
 Ze a1 fun b2 o=>ldP h1 b2 o fun t =>
 ldI h1 b 0 .u8 fun t3=>ldS h1 b (0+1) fun t4=>ldL h1 b (0+2) fun t5=>ldL h1 b (0+3) fun t6 =>
 f154 t (t3,t4,t5,t6,()) 5 (fun t7 h8 =>
 Zz t7 (
 Ze a2 fun b9 o10 =>
 ldL h8 b9 (o10+2) fun t11 =>
 ldS h8 b (0+1) fun t12 =>
 newC h8 [.string t12] 9 fun b13 h14 =>
 rdS ⟨some ⟨b13,0,none⟩,1,1⟩ 1 h14 fun new=>app 9 1 16 [.string e0B] t11 1 new h14 fun t15 h16 =>
 Ze a2 fun b17 o18 =>
 st h16 b17 (o18+2) (slv t15) fun h19 =>
 K h19) (
 K h8)) h1
def Yy:Zvv:=Zbo Zw
abbrev ZqG:=(vTy)->oA->oA->(HP)->HP
def Xt (f154:Zfa) (f166:ZnB) (f167:Zvv) (v:vTy) (a1:oA) (a2:oA) (K:HP) (h:Zc):Prop :=
 newC h (vCl v) 33 fun b h1 =>
 Ze a1 fun b2 o=>ldP h1 b2 o fun t =>
 ldI h1 b 0 .u8 fun t3=>ldS h1 b (0+1) fun t4=>ldL h1 b (0+2) fun t5=>ldL h1 b (0+3) fun t6 =>
 f154 t (t3,t4,t5,t6,()) 6 (fun t7 h8 =>
 Zz (!t7) (
 K h8) (
 ldL h8 b (0+2) fun t9 =>
 Zar (σ:=Int × Unit) (fun J10 s h11 =>
 (fun (s13:Int) =>
 Zz (decide (s13<(t9.len:Int))) (
 ZcM t9.ptr t9.len s13 4 fun b12 o13 =>
 ldI h11 b12 o13 .u8 fun t14=>ldS h11 b12 (o13+1) fun t15=>ldL h11 b12 (o13+2) fun t16=>ldL h11 b12 (o13+3) fun t17 =>
 newC h11 v0C 33 fun b18 h19 =>
 sts h19 b18 0 [.int .u8 t14,.string t15,slv t16,slv t17] fun h20 =>
 Ze a2 fun b21 o22=>ldV h20 b21 o22 fun t23 =>
 ldI h20 b18 0 .u8 fun t24=>ldS h20 b18 (0+1) fun t25=>ldL h20 b18 (0+2) fun t26=>ldL h20 b18 (0+3) fun t27 =>
 (exG t23 (fun c:oA × oA × Unit=> .func (.func 143) #[] ⟨[.pointer c.1,.pointer c.2.1]⟩) fun c=>f166 (t24,t25,t26,t27,()) c.1 c.2.1 (fun h28 =>
 Ze a1 fun b30 o31=>ldP h28 b30 o31 fun t32 =>
 Ze t32 fun b33 o34 =>
 ldI h28 b33 o34 .i64 fun t35 =>
 Zz (t35 !=0) (
 K h28) (
 J10 (IntKind.wrap .i64 (s13+1),()) h28)) h20)\/(
 (exG t23 (fun c29:oA × oA × Unit=> .func (.func 145) #[] ⟨[.pointer c29.1,.pointer c29.2.1]⟩) fun c29=>f167 (t24,t25,t26,t27,()) c29.1 c29.2.1 (fun h28 =>
 Ze a1 fun b30 o31=>ldP h28 b30 o31 fun t32 =>
 Ze t32 fun b33 o34 =>
 ldI h28 b33 o34 .i64 fun t35 =>
 Zz (t35 !=0) (
 K h28) (
 J10 (IntKind.wrap .i64 (s13+1),()) h28)) h20)\/(
 False))) (
 K h11)) s.1) (0,()) h8)) h1
def Za4 (f165:ZcV):ZqG:=Xt Zw (Xk f165) Yy
abbrev Zvu:=(vTy)->oA->oA->oA->(HP)->HP
def Zbr (f154:Zfa) (v:vTy) (a1:oA) (a2:oA) (a3:oA) (K:HP) (h:Zc):Prop :=
 newC h (vCl v) 33 fun b h1 =>
 Ze a1 fun b2 o=>ldP h1 b2 o fun t =>
 ldI h1 b 0 .u8 fun t3=>ldS h1 b (0+1) fun t4=>ldL h1 b (0+2) fun t5=>ldL h1 b (0+3) fun t6 =>
 f154 t (t3,t4,t5,t6,()) 6 (fun t7 h8 =>
 Zz t7 (
 Ze a3 fun b9 o10=>ldI h8 b9 o10 .i64 fun t11 =>
 ldL h8 b (0+2) fun t12 =>
 Ze a2 fun b13 o14=>ZAN 5 t11 fun j =>
 st h8 b13 (o14+j*1) (slv t12) fun h15 =>
 K h15) (
 K h8)) h1
def YU:Zvu:=Zbr Zw
def X5 (f151:ZiV) (f153:Zo2) (f155:ZvD) (f156:ZvC) (f157:ZvB) (f162:Zvw) (f168:ZqG) (f169:Zvu) (r:oA) (v:vTy) (all:Option Nat) (K:HP) (h:Zc):Prop :=
 newC h (vCl v) 33 fun b h1 =>
 ldI h1 b 0 .u8 fun t =>
 Zz (t !=7) (
 Ze r fun b2 o =>
 f151 (some ⟨b2,o,none⟩) 26 (fun h3 =>
 K h3) h1) (
 ldL h1 b (0+3) fun t4 =>
 ldL h1 b (0+2) fun t5 =>
 Zz ((t4.len:Int) !=(t5.len:Int)) (
 Ze r fun b6 o7 =>
 f151 (some ⟨b6,o7,none⟩) 26 (fun h8 =>
 K h8) h1) (
 ldL h1 b (0+3) fun t9 =>
 Zar (σ:=Int × Unit) (fun J10 s h11 =>
 (fun (s28:Int) =>
 Zz (decide (s28<(t9.len:Int))) (
 ZcM t9.ptr t9.len s28 1 fun b12 o13 =>
 ldS h11 b12 o13 fun t14 =>
 Zi s28 fun i =>
 ZsB .string h11 all (.string t14) fun r15 =>
 ZsE (r15.getD (.nilFunc)) fun b16 =>
 Zz b16 (
 Ze r fun b17 o18 =>
 f151 (some ⟨b17,o18,none⟩) 26 (fun h19 =>
 K h19) h11) (
 ldL h11 b (0+3) fun t20 =>
 slc t20.ptr t20.cap 1 0 i t20.cap fun t21 =>
 f153 t21 t14 (fun t22 h23 =>
 Zz t22 (
 Ze r fun b24 o25 =>
 f151 (some ⟨b24,o25,none⟩) 26 (fun h26 =>
 K h26) h23) (
 ldL h23 b (0+2) fun t27 =>
 ZcM t27.ptr t27.len i 4 fun b28 o29 =>
 ldI h23 b28 o29 .u8 fun t30=>ldS h23 b28 (o29+1) fun t31=>ldL h23 b28 (o29+2) fun t32=>ldL h23 b28 (o29+3) fun t33 =>
 (exG (r15.getD (.nilFunc)) (fun c:oA × oA × Unit=> .func (.func 211) #[] ⟨[.pointer c.1,.pointer c.2.1]⟩) fun c=>f155 (t30,t31,t32,t33,()) c.1 c.2.1 (fun h34 =>
 Ze r fun b40 o41 =>
 ldI h34 b40 o41 .i64 fun t42 =>
 Zz (t42 !=0) (
 K h34) (
 J10 (IntKind.wrap .i64 (s28+1),()) h34)) h23)\/(
 (exG (r15.getD (.nilFunc)) (fun c35:oA × oA × Unit=> .func (.func 212) #[] ⟨[.pointer c35.1,.pointer c35.2.1]⟩) fun c35=>f156 (t30,t31,t32,t33,()) c35.1 c35.2.1 (fun h34 =>
 Ze r fun b40 o41 =>
 ldI h34 b40 o41 .i64 fun t42 =>
 Zz (t42 !=0) (
 K h34) (
 J10 (IntKind.wrap .i64 (s28+1),()) h34)) h23)\/(
 (exG (r15.getD (.nilFunc)) (fun c36:oA × oA × Unit=> .func (.func 213) #[] ⟨[.pointer c36.1,.pointer c36.2.1]⟩) fun c36=>f157 (t30,t31,t32,t33,()) c36.1 c36.2.1 (fun h34 =>
 Ze r fun b40 o41 =>
 ldI h34 b40 o41 .i64 fun t42 =>
 Zz (t42 !=0) (
 K h34) (
 J10 (IntKind.wrap .i64 (s28+1),()) h34)) h23)\/(
 (exG (r15.getD (.nilFunc)) (fun c37:oA × oA × oA × Unit=> .func (.func 214) #[] ⟨[.pointer c37.1,.pointer c37.2.1,.pointer c37.2.2.1]⟩) fun c37=>f162 (t30,t31,t32,t33,()) c37.1 c37.2.1 c37.2.2.1 (fun h34 =>
 Ze r fun b40 o41 =>
 ldI h34 b40 o41 .i64 fun t42 =>
 Zz (t42 !=0) (
 K h34) (
 J10 (IntKind.wrap .i64 (s28+1),()) h34)) h23)\/(
 (exG (r15.getD (.nilFunc)) (fun c38:oA × oA × Unit=> .func (.func 216) #[] ⟨[.pointer c38.1,.pointer c38.2.1]⟩) fun c38=>f168 (t30,t31,t32,t33,()) c38.1 c38.2.1 (fun h34 =>
 Ze r fun b40 o41 =>
 ldI h34 b40 o41 .i64 fun t42 =>
 Zz (t42 !=0) (
 K h34) (
 J10 (IntKind.wrap .i64 (s28+1),()) h34)) h23)\/(
 (exG (r15.getD (.nilFunc)) (fun c39:oA × oA × oA × Unit=> .func (.func 57) #[] ⟨[.pointer c39.1,.pointer c39.2.1,.pointer c39.2.2.1]⟩) fun c39=>f169 (t30,t31,t32,t33,()) c39.1 c39.2.1 c39.2.2.1 (fun h34 =>
 Ze r fun b40 o41 =>
 ldI h34 b40 o41 .i64 fun t42 =>
 Zz (t42 !=0) (
 K h34) (
 J10 (IntKind.wrap .i64 (s28+1),()) h34)) h23)\/(
 False)))))))) h11)) (
 K h11)) s.1) (0,()) h1))
def Xq (f165:ZcV):ZcV:=X5 Ye ZY YT YY YB YS (Za4 f165) YU
def ZF:Nat->ZcV
 | 0=>fun _ _ _ _ _=>False
 | n+1=>Xq (ZF n)
def ZG:ZcV:=fun r v all K h=>∃ n,ZF n r v all K h
abbrev Zo1:=oA->oA->((oA × oA × Unit)->HP)->HP
def ZeA (r:oA) (tO:oA) (K:(oA × oA × Unit)->HP) (h:Zc):Prop :=
 newC h [.pointer r] 98 fun b h1 =>
 newC h1 [.pointer tO] 211 fun b2 h3 =>
 K (some ⟨b,0,none⟩,some ⟨b2,0,none⟩,()) h3
def Xz:Zo1:=ZeA
abbrev Zvt:=oA->Sl->(oA × Unit)->((oA × oA × oA × Unit)->HP)->HP
def YM (r:oA) (w:Sl) (tO:oA × Unit) (K:(oA × oA × oA × Unit)->HP) (h:Zc):Prop :=
 newC h [.pointer r] 98 fun b h1 =>
 newC h1 [slv w] 199 fun b2 h3 =>
 Y6 (Yc (.func (.func 140) #[] #[.pointer tO.1])=true) <| newC h3 [.func (.func 140) #[] #[.pointer tO.1]] 215 fun b4 h5 =>
 K (some ⟨b,0,none⟩,some ⟨b2,0,none⟩,some ⟨b4,0,none⟩,()) h5
def Z3:Zvt:=YM
abbrev Zvs:=oA->Sl->(oA × Unit)->((oA × oA × oA × Unit)->HP)->HP
def YL (r:oA) (w:Sl) (tO:oA × Unit) (K:(oA × oA × oA × Unit)->HP) (h:Zc):Prop :=
 newC h [.pointer r] 98 fun b h1 =>
 newC h1 [slv w] 199 fun b2 h3 =>
 Y6 (Yc (.func (.func 141) #[] #[.pointer tO.1])=true) <| newC h3 [.func (.func 141) #[] #[.pointer tO.1]] 215 fun b4 h5 =>
 K (some ⟨b,0,none⟩,some ⟨b2,0,none⟩,some ⟨b4,0,none⟩,()) h5
def Z2:Zvs:=YL
abbrev Zvr:=oA->(vTy)->((ByteArray × ByteArray × Bool × Int × Int × ByteArray × Int × Int × Int × Bool × Int × Bool × Unit)->HP)->HP
def Zb1 (f163:Zhl) (f170:Zo1) (f164:Zhk) (f132:Zo6) (f171:Zvt) (f134:Zo4) (f172:Zvs) (f165:ZcV) (r:oA) (v:vTy) (K:(ByteArray × ByteArray × Bool × Int × Int × ByteArray × Int × Int × Int × Bool × Int × Bool × Unit)->HP) (h:Zc):Prop :=
 newC h (vCl v) 33 fun b h1 =>
 newC h1 [.string e0B,.string e0B,.bool false,.int .i64 0,.int .u8 0,.string e0B,.int .u8 0,.int .i64 0,.int .i64 0,.bool false,.int .i64 0,.bool false] 75 fun b2 h3 =>
 newC h3 [.string e0B,.string e0B,.bool false,.int .i64 0,.int .u8 0,.string e0B,.int .u8 0,.int .i64 0,.int .i64 0,.bool false,.int .i64 0,.bool false] 75 fun b4 h5 =>
 sts h5 b4 0 [.string e0B,.string (ByteArray.mk #[100,101,102,97,117,108,116]),.bool false,.int .i64 0,.int .u8 0,.string e0B,.int .u8 0,.int .i64 0,.int .i64 0,.bool false,.int .i64 0,.bool false] fun h6 =>
 ldI h6 b 0 .u8 fun t=>ldS h6 b (0+1) fun t7=>ldL h6 b (0+2) fun t8=>ldL h6 b (0+3) fun t9 =>
 Zyz (σ:=Option Nat × (oA × oA × Unit) × (oA × oA × Unit) × (oA × oA × Unit) × (oA × oA × Unit) × Sl × (oA × oA × oA × Unit) × (oA × oA × Unit) × Sl × (oA × oA × oA × Unit) × (oA × oA × Unit) × (oA × oA × Unit) × (oA × oA × Unit) × (oA × oA × Unit) × (oA × oA × Unit) × Unit) (fun I d s h10 =>
 (fun (s9:Option Nat) (s12:oA × oA × Unit) (s15:oA × oA × Unit) (s18:oA × oA × Unit) (s21:oA × oA × Unit) (s23:Sl) (s25:oA × oA × oA × Unit) (s28:oA × oA × Unit) (s30:Sl) (s32:oA × oA × oA × Unit) (s35:oA × oA × Unit) (s38:oA × oA × Unit) (s41:oA × oA × Unit) (s44:oA × oA × Unit) (s47:oA × oA × Unit) =>
 (d 2=false->(
 Zij h10 fun b11 h12 =>
 ndV h12 b t t7 t8 t9 <|
 I (XL d 2) (some b11,s12,s15,s18,s21,s23,s25,s28,s30,s32,s35,s38,s41,s44,s47,()) h12)) /\
 (d 5=false->(
 f163 r (some ⟨b4,0,none⟩) (fun s1213 h14 =>
 ndV h14 b t t7 t8 t9 <|
 I (XL d 5) (s9,(s1213.1,s1213.2.1,()),s15,s18,s21,s23,s25,s28,s30,s32,s35,s38,s41,s44,s47,()) h14) h10)) /\
 (d 6=false->d 2=true->d 5=true->(
 Xr .string h10 s9 (.string (ByteArray.mk #[114,101,115,111,117,114,99,101])) (.func (.func 211) #[] #[.pointer s12.1,.pointer s12.2.1]) fun h15 =>
 ndV h15 b t t7 t8 t9 <|
 I (XL d 6) (s9,s12,s15,s18,s21,s23,s25,s28,s30,s32,s35,s38,s41,s44,s47,()) h15)) /\
 (d 9=false->d 5=true->(
 f163 r (some ⟨b4,0+1,none⟩) (fun s1516 h17 =>
 ndV h17 b t t7 t8 t9 <|
 I (XL d 9) (s9,s12,(s1516.1,s1516.2.1,()),s18,s21,s23,s25,s28,s30,s32,s35,s38,s41,s44,s47,()) h17) h10)) /\
 (d 10=false->d 2=true->d 9=true->(
 Xr .string h10 s9 (.string (ByteArray.mk #[111,114,105,103,105,110])) (.func (.func 211) #[] #[.pointer s15.1,.pointer s15.2.1]) fun h18 =>
 ndV h18 b t t7 t8 t9 <|
 I (XL d 10) (s9,s12,s15,s18,s21,s23,s25,s28,s30,s32,s35,s38,s41,s44,s47,()) h18)) /\
 (d 13=false->d 9=true->(
 f170 r (some ⟨b4,0+2,none⟩) (fun s1819 h20 =>
 ndV h20 b t t7 t8 t9 <|
 I (XL d 13) (s9,s12,s15,(s1819.1,s1819.2.1,()),s21,s23,s25,s28,s30,s32,s35,s38,s41,s44,s47,()) h20) h10)) /\
 (d 14=false->d 2=true->d 13=true->(
 Xr .string h10 s9 (.string (ByteArray.mk #[116,104,114,101,97,100,115])) (.func (.func 212) #[] #[.pointer s18.1,.pointer s18.2.1]) fun h21 =>
 ndV h21 b t t7 t8 t9 <|
 I (XL d 14) (s9,s12,s15,s18,s21,s23,s25,s28,s30,s32,s35,s38,s41,s44,s47,()) h21)) /\
 (d 17=false->d 13=true->(
 f164 r (some ⟨b4,0+3,none⟩) (fun s2122 h23 =>
 ndV h23 b t t7 t8 t9 <|
 I (XL d 17) (s9,s12,s15,s18,(s2122.1,s2122.2.1,()),s23,s25,s28,s30,s32,s35,s38,s41,s44,s47,()) h23) h10)) /\
 (d 18=false->d 2=true->d 17=true->(
 Xr .string h10 s9 (.string (ByteArray.mk #[99,111,117,110,116])) (.func (.func 213) #[] #[.pointer s21.1,.pointer s21.2.1]) fun h24 =>
 ndV h24 b t t7 t8 t9 <|
 I (XL d 18) (s9,s12,s15,s18,s21,s23,s25,s28,s30,s32,s35,s38,s41,s44,s47,()) h24)) /\
 (d 20=false->d 17=true->(
 f132 (fun s2325 h26 =>
 ndV h26 b t t7 t8 t9 <|
 I (XL d 20) (s9,s12,s15,s18,s21,s2325,s25,s28,s30,s32,s35,s38,s41,s44,s47,()) h26) h10)) /\
 (d 22=false->d 20=true->d 20=true->(
 f171 r s23 (some ⟨b4,0,none⟩,()) (fun s2527 h28 =>
 ndV h28 b t t7 t8 t9 <|
 I (XL d 22) (s9,s12,s15,s18,s21,s23,(s2527.1,s2527.2.1,s2527.2.2.1,()),s28,s30,s32,s35,s38,s41,s44,s47,()) h28) h10)) /\
 (d 23=false->d 2=true->d 22=true->(
 Xr .string h10 s9 (.string (ByteArray.mk #[115,116,114,97,116,101,103,121])) (.func (.func 214) #[] #[.pointer s25.1,.pointer s25.2.1,.pointer s25.2.2.1]) fun h29 =>
 ndV h29 b t t7 t8 t9 <|
 I (XL d 23) (s9,s12,s15,s18,s21,s23,s25,s28,s30,s32,s35,s38,s41,s44,s47,()) h29)) /\
 (d 26=false->d 22=true->(
 f163 r (some ⟨b4,0+5,none⟩) (fun s2830 h31 =>
 ndV h31 b t t7 t8 t9 <|
 I (XL d 26) (s9,s12,s15,s18,s21,s23,s25,(s2830.1,s2830.2.1,()),s30,s32,s35,s38,s41,s44,s47,()) h31) h10)) /\
 (d 27=false->d 2=true->d 26=true->(
 Xr .string h10 s9 (.string (ByteArray.mk #[114,101,102])) (.func (.func 211) #[] #[.pointer s28.1,.pointer s28.2.1]) fun h32 =>
 ndV h32 b t t7 t8 t9 <|
 I (XL d 27) (s9,s12,s15,s18,s21,s23,s25,s28,s30,s32,s35,s38,s41,s44,s47,()) h32)) /\
 (d 29=false->d 26=true->(
 f134 (fun s3033 h34 =>
 ndV h34 b t t7 t8 t9 <|
 I (XL d 29) (s9,s12,s15,s18,s21,s23,s25,s28,s3033,s32,s35,s38,s41,s44,s47,()) h34) h10)) /\
 (d 31=false->d 29=true->d 29=true->(
 f172 r s30 (some ⟨b4,0,none⟩,()) (fun s3235 h36 =>
 ndV h36 b t t7 t8 t9 <|
 I (XL d 31) (s9,s12,s15,s18,s21,s23,s25,s28,s30,(s3235.1,s3235.2.1,s3235.2.2.1,()),s35,s38,s41,s44,s47,()) h36) h10)) /\
 (d 32=false->d 2=true->d 31=true->(
 Xr .string h10 s9 (.string (ByteArray.mk #[115,104,97,112,101])) (.func (.func 214) #[] #[.pointer s32.1,.pointer s32.2.1,.pointer s32.2.2.1]) fun h37 =>
 ndV h37 b t t7 t8 t9 <|
 I (XL d 32) (s9,s12,s15,s18,s21,s23,s25,s28,s30,s32,s35,s38,s41,s44,s47,()) h37)) /\
 (d 35=false->d 31=true->(
 f164 r (some ⟨b4,0+7,none⟩) (fun s3538 h39 =>
 ndV h39 b t t7 t8 t9 <|
 I (XL d 35) (s9,s12,s15,s18,s21,s23,s25,s28,s30,s32,(s3538.1,s3538.2.1,()),s38,s41,s44,s47,()) h39) h10)) /\
 (d 36=false->d 2=true->d 35=true->(
 Xr .string h10 s9 (.string (ByteArray.mk #[119,97,114,109])) (.func (.func 213) #[] #[.pointer s35.1,.pointer s35.2.1]) fun h40 =>
 ndV h40 b t t7 t8 t9 <|
 I (XL d 36) (s9,s12,s15,s18,s21,s23,s25,s28,s30,s32,s35,s38,s41,s44,s47,()) h40)) /\
 (d 39=false->d 35=true->(
 f164 r (some ⟨b4,0+8,none⟩) (fun s3841 h42 =>
 ndV h42 b t t7 t8 t9 <|
 I (XL d 39) (s9,s12,s15,s18,s21,s23,s25,s28,s30,s32,s35,(s3841.1,s3841.2.1,()),s41,s44,s47,()) h42) h10)) /\
 (d 40=false->d 2=true->d 39=true->(
 Xr .string h10 s9 (.string (ByteArray.mk #[113,117,101,117,101])) (.func (.func 213) #[] #[.pointer s38.1,.pointer s38.2.1]) fun h43 =>
 ndV h43 b t t7 t8 t9 <|
 I (XL d 40) (s9,s12,s15,s18,s21,s23,s25,s28,s30,s32,s35,s38,s41,s44,s47,()) h43)) /\
 (d 43=false->d 39=true->(
 f170 r (some ⟨b4,0+9,none⟩) (fun s4144 h45 =>
 ndV h45 b t t7 t8 t9 <|
 I (XL d 43) (s9,s12,s15,s18,s21,s23,s25,s28,s30,s32,s35,s38,(s4144.1,s4144.2.1,()),s44,s47,()) h45) h10)) /\
 (d 44=false->d 2=true->d 43=true->(
 Xr .string h10 s9 (.string (ByteArray.mk #[99,108,117,115,116,101,114])) (.func (.func 212) #[] #[.pointer s41.1,.pointer s41.2.1]) fun h46 =>
 ndV h46 b t t7 t8 t9 <|
 I (XL d 44) (s9,s12,s15,s18,s21,s23,s25,s28,s30,s32,s35,s38,s41,s44,s47,()) h46)) /\
 (d 47=false->d 43=true->(
 f164 r (some ⟨b4,0+10,none⟩) (fun s4447 h48 =>
 ndV h48 b t t7 t8 t9 <|
 I (XL d 47) (s9,s12,s15,s18,s21,s23,s25,s28,s30,s32,s35,s38,s41,(s4447.1,s4447.2.1,()),s47,()) h48) h10)) /\
 (d 48=false->d 2=true->d 47=true->(
 Xr .string h10 s9 (.string (ByteArray.mk #[105,100])) (.func (.func 213) #[] #[.pointer s44.1,.pointer s44.2.1]) fun h49 =>
 ndV h49 b t t7 t8 t9 <|
 I (XL d 48) (s9,s12,s15,s18,s21,s23,s25,s28,s30,s32,s35,s38,s41,s44,s47,()) h49)) /\
 (d 51=false->d 47=true->(
 f170 r (some ⟨b4,0+11,none⟩) (fun s4750 h51 =>
 ndV h51 b t t7 t8 t9 <|
 I (XL d 51) (s9,s12,s15,s18,s21,s23,s25,s28,s30,s32,s35,s38,s41,s44,(s4750.1,s4750.2.1,()),()) h51) h10)) /\
 (d 52=false->d 2=true->d 51=true->(
 Xr .string h10 s9 (.string (ByteArray.mk #[102,97,108,108,98,97,99,107])) (.func (.func 212) #[] #[.pointer s47.1,.pointer s47.2.1]) fun h52 =>
 ndV h52 b t t7 t8 t9 <|
 I (XL d 52) (s9,s12,s15,s18,s21,s23,s25,s28,s30,s32,s35,s38,s41,s44,s47,()) h52))/\True) s.1 s.2.1 s.2.2.1 s.2.2.2.1 s.2.2.2.2.1 s.2.2.2.2.2.1 s.2.2.2.2.2.2.1 s.2.2.2.2.2.2.2.1 s.2.2.2.2.2.2.2.2.1 s.2.2.2.2.2.2.2.2.2.1 s.2.2.2.2.2.2.2.2.2.2.1 s.2.2.2.2.2.2.2.2.2.2.2.1 s.2.2.2.2.2.2.2.2.2.2.2.2.1 s.2.2.2.2.2.2.2.2.2.2.2.2.2.1 s.2.2.2.2.2.2.2.2.2.2.2.2.2.2.1) (fun d53 s54 h55 =>
 (fun (s956:Option Nat) (s1257:oA × oA × Unit) (s1558:oA × oA × Unit) (s1859:oA × oA × Unit) (s2160:oA × oA × Unit) (s2361:Sl) (s2562:oA × oA × oA × Unit) (s2863:oA × oA × Unit) (s3064:Sl) (s3265:oA × oA × oA × Unit) (s3566:oA × oA × Unit) (s3867:oA × oA × Unit) (s4168:oA × oA × Unit) (s4469:oA × oA × Unit) (s4770:oA × oA × Unit) =>
 d53 2=true->d53 5=true->d53 6=true->d53 9=true->d53 10=true->d53 13=true->d53 14=true->d53 17=true->d53 18=true->d53 20=true->d53 22=true->d53 23=true->d53 26=true->d53 27=true->d53 29=true->d53 31=true->d53 32=true->d53 35=true->d53 36=true->d53 39=true->d53 40=true->d53 43=true->d53 44=true->d53 47=true->d53 48=true->d53 51=true->d53 52=true->(
 ndV h55 b t t7 t8 t9 <|
 f165 r (t,t7,t8,t9,()) s956 (fun h71 =>
 ldS h71 b4 0 fun t72=>ldS h71 b4 (0+1) fun t73=>ldB h71 b4 (0+2) fun t74=>ldI h71 b4 (0+3) .i64 fun t75=>ldI h71 b4 (0+4) .u8 fun t76=>ldS h71 b4 (0+5) fun t77=>ldI h71 b4 (0+6) .u8 fun t78=>ldI h71 b4 (0+7) .i64 fun t79=>ldI h71 b4 (0+8) .i64 fun t80=>ldB h71 b4 (0+9) fun t81=>ldI h71 b4 (0+10) .i64 fun t82=>ldB h71 b4 (0+11) fun t83 =>
 sts h71 b2 0 [.string t72,.string t73,.bool t74,.int .i64 t75,.int .u8 t76,.string t77,.int .u8 t78,.int .i64 t79,.int .i64 t80,.bool t81,.int .i64 t82,.bool t83] fun h84 =>
 ldS h84 b2 0 fun t85=>ldS h84 b2 (0+1) fun t86=>ldB h84 b2 (0+2) fun t87=>ldI h84 b2 (0+3) .i64 fun t88=>ldI h84 b2 (0+4) .u8 fun t89=>ldS h84 b2 (0+5) fun t90=>ldI h84 b2 (0+6) .u8 fun t91=>ldI h84 b2 (0+7) .i64 fun t92=>ldI h84 b2 (0+8) .i64 fun t93=>ldB h84 b2 (0+9) fun t94=>ldI h84 b2 (0+10) .i64 fun t95=>ldB h84 b2 (0+11) fun t96=>K (t85,t86,t87,t88,t89,t90,t91,t92,t93,t94,t95,t96,()) h84) h55)) s54.1 s54.2.1 s54.2.2.1 s54.2.2.2.1 s54.2.2.2.2.1 s54.2.2.2.2.2.1 s54.2.2.2.2.2.2.1 s54.2.2.2.2.2.2.2.1 s54.2.2.2.2.2.2.2.2.1 s54.2.2.2.2.2.2.2.2.2.1 s54.2.2.2.2.2.2.2.2.2.2.1 s54.2.2.2.2.2.2.2.2.2.2.2.1 s54.2.2.2.2.2.2.2.2.2.2.2.2.1 s54.2.2.2.2.2.2.2.2.2.2.2.2.2.1 s54.2.2.2.2.2.2.2.2.2.2.2.2.2.2.1) h6
def XS:Zvr:=Zb1 Ya Xz ZQ Xg Z3 X1 Z2 ZG
abbrev Zvq:=Sl->(Sl->Int->Int->HP)->HP
def YI (f173:Zvr) (l:Sl) (K:Sl->Int->Int->HP) (h:Zc):Prop :=
 Zi 0 fun t =>
 Zi 0 fun t1 =>
 Zar (σ:=Sl × Int × Unit) (fun J2 s h3 =>
 (fun (out:Sl) (s13:Int) =>
 Zz (decide (s13<(l.len:Int))) (
 ZcM l.ptr l.len s13 4 fun b o =>
 ldI h3 b o .u8 fun t4=>ldS h3 b (o+1) fun t5=>ldL h3 b (o+2) fun t6=>ldL h3 b (o+3) fun t7 =>
 newC h3 v0C 33 fun b8 h9 =>
 Zi s13 fun i =>
 sts h9 b8 0 [.int .u8 t4,.string t5,slv t6,slv t7] fun h10 =>
 newC h10 [.int .i64 0] 102 fun b11 h12 =>
 ldI h12 b8 0 .u8 fun t13=>ldS h12 b8 (0+1) fun t14=>ldL h12 b8 (0+2) fun t15=>ldL h12 b8 (0+3) fun t16 =>
 f173 (some ⟨b11,0,none⟩) (t13,t14,t15,t16,()) (fun t17 h18 =>
 newC h18 [.string t17.1,.string t17.2.1,.bool t17.2.2.1,.int .i64 t17.2.2.2.1,.int .u8 t17.2.2.2.2.1,.string t17.2.2.2.2.2.1,.int .u8 t17.2.2.2.2.2.2.1,.int .i64 t17.2.2.2.2.2.2.2.1,.int .i64 t17.2.2.2.2.2.2.2.2.1,.bool t17.2.2.2.2.2.2.2.2.2.1,.int .i64 t17.2.2.2.2.2.2.2.2.2.2.1,.bool t17.2.2.2.2.2.2.2.2.2.2.2.1] 75 fun b19 h20 =>
 rdS ⟨some ⟨b19,0,none⟩,1,1⟩ 12 h20 fun new=>app 75 12 120 [.string e0B,.string e0B,.bool false,.int .i64 0,.int .u8 0,.string e0B,.int .u8 0,.int .i64 0,.int .i64 0,.bool false,.int .i64 0,.bool false] out 1 new h20 fun t21 h22 =>
 ldI h22 b11 0 .i64 fun t23 =>
 Zz (t23 !=0) (
 ldI h22 b11 0 .i64 fun t24 =>
 Zi i fun t25 =>
 Zi t24 fun t26 =>
 K n0S t25 t26 h22) (
 J2 (t21,IntKind.wrap .i64 (s13+1),()) h22)) h12) (
 Zi 0 fun t27 =>
 Zi 0 fun t28 =>
 K out t27 t28 h3)) s.1 s.2.1) (n0S,0,()) h
def ZX:Zvq:=YI XS
abbrev Zvp:=oA->oA->(Int->Int->HP)->HP
def Zb7 (f174:Zvq) (a0:oA) (a1:oA) (K:Int->Int->HP) (h:Zc):Prop :=
 Zi 0 fun i =>
 Zi 0 fun e =>
 Ze a0 fun b o=>ZAN 5 0 fun j =>
 ldL h b (o+j*1) fun t =>
 f174 t (fun t1 t2 t3 h4 =>
 Ze a1 fun b5 o6 =>
 st h4 b5 o6 (slv t1) fun h7 =>
 Zi t2 fun i8 =>
 Zi t3 fun e9 =>
 K i8 e9 h7) h
def XX:Zvp:=Zb7 ZX
abbrev Zvo:=oA->Sl->(oA × Unit)->((oA × oA × oA × Unit)->HP)->HP
def YC (r:oA) (w:Sl) (tO:oA × Unit) (K:(oA × oA × oA × Unit)->HP) (h:Zc):Prop :=
 newC h [.pointer r] 98 fun b h1 =>
 newC h1 [slv w] 199 fun b2 h3 =>
 Y6 (Yc (.func (.func 142) #[] #[.pointer tO.1])=true) <| newC h3 [.func (.func 142) #[] #[.pointer tO.1]] 215 fun b4 h5 =>
 K (some ⟨b,0,none⟩,some ⟨b2,0,none⟩,some ⟨b4,0,none⟩,()) h5
def ZT:Zvo:=YC
abbrev Zvn:=oA->(vTy)->((ByteArray × Int × Int × Int × Int × Int × Int × Unit)->HP)->HP
def Zbp (f163:Zhl) (f138:Zo3) (f176:Zvo) (f164:Zhk) (f165:ZcV) (r:oA) (v:vTy) (K:(ByteArray × Int × Int × Int × Int × Int × Int × Unit)->HP) (h:Zc):Prop :=
 newC h (vCl v) 33 fun b h1 =>
 newC h1 [.string e0B,.int .u8 0,.int .i64 0,.int .i64 0,.int .i64 0,.int .i64 0,.int .i64 0] 80 fun b2 h3 =>
 newC h3 [.string e0B,.int .u8 0,.int .i64 0,.int .i64 0,.int .i64 0,.int .i64 0,.int .i64 0] 80 fun b4 h5 =>
 ldI h5 b 0 .u8 fun t=>ldS h5 b (0+1) fun t6=>ldL h5 b (0+2) fun t7=>ldL h5 b (0+3) fun t8 =>
 Zyz (σ:=Option Nat × (oA × oA × Unit) × Sl × (oA × oA × oA × Unit) × (oA × oA × Unit) × (oA × oA × Unit) × (oA × oA × Unit) × (oA × oA × Unit) × (oA × oA × Unit) × Unit) (fun I d s h9 =>
 (fun (s8:Option Nat) (s11:oA × oA × Unit) (s13:Sl) (s15:oA × oA × oA × Unit) (s18:oA × oA × Unit) (s21:oA × oA × Unit) (s24:oA × oA × Unit) (s27:oA × oA × Unit) (s30:oA × oA × Unit) =>
 (d 2=false->(
 Zij h9 fun b10 h11 =>
 ndV h11 b t t6 t7 t8 <|
 I (XL d 2) (some b10,s11,s13,s15,s18,s21,s24,s27,s30,()) h11)) /\
 (d 5=false->(
 f163 r (some ⟨b4,0,none⟩) (fun s1112 h13 =>
 ndV h13 b t t6 t7 t8 <|
 I (XL d 5) (s8,(s1112.1,s1112.2.1,()),s13,s15,s18,s21,s24,s27,s30,()) h13) h9)) /\
 (d 6=false->d 2=true->d 5=true->(
 Xr .string h9 s8 (.string (ByteArray.mk #[114,101,115,111,117,114,99,101])) (.func (.func 211) #[] #[.pointer s11.1,.pointer s11.2.1]) fun h14 =>
 ndV h14 b t t6 t7 t8 <|
 I (XL d 6) (s8,s11,s13,s15,s18,s21,s24,s27,s30,()) h14)) /\
 (d 8=false->d 5=true->(
 f138 (fun s1315 h16 =>
 ndV h16 b t t6 t7 t8 <|
 I (XL d 8) (s8,s11,s1315,s15,s18,s21,s24,s27,s30,()) h16) h9)) /\
 (d 10=false->d 8=true->d 8=true->(
 f176 r s13 (some ⟨b4,0,none⟩,()) (fun s1517 h18 =>
 ndV h18 b t t6 t7 t8 <|
 I (XL d 10) (s8,s11,s13,(s1517.1,s1517.2.1,s1517.2.2.1,()),s18,s21,s24,s27,s30,()) h18) h9)) /\
 (d 11=false->d 2=true->d 10=true->(
 Xr .string h9 s8 (.string (ByteArray.mk #[103,114,97,100,101])) (.func (.func 214) #[] #[.pointer s15.1,.pointer s15.2.1,.pointer s15.2.2.1]) fun h19 =>
 ndV h19 b t t6 t7 t8 <|
 I (XL d 11) (s8,s11,s13,s15,s18,s21,s24,s27,s30,()) h19)) /\
 (d 14=false->d 10=true->(
 f164 r (some ⟨b4,0+2,none⟩) (fun s1820 h21 =>
 ndV h21 b t t6 t7 t8 <|
 I (XL d 14) (s8,s11,s13,s15,(s1820.1,s1820.2.1,()),s21,s24,s27,s30,()) h21) h9)) /\
 (d 15=false->d 2=true->d 14=true->(
 Xr .string h9 s8 (.string (ByteArray.mk #[99,111,117,110,116])) (.func (.func 213) #[] #[.pointer s18.1,.pointer s18.2.1]) fun h22 =>
 ndV h22 b t t6 t7 t8 <|
 I (XL d 15) (s8,s11,s13,s15,s18,s21,s24,s27,s30,()) h22)) /\
 (d 18=false->d 14=true->(
 f164 r (some ⟨b4,0+3,none⟩) (fun s2123 h24 =>
 ndV h24 b t t6 t7 t8 <|
 I (XL d 18) (s8,s11,s13,s15,s18,(s2123.1,s2123.2.1,()),s24,s27,s30,()) h24) h9)) /\
 (d 19=false->d 2=true->d 18=true->(
 Xr .string h9 s8 (.string (ByteArray.mk #[115,108,111,119])) (.func (.func 213) #[] #[.pointer s21.1,.pointer s21.2.1]) fun h25 =>
 ndV h25 b t t6 t7 t8 <|
 I (XL d 19) (s8,s11,s13,s15,s18,s21,s24,s27,s30,()) h25)) /\
 (d 22=false->d 18=true->(
 f164 r (some ⟨b4,0+4,none⟩) (fun s2426 h27 =>
 ndV h27 b t t6 t7 t8 <|
 I (XL d 22) (s8,s11,s13,s15,s18,s21,(s2426.1,s2426.2.1,()),s27,s30,()) h27) h9)) /\
 (d 23=false->d 2=true->d 22=true->(
 Xr .string h9 s8 (.string (ByteArray.mk #[108,101,97,115,116])) (.func (.func 213) #[] #[.pointer s24.1,.pointer s24.2.1]) fun h28 =>
 ndV h28 b t t6 t7 t8 <|
 I (XL d 23) (s8,s11,s13,s15,s18,s21,s24,s27,s30,()) h28)) /\
 (d 26=false->d 22=true->(
 f164 r (some ⟨b4,0+5,none⟩) (fun s2729 h30 =>
 ndV h30 b t t6 t7 t8 <|
 I (XL d 26) (s8,s11,s13,s15,s18,s21,s24,(s2729.1,s2729.2.1,()),s30,()) h30) h9)) /\
 (d 27=false->d 2=true->d 26=true->(
 Xr .string h9 s8 (.string (ByteArray.mk #[119,105,110,100,111,119])) (.func (.func 213) #[] #[.pointer s27.1,.pointer s27.2.1]) fun h31 =>
 ndV h31 b t t6 t7 t8 <|
 I (XL d 27) (s8,s11,s13,s15,s18,s21,s24,s27,s30,()) h31)) /\
 (d 30=false->d 26=true->(
 f164 r (some ⟨b4,0+6,none⟩) (fun s3032 h33 =>
 ndV h33 b t t6 t7 t8 <|
 I (XL d 30) (s8,s11,s13,s15,s18,s21,s24,s27,(s3032.1,s3032.2.1,()),()) h33) h9)) /\
 (d 31=false->d 2=true->d 30=true->(
 Xr .string h9 s8 (.string (ByteArray.mk #[114,101,99,111,118,101,114])) (.func (.func 213) #[] #[.pointer s30.1,.pointer s30.2.1]) fun h34 =>
 ndV h34 b t t6 t7 t8 <|
 I (XL d 31) (s8,s11,s13,s15,s18,s21,s24,s27,s30,()) h34))/\True) s.1 s.2.1 s.2.2.1 s.2.2.2.1 s.2.2.2.2.1 s.2.2.2.2.2.1 s.2.2.2.2.2.2.1 s.2.2.2.2.2.2.2.1 s.2.2.2.2.2.2.2.2.1) (fun d35 s36 h37 =>
 (fun (s838:Option Nat) (s1139:oA × oA × Unit) (s1340:Sl) (s1541:oA × oA × oA × Unit) (s1842:oA × oA × Unit) (s2143:oA × oA × Unit) (s2444:oA × oA × Unit) (s2745:oA × oA × Unit) (s3046:oA × oA × Unit) =>
 d35 2=true->d35 5=true->d35 6=true->d35 8=true->d35 10=true->d35 11=true->d35 14=true->d35 15=true->d35 18=true->d35 19=true->d35 22=true->d35 23=true->d35 26=true->d35 27=true->d35 30=true->d35 31=true->(
 ndV h37 b t t6 t7 t8 <|
 f165 r (t,t6,t7,t8,()) s838 (fun h47 =>
 ldS h47 b4 0 fun t48=>ldI h47 b4 (0+1) .u8 fun t49=>ldI h47 b4 (0+2) .i64 fun t50=>ldI h47 b4 (0+3) .i64 fun t51=>ldI h47 b4 (0+4) .i64 fun t52=>ldI h47 b4 (0+5) .i64 fun t53=>ldI h47 b4 (0+6) .i64 fun t54 =>
 sts h47 b2 0 [.string t48,.int .u8 t49,.int .i64 t50,.int .i64 t51,.int .i64 t52,.int .i64 t53,.int .i64 t54] fun h55 =>
 ldS h55 b2 0 fun t56=>ldI h55 b2 (0+1) .u8 fun t57=>ldI h55 b2 (0+2) .i64 fun t58=>ldI h55 b2 (0+3) .i64 fun t59=>ldI h55 b2 (0+4) .i64 fun t60=>ldI h55 b2 (0+5) .i64 fun t61=>ldI h55 b2 (0+6) .i64 fun t62=>K (t56,t57,t58,t59,t60,t61,t62,()) h55) h37)) s36.1 s36.2.1 s36.2.2.1 s36.2.2.2.1 s36.2.2.2.2.1 s36.2.2.2.2.2.1 s36.2.2.2.2.2.2.1 s36.2.2.2.2.2.2.2.1 s36.2.2.2.2.2.2.2.2.1) h5
def XB:Zvn:=Zbp Ya X2 ZT ZQ ZG
abbrev Zvm:=Sl->(Sl->Int->Int->HP)->HP
def YA (f177:Zvn) (l:Sl) (K:Sl->Int->Int->HP) (h:Zc):Prop :=
 Zi 0 fun t =>
 Zi 0 fun t1 =>
 Zar (σ:=Sl × Int × Unit) (fun J2 s h3 =>
 (fun (out:Sl) (s13:Int) =>
 Zz (decide (s13<(l.len:Int))) (
 ZcM l.ptr l.len s13 4 fun b o =>
 ldI h3 b o .u8 fun t4=>ldS h3 b (o+1) fun t5=>ldL h3 b (o+2) fun t6=>ldL h3 b (o+3) fun t7 =>
 newC h3 v0C 33 fun b8 h9 =>
 Zi s13 fun i =>
 sts h9 b8 0 [.int .u8 t4,.string t5,slv t6,slv t7] fun h10 =>
 newC h10 [.int .i64 0] 102 fun b11 h12 =>
 ldI h12 b8 0 .u8 fun t13=>ldS h12 b8 (0+1) fun t14=>ldL h12 b8 (0+2) fun t15=>ldL h12 b8 (0+3) fun t16 =>
 f177 (some ⟨b11,0,none⟩) (t13,t14,t15,t16,()) (fun t17 h18 =>
 newC h18 [.string t17.1,.int .u8 t17.2.1,.int .i64 t17.2.2.1,.int .i64 t17.2.2.2.1,.int .i64 t17.2.2.2.2.1,.int .i64 t17.2.2.2.2.2.1,.int .i64 t17.2.2.2.2.2.2.1] 80 fun b19 h20 =>
 rdS ⟨some ⟨b19,0,none⟩,1,1⟩ 7 h20 fun new=>app 80 7 64 [.string e0B,.int .u8 0,.int .i64 0,.int .i64 0,.int .i64 0,.int .i64 0,.int .i64 0] out 1 new h20 fun t21 h22 =>
 ldI h22 b11 0 .i64 fun t23 =>
 Zz (t23 !=0) (
 ldI h22 b11 0 .i64 fun t24 =>
 Zi i fun t25 =>
 Zi t24 fun t26 =>
 K n0S t25 t26 h22) (
 J2 (t21,IntKind.wrap .i64 (s13+1),()) h22)) h12) (
 Zi 0 fun t27 =>
 Zi 0 fun t28 =>
 K out t27 t28 h3)) s.1 s.2.1) (n0S,0,()) h
def ZO:Zvm:=YA XB
abbrev Zvl:=oA->oA->(Int->Int->HP)->HP
def Zb6 (f178:Zvm) (a0:oA) (a1:oA) (K:Int->Int->HP) (h:Zc):Prop :=
 Zi 0 fun i =>
 Zi 0 fun e =>
 Ze a0 fun b o=>ZAN 5 1 fun j =>
 ldL h b (o+j*1) fun t =>
 f178 t (fun t1 t2 t3 h4 =>
 Ze a1 fun b5 o6 =>
 st h4 b5 (o6+1) (slv t1) fun h7 =>
 Zi t2 fun i8 =>
 Zi t3 fun e9 =>
 K i8 e9 h7) h
def XW:Zvl:=Zb6 ZO
abbrev Zvk:=oA->(oA × oA × Unit)->((oA × oA × Unit)->HP)->HP
def YN (r:oA) (each:oA × oA × Unit) (K:(oA × oA × Unit)->HP) (h:Zc):Prop :=
 newC h [.pointer r] 98 fun b h1 =>
 Y6 (Yc (.func (.func 143) #[] #[.pointer each.1,.pointer each.2.1])=true) <| newC h1 [.func (.func 143) #[] #[.pointer each.1,.pointer each.2.1]] 104 fun b2 h3 =>
 K (some ⟨b,0,none⟩,some ⟨b2,0,none⟩,()) h3
def Z4:Zvk:=YN
abbrev Zvj:=oA->(vTy)->((ByteArray × Int × Int × Int × Sl × Unit)->HP)->HP
def Zcx (f163:Zhl) (f164:Zhk) (f180:Zvk) (f165:ZcV) (r:oA) (v:vTy) (K:(ByteArray × Int × Int × Int × Sl × Unit)->HP) (h:Zc):Prop :=
 newC h [.pointer r] 98 fun b h1 =>
 newC h1 (vCl v) 33 fun b2 h3 =>
 newC h3 [.string e0B,.int .i64 0,.int .i64 0,.int .i64 0,n0V] 85 fun b4 h5 =>
 newC h5 [.string e0B,.int .i64 0,.int .i64 0,.int .i64 0,n0V] 85 fun b6 h7 =>
 ldP h7 b 0 fun t =>
 ldI h7 b2 0 .u8 fun t8=>ldS h7 b2 (0+1) fun t9=>ldL h7 b2 (0+2) fun t10=>ldL h7 b2 (0+3) fun t11 =>
 ldP h7 b 0 fun t12 =>
 ldP h7 b 0 fun t13 =>
 ldP h7 b 0 fun t14 =>
 ldP h7 b 0 fun t15 =>
 ldP h7 b 0 fun t16 =>
 Zyz (σ:=Option Nat × (oA × oA × Unit) × (oA × oA × Unit) × (oA × oA × Unit) × (oA × oA × Unit) × (oA × oA × Unit) × Unit) (fun I d s h17 =>
 (fun (s10:Option Nat) (s13:oA × oA × Unit) (s16:oA × oA × Unit) (s19:oA × oA × Unit) (s22:oA × oA × Unit) (s25:oA × oA × Unit) =>
 (d 2=false->(
 Zij h17 fun b18 h19 =>
 ndP h19 b 0 t16 <|
 ndP h19 b 0 t15 <|
 ndP h19 b 0 t14 <|
 ndP h19 b 0 t13 <|
 ndP h19 b 0 t12 <|
 ndV h19 b2 t8 t9 t10 t11 <|
 ndP h19 b 0 t <|
 I (XL d 2) (some b18,s13,s16,s19,s22,s25,()) h19)) /\
 (d 5=false->(
 f163 t12 (some ⟨b6,0,none⟩) (fun s1320 h21 =>
 ndP h21 b 0 t16 <|
 ndP h21 b 0 t15 <|
 ndP h21 b 0 t14 <|
 ndP h21 b 0 t13 <|
 ndV h21 b2 t8 t9 t10 t11 <|
 ndP h21 b 0 t <|
 I (XL d 5) (s10,(s1320.1,s1320.2.1,()),s16,s19,s22,s25,()) h21) h17)) /\
 (d 6=false->d 2=true->d 5=true->(
 Xr .string h17 s10 (.string (ByteArray.mk #[114,101,115,111,117,114,99,101])) (.func (.func 211) #[] #[.pointer s13.1,.pointer s13.2.1]) fun h22 =>
 ndP h22 b 0 t16 <|
 ndP h22 b 0 t15 <|
 ndP h22 b 0 t14 <|
 ndP h22 b 0 t13 <|
 ndP h22 b 0 t12 <|
 ndV h22 b2 t8 t9 t10 t11 <|
 ndP h22 b 0 t <|
 I (XL d 6) (s10,s13,s16,s19,s22,s25,()) h22)) /\
 (d 9=false->d 5=true->(
 f164 t13 (some ⟨b6,0+1,none⟩) (fun s1623 h24 =>
 ndP h24 b 0 t16 <|
 ndP h24 b 0 t15 <|
 ndP h24 b 0 t14 <|
 ndP h24 b 0 t12 <|
 ndV h24 b2 t8 t9 t10 t11 <|
 ndP h24 b 0 t <|
 I (XL d 9) (s10,s13,(s1623.1,s1623.2.1,()),s19,s22,s25,()) h24) h17)) /\
 (d 10=false->d 2=true->d 9=true->(
 Xr .string h17 s10 (.string (ByteArray.mk #[105,110,100,101,120])) (.func (.func 213) #[] #[.pointer s16.1,.pointer s16.2.1]) fun h25 =>
 ndP h25 b 0 t16 <|
 ndP h25 b 0 t15 <|
 ndP h25 b 0 t14 <|
 ndP h25 b 0 t13 <|
 ndP h25 b 0 t12 <|
 ndV h25 b2 t8 t9 t10 t11 <|
 ndP h25 b 0 t <|
 I (XL d 10) (s10,s13,s16,s19,s22,s25,()) h25)) /\
 (d 13=false->d 9=true->(
 f164 t14 (some ⟨b6,0+2,none⟩) (fun s1926 h27 =>
 ndP h27 b 0 t16 <|
 ndP h27 b 0 t15 <|
 ndP h27 b 0 t13 <|
 ndP h27 b 0 t12 <|
 ndV h27 b2 t8 t9 t10 t11 <|
 ndP h27 b 0 t <|
 I (XL d 13) (s10,s13,s16,(s1926.1,s1926.2.1,()),s22,s25,()) h27) h17)) /\
 (d 14=false->d 2=true->d 13=true->(
 Xr .string h17 s10 (.string (ByteArray.mk #[99,111,117,110,116])) (.func (.func 213) #[] #[.pointer s19.1,.pointer s19.2.1]) fun h28 =>
 ndP h28 b 0 t16 <|
 ndP h28 b 0 t15 <|
 ndP h28 b 0 t14 <|
 ndP h28 b 0 t13 <|
 ndP h28 b 0 t12 <|
 ndV h28 b2 t8 t9 t10 t11 <|
 ndP h28 b 0 t <|
 I (XL d 14) (s10,s13,s16,s19,s22,s25,()) h28)) /\
 (d 17=false->d 13=true->(
 f164 t15 (some ⟨b6,0+3,none⟩) (fun s2229 h30 =>
 ndP h30 b 0 t16 <|
 ndP h30 b 0 t14 <|
 ndP h30 b 0 t13 <|
 ndP h30 b 0 t12 <|
 ndV h30 b2 t8 t9 t10 t11 <|
 ndP h30 b 0 t <|
 I (XL d 17) (s10,s13,s16,s19,(s2229.1,s2229.2.1,()),s25,()) h30) h17)) /\
 (d 18=false->d 2=true->d 17=true->(
 Xr .string h17 s10 (.string (ByteArray.mk #[115,101,99,111,110,100,115])) (.func (.func 213) #[] #[.pointer s22.1,.pointer s22.2.1]) fun h31 =>
 ndP h31 b 0 t16 <|
 ndP h31 b 0 t15 <|
 ndP h31 b 0 t14 <|
 ndP h31 b 0 t13 <|
 ndP h31 b 0 t12 <|
 ndV h31 b2 t8 t9 t10 t11 <|
 ndP h31 b 0 t <|
 I (XL d 18) (s10,s13,s16,s19,s22,s25,()) h31)) /\
 (d 21=false->d 17=true->(
 f180 t16 (some ⟨b,0,none⟩,some ⟨b6,0,none⟩,()) (fun s2532 h33 =>
 ndP h33 b 0 t15 <|
 ndP h33 b 0 t14 <|
 ndP h33 b 0 t13 <|
 ndP h33 b 0 t12 <|
 ndV h33 b2 t8 t9 t10 t11 <|
 ndP h33 b 0 t <|
 I (XL d 21) (s10,s13,s16,s19,s22,(s2532.1,s2532.2.1,()),()) h33) h17)) /\
 (d 22=false->d 2=true->d 21=true->(
 Xr .string h17 s10 (.string (ByteArray.mk #[105,116,101,109,115])) (.func (.func 216) #[] #[.pointer s25.1,.pointer s25.2.1]) fun h34 =>
 ndP h34 b 0 t16 <|
 ndP h34 b 0 t15 <|
 ndP h34 b 0 t14 <|
 ndP h34 b 0 t13 <|
 ndP h34 b 0 t12 <|
 ndV h34 b2 t8 t9 t10 t11 <|
 ndP h34 b 0 t <|
 I (XL d 22) (s10,s13,s16,s19,s22,s25,()) h34))/\True) s.1 s.2.1 s.2.2.1 s.2.2.2.1 s.2.2.2.2.1 s.2.2.2.2.2.1) (fun d35 s36 h37 =>
 (fun (s1038:Option Nat) (s1339:oA × oA × Unit) (s1640:oA × oA × Unit) (s1941:oA × oA × Unit) (s2242:oA × oA × Unit) (s2543:oA × oA × Unit) =>
 d35 2=true->d35 5=true->d35 6=true->d35 9=true->d35 10=true->d35 13=true->d35 14=true->d35 17=true->d35 18=true->d35 21=true->d35 22=true->(
 ndP h37 b 0 t16 <|
 ndP h37 b 0 t15 <|
 ndP h37 b 0 t14 <|
 ndP h37 b 0 t13 <|
 ndP h37 b 0 t12 <|
 ndV h37 b2 t8 t9 t10 t11 <|
 ndP h37 b 0 t <|
 f165 t (t8,t9,t10,t11,()) s1038 (fun h44 =>
 ndP h44 b 0 t16 <|
 ndP h44 b 0 t15 <|
 ndP h44 b 0 t14 <|
 ndP h44 b 0 t13 <|
 ndP h44 b 0 t12 <|
 ldS h44 b6 0 fun t45=>ldI h44 b6 (0+1) .i64 fun t46=>ldI h44 b6 (0+2) .i64 fun t47=>ldI h44 b6 (0+3) .i64 fun t48=>ldL h44 b6 (0+4) fun t49 =>
 sts h44 b4 0 [.string t45,.int .i64 t46,.int .i64 t47,.int .i64 t48,slv t49] fun h50 =>
 ldS h50 b4 0 fun t51=>ldI h50 b4 (0+1) .i64 fun t52=>ldI h50 b4 (0+2) .i64 fun t53=>ldI h50 b4 (0+3) .i64 fun t54=>ldL h50 b4 (0+4) fun t55=>K (t51,t52,t53,t54,t55,()) h50) h37)) s36.1 s36.2.1 s36.2.2.1 s36.2.2.2.1 s36.2.2.2.2.1 s36.2.2.2.2.2.1) h7
def X9:Zvj:=Zcx Ya ZQ Z4 ZG
abbrev Zvi:=Sl->(Sl->Int->Int->HP)->HP
def YW (f181:Zvj) (l:Sl) (K:Sl->Int->Int->HP) (h:Zc):Prop :=
 Zi 0 fun t =>
 Zi 0 fun t1 =>
 Zar (σ:=Sl × Int × Unit) (fun J2 s h3 =>
 (fun (out:Sl) (s13:Int) =>
 Zz (decide (s13<(l.len:Int))) (
 ZcM l.ptr l.len s13 4 fun b o =>
 ldI h3 b o .u8 fun t4=>ldS h3 b (o+1) fun t5=>ldL h3 b (o+2) fun t6=>ldL h3 b (o+3) fun t7 =>
 newC h3 v0C 33 fun b8 h9 =>
 Zi s13 fun i =>
 sts h9 b8 0 [.int .u8 t4,.string t5,slv t6,slv t7] fun h10 =>
 newC h10 [.int .i64 0] 102 fun b11 h12 =>
 ldI h12 b8 0 .u8 fun t13=>ldS h12 b8 (0+1) fun t14=>ldL h12 b8 (0+2) fun t15=>ldL h12 b8 (0+3) fun t16 =>
 f181 (some ⟨b11,0,none⟩) (t13,t14,t15,t16,()) (fun t17 h18 =>
 newC h18 [.string t17.1,.int .i64 t17.2.1,.int .i64 t17.2.2.1,.int .i64 t17.2.2.2.1,slv t17.2.2.2.2.1] 85 fun b19 h20 =>
 rdS ⟨some ⟨b19,0,none⟩,1,1⟩ 5 h20 fun new=>app 85 5 64 [.string e0B,.int .i64 0,.int .i64 0,.int .i64 0,n0V] out 1 new h20 fun t21 h22 =>
 ldI h22 b11 0 .i64 fun t23 =>
 Zz (t23 !=0) (
 ldI h22 b11 0 .i64 fun t24 =>
 Zi i fun t25 =>
 Zi t24 fun t26 =>
 K n0S t25 t26 h22) (
 J2 (t21,IntKind.wrap .i64 (s13+1),()) h22)) h12) (
 Zi 0 fun t27 =>
 Zi 0 fun t28 =>
 K out t27 t28 h3)) s.1 s.2.1) (n0S,0,()) h
def Z8:Zvi:=YW X9
abbrev Zvh:=oA->oA->(Int->Int->HP)->HP
def Zb5 (f182:Zvi) (a0:oA) (a1:oA) (K:Int->Int->HP) (h:Zc):Prop :=
 Zi 0 fun i =>
 Zi 0 fun e =>
 Ze a0 fun b o=>ZAN 5 2 fun j =>
 ldL h b (o+j*1) fun t =>
 f182 t (fun t1 t2 t3 h4 =>
 Ze a1 fun b5 o6 =>
 st h4 b5 (o6+2) (slv t1) fun h7 =>
 Zi t2 fun i8 =>
 Zi t3 fun e9 =>
 K i8 e9 h7) h
def XV:Zvh:=Zb5 Z8
abbrev Zvg:=oA->(vTy)->((Int × Int × Int × Int × Int × Unit)->HP)->HP
def Zbn (f164:Zhk) (f165:ZcV) (r:oA) (v:vTy) (K:(Int × Int × Int × Int × Int × Unit)->HP) (h:Zc):Prop :=
 newC h (vCl v) 33 fun b h1 =>
 newC h1 [.int .i64 0,.int .i64 0,.int .i64 0,.int .i64 0,.int .i64 0] 91 fun b2 h3 =>
 newC h3 [.int .i64 0,.int .i64 0,.int .i64 0,.int .i64 0,.int .i64 0] 91 fun b4 h5 =>
 sts h5 b4 0 [.int .i64 (-1),.int .i64 (-1),.int .i64 (-1),.int .i64 (-1),.int .i64 (-1)] fun h6 =>
 ldI h6 b 0 .u8 fun t=>ldS h6 b (0+1) fun t7=>ldL h6 b (0+2) fun t8=>ldL h6 b (0+3) fun t9 =>
 Zyz (σ:=Option Nat × (oA × oA × Unit) × (oA × oA × Unit) × (oA × oA × Unit) × (oA × oA × Unit) × (oA × oA × Unit) × Unit) (fun I d s h10 =>
 (fun (s9:Option Nat) (s12:oA × oA × Unit) (s15:oA × oA × Unit) (s18:oA × oA × Unit) (s21:oA × oA × Unit) (s24:oA × oA × Unit) =>
 (d 2=false->(
 Zij h10 fun b11 h12 =>
 ndV h12 b t t7 t8 t9 <|
 I (XL d 2) (some b11,s12,s15,s18,s21,s24,()) h12)) /\
 (d 5=false->(
 f164 r (some ⟨b4,0,none⟩) (fun s1213 h14 =>
 ndV h14 b t t7 t8 t9 <|
 I (XL d 5) (s9,(s1213.1,s1213.2.1,()),s15,s18,s21,s24,()) h14) h10)) /\
 (d 6=false->d 2=true->d 5=true->(
 Xr .string h10 s9 (.string (ByteArray.mk #[113,112,115])) (.func (.func 213) #[] #[.pointer s12.1,.pointer s12.2.1]) fun h15 =>
 ndV h15 b t t7 t8 t9 <|
 I (XL d 6) (s9,s12,s15,s18,s21,s24,()) h15)) /\
 (d 9=false->d 5=true->(
 f164 r (some ⟨b4,0+1,none⟩) (fun s1516 h17 =>
 ndV h17 b t t7 t8 t9 <|
 I (XL d 9) (s9,s12,(s1516.1,s1516.2.1,()),s18,s21,s24,()) h17) h10)) /\
 (d 10=false->d 2=true->d 9=true->(
 Xr .string h10 s9 (.string (ByteArray.mk #[116,104,114,101,97,100,115])) (.func (.func 213) #[] #[.pointer s15.1,.pointer s15.2.1]) fun h18 =>
 ndV h18 b t t7 t8 t9 <|
 I (XL d 10) (s9,s12,s15,s18,s21,s24,()) h18)) /\
 (d 13=false->d 9=true->(
 f164 r (some ⟨b4,0+2,none⟩) (fun s1819 h20 =>
 ndV h20 b t t7 t8 t9 <|
 I (XL d 13) (s9,s12,s15,(s1819.1,s1819.2.1,()),s21,s24,()) h20) h10)) /\
 (d 14=false->d 2=true->d 13=true->(
 Xr .string h10 s9 (.string (ByteArray.mk #[114,116])) (.func (.func 213) #[] #[.pointer s18.1,.pointer s18.2.1]) fun h21 =>
 ndV h21 b t t7 t8 t9 <|
 I (XL d 14) (s9,s12,s15,s18,s21,s24,()) h21)) /\
 (d 17=false->d 13=true->(
 f164 r (some ⟨b4,0+3,none⟩) (fun s2122 h23 =>
 ndV h23 b t t7 t8 t9 <|
 I (XL d 17) (s9,s12,s15,s18,(s2122.1,s2122.2.1,()),s24,()) h23) h10)) /\
 (d 18=false->d 2=true->d 17=true->(
 Xr .string h10 s9 (.string (ByteArray.mk #[108,111,97,100])) (.func (.func 213) #[] #[.pointer s21.1,.pointer s21.2.1]) fun h24 =>
 ndV h24 b t t7 t8 t9 <|
 I (XL d 18) (s9,s12,s15,s18,s21,s24,()) h24)) /\
 (d 21=false->d 17=true->(
 f164 r (some ⟨b4,0+4,none⟩) (fun s2425 h26 =>
 ndV h26 b t t7 t8 t9 <|
 I (XL d 21) (s9,s12,s15,s18,s21,(s2425.1,s2425.2.1,()),()) h26) h10)) /\
 (d 22=false->d 2=true->d 21=true->(
 Xr .string h10 s9 (.string (ByteArray.mk #[99,112,117])) (.func (.func 213) #[] #[.pointer s24.1,.pointer s24.2.1]) fun h27 =>
 ndV h27 b t t7 t8 t9 <|
 I (XL d 22) (s9,s12,s15,s18,s21,s24,()) h27))/\True) s.1 s.2.1 s.2.2.1 s.2.2.2.1 s.2.2.2.2.1 s.2.2.2.2.2.1) (fun d28 s29 h30 =>
 (fun (s931:Option Nat) (s1232:oA × oA × Unit) (s1533:oA × oA × Unit) (s1834:oA × oA × Unit) (s2135:oA × oA × Unit) (s2436:oA × oA × Unit) =>
 d28 2=true->d28 5=true->d28 6=true->d28 9=true->d28 10=true->d28 13=true->d28 14=true->d28 17=true->d28 18=true->d28 21=true->d28 22=true->(
 ndV h30 b t t7 t8 t9 <|
 f165 r (t,t7,t8,t9,()) s931 (fun h37 =>
 ldI h37 b4 0 .i64 fun t38=>ldI h37 b4 (0+1) .i64 fun t39=>ldI h37 b4 (0+2) .i64 fun t40=>ldI h37 b4 (0+3) .i64 fun t41=>ldI h37 b4 (0+4) .i64 fun t42 =>
 sts h37 b2 0 [.int .i64 t38,.int .i64 t39,.int .i64 t40,.int .i64 t41,.int .i64 t42] fun h43 =>
 ldI h43 b2 0 .i64 fun t44=>ldI h43 b2 (0+1) .i64 fun t45=>ldI h43 b2 (0+2) .i64 fun t46=>ldI h43 b2 (0+3) .i64 fun t47=>ldI h43 b2 (0+4) .i64 fun t48=>K (t44,t45,t46,t47,t48,()) h43) h30)) s29.1 s29.2.1 s29.2.2.1 s29.2.2.2.1 s29.2.2.2.2.1 s29.2.2.2.2.2.1) h6
def XA:Zvg:=Zbn ZQ ZG
abbrev Zvf:=Sl->(Sl->Int->Int->HP)->HP
def Yw (f184:Zvg) (l:Sl) (K:Sl->Int->Int->HP) (h:Zc):Prop :=
 Zi 0 fun t =>
 Zi 0 fun t1 =>
 Zar (σ:=Sl × Int × Unit) (fun J2 s h3 =>
 (fun (out:Sl) (s13:Int) =>
 Zz (decide (s13<(l.len:Int))) (
 ZcM l.ptr l.len s13 4 fun b o =>
 ldI h3 b o .u8 fun t4=>ldS h3 b (o+1) fun t5=>ldL h3 b (o+2) fun t6=>ldL h3 b (o+3) fun t7 =>
 newC h3 v0C 33 fun b8 h9 =>
 Zi s13 fun i =>
 sts h9 b8 0 [.int .u8 t4,.string t5,slv t6,slv t7] fun h10 =>
 newC h10 [.int .i64 0] 102 fun b11 h12 =>
 ldI h12 b8 0 .u8 fun t13=>ldS h12 b8 (0+1) fun t14=>ldL h12 b8 (0+2) fun t15=>ldL h12 b8 (0+3) fun t16 =>
 f184 (some ⟨b11,0,none⟩) (t13,t14,t15,t16,()) (fun t17 h18 =>
 newC h18 [.int .i64 t17.1,.int .i64 t17.2.1,.int .i64 t17.2.2.1,.int .i64 t17.2.2.2.1,.int .i64 t17.2.2.2.2.1] 91 fun b19 h20 =>
 rdS ⟨some ⟨b19,0,none⟩,1,1⟩ 5 h20 fun new=>app 91 5 40 [.int .i64 0,.int .i64 0,.int .i64 0,.int .i64 0,.int .i64 0] out 1 new h20 fun t21 h22 =>
 ldI h22 b11 0 .i64 fun t23 =>
 Zz (t23 !=0) (
 ldI h22 b11 0 .i64 fun t24 =>
 Zi i fun t25 =>
 Zi t24 fun t26 =>
 K n0S t25 t26 h22) (
 J2 (t21,IntKind.wrap .i64 (s13+1),()) h22)) h12) (
 Zi 0 fun t27 =>
 Zi 0 fun t28 =>
 K out t27 t28 h3)) s.1 s.2.1) (n0S,0,()) h
def ZL:Zvf:=Yw XA
abbrev Zve:=oA->oA->(Int->Int->HP)->HP
def Zb4 (f185:Zvf) (a0:oA) (a1:oA) (K:Int->Int->HP) (h:Zc):Prop :=
 Zi 0 fun i =>
 Zi 0 fun e =>
 Ze a0 fun b o=>ZAN 5 3 fun j =>
 ldL h b (o+j*1) fun t =>
 f185 t (fun t1 t2 t3 h4 =>
 Ze a1 fun b5 o6 =>
 st h4 b5 (o6+3) (slv t1) fun h7 =>
 Zi t2 fun i8 =>
 Zi t3 fun e9 =>
 K i8 e9 h7) h
def XU:Zve:=Zb4 ZL
abbrev Zvd:=oA->(oA × oA × Unit)->((oA × oA × Unit)->HP)->HP
def YH (r:oA) (each:oA × oA × Unit) (K:(oA × oA × Unit)->HP) (h:Zc):Prop :=
 newC h [.pointer r] 98 fun b h1 =>
 Y6 (Yc (.func (.func 145) #[] #[.pointer each.1,.pointer each.2.1])=true) <| newC h1 [.func (.func 145) #[] #[.pointer each.1,.pointer each.2.1]] 104 fun b2 h3 =>
 K (some ⟨b,0,none⟩,some ⟨b2,0,none⟩,()) h3
def ZW:Zvd:=YH
abbrev Zvc:=oA->(vTy)->((ByteArray × Bool × Sl × Unit)->HP)->HP
def ZbZ (f163:Zhl) (f170:Zo1) (f187:Zvd) (f165:ZcV) (r:oA) (v:vTy) (K:(ByteArray × Bool × Sl × Unit)->HP) (h:Zc):Prop :=
 newC h [.pointer r] 98 fun b h1 =>
 newC h1 (vCl v) 33 fun b2 h3 =>
 newC h3 [.string e0B,.bool false,n0V] 95 fun b4 h5 =>
 newC h5 [.string e0B,.bool false,n0V] 95 fun b6 h7 =>
 ldP h7 b 0 fun t =>
 ldI h7 b2 0 .u8 fun t8=>ldS h7 b2 (0+1) fun t9=>ldL h7 b2 (0+2) fun t10=>ldL h7 b2 (0+3) fun t11 =>
 ldP h7 b 0 fun t12 =>
 ldP h7 b 0 fun t13 =>
 ldP h7 b 0 fun t14 =>
 Zyz (σ:=Option Nat × (oA × oA × Unit) × (oA × oA × Unit) × (oA × oA × Unit) × Unit) (fun I d s h15 =>
 (fun (s10:Option Nat) (s13:oA × oA × Unit) (s16:oA × oA × Unit) (s19:oA × oA × Unit) =>
 (d 2=false->(
 Zij h15 fun b16 h17 =>
 ndP h17 b 0 t14 <|
 ndP h17 b 0 t13 <|
 ndP h17 b 0 t12 <|
 ndV h17 b2 t8 t9 t10 t11 <|
 ndP h17 b 0 t <|
 I (XL d 2) (some b16,s13,s16,s19,()) h17)) /\
 (d 5=false->(
 f163 t12 (some ⟨b6,0,none⟩) (fun s1318 h19 =>
 ndP h19 b 0 t14 <|
 ndP h19 b 0 t13 <|
 ndV h19 b2 t8 t9 t10 t11 <|
 ndP h19 b 0 t <|
 I (XL d 5) (s10,(s1318.1,s1318.2.1,()),s16,s19,()) h19) h15)) /\
 (d 6=false->d 2=true->d 5=true->(
 Xr .string h15 s10 (.string (ByteArray.mk #[114,101,115,111,117,114,99,101])) (.func (.func 211) #[] #[.pointer s13.1,.pointer s13.2.1]) fun h20 =>
 ndP h20 b 0 t14 <|
 ndP h20 b 0 t13 <|
 ndP h20 b 0 t12 <|
 ndV h20 b2 t8 t9 t10 t11 <|
 ndP h20 b 0 t <|
 I (XL d 6) (s10,s13,s16,s19,()) h20)) /\
 (d 9=false->d 5=true->(
 f170 t13 (some ⟨b6,0+1,none⟩) (fun s1621 h22 =>
 ndP h22 b 0 t14 <|
 ndP h22 b 0 t12 <|
 ndV h22 b2 t8 t9 t10 t11 <|
 ndP h22 b 0 t <|
 I (XL d 9) (s10,s13,(s1621.1,s1621.2.1,()),s19,()) h22) h15)) /\
 (d 10=false->d 2=true->d 9=true->(
 Xr .string h15 s10 (.string (ByteArray.mk #[119,104,105,116,101])) (.func (.func 212) #[] #[.pointer s16.1,.pointer s16.2.1]) fun h23 =>
 ndP h23 b 0 t14 <|
 ndP h23 b 0 t13 <|
 ndP h23 b 0 t12 <|
 ndV h23 b2 t8 t9 t10 t11 <|
 ndP h23 b 0 t <|
 I (XL d 10) (s10,s13,s16,s19,()) h23)) /\
 (d 13=false->d 9=true->(
 f187 t14 (some ⟨b,0,none⟩,some ⟨b6,0,none⟩,()) (fun s1924 h25 =>
 ndP h25 b 0 t13 <|
 ndP h25 b 0 t12 <|
 ndV h25 b2 t8 t9 t10 t11 <|
 ndP h25 b 0 t <|
 I (XL d 13) (s10,s13,s16,(s1924.1,s1924.2.1,()),()) h25) h15)) /\
 (d 14=false->d 2=true->d 13=true->(
 Xr .string h15 s10 (.string (ByteArray.mk #[111,114,105,103,105,110,115])) (.func (.func 216) #[] #[.pointer s19.1,.pointer s19.2.1]) fun h26 =>
 ndP h26 b 0 t14 <|
 ndP h26 b 0 t13 <|
 ndP h26 b 0 t12 <|
 ndV h26 b2 t8 t9 t10 t11 <|
 ndP h26 b 0 t <|
 I (XL d 14) (s10,s13,s16,s19,()) h26))/\True) s.1 s.2.1 s.2.2.1 s.2.2.2.1) (fun d27 s28 h29 =>
 (fun (s1030:Option Nat) (s1331:oA × oA × Unit) (s1632:oA × oA × Unit) (s1933:oA × oA × Unit) =>
 d27 2=true->d27 5=true->d27 6=true->d27 9=true->d27 10=true->d27 13=true->d27 14=true->(
 ndP h29 b 0 t14 <|
 ndP h29 b 0 t13 <|
 ndP h29 b 0 t12 <|
 ndV h29 b2 t8 t9 t10 t11 <|
 ndP h29 b 0 t <|
 f165 t (t8,t9,t10,t11,()) s1030 (fun h34 =>
 ndP h34 b 0 t14 <|
 ndP h34 b 0 t13 <|
 ndP h34 b 0 t12 <|
 ldS h34 b6 0 fun t35=>ldB h34 b6 (0+1) fun t36=>ldL h34 b6 (0+2) fun t37 =>
 sts h34 b4 0 [.string t35,.bool t36,slv t37] fun h38 =>
 ldS h38 b4 0 fun t39=>ldB h38 b4 (0+1) fun t40=>ldL h38 b4 (0+2) fun t41=>K (t39,t40,t41,()) h38) h29)) s28.1 s28.2.1 s28.2.2.1 s28.2.2.2.1) h7
def XR:Zvc:=ZbZ Ya Xz ZW ZG
abbrev Zvb:=Sl->(Sl->Int->Int->HP)->HP
def Ys (f188:Zvc) (l:Sl) (K:Sl->Int->Int->HP) (h:Zc):Prop :=
 Zi 0 fun t =>
 Zi 0 fun t1 =>
 Zar (σ:=Sl × Int × Unit) (fun J2 s h3 =>
 (fun (out:Sl) (s13:Int) =>
 Zz (decide (s13<(l.len:Int))) (
 ZcM l.ptr l.len s13 4 fun b o =>
 ldI h3 b o .u8 fun t4=>ldS h3 b (o+1) fun t5=>ldL h3 b (o+2) fun t6=>ldL h3 b (o+3) fun t7 =>
 newC h3 v0C 33 fun b8 h9 =>
 Zi s13 fun i =>
 sts h9 b8 0 [.int .u8 t4,.string t5,slv t6,slv t7] fun h10 =>
 newC h10 [.int .i64 0] 102 fun b11 h12 =>
 ldI h12 b8 0 .u8 fun t13=>ldS h12 b8 (0+1) fun t14=>ldL h12 b8 (0+2) fun t15=>ldL h12 b8 (0+3) fun t16 =>
 f188 (some ⟨b11,0,none⟩) (t13,t14,t15,t16,()) (fun t17 h18 =>
 newC h18 [.string t17.1,.bool t17.2.1,slv t17.2.2.1] 95 fun b19 h20 =>
 rdS ⟨some ⟨b19,0,none⟩,1,1⟩ 3 h20 fun new=>app 95 3 48 [.string e0B,.bool false,n0V] out 1 new h20 fun t21 h22 =>
 ldI h22 b11 0 .i64 fun t23 =>
 Zz (t23 !=0) (
 ldI h22 b11 0 .i64 fun t24 =>
 Zi i fun t25 =>
 Zi t24 fun t26 =>
 K n0S t25 t26 h22) (
 J2 (t21,IntKind.wrap .i64 (s13+1),()) h22)) h12) (
 Zi 0 fun t27 =>
 Zi 0 fun t28 =>
 K out t27 t28 h3)) s.1 s.2.1) (n0S,0,()) h
def ZK:Zvb:=Ys XR
abbrev Zva:=oA->oA->(Int->Int->HP)->HP
def Zb3 (f189:Zvb) (a0:oA) (a1:oA) (K:Int->Int->HP) (h:Zc):Prop :=
 Zi 0 fun i =>
 Zi 0 fun e =>
 Ze a0 fun b o=>ZAN 5 4 fun j =>
 ldL h b (o+j*1) fun t =>
 f189 t (fun t1 t2 t3 h4 =>
 Ze a1 fun b5 o6 =>
 st h4 b5 (o6+4) (slv t1) fun h7 =>
 Zi t2 fun i8 =>
 Zi t3 fun e9 =>
 K i8 e9 h7) h
def XT:Zva:=Zb3 ZK
abbrev Zu9:=(rTy)->(Sl->HP)->HP
def ZfY (r:rTy) (K:Sl->HP) (h:Zc):Prop :=
 newC h (rCl r) 28 fun b h1 =>
 ldL h1 b 0 fun t =>
 Y6 (Yc (.func (.func 217) #[] #[.pointer (some ⟨b,0,none⟩)])=true) <|
 ldL h1 b (0+1) fun t2 =>
 Y6 (Yc (.func (.func 219) #[] #[.pointer (some ⟨b,0,none⟩)])=true) <|
 ldL h1 b (0+2) fun t3 =>
 Y6 (Yc (.func (.func 221) #[] #[.pointer (some ⟨b,0,none⟩)])=true) <|
 ldL h1 b (0+3) fun t4 =>
 Y6 (Yc (.func (.func 223) #[] #[.pointer (some ⟨b,0,none⟩)])=true) <|
 ldL h1 b (0+4) fun t5 =>
 Y6 (Yc (.func (.func 225) #[] #[.pointer (some ⟨b,0,none⟩)])=true) <|
 newC h1 [.int .u8 1,.int .i64 (t.len:Int),.func (.func 217) #[] #[.pointer (some ⟨b,0,none⟩)],.int .u8 2,.int .i64 (t2.len:Int),.func (.func 219) #[] #[.pointer (some ⟨b,0,none⟩)],.int .u8 3,.int .i64 (t3.len:Int),.func (.func 221) #[] #[.pointer (some ⟨b,0,none⟩)],.int .u8 4,.int .i64 (t4.len:Int),.func (.func 223) #[] #[.pointer (some ⟨b,0,none⟩)],.int .u8 5,.int .i64 (t5.len:Int),.func (.func 225) #[] #[.pointer (some ⟨b,0,none⟩)]] 221 fun b6 h7 =>
 K ⟨some ⟨b6,0,none⟩,5,5⟩ h7
def ZcZ:Zu9:=ZfY
abbrev Zce:=Int->Int->Int->(Bool->HP)->HP
def ZfX (n:Int) (lo:Int) (hi:Int) (K:Bool->HP) (h:Zc):Prop :=
 Zz (decide (n>=lo)) (
 Yx (decide (n<=hi)) fun t =>
 K t h) (
 K false h)
def ZM:Zce:=ZfX
abbrev Zo0:=ByteArray->(Bool->HP)->HP
def Zf1 (f192:Zce) (s:ByteArray) (K:Bool->HP) (h:Zc):Prop :=
 Zar (σ:=Int × Unit) (fun J1 s2 h3 =>
 (fun (s6:Int) =>
 Zz (decide (s6<(s.size:Int))) (
 Zi s6 fun i =>
 ZDP s i fun t =>
 f192 (IntKind.wrap .i64 t) 33 126 (fun t4 h5 =>
 Zz (!t4) (
 K false h5) (
 J1 (IntKind.wrap .i64 (s6+1),()) h5)) h3) (
 f192 (s.size:Int) 1 64 (fun t6 h7 =>
 Yx t6 fun t8 =>
 K t8 h7) h3)) s2.1) (0,()) h
def Za5:Zo0:=Zf1 ZM
abbrev Zu8:=ByteArray->(Bool->HP)->HP
def Zct (f193:Zo0) (s:ByteArray) (K:Bool->HP) (h:Zc):Prop :=
 f193 s (fun t h1 =>
 Yx (!t) fun t2 =>
 K t2 h1) h
def ZaS:Zu8:=Zct Za5
abbrev Zu7:=Sl->(Int->HP)->HP
def Yq (f194:Zu8) (s:Sl) (K:Int->HP) (h:Zc):Prop :=
 Zi 0 fun t =>
 Zar (σ:=Int × Unit) (fun J1 s2 h3 =>
 (fun (s8:Int) =>
 Zz (decide (s8<(s.len:Int))) (
 Zi s8 fun i =>
 ZcM s.ptr s.len i 1 fun b o =>
 ldS h3 b o fun t4 =>
 f194 t4 (fun t5 h6 =>
 Zz t5 (
 Zi i fun t7 =>
 K t7 h6) (
 J1 (IntKind.wrap .i64 (s8+1),()) h6)) h3) (
 Zi (-1) fun t8 =>
 K t8 h3)) s2.1) (0,()) h
def ZH:Zu7:=Yq ZaS
abbrev Zu6:=Sl->(Bool->HP)->HP
def Ym (f195:Zu7) (s:Sl) (K:Bool->HP) (h:Zc):Prop :=
 f195 s (fun t h1 =>
 Yx (decide (t>=0)) fun t2 =>
 K t2 h1) h
def ZR:Zu6:=Ym ZH
abbrev Zu5:=(ByteArray × Sl × Unit)->(Bool->HP)->HP
def Zdj (f193:Zo0) (f196:Zu6) (r:ByteArray × Sl × Unit) (K:Bool->HP) (h:Zc):Prop :=
 newC h [.string r.1,slv r.2.1] 306 fun b h1 =>
 ldS h1 b 0 fun t =>
 f193 t (fun t2 h3 =>
 Zz t2 (
 ldL h3 b (0+1) fun t4 =>
 f196 t4 (fun t5 h6 =>
 Yx (!t5) fun t7 =>
 K t7 h6) h3) (
 K false h3)) h1
def ZaC:Zu5:=Zdj Za5 ZR
abbrev Zu4:=oA->oA->(Bool->HP)->HP
def Zf8 (f192:Zce) (a0:oA) (a1:oA) (K:Bool->HP) (h:Zc):Prop :=
 Ze a0 fun b o =>
 ldI h b (o+3) .i64 fun t =>
 Ze a1 fun b1 o2=>ldI h b1 o2 .i64 fun t3 =>
 f192 t t3 1099511627776 (fun t4 h5 =>
 Yx t4 fun t6 =>
 K t6 h5) h
def Zc8:Zu4:=Zf8 ZM
abbrev Zu3:=oA->(Bool->HP)->HP
def Zf7 (a0:oA) (K:Bool->HP) (h:Zc):Prop :=
 Ze a0 fun b o =>
 ldI h b (o+4) .u8 fun t =>
 Zz (decide (t<=2)) (
 Ze a0 fun b1 o2 =>
 ldI h b1 (o2+6) .u8 fun t3 =>
 Yx (decide (t3<=3)) fun t4 =>
 K t4 h) (
 K false h)
def Zc7:Zu3:=Zf7
abbrev Zu2:=oA->(Bool->HP)->HP
def Zf6 (a0:oA) (K:Bool->HP) (h:Zc):Prop :=
 Ze a0 fun b o =>
 ldI h b (o+4) .u8 fun t =>
 Zz (t !=0) (
 K true h) (
 Ze a0 fun b1 o2 =>
 ldS h b1 (o2+5) fun t3 =>
 Yx (Zch t3 e0B) fun t4 =>
 K t4 h)
def Zc6:Zu2:=Zf6
abbrev Zu1:=oA->(Bool->HP)->HP
def Zf5 (a0:oA) (K:Bool->HP) (h:Zc):Prop :=
 Ze a0 fun b o =>
 ldB h b (o+2) fun t =>
 Zz (!t) (
 K true h) (
 Ze a0 fun b1 o2 =>
 ldI h b1 (o2+6) .u8 fun t3 =>
 Zz (t3 ==0) (
 Ze a0 fun b4 o5 =>
 ldB h b4 (o5+9) fun t6 =>
 Yx (!t6) fun t7 =>
 K t7 h) (
 K false h))
def Zc5:Zu1:=Zf5
abbrev ZkM:=Bool->Int->Int->Int->(Bool->HP)->HP
def ZhI (f192:Zce) (asked:Bool) (n:Int) (lo:Int) (hi:Int) (K:Bool->HP) (h:Zc):Prop :=
 Zz asked (
 f192 n lo hi (fun t h1 =>
 Zz t (
 K true h1) (
 Zz (!asked) (
 Yx (n ==0) fun t2 =>
 K t2 h1) (
 K false h1))) h) (
 Zz (!asked) (
 Yx (n ==0) fun t3 =>
 K t3 h) (
 K false h))
def ZaT:ZkM:=ZhI ZM
abbrev Zu0:=oA->oA->oA->(Bool->HP)->HP
def Zf4 (f202:ZkM) (a0:oA) (a1:oA) (a2:oA) (K:Bool->HP) (h:Zc):Prop :=
 Ze a0 fun b o=>ldB h b o fun t =>
 Ze a1 fun b1 o2 =>
 ldI h b1 (o2+7) .i64 fun t3 =>
 f202 t t3 1 3600 (fun t4 h5 =>
 Zz t4 (
 Ze a2 fun b6 o7=>ldB h5 b6 o7 fun t8 =>
 Ze a1 fun b9 o10 =>
 ldI h5 b9 (o10+8) .i64 fun t11 =>
 f202 t8 t11 0 3600000000 (fun t12 h13 =>
 Yx t12 fun t14 =>
 K t14 h13) h5) (
 K false h5)) h
def Zc4:Zu0:=Zf4 ZaT
abbrev ZuZ:=oA->(Bool->HP)->HP
def Zf3 (a0:oA) (K:Bool->HP) (h:Zc):Prop :=
 Ze a0 fun b o =>
 ldB h b (o+9) fun t =>
 Zz (!t) (
 K true h) (
 Ze a0 fun b1 o2 =>
 ldI h b1 (o2+4) .u8 fun t3 =>
 Zz (t3 ==0) (
 Ze a0 fun b4 o5 =>
 ldI h b4 (o5+6) .u8 fun t6 =>
 Yx (t6 ==0) fun t7 =>
 K t7 h) (
 K false h))
def Zc3:ZuZ:=Zf3
abbrev ZuY:=oA->(Bool->HP)->HP
def Zf2 (f202:ZkM) (a0:oA) (K:Bool->HP) (h:Zc):Prop :=
 Ze a0 fun b o =>
 ldB h b (o+9) fun t =>
 Ze a0 fun b1 o2 =>
 ldI h b1 (o2+10) .i64 fun t3 =>
 f202 t t3 1 1099511627776 (fun t4 h5 =>
 Zz t4 (
 Ze a0 fun b6 o7 =>
 ldB h5 b6 (o7+9) fun t8 =>
 Zz t8 (
 K true h5) (
 Ze a0 fun b9 o10 =>
 ldB h5 b9 (o10+11) fun t11 =>
 Yx (!t11) fun t12 =>
 K t12 h5)) (
 K false h5)) h
def Zc2:ZuY:=Zf2 ZaT
abbrev ZuX:=oA->oA->(Bool->HP)->HP
def Zfv (f192:Zce) (a0:oA) (a1:oA) (K:Bool->HP) (h:Zc):Prop :=
 Ze a0 fun b o =>
 ldI h b (o+1) .u8 fun t =>
 Zz (decide (t<=2)) (
 Ze a0 fun b1 o2 =>
 ldI h b1 (o2+2) .i64 fun t3 =>
 Ze a1 fun b4 o5=>ldI h b4 o5 .i64 fun t6 =>
 f192 t3 0 t6 (fun t7 h8 =>
 Yx t7 fun t9 =>
 K t9 h8) h) (
 K false h)
def Zcn:ZuX:=Zfv ZM
abbrev ZuW:=oA->(Bool->HP)->HP
def Zfu (f202:ZkM) (a0:oA) (K:Bool->HP) (h:Zc):Prop :=
 Ze a0 fun b o =>
 ldI h b (o+1) .u8 fun t =>
 Ze a0 fun b1 o2 =>
 ldI h b1 (o2+3) .i64 fun t3 =>
 f202 (t ==0) t3 1 3600000000 (fun t4 h5 =>
 Yx t4 fun t6 =>
 K t6 h5) h
def Zcm:ZuW:=Zfu ZaT
abbrev ZuV:=oA->(Bool->HP)->HP
def Zft (f192:Zce) (a0:oA) (K:Bool->HP) (h:Zc):Prop :=
 Ze a0 fun b o =>
 ldI h b (o+4) .i64 fun t =>
 f192 t 1 1099511627776 (fun t1 h2 =>
 Zz t1 (
 Ze a0 fun b3 o4 =>
 ldI h2 b3 (o4+5) .i64 fun t5 =>
 f192 t5 1000000 120000000 (fun t6 h7 =>
 Yx t6 fun t8 =>
 K t8 h7) h2) (
 K false h2)) h
def Zcl:ZuV:=Zft ZM
abbrev ZuU:=oA->(Bool->HP)->HP
def Zfs (f192:Zce) (a0:oA) (K:Bool->HP) (h:Zc):Prop :=
 Ze a0 fun b o =>
 ldI h b (o+6) .i64 fun t =>
 f192 t 1000000 3600000000 (fun t1 h2 =>
 Yx t1 fun t3 =>
 K t3 h2) h
def Zck:ZuU:=Zfs ZM
abbrev ZuT:=oA->(Bool->HP)->HP
def ZgT (f192:Zce) (a0:oA) (K:Bool->HP) (h:Zc):Prop :=
 Ze a0 fun b o =>
 ldI h b (o+1) .i64 fun t =>
 f192 t 0 7 (fun t1 h2 =>
 Zz t1 (
 Ze a0 fun b3 o4 =>
 ldI h2 b3 (o4+2) .i64 fun t5 =>
 f192 t5 0 1099511627776 (fun t6 h7 =>
 Yx t6 fun t8 =>
 K t8 h7) h2) (
 K false h2)) h
def ZdK:ZuT:=ZgT ZM
abbrev ZoZ:=Sl->(Bool->HP)->HP
def ZgP (f153:Zo2) (l:Sl) (K:Bool->HP) (h:Zc):Prop :=
 Zar (σ:=Int × Unit) (fun J1 s h2 =>
 (fun (s7:Int) =>
 Zz (decide (s7<(l.len:Int))) (
 ZcM l.ptr l.len s7 1 fun b o =>
 ldS h2 b o fun t =>
 Zi s7 fun i =>
 slc l.ptr l.cap 1 0 i l.cap fun t3 =>
 f153 t3 t (fun t4 h5 =>
 Zz t4 (
 K true h5) (
 J1 (IntKind.wrap .i64 (s7+1),()) h5)) h2) (
 K false h2)) s.1) (0,()) h
def ZbD:ZoZ:=ZgP ZY
abbrev ZuS:=oA->oA->(Bool->HP)->HP
def ZgS (f192:Zce) (f211:ZoZ) (a0:oA) (a1:oA) (K:Bool->HP) (h:Zc):Prop :=
 Ze a0 fun b o =>
 ldI h b (o+3) .i64 fun t =>
 f192 t 1 60 (fun t1 h2 =>
 Zz t1 (
 Ze a0 fun b3 o4 =>
 ldL h2 b3 (o4+4) fun t5 =>
 Zz (decide ((t5.len:Int)<=32)) (
 Ze a1 fun b6 o7=>ldL h2 b6 o7 fun t8 =>
 f211 t8 (fun t9 h10 =>
 Yx (!t9) fun t11 =>
 K t11 h10) h2) (
 K false h2)) (
 K false h2)) h
def ZdJ:ZuS:=ZgS ZM ZbD
abbrev ZuR:=(ByteArray × Int × Unit)->(Bool->HP)->HP
def Zfr (f192:Zce) (x:ByteArray × Int × Unit) (K:Bool->HP) (h:Zc):Prop :=
 newC h [.string x.1,.int .i64 x.2.1] 203 fun b h1 =>
 ldS h1 b 0 fun t =>
 Zz (decide ((t.size:Int)>64)) (
 K true h1) (
 ldI h1 b (0+1) .i64 fun t2 =>
 f192 t2 0 1099511627776 (fun t3 h4 =>
 Yx (!t3) fun t5 =>
 K t5 h4) h1)
def ZdH:ZuR:=Zfr ZM
abbrev ZuQ:=Sl->(Int->HP)->HP
def Yr (f213:ZuR) (s:Sl) (K:Int->HP) (h:Zc):Prop :=
 Zi 0 fun t =>
 Zar (σ:=Int × Unit) (fun J1 s2 h3 =>
 (fun (s8:Int) =>
 Zz (decide (s8<(s.len:Int))) (
 Zi s8 fun i =>
 ZcM s.ptr s.len i 2 fun b o =>
 ldS h3 b o fun t4=>ldI h3 b (o+1) .i64 fun t5 =>
 f213 (t4,t5,()) (fun t6 h7 =>
 Zz t6 (
 Zi i fun t8 =>
 K t8 h7) (
 J1 (IntKind.wrap .i64 (s8+1),()) h7)) h3) (
 Zi (-1) fun t9 =>
 K t9 h3)) s2.1) (0,()) h
def Yb:ZuQ:=Yr ZdH
abbrev ZuP:=Sl->(Bool->HP)->HP
def Yo (f214:ZuQ) (s:Sl) (K:Bool->HP) (h:Zc):Prop :=
 f214 s (fun t h1 =>
 Yx (decide (t>=0)) fun t2 =>
 K t2 h1) h
def ZZ:ZuP:=Yo Yb
abbrev ZuO:=oA->(Bool->HP)->HP
def ZgR (f215:ZuP) (a0:oA) (K:Bool->HP) (h:Zc):Prop :=
 Ze a0 fun b o =>
 ldL h b (o+4) fun t =>
 f215 t (fun t1 h2 =>
 Yx (!t1) fun t3 =>
 K t3 h2) h
def ZdI:ZuO:=ZgR ZZ
abbrev ZuN:=oA->(Bool->HP)->HP
def Zf0 (f192:Zce) (f211:ZoZ) (a0:oA) (K:Bool->HP) (h:Zc):Prop :=
 Ze a0 fun b o =>
 ldL h b (o+2) fun t =>
 f192 (t.len:Int) 1 32 (fun t1 h2 =>
 Zz t1 (
 Ze a0 fun b3 o4 =>
 ldL h2 b3 (o4+2) fun t5 =>
 f211 t5 (fun t6 h7 =>
 Yx (!t6) fun t8 =>
 K t8 h7) h2) (
 K false h2)) h
def Zc1:ZuN:=Zf0 ZM ZbD
abbrev ZiU:=(ByteArray × Sl × Int × Unit)->Sl->(Int->HP)->HP
def Zfq (f197:Zu5) (f198:Zu4) (f199:Zu3) (f200:Zu2) (f201:Zu1) (f203:Zu0) (f204:ZuZ) (f205:ZuY) (f206:ZuX) (f207:ZuW) (f208:ZuV) (f209:ZuU) (f210:ZuT) (f212:ZuS) (f216:ZuO) (f217:ZuN) (l:ByteArray × Sl × Int × Unit) (all:Sl) (K:Int->HP) (h:Zc):Prop :=
 newC h [.string l.1,slv l.2.1,.int .i64 l.2.2.1] 308 fun b h1 =>
 Zi 0 fun t =>
 ldS h1 b 0 fun t2=>ldL h1 b (0+1) fun t3 =>
 f197 (t2,t3,()) (fun t4 h5 =>
 Zz (!t4) (
 Zi 10 fun t6 =>
 K t6 h5) (
 Zar (σ:=Int × Unit) (fun J7 s h8 =>
 (fun (s13:Int) =>
 Zz (decide (s13<(all.len:Int))) (
 ZcM all.ptr all.len s13 1 fun b9 o =>
 ldV h8 b9 o fun t10 =>
 (exG t10 (fun c:oA × oA × Unit=> .func (.func 275) #[] ⟨[.pointer c.1,.pointer c.2.1]⟩) fun c=>f198 c.1 c.2.1 (fun t12 h11 =>
 Zz (!t12) (
 ldI h11 b (0+2) .i64 fun t27 =>
 Zi t27 fun t28 =>
 K t28 h11) (
 J7 (IntKind.wrap .i64 (s13+1),()) h11)) h8)\/(
 (exG t10 (fun c13:oA × Unit=> .func (.func 277) #[] ⟨[.pointer c13.1]⟩) fun c13=>f199 c13.1 (fun t12 h11 =>
 Zz (!t12) (
 ldI h11 b (0+2) .i64 fun t27 =>
 Zi t27 fun t28 =>
 K t28 h11) (
 J7 (IntKind.wrap .i64 (s13+1),()) h11)) h8)\/(
 (exG t10 (fun c14:oA × Unit=> .func (.func 278) #[] ⟨[.pointer c14.1]⟩) fun c14=>f200 c14.1 (fun t12 h11 =>
 Zz (!t12) (
 ldI h11 b (0+2) .i64 fun t27 =>
 Zi t27 fun t28 =>
 K t28 h11) (
 J7 (IntKind.wrap .i64 (s13+1),()) h11)) h8)\/(
 (exG t10 (fun c15:oA × Unit=> .func (.func 279) #[] ⟨[.pointer c15.1]⟩) fun c15=>f201 c15.1 (fun t12 h11 =>
 Zz (!t12) (
 ldI h11 b (0+2) .i64 fun t27 =>
 Zi t27 fun t28 =>
 K t28 h11) (
 J7 (IntKind.wrap .i64 (s13+1),()) h11)) h8)\/(
 (exG t10 (fun c16:oA × oA × oA × Unit=> .func (.func 280) #[] ⟨[.pointer c16.1,.pointer c16.2.1,.pointer c16.2.2.1]⟩) fun c16=>f203 c16.1 c16.2.1 c16.2.2.1 (fun t12 h11 =>
 Zz (!t12) (
 ldI h11 b (0+2) .i64 fun t27 =>
 Zi t27 fun t28 =>
 K t28 h11) (
 J7 (IntKind.wrap .i64 (s13+1),()) h11)) h8)\/(
 (exG t10 (fun c17:oA × Unit=> .func (.func 282) #[] ⟨[.pointer c17.1]⟩) fun c17=>f204 c17.1 (fun t12 h11 =>
 Zz (!t12) (
 ldI h11 b (0+2) .i64 fun t27 =>
 Zi t27 fun t28 =>
 K t28 h11) (
 J7 (IntKind.wrap .i64 (s13+1),()) h11)) h8)\/(
 (exG t10 (fun c18:oA × Unit=> .func (.func 283) #[] ⟨[.pointer c18.1]⟩) fun c18=>f205 c18.1 (fun t12 h11 =>
 Zz (!t12) (
 ldI h11 b (0+2) .i64 fun t27 =>
 Zi t27 fun t28 =>
 K t28 h11) (
 J7 (IntKind.wrap .i64 (s13+1),()) h11)) h8)\/(
 (exG t10 (fun c19:oA × oA × Unit=> .func (.func 284) #[] ⟨[.pointer c19.1,.pointer c19.2.1]⟩) fun c19=>f206 c19.1 c19.2.1 (fun t12 h11 =>
 Zz (!t12) (
 ldI h11 b (0+2) .i64 fun t27 =>
 Zi t27 fun t28 =>
 K t28 h11) (
 J7 (IntKind.wrap .i64 (s13+1),()) h11)) h8)\/(
 (exG t10 (fun c20:oA × Unit=> .func (.func 285) #[] ⟨[.pointer c20.1]⟩) fun c20=>f207 c20.1 (fun t12 h11 =>
 Zz (!t12) (
 ldI h11 b (0+2) .i64 fun t27 =>
 Zi t27 fun t28 =>
 K t28 h11) (
 J7 (IntKind.wrap .i64 (s13+1),()) h11)) h8)\/(
 (exG t10 (fun c21:oA × Unit=> .func (.func 286) #[] ⟨[.pointer c21.1]⟩) fun c21=>f208 c21.1 (fun t12 h11 =>
 Zz (!t12) (
 ldI h11 b (0+2) .i64 fun t27 =>
 Zi t27 fun t28 =>
 K t28 h11) (
 J7 (IntKind.wrap .i64 (s13+1),()) h11)) h8)\/(
 (exG t10 (fun c22:oA × Unit=> .func (.func 287) #[] ⟨[.pointer c22.1]⟩) fun c22=>f209 c22.1 (fun t12 h11 =>
 Zz (!t12) (
 ldI h11 b (0+2) .i64 fun t27 =>
 Zi t27 fun t28 =>
 K t28 h11) (
 J7 (IntKind.wrap .i64 (s13+1),()) h11)) h8)\/(
 (exG t10 (fun c23:oA × Unit=> .func (.func 288) #[] ⟨[.pointer c23.1]⟩) fun c23=>f210 c23.1 (fun t12 h11 =>
 Zz (!t12) (
 ldI h11 b (0+2) .i64 fun t27 =>
 Zi t27 fun t28 =>
 K t28 h11) (
 J7 (IntKind.wrap .i64 (s13+1),()) h11)) h8)\/(
 (exG t10 (fun c24:oA × oA × Unit=> .func (.func 289) #[] ⟨[.pointer c24.1,.pointer c24.2.1]⟩) fun c24=>f212 c24.1 c24.2.1 (fun t12 h11 =>
 Zz (!t12) (
 ldI h11 b (0+2) .i64 fun t27 =>
 Zi t27 fun t28 =>
 K t28 h11) (
 J7 (IntKind.wrap .i64 (s13+1),()) h11)) h8)\/(
 (exG t10 (fun c25:oA × Unit=> .func (.func 291) #[] ⟨[.pointer c25.1]⟩) fun c25=>f216 c25.1 (fun t12 h11 =>
 Zz (!t12) (
 ldI h11 b (0+2) .i64 fun t27 =>
 Zi t27 fun t28 =>
 K t28 h11) (
 J7 (IntKind.wrap .i64 (s13+1),()) h11)) h8)\/(
 (exG t10 (fun c26:oA × Unit=> .func (.func 294) #[] ⟨[.pointer c26.1]⟩) fun c26=>f217 c26.1 (fun t12 h11 =>
 Zz (!t12) (
 ldI h11 b (0+2) .i64 fun t27 =>
 Zi t27 fun t28 =>
 K t28 h11) (
 J7 (IntKind.wrap .i64 (s13+1),()) h11)) h8)\/(
 False)))))))))))))))) (
 Zi 0 fun t29 =>
 K t29 h8)) s.1) (0,()) h5)) h1
def Xe:ZiU:=Zfq ZaC Zc8 Zc7 Zc6 Zc5 Zc4 Zc3 Zc2 Zcn Zcm Zcl Zck ZdK ZdJ ZdI Zc1
abbrev ZuM:=(ByteArray × ByteArray × Bool × Int × Int × ByteArray × Int × Int × Int × Bool × Int × Bool × Unit)->(Int->HP)->HP
def ZhK (f218:ZiU) (r:ByteArray × ByteArray × Bool × Int × Int × ByteArray × Int × Int × Int × Bool × Int × Bool × Unit) (K:Int->HP) (h:Zc):Prop :=
 newC h [.string r.1,.string r.2.1,.bool r.2.2.1,.int .i64 r.2.2.2.1,.int .u8 r.2.2.2.2.1,.string r.2.2.2.2.2.1,.int .u8 r.2.2.2.2.2.2.1,.int .i64 r.2.2.2.2.2.2.2.1,.int .i64 r.2.2.2.2.2.2.2.2.1,.bool r.2.2.2.2.2.2.2.2.2.1,.int .i64 r.2.2.2.2.2.2.2.2.2.2.1,.bool r.2.2.2.2.2.2.2.2.2.2.2.1] 75 fun b h1 =>
 Zi 0 fun t =>
 ldS h1 b (0+1) fun t2 =>
 newC h1 [.string t2] 9 fun b3 h4 =>
 Zgf (σ:=Sl × Unit) (fun s h19 =>
 (fun (names:Sl) =>
 Zgf (σ:=oA × Unit) (fun s29 h30 =>
 (fun (warm:oA) =>
 Zgf (σ:=oA × Unit) (fun s40 h41 =>
 (fun (paced:oA) =>
 newC h41 [.int .i64 0] 3 fun b42 h43 =>
 st h43 b42 0 (.int .i64 1) fun h44 =>
 Zgf (σ:=Unit) (fun s48 h49 =>
 ldS h49 b 0 fun t50 =>
 newC h49 [.func (.func 275) #[] #[.pointer (some ⟨b,0,none⟩),.pointer (some ⟨b42,0,none⟩)],.func (.func 277) #[] #[.pointer (some ⟨b,0,none⟩)],.func (.func 278) #[] #[.pointer (some ⟨b,0,none⟩)],.func (.func 279) #[] #[.pointer (some ⟨b,0,none⟩)],.func (.func 280) #[] #[.pointer warm,.pointer (some ⟨b,0,none⟩),.pointer paced],.func (.func 282) #[] #[.pointer (some ⟨b,0,none⟩)],.func (.func 283) #[] #[.pointer (some ⟨b,0,none⟩)]] 41 fun b51 h52 =>
 f218 (t50,names,30,()) ⟨some ⟨b51,0,none⟩,7,7⟩ (fun t53 h54 =>
 Zi t53 fun t55 =>
 K t55 h54) h52) (fun J45 =>
 ldI h44 b (0+6) .u8 fun t46 =>
 Zz (t46 ==0) (
 st h44 b42 0 (.int .i64 0) fun h47 =>
 J45 (()) h47) (
 J45 (()) h44))) s40.1) (fun J31 =>
 ldI h30 b (0+6) .u8 fun t32 =>
 Zz (t32 ==2) (
 newC h30 [.bool false] 4 fun b33 h34 =>
 st h34 b33 0 (.bool true) fun h35 =>
 J31 (some ⟨b33,0,none⟩,()) h35) (
 ldI h30 b (0+6) .u8 fun t36 =>
 newC h30 [.bool false] 4 fun b37 h38 =>
 st h38 b37 0 (.bool (t36 ==3)) fun h39 =>
 J31 (some ⟨b37,0,none⟩,()) h39))) s29.1) (fun J20 =>
 ldI h19 b (0+6) .u8 fun t21 =>
 Zz (t21 ==1) (
 newC h19 [.bool false] 4 fun b22 h23 =>
 st h23 b22 0 (.bool true) fun h24 =>
 J20 (some ⟨b22,0,none⟩,()) h24) (
 ldI h19 b (0+6) .u8 fun t25 =>
 newC h19 [.bool false] 4 fun b26 h27 =>
 st h27 b26 0 (.bool (t25 ==3)) fun h28 =>
 J20 (some ⟨b26,0,none⟩,()) h28))) s.1) (fun J5 =>
 ldI h4 b (0+4) .u8 fun t6 =>
 Zz (t6 ==1) (
 ldS h4 b (0+5) fun t7 =>
 newC h4 [.string t7] 9 fun b8 h9 =>
 rdS ⟨some ⟨b8,0,none⟩,1,1⟩ 1 h9 fun new=>app 9 1 16 [.string e0B] ⟨some ⟨b3,0,none⟩,1,1⟩ 1 new h9 fun t10 h11 =>
 J5 (t10,()) h11) (
 ldI h4 b (0+4) .u8 fun t12 =>
 Zz (t12 ==2) (
 ldS h4 b (0+5) fun t13 =>
 newC h4 [.string t13] 9 fun b14 h15 =>
 rdS ⟨some ⟨b14,0,none⟩,1,1⟩ 1 h15 fun new18=>app 9 1 16 [.string e0B] ⟨some ⟨b3,0,none⟩,1,1⟩ 1 new18 h15 fun t16 h17 =>
 J5 (t16,()) h17) (
 J5 (⟨some ⟨b3,0,none⟩,1,1⟩,()) h4)))
def Zeu:ZuM:=ZhK Xe
abbrev ZuL:=Int->oA->(Int->HP)->HP
def ZeJ (f219:ZuM) (i:Int) (a1:oA) (K:Int->HP) (h:Zc):Prop :=
 Zi 0 fun t =>
 Ze a1 fun b o =>
 ldL h b o fun t1 =>
 ZcM t1.ptr t1.len i 12 fun b2 o3 =>
 ldS h b2 o3 fun t4=>ldS h b2 (o3+1) fun t5=>ldB h b2 (o3+2) fun t6=>ldI h b2 (o3+3) .i64 fun t7=>ldI h b2 (o3+4) .u8 fun t8=>ldS h b2 (o3+5) fun t9=>ldI h b2 (o3+6) .u8 fun t10=>ldI h b2 (o3+7) .i64 fun t11=>ldI h b2 (o3+8) .i64 fun t12=>ldB h b2 (o3+9) fun t13=>ldI h b2 (o3+10) .i64 fun t14=>ldB h b2 (o3+11) fun t15 =>
 f219 (t4,t5,t6,t7,t8,t9,t10,t11,t12,t13,t14,t15,()) (fun t16 h17 =>
 Zi t16 fun t18 =>
 K t18 h17) h
def ZbT:ZuL:=ZeJ Zeu
abbrev ZuK:=(ByteArray × Int × Int × Int × Int × Int × Int × Unit)->(Int->HP)->HP
def ZgU (f218:ZiU) (r:ByteArray × Int × Int × Int × Int × Int × Int × Unit) (K:Int->HP) (h:Zc):Prop :=
 newC h [.string r.1,.int .u8 r.2.1,.int .i64 r.2.2.1,.int .i64 r.2.2.2.1,.int .i64 r.2.2.2.2.1,.int .i64 r.2.2.2.2.2.1,.int .i64 r.2.2.2.2.2.2.1] 80 fun b h1 =>
 Zi 0 fun t =>
 newC h1 [.int .i64 0] 3 fun b2 h3 =>
 st h3 b2 0 (.int .i64 1000) fun h4 =>
 Zgf (σ:=Unit) (fun s h8 =>
 ldS h8 b 0 fun t9 =>
 newC h8 [.func (.func 284) #[] #[.pointer (some ⟨b,0,none⟩),.pointer (some ⟨b2,0,none⟩)],.func (.func 285) #[] #[.pointer (some ⟨b,0,none⟩)],.func (.func 286) #[] #[.pointer (some ⟨b,0,none⟩)],.func (.func 287) #[] #[.pointer (some ⟨b,0,none⟩)]] 41 fun b10 h11 =>
 f218 (t9,n0S,31,()) ⟨some ⟨b10,0,none⟩,4,4⟩ (fun t12 h13 =>
 Zi t12 fun t14 =>
 K t14 h13) h11) (fun J5 =>
 ldI h4 b (0+1) .u8 fun t6 =>
 Zz (t6 ==2) (
 st h4 b2 0 (.int .i64 1099511627776) fun h7 =>
 J5 (()) h7) (
 J5 (()) h4))
def ZdL:ZuK:=ZgU Xe
abbrev ZuJ:=Int->oA->(Int->HP)->HP
def ZeI (f221:ZuK) (i:Int) (a1:oA) (K:Int->HP) (h:Zc):Prop :=
 Zi 0 fun t =>
 Ze a1 fun b o =>
 ldL h b (o+1) fun t1 =>
 ZcM t1.ptr t1.len i 7 fun b2 o3 =>
 ldS h b2 o3 fun t4=>ldI h b2 (o3+1) .u8 fun t5=>ldI h b2 (o3+2) .i64 fun t6=>ldI h b2 (o3+3) .i64 fun t7=>ldI h b2 (o3+4) .i64 fun t8=>ldI h b2 (o3+5) .i64 fun t9=>ldI h b2 (o3+6) .i64 fun t10 =>
 f221 (t4,t5,t6,t7,t8,t9,t10,()) (fun t11 h12 =>
 Zi t11 fun t13 =>
 K t13 h12) h
def ZbS:ZuJ:=ZeI ZdL
abbrev ZuI:=(ByteArray × Int × Int × Int × Sl × Unit)->(Int->HP)->HP
def ZiK (f218:ZiU) (r:ByteArray × Int × Int × Int × Sl × Unit) (K:Int->HP) (h:Zc):Prop :=
 newC h [.string r.1,.int .i64 r.2.1,.int .i64 r.2.2.1,.int .i64 r.2.2.2.1,slv r.2.2.2.2.1] 85 fun b h1 =>
 Zi 0 fun t =>
 newC h1 [n0V] 31 fun b2 h3 =>
 ldL h3 b (0+4) fun t4 =>
 Zar (σ:=Int × Unit) (fun J5 s h6 =>
 (fun (s9:Int) =>
 Zz (decide (s9<(t4.len:Int))) (
 ZcM t4.ptr t4.len s9 2 fun b7 o =>
 ldS h6 b7 o fun t8=>ldI h6 b7 (o+1) .i64 fun t9 =>
 newC h6 [.string e0B,.int .i64 0] 203 fun b10 h11 =>
 sts h11 b10 0 [.string t8,.int .i64 t9] fun h12 =>
 ldL h12 b2 0 fun t13 =>
 ldS h12 b10 0 fun t14 =>
 newC h12 [.string t14] 9 fun b15 h16 =>
 rdS ⟨some ⟨b15,0,none⟩,1,1⟩ 1 h16 fun new=>app 9 1 16 [.string e0B] t13 1 new h16 fun t17 h18 =>
 st h18 b2 0 (slv t17) fun h19 =>
 J5 (IntKind.wrap .i64 (s9+1),()) h19) (
 ldS h6 b 0 fun t20 =>
 newC h6 [.func (.func 288) #[] #[.pointer (some ⟨b,0,none⟩)],.func (.func 289) #[] #[.pointer (some ⟨b,0,none⟩),.pointer (some ⟨b2,0,none⟩)],.func (.func 291) #[] #[.pointer (some ⟨b,0,none⟩)]] 41 fun b21 h22 =>
 f218 (t20,n0S,32,()) ⟨some ⟨b21,0,none⟩,3,3⟩ (fun t23 h24 =>
 Zi t23 fun t25 =>
 K t25 h24) h22)) s.1) (0,()) h3
def Zfn:ZuI:=ZiK Xe
abbrev ZuH:=Int->oA->(Int->HP)->HP
def ZeH (f223:ZuI) (i:Int) (a1:oA) (K:Int->HP) (h:Zc):Prop :=
 Zi 0 fun t =>
 Ze a1 fun b o =>
 ldL h b (o+2) fun t1 =>
 ZcM t1.ptr t1.len i 5 fun b2 o3 =>
 ldS h b2 o3 fun t4=>ldI h b2 (o3+1) .i64 fun t5=>ldI h b2 (o3+2) .i64 fun t6=>ldI h b2 (o3+3) .i64 fun t7=>ldL h b2 (o3+4) fun t8 =>
 f223 (t4,t5,t6,t7,t8,()) (fun t9 h10 =>
 Zi t9 fun t11 =>
 K t11 h10) h
def ZbR:ZuH:=ZeH Zfn
abbrev ZuG:=(Int × Int × Int × Int × Int × Unit)->(Int->HP)->HP
def ZfZ (f192:Zce) (r:Int × Int × Int × Int × Int × Unit) (K:Int->HP) (h:Zc):Prop :=
 newC h [.int .i64 r.1,.int .i64 r.2.1,.int .i64 r.2.2.1,.int .i64 r.2.2.2.1,.int .i64 r.2.2.2.2.1] 91 fun b h1 =>
 Zi 0 fun t =>
 ldI h1 b 0 .i64 fun t2 =>
 ldI h1 b (0+1) .i64 fun t3 =>
 ldI h1 b (0+2) .i64 fun t4 =>
 ldI h1 b (0+3) .i64 fun t5 =>
 ldI h1 b (0+4) .i64 fun t6 =>
 newC h1 [.int .i64 t2,.int .i64 t3,.int .i64 t4,.int .i64 t5,.int .i64 t6] 3 fun b7 h8 =>
 Zar (σ:=Int × Unit) (fun J9 s h10 =>
 (fun (s17:Int) =>
 Zz (decide (s17<(5:Int))) (
 ZcM (some ⟨b7,0,none⟩) 5 s17 1 fun b11 o =>
 ldI h10 b11 o .i64 fun t12 =>
 Zi t12 fun n =>
 f192 n (-1) 1099511627776 (fun t13 h14 =>
 Zz (!t13) (
 Zi 33 fun t15 =>
 K t15 h14) (
 J9 (IntKind.wrap .i64 (s17+1),()) h14)) h10) (
 Zi 0 fun t16 =>
 K t16 h10)) s.1) (0,()) h8
def Zc0:ZuG:=ZfZ ZM
abbrev ZuF:=Int->oA->(Int->HP)->HP
def ZeG (f225:ZuG) (i:Int) (a1:oA) (K:Int->HP) (h:Zc):Prop :=
 Zi 0 fun t =>
 Ze a1 fun b o =>
 ldL h b (o+3) fun t1 =>
 ZcM t1.ptr t1.len i 5 fun b2 o3 =>
 ldI h b2 o3 .i64 fun t4=>ldI h b2 (o3+1) .i64 fun t5=>ldI h b2 (o3+2) .i64 fun t6=>ldI h b2 (o3+3) .i64 fun t7=>ldI h b2 (o3+4) .i64 fun t8 =>
 f225 (t4,t5,t6,t7,t8,()) (fun t9 h10 =>
 Zi t9 fun t11 =>
 K t11 h10) h
def ZbQ:ZuF:=ZeG Zc0
abbrev ZuE:=(ByteArray × Bool × Sl × Unit)->(Int->HP)->HP
def ZhJ (f218:ZiU) (r:ByteArray × Bool × Sl × Unit) (K:Int->HP) (h:Zc):Prop :=
 newC h [.string r.1,.bool r.2.1,slv r.2.2.1] 95 fun b h1 =>
 Zi 0 fun t =>
 ldS h1 b 0 fun t2 =>
 ldL h1 b (0+2) fun t3 =>
 newC h1 [.func (.func 294) #[] #[.pointer (some ⟨b,0,none⟩)]] 41 fun b4 h5 =>
 f218 (t2,t3,34,()) ⟨some ⟨b4,0,none⟩,1,1⟩ (fun t6 h7 =>
 Zi t6 fun t8 =>
 K t8 h7) h5
def Zet:ZuE:=ZhJ Xe
abbrev ZuD:=Int->oA->(Int->HP)->HP
def ZeF (f227:ZuE) (i:Int) (a1:oA) (K:Int->HP) (h:Zc):Prop :=
 Zi 0 fun t =>
 Ze a1 fun b o =>
 ldL h b (o+4) fun t1 =>
 ZcM t1.ptr t1.len i 3 fun b2 o3 =>
 ldS h b2 o3 fun t4=>ldB h b2 (o3+1) fun t5=>ldL h b2 (o3+2) fun t6 =>
 f227 (t4,t5,t6,()) (fun t7 h8 =>
 Zi t7 fun t9 =>
 K t9 h8) h
def ZbP:ZuD:=ZeF Zet
abbrev ZuC:=(rTy)->(Int->Int->Int->HP)->HP
def ZgQ (f191:Zu9) (f220:ZuL) (f222:ZuJ) (f224:ZuH) (f226:ZuF) (f228:ZuD) (r:rTy) (K:Int->Int->Int->HP) (h:Zc):Prop :=
 newC h (rCl r) 28 fun b h1 =>
 Zi 0 fun t =>
 Zi 0 fun t2 =>
 Zi 0 fun t3 =>
 ldL h1 b 0 fun t4=>ldL h1 b (0+1) fun t5=>ldL h1 b (0+2) fun t6=>ldL h1 b (0+3) fun t7=>ldL h1 b (0+4) fun t8 =>
 f191 (t4,t5,t6,t7,t8,()) (fun t9 h10 =>
 Zar (σ:=Int × Unit) (fun J11 s h12 =>
 (fun (s16:Int) =>
 Zz (decide (s16<(t9.len:Int))) (
 ZcM t9.ptr t9.len s16 3 fun b13 o =>
 ldI h12 b13 o .u8 fun t14=>ldI h12 b13 (o+1) .i64 fun t15=>ldV h12 b13 (o+2) fun t16 =>
 newC h12 [.int .u8 0,.int .i64 0,.nilFunc] 221 fun b17 h18 =>
 sts h18 b17 0 [.int .u8 t14,.int .i64 t15,t16] fun h19 =>
 ldI h19 b17 (0+1) .i64 fun t20 =>
 Zz (decide (t20>256)) (
 ldI h19 b17 0 .u8 fun t21 =>
 Zi t21 fun t22 =>
 Zi 0 fun t23 =>
 Zi 5 fun t24 =>
 K t22 t23 t24 h19) (
 J11 (IntKind.wrap .i64 (s16+1),()) h19)) (
 Zar (σ:=Int × Unit) (fun J25 s26 h27 =>
 (fun (s28:Int) =>
 Zz (decide (s28<(t9.len:Int))) (
 ZcM t9.ptr t9.len s28 3 fun b28 o29 =>
 ldI h27 b28 o29 .u8 fun t30=>ldI h27 b28 (o29+1) .i64 fun t31=>ldV h27 b28 (o29+2) fun t32 =>
 newC h27 [.int .u8 0,.int .i64 0,.nilFunc] 221 fun b33 h34 =>
 sts h34 b33 0 [.int .u8 t30,.int .i64 t31,t32] fun h35 =>
 ldI h35 b33 (0+1) .i64 fun t36 =>
 Zar (σ:=Int × Unit) (fun J37 s38 h39 =>
 (fun (s34:Int) =>
 Zz (decide (s34<t36)) (
 Zi s34 fun i =>
 ldV h39 b33 (0+2) fun t40 =>
 (exG t40 (fun c:oA × Unit=> .func (.func 217) #[] ⟨[.pointer c.1]⟩) fun c=>f220 i c.1 (fun t42 h41 =>
 Zi t42 fun err =>
 Zz (err !=0) (
 ldI h41 b33 0 .u8 fun t47 =>
 Zi t47 fun t48 =>
 Zi i fun t49 =>
 Zi err fun t50 =>
 K t48 t49 t50 h41) (
 J37 (IntKind.wrap .i64 (s34+1),()) h41)) h39)\/(
 (exG t40 (fun c43:oA × Unit=> .func (.func 219) #[] ⟨[.pointer c43.1]⟩) fun c43=>f222 i c43.1 (fun t42 h41 =>
 Zi t42 fun err =>
 Zz (err !=0) (
 ldI h41 b33 0 .u8 fun t47 =>
 Zi t47 fun t48 =>
 Zi i fun t49 =>
 Zi err fun t50 =>
 K t48 t49 t50 h41) (
 J37 (IntKind.wrap .i64 (s34+1),()) h41)) h39)\/(
 (exG t40 (fun c44:oA × Unit=> .func (.func 221) #[] ⟨[.pointer c44.1]⟩) fun c44=>f224 i c44.1 (fun t42 h41 =>
 Zi t42 fun err =>
 Zz (err !=0) (
 ldI h41 b33 0 .u8 fun t47 =>
 Zi t47 fun t48 =>
 Zi i fun t49 =>
 Zi err fun t50 =>
 K t48 t49 t50 h41) (
 J37 (IntKind.wrap .i64 (s34+1),()) h41)) h39)\/(
 (exG t40 (fun c45:oA × Unit=> .func (.func 223) #[] ⟨[.pointer c45.1]⟩) fun c45=>f226 i c45.1 (fun t42 h41 =>
 Zi t42 fun err =>
 Zz (err !=0) (
 ldI h41 b33 0 .u8 fun t47 =>
 Zi t47 fun t48 =>
 Zi i fun t49 =>
 Zi err fun t50 =>
 K t48 t49 t50 h41) (
 J37 (IntKind.wrap .i64 (s34+1),()) h41)) h39)\/(
 (exG t40 (fun c46:oA × Unit=> .func (.func 225) #[] ⟨[.pointer c46.1]⟩) fun c46=>f228 i c46.1 (fun t42 h41 =>
 Zi t42 fun err =>
 Zz (err !=0) (
 ldI h41 b33 0 .u8 fun t47 =>
 Zi t47 fun t48 =>
 Zi i fun t49 =>
 Zi err fun t50 =>
 K t48 t49 t50 h41) (
 J37 (IntKind.wrap .i64 (s34+1),()) h41)) h39)\/(
 False)))))) (
 J25 (IntKind.wrap .i64 (s28+1),()) h39)) s38.1) (0,()) h35) (
 Zi 0 fun t51 =>
 Zi 0 fun t52 =>
 Zi 0 fun t53 =>
 K t51 t52 t53 h27)) s26.1) (0,()) h12)) s.1) (0,()) h10) h1
def ZdG:ZuC:=ZgQ ZcZ ZbT ZbS ZbR ZbQ ZbP
abbrev ZoY:=(vTy)->((rTy)->Int->Int->Int->HP)->HP
def ZcP (f150:ZvF) (f165:ZcV) (f175:Zvp) (f179:Zvl) (f183:Zvh) (f186:Zve) (f190:Zva) (f229:ZuC) (v:vTy) (K:(rTy)->Int->Int->Int->HP) (h:Zc):Prop :=
 newC h (vCl v) 33 fun b h1 =>
 newC h1 r0C 28 fun b2 h3 =>
 Zi 0 fun t =>
 Zi 0 fun t4 =>
 Zi 0 fun t5 =>
 newC h3 r0C 97 fun b6 h7 =>
 newC h7 [.int .i64 0] 102 fun b8 h9 =>
 newC h9 [.pointer none] 98 fun b10 h11 =>
 st h11 b10 0 (.pointer (some ⟨b8,0,none⟩)) fun h12 =>
 ldP h12 b10 0 fun t13 =>
 ldI h12 b 0 .u8 fun t14=>ldS h12 b (0+1) fun t15=>ldL h12 b (0+2) fun t16=>ldL h12 b (0+3) fun t17 =>
 Zyz (σ:=Option Nat × (oA × oA × oA × Unit) × (oA × oA × oA × Unit) × (oA × oA × oA × Unit) × (oA × oA × oA × Unit) × (oA × oA × oA × Unit) × Unit) (fun I d s h18 =>
 (fun (s23:Option Nat) (s25:oA × oA × oA × Unit) (s27:oA × oA × oA × Unit) (s29:oA × oA × oA × Unit) (s31:oA × oA × oA × Unit) (s33:oA × oA × oA × Unit) =>
 (d 2=false->(
 Zij h18 fun b19 h20 =>
 ndV h20 b t14 t15 t16 t17 <|
 ndP h20 b10 0 t13 <|
 I (XL d 2) (some b19,s25,s27,s29,s31,s33,()) h20)) /\
 (d 4=false->(
 f150 0 (some ⟨b10,0,none⟩) (some ⟨b6,0,none⟩) (fun s2521 h22 =>
 ndV h22 b t14 t15 t16 t17 <|
 ndP h22 b10 0 t13 <|
 I (XL d 4) (s23,(s2521.1,s2521.2.1,s2521.2.2.1,()),s27,s29,s31,s33,()) h22) h18)) /\
 (d 5=false->d 2=true->d 4=true->(
 Xr .string h18 s23 (.string (ByteArray.mk #[102,108,111,119])) (.func (.func 57) #[] #[.pointer s25.1,.pointer s25.2.1,.pointer s25.2.2.1]) fun h23 =>
 ndV h23 b t14 t15 t16 t17 <|
 ndP h23 b10 0 t13 <|
 I (XL d 5) (s23,s25,s27,s29,s31,s33,()) h23)) /\
 (d 7=false->d 4=true->(
 f150 1 (some ⟨b10,0,none⟩) (some ⟨b6,0,none⟩) (fun s2724 h25 =>
 ndV h25 b t14 t15 t16 t17 <|
 ndP h25 b10 0 t13 <|
 I (XL d 7) (s23,s25,(s2724.1,s2724.2.1,s2724.2.2.1,()),s29,s31,s33,()) h25) h18)) /\
 (d 8=false->d 2=true->d 7=true->(
 Xr .string h18 s23 (.string (ByteArray.mk #[98,114,101,97,107])) (.func (.func 57) #[] #[.pointer s27.1,.pointer s27.2.1,.pointer s27.2.2.1]) fun h26 =>
 ndV h26 b t14 t15 t16 t17 <|
 ndP h26 b10 0 t13 <|
 I (XL d 8) (s23,s25,s27,s29,s31,s33,()) h26)) /\
 (d 10=false->d 7=true->(
 f150 2 (some ⟨b10,0,none⟩) (some ⟨b6,0,none⟩) (fun s2927 h28 =>
 ndV h28 b t14 t15 t16 t17 <|
 ndP h28 b10 0 t13 <|
 I (XL d 10) (s23,s25,s27,(s2927.1,s2927.2.1,s2927.2.2.1,()),s31,s33,()) h28) h18)) /\
 (d 11=false->d 2=true->d 10=true->(
 Xr .string h18 s23 (.string (ByteArray.mk #[104,111,116])) (.func (.func 57) #[] #[.pointer s29.1,.pointer s29.2.1,.pointer s29.2.2.1]) fun h29 =>
 ndV h29 b t14 t15 t16 t17 <|
 ndP h29 b10 0 t13 <|
 I (XL d 11) (s23,s25,s27,s29,s31,s33,()) h29)) /\
 (d 13=false->d 10=true->(
 f150 3 (some ⟨b10,0,none⟩) (some ⟨b6,0,none⟩) (fun s3130 h31 =>
 ndV h31 b t14 t15 t16 t17 <|
 ndP h31 b10 0 t13 <|
 I (XL d 13) (s23,s25,s27,s29,(s3130.1,s3130.2.1,s3130.2.2.1,()),s33,()) h31) h18)) /\
 (d 14=false->d 2=true->d 13=true->(
 Xr .string h18 s23 (.string (ByteArray.mk #[115,121,115,116,101,109])) (.func (.func 57) #[] #[.pointer s31.1,.pointer s31.2.1,.pointer s31.2.2.1]) fun h32 =>
 ndV h32 b t14 t15 t16 t17 <|
 ndP h32 b10 0 t13 <|
 I (XL d 14) (s23,s25,s27,s29,s31,s33,()) h32)) /\
 (d 16=false->d 13=true->(
 f150 4 (some ⟨b10,0,none⟩) (some ⟨b6,0,none⟩) (fun s3333 h34 =>
 ndV h34 b t14 t15 t16 t17 <|
 ndP h34 b10 0 t13 <|
 I (XL d 16) (s23,s25,s27,s29,s31,(s3333.1,s3333.2.1,s3333.2.2.1,()),()) h34) h18)) /\
 (d 17=false->d 2=true->d 16=true->(
 Xr .string h18 s23 (.string (ByteArray.mk #[97,117,116,104,111,114,105,116,121])) (.func (.func 57) #[] #[.pointer s33.1,.pointer s33.2.1,.pointer s33.2.2.1]) fun h35 =>
 ndV h35 b t14 t15 t16 t17 <|
 ndP h35 b10 0 t13 <|
 I (XL d 17) (s23,s25,s27,s29,s31,s33,()) h35))/\True) s.1 s.2.1 s.2.2.1 s.2.2.2.1 s.2.2.2.2.1 s.2.2.2.2.2.1) (fun d36 s37 h38 =>
 (fun (s2339:Option Nat) (s2540:oA × oA × oA × Unit) (s2741:oA × oA × oA × Unit) (s2942:oA × oA × oA × Unit) (s3143:oA × oA × oA × Unit) (s3344:oA × oA × oA × Unit) =>
 d36 2=true->d36 4=true->d36 5=true->d36 7=true->d36 8=true->d36 10=true->d36 11=true->d36 13=true->d36 14=true->d36 16=true->d36 17=true->(
 ndV h38 b t14 t15 t16 t17 <|
 ndP h38 b10 0 t13 <|
 f165 t13 (t14,t15,t16,t17,()) s2339 (fun h45 =>
 ldP h45 b10 0 fun t46 =>
 Ze t46 fun b47 o =>
 ldI h45 b47 o .i64 fun t48 =>
 Zz (t48 !=0) (
 ldP h45 b10 0 fun t49 =>
 Ze t49 fun b50 o51 =>
 ldI h45 b50 o51 .i64 fun t52 =>
 sts h45 b2 0 r0C fun h53 =>
 Y6 (Z9 h53 [(b50,o51,.int .i64 t52)]) <|
 ndP h53 b10 0 t49 <|
 Zi t52 fun t54 =>
 Zi 0 fun t55 =>
 Zi 0 fun t56 =>
 ldL h53 b2 0 fun t57=>ldL h53 b2 (0+1) fun t58=>ldL h53 b2 (0+2) fun t59=>ldL h53 b2 (0+3) fun t60=>ldL h53 b2 (0+4) fun t61=>K (t57,t58,t59,t60,t61,()) t54 t55 t56 h53) (
 newC h45 r0C 28 fun b62 h63 =>
 newC h63 [.func (.func 60) #[] #[.pointer (some ⟨b6,0,none⟩),.pointer (some ⟨b62,0,none⟩)],.func (.func 63) #[] #[.pointer (some ⟨b6,0,none⟩),.pointer (some ⟨b62,0,none⟩)],.func (.func 66) #[] #[.pointer (some ⟨b6,0,none⟩),.pointer (some ⟨b62,0,none⟩)],.func (.func 69) #[] #[.pointer (some ⟨b6,0,none⟩),.pointer (some ⟨b62,0,none⟩)],.func (.func 72) #[] #[.pointer (some ⟨b6,0,none⟩),.pointer (some ⟨b62,0,none⟩)]] 113 fun b64 h65 =>
 Zar (σ:=Int × Unit) (fun J66 s67 h68 =>
 (fun (s56:Int) =>
 Zz (decide (s56<(5:Int))) (
 ZcM (some ⟨b64,0,none⟩) 5 s56 1 fun b69 o70 =>
 ldV h68 b69 o70 fun t71 =>
 Zi s56 fun k =>
 (exG t71 (fun c:oA × oA × Unit=> .func (.func 60) #[] ⟨[.pointer c.1,.pointer c.2.1]⟩) fun c=>f175 c.1 c.2.1 (fun t73 t74 h72 =>
 Zi t73 fun i =>
 Zi t74 fun err =>
 Zz (err !=0) (
 sts h72 b2 0 r0C fun h79 =>
 Zi err fun t80 =>
 Zi (IntKind.wrap .u8 (IntKind.wrap .i64 (k+1))) fun t81 =>
 Zi i fun t82 =>
 ldL h79 b2 0 fun t83=>ldL h79 b2 (0+1) fun t84=>ldL h79 b2 (0+2) fun t85=>ldL h79 b2 (0+3) fun t86=>ldL h79 b2 (0+4) fun t87=>K (t83,t84,t85,t86,t87,()) t80 t81 t82 h79) (
 J66 (IntKind.wrap .i64 (s56+1),()) h72)) h68)\/(
 (exG t71 (fun c75:oA × oA × Unit=> .func (.func 63) #[] ⟨[.pointer c75.1,.pointer c75.2.1]⟩) fun c75=>f179 c75.1 c75.2.1 (fun t73 t74 h72 =>
 Zi t73 fun i =>
 Zi t74 fun err =>
 Zz (err !=0) (
 sts h72 b2 0 r0C fun h79 =>
 Zi err fun t80 =>
 Zi (IntKind.wrap .u8 (IntKind.wrap .i64 (k+1))) fun t81 =>
 Zi i fun t82 =>
 ldL h79 b2 0 fun t83=>ldL h79 b2 (0+1) fun t84=>ldL h79 b2 (0+2) fun t85=>ldL h79 b2 (0+3) fun t86=>ldL h79 b2 (0+4) fun t87=>K (t83,t84,t85,t86,t87,()) t80 t81 t82 h79) (
 J66 (IntKind.wrap .i64 (s56+1),()) h72)) h68)\/(
 (exG t71 (fun c76:oA × oA × Unit=> .func (.func 66) #[] ⟨[.pointer c76.1,.pointer c76.2.1]⟩) fun c76=>f183 c76.1 c76.2.1 (fun t73 t74 h72 =>
 Zi t73 fun i =>
 Zi t74 fun err =>
 Zz (err !=0) (
 sts h72 b2 0 r0C fun h79 =>
 Zi err fun t80 =>
 Zi (IntKind.wrap .u8 (IntKind.wrap .i64 (k+1))) fun t81 =>
 Zi i fun t82 =>
 ldL h79 b2 0 fun t83=>ldL h79 b2 (0+1) fun t84=>ldL h79 b2 (0+2) fun t85=>ldL h79 b2 (0+3) fun t86=>ldL h79 b2 (0+4) fun t87=>K (t83,t84,t85,t86,t87,()) t80 t81 t82 h79) (
 J66 (IntKind.wrap .i64 (s56+1),()) h72)) h68)\/(
 (exG t71 (fun c77:oA × oA × Unit=> .func (.func 69) #[] ⟨[.pointer c77.1,.pointer c77.2.1]⟩) fun c77=>f186 c77.1 c77.2.1 (fun t73 t74 h72 =>
 Zi t73 fun i =>
 Zi t74 fun err =>
 Zz (err !=0) (
 sts h72 b2 0 r0C fun h79 =>
 Zi err fun t80 =>
 Zi (IntKind.wrap .u8 (IntKind.wrap .i64 (k+1))) fun t81 =>
 Zi i fun t82 =>
 ldL h79 b2 0 fun t83=>ldL h79 b2 (0+1) fun t84=>ldL h79 b2 (0+2) fun t85=>ldL h79 b2 (0+3) fun t86=>ldL h79 b2 (0+4) fun t87=>K (t83,t84,t85,t86,t87,()) t80 t81 t82 h79) (
 J66 (IntKind.wrap .i64 (s56+1),()) h72)) h68)\/(
 (exG t71 (fun c78:oA × oA × Unit=> .func (.func 72) #[] ⟨[.pointer c78.1,.pointer c78.2.1]⟩) fun c78=>f190 c78.1 c78.2.1 (fun t73 t74 h72 =>
 Zi t73 fun i =>
 Zi t74 fun err =>
 Zz (err !=0) (
 sts h72 b2 0 r0C fun h79 =>
 Zi err fun t80 =>
 Zi (IntKind.wrap .u8 (IntKind.wrap .i64 (k+1))) fun t81 =>
 Zi i fun t82 =>
 ldL h79 b2 0 fun t83=>ldL h79 b2 (0+1) fun t84=>ldL h79 b2 (0+2) fun t85=>ldL h79 b2 (0+3) fun t86=>ldL h79 b2 (0+4) fun t87=>K (t83,t84,t85,t86,t87,()) t80 t81 t82 h79) (
 J66 (IntKind.wrap .i64 (s56+1),()) h72)) h68)\/(
 False)))))) (
 ldL h68 b62 0 fun t88=>ldL h68 b62 (0+1) fun t89=>ldL h68 b62 (0+2) fun t90=>ldL h68 b62 (0+3) fun t91=>ldL h68 b62 (0+4) fun t92 =>
 f229 (t88,t89,t90,t91,t92,()) (fun t93 t94 t95 h96 =>
 Zi t93 fun kind =>
 Zi t94 fun i97 =>
 Zi t95 fun err98 =>
 Zz (err98 !=0) (
 sts h96 b2 0 r0C fun h99 =>
 Zi err98 fun t100 =>
 Zi kind fun t101 =>
 Zi i97 fun t102 =>
 ldL h99 b2 0 fun t103=>ldL h99 b2 (0+1) fun t104=>ldL h99 b2 (0+2) fun t105=>ldL h99 b2 (0+3) fun t106=>ldL h99 b2 (0+4) fun t107=>K (t103,t104,t105,t106,t107,()) t100 t101 t102 h99) (
 ldL h96 b62 0 fun t108=>ldL h96 b62 (0+1) fun t109=>ldL h96 b62 (0+2) fun t110=>ldL h96 b62 (0+3) fun t111=>ldL h96 b62 (0+4) fun t112 =>
 sts h96 b2 0 [slv t108,slv t109,slv t110,slv t111,slv t112] fun h113 =>
 Zi 0 fun t114 =>
 Zi 0 fun t115 =>
 Zi 0 fun t116 =>
 ldL h113 b2 0 fun t117=>ldL h113 b2 (0+1) fun t118=>ldL h113 b2 (0+2) fun t119=>ldL h113 b2 (0+3) fun t120=>ldL h113 b2 (0+4) fun t121=>K (t117,t118,t119,t120,t121,()) t114 t115 t116 h113)) h68)) s67.1) (0,()) h65)) h38)) s37.1 s37.2.1 s37.2.2.1 s37.2.2.2.1 s37.2.2.2.2.1 s37.2.2.2.2.2.1) h12
def YP:ZoY:=ZcP XY ZG XX XW XV XU XT ZdG
abbrev ZuB:=(rTy)->Int->(Int->HP)->HP
def Zcs (r:rTy) (kind:Int) (K:Int->HP) (h:Zc):Prop :=
 newC h (rCl r) 28 fun b h1 =>
 Zi 0 fun t =>
 Yx (kind ==1) fun t2 =>
 Zz t2 (
 ldL h1 b 0 fun t3 =>
 Zi (t3.len:Int) fun t4 =>
 K t4 h1) (
 Yx (kind ==2) fun t5 =>
 Zz t5 (
 ldL h1 b (0+1) fun t6 =>
 Zi (t6.len:Int) fun t7 =>
 K t7 h1) (
 Yx (kind ==3) fun t8 =>
 Zz t8 (
 ldL h1 b (0+2) fun t9 =>
 Zi (t9.len:Int) fun t10 =>
 K t10 h1) (
 Yx (kind ==4) fun t11 =>
 Zz t11 (
 ldL h1 b (0+3) fun t12 =>
 Zi (t12.len:Int) fun t13 =>
 K t13 h1) (
 Yx (kind ==5) fun t14 =>
 Zz t14 (
 ldL h1 b (0+4) fun t15 =>
 Zi (t15.len:Int) fun t16 =>
 K t16 h1) (
 Zi 0 fun t17 =>
 K t17 h1)))))
def X8:ZuB:=Zcs
abbrev ZuA:=ByteArray->((rTy)->Int->Int->HP)->HP
def Zeb (f26:ZCr) (f230:ZoY) (s:ByteArray) (K:(rTy)->Int->Int->HP) (h:Zc):Prop :=
 newC h r0C 28 fun b h1 =>
 Zi 0 fun t =>
 Zi 0 fun t2 =>
 f26 s (fun t3 t4 t5 h6 =>
 newC h6 v0C 33 fun b7 h8 =>
 sts h8 b7 0 (vCl t3) fun h9 =>
 Zi t4 fun err =>
 Zi t5 fun at_ =>
 Zz (err !=0) (
 sts h9 b 0 r0C fun h10 =>
 Zi err fun t11 =>
 Zi at_ fun t12 =>
 ldL h10 b 0 fun t13=>ldL h10 b (0+1) fun t14=>ldL h10 b (0+2) fun t15=>ldL h10 b (0+3) fun t16=>ldL h10 b (0+4) fun t17=>K (t13,t14,t15,t16,t17,()) t11 t12 h10) (
 ldI h9 b7 0 .u8 fun t18=>ldS h9 b7 (0+1) fun t19=>ldL h9 b7 (0+2) fun t20=>ldL h9 b7 (0+3) fun t21 =>
 f230 (t18,t19,t20,t21,()) (fun t22 t23 t24 t25 h26 =>
 newC h26 r0C 28 fun b27 h28 =>
 sts h28 b27 0 (rCl t22) fun h29 =>
 Zi t23 fun err30 =>
 Zi t24 fun x =>
 Zi t25 fun x31 =>
 ldL h29 b27 0 fun t32=>ldL h29 b27 (0+1) fun t33=>ldL h29 b27 (0+2) fun t34=>ldL h29 b27 (0+3) fun t35=>ldL h29 b27 (0+4) fun t36 =>
 sts h29 b 0 [slv t32,slv t33,slv t34,slv t35,slv t36] fun h37 =>
 Zi err30 fun t38 =>
 Zi 0 fun t39 =>
 ldL h37 b 0 fun t40=>ldL h37 b (0+1) fun t41=>ldL h37 b (0+2) fun t42=>ldL h37 b (0+3) fun t43=>ldL h37 b (0+4) fun t44=>K (t40,t41,t42,t43,t44,()) t38 t39 h37) h9)) h1
def Zbh:ZuA:=Zeb Zaz YP
abbrev Zuz:=(Bool->HP)->HP
def ZcO (f251:ZuA) (K:Bool->HP) (h:Zc):Prop :=
 f251 (ByteArray.mk #[123,34,102,108,111,119,34,58,91,123,34,114,101,115,111,117,114,99,101,34,58,34,97,34,44,34,99,111,117,110,116,34,58,53,125,93,125]) (fun t t1 t2 h3 =>
 newC h3 r0C 28 fun b h4 =>
 sts h4 b 0 (rCl t) fun h5 =>
 Zi t1 fun e =>
 Zi t2 fun at_ =>
 f251 (ByteArray.mk #[123,34,102,108,111,119,34,58,91,123,34,114,101,115,111,117,114,99,101,34,58,34,97,34,44,34,99,117,111,110,116,34,58,53,125,93,125]) (fun t6 t7 t8 h9 =>
 newC h9 r0C 28 fun b10 h11 =>
 sts h11 b10 0 (rCl t6) fun h12 =>
 Zi t7 fun f =>
 Zi t8 fun x =>
 Zz (e ==0) (
 Zz (at_ ==0) (
 ldL h12 b 0 fun t13 =>
 Zz ((t13.len:Int) ==1) (
 ldL h12 b 0 fun t14 =>
 ZcM t14.ptr t14.len 0 12 fun b15 o =>
 ldI h12 b15 (o+3) .i64 fun t16 =>
 Zz (t16 ==5) (
 ldL h12 b 0 fun t17 =>
 ZcM t17.ptr t17.len 0 12 fun b18 o19 =>
 ldS h12 b18 (o19+1) fun t20 =>
 Zz (Zch t20 (ByteArray.mk #[100,101,102,97,117,108,116])) (
 Yx (f ==26) fun t21 =>
 K t21 h12) (
 K false h12)) (
 K false h12)) (
 K false h12)) (
 K false h12)) (
 K false h12)) h5) h
def Zap:Zuz:=ZcO Zbh
abbrev Zuy:=(ByteArray × Int × Int × Int × Sl × Unit)->(ByteArray × Int × Int × Int × Sl × Unit)->(Bool->HP)->HP
def ZbG (a:ByteArray × Int × Int × Int × Sl × Unit) (b:ByteArray × Int × Int × Int × Sl × Unit) (K:Bool->HP) (h:Zc):Prop :=
 newC h [.string a.1,.int .i64 a.2.1,.int .i64 a.2.2.1,.int .i64 a.2.2.2.1,slv a.2.2.2.2.1] 85 fun b1 h2 =>
 newC h2 [.string b.1,.int .i64 b.2.1,.int .i64 b.2.2.1,.int .i64 b.2.2.2.1,slv b.2.2.2.2.1] 85 fun b3 h4 =>
 ldS h4 b1 0 fun t =>
 ldS h4 b3 0 fun t5 =>
 Zz (!(Zch t t5)) (
 K false h4) (
 ldI h4 b1 (0+1) .i64 fun t6 =>
 ldI h4 b3 (0+1) .i64 fun t7 =>
 Zz (t6 !=t7) (
 K false h4) (
 ldI h4 b1 (0+2) .i64 fun t8 =>
 ldI h4 b3 (0+2) .i64 fun t9 =>
 Zz (t8 !=t9) (
 K false h4) (
 ldI h4 b1 (0+3) .i64 fun t10 =>
 ldI h4 b3 (0+3) .i64 fun t11 =>
 Zz (t10 !=t11) (
 K false h4) (
 ldL h4 b1 (0+4) fun t12 =>
 ldL h4 b3 (0+4) fun t13 =>
 Zz ((t12.len:Int) !=(t13.len:Int)) (
 K false h4) (
 Zi 0 fun i =>
 Zar (σ:=Int × Unit) (fun J15 s h16 =>
 (fun (i14:Int) =>
 ldL h16 b1 (0+4) fun t17 =>
 Zz (decide (i14<(t17.len:Int))) (
 ldL h16 b1 (0+4) fun t18 =>
 ZcM t18.ptr t18.len i14 2 fun b19 o =>
 ldS h16 b19 o fun t20=>ldI h16 b19 (o+1) .i64 fun t21 =>
 ldL h16 b3 (0+4) fun t22 =>
 ZcM t22.ptr t22.len i14 2 fun b23 o24 =>
 ldS h16 b23 o24 fun t25=>ldI h16 b23 (o24+1) .i64 fun t26 =>
 Zz (!(bif Zch t20 t25 then (bif t21 ==t26 then true else false) else false)) (
 K false h16) (
 Zi (IntKind.wrap .i64 (i14+1)) fun i27 =>
 J15 (i27,()) h16)) (
 K true h16)) s.1) (i,()) h4)))))
def XH:Zuy:=ZbG
abbrev Zux:=(ByteArray × Bool × Sl × Unit)->(ByteArray × Bool × Sl × Unit)->(Bool->HP)->HP
def Zbk (a:ByteArray × Bool × Sl × Unit) (b:ByteArray × Bool × Sl × Unit) (K:Bool->HP) (h:Zc):Prop :=
 newC h [.string a.1,.bool a.2.1,slv a.2.2.1] 95 fun b1 h2 =>
 newC h2 [.string b.1,.bool b.2.1,slv b.2.2.1] 95 fun b3 h4 =>
 ldS h4 b1 0 fun t =>
 ldS h4 b3 0 fun t5 =>
 Zz (!(Zch t t5)) (
 K false h4) (
 ldB h4 b1 (0+1) fun t6 =>
 ldB h4 b3 (0+1) fun t7 =>
 Zz (t6 !=t7) (
 K false h4) (
 ldL h4 b1 (0+2) fun t8 =>
 ldL h4 b3 (0+2) fun t9 =>
 Zz ((t8.len:Int) !=(t9.len:Int)) (
 K false h4) (
 Zi 0 fun i =>
 Zar (σ:=Int × Unit) (fun J11 s h12 =>
 (fun (i10:Int) =>
 ldL h12 b1 (0+2) fun t13 =>
 Zz (decide (i10<(t13.len:Int))) (
 ldL h12 b1 (0+2) fun t14 =>
 ZcM t14.ptr t14.len i10 1 fun b15 o =>
 ldS h12 b15 o fun t16 =>
 ldL h12 b3 (0+2) fun t17 =>
 ZcM t17.ptr t17.len i10 1 fun b18 o19 =>
 ldS h12 b18 o19 fun t20 =>
 Zz (!(Zch t16 t20)) (
 K false h12) (
 Zi (IntKind.wrap .i64 (i10+1)) fun i21 =>
 J11 (i21,()) h12)) (
 K true h12)) s.1) (i,()) h4)))
def Xy:Zux:=Zbk
abbrev Zuw:=(rTy)->(rTy)->(Bool->HP)->HP
def ZcN (f240:ZuB) (f264:Zuy) (f265:Zux) (a:rTy) (b:rTy) (K:Bool->HP) (h:Zc):Prop :=
 newC h (rCl a) 28 fun b1 h2 =>
 newC h2 (rCl b) 28 fun b3 h4 =>
 Zi 1 fun k =>
 Zar (σ:=Int × Unit) (fun J6 s h7 =>
 (fun (k5:Int) =>
 Zz (decide (k5<=5)) (
 ldL h7 b1 0 fun t=>ldL h7 b1 (0+1) fun t8=>ldL h7 b1 (0+2) fun t9=>ldL h7 b1 (0+3) fun t10=>ldL h7 b1 (0+4) fun t11 =>
 ldL h7 b3 0 fun t12=>ldL h7 b3 (0+1) fun t13=>ldL h7 b3 (0+2) fun t14=>ldL h7 b3 (0+3) fun t15=>ldL h7 b3 (0+4) fun t16 =>
 f240 (t,t8,t9,t10,t11,()) k5 (fun t17 h18 =>
 Y6 (Z9 h18 [(b3,0,slv t12),(b3,0+1,slv t13),(b3,0+2,slv t14),(b3,0+3,slv t15),(b3,0+4,slv t16)]) <|
 f240 (t12,t13,t14,t15,t16,()) k5 (fun t19 h20 =>
 Zz (t17 !=t19) (
 K false h20) (
 Zi (IntKind.wrap .u8 (k5+1)) fun k21 =>
 J6 (k21,()) h20)) h18) h7) (
 Zi 0 fun i =>
 Zar (σ:=Int × Unit) (fun J23 s24 h25 =>
 (fun (i22:Int) =>
 ldL h25 b1 0 fun t26 =>
 Zz (decide (i22<(t26.len:Int))) (
 ldL h25 b1 0 fun t27 =>
 ZcM t27.ptr t27.len i22 12 fun b28 o =>
 ldS h25 b28 o fun t29=>ldS h25 b28 (o+1) fun t30=>ldB h25 b28 (o+2) fun t31=>ldI h25 b28 (o+3) .i64 fun t32=>ldI h25 b28 (o+4) .u8 fun t33=>ldS h25 b28 (o+5) fun t34=>ldI h25 b28 (o+6) .u8 fun t35=>ldI h25 b28 (o+7) .i64 fun t36=>ldI h25 b28 (o+8) .i64 fun t37=>ldB h25 b28 (o+9) fun t38=>ldI h25 b28 (o+10) .i64 fun t39=>ldB h25 b28 (o+11) fun t40 =>
 ldL h25 b3 0 fun t41 =>
 ZcM t41.ptr t41.len i22 12 fun b42 o43 =>
 ldS h25 b42 o43 fun t44=>ldS h25 b42 (o43+1) fun t45=>ldB h25 b42 (o43+2) fun t46=>ldI h25 b42 (o43+3) .i64 fun t47=>ldI h25 b42 (o43+4) .u8 fun t48=>ldS h25 b42 (o43+5) fun t49=>ldI h25 b42 (o43+6) .u8 fun t50=>ldI h25 b42 (o43+7) .i64 fun t51=>ldI h25 b42 (o43+8) .i64 fun t52=>ldB h25 b42 (o43+9) fun t53=>ldI h25 b42 (o43+10) .i64 fun t54=>ldB h25 b42 (o43+11) fun t55 =>
 Zz (!(bif Zch t29 t44 then (bif Zch t30 t45 then (bif t31 ==t46 then (bif t32 ==t47 then (bif t33 ==t48 then (bif Zch t34 t49 then (bif t35 ==t50 then (bif t36 ==t51 then (bif t37 ==t52 then (bif t38 ==t53 then (bif t39 ==t54 then (bif t40 ==t55 then true else false) else false) else false) else false) else false) else false) else false) else false) else false) else false) else false) else false)) (
 K false h25) (
 Zi (IntKind.wrap .i64 (i22+1)) fun i56 =>
 J23 (i56,()) h25)) (
 Zi 0 fun i57 =>
 Zar (σ:=Int × Unit) (fun J59 s60 h61 =>
 (fun (i58:Int) =>
 ldL h61 b1 (0+1) fun t62 =>
 Zz (decide (i58<(t62.len:Int))) (
 ldL h61 b1 (0+1) fun t63 =>
 ZcM t63.ptr t63.len i58 7 fun b64 o65 =>
 ldS h61 b64 o65 fun t66=>ldI h61 b64 (o65+1) .u8 fun t67=>ldI h61 b64 (o65+2) .i64 fun t68=>ldI h61 b64 (o65+3) .i64 fun t69=>ldI h61 b64 (o65+4) .i64 fun t70=>ldI h61 b64 (o65+5) .i64 fun t71=>ldI h61 b64 (o65+6) .i64 fun t72 =>
 ldL h61 b3 (0+1) fun t73 =>
 ZcM t73.ptr t73.len i58 7 fun b74 o75 =>
 ldS h61 b74 o75 fun t76=>ldI h61 b74 (o75+1) .u8 fun t77=>ldI h61 b74 (o75+2) .i64 fun t78=>ldI h61 b74 (o75+3) .i64 fun t79=>ldI h61 b74 (o75+4) .i64 fun t80=>ldI h61 b74 (o75+5) .i64 fun t81=>ldI h61 b74 (o75+6) .i64 fun t82 =>
 Zz (!(bif Zch t66 t76 then (bif t67 ==t77 then (bif t68 ==t78 then (bif t69 ==t79 then (bif t70 ==t80 then (bif t71 ==t81 then (bif t72 ==t82 then true else false) else false) else false) else false) else false) else false) else false)) (
 K false h61) (
 Zi (IntKind.wrap .i64 (i58+1)) fun i83 =>
 J59 (i83,()) h61)) (
 Zi 0 fun i84 =>
 Zar (σ:=Int × Unit) (fun J86 s87 h88 =>
 (fun (i85:Int) =>
 ldL h88 b1 (0+2) fun t89 =>
 Zz (decide (i85<(t89.len:Int))) (
 ldL h88 b1 (0+2) fun t90 =>
 ZcM t90.ptr t90.len i85 5 fun b91 o92 =>
 ldS h88 b91 o92 fun t93=>ldI h88 b91 (o92+1) .i64 fun t94=>ldI h88 b91 (o92+2) .i64 fun t95=>ldI h88 b91 (o92+3) .i64 fun t96=>ldL h88 b91 (o92+4) fun t97 =>
 ldL h88 b3 (0+2) fun t98 =>
 ZcM t98.ptr t98.len i85 5 fun b99 o100 =>
 ldS h88 b99 o100 fun t101=>ldI h88 b99 (o100+1) .i64 fun t102=>ldI h88 b99 (o100+2) .i64 fun t103=>ldI h88 b99 (o100+3) .i64 fun t104=>ldL h88 b99 (o100+4) fun t105 =>
 f264 (t93,t94,t95,t96,t97,()) (t101,t102,t103,t104,t105,()) (fun t106 h107 =>
 ndL h107 b3 (0+2) t98 <|
 ndL h107 b1 (0+2) t90 <|
 Zz (!t106) (
 K false h107) (
 Zi (IntKind.wrap .i64 (i85+1)) fun i108 =>
 J86 (i108,()) h107)) h88) (
 Zi 0 fun i109 =>
 Zar (σ:=Int × Unit) (fun J111 s112 h113 =>
 (fun (i110:Int) =>
 ldL h113 b1 (0+3) fun t114 =>
 Zz (decide (i110<(t114.len:Int))) (
 ldL h113 b1 (0+3) fun t115 =>
 ZcM t115.ptr t115.len i110 5 fun b116 o117 =>
 ldI h113 b116 o117 .i64 fun t118=>ldI h113 b116 (o117+1) .i64 fun t119=>ldI h113 b116 (o117+2) .i64 fun t120=>ldI h113 b116 (o117+3) .i64 fun t121=>ldI h113 b116 (o117+4) .i64 fun t122 =>
 ldL h113 b3 (0+3) fun t123 =>
 ZcM t123.ptr t123.len i110 5 fun b124 o125 =>
 ldI h113 b124 o125 .i64 fun t126=>ldI h113 b124 (o125+1) .i64 fun t127=>ldI h113 b124 (o125+2) .i64 fun t128=>ldI h113 b124 (o125+3) .i64 fun t129=>ldI h113 b124 (o125+4) .i64 fun t130 =>
 Zz (!(bif t118 ==t126 then (bif t119 ==t127 then (bif t120 ==t128 then (bif t121 ==t129 then (bif t122 ==t130 then true else false) else false) else false) else false) else false)) (
 K false h113) (
 Zi (IntKind.wrap .i64 (i110+1)) fun i131 =>
 J111 (i131,()) h113)) (
 Zi 0 fun i132 =>
 Zar (σ:=Int × Unit) (fun J134 s135 h136 =>
 (fun (i133:Int) =>
 ldL h136 b1 (0+4) fun t137 =>
 Zz (decide (i133<(t137.len:Int))) (
 ldL h136 b1 (0+4) fun t138 =>
 ZcM t138.ptr t138.len i133 3 fun b139 o140 =>
 ldS h136 b139 o140 fun t141=>ldB h136 b139 (o140+1) fun t142=>ldL h136 b139 (o140+2) fun t143 =>
 ldL h136 b3 (0+4) fun t144 =>
 ZcM t144.ptr t144.len i133 3 fun b145 o146 =>
 ldS h136 b145 o146 fun t147=>ldB h136 b145 (o146+1) fun t148=>ldL h136 b145 (o146+2) fun t149 =>
 f265 (t141,t142,t143,()) (t147,t148,t149,()) (fun t150 h151 =>
 ndL h151 b3 (0+4) t144 <|
 ndL h151 b1 (0+4) t138 <|
 Zz (!t150) (
 K false h151) (
 Zi (IntKind.wrap .i64 (i133+1)) fun i152 =>
 J134 (i152,()) h151)) h136) (
 K true h136)) s135.1) (i132,()) h113)) s112.1) (i109,()) h88)) s87.1) (i84,()) h61)) s60.1) (i57,()) h25)) s24.1) (i,()) h7)) s.1) (k,()) h4
def Zao:Zuw:=ZcN X8 XH Xy
abbrev ZjA:=(vTy)->((vTy)->HP)->HP
def ZbY (f270:ZjA) (v:vTy) (K:(vTy)->HP) (h:Zc):Prop :=
 newC h (vCl v) 33 fun b h1 =>
 newC h1 v0C 33 fun b2 h3 =>
 ldI h3 b 0 .u8 fun t =>
 ldS h3 b (0+1) fun t4 =>
 newC h3 v0C 33 fun b5 h6 =>
 sts h6 b5 0 [.int .u8 t,.string t4,n0V,n0V] fun h7 =>
 Zi 0 fun i =>
 Zar (σ:=Int × Unit) (fun J9 s h10 =>
 (fun (i8:Int) =>
 ldL h10 b (0+2) fun t11 =>
 Zz (decide (i8<(t11.len:Int))) (
 Zi i8 fun k =>
 Zgf (σ:=Int × Unit) (fun s27 h28 =>
 (fun (k26:Int) =>
 ldL h28 b5 (0+2) fun t29 =>
 ldL h28 b (0+2) fun t30 =>
 ZcM t30.ptr t30.len k26 4 fun b31 o32 =>
 ldI h28 b31 o32 .u8 fun t33=>ldS h28 b31 (o32+1) fun t34=>ldL h28 b31 (o32+2) fun t35=>ldL h28 b31 (o32+3) fun t36 =>
 f270 (t33,t34,t35,t36,()) (fun t37 h38 =>
 ndL h38 b (0+2) t30 <|
 ndL h38 b5 (0+2) t29 <|
 newC h38 (vCl t37) 33 fun b39 h40 =>
 ndL h40 b (0+2) t30 <|
 ndL h40 b5 (0+2) t29 <|
 rdS ⟨some ⟨b39,0,none⟩,1,1⟩ 4 h40 fun new43=>app 33 4 72 v0C t29 1 new43 h40 fun t41 h42 =>
 ndL h42 b (0+2) t30 <|
 st h42 b5 (0+2) (slv t41) fun h44 =>
 Zi (IntKind.wrap .i64 (i8+1)) fun i45 =>
 J9 (i45,()) h44) h28) s27.1) (fun J12 =>
 ldI h10 b 0 .u8 fun t13 =>
 Zz (t13 ==7) (
 ldL h10 b (0+2) fun t14 =>
 Zi (IntKind.wrap .i64 ((IntKind.wrap .i64 ((t14.len:Int) - 1)) - i8)) fun k15 =>
 ldL h10 b (0+3) fun t16 =>
 Zz (decide (k15<(t16.len:Int))) (
 ldL h10 b5 (0+3) fun t17 =>
 ldL h10 b (0+3) fun t18 =>
 ZcM t18.ptr t18.len k15 1 fun b19 o =>
 ldS h10 b19 o fun t20 =>
 newC h10 [.string t20] 9 fun b21 h22 =>
 ndL h22 b (0+3) t18 <|
 ndL h22 b5 (0+3) t17 <|
 rdS ⟨some ⟨b21,0,none⟩,1,1⟩ 1 h22 fun new=>app 9 1 16 [.string e0B] t17 1 new h22 fun t23 h24 =>
 ndL h24 b (0+3) t18 <|
 st h24 b5 (0+3) (slv t23) fun h25 =>
 J12 (k15,()) h25) (
 J12 (k15,()) h10)) (
 J12 (k,()) h10))) (
 ldI h10 b5 0 .u8 fun t46=>ldS h10 b5 (0+1) fun t47=>ldL h10 b5 (0+2) fun t48=>ldL h10 b5 (0+3) fun t49 =>
 sts h10 b2 0 [.int .u8 t46,.string t47,slv t48,slv t49] fun h50 =>
 ldI h50 b2 0 .u8 fun t51=>ldS h50 b2 (0+1) fun t52=>ldL h50 b2 (0+2) fun t53=>ldL h50 b2 (0+3) fun t54=>K (t51,t52,t53,t54,()) h50)) s.1) (i,()) h7
def ZaH (f270:ZjA):ZjA:=ZbY f270
def Y8:Nat->ZjA
 | 0=>fun _ _ _=>False
 | n+1=>ZaH (Y8 n)
def ZaI:ZjA:=fun v K h=>∃ n,Y8 n v K h
abbrev ZEq:=(rTy)->(Bool->HP)->HP
def Zak (f149:ZvG) (f270:ZjA) (f57:ZEg) (f252:Zuz) (f230:ZoY) (f266:Zuw) (r:rTy) (K:Bool->HP) (h:Zc):Prop :=
 newC h (rCl r) 28 fun b h1 =>
 ldL h1 b 0 fun t=>ldL h1 b (0+1) fun t2=>ldL h1 b (0+2) fun t3=>ldL h1 b (0+3) fun t4=>ldL h1 b (0+4) fun t5 =>
 f149 (t,t2,t3,t4,t5,()) (fun t6 h7 =>
 newC h7 v0C 33 fun b8 h9 =>
 sts h9 b8 0 (vCl t6) fun h10 =>
 ldI h10 b8 0 .u8 fun t11 =>
 Zz (t11 !=7) (
 K false h10) (
 ldI h10 b8 0 .u8 fun t12=>ldS h10 b8 (0+1) fun t13=>ldL h10 b8 (0+2) fun t14=>ldL h10 b8 (0+3) fun t15 =>
 f270 (t12,t13,t14,t15,()) (fun t16 h17 =>
 newC h17 v0C 33 fun b18 h19 =>
 sts h19 b18 0 (vCl t16) fun h20 =>
 ldI h20 b18 0 .u8 fun t21=>ldS h20 b18 (0+1) fun t22=>ldL h20 b18 (0+2) fun t23=>ldL h20 b18 (0+3) fun t24 =>
 f57 (t21,t22,t23,t24,()) (fun t25 h26 =>
 Zz (!t25) (
 f252 (fun t27 h28 =>
 Yx t27 fun t29 =>
 K t29 h28) h26) (
 ldI h26 b8 0 .u8 fun t30=>ldS h26 b8 (0+1) fun t31=>ldL h26 b8 (0+2) fun t32=>ldL h26 b8 (0+3) fun t33 =>
 f230 (t30,t31,t32,t33,()) (fun t34 t35 t36 t37 h38 =>
 newC h38 r0C 28 fun b39 h40 =>
 sts h40 b39 0 (rCl t34) fun h41 =>
 Zi t35 fun e =>
 Zi t36 fun x =>
 Zi t37 fun x42 =>
 ldI h41 b18 0 .u8 fun t43=>ldS h41 b18 (0+1) fun t44=>ldL h41 b18 (0+2) fun t45=>ldL h41 b18 (0+3) fun t46 =>
 f230 (t43,t44,t45,t46,()) (fun t47 t48 t49 t50 h51 =>
 newC h51 r0C 28 fun b52 h53 =>
 sts h53 b52 0 (rCl t47) fun h54 =>
 Zi t48 fun f =>
 Zi t49 fun x55 =>
 Zi t50 fun x56 =>
 f252 (fun t57 h58 =>
 Zz t57 (
 Zz ((e ==0) ==(f ==0)) (
 ldL h58 b39 0 fun t59=>ldL h58 b39 (0+1) fun t60=>ldL h58 b39 (0+2) fun t61=>ldL h58 b39 (0+3) fun t62=>ldL h58 b39 (0+4) fun t63 =>
 ldL h58 b52 0 fun t64=>ldL h58 b52 (0+1) fun t65=>ldL h58 b52 (0+2) fun t66=>ldL h58 b52 (0+3) fun t67=>ldL h58 b52 (0+4) fun t68 =>
 f266 (t59,t60,t61,t62,t63,()) (t64,t65,t66,t67,t68,()) (fun t69 h70 =>
 Yx t69 fun t71 =>
 K t71 h70) h58) (
 K false h58)) (
 K false h58)) h54) h41) h26)) h20) h10)) h1
def Zah:ZEq:=Zak ZaU ZaI Zew Zap YP Zao
end Go.Proofs.YtpjbjdheeemdiaaGreatDoor
