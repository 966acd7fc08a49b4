/- The models of the functions. Written by a program out of the translated functions. -/
import GoSem.Machine.Frame
import GoSem.Op.String
import Derived.Test.YtpjbjdheeemdiaaGreatDoorPa1
set_option linter.unusedVariables false
set_option linter.unusedSimpArgs false
namespace Go.Proofs.YtpjbjdheeemdiaaGreatDoor
open Go Go.Fw
abbrev oA:=Option Addr
abbrev e0B:ByteArray:=ByteArray.mk #[]
abbrev rTy:=Sl × Sl × Sl × Sl × Sl × Unit
abbrev vTy:=Int × ByteArray × Sl × Sl × Unit
abbrev slv (s:Sl):Value:= .slice s.ptr s.len s.cap
abbrev n0S:Sl:=⟨none,0,0⟩
abbrev n0V:Value:= .slice none 0 0
abbrev vCl (v:vTy):List Value:=[.int .u8 v.1,.string v.2.1,slv v.2.2.1,slv v.2.2.2.1]
abbrev rCl (r:rTy):List Value:=[slv r.1,slv r.2.1,slv r.2.2.1,slv r.2.2.2.1,slv r.2.2.2.2.1]
abbrev v0C:List Value:=[.int .u8 0,.string e0B,n0V,n0V]
abbrev r0C:List Value:=[n0V,n0V,n0V,n0V,n0V]
abbrev ndV (h:Zc) (b:Nat) (i:Int) (s:ByteArray) (x y:Sl) (K:Prop):Prop:=Y9 (Yb h [(b,0,.int .u8 i),(b,0+1,.string s),(b,0+2,slv x),(b,0+3,slv y)]) K
abbrev ndP (h:Zc) (b o:Nat) (p:oA) (K:Prop):Prop:=Y9 (Yb h [(b,o,.pointer p)]) K
abbrev ndL (h:Zc) (b o:Nat) (x:Sl) (K:Prop):Prop:=Y9 (Yb h [(b,o,slv x)]) K
abbrev zT0:=ByteArray->Int->(Int->HP)->HP
abbrev zT1:=oA->(HP)->HP
def Zdi (e:zT0) (b:oA) (d:HP) (c:Zc):Prop :=
 Zau (σ:=Unit) (fun f B a =>
 Ze b fun g h =>
 ldI a g (h+1) .i64 fun i =>
 Ze b fun j k =>
 ldS a j k fun l =>
 Zy (decide (i<(l.size:Int))) (
 Ze b fun m n =>
 ldS a m n fun o =>
 Ze b fun p q =>
 ldI a p (q+1) .i64 fun r =>
 ZwE o r fun s =>
 ZvX (ρ:=Int × Unit) (fun d c=>e (ByteArray.mk #[32,9,10,13]) s (fun t c=>d (t,()) c) c) a fun u =>
 Zy (decide (u.1>=0)) (
 Ze b fun v w =>
 ldI a v (w+1) .i64 fun x =>
 Ze b fun y z =>
 st a y (z+1) (.int .i64 (IntKind.wrap .i64 (x+1))) fun A =>
 f (()) A) (
 d a)) (
 d a)) (()) c
def Z7:zT1:=Zdi Xf
abbrev zT2:=oA->(Int->HP)->HP
def Zes (b:oA) (c:Int->HP) (a:Zc):Prop :=
 Zi 0 fun s =>
 Ze b fun d e =>
 ldI a d (e+1) .i64 fun f =>
 Ze b fun g h =>
 ldS a g h fun i =>
 Zy (decide (f<(i.size:Int))) (
 Ze b fun j k =>
 ldS a j k fun l =>
 Ze b fun m n =>
 ldI a m (n+1) .i64 fun o =>
 ZwE l o fun p =>
 Zi p fun q =>
 c q a) (
 Zi 0 fun r =>
 c r a)
def Zx:zT2:=Zes
abbrev zT3:=oA->Int->Int->(HP)->(Value->HP)->HP
def Zbb (b:oA) (e:Int) (c:Int) (l:HP) (d:Value->HP) (a:Zc):Prop :=
 Ze b fun f g =>
 ldS a f g fun h =>
 Zy (decide (c>=(h.size:Int))) (
 Ze b fun i j =>
 ldS a i j fun k =>
 d (.iface 160 (.agg #[.int .i64 24,.int .i64 (k.size:Int)])) a) (
 d (.iface 160 (.agg #[.int .i64 e,.int .i64 c])) a)
def Zp:zT3:=Zbb
abbrev zT6:=oA->Int->(Value->HP)->HP
def XT (d:zT1) (a:oA) (e:Int) (f:Value->HP) (g:Zc):Prop :=
 d a (fun b =>
 Ze a fun h i =>
 ldL b h (i+1) fun j =>
 newC b [.int .u8 e] 5 fun k c =>
 rdS ⟨some ⟨k,0,none⟩,1,1⟩ 1 c fun l=>app 5 1 1 [.int .u8 0] j 1 l c fun m n =>
 Ze a fun o p =>
 st n o (p+1) (slv m) fun q =>
 f .nilIface q) g
def ZB:zT6:=XT Yf
abbrev zT7:=oA->(Int->HP)->(Value->HP)->HP
def ZeN (n:zT2) (f:zT3) (c:oA) (o:Int->HP) (g:Value->HP) (p:Zc):Prop :=
 Zi 0 fun ac =>
 Zi 0 fun q =>
 Zau (σ:=Int × Int × Unit) (fun r h i =>
 (fun (d:Int) (j:Int) =>
 Zy (decide (j<4)) (
 n c (fun s k =>
 Zi s fun a =>
 Zgq (σ:=Int × Unit) (fun t l =>
 (fun (u:Int) =>
 Ze c fun v w =>
 ldI l v (w+1) .i64 fun x =>
 Ze c fun y z =>
 st l y (z+1) (.int .i64 (IntKind.wrap .i64 (x+1))) fun A =>
 r (u,IntKind.wrap .i64 (j+1),()) A) t.1) (fun e =>
 Zgq (σ:=Bool × Unit) (fun B b =>
 (fun (C:Bool) =>
 Zy C (
 Y9 (0<=(4:Int)) <|
 Zi (orV .i32 (Zz5 .i32 d 4) (IntKind.wrap .i32 (IntKind.wrap .u8 (a - 48)))) fun D =>
 e (D,()) b) (
 Zy (decide (a>=97)) (
 Yq (decide (a<=102)) fun E =>
 Zy E (
 Y9 (0<=(4:Int)) <|
 Zi (orV .i32 (Zz5 .i32 d 4) (IntKind.wrap .i32 (IntKind.wrap .u8 ((IntKind.wrap .u8 (a - 97))+10)))) fun F =>
 e (F,()) b) (
 Zy (decide (a>=65)) (
 Yq (decide (a<=70)) fun G =>
 Zy G (
 Y9 (0<=(4:Int)) <|
 Zi (orV .i32 (Zz5 .i32 d 4) (IntKind.wrap .i32 (IntKind.wrap .u8 ((IntKind.wrap .u8 (a - 65))+10)))) fun H =>
 e (H,()) b) (
 Ze c fun I J =>
 ldI b I (J+1) .i64 fun K =>
 f c 22 K (fun L =>
 e (d,()) L) g b)) (
 Ze c fun M N =>
 ldI b M (N+1) .i64 fun O =>
 f c 22 O (fun P =>
 e (d,()) P) g b))) (
 Zy (decide (a>=65)) (
 Yq (decide (a<=70)) fun Q =>
 Zy Q (
 Y9 (0<=(4:Int)) <|
 Zi (orV .i32 (Zz5 .i32 d 4) (IntKind.wrap .i32 (IntKind.wrap .u8 ((IntKind.wrap .u8 (a - 65))+10)))) fun R =>
 e (R,()) b) (
 Ze c fun S T =>
 ldI b S (T+1) .i64 fun U =>
 f c 22 U (fun V =>
 e (d,()) V) g b)) (
 Ze c fun W X =>
 ldI b W (X+1) .i64 fun Y =>
 f c 22 Y (fun Z =>
 e (d,()) Z) g b)))) B.1) (fun m =>
 Zy (decide (a>=48)) (
 Yq (decide (a<=57)) fun aa =>
 m (aa,()) k) (
 m (false,()) k)))) i) (
 Zi d fun ab =>
 o ab i)) h.1 h.2.1) (q,0,()) p
def Zbt:zT7:=ZeN Zx Zp
abbrev zT8:=ByteArray->ByteArray->(Bool->HP)->HP
def XZ (b:ByteArray) (a:ByteArray) (c:Bool->HP) (d:Zc):Prop :=
 Zy (decide ((b.size:Int)>=(a.size:Int))) (
 ZAM b 0 (a.size:Int) fun e =>
 Yq (ZcC e a) fun f =>
 c f d) (
 c false d)
def Xd:zT8:=XZ
def ZdM (a:zT8) (b:ByteArray) (c:ByteArray) (d:Bool->HP) (e:Zc):Prop :=
 a b c (fun f g =>
 Yq f fun h =>
 d h g) e
def ZaL:zT8:=ZdM Xd
abbrev Zz4:=Sl->Int->(Sl->HP)->HP
def XS (c:Sl) (a:Int) (d:Sl->HP) (e:Zc):Prop :=
 Zi (IntKind.wrap .u32 a) fun b =>
 Yq (decide (b<=2047)) fun n =>
 Zy n (
 Y9 (0<=(6:Int)) <|
 newC e [.int .u8 (orV .u8 (192:Int) (IntKind.wrap .u8 (ZvH .i32 a 6))),.int .u8 (orV .u8 (128:Int) (Zvm .u8 (IntKind.wrap .u8 a) 63))] 5 fun o h =>
 rdS ⟨some ⟨o,0,none⟩,2,2⟩ 1 h fun p=>app 5 1 1 [.int .u8 0] c 2 p h fun q r =>
 d q r) (
 Zgq (σ:=Bool × Unit) (fun s f =>
 (fun (t:Bool) =>
 Zy t (
 Y9 (0<=(12:Int)) <|
 Y9 (0<=(6:Int)) <|
 newC f [.int .u8 (orV .u8 (224:Int) (IntKind.wrap .u8 (ZvH .i32 a 12))),.int .u8 (orV .u8 (128:Int) (Zvm .u8 (IntKind.wrap .u8 (ZvH .i32 a 6)) 63)),.int .u8 (orV .u8 (128:Int) (Zvm .u8 (IntKind.wrap .u8 a) 63))] 5 fun u i =>
 rdS ⟨some ⟨u,0,none⟩,3,3⟩ 1 i fun v=>app 5 1 1 [.int .u8 0] c 3 v i fun w x =>
 d w x) (
 Zy (decide (b>65535)) (
 Yq (decide (b<=1114111)) fun y =>
 Zy y (
 Y9 (0<=(18:Int)) <|
 Y9 (0<=(12:Int)) <|
 Y9 (0<=(6:Int)) <|
 newC f [.int .u8 (orV .u8 (240:Int) (IntKind.wrap .u8 (ZvH .i32 a 18))),.int .u8 (orV .u8 (128:Int) (Zvm .u8 (IntKind.wrap .u8 (ZvH .i32 a 12)) 63)),.int .u8 (orV .u8 (128:Int) (Zvm .u8 (IntKind.wrap .u8 (ZvH .i32 a 6)) 63)),.int .u8 (orV .u8 (128:Int) (Zvm .u8 (IntKind.wrap .u8 a) 63))] 5 fun z j =>
 rdS ⟨some ⟨z,0,none⟩,4,4⟩ 1 j fun A=>app 5 1 1 [.int .u8 0] c 4 A j fun B C =>
 d B C) (
 newC f [.int .u8 239,.int .u8 191,.int .u8 189] 5 fun D k =>
 rdS ⟨some ⟨D,0,none⟩,3,3⟩ 1 k fun E=>app 5 1 1 [.int .u8 0] c 3 E k fun F G =>
 d F G)) (
 newC f [.int .u8 239,.int .u8 191,.int .u8 189] 5 fun H l =>
 rdS ⟨some ⟨H,0,none⟩,3,3⟩ 1 l fun I=>app 5 1 1 [.int .u8 0] c 3 I l fun J K =>
 d J K))) s.1) (fun g =>
 Yq (decide (b<55296)) fun m =>
 Zy m (
 g (m,()) e) (
 Zy (decide ((57343:Int)<b)) (
 Yq (decide (b<=65535)) fun L =>
 g (L,()) e) (
 g (false,()) e))))
def Y7:Zz4:=XS
def Zbf (f:Zz4) (b:Sl) (a:Int) (c:Sl->HP) (d:Zc):Prop :=
 Zy (decide ((IntKind.wrap .u32 a)<=127)) (
 newC d [.int .u8 (IntKind.wrap .u8 a)] 5 fun g e =>
 rdS ⟨some ⟨g,0,none⟩,1,1⟩ 1 e fun h=>app 5 1 1 [.int .u8 0] b 1 h e fun i j =>
 c i j) (
 f b a (fun k l =>
 c k l) d)
def Xv:Zz4:=Zbf Y7
abbrev ZGg:=oA->Int->(Int->Value->HP)->HP
def ZaP (d:zT1) (e:Zz4) (a:oA) (f:Int) (g:Int->Value->HP) (h:Zc):Prop :=
 Zi 0 fun x =>
 d a (fun b =>
 Ze a fun i j =>
 ldL b i (j+1) fun k =>
 Zi (k.len:Int) fun l =>
 Ze a fun m n =>
 ldL b m (n+1) fun o =>
 e o f (fun p q =>
 Ze a fun r s =>
 st q r (s+1) (slv p) fun c =>
 Ze a fun t u =>
 ldL c t (u+1) fun v =>
 Zi (IntKind.wrap .i64 ((v.len:Int) - l)) fun w =>
 g w .nilIface c) b) h
def Xg:ZGg:=ZaP Yf Xv
abbrev Zz3:=oA->oA->(HP)->(Value->HP)->HP
def Zdg (A:zT2) (B:zT0) (C:zT6) (D:zT3) (q:zT7) (E:zT8) (r:ZGg) (a:oA) (h:oA) (d:HP) (i:Value->HP) (e:Zc):Prop :=
 A a (fun F G =>
 Zi F fun s =>
 Zgq (σ:=Unit) (fun aO j =>
 Zgq (σ:=Unit) (fun aP t =>
 Ze a fun H I =>
 ldI t H (I+1) .i64 fun J =>
 Ze a fun K L =>
 st t K (L+1) (.int .i64 (IntKind.wrap .i64 (J+1))) fun M =>
 q a (fun N c =>
 Zi N fun b =>
 Zgq (σ:=Unit) (fun aQ k =>
 Zgq (σ:=Int × Unit) (fun O P =>
 (fun (Q:Int) =>
 r h Q (fun aR aS R =>
 d R) P) O.1) (fun l =>
 Zy (decide (b>=55296)) (
 Zy (decide (b<57344)) (
 Zi 65533 fun S =>
 l (S,()) k) (
 l (b,()) k)) (
 l (b,()) k))) (fun m =>
 Zgq (σ:=Bool × Unit) (fun T g =>
 (fun (U:Bool) =>
 Zy U (
 Ze a fun V W =>
 ldI g V (W+1) .i64 fun X =>
 Zi X fun u =>
 Ze a fun Y Z =>
 ldI g Y (Z+1) .i64 fun aa =>
 Ze a fun ab ac =>
 st g ab (ac+1) (.int .i64 (IntKind.wrap .i64 (aa+2))) fun ad =>
 q a (fun ae n =>
 Zi ae fun o =>
 Zy (decide (o>=56320)) (
 Zy (decide (o<57344)) (
 Y9 (0<=(10:Int)) <|
 r h (IntKind.wrap .i32 ((IntKind.wrap .i32 ((65536:Int)+(Zz5 .i32 (IntKind.wrap .i32 (b - 55296)) 10)))+(IntKind.wrap .i32 (o - 56320)))) (fun aT aU af =>
 d af) n) (
 Ze a fun ag ah =>
 st n ag (ah+1) (.int .i64 u) fun ai =>
 m (()) ai)) (
 Ze a fun aj ak =>
 st n aj (ak+1) (.int .i64 u) fun al =>
 m (()) al)) i ad) (
 m (()) g)) T.1) (fun p =>
 Zy (decide (b>=55296)) (
 Zy (decide (b<56320)) (
 Ze a fun am an =>
 ldS c am an fun v =>
 Ze a fun ao ap =>
 ldI c ao (ap+1) .i64 fun aq =>
 ZAM v aq v.size fun ar =>
 ZvX (ρ:=Bool × Unit) (fun d e=>E ar (ByteArray.mk #[92,117]) (fun au e=>d (au,()) e) e) c fun av =>
 p (av.1,()) c) (
 p (false,()) c)) (
 p (false,()) c)))) i M) (fun w =>
 Zy (s !=117) (
 Ze a fun aw ax =>
 ldI j aw (ax+1) .i64 fun ay =>
 D a 22 ay (fun az =>
 w (()) az) i j) (
 w (()) j))) (fun x =>
 B (ByteArray.mk #[34,92,47,98,102,110,114,116]) s (fun aA f =>
 Zi aA fun y =>
 Zy (decide (y>=0)) (
 Ze a fun aB aC =>
 ldI f aB (aC+1) .i64 fun aD =>
 Ze a fun aE aF =>
 ldS f aE aF fun aG =>
 Zy (decide (aD<(aG.size:Int))) (
 ZwE (ByteArray.mk #[34,92,47,8,12,10,13,9]) y fun aH =>
 C h aH (fun aV z =>
 Ze a fun aI aJ =>
 ldI z aI (aJ+1) .i64 fun aK =>
 Ze a fun aL aM =>
 st z aL (aM+1) (.int .i64 (IntKind.wrap .i64 (aK+1))) fun aN =>
 d aN) f) (
 x (()) f)) (
 x (()) f)) G)) e
def Zaz:Zz3:=Zdg Zx Xf ZB Zp Zbt ZaL Xg
abbrev ZNj:=ByteArray->(Int->HP)->HP
abbrev Zhu:=ByteArray->(Bool->HP)->HP
def ZhY (e:ZNj) (f:Zhu) (a:ByteArray) (c:Bool->HP) (r:Zc):Prop :=
 newC r [.string (ByteArray.mk #[128,128,128]),.string (ByteArray.mk #[144,128,128]),.string (ByteArray.mk #[160,128,128])] 9 fun s t =>
 Zau (σ:=Int × Unit) (fun g u h =>
 (fun (b:Int) =>
 Zy (decide (b<(3:Int))) (
 Zdb (some ⟨s,0,none⟩) 3 b 1 fun v w =>
 ldS h v w fun i =>
 Zi (a.size:Int) fun x =>
 Zau (σ:=Int × Unit) (fun k y j =>
 (fun (d:Int) =>
 Zy (decide (d<4)) (
 ZAM i 0 (IntKind.wrap .i64 (d - (a.size:Int))) fun z =>
 ZHe a z fun l =>
 e l (fun A m =>
 Zi A fun B =>
 Zy (B ==1) (
 f l (fun C n =>
 Zy C (
 c true n) (
 Zi (IntKind.wrap .i64 (d+1)) fun D =>
 k (D,()) n)) m) (
 Zi (IntKind.wrap .i64 (d+1)) fun E =>
 k (E,()) m)) j) (
 Zy (decide ((a.size:Int)<4)) (
 ZHe a i fun F =>
 ZAM F 0 4 fun G =>
 f G (fun H o =>
 Zy H (
 ZHe a i fun I =>
 ZAM I 0 4 fun J =>
 e J (fun K p =>
 Zy (K ==1) (
 c true p) (
 g (IntKind.wrap .i64 (b+1),()) p)) o) (
 g (IntKind.wrap .i64 (b+1),()) o)) j) (
 g (IntKind.wrap .i64 (b+1),()) j))) y.1) (x,()) h) (
 f a (fun L q =>
 Zy L (
 e a (fun M N =>
 Yq (M ==1) fun O =>
 c O N) q) (
 c false q)) h)) u.1) (0,()) t
def Zek:Zhu:=ZhY Xc Z8
abbrev Zw8:=oA->ByteArray->(Int->Value->HP)->HP
def Xz (d:zT1) (a:oA) (b:ByteArray) (e:Int->Value->HP) (f:Zc):Prop :=
 Zi 0 fun p =>
 d a (fun c =>
 Ze a fun g h =>
 ldL c g (h+1) fun i =>
 app 5 1 1 [.int .u8 0] i b.size (Zbk b) c fun j k =>
 Ze a fun l m =>
 st k l (m+1) (slv j) fun n =>
 Zi (b.size:Int) fun o =>
 e o .nilIface n) f
def ZA:Zw8:=Xz Yf
def ZdQ (g:zT3) (m:Zhu) (n:Zhu) (o:Zw8) (a:oA) (p:oA) (q:HP) (h:Value->HP) (r:Zc):Prop :=
 Zi 1 fun s =>
 Zau (σ:=Int × Unit) (fun t u b =>
 (fun (c:Int) =>
 Zgq (σ:=Unit) (fun ac d =>
 Ze a fun v w =>
 ldS d v w fun x =>
 Ze a fun y z =>
 ldI d y (z+1) .i64 fun A =>
 Ze a fun B C =>
 ldI d B (C+1) .i64 fun D =>
 ZAM x A (IntKind.wrap .i64 (D+c)) fun e =>
 Zgq (σ:=Unit) (fun ad E =>
 n e (fun F i =>
 Zy F (
 o p e (fun ae af j =>
 Ze a fun G H =>
 ldI j G (H+1) .i64 fun I =>
 Ze a fun J K =>
 st j J (K+1) (.int .i64 (IntKind.wrap .i64 (I+c))) fun L =>
 q L) i) (
 Zi (IntKind.wrap .i64 (c+1)) fun M =>
 t (M,()) i)) E) (fun k =>
 m e (fun N f =>
 Zy (!N) (
 Ze a fun O P =>
 ldI f O (P+1) .i64 fun Q =>
 g a 22 (IntKind.wrap .i64 ((IntKind.wrap .i64 (Q+c)) - 1)) (fun R =>
 k (()) R) h f) (
 k (()) f)) d)) (fun l =>
 Ze a fun S T =>
 ldI b S (T+1) .i64 fun U =>
 Ze a fun V W =>
 ldS b V W fun X =>
 Zy (decide ((IntKind.wrap .i64 (U+c))>(X.size:Int))) (
 Ze a fun Y Z =>
 ldS b Y Z fun aa =>
 g a 24 (aa.size:Int) (fun ab =>
 l (()) ab) h b) (
 l (()) b))) u.1) (s,()) r
def ZaN:Zz3:=ZdQ Zp Zek Z8 ZA
abbrev zT4:=oA->(ByteArray->HP)->HP
abbrev ZBW:=oA->(ByteArray->HP)->(Value->HP)->HP
def Zeq (k:zT2) (l:zT3) (m:zT4) (n:Zz3) (o:zT6) (p:Zz3) (a:oA) (q:ByteArray->HP) (g:Value->HP) (h:Zc):Prop :=
 Ze a fun r s =>
 ldI h r (s+1) .i64 fun t =>
 Ze a fun u v =>
 st h u (v+1) (.int .i64 (IntKind.wrap .i64 (t+1))) fun w =>
 newC w [.pointer none,n0V] 188 fun d x =>
 Zau (σ:=Unit) (fun e am y =>
 k a (fun z f =>
 Zi z fun c =>
 Zgq (σ:=Bool × Unit) (fun A b =>
 (fun (B:Bool) =>
 Zy B (
 Ze a fun C D =>
 ldI b C (D+1) .i64 fun E =>
 l a 22 E (fun F =>
 e (()) F) g b) (
 Yq (c ==34) fun G =>
 Zy G (
 Ze a fun H I =>
 ldI b H (I+1) .i64 fun J =>
 Ze a fun K L =>
 st b K (L+1) (.int .i64 (IntKind.wrap .i64 (J+1))) fun M =>
 m (some ⟨d,0,none⟩) (fun N O =>
 q N O) M) (
 Yq (c ==92) fun P =>
 Zy P (
 Ze a fun Q R =>
 ldI b Q (R+1) .i64 fun S =>
 Ze a fun T U =>
 st b T (U+1) (.int .i64 (IntKind.wrap .i64 (S+1))) fun V =>
 n a (some ⟨d,0,none⟩) (fun W =>
 e (()) W) g V) (
 Yq (decide (c<128)) fun X =>
 Zy X (
 o (some ⟨d,0,none⟩) c (fun an i =>
 Ze a fun Y Z =>
 ldI i Y (Z+1) .i64 fun aa =>
 Ze a fun ab ac =>
 st i ab (ac+1) (.int .i64 (IntKind.wrap .i64 (aa+1))) fun ad =>
 e (()) ad) b) (
 p a (some ⟨d,0,none⟩) (fun ae =>
 e (()) ae) g b))))) A.1) (fun j =>
 Ze a fun af ag =>
 ldI f af (ag+1) .i64 fun ah =>
 Ze a fun ai aj =>
 ldS f ai aj fun ak =>
 Zy (decide (ah>=(ak.size:Int))) (
 j (true,()) f) (
 Yq (decide (c<32)) fun al =>
 j (al,()) f))) y) (()) x
def XR:ZBW:=Zeq Zx Zp Xb Zaz ZB ZaN
abbrev Zpv:=oA->Int->((vTy)->HP)->(Value->HP)->HP
abbrev ZGf:=oA->oA->Int->(HP)->(Value->HP)->HP
def Zer (c:zT1) (u:zT2) (v:zT3) (S:ZBW) (w:Zpv) (a:oA) (d:oA) (x:Int) (h:HP) (e:Value->HP) (T:Zc):Prop :=
 c a (fun k =>
 Zgq (σ:=Unit) (fun aO l =>
 Ze d fun f g =>
 ldL l f (g+2) fun b =>
 Zsx (
 w a x (fun y z =>
 Y9 (Yb z [(f,g+2,slv b)]) <|
 newC z v0C 33 fun U m =>
 Y9 (Yb m [(f,g+2,slv b)]) <|
 rdS ⟨some ⟨U,0,none⟩,1,1⟩ 4 m fun V=>app 33 4 72 v0C b 1 V m fun i A =>
 Zdb i.ptr i.len (b.len:Int) 4 fun B C =>
 Ze d fun D E =>
 Zsx (
 sts A B C (vCl y) fun W =>
 st W D (E+2) (slv i) fun X =>
 c a (fun Y =>
 h Y) X) (
 st A D (E+2) (slv i) fun Z =>
 sts Z B C (vCl y) fun aa =>
 c a (fun ab =>
 h ab) aa)) e l) (
 newC l v0C 33 fun ac F =>
 Y9 (Yb F [(f,g+2,slv b)]) <|
 w a x (fun G n =>
 Y9 (Yb n [(f,g+2,slv b)]) <|
 rdS ⟨some ⟨ac,0,none⟩,1,1⟩ 4 n fun ad=>app 33 4 72 v0C b 1 ad n fun j H =>
 Zdb j.ptr j.len (b.len:Int) 4 fun I J =>
 Ze d fun K L =>
 Zsx (
 sts H I J (vCl G) fun ae =>
 st ae K (L+2) (slv j) fun af =>
 c a (fun ag =>
 h ag) af) (
 st H K (L+2) (slv j) fun ah =>
 sts ah I J (vCl G) fun ai =>
 c a (fun aj =>
 h aj) ai)) e F)) (fun M =>
 Ze d fun ak al =>
 ldI k ak al .u8 fun am =>
 Zy (am ==7) (
 Zgq (σ:=Unit) (fun aP N =>
 Ze d fun o p =>
 ldL N o (p+3) fun q =>
 S a (fun an O =>
 Y9 (Yb O [(o,p+3,slv q)]) <|
 newC O [.string an] 9 fun ao r =>
 Y9 (Yb r [(o,p+3,slv q)]) <|
 rdS ⟨some ⟨ao,0,none⟩,1,1⟩ 1 r fun ap=>app 9 1 16 [.string e0B] q 1 ap r fun aq ar =>
 Ze d fun au av =>
 st ar au (av+3) (slv aq) fun aw =>
 c a (fun ax =>
 Zgq (σ:=Unit) (fun aQ P =>
 Ze a fun ay az =>
 ldI P ay (az+1) .i64 fun aA =>
 Ze a fun aB aC =>
 st P aB (aC+1) (.int .i64 (IntKind.wrap .i64 (aA+1))) fun aD =>
 M (()) aD) (fun Q =>
 u a (fun aE s =>
 Zy (aE !=58) (
 Ze a fun aF aG =>
 ldI s aF (aG+1) .i64 fun aH =>
 v a 20 aH (fun aI =>
 Q (()) aI) e s) (
 Q (()) s)) ax)) aw) e N) (fun R =>
 u a (fun aJ t =>
 Zy (aJ !=34) (
 Ze a fun aK aL =>
 ldI t aK (aL+1) .i64 fun aM =>
 v a 20 aM (fun aN =>
 R (()) aN) e t) (
 R (()) t)) k)) (
 M (()) k))) T
def Za2 (f20:Zpv):ZGf:=Zer Z7 Zx Zp XR f20
abbrev ZGe:=oA->Int->Int->Int->((vTy)->HP)->(Value->HP)->HP
def ZbW (m:zT3) (v:zT1) (n:zT2) (w:ZGf) (a:oA) (x:Int) (y:Int) (o:Int) (h:(vTy)->HP) (i:Value->HP) (d:Zc):Prop :=
 newC d v0C 33 fun e j =>
 Zgq (σ:=Unit) (fun ay p =>
 Ze a fun z A =>
 ldI p z (A+1) .i64 fun B =>
 Ze a fun C D =>
 st p C (D+1) (.int .i64 (IntKind.wrap .i64 (B+1))) fun E =>
 newC E v0C 33 fun b F =>
 sts F b 0 [.int .u8 x,.string e0B,n0V,n0V] fun G =>
 v a (fun H =>
 Zau (σ:=Unit) (fun I az c =>
 Zgq (σ:=Unit) (fun aA k =>
 Zgq (σ:=Unit) (fun aB J =>
 w a (some ⟨b,0,none⟩) (IntKind.wrap .i64 (o+1)) (fun K =>
 I (()) K) i J) (fun q =>
 ldL k b (0+2) fun L =>
 Zy (decide ((L.len:Int)>0)) (
 Zgq (σ:=Unit) (fun aC r =>
 Ze a fun M N =>
 ldI r M (N+1) .i64 fun O =>
 Ze a fun P Q =>
 st r P (Q+1) (.int .i64 (IntKind.wrap .i64 (O+1))) fun R =>
 q (()) R) (fun s =>
 n a (fun S l =>
 Zy (S !=44) (
 Ze a fun T U =>
 ldI l T (U+1) .i64 fun V =>
 m a 20 V (fun W =>
 s (()) W) i l) (
 s (()) l)) k)) (
 q (()) k))) (fun t =>
 ZvX (ρ:=Int × Unit) (fun h d=>n a (fun X d=>h (X,()) d) d) c fun Y =>
 Zy (Y.1 !=y) (
 t (()) c) (
 Ze a fun Z aa =>
 ldI c Z (aa+1) .i64 fun ab =>
 Ze a fun ac ad =>
 ldS c ac ad fun ae =>
 Zy (decide (ab>=(ae.size:Int))) (
 t (()) c) (
 Ze a fun af ag =>
 ldI c af (ag+1) .i64 fun ah =>
 Ze a fun ai aj =>
 st c ai (aj+1) (.int .i64 (IntKind.wrap .i64 (ah+1))) fun f =>
 ldI f b 0 .u8 fun ak=>ldS f b (0+1) fun al=>ldL f b (0+2) fun am=>ldL f b (0+3) fun an =>
 sts f e 0 [.int .u8 ak,.string al,slv am,slv an] fun g =>
 ldI g e 0 .u8 fun ao=>ldS g e (0+1) fun ap=>ldL g e (0+2) fun aq=>ldL g e (0+3) fun ar=>h (ao,ap,aq,ar,()) g)))) (()) H) G) (fun u =>
 Zy (decide (o>=64)) (
 Ze a fun au av =>
 ldI j au (av+1) .i64 fun aw =>
 m a 23 aw (fun ax =>
 u (()) ax) i j) (
 u (()) j))
def Xe (f20:Zpv):ZGe:=ZbW Zp Z7 Zx (Za2 f20)
abbrev ZGd:=oA->ByteArray->Int->((vTy)->HP)->(Value->HP)->HP
def Zep (m:zT2) (i:zT3) (a:oA) (j:ByteArray) (n:Int) (f:(vTy)->HP) (k:Value->HP) (c:Zc):Prop :=
 newC c v0C 33 fun d o =>
 Zau (σ:=Int × Unit) (fun p q b =>
 (fun (g:Int) =>
 Zy (decide (g<(j.size:Int))) (
 Zi g fun r =>
 Zgq (σ:=Unit) (fun T l =>
 Ze a fun s t =>
 ldI l s (t+1) .i64 fun u =>
 Ze a fun v w =>
 st l v (w+1) (.int .i64 (IntKind.wrap .i64 (u+1))) fun x =>
 p (IntKind.wrap .i64 (g+1),()) x) (fun h =>
 ZvX (ρ:=Int × Unit) (fun f c=>m a (fun y c=>f (y,()) c) c) b fun z =>
 ZwE j r fun A =>
 Zy (z.1 !=A) (
 Ze a fun B C =>
 ldI b B (C+1) .i64 fun D =>
 i a 20 D (fun E =>
 h (()) E) k b) (
 Ze a fun F G =>
 ldI b F (G+1) .i64 fun H =>
 Ze a fun I J =>
 ldS b I J fun K =>
 Zy (decide (H>=(K.size:Int))) (
 Ze a fun L M =>
 ldI b L (M+1) .i64 fun N =>
 i a 20 N (fun O =>
 h (()) O) k b) (
 h (()) b)))) (
 sts b d 0 [.int .u8 n,.string e0B,n0V,n0V] fun e =>
 ldI e d 0 .u8 fun P=>ldS e d (0+1) fun Q=>ldL e d (0+2) fun R=>ldL e d (0+3) fun S=>f (P,Q,R,S,()) e)) q.1) (0,()) o
def Za7:ZGd:=Zep Zx Zp
abbrev ZGc:=oA->(HP)->(Value->HP)->HP
def Zdh (d:zT2) (f:zT3) (a:oA) (g:HP) (h:Value->HP) (k:Zc):Prop :=
 Zgq (σ:=Unit) (fun J l =>
 d a (fun m n =>
 Zi m fun o =>
 Zau (σ:=Int × Unit) (fun p q c =>
 (fun (i:Int) =>
 Zy (decide (i>=48)) (
 Zy (decide (i<=57)) (
 Ze a fun r s =>
 ldI c r (s+1) .i64 fun t =>
 Ze a fun u v =>
 st c u (v+1) (.int .i64 (IntKind.wrap .i64 (t+1))) fun w =>
 d a (fun x y =>
 Zi x fun z =>
 p (z,()) y) w) (
 g c)) (
 g c)) q.1) (o,()) n) l) (fun e =>
 d a (fun A b =>
 Zi A fun j =>
 Zy (decide (j<48)) (
 Ze a fun B C =>
 ldI b B (C+1) .i64 fun D =>
 f a 21 D (fun E =>
 e (()) E) h b) (
 Zy (decide (j>57)) (
 Ze a fun F G =>
 ldI b F (G+1) .i64 fun H =>
 f a 21 H (fun I =>
 e (()) I) h b) (
 e (()) b))) k)
def YS:ZGc:=Zdh Zx Zp
abbrev ZGb:=oA->((vTy)->HP)->(Value->HP)->HP
def Zdf (d:zT2) (x:zT3) (c:ZGc) (a:oA) (y:(vTy)->HP) (b:Value->HP) (z:Zc):Prop :=
 newC z v0C 33 fun f q =>
 Ze a fun A B =>
 ldI q A (B+1) .i64 fun C =>
 Zi C fun D =>
 Zgq (σ:=Unit) (fun bp E =>
 Zgq (σ:=Unit) (fun bq F =>
 Zgq (σ:=Unit) (fun br G =>
 Zgq (σ:=Unit) (fun bs m =>
 Ze a fun H I =>
 Ze a fun J K =>
 ldS m H I fun L =>
 ldI m J (K+1) .i64 fun M =>
 ZAM L D M fun N =>
 sts m f 0 [.int .u8 4,.string N,n0V,n0V] fun g =>
 ldI g f 0 .u8 fun O=>ldS g f (0+1) fun P=>ldL g f (0+2) fun Q=>ldL g f (0+3) fun R=>y (O,P,Q,R,()) g) (fun e =>
 d a (fun S h =>
 Zi S fun r =>
 Zy (r ==101) (
 Ze a fun T U =>
 ldI h T (U+1) .i64 fun V =>
 Ze a fun W X =>
 st h W (X+1) (.int .i64 (IntKind.wrap .i64 (V+1))) fun Y =>
 d a (fun Z i =>
 Zi Z fun s =>
 Zy (s ==43) (
 Ze a fun aa ab =>
 ldI i aa (ab+1) .i64 fun ac =>
 Ze a fun ad ae =>
 st i ad (ae+1) (.int .i64 (IntKind.wrap .i64 (ac+1))) fun af =>
 c a (fun ag =>
 e (()) ag) b af) (
 Zy (s ==45) (
 Ze a fun ah ai =>
 ldI i ah (ai+1) .i64 fun aj =>
 Ze a fun ak al =>
 st i ak (al+1) (.int .i64 (IntKind.wrap .i64 (aj+1))) fun am =>
 c a (fun an =>
 e (()) an) b am) (
 c a (fun ao =>
 e (()) ao) b i))) Y) (
 Zy (r ==69) (
 Ze a fun ap aq =>
 ldI h ap (aq+1) .i64 fun ar =>
 Ze a fun au av =>
 st h au (av+1) (.int .i64 (IntKind.wrap .i64 (ar+1))) fun aw =>
 d a (fun ax j =>
 Zi ax fun t =>
 Zy (t ==43) (
 Ze a fun ay az =>
 ldI j ay (az+1) .i64 fun aA =>
 Ze a fun aB aC =>
 st j aB (aC+1) (.int .i64 (IntKind.wrap .i64 (aA+1))) fun aD =>
 c a (fun aE =>
 e (()) aE) b aD) (
 Zy (t ==45) (
 Ze a fun aF aG =>
 ldI j aF (aG+1) .i64 fun aH =>
 Ze a fun aI aJ =>
 st j aI (aJ+1) (.int .i64 (IntKind.wrap .i64 (aH+1))) fun aK =>
 c a (fun aL =>
 e (()) aL) b aK) (
 c a (fun aM =>
 e (()) aM) b j))) aw) (
 e (()) h))) G)) (fun u =>
 d a (fun aN n =>
 Zy (aN ==46) (
 Ze a fun aO aP =>
 ldI n aO (aP+1) .i64 fun aQ =>
 Ze a fun aR aS =>
 st n aR (aS+1) (.int .i64 (IntKind.wrap .i64 (aQ+1))) fun aT =>
 c a (fun aU =>
 u (()) aU) b aT) (
 u (()) n)) F)) (fun k =>
 d a (fun aV o =>
 Zy (aV ==48) (
 Ze a fun aW aX =>
 ldI o aW (aX+1) .i64 fun aY =>
 Ze a fun aZ ba =>
 st o aZ (ba+1) (.int .i64 (IntKind.wrap .i64 (aY+1))) fun bb =>
 d a (fun bc l =>
 Zi bc fun v =>
 Zy (decide (v>=48)) (
 Zy (decide (v<=57)) (
 Ze a fun bd be =>
 ldI l bd (be+1) .i64 fun bf =>
 x a 21 bf (fun bg =>
 k (()) bg) b l) (
 k (()) l)) (
 k (()) l)) bb) (
 c a (fun bh =>
 k (()) bh) b o)) E)) (fun w =>
 d a (fun bi p =>
 Zy (bi ==45) (
 Ze a fun bj bk =>
 ldI p bj (bk+1) .i64 fun bl =>
 Ze a fun bm bn =>
 st p bm (bn+1) (.int .i64 (IntKind.wrap .i64 (bl+1))) fun bo =>
 w (()) bo) (
 w (()) p)) q)
def XX:ZGb:=Zdf Zx Zp YS
def ZdP (w:zT1) (x:zT2) (r:zT3) (s:ZGe) (y:ZBW) (p:ZGd) (t:ZGb) (b:oA) (u:Int) (e:(vTy)->HP) (d:Value->HP) (z:Zc):Prop :=
 newC z v0C 33 fun a A =>
 w b (fun B =>
 Zgq (σ:=Unit) (fun bb v =>
 Ze b fun C D =>
 ldI v C (D+1) .i64 fun E =>
 r b 20 E (fun F =>
 sts F a 0 v0C fun g =>
 ldI g a 0 .u8 fun G=>ldS g a (0+1) fun H=>ldL g a (0+2) fun I=>ldL g a (0+3) fun J=>e (G,H,I,J,()) g) d v) (fun q =>
 x b (fun K c =>
 Zi K fun f =>
 Ze b fun L M =>
 ldI c L (M+1) .i64 fun N =>
 Ze b fun O P =>
 ldS c O P fun Q =>
 Yq (decide (N>=(Q.size:Int))) fun R =>
 Zy R (
 Ze b fun S T =>
 ldI c S (T+1) .i64 fun U =>
 r b 24 U (fun V =>
 q (()) V) d c) (
 Yq (f ==123) fun W =>
 Zy W (
 s b 7 125 u (fun X Y =>
 sts Y a 0 (vCl X) fun h =>
 ldI h a 0 .u8 fun Z=>ldS h a (0+1) fun aa=>ldL h a (0+2) fun ab=>ldL h a (0+3) fun ac=>e (Z,aa,ab,ac,()) h) d c) (
 Yq (f ==91) fun ad =>
 Zy ad (
 s b 6 93 u (fun ae af =>
 sts af a 0 (vCl ae) fun i =>
 ldI i a 0 .u8 fun ag=>ldS i a (0+1) fun ah=>ldL i a (0+2) fun ai=>ldL i a (0+3) fun aj=>e (ag,ah,ai,aj,()) i) d c) (
 Yq (f ==34) fun ak =>
 Zy ak (
 y b (fun al am =>
 sts am a 0 [.int .u8 5,.string al,n0V,n0V] fun j =>
 ldI j a 0 .u8 fun an=>ldS j a (0+1) fun ao=>ldL j a (0+2) fun ap=>ldL j a (0+3) fun aq=>e (an,ao,ap,aq,()) j) d c) (
 Yq (f ==110) fun ar =>
 Zy ar (
 p b (ByteArray.mk #[110,117,108,108]) 1 (fun au av =>
 sts av a 0 (vCl au) fun k =>
 ldI k a 0 .u8 fun aw=>ldS k a (0+1) fun ax=>ldL k a (0+2) fun ay=>ldL k a (0+3) fun az=>e (aw,ax,ay,az,()) k) d c) (
 Yq (f ==102) fun aA =>
 Zy aA (
 p b (ByteArray.mk #[102,97,108,115,101]) 2 (fun aB aC =>
 sts aC a 0 (vCl aB) fun l =>
 ldI l a 0 .u8 fun aD=>ldS l a (0+1) fun aE=>ldL l a (0+2) fun aF=>ldL l a (0+3) fun aG=>e (aD,aE,aF,aG,()) l) d c) (
 Yq (f ==116) fun aH =>
 Zy aH (
 p b (ByteArray.mk #[116,114,117,101]) 3 (fun aI aJ =>
 sts aJ a 0 (vCl aI) fun m =>
 ldI m a 0 .u8 fun aK=>ldS m a (0+1) fun aL=>ldL m a (0+2) fun aM=>ldL m a (0+3) fun aN=>e (aK,aL,aM,aN,()) m) d c) (
 Zy (f ==45) (
 t b (fun aO aP =>
 sts aP a 0 (vCl aO) fun n =>
 ldI n a 0 .u8 fun aQ=>ldS n a (0+1) fun aR=>ldL n a (0+2) fun aS=>ldL n a (0+3) fun aT=>e (aQ,aR,aS,aT,()) n) d c) (
 Zy (decide (f>=48)) (
 Yq (decide (f<=57)) fun aU =>
 Zy aU (
 t b (fun aV aW =>
 sts aW a 0 (vCl aV) fun o =>
 ldI o a 0 .u8 fun aX=>ldS o a (0+1) fun aY=>ldL o a (0+2) fun aZ=>ldL o a (0+3) fun ba=>e (aX,aY,aZ,ba,()) o) d c) (
 q (()) c)) (
 q (()) c)))))))))) B)) A
def ZbM (f20:Zpv):Zpv:=ZdP Z7 Zx Zp (Xe f20) XR Za7 XX
def XK:Nat->Zpv
 | 0=>fun _ _ _ _ _=>False
 | n+1=>ZbM (XK n)
def ZbQ:Zpv:=fun r deep K P h=>∃ n,XK n r deep K P h
abbrev zV:List Value:=v0C
def ZHx (k l m:Nat) (e n:Int) (E:HP) (h:Zc):Prop :=
 Zo2 (.iface 160 (.agg #[.int .i64 e,.int .i64 n])) fun b=>Zy b (E h) (Zy true (
 newC h [.int .i64 0,.int .i64 0] 160 fun a p=>sts p a 0 [.int .i64 e,.int .i64 n] fun c =>
 ldI c a 0 .i64 fun t=>ldI c a (0+1) .i64 fun t4 =>
 Ze (some ⟨k,0,none⟩) fun q o=>sts c q o zV fun d=>Y9 (Yb d [(a,0+1,.int .i64 t4)]) <| Y9 (Yb d [(a,0,.int .i64 t)]) <|
 Ze (some ⟨l,0,none⟩) fun r s=>st d r s (.int .i64 t) fun j=>Y9 (Yb j [(a,0+1,.int .i64 t4)]) <|
 Ze (some ⟨m,0,none⟩) fun f g=>st j f g (.int .i64 t4) fun i=>E i) False)
def Zi9 (b a c:Nat) (K:(vTy)->Int->Int->HP) (h:Zc):Prop :=
 ldI h b 0 .u8 fun t=>ldS h b (0+1) fun t9=>ldL h b (0+2) fun t10=>ldL h b (0+3) fun t11=>ldI h a 0 .i64 fun t12=>ldI h c 0 .i64 fun t13=>K (t,t9,t10,t11,()) t12 t13 h
def ZdG (b a c:Nat) (K:(vTy)->Int->Int->HP) (v:Value) (h:Zc):Prop :=
 ∃ e n,v = .iface 160 (.agg #[.int .i64 e,.int .i64 n])/\ZHx b a c e n (Zi9 b a c K) h
def ZjO (b e f:Nat) (K:(vTy)->Int->Int->HP) (h:Zc):Prop :=
 ldI h b 0 .u8 fun t36=>ldS h b (0+1) fun t37=>ldL h b (0+2) fun t38=>ldL h b (0+3) fun t39 =>
 sts h b 0 [.int .u8 t36,.string t37,slv t38,slv t39] fun a =>
 st a e 0 (.int .i64 0) fun c=>st c f 0 (.int .i64 0) fun d=>Zi9 b e f K d
def ZaH (s:ByteArray) (K:(vTy)->Int->Int->HP) (h:Zc):Prop :=
 newC h zV 33 fun b k=>newC k [.int .i64 0] 37 fun d l=>newC l [.int .i64 0] 3 fun e j =>
 Zy (decide ((s.size:Int)>65536)) (
 sts j b 0 zV fun m=>st m d 0 (.int .i64 5) fun n=>st n e 0 (.int .i64 65536) fun o=>Zi9 b d e K o) (
 newC j [.string s,.int .i64 0] 163 fun a f =>
 ZbQ (some ⟨a,0,none⟩) 0 (fun t16 g =>
 sts g b 0 (vCl t16) fun i =>
 Z7 (some ⟨a,0,none⟩) (fun c =>
 ldI c a (0+1) .i64 fun t20=>Zy (decide (t20<(s.size:Int))) (
 ldI c a (0+1) .i64 fun t21=>Zp (some ⟨a,0,none⟩) 25 t21 (ZjO b d e K) (ZdG b d e K) c) (ZjO b d e K c)) i) (ZdG b d e K) f)
abbrev ZD9:=ByteArray->((vTy)->Int->Int->HP)->HP
def Zgi (e:ZD9) (d:ByteArray) (b:Bool->HP) (f:Zc):Prop :=
 e d (fun g h i j =>
 newC j v0C 33 fun c k =>
 sts k c 0 (vCl g) fun a =>
 Zi h fun l =>
 Zi i fun p =>
 Zy (l ==0) (
 ldI a c 0 .u8 fun m =>
 Zy (m ==4) (
 ldS a c (0+1) fun n =>
 Yq (ZcC n d) fun o =>
 b o a) (
 b false a)) (
 b false a)) f
def ZcL:Zhu:=Zgi ZaH
def Zg5 (a:Zhu) (b:ByteArray) (c:Bool->HP) (d:Zc):Prop :=
 a b (fun e f =>
 Yq (!e) fun g =>
 c g f) d
def ZeY:Zhu:=Zg5 Z8
abbrev ZsK:=Sl->(Int->HP)->HP
def YI (g:Zhu) (a:Sl) (d:Int->HP) (h:Zc):Prop :=
 Zi 0 fun q =>
 Zau (σ:=Int × Unit) (fun i j b =>
 (fun (c:Int) =>
 Zy (decide (c<(a.len:Int))) (
 Zi c fun e =>
 Zdb a.ptr a.len e 1 fun k l =>
 ldS b k l fun m =>
 g m (fun n f =>
 Zy n (
 Zi e fun o =>
 d o f) (
 i (IntKind.wrap .i64 (c+1),()) f)) b) (
 Zi (-1) fun p =>
 d p b)) j.1) (0,()) h
def Yn:ZsK:=YI ZeY
abbrev Zl1:=Sl->(Bool->HP)->HP
def YC (a:ZsK) (b:Sl) (c:Bool->HP) (d:Zc):Prop :=
 a b (fun e f =>
 Yq (decide (e>=0)) fun g =>
 c g f) d
def ZQ:Zl1:=YC Yn
abbrev ZsJ:=(vTy)->(Bool->HP)->HP
def ZiH (n:Zhu) (o:Zhu) (p:Zl1) (q:vTy) (b:Bool->HP) (r:Zc):Prop :=
 newC r (vCl q) 33 fun c d =>
 ldS d c (0+1) fun s =>
 ldL d c (0+2) fun t =>
 ldL d c (0+3) fun u =>
 Yq (!(ZcC s e0B)) fun g =>
 Yq (decide ((t.len:Int)>0)) fun h =>
 Yq (decide ((u.len:Int)>0)) fun f =>
 ldI d c 0 .u8 fun e =>
 Zgq (σ:=Bool × Unit) (fun v a =>
 (fun (w:Bool) =>
 Zy w (
 Zy (!g) (
 Zy (!h) (
 Yq (!f) fun x =>
 b x a) (
 b false a)) (
 b false a)) (
 Yq (e ==4) fun y =>
 Zy y (
 ldS a c (0+1) fun z =>
 n z (fun A i =>
 Zy A (
 Zy (!h) (
 Yq (!f) fun B =>
 b B i) (
 b false i)) (
 b false i)) a) (
 Yq (e ==5) fun C =>
 Zy C (
 ldS a c (0+1) fun D =>
 o D (fun E j =>
 Zy E (
 Zy (!h) (
 Yq (!f) fun F =>
 b F j) (
 b false j)) (
 b false j)) a) (
 Yq (e ==6) fun G =>
 Zy G (
 Zy (!g) (
 Yq (!f) fun H =>
 b H a) (
 b false a)) (
 Yq (e ==7) fun I =>
 Zy I (
 Zy (!g) (
 ldL a c (0+3) fun J =>
 ldL a c (0+2) fun K =>
 Zy ((J.len:Int) ==(K.len:Int)) (
 ldL a c (0+3) fun L =>
 p L (fun M N =>
 Yq (!M) fun O =>
 b O N) a) (
 b false a)) (
 b false a)) (
 b false a)))))) v.1) (fun k =>
 Yq (e ==1) fun l =>
 Zy l (
 k (l,()) d) (
 Yq (e ==2) fun m =>
 Zy m (
 k (m,()) d) (
 Yq (e ==3) fun P =>
 k (P,()) d)))
def Ze6:ZsJ:=ZiH ZcL Z8 ZQ
def Zg6 (a:vTy) (b:Bool->HP) (c:Zc):Prop :=
 newC c (vCl a) 33 fun e d =>
 b true d
def ZeZ:ZsJ:=Zg6
abbrev Zoc:=oA->(vTy)->Int->Value->(Bool->HP)->HP
abbrev ZF9:=(vTy)->oA->oA->oA->(Bool->HP)->HP
def ZdR (c:Zoc) (d:vTy) (e:oA) (f:oA) (g:oA) (h:Bool->HP) (i:Zc):Prop :=
 newC i (vCl d) 33 fun b a =>
 Ze e fun j k=>ldP a j k fun l =>
 ldI a b 0 .u8 fun m=>ldS a b (0+1) fun n=>ldL a b (0+2) fun o=>ldL a b (0+3) fun p =>
 Ze f fun q r=>ldI a q r .i64 fun s =>
 Ze g fun t u=>ldV a t u fun v =>
 c l (m,n,o,p,()) (IntKind.wrap .i64 (s+1)) v (fun w x =>
 Yq (!w) fun y =>
 h y x) a
def ZbN (f53:Zoc):ZF9:=ZdR f53
abbrev ZF8:=Sl->(oA × oA × oA × Unit)->(Int->HP)->HP
def Yo (j:ZF9) (d:Sl) (e:oA × oA × oA × Unit) (g:Int->HP) (k:Zc):Prop :=
 Zi 0 fun u =>
 Zau (σ:=Int × Unit) (fun l m a =>
 (fun (f:Int) =>
 Zy (decide (f<(d.len:Int))) (
 Zi f fun h =>
 Zdb d.ptr d.len h 4 fun b c =>
 ldI a b c .u8 fun n=>ldS a b (c+1) fun o=>ldL a b (c+2) fun p=>ldL a b (c+3) fun q =>
 j (n,o,p,q,()) e.1 e.2.1 e.2.2.1 (fun r i =>
 Zy r (
 Zi h fun s =>
 g s i) (
 l (IntKind.wrap .i64 (f+1),()) i)) a) (
 Zi (-1) fun t =>
 g t a)) m.1) (0,()) k
def ZS (f53:Zoc):ZF8:=Yo (ZbN f53)
abbrev ZF7:=Sl->(oA × oA × oA × Unit)->(Bool->HP)->HP
def Yk (b:ZF8) (c:Sl) (a:oA × oA × oA × Unit) (d:Bool->HP) (e:Zc):Prop :=
 b c (a.1,a.2.1,a.2.2.1,()) (fun f g =>
 Yq (decide (f>=0)) fun h =>
 d h g) e
def Zz (f53:Zoc):ZF7:=Yk (ZS f53)
def ZeO (J:ZsJ) (K:ZsJ) (B:ZF7) (L:oA) (M:vTy) (N:Int) (C:Value) (e:Bool->HP) (O:Zc):Prop :=
 newC O [.pointer L] 155 fun g P =>
 newC P (vCl M) 33 fun c Q =>
 newC Q [.int .i64 N] 3 fun h R =>
 Y9 (Ye C=true) <| newC R [C] 45 fun j k =>
 ldP k g 0 fun D =>
 Ze D fun S T =>
 ldI k S T .i64 fun U =>
 Ze D fun V W =>
 st k V W (.int .i64 (IntKind.wrap .i64 (U+1))) fun d =>
 ldP d g 0 fun X =>
 Ze X fun Y Z =>
 ldI d Y Z .i64 fun aa =>
 Zy (decide (aa>65536)) (
 e false d) (
 ldV d j 0 fun E =>
 ldI d c 0 .u8 fun F=>ldS d c (0+1) fun G=>ldL d c (0+2) fun H=>ldL d c (0+3) fun I =>
 (ZND E 94 <| J (F,G,H,I,()) (fun l a =>
 Zy (!l) (
 e false a) (
 Zgq (σ:=Unit) (fun ab b =>
 ldP b g 0 fun m =>
 ldP b g 0 fun n =>
 Ze n fun o p =>
 ldI b o (p+1) .i64 fun q =>
 ldI b h 0 .i64 fun r =>
 Ze m fun s t =>
 st b s (t+1) (.int .i64 (ZCm q (IntKind.wrap .i64 (r+1)))) fun f =>
 ldI f h 0 .i64 fun u =>
 Zy (decide (u>=64)) (
 e true f) (
 ldL f c (0+2) fun v =>
 B v (some ⟨g,0,none⟩,some ⟨h,0,none⟩,some ⟨j,0,none⟩,()) (fun w x =>
 Yq (!w) fun y =>
 e y x) f)) (fun i =>
 ldI a c 0 .u8 fun z =>
 Zy (z !=6) (
 ldI a c 0 .u8 fun A =>
 Zy (A !=7) (
 e true a) (
 i (()) a)) (
 i (()) a)))) d)\/(
 (ZND E 119 <| K (F,G,H,I,()) (fun l a =>
 Zy (!l) (
 e false a) (
 Zgq (σ:=Unit) (fun ab b =>
 ldP b g 0 fun m =>
 ldP b g 0 fun n =>
 Ze n fun o p =>
 ldI b o (p+1) .i64 fun q =>
 ldI b h 0 .i64 fun r =>
 Ze m fun s t =>
 st b s (t+1) (.int .i64 (ZCm q (IntKind.wrap .i64 (r+1)))) fun f =>
 ldI f h 0 .i64 fun u =>
 Zy (decide (u>=64)) (
 e true f) (
 ldL f c (0+2) fun v =>
 B v (some ⟨g,0,none⟩,some ⟨h,0,none⟩,some ⟨j,0,none⟩,()) (fun w x =>
 Yq (!w) fun y =>
 e y x) f)) (fun i =>
 ldI a c 0 .u8 fun z =>
 Zy (z !=6) (
 ldI a c 0 .u8 fun A =>
 Zy (A !=7) (
 e true a) (
 i (()) a)) (
 i (()) a)))) d)\/(
 False)))
def Zc3 (f53:Zoc):Zoc:=ZeO Ze6 ZeZ (Zz f53)
def Zae:Nat->Zoc
 | 0=>fun _ _ _ _ _ _=>False
 | n+1=>Zc3 (Zae n)
def ZeG:Zoc:=fun c v deep right K h=>∃ n,Zae n c v deep right K h
def ZiI (f:Zoc) (g:vTy) (d:Bool->HP) (h:Zc):Prop :=
 newC h (vCl g) 33 fun b i =>
 newC i [.int .i64 0,.int .i64 0] 157 fun e a =>
 ldI a b 0 .u8 fun j=>ldS a b (0+1) fun k=>ldL a b (0+2) fun l=>ldL a b (0+3) fun m =>
 f (some ⟨e,0,none⟩) (j,k,l,m,()) 0 (.func (.func 94) #[] #[]) (fun n c =>
 Zy n (
 ldI c e (0+1) .i64 fun o =>
 Yq (decide (o<=64)) fun p =>
 d p c) (
 d false c)) a
def Ze7:ZsJ:=ZiI ZeG
def ZcN (b:oA) (c:Int->HP) (a:Zc):Prop :=
 Zi 0 fun h =>
 Ze b fun d e =>
 ldL a d (e+1) fun f =>
 Zi (f.len:Int) fun g =>
 c g a
def Xh:zT2:=ZcN
abbrev ZF6:=oA->ByteArray->(HP)->HP
def Zeo (b:zT6) (l:zT0) (m:Zw8) (a:oA) (g:ByteArray) (n:HP) (o:Zc):Prop :=
 Ze a fun p q =>
 b (some ⟨p,q,none⟩) 34 (fun af r =>
 Zau (σ:=Int × Unit) (fun e s h =>
 (fun (d:Int) =>
 Zy (decide (d<(g.size:Int))) (
 Zi d fun t =>
 ZwE g t fun u =>
 Zi u fun c =>
 l (ByteArray.mk #[8,12,10,13,9]) c (fun v i =>
 Zi v fun j =>
 Zgq (σ:=Bool × Unit) (fun w f =>
 (fun (x:Bool) =>
 Zy x (
 Ze a fun y z =>
 b (some ⟨y,z,none⟩) 92 (fun ag A =>
 Ze a fun B C =>
 b (some ⟨B,C,none⟩) c (fun ah D =>
 e (IntKind.wrap .i64 (d+1),()) D) A) f) (
 Yq (decide (j>=0)) fun E =>
 Zy E (
 Ze a fun F G =>
 b (some ⟨F,G,none⟩) 92 (fun ai H =>
 Ze a fun I J =>
 ZwE (ByteArray.mk #[98,102,110,114,116]) j fun K =>
 b (some ⟨I,J,none⟩) K (fun aj L =>
 e (IntKind.wrap .i64 (d+1),()) L) H) f) (
 Yq (decide (c<32)) fun M =>
 Zy M (
 Ze a fun N O =>
 m (some ⟨N,O,none⟩) (ByteArray.mk #[92,117,48,48]) (fun ak al P =>
 Ze a fun Q R =>
 Y9 (0<=(4:Int)) <|
 ZwE (ByteArray.mk #[48,49,50,51,52,53,54,55,56,57,97,98,99,100,101,102]) (ZvH .u8 c 4) fun S =>
 b (some ⟨Q,R,none⟩) S (fun am T =>
 Ze a fun U V =>
 ZwE (ByteArray.mk #[48,49,50,51,52,53,54,55,56,57,97,98,99,100,101,102]) (Zvm .u8 c 15) fun W =>
 b (some ⟨U,V,none⟩) W (fun an X =>
 e (IntKind.wrap .i64 (d+1),()) X) T) P) f) (
 Ze a fun Y Z =>
 b (some ⟨Y,Z,none⟩) c (fun ao aa =>
 e (IntKind.wrap .i64 (d+1),()) aa) f)))) w.1) (fun k =>
 Zy (c ==34) (
 k (true,()) i) (
 Yq (c ==92) fun ab =>
 k (ab,()) i))) h) (
 Ze a fun ac ad =>
 b (some ⟨ac,ad,none⟩) 34 (fun ap ae =>
 n ae) h)) s.1) (0,()) r) o
def Za6:ZF6:=Zeo ZB Xf ZA
abbrev ZtY:=oA->(vTy)->(HP)->HP
def ZdO (y:zT2) (j:Zw8) (p:ZF6) (k:zT6) (z:ZtY) (a:oA) (A:vTy) (c:HP) (B:Zc):Prop :=
 newC B (vCl A) 33 fun d C =>
 Ze a fun D E =>
 y (some ⟨D,E,none⟩) (fun F b =>
 Zy (decide (F>65536)) (
 c b) (
 ldI b d 0 .u8 fun f =>
 Yq (f ==1) fun G =>
 Zy G (
 Ze a fun H I =>
 j (some ⟨H,I,none⟩) (ByteArray.mk #[110,117,108,108]) (fun aJ aK J =>
 c J) b) (
 Yq (f ==2) fun K =>
 Zy K (
 Ze a fun L M =>
 j (some ⟨L,M,none⟩) (ByteArray.mk #[102,97,108,115,101]) (fun aL aM N =>
 c N) b) (
 Yq (f ==3) fun O =>
 Zy O (
 Ze a fun P Q =>
 j (some ⟨P,Q,none⟩) (ByteArray.mk #[116,114,117,101]) (fun aN aO R =>
 c R) b) (
 Yq (f ==4) fun S =>
 Zy S (
 Ze a fun T U =>
 ldS b d (0+1) fun V =>
 j (some ⟨T,U,none⟩) V (fun aP aQ W =>
 c W) b) (
 Yq (f ==5) fun X =>
 Zy X (
 ldS b d (0+1) fun Y =>
 p a Y (fun Z =>
 c Z) b) (
 Zgq (σ:=ByteArray × Unit) (fun aa ab =>
 (fun (q:ByteArray) =>
 Ze a fun ac ad =>
 ZwE q 0 fun ae =>
 k (some ⟨ac,ad,none⟩) ae (fun aR r =>
 ldL r d (0+2) fun o =>
 Zau (σ:=Int × Unit) (fun af ag e =>
 (fun (l:Int) =>
 Zy (decide (l<(o.len:Int))) (
 Zdb o.ptr o.len l 4 fun m n =>
 ldI e m n .u8 fun ah=>ldS e m (n+1) fun ai=>ldL e m (n+2) fun aj=>ldL e m (n+3) fun ak =>
 newC e v0C 33 fun g al =>
 Zi l fun s =>
 sts al g 0 [.int .u8 ah,.string ai,slv aj,slv ak] fun t =>
 Zgq (σ:=Unit) (fun aS h =>
 Zgq (σ:=Unit) (fun aT i =>
 ldI i g 0 .u8 fun am=>ldS i g (0+1) fun an=>ldL i g (0+2) fun ao=>ldL i g (0+3) fun ap =>
 z a (am,an,ao,ap,()) (fun aq =>
 af (IntKind.wrap .i64 (l+1),()) aq) i) (fun u =>
 ldI h d 0 .u8 fun ar =>
 Zy (ar ==7) (
 ldL h d (0+3) fun v =>
 Zdb v.ptr v.len s 1 fun au av =>
 ldS h au av fun aw =>
 p a aw (fun ax =>
 Ze a fun ay az =>
 k (some ⟨ay,az,none⟩) 58 (fun aU aA =>
 u (()) aA) ax) h) (
 u (()) h))) (fun w =>
 Zy (decide (s>0)) (
 Ze a fun aB aC =>
 k (some ⟨aB,aC,none⟩) 44 (fun aV aD =>
 w (()) aD) t) (
 w (()) t))) (
 Ze a fun aE aF =>
 ZwE q 1 fun aG =>
 k (some ⟨aE,aF,none⟩) aG (fun aW aH =>
 c aH) e)) ag.1) (0,()) r) ab) aa.1) (fun x =>
 ldI b d 0 .u8 fun aI =>
 Zy (aI ==7) (
 x (ByteArray.mk #[123,125],()) b) (
 x (ByteArray.mk #[91,93],()) b))))))))) C
def ZbL (f60:ZtY):ZtY:=ZdO Xh ZA Za6 ZB f60
def XJ:Nat->ZtY
 | 0=>fun _ _ _ _=>False
 | n+1=>ZbL (XJ n)
def ZdL:ZtY:=fun w v K h=>∃ n,XJ n w v K h
abbrev ZF5:=(vTy)->(ByteArray->Int->HP)->HP
def ZiJ (h:ZsJ) (i:ZtY) (j:zT2) (k:zT4) (l:vTy) (d:ByteArray->Int->HP) (m:Zc):Prop :=
 newC m (vCl l) 33 fun a b =>
 Zi 0 fun D =>
 ldI b a 0 .u8 fun n=>ldS b a (0+1) fun o=>ldL b a (0+2) fun p=>ldL b a (0+3) fun q =>
 h (n,o,p,q,()) (fun r f =>
 Zy (!r) (
 Zi 6 fun s =>
 d e0B s f) (
 newC f [.pointer none,n0V] 190 fun e c =>
 ldI c a 0 .u8 fun t=>ldS c a (0+1) fun u=>ldL c a (0+2) fun v=>ldL c a (0+3) fun w =>
 i (some ⟨e,0,none⟩) (t,u,v,w,()) (fun x =>
 j (some ⟨e,0,none⟩) (fun y g =>
 Zy (decide (y>65536)) (
 Zi 5 fun z =>
 d e0B z g) (
 k (some ⟨e,0,none⟩) (fun A B =>
 Zi 0 fun C =>
 d A C B) g)) x) c)) b
def Ze8:ZF5:=ZiJ Ze7 ZdL Xh Xb
abbrev ZFA:=Int->(ByteArray->HP)->HP
abbrev ZF4:=Int->((vTy)->HP)->HP
def ZiK (c:ZFA) (d:Int) (e:(vTy)->HP) (f:Zc):Prop :=
 newC f v0C 33 fun a g =>
 c d (fun h i =>
 sts i a 0 [.int .u8 4,.string h,n0V,n0V] fun b =>
 ldI b a 0 .u8 fun j=>ldS b a (0+1) fun k=>ldL b a (0+2) fun l=>ldL b a (0+3) fun m=>e (j,k,l,m,()) b) g
def Ze9:ZF4:=ZiK Zdq
abbrev ZNi:=ByteArray->(Int->Value->HP)->HP
abbrev ZwM:=ByteArray->((vTy)->HP)->HP
def ZhZ (c:ByteArray) (d:(vTy)->HP) (e:Zc):Prop :=
 newC e v0C 33 fun a f =>
 sts f a 0 [.int .u8 5,.string c,n0V,n0V] fun b =>
 ldI b a 0 .u8 fun g=>ldS b a (0+1) fun h=>ldL b a (0+2) fun i=>ldL b a (0+3) fun j=>d (g,h,i,j,()) b
def ZaF:ZwM:=ZhZ
abbrev ZfR:=(oA->HP)->HP
def Zem (a:oA->HP) (b:Zc):Prop :=
 newC b [.int .u8 7,.string e0B,n0V,n0V] 88 fun c d =>
 a (some ⟨c,0,none⟩) d
def ZV:ZfR:=Zem
abbrev ZkK:=Sl->(Sl->HP)->HP
def Zav (a:Sl) (b:Sl->HP) (c:Zc):Prop :=
 Zy a.ptr.isNone (
 b n0S c) (
 newC c [] 9 fun e d =>
 rdS a 1 d fun f=>app 9 1 16 [.string e0B] ⟨some ⟨e,0,none⟩,0,0⟩ a.len f d fun g h =>
 b g h)
def Yr:ZkK:=Zav
def XE (a:Sl) (b:Sl->HP) (c:Zc):Prop :=
 Zy a.ptr.isNone (
 b n0S c) (
 newC c [] 33 fun e d =>
 rdS a 4 d fun f=>app 33 4 72 v0C ⟨some ⟨e,0,none⟩,0,0⟩ a.len f d fun g h =>
 b g h)
def Yy:ZkK:=XE
abbrev Zjg:=(vTy)->((vTy)->HP)->HP
def ZhX (z:ZkK) (F:Zjg) (G:vTy) (H:(vTy)->HP) (I:Zc):Prop :=
 newC I (vCl G) 33 fun a J =>
 newC J v0C 33 fun f g =>
 Zgq (σ:=oA × Unit) (fun K A =>
 (fun (o:oA) =>
 ldL A a (0+2) fun p =>
 Zau (σ:=Int × Unit) (fun L M b =>
 (fun (q:Int) =>
 Zy (decide (q<(p.len:Int))) (
 Zdb p.ptr p.len q 4 fun j k =>
 ldI b j k .u8 fun N=>ldS b j (k+1) fun O=>ldL b j (k+2) fun P=>ldL b j (k+3) fun Q =>
 newC b v0C 33 fun h R =>
 sts R h 0 [.int .u8 N,.string O,slv P,slv Q] fun c =>
 Ze o fun r s =>
 ldL c r (s+2) fun t =>
 ldI c h 0 .u8 fun S=>ldS c h (0+1) fun T=>ldL c h (0+2) fun U=>ldL c h (0+3) fun V =>
 F (S,T,U,V,()) (fun W B =>
 Y9 (Yb B [(r,s+2,slv t)]) <|
 newC B (vCl W) 33 fun X u =>
 Y9 (Yb u [(r,s+2,slv t)]) <|
 rdS ⟨some ⟨X,0,none⟩,1,1⟩ 4 u fun Y=>app 33 4 72 v0C t 1 Y u fun Z aa =>
 Ze o fun ab ac =>
 st aa ab (ac+2) (slv Z) fun ad =>
 L (IntKind.wrap .i64 (q+1),()) ad) c) (
 Ze o fun l m=>ldI b l m .u8 fun ae=>ldS b l (m+1) fun af=>ldL b l (m+2) fun ag=>ldL b l (m+3) fun ah =>
 sts b f 0 [.int .u8 ae,.string af,slv ag,slv ah] fun i =>
 ldI i f 0 .u8 fun ai=>ldS i f (0+1) fun aj=>ldL i f (0+2) fun ak=>ldL i f (0+3) fun al=>H (ai,aj,ak,al,()) i)) M.1) (0,()) A) K.1) (fun C =>
 ldI g a 0 .u8 fun d =>
 ldS g a (0+1) fun e =>
 ldL g a (0+3) fun v =>
 Zsx (
 z v (fun am w =>
 Y9 (Yb w [(a,0+1,.string e)]) <|
 Y9 (Yb w [(a,0,.int .u8 d)]) <|
 newC w v0C 33 fun D x =>
 Y9 (Yb x [(a,0+1,.string e)]) <|
 Y9 (Yb x [(a,0,.int .u8 d)]) <|
 sts x D 0 [.int .u8 d,.string e,n0V,slv am] fun an =>
 C (some ⟨D,0,none⟩,()) an) g) (
 newC g v0C 33 fun E n =>
 ndL n a (0+3) v <|
 Y9 (Yb n [(a,0+1,.string e)]) <|
 Y9 (Yb n [(a,0,.int .u8 d)]) <|
 z v (fun ao y =>
 Y9 (Yb y [(a,0+1,.string e)]) <|
 Y9 (Yb y [(a,0,.int .u8 d)]) <|
 sts y E 0 [.int .u8 d,.string e,n0V,slv ao] fun ap =>
 C (some ⟨E,0,none⟩,()) ap) n))
def ZfB (f126:Zjg):Zjg:=ZhX Yr f126
def Zbu:Nat->Zjg
 | 0=>fun _ _ _=>False
 | n+1=>ZfB (Zbu n)
def ZbR:Zjg:=fun v K h=>∃ n,Zbu n v K h
abbrev Zxh:=(vTy)->ByteArray->(vTy)->((vTy)->HP)->HP
def Zle (P:ZkK) (H:ZkK) (Q:Zjg) (R:vTy) (S:ByteArray) (T:vTy) (U:(vTy)->HP) (V:Zc):Prop :=
 newC V (vCl R) 33 fun a W =>
 newC W (vCl T) 33 fun h X =>
 newC X v0C 33 fun i w =>
 Zgq (σ:=Unit) (fun aK x =>
 ldS x a (0+1) fun e =>
 ldL x a (0+3) fun f =>
 Zz6 (σ:=Sl × Sl × Sl × (vTy) × oA × Unit) (fun j b k c =>
 (fun (l:Sl) (g:Sl) (m:Sl) (r:vTy) (s:oA) =>
 (b 4=false->(
 P f (fun Y I =>
 Y9 (Yb I [(a,0+1,.string e)]) <|
 j (XU b 4) (Y,g,m,r,s,()) I) c)) /\
 (b 6=false->(
 newC c [.string S] 9 fun Z y =>
 ndL y a (0+3) f <|
 Y9 (Yb y [(a,0+1,.string e)]) <|
 j (XU b 6) (l,⟨some ⟨Z,0,none⟩,1,1⟩,m,r,s,()) y)) /\
 (b 7=false->b 4=true->b 6=true->b 4=true->(
 rdS g 1 c fun aa=>app 9 1 16 [.string e0B] l g.len aa c fun ab z =>
 ndL z a (0+3) f <|
 Y9 (Yb z [(a,0+1,.string e)]) <|
 j (XU b 7) (l,g,ab,r,s,()) z)) /\
 (b 8=false->b 7=true->(
 ndL c a (0+3) f <|
 j (XU b 8) (l,g,m,(7,e,n0S,m,()),s,()) c)) /\
 (b 9=false->(
 newC c v0C 33 fun ac A =>
 ndL A a (0+3) f <|
 Y9 (Yb A [(a,0+1,.string e)]) <|
 j (XU b 9) (l,g,m,r,some ⟨ac,0,none⟩,()) A))/\True) k.1 k.2.1 k.2.2.1 k.2.2.2.1 k.2.2.2.2.1) (fun n o B =>
 (fun (aL:Sl) (aM:Sl) (aN:Sl) (ad:vTy) (t:oA) =>
 n 4=true->n 6=true->n 7=true->n 8=true->n 9=true->(
 ndL B a (0+3) f <|
 Y9 (Yb B [(a,0+1,.string e)]) <|
 Ze t fun ae af=>sts B ae af (vCl ad) fun d =>
 Zgq (σ:=Unit) (fun aO p =>
 Ze t fun u v=>ldI p u v .u8 fun ag=>ldS p u (v+1) fun ah=>ldL p u (v+2) fun ai=>ldL p u (v+3) fun aj =>
 Q (ag,ah,ai,aj,()) (fun ak al =>
 sts al i 0 (vCl ak) fun q =>
 ldI q i 0 .u8 fun am=>ldS q i (0+1) fun an=>ldL q i (0+2) fun ao=>ldL q i (0+3) fun ap=>U (am,an,ao,ap,()) q) p) (fun J =>
 ldL d a (0+2) fun C =>
 ldI d h 0 .u8 fun D=>ldS d h (0+1) fun E=>ldL d h (0+2) fun F=>ldL d h (0+3) fun G =>
 Zsx (
 H C (fun aq K =>
 ndV K h D E F G <|
 newC K [.int .u8 D,.string E,slv F,slv G] 33 fun ar L =>
 rdS ⟨some ⟨ar,0,none⟩,1,1⟩ 4 L fun au=>app 33 4 72 v0C aq 1 au L fun av aw =>
 Ze t fun ax ay =>
 st aw ax (ay+2) (slv av) fun az =>
 J (()) az) d) (
 newC d [.int .u8 D,.string E,slv F,slv G] 33 fun aA M =>
 ndL M a (0+2) C <|
 H C (fun aB N =>
 rdS ⟨some ⟨aA,0,none⟩,1,1⟩ 4 N fun aC=>app 33 4 72 v0C aB 1 aC N fun aD aE =>
 Ze t fun aF aG =>
 st aE aF (aG+2) (slv aD) fun aH =>
 J (()) aH) M)))) o.1 o.2.1 o.2.2.1 o.2.2.2.1 o.2.2.2.2.1) x) (fun O =>
 ldI w a 0 .u8 fun aI =>
 Zy (aI !=7) (
 sts w a 0 [.int .u8 7,.string e0B,n0V,n0V] fun aJ =>
 O (()) aJ) (
 O (()) w))
def Zhj:Zxh:=Zle Yr Yy ZbR
abbrev ZfQ:=oA->ByteArray->(vTy)->(oA->HP)->HP
def ZcU (f:Zxh) (e:oA) (g:ByteArray) (h:vTy) (i:oA->HP) (j:Zc):Prop :=
 newC j (vCl h) 33 fun b a =>
 Ze e fun c d =>
 ldI a c d .u8 fun k=>ldS a c (d+1) fun l=>ldL a c (d+2) fun m=>ldL a c (d+3) fun n =>
 ldI a b 0 .u8 fun o=>ldS a b (0+1) fun p=>ldL a b (0+2) fun q=>ldL a b (0+3) fun r =>
 f (k,l,m,n,()) g (o,p,q,r,()) (fun s t =>
 Ze e fun u v =>
 sts t u v (vCl s) fun w =>
 i e w) a
def ZC:ZfQ:=ZcU Zhj
abbrev Zij:=oA->ByteArray->ByteArray->(oA->HP)->HP
def Zci (b:ZwM) (c:ZfQ) (d:oA) (e:ByteArray) (f:ByteArray) (g:oA->HP) (h:Zc):Prop :=
 b f (fun a i =>
 c d e (a.1,a.2.1,⟨a.2.2.1.ptr,a.2.2.1.len,a.2.2.1.cap⟩,⟨a.2.2.2.1.ptr,a.2.2.2.1.len,a.2.2.2.1.cap⟩,()) (fun j k =>
 g j k) i) h
def ZX:Zij:=Zci ZaF ZC
abbrev Zq6:=Bool->((vTy)->HP)->HP
def Zfp (f:Bool) (d:(vTy)->HP) (g:Zc):Prop :=
 newC g v0C 33 fun a e =>
 Zy f (
 sts e a 0 [.int .u8 3,.string e0B,n0V,n0V] fun b =>
 ldI b a 0 .u8 fun h=>ldS b a (0+1) fun i=>ldL b a (0+2) fun j=>ldL b a (0+3) fun k=>d (h,i,j,k,()) b) (
 sts e a 0 [.int .u8 2,.string e0B,n0V,n0V] fun c =>
 ldI c a 0 .u8 fun l=>ldS c a (0+1) fun m=>ldL c a (0+2) fun n=>ldL c a (0+3) fun o=>d (l,m,n,o,()) c)
def Zat:Zq6:=Zfp
abbrev Zii:=oA->ByteArray->Int->(oA->HP)->HP
def ZbB (b:ZF4) (c:ZfQ) (d:oA) (e:ByteArray) (f:Int) (g:oA->HP) (h:Zc):Prop :=
 b f (fun a i =>
 c d e (a.1,a.2.1,⟨a.2.2.1.ptr,a.2.2.1.len,a.2.2.1.cap⟩,⟨a.2.2.2.1.ptr,a.2.2.2.1.len,a.2.2.2.1.cap⟩,()) (fun j k =>
 g j k) i) h
def ZL:Zii:=ZbB Ze9 ZC
abbrev Zfz:=(Sl->HP)->HP
def ZcS (a:Sl->HP) (b:Zc):Prop :=
 newC b [.string (ByteArray.mk #[100,105,114,101,99,116]),.string (ByteArray.mk #[114,101,108,97,116,101]),.string (ByteArray.mk #[99,104,97,105,110])] 9 fun c d =>
 a ⟨some ⟨c,0,none⟩,3,3⟩ d
def Xk:Zfz:=ZcS
abbrev Zq5:=Sl->Int->((vTy)->HP)->HP
def ZcR (h:ZwM) (c:Sl) (d:Int) (i:(vTy)->HP) (j:Zc):Prop :=
 newC j v0C 33 fun a e =>
 Zgq (σ:=Int × Unit) (fun k f =>
 (fun (l:Int) =>
 Zdb c.ptr c.len l 1 fun m n =>
 ldS f m n fun o =>
 h o (fun p q =>
 sts q a 0 (vCl p) fun b =>
 ldI b a 0 .u8 fun r=>ldS b a (0+1) fun s=>ldL b a (0+2) fun t=>ldL b a (0+3) fun u=>i (r,s,t,u,()) b) f) k.1) (fun g =>
 Zy (decide ((IntKind.wrap .i64 d)>=(c.len:Int))) (
 Zi 0 fun v =>
 g (v,()) e) (
 g (d,()) e))
def Xj:Zq5:=ZcR ZaF
def ZeI (a:Sl->HP) (b:Zc):Prop :=
 newC b [.string (ByteArray.mk #[114,101,106,101,99,116]),.string (ByteArray.mk #[119,97,114,109,117,112]),.string (ByteArray.mk #[112,97,99,101]),.string (ByteArray.mk #[119,97,114,109,112,97,99,101])] 9 fun c d =>
 a ⟨some ⟨c,0,none⟩,4,4⟩ d
def Zab:Zfz:=ZeI
abbrev Zxg:=(ByteArray × ByteArray × Bool × Int × Int × ByteArray × Int × Int × Int × Bool × Int × Bool × Unit)->(oA->HP)->HP
def Zgh (P:ZfR) (u:Zij) (v:Zq6) (j:ZfQ) (m:Zii) (Q:Zfz) (F:Zq5) (R:Zfz) (b:ByteArray × ByteArray × Bool × Int × Int × ByteArray × Int × Int × Int × Bool × Int × Bool × Unit) (S:oA->HP) (T:Zc):Prop :=
 newC T [.string b.1,.string b.2.1,.bool b.2.2.1,.int .i64 b.2.2.2.1,.int .u8 b.2.2.2.2.1,.string b.2.2.2.2.2.1,.int .u8 b.2.2.2.2.2.2.1,.int .i64 b.2.2.2.2.2.2.2.1,.int .i64 b.2.2.2.2.2.2.2.2.1,.bool b.2.2.2.2.2.2.2.2.2.1,.int .i64 b.2.2.2.2.2.2.2.2.2.2.1,.bool b.2.2.2.2.2.2.2.2.2.2.2.1] 75 fun a k =>
 ldS k a 0 fun G =>
 ldS k a (0+1) fun w =>
 ldB k a (0+2) fun n =>
 ldI k a (0+3) .i64 fun h =>
 P (fun U l =>
 Y9 (Yb l [(a,0+3,.int .i64 h)]) <|
 Y9 (Yb l [(a,0+2,.bool n)]) <|
 Y9 (Yb l [(a,0+1,.string w)]) <|
 Y9 (Yb l [(a,0,.string G)]) <|
 u U (ByteArray.mk #[114,101,115,111,117,114,99,101]) G (fun V o =>
 Y9 (Yb o [(a,0+3,.int .i64 h)]) <|
 Y9 (Yb o [(a,0+2,.bool n)]) <|
 Y9 (Yb o [(a,0+1,.string w)]) <|
 u V (ByteArray.mk #[111,114,105,103,105,110]) w (fun W x =>
 Y9 (Yb x [(a,0+3,.int .i64 h)]) <|
 Y9 (Yb x [(a,0+2,.bool n)]) <|
 v n (fun c H =>
 Y9 (Yb H [(a,0+3,.int .i64 h)]) <|
 j W (ByteArray.mk #[116,104,114,101,97,100,115]) (c.1,c.2.1,⟨c.2.2.1.ptr,c.2.2.1.len,c.2.2.1.cap⟩,⟨c.2.2.2.1.ptr,c.2.2.2.1.len,c.2.2.2.1.cap⟩,()) (fun X I =>
 Y9 (Yb I [(a,0+3,.int .i64 h)]) <|
 m X (ByteArray.mk #[99,111,117,110,116]) h (fun y p =>
 ldI p a (0+4) .u8 fun J =>
 ldS p a (0+5) fun q =>
 ldI p a (0+6) .u8 fun i =>
 Q (fun Y r =>
 Y9 (Yb r [(a,0+6,.int .u8 i)]) <|
 Y9 (Yb r [(a,0+5,.string q)]) <|
 Y9 (Yb r [(a,0+4,.int .u8 J)]) <|
 F Y J (fun d z =>
 Y9 (Yb z [(a,0+6,.int .u8 i)]) <|
 Y9 (Yb z [(a,0+5,.string q)]) <|
 j y (ByteArray.mk #[115,116,114,97,116,101,103,121]) (d.1,d.2.1,⟨d.2.2.1.ptr,d.2.2.1.len,d.2.2.1.cap⟩,⟨d.2.2.2.1.ptr,d.2.2.2.1.len,d.2.2.2.1.cap⟩,()) (fun Z A =>
 Y9 (Yb A [(a,0+6,.int .u8 i)]) <|
 Y9 (Yb A [(a,0+5,.string q)]) <|
 u Z (ByteArray.mk #[114,101,102]) q (fun aa K =>
 Y9 (Yb K [(a,0+6,.int .u8 i)]) <|
 R (fun ab L =>
 Y9 (Yb L [(a,0+6,.int .u8 i)]) <|
 F ab i (fun e ac =>
 j aa (ByteArray.mk #[115,104,97,112,101]) (e.1,e.2.1,⟨e.2.2.1.ptr,e.2.2.1.len,e.2.2.1.cap⟩,⟨e.2.2.2.1.ptr,e.2.2.2.1.len,e.2.2.2.1.cap⟩,()) (fun al B =>
 ldI B a (0+7) .i64 fun ad =>
 ldI B a (0+8) .i64 fun M =>
 m y (ByteArray.mk #[119,97,114,109]) ad (fun ae N =>
 Y9 (Yb N [(a,0+8,.int .i64 M)]) <|
 m ae (ByteArray.mk #[113,117,101,117,101]) M (fun am s =>
 ldB s a (0+9) fun af =>
 ldI s a (0+10) .i64 fun C =>
 ldB s a (0+11) fun t =>
 v af (fun f D =>
 Y9 (Yb D [(a,0+11,.bool t)]) <|
 Y9 (Yb D [(a,0+10,.int .i64 C)]) <|
 j y (ByteArray.mk #[99,108,117,115,116,101,114]) (f.1,f.2.1,⟨f.2.2.1.ptr,f.2.2.1.len,f.2.2.1.cap⟩,⟨f.2.2.2.1.ptr,f.2.2.2.1.len,f.2.2.2.1.cap⟩,()) (fun ag E =>
 Y9 (Yb E [(a,0+11,.bool t)]) <|
 Y9 (Yb E [(a,0+10,.int .i64 C)]) <|
 m ag (ByteArray.mk #[105,100]) C (fun ah O =>
 Y9 (Yb O [(a,0+11,.bool t)]) <|
 v t (fun g ai =>
 j ah (ByteArray.mk #[102,97,108,108,98,97,99,107]) (g.1,g.2.1,⟨g.2.2.1.ptr,g.2.2.1.len,g.2.2.1.cap⟩,⟨g.2.2.2.1.ptr,g.2.2.2.1.len,g.2.2.2.1.cap⟩,()) (fun aj ak =>
 S aj ak) ai) O) E) D) s) N) B) ac) L) K) A) z) r) p) I) H) x) o) l) k
def ZcK:Zxg:=Zgh ZV ZX Zat ZC ZL Xk Xj Zab
abbrev Zaj:=Sl->((vTy)->HP)->HP
def ZjU (c:Zjg) (d:Sl) (e:(vTy)->HP) (f:Zc):Prop :=
 newC f v0C 33 fun a g =>
 c (6,ByteArray.mk #[],d,n0S,()) (fun h i =>
 sts i a 0 (vCl h) fun b =>
 ldI b a 0 .u8 fun j=>ldS b a (0+1) fun k=>ldL b a (0+2) fun l=>ldL b a (0+3) fun m=>e (j,k,l,m,()) b) g
def Xl:Zaj:=ZjU ZbR
def Y3 (p:Zxg) (q:Zaj) (k:Sl) (r:(vTy)->HP) (s:Zc):Prop :=
 newC s v0C 33 fun f t =>
 Zau (σ:=Sl × Int × Unit) (fun u m a =>
 (fun (n:Sl) (l:Int) =>
 Zy (decide (l<(k.len:Int))) (
 Zdb k.ptr k.len l 12 fun d e =>
 ldS a d e fun v=>ldS a d (e+1) fun w=>ldB a d (e+2) fun x=>ldI a d (e+3) .i64 fun y=>ldI a d (e+4) .u8 fun z=>ldS a d (e+5) fun A=>ldI a d (e+6) .u8 fun B=>ldI a d (e+7) .i64 fun C=>ldI a d (e+8) .i64 fun D=>ldB a d (e+9) fun E=>ldI a d (e+10) .i64 fun F=>ldB a d (e+11) fun G =>
 newC a [.string e0B,.string e0B,.bool false,.int .i64 0,.int .u8 0,.string e0B,.int .u8 0,.int .i64 0,.int .i64 0,.bool false,.int .i64 0,.bool false] 75 fun b H =>
 sts H b 0 [.string v,.string w,.bool x,.int .i64 y,.int .u8 z,.string A,.int .u8 B,.int .i64 C,.int .i64 D,.bool E,.int .i64 F,.bool G] fun c =>
 ldS c b 0 fun I=>ldS c b (0+1) fun J=>ldB c b (0+2) fun K=>ldI c b (0+3) .i64 fun L=>ldI c b (0+4) .u8 fun M=>ldS c b (0+5) fun N=>ldI c b (0+6) .u8 fun O=>ldI c b (0+7) .i64 fun P=>ldI c b (0+8) .i64 fun Q=>ldB c b (0+9) fun R=>ldI c b (0+10) .i64 fun S=>ldB c b (0+11) fun T =>
 p (I,J,K,L,M,N,O,P,Q,R,S,T,()) (fun U g =>
 Ze U fun i j =>
 ldI g i j .u8 fun V=>ldS g i (j+1) fun W=>ldL g i (j+2) fun X=>ldL g i (j+3) fun Y =>
 newC g [.int .u8 V,.string W,slv X,slv Y] 33 fun Z o =>
 rdS ⟨some ⟨Z,0,none⟩,1,1⟩ 4 o fun aa=>app 33 4 72 v0C n 1 aa o fun ab ac =>
 u (ab,IntKind.wrap .i64 (l+1),()) ac) c) (
 q n (fun ad ae =>
 sts ae f 0 (vCl ad) fun h =>
 ldI h f 0 .u8 fun af=>ldS h f (0+1) fun ag=>ldL h f (0+2) fun ah=>ldL h f (0+3) fun ai=>r (af,ag,ah,ai,()) h) a)) m.1 m.2.1) (n0S,0,()) t
def Yj:Zaj:=Y3 ZcK Xl
def ZeJ (a:Sl->HP) (b:Zc):Prop :=
 newC b [.string (ByteArray.mk #[115,108,111,119]),.string (ByteArray.mk #[101,114,114,111,114,115]),.string (ByteArray.mk #[99,111,117,110,116])] 9 fun c d =>
 a ⟨some ⟨c,0,none⟩,3,3⟩ d
def Zac:Zfz:=ZeJ
abbrev Zxf:=(ByteArray × Int × Int × Int × Int × Int × Int × Unit)->(oA->HP)->HP
def ZeK (u:ZfR) (v:Zij) (w:Zfz) (x:Zq5) (y:ZfQ) (e:Zii) (c:ByteArray × Int × Int × Int × Int × Int × Int × Unit) (z:oA->HP) (A:Zc):Prop :=
 newC A [.string c.1,.int .u8 c.2.1,.int .i64 c.2.2.1,.int .i64 c.2.2.2.1,.int .i64 c.2.2.2.2.1,.int .i64 c.2.2.2.2.2.1,.int .i64 c.2.2.2.2.2.2.1] 80 fun a g =>
 ldS g a 0 fun p =>
 ldI g a (0+1) .u8 fun h =>
 ldI g a (0+2) .i64 fun d =>
 u (fun B i =>
 Y9 (Yb i [(a,0+2,.int .i64 d)]) <|
 Y9 (Yb i [(a,0+1,.int .u8 h)]) <|
 Y9 (Yb i [(a,0,.string p)]) <|
 v B (ByteArray.mk #[114,101,115,111,117,114,99,101]) p (fun C l =>
 Y9 (Yb l [(a,0+2,.int .i64 d)]) <|
 Y9 (Yb l [(a,0+1,.int .u8 h)]) <|
 w (fun D m =>
 Y9 (Yb m [(a,0+2,.int .i64 d)]) <|
 Y9 (Yb m [(a,0+1,.int .u8 h)]) <|
 x D h (fun b q =>
 Y9 (Yb q [(a,0+2,.int .i64 d)]) <|
 y C (ByteArray.mk #[103,114,97,100,101]) (b.1,b.2.1,⟨b.2.2.1.ptr,b.2.2.1.len,b.2.2.1.cap⟩,⟨b.2.2.2.1.ptr,b.2.2.2.1.len,b.2.2.2.1.cap⟩,()) (fun E r =>
 Y9 (Yb r [(a,0+2,.int .i64 d)]) <|
 e E (ByteArray.mk #[99,111,117,110,116]) d (fun F f =>
 ldI f a (0+3) .i64 fun G =>
 ldI f a (0+4) .i64 fun s =>
 ldI f a (0+5) .i64 fun n =>
 ldI f a (0+6) .i64 fun j =>
 e F (ByteArray.mk #[115,108,111,119]) G (fun H k =>
 Y9 (Yb k [(a,0+6,.int .i64 j)]) <|
 Y9 (Yb k [(a,0+5,.int .i64 n)]) <|
 Y9 (Yb k [(a,0+4,.int .i64 s)]) <|
 e H (ByteArray.mk #[108,101,97,115,116]) s (fun I o =>
 Y9 (Yb o [(a,0+6,.int .i64 j)]) <|
 Y9 (Yb o [(a,0+5,.int .i64 n)]) <|
 e I (ByteArray.mk #[119,105,110,100,111,119]) n (fun J t =>
 Y9 (Yb t [(a,0+6,.int .i64 j)]) <|
 e J (ByteArray.mk #[114,101,99,111,118,101,114]) j (fun K L =>
 z K L) t) o) k) f) r) q) m) l) i) g
def Zbr:Zxf:=ZeK ZV ZX Zac Xj ZC ZL
def YX (p:Zxf) (q:Zaj) (k:Sl) (r:(vTy)->HP) (s:Zc):Prop :=
 newC s v0C 33 fun f t =>
 Zau (σ:=Sl × Int × Unit) (fun u m a =>
 (fun (n:Sl) (l:Int) =>
 Zy (decide (l<(k.len:Int))) (
 Zdb k.ptr k.len l 7 fun d e =>
 ldS a d e fun v=>ldI a d (e+1) .u8 fun w=>ldI a d (e+2) .i64 fun x=>ldI a d (e+3) .i64 fun y=>ldI a d (e+4) .i64 fun z=>ldI a d (e+5) .i64 fun A=>ldI a d (e+6) .i64 fun B =>
 newC a [.string e0B,.int .u8 0,.int .i64 0,.int .i64 0,.int .i64 0,.int .i64 0,.int .i64 0] 80 fun b C =>
 sts C b 0 [.string v,.int .u8 w,.int .i64 x,.int .i64 y,.int .i64 z,.int .i64 A,.int .i64 B] fun c =>
 ldS c b 0 fun D=>ldI c b (0+1) .u8 fun E=>ldI c b (0+2) .i64 fun F=>ldI c b (0+3) .i64 fun G=>ldI c b (0+4) .i64 fun H=>ldI c b (0+5) .i64 fun I=>ldI c b (0+6) .i64 fun J =>
 p (D,E,F,G,H,I,J,()) (fun K g =>
 Ze K fun i j =>
 ldI g i j .u8 fun L=>ldS g i (j+1) fun M=>ldL g i (j+2) fun N=>ldL g i (j+3) fun O =>
 newC g [.int .u8 L,.string M,slv N,slv O] 33 fun P o =>
 rdS ⟨some ⟨P,0,none⟩,1,1⟩ 4 o fun Q=>app 33 4 72 v0C n 1 Q o fun R S =>
 u (R,IntKind.wrap .i64 (l+1),()) S) c) (
 q n (fun T U =>
 sts U f 0 (vCl T) fun h =>
 ldI h f 0 .u8 fun V=>ldS h f (0+1) fun W=>ldL h f (0+2) fun X=>ldL h f (0+3) fun Y=>r (V,W,X,Y,()) h) a)) m.1 m.2.1) (n0S,0,()) t
def Z9:Zaj:=YX Zbr Xl
abbrev Zxe:=(ByteArray × Int × Unit)->(oA->HP)->HP
def Zfq (h:ZfR) (i:Zij) (j:Zii) (e:ByteArray × Int × Unit) (k:oA->HP) (l:Zc):Prop :=
 newC l [.string e.1,.int .i64 e.2.1] 203 fun a b =>
 ldS b a 0 fun f =>
 ldI b a (0+1) .i64 fun c =>
 h (fun m d =>
 Y9 (Yb d [(a,0+1,.int .i64 c)]) <|
 Y9 (Yb d [(a,0,.string f)]) <|
 i m (ByteArray.mk #[118,97,108,117,101]) f (fun n g =>
 Y9 (Yb g [(a,0+1,.int .i64 c)]) <|
 j n (ByteArray.mk #[99,111,117,110,116]) c (fun o p =>
 k o p) g) d) b
def Zb9:Zxe:=Zfq ZV ZX ZL
def Y1 (p:Zxe) (q:Zaj) (g:Sl) (r:(vTy)->HP) (s:Zc):Prop :=
 newC s v0C 33 fun a t =>
 Zau (σ:=Sl × Int × Unit) (fun u k d =>
 (fun (l:Sl) (h:Int) =>
 Zy (decide (h<(g.len:Int))) (
 Zdb g.ptr g.len h 2 fun m n =>
 ldS d m n fun v=>ldI d m (n+1) .i64 fun w =>
 newC d [.string e0B,.int .i64 0] 203 fun i x =>
 sts x i 0 [.string v,.int .i64 w] fun j =>
 ldS j i 0 fun y=>ldI j i (0+1) .i64 fun z =>
 p (y,z,()) (fun A b =>
 Ze A fun e f =>
 ldI b e f .u8 fun B=>ldS b e (f+1) fun C=>ldL b e (f+2) fun D=>ldL b e (f+3) fun E =>
 newC b [.int .u8 B,.string C,slv D,slv E] 33 fun F o =>
 rdS ⟨some ⟨F,0,none⟩,1,1⟩ 4 o fun G=>app 33 4 72 v0C l 1 G o fun H I =>
 u (H,IntKind.wrap .i64 (h+1),()) I) j) (
 q l (fun J K =>
 sts K a 0 (vCl J) fun c =>
 ldI c a 0 .u8 fun L=>ldS c a (0+1) fun M=>ldL c a (0+2) fun N=>ldL c a (0+3) fun O=>r (L,M,N,O,()) c) d)) k.1 k.2.1) (n0S,0,()) t
def Yg:Zaj:=Y1 Zb9 Xl
abbrev Zxd:=(ByteArray × Int × Int × Int × Sl × Unit)->(oA->HP)->HP
def Zg4 (o:ZfR) (p:Zij) (i:Zii) (q:Zaj) (r:ZfQ) (c:ByteArray × Int × Int × Int × Sl × Unit) (s:oA->HP) (t:Zc):Prop :=
 newC t [.string c.1,.int .i64 c.2.1,.int .i64 c.2.2.1,.int .i64 c.2.2.2.1,slv c.2.2.2.2.1] 85 fun a d =>
 ldS d a 0 fun l =>
 ldI d a (0+1) .i64 fun j =>
 ldI d a (0+2) .i64 fun g =>
 ldI d a (0+3) .i64 fun e =>
 o (fun u f =>
 Y9 (Yb f [(a,0+3,.int .i64 e)]) <|
 Y9 (Yb f [(a,0+2,.int .i64 g)]) <|
 Y9 (Yb f [(a,0+1,.int .i64 j)]) <|
 Y9 (Yb f [(a,0,.string l)]) <|
 p u (ByteArray.mk #[114,101,115,111,117,114,99,101]) l (fun v h =>
 Y9 (Yb h [(a,0+3,.int .i64 e)]) <|
 Y9 (Yb h [(a,0+2,.int .i64 g)]) <|
 Y9 (Yb h [(a,0+1,.int .i64 j)]) <|
 i v (ByteArray.mk #[105,110,100,101,120]) j (fun w k =>
 Y9 (Yb k [(a,0+3,.int .i64 e)]) <|
 Y9 (Yb k [(a,0+2,.int .i64 g)]) <|
 i w (ByteArray.mk #[99,111,117,110,116]) g (fun x m =>
 Y9 (Yb m [(a,0+3,.int .i64 e)]) <|
 i x (ByteArray.mk #[115,101,99,111,110,100,115]) e (fun y n =>
 ldL n a (0+4) fun z =>
 q z (fun b A =>
 r y (ByteArray.mk #[105,116,101,109,115]) (b.1,b.2.1,⟨b.2.2.1.ptr,b.2.2.1.len,b.2.2.1.cap⟩,⟨b.2.2.2.1.ptr,b.2.2.2.1.len,b.2.2.2.1.cap⟩,()) (fun B C =>
 s B C) A) n) m) k) h) f) d
def ZdB:Zxd:=Zg4 ZV ZX ZL Yg ZC
def Xa (p:Zxd) (q:Zaj) (k:Sl) (r:(vTy)->HP) (s:Zc):Prop :=
 newC s v0C 33 fun d t =>
 Zau (σ:=Sl × Int × Unit) (fun u m a =>
 (fun (n:Sl) (l:Int) =>
 Zy (decide (l<(k.len:Int))) (
 Zdb k.ptr k.len l 5 fun e f =>
 ldS a e f fun v=>ldI a e (f+1) .i64 fun w=>ldI a e (f+2) .i64 fun x=>ldI a e (f+3) .i64 fun y=>ldL a e (f+4) fun z =>
 newC a [.string e0B,.int .i64 0,.int .i64 0,.int .i64 0,n0V] 85 fun b A =>
 sts A b 0 [.string v,.int .i64 w,.int .i64 x,.int .i64 y,slv z] fun c =>
 ldS c b 0 fun B=>ldI c b (0+1) .i64 fun C=>ldI c b (0+2) .i64 fun D=>ldI c b (0+3) .i64 fun E=>ldL c b (0+4) fun F =>
 p (B,C,D,E,F,()) (fun G g =>
 Ze G fun i j =>
 ldI g i j .u8 fun H=>ldS g i (j+1) fun I=>ldL g i (j+2) fun J=>ldL g i (j+3) fun K =>
 newC g [.int .u8 H,.string I,slv J,slv K] 33 fun L o =>
 rdS ⟨some ⟨L,0,none⟩,1,1⟩ 4 o fun M=>app 33 4 72 v0C n 1 M o fun N O =>
 u (N,IntKind.wrap .i64 (l+1),()) O) c) (
 q n (fun P Q =>
 sts Q d 0 (vCl P) fun h =>
 ldI h d 0 .u8 fun R=>ldS h d (0+1) fun S=>ldL h d (0+2) fun T=>ldL h d (0+3) fun U=>r (R,S,T,U,()) h) a)) m.1 m.2.1) (n0S,0,()) t
def Yl:Zaj:=Xa ZdB Xl
abbrev Zxc:=(Int × Int × Int × Int × Int × Unit)->(oA->HP)->HP
def ZeH (o:ZfR) (e:Zii) (f:Int × Int × Int × Int × Int × Unit) (p:oA->HP) (q:Zc):Prop :=
 newC q [.int .i64 f.1,.int .i64 f.2.1,.int .i64 f.2.2.1,.int .i64 f.2.2.2.1,.int .i64 f.2.2.2.2.1] 91 fun a b =>
 ldI b a 0 .i64 fun m =>
 ldI b a (0+1) .i64 fun k =>
 ldI b a (0+2) .i64 fun i =>
 ldI b a (0+3) .i64 fun g =>
 ldI b a (0+4) .i64 fun c =>
 o (fun r d =>
 Y9 (Yb d [(a,0+4,.int .i64 c)]) <|
 Y9 (Yb d [(a,0+3,.int .i64 g)]) <|
 Y9 (Yb d [(a,0+2,.int .i64 i)]) <|
 Y9 (Yb d [(a,0+1,.int .i64 k)]) <|
 Y9 (Yb d [(a,0,.int .i64 m)]) <|
 e r (ByteArray.mk #[113,112,115]) m (fun s h =>
 Y9 (Yb h [(a,0+4,.int .i64 c)]) <|
 Y9 (Yb h [(a,0+3,.int .i64 g)]) <|
 Y9 (Yb h [(a,0+2,.int .i64 i)]) <|
 Y9 (Yb h [(a,0+1,.int .i64 k)]) <|
 e s (ByteArray.mk #[116,104,114,101,97,100,115]) k (fun t j =>
 Y9 (Yb j [(a,0+4,.int .i64 c)]) <|
 Y9 (Yb j [(a,0+3,.int .i64 g)]) <|
 Y9 (Yb j [(a,0+2,.int .i64 i)]) <|
 e t (ByteArray.mk #[114,116]) i (fun u l =>
 Y9 (Yb l [(a,0+4,.int .i64 c)]) <|
 Y9 (Yb l [(a,0+3,.int .i64 g)]) <|
 e u (ByteArray.mk #[108,111,97,100]) g (fun v n =>
 Y9 (Yb n [(a,0+4,.int .i64 c)]) <|
 e v (ByteArray.mk #[99,112,117]) c (fun w x =>
 p w x) n) l) j) h) d) b
def Zbo:Zxc:=ZeH ZV ZL
def YN (p:Zxc) (q:Zaj) (k:Sl) (r:(vTy)->HP) (s:Zc):Prop :=
 newC s v0C 33 fun d t =>
 Zau (σ:=Sl × Int × Unit) (fun u m a =>
 (fun (n:Sl) (l:Int) =>
 Zy (decide (l<(k.len:Int))) (
 Zdb k.ptr k.len l 5 fun e f =>
 ldI a e f .i64 fun v=>ldI a e (f+1) .i64 fun w=>ldI a e (f+2) .i64 fun x=>ldI a e (f+3) .i64 fun y=>ldI a e (f+4) .i64 fun z =>
 newC a [.int .i64 0,.int .i64 0,.int .i64 0,.int .i64 0,.int .i64 0] 91 fun b A =>
 sts A b 0 [.int .i64 v,.int .i64 w,.int .i64 x,.int .i64 y,.int .i64 z] fun c =>
 ldI c b 0 .i64 fun B=>ldI c b (0+1) .i64 fun C=>ldI c b (0+2) .i64 fun D=>ldI c b (0+3) .i64 fun E=>ldI c b (0+4) .i64 fun F =>
 p (B,C,D,E,F,()) (fun G g =>
 Ze G fun i j =>
 ldI g i j .u8 fun H=>ldS g i (j+1) fun I=>ldL g i (j+2) fun J=>ldL g i (j+3) fun K =>
 newC g [.int .u8 H,.string I,slv J,slv K] 33 fun L o =>
 rdS ⟨some ⟨L,0,none⟩,1,1⟩ 4 o fun M=>app 33 4 72 v0C n 1 M o fun N O =>
 u (N,IntKind.wrap .i64 (l+1),()) O) c) (
 q n (fun P Q =>
 sts Q d 0 (vCl P) fun h =>
 ldI h d 0 .u8 fun R=>ldS h d (0+1) fun S=>ldL h d (0+2) fun T=>ldL h d (0+3) fun U=>r (R,S,T,U,()) h) a)) m.1 m.2.1) (n0S,0,()) t
def Z3:Zaj:=YN Zbo Xl
abbrev Zxb:=(ByteArray × Bool × Sl × Unit)->(oA->HP)->HP
def Zgg (q:ZwM) (r:ZfR) (s:Zij) (t:Zq6) (j:ZfQ) (u:Zaj) (e:ByteArray × Bool × Sl × Unit) (v:oA->HP) (w:Zc):Prop :=
 newC w [.string e.1,.bool e.2.1,slv e.2.2.1] 95 fun c k =>
 ldL k c (0+2) fun f =>
 Zau (σ:=Sl × Int × Unit) (fun x l d =>
 (fun (m:Sl) (g:Int) =>
 Zy (decide (g<(f.len:Int))) (
 Zdb f.ptr f.len g 1 fun y z =>
 ldS d y z fun A =>
 q A (fun B C =>
 newC C (vCl B) 33 fun D n =>
 rdS ⟨some ⟨D,0,none⟩,1,1⟩ 4 n fun E=>app 33 4 72 v0C m 1 E n fun F G =>
 x (F,IntKind.wrap .i64 (g+1),()) G) d) (
 ldS d c 0 fun o =>
 ldB d c (0+1) fun h =>
 r (fun H i =>
 Y9 (Yb i [(c,0+1,.bool h)]) <|
 Y9 (Yb i [(c,0,.string o)]) <|
 s H (ByteArray.mk #[114,101,115,111,117,114,99,101]) o (fun I p =>
 Y9 (Yb p [(c,0+1,.bool h)]) <|
 t h (fun a J =>
 j I (ByteArray.mk #[119,104,105,116,101]) (a.1,a.2.1,⟨a.2.2.1.ptr,a.2.2.1.len,a.2.2.1.cap⟩,⟨a.2.2.2.1.ptr,a.2.2.2.1.len,a.2.2.2.1.cap⟩,()) (fun K L =>
 u m (fun b M =>
 j K (ByteArray.mk #[111,114,105,103,105,110,115]) (b.1,b.2.1,⟨b.2.2.1.ptr,b.2.2.1.len,b.2.2.1.cap⟩,⟨b.2.2.2.1.ptr,b.2.2.2.1.len,b.2.2.2.1.cap⟩,()) (fun N O =>
 v N O) M) L) J) p) i) d)) l.1 l.2.1) (n0S,0,()) k
def ZcJ:Zxb:=Zgg ZaF ZV ZX Zat ZC Xl
def YJ (p:Zxb) (q:Zaj) (i:Sl) (r:(vTy)->HP) (s:Zc):Prop :=
 newC s v0C 33 fun a t =>
 Zau (σ:=Sl × Int × Unit) (fun u m b =>
 (fun (n:Sl) (j:Int) =>
 Zy (decide (j<(i.len:Int))) (
 Zdb i.ptr i.len j 3 fun k l =>
 ldS b k l fun v=>ldB b k (l+1) fun w=>ldL b k (l+2) fun x =>
 newC b [.string e0B,.bool false,n0V] 95 fun e y =>
 sts y e 0 [.string v,.bool w,slv x] fun f =>
 ldS f e 0 fun z=>ldB f e (0+1) fun A=>ldL f e (0+2) fun B =>
 p (z,A,B,()) (fun C c =>
 Ze C fun g h =>
 ldI c g h .u8 fun D=>ldS c g (h+1) fun E=>ldL c g (h+2) fun F=>ldL c g (h+3) fun G =>
 newC c [.int .u8 D,.string E,slv F,slv G] 33 fun H o =>
 rdS ⟨some ⟨H,0,none⟩,1,1⟩ 4 o fun I=>app 33 4 72 v0C n 1 I o fun J K =>
 u (J,IntKind.wrap .i64 (j+1),()) K) f) (
 q n (fun L M =>
 sts M a 0 (vCl L) fun d =>
 ldI d a 0 .u8 fun N=>ldS d a (0+1) fun O=>ldL d a (0+2) fun P=>ldL d a (0+3) fun Q=>r (N,O,P,Q,()) d) b)) m.1 m.2.1) (n0S,0,()) t
def ZY:Zaj:=YJ ZcJ Xl
abbrev Zxa:=(rTy)->((vTy)->HP)->HP
def Zen (z:ZfR) (A:Zaj) (h:ZfQ) (B:Zaj) (C:Zaj) (D:Zaj) (E:Zaj) (F:rTy) (G:(vTy)->HP) (H:Zc):Prop :=
 newC H (rCl F) 28 fun a I =>
 newC I v0C 33 fun i l =>
 ldL l a 0 fun u =>
 ldL l a (0+1) fun m =>
 ldL l a (0+2) fun g =>
 z (fun J n =>
 ndL n a (0+2) g <|
 ndL n a (0+1) m <|
 ndL n a 0 u <|
 A u (fun b q =>
 ndL q a (0+2) g <|
 ndL q a (0+1) m <|
 h J (ByteArray.mk #[102,108,111,119]) (b.1,b.2.1,⟨b.2.2.1.ptr,b.2.2.1.len,b.2.2.1.cap⟩,⟨b.2.2.2.1.ptr,b.2.2.2.1.len,b.2.2.2.1.cap⟩,()) (fun K r =>
 ndL r a (0+2) g <|
 ndL r a (0+1) m <|
 B m (fun c v =>
 ndL v a (0+2) g <|
 h K (ByteArray.mk #[98,114,101,97,107]) (c.1,c.2.1,⟨c.2.2.1.ptr,c.2.2.1.len,c.2.2.1.cap⟩,⟨c.2.2.2.1.ptr,c.2.2.2.1.len,c.2.2.2.1.cap⟩,()) (fun L w =>
 ndL w a (0+2) g <|
 C g (fun d M =>
 h L (ByteArray.mk #[104,111,116]) (d.1,d.2.1,⟨d.2.2.1.ptr,d.2.2.1.len,d.2.2.1.cap⟩,⟨d.2.2.2.1.ptr,d.2.2.2.1.len,d.2.2.2.1.cap⟩,()) (fun N s =>
 ldL s a (0+3) fun O =>
 ldL s a (0+4) fun t =>
 D O (fun e x =>
 ndL x a (0+4) t <|
 h N (ByteArray.mk #[115,121,115,116,101,109]) (e.1,e.2.1,⟨e.2.2.1.ptr,e.2.2.1.len,e.2.2.1.cap⟩,⟨e.2.2.2.1.ptr,e.2.2.2.1.len,e.2.2.2.1.cap⟩,()) (fun P y =>
 ndL y a (0+4) t <|
 E t (fun f Q =>
 h P (ByteArray.mk #[97,117,116,104,111,114,105,116,121]) (f.1,f.2.1,⟨f.2.2.1.ptr,f.2.2.1.len,f.2.2.1.cap⟩,⟨f.2.2.2.1.ptr,f.2.2.2.1.len,f.2.2.2.1.cap⟩,()) (fun R j =>
 Ze R fun o p =>
 ldI j o p .u8 fun S=>ldS j o (p+1) fun T=>ldL j o (p+2) fun U=>ldL j o (p+3) fun V =>
 sts j i 0 [.int .u8 S,.string T,slv U,slv V] fun k =>
 ldI k i 0 .u8 fun W=>ldS k i (0+1) fun X=>ldL k i (0+2) fun Y=>ldL k i (0+3) fun Z=>G (W,X,Y,Z,()) k) Q) y) x) s) M) w) v) r) q) n) l
def Za5:Zxa:=Zen ZV Yj ZC Z9 Yl Z3 ZY
abbrev Zw9:=Int->oA->oA->((oA × oA × oA × Unit)->HP)->HP
def Zco (a:Int) (b:oA) (c:oA) (d:(oA × oA × oA × Unit)->HP) (e:Zc):Prop :=
 newC e [.int .i64 a] 3 fun f g =>
 d (b,c,some ⟨f,0,none⟩,()) g
def X7:Zw9:=Zco
abbrev Zj8:=oA->Int->(HP)->HP
def ZcQ (b:oA) (d:Int) (c:HP) (a:Zc):Prop :=
 Ze b fun e f =>
 ldI a e f .i64 fun g =>
 Zy (g ==0) (
 Ze b fun h i =>
 st a h i (.int .i64 d) fun j =>
 c j) (
 c a)
def Yi:Zj8:=ZcQ
abbrev ZnN:=Sl->ByteArray->(Int->HP)->HP
def XA (b:Sl) (f:ByteArray) (d:Int->HP) (g:Zc):Prop :=
 Zi 0 fun o =>
 Zau (σ:=Int × Unit) (fun h i a =>
 (fun (c:Int) =>
 Zy (decide (c<(b.len:Int))) (
 Zi c fun e =>
 Zdb b.ptr b.len e 1 fun j k =>
 ldS a j k fun l =>
 Zy (ZcC f l) (
 Zi e fun m =>
 d m a) (
 h (IntKind.wrap .i64 (c+1),()) a)) (
 Zi (-1) fun n =>
 d n a)) i.1) (0,()) g
def Xy:ZnN:=XA
abbrev Zq4:=Sl->ByteArray->(Bool->HP)->HP
def XY (a:ZnN) (b:Sl) (c:ByteArray) (d:Bool->HP) (e:Zc):Prop :=
 a b c (fun f g =>
 Yq (decide (f>=0)) fun h =>
 d h g) e
def Z1:Zq4:=XY Xy
abbrev ZfP:=oA->(vTy)->Int->(Bool->HP)->HP
def Zcg (f:Zj8) (g:oA) (h:vTy) (b:Int) (d:Bool->HP) (i:Zc):Prop :=
 newC i (vCl h) 33 fun c a =>
 ldI a c 0 .u8 fun j =>
 Zy (j !=b) (
 Ze g fun k l =>
 f (some ⟨k,l,none⟩) 26 (fun e =>
 ldI e c 0 .u8 fun m =>
 Yq (m ==b) fun n =>
 d n e) a) (
 ldI a c 0 .u8 fun o =>
 Yq (o ==b) fun p =>
 d p a)
def Zw:ZfP:=Zcg Yi
abbrev Zcv:=(vTy)->oA->oA->(HP)->HP
def Zbx (e:ZfP) (f:vTy) (g:oA) (h:oA) (d:HP) (i:Zc):Prop :=
 newC i (vCl f) 33 fun b a =>
 Ze g fun j k=>ldP a j k fun l =>
 ldI a b 0 .u8 fun m=>ldS a b (0+1) fun n=>ldL a b (0+2) fun o=>ldL a b (0+3) fun p =>
 e l (m,n,o,p,()) 5 (fun q c =>
 Zy q (
 Ze h fun r s=>ldP c r s fun t =>
 ldS c b (0+1) fun u =>
 Ze t fun v w =>
 st c v w (.string u) fun x =>
 d x) (
 d c)) a
def YV:Zcv:=Zbx Zw
def ZbU (f:ZfP) (g:vTy) (h:oA) (d:oA) (e:HP) (i:Zc):Prop :=
 newC i (vCl g) 33 fun b a =>
 ldI a b 0 .u8 fun j =>
 Zy (j !=3) (
 Ze h fun k l=>ldP a k l fun m =>
 ldI a b 0 .u8 fun n=>ldS a b (0+1) fun o=>ldL a b (0+2) fun p=>ldL a b (0+3) fun q =>
 f m (n,o,p,q,()) 2 (fun F c =>
 Ze d fun r s=>ldP c r s fun t =>
 ldI c b 0 .u8 fun u =>
 Ze t fun v w =>
 st c v w (.bool (u ==3)) fun x =>
 e x) a) (
 Ze d fun y z=>ldP a y z fun A =>
 ldI a b 0 .u8 fun B =>
 Ze A fun C D =>
 st a C D (.bool (B ==3)) fun E =>
 e E)
def Y0:Zcv:=ZbU Zw
def ZaV (k:ZfP) (l:ZNi) (h:Zj8) (m:ZFA) (n:vTy) (f:oA) (o:oA) (d:HP) (p:Zc):Prop :=
 newC p (vCl n) 33 fun a b =>
 Ze f fun q r=>ldP b q r fun s =>
 ldI b a 0 .u8 fun t=>ldS b a (0+1) fun u=>ldL b a (0+2) fun v=>ldL b a (0+3) fun w =>
 k s (t,u,v,w,()) 4 (fun x g =>
 Zy (!x) (
 d g) (
 ldS g a (0+1) fun y =>
 l y (fun z A e =>
 Zi z fun i =>
 Zo2 A fun B =>
 Zy (!B) (
 Ze f fun C D=>ldP e C D fun E =>
 Ze E fun F G =>
 h (some ⟨F,G,none⟩) 21 (fun H =>
 d H) e) (
 ldS e a (0+1) fun j =>
 m i (fun I c =>
 Y9 (Yb c [(a,0+1,.string j)]) <|
 Zy (!(ZcC I j)) (
 Ze f fun J K=>ldP c J K fun L =>
 Ze L fun M N =>
 h (some ⟨M,N,none⟩) 21 (fun O =>
 d O) c) (
 Ze o fun P Q=>ldP c P Q fun R =>
 Ze R fun S T =>
 st c S T (.int .i64 i) fun U =>
 d U)) e)) g)) b
def YE:Zcv:=ZaV Zw ZeX Yi Zdq
def ZaA (b:Sl) (f:ByteArray) (d:Int->HP) (g:Zc):Prop :=
 Zi 0 fun o =>
 Zau (σ:=Int × Unit) (fun h i a =>
 (fun (c:Int) =>
 Zy (decide (c<(b.len:Int))) (
 Zi c fun e =>
 Zdb b.ptr b.len e 1 fun j k =>
 ldS a j k fun l =>
 Zy (ZcC f l) (
 Zi e fun m =>
 d m a) (
 h (IntKind.wrap .i64 (c+1),()) a)) (
 Zi (-1) fun n =>
 d n a)) i.1) (0,()) g
def YR:ZnN:=ZaA
abbrev Zjv:=Int->oA->(HP)->HP
def Zd1 (a:Int) (b:oA) (c:HP) (d:Zc):Prop :=
 Ze b fun e f =>
 st d e (f+4) (.int .u8 (IntKind.wrap .u8 a)) fun g =>
 c g
def Zbq:Zjv:=Zd1
def Zd0 (a:Int) (b:oA) (c:HP) (d:Zc):Prop :=
 Ze b fun e f =>
 st d e (f+6) (.int .u8 (IntKind.wrap .u8 a)) fun g =>
 c g
def Zbp:Zjv:=Zd0
def Zc7 (a:Int) (b:oA) (c:HP) (d:Zc):Prop :=
 Ze b fun e f =>
 st d e (f+1) (.int .u8 (IntKind.wrap .u8 a)) fun g =>
 c g
def ZaU:Zjv:=Zc7
abbrev ZnM:=(vTy)->oA->oA->oA->(HP)->HP
def Zbw (m:ZfP) (n:ZnN) (o:Zj8) (p:Zjv) (q:Zjv) (r:Zjv) (s:vTy) (l:oA) (t:oA) (u:oA) (c:HP) (v:Zc):Prop :=
 newC v (vCl s) 33 fun d a =>
 Ze l fun w x=>ldP a w x fun y =>
 ldI a d 0 .u8 fun z=>ldS a d (0+1) fun A=>ldL a d (0+2) fun B=>ldL a d (0+3) fun C =>
 m y (z,A,B,C,()) 5 (fun D f =>
 Zy (!D) (
 c f) (
 Ze t fun E F=>ldL f E F fun G =>
 ldS f d (0+1) fun H =>
 n G H (fun I b =>
 Zi I fun g =>
 Zy (decide (g<0)) (
 Ze l fun J K=>ldP b J K fun L =>
 Ze L fun M N =>
 o (some ⟨M,N,none⟩) 26 (fun O =>
 c O) b) (
 Ze u fun P Q=>ldV b P Q fun h =>
 (exG h (fun i:oA × Unit=> .func (.func 140) #[] ⟨[.pointer i.1]⟩) fun i=>p g i.1 (fun e =>
 c e) b)\/(
 (exG h (fun j:oA × Unit=> .func (.func 141) #[] ⟨[.pointer j.1]⟩) fun j=>q g j.1 (fun e =>
 c e) b)\/(
 (exG h (fun k:oA × Unit=> .func (.func 142) #[] ⟨[.pointer k.1]⟩) fun k=>r g k.1 (fun e =>
 c e) b)\/(
 False))))) f)) a
def YU:ZnM:=Zbw Zw YR Yi Zbq Zbp ZaU
abbrev Zbg:=oA->oA->((oA × oA × Unit)->HP)->HP
def ZeA (a:oA) (b:oA) (c:(oA × oA × Unit)->HP) (d:Zc):Prop :=
 newC d [.pointer a] 98 fun e f =>
 newC f [.pointer b] 209 fun g h =>
 c (some ⟨e,0,none⟩,some ⟨g,0,none⟩,()) h
def Yc:Zbg:=ZeA
def ZdZ (a:oA) (b:oA) (c:(oA × oA × Unit)->HP) (d:Zc):Prop :=
 newC d [.pointer a] 98 fun e f =>
 newC f [.pointer b] 213 fun g h =>
 c (some ⟨e,0,none⟩,some ⟨g,0,none⟩,()) h
def ZT:Zbg:=ZdZ
abbrev Zdk:=oA->(vTy)->(Option Nat)->(HP)->HP
def ZbV (L:Zbg) (M:Zbg) (N:Zdk) (O:vTy) (E:oA) (H:oA) (P:HP) (Q:Zc):Prop :=
 newC Q (vCl O) 33 fun b R =>
 newC R [.string e0B,.int .i64 0] 203 fun B c =>
 Ze E fun d e=>ldP c d e fun f =>
 ldI c b 0 .u8 fun g=>ldS c b (0+1) fun h=>ldL c b (0+2) fun i=>ldL c b (0+3) fun j =>
 Ze E fun k l=>ldP c k l fun m =>
 Ze E fun n o=>ldP c n o fun p =>
 Zz6 (σ:=Option Nat × (oA × oA × Unit) × (oA × oA × Unit) × Unit) (fun u a F v =>
 (fun (q:Option Nat) (r:oA × oA × Unit) (s:oA × oA × Unit) =>
 (a 2=false->(
 Zjn v fun S w =>
 ndP w n o p <|
 ndP w k l m <|
 ndV w b g h i j <|
 ndP w d e f <|
 u (XU a 2) (some S,r,s,()) w)) /\
 (a 5=false->(
 L m (some ⟨B,0,none⟩) (fun I C =>
 ndP C n o p <|
 ndV C b g h i j <|
 ndP C d e f <|
 u (XU a 5) (q,(I.1,I.2.1,()),s,()) C) v)) /\
 (a 6=false->a 2=true->a 5=true->(
 Xu .string v q (.string (ByteArray.mk #[118,97,108,117,101])) (.func (.func 211) #[] #[.pointer r.1,.pointer r.2.1]) fun x =>
 ndP x n o p <|
 ndP x k l m <|
 ndV x b g h i j <|
 ndP x d e f <|
 u (XU a 6) (q,r,s,()) x)) /\
 (a 9=false->a 5=true->(
 M p (some ⟨B,0+1,none⟩) (fun J D =>
 ndP D k l m <|
 ndV D b g h i j <|
 ndP D d e f <|
 u (XU a 9) (q,r,(J.1,J.2.1,()),()) D) v)) /\
 (a 10=false->a 2=true->a 9=true->(
 Xu .string v q (.string (ByteArray.mk #[99,111,117,110,116])) (.func (.func 213) #[] #[.pointer s.1,.pointer s.2.1]) fun y =>
 ndP y n o p <|
 ndP y k l m <|
 ndV y b g h i j <|
 ndP y d e f <|
 u (XU a 10) (q,r,s,()) y))/\True) F.1 F.2.1 F.2.2.1) (fun z G A =>
 (fun (T:Option Nat) (ag:oA × oA × Unit) (ah:oA × oA × Unit) =>
 z 2=true->z 5=true->z 6=true->z 9=true->z 10=true->(
 ndP A n o p <|
 ndP A k l m <|
 ndV A b g h i j <|
 ndP A d e f <|
 N f (g,h,i,j,()) T (fun t =>
 ndP t n o p <|
 ndP t k l m <|
 Ze H fun U V =>
 ldL t U (V+4) fun W =>
 ldS t B 0 fun X=>ldI t B (0+1) .i64 fun Y =>
 newC t [.string X,.int .i64 Y] 203 fun Z K =>
 rdS ⟨some ⟨Z,0,none⟩,1,1⟩ 2 K fun aa=>app 203 2 24 [.string e0B,.int .i64 0] W 1 aa K fun ab ac =>
 Ze H fun ad ae =>
 st ac ad (ae+4) (slv ab) fun af =>
 P af) A)) G.1 G.2.1 G.2.2.1) c
def Xo (f165:Zdk):Zcv:=ZbV Yc ZT f165
def Zbz (g:ZfP) (h:vTy) (i:oA) (d:oA) (e:HP) (j:Zc):Prop :=
 newC j (vCl h) 33 fun b a =>
 Ze i fun k l=>ldP a k l fun m =>
 ldI a b 0 .u8 fun n=>ldS a b (0+1) fun o=>ldL a b (0+2) fun p=>ldL a b (0+3) fun q =>
 g m (n,o,p,q,()) 5 (fun r c =>
 Zy r (
 Ze d fun s t =>
 ldL c s (t+2) fun u =>
 ldS c b (0+1) fun v =>
 newC c [.string v] 9 fun w f =>
 rdS ⟨some ⟨w,0,none⟩,1,1⟩ 1 f fun x=>app 9 1 16 [.string e0B] u 1 x f fun y z =>
 Ze d fun A B =>
 st z A (B+2) (slv y) fun C =>
 e C) (
 e c)) a
def YB:Zcv:=Zbz Zw
def Xx (B:ZfP) (C:Zcv) (D:Zcv) (E:vTy) (m:oA) (F:oA) (i:HP) (G:Zc):Prop :=
 newC G (vCl E) 33 fun e c =>
 Ze m fun H I=>ldP c H I fun J =>
 ldI c e 0 .u8 fun K=>ldS c e (0+1) fun L=>ldL c e (0+2) fun M=>ldL c e (0+3) fun N =>
 B J (K,L,M,N,()) 6 (fun O n =>
 Zy (!O) (
 i n) (
 ldL n e (0+2) fun o =>
 Zau (σ:=Int × Unit) (fun v P d =>
 (fun (j:Int) =>
 Zy (decide (j<(o.len:Int))) (
 Zdb o.ptr o.len j 4 fun k l =>
 ldI d k l .u8 fun Q=>ldS d k (l+1) fun R=>ldL d k (l+2) fun S=>ldL d k (l+3) fun T =>
 newC d v0C 33 fun f U =>
 sts U f 0 [.int .u8 Q,.string R,slv S,slv T] fun b =>
 Ze F fun V W=>ldV b V W fun w =>
 ldI b f 0 .u8 fun x=>ldS b f (0+1) fun y=>ldL b f (0+2) fun z=>ldL b f (0+3) fun A =>
 (exG w (fun g:oA × oA × Unit=> .func (.func 143) #[] ⟨[.pointer g.1,.pointer g.2.1]⟩) fun g=>C (x,y,z,A,()) g.1 g.2.1 (fun a =>
 Ze m fun p q=>ldP a p q fun r =>
 Ze r fun s t =>
 ldI a s t .i64 fun u =>
 Zy (u !=0) (
 i a) (
 v (IntKind.wrap .i64 (j+1),()) a)) b)\/(
 (exG w (fun h:oA × oA × Unit=> .func (.func 145) #[] ⟨[.pointer h.1,.pointer h.2.1]⟩) fun h=>D (x,y,z,A,()) h.1 h.2.1 (fun a =>
 Ze m fun p q=>ldP a p q fun r =>
 Ze r fun s t =>
 ldI a s t .i64 fun u =>
 Zy (u !=0) (
 i a) (
 v (IntKind.wrap .i64 (j+1),()) a)) b)\/(
 False))) (
 i d)) P.1) (0,()) n)) c
def Zbd (f165:Zdk):Zcv:=Xx Zw (Xo f165) YB
def ZbC (e:ZfP) (f:vTy) (g:oA) (h:oA) (i:oA) (d:HP) (j:Zc):Prop :=
 newC j (vCl f) 33 fun b a =>
 Ze g fun k l=>ldP a k l fun m =>
 ldI a b 0 .u8 fun n=>ldS a b (0+1) fun o=>ldL a b (0+2) fun p=>ldL a b (0+3) fun q =>
 e m (n,o,p,q,()) 6 (fun r c =>
 Zy r (
 Ze i fun s t=>ldI c s t .i64 fun u =>
 ldL c b (0+2) fun v =>
 Ze h fun w x=>ZCs 5 u fun y =>
 st c w (x+y*1) (slv v) fun z =>
 d z) (
 d c)) a
def YW:ZnM:=ZbC Zw
def Zah (x:Zj8) (F:Zq4) (G:Zcv) (H:Zcv) (I:Zcv) (J:ZnM) (K:Zcv) (L:ZnM) (g:oA) (M:vTy) (N:Option Nat) (c:HP) (O:Zc):Prop :=
 newC O (vCl M) 33 fun m i =>
 ldI i m 0 .u8 fun P =>
 Zy (P !=7) (
 Ze g fun Q R =>
 x (some ⟨Q,R,none⟩) 26 (fun S =>
 c S) i) (
 ldL i m (0+3) fun T =>
 ldL i m (0+2) fun U =>
 Zy ((T.len:Int) !=(U.len:Int)) (
 Ze g fun V W =>
 x (some ⟨V,W,none⟩) 26 (fun X =>
 c X) i) (
 ldL i m (0+3) fun A =>
 Zau (σ:=Int × Unit) (fun n Y o =>
 (fun (h:Int) =>
 Zy (decide (h<(A.len:Int))) (
 Zdb A.ptr A.len h 1 fun Z aa =>
 ldS o Z aa fun C =>
 Zi h fun D =>
 ZuD .string o N (.string C) fun j =>
 ZuI (j.getD (.nilFunc)) fun ab =>
 Zy ab (
 Ze g fun ac ad =>
 x (some ⟨ac,ad,none⟩) 26 (fun ae =>
 c ae) o) (
 ldL o m (0+3) fun B =>
 slc B.ptr B.cap 1 0 D B.cap fun af =>
 F af C (fun ag b =>
 Zy ag (
 Ze g fun ah ai =>
 x (some ⟨ah,ai,none⟩) 26 (fun aj =>
 c aj) b) (
 ldL b m (0+2) fun E =>
 Zdb E.ptr E.len D 4 fun y z =>
 ldI b y z .u8 fun p=>ldS b y (z+1) fun q=>ldL b y (z+2) fun r=>ldL b y (z+3) fun s =>
 (exG (j.getD (.nilFunc)) (fun t:oA × oA × Unit=> .func (.func 211) #[] ⟨[.pointer t.1,.pointer t.2.1]⟩) fun t=>G (p,q,r,s,()) t.1 t.2.1 (fun a =>
 Ze g fun d e =>
 ldI a d e .i64 fun f =>
 Zy (f !=0) (
 c a) (
 n (IntKind.wrap .i64 (h+1),()) a)) b)\/(
 (exG (j.getD (.nilFunc)) (fun u:oA × oA × Unit=> .func (.func 212) #[] ⟨[.pointer u.1,.pointer u.2.1]⟩) fun u=>H (p,q,r,s,()) u.1 u.2.1 (fun a =>
 Ze g fun d e =>
 ldI a d e .i64 fun f =>
 Zy (f !=0) (
 c a) (
 n (IntKind.wrap .i64 (h+1),()) a)) b)\/(
 (exG (j.getD (.nilFunc)) (fun v:oA × oA × Unit=> .func (.func 213) #[] ⟨[.pointer v.1,.pointer v.2.1]⟩) fun v=>I (p,q,r,s,()) v.1 v.2.1 (fun a =>
 Ze g fun d e =>
 ldI a d e .i64 fun f =>
 Zy (f !=0) (
 c a) (
 n (IntKind.wrap .i64 (h+1),()) a)) b)\/(
 (exG (j.getD (.nilFunc)) (fun k:oA × oA × oA × Unit=> .func (.func 214) #[] ⟨[.pointer k.1,.pointer k.2.1,.pointer k.2.2.1]⟩) fun k=>J (p,q,r,s,()) k.1 k.2.1 k.2.2.1 (fun a =>
 Ze g fun d e =>
 ldI a d e .i64 fun f =>
 Zy (f !=0) (
 c a) (
 n (IntKind.wrap .i64 (h+1),()) a)) b)\/(
 (exG (j.getD (.nilFunc)) (fun w:oA × oA × Unit=> .func (.func 216) #[] ⟨[.pointer w.1,.pointer w.2.1]⟩) fun w=>K (p,q,r,s,()) w.1 w.2.1 (fun a =>
 Ze g fun d e =>
 ldI a d e .i64 fun f =>
 Zy (f !=0) (
 c a) (
 n (IntKind.wrap .i64 (h+1),()) a)) b)\/(
 (exG (j.getD (.nilFunc)) (fun l:oA × oA × oA × Unit=> .func (.func 57) #[] ⟨[.pointer l.1,.pointer l.2.1,.pointer l.2.2.1]⟩) fun l=>L (p,q,r,s,()) l.1 l.2.1 l.2.2.1 (fun a =>
 Ze g fun d e =>
 ldI a d e .i64 fun f =>
 Zy (f !=0) (
 c a) (
 n (IntKind.wrap .i64 (h+1),()) a)) b)\/(
 False)))))))) o)) (
 c o)) Y.1) (0,()) i))
def Xt (f165:Zdk):Zdk:=Zah Yi Z1 YV Y0 YE YU (Zbd f165) YW
def ZH:Nat->Zdk
 | 0=>fun _ _ _ _ _=>False
 | n+1=>Xt (ZH n)
def ZJ:Zdk:=fun r v all K h=>∃ n,ZH n r v all K h
def Zfc (a:oA) (b:oA) (c:(oA × oA × Unit)->HP) (d:Zc):Prop :=
 newC d [.pointer a] 98 fun e f =>
 newC f [.pointer b] 211 fun g h =>
 c (some ⟨e,0,none⟩,some ⟨g,0,none⟩,()) h
def XG:Zbg:=Zfc
abbrev Zju:=oA->Sl->(oA × Unit)->((oA × oA × oA × Unit)->HP)->HP
def YP (b:oA) (c:Sl) (a:oA × Unit) (d:(oA × oA × oA × Unit)->HP) (e:Zc):Prop :=
 newC e [.pointer b] 98 fun f g =>
 newC g [slv c] 199 fun h i =>
 Y9 (Ye (.func (.func 140) #[] #[.pointer a.1])=true) <| newC i [.func (.func 140) #[] #[.pointer a.1]] 215 fun j k =>
 d (some ⟨f,0,none⟩,some ⟨h,0,none⟩,some ⟨j,0,none⟩,()) k
def Z5:Zju:=YP
def YO (b:oA) (c:Sl) (a:oA × Unit) (d:(oA × oA × oA × Unit)->HP) (e:Zc):Prop :=
 newC e [.pointer b] 98 fun f g =>
 newC g [slv c] 199 fun h i =>
 Y9 (Ye (.func (.func 141) #[] #[.pointer a.1])=true) <| newC i [.func (.func 141) #[] #[.pointer a.1]] 215 fun j k =>
 d (some ⟨f,0,none⟩,some ⟨h,0,none⟩,some ⟨j,0,none⟩,()) k
def Z4:Zju:=YO
abbrev Zw7:=oA->(vTy)->((ByteArray × ByteArray × Bool × Int × Int × ByteArray × Int × Int × Int × Bool × Int × Bool × Unit)->HP)->HP
def Zch (H:Zbg) (I:Zbg) (G:Zbg) (az:Zfz) (aA:Zju) (aB:Zfz) (aC:Zju) (aD:Zdk) (B:oA) (aE:vTy) (aF:(ByteArray × ByteArray × Bool × Int × Int × ByteArray × Int × Int × Int × Bool × Int × Bool × Unit)->HP) (aG:Zc):Prop :=
 newC aG (vCl aE) 33 fun c aH =>
 newC aH [.string e0B,.string e0B,.bool false,.int .i64 0,.int .u8 0,.string e0B,.int .u8 0,.int .i64 0,.int .i64 0,.bool false,.int .i64 0,.bool false] 75 fun C aI =>
 newC aI [.string e0B,.string e0B,.bool false,.int .i64 0,.int .u8 0,.string e0B,.int .u8 0,.int .i64 0,.int .i64 0,.bool false,.int .i64 0,.bool false] 75 fun y aJ =>
 sts aJ y 0 [.string e0B,.string (ByteArray.mk #[100,101,102,97,117,108,116]),.bool false,.int .i64 0,.int .u8 0,.string e0B,.int .u8 0,.int .i64 0,.int .i64 0,.bool false,.int .i64 0,.bool false] fun F =>
 ldI F c 0 .u8 fun d=>ldS F c (0+1) fun e=>ldL F c (0+2) fun f=>ldL F c (0+3) fun g =>
 Zz6 (σ:=Option Nat × (oA × oA × Unit) × (oA × oA × Unit) × (oA × oA × Unit) × (oA × oA × Unit) × Sl × (oA × oA × oA × Unit) × (oA × oA × Unit) × Sl × (oA × oA × oA × Unit) × (oA × oA × Unit) × (oA × oA × Unit) × (oA × oA × Unit) × (oA × oA × Unit) × (oA × oA × Unit) × Unit) (fun t a z u =>
 (fun (b:Option Nat) (j:oA × oA × Unit) (k:oA × oA × Unit) (l:oA × oA × Unit) (m:oA × oA × Unit) (v:Sl) (h:oA × oA × oA × Unit) (n:oA × oA × Unit) (w:Sl) (i:oA × oA × oA × Unit) (o:oA × oA × Unit) (p:oA × oA × Unit) (q:oA × oA × Unit) (r:oA × oA × Unit) (s:oA × oA × Unit) =>
 (a 2=false->(
 Zjn u fun aK L =>
 ndV L c d e f g <|
 t (XU a 2) (some aK,j,k,l,m,v,h,n,w,i,o,p,q,r,s,()) L)) /\
 (a 5=false->(
 H B (some ⟨y,0,none⟩) (fun M N =>
 ndV N c d e f g <|
 t (XU a 5) (b,(M.1,M.2.1,()),k,l,m,v,h,n,w,i,o,p,q,r,s,()) N) u)) /\
 (a 6=false->a 2=true->a 5=true->(
 Xu .string u b (.string (ByteArray.mk #[114,101,115,111,117,114,99,101])) (.func (.func 211) #[] #[.pointer j.1,.pointer j.2.1]) fun O =>
 ndV O c d e f g <|
 t (XU a 6) (b,j,k,l,m,v,h,n,w,i,o,p,q,r,s,()) O)) /\
 (a 9=false->a 5=true->(
 H B (some ⟨y,0+1,none⟩) (fun P Q =>
 ndV Q c d e f g <|
 t (XU a 9) (b,j,(P.1,P.2.1,()),l,m,v,h,n,w,i,o,p,q,r,s,()) Q) u)) /\
 (a 10=false->a 2=true->a 9=true->(
 Xu .string u b (.string (ByteArray.mk #[111,114,105,103,105,110])) (.func (.func 211) #[] #[.pointer k.1,.pointer k.2.1]) fun R =>
 ndV R c d e f g <|
 t (XU a 10) (b,j,k,l,m,v,h,n,w,i,o,p,q,r,s,()) R)) /\
 (a 13=false->a 9=true->(
 I B (some ⟨y,0+2,none⟩) (fun S T =>
 ndV T c d e f g <|
 t (XU a 13) (b,j,k,(S.1,S.2.1,()),m,v,h,n,w,i,o,p,q,r,s,()) T) u)) /\
 (a 14=false->a 2=true->a 13=true->(
 Xu .string u b (.string (ByteArray.mk #[116,104,114,101,97,100,115])) (.func (.func 212) #[] #[.pointer l.1,.pointer l.2.1]) fun U =>
 ndV U c d e f g <|
 t (XU a 14) (b,j,k,l,m,v,h,n,w,i,o,p,q,r,s,()) U)) /\
 (a 17=false->a 13=true->(
 G B (some ⟨y,0+3,none⟩) (fun V W =>
 ndV W c d e f g <|
 t (XU a 17) (b,j,k,l,(V.1,V.2.1,()),v,h,n,w,i,o,p,q,r,s,()) W) u)) /\
 (a 18=false->a 2=true->a 17=true->(
 Xu .string u b (.string (ByteArray.mk #[99,111,117,110,116])) (.func (.func 213) #[] #[.pointer m.1,.pointer m.2.1]) fun X =>
 ndV X c d e f g <|
 t (XU a 18) (b,j,k,l,m,v,h,n,w,i,o,p,q,r,s,()) X)) /\
 (a 20=false->a 17=true->(
 az (fun aL Y =>
 ndV Y c d e f g <|
 t (XU a 20) (b,j,k,l,m,aL,h,n,w,i,o,p,q,r,s,()) Y) u)) /\
 (a 22=false->a 20=true->a 20=true->(
 aA B v (some ⟨y,0,none⟩,()) (fun J Z =>
 ndV Z c d e f g <|
 t (XU a 22) (b,j,k,l,m,v,(J.1,J.2.1,J.2.2.1,()),n,w,i,o,p,q,r,s,()) Z) u)) /\
 (a 23=false->a 2=true->a 22=true->(
 Xu .string u b (.string (ByteArray.mk #[115,116,114,97,116,101,103,121])) (.func (.func 214) #[] #[.pointer h.1,.pointer h.2.1,.pointer h.2.2.1]) fun aa =>
 ndV aa c d e f g <|
 t (XU a 23) (b,j,k,l,m,v,h,n,w,i,o,p,q,r,s,()) aa)) /\
 (a 26=false->a 22=true->(
 H B (some ⟨y,0+5,none⟩) (fun ab ac =>
 ndV ac c d e f g <|
 t (XU a 26) (b,j,k,l,m,v,h,(ab.1,ab.2.1,()),w,i,o,p,q,r,s,()) ac) u)) /\
 (a 27=false->a 2=true->a 26=true->(
 Xu .string u b (.string (ByteArray.mk #[114,101,102])) (.func (.func 211) #[] #[.pointer n.1,.pointer n.2.1]) fun ad =>
 ndV ad c d e f g <|
 t (XU a 27) (b,j,k,l,m,v,h,n,w,i,o,p,q,r,s,()) ad)) /\
 (a 29=false->a 26=true->(
 aB (fun aM ae =>
 ndV ae c d e f g <|
 t (XU a 29) (b,j,k,l,m,v,h,n,aM,i,o,p,q,r,s,()) ae) u)) /\
 (a 31=false->a 29=true->a 29=true->(
 aC B w (some ⟨y,0,none⟩,()) (fun K af =>
 ndV af c d e f g <|
 t (XU a 31) (b,j,k,l,m,v,h,n,w,(K.1,K.2.1,K.2.2.1,()),o,p,q,r,s,()) af) u)) /\
 (a 32=false->a 2=true->a 31=true->(
 Xu .string u b (.string (ByteArray.mk #[115,104,97,112,101])) (.func (.func 214) #[] #[.pointer i.1,.pointer i.2.1,.pointer i.2.2.1]) fun ag =>
 ndV ag c d e f g <|
 t (XU a 32) (b,j,k,l,m,v,h,n,w,i,o,p,q,r,s,()) ag)) /\
 (a 35=false->a 31=true->(
 G B (some ⟨y,0+7,none⟩) (fun ah ai =>
 ndV ai c d e f g <|
 t (XU a 35) (b,j,k,l,m,v,h,n,w,i,(ah.1,ah.2.1,()),p,q,r,s,()) ai) u)) /\
 (a 36=false->a 2=true->a 35=true->(
 Xu .string u b (.string (ByteArray.mk #[119,97,114,109])) (.func (.func 213) #[] #[.pointer o.1,.pointer o.2.1]) fun aj =>
 ndV aj c d e f g <|
 t (XU a 36) (b,j,k,l,m,v,h,n,w,i,o,p,q,r,s,()) aj)) /\
 (a 39=false->a 35=true->(
 G B (some ⟨y,0+8,none⟩) (fun ak al =>
 ndV al c d e f g <|
 t (XU a 39) (b,j,k,l,m,v,h,n,w,i,o,(ak.1,ak.2.1,()),q,r,s,()) al) u)) /\
 (a 40=false->a 2=true->a 39=true->(
 Xu .string u b (.string (ByteArray.mk #[113,117,101,117,101])) (.func (.func 213) #[] #[.pointer p.1,.pointer p.2.1]) fun am =>
 ndV am c d e f g <|
 t (XU a 40) (b,j,k,l,m,v,h,n,w,i,o,p,q,r,s,()) am)) /\
 (a 43=false->a 39=true->(
 I B (some ⟨y,0+9,none⟩) (fun an ao =>
 ndV ao c d e f g <|
 t (XU a 43) (b,j,k,l,m,v,h,n,w,i,o,p,(an.1,an.2.1,()),r,s,()) ao) u)) /\
 (a 44=false->a 2=true->a 43=true->(
 Xu .string u b (.string (ByteArray.mk #[99,108,117,115,116,101,114])) (.func (.func 212) #[] #[.pointer q.1,.pointer q.2.1]) fun ap =>
 ndV ap c d e f g <|
 t (XU a 44) (b,j,k,l,m,v,h,n,w,i,o,p,q,r,s,()) ap)) /\
 (a 47=false->a 43=true->(
 G B (some ⟨y,0+10,none⟩) (fun aq ar =>
 ndV ar c d e f g <|
 t (XU a 47) (b,j,k,l,m,v,h,n,w,i,o,p,q,(aq.1,aq.2.1,()),s,()) ar) u)) /\
 (a 48=false->a 2=true->a 47=true->(
 Xu .string u b (.string (ByteArray.mk #[105,100])) (.func (.func 213) #[] #[.pointer r.1,.pointer r.2.1]) fun au =>
 ndV au c d e f g <|
 t (XU a 48) (b,j,k,l,m,v,h,n,w,i,o,p,q,r,s,()) au)) /\
 (a 51=false->a 47=true->(
 I B (some ⟨y,0+11,none⟩) (fun av aw =>
 ndV aw c d e f g <|
 t (XU a 51) (b,j,k,l,m,v,h,n,w,i,o,p,q,r,(av.1,av.2.1,()),()) aw) u)) /\
 (a 52=false->a 2=true->a 51=true->(
 Xu .string u b (.string (ByteArray.mk #[102,97,108,108,98,97,99,107])) (.func (.func 212) #[] #[.pointer s.1,.pointer s.2.1]) fun ax =>
 ndV ax c d e f g <|
 t (XU a 52) (b,j,k,l,m,v,h,n,w,i,o,p,q,r,s,()) ax))/\True) z.1 z.2.1 z.2.2.1 z.2.2.2.1 z.2.2.2.2.1 z.2.2.2.2.2.1 z.2.2.2.2.2.2.1 z.2.2.2.2.2.2.2.1 z.2.2.2.2.2.2.2.2.1 z.2.2.2.2.2.2.2.2.2.1 z.2.2.2.2.2.2.2.2.2.2.1 z.2.2.2.2.2.2.2.2.2.2.2.1 z.2.2.2.2.2.2.2.2.2.2.2.2.1 z.2.2.2.2.2.2.2.2.2.2.2.2.2.1 z.2.2.2.2.2.2.2.2.2.2.2.2.2.2.1) (fun x A ay =>
 (fun (aN:Option Nat) (bm:oA × oA × Unit) (bn:oA × oA × Unit) (bo:oA × oA × Unit) (bp:oA × oA × Unit) (bq:Sl) (br:oA × oA × oA × Unit) (bs:oA × oA × Unit) (bt:Sl) (bu:oA × oA × oA × Unit) (bv:oA × oA × Unit) (bw:oA × oA × Unit) (bx:oA × oA × Unit) (bz:oA × oA × Unit) (bA:oA × oA × Unit) =>
 x 2=true->x 5=true->x 6=true->x 9=true->x 10=true->x 13=true->x 14=true->x 17=true->x 18=true->x 20=true->x 22=true->x 23=true->x 26=true->x 27=true->x 29=true->x 31=true->x 32=true->x 35=true->x 36=true->x 39=true->x 40=true->x 43=true->x 44=true->x 47=true->x 48=true->x 51=true->x 52=true->(
 ndV ay c d e f g <|
 aD B (d,e,f,g,()) aN (fun D =>
 ldS D y 0 fun aO=>ldS D y (0+1) fun aP=>ldB D y (0+2) fun aQ=>ldI D y (0+3) .i64 fun aR=>ldI D y (0+4) .u8 fun aS=>ldS D y (0+5) fun aT=>ldI D y (0+6) .u8 fun aU=>ldI D y (0+7) .i64 fun aV=>ldI D y (0+8) .i64 fun aW=>ldB D y (0+9) fun aX=>ldI D y (0+10) .i64 fun aY=>ldB D y (0+11) fun aZ =>
 sts D C 0 [.string aO,.string aP,.bool aQ,.int .i64 aR,.int .u8 aS,.string aT,.int .u8 aU,.int .i64 aV,.int .i64 aW,.bool aX,.int .i64 aY,.bool aZ] fun E =>
 ldS E C 0 fun ba=>ldS E C (0+1) fun bb=>ldB E C (0+2) fun bc=>ldI E C (0+3) .i64 fun bd=>ldI E C (0+4) .u8 fun be=>ldS E C (0+5) fun bf=>ldI E C (0+6) .u8 fun bg=>ldI E C (0+7) .i64 fun bh=>ldI E C (0+8) .i64 fun bi=>ldB E C (0+9) fun bj=>ldI E C (0+10) .i64 fun bk=>ldB E C (0+11) fun bl=>aF (ba,bb,bc,bd,be,bf,bg,bh,bi,bj,bk,bl,()) E) ay)) A.1 A.2.1 A.2.2.1 A.2.2.2.1 A.2.2.2.2.1 A.2.2.2.2.2.1 A.2.2.2.2.2.2.1 A.2.2.2.2.2.2.2.1 A.2.2.2.2.2.2.2.2.1 A.2.2.2.2.2.2.2.2.2.1 A.2.2.2.2.2.2.2.2.2.2.1 A.2.2.2.2.2.2.2.2.2.2.2.1 A.2.2.2.2.2.2.2.2.2.2.2.2.1 A.2.2.2.2.2.2.2.2.2.2.2.2.2.1 A.2.2.2.2.2.2.2.2.2.2.2.2.2.2.1) F
def X1:Zw7:=Zch Yc XG ZT Xk Z5 Zab Z4 ZJ
abbrev Zfi:=Sl->(Sl->Int->Int->HP)->HP
def YL (o:Zw7) (i:Sl) (k:Sl->Int->Int->HP) (p:Zc):Prop :=
 Zi 0 fun M =>
 Zi 0 fun N =>
 Zau (σ:=Sl × Int × Unit) (fun q l b =>
 (fun (m:Sl) (e:Int) =>
 Zy (decide (e<(i.len:Int))) (
 Zdb i.ptr i.len e 4 fun f g =>
 ldI b f g .u8 fun r=>ldS b f (g+1) fun s=>ldL b f (g+2) fun t=>ldL b f (g+3) fun u =>
 newC b v0C 33 fun c v =>
 Zi e fun w =>
 sts v c 0 [.int .u8 r,.string s,slv t,slv u] fun x =>
 newC x [.int .i64 0] 102 fun j d =>
 ldI d c 0 .u8 fun y=>ldS d c (0+1) fun z=>ldL d c (0+2) fun A=>ldL d c (0+3) fun B =>
 o (some ⟨j,0,none⟩) (y,z,A,B,()) (fun a C =>
 newC C [.string a.1,.string a.2.1,.bool a.2.2.1,.int .i64 a.2.2.2.1,.int .u8 a.2.2.2.2.1,.string a.2.2.2.2.2.1,.int .u8 a.2.2.2.2.2.2.1,.int .i64 a.2.2.2.2.2.2.2.1,.int .i64 a.2.2.2.2.2.2.2.2.1,.bool a.2.2.2.2.2.2.2.2.2.1,.int .i64 a.2.2.2.2.2.2.2.2.2.2.1,.bool a.2.2.2.2.2.2.2.2.2.2.2.1] 75 fun D n =>
 rdS ⟨some ⟨D,0,none⟩,1,1⟩ 12 n fun E=>app 75 12 120 [.string e0B,.string e0B,.bool false,.int .i64 0,.int .u8 0,.string e0B,.int .u8 0,.int .i64 0,.int .i64 0,.bool false,.int .i64 0,.bool false] m 1 E n fun F h =>
 ldI h j 0 .i64 fun G =>
 Zy (G !=0) (
 ldI h j 0 .i64 fun H =>
 Zi w fun I =>
 Zi H fun J =>
 k n0S I J h) (
 q (F,IntKind.wrap .i64 (e+1),()) h)) d) (
 Zi 0 fun K =>
 Zi 0 fun L =>
 k m K L b)) l.1 l.2.1) (n0S,0,()) p
def Z0:Zfi:=YL X1
abbrev Zfh:=oA->oA->(Int->Int->HP)->HP
def Zcn (b:Zfi) (c:oA) (d:oA) (e:Int->Int->HP) (a:Zc):Prop :=
 Zi 0 fun s =>
 Zi 0 fun t =>
 Ze c fun f g=>ZCs 5 0 fun h =>
 ldL a f (g+h*1) fun i =>
 b i (fun j k l m =>
 Ze d fun n o =>
 st m n o (slv j) fun p =>
 Zi k fun q =>
 Zi l fun r =>
 e q r p) a
def X6:Zfh:=Zcn Z0
def YF (b:oA) (c:Sl) (a:oA × Unit) (d:(oA × oA × oA × Unit)->HP) (e:Zc):Prop :=
 newC e [.pointer b] 98 fun f g =>
 newC g [slv c] 199 fun h i =>
 Y9 (Ye (.func (.func 142) #[] #[.pointer a.1])=true) <| newC i [.func (.func 142) #[] #[.pointer a.1]] 215 fun j k =>
 d (some ⟨f,0,none⟩,some ⟨h,0,none⟩,some ⟨j,0,none⟩,()) k
def ZW:Zju:=YF
abbrev Zw6:=oA->(vTy)->((ByteArray × Int × Int × Int × Int × Int × Int × Unit)->HP)->HP
def ZbA (Z:Zbg) (aa:Zfz) (ab:Zju) (z:Zbg) (ac:Zdk) (v:oA) (ad:vTy) (ae:(ByteArray × Int × Int × Int × Int × Int × Int × Unit)->HP) (af:Zc):Prop :=
 newC af (vCl ad) 33 fun c ag =>
 newC ag [.string e0B,.int .u8 0,.int .i64 0,.int .i64 0,.int .i64 0,.int .i64 0,.int .i64 0] 80 fun w ah =>
 newC ah [.string e0B,.int .u8 0,.int .i64 0,.int .i64 0,.int .i64 0,.int .i64 0,.int .i64 0] 80 fun s A =>
 ldI A c 0 .u8 fun d=>ldS A c (0+1) fun e=>ldL A c (0+2) fun f=>ldL A c (0+3) fun g =>
 Zz6 (σ:=Option Nat × (oA × oA × Unit) × Sl × (oA × oA × oA × Unit) × (oA × oA × Unit) × (oA × oA × Unit) × (oA × oA × Unit) × (oA × oA × Unit) × (oA × oA × Unit) × Unit) (fun o a t p =>
 (fun (b:Option Nat) (i:oA × oA × Unit) (q:Sl) (h:oA × oA × oA × Unit) (j:oA × oA × Unit) (k:oA × oA × Unit) (l:oA × oA × Unit) (m:oA × oA × Unit) (n:oA × oA × Unit) =>
 (a 2=false->(
 Zjn p fun ai C =>
 ndV C c d e f g <|
 o (XU a 2) (some ai,i,q,h,j,k,l,m,n,()) C)) /\
 (a 5=false->(
 Z v (some ⟨s,0,none⟩) (fun D E =>
 ndV E c d e f g <|
 o (XU a 5) (b,(D.1,D.2.1,()),q,h,j,k,l,m,n,()) E) p)) /\
 (a 6=false->a 2=true->a 5=true->(
 Xu .string p b (.string (ByteArray.mk #[114,101,115,111,117,114,99,101])) (.func (.func 211) #[] #[.pointer i.1,.pointer i.2.1]) fun F =>
 ndV F c d e f g <|
 o (XU a 6) (b,i,q,h,j,k,l,m,n,()) F)) /\
 (a 8=false->a 5=true->(
 aa (fun aj G =>
 ndV G c d e f g <|
 o (XU a 8) (b,i,aj,h,j,k,l,m,n,()) G) p)) /\
 (a 10=false->a 8=true->a 8=true->(
 ab v q (some ⟨s,0,none⟩,()) (fun B H =>
 ndV H c d e f g <|
 o (XU a 10) (b,i,q,(B.1,B.2.1,B.2.2.1,()),j,k,l,m,n,()) H) p)) /\
 (a 11=false->a 2=true->a 10=true->(
 Xu .string p b (.string (ByteArray.mk #[103,114,97,100,101])) (.func (.func 214) #[] #[.pointer h.1,.pointer h.2.1,.pointer h.2.2.1]) fun I =>
 ndV I c d e f g <|
 o (XU a 11) (b,i,q,h,j,k,l,m,n,()) I)) /\
 (a 14=false->a 10=true->(
 z v (some ⟨s,0+2,none⟩) (fun J K =>
 ndV K c d e f g <|
 o (XU a 14) (b,i,q,h,(J.1,J.2.1,()),k,l,m,n,()) K) p)) /\
 (a 15=false->a 2=true->a 14=true->(
 Xu .string p b (.string (ByteArray.mk #[99,111,117,110,116])) (.func (.func 213) #[] #[.pointer j.1,.pointer j.2.1]) fun L =>
 ndV L c d e f g <|
 o (XU a 15) (b,i,q,h,j,k,l,m,n,()) L)) /\
 (a 18=false->a 14=true->(
 z v (some ⟨s,0+3,none⟩) (fun M N =>
 ndV N c d e f g <|
 o (XU a 18) (b,i,q,h,j,(M.1,M.2.1,()),l,m,n,()) N) p)) /\
 (a 19=false->a 2=true->a 18=true->(
 Xu .string p b (.string (ByteArray.mk #[115,108,111,119])) (.func (.func 213) #[] #[.pointer k.1,.pointer k.2.1]) fun O =>
 ndV O c d e f g <|
 o (XU a 19) (b,i,q,h,j,k,l,m,n,()) O)) /\
 (a 22=false->a 18=true->(
 z v (some ⟨s,0+4,none⟩) (fun P Q =>
 ndV Q c d e f g <|
 o (XU a 22) (b,i,q,h,j,k,(P.1,P.2.1,()),m,n,()) Q) p)) /\
 (a 23=false->a 2=true->a 22=true->(
 Xu .string p b (.string (ByteArray.mk #[108,101,97,115,116])) (.func (.func 213) #[] #[.pointer l.1,.pointer l.2.1]) fun R =>
 ndV R c d e f g <|
 o (XU a 23) (b,i,q,h,j,k,l,m,n,()) R)) /\
 (a 26=false->a 22=true->(
 z v (some ⟨s,0+5,none⟩) (fun S T =>
 ndV T c d e f g <|
 o (XU a 26) (b,i,q,h,j,k,l,(S.1,S.2.1,()),n,()) T) p)) /\
 (a 27=false->a 2=true->a 26=true->(
 Xu .string p b (.string (ByteArray.mk #[119,105,110,100,111,119])) (.func (.func 213) #[] #[.pointer m.1,.pointer m.2.1]) fun U =>
 ndV U c d e f g <|
 o (XU a 27) (b,i,q,h,j,k,l,m,n,()) U)) /\
 (a 30=false->a 26=true->(
 z v (some ⟨s,0+6,none⟩) (fun V W =>
 ndV W c d e f g <|
 o (XU a 30) (b,i,q,h,j,k,l,m,(V.1,V.2.1,()),()) W) p)) /\
 (a 31=false->a 2=true->a 30=true->(
 Xu .string p b (.string (ByteArray.mk #[114,101,99,111,118,101,114])) (.func (.func 213) #[] #[.pointer n.1,.pointer n.2.1]) fun X =>
 ndV X c d e f g <|
 o (XU a 31) (b,i,q,h,j,k,l,m,n,()) X))/\True) t.1 t.2.1 t.2.2.1 t.2.2.2.1 t.2.2.2.2.1 t.2.2.2.2.2.1 t.2.2.2.2.2.2.1 t.2.2.2.2.2.2.2.1 t.2.2.2.2.2.2.2.2.1) (fun r u Y =>
 (fun (ak:Option Nat) (aB:oA × oA × Unit) (aC:Sl) (aD:oA × oA × oA × Unit) (aE:oA × oA × Unit) (aF:oA × oA × Unit) (aG:oA × oA × Unit) (aH:oA × oA × Unit) (aI:oA × oA × Unit) =>
 r 2=true->r 5=true->r 6=true->r 8=true->r 10=true->r 11=true->r 14=true->r 15=true->r 18=true->r 19=true->r 22=true->r 23=true->r 26=true->r 27=true->r 30=true->r 31=true->(
 ndV Y c d e f g <|
 ac v (d,e,f,g,()) ak (fun x =>
 ldS x s 0 fun al=>ldI x s (0+1) .u8 fun am=>ldI x s (0+2) .i64 fun an=>ldI x s (0+3) .i64 fun ao=>ldI x s (0+4) .i64 fun ap=>ldI x s (0+5) .i64 fun aq=>ldI x s (0+6) .i64 fun ar =>
 sts x w 0 [.string al,.int .u8 am,.int .i64 an,.int .i64 ao,.int .i64 ap,.int .i64 aq,.int .i64 ar] fun y =>
 ldS y w 0 fun au=>ldI y w (0+1) .u8 fun av=>ldI y w (0+2) .i64 fun aw=>ldI y w (0+3) .i64 fun ax=>ldI y w (0+4) .i64 fun ay=>ldI y w (0+5) .i64 fun az=>ldI y w (0+6) .i64 fun aA=>ae (au,av,aw,ax,ay,az,aA,()) y) Y)) u.1 u.2.1 u.2.2.1 u.2.2.2.1 u.2.2.2.2.1 u.2.2.2.2.2.1 u.2.2.2.2.2.2.1 u.2.2.2.2.2.2.2.1 u.2.2.2.2.2.2.2.2.1) A
def XI:Zw6:=ZbA Yc Zac ZW ZT ZJ
def YD (o:Zw6) (i:Sl) (k:Sl->Int->Int->HP) (p:Zc):Prop :=
 Zi 0 fun M =>
 Zi 0 fun N =>
 Zau (σ:=Sl × Int × Unit) (fun q l b =>
 (fun (m:Sl) (e:Int) =>
 Zy (decide (e<(i.len:Int))) (
 Zdb i.ptr i.len e 4 fun f g =>
 ldI b f g .u8 fun r=>ldS b f (g+1) fun s=>ldL b f (g+2) fun t=>ldL b f (g+3) fun u =>
 newC b v0C 33 fun c v =>
 Zi e fun w =>
 sts v c 0 [.int .u8 r,.string s,slv t,slv u] fun x =>
 newC x [.int .i64 0] 102 fun j d =>
 ldI d c 0 .u8 fun y=>ldS d c (0+1) fun z=>ldL d c (0+2) fun A=>ldL d c (0+3) fun B =>
 o (some ⟨j,0,none⟩) (y,z,A,B,()) (fun a C =>
 newC C [.string a.1,.int .u8 a.2.1,.int .i64 a.2.2.1,.int .i64 a.2.2.2.1,.int .i64 a.2.2.2.2.1,.int .i64 a.2.2.2.2.2.1,.int .i64 a.2.2.2.2.2.2.1] 80 fun D n =>
 rdS ⟨some ⟨D,0,none⟩,1,1⟩ 7 n fun E=>app 80 7 64 [.string e0B,.int .u8 0,.int .i64 0,.int .i64 0,.int .i64 0,.int .i64 0,.int .i64 0] m 1 E n fun F h =>
 ldI h j 0 .i64 fun G =>
 Zy (G !=0) (
 ldI h j 0 .i64 fun H =>
 Zi w fun I =>
 Zi H fun J =>
 k n0S I J h) (
 q (F,IntKind.wrap .i64 (e+1),()) h)) d) (
 Zi 0 fun K =>
 Zi 0 fun L =>
 k m K L b)) l.1 l.2.1) (n0S,0,()) p
def ZR:Zfi:=YD XI
def Zcm (b:Zfi) (c:oA) (d:oA) (e:Int->Int->HP) (a:Zc):Prop :=
 Zi 0 fun s =>
 Zi 0 fun t =>
 Ze c fun f g=>ZCs 5 1 fun h =>
 ldL a f (g+h*1) fun i =>
 b i (fun j k l m =>
 Ze d fun n o =>
 st m n (o+1) (slv j) fun p =>
 Zi k fun q =>
 Zi l fun r =>
 e q r p) a
def X5:Zfh:=Zcm ZR
abbrev ZnL:=oA->(oA × oA × Unit)->((oA × oA × Unit)->HP)->HP
def YQ (b:oA) (a:oA × oA × Unit) (c:(oA × oA × Unit)->HP) (d:Zc):Prop :=
 newC d [.pointer b] 98 fun e f =>
 Y9 (Ye (.func (.func 143) #[] #[.pointer a.1,.pointer a.2.1])=true) <| newC f [.func (.func 143) #[] #[.pointer a.1,.pointer a.2.1]] 104 fun g h =>
 c (some ⟨e,0,none⟩,some ⟨g,0,none⟩,()) h
def Z6:ZnL:=YQ
abbrev Zw5:=oA->(vTy)->((ByteArray × Int × Int × Int × Sl × Unit)->HP)->HP
def ZcT (V:Zbg) (P:Zbg) (W:ZnL) (X:Zdk) (Y:oA) (Z:vTy) (aa:(ByteArray × Int × Int × Int × Sl × Unit)->HP) (ab:Zc):Prop :=
 newC ab [.pointer Y] 98 fun a ac =>
 newC ac (vCl Z) 33 fun c ad =>
 newC ad [.string e0B,.int .i64 0,.int .i64 0,.int .i64 0,n0V] 85 fun L ae =>
 newC ae [.string e0B,.int .i64 0,.int .i64 0,.int .i64 0,n0V] 85 fun y t =>
 ldP t a 0 fun e =>
 ldI t c 0 .u8 fun f=>ldS t c (0+1) fun g=>ldL t c (0+2) fun h=>ldL t c (0+3) fun i =>
 ldP t a 0 fun j =>
 ldP t a 0 fun k =>
 ldP t a 0 fun l =>
 ldP t a 0 fun m =>
 ldP t a 0 fun n =>
 Zz6 (σ:=Option Nat × (oA × oA × Unit) × (oA × oA × Unit) × (oA × oA × Unit) × (oA × oA × Unit) × (oA × oA × Unit) × Unit) (fun u b M v =>
 (fun (d:Option Nat) (o:oA × oA × Unit) (p:oA × oA × Unit) (q:oA × oA × Unit) (r:oA × oA × Unit) (s:oA × oA × Unit) =>
 (b 2=false->(
 Zjn v fun af z =>
 ndP z a 0 n <|
 ndP z a 0 m <|
 ndP z a 0 l <|
 ndP z a 0 k <|
 ndP z a 0 j <|
 ndV z c f g h i <|
 ndP z a 0 e <|
 u (XU b 2) (some af,o,p,q,r,s,()) z)) /\
 (b 5=false->(
 V j (some ⟨y,0,none⟩) (fun Q G =>
 ndP G a 0 n <|
 ndP G a 0 m <|
 ndP G a 0 l <|
 ndP G a 0 k <|
 ndV G c f g h i <|
 ndP G a 0 e <|
 u (XU b 5) (d,(Q.1,Q.2.1,()),p,q,r,s,()) G) v)) /\
 (b 6=false->b 2=true->b 5=true->(
 Xu .string v d (.string (ByteArray.mk #[114,101,115,111,117,114,99,101])) (.func (.func 211) #[] #[.pointer o.1,.pointer o.2.1]) fun A =>
 ndP A a 0 n <|
 ndP A a 0 m <|
 ndP A a 0 l <|
 ndP A a 0 k <|
 ndP A a 0 j <|
 ndV A c f g h i <|
 ndP A a 0 e <|
 u (XU b 6) (d,o,p,q,r,s,()) A)) /\
 (b 9=false->b 5=true->(
 P k (some ⟨y,0+1,none⟩) (fun R H =>
 ndP H a 0 n <|
 ndP H a 0 m <|
 ndP H a 0 l <|
 ndP H a 0 j <|
 ndV H c f g h i <|
 ndP H a 0 e <|
 u (XU b 9) (d,o,(R.1,R.2.1,()),q,r,s,()) H) v)) /\
 (b 10=false->b 2=true->b 9=true->(
 Xu .string v d (.string (ByteArray.mk #[105,110,100,101,120])) (.func (.func 213) #[] #[.pointer p.1,.pointer p.2.1]) fun B =>
 ndP B a 0 n <|
 ndP B a 0 m <|
 ndP B a 0 l <|
 ndP B a 0 k <|
 ndP B a 0 j <|
 ndV B c f g h i <|
 ndP B a 0 e <|
 u (XU b 10) (d,o,p,q,r,s,()) B)) /\
 (b 13=false->b 9=true->(
 P l (some ⟨y,0+2,none⟩) (fun S I =>
 ndP I a 0 n <|
 ndP I a 0 m <|
 ndP I a 0 k <|
 ndP I a 0 j <|
 ndV I c f g h i <|
 ndP I a 0 e <|
 u (XU b 13) (d,o,p,(S.1,S.2.1,()),r,s,()) I) v)) /\
 (b 14=false->b 2=true->b 13=true->(
 Xu .string v d (.string (ByteArray.mk #[99,111,117,110,116])) (.func (.func 213) #[] #[.pointer q.1,.pointer q.2.1]) fun C =>
 ndP C a 0 n <|
 ndP C a 0 m <|
 ndP C a 0 l <|
 ndP C a 0 k <|
 ndP C a 0 j <|
 ndV C c f g h i <|
 ndP C a 0 e <|
 u (XU b 14) (d,o,p,q,r,s,()) C)) /\
 (b 17=false->b 13=true->(
 P m (some ⟨y,0+3,none⟩) (fun T J =>
 ndP J a 0 n <|
 ndP J a 0 l <|
 ndP J a 0 k <|
 ndP J a 0 j <|
 ndV J c f g h i <|
 ndP J a 0 e <|
 u (XU b 17) (d,o,p,q,(T.1,T.2.1,()),s,()) J) v)) /\
 (b 18=false->b 2=true->b 17=true->(
 Xu .string v d (.string (ByteArray.mk #[115,101,99,111,110,100,115])) (.func (.func 213) #[] #[.pointer r.1,.pointer r.2.1]) fun D =>
 ndP D a 0 n <|
 ndP D a 0 m <|
 ndP D a 0 l <|
 ndP D a 0 k <|
 ndP D a 0 j <|
 ndV D c f g h i <|
 ndP D a 0 e <|
 u (XU b 18) (d,o,p,q,r,s,()) D)) /\
 (b 21=false->b 17=true->(
 W n (some ⟨a,0,none⟩,some ⟨y,0,none⟩,()) (fun U K =>
 ndP K a 0 m <|
 ndP K a 0 l <|
 ndP K a 0 k <|
 ndP K a 0 j <|
 ndV K c f g h i <|
 ndP K a 0 e <|
 u (XU b 21) (d,o,p,q,r,(U.1,U.2.1,()),()) K) v)) /\
 (b 22=false->b 2=true->b 21=true->(
 Xu .string v d (.string (ByteArray.mk #[105,116,101,109,115])) (.func (.func 216) #[] #[.pointer s.1,.pointer s.2.1]) fun E =>
 ndP E a 0 n <|
 ndP E a 0 m <|
 ndP E a 0 l <|
 ndP E a 0 k <|
 ndP E a 0 j <|
 ndV E c f g h i <|
 ndP E a 0 e <|
 u (XU b 22) (d,o,p,q,r,s,()) E))/\True) M.1 M.2.1 M.2.2.1 M.2.2.2.1 M.2.2.2.2.1 M.2.2.2.2.2.1) (fun w N F =>
 (fun (ag:Option Nat) (ar:oA × oA × Unit) (au:oA × oA × Unit) (av:oA × oA × Unit) (aw:oA × oA × Unit) (ax:oA × oA × Unit) =>
 w 2=true->w 5=true->w 6=true->w 9=true->w 10=true->w 13=true->w 14=true->w 17=true->w 18=true->w 21=true->w 22=true->(
 ndP F a 0 n <|
 ndP F a 0 m <|
 ndP F a 0 l <|
 ndP F a 0 k <|
 ndP F a 0 j <|
 ndV F c f g h i <|
 ndP F a 0 e <|
 X e (f,g,h,i,()) ag (fun x =>
 ndP x a 0 n <|
 ndP x a 0 m <|
 ndP x a 0 l <|
 ndP x a 0 k <|
 ndP x a 0 j <|
 ldS x y 0 fun ah=>ldI x y (0+1) .i64 fun ai=>ldI x y (0+2) .i64 fun aj=>ldI x y (0+3) .i64 fun ak=>ldL x y (0+4) fun al =>
 sts x L 0 [.string ah,.int .i64 ai,.int .i64 aj,.int .i64 ak,slv al] fun O =>
 ldS O L 0 fun am=>ldI O L (0+1) .i64 fun an=>ldI O L (0+2) .i64 fun ao=>ldI O L (0+3) .i64 fun ap=>ldL O L (0+4) fun aq=>aa (am,an,ao,ap,aq,()) O) F)) N.1 N.2.1 N.2.2.1 N.2.2.2.1 N.2.2.2.2.1 N.2.2.2.2.2.1) t
def Zan:Zw5:=ZcT Yc ZT Z6 ZJ
def YY (o:Zw5) (i:Sl) (k:Sl->Int->Int->HP) (p:Zc):Prop :=
 Zi 0 fun M =>
 Zi 0 fun N =>
 Zau (σ:=Sl × Int × Unit) (fun q l a =>
 (fun (m:Sl) (e:Int) =>
 Zy (decide (e<(i.len:Int))) (
 Zdb i.ptr i.len e 4 fun f g =>
 ldI a f g .u8 fun r=>ldS a f (g+1) fun s=>ldL a f (g+2) fun t=>ldL a f (g+3) fun u =>
 newC a v0C 33 fun b v =>
 Zi e fun w =>
 sts v b 0 [.int .u8 r,.string s,slv t,slv u] fun x =>
 newC x [.int .i64 0] 102 fun j c =>
 ldI c b 0 .u8 fun y=>ldS c b (0+1) fun z=>ldL c b (0+2) fun A=>ldL c b (0+3) fun B =>
 o (some ⟨j,0,none⟩) (y,z,A,B,()) (fun d C =>
 newC C [.string d.1,.int .i64 d.2.1,.int .i64 d.2.2.1,.int .i64 d.2.2.2.1,slv d.2.2.2.2.1] 85 fun D n =>
 rdS ⟨some ⟨D,0,none⟩,1,1⟩ 5 n fun E=>app 85 5 64 [.string e0B,.int .i64 0,.int .i64 0,.int .i64 0,n0V] m 1 E n fun F h =>
 ldI h j 0 .i64 fun G =>
 Zy (G !=0) (
 ldI h j 0 .i64 fun H =>
 Zi w fun I =>
 Zi H fun J =>
 k n0S I J h) (
 q (F,IntKind.wrap .i64 (e+1),()) h)) c) (
 Zi 0 fun K =>
 Zi 0 fun L =>
 k m K L a)) l.1 l.2.1) (n0S,0,()) p
def Ya:Zfi:=YY Zan
def Zcl (b:Zfi) (c:oA) (d:oA) (e:Int->Int->HP) (a:Zc):Prop :=
 Zi 0 fun s =>
 Zi 0 fun t =>
 Ze c fun f g=>ZCs 5 2 fun h =>
 ldL a f (g+h*1) fun i =>
 b i (fun j k l m =>
 Ze d fun n o =>
 st m n (o+2) (slv j) fun p =>
 Zi k fun q =>
 Zi l fun r =>
 e q r p) a
def X4:Zfh:=Zcl Ya
abbrev Zw4:=oA->(vTy)->((Int × Int × Int × Int × Int × Unit)->HP)->HP
def Zby (w:Zbg) (P:Zdk) (q:oA) (Q:vTy) (R:(Int × Int × Int × Int × Int × Unit)->HP) (S:Zc):Prop :=
 newC S (vCl Q) 33 fun b T =>
 newC T [.int .i64 0,.int .i64 0,.int .i64 0,.int .i64 0,.int .i64 0] 91 fun r U =>
 newC U [.int .i64 0,.int .i64 0,.int .i64 0,.int .i64 0,.int .i64 0] 91 fun m V =>
 sts V m 0 [.int .i64 (-1),.int .i64 (-1),.int .i64 (-1),.int .i64 (-1),.int .i64 (-1)] fun x =>
 ldI x b 0 .u8 fun d=>ldS x b (0+1) fun e=>ldL x b (0+2) fun f=>ldL x b (0+3) fun g =>
 Zz6 (σ:=Option Nat × (oA × oA × Unit) × (oA × oA × Unit) × (oA × oA × Unit) × (oA × oA × Unit) × (oA × oA × Unit) × Unit) (fun n a s o =>
 (fun (c:Option Nat) (h:oA × oA × Unit) (i:oA × oA × Unit) (j:oA × oA × Unit) (k:oA × oA × Unit) (l:oA × oA × Unit) =>
 (a 2=false->(
 Zjn o fun W y =>
 ndV y b d e f g <|
 n (XU a 2) (some W,h,i,j,k,l,()) y)) /\
 (a 5=false->(
 w q (some ⟨m,0,none⟩) (fun z A =>
 ndV A b d e f g <|
 n (XU a 5) (c,(z.1,z.2.1,()),i,j,k,l,()) A) o)) /\
 (a 6=false->a 2=true->a 5=true->(
 Xu .string o c (.string (ByteArray.mk #[113,112,115])) (.func (.func 213) #[] #[.pointer h.1,.pointer h.2.1]) fun B =>
 ndV B b d e f g <|
 n (XU a 6) (c,h,i,j,k,l,()) B)) /\
 (a 9=false->a 5=true->(
 w q (some ⟨m,0+1,none⟩) (fun C D =>
 ndV D b d e f g <|
 n (XU a 9) (c,h,(C.1,C.2.1,()),j,k,l,()) D) o)) /\
 (a 10=false->a 2=true->a 9=true->(
 Xu .string o c (.string (ByteArray.mk #[116,104,114,101,97,100,115])) (.func (.func 213) #[] #[.pointer i.1,.pointer i.2.1]) fun E =>
 ndV E b d e f g <|
 n (XU a 10) (c,h,i,j,k,l,()) E)) /\
 (a 13=false->a 9=true->(
 w q (some ⟨m,0+2,none⟩) (fun F G =>
 ndV G b d e f g <|
 n (XU a 13) (c,h,i,(F.1,F.2.1,()),k,l,()) G) o)) /\
 (a 14=false->a 2=true->a 13=true->(
 Xu .string o c (.string (ByteArray.mk #[114,116])) (.func (.func 213) #[] #[.pointer j.1,.pointer j.2.1]) fun H =>
 ndV H b d e f g <|
 n (XU a 14) (c,h,i,j,k,l,()) H)) /\
 (a 17=false->a 13=true->(
 w q (some ⟨m,0+3,none⟩) (fun I J =>
 ndV J b d e f g <|
 n (XU a 17) (c,h,i,j,(I.1,I.2.1,()),l,()) J) o)) /\
 (a 18=false->a 2=true->a 17=true->(
 Xu .string o c (.string (ByteArray.mk #[108,111,97,100])) (.func (.func 213) #[] #[.pointer k.1,.pointer k.2.1]) fun K =>
 ndV K b d e f g <|
 n (XU a 18) (c,h,i,j,k,l,()) K)) /\
 (a 21=false->a 17=true->(
 w q (some ⟨m,0+4,none⟩) (fun L M =>
 ndV M b d e f g <|
 n (XU a 21) (c,h,i,j,k,(L.1,L.2.1,()),()) M) o)) /\
 (a 22=false->a 2=true->a 21=true->(
 Xu .string o c (.string (ByteArray.mk #[99,112,117])) (.func (.func 213) #[] #[.pointer l.1,.pointer l.2.1]) fun N =>
 ndV N b d e f g <|
 n (XU a 22) (c,h,i,j,k,l,()) N))/\True) s.1 s.2.1 s.2.2.1 s.2.2.2.1 s.2.2.2.2.1 s.2.2.2.2.2.1) (fun p t O =>
 (fun (X:Option Nat) (ai:oA × oA × Unit) (aj:oA × oA × Unit) (ak:oA × oA × Unit) (al:oA × oA × Unit) (am:oA × oA × Unit) =>
 p 2=true->p 5=true->p 6=true->p 9=true->p 10=true->p 13=true->p 14=true->p 17=true->p 18=true->p 21=true->p 22=true->(
 ndV O b d e f g <|
 P q (d,e,f,g,()) X (fun u =>
 ldI u m 0 .i64 fun Y=>ldI u m (0+1) .i64 fun Z=>ldI u m (0+2) .i64 fun aa=>ldI u m (0+3) .i64 fun ab=>ldI u m (0+4) .i64 fun ac =>
 sts u r 0 [.int .i64 Y,.int .i64 Z,.int .i64 aa,.int .i64 ab,.int .i64 ac] fun v =>
 ldI v r 0 .i64 fun ad=>ldI v r (0+1) .i64 fun ae=>ldI v r (0+2) .i64 fun af=>ldI v r (0+3) .i64 fun ag=>ldI v r (0+4) .i64 fun ah=>R (ad,ae,af,ag,ah,()) v) O)) t.1 t.2.1 t.2.2.1 t.2.2.2.1 t.2.2.2.2.1 t.2.2.2.2.2.1) x
def XH:Zw4:=Zby ZT ZJ
def Yz (o:Zw4) (i:Sl) (k:Sl->Int->Int->HP) (p:Zc):Prop :=
 Zi 0 fun M =>
 Zi 0 fun N =>
 Zau (σ:=Sl × Int × Unit) (fun q l a =>
 (fun (m:Sl) (e:Int) =>
 Zy (decide (e<(i.len:Int))) (
 Zdb i.ptr i.len e 4 fun f g =>
 ldI a f g .u8 fun r=>ldS a f (g+1) fun s=>ldL a f (g+2) fun t=>ldL a f (g+3) fun u =>
 newC a v0C 33 fun b v =>
 Zi e fun w =>
 sts v b 0 [.int .u8 r,.string s,slv t,slv u] fun x =>
 newC x [.int .i64 0] 102 fun j c =>
 ldI c b 0 .u8 fun y=>ldS c b (0+1) fun z=>ldL c b (0+2) fun A=>ldL c b (0+3) fun B =>
 o (some ⟨j,0,none⟩) (y,z,A,B,()) (fun d C =>
 newC C [.int .i64 d.1,.int .i64 d.2.1,.int .i64 d.2.2.1,.int .i64 d.2.2.2.1,.int .i64 d.2.2.2.2.1] 91 fun D n =>
 rdS ⟨some ⟨D,0,none⟩,1,1⟩ 5 n fun E=>app 91 5 40 [.int .i64 0,.int .i64 0,.int .i64 0,.int .i64 0,.int .i64 0] m 1 E n fun F h =>
 ldI h j 0 .i64 fun G =>
 Zy (G !=0) (
 ldI h j 0 .i64 fun H =>
 Zi w fun I =>
 Zi H fun J =>
 k n0S I J h) (
 q (F,IntKind.wrap .i64 (e+1),()) h)) c) (
 Zi 0 fun K =>
 Zi 0 fun L =>
 k m K L a)) l.1 l.2.1) (n0S,0,()) p
def ZN:Zfi:=Yz XH
def Zck (b:Zfi) (c:oA) (d:oA) (e:Int->Int->HP) (a:Zc):Prop :=
 Zi 0 fun s =>
 Zi 0 fun t =>
 Ze c fun f g=>ZCs 5 3 fun h =>
 ldL a f (g+h*1) fun i =>
 b i (fun j k l m =>
 Ze d fun n o =>
 st m n (o+3) (slv j) fun p =>
 Zi k fun q =>
 Zi l fun r =>
 e q r p) a
def X3:Zfh:=Zck ZN
def YK (b:oA) (a:oA × oA × Unit) (c:(oA × oA × Unit)->HP) (d:Zc):Prop :=
 newC d [.pointer b] 98 fun e f =>
 Y9 (Ye (.func (.func 145) #[] #[.pointer a.1,.pointer a.2.1])=true) <| newC f [.func (.func 145) #[] #[.pointer a.1,.pointer a.2.1]] 104 fun g h =>
 c (some ⟨e,0,none⟩,some ⟨g,0,none⟩,()) h
def ZZ:ZnL:=YK
abbrev Zw3:=oA->(vTy)->((ByteArray × Bool × Sl × Unit)->HP)->HP
def Zcf (K:Zbg) (L:Zbg) (M:ZnL) (N:Zdk) (O:oA) (P:vTy) (Q:(ByteArray × Bool × Sl × Unit)->HP) (R:Zc):Prop :=
 newC R [.pointer O] 98 fun a S =>
 newC S (vCl P) 33 fun c T =>
 newC T [.string e0B,.bool false,n0V] 95 fun D U =>
 newC U [.string e0B,.bool false,n0V] 95 fun u d =>
 ldP d a 0 fun e =>
 ldI d c 0 .u8 fun f=>ldS d c (0+1) fun g=>ldL d c (0+2) fun h=>ldL d c (0+3) fun i =>
 ldP d a 0 fun j =>
 ldP d a 0 fun k =>
 ldP d a 0 fun l =>
 Zz6 (σ:=Option Nat × (oA × oA × Unit) × (oA × oA × Unit) × (oA × oA × Unit) × Unit) (fun q b E r =>
 (fun (m:Option Nat) (n:oA × oA × Unit) (o:oA × oA × Unit) (p:oA × oA × Unit) =>
 (b 2=false->(
 Zjn r fun V v =>
 ndP v a 0 l <|
 ndP v a 0 k <|
 ndP v a 0 j <|
 ndV v c f g h i <|
 ndP v a 0 e <|
 q (XU b 2) (some V,n,o,p,()) v)) /\
 (b 5=false->(
 K j (some ⟨u,0,none⟩) (fun H A =>
 ndP A a 0 l <|
 ndP A a 0 k <|
 ndV A c f g h i <|
 ndP A a 0 e <|
 q (XU b 5) (m,(H.1,H.2.1,()),o,p,()) A) r)) /\
 (b 6=false->b 2=true->b 5=true->(
 Xu .string r m (.string (ByteArray.mk #[114,101,115,111,117,114,99,101])) (.func (.func 211) #[] #[.pointer n.1,.pointer n.2.1]) fun w =>
 ndP w a 0 l <|
 ndP w a 0 k <|
 ndP w a 0 j <|
 ndV w c f g h i <|
 ndP w a 0 e <|
 q (XU b 6) (m,n,o,p,()) w)) /\
 (b 9=false->b 5=true->(
 L k (some ⟨u,0+1,none⟩) (fun I B =>
 ndP B a 0 l <|
 ndP B a 0 j <|
 ndV B c f g h i <|
 ndP B a 0 e <|
 q (XU b 9) (m,n,(I.1,I.2.1,()),p,()) B) r)) /\
 (b 10=false->b 2=true->b 9=true->(
 Xu .string r m (.string (ByteArray.mk #[119,104,105,116,101])) (.func (.func 212) #[] #[.pointer o.1,.pointer o.2.1]) fun x =>
 ndP x a 0 l <|
 ndP x a 0 k <|
 ndP x a 0 j <|
 ndV x c f g h i <|
 ndP x a 0 e <|
 q (XU b 10) (m,n,o,p,()) x)) /\
 (b 13=false->b 9=true->(
 M l (some ⟨a,0,none⟩,some ⟨u,0,none⟩,()) (fun J C =>
 ndP C a 0 k <|
 ndP C a 0 j <|
 ndV C c f g h i <|
 ndP C a 0 e <|
 q (XU b 13) (m,n,o,(J.1,J.2.1,()),()) C) r)) /\
 (b 14=false->b 2=true->b 13=true->(
 Xu .string r m (.string (ByteArray.mk #[111,114,105,103,105,110,115])) (.func (.func 216) #[] #[.pointer p.1,.pointer p.2.1]) fun y =>
 ndP y a 0 l <|
 ndP y a 0 k <|
 ndP y a 0 j <|
 ndV y c f g h i <|
 ndP y a 0 e <|
 q (XU b 14) (m,n,o,p,()) y))/\True) E.1 E.2.1 E.2.2.1 E.2.2.2.1) (fun s F z =>
 (fun (W:Option Nat) (ad:oA × oA × Unit) (ae:oA × oA × Unit) (af:oA × oA × Unit) =>
 s 2=true->s 5=true->s 6=true->s 9=true->s 10=true->s 13=true->s 14=true->(
 ndP z a 0 l <|
 ndP z a 0 k <|
 ndP z a 0 j <|
 ndV z c f g h i <|
 ndP z a 0 e <|
 N e (f,g,h,i,()) W (fun t =>
 ndP t a 0 l <|
 ndP t a 0 k <|
 ndP t a 0 j <|
 ldS t u 0 fun X=>ldB t u (0+1) fun Y=>ldL t u (0+2) fun Z =>
 sts t D 0 [.string X,.bool Y,slv Z] fun G =>
 ldS G D 0 fun aa=>ldB G D (0+1) fun ab=>ldL G D (0+2) fun ac=>Q (aa,ab,ac,()) G) z)) F.1 F.2.1 F.2.2.1 F.2.2.2.1) d
def X0:Zw3:=Zcf Yc XG ZZ ZJ
def Yw (o:Zw3) (h:Sl) (k:Sl->Int->Int->HP) (p:Zc):Prop :=
 Zi 0 fun M =>
 Zi 0 fun N =>
 Zau (σ:=Sl × Int × Unit) (fun q l a =>
 (fun (m:Sl) (d:Int) =>
 Zy (decide (d<(h.len:Int))) (
 Zdb h.ptr h.len d 4 fun e f =>
 ldI a e f .u8 fun r=>ldS a e (f+1) fun s=>ldL a e (f+2) fun t=>ldL a e (f+3) fun u =>
 newC a v0C 33 fun b v =>
 Zi d fun w =>
 sts v b 0 [.int .u8 r,.string s,slv t,slv u] fun x =>
 newC x [.int .i64 0] 102 fun i c =>
 ldI c b 0 .u8 fun y=>ldS c b (0+1) fun z=>ldL c b (0+2) fun A=>ldL c b (0+3) fun B =>
 o (some ⟨i,0,none⟩) (y,z,A,B,()) (fun j C =>
 newC C [.string j.1,.bool j.2.1,slv j.2.2.1] 95 fun D n =>
 rdS ⟨some ⟨D,0,none⟩,1,1⟩ 3 n fun E=>app 95 3 48 [.string e0B,.bool false,n0V] m 1 E n fun F g =>
 ldI g i 0 .i64 fun G =>
 Zy (G !=0) (
 ldI g i 0 .i64 fun H =>
 Zi w fun I =>
 Zi H fun J =>
 k n0S I J g) (
 q (F,IntKind.wrap .i64 (d+1),()) g)) c) (
 Zi 0 fun K =>
 Zi 0 fun L =>
 k m K L a)) l.1 l.2.1) (n0S,0,()) p
def ZM:Zfi:=Yw X0
def Zcj (b:Zfi) (c:oA) (d:oA) (e:Int->Int->HP) (a:Zc):Prop :=
 Zi 0 fun s =>
 Zi 0 fun t =>
 Ze c fun f g=>ZCs 5 4 fun h =>
 ldL a f (g+h*1) fun i =>
 b i (fun j k l m =>
 Ze d fun n o =>
 st m n (o+4) (slv j) fun p =>
 Zi k fun q =>
 Zi l fun r =>
 e q r p) a
def X2:Zfh:=Zcj ZM
abbrev Zw2:=(rTy)->(Sl->HP)->HP
def ZgT (c:rTy) (d:Sl->HP) (e:Zc):Prop :=
 newC e (rCl c) 28 fun a b =>
 ldL b a 0 fun f =>
 Y9 (Ye (.func (.func 217) #[] #[.pointer (some ⟨a,0,none⟩)])=true) <|
 ldL b a (0+1) fun g =>
 Y9 (Ye (.func (.func 219) #[] #[.pointer (some ⟨a,0,none⟩)])=true) <|
 ldL b a (0+2) fun h =>
 Y9 (Ye (.func (.func 221) #[] #[.pointer (some ⟨a,0,none⟩)])=true) <|
 ldL b a (0+3) fun i =>
 Y9 (Ye (.func (.func 223) #[] #[.pointer (some ⟨a,0,none⟩)])=true) <|
 ldL b a (0+4) fun j =>
 Y9 (Ye (.func (.func 225) #[] #[.pointer (some ⟨a,0,none⟩)])=true) <|
 newC b [.int .u8 1,.int .i64 (f.len:Int),.func (.func 217) #[] #[.pointer (some ⟨a,0,none⟩)],.int .u8 2,.int .i64 (g.len:Int),.func (.func 219) #[] #[.pointer (some ⟨a,0,none⟩)],.int .u8 3,.int .i64 (h.len:Int),.func (.func 221) #[] #[.pointer (some ⟨a,0,none⟩)],.int .u8 4,.int .i64 (i.len:Int),.func (.func 223) #[] #[.pointer (some ⟨a,0,none⟩)],.int .u8 5,.int .i64 (j.len:Int),.func (.func 225) #[] #[.pointer (some ⟨a,0,none⟩)]] 221 fun k l =>
 d ⟨some ⟨k,0,none⟩,5,5⟩ l
def Zdr:Zw2:=ZgT
abbrev Zcz:=Int->Int->Int->(Bool->HP)->HP
def ZgS (a:Int) (d:Int) (e:Int) (b:Bool->HP) (c:Zc):Prop :=
 Zy (decide (a>=d)) (
 Yq (decide (a<=e)) fun f =>
 b f c) (
 b false c)
def ZP:Zcz:=ZgS
def ZgW (c:Zcz) (a:ByteArray) (d:Bool->HP) (g:Zc):Prop :=
 Zau (σ:=Int × Unit) (fun h i e =>
 (fun (b:Int) =>
 Zy (decide (b<(a.size:Int))) (
 Zi b fun j =>
 ZwE a j fun k =>
 c (IntKind.wrap .i64 k) 33 126 (fun l f =>
 Zy (!l) (
 d false f) (
 h (IntKind.wrap .i64 (b+1),()) f)) e) (
 c (a.size:Int) 1 64 (fun m n =>
 Yq m fun o =>
 d o n) e)) i.1) (0,()) g
def Zbe:Zhu:=ZgW ZP
def ZcP (a:Zhu) (b:ByteArray) (c:Bool->HP) (d:Zc):Prop :=
 a b (fun e f =>
 Yq (!e) fun g =>
 c g f) d
def Za3:Zhu:=ZcP Zbe
def Yu (g:Zhu) (a:Sl) (d:Int->HP) (h:Zc):Prop :=
 Zi 0 fun q =>
 Zau (σ:=Int × Unit) (fun i j b =>
 (fun (c:Int) =>
 Zy (decide (c<(a.len:Int))) (
 Zi c fun e =>
 Zdb a.ptr a.len e 1 fun k l =>
 ldS b k l fun m =>
 g m (fun n f =>
 Zy n (
 Zi e fun o =>
 d o f) (
 i (IntKind.wrap .i64 (c+1),()) f)) b) (
 Zi (-1) fun p =>
 d p b)) j.1) (0,()) h
def ZK:ZsK:=Yu Za3
def Yp (a:ZsK) (b:Sl) (c:Bool->HP) (d:Zc):Prop :=
 a b (fun e f =>
 Yq (decide (e>=0)) fun g =>
 c g f) d
def ZU:Zl1:=Yp ZK
abbrev Zw1:=(ByteArray × Sl × Unit)->(Bool->HP)->HP
def ZdN (f:Zhu) (g:Zl1) (b:ByteArray × Sl × Unit) (c:Bool->HP) (h:Zc):Prop :=
 newC h [.string b.1,slv b.2.1] 306 fun d e =>
 ldS e d 0 fun i =>
 f i (fun j a =>
 Zy j (
 ldL a d (0+1) fun k =>
 g k (fun l m =>
 Yq (!l) fun n =>
 c n m) a) (
 c false a)) e
def ZaM:Zw1:=ZdN Zbe ZU
abbrev Zjt:=oA->oA->(Bool->HP)->HP
def Zg3 (b:Zcz) (c:oA) (d:oA) (e:Bool->HP) (a:Zc):Prop :=
 Ze c fun f g =>
 ldI a f (g+3) .i64 fun h =>
 Ze d fun i j=>ldI a i j .i64 fun k =>
 b h k 1099511627776 (fun l m =>
 Yq l fun n =>
 e n m) a
def ZdA:Zjt:=Zg3 ZP
abbrev X8:=oA->(Bool->HP)->HP
def Zg2 (b:oA) (c:Bool->HP) (a:Zc):Prop :=
 Ze b fun d e =>
 ldI a d (e+4) .u8 fun f =>
 Zy (decide (f<=2)) (
 Ze b fun g h =>
 ldI a g (h+6) .u8 fun i =>
 Yq (decide (i<=3)) fun j =>
 c j a) (
 c false a)
def Zdz:X8:=Zg2
def Zg1 (b:oA) (c:Bool->HP) (a:Zc):Prop :=
 Ze b fun d e =>
 ldI a d (e+4) .u8 fun f =>
 Zy (f !=0) (
 c true a) (
 Ze b fun g h =>
 ldS a g (h+5) fun i =>
 Yq (ZcC i e0B) fun j =>
 c j a)
def Zdy:X8:=Zg1
def Zg0 (b:oA) (c:Bool->HP) (a:Zc):Prop :=
 Ze b fun d e =>
 ldB a d (e+2) fun f =>
 Zy (!f) (
 c true a) (
 Ze b fun g h =>
 ldI a g (h+6) .u8 fun i =>
 Zy (i ==0) (
 Ze b fun j k =>
 ldB a j (k+9) fun l =>
 Yq (!l) fun m =>
 c m a) (
 c false a))
def Zdx:X8:=Zg0
abbrev Zl2:=Bool->Int->Int->Int->(Bool->HP)->HP
def ZiE (f:Zcz) (b:Bool) (c:Int) (g:Int) (h:Int) (a:Bool->HP) (d:Zc):Prop :=
 Zy b (
 f c g h (fun i e =>
 Zy i (
 a true e) (
 Zy (!b) (
 Yq (c ==0) fun j =>
 a j e) (
 a false e))) d) (
 Zy (!b) (
 Yq (c ==0) fun k =>
 a k d) (
 a false d))
def Za4:Zl2:=ZiE ZP
abbrev Zw0:=oA->oA->oA->(Bool->HP)->HP
def ZgZ (c:Zl2) (f:oA) (d:oA) (g:oA) (e:Bool->HP) (b:Zc):Prop :=
 Ze f fun h i=>ldB b h i fun j =>
 Ze d fun k l =>
 ldI b k (l+7) .i64 fun m =>
 c j m 1 3600 (fun n a =>
 Zy n (
 Ze g fun o p=>ldB a o p fun q =>
 Ze d fun r s =>
 ldI a r (s+8) .i64 fun t =>
 c q t 0 3600000000 (fun u v =>
 Yq u fun w =>
 e w v) a) (
 e false a)) b
def Zdw:Zw0:=ZgZ Za4
def ZgY (b:oA) (c:Bool->HP) (a:Zc):Prop :=
 Ze b fun d e =>
 ldB a d (e+9) fun f =>
 Zy (!f) (
 c true a) (
 Ze b fun g h =>
 ldI a g (h+4) .u8 fun i =>
 Zy (i ==0) (
 Ze b fun j k =>
 ldI a j (k+6) .u8 fun l =>
 Yq (l ==0) fun m =>
 c m a) (
 c false a))
def Zdv:X8:=ZgY
def ZgX (e:Zl2) (b:oA) (c:Bool->HP) (d:Zc):Prop :=
 Ze b fun f g =>
 ldB d f (g+9) fun h =>
 Ze b fun i j =>
 ldI d i (j+10) .i64 fun k =>
 e h k 1 1099511627776 (fun l a =>
 Zy l (
 Ze b fun m n =>
 ldB a m (n+9) fun o =>
 Zy o (
 c true a) (
 Ze b fun p q =>
 ldB a p (q+11) fun r =>
 Yq (!r) fun s =>
 c s a)) (
 c false a)) d
def Zdu:X8:=ZgX Za4
def Zgf (d:Zcz) (b:oA) (e:oA) (c:Bool->HP) (a:Zc):Prop :=
 Ze b fun f g =>
 ldI a f (g+1) .u8 fun h =>
 Zy (decide (h<=2)) (
 Ze b fun i j =>
 ldI a i (j+2) .i64 fun k =>
 Ze e fun l m=>ldI a l m .i64 fun n =>
 d k 0 n (fun o p =>
 Yq o fun q =>
 c q p) a) (
 c false a)
def ZcI:Zjt:=Zgf ZP
def Zge (c:Zl2) (b:oA) (d:Bool->HP) (a:Zc):Prop :=
 Ze b fun e f =>
 ldI a e (f+1) .u8 fun g =>
 Ze b fun h i =>
 ldI a h (i+3) .i64 fun j =>
 c (g ==0) j 1 3600000000 (fun k l =>
 Yq k fun m =>
 d m l) a
def ZcH:X8:=Zge Za4
def Zgd (b:Zcz) (c:oA) (d:Bool->HP) (e:Zc):Prop :=
 Ze c fun f g =>
 ldI e f (g+4) .i64 fun h =>
 b h 1 1099511627776 (fun i a =>
 Zy i (
 Ze c fun j k =>
 ldI a j (k+5) .i64 fun l =>
 b l 1000000 120000000 (fun m n =>
 Yq m fun o =>
 d o n) a) (
 d false a)) e
def ZcG:X8:=Zgd ZP
def Zgc (b:Zcz) (c:oA) (d:Bool->HP) (a:Zc):Prop :=
 Ze c fun e f =>
 ldI a e (f+6) .i64 fun g =>
 b g 1000000 3600000000 (fun h i =>
 Yq h fun j =>
 d j i) a
def ZcF:X8:=Zgc ZP
def ZhV (b:Zcz) (c:oA) (d:Bool->HP) (e:Zc):Prop :=
 Ze c fun f g =>
 ldI e f (g+1) .i64 fun h =>
 b h 0 7 (fun i a =>
 Zy i (
 Ze c fun j k =>
 ldI a j (k+2) .i64 fun l =>
 b l 0 1099511627776 (fun m n =>
 Yq m fun o =>
 d o n) a) (
 d false a)) e
def Zei:X8:=ZhV ZP
def ZhR (f:Zq4) (a:Sl) (d:Bool->HP) (g:Zc):Prop :=
 Zau (σ:=Int × Unit) (fun h i c =>
 (fun (b:Int) =>
 Zy (decide (b<(a.len:Int))) (
 Zdb a.ptr a.len b 1 fun j k =>
 ldS c j k fun l =>
 Zi b fun m =>
 slc a.ptr a.cap 1 0 m a.cap fun n =>
 f n l (fun o e =>
 Zy o (
 d true e) (
 h (IntKind.wrap .i64 (b+1),()) e)) c) (
 d false c)) i.1) (0,()) g
def ZbO:Zl1:=ZhR Z1
def ZhU (e:Zcz) (f:Zl1) (c:oA) (g:oA) (b:Bool->HP) (d:Zc):Prop :=
 Ze c fun h i =>
 ldI d h (i+3) .i64 fun j =>
 e j 1 60 (fun k a =>
 Zy k (
 Ze c fun l m =>
 ldL a l (m+4) fun n =>
 Zy (decide ((n.len:Int)<=32)) (
 Ze g fun o p=>ldL a o p fun q =>
 f q (fun r s =>
 Yq (!r) fun t =>
 b t s) a) (
 b false a)) (
 b false a)) d
def Zeh:Zjt:=ZhU ZP ZbO
abbrev ZwZ:=(ByteArray × Int × Unit)->(Bool->HP)->HP
def Zgb (e:Zcz) (b:ByteArray × Int × Unit) (c:Bool->HP) (f:Zc):Prop :=
 newC f [.string b.1,.int .i64 b.2.1] 203 fun d a =>
 ldS a d 0 fun g =>
 Zy (decide ((g.size:Int)>64)) (
 c true a) (
 ldI a d (0+1) .i64 fun h =>
 e h 0 1099511627776 (fun i j =>
 Yq (!i) fun k =>
 c k j) a)
def Zef:ZwZ:=Zgb ZP
def Yv (i:ZwZ) (b:Sl) (d:Int->HP) (j:Zc):Prop :=
 Zi 0 fun r =>
 Zau (σ:=Int × Unit) (fun k l a =>
 (fun (c:Int) =>
 Zy (decide (c<(b.len:Int))) (
 Zi c fun e =>
 Zdb b.ptr b.len e 2 fun f g =>
 ldS a f g fun m=>ldI a f (g+1) .i64 fun n =>
 i (m,n,()) (fun o h =>
 Zy o (
 Zi e fun p =>
 d p h) (
 k (IntKind.wrap .i64 (c+1),()) h)) a) (
 Zi (-1) fun q =>
 d q a)) l.1) (0,()) j
def Yd:ZsK:=Yv Zef
def Ys (a:ZsK) (b:Sl) (c:Bool->HP) (d:Zc):Prop :=
 a b (fun e f =>
 Yq (decide (e>=0)) fun g =>
 c g f) d
def Z2:Zl1:=Ys Yd
def ZhT (b:Zl1) (c:oA) (d:Bool->HP) (a:Zc):Prop :=
 Ze c fun e f =>
 ldL a e (f+4) fun g =>
 b g (fun h i =>
 Yq (!h) fun j =>
 d j i) a
def Zeg:X8:=ZhT Z2
def ZgV (e:Zcz) (f:Zl1) (b:oA) (c:Bool->HP) (d:Zc):Prop :=
 Ze b fun g h =>
 ldL d g (h+2) fun i =>
 e (i.len:Int) 1 32 (fun j a =>
 Zy j (
 Ze b fun k l =>
 ldL a k (l+2) fun m =>
 f m (fun n o =>
 Yq (!n) fun p =>
 c p o) a) (
 c false a)) d
def Zdt:X8:=ZgV ZP ZbO
abbrev Zj7:=(ByteArray × Sl × Int × Unit)->Sl->(Int->HP)->HP
def Zga (D:Zw1) (E:Zjt) (F:X8) (G:X8) (H:X8) (I:Zw0) (J:X8) (K:X8) (L:Zjt) (M:X8) (N:X8) (O:X8) (P:X8) (Q:Zjt) (R:X8) (S:X8) (o:ByteArray × Sl × Int × Unit) (p:Sl) (e:Int->HP) (T:Zc):Prop :=
 newC T [.string o.1,slv o.2.1,.int .i64 o.2.2.1] 308 fun f q =>
 Zi 0 fun ac =>
 ldS q f 0 fun U=>ldL q f (0+1) fun V =>
 D (U,V,()) (fun W C =>
 Zy (!W) (
 Zi 10 fun X =>
 e X C) (
 Zau (σ:=Int × Unit) (fun i Y g =>
 (fun (h:Int) =>
 Zy (decide (h<(p.len:Int))) (
 Zdb p.ptr p.len h 1 fun Z aa =>
 ldV g Z aa fun j =>
 (exG j (fun l:oA × oA × Unit=> .func (.func 275) #[] ⟨[.pointer l.1,.pointer l.2.1]⟩) fun l=>E l.1 l.2.1 (fun b a =>
 Zy (!b) (
 ldI a f (0+2) .i64 fun c =>
 Zi c fun d =>
 e d a) (
 i (IntKind.wrap .i64 (h+1),()) a)) g)\/(
 (exG j (fun r:oA × Unit=> .func (.func 277) #[] ⟨[.pointer r.1]⟩) fun r=>F r.1 (fun b a =>
 Zy (!b) (
 ldI a f (0+2) .i64 fun c =>
 Zi c fun d =>
 e d a) (
 i (IntKind.wrap .i64 (h+1),()) a)) g)\/(
 (exG j (fun s:oA × Unit=> .func (.func 278) #[] ⟨[.pointer s.1]⟩) fun s=>G s.1 (fun b a =>
 Zy (!b) (
 ldI a f (0+2) .i64 fun c =>
 Zi c fun d =>
 e d a) (
 i (IntKind.wrap .i64 (h+1),()) a)) g)\/(
 (exG j (fun t:oA × Unit=> .func (.func 279) #[] ⟨[.pointer t.1]⟩) fun t=>H t.1 (fun b a =>
 Zy (!b) (
 ldI a f (0+2) .i64 fun c =>
 Zi c fun d =>
 e d a) (
 i (IntKind.wrap .i64 (h+1),()) a)) g)\/(
 (exG j (fun k:oA × oA × oA × Unit=> .func (.func 280) #[] ⟨[.pointer k.1,.pointer k.2.1,.pointer k.2.2.1]⟩) fun k=>I k.1 k.2.1 k.2.2.1 (fun b a =>
 Zy (!b) (
 ldI a f (0+2) .i64 fun c =>
 Zi c fun d =>
 e d a) (
 i (IntKind.wrap .i64 (h+1),()) a)) g)\/(
 (exG j (fun u:oA × Unit=> .func (.func 282) #[] ⟨[.pointer u.1]⟩) fun u=>J u.1 (fun b a =>
 Zy (!b) (
 ldI a f (0+2) .i64 fun c =>
 Zi c fun d =>
 e d a) (
 i (IntKind.wrap .i64 (h+1),()) a)) g)\/(
 (exG j (fun v:oA × Unit=> .func (.func 283) #[] ⟨[.pointer v.1]⟩) fun v=>K v.1 (fun b a =>
 Zy (!b) (
 ldI a f (0+2) .i64 fun c =>
 Zi c fun d =>
 e d a) (
 i (IntKind.wrap .i64 (h+1),()) a)) g)\/(
 (exG j (fun m:oA × oA × Unit=> .func (.func 284) #[] ⟨[.pointer m.1,.pointer m.2.1]⟩) fun m=>L m.1 m.2.1 (fun b a =>
 Zy (!b) (
 ldI a f (0+2) .i64 fun c =>
 Zi c fun d =>
 e d a) (
 i (IntKind.wrap .i64 (h+1),()) a)) g)\/(
 (exG j (fun w:oA × Unit=> .func (.func 285) #[] ⟨[.pointer w.1]⟩) fun w=>M w.1 (fun b a =>
 Zy (!b) (
 ldI a f (0+2) .i64 fun c =>
 Zi c fun d =>
 e d a) (
 i (IntKind.wrap .i64 (h+1),()) a)) g)\/(
 (exG j (fun x:oA × Unit=> .func (.func 286) #[] ⟨[.pointer x.1]⟩) fun x=>N x.1 (fun b a =>
 Zy (!b) (
 ldI a f (0+2) .i64 fun c =>
 Zi c fun d =>
 e d a) (
 i (IntKind.wrap .i64 (h+1),()) a)) g)\/(
 (exG j (fun y:oA × Unit=> .func (.func 287) #[] ⟨[.pointer y.1]⟩) fun y=>O y.1 (fun b a =>
 Zy (!b) (
 ldI a f (0+2) .i64 fun c =>
 Zi c fun d =>
 e d a) (
 i (IntKind.wrap .i64 (h+1),()) a)) g)\/(
 (exG j (fun z:oA × Unit=> .func (.func 288) #[] ⟨[.pointer z.1]⟩) fun z=>P z.1 (fun b a =>
 Zy (!b) (
 ldI a f (0+2) .i64 fun c =>
 Zi c fun d =>
 e d a) (
 i (IntKind.wrap .i64 (h+1),()) a)) g)\/(
 (exG j (fun n:oA × oA × Unit=> .func (.func 289) #[] ⟨[.pointer n.1,.pointer n.2.1]⟩) fun n=>Q n.1 n.2.1 (fun b a =>
 Zy (!b) (
 ldI a f (0+2) .i64 fun c =>
 Zi c fun d =>
 e d a) (
 i (IntKind.wrap .i64 (h+1),()) a)) g)\/(
 (exG j (fun A:oA × Unit=> .func (.func 291) #[] ⟨[.pointer A.1]⟩) fun A=>R A.1 (fun b a =>
 Zy (!b) (
 ldI a f (0+2) .i64 fun c =>
 Zi c fun d =>
 e d a) (
 i (IntKind.wrap .i64 (h+1),()) a)) g)\/(
 (exG j (fun B:oA × Unit=> .func (.func 294) #[] ⟨[.pointer B.1]⟩) fun B=>S B.1 (fun b a =>
 Zy (!b) (
 ldI a f (0+2) .i64 fun c =>
 Zi c fun d =>
 e d a) (
 i (IntKind.wrap .i64 (h+1),()) a)) g)\/(
 False)))))))))))))))) (
 Zi 0 fun ab =>
 e ab g)) Y.1) (0,()) C)) q
def Xi:Zj7:=Zga ZaM ZdA Zdz Zdy Zdx Zdw Zdv Zdu ZcI ZcH ZcG ZcF Zei Zeh Zeg Zdt
abbrev ZwY:=(ByteArray × ByteArray × Bool × Int × Int × ByteArray × Int × Int × Int × Bool × Int × Bool × Unit)->(Int->HP)->HP
def ZiG (u:Zj7) (b:ByteArray × ByteArray × Bool × Int × Int × ByteArray × Int × Int × Int × Bool × Int × Bool × Unit) (v:Int->HP) (w:Zc):Prop :=
 newC w [.string b.1,.string b.2.1,.bool b.2.2.1,.int .i64 b.2.2.2.1,.int .u8 b.2.2.2.2.1,.string b.2.2.2.2.2.1,.int .u8 b.2.2.2.2.2.2.1,.int .i64 b.2.2.2.2.2.2.2.1,.int .i64 b.2.2.2.2.2.2.2.2.1,.bool b.2.2.2.2.2.2.2.2.2.1,.int .i64 b.2.2.2.2.2.2.2.2.2.2.1,.bool b.2.2.2.2.2.2.2.2.2.2.2.1] 75 fun a j =>
 Zi 0 fun am =>
 ldS j a (0+1) fun x =>
 newC j [.string x] 9 fun f c =>
 Zgq (σ:=Sl × Unit) (fun y d =>
 (fun (z:Sl) =>
 Zgq (σ:=oA × Unit) (fun A e =>
 (fun (B:oA) =>
 Zgq (σ:=oA × Unit) (fun C D =>
 (fun (E:oA) =>
 newC D [.int .i64 0] 3 fun g F =>
 st F g 0 (.int .i64 1) fun h =>
 Zgq (σ:=Unit) (fun an k =>
 ldS k a 0 fun G =>
 newC k [.func (.func 275) #[] #[.pointer (some ⟨a,0,none⟩),.pointer (some ⟨g,0,none⟩)],.func (.func 277) #[] #[.pointer (some ⟨a,0,none⟩)],.func (.func 278) #[] #[.pointer (some ⟨a,0,none⟩)],.func (.func 279) #[] #[.pointer (some ⟨a,0,none⟩)],.func (.func 280) #[] #[.pointer B,.pointer (some ⟨a,0,none⟩),.pointer E],.func (.func 282) #[] #[.pointer (some ⟨a,0,none⟩)],.func (.func 283) #[] #[.pointer (some ⟨a,0,none⟩)]] 41 fun H I =>
 u (G,z,30,()) ⟨some ⟨H,0,none⟩,7,7⟩ (fun J K =>
 Zi J fun L =>
 v L K) I) (fun l =>
 ldI h a (0+6) .u8 fun M =>
 Zy (M ==0) (
 st h g 0 (.int .i64 0) fun N =>
 l (()) N) (
 l (()) h))) C.1) (fun m =>
 ldI e a (0+6) .u8 fun O =>
 Zy (O ==2) (
 newC e [.bool false] 4 fun n P =>
 st P n 0 (.bool true) fun Q =>
 m (some ⟨n,0,none⟩,()) Q) (
 ldI e a (0+6) .u8 fun R =>
 newC e [.bool false] 4 fun o S =>
 st S o 0 (.bool (R ==3)) fun T =>
 m (some ⟨o,0,none⟩,()) T))) A.1) (fun p =>
 ldI d a (0+6) .u8 fun U =>
 Zy (U ==1) (
 newC d [.bool false] 4 fun q V =>
 st V q 0 (.bool true) fun W =>
 p (some ⟨q,0,none⟩,()) W) (
 ldI d a (0+6) .u8 fun X =>
 newC d [.bool false] 4 fun r Y =>
 st Y r 0 (.bool (X ==3)) fun Z =>
 p (some ⟨r,0,none⟩,()) Z))) y.1) (fun i =>
 ldI c a (0+4) .u8 fun aa =>
 Zy (aa ==1) (
 ldS c a (0+5) fun ab =>
 newC c [.string ab] 9 fun ac s =>
 rdS ⟨some ⟨ac,0,none⟩,1,1⟩ 1 s fun ad=>app 9 1 16 [.string e0B] ⟨some ⟨f,0,none⟩,1,1⟩ 1 ad s fun ae af =>
 i (ae,()) af) (
 ldI c a (0+4) .u8 fun ag =>
 Zy (ag ==2) (
 ldS c a (0+5) fun ah =>
 newC c [.string ah] 9 fun ai t =>
 rdS ⟨some ⟨ai,0,none⟩,1,1⟩ 1 t fun aj=>app 9 1 16 [.string e0B] ⟨some ⟨f,0,none⟩,1,1⟩ 1 aj t fun ak al =>
 i (ak,()) al) (
 i (⟨some ⟨f,0,none⟩,1,1⟩,()) c)))
def Ze5:ZwY:=ZiG Xi
abbrev Zfg:=Int->oA->(Int->HP)->HP
def Zfo (e:ZwY) (f:Int) (g:oA) (h:Int->HP) (a:Zc):Prop :=
 Zi 0 fun z =>
 Ze g fun i j =>
 ldL a i j fun d =>
 Zdb d.ptr d.len f 12 fun b c =>
 ldS a b c fun k=>ldS a b (c+1) fun l=>ldB a b (c+2) fun m=>ldI a b (c+3) .i64 fun n=>ldI a b (c+4) .u8 fun o=>ldS a b (c+5) fun p=>ldI a b (c+6) .u8 fun q=>ldI a b (c+7) .i64 fun r=>ldI a b (c+8) .i64 fun s=>ldB a b (c+9) fun t=>ldI a b (c+10) .i64 fun u=>ldB a b (c+11) fun v =>
 e (k,l,m,n,o,p,q,r,s,t,u,v,()) (fun w x =>
 Zi w fun y =>
 h y x) a
def Zb8:Zfg:=Zfo Ze5
abbrev ZwX:=(ByteArray × Int × Int × Int × Int × Int × Int × Unit)->(Int->HP)->HP
def ZhW (g:Zj7) (a:ByteArray × Int × Int × Int × Int × Int × Int × Unit) (h:Int->HP) (i:Zc):Prop :=
 newC i [.string a.1,.int .u8 a.2.1,.int .i64 a.2.2.1,.int .i64 a.2.2.2.1,.int .i64 a.2.2.2.2.1,.int .i64 a.2.2.2.2.2.1,.int .i64 a.2.2.2.2.2.2.1] 80 fun b j =>
 Zi 0 fun t =>
 newC j [.int .i64 0] 3 fun c k =>
 st k c 0 (.int .i64 1000) fun d =>
 Zgq (σ:=Unit) (fun u e =>
 ldS e b 0 fun l =>
 newC e [.func (.func 284) #[] #[.pointer (some ⟨b,0,none⟩),.pointer (some ⟨c,0,none⟩)],.func (.func 285) #[] #[.pointer (some ⟨b,0,none⟩)],.func (.func 286) #[] #[.pointer (some ⟨b,0,none⟩)],.func (.func 287) #[] #[.pointer (some ⟨b,0,none⟩)]] 41 fun m n =>
 g (l,n0S,31,()) ⟨some ⟨m,0,none⟩,4,4⟩ (fun o p =>
 Zi o fun q =>
 h q p) n) (fun f =>
 ldI d b (0+1) .u8 fun r =>
 Zy (r ==2) (
 st d c 0 (.int .i64 1099511627776) fun s =>
 f (()) s) (
 f (()) d))
def Zej:ZwX:=ZhW Xi
def Zfn (e:ZwX) (f:Int) (g:oA) (h:Int->HP) (a:Zc):Prop :=
 Zi 0 fun u =>
 Ze g fun i j =>
 ldL a i (j+1) fun d =>
 Zdb d.ptr d.len f 7 fun b c =>
 ldS a b c fun k=>ldI a b (c+1) .u8 fun l=>ldI a b (c+2) .i64 fun m=>ldI a b (c+3) .i64 fun n=>ldI a b (c+4) .i64 fun o=>ldI a b (c+5) .i64 fun p=>ldI a b (c+6) .i64 fun q =>
 e (k,l,m,n,o,p,q,()) (fun r s =>
 Zi r fun t =>
 h t s) a
def Zb7:Zfg:=Zfn Zej
abbrev ZwW:=(ByteArray × Int × Int × Int × Sl × Unit)->(Int->HP)->HP
def ZjT (m:Zj7) (a:ByteArray × Int × Int × Int × Sl × Unit) (n:Int->HP) (o:Zc):Prop :=
 newC o [.string a.1,.int .i64 a.2.1,.int .i64 a.2.2.1,.int .i64 a.2.2.2.1,slv a.2.2.2.2.1] 85 fun b p =>
 Zi 0 fun I =>
 newC p [n0V] 31 fun d h =>
 ldL h b (0+4) fun e =>
 Zau (σ:=Int × Unit) (fun q r c =>
 (fun (f:Int) =>
 Zy (decide (f<(e.len:Int))) (
 Zdb e.ptr e.len f 2 fun i j =>
 ldS c i j fun s=>ldI c i (j+1) .i64 fun t =>
 newC c [.string e0B,.int .i64 0] 203 fun k u =>
 sts u k 0 [.string s,.int .i64 t] fun g =>
 ldL g d 0 fun v =>
 ldS g k 0 fun w =>
 newC g [.string w] 9 fun x l =>
 rdS ⟨some ⟨x,0,none⟩,1,1⟩ 1 l fun y=>app 9 1 16 [.string e0B] v 1 y l fun z A =>
 st A d 0 (slv z) fun B =>
 q (IntKind.wrap .i64 (f+1),()) B) (
 ldS c b 0 fun C =>
 newC c [.func (.func 288) #[] #[.pointer (some ⟨b,0,none⟩)],.func (.func 289) #[] #[.pointer (some ⟨b,0,none⟩),.pointer (some ⟨d,0,none⟩)],.func (.func 291) #[] #[.pointer (some ⟨b,0,none⟩)]] 41 fun D E =>
 m (C,n0S,32,()) ⟨some ⟨D,0,none⟩,3,3⟩ (fun F G =>
 Zi F fun H =>
 n H G) E)) r.1) (0,()) h
def Zf5:ZwW:=ZjT Xi
def Zfm (e:ZwW) (f:Int) (g:oA) (h:Int->HP) (a:Zc):Prop :=
 Zi 0 fun s =>
 Ze g fun i j =>
 ldL a i (j+2) fun d =>
 Zdb d.ptr d.len f 5 fun b c =>
 ldS a b c fun k=>ldI a b (c+1) .i64 fun l=>ldI a b (c+2) .i64 fun m=>ldI a b (c+3) .i64 fun n=>ldL a b (c+4) fun o =>
 e (k,l,m,n,o,()) (fun p q =>
 Zi p fun r =>
 h r q) a
def Zb6:Zfg:=Zfm Zf5
abbrev ZwV:=(Int × Int × Int × Int × Int × Unit)->(Int->HP)->HP
def ZgU (h:Zcz) (b:Int × Int × Int × Int × Int × Unit) (f:Int->HP) (i:Zc):Prop :=
 newC i [.int .i64 b.1,.int .i64 b.2.1,.int .i64 b.2.2.1,.int .i64 b.2.2.2.1,.int .i64 b.2.2.2.2.1] 91 fun c a =>
 Zi 0 fun z =>
 ldI a c 0 .i64 fun j =>
 ldI a c (0+1) .i64 fun k =>
 ldI a c (0+2) .i64 fun l =>
 ldI a c (0+3) .i64 fun m =>
 ldI a c (0+4) .i64 fun n =>
 newC a [.int .i64 j,.int .i64 k,.int .i64 l,.int .i64 m,.int .i64 n] 3 fun o p =>
 Zau (σ:=Int × Unit) (fun q r d =>
 (fun (e:Int) =>
 Zy (decide (e<(5:Int))) (
 Zdb (some ⟨o,0,none⟩) 5 e 1 fun s t =>
 ldI d s t .i64 fun u =>
 Zi u fun v =>
 h v (-1) 1099511627776 (fun w g =>
 Zy (!w) (
 Zi 33 fun x =>
 f x g) (
 q (IntKind.wrap .i64 (e+1),()) g)) d) (
 Zi 0 fun y =>
 f y d)) r.1) (0,()) p
def Zds:ZwV:=ZgU ZP
def Zfl (e:ZwV) (f:Int) (g:oA) (h:Int->HP) (a:Zc):Prop :=
 Zi 0 fun s =>
 Ze g fun i j =>
 ldL a i (j+3) fun d =>
 Zdb d.ptr d.len f 5 fun b c =>
 ldI a b c .i64 fun k=>ldI a b (c+1) .i64 fun l=>ldI a b (c+2) .i64 fun m=>ldI a b (c+3) .i64 fun n=>ldI a b (c+4) .i64 fun o =>
 e (k,l,m,n,o,()) (fun p q =>
 Zi p fun r =>
 h r q) a
def Zb5:Zfg:=Zfl Zds
abbrev ZwU:=(ByteArray × Bool × Sl × Unit)->(Int->HP)->HP
def ZiF (d:Zj7) (a:ByteArray × Bool × Sl × Unit) (e:Int->HP) (f:Zc):Prop :=
 newC f [.string a.1,.bool a.2.1,slv a.2.2.1] 95 fun b c =>
 Zi 0 fun n =>
 ldS c b 0 fun g =>
 ldL c b (0+2) fun h =>
 newC c [.func (.func 294) #[] #[.pointer (some ⟨b,0,none⟩)]] 41 fun i j =>
 d (g,h,34,()) ⟨some ⟨i,0,none⟩,1,1⟩ (fun k l =>
 Zi k fun m =>
 e m l) j
def Ze4:ZwU:=ZiF Xi
def Zfk (e:ZwU) (f:Int) (g:oA) (h:Int->HP) (a:Zc):Prop :=
 Zi 0 fun q =>
 Ze g fun i j =>
 ldL a i (j+4) fun d =>
 Zdb d.ptr d.len f 3 fun b c =>
 ldS a b c fun k=>ldB a b (c+1) fun l=>ldL a b (c+2) fun m =>
 e (k,l,m,()) (fun n o =>
 Zi n fun p =>
 h p o) a
def Zb4:Zfg:=Zfk Ze4
abbrev Zq3:=(rTy)->(Int->Int->Int->HP)->HP
def ZhS (H:Zw2) (I:Zfg) (J:Zfg) (K:Zfg) (L:Zfg) (M:Zfg) (N:rTy) (j:Int->Int->Int->HP) (O:Zc):Prop :=
 newC O (rCl N) 28 fun o m =>
 Zi 0 fun ar =>
 Zi 0 fun au =>
 Zi 0 fun av =>
 ldL m o 0 fun P=>ldL m o (0+1) fun Q=>ldL m o (0+2) fun R=>ldL m o (0+3) fun S=>ldL m o (0+4) fun T =>
 H (P,Q,R,S,T,()) (fun n U =>
 Zau (σ:=Int × Unit) (fun V W p =>
 (fun (u:Int) =>
 Zy (decide (u<(n.len:Int))) (
 Zdb n.ptr n.len u 3 fun v w =>
 ldI p v w .u8 fun X=>ldI p v (w+1) .i64 fun Y=>ldV p v (w+2) fun Z =>
 newC p [.int .u8 0,.int .i64 0,.nilFunc] 221 fun x aa =>
 sts aa x 0 [.int .u8 X,.int .i64 Y,Z] fun t =>
 ldI t x (0+1) .i64 fun ab =>
 Zy (decide (ab>256)) (
 ldI t x 0 .u8 fun ac =>
 Zi ac fun ad =>
 Zi 0 fun ae =>
 Zi 5 fun af =>
 j ad ae af t) (
 V (IntKind.wrap .i64 (u+1),()) t)) (
 Zau (σ:=Int × Unit) (fun ag ah q =>
 (fun (y:Int) =>
 Zy (decide (y<(n.len:Int))) (
 Zdb n.ptr n.len y 3 fun z A =>
 ldI q z A .u8 fun ai=>ldI q z (A+1) .i64 fun aj=>ldV q z (A+2) fun ak =>
 newC q [.int .u8 0,.int .i64 0,.nilFunc] 221 fun i al =>
 sts al i 0 [.int .u8 ai,.int .i64 aj,ak] fun G =>
 ldI G i (0+1) .i64 fun am =>
 Zau (σ:=Int × Unit) (fun r an k =>
 (fun (l:Int) =>
 Zy (decide (l<am)) (
 Zi l fun c =>
 ldV k i (0+2) fun s =>
 (exG s (fun B:oA × Unit=> .func (.func 217) #[] ⟨[.pointer B.1]⟩) fun B=>I c B.1 (fun d a =>
 Zi d fun b =>
 Zy (b !=0) (
 ldI a i 0 .u8 fun e =>
 Zi e fun f =>
 Zi c fun g =>
 Zi b fun h =>
 j f g h a) (
 r (IntKind.wrap .i64 (l+1),()) a)) k)\/(
 (exG s (fun C:oA × Unit=> .func (.func 219) #[] ⟨[.pointer C.1]⟩) fun C=>J c C.1 (fun d a =>
 Zi d fun b =>
 Zy (b !=0) (
 ldI a i 0 .u8 fun e =>
 Zi e fun f =>
 Zi c fun g =>
 Zi b fun h =>
 j f g h a) (
 r (IntKind.wrap .i64 (l+1),()) a)) k)\/(
 (exG s (fun D:oA × Unit=> .func (.func 221) #[] ⟨[.pointer D.1]⟩) fun D=>K c D.1 (fun d a =>
 Zi d fun b =>
 Zy (b !=0) (
 ldI a i 0 .u8 fun e =>
 Zi e fun f =>
 Zi c fun g =>
 Zi b fun h =>
 j f g h a) (
 r (IntKind.wrap .i64 (l+1),()) a)) k)\/(
 (exG s (fun E:oA × Unit=> .func (.func 223) #[] ⟨[.pointer E.1]⟩) fun E=>L c E.1 (fun d a =>
 Zi d fun b =>
 Zy (b !=0) (
 ldI a i 0 .u8 fun e =>
 Zi e fun f =>
 Zi c fun g =>
 Zi b fun h =>
 j f g h a) (
 r (IntKind.wrap .i64 (l+1),()) a)) k)\/(
 (exG s (fun F:oA × Unit=> .func (.func 225) #[] ⟨[.pointer F.1]⟩) fun F=>M c F.1 (fun d a =>
 Zi d fun b =>
 Zy (b !=0) (
 ldI a i 0 .u8 fun e =>
 Zi e fun f =>
 Zi c fun g =>
 Zi b fun h =>
 j f g h a) (
 r (IntKind.wrap .i64 (l+1),()) a)) k)\/(
 False)))))) (
 ag (IntKind.wrap .i64 (y+1),()) k)) an.1) (0,()) G) (
 Zi 0 fun ao =>
 Zi 0 fun ap =>
 Zi 0 fun aq =>
 j ao ap aq q)) ah.1) (0,()) p)) W.1) (0,()) U) m
def ZbP:Zq3:=ZhS Zdr Zb8 Zb7 Zb6 Zb5 Zb4
abbrev ZwT:=(vTy)->((rTy)->Int->Int->Int->HP)->HP
def Zde (T:Zw9) (aA:Zdk) (aB:Zfh) (aC:Zfh) (aD:Zfh) (aE:Zfh) (aF:Zfh) (aG:Zq3) (aH:vTy) (J:(rTy)->Int->Int->Int->HP) (aI:Zc):Prop :=
 newC aI (vCl aH) 33 fun e aJ =>
 newC aJ r0C 28 fun a aK =>
 Zi 0 fun bP =>
 Zi 0 fun bQ =>
 Zi 0 fun bR =>
 newC aK r0C 97 fun x aL =>
 newC aL [.int .i64 0] 102 fun aM aN =>
 newC aN [.pointer none] 98 fun d aO =>
 st aO d 0 (.pointer (some ⟨aM,0,none⟩)) fun N =>
 ldP N d 0 fun j =>
 ldI N e 0 .u8 fun k=>ldS N e (0+1) fun l=>ldL N e (0+2) fun m=>ldL N e (0+3) fun n =>
 Zz6 (σ:=Option Nat × (oA × oA × oA × Unit) × (oA × oA × oA × Unit) × (oA × oA × oA × Unit) × (oA × oA × oA × Unit) × (oA × oA × oA × Unit) × Unit) (fun u b O v =>
 (fun (f:Option Nat) (o:oA × oA × oA × Unit) (p:oA × oA × oA × Unit) (q:oA × oA × oA × Unit) (r:oA × oA × oA × Unit) (s:oA × oA × oA × Unit) =>
 (b 2=false->(
 Zjn v fun aP ac =>
 ndV ac e k l m n <|
 ndP ac d 0 j <|
 u (XU b 2) (some aP,o,p,q,r,s,()) ac)) /\
 (b 4=false->(
 T 0 (some ⟨d,0,none⟩) (some ⟨x,0,none⟩) (fun ad ae =>
 ndV ae e k l m n <|
 ndP ae d 0 j <|
 u (XU b 4) (f,(ad.1,ad.2.1,ad.2.2.1,()),p,q,r,s,()) ae) v)) /\
 (b 5=false->b 2=true->b 4=true->(
 Xu .string v f (.string (ByteArray.mk #[102,108,111,119])) (.func (.func 57) #[] #[.pointer o.1,.pointer o.2.1,.pointer o.2.2.1]) fun af =>
 ndV af e k l m n <|
 ndP af d 0 j <|
 u (XU b 5) (f,o,p,q,r,s,()) af)) /\
 (b 7=false->b 4=true->(
 T 1 (some ⟨d,0,none⟩) (some ⟨x,0,none⟩) (fun ag ah =>
 ndV ah e k l m n <|
 ndP ah d 0 j <|
 u (XU b 7) (f,o,(ag.1,ag.2.1,ag.2.2.1,()),q,r,s,()) ah) v)) /\
 (b 8=false->b 2=true->b 7=true->(
 Xu .string v f (.string (ByteArray.mk #[98,114,101,97,107])) (.func (.func 57) #[] #[.pointer p.1,.pointer p.2.1,.pointer p.2.2.1]) fun ai =>
 ndV ai e k l m n <|
 ndP ai d 0 j <|
 u (XU b 8) (f,o,p,q,r,s,()) ai)) /\
 (b 10=false->b 7=true->(
 T 2 (some ⟨d,0,none⟩) (some ⟨x,0,none⟩) (fun aj ak =>
 ndV ak e k l m n <|
 ndP ak d 0 j <|
 u (XU b 10) (f,o,p,(aj.1,aj.2.1,aj.2.2.1,()),r,s,()) ak) v)) /\
 (b 11=false->b 2=true->b 10=true->(
 Xu .string v f (.string (ByteArray.mk #[104,111,116])) (.func (.func 57) #[] #[.pointer q.1,.pointer q.2.1,.pointer q.2.2.1]) fun al =>
 ndV al e k l m n <|
 ndP al d 0 j <|
 u (XU b 11) (f,o,p,q,r,s,()) al)) /\
 (b 13=false->b 10=true->(
 T 3 (some ⟨d,0,none⟩) (some ⟨x,0,none⟩) (fun am an =>
 ndV an e k l m n <|
 ndP an d 0 j <|
 u (XU b 13) (f,o,p,q,(am.1,am.2.1,am.2.2.1,()),s,()) an) v)) /\
 (b 14=false->b 2=true->b 13=true->(
 Xu .string v f (.string (ByteArray.mk #[115,121,115,116,101,109])) (.func (.func 57) #[] #[.pointer r.1,.pointer r.2.1,.pointer r.2.2.1]) fun ao =>
 ndV ao e k l m n <|
 ndP ao d 0 j <|
 u (XU b 14) (f,o,p,q,r,s,()) ao)) /\
 (b 16=false->b 13=true->(
 T 4 (some ⟨d,0,none⟩) (some ⟨x,0,none⟩) (fun ap aq =>
 ndV aq e k l m n <|
 ndP aq d 0 j <|
 u (XU b 16) (f,o,p,q,r,(ap.1,ap.2.1,ap.2.2.1,()),()) aq) v)) /\
 (b 17=false->b 2=true->b 16=true->(
 Xu .string v f (.string (ByteArray.mk #[97,117,116,104,111,114,105,116,121])) (.func (.func 57) #[] #[.pointer s.1,.pointer s.2.1,.pointer s.2.2.1]) fun ar =>
 ndV ar e k l m n <|
 ndP ar d 0 j <|
 u (XU b 17) (f,o,p,q,r,s,()) ar))/\True) O.1 O.2.1 O.2.2.1 O.2.2.2.1 O.2.2.2.2.1 O.2.2.2.2.2.1) (fun w P au =>
 (fun (aQ:Option Nat) (bS:oA × oA × oA × Unit) (bT:oA × oA × oA × Unit) (bU:oA × oA × oA × Unit) (bV:oA × oA × oA × Unit) (bW:oA × oA × oA × Unit) =>
 w 2=true->w 4=true->w 5=true->w 7=true->w 8=true->w 10=true->w 11=true->w 13=true->w 14=true->w 16=true->w 17=true->(
 ndV au e k l m n <|
 ndP au d 0 j <|
 aA j (k,l,m,n,()) aQ (fun Q =>
 ldP Q d 0 fun aR =>
 Ze aR fun aS aT =>
 ldI Q aS aT .i64 fun aU =>
 Zy (aU !=0) (
 ldP Q d 0 fun av =>
 Ze av fun aw ax =>
 ldI Q aw ax .i64 fun ay =>
 sts Q a 0 r0C fun K =>
 Y9 (Yb K [(aw,ax,.int .i64 ay)]) <|
 ndP K d 0 av <|
 Zi ay fun aV =>
 Zi 0 fun aW =>
 Zi 0 fun aX =>
 ldL K a 0 fun aY=>ldL K a (0+1) fun aZ=>ldL K a (0+2) fun ba=>ldL K a (0+3) fun bb=>ldL K a (0+4) fun bc=>J (aY,aZ,ba,bb,bc,()) aV aW aX K) (
 newC Q r0C 28 fun g bd =>
 newC bd [.func (.func 60) #[] #[.pointer (some ⟨x,0,none⟩),.pointer (some ⟨g,0,none⟩)],.func (.func 63) #[] #[.pointer (some ⟨x,0,none⟩),.pointer (some ⟨g,0,none⟩)],.func (.func 66) #[] #[.pointer (some ⟨x,0,none⟩),.pointer (some ⟨g,0,none⟩)],.func (.func 69) #[] #[.pointer (some ⟨x,0,none⟩),.pointer (some ⟨g,0,none⟩)],.func (.func 72) #[] #[.pointer (some ⟨x,0,none⟩),.pointer (some ⟨g,0,none⟩)]] 113 fun be bf =>
 Zau (σ:=Int × Unit) (fun U bg t =>
 (fun (L:Int) =>
 Zy (decide (L<(5:Int))) (
 Zdb (some ⟨be,0,none⟩) 5 L 1 fun bh bi =>
 ldV t bh bi fun V =>
 Zi L fun W =>
 (exG V (fun X:oA × oA × Unit=> .func (.func 60) #[] ⟨[.pointer X.1,.pointer X.2.1]⟩) fun X=>aB X.1 X.2.1 (fun y z h =>
 Zi y fun A =>
 Zi z fun i =>
 Zy (i !=0) (
 sts h a 0 r0C fun c =>
 Zi i fun B =>
 Zi (IntKind.wrap .u8 (IntKind.wrap .i64 (W+1))) fun C =>
 Zi A fun D =>
 ldL c a 0 fun E=>ldL c a (0+1) fun F=>ldL c a (0+2) fun G=>ldL c a (0+3) fun H=>ldL c a (0+4) fun I=>J (E,F,G,H,I,()) B C D c) (
 U (IntKind.wrap .i64 (L+1),()) h)) t)\/(
 (exG V (fun Y:oA × oA × Unit=> .func (.func 63) #[] ⟨[.pointer Y.1,.pointer Y.2.1]⟩) fun Y=>aC Y.1 Y.2.1 (fun y z h =>
 Zi y fun A =>
 Zi z fun i =>
 Zy (i !=0) (
 sts h a 0 r0C fun c =>
 Zi i fun B =>
 Zi (IntKind.wrap .u8 (IntKind.wrap .i64 (W+1))) fun C =>
 Zi A fun D =>
 ldL c a 0 fun E=>ldL c a (0+1) fun F=>ldL c a (0+2) fun G=>ldL c a (0+3) fun H=>ldL c a (0+4) fun I=>J (E,F,G,H,I,()) B C D c) (
 U (IntKind.wrap .i64 (L+1),()) h)) t)\/(
 (exG V (fun Z:oA × oA × Unit=> .func (.func 66) #[] ⟨[.pointer Z.1,.pointer Z.2.1]⟩) fun Z=>aD Z.1 Z.2.1 (fun y z h =>
 Zi y fun A =>
 Zi z fun i =>
 Zy (i !=0) (
 sts h a 0 r0C fun c =>
 Zi i fun B =>
 Zi (IntKind.wrap .u8 (IntKind.wrap .i64 (W+1))) fun C =>
 Zi A fun D =>
 ldL c a 0 fun E=>ldL c a (0+1) fun F=>ldL c a (0+2) fun G=>ldL c a (0+3) fun H=>ldL c a (0+4) fun I=>J (E,F,G,H,I,()) B C D c) (
 U (IntKind.wrap .i64 (L+1),()) h)) t)\/(
 (exG V (fun aa:oA × oA × Unit=> .func (.func 69) #[] ⟨[.pointer aa.1,.pointer aa.2.1]⟩) fun aa=>aE aa.1 aa.2.1 (fun y z h =>
 Zi y fun A =>
 Zi z fun i =>
 Zy (i !=0) (
 sts h a 0 r0C fun c =>
 Zi i fun B =>
 Zi (IntKind.wrap .u8 (IntKind.wrap .i64 (W+1))) fun C =>
 Zi A fun D =>
 ldL c a 0 fun E=>ldL c a (0+1) fun F=>ldL c a (0+2) fun G=>ldL c a (0+3) fun H=>ldL c a (0+4) fun I=>J (E,F,G,H,I,()) B C D c) (
 U (IntKind.wrap .i64 (L+1),()) h)) t)\/(
 (exG V (fun ab:oA × oA × Unit=> .func (.func 72) #[] ⟨[.pointer ab.1,.pointer ab.2.1]⟩) fun ab=>aF ab.1 ab.2.1 (fun y z h =>
 Zi y fun A =>
 Zi z fun i =>
 Zy (i !=0) (
 sts h a 0 r0C fun c =>
 Zi i fun B =>
 Zi (IntKind.wrap .u8 (IntKind.wrap .i64 (W+1))) fun C =>
 Zi A fun D =>
 ldL c a 0 fun E=>ldL c a (0+1) fun F=>ldL c a (0+2) fun G=>ldL c a (0+3) fun H=>ldL c a (0+4) fun I=>J (E,F,G,H,I,()) B C D c) (
 U (IntKind.wrap .i64 (L+1),()) h)) t)\/(
 False)))))) (
 ldL t g 0 fun bj=>ldL t g (0+1) fun bk=>ldL t g (0+2) fun bl=>ldL t g (0+3) fun bm=>ldL t g (0+4) fun bn =>
 aG (bj,bk,bl,bm,bn,()) (fun bo bp bq M =>
 Zi bo fun br =>
 Zi bp fun bs =>
 Zi bq fun az =>
 Zy (az !=0) (
 sts M a 0 r0C fun R =>
 Zi az fun bt =>
 Zi br fun bu =>
 Zi bs fun bv =>
 ldL R a 0 fun bw=>ldL R a (0+1) fun bx=>ldL R a (0+2) fun bz=>ldL R a (0+3) fun bA=>ldL R a (0+4) fun bB=>J (bw,bx,bz,bA,bB,()) bt bu bv R) (
 ldL M g 0 fun bC=>ldL M g (0+1) fun bD=>ldL M g (0+2) fun bE=>ldL M g (0+3) fun bF=>ldL M g (0+4) fun bG =>
 sts M a 0 [slv bC,slv bD,slv bE,slv bF,slv bG] fun S =>
 Zi 0 fun bH =>
 Zi 0 fun bI =>
 Zi 0 fun bJ =>
 ldL S a 0 fun bK=>ldL S a (0+1) fun bL=>ldL S a (0+2) fun bM=>ldL S a (0+3) fun bN=>ldL S a (0+4) fun bO=>J (bK,bL,bM,bN,bO,()) bH bI bJ S)) t)) bg.1) (0,()) bf)) au)) P.1 P.2.1 P.2.2.1 P.2.2.2.1 P.2.2.2.2.1 P.2.2.2.2.2.1) N
def XW:ZwT:=Zde X7 ZJ X6 X5 X4 X3 X2 ZbP
abbrev ZwS:=(rTy)->Int->(Int->HP)->HP
def ZcO (e:rTy) (c:Int) (b:Int->HP) (f:Zc):Prop :=
 newC f (rCl e) 28 fun d a =>
 Zi 0 fun w =>
 Yq (c ==1) fun g =>
 Zy g (
 ldL a d 0 fun h =>
 Zi (h.len:Int) fun i =>
 b i a) (
 Yq (c ==2) fun j =>
 Zy j (
 ldL a d (0+1) fun k =>
 Zi (k.len:Int) fun l =>
 b l a) (
 Yq (c ==3) fun m =>
 Zy m (
 ldL a d (0+2) fun n =>
 Zi (n.len:Int) fun o =>
 b o a) (
 Yq (c ==4) fun p =>
 Zy p (
 ldL a d (0+3) fun q =>
 Zi (q.len:Int) fun r =>
 b r a) (
 Yq (c ==5) fun s =>
 Zy s (
 ldL a d (0+4) fun t =>
 Zi (t.len:Int) fun u =>
 b u a) (
 Zi 0 fun v =>
 b v a)))))
def Zam:ZwS:=ZcO
abbrev Zq2:=ByteArray->((rTy)->Int->Int->HP)->HP
def ZeM (j:ZD9) (k:ZwT) (l:ByteArray) (h:(rTy)->Int->Int->HP) (m:Zc):Prop :=
 newC m r0C 28 fun a n =>
 Zi 0 fun Y =>
 Zi 0 fun Z =>
 j l (fun o p q r =>
 newC r v0C 33 fun g s =>
 sts s g 0 (vCl o) fun b =>
 Zi p fun i =>
 Zi q fun t =>
 Zy (i !=0) (
 sts b a 0 r0C fun c =>
 Zi i fun u =>
 Zi t fun v =>
 ldL c a 0 fun w=>ldL c a (0+1) fun x=>ldL c a (0+2) fun y=>ldL c a (0+3) fun z=>ldL c a (0+4) fun A=>h (w,x,y,z,A,()) u v c) (
 ldI b g 0 .u8 fun B=>ldS b g (0+1) fun C=>ldL b g (0+2) fun D=>ldL b g (0+3) fun E =>
 k (B,C,D,E,()) (fun F G H I J =>
 newC J r0C 28 fun d K =>
 sts K d 0 (rCl F) fun e =>
 Zi G fun L =>
 Zi H fun aa =>
 Zi I fun ab =>
 ldL e d 0 fun M=>ldL e d (0+1) fun N=>ldL e d (0+2) fun O=>ldL e d (0+3) fun P=>ldL e d (0+4) fun Q =>
 sts e a 0 [slv M,slv N,slv O,slv P,slv Q] fun f =>
 Zi L fun R =>
 Zi 0 fun S =>
 ldL f a 0 fun T=>ldL f a (0+1) fun U=>ldL f a (0+2) fun V=>ldL f a (0+3) fun W=>ldL f a (0+4) fun X=>h (T,U,V,W,X,()) R S f) b)) n
def Zad:Zq2:=ZeM ZaH XW
abbrev ZwR:=(Bool->HP)->HP
def Zdd (d:Zq2) (b:Bool->HP) (g:Zc):Prop :=
 d (ByteArray.mk #[123,34,102,108,111,119,34,58,91,123,34,114,101,115,111,117,114,99,101,34,58,34,97,34,44,34,99,111,117,110,116,34,58,53,125,93,125]) (fun h i j k =>
 newC k r0C 28 fun c l =>
 sts l c 0 (rCl h) fun m =>
 Zi i fun n =>
 Zi j fun o =>
 d (ByteArray.mk #[123,34,102,108,111,119,34,58,91,123,34,114,101,115,111,117,114,99,101,34,58,34,97,34,44,34,99,117,111,110,116,34,58,53,125,93,125]) (fun p q r s =>
 newC s r0C 28 fun t u =>
 sts u t 0 (rCl p) fun a =>
 Zi q fun v =>
 Zi r fun E =>
 Zy (n ==0) (
 Zy (o ==0) (
 ldL a c 0 fun w =>
 Zy ((w.len:Int) ==1) (
 ldL a c 0 fun e =>
 Zdb e.ptr e.len 0 12 fun x y =>
 ldI a x (y+3) .i64 fun z =>
 Zy (z ==5) (
 ldL a c 0 fun f =>
 Zdb f.ptr f.len 0 12 fun A B =>
 ldS a A (B+1) fun C =>
 Zy (ZcC C (ByteArray.mk #[100,101,102,97,117,108,116])) (
 Yq (v ==26) fun D =>
 b D a) (
 b false a)) (
 b false a)) (
 b false a)) (
 b false a)) (
 b false a)) m) g
def Zay:ZwR:=Zdd Zad
abbrev ZwQ:=(ByteArray × Int × Int × Int × Sl × Unit)->(ByteArray × Int × Int × Int × Sl × Unit)->(Bool->HP)->HP
def ZbT (f:ByteArray × Int × Int × Int × Sl × Unit) (g:ByteArray × Int × Int × Int × Sl × Unit) (c:Bool->HP) (o:Zc):Prop :=
 newC o [.string f.1,.int .i64 f.2.1,.int .i64 f.2.2.1,.int .i64 f.2.2.2.1,slv f.2.2.2.2.1] 85 fun d p =>
 newC p [.string g.1,.int .i64 g.2.1,.int .i64 g.2.2.1,.int .i64 g.2.2.2.1,slv g.2.2.2.2.1] 85 fun e a =>
 ldS a d 0 fun q =>
 ldS a e 0 fun r =>
 Zy (!(ZcC q r)) (
 c false a) (
 ldI a d (0+1) .i64 fun s =>
 ldI a e (0+1) .i64 fun t =>
 Zy (s !=t) (
 c false a) (
 ldI a d (0+2) .i64 fun u =>
 ldI a e (0+2) .i64 fun v =>
 Zy (u !=v) (
 c false a) (
 ldI a d (0+3) .i64 fun w =>
 ldI a e (0+3) .i64 fun x =>
 Zy (w !=x) (
 c false a) (
 ldL a d (0+4) fun y =>
 ldL a e (0+4) fun z =>
 Zy ((y.len:Int) !=(z.len:Int)) (
 c false a) (
 Zi 0 fun A =>
 Zau (σ:=Int × Unit) (fun B C b =>
 (fun (h:Int) =>
 ldL b d (0+4) fun D =>
 Zy (decide (h<(D.len:Int))) (
 ldL b d (0+4) fun i =>
 Zdb i.ptr i.len h 2 fun j k =>
 ldS b j k fun E=>ldI b j (k+1) .i64 fun F =>
 ldL b e (0+4) fun l =>
 Zdb l.ptr l.len h 2 fun m n =>
 ldS b m n fun G=>ldI b m (n+1) .i64 fun H =>
 Zy (!(bif ZcC E G then (bif F ==H then true else false) else false)) (
 c false b) (
 Zi (IntKind.wrap .i64 (h+1)) fun I =>
 B (I,()) b)) (
 c true b)) C.1) (A,()) a)))))
def XQ:ZwQ:=ZbT
abbrev ZwP:=(ByteArray × Bool × Sl × Unit)->(ByteArray × Bool × Sl × Unit)->(Bool->HP)->HP
def Zbv (g:ByteArray × Bool × Sl × Unit) (h:ByteArray × Bool × Sl × Unit) (c:Bool->HP) (k:Zc):Prop :=
 newC k [.string g.1,.bool g.2.1,slv g.2.2.1] 95 fun d l =>
 newC l [.string h.1,.bool h.2.1,slv h.2.2.1] 95 fun e a =>
 ldS a d 0 fun m =>
 ldS a e 0 fun n =>
 Zy (!(ZcC m n)) (
 c false a) (
 ldB a d (0+1) fun o =>
 ldB a e (0+1) fun p =>
 Zy (o !=p) (
 c false a) (
 ldL a d (0+2) fun q =>
 ldL a e (0+2) fun r =>
 Zy ((q.len:Int) !=(r.len:Int)) (
 c false a) (
 Zi 0 fun s =>
 Zau (σ:=Int × Unit) (fun t u b =>
 (fun (f:Int) =>
 ldL b d (0+2) fun v =>
 Zy (decide (f<(v.len:Int))) (
 ldL b d (0+2) fun i =>
 Zdb i.ptr i.len f 1 fun w x =>
 ldS b w x fun y =>
 ldL b e (0+2) fun j =>
 Zdb j.ptr j.len f 1 fun z A =>
 ldS b z A fun B =>
 Zy (!(ZcC y B)) (
 c false b) (
 Zi (IntKind.wrap .i64 (f+1)) fun C =>
 t (C,()) b)) (
 c true b)) u.1) (s,()) a)))
def XF:ZwP:=Zbv
abbrev ZwO:=(rTy)->(rTy)->(Bool->HP)->HP
def Zdc (P:ZwS) (ad:ZwQ) (ae:ZwP) (af:rTy) (ag:rTy) (m:Bool->HP) (ah:Zc):Prop :=
 newC ah (rCl af) 28 fun c ai =>
 newC ai (rCl ag) 28 fun d aj =>
 Zi 1 fun ak =>
 Zau (σ:=Int × Unit) (fun al am g =>
 (fun (z:Int) =>
 Zy (decide (z<=5)) (
 ldL g c 0 fun an=>ldL g c (0+1) fun ao=>ldL g c (0+2) fun ap=>ldL g c (0+3) fun aq=>ldL g c (0+4) fun ar =>
 ldL g d 0 fun Q=>ldL g d (0+1) fun R=>ldL g d (0+2) fun S=>ldL g d (0+3) fun T=>ldL g d (0+4) fun U =>
 P (an,ao,ap,aq,ar,()) z (fun au V =>
 Y9 (Yb V [(d,0,slv Q),(d,0+1,slv R),(d,0+2,slv S),(d,0+3,slv T),(d,0+4,slv U)]) <|
 P (Q,R,S,T,U,()) z (fun av W =>
 Zy (au !=av) (
 m false W) (
 Zi (IntKind.wrap .u8 (z+1)) fun aw =>
 al (aw,()) W)) V) g) (
 Zi 0 fun ax =>
 Zau (σ:=Int × Unit) (fun ay az a =>
 (fun (A:Int) =>
 ldL a c 0 fun aA =>
 Zy (decide (A<(aA.len:Int))) (
 ldL a c 0 fun X =>
 Zdb X.ptr X.len A 12 fun h i =>
 ldS a h i fun aB=>ldS a h (i+1) fun aC=>ldB a h (i+2) fun aD=>ldI a h (i+3) .i64 fun aE=>ldI a h (i+4) .u8 fun aF=>ldS a h (i+5) fun aG=>ldI a h (i+6) .u8 fun aH=>ldI a h (i+7) .i64 fun aI=>ldI a h (i+8) .i64 fun aJ=>ldB a h (i+9) fun aK=>ldI a h (i+10) .i64 fun aL=>ldB a h (i+11) fun aM =>
 ldL a d 0 fun Y =>
 Zdb Y.ptr Y.len A 12 fun j k =>
 ldS a j k fun aN=>ldS a j (k+1) fun aO=>ldB a j (k+2) fun aP=>ldI a j (k+3) .i64 fun aQ=>ldI a j (k+4) .u8 fun aR=>ldS a j (k+5) fun aS=>ldI a j (k+6) .u8 fun aT=>ldI a j (k+7) .i64 fun aU=>ldI a j (k+8) .i64 fun aV=>ldB a j (k+9) fun aW=>ldI a j (k+10) .i64 fun aX=>ldB a j (k+11) fun aY =>
 Zy (!(bif ZcC aB aN then (bif ZcC aC aO then (bif aD ==aP then (bif aE ==aQ then (bif aF ==aR then (bif ZcC aG aS then (bif aH ==aT then (bif aI ==aU then (bif aJ ==aV then (bif aK ==aW then (bif aL ==aX then (bif aM ==aY then true else false) else false) else false) else false) else false) else false) else false) else false) else false) else false) else false) else false)) (
 m false a) (
 Zi (IntKind.wrap .i64 (A+1)) fun aZ =>
 ay (aZ,()) a)) (
 Zi 0 fun ba =>
 Zau (σ:=Int × Unit) (fun bb bc b =>
 (fun (B:Int) =>
 ldL b c (0+1) fun bd =>
 Zy (decide (B<(bd.len:Int))) (
 ldL b c (0+1) fun Z =>
 Zdb Z.ptr Z.len B 7 fun n o =>
 ldS b n o fun be=>ldI b n (o+1) .u8 fun bf=>ldI b n (o+2) .i64 fun bg=>ldI b n (o+3) .i64 fun bh=>ldI b n (o+4) .i64 fun bi=>ldI b n (o+5) .i64 fun bj=>ldI b n (o+6) .i64 fun bk =>
 ldL b d (0+1) fun aa =>
 Zdb aa.ptr aa.len B 7 fun p q =>
 ldS b p q fun bl=>ldI b p (q+1) .u8 fun bm=>ldI b p (q+2) .i64 fun bn=>ldI b p (q+3) .i64 fun bo=>ldI b p (q+4) .i64 fun bp=>ldI b p (q+5) .i64 fun bq=>ldI b p (q+6) .i64 fun br =>
 Zy (!(bif ZcC be bl then (bif bf ==bm then (bif bg ==bn then (bif bh ==bo then (bif bi ==bp then (bif bj ==bq then (bif bk ==br then true else false) else false) else false) else false) else false) else false) else false)) (
 m false b) (
 Zi (IntKind.wrap .i64 (B+1)) fun bs =>
 bb (bs,()) b)) (
 Zi 0 fun bt =>
 Zau (σ:=Int × Unit) (fun bu bv f =>
 (fun (C:Int) =>
 ldL f c (0+2) fun bw =>
 Zy (decide (C<(bw.len:Int))) (
 ldL f c (0+2) fun H =>
 Zdb H.ptr H.len C 5 fun r s =>
 ldS f r s fun bx=>ldI f r (s+1) .i64 fun bz=>ldI f r (s+2) .i64 fun bA=>ldI f r (s+3) .i64 fun bB=>ldL f r (s+4) fun bC =>
 ldL f d (0+2) fun I =>
 Zdb I.ptr I.len C 5 fun t u =>
 ldS f t u fun bD=>ldI f t (u+1) .i64 fun bE=>ldI f t (u+2) .i64 fun bF=>ldI f t (u+3) .i64 fun bG=>ldL f t (u+4) fun bH =>
 ad (bx,bz,bA,bB,bC,()) (bD,bE,bF,bG,bH,()) (fun bI D =>
 ndL D d (0+2) I <|
 ndL D c (0+2) H <|
 Zy (!bI) (
 m false D) (
 Zi (IntKind.wrap .i64 (C+1)) fun bJ =>
 bu (bJ,()) D)) f) (
 Zi 0 fun bK =>
 Zau (σ:=Int × Unit) (fun bL bM e =>
 (fun (E:Int) =>
 ldL e c (0+3) fun bN =>
 Zy (decide (E<(bN.len:Int))) (
 ldL e c (0+3) fun ab =>
 Zdb ab.ptr ab.len E 5 fun v w =>
 ldI e v w .i64 fun bO=>ldI e v (w+1) .i64 fun bP=>ldI e v (w+2) .i64 fun bQ=>ldI e v (w+3) .i64 fun bR=>ldI e v (w+4) .i64 fun bS =>
 ldL e d (0+3) fun ac =>
 Zdb ac.ptr ac.len E 5 fun x y =>
 ldI e x y .i64 fun bT=>ldI e x (y+1) .i64 fun bU=>ldI e x (y+2) .i64 fun bV=>ldI e x (y+3) .i64 fun bW=>ldI e x (y+4) .i64 fun bX =>
 Zy (!(bif bO ==bT then (bif bP ==bU then (bif bQ ==bV then (bif bR ==bW then (bif bS ==bX then true else false) else false) else false) else false) else false)) (
 m false e) (
 Zi (IntKind.wrap .i64 (E+1)) fun bY =>
 bL (bY,()) e)) (
 Zi 0 fun bZ =>
 Zau (σ:=Int × Unit) (fun ca cb l =>
 (fun (F:Int) =>
 ldL l c (0+4) fun cc =>
 Zy (decide (F<(cc.len:Int))) (
 ldL l c (0+4) fun J =>
 Zdb J.ptr J.len F 3 fun K L =>
 ldS l K L fun cd=>ldB l K (L+1) fun ce=>ldL l K (L+2) fun cf =>
 ldL l d (0+4) fun M =>
 Zdb M.ptr M.len F 3 fun N O =>
 ldS l N O fun cg=>ldB l N (O+1) fun ch=>ldL l N (O+2) fun ci =>
 ae (cd,ce,cf,()) (cg,ch,ci,()) (fun cj G =>
 ndL G d (0+4) M <|
 ndL G c (0+4) J <|
 Zy (!cj) (
 m false G) (
 Zi (IntKind.wrap .i64 (F+1)) fun ck =>
 ca (ck,()) G)) l) (
 m true l)) cb.1) (bZ,()) e)) bM.1) (bK,()) f)) bv.1) (bt,()) b)) bc.1) (ba,()) a)) az.1) (ax,()) g)) am.1) (ak,()) aj
def Zax:ZwO:=Zdc Zam XQ XF
abbrev ZwN:=(rTy)->(ByteArray->Int->HP)->HP
def ZeL (g:Zq3) (h:Zxa) (i:ZF5) (j:rTy) (e:ByteArray->Int->HP) (k:Zc):Prop :=
 newC k (rCl j) 28 fun a d =>
 Zi 0 fun E =>
 ldL d a 0 fun l=>ldL d a (0+1) fun m=>ldL d a (0+2) fun n=>ldL d a (0+3) fun o=>ldL d a (0+4) fun p =>
 g (l,m,n,o,p,()) (fun q r s c =>
 Zi q fun F =>
 Zi r fun G =>
 Zi s fun f =>
 Zy (f !=0) (
 Zi f fun t =>
 e e0B t c) (
 ldL c a 0 fun u=>ldL c a (0+1) fun v=>ldL c a (0+2) fun w=>ldL c a (0+3) fun x=>ldL c a (0+4) fun y =>
 h (u,v,w,x,y,()) (fun b z =>
 i (b.1,b.2.1,⟨b.2.2.1.ptr,b.2.2.1.len,b.2.2.1.cap⟩,⟨b.2.2.2.1.ptr,b.2.2.2.1.len,b.2.2.2.1.cap⟩,()) (fun A B C =>
 Zi B fun D =>
 e A D C) z) c)) d
def Zbs:ZwN:=ZeL ZbP Za5 Ze8
abbrev ZGa:=(rTy)->ByteArray->(Bool->HP)->HP
def ZaG (n:ZwN) (k:Zq2) (l:ZwO) (m:ZwR) (t:rTy) (u:ByteArray) (e:Bool->HP) (v:Zc):Prop :=
 newC v (rCl t) 28 fun d h =>
 ldL h d 0 fun w=>ldL h d (0+1) fun x=>ldL h d (0+2) fun y=>ldL h d (0+3) fun z=>ldL h d (0+4) fun A =>
 n (w,x,y,z,A,()) (fun B C o =>
 Zi C fun D =>
 Zgq (σ:=Unit) (fun aS E =>
 k u (fun F G H I =>
 newC I r0C 28 fun a J =>
 sts J a 0 (rCl F) fun f =>
 Zi G fun K =>
 Zi H fun aT =>
 Zy (K !=0) (
 m (fun L g =>
 Zy L (
 ldL g a 0 fun M=>ldL g a (0+1) fun N=>ldL g a (0+2) fun O=>ldL g a (0+3) fun P=>ldL g a (0+4) fun Q =>
 l (M,N,O,P,Q,()) (n0S,n0S,n0S,n0S,n0S,()) (fun R S =>
 Yq R fun T =>
 e T S) g) (
 e false g)) f) (
 ldL f a 0 fun U=>ldL f a (0+1) fun V=>ldL f a (0+2) fun W=>ldL f a (0+3) fun X=>ldL f a (0+4) fun Y =>
 n (U,V,W,X,Y,()) (fun Z aa p =>
 Zi aa fun q =>
 Zy (q ==5) (
 m (fun ab ac =>
 Yq ab fun ad =>
 e ad ac) p) (
 k Z (fun ae af ag ah =>
 newC ah r0C 28 fun i ai =>
 sts ai i 0 (rCl ae) fun aj =>
 Zi af fun ak =>
 Zi ag fun aU =>
 m (fun al b =>
 Zy al (
 Zy (q ==0) (
 Zy (ak ==0) (
 ldL b a 0 fun am=>ldL b a (0+1) fun an=>ldL b a (0+2) fun ao=>ldL b a (0+3) fun ap=>ldL b a (0+4) fun aq =>
 ldL b i 0 fun ar=>ldL b i (0+1) fun au=>ldL b i (0+2) fun av=>ldL b i (0+3) fun aw=>ldL b i (0+4) fun ax =>
 l (am,an,ao,ap,aq,()) (ar,au,av,aw,ax,()) (fun ay az =>
 Yq ay fun aA =>
 e aA az) b) (
 e false b)) (
 e false b)) (
 e false b)) aj) p)) f)) E) (fun r =>
 Zy (D ==0) (
 k B (fun aB aC aD aE =>
 newC aE r0C 28 fun j aF =>
 sts aF j 0 (rCl aB) fun c =>
 Zi aC fun aG =>
 Zi aD fun aV =>
 Zy (aG !=0) (
 e false c) (
 ldL c j 0 fun aH=>ldL c j (0+1) fun aI=>ldL c j (0+2) fun aJ=>ldL c j (0+3) fun aK=>ldL c j (0+4) fun aL =>
 ldL c d 0 fun aM=>ldL c d (0+1) fun aN=>ldL c d (0+2) fun aO=>ldL c d (0+3) fun aP=>ldL c d (0+4) fun aQ =>
 l (aH,aI,aJ,aK,aL,()) (aM,aN,aO,aP,aQ,()) (fun aR s =>
 Zy (!aR) (
 e false s) (
 r (()) s)) c)) o) (
 r (()) o))) h
def ZaE:ZGa:=ZaG Zbs Zad Zax Zay
end Go.Proofs.YtpjbjdheeemdiaaGreatDoor
