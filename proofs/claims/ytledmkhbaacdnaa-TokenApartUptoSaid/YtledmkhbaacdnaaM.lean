/- The models of the functions. Written by a program out of the translated functions. -/
import Derived.Test.YtledmkhbaacdnaaFwA
import GoSem.Machine.Frame
import GoSem.Op.String
namespace Go.Proofs.Ytledmkhbaacdnaa
open Go Go.Fw

/-- token.isTime -/
def g_token_isTime (at_ : Int) (K : Bool → Heap → Prop) (h : Heap) : Prop :=
 iteP (decide (at_ ≥ 0)) (
 bindB (decide (at_ ≤ 1152921504606846976)) fun t => 
 K t h) (
 K false h)

def m_token_isTime (at_ : Int) (K : Bool → Heap → Prop) (h : Heap) : Prop := g_token_isTime at_ K h

/-- token.New -/
def g_token_New (f_token_isTime : Int → (Bool → Heap → Prop) → Heap → Prop) (at_ : Int) (K : (Option Addr) → Int → Heap → Prop) (h : Heap) : Prop :=
 bindI 0 fun t => 
 f_token_isTime at_ (fun t1 h2 =>
 iteP (!t1) (
 bindI 2 fun t3 => 
 K none t3 h2) (
 newMap h2 fun b h4 => 
 newMap h4 fun b5 h6 => 
 newC h6 [Value.int .i64 at_, Value.int .i64 at_, Value.slice none 0 0, Value.map (some b), Value.map (some b5), Value.slice none 0 0, Value.int .i64 1] 60 fun b7 h8 => 
 bindI 0 fun t9 => 
 K (some ⟨b7, 0, none⟩) t9 h8)) h

def m_token_New (at_ : Int) (K : (Option Addr) → Int → Heap → Prop) (h : Heap) : Prop := g_token_New m_token_isTime at_ K h

/-- rules.within -/
def g_rules_within (n : Int) (lo : Int) (hi : Int) (K : Bool → Heap → Prop) (h : Heap) : Prop :=
 iteP (decide (n ≥ lo)) (
 bindB (decide (n ≤ hi)) fun t => 
 K t h) (
 K false h)

def m_rules_within (n : Int) (lo : Int) (hi : Int) (K : Bool → Heap → Prop) (h : Heap) : Prop := g_rules_within n lo hi K h

/-- rules.IsName -/
def g_rules_IsName (f_rules_within : Int → Int → Int → (Bool → Heap → Prop) → Heap → Prop) (s : ByteArray) (K : Bool → Heap → Prop) (h : Heap) : Prop :=
 loopM (σ := Int × Unit) (fun J1 s2 h3 =>
 (fun (s6 : Int) =>
 iteP (decide (s6 < (s.size : Int))) (
 bindI s6 fun i => 
 idxS s i fun t => 
 f_rules_within (IntKind.wrap .i64 t) 33 126 (fun t4 h5 =>
 iteP (!t4) (
 K false h5) (
 J1 (IntKind.wrap .i64 (s6 + 1), ()) h5)) h3) (
 f_rules_within (s.size : Int) 1 64 (fun t6 h7 =>
 bindB t6 fun t8 => 
 K t8 h7) h3)) s2.1) (0, ()) h

def m_rules_IsName (s : ByteArray) (K : Bool → Heap → Prop) (h : Heap) : Prop := g_rules_IsName m_rules_within s K h

/-- token.Right$1 -/
def g_token_Right_1 (n : Int) (lo : Int) (hi : Int) (K : Bool → Heap → Prop) (h : Heap) : Prop :=
 iteP (decide (n ≥ lo)) (
 bindB (decide (n ≤ hi)) fun t => 
 K t h) (
 K false h)

def m_token_Right_1 (n : Int) (lo : Int) (hi : Int) (K : Bool → Heap → Prop) (h : Heap) : Prop := g_token_Right_1 n lo hi K h

/-- token.Right -/
def g_token_Right (f_token_Right_1 : Int → Int → Int → (Bool → Heap → Prop) → Heap → Prop) (f : Int × Int × Int × Int × Unit) (K : Bool → Heap → Prop) (h : Heap) : Prop :=
 newC h [Value.int .i64 f.1, Value.int .i64 f.2.1, Value.int .i64 f.2.2.1, Value.int .i64 f.2.2.2.1] 53 fun b h1 => 
 ldI h1 b (0 + 3) .i64 fun t => 
 bindB (t == 0) fun lease => 
 cutP (σ := Bool × Unit) (fun s h9 =>
 (fun (lease8 : Bool) =>
 ldI h9 b 0 .i64 fun t10 => 
 f_token_Right_1 t10 1 1099511627776 (fun t11 h12 =>
 iteP t11 (
 ldI h12 b (0 + 1) .i64 fun t13 => 
 f_token_Right_1 t13 0 1099511627776 (fun t14 h15 =>
 iteP t14 (
 ldI h15 b (0 + 2) .i64 fun t16 => 
 iteP (decide (t16 ≥ 1)) (
 ldI h15 b (0 + 2) .i64 fun t17 => 
 iteP (decide (t17 ≤ 3)) (
 bindB lease8 fun t18 => 
 K t18 h15) (
 K false h15)) (
 K false h15)) (
 K false h15)) h12) (
 K false h12)) h9) s.1) (fun J2 =>
 ldI h1 b (0 + 2) .i64 fun t3 => 
 iteP (t3 == 3) (
 ldI h1 b (0 + 3) .i64 fun t4 => 
 f_token_Right_1 t4 1000000 3600000000 (fun t5 h6 =>
 bindB t5 fun lease7 => 
 J2 (lease7, ()) h6) h1) (
 J2 (lease, ()) h1))

def m_token_Right (f : Int × Int × Int × Int × Unit) (K : Bool → Heap → Prop) (h : Heap) : Prop := g_token_Right m_token_Right_1 f K h

/-- (*token.Server).Load$1 -/
def g_token_Server_Load_1 (f_token_Right : (Int × Int × Int × Int × Unit) → (Bool → Heap → Prop) → Heap → Prop) (f : Int × Int × Int × Int × Unit) (K : Bool → Heap → Prop) (h : Heap) : Prop :=
 newC h [Value.int .i64 f.1, Value.int .i64 f.2.1, Value.int .i64 f.2.2.1, Value.int .i64 f.2.2.2.1] 53 fun b h1 => 
 ldI h1 b 0 .i64 fun t => ldI h1 b (0 + 1) .i64 fun t2 => ldI h1 b (0 + 2) .i64 fun t3 => ldI h1 b (0 + 3) .i64 fun t4 => 
 f_token_Right (t, t2, t3, t4, ()) (fun t5 h6 =>
 bindB (!t5) fun t7 => 
 K t7 h6) h1

def m_token_Server_Load_1 (f : Int × Int × Int × Int × Unit) (K : Bool → Heap → Prop) (h : Heap) : Prop := g_token_Server_Load_1 m_token_Right f K h

/-- slices.IndexFunc[[]token.Flow,token.Flow] -/
def g_slices_IndexFunc_token_Flow_token_Flow___token_Server_Load_1 (f_token_Server_Load_1 : (Int × Int × Int × Int × Unit) → (Bool → Heap → Prop) → Heap → Prop) (s : Sl) (K : Int → Heap → Prop) (h : Heap) : Prop :=
 bindI 0 fun t => 
 loopM (σ := Int × Unit) (fun J1 s2 h3 =>
 (fun (s8 : Int) =>
 iteP (decide (s8 < (s.len : Int))) (
 bindI s8 fun i => 
 idxA s.ptr s.len i 4 fun b o => 
 ldI h3 b o .i64 fun t4 => ldI h3 b (o + 1) .i64 fun t5 => ldI h3 b (o + 2) .i64 fun t6 => ldI h3 b (o + 3) .i64 fun t7 => 
 f_token_Server_Load_1 (t4, t5, t6, t7, ()) (fun t8 h9 =>
 iteP t8 (
 bindI i fun t10 => 
 K t10 h9) (
 J1 (IntKind.wrap .i64 (s8 + 1), ()) h9)) h3) (
 bindI (-1) fun t11 => 
 K t11 h3)) s2.1) (0, ()) h

def m_slices_IndexFunc_token_Flow_token_Flow___token_Server_Load_1 (s : Sl) (K : Int → Heap → Prop) (h : Heap) : Prop := g_slices_IndexFunc_token_Flow_token_Flow___token_Server_Load_1 m_token_Server_Load_1 s K h

/-- slices.ContainsFunc[[]token.Flow,token.Flow] -/
def g_slices_ContainsFunc_token_Flow_token_Flow___token_Server_Load_1 (f_slices_IndexFunc_token_Flow_token_Flow___token_Server_Load_1 : Sl → (Int → Heap → Prop) → Heap → Prop) (s : Sl) (K : Bool → Heap → Prop) (h : Heap) : Prop :=
 f_slices_IndexFunc_token_Flow_token_Flow___token_Server_Load_1 s (fun t h1 =>
 bindB (decide (t ≥ 0)) fun t2 => 
 K t2 h1) h

def m_slices_ContainsFunc_token_Flow_token_Flow___token_Server_Load_1 (s : Sl) (K : Bool → Heap → Prop) (h : Heap) : Prop := g_slices_ContainsFunc_token_Flow_token_Flow___token_Server_Load_1 m_slices_IndexFunc_token_Flow_token_Flow___token_Server_Load_1 s K h

/-- (*token.Server).twice -/
def g_token_Server_twice (s : Option Addr) (name : ByteArray) (l : Sl) (K : Bool → Heap → Prop) (h : Heap) : Prop :=
 newMap h fun b h1 => 
 derefP s fun b2 o => 
 ldL h1 b2 (o + 2) fun t => 
 loopM (σ := Int × Unit) (fun J3 s4 h5 =>
 (fun (s20 : Int) =>
 iteP (decide (s20 < (t.len : Int))) (
 idxA t.ptr t.len s20 2 fun b6 o7 => 
 ldS h5 b6 o7 fun t8 => ldL h5 b6 (o7 + 1) fun t9 => 
 newC h5 [Value.string (ByteArray.mk #[]), Value.slice none 0 0] 69 fun b10 h11 => 
 sts h11 b10 0 [Value.string t8, Value.slice t9.ptr t9.len t9.cap] fun h12 => 
 ldL h12 b10 (0 + 1) fun t13 => 
 loopM (σ := Int × Unit) (fun J14 s15 h16 =>
 (fun (s27 : Int) =>
 iteP (decide (s27 < (t13.len : Int))) (
 idxA t13.ptr t13.len s27 4 fun b17 o18 => 
 ldI h16 b17 o18 .i64 fun t19 => ldI h16 b17 (o18 + 1) .i64 fun t20 => ldI h16 b17 (o18 + 2) .i64 fun t21 => ldI h16 b17 (o18 + 3) .i64 fun t22 => 
 newC h16 [Value.int .i64 0, Value.int .i64 0, Value.int .i64 0, Value.int .i64 0] 53 fun b23 h24 => 
 sts h24 b23 0 [Value.int .i64 t19, Value.int .i64 t20, Value.int .i64 t21, Value.int .i64 t22] fun h25 => 
 ldS h25 b10 0 fun t26 => 
 iteP (!(strEq t26 name)) (
 ldI h25 b23 0 .i64 fun t27 => 
 mapPut (.int .i64) h25 (some b) (Value.int .i64 t27) (Value.bool true) fun h28 => 
 J14 (IntKind.wrap .i64 (s27 + 1), ()) h28) (
 J14 (IntKind.wrap .i64 (s27 + 1), ()) h25)) (
 J3 (IntKind.wrap .i64 (s20 + 1), ()) h16)) s15.1) (0, ()) h12) (
 loopM (σ := Int × Unit) (fun J29 s30 h31 =>
 (fun (s42 : Int) =>
 iteP (decide (s42 < (l.len : Int))) (
 idxA l.ptr l.len s42 4 fun b32 o33 => 
 ldI h31 b32 o33 .i64 fun t34 => ldI h31 b32 (o33 + 1) .i64 fun t35 => ldI h31 b32 (o33 + 2) .i64 fun t36 => ldI h31 b32 (o33 + 3) .i64 fun t37 => 
 newC h31 [Value.int .i64 0, Value.int .i64 0, Value.int .i64 0, Value.int .i64 0] 53 fun b38 h39 => 
 sts h39 b38 0 [Value.int .i64 t34, Value.int .i64 t35, Value.int .i64 t36, Value.int .i64 t37] fun h40 => 
 ldI h40 b38 0 .i64 fun t41 => 
 mapGet (.int .i64) h40 (some b) (Value.int .i64 t41) fun r => asB (r.getD (Value.bool false)) fun t42 => 
 iteP t42 (
 K true h40) (
 ldI h40 b38 0 .i64 fun t43 => 
 mapPut (.int .i64) h40 (some b) (Value.int .i64 t43) (Value.bool true) fun h44 => 
 J29 (IntKind.wrap .i64 (s42 + 1), ()) h44)) (
 K false h31)) s30.1) (0, ()) h5)) s4.1) (0, ()) h1

def m_token_Server_twice (s : Option Addr) (name : ByteArray) (l : Sl) (K : Bool → Heap → Prop) (h : Heap) : Prop := g_token_Server_twice s name l K h

/-- (*token.Server).space$1 -/
def g_token_Server_space_1 (x : ByteArray × Sl × Unit) (a1 : Option Addr) (K : Bool → Heap → Prop) (h : Heap) : Prop :=
 newC h [Value.string x.1, Value.slice x.2.1.ptr x.2.1.len x.2.1.cap] 69 fun b h1 => 
 ldS h1 b 0 fun t => 
 derefP a1 fun b2 o => ldS h1 b2 o fun t3 => 
 bindB (strEq t t3) fun t4 => 
 K t4 h1

def m_token_Server_space_1 (x : ByteArray × Sl × Unit) (a1 : Option Addr) (K : Bool → Heap → Prop) (h : Heap) : Prop := g_token_Server_space_1 x a1 K h

/-- slices.IndexFunc[[]token.space,token.space] -/
def g_slices_IndexFunc_token_space_token_space___token_Server_space_1 (f_token_Server_space_1 : (ByteArray × Sl × Unit) → (Option Addr) → (Bool → Heap → Prop) → Heap → Prop) (s : Sl) (f : Option Addr × Unit) (K : Int → Heap → Prop) (h : Heap) : Prop :=
 bindI 0 fun t => 
 loopM (σ := Int × Unit) (fun J1 s2 h3 =>
 (fun (s8 : Int) =>
 iteP (decide (s8 < (s.len : Int))) (
 bindI s8 fun i => 
 idxA s.ptr s.len i 2 fun b o => 
 ldS h3 b o fun t4 => ldL h3 b (o + 1) fun t5 => 
 f_token_Server_space_1 (t4, t5, ()) f.1 (fun t6 h7 =>
 iteP t6 (
 bindI i fun t8 => 
 K t8 h7) (
 J1 (IntKind.wrap .i64 (s8 + 1), ()) h7)) h3) (
 bindI (-1) fun t9 => 
 K t9 h3)) s2.1) (0, ()) h

def m_slices_IndexFunc_token_space_token_space___token_Server_space_1 (s : Sl) (f : Option Addr × Unit) (K : Int → Heap → Prop) (h : Heap) : Prop := g_slices_IndexFunc_token_space_token_space___token_Server_space_1 m_token_Server_space_1 s f K h

/-- (*token.Server).space -/
def g_token_Server_space (f_slices_IndexFunc_token_space_token_space___token_Server_space_1 : Sl → (Option Addr × Unit) → (Int → Heap → Prop) → Heap → Prop) (s : Option Addr) (name : ByteArray) (K : Int → Heap → Prop) (h : Heap) : Prop :=
 newC h [Value.string name] 9 fun b h1 => 
 bindI 0 fun t => 
 derefP s fun b2 o => 
 ldL h1 b2 (o + 2) fun t3 => 
 f_slices_IndexFunc_token_space_token_space___token_Server_space_1 t3 (some ⟨b, 0, none⟩, ()) (fun t4 h5 =>
 bindI t4 fun t6 => 
 K t6 h5) h1

def m_token_Server_space (s : Option Addr) (name : ByteArray) (K : Int → Heap → Prop) (h : Heap) : Prop := g_token_Server_space m_slices_IndexFunc_token_space_token_space___token_Server_space_1 s name K h

/-- (*token.Server).full -/
def g_token_Server_full (f_token_Server_space : (Option Addr) → ByteArray → (Int → Heap → Prop) → Heap → Prop) (s : Option Addr) (name : ByteArray) (l : Sl) (K : Bool → Heap → Prop) (h : Heap) : Prop :=
 derefP s fun b o => 
 derefP s fun b1 o2 => 
 ldL h b (o + 2) fun t => 
 ldM h b1 (o2 + 3) fun t3 => 
 lenM h t3 fun t4 => 
 need (heldL h [(b, o + 2, Value.slice t.ptr t.len t.cap)]) <|
 bindI (l.len : Int) fun flows => 
 bindI (t.len : Int) fun spaces => 
 bindI t4 fun ids => 
 derefP s fun b5 o6 => 
 ldL h b5 (o6 + 2) fun t7 => 
 loopM (σ := Int × Int × Unit) (fun J9 s10 h11 =>
 (fun (flows8 : Int) (s33 : Int) =>
 iteP (decide (s33 < (t7.len : Int))) (
 idxA t7.ptr t7.len s33 2 fun b12 o13 => 
 ldS h11 b12 o13 fun t14 => ldL h11 b12 (o13 + 1) fun t15 => 
 newC h11 [Value.string (ByteArray.mk #[]), Value.slice none 0 0] 69 fun b16 h17 => 
 sts h17 b16 0 [Value.string t14, Value.slice t15.ptr t15.len t15.cap] fun h18 => 
 ldS h18 b16 0 fun t19 => 
 iteP (!(strEq t19 name)) (
 ldL h18 b16 (0 + 1) fun t20 => 
 bindI (IntKind.wrap .i64 (flows8 + (t20.len : Int))) fun flows21 => 
 J9 (flows21, IntKind.wrap .i64 (s33 + 1), ()) h18) (
 J9 (flows8, IntKind.wrap .i64 (s33 + 1), ()) h18)) (
 cutP (σ := Int × Unit) (fun s27 h28 =>
 (fun (spaces26 : Int) =>
 loopM (σ := Int × Int × Unit) (fun J30 s31 h32 =>
 (fun (ids29 : Int) (s55 : Int) =>
 iteP (decide (s55 < (l.len : Int))) (
 idxA l.ptr l.len s55 4 fun b33 o34 => 
 ldI h32 b33 o34 .i64 fun t35 => ldI h32 b33 (o34 + 1) .i64 fun t36 => ldI h32 b33 (o34 + 2) .i64 fun t37 => ldI h32 b33 (o34 + 3) .i64 fun t38 => 
 newC h32 [Value.int .i64 0, Value.int .i64 0, Value.int .i64 0, Value.int .i64 0] 53 fun b39 h40 => 
 sts h40 b39 0 [Value.int .i64 t35, Value.int .i64 t36, Value.int .i64 t37, Value.int .i64 t38] fun h41 => 
 derefP s fun b42 o43 => 
 ldM h41 b42 (o43 + 3) fun t44 => 
 ldI h41 b39 0 .i64 fun t45 => 
 bothP (
 mapGet (.int .i64) h41 t44 (Value.int .i64 t45) fun r => exG (r.getD (Value.agg #[Value.nilIface, Value.int .i64 0])) (fun t46 : Value × Int × Unit => Value.agg #[t46.1, Value.int .i64 t46.2.1]) fun t46 => 
 newC h41 [Value.nilIface, Value.int .i64 0] 74 fun b47 h48 => 
 sts h48 b47 0 [t46.1, Value.int .i64 t46.2.1] fun h49 => 
 bindB r.isSome fun there => 
 iteP (!there) (
 bindI (IntKind.wrap .i64 (ids29 + 1)) fun ids50 => 
 J30 (ids50, IntKind.wrap .i64 (s55 + 1), ()) h49) (
 J30 (ids29, IntKind.wrap .i64 (s55 + 1), ()) h49)) (
 newC h41 [Value.nilIface, Value.int .i64 0] 74 fun b51 h52 => 
 need (heldL h52 [(b39, 0, Value.int .i64 t45)]) <|
 need (heldL h52 [(b42, o43 + 3, Value.map t44)]) <|
 mapGet (.int .i64) h52 t44 (Value.int .i64 t45) fun r53 => exG (r53.getD (Value.agg #[Value.nilIface, Value.int .i64 0])) (fun t54 : Value × Int × Unit => Value.agg #[t54.1, Value.int .i64 t54.2.1]) fun t54 => 
 sts h52 b51 0 [t54.1, Value.int .i64 t54.2.1] fun h55 => 
 bindB r53.isSome fun there56 => 
 iteP (!there56) (
 bindI (IntKind.wrap .i64 (ids29 + 1)) fun ids57 => 
 J30 (ids57, IntKind.wrap .i64 (s55 + 1), ()) h55) (
 J30 (ids29, IntKind.wrap .i64 (s55 + 1), ()) h55))) (
 iteP (decide (flows8 > 256)) (
 K true h32) (
 iteP (decide (spaces26 > 8)) (
 K true h32) (
 bindB (decide (ids29 > 512)) fun t58 => 
 K t58 h32)))) s31.1 s31.2.1) (ids, 0, ()) h28) s27.1) (fun J22 =>
 f_token_Server_space s name (fun t23 h24 =>
 iteP (decide (t23 < 0)) (
 bindI (IntKind.wrap .i64 (spaces + 1)) fun spaces25 => 
 J22 (spaces25, ()) h24) (
 J22 (spaces, ()) h24)) h11))) s10.1 s10.2.1) (flows, 0, ()) h

def m_token_Server_full (s : Option Addr) (name : ByteArray) (l : Sl) (K : Bool → Heap → Prop) (h : Heap) : Prop := g_token_Server_full m_token_Server_space s name l K h

/-- slices.Clone[[]token.Flow,token.Flow] -/
def g_slices_Clone_token_Flow_token_Flow_ (s : Sl) (K : Sl → Heap → Prop) (h : Heap) : Prop :=
 iteP s.ptr.isNone (
 K ⟨none, 0, 0⟩ h) (
 newC h [] 53 fun b h1 => 
 rdS s 4 h1 fun new => app 53 4 32 [Value.int .i64 0, Value.int .i64 0, Value.int .i64 0, Value.int .i64 0] ⟨some ⟨b, 0, none⟩, 0, 0⟩ s.len new h1 fun t h2 => 
 K t h2)

def m_slices_Clone_token_Flow_token_Flow_ (s : Sl) (K : Sl → Heap → Prop) (h : Heap) : Prop := g_slices_Clone_token_Flow_token_Flow_ s K h

/-- window.New -/
def g_window_New (width : Int) (buckets : Int) (K : (Option Addr) → Int → Heap → Prop) (h : Heap) : Prop :=
 bindI 0 fun t => 
 iteP (decide (width < 1)) (
 bindI 2 fun t1 => 
 K none t1 h) (
 iteP (decide (width > 1099511627776)) (
 bindI 2 fun t2 => 
 K none t2 h) (
 iteP (decide (buckets < 1)) (
 bindI 2 fun t3 => 
 K none t3 h) (
 bindB (decide (buckets > 60)) fun t4 => 
 iteP t4 (
 bindI 2 fun t5 => 
 K none t5 h) (
 need (buckets ≠ 0) <| 
 bindB ((Int.tmod width buckets) != 0) fun t6 => 
 iteP t6 (
 bindI 6 fun t7 => 
 K none t7 h) (
 newMap h fun b h8 => 
 newC h8 [Value.int .i64 width, Value.int .i64 buckets, Value.int .i64 0, Value.map (some b)] 105 fun b9 h10 => 
 bindI 0 fun t11 => 
 K (some ⟨b9, 0, none⟩) t11 h10)))))

def m_window_New (width : Int) (buckets : Int) (K : (Option Addr) → Int → Heap → Prop) (h : Heap) : Prop := g_window_New width buckets K h

/-- sketch.New$1 -/
def g_sketch_New_1 (n : Int) (most : Int) (K : Bool → Heap → Prop) (h : Heap) : Prop :=
 iteP (decide (n ≥ 1)) (
 bindB (decide (n ≤ most)) fun t => 
 K t h) (
 K false h)

def m_sketch_New_1 (n : Int) (most : Int) (K : Bool → Heap → Prop) (h : Heap) : Prop := g_sketch_New_1 n most K h

/-- sketch.New -/
def g_sketch_New (f_sketch_New_1 : Int → Int → (Bool → Heap → Prop) → Heap → Prop) (width : Int) (buckets : Int) (rows : Int) (columns : Int) (seed : Int) (K : (Option Addr) → Int → Heap → Prop) (h : Heap) : Prop :=
 bindI 0 fun t => 
 f_sketch_New_1 width 1099511627776 (fun t1 h2 =>
 iteP (!t1) (
 bindI 2 fun t3 => 
 K none t3 h2) (
 f_sketch_New_1 buckets 60 (fun t4 h5 =>
 iteP (!t4) (
 bindI 2 fun t6 => 
 K none t6 h5) (
 f_sketch_New_1 rows 8 (fun t7 h8 =>
 iteP (!t7) (
 bindI 2 fun t9 => 
 K none t9 h8) (
 f_sketch_New_1 columns 4096 (fun t10 h11 =>
 bindB (!t10) fun t12 => 
 iteP t12 (
 bindI 2 fun t13 => 
 K none t13 h11) (
 need (buckets ≠ 0) <| 
 bindB ((Int.tmod width buckets) != 0) fun t14 => 
 iteP t14 (
 bindI 6 fun t15 => 
 K none t15 h11) (
 newC h11 [Value.int .i64 width, Value.int .i64 buckets, Value.int .i64 rows, Value.int .i64 columns, Value.int .u64 seed, Value.slice none 0 0, Value.int .i64 0] 111 fun b h16 => 
 bindI 0 fun t17 => 
 K (some ⟨b, 0, none⟩) t17 h16))) h8)) h5)) h2)) h

def m_sketch_New (width : Int) (buckets : Int) (rows : Int) (columns : Int) (seed : Int) (K : (Option Addr) → Int → Heap → Prop) (h : Heap) : Prop := g_sketch_New m_sketch_New_1 width buckets rows columns seed K h

/-- token.fresh -/
def g_token_fresh (f_window_New : Int → Int → ((Option Addr) → Int → Heap → Prop) → Heap → Prop) (f_sketch_New : Int → Int → Int → Int → Int → ((Option Addr) → Int → Heap → Prop) → Heap → Prop) (f : Int × Int × Int × Int × Unit) (K : Value → Heap → Prop) (h : Heap) : Prop :=
 newC h [Value.int .i64 f.1, Value.int .i64 f.2.1, Value.int .i64 f.2.2.1, Value.int .i64 f.2.2.2.1] 53 fun b h1 => 
 ldI h1 b (0 + 2) .i64 fun t => 
 bindB (t == 1) fun t2 => 
 iteP t2 (
 f_window_New 1000000 10 (fun t3 t4 h5 =>
 bindI t4 fun x => 
 K (Value.iface 88 (Value.agg #[Value.pointer t3])) h5) h1) (
 bindB (t == 2) fun t6 => 
 iteP t6 (
 ldI h1 b 0 .i64 fun t7 => 
 f_sketch_New 1000000 10 3 256 (IntKind.wrap .u64 t7) (fun t8 t9 h10 =>
 bindI t9 fun x11 => 
 K (Value.iface 94 (Value.agg #[Value.pointer t8])) h10) h1) (
 K (Value.iface 96 (Value.agg #[])) h1))

def m_token_fresh (f : Int × Int × Int × Int × Unit) (K : Value → Heap → Prop) (h : Heap) : Prop := g_token_fresh m_window_New m_sketch_New f K h

/-- (*token.Server).Load -/
def g_token_Server_Load (f_rules_IsName : ByteArray → (Bool → Heap → Prop) → Heap → Prop) (f_slices_ContainsFunc_token_Flow_token_Flow___token_Server_Load_1 : Sl → (Bool → Heap → Prop) → Heap → Prop) (f_token_Server_twice : (Option Addr) → ByteArray → Sl → (Bool → Heap → Prop) → Heap → Prop) (f_token_Server_full : (Option Addr) → ByteArray → Sl → (Bool → Heap → Prop) → Heap → Prop) (f_token_Server_space : (Option Addr) → ByteArray → (Int → Heap → Prop) → Heap → Prop) (f_slices_Clone_token_Flow_token_Flow_ : Sl → (Sl → Heap → Prop) → Heap → Prop) (f_token_fresh : (Int × Int × Int × Int × Unit) → (Value → Heap → Prop) → Heap → Prop) (s : Option Addr) (namespace_ : ByteArray) (l : Sl) (K : Int → Heap → Prop) (h : Heap) : Prop :=
 bindI 0 fun t => 
 bindB s.isNone fun t1 => 
 iteP t1 (
 bindI 1 fun t2 => 
 K t2 h) (
 f_rules_IsName namespace_ (fun t3 h4 =>
 bindB (!t3) fun t5 => 
 iteP t5 (
 bindI 10 fun t6 => 
 K t6 h4) (
 f_slices_ContainsFunc_token_Flow_token_Flow___token_Server_Load_1 l (fun t7 h8 =>
 bindB t7 fun t9 => 
 iteP t9 (
 bindI 6 fun t10 => 
 K t10 h8) (
 f_token_Server_twice s namespace_ l (fun t11 h12 =>
 bindB t11 fun t13 => 
 iteP t13 (
 bindI 11 fun t14 => 
 K t14 h12) (
 f_token_Server_full s namespace_ l (fun t15 h16 =>
 bindB t15 fun t17 => 
 iteP t17 (
 bindI 3 fun t18 => 
 K t18 h16) (
 f_token_Server_space s namespace_ (fun t19 h20 =>
 bindI t19 fun i => 
 cutP (σ := Int × Unit) (fun s35 h36 =>
 (fun (i34 : Int) =>
 derefP s fun b37 o38 => 
 ldL h36 b37 (o38 + 2) fun t39 => 
 f_slices_Clone_token_Flow_token_Flow_ l (fun t40 h41 =>
 need (heldL h41 [(b37, o38 + 2, Value.slice t39.ptr t39.len t39.cap)]) <|
 idxA t39.ptr t39.len i34 2 fun b42 o43 => 
 st h41 b42 (o43 + 1) (Value.slice t40.ptr t40.len t40.cap) fun h44 => 
 loopM (σ := Int × Unit) (fun J45 s46 h47 =>
 (fun (s64 : Int) =>
 iteP (decide (s64 < (l.len : Int))) (
 idxA l.ptr l.len s64 4 fun b48 o49 => 
 ldI h47 b48 o49 .i64 fun t50 => ldI h47 b48 (o49 + 1) .i64 fun t51 => ldI h47 b48 (o49 + 2) .i64 fun t52 => ldI h47 b48 (o49 + 3) .i64 fun t53 => 
 newC h47 [Value.int .i64 0, Value.int .i64 0, Value.int .i64 0, Value.int .i64 0] 53 fun b54 h55 => 
 sts h55 b54 0 [Value.int .i64 t50, Value.int .i64 t51, Value.int .i64 t52, Value.int .i64 t53] fun h56 => 
 cutP (σ := Option Addr × Bool × Unit) (fun s73 h74 =>
 (fun (c : Option Addr) (there72 : Bool) =>
 iteP (!there72) (
 derefP s fun b75 o76 => 
 ldM h74 b75 (o76 + 3) fun t77 => 
 ldI h74 b54 0 .i64 fun t78 => 
 ldI h74 b54 0 .i64 fun t79 => ldI h74 b54 (0 + 1) .i64 fun t80 => ldI h74 b54 (0 + 2) .i64 fun t81 => ldI h74 b54 (0 + 3) .i64 fun t82 => 
 ldI h74 b54 (0 + 2) .i64 fun t83 => 
 f_token_fresh (t79, t80, t81, t82, ()) (fun t84 h85 =>
 need (heldL h85 [(b54, 0 + 2, Value.int .i64 t83)]) <|
 need (heldL h85 [(b54, 0, Value.int .i64 t78)]) <|
 need (heldL h85 [(b75, o76 + 3, Value.map t77)]) <|
 need (oneCell t84 = true) <| 
 mapPut (.int .i64) h85 t77 (Value.int .i64 t78) (Value.agg #[t84, Value.int .i64 t83]) fun h86 => 
 J45 (IntKind.wrap .i64 (s64 + 1), ()) h86) h74) (
 derefP c fun b87 o88 => 
 ldI h74 b87 (o88 + 1) .i64 fun t89 => 
 ldI h74 b54 (0 + 2) .i64 fun t90 => 
 iteP (t89 != t90) (
 derefP s fun b91 o92 => 
 ldM h74 b91 (o92 + 3) fun t93 => 
 ldI h74 b54 0 .i64 fun t94 => 
 ldI h74 b54 0 .i64 fun t95 => ldI h74 b54 (0 + 1) .i64 fun t96 => ldI h74 b54 (0 + 2) .i64 fun t97 => ldI h74 b54 (0 + 3) .i64 fun t98 => 
 ldI h74 b54 (0 + 2) .i64 fun t99 => 
 f_token_fresh (t95, t96, t97, t98, ()) (fun t100 h101 =>
 need (heldL h101 [(b54, 0 + 2, Value.int .i64 t99)]) <|
 need (heldL h101 [(b54, 0, Value.int .i64 t94)]) <|
 need (heldL h101 [(b91, o92 + 3, Value.map t93)]) <|
 need (oneCell t100 = true) <| 
 mapPut (.int .i64) h101 t93 (Value.int .i64 t94) (Value.agg #[t100, Value.int .i64 t99]) fun h102 => 
 J45 (IntKind.wrap .i64 (s64 + 1), ()) h102) h74) (
 J45 (IntKind.wrap .i64 (s64 + 1), ()) h74))) s73.1 s73.2.1) (fun J57 =>
 derefP s fun b58 o59 => 
 ldM h56 b58 (o59 + 3) fun t60 => 
 ldI h56 b54 0 .i64 fun t61 => 
 bothP (
 mapGet (.int .i64) h56 t60 (Value.int .i64 t61) fun r => exG (r.getD (Value.agg #[Value.nilIface, Value.int .i64 0])) (fun t62 : Value × Int × Unit => Value.agg #[t62.1, Value.int .i64 t62.2.1]) fun t62 => 
 newC h56 [Value.nilIface, Value.int .i64 0] 74 fun b63 h64 => 
 sts h64 b63 0 [t62.1, Value.int .i64 t62.2.1] fun h65 => 
 bindB r.isSome fun there => 
 J57 (some ⟨b63, 0, none⟩, there, ()) h65) (
 newC h56 [Value.nilIface, Value.int .i64 0] 74 fun b66 h67 => 
 need (heldL h67 [(b54, 0, Value.int .i64 t61)]) <|
 need (heldL h67 [(b58, o59 + 3, Value.map t60)]) <|
 mapGet (.int .i64) h67 t60 (Value.int .i64 t61) fun r68 => exG (r68.getD (Value.agg #[Value.nilIface, Value.int .i64 0])) (fun t69 : Value × Int × Unit => Value.agg #[t69.1, Value.int .i64 t69.2.1]) fun t69 => 
 sts h67 b66 0 [t69.1, Value.int .i64 t69.2.1] fun h70 => 
 bindB r68.isSome fun there71 => 
 J57 (some ⟨b66, 0, none⟩, there71, ()) h70))) (
 bindI 0 fun t103 => 
 K t103 h47)) s46.1) (0, ()) h44) h36) s35.1) (fun J21 =>
 iteP (decide (i < 0)) (
 derefP s fun b o => 
 ldL h20 b (o + 2) fun t22 => 
 bindI (t22.len : Int) fun i23 => 
 derefP s fun b24 o25 => 
 ldL h20 b24 (o25 + 2) fun t26 => 
 newC h20 [Value.string namespace_, Value.slice none 0 0] 69 fun b27 h28 => 
 rdS ⟨some ⟨b27, 0, none⟩, 1, 1⟩ 2 h28 fun new => app 69 2 40 [Value.string (ByteArray.mk #[]), Value.slice none 0 0] t26 1 new h28 fun t29 h30 => 
 derefP s fun b31 o32 => 
 st h30 b31 (o32 + 2) (Value.slice t29.ptr t29.len t29.cap) fun h33 => 
 J21 (i23, ()) h33) (
 J21 (i, ()) h20))) h16)) h12)) h8)) h4)) h)

def m_token_Server_Load (s : Option Addr) (namespace_ : ByteArray) (l : Sl) (K : Int → Heap → Prop) (h : Heap) : Prop := g_token_Server_Load m_rules_IsName m_slices_ContainsFunc_token_Flow_token_Flow___token_Server_Load_1 m_token_Server_twice m_token_Server_full m_token_Server_space m_slices_Clone_token_Flow_token_Flow_ m_token_fresh s namespace_ l K h

/-- (*token.Server).Open -/
def g_token_Server_Open (s : Option Addr) (conn : Int) (K : Int → Heap → Prop) (h : Heap) : Prop :=
 bindI 0 fun t => 
 bindB s.isNone fun t1 => 
 iteP t1 (
 bindI 1 fun t2 => 
 K t2 h) (
 iteP (decide (conn < 1)) (
 bindI 2 fun t3 => 
 K t3 h) (
 bindB (decide (conn > 2147483647)) fun t4 => 
 iteP t4 (
 bindI 2 fun t5 => 
 K t5 h) (
 derefP s fun b o => 
 ldM h b (o + 4) fun t6 => 
 mapGet (.int .i64) h t6 (Value.int .i64 conn) fun r => asS (r.getD (Value.string (ByteArray.mk #[]))) fun t7 => 
 bindB r.isSome fun there => 
 iteP there (
 bindI 11 fun t8 => 
 K t8 h) (
 derefP s fun b9 o10 => 
 ldM h b9 (o10 + 4) fun t11 => 
 lenM h t11 fun t12 => 
 iteP (decide (t12 ≥ 64)) (
 bindI 3 fun t13 => 
 K t13 h) (
 derefP s fun b14 o15 => 
 ldM h b14 (o15 + 4) fun t16 => 
 mapPut (.int .i64) h t16 (Value.int .i64 conn) (Value.string (ByteArray.mk #[])) fun h17 => 
 bindI 0 fun t18 => 
 K t18 h17)))))

def m_token_Server_Open (s : Option Addr) (conn : Int) (K : Int → Heap → Prop) (h : Heap) : Prop := g_token_Server_Open s conn K h

/-- (*token.Server).look -/
def g_token_Server_look (f_token_isTime : Int → (Bool → Heap → Prop) → Heap → Prop) (s : Option Addr) (at_ : Int) (K : Int → Heap → Prop) (h : Heap) : Prop :=
 bindI 0 fun t => 
 bindB s.isNone fun t1 => 
 iteP t1 (
 bindI 1 fun t2 => 
 K t2 h) (
 f_token_isTime at_ (fun t3 h4 =>
 bindB (!t3) fun t5 => 
 iteP t5 (
 bindI 2 fun t6 => 
 K t6 h4) (
 derefP s fun b o => 
 ldI h4 b (o + 1) .i64 fun t7 => 
 bindB (decide (at_ < t7)) fun t8 => 
 iteP t8 (
 bindI 7 fun t9 => 
 K t9 h4) (
 bindI 0 fun t10 => 
 K t10 h4))) h)

def m_token_Server_look (s : Option Addr) (at_ : Int) (K : Int → Heap → Prop) (h : Heap) : Prop := g_token_Server_look m_token_isTime s at_ K h

/-- proto.from -/
def g_proto_from (n : Int) (lo : Int) (hi : Int) (K : Bool → Heap → Prop) (h : Heap) : Prop :=
 iteP (decide (n ≥ lo)) (
 bindB (decide (n ≤ hi)) fun t => 
 K t h) (
 K false h)

def m_proto_from (n : Int) (lo : Int) (hi : Int) (K : Bool → Heap → Prop) (h : Heap) : Prop := g_proto_from n lo hi K h

/-- proto.isName -/
def g_proto_isName (f_proto_from : Int → Int → Int → (Bool → Heap → Prop) → Heap → Prop) (s : ByteArray) (K : Bool → Heap → Prop) (h : Heap) : Prop :=
 loopM (σ := Int × Unit) (fun J1 s2 h3 =>
 (fun (s6 : Int) =>
 iteP (decide (s6 < (s.size : Int))) (
 bindI s6 fun i => 
 idxS s i fun t => 
 f_proto_from (IntKind.wrap .i64 t) 33 126 (fun t4 h5 =>
 iteP (!t4) (
 K false h5) (
 J1 (IntKind.wrap .i64 (s6 + 1), ()) h5)) h3) (
 f_proto_from (s.size : Int) 1 64 (fun t6 h7 =>
 bindB t6 fun t8 => 
 K t8 h7) h3)) s2.1) (0, ()) h

def m_proto_isName (s : ByteArray) (K : Bool → Heap → Prop) (h : Heap) : Prop := g_proto_isName m_proto_from s K h

/-- proto.Right -/
def g_proto_Right (f_proto_from : Int → Int → Int → (Bool → Heap → Prop) → Heap → Prop) (f_proto_isName : ByteArray → (Bool → Heap → Prop) → Heap → Prop) (r : Int × Int × Int × Int × ByteArray × Int × Unit) (K : Bool → Heap → Prop) (h : Heap) : Prop :=
 newC h [Value.int .i64 r.1, Value.int .u8 r.2.1, Value.int .i64 r.2.2.1, Value.int .i64 r.2.2.2.1, Value.string r.2.2.2.2.1, Value.int .i64 r.2.2.2.2.2.1] 41 fun b h1 => 
 cutP (σ := Bool × Unit) (fun s h10 =>
 (fun (asks9 : Bool) =>
 cutP (σ := Bool × Unit) (fun s15 h16 =>
 (fun (bare14 : Bool) =>
 ldI h16 b 0 .i64 fun t17 => 
 f_proto_from t17 0 2147483647 (fun t18 h19 =>
 iteP (!t18) (
 K false h19) (
 ldI h19 b (0 + 1) .u8 fun t20 => 
 cutP (σ := Bool × Unit) (fun s24 h25 =>
 (fun (s32 : Bool) =>
 iteP s32 (
 iteP asks9 (
 ldS h25 b (0 + 4) fun t26 => 
 bindB (strEq t26 (ByteArray.mk #[])) fun t27 => 
 K t27 h25) (
 K false h25)) (
 bindB (t20 == 2) fun t28 => 
 iteP t28 (
 iteP asks9 (
 ldS h25 b (0 + 4) fun t29 => 
 bindB (decide ((t29.size : Int) ≤ 64)) fun t30 => 
 K t30 h25) (
 K false h25)) (
 bindB (t20 == 4) fun t31 => 
 iteP t31 (
 iteP bare14 (
 ldI h25 b (0 + 5) .i64 fun t32 => 
 f_proto_from t32 1 2147483647 (fun t33 h34 =>
 iteP t33 (
 ldS h34 b (0 + 4) fun t35 => 
 bindB (strEq t35 (ByteArray.mk #[])) fun t36 => 
 K t36 h34) (
 K false h34)) h25) (
 K false h25)) (
 bindB (t20 == 5) fun t37 => 
 iteP t37 (
 iteP bare14 (
 ldI h25 b (0 + 5) .i64 fun t38 => 
 iteP (t38 == 0) (
 ldS h25 b (0 + 4) fun t39 => 
 f_proto_isName t39 (fun t40 h41 =>
 bindB t40 fun t42 => 
 K t42 h41) h25) (
 K false h25)) (
 K false h25)) (
 K false h25))))) s24.1) (fun J21 =>
 bindB (t20 == 1) fun t22 => 
 iteP t22 (
 J21 (t22, ()) h19) (
 bindB (t20 == 3) fun t23 => 
 J21 (t23, ()) h19)))) h16) s15.1) (fun J11 =>
 ldI h10 b (0 + 2) .i64 fun t12 => 
 iteP (t12 == 0) (
 ldI h10 b (0 + 3) .i64 fun t13 => 
 bindB (t13 == 0) fun bare => 
 J11 (bare, ()) h10) (
 J11 (false, ()) h10))) s.1) (fun J2 =>
 ldI h1 b (0 + 2) .i64 fun t => 
 f_proto_from t 1 1099511627776 (fun t3 h4 =>
 iteP t3 (
 ldI h4 b (0 + 3) .i64 fun t5 => 
 f_proto_from t5 1 1099511627776 (fun t6 h7 =>
 iteP t6 (
 ldI h7 b (0 + 5) .i64 fun t8 => 
 bindB (t8 == 0) fun asks => 
 J2 (asks, ()) h7) (
 J2 (false, ()) h7)) h4) (
 J2 (false, ()) h4)) h1)

def m_proto_Right (r : Int × Int × Int × Int × ByteArray × Int × Unit) (K : Bool → Heap → Prop) (h : Heap) : Prop := g_proto_Right m_proto_from m_proto_isName r K h

/-- slices.Clone[[]token.Token,token.Token] -/
def g_slices_Clone_token_Token_token_Token_ (s : Sl) (K : Sl → Heap → Prop) (h : Heap) : Prop :=
 iteP s.ptr.isNone (
 K ⟨none, 0, 0⟩ h) (
 newC h [] 115 fun b h1 => 
 rdS s 4 h1 fun new => app 115 4 32 [Value.int .i64 0, Value.int .i64 0, Value.int .i64 0, Value.int .i64 0] ⟨some ⟨b, 0, none⟩, 0, 0⟩ s.len new h1 fun t h2 => 
 K t h2)

def m_slices_Clone_token_Token_token_Token_ (s : Sl) (K : Sl → Heap → Prop) (h : Heap) : Prop := g_slices_Clone_token_Token_token_Token_ s K h

/-- (*token.Server).alive$1 -/
def g_token_Server_alive_1 (t : Int × Int × Int × Int × Unit) (a1 : Option Addr) (K : Bool → Heap → Prop) (h : Heap) : Prop :=
 newC h [Value.int .i64 t.1, Value.int .i64 t.2.1, Value.int .i64 t.2.2.1, Value.int .i64 t.2.2.2.1] 115 fun b h1 => 
 derefP a1 fun b2 o => ldI h1 b2 o .i64 fun t3 => 
 ldI h1 b (0 + 3) .i64 fun t4 => 
 bindB (decide (t3 ≥ t4)) fun t5 => 
 K t5 h1

def m_token_Server_alive_1 (t : Int × Int × Int × Int × Unit) (a1 : Option Addr) (K : Bool → Heap → Prop) (h : Heap) : Prop := g_token_Server_alive_1 t a1 K h

/-- slices.IndexFunc[[]token.Token,token.Token] -/
def g_slices_IndexFunc_token_Token_token_Token___token_Server_alive_1 (f_token_Server_alive_1 : (Int × Int × Int × Int × Unit) → (Option Addr) → (Bool → Heap → Prop) → Heap → Prop) (s : Sl) (f : Option Addr × Unit) (K : Int → Heap → Prop) (h : Heap) : Prop :=
 bindI 0 fun t => 
 loopM (σ := Int × Unit) (fun J1 s2 h3 =>
 (fun (s8 : Int) =>
 iteP (decide (s8 < (s.len : Int))) (
 bindI s8 fun i => 
 idxA s.ptr s.len i 4 fun b o => 
 ldI h3 b o .i64 fun t4 => ldI h3 b (o + 1) .i64 fun t5 => ldI h3 b (o + 2) .i64 fun t6 => ldI h3 b (o + 3) .i64 fun t7 => 
 f_token_Server_alive_1 (t4, t5, t6, t7, ()) f.1 (fun t8 h9 =>
 iteP t8 (
 bindI i fun t10 => 
 K t10 h9) (
 J1 (IntKind.wrap .i64 (s8 + 1), ()) h9)) h3) (
 bindI (-1) fun t11 => 
 K t11 h3)) s2.1) (0, ()) h

def m_slices_IndexFunc_token_Token_token_Token___token_Server_alive_1 (s : Sl) (f : Option Addr × Unit) (K : Int → Heap → Prop) (h : Heap) : Prop := g_slices_IndexFunc_token_Token_token_Token___token_Server_alive_1 m_token_Server_alive_1 s f K h

/-- slices.DeleteFunc[[]token.Token,token.Token] -/
def g_slices_DeleteFunc_token_Token_token_Token___token_Server_alive_1 (f_slices_IndexFunc_token_Token_token_Token___token_Server_alive_1 : Sl → (Option Addr × Unit) → (Int → Heap → Prop) → Heap → Prop) (f_token_Server_alive_1 : (Int × Int × Int × Int × Unit) → (Option Addr) → (Bool → Heap → Prop) → Heap → Prop) (s : Sl) (del : Option Addr × Unit) (K : Sl → Heap → Prop) (h : Heap) : Prop :=
 f_slices_IndexFunc_token_Token_token_Token___token_Server_alive_1 s (del.1, ()) (fun t h1 =>
 bindI t fun i => 
 iteP (i == (-1)) (
 K s h1) (
 bindI (IntKind.wrap .i64 (i + 1)) fun j => 
 loopM (σ := Int × Int × Unit) (fun J4 s5 h6 =>
 (fun (i2 : Int) (j3 : Int) =>
 iteP (decide (j3 < (s.len : Int))) (
 idxA s.ptr s.len j3 4 fun b o => 
 ldI h6 b o .i64 fun t7 => ldI h6 b (o + 1) .i64 fun t8 => ldI h6 b (o + 2) .i64 fun t9 => ldI h6 b (o + 3) .i64 fun t10 => 
 newC h6 [Value.int .i64 0, Value.int .i64 0, Value.int .i64 0, Value.int .i64 0] 115 fun b11 h12 => 
 sts h12 b11 0 [Value.int .i64 t7, Value.int .i64 t8, Value.int .i64 t9, Value.int .i64 t10] fun h13 => 
 ldI h13 b11 0 .i64 fun t14 => ldI h13 b11 (0 + 1) .i64 fun t15 => ldI h13 b11 (0 + 2) .i64 fun t16 => ldI h13 b11 (0 + 3) .i64 fun t17 => 
 f_token_Server_alive_1 (t14, t15, t16, t17, ()) del.1 (fun t18 h19 =>
 iteP (!t18) (
 ldI h19 b11 0 .i64 fun t20 => ldI h19 b11 (0 + 1) .i64 fun t21 => ldI h19 b11 (0 + 2) .i64 fun t22 => ldI h19 b11 (0 + 3) .i64 fun t23 => 
 idxA s.ptr s.len i2 4 fun b24 o25 => 
 sts h19 b24 o25 [Value.int .i64 t20, Value.int .i64 t21, Value.int .i64 t22, Value.int .i64 t23] fun h26 => 
 bindI (IntKind.wrap .i64 (i2 + 1)) fun i27 => 
 bindI (IntKind.wrap .i64 (j3 + 1)) fun j28 => 
 J4 (i27, j28, ()) h26) (
 bindI (IntKind.wrap .i64 (j3 + 1)) fun j29 => 
 J4 (i2, j29, ()) h19)) h13) (
 slc s.ptr s.cap 4 i2 s.len s.cap fun t30 => 
 clrS t30 [Value.int .i64 0, Value.int .i64 0, Value.int .i64 0, Value.int .i64 0] h6 fun h31 => 
 slc s.ptr s.cap 4 0 i2 s.cap fun t32 => 
 K t32 h31)) s5.1 s5.2.1) (i, j, ()) h1)) h

def m_slices_DeleteFunc_token_Token_token_Token___token_Server_alive_1 (s : Sl) (del : Option Addr × Unit) (K : Sl → Heap → Prop) (h : Heap) : Prop := g_slices_DeleteFunc_token_Token_token_Token___token_Server_alive_1 m_slices_IndexFunc_token_Token_token_Token___token_Server_alive_1 m_token_Server_alive_1 s del K h

/-- (*token.Server).alive -/
def g_token_Server_alive (f_slices_Clone_token_Token_token_Token_ : Sl → (Sl → Heap → Prop) → Heap → Prop) (f_slices_DeleteFunc_token_Token_token_Token___token_Server_alive_1 : Sl → (Option Addr × Unit) → (Sl → Heap → Prop) → Heap → Prop) (s : Option Addr) (at_ : Int) (K : Sl → Heap → Prop) (h : Heap) : Prop :=
 newC h [Value.int .i64 at_] 3 fun b h1 => 
 derefP s fun b2 o => 
 ldL h1 b2 (o + 5) fun t => 
 f_slices_Clone_token_Token_token_Token_ t (fun t3 h4 =>
 f_slices_DeleteFunc_token_Token_token_Token___token_Server_alive_1 t3 (some ⟨b, 0, none⟩, ()) (fun t5 h6 =>
 K t5 h6) h4) h1

def m_token_Server_alive (s : Option Addr) (at_ : Int) (K : Sl → Heap → Prop) (h : Heap) : Prop := g_token_Server_alive m_slices_Clone_token_Token_token_Token_ m_slices_DeleteFunc_token_Token_token_Token___token_Server_alive_1 s at_ K h

/-- (*token.Server).giveBack$1 -/
def g_token_Server_giveBack_1 (t : Int × Int × Int × Int × Unit) (a1 : Option Addr) (K : Bool → Heap → Prop) (h : Heap) : Prop :=
 newC h [Value.int .i64 t.1, Value.int .i64 t.2.1, Value.int .i64 t.2.2.1, Value.int .i64 t.2.2.2.1] 115 fun b h1 => 
 ldI h1 b 0 .i64 fun t2 => 
 derefP a1 fun b3 o => ldI h1 b3 o .i64 fun t4 => 
 bindB (t2 == t4) fun t5 => 
 K t5 h1

def m_token_Server_giveBack_1 (t : Int × Int × Int × Int × Unit) (a1 : Option Addr) (K : Bool → Heap → Prop) (h : Heap) : Prop := g_token_Server_giveBack_1 t a1 K h

/-- slices.IndexFunc[[]token.Token,token.Token] -/
def g_slices_IndexFunc_token_Token_token_Token___token_Server_giveBack_1 (f_token_Server_giveBack_1 : (Int × Int × Int × Int × Unit) → (Option Addr) → (Bool → Heap → Prop) → Heap → Prop) (s : Sl) (f : Option Addr × Unit) (K : Int → Heap → Prop) (h : Heap) : Prop :=
 bindI 0 fun t => 
 loopM (σ := Int × Unit) (fun J1 s2 h3 =>
 (fun (s8 : Int) =>
 iteP (decide (s8 < (s.len : Int))) (
 bindI s8 fun i => 
 idxA s.ptr s.len i 4 fun b o => 
 ldI h3 b o .i64 fun t4 => ldI h3 b (o + 1) .i64 fun t5 => ldI h3 b (o + 2) .i64 fun t6 => ldI h3 b (o + 3) .i64 fun t7 => 
 f_token_Server_giveBack_1 (t4, t5, t6, t7, ()) f.1 (fun t8 h9 =>
 iteP t8 (
 bindI i fun t10 => 
 K t10 h9) (
 J1 (IntKind.wrap .i64 (s8 + 1), ()) h9)) h3) (
 bindI (-1) fun t11 => 
 K t11 h3)) s2.1) (0, ()) h

def m_slices_IndexFunc_token_Token_token_Token___token_Server_giveBack_1 (s : Sl) (f : Option Addr × Unit) (K : Int → Heap → Prop) (h : Heap) : Prop := g_slices_IndexFunc_token_Token_token_Token___token_Server_giveBack_1 m_token_Server_giveBack_1 s f K h

/-- (*token.Server).flow -/
def g_token_Server_flow (s : Option Addr) (namespace_ : ByteArray) (id : Int) (K : (Int × Int × Int × Int × Unit) → Bool → Heap → Prop) (h : Heap) : Prop :=
 newC h [Value.int .i64 0, Value.int .i64 0, Value.int .i64 0, Value.int .i64 0] 53 fun b h1 => 
 derefP s fun b2 o => 
 ldL h1 b2 (o + 2) fun t => 
 loopM (σ := Int × Unit) (fun J3 s4 h5 =>
 (fun (s17 : Int) =>
 iteP (decide (s17 < (t.len : Int))) (
 idxA t.ptr t.len s17 2 fun b6 o7 => 
 ldS h5 b6 o7 fun t8 => ldL h5 b6 (o7 + 1) fun t9 => 
 newC h5 [Value.string (ByteArray.mk #[]), Value.slice none 0 0] 69 fun b10 h11 => 
 sts h11 b10 0 [Value.string t8, Value.slice t9.ptr t9.len t9.cap] fun h12 => 
 ldL h12 b10 (0 + 1) fun t13 => 
 loopM (σ := Int × Unit) (fun J14 s15 h16 =>
 (fun (s24 : Int) =>
 iteP (decide (s24 < (t13.len : Int))) (
 idxA t13.ptr t13.len s24 4 fun b17 o18 => 
 ldI h16 b17 o18 .i64 fun t19 => ldI h16 b17 (o18 + 1) .i64 fun t20 => ldI h16 b17 (o18 + 2) .i64 fun t21 => ldI h16 b17 (o18 + 3) .i64 fun t22 => 
 newC h16 [Value.int .i64 0, Value.int .i64 0, Value.int .i64 0, Value.int .i64 0] 53 fun b23 h24 => 
 sts h24 b23 0 [Value.int .i64 t19, Value.int .i64 t20, Value.int .i64 t21, Value.int .i64 t22] fun h25 => 
 ldI h25 b23 0 .i64 fun t26 => 
 iteP (t26 == id) (
 iteP (strEq namespace_ (ByteArray.mk #[])) (
 ldI h25 b23 0 .i64 fun t27 => ldI h25 b23 (0 + 1) .i64 fun t28 => ldI h25 b23 (0 + 2) .i64 fun t29 => ldI h25 b23 (0 + 3) .i64 fun t30 => 
 sts h25 b 0 [Value.int .i64 t27, Value.int .i64 t28, Value.int .i64 t29, Value.int .i64 t30] fun h31 => 
 ldI h31 b 0 .i64 fun t32 => ldI h31 b (0 + 1) .i64 fun t33 => ldI h31 b (0 + 2) .i64 fun t34 => ldI h31 b (0 + 3) .i64 fun t35 => K (t32, t33, t34, t35, ()) true h31) (
 ldS h25 b10 0 fun t36 => 
 iteP (strEq t36 namespace_) (
 ldI h25 b23 0 .i64 fun t37 => ldI h25 b23 (0 + 1) .i64 fun t38 => ldI h25 b23 (0 + 2) .i64 fun t39 => ldI h25 b23 (0 + 3) .i64 fun t40 => 
 sts h25 b 0 [Value.int .i64 t37, Value.int .i64 t38, Value.int .i64 t39, Value.int .i64 t40] fun h41 => 
 ldI h41 b 0 .i64 fun t42 => ldI h41 b (0 + 1) .i64 fun t43 => ldI h41 b (0 + 2) .i64 fun t44 => ldI h41 b (0 + 3) .i64 fun t45 => K (t42, t43, t44, t45, ()) true h41) (
 J14 (IntKind.wrap .i64 (s24 + 1), ()) h25))) (
 J14 (IntKind.wrap .i64 (s24 + 1), ()) h25)) (
 J3 (IntKind.wrap .i64 (s17 + 1), ()) h16)) s15.1) (0, ()) h12) (
 sts h5 b 0 [Value.int .i64 0, Value.int .i64 0, Value.int .i64 0, Value.int .i64 0] fun h46 => 
 ldI h46 b 0 .i64 fun t47 => ldI h46 b (0 + 1) .i64 fun t48 => ldI h46 b (0 + 2) .i64 fun t49 => ldI h46 b (0 + 3) .i64 fun t50 => K (t47, t48, t49, t50, ()) false h46)) s4.1) (0, ()) h1

def m_token_Server_flow (s : Option Addr) (namespace_ : ByteArray) (id : Int) (K : (Int × Int × Int × Int × Unit) → Bool → Heap → Prop) (h : Heap) : Prop := g_token_Server_flow s namespace_ id K h

/-- slices.Delete[[]token.Token,token.Token] -/
def g_slices_Delete_token_Token_token_Token_ (s : Sl) (i : Int) (j : Int) (K : Sl → Heap → Prop) (h : Heap) : Prop :=
 slc s.ptr s.cap 4 i j (s.len : Int) fun t => 
 iteP (i == j) (
 K s h) (
 bindI (s.len : Int) fun oldlen => 
 slc s.ptr s.cap 4 0 i s.cap fun t1 => 
 slc s.ptr s.cap 4 j s.len s.cap fun t2 => 
 rdS t2 4 h fun new => app 115 4 32 [Value.int .i64 0, Value.int .i64 0, Value.int .i64 0, Value.int .i64 0] t1 t2.len new h fun t3 h4 => 
 slc t3.ptr t3.cap 4 (t3.len : Int) oldlen t3.cap fun t5 => 
 clrS t5 [Value.int .i64 0, Value.int .i64 0, Value.int .i64 0, Value.int .i64 0] h4 fun h6 => 
 K t3 h6)

def m_slices_Delete_token_Token_token_Token_ (s : Sl) (i : Int) (j : Int) (K : Sl → Heap → Prop) (h : Heap) : Prop := g_slices_Delete_token_Token_token_Token_ s i j K h

/-- (*token.Server).giveBack -/
def g_token_Server_giveBack (f_token_Server_alive : (Option Addr) → Int → (Sl → Heap → Prop) → Heap → Prop) (f_slices_IndexFunc_token_Token_token_Token___token_Server_giveBack_1 : Sl → (Option Addr × Unit) → (Int → Heap → Prop) → Heap → Prop) (f_token_Server_flow : (Option Addr) → ByteArray → Int → ((Int × Int × Int × Int × Unit) → Bool → Heap → Prop) → Heap → Prop) (f_slices_Delete_token_Token_token_Token_ : Sl → Int → Int → (Sl → Heap → Prop) → Heap → Prop) (s : Option Addr) (at_ : Int) (namespace_ : ByteArray) (number : Int) (K : Int → Heap → Prop) (h : Heap) : Prop :=
 newC h [Value.int .i64 number] 3 fun b h1 => 
 bindI 0 fun t => 
 f_token_Server_alive s at_ (fun t2 h3 =>
 f_slices_IndexFunc_token_Token_token_Token___token_Server_giveBack_1 t2 (some ⟨b, 0, none⟩, ()) (fun t4 h5 =>
 bindI t4 fun i => 
 iteP (decide (i < 0)) (
 bindI 4 fun t6 => 
 K t6 h5) (
 idxA t2.ptr t2.len i 4 fun b7 o => 
 ldI h5 b7 (o + 1) .i64 fun t8 => 
 f_token_Server_flow s namespace_ t8 (fun t9 t10 h11 =>
 newC h11 [Value.int .i64 0, Value.int .i64 0, Value.int .i64 0, Value.int .i64 0] 53 fun b12 h13 => 
 sts h13 b12 0 [Value.int .i64 t9.1, Value.int .i64 t9.2.1, Value.int .i64 t9.2.2.1, Value.int .i64 t9.2.2.2.1] fun h14 => 
 bindB t10 fun mine => 
 iteP (!mine) (
 bindI 4 fun t15 => 
 K t15 h14) (
 f_slices_Delete_token_Token_token_Token_ t2 i (IntKind.wrap .i64 (i + 1)) (fun t16 h17 =>
 derefP s fun b18 o19 => 
 st h17 b18 (o19 + 5) (Value.slice t16.ptr t16.len t16.cap) fun h20 => 
 bindI 8 fun t21 => 
 K t21 h20) h14)) h5)) h3) h1

def m_token_Server_giveBack (s : Option Addr) (at_ : Int) (namespace_ : ByteArray) (number : Int) (K : Int → Heap → Prop) (h : Heap) : Prop := g_token_Server_giveBack m_token_Server_alive m_slices_IndexFunc_token_Token_token_Token___token_Server_giveBack_1 m_token_Server_flow m_slices_Delete_token_Token_token_Token_ s at_ namespace_ number K h

/-- (*token.Server).isQuiet -/
def g_token_Server_isQuiet (s : Option Addr) (at_ : Int) (f : Int × Int × Int × Int × Unit) (K : Bool → Heap → Prop) (h : Heap) : Prop :=
 newC h [Value.int .i64 f.1, Value.int .i64 f.2.1, Value.int .i64 f.2.2.1, Value.int .i64 f.2.2.2.1] 53 fun b h1 => 
 derefP s fun b2 o => 
 ldI h1 b2 o .i64 fun t => 
 ldI h1 b (0 + 3) .i64 fun t3 => 
 bindB (decide (at_ < (IntKind.wrap .i64 (t + (maxV 1000000 t3))))) fun t4 => 
 K t4 h1

def m_token_Server_isQuiet (s : Option Addr) (at_ : Int) (f : Int × Int × Int × Int × Unit) (K : Bool → Heap → Prop) (h : Heap) : Prop := g_token_Server_isQuiet s at_ f K h

/-- (*window.Window).wrong -/
def g_window_Window_wrong (w : Option Addr) (at_ : Int) (K : Int → Heap → Prop) (h : Heap) : Prop :=
 bindI 0 fun t => 
 bindB w.isNone fun t1 => 
 iteP t1 (
 bindI 1 fun t2 => 
 K t2 h) (
 iteP (decide (at_ < 0)) (
 bindI 2 fun t3 => 
 K t3 h) (
 bindB (decide (at_ > 1152921504606846976)) fun t4 => 
 iteP t4 (
 bindI 2 fun t5 => 
 K t5 h) (
 derefP w fun b o => 
 ldI h b (o + 2) .i64 fun t6 => 
 bindB (decide (at_ < t6)) fun t7 => 
 iteP t7 (
 bindI 7 fun t8 => 
 K t8 h) (
 bindI 0 fun t9 => 
 K t9 h))))

def m_window_Window_wrong (w : Option Addr) (at_ : Int) (K : Int → Heap → Prop) (h : Heap) : Prop := g_window_Window_wrong w at_ K h

/-- (*window.Window).at -/
def g_window_Window_at (w : Option Addr) (at_ : Int) (K : (Option Addr × Option Addr × Unit) → Heap → Prop) (h : Heap) : Prop :=
 newC h [Value.pointer w] 84 fun b h1 => 
 newC h1 [Value.int .i64 at_] 3 fun b2 h3 => 
 K (some ⟨b, 0, none⟩, some ⟨b2, 0, none⟩, ()) h3

def m_window_Window_at (w : Option Addr) (at_ : Int) (K : (Option Addr × Option Addr × Unit) → Heap → Prop) (h : Heap) : Prop := g_window_Window_at w at_ K h

/-- (*window.Window).bucket -/
def g_window_Window_bucket (w : Option Addr) (at_ : Int) (K : Int → Heap → Prop) (h : Heap) : Prop :=
 bindI 0 fun t => 
 derefP w fun b o => 
 ldI h b o .i64 fun t1 => 
 derefP w fun b2 o3 => 
 ldI h b2 (o3 + 1) .i64 fun t4 => 
 need (t4 ≠ 0) <| 
 need ((IntKind.wrap .i64 (Int.tdiv t1 t4)) ≠ 0) <| 
 bindI (IntKind.wrap .i64 (Int.tdiv at_ (IntKind.wrap .i64 (Int.tdiv t1 t4)))) fun t5 => 
 K t5 h

def m_window_Window_bucket (w : Option Addr) (at_ : Int) (K : Int → Heap → Prop) (h : Heap) : Prop := g_window_Window_bucket w at_ K h

/-- (*window.Window).at$1 -/
def g_window_Window_at_1 (f_window_Window_bucket : (Option Addr) → Int → (Int → Heap → Prop) → Heap → Prop) (Y : Yld) (yield : Nat) (a1 : Option Addr) (a2 : Option Addr) (K : Heap → Prop) (h : Heap) : Prop :=
 derefP a1 fun b o => ldP h b o fun t => 
 derefP a2 fun b1 o2 => ldI h b1 o2 .i64 fun t3 => 
 f_window_Window_bucket t t3 (fun t4 h5 =>
 bindI t4 fun k => 
 derefP a1 fun b6 o7 => ldP h5 b6 o7 fun t8 => 
 derefP t8 fun b9 o10 => 
 ldI h5 b9 (o10 + 1) .i64 fun t11 => 
 bindI (maxV 0 (IntKind.wrap .i64 ((IntKind.wrap .i64 (k - t11)) + 1))) fun i => 
 loopM (σ := Int × Unit) (fun J13 s h14 =>
 (fun (i12 : Int) =>
 iteP (decide (i12 ≤ k)) (
 derefP a1 fun b15 o16 => ldP h14 b15 o16 fun t17 => 
 derefP t17 fun b18 o19 => 
 ldM h14 b18 (o19 + 3) fun t20 => 
 mapGet (.int .i64) h14 t20 (Value.int .i64 i12) fun r => exG (r.getD (Value.agg #[Value.int .i64 0, Value.int .i64 0, Value.int .i64 0, Value.int .i64 0, Value.int .i64 0, Value.int .i64 0])) (fun t21 : Int × Int × Int × Int × Int × Int × Unit => Value.agg #[Value.int .i64 t21.1, Value.int .i64 t21.2.1, Value.int .i64 t21.2.2.1, Value.int .i64 t21.2.2.2.1, Value.int .i64 t21.2.2.2.2.1, Value.int .i64 t21.2.2.2.2.2.1]) fun t21 => 
 newC h14 [Value.int .i64 0, Value.int .i64 0, Value.int .i64 0, Value.int .i64 0, Value.int .i64 0, Value.int .i64 0] 141 fun b22 h23 => 
 sts h23 b22 0 [Value.int .i64 t21.1, Value.int .i64 t21.2.1, Value.int .i64 t21.2.2.1, Value.int .i64 t21.2.2.2.1, Value.int .i64 t21.2.2.2.2.1, Value.int .i64 t21.2.2.2.2.2.1] fun h24 => 
 bindB r.isSome fun there => 
 iteP there (
 derefP a1 fun b25 o26 => ldP h24 b25 o26 fun t27 => 
 derefP t27 fun b28 o29 => 
 ldI h24 b28 o29 .i64 fun t30 => 
 derefP a1 fun b31 o32 => ldP h24 b31 o32 fun t33 => 
 derefP t33 fun b34 o35 => 
 ldI h24 b34 (o35 + 1) .i64 fun t36 => 
 need (t36 ≠ 0) <| 
 ldI h24 b22 0 .i64 fun t37 => ldI h24 b22 (0 + 1) .i64 fun t38 => ldI h24 b22 (0 + 2) .i64 fun t39 => ldI h24 b22 (0 + 3) .i64 fun t40 => ldI h24 b22 (0 + 4) .i64 fun t41 => ldI h24 b22 (0 + 5) .i64 fun t42 => 
 Y yield [Value.agg #[Value.int .i64 (IntKind.wrap .i64 (i12 * (IntKind.wrap .i64 (Int.tdiv t30 t36)))), Value.int .i64 t37, Value.int .i64 t38, Value.int .i64 t39, Value.int .i64 t40, Value.int .i64 t41, Value.int .i64 t42]] (fun go h43 =>
 need (heldL h43 [(b22, 0, Value.int .i64 t37), (b22, 0 + 1, Value.int .i64 t38), (b22, 0 + 2, Value.int .i64 t39), (b22, 0 + 3, Value.int .i64 t40), (b22, 0 + 4, Value.int .i64 t41), (b22, 0 + 5, Value.int .i64 t42)]) <|
 need (heldL h43 [(b34, o35 + 1, Value.int .i64 t36)]) <|
 need (heldL h43 [(b31, o32, Value.pointer t33)]) <|
 need (heldL h43 [(b28, o29, Value.int .i64 t30)]) <|
 need (heldL h43 [(b25, o26, Value.pointer t27)]) <|
 iteP (!go) (
 K h43) (
 bindI (IntKind.wrap .i64 (i12 + 1)) fun i44 => 
 J13 (i44, ()) h43)) h24) (
 bindI (IntKind.wrap .i64 (i12 + 1)) fun i45 => 
 J13 (i45, ()) h24)) (
 K h14)) s.1) (i, ()) h5) h

def m_window_Window_at_1 (Y : Yld) (yield : Nat) (a1 : Option Addr) (a2 : Option Addr) (K : Heap → Prop) (h : Heap) : Prop := g_window_Window_at_1 m_window_Window_bucket Y yield a1 a2 K h

/-- window.plus -/
def g_window_plus (a : Int) (b : Int) (K : Int → Heap → Prop) (h : Heap) : Prop :=
 bindI 0 fun t => 
 bindI (IntKind.wrap .i64 ((minV a (IntKind.wrap .i64 ((4611686018427387904 : Int) - b))) + b)) fun t1 => 
 K t1 h

def m_window_plus (a : Int) (b : Int) (K : Int → Heap → Prop) (h : Heap) : Prop := g_window_plus a b K h

/-- window.two -/
def g_window_two (f_window_plus : Int → Int → (Int → Heap → Prop) → Heap → Prop) (a : Int × Int × Int × Int × Int × Int × Unit) (b : Int × Int × Int × Int × Int × Int × Unit) (K : (Int × Int × Int × Int × Int × Int × Unit) → Heap → Prop) (h : Heap) : Prop :=
 newC h [Value.int .i64 a.1, Value.int .i64 a.2.1, Value.int .i64 a.2.2.1, Value.int .i64 a.2.2.2.1, Value.int .i64 a.2.2.2.2.1, Value.int .i64 a.2.2.2.2.2.1] 141 fun b1 h2 => 
 newC h2 [Value.int .i64 b.1, Value.int .i64 b.2.1, Value.int .i64 b.2.2.1, Value.int .i64 b.2.2.2.1, Value.int .i64 b.2.2.2.2.1, Value.int .i64 b.2.2.2.2.2.1] 141 fun b3 h4 => 
 newC h4 [Value.int .i64 0, Value.int .i64 0, Value.int .i64 0, Value.int .i64 0, Value.int .i64 0, Value.int .i64 0] 141 fun b5 h6 => 
 cutP (σ := Option Addr × Unit) (fun s h75 =>
 (fun (c : Option Addr) =>
 ldI h75 b1 (0 + 2) .i64 fun t76 => 
 bindB (t76 == 0) fun t77 => 
 iteP t77 (
 ldI h75 b3 (0 + 5) .i64 fun t78 => 
 derefP c fun b79 o => 
 st h75 b79 (o + 5) (Value.int .i64 t78) fun h80 => 
 derefP c fun b81 o82 => ldI h80 b81 o82 .i64 fun t83 => ldI h80 b81 (o82 + 1) .i64 fun t84 => ldI h80 b81 (o82 + 2) .i64 fun t85 => ldI h80 b81 (o82 + 3) .i64 fun t86 => ldI h80 b81 (o82 + 4) .i64 fun t87 => ldI h80 b81 (o82 + 5) .i64 fun t88 => 
 sts h80 b5 0 [Value.int .i64 t83, Value.int .i64 t84, Value.int .i64 t85, Value.int .i64 t86, Value.int .i64 t87, Value.int .i64 t88] fun h89 => 
 ldI h89 b5 0 .i64 fun t90 => ldI h89 b5 (0 + 1) .i64 fun t91 => ldI h89 b5 (0 + 2) .i64 fun t92 => ldI h89 b5 (0 + 3) .i64 fun t93 => ldI h89 b5 (0 + 4) .i64 fun t94 => ldI h89 b5 (0 + 5) .i64 fun t95 => K (t90, t91, t92, t93, t94, t95, ()) h89) (
 ldI h75 b3 (0 + 2) .i64 fun t96 => 
 bindB (t96 == 0) fun t97 => 
 iteP t97 (
 ldI h75 b1 (0 + 5) .i64 fun t98 => 
 derefP c fun b99 o100 => 
 st h75 b99 (o100 + 5) (Value.int .i64 t98) fun h101 => 
 derefP c fun b102 o103 => ldI h101 b102 o103 .i64 fun t104 => ldI h101 b102 (o103 + 1) .i64 fun t105 => ldI h101 b102 (o103 + 2) .i64 fun t106 => ldI h101 b102 (o103 + 3) .i64 fun t107 => ldI h101 b102 (o103 + 4) .i64 fun t108 => ldI h101 b102 (o103 + 5) .i64 fun t109 => 
 sts h101 b5 0 [Value.int .i64 t104, Value.int .i64 t105, Value.int .i64 t106, Value.int .i64 t107, Value.int .i64 t108, Value.int .i64 t109] fun h110 => 
 ldI h110 b5 0 .i64 fun t111 => ldI h110 b5 (0 + 1) .i64 fun t112 => ldI h110 b5 (0 + 2) .i64 fun t113 => ldI h110 b5 (0 + 3) .i64 fun t114 => ldI h110 b5 (0 + 4) .i64 fun t115 => ldI h110 b5 (0 + 5) .i64 fun t116 => K (t111, t112, t113, t114, t115, t116, ()) h110) (
 ldI h75 b1 (0 + 5) .i64 fun t117 => 
 ldI h75 b3 (0 + 5) .i64 fun t118 => 
 derefP c fun b119 o120 => 
 st h75 b119 (o120 + 5) (Value.int .i64 (minV t117 t118)) fun h121 => 
 derefP c fun b122 o123 => ldI h121 b122 o123 .i64 fun t124 => ldI h121 b122 (o123 + 1) .i64 fun t125 => ldI h121 b122 (o123 + 2) .i64 fun t126 => ldI h121 b122 (o123 + 3) .i64 fun t127 => ldI h121 b122 (o123 + 4) .i64 fun t128 => ldI h121 b122 (o123 + 5) .i64 fun t129 => 
 sts h121 b5 0 [Value.int .i64 t124, Value.int .i64 t125, Value.int .i64 t126, Value.int .i64 t127, Value.int .i64 t128, Value.int .i64 t129] fun h130 => 
 ldI h130 b5 0 .i64 fun t131 => ldI h130 b5 (0 + 1) .i64 fun t132 => ldI h130 b5 (0 + 2) .i64 fun t133 => ldI h130 b5 (0 + 3) .i64 fun t134 => ldI h130 b5 (0 + 4) .i64 fun t135 => ldI h130 b5 (0 + 5) .i64 fun t136 => K (t131, t132, t133, t134, t135, t136, ()) h130))) s.1) (fun J7 =>
 ldI h6 b1 0 .i64 fun t => 
 ldI h6 b3 0 .i64 fun t8 => 
 ldI h6 b1 (0 + 1) .i64 fun t9 => 
 ldI h6 b3 (0 + 1) .i64 fun t10 => 
 ldI h6 b1 (0 + 2) .i64 fun t11 => 
 ldI h6 b3 (0 + 2) .i64 fun t12 => 
 ldI h6 b1 (0 + 3) .i64 fun t13 => 
 ldI h6 b3 (0 + 3) .i64 fun t14 => 
 ldI h6 b1 (0 + 4) .i64 fun t15 => 
 ldI h6 b3 (0 + 4) .i64 fun t16 => 
 bothP (
 f_window_plus t t8 (fun t17 h18 =>
 need (heldL h18 [(b3, 0 + 4, Value.int .i64 t16)]) <|
 need (heldL h18 [(b1, 0 + 4, Value.int .i64 t15)]) <|
 need (heldL h18 [(b3, 0 + 3, Value.int .i64 t14)]) <|
 need (heldL h18 [(b1, 0 + 3, Value.int .i64 t13)]) <|
 need (heldL h18 [(b3, 0 + 2, Value.int .i64 t12)]) <|
 need (heldL h18 [(b1, 0 + 2, Value.int .i64 t11)]) <|
 need (heldL h18 [(b3, 0 + 1, Value.int .i64 t10)]) <|
 need (heldL h18 [(b1, 0 + 1, Value.int .i64 t9)]) <|
 bothP (
 f_window_plus t9 t10 (fun t19 h20 =>
 need (heldL h20 [(b3, 0 + 4, Value.int .i64 t16)]) <|
 need (heldL h20 [(b1, 0 + 4, Value.int .i64 t15)]) <|
 need (heldL h20 [(b3, 0 + 3, Value.int .i64 t14)]) <|
 need (heldL h20 [(b1, 0 + 3, Value.int .i64 t13)]) <|
 need (heldL h20 [(b3, 0 + 2, Value.int .i64 t12)]) <|
 need (heldL h20 [(b1, 0 + 2, Value.int .i64 t11)]) <|
 bothP (
 f_window_plus t11 t12 (fun t21 h22 =>
 need (heldL h22 [(b3, 0 + 4, Value.int .i64 t16)]) <|
 need (heldL h22 [(b1, 0 + 4, Value.int .i64 t15)]) <|
 need (heldL h22 [(b3, 0 + 3, Value.int .i64 t14)]) <|
 need (heldL h22 [(b1, 0 + 3, Value.int .i64 t13)]) <|
 bothP (
 f_window_plus t13 t14 (fun t23 h24 =>
 need (heldL h24 [(b3, 0 + 4, Value.int .i64 t16)]) <|
 need (heldL h24 [(b1, 0 + 4, Value.int .i64 t15)]) <|
 bothP (
 f_window_plus t15 t16 (fun t25 h26 =>
 newC h26 [Value.int .i64 0, Value.int .i64 0, Value.int .i64 0, Value.int .i64 0, Value.int .i64 0, Value.int .i64 0] 141 fun b27 h28 => 
 sts h28 b27 0 [Value.int .i64 t17, Value.int .i64 t19, Value.int .i64 t21, Value.int .i64 t23, Value.int .i64 t25, Value.int .i64 0] fun h29 => 
 J7 (some ⟨b27, 0, none⟩, ()) h29) h24) (
 newC h24 [Value.int .i64 0, Value.int .i64 0, Value.int .i64 0, Value.int .i64 0, Value.int .i64 0, Value.int .i64 0] 141 fun b30 h31 => 
 need (heldL h31 [(b3, 0 + 4, Value.int .i64 t16)]) <|
 need (heldL h31 [(b1, 0 + 4, Value.int .i64 t15)]) <|
 f_window_plus t15 t16 (fun t32 h33 =>
 sts h33 b30 0 [Value.int .i64 t17, Value.int .i64 t19, Value.int .i64 t21, Value.int .i64 t23, Value.int .i64 t32, Value.int .i64 0] fun h34 => 
 J7 (some ⟨b30, 0, none⟩, ()) h34) h31)) h22) (
 newC h22 [Value.int .i64 0, Value.int .i64 0, Value.int .i64 0, Value.int .i64 0, Value.int .i64 0, Value.int .i64 0] 141 fun b35 h36 => 
 need (heldL h36 [(b3, 0 + 4, Value.int .i64 t16)]) <|
 need (heldL h36 [(b1, 0 + 4, Value.int .i64 t15)]) <|
 need (heldL h36 [(b3, 0 + 3, Value.int .i64 t14)]) <|
 need (heldL h36 [(b1, 0 + 3, Value.int .i64 t13)]) <|
 f_window_plus t13 t14 (fun t37 h38 =>
 need (heldL h38 [(b3, 0 + 4, Value.int .i64 t16)]) <|
 need (heldL h38 [(b1, 0 + 4, Value.int .i64 t15)]) <|
 f_window_plus t15 t16 (fun t39 h40 =>
 sts h40 b35 0 [Value.int .i64 t17, Value.int .i64 t19, Value.int .i64 t21, Value.int .i64 t37, Value.int .i64 t39, Value.int .i64 0] fun h41 => 
 J7 (some ⟨b35, 0, none⟩, ()) h41) h38) h36)) h20) (
 newC h20 [Value.int .i64 0, Value.int .i64 0, Value.int .i64 0, Value.int .i64 0, Value.int .i64 0, Value.int .i64 0] 141 fun b42 h43 => 
 need (heldL h43 [(b3, 0 + 4, Value.int .i64 t16)]) <|
 need (heldL h43 [(b1, 0 + 4, Value.int .i64 t15)]) <|
 need (heldL h43 [(b3, 0 + 3, Value.int .i64 t14)]) <|
 need (heldL h43 [(b1, 0 + 3, Value.int .i64 t13)]) <|
 need (heldL h43 [(b3, 0 + 2, Value.int .i64 t12)]) <|
 need (heldL h43 [(b1, 0 + 2, Value.int .i64 t11)]) <|
 f_window_plus t11 t12 (fun t44 h45 =>
 need (heldL h45 [(b3, 0 + 4, Value.int .i64 t16)]) <|
 need (heldL h45 [(b1, 0 + 4, Value.int .i64 t15)]) <|
 need (heldL h45 [(b3, 0 + 3, Value.int .i64 t14)]) <|
 need (heldL h45 [(b1, 0 + 3, Value.int .i64 t13)]) <|
 f_window_plus t13 t14 (fun t46 h47 =>
 need (heldL h47 [(b3, 0 + 4, Value.int .i64 t16)]) <|
 need (heldL h47 [(b1, 0 + 4, Value.int .i64 t15)]) <|
 f_window_plus t15 t16 (fun t48 h49 =>
 sts h49 b42 0 [Value.int .i64 t17, Value.int .i64 t19, Value.int .i64 t44, Value.int .i64 t46, Value.int .i64 t48, Value.int .i64 0] fun h50 => 
 J7 (some ⟨b42, 0, none⟩, ()) h50) h47) h45) h43)) h18) (
 newC h18 [Value.int .i64 0, Value.int .i64 0, Value.int .i64 0, Value.int .i64 0, Value.int .i64 0, Value.int .i64 0] 141 fun b51 h52 => 
 need (heldL h52 [(b3, 0 + 4, Value.int .i64 t16)]) <|
 need (heldL h52 [(b1, 0 + 4, Value.int .i64 t15)]) <|
 need (heldL h52 [(b3, 0 + 3, Value.int .i64 t14)]) <|
 need (heldL h52 [(b1, 0 + 3, Value.int .i64 t13)]) <|
 need (heldL h52 [(b3, 0 + 2, Value.int .i64 t12)]) <|
 need (heldL h52 [(b1, 0 + 2, Value.int .i64 t11)]) <|
 need (heldL h52 [(b3, 0 + 1, Value.int .i64 t10)]) <|
 need (heldL h52 [(b1, 0 + 1, Value.int .i64 t9)]) <|
 f_window_plus t9 t10 (fun t53 h54 =>
 need (heldL h54 [(b3, 0 + 4, Value.int .i64 t16)]) <|
 need (heldL h54 [(b1, 0 + 4, Value.int .i64 t15)]) <|
 need (heldL h54 [(b3, 0 + 3, Value.int .i64 t14)]) <|
 need (heldL h54 [(b1, 0 + 3, Value.int .i64 t13)]) <|
 need (heldL h54 [(b3, 0 + 2, Value.int .i64 t12)]) <|
 need (heldL h54 [(b1, 0 + 2, Value.int .i64 t11)]) <|
 f_window_plus t11 t12 (fun t55 h56 =>
 need (heldL h56 [(b3, 0 + 4, Value.int .i64 t16)]) <|
 need (heldL h56 [(b1, 0 + 4, Value.int .i64 t15)]) <|
 need (heldL h56 [(b3, 0 + 3, Value.int .i64 t14)]) <|
 need (heldL h56 [(b1, 0 + 3, Value.int .i64 t13)]) <|
 f_window_plus t13 t14 (fun t57 h58 =>
 need (heldL h58 [(b3, 0 + 4, Value.int .i64 t16)]) <|
 need (heldL h58 [(b1, 0 + 4, Value.int .i64 t15)]) <|
 f_window_plus t15 t16 (fun t59 h60 =>
 sts h60 b51 0 [Value.int .i64 t17, Value.int .i64 t53, Value.int .i64 t55, Value.int .i64 t57, Value.int .i64 t59, Value.int .i64 0] fun h61 => 
 J7 (some ⟨b51, 0, none⟩, ()) h61) h58) h56) h54) h52)) h6) (
 newC h6 [Value.int .i64 0, Value.int .i64 0, Value.int .i64 0, Value.int .i64 0, Value.int .i64 0, Value.int .i64 0] 141 fun b62 h63 => 
 need (heldL h63 [(b3, 0 + 4, Value.int .i64 t16)]) <|
 need (heldL h63 [(b1, 0 + 4, Value.int .i64 t15)]) <|
 need (heldL h63 [(b3, 0 + 3, Value.int .i64 t14)]) <|
 need (heldL h63 [(b1, 0 + 3, Value.int .i64 t13)]) <|
 need (heldL h63 [(b3, 0 + 2, Value.int .i64 t12)]) <|
 need (heldL h63 [(b1, 0 + 2, Value.int .i64 t11)]) <|
 need (heldL h63 [(b3, 0 + 1, Value.int .i64 t10)]) <|
 need (heldL h63 [(b1, 0 + 1, Value.int .i64 t9)]) <|
 need (heldL h63 [(b3, 0, Value.int .i64 t8)]) <|
 need (heldL h63 [(b1, 0, Value.int .i64 t)]) <|
 f_window_plus t t8 (fun t64 h65 =>
 need (heldL h65 [(b3, 0 + 4, Value.int .i64 t16)]) <|
 need (heldL h65 [(b1, 0 + 4, Value.int .i64 t15)]) <|
 need (heldL h65 [(b3, 0 + 3, Value.int .i64 t14)]) <|
 need (heldL h65 [(b1, 0 + 3, Value.int .i64 t13)]) <|
 need (heldL h65 [(b3, 0 + 2, Value.int .i64 t12)]) <|
 need (heldL h65 [(b1, 0 + 2, Value.int .i64 t11)]) <|
 need (heldL h65 [(b3, 0 + 1, Value.int .i64 t10)]) <|
 need (heldL h65 [(b1, 0 + 1, Value.int .i64 t9)]) <|
 f_window_plus t9 t10 (fun t66 h67 =>
 need (heldL h67 [(b3, 0 + 4, Value.int .i64 t16)]) <|
 need (heldL h67 [(b1, 0 + 4, Value.int .i64 t15)]) <|
 need (heldL h67 [(b3, 0 + 3, Value.int .i64 t14)]) <|
 need (heldL h67 [(b1, 0 + 3, Value.int .i64 t13)]) <|
 need (heldL h67 [(b3, 0 + 2, Value.int .i64 t12)]) <|
 need (heldL h67 [(b1, 0 + 2, Value.int .i64 t11)]) <|
 f_window_plus t11 t12 (fun t68 h69 =>
 need (heldL h69 [(b3, 0 + 4, Value.int .i64 t16)]) <|
 need (heldL h69 [(b1, 0 + 4, Value.int .i64 t15)]) <|
 need (heldL h69 [(b3, 0 + 3, Value.int .i64 t14)]) <|
 need (heldL h69 [(b1, 0 + 3, Value.int .i64 t13)]) <|
 f_window_plus t13 t14 (fun t70 h71 =>
 need (heldL h71 [(b3, 0 + 4, Value.int .i64 t16)]) <|
 need (heldL h71 [(b1, 0 + 4, Value.int .i64 t15)]) <|
 f_window_plus t15 t16 (fun t72 h73 =>
 sts h73 b62 0 [Value.int .i64 t64, Value.int .i64 t66, Value.int .i64 t68, Value.int .i64 t70, Value.int .i64 t72, Value.int .i64 0] fun h74 => 
 J7 (some ⟨b62, 0, none⟩, ()) h74) h71) h69) h67) h65) h63))

def m_window_two (a : Int × Int × Int × Int × Int × Int × Unit) (b : Int × Int × Int × Int × Int × Int × Unit) (K : (Int × Int × Int × Int × Int × Int × Unit) → Heap → Prop) (h : Heap) : Prop := g_window_two m_window_plus a b K h

/-- (*window.Window).Sum -/
def g_window_Window_Sum (f_window_Window_wrong : (Option Addr) → Int → (Int → Heap → Prop) → Heap → Prop) (f_window_Window_at : (Option Addr) → Int → ((Option Addr × Option Addr × Unit) → Heap → Prop) → Heap → Prop) (f_window_two : (Int × Int × Int × Int × Int × Int × Unit) → (Int × Int × Int × Int × Int × Int × Unit) → ((Int × Int × Int × Int × Int × Int × Unit) → Heap → Prop) → Heap → Prop) (f_window_Window_at_1 : Yld → Nat → (Option Addr) → (Option Addr) → (Heap → Prop) → Heap → Prop) (w : Option Addr) (at_ : Int) (K : (Int × Int × Int × Int × Int × Int × Unit) → Int → Heap → Prop) (h : Heap) : Prop :=
 newC h [Value.int .i64 0, Value.int .i64 0, Value.int .i64 0, Value.int .i64 0, Value.int .i64 0, Value.int .i64 0] 141 fun b h1 => 
 bindI 0 fun t => 
 f_window_Window_wrong w at_ (fun t2 h3 =>
 bindI t2 fun err => 
 iteP (err != 0) (
 sts h3 b 0 [Value.int .i64 0, Value.int .i64 0, Value.int .i64 0, Value.int .i64 0, Value.int .i64 0, Value.int .i64 0] fun h4 => 
 bindI err fun t5 => 
 ldI h4 b 0 .i64 fun t6 => ldI h4 b (0 + 1) .i64 fun t7 => ldI h4 b (0 + 2) .i64 fun t8 => ldI h4 b (0 + 3) .i64 fun t9 => ldI h4 b (0 + 4) .i64 fun t10 => ldI h4 b (0 + 5) .i64 fun t11 => K (t6, t7, t8, t9, t10, t11, ()) t5 h4) (
 newC h3 [Value.int .i64 0, Value.int .i64 0, Value.int .i64 0, Value.int .i64 0, Value.int .i64 0, Value.int .i64 0] 141 fun b12 h13 => 
 f_window_Window_at w at_ (fun t14 h15 =>
 rangeM 1 (fun Y l K h => f_window_Window_at_1 Y l t14.1 t14.2.1 K h) (fun l rec vs h16 k =>
 argsV (fun a : (Int × Int × Int × Int × Int × Int × Int × Unit) × Unit => [Value.agg #[Value.int .i64 a.1.1, Value.int .i64 a.1.2.1, Value.int .i64 a.1.2.2.1, Value.int .i64 a.1.2.2.2.1, Value.int .i64 a.1.2.2.2.2.1, Value.int .i64 a.1.2.2.2.2.2.1, Value.int .i64 a.1.2.2.2.2.2.2.1]]) vs fun a =>
 newC h16 [Value.int .i64 0, Value.int .i64 0, Value.int .i64 0, Value.int .i64 0, Value.int .i64 0, Value.int .i64 0, Value.int .i64 0] 152 fun b17 h18 => 
 sts h18 b17 0 [Value.int .i64 a.1.1, Value.int .i64 a.1.2.1, Value.int .i64 a.1.2.2.1, Value.int .i64 a.1.2.2.2.1, Value.int .i64 a.1.2.2.2.2.1, Value.int .i64 a.1.2.2.2.2.2.1, Value.int .i64 a.1.2.2.2.2.2.2.1] fun h19 => 
 busyM rec l h19 fun h20 =>
 ldI h20 b12 0 .i64 fun t21 => ldI h20 b12 (0 + 1) .i64 fun t22 => ldI h20 b12 (0 + 2) .i64 fun t23 => ldI h20 b12 (0 + 3) .i64 fun t24 => ldI h20 b12 (0 + 4) .i64 fun t25 => ldI h20 b12 (0 + 5) .i64 fun t26 => 
 ldI h20 b17 (0 + 1) .i64 fun t27 => ldI h20 b17 (0 + 1 + 1) .i64 fun t28 => ldI h20 b17 (0 + 1 + 2) .i64 fun t29 => ldI h20 b17 (0 + 1 + 3) .i64 fun t30 => ldI h20 b17 (0 + 1 + 4) .i64 fun t31 => ldI h20 b17 (0 + 1 + 5) .i64 fun t32 => 
 f_window_two (t21, t22, t23, t24, t25, t26, ()) (t27, t28, t29, t30, t31, t32, ()) (fun t33 h34 =>
 sts h34 b12 0 [Value.int .i64 t33.1, Value.int .i64 t33.2.1, Value.int .i64 t33.2.2.1, Value.int .i64 t33.2.2.2.1, Value.int .i64 t33.2.2.2.2.1, Value.int .i64 t33.2.2.2.2.2.1] fun h35 => 
 k none h35) h20) h15 (fun p D h36 =>
 jumpP p (
 ldI h36 b12 0 .i64 fun t37 => ldI h36 b12 (0 + 1) .i64 fun t38 => ldI h36 b12 (0 + 2) .i64 fun t39 => ldI h36 b12 (0 + 3) .i64 fun t40 => ldI h36 b12 (0 + 4) .i64 fun t41 => ldI h36 b12 (0 + 5) .i64 fun t42 => 
 sts h36 b 0 [Value.int .i64 t37, Value.int .i64 t38, Value.int .i64 t39, Value.int .i64 t40, Value.int .i64 t41, Value.int .i64 t42] fun h43 => 
 bindI 0 fun t44 => 
 shutM D h43 fun h45 => ldI h45 b 0 .i64 fun t46 => ldI h45 b (0 + 1) .i64 fun t47 => ldI h45 b (0 + 2) .i64 fun t48 => ldI h45 b (0 + 3) .i64 fun t49 => ldI h45 b (0 + 4) .i64 fun t50 => ldI h45 b (0 + 5) .i64 fun t51 => K (t46, t47, t48, t49, t50, t51, ()) t44 h45) (fun x =>
 bif Nat.beq x 0 then (
 ldI h36 b12 0 .i64 fun t59 => ldI h36 b12 (0 + 1) .i64 fun t60 => ldI h36 b12 (0 + 2) .i64 fun t61 => ldI h36 b12 (0 + 3) .i64 fun t62 => ldI h36 b12 (0 + 4) .i64 fun t63 => ldI h36 b12 (0 + 5) .i64 fun t64 => 
 sts h36 b 0 [Value.int .i64 t59, Value.int .i64 t60, Value.int .i64 t61, Value.int .i64 t62, Value.int .i64 t63, Value.int .i64 t64] fun h65 => 
 bindI 0 fun t66 => 
 shutM D h65 fun h67 => ldI h67 b 0 .i64 fun t68 => ldI h67 b (0 + 1) .i64 fun t69 => ldI h67 b (0 + 2) .i64 fun t70 => ldI h67 b (0 + 3) .i64 fun t71 => ldI h67 b (0 + 4) .i64 fun t72 => ldI h67 b (0 + 5) .i64 fun t73 => K (t68, t69, t70, t71, t72, t73, ()) t66 h67) else (False)) (
 shutM D h36 fun h52 => ldI h52 b 0 .i64 fun t53 => ldI h52 b (0 + 1) .i64 fun t54 => ldI h52 b (0 + 2) .i64 fun t55 => ldI h52 b (0 + 3) .i64 fun t56 => ldI h52 b (0 + 4) .i64 fun t57 => ldI h52 b (0 + 5) .i64 fun t58 => K (t53, t54, t55, t56, t57, t58, ()) t h52))) h13)) h1

def m_window_Window_Sum (w : Option Addr) (at_ : Int) (K : (Int × Int × Int × Int × Int × Int × Unit) → Int → Heap → Prop) (h : Heap) : Prop := g_window_Window_Sum m_window_Window_wrong m_window_Window_at m_window_two m_window_Window_at_1 w at_ K h

/-- (token.rate).used -/
def g_token_rate_used (f_window_Window_Sum : (Option Addr) → Int → ((Int × Int × Int × Int × Int × Int × Unit) → Int → Heap → Prop) → Heap → Prop) (r : Option Addr × Unit) (at_ : Int) (x : ByteArray) (K : Int → Heap → Prop) (h : Heap) : Prop :=
 newC h [Value.pointer r.1] 88 fun b h1 => 
 bindI 0 fun t => 
 ldP h1 b 0 fun t2 => 
 f_window_Window_Sum t2 at_ (fun t3 t4 h5 =>
 newC h5 [Value.int .i64 0, Value.int .i64 0, Value.int .i64 0, Value.int .i64 0, Value.int .i64 0, Value.int .i64 0] 141 fun b6 h7 => 
 sts h7 b6 0 [Value.int .i64 t3.1, Value.int .i64 t3.2.1, Value.int .i64 t3.2.2.1, Value.int .i64 t3.2.2.2.1, Value.int .i64 t3.2.2.2.2.1, Value.int .i64 t3.2.2.2.2.2.1] fun h8 => 
 bindI t4 fun x9 => 
 ldI h8 b6 0 .i64 fun t10 => 
 bindI t10 fun t11 => 
 K t11 h8) h1

def m_token_rate_used (r : Option Addr × Unit) (at_ : Int) (x : ByteArray) (K : Int → Heap → Prop) (h : Heap) : Prop := g_token_rate_used m_window_Window_Sum r at_ x K h

/-- (*sketch.Sketch).look -/
def g_sketch_Sketch_look (s : Option Addr) (at_ : Int) (K : Int → Heap → Prop) (h : Heap) : Prop :=
 bindI 0 fun t => 
 bindB s.isNone fun t1 => 
 iteP t1 (
 bindI 1 fun t2 => 
 K t2 h) (
 iteP (decide (at_ < 0)) (
 bindI 2 fun t3 => 
 K t3 h) (
 bindB (decide (at_ > 1152921504606846976)) fun t4 => 
 iteP t4 (
 bindI 2 fun t5 => 
 K t5 h) (
 derefP s fun b o => 
 ldI h b (o + 6) .i64 fun t6 => 
 bindB (decide (at_ < t6)) fun t7 => 
 iteP t7 (
 bindI 7 fun t8 => 
 K t8 h) (
 bindI 0 fun t9 => 
 K t9 h))))

def m_sketch_Sketch_look (s : Option Addr) (at_ : Int) (K : Int → Heap → Prop) (h : Heap) : Prop := g_sketch_Sketch_look s at_ K h

/-- sketch.Hash -/
def g_sketch_Hash (key : ByteArray) (K : Int → Heap → Prop) (h : Heap) : Prop :=
 bindI 0 fun t => 
 bindI 14695981039346656037 fun h1 => 
 loopM (σ := Int × Int × Unit) (fun J3 s h4 =>
 (fun (h2 : Int) (s7 : Int) =>
 iteP (decide (s7 < (key.size : Int))) (
 bindI s7 fun i => 
 idxS key i fun t5 => 
 bindI (IntKind.wrap .u64 ((xorV .u64 h2 (IntKind.wrap .u64 t5)) * 1099511628211)) fun h6 => 
 J3 (h6, IntKind.wrap .i64 (s7 + 1), ()) h4) (
 bindI h2 fun t7 => 
 K t7 h4)) s.1 s.2.1) (h1, 0, ()) h

def m_sketch_Hash (key : ByteArray) (K : Int → Heap → Prop) (h : Heap) : Prop := g_sketch_Hash key K h

/-- world.Mix -/
def g_world_Mix (x : Int) (K : Int → Heap → Prop) (h : Heap) : Prop :=
 bindI 0 fun t => 
 need (0 ≤ (30 : Int)) <| 
 bindI (IntKind.wrap .u64 ((xorV .u64 x (shrV .u64 x 30)) * 13787848793156543929)) fun x1 => 
 need (0 ≤ (27 : Int)) <| 
 bindI (IntKind.wrap .u64 ((xorV .u64 x1 (shrV .u64 x1 27)) * 10723151780598845931)) fun x2 => 
 need (0 ≤ (31 : Int)) <| 
 bindI (xorV .u64 x2 (shrV .u64 x2 31)) fun t3 => 
 K t3 h

def m_world_Mix (x : Int) (K : Int → Heap → Prop) (h : Heap) : Prop := g_world_Mix x K h

/-- (sketch.shape).column -/
def g_sketch_shape_column (f_sketch_Hash : ByteArray → (Int → Heap → Prop) → Heap → Prop) (f_world_Mix : Int → (Int → Heap → Prop) → Heap → Prop) (s : Int × Int × Int × Int × Int × Unit) (row : Int) (key : ByteArray) (K : Int → Heap → Prop) (h : Heap) : Prop :=
 newC h [Value.int .i64 s.1, Value.int .i64 s.2.1, Value.int .i64 s.2.2.1, Value.int .i64 s.2.2.2.1, Value.int .u64 s.2.2.2.2.1] 108 fun b h1 => 
 bindI 0 fun t => 
 qcall (ρ := Int × Unit) (fun K h => f_sketch_Hash key (fun q h => K (q, ()) h) h) h1 fun r => 
 ldI h1 b (0 + 4) .u64 fun t3 => 
 qcall (ρ := Int × Unit) (fun K h => f_world_Mix (IntKind.wrap .u64 ((IntKind.wrap .u64 (r.1 + t3)) + (IntKind.wrap .u64 ((11400714819323198485 : Int) * (IntKind.wrap .u64 (IntKind.wrap .i64 (row + 1))))))) (fun q5 h => K (q5, ()) h) h) h1 fun r6 => 
 ldI h1 b (0 + 3) .i64 fun t7 => 
 need ((IntKind.wrap .u64 t7) ≠ 0) <| 
 bindI (IntKind.wrap .i64 (Int.tmod r6.1 (IntKind.wrap .u64 t7))) fun t8 => 
 K t8 h1

def m_sketch_shape_column (s : Int × Int × Int × Int × Int × Unit) (row : Int) (key : ByteArray) (K : Int → Heap → Prop) (h : Heap) : Prop := g_sketch_shape_column m_sketch_Hash m_world_Mix s row key K h

/-- (sketch.shape).begin -/
def g_sketch_shape_begin (s : Int × Int × Int × Int × Int × Unit) (at_ : Int) (K : Int → Heap → Prop) (h : Heap) : Prop :=
 newC h [Value.int .i64 s.1, Value.int .i64 s.2.1, Value.int .i64 s.2.2.1, Value.int .i64 s.2.2.2.1, Value.int .u64 s.2.2.2.2.1] 108 fun b h1 => 
 bindI 0 fun t => 
 ldI h1 b 0 .i64 fun t2 => 
 ldI h1 b (0 + 1) .i64 fun t3 => 
 need (t3 ≠ 0) <| 
 need ((IntKind.wrap .i64 (Int.tdiv t2 t3)) ≠ 0) <| 
 bindI (IntKind.wrap .i64 (at_ - (Int.tmod at_ (IntKind.wrap .i64 (Int.tdiv t2 t3))))) fun t4 => 
 K t4 h1

def m_sketch_shape_begin (s : Int × Int × Int × Int × Int × Unit) (at_ : Int) (K : Int → Heap → Prop) (h : Heap) : Prop := g_sketch_shape_begin s at_ K h

/-- (*sketch.Sketch).estimate$1 -/
def g_sketch_Sketch_estimate_1 (b : Int × Int × Option Nat × Unit) (a1 : Option Addr) (K : Int → Heap → Prop) (h : Heap) : Prop :=
 newC h [Value.int .i64 b.1, Value.int .i64 b.2.1, Value.map b.2.2.1] 164 fun b1 h2 => 
 bindI 0 fun t => 
 ldM h2 b1 (0 + 2) fun t3 => 
 derefP a1 fun b4 o => ldI h2 b4 o .i64 fun t5 => ldI h2 b4 (o + 1) .i64 fun t6 => 
 mapGetA [(.int .i64), (.int .i64)] h2 t3 [Value.int .i64 t5, Value.int .i64 t6] fun r => asI (r.getD (Value.int .i64 0)) .i64 fun t7 => 
 bindI t7 fun t8 => 
 K t8 h2

def m_sketch_Sketch_estimate_1 (b : Int × Int × Option Nat × Unit) (a1 : Option Addr) (K : Int → Heap → Prop) (h : Heap) : Prop := g_sketch_Sketch_estimate_1 b a1 K h

/-- sketch.plus -/
def g_sketch_plus (a : Int) (b : Int) (K : Int → Heap → Prop) (h : Heap) : Prop :=
 bindI 0 fun t => 
 iteP (decide (a > (IntKind.wrap .i64 ((4611686018427387904 : Int) - b)))) (
 bindI 4611686018427387904 fun t1 => 
 K t1 h) (
 bindI (IntKind.wrap .i64 (a + b)) fun t2 => 
 K t2 h)

def m_sketch_plus (a : Int) (b : Int) (K : Int → Heap → Prop) (h : Heap) : Prop := g_sketch_plus a b K h

/-- (*sketch.Sketch).sum -/
def g_sketch_Sketch_sum__sketch_Sketch_estimate_1 (f_sketch_shape_begin : (Int × Int × Int × Int × Int × Unit) → Int → (Int → Heap → Prop) → Heap → Prop) (f_sketch_Sketch_estimate_1 : (Int × Int × Option Nat × Unit) → (Option Addr) → (Int → Heap → Prop) → Heap → Prop) (f_sketch_plus : Int → Int → (Int → Heap → Prop) → Heap → Prop) (s : Option Addr) (at_ : Int) (of : Option Addr × Unit) (K : Int → Heap → Prop) (h : Heap) : Prop :=
 bindI 0 fun t => 
 bindI 0 fun n => 
 derefP s fun b o => 
 ldL h b (o + 5) fun t1 => 
 loopM (σ := Int × Int × Unit) (fun J3 s4 h5 =>
 (fun (n2 : Int) (s15 : Int) =>
 iteP (decide (s15 < (t1.len : Int))) (
 idxA t1.ptr t1.len s15 3 fun b6 o7 => 
 ldI h5 b6 o7 .i64 fun t8 => ldI h5 b6 (o7 + 1) .i64 fun t9 => ldM h5 b6 (o7 + 2) fun t10 => 
 newC h5 [Value.int .i64 0, Value.int .i64 0, Value.map none] 164 fun b11 h12 => 
 sts h12 b11 0 [Value.int .i64 t8, Value.int .i64 t9, Value.map t10] fun h13 => 
 derefP s fun b14 o15 => 
 derefP s fun b16 o17 => 
 ldI h13 b11 0 .i64 fun t18 => 
 ldI h13 b14 o15 .i64 fun t19 => ldI h13 b14 (o15 + 1) .i64 fun t20 => ldI h13 b14 (o15 + 2) .i64 fun t21 => ldI h13 b14 (o15 + 3) .i64 fun t22 => ldI h13 b14 (o15 + 4) .u64 fun t23 => 
 ldI h13 b16 o17 .i64 fun t24 => 
 f_sketch_shape_begin (t19, t20, t21, t22, t23, ()) at_ (fun t25 h26 =>
 need (heldL h26 [(b16, o17, Value.int .i64 t24)]) <|
 need (heldL h26 [(b11, 0, Value.int .i64 t18)]) <|
 iteP (decide (t18 > (IntKind.wrap .i64 (t25 - t24)))) (
 ldI h26 b11 0 .i64 fun t27 => ldI h26 b11 (0 + 1) .i64 fun t28 => ldM h26 b11 (0 + 2) fun t29 => 
 f_sketch_Sketch_estimate_1 (t27, t28, t29, ()) of.1 (fun t30 h31 =>
 f_sketch_plus n2 t30 (fun t32 h33 =>
 bindI t32 fun n34 => 
 J3 (n34, IntKind.wrap .i64 (s15 + 1), ()) h33) h31) h26) (
 J3 (n2, IntKind.wrap .i64 (s15 + 1), ()) h26)) h13) (
 bindI n2 fun t35 => 
 K t35 h5)) s4.1 s4.2.1) (n, 0, ()) h

def m_sketch_Sketch_sum__sketch_Sketch_estimate_1 (s : Option Addr) (at_ : Int) (of : Option Addr × Unit) (K : Int → Heap → Prop) (h : Heap) : Prop := g_sketch_Sketch_sum__sketch_Sketch_estimate_1 m_sketch_shape_begin m_sketch_Sketch_estimate_1 m_sketch_plus s at_ of K h

/-- (*sketch.Sketch).estimate -/
def g_sketch_Sketch_estimate (f_sketch_shape_column : (Int × Int × Int × Int × Int × Unit) → Int → ByteArray → (Int → Heap → Prop) → Heap → Prop) (f_sketch_Sketch_sum__sketch_Sketch_estimate_1 : (Option Addr) → Int → (Option Addr × Unit) → (Int → Heap → Prop) → Heap → Prop) (s : Option Addr) (at_ : Int) (key : ByteArray) (K : Int → Heap → Prop) (h : Heap) : Prop :=
 bindI 0 fun t => 
 bindI 4611686018427387904 fun least => 
 derefP s fun b o => 
 ldI h b (o + 2) .i64 fun t1 => 
 loopM (σ := Int × Int × Unit) (fun J3 s4 h5 =>
 (fun (least2 : Int) (s15 : Int) =>
 iteP (decide (s15 < t1)) (
 bindI s15 fun row => 
 derefP s fun b6 o7 => 
 ldI h5 b6 o7 .i64 fun t8 => ldI h5 b6 (o7 + 1) .i64 fun t9 => ldI h5 b6 (o7 + 2) .i64 fun t10 => ldI h5 b6 (o7 + 3) .i64 fun t11 => ldI h5 b6 (o7 + 4) .u64 fun t12 => 
 f_sketch_shape_column (t8, t9, t10, t11, t12, ()) row key (fun t13 h14 =>
 newC h14 [Value.int .i64 0, Value.int .i64 0] 168 fun b15 h16 => 
 sts h16 b15 0 [Value.int .i64 row, Value.int .i64 t13] fun h17 => 
 f_sketch_Sketch_sum__sketch_Sketch_estimate_1 s at_ (some ⟨b15, 0, none⟩, ()) (fun t18 h19 =>
 bindI (minV least2 t18) fun least20 => 
 J3 (least20, IntKind.wrap .i64 (s15 + 1), ()) h19) h17) h5) (
 bindI least2 fun t21 => 
 K t21 h5)) s4.1 s4.2.1) (least, 0, ()) h

def m_sketch_Sketch_estimate (s : Option Addr) (at_ : Int) (key : ByteArray) (K : Int → Heap → Prop) (h : Heap) : Prop := g_sketch_Sketch_estimate m_sketch_shape_column m_sketch_Sketch_sum__sketch_Sketch_estimate_1 s at_ key K h

/-- (*sketch.Sketch).Estimate -/
def g_sketch_Sketch_Estimate (f_sketch_Sketch_look : (Option Addr) → Int → (Int → Heap → Prop) → Heap → Prop) (f_sketch_Sketch_estimate : (Option Addr) → Int → ByteArray → (Int → Heap → Prop) → Heap → Prop) (s : Option Addr) (at_ : Int) (key : ByteArray) (K : Int → Int → Heap → Prop) (h : Heap) : Prop :=
 bindI 0 fun t => 
 bindI 0 fun t1 => 
 f_sketch_Sketch_look s at_ (fun t2 h3 =>
 bindI t2 fun e => 
 iteP (e != 0) (
 bindI 0 fun t4 => 
 bindI e fun t5 => 
 K t4 t5 h3) (
 f_sketch_Sketch_estimate s at_ key (fun t6 h7 =>
 bindI t6 fun t8 => 
 bindI 0 fun t9 => 
 K t8 t9 h7) h3)) h

def m_sketch_Sketch_Estimate (s : Option Addr) (at_ : Int) (key : ByteArray) (K : Int → Int → Heap → Prop) (h : Heap) : Prop := g_sketch_Sketch_Estimate m_sketch_Sketch_look m_sketch_Sketch_estimate s at_ key K h

/-- (token.value).used -/
def g_token_value_used (f_sketch_Sketch_Estimate : (Option Addr) → Int → ByteArray → (Int → Int → Heap → Prop) → Heap → Prop) (v : Option Addr × Unit) (at_ : Int) (text : ByteArray) (K : Int → Heap → Prop) (h : Heap) : Prop :=
 newC h [Value.pointer v.1] 94 fun b h1 => 
 bindI 0 fun t => 
 ldP h1 b 0 fun t2 => 
 f_sketch_Sketch_Estimate t2 at_ text (fun t3 t4 h5 =>
 bindI t3 fun n => 
 bindI t4 fun x => 
 bindI n fun t6 => 
 K t6 h5) h1

def m_token_value_used (v : Option Addr × Unit) (at_ : Int) (text : ByteArray) (K : Int → Heap → Prop) (h : Heap) : Prop := g_token_value_used m_sketch_Sketch_Estimate v at_ text K h

/-- (token.leased).used -/
def g_token_leased_used (a0 : Unit) (a1 : Int) (a2 : ByteArray) (K : Int → Heap → Prop) (h : Heap) : Prop :=
 newC h [] 96 fun b h1 => 
 bindI 0 fun t => 
 bindI 0 fun t2 => 
 K t2 h1

def m_token_leased_used (a0 : Unit) (a1 : Int) (a2 : ByteArray) (K : Int → Heap → Prop) (h : Heap) : Prop := g_token_leased_used a0 a1 a2 K h

/-- (*token.Server).used -/
def g_token_Server_used (f_token_rate_used : (Option Addr × Unit) → Int → ByteArray → (Int → Heap → Prop) → Heap → Prop) (f_token_value_used : (Option Addr × Unit) → Int → ByteArray → (Int → Heap → Prop) → Heap → Prop) (f_token_leased_used : Unit → Int → ByteArray → (Int → Heap → Prop) → Heap → Prop) (f_token_Server_alive : (Option Addr) → Int → (Sl → Heap → Prop) → Heap → Prop) (s : Option Addr) (at_ : Int) (f : Int × Int × Int × Int × Unit) (text : ByteArray) (K : Int → Heap → Prop) (h : Heap) : Prop :=
 newC h [Value.int .i64 f.1, Value.int .i64 f.2.1, Value.int .i64 f.2.2.1, Value.int .i64 f.2.2.2.1] 53 fun b h1 => 
 bindI 0 fun t => 
 ldI h1 b (0 + 2) .i64 fun t2 => 
 iteP (t2 != 3) (
 derefP s fun b3 o => 
 ldM h1 b3 (o + 3) fun t4 => 
 ldI h1 b 0 .i64 fun t5 => 
 mapGet (.int .i64) h1 t4 (Value.int .i64 t5) fun r => exG (r.getD (Value.agg #[Value.nilIface, Value.int .i64 0])) (fun t6 : Value × Int × Unit => Value.agg #[t6.1, Value.int .i64 t6.2.1]) fun t6 => 
 (exG t6.1 (fun rc : Option Addr × Unit => Value.iface 88 (Value.agg #[Value.pointer rc.1])) fun rc => f_token_rate_used rc at_ text (fun t8 h7 =>
 bindI t8 fun t9 => 
 K t9 h7) h1) ∨ (
 (exG t6.1 (fun rc : Option Addr × Unit => Value.iface 94 (Value.agg #[Value.pointer rc.1])) fun rc => f_token_value_used rc at_ text (fun t8 h7 =>
 bindI t8 fun t9 => 
 K t9 h7) h1) ∨ (
 (exG t6.1 (fun rc : Unit => Value.iface 96 (Value.agg #[])) fun rc => f_token_leased_used rc at_ text (fun t8 h7 =>
 bindI t8 fun t9 => 
 K t9 h7) h1) ∨ (
 False)))) (
 bindI 0 fun n => 
 f_token_Server_alive s at_ (fun t10 h11 =>
 loopM (σ := Int × Int × Unit) (fun J13 s14 h15 =>
 (fun (n12 : Int) (s30 : Int) =>
 iteP (decide (s30 < (t10.len : Int))) (
 idxA t10.ptr t10.len s30 4 fun b16 o17 => 
 ldI h15 b16 o17 .i64 fun t18 => ldI h15 b16 (o17 + 1) .i64 fun t19 => ldI h15 b16 (o17 + 2) .i64 fun t20 => ldI h15 b16 (o17 + 3) .i64 fun t21 => 
 newC h15 [Value.int .i64 0, Value.int .i64 0, Value.int .i64 0, Value.int .i64 0] 115 fun b22 h23 => 
 sts h23 b22 0 [Value.int .i64 t18, Value.int .i64 t19, Value.int .i64 t20, Value.int .i64 t21] fun h24 => 
 ldI h24 b22 (0 + 1) .i64 fun t25 => 
 ldI h24 b 0 .i64 fun t26 => 
 iteP (t25 == t26) (
 ldI h24 b22 (0 + 2) .i64 fun t27 => 
 bindI (IntKind.wrap .i64 (n12 + t27)) fun n28 => 
 J13 (n28, IntKind.wrap .i64 (s30 + 1), ()) h24) (
 J13 (n12, IntKind.wrap .i64 (s30 + 1), ()) h24)) (
 bindI n12 fun t29 => 
 K t29 h15)) s14.1 s14.2.1) (n, 0, ()) h11) h1)

def m_token_Server_used (s : Option Addr) (at_ : Int) (f : Int × Int × Int × Int × Unit) (text : ByteArray) (K : Int → Heap → Prop) (h : Heap) : Prop := g_token_Server_used m_token_rate_used m_token_value_used m_token_leased_used m_token_Server_alive s at_ f text K h

/-- window.right -/
def g_window_right (c : Int × Int × Int × Int × Int × Int × Unit) (K : Bool → Heap → Prop) (h : Heap) : Prop :=
 newC h [Value.int .i64 c.1, Value.int .i64 c.2.1, Value.int .i64 c.2.2.1, Value.int .i64 c.2.2.2.1, Value.int .i64 c.2.2.2.2.1, Value.int .i64 c.2.2.2.2.2.1] 141 fun b h1 => 
 ldI h1 b 0 .i64 fun t => 
 ldI h1 b (0 + 1) .i64 fun t2 => 
 ldI h1 b (0 + 2) .i64 fun t3 => 
 ldI h1 b (0 + 3) .i64 fun t4 => 
 ldI h1 b (0 + 4) .i64 fun t5 => 
 ldI h1 b (0 + 5) .i64 fun t6 => 
 newC h1 [Value.int .i64 t, Value.int .i64 t2, Value.int .i64 t3, Value.int .i64 t4, Value.int .i64 t5, Value.int .i64 t6] 3 fun b7 h8 => 
 loopM (σ := Int × Unit) (fun J9 s h10 =>
 (fun (s19 : Int) =>
 iteP (decide (s19 < (6 : Int))) (
 idxA (some ⟨b7, 0, none⟩) 6 s19 1 fun b11 o => 
 ldI h10 b11 o .i64 fun t12 => 
 bindI t12 fun n => 
 iteP (decide (n < 0)) (
 K false h10) (
 iteP (decide (n > 4611686018427387904)) (
 K false h10) (
 J9 (IntKind.wrap .i64 (s19 + 1), ()) h10))) (
 ldI h10 b (0 + 3) .i64 fun t13 => 
 ldI h10 b (0 + 2) .i64 fun t14 => 
 iteP (decide (t13 ≤ t14)) (
 ldI h10 b (0 + 5) .i64 fun t15 => 
 ldI h10 b (0 + 4) .i64 fun t16 => 
 iteP (decide (t15 ≤ t16)) (
 ldI h10 b (0 + 2) .i64 fun t17 => 
 iteP (decide (t17 > 0)) (
 K true h10) (
 ldI h10 b (0 + 4) .i64 fun t18 => 
 bindB (t18 == 0) fun t19 => 
 K t19 h10)) (
 K false h10)) (
 K false h10))) s.1) (0, ()) h8

def m_window_right (c : Int × Int × Int × Int × Int × Int × Unit) (K : Bool → Heap → Prop) (h : Heap) : Prop := g_window_right c K h

/-- window.Join -/
def g_window_Join (f_window_right : (Int × Int × Int × Int × Int × Int × Unit) → (Bool → Heap → Prop) → Heap → Prop) (f_window_two : (Int × Int × Int × Int × Int × Int × Unit) → (Int × Int × Int × Int × Int × Int × Unit) → ((Int × Int × Int × Int × Int × Int × Unit) → Heap → Prop) → Heap → Prop) (l : Sl) (K : (Int × Int × Int × Int × Int × Int × Unit) → Heap → Prop) (h : Heap) : Prop :=
 newC h [Value.int .i64 0, Value.int .i64 0, Value.int .i64 0, Value.int .i64 0, Value.int .i64 0, Value.int .i64 0] 141 fun b h1 => 
 newC h1 [Value.int .i64 0, Value.int .i64 0, Value.int .i64 0, Value.int .i64 0, Value.int .i64 0, Value.int .i64 0] 141 fun b2 h3 => 
 loopM (σ := Int × Unit) (fun J4 s h5 =>
 (fun (s8 : Int) =>
 iteP (decide (s8 < (l.len : Int))) (
 idxA l.ptr l.len s8 6 fun b6 o => 
 ldI h5 b6 o .i64 fun t => ldI h5 b6 (o + 1) .i64 fun t7 => ldI h5 b6 (o + 2) .i64 fun t8 => ldI h5 b6 (o + 3) .i64 fun t9 => ldI h5 b6 (o + 4) .i64 fun t10 => ldI h5 b6 (o + 5) .i64 fun t11 => 
 newC h5 [Value.int .i64 0, Value.int .i64 0, Value.int .i64 0, Value.int .i64 0, Value.int .i64 0, Value.int .i64 0] 141 fun b12 h13 => 
 sts h13 b12 0 [Value.int .i64 t, Value.int .i64 t7, Value.int .i64 t8, Value.int .i64 t9, Value.int .i64 t10, Value.int .i64 t11] fun h14 => 
 ldI h14 b12 0 .i64 fun t15 => ldI h14 b12 (0 + 1) .i64 fun t16 => ldI h14 b12 (0 + 2) .i64 fun t17 => ldI h14 b12 (0 + 3) .i64 fun t18 => ldI h14 b12 (0 + 4) .i64 fun t19 => ldI h14 b12 (0 + 5) .i64 fun t20 => 
 f_window_right (t15, t16, t17, t18, t19, t20, ()) (fun t21 h22 =>
 iteP t21 (
 ldI h22 b2 0 .i64 fun t23 => ldI h22 b2 (0 + 1) .i64 fun t24 => ldI h22 b2 (0 + 2) .i64 fun t25 => ldI h22 b2 (0 + 3) .i64 fun t26 => ldI h22 b2 (0 + 4) .i64 fun t27 => ldI h22 b2 (0 + 5) .i64 fun t28 => 
 ldI h22 b12 0 .i64 fun t29 => ldI h22 b12 (0 + 1) .i64 fun t30 => ldI h22 b12 (0 + 2) .i64 fun t31 => ldI h22 b12 (0 + 3) .i64 fun t32 => ldI h22 b12 (0 + 4) .i64 fun t33 => ldI h22 b12 (0 + 5) .i64 fun t34 => 
 f_window_two (t23, t24, t25, t26, t27, t28, ()) (t29, t30, t31, t32, t33, t34, ()) (fun t35 h36 =>
 sts h36 b2 0 [Value.int .i64 t35.1, Value.int .i64 t35.2.1, Value.int .i64 t35.2.2.1, Value.int .i64 t35.2.2.2.1, Value.int .i64 t35.2.2.2.2.1, Value.int .i64 t35.2.2.2.2.2.1] fun h37 => 
 J4 (IntKind.wrap .i64 (s8 + 1), ()) h37) h22) (
 J4 (IntKind.wrap .i64 (s8 + 1), ()) h22)) h14) (
 ldI h5 b2 0 .i64 fun t38 => ldI h5 b2 (0 + 1) .i64 fun t39 => ldI h5 b2 (0 + 2) .i64 fun t40 => ldI h5 b2 (0 + 3) .i64 fun t41 => ldI h5 b2 (0 + 4) .i64 fun t42 => ldI h5 b2 (0 + 5) .i64 fun t43 => 
 sts h5 b 0 [Value.int .i64 t38, Value.int .i64 t39, Value.int .i64 t40, Value.int .i64 t41, Value.int .i64 t42, Value.int .i64 t43] fun h44 => 
 ldI h44 b 0 .i64 fun t45 => ldI h44 b (0 + 1) .i64 fun t46 => ldI h44 b (0 + 2) .i64 fun t47 => ldI h44 b (0 + 3) .i64 fun t48 => ldI h44 b (0 + 4) .i64 fun t49 => ldI h44 b (0 + 5) .i64 fun t50 => K (t45, t46, t47, t48, t49, t50, ()) h44)) s.1) (0, ()) h3

def m_window_Join (l : Sl) (K : (Int × Int × Int × Int × Int × Int × Unit) → Heap → Prop) (h : Heap) : Prop := g_window_Join m_window_right m_window_two l K h

/-- (*window.Window).Add -/
def g_window_Window_Add (f_window_Window_wrong : (Option Addr) → Int → (Int → Heap → Prop) → Heap → Prop) (f_window_right : (Int × Int × Int × Int × Int × Int × Unit) → (Bool → Heap → Prop) → Heap → Prop) (f_window_Window_bucket : (Option Addr) → Int → (Int → Heap → Prop) → Heap → Prop) (f_window_Join : Sl → ((Int × Int × Int × Int × Int × Int × Unit) → Heap → Prop) → Heap → Prop) (w : Option Addr) (at_ : Int) (l : Sl) (K : Int → Heap → Prop) (h : Heap) : Prop :=
 bindI 0 fun t => 
 f_window_Window_wrong w at_ (fun t1 h2 =>
 bindI t1 fun err => 
 iteP (err != 0) (
 bindI err fun t3 => 
 K t3 h2) (
 loopM (σ := Int × Unit) (fun J4 s h5 =>
 (fun (s21 : Int) =>
 iteP (decide (s21 < (l.len : Int))) (
 idxA l.ptr l.len s21 6 fun b o => 
 ldI h5 b o .i64 fun t6 => ldI h5 b (o + 1) .i64 fun t7 => ldI h5 b (o + 2) .i64 fun t8 => ldI h5 b (o + 3) .i64 fun t9 => ldI h5 b (o + 4) .i64 fun t10 => ldI h5 b (o + 5) .i64 fun t11 => 
 newC h5 [Value.int .i64 0, Value.int .i64 0, Value.int .i64 0, Value.int .i64 0, Value.int .i64 0, Value.int .i64 0] 141 fun b12 h13 => 
 sts h13 b12 0 [Value.int .i64 t6, Value.int .i64 t7, Value.int .i64 t8, Value.int .i64 t9, Value.int .i64 t10, Value.int .i64 t11] fun h14 => 
 ldI h14 b12 0 .i64 fun t15 => ldI h14 b12 (0 + 1) .i64 fun t16 => ldI h14 b12 (0 + 2) .i64 fun t17 => ldI h14 b12 (0 + 3) .i64 fun t18 => ldI h14 b12 (0 + 4) .i64 fun t19 => ldI h14 b12 (0 + 5) .i64 fun t20 => 
 f_window_right (t15, t16, t17, t18, t19, t20, ()) (fun t21 h22 =>
 iteP (!t21) (
 bindI 6 fun t23 => 
 K t23 h22) (
 J4 (IntKind.wrap .i64 (s21 + 1), ()) h22)) h14) (
 derefP w fun b24 o25 => 
 st h5 b24 (o25 + 2) (Value.int .i64 at_) fun h26 => 
 f_window_Window_bucket w at_ (fun t27 h28 =>
 bindI t27 fun k => 
 cutP (σ := Unit) (fun s59 h60 =>
 derefP w fun b61 o62 => 
 ldM h60 b61 (o62 + 3) fun t63 => 
 rgM h60 t63 fun it h64 => 
 loopM (σ := Unit) (fun J65 s66 h67 =>
 cutP (σ := Bool × Unit) (fun s70 h71 =>
 (fun (s61 : Bool) =>
 iteP s61 (
 entM h71 it fun k72 v => asI k72 .i64 fun t73 => exG v (fun t74 : Int × Int × Int × Int × Int × Int × Unit => Value.agg #[Value.int .i64 t74.1, Value.int .i64 t74.2.1, Value.int .i64 t74.2.2.1, Value.int .i64 t74.2.2.2.1, Value.int .i64 t74.2.2.2.2.1, Value.int .i64 t74.2.2.2.2.2.1]) fun t74 => 
 bindI t73 fun old => 
 derefP w fun b75 o76 => 
 ldI h71 b75 (o76 + 1) .i64 fun t77 => 
 iteP (decide (old ≤ (IntKind.wrap .i64 (k - t77)))) (
 derefP w fun b78 o79 => 
 ldM h71 b78 (o79 + 3) fun t80 => 
 mapDel (.int .i64) h71 t80 (Value.int .i64 old) fun h81 => 
 J65 (()) h81) (
 J65 (()) h71)) (
 bindI 0 fun t82 => 
 K t82 h71)) s70.1) (fun J68 =>
 nextM h67 it (fun _ _ h69 =>
 J68 (true, ()) h69) (
 J68 (false, ()) h67))) (()) h64) (fun J29 =>
 derefP w fun b30 o31 => 
 ldM h28 b30 (o31 + 3) fun t32 => 
 mapGet (.int .i64) h28 t32 (Value.int .i64 k) fun r => exG (r.getD (Value.agg #[Value.int .i64 0, Value.int .i64 0, Value.int .i64 0, Value.int .i64 0, Value.int .i64 0, Value.int .i64 0])) (fun t33 : Int × Int × Int × Int × Int × Int × Unit => Value.agg #[Value.int .i64 t33.1, Value.int .i64 t33.2.1, Value.int .i64 t33.2.2.1, Value.int .i64 t33.2.2.2.1, Value.int .i64 t33.2.2.2.2.1, Value.int .i64 t33.2.2.2.2.2.1]) fun t33 => 
 newC h28 [Value.int .i64 t33.1, Value.int .i64 t33.2.1, Value.int .i64 t33.2.2.1, Value.int .i64 t33.2.2.2.1, Value.int .i64 t33.2.2.2.2.1, Value.int .i64 t33.2.2.2.2.2.1] 141 fun b34 h35 => 
 rdS l 6 h35 fun new => app 141 6 48 [Value.int .i64 0, Value.int .i64 0, Value.int .i64 0, Value.int .i64 0, Value.int .i64 0, Value.int .i64 0] ⟨some ⟨b34, 0, none⟩, 1, 1⟩ l.len new h35 fun t36 h37 => 
 f_window_Join t36 (fun t38 h39 =>
 newC h39 [Value.int .i64 0, Value.int .i64 0, Value.int .i64 0, Value.int .i64 0, Value.int .i64 0, Value.int .i64 0] 141 fun b40 h41 => 
 sts h41 b40 0 [Value.int .i64 t38.1, Value.int .i64 t38.2.1, Value.int .i64 t38.2.2.1, Value.int .i64 t38.2.2.2.1, Value.int .i64 t38.2.2.2.2.1, Value.int .i64 t38.2.2.2.2.2.1] fun h42 => 
 ldI h42 b40 0 .i64 fun t43 => ldI h42 b40 (0 + 1) .i64 fun t44 => ldI h42 b40 (0 + 2) .i64 fun t45 => ldI h42 b40 (0 + 3) .i64 fun t46 => ldI h42 b40 (0 + 4) .i64 fun t47 => ldI h42 b40 (0 + 5) .i64 fun t48 => 
 iteP (!(bif t43 == 0 then (bif t44 == 0 then (bif t45 == 0 then (bif t46 == 0 then (bif t47 == 0 then (bif t48 == 0 then true else false) else false) else false) else false) else false) else false)) (
 derefP w fun b49 o50 => 
 ldM h42 b49 (o50 + 3) fun t51 => 
 ldI h42 b40 0 .i64 fun t52 => ldI h42 b40 (0 + 1) .i64 fun t53 => ldI h42 b40 (0 + 2) .i64 fun t54 => ldI h42 b40 (0 + 3) .i64 fun t55 => ldI h42 b40 (0 + 4) .i64 fun t56 => ldI h42 b40 (0 + 5) .i64 fun t57 => 
 mapPut (.int .i64) h42 t51 (Value.int .i64 k) (Value.agg #[Value.int .i64 t52, Value.int .i64 t53, Value.int .i64 t54, Value.int .i64 t55, Value.int .i64 t56, Value.int .i64 t57]) fun h58 => 
 J29 (()) h58) (
 J29 (()) h42)) h37)) h26)) s.1) (0, ()) h2)) h

def m_window_Window_Add (w : Option Addr) (at_ : Int) (l : Sl) (K : Int → Heap → Prop) (h : Heap) : Prop := g_window_Window_Add m_window_Window_wrong m_window_right m_window_Window_bucket m_window_Join w at_ l K h

/-- (token.rate).take -/
def g_token_rate_take (f_window_Window_Add : (Option Addr) → Int → Sl → (Int → Heap → Prop) → Heap → Prop) (r : Option Addr × Unit) (at_ : Int) (x : ByteArray) (n : Int) (K : Heap → Prop) (h : Heap) : Prop :=
 newC h [Value.pointer r.1] 88 fun b h1 => 
 ldP h1 b 0 fun t => 
 newC h1 [Value.int .i64 n, Value.int .i64 0, Value.int .i64 0, Value.int .i64 0, Value.int .i64 0, Value.int .i64 0] 141 fun b2 h3 => 
 f_window_Window_Add t at_ ⟨some ⟨b2, 0, none⟩, 1, 1⟩ (fun t4 h5 =>
 K h5) h3

def m_token_rate_take (r : Option Addr × Unit) (at_ : Int) (x : ByteArray) (n : Int) (K : Heap → Prop) (h : Heap) : Prop := g_token_rate_take m_window_Window_Add r at_ x n K h

/-- (*sketch.Sketch).Add$1 -/
def g_sketch_Sketch_Add_1 (b : Int × Int × Option Nat × Unit) (a1 : Option Addr) (a2 : Option Addr) (K : Bool → Heap → Prop) (h : Heap) : Prop :=
 newC h [Value.int .i64 b.1, Value.int .i64 b.2.1, Value.map b.2.2.1] 164 fun b1 h2 => 
 ldI h2 b1 0 .i64 fun t => 
 derefP a1 fun b3 o => ldI h2 b3 o .i64 fun t4 => 
 derefP a2 fun b5 o6 => ldP h2 b5 o6 fun t7 => 
 derefP t7 fun b8 o9 => 
 ldI h2 b8 o9 .i64 fun t10 => 
 bindB (decide (t ≤ (IntKind.wrap .i64 (t4 - t10)))) fun t11 => 
 K t11 h2

def m_sketch_Sketch_Add_1 (b : Int × Int × Option Nat × Unit) (a1 : Option Addr) (a2 : Option Addr) (K : Bool → Heap → Prop) (h : Heap) : Prop := g_sketch_Sketch_Add_1 b a1 a2 K h

/-- slices.IndexFunc[[]sketch.bucket,sketch.bucket] -/
def g_slices_IndexFunc_sketch_bucket_sketch_bucket___sketch_Sketch_Add_1 (f_sketch_Sketch_Add_1 : (Int × Int × Option Nat × Unit) → (Option Addr) → (Option Addr) → (Bool → Heap → Prop) → Heap → Prop) (s : Sl) (f : Option Addr × Option Addr × Unit) (K : Int → Heap → Prop) (h : Heap) : Prop :=
 bindI 0 fun t => 
 loopM (σ := Int × Unit) (fun J1 s2 h3 =>
 (fun (s8 : Int) =>
 iteP (decide (s8 < (s.len : Int))) (
 bindI s8 fun i => 
 idxA s.ptr s.len i 3 fun b o => 
 ldI h3 b o .i64 fun t4 => ldI h3 b (o + 1) .i64 fun t5 => ldM h3 b (o + 2) fun t6 => 
 f_sketch_Sketch_Add_1 (t4, t5, t6, ()) f.1 f.2.1 (fun t7 h8 =>
 iteP t7 (
 bindI i fun t9 => 
 K t9 h8) (
 J1 (IntKind.wrap .i64 (s8 + 1), ()) h8)) h3) (
 bindI (-1) fun t10 => 
 K t10 h3)) s2.1) (0, ()) h

def m_slices_IndexFunc_sketch_bucket_sketch_bucket___sketch_Sketch_Add_1 (s : Sl) (f : Option Addr × Option Addr × Unit) (K : Int → Heap → Prop) (h : Heap) : Prop := g_slices_IndexFunc_sketch_bucket_sketch_bucket___sketch_Sketch_Add_1 m_sketch_Sketch_Add_1 s f K h

/-- slices.DeleteFunc[[]sketch.bucket,sketch.bucket] -/
def g_slices_DeleteFunc_sketch_bucket_sketch_bucket___sketch_Sketch_Add_1 (f_slices_IndexFunc_sketch_bucket_sketch_bucket___sketch_Sketch_Add_1 : Sl → (Option Addr × Option Addr × Unit) → (Int → Heap → Prop) → Heap → Prop) (f_sketch_Sketch_Add_1 : (Int × Int × Option Nat × Unit) → (Option Addr) → (Option Addr) → (Bool → Heap → Prop) → Heap → Prop) (s : Sl) (del : Option Addr × Option Addr × Unit) (K : Sl → Heap → Prop) (h : Heap) : Prop :=
 f_slices_IndexFunc_sketch_bucket_sketch_bucket___sketch_Sketch_Add_1 s (del.1, del.2.1, ()) (fun t h1 =>
 bindI t fun i => 
 iteP (i == (-1)) (
 K s h1) (
 bindI (IntKind.wrap .i64 (i + 1)) fun j => 
 loopM (σ := Int × Int × Unit) (fun J4 s5 h6 =>
 (fun (i2 : Int) (j3 : Int) =>
 iteP (decide (j3 < (s.len : Int))) (
 idxA s.ptr s.len j3 3 fun b o => 
 ldI h6 b o .i64 fun t7 => ldI h6 b (o + 1) .i64 fun t8 => ldM h6 b (o + 2) fun t9 => 
 newC h6 [Value.int .i64 0, Value.int .i64 0, Value.map none] 164 fun b10 h11 => 
 sts h11 b10 0 [Value.int .i64 t7, Value.int .i64 t8, Value.map t9] fun h12 => 
 ldI h12 b10 0 .i64 fun t13 => ldI h12 b10 (0 + 1) .i64 fun t14 => ldM h12 b10 (0 + 2) fun t15 => 
 f_sketch_Sketch_Add_1 (t13, t14, t15, ()) del.1 del.2.1 (fun t16 h17 =>
 iteP (!t16) (
 ldI h17 b10 0 .i64 fun t18 => ldI h17 b10 (0 + 1) .i64 fun t19 => ldM h17 b10 (0 + 2) fun t20 => 
 idxA s.ptr s.len i2 3 fun b21 o22 => 
 sts h17 b21 o22 [Value.int .i64 t18, Value.int .i64 t19, Value.map t20] fun h23 => 
 bindI (IntKind.wrap .i64 (i2 + 1)) fun i24 => 
 bindI (IntKind.wrap .i64 (j3 + 1)) fun j25 => 
 J4 (i24, j25, ()) h23) (
 bindI (IntKind.wrap .i64 (j3 + 1)) fun j26 => 
 J4 (i2, j26, ()) h17)) h12) (
 slc s.ptr s.cap 3 i2 s.len s.cap fun t27 => 
 clrS t27 [Value.int .i64 0, Value.int .i64 0, Value.map none] h6 fun h28 => 
 slc s.ptr s.cap 3 0 i2 s.cap fun t29 => 
 K t29 h28)) s5.1 s5.2.1) (i, j, ()) h1)) h

def m_slices_DeleteFunc_sketch_bucket_sketch_bucket___sketch_Sketch_Add_1 (s : Sl) (del : Option Addr × Option Addr × Unit) (K : Sl → Heap → Prop) (h : Heap) : Prop := g_slices_DeleteFunc_sketch_bucket_sketch_bucket___sketch_Sketch_Add_1 m_slices_IndexFunc_sketch_bucket_sketch_bucket___sketch_Sketch_Add_1 m_sketch_Sketch_Add_1 s del K h

/-- (*sketch.Sketch).Add -/
def g_sketch_Sketch_Add (f_sketch_Sketch_look : (Option Addr) → Int → (Int → Heap → Prop) → Heap → Prop) (f_sketch_shape_begin : (Int × Int × Int × Int × Int × Unit) → Int → (Int → Heap → Prop) → Heap → Prop) (f_slices_DeleteFunc_sketch_bucket_sketch_bucket___sketch_Sketch_Add_1 : Sl → (Option Addr × Option Addr × Unit) → (Sl → Heap → Prop) → Heap → Prop) (f_sketch_plus : Int → Int → (Int → Heap → Prop) → Heap → Prop) (f_sketch_shape_column : (Int × Int × Int × Int × Int × Unit) → Int → ByteArray → (Int → Heap → Prop) → Heap → Prop) (s : Option Addr) (at_ : Int) (key : ByteArray) (n : Sl) (K : Int → Heap → Prop) (h : Heap) : Prop :=
 newC h [Value.pointer s] 89 fun b h1 => 
 bindI 0 fun t => 
 ldP h1 b 0 fun t2 => 
 f_sketch_Sketch_look t2 at_ (fun t3 h4 =>
 bindI t3 fun e => 
 iteP (e == 1) (
 bindI e fun t5 => 
 K t5 h4) (
 iteP (e == 2) (
 bindI e fun t6 => 
 K t6 h4) (
 loopM (σ := Int × Unit) (fun J7 s8 h9 =>
 (fun (s31 : Int) =>
 iteP (decide (s31 < (n.len : Int))) (
 idxA n.ptr n.len s31 1 fun b10 o => 
 ldI h9 b10 o .i64 fun t11 => 
 bindI t11 fun x => 
 iteP (decide (x < 0)) (
 bindI 2 fun t12 => 
 K t12 h9) (
 iteP (decide (x > 1099511627776)) (
 bindI 2 fun t13 => 
 K t13 h9) (
 J7 (IntKind.wrap .i64 (s31 + 1), ()) h9))) (
 iteP (e != 0) (
 bindI e fun t14 => 
 K t14 h9) (
 ldP h9 b 0 fun t15 => 
 derefP t15 fun b16 o17 => 
 st h9 b16 (o17 + 6) (Value.int .i64 at_) fun h18 => 
 ldP h18 b 0 fun t19 => 
 derefP t19 fun b20 o21 => 
 ldI h18 b20 o21 .i64 fun t22 => ldI h18 b20 (o21 + 1) .i64 fun t23 => ldI h18 b20 (o21 + 2) .i64 fun t24 => ldI h18 b20 (o21 + 3) .i64 fun t25 => ldI h18 b20 (o21 + 4) .u64 fun t26 => 
 f_sketch_shape_begin (t22, t23, t24, t25, t26, ()) at_ (fun t27 h28 =>
 newC h28 [Value.int .i64 0] 3 fun b29 h30 => 
 st h30 b29 0 (Value.int .i64 t27) fun h31 => 
 ldP h31 b 0 fun t32 => 
 ldP h31 b 0 fun t33 => 
 derefP t33 fun b34 o35 => 
 ldL h31 b34 (o35 + 5) fun t36 => 
 f_slices_DeleteFunc_sketch_bucket_sketch_bucket___sketch_Sketch_Add_1 t36 (some ⟨b29, 0, none⟩, some ⟨b, 0, none⟩, ()) (fun t37 h38 =>
 need (heldL h38 [(b, 0, Value.pointer t33)]) <|
 need (heldL h38 [(b, 0, Value.pointer t32)]) <|
 derefP t32 fun b39 o40 => 
 st h38 b39 (o40 + 5) (Value.slice t37.ptr t37.len t37.cap) fun h41 => 
 cutP (σ := Unit) (fun s86 h87 =>
 ldP h87 b 0 fun t88 => 
 derefP t88 fun b89 o90 => 
 ldL h87 b89 (o90 + 5) fun t91 => 
 ldP h87 b 0 fun t92 => 
 derefP t92 fun b93 o94 => 
 ldL h87 b93 (o94 + 5) fun t95 => 
 idxA t91.ptr t91.len (IntKind.wrap .i64 ((t95.len : Int) - 1)) 3 fun b96 o97 => 
 loopM (σ := Int × Unit) (fun J98 s99 h100 =>
 (fun (s109 : Int) =>
 iteP (decide (s109 < (n.len : Int))) (
 idxA n.ptr n.len s109 1 fun b101 o102 => 
 ldI h100 b101 o102 .i64 fun t103 => 
 bindI t103 fun x104 => 
 ldI h100 b96 (o97 + 1) .i64 fun t105 => 
 f_sketch_plus t105 x104 (fun t106 h107 =>
 st h107 b96 (o97 + 1) (Value.int .i64 t106) fun h108 => 
 ldP h108 b 0 fun t109 => 
 derefP t109 fun b110 o111 => 
 ldI h108 b110 (o111 + 2) .i64 fun t112 => 
 loopM (σ := Int × Unit) (fun J113 s114 h115 =>
 (fun (s127 : Int) =>
 iteP (decide (s127 < t112)) (
 bindI s127 fun row => 
 ldP h115 b 0 fun t116 => 
 derefP t116 fun b117 o118 => 
 ldI h115 b117 o118 .i64 fun t119 => ldI h115 b117 (o118 + 1) .i64 fun t120 => ldI h115 b117 (o118 + 2) .i64 fun t121 => ldI h115 b117 (o118 + 3) .i64 fun t122 => ldI h115 b117 (o118 + 4) .u64 fun t123 => 
 f_sketch_shape_column (t119, t120, t121, t122, t123, ()) row key (fun t124 h125 =>
 newC h125 [Value.int .i64 0, Value.int .i64 0] 168 fun b126 h127 => 
 sts h127 b126 0 [Value.int .i64 row, Value.int .i64 t124] fun h128 => 
 ldM h128 b96 (o97 + 2) fun t129 => 
 ldI h128 b126 0 .i64 fun t130 => ldI h128 b126 (0 + 1) .i64 fun t131 => 
 ldM h128 b96 (o97 + 2) fun t132 => 
 ldI h128 b126 0 .i64 fun t133 => ldI h128 b126 (0 + 1) .i64 fun t134 => 
 mapGetA [(.int .i64), (.int .i64)] h128 t132 [Value.int .i64 t133, Value.int .i64 t134] fun r => asI (r.getD (Value.int .i64 0)) .i64 fun t135 => 
 need (heldL h128 [(b126, 0, Value.int .i64 t130), (b126, 0 + 1, Value.int .i64 t131)]) <|
 need (heldL h128 [(b96, o97 + 2, Value.map t129)]) <|
 f_sketch_plus t135 x104 (fun t136 h137 =>
 need (heldL h137 [(b126, 0, Value.int .i64 t130), (b126, 0 + 1, Value.int .i64 t131)]) <|
 need (heldL h137 [(b96, o97 + 2, Value.map t129)]) <|
 mapPutA [(.int .i64), (.int .i64)] h137 t129 [Value.int .i64 t130, Value.int .i64 t131] (Value.int .i64 t136) fun h138 => 
 J113 (IntKind.wrap .i64 (s127 + 1), ()) h138) h128) h115) (
 J98 (IntKind.wrap .i64 (s109 + 1), ()) h115)) s114.1) (0, ()) h108) h100) (
 bindI 0 fun t139 => 
 K t139 h100)) s99.1) (0, ()) h87) (fun J42 =>
 ldP h41 b 0 fun t43 => 
 derefP t43 fun b44 o45 => 
 ldL h41 b44 (o45 + 5) fun t46 => 
 bindI (t46.len : Int) fun k => 
 iteP (k == 0) (
 ldP h41 b 0 fun t47 => 
 ldP h41 b 0 fun t48 => 
 derefP t48 fun b49 o50 => 
 ldL h41 b49 (o50 + 5) fun t51 => 
 ldI h41 b29 0 .i64 fun t52 => 
 newMap h41 fun b53 h54 => 
 need (heldL h54 [(b29, 0, Value.int .i64 t52)]) <|
 need (heldL h54 [(b49, o50 + 5, Value.slice t51.ptr t51.len t51.cap)]) <|
 need (heldL h54 [(b, 0, Value.pointer t48)]) <|
 need (heldL h54 [(b, 0, Value.pointer t47)]) <|
 newC h54 [Value.int .i64 t52, Value.int .i64 0, Value.map (some b53)] 164 fun b55 h56 => 
 need (heldL h56 [(b29, 0, Value.int .i64 t52)]) <|
 need (heldL h56 [(b49, o50 + 5, Value.slice t51.ptr t51.len t51.cap)]) <|
 need (heldL h56 [(b, 0, Value.pointer t48)]) <|
 need (heldL h56 [(b, 0, Value.pointer t47)]) <|
 rdS ⟨some ⟨b55, 0, none⟩, 1, 1⟩ 3 h56 fun new => app 164 3 24 [Value.int .i64 0, Value.int .i64 0, Value.map none] t51 1 new h56 fun t57 h58 => 
 need (heldL h58 [(b29, 0, Value.int .i64 t52)]) <|
 need (heldL h58 [(b, 0, Value.pointer t48)]) <|
 need (heldL h58 [(b, 0, Value.pointer t47)]) <|
 derefP t47 fun b59 o60 => 
 st h58 b59 (o60 + 5) (Value.slice t57.ptr t57.len t57.cap) fun h61 => 
 J42 (()) h61) (
 ldP h41 b 0 fun t62 => 
 derefP t62 fun b63 o64 => 
 ldL h41 b63 (o64 + 5) fun t65 => 
 idxA t65.ptr t65.len (IntKind.wrap .i64 (k - 1)) 3 fun b66 o67 => 
 ldI h41 b66 o67 .i64 fun t68 => 
 ldI h41 b29 0 .i64 fun t69 => 
 iteP (t68 != t69) (
 ldP h41 b 0 fun t70 => 
 ldP h41 b 0 fun t71 => 
 derefP t71 fun b72 o73 => 
 ldL h41 b72 (o73 + 5) fun t74 => 
 ldI h41 b29 0 .i64 fun t75 => 
 newMap h41 fun b76 h77 => 
 need (heldL h77 [(b29, 0, Value.int .i64 t75)]) <|
 need (heldL h77 [(b72, o73 + 5, Value.slice t74.ptr t74.len t74.cap)]) <|
 need (heldL h77 [(b, 0, Value.pointer t71)]) <|
 need (heldL h77 [(b, 0, Value.pointer t70)]) <|
 newC h77 [Value.int .i64 t75, Value.int .i64 0, Value.map (some b76)] 164 fun b78 h79 => 
 need (heldL h79 [(b29, 0, Value.int .i64 t75)]) <|
 need (heldL h79 [(b72, o73 + 5, Value.slice t74.ptr t74.len t74.cap)]) <|
 need (heldL h79 [(b, 0, Value.pointer t71)]) <|
 need (heldL h79 [(b, 0, Value.pointer t70)]) <|
 rdS ⟨some ⟨b78, 0, none⟩, 1, 1⟩ 3 h79 fun new82 => app 164 3 24 [Value.int .i64 0, Value.int .i64 0, Value.map none] t74 1 new82 h79 fun t80 h81 => 
 need (heldL h81 [(b29, 0, Value.int .i64 t75)]) <|
 need (heldL h81 [(b, 0, Value.pointer t71)]) <|
 need (heldL h81 [(b, 0, Value.pointer t70)]) <|
 derefP t70 fun b83 o84 => 
 st h81 b83 (o84 + 5) (Value.slice t80.ptr t80.len t80.cap) fun h85 => 
 J42 (()) h85) (
 J42 (()) h41)))) h31) h18))) s8.1) (0, ()) h4))) h1

def m_sketch_Sketch_Add (s : Option Addr) (at_ : Int) (key : ByteArray) (n : Sl) (K : Int → Heap → Prop) (h : Heap) : Prop := g_sketch_Sketch_Add m_sketch_Sketch_look m_sketch_shape_begin m_slices_DeleteFunc_sketch_bucket_sketch_bucket___sketch_Sketch_Add_1 m_sketch_plus m_sketch_shape_column s at_ key n K h

/-- (token.value).take -/
def g_token_value_take (f_sketch_Sketch_Add : (Option Addr) → Int → ByteArray → Sl → (Int → Heap → Prop) → Heap → Prop) (v : Option Addr × Unit) (at_ : Int) (text : ByteArray) (n : Int) (K : Heap → Prop) (h : Heap) : Prop :=
 newC h [Value.pointer v.1] 94 fun b h1 => 
 ldP h1 b 0 fun t => 
 newC h1 [Value.int .i64 n] 3 fun b2 h3 => 
 f_sketch_Sketch_Add t at_ text ⟨some ⟨b2, 0, none⟩, 1, 1⟩ (fun t4 h5 =>
 K h5) h3

def m_token_value_take (v : Option Addr × Unit) (at_ : Int) (text : ByteArray) (n : Int) (K : Heap → Prop) (h : Heap) : Prop := g_token_value_take m_sketch_Sketch_Add v at_ text n K h

/-- (token.leased).take -/
def g_token_leased_take (a0 : Unit) (a1 : Int) (a2 : ByteArray) (a3 : Int) (K : Heap → Prop) (h : Heap) : Prop :=
 newC h [] 96 fun b h1 => 
 K h1

def m_token_leased_take (a0 : Unit) (a1 : Int) (a2 : ByteArray) (a3 : Int) (K : Heap → Prop) (h : Heap) : Prop := g_token_leased_take a0 a1 a2 a3 K h

/-- (*token.Server).grant -/
def g_token_Server_grant (f_token_Server_used : (Option Addr) → Int → (Int × Int × Int × Int × Unit) → ByteArray → (Int → Heap → Prop) → Heap → Prop) (f_token_rate_take : (Option Addr × Unit) → Int → ByteArray → Int → (Heap → Prop) → Heap → Prop) (f_token_value_take : (Option Addr × Unit) → Int → ByteArray → Int → (Heap → Prop) → Heap → Prop) (f_token_leased_take : Unit → Int → ByteArray → Int → (Heap → Prop) → Heap → Prop) (f_token_Server_alive : (Option Addr) → Int → (Sl → Heap → Prop) → Heap → Prop) (s : Option Addr) (at_ : Int) (f : Int × Int × Int × Int × Unit) (r : Int × Int × Int × Int × ByteArray × Int × Unit) (K : (Int × Int × Int × Int × Int × Unit) → Heap → Prop) (h : Heap) : Prop :=
 newC h [Value.int .i64 f.1, Value.int .i64 f.2.1, Value.int .i64 f.2.2.1, Value.int .i64 f.2.2.2.1] 53 fun b h1 => 
 newC h1 [Value.int .i64 r.1, Value.int .u8 r.2.1, Value.int .i64 r.2.2.1, Value.int .i64 r.2.2.2.1, Value.string r.2.2.2.2.1, Value.int .i64 r.2.2.2.2.2.1] 41 fun b2 h3 => 
 newC h3 [Value.int .i64 0, Value.int .u8 0, Value.int .i64 0, Value.int .i64 0, Value.int .i64 0] 36 fun b4 h5 => 
 ldI h5 b 0 .i64 fun t => ldI h5 b (0 + 1) .i64 fun t6 => ldI h5 b (0 + 2) .i64 fun t7 => ldI h5 b (0 + 3) .i64 fun t8 => 
 ldS h5 b2 (0 + 4) fun t9 => 
 f_token_Server_used s at_ (t, t6, t7, t8, ()) t9 (fun t10 h11 =>
 bindI t10 fun used => 
 ldI h11 b (0 + 1) .i64 fun t12 => 
 ldI h11 b2 (0 + 3) .i64 fun t13 => 
 iteP (decide (used > (IntKind.wrap .i64 (t12 - t13)))) (
 ldI h11 b (0 + 1) .i64 fun t14 => 
 sts h11 b4 0 [Value.int .i64 0, Value.int .u8 2, Value.int .i64 (maxV (IntKind.wrap .i64 (t14 - used)) 0), Value.int .i64 0, Value.int .i64 0] fun h15 => 
 ldI h15 b4 0 .i64 fun t16 => ldI h15 b4 (0 + 1) .u8 fun t17 => ldI h15 b4 (0 + 2) .i64 fun t18 => ldI h15 b4 (0 + 3) .i64 fun t19 => ldI h15 b4 (0 + 4) .i64 fun t20 => K (t16, t17, t18, t19, t20, ()) h15) (
 ldI h11 b (0 + 1) .i64 fun t21 => 
 ldI h11 b2 (0 + 3) .i64 fun t22 => 
 newC h11 [Value.int .i64 0, Value.int .u8 0, Value.int .i64 0, Value.int .i64 0, Value.int .i64 0] 36 fun b23 h24 => 
 sts h24 b23 0 [Value.int .i64 0, Value.int .u8 1, Value.int .i64 (IntKind.wrap .i64 ((IntKind.wrap .i64 (t21 - used)) - t22)), Value.int .i64 0, Value.int .i64 0] fun h25 => 
 ldI h25 b (0 + 2) .i64 fun t26 => 
 iteP (t26 != 3) (
 derefP s fun b27 o => 
 ldM h25 b27 (o + 3) fun t28 => 
 ldI h25 b 0 .i64 fun t29 => 
 ldS h25 b2 (0 + 4) fun t30 => 
 ldI h25 b2 (0 + 3) .i64 fun t31 => 
 mapGet (.int .i64) h25 t28 (Value.int .i64 t29) fun r32 => exG (r32.getD (Value.agg #[Value.nilIface, Value.int .i64 0])) (fun t33 : Value × Int × Unit => Value.agg #[t33.1, Value.int .i64 t33.2.1]) fun t33 => 
 need (heldL h25 [(b2, 0 + 3, Value.int .i64 t31)]) <|
 need (heldL h25 [(b2, 0 + 4, Value.string t30)]) <|
 (exG t33.1 (fun rc : Option Addr × Unit => Value.iface 88 (Value.agg #[Value.pointer rc.1])) fun rc => f_token_rate_take rc at_ t30 t31 (fun h34 =>
 ldI h34 b23 0 .i64 fun t35 => ldI h34 b23 (0 + 1) .u8 fun t36 => ldI h34 b23 (0 + 2) .i64 fun t37 => ldI h34 b23 (0 + 3) .i64 fun t38 => ldI h34 b23 (0 + 4) .i64 fun t39 => 
 sts h34 b4 0 [Value.int .i64 t35, Value.int .u8 t36, Value.int .i64 t37, Value.int .i64 t38, Value.int .i64 t39] fun h40 => 
 ldI h40 b4 0 .i64 fun t41 => ldI h40 b4 (0 + 1) .u8 fun t42 => ldI h40 b4 (0 + 2) .i64 fun t43 => ldI h40 b4 (0 + 3) .i64 fun t44 => ldI h40 b4 (0 + 4) .i64 fun t45 => K (t41, t42, t43, t44, t45, ()) h40) h25) ∨ (
 (exG t33.1 (fun rc : Option Addr × Unit => Value.iface 94 (Value.agg #[Value.pointer rc.1])) fun rc => f_token_value_take rc at_ t30 t31 (fun h34 =>
 ldI h34 b23 0 .i64 fun t35 => ldI h34 b23 (0 + 1) .u8 fun t36 => ldI h34 b23 (0 + 2) .i64 fun t37 => ldI h34 b23 (0 + 3) .i64 fun t38 => ldI h34 b23 (0 + 4) .i64 fun t39 => 
 sts h34 b4 0 [Value.int .i64 t35, Value.int .u8 t36, Value.int .i64 t37, Value.int .i64 t38, Value.int .i64 t39] fun h40 => 
 ldI h40 b4 0 .i64 fun t41 => ldI h40 b4 (0 + 1) .u8 fun t42 => ldI h40 b4 (0 + 2) .i64 fun t43 => ldI h40 b4 (0 + 3) .i64 fun t44 => ldI h40 b4 (0 + 4) .i64 fun t45 => K (t41, t42, t43, t44, t45, ()) h40) h25) ∨ (
 (exG t33.1 (fun rc : Unit => Value.iface 96 (Value.agg #[])) fun rc => f_token_leased_take rc at_ t30 t31 (fun h34 =>
 ldI h34 b23 0 .i64 fun t35 => ldI h34 b23 (0 + 1) .u8 fun t36 => ldI h34 b23 (0 + 2) .i64 fun t37 => ldI h34 b23 (0 + 3) .i64 fun t38 => ldI h34 b23 (0 + 4) .i64 fun t39 => 
 sts h34 b4 0 [Value.int .i64 t35, Value.int .u8 t36, Value.int .i64 t37, Value.int .i64 t38, Value.int .i64 t39] fun h40 => 
 ldI h40 b4 0 .i64 fun t41 => ldI h40 b4 (0 + 1) .u8 fun t42 => ldI h40 b4 (0 + 2) .i64 fun t43 => ldI h40 b4 (0 + 3) .i64 fun t44 => ldI h40 b4 (0 + 4) .i64 fun t45 => K (t41, t42, t43, t44, t45, ()) h40) h25) ∨ (
 False)))) (
 f_token_Server_alive s at_ (fun t46 h47 =>
 derefP s fun b48 o49 => 
 st h47 b48 (o49 + 5) (Value.slice t46.ptr t46.len t46.cap) fun h50 => 
 derefP s fun b51 o52 => 
 ldL h50 b51 (o52 + 5) fun t53 => 
 iteP (decide ((t53.len : Int) ≥ 1024)) (
 sts h50 b4 0 [Value.int .i64 0, Value.int .u8 6, Value.int .i64 0, Value.int .i64 0, Value.int .i64 0] fun h54 => 
 ldI h54 b4 0 .i64 fun t55 => ldI h54 b4 (0 + 1) .u8 fun t56 => ldI h54 b4 (0 + 2) .i64 fun t57 => ldI h54 b4 (0 + 3) .i64 fun t58 => ldI h54 b4 (0 + 4) .i64 fun t59 => K (t55, t56, t57, t58, t59, ()) h54) (
 derefP s fun b60 o61 => 
 ldI h50 b60 (o61 + 6) .i64 fun t62 => 
 ldI h50 b (0 + 3) .i64 fun t63 => 
 st h50 b23 (0 + 4) (Value.int .i64 t62) fun h64 => 
 need (heldL h64 [(b, 0 + 3, Value.int .i64 t63)]) <|
 st h64 b23 (0 + 3) (Value.int .i64 t63) fun h65 => 
 derefP s fun b66 o67 => 
 derefP s fun b68 o69 => 
 ldL h65 b66 (o67 + 5) fun t70 => 
 ldI h65 b68 (o69 + 6) .i64 fun t71 => 
 ldI h65 b 0 .i64 fun t72 => 
 ldI h65 b2 (0 + 3) .i64 fun t73 => 
 ldI h65 b (0 + 3) .i64 fun t74 => 
 newC h65 [Value.int .i64 t71, Value.int .i64 t72, Value.int .i64 t73, Value.int .i64 (IntKind.wrap .i64 (at_ + t74))] 115 fun b75 h76 => 
 need (heldL h76 [(b, 0 + 3, Value.int .i64 t74)]) <|
 need (heldL h76 [(b2, 0 + 3, Value.int .i64 t73)]) <|
 need (heldL h76 [(b, 0, Value.int .i64 t72)]) <|
 need (heldL h76 [(b68, o69 + 6, Value.int .i64 t71)]) <|
 need (heldL h76 [(b66, o67 + 5, Value.slice t70.ptr t70.len t70.cap)]) <|
 rdS ⟨some ⟨b75, 0, none⟩, 1, 1⟩ 4 h76 fun new => app 115 4 32 [Value.int .i64 0, Value.int .i64 0, Value.int .i64 0, Value.int .i64 0] t70 1 new h76 fun t77 h78 => 
 need (heldL h78 [(b, 0 + 3, Value.int .i64 t74)]) <|
 need (heldL h78 [(b2, 0 + 3, Value.int .i64 t73)]) <|
 need (heldL h78 [(b, 0, Value.int .i64 t72)]) <|
 need (heldL h78 [(b68, o69 + 6, Value.int .i64 t71)]) <|
 derefP s fun b79 o80 => 
 st h78 b79 (o80 + 5) (Value.slice t77.ptr t77.len t77.cap) fun h81 => 
 derefP s fun b82 o83 => 
 ldI h81 b82 (o83 + 6) .i64 fun t84 => 
 derefP s fun b85 o86 => 
 st h81 b85 (o86 + 6) (Value.int .i64 (IntKind.wrap .i64 (t84 + 1))) fun h87 => 
 ldI h87 b23 0 .i64 fun t88 => ldI h87 b23 (0 + 1) .u8 fun t89 => ldI h87 b23 (0 + 2) .i64 fun t90 => ldI h87 b23 (0 + 3) .i64 fun t91 => ldI h87 b23 (0 + 4) .i64 fun t92 => 
 sts h87 b4 0 [Value.int .i64 t88, Value.int .u8 t89, Value.int .i64 t90, Value.int .i64 t91, Value.int .i64 t92] fun h93 => 
 ldI h93 b4 0 .i64 fun t94 => ldI h93 b4 (0 + 1) .u8 fun t95 => ldI h93 b4 (0 + 2) .i64 fun t96 => ldI h93 b4 (0 + 3) .i64 fun t97 => ldI h93 b4 (0 + 4) .i64 fun t98 => K (t94, t95, t96, t97, t98, ()) h93)) h25))) h5

def m_token_Server_grant (s : Option Addr) (at_ : Int) (f : Int × Int × Int × Int × Unit) (r : Int × Int × Int × Int × ByteArray × Int × Unit) (K : (Int × Int × Int × Int × Int × Unit) → Heap → Prop) (h : Heap) : Prop := g_token_Server_grant m_token_Server_used m_token_rate_take m_token_value_take m_token_leased_take m_token_Server_alive s at_ f r K h

/-- (*token.Server).answer -/
def g_token_Server_answer (f_proto_Right : (Int × Int × Int × Int × ByteArray × Int × Unit) → (Bool → Heap → Prop) → Heap → Prop) (f_token_Server_space : (Option Addr) → ByteArray → (Int → Heap → Prop) → Heap → Prop) (f_token_Server_giveBack : (Option Addr) → Int → ByteArray → Int → (Int → Heap → Prop) → Heap → Prop) (f_token_Server_flow : (Option Addr) → ByteArray → Int → ((Int × Int × Int × Int × Unit) → Bool → Heap → Prop) → Heap → Prop) (f_token_Server_isQuiet : (Option Addr) → Int → (Int × Int × Int × Int × Unit) → (Bool → Heap → Prop) → Heap → Prop) (f_token_Server_grant : (Option Addr) → Int → (Int × Int × Int × Int × Unit) → (Int × Int × Int × Int × ByteArray × Int × Unit) → ((Int × Int × Int × Int × Int × Unit) → Heap → Prop) → Heap → Prop) (s : Option Addr) (at_ : Int) (conn : Int) (r : Int × Int × Int × Int × ByteArray × Int × Unit) (K : (Int × Int × Int × Int × Int × Unit) → Heap → Prop) (h : Heap) : Prop :=
 newC h [Value.int .i64 r.1, Value.int .u8 r.2.1, Value.int .i64 r.2.2.1, Value.int .i64 r.2.2.2.1, Value.string r.2.2.2.2.1, Value.int .i64 r.2.2.2.2.2.1] 41 fun b h1 => 
 newC h1 [Value.int .i64 0, Value.int .u8 0, Value.int .i64 0, Value.int .i64 0, Value.int .i64 0] 36 fun b2 h3 => 
 derefP s fun b4 o => 
 ldM h3 b4 (o + 4) fun t => 
 mapGet (.int .i64) h3 t (Value.int .i64 conn) fun r5 => asS (r5.getD (Value.string (ByteArray.mk #[]))) fun t6 => 
 ldI h3 b 0 .i64 fun t7 => ldI h3 b (0 + 1) .u8 fun t8 => ldI h3 b (0 + 2) .i64 fun t9 => ldI h3 b (0 + 3) .i64 fun t10 => ldS h3 b (0 + 4) fun t11 => ldI h3 b (0 + 5) .i64 fun t12 => 
 f_proto_Right (t7, t8, t9, t10, t11, t12, ()) (fun t13 h14 =>
 bindB (!t13) fun t15 => 
 iteP t15 (
 sts h14 b2 0 [Value.int .i64 0, Value.int .u8 5, Value.int .i64 0, Value.int .i64 0, Value.int .i64 0] fun h16 => 
 ldI h16 b2 0 .i64 fun t17 => ldI h16 b2 (0 + 1) .u8 fun t18 => ldI h16 b2 (0 + 2) .i64 fun t19 => ldI h16 b2 (0 + 3) .i64 fun t20 => ldI h16 b2 (0 + 4) .i64 fun t21 => K (t17, t18, t19, t20, t21, ()) h16) (
 cutP (σ := Bool × Unit) (fun s28 h29 =>
 (fun (s24 : Bool) =>
 iteP s24 (
 derefP s fun b30 o31 => 
 ldM h29 b30 (o31 + 4) fun t32 => 
 ldS h29 b (0 + 4) fun t33 => 
 mapPut (.int .i64) h29 t32 (Value.int .i64 conn) (Value.string t33) fun h34 => 
 sts h34 b2 0 [Value.int .i64 0, Value.int .u8 1, Value.int .i64 0, Value.int .i64 0, Value.int .i64 0] fun h35 => 
 ldI h35 b2 0 .i64 fun t36 => ldI h35 b2 (0 + 1) .u8 fun t37 => ldI h35 b2 (0 + 2) .i64 fun t38 => ldI h35 b2 (0 + 3) .i64 fun t39 => ldI h35 b2 (0 + 4) .i64 fun t40 => K (t36, t37, t38, t39, t40, ()) h35) (
 ldI h29 b (0 + 1) .u8 fun t41 => 
 bindB (t41 == 5) fun t42 => 
 iteP t42 (
 derefP s fun b43 o44 => 
 ldM h29 b43 (o44 + 4) fun t45 => 
 mapPut (.int .i64) h29 t45 (Value.int .i64 conn) (Value.string (ByteArray.mk #[])) fun h46 => 
 sts h46 b2 0 [Value.int .i64 0, Value.int .u8 4, Value.int .i64 0, Value.int .i64 0, Value.int .i64 0] fun h47 => 
 ldI h47 b2 0 .i64 fun t48 => ldI h47 b2 (0 + 1) .u8 fun t49 => ldI h47 b2 (0 + 2) .i64 fun t50 => ldI h47 b2 (0 + 3) .i64 fun t51 => ldI h47 b2 (0 + 4) .i64 fun t52 => K (t48, t49, t50, t51, t52, ()) h47) (
 bindB (strEq t6 (ByteArray.mk #[])) fun t53 => 
 iteP t53 (
 sts h29 b2 0 [Value.int .i64 0, Value.int .u8 4, Value.int .i64 0, Value.int .i64 0, Value.int .i64 0] fun h54 => 
 ldI h54 b2 0 .i64 fun t55 => ldI h54 b2 (0 + 1) .u8 fun t56 => ldI h54 b2 (0 + 2) .i64 fun t57 => ldI h54 b2 (0 + 3) .i64 fun t58 => ldI h54 b2 (0 + 4) .i64 fun t59 => K (t55, t56, t57, t58, t59, ()) h54) (
 ldI h29 b (0 + 1) .u8 fun t60 => 
 bindB (t60 == 4) fun t61 => 
 iteP t61 (
 ldI h29 b (0 + 5) .i64 fun t62 => 
 f_token_Server_giveBack s at_ t6 t62 (fun t63 h64 =>
 sts h64 b2 0 [Value.int .i64 0, Value.int .u8 t63, Value.int .i64 0, Value.int .i64 0, Value.int .i64 0] fun h65 => 
 ldI h65 b2 0 .i64 fun t66 => ldI h65 b2 (0 + 1) .u8 fun t67 => ldI h65 b2 (0 + 2) .i64 fun t68 => ldI h65 b2 (0 + 3) .i64 fun t69 => ldI h65 b2 (0 + 4) .i64 fun t70 => K (t66, t67, t68, t69, t70, ()) h65) h29) (
 ldI h29 b (0 + 2) .i64 fun t71 => 
 f_token_Server_flow s t6 t71 (fun t72 t73 h74 =>
 newC h74 [Value.int .i64 0, Value.int .i64 0, Value.int .i64 0, Value.int .i64 0] 53 fun b75 h76 => 
 sts h76 b75 0 [Value.int .i64 t72.1, Value.int .i64 t72.2.1, Value.int .i64 t72.2.2.1, Value.int .i64 t72.2.2.2.1] fun h77 => 
 bindB t73 fun some_ => 
 ldI h77 b (0 + 1) .u8 fun t78 => 
 bindI (IntKind.wrap .i64 t78) fun want => 
 iteP (!some_) (
 sts h77 b2 0 [Value.int .i64 0, Value.int .u8 4, Value.int .i64 0, Value.int .i64 0, Value.int .i64 0] fun h79 => 
 ldI h79 b2 0 .i64 fun t80 => ldI h79 b2 (0 + 1) .u8 fun t81 => ldI h79 b2 (0 + 2) .i64 fun t82 => ldI h79 b2 (0 + 3) .i64 fun t83 => ldI h79 b2 (0 + 4) .i64 fun t84 => K (t80, t81, t82, t83, t84, ()) h79) (
 ldI h77 b75 (0 + 2) .i64 fun t85 => 
 bindB (t85 != want) fun t86 => 
 iteP t86 (
 sts h77 b2 0 [Value.int .i64 0, Value.int .u8 4, Value.int .i64 0, Value.int .i64 0, Value.int .i64 0] fun h87 => 
 ldI h87 b2 0 .i64 fun t88 => ldI h87 b2 (0 + 1) .u8 fun t89 => ldI h87 b2 (0 + 2) .i64 fun t90 => ldI h87 b2 (0 + 3) .i64 fun t91 => ldI h87 b2 (0 + 4) .i64 fun t92 => K (t88, t89, t90, t91, t92, ()) h87) (
 ldI h77 b75 0 .i64 fun t93 => ldI h77 b75 (0 + 1) .i64 fun t94 => ldI h77 b75 (0 + 2) .i64 fun t95 => ldI h77 b75 (0 + 3) .i64 fun t96 => 
 f_token_Server_isQuiet s at_ (t93, t94, t95, t96, ()) (fun t97 h98 =>
 bindB t97 fun t99 => 
 iteP t99 (
 sts h98 b2 0 [Value.int .i64 0, Value.int .u8 7, Value.int .i64 0, Value.int .i64 0, Value.int .i64 0] fun h100 => 
 ldI h100 b2 0 .i64 fun t101 => ldI h100 b2 (0 + 1) .u8 fun t102 => ldI h100 b2 (0 + 2) .i64 fun t103 => ldI h100 b2 (0 + 3) .i64 fun t104 => ldI h100 b2 (0 + 4) .i64 fun t105 => K (t101, t102, t103, t104, t105, ()) h100) (
 ldI h98 b75 0 .i64 fun t106 => ldI h98 b75 (0 + 1) .i64 fun t107 => ldI h98 b75 (0 + 2) .i64 fun t108 => ldI h98 b75 (0 + 3) .i64 fun t109 => 
 ldI h98 b 0 .i64 fun t110 => ldI h98 b (0 + 1) .u8 fun t111 => ldI h98 b (0 + 2) .i64 fun t112 => ldI h98 b (0 + 3) .i64 fun t113 => ldS h98 b (0 + 4) fun t114 => ldI h98 b (0 + 5) .i64 fun t115 => 
 f_token_Server_grant s at_ (t106, t107, t108, t109, ()) (t110, t111, t112, t113, t114, t115, ()) (fun t116 h117 =>
 sts h117 b2 0 [Value.int .i64 t116.1, Value.int .u8 t116.2.1, Value.int .i64 t116.2.2.1, Value.int .i64 t116.2.2.2.1, Value.int .i64 t116.2.2.2.2.1] fun h118 => 
 ldI h118 b2 0 .i64 fun t119 => ldI h118 b2 (0 + 1) .u8 fun t120 => ldI h118 b2 (0 + 2) .i64 fun t121 => ldI h118 b2 (0 + 3) .i64 fun t122 => ldI h118 b2 (0 + 4) .i64 fun t123 => K (t119, t120, t121, t122, t123, ()) h118) h98)) h77))) h29))))) s28.1) (fun J22 =>
 ldI h14 b (0 + 1) .u8 fun t23 => 
 iteP (t23 == 5) (
 ldS h14 b (0 + 4) fun t24 => 
 f_token_Server_space s t24 (fun t25 h26 =>
 bindB (decide (t25 ≥ 0)) fun t27 => 
 J22 (t27, ()) h26) h14) (
 J22 (false, ()) h14)))) h3

def m_token_Server_answer (s : Option Addr) (at_ : Int) (conn : Int) (r : Int × Int × Int × Int × ByteArray × Int × Unit) (K : (Int × Int × Int × Int × Int × Unit) → Heap → Prop) (h : Heap) : Prop := g_token_Server_answer m_proto_Right m_token_Server_space m_token_Server_giveBack m_token_Server_flow m_token_Server_isQuiet m_token_Server_grant s at_ conn r K h

/-- (*token.Server).Do -/
def g_token_Server_Do (f_token_Server_look : (Option Addr) → Int → (Int → Heap → Prop) → Heap → Prop) (f_token_Server_answer : (Option Addr) → Int → Int → (Int × Int × Int × Int × ByteArray × Int × Unit) → ((Int × Int × Int × Int × Int × Unit) → Heap → Prop) → Heap → Prop) (s : Option Addr) (at_ : Int) (conn : Int) (r : Int × Int × Int × Int × ByteArray × Int × Unit) (K : (Int × Int × Int × Int × Int × Unit) → Int → Heap → Prop) (h : Heap) : Prop :=
 newC h [Value.int .i64 r.1, Value.int .u8 r.2.1, Value.int .i64 r.2.2.1, Value.int .i64 r.2.2.2.1, Value.string r.2.2.2.2.1, Value.int .i64 r.2.2.2.2.2.1] 41 fun b h1 => 
 newC h1 [Value.int .i64 0, Value.int .u8 0, Value.int .i64 0, Value.int .i64 0, Value.int .i64 0] 36 fun b2 h3 => 
 bindI 0 fun t => 
 f_token_Server_look s at_ (fun t4 h5 =>
 bindI t4 fun e => 
 iteP (e != 0) (
 sts h5 b2 0 [Value.int .i64 0, Value.int .u8 0, Value.int .i64 0, Value.int .i64 0, Value.int .i64 0] fun h6 => 
 bindI e fun t7 => 
 ldI h6 b2 0 .i64 fun t8 => ldI h6 b2 (0 + 1) .u8 fun t9 => ldI h6 b2 (0 + 2) .i64 fun t10 => ldI h6 b2 (0 + 3) .i64 fun t11 => ldI h6 b2 (0 + 4) .i64 fun t12 => K (t8, t9, t10, t11, t12, ()) t7 h6) (
 derefP s fun b13 o => 
 ldM h5 b13 (o + 4) fun t14 => 
 mapGet (.int .i64) h5 t14 (Value.int .i64 conn) fun r15 => asS (r15.getD (Value.string (ByteArray.mk #[]))) fun t16 => 
 bindB r15.isSome fun there => 
 iteP (!there) (
 sts h5 b2 0 [Value.int .i64 0, Value.int .u8 0, Value.int .i64 0, Value.int .i64 0, Value.int .i64 0] fun h17 => 
 bindI 4 fun t18 => 
 ldI h17 b2 0 .i64 fun t19 => ldI h17 b2 (0 + 1) .u8 fun t20 => ldI h17 b2 (0 + 2) .i64 fun t21 => ldI h17 b2 (0 + 3) .i64 fun t22 => ldI h17 b2 (0 + 4) .i64 fun t23 => K (t19, t20, t21, t22, t23, ()) t18 h17) (
 derefP s fun b24 o25 => 
 st h5 b24 (o25 + 1) (Value.int .i64 at_) fun h26 => 
 ldI h26 b 0 .i64 fun t27 => ldI h26 b (0 + 1) .u8 fun t28 => ldI h26 b (0 + 2) .i64 fun t29 => ldI h26 b (0 + 3) .i64 fun t30 => ldS h26 b (0 + 4) fun t31 => ldI h26 b (0 + 5) .i64 fun t32 => 
 f_token_Server_answer s at_ conn (t27, t28, t29, t30, t31, t32, ()) (fun t33 h34 =>
 newC h34 [Value.int .i64 0, Value.int .u8 0, Value.int .i64 0, Value.int .i64 0, Value.int .i64 0] 36 fun b35 h36 => 
 sts h36 b35 0 [Value.int .i64 t33.1, Value.int .u8 t33.2.1, Value.int .i64 t33.2.2.1, Value.int .i64 t33.2.2.2.1, Value.int .i64 t33.2.2.2.2.1] fun h37 => 
 ldI h37 b 0 .i64 fun t38 => 
 st h37 b35 0 (Value.int .i64 t38) fun h39 => 
 ldI h39 b35 0 .i64 fun t40 => ldI h39 b35 (0 + 1) .u8 fun t41 => ldI h39 b35 (0 + 2) .i64 fun t42 => ldI h39 b35 (0 + 3) .i64 fun t43 => ldI h39 b35 (0 + 4) .i64 fun t44 => 
 sts h39 b2 0 [Value.int .i64 t40, Value.int .u8 t41, Value.int .i64 t42, Value.int .i64 t43, Value.int .i64 t44] fun h45 => 
 bindI 0 fun t46 => 
 ldI h45 b2 0 .i64 fun t47 => ldI h45 b2 (0 + 1) .u8 fun t48 => ldI h45 b2 (0 + 2) .i64 fun t49 => ldI h45 b2 (0 + 3) .i64 fun t50 => ldI h45 b2 (0 + 4) .i64 fun t51 => K (t47, t48, t49, t50, t51, ()) t46 h45) h26))) h3

def m_token_Server_Do (s : Option Addr) (at_ : Int) (conn : Int) (r : Int × Int × Int × Int × ByteArray × Int × Unit) (K : (Int × Int × Int × Int × Int × Unit) → Int → Heap → Prop) (h : Heap) : Prop := g_token_Server_Do m_token_Server_look m_token_Server_answer s at_ conn r K h

/-- spillwaylaw20.live -/
def g_spillwaylaw20_live (f_token_New : Int → ((Option Addr) → Int → Heap → Prop) → Heap → Prop) (f_token_Server_Load : (Option Addr) → ByteArray → Sl → (Int → Heap → Prop) → Heap → Prop) (f_token_Server_Open : (Option Addr) → Int → (Int → Heap → Prop) → Heap → Prop) (f_token_Server_Do : (Option Addr) → Int → Int → (Int × Int × Int × Int × ByteArray × Int × Unit) → ((Int × Int × Int × Int × Int × Unit) → Int → Heap → Prop) → Heap → Prop) (K : Bool → Heap → Prop) (h : Heap) : Prop :=
 f_token_New 0 (fun t t1 h2 =>
 bindI t1 fun e => 
 iteP (e != 0) (
 K false h2) (
 iteP t.isNone (
 K false h2) (
 newC h2 [Value.int .i64 1, Value.int .i64 5, Value.int .i64 1, Value.int .i64 0] 53 fun b h3 => 
 f_token_Server_Load t (ByteArray.mk #[97]) ⟨some ⟨b, 0, none⟩, 1, 1⟩ (fun t4 h5 =>
 bindI t4 fun f => 
 f_token_Server_Open t 1 (fun t6 h7 =>
 bindI t6 fun g => 
 f_token_Server_Do t 5 1 (3, 5, 0, 0, ByteArray.mk #[97], 0, ()) (fun t8 t9 h10 =>
 newC h10 [Value.int .i64 0, Value.int .u8 0, Value.int .i64 0, Value.int .i64 0, Value.int .i64 0] 36 fun b11 h12 => 
 sts h12 b11 0 [Value.int .i64 t8.1, Value.int .u8 t8.2.1, Value.int .i64 t8.2.2.1, Value.int .i64 t8.2.2.2.1, Value.int .i64 t8.2.2.2.2.1] fun h13 => 
 bindI t9 fun h14 => 
 f_token_Server_Do t 999999 1 (4, 1, 1, 1, ByteArray.mk #[], 0, ()) (fun t15 t16 h17 =>
 newC h17 [Value.int .i64 0, Value.int .u8 0, Value.int .i64 0, Value.int .i64 0, Value.int .i64 0] 36 fun b18 h19 => 
 sts h19 b18 0 [Value.int .i64 t15.1, Value.int .u8 t15.2.1, Value.int .i64 t15.2.2.1, Value.int .i64 t15.2.2.2.1, Value.int .i64 t15.2.2.2.2.1] fun h20 => 
 bindI t16 fun i => 
 f_token_Server_Do t 1000000 1 (5, 1, 1, 1, ByteArray.mk #[], 0, ()) (fun t21 t22 h23 =>
 newC h23 [Value.int .i64 0, Value.int .u8 0, Value.int .i64 0, Value.int .i64 0, Value.int .i64 0] 36 fun b24 h25 => 
 sts h25 b24 0 [Value.int .i64 t21.1, Value.int .u8 t21.2.1, Value.int .i64 t21.2.2.1, Value.int .i64 t21.2.2.2.1, Value.int .i64 t21.2.2.2.2.1] fun h26 => 
 bindI t22 fun j => 
 f_token_Server_Do t 1000000 1 (6, 1, 1, 5, ByteArray.mk #[], 0, ()) (fun t27 t28 h29 =>
 newC h29 [Value.int .i64 0, Value.int .u8 0, Value.int .i64 0, Value.int .i64 0, Value.int .i64 0] 36 fun b30 h31 => 
 sts h31 b30 0 [Value.int .i64 t27.1, Value.int .u8 t27.2.1, Value.int .i64 t27.2.2.1, Value.int .i64 t27.2.2.2.1, Value.int .i64 t27.2.2.2.2.1] fun h32 => 
 bindI t28 fun k => 
 iteP (f == 0) (
 iteP (g == 0) (
 iteP (h14 == 0) (
 ldI h32 b11 (0 + 1) .u8 fun t33 => 
 iteP (t33 == 1) (
 ldI h32 b11 0 .i64 fun t34 => 
 iteP (t34 == 3) (
 iteP (i == 0) (
 ldI h32 b18 (0 + 1) .u8 fun t35 => 
 iteP (t35 == 7) (
 iteP (j == 0) (
 ldI h32 b24 0 .i64 fun t36 => ldI h32 b24 (0 + 1) .u8 fun t37 => ldI h32 b24 (0 + 2) .i64 fun t38 => ldI h32 b24 (0 + 3) .i64 fun t39 => ldI h32 b24 (0 + 4) .i64 fun t40 => 
 iteP (bif t36 == 5 then (bif t37 == 1 then (bif t38 == 4 then (bif t39 == 0 then (bif t40 == 0 then true else false) else false) else false) else false) else false) (
 iteP (k == 0) (
 ldI h32 b30 0 .i64 fun t41 => ldI h32 b30 (0 + 1) .u8 fun t42 => ldI h32 b30 (0 + 2) .i64 fun t43 => ldI h32 b30 (0 + 3) .i64 fun t44 => ldI h32 b30 (0 + 4) .i64 fun t45 => 
 bindB (bif t41 == 6 then (bif t42 == 2 then (bif t43 == 4 then (bif t44 == 0 then (bif t45 == 0 then true else false) else false) else false) else false) else false) fun t46 => 
 K t46 h32) (
 K false h32)) (
 K false h32)) (
 K false h32)) (
 K false h32)) (
 K false h32)) (
 K false h32)) (
 K false h32)) (
 K false h32)) (
 K false h32)) (
 K false h32)) h26) h20) h13) h7) h5) h3))) h

def m_spillwaylaw20_live (K : Bool → Heap → Prop) (h : Heap) : Prop := g_spillwaylaw20_live m_token_New m_token_Server_Load m_token_Server_Open m_token_Server_Do  K h

/-- spillwaylaw20.kinds -/
def g_spillwaylaw20_kinds (l : Sl) (K : Bool → Heap → Prop) (h : Heap) : Prop :=
 bindI 0 fun i => 
 loopM (σ := Int × Unit) (fun J2 s h3 =>
 (fun (i1 : Int) =>
 iteP (decide (i1 < (l.len : Int))) (
 idxA l.ptr l.len i1 4 fun b o => 
 ldI h3 b (o + 2) .i64 fun t => 
 iteP (decide (t < 0)) (
 K false h3) (
 idxA l.ptr l.len i1 4 fun b4 o5 => 
 ldI h3 b4 (o5 + 2) .i64 fun t6 => 
 iteP (decide (t6 > 255)) (
 K false h3) (
 bindI (IntKind.wrap .i64 (i1 + 1)) fun i7 => 
 J2 (i7, ()) h3))) (
 K true h3)) s.1) (i, ()) h

def m_spillwaylaw20_kinds (l : Sl) (K : Bool → Heap → Prop) (h : Heap) : Prop := g_spillwaylaw20_kinds l K h

/-- spillwaylaw20.flows -/
def g_spillwaylaw20_flows (l : Sl) (K : Sl → Heap → Prop) (h : Heap) : Prop :=
 bindI 0 fun i => 
 loopM (σ := Sl × Int × Unit) (fun J2 s h3 =>
 (fun (out : Sl) (i1 : Int) =>
 iteP (decide (i1 < (l.len : Int))) (
 idxA l.ptr l.len i1 4 fun b o => 
 idxA l.ptr l.len i1 4 fun b4 o5 => 
 idxA l.ptr l.len i1 4 fun b6 o7 => 
 idxA l.ptr l.len i1 4 fun b8 o9 => 
 ldI h3 b o .i64 fun t => 
 ldI h3 b4 (o5 + 1) .i64 fun t10 => 
 ldI h3 b6 (o7 + 2) .i64 fun t11 => 
 ldI h3 b8 (o9 + 3) .i64 fun t12 => 
 newC h3 [Value.int .i64 t, Value.int .i64 t10, Value.int .i64 t11, Value.int .i64 t12] 53 fun b13 h14 => 
 need (heldL h14 [(b8, o9 + 3, Value.int .i64 t12)]) <|
 need (heldL h14 [(b6, o7 + 2, Value.int .i64 t11)]) <|
 need (heldL h14 [(b4, o5 + 1, Value.int .i64 t10)]) <|
 need (heldL h14 [(b, o, Value.int .i64 t)]) <|
 rdS ⟨some ⟨b13, 0, none⟩, 1, 1⟩ 4 h14 fun new => app 53 4 32 [Value.int .i64 0, Value.int .i64 0, Value.int .i64 0, Value.int .i64 0] out 1 new h14 fun t15 h16 => 
 need (heldL h16 [(b8, o9 + 3, Value.int .i64 t12)]) <|
 need (heldL h16 [(b6, o7 + 2, Value.int .i64 t11)]) <|
 need (heldL h16 [(b4, o5 + 1, Value.int .i64 t10)]) <|
 need (heldL h16 [(b, o, Value.int .i64 t)]) <|
 bindI (IntKind.wrap .i64 (i1 + 1)) fun i17 => 
 J2 (t15, i17, ()) h16) (
 K out h3)) s.1 s.2.1) (⟨none, 0, 0⟩, i, ()) h

def m_spillwaylaw20_flows (l : Sl) (K : Sl → Heap → Prop) (h : Heap) : Prop := g_spillwaylaw20_flows l K h

/-- (*token.Server).Last -/
def g_token_Server_Last (s : Option Addr) (K : Int → Heap → Prop) (h : Heap) : Prop :=
 bindI 0 fun t => 
 iteP s.isNone (
 bindI 0 fun t1 => 
 K t1 h) (
 derefP s fun b o => 
 ldI h b (o + 1) .i64 fun t2 => 
 bindI t2 fun t3 => 
 K t3 h)

def m_token_Server_Last (s : Option Addr) (K : Int → Heap → Prop) (h : Heap) : Prop := g_token_Server_Last s K h

/-- spillwaylaw20.TokenApart -/
def g_spillwaylaw20_TokenApart (f_spillwaylaw20_live : (Bool → Heap → Prop) → Heap → Prop) (f_token_New : Int → ((Option Addr) → Int → Heap → Prop) → Heap → Prop) (f_spillwaylaw20_kinds : Sl → (Bool → Heap → Prop) → Heap → Prop) (f_spillwaylaw20_flows : Sl → (Sl → Heap → Prop) → Heap → Prop) (f_token_Server_Load : (Option Addr) → ByteArray → Sl → (Int → Heap → Prop) → Heap → Prop) (f_token_Server_Open : (Option Addr) → Int → (Int → Heap → Prop) → Heap → Prop) (f_token_Server_Do : (Option Addr) → Int → Int → (Int × Int × Int × Int × ByteArray × Int × Unit) → ((Int × Int × Int × Int × Int × Unit) → Int → Heap → Prop) → Heap → Prop) (f_token_Server_Last : (Option Addr) → (Int → Heap → Prop) → Heap → Prop) (a : Sl) (b : Sl) (l : Sl) (K : Bool → Heap → Prop) (h : Heap) : Prop :=
 f_spillwaylaw20_live (fun t h1 =>
 iteP (!t) (
 K false h1) (
 f_token_New 0 (fun t2 t3 h4 =>
 bindI t3 fun x => 
 f_token_New 0 (fun t5 t6 h7 =>
 bindI t6 fun x8 => 
 f_spillwaylaw20_kinds a (fun t9 h10 =>
 iteP (!t9) (
 K true h10) (
 f_spillwaylaw20_kinds b (fun t11 h12 =>
 iteP (!t11) (
 K true h12) (
 f_spillwaylaw20_flows a (fun t13 h14 =>
 f_token_Server_Load t2 (ByteArray.mk #[97]) t13 (fun t15 h16 =>
 iteP (t15 != 0) (
 K true h16) (
 f_spillwaylaw20_flows b (fun t17 h18 =>
 f_token_Server_Load t2 (ByteArray.mk #[98]) t17 (fun t19 h20 =>
 iteP (t19 != 0) (
 K true h20) (
 f_spillwaylaw20_flows a (fun t21 h22 =>
 f_token_Server_Load t5 (ByteArray.mk #[97]) t21 (fun t23 h24 =>
 f_spillwaylaw20_flows b (fun t25 h26 =>
 f_token_Server_Load t5 (ByteArray.mk #[98]) t25 (fun t27 h28 =>
 bindI 1 fun i => 
 loopM (σ := Int × Unit) (fun J30 s h31 =>
 (fun (i29 : Int) =>
 iteP (decide (i29 ≤ 2)) (
 cutP (σ := ByteArray × Unit) (fun s33 h34 =>
 (fun (space : ByteArray) =>
 f_token_Server_Open t2 i29 (fun t35 h36 =>
 f_token_Server_Open t5 i29 (fun t37 h38 =>
 f_token_Server_Do t2 0 i29 (0, 5, 0, 0, space, 0, ()) (fun t39 t40 h41 =>
 f_token_Server_Do t5 0 i29 (0, 5, 0, 0, space, 0, ()) (fun t42 t43 h44 =>
 bindI (IntKind.wrap .i64 (i29 + 1)) fun i45 => 
 J30 (i45, ()) h44) h41) h38) h36) h34) s33.1) (fun J32 =>
 iteP (i29 == 2) (
 J32 (ByteArray.mk #[98], ()) h31) (
 J32 (ByteArray.mk #[97], ()) h31))) (
 bindI 0 fun out => 
 bindI 0 fun i46 => 
 loopM (σ := Int × Int × Unit) (fun J49 s50 h51 =>
 (fun (out47 : Int) (i48 : Int) =>
 iteP (decide (i48 < (l.len : Int))) (
 idxA l.ptr l.len i48 11 fun b52 o => 
 ldI h51 b52 o .i64 fun t53 => ldI h51 b52 (o + 1) .i64 fun t54 => ldI h51 b52 (o + 2) .i64 fun t55 => ldI h51 b52 (o + 3) .i64 fun t56 => ldI h51 b52 (o + 4) .u8 fun t57 => ldI h51 b52 (o + 5) .i64 fun t58 => ldI h51 b52 (o + 6) .i64 fun t59 => ldS h51 b52 (o + 7) fun t60 => ldI h51 b52 (o + 8) .i64 fun t61 => ldS h51 b52 (o + 9) fun t62 => ldL h51 b52 (o + 10) fun t63 => 
 newC h51 [Value.int .i64 0, Value.int .i64 0, Value.int .i64 0, Value.int .i64 0, Value.int .u8 0, Value.int .i64 0, Value.int .i64 0, Value.string (ByteArray.mk #[]), Value.int .i64 0, Value.string (ByteArray.mk #[]), Value.slice none 0 0] 43 fun b64 h65 => 
 sts h65 b64 0 [Value.int .i64 t53, Value.int .i64 t54, Value.int .i64 t55, Value.int .i64 t56, Value.int .u8 t57, Value.int .i64 t58, Value.int .i64 t59, Value.string t60, Value.int .i64 t61, Value.string t62, Value.slice t63.ptr t63.len t63.cap] fun h66 => 
 ldI h66 b64 0 .i64 fun t67 => 
 iteP (t67 != 0) (
 bindI (IntKind.wrap .i64 (i48 + 1)) fun i68 => 
 J49 (out47, i68, ()) h66) (
 ldI h66 b64 (0 + 3 + 1) .u8 fun t69 => 
 iteP (t69 == 5) (
 bindI (IntKind.wrap .i64 (i48 + 1)) fun i70 => 
 J49 (out47, i70, ()) h66) (
 ldI h66 b64 (0 + 3 + 1) .u8 fun t71 => 
 iteP (t71 == 4) (
 bindI (IntKind.wrap .i64 (i48 + 1)) fun i72 => 
 J49 (out47, i72, ()) h66) (
 ldI h66 b64 (0 + 1) .i64 fun t73 => 
 qcall (ρ := Int × Unit) (fun K h => f_token_Server_Last t2 (fun q h => K (q, ()) h) h) h66 fun r => 
 iteP (decide (t73 < r.1)) (
 bindI (IntKind.wrap .i64 (i48 + 1)) fun i75 => 
 J49 (out47, i75, ()) h66) (
 ldI h66 b64 (0 + 2) .i64 fun t76 => 
 iteP (t76 == 2) (
 ldI h66 b64 (0 + 1) .i64 fun t77 => 
 ldI h66 b64 (0 + 3) .i64 fun t78 => ldI h66 b64 (0 + 3 + 1) .u8 fun t79 => ldI h66 b64 (0 + 3 + 2) .i64 fun t80 => ldI h66 b64 (0 + 3 + 3) .i64 fun t81 => ldS h66 b64 (0 + 3 + 4) fun t82 => ldI h66 b64 (0 + 3 + 5) .i64 fun t83 => 
 f_token_Server_Do t2 t77 2 (t78, t79, t80, t81, t82, t83, ()) (fun t84 t85 h86 =>
 newC h86 [Value.int .i64 0, Value.int .u8 0, Value.int .i64 0, Value.int .i64 0, Value.int .i64 0] 36 fun b87 h88 => 
 sts h88 b87 0 [Value.int .i64 t84.1, Value.int .u8 t84.2.1, Value.int .i64 t84.2.2.1, Value.int .i64 t84.2.2.2.1, Value.int .i64 t84.2.2.2.2.1] fun h89 => 
 bindI t85 fun x90 => 
 ldI h89 b87 (0 + 4) .i64 fun t91 => 
 iteP (decide (t91 > 0)) (
 bindI (IntKind.wrap .i64 (out47 + 1)) fun out92 => 
 iteP (decide (out92 ≥ 1024)) (
 K true h89) (
 bindI (IntKind.wrap .i64 (i48 + 1)) fun i93 => 
 J49 (out92, i93, ()) h89)) (
 iteP (decide (out47 ≥ 1024)) (
 K true h89) (
 bindI (IntKind.wrap .i64 (i48 + 1)) fun i94 => 
 J49 (out47, i94, ()) h89))) h66) (
 ldI h66 b64 (0 + 1) .i64 fun t95 => 
 ldI h66 b64 (0 + 3) .i64 fun t96 => ldI h66 b64 (0 + 3 + 1) .u8 fun t97 => ldI h66 b64 (0 + 3 + 2) .i64 fun t98 => ldI h66 b64 (0 + 3 + 3) .i64 fun t99 => ldS h66 b64 (0 + 3 + 4) fun t100 => ldI h66 b64 (0 + 3 + 5) .i64 fun t101 => 
 f_token_Server_Do t2 t95 1 (t96, t97, t98, t99, t100, t101, ()) (fun t102 t103 h104 =>
 newC h104 [Value.int .i64 0, Value.int .u8 0, Value.int .i64 0, Value.int .i64 0, Value.int .i64 0] 36 fun b105 h106 => 
 sts h106 b105 0 [Value.int .i64 t102.1, Value.int .u8 t102.2.1, Value.int .i64 t102.2.2.1, Value.int .i64 t102.2.2.2.1, Value.int .i64 t102.2.2.2.2.1] fun h107 => 
 bindI t103 fun e => 
 ldI h107 b64 (0 + 1) .i64 fun t108 => 
 ldI h107 b64 (0 + 3) .i64 fun t109 => ldI h107 b64 (0 + 3 + 1) .u8 fun t110 => ldI h107 b64 (0 + 3 + 2) .i64 fun t111 => ldI h107 b64 (0 + 3 + 3) .i64 fun t112 => ldS h107 b64 (0 + 3 + 4) fun t113 => ldI h107 b64 (0 + 3 + 5) .i64 fun t114 => 
 f_token_Server_Do t5 t108 1 (t109, t110, t111, t112, t113, t114, ()) (fun t115 t116 h117 =>
 newC h117 [Value.int .i64 0, Value.int .u8 0, Value.int .i64 0, Value.int .i64 0, Value.int .i64 0] 36 fun b118 h119 => 
 sts h119 b118 0 [Value.int .i64 t115.1, Value.int .u8 t115.2.1, Value.int .i64 t115.2.2.1, Value.int .i64 t115.2.2.2.1, Value.int .i64 t115.2.2.2.2.1] fun h120 => 
 bindI t116 fun f => 
 cutP (σ := Int × Unit) (fun s125 h126 =>
 (fun (out124 : Int) =>
 st h126 b105 (0 + 4) (Value.int .i64 0) fun h127 => 
 st h127 b118 (0 + 4) (Value.int .i64 0) fun h128 => 
 ldI h128 b105 0 .i64 fun t129 => ldI h128 b105 (0 + 1) .u8 fun t130 => ldI h128 b105 (0 + 2) .i64 fun t131 => ldI h128 b105 (0 + 3) .i64 fun t132 => ldI h128 b105 (0 + 4) .i64 fun t133 => 
 ldI h128 b118 0 .i64 fun t134 => ldI h128 b118 (0 + 1) .u8 fun t135 => ldI h128 b118 (0 + 2) .i64 fun t136 => ldI h128 b118 (0 + 3) .i64 fun t137 => ldI h128 b118 (0 + 4) .i64 fun t138 => 
 iteP (!(bif t129 == t134 then (bif t130 == t135 then (bif t131 == t136 then (bif t132 == t137 then (bif t133 == t138 then true else false) else false) else false) else false) else false)) (
 K false h128) (
 iteP (e != f) (
 K false h128) (
 iteP (decide (out124 ≥ 1024)) (
 K true h128) (
 bindI (IntKind.wrap .i64 (i48 + 1)) fun i139 => 
 J49 (out124, i139, ()) h128)))) s125.1) (fun J121 =>
 ldI h120 b105 (0 + 4) .i64 fun t122 => 
 iteP (decide (t122 > 0)) (
 bindI (IntKind.wrap .i64 (out47 + 1)) fun out123 => 
 J121 (out123, ()) h120) (
 J121 (out47, ()) h120))) h107) h66)))))) (
 K true h51)) s50.1 s50.2.1) (out, i46, ()) h31)) s.1) (i, ()) h28) h26) h24) h22) h20)) h18) h16)) h14) h12)) h10)) h7) h4) h1)) h

def m_spillwaylaw20_TokenApart (a : Sl) (b : Sl) (l : Sl) (K : Bool → Heap → Prop) (h : Heap) : Prop := g_spillwaylaw20_TokenApart m_spillwaylaw20_live m_token_New m_spillwaylaw20_kinds m_spillwaylaw20_flows m_token_Server_Load m_token_Server_Open m_token_Server_Do m_token_Server_Last a b l K h

/-- (*token.Server).Close -/
def g_token_Server_Close (s : Option Addr) (conn : Int) (K : Int → Heap → Prop) (h : Heap) : Prop :=
 bindI 0 fun t => 
 iteP s.isNone (
 bindI 1 fun t1 => 
 K t1 h) (
 derefP s fun b o => 
 ldM h b (o + 4) fun t2 => 
 mapGet (.int .i64) h t2 (Value.int .i64 conn) fun r => asS (r.getD (Value.string (ByteArray.mk #[]))) fun t3 => 
 bindB r.isSome fun there => 
 iteP (!there) (
 bindI 4 fun t4 => 
 K t4 h) (
 derefP s fun b5 o6 => 
 ldM h b5 (o6 + 4) fun t7 => 
 mapDel (.int .i64) h t7 (Value.int .i64 conn) fun h8 => 
 bindI 0 fun t9 => 
 K t9 h8))

def m_token_Server_Close (s : Option Addr) (conn : Int) (K : Int → Heap → Prop) (h : Heap) : Prop := g_token_Server_Close s conn K h

/-- (*token.Server).Restart -/
def g_token_Server_Restart (f_token_Server_look : (Option Addr) → Int → (Int → Heap → Prop) → Heap → Prop) (f_token_fresh : (Int × Int × Int × Int × Unit) → (Value → Heap → Prop) → Heap → Prop) (s : Option Addr) (at_ : Int) (K : Int → Heap → Prop) (h : Heap) : Prop :=
 bindI 0 fun t => 
 f_token_Server_look s at_ (fun t1 h2 =>
 bindI t1 fun e => 
 iteP (e != 0) (
 bindI e fun t3 => 
 K t3 h2) (
 derefP s fun b o => 
 st h2 b o (Value.int .i64 at_) fun h4 => 
 derefP s fun b5 o6 => 
 st h4 b5 (o6 + 1) (Value.int .i64 at_) fun h7 => 
 derefP s fun b8 o9 => 
 ldM h7 b8 (o9 + 4) fun t10 => 
 clrM h7 t10 fun h11 => 
 derefP s fun b12 o13 => 
 st h11 b12 (o13 + 5) (Value.slice none 0 0) fun h14 => 
 derefP s fun b15 o16 => 
 ldL h14 b15 (o16 + 2) fun t17 => 
 loopM (σ := Int × Unit) (fun J18 s19 h20 =>
 (fun (s38 : Int) =>
 iteP (decide (s38 < (t17.len : Int))) (
 idxA t17.ptr t17.len s38 2 fun b21 o22 => 
 ldS h20 b21 o22 fun t23 => ldL h20 b21 (o22 + 1) fun t24 => 
 newC h20 [Value.string (ByteArray.mk #[]), Value.slice none 0 0] 69 fun b25 h26 => 
 sts h26 b25 0 [Value.string t23, Value.slice t24.ptr t24.len t24.cap] fun h27 => 
 ldL h27 b25 (0 + 1) fun t28 => 
 loopM (σ := Int × Unit) (fun J29 s30 h31 =>
 (fun (s45 : Int) =>
 iteP (decide (s45 < (t28.len : Int))) (
 idxA t28.ptr t28.len s45 4 fun b32 o33 => 
 ldI h31 b32 o33 .i64 fun t34 => ldI h31 b32 (o33 + 1) .i64 fun t35 => ldI h31 b32 (o33 + 2) .i64 fun t36 => ldI h31 b32 (o33 + 3) .i64 fun t37 => 
 newC h31 [Value.int .i64 0, Value.int .i64 0, Value.int .i64 0, Value.int .i64 0] 53 fun b38 h39 => 
 sts h39 b38 0 [Value.int .i64 t34, Value.int .i64 t35, Value.int .i64 t36, Value.int .i64 t37] fun h40 => 
 derefP s fun b41 o42 => 
 ldM h40 b41 (o42 + 3) fun t43 => 
 ldI h40 b38 0 .i64 fun t44 => 
 ldI h40 b38 0 .i64 fun t45 => ldI h40 b38 (0 + 1) .i64 fun t46 => ldI h40 b38 (0 + 2) .i64 fun t47 => ldI h40 b38 (0 + 3) .i64 fun t48 => 
 ldI h40 b38 (0 + 2) .i64 fun t49 => 
 f_token_fresh (t45, t46, t47, t48, ()) (fun t50 h51 =>
 need (heldL h51 [(b38, 0 + 2, Value.int .i64 t49)]) <|
 need (heldL h51 [(b38, 0, Value.int .i64 t44)]) <|
 need (heldL h51 [(b41, o42 + 3, Value.map t43)]) <|
 need (oneCell t50 = true) <| 
 mapPut (.int .i64) h51 t43 (Value.int .i64 t44) (Value.agg #[t50, Value.int .i64 t49]) fun h52 => 
 J29 (IntKind.wrap .i64 (s45 + 1), ()) h52) h40) (
 J18 (IntKind.wrap .i64 (s38 + 1), ()) h31)) s30.1) (0, ()) h27) (
 derefP s fun b53 o54 => 
 ldM h20 b53 (o54 + 3) fun t55 => 
 rgM h20 t55 fun it h56 => 
 loopM (σ := Unit) (fun J57 s58 h59 =>
 cutP (σ := Bool × Unit) (fun s62 h63 =>
 (fun (s68 : Bool) =>
 iteP s68 (
 entM h63 it fun k v => asI k .i64 fun t64 => exG v (fun t65 : Value × Int × Unit => Value.agg #[t65.1, Value.int .i64 t65.2.1]) fun t65 => 
 newC h63 [Value.nilIface, Value.int .i64 0] 74 fun b66 h67 => 
 bindI t64 fun id => 
 sts h67 b66 0 [t65.1, Value.int .i64 t65.2.1] fun h68 => 
 derefP s fun b69 o70 => 
 ldM h68 b69 (o70 + 3) fun t71 => 
 ldI h68 b66 (0 + 1) .i64 fun t72 => 
 ldI h68 b66 (0 + 1) .i64 fun t73 => 
 f_token_fresh (id, 0, t72, 0, ()) (fun t74 h75 =>
 need (heldL h75 [(b66, 0 + 1, Value.int .i64 t73)]) <|
 need (heldL h75 [(b66, 0 + 1, Value.int .i64 t72)]) <|
 need (heldL h75 [(b69, o70 + 3, Value.map t71)]) <|
 need (oneCell t74 = true) <| 
 mapPut (.int .i64) h75 t71 (Value.int .i64 id) (Value.agg #[t74, Value.int .i64 t73]) fun h76 => 
 J57 (()) h76) h68) (
 bindI 0 fun t77 => 
 K t77 h63)) s62.1) (fun J60 =>
 nextM h59 it (fun _ _ h61 =>
 J60 (true, ()) h61) (
 J60 (false, ()) h59))) (()) h56)) s19.1) (0, ()) h14)) h

def m_token_Server_Restart (s : Option Addr) (at_ : Int) (K : Int → Heap → Prop) (h : Heap) : Prop := g_token_Server_Restart m_token_Server_look m_token_fresh s at_ K h

/-- spillwaylaw20.count -/
def g_spillwaylaw20_count (l : Sl) (id : Int) (K : Int → Heap → Prop) (h : Heap) : Prop :=
 bindI 0 fun t => 
 bindI 0 fun i => 
 loopM (σ := Int × Unit) (fun J2 s h3 =>
 (fun (i1 : Int) =>
 iteP (decide (i1 < (l.len : Int))) (
 idxA l.ptr l.len i1 4 fun b o => 
 ldI h3 b o .i64 fun t4 => 
 iteP (t4 == id) (
 idxA l.ptr l.len i1 4 fun b5 o6 => 
 ldI h3 b5 (o6 + 1) .i64 fun t7 => 
 bindI t7 fun t8 => 
 K t8 h3) (
 bindI (IntKind.wrap .i64 (i1 + 1)) fun i9 => 
 J2 (i9, ()) h3)) (
 bindI (-1) fun t10 => 
 K t10 h3)) s.1) (i, ()) h

def m_spillwaylaw20_count (l : Sl) (id : Int) (K : Int → Heap → Prop) (h : Heap) : Prop := g_spillwaylaw20_count l id K h

/-- spillwaylaw20.TokenNever -/
def g_spillwaylaw20_TokenNever (f_spillwaylaw20_live : (Bool → Heap → Prop) → Heap → Prop) (f_token_New : Int → ((Option Addr) → Int → Heap → Prop) → Heap → Prop) (f_spillwaylaw20_kinds : Sl → (Bool → Heap → Prop) → Heap → Prop) (f_spillwaylaw20_flows : Sl → (Sl → Heap → Prop) → Heap → Prop) (f_token_Server_Load : (Option Addr) → ByteArray → Sl → (Int → Heap → Prop) → Heap → Prop) (f_token_Server_Open : (Option Addr) → Int → (Int → Heap → Prop) → Heap → Prop) (f_token_Server_Last : (Option Addr) → (Int → Heap → Prop) → Heap → Prop) (f_token_Server_Do : (Option Addr) → Int → Int → (Int × Int × Int × Int × ByteArray × Int × Unit) → ((Int × Int × Int × Int × Int × Unit) → Int → Heap → Prop) → Heap → Prop) (f_token_Server_Close : (Option Addr) → Int → (Int → Heap → Prop) → Heap → Prop) (f_token_Server_Restart : (Option Addr) → Int → (Int → Heap → Prop) → Heap → Prop) (f_spillwaylaw20_count : Sl → Int → (Int → Heap → Prop) → Heap → Prop) (at_ : Int) (all : Sl) (l : Sl) (K : Bool → Heap → Prop) (h : Heap) : Prop :=
 f_spillwaylaw20_live (fun t h1 =>
 iteP (!t) (
 K false h1) (
 f_token_New at_ (fun t2 t3 h4 =>
 bindI t3 fun e => 
 iteP (e != 0) (
 iteP (e == 0) (
 K true h4) (
 bindB t2.isNone fun t5 => 
 K t5 h4)) (
 f_spillwaylaw20_kinds all (fun t6 h7 =>
 iteP (!t6) (
 iteP (e == 0) (
 K true h7) (
 bindB t2.isNone fun t8 => 
 K t8 h7)) (
 f_spillwaylaw20_flows all (fun t9 h10 =>
 f_token_Server_Load t2 (ByteArray.mk #[97]) t9 (fun t11 h12 =>
 iteP (t11 != 0) (
 iteP (e == 0) (
 K true h12) (
 bindB t2.isNone fun t13 => 
 K t13 h12)) (
 bindI 0 fun i => 
 loopM (σ := Sl × Int × Unit) (fun J15 s h16 =>
 (fun (got : Sl) (i14 : Int) =>
 iteP (decide (i14 < (l.len : Int))) (
 idxA l.ptr l.len i14 11 fun b o => 
 ldI h16 b o .i64 fun t17 => ldI h16 b (o + 1) .i64 fun t18 => ldI h16 b (o + 2) .i64 fun t19 => ldI h16 b (o + 3) .i64 fun t20 => ldI h16 b (o + 4) .u8 fun t21 => ldI h16 b (o + 5) .i64 fun t22 => ldI h16 b (o + 6) .i64 fun t23 => ldS h16 b (o + 7) fun t24 => ldI h16 b (o + 8) .i64 fun t25 => ldS h16 b (o + 9) fun t26 => ldL h16 b (o + 10) fun t27 => 
 newC h16 [Value.int .i64 0, Value.int .i64 0, Value.int .i64 0, Value.int .i64 0, Value.int .u8 0, Value.int .i64 0, Value.int .i64 0, Value.string (ByteArray.mk #[]), Value.int .i64 0, Value.string (ByteArray.mk #[]), Value.slice none 0 0] 43 fun b28 h29 => 
 sts h29 b28 0 [Value.int .i64 t17, Value.int .i64 t18, Value.int .i64 t19, Value.int .i64 t20, Value.int .u8 t21, Value.int .i64 t22, Value.int .i64 t23, Value.string t24, Value.int .i64 t25, Value.string t26, Value.slice t27.ptr t27.len t27.cap] fun h30 => 
 ldI h30 b28 0 .i64 fun t31 => 
 bindB (t31 == 1) fun t32 => 
 iteP t32 (
 ldI h30 b28 (0 + 2) .i64 fun t33 => 
 f_token_Server_Open t2 t33 (fun t34 h35 =>
 ldI h35 b28 (0 + 2) .i64 fun t36 => 
 f_token_Server_Last t2 (fun t37 h38 =>
 need (heldL h38 [(b28, 0 + 2, Value.int .i64 t36)]) <|
 f_token_Server_Do t2 t37 t36 (0, 5, 0, 0, ByteArray.mk #[97], 0, ()) (fun t39 t40 h41 =>
 bindI (IntKind.wrap .i64 (i14 + 1)) fun i42 => 
 J15 (got, i42, ()) h41) h38) h35) h30) (
 bindB (t31 == 2) fun t43 => 
 iteP t43 (
 ldI h30 b28 (0 + 2) .i64 fun t44 => 
 f_token_Server_Close t2 t44 (fun t45 h46 =>
 bindI (IntKind.wrap .i64 (i14 + 1)) fun i47 => 
 J15 (got, i47, ()) h46) h30) (
 bindB (t31 == 4) fun t48 => 
 iteP t48 (
 ldI h30 b28 (0 + 1) .i64 fun t49 => 
 f_token_Server_Restart t2 t49 (fun t50 h51 =>
 bindI (IntKind.wrap .i64 (i14 + 1)) fun i52 => 
 J15 (got, i52, ()) h51) h30) (
 bindB (t31 == 0) fun t53 => 
 iteP t53 (
 ldI h30 b28 (0 + 1) .i64 fun t54 => 
 ldI h30 b28 (0 + 2) .i64 fun t55 => 
 ldI h30 b28 (0 + 3) .i64 fun t56 => ldI h30 b28 (0 + 3 + 1) .u8 fun t57 => ldI h30 b28 (0 + 3 + 2) .i64 fun t58 => ldI h30 b28 (0 + 3 + 3) .i64 fun t59 => ldS h30 b28 (0 + 3 + 4) fun t60 => ldI h30 b28 (0 + 3 + 5) .i64 fun t61 => 
 f_token_Server_Do t2 t54 t55 (t56, t57, t58, t59, t60, t61, ()) (fun t62 t63 h64 =>
 newC h64 [Value.int .i64 0, Value.int .u8 0, Value.int .i64 0, Value.int .i64 0, Value.int .i64 0] 36 fun b65 h66 => 
 sts h66 b65 0 [Value.int .i64 t62.1, Value.int .u8 t62.2.1, Value.int .i64 t62.2.2.1, Value.int .i64 t62.2.2.2.1, Value.int .i64 t62.2.2.2.2.1] fun h67 => 
 bindI t63 fun f => 
 cutP (σ := Unit) (fun s75 h76 =>
 ldI h76 b28 (0 + 1) .i64 fun t77 => 
 ldI h76 b28 (0 + 3 + 2) .i64 fun t78 => 
 ldI h76 b28 (0 + 3 + 3) .i64 fun t79 => 
 ldS h76 b28 (0 + 3 + 4) fun t80 => 
 newC h76 [Value.int .i64 t77, Value.int .i64 t78, Value.int .i64 t79, Value.string t80] 48 fun b81 h82 => 
 rdS ⟨some ⟨b81, 0, none⟩, 1, 1⟩ 4 h82 fun new => app 48 4 40 [Value.int .i64 0, Value.int .i64 0, Value.int .i64 0, Value.string (ByteArray.mk #[])] got 1 new h82 fun t83 h84 => 
 bindI 0 fun sum => 
 bindI 0 fun k => 
 loopM (σ := Int × Int × Unit) (fun J87 s88 h89 =>
 (fun (sum85 : Int) (k86 : Int) =>
 iteP (decide (k86 < (t83.len : Int))) (
 idxA t83.ptr t83.len k86 4 fun b90 o91 => 
 ldI h89 b90 (o91 + 1) .i64 fun t92 => 
 ldI h89 b28 (0 + 3 + 2) .i64 fun t93 => 
 iteP (t92 == t93) (
 idxA t83.ptr t83.len k86 4 fun b94 o95 => 
 ldS h89 b94 (o95 + 3) fun t96 => 
 ldS h89 b28 (0 + 3 + 4) fun t97 => 
 iteP (strEq t96 t97) (
 idxA t83.ptr t83.len k86 4 fun b98 o99 => 
 ldI h89 b98 o99 .i64 fun t100 => 
 ldI h89 b28 (0 + 1) .i64 fun t101 => 
 iteP (decide (t100 > (IntKind.wrap .i64 (t101 - 900000)))) (
 idxA t83.ptr t83.len k86 4 fun b102 o103 => 
 ldI h89 b102 (o103 + 2) .i64 fun t104 => 
 bindI (IntKind.wrap .i64 (sum85 + t104)) fun sum105 => 
 bindI (IntKind.wrap .i64 (k86 + 1)) fun k106 => 
 J87 (sum105, k106, ()) h89) (
 bindI (IntKind.wrap .i64 (k86 + 1)) fun k107 => 
 J87 (sum85, k107, ()) h89)) (
 bindI (IntKind.wrap .i64 (k86 + 1)) fun k108 => 
 J87 (sum85, k108, ()) h89)) (
 bindI (IntKind.wrap .i64 (k86 + 1)) fun k109 => 
 J87 (sum85, k109, ()) h89)) (
 ldI h89 b28 (0 + 3 + 2) .i64 fun t110 => 
 f_spillwaylaw20_count all t110 (fun t111 h112 =>
 iteP (decide (sum85 > t111)) (
 K false h112) (
 bindI (IntKind.wrap .i64 (i14 + 1)) fun i113 => 
 J15 (t83, i113, ()) h112)) h89)) s88.1 s88.2.1) (sum, k, ()) h84) (fun J68 =>
 iteP (f != 0) (
 bindI (IntKind.wrap .i64 (i14 + 1)) fun i69 => 
 J15 (got, i69, ()) h67) (
 ldI h67 b65 (0 + 1) .u8 fun t70 => 
 iteP (t70 != 1) (
 bindI (IntKind.wrap .i64 (i14 + 1)) fun i71 => 
 J15 (got, i71, ()) h67) (
 ldI h67 b28 (0 + 3 + 1) .u8 fun t72 => 
 iteP (t72 != 1) (
 ldI h67 b28 (0 + 3 + 1) .u8 fun t73 => 
 iteP (t73 != 2) (
 bindI (IntKind.wrap .i64 (i14 + 1)) fun i74 => 
 J15 (got, i74, ()) h67) (
 J68 (()) h67)) (
 J68 (()) h67))))) h30) (
 bindI (IntKind.wrap .i64 (i14 + 1)) fun i114 => 
 J15 (got, i114, ()) h30))))) (
 K true h16)) s.1 s.2.1) (⟨none, 0, 0⟩, i, ()) h12)) h10) h7)) h4)) h1)) h

def m_spillwaylaw20_TokenNever (at_ : Int) (all : Sl) (l : Sl) (K : Bool → Heap → Prop) (h : Heap) : Prop := g_spillwaylaw20_TokenNever m_spillwaylaw20_live m_token_New m_spillwaylaw20_kinds m_spillwaylaw20_flows m_token_Server_Load m_token_Server_Open m_token_Server_Last m_token_Server_Do m_token_Server_Close m_token_Server_Restart m_spillwaylaw20_count at_ all l K h

end Go.Proofs.Ytledmkhbaacdnaa
