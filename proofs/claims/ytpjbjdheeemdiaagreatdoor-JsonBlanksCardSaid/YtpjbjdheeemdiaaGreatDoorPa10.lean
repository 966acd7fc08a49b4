/- The plain laws: where a text is wrong (places), and blanks around it. No program. -/
import Derived.Lib.RuneCount
import Derived.Laws.Strings
import Derived.Test.YtpjbjdheeemdiaaGreatDoorPa9
set_option linter.unusedVariables false
set_option linter.unusedSimpArgs false
namespace Go.Js
open Go
def Nz {α:Type} (p:BL→Out α):Prop:=∀ l e r,p l = .err e r→20≤e∧e≤24
section
variable {α β:Type}
theorem Nz.bind {p:BL→Out α} {f:α→BL→Out β} (hp:Nz p) (hf:∀ a,Nz (f a)):Nz fun l=>(p l).bind f:=fun l e r h=>by
  dsimp only at h
  cases h1:p l with
  | ok a l1=>rw [h1] at h;exact hf a _ _ _ h
  | err k q=>rw [h1] at h;cases h;exact hp _ _ _ h1
theorem Nz.hd {e0:Out α} {f:UInt8→BL→Out α} (h0:fin e0) (hf:∀ c,Nz (f c)):Nz (hdP e0 f):=fun l e r h=>by
  rcases l with _ | ⟨c,l⟩
  ·rcases h0 with ⟨b,h0⟩ | h0<;>(rw [show hdP e0 f []=e0 from rfl,h0] at h;cases h)
   exact ⟨by decide,by decide⟩
  ·exact hf c _ _ _ h
theorem Nz.tl {g:BL→Out α} (hg:Nz g):Nz (tlP g):=fun l e r h=>by
  rcases l with _ | ⟨c,l⟩
  ·cases h;exact ⟨by decide,by decide⟩
  ·exact hg _ _ _ h
theorem Nz.ok (a:α):Nz (okP a):=fun l e r h=>by cases h
theorem Nz.fail {e:Nat} (he:20≤e∧e≤24):Nz (YS e:BL→Out α):=fun l k r h=>by
  cases l<;>cases h
  ·exact ⟨by decide,by decide⟩
  ·exact he
theorem Nz.ite {c:Prop} [Decidable c] {p q:BL→Out α} (hp:Nz p) (hq:Nz q):Nz (if c then p else q):=by split<;>assumption
theorem Nz.got {p:BL→Out α} (hp:Nz p):Nz (ZbN p):=fun l e r h=>hp _ _ _ (Zc7 h)
end
theorem Nz.drop (P:UInt8→Bool):Nz (X9 P):=fun l e r h=>by cases h
theorem ZfQ:Nz Z6:=by rw [Zep];exact Nz.hd (.inr rfl) fun c=>Nz.ite (Nz.drop _).tl (Nz.fail (by decide))
theorem ZqV:Nz Zc4:=by
  have h1:Nz ZqY:=fun l e r h=>by cases h
  have h2:Nz XH:=by rw [ZgO];exact Nz.hd (.inl ⟨_,rfl⟩) fun c=>Nz.ite (Nz.fail (by decide)) (Nz.ok _)
  have h3:Nz ZeH:=by rw [Zjs];exact Nz.hd (.inr rfl) fun c=>Nz.ite h2.tl ZfQ
  have h4:Nz ZcS:=by rw [Zki];exact Nz.hd (.inl ⟨_,rfl⟩) fun c=>Nz.ite ZfQ.tl (Nz.ok _)
  have h6:Nz ZqP:=fun l e r h=>by cases h
  have h5:Nz ZeT:=by rw [ZmX];exact Nz.hd (.inl ⟨_,rfl⟩) fun c=>Nz.ite (h6.bind fun _=>ZfQ).tl (Nz.ok _)
  rw [Zjk]
  exact h1.bind fun _=>h3.bind fun _=>h4.bind fun _=>h5
theorem Zhf:∀ w:BL,Nz (Zbk w)
  | []=>Nz.ok ()
  | c::w=>by rw [ZjM];exact Nz.hd (.inr rfl) fun d=>Nz.ite (Zhf w).tl (Nz.fail (by decide))
theorem ZoZ:∀ k n:Nat,Nz (Zdd k n)
  | 0,n=>Nz.ok n
  | k+1,n=>by
    rw [ZmM]
    refine Nz.hd (.inr rfl) fun c=>?_
    cases ZeI c with
    | some d=>exact (ZoZ k _).tl
    | none=>exact Nz.fail (by decide)
theorem ZqJ:Nz Zgx:=by
  rw [ZlX]
  refine Nz.hd (.inr rfl) fun c=>?_
  cases ZaT c with
  | some m=>exact (Nz.ok _).tl
  | none=>exact Nz.ite ((ZoZ 4 0).bind fun n=>Nz.ok _).tl (Nz.fail (by decide))
theorem Zm6:∀ n lo hi:Nat,Nz (ZaN n lo hi)
  | 0,_,_=>Nz.ok ()
  | n+1,lo,hi=>by rw [Zks];exact Nz.hd (.inr rfl) fun d=>Nz.ite (Zm6 n _ _).tl (Nz.fail (by decide))
theorem Zpm:Nz Xo:=by rw [ZjV];exact Nz.hd (.inr rfl) fun c=>Nz.ite (Nz.fail (by decide)) (Zm6 _ _ _).tl
theorem ZeN:∀ (n:Nat) (p:Option Nat) (out l:BL) (e:Nat) (r:BL),X8 n p out l = .err e r→20≤e∧e≤24
  | 0,_,_,_,_,_,h=>by cases h;exact ⟨by decide,by decide⟩
  | n+1,p,out,[],_,_,h=>by cases h;exact ⟨by decide,by decide⟩
  | n+1,p,out,c::l,e,r,h=>by
    rw [Zas] at h
    split at h
    ·cases h;exact ⟨by decide,by decide⟩
    split at h
    ·cases h
    split at h
    ·cases ht:Zgx l with
     | err k q=>rw [ht] at h;cases h;exact ZqJ _ _ _ ht
     | ok t q=>rw [ht] at h;exact ZeN n _ _ _ _ _ h
    split at h
    ·exact ZeN n _ _ _ _ _ h
    ·cases ht:Xo (c::l) with
     | err k q=>rw [ht] at h;cases h;exact Zpm _ _ _ ht
     | ok t q=>rw [ht] at h;exact ZeN n _ _ _ _ _ h
theorem Zs1 (p:Option Nat) (out:BL):Nz (T p out):=fun l e r h=>ZeN _ _ _ _ _ _ h
theorem Zpu:Nz ZcF:=by
  rw [Zj4]
  have g3:∀ nm:BL,Nz (hdP (.err 24 []) fun d=>if d=58 then tlP (okP nm) else YS 20):=fun nm=>Nz.hd (.inr rfl) fun c=>Nz.ite (Nz.ok _).tl (Nz.fail (by decide))
  have g1:Nz fun l=>(Zf8 l).bind fun nm l=>(X9 Z1 l).bind fun _=>hdP (.err 24 []) fun d=>if d=58 then tlP (okP nm) else YS 20:=by
    rw [Zdn]
    exact (Zs1 none []).bind fun nm=>(Nz.drop _).bind fun _=>g3 nm
  exact (Nz.drop _).bind fun _=>Nz.hd (.inr rfl) fun c=>Nz.ite g1.tl (Nz.fail (by decide))
theorem Zmi {pv:BL→Out JV} (hv:Nz pv) (ob:Bool) (ns:List BL) (sub:JL):Nz (Xs pv ob ns sub):=by
  rw [Zj0]
  split
  ·exact Zpu.bind fun nm=>hv.bind fun v=>(Nz.drop _).bind fun _=>Nz.ok _
  ·exact (Nz.drop _).bind fun _=>hv.bind fun v=>(Nz.drop _).bind fun _=>Nz.ok _
theorem Zjq {pv:BL→Out JV} (hv:Nz pv) (ob:Bool):∀ (m:Nat) (ns:List BL) (sub:JL),Nz (ZbJ pv ob m ns sub)
  | 0,_,_,l,e,r,h=>by cases h;exact ⟨by decide,by decide⟩
  | m+1,ns,sub,l,e,r,h=>by
    unfold ZbJ at h
    split at h
    ·cases h
    split at h
    ·exact ((Zmi hv ob ns sub).bind fun p=>Zjq hv ob m p.1 p.2) _ _ _ h
    split at h
    ·exact ((Zmi hv ob ns sub).bind fun p=>Zjq hv ob m p.1 p.2) _ _ _ h
    ·exact Nz.fail (by decide) _ _ _ h
theorem ZqH {op:Bool→BL→Out JV} (ho:∀ b,Nz (op b)):Nz (vP op):=by
  refine (Nz.drop _).bind fun _=>Nz.hd (.inr rfl) fun c=>?_
  unfold vF
  have s0:Nz (fun l=>(Zf8 l).bind fun t=>okP (⟨5,t,[],.nil⟩:JV)):=by rw [Zdn];exact (Zs1 none []).bind fun t=>Nz.ok _
  exact Nz.ite (ho true) (Nz.ite (ho false) (Nz.ite s0.tl (Nz.ite ((Zhf _).bind fun _=>Nz.ok _) (Nz.ite ((Zhf _).bind fun _=>Nz.ok _) (Nz.ite ((Zhf _).bind fun _=>Nz.ok _) (Nz.ite (ZqV.got.bind fun _=>Nz.ok _) (Nz.fail (by decide))))))))
theorem ZjN:∀ n:Nat,Nz (ZI n)
  | 0=>by rw [Zia];exact ZqH fun _=>Nz.fail (by decide)
  | n+1=>by
    rw [Zhg]
    exact ZqH fun b=>Nz.tl ((Nz.drop _).bind fun _=>Nz.bind (fun l e r h=>Zjq (ZjN n) b _ _ _ _ _ _ h) fun p=>Nz.ok _)
theorem ZbX {l:BL} (h:l.length≤65536):Xm l=match ZI 64 l with
    | .err e r=> .err e (l.length - r.length)
    | .ok v r=>match Z3 r with
      | []=> .ok v
      | c::r'=> .err 25 (l.length - (c::r').length):=by
  unfold Xm
  rw [if_neg (by omega)]
  rfl
theorem Zei {l:BL} (h:65536<l.length):Xm l = .err 5 65536:=by
  unfold Xm
  rw [if_pos h]
theorem ZhE {l:BL} {e k:Nat} (h:Xm l = .err e k):e=5∨(20≤e∧e≤25):=by
  by_cases hl:l.length≤65536
  ·rw [ZbX hl] at h
   cases h1:ZI 64 l with
   | err k q=>rw [h1] at h;cases h;have:=ZjN 64 _ _ _ h1;omega
   | ok v r =>
     rw [h1] at h
     simp only at h
     split at h
     ·cases h
     ·cases h;right;omega
  ·rw [Zei (by omega)] at h;cases h;exact .inl rfl
theorem ZjS:∀ {v:BL} {c:UInt8} {r':BL},Z3 v=c::r'→∃ y,v=y++c::r'∧Blk y∧Z1 c=false
  | [],c,r',h=>by cases h
  | d::v,c,r',h=>by
    by_cases hd:Z1 d=true
    ·unfold Z3 at h
     rw [List.dropWhile_cons_of_pos hd] at h
     obtain ⟨y,a,b,e⟩:=ZjS h
     exact ⟨d::y,by rw [a];rfl,fun x hx=>by rcases List.mem_cons.1 hx with rfl | hx;exact hd;exact b x hx,e⟩
    ·unfold Z3 at h
     rw [List.dropWhile_cons_of_neg hd] at h
     cases h
     exact ⟨[],rfl,fun x hx=>(by cases hx),by simpa using hd⟩
theorem ZkG (n:Nat) {a:BL} (ha:Blk a) (l:BL):ZI n (a++l)=ZI n l:=by
  have:∀ op,Za4 op (a++l)=Za4 op l:=fun op=>by unfold Za4;rw [Zhs ha]
  cases n<;>exact this _
theorem Zlu {a l b:BL} (ha:Blk a) (hb:Blk b) (hl:(a++(l++b)).length≤65536):match Xm l with
    | .ok v=>Xm (a++(l++b)) = .ok v
    | .err e k=>if e=24 then ∃ f m,Xm (a++(l++b)) = .err f m∧a.length+k≤m else Xm (a++(l++b)) = .err e (a.length+k):=by
  have hl':l.length≤65536:=by simp at hl;omega
  have vg:=YM 64
  rw [ZbX hl',ZbX hl,ZkG 64 ha]
  cases h1:ZI 64 l with
  | err e q =>
    simp only
    obtain ⟨hs,h24⟩:=vg.1.sf.esuf h1
    rcases q with _ | ⟨c,r⟩
    ·have:e=24:=h24.2 rfl
     subst this
     rw [if_pos rfl]
     rcases l with _ | ⟨d,l⟩
     ·obtain ⟨f,q,h2,h3⟩:=vg.1.bn.bl h1 hb
      rw [List.nil_append,h2]
      have:=h3.length_le
      exact ⟨f,_,rfl,by simp;omega⟩
     ·obtain ⟨f,q,h2,h3⟩:=(vg.1.pb ((d::l).length+1)).bl (by omega) (by simp) h1 hb
      rw [h2]
      have:=h3.length_le
      exact ⟨f,_,rfl,by simp at this ⊢;omega⟩
    ·rw [if_neg fun h=>by have:=h24.1 h;cases this]
     obtain ⟨x,rfl⟩:=hs
     have:=(vg.1.pe (x.length+1)).eext (by omega) h1 (r++b)
     rw [List.append_assoc]
     show (match ZI 64 (x++c::(r++b)) with | .err e r=>_ | .ok v r=>_)=_
     rw [this]
     simp
     omega
  | ok v q =>
    simp only
    obtain ⟨z,rfl⟩:=vg.1.sf.suf h1
    rcases q with _ | ⟨c,r⟩
    ·rw [show Z3 []=[] from rfl]
     simp only
     rw [List.append_nil] at h1 ⊢
     rcases z with _ | ⟨d,z⟩
     ·rw [ZdD] at h1;cases h1
     ·obtain ⟨b',h2,h3,_⟩:=(vg.1.pb ((d::z).length+1)).blo (by omega) (by simp) h1 hb
      rw [h2]
      simp only [ZjT (hb.suf h3)]
    ·have h3:ZI 64 (z++c::r++b) = .ok v (c::r++b):=by
       have:=(vg.1.pe (z.length+1)).ext (by omega) h1 (r++b)
       simpa using this
     rw [h3]
     simp only
     cases hk:Z3 (c::r) with
     | nil =>
       have:Z3 (c::r++b)=[]:=by
         have hall:=ZfO.1 hk
         rw [Zhs (b:=c::r) hall,ZjT hb]
       rw [this]
     | cons d r' =>
       simp only
       rw [if_neg (by decide)]
       obtain ⟨y,e,hy,hd⟩:=ZjS hk
       have:Z3 (c::r++b)=d::(r'++b):=by
         rw [e,List.append_assoc,Zhs hy]
         show Z3 (d::(r'++b))=_
         unfold Z3;rw [List.dropWhile_cons_of_neg (by simp [hd])]
       rw [this]
       have hlen:=congrArg List.length e
       simp at hlen ⊢
       omega
def ZmN (n:Nat):UInt8:=UInt8.ofNat (if n<10 then 48+n else 87+n)
def ZbD (c:UInt8):BL :=
  if c=34∨c=92 then [92,c]
  else if c=8 then [92,98] else if c=12 then [92,102] else if c=10 then [92,110] else if c=13 then [92,114] else if c=9 then [92,116]
  else if c.toNat<32 then [92,117,48,48,ZmN (c.toNat / 16),ZmN (c.toNat % 16)]
  else [c]
def Zcj (t:BL):BL:=34::(t.flatMap ZbD++[34])
def prV (k:Nat) (t body:BL):BL :=
  if k=1 then [110,117,108,108] else if k=2 then [102,97,108,115,101] else if k=3 then [116,114,117,101]
  else if k=4 then t else if k=5 then Zcj t else if k=7 then 123::(body++[125]) else 91::(body++[93])
def ZiX (first:Bool):BL:=if first then [] else [44]
def nmB (ob:Bool) (ns:List BL):BL:=if ob then Zcj (ns.headD [])++[58] else []
def ZN:Bool→Bool→List BL→JL→BL
  | _,_,_,.nil=>[]
  | ob,first,ns,.cons k t ns' sub rest=>ZiX first++nmB ob ns++prV k t (ZN (decide (k=7)) true ns' sub)++ZN ob false ns.tail rest
def XP (v:JV):BL:=prV v.k v.t (ZN (decide (v.k=7)) true v.ns v.sub)
inductive Utf:BL→Prop where
  | nil:Utf []
  | cons {x l:BL}:Xp x=true→Utf l→Utf (x++l)
def Zci (k:Nat) (t:BL) (ns:List BL) (sub:JL):Prop :=
  ((k=1∨k=2∨k=3)∧t=[]∧ns=[]∧sub = .nil)∨(k=4∧Zc4 t = .ok () []∧t.length≤65536∧ns=[]∧sub = .nil)∨(k=5∧Utf t∧ns=[]∧sub = .nil) ∨
    (k=6∧t=[]∧ns=[])∨(k=7∧t=[]∧ns.length=sub.len∧∀ n∈ns,Utf n)
def ZaP:Nat→JL→Prop
  | _,.nil=>True
  | 0,.cons k t ns sub rest=>Zci k t ns sub∧k≠6∧k≠7∧ZaP 0 rest
  | d+1,.cons k t ns sub rest=>Zci k t ns sub∧ZaP d sub∧ZaP (d+1) rest
def Zcy (d:Nat) (v:JV):Prop:=ZaP d (.cons v.k v.t v.ns v.sub .nil)
theorem ZpK:∀ c:UInt8,c.toNat<128→(ZbD c=[c]∧32≤c.toNat∧c≠34∧c≠92)∨(∃ m,ZbD c=[92,m]∧ZaT m=some c) ∨
    ∃ h l,ZbD c=[92,117,48,48,h,l]∧∃ a b,ZeI h=some a∧ZeI l=some b∧a*16+b=c.toNat∧c.toNat<32:=by
  have key:∀ b:Fin 256,b.val<128→(ZbD ⟨⟨b⟩⟩=[⟨⟨b⟩⟩]∧32≤b.val∧(⟨⟨b⟩⟩:UInt8)≠34∧(⟨⟨b⟩⟩:UInt8)≠92)∨(ZaT ((ZbD ⟨⟨b⟩⟩).getD 1 0)=some ⟨⟨b⟩⟩∧ZbD ⟨⟨b⟩⟩=[92,(ZbD ⟨⟨b⟩⟩).getD 1 0]) ∨
      (b.val<32∧ZbD ⟨⟨b⟩⟩=[92,117,48,48,ZmN (b.val / 16),ZmN (b.val % 16)]∧ZeI (ZmN (b.val / 16))=some (b.val / 16)∧ZeI (ZmN (b.val % 16))=some (b.val % 16)):=by decide +kernel
  rintro ⟨⟨b⟩⟩ h
  rcases key b h with h | h | h
  ·exact .inl h
  ·exact .inr (.inl ⟨_,h.2,h.1⟩)
  ·exact .inr (.inr ⟨_,_,h.2.1,_,_,h.2.2.1,h.2.2.2,by show b.val / 16*16+b.val % 16=b.val;omega,h.1⟩)
theorem Zpf {c:UInt8} (h:c.toNat<128):ZbT (ZeK c.toNat)=[c]:=by
  unfold ZeK
  rw [if_neg (by omega)]
  unfold ZbT
  rw [if_pos h]
  simp
theorem Zvb {h l:UInt8} {a b:Nat} (ha:ZeI h=some a) (hb:ZeI l=some b) (r:BL):Zdd 4 0 (48::48::h::l::r) = .ok (a*16+b) r:=by
  have h0:ZeI 48=some 0:=by decide
  simp only [Zdd,h0,ha,hb]
  congr 1
  omega
theorem Zl7 {x:BL} (hx:Xp x=true) (out r:BL):T none out (x.flatMap ZbD++r)=T none (out++x) r:=by
  rcases x with _ | ⟨c,x⟩
  ·cases hx
  by_cases hc:c.toNat<128
  ·have hx0:x=[]:=by
     simp only [Xp,Zj5 c hc,Bool.and_eq_true,decide_eq_true_eq] at hx
     exact List.eq_nil_of_length_eq_zero (by omega)
   subst hx0
   simp only [List.flatMap_cons,List.flatMap_nil,List.append_nil]
   rw [Zp7]
   rcases ZpK c hc with ⟨e,h32,h34,h92⟩ | ⟨m,e,hm⟩ | ⟨h,l,e,a,b,ha,hb,hab,h32⟩
   ·rw [e]
    show tF none out c (c::r)=_
    unfold tF
    rw [if_neg (by omega),if_neg h34,if_neg h92,if_pos hc]
    simp [tlP,flB]
   ·rw [e]
    show tF none out 92 (92::m::r)=_
    unfold tF
    rw [if_neg (by decide),if_neg (by decide),if_pos rfl]
    show (Zgx (m::r)).bind _=_
    rw [Za6,hm]
    simp [Zgw,flB]
   ·rw [e]
    show tF none out 92 (92::117::48::48::h::l::r)=_
    unfold tF
    rw [if_neg (by decide),if_neg (by decide),if_pos rfl]
    show (Zgx (117::48::48::h::l::r)).bind _=_
    rw [Za6,Zpw]
    simp only [↓reduceIte]
    rw [Zvb ha hb,hab]
    have hi:Zkb c.toNat=false:=by unfold Zkb;simp;omega
    simp only [Out.bind_ok,Zgw,hi,Bool.false_eq_true,↓reduceIte,Zpf hc]
  ·
   have h128:128≤c.toNat:=by omega
   have hl:=hx
   simp only [Xp,Bool.and_eq_true,decide_eq_true_eq] at hl
   have hn2:2≤nRb c:=by
     rcases ZoH c h128 with ⟨t0,_⟩ | ⟨_,tc,_⟩<;>omega
   have big:∀ (y:BL) (lo hi:Nat),128≤lo→okC lo hi y=true→∀ d∈y,128≤d.toNat:=by
     intro y
     induction y with
     | nil=>intro _ _ _ _ d hd;cases hd
     | cons z y ih =>
       intro lo hi hlo h d hd
       simp only [okC,Bool.and_eq_true,decide_eq_true_eq] at h
       rcases List.mem_cons.1 hd with rfl | hd
       ·omega
       ·exact ih 128 191 (Nat.le_refl _) h.2 d hd
   have all:∀ d∈c::x,128≤d.toNat:=fun d hd=>by
     rcases List.mem_cons.1 hd with rfl | hd
     ·exact h128
     ·exact big x _ _ (ZmB c hn2) hl.2 d hd
   have same:∀ y:BL,(∀ d∈y,128≤d.toNat)→y.flatMap ZbD=y:=by
     intro y
     induction y with
     | nil=>intro _;rfl
     | cons z y ih =>
       intro h
       have hz:=h z (by simp)
       rw [List.flatMap_cons,ih fun d hd=>h d (by simp [hd])]
       have:ZbD z=[z]:=by
         have key:∀ b:Fin 256,128≤b.val→ZbD ⟨⟨b⟩⟩=[⟨⟨b⟩⟩]:=by decide +kernel
         rcases z with ⟨⟨b⟩⟩
         exact key b hz
       rw [this];rfl
   rw [same _ all,Zp7]
   show tF none out c (c::(x++r))=_
   unfold tF
   have n34:c≠34:=fun e=>by rw [e] at h128;revert h128;decide
   have n92:c≠92:=fun e=>by rw [e] at h128;revert h128;decide
   rw [if_neg (by omega),if_neg n34,if_neg n92,if_neg hc]
   show (ZbN Xo (c::x++r)).bind _=_
   unfold ZbN
   rw [Zik hx]
   simp only [Out.bind_ok,flB,List.append_nil]
   rw [XR]
theorem ZnE {t:BL} (h:Utf t):∀ out r,T none out (t.flatMap ZbD++r)=T none (out++t) r:=by
  induction h with
  | nil=>intro out r;simp
  | cons hx _ ih =>
    intro out r
    rw [List.flatMap_append,List.append_assoc,Zl7 hx,ih,List.append_assoc]
theorem ZsJ (out r:BL):T none out (34::r) = .ok out r:=by
  rw [Zp7]
  show tF none out 34 (34::r)=_
  unfold tF
  rw [if_neg (by decide),if_pos rfl]
  simp [tlP,okP,flB]
theorem ZjQ {t:BL} (h:Utf t) (r:BL):Zf8 (t.flatMap ZbD++34::r) = .ok t r:=by
  rw [Zdn,ZnE h,ZsJ,List.nil_append]
def Zl4 (r:BL):Prop:=r=[]∨∃ c l,r=c::l∧(c=44∨c=93∨c=125)
theorem Zn1 {t r:BL} (h:Zc4 t = .ok () []) (hr:Zl4 r):Zc4 (t++r) = .ok () r:=by
  rcases hr with rfl | ⟨c,l,rfl,hc⟩
  ·rwa [List.append_nil]
  ·have np:c≠46∧XD c=false∧c≠101∧c≠69∧c≠43∧c≠45∧c≠48:=by
     rcases hc with rfl | rfl | rfl<;>decide
   obtain ⟨n46,nd,n101,n69,n43,n45,n48⟩:=np
   have dg:∀ {l1 q:BL},Z6 l1 = .ok () q→Z6 (l1++c::l) = .ok () (q++c::l):=fun {l1 q} hh=>by
     rcases l1 with _ | ⟨d,l1⟩
     ·cases hh
     ·dsimp only [Z6,List.cons_append] at hh ⊢
      split at hh
      ·rename_i hd
       cases hh
       rw [if_pos hd]
       congr 1
       by_cases ha:∀ x∈l1,XD x=true
       ·rw [List.dropWhile_append_of_pos ha,ZfO.2 ha,List.dropWhile_cons_of_neg (by simp [nd])];rfl
       ·clear hd h
        induction l1 with
        | nil=>exact absurd (fun x hx=>by cases hx) ha
        | cons e l1 ih =>
          by_cases he:XD e=true
          ·rw [List.cons_append,List.dropWhile_cons_of_pos he,List.dropWhile_cons_of_pos he]
           exact ih fun hh=>ha fun x hx=>by
             rcases List.mem_cons.1 hx with rfl | hx
             ·exact he
             ·exact hh x hx
          ·rw [List.cons_append,List.dropWhile_cons_of_neg he,List.dropWhile_cons_of_neg he];rfl
      ·cases hh
   have mn:∀ l1:BL,l1≠[]→Zap (l1++c::l)=Zap l1++c::l:=fun l1 hne=>by
     rcases l1 with _ | ⟨d,l1⟩
     ·exact absurd rfl hne
     ·dsimp only [Zap,List.cons_append]
      split<;>rfl
   have it:∀ {l1 q:BL},ZeH l1 = .ok () q→ZeH (l1++c::l) = .ok () (q++c::l):=fun {l1 q} hh=>by
     rcases l1 with _ | ⟨d,l1⟩
     ·cases hh
     ·by_cases hd:d=48
      ·subst hd
       rw [List.cons_append,show ZeH (48::(l1++c::l))=XH (l1++c::l) from rfl]
       rw [show ZeH (48::l1)=XH l1 from rfl] at hh
       rcases l1 with _ | ⟨e,l1⟩
       ·cases hh
        show (if XD c=true then _ else _)=_
        rw [if_neg (by simp [nd])];rfl
       ·dsimp only [XH,List.cons_append] at hh ⊢
        split at hh
        ·cases hh
        ·rename_i he;cases hh;rw [if_neg he];rfl
      ·have e1:∀ w,ZeH (d::w)=Z6 (d::w):=fun w=>by
         show (if d=48 then _ else _)=_
         rw [if_neg hd]
       rw [List.cons_append,e1]
       rw [e1] at hh
       exact dg hh
   have fr:∀ {l1 q:BL},ZcS l1 = .ok () q→ZcS (l1++c::l) = .ok () (q++c::l):=fun {l1 q} hh=>by
     rcases l1 with _ | ⟨d,l1⟩
     ·cases hh
      show (if c=46 then _ else _)=_
      rw [if_neg n46];rfl
     ·dsimp only [ZcS,List.cons_append] at hh ⊢
      split at hh
      ·rename_i hd;rw [if_pos hd];exact dg hh
      ·rename_i hd;rw [if_neg hd];cases hh;rfl
   have ex:∀ {l1 q:BL},ZeT l1 = .ok () q→ZeT (l1++c::l) = .ok () (q++c::l):=fun {l1 q} hh=>by
     rcases l1 with _ | ⟨d,l1⟩
     ·cases hh
      show (if c=101∨c=69 then _ else _)=_
      rw [if_neg (by simp [n101,n69])];rfl
     ·dsimp only [ZeT,List.cons_append] at hh ⊢
      split at hh
      ·rename_i hd
       rw [if_pos hd]
       have sg:Zd8 (l1++c::l)=Zd8 l1++c::l:=by
         rcases l1 with _ | ⟨e,l1⟩
         ·cases hh
         ·dsimp only [Zd8,List.cons_append]
          split<;>rfl
       rw [sg]
       exact dg hh
      ·rename_i hd;rw [if_neg hd];cases hh;rfl
   obtain ⟨l1,l2,h1,h2,h3⟩:=ZeR h
   have hne:t≠[]:=by
     rintro rfl
     cases h1
   unfold Zc4
   rw [mn t hne,it h1]
   simp only [Out.bind_ok]
   rw [fr h2]
   simp only [Out.bind_ok]
   rw [ex h3];rfl
theorem Zj3 {t:BL} (h:Zc4 t = .ok () []):∃ c l,t=c::l∧(c=45∨XD c=true):=by
  obtain ⟨l1,l2,h1,h2,h3⟩:=ZeR h
  rcases t with _ | ⟨c,t⟩
  ·cases h1
  ·refine ⟨c,t,rfl,?_⟩
   by_cases hc:c=45
   ·exact .inl hc
   ·right
    have:Zap (c::t)=c::t:=by
      show (if c=45 then _ else _)=_
      rw [if_neg hc]
    rw [this] at h1
    by_cases h48:c=48
    ·subst h48;decide
    ·have:ZeH (c::t)=Z6 (c::t):=by
       show (if c=48 then _ else _)=_
       rw [if_neg h48]
     rw [this] at h1
     dsimp only [Z6] at h1
     split at h1
     ·assumption
     ·cases h1
def Zoz:JL→JL→JL
  | .nil,b=>b
  | .cons k t ns s r,b=> .cons k t ns s (Zoz r b)
theorem ZkA (v:JV) (b:JL):∀ a:JL,Zoz (a.snoc v) b=Zoz a (.cons v.k v.t v.ns v.sub b)
  | .nil=>rfl
  | .cons _ _ _ _ r=>by simp only [JL.snoc,Zoz,ZkA v b r]
theorem Zni:∀ a:JL,Zoz a .nil=a
  | .nil=>rfl
  | .cons _ _ _ _ r=>by simp only [Zoz,Zni r]
theorem Zps (b:JL):Zoz .nil b=b:=rfl
theorem ZkL (v:JV) (a:JL):(a.snoc v).isNil=false:=by cases a<;>rfl
theorem ZhC {k:Nat} {t:BL} {ns:List BL} {sub:JL} (h:Zci k t ns sub) (body:BL):∃ c l,prV k t body=c::l∧Z1 c=false∧c≠44∧c≠93∧c≠125:=by
  rcases h with ⟨hk | hk | hk,_⟩ | ⟨hk,hn,_⟩ | ⟨hk,_⟩ | ⟨hk,_⟩ | ⟨hk,_⟩<;>subst hk
  ·exact ⟨_,_,rfl,by decide,by decide,by decide,by decide⟩
  ·exact ⟨_,_,rfl,by decide,by decide,by decide,by decide⟩
  ·exact ⟨_,_,rfl,by decide,by decide,by decide,by decide⟩
  ·obtain ⟨c,l,e,hc⟩:=Zj3 hn
   refine ⟨c,l,e,?_,?_,?_,?_⟩
   ·cases hb:Z1 c with
    | false=>rfl
    | true =>
      rcases Zbj hb with rfl | rfl | rfl | rfl<;>(rcases hc with hc | hc<;>revert hc<;>decide)
   all_goals (rintro rfl;rcases hc with hc | hc<;>revert hc<;>decide)
  ·exact ⟨_,_,rfl,by decide,by decide,by decide,by decide⟩
  ·exact ⟨_,_,rfl,by decide,by decide,by decide,by decide⟩
  ·exact ⟨_,_,rfl,by decide,by decide,by decide,by decide⟩
theorem Xr {c:UInt8} {l:BL} (h:Z1 c=false):Z3 (c::l)=c::l:=by
  unfold Z3;rw [List.dropWhile_cons_of_neg (by simp [h])]
theorem ZgL {n:Nat} {k:Nat} {t:BL} {ns:List BL} {sub:JL} (h:Zci k t ns sub) (h6:k≠6) (h7:k≠7) (body:BL) {r:BL} (hr:Zl4 r) :
    ZI n (prV k t body++r) = .ok ⟨k,t,ns,sub⟩ r:=by
  have go:∀ op,vP op (prV k t body++r) = .ok ⟨k,t,ns,sub⟩ r:=fun op=>by
    obtain ⟨c,l,e,hb,_⟩:=ZhC h body
    show hdP _ (vF op) (Z3 (prV k t body++r))=_
    rw [show Z3 (prV k t body++r)=prV k t body++r by rw [e];exact Xr hb]
    rcases h with ⟨hk,ht,hns,hsub⟩ | ⟨hk,hn,_,hns,hsub⟩ | ⟨hk,hu,hns,hsub⟩ | ⟨hk,_⟩ | ⟨hk,_⟩
    ·subst ht hns hsub
     rcases hk with hk | hk | hk<;>subst hk<;>rfl
    ·subst hk hns hsub
     obtain ⟨c,l,e,hc⟩:=Zj3 hn
     show hdP _ (vF op) (t++r)=_
     have hg:ZbN Zc4 (t++r) = .ok t r:=by unfold ZbN;rw [Zn1 hn hr];simp only [Out.bind_ok];rw [XR]
     rw [e] at hg ⊢
     show vF op c (c::(l++r))=_
     have hne:c≠123∧c≠91∧c≠34∧c≠110∧c≠102∧c≠116:=by
       refine ⟨?_,?_,?_,?_,?_,?_⟩<;>(rintro rfl;rcases hc with hc | hc<;>revert hc<;>decide)
     obtain ⟨a1,a2,a3,a4,a5,a6⟩:=hne
     unfold vF
     rw [if_neg a1,if_neg a2,if_neg a3,if_neg a4,if_neg a5,if_neg a6,if_pos hc]
     show (ZbN Zc4 (c::l++r)).bind _=_
     rw [hg];rfl
    ·subst hk hns hsub
     show vF op 34 (34::(t.flatMap ZbD++[34]++r))=_
     unfold vF
     rw [if_neg (by decide),if_neg (by decide),if_pos rfl]
     show (Zf8 (t.flatMap ZbD++[34]++r)).bind _=_
     rw [List.append_assoc,show ([34]:BL)++r=34::r from rfl,ZjQ hu];rfl
    ·exact absurd hk h6
    ·exact absurd hk h7
  cases n with
  | zero=>rw [Zia];exact go _
  | succ n=>rw [Zhg];exact go _
theorem Zk0 (ob:Bool) (ns:List BL) (rest:JL) (r:BL):Zl4 (ZN ob false ns rest++Zcc ob::r):=by
  right
  cases rest with
  | nil=>exact ⟨_,_,rfl,by cases ob<;>simp [Zcc]⟩
  | cons k t ns' sub rest=>exact ⟨44,_,rfl,.inl rfl⟩
theorem ZiA {n:Nat} (hv:∀ k t ns sub r,ZaP n (.cons k t ns sub .nil)→Zl4 r→ZI n (prV k t (ZN (decide (k=7)) true ns sub)++r) = .ok ⟨k,t,ns,sub⟩ r) (ob:Bool) (r:BL) :
    ∀ (rest:JL) (ns ns0:List BL) (sub0:JL),ZaP n rest→(ob=true→ns.length=rest.len∧∀ m∈ns,Utf m)→(ob=false→ns=[]) →
      L (ZI n) ob ns0 sub0 (ZN ob sub0.isNil ns rest++Zcc ob::r) = .ok (ns0++ns,Zoz sub0 rest) r
  | .nil,ns,ns0,sub0,_,h1,h2=>by
    have hn:ns=[]:=by
      cases ob with
      | false=>exact h2 rfl
      | true=>exact List.eq_nil_of_length_eq_zero (by rw [(h1 rfl).1];rfl)
    subst hn
    rw [ZpW (YM n).1 (YM n).2 (ZdD n)]
    show lF (ZI n) ob ns0 sub0 (Zcc ob) (Zcc ob::r)=_
    unfold lF
    rw [if_pos rfl,Zni,List.append_nil];rfl
  | .cons k t ns' sub rest,ns,ns0,sub0,hr,h1,h2=>by
    have hr1:ZaP n (.cons k t ns' sub .nil)∧ZaP n rest∧Zci k t ns' sub:=by
      cases n with
      | zero=>exact ⟨⟨hr.1,hr.2.1,hr.2.2.1,trivial⟩,hr.2.2.2,hr.1⟩
      | succ n=>exact ⟨⟨hr.1,hr.2.1,trivial⟩,hr.2.2,hr.1⟩
    obtain ⟨hr1,hr2,hk⟩:=hr1
    have ih:=fun ns1 sub1=>ZiA hv ob r rest ns.tail ns1 sub1 hr2
    have hst:=Zk0 ob ns.tail rest r
    obtain ⟨c,l,ec,hb,hc44,hc93,hc125⟩:=ZhC hk (ZN (decide (k=7)) true ns' sub)
    have part:Xs (ZI n) ob ns0 sub0 (nmB ob ns++prV k t (ZN (decide (k=7)) true ns' sub)++(ZN ob false ns.tail rest++Zcc ob::r)) =
        .ok (if ob then ns0++[ns.headD []] else ns0,sub0.snoc ⟨k,t,ns',sub⟩) (ZN ob false ns.tail rest++Zcc ob::r):=by
      have hsk:Z3 (ZN ob false ns.tail rest++Zcc ob::r)=ZN ob false ns.tail rest++Zcc ob::r:=by
        cases rest with
        | nil=>exact Xr (by cases ob<;>decide)
        | cons k2 t2 ns2 sub2 rest2=>exact Xr (c:=44) (by decide)
      have hv1:=hv k t ns' sub _ hr1 hst
      cases ob with
      | false =>
        show (ZI n (Z3 _)).bind _=_
        have hs2:Z3 (prV k t (ZN (decide (k=7)) true ns' sub)++(ZN false false ns.tail rest++Zcc false::r))=prV k t (ZN (decide (k=7)) true ns' sub)++(ZN false false ns.tail rest++Zcc false::r):=by rw [ec];exact Xr hb
        rw [show nmB false ns=[] from rfl,List.nil_append,hs2,hv1]
        simp only [Out.bind_ok,hsk];rfl
      | true =>
        have hu:Utf (ns.headD []):=by
          cases ns with
          | nil=>exact .nil
          | cons a ns=>exact (h1 rfl).2 a (by simp)
        show (ZcF _).bind _=_
        have hnm:∀ w,ZcF (nmB true ns++w) = .ok (ns.headD []) w:=fun w=>by
          rw [show nmB true ns++w=34::((ns.headD []).flatMap ZbD++34::(58::w)) by simp [nmB,Zcj]]
          unfold ZcF
          rw [Xr (by decide)]
          simp only [↓reduceIte]
          rw [ZjQ hu]
          simp only [Out.bind_ok]
          rw [Xr (by decide)]
          simp
        rw [List.append_assoc,hnm]
        simp only [Out.bind_ok]
        rw [hv1]
        simp only [Out.bind_ok,hsk];rfl
    have fin:L (ZI n) ob (if ob then ns0++[ns.headD []] else ns0) (sub0.snoc ⟨k,t,ns',sub⟩) (ZN ob false ns.tail rest++Zcc ob::r) = .ok (ns0++ns,Zoz sub0 (.cons k t ns' sub rest)) r:=by
      have:=ih (if ob then ns0++[ns.headD []] else ns0) (sub0.snoc ⟨k,t,ns',sub⟩) (fun h=>by
          subst h
          obtain ⟨a,b⟩:=h1 rfl
          cases ns with
          | nil=>cases a
          | cons m ns=>exact ⟨by simpa [JL.len] using a,fun x hx=>b x (by simp at hx;simp [hx])⟩) (fun h=>by rw [h2 h];rfl)
      rw [ZkL,ZkA] at this
      rw [this]
      congr 2
      cases ob with
      | false=>rw [h2 rfl];rfl
      | true =>
        cases ns with
        | nil=>have:=(h1 rfl).1;cases this
        | cons m ns=>simp
    rw [ZpW (YM n).1 (YM n).2 (ZdD n)]
    have first:∀ w:BL,∃ d l2,nmB ob ns++prV k t (ZN (decide (k=7)) true ns' sub)++w=d::l2∧d≠Zcc ob:=fun w=>by
      cases ob with
      | false=>rw [ec];exact ⟨c,_,rfl,hc93⟩
      | true=>exact ⟨34,_,rfl,by decide⟩
    show hdP _ _ (ZiX sub0.isNil++nmB ob ns++prV k t (ZN (decide (k=7)) true ns' sub)++ZN ob false ns.tail rest++Zcc ob::r)=_
    cases hs:sub0.isNil with
    | true =>
      rw [show ZiX true++nmB ob ns++prV k t (ZN (decide (k=7)) true ns' sub)++ZN ob false ns.tail rest++Zcc ob::r=nmB ob ns++prV k t (ZN (decide (k=7)) true ns' sub)++(ZN ob false ns.tail rest++Zcc ob::r) by simp [ZiX]]
      obtain ⟨d,l2,e2,hd⟩:=first (ZN ob false ns.tail rest++Zcc ob::r)
      rw [e2] at part ⊢
      show lF (ZI n) ob ns0 sub0 d (d::l2)=_
      unfold lF
      rw [if_neg hd,if_pos hs]
      show (Xs (ZI n) ob ns0 sub0 (d::l2)).bind _=_
      rw [part]
      exact fin
    | false =>
      rw [show ZiX false++nmB ob ns++prV k t (ZN (decide (k=7)) true ns' sub)++ZN ob false ns.tail rest++Zcc ob::r=44::(nmB ob ns++prV k t (ZN (decide (k=7)) true ns' sub)++(ZN ob false ns.tail rest++Zcc ob::r)) by simp [ZiX]]
      show lF (ZI n) ob ns0 sub0 44 (44::_)=_
      unfold lF
      rw [if_neg (by cases ob<;>decide),if_neg (by simp [hs]),if_pos rfl]
      show (Xs (ZI n) ob ns0 sub0 _).bind _=_
      rw [part]
      exact fin
theorem Zgu:∀ (n:Nat) (k:Nat) (t:BL) (ns:List BL) (sub:JL) (r:BL),ZaP n (.cons k t ns sub .nil)→Zl4 r→ZI n (prV k t (ZN (decide (k=7)) true ns sub)++r) = .ok ⟨k,t,ns,sub⟩ r
  | 0,k,t,ns,sub,r,h,hr=>ZgL h.1 h.2.1 h.2.2.1 _ hr
  | n+1,k,t,ns,sub,r,h,hr=>by
    have lists:∀ ob:Bool,k=(if ob then 7 else 6)→t=[]→(ob=true→ns.length=sub.len∧∀ m∈ns,Utf m)→(ob=false→ns=[])→ZI (n+1) (prV k t (ZN (decide (k=7)) true ns sub)++r) = .ok ⟨k,t,ns,sub⟩ r:=fun ob hk ht h1 h2=>by
      subst ht
      have hl:=ZiA (fun k t ns sub r=>Zgu n k t ns sub r) ob r sub ns [] .nil h.2.1 h1 h2
      have hsk:Z3 (ZN ob true ns sub++Zcc ob::r)=ZN ob true ns sub++Zcc ob::r:=by
        cases sub with
        | nil=>exact Xr (by cases ob<;>decide)
        | cons k2 t2 ns2 sub2 rest2 =>
          have hk2:Zci k2 t2 ns2 sub2:=by
            have:=h.2.1
            cases n<;>exact this.1
          cases ob with
          | true=>exact Xr (c:=34) (by decide)
          | false =>
            obtain ⟨c,l,e,hb,_⟩:=ZhC hk2 (ZN (decide (k2=7)) true ns2 sub2)
            show Z3 (ZiX true++nmB false ns++prV k2 t2 _++_++_)=ZiX true++nmB false ns++prV k2 t2 _++_++_
            rw [e]
            exact Xr hb
      have hopen:opP (ZI n) ob ((if ob then 123 else 91)::(ZN ob true ns sub++Zcc ob::r)) = .ok ⟨k,[],ns,sub⟩ r:=by
        show (L (ZI n) ob [] .nil (Z3 (ZN ob true ns sub++Zcc ob::r))).bind _=_
        rw [hsk]
        rw [show ZN ob true ns sub=ZN ob (JL.nil).isNil ns sub from rfl,hl,Zps]
        rw [hk]
        rfl
      rw [Zhg]
      show hdP _ (vF _) (Z3 _)=_
      cases ob with
      | true =>
        simp only [↓reduceIte] at hk
        subst hk
        rw [show prV 7 [] (ZN (decide (7=7)) true ns sub)++r=123::(ZN true true ns sub++Zcc true::r) by simp [prV,Zcc],Xr (by decide)]
        exact hopen
      | false =>
        simp only [Bool.false_eq_true,↓reduceIte] at hk
        subst hk
        rw [show prV 6 [] (ZN (decide (6=7)) true ns sub)++r=91::(ZN false true ns sub++Zcc false::r) by simp [prV,Zcc],Xr (by decide)]
        exact hopen
    by_cases h6:k=6
    ·refine lists false h6 ?_ (fun h=>by cases h) fun _=>?_
     ·rcases h.1 with ⟨hk,_⟩ | ⟨hk,_⟩ | ⟨hk,_⟩ | ⟨_,ht,_⟩ | ⟨_,ht,_⟩
      ·omega
      ·omega
      ·omega
      ·exact ht
      ·exact ht
     ·rcases h.1 with ⟨hk,_⟩ | ⟨hk,_⟩ | ⟨hk,_⟩ | ⟨_,_,hn⟩ | ⟨hk,_⟩
      ·omega
      ·omega
      ·omega
      ·exact hn
      ·omega
    by_cases h7:k=7
    ·rcases h.1 with ⟨hk,_⟩ | ⟨hk,_⟩ | ⟨hk,_⟩ | ⟨hk,_⟩ | ⟨_,ht,hn⟩
     ·omega
     ·omega
     ·omega
     ·omega
     ·exact lists true h7 ht (fun _=>hn) fun h=>by cases h
    ·exact ZgL h.1 h6 h7 _ hr
theorem Zk6 {v:JV} (h:Zcy 64 v) (hl:(XP v).length≤65536):Xm (XP v) = .ok v:=by
  rw [ZbX hl]
  have:=Zgu 64 v.k v.t v.ns v.sub [] h (.inl rfl)
  rw [List.append_nil] at this
  unfold XP
  rw [this]
  rfl
theorem Utf.app {a b:BL} (ha:Utf a) (hb:Utf b):Utf (a++b):=by
  induction ha with
  | nil=>exact hb
  | cons hx _ ih=>rw [List.append_assoc];exact .cons hx ih
theorem Utf.one {x:BL} (h:Xp x=true):Utf x:=by
  have:=Utf.cons h .nil
  rwa [List.append_nil] at this
theorem ZmL {c:UInt8} {d:Nat} (h:ZeI c=some d):d<16:=by
  unfold ZeI at h
  split at h
  ·cases h;omega
  split at h
  ·cases h;omega
  split at h
  ·cases h;omega
  ·cases h
theorem ZhP:∀ (k:Nat) {n m:Nat} {l r:BL},Zdd k n l = .ok m r→m<(n+1)*16 ^ k
  | 0,n,m,_,_,h=>by cases h;omega
  | k+1,n,m,[],_,h=>by cases h
  | k+1,n,m,c::l,r,h=>by
    unfold Zdd at h
    cases hd:ZeI c with
    | none=>simp only [hd] at h;cases h
    | some d =>
      simp only [hd] at h
      have h1:=ZhP k h
      have h2:=ZmL hd
      have h3:n*16+d+1≤(n+1)*16:=by omega
      have h4:(n*16+d+1)*16 ^ k≤((n+1)*16)*16 ^ k:=Nat.mul_le_mul_right _ h3
      rw [Nat.pow_succ]
      have h5:(n+1)*16*16 ^ k=(n+1)*(16 ^ k*16):=by rw [Nat.mul_assoc,Nat.mul_comm 16]
      omega
theorem Zam {n:Nat} (h:n<256):(UInt8.ofNat n).toNat=n:=by simp;omega
theorem ZeL {n:Nat} (h:n<1114112) (hs:n<55296∨57344≤n):Xp (ZbT n)=true:=by
  unfold ZbT
  split
  ·rename_i h1
   have:=Zj5 (UInt8.ofNat n) (by rw [Zam (by omega)];exact h1)
   simp [Xp,this,okC]
  split
  ·rename_i h1 h2
   have ht:ZjP (UInt8.ofNat (192+n / 64)).toNat=(2,128,191):=by
     rw [Zam (by omega)];unfold ZjP;rw [if_neg (by omega),if_pos (by omega)]
   have hb:(UInt8.ofNat (128+n % 64)).toNat=128+n % 64:=Zam (by omega)
   simp only [Xp,nRb,loR,hiR,ht,okC,hb,Bool.and_eq_true,decide_eq_true_eq,List.length_cons,List.length_nil,and_true]
   omega
  split
  ·rename_i h1 h2 h3
   have b1:(UInt8.ofNat (224+n / 4096)).toNat=224+n / 4096:=Zam (by omega)
   have b2:(UInt8.ofNat (128+n / 64 % 64)).toNat=128+n / 64 % 64:=Zam (by omega)
   have b3:(UInt8.ofNat (128+n % 64)).toNat=128+n % 64:=Zam (by omega)
   have ht:ZjP (UInt8.ofNat (224+n / 4096)).toNat=(3,if n / 4096=0 then 160 else 128,if n / 4096=13 then 159 else 191):=by
     rw [b1];unfold ZjP
     rw [if_neg (by omega),if_neg (by omega)]
     by_cases c0:n / 4096=0
     ·rw [if_pos (by omega),if_pos c0,if_neg (by omega)]
     ·rw [if_neg (by omega),if_neg c0]
      by_cases c13:n / 4096=13
      ·rw [if_pos (by omega),if_pos c13]
      ·rw [if_neg (by omega),if_pos (by omega),if_neg c13]
   simp only [Xp,nRb,loR,hiR,ht,okC,b2,b3,Bool.and_eq_true,decide_eq_true_eq,List.length_cons,List.length_nil,and_true]
   refine ⟨by omega,⟨?_,?_⟩,by omega⟩
   ·split<;>omega
   ·split<;>omega
  ·rename_i h1 h2 h3
   have b1:(UInt8.ofNat (240+n / 262144)).toNat=240+n / 262144:=Zam (by omega)
   have b2:(UInt8.ofNat (128+n / 4096 % 64)).toNat=128+n / 4096 % 64:=Zam (by omega)
   have b3:(UInt8.ofNat (128+n / 64 % 64)).toNat=128+n / 64 % 64:=Zam (by omega)
   have b4:(UInt8.ofNat (128+n % 64)).toNat=128+n % 64:=Zam (by omega)
   have ht:ZjP (UInt8.ofNat (240+n / 262144)).toNat=(4,if n / 262144=0 then 144 else 128,if n / 262144=4 then 143 else 191):=by
     rw [b1];unfold ZjP
     rw [if_neg (by omega),if_neg (by omega),if_neg (by omega),if_neg (by omega),if_neg (by omega)]
     by_cases c0:n / 262144=0
     ·rw [if_pos (by omega),if_pos c0,if_neg (by omega)]
     ·rw [if_neg (by omega),if_neg c0]
      by_cases c4:n / 262144=4
      ·rw [if_neg (by omega),if_pos (by omega),if_pos c4]
      ·rw [if_pos (by omega),if_neg c4]
   simp only [Xp,nRb,loR,hiR,ht,okC,b2,b3,b4,Bool.and_eq_true,decide_eq_true_eq,List.length_cons,List.length_nil,and_true]
   refine ⟨by omega,⟨?_,?_⟩,by omega⟩
   ·split<;>omega
   ·split<;>omega
theorem ZmT {k:Nat} (h:k<65536):Xp (ZbT (ZeK k))=true:=by
  unfold ZeK
  split
  ·exact ZeL (by decide) (.inr (by decide))
  ·exact ZeL (by omega) (by omega)
theorem ZhU:Xp (ZbT 65533)=true:=ZeL (by decide) (.inr (by decide))
theorem Zn4:∀ c m:UInt8,ZaT c=some m→m.toNat<128:=by
  intro c m h
  unfold ZaT at h
  repeat' split at h
  all_goals (cases h;try decide)
theorem Zmn {c:UInt8} (h:c.toNat<128):Xp [c]=true:=by simp [Xp,Zj5 c h,okC]
theorem Zrg (p:Option Nat):Utf (flB p):=by
  cases p with
  | none=>exact .nil
  | some n=>exact Utf.one ZhU
theorem ZeM:∀ (n:Nat) (p:Option Nat) (out l t r:BL),Utf out→(∀ k,p=some k→Zkb k=true)→X8 n p out l = .ok t r→Utf t
  | 0,_,_,_,_,_,_,_,h=>by cases h
  | n+1,p,out,[],_,_,_,_,h=>by cases h
  | n+1,p,out,c::l,t,r,ho,hp,h=>by
    have hof:Utf (out++flB p):=ho.app (Zrg p)
    rw [Zas] at h
    split at h
    ·cases h
    split at h
    ·cases h;exact hof
    split at h
    ·cases ht:Zgx l with
     | err k q=>rw [ht] at h;cases h
     | ok k q =>
       rw [ht] at h
       have hk:(∀ j,(Zgw p out k).1=some j→Zkb j=true)∧Utf (Zgw p out k).2:=by
         cases k with
         | ch m =>
           refine ⟨fun j hj=>(by cases hj),hof.app (Utf.one (Zmn ?_))⟩
           rcases l with _ | ⟨d,l⟩
           ·cases ht
           ·rw [Za6] at ht
            cases hm:ZaT d with
            | some m'=>rw [hm] at ht;cases ht;exact Zn4 _ _ hm
            | none =>
              rw [hm] at ht
              simp only at ht
              split at ht
              ·obtain ⟨_,_,_,h2⟩:=ZJ ht;cases h2
              ·cases ht
         | uni m =>
           have hm:m<65536:=by
             rcases l with _ | ⟨d,l⟩
             ·cases ht
             ·rw [Za6] at ht
              cases hm:ZaT d with
              | some m'=>rw [hm] at ht;cases ht
              | none =>
                rw [hm] at ht
                simp only at ht
                split at ht
                ·obtain ⟨x,l1,h1,h2⟩:=ZJ ht
                 cases h2
                 have:=ZhP 4 h1
                 omega
                ·cases ht
           cases p with
           | none =>
             unfold Zgw
             simp only
             split
             ·rename_i hh;exact ⟨fun j hj=>by cases hj;exact hh,ho⟩
             ·exact ⟨fun j hj=>(by cases hj),ho.app (Utf.one (ZmT hm))⟩
           | some k =>
             have hk:=hp k rfl
             unfold Zgw
             simp only
             split
             ·rename_i hl
              refine ⟨fun j hj=>(by cases hj),ho.app (Utf.one (ZeL ?_ (.inr ?_)))⟩
              ·simp [Zkb,ZoY] at hk hl;unfold Zmj;omega
              ·unfold Zmj;omega
             split
             ·rename_i hh;exact ⟨fun j hj=>by cases hj;exact hh,ho.app (Utf.one ZhU)⟩
             ·exact ⟨fun j hj=>(by cases hj),(ho.app (Utf.one ZhU)).app (Utf.one (ZmT hm))⟩
       exact ZeM n _ _ _ _ _ hk.2 hk.1 h
    split at h
    ·rename_i hc
     exact ZeM n _ _ _ _ _ (hof.app (Utf.one (Zmn hc))) (fun k hk=>by cases hk) h
    ·cases ht:Xo (c::l) with
     | err k q=>rw [ht] at h;cases h
     | ok k q =>
       rw [ht] at h
       obtain ⟨x,e,hx⟩:=Zfd ht
       refine ZeM n _ _ _ _ _ (hof.app (Utf.one ?_)) (fun k hk=>by cases hk) h
       rw [e,XR]
       exact hx
theorem Zl3 {l t r:BL} (h:Zf8 l = .ok t r):Utf t:=by
  rw [Zdn] at h
  exact ZeM _ _ _ _ _ _ .nil (fun k hk=>by cases hk) h
theorem ZpE {l t r:BL} (h:ZbN Zc4 l = .ok t r):Zc4 t = .ok () []∧t.length+r.length=l.length:=by
  obtain ⟨⟨a,h1⟩,e⟩:=ZcK h
  obtain ⟨x,rfl⟩:=ZeQ.sf.suf h1
  rw [XR] at e
  subst e
  refine ⟨?_,by simp⟩
  rcases r with _ | ⟨c,r⟩
  ·rwa [List.append_nil] at h1
  ·exact (ZeQ.pe (t.length+1)).cutO (by omega) h1
def Zco:JL→Nat
  | .nil=>0
  | .cons _ _ _ sub rest=>1+Zco sub+Zco rest
def Zf4 (v:JV):Nat:=1+Zco v.sub
theorem Zh2 (v:JV):∀ l:JL,Zco (l.snoc v)=Zco l+Zf4 v
  | .nil=>by simp [JL.snoc,Zco,Zf4]
  | .cons _ _ _ _ r=>by simp only [JL.snoc,Zco,Zh2 v r];omega
theorem Zc0 {d:Nat} {v:JV} (hv:Zcy d v):∀ {l:JL},ZaP d l→ZaP d (l.snoc v)
  | .nil,_=>hv
  | .cons k t ns s r,h=>by
    cases d with
    | zero=>exact ⟨h.1,h.2.1,h.2.2.1,Zc0 hv h.2.2.2⟩
    | succ d=>exact ⟨h.1,h.2.1,Zc0 hv h.2.2⟩
theorem Zlb {l nm r:BL} (h:ZcF l = .ok nm r):Utf nm∧r.length+1≤l.length:=by
  refine ⟨?_,Zfu.2.len h⟩
  unfold ZcF at h
  split at h
  ·split at h
   ·obtain ⟨t,l2,h1,h2⟩:=ZJ h
    split at h2
    ·split at h2
     ·cases h2;exact Zl3 h1
     ·cases h2
    ·cases h2
   ·cases h
  ·cases h
theorem Zbq (l:BL):(Z3 l).length≤l.length:=(Zii l).length_le
def Zf1 (d:Nat) (ob:Bool) (ns:List BL) (sub:JL):Prop:=ZaP d sub∧(ob=true→ns.length=sub.len∧∀ m∈ns,Utf m)∧(ob=false→ns=[])
theorem ZgR {d:Nat} (hv:∀ l v r,l.length≤65536→ZI d l = .ok v r→Zcy d v∧Zf4 v+r.length≤l.length) (ob:Bool):∀ (m:Nat) (ns:List BL) (sub:JL) (l:BL) (p:List BL × JL) (r:BL),
    l.length≤65536→Zf1 d ob ns sub→ZbJ (ZI d) ob m ns sub l = .ok p r→Zf1 d ob p.1 p.2∧Zco p.2+r.length≤Zco sub+l.length
  | 0,_,_,_,_,_,_,_,h=>by cases h
  | m+1,ns,sub,l,p,r,hlen,ho,h=>by
    have part:∀ l' q w,l'.length≤65536→Xs (ZI d) ob ns sub l' = .ok q w→Zf1 d ob q.1 q.2∧Zco q.2+w.length≤Zco sub+l'.length:=fun l' q w hlq hq=>by
      unfold Xs at hq
      split at hq
      ·rename_i hob
       obtain ⟨nm,l3,h1,h2⟩:=ZJ hq
       obtain ⟨v,l4,h3,h4⟩:=ZJ h2
       cases h4
       obtain ⟨a,b⟩:=Zlb h1
       obtain ⟨c,e⟩:=hv _ _ _ (by omega) h3
       obtain ⟨o1,o2,o3⟩:=ho
       refine ⟨⟨Zc0 c o1,fun _=>⟨?_,?_⟩,fun hh=>?_⟩,?_⟩
       ·simp only [List.length_append,JL.len_snoc,(o2 hob).1,List.length_singleton]
       ·intro x hx
        rcases List.mem_append.1 hx with hx | hx
        ·exact (o2 hob).2 x hx
        ·simp at hx;rw [hx];exact a
       ·rw [hob] at hh;cases hh
       ·dsimp only
        rw [Zh2]
        have:=Zbq l4
        omega
      ·rename_i hob
       obtain ⟨v,l4,h3,h4⟩:=ZJ hq
       cases h4
       obtain ⟨c,e⟩:=hv _ _ _ (by have:=Zbq l';omega) h3
       obtain ⟨o1,o2,o3⟩:=ho
       refine ⟨⟨Zc0 c o1,fun hh=>absurd hh hob,fun hh=>o3 hh⟩,?_⟩
       dsimp only
       rw [Zh2]
       have:=Zbq l4
       have:=Zbq l'
       omega
    have go:∀ l',l'.length≤l.length→((Xs (ZI d) ob ns sub l').bind fun p l2=>ZbJ (ZI d) ob m p.1 p.2 l2) = .ok p r→Zf1 d ob p.1 p.2∧Zco p.2+r.length≤Zco sub+l.length:=fun l' hl hq=>by
      obtain ⟨q,w,h1,h2⟩:=ZJ hq
      obtain ⟨a,b⟩:=part _ _ _ (by omega) h1
      have:=(Zab (YM d).1 (YM d).2 ob ns sub).2.len h1
      obtain ⟨c,e⟩:=ZgR hv ob m _ _ _ _ _ (by omega) a h2
      exact ⟨c,by omega⟩
    unfold ZbJ at h
    split at h
    ·cases h;exact ⟨ho,by simp⟩
    split at h
    ·exact go _ (Nat.le_refl _) h
    split at h
    ·exact go _ (by simp) h
    ·cases l<;>cases h
theorem Zfp {op:Bool→BL→Out JV} {d:Nat} (hop:∀ b c l v r,(c::l).length≤65536→op b (c::l) = .ok v r→Zcy d v∧Zf4 v+r.length≤(c::l).length):∀ l v r,l.length≤65536→Za4 op l = .ok v r→Zcy d v∧Zf4 v+r.length≤l.length:=by
  intro l v r hlen h
  have hsk:=Zbq l
  have rj:∀ {k:Nat} {t:BL},Zci k t [] .nil→k≠6→k≠7→Zcy d ⟨k,t,[],.nil⟩:=fun {k t} hk h6 h7=>by
    cases d with
    | zero=>exact ⟨hk,h6,h7,trivial⟩
    | succ d=>exact ⟨hk,trivial,trivial⟩
  unfold Za4 at h
  split at h
  ·cases h
  ·rename_i c l1 e
   rw [e] at hsk
   split at h
   ·have:=hop _ _ _ _ _ (by omega) h;exact ⟨this.1,by omega⟩
   split at h
   ·have:=hop _ _ _ _ _ (by omega) h;exact ⟨this.1,by omega⟩
   split at h
   ·obtain ⟨t,r1,h1,h2⟩:=ZJ h
    cases h2
    have hl:r.length+1≤l1.length:=by rw [Zdn] at h1;exact (Zrz none []).len h1
    exact ⟨rj (.inr (.inr (.inl ⟨rfl,Zl3 h1,rfl,rfl⟩))) (by decide) (by decide),by simp [Zf4,Zco] at hsk ⊢;omega⟩
   split at h
   ·obtain ⟨t,r1,h1,h2⟩:=ZJ h
    cases h2
    have hl:=(Za2 [110,117,108,108] (by decide)).2.len h1
    exact ⟨rj (.inl ⟨.inl rfl,rfl,rfl,rfl⟩) (by decide) (by decide),by simp [Zf4,Zco] at hsk hl ⊢;omega⟩
   split at h
   ·obtain ⟨t,r1,h1,h2⟩:=ZJ h
    cases h2
    have hl:=(Za2 [102,97,108,115,101] (by decide)).2.len h1
    exact ⟨rj (.inl ⟨.inr (.inl rfl),rfl,rfl,rfl⟩) (by decide) (by decide),by simp [Zf4,Zco] at hsk hl ⊢;omega⟩
   split at h
   ·obtain ⟨t,r1,h1,h2⟩:=ZJ h
    cases h2
    have hl:=(Za2 [116,114,117,101] (by decide)).2.len h1
    exact ⟨rj (.inl ⟨.inr (.inr rfl),rfl,rfl,rfl⟩) (by decide) (by decide),by simp [Zf4,Zco] at hsk hl ⊢;omega⟩
   split at h
   ·obtain ⟨t,r1,h1,h2⟩:=ZJ h
    cases h2
    have hg:ZbN Zc4 (c::l1) = .ok (Zf7 (c::l1) r) r:=by unfold ZbN;rw [h1];rfl
    obtain ⟨a,b⟩:=ZpE hg
    have hl:=ZoP.len h1
    exact ⟨rj (.inr (.inl ⟨rfl,a,by omega,rfl,rfl⟩)) (by decide) (by decide),by simp [Zf4,Zco] at hsk hl ⊢;omega⟩
   ·cases h
theorem Ze4:∀ (d:Nat) (l:BL) (v:JV) (r:BL),l.length≤65536→ZI d l = .ok v r→Zcy d v∧Zf4 v+r.length≤l.length
  | 0,l,v,r,hlen,h=>Zfp (op:=fun _ l=>YS 23 l) (fun b c l v r _ h=>by cases h) l v r hlen h
  | d+1,l,v,r,hlen,h=>by
    refine Zfp (op:=Zit (ZI d)) (fun b c l v r hl h=>?_) l v r hlen h
    obtain ⟨p,q,h1,h2⟩:=ZJ h
    cases h2
    have hs:=Zbq l
    have h0:Zf1 d b [] .nil:=⟨by cases d<;>exact trivial,fun _=>⟨rfl,fun m hm=>by cases hm⟩,fun _=>rfl⟩
    obtain ⟨⟨o1,o2,o3⟩,o4⟩:=ZgR (Ze4 d) b _ _ _ _ _ _ (by simp at hl ⊢;omega) h0 h1
    refine ⟨⟨?_,o1,trivial⟩,?_⟩
    ·cases b with
     | true=>exact .inr (.inr (.inr (.inr ⟨rfl,rfl,o2 rfl⟩)))
     | false=>exact .inr (.inr (.inr (.inl ⟨rfl,rfl,o3 rfl⟩)))
    ·have e:Zco JL.nil=0:=rfl
     have hs':(Z3 (c::l).tail).length≤l.length:=hs
     simp only [Zf4,List.length_cons]
     omega
theorem Zdq {l:BL} {v:JV} (h:Xm l = .ok v):Zcy 64 v∧Zf4 v≤65536∧l.length≤65536:=by
  by_cases hl:l.length≤65536
  ·rw [ZbX hl] at h
   cases h1:ZI 64 l with
   | err k q=>rw [h1] at h;cases h
   | ok w r =>
     rw [h1] at h
     simp only at h
     obtain ⟨a,b⟩:=Ze4 64 l w r hl h1
     split at h
     ·cases h
      exact ⟨a,by omega,hl⟩
     ·cases h
  ·rw [Zei (by omega)] at h;cases h
end Go.Js
namespace Go.Proofs.YtpjbjdheeemdiaaGreatDoor
open Go Go.Fw Go.Js
theorem Ze1 {n:Int} (h0 : -2147483648≤n) (h1:n≤2147483647):IntKind.wrap .i32 n=n:=by
  unfold IntKind.wrap
  have hb:(2:Int) ^ IntKind.i32.bits=4294967296:=by decide
  have hb':(2:Int) ^ (IntKind.i32.bits - 1)=2147483648:=by decide
  have hs:IntKind.i32.signed=true:=rfl
  simp only [hb,hb',hs,Bool.true_and]
  rcases Int.lt_or_le n 0 with h | h
  ·have:n % 4294967296=n+4294967296:=by omega
   rw [this,if_pos (by simp;omega)]
   omega
  ·have:n % 4294967296=n:=by omega
   rw [this,if_neg (by simp;omega)]
theorem Zpc {n:Int} (h0:0≤n) (h1:n<4294967296):IntKind.wrap .u32 n=n:=by
  unfold IntKind.wrap
  have hb:(2:Int) ^ IntKind.u32.bits=4294967296:=by decide
  have hs:IntKind.u32.signed=false:=rfl
  simp only [hb,hs,Bool.false_and,Bool.false_eq_true,if_false]
  omega
theorem ZqO {n k:Nat} (hk:k≤20) (h:n*2 ^ k<2147483648):Znv .i32 (n:Int) (k:Int)=((n*2 ^ k:Nat):Int):=by
  unfold Znv
  rw [Int.toNat_natCast,show min k IntKind.i32.bits=k from Nat.min_eq_left (by show k≤32;omega)]
  rw [show (n:Int)*2 ^ k=((n*2 ^ k:Nat):Int) by push_cast;rfl,Ze1 (by omega) (by omega)]
theorem Zu8 {a d:Nat} (ha:a*16<2147483648) (hd:d<16):orV .i32 ((a*16:Nat):Int) (d:Int)=((a*16+d:Nat):Int):=by
  unfold orV
  have hb:IntKind.i32.bits=32:=rfl
  rw [hb,BitVec.ofInt_natCast,BitVec.ofInt_natCast,BitVec.toNat_or,BitVec.toNat_ofNat,BitVec.toNat_ofNat,Nat.mod_eq_of_lt (by omega),Nat.mod_eq_of_lt (by omega)]
  have h1:a*16+d=a*16 ||| d:=by
    have:=Nat.shiftLeft_add_eq_or_of_lt (b:=d) (i:=4) (by omega) a
    rwa [Nat.shiftLeft_eq] at this
  rw [← h1,Ze1 (by omega) (by omega)]
theorem ZfD {N c:Nat} {d:Nat} (hN:N<65536) (hd:d<16) {x:Int} (hx:x=(d:Int)):orV .i32 (Znv .i32 (N:Int) 4) (IntKind.wrap .i32 x)=((N*16+d:Nat):Int):=by
  subst hx
  rw [show ((4:Int))=((4:Nat):Int) from rfl,ZqO (by omega) (by omega),Ze1 (by omega) (by omega)]
  exact Zu8 (by omega) hd
theorem ZkO {n k:Nat} (hk:k≤20):ZkN .i32 (n:Int) (k:Int)=((n / 2 ^ k:Nat):Int):=by
  unfold ZkN
  rw [Int.toNat_natCast,show min k IntKind.i32.bits=k from Nat.min_eq_left (by show k≤32;omega)]
  have:(2:Int) ^ k=((2 ^ k:Nat):Int):=by push_cast;rfl
  rw [this,Int.fdiv_eq_ediv_of_nonneg _ (Int.natCast_nonneg _)]
  rfl
theorem w8 (n:Nat):IntKind.wrap .u8 (n:Int)=((n % 256:Nat):Int):=by rw [ZlF];rfl
theorem ZsH {a:Nat} (ha:a<256):ZkB .u8 (a:Int) 63=((a % 64:Nat):Int):=by
  have:∀ b:Fin 256,ZkB .u8 ((b.val:Nat):Int) 63=((b.val % 64:Nat):Int):=by decide +kernel
  exact this ⟨a,ha⟩
theorem Zsp {a:Nat} (ha:a<64):orV .u8 128 (a:Int)=((128+a:Nat):Int):=by
  have:∀ b:Fin 64,orV .u8 128 ((b.val:Nat):Int)=((128+b.val:Nat):Int):=by decide +kernel
  exact this ⟨a,ha⟩
theorem Zso {a:Nat} (ha:a<32):orV .u8 192 (a:Int)=((192+a:Nat):Int):=by
  have:∀ b:Fin 32,orV .u8 192 ((b.val:Nat):Int)=((192+b.val:Nat):Int):=by decide +kernel
  exact this ⟨a,ha⟩
theorem Zsn {a:Nat} (ha:a<16):orV .u8 224 (a:Int)=((224+a:Nat):Int):=by
  have:∀ b:Fin 16,orV .u8 224 ((b.val:Nat):Int)=((224+b.val:Nat):Int):=by decide +kernel
  exact this ⟨a,ha⟩
theorem Zsm {a:Nat} (ha:a<8):orV .u8 240 (a:Int)=((240+a:Nat):Int):=by
  have:∀ b:Fin 8,orV .u8 240 ((b.val:Nat):Int)=((240+b.val:Nat):Int):=by decide +kernel
  exact this ⟨a,ha⟩
theorem Znc {n:Nat} (h:n<256):Value.int .u8 (n:Int)=bv (UInt8.ofNat n):=by
  unfold bv;rw [Zam h]
theorem ZbO (n:Nat):Value.int .u8 (orV .u8 128 (ZkB .u8 (IntKind.wrap .u8 (n:Int)) 63))=bv (UInt8.ofNat (128+n % 64)):=by
  rw [w8,ZsH (by omega),Zsp (by omega),show n % 256 % 64=n % 64 by omega]
  exact Znc (by omega)
theorem Zlh (c:UInt8):(48≤c.toNat∧c.toNat≤57∧ZeI c=some (c.toNat - 48))∨(¬ (48≤c.toNat∧c.toNat≤57)∧97≤c.toNat∧c.toNat≤102∧ZeI c=some (c.toNat - 87)) ∨
    (¬ (48≤c.toNat∧c.toNat≤57)∧¬ (97≤c.toNat∧c.toNat≤102)∧65≤c.toNat∧c.toNat≤70∧ZeI c=some (c.toNat - 55)) ∨
    (¬ (48≤c.toNat∧c.toNat≤57)∧¬ (97≤c.toNat∧c.toNat≤102)∧¬ (65≤c.toNat∧c.toNat≤70)∧ZeI c=none):=by
  unfold ZeI
  by_cases h1:48≤c.toNat∧c.toNat≤57
  ·rw [if_pos h1];exact .inl ⟨h1.1,h1.2,rfl⟩
  rw [if_neg h1]
  by_cases h2:97≤c.toNat∧c.toNat≤102
  ·rw [if_pos h2];exact .inr (.inl ⟨h1,h2.1,h2.2,rfl⟩)
  rw [if_neg h2]
  by_cases h3:65≤c.toNat∧c.toNat≤70
  ·rw [if_pos h3];exact .inr (.inr (.inl ⟨h1,h2,h3.1,h3.2,rfl⟩))
  ·rw [if_neg h3];exact .inr (.inr (.inr ⟨h1,h2,h3,rfl⟩))
theorem ZiG (k n:Nat) (c:UInt8) (l:BL):Zdd (k+1) n (c::l)=match ZeI c with
    | some d=>Zdd k (n*16+d) l
    | none=> .err 22 (c::l):=rfl
theorem Zkc {h:Zc} {R:Nat} {s:ByteArray} {l:BL} (hr:Rd h R s l) {K:Int→HP} {P:Value→HP}
    (hok:∀ (n:Nat) r h',Zdd 4 0 l = .ok n r→Rd h' R s r→Upd (· = R) h h'→sz h'=sz h→K n h') (herr:OnE h R s (· = R) (Zdd 4 0 l) P):Y1 (At R) K P h:=by
  unfold Y1 Zau
  refine Za (Za ?_)
  refine ZL (fun p h'=>∃ (N k:Nat) (l':BL),p.1=N∧p.2.1=((4 - k:Nat):Int)∧k≤4∧N<16 ^ (4 - k)∧Zdd k N l'=Zdd 4 0 l∧Rd h' R s l'∧Upd (· = R) h h'∧sz h'=sz h) (fun p _=>(4 - p.2.1).toNat) ⟨0,4,l,rfl,rfl,by omega,by decide,rfl,hr,Upd.refl _ _,rfl⟩ ?_
  rintro ⟨n1,s5,u⟩ h2 ⟨N,k,l2,e1,e2,hk,hN,q2,r2,u2,z2⟩
  dsimp only at e1 e2 ⊢
  subst e1 e2
  refine Zo (fun hlt=>?_) fun hge=>?_
  ·obtain ⟨k,rfl⟩:∃ k',k=k'+1:=⟨k - 1,by omega⟩
   have hN2:N<65536:=by
     have:16 ^ (4 - (k+1))≤16 ^ 4:=Nat.pow_le_pow_right (by decide) (by omega)
     omega
   refine Yu r2 (Za ?_)
   refine ZC (fun p h'=>h'=h2∧∃ c l3 d,l2=c::l3∧ZeI c=some d∧p.1=((N*16+d:Nat):Int)) ?_ ?_
   ·rintro ⟨n,u⟩ h3 ⟨rfl,c,l3,d,rfl,hd,hn⟩
    dsimp only at hn ⊢
    subst hn
    refine X7 r2 fun h4 r4 u4 z4=>?_
    rw [Ys (by omega) (by omega)]
    refine ⟨⟨N*16+d,k,l3,rfl,by omega,by omega,?_,?_,r4,u2.trans u4,z4.trans z2⟩,by omega⟩
    ·have h16:=ZmL hd
     rw [show 4 - k=(4 - (k+1))+1 by omega,Nat.pow_succ]
     omega
    ·rw [← q2,ZiG,hd]
   ·
    have bad:(∀ c l3,l2=c::l3→ZeI c=none)→∀ e' r,(YS 22 l2:Out Nat) = .err e' r→r=l2→P (Zbp e' (s.size - r.length)) h2:=fun hno e' r he hr'=>by
      refine herr e' r h2 ?_ u2
      rw [← q2,← he]
      rcases l2 with _ | ⟨c,l3⟩
      ·rfl
      ·rw [ZiG,hno c l3 rfl];rfl
    refine ZC (fun p h'=>h'=h2∧p.1=decide (48≤Xk l2∧Xk l2≤57)) ?_ ?_
    ·rintro ⟨b,u⟩ h3 ⟨rfl,hb⟩
     dsimp only at hb ⊢
     subst hb
     rcases l2 with _ | ⟨c,l3⟩
     ·refine Zt (by simp [Xk]) ?_
      have hf:=bad fun c l3 e=>by cases e
      refine Zt (by simp [Xk]) (Zt (by simp [Xk]) (Xf r2 rfl hf))
     ·have hz:Xk (c::l3)=(c.toNat:Int):=rfl
      generalize Xk (c::l3)=z at hz ⊢
      subst hz
      rcases Zlh c with ⟨a1,a2,hd⟩ | ⟨a0,a1,a2,hd⟩ | ⟨a0,b0,a1,a2,hd⟩ | ⟨a0,b0,c0,hd⟩
      ·refine Zp (by simp;omega) ⟨by decide,Za ⟨rfl,c,l3,_,rfl,hd,ZfD (c:=0) hN2 (by omega) ?_⟩⟩
       rw [ZlG (by omega) (by omega)];omega
      ·refine Zt (by simp;omega) (Zp (by simp;omega) (Zg (Zp (by simp;omega) ⟨by decide,Za ⟨rfl,c,l3,_,rfl,hd,ZfD (c:=0) hN2 (by omega) ?_⟩⟩)))
       rw [ZlG (n:=(c.toNat:Int) - 97) (by omega) (by omega),ZlG (by omega) (by omega)];omega
      ·refine Zt (by simp;omega) (Zt (by simp;omega) (Zp (by simp;omega) (Zg (Zp (by simp;omega) ⟨by decide,Za ⟨rfl,c,l3,_,rfl,hd,ZfD (c:=0) hN2 (by omega) ?_⟩⟩))))
       rw [ZlG (n:=(c.toNat:Int) - 65) (by omega) (by omega),ZlG (by omega) (by omega)];omega
      ·have hf:=bad fun c' l3' e=>by cases e;exact hd
       refine Zt (by simp;omega) (Zo (fun h97=>Zg (Zt (by simp;omega) (Zp (by simp;omega) (Zg (Zt (by simp;omega) (Xf r2 rfl hf)))))) fun h97=>Zo (fun h65=>Zg (Zt (by simp;omega) (Xf r2 rfl hf))) fun h65=>Xf r2 rfl hf)
    ·refine Zo (fun h48=>Zg ⟨rfl,?_⟩) fun h48=>⟨rfl,?_⟩
     ·simp;omega
     ·simp;omega
  ·obtain rfl:k=0:=by omega
   refine Za (hok N l2 h2 ?_ r2 u2 z2)
   rw [← q2];rfl
theorem Zhn (n:Nat):(ZbT n).length≤4:=by
  unfold ZbT
  split
  ·exact Nat.le_of_ble_eq_true rfl
  split
  ·exact Nat.le_of_ble_eq_true rfl
  split
  ·exact Nat.le_of_ble_eq_true rfl
  ·exact Nat.le_of_ble_eq_true rfl
theorem ZfY {h:Zc} {base:Nat} {x:Sl} {l:BL} {n:Nat} (hb:Buf h base x l) (hbase:base≤sz h) (hn:n<1114112) (hsur:n<55296∨57344≤n) (hs:l.length+4≤1000000000) {K:Sl→HP}
    (hk:∀ x' h',Buf h' base x' (l++ZbT n)→Upd (fun k=>base≤k) h h'→sz h≤sz h'→K x' h'):Z4 x n K h:=by
  unfold Z4 YU
  have go:∀ (new:BL) (cells:List Value) (m:Nat) (K':Sl→HP),ZbT n=new→cells=new.map bv→m=new.length→(∀ x' h',K' x' h'↔K x' h') →
      newC h cells 5 fun b h1=>rdS ⟨some ⟨b,0,none⟩,m,m⟩ 1 h1 fun nw=>Fw.app 5 1 1 [.int .u8 0] x m nw h1 K':=by
    intro new cells m K' hu hc hm hK
    have h4:(ZbT n).length≤4:=Zhn n
    rw [hu] at h4
    refine Zst new m hc hm.symm (by omega) fun b h1 hr e1 _=>hr.rd ?_
    have hx:=hb.congr (h':=h1) fun k hk hl=>Ym e1 hl
    have hsz:=e1.size
    refine hx.app (by have:sz h1=h1.size:=rfl;have:sz h=h.size:=rfl;omega) hm rfl (by omega) fun x' h6 hx6 u6 z6=>(hK _ _).2 (hk x' h6 (by rw [hu];exact hx6) ((e1.upd _).trans u6) (by have:sz h1=h1.size:=rfl;have:sz h=h.size:=rfl;omega))
  have w:IntKind.wrap .u32 (n:Int)=n:=Zpc (by omega) (by omega)
  rw [w]
  refine Zo (fun h1=>?_) fun h1=>?_
  ·refine go [UInt8.ofNat n] _ 1 _ (by unfold ZbT;rw [if_pos (by omega)]) ?_ rfl fun _ _=>Iff.rfl
   rw [w8,show n % 256=n by omega,Znc (by omega)];rfl
  ·unfold ZQ Yd
   rw [w]
   refine Za (Zg (Zo (fun h2=>⟨by decide,?_⟩) fun h2=>?_))
   ·refine go [UInt8.ofNat (192+n / 64),UInt8.ofNat (128+n % 64)] _ 2 _ (by unfold ZbT;rw [if_neg (by omega),if_pos (by omega)]) ?_ rfl fun _ _=>Iff.rfl
    rw [ZbO,show ((6:Int))=((6:Nat):Int) from rfl,ZkO (by omega),w8,show n / 2 ^ 6 % 256=n / 64 by omega,Zso (by omega),Znc (by omega)];rfl
   ·refine ZC (fun p h'=>h'=h∧p.1=decide (n≤65535)) ?_ ?_
    ·rintro ⟨b,u⟩ h3 ⟨rfl,hb3⟩
     dsimp only at hb3 ⊢
     subst hb3
     refine Zo (fun h4=>⟨by decide,by decide,?_⟩) fun h4=>Zp (by simp;omega) (Zg (Zp (by simp;omega) ⟨by decide,by decide,by decide,?_⟩))
     ·refine go [UInt8.ofNat (224+n / 4096),UInt8.ofNat (128+n / 64 % 64),UInt8.ofNat (128+n % 64)] _ 3 _ (by unfold ZbT;rw [if_neg (by omega),if_neg (by omega),if_pos (by omega)]) ?_ rfl fun _ _=>Iff.rfl
      rw [ZbO,show ((6:Int))=((6:Nat):Int) from rfl,show ((12:Int))=((12:Nat):Int) from rfl,ZkO (k:=12) (by omega),ZkO (k:=6) (by omega),ZbO,w8,show n / 2 ^ 12 % 256=n / 4096 by omega,show n / 2 ^ 6=n / 64 by rfl,Zsn (by omega),Znc (by omega)];rfl
     ·refine go [UInt8.ofNat (240+n / 262144),UInt8.ofNat (128+n / 4096 % 64),UInt8.ofNat (128+n / 64 % 64),UInt8.ofNat (128+n % 64)] _ 4 _ (by unfold ZbT;rw [if_neg (by omega),if_neg (by omega),if_neg (by omega)]) ?_ rfl fun _ _=>Iff.rfl
      rw [ZbO,show ((6:Int))=((6:Nat):Int) from rfl,show ((12:Int))=((12:Nat):Int) from rfl,show ((18:Int))=((18:Nat):Int) from rfl,ZkO (k:=18) (by omega),ZkO (k:=12) (by omega),ZkO (k:=6) (by omega),ZbO,ZbO,w8,show n / 2 ^ 18 % 256=n / 262144 by omega,show n / 2 ^ 6=n / 64 by rfl,show n / 2 ^ 12=n / 4096 by rfl,Zsm (by omega),Znc (by omega)];rfl
    ·refine Zg (Zo (fun h5=>⟨rfl,?_⟩) fun h5=>Zp (by simp;omega) (Zg ⟨rfl,?_⟩))
     ·simp;omega
     ·simp;omega
theorem Zde {h:Zc} {B:Nat} {T:TypeId} {out:BL} (hb:Bld h B T out) {n:Nat} (hn:n<1114112) (hsur:n<55296∨57344≤n) {n0:Int} (hn0:n0=n) (hs:out.length<900000000) {K:Int→Value→HP} (hk:∀ i h',Bld h' B T (out++ZbT n)→Upd (fun k=>B≤k) h h'→K i .nilIface h'):ZZ (At B) n0 K h:=by
  subst hn0
  unfold ZZ YI
  refine Za (ZfW hb fun h1 x b1 u1 c1 hx z1=>ZP (rL (Zm c1 rfl) (Za (ZP (rL (Zm c1 rfl) ?_)))))
  refine ZfY hx (by have:=b1.lt;omega) hn hsur (by omega) fun x' h6 hx6 u6 z6=>?_
  exact ZjA b1.1 c1 u6 hx6 fun h9 b9 u9 c9=>ZP (rL (Zm c9 rfl) (Za (hk _ h9 b9 (u1.trans u9))))
end Go.Proofs.YtpjbjdheeemdiaaGreatDoor
namespace Go.Js
open Go
theorem Zl0:∀ b:Fin 256,2≤nRb ⟨⟨b⟩⟩→nRb ⟨⟨b⟩⟩≤4∧(loR ⟨⟨b⟩⟩=128∨loR ⟨⟨b⟩⟩=144∨loR ⟨⟨b⟩⟩=160)∧loR ⟨⟨b⟩⟩≤hiR ⟨⟨b⟩⟩:=by decide +kernel
theorem ZqL:∀ c:UInt8,2≤nRb c→nRb c≤4∧(loR c=128∨loR c=144∨loR c=160)∧loR c≤hiR c:=fun ⟨⟨b⟩⟩=>Zl0 b
theorem Zsu (c:UInt8):nRb c≤4:=by
  by_cases h:2≤nRb c
  ·exact (ZqL c h).1
  ·omega
theorem Zji:∀ {lo hi:Nat} {r t:BL},okC lo hi (r++t)=(okC lo hi r&&(if r=[] then okC lo hi t else okC 128 191 t))
  | lo,hi,[],t=>by simp [okC]
  | lo,hi,d::r,t=>by
    simp only [List.cons_append,okC,Zji (r:=r)]
    by_cases hr:r=[]
    ·subst hr;simp [okC,Bool.and_assoc]
    ·simp [hr,Bool.and_assoc]
theorem ZgJ {x t:BL} (hx:x≠[]) (h:Xp (x++t)=true):ZgK x=true:=by
  rcases x with _ | ⟨c,r⟩
  ·exact absurd rfl hx
  ·simp only [List.cons_append,Xp,Bool.and_eq_true,decide_eq_true_eq,List.length_append] at h
   rw [Zji,Bool.and_eq_true] at h
   simp only [ZgK,Bool.and_eq_true,decide_eq_true_eq]
   exact ⟨⟨h.1.1,by omega⟩,h.2.1⟩
theorem Zpq {x:BL} (h:ZgK x=true):x.length≤4∧(Xp x=false→x.length≤3):=by
  rcases x with _ | ⟨c,r⟩
  ·cases h
  ·simp only [ZgK,Bool.and_eq_true,decide_eq_true_eq] at h
   have:=Zsu c
   refine ⟨by simp;omega,fun hn=>?_⟩
   have:r.length+1≠nRb c:=fun e=>by simp [Xp,e,h.2,h.1.1] at hn
   simp;omega
def ZoX:List BL:=[[128,128,128],[144,128,128],[160,128,128]]
theorem Zq1 {x:BL} (h:ZgK x=true) (hn:Xp x=false):∃ low,low∈ZoX∧∃ n,x.length<n∧n≤4∧Xp (x++low.take (n - x.length))=true:=by
  rcases x with _ | ⟨c,r⟩
  ·cases h
  simp only [ZgK,Bool.and_eq_true,decide_eq_true_eq] at h
  obtain ⟨⟨h0,hl⟩,hc⟩:=h
  have hne:r.length+1≠nRb c:=fun e=>by simp [Xp,e,hc,h0] at hn
  have h2:2≤nRb c:=by omega
  obtain ⟨h4,hlo,hh⟩:=ZqL c h2
  have key:∀ low:BL,low.length=3→(if r=[] then okC (loR c) (hiR c) (low.take (nRb c - (r.length+1))) else okC 128 191 (low.take (nRb c - (r.length+1))))=true→Xp (c::r++low.take (nRb c - (c::r).length))=true:=fun low hlen hok=>by
    simp only [List.cons_append,Xp,Bool.and_eq_true,decide_eq_true_eq,List.length_append,List.length_take,List.length_cons]
    refine ⟨⟨h0,by omega⟩,?_⟩
    rw [Zji,hc,Bool.true_and]
    exact hok
  have cont:∀ m,okC 128 191 (([128,128]:BL).take m)=true:=fun m=>by
    rcases m with _ | _ | _ | m<;>rfl
  have ok3:∀ (a:UInt8) (m:Nat),(loR c≤a.toNat∧a.toNat≤hiR c)→okC (loR c) (hiR c) (([a,128,128]:BL).take m)=true:=fun a m ha=>by
    rcases m with _ | m
    ·rfl
    ·rw [List.take_succ_cons]
     simp only [okC,Bool.and_eq_true,decide_eq_true_eq]
     exact ⟨ha,cont m⟩
  have ok9:∀ (m:Nat),okC 128 191 (([128,128,128]:BL).take m)=true:=fun m=>by
    rcases m with _ | _ | _ | _ | m<;>rfl
  by_cases hr:r=[]
  ·rcases hlo with e | e | e
   ·exact ⟨[128,128,128],by simp [ZoX],nRb c,by simp;omega,h4,key _ rfl (by rw [if_pos hr];exact ok3 128 _ (by rw [e] at hh ⊢;exact ⟨by decide,hh⟩))⟩
   ·exact ⟨[144,128,128],by simp [ZoX],nRb c,by simp;omega,h4,key _ rfl (by rw [if_pos hr];exact ok3 144 _ (by rw [e] at hh ⊢;exact ⟨by decide,hh⟩))⟩
   ·exact ⟨[160,128,128],by simp [ZoX],nRb c,by simp;omega,h4,key _ rfl (by rw [if_pos hr];exact ok3 160 _ (by rw [e] at hh ⊢;exact ⟨by decide,hh⟩))⟩
  ·exact ⟨[128,128,128],by simp [ZoX],nRb c,by simp;omega,h4,key _ rfl (by rw [if_neg hr];exact ok9 _)⟩
theorem Zgv {x:BL} (h:Xp x=true):Lib.validD x=true:=by
  rcases x with _ | ⟨c,r⟩
  ·cases h
  ·have ht:(c::r).take (nRb c)=c::r:=by
     simp only [Xp,Bool.and_eq_true,decide_eq_true_eq] at h
     exact List.take_of_length_le (by simp;omega)
   have h2:=(Xy c r).2 (by rw [ht];exact h)
   have h3:=((Xy c r).1 h2).1
   rw [Lib.validD_step _ (by simp),if_neg h2,h3]
   have:(c::r).drop (nRb c)=[]:=by
     simp only [Xp,Bool.and_eq_true,decide_eq_true_eq] at h
     exact List.drop_of_length_le (by simp;omega)
   rw [this];rfl
theorem Zlr (s:ByteArray) (pos:Nat) (hp:pos<s.size) (fuel:Nat):1≤Lib.runeCountFrom s (fuel+1) pos:=by
  unfold Lib.runeCountFrom;rw [if_pos hp];omega
theorem Zm3 (c:UInt8) (r:BL):(Lib.decodeL (c::r)).2≤r.length+1:=by
  by_cases hb:(Lib.decodeL (c::r)).1=65533∧(Lib.decodeL (c::r)).2=1
  ·omega
  ·obtain ⟨e,ho⟩:=(Xy c r).1 hb
   rw [e]
   rcases hn:nRb c with _ | n
   ·omega
   ·rw [hn,List.take_succ_cons] at ho
    simp only [Xp,Bool.and_eq_true,decide_eq_true_eq,List.length_take] at ho
    omega
theorem ZiP {c:UInt8} {r:BL}:Lib.runeCount ⟨(c::r).toArray⟩=1↔(Lib.decodeL (c::r)).2=r.length+1:=by
  have hsz:(⟨(c::r).toArray⟩:ByteArray).size=r.length+1:=rfl
  have hw:=Zm3 c r
  unfold Lib.runeCount
  rw [hsz]
  have e:Lib.runeCountFrom ⟨(c::r).toArray⟩ (r.length+1) 0=1+Lib.runeCountFrom ⟨(c::r).toArray⟩ r.length (Lib.decodeL (c::r)).2:=by
    conv=>lhs;unfold Lib.runeCountFrom
    rw [hsz,if_pos (Nat.succ_pos _),Nat.zero_add]
    rfl
  rw [e]
  by_cases hl:(Lib.decodeL (c::r)).2<r.length+1
  ·obtain ⟨f,hf⟩:∃ f,r.length=f+1:=⟨r.length - 1,by have:=Lib.decodeL_width (c::r);omega⟩
   have:=Zlr ⟨(c::r).toArray⟩ (Lib.decodeL (c::r)).2 (by rw [hsz];exact hl) f
   rw [hf] at hl ⊢
   omega
  ·rw [Lib.runeCountFrom_end _ _ _ (by rw [hsz];exact hl)]
   omega
theorem ZbY {x:BL}:(Lib.validD x=true∧Lib.runeCount ⟨x.toArray⟩=1)↔Xp x=true:=by
  rcases x with _ | ⟨c,r⟩
  ·constructor
   ·rintro ⟨_,h⟩;cases h
   ·intro h;cases h
  constructor
  ·rintro ⟨hv,h1⟩
   rw [ZiP] at h1
   rw [Lib.validD_step _ (by simp)] at hv
   split at hv
   ·cases hv
   ·rename_i hb
    obtain ⟨a,b⟩:=(Xy c r).1 hb
    rw [List.take_of_length_le (by simp;omega)] at b
    exact b
  ·intro h
   have hl:r.length+1=nRb c:=by
     simp only [Xp,Bool.and_eq_true,decide_eq_true_eq] at h
     exact h.1.2
   refine ⟨Zgv h,ZiP.2 ?_⟩
   have ht:(c::r).take (nRb c)=c::r:=List.take_of_length_le (by simp;omega)
   rw [((Xy c r).1 ((Xy c r).2 (by rw [ht];exact h))).1,hl]
theorem Zib:∀ (n:Nat) (l:BL),l.length≤n→(Lib.validD l=true↔Utf l)
  | 0,l,h=>by
    have:l=[]:=List.eq_nil_of_length_eq_zero (by omega)
    subst this
    exact ⟨fun _=> .nil,fun _=>rfl⟩
  | n+1,[],_=>⟨fun _=> .nil,fun _=>rfl⟩
  | n+1,c::r,h=>by
    rw [Lib.validD_step _ (by simp)]
    have hw:=Lib.decodeL_width (c::r)
    simp only [List.length_cons] at hw h
    by_cases hb:(Lib.decodeL (c::r)).1=65533∧(Lib.decodeL (c::r)).2=1
    ·rw [if_pos hb]
     refine ⟨fun h=>(by cases h),fun hu=>?_⟩
     exfalso
     generalize hl:c::r=l at hu
     cases hu with
     | nil=>cases hl
     | cons hx hu =>
       rename_i x l'
       rcases x with _ | ⟨d,x⟩
       ·cases hx
       ·cases hl
        refine (Xy c _).2 ?_ hb
        have he:x.length+1=nRb c:=by
          simp only [Xp,Bool.and_eq_true,decide_eq_true_eq] at hx
          exact hx.1.2
        rw [← he]
        have:((c::(x++l')).take (x.length+1))=c::x:=by simp
        show Xp ((c::(x++l')).take (x.length+1))=true
        rw [this];exact hx
    ·rw [if_neg hb]
     obtain ⟨e,ho⟩:=(Xy c r).1 hb
     rw [e]
     have hd:((c::r).drop (nRb c)).length≤n:=by
       have:1≤nRb c:=by rw [← e];exact (by omega)
       simp;omega
     rw [Zib n _ hd]
     constructor
     ·intro hu
      have:=Utf.cons ho hu
      rwa [List.take_append_drop] at this
     ·intro hu
      generalize hl:c::r=l at hu
      cases hu with
      | nil=>cases hl
      | cons hx hu =>
        rename_i x l'
        rcases x with _ | ⟨d,x⟩
        ·cases hx
        ·cases hl
         have he:x.length+1=nRb c:=by
           simp only [Xp,Bool.and_eq_true,decide_eq_true_eq] at hx
           exact hx.1.2
         rw [← he]
         simpa using hu
theorem Ze5 (l:BL):Lib.validD l=true↔Utf l:=Zib _ l (Nat.le_refl _)
theorem ZlL {x:BL} (h:ZgK x=true):Lib.validD x=Xp x:=by
  cases ho:Xp x with
  | true=>exact Zgv ho
  | false =>
    cases hv:Lib.validD x with
    | false=>rfl
    | true =>
      exfalso
      have hu:=(Ze5 x).1 hv
      cases hu with
      | nil=>cases h
      | cons hx hu =>
        rename_i y l
        have hp:=h
        rcases y with _ | ⟨c,y⟩
        ·cases hx
        ·have he:y.length+1=nRb c:=by
           simp only [Xp,Bool.and_eq_true,decide_eq_true_eq] at hx
           exact hx.1.2
         simp only [List.cons_append,ZgK,Bool.and_eq_true,decide_eq_true_eq,List.length_append] at hp
         have:l=[]:=List.eq_nil_of_length_eq_zero (by omega)
         subst this
         rw [List.append_nil] at ho
         rw [hx] at ho;cases ho
end Go.Js
namespace Go.Proofs.YtpjbjdheeemdiaaGreatDoor
open Go Go.Fw Go.Js
abbrev UB (R B:Nat):Nat→Prop:=fun k=>k=R∨B≤k
theorem toU (c:UInt8):(c.toNat:Int).toNat.toUInt8=c:=by simp
abbrev Zpj:BL:=[34,92,47,98,102,110,114,116]
theorem Zpk:∀ c:UInt8,ZaT c=none→Lib.indexByte Zpj c<0:=Zp6 (by decide +kernel)
theorem ZnM:∀ c:UInt8,(ZaT c).isSome=true→0≤Lib.indexByte Zpj c∧(⟨#[34,92,47,8,12,10,13,9]⟩:ByteArray)[(Lib.indexByte Zpj c).toNat]?=ZaT c:=Zp6 (by decide +kernel)
theorem Zih (a b:ByteArray):ZaK a b=decide (a=b):=by
  unfold ZaK
  rw [ByteArray.toList_eq,ByteArray.toList_eq]
  by_cases h:a=b
  ·rw [h];simp
  ·rw [decide_eq_false h,beq_eq_false_iff_ne]
   intro e
   exact h (ByteArray.ext (Array.toList_inj.1 e))
theorem ZeV.extractN {s:ByteArray} {n:Nat} {l:BL} (h:ZeV s n l) {k:Nat} (hk:k≤l.length):s.extract n (n+k)=Zd (l.take k):=by
  have:=h.extract (h.dropK hk) (Nat.le_add_right _ _)
  rw [this]
  congr 1
  unfold Zf7
  rw [List.length_drop,show l.length - (l.length - k)=k by omega]
theorem Yk (l:BL):(Zd l).size=l.length:=rfl
theorem Zjf {l:BL} {K:Bool→HP} {h:Zc} (hk:K (X3 l).isSome h):YE (Zd l) (ByteArray.mk #[92,117]) K h:=by
  unfold YE XX Zn ZV
  have h2:(ByteArray.mk #[92,117]).size=2:=rfl
  rw [h2,Yk]
  rcases l with _ | ⟨a,_ | ⟨b,l⟩⟩
  ·exact Zt (by simp) (Zg hk)
  ·exact Zt (by simp) (Zg hk)
  ·refine Zp (by simp;omega) ⟨by omega,by omega,by rw [Yk];simp;omega,?_⟩
   have e:(Zd (a::b::l)).extract 0 2=Zd [a,b]:=by
     apply ByteArray.ext
     simp [Zd]
   show ZK (ZaK ((Zd (a::b::l)).extract 0 2) _) _
   rw [e]
   have e2:ZaK (Zd [a,b]) (ByteArray.mk #[92,117])=(X3 (a::b::l)).isSome:=by
     rw [ZcW]
     rw [Zih]
     by_cases hc:a=92∧b=117
     ·rw [if_pos hc,hc.1,hc.2];exact decide_eq_true rfl
     ·rw [if_neg hc]
      refine decide_eq_false fun e=>hc ?_
      have:=congrArg (fun x:ByteArray=>x.data.toList) e
      simpa [Zd] using this
   rw [e2]
   exact Zg (Zg hk)
theorem ZmY {l o r:BL} (h:Zkn l = .ok o r):o.length+r.length≤l.length∧r <:+l:=by
  rcases l with _ | ⟨c,l⟩
  ·cases h
  ·rw [ZcV] at h
   cases hm:ZaT c with
   | some m=>rw [hm] at h;cases h;exact ⟨by simp;omega,List.suffix_cons _ _⟩
   | none =>
     rw [hm] at h
     simp only at h
     split at h
     ·rw [Zd6] at h
      obtain ⟨n,l1,h1,h2⟩:=ZJ h
      obtain ⟨a1,b1⟩:=Zb3 4 h1
      cases hb:(if 55296≤n∧n<56320 then X3 l1 else none) with
      | none =>
        simp only [hb] at h2
        cases h2
        have:=Zhn (ZeK n)
        exact ⟨by simp;omega,Y4 b1⟩
      | some l2 =>
        simp only [hb] at h2
        have hb':X3 l1=some l2:=by
          split at hb
          ·exact hb
          ·cases hb
        have e:=Zbw hb'
        obtain ⟨m,l3,h3,h4⟩:=ZJ h2
        obtain ⟨a3,b3⟩:=Zb3 4 h3
        have hl1:l1.length=l2.length+2:=by rw [e];rfl
        split at h4
        ·injection h4 with e1 e2
         subst e1 e2
         have:=Zhn (65536+(n - 55296)*1024+(m - 56320))
         have s2:l3 <:+l1:=by rw [e];exact Y4 (Y4 b3)
         exact ⟨by simp;omega,Y4 (s2.trans b1)⟩
        ·cases h4
         have:=Zhn (ZeK n)
         exact ⟨by simp;omega,Y4 b1⟩
     ·cases h
theorem Zjw {h:Zc} {R B:Nat} {T:TypeId} {s:ByteArray} {l out:BL} (hr:Rd h R s l) (hb:Bld h B T out) (hRB:R<B) (hs:out.length<900000000) {K:HP} {P:Value→HP}
    (hok:∀ o r h',Zkn l = .ok o r→Rd h' R s r→Bld h' B T (out++o)→Upd (UB R B) h h'→K h') (herr:OnE h R s (UB R B) (Zkn l) P):YA (At R) (At B) K P h:=by
  unfold YA XL
  have uR:∀ {a b:Zc},Upd (· = R) a b→Upd (UB R B) a b:=fun u=>u.mono fun k _ hk=> .inl hk
  have uB:∀ {a b:Zc},Upd (fun k=>B≤k) a b→Upd (UB R B) a b:=fun u=>u.mono fun k _ hk=> .inr hk
  have keepR:∀ {a b:Zc} {q:BL},Rd a R s q→Upd (fun k=>B≤k) a b→Rd b R s q:=fun r u=>r.upd u (by omega)
  have keepB:∀ {a b:Zc} {o:BL},Bld a B T o→Upd (· = R) a b→Bld b B T o:=fun r u=>r.upd u (fun k hk=>by subst hk;exact hRB)
  refine Yu hr (Za ?_)
  refine ZC (fun _ h'=>h'=h∧(l=[]∨∃ c l',l=c::l'∧ZaT c=none)) ?_ ?_
  ·rintro ⟨⟩ h1 ⟨rfl,hl⟩
   refine ZC (fun _ h'=>h'=h1∧∃ l',l=117::l') ?_ ?_
   ·rintro ⟨⟩ h2 ⟨rfl,l1,rfl⟩
    have hesc:Zkn (117::l1)=Zrt l1:=by rw [ZcV,Zpw];simp
    refine X7 hr fun h3 r3 u3 z3=>?_
    refine Zkc r3 (fun n l2 h4 hh r4 u4 z4=>Za ?_) fun e r h4 he u4=>herr e r h4 (by rw [hesc,Zd6,he];rfl) (uR (u3.trans u4))
    have hn:n<65536:=by have:=ZhP 4 hh;omega
    have b4:=keepB (keepB hb u3) u4
    have u24:=uR (u3.trans u4)
    refine ZC (fun _ h'=>Zkn (117::l1) = .ok (ZbT (ZeK n)) l2∧Rd h' R s l2∧Bld h' B T out∧Upd (UB R B) h2 h') ?_ ?_
    ·rintro ⟨⟩ h5 ⟨q5,r5,b5,u5⟩
     refine ZC (fun p h'=>h'=h5∧p.1=(ZeK n:Int)) ?_ ?_
     ·rintro ⟨m,u⟩ h6 ⟨rfl,hm⟩
      dsimp only at hm ⊢
      refine Zde b5 (n:=ZeK n) ?_ ?_ hm hs fun i h7 b7 u7=>hok _ _ h7 q5 (keepR r5 u7) b7 (u5.trans (uB u7))
      ·unfold ZeK;split<;>omega
      ·unfold ZeK;split<;>omega
     ·refine Zo (fun h1=>Zo (fun h2=>Za ⟨rfl,?_⟩) fun h2=>⟨rfl,?_⟩) fun h1=>⟨rfl,?_⟩
      ·unfold ZeK;rw [if_pos (by omega)];rfl
      ·unfold ZeK;rw [if_neg (by omega)]
      ·unfold ZeK;rw [if_neg (by omega)]
    ·
     refine ZC (fun p h'=>h'=h4∧p.1=(decide (55296≤n∧n<56320)&&(X3 l2).isSome)) ?_ ?_
     ·rintro ⟨b,u⟩ h5 ⟨rfl,hb5⟩
      dsimp only at hb5 ⊢
      subst hb5
      by_cases hhi:55296≤n∧n<56320
      case neg =>
        refine Zt (by simp [hhi]) ⟨?_,r4,b4,u24⟩
        rw [hesc,Zd6,hh];simp [hhi]
      cases hbu:X3 l2 with
      | none =>
        refine Zt (by simp) ⟨?_,r4,b4,u24⟩
        rw [hesc,Zd6,hh];simp [hhi,hbu]
      | some l3 =>
        have hq:Zkn (117::l1)=(Zdd 4 0 l3).bind fun m l4=>if 56320≤m∧m<57344 then .ok (ZbT (65536+(n - 55296)*1024+(m - 56320))) l4 else .ok (ZbT (ZeK n)) l2:=by
          rw [hesc,Zd6,hh];simp [hhi,hbu]
        have e:=Zbw hbu
        refine Zp (by simp [hhi]) (Zdb r4 fun was hwas=>Za ?_)
        refine Zpp r4 (m:=2) rfl (by rw [e];simp) fun h6 r6 u6 z6=>?_
        have r6':Rd h6 R s l3:=by rw [e] at r6;exact r6
        refine Zkc r6' (fun m l4 h7 hm r7 u7 z7=>Za ?_) fun e' r h7 he u7=>herr e' r h7 (by rw [hq,he];rfl) (u24.trans (uR (u6.trans u7)))
        have hm4:m<65536:=by have:=ZhP 4 hm;omega
        have back:¬ (56320≤m∧m<57344)→Ze (At R) fun b62 o63=>st h7 b62 (o63+1) (.int .i64 (was:Int)) fun h64=>Zkn (117::l1) = .ok (ZbT (ZeK n)) l2∧Rd h64 R s l2∧Bld h64 B T out∧Upd (UB R B) h2 h64:=fun hlo =>
          ZjX r7 rfl hwas fun h8 r8 u8 z8=>⟨by rw [hq,hm];simp [hlo],r8,keepB (keepB (keepB b4 u6) u7) u8,u24.trans (uR ((u6.trans u7).trans u8))⟩
        refine Zo (fun h1=>Zo (fun h2=>⟨by decide,?_⟩) fun h2=>back (by omega)) fun h1=>back (by omega)
        have hv:IntKind.wrap .i32 ((IntKind.wrap .i32 ((65536:Int)+(Znv .i32 (IntKind.wrap .i32 ((n:Int) - 55296)) 10)))+(IntKind.wrap .i32 ((m:Int) - 56320)))=((65536+(n - 55296)*1024+(m - 56320):Nat):Int):=by
          rw [Ze1 (n:=(n:Int) - 55296) (by omega) (by omega),show (n:Int) - 55296=((n - 55296:Nat):Int) by omega,show ((10:Int))=((10:Nat):Int) from rfl,ZqO (by omega) (by omega),
            Ze1 (n:=(m:Int) - 56320) (by omega) (by omega),Ze1 (n:=65536+_) (by omega) (by omega),Ze1 (by omega) (by omega)]
          omega
        refine Zde (keepB (keepB b4 u6) u7) (n:=65536+(n - 55296)*1024+(m - 56320)) (by omega) (by omega) hv hs fun i h8 b8 u8=>hok _ _ h8 ?_ (keepR r7 u8) b8 ((u24.trans (uR (u6.trans u7))).trans (uB u8))
        rw [hq,hm]
        have:56320≤m∧m<57344:=by omega
        simp [this]
     ·refine Zo (fun h1=>Zo (fun h2=>?_) fun h2=>⟨rfl,by simp;omega⟩) fun h1=>⟨rfl,by simp;omega⟩
      refine ZjW r4 (Zdb r4 fun p hp=>?_)
      have hlen:=hp.len
      refine ⟨by omega,by omega,by omega,?_⟩
      have e:s.extract (p:Int).toNat (s.size:Int).toNat=Zd l2:=by
        rw [Int.toNat_natCast,Int.toNat_natCast,← hlen,hp.extractN (Nat.le_refl _),List.take_length]
      rw [e]
      refine ⟨((X3 l2).isSome,()),Zjf ⟨rfl,rfl⟩,rfl,?_⟩
      have:55296≤n∧n<56320:=by omega
      simp [this]
   ·refine ZdW 117 (fun hn=>Xf (α:=BL) hr rfl fun e' r he hr'=>herr e' r h1 ?_ (Upd.refl _ _)) fun l' e=>⟨rfl,l',e⟩
    rw [← he]
    rcases hl with rfl | ⟨c,l',rfl,hm⟩
    ·rfl
    ·rw [ZcV,hm]
     simp only
     rw [if_neg (hn c l' rfl)];rfl
  ·refine ZfC ?_
   rcases l with _ | ⟨c,l'⟩
   ·exact Za (Zt (decide_eq_false (by decide)) ⟨rfl,.inl rfl⟩)
   ·rw [show (Xk (c::l')).toNat.toUInt8=c from toU c]
    cases hm:ZaT c with
    | none =>
      have key:=Zpk c hm
      exact Za (Zt (decide_eq_false (Int.not_le.2 key)) ⟨rfl,.inr ⟨c,l',rfl,hm⟩⟩)
    | some m =>
      obtain ⟨k0,k1⟩:=ZnM c (by rw [hm];rfl)
      rw [hm] at k1
      refine Za ?_
      refine Zp (decide_eq_true k0) (Zjd hr (fun _=>?_) fun h0=>by cases h0)
      refine ⟨m,k0,k1,?_⟩
      refine Ze0 hb rfl hs fun h2 b2 u2=>?_
      refine X7 (keepR hr u2) fun h3 r3 u3 z3=>hok [m] l' h3 ?_ r3 (keepB b2 u3) ((uB u2).trans (uR u3))
      rw [ZcV,hm]
theorem Zer {x:BL} (hx:x.length≤1000000) {K:Int→HP} {h:Zc} (hk:∀ h',Ext h h'→K (Lib.runeCount (Zd x)) h'):ZT (Zd x) K h:=⟨by rw [Yk];omega,hk⟩
theorem ZcY {x:BL} (hx:x.length≤1000000) {K:Bool→HP} {h:Zc} (ht:Zaq h) (hk:∀ h',Ext h h'→K (Lib.validD x) h'):Zw (Zd x) K h:=⟨ht,by rw [Yk];omega,by simpa using hk⟩
theorem ZaB {x y:BL} (hx:x.length+y.length≤1000000) {K:ByteArray→Prop} (hk:K (Zd (x++y))):Zku (Zd x) (Zd y) K:=by
  refine ⟨by rw [Yk,Yk];omega,?_⟩
  have:Zd x++Zd y=Zd (x++y):=by
    apply ByteArray.ext
    simp [Zd]
  rw [this];exact hk
theorem Zhr {x:BL} {n:Nat} (hn:n≤x.length) {m:Int} (hm:m=n) {K:ByteArray→Prop} (hk:K (Zd (x.take n))):Zi3 (Zd x) 0 m K:=by
  subst hm
  refine ⟨by omega,by omega,by rw [Yk];omega,?_⟩
  have:(Zd x).extract (0:Int).toNat (n:Int).toNat=Zd (x.take n):=by
    apply ByteArray.ext
    simp [Zd]
  rw [this];exact hk
def Zb1 (i:Nat):BL:=ZoX.getD i []
theorem Zpz {low:BL} (h:low∈ZoX):∃ i,i<3∧Zb1 i=low:=by
  simp only [ZoX,List.mem_cons,List.not_mem_nil,or_false] at h
  rcases h with rfl | rfl | rfl
  ·exact ⟨0,by omega,rfl⟩
  ·exact ⟨1,by omega,rfl⟩
  ·exact ⟨2,by omega,rfl⟩
theorem Zmy {i:Nat} (h:i<3):(Zb1 i).length=3:=by
  obtain rfl | rfl | rfl:i=0∨i=1∨i=2:=by omega
  all_goals rfl
def ZoB (x:BL) (i n:Nat):Prop:=∀ k,x.length<k→k<n→Xp (x++(Zb1 i).take (k - x.length))=false
theorem ZjC {x:BL} (hne:x≠[]) (h4:x.length≤4) {h:Zc} (ht:Zaq h) {K:Bool→HP} (hk:∀ h',Ext h h'→K (ZgK x) h'):Zag (Zd x) K h:=by
  unfold Zag Zb7
  have hlen:0<x.length:=List.length_pos_iff.2 hne
  have hsz:((Zd x).size:Int)=x.length:=rfl
  refine ZbP fun h1 c1 e1 z1=>?_
  have yes:∀ {t:BL} {h':Zc},Ext h1 h'→Xp (x++t)=true→K true h':=fun {t h'} e ho=>by
    have:=hk h' (e1.trans e)
    rwa [ZgJ hne ho] at this
  refine ZL (fun p h'=>∃ i:Nat,p.1=i∧i≤3∧Ext h1 h'∧∀ j,j<i→ZoB x j 5) (fun p _=>(3 - p.1).toNat) ⟨0,rfl,by omega,Ext.refl _,fun j hj=>by omega⟩ ?_
  rintro ⟨s11,u⟩ h2 ⟨i,hi,hi3,e2,hno⟩
  dsimp only at hi ⊢
  subst hi
  refine Zo (fun hlt=>?_) fun hge=>?_
  ·have hi:i<3:=by omega
   have c2:=YK c1 e2
   have hstr:(Zd (Zb1 i))=[ByteArray.mk #[128,128,128],ByteArray.mk #[144,128,128],ByteArray.mk #[160,128,128]].getD i (ByteArray.mk #[]):=by
     obtain rfl | rfl | rfl:i=0∨i=1∨i=2:=by omega
     all_goals rfl
   have hcell:Xj (0+i*1) (obj h2 h.size)=some (.string (Zd (Zb1 i))):=by
     rw [hstr]
     obtain rfl | rfl | rfl:i=0∨i=1∨i=2:=by omega
     ·exact Zm c2 rfl
     ·exact Zm c2 rfl
     ·exact Zm c2 rfl
   refine Zjt (n:=i) rfl (by omega) (rS hcell (Za ?_))
   have hll:=Zmy hi
   refine ZL (fun p h'=>∃ k:Nat,p.1=k∧x.length≤k∧k≤4∧Ext h1 h'∧ZoB x i k) (fun p _=>(4 - p.1).toNat) ⟨x.length,rfl,Nat.le_refl _,h4,e2,fun k h1 h2=>by omega⟩ ?_
   rintro ⟨k6,u2⟩ h3 ⟨k,hk6,hk0,hk4,e3,hno3⟩
   dsimp only at hk6 ⊢
   subst hk6
   have ht3:Zaq h3:=ht.ext (e1.trans e3)
   refine Zo (fun hlt4=>?_) fun hge4=>?_
   ·rw [hsz,Ys (by omega) (by omega)]
    refine Zhr (n:=k - x.length) (by omega) (by omega) (ZaB (by simp;omega) ?_)
    have hl9:(x++(Zb1 i).take (k - x.length)).length≤1000000:=by simp;omega
    have step:∀ {h':Zc},Ext h3 h'→Xp (x++(Zb1 i).take (k - x.length))=false→Zy (IntKind.wrap .i64 ((k:Int)+1)) fun k17=>(∃ k_1:Nat,k17=k_1∧x.length≤k_1∧k_1≤4∧Ext h1 h'∧ZoB x i k_1)∧(4 - k17).toNat<(4 - (k:Int)).toNat:=fun {h'} e ho=>by
      refine Za ?_
      rw [Ys (by omega) (by omega)]
      refine ⟨⟨k+1,rfl,by omega,by omega,e3.trans e,fun q q1 q2=>?_⟩,by omega⟩
      rcases Nat.lt_or_ge q k with h | h
      ·exact hno3 q q1 h
      ·rw [show q=k by omega];exact ho
    refine Zer hl9 fun h5 e5=>Za (Xn (fun h1'=>ZcY hl9 (ht3.ext e5) fun h6 e6=>?_) fun hn1=>?_)
    ·cases hv:Lib.validD (x++(Zb1 i).take (k - x.length)) with
     | true=>exact ZbL (yes (e3.trans (e5.trans e6)) (ZbY.1 ⟨hv,by have:Lib.runeCount (Zd (x++(Zb1 i).take (k - x.length)))=1:=by omega
                                                                   exact this⟩))
     | false =>
       refine Za0 (step (e5.trans e6) ?_)
       cases ho:Xp (x++(Zb1 i).take (k - x.length)) with
       | false=>rfl
       | true=>rw [(ZbY.2 ho).1] at hv;cases hv
    ·refine step e5 ?_
     cases ho:Xp (x++(Zb1 i).take (k - x.length)) with
     | false=>rfl
     | true=>exact absurd (by have:=(ZbY.2 ho).2;show ((Lib.runeCount (Zd _):Nat):Int)=1;rw [this];rfl) hn1
   ·obtain rfl:k=4:=by omega
    have next:∀ {h':Zc},Ext h3 h'→(x.length<4→Xp (x++(Zb1 i).take (4 - x.length))=false)→(∃ i_1:Nat,IntKind.wrap .i64 ((i:Int)+1)=i_1∧i_1≤3∧Ext h1 h'∧∀ j,j<i_1→ZoB x j 5)∧(3 - IntKind.wrap .i64 ((i:Int)+1)).toNat<(3 - (i:Int)).toNat:=fun {h'} e ho=>by
      rw [Ys (by omega) (by omega)]
      refine ⟨⟨i+1,rfl,by omega,e3.trans e,fun j hj=>?_⟩,by omega⟩
      rcases Nat.lt_or_ge j i with h | h
      ·exact hno j h
      ·obtain rfl:j=i:=by omega
       intro q q1 q2
       rcases Nat.lt_or_ge q 4 with h | h
       ·exact hno3 q q1 h
       ·obtain rfl:q=4:=by omega
        exact ho (by omega)
    rw [hsz]
    refine Zo (fun hlt=>?_) fun hge=>next (Ext.refl _) fun h=>by omega
    have e4:(x++Zb1 i).take 4=x++(Zb1 i).take (4 - x.length):=by
      rw [List.take_append,List.take_of_length_le (by omega)]
    have hl9:(x++(Zb1 i).take (4 - x.length)).length≤1000000:=by simp;omega
    refine ZaB (by omega) (Zhr (n:=4) (by simp;omega) rfl ?_)
    rw [e4]
    refine ZcY hl9 ht3 fun h5 e5=>?_
    cases hv:Lib.validD (x++(Zb1 i).take (4 - x.length)) with
    | false =>
      refine Za0 (next e5 fun _=>?_)
      cases ho:Xp (x++(Zb1 i).take (4 - x.length)) with
      | false=>rfl
      | true=>rw [(ZbY.2 ho).1] at hv;cases hv
    | true =>
      refine ZbL (ZaB (by omega) (Zhr (n:=4) (by simp;omega) rfl ?_))
      rw [e4]
      refine Zer hl9 fun h6 e6=>Xn (fun h1'=>yes (e3.trans (e5.trans e6)) (ZbY.1 ⟨hv,?_⟩)) fun hn1=>next (e5.trans e6) fun _=>?_
      ·have:Lib.runeCount (Zd (x++(Zb1 i).take (4 - x.length)))=1:=by omega
       exact this
      ·cases ho:Xp (x++(Zb1 i).take (4 - x.length)) with
       | false=>rfl
       | true=>exact absurd (by have:=(ZbY.2 ho).2;show ((Lib.runeCount (Zd _):Nat):Int)=1;rw [this];rfl) hn1
  ·obtain rfl:i=3:=by omega
   have ht2:Zaq h2:=ht.ext (e1.trans e2)
   have fin:∀ h',Ext h2 h'→K (Xp x) h':=fun h' e=>by
     have:=hk h' (e1.trans (e2.trans e))
     cases ho:Xp x with
     | true=>rwa [ZgJ (t:=[]) hne (by rw [List.append_nil];exact ho)] at this
     | false =>
       cases hp:ZgK x with
       | false=>rwa [hp] at this
       | true =>
         exfalso
         obtain ⟨low,hm,n,n1,n2,n3⟩:=Zq1 hp ho
         obtain ⟨i,i3,rfl⟩:=Zpz hm
         have:=hno i i3 n n1 (by omega)
         rw [n3] at this;cases this
   refine ZcY (by omega) ht2 fun h5 e5=>?_
   cases hv:Lib.validD x with
   | false =>
     refine Za0 ?_
     have:=fin h5 e5
     cases ho:Xp x with
     | false=>rwa [ho] at this
     | true=>rw [(ZbY.2 ho).1] at hv;cases hv
   | true =>
     refine ZbL (Zer (by omega) fun h6 e6=>Zg ?_)
     have:=fin h6 (e5.trans e6)
     cases ho:Xp x with
     | true =>
       rw [ho] at this
       have h1:Lib.runeCount (Zd x)=1:=(ZbY.2 ho).2
       rw [h1];exact this
     | false =>
       rw [ho] at this
       have h1:¬ Lib.runeCount (Zd x)=1:=fun h1=>by
         have:=ZbY.1 ⟨hv,h1⟩
         rw [ho] at this;cases this
       have h2:(((Lib.runeCount (Zd x):Nat):Int) ==1)=false:=by
         rw [beq_eq_false_iff_ne];omega
       rw [h2];exact this
theorem Zkl {h:Zc} {R:Nat} {s:ByteArray} {l:BL} (hr:Rd h R s l) {e:Int} {n:Int} (hn:n<s.size) {K:HP} {P:Value→HP} (hp:P (.iface 160 (.agg #[.int .i64 e,.int .i64 n])) h):Zf (At R) e n K P h:=by
  unfold Zf YR
  exact ZjW hr (Zt (by simp;omega) hp)
theorem Zok {h:Zc} {R:Nat} {s:ByteArray} {l:BL} (hr:Rd h R s l) {e:Int} {n:Int} (hn:(s.size:Int)≤n) {K:HP} {P:Value→HP} (hp:P (Zbp 24 s.size) h):Zf (At R) e n K P h:=by
  unfold Zf YR
  exact ZjW hr (Zp (by simp;omega) (ZjW hr hp))
theorem ZkP {h:Zc} {R B:Nat} {T:TypeId} {s:ByteArray} {l out:BL} (hr:Rd h R s l) (hb:Bld h B T out) (ht:Zaq h) (hne:l≠[]) (hR:9≤R) (hRB:R<B) (hs:out.length<800000000) {K:HP} {P:Value→HP}
    (hok:∀ x r h',ZbN Xo l = .ok x r→Rd h' R s r→Bld h' B T (out++x)→Upd (UB R B) h h'→K h') (herr:OnE h R s (UB R B) (ZbN Xo l) P):YG (At R) (At B) K P h:=by
  unfold YG X1
  have hll:=hr.len
  have errOf:∀ {e:Nat} {r:BL},Xo l = .err e r→ZbN Xo l = .err e r:=fun he=>by unfold ZbN;rw [he];rfl
  have part:∀ {k:Nat},k<l.length+1→1≤k→∃ d,l.take k=l.take (k - 1)++[d]∧l=l.take (k - 1)++d::l.drop k:=fun {k} hk h1=>by
    have hd:l.drop (k - 1)=l[k - 1]::l.drop k:=by
      have:=List.drop_eq_getElem_cons (l:=l) (i:=k - 1) (by omega)
      rw [this,show k - 1+1=k by omega]
    refine ⟨l[k - 1],?_,?_⟩
    ·have:l.take (k - 1+1)=l.take (k - 1)++[l[k - 1]]:=by rw [List.take_add_one,List.getElem?_eq_getElem (by omega)];rfl
     rw [show k - 1+1=k by omega] at this
     exact this
    ·rw [← hd,List.take_append_drop]
  refine Za ?_
  refine ZL (fun p h'=>∃ k:Nat,p.1=k∧1≤k∧k≤4∧k - 1≤l.length∧(l.take (k - 1)=[]∨(ZgK (l.take (k - 1))=true∧Xp (l.take (k - 1))=false))∧Ext h h') (fun p _=>(5 - p.1).toNat) ⟨1,rfl,by omega,by omega,by omega,.inl rfl,Ext.refl _⟩ ?_
  rintro ⟨k1,u⟩ h2 ⟨k,hk,hk1,hk4,hkl,hpre,e2⟩
  dsimp only at hk ⊢
  subst hk
  have r2:=hr.ext e2
  refine ZC (fun _ h'=>h'=h2∧k≤l.length) ?_ ?_
  ·rintro ⟨⟩ h3 ⟨rfl,hk5⟩
   obtain ⟨d,ed,el⟩:=part (by omega) hk1
   refine ZjW r2 (Zdb r2 fun n hn=>Zdb r2 fun n' hn'=>?_)
   have hnn:n'=n:=by have:=hn.len;have:=hn'.len;omega
   subst hnn
   have hlen:=hn.len
   rw [Ys (by omega) (by omega)]
   refine ⟨by omega,by omega,by omega,?_⟩
   have ex:s.extract (n':Int).toNat ((n':Int)+k).toNat=Zd (l.take k):=by
     rw [show ((n':Int)+k).toNat=n'+k by omega,Int.toNat_natCast]
     exact hn.extractN hk5
   rw [ex]
   have htl:(l.take k).length=k:=by rw [List.length_take];omega
   refine ZC (fun _ h'=>ZgK (l.take k)=true∧Ext h h') ?_ ?_
   ·rintro ⟨⟩ h4 ⟨hp4,e4⟩
    refine ZcY (by omega) (ht.ext e4) fun h5 e5=>?_
    rw [ZlL hp4]
    have r5:=hr.ext (e4.trans e5)
    cases ho:Xp (l.take k) with
    | true =>
      refine ZbL (ZiY (hb.congr fun b _ hl=>Ym (e4.trans e5) hl) (by rw [Yk];omega) fun h6 b6 u6=>?_)
      refine Zdb (r5.upd u6 (by omega)) fun n6 hn6=>?_
      have hn6l:=hn6.len
      refine ZjX (r5.upd u6 (by omega)) (n:=n6+k) (by rw [Ys (by omega) (by omega)];rfl) (hn6.dropK hk5) fun h7 r7 u7 z7=>?_
      have hq:ZbN Xo l = .ok (l.take k) (l.drop k):=by
        have:Xo (l.take k++l.drop k) = .ok () (l.drop k):=Zik ho
        unfold ZbN
        rw [List.take_append_drop] at this
        rw [this]
        simp only [Out.bind_ok]
        congr 1
        unfold Zf7
        rw [List.length_drop,show l.length - (l.length - k)=k by omega]
      refine hok _ _ h7 hq r7 ?_ ?_
      ·have:=b6.upd (B:=B) u7 (fun q hq=>by subst hq;exact hRB)
       simpa [Zd] using this
      ·exact (((e4.trans e5).upd _).trans (u6.mono fun q _ hq=> .inr hq)).trans (u7.mono fun q _ hq=> .inl hq)
    | false =>
      refine Za0 (Za ?_)
      rw [Ys (by omega) (by omega)]
      have h3:=(Zpq hp4).2 ho
      refine ⟨⟨k+1,rfl,by omega,by omega,by omega,.inr ?_,e4.trans e5⟩,by omega⟩
      rw [show k+1 - 1=k by omega]
      exact ⟨hp4,ho⟩
   ·refine ZjC (by intro e;rw [e] at htl;simp at htl;omega) (by omega) (ht.ext e2) fun h4 e4=>?_
    cases hp4:ZgK (l.take k) with
    | true=>exact Zt rfl ⟨rfl,e2.trans e4⟩
    | false =>
      refine Zp rfl (Zdb (r2.ext e4) fun n4 hn4=>?_)
      have hn4l:=hn4.len
      rw [Ys (n:=(n4:Int)+k) (by omega) (by omega),Ys (by omega) (by omega)]
      refine Zkl (r2.ext e4) (by omega) ?_
      have hq:Xo l = .err 22 (d::l.drop k):=by
        conv=>lhs;rw [el]
        refine Zl9 ?_ (by rw [← ed];exact hp4)
        rcases hpre with h | h
        ·exact .inl h
        ·exact .inr h
      have:=herr 22 _ h4 (errOf hq) ((e2.trans e4).upd _)
      unfold Zbp at this
      have hnum:((s.size - (d::l.drop k).length:Nat):Int)=(n4:Int)+k - 1:=by
        simp only [List.length_cons,List.length_drop];omega
      rw [hnum] at this
      exact this
  ·refine Zdb r2 fun n hn=>ZjW r2 ?_
   have hnl:=hn.len
   rw [Ys (by omega) (by omega)]
   refine Zo (fun hgt=>ZjW r2 (Zok r2 (Int.le_refl _) ?_)) fun hle=>⟨rfl,by omega⟩
   have hl9:l.take (k - 1)=l:=List.take_of_length_le (by omega)
   rw [hl9] at hpre
   have hp:=hpre.resolve_left hne
   have:=herr 24 [] h2 (errOf (Zl8 hp.1 hp.2)) (e2.upd _)
   simpa using this
end Go.Proofs.YtpjbjdheeemdiaaGreatDoor
