/- What is written by json.Print; how many values; json.Depth, json.OfInt. -/
import Derived.KernelRfl
import Derived.Test.YtpjbjdheeemdiaaGreatDoorRows
import Derived.Lib.LaidU8
import Derived.Stop.Joined
import Derived.MakeChecks
import Derived.ProofKit
import Derived.OpenShut
import Derived.Lay
import Derived.Test.YtpjbjdheeemdiaaGreatDoorPa13
set_option linter.unusedVariables false
set_option linter.unusedSimpArgs false
namespace Go.Js
open Go
theorem ZgS {l:JL}:l.isNil=true↔l = .nil:=by cases l<;>simp [JL.isNil]
theorem Zj0 {t:BL}:Zr1 t=true↔ZcQ t = .ok () []∧t.length≤65536:=by
  constructor
  ·intro h
   unfold Zr1 at h
   cases hp:Zaf t with
   | err e k=>rw [hp] at h;cases h
   | ok v =>
     rw [hp] at h
     simp only [Bool.and_eq_true,decide_eq_true_eq] at h
     obtain ⟨hk,ht⟩:=h
     have hl:=(Zex hp).2.2
     refine ⟨?_,hl⟩
     rw [Zd5 hl] at hp
     cases h1:Zz 64 t with
     | err e r=>rw [h1] at hp;cases hp
     | ok w r =>
       rw [h1] at hp
       simp only at hp
       split at hp
       ·cases hp
        have hv:∀ {op:Bool→BL→Out JV},(∀ b c l w r,op b (c::l) = .ok w r→w.k≠4)→Zcx op t = .ok v r→ZcQ t = .ok () []:=by
          intro op hop hg
          unfold Zcx at hg
          split at hg
          ·cases hg
          ·rename_i c l1 e
           have hs:=ZaL t
           rw [e] at hs
           split at hg
           ·exact absurd hk (hop _ _ _ _ _ hg)
           split at hg
           ·exact absurd hk (hop _ _ _ _ _ hg)
           split at hg
           ·obtain ⟨_,_,_,h2⟩:=ZJ hg;cases h2;cases hk
           split at hg
           ·obtain ⟨_,_,_,h2⟩:=ZJ hg;cases h2;cases hk
           split at hg
           ·obtain ⟨_,_,_,h2⟩:=ZJ hg;cases h2;cases hk
           split at hg
           ·obtain ⟨_,_,_,h2⟩:=ZJ hg;cases h2;cases hk
           split at hg
           ·obtain ⟨_,r1,h3,h2⟩:=ZJ hg
            cases h2
            simp only at ht
            have hsuf:=Zd8.sf.suf h3
            obtain ⟨x,hx⟩:=hsuf
            have hu:Zfc (c::l1) r=x:=by rw [← hx,Zaa]
            rw [hu] at ht
            have hlen:=congrArg List.length hx
            rw [ht,List.length_append] at hlen
            have hr0:r=[]:=List.eq_nil_of_length_eq_zero (by omega)
            subst hr0
            rw [List.append_nil] at hx
            rw [← ht,hx];exact h3
           ·cases hg
        refine hv (op:=Zi1 (Zz 63)) (fun b c l w r h9=>?_) h1
        obtain ⟨p,r9,_,h8⟩:=ZJ h9
        cases h8
        cases b<;>simp
       ·cases hp
  ·rintro ⟨h1,h2⟩
   have hr:ZdD 64 ⟨4,t,[],.nil⟩:=⟨.inr (.inl ⟨rfl,h1,h2,rfl,rfl⟩),trivial,trivial⟩
   have:=ZmF (v:=⟨4,t,[],.nil⟩) hr h2
   have e:ZaJ ⟨4,t,[],.nil⟩=t:=rfl
   rw [e] at this
   unfold Zr1
   rw [this];simp
theorem Znq {k:Nat} {t:BL} {ns:List BL} {sub:JL}:whB k t ns sub=true↔Zdm k t ns sub:=by
  unfold whB Zdm
  by_cases h1:k=1∨k=2∨k=3
  ·rw [if_pos h1]
   simp only [Bool.and_eq_true,decide_eq_true_eq,ZgS]
   constructor
   ·rintro ⟨a,b,c⟩;exact .inl ⟨h1,a,c,b⟩
   ·rintro (⟨_,a,b,c⟩ | ⟨a,_⟩ | ⟨a,_⟩ | ⟨a,_⟩ | ⟨a,_⟩)
    ·exact ⟨a,c,b⟩
    all_goals omega
  rw [if_neg h1]
  by_cases h4:k=4
  ·rw [if_pos h4]
   simp only [Bool.and_eq_true,decide_eq_true_eq,ZgS,Zj0]
   constructor
   ·rintro ⟨⟨a,a'⟩,b,c⟩;exact .inr (.inl ⟨h4,a,a',c,b⟩)
   ·rintro (⟨a,_⟩ | ⟨_,a,a',b,c⟩ | ⟨a,_⟩ | ⟨a,_⟩ | ⟨a,_⟩)
    ·exact absurd a h1
    ·exact ⟨⟨a,a'⟩,c,b⟩
    all_goals omega
  rw [if_neg h4]
  by_cases h5:k=5
  ·rw [if_pos h5]
   simp only [Bool.and_eq_true,decide_eq_true_eq,ZgS,Zgk]
   constructor
   ·rintro ⟨a,b,c⟩;exact .inr (.inr (.inl ⟨h5,a,c,b⟩))
   ·rintro (⟨a,_⟩ | ⟨a,_⟩ | ⟨_,a,b,c⟩ | ⟨a,_⟩ | ⟨a,_⟩)
    ·exact absurd a h1
    ·omega
    ·exact ⟨a,c,b⟩
    all_goals omega
  rw [if_neg h5]
  by_cases h6:k=6
  ·rw [if_pos h6]
   simp only [Bool.and_eq_true,decide_eq_true_eq]
   constructor
   ·rintro ⟨a,b⟩;exact .inr (.inr (.inr (.inl ⟨h6,a,b⟩)))
   ·rintro (⟨a,_⟩ | ⟨a,_⟩ | ⟨a,_⟩ | ⟨_,a,b⟩ | ⟨a,_⟩)
    ·exact absurd a h1
    ·omega
    ·omega
    ·exact ⟨a,b⟩
    ·omega
  rw [if_neg h6]
  by_cases h7:k=7
  ·rw [if_pos h7]
   simp only [Bool.and_eq_true,decide_eq_true_eq,List.all_eq_true,Zgk]
   constructor
   ·rintro ⟨a,b,c⟩;exact .inr (.inr (.inr (.inr ⟨h7,a,b,c⟩)))
   ·rintro (⟨a,_⟩ | ⟨a,_⟩ | ⟨a,_⟩ | ⟨a,_⟩ | ⟨_,a,b,c⟩)
    ·exact absurd a h1
    ·omega
    ·omega
    ·omega
    ·exact ⟨a,b,c⟩
  rw [if_neg h7]
  constructor
  ·intro h;cases h
  ·rintro (⟨a,_⟩ | ⟨a,_⟩ | ⟨a,_⟩ | ⟨a,_⟩ | ⟨a,_⟩)
   ·exact absurd a h1
   all_goals omega
theorem Zfo {k:Nat} {t:BL} {ns:List BL} {sub:JL} (h:Zdm k t ns sub) (h6:k≠6) (h7:k≠7):sub = .nil:=by
  rcases h with ⟨_,_,_,h⟩ | ⟨_,_,_,_,h⟩ | ⟨_,_,_,h⟩ | ⟨h,_⟩ | ⟨h,_⟩
  ·exact h
  ·exact h
  ·exact h
  ·exact absurd h h6
  ·exact absurd h h7
theorem ZcM:∀ (l:JL) (d n dp n' dp':Nat),d≤64→Zao whB d l n dp=(true,n',dp')→dp'≤64→Zb2 (64 - d) l∧n'=n+Zdr l∧dp≤dp'
  | .nil,d,n,dp,n',dp',hd,h,hp=>by
    cases h
    exact ⟨by cases 64 - d<;>exact trivial,rfl,Nat.le_refl _⟩
  | .cons k t ns sub rest,d,n,dp,n',dp',hd,h,hp=>by
    simp only [Zao] at h
    split at h
    ·cases h
    split at h
    ·cases h
    rename_i hb hw
    have hK:Zdm k t ns sub:=Znq.1 (by simpa using hw)
    split at h
    ·rename_i h67
     obtain ⟨a,b,c⟩:=ZcM rest d (n+1) dp n' dp' hd h hp
     have hnil:=Zfo hK h67.1 h67.2
     subst hnil
     refine ⟨?_,by simp only [Zdr];omega,c⟩
     cases hd9:64 - d with
     | zero=>rw [hd9] at a;exact ⟨hK,h67.1,h67.2,a⟩
     | succ m=>rw [hd9] at a;exact ⟨hK,by cases m<;>exact trivial,a⟩
    split at h
    ·obtain ⟨a,b,c⟩:=ZcM rest d (n+1) _ n' dp' hd h hp
     omega
    rename_i h67 h64
    split at h
    ·rename_i hs
     have hsub:Zao whB (d+1) sub (n+1) (max dp (d+1))=(true,(Zao whB (d+1) sub (n+1) (max dp (d+1))).2.1,(Zao whB (d+1) sub (n+1) (max dp (d+1))).2.2):=by rw [← hs]
     obtain ⟨a,b,c⟩:=ZcM rest d _ _ n' dp' hd h hp
     obtain ⟨a2,b2,c2⟩:=ZcM sub (d+1) (n+1) (max dp (d+1)) _ _ (by omega) hsub (by omega)
     refine ⟨?_,by simp only [Zdr];omega,by omega⟩
     obtain ⟨m,hm⟩:∃ m,64 - d=m+1:=⟨64 - d - 1,by omega⟩
     rw [hm] at a ⊢
     rw [show 64 - (d+1)=m by omega] at a2
     exact ⟨hK,a2,a⟩
    ·rename_i hs
     rw [h] at hs
     exact absurd rfl hs
theorem Zd1:∀ (l:JL) (d n dp:Nat),d≤64→Zb2 (64 - d) l→n+Zdr l≤65536→dp≤64→∃ dp',Zao whB d l n dp=(true,n+Zdr l,dp')∧dp'≤64
  | .nil,d,n,dp,_,_,_,hp=>⟨dp,rfl,hp⟩
  | .cons k t ns sub rest,d,n,dp,hd,h,hn,hp=>by
    simp only [Zdr] at hn
    have hK:Zdm k t ns sub:=by cases hd9:64 - d<;>rw [hd9] at h<;>exact h.1
    have hR:Zb2 (64 - d) rest:=by
      cases hd9:64 - d with
      | zero=>rw [hd9] at h;exact h.2.2.2
      | succ m=>rw [hd9] at h;exact h.2.2
    simp only [Zao]
    rw [if_neg (by omega),if_neg (by simp [Znq.2 hK])]
    by_cases h67:k≠6∧k≠7
    ·have hnil:=Zfo hK h67.1 h67.2
     subst hnil
     rw [if_pos h67]
     obtain ⟨dp',a,b⟩:=Zd1 rest d (n+1) dp hd hR (by simp only [Zdr] at hn;omega) hp
     exact ⟨dp',by rw [a];simp only [Zdr];congr 2;omega,b⟩
    ·rw [if_neg h67]
     obtain ⟨m,hm⟩:∃ m,64 - d=m+1:=by
       cases hd9:64 - d with
       | zero=>rw [hd9] at h;exact absurd ⟨h.2.1,h.2.2.1⟩ h67
       | succ m=>exact ⟨m,rfl⟩
     rw [if_neg (by omega)]
     rw [hm] at h
     obtain ⟨dp',a,b⟩:=Zd1 sub (d+1) (n+1) (max dp (d+1)) (by omega) (by rw [show 64 - (d+1)=m by omega];exact h.2.1) (by omega) (by omega)
     rw [a,if_pos rfl]
     obtain ⟨dp2,a2,b2⟩:=Zd1 rest d (n+1+Zdr sub) dp' hd hR (by omega) b
     exact ⟨dp2,by rw [a2];simp only [Zdr];congr 2;omega,b2⟩
theorem Zd3:∀ {d:Nat} {l:JL},Zb2 d l→okN l
  | _,.nil,_=>trivial
  | 0,.cons k t ns sub rest,h=>by
    have:=Zfo h.1 h.2.1 h.2.2.1
    subst this
    exact ⟨fun e=>absurd e h.2.2.1,trivial,Zd3 h.2.2.2⟩
  | d+1,.cons k t ns sub rest,h=>by
    refine ⟨fun e=>?_,Zd3 h.2.1,Zd3 h.2.2⟩
    rcases h.1 with ⟨hk,_⟩ | ⟨hk,_⟩ | ⟨hk,_⟩ | ⟨hk,_⟩ | ⟨_,_,hl,_⟩
    ·omega
    ·omega
    ·omega
    ·omega
    ·exact hl
def ZcN:Nat→JL→Nat→Nat
  | _,.nil,n=>n
  | m,.cons _ _ _ sub rest,n=>if m<n then n else ZcN m rest (n+ZcN (m - n) sub 1)
theorem Zer:∀ (l:JL) (m n:Nat),ZcN m l n≤max n (m+1)∧n≤ZcN m l n
  | .nil,m,n=>⟨by show n≤_;omega,Nat.le_refl _⟩
  | .cons _ _ _ sub rest,m,n=>by
    simp only [ZcN]
    split
    ·exact ⟨by omega,Nat.le_refl _⟩
    ·have h1:=Zer sub (m - n) 1
     have h2:=Zer rest m (n+ZcN (m - n) sub 1)
     exact ⟨by omega,by omega⟩
theorem ZiG:∀ (l:JL) (m n:Nat),n≤m→(ZcN m l n≤m↔n+Zdr l≤m)∧(n+Zdr l≤m→ZcN m l n=n+Zdr l)
  | .nil,m,n,h=>⟨Iff.rfl,fun _=>rfl⟩
  | .cons _ _ _ sub rest,m,n,h=>by
    simp only [ZcN,Zdr]
    rw [if_neg (by omega)]
    by_cases h1:1≤m - n
    ·have hs:=ZiG sub (m - n) 1 h1
     have hsl:=Zer sub (m - n) 1
     by_cases h2:1+Zdr sub≤m - n
     ·have e:=hs.2 h2
      rw [e]
      have hr:=ZiG rest m (n+(1+Zdr sub)) (by omega)
      exact ⟨by rw [hr.1];omega,fun h9=>by rw [hr.2 (by omega)];omega⟩
     ·have h3:¬ ZcN (m - n) sub 1≤m - n:=fun h9=>h2 (hs.1.1 h9)
      have hr:=Zer rest m (n+ZcN (m - n) sub 1)
      exact ⟨⟨fun h9=>by omega,fun h9=>by omega⟩,fun h9=>by omega⟩
    ·have hsl:=Zer sub (m - n) 1
     have hr:=Zer rest m (n+ZcN (m - n) sub 1)
     exact ⟨⟨fun h9=>by omega,fun h9=>by omega⟩,fun h9=>by omega⟩
end Go.Js
namespace Go.Proofs.YtpjbjdheeemdiaaGreatDoor
open Go Go.Fw Go.Js
theorem Zd4 {v:JV}:ZdE v=true↔ZdD 64 v∧Zhp v≤65536:=by
  have hcnt:Zdr (.cons v.k v.t v.ns v.sub .nil)=Zhp v:=by simp [Zdr,Zhp]
  unfold ZdE Zcr
  constructor
  ·intro h
   simp only [Bool.and_eq_true,decide_eq_true_eq] at h
   have e:Zao whB 0 (.cons v.k v.t v.ns v.sub .nil) 0 0=(true,(Zao whB 0 (.cons v.k v.t v.ns v.sub .nil) 0 0).2.1,(Zao whB 0 (.cons v.k v.t v.ns v.sub .nil) 0 0).2.2):=by rw [← h.1]
   obtain ⟨a,b,_⟩:=ZcM _ 0 0 0 _ _ (by omega) e h.2
   have hn:=(Zce whB (.cons v.k v.t v.ns v.sub .nil) 0 0 0 (by omega)).2 h.1
   exact ⟨a,by omega⟩
  ·rintro ⟨a,b⟩
   obtain ⟨dp',e,h⟩:=Zd1 (.cons v.k v.t v.ns v.sub .nil) 0 0 0 (by omega) a (by omega) (by omega)
   rw [e]
   simp [h]
theorem Zgc:∀ (m:Nat) (v:JV),v.sub.hei≤m→Zo7 (Yy (m+1)) v
  | 0,v,hm=>Zgb (f60:=Yy 0) fun i k t ns s r hd=>by have:=JL.drop_hei i v.sub hd;omega
  | m+1,v,hm=>Zgb (f60:=Yy (m+1)) fun i k t ns s r hd=>Zgc m ⟨k,t,ns,s⟩ (by have:=JL.drop_hei i v.sub hd;show s.hei≤m;omega)
theorem ZmA {h:Zc} {z:VT5} {v:JV} {S:Nat→Prop} {K:ByteArray→Int→HP} (hv:Zbz h S z v) (hS:∀ j,S j→j<sz h) (hfit:Zpj v) (hlen:(ZaJ v).length<800000000) (ht:ZbG h) (hh:9≤sz h)
    (hk:∀ s e h',Ext h h'→(ZdE v=false→s=Zg []∧e=6)→(ZdE v=true→65536<(ZaJ v).length→s=Zg []∧e=5)→(ZdE v=true→(ZaJ v).length≤65536→s=Zg (ZaJ v)∧e=0)→K s e h'):ZbT z K h:=by
  unfold ZbT ZdS
  have hs:sz h=h.size:=rfl
  refine ZbZ fun h1 c1 e1 z1=>Za ?_
  have c1':obj h1 h.size=some (.cells (XS z).toArray 33 (0,0)):=c1
  have s1:sz h1=h1.size:=rfl
  refine rI (Zn c1' rfl) (rS (Zn c1' rfl) (rL (s:=z.2.2.1) (Zn c1' rfl) (rL (s:=z.2.2.2.1) (Zn c1' rfl) ?_)))
  have hS1:∀ j,S j→j<sz h1:=fun j hj=>Nat.lt_of_lt_of_le (hS j hj) e1.size
  refine Zh4 (z:=z) (hv.ext hS e1) hS1 hfit (ht.ext e1) (by omega) fun h2 e2=>?_
  cases hr:ZdE v with
  | false =>
    refine Zp rfl (Za (hk _ _ h2 (e1.trans e2) (fun _=>⟨rfl,rfl⟩) (fun h=>by rw [hr] at h;cases h) fun h=>by rw [hr] at h;cases h))
  | true =>
    have hrj:=(Zd4.1 hr).1
    have hokn:=Zd3 hrj
    refine Zq rfl (ZbZ fun h3 c3 e3 z3=>?_)
    have c1'':=YY (YY c1' e2) e3
    have s2:sz h2=h2.size:=rfl
    have s3:sz h3=h3.size:=rfl
    have b3:Bld h3 h2.size 190 []:=⟨.inr rfl,.pointer none,⟨none,0,0⟩,c3,.inl rfl,Buf.nil _ _⟩
    have e03:=(e1.trans e2).trans e3
    have hsz12:=e2.size
    refine rI (Zn c1'' rfl) (rS (Zn c1'' rfl) (rL (s:=z.2.2.1) (Zn c1'' rfl) (rL (s:=z.2.2.2.1) (Zn c1'' rfl) ?_)))
    refine ⟨v.sub.hei+1,Zgc _ v (Nat.le_refl _) (z:=z) (S:=S) (hv.ext hS e03) (fun j hj=>by have:=hS j hj;omega) b3 hokn.1 hokn.2.1 (by simpa using hlen) fun h4 out b4 w4 l4 l4' u4=>?_⟩
    have e04:Ext h h4:=e03.updS u4.upd fun j hj=>by have:=(Zg0 b3 hj).1;omega
    refine ZlM b4 (Zk (fun hbig=>Za (hk _ _ h4 e04 (fun h=>by rw [hr] at h;cases h) (fun _ _=>⟨rfl,rfl⟩) fun _ hle=>?_)) fun hsm=>?_)
    ·rcases w4 with w4 | ⟨_,w4⟩
     ·rw [w4] at hbig;simp at hbig;omega
     ·simp at w4;omega
    ·have hw:out=ZaJ v:=by
       rcases w4 with w4 | ⟨w4,_⟩
       ·simpa using w4
       ·omega
     refine Zgs b4 fun h5 u5=>Za (hk _ _ h5 (e04.updS u5 fun j hj=>by omega) (fun h=>by rw [hr] at h;cases h) (fun _ hgt=>?_) fun _ _=>⟨by rw [hw],rfl⟩)
     rw [hw] at hsm
     omega
theorem Zky:∀ (m:Nat) {h:Zc} {z:VT5} {v:JV} {S:Nat→Prop} {most:Nat} {K:Int→HP},v.sub.hei≤m→Zbz h S z v→(∀ j,S j→j<sz h)→most≤65536→(∀ h',Ext h h'→K (ZcN most v.sub 1) h')→XP (m+1) z most K h:=by
  have step:∀ {f76:Zmf} {v:JV},(∀ i k t ns s r,v.sub.drop i = .cons k t ns s r→∀ {h:Zc} {z:VT5} {S:Nat→Prop} {most:Nat} {K:Int→HP},Zbz h S z ⟨k,t,ns,s⟩→(∀ j,S j→j<sz h)→most≤65536→(∀ h',Ext h h'→K (ZcN most s 1) h')→f76 z most K h) →
      ∀ {h:Zc} {z:VT5} {S:Nat→Prop} {most:Nat} {K:Int→HP},Zbz h S z v→(∀ j,S j→j<sz h)→most≤65536→(∀ h',Ext h h'→K (ZcN most v.sub 1) h')→Zb4 f76 z most K h:=by
    intro f76 v hsub h z S most K hv hS hm hk
    unfold Zb4 Zc9
    refine ZbZ fun h1 c1 e1 z1=>Za (Za ?_)
    have c1':obj h1 h.size=some (.cells (XS z).toArray 33 (0,0)):=c1
    obtain ⟨a1,a2,a3,a4,cx,a5,a6,a7⟩:=id hv
    have hlx:z.2.2.1.len=v.sub.len:=by have:=a5.len;have:=a7.len;omega
    have hbig:=a5.big
    have hcap:=a5.cap
    refine rL (s:=z.2.2.1) (Zn c1' rfl) ?_
    refine ZQ (fun p h'=>∃ n i:Nat,p.1=n∧p.2.1=i∧n≤65537∧i≤v.sub.len∧Ext h h'∧ZcN most v.sub 1=ZcN most (v.sub.drop i) n) (fun p _=>(v.sub.len - p.2.1).toNat) ⟨1,0,rfl,rfl,by omega,Nat.zero_le _,e1,rfl⟩ ?_
    rintro ⟨n0,i0,u⟩ h2 ⟨n,i,hn0,hi,hn,hle,e2,q2⟩
    dsimp only at hn0 hi ⊢
    subst hn0 hi
    refine Zk (fun hlt=>?_) fun hge=>Za ?_
    ·have hia:i<v.sub.len:=by omega
     obtain ⟨k,t,ns,s,r,hd⟩:=JL.drop_cons hia
     rw [hd] at q2
     simp only [ZcN] at q2
     have keepS:∀ {a:Zc},Ext h a→∀ j,S j→j<sz h→obj a j=obj h j:=fun e j hj hl=>Ys e hl
     refine ZgO (Zab a5 a6 (keepS e2)) (a7.keep (keepS e2) fun j hj=>hj) hd rfl fun zi hzi=>?_
     refine ZbZ fun h3 c3 e3 z3=>?_
     have c3':obj h3 h2.size=some (.cells zV.toArray 33 (0,0)):=c3
     refine Zmk c3' (by simp) (Zcf zi) fun h4 c4 u4 z4=>?_
     have c4':obj h4 h2.size=some (.cells (XS zi).toArray 33 (0,0)):=c4
     have s2:sz h2=h2.size:=rfl
     have e24:Ext h2 h4:=e3.updS u4 fun j hj=>by omega
     refine Zk (fun hgt=>Za ?_) fun hle2=>?_
     ·rw [if_pos (by omega)] at q2
      have:=hk h4 (e2.trans e24)
      rw [q2] at this;exact this
     ·rw [if_neg (by omega)] at q2
      refine rI (Zn c4' rfl) (rS (Zn c4' rfl) (rL (s:=zi.2.2.1) (Zn c4' rfl) (rL (s:=zi.2.2.2.1) (Zn c4' rfl) ?_)))
      rw [ZZ (n:=(most:Int) - n) (by omega) (by omega),show (most:Int) - n=((most - n:Nat):Int) by omega]
      have hvl:=Zer s (most - n) 1
      refine hsub i k t ns s r hd (S:=S) (hzi.keep (fun j hj hl=>Ys e24 hl) fun j hj=>hj) (fun j hj=>by have:=hS j hj;have:=e2.size;have:=e24.size;have:sz h=h.size:=rfl;have:sz h4=h4.size:=rfl;omega) (by omega) fun h5 e5=>Za ?_
      rw [ZZ (by omega) (by omega),ZZ (by omega) (by omega)]
      exact ⟨⟨n+ZcN (most - n) s 1,i+1,rfl,rfl,by omega,by omega,(e2.trans e24).trans e5,by rw [q2,JL.drop_succ i _ hd]⟩,by omega⟩
    ·rw [JL.drop_nil (by omega)] at q2
     have:=hk h2 e2
     rw [q2] at this;exact this
  intro m
  induction m with
  | zero=>exact fun {h z v S most K} hm hv hS hmost hk=>step (f76:=XP 0) (v:=v) (fun i k t ns s r hd=>by have:=JL.drop_hei i v.sub hd;omega) hv hS hmost hk
  | succ m ih=>exact fun {h z v S most K} hm hv hS hmost hk=>step (f76:=XP (m+1)) (v:=v) (fun i k t ns s r hd {h z S most K}=>ih (v:=⟨k,t,ns,s⟩) (by have:=JL.drop_hei i v.sub hd;show s.hei≤m;omega)) hv hS hmost hk
theorem Zmn {h:Zc} {z:VT5} {v:JV} {S:Nat→Prop} {K:Bool→HP} (hv:Zbz h S z v) (hS:∀ j,S j→j<sz h) (hk:∀ h',Ext h h'→K (decide (Zhp v≤65536)) h'):ZbR z K h:=by
  unfold ZbR ZdP
  refine ZbZ fun h1 c1 e1 z1=>?_
  have c1':obj h1 h.size=some (.cells (XS z).toArray 33 (0,0)):=c1
  refine rI (Zn c1' rfl) (rS (Zn c1' rfl) (rL (s:=z.2.2.1) (Zn c1' rfl) (rL (s:=z.2.2.2.1) (Zn c1' rfl) ?_)))
  refine ⟨v.sub.hei+1,Zky _ (most:=65536) (z:=z) (Nat.le_refl _) (hv.ext hS e1) (fun j hj=>Nat.lt_of_lt_of_le (hS j hj) e1.size) (by omega) fun h2 e2=>Zf ?_⟩
  have:=hk h2 (e1.trans e2)
  have hc:=(ZiG v.sub 65536 1 (by omega)).1
  rw [show decide (((ZcN 65536 v.sub 1:Nat):Int)≤65536)=decide (Zhp v≤65536) by rw [decide_eq_decide];unfold Zhp;omega]
  exact this
def ZoO (v:JV):Nat:=if Zhp v≤65536∧(Zcr (fun _ _ _ _=>true) 0 v 0 0).1=true then (Zcr (fun _ _ _ _=>true) 0 v 0 0).2.2 else 0
theorem Zm1 {h:Zc} {z:VT5} {v:JV} {S:Nat→Prop} {K:Int→HP} (hv:Zbz h S z v) (hS:∀ j,S j→j<sz h) (hfit:Zpj v) (ht:ZbG h) (hh:9≤sz h) (hk:∀ h',Ext h h'→K (ZoO v) h'):ZbV z K h:=by
  unfold ZbV ZdU
  have hs:sz h=h.size:=rfl
  refine ZbZ fun h1 c1 e1 z1=>Za (ZbZ fun h3 c3 e3 z3=>?_)
  have s1:sz h1=h1.size:=rfl
  have c1':obj h3 h.size=some (.cells (XS z).toArray 33 (0,0)):=YY c1 e3
  have e03:=e1.trans e3
  refine rI (Zn c1' rfl) (rS (Zn c1' rfl) (rL (s:=z.2.2.1) (Zn c1' rfl) (rL (s:=z.2.2.2.1) (Zn c1' rfl) ?_)))
  refine Zmn (z:=z) (hv.ext hS e03) (fun j hj=>Nat.lt_of_lt_of_le (hS j hj) e03.size) fun h9 e9=>?_
  have e09:=e03.trans e9
  unfold ZoO at hk
  by_cases hc:Zhp v≤65536
  ·rw [decide_eq_true hc]
   have c9:=YY c1' e9
   refine Zq rfl (rI (Zn c9 rfl) (rS (Zn c9 rfl) (rL (s:=z.2.2.1) (Zn c9 rfl) (rL (s:=z.2.2.2.1) (Zn c9 rfl) ?_))))
   refine ⟨v.sub.hei+1,Zgg (rt:=fun _ _ _ _=>true) (.inr ⟨rfl,rfl⟩) _ v (Nat.le_refl _) (n:=0) (dp:=0) (d:=0) (z:=z) (hv.ext hS e09) (fun j hj=>⟨Nat.lt_of_lt_of_le (hS j hj) e09.size,by have:=hS j hj;omega⟩) hfit (ht.ext e09) (by omega) (YY c3 e9) (by omega) (by omega) (by omega) fun h8 hC8 u8=>?_⟩
   have key:=hk h8 (e09.updS u8 fun j hj=>by omega)
   cases hw:(Zcr (fun _ _ _ _=>true) 0 v 0 0).1 with
   | false=>rw [hw] at key;rw [if_neg (by simp)] at key;exact Zp rfl (Za key)
   | true=>rw [hw] at key;rw [if_pos ⟨hc,rfl⟩] at key;exact Zq rfl (rI (Zn hC8 rfl) (Za key))
  ·rw [decide_eq_false hc]
   have key:=hk h9 e09
   rw [if_neg fun h=>hc h.1] at key
   exact Zp rfl (Za key)
theorem ZmI {h:Zc} {n:Int} (hn : -9223372036854775808≤n∧n≤9223372036854775807) (ht:ZbG h) {K:VT5→HP} (hk:∀ h',Ext h h'→K (4,Zg (Lib.itoa n),⟨none,0,0⟩,⟨none,0,0⟩,()) h'):ZbU n K h:=by
  unfold ZbU ZdT
  refine ZbZ fun h1 c1 e1 z1=>⟨ht.ext e1,hn.1,hn.2,fun h2 e2=>?_⟩
  have c1':obj h1 h.size=some (.cells zV.toArray 33 (0,0)):=c1
  have hs:sz h=h.size:=rfl
  exact Zet (x:=⟨none,0,0⟩) (y:=⟨none,0,0⟩) (YY c1' e2) rfl fun h3 u3 z3=>hk h3 ((e1.trans e2).updS u3 fun j hj=>by omega)
end Go.Proofs.YtpjbjdheeemdiaaGreatDoor
namespace Go.Js
open Go
def Asc (p:BL→Out Unit):Prop:=∀ l r,p l = .ok () r→∃ x,l=x++r∧∀ c∈x,c.toNat<128
theorem Zj7 {c:UInt8} (h:YX c=true):c.toNat<128:=by
  unfold YX at h
  simp only [Bool.and_eq_true,decide_eq_true_eq] at h
  omega
theorem ZjH:∀ (l:BL),∀ c∈l.takeWhile YX,c.toNat<128
  | [],c,h=>by cases h
  | d::l,c,h=>by
    rw [List.takeWhile_cons] at h
    split at h
    ·rename_i hd
     rcases List.mem_cons.1 h with h | h
     ·rw [h];exact Zj7 hd
     ·exact ZjH l c h
    ·cases h
theorem ZeJ:Asc Ya:=by
  intro l r h
  rcases l with _ | ⟨c,l⟩
  ·cases h
  ·dsimp only [Ya] at h
   split at h
   ·rename_i hd
    cases h
    refine ⟨c::l.takeWhile YX,by simp,fun d hd2=>?_⟩
    rcases List.mem_cons.1 hd2 with h | h
    ·rw [h];exact Zj7 hd
    ·exact ZjH l d h
   ·cases h
theorem Zp3:Asc ZeE:=by
  intro l r h
  rcases l with _ | ⟨c,l⟩
  ·cases h
  ·dsimp only [ZeE] at h
   split at h
   ·rename_i hc
    have:l=r:=by
      rcases l with _ | ⟨d,l⟩
      ·cases h;rfl
      ·dsimp only [Zag] at h
       split at h
       ·cases h
       ·cases h;rfl
    subst this
    exact ⟨[c],rfl,fun d hd=>by rw [List.mem_singleton] at hd;rw [hd,hc];decide⟩
   ·exact ZeJ _ _ h
theorem ZoE:Asc ZcV:=by
  intro l r h
  rcases l with _ | ⟨c,l⟩
  ·cases h;exact ⟨[],rfl,fun _ h=>by cases h⟩
  ·dsimp only [ZcV] at h
   split at h
   ·rename_i hc
    obtain ⟨x,hx,ha⟩:=ZeJ _ _ h
    refine ⟨c::x,by rw [hx];rfl,fun d hd=>?_⟩
    rcases List.mem_cons.1 hd with h | h
    ·rw [h,hc];decide
    ·exact ha d h
   ·cases h;exact ⟨[],rfl,fun _ h=>by cases h⟩
theorem Zqd:Asc Zfd:=by
  intro l r h
  rcases l with _ | ⟨c,l⟩
  ·cases h;exact ⟨[],rfl,fun _ h=>by cases h⟩
  ·dsimp only [Zfd] at h
   split at h
   ·rename_i hc
    have hc':c.toNat<128:=by rcases hc with hc | hc<;>rw [hc]<;>decide
    obtain ⟨x,hx,ha⟩:=ZeJ _ _ h
    rcases l with _ | ⟨d,l⟩
    ·cases h
    ·dsimp only [Zeg] at hx
     split at hx
     ·rename_i hd
      have hd':d.toNat<128:=by rcases hd with hd | hd<;>rw [hd]<;>decide
      refine ⟨c::d::x,by rw [hx];rfl,fun e he=>?_⟩
      rcases List.mem_cons.1 he with h | h
      ·rw [h];exact hc'
      rcases List.mem_cons.1 h with h | h
      ·rw [h];exact hd'
      ·exact ha e h
     ·refine ⟨c::x,by rw [hx];rfl,fun e he=>?_⟩
      rcases List.mem_cons.1 he with h | h
      ·rw [h];exact hc'
      ·exact ha e h
   ·cases h;exact ⟨[],rfl,fun _ h=>by cases h⟩
theorem ZpT:Asc ZcQ:=by
  intro l r h
  obtain ⟨l1,l2,h1,h2,h3⟩:=Zf5 h
  obtain ⟨x1,e1,a1⟩:=Zp3 _ _ h1
  obtain ⟨x2,e2,a2⟩:=ZoE _ _ h2
  obtain ⟨x3,e3,a3⟩:=Zqd _ _ h3
  have key:∀ c∈x1++(x2++x3),c.toNat<128:=fun c hc=>by
    rcases List.mem_append.1 hc with h | h
    ·exact a1 c h
    rcases List.mem_append.1 h with h | h
    ·exact a2 c h
    ·exact a3 c h
  rcases l with _ | ⟨c,l⟩
  ·cases h1
  ·dsimp only [XK] at e1
   split at e1
   ·rename_i hc
    refine ⟨c::(x1++(x2++x3)),by rw [e1,e2,e3];simp,fun d hd=>?_⟩
    rcases List.mem_cons.1 hd with h | h
    ·rw [h,hc];decide
    ·exact key d h
   ·exact ⟨x1++(x2++x3),by rw [e1,e2,e3];simp,key⟩
def Zb6:BL→BL × Bool
  | c::l=>if c=45 then (l,true) else (c::l,false)
  | []=>([],false)
def ZfB:BL→BL
  | c::l=>if c=43 then l else c::l
  | []=>[]
def ZrH (s:BL):Option Int:=if s=[] then some 0 else match Lib.atoiAll (ZfB s) with
  | .ok v=>if -1048576≤v∧v≤1048576 then some v else none
  | _=>none
def ZhM (t:BL):Option Int :=
  let m:=Zb6 t
  let a:=Lib.cut (Lib.toLowerA m.1) [101]
  let b:=Lib.cut a.1 [46]
  let d:=Lib.trimLeftB (b.1++b.2.1) 48
  let g:=Lib.trimRightB d 48
  if g=[] then some 0 else match ZrH a.2.1 with
  | none=>none
  | some y =>
    let y:=y+((d.length:Int) - g.length - b.2.1.length)
    if y<0 then none else if 20<y then none else match Lib.atoiAll ((if m.2=true then [45] else [])++(g++Lib.repeatL [48] y.toNat)) with
    | .ok v=>some v
    | _=>none
theorem Zki:∀ l:BL,(Zb6 l).1.length≤l.length
  | []=>Nat.le_refl _
  | c::l=>by dsimp only [Zb6];split<;>simp
theorem Zkh:∀ (l:BL) (c:UInt8),c∈(Zb6 l).1→c∈l
  | [],c,h=>h
  | d::l,c,h=>by
    dsimp only [Zb6] at h
    split at h
    ·exact List.mem_cons_of_mem _ h
    ·exact h
theorem ZoQ (s p:BL):(Lib.cut s p).1.length≤s.length∧(Lib.cut s p).2.1.length≤s.length:=by
  unfold Lib.cut
  split
  ·exact ⟨by rw [List.length_take];omega,by rw [List.length_drop];omega⟩
  ·exact ⟨Nat.le_refl _,Nat.zero_le _⟩
theorem Zg7 (p:UInt8→Bool):∀ l:BL,(l.dropWhile p).length≤l.length
  | []=>Nat.le_refl _
  | c::l=>by
    rw [List.dropWhile_cons]
    split
    ·have:=Zg7 p l;simp;omega
    ·exact Nat.le_refl _
theorem ZnD (l:BL) (c:UInt8):(Lib.trimLeftB l c).length≤l.length:=Zg7 _ l
theorem ZnC (l:BL) (c:UInt8):(Lib.trimRightB l c).length≤l.length:=by
  unfold Lib.trimRightB
  rw [List.length_reverse]
  have:=Zg7 (· ==c) l.reverse
  rw [List.length_reverse] at this
  exact this
end Go.Js
namespace Go.Proofs.YtpjbjdheeemdiaaGreatDoor
open Go Go.Fw Go.Js
theorem ZnZ {l:BL} {c:UInt8} {K:Bool→HP} {h:Zc} (hk:K (match l with | d::_=>decide (d=c) | []=>false) h):ZA (Zg l) (ByteArray.mk #[c]) K h:=by
  unfold ZA Yk
  have h2:(ByteArray.mk #[c]).size=1:=rfl
  rw [h2,YM]
  rcases l with _ | ⟨a,l⟩
  ·exact Zq (by simp) hk
  ·refine Zp (by simp;omega) ⟨by omega,by omega,by rw [YM];simp;omega,?_⟩
   have e:(Zg (a::l)).extract 0 1=Zg [a]:=by
     apply ByteArray.ext;simp [Zg]
   show ZK (ZbX ((Zg (a::l)).extract 0 1) _) _
   rw [e]
   refine Zf ?_
   have e2:ZbX (Zg [a]) (ByteArray.mk #[c])=decide (a=c):=by
     rw [show ByteArray.mk #[c]=Zg [c] from rfl,Zae]
     by_cases h:a=c
     ·rw [h];simp
     ·simp [h]
   rw [e2];exact hk
theorem ZvA {a:UInt8} {l:BL} {K:ByteArray→Prop} (hl:l.length<9223372036854775806) (hk:K (Zg l)):ZjJ (Zg (a::l)) ((1:Nat):Int) (Zg (a::l)).size K:=by
  refine ⟨by omega,by rw [YM];simp;omega,by rw [YM];simp,?_⟩
  have e:(Zg (a::l)).extract 1 (l.length+1)=Zg l:=by
    apply ByteArray.ext;simp [Zg]
  show K ((Zg (a::l)).extract 1 (l.length+1))
  rw [e];exact hk
theorem Zjo {l:BL} (hl:l.length<9223372036854775806) {K:ByteArray→Bool→HP} {h:Zc} (hk:K (Zg (Zb6 l).1) (Zb6 l).2 h):Xl (Zg l) (ByteArray.mk #[45]) K h:=by
  unfold Xl ZaV Yj YP
  refine ZnZ ?_
  rcases l with _ | ⟨a,l⟩
  ·exact Zp rfl (Zf hk)
  ·dsimp only
   dsimp only [Zb6] at hk
   by_cases ha:a=45
   ·rw [if_pos ha] at hk
    rw [decide_eq_true ha]
    exact Zq rfl (ZvA (by simp at hl;omega) (Zf hk))
   ·rw [if_neg ha] at hk
    rw [decide_eq_false ha]
    exact Zp rfl (Zf hk)
theorem Zkg {l:BL} (hl:l.length<9223372036854775806) {K:ByteArray→HP} {h:Zc} (hk:K (Zg (ZfB l)) h):Y7 (Zg l) (ByteArray.mk #[43]) K h:=by
  unfold Y7 ZaB Yg YI
  refine ZnZ ?_
  rcases l with _ | ⟨a,l⟩
  ·exact Zq rfl hk
  ·dsimp only
   dsimp only [ZfB] at hk
   by_cases ha:a=43
   ·rw [if_pos ha] at hk
    rw [decide_eq_true ha]
    exact Zp rfl (ZvA (by simp at hl;omega) hk)
   ·rw [if_neg ha] at hk
    rw [decide_eq_false ha]
    exact Zq rfl hk
theorem Zks {l:BL} (hl:l.length≤281474976710656) {h:Zc} (ht:ZbG h) {K:Int→Value→HP}
    (h1:∀ v h',Lib.atoiAll l = .ok v→Ext h h'→K v .nilIface h') (h2:∀ n t p h',(∀ v,Lib.atoiAll l≠ .ok v)→Ext h h'→K n (.iface t p) h'):XF (Zg l) K h:=by
  refine ⟨ht,hl,?_⟩
  show match Lib.atoiAll l with
    | .ok v=>_
    | .range=>_
    | _=>_
  cases e:Lib.atoiAll l with
  | ok v=>exact fun h' e'=>h1 v h' e e'
  | _=>exact fun h' t p e'=>h2 _ t p h' (fun v h=>by rw [e] at h;cases h) e'
theorem Zot {x y:BL} {A B:Prop} (h1:x=y→A) (h2:x≠y→B):Zw (ZbX (Zg x) (Zg y)) A B:=by
  rw [Zae];exact ⟨fun e=>h1 (of_decide_eq_true e),fun e=>h2 (of_decide_eq_false e)⟩
theorem Zjj {l:BL} (hl:l.length≤65536) {h:Zc} (ht:ZbG h) {K:Int→Bool→HP} (hk:∀ n h',Ext h h'→(∀ v,ZrH l=some v→n=v)→K n (ZrH l).isSome h'):Zai (Zg l) K h:=by
  unfold Zai Zco
  refine Za ?_
  rw [show ByteArray.mk #[]=Zg [] from rfl,Zae]
  have key:=fun n h'=>hk n h'
  unfold ZrH at key
  by_cases h0:l=[]
  ·rw [if_pos h0] at key
   exact Zp (by simp [h0]) (Za (key 0 h (Ext.refl _) fun v hv=>by cases hv;rfl))
  ·rw [if_neg h0] at key
   refine Zq (by simpa using h0) (Zkg (by omega) (Zks (by have:(ZfB l).length≤l.length:=(by unfold ZfB;split<;>(try split)<;>simp);omega) ht (fun v h' e x=>Za ?_) fun n t p h' e x=>Za ?_))
   ·rw [e] at key
    refine .inl ⟨rfl,Zp rfl (Zk (fun ha=>Za (Zf ?_)) fun ha=>Za ?_)⟩
    ·by_cases hb:v≤1048576
     ·simp only [if_pos (show -1048576≤v∧v≤1048576 from ⟨ha,hb⟩)] at key
      rw [decide_eq_true hb]
      exact key v h' x fun w hw=>by cases hw;rfl
     ·simp only [if_neg (show ¬ (-1048576≤v∧v≤1048576) from fun h=>hb h.2)] at key
      rw [decide_eq_false hb]
      exact key v h' x fun w hw=>by cases hw
    ·simp only [if_neg (show ¬ (-1048576≤v∧v≤1048576) from fun h=>ha h.1)] at key
     exact key v h' x fun w hw=>by cases hw
   ·refine .inr ⟨_,_,rfl,Zq rfl (Za ?_)⟩
    cases e9:Lib.atoiAll (ZfB l) with
    | ok v=>exact absurd e9 (e v)
    | _=>rw [e9] at key;exact key n h' x fun w hw=>by cases hw
theorem ZmX {l:BL} {v:Int} (h:ZrH l=some v) : -1048576≤v∧v≤1048576:=by
  unfold ZrH at h
  split at h
  ·cases h;omega
  ·split at h
   ·split at h
    ·cases h;assumption
    ·cases h
   ·cases h
theorem Zna {h:Zc} {z:VT5} {v:JV} {S:Nat→Prop} {K:Int→Bool→HP} (hv:Zbz h S z v) (hS:∀ j,S j→j<sz h) (hfit:Zpj v) (ht:ZbG h) (hh:9≤sz h)
    (hk:∀ n b h',Ext h h'→(v.k=4→ZdE v=true→b=(ZhM v.t).isSome∧n=(ZhM v.t).getD 0)→(¬ (v.k=4∧ZdE v=true)→n=0∧b=false)→K n b h'):ZbS z K h:=by
  unfold ZbS ZdQ
  have hs:sz h=h.size:=rfl
  refine ZbZ fun h1 c1 e1 z1=>Za ?_
  have c1':obj h1 h.size=some (.cells (XS z).toArray 33 (0,0)):=c1
  have s1:sz h1=h1.size:=rfl
  refine rI (Zn c1' rfl) ?_
  have hz1:z.1=v.k:=hv.1
  rw [hz1]
  by_cases h4:¬ v.k=4
  ·exact Zp (by rw [bne_iff_ne];omega) (Za (hk _ _ h1 e1 (fun h=>absurd h h4) fun _=>⟨rfl,rfl⟩))
  replace h4:v.k=4:=Decidable.not_not.1 h4
  refine Zq (by rw [h4];rfl) (rI (Zn c1' rfl) (rS (Zn c1' rfl) (rL (s:=z.2.2.1) (Zn c1' rfl) (rL (s:=z.2.2.2.1) (Zn c1' rfl) ?_))))
  refine Zh4 (z:=z) (hv.ext hS e1) (fun j hj=>Nat.lt_of_lt_of_le (hS j hj) e1.size) hfit (ht.ext e1) (by have:=e1.size;omega) fun h2 e2=>?_
  have e12:=e1.trans e2
  have c2:=YY c1' e2
  cases hr:ZdE v with
  | false=>exact Zp rfl (Za (hk _ _ h2 e12 (fun _ h=>by rw [hr] at h;cases h) fun _=>⟨rfl,rfl⟩))
  | true =>
    have key:=fun n b h' (x:Ext h h') (y:b=(ZhM v.t).isSome∧n=(ZhM v.t).getD 0)=>hk n b h' x (fun _ _=>y) fun h=>absurd ⟨h4,hr⟩ h
    refine Zq rfl (rS (Zn c2 rfl) ?_)
    have hnum:ZcQ v.t = .ok () []∧v.t.length≤65536:=by
      have:=(Zd4.1 hr).1.1
      rcases this with ⟨h,_⟩ | ⟨_,a,b,_⟩ | ⟨h,_⟩ | ⟨h,_⟩ | ⟨h,_⟩
      ·omega
      ·exact ⟨a,b⟩
      all_goals omega
    obtain ⟨hn,hl⟩:=hnum
    have hasc:∀ c∈v.t,c.toNat<128:=by
      obtain ⟨x,hx,ha⟩:=ZpT _ _ hn
      rw [List.append_nil] at hx;rw [hx];exact ha
    have ht2:=ht.ext e12
    rw [show z.2.1=Zg v.t from hv.2.1]
    unfold ZhM at key
    dsimp only at key
    refine Zjo (by omega) (Zf ?_)
    generalize hm:Zb6 v.t=m at *
    have hml:m.1.length≤v.t.length∧∀ c∈m.1,c.toNat<128:=by
      rw [← hm];exact ⟨Zki _,fun c hc=>hasc c (Zkh _ c hc)⟩
    refine ⟨⟨by rw [YM];omega,fun j b hb=>hml.2 b (List.mem_of_getElem? hb)⟩,fun h3 e3=>?_⟩
    have hll:(Lib.toLowerA m.1).length=m.1.length:=List.length_map ..
    have e13:=e12.trans e3
    have ht3:=ht.ext e13
    show Zbi (Zg (Lib.toLowerA m.1)) _ _ h3
    refine ⟨ht3,by rw [YM];omega,Zf ?_⟩
    show Zbi (Zg (Lib.cut (Lib.toLowerA m.1) [101]).1) _ _ h3
    have hc1:=ZoQ (Lib.toLowerA m.1) [101]
    generalize Lib.cut (Lib.toLowerA m.1) [101]=a at *
    refine ⟨ht3,by rw [YM];omega,Zf ?_⟩
    show Zm5 (Zg (Lib.cut a.1 [46]).1) (Zg (Lib.cut a.1 [46]).2.1) _
    have hc2:=ZoQ a.1 [46]
    generalize Lib.cut a.1 [46]=b at *
    refine ZcD (by omega) ⟨48,by decide,rfl,?_⟩
    show XZ (Zg (Lib.trimLeftB (b.1++b.2.1) 48)) _ _ h3
    have hd:=ZnD (b.1++b.2.1) 48
    rw [List.length_append] at hd
    generalize Lib.trimLeftB (b.1++b.2.1) 48=d at *
    have hg:=ZnC d 48
    refine ⟨48,by decide,rfl,by rw [YM];omega,?_⟩
    refine ⟨48,by decide,rfl,by rw [YM];omega,?_⟩
    show Zm (IntKind.wrap .i64 (((Zg d).size:Int) - ((Zg (Lib.trimRightB d 48)).size:Int))) _
    rw [YM,YM]
    generalize Lib.trimRightB d 48=g at *
    rw [ZZ (by omega) (by omega)]
    refine Za ?_
    refine Zot (x:=g) (y:=[]) (fun h0=>?_) fun h0=>?_
    ·rw [if_pos h0] at key
     exact Za (key 0 true h3 e13 ⟨rfl,rfl⟩)
    rw [if_neg h0] at key
    refine Zjj (l:=a.2.1) (by omega) ht3 fun n h4 e4 hv4=>Za (Zf ?_)
    have e14:=e13.trans e4
    have ht4:=ht.ext e14
    cases he:ZrH a.2.1 with
    | none =>
      rw [he] at key
      exact Zp rfl (Za (key 0 false h4 e14 ⟨rfl,rfl⟩))
    | some y =>
      rw [he] at key
      have hy:=ZmX he
      have hny:=hv4 y he
      subst hny
      refine Zq rfl ?_
      show Zm (IntKind.wrap .i64 (n+IntKind.wrap .i64 ((((d.length:Int)) - ((g.length:Int))) - ((Zg b.2.1).size:Int)))) _
      rw [YM,ZZ (n:=(d.length:Int) - (g.length:Int) - (b.2.1.length:Int)) (by omega) (by omega),ZZ (by omega) (by omega)]
      simp only at key
      generalize hY:n+((d.length:Int) - (g.length:Int) - (b.2.1.length:Int))=Y at *
      refine Za (Zk (fun hneg=>?_) fun hneg=>Zk (fun hbig=>?_) fun hbig=>?_)
      ·rw [if_pos hneg] at key
       exact Za (key 0 false h4 e14 ⟨rfl,rfl⟩)
      ·rw [if_neg hneg,if_pos (by omega)] at key
       exact Za (key 0 false h4 e14 ⟨rfl,rfl⟩)
      rw [if_neg hneg,if_neg (by omega)] at key
      refine ⟨Y.toNat,by omega,by omega,by show 1*_≤_;omega,fun h5 e5=>?_⟩
      have e15:=e14.trans e5
      have ht5:=ht.ext e15
      have hrep:(Lib.repeatL [48] Y.toNat).length=Y.toNat:=by rw [Lib.repeatL_length];simp
      show Zm5 (Zg g) (Zg (Lib.repeatL [48] Y.toNat)) _
      generalize Lib.repeatL [48] Y.toNat=rp at *
      refine ZcD (by omega) ?_
      have fin:∀ ds:BL,ds.length≤281474976710656→(if m.2=true then [45] else [])++(g++rp)=ds→XF (Zg ds) (fun t47 t48 h49 =>
         Zm t47 fun n =>
         ZfL t48 fun b50 =>
         Zw (!b50) (
         Zm 0 fun t51 =>
         K t51 false h49) (
         Zm n fun t52 =>
         K t52 true h49)) h5:=fun ds hlen hds=>by
        rw [hds] at key
        refine Zks hlen ht5 (fun w h' ew x=>Za (.inl ⟨rfl,Zq rfl (Za ?_)⟩)) fun w t p h' ew x=>Za (.inr ⟨_,_,rfl,Zp rfl (Za ?_)⟩)
        ·rw [ew] at key
         exact key w true h' (e15.trans x) ⟨rfl,rfl⟩
        ·cases e9:Lib.atoiAll ds with
         | ok v=>exact absurd e9 (ew v)
         | _=>rw [e9] at key;exact key 0 false h' (e15.trans x) ⟨rfl,rfl⟩
      refine Zhb ?_
      cases hm2:m.2 with
      | true =>
        refine Zp rfl (ZcD (x:=[45]) (y:=g++rp) (by rw [List.length_append];simp;omega) ?_)
        exact fin _ (by simp;omega) (by rw [hm2];rfl)
      | false =>
        refine Zq rfl ?_
        exact fin _ (by simp;omega) (by rw [hm2];rfl)
end Go.Proofs.YtpjbjdheeemdiaaGreatDoor
namespace Go.Js
open Go
def lvT:BL:=[91,49,44,32,34,97,92,117,48,48,52,49,34,44,32,123,34,98,34,58,32,110,117,108,108,125,93]
def lvV:JV:=⟨6,[],[],.cons 4 [49] [] .nil (.cons 5 [97,65] [] .nil (.cons 7 [] [[98]] (.cons 1 [] [] .nil .nil) .nil))⟩
theorem ZlL:Zaf lvT = .ok lvV:=by kernel_rfl
theorem Zi6:ZaJ lvV=[91,49,44,34,97,65,34,44,123,34,98,34,58,110,117,108,108,125,93]:=by kernel_rfl
theorem Zti:Zaf [91,49,44,93] = .err 20 3:=by kernel_rfl
theorem Zth:Zaf [45,55] = .ok ⟨4,[45,55],[],.nil⟩:=by kernel_rfl
theorem ZpV:ZhM [45,55]=some (-7):=by kernel_rfl
theorem Zrv:Lib.itoa (-7)=[45,55]:=by kernel_rfl
theorem ZqR:Zpj lvV:=by simp [Zpj,Zr3,lvV]
theorem Zen {l:BL} {v:JV} (h:Zaf l = .ok v):ZdD 64 v∧Zhp v≤65536:=⟨(Zex h).1,(Zex h).2.1⟩
def Got.val:Got→JV
  | .ok v=>v
  | .err _ _=>⟨0,[],[],.nil⟩
end Go.Js
namespace Go.Proofs.YtpjbjdheeemdiaaGreatDoor
open Go Go.Fw Go.Js
theorem ZpW:ZoO lvV=2:=by kernel_rfl
theorem _root_.Go.Fw.Ext.szz {h h':Zc} (e:Ext h h'):sz h≤sz h':=e.size
theorem Zkt.val {h:Zc} {S:Nat→Prop} {g:Got} {z:VT5} {e n:Int} (r:Zkt h S g z e n):Zbz h S z g.val:=by
  cases g with
  | ok v=>exact r.1
  | err e k=>exact r.1
theorem Zkt.ext {h h':Zc} {S:Nat→Prop} {g:Got} {z:VT5} {e n:Int} (r:Zkt h S g z e n) (hS:∀ j,S j→j<sz h) (u:Ext h h'):Zkt h' S g z e n:=by
  cases g with
  | ok v=>exact ⟨r.1.ext hS u,r.2⟩
  | err e k=>exact ⟨r.1.ext hS u,r.2⟩
theorem Zkt.mono {h:Zc} {S S':Nat→Prop} {g:Got} {z:VT5} {e n:Int} (r:Zkt h S g z e n) (hs:∀ j,S j→S' j):Zkt h S' g z e n:=by
  cases g with
  | ok v=>exact ⟨r.1.keep (fun _ _ _=>rfl) hs,r.2⟩
  | err e k=>exact ⟨r.1.keep (fun _ _ _=>rfl) hs,r.2⟩
theorem Zkt.same {h h':Zc} {S S':Nat→Prop} {g:Got} {z z':VT5} {e n e' n':Int} (r:Zkt h S g z e n) (r':Zkt h' S' g z' e' n'):e=e'∧n=n':=by
  cases g with
  | ok v=>exact ⟨r.2.1.trans r'.2.1.symm,r.2.2.trans r'.2.2.symm⟩
  | err e k=>exact ⟨r.2.1.trans r'.2.1.symm,r.2.2.trans r'.2.2.symm⟩
theorem ZlO {f:Zph} {h:Zc} {s:ByteArray} {g:Got} {K:VT5→Int→Int→Nat→HP}
    (hf:∀ K':VT5→Int→Int→HP,(∀ z e n h',Ext h h'→Zkt h' (fun j=>sz h≤j∧j<sz h') g z e n→K' z e n h')→f s K' h)
    (hk:∀ z e n b h',Ext h h'→obj h' b=some (.cells (XS z).toArray 33 (0,0))→sz h≤b→b<sz h'→Zkt h' (fun j=>sz h≤j∧j<sz h') g z e n→K z e n b h') :
    f s (fun t t1 t2 h3=>newC h3 [.int .u8 0,.string (ByteArray.mk #[]),.slice none 0 0,.slice none 0 0] 33 fun b h4 =>
      sts h4 b 0 [.int .u8 t.1,.string t.2.1,.slice t.2.2.1.ptr t.2.2.1.len t.2.2.1.cap,.slice t.2.2.2.1.ptr t.2.2.2.1.len t.2.2.2.1.cap] fun h5=>K t t1 t2 b h5) h:=by
  refine hf _ fun z e n h1 e1 r=>ZbZ fun h2 c2 e2 z2=>?_
  have c2':obj h2 h1.size=some (.cells zV.toArray 33 (0,0)):=c2
  have s1:sz h1=h1.size:=rfl
  have s2:sz h2=h2.size:=rfl
  have h01:=e1.szz
  refine Zmk c2' (by simp) (Zcf z) fun h3 c3 u3 z3=>?_
  have e3:Ext h1 h3:=e2.updS u3 fun j hj=>by omega
  refine hk z e n _ h3 (e1.trans e3) c3 (by omega) (by omega) ?_
  exact (r.ext (fun j hj=>hj.2) e3).mono fun j hj=>⟨hj.1,by have:=e3.szz;omega⟩
theorem ZgF {h:Zc} {s:ByteArray} (ht:ZbG h) (hh:9≤sz h) {K:VT5→Int→Int→Nat→HP}
    (hk:∀ z e n b h',Ext h h'→obj h' b=some (.cells (XS z).toArray 33 (0,0))→sz h≤b→b<sz h'→Zkt h' (fun j=>sz h≤j∧j<sz h') (Zaf s.data.toList) z e n→K z e n b h') :
    YL s (fun t t1 t2 h3=>newC h3 [.int .u8 0,.string (ByteArray.mk #[]),.slice none 0 0,.slice none 0 0] 33 fun b h4 =>
     sts h4 b 0 [.int .u8 t.1,.string t.2.1,.slice t.2.2.1.ptr t.2.2.1.len t.2.2.1.cap,.slice t.2.2.2.1.ptr t.2.2.2.1.len t.2.2.2.1.cap] fun h5=>K t t1 t2 b h5) h :=
  ZlO (fun _ hk'=>Zh9 ht hh hk') hk
theorem ZmG {h:Zc} {s:ByteArray} (hh:9≤sz h) {K:VT5→Int→Int→Nat→HP}
    (hk:∀ z e n b h',Ext h h'→obj h' b=some (.cells (XS z).toArray 33 (0,0))→sz h≤b→b<sz h'→Zkt h' (fun j=>sz h≤j∧j<sz h') (Zaf s.data.toList) z e n→K z e n b h') :
    Yp s (fun t t1 t2 h3=>newC h3 [.int .u8 0,.string (ByteArray.mk #[]),.slice none 0 0,.slice none 0 0] 33 fun b h4 =>
     sts h4 b 0 [.int .u8 t.1,.string t.2.1,.slice t.2.2.1.ptr t.2.2.1.len t.2.2.1.cap,.slice t.2.2.2.1.ptr t.2.2.2.1.len t.2.2.2.1.cap] fun h5=>K t t1 t2 b h5) h :=
  ZlO (f:=Yp) (fun _ hk'=>ZkR hh hk') hk
theorem Zon {h:Zc} (ht:ZbG h) (hh:9≤sz h) {K:Bool→HP} (hk:∀ h',Ext h h'→K true h'):Y8 K h:=by
  unfold Y8 ZaC
  refine ZgF ht hh fun z e n b h1 e1 c1 b1 b1' g1=>Za (Za ?_)
  have hp:(ByteArray.mk #[91,49,44,32,34,97,92,117,48,48,52,49,34,44,32,123,34,98,34,58,32,110,117,108,108,125,93]).data.toList=lvT:=rfl
  rw [hp,ZlL] at g1
  obtain ⟨v1,rfl,rfl⟩:=g1
  have h01:=e1.szz
  refine rI (Zn c1 rfl) (rS (Zn c1 rfl) (rL (s:=z.2.2.1) (Zn c1 rfl) (rL (s:=z.2.2.2.1) (Zn c1 rfl) ?_)))
  refine ZmA (z:=z) v1 (fun j hj=>hj.2) ZqR (by rw [Zi6];decide) (ht.ext e1) (by omega) fun s f h2 e2 _ _ hs=>Za ?_
  obtain ⟨rfl,rfl⟩:=hs (Zd4.2 (Zen ZlL)) (by rw [Zi6];decide)
  have e02:=e1.trans e2
  have h12:=e2.szz
  refine ZgF (ht.ext e02) (by omega) fun z3 e3 n3 b3 h3 x3 c3 b3' b3'' g3=>Za (Za ?_)
  have hp3:(ByteArray.mk #[91,49,44,93]).data.toList=[91,49,44,93]:=rfl
  rw [hp3,Zti] at g3
  obtain ⟨_,rfl,rfl⟩:=g3
  have e03:=e02.trans x3
  have h23:=x3.szz
  refine ZmI (by omega) (ht.ext e03) fun h4 x4=>?_
  have e04:=e03.trans x4
  have h34:=x4.szz
  rw [Zrv]
  refine Zna (z:=(4,Zg [45,55],⟨none,0,0⟩,⟨none,0,0⟩,())) (v:=⟨4,[45,55],[],.nil⟩) (S:=fun _=>False) (Zbz.plain _ _ 4 _) (fun _ h=>h.elim) (by simp [Zpj,Zr3]) (ht.ext e04) (by omega) fun n5 ok5 h5 x5 hw _=>Za (Zf ?_)
  have hw':=hw rfl (Zd4.2 (Zen Zth))
  simp only [ZpV] at hw'
  obtain ⟨rfl,rfl⟩:=hw'
  have e05:=e04.trans x5
  have h45:=x5.szz
  have x15:Ext h1 h5:=e2.trans (x3.trans (x4.trans x5))
  have c5:=YY c1 x15
  refine Zp rfl (Zp rfl (Zp ?_ (Zp rfl (Zp rfl (Zp rfl (Zp rfl ?_))))))
  ·rw [show ByteArray.mk #[91,49,44,34,97,65,34,44,123,34,98,34,58,110,117,108,108,125,93]=Zg [91,49,44,34,97,65,34,44,123,34,98,34,58,110,117,108,108,125,93] from rfl,Zae,Zi6]
   exact decide_eq_true rfl
  refine rI (Zn c5 rfl) (rS (Zn c5 rfl) (rL (s:=z.2.2.1) (Zn c5 rfl) (rL (s:=z.2.2.2.1) (Zn c5 rfl) ?_)))
  refine Zm1 (z:=z) (v1.ext (fun j hj=>hj.2) x15) (fun j hj=>by omega) ZqR (ht.ext e05) (by omega) fun h6 x6=>Zf ?_
  rw [ZpW]
  exact hk h6 (e05.trans x6)
end Go.Proofs.YtpjbjdheeemdiaaGreatDoor
namespace Go.Proofs.YtpjbjdheeemdiaaGreatDoor
open Go Go.Fw Go.Js
theorem ZhJ {h:Zc} {s:ByteArray} (_:s.size≤140737488351232) (ht:ZbG h) (hh:9≤sz h) {K:Bool→HP} (hk:∀ h',Ext h h'→K true h'):XG s K h:=by
  unfold XG XI
  refine ZgF ht hh fun z e n b h1 e1 c1 b1 b1' g1=>Za (Za ?_)
  have s1:=e1.szz
  refine ZmG (by omega) fun z2 e2 n2 b2 h2 x2 c2 b2' b2'' g2=>Za (Za ?_)
  have s2:=x2.szz
  have e02:=e1.trans x2
  refine Zon (ht.ext e02) (by omega) fun h3 x3=>Zp rfl ?_
  have s3:=x3.szz
  have cb:=YY c1 (x2.trans x3)
  have cb2:=YY c2 x3
  refine rI (Zn cb rfl) (rS (Zn cb rfl) (rL (s:=z.2.2.1) (Zn cb rfl) (rL (s:=z.2.2.2.1) (Zn cb rfl) ?_)))
  refine rI (Zn cb2 rfl) (rS (Zn cb2 rfl) (rL (s:=z2.2.2.1) (Zn cb2 rfl) (rL (s:=z2.2.2.2.1) (Zn cb2 rfl) ?_)))
  refine Zht (a:=z) (b:=z2) (g1.val.ext (fun j hj=>hj.2) (x2.trans x3)) (g2.val.ext (fun j hj=>hj.2) x3) (fun j hj=>by omega) (fun j hj=>by omega) fun h4 x4=>?_
  obtain ⟨he,hn⟩:=g1.same g2
  rw [decide_eq_true rfl]
  refine Zp rfl (Zp (by rw [he];exact beq_self_eq_true _) (Zf ?_))
  rw [hn,beq_self_eq_true]
  exact hk h4 ((e02.trans x3).trans x4)
end Go.Proofs.YtpjbjdheeemdiaaGreatDoor
namespace Go.Proofs.YtpjbjdheeemdiaaGreatDoor
open Go Go.Fw Go.Lib
theorem Zjb {P:Program} {w:World} {t:TypeId} {ms:Array (String × TypeId)} {cs:List Value} {nm:String} {d:DataW Unit} {p:List MemPlace} {fuel:Nat}
    (hu:P.underlying t=some (.interface ms)) (h:DataW.trod (fun _=>()) P w 0 (fun _=>true) false fuel t cs=some (.iface nm d,p)):∃ u v,cs=[.iface u v]:=by
  cases fuel with
  | zero=>simp [DataW.trod] at h
  | succ fuel =>
    unfold DataW.trod at h
    rw [hu] at h
    split at h<;>simp_all
abbrev ZfV:List (String × DataW Unit):=[("math/bits.deBruijn32tab", Rows.laid_math_bits_deBruijn32tab),("math/bits.deBruijn64tab", Rows.laid_math_bits_deBruijn64tab),("internal/strconv.uint64pow10", Rows.laid_internal_strconv_uint64pow10),("unicode/utf8.acceptRanges", Rows.laid_unicode_utf8_acceptRanges),("strconv.ErrRange", Rows.laid_strconv_ErrRange),("strconv.ErrSyntax", Rows.laid_strconv_ErrSyntax),("unicode.CaseRanges", Rows.laid_unicode_CaseRanges),("unicode/utf8.first", Rows.laid_unicode_utf8_first)]
theorem Zkn {w:World} {n:String} {g:Nat} {t e:TypeId} {m:Nat} {k:IntKind} {zs:List Int} (hg:Tryz.prog.globalNamed n=some g) (hty:(Tryz.prog.globals[g]?).map (·.type)=some t)
    (ht:Tryz.prog.underlying t=some (.array m e)) (he:Tryz.prog.underlying e=some (.int k)) (hce:Tryz.prog.cellsOf e=1) (hct:Tryz.prog.cellsOf t=m) (h:VarReads Tryz.prog w n (tabData k zs)):TabIs Tryz.prog w n k zs:=by
  obtain ⟨g',t',cs,fuel,p,hg',ht',hvar,hd⟩:=h
  obtain rfl:=Option.some.inj (hg.symm.trans hg')
  obtain rfl:=Option.some.inj (hty.symm.trans ht')
  unfold TabIs
  rw [hvar,← cells_of_tab ht he hce hct hd]
theorem Zp9:Rows.laid_unicode_utf8_first=firstData:=by kernel_rfl
theorem Zo6:(Rows.laid_unicode_utf8_acceptRanges:DataW Unit)=acceptData:=by kernel_rfl
theorem Zs6:(Rows.laid_internal_strconv_uint64pow10:DataW Unit)=tabData .u64 pow10Tab:=by kernel_rfl
theorem Zio:Tryz.prog.globalNamed "unicode/utf8.first" = some 0:=by kernel_rfl
theorem Zlh:Tryz.prog.globalNamed "unicode/utf8.acceptRanges" = some 1:=by kernel_rfl
theorem ZpH:Tryz.prog.globalNamed "internal/strconv.uint64pow10" = some 6:=by kernel_rfl
theorem Zmx:Tryz.prog.globalNamed "strconv.ErrRange" = some 5:=by kernel_rfl
theorem Zpx:Tryz.prog.globalNamed "strconv.ErrSyntax" = some 4:=by kernel_rfl
theorem ZmW:(Tryz.prog.globals[0]?).map (·.type)=some 271:=by kernel_rfl
theorem Zlg:(Tryz.prog.globals[1]?).map (·.type)=some 274:=by kernel_rfl
theorem ZpG:(Tryz.prog.globals[6]?).map (·.type)=some 332:=by kernel_rfl
theorem Zmw:(Tryz.prog.globals[5]?).map (·.type)=some 177:=by kernel_rfl
theorem Zpw:(Tryz.prog.globals[4]?).map (·.type)=some 177:=by kernel_rfl
theorem Zvc:Tryz.prog.cellsOf 5=1:=by kernel_rfl
theorem ZrQ:Tryz.prog.cellsOf 271=256:=by kernel_rfl
theorem Zvd:Tryz.prog.cellsOf 182=1:=by kernel_rfl
theorem Zve:Tryz.prog.cellsOf 332=20:=by kernel_rfl
theorem ZtB:Tryz.prog.cellsOf 273=2:=by kernel_rfl
theorem Zny {w:World} (h3:VarReads Tryz.prog w "unicode/utf8.first" firstData) (h4:VarReads Tryz.prog w "unicode/utf8.acceptRanges" acceptData):Lib.Utf8Tabs 0 1 w:=by
  refine ⟨fun c hc=>?_,fun i hi=>?_⟩
  ·have hT:=Zkn Zio ZmW Tryz.underlying271 Tryz.underlying5 Zvc ZrQ h3
   rw [hT.cell Zio c (by simp [firstTab];omega)]
   simp [firstTab,List.getD,hc]
  ·obtain ⟨g,t,cs,fuel,p,hg,hty,hvar,hd⟩:=h4
   obtain rfl:=Option.some.inj (Zlh.symm.trans hg)
   obtain rfl:=Option.some.inj (Zlg.symm.trans hty)
   obtain ⟨fuel',d,q,hdi,he⟩:=array_elem Tryz.underlying274 hd i hi
   simp only [List.getElem?_map,List.getElem?_range hi,Option.map_some,Option.some.injEq] at hdi
   subst hdi
   rw [ZtB] at he
   have hcs:=ints_of_struct Tryz.underlying273 (fun j f hj=>by
     match j,hj with
     | 0,hj=>simp at hj;subst hj;exact ⟨Tryz.underlying5,rfl,Zvc⟩
     | 1,hj=>simp at hj;subst hj;exact ⟨Tryz.underlying5,rfl,Zvc⟩
     | j+2,hj=>simp at hj) (by rw [ZtB];rfl) he
   have e0:=congrArg (·[0]?) hcs
   have e1:=congrArg (·[1]?) hcs
   simp only [List.getElem?_take,List.getElem?_drop] at e0 e1
   constructor
   ·rw [World.var?_cell hg hvar (2*i),← Array.getElem?_toList]
    simpa [Nat.mul_comm] using e0
   ·rw [World.var?_cell hg hvar (2*i+1),← Array.getElem?_toList]
    simpa [Nat.mul_comm] using e1
theorem Zkd {w:World} {n nm:String} {g:Nat} {d:DataW Unit} (hg:Tryz.prog.globalNamed n=some g) (hty:(Tryz.prog.globals[g]?).map (·.type)=some 177) (h:VarReads Tryz.prog w n (.iface nm d)):∃ t p,w.cell? ⟨g,0,none⟩=some (.iface t p):=by
  obtain ⟨g',t',cs,fuel,p,hg',ht',hvar,hd⟩:=h
  obtain rfl:=Option.some.inj (hg.symm.trans hg')
  obtain rfl:=Option.some.inj (hty.symm.trans ht')
  obtain ⟨u,v,e⟩:=Zjb Tryz.underlying177 hd
  refine ⟨u,v,?_⟩
  rw [World.var?_cell hg hvar 0,← Array.getElem?_toList,e];rfl
theorem Zoh:((begin Tryz.prog (fun _ _=>0) default).world.heap[2]?).bind Obj.row?=some (#[.int .i64 0],3):=by kernel_rfl
theorem ZkW:Tryz.prog.buildable 3=true:=by kernel_rfl
theorem ZmN:Tryz.prog.cellTypes Tryz.prog.depth 3=some [3]:=by kernel_rfl
theorem Zmm:(begin Tryz.prog (fun _ _=>0) default).world.heap.size=14:=by kernel_rfl
theorem ZfM:Tryz.prog.globals.size=9:=by kernel_rfl
theorem ZmP:(ZfV.all fun x=>x.2.handleName?.isNone)=true:=by kernel_rfl
set_option maxRecDepth 10000 in
theorem Zrb {W:World} (hL:laidMetH Tryz.prog ZfV W) (hS:W.ShapedOpen Tryz.prog):ZbG W.heap∧9≤sz W.heap:=by
  have hl:∀ w:World,w.heap=W.heap→laidMet Tryz.prog ZfV w:=fun w hw=>by
    have:=hL.of_heap hw.symm
    rw [MakeChecks.laidMetH_plain _ _ _ ZmP] at this
    exact this
  have hW:=hl W rfl
  refine ⟨⟨fun w hw=>?_,fun w hw=>?_,?_,?_,?_⟩,?_⟩
  ·have r1:=laidMet.reads (hl w hw) (n:= "unicode/utf8.first") (d:=Rows.laid_unicode_utf8_first) (by simp [ZfV])
   have r2:=laidMet.reads (hl w hw) (n:= "unicode/utf8.acceptRanges") (d:=Rows.laid_unicode_utf8_acceptRanges) (by simp [ZfV])
   rw [Zp9] at r1
   rw [Zo6] at r2
   exact Zny r1 r2
  ·have r1:=laidMet.reads (hl w hw) (n:= "internal/strconv.uint64pow10") (d:=Rows.laid_internal_strconv_uint64pow10) (by simp [ZfV])
   rw [Zs6] at r1
   exact Zkn ZpH ZpG Tryz.underlying332 Tryz.underlying182 Zvd Zve r1
  ·exact Zkd Zmx Zmw (laidMet.reads hW (n:= "strconv.ErrRange") (d:=Rows.laid_strconv_ErrRange) (by simp [ZfV]))
  ·exact Zkd Zpx Zpw (laidMet.reads hW (n:= "strconv.ErrSyntax") (d:=Rows.laid_strconv_ErrSyntax) (by simp [ZfV]))
  ·obtain ⟨cs,hh,hs,hr⟩:=hS.1 _ _ _ (by rw [ZfM];decide) Zoh
   obtain ⟨ts,hts,_,hall⟩:=hr ZkW
   rw [ZmN] at hts
   cases hts
   have h1:0<cs.size:=by rw [hs];decide
   obtain ⟨u,hu',hok⟩:=hall 0 cs[0] (by simp [h1])
   have:u=3:=by simpa using hu'.symm
   subst this
   have hcell:Zc.cell W.heap 2 0=some cs[0]:=by
     unfold Zc.cell;simp [hh,h1]
   rw [hcell]
   unfold Cell.ok at hok
   rw [Tryz.underlying3] at hok
   cases hv:cs[0]<;>rw [hv] at hok<;>first | exact ⟨_,by rw [hok.1]⟩ | simp at hok
  ·obtain ⟨o,o0,h1,_⟩:=hS.2 13 (by rw [ZfM];decide) (by rw [Zmm];decide)
   have:=(Array.getElem?_eq_some_iff.1 h1).1
   show 9≤W.heap.size
   omega
end Go.Proofs.YtpjbjdheeemdiaaGreatDoor
namespace Go.Proofs.YtpjbjdheeemdiaaGreatDoor
open Go Go.Fw
section
variable {H:Type} {enc:TypeId × Value→H}
theorem ZjO {a:Assume} {C:Checked} {os:Os} {f:FuncId} {fn:Func} {s:ChangeSpec} {conds:List PathCond} {apart fresh handsOn again:Bool} {X:World→Array Value→Prop}
    (hX:∀ (w w':World) (args:Array Value),w.heap=w'.heap→X w args→X w' args)
    (own:ownKnob C.prog.godebug=none) (started:os.Started) (noInit:C.prog.inits.idxOf? f=none) (hfn:C.prog.funcs[f]?=some fn)
    (witness:∃ (w:World) (tape:Tape) (i:Input),w.os=os∧(w.forCall tape i).Shaped C.prog∧i.vars=[]∧Input.okWide C.prog (w.forCall tape i) .any w.heap.size f i ∧
      ((s.pre enc C.prog fn conds apart (w.forCall tape i).memory i.args∧X (w.forCall tape i).memory i.args)∧sizedMet enc C.prog fn (OpenSpec.ofChange s) apart (w.forCall tape i).memory i.args)∧a.holds C.prog (lone (Frame.enter C.prog f i.args .normal) [] (w.forCall tape i)))
    (contract:∀ (W:World) (base:Nat) (args:Array Value) (ds gs:List (DataW H)) (before:List MemPlace),
      (∀ (j:Nat) t v,fn.params[j]?=some t→args[j]?=some v→Value.okWide C.prog W .any base t v) →
      DataW.Whole enc C.prog fn.params.toList s.vars apart W args.toList ds gs before →
      (DataW.weightsEach C.prog (fn.params.toList++s.plain.varTypes C.prog) (ds++gs)).all (· ≤ reachBytes)=true→X W args→W.ShapedOpen C.prog →
      Calls C.prog f args W fun e W'=>∃ v,e = .returned v∧s.post enc C.prog fn apart fresh handsOn again W args v W') :
    ReturnsInHanded a C os f .any (fun w args=>(s.pre enc C.prog fn conds apart w args∧X w args)∧sizedMet enc C.prog fn (OpenSpec.ofChange s) apart w args) (s.post enc C.prog fn apart fresh handsOn again):=by
  refine returnsInHanded_of_calls own started noInit witness ?_
  intro w tape i _ hsh _ hok hpre _
  obtain ⟨_,_,_,fn',hfn',_,_,_,_,hval⟩:=hok
  have e:fn'=fn:=Option.some.inj (hfn'.symm.trans hfn)
  subst e
  obtain ⟨⟨⟨ds,gs,before,hw,_⟩,hx⟩,hz⟩:=hpre
  have hw':=DataW.Whole.of_heap (w':=w.forCall tape i) (by rfl) hw
  refine (contract (w.forCall tape i) w.heap.size i.args ds gs before hval hw' (hz.weights hw) (hX _ _ _ (by rfl) hx) hsh).mono fun e W' ⟨v,he,hp⟩=>?_
  subst he
  exact ChangeSpec.post_blind hp
theorem ZnG {P:Program} {w:World} {base:Nat} {spare:Nat→Bool} {held:Bool} {t:TypeId} {fuel:Nat} {s:ByteArray} {d:DataW H} {p:List MemPlace} (ht:P.underlying t=some .string)
    (h:DataW.trod enc P w base spare held fuel t [.string s]=some (d,p)):d = .lit (.string s.data.toList):=by
  obtain ⟨s',hs,hx,_⟩:=DataW.trod_string ht h
  simp at hs
  subst hs
  exact (Prod.mk.inj hx).1
end
end Go.Proofs.YtpjbjdheeemdiaaGreatDoor
