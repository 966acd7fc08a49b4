/- What is written by json.Print; how many values; json.Depth, json.OfInt. -/
import Derived.KernelRfl
import Derived.Test.YtpjbjdheeemdiaaGreatDoorRows
import Derived.Lib.LaidU8
import Derived.Stop.Joined
import Derived.MakeChecks
import Derived.ProofKit
import Derived.OpenShut
import Derived.Lay
import Derived.ChangeArms
import Derived.JoinedCond
import Derived.LaidLaws
import Derived.Lib.AtoiAllCases
import Derived.Test.YtpjbjdheeemdiaaGreatDoorPa13
set_option linter.unusedVariables false
set_option linter.unusedSimpArgs false
namespace Go.Js
open Go
theorem Zih {l:JL}:l.isNil=true↔l = .nil:=by cases l<;>simp [JL.isNil]
theorem Zly {t:BL}:Zr3 t=true↔ZdN t = .ok () []∧t.length≤65536:=by
  constructor
  ·intro h
   unfold Zr3 at h
   cases hp:Za2 t with
   | err e k=>rw [hp] at h;cases h
   | ok v =>
     rw [hp] at h
     simp only [Bool.and_eq_true,decide_eq_true_eq] at h
     obtain ⟨hk,ht⟩:=h
     have hl:=(ZfC hp).2.2
     refine ⟨?_,hl⟩
     rw [Zfb hl] at hp
     cases h1:ZB 64 t with
     | err e r=>rw [h1] at hp;cases hp
     | ok w r =>
       rw [h1] at hp
       simp only at hp
       split at hp
       ·cases hp
        have hv:∀ {op:Bool→BL→Out JV},(∀ b c l w r,op b (c::l) = .ok w r→w.k≠4)→Zdv op t = .ok v r→ZdN t = .ok () []:=by
          intro op hop hg
          unfold Zdv at hg
          split at hg
          ·cases hg
          ·rename_i c l1 e
           have hs:=ZbM t
           rw [e] at hs
           split at hg
           ·exact absurd hk (hop _ _ _ _ _ hg)
           split at hg
           ·exact absurd hk (hop _ _ _ _ _ hg)
           split at hg
           ·obtain ⟨_,_,_,h2⟩:=ZR hg;cases h2;cases hk
           split at hg
           ·obtain ⟨_,_,_,h2⟩:=ZR hg;cases h2;cases hk
           split at hg
           ·obtain ⟨_,_,_,h2⟩:=ZR hg;cases h2;cases hk
           split at hg
           ·obtain ⟨_,_,_,h2⟩:=ZR hg;cases h2;cases hk
           split at hg
           ·obtain ⟨_,r1,h3,h2⟩:=ZR hg
            cases h2
            simp only at ht
            have hsuf:=Zfe.sf.suf h3
            obtain ⟨x,hx⟩:=hsuf
            have hu:upto (c::l1) r=x:=by rw [← hx,ZaW]
            rw [hu] at ht
            have hlen:=congrArg List.length hx
            rw [ht,List.length_append] at hlen
            have hr0:r=[]:=List.eq_nil_of_length_eq_zero (by omega)
            subst hr0
            rw [List.append_nil] at hx
            rw [← ht,hx];exact h3
           ·cases hg
        refine hv (op:=Zky (ZB 63)) (fun b c l w r h9=>?_) h1
        obtain ⟨p,r9,_,h8⟩:=ZR h9
        cases h8
        cases b<;>simp
       ·cases hp
  ·rintro ⟨h1,h2⟩
   have hr:Zem 64 ⟨4,t,[],.nil⟩:=⟨.inr (.inl ⟨rfl,h1,h2,rfl,rfl⟩),trivial,trivial⟩
   have:=Zoy (v:=⟨4,t,[],.nil⟩) hr h2
   have e:Xf ⟨4,t,[],.nil⟩=t:=rfl
   rw [e] at this
   unfold Zr3
   rw [this];simp
theorem ZdW {k:Nat} {t:BL} {ns:List BL} {sub:JL}:whB k t ns sub=true↔Zel k t ns sub:=by
  unfold whB Zel
  by_cases h1:k=1∨k=2∨k=3
  ·rw [if_pos h1]
   simp only [Bool.and_eq_true,decide_eq_true_eq,Zih]
   constructor
   ·rintro ⟨a,b,c⟩;exact .inl ⟨h1,a,c,b⟩
   ·rintro (⟨_,a,b,c⟩ | ⟨a,_⟩ | ⟨a,_⟩ | ⟨a,_⟩ | ⟨a,_⟩)
    ·exact ⟨a,c,b⟩
    all_goals omega
  rw [if_neg h1]
  by_cases h4:k=4
  ·rw [if_pos h4]
   simp only [Bool.and_eq_true,decide_eq_true_eq,Zih,Zly]
   constructor
   ·rintro ⟨⟨a,a'⟩,b,c⟩;exact .inr (.inl ⟨h4,a,a',c,b⟩)
   ·rintro (⟨a,_⟩ | ⟨_,a,a',b,c⟩ | ⟨a,_⟩ | ⟨a,_⟩ | ⟨a,_⟩)
    ·exact absurd a h1
    ·exact ⟨⟨a,a'⟩,c,b⟩
    all_goals omega
  rw [if_neg h4]
  by_cases h5:k=5
  ·rw [if_pos h5]
   simp only [Bool.and_eq_true,decide_eq_true_eq,Zih,Zeu]
   constructor
   ·rintro ⟨a,b,c⟩;exact .inr (.inr (.inl ⟨h5,a,c,b⟩))
   ·rintro (⟨a,_⟩ | ⟨a,_⟩ | ⟨_,a,b,c⟩ | ⟨a,_⟩ | ⟨a,_⟩)
    ·exact absurd a h1
    ·omega
    ·exact ⟨a,c,b⟩
    all_goals omega
  rw [if_neg h5]
  by_cases h6:k=6
  ·rw [if_pos h6]
   simp only [Bool.and_eq_true,decide_eq_true_eq]
   constructor
   ·rintro ⟨a,b⟩;exact .inr (.inr (.inr (.inl ⟨h6,a,b⟩)))
   ·rintro (⟨a,_⟩ | ⟨a,_⟩ | ⟨a,_⟩ | ⟨_,a,b⟩ | ⟨a,_⟩)
    ·exact absurd a h1
    ·omega
    ·omega
    ·exact ⟨a,b⟩
    ·omega
  rw [if_neg h6]
  by_cases h7:k=7
  ·rw [if_pos h7]
   simp only [Bool.and_eq_true,decide_eq_true_eq,List.all_eq_true,Zeu]
   constructor
   ·rintro ⟨a,b,c⟩;exact .inr (.inr (.inr (.inr ⟨h7,a,b,c⟩)))
   ·rintro (⟨a,_⟩ | ⟨a,_⟩ | ⟨a,_⟩ | ⟨a,_⟩ | ⟨_,a,b,c⟩)
    ·exact absurd a h1
    ·omega
    ·omega
    ·omega
    ·exact ⟨a,b,c⟩
  rw [if_neg h7]
  constructor
  ·intro h;cases h
  ·rintro (⟨a,_⟩ | ⟨a,_⟩ | ⟨a,_⟩ | ⟨a,_⟩ | ⟨a,_⟩)
   ·exact absurd a h1
   all_goals omega
theorem Ze9 {k:Nat} {t:BL} {ns:List BL} {sub:JL} (h:Zel k t ns sub) (h6:k≠6) (h7:k≠7):sub = .nil:=by
  rcases h with ⟨_,_,_,h⟩ | ⟨_,_,_,_,h⟩ | ⟨_,_,_,h⟩ | ⟨h,_⟩ | ⟨h,_⟩
  ·exact h
  ·exact h
  ·exact h
  ·exact absurd h h6
  ·exact absurd h h7
theorem ZdJ:∀ (l:JL) (d n dp n' dp':Nat),d≤64→ZaM whB d l n dp=(true,n',dp')→dp'≤64→Zcf (64 - d) l∧n'=n+ZdI l∧dp≤dp'
  | .nil,d,n,dp,n',dp',hd,h,hp=>by
    cases h
    exact ⟨by cases 64 - d<;>exact trivial,rfl,Nat.le_refl _⟩
  | .cons k t ns sub rest,d,n,dp,n',dp',hd,h,hp=>by
    simp only [ZaM] at h
    split at h
    ·cases h
    split at h
    ·cases h
    rename_i hb hw
    have hK:Zel k t ns sub:=ZdW.1 (by simpa using hw)
    split at h
    ·rename_i h67
     obtain ⟨a,b,c⟩:=ZdJ rest d (n+1) dp n' dp' hd h hp
     have hnil:=Ze9 hK h67.1 h67.2
     subst hnil
     refine ⟨?_,by simp only [ZdI];omega,c⟩
     cases hd9:64 - d with
     | zero=>rw [hd9] at a;exact ⟨hK,h67.1,h67.2,a⟩
     | succ m=>rw [hd9] at a;exact ⟨hK,by cases m<;>exact trivial,a⟩
    split at h
    ·obtain ⟨a,b,c⟩:=ZdJ rest d (n+1) _ n' dp' hd h hp
     omega
    rename_i h67 h64
    split at h
    ·rename_i hs
     have hsub:ZaM whB (d+1) sub (n+1) (max dp (d+1))=(true,(ZaM whB (d+1) sub (n+1) (max dp (d+1))).2.1,(ZaM whB (d+1) sub (n+1) (max dp (d+1))).2.2):=by rw [← hs]
     obtain ⟨a,b,c⟩:=ZdJ rest d _ _ n' dp' hd h hp
     obtain ⟨a2,b2,c2⟩:=ZdJ sub (d+1) (n+1) (max dp (d+1)) _ _ (by omega) hsub (by omega)
     refine ⟨?_,by simp only [ZdI];omega,by omega⟩
     obtain ⟨m,hm⟩:∃ m,64 - d=m+1:=⟨64 - d - 1,by omega⟩
     rw [hm] at a ⊢
     rw [show 64 - (d+1)=m by omega] at a2
     exact ⟨hK,a2,a⟩
    ·rename_i hs
     rw [h] at hs
     exact absurd rfl hs
theorem Ze6:∀ (l:JL) (d n dp:Nat),d≤64→Zcf (64 - d) l→n+ZdI l≤65536→dp≤64→∃ dp',ZaM whB d l n dp=(true,n+ZdI l,dp')∧dp'≤64
  | .nil,d,n,dp,_,_,_,hp=>⟨dp,rfl,hp⟩
  | .cons k t ns sub rest,d,n,dp,hd,h,hn,hp=>by
    simp only [ZdI] at hn
    have hK:Zel k t ns sub:=by cases hd9:64 - d<;>rw [hd9] at h<;>exact h.1
    have hR:Zcf (64 - d) rest:=by
      cases hd9:64 - d with
      | zero=>rw [hd9] at h;exact h.2.2.2
      | succ m=>rw [hd9] at h;exact h.2.2
    simp only [ZaM]
    rw [if_neg (by omega),if_neg (by simp [ZdW.2 hK])]
    by_cases h67:k≠6∧k≠7
    ·have hnil:=Ze9 hK h67.1 h67.2
     subst hnil
     rw [if_pos h67]
     obtain ⟨dp',a,b⟩:=Ze6 rest d (n+1) dp hd hR (by simp only [ZdI] at hn;omega) hp
     exact ⟨dp',by rw [a];simp only [ZdI];congr 2;omega,b⟩
    ·rw [if_neg h67]
     obtain ⟨m,hm⟩:∃ m,64 - d=m+1:=by
       cases hd9:64 - d with
       | zero=>rw [hd9] at h;exact absurd ⟨h.2.1,h.2.2.1⟩ h67
       | succ m=>exact ⟨m,rfl⟩
     rw [if_neg (by omega)]
     rw [hm] at h
     obtain ⟨dp',a,b⟩:=Ze6 sub (d+1) (n+1) (max dp (d+1)) (by omega) (by rw [show 64 - (d+1)=m by omega];exact h.2.1) (by omega) (by omega)
     rw [a,if_pos rfl]
     obtain ⟨dp2,a2,b2⟩:=Ze6 rest d (n+1+ZdI sub) dp' hd hR (by omega) b
     exact ⟨dp2,by rw [a2];simp only [ZdI];congr 2;omega,b2⟩
theorem ZdM:∀ {d:Nat} {l:JL},Zcf d l→okN l
  | _,.nil,_=>trivial
  | 0,.cons k t ns sub rest,h=>by
    have:=Ze9 h.1 h.2.1 h.2.2.1
    subst this
    exact ⟨fun e=>absurd e h.2.2.1,trivial,ZdM h.2.2.2⟩
  | d+1,.cons k t ns sub rest,h=>by
    refine ⟨fun e=>?_,ZdM h.2.1,ZdM h.2.2⟩
    rcases h.1 with ⟨hk,_⟩ | ⟨hk,_⟩ | ⟨hk,_⟩ | ⟨hk,_⟩ | ⟨_,_,hl,_⟩
    ·omega
    ·omega
    ·omega
    ·omega
    ·exact hl
def Zcu:Nat→JL→Nat→Nat
  | _,.nil,n=>n
  | m,.cons _ _ _ sub rest,n=>if m<n then n else Zcu m rest (n+Zcu (m - n) sub 1)
theorem Zet:∀ (l:JL) (m n:Nat),Zcu m l n≤max n (m+1)∧n≤Zcu m l n
  | .nil,m,n=>⟨by show n≤_;omega,Nat.le_refl _⟩
  | .cons _ _ _ sub rest,m,n=>by
    simp only [Zcu]
    split
    ·exact ⟨by omega,Nat.le_refl _⟩
    ·have h1:=Zet sub (m - n) 1
     have h2:=Zet rest m (n+Zcu (m - n) sub 1)
     exact ⟨by omega,by omega⟩
theorem Zhg:∀ (l:JL) (m n:Nat),n≤m→(Zcu m l n≤m↔n+ZdI l≤m)∧(n+ZdI l≤m→Zcu m l n=n+ZdI l)
  | .nil,m,n,h=>⟨Iff.rfl,fun _=>rfl⟩
  | .cons _ _ _ sub rest,m,n,h=>by
    simp only [Zcu,ZdI]
    rw [if_neg (by omega)]
    by_cases h1:1≤m - n
    ·have hs:=Zhg sub (m - n) 1 h1
     have hsl:=Zet sub (m - n) 1
     by_cases h2:1+ZdI sub≤m - n
     ·have e:=hs.2 h2
      rw [e]
      have hr:=Zhg rest m (n+(1+ZdI sub)) (by omega)
      exact ⟨by rw [hr.1];omega,fun h9=>by rw [hr.2 (by omega)];omega⟩
     ·have h3:¬ Zcu (m - n) sub 1≤m - n:=fun h9=>h2 (hs.1.1 h9)
      have hr:=Zet rest m (n+Zcu (m - n) sub 1)
      exact ⟨⟨fun h9=>by omega,fun h9=>by omega⟩,fun h9=>by omega⟩
    ·have hsl:=Zet sub (m - n) 1
     have hr:=Zet rest m (n+Zcu (m - n) sub 1)
     exact ⟨⟨fun h9=>by omega,fun h9=>by omega⟩,fun h9=>by omega⟩
end Go.Js
namespace Go.Proofs.YtpjbjdheeemdiaaGreatDoor
open Go Go.Fw Go.Js
theorem ZcB {v:JV}:Zb5 v=true↔Zem 64 v∧Zeq v≤65536:=by
  have hcnt:ZdI (.cons v.k v.t v.ns v.sub .nil)=Zeq v:=by simp [ZdI,Zeq]
  unfold Zb5 Zc2
  constructor
  ·intro h
   simp only [Bool.and_eq_true,decide_eq_true_eq] at h
   have e:ZaM whB 0 (.cons v.k v.t v.ns v.sub .nil) 0 0=(true,(ZaM whB 0 (.cons v.k v.t v.ns v.sub .nil) 0 0).2.1,(ZaM whB 0 (.cons v.k v.t v.ns v.sub .nil) 0 0).2.2):=by rw [← h.1]
   obtain ⟨a,b,_⟩:=ZdJ _ 0 0 0 _ _ (by omega) e h.2
   have hn:=(Zdd whB (.cons v.k v.t v.ns v.sub .nil) 0 0 0 (by omega)).2 h.1
   exact ⟨a,by omega⟩
  ·rintro ⟨a,b⟩
   obtain ⟨dp',e,h⟩:=Ze6 (.cons v.k v.t v.ns v.sub .nil) 0 0 0 (by omega) a (by omega) (by omega)
   rw [e]
   simp [h]
theorem Zhx:∀ (m:Nat) (v:JV),v.sub.hei≤m→Zrg (YP (m+1)) v
  | 0,v,hm=>Zhw (f60:=YP 0) fun i k t ns s r hd=>by have:=JL.drop_hei i v.sub hd;omega
  | m+1,v,hm=>Zhw (f60:=YP (m+1)) fun i k t ns s r hd=>Zhx m ⟨k,t,ns,s⟩ (by have:=JL.drop_hei i v.sub hd;show s.hei≤m;omega)
theorem ZgB {h:Zc} {z:VT5} {v:JV} {S:Nat→Prop} {K:ByteArray→Int→HP} (hv:XY h S z v) (hS:∀ j,S j→j<sz h) (hfit:ZoM v) (hlen:(Xf v).length<800000000) (ht:Zcb h) (hh:9≤sz h)
    (hk:∀ s e h',Ext h h'→(Zb5 v=false→s=Ze []∧e=6)→(Zb5 v=true→65536<(Xf v).length→s=Ze []∧e=5)→(Zb5 v=true→(Xf v).length≤65536→s=Ze (Xf v)∧e=0)→K s e h'):Zab z K h:=by
  unfold Zab ZeV
  have hs:sz h=h.size:=rfl
  refine ZaX fun h1 c1 e1 z1=>Za ?_
  have c1':obj h1 h.size=some (.cells (YS z).toArray 33 (0,0)):=c1
  have s1:sz h1=h1.size:=rfl
  refine rI (Zi c1' rfl) (rS (Zi c1' rfl) (rL (s:=z.2.2.1) (Zi c1' rfl) (rL (s:=z.2.2.2.1) (Zi c1' rfl) ?_)))
  have hS1:∀ j,S j→j<sz h1:=fun j hj=>Nat.lt_of_lt_of_le (hS j hj) e1.size
  refine Ze7 (z:=z) (hv.ext hS e1) hS1 hfit (ht.ext e1) (by omega) fun h2 e2=>?_
  cases hr:Zb5 v with
  | false =>
    refine Zm rfl (Za (hk _ _ h2 (e1.trans e2) (fun _=>⟨rfl,rfl⟩) (fun h=>by rw [hr] at h;cases h) fun h=>by rw [hr] at h;cases h))
  | true =>
    have hrj:=(ZcB.1 hr).1
    have hokn:=ZdM hrj
    refine Zn rfl (ZaX fun h3 c3 e3 z3=>?_)
    have c1'':=Z6 (Z6 c1' e2) e3
    have s2:sz h2=h2.size:=rfl
    have s3:sz h3=h3.size:=rfl
    have b3:Bld h3 h2.size 190 []:=⟨.inr rfl,.pointer none,⟨none,0,0⟩,c3,.inl rfl,Buf.nil _ _⟩
    have e03:=(e1.trans e2).trans e3
    have hsz12:=e2.size
    refine rI (Zi c1'' rfl) (rS (Zi c1'' rfl) (rL (s:=z.2.2.1) (Zi c1'' rfl) (rL (s:=z.2.2.2.1) (Zi c1'' rfl) ?_)))
    refine ⟨v.sub.hei+1,Zhx _ v (Nat.le_refl _) (z:=z) (S:=S) (hv.ext hS e03) (fun j hj=>by have:=hS j hj;omega) b3 hokn.1 hokn.2.1 (by simpa using hlen) fun h4 out b4 w4 l4 l4' u4=>?_⟩
    have e04:Ext h h4:=e03.updS u4.upd fun j hj=>by have:=(Ziq b3 hj).1;omega
    refine ZnA b4 (Zj (fun hbig=>Za (hk _ _ h4 e04 (fun h=>by rw [hr] at h;cases h) (fun _ _=>⟨rfl,rfl⟩) fun _ hle=>?_)) fun hsm=>?_)
    ·rcases w4 with w4 | ⟨_,w4⟩
     ·rw [w4] at hbig;simp at hbig;omega
     ·simp at w4;omega
    ·have hw:out=Xf v:=by
       rcases w4 with w4 | ⟨w4,_⟩
       ·simpa using w4
       ·omega
     refine ZhN b4 fun h5 u5=>Za (hk _ _ h5 (e04.updS u5 fun j hj=>by omega) (fun h=>by rw [hr] at h;cases h) (fun _ hgt=>?_) fun _ _=>⟨by rw [hw],rfl⟩)
     rw [hw] at hsm
     omega
theorem Zme:∀ (m:Nat) {h:Zc} {z:VT5} {v:JV} {S:Nat→Prop} {most:Nat} {K:Int→HP},v.sub.hei≤m→XY h S z v→(∀ j,S j→j<sz h)→most≤65536→(∀ h',Ext h h'→K (Zcu most v.sub 1) h')→Zar (m+1) z most K h:=by
  have step:∀ {f76:Zn9} {v:JV},(∀ i k t ns s r,v.sub.drop i = .cons k t ns s r→∀ {h:Zc} {z:VT5} {S:Nat→Prop} {most:Nat} {K:Int→HP},XY h S z ⟨k,t,ns,s⟩→(∀ j,S j→j<sz h)→most≤65536→(∀ h',Ext h h'→K (Zcu most s 1) h')→f76 z most K h) →
      ∀ {h:Zc} {z:VT5} {S:Nat→Prop} {most:Nat} {K:Int→HP},XY h S z v→(∀ j,S j→j<sz h)→most≤65536→(∀ h',Ext h h'→K (Zcu most v.sub 1) h')→Zc3 f76 z most K h:=by
    intro f76 v hsub h z S most K hv hS hm hk
    unfold Zc3 Zd8
    refine ZaX fun h1 c1 e1 z1=>Za (Za ?_)
    have c1':obj h1 h.size=some (.cells (YS z).toArray 33 (0,0)):=c1
    obtain ⟨a1,a2,a3,a4,cx,a5,a6,a7⟩:=id hv
    have hlx:z.2.2.1.len=v.sub.len:=by have:=a5.len;have:=a7.len;omega
    have hbig:=a5.big
    have hcap:=a5.cap
    refine rL (s:=z.2.2.1) (Zi c1' rfl) ?_
    refine Zx (fun p h'=>∃ n i:Nat,p.1=n∧p.2.1=i∧n≤65537∧i≤v.sub.len∧Ext h h'∧Zcu most v.sub 1=Zcu most (v.sub.drop i) n) (fun p _=>(v.sub.len - p.2.1).toNat) ⟨1,0,rfl,rfl,by omega,Nat.zero_le _,e1,rfl⟩ ?_
    rintro ⟨n0,i0,u⟩ h2 ⟨n,i,hn0,hi,hn,hle,e2,q2⟩
    dsimp only at hn0 hi ⊢
    subst hn0 hi
    refine Zj (fun hlt=>?_) fun hge=>Za ?_
    ·have hia:i<v.sub.len:=by omega
     obtain ⟨k,t,ns,s,r,hd⟩:=JL.drop_cons hia
     rw [hd] at q2
     simp only [Zcu] at q2
     have keepS:∀ {a:Zc},Ext h a→∀ j,S j→j<sz h→obj a j=obj h j:=fun e j hj hl=>ZQ e hl
     refine ZcE (Yf a5 a6 (keepS e2)) (a7.keep (keepS e2) fun j hj=>hj) hd rfl fun zi hzi=>?_
     refine ZaX fun h3 c3 e3 z3=>?_
     have c3':obj h3 h2.size=some (.cells zV.toArray 33 (0,0)):=c3
     refine Zle c3' (by simp) (Zbu zi) fun h4 c4 u4 z4=>?_
     have c4':obj h4 h2.size=some (.cells (YS zi).toArray 33 (0,0)):=c4
     have s2:sz h2=h2.size:=rfl
     have e24:Ext h2 h4:=e3.updS u4 fun j hj=>by omega
     refine Zj (fun hgt=>Za ?_) fun hle2=>?_
     ·rw [if_pos (by omega)] at q2
      have:=hk h4 (e2.trans e24)
      rw [q2] at this;exact this
     ·rw [if_neg (by omega)] at q2
      refine rI (Zi c4' rfl) (rS (Zi c4' rfl) (rL (s:=zi.2.2.1) (Zi c4' rfl) (rL (s:=zi.2.2.2.1) (Zi c4' rfl) ?_)))
      rw [ZJ (n:=(most:Int) - n) (by omega) (by omega),show (most:Int) - n=((most - n:Nat):Int) by omega]
      have hvl:=Zet s (most - n) 1
      refine hsub i k t ns s r hd (S:=S) (hzi.keep (fun j hj hl=>ZQ e24 hl) fun j hj=>hj) (fun j hj=>by have:=hS j hj;have:=e2.size;have:=e24.size;have:sz h=h.size:=rfl;have:sz h4=h4.size:=rfl;omega) (by omega) fun h5 e5=>Za ?_
      rw [ZJ (by omega) (by omega),ZJ (by omega) (by omega)]
      exact ⟨⟨n+Zcu (most - n) s 1,i+1,rfl,rfl,by omega,by omega,(e2.trans e24).trans e5,by rw [q2,JL.drop_succ i _ hd]⟩,by omega⟩
    ·rw [JL.drop_nil (by omega)] at q2
     have:=hk h2 e2
     rw [q2] at this;exact this
  intro m
  induction m with
  | zero=>exact fun {h z v S most K} hm hv hS hmost hk=>step (f76:=Zar 0) (v:=v) (fun i k t ns s r hd=>by have:=JL.drop_hei i v.sub hd;omega) hv hS hmost hk
  | succ m ih=>exact fun {h z v S most K} hm hv hS hmost hk=>step (f76:=Zar (m+1)) (v:=v) (fun i k t ns s r hd {h z S most K}=>ih (v:=⟨k,t,ns,s⟩) (by have:=JL.drop_hei i v.sub hd;show s.hei≤m;omega)) hv hS hmost hk
theorem Zgs {h:Zc} {z:VT5} {v:JV} {S:Nat→Prop} {K:Bool→HP} (hv:XY h S z v) (hS:∀ j,S j→j<sz h) (hk:∀ h',Ext h h'→K (decide (Zeq v≤65536)) h'):Za7 z K h:=by
  unfold Za7 ZeR
  refine ZaX fun h1 c1 e1 z1=>?_
  have c1':obj h1 h.size=some (.cells (YS z).toArray 33 (0,0)):=c1
  refine rI (Zi c1' rfl) (rS (Zi c1' rfl) (rL (s:=z.2.2.1) (Zi c1' rfl) (rL (s:=z.2.2.2.1) (Zi c1' rfl) ?_)))
  refine ⟨v.sub.hei+1,Zme _ (most:=65536) (z:=z) (Nat.le_refl _) (hv.ext hS e1) (fun j hj=>Nat.lt_of_lt_of_le (hS j hj) e1.size) (by omega) fun h2 e2=>Zd ?_⟩
  have:=hk h2 (e1.trans e2)
  have hc:=(Zhg v.sub 65536 1 (by omega)).1
  rw [show decide (((Zcu 65536 v.sub 1:Nat):Int)≤65536)=decide (Zeq v≤65536) by rw [decide_eq_decide];unfold Zeq;omega]
  exact this
def Zg2 (v:JV):Nat:=if Zeq v≤65536∧(Zc2 (fun _ _ _ _=>true) 0 v 0 0).1=true then (Zc2 (fun _ _ _ _=>true) 0 v 0 0).2.2 else 0
theorem ZgQ {h:Zc} {z:VT5} {v:JV} {S:Nat→Prop} {K:Int→HP} (hv:XY h S z v) (hS:∀ j,S j→j<sz h) (hfit:ZoM v) (ht:Zcb h) (hh:9≤sz h) (hk:∀ h',Ext h h'→K (Zg2 v) h'):Zac z K h:=by
  unfold Zac ZeY
  have hs:sz h=h.size:=rfl
  refine ZaX fun h1 c1 e1 z1=>Za (ZaX fun h3 c3 e3 z3=>?_)
  have s1:sz h1=h1.size:=rfl
  have c1':obj h3 h.size=some (.cells (YS z).toArray 33 (0,0)):=Z6 c1 e3
  have e03:=e1.trans e3
  refine rI (Zi c1' rfl) (rS (Zi c1' rfl) (rL (s:=z.2.2.1) (Zi c1' rfl) (rL (s:=z.2.2.2.1) (Zi c1' rfl) ?_)))
  refine Zgs (z:=z) (hv.ext hS e03) (fun j hj=>Nat.lt_of_lt_of_le (hS j hj) e03.size) fun h9 e9=>?_
  have e09:=e03.trans e9
  unfold Zg2 at hk
  by_cases hc:Zeq v≤65536
  ·rw [decide_eq_true hc]
   have c9:=Z6 c1' e9
   refine Zn rfl (rI (Zi c9 rfl) (rS (Zi c9 rfl) (rL (s:=z.2.2.1) (Zi c9 rfl) (rL (s:=z.2.2.2.1) (Zi c9 rfl) ?_))))
   refine ⟨v.sub.hei+1,ZhB (rt:=fun _ _ _ _=>true) (.inr ⟨rfl,rfl⟩) _ v (Nat.le_refl _) (n:=0) (dp:=0) (d:=0) (z:=z) (hv.ext hS e09) (fun j hj=>⟨Nat.lt_of_lt_of_le (hS j hj) e09.size,by have:=hS j hj;omega⟩) hfit (ht.ext e09) (by omega) (Z6 c3 e9) (by omega) (by omega) (by omega) fun h8 hC8 u8=>?_⟩
   have key:=hk h8 (e09.updS u8 fun j hj=>by omega)
   cases hw:(Zc2 (fun _ _ _ _=>true) 0 v 0 0).1 with
   | false=>rw [hw] at key;rw [if_neg (by simp)] at key;exact Zm rfl (Za key)
   | true=>rw [hw] at key;rw [if_pos ⟨hc,rfl⟩] at key;exact Zn rfl (rI (Zi hC8 rfl) (Za key))
  ·rw [decide_eq_false hc]
   have key:=hk h9 e09
   rw [if_neg fun h=>hc h.1] at key
   exact Zm rfl (Za key)
theorem Zoz {h:Zc} {n:Int} (hn : -9223372036854775808≤n∧n≤9223372036854775807) (ht:Zcb h) {K:VT5→HP} (hk:∀ h',Ext h h'→K (4,Ze (Lib.itoa n),⟨none,0,0⟩,⟨none,0,0⟩,()) h'):ZcW n K h:=by
  unfold ZcW ZeW
  refine ZaX fun h1 c1 e1 z1=>⟨ht.ext e1,hn.1,hn.2,fun h2 e2=>?_⟩
  have c1':obj h1 h.size=some (.cells zV.toArray 33 (0,0)):=c1
  have hs:sz h=h.size:=rfl
  exact Zex (x:=⟨none,0,0⟩) (y:=⟨none,0,0⟩) (Z6 c1' e2) rfl fun h3 u3 z3=>hk h3 ((e1.trans e2).updS u3 fun j hj=>by omega)
end Go.Proofs.YtpjbjdheeemdiaaGreatDoor
namespace Go.Js
open Go
def Asc (p:BL→Out Unit):Prop:=∀ l r,p l = .ok () r→∃ x,l=x++r∧∀ c∈x,c.toNat<128
theorem ZlH {c:UInt8} (h:Xn c=true):c.toNat<128:=by
  unfold Xn at h
  simp only [Bool.and_eq_true,decide_eq_true_eq] at h
  omega
theorem Zld:∀ (l:BL),∀ c∈l.takeWhile Xn,c.toNat<128
  | [],c,h=>by cases h
  | d::l,c,h=>by
    rw [List.takeWhile_cons] at h
    split at h
    ·rename_i hd
     rcases List.mem_cons.1 h with h | h
     ·rw [h];exact ZlH hd
     ·exact Zld l c h
    ·cases h
theorem ZfO:Asc Ym:=by
  intro l r h
  rcases l with _ | ⟨c,l⟩
  ·cases h
  ·dsimp only [Ym] at h
   split at h
   ·rename_i hd
    cases h
    refine ⟨c::l.takeWhile Xn,by simp,fun d hd2=>?_⟩
    rcases List.mem_cons.1 hd2 with h | h
    ·rw [h];exact ZlH hd
    ·exact Zld l d h
   ·cases h
theorem Zse:Asc ZfJ:=by
  intro l r h
  rcases l with _ | ⟨c,l⟩
  ·cases h
  ·dsimp only [ZfJ] at h
   split at h
   ·rename_i hc
    have:l=r:=by
      rcases l with _ | ⟨d,l⟩
      ·cases h;rfl
      ·dsimp only [Za3] at h
       split at h
       ·cases h
       ·cases h;rfl
    subst this
    exact ⟨[c],rfl,fun d hd=>by rw [List.mem_singleton] at hd;rw [hd,hc];decide⟩
   ·exact ZfO _ _ h
theorem ZqN:Asc ZdS:=by
  intro l r h
  rcases l with _ | ⟨c,l⟩
  ·cases h;exact ⟨[],rfl,fun _ h=>by cases h⟩
  ·dsimp only [ZdS] at h
   split at h
   ·rename_i hc
    obtain ⟨x,hx,ha⟩:=ZfO _ _ h
    refine ⟨c::x,by rw [hx];rfl,fun d hd=>?_⟩
    rcases List.mem_cons.1 hd with h | h
    ·rw [h,hc];decide
    ·exact ha d h
   ·cases h;exact ⟨[],rfl,fun _ h=>by cases h⟩
theorem Zso:Asc Zgi:=by
  intro l r h
  rcases l with _ | ⟨c,l⟩
  ·cases h;exact ⟨[],rfl,fun _ h=>by cases h⟩
  ·dsimp only [Zgi] at h
   split at h
   ·rename_i hc
    have hc':c.toNat<128:=by rcases hc with hc | hc<;>rw [hc]<;>decide
    obtain ⟨x,hx,ha⟩:=ZfO _ _ h
    rcases l with _ | ⟨d,l⟩
    ·cases h
    ·dsimp only [Zfm] at hx
     split at hx
     ·rename_i hd
      have hd':d.toNat<128:=by rcases hd with hd | hd<;>rw [hd]<;>decide
      refine ⟨c::d::x,by rw [hx];rfl,fun e he=>?_⟩
      rcases List.mem_cons.1 he with h | h
      ·rw [h];exact hc'
      rcases List.mem_cons.1 h with h | h
      ·rw [h];exact hd'
      ·exact ha e h
     ·refine ⟨c::x,by rw [hx];rfl,fun e he=>?_⟩
      rcases List.mem_cons.1 he with h | h
      ·rw [h];exact hc'
      ·exact ha e h
   ·cases h;exact ⟨[],rfl,fun _ h=>by cases h⟩
theorem Zr2:Asc ZdN:=by
  intro l r h
  obtain ⟨l1,l2,h1,h2,h3⟩:=Zho h
  obtain ⟨x1,e1,a1⟩:=Zse _ _ h1
  obtain ⟨x2,e2,a2⟩:=ZqN _ _ h2
  obtain ⟨x3,e3,a3⟩:=Zso _ _ h3
  have key:∀ c∈x1++(x2++x3),c.toNat<128:=fun c hc=>by
    rcases List.mem_append.1 hc with h | h
    ·exact a1 c h
    rcases List.mem_append.1 h with h | h
    ·exact a2 c h
    ·exact a3 c h
  rcases l with _ | ⟨c,l⟩
  ·cases h1
  ·dsimp only [Zal] at e1
   split at e1
   ·rename_i hc
    refine ⟨c::(x1++(x2++x3)),by rw [e1,e2,e3];simp,fun d hd=>?_⟩
    rcases List.mem_cons.1 hd with h | h
    ·rw [h,hc];decide
    ·exact key d h
   ·exact ⟨x1++(x2++x3),by rw [e1,e2,e3];simp,key⟩
def Zc5:BL→BL × Bool
  | c::l=>if c=45 then (l,true) else (c::l,false)
  | []=>([],false)
def ZgR:BL→BL
  | c::l=>if c=43 then l else c::l
  | []=>[]
def Zuc (s:BL):Option Int:=if s=[] then some 0 else match Lib.atoiAll (ZgR s) with
  | .ok v=>if -1048576≤v∧v≤1048576 then some v else none
  | _=>none
def Zje (t:BL):Option Int :=
  let m:=Zc5 t
  let a:=Lib.cut (Lib.toLowerA m.1) [101]
  let b:=Lib.cut a.1 [46]
  let d:=Lib.trimLeftB (b.1++b.2.1) 48
  let g:=Lib.trimRightB d 48
  if g=[] then some 0 else match Zuc a.2.1 with
  | none=>none
  | some y =>
    let y:=y+((d.length:Int) - g.length - b.2.1.length)
    if y<0 then none else if 20<y then none else match Lib.atoiAll ((if m.2=true then [45] else [])++(g++Lib.repeatL [48] y.toNat)) with
    | .ok v=>some v
    | _=>none
theorem ZlU:∀ l:BL,(Zc5 l).1.length≤l.length
  | []=>Nat.le_refl _
  | c::l=>by dsimp only [Zc5];split<;>simp
theorem ZlT:∀ (l:BL) (c:UInt8),c∈(Zc5 l).1→c∈l
  | [],c,h=>h
  | d::l,c,h=>by
    dsimp only [Zc5] at h
    split at h
    ·exact List.mem_cons_of_mem _ h
    ·exact h
theorem Zq0 (s p:BL):(Lib.cut s p).1.length≤s.length∧(Lib.cut s p).2.1.length≤s.length:=by
  unfold Lib.cut
  split
  ·exact ⟨by rw [List.length_take];omega,by rw [List.length_drop];omega⟩
  ·exact ⟨Nat.le_refl _,Nat.zero_le _⟩
theorem Ziy (p:UInt8→Bool):∀ l:BL,(l.dropWhile p).length≤l.length
  | []=>Nat.le_refl _
  | c::l=>by
    rw [List.dropWhile_cons]
    split
    ·have:=Ziy p l;simp;omega
    ·exact Nat.le_refl _
theorem ZpA (l:BL) (c:UInt8):(Lib.trimLeftB l c).length≤l.length:=Ziy _ l
theorem Zpz (l:BL) (c:UInt8):(Lib.trimRightB l c).length≤l.length:=by
  unfold Lib.trimRightB
  rw [List.length_reverse]
  have:=Ziy (· ==c) l.reverse
  rw [List.length_reverse] at this
  exact this
end Go.Js
namespace Go.Proofs.YtpjbjdheeemdiaaGreatDoor
open Go Go.Fw Go.Js
theorem Zp0 {l:BL} {c:UInt8} {K:Bool→HP} {h:Zc} (hk:K (match l with | d::_=>decide (d=c) | []=>false) h):ZC (Ze l) (ByteArray.mk #[c]) K h:=by
  unfold ZC Yx
  have h2:(ByteArray.mk #[c]).size=1:=rfl
  rw [h2,YO]
  rcases l with _ | ⟨a,l⟩
  ·exact Zn (by simp) hk
  ·refine Zm (by simp;omega) ⟨by omega,by omega,by rw [YO];simp;omega,?_⟩
   have e:(Ze (a::l)).extract 0 1=Ze [a]:=by
     apply ByteArray.ext;simp [Ze]
   show ZD (Za0 ((Ze (a::l)).extract 0 1) _) _
   rw [e]
   refine Zd ?_
   have e2:Za0 (Ze [a]) (ByteArray.mk #[c])=decide (a=c):=by
     rw [show ByteArray.mk #[c]=Ze [c] from rfl,Xc]
     by_cases h:a=c
     ·rw [h];simp
     ·simp [h]
   rw [e2];exact hk
theorem Zy4 {a:UInt8} {l:BL} {K:ByteArray→Prop} (hl:l.length<9223372036854775806) (hk:K (Ze l)):Zlg (Ze (a::l)) ((1:Nat):Int) (Ze (a::l)).size K:=by
  refine ⟨by omega,by rw [YO];simp;omega,by rw [YO];simp,?_⟩
  have e:(Ze (a::l)).extract 1 (l.length+1)=Ze l:=by
    apply ByteArray.ext;simp [Ze]
  show K ((Ze (a::l)).extract 1 (l.length+1))
  rw [e];exact hk
theorem ZkU {l:BL} (hl:l.length<9223372036854775806) {K:ByteArray→Bool→HP} {h:Zc} (hk:K (Ze (Zc5 l).1) (Zc5 l).2 h):XO (Ze l) (ByteArray.mk #[45]) K h:=by
  unfold XO ZbU Yw Y9
  refine Zp0 ?_
  rcases l with _ | ⟨a,l⟩
  ·exact Zm rfl (Zd hk)
  ·dsimp only
   dsimp only [Zc5] at hk
   by_cases ha:a=45
   ·rw [if_pos ha] at hk
    rw [decide_eq_true ha]
    exact Zn rfl (Zy4 (by simp at hl;omega) (Zd hk))
   ·rw [if_neg ha] at hk
    rw [decide_eq_false ha]
    exact Zm rfl (Zd hk)
theorem ZlS {l:BL} (hl:l.length<9223372036854775806) {K:ByteArray→HP} {h:Zc} (hk:K (Ze (ZgR l)) h):Xz (Ze l) (ByteArray.mk #[43]) K h:=by
  unfold Xz Zby Ys Y4
  refine Zp0 ?_
  rcases l with _ | ⟨a,l⟩
  ·exact Zn rfl hk
  ·dsimp only
   dsimp only [ZgR] at hk
   by_cases ha:a=43
   ·rw [if_pos ha] at hk
    rw [decide_eq_true ha]
    exact Zm rfl (Zy4 (by simp at hl;omega) hk)
   ·rw [if_neg ha] at hk
    rw [decide_eq_false ha]
    exact Zn rfl hk
theorem Zl3 {l:BL} (hl:l.length≤281474976710656) {h:Zc} (ht:Zcb h) {K:Int→Value→HP}
    (h1:∀ v h',Lib.atoiAll l = .ok v→Ext h h'→K v .nilIface h') (h2:∀ n t p h',(∀ v,Lib.atoiAll l≠ .ok v)→Ext h h'→K n (.iface t p) h'):Zah (Ze l) K h:=by
  refine ⟨ht,hl,?_⟩
  show match Lib.atoiAll l with
    | .ok v=>_
    | .range=>_
    | _=>_
  cases e:Lib.atoiAll l with
  | ok v=>exact fun h' e'=>h1 v h' e e'
  | _=>exact fun h' t p e'=>h2 _ t p h' (fun v h=>by rw [e] at h;cases h) e'
theorem ZqA {x y:BL} {A B:Prop} (h1:x=y→A) (h2:x≠y→B):Zs (Za0 (Ze x) (Ze y)) A B:=by
  rw [Xc];exact ⟨fun e=>h1 (of_decide_eq_true e),fun e=>h2 (of_decide_eq_false e)⟩
theorem ZkO {l:BL} (hl:l.length≤65536) {h:Zc} (ht:Zcb h) {K:Int→Bool→HP} (hk:∀ n h',Ext h h'→(∀ v,Zuc l=some v→n=v)→K n (Zuc l).isSome h'):Za9 (Ze l) K h:=by
  unfold Za9 Zdp
  refine Za ?_
  rw [show ByteArray.mk #[]=Ze [] from rfl,Xc]
  have key:=fun n h'=>hk n h'
  unfold Zuc at key
  by_cases h0:l=[]
  ·rw [if_pos h0] at key
   exact Zm (by simp [h0]) (Za (key 0 h (Ext.refl _) fun v hv=>by cases hv;rfl))
  ·rw [if_neg h0] at key
   refine Zn (by simpa using h0) (ZlS (by omega) (Zl3 (by have:(ZgR l).length≤l.length:=(by unfold ZgR;split<;>(try split)<;>simp);omega) ht (fun v h' e x=>Za ?_) fun n t p h' e x=>Za ?_))
   ·rw [e] at key
    refine .inl ⟨rfl,Zm rfl (Zj (fun ha=>Za (Zd ?_)) fun ha=>Za ?_)⟩
    ·by_cases hb:v≤1048576
     ·simp only [if_pos (show -1048576≤v∧v≤1048576 from ⟨ha,hb⟩)] at key
      rw [decide_eq_true hb]
      exact key v h' x fun w hw=>by cases hw;rfl
     ·simp only [if_neg (show ¬ (-1048576≤v∧v≤1048576) from fun h=>hb h.2)] at key
      rw [decide_eq_false hb]
      exact key v h' x fun w hw=>by cases hw
    ·simp only [if_neg (show ¬ (-1048576≤v∧v≤1048576) from fun h=>ha h.1)] at key
     exact key v h' x fun w hw=>by cases hw
   ·refine .inr ⟨_,_,rfl,Zn rfl (Za ?_)⟩
    cases e9:Lib.atoiAll (ZgR l) with
    | ok v=>exact absurd e9 (e v)
    | _=>rw [e9] at key;exact key n h' x fun w hw=>by cases hw
theorem ZoO {l:BL} {v:Int} (h:Zuc l=some v) : -1048576≤v∧v≤1048576:=by
  unfold Zuc at h
  split at h
  ·cases h;omega
  ·split at h
   ·split at h
    ·cases h;assumption
    ·cases h
   ·cases h
theorem Zo0 {h:Zc} {z:VT5} {v:JV} {S:Nat→Prop} {K:Int→Bool→HP} (hv:XY h S z v) (hS:∀ j,S j→j<sz h) (hfit:ZoM v) (ht:Zcb h) (hh:9≤sz h)
    (hk:∀ n b h',Ext h h'→(v.k=4→Zb5 v=true→b=(Zje v.t).isSome∧n=(Zje v.t).getD 0)→(¬ (v.k=4∧Zb5 v=true)→n=0∧b=false)→K n b h'):ZcV z K h:=by
  unfold ZcV ZeT
  have hs:sz h=h.size:=rfl
  refine ZaX fun h1 c1 e1 z1=>Za ?_
  have c1':obj h1 h.size=some (.cells (YS z).toArray 33 (0,0)):=c1
  have s1:sz h1=h1.size:=rfl
  refine rI (Zi c1' rfl) ?_
  have hz1:z.1=v.k:=hv.1
  rw [hz1]
  by_cases h4:¬ v.k=4
  ·exact Zm (by rw [bne_iff_ne];omega) (Za (hk _ _ h1 e1 (fun h=>absurd h h4) fun _=>⟨rfl,rfl⟩))
  replace h4:v.k=4:=Decidable.not_not.1 h4
  refine Zn (by rw [h4];rfl) (rI (Zi c1' rfl) (rS (Zi c1' rfl) (rL (s:=z.2.2.1) (Zi c1' rfl) (rL (s:=z.2.2.2.1) (Zi c1' rfl) ?_))))
  refine Ze7 (z:=z) (hv.ext hS e1) (fun j hj=>Nat.lt_of_lt_of_le (hS j hj) e1.size) hfit (ht.ext e1) (by have:=e1.size;omega) fun h2 e2=>?_
  have e12:=e1.trans e2
  have c2:=Z6 c1' e2
  cases hr:Zb5 v with
  | false=>exact Zm rfl (Za (hk _ _ h2 e12 (fun _ h=>by rw [hr] at h;cases h) fun _=>⟨rfl,rfl⟩))
  | true =>
    have key:=fun n b h' (x:Ext h h') (y:b=(Zje v.t).isSome∧n=(Zje v.t).getD 0)=>hk n b h' x (fun _ _=>y) fun h=>absurd ⟨h4,hr⟩ h
    refine Zn rfl (rS (Zi c2 rfl) ?_)
    have hnum:ZdN v.t = .ok () []∧v.t.length≤65536:=by
      have:=(ZcB.1 hr).1.1
      rcases this with ⟨h,_⟩ | ⟨_,a,b,_⟩ | ⟨h,_⟩ | ⟨h,_⟩ | ⟨h,_⟩
      ·omega
      ·exact ⟨a,b⟩
      all_goals omega
    obtain ⟨hn,hl⟩:=hnum
    have hasc:∀ c∈v.t,c.toNat<128:=by
      obtain ⟨x,hx,ha⟩:=Zr2 _ _ hn
      rw [List.append_nil] at hx;rw [hx];exact ha
    have ht2:=ht.ext e12
    rw [show z.2.1=Ze v.t from hv.2.1]
    unfold Zje at key
    dsimp only at key
    refine ZkU (by omega) (Zd ?_)
    generalize hm:Zc5 v.t=m at *
    have hml:m.1.length≤v.t.length∧∀ c∈m.1,c.toNat<128:=by
      rw [← hm];exact ⟨ZlU _,fun c hc=>hasc c (ZlT _ c hc)⟩
    refine ⟨⟨by rw [YO];omega,fun j b hb=>hml.2 b (List.mem_of_getElem? hb)⟩,fun h3 e3=>?_⟩
    have hll:(Lib.toLowerA m.1).length=m.1.length:=List.length_map ..
    have e13:=e12.trans e3
    have ht3:=ht.ext e13
    show Zcj (Ze (Lib.toLowerA m.1)) _ _ h3
    refine ⟨ht3,by rw [YO];omega,Zd ?_⟩
    show Zcj (Ze (Lib.cut (Lib.toLowerA m.1) [101]).1) _ _ h3
    have hc1:=Zq0 (Lib.toLowerA m.1) [101]
    generalize Lib.cut (Lib.toLowerA m.1) [101]=a at *
    refine ⟨ht3,by rw [YO];omega,Zd ?_⟩
    show Zi9 (Ze (Lib.cut a.1 [46]).1) (Ze (Lib.cut a.1 [46]).2.1) _
    have hc2:=Zq0 a.1 [46]
    generalize Lib.cut a.1 [46]=b at *
    refine ZdB (by omega) ⟨48,by decide,rfl,?_⟩
    show ZaB (Ze (Lib.trimLeftB (b.1++b.2.1) 48)) _ _ h3
    have hd:=ZpA (b.1++b.2.1) 48
    rw [List.length_append] at hd
    generalize Lib.trimLeftB (b.1++b.2.1) 48=d at *
    have hg:=Zpz d 48
    refine ⟨48,by decide,rfl,by rw [YO];omega,?_⟩
    refine ⟨48,by decide,rfl,by rw [YO];omega,?_⟩
    show Zl (IntKind.wrap .i64 (((Ze d).size:Int) - ((Ze (Lib.trimRightB d 48)).size:Int))) _
    rw [YO,YO]
    generalize Lib.trimRightB d 48=g at *
    rw [ZJ (by omega) (by omega)]
    refine Za ?_
    refine ZqA (x:=g) (y:=[]) (fun h0=>?_) fun h0=>?_
    ·rw [if_pos h0] at key
     exact Za (key 0 true h3 e13 ⟨rfl,rfl⟩)
    rw [if_neg h0] at key
    refine ZkO (l:=a.2.1) (by omega) ht3 fun n h4 e4 hv4=>Za (Zd ?_)
    have e14:=e13.trans e4
    have ht4:=ht.ext e14
    cases he:Zuc a.2.1 with
    | none =>
      rw [he] at key
      exact Zm rfl (Za (key 0 false h4 e14 ⟨rfl,rfl⟩))
    | some y =>
      rw [he] at key
      have hy:=ZoO he
      have hny:=hv4 y he
      subst hny
      refine Zn rfl ?_
      show Zl (IntKind.wrap .i64 (n+IntKind.wrap .i64 ((((d.length:Int)) - ((g.length:Int))) - ((Ze b.2.1).size:Int)))) _
      rw [YO,ZJ (n:=(d.length:Int) - (g.length:Int) - (b.2.1.length:Int)) (by omega) (by omega),ZJ (by omega) (by omega)]
      simp only at key
      generalize hY:n+((d.length:Int) - (g.length:Int) - (b.2.1.length:Int))=Y at *
      refine Za (Zj (fun hneg=>?_) fun hneg=>Zj (fun hbig=>?_) fun hbig=>?_)
      ·rw [if_pos hneg] at key
       exact Za (key 0 false h4 e14 ⟨rfl,rfl⟩)
      ·rw [if_neg hneg,if_pos (by omega)] at key
       exact Za (key 0 false h4 e14 ⟨rfl,rfl⟩)
      rw [if_neg hneg,if_neg (by omega)] at key
      refine ⟨Y.toNat,by omega,by omega,by show 1*_≤_;omega,fun h5 e5=>?_⟩
      have e15:=e14.trans e5
      have ht5:=ht.ext e15
      have hrep:(Lib.repeatL [48] Y.toNat).length=Y.toNat:=by rw [Lib.repeatL_length];simp
      show Zi9 (Ze g) (Ze (Lib.repeatL [48] Y.toNat)) _
      generalize Lib.repeatL [48] Y.toNat=rp at *
      refine ZdB (by omega) ?_
      have fin:∀ ds:BL,ds.length≤281474976710656→(if m.2=true then [45] else [])++(g++rp)=ds→Zah (Ze ds) (fun t47 t48 h49 =>
         Zl t47 fun n =>
         Zg0 t48 fun b50 =>
         Zs (!b50) (
         Zl 0 fun t51 =>
         K t51 false h49) (
         Zl n fun t52 =>
         K t52 true h49)) h5:=fun ds hlen hds=>by
        rw [hds] at key
        refine Zl3 hlen ht5 (fun w h' ew x=>Za (.inl ⟨rfl,Zn rfl (Za ?_)⟩)) fun w t p h' ew x=>Za (.inr ⟨_,_,rfl,Zm rfl (Za ?_)⟩)
        ·rw [ew] at key
         exact key w true h' (e15.trans x) ⟨rfl,rfl⟩
        ·cases e9:Lib.atoiAll ds with
         | ok v=>exact absurd e9 (ew v)
         | _=>rw [e9] at key;exact key 0 false h' (e15.trans x) ⟨rfl,rfl⟩
      refine ZiC ?_
      cases hm2:m.2 with
      | true =>
        refine Zm rfl (ZdB (x:=[45]) (y:=g++rp) (by rw [List.length_append];simp;omega) ?_)
        exact fin _ (by simp;omega) (by rw [hm2];rfl)
      | false =>
        refine Zn rfl ?_
        exact fin _ (by simp;omega) (by rw [hm2];rfl)
end Go.Proofs.YtpjbjdheeemdiaaGreatDoor
namespace Go.Js
open Go
def lvT:BL:=[91,49,44,32,34,97,92,117,48,48,52,49,34,44,32,123,34,98,34,58,32,110,117,108,108,125,93]
def lvV:JV:=⟨6,[],[],.cons 4 [49] [] .nil (.cons 5 [97,65] [] .nil (.cons 7 [] [[98]] (.cons 1 [] [] .nil .nil) .nil))⟩
theorem Znz:Za2 lvT = .ok lvV:=by kernel_rfl
theorem ZkC:Xf lvV=[91,49,44,34,97,65,34,44,123,34,98,34,58,110,117,108,108,125,93]:=by kernel_rfl
theorem ZvW:Za2 [91,49,44,93] = .err 20 3:=by kernel_rfl
theorem ZvV:Za2 [45,55] = .ok ⟨4,[45,55],[],.nil⟩:=by kernel_rfl
theorem Zr5:Zje [45,55]=some (-7):=by kernel_rfl
theorem ZtX:Lib.itoa (-7)=[45,55]:=by kernel_rfl
theorem Ztb:ZoM lvV:=by simp [ZoM,Zt9,lvV]
theorem Zfu {l:BL} {v:JV} (h:Za2 l = .ok v):Zem 64 v∧Zeq v≤65536:=⟨(ZfC h).1,(ZfC h).2.1⟩
def Got.val:Got→JV
  | .ok v=>v
  | .err _ _=>⟨0,[],[],.nil⟩
end Go.Js
namespace Go.Proofs.YtpjbjdheeemdiaaGreatDoor
open Go Go.Fw Go.Js
theorem Zr6:Zg2 lvV=2:=by kernel_rfl
theorem _root_.Go.Fw.Ext.szz {h h':Zc} (e:Ext h h'):sz h≤sz h':=e.size
theorem Zl6.val {h:Zc} {S:Nat→Prop} {g:Got} {z:VT5} {e n:Int} (r:Zl6 h S g z e n):XY h S z g.val:=by
  cases g with
  | ok v=>exact r.1
  | err e k=>exact r.1
theorem Zl6.ext {h h':Zc} {S:Nat→Prop} {g:Got} {z:VT5} {e n:Int} (r:Zl6 h S g z e n) (hS:∀ j,S j→j<sz h) (u:Ext h h'):Zl6 h' S g z e n:=by
  cases g with
  | ok v=>exact ⟨r.1.ext hS u,r.2⟩
  | err e k=>exact ⟨r.1.ext hS u,r.2⟩
theorem Zl6.mono {h:Zc} {S S':Nat→Prop} {g:Got} {z:VT5} {e n:Int} (r:Zl6 h S g z e n) (hs:∀ j,S j→S' j):Zl6 h S' g z e n:=by
  cases g with
  | ok v=>exact ⟨r.1.keep (fun _ _ _=>rfl) hs,r.2⟩
  | err e k=>exact ⟨r.1.keep (fun _ _ _=>rfl) hs,r.2⟩
theorem Zl6.same {h h':Zc} {S S':Nat→Prop} {g:Got} {z z':VT5} {e n e' n':Int} (r:Zl6 h S g z e n) (r':Zl6 h' S' g z' e' n'):e=e'∧n=n':=by
  cases g with
  | ok v=>exact ⟨r.2.1.trans r'.2.1.symm,r.2.2.trans r'.2.2.symm⟩
  | err e k=>exact ⟨r.2.1.trans r'.2.1.symm,r.2.2.trans r'.2.2.symm⟩
theorem Zsb {f:Ztx} {h:Zc} {s:ByteArray} {g:Got} {K:VT5→Int→Int→Nat→HP}
    (hf:∀ K':VT5→Int→Int→HP,(∀ z e n h',Ext h h'→Zl6 h' (fun j=>sz h≤j∧j<sz h') g z e n→K' z e n h')→f s K' h)
    (hk:∀ z e n b h',Ext h h'→obj h' b=some (.cells (YS z).toArray 33 (0,0))→sz h≤b→b<sz h'→Zl6 h' (fun j=>sz h≤j∧j<sz h') g z e n→K z e n b h') :
    f s (fun t t1 t2 h3=>newC h3 [.int .u8 0,.string (ByteArray.mk #[]),.slice none 0 0,.slice none 0 0] 33 fun b h4 =>
      sts h4 b 0 [.int .u8 t.1,.string t.2.1,.slice t.2.2.1.ptr t.2.2.1.len t.2.2.1.cap,.slice t.2.2.2.1.ptr t.2.2.2.1.len t.2.2.2.1.cap] fun h5=>K t t1 t2 b h5) h:=by
  refine hf _ fun z e n h1 e1 r=>ZaX fun h2 c2 e2 z2=>?_
  have c2':obj h2 h1.size=some (.cells zV.toArray 33 (0,0)):=c2
  have s1:sz h1=h1.size:=rfl
  have s2:sz h2=h2.size:=rfl
  have h01:=e1.szz
  refine Zle c2' (by simp) (Zbu z) fun h3 c3 u3 z3=>?_
  have e3:Ext h1 h3:=e2.updS u3 fun j hj=>by omega
  refine hk z e n _ h3 (e1.trans e3) c3 (by omega) (by omega) ?_
  exact (r.ext (fun j hj=>hj.2) e3).mono fun j hj=>⟨hj.1,by have:=e3.szz;omega⟩
theorem Zlt {h:Zc} {s:ByteArray} (ht:Zcb h) (hh:9≤sz h) {K:VT5→Int→Int→Nat→HP}
    (hk:∀ z e n b h',Ext h h'→obj h' b=some (.cells (YS z).toArray 33 (0,0))→sz h≤b→b<sz h'→Zl6 h' (fun j=>sz h≤j∧j<sz h') (Za2 s.data.toList) z e n→K z e n b h') :
    XK s (fun t t1 t2 h3=>newC h3 [.int .u8 0,.string (ByteArray.mk #[]),.slice none 0 0,.slice none 0 0] 33 fun b h4 =>
     sts h4 b 0 [.int .u8 t.1,.string t.2.1,.slice t.2.2.1.ptr t.2.2.1.len t.2.2.1.cap,.slice t.2.2.2.1.ptr t.2.2.2.1.len t.2.2.2.1.cap] fun h5=>K t t1 t2 b h5) h :=
  Zsb (fun _ hk'=>ZjA ht hh hk') hk
theorem ZlE {h:Zc} (ht:Zcb h) (hh:9≤sz h) {K:Bool→HP} (hk:∀ h',Ext h h'→K true h'):YI K h:=by
  unfold YI ZbA
  refine Zlt ht hh fun z e n b h1 e1 c1 b1 b1' g1=>Za (Za ?_)
  have hp:(ByteArray.mk #[91,49,44,32,34,97,92,117,48,48,52,49,34,44,32,123,34,98,34,58,32,110,117,108,108,125,93]).data.toList=lvT:=rfl
  rw [hp,Znz] at g1
  obtain ⟨v1,rfl,rfl⟩:=g1
  have h01:=e1.szz
  refine rI (Zi c1 rfl) (rS (Zi c1 rfl) (rL (s:=z.2.2.1) (Zi c1 rfl) (rL (s:=z.2.2.2.1) (Zi c1 rfl) ?_)))
  refine ZgB (z:=z) v1 (fun j hj=>hj.2) Ztb (by rw [ZkC];decide) (ht.ext e1) (by omega) fun s f h2 e2 _ _ hs=>Za ?_
  obtain ⟨rfl,rfl⟩:=hs (ZcB.2 (Zfu Znz)) (by rw [ZkC];decide)
  have e02:=e1.trans e2
  have h12:=e2.szz
  refine Zlt (ht.ext e02) (by omega) fun z3 e3 n3 b3 h3 x3 c3 b3' b3'' g3=>Za (Za ?_)
  have hp3:(ByteArray.mk #[91,49,44,93]).data.toList=[91,49,44,93]:=rfl
  rw [hp3,ZvW] at g3
  obtain ⟨_,rfl,rfl⟩:=g3
  have e03:=e02.trans x3
  have h23:=x3.szz
  refine Zoz (by omega) (ht.ext e03) fun h4 x4=>?_
  have e04:=e03.trans x4
  have h34:=x4.szz
  rw [ZtX]
  refine Zo0 (z:=(4,Ze [45,55],⟨none,0,0⟩,⟨none,0,0⟩,())) (v:=⟨4,[45,55],[],.nil⟩) (S:=fun _=>False) (XY.plain _ _ 4 _) (fun _ h=>h.elim) (by simp [ZoM,Zt9]) (ht.ext e04) (by omega) fun n5 ok5 h5 x5 hw _=>Za (Zd ?_)
  have hw':=hw rfl (ZcB.2 (Zfu ZvV))
  simp only [Zr5] at hw'
  obtain ⟨rfl,rfl⟩:=hw'
  have e05:=e04.trans x5
  have h45:=x5.szz
  have x15:Ext h1 h5:=e2.trans (x3.trans (x4.trans x5))
  have c5:=Z6 c1 x15
  refine Zm rfl (Zm rfl (Zm ?_ (Zm rfl (Zm rfl (Zm rfl (Zm rfl ?_))))))
  ·rw [show ByteArray.mk #[91,49,44,34,97,65,34,44,123,34,98,34,58,110,117,108,108,125,93]=Ze [91,49,44,34,97,65,34,44,123,34,98,34,58,110,117,108,108,125,93] from rfl,Xc,ZkC]
   exact decide_eq_true rfl
  refine rI (Zi c5 rfl) (rS (Zi c5 rfl) (rL (s:=z.2.2.1) (Zi c5 rfl) (rL (s:=z.2.2.2.1) (Zi c5 rfl) ?_)))
  refine ZgQ (z:=z) (v1.ext (fun j hj=>hj.2) x15) (fun j hj=>by omega) Ztb (ht.ext e05) (by omega) fun h6 x6=>Zd ?_
  rw [Zr6]
  exact hk h6 (e05.trans x6)
end Go.Proofs.YtpjbjdheeemdiaaGreatDoor
namespace Go.Proofs.YtpjbjdheeemdiaaGreatDoor
open Go Go.Fw Go.Js
end Go.Proofs.YtpjbjdheeemdiaaGreatDoor
namespace Go.Proofs.YtpjbjdheeemdiaaGreatDoor
open Go Go.Fw Go.Lib
theorem ZkH {P:Program} {w:World} {t:TypeId} {ms:Array (String × TypeId)} {cs:List Value} {nm:String} {d:DataW Unit} {p:List MemPlace} {fuel:Nat}
    (hu:P.underlying t=some (.interface ms)) (h:DataW.trod (fun _=>()) P w 0 (fun _=>true) false fuel t cs=some (.iface nm d,p)):∃ u v,cs=[.iface u v]:=by
  cases fuel with
  | zero=>simp [DataW.trod] at h
  | succ fuel =>
    unfold DataW.trod at h
    rw [hu] at h
    split at h<;>simp_all
abbrev Zhc:List (String × DataW Unit):=[("math/bits.deBruijn32tab", Rows.laid_math_bits_deBruijn32tab),("math/bits.deBruijn64tab", Rows.laid_math_bits_deBruijn64tab),("internal/strconv.uint64pow10", Rows.laid_internal_strconv_uint64pow10),("unicode/utf8.acceptRanges", Rows.laid_unicode_utf8_acceptRanges),("strconv.ErrRange", Rows.laid_strconv_ErrRange),("strconv.ErrSyntax", Rows.laid_strconv_ErrSyntax),("unicode.CaseRanges", Rows.laid_unicode_CaseRanges),("unicode/utf8.first", Rows.laid_unicode_utf8_first)]
theorem ZlZ {w:World} {n:String} {g:Nat} {t e:TypeId} {m:Nat} {k:IntKind} {zs:List Int} (hg:Tryz.prog.globalNamed n=some g) (hty:(Tryz.prog.globals[g]?).map (·.type)=some t)
    (ht:Tryz.prog.underlying t=some (.array m e)) (he:Tryz.prog.underlying e=some (.int k)) (hce:Tryz.prog.cellsOf e=1) (hct:Tryz.prog.cellsOf t=m) (h:VarReads Tryz.prog w n (tabData k zs)):TabIs Tryz.prog w n k zs:=by
  obtain ⟨g',t',cs,fuel,p,hg',ht',hvar,hd⟩:=h
  obtain rfl:=Option.some.inj (hg.symm.trans hg')
  obtain rfl:=Option.some.inj (hty.symm.trans ht')
  unfold TabIs
  rw [hvar,← cells_of_tab ht he hce hct hd]
theorem Zsk:Rows.laid_unicode_utf8_first=firstData:=by kernel_rfl
theorem Zrf:(Rows.laid_unicode_utf8_acceptRanges:DataW Unit)=acceptData:=by kernel_rfl
theorem ZvL:(Rows.laid_internal_strconv_uint64pow10:DataW Unit)=tabData .u64 pow10Tab:=by kernel_rfl
theorem ZjQ:Tryz.prog.globalNamed "unicode/utf8.first" = some 0:=by kernel_rfl
theorem ZmZ:Tryz.prog.globalNamed "unicode/utf8.acceptRanges" = some 1:=by kernel_rfl
theorem ZrQ:Tryz.prog.globalNamed "internal/strconv.uint64pow10" = some 6:=by kernel_rfl
theorem Zor:Tryz.prog.globalNamed "strconv.ErrRange" = some 5:=by kernel_rfl
theorem ZrD:Tryz.prog.globalNamed "strconv.ErrSyntax" = some 4:=by kernel_rfl
theorem ZoN:(Tryz.prog.globals[0]?).map (·.type)=some 271:=by kernel_rfl
theorem ZmY:(Tryz.prog.globals[1]?).map (·.type)=some 274:=by kernel_rfl
theorem ZrP:(Tryz.prog.globals[6]?).map (·.type)=some 332:=by kernel_rfl
theorem Zoq:(Tryz.prog.globals[5]?).map (·.type)=some 177:=by kernel_rfl
theorem ZrC:(Tryz.prog.globals[4]?).map (·.type)=some 177:=by kernel_rfl
theorem ZyA:Tryz.prog.cellsOf 5=1:=by kernel_rfl
theorem Zun:Tryz.prog.cellsOf 271=256:=by kernel_rfl
theorem ZyB:Tryz.prog.cellsOf 182=1:=by kernel_rfl
theorem ZyC:Tryz.prog.cellsOf 332=20:=by kernel_rfl
theorem Zwg:Tryz.prog.cellsOf 273=2:=by kernel_rfl
theorem Zpv {w:World} (h3:VarReads Tryz.prog w "unicode/utf8.first" firstData) (h4:VarReads Tryz.prog w "unicode/utf8.acceptRanges" acceptData):Lib.Utf8Tabs 0 1 w:=by
  refine ⟨fun c hc=>?_,fun i hi=>?_⟩
  ·have hT:=ZlZ ZjQ ZoN Tryz.underlying271 Tryz.underlying5 ZyA Zun h3
   rw [hT.cell ZjQ c (by simp [firstTab];omega)]
   simp [firstTab,List.getD,hc]
  ·obtain ⟨g,t,cs,fuel,p,hg,hty,hvar,hd⟩:=h4
   obtain rfl:=Option.some.inj (ZmZ.symm.trans hg)
   obtain rfl:=Option.some.inj (ZmY.symm.trans hty)
   obtain ⟨fuel',d,q,hdi,he⟩:=array_elem Tryz.underlying274 hd i hi
   simp only [List.getElem?_map,List.getElem?_range hi,Option.map_some,Option.some.injEq] at hdi
   subst hdi
   rw [Zwg] at he
   have hcs:=ints_of_struct Tryz.underlying273 (fun j f hj=>by
     match j,hj with
     | 0,hj=>simp at hj;subst hj;exact ⟨Tryz.underlying5,rfl,ZyA⟩
     | 1,hj=>simp at hj;subst hj;exact ⟨Tryz.underlying5,rfl,ZyA⟩
     | j+2,hj=>simp at hj) (by rw [Zwg];rfl) he
   have e0:=congrArg (·[0]?) hcs
   have e1:=congrArg (·[1]?) hcs
   simp only [List.getElem?_take,List.getElem?_drop] at e0 e1
   constructor
   ·rw [World.var?_cell hg hvar (2*i),← Array.getElem?_toList]
    simpa [Nat.mul_comm] using e0
   ·rw [World.var?_cell hg hvar (2*i+1),← Array.getElem?_toList]
    simpa [Nat.mul_comm] using e1
theorem ZlO {w:World} {n nm:String} {g:Nat} {d:DataW Unit} (hg:Tryz.prog.globalNamed n=some g) (hty:(Tryz.prog.globals[g]?).map (·.type)=some 177) (h:VarReads Tryz.prog w n (.iface nm d)):∃ t p,w.cell? ⟨g,0,none⟩=some (.iface t p):=by
  obtain ⟨g',t',cs,fuel,p,hg',ht',hvar,hd⟩:=h
  obtain rfl:=Option.some.inj (hg.symm.trans hg')
  obtain rfl:=Option.some.inj (hty.symm.trans ht')
  obtain ⟨u,v,e⟩:=ZkH Tryz.underlying177 hd
  refine ⟨u,v,?_⟩
  rw [World.var?_cell hg hvar 0,← Array.getElem?_toList,e];rfl
theorem Zqm:((begin Tryz.prog (fun _ _=>0) default).world.heap[2]?).bind Obj.row?=some (#[.int .i64 0],3):=by kernel_rfl
theorem ZmC:Tryz.prog.buildable 3=true:=by kernel_rfl
theorem ZoD:Tryz.prog.cellTypes Tryz.prog.depth 3=some [3]:=by kernel_rfl
theorem Zoh:(begin Tryz.prog (fun _ _=>0) default).world.heap.size=14:=by kernel_rfl
theorem Zg1:Tryz.prog.globals.size=9:=by kernel_rfl
theorem ZoF:(Zhc.all fun x=>x.2.handleName?.isNone)=true:=by kernel_rfl
set_option maxRecDepth 10000 in
theorem ZtD {W:World} (hL:laidMetH Tryz.prog Zhc W) (hS:W.ShapedOpen Tryz.prog):Zcb W.heap∧9≤sz W.heap:=by
  have hl:∀ w:World,w.heap=W.heap→laidMet Tryz.prog Zhc w:=fun w hw=>by
    have:=hL.of_heap hw.symm
    rw [MakeChecks.laidMetH_plain _ _ _ ZoF] at this
    exact this
  have hW:=hl W rfl
  refine ⟨⟨fun w hw=>?_,fun w hw=>?_,?_,?_,?_⟩,?_⟩
  ·have r1:=laidMet.reads (hl w hw) (n:= "unicode/utf8.first") (d:=Rows.laid_unicode_utf8_first) (by simp [Zhc])
   have r2:=laidMet.reads (hl w hw) (n:= "unicode/utf8.acceptRanges") (d:=Rows.laid_unicode_utf8_acceptRanges) (by simp [Zhc])
   rw [Zsk] at r1
   rw [Zrf] at r2
   exact Zpv r1 r2
  ·have r1:=laidMet.reads (hl w hw) (n:= "internal/strconv.uint64pow10") (d:=Rows.laid_internal_strconv_uint64pow10) (by simp [Zhc])
   rw [ZvL] at r1
   exact ZlZ ZrQ ZrP Tryz.underlying332 Tryz.underlying182 ZyB ZyC r1
  ·exact ZlO Zor Zoq (laidMet.reads hW (n:= "strconv.ErrRange") (d:=Rows.laid_strconv_ErrRange) (by simp [Zhc]))
  ·exact ZlO ZrD ZrC (laidMet.reads hW (n:= "strconv.ErrSyntax") (d:=Rows.laid_strconv_ErrSyntax) (by simp [Zhc]))
  ·obtain ⟨cs,hh,hs,hr⟩:=hS.1 _ _ _ (by rw [Zg1];decide) Zqm
   obtain ⟨ts,hts,_,hall⟩:=hr ZmC
   rw [ZoD] at hts
   cases hts
   have h1:0<cs.size:=by rw [hs];decide
   obtain ⟨u,hu',hok⟩:=hall 0 cs[0] (by simp [h1])
   have:u=3:=by simpa using hu'.symm
   subst this
   have hcell:Zc.cell W.heap 2 0=some cs[0]:=by
     unfold Zc.cell;simp [hh,h1]
   rw [hcell]
   unfold Cell.ok at hok
   rw [Tryz.underlying3] at hok
   cases hv:cs[0]<;>rw [hv] at hok<;>first | exact ⟨_,by rw [hok.1]⟩ | simp at hok
  ·obtain ⟨o,o0,h1,_⟩:=hS.2 13 (by rw [Zg1];decide) (by rw [Zoh];decide)
   have:=(Array.getElem?_eq_some_iff.1 h1).1
   show 9≤W.heap.size
   omega
end Go.Proofs.YtpjbjdheeemdiaaGreatDoor
namespace Go.Proofs.YtpjbjdheeemdiaaGreatDoor
open Go Go.Fw
section
variable {H:Type} {enc:TypeId × Value→H}
end
theorem Zyc {n:Int} (h:(Lit.int .u8 n).wf=true):0≤n∧n<256:=by
  simp only [Lit.wf,Bool.and_eq_true,decide_eq_true_eq] at h
  have h1:IntKind.u8.min=0:=by decide
  have h2:IntKind.u8.max=255:=by decide
  omega
end Go.Proofs.YtpjbjdheeemdiaaGreatDoor
namespace Go.Proofs.YtpjbjdheeemdiaaGreatDoor
open Go Go.Fw Go.Js
theorem ZmM:∀ (m:Nat) {h:Zc} {z:VT5} {v:JV} {S:Nat→Prop} {most:Nat} {K:Int→HP},v.sub.hei≤m→XY h S z v→(∀ j,S j→j<sz h)→most≤65536→(∀ h',Ext h h'→K (Zcu most v.sub 1) h')→YG (m+1) z most K h:=by
  have step:∀ {f85:Zn8} {v:JV},(∀ i k t ns s r,v.sub.drop i = .cons k t ns s r→∀ {h:Zc} {z:VT5} {S:Nat→Prop} {most:Nat} {K:Int→HP},XY h S z ⟨k,t,ns,s⟩→(∀ j,S j→j<sz h)→most≤65536→(∀ h',Ext h h'→K (Zcu most s 1) h')→f85 z most K h) →
      ∀ {h:Zc} {z:VT5} {S:Nat→Prop} {most:Nat} {K:Int→HP},XY h S z v→(∀ j,S j→j<sz h)→most≤65536→(∀ h',Ext h h'→K (Zcu most v.sub 1) h')→X7 f85 z most K h:=by
    intro f85 v hsub h z S most K hv hS hm hk
    unfold X7 Zbf
    refine ZaX fun h1 c1 e1 z1=>Za (Za (Za ?_))
    have c1':obj h1 h.size=some (.cells (YS z).toArray 33 (0,0)):=c1
    obtain ⟨a1,a2,a3,a4,cx,a5,a6,a7⟩:=id hv
    have hlx:z.2.2.1.len=v.sub.len:=by have:=a5.len;have:=a7.len;omega
    have hbig:=a5.big
    have hcap:=a5.cap
    refine Zx (fun p h'=>∃ n i:Nat,p.1=n∧p.2.1=i∧n≤65537∧i≤v.sub.len∧Ext h1 h'∧Zcu most v.sub 1=Zcu most (v.sub.drop i) n) (fun p _=>(v.sub.len - p.2.1).toNat) ⟨1,0,rfl,rfl,by omega,Nat.zero_le _,Ext.refl _,rfl⟩ ?_
    rintro ⟨n0,i0,u⟩ h2 ⟨n,i,hn0,hi,hn,hle,e2,q2⟩
    dsimp only at hn0 hi ⊢
    subst hn0 hi
    have e02:=e1.trans e2
    have c2:=Z6 c1' e2
    refine rL (s:=z.2.2.1) (Zi c2 rfl) (Zj (fun hlt=>?_) fun hge=>Za ?_)
    ·have hia:i<v.sub.len:=by omega
     obtain ⟨k,t,ns,s,r,hd⟩:=JL.drop_cons hia
     rw [hd] at q2
     simp only [Zcu] at q2
     have keepS:∀ {a:Zc},Ext h a→∀ j,S j→j<sz h→obj a j=obj h j:=fun e j hj hl=>ZQ e hl
     refine Zj (fun hle2=>?_) fun hgt=>Za ?_
     ·rw [if_neg (by omega)] at q2
      refine rL (s:=z.2.2.1) (Zi c2 rfl) (ZcE (Yf a5 a6 (keepS e02)) (a7.keep (keepS e02) fun j hj=>hj) hd rfl fun zi hzi=>?_)
      rw [ZJ (n:=(most:Int) - n) (by omega) (by omega),show (most:Int) - n=((most - n:Nat):Int) by omega]
      have hvl:=Zet s (most - n) 1
      refine hsub i k t ns s r hd (S:=S) hzi (fun j hj=>by have:=hS j hj;have:=e02.szz;omega) (by omega) fun h5 e5=>Za (Za ?_)
      rw [ZJ (by omega) (by omega),ZJ (by omega) (by omega)]
      exact ⟨⟨n+Zcu (most - n) s 1,i+1,rfl,rfl,by omega,by omega,e2.trans e5,by rw [q2,JL.drop_succ i _ hd]⟩,by omega⟩
     ·rw [if_pos (by omega)] at q2
      have:=hk h2 e02
      rw [q2] at this;exact this
    ·rw [JL.drop_nil (by omega)] at q2
     have:=hk h2 e02
     rw [q2] at this;exact this
  intro m
  induction m with
  | zero =>
    intro h z v S most K hm
    exact step (f85:=YG 0) fun i k t ns s r hd=>by have:=JL.drop_hei i v.sub hd;omega
  | succ m ih =>
    intro h z v S most K hm
    exact step (f85:=YG (m+1)) fun i k t ns s r hd=>fun a b c d=>ih (v:=⟨k,t,ns,s⟩) (by have:=JL.drop_hei i v.sub hd;show s.hei≤m;omega) a b c d
theorem ZgO {h:Zc} {z:VT5} {v:JV} {S:Nat→Prop} {K:Bool→HP} (hv:XY h S z v) (hS:∀ j,S j→j<sz h) (hk:∀ h',Ext h h'→K (decide (65536<Zeq v)) h'):Z5 z K h:=by
  unfold Z5 Zbj
  refine ZaX fun h1 c1 e1 z1=>?_
  have c1':obj h1 h.size=some (.cells (YS z).toArray 33 (0,0)):=c1
  refine rI (Zi c1' rfl) (rS (Zi c1' rfl) (rL (s:=z.2.2.1) (Zi c1' rfl) (rL (s:=z.2.2.2.1) (Zi c1' rfl) ?_)))
  refine ⟨v.sub.hei+1,ZmM _ (most:=65536) (z:=z) (Nat.le_refl _) (hv.ext hS e1) (fun j hj=>Nat.lt_of_lt_of_le (hS j hj) e1.size) (by omega) fun h2 e2=>Zd ?_⟩
  have:=hk h2 (e1.trans e2)
  have hc:=(Zhg v.sub 65536 1 (by omega)).1
  rw [show decide (((Zcu 65536 v.sub 1:Nat):Int)>65536)=decide (65536<Zeq v) by rw [decide_eq_decide];unfold Zeq;omega]
  exact this
theorem Ziw {h:Zc} {na nb:List BL} {a b:Sl} (ha:Row h a 1 (na.map sV)) (hb:Row h b 1 (nb.map sV)) {K:Bool→HP} (hk:K (decide (na=nb)) h):Yl a b K h:=by
  unfold Yl Xw
  have la:=ZbK ha
  have lb:=ZbK hb
  have biga:=ha.big
  have capa:=ha.cap
  refine Xp (fun hne=>?_) fun heq=>?_
  ·rw [decide_eq_false fun e=>hne (by rw [la,lb,e])] at hk;exact hk
  ·refine Zx (fun p h'=>h'=h∧∃ i:Nat,p.1=i∧i≤na.length∧na.take i=nb.take i) (fun p _=>(a.len - p.1).toNat) ⟨rfl,0,rfl,Nat.zero_le _,rfl⟩ ?_
   rintro ⟨i1,u⟩ h2 ⟨rfl,i,hi,hle,ht⟩
   dsimp only at hi ⊢
   subst hi
   refine Zj (fun hlt=>Za ?_) fun hge=>?_
   ·have hia:i<na.length:=by omega
    have hib:i<nb.length:=by omega
    refine Zd2 ha (List.getElem?_eq_getElem hia) rfl (Zd2 hb (List.getElem?_eq_getElem hib) rfl ?_)
    rw [Xc]
    by_cases he:na[i]=nb[i]
    ·rw [decide_eq_true he]
     refine Zn rfl ?_
     rw [ZJ (by omega) (by omega)]
     refine ⟨⟨rfl,i+1,rfl,by omega,?_⟩,by omega⟩
     rw [List.take_add_one,List.take_add_one,List.getElem?_eq_getElem hia,List.getElem?_eq_getElem hib,ht,he]
    ·rw [decide_eq_false he]
     refine Zm rfl ?_
     rw [decide_eq_false fun e=>he (by subst e;rfl)] at hk
     exact hk
   ·rw [List.take_of_length_le (by omega),List.take_of_length_le (by omega)] at ht
    rw [decide_eq_true ht] at hk;exact hk
theorem Zug:∀ (n:Nat) {h:Zc} {a b:VT5} {v w:JV} {S S':Nat→Prop} {K:Bool→HP},v.sub.hei≤n→XY h S a v→XY h S' b w→(∀ j,S j→j<sz h)→(∀ j,S' j→j<sz h)→(∀ h',Ext h h'→K (decide (v=w)) h')→ZbL (n+1) a b K h:=by
  intro n
  induction n with
  | zero=>?_
  | succ n ih=>?_
  all_goals intro h a b v w S S' K hn va vb hS hS' hk
  all_goals unfold ZbL ZeL ZeS
  all_goals obtain ⟨a1,a2,a3,a4,cxa,a5,a6,a7⟩:=va
  all_goals obtain ⟨b1,b2,b3,b4,cxb,b5,b6,b7⟩:=vb
  all_goals refine ZaX fun h1 c1 e1 z1=>ZaX fun h2 c2 e2 z2=>?_
  all_goals have e02:=e1.trans e2
  all_goals have c1':obj h2 h.size=some (.cells (YS a).toArray 33 (0,0)):=Z6 c1 e2
  all_goals have c2':obj h2 h1.size=some (.cells (YS b).toArray 33 (0,0)):=c2
  all_goals have key:=hk h2 e02
  all_goals have no:¬ (v=w)→K false h2:=fun hne=>by rw [decide_eq_false hne] at key;exact key
  all_goals refine rI (Zi c1' rfl) (rI (Zi c2' rfl) (Yh (fun hek=>rS (Zi c1' rfl) (rS (Zi c2' rfl) ?_)) fun hne=>no fun e=>hne (by rw [a1,b1,e])))
  all_goals rw [show Za0 a.2.1 b.2.1=decide (v.t=w.t) by rw [a2,b2];exact Xc _ _]
  all_goals by_cases ht:v.t=w.t
  all_goals first
    | (rw [decide_eq_false ht];exact Zn rfl (no fun e=>ht (by rw [e])))
    | rw [decide_eq_true ht]
  all_goals have lxa:a.2.2.1.len=v.sub.len:=by have:=a5.len;have:=a7.len;omega
  all_goals have lxb:b.2.2.1.len=w.sub.len:=by have:=b5.len;have:=b7.len;omega
  all_goals have big:=a5.big
  all_goals have cap:=a5.cap
  all_goals refine Zm rfl (rL (s:=a.2.2.2.1) (Zi c1' rfl) (rL (s:=b.2.2.2.1) (Zi c2' rfl) ?_))
  all_goals refine Ziw (Yf a3 a4 fun j hj hl=>ZQ e02 hl) (Yf b3 b4 fun j hj hl=>ZQ e02 hl) ?_
  all_goals by_cases hns:v.ns=w.ns
  all_goals first
    | (rw [decide_eq_false hns];exact Zn rfl (no fun e=>hns (by rw [e])))
    | rw [decide_eq_true hns]
  all_goals refine Zm rfl (rL (s:=a.2.2.1) (Zi c1' rfl) (rL (s:=b.2.2.1) (Zi c2' rfl) ?_))
  all_goals unfold Zy ZI
  all_goals refine Xp (fun hne=>Zd (no fun e=>hne (by rw [lxa,lxb,e]))) fun hel=>?_
  all_goals have hvw:v=w↔v.sub=w.sub:=⟨fun e=>by rw [e],fun e=>Zv6.2 ⟨by omega,ht,hns,e⟩⟩
  all_goals have hll:v.sub.len=w.sub.len:=by omega
  ·
   have hnil:v.sub = .nil:=by
     cases hs:v.sub with
     | nil=>rfl
     | cons k t ns s r=>rw [hs] at hn;simp [JL.hei] at hn
   have hnil2:w.sub = .nil:=JL.len_nil.1 (by rw [← hll,hnil];rfl)
   refine Zx (fun p h'=>h'=h2∧p.1=0) (fun _ _=>0) ⟨rfl,rfl⟩ ?_
   rintro ⟨i,u⟩ h3 ⟨rfl,hi⟩
   dsimp only at hi ⊢
   subst hi
   refine Zn (by rw [lxa,hnil];rfl) (Zd ?_)
   rw [decide_eq_true (hvw.2 (by rw [hnil,hnil2]))] at key
   exact key
  ·refine Zx (fun p h'=>∃ i:Nat,p.1=i∧i≤v.sub.len∧Ext h2 h'∧(v.sub=w.sub↔v.sub.drop i=w.sub.drop i)) (fun p _=>(v.sub.len - p.1).toNat) ⟨0,rfl,Nat.zero_le _,Ext.refl _,Iff.rfl⟩ ?_
   rintro ⟨i0,u⟩ h3 ⟨i,hi,hle,e3,hiff⟩
   dsimp only at hi ⊢
   subst hi
   have e03:=e02.trans e3
   have key3:=hk h3 e03
   refine Zj (fun hlt=>?_) fun hge=>Zd ?_
   ·have hia:i<v.sub.len:=by omega
    obtain ⟨k,t,ns,s,r,hd⟩:=JL.drop_cons hia
    obtain ⟨k',t',ns',s',r',hd'⟩:=JL.drop_cons (l:=w.sub) (n:=i) (by omega)
    have ra:Row h3 a.2.2.1 4 cxa:=Yf a5 a6 fun j hj hl=>ZQ e03 hl
    have rb:∀ {x:Zc},Ext h x→Row x b.2.2.1 4 cxb:=fun e=>Yf b5 b6 fun j hj hl=>ZQ e hl
    have la:ZaP h3 S v.sub cxa:=a7.keep (fun j hj hl=>ZQ e03 hl) fun j hj=>hj
    have lb:∀ {x:Zc},Ext h x→ZaP x S' w.sub cxb:=fun e=>b7.keep (fun j hj hl=>ZQ e hl) fun j hj=>hj
    have hsz:=e03.szz
    refine ZcE ra la hd rfl fun za hza=>?_
    refine ZaX fun h4 c4 e4 z4=>Za ?_
    have c4':obj h4 h3.size=some (.cells zV.toArray 33 (0,0)):=c4
    have s3:sz h3=h3.size:=rfl
    refine Zle c4' (by simp) (Zbu za) fun h5 c5 u5 z5=>?_
    have e35:Ext h3 h5:=e4.updS u5 fun j hj=>by omega
    have e05:=e03.trans e35
    refine ZcE (rb e05) (lb e05) hd' rfl fun zb hzb=>?_
    refine ZaX fun h6 c6 e6 z6=>?_
    have c6':obj h6 h5.size=some (.cells zV.toArray 33 (0,0)):=c6
    have s5:sz h5=h5.size:=rfl
    refine Zle c6' (by simp) (Zbu zb) fun h7 c7 u7 z7=>?_
    have e57:Ext h5 h7:=e6.updS u7 fun j hj=>by omega
    have e37:=e35.trans e57
    have c5':obj h7 h3.size=some (.cells (YS za).toArray 33 (0,0)):=Z6 c5 e57
    have c7':obj h7 h5.size=some (.cells (YS zb).toArray 33 (0,0)):=c7
    have q3:=e37.szz
    have q5:=e57.szz
    have q05:=e05.szz
    refine rI (Zi c5' rfl) (rS (Zi c5' rfl) (rL (s:=za.2.2.1) (Zi c5' rfl) (rL (s:=za.2.2.2.1) (Zi c5' rfl) ?_)))
    refine rI (Zi c7' rfl) (rS (Zi c7' rfl) (rL (s:=zb.2.2.1) (Zi c7' rfl) (rL (s:=zb.2.2.2.1) (Zi c7' rfl) ?_)))
    refine ih (v:=⟨k,t,ns,s⟩) (w:=⟨k',t',ns',s'⟩) (by have:=JL.drop_hei i v.sub hd;show s.hei≤n;omega) (hza.ext (fun j hj=>by have:=hS j hj;omega) e37) (hzb.ext (fun j hj=>by have:=hS' j hj;omega) e57) (fun j hj=>by have:=hS j hj;omega) (fun j hj=>by have:=hS' j hj;omega) fun h8 e8=>?_
    have e38:=e37.trans e8
    by_cases he:(⟨k,t,ns,s⟩:JV)=⟨k',t',ns',s'⟩
    ·rw [decide_eq_true he]
     cases he
     refine Zn rfl ?_
     rw [ZJ (by omega) (by omega)]
     refine ⟨⟨i+1,rfl,by omega,e3.trans e38,?_⟩,by omega⟩
     rw [hiff,hd,hd',JL.drop_succ i _ hd,JL.drop_succ i _ hd']
     constructor
     ·intro e;cases e;rfl
     ·intro e;rw [e]
    ·rw [decide_eq_false he]
     refine Zm rfl (Zd ?_)
     have key4:=hk h8 (e03.trans e38)
     rw [decide_eq_false] at key4
     ·exact key4
     ·rw [hvw,hiff,hd,hd']
      intro e;apply he;cases e;rfl
   ·rw [decide_eq_true] at key3
    ·exact key3
    ·rw [hvw,hiff,JL.drop_nil (by omega),JL.drop_nil (by omega)]
theorem ZoP {h:Zc} {a b:VT5} {v w:JV} {S S':Nat→Prop} {K:Bool→HP} (va:XY h S a v) (vb:XY h S' b w) (hS:∀ j,S j→j<sz h) (hS':∀ j,S' j→j<sz h)
    (hk:∀ h',Ext h h'→K (decide (Zeq v≤65536)&&(decide (Zeq w≤65536)&&decide (v=w))) h'):ZcX a b K h:=by
  unfold ZcX ZeX
  refine ZaX fun h1 c1 e1 z1=>ZaX fun h2 c2 e2 z2=>?_
  have c1':obj h2 h.size=some (.cells (YS a).toArray 33 (0,0)):=Z6 c1 e2
  have c2':obj h2 h1.size=some (.cells (YS b).toArray 33 (0,0)):=c2
  have e02:=e1.trans e2
  refine rI (Zi c1' rfl) (rS (Zi c1' rfl) (rL (s:=a.2.2.1) (Zi c1' rfl) (rL (s:=a.2.2.2.1) (Zi c1' rfl) ?_)))
  refine Zgs (z:=a) (va.ext hS e02) (fun j hj=>by have:=hS j hj;have:=e02.szz;omega) fun h3 e3=>?_
  have e03:=e02.trans e3
  by_cases hv:Zeq v≤65536
  ·rw [decide_eq_true hv] at hk ⊢
   have c13:=Z6 c1' e3
   have c23:=Z6 c2' e3
   refine Zm rfl (rI (Zi c23 rfl) (rS (Zi c23 rfl) (rL (s:=b.2.2.1) (Zi c23 rfl) (rL (s:=b.2.2.2.1) (Zi c23 rfl) ?_))))
   refine Zgs (z:=b) (vb.ext hS' e03) (fun j hj=>by have:=hS' j hj;have:=e03.szz;omega) fun h4 e4=>?_
   have e04:=e03.trans e4
   by_cases hw:Zeq w≤65536
   ·rw [decide_eq_true hw] at hk ⊢
    have c14:=Z6 c13 e4
    have c24:=Z6 c23 e4
    refine Zm rfl (rI (Zi c14 rfl) (rS (Zi c14 rfl) (rL (s:=a.2.2.1) (Zi c14 rfl) (rL (s:=a.2.2.2.1) (Zi c14 rfl) ?_))))
    refine rI (Zi c24 rfl) (rS (Zi c24 rfl) (rL (s:=b.2.2.1) (Zi c24 rfl) (rL (s:=b.2.2.2.1) (Zi c24 rfl) ?_)))
    exact ⟨v.sub.hei+1,Zug _ (a:=a) (b:=b) (Nat.le_refl _) (va.ext hS e04) (vb.ext hS' e04) (fun j hj=>by have:=hS j hj;have:=e04.szz;omega) (fun j hj=>by have:=hS' j hj;have:=e04.szz;omega) fun h5 e5=>Zd (hk h5 (e04.trans e5))⟩
   ·rw [decide_eq_false hw] at hk ⊢
    exact Zn rfl (hk h4 e04)
  ·rw [decide_eq_false hv] at hk ⊢
   exact Zn rfl (hk h3 e03)
end Go.Proofs.YtpjbjdheeemdiaaGreatDoor
namespace Go.Js
open Go
abbrev Zzd:Rt:=fun _ _ _ _=>true
end Go.Js
namespace Go.Proofs.YtpjbjdheeemdiaaGreatDoor
open Go Go.Fw Go.Js
theorem Zln {h:Zc} {z:VT5} {v:JV} {S:Nat→Prop} {K:Bool→HP} (hv:XY h S z v) (hS:∀ j,S j→j<sz h) (hfit:ZoM v) (hlen:(Xf v).length<800000000) (hbig:65536<Zeq v) (ht:Zcb h) (hh:9≤sz h)
    (hk:∀ h',Ext h h'→K true h'):YZ z K h:=by
  unfold YZ ZaJ
  have hr:Zb5 v=false:=by
    cases e:Zb5 v with
    | false=>rfl
    | true=>have:=(ZcB.1 e).2;omega
  refine ZaX fun h1 c1 e1 z1=>?_
  have c1':obj h1 h.size=some (.cells (YS z).toArray 33 (0,0)):=c1
  have ld:∀ {x:Zc} {K:Int→ByteArray→Sl→Sl→Prop},Ext h1 x→K z.1 z.2.1 z.2.2.1 z.2.2.2.1→ldI x h.size 0 .u8 fun a=>ldS x h.size (0+1) fun b=>ldL x h.size (0+2) fun c=>ldL x h.size (0+3) fun d=>K a b c d:=fun e hK=>by
    have c:=Z6 c1' e
    exact rI (Zi c rfl) (rS (Zi c rfl) (rL (s:=z.2.2.1) (Zi c rfl) (rL (s:=z.2.2.2.1) (Zi c rfl) hK)))
  have vx:∀ {x:Zc},Ext h x→XY x S z v:=fun e=>hv.ext hS e
  have sx:∀ {x:Zc},Ext h x→∀ j,S j→j<sz x:=fun e j hj=>by have:=hS j hj;have:=e.szz;omega
  have hx:∀ {x:Zc},Ext h x→9≤sz x:=fun e=>by have:=e.szz;omega
  refine ld (Ext.refl _) (ZgB (z:=z) (vx e1) (sx e1) hfit hlen (ht.ext e1) (hx e1) fun s e h2 e2 hp _ _=>Za ?_)
  obtain ⟨rfl,rfl⟩:=hp hr
  have e02:=e1.trans e2
  refine ZlE (ht.ext e02) (hx e02) fun h3 e3=>Zm rfl ?_
  have e03:=e02.trans e3
  refine ld (e2.trans e3) (Ze7 (z:=z) (vx e03) (sx e03) hfit (ht.ext e03) (hx e03) fun h4 e4=>?_)
  have e04:=e03.trans e4
  rw [hr]
  refine Zm rfl (Zm rfl (ld ((e2.trans e3).trans e4) (ZgQ (z:=z) (vx e04) (sx e04) hfit (ht.ext e04) (hx e04) fun h5 e5=>?_)))
  have e05:=e04.trans e5
  have hd:Zg2 v=0:=by unfold Zg2;rw [if_neg fun h=>by omega]
  rw [hd]
  refine Zm rfl (ld (((e2.trans e3).trans e4).trans e5) (ld (((e2.trans e3).trans e4).trans e5) (ZoP (a:=z) (b:=z) (vx e05) (vx e05) (sx e05) (sx e05) fun h6 e6=>Zd ?_)))
  rw [decide_eq_false (show ¬ Zeq v≤65536 by omega)]
  exact hk h6 (e05.trans e6)
end Go.Proofs.YtpjbjdheeemdiaaGreatDoor
namespace Go.Js
open Go
def nsW:List BL→Nat
  | []=>0
  | n::l=>6*n.length+3+nsW l
def pw:JL→Nat
  | .nil=>0
  | .cons _ t ns sub rest=>9+6*t.length+nsW ns+pw sub+pw rest
def wV (v:JV):Nat:=9+6*v.t.length+nsW v.ns+pw v.sub
theorem Zh9 {n:BL}:∀ {l:List BL},n∈l→n.length≤nsW l
  | [],h=>by cases h
  | m::l,h=>by
    rcases List.mem_cons.1 h with rfl | h
    ·simp only [nsW];omega
    ·have:=Zh9 h;simp only [nsW];omega
theorem ZkP (c:UInt8):(ZcH c).length≤6:=by
  unfold ZcH
  split
  ·simp
  split
  ·simp
  split
  ·simp
  split
  ·simp
  split
  ·simp
  split
  ·simp
  split<;>simp
theorem Zhr:∀ t:BL,(t.flatMap ZcH).length≤6*t.length
  | []=>by simp
  | c::t=>by
    have:=Zhr t
    have:=ZkP c
    simp only [List.flatMap_cons,List.length_append,List.length_cons]
    omega
theorem ZfZ (t:BL):(ZcS t).length≤6*t.length+2:=by
  have:=Zhr t
  unfold ZcS
  simp only [List.length_cons,List.length_append,List.length_nil]
  omega
theorem Zp1 (k:Nat) (t body:BL):(prV k t body).length≤5+6*t.length+body.length:=by
  have:=ZfZ t
  unfold prV
  split
  ·simp;omega
  split
  ·simp;omega
  split
  ·simp;omega
  split
  ·omega
  split
  ·omega
  split
  ·simp;omega
  ·simp;omega
theorem Zs5 (ob:Bool) (ns:List BL):(nmB ob ns).length+nsW ns.tail≤3+nsW ns:=by
  cases ns with
  | nil =>
    cases ob
    ·simp [nmB,nsW]
    ·have:=ZfZ []
     simp only [nmB,List.headD,List.tail,nsW,↓reduceIte,List.length_append,List.length_cons,List.length_nil] at this ⊢
     omega
  | cons n ns =>
    cases ob
    ·simp only [nmB,List.tail,nsW];simp;omega
    ·have:=ZfZ n
     simp only [nmB,List.headD,List.tail,nsW,↓reduceIte,List.length_append,List.length_cons,List.length_nil] at this ⊢
     omega
theorem ZgC:∀ (l:JL) (ob first:Bool) (ns:List BL),(ZX ob first ns l).length≤pw l+nsW ns
  | .nil,_,_,_=>by simp [ZX]
  | .cons k t ns' sub rest,ob,first,ns=>by
    have h1:=ZgC sub (decide (k=7)) true ns'
    have h2:=ZgC rest ob false ns.tail
    have h3:=Zp1 k t (ZX (decide (k=7)) true ns' sub)
    have h4:=Zs5 ob ns
    have h5:(Zhl first).length≤1:=by cases first<;>simp [Zhl]
    simp only [ZX,pw,List.length_append]
    omega
theorem ZgD (v:JV):(Xf v).length≤wV v:=by
  have h1:=ZgC v.sub (decide (v.k=7)) true v.ns
  have h3:=Zp1 v.k v.t (ZX (decide (v.k=7)) true v.ns v.sub)
  unfold Xf wV
  omega
theorem ZmO:∀ (l:JL),pw l<9223372036854775807→Zt9 l
  | .nil,_=>trivial
  | .cons _ t ns sub rest,h=>by
    simp only [pw] at h
    exact ⟨by omega,fun n hn=>by have:=Zh9 hn;omega,ZmO sub (by omega),ZmO rest (by omega)⟩
theorem Zua {v:JV} (h:wV v<9223372036854775807):ZoM v:=by
  unfold wV at h
  exact ⟨by omega,fun n hn=>by have:=Zh9 hn;omega,ZmO _ (by omega)⟩
end Go.Js
namespace Go.Proofs.YtpjbjdheeemdiaaGreatDoor
open Go Go.Fw Go.Js Go.ChangeShapes Go.WideShapes
theorem ZsY {h:Zc} {x:Sl} {n:Nat} {vs:List Value} (hr:Row h x n vs) (hn:0<n):inS (fun b=>b<sz h) x:=by
  intro h0 b hb
  rcases hr.at_ with hz | ⟨b',o,hp,hh⟩
  ·exact absurd hz h0
  ·have:b'=b:=by unfold Sl.blk at hb;rw [hp] at hb;simpa using hb
   subst this
   refine Ztf hh fun e=>?_
   have hl:=hr.len
   rw [e] at hl
   have:x.len*n≠0:=Nat.mul_ne_zero h0 (by omega)
   exact this (by rw [← hl];rfl)
theorem Zyw {α:Type} {l:List α} {i:Nat} {x:α} (h:l[i]?=some x):i<l.length:=(List.getElem?_eq_some_iff.1 h).1
theorem ZmN {α:Type} {f:α→List Value} {n:Nat} (hf:∀ a,(f a).length=n):∀ l:List α,(l.flatMap f).length=l.length*n
  | []=>by simp
  | a::l=>by rw [List.flatMap_cons,List.length_append,hf,ZmN hf l,List.length_cons,Nat.succ_mul];omega
theorem ZqP {α:Type} {f:α→List Value} {n:Nat} (hf:∀ a,(f a).length=n):∀ (l:List α) (i m:Nat) (a:α),l[i]?=some a→m<n→(l.flatMap f)[i*n+m]?=(f a)[m]?
  | [],i,m,a,h,_=>by simp at h
  | x::l,0,m,a,h,hm=>by
    simp at h
    subst h
    rw [List.flatMap_cons,Nat.zero_mul,Nat.zero_add,List.getElem?_append_left (by rw [hf];exact hm)]
  | x::l,i+1,m,a,h,hm=>by
    rw [List.flatMap_cons,List.getElem?_append_right (by rw [hf,Nat.succ_mul];omega),hf,show (i+1)*n+m - n=i*n+m by rw [Nat.succ_mul];omega]
    exact ZqP hf l i m a (by simpa using h) hm
theorem ZpG {α:Type} (f:α→Nat):∀ l:List α,(l.map fun x=>16*f x).sum=16*(l.map f).sum
  | []=>rfl
  | x::l=>by rw [List.map_cons,List.sum_cons,ZpG f l,List.map_cons,List.sum_cons];omega
theorem ZsV {α:Type} {f g:α→Nat}:∀ {l:List α},(∀ x∈l,f x≤g x)→(l.map f).sum≤(l.map g).sum
  | [],_=>Nat.le_refl _
  | x::l,h=>by
    have:=h x (by simp)
    have:=ZsV (l:=l) fun y hy=>h y (List.mem_cons_of_mem _ hy)
    simp only [List.map_cons,List.sum_cons];omega
theorem ZnX {H:Type} {d:DataW H}:∀ {l:List (DataW H)},d∈l→Rows.uptoBulk d≤Rows.uptoBulkAll l
  | [],h=>by cases h
  | x::l,h=>by
    simp only [Rows.uptoBulkAll]
    rcases List.mem_cons.1 h with rfl | h
    ·omega
    ·have:=ZnX h;omega
theorem ZnW {H:Type} (D:Nat→DataW H):∀ l:List Nat,Rows.uptoBulkAll (l.map D)=(l.map fun i=>Rows.uptoBulk (D i)).sum
  | []=>rfl
  | x::l=>by simp only [List.map_cons,Rows.uptoBulkAll,List.sum_cons,ZnW D l]
section
variable {H:Type} {enc:TypeId × Value→H} {P:Program} {w:World} {base:Nat} {spare:Nat→Bool} {held:Bool}
theorem Zub {fs:Array Field} {l:List (TypeId × Nat)} (hf:fs.toList.map (fun f=>(f.type,f.offset))=l) {i:Nat} {p:TypeId × Nat} (hp:l[i]?=some p):∃ f,fs[i]?=some f∧f.type=p.1∧f.offset=p.2:=by
  subst hf
  rw [List.getElem?_map,Option.map_eq_some_iff] at hp
  obtain ⟨f,h1,rfl⟩:=hp
  exact ⟨f,by simpa using h1,rfl,rfl⟩
theorem Zn2 {α:Type} [Inhabited α] {g:α→List Value} {n:Nat} (hg:∀ a,(g a).length=n) (hn:0<n) {Pa:α→Prop} {μ:α→Nat} {u t:TypeId} {fuel N:Nat} {a:Option Addr} {len cap:Nat} {x:DataW H × List MemPlace} (hu:P.underlying u=some (.slice t)) (hc:P.cellsOf t=n)
    (elem:∀ {fuel:Nat} {cs:List Value} {y:DataW H × List MemPlace},Rows.uptoBulk y.1<N→DataW.trod enc P w base spare held fuel t cs=some y→∃ a:α,cs=g a∧Pa a∧μ a≤16*Rows.uptoBulk y.1)
    (hN:Rows.uptoBulk x.1≤N) (h:DataW.trod enc P w base spare held fuel u [.slice a len cap]=some x):∃ l:List α,(Row w.heap ⟨a,len,cap⟩ n (l.flatMap g)∧∀ a,a∈l→Pa a)∧(l.map μ).sum+16≤16*Rows.uptoBulk x.1:=by
  rcases Deep.open_slice hu h with ⟨hcs,rfl⟩ | ⟨a',len',cap',m,n',D,Pl,hcs,_,hl,hm,hmm,rfl,hx⟩
  ·simp at hcs
   obtain ⟨rfl,rfl,rfl⟩:=hcs
   exact ⟨[],⟨Row.nil _ n,by simp⟩,by simp [Rows.uptoBulk]⟩
  ·simp at hcs
   obtain ⟨rfl,rfl,rfl⟩:=hcs
   have hlen:len≤m:=by rw [hmm];split<;>omega
   have hbig:cap<9223372036854775808:=Zqo hm
   have each:∀ i,i<len→∃ a:α,w.cells? base (a'.add (i*n)) n=some (g a)∧Pa a∧μ a≤16*Rows.uptoBulk (D i):=by
     intro i hi
     obtain ⟨cs',h1,h2⟩:=hx i (by omega)
     rw [hc] at h1
     obtain ⟨r,rfl,hp,hb⟩:=elem (by
       have:=ZnX (d:=D i) (l:=(List.range len).map D) (List.mem_map.2 ⟨i,by simpa using hi,rfl⟩)
       simp only [Rows.uptoBulk] at hN ⊢
       omega) h2
     exact ⟨r,h1,hp,hb⟩
   obtain ⟨f,hf⟩:=Deep.choose_lt each
   have cell:∀ i,i<len→∀ k,k<n→w.cell? ((a'.add (i*n)).add k)=(g (f i))[k]?:=fun i hi k hk=>(World.cells?_some (hf i hi).1).2.2 k hk
   refine ⟨(List.range len).map f,⟨⟨by rw [ZmN hg];simp,hl,hbig,?_⟩,fun a ha=>?_⟩,?_⟩
   ·rcases Nat.eq_zero_or_pos len with h0 | h0
    ·exact .inl h0
    ·right
     have hsp:a'=⟨a'.block,a'.off,none⟩:=by
       have h0:=cell 0 (by omega) 0 hn
       have e0:(a'.add (0*n)).add 0=a':=by rw [Nat.zero_mul];rfl
       rw [e0,List.getElem?_eq_getElem (by rw [hg];exact hn)] at h0
       exact ZpK h0
     refine ⟨a'.block,a'.off,by rw [← hsp],ZqH fun k v hv=>?_⟩
     have hk:k<len*n:=by
       have:=Zyw hv
       rw [ZmN hg] at this
       simpa using this
     have hdm:=Nat.div_add_mod k n
     have hi:k / n<len:=(Nat.div_lt_iff_lt_mul hn).2 hk
     have hj:k % n<n:=Nat.mod_lt _ hn
     have e1:=ZqP hg ((List.range len).map f) (k / n) (k % n) (f (k / n)) (by rw [List.getElem?_map,List.getElem?_range hi];rfl) hj
     have ek:k / n*n+k % n=k:=by rw [Nat.mul_comm];exact hdm
     rw [ek,hv] at e1
     have:=cell (k / n) hi (k % n) hj
     rw [hsp,Zn3,Zn3,Ze3,← e1] at this
     rw [← ek,← Nat.add_assoc]
     exact this
   ·obtain ⟨i,hi,rfl⟩:=List.mem_map.1 ha
    exact (hf i (by simpa using hi)).2.1
   ·have h1:((List.range len).map fun i=>μ (f i)).sum≤((List.range len).map fun i=>16*Rows.uptoBulk (D i)).sum:=ZsV fun i hi=>(hf i (by simpa using hi)).2.2
    rw [ZpG] at h1
    simp only [Rows.uptoBulk,List.map_map,ZnW]
    have:((List.range len).map (μ ∘ f)).sum=((List.range len).map fun i=>μ (f i)).sum:=rfl
    omega
end
def Zv8:List JV→JL
  | []=> .nil
  | v::l=> .cons v.k v.t v.ns v.sub (Zv8 l)
theorem ZvK:∀ l:List JV,pw (Zv8 l)=(l.map wV).sum
  | []=>rfl
  | v::l=>by simp only [Zv8,pw,List.map_cons,List.sum_cons,ZvK l,wV]
theorem Zs4:∀ l:List BL,nsW l=(l.map fun n=>6*n.length+3).sum
  | []=>rfl
  | v::l=>by simp only [nsW,List.map_cons,List.sum_cons,Zs4 l]
theorem Zqt {h:Zc} {S:Nat→Prop}:∀ (l:List (VT5 × JV)),(∀ p∈l,XY h S p.1 p.2)→ZaP h S (Zv8 (l.map (·.2))) (l.flatMap fun p=>YS p.1)
  | [],_=>rfl
  | p::l,hp=>by
    obtain ⟨a,b,c,d,cx,e,f,g⟩:=hp p (by simp)
    refine ⟨p.1.2.2.1,p.1.2.2.2.1,cx,l.flatMap fun p=>YS p.1,?_,c,d,e,f,g,Zqt l fun q hq=>hp q (List.mem_cons_of_mem _ hq)⟩
    rw [List.flatMap_cons,← a,← b]
section
variable {H:Type} {enc:TypeId × Value→H} {P:Program} {w:World} {base:Nat} {spare:Nat→Bool} {held:Bool}
theorem Zyu {α:Type} {l:List α} (h:l.length=4):∃ a b c d,l=[a,b,c,d]:=by
  match l,h with
  | [a,b,c,d],_=>exact ⟨a,b,c,d,rfl⟩
theorem ZqO:∀ l:List BL,l.flatMap (fun n=>[sV n])=l.map sV
  | []=>rfl
  | a::l=>by rw [List.flatMap_cons,ZqO l];rfl
theorem Zl4 {t tk ts tl tn:TypeId} {fs:Array Field} (ht:P.underlying t=some (.struct fs)) (hc:P.cellsOf t=4) (hk:P.underlying tk=some (.int .u8)) (hs:P.underlying ts=some .string) (hl:P.underlying tl=some (.slice t)) (hn:P.underlying tn=some (.slice ts))
    (ck:P.cellsOf tk=1) (cs_:P.cellsOf ts=1) (cl:P.cellsOf tl=1) (cn:P.cellsOf tn=1) (hf:fs.toList.map (fun f=>(f.type,f.offset))=[(tk,0),(ts,1),(tl,2),(tn,3)]):∀ (N:Nat) {fuel:Nat} {cs:List Value} {x:DataW H × List MemPlace},Rows.uptoBulk x.1<N →
    DataW.trod enc P w base spare held fuel t cs=some x→∃ (p:VT5 × JV),cs=YS p.1∧XY w.heap (fun b=>b<sz w.heap) p.1 p.2∧wV p.2≤16*Rows.uptoBulk x.1
  | 0,_,_,_,hN,_=>absurd hN (Nat.not_lt_zero _)
  | N+1,fuel,cs,x,hN,h=>by
    have ih:=@Zl4 t tk ts tl tn fs ht hc hk hs hl hn ck cs_ cl cn hf N
    obtain ⟨xs,n,rfl,rfl,hlen,hxl,hall⟩:=DataW.trod_struct ht h
    rw [hc] at hlen
    have hfl:fs.size=4:=by
      have:=congrArg List.length hf
      simpa using this
    obtain ⟨x0,x1,x2,x3,rfl⟩:=Zyu (hxl.trans hfl)
    haveI:Inhabited (VT5 × JV):=⟨((0,ByteArray.empty,⟨none,0,0⟩,⟨none,0,0⟩,()),⟨0,[],[],.nil⟩)⟩
    match cs,hlen with
    | [c0,c1,c2,c3],_ =>
      have fld:∀ {i:Nat} {p:TypeId × Nat},([(tk,0),(ts,1),(tl,2),(tn,3)]:List (TypeId × Nat))[i]?=some p→DataW.trod enc P w base spare held n p.1 (([c0,c1,c2,c3].drop p.2).take (P.cellsOf p.1))=[x0,x1,x2,x3][i]?:=fun {i p} hp=>by
        obtain ⟨f,g1,g2,g3⟩:=Zub hf hp
        have:=hall i f g1
        rw [g2,g3] at this
        exact this
      have f0:_=some x0:=fld (i:=0) rfl
      have f1:_=some x1:=fld (i:=1) rfl
      have f2:_=some x2:=fld (i:=2) rfl
      have f3:_=some x3:=fld (i:=3) rfl
      dsimp only at f0 f1 f2 f3
      rw [ck] at f0
      rw [cs_] at f1
      rw [cl] at f2
      rw [cn] at f3
      have hb:Rows.uptoBulk x0.1+Rows.uptoBulk x1.1+Rows.uptoBulk x2.1+Rows.uptoBulk x3.1+1=Rows.uptoBulk (.agg ([x0,x1,x2,x3].map (·.1)):DataW H):=by
        simp only [List.map_cons,List.map_nil,Rows.uptoBulk,Rows.uptoBulkAll];omega
      dsimp only at hN
      obtain ⟨m0,h0,_,w0⟩:=DataW.trod_int hk f0
      obtain ⟨s1,h1,e1,z1⟩:=DataW.trod_string hs f1
      simp at h0 h1
      subst h0 h1
      have w0:=Zyc w0
      have sl:∀ {u e:TypeId} {c:Value} {y:DataW H × List MemPlace},P.underlying u=some (.slice e)→DataW.trod enc P w base spare held n u [c]=some y→∃ s:Sl,c=slV s:=fun {u e c y} hu hy=>by
        rcases Deep.open_slice hu hy with ⟨hcs,_⟩ | ⟨a',len',cap',m,n',D,Pl,hcs,_⟩
        ·simp at hcs;exact ⟨⟨none,0,0⟩,hcs⟩
        ·simp at hcs;exact ⟨⟨some a',len',cap'⟩,hcs⟩
      obtain ⟨x2s,rfl⟩:=sl hl f2
      obtain ⟨x3s,rfl⟩:=sl hn f3
      obtain ⟨al,⟨ar,ap⟩,ab⟩:=Zn2 (α:=VT5 × JV) (g:=fun p=>YS p.1) (n:=4) (Pa:=fun p=>XY w.heap (fun b=>b<sz w.heap) p.1 p.2) (μ:=fun p=>wV p.2) (N:=N) (fun _=>rfl) (by decide) hl hc ih (by omega) f2
      obtain ⟨nl,⟨nr,_⟩,nb⟩:=Zn2 (α:=BL) (g:=fun n=>[sV n]) (n:=1) (Pa:=fun _=>True) (μ:=fun n=>6*n.length+3) (N:=N) (fun _=>rfl) (by decide) hn cs_ (fun {fuel cs y} _ h=>by
        obtain ⟨s,hs',he,_⟩:=DataW.trod_string hs h
        refine ⟨s.data.toList,by rw [hs'],trivial,?_⟩
        rw [he]
        simp only [Rows.uptoBulk]
        omega) (by omega) f3
      have nr':Row w.heap x3s 1 (nl.map sV):=by
        rw [← ZqO];exact nr
      refine ⟨((m0,s1,x2s,x3s,()),⟨m0.toNat,s1.data.toList,nl,Zv8 (al.map (·.2))⟩),rfl,⟨by dsimp only;omega,rfl,nr',ZsY nr' (by decide),_,ar,ZsY ar (by decide),Zqt al ap⟩,?_⟩
      dsimp only
      rw [← hb]
      simp only [wV,Zs4,ZvK,List.map_map]
      have e:((al.map (wV ∘ fun x=>x.2))).sum=(al.map fun p=>wV p.2).sum:=rfl
      rw [e1] at hb ⊢
      simp only [Rows.uptoBulk] at hb ⊢
      omega
theorem Zks {a:Assume} {C:Checked} {os:Os} {f:FuncId} {fn:Func} {s:OpenSpec} {k:(H:Type)→List (DataW H)→Bool} (hk:s.cond=some k) {F:Stop.Interp} {conds:List PathCond} {apart fresh handsOn again:Bool} {X:World→Array Value→Prop}
    (hX:∀ (w w':World) (args:Array Value),w.heap=w'.heap→X w args→X w' args)
    (own:ownKnob C.prog.godebug=none) (started:os.Started) (noInit:C.prog.inits.idxOf? f=none) (hfn:C.prog.funcs[f]?=some fn)
    (witness:∃ (w:World) (tape:Tape) (i:Input),w.os=os∧(w.forCall tape i).Shaped C.prog∧i.vars=[]∧Input.okWide C.prog (w.forCall tape i) .any w.heap.size f i ∧
      ((s.pre enc C.prog fn conds apart (w.forCall tape i).memory i.args∧X (w.forCall tape i).memory i.args)∧sizedMet enc C.prog fn s apart (w.forCall tape i).memory i.args)∧a.holds C.prog (lone (Frame.enter C.prog f i.args .normal) [] (w.forCall tape i)))
    (contract:∀ (W:World) (base:Nat) (args:Array Value) (ds gs:List (DataW H)) (before:List MemPlace),
      (∀ (j:Nat) t v,fn.params[j]?=some t→args[j]?=some v→Value.okWide C.prog W .any base t v) →
      DataW.Whole enc C.prog fn.params.toList s.vars apart W args.toList ds gs before→k H (ds++gs)=true→X W args→W.ShapedOpen C.prog →
      Calls C.prog f args W fun e W'=>∃ v,e = .returned v∧(s.at F).post enc C.prog fn apart fresh handsOn again W args v W') :
    ReturnsInHanded a C os f .any (fun w args=>(s.pre enc C.prog fn conds apart w args∧X w args)∧sizedMet enc C.prog fn s apart w args) ((s.at F).post enc C.prog fn apart fresh handsOn again):=by
  refine returnsInHanded_of_calls own started noInit witness ?_
  intro w tape i _ hsh _ hok hpre _
  obtain ⟨_,_,_,fn',hfn',_,_,_,_,hval⟩:=hok
  have e:fn'=fn:=Option.some.inj (hfn'.symm.trans hfn)
  subst e
  obtain ⟨⟨hp,hx⟩,_⟩:=hpre
  obtain ⟨ds,gs,before,hw,_,hkk⟩:=(OpenSpec.pre_some hk conds apart _ _).1 hp
  have hw':=DataW.Whole.of_heap (w':=w.forCall tape i) (by rfl) hw
  refine (contract (w.forCall tape i) w.heap.size i.args ds gs before hval hw' hkk (hX _ _ _ (by rfl) hx) hsh).mono fun e W' ⟨v,he,hp⟩=>?_
  subst he
  exact ChangeSpec.post_blind hp
theorem Zj7 {C:Checked} {os:Os} {f:FuncId} {fn:Func} {s:OpenSpec} {k:(H:Type)→List (DataW H)→Bool} (hk:s.cond=some k) {conds:List PathCond} {apart:Bool} {X:World→Array Value→Prop} (modest:Bool) (w0:World) (args:Array Value) (fuel:Nat) (hos:w0.os=os)
    (hsh:(w0.forCall (fun _ _=>0) ⟨#[],args,[]⟩).Shaped C.prog)
    (hok:Input.okWideB C.prog (w0.forCall (fun _ _=>0) ⟨#[],args,[]⟩) f ⟨#[],args,[]⟩=true)
    {x:List (DataW H) × List (DataW H) × List MemPlace} (hx:DataW.whole enc C.prog (w0.forCall (fun _ _=>0) ⟨#[],args,[]⟩).memory fn.params.toList s.vars apart args.toList fuel=some x)
    (hconds:conds.all (PathCond.test C.prog ⟨fn.params.toList,x.1,s.bare.plain.varTypes C.prog,x.2.1⟩)=true) (hkk:k H (x.1++x.2.1)=true)
    (hsz:s.bare.sizedB enc C.prog fn apart (w0.forCall (fun _ _=>0) ⟨#[],args,[]⟩).memory args fuel=true)
    (hX:X (w0.forCall (fun _ _=>0) ⟨#[],args,[]⟩).memory args) :
    ∃ (w:World) (tape:Tape) (i:Input),w.os=os∧(w.forCall tape i).Shaped C.prog∧i.vars=[]∧Input.okWide C.prog (w.forCall tape i) .any w.heap.size f i ∧
      ((s.pre enc C.prog fn conds apart (w.forCall tape i).memory i.args∧X (w.forCall tape i).memory i.args)∧sizedMet enc C.prog fn s apart (w.forCall tape i).memory i.args)∧({ modest:=modest }:Assume).holds C.prog (lone (Frame.enter C.prog f i.args .normal) [] (w.forCall tape i)) :=
  ⟨w0,fun _ _=>0,⟨#[],args,[]⟩,hos,hsh,(Input.okWide_of_okWideB (base:=0) hok).1,(Input.okWide_of_okWideB hok).2,
    ⟨⟨(OpenSpec.pre_some hk conds apart _ _).2 ⟨x.1,x.2.1,x.2.2,DataW.Whole_of_whole hx,hconds,hkk⟩,hX⟩,sizedMet_of_sizedB hsz⟩,by
    simp only [Assume.holds]
    exact ⟨by simp,by simp,fun _=>Modest.zero,by simp,by simp⟩⟩
end
end Go.Proofs.YtpjbjdheeemdiaaGreatDoor
namespace Go.Js
open Go
end Go.Js
namespace Go.Js
open Go
theorem Zoc (c:UInt8) (r:BL):Lib.validD (c::r)=(ZaQ ((c::r).take (nRb c))&&Lib.validD ((c::r).drop (nRb c))):=by
  rw [Lib.validD_step _ (by simp)]
  by_cases hb:(Lib.decodeL (c::r)).1=65533∧(Lib.decodeL (c::r)).2=1
  ·rw [if_pos hb]
   cases ho:ZaQ ((c::r).take (nRb c)) with
   | false=>rfl
   | true=>exact absurd hb ((Zaj c r).2 ho)
  ·obtain ⟨e,ho⟩:=(Zaj c r).1 hb
   rw [if_neg hb,e,ho];rfl
def rrL:Nat→JL→Bool
  | _,.nil=>true
  | 0,.cons k t ns sub rest=>whB k t ns sub&&(decide (k≠6)&&(decide (k≠7)&&rrL 0 rest))
  | d+1,.cons k t ns sub rest=>whB k t ns sub&&(rrL d sub&&rrL (d+1) rest)
theorem Zkr:∀ (l:JL) (d:Nat),rrL d l=true↔Zcf d l
  | .nil,0=>⟨fun _=>trivial,fun _=>rfl⟩
  | .nil,_+1=>⟨fun _=>trivial,fun _=>rfl⟩
  | .cons k t ns sub rest,0=>by
    have:=Zkr rest 0
    simp only [rrL,Zcf,Bool.and_eq_true,decide_eq_true_eq,ZdW,this]
  | .cons k t ns sub rest,d+1=>by
    have h1:=Zkr rest (d+1)
    have h2:=Zkr sub d
    simp only [rrL,Zcf,Bool.and_eq_true,ZdW,h1,h2]
abbrev rrV (d:Nat) (v:JV):Bool:=rrL d (.cons v.k v.t v.ns v.sub .nil)
theorem ZrJ (d k:Nat) (t:BL) (ns:List BL) (sub rest:JL):rrL d (.cons k t ns sub rest)=(rrV d ⟨k,t,ns,sub⟩&&rrL d rest):=by
  cases d with
  | zero=>simp [rrV,rrL,Bool.and_assoc]
  | succ d=>simp [rrV,rrL,Bool.and_assoc]
theorem Zkp (v:JV):rrV 0 v=(whB v.k v.t v.ns v.sub&&(decide (v.k≠6)&&decide (v.k≠7))):=by simp [rrV,rrL]
theorem Zkq (d:Nat) (v:JV):rrV (d+1) v=(whB v.k v.t v.ns v.sub&&rrL d v.sub):=by simp [rrV,rrL]
def dpL:Nat→JL→Nat
  | _,.nil=>0
  | m,.cons k _ _ sub rest=>max (if k≠6∧k≠7 then 0 else if 1<m then 1+dpL (m - 1) sub else 1) (dpL m rest)
def dpV (m:Nat) (v:JV):Nat:=if v.k≠6∧v.k≠7 then 0 else if 1<m then 1+dpL (m - 1) v.sub else 1
theorem Zgd (m k:Nat) (t:BL) (ns:List BL) (sub rest:JL):dpL m (.cons k t ns sub rest)=max (dpV m ⟨k,t,ns,sub⟩) (dpL m rest):=by
  conv=>lhs;unfold dpL
  rfl
theorem ZnR:∀ (l:JL) (m:Nat),dpL m l≤max m 1
  | .nil,m=>by simp [dpL]
  | .cons k t ns sub rest,m=>by
    have h1:=ZnR sub (m - 1)
    have h2:=ZnR rest m
    rw [Zgd]
    unfold dpV
    dsimp only
    split
    ·omega
    split<;>omega
theorem ZhC:∀ (l:JL) (d n dp:Nat),d≤64→n+ZdI l≤65536→∃ n',ZaM Zzd d l n dp=(true,n',max dp (if dpL (65 - d) l=0 then 0 else d+dpL (65 - d) l))∧n'≤n+ZdI l
  | .nil,d,n,dp,hd,hn=>⟨n,by simp [ZaM,dpL],by simp [ZdI]⟩
  | .cons k t ns sub rest,d,n,dp,hd,hn=>by
    simp only [ZdI] at hn ⊢
    rw [Zgd]
    simp only [ZaM]
    rw [if_neg (by omega),if_neg (by simp)]
    have ev:dpV (65 - d) ⟨k,t,ns,sub⟩=if k≠6∧k≠7 then 0 else if 1<65 - d then 1+dpL (65 - d - 1) sub else 1:=rfl
    by_cases h1:k≠6∧k≠7
    ·rw [if_pos h1] at ev ⊢
     obtain ⟨n',e,hn'⟩:=ZhC rest d (n+1) dp hd (by omega)
     refine ⟨n',?_,by omega⟩
     rw [e,ev]
     simp only [Nat.zero_max]
    rw [if_neg h1] at ev ⊢
    by_cases h2:64≤d
    ·rw [if_pos h2]
     rw [if_neg (by omega)] at ev
     obtain ⟨n',e,hn'⟩:=ZhC rest d (n+1) (max dp (d+1)) hd (by omega)
     refine ⟨n',?_,by omega⟩
     rw [e,ev]
     congr 2
     generalize dpL (65 - d) rest=x
     rw [if_neg (show ¬ max 1 x=0 by omega)]
     split<;>omega
    ·rw [if_neg h2]
     rw [if_pos (by omega)] at ev
     obtain ⟨n1,e1,hn1⟩:=ZhC sub (d+1) (n+1) (max dp (d+1)) (by omega) (by omega)
     obtain ⟨n',e,hn'⟩:=ZhC rest d n1 (max (max dp (d+1)) (if dpL (65 - (d+1)) sub=0 then 0 else d+1+dpL (65 - (d+1)) sub)) hd (by omega)
     refine ⟨n',?_,by omega⟩
     rw [e1,if_pos rfl]
     show ZaM Zzd d rest n1 _=_
     rw [e,ev]
     congr 2
     rw [show 65 - d - 1=65 - (d+1) by omega]
     generalize dpL (65 - d) rest=x
     generalize dpL (65 - (d+1)) sub=y
     rw [if_neg (show ¬ max (1+y) x=0 by omega)]
     split<;>split<;>omega
def Cut (full s:BL):Prop:=s.length≤full.length∧(full.length≤65536→s=full)∧(65536<full.length→65536<s.length)
theorem Cut.refl (s:BL):Cut s s:=⟨Nat.le_refl _,fun _=>rfl,fun h=>h⟩
theorem Cut.app {a b x y:BL} (h:Cut a x) (hx:x.length≤65536) (h':Cut b y):Cut (a++b) (x++y):=by
  obtain ⟨h1,h2,h3⟩:=h
  obtain ⟨g1,g2,g3⟩:=h'
  have ha:x=a:=h2 (by omega)
  subst ha
  refine ⟨by simp;omega,fun hl=>?_,fun hl=>?_⟩
  ·rw [List.length_append] at hl
   rw [g2 (by omega)]
  ·rw [List.length_append] at hl ⊢
   by_cases hb:b.length≤65536
   ·rw [g2 hb];omega
   ·have:=g3 (by omega);omega
theorem Cut.early {a x:BL} (h:Cut a x) (hx:65536<x.length) (b e:BL):Cut (a++(b++e)) (x++e):=by
  obtain ⟨h1,h2,h3⟩:=h
  refine ⟨by simp;omega,fun hl=>?_,fun hl=>by simp;omega⟩
  rw [List.length_append] at hl;omega
end Go.Js
namespace Go.Proofs.YtpjbjdheeemdiaaGreatDoor
open Go Go.Fw Go.Js
theorem ZpV (v:JV):Zb5 v=(decide (Zeq v≤65536)&&rrV 64 v):=by
  rw [Bool.eq_iff_iff,ZcB,Bool.and_eq_true,decide_eq_true_eq,Zkr]
  exact ⟨fun h=>⟨h.2,h.1⟩,fun h=>⟨h.2,h.1⟩⟩
theorem ZqY (v:JV):Zg2 v=if Zeq v≤65536 then dpV 65 v else 0:=by
  unfold Zg2
  by_cases h:Zeq v≤65536
  ·obtain ⟨n',e,hn'⟩:=ZhC (.cons v.k v.t v.ns v.sub .nil) 0 0 0 (by omega) (by simp only [ZdI];unfold Zeq at h;omega)
   have e':Zc2 (fun _ _ _ _=>true) 0 v 0 0=(true,n',dpV 65 v):=by
     unfold Zc2
     refine e.trans ?_
     rw [Zgd]
     congr 2
     show max 0 (if max (dpV 65 v) 0=0 then 0 else 0+max (dpV 65 v) 0)=_
     split<;>omega
   rw [e',if_pos ⟨h,rfl⟩,if_pos h]
  ·rw [if_neg fun hh=>h hh.1,if_neg h]
end Go.Proofs.YtpjbjdheeemdiaaGreatDoor
