/- One rune's bytes: what the library tells of a text's runes, in the plain words. No program. -/
import Derived.Lib.ValidLaws
import Derived.Lib.RuneCount
import Derived.Test.YtpjbjdheeemdiaaGreatDoorPa7
set_option linter.unusedVariables false
set_option linter.unusedSimpArgs false
namespace Go.Js
open Go
def okC:Nat→Nat→BL→Bool
  | _,_,[]=>true
  | lo,hi,d::r=>decide (lo≤d.toNat)&&decide (d.toNat≤hi)&&okC 128 191 r
abbrev nRb (c:UInt8):Nat:=(ZjF c.toNat).1
abbrev loR (c:UInt8):Nat:=(ZjF c.toNat).2.1
abbrev hiR (c:UInt8):Nat:=(ZjF c.toNat).2.2
def Zgz:BL→Bool
  | []=>false
  | c::r=>decide (nRb c≠0)&&decide (r.length<nRb c)&&okC (loR c) (hiR c) r
def Xi:BL→Bool
  | []=>false
  | c::r=>decide (nRb c≠0)&&decide (r.length+1=nRb c)&&okC (loR c) (hiR c) r
theorem Zkh:∀ (m:Nat) {lo hi:Nat} {r:BL},okC lo hi (r.take m)=true→m≤r.length→ZaG m lo hi r = .ok () (r.drop m)
  | 0,_,_,_,_,_=>rfl
  | m+1,_,_,[],_,hl=>by simp at hl
  | m+1,lo,hi,d::r,h,hl=>by
    simp only [List.take_succ_cons,okC,Bool.and_eq_true,decide_eq_true_eq] at h
    unfold ZaG
    rw [if_pos h.1,Zkh m h.2 (by simpa using hl)]
    rfl
theorem ZiG:∀ (m:Nat) {lo hi:Nat} {r:BL},okC lo hi r=true→r.length<m→ZaG m lo hi r = .err 24 []
  | 0,_,_,_,_,hl=>by omega
  | m+1,_,_,[],_,_=>rfl
  | m+1,lo,hi,d::r,h,hl=>by
    simp only [okC,Bool.and_eq_true,decide_eq_true_eq] at h
    unfold ZaG
    rw [if_pos h.1,ZiG m h.2 (by simpa using hl)]
theorem ZiH:∀ (m j:Nat) {lo hi:Nat} {r:BL},okC lo hi (r.take j)=true→okC lo hi (r.take (j+1))=false→j<m→j<r.length→ZaG m lo hi r = .err 22 (r.drop j)
  | 0,_,_,_,_,_,_,hm,_=>by omega
  | m+1,_,_,_,[],_,_,_,hl=>by simp at hl
  | m+1,0,lo,hi,d::r,_,h',_,_=>by
    unfold ZaG
    rw [if_neg (fun hc=>by simp [okC,hc.1,hc.2] at h')]
    rfl
  | m+1,j+1,lo,hi,d::r,h,h',hm,hl=>by
    simp only [List.take_succ_cons,okC,Bool.and_eq_true,decide_eq_true_eq] at h
    have h2:okC 128 191 (r.take (j+1))=false:=by
      have h3:okC lo hi (d::r.take (j+1))=false:=by simpa only [List.take_succ_cons] using h'
      simpa [okC,h.1.1,h.1.2] using h3
    unfold ZaG
    rw [if_pos h.1,ZiH m j h.2 h2 (by omega) (by simpa using hl)]
    rfl
theorem ZiF:∀ (m:Nat) {lo hi:Nat} {r q:BL},ZaG m lo hi r = .ok () q→okC lo hi (r.take m)=true∧m≤r.length∧q=r.drop m
  | 0,_,_,_,_,h=>by cases h;exact ⟨rfl,Nat.zero_le _,rfl⟩
  | m+1,_,_,[],_,h=>by cases h
  | m+1,lo,hi,d::r,q,h=>by
    unfold ZaG at h
    split at h
    ·rename_i hc
     obtain ⟨a,b,c⟩:=ZiF m h
     refine ⟨?_,by simpa using b,by simpa using c⟩
     simp only [List.take_succ_cons,okC,Bool.and_eq_true,decide_eq_true_eq]
     exact ⟨hc,a⟩
    ·cases h
theorem Zbx (c:UInt8) (r:BL):Xh (c::r)=if nRb c=0 then .err 22 (c::r) else ZaG (nRb c - 1) (loR c) (hiR c) r:=rfl
theorem Ze7 {l q:BL} (h:Xh l = .ok () q):∃ x,l=x++q∧Xi x=true:=by
  rcases l with _ | ⟨c,r⟩
  ·cases h
  ·rw [Zbx] at h
   split at h
   ·cases h
   ·rename_i hn
    obtain ⟨a,b,e⟩:=ZiF _ h
    refine ⟨c::r.take (nRb c - 1),by rw [e];simp,?_⟩
    simp only [Xi,Bool.and_eq_true,decide_eq_true_eq]
    refine ⟨⟨hn,?_⟩,a⟩
    rw [List.length_take]
    have:nRb c≠0:=hn
    omega
theorem Zh8 {x q:BL} (h:Xi x=true):Xh (x++q) = .ok () q:=by
  rcases x with _ | ⟨c,r⟩
  ·cases h
  ·simp only [Xi,Bool.and_eq_true,decide_eq_true_eq] at h
   obtain ⟨⟨hn,hl⟩,hc⟩:=h
   rw [List.cons_append,Zbx,if_neg hn,Zkh (nRb c - 1)]
   ·rw [show nRb c - 1=r.length by omega];simp
   ·rw [show nRb c - 1=r.length by omega];simpa using hc
   ·simp;omega
theorem ZlR {l:BL} (h:Zgz l=true) (hn:Xi l=false):Xh l = .err 24 []:=by
  rcases l with _ | ⟨c,r⟩
  ·cases h
  ·simp only [Zgz,Bool.and_eq_true,decide_eq_true_eq] at h
   obtain ⟨⟨h0,hl⟩,hc⟩:=h
   have hne:r.length+1≠nRb c:=by
     intro e
     simp [Xi,e,hc,show nRb c≠0 from h0] at hn
   rw [Zbx,if_neg h0,ZiG _ hc (by have:=hl;omega)]
theorem ZlS {x:BL} {d:UInt8} {q:BL} (h:x=[]∨(Zgz x=true∧Xi x=false)) (hd:Zgz (x++[d])=false):Xh (x++d::q) = .err 22 (d::q):=by
  rcases x with _ | ⟨c,r⟩
  ·simp only [List.nil_append,Zgz,okC,Bool.and_true,List.length_nil] at hd ⊢
   rw [Zbx,if_pos]
   have:¬ (nRb d≠0∧0<nRb d):=by simpa using hd
   show nRb d=0
   omega
  ·rcases h with h | ⟨h,hn⟩
   ·cases h
   ·simp only [Zgz,Bool.and_eq_true,decide_eq_true_eq] at h
    obtain ⟨⟨h0,hl⟩,hc⟩:=h
    have hne:r.length+1≠nRb c:=by
      intro e
      simp [Xi,e,hc,show nRb c≠0 from h0] at hn
    rw [List.cons_append,Zbx,if_neg h0,ZiH _ r.length (r:=r++d::q)]
    ·simp
    ·simpa using hc
    ·have h3:okC (loR c) (hiR c) (r++[d])=false:=by
       simp only [List.cons_append,Zgz,List.length_append,List.length_singleton] at hd
       simpa [show nRb c≠0 from h0,show r.length+1<nRb c by have:=hl;omega] using hd
     rw [List.take_append,show r.length+1 - r.length=1 by omega,List.take_of_length_le (by omega)]
     exact h3
    ·have:=hl;show r.length<nRb c - 1;omega
    ·simp
theorem ZlL:∀ b:Fin 256,128≤b.val→(nRb ⟨⟨b⟩⟩=0∧Lib.firstT b.val % 8≠2∧Lib.firstT b.val % 8≠3∧Lib.firstT b.val % 8≠4) ∨
    (nRb ⟨⟨b⟩⟩=Lib.firstT b.val % 8∧(nRb ⟨⟨b⟩⟩=2∨nRb ⟨⟨b⟩⟩=3∨nRb ⟨⟨b⟩⟩=4)∧loR ⟨⟨b⟩⟩=Lib.accLo (Lib.firstT b.val / 16)∧hiR ⟨⟨b⟩⟩=Lib.accHi (Lib.firstT b.val / 16)):=by
  decide +kernel
theorem Zou (c:UInt8) (h:128≤c.toNat):(nRb c=0∧Lib.firstT c.toNat % 8≠2∧Lib.firstT c.toNat % 8≠3∧Lib.firstT c.toNat % 8≠4) ∨
    (nRb c=Lib.firstT c.toNat % 8∧(nRb c=2∨nRb c=3∨nRb c=4)∧loR c=Lib.accLo (Lib.firstT c.toNat / 16)∧hiR c=Lib.accHi (Lib.firstT c.toNat / 16)):=by
  rcases c with ⟨⟨b⟩⟩
  exact ZlL b h
theorem ZjU (c:UInt8) (h:c.toNat<128):nRb c=1:=by unfold nRb ZjF;rw [if_pos h]
theorem ZuO {c:UInt8} {r:BL}:((c::r).getD 0 0)=c:=rfl
theorem Xp (c:UInt8) (r:BL):(¬ ((Lib.decodeL (c::r)).1=65533∧(Lib.decodeL (c::r)).2=1)→(Lib.decodeL (c::r)).2=nRb c∧Xi ((c::r).take (nRb c))=true) ∧
    (Xi ((c::r).take (nRb c))=true→¬ ((Lib.decodeL (c::r)).1=65533∧(Lib.decodeL (c::r)).2=1)):=by
  by_cases hc:c.toNat<128
  ·rw [Lib.decodeL_ascii c r hc]
   have hn:=ZjU c hc
   refine ⟨fun _=>⟨hn.symm,?_⟩,fun _ h=>?_⟩
   ·rw [hn]
    simp [Xi,hn,okC]
   ·simp at h;omega
  ·have h128:128≤c.toNat:=by omega
   rw [Lib.decodeL_N]
   simp only [ZuO]
   have hb:∀ i,((c::r).getD i 0).toNat<256:=fun i=>UInt8.toNat_lt _
   have key:=Lib.check_decode (c::r).length c.toNat ((c::r).getD 1 0).toNat ((c::r).getD 2 0).toNat ((c::r).getD 3 0).toNat (by simp) h128 c.toNat_lt (hb 1) (hb 2) (hb 3)
   rcases Zou c h128 with ⟨t0,t2,t3,t4⟩ | ⟨tn,tc,tl,th⟩
   ·have:Lib.checkN (c::r).length ((c::r).getD 1 0).toNat ((c::r).getD 2 0).toNat ((c::r).getD 3 0).toNat (Lib.firstT c.toNat % 8) (Lib.accLo (Lib.firstT c.toNat / 16)) (Lib.accHi (Lib.firstT c.toNat / 16))=none:=by
      unfold Lib.checkN;rw [if_neg t2,if_neg t3,if_neg t4]
    rw [this] at key
    rcases key with ⟨_,k⟩ | ⟨k,_,hk,_⟩
    ·rw [k]
     refine ⟨fun h=>absurd ⟨rfl,rfl⟩ h,fun h=>?_⟩
     rw [t0] at h;cases h
    ·cases hk
   ·rw [← tn,← tl,← th] at key
    have hnd:nRb c≠0:=by omega
    rcases key with ⟨hk,k⟩ | ⟨k,hk2,hk,e⟩
    ·rw [k]
     refine ⟨fun h=>absurd ⟨rfl,rfl⟩ h,fun ho=>?_⟩
     exfalso
     unfold Lib.checkN at hk
     rcases tc with n | n | n<;>rw [n] at hk ho<;>simp only [Nat.reduceEqDiff,↓reduceIte] at hk<;>split at hk<;>cases hk
     ·rename_i hh
      rcases r with _ | ⟨d1,r⟩
      ·simp [Xi,n] at ho
      ·simp [Xi,n,okC] at ho hh;omega
     ·rename_i hh
      rcases r with _ | ⟨d1,_ | ⟨d2,r⟩⟩
      ·simp [Xi,n] at ho
      ·simp [Xi,n] at ho
      ·simp [Xi,n,okC] at ho hh;omega
     ·rename_i hh
      rcases r with _ | ⟨d1,_ | ⟨d2,_ | ⟨d3,r⟩⟩⟩
      ·simp [Xi,n] at ho
      ·simp [Xi,n] at ho
      ·simp [Xi,n] at ho
      ·simp [Xi,n,okC] at ho hh;omega
    ·rw [e]
     have hkn:k=nRb c:=by
       unfold Lib.checkN at hk
       rcases tc with n | n | n<;>rw [n] at hk ⊢ <;> simp only [Nat.reduceEqDiff,↓reduceIte] at hk<;>split at hk<;>cases hk<;>rfl
     subst hkn
     refine ⟨fun _=>⟨rfl,?_⟩,fun _ h=>by omega⟩
     unfold Lib.checkN at hk
     rcases tc with n | n | n<;>rw [n] at hk ⊢ <;> simp only [Nat.reduceEqDiff,↓reduceIte] at hk<;>split at hk<;>cases hk
     ·rename_i hh
      rcases r with _ | ⟨d1,r⟩
      ·simp at hh
      ·simp [Xi,n,okC] at hh ⊢;omega
     ·rename_i hh
      rcases r with _ | ⟨d1,_ | ⟨d2,r⟩⟩
      ·simp at hh
      ·simp at hh
      ·simp [Xi,n,okC] at hh ⊢;omega
     ·rename_i hh
      rcases r with _ | ⟨d1,_ | ⟨d2,_ | ⟨d3,r⟩⟩⟩
      ·simp at hh
      ·simp at hh
      ·simp at hh
      ·simp [Xi,n,okC] at hh ⊢;omega
def Zj1 (n:Nat):Bool:=decide (55296≤n)&&decide (n<56320)
def ZoL (n:Nat):Bool:=decide (56320≤n)&&decide (n<57344)
def Zl3 (n m:Nat):Nat:=65536+(n - 55296)*1024+(m - 56320)
theorem ZmF {n:Nat} (h:Zj1 n=true):ZeC n=65533:=by
  simp [Zj1] at h
  unfold ZeC;rw [if_pos (by omega)]
inductive Tok where
  | ch (m:UInt8)
  | uni (n:Nat)
def Zgm:BL→Out Tok
  | []=> .err 24 []
  | c::l=>match ZaM c with
    | some m=> .ok (.ch m) l
    | none=>if c=117 then (Zc7 4 0 l).bind fun n r=> .ok (.uni n) r else .err 22 (c::l)
def flB:Option Nat→BL
  | none=>[]
  | some _=>ZbK 65533
def Zgl (p:Option Nat) (out:BL):Tok→Option Nat × BL
  | .ch m=>(none,out++flB p++[m])
  | .uni k=>match p with
    | some n=>if ZoL k then (none,out++ZbK (Zl3 n k)) else if Zj1 k then (some k,out++ZbK 65533) else (none,out++ZbK 65533++ZbK (ZeC k))
    | none=>if Zj1 k then (some k,out) else (none,out++ZbK (ZeC k))
def XY:Nat→Option Nat→BL→BL→Out BL
  | 0,_,_,_=> .err 24 []
  | _+1,_,_,[]=> .err 24 []
  | n+1,p,out,c::l =>
    if c.toNat<32 then .err 22 (c::l)
    else if c=34 then .ok (out++flB p) l
    else if c=92 then (Zgm l).bind fun t l2=>XY n (Zgl p out t).1 (Zgl p out t).2 l2
    else if c.toNat<128 then XY n none (out++flB p++[c]) l
    else (Xh (c::l)).bind fun _ l2=>XY n none (out++flB p++ZfY (c::l) l2) l2
theorem Zak (n:Nat) (p:Option Nat) (out:BL) (c:UInt8) (l:BL):XY (n+1) p out (c::l) =
    if c.toNat<32 then .err 22 (c::l)
    else if c=34 then .ok (out++flB p) l
    else if c=92 then (Zgm l).bind fun t l2=>XY n (Zgl p out t).1 (Zgl p out t).2 l2
    else if c.toNat<128 then XY n none (out++flB p++[c]) l
    else (Xh (c::l)).bind fun _ l2=>XY n none (out++flB p++ZfY (c::l) l2) l2:=rfl
theorem Zgp (n:Nat) (out:BL) (c:UInt8) (l:BL):ZdC (n+1) out (c::l) =
    if c.toNat<32 then .err 22 (c::l)
    else if c=34 then .ok out l
    else if c=92 then (Zkd l).bind fun o l2=>ZdC n (out++o) l2
    else if c.toNat<128 then ZdC n (out++[c]) l
    else (Xh (c::l)).bind fun _ l2=>ZdC n (out++ZfY (c::l) l2) l2:=rfl
theorem ZaY (c:UInt8) (l:BL):Zgm (c::l)=match ZaM c with
    | some m=> .ok (.ch m) l
    | none=>if c=117 then (Zc7 4 0 l).bind fun n r=> .ok (.uni n) r else .err 22 (c::l):=rfl
theorem ZcO (c:UInt8) (l:BL):Zkd (c::l)=match ZaM c with
    | some m=> .ok [m] l
    | none=>if c=117 then Zre l else .err 22 (c::l):=rfl
theorem ZdZ (l:BL):Zre l=(Zc7 4 0 l).bind fun n l1 =>
  match (if 55296≤n∧n<56320 then XU l1 else none) with
  | some l2=>(Zc7 4 0 l2).bind fun m l3=>if 56320≤m∧m<57344 then .ok (ZbK (65536+(n - 55296)*1024+(m - 56320))) l3 else .ok (ZbK (ZeC n)) l1
  | none=> .ok (ZbK (ZeC n)) l1:=rfl
theorem ZcP (a b:UInt8) (l:BL):XU (a::b::l)=if a=92∧b=117 then some l else none:=rfl
theorem ZbT:∀ (k:Nat) {n m:Nat} {l r:BL},Zc7 k n l = .ok m r→r.length+k=l.length∧r <:+l
  | 0,_,_,_,_,h=>by cases h;exact ⟨rfl,List.suffix_refl _⟩
  | k+1,_,_,[],_,h=>by cases h
  | k+1,n,m,c::l,r,h=>by
    unfold Zc7 at h
    split at h
    ·obtain ⟨a,b⟩:=ZbT k h
     exact ⟨by simp;omega,Y1 b⟩
    ·cases h
theorem ZdB {l r:BL} {t:Tok} (h:Zgm l = .ok t r):r.length<l.length∧r <:+l:=by
  rcases l with _ | ⟨c,l⟩
  ·cases h
  ·dsimp only [Zgm] at h
   split at h
   ·cases h;exact ⟨by simp,List.suffix_cons _ _⟩
   ·split at h
    ·obtain ⟨n,l1,h1,h2⟩:=ZI h
     cases h2
     obtain ⟨a,b⟩:=ZbT 4 h1
     exact ⟨by simp;omega,Y1 b⟩
    ·cases h
theorem Za1 {l r:BL} (h:Xh l = .ok () r):r.length<l.length∧r <:+l:=by
  obtain ⟨x,e,hx⟩:=Ze7 h
  rw [e]
  refine ⟨?_,List.suffix_append _ _⟩
  rcases x with _ | ⟨c,x⟩
  ·cases hx
  ·simp only [List.cons_append,List.length_cons,List.length_append];omega
theorem Zbm {l l2:BL} (h:XU l=some l2):l=92::117::l2:=by
  rcases l with _ | ⟨a,_ | ⟨b,l⟩⟩
  ·cases h
  ·cases h
  ·rw [ZcP] at h
   split at h
   ·rename_i hc;cases h;rw [hc.1,hc.2]
   ·cases h
theorem ZaR:∀ (n m:Nat) (p:Option Nat) (out l:BL),l.length<n→l.length<m→XY n p out l=XY m p out l
  | 0,_,_,_,_,h,_=>by omega
  | _,0,_,_,_,_,h=>by omega
  | n+1,m+1,p,out,[],_,_=>rfl
  | n+1,m+1,p,out,c::l,hn,hm=>by
    have hn':l.length<n:=by simpa using hn
    have hm':l.length<m:=by simpa using hm
    unfold XY
    split
    ·rfl
    split
    ·rfl
    split
    ·cases e:Zgm l with
     | ok t r=>exact ZaR n m _ _ r (by have:=(ZdB e).1;omega) (by have:=(ZdB e).1;omega)
     | err e r=>rfl
    split
    ·exact ZaR n m _ _ l hn' hm'
    ·cases e:Xh (c::l) with
     | ok t r=>exact ZaR n m _ _ r (by have:=(Za1 e).1;simp at this;omega) (by have:=(Za1 e).1;simp at this;omega)
     | err e r=>rfl
theorem Zpi:ZaM 117=none:=by decide
theorem Zhd:∀ (n:Nat) (l:BL),l.length<n→(∀ out,ZdC n out l=XY n none out l) ∧
    ∀ k out,Zj1 k=true→XY n (some k) out l=match XU l with
      | some l2=>(Zc7 4 0 l2).bind fun m l3=>if ZoL m then XY n none (out++ZbK (Zl3 k m)) l3 else XY n none (out++ZbK 65533) l
      | none=>XY n none (out++ZbK 65533) l
  | 0,_,h=>by omega
  | n+1,l,h=>by
    have second:∀ k out,Zj1 k=true→XY (n+1) (some k) out l=match XU l with
      | some l2=>(Zc7 4 0 l2).bind fun m l3=>if ZoL m then XY (n+1) none (out++ZbK (Zl3 k m)) l3 else XY (n+1) none (out++ZbK 65533) l
      | none=>XY (n+1) none (out++ZbK 65533) l:=by
      intro k out hk
      rcases l with _ | ⟨c,l⟩
      ·rfl
      cases hb:XU (c::l) with
      | some l2 =>
        have e:=Zbm hb
        cases e
        simp only
        conv=>lhs;rw [Zak,if_neg (by decide),if_neg (by decide),if_pos rfl]
        have ht:Zgm (117::l2)=(Zc7 4 0 l2).bind fun n r=> .ok (.uni n) r:=by rw [ZaY,Zpi];rfl
        rw [ht]
        cases hh:Zc7 4 0 l2 with
        | err e r=>rfl
        | ok m l3 =>
          have hl:=(ZbT 4 hh).1
          simp only [Out.bind_ok,Zgl]
          simp only [List.length_cons] at h
          by_cases hm:ZoL m=true
          ·rw [if_pos hm,if_pos hm]
           exact ZaR _ _ _ _ _ (by omega) (by omega)
          ·rw [if_neg hm,if_neg hm]
           conv=>rhs;rw [Zak,if_neg (by decide),if_neg (by decide),if_pos rfl,ht,hh]
           simp only [Out.bind_ok,Zgl]
      | none =>
        simp only
        rw [Zak,Zak]
        split
        ·rfl
        split
        ·simp [flB]
        split
        ·rename_i h1 h2 h3
         subst h3
         cases ht:Zgm l with
         | err e r=>rfl
         | ok t r =>
           simp only [Out.bind_ok]
           cases t with
           | ch m=>simp [Zgl,flB]
           | uni m =>
             exfalso
             rcases l with _ | ⟨d,l⟩
             ·cases ht
             ·rw [ZaY] at ht
              cases hm:ZaM d with
              | some q=>rw [hm] at ht;cases ht
              | none =>
                rw [hm] at ht
                simp only at ht
                split at ht
                ·rename_i hd
                 subst hd
                 rw [ZcP,if_pos ⟨rfl,rfl⟩] at hb
                 cases hb
                ·cases ht
        split
        ·simp [flB]
        ·cases Xh (c::l) with
         | err e r=>rfl
         | ok t r=>simp [flB]
    refine ⟨fun out=>?_,second⟩
    rcases l with _ | ⟨c,l⟩
    ·rfl
    have ih:=fun (r:BL) (hr:r.length<n)=>Zhd n r hr
    rw [Zgp,Zak]
    split
    ·rfl
    split
    ·simp [flB]
    split
    ·rcases l with _ | ⟨d,l⟩
     ·rfl
     simp only [List.length_cons] at h
     rw [ZcO,ZaY]
     cases hm:ZaM d with
     | some m=>simp only [Out.bind_ok,Zgl,flB,List.append_nil];exact (ih l (by omega)).1 _
     | none =>
       simp only
       by_cases hd:d=117
       ·rw [if_pos hd,if_pos hd]
        rw [ZdZ]
        cases hh:Zc7 4 0 l with
        | err e r=>rfl
        | ok k l1 =>
          have hl:=(ZbT 4 hh).1
          simp only [Out.bind_ok]
          by_cases hk:Zj1 k=true
          ·have hk':55296≤k∧k<56320:=by simpa [Zj1] using hk
           rw [if_pos hk',show Zgl none out (.uni k)=(some k,out) by simp [Zgl,hk]]
           simp only
           rw [(ih l1 (by omega)).2 k out hk]
           cases hb:XU l1 with
           | none=>simp only [Out.bind_ok,ZmF hk];exact (ih l1 (by omega)).1 _
           | some l2 =>
             simp only
             cases hx:Zc7 4 0 l2 with
             | err e r=>rfl
             | ok m l3 =>
               have e:=Zbm hb
               have hl3:=(ZbT 4 hx).1
               simp only [Out.bind_ok]
               rw [e] at hl
               simp only [List.length_cons] at hl
               by_cases hm:ZoL m=true
               ·have hm':56320≤m∧m<57344:=by simpa [ZoL] using hm
                rw [if_pos hm,if_pos hm']
                exact (ih l3 (by omega)).1 _
               ·have hm':¬ (56320≤m∧m<57344):=by simpa [ZoL] using hm
                rw [if_neg hm,if_neg hm',ZmF hk]
                exact (ih l1 (by rw [e];simp only [List.length_cons];omega)).1 _
          ·have hk':¬ (55296≤k∧k<56320):=by simpa [Zj1] using hk
           rw [if_neg hk',show Zgl none out (.uni k)=(none,out++ZbK (ZeC k)) by simp [Zgl,hk]]
           exact (ih l1 (by omega)).1 _
       ·rw [if_neg hd,if_neg hd];rfl
    split
    ·simp only [flB,List.append_nil];exact (ih l (by simpa using h)).1 _
    ·cases hr:Xh (c::l) with
     | err e r=>rfl
     | ok t r=>simp only [Out.bind_ok,flB,List.append_nil];exact (ih r (by have:=(Za1 hr).1;simp at this h;omega)).1 _
end Go.Js
namespace Go.Proofs.YtpjbjdheeemdiaaGreatDoor
open Go Go.Fw Go.Js
theorem Zai.keep {h h':Zc} (t:Zai h) (he:∀ k,k<9→k<sz h→obj h' k=obj h k):Zai h':=by
  have cell:∀ {b o:Nat} {v:Value},b<9→h.cell b o=some v→h'.cell b o=some v:=fun {b o v} hb hc=>by
    rw [← hc];exact ZgV (he b hb (ZmU hc)) o
  have wc:∀ (w:World) (b o:Nat) (v:Value),b<9→World.cell? { w with heap:=h } ⟨b,o,none⟩=some v→w.heap=h'→w.cell? ⟨b,o,none⟩=some v:=fun w b o v hb hc hw=>by
    have:b<sz h:=by
      rcases Nat.lt_or_ge b h.size with h9 | h9
      ·exact h9
      ·simp [World.cell?,Array.getElem?_eq_none h9] at hc
    have e:=he b hb this
    unfold obj at e
    rw [← hc]
    subst hw
    simp only [World.cell?,e]
  refine ⟨fun w hw=>?_,fun w hw=>?_,?_,?_,?_⟩
  ·have:=t.utf { w with heap:=h } rfl
   exact ⟨fun c hc=>wc w _ _ _ (by decide) (this.1 c hc) hw,fun i hi=>⟨wc w _ _ _ (by decide) (this.2 i hi).1 hw,wc w _ _ _ (by decide) (this.2 i hi).2 hw⟩⟩
  ·have h1:=t.pow { w with heap:=h } rfl
   unfold Lib.TabIs World.var? at h1 ⊢
   have hg:Tryz.prog.globalNamed "internal/strconv.uint64pow10" = some 6:=by kernel_rfl
   rw [hg] at h1 ⊢
   simp only [Option.bind_some] at h1 ⊢
   have:6<sz h:=by
     rcases Nat.lt_or_ge 6 h.size with h9 | h9
     ·exact h9
     ·rw [Array.getElem?_eq_none h9] at h1;cases h1
   have e:=he _ (by decide) this
   unfold obj at e
   subst hw
   rw [e];exact h1
  ·obtain ⟨a,b,c⟩:=t.range;exact ⟨a,b,cell (by decide) c⟩
  ·obtain ⟨a,b,c⟩:=t.syn;exact ⟨a,b,cell (by decide) c⟩
  ·obtain ⟨a,c⟩:=t.most;exact ⟨a,cell (by decide) c⟩
theorem Zai.upd {S:Nat→Prop} {h h':Zc} (t:Zai h) (u:Upd S h h') (hs:∀ k,S k→9≤k):Zai h' :=
  t.keep fun k hk hl=>Yn u hl fun h9=>by have:=hs k h9;omega
theorem Zai.ext {h h':Zc} (t:Zai h) (u:Ext h h'):Zai h':=t.keep fun k _ hl=>YG u hl
structure Buf (h:Zc) (base:Nat) (x:Sl) (l:BL):Prop where
  len:x.len=l.length
  cap:x.len≤x.cap
  big:x.cap<9223372036854775808
  at_:(x.ptr=none∧x.cap=0)∨∃ (b:Nat) (c:List Value),x.ptr=some ⟨b,0,none⟩∧base≤b∧obj h b=some (.cells c.toArray 5 (0,0))∧c.length=x.cap∧l.map bv=c.take x.len∧l≠[]
theorem Buf.nil (h:Zc) (base:Nat):Buf h base ⟨none,0,0⟩ []:=⟨rfl,Nat.le_refl _,by decide,.inl ⟨rfl,rfl⟩⟩
theorem Buf.congr {h h':Zc} {base:Nat} {x:Sl} {l:BL} (hb:Buf h base x l) (he:∀ b,x.blk=some b→b<sz h→obj h' b=obj h b):Buf h' base x l:=by
  refine ⟨hb.len,hb.cap,hb.big,?_⟩
  rcases hb.at_ with h0 | ⟨b,c,hp,hbb,hc,hr⟩
  ·exact .inl h0
  ·exact .inr ⟨b,c,hp,hbb,(he b (by simp [Sl.blk,hp]) (ZaJ hc)).trans hc,hr⟩
theorem Buf.lt {h:Zc} {base:Nat} {x:Sl} {l:BL} (hb:Buf h base x l) {b:Nat} (e:x.blk=some b):base≤b∧b<sz h:=by
  rcases hb.at_ with ⟨hp,_⟩ | ⟨b',c,hp,hbb,hc,_⟩
  ·simp [Sl.blk,hp] at e
  ·simp [Sl.blk,hp] at e
   subst e
   exact ⟨hbb,ZaJ hc⟩
theorem Zil {h:Zc} {b o:Nat} {vs c:List Value} {e:TypeId} {f:Nat × Nat} (hb:obj h b=some (.cells c.toArray e f)):obj (h.puts b o vs) b=some (.cells (YT o vs c).toArray e f):=by
  rw [X3,if_pos rfl,hb,Y2]
theorem Zbk:∀ (vs:List Value) (o:Nat) (c:List Value),(YT o vs c).length=c.length
  | [],o,c=>rfl
  | v::vs,o,c=>by unfold YT;rw [Zbk vs];simp
theorem ZcB:∀ (vs:List Value) (o:Nat) (c:List Value),o+vs.length≤c.length→(YT o vs c).take (o+vs.length)=c.take o++vs
  | [],o,c,h=>by simp [YT]
  | v::vs,o,c,h=>by
    simp only [List.length_cons] at h
    unfold YT
    rw [show o+(v::vs).length=(o+1)+vs.length by simp;omega,ZcB vs (o+1) (c.set o v) (by simp;omega)]
    rw [List.take_add_one,List.getElem?_set_self (by omega),List.take_set_of_le (Nat.le_refl _)]
    simp
theorem Zij (l:BL):(l.map bv).all ZV=true:=by
  rw [List.all_eq_true]
  intro v hv
  obtain ⟨b,_,rfl⟩:=List.mem_map.1 hv
  exact Zbo
theorem Buf.app {h:Zc} {base:Nat} {x:Sl} {l new:BL} {n:Nat} {cells:List Value} {K:Sl→Zc→Prop} (hb:Buf h base x l) (hbase:base≤sz h) (hn:n=new.length) (hc:cells=new.map bv) (hs:l.length+new.length≤1000000000)
    (hk:∀ x' h',Buf h' base x' (l++new)→Upd (fun k=>base≤k) h h'→sz h≤sz h'→K x' h'):Fw.app 5 1 1 [.int .u8 0] x n cells h K:=by
  subst hn hc
  have hlen:=hb.len
  have hcap:=hb.cap
  refine ⟨fun hroom=>?_,fun hgt=>⟨by omega,by omega,?_⟩⟩
  ·rcases hb.at_ with ⟨hp,h0⟩ | ⟨b,c,hp,hbb,hblk,hcl,hv,hne⟩
   ·left
    have hl0:new=[]:=List.eq_nil_of_length_eq_zero (by omega)
    subst hl0
    refine ⟨rfl,?_⟩
    have:l=[]:=List.eq_nil_of_length_eq_zero (by omega)
    subst this
    refine hk _ _ ⟨?_,hroom,hb.big,.inl ⟨hp,h0⟩⟩ (Upd.refl _ _) (Nat.le_refl _)
    simpa using hlen
   ·right
    refine ⟨b,0,hp,Zc1 hblk (by simp [hcl];omega),Zij new,?_⟩
    have hp1:=Zil (o:=0+x.len*1) (vs:=new.map bv) hblk
    refine hk _ _ ⟨by simp [hlen],hroom,hb.big,.inr ⟨b,_,hp,hbb,hp1,by rw [Zbk];exact hcl,?_,by simp [hne]⟩⟩ ((Upd.puts h b _ _).mono fun k _ hk=>by subst hk;exact hbb) (by rw [Zcm];exact Nat.le_refl _)
    have:=ZcB (new.map bv) (0+x.len*1) c (by simp [hcl];omega)
    simp only [List.length_map] at this
    rw [List.map_append,hv]
    simpa using this.symm
  ·have hrow:rdS x 1 h fun old=>old=l.map bv:=by
     rcases hb.at_ with ⟨hp,h0⟩ | ⟨b,c,hp,hbb,hblk,hcl,hv,_⟩
     ·have:l=[]:=List.eq_nil_of_length_eq_zero (by omega)
      subst this
      exact .inl ⟨by simpa using hlen,rfl⟩
     ·refine .inr ⟨b,0,l.map bv,hp,by simp [hlen],ZcC hblk fun i v hi=>?_,rfl⟩
      rw [hv,List.getElem?_take] at hi
      split at hi
      ·simpa using hi
      ·cases hi
   have next:∀ cap,x.len+new.length≤cap→cap<9223372036854775808→K ⟨some ⟨h.size,0,none⟩,x.len+new.length,cap⟩ (h.push (.cells (l.map bv++new.map bv++YW [.int .u8 0] (cap - (x.len+new.length))).toArray 5)):=fun cap h1 h2=>by
     refine hk _ _ ⟨by simp [hlen],h1,h2,.inr ⟨h.size,_,rfl,hbase,ZdJ,?_,?_,fun h9=>by have h8:=congrArg List.length h9;rw [List.length_append,List.length_nil] at h8;omega⟩⟩ ((Ext.push h _).upd _) (by rw [ZlM];omega)
     ·simp only [List.length_append,List.length_map,Zbn,List.length_singleton];omega
     ·rw [List.map_append,List.take_append_of_le_length (by simp [hlen]),List.take_of_length_le (by simp [hlen])]
   rcases hrow with ⟨a,b⟩ | ⟨b,o,vs,a1,a2,a3,a4⟩
   ·refine .inl ⟨a,?_⟩
    have:l=[]:=by cases l with | nil=>rfl | cons c l=>cases b
    subst this
    exact next
   ·exact .inr ⟨b,o,vs,a1,a2,a3,by rw [a4];exact next⟩
def Zri (T:TypeId):Prop:=T=188∨T=190
def Bld (h:Zc) (B:Nat) (T:TypeId) (out:BL):Prop:=Zri T∧∃ (c:Value) (x:Sl),obj h B=some (.cells [c,slV x].toArray T (0,0))∧(c = .pointer none∨c = .pointer (At B))∧Buf h (B+1) x out
theorem Bld.lt {h:Zc} {B:Nat} {T:TypeId} {out:BL} (hb:Bld h B T out):B<sz h:=by
  obtain ⟨_,c,x,b,_⟩:=hb
  exact ZaJ b
theorem Bld.congr {h h':Zc} {B:Nat} {T:TypeId} {out:BL} (hb:Bld h B T out) (he:∀ b,B≤b→b<sz h→obj h' b=obj h b):Bld h' B T out:=by
  obtain ⟨hT,c,x,b,hc,hx⟩:=id hb
  exact ⟨hT,c,x,(he B (Nat.le_refl _) hb.lt).trans b,hc,hx.congr fun k hk hl=>he k (by have:=(hx.lt hk).1;omega) hl⟩
theorem Bld.upd {S:Nat→Prop} {h h':Zc} {B:Nat} {T:TypeId} {out:BL} (hb:Bld h B T out) (u:Upd S h h') (hs:∀ k,S k→k<B):Bld h' B T out :=
  hb.congr fun b h1 h2=>Yn u h2 fun h9=>by have:=hs b h9;omega
theorem ZfN {h:Zc} {B:Nat} {T:TypeId} {out:BL} (hb:Bld h B T out) {K:HP} (hk:∀ h' x,Bld h' B T out→Upd (fun k=>B≤k) h h'→obj h' B=some (.cells [.pointer (At B),slV x].toArray T (0,0))→Buf h' (B+1) x out→sz h'=sz h→K h'):Zx (At B) K h:=by
  obtain ⟨hT,c,x,b,hc,hx⟩:=hb
  refine ⟨B,c,slV x,T,rfl,b,hT,?_⟩
  rcases hc with rfl | rfl
  ·left
   refine ⟨rfl,?_⟩
   have hp:obj (h.put B 0 (.pointer (some ⟨B,0,none⟩))) B=some (.cells [.pointer (At B),slV x].toArray T (0,0)):=by rw [Zfl,if_pos rfl,b,Zcy];rfl
   have hbuf:Buf (h.put B 0 (.pointer (some ⟨B,0,none⟩))) (B+1) x out:=hx.congr fun k hk hl=>by rw [Zfl,if_neg (by have:=(hx.lt hk).1;omega)]
   exact hk _ x ⟨hT,_,x,hp,.inr rfl,hbuf⟩ ((Upd.put h B 0 _).mono fun k _ hk=>by subst hk;exact Nat.le_refl _) hp hbuf Zov
  ·exact .inr ⟨rfl,hk h x ⟨hT,_,x,b,.inr rfl,hx⟩ (Upd.refl _ _) b hx rfl⟩
theorem Zjq {h:Zc} {B:Nat} {T:TypeId} {out:BL} {x x':Sl} {h':Zc} (hT:Zri T) (hb:obj h B=some (.cells [.pointer (At B),slV x].toArray T (0,0))) (u:Upd (fun k=>B+1≤k) h h') (hx:Buf h' (B+1) x' out) {K:HP}
    (hk:∀ h9,Bld h9 B T out→Upd (fun k=>B≤k) h h9→obj h9 B=some (.cells [.pointer (At B),slV x'].toArray T (0,0))→K h9):Ze (At B) fun b7 o8=>st h' b7 (o8+1) (.slice x'.ptr x'.len x'.cap) K:=by
  have hb':obj h' B=some (.cells [.pointer (At B),slV x].toArray T (0,0)):=Yk hb u (by omega)
  refine ZN (ZjO hb' (by simp) Zii fun h9 c9 u9 z9=>hk h9 ?_ ?_ ?_)
  ·exact ⟨hT,_,x',c9,.inr rfl,hx.congr fun k hk hl=>Yn u9 hl (by have:=(hx.lt hk).1;omega)⟩
  ·exact (u.mono fun k _ hk=>by omega).trans (u9.mono fun k _ hk=>by subst hk;exact Nat.le_refl _)
  ·exact c9
theorem ZeT {h:Zc} {B:Nat} {T:TypeId} {out:BL} (hb:Bld h B T out) {c:UInt8} {n:Int} (hn:n=c.toNat) (hs:out.length<900000000) {K:Value→HP} (hk:∀ h',Bld h' B T (out++[c])→Upd (fun k=>B≤k) h h'→K .nilIface h'):Zl (At B) n K h:=by
  subst hn
  unfold Zl Yc
  refine ZfN hb fun h1 x b1 u1 c1 hx z1=>ZN (rL (Zq c1 rfl) ?_)
  refine Zsd [c] 1 rfl rfl (by decide) fun b3 h4 hr e4 _=>hr.rd ?_
  have hx4:=hx.congr (h':=h4) fun k hk hl=>YG e4 hl
  refine hx4.app (new:=[c]) (by have:=b1.lt;have:=e4.size;have:sz h1=h1.size:=rfl;have:sz h4=h4.size:=rfl;omega) rfl rfl (by simp;omega) fun x' h6 hx6 u6 z6=>?_
  exact Zjq b1.1 (Y8 c1 e4) u6 hx6 fun h9 b9 u9 _=>hk h9 b9 (u1.trans ((e4.upd _).trans u9))
theorem ZiO {h:Zc} {B:Nat} {T:TypeId} {out:BL} (hb:Bld h B T out) {s:ByteArray} (hs:out.length+s.size<900000000) {K:Int→Value→HP} (hk:∀ h',Bld h' B T (out++s.data.toList)→Upd (fun k=>B≤k) h h'→K s.size .nilIface h'):Zk (At B) s K h:=by
  unfold Zk Z5
  refine Za (ZfN hb fun h1 x b1 u1 c1 hx z1=>ZN (rL (Zq c1 rfl) ?_))
  refine hx.app (new:=s.data.toList) (by have:=b1.lt;omega) (by simp) rfl (by simp;omega) fun x' h6 hx6 u6 z6=>?_
  exact Zjq b1.1 c1 u6 hx6 fun h9 b9 u9 _=>Za (hk h9 b9 (u1.trans u9))
theorem Ze6 {h:Zc} {B:Nat} {T:TypeId} {out:BL} (hb:Bld h B T out) {K:ByteArray→HP} (hk:∀ h',Upd (fun k=>B≤k) h h'→K (Zd out) h'):ZR (At B) K h:=by
  obtain ⟨hT,c,x,b,hc,hx⟩:=hb
  refine ⟨B,c,x,T,rfl,b,?_⟩
  have hl:=hx.len
  rcases hx.at_ with ⟨hp,h0⟩ | ⟨g,cs,hp,hbb,hblk,hcl,hv,hne⟩
  ·left
   have hcap:=hx.cap
   have:out=[]:=List.eq_nil_of_length_eq_zero (by omega)
   subst this
   exact ⟨hp,by simpa using hl,h0,hk h (Upd.refl _ _)⟩
  ·right
   have hlen:0<out.length:=List.length_pos_iff.2 hne
   refine ⟨g,Zd out,cs.toArray,(0,0),hp,by omega,by simp [hl,Zd,ByteArray.size],by simp [Zd,ByteArray.size];exact hne,hx.cap,by simp [hcl],hx.big,hblk,?_,fun h' u=>hk h' (u.mono fun k _ hk=>by subst hk;omega)⟩
   refine ZcC hblk fun i v hi=>?_
   have:YV (Zd out)=out.map bv:=by unfold YV bv;simp
   rw [this,hv,List.getElem?_take] at hi
   split at hi
   ·simpa using hi
   ·cases hi
end Go.Proofs.YtpjbjdheeemdiaaGreatDoor
namespace Go.Js
open Go
def fin {α:Type} (y:Out α):Prop:=(∃ a,y = .ok a [])∨y = .err 24 []
def Blk (b:BL):Prop:=∀ c∈b,Z1 c=true
structure Sf {α:Type} (p:BL→Out α):Prop where
  suf:∀ {l a r},p l = .ok a r→r <:+l
  esuf:∀ {l e r},p l = .err e r→r <:+l∧(e=24↔r=[])
structure Pe (n:Nat) {α:Type} (p:BL→Out α):Prop where
  ext:∀ {x c r a},x.length<n→p (x++c::r) = .ok a (c::r)→∀ o,p (x++c::o) = .ok a (c::o)
  eext:∀ {x c r e},x.length<n→p (x++c::r) = .err e (c::r)→∀ o,p (x++c::o) = .err e (c::o)
  cutO:∀ {x c r a},x.length<n→p (x++c::r) = .ok a (c::r)→p x = .ok a []
  cutE:∀ {x c r e},x.length<n→p (x++c::r) = .err e (c::r)→fin (p x)
structure Pb (n:Nat) {α:Type} (s:Bool) (p:BL→Out α):Prop where
  bl:∀ {x b},x.length<n→x≠[]→p x = .err 24 []→Blk b→∃ e r,p (x++b) = .err e r∧r <:+b
  blo:∀ {x b a},x.length<n→x≠[]→p x = .ok a []→Blk b→∃ b',p (x++b) = .ok a b'∧b' <:+b∧(s=true→b'=b)
structure Bn {α:Type} (s:Bool) (p:BL→Out α):Prop where
  bl:∀ {b},p [] = .err 24 []→Blk b→∃ e r,p b = .err e r∧r <:+b
  blo:∀ {b a},p [] = .ok a []→Blk b→∃ b',p b = .ok a b'∧b' <:+b∧(s=true→b'=b)
structure St {α:Type} (k:Nat) (p:BL→Out α):Prop where
  len:∀ {l a r},p l = .ok a r→r.length+k≤l.length
theorem Blk.suf {b b':BL} (h:Blk b) (hs:b' <:+b):Blk b':=fun c hc=>h c (hs.subset hc)
theorem Blk.tail {c:UInt8} {b:BL} (h:Blk (c::b)):Blk b:=fun d hd=>h d (by simp [hd])
theorem Zba {c:UInt8} (h:Z1 c=true):c=32∨c=9∨c=10∨c=13:=by
  simpa [Z1,or_assoc] using h
theorem ZgT {P:UInt8→Bool}:∀ {l:BL},l.dropWhile P=[]↔∀ c∈l,P c=true
  | []=>by simp
  | d::l=>by
    by_cases hd:P d=true
    ·rw [List.dropWhile_cons_of_pos hd,ZgT (l:=l)]
     simp [hd]
    ·rw [List.dropWhile_cons_of_neg hd]
     simp [hd]
theorem Znx {b:BL} (h:Blk b):Z4 b=[]:=by
  unfold Z4
  rw [ZgT]
  exact h
theorem Zny {b l:BL} (h:Blk b):Z4 (b++l)=Z4 l:=by
  unfold Z4
  exact List.dropWhile_append_of_pos h
theorem ZjW {x l1 w:BL} (h1:w <:+l1) (h2:l1 <:+x++w):∃ z y,x=z++y∧l1=y++w:=by
  obtain ⟨y,rfl⟩:=h1
  obtain ⟨z,hz⟩:=h2
  refine ⟨z,y,?_,rfl⟩
  rw [← List.append_assoc] at hz
  exact (List.append_cancel_right hz).symm
theorem Sf.nil {α:Type} {p:BL→Out α} (h:Sf p):fin (p []):=by
  cases e:p [] with
  | ok a r=>have:=h.suf e;rw [List.suffix_nil] at this;subst this;exact .inl ⟨a,rfl⟩
  | err k r =>
    obtain ⟨a,b⟩:=h.esuf e
    rw [List.suffix_nil] at a
    subst a
    rw [b.2 rfl];exact .inr rfl
theorem Sf.st {α:Type} {p:BL→Out α} (h:Sf p):St 0 p:=⟨fun e=>(h.suf e).length_le⟩
theorem Pe.ok {n:Nat} {α:Type} {p:BL→Out α} (h:Pe n p) {z y w:BL} {a:α} (hz:z.length<n) (hy:y≠[]) (e:p (z++(y++w)) = .ok a (y++w)) (w':BL):p (z++(y++w')) = .ok a (y++w'):=by
  rcases y with _ | ⟨d,y⟩
  ·exact absurd rfl hy
  ·exact h.ext hz e (y++w')
section
variable {α β:Type} {p:BL→Out α} {f:α→BL→Out β}
theorem Sf.bind (hp:Sf p) (hf:∀ a,Sf (f a)):Sf fun l=>(p l).bind f where
  suf:=fun h=>by
    obtain ⟨a,l1,h1,h2⟩:=ZI h
    exact ((hf a).suf h2).trans (hp.suf h1)
  esuf:=fun {l e r} h=>by
    cases h1:p l with
    | ok a l1 =>
      rw [h1] at h
      exact ⟨((hf a).esuf h).1.trans (hp.suf h1),((hf a).esuf h).2⟩
    | err k q =>
      rw [h1] at h
      cases h
      exact hp.esuf h1
theorem St.bind {k m:Nat} (hp:St k p) (hf:∀ a,St m (f a)):St (k+m) fun l=>(p l).bind f:=⟨fun {l b r} h=>by
  obtain ⟨a,l1,h1,h2⟩:=ZI h
  have:=hp.len h1
  have:=(hf a).len h2
  omega⟩
theorem Pe.bind {m k:Nat} (hp:Pe (m+k) p) (hs:Sf p) (hk:St k p) (hf:∀ a,Pe m (f a)) (hg:∀ a,Sf (f a)):Pe (m+k) fun l=>(p l).bind f where
  ext:=fun {x c r b} hx h o=>by
    obtain ⟨a,l1,h1,h2⟩:=ZI h
    obtain ⟨z,y,rfl,rfl⟩:=ZjW ((hg a).suf h2) (hs.suf h1)
    have hl:=hk.len h1
    simp only [List.length_append,List.length_cons] at hl hx
    rcases y with _ | ⟨d,y⟩
    ·simp only [List.append_nil,List.nil_append] at h1 h2 ⊢
     rw [hp.ext (by omega) h1 o]
     exact (hf a).ext (x:=[]) (by simp at hx hl ⊢;omega) h2 o
    ·rw [List.append_assoc] at h1 ⊢
     rw [hp.ok (by omega) (by simp) h1 (c::o)]
     exact (hf a).ext (by simp at hx hl ⊢;omega) h2 o
  eext:=fun {x c r e} hx h o=>by
    cases h1:p (x++c::r) with
    | err k q=>rw [h1] at h;cases h;rw [hp.eext hx h1 o];rfl
    | ok a l1 =>
      rw [h1] at h
      have h2:f a l1 = .err e (c::r):=h
      obtain ⟨z,y,rfl,rfl⟩:=ZjW ((hg a).esuf h2).1 (hs.suf h1)
      have hl:=hk.len h1
      simp only [List.length_append,List.length_cons] at hl hx
      rcases y with _ | ⟨d,y⟩
      ·simp only [List.append_nil,List.nil_append] at h1 h2 ⊢
       rw [hp.ext (by omega) h1 o]
       exact (hf a).eext (x:=[]) (by simp at hx hl ⊢;omega) h2 o
      ·rw [List.append_assoc] at h1 ⊢
       rw [hp.ok (by omega) (by simp) h1 (c::o)]
       exact (hf a).eext (by simp at hx hl ⊢;omega) h2 o
  cutO:=fun {x c r b} hx h=>by
    obtain ⟨a,l1,h1,h2⟩:=ZI h
    obtain ⟨z,y,rfl,rfl⟩:=ZjW ((hg a).suf h2) (hs.suf h1)
    have hl:=hk.len h1
    simp only [List.length_append,List.length_cons] at hl hx
    rcases y with _ | ⟨d,y⟩
    ·simp only [List.append_nil,List.nil_append] at h1 h2 ⊢
     rw [hp.cutO (by omega) h1]
     exact (hf a).cutO (x:=[]) (by simp at hx hl ⊢;omega) h2
    ·rw [List.append_assoc] at h1
     have:=hp.ok (by omega) (by simp) h1 []
     rw [List.append_nil] at this
     rw [this]
     exact (hf a).cutO (by simp at hx hl ⊢;omega) h2
  cutE:=fun {x c r e} hx h=>by
    cases h1:p (x++c::r) with
    | err k q =>
      rw [h1] at h;cases h
      rcases hp.cutE hx h1 with ⟨a,ha⟩ | ha
      ·rw [ha];exact (hg a).nil
      ·rw [ha];exact .inr rfl
    | ok a l1 =>
      rw [h1] at h
      have h2:f a l1 = .err e (c::r):=h
      obtain ⟨z,y,rfl,rfl⟩:=ZjW ((hg a).esuf h2).1 (hs.suf h1)
      have hl:=hk.len h1
      simp only [List.length_append,List.length_cons] at hl hx
      rcases y with _ | ⟨d,y⟩
      ·simp only [List.append_nil,List.nil_append] at h1 h2 ⊢
       rw [hp.cutO (by omega) h1]
       exact (hg a).nil
      ·rw [List.append_assoc] at h1
       have:=hp.ok (by omega) (by simp) h1 []
       rw [List.append_nil] at this
       rw [this]
       exact (hf a).cutE (by simp at hx hl ⊢;omega) h2
theorem Bn.bind {s s':Bool} (hp:Bn s p) (hs:Sf p) (hf:∀ a,Bn s' (f a)):Bn (s&&s') fun l=>(p l).bind f where
  bl:=fun {b} h hb=>by
    rcases hs.nil with ⟨a,ha⟩ | ha
    ·rw [ha] at h
     obtain ⟨b',e,hb',_⟩:=hp.blo ha hb
     rw [e]
     obtain ⟨k,r,e2,h2⟩:=(hf a).bl h (hb.suf hb')
     exact ⟨k,r,e2,h2.trans hb'⟩
    ·obtain ⟨k,r,e2,h2⟩:=hp.bl ha hb
     rw [e2];exact ⟨k,r,rfl,h2⟩
  blo:=fun {b a'} h hb=>by
    rcases hs.nil with ⟨a,ha⟩ | ha
    ·rw [ha] at h
     obtain ⟨b',e,hb',f1⟩:=hp.blo ha hb
     rw [e]
     obtain ⟨b2,e2,h2,f2⟩:=(hf a).blo h (hb.suf hb')
     refine ⟨b2,e2,h2.trans hb',fun hh=>?_⟩
     simp only [Bool.and_eq_true] at hh
     rw [f2 hh.2,f1 hh.1]
    ·rw [ha] at h;cases h
theorem Pb.bind {m k:Nat} {s s':Bool} (he:Pe (m+k) p) (hp:Pb (m+k) s p) (hs:Sf p) (hk:St k p) (hf:∀ a,Pb m s' (f a)) (hn:∀ a,Bn s' (f a)):Pb (m+k) (s&&s') fun l=>(p l).bind f where
  bl:=fun {x b} hx hne h hb=>by
    cases h1:p x with
    | err e q =>
      rw [h1] at h;cases h
      obtain ⟨k,r,e2,h2⟩:=hp.bl hx hne h1 hb
      rw [e2];exact ⟨k,r,rfl,h2⟩
    | ok a l1 =>
      rw [h1] at h
      have h2:f a l1 = .err 24 []:=h
      have hl:=hk.len h1
      rcases l1 with _ | ⟨d,y⟩
      ·obtain ⟨b',e,hb',_⟩:=hp.blo hx hne h1 hb
       rw [e]
       obtain ⟨k,r,e2,h3⟩:=(hn a).bl h2 (hb.suf hb')
       exact ⟨k,r,e2,h3.trans hb'⟩
      ·obtain ⟨z,rfl⟩:=hs.suf h1
       simp only [List.length_append] at hx hl
       have:=he.ok (z:=z) (w:=[]) (y:=d::y) (by omega) (by simp) (by simpa using h1) b
       rw [List.append_assoc,this]
       exact (hf a).bl (x:=d::y) (by omega) (by simp) h2 hb
  blo:=fun {x b a'} hx hne h hb=>by
    cases h1:p x with
    | err e q=>rw [h1] at h;cases h
    | ok a l1 =>
      rw [h1] at h
      have h2:f a l1 = .ok a' []:=h
      have hl:=hk.len h1
      rcases l1 with _ | ⟨d,y⟩
      ·obtain ⟨b',e,hb',f1⟩:=hp.blo hx hne h1 hb
       rw [e]
       obtain ⟨b2,e2,h3,f2⟩:=(hn a).blo h2 (hb.suf hb')
       refine ⟨b2,e2,h3.trans hb',fun hh=>?_⟩
       simp only [Bool.and_eq_true] at hh
       rw [f2 hh.2,f1 hh.1]
      ·obtain ⟨z,rfl⟩:=hs.suf h1
       simp only [List.length_append] at hx hl
       have:=he.ok (z:=z) (w:=[]) (y:=d::y) (by omega) (by simp) (by simpa using h1) b
       rw [List.append_assoc,this]
       obtain ⟨b2,e2,h3,f2⟩:=(hf a).blo (x:=d::y) (by omega) (by simp) h2 hb
       exact ⟨b2,e2,h3,fun hh=>f2 (by simp only [Bool.and_eq_true] at hh;exact hh.2)⟩
end
def hdP {α:Type} (e0:Out α) (f:UInt8→BL→Out α):BL→Out α
  | []=>e0
  | c::l=>f c (c::l)
def tlP {α:Type} (g:BL→Out α):BL→Out α
  | []=> .err 24 []
  | _::l=>g l
def okP {α:Type} (a:α):BL→Out α:=fun l=> .ok a l
section
variable {α:Type} {n:Nat}
theorem ZoN {e0:Out α} {f:UInt8→BL→Out α} (h0:fin e0) (hf:∀ c,Sf (f c)):Sf (hdP e0 f) where
  suf:=fun {l a r} h=>by
    rcases l with _ | ⟨c,l⟩
    ·rcases h0 with ⟨b,h0⟩ | h0<;>(rw [show hdP e0 f []=e0 from rfl,h0] at h;cases h)
     exact List.suffix_refl _
    ·exact (hf c).suf h
  esuf:=fun {l a r} h=>by
    rcases l with _ | ⟨c,l⟩
    ·rcases h0 with ⟨b,h0⟩ | h0<;>(rw [show hdP e0 f []=e0 from rfl,h0] at h;cases h)
     simp
    ·exact (hf c).esuf h
theorem Zj3 {e0:Out α} {f:UInt8→BL→Out α} (h0:e0 = .err 24 []∨∃ a,e0 = .ok a []∧∀ c r b,f c (c::r) = .ok b (c::r)→b=a) (hz:(∀ c r b,f c (c::r) = .ok b (c::r)→e0≠ .err 24 [])) (hf:∀ c,Pe n (f c)):Pe n (hdP e0 f) where
  ext:=fun {x c r a} hx h o=>by
    rcases x with _ | ⟨d,x⟩
    ·exact (hf c).ext (x:=[]) hx h o
    ·exact (hf d).ext hx h o
  eext:=fun {x c r a} hx h o=>by
    rcases x with _ | ⟨d,x⟩
    ·exact (hf c).eext (x:=[]) hx h o
    ·exact (hf d).eext hx h o
  cutO:=fun {x c r a} hx h=>by
    rcases x with _ | ⟨d,x⟩
    ·rcases h0 with h0 | ⟨b,h0,h1⟩
     ·exact absurd h0 (hz c r a h)
     ·rw [show hdP e0 f []=e0 from rfl,h0,h1 c r a h]
    ·exact (hf d).cutO hx h
  cutE:=fun {x c r a} hx h=>by
    rcases x with _ | ⟨d,x⟩
    ·rcases h0 with h0 | ⟨b,h0,_⟩
     ·exact .inr h0
     ·exact .inl ⟨b,h0⟩
    ·exact (hf d).cutE hx h
theorem Zj4 {s:Bool} {e0:Out α} {f:UInt8→BL→Out α} (hf:∀ c,Pb n s (f c)):Pb n s (hdP e0 f) where
  bl:=fun {x b} hx hne h hb=>by
    rcases x with _ | ⟨d,x⟩
    ·exact absurd rfl hne
    ·exact (hf d).bl hx hne h hb
  blo:=fun {x b a} hx hne h hb=>by
    rcases x with _ | ⟨d,x⟩
    ·exact absurd rfl hne
    ·exact (hf d).blo hx hne h hb
theorem ZqY {s:Bool} {f:UInt8→BL→Out α} (hf:∀ c,Z1 c=true→∃ e,f c=YP e):Bn s (hdP (.err 24 []) f) where
  bl:=fun {b} _ hb=>by
    rcases b with _ | ⟨c,b⟩
    ·exact ⟨24,[],rfl,List.suffix_refl _⟩
    ·obtain ⟨e,he⟩:=hf c (hb c (by simp))
     exact ⟨e,c::b,by rw [show hdP (.err 24 []) f (c::b)=f c (c::b) from rfl,he];rfl,List.suffix_refl _⟩
  blo:=fun h=>by cases h
theorem Zpp {s:Bool} {a0:α} {f:UInt8→BL→Out α} (hf:∀ c,Z1 c=true→f c=okP a0):Bn s (hdP (.ok a0 []) f) where
  bl:=fun h=>by cases h
  blo:=fun {b a} h hb=>by
    cases h
    rcases b with _ | ⟨c,b⟩
    ·exact ⟨[],rfl,List.suffix_refl _,fun _=>rfl⟩
    ·exact ⟨c::b,by rw [show hdP (.ok a0 []) f (c::b)=f c (c::b) from rfl,hf c (hb c (by simp))];rfl,List.suffix_refl _,fun _=>rfl⟩
theorem Zfw {e0:Out α} {f:UInt8→BL→Out α} {k:Nat} (h0:∀ a r,e0 = .ok a r→r.length+k≤0) (hf:∀ c,St k (f c)):St k (hdP e0 f):=⟨fun {l a r} h=>by
  rcases l with _ | ⟨c,l⟩
  ·exact h0 a r h
  ·exact (hf c).len h⟩
theorem Zqv {g:BL→Out α} (hg:Sf g):Sf (tlP g) where
  suf:=fun {l a r} h=>by
    rcases l with _ | ⟨c,l⟩
    ·cases h
    ·exact Y1 (hg.suf h)
  esuf:=fun {l a r} h=>by
    rcases l with _ | ⟨c,l⟩
    ·cases h;simp
    ·exact ⟨Y1 (hg.esuf h).1,(hg.esuf h).2⟩
theorem Xb {g:BL→Out α} {k:Nat} (hg:St k g):St (k+1) (tlP g):=⟨fun {l a r} h=>by
  rcases l with _ | ⟨c,l⟩
  ·cases h
  ·have:=hg.len (l:=l) h;simp;omega⟩
theorem ZcZ {P:Prop} {c:UInt8} {r l:BL} (h:c::r <:+l) (hl:l.length≤r.length):P:=by
  have:=h.length_le;simp at this;omega
theorem Zgn {g:BL→Out α} (hs:Sf g) (hg:Pe n g):Pe (n+1) (tlP g) where
  ext:=fun {x c r a} hx h o=>by
    rcases x with _ | ⟨d,x⟩
    ·exact ZcZ (hs.suf (l:=r) h) (Nat.le_refl _)
    ·exact hg.ext (by simpa using hx) h o
  eext:=fun {x c r a} hx h o=>by
    rcases x with _ | ⟨d,x⟩
    ·exact ZcZ (hs.esuf (l:=r) h).1 (Nat.le_refl _)
    ·exact hg.eext (by simpa using hx) h o
  cutO:=fun {x c r a} hx h=>by
    rcases x with _ | ⟨d,x⟩
    ·exact ZcZ (hs.suf (l:=r) h) (Nat.le_refl _)
    ·exact hg.cutO (by simpa using hx) h
  cutE:=fun {x c r a} hx h=>by
    rcases x with _ | ⟨d,x⟩
    ·exact ZcZ (hs.esuf (l:=r) h).1 (Nat.le_refl _)
    ·exact hg.cutE (by simpa using hx) h
theorem Zgo {s:Bool} {g:BL→Out α} (hg:Pb n s g) (hn:Bn s g):Pb (n+1) s (tlP g) where
  bl:=fun {x b} hx hne h hb=>by
    rcases x with _ | ⟨d,_ | ⟨d2,x⟩⟩
    ·exact absurd rfl hne
    ·exact hn.bl h hb
    ·exact hg.bl (x:=d2::x) (by simpa using hx) (by simp) h hb
  blo:=fun {x b a} hx hne h hb=>by
    rcases x with _ | ⟨d,_ | ⟨d2,x⟩⟩
    ·exact absurd rfl hne
    ·exact hn.blo h hb
    ·exact hg.blo (x:=d2::x) (by simpa using hx) (by simp) h hb
theorem Zl9 (a:α):Sf (okP a):=⟨fun h=>by cases h;exact List.suffix_refl _,fun h=>by cases h⟩
theorem Zma (a:α):Pe n (okP a) where
  ext:=fun {x c r b} _ h o=>by
    cases x with
    | nil=>cases h;rfl
    | cons d x=>injection h with h1 h2;have:=congrArg List.length h2;simp at this;omega
  eext:=fun _ h=>by cases h
  cutO:=fun {x c r b} _ h=>by
    cases x with
    | nil=>cases h;rfl
    | cons d x=>injection h with h1 h2;have:=congrArg List.length h2;simp at this;omega
  cutE:=fun _ h=>by cases h
theorem Zmb (s:Bool) (a:α):Pb n s (okP a) where
  bl:=fun _ _ h=>by cases h
  blo:=fun {x b a'} _ hne h=>by injection h with h1 h2;exact absurd h2 hne
theorem Zmc (s:Bool) (a:α):Bn s (okP a) where
  bl:=fun h=>by cases h
  blo:=fun {b a'} h _=>by cases h;exact ⟨b,rfl,List.suffix_refl _,fun _=>rfl⟩
theorem Zcd (a:α):St 0 (okP a):=⟨fun h=>by cases h;exact Nat.le_refl _⟩
theorem Zn8 {e:Nat} (he:e≠24):Sf (YP e:BL→Out α) where
  suf:=fun {l a r} h=>by cases l<;>cases h
  esuf:=fun {l a r} h=>by
    cases l with
    | nil=>cases h;simp
    | cons c l=>cases h;simp [he]
theorem ZhI {e:Nat}:Pe n (YP e:BL→Out α) where
  ext:=fun {x c r a} _ h=>by cases x<;>cases h
  eext:=fun {x c r a} _ h o=>by
    cases x with
    | nil=>cases h;rfl
    | cons d x=>injection h with h1 h2;have:=congrArg List.length h2;simp at this;omega
  cutO:=fun {x c r a} _ h=>by cases x<;>cases h
  cutE:=fun {x c r a} _ h=>by
    cases x with
    | nil=>exact .inr rfl
    | cons d x=>injection h with h1 h2;have:=congrArg List.length h2;simp at this;omega
theorem ZhJ {s:Bool} {e:Nat} (he:e≠24):Pb n s (YP e:BL→Out α) where
  bl:=fun {x b} _ hne h=>by
    cases x with
    | nil=>exact absurd rfl hne
    | cons d x=>injection h with h1 h2;exact absurd h1 he
  blo:=fun {x b a} _ hne h=>by cases x<;>cases h
theorem YU {k:Nat} {e:Nat}:St k (YP e:BL→Out α):=⟨fun {l a r} h=>by cases l<;>cases h⟩
end
def XZ (P:UInt8→Bool):BL→Out Unit:=fun l=> .ok () (l.dropWhile P)
theorem ZhN (P:UInt8→Bool):Sf (XZ P):=⟨fun h=>by cases h;exact List.dropWhile_suffix _,fun h=>by cases h⟩
theorem ZdS (P:UInt8→Bool):St 0 (XZ P):=(ZhN P).st
theorem Zkf {P:UInt8→Bool} {x w:BL} (h:(x++w).dropWhile P=w):∀ c∈x,P c=true:=by
  induction x with
  | nil=>intro c hc;cases hc
  | cons d x ih =>
    by_cases hd:P d=true
    ·rw [List.cons_append,List.dropWhile_cons_of_pos hd] at h
     intro c hc
     rcases List.mem_cons.1 hc with rfl | hc
     ·exact hd
     ·exact ih h c hc
    ·rw [List.cons_append,List.dropWhile_cons_of_neg hd] at h
     have:=congrArg List.length h
     simp at this
     omega
theorem Zkg {n:Nat} (P:UInt8→Bool):Pe n (XZ P) where
  ext:=fun {x c r a} _ h o=>by
    injection h with _ h
    have hx:=Zkf h
    rw [List.dropWhile_append_of_pos hx] at h
    have hc:¬ P c=true:=by
      intro hc
      rw [List.dropWhile_cons_of_pos hc] at h
      have:=(List.dropWhile_suffix (l:=r) P).length_le
      rw [h] at this;simp at this;omega
    unfold XZ
    rw [List.dropWhile_append_of_pos hx,List.dropWhile_cons_of_neg hc]
  eext:=fun _ h=>by cases h
  cutO:=fun {x c r a} _ h=>by
    injection h with _ h
    unfold XZ
    rw [ZgT.2 (Zkf h)]
  cutE:=fun _ h=>by cases h
theorem Zof {n:Nat} (P:UInt8→Bool):Pb n false (XZ P) where
  bl:=fun _ _ h=>by cases h
  blo:=fun {x b a} _ _ h _=>by
    injection h with _ h
    refine ⟨b.dropWhile P,?_,List.dropWhile_suffix _,fun h=>by cases h⟩
    unfold XZ
    rw [List.dropWhile_append_of_pos (ZgT.1 h)]
theorem Zog (P:UInt8→Bool):Bn false (XZ P) where
  bl:=fun h=>by cases h
  blo:=fun {b a} h _=>⟨b.dropWhile P,rfl,List.dropWhile_suffix _,fun h=>by cases h⟩
theorem ZmL {n:Nat}:Pb n true (XZ Xu) where
  bl:=fun _ _ h=>by cases h
  blo:=fun {x b a} _ _ h hb=>by
    injection h with _ h
    refine ⟨b,?_,List.suffix_refl _,fun _=>rfl⟩
    unfold XZ
    rw [List.dropWhile_append_of_pos (ZgT.1 h)]
    rcases b with _ | ⟨c,b⟩
    ·rfl
    ·rw [List.dropWhile_cons_of_neg]
     rcases Zba (hb c (by simp)) with rfl | rfl | rfl | rfl<;>decide
theorem ZmM:Bn true (XZ Xu) where
  bl:=fun h=>by cases h
  blo:=fun {b a} h hb=>by
    refine ⟨b,?_,List.suffix_refl _,fun _=>rfl⟩
    unfold XZ
    rcases b with _ | ⟨c,b⟩
    ·rfl
    ·rw [List.dropWhile_cons_of_neg]
     rcases Zba (hb c (by simp)) with rfl | rfl | rfl | rfl<;>decide
def ZbE {α:Type} (p:BL→Out α):BL→Out BL:=fun l=>(p l).bind fun _ r=> .ok (ZfY l r) r
theorem XI (x r:BL):ZfY (x++r) r=x:=by unfold ZfY;simp
theorem ZcD {α:Type} {p:BL→Out α} {l r t:BL} (h:ZbE p l = .ok t r):(∃ a,p l = .ok a r)∧t=ZfY l r:=by
  obtain ⟨a,l1,h1,h2⟩:=ZI h
  cases h2
  exact ⟨⟨a,h1⟩,rfl⟩
theorem Zc0 {α:Type} {p:BL→Out α} {l r:BL} {e:Nat} (h:ZbE p l = .err e r):p l = .err e r:=by
  unfold ZbE at h
  cases h1:p l with
  | ok a l1=>rw [h1] at h;cases h
  | err k q=>rw [h1] at h;cases h;rfl
theorem Zjk {α:Type} {p:BL→Out α} (hp:Sf p):Sf (ZbE p) :=
  ⟨fun h=>by obtain ⟨⟨a,h1⟩,_⟩:=ZcD h;exact hp.suf h1,fun h=>hp.esuf (Zc0 h)⟩
theorem ZhE {α:Type} {k:Nat} {p:BL→Out α} (hp:St k p):St k (ZbE p):=⟨fun h=>by obtain ⟨⟨a,h1⟩,_⟩:=ZcD h;exact hp.len h1⟩
theorem Zjl {α:Type} {n:Nat} {p:BL→Out α} (hp:Pe n p):Pe n (ZbE p) where
  ext:=fun {x c r t} hx h o=>by
    obtain ⟨⟨a,h1⟩,rfl⟩:=ZcD h
    unfold ZbE
    rw [hp.ext hx h1 o,Out.bind_ok,XI,XI]
  eext:=fun {x c r e} hx h o=>by
    unfold ZbE
    rw [hp.eext hx (Zc0 h) o];rfl
  cutO:=fun {x c r t} hx h=>by
    obtain ⟨⟨a,h1⟩,rfl⟩:=ZcD h
    unfold ZbE
    rw [hp.cutO hx h1,Out.bind_ok,XI]
    congr 1
    have:=XI x []
    rwa [List.append_nil] at this
  cutE:=fun {x c r e} hx h=>by
    unfold ZbE
    rcases hp.cutE hx (Zc0 h) with ⟨a,h1⟩ | h1
    ·rw [h1];exact .inl ⟨_,rfl⟩
    ·rw [h1];exact .inr rfl
theorem Zmz {α:Type} {n:Nat} {p:BL→Out α} (hp:Pb n true p):Pb n true (ZbE p) where
  bl:=fun {x b} hx hne h hb=>by
    obtain ⟨e,r,h1,h2⟩:=hp.bl hx hne (Zc0 h) hb
    exact ⟨e,r,by unfold ZbE;rw [h1];rfl,h2⟩
  blo:=fun {x b t} hx hne h hb=>by
    obtain ⟨⟨a,h1⟩,rfl⟩:=ZcD h
    obtain ⟨b',h2,h3,h4⟩:=hp.blo hx hne h1 hb
    have:=h4 rfl
    subst this
    refine ⟨b',?_,h3,h4⟩
    unfold ZbE
    rw [h2,Out.bind_ok,XI]
    have:=XI x []
    rw [List.append_nil] at this
    rw [this]
theorem Zps {α:Type} {p:BL→Out α} (hp:Bn true p):Bn true (ZbE p) where
  bl:=fun {b} h hb=>by
    obtain ⟨e,r,h1,h2⟩:=hp.bl (Zc0 h) hb
    exact ⟨e,r,by unfold ZbE;rw [h1];rfl,h2⟩
  blo:=fun {b t} h hb=>by
    obtain ⟨⟨a,h1⟩,rfl⟩:=ZcD h
    obtain ⟨b',h2,h3,h4⟩:=hp.blo h1 hb
    have:=h4 rfl
    subst this
    refine ⟨b',?_,h3,h4⟩
    unfold ZbE
    rw [h2,Out.bind_ok]
    simp [ZfY]
structure Hf {α:Type} (s:Bool) (p:BL→Out α):Prop where
  sf:Sf p
  pe:∀ n,Pe n p
  pb:∀ n,Pb n s p
structure Good {α:Type} (s:Bool) (p:BL→Out α):Prop extends Hf s p where
  bn:Bn s p
section
variable {α β:Type}
theorem Pe.mono {m n:Nat} {p:BL→Out α} (h:Pe n p) (hm:m≤n):Pe m p :=
  ⟨fun hx=>h.ext (by omega),fun hx=>h.eext (by omega),fun hx=>h.cutO (by omega),fun hx=>h.cutE (by omega)⟩
theorem Pb.mono {m n:Nat} {s:Bool} {p:BL→Out α} (h:Pb n s p) (hm:m≤n):Pb m s p :=
  ⟨fun hx=>h.bl (by omega),fun hx=>h.blo (by omega)⟩
theorem Good.tl {s:Bool} {g:BL→Out α} (h:Good s g):Hf s (tlP g) :=
  ⟨Zqv h.sf,fun n=>(Zgn h.sf (h.pe n)).mono (Nat.le_succ n),fun n=>(Zgo (h.pb n) h.bn).mono (Nat.le_succ n)⟩
theorem Good.okP (s:Bool) (a:α):Good s (Js.okP a):=⟨⟨Zl9 a,fun _=>Zma a,fun _=>Zmb s a⟩,Zmc s a⟩
theorem Hf.fail {s:Bool} {e:Nat} (he:e≠24):Hf s (YP e:BL→Out α):=⟨Zn8 he,fun _=>ZhI,fun _=>ZhJ he⟩
theorem Hf.ite {s:Bool} {c:Prop} [Decidable c] {p q:BL→Out α} (hp:Hf s p) (hq:Hf s q):Hf s (if c then p else q):=by split<;>assumption
theorem St.ite {k:Nat} {c:Prop} [Decidable c] {p q:BL→Out α} (hp:St k p) (hq:St k q):St k (if c then p else q):=by split<;>assumption
theorem St.mono {k m:Nat} {p:BL→Out α} (h:St k p) (hm:m≤k):St m p:=⟨fun e=>by have:=h.len e;omega⟩
theorem Znv {p:BL→Out α} (h:St 1 p) {l r:BL} {a:α} (e:p l = .ok a r) (hl:l.length≤r.length) {P:Prop}:P:=by have:=h.len e;omega
theorem Hf.hd {s:Bool} {f:UInt8→BL→Out α} (hf:∀ c,Hf s (f c)) (hs:∀ c,St 1 (f c)):Hf s (hdP (.err 24 []) f) :=
  ⟨ZoN (.inr rfl) fun c=>(hf c).sf,fun n=>Zj3 (.inl rfl) (fun c r b h=>Znv (hs c) h (Nat.le_refl _)) fun c=>(hf c).pe n,fun n=>Zj4 fun c=>(hf c).pb n⟩
theorem Hf.hdO {s:Bool} {a0:α} {f:UInt8→BL→Out α} (hf:∀ c,Hf s (f c)) (hs:∀ c,St 1 (f c)∨f c=Js.okP a0):Hf s (hdP (.ok a0 []) f):=by
  refine ⟨ZoN (.inl ⟨a0,rfl⟩) fun c=>(hf c).sf,fun n=>Zj3 (.inr ⟨a0,rfl,fun c r b h=>?_⟩) (fun c r b h h2=>by cases h2) fun c=>(hf c).pe n,fun n=>Zj4 fun c=>(hf c).pb n⟩
  rcases hs c with h1 | h1
  ·exact Znv h1 h (Nat.le_refl _)
  ·rw [h1] at h;cases h;rfl
theorem Good.hd {s:Bool} {f:UInt8→BL→Out α} (hf:∀ c,Hf s (f c)) (hs:∀ c,St 1 (f c)) (hb:∀ c,Z1 c=true→∃ e,f c=YP e):Good s (hdP (.err 24 []) f):=⟨Hf.hd hf hs,ZqY hb⟩
theorem Good.hdO {s:Bool} {a0:α} {f:UInt8→BL→Out α} (hf:∀ c,Hf s (f c)) (hs:∀ c,St 1 (f c)∨f c=Js.okP a0) (hb:∀ c,Z1 c=true→f c=Js.okP a0):Good s (hdP (.ok a0 []) f):=⟨Hf.hdO hf hs,Zpp hb⟩
theorem Hf.bind {s s':Bool} {p:BL→Out α} {f:α→BL→Out β} (hp:Hf s p) (hf:∀ a,Good s' (f a)):Hf (s&&s') fun l=>(p l).bind f :=
  ⟨hp.sf.bind fun a=>(hf a).sf,fun n=>Pe.bind (m:=n) (k:=0) (hp.pe n) hp.sf hp.sf.st (fun a=>(hf a).pe n) fun a=>(hf a).sf,
   fun n=>Pb.bind (m:=n) (k:=0) (hp.pe n) (hp.pb n) hp.sf hp.sf.st (fun a=>(hf a).pb n) fun a=>(hf a).bn⟩
theorem Good.bind {s s':Bool} {p:BL→Out α} {f:α→BL→Out β} (hp:Good s p) (hf:∀ a,Good s' (f a)):Good (s&&s') fun l=>(p l).bind f :=
  ⟨hp.toHf.bind hf,hp.bn.bind hp.sf fun a=>(hf a).bn⟩
theorem Good.got {p:BL→Out α} (h:Good true p):Good true (ZbE p):=⟨⟨Zjk h.sf,fun n=>Zjl (h.pe n),fun n=>Zmz (h.pb n)⟩,Zps h.bn⟩
end
theorem ZaZ:Good false (XZ Z1):=⟨⟨ZhN _,fun _=>Zkg _,fun _=>Zof _⟩,Zog _⟩
theorem Zoh:Good true (XZ Xu):=⟨⟨ZhN _,fun _=>Zkg _,fun _=>ZmL⟩,ZmM⟩
theorem Zeh:Z3=hdP (.err 24 []) fun c=>if Xu c then tlP (XZ Xu) else YP 21:=by
  funext l
  rcases l with _ | ⟨c,l⟩
  ·rfl
  ·dsimp only [Z3,hdP]
   split<;>rfl
theorem ZfI:St 1 Z3:=by
  rw [Zeh]
  exact Zfw (fun a r h=>by cases h) fun c=>St.ite (Xb (ZdS _)) YU
theorem Zb3:Good true Z3:=by
  rw [Zeh]
  refine Good.hd (fun c=>Hf.ite Zoh.tl (Hf.fail (by decide))) (fun c=>St.ite (Xb (ZdS _)) YU) fun c hc=>⟨21,?_⟩
  rcases Zba hc with rfl | rfl | rfl | rfl<;>rfl
def ZqJ:BL→Out Unit:=fun l=> .ok () (Zah l)
theorem Zph:ZqJ=hdP (.ok () []) fun c=>if c=45 then tlP (okP ()) else okP ():=by
  funext l
  rcases l with _ | ⟨c,l⟩
  ·rfl
  ·dsimp only [ZqJ,Zah,hdP]
   split<;>rfl
theorem ZjV:Good true ZqJ:=by
  rw [Zph]
  refine Good.hdO (fun c=>Hf.ite (Good.okP _ _).tl (Good.okP _ _).toHf) (fun c=>?_) fun c hc=>?_
  ·by_cases h:c=45
   ·left;rw [if_pos h];exact Xb (Zcd _)
   ·right;rw [if_neg h]
  ·rcases Zba hc with rfl | rfl | rfl | rfl<;>rfl
def ZqA:BL→Out Unit:=fun l=> .ok () (Zd1 l)
theorem Zo7:ZqA=hdP (.ok () []) fun c=>if c=43∨c=45 then tlP (okP ()) else okP ():=by
  funext l
  rcases l with _ | ⟨c,l⟩
  ·rfl
  ·dsimp only [ZqA,Zd1,hdP]
   split<;>rfl
theorem ZjJ:Good true ZqA:=by
  rw [Zo7]
  refine Good.hdO (fun c=>Hf.ite (Good.okP _ _).tl (Good.okP _ _).toHf) (fun c=>?_) fun c hc=>?_
  ·by_cases h:c=43∨c=45
   ·left;rw [if_pos h];exact Xb (Zcd _)
   ·right;rw [if_neg h]
  ·rcases Zba hc with rfl | rfl | rfl | rfl<;>rfl
theorem ZgD:Xx=hdP (.ok () []) fun c=>if Xu c then YP 21 else okP ():=by
  funext l
  rcases l with _ | ⟨c,l⟩
  ·rfl
  ·dsimp only [Xx,hdP]
   split<;>rfl
theorem Zdn:Good true Xx:=by
  rw [ZgD]
  refine Good.hdO (fun c=>Hf.ite (Hf.fail (by decide)) (Good.okP _ _).toHf) (fun c=>?_) fun c hc=>?_
  ·by_cases h:Xu c=true
   ·left;rw [if_pos h];exact YU
   ·right;rw [if_neg h]
  ·rcases Zba hc with rfl | rfl | rfl | rfl<;>rfl
theorem Zji:Zez=hdP (.err 24 []) fun c=>if c=48 then tlP Xx else Z3:=by
  funext l
  rcases l with _ | ⟨c,l⟩
  ·rfl
  ·dsimp only [Zez,hdP]
   split<;>rfl
theorem ZqW:St 1 Zez:=by
  rw [Zji]
  exact Zfw (fun a r h=>by cases h) fun c=>St.ite (Xb Zdn.sf.st) ZfI
theorem ZqX:Hf true Zez:=by
  rw [Zji]
  exact Hf.hd (fun c=>Hf.ite Zdn.tl Zb3.toHf) fun c=>St.ite (Xb Zdn.sf.st) ZfI
theorem ZnY:Good true Zez:=by
  refine ⟨ZqX,fun {b} _ hb=>?_,fun {b a} h=>by cases h⟩
  rcases b with _ | ⟨c,b⟩
  ·exact ⟨24,[],rfl,List.suffix_refl _⟩
  ·refine ⟨21,c::b,?_,List.suffix_refl _⟩
   rcases Zba (hb c (by simp)) with rfl | rfl | rfl | rfl<;>rfl
theorem Zj8:ZcL=hdP (.ok () []) fun c=>if c=46 then tlP Z3 else okP ():=by
  funext l
  rcases l with _ | ⟨c,l⟩
  ·rfl
  ·dsimp only [ZcL,hdP]
   split<;>rfl
theorem Zix:Good true ZcL:=by
  rw [Zj8]
  refine Good.hdO (fun c=>Hf.ite Zb3.tl (Good.okP _ _).toHf) (fun c=>?_) fun c hc=>?_
  ·by_cases h:c=46
   ·left;rw [if_pos h];exact St.mono (Xb ZfI) (by omega)
   ·right;rw [if_neg h]
  ·rcases Zba hc with rfl | rfl | rfl | rfl<;>rfl
theorem ZmI:ZeM=hdP (.ok () []) fun c=>if c=101∨c=69 then tlP (fun l=>(ZqA l).bind fun _=>Z3) else okP ():=by
  funext l
  rcases l with _ | ⟨c,l⟩
  ·rfl
  ·dsimp only [ZeM,hdP]
   split<;>rfl
theorem Zkc:Good true ZeM:=by
  rw [ZmI]
  refine Good.hdO (fun c=>Hf.ite (ZjJ.bind fun _=>Zb3).tl (Good.okP _ _).toHf) (fun c=>?_) fun c hc=>?_
  ·by_cases h:c=101∨c=69
   ·left;rw [if_pos h];exact Xb (k:=0) (ZjJ.bind fun _=>Zb3).sf.st
   ·right;rw [if_neg h]
  ·rcases Zba hc with rfl | rfl | rfl | rfl<;>rfl
theorem Zja:ZcX=fun l=>(ZqJ l).bind fun _ l=>(Zez l).bind fun _ l=>(ZcL l).bind fun _=>ZeM:=rfl
theorem ZeJ:Good true ZcX:=by
  rw [Zja]
  exact ZjV.bind fun _=>ZnY.bind fun _=>Zix.bind fun _=>Zkc
theorem ZoC:St 1 ZcX:=by
  rw [Zja]
  exact St.mono (St.bind (k:=0) (m:=1) ZjV.sf.st fun _=>St.bind (k:=1) (m:=0) ZqW fun _=>(Zix.bind fun _=>Zkc).sf.st) (by omega)
theorem ZjC (c:UInt8) (w:BL):Zbb (c::w)=hdP (.err 24 []) fun d=>if d=c then tlP (Zbb w) else YP 20:=by
  funext l
  rcases l with _ | ⟨d,l⟩
  ·rfl
  ·dsimp only [Zbb,hdP]
   split<;>rfl
theorem ZaV:∀ (w:BL),(∀ c∈w,Z1 c=false)→Good true (Zbb w)∧St w.length (Zbb w)
  | [],_=>⟨Good.okP true (),Zcd ()⟩
  | c::w,h=>by
    obtain ⟨a,b⟩:=ZaV w fun d hd=>h d (by simp [hd])
    rw [ZjC]
    refine ⟨Good.hd (fun d=>Hf.ite a.tl (Hf.fail (by decide))) (fun d=>St.ite (St.mono (Xb b) (by omega)) YU) fun d hd=>⟨20,?_⟩,Zfw (fun a r h=>by cases h) fun d=>St.ite (Xb b) YU⟩
    rw [if_neg]
    intro e
    rw [e,h c (by simp)] at hd
    cases hd
theorem Zmx (k n:Nat):Zc7 (k+1) n=hdP (.err 24 []) fun c=>match ZeA c with
    | some d=>tlP (Zc7 k (n*16+d))
    | none=>YP 22:=by
  funext l
  rcases l with _ | ⟨c,l⟩
  ·rfl
  ·dsimp only [Zc7,hdP]
   cases ZeA c<;>rfl
theorem ZhB:∀ (k n:Nat),Good true (Zc7 k n)∧St k (Zc7 k n)
  | 0,n=>⟨Good.okP true n,Zcd n⟩
  | k+1,n=>by
    rw [Zmx]
    have ih:=fun m=>ZhB k m
    refine ⟨Good.hd (fun c=>?_) (fun c=>?_) fun c hc=>⟨22,?_⟩,Zfw (fun a r h=>by cases h) fun c=>?_⟩
    ·cases ZeA c with
     | some d=>exact (ih _).1.tl
     | none=>exact Hf.fail (by decide)
    ·cases ZeA c with
     | some d=>exact St.mono (Xb (ih _).2) (by omega)
     | none=>exact YU
    ·rcases Zba hc with rfl | rfl | rfl | rfl<;>rfl
    ·cases ZeA c with
     | some d=>exact Xb (ih _).2
     | none=>exact YU
theorem ZlI:Zgm=hdP (.err 24 []) fun c=>match ZaM c with
    | some m=>tlP (okP (.ch m))
    | none=>if c=117 then tlP (fun l=>(Zc7 4 0 l).bind fun n=>okP (.uni n)) else YP 22:=by
  funext l
  rcases l with _ | ⟨c,l⟩
  ·rfl
  ·dsimp only [Zgm,hdP]
   cases ZaM c with
   | some m=>rfl
   | none=>dsimp only;split<;>rfl
theorem Xr:Good true Zgm:=by
  rw [ZlI]
  refine Good.hd (fun c=>?_) (fun c=>?_) fun c hc=>⟨22,?_⟩
  ·cases ZaM c with
   | some m=>exact (Good.okP _ _).tl
   | none=>exact Hf.ite ((ZhB 4 0).1.bind fun _=>Good.okP true _).tl (Hf.fail (by decide))
  ·cases ZaM c with
   | some m=>exact Xb (Zcd _)
   | none=>exact St.ite ((Xb (k:=0) ((ZhB 4 0).1.bind (s':=true) fun _=>Good.okP true _).sf.st)) YU
  ·rcases Zba hc with rfl | rfl | rfl | rfl<;>rfl
theorem Zki (n lo hi:Nat):ZaG (n+1) lo hi=hdP (.err 24 []) fun d=>if lo≤d.toNat∧d.toNat≤hi then tlP (ZaG n 128 191) else YP 22:=by
  funext l
  rcases l with _ | ⟨c,l⟩
  ·rfl
  ·dsimp only [ZaG,hdP]
   split<;>rfl
theorem ZfK:∀ (n lo hi:Nat),128≤lo→Good true (ZaG n lo hi)
  | 0,_,_,_=>Good.okP true ()
  | n+1,lo,hi,h=>by
    rw [Zki]
    refine Good.hd (fun c=>Hf.ite (ZfK n 128 191 (Nat.le_refl _)).tl (Hf.fail (by decide))) (fun c=>St.ite (Xb (k:=0) (ZfK n 128 191 (Nat.le_refl _)).sf.st) YU) fun c hc=>⟨22,?_⟩
    rw [if_neg]
    rcases Zba hc with rfl | rfl | rfl | rfl<;>(intro hh;have:=hh.1;simp at this;omega)
theorem ZjK:Xh=hdP (.err 24 []) fun c=>if nRb c=0 then YP 22 else tlP (ZaG (nRb c - 1) (loR c) (hiR c)):=by
  funext l
  rcases l with _ | ⟨c,l⟩
  ·rfl
  ·dsimp only [Xh,hdP]
   split<;>rfl
theorem Zpm:∀ b:Fin 256,2≤nRb ⟨⟨b⟩⟩→128≤loR ⟨⟨b⟩⟩:=by decide +kernel
theorem Zml:∀ c:UInt8,2≤nRb c→128≤loR c:=fun ⟨⟨b⟩⟩=>Zpm b
theorem ZbM:Hf true Xh∧St 1 Xh:=by
  rw [ZjK]
  have key:∀ c,Good true (ZaG (nRb c - 1) (loR c) (hiR c)):=fun c=>by
    by_cases h:2≤nRb c
    ·exact ZfK _ _ _ (Zml c h)
    ·rw [show nRb c - 1=0 by omega];exact Good.okP true ()
  have st:∀ c,St 1 (if nRb c=0 then YP 22 else tlP (ZaG (nRb c - 1) (loR c) (hiR c))):=fun c=>St.ite YU (Xb (k:=0) (key c).sf.st)
  exact ⟨Hf.hd (fun c=>Hf.ite (Hf.fail (by decide)) (key c).tl) st,Zfw (fun a r h=>by cases h) st⟩
def T (p:Option Nat) (out:BL):BL→Out BL:=fun l=>XY (l.length+1) p out l
def tF (p:Option Nat) (out:BL) (c:UInt8):BL→Out BL :=
  if c.toNat<32 then YP 22
  else if c=34 then tlP (okP (out++flB p))
  else if c=92 then tlP fun l=>(Zgm l).bind fun t=>T (Zgl p out t).1 (Zgl p out t).2
  else if c.toNat<128 then tlP (T none (out++flB p++[c]))
  else fun l=>(ZbE Xh l).bind fun o=>T none (out++flB p++o)
theorem Zm8 {n:Nat} {p:Option Nat} {out l:BL} (h:l.length<n):XY n p out l=T p out l:=ZaR _ _ _ _ _ h (Nat.lt_succ_self _)
theorem ZpU (p:Option Nat) (out:BL):T p out=hdP (.err 24 []) (tF p out):=by
  funext l
  rcases l with _ | ⟨c,l⟩
  ·rfl
  ·show XY ((c::l).length+1) p out (c::l)=tF p out c (c::l)
   unfold XY tF
   split
   ·rfl
   split
   ·rfl
   split
   ·show _=(Zgm l).bind _
    cases h:Zgm l with
    | err e r=>rfl
    | ok t r=>exact Zm8 (by have:=(ZdB h).1;simp;omega)
   split
   ·exact Zm8 (by simp)
   ·show _=(ZbE Xh (c::l)).bind _
    unfold ZbE
    cases h:Xh (c::l) with
    | err e r=>rfl
    | ok t r=>exact Zm8 (by have:=(Za1 h).1;simp at this ⊢;omega)
theorem ZeG:∀ (n:Nat) (p:Option Nat) (out l:BL),l.length<n→(∀ a r,XY n p out l = .ok a r→r <:+l∧r.length<l.length)∧∀ e r,XY n p out l = .err e r→r <:+l∧(e=24↔r=[])
  | 0,_,_,_,h=>by omega
  | n+1,p,out,[],_=>⟨fun a r h=>(by cases h),fun e r h=>by cases h;simp⟩
  | n+1,p,out,c::l,h=>by
    simp only [List.length_cons] at h
    have up:∀ {r q:BL},r.length<(c::l).length→r <:+c::l→∀ {p':Option Nat} {out':BL},(∀ a q,XY n p' out' r = .ok a q→q <:+c::l∧q.length<(c::l).length)∧∀ e q,XY n p' out' r = .err e q→q <:+c::l∧(e=24↔q=[]):=fun {r q} hr hs {p' out'}=>by
      obtain ⟨a,b⟩:=ZeG n p' out' r (by simp at hr;omega)
      exact ⟨fun x q hq=>⟨(a x q hq).1.trans hs,Nat.lt_trans (a x q hq).2 hr⟩,fun e q hq=>⟨(b e q hq).1.trans hs,(b e q hq).2⟩⟩
    unfold XY
    split
    ·exact ⟨fun a r h=>(by cases h),fun e r h=>by cases h;simp⟩
    split
    ·exact ⟨fun a r h=>by cases h;exact ⟨List.suffix_cons _ _,by simp⟩,fun e r h=>by cases h⟩
    split
    ·cases ht:Zgm l with
     | err e r=>exact ⟨fun a q h=>(by cases h),fun e q h=>by cases h;exact ⟨Y1 (Xr.sf.esuf ht).1,(Xr.sf.esuf ht).2⟩⟩
     | ok t r=>exact up (q:=[]) (by have:=(ZdB ht).1;simp;omega) (Y1 (ZdB ht).2)
    split
    ·exact up (q:=[]) (by simp) (List.suffix_cons _ _)
    ·cases ht:Xh (c::l) with
     | err e r=>exact ⟨fun a q h=>(by cases h),fun e q h=>by cases h;exact ZbM.1.sf.esuf ht⟩
     | ok t r=>exact up (q:=[]) (Za1 ht).1 (Za1 ht).2
theorem Zq9 (p:Option Nat) (out:BL):Sf (T p out):=⟨fun h=>((ZeG _ p out _ (Nat.lt_succ_self _)).1 _ _ h).1,fun h=>(ZeG _ p out _ (Nat.lt_succ_self _)).2 _ _ h⟩
theorem Zrk (p:Option Nat) (out:BL):St 1 (T p out):=⟨fun h=>((ZeG _ p out _ (Nat.lt_succ_self _)).1 _ _ h).2⟩
theorem Zr3 (p:Option Nat) (out:BL) (c:UInt8):St 1 (tF p out c):=by
  unfold tF
  refine St.ite YU (St.ite (Xb (Zcd _)) (St.ite (Xb (k:=0) ?_) (St.ite (St.mono (Xb (Zrk _ _)) (by omega)) ?_)))
  ·exact St.mono (m:=0) (St.bind (k:=0) (m:=1) Xr.sf.st fun t=>Zrk _ _) (by omega)
  ·exact St.mono (m:=1) (St.bind (k:=1) (m:=1) (ZhE ZbM.2) fun t=>Zrk _ _) (by omega)
theorem Zm9:∀ (b:BL) (p:Option Nat) (out:BL),Blk b→∃ e r,T p out b = .err e r∧r <:+b
  | [],p,out,_=>⟨24,[],rfl,List.suffix_refl _⟩
  | c::b,p,out,h=>by
    rw [ZpU]
    show ∃ e r,tF p out c (c::b)=_∧_
    rcases Zba (h c (by simp)) with rfl | rfl | rfl | rfl
    ·obtain ⟨e,r,h1,h2⟩:=Zm9 b none (out++flB p++[32]) h.tail
     exact ⟨e,r,h1,Y1 h2⟩
    ·exact ⟨22,_,rfl,List.suffix_refl _⟩
    ·exact ⟨22,_,rfl,List.suffix_refl _⟩
    ·exact ⟨22,_,rfl,List.suffix_refl _⟩
theorem Zra (p:Option Nat) (out:BL):Bn true (T p out):=⟨fun _ hb=>Zm9 _ p out hb,fun h=>by cases h⟩
theorem Zrl:∀ (n:Nat) (p:Option Nat) (out:BL),Pe n (T p out)
  | 0,_,_=>⟨fun h=>by omega,fun h=>by omega,fun h=>by omega,fun h=>by omega⟩
  | n+1,p,out=>by
    rw [ZpU]
    refine Zj3 (.inl rfl) (fun c r b h=>Znv (Zr3 p out c) h (Nat.le_refl _)) fun c=>?_
    unfold tF
    split
    ·exact ZhI
    split
    ·exact Zgn (Zl9 _) (Zma _)
    split
    ·exact Zgn (Xr.sf.bind fun t=>Zq9 _ _) (Pe.bind (m:=n) (k:=0) (Xr.pe n) Xr.sf Xr.sf.st (fun t=>Zrl n _ _) fun t=>Zq9 _ _)
    split
    ·exact Zgn (Zq9 _ _) (Zrl n _ _)
    ·exact Pe.bind (m:=n) (k:=1) (Zjl (ZbM.1.pe _)) (Zjk ZbM.1.sf) (ZhE ZbM.2) (fun t=>Zrl n _ _) fun t=>Zq9 _ _
theorem Zrm:∀ (n:Nat) (p:Option Nat) (out:BL),Pb n true (T p out)
  | 0,_,_=>⟨fun h=>by omega,fun h=>by omega⟩
  | n+1,p,out=>by
    rw [ZpU]
    refine Zj4 fun c=>?_
    unfold tF
    split
    ·exact ZhJ (by decide)
    split
    ·exact Zgo (Zmb _ _) (Zmc _ _)
    split
    ·exact Zgo (Pb.bind (m:=n) (k:=0) (s:=true) (s':=true) (Xr.pe n) (Xr.pb n) Xr.sf Xr.sf.st (fun t=>Zrm n _ _) fun t=>Zra _ _) (Xr.bn.bind (s':=true) Xr.sf fun t=>Zra _ _)
    split
    ·exact Zgo (Zrm n _ _) (Zra _ _)
    ·exact Pb.bind (m:=n) (k:=1) (s:=true) (s':=true) (Zjl (ZbM.1.pe _)) (Zmz (ZbM.1.pb _)) (Zjk ZbM.1.sf) (ZhE ZbM.2) (fun t=>Zrm n _ _) fun t=>Zra _ _
theorem ZoT (p:Option Nat) (out:BL):Good true (T p out):=⟨⟨Zq9 p out,fun n=>Zrl n p out,fun n=>Zrm n p out⟩,Zra p out⟩
theorem Zdh:ZfZ=T none []:=by
  funext l
  exact (Zhd _ l (Nat.lt_succ_self _)).1 []
def nmP:BL→Out BL:=fun l=>(XZ Z1 l).bind fun _=>hdP (.err 24 []) fun c=>if c=34 then tlP fun l=>(ZfZ l).bind fun nm l=>(XZ Z1 l).bind fun _=>hdP (.err 24 []) fun d=>if d=58 then tlP (okP nm) else YP 20 else YP 20
theorem ZjT:Zcz=nmP:=by
  funext l
  show Zcz l=hdP _ _ (Z4 l)
  unfold Zcz
  cases Z4 l with
  | nil=>rfl
  | cons c l1 =>
    show _=(if c=34 then _ else _:BL→Out BL) (c::l1)
    dsimp only
    split
    ·show _=(ZfZ l1).bind _
     congr 1
     funext nm l2
     show _=hdP _ _ (Z4 l2)
     cases Z4 l2 with
     | nil=>rfl
     | cons d l3 =>
       show _=(if d=58 then _ else _:BL→Out BL) (d::l3)
       dsimp only
       split<;>rfl
    ·rfl
theorem ZeN {c d:UInt8} (hc:Z1 c=true) (hd:Z1 d=false):c≠d:=fun e=>by rw [e,hd] at hc;cases hc
theorem Zfn:Good false Zcz∧St 1 Zcz:=by
  rw [ZjT]
  have g3:∀ nm:BL,Good false (hdP (.err 24 []) fun d=>if d=58 then tlP (okP nm) else YP 20):=fun nm=>by
    refine Good.hd (fun c=>Hf.ite (Good.okP _ _).tl (Hf.fail (by decide))) (fun c=>St.ite (Xb (Zcd _)) YU) fun c hc=>⟨20,?_⟩
    rw [if_neg (ZeN hc (by decide))]
  have g2:∀ nm:BL,Good false fun l=>(XZ Z1 l).bind fun _=>hdP (.err 24 []) fun d=>if d=58 then tlP (okP nm) else YP 20:=fun nm=>ZaZ.bind fun _=>g3 nm
  have g1:Good false fun l=>(ZfZ l).bind fun nm l=>(XZ Z1 l).bind fun _=>hdP (.err 24 []) fun d=>if d=58 then tlP (okP nm) else YP 20:=by
    rw [Zdh]
    exact (ZoT none []).bind fun nm=>g2 nm
  have g0:Good false (hdP (.err 24 []) fun c=>if c=34 then tlP fun l=>(ZfZ l).bind fun nm l=>(XZ Z1 l).bind fun _=>hdP (.err 24 []) fun d=>if d=58 then tlP (okP nm) else YP 20 else YP 20)∧St 1 (hdP (.err 24 []) fun c=>if c=34 then tlP fun l=>(ZfZ l).bind fun nm l=>(XZ Z1 l).bind fun _=>hdP (.err 24 []) fun d=>if d=58 then tlP (okP nm) else YP 20 else YP 20):=by
    have st:∀ c:UInt8,St 1 (if c=34 then tlP fun l=>(ZfZ l).bind fun nm l=>(XZ Z1 l).bind fun _=>hdP (.err 24 []) fun d=>if d=58 then tlP (okP nm) else YP 20 else YP 20):=fun c=>St.ite (Xb (k:=0) g1.sf.st) YU
    refine ⟨Good.hd (fun c=>Hf.ite g1.tl (Hf.fail (by decide))) st fun c hc=>⟨20,?_⟩,Zfw (fun a r h=>by cases h) st⟩
    rw [if_neg (ZeN hc (by decide))]
  exact ⟨ZaZ.bind fun _=>g0.1,St.mono (St.bind (k:=0) (m:=1) (ZdS _) fun _=>g0.2) (by omega)⟩
section
variable {pv:BL→Out JV}
theorem ZjP (ob:Bool) (ns:List BL) (sub:JL):Xk pv ob ns sub=if ob=true then fun l=>(Zcz l).bind fun nm l=>(pv l).bind fun v l=>(XZ Z1 l).bind fun _=>okP (ns++[nm],sub.snoc v)
    else fun l=>(XZ Z1 l).bind fun _ l=>(pv l).bind fun v l=>(XZ Z1 l).bind fun _=>okP (ns,sub.snoc v):=by
  funext l
  unfold Xk
  split<;>rfl
theorem X1 (hv:Good false pv) (hs:St 1 pv) (ob:Bool) (ns:List BL) (sub:JL):Good false (Xk pv ob ns sub)∧St 1 (Xk pv ob ns sub):=by
  rw [ZjP]
  have fin:∀ a:List BL × JL,Good false fun l=>(XZ Z1 l).bind fun _=>okP a:=fun a=>ZaZ.bind fun _=>Good.okP false a
  split
  ·exact ⟨Zfn.1.bind fun nm=>hv.bind fun v=>fin _,St.mono (m:=1) (St.bind (k:=1) (m:=1) Zfn.2 fun nm=>St.bind (k:=1) (m:=0) hs fun v=>(fin _).sf.st) (by omega)⟩
  ·exact ⟨ZaZ.bind fun _=>hv.bind fun v=>fin _,St.mono (m:=1) (St.bind (k:=0) (m:=1) (ZdS _) fun _=>St.bind (k:=1) (m:=0) hs fun v=>(fin _).sf.st) (by omega)⟩
def L (pv:BL→Out JV) (ob:Bool) (ns:List BL) (sub:JL):BL→Out (List BL × JL):=fun l=>ZbB pv ob (l.length+1) ns sub l
theorem Zee (hv:Good false pv) (hs:St 1 pv) (ob:Bool):∀ (n m:Nat) (ns:List BL) (sub:JL) (l:BL),l.length<n→l.length<m→ZbB pv ob n ns sub l=ZbB pv ob m ns sub l
  | 0,_,_,_,_,h,_=>by omega
  | _,0,_,_,_,_,h=>by omega
  | n+1,m+1,ns,sub,l,hn,hm=>by
    have go:∀ l',l'.length≤l.length→((Xk pv ob ns sub l').bind fun p l2=>ZbB pv ob n p.1 p.2 l2)=(Xk pv ob ns sub l').bind fun p l2=>ZbB pv ob m p.1 p.2 l2:=fun l' hl=>by
      cases e:Xk pv ob ns sub l' with
      | err k r=>rfl
      | ok p r=>have:=(X1 hv hs ob ns sub).2.len e;exact Zee hv hs ob n m _ _ r (by omega) (by omega)
    unfold ZbB
    rw [go l (Nat.le_refl _),go l.tail (by simp)]
def lF (pv:BL→Out JV) (ob:Bool) (ns:List BL) (sub:JL) (c:UInt8):BL→Out (List BL × JL) :=
  if c=Zb2 ob then tlP (okP (ns,sub))
  else if sub.isNil=true then fun l=>(Xk pv ob ns sub l).bind fun p=>L pv ob p.1 p.2
  else if c=44 then tlP fun l=>(Xk pv ob ns sub l).bind fun p=>L pv ob p.1 p.2
  else YP 20
theorem Zhr (h0:pv [] = .err 24 []) (ob:Bool) (ns:List BL) (sub:JL):Xk pv ob ns sub [] = .err 24 []:=by
  unfold Xk
  cases ob
  ·show (pv []).bind _=_
   rw [h0];rfl
  ·rfl
theorem ZpJ (hv:Good false pv) (hs:St 1 pv) (h0:pv [] = .err 24 []) (ob:Bool) (ns:List BL) (sub:JL):L pv ob ns sub=hdP (.err 24 []) (lF pv ob ns sub):=by
  funext l
  rcases l with _ | ⟨c,l⟩
  ·show ZbB pv ob 1 ns sub [] = .err 24 []
   unfold ZbB
   rw [if_neg (by simp [Zcg]),Zhr h0]
   split
   ·rfl
   ·rw [if_neg (by simp [Zcg])];rfl
  ·show ZbB pv ob ((c::l).length+1) ns sub (c::l)=lF pv ob ns sub c (c::l)
   unfold ZbB lF
   have go:∀ l',l'.length≤(c::l).length→((Xk pv ob ns sub l').bind fun p l2=>ZbB pv ob (c::l).length p.1 p.2 l2)=(Xk pv ob ns sub l').bind fun p=>L pv ob p.1 p.2:=fun l' hl=>by
     cases e:Xk pv ob ns sub l' with
     | err k r=>rfl
     | ok p r=>have:=(X1 hv hs ob ns sub).2.len e;exact Zee hv hs ob _ _ _ _ r (by omega) (by omega)
   rw [go _ (Nat.le_refl _),go (c::l).tail (by simp)]
   by_cases h1:c=Zb2 ob
   ·rw [if_pos h1,if_pos (by simp [Zcg,h1])];rfl
   rw [if_neg h1,if_neg (by simp [Zcg,h1])]
   by_cases h2:sub.isNil=true
   ·rw [if_pos h2,if_pos h2]
   rw [if_neg h2,if_neg h2]
   by_cases h3:c=44
   ·rw [if_pos h3,if_pos (by simp [Zcg,h3])];rfl
   ·rw [if_neg h3,if_neg (by simp [Zcg,h3])]
theorem Zhx (hv:Good false pv) (hs:St 1 pv) (h0:pv [] = .err 24 []) (ob:Bool):∀ (n:Nat) (ns:List BL) (sub:JL) (l:BL),l.length<n→(∀ a r,L pv ob ns sub l = .ok a r→r <:+l∧r.length<l.length)∧∀ e r,L pv ob ns sub l = .err e r→r <:+l∧(e=24↔r=[])
  | 0,_,_,_,h=>by omega
  | n+1,ns,sub,l,h=>by
    have ih:∀ l',l'.length≤l.length→l' <:+l→(∀ a r,((Xk pv ob ns sub l').bind fun p=>L pv ob p.1 p.2) = .ok a r→r <:+l∧r.length<l.length)∧∀ e r,((Xk pv ob ns sub l').bind fun p=>L pv ob p.1 p.2) = .err e r→r <:+l∧(e=24↔r=[]):=fun l' hl hsuf=>by
      have pg:=X1 hv hs ob ns sub
      cases e:Xk pv ob ns sub l' with
      | err k q=>exact ⟨fun a r h=>(by cases h),fun e' r h=>by cases h;exact ⟨(pg.1.sf.esuf e).1.trans hsuf,(pg.1.sf.esuf e).2⟩⟩
      | ok p q =>
        have h1:=pg.2.len e
        have h2:=(pg.1.sf.suf e).trans hsuf
        obtain ⟨a,b⟩:=Zhx hv hs h0 ob n p.1 p.2 q (by omega)
        exact ⟨fun x r hr=>⟨(a x r hr).1.trans h2,by have:=(a x r hr).2;omega⟩,fun e' r hr=>⟨(b e' r hr).1.trans h2,(b e' r hr).2⟩⟩
    rw [ZpJ hv hs h0]
    rcases l with _ | ⟨c,l⟩
    ·exact ⟨fun a r h=>(by cases h),fun e r h=>by cases h;simp⟩
    show (∀ a r,lF pv ob ns sub c (c::l) = .ok a r→_)∧∀ e r,lF pv ob ns sub c (c::l) = .err e r→_
    unfold lF
    split
    ·exact ⟨fun a r h=>by cases h;exact ⟨List.suffix_cons _ _,by simp⟩,fun e r h=>by cases h⟩
    split
    ·exact ih _ (Nat.le_refl _) (List.suffix_refl _)
    split
    ·exact ih l (by simp) (List.suffix_cons _ _)
    ·exact ⟨fun a r h=>(by cases h),fun e r h=>by cases h;simp⟩
theorem Zmj (hv:Good false pv) (hs:St 1 pv) (h0:pv [] = .err 24 []) (ob:Bool) (ns:List BL) (sub:JL):Good false (L pv ob ns sub)∧St 1 (L pv ob ns sub):=by
  have sf:∀ ns sub,Sf (L pv ob ns sub):=fun ns sub=>⟨fun h=>((Zhx hv hs h0 ob _ ns sub _ (Nat.lt_succ_self _)).1 _ _ h).1,fun h=>(Zhx hv hs h0 ob _ ns sub _ (Nat.lt_succ_self _)).2 _ _ h⟩
  have st:∀ ns sub,St 1 (L pv ob ns sub):=fun ns sub=>⟨fun h=>((Zhx hv hs h0 ob _ ns sub _ (Nat.lt_succ_self _)).1 _ _ h).2⟩
  have fst:∀ ns sub c,St 1 (lF pv ob ns sub c):=fun ns sub c=>by
    unfold lF
    have pg:=X1 hv hs ob ns sub
    have b:St 1 fun l=>(Xk pv ob ns sub l).bind fun p=>L pv ob p.1 p.2:=St.mono (m:=1) (St.bind (k:=1) (m:=1) pg.2 fun p=>st _ _) (by omega)
    exact St.ite (Xb (Zcd _)) (St.ite b (St.ite (St.mono (Xb b) (by omega)) YU))
  have bn:∀ ns sub,Bn false (L pv ob ns sub):=fun ns sub=>by
    have pg:=X1 hv hs ob ns sub
    rw [ZpJ hv hs h0]
    refine ⟨fun {b} _ hb=>?_,fun h=>by cases h⟩
    rcases b with _ | ⟨c,b⟩
    ·exact ⟨24,[],rfl,List.suffix_refl _⟩
    ·have hc:=hb c (by simp)
     show ∃ e r,lF pv ob ns sub c (c::b)=_∧_
     unfold lF
     rw [if_neg (ZeN hc (by cases ob<;>decide)),if_neg (c:=c=44) (ZeN hc (by decide))]
     split
     ·obtain ⟨e,r,h1,h2⟩:=pg.1.bn.bl (Zhr h0 ob ns sub) hb
      exact ⟨e,r,by dsimp only;rw [h1];rfl,h2⟩
     ·exact ⟨20,_,rfl,List.suffix_refl _⟩
  have pe:∀ n ns sub,Pe n (L pv ob ns sub):=by
    intro n
    induction n with
    | zero=>intro ns sub;exact ⟨fun h=>by omega,fun h=>by omega,fun h=>by omega,fun h=>by omega⟩
    | succ n ih =>
      intro ns sub
      have pg:=X1 hv hs ob ns sub
      rw [ZpJ hv hs h0]
      refine Zj3 (.inl rfl) (fun c r b h=>Znv (fst ns sub c) h (Nat.le_refl _)) fun c=>?_
      unfold lF
      have b:Pe (n+1) fun l=>(Xk pv ob ns sub l).bind fun p=>L pv ob p.1 p.2:=Pe.bind (m:=n) (k:=1) (pg.1.pe _) pg.1.sf pg.2 (fun p=>ih _ _) fun p=>sf _ _
      split
      ·exact Zgn (Zl9 _) (Zma _)
      split
      ·exact b
      split
      ·exact Zgn (pg.1.sf.bind fun p=>sf _ _) (b.mono (Nat.le_succ n))
      ·exact ZhI
  have pb:∀ n ns sub,Pb n false (L pv ob ns sub):=by
    intro n
    induction n with
    | zero=>intro ns sub;exact ⟨fun h=>by omega,fun h=>by omega⟩
    | succ n ih =>
      intro ns sub
      have pg:=X1 hv hs ob ns sub
      rw [ZpJ hv hs h0]
      refine Zj4 fun c=>?_
      unfold lF
      have b:Pb (n+1) false fun l=>(Xk pv ob ns sub l).bind fun p=>L pv ob p.1 p.2:=Pb.bind (m:=n) (k:=1) (s:=false) (s':=false) (pg.1.pe _) (pg.1.pb _) pg.1.sf pg.2 (fun p=>ih _ _) fun p=>bn _ _
      split
      ·exact Zgo (Zmb _ _) (Zmc _ _)
      split
      ·exact b
      split
      ·exact Zgo (b.mono (Nat.le_succ n)) (pg.1.bn.bind (s':=false) pg.1.sf fun p=>bn _ _)
      ·exact ZhJ (by decide)
  exact ⟨⟨⟨sf ns sub,fun n=>pe n ns sub,fun n=>pb n ns sub⟩,bn ns sub⟩,st ns sub⟩
end
def vF (op:Bool→BL→Out JV) (c:UInt8):BL→Out JV :=
  if c=123 then op true
  else if c=91 then op false
  else if c=34 then tlP fun l=>(ZfZ l).bind fun t=>okP ⟨5,t,[],.nil⟩
  else if c=110 then fun l=>(Zbb [110,117,108,108] l).bind fun _=>okP ⟨1,[],[],.nil⟩
  else if c=102 then fun l=>(Zbb [102,97,108,115,101] l).bind fun _=>okP ⟨2,[],[],.nil⟩
  else if c=116 then fun l=>(Zbb [116,114,117,101] l).bind fun _=>okP ⟨3,[],[],.nil⟩
  else if c=45∨Xu c then fun l=>(ZbE ZcX l).bind fun t=>okP ⟨4,t,[],.nil⟩
  else YP 20
def vP (op:Bool→BL→Out JV):BL→Out JV:=fun l=>(XZ Z1 l).bind fun _=>hdP (.err 24 []) (vF op)
theorem Zdy {op op':Bool→BL→Out JV} (h:∀ b c l,op b (c::l)=op' b (c::l)):Zca op=vP op':=by
  funext l
  show Zca op l=hdP _ _ (Z4 l)
  unfold Zca
  cases Z4 l with
  | nil=>rfl
  | cons c l1 =>
    show _=vF op' c (c::l1)
    unfold vF
    dsimp only
    split
    ·exact h true c l1
    split
    ·exact h false c l1
    split
    ·rfl
    split
    ·rfl
    split
    ·rfl
    split
    ·rfl
    split
    ·show _=(ZbE ZcX (c::l1)).bind _
     unfold ZbE
     cases ZcX (c::l1)<;>rfl
    ·rfl
def opP (pv:BL→Out JV) (ob:Bool):BL→Out JV:=tlP fun l=>(XZ Z1 l).bind fun _ l=>(L pv ob [] .nil l).bind fun p=>okP ⟨if ob then 7 else 6,[],p.1,p.2⟩
theorem Zhs {pv:BL→Out JV} (hv:Good false pv) (hs:St 1 pv) (ob:Bool) (c:UInt8) (l:BL):Zih pv ob (c::l)=opP pv ob (c::l):=by
  show (ZbB pv ob _ [] .nil (Z4 l)).bind _=(L pv ob [] .nil (Z4 l)).bind _
  unfold L
  rw [Zee hv hs ob ((c::l).length+1) ((Z4 l).length+1)]
  ·rfl
  ·have:=(Zh6 l).length_le;simp;omega
  ·omega
theorem ZlB {op:Bool→BL→Out JV} (ho:∀ b,Hf false (op b)) (hs:∀ b,St 1 (op b)):Good false (vP op)∧St 1 (vP op):=by
  have w1:=ZaV [110,117,108,108] (by decide)
  have w2:=ZaV [102,97,108,115,101] (by decide)
  have w3:=ZaV [116,114,117,101] (by decide)
  have s0:Good false (fun l=>(ZfZ l).bind fun t=>okP (⟨5,t,[],.nil⟩:JV)):=by rw [Zdh];exact (ZoT none []).bind fun t=>Good.okP false _
  have hf:∀ c,Hf false (vF op c):=fun c=>by
    unfold vF
    refine Hf.ite (ho true) (Hf.ite (ho false) (Hf.ite s0.tl (Hf.ite ?_ (Hf.ite ?_ (Hf.ite ?_ (Hf.ite ?_ (Hf.fail (by decide))))))))
    ·exact (w1.1.bind fun _=>Good.okP false _).toHf
    ·exact (w2.1.bind fun _=>Good.okP false _).toHf
    ·exact (w3.1.bind fun _=>Good.okP false _).toHf
    ·exact (ZeJ.got.bind fun _=>Good.okP false _).toHf
  have st:∀ c,St 1 (vF op c):=fun c=>by
    unfold vF
    refine St.ite (hs true) (St.ite (hs false) (St.ite (Xb (k:=0) s0.sf.st) (St.ite ?_ (St.ite ?_ (St.ite ?_ (St.ite ?_ YU))))))
    ·exact St.mono (St.bind (m:=0) w1.2 fun _=>Zcd _) (by simp)
    ·exact St.mono (St.bind (m:=0) w2.2 fun _=>Zcd _) (by simp)
    ·exact St.mono (St.bind (m:=0) w3.2 fun _=>Zcd _) (by simp)
    ·exact St.bind (k:=1) (m:=0) (ZhE ZoC) fun _=>Zcd _
  have g:Good false (hdP (.err 24 []) (vF op)):=Good.hd hf st fun c hc=>⟨20,by
    rcases Zba hc with rfl | rfl | rfl | rfl<;>rfl⟩
  exact ⟨ZaZ.bind fun _=>g,St.mono (St.bind (k:=0) (m:=1) (ZdS _) fun _=>Zfw (fun a r h=>by cases h) st) (by omega)⟩
theorem YH:∀ n:Nat,Good false (ZJ n)∧St 1 (ZJ n)
  | 0=>by
    unfold ZJ
    rw [Zdy (op':=fun _=>YP 23) fun b c l=>rfl]
    exact ZlB (fun _=>Hf.fail (by decide)) fun _=>YU
  | n+1=>by
    obtain ⟨hv,hs⟩:=YH n
    have h0:ZJ n [] = .err 24 []:=by cases n<;>rfl
    unfold ZJ
    rw [Zdy (op':=opP (ZJ n)) fun b c l=>Zhs hv hs b c l]
    have lg:=fun ob=>Zmj hv hs h0 ob [] .nil
    exact ZlB (fun b=>(ZaZ.bind fun _=>(lg b).1.bind fun p=>Good.okP false _).tl) fun b=>Xb (k:=0) (ZaZ.bind fun _=>(lg b).1.bind fun p=>Good.okP false _).sf.st
theorem ZeY (n:Nat):ZJ n [] = .err 24 []:=by cases n<;>rfl
theorem Zg5 (n:Nat):ZJ (n+1)=vP (opP (ZJ n)):=Zdy fun b c l=>Zhs (YH n).1 (YH n).2 b c l
theorem ZhX:ZJ 0=vP fun _=>YP 23:=Zdy fun b c l=>rfl
end Go.Js
