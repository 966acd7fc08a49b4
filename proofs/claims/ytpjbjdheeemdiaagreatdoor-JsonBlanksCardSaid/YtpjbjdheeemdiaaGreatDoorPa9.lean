/- Numbers and hexadecimal digits: the program's reader. -/
import Derived.Lib.ValidLaws
import Derived.Lib.RuneCount
import Derived.Test.YtpjbjdheeemdiaaGreatDoorPa8
set_option linter.unusedVariables false
set_option linter.unusedSimpArgs false
namespace Go.Proofs.YtpjbjdheeemdiaaGreatDoor
open Go Go.Fw Go.Js
theorem Zb4 {l:BL} (c:UInt8) {n:Int} {A B:Prop} (h1:∀ l',l=c::l'→A) (h2:(∀ d l',l=d::l'→d≠c)→B) (hc:n=(c.toNat:Int):=by rfl) (h0:0<c.toNat:=by decide):ZD (Xk l ==n) A B:=by
  subst hc
  rcases l with _ | ⟨d,l⟩
  ·refine Zt ?_ (h2 fun d l' e=>by cases e)
   simp only [Xk,beq_eq_false_iff_ne,ne_eq]
   omega
  ·refine Xn (fun e=>h1 l ?_) fun e=>h2 ?_
   ·simp only [Xk] at e
    rw [ZdG e]
   ·rintro d' l' e'
    cases e'
    exact Zd7 e
theorem ZdW {l:BL} (c:UInt8) {n:Int} {A B:Prop} (h1:(∀ d l',l=d::l'→d≠c)→A) (h2:∀ l',l=c::l'→B) (hc:n=(c.toNat:Int):=by rfl) (h0:0<c.toNat:=by decide):ZD (Xk l !=n) A B:=by
  subst hc
  rcases l with _ | ⟨d,l⟩
  ·refine Zp ?_ (h1 fun d l' e=>by cases e)
   simp only [Xk,bne_iff_ne,ne_eq]
   omega
  ·refine Zbu (fun e=>h1 ?_) fun e=>h2 l ?_
   ·rintro d' l' e'
    cases e'
    exact Zd7 e
   ·simp only [Xk] at e
    rw [ZdG e]
theorem Zjj {h:Zc} {R:Nat} {s:ByteArray} {l:BL} (hr:Rd h R s l) {K:(Int × ByteArray × Sl × Sl × Unit)→HP} {P:Value→HP}
    (hok:∀ r h',Zc4 l = .ok () r→Rd h' R s r→Upd (· = R) h h'→K (4,Zd (Zf7 l r),⟨none,0,0⟩,⟨none,0,0⟩,()) h') (herr:OnE h R s (· = R) (Zc4 l) P):Yi (At R) K P h:=by
  unfold Yi XK
  have hR:=hr.lt
  refine ZbP fun h1 c1 e1 z1=>?_
  have r1:=hr.ext e1
  refine Zdb r1 fun n0 g0=>Za ?_
  refine ZC (fun _ h'=>Rd h' R s (Zap l)∧Upd (· = R) h1 h') ?_ ?_
  ·rintro ⟨⟩ h2 ⟨r2,u2⟩
   refine ZC (fun _ h'=>∃ l1,ZeH (Zap l) = .ok () l1∧Rd h' R s l1∧Upd (· = R) h1 h') ?_ ?_
   ·rintro ⟨⟩ h3 ⟨l1,q1,r3,u3⟩
    refine ZC (fun _ h'=>∃ l2,ZcS l1 = .ok () l2∧Rd h' R s l2∧Upd (· = R) h1 h') ?_ ?_
    ·rintro ⟨⟩ h4 ⟨l2,q2,r4,u4⟩
     refine ZC (fun _ h'=>∃ l3,ZeT l2 = .ok () l3∧Rd h' R s l3∧Upd (· = R) h1 h') ?_ ?_
     ·rintro ⟨⟩ h5 ⟨l3,q3,r5,u5⟩
      have hq:Zc4 l = .ok () l3:=by unfold Zc4;rw [q1];dsimp only [Out.bind_ok];rw [q2];exact q3
      have hsuf:=Zn2 hq
      obtain ⟨_,n5,b5,g5⟩:=id r5
      refine ZP (ZP (rS (Zm b5 rfl) (rI (Zm b5 rfl) ?_)))
      have hle:n0≤n5:=by have:=g0.len;have:=g5.len;have:=hsuf.length_le;omega
      refine ⟨by omega,by omega,by have:=g5.len;omega,?_⟩
      rw [Int.toNat_natCast,Int.toNat_natCast,g0.extract g5 hle]
      have hb:obj h5 h.size=some (.cells zV.toArray 33 (0,0)):=Yq c1 u5 (show ¬ h.size=R from by have:sz h=h.size:=rfl;omega)
      refine Ze9 (x:=⟨none,0,0⟩) (y:=⟨none,0,0⟩) hb rfl fun h6 u6 z6=>hok l3 h6 hq (r5.upd u6 (show ¬ R=h.size from by have:sz h=h.size:=rfl;omega)) ?_
      exact UT (UN e1 u5) u6 fun k hk=> .inr (by subst hk;exact Nat.le_refl _)
     ·have er:∀ {l'},ZeT l2=Z6 l'→∀ {h5:Zc},Upd (· = R) h1 h5→OnE h5 R s (· = R) (Z6 l') P:=fun hq h5 u5 e r h6 he u6=>herr e r h6 (by unfold Zc4;rw [q1];dsimp only [Out.bind_ok];rw [q2];dsimp only [Out.bind_ok];rw [hq];exact he) (UN e1 (u5.trans u6))
      have dg:∀ {l':BL} {h5:Zc},Rd h5 R s l'→ZeT l2=Z6 l'→Upd (· = R) h1 h5→ZG (At R) (fun h'=>∃ l3,ZeT l2 = .ok () l3∧Rd h' R s l3∧Upd (· = R) h1 h') P h5:=fun r5 hq u5=>Zdy r5 (fun r h6 hd r6 u6=>⟨r,hq.trans hd,r6,u5.trans u6⟩) (er hq u5)
      have sg:∀ {l':BL} {h5:Zc} {A B C:Prop},Rd h5 R s l'→(∀ l'',l'=43::l''→A)→(∀ l'',l'=45::l''→B)→((∀ d l'',l'=d::l''→d≠43∧d≠45)→C)→ZD (Xk l' ==43) A (ZD (Xk l' ==45) B C):=fun {l' h5 A B C} r5 a b c =>
        Zb4 43 (fun l'' e=>a l'' e) fun n43=>Zb4 45 (fun l'' e=>b l'' e) fun n45=>c fun d l'' e=>⟨n43 d l'' e,n45 d l'' e⟩
      have go:∀ {c:UInt8} {l':BL},l2=c::l'→(c=101∨c=69)→∀ {l'':BL},Zd8 l'=l''→ZeT l2=Z6 l'':=fun {c l'} e he {l''} hs=>by
        subst e
        dsimp only [ZeT]
        rw [if_pos he,hs]
      have both:∀ {c:UInt8} {l':BL},l2=c::l'→(c=101∨c=69)→Ze (At R) fun b47 o48=>ldI h4 b47 (o48+1) .i64 fun t49=>Ze (At R) fun b50 o51=>st h4 b50 (o51+1) (.int .i64 (IntKind.wrap .i64 (t49+1))) fun h52 =>
          Zi (At R) (fun t53 h54=>Zy t53 fun c55=>ZD (c55 ==43) (Ze (At R) fun b56 o57=>ldI h54 b56 (o57+1) .i64 fun t58=>Ze (At R) fun b59 o60=>st h54 b59 (o60+1) (.int .i64 (IntKind.wrap .i64 (t58+1))) fun h61 =>
           ZG (At R) (fun h62=>∃ l3,ZeT l2 = .ok () l3∧Rd h62 R s l3∧Upd (· = R) h1 h62) P h61) (ZD (c55 ==45) (Ze (At R) fun b63 o64=>ldI h54 b63 (o64+1) .i64 fun t65=>Ze (At R) fun b66 o67=>st h54 b66 (o67+1) (.int .i64 (IntKind.wrap .i64 (t65+1))) fun h68 =>
           ZG (At R) (fun h69=>∃ l3,ZeT l2 = .ok () l3∧Rd h69 R s l3∧Upd (· = R) h1 h69) P h68) (ZG (At R) (fun h70=>∃ l3,ZeT l2 = .ok () l3∧Rd h70 R s l3∧Upd (· = R) h1 h70) P h54))) h52:=fun {c l'} e he=>by
        subst e
        refine X7 r4 fun h5 r5 u5 z5=>Yu r5 (Za (sg r5 (fun l'' e'=>?_) (fun l'' e'=>?_) fun hn=>?_))
        ·subst e'
         exact X7 r5 fun h6 r6 u6 z6=>dg r6 (go rfl he (by dsimp only [Zd8];rw [if_pos (.inl rfl)])) ((u4.trans u5).trans u6)
        ·subst e'
         exact X7 r5 fun h6 r6 u6 z6=>dg r6 (go rfl he (by dsimp only [Zd8];rw [if_pos (.inr rfl)])) ((u4.trans u5).trans u6)
        ·refine dg r5 (go rfl he ?_) (u4.trans u5)
         rcases l' with _ | ⟨d,l'⟩
         ·rfl
         ·dsimp only [Zd8]
          rw [if_neg (by have:=hn d l' rfl;simp [this.1,this.2])]
      refine Yu r4 (Za (Zb4 101 (fun l' e=>both e (.inl rfl)) fun n101=>Zb4 69 (fun l' e=>both e (.inr rfl)) fun n69=>⟨l2,?_,r4,u4⟩))
      rcases l2 with _ | ⟨d,l2⟩
      ·rfl
      ·dsimp only [ZeT]
       rw [if_neg (by have:=n101 d l2 rfl;have:=n69 d l2 rfl;intro hh;rcases hh with hh | hh<;>contradiction)]
    ·refine Yu r3 (Zb4 46 (fun l' e=>?_) fun hn=>⟨l1,?_,r3,u3⟩)
     ·subst e
      refine X7 r3 fun h4 r4 u4 z4=>Zdy r4 (fun r h5 hd r5 u5=>⟨r,hd,r5,(u3.trans u4).trans u5⟩) fun e r h5 he u5=>herr e r h5 (by unfold Zc4;rw [q1];dsimp only [Out.bind_ok];rw [show ZcS (46::l')=Z6 l' from rfl,he];rfl) (UN e1 ((u3.trans u4).trans u5))
     ·rcases l1 with _ | ⟨d,l1⟩
      ·rfl
      ·dsimp only [ZcS]
       rw [if_neg (hn d l1 rfl)]
   ·refine Yu r2 (Zb4 48 (fun l' e=>?_) fun hn=>?_)
    ·have hq:∀ {e r},XH l' = .err e r→Zc4 l = .err e r:=fun {e' r} hh=>by
       unfold Zc4
       rw [e,show ZeH (48::l')=XH l' from rfl,hh];rfl
     rw [e] at r2 ⊢
     refine X7 r2 fun h3 r3 u3 z3=>Yu r3 (Za ?_)
     have fin:(∀ c l'',l'=c::l''→¬ XD c=true)→∃ l1,ZeH (48::l') = .ok () l1∧Rd h3 R s l1∧Upd (· = R) h1 h3:=fun hc=>⟨l',by
       rw [show ZeH (48::l')=XH l' from rfl]
       rcases l' with _ | ⟨d,l'⟩
       ·rfl
       ·dsimp only [XH]
        rw [if_neg (hc d l' rfl)],r3,u2.trans u3⟩
     refine Zo (fun h48=>Zo (fun h57=>Xf (α:=Unit) r3 rfl fun e' r he hr'=>?_) fun h57=>fin ?_) fun h48=>fin ?_
     ·rcases l' with _ | ⟨d,l'⟩
      ·simp [Xk] at h48
      ·simp only [Xk] at h48 h57
       refine herr e' r h3 (hq ?_) (UN e1 (u2.trans u3))
       dsimp only [XH]
       rw [if_pos (ZaM.2 (by omega)),← he];rfl
     ·rintro d l'' rfl hd
      have:=ZaM.1 hd
      simp only [Xk] at h57
      omega
     ·rintro d l'' rfl hd
      have:=ZaM.1 hd
      simp only [Xk] at h48
      omega
    ·have hq:ZeH (Zap l)=Z6 (Zap l):=by
       generalize Zap l=lm at hn
       rcases lm with _ | ⟨d,lm⟩
       ·rfl
       ·dsimp only [ZeH]
        rw [if_neg (hn d lm rfl)]
     exact Zdy r2 (fun r h3 hd r3 u3=>⟨r,hq.trans hd,r3,u2.trans u3⟩) fun e r h3 he u3=>herr e r h3 (by unfold Zc4;rw [hq,he];rfl) (UN e1 (u2.trans u3))
  ·refine Yu r1 (Zb4 45 (fun l' e=>?_) fun hn=>?_)
   ·subst e
    exact X7 r1 fun h2 r2 u2 z2=>⟨r2,u2⟩
   ·have hm:Zap l=l:=by
      rcases l with _ | ⟨d,l⟩
      ·rfl
      ·dsimp only [Zap]
       rw [if_neg (hn d l rfl)]
    exact ⟨by rw [hm];exact r1,Upd.refl _ _⟩
end Go.Proofs.YtpjbjdheeemdiaaGreatDoor
namespace Go.Js
open Go
def okC:Nat→Nat→BL→Bool
  | _,_,[]=>true
  | lo,hi,d::r=>decide (lo≤d.toNat)&&decide (d.toNat≤hi)&&okC 128 191 r
abbrev nRb (c:UInt8):Nat:=(ZjP c.toNat).1
abbrev loR (c:UInt8):Nat:=(ZjP c.toNat).2.1
abbrev hiR (c:UInt8):Nat:=(ZjP c.toNat).2.2
def ZgK:BL→Bool
  | []=>false
  | c::r=>decide (nRb c≠0)&&decide (r.length<nRb c)&&okC (loR c) (hiR c) r
def Xp:BL→Bool
  | []=>false
  | c::r=>decide (nRb c≠0)&&decide (r.length+1=nRb c)&&okC (loR c) (hiR c) r
theorem Zkr:∀ (m:Nat) {lo hi:Nat} {r:BL},okC lo hi (r.take m)=true→m≤r.length→ZaN m lo hi r = .ok () (r.drop m)
  | 0,_,_,_,_,_=>rfl
  | m+1,_,_,[],_,hl=>by simp at hl
  | m+1,lo,hi,d::r,h,hl=>by
    simp only [List.take_succ_cons,okC,Bool.and_eq_true,decide_eq_true_eq] at h
    unfold ZaN
    rw [if_pos h.1,Zkr m h.2 (by simpa using hl)]
    rfl
theorem ZiR:∀ (m:Nat) {lo hi:Nat} {r:BL},okC lo hi r=true→r.length<m→ZaN m lo hi r = .err 24 []
  | 0,_,_,_,_,hl=>by omega
  | m+1,_,_,[],_,_=>rfl
  | m+1,lo,hi,d::r,h,hl=>by
    simp only [okC,Bool.and_eq_true,decide_eq_true_eq] at h
    unfold ZaN
    rw [if_pos h.1,ZiR m h.2 (by simpa using hl)]
theorem ZiS:∀ (m j:Nat) {lo hi:Nat} {r:BL},okC lo hi (r.take j)=true→okC lo hi (r.take (j+1))=false→j<m→j<r.length→ZaN m lo hi r = .err 22 (r.drop j)
  | 0,_,_,_,_,_,_,hm,_=>by omega
  | m+1,_,_,_,[],_,_,_,hl=>by simp at hl
  | m+1,0,lo,hi,d::r,_,h',_,_=>by
    unfold ZaN
    rw [if_neg (fun hc=>by simp [okC,hc.1,hc.2] at h')]
    rfl
  | m+1,j+1,lo,hi,d::r,h,h',hm,hl=>by
    simp only [List.take_succ_cons,okC,Bool.and_eq_true,decide_eq_true_eq] at h
    have h2:okC 128 191 (r.take (j+1))=false:=by
      have h3:okC lo hi (d::r.take (j+1))=false:=by simpa only [List.take_succ_cons] using h'
      simpa [okC,h.1.1,h.1.2] using h3
    unfold ZaN
    rw [if_pos h.1,ZiS m j h.2 h2 (by omega) (by simpa using hl)]
    rfl
theorem ZiQ:∀ (m:Nat) {lo hi:Nat} {r q:BL},ZaN m lo hi r = .ok () q→okC lo hi (r.take m)=true∧m≤r.length∧q=r.drop m
  | 0,_,_,_,_,h=>by cases h;exact ⟨rfl,Nat.zero_le _,rfl⟩
  | m+1,_,_,[],_,h=>by cases h
  | m+1,lo,hi,d::r,q,h=>by
    unfold ZaN at h
    split at h
    ·rename_i hc
     obtain ⟨a,b,c⟩:=ZiQ m h
     refine ⟨?_,by simpa using b,by simpa using c⟩
     simp only [List.take_succ_cons,okC,Bool.and_eq_true,decide_eq_true_eq]
     exact ⟨hc,a⟩
    ·cases h
theorem ZbH (c:UInt8) (r:BL):Xo (c::r)=if nRb c=0 then .err 22 (c::r) else ZaN (nRb c - 1) (loR c) (hiR c) r:=rfl
theorem Zfd {l q:BL} (h:Xo l = .ok () q):∃ x,l=x++q∧Xp x=true:=by
  rcases l with _ | ⟨c,r⟩
  ·cases h
  ·rw [ZbH] at h
   split at h
   ·cases h
   ·rename_i hn
    obtain ⟨a,b,e⟩:=ZiQ _ h
    refine ⟨c::r.take (nRb c - 1),by rw [e];simp,?_⟩
    simp only [Xp,Bool.and_eq_true,decide_eq_true_eq]
    refine ⟨⟨hn,?_⟩,a⟩
    rw [List.length_take]
    have:nRb c≠0:=hn
    omega
theorem Zik {x q:BL} (h:Xp x=true):Xo (x++q) = .ok () q:=by
  rcases x with _ | ⟨c,r⟩
  ·cases h
  ·simp only [Xp,Bool.and_eq_true,decide_eq_true_eq] at h
   obtain ⟨⟨hn,hl⟩,hc⟩:=h
   rw [List.cons_append,ZbH,if_neg hn,Zkr (nRb c - 1)]
   ·rw [show nRb c - 1=r.length by omega];simp
   ·rw [show nRb c - 1=r.length by omega];simpa using hc
   ·simp;omega
theorem Zl8 {l:BL} (h:ZgK l=true) (hn:Xp l=false):Xo l = .err 24 []:=by
  rcases l with _ | ⟨c,r⟩
  ·cases h
  ·simp only [ZgK,Bool.and_eq_true,decide_eq_true_eq] at h
   obtain ⟨⟨h0,hl⟩,hc⟩:=h
   have hne:r.length+1≠nRb c:=by
     intro e
     simp [Xp,e,hc,show nRb c≠0 from h0] at hn
   rw [ZbH,if_neg h0,ZiR _ hc (by have:=hl;omega)]
theorem Zl9 {x:BL} {d:UInt8} {q:BL} (h:x=[]∨(ZgK x=true∧Xp x=false)) (hd:ZgK (x++[d])=false):Xo (x++d::q) = .err 22 (d::q):=by
  rcases x with _ | ⟨c,r⟩
  ·simp only [List.nil_append,ZgK,okC,Bool.and_true,List.length_nil] at hd ⊢
   rw [ZbH,if_pos]
   have:¬ (nRb d≠0∧0<nRb d):=by simpa using hd
   show nRb d=0
   omega
  ·rcases h with h | ⟨h,hn⟩
   ·cases h
   ·simp only [ZgK,Bool.and_eq_true,decide_eq_true_eq] at h
    obtain ⟨⟨h0,hl⟩,hc⟩:=h
    have hne:r.length+1≠nRb c:=by
      intro e
      simp [Xp,e,hc,show nRb c≠0 from h0] at hn
    rw [List.cons_append,ZbH,if_neg h0,ZiS _ r.length (r:=r++d::q)]
    ·simp
    ·simpa using hc
    ·have h3:okC (loR c) (hiR c) (r++[d])=false:=by
       simp only [List.cons_append,ZgK,List.length_append,List.length_singleton] at hd
       simpa [show nRb c≠0 from h0,show r.length+1<nRb c by have:=hl;omega] using hd
     rw [List.take_append,show r.length+1 - r.length=1 by omega,List.take_of_length_le (by omega)]
     exact h3
    ·have:=hl;show r.length<nRb c - 1;omega
    ·simp
theorem Zl1:∀ b:Fin 256,128≤b.val→(nRb ⟨⟨b⟩⟩=0∧Lib.firstT b.val % 8≠2∧Lib.firstT b.val % 8≠3∧Lib.firstT b.val % 8≠4) ∨
    (nRb ⟨⟨b⟩⟩=Lib.firstT b.val % 8∧(nRb ⟨⟨b⟩⟩=2∨nRb ⟨⟨b⟩⟩=3∨nRb ⟨⟨b⟩⟩=4)∧loR ⟨⟨b⟩⟩=Lib.accLo (Lib.firstT b.val / 16)∧hiR ⟨⟨b⟩⟩=Lib.accHi (Lib.firstT b.val / 16)):=by
  decide +kernel
theorem ZoH (c:UInt8) (h:128≤c.toNat):(nRb c=0∧Lib.firstT c.toNat % 8≠2∧Lib.firstT c.toNat % 8≠3∧Lib.firstT c.toNat % 8≠4) ∨
    (nRb c=Lib.firstT c.toNat % 8∧(nRb c=2∨nRb c=3∨nRb c=4)∧loR c=Lib.accLo (Lib.firstT c.toNat / 16)∧hiR c=Lib.accHi (Lib.firstT c.toNat / 16)):=by
  rcases c with ⟨⟨b⟩⟩
  exact Zl1 b h
theorem Zj5 (c:UInt8) (h:c.toNat<128):nRb c=1:=by unfold nRb ZjP;rw [if_pos h]
theorem Zvc {c:UInt8} {r:BL}:((c::r).getD 0 0)=c:=rfl
theorem Xy (c:UInt8) (r:BL):(¬ ((Lib.decodeL (c::r)).1=65533∧(Lib.decodeL (c::r)).2=1)→(Lib.decodeL (c::r)).2=nRb c∧Xp ((c::r).take (nRb c))=true) ∧
    (Xp ((c::r).take (nRb c))=true→¬ ((Lib.decodeL (c::r)).1=65533∧(Lib.decodeL (c::r)).2=1)):=by
  by_cases hc:c.toNat<128
  ·rw [Lib.decodeL_ascii c r hc]
   have hn:=Zj5 c hc
   refine ⟨fun _=>⟨hn.symm,?_⟩,fun _ h=>?_⟩
   ·rw [hn]
    simp [Xp,hn,okC]
   ·simp at h;omega
  ·have h128:128≤c.toNat:=by omega
   rw [Lib.decodeL_N]
   simp only [Zvc]
   have hb:∀ i,((c::r).getD i 0).toNat<256:=fun i=>UInt8.toNat_lt _
   have key:=Lib.check_decode (c::r).length c.toNat ((c::r).getD 1 0).toNat ((c::r).getD 2 0).toNat ((c::r).getD 3 0).toNat (by simp) h128 c.toNat_lt (hb 1) (hb 2) (hb 3)
   rcases ZoH c h128 with ⟨t0,t2,t3,t4⟩ | ⟨tn,tc,tl,th⟩
   ·have:Lib.checkN (c::r).length ((c::r).getD 1 0).toNat ((c::r).getD 2 0).toNat ((c::r).getD 3 0).toNat (Lib.firstT c.toNat % 8) (Lib.accLo (Lib.firstT c.toNat / 16)) (Lib.accHi (Lib.firstT c.toNat / 16))=none:=by
      unfold Lib.checkN;rw [if_neg t2,if_neg t3,if_neg t4]
    rw [this] at key
    rcases key with ⟨_,k⟩ | ⟨k,_,hk,_⟩
    ·rw [k]
     refine ⟨fun h=>absurd ⟨rfl,rfl⟩ h,fun h=>?_⟩
     rw [t0] at h;cases h
    ·cases hk
   ·rw [← tn,← tl,← th] at key
    have hnd:nRb c≠0:=by omega
    rcases key with ⟨hk,k⟩ | ⟨k,hk2,hk,e⟩
    ·rw [k]
     refine ⟨fun h=>absurd ⟨rfl,rfl⟩ h,fun ho=>?_⟩
     exfalso
     unfold Lib.checkN at hk
     rcases tc with n | n | n<;>rw [n] at hk ho<;>simp only [Nat.reduceEqDiff,↓reduceIte] at hk<;>split at hk<;>cases hk
     ·rename_i hh
      rcases r with _ | ⟨d1,r⟩
      ·simp [Xp,n] at ho
      ·simp [Xp,n,okC] at ho hh;omega
     ·rename_i hh
      rcases r with _ | ⟨d1,_ | ⟨d2,r⟩⟩
      ·simp [Xp,n] at ho
      ·simp [Xp,n] at ho
      ·simp [Xp,n,okC] at ho hh;omega
     ·rename_i hh
      rcases r with _ | ⟨d1,_ | ⟨d2,_ | ⟨d3,r⟩⟩⟩
      ·simp [Xp,n] at ho
      ·simp [Xp,n] at ho
      ·simp [Xp,n] at ho
      ·simp [Xp,n,okC] at ho hh;omega
    ·rw [e]
     have hkn:k=nRb c:=by
       unfold Lib.checkN at hk
       rcases tc with n | n | n<;>rw [n] at hk ⊢ <;> simp only [Nat.reduceEqDiff,↓reduceIte] at hk<;>split at hk<;>cases hk<;>rfl
     subst hkn
     refine ⟨fun _=>⟨rfl,?_⟩,fun _ h=>by omega⟩
     unfold Lib.checkN at hk
     rcases tc with n | n | n<;>rw [n] at hk ⊢ <;> simp only [Nat.reduceEqDiff,↓reduceIte] at hk<;>split at hk<;>cases hk
     ·rename_i hh
      rcases r with _ | ⟨d1,r⟩
      ·simp at hh
      ·simp [Xp,n,okC] at hh ⊢;omega
     ·rename_i hh
      rcases r with _ | ⟨d1,_ | ⟨d2,r⟩⟩
      ·simp at hh
      ·simp at hh
      ·simp [Xp,n,okC] at hh ⊢;omega
     ·rename_i hh
      rcases r with _ | ⟨d1,_ | ⟨d2,_ | ⟨d3,r⟩⟩⟩
      ·simp at hh
      ·simp at hh
      ·simp at hh
      ·simp [Xp,n,okC] at hh ⊢;omega
def Zkb (n:Nat):Bool:=decide (55296≤n)&&decide (n<56320)
def ZoY (n:Nat):Bool:=decide (56320≤n)&&decide (n<57344)
def Zmj (n m:Nat):Nat:=65536+(n - 55296)*1024+(m - 56320)
theorem ZmU {n:Nat} (h:Zkb n=true):ZeK n=65533:=by
  simp [Zkb] at h
  unfold ZeK;rw [if_pos (by omega)]
inductive Tok where
  | ch (m:UInt8)
  | uni (n:Nat)
def Zgx:BL→Out Tok
  | []=> .err 24 []
  | c::l=>match ZaT c with
    | some m=> .ok (.ch m) l
    | none=>if c=117 then (Zdd 4 0 l).bind fun n r=> .ok (.uni n) r else .err 22 (c::l)
def flB:Option Nat→BL
  | none=>[]
  | some _=>ZbT 65533
def Zgw (p:Option Nat) (out:BL):Tok→Option Nat × BL
  | .ch m=>(none,out++flB p++[m])
  | .uni k=>match p with
    | some n=>if ZoY k then (none,out++ZbT (Zmj n k)) else if Zkb k then (some k,out++ZbT 65533) else (none,out++ZbT 65533++ZbT (ZeK k))
    | none=>if Zkb k then (some k,out) else (none,out++ZbT (ZeK k))
def X8:Nat→Option Nat→BL→BL→Out BL
  | 0,_,_,_=> .err 24 []
  | _+1,_,_,[]=> .err 24 []
  | n+1,p,out,c::l =>
    if c.toNat<32 then .err 22 (c::l)
    else if c=34 then .ok (out++flB p) l
    else if c=92 then (Zgx l).bind fun t l2=>X8 n (Zgw p out t).1 (Zgw p out t).2 l2
    else if c.toNat<128 then X8 n none (out++flB p++[c]) l
    else (Xo (c::l)).bind fun _ l2=>X8 n none (out++flB p++Zf7 (c::l) l2) l2
theorem Zas (n:Nat) (p:Option Nat) (out:BL) (c:UInt8) (l:BL):X8 (n+1) p out (c::l) =
    if c.toNat<32 then .err 22 (c::l)
    else if c=34 then .ok (out++flB p) l
    else if c=92 then (Zgx l).bind fun t l2=>X8 n (Zgw p out t).1 (Zgw p out t).2 l2
    else if c.toNat<128 then X8 n none (out++flB p++[c]) l
    else (Xo (c::l)).bind fun _ l2=>X8 n none (out++flB p++Zf7 (c::l) l2) l2:=rfl
theorem ZgA (n:Nat) (out:BL) (c:UInt8) (l:BL):ZdI (n+1) out (c::l) =
    if c.toNat<32 then .err 22 (c::l)
    else if c=34 then .ok out l
    else if c=92 then (Zkn l).bind fun o l2=>ZdI n (out++o) l2
    else if c.toNat<128 then ZdI n (out++[c]) l
    else (Xo (c::l)).bind fun _ l2=>ZdI n (out++Zf7 (c::l) l2) l2:=rfl
theorem Za6 (c:UInt8) (l:BL):Zgx (c::l)=match ZaT c with
    | some m=> .ok (.ch m) l
    | none=>if c=117 then (Zdd 4 0 l).bind fun n r=> .ok (.uni n) r else .err 22 (c::l):=rfl
theorem ZcV (c:UInt8) (l:BL):Zkn (c::l)=match ZaT c with
    | some m=> .ok [m] l
    | none=>if c=117 then Zrt l else .err 22 (c::l):=rfl
theorem Zd6 (l:BL):Zrt l=(Zdd 4 0 l).bind fun n l1 =>
  match (if 55296≤n∧n<56320 then X3 l1 else none) with
  | some l2=>(Zdd 4 0 l2).bind fun m l3=>if 56320≤m∧m<57344 then .ok (ZbT (65536+(n - 55296)*1024+(m - 56320))) l3 else .ok (ZbT (ZeK n)) l1
  | none=> .ok (ZbT (ZeK n)) l1:=rfl
theorem ZcW (a b:UInt8) (l:BL):X3 (a::b::l)=if a=92∧b=117 then some l else none:=rfl
theorem Zb3:∀ (k:Nat) {n m:Nat} {l r:BL},Zdd k n l = .ok m r→r.length+k=l.length∧r <:+l
  | 0,_,_,_,_,h=>by cases h;exact ⟨rfl,List.suffix_refl _⟩
  | k+1,_,_,[],_,h=>by cases h
  | k+1,n,m,c::l,r,h=>by
    unfold Zdd at h
    split at h
    ·obtain ⟨a,b⟩:=Zb3 k h
     exact ⟨by simp;omega,Y4 b⟩
    ·cases h
theorem ZdH {l r:BL} {t:Tok} (h:Zgx l = .ok t r):r.length<l.length∧r <:+l:=by
  rcases l with _ | ⟨c,l⟩
  ·cases h
  ·dsimp only [Zgx] at h
   split at h
   ·cases h;exact ⟨by simp,List.suffix_cons _ _⟩
   ·split at h
    ·obtain ⟨n,l1,h1,h2⟩:=ZJ h
     cases h2
     obtain ⟨a,b⟩:=Zb3 4 h1
     exact ⟨by simp;omega,Y4 b⟩
    ·cases h
theorem Za9 {l r:BL} (h:Xo l = .ok () r):r.length<l.length∧r <:+l:=by
  obtain ⟨x,e,hx⟩:=Zfd h
  rw [e]
  refine ⟨?_,List.suffix_append _ _⟩
  rcases x with _ | ⟨c,x⟩
  ·cases hx
  ·simp only [List.cons_append,List.length_cons,List.length_append];omega
theorem Zbw {l l2:BL} (h:X3 l=some l2):l=92::117::l2:=by
  rcases l with _ | ⟨a,_ | ⟨b,l⟩⟩
  ·cases h
  ·cases h
  ·rw [ZcW] at h
   split at h
   ·rename_i hc;cases h;rw [hc.1,hc.2]
   ·cases h
theorem ZaY:∀ (n m:Nat) (p:Option Nat) (out l:BL),l.length<n→l.length<m→X8 n p out l=X8 m p out l
  | 0,_,_,_,_,h,_=>by omega
  | _,0,_,_,_,_,h=>by omega
  | n+1,m+1,p,out,[],_,_=>rfl
  | n+1,m+1,p,out,c::l,hn,hm=>by
    have hn':l.length<n:=by simpa using hn
    have hm':l.length<m:=by simpa using hm
    unfold X8
    split
    ·rfl
    split
    ·rfl
    split
    ·cases e:Zgx l with
     | ok t r=>exact ZaY n m _ _ r (by have:=(ZdH e).1;omega) (by have:=(ZdH e).1;omega)
     | err e r=>rfl
    split
    ·exact ZaY n m _ _ l hn' hm'
    ·cases e:Xo (c::l) with
     | ok t r=>exact ZaY n m _ _ r (by have:=(Za9 e).1;simp at this;omega) (by have:=(Za9 e).1;simp at this;omega)
     | err e r=>rfl
theorem Zpw:ZaT 117=none:=by decide
theorem Zho:∀ (n:Nat) (l:BL),l.length<n→(∀ out,ZdI n out l=X8 n none out l) ∧
    ∀ k out,Zkb k=true→X8 n (some k) out l=match X3 l with
      | some l2=>(Zdd 4 0 l2).bind fun m l3=>if ZoY m then X8 n none (out++ZbT (Zmj k m)) l3 else X8 n none (out++ZbT 65533) l
      | none=>X8 n none (out++ZbT 65533) l
  | 0,_,h=>by omega
  | n+1,l,h=>by
    have second:∀ k out,Zkb k=true→X8 (n+1) (some k) out l=match X3 l with
      | some l2=>(Zdd 4 0 l2).bind fun m l3=>if ZoY m then X8 (n+1) none (out++ZbT (Zmj k m)) l3 else X8 (n+1) none (out++ZbT 65533) l
      | none=>X8 (n+1) none (out++ZbT 65533) l:=by
      intro k out hk
      rcases l with _ | ⟨c,l⟩
      ·rfl
      cases hb:X3 (c::l) with
      | some l2 =>
        have e:=Zbw hb
        cases e
        simp only
        conv=>lhs;rw [Zas,if_neg (by decide),if_neg (by decide),if_pos rfl]
        have ht:Zgx (117::l2)=(Zdd 4 0 l2).bind fun n r=> .ok (.uni n) r:=by rw [Za6,Zpw];rfl
        rw [ht]
        cases hh:Zdd 4 0 l2 with
        | err e r=>rfl
        | ok m l3 =>
          have hl:=(Zb3 4 hh).1
          simp only [Out.bind_ok,Zgw]
          simp only [List.length_cons] at h
          by_cases hm:ZoY m=true
          ·rw [if_pos hm,if_pos hm]
           exact ZaY _ _ _ _ _ (by omega) (by omega)
          ·rw [if_neg hm,if_neg hm]
           conv=>rhs;rw [Zas,if_neg (by decide),if_neg (by decide),if_pos rfl,ht,hh]
           simp only [Out.bind_ok,Zgw]
      | none =>
        simp only
        rw [Zas,Zas]
        split
        ·rfl
        split
        ·simp [flB]
        split
        ·rename_i h1 h2 h3
         subst h3
         cases ht:Zgx l with
         | err e r=>rfl
         | ok t r =>
           simp only [Out.bind_ok]
           cases t with
           | ch m=>simp [Zgw,flB]
           | uni m =>
             exfalso
             rcases l with _ | ⟨d,l⟩
             ·cases ht
             ·rw [Za6] at ht
              cases hm:ZaT d with
              | some q=>rw [hm] at ht;cases ht
              | none =>
                rw [hm] at ht
                simp only at ht
                split at ht
                ·rename_i hd
                 subst hd
                 rw [ZcW,if_pos ⟨rfl,rfl⟩] at hb
                 cases hb
                ·cases ht
        split
        ·simp [flB]
        ·cases Xo (c::l) with
         | err e r=>rfl
         | ok t r=>simp [flB]
    refine ⟨fun out=>?_,second⟩
    rcases l with _ | ⟨c,l⟩
    ·rfl
    have ih:=fun (r:BL) (hr:r.length<n)=>Zho n r hr
    rw [ZgA,Zas]
    split
    ·rfl
    split
    ·simp [flB]
    split
    ·rcases l with _ | ⟨d,l⟩
     ·rfl
     simp only [List.length_cons] at h
     rw [ZcV,Za6]
     cases hm:ZaT d with
     | some m=>simp only [Out.bind_ok,Zgw,flB,List.append_nil];exact (ih l (by omega)).1 _
     | none =>
       simp only
       by_cases hd:d=117
       ·rw [if_pos hd,if_pos hd]
        rw [Zd6]
        cases hh:Zdd 4 0 l with
        | err e r=>rfl
        | ok k l1 =>
          have hl:=(Zb3 4 hh).1
          simp only [Out.bind_ok]
          by_cases hk:Zkb k=true
          ·have hk':55296≤k∧k<56320:=by simpa [Zkb] using hk
           rw [if_pos hk',show Zgw none out (.uni k)=(some k,out) by simp [Zgw,hk]]
           simp only
           rw [(ih l1 (by omega)).2 k out hk]
           cases hb:X3 l1 with
           | none=>simp only [Out.bind_ok,ZmU hk];exact (ih l1 (by omega)).1 _
           | some l2 =>
             simp only
             cases hx:Zdd 4 0 l2 with
             | err e r=>rfl
             | ok m l3 =>
               have e:=Zbw hb
               have hl3:=(Zb3 4 hx).1
               simp only [Out.bind_ok]
               rw [e] at hl
               simp only [List.length_cons] at hl
               by_cases hm:ZoY m=true
               ·have hm':56320≤m∧m<57344:=by simpa [ZoY] using hm
                rw [if_pos hm,if_pos hm']
                exact (ih l3 (by omega)).1 _
               ·have hm':¬ (56320≤m∧m<57344):=by simpa [ZoY] using hm
                rw [if_neg hm,if_neg hm',ZmU hk]
                exact (ih l1 (by rw [e];simp only [List.length_cons];omega)).1 _
          ·have hk':¬ (55296≤k∧k<56320):=by simpa [Zkb] using hk
           rw [if_neg hk',show Zgw none out (.uni k)=(none,out++ZbT (ZeK k)) by simp [Zgw,hk]]
           exact (ih l1 (by omega)).1 _
       ·rw [if_neg hd,if_neg hd];rfl
    split
    ·simp only [flB,List.append_nil];exact (ih l (by simpa using h)).1 _
    ·cases hr:Xo (c::l) with
     | err e r=>rfl
     | ok t r=>simp only [Out.bind_ok,flB,List.append_nil];exact (ih r (by have:=(Za9 hr).1;simp at this h;omega)).1 _
end Go.Js
namespace Go.Proofs.YtpjbjdheeemdiaaGreatDoor
open Go Go.Fw Go.Js
theorem Zaq.keep {h h':Zc} (t:Zaq h) (he:∀ k,k<9→k<sz h→obj h' k=obj h k):Zaq h':=by
  have cell:∀ {b o:Nat} {v:Value},b<9→h.cell b o=some v→h'.cell b o=some v:=fun {b o v} hb hc=>by
    rw [← hc];exact Zg6 (he b hb (Zm9 hc)) o
  have wc:∀ (w:World) (b o:Nat) (v:Value),b<9→World.cell? { w with heap:=h } ⟨b,o,none⟩=some v→w.heap=h'→w.cell? ⟨b,o,none⟩=some v:=fun w b o v hb hc hw=>by
    have:b<sz h:=by
      rcases Nat.lt_or_ge b h.size with h9 | h9
      ·exact h9
      ·simp [World.cell?,Array.getElem?_eq_none h9] at hc
    have e:=he b hb this
    unfold obj at e
    rw [← hc]
    subst hw
    simp only [World.cell?,e]
  refine ⟨fun w hw=>?_,fun w hw=>?_,?_,?_,?_⟩
  ·have:=t.utf { w with heap:=h } rfl
   exact ⟨fun c hc=>wc w _ _ _ (by decide) (this.1 c hc) hw,fun i hi=>⟨wc w _ _ _ (by decide) (this.2 i hi).1 hw,wc w _ _ _ (by decide) (this.2 i hi).2 hw⟩⟩
  ·have h1:=t.pow { w with heap:=h } rfl
   unfold Lib.TabIs World.var? at h1 ⊢
   have hg:Tryz.prog.globalNamed "internal/strconv.uint64pow10" = some 6:=by kernel_rfl
   rw [hg] at h1 ⊢
   simp only [Option.bind_some] at h1 ⊢
   have:6<sz h:=by
     rcases Nat.lt_or_ge 6 h.size with h9 | h9
     ·exact h9
     ·rw [Array.getElem?_eq_none h9] at h1;cases h1
   have e:=he _ (by decide) this
   unfold obj at e
   subst hw
   rw [e];exact h1
  ·obtain ⟨a,b,c⟩:=t.range;exact ⟨a,b,cell (by decide) c⟩
  ·obtain ⟨a,b,c⟩:=t.syn;exact ⟨a,b,cell (by decide) c⟩
  ·obtain ⟨a,c⟩:=t.most;exact ⟨a,cell (by decide) c⟩
theorem Zaq.upd {S:Nat→Prop} {h h':Zc} (t:Zaq h) (u:Upd S h h') (hs:∀ k,S k→9≤k):Zaq h' :=
  t.keep fun k hk hl=>Yt u hl fun h9=>by have:=hs k h9;omega
theorem Zaq.ext {h h':Zc} (t:Zaq h) (u:Ext h h'):Zaq h':=t.keep fun k _ hl=>Ym u hl
structure Buf (h:Zc) (base:Nat) (x:Sl) (l:BL):Prop where
  len:x.len=l.length
  cap:x.len≤x.cap
  big:x.cap<9223372036854775808
  at_:(x.ptr=none∧x.cap=0)∨∃ (b:Nat) (c:List Value),x.ptr=some ⟨b,0,none⟩∧base≤b∧obj h b=some (.cells c.toArray 5 (0,0))∧c.length=x.cap∧l.map bv=c.take x.len∧l≠[]
theorem Buf.nil (h:Zc) (base:Nat):Buf h base ⟨none,0,0⟩ []:=⟨rfl,Nat.le_refl _,by decide,.inl ⟨rfl,rfl⟩⟩
theorem Buf.congr {h h':Zc} {base:Nat} {x:Sl} {l:BL} (hb:Buf h base x l) (he:∀ b,x.blk=some b→b<sz h→obj h' b=obj h b):Buf h' base x l:=by
  refine ⟨hb.len,hb.cap,hb.big,?_⟩
  rcases hb.at_ with h0 | ⟨b,c,hp,hbb,hc,hr⟩
  ·exact .inl h0
  ·exact .inr ⟨b,c,hp,hbb,(he b (by simp [Sl.blk,hp]) (ZaQ hc)).trans hc,hr⟩
theorem Buf.lt {h:Zc} {base:Nat} {x:Sl} {l:BL} (hb:Buf h base x l) {b:Nat} (e:x.blk=some b):base≤b∧b<sz h:=by
  rcases hb.at_ with ⟨hp,_⟩ | ⟨b',c,hp,hbb,hc,_⟩
  ·simp [Sl.blk,hp] at e
  ·simp [Sl.blk,hp] at e
   subst e
   exact ⟨hbb,ZaQ hc⟩
theorem Zix {h:Zc} {b o:Nat} {vs c:List Value} {e:TypeId} {f:Nat × Nat} (hb:obj h b=some (.cells c.toArray e f)):obj (h.puts b o vs) b=some (.cells (YW o vs c).toArray e f):=by
  rw [Zad,if_pos rfl,hb,Y5]
theorem Zbt:∀ (vs:List Value) (o:Nat) (c:List Value),(YW o vs c).length=c.length
  | [],o,c=>rfl
  | v::vs,o,c=>by unfold YW;rw [Zbt vs];simp
theorem ZcH:∀ (vs:List Value) (o:Nat) (c:List Value),o+vs.length≤c.length→(YW o vs c).take (o+vs.length)=c.take o++vs
  | [],o,c,h=>by simp [YW]
  | v::vs,o,c,h=>by
    simp only [List.length_cons] at h
    unfold YW
    rw [show o+(v::vs).length=(o+1)+vs.length by simp;omega,ZcH vs (o+1) (c.set o v) (by simp;omega)]
    rw [List.take_add_one,List.getElem?_set_self (by omega),List.take_set_of_le (Nat.le_refl _)]
    simp
theorem Ziv (l:BL):(l.map bv).all ZW=true:=by
  rw [List.all_eq_true]
  intro v hv
  obtain ⟨b,_,rfl⟩:=List.mem_map.1 hv
  exact Zby
theorem Buf.app {h:Zc} {base:Nat} {x:Sl} {l new:BL} {n:Nat} {cells:List Value} {K:Sl→Zc→Prop} (hb:Buf h base x l) (hbase:base≤sz h) (hn:n=new.length) (hc:cells=new.map bv) (hs:l.length+new.length≤1000000000)
    (hk:∀ x' h',Buf h' base x' (l++new)→Upd (fun k=>base≤k) h h'→sz h≤sz h'→K x' h'):Fw.app 5 1 1 [.int .u8 0] x n cells h K:=by
  subst hn hc
  have hlen:=hb.len
  have hcap:=hb.cap
  refine ⟨fun hroom=>?_,fun hgt=>⟨by omega,by omega,?_⟩⟩
  ·rcases hb.at_ with ⟨hp,h0⟩ | ⟨b,c,hp,hbb,hblk,hcl,hv,hne⟩
   ·left
    have hl0:new=[]:=List.eq_nil_of_length_eq_zero (by omega)
    subst hl0
    refine ⟨rfl,?_⟩
    have:l=[]:=List.eq_nil_of_length_eq_zero (by omega)
    subst this
    refine hk _ _ ⟨?_,hroom,hb.big,.inl ⟨hp,h0⟩⟩ (Upd.refl _ _) (Nat.le_refl _)
    simpa using hlen
   ·right
    refine ⟨b,0,hp,Zc8 hblk (by simp [hcl];omega),Ziv new,?_⟩
    have hp1:=Zix (o:=0+x.len*1) (vs:=new.map bv) hblk
    refine hk _ _ ⟨by simp [hlen],hroom,hb.big,.inr ⟨b,_,hp,hbb,hp1,by rw [Zbt];exact hcl,?_,by simp [hne]⟩⟩ ((Upd.puts h b _ _).mono fun k _ hk=>by subst hk;exact hbb) (by rw [Zct];exact Nat.le_refl _)
    have:=ZcH (new.map bv) (0+x.len*1) c (by simp [hcl];omega)
    simp only [List.length_map] at this
    rw [List.map_append,hv]
    simpa using this.symm
  ·have hrow:rdS x 1 h fun old=>old=l.map bv:=by
     rcases hb.at_ with ⟨hp,h0⟩ | ⟨b,c,hp,hbb,hblk,hcl,hv,_⟩
     ·have:l=[]:=List.eq_nil_of_length_eq_zero (by omega)
      subst this
      exact .inl ⟨by simpa using hlen,rfl⟩
     ·refine .inr ⟨b,0,l.map bv,hp,by simp [hlen],ZcJ hblk fun i v hi=>?_,rfl⟩
      rw [hv,List.getElem?_take] at hi
      split at hi
      ·simpa using hi
      ·cases hi
   have next:∀ cap,x.len+new.length≤cap→cap<9223372036854775808→K ⟨some ⟨h.size,0,none⟩,x.len+new.length,cap⟩ (h.push (.cells (l.map bv++new.map bv++YZ [.int .u8 0] (cap - (x.len+new.length))).toArray 5)):=fun cap h1 h2=>by
     refine hk _ _ ⟨by simp [hlen],h1,h2,.inr ⟨h.size,_,rfl,hbase,ZdP,?_,?_,fun h9=>by have h8:=congrArg List.length h9;rw [List.length_append,List.length_nil] at h8;omega⟩⟩ ((Ext.push h _).upd _) (by rw [Zl2];omega)
     ·simp only [List.length_append,List.length_map,Zbx,List.length_singleton];omega
     ·rw [List.map_append,List.take_append_of_le_length (by simp [hlen]),List.take_of_length_le (by simp [hlen])]
   rcases hrow with ⟨a,b⟩ | ⟨b,o,vs,a1,a2,a3,a4⟩
   ·refine .inl ⟨a,?_⟩
    have:l=[]:=by cases l with | nil=>rfl | cons c l=>cases b
    subst this
    exact next
   ·exact .inr ⟨b,o,vs,a1,a2,a3,by rw [a4];exact next⟩
def Zrx (T:TypeId):Prop:=T=188∨T=190
def Bld (h:Zc) (B:Nat) (T:TypeId) (out:BL):Prop:=Zrx T∧∃ (c:Value) (x:Sl),obj h B=some (.cells [c,slV x].toArray T (0,0))∧(c = .pointer none∨c = .pointer (At B))∧Buf h (B+1) x out
theorem Bld.lt {h:Zc} {B:Nat} {T:TypeId} {out:BL} (hb:Bld h B T out):B<sz h:=by
  obtain ⟨_,c,x,b,_⟩:=hb
  exact ZaQ b
theorem Bld.congr {h h':Zc} {B:Nat} {T:TypeId} {out:BL} (hb:Bld h B T out) (he:∀ b,B≤b→b<sz h→obj h' b=obj h b):Bld h' B T out:=by
  obtain ⟨hT,c,x,b,hc,hx⟩:=id hb
  exact ⟨hT,c,x,(he B (Nat.le_refl _) hb.lt).trans b,hc,hx.congr fun k hk hl=>he k (by have:=(hx.lt hk).1;omega) hl⟩
theorem Bld.upd {S:Nat→Prop} {h h':Zc} {B:Nat} {T:TypeId} {out:BL} (hb:Bld h B T out) (u:Upd S h h') (hs:∀ k,S k→k<B):Bld h' B T out :=
  hb.congr fun b h1 h2=>Yt u h2 fun h9=>by have:=hs b h9;omega
theorem ZfW {h:Zc} {B:Nat} {T:TypeId} {out:BL} (hb:Bld h B T out) {K:HP} (hk:∀ h' x,Bld h' B T out→Upd (fun k=>B≤k) h h'→obj h' B=some (.cells [.pointer (At B),slV x].toArray T (0,0))→Buf h' (B+1) x out→sz h'=sz h→K h'):Zx (At B) K h:=by
  obtain ⟨hT,c,x,b,hc,hx⟩:=hb
  refine ⟨B,c,slV x,T,rfl,b,hT,?_⟩
  rcases hc with rfl | rfl
  ·left
   refine ⟨rfl,?_⟩
   have hp:obj (h.put B 0 (.pointer (some ⟨B,0,none⟩))) B=some (.cells [.pointer (At B),slV x].toArray T (0,0)):=by rw [Zfs,if_pos rfl,b,ZcE];rfl
   have hbuf:Buf (h.put B 0 (.pointer (some ⟨B,0,none⟩))) (B+1) x out:=hx.congr fun k hk hl=>by rw [Zfs,if_neg (by have:=(hx.lt hk).1;omega)]
   exact hk _ x ⟨hT,_,x,hp,.inr rfl,hbuf⟩ ((Upd.put h B 0 _).mono fun k _ hk=>by subst hk;exact Nat.le_refl _) hp hbuf ZoI
  ·exact .inr ⟨rfl,hk h x ⟨hT,_,x,b,.inr rfl,hx⟩ (Upd.refl _ _) b hx rfl⟩
theorem ZjA {h:Zc} {B:Nat} {T:TypeId} {out:BL} {x x':Sl} {h':Zc} (hT:Zrx T) (hb:obj h B=some (.cells [.pointer (At B),slV x].toArray T (0,0))) (u:Upd (fun k=>B+1≤k) h h') (hx:Buf h' (B+1) x' out) {K:HP}
    (hk:∀ h9,Bld h9 B T out→Upd (fun k=>B≤k) h h9→obj h9 B=some (.cells [.pointer (At B),slV x'].toArray T (0,0))→K h9):Ze (At B) fun b7 o8=>st h' b7 (o8+1) (.slice x'.ptr x'.len x'.cap) K:=by
  have hb':obj h' B=some (.cells [.pointer (At B),slV x].toArray T (0,0)):=Yq hb u (by omega)
  refine ZP (ZjZ hb' (by simp) Ziu fun h9 c9 u9 z9=>hk h9 ?_ ?_ ?_)
  ·exact ⟨hT,_,x',c9,.inr rfl,hx.congr fun k hk hl=>Yt u9 hl (by have:=(hx.lt hk).1;omega)⟩
  ·exact (u.mono fun k _ hk=>by omega).trans (u9.mono fun k _ hk=>by subst hk;exact Nat.le_refl _)
  ·exact c9
theorem Ze0 {h:Zc} {B:Nat} {T:TypeId} {out:BL} (hb:Bld h B T out) {c:UInt8} {n:Int} (hn:n=c.toNat) (hs:out.length<900000000) {K:Value→HP} (hk:∀ h',Bld h' B T (out++[c])→Upd (fun k=>B≤k) h h'→K .nilIface h'):Zl (At B) n K h:=by
  subst hn
  unfold Zl Ye
  refine ZfW hb fun h1 x b1 u1 c1 hx z1=>ZP (rL (Zm c1 rfl) ?_)
  refine Zst [c] 1 rfl rfl (by decide) fun b3 h4 hr e4 _=>hr.rd ?_
  have hx4:=hx.congr (h':=h4) fun k hk hl=>Ym e4 hl
  refine hx4.app (new:=[c]) (by have:=b1.lt;have:=e4.size;have:sz h1=h1.size:=rfl;have:sz h4=h4.size:=rfl;omega) rfl rfl (by simp;omega) fun x' h6 hx6 u6 z6=>?_
  exact ZjA b1.1 (YK c1 e4) u6 hx6 fun h9 b9 u9 _=>hk h9 b9 (u1.trans ((e4.upd _).trans u9))
theorem ZiY {h:Zc} {B:Nat} {T:TypeId} {out:BL} (hb:Bld h B T out) {s:ByteArray} (hs:out.length+s.size<900000000) {K:Int→Value→HP} (hk:∀ h',Bld h' B T (out++s.data.toList)→Upd (fun k=>B≤k) h h'→K s.size .nilIface h'):Zk (At B) s K h:=by
  unfold Zk Z7
  refine Za (ZfW hb fun h1 x b1 u1 c1 hx z1=>ZP (rL (Zm c1 rfl) ?_))
  refine hx.app (new:=s.data.toList) (by have:=b1.lt;omega) (by simp) rfl (by simp;omega) fun x' h6 hx6 u6 z6=>?_
  exact ZjA b1.1 c1 u6 hx6 fun h9 b9 u9 _=>Za (hk h9 b9 (u1.trans u9))
theorem Zfc {h:Zc} {B:Nat} {T:TypeId} {out:BL} (hb:Bld h B T out) {K:ByteArray→HP} (hk:∀ h',Upd (fun k=>B≤k) h h'→K (Zd out) h'):ZS (At B) K h:=by
  obtain ⟨hT,c,x,b,hc,hx⟩:=hb
  refine ⟨B,c,x,T,rfl,b,?_⟩
  have hl:=hx.len
  rcases hx.at_ with ⟨hp,h0⟩ | ⟨g,cs,hp,hbb,hblk,hcl,hv,hne⟩
  ·left
   have hcap:=hx.cap
   have:out=[]:=List.eq_nil_of_length_eq_zero (by omega)
   subst this
   exact ⟨hp,by simpa using hl,h0,hk h (Upd.refl _ _)⟩
  ·right
   have hlen:0<out.length:=List.length_pos_iff.2 hne
   refine ⟨g,Zd out,cs.toArray,(0,0),hp,by omega,by simp [hl,Zd,ByteArray.size],by simp [Zd,ByteArray.size];exact hne,hx.cap,by simp [hcl],hx.big,hblk,?_,fun h' u=>hk h' (u.mono fun k _ hk=>by subst hk;omega)⟩
   refine ZcJ hblk fun i v hi=>?_
   have:YY (Zd out)=out.map bv:=by unfold YY bv;simp
   rw [this,hv,List.getElem?_take] at hi
   split at hi
   ·simpa using hi
   ·cases hi
end Go.Proofs.YtpjbjdheeemdiaaGreatDoor
namespace Go.Js
open Go
def fin {α:Type} (y:Out α):Prop:=(∃ a,y = .ok a [])∨y = .err 24 []
def Blk (b:BL):Prop:=∀ c∈b,Z1 c=true
structure Sf {α:Type} (p:BL→Out α):Prop where
  suf:∀ {l a r},p l = .ok a r→r <:+l
  esuf:∀ {l e r},p l = .err e r→r <:+l∧(e=24↔r=[])
structure Pe (n:Nat) {α:Type} (p:BL→Out α):Prop where
  ext:∀ {x c r a},x.length<n→p (x++c::r) = .ok a (c::r)→∀ o,p (x++c::o) = .ok a (c::o)
  eext:∀ {x c r e},x.length<n→p (x++c::r) = .err e (c::r)→∀ o,p (x++c::o) = .err e (c::o)
  cutO:∀ {x c r a},x.length<n→p (x++c::r) = .ok a (c::r)→p x = .ok a []
  cutE:∀ {x c r e},x.length<n→p (x++c::r) = .err e (c::r)→fin (p x)
structure Pb (n:Nat) {α:Type} (s:Bool) (p:BL→Out α):Prop where
  bl:∀ {x b},x.length<n→x≠[]→p x = .err 24 []→Blk b→∃ e r,p (x++b) = .err e r∧r <:+b
  blo:∀ {x b a},x.length<n→x≠[]→p x = .ok a []→Blk b→∃ b',p (x++b) = .ok a b'∧b' <:+b∧(s=true→b'=b)
structure Bn {α:Type} (s:Bool) (p:BL→Out α):Prop where
  bl:∀ {b},p [] = .err 24 []→Blk b→∃ e r,p b = .err e r∧r <:+b
  blo:∀ {b a},p [] = .ok a []→Blk b→∃ b',p b = .ok a b'∧b' <:+b∧(s=true→b'=b)
structure St {α:Type} (k:Nat) (p:BL→Out α):Prop where
  len:∀ {l a r},p l = .ok a r→r.length+k≤l.length
theorem Blk.suf {b b':BL} (h:Blk b) (hs:b' <:+b):Blk b':=fun c hc=>h c (hs.subset hc)
theorem Blk.tail {c:UInt8} {b:BL} (h:Blk (c::b)):Blk b:=fun d hd=>h d (by simp [hd])
theorem Zbj {c:UInt8} (h:Z1 c=true):c=32∨c=9∨c=10∨c=13:=by
  simpa [Z1,or_assoc] using h
theorem ZfO {P:UInt8→Bool}:∀ {l:BL},l.dropWhile P=[]↔∀ c∈l,P c=true
  | []=>by simp
  | d::l=>by
    by_cases hd:P d=true
    ·rw [List.dropWhile_cons_of_pos hd,ZfO (l:=l)]
     simp [hd]
    ·rw [List.dropWhile_cons_of_neg hd]
     simp [hd]
theorem ZjT {b:BL} (h:Blk b):Z3 b=[]:=by
  unfold Z3
  rw [ZfO]
  exact h
theorem Zhs {b l:BL} (h:Blk b):Z3 (b++l)=Z3 l:=by
  unfold Z3
  exact List.dropWhile_append_of_pos h
theorem Zj7 {x l1 w:BL} (h1:w <:+l1) (h2:l1 <:+x++w):∃ z y,x=z++y∧l1=y++w:=by
  obtain ⟨y,rfl⟩:=h1
  obtain ⟨z,hz⟩:=h2
  refine ⟨z,y,?_,rfl⟩
  rw [← List.append_assoc] at hz
  exact (List.append_cancel_right hz).symm
theorem Sf.nil {α:Type} {p:BL→Out α} (h:Sf p):fin (p []):=by
  cases e:p [] with
  | ok a r=>have:=h.suf e;rw [List.suffix_nil] at this;subst this;exact .inl ⟨a,rfl⟩
  | err k r =>
    obtain ⟨a,b⟩:=h.esuf e
    rw [List.suffix_nil] at a
    subst a
    rw [b.2 rfl];exact .inr rfl
theorem Sf.st {α:Type} {p:BL→Out α} (h:Sf p):St 0 p:=⟨fun e=>(h.suf e).length_le⟩
theorem Pe.ok {n:Nat} {α:Type} {p:BL→Out α} (h:Pe n p) {z y w:BL} {a:α} (hz:z.length<n) (hy:y≠[]) (e:p (z++(y++w)) = .ok a (y++w)) (w':BL):p (z++(y++w')) = .ok a (y++w'):=by
  rcases y with _ | ⟨d,y⟩
  ·exact absurd rfl hy
  ·exact h.ext hz e (y++w')
section
variable {α β:Type} {p:BL→Out α} {f:α→BL→Out β}
theorem Sf.bind (hp:Sf p) (hf:∀ a,Sf (f a)):Sf fun l=>(p l).bind f where
  suf:=fun h=>by
    obtain ⟨a,l1,h1,h2⟩:=ZJ h
    exact ((hf a).suf h2).trans (hp.suf h1)
  esuf:=fun {l e r} h=>by
    cases h1:p l with
    | ok a l1 =>
      rw [h1] at h
      exact ⟨((hf a).esuf h).1.trans (hp.suf h1),((hf a).esuf h).2⟩
    | err k q =>
      rw [h1] at h
      cases h
      exact hp.esuf h1
theorem St.bind {k m:Nat} (hp:St k p) (hf:∀ a,St m (f a)):St (k+m) fun l=>(p l).bind f:=⟨fun {l b r} h=>by
  obtain ⟨a,l1,h1,h2⟩:=ZJ h
  have:=hp.len h1
  have:=(hf a).len h2
  omega⟩
theorem Pe.bind {m k:Nat} (hp:Pe (m+k) p) (hs:Sf p) (hk:St k p) (hf:∀ a,Pe m (f a)) (hg:∀ a,Sf (f a)):Pe (m+k) fun l=>(p l).bind f where
  ext:=fun {x c r b} hx h o=>by
    obtain ⟨a,l1,h1,h2⟩:=ZJ h
    obtain ⟨z,y,rfl,rfl⟩:=Zj7 ((hg a).suf h2) (hs.suf h1)
    have hl:=hk.len h1
    simp only [List.length_append,List.length_cons] at hl hx
    rcases y with _ | ⟨d,y⟩
    ·simp only [List.append_nil,List.nil_append] at h1 h2 ⊢
     rw [hp.ext (by omega) h1 o]
     exact (hf a).ext (x:=[]) (by simp at hx hl ⊢;omega) h2 o
    ·rw [List.append_assoc] at h1 ⊢
     rw [hp.ok (by omega) (by simp) h1 (c::o)]
     exact (hf a).ext (by simp at hx hl ⊢;omega) h2 o
  eext:=fun {x c r e} hx h o=>by
    cases h1:p (x++c::r) with
    | err k q=>rw [h1] at h;cases h;rw [hp.eext hx h1 o];rfl
    | ok a l1 =>
      rw [h1] at h
      have h2:f a l1 = .err e (c::r):=h
      obtain ⟨z,y,rfl,rfl⟩:=Zj7 ((hg a).esuf h2).1 (hs.suf h1)
      have hl:=hk.len h1
      simp only [List.length_append,List.length_cons] at hl hx
      rcases y with _ | ⟨d,y⟩
      ·simp only [List.append_nil,List.nil_append] at h1 h2 ⊢
       rw [hp.ext (by omega) h1 o]
       exact (hf a).eext (x:=[]) (by simp at hx hl ⊢;omega) h2 o
      ·rw [List.append_assoc] at h1 ⊢
       rw [hp.ok (by omega) (by simp) h1 (c::o)]
       exact (hf a).eext (by simp at hx hl ⊢;omega) h2 o
  cutO:=fun {x c r b} hx h=>by
    obtain ⟨a,l1,h1,h2⟩:=ZJ h
    obtain ⟨z,y,rfl,rfl⟩:=Zj7 ((hg a).suf h2) (hs.suf h1)
    have hl:=hk.len h1
    simp only [List.length_append,List.length_cons] at hl hx
    rcases y with _ | ⟨d,y⟩
    ·simp only [List.append_nil,List.nil_append] at h1 h2 ⊢
     rw [hp.cutO (by omega) h1]
     exact (hf a).cutO (x:=[]) (by simp at hx hl ⊢;omega) h2
    ·rw [List.append_assoc] at h1
     have:=hp.ok (by omega) (by simp) h1 []
     rw [List.append_nil] at this
     rw [this]
     exact (hf a).cutO (by simp at hx hl ⊢;omega) h2
  cutE:=fun {x c r e} hx h=>by
    cases h1:p (x++c::r) with
    | err k q =>
      rw [h1] at h;cases h
      rcases hp.cutE hx h1 with ⟨a,ha⟩ | ha
      ·rw [ha];exact (hg a).nil
      ·rw [ha];exact .inr rfl
    | ok a l1 =>
      rw [h1] at h
      have h2:f a l1 = .err e (c::r):=h
      obtain ⟨z,y,rfl,rfl⟩:=Zj7 ((hg a).esuf h2).1 (hs.suf h1)
      have hl:=hk.len h1
      simp only [List.length_append,List.length_cons] at hl hx
      rcases y with _ | ⟨d,y⟩
      ·simp only [List.append_nil,List.nil_append] at h1 h2 ⊢
       rw [hp.cutO (by omega) h1]
       exact (hg a).nil
      ·rw [List.append_assoc] at h1
       have:=hp.ok (by omega) (by simp) h1 []
       rw [List.append_nil] at this
       rw [this]
       exact (hf a).cutE (by simp at hx hl ⊢;omega) h2
theorem Bn.bind {s s':Bool} (hp:Bn s p) (hs:Sf p) (hf:∀ a,Bn s' (f a)):Bn (s&&s') fun l=>(p l).bind f where
  bl:=fun {b} h hb=>by
    rcases hs.nil with ⟨a,ha⟩ | ha
    ·rw [ha] at h
     obtain ⟨b',e,hb',_⟩:=hp.blo ha hb
     rw [e]
     obtain ⟨k,r,e2,h2⟩:=(hf a).bl h (hb.suf hb')
     exact ⟨k,r,e2,h2.trans hb'⟩
    ·obtain ⟨k,r,e2,h2⟩:=hp.bl ha hb
     rw [e2];exact ⟨k,r,rfl,h2⟩
  blo:=fun {b a'} h hb=>by
    rcases hs.nil with ⟨a,ha⟩ | ha
    ·rw [ha] at h
     obtain ⟨b',e,hb',f1⟩:=hp.blo ha hb
     rw [e]
     obtain ⟨b2,e2,h2,f2⟩:=(hf a).blo h (hb.suf hb')
     refine ⟨b2,e2,h2.trans hb',fun hh=>?_⟩
     simp only [Bool.and_eq_true] at hh
     rw [f2 hh.2,f1 hh.1]
    ·rw [ha] at h;cases h
theorem Pb.bind {m k:Nat} {s s':Bool} (he:Pe (m+k) p) (hp:Pb (m+k) s p) (hs:Sf p) (hk:St k p) (hf:∀ a,Pb m s' (f a)) (hn:∀ a,Bn s' (f a)):Pb (m+k) (s&&s') fun l=>(p l).bind f where
  bl:=fun {x b} hx hne h hb=>by
    cases h1:p x with
    | err e q =>
      rw [h1] at h;cases h
      obtain ⟨k,r,e2,h2⟩:=hp.bl hx hne h1 hb
      rw [e2];exact ⟨k,r,rfl,h2⟩
    | ok a l1 =>
      rw [h1] at h
      have h2:f a l1 = .err 24 []:=h
      have hl:=hk.len h1
      rcases l1 with _ | ⟨d,y⟩
      ·obtain ⟨b',e,hb',_⟩:=hp.blo hx hne h1 hb
       rw [e]
       obtain ⟨k,r,e2,h3⟩:=(hn a).bl h2 (hb.suf hb')
       exact ⟨k,r,e2,h3.trans hb'⟩
      ·obtain ⟨z,rfl⟩:=hs.suf h1
       simp only [List.length_append] at hx hl
       have:=he.ok (z:=z) (w:=[]) (y:=d::y) (by omega) (by simp) (by simpa using h1) b
       rw [List.append_assoc,this]
       exact (hf a).bl (x:=d::y) (by omega) (by simp) h2 hb
  blo:=fun {x b a'} hx hne h hb=>by
    cases h1:p x with
    | err e q=>rw [h1] at h;cases h
    | ok a l1 =>
      rw [h1] at h
      have h2:f a l1 = .ok a' []:=h
      have hl:=hk.len h1
      rcases l1 with _ | ⟨d,y⟩
      ·obtain ⟨b',e,hb',f1⟩:=hp.blo hx hne h1 hb
       rw [e]
       obtain ⟨b2,e2,h3,f2⟩:=(hn a).blo h2 (hb.suf hb')
       refine ⟨b2,e2,h3.trans hb',fun hh=>?_⟩
       simp only [Bool.and_eq_true] at hh
       rw [f2 hh.2,f1 hh.1]
      ·obtain ⟨z,rfl⟩:=hs.suf h1
       simp only [List.length_append] at hx hl
       have:=he.ok (z:=z) (w:=[]) (y:=d::y) (by omega) (by simp) (by simpa using h1) b
       rw [List.append_assoc,this]
       obtain ⟨b2,e2,h3,f2⟩:=(hf a).blo (x:=d::y) (by omega) (by simp) h2 hb
       exact ⟨b2,e2,h3,fun hh=>f2 (by simp only [Bool.and_eq_true] at hh;exact hh.2)⟩
end
def hdP {α:Type} (e0:Out α) (f:UInt8→BL→Out α):BL→Out α
  | []=>e0
  | c::l=>f c (c::l)
def tlP {α:Type} (g:BL→Out α):BL→Out α
  | []=> .err 24 []
  | _::l=>g l
def okP {α:Type} (a:α):BL→Out α:=fun l=> .ok a l
section
variable {α:Type} {n:Nat}
theorem Zo0 {e0:Out α} {f:UInt8→BL→Out α} (h0:fin e0) (hf:∀ c,Sf (f c)):Sf (hdP e0 f) where
  suf:=fun {l a r} h=>by
    rcases l with _ | ⟨c,l⟩
    ·rcases h0 with ⟨b,h0⟩ | h0<;>(rw [show hdP e0 f []=e0 from rfl,h0] at h;cases h)
     exact List.suffix_refl _
    ·exact (hf c).suf h
  esuf:=fun {l a r} h=>by
    rcases l with _ | ⟨c,l⟩
    ·rcases h0 with ⟨b,h0⟩ | h0<;>(rw [show hdP e0 f []=e0 from rfl,h0] at h;cases h)
     simp
    ·exact (hf c).esuf h
theorem Zkd {e0:Out α} {f:UInt8→BL→Out α} (h0:e0 = .err 24 []∨∃ a,e0 = .ok a []∧∀ c r b,f c (c::r) = .ok b (c::r)→b=a) (hz:(∀ c r b,f c (c::r) = .ok b (c::r)→e0≠ .err 24 [])) (hf:∀ c,Pe n (f c)):Pe n (hdP e0 f) where
  ext:=fun {x c r a} hx h o=>by
    rcases x with _ | ⟨d,x⟩
    ·exact (hf c).ext (x:=[]) hx h o
    ·exact (hf d).ext hx h o
  eext:=fun {x c r a} hx h o=>by
    rcases x with _ | ⟨d,x⟩
    ·exact (hf c).eext (x:=[]) hx h o
    ·exact (hf d).eext hx h o
  cutO:=fun {x c r a} hx h=>by
    rcases x with _ | ⟨d,x⟩
    ·rcases h0 with h0 | ⟨b,h0,h1⟩
     ·exact absurd h0 (hz c r a h)
     ·rw [show hdP e0 f []=e0 from rfl,h0,h1 c r a h]
    ·exact (hf d).cutO hx h
  cutE:=fun {x c r a} hx h=>by
    rcases x with _ | ⟨d,x⟩
    ·rcases h0 with h0 | ⟨b,h0,_⟩
     ·exact .inr h0
     ·exact .inl ⟨b,h0⟩
    ·exact (hf d).cutE hx h
theorem Zke {s:Bool} {e0:Out α} {f:UInt8→BL→Out α} (hf:∀ c,Pb n s (f c)):Pb n s (hdP e0 f) where
  bl:=fun {x b} hx hne h hb=>by
    rcases x with _ | ⟨d,x⟩
    ·exact absurd rfl hne
    ·exact (hf d).bl hx hne h hb
  blo:=fun {x b a} hx hne h hb=>by
    rcases x with _ | ⟨d,x⟩
    ·exact absurd rfl hne
    ·exact (hf d).blo hx hne h hb
theorem Zrd {s:Bool} {f:UInt8→BL→Out α} (hf:∀ c,Z1 c=true→∃ e,f c=YS e):Bn s (hdP (.err 24 []) f) where
  bl:=fun {b} _ hb=>by
    rcases b with _ | ⟨c,b⟩
    ·exact ⟨24,[],rfl,List.suffix_refl _⟩
    ·obtain ⟨e,he⟩:=hf c (hb c (by simp))
     exact ⟨e,c::b,by rw [show hdP (.err 24 []) f (c::b)=f c (c::b) from rfl,he];rfl,List.suffix_refl _⟩
  blo:=fun h=>by cases h
theorem ZpC {s:Bool} {a0:α} {f:UInt8→BL→Out α} (hf:∀ c,Z1 c=true→f c=okP a0):Bn s (hdP (.ok a0 []) f) where
  bl:=fun h=>by cases h
  blo:=fun {b a} h hb=>by
    cases h
    rcases b with _ | ⟨c,b⟩
    ·exact ⟨[],rfl,List.suffix_refl _,fun _=>rfl⟩
    ·exact ⟨c::b,by rw [show hdP (.ok a0 []) f (c::b)=f c (c::b) from rfl,hf c (hb c (by simp))];rfl,List.suffix_refl _,fun _=>rfl⟩
theorem ZfE {e0:Out α} {f:UInt8→BL→Out α} {k:Nat} (h0:∀ a r,e0 = .ok a r→r.length+k≤0) (hf:∀ c,St k (f c)):St k (hdP e0 f):=⟨fun {l a r} h=>by
  rcases l with _ | ⟨c,l⟩
  ·exact h0 a r h
  ·exact (hf c).len h⟩
theorem ZqK {g:BL→Out α} (hg:Sf g):Sf (tlP g) where
  suf:=fun {l a r} h=>by
    rcases l with _ | ⟨c,l⟩
    ·cases h
    ·exact Y4 (hg.suf h)
  esuf:=fun {l a r} h=>by
    rcases l with _ | ⟨c,l⟩
    ·cases h;simp
    ·exact ⟨Y4 (hg.esuf h).1,(hg.esuf h).2⟩
theorem Xg {g:BL→Out α} {k:Nat} (hg:St k g):St (k+1) (tlP g):=⟨fun {l a r} h=>by
  rcases l with _ | ⟨c,l⟩
  ·cases h
  ·have:=hg.len (l:=l) h;simp;omega⟩
theorem Zc6 {P:Prop} {c:UInt8} {r l:BL} (h:c::r <:+l) (hl:l.length≤r.length):P:=by
  have:=h.length_le;simp at this;omega
theorem Zgy {g:BL→Out α} (hs:Sf g) (hg:Pe n g):Pe (n+1) (tlP g) where
  ext:=fun {x c r a} hx h o=>by
    rcases x with _ | ⟨d,x⟩
    ·exact Zc6 (hs.suf (l:=r) h) (Nat.le_refl _)
    ·exact hg.ext (by simpa using hx) h o
  eext:=fun {x c r a} hx h o=>by
    rcases x with _ | ⟨d,x⟩
    ·exact Zc6 (hs.esuf (l:=r) h).1 (Nat.le_refl _)
    ·exact hg.eext (by simpa using hx) h o
  cutO:=fun {x c r a} hx h=>by
    rcases x with _ | ⟨d,x⟩
    ·exact Zc6 (hs.suf (l:=r) h) (Nat.le_refl _)
    ·exact hg.cutO (by simpa using hx) h
  cutE:=fun {x c r a} hx h=>by
    rcases x with _ | ⟨d,x⟩
    ·exact Zc6 (hs.esuf (l:=r) h).1 (Nat.le_refl _)
    ·exact hg.cutE (by simpa using hx) h
theorem Zgz {s:Bool} {g:BL→Out α} (hg:Pb n s g) (hn:Bn s g):Pb (n+1) s (tlP g) where
  bl:=fun {x b} hx hne h hb=>by
    rcases x with _ | ⟨d,_ | ⟨d2,x⟩⟩
    ·exact absurd rfl hne
    ·exact hn.bl h hb
    ·exact hg.bl (x:=d2::x) (by simpa using hx) (by simp) h hb
  blo:=fun {x b a} hx hne h hb=>by
    rcases x with _ | ⟨d,_ | ⟨d2,x⟩⟩
    ·exact absurd rfl hne
    ·exact hn.blo h hb
    ·exact hg.blo (x:=d2::x) (by simpa using hx) (by simp) h hb
theorem Zmq (a:α):Sf (okP a):=⟨fun h=>by cases h;exact List.suffix_refl _,fun h=>by cases h⟩
theorem Zmr (a:α):Pe n (okP a) where
  ext:=fun {x c r b} _ h o=>by
    cases x with
    | nil=>cases h;rfl
    | cons d x=>injection h with h1 h2;have:=congrArg List.length h2;simp at this;omega
  eext:=fun _ h=>by cases h
  cutO:=fun {x c r b} _ h=>by
    cases x with
    | nil=>cases h;rfl
    | cons d x=>injection h with h1 h2;have:=congrArg List.length h2;simp at this;omega
  cutE:=fun _ h=>by cases h
theorem Zms (s:Bool) (a:α):Pb n s (okP a) where
  bl:=fun _ _ h=>by cases h
  blo:=fun {x b a'} _ hne h=>by injection h with h1 h2;exact absurd h2 hne
theorem Zmt (s:Bool) (a:α):Bn s (okP a) where
  bl:=fun h=>by cases h
  blo:=fun {b a'} h _=>by cases h;exact ⟨b,rfl,List.suffix_refl _,fun _=>rfl⟩
theorem Zck (a:α):St 0 (okP a):=⟨fun h=>by cases h;exact Nat.le_refl _⟩
theorem Zol {e:Nat} (he:e≠24):Sf (YS e:BL→Out α) where
  suf:=fun {l a r} h=>by cases l<;>cases h
  esuf:=fun {l a r} h=>by
    cases l with
    | nil=>cases h;simp
    | cons c l=>cases h;simp [he]
theorem ZhV {e:Nat}:Pe n (YS e:BL→Out α) where
  ext:=fun {x c r a} _ h=>by cases x<;>cases h
  eext:=fun {x c r a} _ h o=>by
    cases x with
    | nil=>cases h;rfl
    | cons d x=>injection h with h1 h2;have:=congrArg List.length h2;simp at this;omega
  cutO:=fun {x c r a} _ h=>by cases x<;>cases h
  cutE:=fun {x c r a} _ h=>by
    cases x with
    | nil=>exact .inr rfl
    | cons d x=>injection h with h1 h2;have:=congrArg List.length h2;simp at this;omega
theorem ZhW {s:Bool} {e:Nat} (he:e≠24):Pb n s (YS e:BL→Out α) where
  bl:=fun {x b} _ hne h=>by
    cases x with
    | nil=>exact absurd rfl hne
    | cons d x=>injection h with h1 h2;exact absurd h1 he
  blo:=fun {x b a} _ hne h=>by cases x<;>cases h
theorem YX {k:Nat} {e:Nat}:St k (YS e:BL→Out α):=⟨fun {l a r} h=>by cases l<;>cases h⟩
end
def X9 (P:UInt8→Bool):BL→Out Unit:=fun l=> .ok () (l.dropWhile P)
theorem Zh0 (P:UInt8→Bool):Sf (X9 P):=⟨fun h=>by cases h;exact List.dropWhile_suffix _,fun h=>by cases h⟩
theorem ZdZ (P:UInt8→Bool):St 0 (X9 P):=(Zh0 P).st
theorem Zkp {P:UInt8→Bool} {x w:BL} (h:(x++w).dropWhile P=w):∀ c∈x,P c=true:=by
  induction x with
  | nil=>intro c hc;cases hc
  | cons d x ih =>
    by_cases hd:P d=true
    ·rw [List.cons_append,List.dropWhile_cons_of_pos hd] at h
     intro c hc
     rcases List.mem_cons.1 hc with rfl | hc
     ·exact hd
     ·exact ih h c hc
    ·rw [List.cons_append,List.dropWhile_cons_of_neg hd] at h
     have:=congrArg List.length h
     simp at this
     omega
theorem Zkq {n:Nat} (P:UInt8→Bool):Pe n (X9 P) where
  ext:=fun {x c r a} _ h o=>by
    injection h with _ h
    have hx:=Zkp h
    rw [List.dropWhile_append_of_pos hx] at h
    have hc:¬ P c=true:=by
      intro hc
      rw [List.dropWhile_cons_of_pos hc] at h
      have:=(List.dropWhile_suffix (l:=r) P).length_le
      rw [h] at this;simp at this;omega
    unfold X9
    rw [List.dropWhile_append_of_pos hx,List.dropWhile_cons_of_neg hc]
  eext:=fun _ h=>by cases h
  cutO:=fun {x c r a} _ h=>by
    injection h with _ h
    unfold X9
    rw [ZfO.2 (Zkp h)]
  cutE:=fun _ h=>by cases h
theorem Zos {n:Nat} (P:UInt8→Bool):Pb n false (X9 P) where
  bl:=fun _ _ h=>by cases h
  blo:=fun {x b a} _ _ h _=>by
    injection h with _ h
    refine ⟨b.dropWhile P,?_,List.dropWhile_suffix _,fun h=>by cases h⟩
    unfold X9
    rw [List.dropWhile_append_of_pos (ZfO.1 h)]
theorem Zot (P:UInt8→Bool):Bn false (X9 P) where
  bl:=fun h=>by cases h
  blo:=fun {b a} h _=>⟨b.dropWhile P,rfl,List.dropWhile_suffix _,fun h=>by cases h⟩
theorem Zm0 {n:Nat}:Pb n true (X9 XD) where
  bl:=fun _ _ h=>by cases h
  blo:=fun {x b a} _ _ h hb=>by
    injection h with _ h
    refine ⟨b,?_,List.suffix_refl _,fun _=>rfl⟩
    unfold X9
    rw [List.dropWhile_append_of_pos (ZfO.1 h)]
    rcases b with _ | ⟨c,b⟩
    ·rfl
    ·rw [List.dropWhile_cons_of_neg]
     rcases Zbj (hb c (by simp)) with rfl | rfl | rfl | rfl<;>decide
theorem Zm1:Bn true (X9 XD) where
  bl:=fun h=>by cases h
  blo:=fun {b a} h hb=>by
    refine ⟨b,?_,List.suffix_refl _,fun _=>rfl⟩
    unfold X9
    rcases b with _ | ⟨c,b⟩
    ·rfl
    ·rw [List.dropWhile_cons_of_neg]
     rcases Zbj (hb c (by simp)) with rfl | rfl | rfl | rfl<;>decide
def ZbN {α:Type} (p:BL→Out α):BL→Out BL:=fun l=>(p l).bind fun _ r=> .ok (Zf7 l r) r
theorem XR (x r:BL):Zf7 (x++r) r=x:=by unfold Zf7;simp
theorem ZcK {α:Type} {p:BL→Out α} {l r t:BL} (h:ZbN p l = .ok t r):(∃ a,p l = .ok a r)∧t=Zf7 l r:=by
  obtain ⟨a,l1,h1,h2⟩:=ZJ h
  cases h2
  exact ⟨⟨a,h1⟩,rfl⟩
theorem Zc7 {α:Type} {p:BL→Out α} {l r:BL} {e:Nat} (h:ZbN p l = .err e r):p l = .err e r:=by
  unfold ZbN at h
  cases h1:p l with
  | ok a l1=>rw [h1] at h;cases h
  | err k q=>rw [h1] at h;cases h;rfl
theorem Zju {α:Type} {p:BL→Out α} (hp:Sf p):Sf (ZbN p) :=
  ⟨fun h=>by obtain ⟨⟨a,h1⟩,_⟩:=ZcK h;exact hp.suf h1,fun h=>hp.esuf (Zc7 h)⟩
theorem ZhR {α:Type} {k:Nat} {p:BL→Out α} (hp:St k p):St k (ZbN p):=⟨fun h=>by obtain ⟨⟨a,h1⟩,_⟩:=ZcK h;exact hp.len h1⟩
theorem Zjv {α:Type} {n:Nat} {p:BL→Out α} (hp:Pe n p):Pe n (ZbN p) where
  ext:=fun {x c r t} hx h o=>by
    obtain ⟨⟨a,h1⟩,rfl⟩:=ZcK h
    unfold ZbN
    rw [hp.ext hx h1 o,Out.bind_ok,XR,XR]
  eext:=fun {x c r e} hx h o=>by
    unfold ZbN
    rw [hp.eext hx (Zc7 h) o];rfl
  cutO:=fun {x c r t} hx h=>by
    obtain ⟨⟨a,h1⟩,rfl⟩:=ZcK h
    unfold ZbN
    rw [hp.cutO hx h1,Out.bind_ok,XR]
    congr 1
    have:=XR x []
    rwa [List.append_nil] at this
  cutE:=fun {x c r e} hx h=>by
    unfold ZbN
    rcases hp.cutE hx (Zc7 h) with ⟨a,h1⟩ | h1
    ·rw [h1];exact .inl ⟨_,rfl⟩
    ·rw [h1];exact .inr rfl
theorem ZmO {α:Type} {n:Nat} {p:BL→Out α} (hp:Pb n true p):Pb n true (ZbN p) where
  bl:=fun {x b} hx hne h hb=>by
    obtain ⟨e,r,h1,h2⟩:=hp.bl hx hne (Zc7 h) hb
    exact ⟨e,r,by unfold ZbN;rw [h1];rfl,h2⟩
  blo:=fun {x b t} hx hne h hb=>by
    obtain ⟨⟨a,h1⟩,rfl⟩:=ZcK h
    obtain ⟨b',h2,h3,h4⟩:=hp.blo hx hne h1 hb
    have:=h4 rfl
    subst this
    refine ⟨b',?_,h3,h4⟩
    unfold ZbN
    rw [h2,Out.bind_ok,XR]
    have:=XR x []
    rw [List.append_nil] at this
    rw [this]
theorem ZpF {α:Type} {p:BL→Out α} (hp:Bn true p):Bn true (ZbN p) where
  bl:=fun {b} h hb=>by
    obtain ⟨e,r,h1,h2⟩:=hp.bl (Zc7 h) hb
    exact ⟨e,r,by unfold ZbN;rw [h1];rfl,h2⟩
  blo:=fun {b t} h hb=>by
    obtain ⟨⟨a,h1⟩,rfl⟩:=ZcK h
    obtain ⟨b',h2,h3,h4⟩:=hp.blo h1 hb
    have:=h4 rfl
    subst this
    refine ⟨b',?_,h3,h4⟩
    unfold ZbN
    rw [h2,Out.bind_ok]
    simp [Zf7]
structure Hf {α:Type} (s:Bool) (p:BL→Out α):Prop where
  sf:Sf p
  pe:∀ n,Pe n p
  pb:∀ n,Pb n s p
structure Good {α:Type} (s:Bool) (p:BL→Out α):Prop extends Hf s p where
  bn:Bn s p
section
variable {α β:Type}
theorem Pe.mono {m n:Nat} {p:BL→Out α} (h:Pe n p) (hm:m≤n):Pe m p :=
  ⟨fun hx=>h.ext (by omega),fun hx=>h.eext (by omega),fun hx=>h.cutO (by omega),fun hx=>h.cutE (by omega)⟩
theorem Pb.mono {m n:Nat} {s:Bool} {p:BL→Out α} (h:Pb n s p) (hm:m≤n):Pb m s p :=
  ⟨fun hx=>h.bl (by omega),fun hx=>h.blo (by omega)⟩
theorem Good.tl {s:Bool} {g:BL→Out α} (h:Good s g):Hf s (tlP g) :=
  ⟨ZqK h.sf,fun n=>(Zgy h.sf (h.pe n)).mono (Nat.le_succ n),fun n=>(Zgz (h.pb n) h.bn).mono (Nat.le_succ n)⟩
theorem Good.okP (s:Bool) (a:α):Good s (Js.okP a):=⟨⟨Zmq a,fun _=>Zmr a,fun _=>Zms s a⟩,Zmt s a⟩
theorem Hf.fail {s:Bool} {e:Nat} (he:e≠24):Hf s (YS e:BL→Out α):=⟨Zol he,fun _=>ZhV,fun _=>ZhW he⟩
theorem Hf.ite {s:Bool} {c:Prop} [Decidable c] {p q:BL→Out α} (hp:Hf s p) (hq:Hf s q):Hf s (if c then p else q):=by split<;>assumption
theorem St.ite {k:Nat} {c:Prop} [Decidable c] {p q:BL→Out α} (hp:St k p) (hq:St k q):St k (if c then p else q):=by split<;>assumption
theorem St.mono {k m:Nat} {p:BL→Out α} (h:St k p) (hm:m≤k):St m p:=⟨fun e=>by have:=h.len e;omega⟩
theorem ZnK {p:BL→Out α} (h:St 1 p) {l r:BL} {a:α} (e:p l = .ok a r) (hl:l.length≤r.length) {P:Prop}:P:=by have:=h.len e;omega
theorem Hf.hd {s:Bool} {f:UInt8→BL→Out α} (hf:∀ c,Hf s (f c)) (hs:∀ c,St 1 (f c)):Hf s (hdP (.err 24 []) f) :=
  ⟨Zo0 (.inr rfl) fun c=>(hf c).sf,fun n=>Zkd (.inl rfl) (fun c r b h=>ZnK (hs c) h (Nat.le_refl _)) fun c=>(hf c).pe n,fun n=>Zke fun c=>(hf c).pb n⟩
theorem Hf.hdO {s:Bool} {a0:α} {f:UInt8→BL→Out α} (hf:∀ c,Hf s (f c)) (hs:∀ c,St 1 (f c)∨f c=Js.okP a0):Hf s (hdP (.ok a0 []) f):=by
  refine ⟨Zo0 (.inl ⟨a0,rfl⟩) fun c=>(hf c).sf,fun n=>Zkd (.inr ⟨a0,rfl,fun c r b h=>?_⟩) (fun c r b h h2=>by cases h2) fun c=>(hf c).pe n,fun n=>Zke fun c=>(hf c).pb n⟩
  rcases hs c with h1 | h1
  ·exact ZnK h1 h (Nat.le_refl _)
  ·rw [h1] at h;cases h;rfl
theorem Good.hd {s:Bool} {f:UInt8→BL→Out α} (hf:∀ c,Hf s (f c)) (hs:∀ c,St 1 (f c)) (hb:∀ c,Z1 c=true→∃ e,f c=YS e):Good s (hdP (.err 24 []) f):=⟨Hf.hd hf hs,Zrd hb⟩
theorem Good.hdO {s:Bool} {a0:α} {f:UInt8→BL→Out α} (hf:∀ c,Hf s (f c)) (hs:∀ c,St 1 (f c)∨f c=Js.okP a0) (hb:∀ c,Z1 c=true→f c=Js.okP a0):Good s (hdP (.ok a0 []) f):=⟨Hf.hdO hf hs,ZpC hb⟩
theorem Hf.bind {s s':Bool} {p:BL→Out α} {f:α→BL→Out β} (hp:Hf s p) (hf:∀ a,Good s' (f a)):Hf (s&&s') fun l=>(p l).bind f :=
  ⟨hp.sf.bind fun a=>(hf a).sf,fun n=>Pe.bind (m:=n) (k:=0) (hp.pe n) hp.sf hp.sf.st (fun a=>(hf a).pe n) fun a=>(hf a).sf,
   fun n=>Pb.bind (m:=n) (k:=0) (hp.pe n) (hp.pb n) hp.sf hp.sf.st (fun a=>(hf a).pb n) fun a=>(hf a).bn⟩
theorem Good.bind {s s':Bool} {p:BL→Out α} {f:α→BL→Out β} (hp:Good s p) (hf:∀ a,Good s' (f a)):Good (s&&s') fun l=>(p l).bind f :=
  ⟨hp.toHf.bind hf,hp.bn.bind hp.sf fun a=>(hf a).bn⟩
theorem Good.got {p:BL→Out α} (h:Good true p):Good true (ZbN p):=⟨⟨Zju h.sf,fun n=>Zjv (h.pe n),fun n=>ZmO (h.pb n)⟩,ZpF h.bn⟩
end
theorem Za7:Good false (X9 Z1):=⟨⟨Zh0 _,fun _=>Zkq _,fun _=>Zos _⟩,Zot _⟩
theorem Zou:Good true (X9 XD):=⟨⟨Zh0 _,fun _=>Zkq _,fun _=>Zm0⟩,Zm1⟩
theorem Zep:Z6=hdP (.err 24 []) fun c=>if XD c then tlP (X9 XD) else YS 21:=by
  funext l
  rcases l with _ | ⟨c,l⟩
  ·rfl
  ·dsimp only [Z6,hdP]
   split<;>rfl
theorem ZfR:St 1 Z6:=by
  rw [Zep]
  exact ZfE (fun a r h=>by cases h) fun c=>St.ite (Xg (ZdZ _)) YX
theorem Zcd:Good true Z6:=by
  rw [Zep]
  refine Good.hd (fun c=>Hf.ite Zou.tl (Hf.fail (by decide))) (fun c=>St.ite (Xg (ZdZ _)) YX) fun c hc=>⟨21,?_⟩
  rcases Zbj hc with rfl | rfl | rfl | rfl<;>rfl
def ZqY:BL→Out Unit:=fun l=> .ok () (Zap l)
theorem Zpv:ZqY=hdP (.ok () []) fun c=>if c=45 then tlP (okP ()) else okP ():=by
  funext l
  rcases l with _ | ⟨c,l⟩
  ·rfl
  ·dsimp only [ZqY,Zap,hdP]
   split<;>rfl
theorem Zj6:Good true ZqY:=by
  rw [Zpv]
  refine Good.hdO (fun c=>Hf.ite (Good.okP _ _).tl (Good.okP _ _).toHf) (fun c=>?_) fun c hc=>?_
  ·by_cases h:c=45
   ·left;rw [if_pos h];exact Xg (Zck _)
   ·right;rw [if_neg h]
  ·rcases Zbj hc with rfl | rfl | rfl | rfl<;>rfl
def ZqP:BL→Out Unit:=fun l=> .ok () (Zd8 l)
theorem Zpl:ZqP=hdP (.ok () []) fun c=>if c=43∨c=45 then tlP (okP ()) else okP ():=by
  funext l
  rcases l with _ | ⟨c,l⟩
  ·rfl
  ·dsimp only [ZqP,Zd8,hdP]
   split<;>rfl
theorem ZjU:Good true ZqP:=by
  rw [Zpl]
  refine Good.hdO (fun c=>Hf.ite (Good.okP _ _).tl (Good.okP _ _).toHf) (fun c=>?_) fun c hc=>?_
  ·by_cases h:c=43∨c=45
   ·left;rw [if_pos h];exact Xg (Zck _)
   ·right;rw [if_neg h]
  ·rcases Zbj hc with rfl | rfl | rfl | rfl<;>rfl
theorem ZgO:XH=hdP (.ok () []) fun c=>if XD c then YS 21 else okP ():=by
  funext l
  rcases l with _ | ⟨c,l⟩
  ·rfl
  ·dsimp only [XH,hdP]
   split<;>rfl
theorem Zdt:Good true XH:=by
  rw [ZgO]
  refine Good.hdO (fun c=>Hf.ite (Hf.fail (by decide)) (Good.okP _ _).toHf) (fun c=>?_) fun c hc=>?_
  ·by_cases h:XD c=true
   ·left;rw [if_pos h];exact YX
   ·right;rw [if_neg h]
  ·rcases Zbj hc with rfl | rfl | rfl | rfl<;>rfl
theorem Zjs:ZeH=hdP (.err 24 []) fun c=>if c=48 then tlP XH else Z6:=by
  funext l
  rcases l with _ | ⟨c,l⟩
  ·rfl
  ·dsimp only [ZeH,hdP]
   split<;>rfl
theorem Zrb:St 1 ZeH:=by
  rw [Zjs]
  exact ZfE (fun a r h=>by cases h) fun c=>St.ite (Xg Zdt.sf.st) ZfR
theorem Zrc:Hf true ZeH:=by
  rw [Zjs]
  exact Hf.hd (fun c=>Hf.ite Zdt.tl Zcd.toHf) fun c=>St.ite (Xg Zdt.sf.st) ZfR
theorem Zob:Good true ZeH:=by
  refine ⟨Zrc,fun {b} _ hb=>?_,fun {b a} h=>by cases h⟩
  rcases b with _ | ⟨c,b⟩
  ·exact ⟨24,[],rfl,List.suffix_refl _⟩
  ·refine ⟨21,c::b,?_,List.suffix_refl _⟩
   rcases Zbj (hb c (by simp)) with rfl | rfl | rfl | rfl<;>rfl
theorem Zki:ZcS=hdP (.ok () []) fun c=>if c=46 then tlP Z6 else okP ():=by
  funext l
  rcases l with _ | ⟨c,l⟩
  ·rfl
  ·dsimp only [ZcS,hdP]
   split<;>rfl
theorem ZiI:Good true ZcS:=by
  rw [Zki]
  refine Good.hdO (fun c=>Hf.ite Zcd.tl (Good.okP _ _).toHf) (fun c=>?_) fun c hc=>?_
  ·by_cases h:c=46
   ·left;rw [if_pos h];exact St.mono (Xg ZfR) (by omega)
   ·right;rw [if_neg h]
  ·rcases Zbj hc with rfl | rfl | rfl | rfl<;>rfl
theorem ZmX:ZeT=hdP (.ok () []) fun c=>if c=101∨c=69 then tlP (fun l=>(ZqP l).bind fun _=>Z6) else okP ():=by
  funext l
  rcases l with _ | ⟨c,l⟩
  ·rfl
  ·dsimp only [ZeT,hdP]
   split<;>rfl
theorem Zkm:Good true ZeT:=by
  rw [ZmX]
  refine Good.hdO (fun c=>Hf.ite (ZjU.bind fun _=>Zcd).tl (Good.okP _ _).toHf) (fun c=>?_) fun c hc=>?_
  ·by_cases h:c=101∨c=69
   ·left;rw [if_pos h];exact Xg (k:=0) (ZjU.bind fun _=>Zcd).sf.st
   ·right;rw [if_neg h]
  ·rcases Zbj hc with rfl | rfl | rfl | rfl<;>rfl
theorem Zjk:Zc4=fun l=>(ZqY l).bind fun _ l=>(ZeH l).bind fun _ l=>(ZcS l).bind fun _=>ZeT:=rfl
theorem ZeQ:Good true Zc4:=by
  rw [Zjk]
  exact Zj6.bind fun _=>Zob.bind fun _=>ZiI.bind fun _=>Zkm
theorem ZoP:St 1 Zc4:=by
  rw [Zjk]
  exact St.mono (St.bind (k:=0) (m:=1) Zj6.sf.st fun _=>St.bind (k:=1) (m:=0) Zrb fun _=>(ZiI.bind fun _=>Zkm).sf.st) (by omega)
theorem ZjM (c:UInt8) (w:BL):Zbk (c::w)=hdP (.err 24 []) fun d=>if d=c then tlP (Zbk w) else YS 20:=by
  funext l
  rcases l with _ | ⟨d,l⟩
  ·rfl
  ·dsimp only [Zbk,hdP]
   split<;>rfl
theorem Za2:∀ (w:BL),(∀ c∈w,Z1 c=false)→Good true (Zbk w)∧St w.length (Zbk w)
  | [],_=>⟨Good.okP true (),Zck ()⟩
  | c::w,h=>by
    obtain ⟨a,b⟩:=Za2 w fun d hd=>h d (by simp [hd])
    rw [ZjM]
    refine ⟨Good.hd (fun d=>Hf.ite a.tl (Hf.fail (by decide))) (fun d=>St.ite (St.mono (Xg b) (by omega)) YX) fun d hd=>⟨20,?_⟩,ZfE (fun a r h=>by cases h) fun d=>St.ite (Xg b) YX⟩
    rw [if_neg]
    intro e
    rw [e,h c (by simp)] at hd
    cases hd
theorem ZmM (k n:Nat):Zdd (k+1) n=hdP (.err 24 []) fun c=>match ZeI c with
    | some d=>tlP (Zdd k (n*16+d))
    | none=>YS 22:=by
  funext l
  rcases l with _ | ⟨c,l⟩
  ·rfl
  ·dsimp only [Zdd,hdP]
   cases ZeI c<;>rfl
theorem ZhO:∀ (k n:Nat),Good true (Zdd k n)∧St k (Zdd k n)
  | 0,n=>⟨Good.okP true n,Zck n⟩
  | k+1,n=>by
    rw [ZmM]
    have ih:=fun m=>ZhO k m
    refine ⟨Good.hd (fun c=>?_) (fun c=>?_) fun c hc=>⟨22,?_⟩,ZfE (fun a r h=>by cases h) fun c=>?_⟩
    ·cases ZeI c with
     | some d=>exact (ih _).1.tl
     | none=>exact Hf.fail (by decide)
    ·cases ZeI c with
     | some d=>exact St.mono (Xg (ih _).2) (by omega)
     | none=>exact YX
    ·rcases Zbj hc with rfl | rfl | rfl | rfl<;>rfl
    ·cases ZeI c with
     | some d=>exact Xg (ih _).2
     | none=>exact YX
theorem ZlX:Zgx=hdP (.err 24 []) fun c=>match ZaT c with
    | some m=>tlP (okP (.ch m))
    | none=>if c=117 then tlP (fun l=>(Zdd 4 0 l).bind fun n=>okP (.uni n)) else YS 22:=by
  funext l
  rcases l with _ | ⟨c,l⟩
  ·rfl
  ·dsimp only [Zgx,hdP]
   cases ZaT c with
   | some m=>rfl
   | none=>dsimp only;split<;>rfl
theorem XA:Good true Zgx:=by
  rw [ZlX]
  refine Good.hd (fun c=>?_) (fun c=>?_) fun c hc=>⟨22,?_⟩
  ·cases ZaT c with
   | some m=>exact (Good.okP _ _).tl
   | none=>exact Hf.ite ((ZhO 4 0).1.bind fun _=>Good.okP true _).tl (Hf.fail (by decide))
  ·cases ZaT c with
   | some m=>exact Xg (Zck _)
   | none=>exact St.ite ((Xg (k:=0) ((ZhO 4 0).1.bind (s':=true) fun _=>Good.okP true _).sf.st)) YX
  ·rcases Zbj hc with rfl | rfl | rfl | rfl<;>rfl
theorem Zks (n lo hi:Nat):ZaN (n+1) lo hi=hdP (.err 24 []) fun d=>if lo≤d.toNat∧d.toNat≤hi then tlP (ZaN n 128 191) else YS 22:=by
  funext l
  rcases l with _ | ⟨c,l⟩
  ·rfl
  ·dsimp only [ZaN,hdP]
   split<;>rfl
theorem ZfT:∀ (n lo hi:Nat),128≤lo→Good true (ZaN n lo hi)
  | 0,_,_,_=>Good.okP true ()
  | n+1,lo,hi,h=>by
    rw [Zks]
    refine Good.hd (fun c=>Hf.ite (ZfT n 128 191 (Nat.le_refl _)).tl (Hf.fail (by decide))) (fun c=>St.ite (Xg (k:=0) (ZfT n 128 191 (Nat.le_refl _)).sf.st) YX) fun c hc=>⟨22,?_⟩
    rw [if_neg]
    rcases Zbj hc with rfl | rfl | rfl | rfl<;>(intro hh;have:=hh.1;simp at this;omega)
theorem ZjV:Xo=hdP (.err 24 []) fun c=>if nRb c=0 then YS 22 else tlP (ZaN (nRb c - 1) (loR c) (hiR c)):=by
  funext l
  rcases l with _ | ⟨c,l⟩
  ·rfl
  ·dsimp only [Xo,hdP]
   split<;>rfl
theorem ZpA:∀ b:Fin 256,2≤nRb ⟨⟨b⟩⟩→128≤loR ⟨⟨b⟩⟩:=by decide +kernel
theorem ZmB:∀ c:UInt8,2≤nRb c→128≤loR c:=fun ⟨⟨b⟩⟩=>ZpA b
theorem ZbV:Hf true Xo∧St 1 Xo:=by
  rw [ZjV]
  have key:∀ c,Good true (ZaN (nRb c - 1) (loR c) (hiR c)):=fun c=>by
    by_cases h:2≤nRb c
    ·exact ZfT _ _ _ (ZmB c h)
    ·rw [show nRb c - 1=0 by omega];exact Good.okP true ()
  have st:∀ c,St 1 (if nRb c=0 then YS 22 else tlP (ZaN (nRb c - 1) (loR c) (hiR c))):=fun c=>St.ite YX (Xg (k:=0) (key c).sf.st)
  exact ⟨Hf.hd (fun c=>Hf.ite (Hf.fail (by decide)) (key c).tl) st,ZfE (fun a r h=>by cases h) st⟩
def T (p:Option Nat) (out:BL):BL→Out BL:=fun l=>X8 (l.length+1) p out l
def tF (p:Option Nat) (out:BL) (c:UInt8):BL→Out BL :=
  if c.toNat<32 then YS 22
  else if c=34 then tlP (okP (out++flB p))
  else if c=92 then tlP fun l=>(Zgx l).bind fun t=>T (Zgw p out t).1 (Zgw p out t).2
  else if c.toNat<128 then tlP (T none (out++flB p++[c]))
  else fun l=>(ZbN Xo l).bind fun o=>T none (out++flB p++o)
theorem Znn {n:Nat} {p:Option Nat} {out l:BL} (h:l.length<n):X8 n p out l=T p out l:=ZaY _ _ _ _ _ h (Nat.lt_succ_self _)
theorem Zp7 (p:Option Nat) (out:BL):T p out=hdP (.err 24 []) (tF p out):=by
  funext l
  rcases l with _ | ⟨c,l⟩
  ·rfl
  ·show X8 ((c::l).length+1) p out (c::l)=tF p out c (c::l)
   unfold X8 tF
   split
   ·rfl
   split
   ·rfl
   split
   ·show _=(Zgx l).bind _
    cases h:Zgx l with
    | err e r=>rfl
    | ok t r=>exact Znn (by have:=(ZdH h).1;simp;omega)
   split
   ·exact Znn (by simp)
   ·show _=(ZbN Xo (c::l)).bind _
    unfold ZbN
    cases h:Xo (c::l) with
    | err e r=>rfl
    | ok t r=>exact Znn (by have:=(Za9 h).1;simp at this ⊢;omega)
theorem ZeO:∀ (n:Nat) (p:Option Nat) (out l:BL),l.length<n→(∀ a r,X8 n p out l = .ok a r→r <:+l∧r.length<l.length)∧∀ e r,X8 n p out l = .err e r→r <:+l∧(e=24↔r=[])
  | 0,_,_,_,h=>by omega
  | n+1,p,out,[],_=>⟨fun a r h=>(by cases h),fun e r h=>by cases h;simp⟩
  | n+1,p,out,c::l,h=>by
    simp only [List.length_cons] at h
    have up:∀ {r q:BL},r.length<(c::l).length→r <:+c::l→∀ {p':Option Nat} {out':BL},(∀ a q,X8 n p' out' r = .ok a q→q <:+c::l∧q.length<(c::l).length)∧∀ e q,X8 n p' out' r = .err e q→q <:+c::l∧(e=24↔q=[]):=fun {r q} hr hs {p' out'}=>by
      obtain ⟨a,b⟩:=ZeO n p' out' r (by simp at hr;omega)
      exact ⟨fun x q hq=>⟨(a x q hq).1.trans hs,Nat.lt_trans (a x q hq).2 hr⟩,fun e q hq=>⟨(b e q hq).1.trans hs,(b e q hq).2⟩⟩
    unfold X8
    split
    ·exact ⟨fun a r h=>(by cases h),fun e r h=>by cases h;simp⟩
    split
    ·exact ⟨fun a r h=>by cases h;exact ⟨List.suffix_cons _ _,by simp⟩,fun e r h=>by cases h⟩
    split
    ·cases ht:Zgx l with
     | err e r=>exact ⟨fun a q h=>(by cases h),fun e q h=>by cases h;exact ⟨Y4 (XA.sf.esuf ht).1,(XA.sf.esuf ht).2⟩⟩
     | ok t r=>exact up (q:=[]) (by have:=(ZdH ht).1;simp;omega) (Y4 (ZdH ht).2)
    split
    ·exact up (q:=[]) (by simp) (List.suffix_cons _ _)
    ·cases ht:Xo (c::l) with
     | err e r=>exact ⟨fun a q h=>(by cases h),fun e q h=>by cases h;exact ZbV.1.sf.esuf ht⟩
     | ok t r=>exact up (q:=[]) (Za9 ht).1 (Za9 ht).2
theorem Zro (p:Option Nat) (out:BL):Sf (T p out):=⟨fun h=>((ZeO _ p out _ (Nat.lt_succ_self _)).1 _ _ h).1,fun h=>(ZeO _ p out _ (Nat.lt_succ_self _)).2 _ _ h⟩
theorem Zrz (p:Option Nat) (out:BL):St 1 (T p out):=⟨fun h=>((ZeO _ p out _ (Nat.lt_succ_self _)).1 _ _ h).2⟩
theorem Zsj (p:Option Nat) (out:BL) (c:UInt8):St 1 (tF p out c):=by
  unfold tF
  refine St.ite YX (St.ite (Xg (Zck _)) (St.ite (Xg (k:=0) ?_) (St.ite (St.mono (Xg (Zrz _ _)) (by omega)) ?_)))
  ·exact St.mono (m:=0) (St.bind (k:=0) (m:=1) XA.sf.st fun t=>Zrz _ _) (by omega)
  ·exact St.mono (m:=1) (St.bind (k:=1) (m:=1) (ZhR ZbV.2) fun t=>Zrz _ _) (by omega)
theorem Zno:∀ (b:BL) (p:Option Nat) (out:BL),Blk b→∃ e r,T p out b = .err e r∧r <:+b
  | [],p,out,_=>⟨24,[],rfl,List.suffix_refl _⟩
  | c::b,p,out,h=>by
    rw [Zp7]
    show ∃ e r,tF p out c (c::b)=_∧_
    rcases Zbj (h c (by simp)) with rfl | rfl | rfl | rfl
    ·obtain ⟨e,r,h1,h2⟩:=Zno b none (out++flB p++[32]) h.tail
     exact ⟨e,r,h1,Y4 h2⟩
    ·exact ⟨22,_,rfl,List.suffix_refl _⟩
    ·exact ⟨22,_,rfl,List.suffix_refl _⟩
    ·exact ⟨22,_,rfl,List.suffix_refl _⟩
theorem Zrp (p:Option Nat) (out:BL):Bn true (T p out):=⟨fun _ hb=>Zno _ p out hb,fun h=>by cases h⟩
theorem ZrA:∀ (n:Nat) (p:Option Nat) (out:BL),Pe n (T p out)
  | 0,_,_=>⟨fun h=>by omega,fun h=>by omega,fun h=>by omega,fun h=>by omega⟩
  | n+1,p,out=>by
    rw [Zp7]
    refine Zkd (.inl rfl) (fun c r b h=>ZnK (Zsj p out c) h (Nat.le_refl _)) fun c=>?_
    unfold tF
    split
    ·exact ZhV
    split
    ·exact Zgy (Zmq _) (Zmr _)
    split
    ·exact Zgy (XA.sf.bind fun t=>Zro _ _) (Pe.bind (m:=n) (k:=0) (XA.pe n) XA.sf XA.sf.st (fun t=>ZrA n _ _) fun t=>Zro _ _)
    split
    ·exact Zgy (Zro _ _) (ZrA n _ _)
    ·exact Pe.bind (m:=n) (k:=1) (Zjv (ZbV.1.pe _)) (Zju ZbV.1.sf) (ZhR ZbV.2) (fun t=>ZrA n _ _) fun t=>Zro _ _
theorem ZrB:∀ (n:Nat) (p:Option Nat) (out:BL),Pb n true (T p out)
  | 0,_,_=>⟨fun h=>by omega,fun h=>by omega⟩
  | n+1,p,out=>by
    rw [Zp7]
    refine Zke fun c=>?_
    unfold tF
    split
    ·exact ZhW (by decide)
    split
    ·exact Zgz (Zms _ _) (Zmt _ _)
    split
    ·exact Zgz (Pb.bind (m:=n) (k:=0) (s:=true) (s':=true) (XA.pe n) (XA.pb n) XA.sf XA.sf.st (fun t=>ZrB n _ _) fun t=>Zrp _ _) (XA.bn.bind (s':=true) XA.sf fun t=>Zrp _ _)
    split
    ·exact Zgz (ZrB n _ _) (Zrp _ _)
    ·exact Pb.bind (m:=n) (k:=1) (s:=true) (s':=true) (Zjv (ZbV.1.pe _)) (ZmO (ZbV.1.pb _)) (Zju ZbV.1.sf) (ZhR ZbV.2) (fun t=>ZrB n _ _) fun t=>Zrp _ _
theorem Zo6 (p:Option Nat) (out:BL):Good true (T p out):=⟨⟨Zro p out,fun n=>ZrA n p out,fun n=>ZrB n p out⟩,Zrp p out⟩
theorem Zdn:Zf8=T none []:=by
  funext l
  exact (Zho _ l (Nat.lt_succ_self _)).1 []
def nmP:BL→Out BL:=fun l=>(X9 Z1 l).bind fun _=>hdP (.err 24 []) fun c=>if c=34 then tlP fun l=>(Zf8 l).bind fun nm l=>(X9 Z1 l).bind fun _=>hdP (.err 24 []) fun d=>if d=58 then tlP (okP nm) else YS 20 else YS 20
theorem Zj4:ZcF=nmP:=by
  funext l
  show ZcF l=hdP _ _ (Z3 l)
  unfold ZcF
  cases Z3 l with
  | nil=>rfl
  | cons c l1 =>
    show _=(if c=34 then _ else _:BL→Out BL) (c::l1)
    dsimp only
    split
    ·show _=(Zf8 l1).bind _
     congr 1
     funext nm l2
     show _=hdP _ _ (Z3 l2)
     cases Z3 l2 with
     | nil=>rfl
     | cons d l3 =>
       show _=(if d=58 then _ else _:BL→Out BL) (d::l3)
       dsimp only
       split<;>rfl
    ·rfl
theorem ZeU {c d:UInt8} (hc:Z1 c=true) (hd:Z1 d=false):c≠d:=fun e=>by rw [e,hd] at hc;cases hc
theorem Zfu:Good false ZcF∧St 1 ZcF:=by
  rw [Zj4]
  have g3:∀ nm:BL,Good false (hdP (.err 24 []) fun d=>if d=58 then tlP (okP nm) else YS 20):=fun nm=>by
    refine Good.hd (fun c=>Hf.ite (Good.okP _ _).tl (Hf.fail (by decide))) (fun c=>St.ite (Xg (Zck _)) YX) fun c hc=>⟨20,?_⟩
    rw [if_neg (ZeU hc (by decide))]
  have g2:∀ nm:BL,Good false fun l=>(X9 Z1 l).bind fun _=>hdP (.err 24 []) fun d=>if d=58 then tlP (okP nm) else YS 20:=fun nm=>Za7.bind fun _=>g3 nm
  have g1:Good false fun l=>(Zf8 l).bind fun nm l=>(X9 Z1 l).bind fun _=>hdP (.err 24 []) fun d=>if d=58 then tlP (okP nm) else YS 20:=by
    rw [Zdn]
    exact (Zo6 none []).bind fun nm=>g2 nm
  have g0:Good false (hdP (.err 24 []) fun c=>if c=34 then tlP fun l=>(Zf8 l).bind fun nm l=>(X9 Z1 l).bind fun _=>hdP (.err 24 []) fun d=>if d=58 then tlP (okP nm) else YS 20 else YS 20)∧St 1 (hdP (.err 24 []) fun c=>if c=34 then tlP fun l=>(Zf8 l).bind fun nm l=>(X9 Z1 l).bind fun _=>hdP (.err 24 []) fun d=>if d=58 then tlP (okP nm) else YS 20 else YS 20):=by
    have st:∀ c:UInt8,St 1 (if c=34 then tlP fun l=>(Zf8 l).bind fun nm l=>(X9 Z1 l).bind fun _=>hdP (.err 24 []) fun d=>if d=58 then tlP (okP nm) else YS 20 else YS 20):=fun c=>St.ite (Xg (k:=0) g1.sf.st) YX
    refine ⟨Good.hd (fun c=>Hf.ite g1.tl (Hf.fail (by decide))) st fun c hc=>⟨20,?_⟩,ZfE (fun a r h=>by cases h) st⟩
    rw [if_neg (ZeU hc (by decide))]
  exact ⟨Za7.bind fun _=>g0.1,St.mono (St.bind (k:=0) (m:=1) (ZdZ _) fun _=>g0.2) (by omega)⟩
section
variable {pv:BL→Out JV}
theorem Zj0 (ob:Bool) (ns:List BL) (sub:JL):Xs pv ob ns sub=if ob=true then fun l=>(ZcF l).bind fun nm l=>(pv l).bind fun v l=>(X9 Z1 l).bind fun _=>okP (ns++[nm],sub.snoc v)
    else fun l=>(X9 Z1 l).bind fun _ l=>(pv l).bind fun v l=>(X9 Z1 l).bind fun _=>okP (ns,sub.snoc v):=by
  funext l
  unfold Xs
  split<;>rfl
theorem Zab (hv:Good false pv) (hs:St 1 pv) (ob:Bool) (ns:List BL) (sub:JL):Good false (Xs pv ob ns sub)∧St 1 (Xs pv ob ns sub):=by
  rw [Zj0]
  have fin:∀ a:List BL × JL,Good false fun l=>(X9 Z1 l).bind fun _=>okP a:=fun a=>Za7.bind fun _=>Good.okP false a
  split
  ·exact ⟨Zfu.1.bind fun nm=>hv.bind fun v=>fin _,St.mono (m:=1) (St.bind (k:=1) (m:=1) Zfu.2 fun nm=>St.bind (k:=1) (m:=0) hs fun v=>(fin _).sf.st) (by omega)⟩
  ·exact ⟨Za7.bind fun _=>hv.bind fun v=>fin _,St.mono (m:=1) (St.bind (k:=0) (m:=1) (ZdZ _) fun _=>St.bind (k:=1) (m:=0) hs fun v=>(fin _).sf.st) (by omega)⟩
def L (pv:BL→Out JV) (ob:Bool) (ns:List BL) (sub:JL):BL→Out (List BL × JL):=fun l=>ZbJ pv ob (l.length+1) ns sub l
theorem Zem (hv:Good false pv) (hs:St 1 pv) (ob:Bool):∀ (n m:Nat) (ns:List BL) (sub:JL) (l:BL),l.length<n→l.length<m→ZbJ pv ob n ns sub l=ZbJ pv ob m ns sub l
  | 0,_,_,_,_,h,_=>by omega
  | _,0,_,_,_,_,h=>by omega
  | n+1,m+1,ns,sub,l,hn,hm=>by
    have go:∀ l',l'.length≤l.length→((Xs pv ob ns sub l').bind fun p l2=>ZbJ pv ob n p.1 p.2 l2)=(Xs pv ob ns sub l').bind fun p l2=>ZbJ pv ob m p.1 p.2 l2:=fun l' hl=>by
      cases e:Xs pv ob ns sub l' with
      | err k r=>rfl
      | ok p r=>have:=(Zab hv hs ob ns sub).2.len e;exact Zem hv hs ob n m _ _ r (by omega) (by omega)
    unfold ZbJ
    rw [go l (Nat.le_refl _),go l.tail (by simp)]
def lF (pv:BL→Out JV) (ob:Bool) (ns:List BL) (sub:JL) (c:UInt8):BL→Out (List BL × JL) :=
  if c=Zcc ob then tlP (okP (ns,sub))
  else if sub.isNil=true then fun l=>(Xs pv ob ns sub l).bind fun p=>L pv ob p.1 p.2
  else if c=44 then tlP fun l=>(Xs pv ob ns sub l).bind fun p=>L pv ob p.1 p.2
  else YS 20
theorem ZhD (h0:pv [] = .err 24 []) (ob:Bool) (ns:List BL) (sub:JL):Xs pv ob ns sub [] = .err 24 []:=by
  unfold Xs
  cases ob
  ·show (pv []).bind _=_
   rw [h0];rfl
  ·rfl
theorem ZpW (hv:Good false pv) (hs:St 1 pv) (h0:pv [] = .err 24 []) (ob:Bool) (ns:List BL) (sub:JL):L pv ob ns sub=hdP (.err 24 []) (lF pv ob ns sub):=by
  funext l
  rcases l with _ | ⟨c,l⟩
  ·show ZbJ pv ob 1 ns sub [] = .err 24 []
   unfold ZbJ
   rw [if_neg (by simp [Zcm]),ZhD h0]
   split
   ·rfl
   ·rw [if_neg (by simp [Zcm])];rfl
  ·show ZbJ pv ob ((c::l).length+1) ns sub (c::l)=lF pv ob ns sub c (c::l)
   unfold ZbJ lF
   have go:∀ l',l'.length≤(c::l).length→((Xs pv ob ns sub l').bind fun p l2=>ZbJ pv ob (c::l).length p.1 p.2 l2)=(Xs pv ob ns sub l').bind fun p=>L pv ob p.1 p.2:=fun l' hl=>by
     cases e:Xs pv ob ns sub l' with
     | err k r=>rfl
     | ok p r=>have:=(Zab hv hs ob ns sub).2.len e;exact Zem hv hs ob _ _ _ _ r (by omega) (by omega)
   rw [go _ (Nat.le_refl _),go (c::l).tail (by simp)]
   by_cases h1:c=Zcc ob
   ·rw [if_pos h1,if_pos (by simp [Zcm,h1])];rfl
   rw [if_neg h1,if_neg (by simp [Zcm,h1])]
   by_cases h2:sub.isNil=true
   ·rw [if_pos h2,if_pos h2]
   rw [if_neg h2,if_neg h2]
   by_cases h3:c=44
   ·rw [if_pos h3,if_pos (by simp [Zcm,h3])];rfl
   ·rw [if_neg h3,if_neg (by simp [Zcm,h3])]
theorem ZhK (hv:Good false pv) (hs:St 1 pv) (h0:pv [] = .err 24 []) (ob:Bool):∀ (n:Nat) (ns:List BL) (sub:JL) (l:BL),l.length<n→(∀ a r,L pv ob ns sub l = .ok a r→r <:+l∧r.length<l.length)∧∀ e r,L pv ob ns sub l = .err e r→r <:+l∧(e=24↔r=[])
  | 0,_,_,_,h=>by omega
  | n+1,ns,sub,l,h=>by
    have ih:∀ l',l'.length≤l.length→l' <:+l→(∀ a r,((Xs pv ob ns sub l').bind fun p=>L pv ob p.1 p.2) = .ok a r→r <:+l∧r.length<l.length)∧∀ e r,((Xs pv ob ns sub l').bind fun p=>L pv ob p.1 p.2) = .err e r→r <:+l∧(e=24↔r=[]):=fun l' hl hsuf=>by
      have pg:=Zab hv hs ob ns sub
      cases e:Xs pv ob ns sub l' with
      | err k q=>exact ⟨fun a r h=>(by cases h),fun e' r h=>by cases h;exact ⟨(pg.1.sf.esuf e).1.trans hsuf,(pg.1.sf.esuf e).2⟩⟩
      | ok p q =>
        have h1:=pg.2.len e
        have h2:=(pg.1.sf.suf e).trans hsuf
        obtain ⟨a,b⟩:=ZhK hv hs h0 ob n p.1 p.2 q (by omega)
        exact ⟨fun x r hr=>⟨(a x r hr).1.trans h2,by have:=(a x r hr).2;omega⟩,fun e' r hr=>⟨(b e' r hr).1.trans h2,(b e' r hr).2⟩⟩
    rw [ZpW hv hs h0]
    rcases l with _ | ⟨c,l⟩
    ·exact ⟨fun a r h=>(by cases h),fun e r h=>by cases h;simp⟩
    show (∀ a r,lF pv ob ns sub c (c::l) = .ok a r→_)∧∀ e r,lF pv ob ns sub c (c::l) = .err e r→_
    unfold lF
    split
    ·exact ⟨fun a r h=>by cases h;exact ⟨List.suffix_cons _ _,by simp⟩,fun e r h=>by cases h⟩
    split
    ·exact ih _ (Nat.le_refl _) (List.suffix_refl _)
    split
    ·exact ih l (by simp) (List.suffix_cons _ _)
    ·exact ⟨fun a r h=>(by cases h),fun e r h=>by cases h;simp⟩
theorem Zmz (hv:Good false pv) (hs:St 1 pv) (h0:pv [] = .err 24 []) (ob:Bool) (ns:List BL) (sub:JL):Good false (L pv ob ns sub)∧St 1 (L pv ob ns sub):=by
  have sf:∀ ns sub,Sf (L pv ob ns sub):=fun ns sub=>⟨fun h=>((ZhK hv hs h0 ob _ ns sub _ (Nat.lt_succ_self _)).1 _ _ h).1,fun h=>(ZhK hv hs h0 ob _ ns sub _ (Nat.lt_succ_self _)).2 _ _ h⟩
  have st:∀ ns sub,St 1 (L pv ob ns sub):=fun ns sub=>⟨fun h=>((ZhK hv hs h0 ob _ ns sub _ (Nat.lt_succ_self _)).1 _ _ h).2⟩
  have fst:∀ ns sub c,St 1 (lF pv ob ns sub c):=fun ns sub c=>by
    unfold lF
    have pg:=Zab hv hs ob ns sub
    have b:St 1 fun l=>(Xs pv ob ns sub l).bind fun p=>L pv ob p.1 p.2:=St.mono (m:=1) (St.bind (k:=1) (m:=1) pg.2 fun p=>st _ _) (by omega)
    exact St.ite (Xg (Zck _)) (St.ite b (St.ite (St.mono (Xg b) (by omega)) YX))
  have bn:∀ ns sub,Bn false (L pv ob ns sub):=fun ns sub=>by
    have pg:=Zab hv hs ob ns sub
    rw [ZpW hv hs h0]
    refine ⟨fun {b} _ hb=>?_,fun h=>by cases h⟩
    rcases b with _ | ⟨c,b⟩
    ·exact ⟨24,[],rfl,List.suffix_refl _⟩
    ·have hc:=hb c (by simp)
     show ∃ e r,lF pv ob ns sub c (c::b)=_∧_
     unfold lF
     rw [if_neg (ZeU hc (by cases ob<;>decide)),if_neg (c:=c=44) (ZeU hc (by decide))]
     split
     ·obtain ⟨e,r,h1,h2⟩:=pg.1.bn.bl (ZhD h0 ob ns sub) hb
      exact ⟨e,r,by dsimp only;rw [h1];rfl,h2⟩
     ·exact ⟨20,_,rfl,List.suffix_refl _⟩
  have pe:∀ n ns sub,Pe n (L pv ob ns sub):=by
    intro n
    induction n with
    | zero=>intro ns sub;exact ⟨fun h=>by omega,fun h=>by omega,fun h=>by omega,fun h=>by omega⟩
    | succ n ih =>
      intro ns sub
      have pg:=Zab hv hs ob ns sub
      rw [ZpW hv hs h0]
      refine Zkd (.inl rfl) (fun c r b h=>ZnK (fst ns sub c) h (Nat.le_refl _)) fun c=>?_
      unfold lF
      have b:Pe (n+1) fun l=>(Xs pv ob ns sub l).bind fun p=>L pv ob p.1 p.2:=Pe.bind (m:=n) (k:=1) (pg.1.pe _) pg.1.sf pg.2 (fun p=>ih _ _) fun p=>sf _ _
      split
      ·exact Zgy (Zmq _) (Zmr _)
      split
      ·exact b
      split
      ·exact Zgy (pg.1.sf.bind fun p=>sf _ _) (b.mono (Nat.le_succ n))
      ·exact ZhV
  have pb:∀ n ns sub,Pb n false (L pv ob ns sub):=by
    intro n
    induction n with
    | zero=>intro ns sub;exact ⟨fun h=>by omega,fun h=>by omega⟩
    | succ n ih =>
      intro ns sub
      have pg:=Zab hv hs ob ns sub
      rw [ZpW hv hs h0]
      refine Zke fun c=>?_
      unfold lF
      have b:Pb (n+1) false fun l=>(Xs pv ob ns sub l).bind fun p=>L pv ob p.1 p.2:=Pb.bind (m:=n) (k:=1) (s:=false) (s':=false) (pg.1.pe _) (pg.1.pb _) pg.1.sf pg.2 (fun p=>ih _ _) fun p=>bn _ _
      split
      ·exact Zgz (Zms _ _) (Zmt _ _)
      split
      ·exact b
      split
      ·exact Zgz (b.mono (Nat.le_succ n)) (pg.1.bn.bind (s':=false) pg.1.sf fun p=>bn _ _)
      ·exact ZhW (by decide)
  exact ⟨⟨⟨sf ns sub,fun n=>pe n ns sub,fun n=>pb n ns sub⟩,bn ns sub⟩,st ns sub⟩
end
def vF (op:Bool→BL→Out JV) (c:UInt8):BL→Out JV :=
  if c=123 then op true
  else if c=91 then op false
  else if c=34 then tlP fun l=>(Zf8 l).bind fun t=>okP ⟨5,t,[],.nil⟩
  else if c=110 then fun l=>(Zbk [110,117,108,108] l).bind fun _=>okP ⟨1,[],[],.nil⟩
  else if c=102 then fun l=>(Zbk [102,97,108,115,101] l).bind fun _=>okP ⟨2,[],[],.nil⟩
  else if c=116 then fun l=>(Zbk [116,114,117,101] l).bind fun _=>okP ⟨3,[],[],.nil⟩
  else if c=45∨XD c then fun l=>(ZbN Zc4 l).bind fun t=>okP ⟨4,t,[],.nil⟩
  else YS 20
def vP (op:Bool→BL→Out JV):BL→Out JV:=fun l=>(X9 Z1 l).bind fun _=>hdP (.err 24 []) (vF op)
theorem ZdE {op op':Bool→BL→Out JV} (h:∀ b c l,op b (c::l)=op' b (c::l)):Za4 op=vP op':=by
  funext l
  show Za4 op l=hdP _ _ (Z3 l)
  unfold Za4
  cases Z3 l with
  | nil=>rfl
  | cons c l1 =>
    show _=vF op' c (c::l1)
    unfold vF
    dsimp only
    split
    ·exact h true c l1
    split
    ·exact h false c l1
    split
    ·rfl
    split
    ·rfl
    split
    ·rfl
    split
    ·rfl
    split
    ·show _=(ZbN Zc4 (c::l1)).bind _
     unfold ZbN
     cases Zc4 (c::l1)<;>rfl
    ·rfl
def opP (pv:BL→Out JV) (ob:Bool):BL→Out JV:=tlP fun l=>(X9 Z1 l).bind fun _ l=>(L pv ob [] .nil l).bind fun p=>okP ⟨if ob then 7 else 6,[],p.1,p.2⟩
theorem ZhF {pv:BL→Out JV} (hv:Good false pv) (hs:St 1 pv) (ob:Bool) (c:UInt8) (l:BL):Zit pv ob (c::l)=opP pv ob (c::l):=by
  show (ZbJ pv ob _ [] .nil (Z3 l)).bind _=(L pv ob [] .nil (Z3 l)).bind _
  unfold L
  rw [Zem hv hs ob ((c::l).length+1) ((Z3 l).length+1)]
  ·rfl
  ·have:=(Zii l).length_le;simp;omega
  ·omega
theorem ZlQ {op:Bool→BL→Out JV} (ho:∀ b,Hf false (op b)) (hs:∀ b,St 1 (op b)):Good false (vP op)∧St 1 (vP op):=by
  have w1:=Za2 [110,117,108,108] (by decide)
  have w2:=Za2 [102,97,108,115,101] (by decide)
  have w3:=Za2 [116,114,117,101] (by decide)
  have s0:Good false (fun l=>(Zf8 l).bind fun t=>okP (⟨5,t,[],.nil⟩:JV)):=by rw [Zdn];exact (Zo6 none []).bind fun t=>Good.okP false _
  have hf:∀ c,Hf false (vF op c):=fun c=>by
    unfold vF
    refine Hf.ite (ho true) (Hf.ite (ho false) (Hf.ite s0.tl (Hf.ite ?_ (Hf.ite ?_ (Hf.ite ?_ (Hf.ite ?_ (Hf.fail (by decide))))))))
    ·exact (w1.1.bind fun _=>Good.okP false _).toHf
    ·exact (w2.1.bind fun _=>Good.okP false _).toHf
    ·exact (w3.1.bind fun _=>Good.okP false _).toHf
    ·exact (ZeQ.got.bind fun _=>Good.okP false _).toHf
  have st:∀ c,St 1 (vF op c):=fun c=>by
    unfold vF
    refine St.ite (hs true) (St.ite (hs false) (St.ite (Xg (k:=0) s0.sf.st) (St.ite ?_ (St.ite ?_ (St.ite ?_ (St.ite ?_ YX))))))
    ·exact St.mono (St.bind (m:=0) w1.2 fun _=>Zck _) (by simp)
    ·exact St.mono (St.bind (m:=0) w2.2 fun _=>Zck _) (by simp)
    ·exact St.mono (St.bind (m:=0) w3.2 fun _=>Zck _) (by simp)
    ·exact St.bind (k:=1) (m:=0) (ZhR ZoP) fun _=>Zck _
  have g:Good false (hdP (.err 24 []) (vF op)):=Good.hd hf st fun c hc=>⟨20,by
    rcases Zbj hc with rfl | rfl | rfl | rfl<;>rfl⟩
  exact ⟨Za7.bind fun _=>g,St.mono (St.bind (k:=0) (m:=1) (ZdZ _) fun _=>ZfE (fun a r h=>by cases h) st) (by omega)⟩
theorem YM:∀ n:Nat,Good false (ZI n)∧St 1 (ZI n)
  | 0=>by
    unfold ZI
    rw [ZdE (op':=fun _=>YS 23) fun b c l=>rfl]
    exact ZlQ (fun _=>Hf.fail (by decide)) fun _=>YX
  | n+1=>by
    obtain ⟨hv,hs⟩:=YM n
    have h0:ZI n [] = .err 24 []:=by cases n<;>rfl
    unfold ZI
    rw [ZdE (op':=opP (ZI n)) fun b c l=>ZhF hv hs b c l]
    have lg:=fun ob=>Zmz hv hs h0 ob [] .nil
    exact ZlQ (fun b=>(Za7.bind fun _=>(lg b).1.bind fun p=>Good.okP false _).tl) fun b=>Xg (k:=0) (Za7.bind fun _=>(lg b).1.bind fun p=>Good.okP false _).sf.st
theorem ZdD (n:Nat):ZI n [] = .err 24 []:=by cases n<;>rfl
theorem Zhg (n:Nat):ZI (n+1)=vP (opP (ZI n)):=ZdE fun b c l=>ZhF (YM n).1 (YM n).2 b c l
theorem Zia:ZI 0=vP fun _=>YS 23:=ZdE fun b c l=>rfl
end Go.Js
