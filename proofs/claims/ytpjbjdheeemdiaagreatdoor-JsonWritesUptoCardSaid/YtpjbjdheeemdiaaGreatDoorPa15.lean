/- The reference's Right. -/
import Derived.Test.YtpjbjdheeemdiaaGreatDoorPa14
set_option linter.unusedVariables false
set_option linter.unusedSimpArgs false
namespace Go.Js
open Go
theorem Zj8:∀ (n:Nat) {l:JL} {k:Nat} {t:BL} {ns:List BL} {s r:JL},l.drop n = .cons k t ns s r→wV ⟨k,t,ns,s⟩≤pw l
  | 0,l,k,t,ns,s,r,e=>by rw [show l=_ from e];simp only [pw,wV];omega
  | n+1,.nil,_,_,_,_,_,e=>by cases e
  | n+1,.cons _ _ _ _ r',_,_,_,_,_,e=>by have:=Zj8 n (l:=r') e;simp only [pw];omega
theorem ZtN (v:JV):pw v.sub<wV v:=by unfold wV;omega
def ok1 (k:Nat) (t:BL) (ns:List BL) (sub:JL):Prop:=(k=4∨k=5∨t=[])∧(k=6∨k=7∨sub = .nil)∧(k=7∨ns=[])
theorem Zpn {k:Nat} {t:BL} {ns:List BL} {sub:JL} (h:¬ ok1 k t ns sub):whB k t ns sub=false:=by
  cases e:whB k t ns sub with
  | false=>rfl
  | true =>
    refine absurd ?_ h
    unfold ok1
    rcases ZdW.1 e with ⟨a,b,c,d⟩ | ⟨a,_,_,c,d⟩ | ⟨a,_,c,d⟩ | ⟨a,b,c⟩ | ⟨a,b,c,_⟩
    ·exact ⟨.inr (.inr b),.inr (.inr d),.inr c⟩
    ·exact ⟨.inl a,.inr (.inr d),.inr c⟩
    ·exact ⟨.inr (.inl a),.inr (.inr d),.inr c⟩
    ·exact ⟨.inr (.inr b),.inl a,.inr c⟩
    ·exact ⟨.inr (.inr b),.inr (.inl a),.inl a⟩
theorem ZpT {v:JV} (h6:v.k≠6) (h7:v.k≠7) (n:Nat):rrV n v=whB v.k v.t v.ns v.sub:=by
  cases n with
  | zero=>rw [Zkp];simp [h6,h7]
  | succ n =>
    rw [Zkq]
    cases e:whB v.k v.t v.ns v.sub with
    | false=>rfl
    | true =>
      rw [Ze9 (ZdW.1 e) h6 h7]
      cases n<;>rfl
theorem ZrK {d:Nat}:∀ (i:Nat) {l:JL} {k:Nat} {t:BL} {ns:List BL} {s r:JL},l.drop i = .cons k t ns s r→rrL d (l.drop i)=(rrV d ⟨k,t,ns,s⟩&&rrL d (l.drop (i+1)))
  | i,l,k,t,ns,s,r,e=>by rw [JL.drop_succ i l e,e,ZrJ]
end Go.Js
namespace Go.Proofs.YtpjbjdheeemdiaaGreatDoor
open Go Go.Fw Go.Js
theorem ZqB {p:Prop} [Decidable p] {A B:Prop} (h1:¬ p→A) (h2:p→B):Zs (!decide p) A B:=⟨fun e=>h1 (by simpa using e),fun e=>h2 (by simpa using e)⟩
theorem ZwE {s:ByteArray} {n:Nat} {c:UInt8} {l:BL} (h:Zer s n (c::l)) {i:Int} (hi:i=n) {K:Int→Prop} (hk:K (c.toNat:Int)):ZiO s i K :=
  ⟨c,by omega,by subst hi;rw [Int.toNat_natCast];exact h.head,hk⟩
theorem ZpX {s:ByteArray} {n:Nat} {l:BL} (h:Zer s n l) {k:Nat} {c:UInt8} {r:BL} (hd:l.drop k=c::r):Zer s (n+k) (c::r):=by
  have:k≤l.length:=by
    rcases Nat.lt_or_ge l.length k with hl | hl
    ·rw [List.drop_of_length_le (by omega)] at hd;cases hd
    ·exact hl
  rw [← hd];exact h.dropK this
theorem Zig {l:BL} (hl:l.length≤4611686018427387904) {h:Zc} {K:Bool→HP} (hk:K (Lib.validD l) h):Xh (Ze l) K h:=by
  unfold Xh Zbc
  refine Za (Zx (fun p h'=>h'=h∧∃ (n:Nat) (r:BL),p.1=n∧Zer (Ze l) n r∧Lib.validD r=Lib.validD l) (fun p _=>(Ze l).size - p.1.toNat) ⟨rfl,0,l,rfl,Zer.start _,rfl⟩ ?_)
  rintro ⟨at_,u⟩ h2 ⟨rfl,n,r,hn,hr,hv⟩
  dsimp only at hn ⊢
  subst hn
  have hlen:=hr.len
  have hsz:(Ze l).size=l.length:=rfl
  refine Zj (fun hlt=>?_) fun hge=>?_
  ·rcases r with _ | ⟨c,r⟩
   ·simp at hlen;omega
   simp only [List.length_cons] at hlen
   refine ZwE hr rfl (Znh rfl (Za (Za (Za ?_))))
   rw [Zoc] at hv
   have no:ZaQ ((c::r).take (nRb c))=false→K false h2:=fun h=>by
     rw [h,Bool.false_and] at hv
     rw [← hv] at hk;exact hk
   have hc4:nRb c≤4:=by
     unfold nRb Zgr
     split
     ·omega
     split
     ·omega
     split
     ·omega
     split
     ·omega
     split
     ·omega
     split
     ·omega
     split
     ·omega
     split<;>omega
   refine Yh (fun h0=>no ?_) fun h0=>?_
   ·rw [show nRb c=0 by omega];rfl
   rw [ZJ (by omega) (by omega)]
   refine Zj (fun hbig=>no ?_) fun hroom=>Za ?_
   ·obtain ⟨m,hm⟩:∃ m,nRb c=m+1:=⟨nRb c - 1,by omega⟩
    rw [hm,List.take_succ_cons]
    show (decide (nRb c≠0)&&decide ((r.take m).length+1=nRb c)&&okC (loR c) (hiR c) (r.take m))=_
    rw [hm,List.length_take]
    simp
    intro h
    omega
   obtain ⟨m,hm⟩:∃ m,nRb c=m+1:=⟨nRb c - 1,by omega⟩
   have hmr:m≤r.length:=by omega
   have hone:ZaQ ((c::r).take (nRb c))=okC (loR c) (hiR c) (r.take m):=by
     rw [hm,List.take_succ_cons]
     show (decide (nRb c≠0)&&decide ((r.take m).length+1=nRb c)&&okC (loR c) (hiR c) (r.take m))=_
     rw [hm,List.length_take,Nat.min_eq_left hmr]
     simp
   rw [hone] at no hv
   refine Zx (fun p h'=>h'=h2∧∃ (i lo hi:Nat),p.1=lo∧p.2.1=hi∧p.2.2.1=((i+1:Nat):Int)∧i≤m∧okC lo hi ((r.take m).drop i)=okC (loR c) (hiR c) (r.take m)) (fun p _=>m+1 - p.2.2.1.toNat)
     ⟨rfl,0,loR c,hiR c,rfl,rfl,rfl,Nat.zero_le _,rfl⟩ ?_
   rintro ⟨lo_,hi_,i_,u⟩ h3 ⟨rfl,i,lo,hi,h1,h2',h4,him,hok⟩
   dsimp only at h1 h2' h4 ⊢
   subst h1 h2' h4
   refine Zj (fun hlt2=>?_) fun hge2=>?_
   ·have hi':i<m:=by omega
    have hil:i<r.length:=by omega
    have hd:(r.take m).drop i=r[i]::(r.take m).drop (i+1):=by
      rw [List.drop_eq_getElem_cons (by rw [List.length_take];omega)]
      congr 1
      exact List.getElem_take
    have hrd:(c::r).drop (i+1)=r[i]::r.drop (i+1):=List.drop_eq_getElem_cons hil
    have hx:=ZpX hr hrd
    rw [hd] at hok
    simp only [okC] at hok
    have ei:IntKind.wrap .i64 ((n:Int)+((i+1:Nat):Int))=((n+(i+1):Nat):Int):=by rw [ZJ (by omega) (by omega)];omega
    refine ZwE hx ei (Zj (fun hb=>no ?_) fun hb=>ZwE hx ei (Zj (fun hb2=>no ?_) fun hb2=>Za (Za (Za ?_))))
    ·rw [← hok,decide_eq_false (by omega)];rfl
    ·rw [← hok,decide_eq_false (p:=r[i].toNat≤hi) (by omega)];simp
    ·rw [decide_eq_true (by omega),decide_eq_true (by omega)] at hok
     rw [ZJ (by omega) (by omega)]
     exact ⟨⟨rfl,i+1,128,191,rfl,rfl,rfl,by omega,by simpa using hok⟩,by omega⟩
   ·have:i=m:=by omega
    subst this
    rw [List.drop_of_length_le (by rw [List.length_take];omega)] at hok
    have h1:okC (loR c) (hiR c) (r.take i)=true:=by rw [← hok];rfl
    rw [h1,Bool.true_and] at hv
    refine Za ?_
    rw [show (n:Int)+((nRb c:Nat):Int)=((n+(nRb c):Nat):Int) by omega]
    exact ⟨⟨rfl,n+nRb c,(c::r).drop (nRb c),rfl,hr.dropK (by simp;omega),hv⟩,by omega⟩
  ·rcases r with _ | ⟨c,r⟩
   ·rw [← hv] at hk;exact hk
   ·simp at hlen;omega
theorem Zmp:∀ (m:Nat) {h:Zc} {z:VT5} {v:JV} {S:Nat→Prop} {d:Nat} {K:Bool→HP},v.sub.hei≤m→wV v≤4611686018427387904→XY h S z v→(∀ j,S j→j<sz h)→Zcb h→9≤sz h→d≤64 →
    (∀ h',Ext h h'→K (rrV (64 - d) v) h')→YE (m+1) z d K h:=by
  have step:∀ {f88:Zn7} {v:JV},(∀ i k t ns s r,v.sub.drop i = .cons k t ns s r→∀ {h:Zc} {z:VT5} {S:Nat→Prop} {d:Nat} {K:Bool→HP},wV ⟨k,t,ns,s⟩≤4611686018427387904→XY h S z ⟨k,t,ns,s⟩→(∀ j,S j→j<sz h)→Zcb h→9≤sz h→d≤64→(∀ h',Ext h h'→K (rrV (64 - d) ⟨k,t,ns,s⟩) h')→f88 z d K h) →
      ∀ {h:Zc} {z:VT5} {S:Nat→Prop} {d:Nat} {K:Bool→HP},wV v≤4611686018427387904→XY h S z v→(∀ j,S j→j<sz h)→Zcb h→9≤sz h→d≤64→(∀ h',Ext h h'→K (rrV (64 - d) v) h')→X5 f88 z d K h:=by
    intro f88 v hsub h z S d K hw hv hS ht hh hd hk
    unfold X5 Zbb
    refine ZaX fun h1 c1 e1 z1=>?_
    have c1':obj h1 h.size=some (.cells (YS z).toArray 33 (0,0)):=c1
    obtain ⟨a1,a2,a3,a4,cx,a5,a6,a7⟩:=id hv
    have hlx:z.2.2.1.len=v.sub.len:=by have:=a5.len;have:=a7.len;omega
    have hlny:z.2.2.2.1.len=v.ns.length:=ZbK a3
    have hbig:=a5.big
    have hcap:=a5.cap
    have hbig2:=a3.big
    have hcap2:=a3.cap
    have key:=hk h1 e1
    have no:whB v.k v.t v.ns v.sub=false→K false h1:=fun hf=>by
      have:rrV (64 - d) v=false:=by
        cases 64 - d with
        | zero=>rw [Zkp,hf];rfl
        | succ n=>rw [Zkq,hf];rfl
      rw [this] at key;exact key
    have rk:∀ {x:Zc} {K':Int→Prop},Ext h1 x→K' v.k→ldI x h.size 0 .u8 K':=fun e hK=>by
      have c:=Z6 c1' e
      refine rI (Zi c rfl) ?_
      rw [a1];exact hK
    have rt:∀ {x:Zc} {K':ByteArray→Prop},Ext h1 x→K' (Ze v.t)→ldS x h.size (0+1) K':=fun e hK=>by
      have c:=Z6 c1' e
      refine rS (Zi c rfl) ?_
      rw [a2];exact hK
    have rx:∀ {x:Zc} {K':Sl→Prop},Ext h1 x→K' z.2.2.1→ldL x h.size (0+2) K':=fun e hK=>rL (s:=z.2.2.1) (Zi (Z6 c1' e) rfl) hK
    have ry:∀ {x:Zc} {K':Sl→Prop},Ext h1 x→K' z.2.2.2.1→ldL x h.size (0+3) K':=fun e hK=>rL (s:=z.2.2.2.1) (Zi (Z6 c1' e) rfl) hK
    have e0:=Ext.refl h1
    have nil_of:v.sub.len=0→v.sub = .nil:=JL.len_nil.1
    have hlsub:v.sub = .nil→v.sub.len=0:=JL.len_nil.2
    refine Zr (fun _ h'=>h'=h1∧ok1 v.k v.t v.ns v.sub) ?_ ?_
    case refine_2 =>
      have nsck:(v.k=4∨v.k=5∨v.t=[])∧(v.k=6∨v.k=7∨v.sub = .nil)→(ldI h1 h.size 0 .u8 fun t=>Zs (t !=7) (ldL h1 h.size (0+3) fun t13=>Zs (decide ((t13.len:Int)>0)) (K false h1) (h1=h1∧ok1 v.k v.t v.ns v.sub)) (h1=h1∧ok1 v.k v.t v.ns v.sub)):=by
        intro hp
        refine rk e0 (Xp (fun h7=>ry e0 (Zj (fun hp=>no (Zpn fun ho=>?_)) fun hp'=>⟨rfl,hp.1,hp.2,.inr (List.eq_nil_of_length_eq_zero (by omega))⟩)) fun h7=>⟨rfl,hp.1,hp.2,.inl (by omega)⟩)
        rcases ho.2.2 with h | h
        ·omega
        ·rw [h] at hlny;simp at hlny;omega
      have lsck:(v.k=4∨v.k=5∨v.t=[])→(ldI h1 h.size 0 .u8 fun t=>Zs (t !=6) (ldI h1 h.size 0 .u8 fun t6=>Zs (t6 !=7) (ldL h1 h.size (0+2) fun t7=>Zs (decide ((t7.len:Int)>0)) (K false h1) (ldI h1 h.size 0 .u8 fun t=>Zs (t !=7) (ldL h1 h.size (0+3) fun t13=>Zs (decide ((t13.len:Int)>0)) (K false h1) (h1=h1∧ok1 v.k v.t v.ns v.sub)) (h1=h1∧ok1 v.k v.t v.ns v.sub)))
          (ldI h1 h.size 0 .u8 fun t=>Zs (t !=7) (ldL h1 h.size (0+3) fun t13=>Zs (decide ((t13.len:Int)>0)) (K false h1) (h1=h1∧ok1 v.k v.t v.ns v.sub)) (h1=h1∧ok1 v.k v.t v.ns v.sub))) (ldI h1 h.size 0 .u8 fun t=>Zs (t !=7) (ldL h1 h.size (0+3) fun t13=>Zs (decide ((t13.len:Int)>0)) (K false h1) (h1=h1∧ok1 v.k v.t v.ns v.sub)) (h1=h1∧ok1 v.k v.t v.ns v.sub))):=by
        intro hp
        refine rk e0 (Xp (fun h6=>rk e0 (Xp (fun h7=>rx e0 (Zj (fun hp=>no (Zpn fun ho=>?_)) fun hp'=>nsck ⟨hp,.inr (.inr (nil_of (by omega)))⟩)) fun h7=>nsck ⟨hp,.inr (.inl (by omega))⟩)) fun h6=>nsck ⟨hp,.inl (by omega)⟩)
        rcases ho.2.1 with h | h | h
        ·omega
        ·omega
        ·have:=hlsub h;omega
      refine rk e0 (Xp (fun h4=>rk e0 (Xp (fun h5=>rt e0 ?_) fun h5=>lsck (.inr (.inl (by omega))))) fun h4=>lsck (.inl (by omega)))
      rw [show Za0 (Ze v.t) (ByteArray.mk #[])=decide (v.t=[]) from Xc _ _]
      by_cases h0:v.t=[]
      ·rw [decide_eq_true h0];exact Zn rfl (lsck (.inr (.inr h0)))
      ·rw [decide_eq_false h0]
       exact Zm rfl (no (Zpn fun ho=>by rcases ho.1 with h | h | h;(omega);(omega);exact h0 h))
    rintro ⟨⟩ h2 ⟨rfl,ho⟩
    refine Zr (fun _ h'=>h'=h2∧(v.k=6∨v.k=7)) ?_ ?_
    case refine_1 =>
      rintro ⟨⟩ h3 ⟨rfl,h67⟩
      refine Zr (fun _ h'=>h'=h3∧d<64∧(v.k=7→v.ns.length=v.sub.len)) ?_ ?_
      case refine_2 =>
        refine Yh (fun hd64=>?_) fun hd64=>rk e0 (Yh (fun h7=>ry e0 (rx e0 (Xp (fun hne=>no ?_) fun heq=>⟨rfl,by omega,fun _=>by omega⟩))) fun h7=>⟨rfl,by omega,fun h=>absurd (by omega) h7⟩)
        ·rw [show 64 - d=0 by omega,Zkp] at key
         rcases h67 with h | h
         ·rw [h] at key;simpa using key
         ·rw [h] at key;simpa using key
        ·cases e:whB v.k v.t v.ns v.sub with
         | false=>rfl
         | true =>
           rcases ZdW.1 e with ⟨h,_⟩ | ⟨h,_⟩ | ⟨h,_⟩ | ⟨h,_⟩ | ⟨h,_,h',_⟩
           all_goals omega
      rintro ⟨⟩ h4 ⟨rfl,hd64,hnl⟩
      obtain ⟨n,hn⟩:∃ n,64 - d=n+1:=⟨63 - d,by omega⟩
      rw [hn] at hk
      rw [Zkq] at hk
      have hwh:whB v.k v.t v.ns v.sub=v.ns.all Lib.validD:=by
        rw [Bool.eq_iff_iff,ZdW,List.all_eq_true]
        rcases h67 with h6 | h7
        ·have hns:v.ns=[]:=by rcases ho.2.2 with h | h;omega;exact h
         have htt:v.t=[]:=by rcases ho.1 with h | h | h;omega;omega;exact h
         exact ⟨fun _ x hx=>(by rw [hns] at hx;cases hx),fun _=> .inr (.inr (.inr (.inl ⟨h6,htt,hns⟩)))⟩
        ·have htt:v.t=[]:=by rcases ho.1 with h | h | h;omega;omega;exact h
         refine ⟨fun h x hx=>?_,fun h=> .inr (.inr (.inr (.inr ⟨h7,htt,hnl h7,fun x hx=>(Zeu x).1 (h x hx)⟩)))⟩
         rcases h with ⟨h,_⟩ | ⟨h,_⟩ | ⟨h,_⟩ | ⟨h,_⟩ | ⟨h,_,_,h'⟩
         all_goals first | omega | exact (Zeu x).2 (h' x hx)
      refine Za (Zx (fun p h'=>h'=h4∧∃ i:Nat,p.1=i∧i≤v.ns.length∧(v.ns.take i).all Lib.validD=true) (fun p _=>(v.ns.length - p.1).toNat) ⟨rfl,0,rfl,Nat.zero_le _,rfl⟩ ?_)
      rintro ⟨i0,u⟩ h5 ⟨rfl,i,hi,hil,hall⟩
      dsimp only at hi ⊢
      subst hi
      refine ry e0 (Zj (fun hlt=>?_) fun hge=>?_)
      ·have hia:i<v.ns.length:=by omega
       refine ry e0 (Zd2 (Yf a3 a4 fun j hj hl=>ZQ e1 hl) (List.getElem?_eq_getElem hia) rfl (Zig ?_ ?_))
       ·have:=Zh9 (List.getElem_mem hia);unfold wV at hw;omega
       cases hu:Lib.validD v.ns[i] with
       | false =>
         refine Zm rfl (no ?_)
         rw [hwh]
         cases hq:v.ns.all Lib.validD with
         | false=>rfl
         | true=>rw [List.all_eq_true] at hq;have:=hq _ (List.getElem_mem hia);rw [hu] at this;cases this
       | true =>
         refine Zn rfl (Za ?_)
         rw [ZJ (by omega) (by omega)]
         refine ⟨⟨rfl,i+1,rfl,by omega,?_⟩,by omega⟩
         rw [List.take_add_one,List.getElem?_eq_getElem hia,List.all_append,hall]
         simp [hu]
      ·rw [List.take_of_length_le (by omega)] at hall
       rw [hall] at hwh
       rw [hwh] at hk
       refine Za (Zx (fun p h'=>∃ i:Nat,p.1=i∧i≤v.sub.len∧Ext h5 h'∧rrL n (v.sub.drop i)=rrL n v.sub) (fun p _=>(v.sub.len - p.1).toNat) ⟨0,rfl,Nat.zero_le _,e0,rfl⟩ ?_)
       rintro ⟨i2,u⟩ h6 ⟨i,hi,hle,e6,q6⟩
       dsimp only at hi ⊢
       subst hi
       have e06:=e1.trans e6
       refine rx e6 (Zj (fun hlt=>?_) fun hge=>?_)
       ·have hia:i<v.sub.len:=by omega
        obtain ⟨k,t,ns,s,r,hdr⟩:=JL.drop_cons hia
        have keepS:∀ {a:Zc},Ext h a→∀ j,S j→j<sz h→obj a j=obj h j:=fun e j hj hl=>ZQ e hl
        rw [ZrK i hdr] at q6
        refine rx e6 (ZcE (Yf a5 a6 (keepS e06)) (a7.keep (keepS e06) fun j hj=>hj) hdr rfl fun zi hzi=>?_)
        rw [show (d:Int)+1=((d+1:Nat):Int) by omega,ZJ (by omega) (by omega)]
        refine hsub i k t ns s r hdr (S:=S) (by have:=Zj8 i hdr;have:=ZtN v;omega) hzi (fun j hj=>by have:=hS j hj;have:=e06.szz;omega) (ht.ext e06) (by have:=e06.szz;omega) (by omega) fun h7 e7=>?_
        rw [show 64 - (d+1)=n by omega]
        cases hr:rrV n ⟨k,t,ns,s⟩ with
        | false =>
          rw [hr,Bool.false_and] at q6
          refine Zm rfl ?_
          have:=hk h7 (e06.trans e7)
          rw [← q6] at this;exact this
        | true =>
          rw [hr,Bool.true_and] at q6
          refine Zn rfl (Za ?_)
          rw [ZJ (by omega) (by omega)]
          exact ⟨⟨i+1,rfl,by omega,e6.trans e7,q6⟩,by omega⟩
       ·rw [JL.drop_nil (by omega)] at q6
        have:=hk h6 e06
        rw [← q6] at this
        have e9:rrL n .nil=true:=by cases n<;>rfl
        rw [e9] at this
        exact this
    refine rk e0 (Zr (fun p h'=>h'=h2∧(p.1=true↔v.k=1∨v.k=2∨v.k=3)) ?_ ?_)
    case refine_2 =>
      refine Zd ?_
      by_cases h1':v.k=1
      ·rw [show ((v.k:Int) ==1)=true by rw [h1'];rfl];exact Zm rfl ⟨rfl,by simp [h1']⟩
      rw [show ((v.k:Int) ==1)=false by rw [beq_eq_false_iff_ne];omega]
      refine Zn rfl (Zd ?_)
      by_cases h2':v.k=2
      ·rw [show ((v.k:Int) ==2)=true by rw [h2'];rfl];exact Zm rfl ⟨rfl,by simp [h2']⟩
      rw [show ((v.k:Int) ==2)=false by rw [beq_eq_false_iff_ne];omega]
      refine Zn rfl (Zd ⟨rfl,?_⟩)
      dsimp only
      rw [beq_iff_eq]
      omega
    rintro ⟨pb,u⟩ h3 ⟨rfl,hpb⟩
    dsimp only at hpb ⊢
    have scal:v.k≠6→v.k≠7→v.sub = .nil∧v.ns=[]:=fun h6 h7=>⟨by rcases ho.2.1 with h | h | h;exact absurd h h6;exact absurd h h7;exact h,by rcases ho.2.2 with h | h;exact absurd h h7;exact h⟩
    have yes:v.k≠6→v.k≠7→∀ {h':Zc} {b:Bool},Ext h3 h'→whB v.k v.t v.ns v.sub=b→K b h':=fun h6 h7 h' b e hb=>by
      have:=hk h' (e1.trans e)
      rw [ZpT h6 h7,hb] at this;exact this
    cases hpbv:pb with
    | true =>
      have h123:=hpb.1 hpbv
      refine Zm rfl (yes (by omega) (by omega) e0 ?_)
      obtain ⟨s1,s2⟩:=scal (by omega) (by omega)
      exact ZdW.2 (.inl ⟨h123,by rcases ho.1 with h | h | h;omega;omega;exact h,s2,s1⟩)
    | false =>
      have h123:¬ (v.k=1∨v.k=2∨v.k=3):=fun h=>by have:=hpb.2 h;rw [hpbv] at this;cases this
      refine Zn rfl (Zd ?_)
      by_cases h4:v.k=4
      ·rw [show ((v.k:Int) ==4)=true by rw [h4];rfl]
       obtain ⟨s1,s2⟩:=scal (by omega) (by omega)
       have hwb:whB v.k v.t v.ns v.sub=Zr3 v.t:=by
         unfold whB
         rw [if_neg h123,if_pos h4,s1,s2]
         simp [JL.isNil]
       refine Zm rfl (rt e0 (Zmx (by have:=e1.szz;omega) fun y e n h5 e5 g=>?_))
       refine ZaX fun h6 c6 e6 z6=>?_
       have c6':obj h6 h5.size=some (.cells zV.toArray 33 (0,0)):=c6
       refine Zle c6' (by simp) (Zbu y) fun h7 c7 u7 z7=>Za (Za ?_)
       have c7':obj h7 h5.size=some (.cells (YS y).toArray 33 (0,0)):=c7
       have hs5:sz h5=h5.size:=rfl
       have e37:Ext h3 h7:=(e5.trans e6).updS u7 fun j hj=>by have:=e5.size;have:sz h3=h3.size:=rfl;omega
       have fin:∀ {b:Bool},Zr3 v.t=b→K b h7:=fun hb=>yes (by omega) (by omega) e37 (by rw [hwb,hb])
       unfold Zr3 at fin
       have hp:(Ze v.t).data.toList=v.t:=rfl
       rw [hp] at g
       cases hq:Za2 v.t with
       | err e' k =>
         rw [hq] at g fin
         obtain ⟨_,he,_⟩:=g
         have:=Znt hq
         exact Zn (beq_eq_false_iff_ne.2 (by omega)) (fin rfl)
       | ok w =>
         rw [hq] at g fin
         obtain ⟨vr,he,_⟩:=g
         simp only at fin
         refine Zm (by rw [he];rfl) (rI (Zi c7' rfl) ?_)
         rw [vr.1]
         refine Yh (fun hk4=>?_) fun hk4=>fin (by rw [decide_eq_false (by omega)];rfl)
         refine rS (Zi c7' rfl) (rt e37 (Zd ?_))
         rw [vr.2.1,Xc]
         exact fin (by rw [decide_eq_true (by omega)];rfl)
      rw [show ((v.k:Int) ==4)=false by rw [beq_eq_false_iff_ne];omega]
      refine Zn rfl (Zd ?_)
      by_cases h5:v.k=5
      ·rw [show ((v.k:Int) ==5)=true by rw [h5];rfl]
       obtain ⟨s1,s2⟩:=scal (by omega) (by omega)
       refine Zm rfl (rt e0 (Zig (by unfold wV at hw;omega) (Zd (yes (by omega) (by omega) e0 ?_))))
       unfold whB
       rw [if_neg h123,if_neg h4,if_pos h5,s1,s2]
       simp [JL.isNil]
      rw [show ((v.k:Int) ==5)=false by rw [beq_eq_false_iff_ne];omega]
      refine Zn rfl (Zd ?_)
      by_cases h6:v.k=6
      ·rw [show ((v.k:Int) ==6)=true by rw [h6];rfl]
       exact Zm rfl (Zm rfl ⟨rfl,.inl h6⟩)
      rw [show ((v.k:Int) ==6)=false by rw [beq_eq_false_iff_ne];omega]
      refine Zn rfl (Zd ?_)
      by_cases h7:v.k=7
      ·rw [show ((v.k:Int) ==7)=true by rw [h7];rfl]
       exact Zm rfl ⟨rfl,.inr h7⟩
      rw [show ((v.k:Int) ==7)=false by rw [beq_eq_false_iff_ne];omega]
      refine Zn rfl (no ?_)
      unfold whB
      rw [if_neg h123,if_neg h4,if_neg h5,if_neg h6,if_neg h7]
  intro m
  induction m with
  | zero =>
    intro h z v S d K hm
    exact step (f88:=YE 0) fun i k t ns s r hd=>by have:=JL.drop_hei i v.sub hd;omega
  | succ m ih =>
    intro h z v S d K hm
    exact step (f88:=YE (m+1)) fun i k t ns s r hd=>fun a b c d e f g=>ih (v:=⟨k,t,ns,s⟩) (by have:=JL.drop_hei i v.sub hd;show s.hei≤m;omega) a b c d e f g
theorem ZiK {h:Zc} {z:VT5} {v:JV} {S:Nat→Prop} {K:Bool→HP} (hv:XY h S z v) (hS:∀ j,S j→j<sz h) (hw:wV v≤4611686018427387904) (ht:Zcb h) (hh:9≤sz h) (hk:∀ h',Ext h h'→K (Zb5 v) h'):YC z K h:=by
  unfold YC Zbg
  refine ZaX fun h1 c1 e1 z1=>?_
  have c1':obj h1 h.size=some (.cells (YS z).toArray 33 (0,0)):=c1
  have ld:∀ {x:Zc} {K:Int→ByteArray→Sl→Sl→Prop},Ext h1 x→K z.1 z.2.1 z.2.2.1 z.2.2.2.1→ldI x h.size 0 .u8 fun a=>ldS x h.size (0+1) fun b=>ldL x h.size (0+2) fun c=>ldL x h.size (0+3) fun d=>K a b c d:=fun e hK=>by
    have c:=Z6 c1' e
    exact rI (Zi c rfl) (rS (Zi c rfl) (rL (s:=z.2.2.1) (Zi c rfl) (rL (s:=z.2.2.2.1) (Zi c rfl) hK)))
  refine ld (Ext.refl _) (ZgO (z:=z) (hv.ext hS e1) (fun j hj=>by have:=hS j hj;have:=e1.szz;omega) fun h2 e2=>?_)
  have e02:=e1.trans e2
  have key:=fun h' e=>hk h' e
  rw [ZpV] at key
  refine ZqB (fun hg=>?_) fun hg=>?_
  ·rw [decide_eq_true (show Zeq v≤65536 by omega)] at key
   refine ld e2 ⟨v.sub.hei+1,Zmp _ (z:=z) (d:=0) (Nat.le_refl _) hw (hv.ext hS e02) (fun j hj=>by have:=hS j hj;have:=e02.szz;omega) (ht.ext e02) (by have:=e02.szz;omega) (by omega) fun h3 e3=>Zd (key h3 (e02.trans e3))⟩
  ·have:=key h2 e02
   rw [decide_eq_false (show ¬ Zeq v≤65536 by omega),Bool.false_and] at this
   exact this
end Go.Proofs.YtpjbjdheeemdiaaGreatDoor
namespace Go.Js
open Go
theorem Cut.pre {b y:BL} (p:BL) (h:Cut b y):Cut (p++b) (p++y):=by
  obtain ⟨h1,h2,h3⟩:=h
  refine ⟨by simp;omega,fun hl=>?_,fun hl=>?_⟩
  ·rw [List.length_append] at hl;rw [h2 (by omega)]
  ·rw [List.length_append] at hl ⊢
   by_cases hb:b.length≤65536
   ·rw [h2 hb];omega
   ·have:=h3 (by omega);omega
theorem ZlR {α:Type}:∀ (n:Nat) (l:List α),(l.drop n).tail=l.drop (n+1)
  | 0,l=>by cases l<;>rfl
  | n+1,[]=>by simp
  | n+1,_::l=>ZlR n l
theorem Zqf {v:JV} (h:Zem 64 v):(v.k=7→v.ns.length=v.sub.len)∧okN v.sub:=by
  have:=ZdM (d:=64) (l:= .cons v.k v.t v.ns v.sub .nil) h
  exact ⟨this.1,this.2.1⟩
end Go.Js
namespace Go.Proofs.YtpjbjdheeemdiaaGreatDoor
open Go Go.Fw Go.Js
section
variable {h:Zc}
theorem ZrL {l:BL} {k:Nat} (hk:k≤l.length):Zer (Ze l) k (l.drop k):=by
  have:Zer (Ze l) 0 l:=⟨rfl,by rw [YO];omega⟩
  have:=this.dropK hk
  rwa [Nat.zero_add] at this
theorem ZCI {c:UInt8} {n:Int} (d:UInt8) (hn:n=(d.toNat:Int)) {A B:Prop} (ha:c=d→A) (hb:c≠d→B):Zs (((c.toNat:Nat):Int) ==n) A B:=by
  subst hn
  exact Yh (fun e=>ha (Zb9 e)) fun e=>hb (Zde e)
theorem w8m (n:Int):Value.int .u8 (IntKind.wrap .u8 n)=bv (UInt8.ofNat (n % 256).toNat):=by
  unfold bv
  rw [Zk4]
  have:(UInt8.ofNat (n % 256).toNat).toNat=(n % 256).toNat:=by
    rw [UInt8.toNat_ofNat'];exact Nat.mod_eq_of_lt (by omega)
  rw [this]
  congr 1
  omega
theorem Zzc {h0 h:Zc} {base:Nat} {out:Sl} {x new:BL} {n:Nat} {cells:List Value} {K:Sl→Zc→Prop} (ho:Own h base out 1 (x.map bv)) (e:Ext h0 h) (hb:sz h0≤base) (hbase:base≤sz h) (hn:n=new.length) (hc:cells=new.map bv) (hl:x.length+new.length≤70000000000000)
    (hk:∀ s' h',Own h' base s' 1 ((x++new).map bv)→Ext h0 h'→sz h≤sz h'→K s' h'):Fw.app 5 1 1 [.int .u8 0] out n cells h K:=by
  subst hn hc
  have hlen:=ho.len
  simp only [List.length_map] at hlen
  refine ho.app (by simp) (Zh5 new) rfl (by omega) (by omega) hbase fun s' h' o' l' u' _=>?_
  refine hk s' h' (by rw [List.map_append];exact o') (e.updS u' fun j hj=>?_) u'.size
  have:=(ho.lt hj).1
  omega
theorem ZhY {t:BL} (ht:t.length≤1000000000000) {K:ByteArray→HP} (hk:∀ h',Ext h h'→K (Ze (ZcS t)) h'):Xa (Ze t) K h:=by
  unfold Xa ZaT
  have hs:sz h=h.size:=rfl
  have hts:(Ze t).size=t.length:=rfl
  refine ZjE (Za ?_)
  have o1:=Own.newC (h:=h) (cells:=([34]:BL).map bv) (t:=5) (size:=1) (n:=1) rfl (by decide)
  refine Zx (fun p h'=>∃ i:Nat,p.2.1=i∧i≤t.length∧Own h' (sz h) p.1 1 ((34::(t.take i).flatMap ZcH).map bv)∧Ext h h') (fun p _=>t.length - p.2.1.toNat)
    ⟨0,rfl,Nat.zero_le _,o1,Ext.push h _⟩ ?_
  rintro ⟨out,i_,u⟩ h5 ⟨i,hi,hil,ho,e5⟩
  dsimp only at hi ho ⊢
  subst hi
  have hs5:=e5.szz
  have hfl:=Zhr (t.take i)
  rw [List.length_take] at hfl
  refine Zj (fun hlt=>?_) fun hge=>?_
  ·have hit:i<t.length:=by omega
   have hr:Zer (Ze t) i (t[i]::t.drop (i+1)):=by
     have:=ZrL (l:=t) (k:=i) (by omega)
     rwa [List.drop_eq_getElem_cons hit] at this
   have htk:t.take (i+1)=t.take i++[t[i]]:=by rw [List.take_add_one,List.getElem?_eq_getElem hit];rfl
   refine ZwE hr rfl (Za ?_)
   generalize t[i]=c at *
   have fin:∀ (new:BL),ZcH c=new→∀ {s':Sl} {h':Zc},Own h' (sz h) s' 1 (((34::(t.take i).flatMap ZcH)++new).map bv)→Ext h h'→(∃ i_1:Nat,IntKind.wrap .i64 ((i:Int)+1)=i_1∧i_1≤t.length∧Own h' (sz h) s' 1 ((34::(t.take i_1).flatMap ZcH).map bv)∧Ext h h')∧t.length - (IntKind.wrap .i64 ((i:Int)+1)).toNat<t.length - (i:Int).toNat:=fun new hn s' h' o' e'=>by
     rw [ZJ (by omega) (by omega)]
     refine ⟨⟨i+1,rfl,by omega,?_,e'⟩,by omega⟩
     rw [htk,List.flatMap_append,List.flatMap_cons,List.flatMap_nil,List.append_nil,hn]
     exact o'
   have hl0:(34::(t.take i).flatMap ZcH).length≤60000000000000:=by simp only [List.length_cons];omega
   have put:∀ {out':Sl} {h':Zc} {x:BL} (new:BL) {n:Nat} {cells:List Value} {K':Sl→HP},Own h' (sz h) out' 1 (x.map bv)→Ext h h'→x.length≤60000000000100→n=new.length→cells=new.map bv→new.length≤100→(∀ s' h2,Own h2 (sz h) s' 1 ((x++new).map bv)→Ext h h2→K' s' h2)→Fw.app 5 1 1 [.int .u8 0] out' n cells h' K':=fun {out' h' x} new {n cells K'} o e hx hn hc hn2 hk' =>
     Zzc o e (Nat.le_refl _) e.szz hn hc (by omega) fun s' h2 o2 e2 _=>hk' s' h2 o2 e2
   have box:∀ {h':Zc} (new:BL) {n:Nat} {K':List Value→HP},n=new.length→n<100→Ext h h'→(∀ h2,Ext h' h2→K' (new.map bv) h2)→newC h' (new.map bv) 5 fun b h2=>rdS ⟨some ⟨b,0,none⟩,n,n⟩ 1 h2 fun l=>K' l h2:=fun {h'} new {n K'} hn hn2 e hk' =>
     Zs6 new n rfl hn.symm (by omega) fun b h2 hb e2 _=>hb.rd (hk' h2 e2)
   have keepO:∀ {h2:Zc},Ext h5 h2→Own h2 (sz h) out 1 ((34::(t.take i).flatMap ZcH).map bv):=fun e=>ho.congr fun b hb hl _=>ZQ e hl
   refine Zr (fun p h'=>h'=h5∧(p.1=true↔c=34∨c=92)) ?_ ?_
   case refine_2 =>
     refine ZCI 34 rfl (fun h=>⟨rfl,by simp [h]⟩) fun h34=>Zd ⟨rfl,?_⟩
     dsimp only
     rw [beq_iff_eq]
     constructor
     ·intro h;exact .inr (Zb9 (d:=92) h)
     ·rintro (h | h)
      ·exact absurd h h34
      ·rw [h];rfl
   rintro ⟨q,u⟩ h6 ⟨rfl,hq⟩
   dsimp only at hq ⊢
   cases hqv:q with
   | true =>
     have hc:=hq.1 hqv
     refine Zm rfl (box [92,c] rfl (by decide) e5 fun h7 e7=>put [92,c] (keepO e7) (e5.trans e7) (by omega) rfl rfl (by simp) fun s' h8 o8 e8=>Za (fin [92,c] ?_ o8 e8))
     unfold ZcH;rw [if_pos hc]
   | false =>
     have hc:¬ (c=34∨c=92):=fun h=>by have:=hq.2 h;rw [hqv] at this;cases this
     have lit:∀ (d m:UInt8) {Kt Kf:Prop},(c=d→Kt)→(c≠d→Kf)→ZD (((c.toNat:Nat):Int) ==(d.toNat:Int)) fun t=>Zs t Kt Kf:=fun d m {Kt Kf} ht hf=>cEq d rfl ht hf
     refine Zn rfl (cEq 8 rfl (fun h=>?_) fun n8=>cEq 12 rfl (fun h=>?_) fun n12=>cEq 10 rfl (fun h=>?_) fun n10=>cEq 13 rfl (fun h=>?_) fun n13=>cEq 9 rfl (fun h=>?_) fun n9=>Zd (Zj (fun h32=>?_) fun h32=>?_))
     ·exact put [92,98] ho e5 (by omega) rfl rfl (by decide) fun s' h8 o8 e8=>Za (fin [92,98] (by rw [h];rfl) o8 e8)
     ·exact put [92,102] ho e5 (by omega) rfl rfl (by decide) fun s' h8 o8 e8=>Za (fin [92,102] (by rw [h];rfl) o8 e8)
     ·exact put [92,110] ho e5 (by omega) rfl rfl (by decide) fun s' h8 o8 e8=>Za (fin [92,110] (by rw [h];rfl) o8 e8)
     ·exact put [92,114] ho e5 (by omega) rfl rfl (by decide) fun s' h8 o8 e8=>Za (fin [92,114] (by rw [h];rfl) o8 e8)
     ·exact put [92,116] ho e5 (by omega) rfl rfl (by decide) fun s' h8 o8 e8=>Za (fin [92,116] (by rw [h];rfl) o8 e8)
     ·have hcl:c.toNat<32:=by omega
      have hesc:ZcH c=[92,117,48,48]++[ZlJ (c.toNat / 16),ZlJ (c.toNat % 16)]:=by
        unfold ZcH
        rw [if_neg hc,if_neg n8,if_neg n12,if_neg n10,if_neg n13,if_neg n9,if_pos hcl]
        rfl
      have hn:=Zqk ⟨c.toNat,c.toNat_lt⟩
      have hlo:=Zqj ⟨c.toNat,c.toNat_lt⟩
      have hd1:=ZnS ⟨c.toNat / 16,by omega⟩
      have hd2:=ZnS ⟨c.toNat % 16,by omega⟩
      dsimp only at hn hlo hd1 hd2
      refine put [92,117,48,48] ho e5 (by omega) rfl rfl (by decide) fun s' h8 o8 e8=>⟨by decide,?_⟩
      refine ⟨_,by rw [hn];omega,by rw [hn,Int.toNat_natCast];exact hd1,⟨_,by rw [hlo];omega,by rw [hlo,Int.toNat_natCast];exact hd2,?_⟩⟩
      refine box [ZlJ (c.toNat / 16),ZlJ (c.toNat % 16)] rfl (by decide) e8 fun h9 e9=>put [ZlJ (c.toNat / 16),ZlJ (c.toNat % 16)] (o8.congr fun b hb hl _=>ZQ e9 hl) (e8.trans e9) (by simp only [List.length_append,List.length_cons,List.length_nil] at hl0 ⊢;omega) rfl rfl (by simp) fun s2 h10 o10 e10=>Za ?_
      rw [List.append_assoc] at o10
      exact fin _ hesc o10 e10
     ·refine box [c] rfl (by decide) e5 fun h7 e7=>put [c] (keepO e7) (e5.trans e7) (by omega) rfl rfl (by simp) fun s' h8 o8 e8=>Za (fin [c] ?_ o8 e8)
      unfold ZcH
      rw [if_neg hc,if_neg n8,if_neg n12,if_neg n10,if_neg n13,if_neg n9,if_neg (by omega)]
  ·rw [List.take_of_length_le (by omega)] at ho
   have hfl2:=Zhr t
   refine Zs6 [34] 1 rfl rfl (by decide) fun b h6 hb e6 _=>hb.rd ?_
   refine Zzc (new:=[34]) (ho.congr fun b hb hl _=>ZQ e6 hl) (e5.trans e6) (Nat.le_refl _) (e5.trans e6).szz rfl rfl (by simp only [List.length_cons,List.length_nil];omega) fun s' h7 o7 e7 _=>?_
   exact Zgg o7.row (hk h7 e7)
theorem Zul {x y:BL} (hx:x.length+y.length≤4611686018427387904) {K:ByteArray→Prop} (hk:K (Ze (x++y))):Zi9 (Ze x) (Ze y) K:=by
  refine ⟨by rw [YO,YO];omega,?_⟩
  have:Ze x++Ze y=Ze (x++y):=by
    apply ByteArray.ext
    simp [Ze]
  rw [this];exact hk
theorem Zmb:∀ (m:Nat) {h:Zc} {z:VT5} {v:JV} {S:Nat→Prop} {K:ByteArray→HP},v.sub.hei≤m→(v.k=7→v.ns.length=v.sub.len)∧okN v.sub→wV v≤1000000000000→XY h S z v→(∀ j,S j→j<sz h) →
    (∀ s h',Ext h h'→Cut (Xf v) s→K (Ze s) h')→YJ (m+1) z K h:=by
  have step:∀ {f103:Zgl} {v:JV},(∀ i k t ns s r,v.sub.drop i = .cons k t ns s r→∀ {h:Zc} {z:VT5} {S:Nat→Prop} {K:ByteArray→HP},(k=7→ns.length=s.len)∧okN s→wV ⟨k,t,ns,s⟩≤1000000000000→XY h S z ⟨k,t,ns,s⟩→(∀ j,S j→j<sz h)→(∀ s' h',Ext h h'→Cut (Xf ⟨k,t,ns,s⟩) s'→K (Ze s') h')→f103 z K h) →
      ∀ {h:Zc} {z:VT5} {S:Nat→Prop} {K:ByteArray→HP},(v.k=7→v.ns.length=v.sub.len)∧okN v.sub→wV v≤1000000000000→XY h S z v→(∀ j,S j→j<sz h)→(∀ s h',Ext h h'→Cut (Xf v) s→K (Ze s) h')→Zam f103 z K h:=by
    intro f103 v hsub h z S K hok hw hv hS hk
    unfold Zam Zbz
    refine ZaX fun h1 c1 e1 z1=>?_
    have c1':obj h1 h.size=some (.cells (YS z).toArray 33 (0,0)):=c1
    obtain ⟨a1,a2,a3,a4,cx,a5,a6,a7⟩:=id hv
    have hlx:z.2.2.1.len=v.sub.len:=by have:=a5.len;have:=a7.len;omega
    have hbig:=a5.big
    have hcap:=a5.cap
    have hns:=ZbK a3
    have hp:Xf v=prV v.k v.t (ZX (decide (v.k=7)) true v.ns v.sub):=rfl
    have hpl:=ZgD v
    have e_:∀ {n:Nat} {A B:Prop},(v.k=n→A)→(v.k≠n→B)→ZD ((v.k:Int) ==(n:Int)) fun t=>Zs t A B:=fun {n A B} ha hb =>
      Zd (Yh (fun e=>ha (by omega)) fun e=>hb (by omega))
    have done:∀ (s:BL),Xf v=s→K (Ze s) h1:=fun s hs=>hk s h1 e1 (by rw [hs];exact Cut.refl s)
    refine rI (Zi c1' rfl) ?_
    rw [a1]
    refine e_ (n:=1) (fun e=>done [110,117,108,108] (by rw [hp,e];rfl)) fun n1=>e_ (n:=2) (fun e=>done [102,97,108,115,101] (by rw [hp,e];rfl)) fun n2=>e_ (n:=3) (fun e=>done [116,114,117,101] (by rw [hp,e];rfl)) fun n3=>e_ (n:=4) (fun e=>rS (Zi c1' rfl) ?_) fun n4=>e_ (n:=5) (fun e=>rS (Zi c1' rfl) ?_) fun n5=>?_
    ·rw [a2];exact done v.t (by rw [hp,e];rfl)
    ·rw [a2]
     refine ZhY (by unfold wV at hw;omega) fun h2 e2=>hk _ h2 (e1.trans e2) ?_
     have:Xf v=ZcS v.t:=by rw [hp,e];rfl
     rw [this];exact Cut.refl _
    have hpq:Xf v=[if v.k=7 then 123 else 91]++(ZX (decide (v.k=7)) true v.ns v.sub++[if v.k=7 then 125 else 93]):=by
      rw [hp]
      unfold prV
      rw [if_neg n1,if_neg n2,if_neg n3,if_neg n4,if_neg n5]
      split<;>rfl
    generalize hop:(if v.k=7 then 123 else 91:UInt8)=op at hpq
    generalize hcl:(if v.k=7 then 125 else 93:UInt8)=cl at hpq
    refine Zr (fun p h'=>h'=h1∧p.1=Ze [op]∧p.2.1=Ze [cl]) ?_ ?_
    case refine_2 =>
      refine rI (Zi c1' rfl) ?_
      rw [a1]
      refine Yh (fun h7=>⟨rfl,?_,?_⟩) fun h7=>⟨rfl,?_,?_⟩
      ·rw [← hop,if_pos (by omega)]
      ·rw [← hcl,if_pos (by omega)]
      ·rw [← hop,if_neg (by omega)]
      ·rw [← hcl,if_neg (by omega)]
    rintro ⟨o_,c_,u⟩ h2 ⟨rfl,ho_,hc_⟩
    dsimp only at ho_ hc_ ⊢
    subst ho_ hc_
    have hplen:=congrArg List.length hpq
    simp only [List.length_append,List.length_singleton] at hplen
    refine Za (Zx (fun p h'=>∃ (i:Nat) (q o':BL),p.2.1=i∧i≤v.sub.len∧p.1=Ze o'∧Cut ([op]++q) o'∧Ext h2 h'∧ZX (decide (v.k=7)) true v.ns v.sub=q++ZX (decide (v.k=7)) (decide (i=0)) (v.ns.drop i) (v.sub.drop i)) (fun p _=>(v.sub.len - p.2.1).toNat)
      ⟨0,[],[op],rfl,Nat.zero_le _,rfl,Cut.refl _,Ext.refl _,rfl⟩ ?_)
    rintro ⟨o_,i_,u⟩ h3 ⟨i,q,o',hi,hil,ho_,hcut,e3,hq⟩
    dsimp only at hi ho_ ⊢
    subst hi ho_
    have e03:=e1.trans e3
    have c3:=Z6 c1' e3
    have hqlen:=congrArg List.length hq
    simp only [List.length_append] at hqlen
    have hol:o'.length≤1+q.length:=by have:=hcut.1;simp at this;omega
    refine rL (s:=z.2.2.1) (Zi c3 rfl) (Zj (fun hlt=>?_) fun hge=>?_)
    ·have hia:i<v.sub.len:=by omega
     obtain ⟨k,t,ns,s,r,hd⟩:=JL.drop_cons hia
     have hd1:=JL.drop_succ i v.sub hd
     rw [hd,ZhZ,ZlR,← hd1] at hq
     have osz:((Ze o').size:Int)=o'.length:=rfl
     refine Zj (fun hsm=>?_) fun hbg=>?_
     ·have hsm':o'.length≤65536:=by omega
      have hpj:=ZgD ⟨k,t,ns,s⟩
      have hwd:=Zj8 i hd
      have hpw:=ZtN v
      have keepS:∀ {a:Zc},Ext h a→∀ j,S j→j<sz h→obj a j=obj h j:=fun e j hj hl=>ZQ e hl
      refine Zr (fun p h'=>h'=h3∧p.1=Ze (o'++Zhl (decide (i=0)))) ?_ ?_
      case refine_2 =>
        refine Zj (fun h0=>Zul (y:=[44]) (by simp;omega) ⟨rfl,?_⟩) fun h0=>⟨rfl,?_⟩
        ·rw [decide_eq_false (by omega)];rfl
        ·rw [decide_eq_true (by omega)];simp [Zhl]
      rintro ⟨o1,u⟩ h4 ⟨rfl,ho1⟩
      dsimp only at ho1 ⊢
      subst ho1
      have hsep:(Zhl (decide (i=0))).length≤1:=by cases decide (i=0)<;>simp [Zhl]
      refine Zr (fun p h'=>Ext h2 h'∧p.1=Ze (o'++(Zhl (decide (i=0))++nmB (decide (v.k=7)) (v.ns.drop i)))) ?_ ?_
      case refine_2 =>
        refine rI (Zi c3 rfl) ?_
        rw [a1]
        refine Yh (fun h7=>rL (s:=z.2.2.2.1) (Zi c3 rfl) ?_) fun h7=>⟨e3,?_⟩
        ·have hin:i<v.ns.length:=by have:=hok.1 (by omega);omega
         have hdn:v.ns.drop i=v.ns[i]::v.ns.drop (i+1):=List.drop_eq_getElem_cons hin
         have hnl:=Zh9 (List.getElem_mem hin)
         have hql:=ZfZ v.ns[i]
         refine Zd2 (Yf a3 a4 (keepS e03)) (List.getElem?_eq_getElem hin) rfl (ZhY (by unfold wV at hw;omega) fun h5 e5=>Zul (y:=[58]) (by unfold wV at hw;simp;omega) (Zul (by unfold wV at hw;simp;omega) ⟨e3.trans e5,?_⟩))
         rw [decide_eq_true (p:=v.k=7) (by omega),hdn,show nmB true (v.ns[i]::v.ns.drop (i+1))=ZcS v.ns[i]++[58] from rfl,List.append_assoc]
        ·dsimp only
         rw [decide_eq_false (p:=v.k=7) (by omega)]
         simp [nmB]
      rintro ⟨o2,u⟩ h5 ⟨e5,ho2⟩
      dsimp only at ho2 ⊢
      subst ho2
      have e05:=e1.trans e5
      have hnm:(nmB (decide (v.k=7)) (v.ns.drop i)).length≤1000000000000+4:=by
        have:=Zs5 (decide (v.k=7)) (v.ns.drop i)
        have hd9:nsW (v.ns.drop i)≤nsW v.ns:=by
          have:∀ (n:Nat) (l:List BL),nsW (l.drop n)≤nsW l:=fun n=>by
            induction n with
            | zero=>intro l;exact Nat.le_refl _
            | succ n ih =>
              intro l
              cases l with
              | nil=>simp
              | cons a l=>have:=ih l;simp only [List.drop_succ_cons,nsW];omega
          exact this i v.ns
        unfold wV at hw
        omega
      refine rL (s:=z.2.2.1) (Zi (Z6 c1' e5) rfl) (ZcE (Yf a5 a6 (keepS e05)) (a7.keep (keepS e05) fun j hj=>hj) hd rfl fun zi hzi=>?_)
      refine hsub i k t ns s r hd (S:=S) (Zkz i hok.2 hd) (by omega) hzi (fun j hj=>by have:=hS j hj;have:=e05.szz;omega) fun s' h6 e6 hc6=>?_
      refine Zul (by have:=hc6.1;simp only [List.length_append];omega) (Za ?_)
      rw [ZJ (by omega) (by omega)]
      refine ⟨⟨i+1,q++(Zhl (decide (i=0))++nmB (decide (v.k=7)) (v.ns.drop i)++Xf ⟨k,t,ns,s⟩),_,rfl,by omega,rfl,?_,e5.trans e6,?_⟩,by omega⟩
      ·rw [← List.append_assoc,List.append_assoc o']
       exact hcut.app hsm' (Cut.pre _ hc6)
      ·rw [hq,decide_eq_false (p:=i+1=0) (by omega)]
       simp only [List.append_assoc]
     ·refine Zul (y:=[cl]) (by simp;omega) (hk _ h3 e03 ?_)
      rw [hpq,hq,← List.append_assoc,← List.append_assoc,List.append_assoc ([op]++q)]
      exact hcut.early (by omega) _ _
    ·rw [JL.drop_nil (by omega)] at hq
     have hq':ZX (decide (v.k=7)) true v.ns v.sub=q:=by rw [hq];simp [ZX]
     refine Zul (y:=[cl]) (by simp;omega) (hk _ h3 e03 ?_)
     rw [hpq,hq',← List.append_assoc]
     by_cases hsm:o'.length≤65536
     ·exact hcut.app hsm (Cut.refl _)
     ·have:=hcut.early (by omega) [] [cl]
      simpa using this
  intro m
  induction m with
  | zero =>
    intro h z v S K hm
    exact step (f103:=YJ 0) fun i k t ns s r hd=>by have:=JL.drop_hei i v.sub hd;omega
  | succ m ih =>
    intro h z v S K hm
    exact step (f103:=YJ (m+1)) fun i k t ns s r hd=>fun a b c d e=>ih (v:=⟨k,t,ns,s⟩) (by have:=JL.drop_hei i v.sub hd;show s.hei≤m;omega) a b c d e
theorem Zm2 {z:VT5} {v:JV} {S:Nat→Prop} {K:ByteArray→Int→HP} (hv:XY h S z v) (hS:∀ j,S j→j<sz h) (hw:wV v≤1000000000000) (ht:Zcb h) (hh:9≤sz h)
    (hk:∀ s e h',Ext h h'→(Zb5 v=false→s=ByteArray.mk #[]∧e=6)→(Zb5 v=true→65536<(Xf v).length→s=ByteArray.mk #[]∧e=5)→(Zb5 v=true→(Xf v).length≤65536→s=Ze (Xf v)∧e=0)→K s e h'):Xi z K h:=by
  unfold Xi Zbh
  refine ZaX fun h1 c1 e1 z1=>Za ?_
  have c1':obj h1 h.size=some (.cells (YS z).toArray 33 (0,0)):=c1
  have ld:∀ {x:Zc} {K:Int→ByteArray→Sl→Sl→Prop},Ext h1 x→K z.1 z.2.1 z.2.2.1 z.2.2.2.1→ldI x h.size 0 .u8 fun a=>ldS x h.size (0+1) fun b=>ldL x h.size (0+2) fun c=>ldL x h.size (0+3) fun d=>K a b c d:=fun e hK=>by
    have c:=Z6 c1' e
    exact rI (Zi c rfl) (rS (Zi c rfl) (rL (s:=z.2.2.1) (Zi c rfl) (rL (s:=z.2.2.2.1) (Zi c rfl) hK)))
  have vx:∀ {x:Zc},Ext h x→XY x S z v:=fun e=>hv.ext hS e
  have sx:∀ {x:Zc},Ext h x→∀ j,S j→j<sz x:=fun e j hj=>by have:=hS j hj;have:=e.szz;omega
  refine ld (Ext.refl _) (ZiK (z:=z) (vx e1) (sx e1) (by omega) (ht.ext e1) (by have:=e1.szz;omega) fun h2 e2=>?_)
  have e02:=e1.trans e2
  cases hr:Zb5 v with
  | false=>exact Zm rfl (Za (hk _ _ h2 e02 (fun _=>⟨rfl,rfl⟩) (fun h=>by rw [hr] at h;cases h) (fun h=>by rw [hr] at h;cases h)))
  | true =>
    refine Zn rfl (ld e2 ⟨v.sub.hei+1,Zmb _ (z:=z) (Nat.le_refl _) (Zqf (ZcB.1 hr).1) hw (vx e02) (sx e02) fun s h3 e3 hc=>?_⟩)
    have e03:=e02.trans e3
    have ssz:((Ze s).size:Int)=s.length:=rfl
    refine Zj (fun hb=>Za (hk _ _ h3 e03 (fun h=>by rw [hr] at h;cases h) (fun _ _=>⟨rfl,rfl⟩) fun _ hl=>?_)) fun hb=>Za (hk _ _ h3 e03 (fun h=>by rw [hr] at h;cases h) (fun _ hl=>?_) fun _ hl=>⟨?_,rfl⟩)
    ·have:=hc.2.1 hl;rw [this] at ssz hb;omega
    ·have:=hc.2.2 hl;omega
    ·rw [hc.2.1 hl]
theorem ZmR:∀ (m:Nat) {h:Zc} {z:VT5} {v:JV} {S:Nat→Prop} {most:Nat} {K:Int→HP},v.sub.hei≤m→XY h S z v→(∀ j,S j→j<sz h)→most≤65 →
    (∀ h',Ext h h'→K (dpV most v) h')→YF (m+1) z most K h:=by
  have step:∀ {f105:Zgk} {v:JV},(∀ i k t ns s r,v.sub.drop i = .cons k t ns s r→∀ {h:Zc} {z:VT5} {S:Nat→Prop} {most:Nat} {K:Int→HP},XY h S z ⟨k,t,ns,s⟩→(∀ j,S j→j<sz h)→most≤65→(∀ h',Ext h h'→K (dpV most ⟨k,t,ns,s⟩) h')→f105 z most K h) →
      ∀ {h:Zc} {z:VT5} {S:Nat→Prop} {most:Nat} {K:Int→HP},XY h S z v→(∀ j,S j→j<sz h)→most≤65→(∀ h',Ext h h'→K (dpV most v) h')→X6 f105 z most K h:=by
    intro f105 v hsub h z S most K hv hS hm hk
    unfold X6 Zbe
    refine ZaX fun h1 c1 e1 z1=>Za ?_
    have c1':obj h1 h.size=some (.cells (YS z).toArray 33 (0,0)):=c1
    obtain ⟨a1,a2,a3,a4,cx,a5,a6,a7⟩:=id hv
    have hlx:z.2.2.1.len=v.sub.len:=by have:=a5.len;have:=a7.len;omega
    have hbig:=a5.big
    have hcap:=a5.cap
    refine Zr (fun _ h'=>h'=h1∧(v.k=6∨v.k=7)) ?_ ?_
    case refine_2 =>
      refine rI (Zi c1' rfl) ?_
      rw [a1]
      refine Xp (fun h6=>rI (Zi c1' rfl) ?_) fun h6=>⟨rfl,.inl (by omega)⟩
      rw [a1]
      refine Xp (fun h7=>Za ?_) fun h7=>⟨rfl,.inr (by omega)⟩
      have:=hk h1 e1
      unfold dpV at this
      rw [if_pos ⟨by omega,by omega⟩] at this
      exact this
    rintro ⟨⟩ h2 ⟨rfl,h67⟩
    unfold dpV at hk
    rw [if_neg (by omega)] at hk
    refine Za (Za (Zx (fun p h'=>∃ i d:Nat,p.1=d∧p.2.1=i∧i≤v.sub.len∧Ext h2 h'∧1≤d∧d≤66∧(if 1<most then 1+dpL (most - 1) v.sub else 1)=(if 1<most then max d (1+dpL (most - 1) (v.sub.drop i)) else d)) (fun p _=>(v.sub.len - p.2.1).toNat) ⟨0,1,rfl,rfl,Nat.zero_le _,Ext.refl _,Nat.le_refl _,by omega,?_⟩ ?_))
    ·show _=if 1<most then max 1 (1+dpL (most - 1) v.sub) else 1
     split<;>omega
    rintro ⟨d_,i_,u⟩ h3 ⟨i,d,hd_,hi,hil,e3,hd1,hd2,hq⟩
    dsimp only at hd_ hi ⊢
    subst hd_ hi
    have e03:=e1.trans e3
    have c3:=Z6 c1' e3
    refine rL (s:=z.2.2.1) (Zi c3 rfl) (Zj (fun hlt=>Zj (fun hmo=>?_) fun hmo=>Za ?_) fun hge=>Za ?_)
    ·have hia:i<v.sub.len:=by omega
     obtain ⟨k,t,ns,s,r,hd⟩:=JL.drop_cons hia
     have keepS:∀ {a:Zc},Ext h a→∀ j,S j→j<sz h→obj a j=obj h j:=fun e j hj hl=>ZQ e hl
     refine rL (s:=z.2.2.1) (Zi c3 rfl) (ZcE (Yf a5 a6 (keepS e03)) (a7.keep (keepS e03) fun j hj=>hj) hd rfl fun zi hzi=>?_)
     rw [show (most:Int) - 1=((most - 1:Nat):Int) by omega,ZJ (by omega) (by omega)]
     have hvl:dpV (most - 1) ⟨k,t,ns,s⟩≤66:=by
       have:=ZnR (.cons k t ns s .nil) (most - 1)
       rw [Zgd] at this
       omega
     refine hsub i k t ns s r hd (S:=S) hzi (fun j hj=>by have:=hS j hj;have:=e03.szz;omega) (by omega) fun h5 e5=>Za ?_
     rw [ZJ (n:=((dpV (most - 1) ⟨k,t,ns,s⟩:Nat):Int)+1) (by omega) (by omega),ZJ (n:=(i:Int)+1) (by omega) (by omega)]
     rw [if_pos (by omega),if_pos (by omega),hd,Zgd,← JL.drop_succ i v.sub hd] at hq
     have hvl2:=ZnR v.sub (most - 1)
     refine Zj (fun hgt=>Za (Za ⟨⟨i+1,dpV (most - 1) ⟨k,t,ns,s⟩+1,by omega,rfl,by omega,e3.trans e5,by omega,by omega,?_⟩,by omega⟩)) fun hle=>Za ⟨⟨i+1,d,rfl,rfl,by omega,e3.trans e5,hd1,hd2,?_⟩,by omega⟩
     ·rw [if_pos (by omega),if_pos (by omega)];omega
     ·rw [if_pos (by omega),if_pos (by omega)];omega
    ·rw [if_neg (by omega),if_neg (by omega)] at hq
     have:=hk h3 e03
     rw [if_neg (by omega),hq] at this
     exact this
    ·rw [JL.drop_nil (by omega)] at hq
     have e9:dpL (most - 1) .nil=0:=rfl
     have:=hk h3 e03
     by_cases hmo:1<most
     ·rw [if_pos hmo,if_pos hmo,e9] at hq
      rw [if_pos hmo,hq,show max d (1+0)=d by omega] at this
      exact this
     ·rw [if_neg hmo,if_neg hmo] at hq
      rw [if_neg hmo,hq] at this
      exact this
  intro m
  induction m with
  | zero =>
    intro h z v S most K hm
    exact step (f105:=YF 0) fun i k t ns s r hd=>by have:=JL.drop_hei i v.sub hd;omega
  | succ m ih =>
    intro h z v S most K hm
    exact step (f105:=YF (m+1)) fun i k t ns s r hd=>fun a b c d=>ih (v:=⟨k,t,ns,s⟩) (by have:=JL.drop_hei i v.sub hd;show s.hei≤m;omega) a b c d
theorem Zm3 {z:VT5} {v:JV} {S:Nat→Prop} {K:Int→HP} (hv:XY h S z v) (hS:∀ j,S j→j<sz h) (hk:∀ h',Ext h h'→K (Zg2 v) h'):Xk z K h:=by
  unfold Xk Zbk
  refine ZaX fun h1 c1 e1 z1=>Za ?_
  have c1':obj h1 h.size=some (.cells (YS z).toArray 33 (0,0)):=c1
  have ld:∀ {x:Zc} {K:Int→ByteArray→Sl→Sl→Prop},Ext h1 x→K z.1 z.2.1 z.2.2.1 z.2.2.2.1→ldI x h.size 0 .u8 fun a=>ldS x h.size (0+1) fun b=>ldL x h.size (0+2) fun c=>ldL x h.size (0+3) fun d=>K a b c d:=fun e hK=>by
    have c:=Z6 c1' e
    exact rI (Zi c rfl) (rS (Zi c rfl) (rL (s:=z.2.2.1) (Zi c rfl) (rL (s:=z.2.2.2.1) (Zi c rfl) hK)))
  have vx:∀ {x:Zc},Ext h x→XY x S z v:=fun e=>hv.ext hS e
  have sx:∀ {x:Zc},Ext h x→∀ j,S j→j<sz x:=fun e j hj=>by have:=hS j hj;have:=e.szz;omega
  refine ld (Ext.refl _) (ZgO (z:=z) (vx e1) (sx e1) fun h2 e2=>?_)
  have e02:=e1.trans e2
  have key:=fun h' e=>hk h' e
  rw [ZqY] at key
  refine Zj (fun hg=>Za ?_) fun hg=>?_
  ·have:=key h2 e02
   rw [if_neg (by omega)] at this
   exact this
  ·rw [if_pos (by omega)] at key
   exact ld e2 ⟨v.sub.hei+1,ZmR _ (z:=z) (most:=65) (Nat.le_refl _) (vx e02) (sx e02) (by omega) fun h3 e3=>Za (key h3 (e02.trans e3))⟩
end
end Go.Proofs.YtpjbjdheeemdiaaGreatDoor
namespace Go.Js
open Go
def JL.app:JL→JL→JL
  | .nil,r=>r
  | .cons k t ns s l,r=> .cons k t ns s (l.app r)
theorem JL.app_snoc (v:JV):∀ (l:JL) (r:JL),(l.snoc v).app r=l.app (.cons v.k v.t v.ns v.sub r)
  | .nil,r=>rfl
  | .cons k t ns s l,r=>by show JL.cons k t ns s ((l.snoc v).app r)=_;rw [JL.app_snoc v l r];rfl
theorem JL.app_nil:∀ l:JL,l.app .nil=l
  | .nil=>rfl
  | .cons k t ns s l=>by show JL.cons k t ns s (l.app .nil)=_;rw [JL.app_nil l]
def tmB (n:Int):UInt8:=UInt8.ofNat ((IntKind.wrap .i64 (97+Int.tmod n 26)) % 256).toNat
def ZtC (i:Int):BL:=[109,97,114,107,32,tmB i,tmB (IntKind.wrap .i64 (Int.tdiv i 26)),tmB (IntKind.wrap .i64 (Int.tdiv i 676))]
def ZjG:List BL:=(List.range 9).map fun i=>ZtC ((700+i:Nat):Int)
theorem Znf {α:Type} {L T:List α} {i:Nat} {x:α} (h:L.take i=T.take i) (hi:i<L.length) (hx:T[i]?=some x):(L.set i x).take (i+1)=T.take (i+1):=by
  rw [List.take_add_one,List.take_add_one,hx,List.getElem?_set_self hi,List.take_set_of_le (Nat.le_refl i),h]
end Go.Js
namespace Go.Proofs.YtpjbjdheeemdiaaGreatDoor
open Go Go.Fw Go.Js
def Zjb (h:Zc) (S:Nat→Prop) (y:Sl) (ns:List BL):Prop:=∃ b,y=⟨some ⟨b,0,none⟩,ns.length,ns.length+9⟩∧S b∧obj h b=some (.cells ((ns++ZjG).map sV).toArray 9 (0,0))∧ns.length<4611686018427387904
theorem Zjb.row {h:Zc} {S:Nat→Prop} {y:Sl} {ns:List BL} (hy:Zjb h S y ns):Row h y 1 (ns.map sV)∧inS S y:=by
  obtain ⟨b,rfl,hS,hb,hl⟩:=hy
  refine ⟨⟨by simp,by show ns.length≤ns.length+9;omega,by show ns.length+9<_;omega,.inr ⟨b,0,rfl,Zdm hb fun i v hv=>?_⟩⟩,fun _ b' hb'=>?_⟩
  ·have hi:i<ns.length:=by have:=(List.getElem?_eq_some_iff.1 hv).1;simpa using this
   rw [Nat.zero_add,List.map_append]
   simp only [List.getElem?_toArray]
   rw [List.getElem?_append_left (by simpa using hi)]
   exact hv
  ·have:b=b':=by simpa [Sl.blk] using hb'
   rw [← this];exact hS
theorem Zjb.keep {h h':Zc} {S S':Nat→Prop} {y:Sl} {ns:List BL} (hy:Zjb h S y ns) (he:∀ b,S b→b<sz h→obj h' b=obj h b) (hs:∀ b,S b→S' b):Zjb h' S' y ns:=by
  obtain ⟨b,e,hS,hb,hl⟩:=hy
  exact ⟨b,e,hs b hS,(he b hS (ZbJ hb)).trans hb,hl⟩
def OvL (h:Zc) (S:Nat→Prop):JL→List Value→Prop
  | .nil,vs=>vs=[]
  | .cons k t ns sub rest,vs=>∃ (x y:Sl) (cx vs':List Value),vs=YS ((k:Int),Ze t,x,y,())++vs'∧Zjb h S y ns∧Row h x 4 cx∧inS S x∧OvL h S sub cx∧OvL h S rest vs'
def OvV (h:Zc) (S:Nat→Prop) (z:VT5) (v:JV):Prop :=
  z.1=v.k∧z.2.1=Ze v.t∧Zjb h S z.2.2.2.1 v.ns∧∃ cx,Row h z.2.2.1 4 cx∧inS S z.2.2.1∧OvL h S v.sub cx
theorem OvL.keep {h h':Zc} {S S':Nat→Prop} (he:∀ b,S b→b<sz h→obj h' b=obj h b) (hs:∀ b,S b→S' b):∀ {l:JL} {vs:List Value},OvL h S l vs→OvL h' S' l vs
  | .nil,_,h=>h
  | .cons k t ns sub rest,vs,h=>by
    obtain ⟨x,y,cx,vs',e,a,c,d,f,g⟩:=h
    exact ⟨x,y,cx,vs',e,a.keep he hs,Yf c d he,d.mono hs,OvL.keep he hs f,OvL.keep he hs g⟩
theorem OvL.list {h:Zc} {S:Nat→Prop}:∀ {l:JL} {vs:List Value},OvL h S l vs→ZaP h S l vs
  | .nil,_,h=>h
  | .cons k t ns sub rest,vs,h=>by
    obtain ⟨x,y,cx,vs',e,a,c,d,f,g⟩:=h
    exact ⟨x,y,cx,vs',e,a.row.1,a.row.2,c,d,OvL.list f,OvL.list g⟩
theorem OvV.val {h:Zc} {S:Nat→Prop} {z:VT5} {v:JV} (hv:OvV h S z v):XY h S z v:=by
  obtain ⟨a,b,c,cx,d,e,f⟩:=hv
  exact ⟨a,b,c.row.1,c.row.2,cx,d,e,f.list⟩
theorem OvV.keep {h h':Zc} {S S':Nat→Prop} {z:VT5} {v:JV} (hv:OvV h S z v) (he:∀ b,S b→b<sz h→obj h' b=obj h b) (hs:∀ b,S b→S' b):OvV h' S' z v:=by
  obtain ⟨a,b,c,cx,d,e,f⟩:=hv
  exact ⟨a,b,c.keep he hs,cx,Yf d e he,e.mono hs,f.keep he hs⟩
theorem OvL.snoc {h:Zc} {S:Nat→Prop} {z:VT5} {v:JV} (hv:OvV h S z v):∀ {l:JL} {vs:List Value},OvL h S l vs→OvL h S (l.snoc v) (vs++YS z)
  | .nil,vs,hl=>by
    obtain ⟨a,b,c,cx,d,e,f⟩:=hv
    rw [show vs=[] from hl]
    refine ⟨z.2.2.1,z.2.2.2.1,cx,[],?_,c,d,e,f,rfl⟩
    rw [List.nil_append,List.append_nil,← a,← b]
  | .cons k t ns sub rest,vs,hl=>by
    obtain ⟨x,y,cx,vs',e,a,c,d,f,g⟩:=hl
    exact ⟨x,y,cx,vs'++YS z,by rw [e,List.append_assoc],a,c,d,f,OvL.snoc hv g⟩
theorem OvL.drop {h:Zc} {S:Nat→Prop}:∀ (n:Nat) {l:JL} {vs:List Value},OvL h S l vs→OvL h S (l.drop n) (vs.drop (n*4))
  | 0,l,vs,h=>by simpa [JL.drop] using h
  | n+1,.nil,vs,h=>by rw [show vs=[] from h];simp [JL.drop,OvL]
  | n+1,.cons k t ns s r,vs,h=>by
    obtain ⟨x,y,cx,vs',e,a,c,d,f,g⟩:=h
    have:=OvL.drop n g
    rw [e]
    show OvL _ _ (r.drop n) _
    have e2:(YS ((k:Int),Ze t,x,y,())++vs').drop ((n+1)*4)=vs'.drop (n*4):=by
      rw [List.drop_append,show (YS ((k:Int),Ze t,x,y,())).length=4 from rfl,List.drop_of_length_le (by show 4≤_;omega),List.nil_append]
      congr 1
      omega
    rw [e2];exact this
theorem Zyi {h:Zc} {S:Nat→Prop} {l:JL} {vs:List Value} {x:Sl} (hr:Row h x 4 vs) (hl:OvL h S l vs) {i:Nat} {k:Nat} {t:BL} {ns:List BL} {s r:JL} (hd:l.drop i = .cons k t ns s r) {n:Int} (hn:n=i) {K:Int→ByteArray→Sl→Sl→Prop}
    (hk:∀ z:VT5,OvV h S z ⟨k,t,ns,s⟩→K z.1 z.2.1 z.2.2.1 z.2.2.2.1):Zd6 x.ptr x.len n 4 fun b o=>ldI h b o .u8 fun t1=>ldS h b (o+1) fun t2=>ldL h b (o+2) fun t3=>ldL h b (o+3) fun t4=>K t1 t2 t3 t4:=by
  subst hn
  have hlen:=hl.list.len
  have hxl:=hr.len
  have hi:i<l.len:=by
    have:=JL.drop_len i l
    rw [hd] at this
    simp [JL.len] at this
    omega
  have hL:=OvL.drop i hl
  rw [hd] at hL
  obtain ⟨sx,sy,cx,vs',e,a,c,d,f,g⟩:=hL
  rcases hr.at_ with h0 | ⟨bb,o,hp,hh⟩
  ·omega
  ·rw [hp]
   have get:∀ j v,(YS ((k:Int),Ze t,sx,sy,()))[j]?=some v→h.cell bb (o+i*4+j)=some v:=fun j v hv=>by
     have h1:vs[i*4+j]?=some v:=by
       rw [← List.getElem?_drop,e,List.getElem?_append_left]
       ·exact hv
       ·rcases Nat.lt_or_ge j (YS ((k:Int),Ze t,sx,sy,())).length with h | h
        ·exact h
        ·rw [List.getElem?_eq_none h] at hv;cases hv
     have:=Zim hh h1
     rw [Nat.add_assoc];exact this
   have gc:∀ j v,(YS ((k:Int),Ze t,sx,sy,()))[j]?=some v→Zaq (o+i*4+j) (obj h bb)=some v:=fun j v hv=>by rw [← Xr];exact get j v hv
   refine ZgM (n:=i) rfl (by omega) (rI (gc 0 _ rfl) (rS (gc 1 _ rfl) (rL (s:=sx) (gc 2 _ rfl) (rL (s:=sy) (gc 3 _ rfl) (hk ((k:Int),Ze t,sx,sy,()) ⟨rfl,rfl,a,cx,c,d,f⟩)))))
section
variable {h:Zc}
theorem ZlA {i:Int} {K:ByteArray→HP} (hk:∀ h',Ext h h'→K (Ze (ZtC i)) h'):YW i K h:=by
  unfold YW Zcn
  refine ⟨by decide,by decide,by decide,by decide,by decide,?_⟩
  refine Zs6 [tmB i,tmB (IntKind.wrap .i64 (Int.tdiv i 26)),tmB (IntKind.wrap .i64 (Int.tdiv i 676))] 3 (by rw [w8m,w8m,w8m];rfl) rfl (by decide) fun b h1 hb e1 _=>Zgg hb (Zul (x:=[109,97,114,107,32]) (by simp) (hk h1 e1))
theorem Zy5 {b i:Nat} {L:List Value} {T:TypeId} {v:Value} {K:HP} (hb:obj h b=some (.cells L.toArray T (0,0))) {n m:Nat} (hi:i<n) (hn:n≤L.length) {j:Int} (hj:j=i) (hv:Yd v=true) (hk:∀ h',obj h' b=some (.cells (L.set i v).toArray T (0,0))→Upd (· = b) h h'→sz h'=sz h→K h') :
    Zd6 (some ⟨b,0,none⟩) n j 1 fun b6 o7=>st h b6 o7 v K:=by
  refine ZgM (n:=i) (o:=0) hj hi ?_
  rw [show 0+i*1=i by omega]
  exact Zi1 hb (by omega) hv hk
theorem ZqI {ns:List BL} {l:Sl} (hl:Row h l 1 (ns.map sV)) (hin:inS (fun j=>j<sz h) l) (hn:ns.length≤1000000000000) {K:Sl→HP} (hk:∀ x h',Ext h h'→Zjb h' (fun j=>j=sz h) x ns→K x h'):YY l K h:=by
  unfold YY ZaI
  have hlen:=ZbK hl
  have hs:sz h=h.size:=rfl
  obtain ⟨lp,ll,lc⟩:=l
  obtain rfl:ll=ns.length:=hlen
  dsimp only
  rw [ZJ (by omega) (by omega)]
  have hc:((ns.length:Int)+9).toNat=ns.length+9:=by omega
  refine ⟨by omega,by omega,by omega,by omega,Za ?_⟩
  rw [hc]
  have T:∃ T,T=(ns++ZjG).map sV:=⟨_,rfl⟩
  obtain ⟨T,hT⟩:=T
  have hTl:T.length=ns.length+9:=by rw [hT];simp [ZjG]
  have hz:(X4 [Value.string (ByteArray.mk #[])] (ns.length+9)).length=ns.length+9:=by rw [ZcL];simp
  have e1:Ext h (h.push (.cells (X4 [Value.string (ByteArray.mk #[])] (ns.length+9)).toArray 9)):=Ext.push h _
  refine Zx (fun p h'=>∃ (i:Nat) (L:List Value),p.1=i∧i≤ns.length∧L.length=ns.length+9∧obj h' h.size=some (.cells L.toArray 9 (0,0))∧Ext h h'∧L.take i=T.take i) (fun p _=>ns.length - p.1.toNat)
    ⟨0,_,rfl,Nat.zero_le _,hz,Zfa,e1,rfl⟩ ?_
  rintro ⟨i_,u⟩ h4 ⟨i,L,hi,hil,hLl,hb,e4,htk⟩
  dsimp only at hi ⊢
  subst hi
  refine Zj (fun hlt=>?_) fun hge=>Za ?_
  ·have hia:i<ns.length:=by omega
   have hx:T[i]?=some (sV ns[i]):=by rw [hT,List.map_append,List.getElem?_append_left (by simpa using hia),List.getElem?_map,List.getElem?_eq_getElem hia];rfl
   refine Zd2 (Yf hl hin fun j hj hl2=>ZQ e4 hl2) (List.getElem?_eq_getElem hia) rfl ?_
   refine Zy5 (m:=0) hb (i:=i) (by omega) (by omega) rfl rfl fun h5 c5 u5 z5=>Za ?_
   rw [ZJ (by omega) (by omega)]
   exact ⟨⟨i+1,_,rfl,by omega,by simpa using hLl,c5,e4.updS u5 fun j hj=>by omega,Znf htk (by omega) hx⟩,by omega⟩
  ·have:i=ns.length:=by omega
   subst this
   refine Zx (fun p h'=>∃ (i:Nat) (L:List Value),p.1=i∧ns.length≤i∧i≤ns.length+9∧L.length=ns.length+9∧obj h' h.size=some (.cells L.toArray 9 (0,0))∧Ext h h'∧L.take i=T.take i) (fun p _=>ns.length+9 - p.1.toNat)
     ⟨ns.length,L,rfl,Nat.le_refl _,by omega,hLl,hb,e4,htk⟩ ?_
   rintro ⟨i_,u⟩ h5 ⟨i,L,hi,hni,hil,hLl,hb,e5,htk⟩
   dsimp only at hi ⊢
   subst hi
   refine Zj (fun hlt=>?_) fun hge=>?_
   ·rw [ZJ (n:=(700:Int)+i) (by omega) (by omega),ZJ (by omega) (by omega)]
    refine ZlA fun h6 e6=>?_
    have hia:i<T.length:=by omega
    have hx:T[i]?=some (sV (ZtC (700+(i:Int) - ns.length))):=by
      rw [hT,List.getElem?_map,List.getElem?_append_right hni]
      unfold ZjG
      rw [List.getElem?_map,List.getElem?_range (by omega)]
      show some (sV (ZtC _))=_
      congr 3
      omega
    refine Zy5 (m:=0) (Z6 hb e6) (i:=i) (by omega) (by omega) rfl rfl fun h7 c7 u7 z7=>Za ?_
    rw [ZJ (by omega) (by omega)]
    exact ⟨⟨i+1,_,rfl,by omega,by omega,by simpa using hLl,c7,(e5.trans e6).updS u7 fun j hj=>by omega,Znf htk (by omega) hx⟩,by omega⟩
   ·have:i=ns.length+9:=by omega
    subst this
    rw [List.take_of_length_le (by omega),List.take_of_length_le (by omega)] at htk
    subst htk
    rw [hT] at hb
    refine ⟨by omega,by omega,by show (ns.length:Int)≤((ns.length+9:Nat):Int);omega,by show ((ns.length+9:Nat):Int)≤_;omega,hk _ h5 e5 ⟨h.size,?_,rfl,hb,by omega⟩⟩
    have e9:Zlh (some ⟨h.size,0,none⟩) (0:Int).toNat ((ns.length+9:Nat):Int).toNat 1=some ⟨h.size,0,none⟩:=by
      unfold Zlh;split<;>rfl
    show (⟨Zlh (some ⟨h.size,0,none⟩) (0:Int).toNat ((ns.length+9:Nat):Int).toNat 1,(ns.length:Int).toNat - (0:Int).toNat,((ns.length+9:Nat):Int).toNat - (0:Int).toNat⟩:Sl)=_
    rw [e9]
    simp
    omega
theorem Zi5 {S:Nat→Prop} {ns:List BL} {x l:Sl} (hx:Zjb h S x ns) (hl:Row h l 1 (ns.map sV)) {K:Bool→HP} (hk:∀ h',Ext h h'→K true h'):YX x l K h:=by
  unfold YX ZaH
  have hlen:=ZbK hl
  refine Zfr hx.row.1 hl ?_
  rw [decide_eq_true rfl]
  refine Zn rfl ?_
  obtain ⟨b,rfl,hS,hb,hnl⟩:=hx
  rw [hlen,ZJ (by omega) (by omega)]
  dsimp only
  refine ⟨by omega,by omega,by show (ns.length:Int)+9≤((ns.length+9:Nat):Int);omega,by show ((ns.length+9:Nat):Int)≤_;omega,Za ?_⟩
  have e9:Zlh (some ⟨b,0,none⟩) (0:Int).toNat ((ns.length+9:Nat):Int).toNat 1=some ⟨b,0,none⟩:=by
    unfold Zlh;split<;>rfl
  have e8:((ns.length:Int)+9).toNat - (0:Int).toNat=ns.length+9:=by omega
  rw [e9,e8]
  refine Zx (fun p h'=>∃ i:Nat,p.1=i∧ns.length≤i∧i≤ns.length+9∧Ext h h') (fun p _=>ns.length+9 - p.1.toNat) ⟨ns.length,rfl,Nat.le_refl _,by omega,Ext.refl h⟩ ?_
  rintro ⟨i_,u⟩ h5 ⟨i,hi,hni,hil,e5⟩
  dsimp only at hi ⊢
  subst hi
  refine Zj (fun hlt=>?_) fun hge=>hk h5 e5
  have hx:(ns++ZjG)[i]?=some (ZtC (700+(i:Int) - ns.length)):=by
    rw [List.getElem?_append_right hni]
    unfold ZjG
    rw [List.getElem?_map,List.getElem?_range (by omega)]
    show some (ZtC _)=_
    congr 2
    omega
  have hc:∀ {h':Zc},Ext h h'→Zaq (0+i*1) (obj h' b)=some (sV (ZtC (700+(i:Int) - ns.length))):=fun e=>by
    rw [Z6 hb e,Zf4]
    rw [show 0+i*1=i by omega,List.getElem?_map,hx];rfl
  refine ZgM (n:=i) rfl (by omega) (rS (hc e5) ?_)
  rw [ZJ (n:=(700:Int)+i) (by omega) (by omega),ZJ (n:=(700:Int)+i - ns.length) (by omega) (by omega),ZJ (n:=(i:Int)+1) (by omega) (by omega)]
  refine ZlA fun h6 e6=>⟨?_,?_⟩
  ·exact ⟨by rw [Xr];exact hc (e5.trans e6),trivial⟩
  ·refine Zn (by rw [Xc];simp) (Za ⟨⟨i+1,rfl,by omega,by omega,e5.trans e6⟩,by omega⟩)
theorem ZrV:∀ (m:Nat) {h:Zc} {z:VT5} {v:JV} {S:Nat→Prop} {K:VT5→HP},v.sub.hei≤m→wV v≤1000000000000→XY h S z v→(∀ j,S j→j<sz h) →
    (∀ z' h',Ext h h'→OvV h' (fun j=>sz h≤j∧j<sz h') z' v→K z' h')→Yu (m+1) z K h:=by
  have step:∀ {f101:Zgm} {v:JV},(∀ i k t ns s r,v.sub.drop i = .cons k t ns s r→∀ {h:Zc} {z:VT5} {S:Nat→Prop} {K:VT5→HP},wV ⟨k,t,ns,s⟩≤1000000000000→XY h S z ⟨k,t,ns,s⟩→(∀ j,S j→j<sz h)→(∀ z' h',Ext h h'→OvV h' (fun j=>sz h≤j∧j<sz h') z' ⟨k,t,ns,s⟩→K z' h')→f101 z K h) →
      ∀ {h:Zc} {z:VT5} {S:Nat→Prop} {K:VT5→HP},wV v≤1000000000000→XY h S z v→(∀ j,S j→j<sz h)→(∀ z' h',Ext h h'→OvV h' (fun j=>sz h≤j∧j<sz h') z' v→K z' h')→XX f101 z K h:=by
    intro f101 v hsub h z S K hw hv hS hk
    unfold XX ZaV
    have hs:sz h=h.size:=rfl
    refine ZaX fun h1 c1 e1 z1=>ZaX fun h2 c2 e2 z2=>?_
    have e02:=e1.trans e2
    have hs1:sz h1=h1.size:=rfl
    have hs2:sz h2=h2.size:=rfl
    have c1':obj h2 h.size=some (.cells (YS z).toArray 33 (0,0)):=Z6 c1 e2
    have c2':obj h2 h1.size=some (.cells zV.toArray 33 (0,0)):=c2
    obtain ⟨a1,a2,a3,a4,cx,a5,a6,a7⟩:=id hv
    have hlx:z.2.2.1.len=v.sub.len:=by have:=a5.len;have:=a7.len;omega
    have hbig:=a5.big
    have hcap:=a5.cap
    have hpw:v.sub.len≤pw v.sub:=by
      have:∀ l:JL,l.len≤pw l:=fun l=>by
        induction l with
        | nil=>exact Nat.le_refl _
        | cons k t ns s r _ ih=>simp only [JL.len,pw];omega
      exact this v.sub
    have hpv:=ZtN v
    have keepS:∀ {a:Zc},Ext h a→∀ j,S j→j<sz h→obj a j=obj h j:=fun e j hj hl=>ZQ e hl
    have nsl:v.ns.length≤nsW v.ns:=by
      have:∀ l:List BL,l.length≤nsW l:=fun l=>by
        induction l with
        | nil=>exact Nat.le_refl _
        | cons a l ih=>simp only [List.length_cons,nsW];omega
      exact this v.ns
    refine rL (s:=z.2.2.2.1) (Zi c1' rfl) (ZqI (Yf a3 a4 (keepS e02)) (fun hl b hb=>by have:=hS b (a4 hl b hb);have:=e02.szz;omega) (by unfold wV at hw;omega) fun y h3 e3 hy=>?_)
    have e03:=e02.trans e3
    have hs3:=e3.szz
    have hlt23:sz h2<sz h3:=by
      obtain ⟨b,_,hb1,hb,_⟩:=hy
      rw [← hb1];exact ZbJ hb
    refine Zi1 (Z6 c1' e3) (by simp [YS]) rfl fun h4 c4 u4 z4=>Za ?_
    have c4':obj h4 h.size=some (.cells (YS (z.1,z.2.1,z.2.2.1,y,())).toArray 33 (0,0)):=c4
    have e04:Ext h h4:=e03.updS u4 fun j hj=>by omega
    have c24:obj h4 h1.size=some (.cells zV.toArray 33 (0,0)):=YH (Z6 c2' e3) u4 (show ¬ h1.size=h.size by omega)
    have hy4:Zjb h4 (fun j=>j=sz h2) y v.ns:=hy.keep (fun b hb hl=>ZV u4 hl (show ¬ b=h.size by omega)) fun b hb=>hb
    have hs4:sz h4=sz h3:=z4
    refine Zx (fun p h'=>∃ (i:Nat) (dn:JL) (vs:List Value),p.2.1=i∧dn.len=i∧dn.app (v.sub.drop i)=v.sub∧Own h' (sz h4) p.1 4 vs∧OvL h' (fun j=>sz h≤j∧j<sz h'∧p.1.blk≠some j∧j≠h.size∧j≠h1.size) dn vs∧Ext h4 h') (fun p _=>(v.sub.len - p.2.1).toNat)
      ⟨0,.nil,[],rfl,rfl,rfl,Own.nil _ _ _,rfl,Ext.refl _⟩ ?_
    rintro ⟨l,i_,u⟩ h5 ⟨i,dn,vs,hi,hdn,happ,ho,hov,e5⟩
    dsimp only at hi ho hov ⊢
    subst hi
    have e05:=e04.trans e5
    have hs5:=e5.szz
    have c15:=Z6 c4' e5
    have c25:=Z6 c24 e5
    have hlv:l.len=dn.len:=by have:=ho.len;have:=hov.list.len;omega
    refine rL (s:=z.2.2.1) (Zi c15 rfl) (Zj (fun hlt=>?_) fun hge=>?_)
    ·have hia:i<v.sub.len:=by omega
     obtain ⟨k,t,ns,s,r,hd⟩:=JL.drop_cons hia
     refine rL (s:=z.2.2.1) (Zi c15 rfl) (ZcE (Yf a5 a6 (keepS e05)) (a7.keep (keepS e05) fun j hj=>hj) hd rfl fun zi hzi=>?_)
     refine hsub i k t ns s r hd (S:=S) (by have:=Zj8 i hd;omega) hzi (fun j hj=>by have:=hS j hj;have:=e05.szz;omega) fun z6 h6 e6 hz6=>?_
     have hs6:=e6.szz
     refine ZaX fun h7 c7 e7 z7=>?_
     have c7':obj h7 h6.size=some (.cells (YS z6).toArray 33 (0,0)):=c7
     have hs7:sz h6=h6.size:=rfl
     have hs8:sz h7=h7.size:=rfl
     have o7:Own h7 (sz h4) l 4 vs:=ho.congr fun b hb hl _=>ZQ (e6.trans e7) hl
     have r7:Row h7 ⟨some ⟨h6.size,0,none⟩,1,1⟩ 4 (YS z6):=⟨rfl,Nat.le_refl _,by show (1:Nat)<_;decide,.inr ⟨h6.size,0,rfl,Zdm c7' fun i v hv=>by simpa using hv⟩⟩
     refine r7.rd ?_
     refine o7.app (n:=1) (by simp [YS]) (Zbu z6) rfl (by omega) (by omega) (by omega) fun l8 h8 o8 l8l u8 b8=>Za ?_
     rw [ZJ (by omega) (by omega)]
     have hs9:sz h7≤sz h8:=u8.size
     have lblk:∀ j,l.blk=some j→sz h4≤j∧j<sz h5:=fun j hj=>ho.lt hj
     have e57:Ext h5 h7:=e6.trans e7
     have e48:Ext h4 h8:=(e5.trans e57).updS u8 fun j hj=>(lblk j hj).1
     have l8b:∀ j,l8.blk=some j→l.blk=some j∨j=h7.size:=fun j hj=>by
       rcases b8 with h9 | h9
       ·left;rw [← h9];exact hj
       ·right;rw [h9] at hj;exact (Option.some.inj hj).symm
     refine ⟨⟨i+1,dn.snoc ⟨k,t,ns,s⟩,vs++YS z6,rfl,by rw [JL.len_snoc,hdn],?_,o8,?_,e48⟩,by omega⟩
     ·rw [JL.app_snoc,JL.drop_succ i v.sub hd,← hd]
      exact happ
     ·refine OvL.snoc (hz6.keep (S':=fun j=>sz h≤j∧j<sz h8∧l8.blk≠some j∧j≠h.size∧j≠h1.size) (fun b hb hl=>?_) fun b hb=>?_) (hov.keep (fun b hb hl=>?_) fun b hb=>?_)
      ·rw [ZV u8 (by omega) fun h9=>by have:=(lblk b h9).2;omega]
       exact ZQ e7 hl
      ·refine ⟨by omega,by omega,fun h9=>?_,by omega,by omega⟩
       rcases l8b b h9 with h8' | h8'
       ·have:=(lblk b h8').2;omega
       ·omega
      ·rw [ZV u8 (by omega) fun h9=>hb.2.2.1 h9]
       exact ZQ e57 hl
      ·refine ⟨hb.1,by omega,fun h9=>?_,hb.2.2.2⟩
       rcases l8b b h9 with h8' | h8'
       ·exact hb.2.2.1 h8'
       ·omega
    ·rw [JL.drop_nil (by omega),JL.app_nil] at happ
     subst happ
     have lblk:∀ j,l.blk=some j→sz h4≤j∧j<sz h5:=fun j hj=>ho.lt hj
     refine Zi1 c15 (by simp [YS]) rfl fun h6 c6 u6 z6=>?_
     have c6':obj h6 h.size=some (.cells (YS (z.1,z.2.1,l,y,())).toArray 33 (0,0)):=c6
     have c26:obj h6 h1.size=some (.cells zV.toArray 33 (0,0)):=YH c25 u6 (show ¬ h1.size=h.size by omega)
     refine rI (Zi c6' rfl) (rS (Zi c6' rfl) (rL (s:=l) (Zi c6' rfl) (rL (s:=y) (Zi c6' rfl) ?_)))
     refine Zex (x:=l) (y:=y) c26 rfl fun h7 u7 z7=>hk (z.1,z.2.1,l,y,()) h7 ((e05.updS u6 fun j hj=>by omega).updS u7 fun j hj=>by omega) ?_
     have same:∀ b,b<sz h5→b≠h.size→b≠h1.size→obj h7 b=obj h5 b:=fun b hb n1 n2=>(ZV u7 (by omega) n2).trans (ZV u6 hb n1)
     refine ⟨a1,a2,hy4.keep (fun b hb hl=>(same b (by omega) (by omega) (by omega)).trans (ZQ e5 hl)) fun b hb=>⟨by omega,by omega⟩,vs,?_,fun _ b hb=>?_,hov.keep (fun b hb hl=>same b hl hb.2.2.2.1 hb.2.2.2.2) fun b hb=>⟨hb.1,by omega⟩⟩
     ·exact (ho.congr fun b hb hl hge=>same b hl (by omega) (by omega)).row
     ·have:=lblk b hb
      exact ⟨by omega,by omega⟩
  intro m
  induction m with
  | zero =>
    intro h z v S K hm
    exact step (f101:=Yu 0) fun i k t ns s r hd=>by have:=JL.drop_hei i v.sub hd;omega
  | succ m ih =>
    intro h z v S K hm
    exact step (f101:=Yu (m+1)) fun i k t ns s r hd=>fun a b c d=>ih (v:=⟨k,t,ns,s⟩) (by have:=JL.drop_hei i v.sub hd;show s.hei≤m;omega) a b c d
theorem Zqz:∀ (m:Nat) {h:Zc} {a z:VT5} {v:JV} {S S':Nat→Prop} {K:Bool→HP},v.sub.hei≤m→OvV h S' a v→XY h S z v→(∀ j,S j→j<sz h)→(∀ j,S' j→j<sz h)→(∀ h',Ext h h'→K true h')→Yn (m+1) a z K h:=by
  have step:∀ {f108:Zgj} {v:JV},(∀ i k t ns s r,v.sub.drop i = .cons k t ns s r→∀ {h:Zc} {a z:VT5} {S S':Nat→Prop} {K:Bool→HP},OvV h S' a ⟨k,t,ns,s⟩→XY h S z ⟨k,t,ns,s⟩→(∀ j,S j→j<sz h)→(∀ j,S' j→j<sz h)→(∀ h',Ext h h'→K true h')→f108 a z K h) →
      ∀ {h:Zc} {a z:VT5} {S S':Nat→Prop} {K:Bool→HP},OvV h S' a v→XY h S z v→(∀ j,S j→j<sz h)→(∀ j,S' j→j<sz h)→(∀ h',Ext h h'→K true h')→XF f108 a z K h:=by
    intro f108 v hsub h a z S S' K ha hv hS hS' hk
    unfold XF ZaG
    refine ZaX fun h1 c1 e1 z1=>ZaX fun h2 c2 e2 z2=>?_
    have e02:=e1.trans e2
    have c1':obj h2 h.size=some (.cells (YS a).toArray 33 (0,0)):=Z6 c1 e2
    have c2':obj h2 h1.size=some (.cells (YS z).toArray 33 (0,0)):=c2
    have keepS:∀ {x:Zc},Ext h x→∀ j,S j→j<sz h→obj x j=obj h j:=fun e j hj hl=>ZQ e hl
    have keepS':∀ {x:Zc},Ext h x→∀ j,S' j→j<sz h→obj x j=obj h j:=fun e j hj hl=>ZQ e hl
    obtain ⟨a1,a2,a3,a4,cx,a5,a6,a7⟩:=id hv
    obtain ⟨b1,b2,b3,dx,b5,b6,b7⟩:=id ha
    have hlx:z.2.2.1.len=v.sub.len:=by have:=a5.len;have:=a7.len;omega
    have hly:a.2.2.1.len=v.sub.len:=by have:=b5.len;have:=b7.list.len;omega
    have hbig:=a5.big
    have hcap:=a5.cap
    have lda:∀ {x:Zc} {K:Int→ByteArray→Sl→Sl→Prop},Ext h2 x→K a.1 a.2.1 a.2.2.1 a.2.2.2.1→ldI x h.size 0 .u8 fun p=>ldS x h.size (0+1) fun b=>ldL x h.size (0+2) fun c=>ldL x h.size (0+3) fun d=>K p b c d:=fun e hK=>by
      have c:=Z6 c1' e
      exact rI (Zi c rfl) (rS (Zi c rfl) (rL (s:=a.2.2.1) (Zi c rfl) (rL (s:=a.2.2.2.1) (Zi c rfl) hK)))
    have ldz:∀ {x:Zc} {K:Int→ByteArray→Sl→Sl→Prop},Ext h2 x→K z.1 z.2.1 z.2.2.1 z.2.2.2.1→ldI x h1.size 0 .u8 fun p=>ldS x h1.size (0+1) fun b=>ldL x h1.size (0+2) fun c=>ldL x h1.size (0+3) fun d=>K p b c d:=fun e hK=>by
      have c:=Z6 c2' e
      exact rI (Zi c rfl) (rS (Zi c rfl) (rL (s:=z.2.2.1) (Zi c rfl) (rL (s:=z.2.2.2.1) (Zi c rfl) hK)))
    refine lda (Ext.refl _) (ldz (Ext.refl _) (ZiT (a:=a) (b:=z) (v:=v) (w:=v) (ha.val.ext hS' e02) (hv.ext hS e02) (fun j hj=>by have:=hS' j hj;have:=e02.szz;omega) (fun j hj=>by have:=hS j hj;have:=e02.szz;omega) fun h3 e3=>?_))
    rw [decide_eq_true rfl]
    have e03:=e02.trans e3
    refine Zn rfl (rL (s:=a.2.2.2.1) (Zi (Z6 c1' e3) rfl) (rL (s:=z.2.2.2.1) (Zi (Z6 c2' e3) rfl) ?_))
    refine Zi5 (b3.keep (keepS' e03) fun b hb=>hb) (Yf a3 a4 (keepS e03)) fun h4 e4=>Zn rfl (Za ?_)
    have e04:=e03.trans e4
    have e24:=e3.trans e4
    refine Zx (fun p h'=>∃ i:Nat,p.1=i∧i≤v.sub.len∧Ext h4 h') (fun p _=>v.sub.len - p.1.toNat) ⟨0,rfl,Nat.zero_le _,Ext.refl _⟩ ?_
    rintro ⟨i_,u⟩ h5 ⟨i,hi,hil,e5⟩
    dsimp only at hi ⊢
    subst hi
    have e05:=e04.trans e5
    have e25:=e24.trans e5
    refine rL (s:=z.2.2.1) (Zi (Z6 c2' e25) rfl) (Zj (fun hlt=>?_) fun hge=>hk h5 e05)
    have hia:i<v.sub.len:=by omega
    obtain ⟨k,t,ns,s,r,hd⟩:=JL.drop_cons hia
    refine rL (s:=a.2.2.1) (Zi (Z6 c1' e25) rfl) (Zyi (Yf b5 b6 (keepS' e05)) (b7.keep (keepS' e05) fun b hb=>hb) hd rfl fun ai hai=>?_)
    refine rL (s:=z.2.2.1) (Zi (Z6 c2' e25) rfl) (ZcE (Yf a5 a6 (keepS e05)) (a7.keep (keepS e05) fun j hj=>hj) hd rfl fun zi hzi=>?_)
    refine hsub i k t ns s r hd (S:=S) (S':=S') hai hzi (fun j hj=>by have:=hS j hj;have:=e05.szz;omega) (fun j hj=>by have:=hS' j hj;have:=e05.szz;omega) fun h6 e6=>?_
    have e26:=e25.trans e6
    refine ⟨⟨by rw [Xr];exact Zi (Z6 c2' e26) rfl,trivial⟩,⟨by rw [Xr];exact Zi (Z6 c1' e26) rfl,trivial⟩,Zn rfl (Za ?_)⟩
    rw [ZJ (by omega) (by omega)]
    exact ⟨⟨i+1,rfl,by omega,e5.trans e6⟩,by omega⟩
  intro m
  induction m with
  | zero =>
    intro h a z v S S' K hm
    exact step (f108:=Yn 0) fun i k t ns s r hd=>by have:=JL.drop_hei i v.sub hd;omega
  | succ m ih =>
    intro h a z v S S' K hm
    exact step (f108:=Yn (m+1)) fun i k t ns s r hd=>fun a b c d e=>ih (v:=⟨k,t,ns,s⟩) (by have:=JL.drop_hei i v.sub hd;show s.hei≤m;omega) a b c d e
theorem ZiM {z:VT5} {v:JV} {K:Bool→HP} (hv0:XY h (fun b=>b<sz h) z v∧wV v≤16777216) (ht:Zcb h) (hh:9≤sz h) (hk:∀ h',Ext h h'→K true h'):XZ z K h:=by
  unfold XZ X2
  obtain ⟨hv,hw⟩:=hv0
  have hS:∀ j,(fun b=>b<sz h) j→j<sz h:=fun j hj=>hj
  have hpl:=ZgD v
  have hfit:ZoM v:=Zua (by omega)
  refine ZaX fun h1 c1 e1 z1=>?_
  have c1':obj h1 h.size=some (.cells (YS z).toArray 33 (0,0)):=c1
  have ld:∀ {x:Zc} {K:Int→ByteArray→Sl→Sl→Prop},Ext h1 x→K z.1 z.2.1 z.2.2.1 z.2.2.2.1→ldI x h.size 0 .u8 fun a=>ldS x h.size (0+1) fun b=>ldL x h.size (0+2) fun c=>ldL x h.size (0+3) fun d=>K a b c d:=fun e hK=>by
    have c:=Z6 c1' e
    exact rI (Zi c rfl) (rS (Zi c rfl) (rL (s:=z.2.2.1) (Zi c rfl) (rL (s:=z.2.2.2.1) (Zi c rfl) hK)))
  have held:∀ {x:Zc},Ext h1 x→Za1 x [(h.size,0,.int .u8 z.1),(h.size,0+1,.string z.2.1),(h.size,0+2,.slice z.2.2.1.ptr z.2.2.1.len z.2.2.1.cap),(h.size,0+3,.slice z.2.2.2.1.ptr z.2.2.2.1.len z.2.2.2.1.cap)]:=fun e=>by
    have c:=Z6 c1' e
    exact ⟨by rw [Xr];exact Zi c rfl,by rw [Xr];exact Zi c rfl,by rw [Xr];exact Zi c rfl,by rw [Xr];exact Zi c rfl,trivial⟩
  have vx:∀ {x:Zc},Ext h x→XY x (fun b=>b<sz h) z v:=fun e=>hv.ext hS e
  have sx:∀ {x:Zc},Ext h x→∀ j,j<sz h→j<sz x:=fun e j hj=>by have:=e.szz;omega
  have hx:∀ {x:Zc},Ext h x→9≤sz x:=fun e=>by have:=e.szz;omega
  refine ld (Ext.refl _) (ZgO (z:=z) (vx e1) (sx e1) fun h2 e2=>?_)
  have e02:=e1.trans e2
  refine Zj (fun hg=>ld e2 (Zln (z:=z) (vx e02) (sx e02) hfit (by omega) hg (ht.ext e02) (hx e02) fun h3 e3=>Zd (hk h3 (e02.trans e3)))) fun hg=>?_
  refine ld e2 ⟨v.sub.hei+1,ZrV _ (z:=z) (Nat.le_refl _) (by omega) (vx e02) (sx e02) fun y h3 e3 hy=>?_⟩
  have e03:=e02.trans e3
  refine ZaX fun h4 c4 e4 z4=>?_
  have c4':obj h4 h3.size=some (.cells zV.toArray 33 (0,0)):=c4
  refine Zle c4' (by simp) (Zbu y) fun h5 c5 u5 z5=>?_
  have c5':obj h5 h3.size=some (.cells (YS y).toArray 33 (0,0)):=c5
  have hs3:sz h3=h3.size:=rfl
  have e35:Ext h3 h5:=e4.updS u5 fun j hj=>by omega
  have e05:=e03.trans e35
  have e15:Ext h1 h5:=(e2.trans e3).trans e35
  have ldy:∀ {x:Zc} {K:Int→ByteArray→Sl→Sl→Prop},Ext h5 x→K y.1 y.2.1 y.2.2.1 y.2.2.2.1→ldI x h3.size 0 .u8 fun a=>ldS x h3.size (0+1) fun b=>ldL x h3.size (0+2) fun c=>ldL x h3.size (0+3) fun d=>K a b c d:=fun e hK=>by
    have c:=Z6 c5' e
    exact rI (Zi c rfl) (rS (Zi c rfl) (rL (s:=y.2.2.1) (Zi c rfl) (rL (s:=y.2.2.2.1) (Zi c rfl) hK)))
  have sy:∀ {x:Zc},Ext h3 x→∀ j,(sz h2≤j∧j<sz h3)→j<sz x:=fun e j hj=>by have:=e.szz;omega
  have vy:∀ {x:Zc},Ext h3 x→XY x (fun j=>sz h2≤j∧j<sz h3) y v:=fun e=>hy.val.ext (fun j hj=>hj.2) e
  refine ldy (Ext.refl _) (ZgB (z:=y) (vy e35) (sy e35) hfit (by omega) (ht.ext e05) (hx e05) fun s e h6 e6 p1 p2 p3=>Za ?_)
  have e06:=e05.trans e6
  have e36:=e35.trans e6
  refine ld (e15.trans e6) (Zm2 (z:=z) (vx e06) (sx e06) (by omega) (ht.ext e06) (hx e06) fun s' e' h7 e7 q1 q2 q3=>Za ?_)
  have e07:=e06.trans e7
  have e57:=e6.trans e7
  have same:s=s'∧e=e':=by
    cases hr:Zb5 v with
    | false=>obtain ⟨rfl,rfl⟩:=p1 hr;obtain ⟨rfl,rfl⟩:=q1 hr;exact ⟨rfl,rfl⟩
    | true =>
      by_cases hl:(Xf v).length≤65536
      ·obtain ⟨rfl,rfl⟩:=p3 hr hl;obtain ⟨rfl,rfl⟩:=q3 hr hl;exact ⟨rfl,rfl⟩
      ·obtain ⟨rfl,rfl⟩:=p2 hr (by omega);obtain ⟨rfl,rfl⟩:=q2 hr (by omega);exact ⟨rfl,rfl⟩
  obtain ⟨rfl,rfl⟩:=same
  refine ZlE (ht.ext e07) (hx e07) fun h8 e8=>Zm rfl ?_
  have e08:=e07.trans e8
  have e58:=e57.trans e8
  refine ldy e58 (ld (e15.trans e58) (Ze7 (z:=y) (vy (e35.trans e58)) (sy (e35.trans e58)) hfit (ht.ext e08) (hx e08) fun h9 e9=>?_))
  have e09:=e08.trans e9
  have e59:=e58.trans e9
  refine ⟨held (e15.trans e59),ZiK (z:=z) (vx e09) (sx e09) (by omega) (ht.ext e09) (hx e09) fun h10 e10=>?_⟩
  have e010:=e09.trans e10
  have e510:=e59.trans e10
  have sq:Za0 s s=true:=Zog s
  refine Zm (by simp) (Zm sq (Zm (by simp) (ldy e510 (ld (e15.trans e510) (ZgQ (z:=y) (vy (e35.trans e510)) (sy (e35.trans e510)) hfit (ht.ext e010) (hx e010) fun h11 e11=>?_)))))
  have e011:=e010.trans e11
  have e511:=e510.trans e11
  refine ⟨held (e15.trans e511),Zm3 (z:=z) (vx e011) (sx e011) fun h12 e12=>Zm (by simp) ?_⟩
  have e012:=e011.trans e12
  have e512:=e511.trans e12
  have e312:=e35.trans e512
  refine ldy e512 (ld (e15.trans e512) ⟨v.sub.hei+1,Zqz _ (a:=y) (z:=z) (Nat.le_refl _) (hy.keep (fun b hb hl=>ZQ e312 hl) fun b hb=>hb) (vx e012) (sx e012) (sy e312) fun h13 e13=>Zd (hk h13 (e012.trans e13))⟩)
end
end Go.Proofs.YtpjbjdheeemdiaaGreatDoor
