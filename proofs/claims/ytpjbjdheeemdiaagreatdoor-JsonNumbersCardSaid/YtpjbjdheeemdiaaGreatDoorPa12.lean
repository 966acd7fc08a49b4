/- The reference's reader in memory: its steps. -/
import Derived.Test.YtpjbjdheeemdiaaGreatDoorPa11
set_option linter.unusedVariables false
set_option linter.unusedSimpArgs false
namespace Go.Proofs.YtpjbjdheeemdiaaGreatDoor
open Go Go.Fw Go.Js
def Rf (h:Ze) (R:Nat) (s:ByteArray) (e:Nat) (l:BL):Prop:=s.size≤65536∧∃ n:Nat,obj h R=some (.cells [.string s,.int .i64 n,.int .i64 e].toArray 167 (0,0))∧Zcb s n l
theorem Rf.congr {h h':Ze} {R e:Nat} {s:ByteArray} {l:BL} (hr:Rf h R s e l) (he:obj h' R=obj h R):Rf h' R s e l:=by
  obtain ⟨a,n,b,c⟩:=hr
  exact ⟨a,n,he.trans b,c⟩
theorem Rf.lt {h:Ze} {R e:Nat} {s:ByteArray} {l:BL} (hr:Rf h R s e l):R<sz h:=by
  obtain ⟨_,n,b,_⟩:=hr
  exact ZbI b
theorem Rf.upd {S:Nat→Prop} {h h':Ze} {R e:Nat} {s:ByteArray} {l:BL} (hr:Rf h R s e l) (u:Upd S h h') (hs:¬ S R):Rf h' R s e l:=hr.congr (ZY u hr.lt hs)
theorem Rf.ext {h h':Ze} {R e:Nat} {s:ByteArray} {l:BL} (hr:Rf h R s e l) (u:Ext h h'):Rf h' R s e l:=hr.congr (YB u hr.lt)
theorem Rf.len {h:Ze} {R e:Nat} {s:ByteArray} {l:BL} (hr:Rf h R s e l):l.length≤s.size∧s.size≤65536:=by
  obtain ⟨a,n,b,c⟩:=hr
  have:=c.len
  omega
section
variable {h:Ze} {R e:Nat} {s:ByteArray} {l:BL}
theorem Zf4 (hr:Rf h R s e l) {K:Int→Prop} (hk:∀ n:Nat,Zcb s n l→K n):Zb (At R) fun b o=>ldI h b (o+1) .i64 K:=by
  obtain ⟨_,n,hb,hn⟩:=hr
  exact ZX (rI (Zr hb rfl) (hk n hn))
theorem ZqJ (hr:Rf h R s e l) {K:ByteArray→Prop} (hk:K s):Zb (At R) fun b o=>ldS h b o K:=by
  obtain ⟨_,n,hb,hn⟩:=hr
  exact ZX (rS (Zr hb rfl) hk)
theorem Zih (hr:Rf h R s e l) {K:Int→Prop} (hk:K e):Zb (At R) fun b o=>ldI h b (o+2) .i64 K:=by
  obtain ⟨_,n,hb,hn⟩:=hr
  exact ZX (rI (Zr hb rfl) hk)
theorem Zpe (hr:Rf h R s e l) {l':BL} {m:Int} {n:Nat} (hm:m=n) (hn:Zcb s n l') {K:HP} (hk:∀ h',Rf h' R s e l'→Upd (· = R) h h'→sz h'=sz h→K h'):Zb (At R) fun b o=>st h b (o+1) (.int .i64 m) K:=by
  obtain ⟨hs,n0,hb,hn0⟩:=hr
  refine ZX (Zkm hb (by simp) Zcp fun h' c u z=>hk h' ⟨hs,n,?_,hn⟩ u z)
  rw [c,hm];rfl
theorem ZlJ (hr:Rf h R s e l) {m:Int} {e':Nat} (hm:m=e') {K:HP} (hk:∀ h',Rf h' R s e' l→Upd (· = R) h h'→sz h'=sz h→K h'):Zb (At R) fun b o=>st h b (o+2) (.int .i64 m) K:=by
  obtain ⟨hs,n0,hb,hn0⟩:=hr
  refine ZX (Zkm hb (by simp) Zcp fun h' c u z=>hk h' ⟨hs,n0,?_,hn0⟩ u z)
  rw [c,hm];rfl
theorem Zbv {c:UInt8} (hr:Rf h R s e (c::l)) {K:HP} (hk:∀ h',Rf h' R s e l→Upd (· = R) h h'→sz h'=sz h→K h') :
    Zb (At R) fun b o=>ldI h b (o+1) .i64 fun t=>Zb (At R) fun b o=>st h b (o+1) (.int .i64 (IntKind.wrap .i64 (t+1))) K:=by
  refine Zf4 hr fun n hn=>?_
  have:=hn.len
  have:=hr.len
  refine Zpe hr (n:=n+1) ?_ hn.tail hk
  rw [ZG (by omega) (by omega)];rfl
theorem Zs0 (hr:Rf h R s e l) {k:Int} {m:Nat} (hk:k=m) (hm:m≤l.length) {K:HP} (hK:∀ h',Rf h' R s e (l.drop m)→Upd (· = R) h h'→sz h'=sz h→K h') :
    Zb (At R) fun b o=>ldI h b (o+1) .i64 fun t=>Zb (At R) fun b o=>st h b (o+1) (.int .i64 (IntKind.wrap .i64 (t+k))) K:=by
  refine Zf4 hr fun n hn=>?_
  have:=hn.len
  have:=hr.len
  refine Zpe hr (n:=n+m) ?_ (hn.dropK hm) hK
  rw [ZG (by omega) (by omega),hk];rfl
theorem ZaS (hr:Rf h R s e l) {A B:Prop} (ha:l≠[]→A) (hb:l=[]→B) :
    Zb (At R) fun b o=>ldI h b (o+1) .i64 fun t=>Zb (At R) fun b o=>ldS h b o fun t5=>Zp (decide (t<(t5.size:Int))) A B:=by
  refine Zf4 hr fun n hn=>ZqJ hr (Zi (fun e=>ha ?_) fun e=>hb ?_)
  ·have:=hn.len
   intro e;subst e;simp at this;omega
  ·have:=hn.len
   exact List.eq_nil_of_length_eq_zero (by omega)
theorem Ze4 (hr:Rf h R s e l) {A B:Prop} (ha:l=[]→A) (hb:l≠[]→B) :
    Zb (At R) fun b o=>ldI h b (o+1) .i64 fun t=>Zb (At R) fun b o=>ldS h b o fun t5=>Zp (decide (t≥(t5.size:Int))) A B:=by
  refine Zf4 hr fun n hn=>ZqJ hr (Zi (fun e=>ha ?_) fun e=>hb ?_)
  ·have:=hn.len
   exact List.eq_nil_of_length_eq_zero (by omega)
  ·have:=hn.len
   intro e;subst e;simp at this;omega
theorem ZcY (hr:Rf h R s e l) {K:Int→HP} (hk:K (Xp l) h):Zg (At R) K h:=by
  unfold Zg XF
  refine Za (Ze4 hr (fun he=>Za ?_) fun hne=>?_)
  ·subst he;exact hk
  ·obtain ⟨c,l',rfl⟩:=List.exists_cons_of_ne_nil hne
   exact ZqJ hr (Zf4 hr fun n hn=>⟨c,by omega,by rw [Int.toNat_natCast];exact hn.head,Za hk⟩)
theorem ZjR (hr:Rf h R s e l) {K:Int × Unit→Prop} (hk:K (Xp l,())):Zbe (ρ:=Int × Unit) (fun K h=>Zg (At R) (fun q h=>K (q,()) h) h) h K :=
  ⟨(Xp l,()),ZcY hr ⟨rfl,rfl⟩,hk⟩
theorem Zou {A B:Prop} (ha:A):Zp (((0:Nat):Int) ==0) A B:=Zn rfl ha
theorem ZtO {e:Nat} (he:e≠0) {A B:Prop} (hb:B):Zp ((e:Int) ==0) A B:=Zl (beq_eq_false_iff_ne.2 (by omega)) hb
theorem Zqb {A B:Prop} (hb:B):Zp (((0:Nat):Int) !=0) A B:=Zl rfl hb
theorem ZrQ {e:Nat} (he:e≠0) {A B:Prop} (ha:A):Zp ((e:Int) !=0) A B:=Zn (bne_iff_ne.2 (by omega)) ha
def Zcc {α:Type} (h:Ze) (R:Nat) (s:ByteArray):Out α→Prop
  | .ok _ r=>Rf h R s 0 r
  | .err e r=>e≠0∧Rf h R s e r
theorem Y4 {α:Type} (hr:Rf h R s 0 l) {e:Nat} (he:e≠0) {e0:Int} (h0:e0=e) {K:HP} (hk:∀ h',Zcc h' R s (XC e l:Out α)→Upd (· = R) h h'→sz h'=sz h→K h'):Zh (At R) e0 K h:=by
  unfold Zh XA
  refine Zih hr (Zou (ZlJ hr h0 fun h1 r1 u1 z1=>Ze4 r1 (fun hl=>?_) fun hl=>?_))
  ·subst hl
   have hrest:Zcb s s.size []:=⟨by simp,by simp⟩
   refine ZqJ r1 (Zpe r1 rfl hrest fun h2 r2 u2 z2=>ZlJ r2 (e':=24) rfl fun h3 r3 u3 z3=>hk h3 ⟨by decide,r3⟩ ((u1.trans u2).trans u3) (z3.trans (z2.trans z1)))
  ·obtain ⟨c,l',rfl⟩:=List.exists_cons_of_ne_nil hl
   exact hk h1 ⟨he,r1⟩ u1 z1
theorem Zc4 (hr:Rf h R s 0 l) {K:HP} (hk:∀ h',Rf h' R s 0 (ZI l)→Upd (· = R) h h'→sz h'=sz h→K h'):Zq (At R) K h:=by
  unfold Zq YA
  refine ZB (fun _ h'=>∃ l',Rf h' R s 0 l'∧ZI l'=ZI l∧Upd (· = R) h h'∧sz h'=sz h) (fun _ h'=>match obj h' R with
    | some (.cells c _ _)=>(match c.toList with
      | [.string s,.int _ n,_]=>s.size - n.toNat
      | _=>0)
    | _=>0) ⟨l,hr,rfl,Upd.refl _ _,rfl⟩ ?_
  rintro ⟨⟩ h1 ⟨l1,r1,e1,u1,z1⟩
  refine Zm (fun _ h'=>h'=h1∧∃ c l2,l1=c::l2∧Yf c=true) ?_ ?_
  ·rintro ⟨⟩ h2 ⟨rfl,c,l2,rfl,hc⟩
   refine Zbv r1 fun h3 r3 u3 z3=>⟨⟨l2,r3,?_,u1.trans u3,z3.trans z1⟩,?_⟩
   ·rw [← e1]
    unfold ZI
    rw [List.dropWhile_cons_of_pos hc]
   ·obtain ⟨_,n3,c3,g3⟩:=r3
    obtain ⟨_,n1,c1,g1⟩:=r1
    have:=g3.len
    have:=g1.len
    rw [c3,c1]
    simp at *
    omega
  ·have stop:(l1=[]∨∃ c l2,l1=c::l2∧Yf c=false)→K h1:=fun hs=>hk h1 (by
     have:ZI l1=l1:=by
       rcases hs with rfl | ⟨c,l2,rfl,hc⟩
       ·rfl
       ·exact X2 hc
     rw [← e1,this];exact r1) u1 z1
   refine Zih r1 (Zou (ZaS r1 (fun hne=>?_) fun he=>stop (.inl he)))
   obtain ⟨c,l2,rfl⟩:=List.exists_cons_of_ne_nil hne
   have q:∀ {n:Int} (d:UInt8) {A B:Prop},n=(d.toNat:Int)→(c=d→A)→(c≠d→B)→Zp (Xp (c::l2) ==n) A B:=fun {n} d {A B} hn ha hb=>by
     subst hn
     exact Yj (fun e=>ha (Za1 e)) fun e=>hb (ZcF e)
   refine ZjR r1 (q 32 rfl (fun e=>⟨rfl,c,l2,rfl,by rw [e];rfl⟩) fun n1=>ZjR r1 (q 9 rfl (fun e=>⟨rfl,c,l2,rfl,by rw [e];rfl⟩) fun n2=>ZjR r1 (q 10 rfl (fun e=>⟨rfl,c,l2,rfl,by rw [e];rfl⟩) fun n3 =>
     ZjR r1 (q 13 rfl (fun e=>⟨rfl,c,l2,rfl,by rw [e];rfl⟩) fun n4=>stop (.inr ⟨c,l2,rfl,by simp [Yf,n1,n2,n3,n4]⟩)))))
theorem Zll (hr:Rf h R s e l) (he:e≠0) {K:HP} (hk:K h):Zq (At R) K h:=by
  unfold Zq YA
  refine ZB (fun _ h'=>h'=h) (fun _ _=>0) rfl ?_
  rintro ⟨⟩ h1 rfl
  exact Zm (fun _ _=>False) (fun _ _ h=>h.elim) (Zih hr (ZtO he hk))
theorem ZfE (hr:Rf h R s 0 l) {c:UInt8} {n:Int} (hn:n=c.toNat) (hc:0<c.toNat) {K:HP} (hk:∀ h',Zcc h' R s (Xo [c] l)→Upd (· = R) h h'→sz h'=sz h→K h'):Zu (At R) n K h:=by
  unfold Zu YK
  refine Zih hr (Zqb (Ze4 hr (fun he=>?_) fun hne=>?_))
  ·subst he
   exact Y4 (α:=Unit) hr (e:=20) (by decide) rfl hk
  ·obtain ⟨d,l',rfl⟩:=List.exists_cons_of_ne_nil hne
   refine ZjR hr ?_
   dsimp only
   refine ZeI c (fun hd=>?_) (fun l2 e2=>?_) hn hc
   ·refine Y4 (α:=Unit) hr (e:=20) (by decide) rfl fun h' o u z=>hk h' ?_ u z
    show Zcc h' R s (if d=c then _ else _)
    rw [if_neg (hd d l' rfl)];exact o
   ·cases e2
    refine Zbv hr fun h1 r1 u1 z1=>hk h1 ?_ u1 z1
    show Zcc h1 R s (if c=c then _ else _)
    rw [if_pos rfl];exact r1
theorem Zgb (hr:Rf h R s e l) (he:e≠0) {n:Int} {K:HP} (hk:K h):Zu (At R) n K h:=by
  unfold Zu YK
  exact Zih hr (ZrQ he hk)
theorem Znv {w:ByteArray} {wl:BL} (hw:w.data.toList=wl) (hs:w.size≤10) (h0:∀ c∈wl,0<c.toNat) (hr:Rf h R s 0 l) {K:HP} (hk:∀ h',Zcc h' R s (Xo wl l)→Upd (· = R) h h'→sz h'=sz h→K h'):Z5 (At R) w K h:=by
  unfold Z5 Xx
  have hwl:wl.length=w.size:=by rw [← hw];simp
  refine Za ?_
  refine ZB (fun p h'=>∃ n:Nat,p.1=n∧n≤w.size∧Upd (· = R) h h'∧sz h'=sz h∧((∃ l',Rf h' R s 0 l'∧Xo (wl.drop n) l'=Xo wl l)∨∃ e r,e≠0∧Rf h' R s e r∧Xo wl l = .err e r)) (fun p _=>w.size - p.1.toNat)
    ⟨0,rfl,Nat.zero_le _,Upd.refl _ _,rfl,.inl ⟨l,hr,rfl⟩⟩ ?_
  rintro ⟨i,u⟩ h2 ⟨n,hi,hn,u2,z2,hc⟩
  dsimp only at hi ⊢
  subst hi
  refine Zi (fun hlt=>?_) fun hge=>?_
  ·have hn':n<wl.length:=by omega
   have hd:wl.drop n=wl[n]::wl.drop (n+1):=List.drop_eq_getElem_cons hn'
   have hx:w[n]?=some wl[n]:=by
     subst hw
     rw [getElem?_pos w n (by omega)]
     simp
     rfl
   refine ⟨wl[n],by omega,by rw [Int.toNat_natCast];exact hx,?_⟩
   rcases hc with ⟨l',r',q'⟩ | ⟨e,r,he,r',q'⟩
   ·refine ZfE r' rfl (h0 _ (List.getElem_mem hn')) fun h3 o3 u3 z3=>Za ?_
    rw [ZG (by omega) (by omega)]
    refine ⟨⟨n+1,rfl,by omega,u2.trans u3,z3.trans z2,?_⟩,by omega⟩
    rw [hd] at q'
    rcases l' with _ | ⟨d,l'⟩
    ·exact .inr ⟨24,[],by decide,o3.2,by rw [← q'];rfl⟩
    ·by_cases hdc:d=wl[n]
     ·left
      refine ⟨l',?_,?_⟩
      ·have:Xo [wl[n]] (d::l') = .ok () l':=by
         show (if d=wl[n] then _ else _)=_
         rw [if_pos hdc];rfl
       rw [this] at o3;exact o3
      ·rw [← q']
       show _=(if d=wl[n] then _ else _)
       rw [if_pos hdc]
     ·right
      have:∀ w',Xo (wl[n]::w') (d::l') = .err 20 (d::l'):=fun w'=>by
        show (if d=wl[n] then _ else _)=_
        rw [if_neg hdc]
      rw [this] at o3 q'
      exact ⟨20,d::l',by decide,o3.2,q'.symm⟩
   ·refine Zgb r' he (Za ?_)
    rw [ZG (by omega) (by omega)]
    exact ⟨⟨n+1,rfl,by omega,u2,z2,.inr ⟨e,r,he,r',q'⟩⟩,by omega⟩
  ·have hn':n=wl.length:=by omega
   subst hn'
   refine hk h2 ?_ u2 z2
   rcases hc with ⟨l',r',q'⟩ | ⟨e,r,he,r',q'⟩
   ·rw [List.drop_length] at q'
    rw [← q'];exact r'
   ·rw [q'];exact ⟨he,r'⟩
theorem Zgg {c:Int} {K:Bool→HP} (hk:K (decide (48≤c∧c≤57)) h):ZE c K h:=by
  unfold ZE ZaA
  refine Zi (fun h1=>Zd ?_) fun h1=>?_
  ·rw [show decide (c≤57)=decide (48≤c∧c≤57) by simp;omega];exact hk
  ·rw [show decide (48≤c∧c≤57)=false by simp;omega] at hk;exact hk
theorem ZvN {c:Int} {K:Bool × Unit→Prop} (hk:K (decide (48≤c∧c≤57),())):Zbe (ρ:=Bool × Unit) (fun K h=>ZE c (fun q h=>K (q,()) h) h) h K :=
  ⟨(decide (48≤c∧c≤57),()),Zgg ⟨rfl,rfl⟩,hk⟩
theorem Zgh (c:UInt8):decide ((48:Int)≤(c.toNat:Int)∧(c.toNat:Int)≤57)=Yw c:=by
  unfold Yw
  rw [← Bool.decide_and]
  congr 1
  apply propext
  omega
theorem Zet (hr:Rf h R s 0 l) {K:HP} (hk:∀ h',Zcc h' R s (Z0 l)→Upd (· = R) h h'→sz h'=sz h→K h'):ZW (At R) K h:=by
  unfold ZW Y8
  refine Zih hr (Zqb (Ze4 hr (fun he=>?_) fun hne=>?_))
  ·subst he
   exact Y4 (α:=Unit) hr (e:=21) (by decide) rfl hk
  ·obtain ⟨c,l',rfl⟩:=List.exists_cons_of_ne_nil hne
   refine ZjR hr (ZvN ?_)
   show Zp (!decide ((48:Int)≤(c.toNat:Int)∧(c.toNat:Int)≤57)) _ _
   rw [Zgh]
   cases hd:Yw c with
   | false =>
     refine Zn rfl (Y4 (α:=Unit) hr (e:=21) (by decide) rfl fun h' o u z=>hk h' ?_ u z)
     show Zcc h' R s (if Yw c=true then _ else _)
     rw [if_neg (by simp [hd])];exact o
   | true =>
     have hq:Z0 (c::l') = .ok () (l'.dropWhile Yw):=by
       show (if Yw c=true then _ else _)=_
       rw [if_pos hd]
     refine Zl rfl ?_
     refine ZB (fun _ h'=>∃ l2,Rf h' R s 0 l2∧l2.dropWhile Yw=l'.dropWhile Yw∧Upd (· = R) h h'∧sz h'=sz h) (fun _ h'=>match obj h' R with
       | some (.cells c _ _)=>(match c.toList with
         | [.string s,.int _ n,_]=>s.size - n.toNat
         | _=>0)
       | _=>0) ⟨c::l',hr,by rw [List.dropWhile_cons_of_pos hd],Upd.refl _ _,rfl⟩ ?_
     rintro ⟨⟩ h1 ⟨l1,r1,e1,u1,z1⟩
     have stop:(l1=[]∨∃ c l2,l1=c::l2∧Yw c=false)→K h1:=fun hs=>hk h1 (by
       rw [hq,← e1]
       have:l1.dropWhile Yw=l1:=by
         rcases hs with rfl | ⟨c,l2,rfl,hc⟩
         ·rfl
         ·rw [List.dropWhile_cons_of_neg (by simp [hc])]
       rw [this];exact r1) u1 z1
     refine ZaS r1 (fun hne=>?_) fun he=>stop (.inl he)
     obtain ⟨d,l2,rfl⟩:=List.exists_cons_of_ne_nil hne
     refine ZjR r1 (ZvN ?_)
     show Zp (decide ((48:Int)≤(d.toNat:Int)∧(d.toNat:Int)≤57)) _ _
     rw [Zgh]
     cases hd2:Yw d with
     | false=>exact Zl rfl (stop (.inr ⟨d,l2,rfl,hd2⟩))
     | true =>
       refine Zn rfl (Zbv r1 fun h3 r3 u3 z3=>⟨⟨l2,r3,?_,u1.trans u3,z3.trans z1⟩,?_⟩)
       ·rw [← e1,List.dropWhile_cons_of_pos hd2]
       ·obtain ⟨_,n3,c3,g3⟩:=r3
        obtain ⟨_,n1,c1,g1⟩:=r1
        have:=g3.len
        have:=g1.len
        rw [c3,c1]
        simp at *
        omega
end
theorem Zck {α:Type} {h:Ze} {R:Nat} {s:ByteArray} {x:Out α} (ho:Zcc h R s x):(∃ a r,x = .ok a r∧Rf h R s 0 r)∨∃ e r,x = .err e r∧e≠0∧Rf h R s e r:=by
  cases x with
  | ok a r=>exact .inl ⟨a,r,rfl,ho⟩
  | err e r=>exact .inr ⟨e,r,rfl,ho⟩
section
variable {h:Ze} {R:Nat} {s:ByteArray} {l:BL}
theorem ZkS (hr:Rf h R s 0 l) {K:ByteArray→HP} (hk:∀ t h',Zcc h' R s (ZcA l)→(∀ r,ZcA l = .ok () r→t=Zc (ZdZ l r))→Upd (· = R) h h'→sz h'=sz h→K t h'):Yb (At R) K h:=by
  unfold Yb Y6
  refine Zf4 hr fun n0 g0=>Za ?_
  refine Zm (fun _ h'=>Rf h' R s 0 (Xb l)∧Upd (· = R) h h'∧sz h'=sz h) ?_ ?_
  ·rintro ⟨⟩ h1 ⟨r1,u1,z1⟩
   refine Zm (fun p h'=>h'=h1∧(p.1=true↔∃ l',Xb l=48::l')) ?_ ?_
   ·rintro ⟨b,u⟩ h2 ⟨rfl,hb⟩
    dsimp only at hb ⊢
    refine Zm (fun _ h'=>Zcc h' R s (ZeS (Xb l))∧Upd (· = R) h h'∧sz h'=sz h) ?_ ?_
    ·rintro ⟨⟩ h3 ⟨o3,u3,z3⟩
     refine Zm (fun _ h'=>Zcc h' R s ((ZeS (Xb l)).bind fun _ l1=>ZcP l1)∧Upd (· = R) h h'∧sz h'=sz h) ?_ ?_
     ·rintro ⟨⟩ h4 ⟨o4,u4,z4⟩
      refine Zm (fun _ h'=>Zcc h' R s (ZcA l)∧Upd (· = R) h h'∧sz h'=sz h) ?_ ?_
      ·rintro ⟨⟩ h5 ⟨o5,u5,z5⟩
       have fin:∀ {e:Nat} {r:BL},Rf h5 R s e r→r <:+l→(∀ r',ZcA l = .ok () r'→r'=r)→Zb (At R) fun b123 o124=>ldS h5 b123 o124 fun t125=>Zb (At R) fun b126 o127=>ldI h5 b126 (o127+1) .i64 fun t128=>ZfW t125 n0 t128 fun t129=>K t129 h5:=fun {e r} r5 hsuf hq=>by
         refine ZqJ r5 (Zf4 r5 fun n5 g5=>?_)
         have hle:n0≤n5:=by have:=g0.len;have:=g5.len;have:=hsuf.length_le;omega
         refine ⟨by omega,by omega,by have:=g5.len;omega,?_⟩
         rw [Int.toNat_natCast,Int.toNat_natCast,g0.extract g5 hle]
         exact hk _ h5 o5 (fun r' hr'=>by rw [hq r' hr']) u5 z5
       rcases Zck o5 with ⟨_,r,q,r5⟩ | ⟨e,r,q,he,r5⟩
       ·exact fin r5 (ZeE.sf.suf q) fun r' hr'=>by rw [q] at hr';cases hr';rfl
       ·exact fin r5 (ZeE.sf.esuf q).1 fun r' hr'=>by rw [q] at hr';cases hr'
      ·
       have hnum:ZcA l=((ZeS (Xb l)).bind fun _ l1=>ZcP l1).bind fun _ l2=>Zfm l2:=by
         unfold ZcA
         cases ZeS (Xb l)<;>rfl
       rcases Zck o4 with ⟨_,r,q,r4⟩ | ⟨e,r,q,he,r4⟩
       ·rw [q] at hnum
        have hn2:ZcA l=Zfm r:=hnum
        rw [hn2]
        refine Zm (fun p h'=>h'=h4∧(p.1=true↔∃ c l',r=c::l'∧(c=101∨c=69))) ?_ ?_
        ·rintro ⟨b,u⟩ h5 ⟨rfl,hb⟩
         dsimp only at hb ⊢
         cases hbb:b with
         | false =>
           refine Zl rfl ⟨?_,u4,z4⟩
           have:Zfm r = .ok () r:=by
             rcases r with _ | ⟨c,l'⟩
             ·rfl
             ·show (if c=101∨c=69 then _ else _)=_
              rw [if_neg fun hc=>by rw [hb.2 ⟨c,l',rfl,hc⟩] at hbb;cases hbb]
           rw [this];exact r4
         | true =>
           obtain ⟨c,l',rfl,hc⟩:=hb.1 hbb
           have hx:Zfm (c::l')=Z0 (Zdp l'):=by
             show (if c=101∨c=69 then _ else _)=_
             rw [if_pos hc]
           rw [hx]
           have dg:∀ {h6:Ze} {l6:BL},Rf h6 R s 0 l6→Zdp l'=l6→Upd (· = R) h5 h6→sz h6=sz h5→ZW (At R) (fun h8=>Zcc h8 R s (Z0 (Zdp l'))∧Upd (· = R) h h8∧sz h8=sz h) h6:=fun r6 hl u6 z6 =>
             Zet r6 fun h7 o7 u7 z7=>⟨by rw [hl];exact o7,(u4.trans u6).trans u7,z7.trans (z6.trans z4)⟩
           refine Zn rfl (Zbv r4 fun h6 r6 u6 z6=>ZaS r6 (fun hne=>?_) fun he=>?_)
           ·obtain ⟨d,l2,rfl⟩:=List.exists_cons_of_ne_nil hne
            refine ZjR r6 ?_
            refine Yj (fun e43=>Zbv r6 fun h7 r7 u7 z7=>dg r7 ?_ (u6.trans u7) (z7.trans z6)) fun e43=>ZjR r6 (Yj (fun e45=>Zbv r6 fun h7 r7 u7 z7=>dg r7 ?_ (u6.trans u7) (z7.trans z6)) fun e45=>dg r6 ?_ u6 z6)
            ·show (if d=43∨d=45 then _ else _)=_
             rw [if_pos (.inl (Za1 (d:=43) e43))]
            ·show (if d=43∨d=45 then _ else _)=_
             rw [if_pos (.inr (Za1 (d:=45) e45))]
            ·show (if d=43∨d=45 then _ else _)=_
             rw [if_neg fun hc=>hc.elim (ZcF (d:=43) e43) (ZcF (d:=45) e45)]
           ·subst he
            exact dg r6 rfl u6 z6
        ·refine Zih r4 (Zou (ZaS r4 (fun hne=>?_) fun he=>⟨rfl,by subst he;simp⟩))
         obtain ⟨d,l2,rfl⟩:=List.exists_cons_of_ne_nil hne
         refine ZjR r4 (Yj (fun e1=>⟨rfl,?_⟩) fun e1=>ZjR r4 ⟨rfl,?_⟩)
         ·simp only [true_iff]
          exact ⟨d,l2,rfl,.inl (Za1 (d:=101) e1)⟩
         ·constructor
          ·intro hb
           exact ⟨d,l2,rfl,.inr (Za1 (d:=69) (beq_iff_eq.1 hb))⟩
          ·rintro ⟨c,l',e,hc⟩
           cases e
           rcases hc with hc | hc
           ·exact absurd (by rw [hc];rfl) e1
           ·rw [hc];rfl
       ·rw [q] at hnum
        refine Zm (fun p h'=>h'=h4∧p.1=false) ?_ (Zih r4 (ZtO he ⟨rfl,rfl⟩))
        rintro ⟨b,u⟩ h5 ⟨rfl,hb⟩
        dsimp only at hb ⊢
        exact Zl hb ⟨by rw [hnum];exact ⟨he,r4⟩,u4,z4⟩
     ·
      rcases Zck o3 with ⟨_,r,q,r3⟩ | ⟨e,r,q,he,r3⟩
      ·rw [q]
       show Zb _ _
       refine Zih r3 (Zou (ZaS r3 (fun hne=>?_) fun he=>⟨by subst he;exact r3,u3,z3⟩))
       obtain ⟨d,l2,rfl⟩:=List.exists_cons_of_ne_nil hne
       have hf:∀ {x},(.ok () (d::l2):Out Unit).bind (fun _ l1=>ZcP l1)=x↔(if d=46 then Z0 l2 else .ok () (d::l2))=x:=Iff.rfl
       refine ZjR r3 (Yj (fun e1=>Zbv r3 fun h4 r4 u4 z4=>Zet r4 fun h5 o5 u5 z5=>⟨?_,(u3.trans u4).trans u5,z5.trans (z4.trans z3)⟩) fun e1=>⟨?_,u3,z3⟩)
       ·show Zcc h5 R s (if d=46 then _ else _)
        rw [if_pos (Za1 (d:=46) e1)];exact o5
       ·show Zcc h3 R s (if d=46 then _ else _)
        rw [if_neg (ZcF (d:=46) e1)];exact r3
      ·rw [q]
       exact Zih r3 (ZtO he ⟨⟨he,r3⟩,u3,z3⟩)
    ·
     cases hbb:b with
     | true =>
       obtain ⟨l',e⟩:=hb.1 hbb
       rw [e] at r1 ⊢
       refine Zn rfl (Zbv r1 fun h3 r3 u3 z3=>?_)
       have hi:ZeS (48::l')=X9 l':=rfl
       rw [hi]
       refine ZaS r3 (fun hne=>?_) fun he=>⟨by subst he;exact r3,u1.trans u3,z3.trans z1⟩
       obtain ⟨d,l2,rfl⟩:=List.exists_cons_of_ne_nil hne
       refine ZjR r3 (ZvN ?_)
       show Zp (decide ((48:Int)≤(d.toNat:Int)∧(d.toNat:Int)≤57)) _ _
       rw [Zgh]
       cases hd:Yw d with
       | true =>
         refine Zn rfl (Y4 (α:=Unit) r3 (e:=21) (by decide) rfl fun h4 o4 u4 z4=>⟨?_,(u1.trans u3).trans u4,z4.trans (z3.trans z1)⟩)
         show Zcc h4 R s (if Yw d=true then _ else _)
         rw [if_pos hd];exact o4
       | false =>
         refine Zl rfl ⟨?_,u1.trans u3,z3.trans z1⟩
         show Zcc h3 R s (if Yw d=true then _ else _)
         rw [if_neg (by simp [hd])];exact r3
     | false =>
       refine Zl rfl (Zet r1 fun h3 o3 u3 z3=>⟨?_,u1.trans u3,z3.trans z1⟩)
       have:ZeS (Xb l)=Z0 (Xb l):=by
         cases hm:Xb l with
         | nil=>rfl
         | cons d l2 =>
           show (if d=48 then _ else _)=_
           rw [if_neg fun hd=>by rw [hb.2 ⟨l2,by rw [hm,hd]⟩] at hbb;cases hbb]
       rw [this];exact o3
   ·refine ZaS r1 (fun hne=>?_) fun he=>⟨rfl,by rw [he];simp⟩
    obtain ⟨d,l2,e⟩:=List.exists_cons_of_ne_nil hne
    rw [e] at r1
    refine ZjR r1 (Zd ⟨rfl,?_⟩)
    rw [e]
    constructor
    ·intro hb
     exact ⟨l2,by rw [Za1 (c:=d) (d:=48) (beq_iff_eq.1 hb)]⟩
    ·rintro ⟨l',e2⟩
     cases e2;rfl
  ·refine ZcY hr (ZbO 45 (fun l' e=>?_) fun hn=>?_)
   ·subst e
    exact Zbv hr fun h1 r1 u1 z1=>⟨r1,u1,z1⟩
   ·have hm:Xb l=l:=by
      rcases l with _ | ⟨d,l⟩
      ·rfl
      ·show (if d=45 then _ else _)=_
       rw [if_neg (hn d l rfl)]
    exact ⟨by rw [hm];exact hr,Upd.refl _ _,rfl⟩
theorem Zk3 (hr:Rf h R s 0 l) {K:Int→HP} (hk:∀ (n:Int) h',Zcc h' R s (ZbN 4 0 l)→(∀ m r,ZbN 4 0 l = .ok m r→n=(m:Int))→(∀ e r,ZbN 4 0 l = .err e r→n=0)→Upd (· = R) h h'→sz h'=sz h→K n h'):ZV (At R) K h:=by
  unfold ZV XG
  refine Za (Za (Za ?_))
  refine ZB (fun p h'=>∃ (N k:Nat) (l':BL),p.1=N∧p.2.1=((4 - k:Nat):Int)∧k≤4∧N<16 ^ (4 - k)∧ZbN k N l'=ZbN 4 0 l∧Rf h' R s 0 l'∧Upd (· = R) h h'∧sz h'=sz h) (fun p _=>(4 - p.2.1).toNat) ⟨0,4,l,rfl,rfl,by omega,by decide,rfl,hr,Upd.refl _ _,rfl⟩ ?_
  rintro ⟨n1,s5,u⟩ h2 ⟨N,k,l2,e1,e2,hk',hN,q2,r2,u2,z2⟩
  dsimp only at e1 e2 ⊢
  subst e1 e2
  refine Zi (fun hlt=>?_) fun hge=>?_
  ·obtain ⟨k,rfl⟩:∃ k',k=k'+1:=⟨k - 1,by omega⟩
   have hN2:N<65536:=by
     have:16 ^ (4 - (k+1))≤16 ^ 4:=Nat.pow_le_pow_right (by decide) (by omega)
     omega
   refine Zih r2 (Zou (ZcY r2 (Za ?_)))
   refine Zm (fun p h'=>h'=h2∧∃ c l3 d,l2=c::l3∧Zfd c=some d∧p.1=((N*16+d:Nat):Int)) ?_ ?_
   ·rintro ⟨n,u⟩ h3 ⟨rfl,c,l3,d,rfl,hd,hn⟩
    dsimp only at hn ⊢
    subst hn
    refine Zbv r2 fun h4 r4 u4 z4=>Za ?_
    rw [ZG (by omega) (by omega)]
    refine ⟨⟨N*16+d,k,l3,rfl,by omega,by omega,?_,?_,r4,u2.trans u4,z4.trans z2⟩,by omega⟩
    ·have h16:=Zl7 hd
     rw [show 4 - k=(4 - (k+1))+1 by omega,Nat.pow_succ]
     omega
    ·rw [← q2,ZfG,hd]
   ·have bad:(∀ c l3,l2=c::l3→Zfd c=none)→Zh (At R) 22 (fun h41=>Zk 0 fun t42=>K t42 h41) h2:=fun hno=>by
      refine Y4 (α:=Nat) r2 (e:=22) (by decide) rfl fun h3 o3 u3 z3=>Za ?_
      have hq:ZbN 4 0 l=XC 22 l2:=by
        rw [← q2]
        rcases l2 with _ | ⟨c,l3⟩
        ·rfl
        ·rw [ZfG,hno c l3 rfl];rfl
      refine hk 0 h3 (by rw [hq];exact o3) (fun m r hm=>?_) (fun _ _ _=>rfl) (u2.trans u3) (z3.trans z2)
      rw [hq] at hm
      cases l2<;>cases hm
    rcases l2 with _ | ⟨c,l3⟩
    ·have hb:=bad fun c l3 e=>by cases e
     refine Zm (fun p h'=>h'=h2∧p.1=false) ?_ (ZaS r2 (fun hne=>absurd rfl hne) fun _=>⟨rfl,rfl⟩)
     rintro ⟨b,u⟩ h3 ⟨rfl,hb3⟩
     dsimp only at hb3 ⊢
     refine Zl hb3 (Zm (fun p h'=>h'=h3∧p.1=false) ?_ (ZaS r2 (fun hne=>absurd rfl hne) fun _=>⟨rfl,rfl⟩))
     rintro ⟨b,u⟩ h4 ⟨rfl,hb4⟩
     dsimp only at hb4 ⊢
     exact Zl hb4 (ZaS r2 (fun hne=>absurd rfl hne) fun _=>hb)
    ·have hne:c::l3≠[]:=by simp
     have hz:Xp (c::l3)=(c.toNat:Int):=rfl
     generalize Xp (c::l3)=z at hz ⊢
     subst hz
     refine Zm (fun p h'=>h'=h2∧p.1=Yw c) ?_ (ZaS r2 (fun _=>ZvN (Zd ⟨rfl,Zgh c⟩)) fun he=>by cases he)
     rintro ⟨b,u⟩ h3 ⟨rfl,hb3⟩
     dsimp only at hb3 ⊢
     subst hb3
     have dd:Yw c=true↔48≤c.toNat∧c.toNat≤57:=Zb9
     by_cases hd:Yw c=true
     ·have hcc:=dd.1 hd
      refine Zn hd (Za ⟨rfl,c,l3,c.toNat - 48,rfl,?_,?_⟩)
      ·rcases Zdg c with ⟨_,_,hx⟩ | ⟨a0,_⟩ | ⟨a0,_⟩ | ⟨a0,_⟩
       ·exact hx
       ·exact absurd hcc a0
       ·exact absurd hcc a0
       ·exact absurd hcc a0
      ·rw [Zh8 (by omega) (by omega),ZG (n:=(c.toNat:Int) - 48) (by omega) (by omega),ZG (n:=(N:Int)*16) (by omega) (by omega),ZG (by omega) (by omega)]
       omega
     ·have hcc:¬ (48≤c.toNat∧c.toNat≤57):=fun h=>hd (dd.2 h)
      refine Zl (by simpa using hd) ?_
      refine Zm (fun p h'=>h'=h3∧p.1=decide (97≤c.toNat∧c.toNat≤102)) ?_ (ZaS r2 (fun _=>Zi (p:=(c.toNat:Int)≥97) (fun h1=>Zd ⟨rfl,by rw [decide_eq_decide];omega⟩) (fun h1=>⟨rfl,by have h9:¬ (97≤c.toNat∧c.toNat≤102):=(fun h9=>h1 (show (c.toNat:Int)≥97 by omega));simp [h9]⟩)) (fun he=>by cases he))
      rintro ⟨b,u⟩ h4 ⟨rfl,hb4⟩
      dsimp only at hb4 ⊢
      subst hb4
      by_cases h2':97≤c.toNat∧c.toNat≤102
      ·refine Zn (by simp [h2']) (Za ⟨rfl,c,l3,c.toNat - 87,rfl,?_,?_⟩)
       ·rcases Zdg c with ⟨a0,a1,_⟩ | ⟨_,_,_,hx⟩ | ⟨_,b0,_⟩ | ⟨_,b0,_⟩
        ·exact absurd ⟨a0,a1⟩ hcc
        ·exact hx
        ·exact absurd h2' b0
        ·exact absurd h2' b0
       ·rw [Zh8 (by omega) (by omega),ZG (n:=(c.toNat:Int) - 97) (by omega) (by omega),ZG (n:=(N:Int)*16) (by omega) (by omega),ZG (n:=(N:Int)*16+_) (by omega) (by omega),ZG (by omega) (by omega)]
        omega
      ·have hb:¬ (65≤c.toNat∧c.toNat≤70)→Zh (At R) 22 (fun h41=>Zk 0 fun t42=>K t42 h41) h4:=fun h3'=>bad fun c' l3' e=>by
         cases e
         rcases Zdg c with ⟨a0,a1,_⟩ | ⟨_,b0,b1,_⟩ | ⟨_,_,c0,c1,_⟩ | ⟨_,_,_,hx⟩
         ·exact absurd ⟨a0,a1⟩ hcc
         ·exact absurd ⟨b0,b1⟩ h2'
         ·exact absurd ⟨c0,c1⟩ h3'
         ·exact hx
       refine Zl (by simp [h2']) (ZaS r2 (fun _=>Zi (fun h65=>Zd (Zi (fun h70=>Za ⟨rfl,c,l3,c.toNat - 55,rfl,?_,?_⟩) fun h70=>hb (by omega))) fun h65=>hb (by omega)) fun he=>by cases he)
       ·rcases Zdg c with ⟨a0,a1,_⟩ | ⟨_,b0,b1,_⟩ | ⟨_,_,_,_,hx⟩ | ⟨_,_,c0,_⟩
        ·exact absurd ⟨a0,a1⟩ hcc
        ·exact absurd ⟨b0,b1⟩ h2'
        ·exact hx
        ·exact absurd (by omega) c0
       ·rw [Zh8 (by omega) (by omega),ZG (n:=(c.toNat:Int) - 65) (by omega) (by omega),ZG (n:=(N:Int)*16) (by omega) (by omega),ZG (n:=(N:Int)*16+_) (by omega) (by omega),ZG (by omega) (by omega)]
        omega
  ·obtain rfl:k=0:=by omega
   have hq:ZbN 4 0 l = .ok N l2:=by rw [← q2];rfl
   refine Za (hk N h2 (by rw [hq];exact r2) (fun m r hm=>?_) (fun e r hm=>?_) u2 z2)
   ·rw [hq] at hm;cases hm;rfl
   ·rw [hq] at hm;cases hm
end
theorem ZpV {a b c d:UInt8} (r:BL):(∃ m,ZbN 4 0 (a::b::c::d::r) = .ok m r∧ZbN 4 0 [a,b,c,d] = .ok m [])∨(∃ e q e' q',ZbN 4 0 (a::b::c::d::r) = .err e q∧ZbN 4 0 [a,b,c,d] = .err e' q'):=by
  simp only [ZbN]
  cases Zfd a with
  | none=>exact .inr ⟨_,_,_,_,rfl,rfl⟩
  | some x =>
    simp only
    cases Zfd b with
    | none=>exact .inr ⟨_,_,_,_,rfl,rfl⟩
    | some x =>
      simp only
      cases Zfd c with
      | none=>exact .inr ⟨_,_,_,_,rfl,rfl⟩
      | some x =>
        simp only
        cases Zfd d with
        | none=>exact .inr ⟨_,_,_,_,rfl,rfl⟩
        | some x=>exact .inl ⟨_,rfl,rfl⟩
theorem Zn5 {l:BL} (h:l.length<4):∃ e q,ZbN 4 0 l = .err e q:=by
  cases hx:ZbN 4 0 l with
  | ok m r=>have:=(Zap 4 hx).1;omega
  | err e q=>exact ⟨e,q,rfl⟩
section
variable {h:Ze} {R:Nat} {s:ByteArray} {l:BL}
theorem Zrt (hr:Rf h R s 0 l) {K:Int→HP} (hk:∀ h',Ext h h'→K (match Zhx l with | some (m,_)=>(m:Int) | none=>0) h'):Z1 (At R) K h:=by
  unfold Z1 YP
  have hll:=hr.len
  have no:Zhx l=none→K 0 h:=fun e=>by have:=hk h (Ext.refl _);rw [e] at this;exact this
  refine Za (Zf4 hr fun n hn=>ZqJ hr ?_)
  have hnl:=hn.len
  rw [ZG (by omega) (by omega)]
  refine Zi (fun hgt=>Za (no ?_)) fun hle=>?_
  ·unfold Zhx
   cases hb:XH l with
   | none=>rfl
   | some l2 =>
     have e:=XR hb
     obtain ⟨e',q,hx⟩:=Zn5 (l:=l2) (by rw [e] at hnl;simp at hnl;omega)
     simp only [hx]
  ·obtain ⟨a,b,c1,c2,c3,c4,r,rfl⟩:∃ a b c1 c2 c3 c4 r,l=a::b::c1::c2::c3::c4::r:=by
     rcases l with _ | ⟨a,_ | ⟨b,_ | ⟨c1,_ | ⟨c2,_ | ⟨c3,_ | ⟨c4,r⟩⟩⟩⟩⟩⟩
     all_goals first | exact ⟨_,_,_,_,_,_,_,rfl⟩ | (exfalso;simp at hnl;omega)
   simp only [List.length_cons] at hnl
   refine ZqJ hr (Zf4 hr fun n1 hn1=>⟨a,by omega,by rw [Int.toNat_natCast];exact hn1.head,?_⟩)
   refine Xk (fun hne=>Za (no ?_)) fun heq=>?_
   ·unfold Zhx;rw [Zbx,if_neg fun hh=>ZcF (d:=92) hne hh.1]
   ·refine ZqJ hr (Zf4 hr fun n2 hn2=>?_)
    have hn2l:=hn2.len
    simp only [List.length_cons] at hn2l
    rw [ZG (by omega) (by omega)]
    refine ⟨b,by omega,by rw [show ((n2:Int)+1).toNat=n2+1 by omega];exact hn2.tail.head,?_⟩
    refine Xk (fun hne=>Za (no ?_)) fun heq2=>?_
    ·unfold Zhx;rw [Zbx,if_neg fun hh=>ZcF (d:=117) hne hh.2]
    ·have ha:a=92:=Za1 (d:=92) heq
     have hb:b=117:=Za1 (d:=117) heq2
     obtain ⟨hs,n3,c,hn3⟩:=id hr
     have hn3l:=hn3.len
     simp only [List.length_cons] at hn3l
     refine ZX (ZX (ZX (rS (Zr c rfl) (rI (Zr c rfl) ?_))))
     rw [ZG (by omega) (by omega)]
     refine ⟨by omega,by omega,by omega,rI (Zr c rfl) ?_⟩
     rw [ZG (n:=(n3:Int)+2) (by omega) (by omega)]
     refine ZbY fun h1 cx e1 z1=>?_
     refine YS (Zr (Y2 c e1) rfl) (YS (Zr (Y2 c e1) rfl) (YS (Zr (Y2 c e1) rfl) ?_))
     have hx:Rf h1 h.size (s.extract (0:Int).toNat ((n3:Int)+6).toNat) 0 [c1,c2,c3,c4]:=by
       have e6:((n3:Int)+6).toNat=n3+6:=by omega
       have hsz:(s.extract 0 (n3+6)).size=n3+6:=by rw [ByteArray.size_extract];omega
       refine ⟨by show (s.extract 0 ((n3:Int)+6).toNat).size≤_;rw [e6,hsz];omega,n3+2,cx,?_,?_⟩
       ·show (s.extract 0 ((n3:Int)+6).toNat).data.toList.drop (n3+2)=_
        rw [e6]
        have hd:s.data.toList.drop (n3+2)=c1::c2::c3::c4::r:=hn3.tail.tail.drop
        have:(s.extract 0 (n3+6)).data.toList=s.data.toList.take (n3+6):=by
          rw [ByteArray.data_extract,Array.toList_extract]
          simp
        rw [this,List.drop_take,hd,show n3+6 - (n3+2)=4 by omega]
        rfl
       ·show n3+2+4=(s.extract 0 ((n3:Int)+6).toNat).size
        rw [e6,hsz]
     refine Zk3 hx fun n h2 o2 hok herr u2 z2=>Za ?_
     have e2:Ext h h2:=e1.updS u2 fun j hj=>by subst hj;exact Nat.le_refl _
     have hlow:Zhx (a::b::c1::c2::c3::c4::r)=match ZbN 4 0 (c1::c2::c3::c4::r) with
       | .ok m l3=>if Zkn m then some (m,l3) else none
       | .err _ _=>none:=by
       unfold Zhx
       rw [Zbx,if_pos ⟨ha,hb⟩]
       rfl
     have key:=hk h2 e2
     rcases ZpV (a:=c1) (b:=c2) (c:=c3) (d:=c4) r with ⟨m,q1,q2⟩ | ⟨e,q,e',q',q1,q2⟩
     ·rw [q1] at hlow
      have hlow:Zhx (a::b::c1::c2::c3::c4::r)=if Zkn m=true then some (m,r) else none:=hlow
      rw [hok m _ q2]
      rw [q2] at o2
      obtain ⟨_,n4,cc4,_⟩:=id o2
      rw [hlow] at key
      refine rI (Zr cc4 rfl) (Zqb ?_)
      by_cases hlo:56320≤m∧m<57344
      ·rw [if_pos (show Zkn m=true by simp [Zkn,hlo])] at key
       exact Zl (by simp;omega) (Zl (by simp;omega) (Za key))
      ·rw [if_neg (show ¬ Zkn m=true by simp [Zkn];omega)] at key
       refine Zi (fun h1=>Za key) fun h1=>Zn (by simp;omega) (Za key)
     ·rw [q1] at hlow
      have hlow:Zhx (a::b::c1::c2::c3::c4::r)=none:=hlow
      rw [q2] at o2
      obtain ⟨he,_,n4,cc4,_⟩:=id o2
      rw [hlow] at key
      exact rI (Zr cc4 rfl) (ZrQ he (Za key))
theorem Zq4 {n k:Nat} (hk:k≤20):Zh5 .i64 (n:Int) (k:Int)=((n / 2 ^ k:Nat):Int):=by
  unfold Zh5
  rw [Int.toNat_natCast,show min k IntKind.i64.bits=k from Nat.min_eq_left (by show k≤64;omega)]
  have:(2:Int) ^ k=((2 ^ k:Nat):Int):=by push_cast;rfl
  rw [this,Int.fdiv_eq_ediv_of_nonneg _ (Int.natCast_nonneg _)]
  rfl
theorem Zxc {n:Nat} (h:n<2147483648):Zh1 .i64 (n:Int) 63=((n % 64:Nat):Int):=by
  unfold Zh1
  have hb:IntKind.i64.bits=64:=rfl
  rw [hb,show (63:Int)=((63:Nat):Int) from rfl,BitVec.ofInt_natCast,BitVec.ofInt_natCast,BitVec.toNat_and,BitVec.toNat_ofNat,BitVec.toNat_ofNat,Nat.mod_eq_of_lt (by omega),Nat.mod_eq_of_lt (by omega)]
  have:n &&& 63=n % 64:=Nat.and_two_pow_sub_one_eq_mod n 6
  rw [this,ZG (by omega) (by omega)]
theorem Zxz {c a:Nat} (hc:(c=128∧a<64)∨(c=192∧a<32)∨(c=224∧a<16)∨(c=240∧a<8)):orV .i64 (c:Int) (a:Int)=((c+a:Nat):Int):=by
  rcases hc with ⟨rfl,ha⟩ | ⟨rfl,ha⟩ | ⟨rfl,ha⟩ | ⟨rfl,ha⟩
  ·have:∀ b:Fin 64,orV .i64 ((128:Nat):Int) ((b.val:Nat):Int)=((128+b.val:Nat):Int):=by decide +kernel
   exact this ⟨a,ha⟩
  ·have:∀ b:Fin 32,orV .i64 ((192:Nat):Int) ((b.val:Nat):Int)=((192+b.val:Nat):Int):=by decide +kernel
   exact this ⟨a,ha⟩
  ·have:∀ b:Fin 16,orV .i64 ((224:Nat):Int) ((b.val:Nat):Int)=((224+b.val:Nat):Int):=by decide +kernel
   exact this ⟨a,ha⟩
  ·have:∀ b:Fin 8,orV .i64 ((240:Nat):Int) ((b.val:Nat):Int)=((240+b.val:Nat):Int):=by decide +kernel
   exact this ⟨a,ha⟩
theorem Zjb {n:Nat} (h:n<2147483648):Value.int .u8 (IntKind.wrap .u8 (orV .i64 (128:Int) (Zh1 .i64 (n:Int) 63)))=bv (UInt8.ofNat (128+n % 64)):=by
  rw [Zxc h,show (128:Int)=((128:Nat):Int) from rfl,Zxz (.inl ⟨rfl,by omega⟩),w8,show (128+n % 64) % 256=128+n % 64 by omega]
  exact Zlk (by omega)
theorem ZpL {n k c:Nat} (hk:k≤20) (hc:(c=128∧n / 2 ^ k<64)∨(c=192∧n / 2 ^ k<32)∨(c=224∧n / 2 ^ k<16)∨(c=240∧n / 2 ^ k<8)):Value.int .u8 (IntKind.wrap .u8 (orV .i64 (c:Int) (Zh5 .i64 (n:Int) (k:Int))))=bv (UInt8.ofNat (c+n / 2 ^ k)):=by
  rw [Zq4 hk]
  generalize n / 2 ^ k=q at hc ⊢
  rw [Zxz hc,w8,show (c+q) % 256=c+q by omega]
  exact Zlk (by omega)
theorem ZqR {n:Nat} (hn:n<1114112) {n0:Int} (h0:n0=n) {K:ByteArray→HP} (hk:∀ h',Ext h h'→K (Zc (ZbB n)) h'):YT n0 K h:=by
  subst h0
  unfold YT Zbi
  have go:∀ (new:BL) (cells:List Value) (m:Nat),ZbB n=new→cells=new.map bv→m=new.length→newC h cells 5 fun b h1=>b2s ⟨some ⟨b,0,none⟩,m,m⟩ h1 fun t=>K t h1:=by
    intro new cells m hu hc hm
    have h4:=ZdY n
    rw [hu] at h4
    refine Zu2 new m hc hm.symm (by omega) fun b h1 hr e1 _=>Zlm hr ?_
    have:=hk h1 e1
    rwa [hu] at this
  refine Zd (Zi (fun h1=>?_) fun h1=>Zd (Zi (fun h2=>⟨by decide,?_⟩) fun h2=>Zd (Zi (fun h3=>⟨by decide,by decide,?_⟩) fun h3=>⟨by decide,by decide,by decide,?_⟩)))
  ·refine go [UInt8.ofNat n] _ 1 (by unfold ZbB;rw [if_pos (by omega)]) ?_ rfl
   rw [w8,show n % 256=n by omega,Zlk (by omega)];rfl
  ·refine go [UInt8.ofNat (192+n / 64),UInt8.ofNat (128+n % 64)] _ 2 (by unfold ZbB;rw [if_neg (by omega),if_pos (by omega)]) ?_ rfl
   rw [Zjb (by omega),show ((192:Int))=((192:Nat):Int) from rfl,show ((6:Int))=((6:Nat):Int) from rfl,ZpL (by omega) (.inr (.inl ⟨rfl,by omega⟩))];rfl
  ·refine go [UInt8.ofNat (224+n / 4096),UInt8.ofNat (128+n / 64 % 64),UInt8.ofNat (128+n % 64)] _ 3 (by unfold ZbB;rw [if_neg (by omega),if_neg (by omega),if_pos (by omega)]) ?_ rfl
   rw [Zjb (by omega),show ((224:Int))=((224:Nat):Int) from rfl,show ((6:Int))=((6:Nat):Int) from rfl,show ((12:Int))=((12:Nat):Int) from rfl,ZpL (by omega) (.inr (.inr (.inl ⟨rfl,by omega⟩))),Zq4 (by omega),Zjb (by omega)];rfl
  ·refine go [UInt8.ofNat (240+n / 262144),UInt8.ofNat (128+n / 4096 % 64),UInt8.ofNat (128+n / 64 % 64),UInt8.ofNat (128+n % 64)] _ 4 (by unfold ZbB;rw [if_neg (by omega),if_neg (by omega),if_neg (by omega)]) ?_ rfl
   rw [Zjb (by omega),show ((240:Int))=((240:Nat):Int) from rfl,show ((6:Int))=((6:Nat):Int) from rfl,show ((12:Int))=((12:Nat):Int) from rfl,show ((18:Int))=((18:Nat):Int) from rfl,
     ZpL (by omega) (.inr (.inr (.inr ⟨rfl,by omega⟩))),Zq4 (k:=12) (by omega),Zq4 (k:=6) (by omega),Zjb (by omega),Zjb (by omega)];rfl
theorem ZmC {c:UInt8} {n:Int} (hn:n=c.toNat) {K:Int→Int→Int→HP} (hk:K (nRb c) (loR c) (hiR c) h):Ye n K h:=by
  subst hn
  unfold Ye Zao
  have lf:∀ (a b d:Nat),ZfV c.toNat=(a,b,d)→K a b d h:=fun a b d e=>by
    have:=hk
    unfold nRb loR hiR at this
    rw [e] at this;exact this
  have hc:=c.toNat_lt
  refine Za (Za (Za (Zd (Zi (fun h1=>?_) fun h1=>?_))))
  ·exact Za (Za (Za (lf 1 0 0 (by unfold ZfV;rw [if_pos (by omega)]))))
  refine Zm (fun p h'=>h'=h∧p.1=decide (194≤c.toNat∧c.toNat≤223)) ?_ (Zi (p:=(c.toNat:Int)≥194) (fun h1=>Zd ⟨rfl,by rw [decide_eq_decide];omega⟩) (fun h1=>⟨rfl,by
    have:¬ (194≤c.toNat∧c.toNat≤223):=fun h9=>h1 (show (c.toNat:Int)≥194 by omega)
    simp [this]⟩))
  rintro ⟨b,u⟩ h2 ⟨rfl,hb⟩
  dsimp only at hb ⊢
  subst hb
  by_cases h2':194≤c.toNat∧c.toNat≤223
  ·exact Zn (by simp [h2']) (Za (Za (Za (lf 2 128 191 (by unfold ZfV;rw [if_neg (by omega),if_pos (by omega)])))))
  refine Zl (by simp [h2']) ?_
  have fin4:¬ c.toNat=244→c.toNat≠240→¬ (241≤c.toNat∧c.toNat≤243)→c.toNat≠224→c.toNat≠237→¬ (225≤c.toNat∧c.toNat≤239)→ZfV c.toNat=(0,0,0):=fun a b d e f g=>by
    unfold ZfV
    rw [if_neg (by omega),if_neg (by omega),if_neg (by omega),if_neg (by omega),if_neg (by omega),if_neg (by omega),if_neg (by omega),if_neg (by omega)]
  have c244:c.toNat=244→ZfV c.toNat=(4,128,143):=fun e=>by rw [e];rfl
  have c240:c.toNat=240→ZfV c.toNat=(4,144,191):=fun e=>by rw [e];rfl
  have c241:241≤c.toNat∧c.toNat≤243→ZfV c.toNat=(4,128,191):=fun e=>by
    unfold ZfV
    rw [if_neg (by omega),if_neg (by omega),if_neg (by omega),if_neg (by omega),if_neg (by omega),if_neg (by omega),if_pos (by omega)]
  have eqN:∀ {n:Nat} {A B:Prop},(c.toNat=n→A)→(c.toNat≠n→B)→ZF ((c.toNat:Int) ==(n:Int)) fun t=>Zp t A B:=fun {n A B} ha hb=>Zd (Yj (fun e=>ha (by omega)) fun e=>hb (by omega))
  refine eqN (n:=224) (fun e=>Za (Za (Za (lf 3 160 191 (by rw [e];rfl))))) fun n224=>?_
  refine eqN (n:=237) (fun e=>Za (Za (Za (lf 3 128 159 (by rw [e];rfl))))) fun n237=>?_
  refine Zi (p:=(c.toNat:Int)≥225) (fun g225=>?_) fun g225=>?_
  ·refine Zd (Zi (p:=(c.toNat:Int)≤239) (fun g239=>?_) fun g239=>?_)
   ·exact Za (Za (Za (lf 3 128 191 (by
      unfold ZfV
      rw [if_neg (by omega),if_neg (by omega),if_neg (by omega),if_neg (by omega),if_pos (by omega)]))))
   ·refine eqN (n:=240) (fun e=>Za (Za (Za (lf 4 144 191 (c240 e))))) fun n240=>?_
    refine Zi (p:=(c.toNat:Int)≥241) (fun g241=>Zd (Zi (p:=(c.toNat:Int)≤243) (fun g243=>?_) fun g243=>?_)) fun g241=>?_
    ·exact Za (Za (Za (lf 4 128 191 (c241 (by omega)))))
    ·exact eqN (n:=244) (fun e=>Za (Za (Za (lf 4 128 143 (c244 e))))) fun n244=>Za (Za (Za (lf 0 0 0 (fin4 n244 n240 (by omega) n224 n237 (by omega)))))
    ·exact eqN (n:=244) (fun e=>Za (Za (Za (lf 4 128 143 (c244 e))))) fun n244=>Za (Za (Za (lf 0 0 0 (fin4 n244 n240 (by omega) n224 n237 (by omega)))))
  ·refine eqN (n:=240) (fun e=>Za (Za (Za (lf 4 144 191 (c240 e))))) fun n240=>?_
   refine Zi (p:=(c.toNat:Int)≥241) (fun g241=>Zd (Zi (p:=(c.toNat:Int)≤243) (fun g243=>?_) fun g243=>?_)) fun g241=>?_
   ·exact Za (Za (Za (lf 4 128 191 (c241 (by omega)))))
   ·exact eqN (n:=244) (fun e=>Za (Za (Za (lf 4 128 143 (c244 e))))) fun n244=>Za (Za (Za (lf 0 0 0 (fin4 n244 n240 (by omega) n224 n237 (by omega)))))
   ·exact eqN (n:=244) (fun e=>Za (Za (Za (lf 4 128 143 (c244 e))))) fun n244=>Za (Za (Za (lf 0 0 0 (fin4 n244 n240 (by omega) n224 n237 (by omega)))))
end
def ZoZ:BL→Out BL
  | []=> .err 24 []
  | c::l=>if c=34 then Zgo l else .err 20 (c::l)
section
variable {h:Ze} {R:Nat} {s:ByteArray} {l:BL}
theorem cEq {c:UInt8} {n:Int} (d:UInt8) (hn:n=(d.toNat:Int)) {A B:Prop} (ha:c=d→A) (hb:c≠d→B):ZF (((c.toNat:Nat):Int) ==n) fun t=>Zp t A B:=by
  subst hn
  exact Zd (Yj (fun e=>ha (Za1 e)) fun e=>hb (ZcF e))
theorem Zk8 (hr:Rf h R s 0 l) (hR:9≤R) {K:ByteArray→HP}
    (hk:∀ (o:ByteArray) h',Zcc h' R s (Zh7 l)→(∀ t r,Zh7 l = .ok t r→o=Zc t)→o.size≤4→Upd (· = R) h h'→K o h'):Yc (At R) K h:=by
  unfold Yc Y7
  have hRs:=hr.lt
  refine ZcY hr (Za (Ze4 hr (fun he=>?_) fun hne=>?_))
  ·subst he
   refine Y4 (α:=BL) hr (e:=24) (by decide) rfl fun h1 o1 u1 z1=>hk _ h1 o1 (fun t r ht=>by cases ht) (by decide) u1
  obtain ⟨c,l1,rfl⟩:=List.exists_cons_of_ne_nil hne
  have hz:Xp (c::l1)=(c.toNat:Int):=rfl
  generalize Xp (c::l1)=z at hz ⊢
  subst hz
  have hll:=hr.len
  have sign:∀ {h1:Ze} {o:ByteArray} {m:UInt8},ZaO c=some m→o=Zc [m]→Ext h h1→Zb (At R) fun b53 o54=>ldI h1 b53 (o54+1) .i64 fun t55=>Zb (At R) fun b56 o57=>st h1 b56 (o57+1) (.int .i64 (IntKind.wrap .i64 (t55+1))) fun h58=>K o h58:=fun {h1 o m} hm ho e1 =>
    Zbv (hr.ext e1) fun h2 r2 u2 z2=>by
     have hq:Zh7 (c::l1) = .ok [m] l1:=by rw [Zdi,hm]
     exact hk o h2 (by rw [hq];exact r2) (fun t r ht=>by rw [hq] at ht;cases ht;exact ho) (by rw [ho,Yk];simp) (UN e1 u2)
  refine Zm (fun p h'=>∃ m,ZaO c=some m∧p.1=Zc [m]∧Ext h h') ?_ ?_
  ·rintro ⟨o,u⟩ h1 ⟨m,hm,ho,e1⟩
   exact sign hm ho e1
  refine Zm (fun p h'=>h'=h∧(p.1=true↔c=34∨c=92∨c=47)) ?_ ?_
  ·rintro ⟨b,u⟩ h1 ⟨rfl,hb⟩
   dsimp only at hb ⊢
   cases hbb:b with
   | true =>
     have hm:ZaO c=some c:=by
       rcases hb.1 hbb with rfl | rfl | rfl<;>rfl
     refine Zn rfl (Zu2 [c] 1 rfl rfl (by decide) fun b1 h2 hr2 e2 _=>Zlm hr2 ⟨c,hm,rfl,e2⟩)
   | false =>
     have hn:c≠34∧c≠92∧c≠47:=by
       have h9:¬ (c=34∨c=92∨c=47):=fun e=>by have:=hb.2 e;rw [hbb] at this;cases this
       exact ⟨fun e=>h9 (.inl e),fun e=>h9 (.inr (.inl e)),fun e=>h9 (.inr (.inr e))⟩
     obtain ⟨n34,n92,n47⟩:=hn
     refine Zl rfl (cEq 98 rfl (fun e=>⟨8,by rw [e];rfl,rfl,Ext.refl _⟩) fun n98=>cEq 102 rfl (fun e=>⟨12,by rw [e];rfl,rfl,Ext.refl _⟩) fun n102=>cEq 110 rfl (fun e=>⟨10,by rw [e];rfl,rfl,Ext.refl _⟩) fun n110 =>
       cEq 114 rfl (fun e=>⟨13,by rw [e];rfl,rfl,Ext.refl _⟩) fun n114=>cEq 116 rfl (fun e=>⟨9,by rw [e];rfl,rfl,Ext.refl _⟩) fun n116=>cEq 117 rfl (fun e=>?_) fun n117=>?_)
     ·subst e
      have hq:Zh7 (117::l1)=(ZbN 4 0 l1).bind fun n l1=>match (if ZgB n then Zhx l1 else none) with
          | some (m,l3)=> .ok (ZbB (ZeQ n m)) l3
          | none=> .ok (ZbB (ZdA n)) l1:=by rw [Zdi,ZpE];simp only [↓reduceIte];rfl
      refine Zbv hr fun h2 r2 u2 z2=>Zk3 r2 fun n h3 o3 hok herr u3 z3=>Za ?_
      have u13:=u2.trans u3
      have done:∀ {h4:Ze} {k:Nat},k<1114112→Zcc h4 R s (Zh7 (117::l1))→(∀ t r,Zh7 (117::l1) = .ok t r→t=ZbB k)→Upd (· = R) h1 h4→YT (k:Int) (fun t48 h49=>K t48 h49) h4:=fun {h4 k} hk9 o4 ht u4 =>
        ZqR hk9 rfl fun h5 e5=>hk _ h5 (by
         rcases Zck o4 with ⟨a,r,q,r4⟩ | ⟨e,r,q,he,r4⟩
         ·rw [q];exact r4.ext e5
         ·rw [q];exact ⟨he,r4.ext e5⟩) (fun t r hh=>by rw [ht t r hh]) (ZdY k) (u4.trans (e5.upd _))
      rcases Zck o3 with ⟨m,r,q,r3⟩ | ⟨e,r,q,he,r3⟩
      ·have hn:=hok m r q
       subst hn
       have hm:=ZhG 4 q
       have hm:m<65536:=by omega
       rw [q] at hq
       have hq:Zh7 (117::l1)=match (if ZgB m then Zhx r else none) with
         | some (m',l3)=> .ok (ZbB (ZeQ m m')) l3
         | none=> .ok (ZbB (ZdA m)) r:=hq
       refine Zm (fun _ h'=>Ext h3 h'∧Zh7 (117::l1) = .ok (ZbB (ZdA m)) r) ?_ ?_
       ·rintro ⟨⟩ h4 ⟨e4,q4⟩
        have o4:Zcc h4 R s (Zh7 (117::l1)):=by rw [q4];exact r3.ext e4
        have ht4:∀ t r',Zh7 (117::l1) = .ok t r'→t=ZbB (ZdA m):=fun t r' hh=>by rw [q4] at hh;cases hh;rfl
        have u4:=u13.trans (e4.upd _)
        refine Zm (fun _ h'=>h'=h4∧ZdA m=m) ?_ ?_
        ·rintro ⟨⟩ h5 ⟨rfl,hf⟩
         rw [hf] at ht4
         exact done (k:=m) (by omega) o4 ht4 u4
        ·refine Zi (p:=(m:Int)≥55296) (fun g1=>Zi (p:=(m:Int)≤57343) (fun g2=>?_) fun g2=>⟨rfl,?_⟩) fun g1=>⟨rfl,?_⟩
         ·have hf:ZdA m=65533:=by unfold ZdA;rw [if_pos (by omega)]
          rw [hf] at ht4
          exact done (k:=65533) (by omega) o4 ht4 u4
         ·unfold ZdA;rw [if_neg (by omega)]
         ·unfold ZdA;rw [if_neg (by omega)]
       ·have nolow:∀ {x:Option (Nat × BL)},(if ZgB m then Zhx r else none)=x→x=none→Zh7 (117::l1) = .ok (ZbB (ZdA m)) r:=fun hx hx2=>by rw [hq,hx,hx2]
        refine Zi (p:=(m:Int)≥55296) (fun g1=>Zi (p:=(m:Int)≤56319) (fun g2=>?_) fun g2=>⟨Ext.refl _,nolow (by rw [if_neg (by simp [ZgB];omega)]) rfl⟩) fun g1=>⟨Ext.refl _,nolow (by rw [if_neg (by simp [ZgB];omega)]) rfl⟩
        have hhi:ZgB m=true:=by simp [ZgB];omega
        refine Zrt r3 fun h4 e4=>Za ?_
        cases hlb:Zhx r with
        | none =>
          exact Zl (by simp) ⟨e4,nolow (by rw [if_pos hhi];exact hlb) rfl⟩
        | some p =>
          obtain ⟨m2,l3⟩:=p
          dsimp only
          have hbl:∃ l2,XH r=some l2∧ZbN 4 0 l2 = .ok m2 l3∧Zkn m2=true:=by
            unfold Zhx at hlb
            cases hb:XH r with
            | none=>rw [hb] at hlb;cases hlb
            | some l2 =>
              rw [hb] at hlb
              simp only at hlb
              cases hx:ZbN 4 0 l2 with
              | err e q=>rw [hx] at hlb;cases hlb
              | ok k l4 =>
                rw [hx] at hlb
                simp only at hlb
                split at hlb
                ·rename_i hlo
                 cases hlb
                 exact ⟨l2,rfl,hx,hlo⟩
                ·cases hlb
          obtain ⟨l2,hb2,hx2,hlo⟩:=hbl
          have hrr:=XR hb2
          have hxl:=Zap 4 hx2
          have hlo':56320≤m2∧m2<57344:=by simpa [Zkn] using hlo
          have hdrop:r.drop 6=l3:=by
            obtain ⟨z,hz⟩:=hxl.2
            have hzl:z.length=4:=by have:=congrArg List.length hz;simp at this;omega
            rw [hrr,← hz]
            show (z++l3).drop 4=l3
            rw [← hzl,List.drop_left]
          refine Zn (by simp;omega) (Zs0 (r3.ext e4) (m:=6) rfl (by rw [hrr];simp;omega) fun h5 r5 u5 z5=>⟨by decide,?_⟩)
          rw [hdrop] at r5
          have hq2:Zh7 (117::l1) = .ok (ZbB (ZeQ m m2)) l3:=by rw [hq,if_pos hhi,hlb]
          have hp9:ZeQ m m2<1114112:=by unfold ZeQ;omega
          have hv:IntKind.wrap .i64 ((IntKind.wrap .i64 ((IntKind.wrap .i64 ((65536:Int)+(ZmF .i64 (IntKind.wrap .i64 ((m:Int) - 55296)) 10)))+(m2:Int))) - 56320)=((ZeQ m m2:Nat):Int):=by
            have hsh:ZmF .i64 ((m - 55296:Nat):Int) 10=(((m - 55296)*1024:Nat):Int):=by
              unfold ZmF
              rw [show min (10:Int).toNat IntKind.i64.bits=10 from rfl,show (2:Int) ^ 10=1024 from rfl,ZG (by omega) (by omega)]
              omega
            rw [ZG (n:=(m:Int) - 55296) (by omega) (by omega),show (m:Int) - 55296=((m - 55296:Nat):Int) by omega,hsh,ZG (n:=65536+_) (by omega) (by omega),ZG (n:=_+(m2:Int)) (by omega) (by omega),ZG (by omega) (by omega)]
            unfold ZeQ
            omega
          rw [hv]
          generalize ZeQ m m2=pn at hq2 hp9 ⊢
          exact done (k:=pn) hp9 (by rw [hq2];exact r5) (fun t r' hh=>by rw [hq2] at hh;injection hh with e1 _;exact e1.symm) ((u13.trans (e4.upd _)).trans u5)
      ·have hn:=herr e r q
       subst hn
       have hq9:Zh7 (117::l1) = .err e r:=by rw [hq,q];rfl
       refine Zm (fun _ h'=>h'=h3) ?_ (Zl (by decide) rfl)
       rintro ⟨⟩ h4 rfl
       refine Zm (fun _ h'=>h'=h4) ?_ (Zl (by decide) rfl)
       rintro ⟨⟩ h5 rfl
       exact done (k:=0) (by omega) (by rw [hq9];exact ⟨he,r3⟩) (fun t r' hh=>by rw [hq9] at hh;cases hh) u13
     ·refine Y4 (α:=BL) hr (e:=22) (by decide) rfl fun h2 o2 u2 z2=>?_
      have hm:ZaO c=none:=by
        unfold ZaO
        rw [if_neg n34,if_neg n92,if_neg n47,if_neg n98,if_neg n102,if_neg n110,if_neg n114,if_neg n116]
      have hq:Zh7 (c::l1) = .err 22 (c::l1):=by rw [Zdi,hm];simp only;rw [if_neg n117]
      exact hk _ h2 (by rw [hq];exact o2) (fun t r hh=>by rw [hq] at hh;cases hh) (by decide) u2
  ·refine cEq 34 rfl (fun e=>⟨rfl,by simp [e]⟩) fun n34=>cEq 92 rfl (fun e=>⟨rfl,by simp [e]⟩) fun n92=>Zd ⟨rfl,?_⟩
   simp only [n34,n92,false_or]
   constructor
   ·intro hb;exact Za1 (d:=47) (beq_iff_eq.1 hb)
   ·rintro rfl;rfl
def ZqL (c:UInt8) (l:BL):Out Unit:=if c.toNat<32 then .err 22 (c::l) else XT (c::l)
theorem Zoj {c:UInt8} (hr:Rf h R s 0 (c::l)) {K:HP} (hk:∀ h',Zcc h' R s (ZqL c l)→Upd (· = R) h h'→sz h'=sz h→K h'):Z2 (At R) K h:=by
  unfold Z2 YQ
  refine ZcY hr (ZmC (c:=c) rfl (Za (Za (Za ?_))))
  by_cases h0:nRb c=0
  ·refine Zn (by rw [h0];rfl) (Y4 (α:=Unit) hr (e:=22) (by decide) rfl fun h1 o1 u1 z1=>hk h1 ?_ u1 z1)
   unfold ZqL
   split
   ·exact o1
   ·rw [Zbr,if_pos h0];exact o1
  ·refine Zl (beq_eq_false_iff_ne.2 (by omega)) (ZcY hr (Zi (p:=(c.toNat:Int)<32) (fun h32=>?_) fun h32=>?_))
   ·refine Y4 (α:=Unit) hr (e:=22) (by decide) rfl fun h1 o1 u1 z1=>hk h1 ?_ u1 z1
    unfold ZqL
    rw [if_pos (by omega)];exact o1
   ·have hq:ZqL c l=Zb0 (nRb c - 1) (loR c) (hiR c) l:=by
      unfold ZqL
      rw [if_neg (by omega),Zbr,if_neg h0]
    rw [hq] at hk
    have hn4:=Zu4 c
    refine Zbv hr fun h1 r1 u1 z1=>Za ?_
    refine ZB (fun p h'=>∃ (lo hi k:Nat) (l':BL),p.1=lo∧p.2.1=hi∧p.2.2.1=((nRb c - k:Nat):Int)∧k<nRb c∧Zb0 k lo hi l'=Zb0 (nRb c - 1) (loR c) (hiR c) l∧Rf h' R s 0 l'∧Upd (· = R) h h'∧sz h'=sz h) (fun p _=>(5 - p.2.2.1).toNat)
      ⟨loR c,hiR c,nRb c - 1,l,rfl,rfl,by rw [show nRb c - (nRb c - 1)=1 by omega];rfl,by omega,rfl,r1,u1,z1⟩ ?_
    rintro ⟨lo0,hi0,i0,u⟩ h2 ⟨lo,hi,k,l2,e1,e2,e3,hk4,q2,r2,u2,z2⟩
    dsimp only at e1 e2 e3 ⊢
    subst e1 e2 e3
    refine Zi (p:=((nRb c - k:Nat):Int)<(nRb c:Int)) (fun hlt=>?_) fun hge=>?_
    ·obtain ⟨k,rfl⟩:∃ k',k=k'+1:=⟨k - 1,by omega⟩
     refine Ze4 r2 (fun he=>?_) fun hne=>?_
     ·subst he
      refine Y4 (α:=Unit) r2 (e:=22) (by decide) rfl fun h3 o3 u3 z3=>hk h3 (by rw [← q2];exact o3) (u2.trans u3) (z3.trans z2)
     ·obtain ⟨d,l3,rfl⟩:=List.exists_cons_of_ne_nil hne
      have bad:¬ (lo≤d.toNat∧d.toNat≤hi)→Zh (At R) 22 (fun h28=>K h28) h2:=fun hb =>
        Y4 (α:=Unit) r2 (e:=22) (by decide) rfl fun h3 o3 u3 z3=>hk h3 (by
         rw [← q2]
         show Zcc h3 R s (if lo≤d.toNat∧d.toNat≤hi then _ else _)
         rw [if_neg hb];exact o3) (u2.trans u3) (z3.trans z2)
      refine ZjR r2 ?_
      show Zp (decide ((d.toNat:Int)<(lo:Int))) _ _
      refine Zi (fun hlo=>bad (by omega)) fun hlo=>ZjR r2 ?_
      show Zp (decide ((d.toNat:Int)>(hi:Int))) _ _
      refine Zi (fun hhi=>bad (by omega)) fun hhi=>Zbv r2 fun h3 r3 u3 z3=>Za (Za (Za ?_))
      rw [ZG (by omega) (by omega)]
      refine ⟨⟨128,191,k,l3,rfl,rfl,by omega,by omega,?_,r3,u2.trans u3,z3.trans z2⟩,by omega⟩
      rw [← q2]
      show _=(if lo≤d.toNat∧d.toNat≤hi then _ else _)
      rw [if_pos (by omega)]
    ·obtain rfl:k=0:=by omega
     exact hk h2 (by rw [← q2];exact r2) u2 z2
end
def ZjU (h:Ze) (R:Nat):Nat:=match obj h R with
  | some (.cells c _ _)=>(match c.toList with
    | [.string s,.int _ n,.int _ e]=>2*(s.size - n.toNat)+(if e=0 then 1 else 0)
    | _=>0)
  | _=>0
theorem Rf.left {h:Ze} {R e:Nat} {s:ByteArray} {l:BL} (hr:Rf h R s e l):ZjU h R=2*l.length+(if e=0 then 1 else 0):=by
  obtain ⟨_,n,b,g⟩:=hr
  unfold ZjU
  rw [b]
  have:=g.len
  simp
  omega
theorem Zj8 {l o r:BL} (h:Zh7 l = .ok o r):o.length+r.length≤l.length∧r <:+l:=by
  rcases l with _ | ⟨c,l⟩
  ·cases h
  ·rw [Zdi] at h
   cases hm:ZaO c with
   | some m=>rw [hm] at h;cases h;exact ⟨by simp;omega,List.suffix_cons _ _⟩
   | none =>
     rw [hm] at h
     simp only at h
     split at h
     ·obtain ⟨n,l1,h1,h2⟩:=ZO h
      obtain ⟨a1,b1⟩:=Zap 4 h1
      cases hb:(if ZgB n=true then Zhx l1 else none) with
      | none =>
        simp only [hb] at h2
        injection h2 with e1 e2
        subst e1 e2
        have:=ZdY (ZdA n)
        exact ⟨by simp;omega,Xf b1⟩
      | some p =>
        obtain ⟨m,l3⟩:=p
        simp only [hb] at h2
        injection h2 with e1 e2
        subst e1 e2
        have hb':Zhx l1=some (m,l3):=by
          split at hb
          ·exact hb
          ·cases hb
        have hll:=Zru hb'
        have hsuf:l3 <:+l1:=by
          unfold Zhx at hb'
          cases hx:XH l1 with
          | none=>rw [hx] at hb';cases hb'
          | some l2 =>
            rw [hx] at hb'
            simp only at hb'
            cases hy:ZbN 4 0 l2 with
            | err e q=>rw [hy] at hb';cases hb'
            | ok k l4 =>
              rw [hy] at hb'
              simp only at hb'
              split at hb'
              ·cases hb'
               rw [XR hx]
               exact Xf (Xf (Zap 4 hy).2)
              ·cases hb'
        have:=ZdY (ZeQ n m)
        exact ⟨by simp;omega,Xf (hsuf.trans b1)⟩
     ·cases h
theorem ZtD (out:BL) (c:UInt8) (l:BL):T none out (c::l) =
    if c=34 then .ok out l
    else if c=92 then (Zh7 l).bind fun o l2=>T none (out++o) l2
    else (ZcM (fun _=>ZqL c l) (c::l)).bind fun x l2=>T none (out++x) l2:=by
  have h0:T none out (c::l)=Zky ((c::l).length+1) out (c::l):=(Zlx _ _ (Nat.lt_succ_self _) out).symm
  rw [h0,ZiB]
  have go:∀ {o:BL} {l2:BL},l2.length<(c::l).length→Zky (c::l).length (out++o) l2=T none (out++o) l2:=fun hl=>by
    rw [Zlx _ _ hl];exact Znp hl
  split
  ·rfl
  split
  ·cases h:Zh7 l with
   | err e r=>rfl
   | ok o r=>exact go (by have:=(Zj8 h).2.length_le;simp;omega)
  unfold ZcM ZqL
  split
  ·rfl
  ·cases h:XT (c::l) with
   | err e r=>rfl
   | ok o r=>exact go (by have:=(Za3 h).1;simpa using this)
section
variable {h:Ze} {R:Nat} {s:ByteArray} {l:BL}
theorem ZiD (hr:Rf h R s 0 l) (hR:9≤R) {K:ByteArray→HP} (hk:∀ (o:BL) h',Zcc h' R s (ZoZ l)→(∀ t r,ZoZ l = .ok t r→o=t)→Upd (· = R) h h'→K (Zc o) h'):ZS (At R) K h:=by
  unfold ZS Xy
  have hll:=hr.len
  refine ZfE hr (c:=34) rfl (by decide) fun h1 o1 u1 z1=>?_
  refine ZB (fun p h'=>∃ out:BL,p.1=Zc out∧Upd (· = R) h h'∧((∃ l',Rf h' R s 0 l'∧ZoZ l=T none out l'∧out.length+l'.length≤65536)∨(out.length≤70000∧∃ e r,e≠0∧Rf h' R s e r∧ZoZ l = .err e r))) (fun _ h'=>ZjU h' R) ?_ ?_
  ·refine ⟨[],rfl,u1,?_⟩
   rcases l with _ | ⟨c,l⟩
   ·exact .inr ⟨by decide,24,[],by decide,o1.2,rfl⟩
   ·have hw:Xo [34] (c::l)=if c=34 then .ok () l else .err 20 (c::l):=rfl
    have hq:ZoZ (c::l)=if c=34 then Zgo l else .err 20 (c::l):=rfl
    rw [hw] at o1
    by_cases hc:c=34
    ·rw [if_pos hc] at o1 hq
     exact .inl ⟨l,o1,by rw [hq,Zd3],by simp at hll ⊢;omega⟩
    ·rw [if_neg hc] at o1 hq
     exact .inr ⟨by decide,20,c::l,by decide,o1.2,hq⟩
  ·rintro ⟨o,u⟩ h2 ⟨out,ho,u2,hc⟩
   dsimp only at ho ⊢
   subst ho
   rcases hc with ⟨l2,r2,q2,n2⟩ | ⟨hs,e,r,he,r2,q2⟩
   ·refine Zih r2 (Zou (Ze4 r2 (fun he=>?_) fun hne=>?_))
    ·subst he
     refine Y4 (α:=BL) r2 (e:=24) (by decide) rfl fun h3 o3 u3 z3=>hk [] h3 ?_ (fun t r ht=>by rw [q2] at ht;cases ht) (u2.trans u3)
     rw [q2];exact o3
    ·obtain ⟨c,l3,rfl⟩:=List.exists_cons_of_ne_nil hne
     have hq:=ZtD out c l3
     have hlen:=r2.len
     simp only [List.length_cons] at n2
     refine ZcY r2 (Za ?_)
     have hz:Xp (c::l3)=(c.toNat:Int):=rfl
     rw [hz]
     refine Yj (fun h34=>?_) fun h34=>Yj (fun h92=>?_) fun h92=>?_
     ·rw [if_pos (Za1 (d:=34) h34)] at hq
      refine Zbv r2 fun h3 r3 u3 z3=>hk out h3 (by rw [q2,hq];exact r3) (fun t r ht=>by rw [q2,hq] at ht;cases ht;rfl) (u2.trans u3)
     all_goals rw [if_neg (ZcF (d:=34) h34)] at hq
     ·rw [if_pos (Za1 (d:=92) h92)] at hq
      refine Zbv r2 fun h3 r3 u3 z3=>Zk8 r3 hR fun o h4 o4 ht4 hs4 u4=>?_
      obtain ⟨ol,rfl⟩:∃ ol,o=Zc ol:=⟨o.data.toList,by simp⟩
      rw [Yk] at hs4
      refine Zc3 (by omega) ⟨⟨out++ol,rfl,(u2.trans u3).trans u4,?_⟩,?_⟩
      ·rcases Zck o4 with ⟨a,r,q,r4⟩ | ⟨e,r,q,he,r4⟩
       ·have e1:=ht4 a r q
        have e2:ol=a:=by
          have:=congrArg (fun b:ByteArray=>b.data.toList) e1
          simpa [Zc] using this
        subst e2
        have:=Zj8 q
        exact .inl ⟨r,r4,by rw [q2,hq,q];rfl,by simp;omega⟩
       ·exact .inr ⟨by simp;omega,e,r,he,r4,by rw [q2,hq,q];rfl⟩
      ·rw [r2.left]
       rcases Zck o4 with ⟨a,r,q,r4⟩ | ⟨e,r,q,he,r4⟩
       ·have:=(Zj8 q).2.length_le
        rw [r4.left];simp;omega
       ·have h5:=r4.left
        have hsuf:r.length≤l3.length:=by
          have hg:ZcM Zh7 l3=ZcM Zh7 l3:=rfl
          rcases l3 with _ | ⟨d,l3⟩
          ·cases q;simp
          ·rw [Zdi] at q
           cases hm:ZaO d with
           | some m=>rw [hm] at q;cases q
           | none =>
             rw [hm] at q
             simp only at q
             split at q
             ·cases hx:ZbN 4 0 l3 with
              | err e' q' =>
                rw [hx] at q;cases q
                have:=((ZgO 4 0).1.sf.esuf hx).1.length_le
                simp;omega
              | ok k l5 =>
                rw [hx] at q
                simp only [Out.bind_ok] at q
                split at q<;>cases q
             ·cases q;exact Nat.le_refl _
        rw [h5,if_neg he,if_pos rfl];simp;omega
     ·rw [if_neg (ZcF (d:=92) h92)] at hq
      refine Zf4 r2 fun n0 g0=>Za (Zoj r2 fun h3 o3 u3 z3=>?_)
      have pass:∀ {e:Nat} {r:BL},Rf h3 R s e r→r <:+c::l3→(∀ x:BL,c::l3=x++r→(∃ out',Zc (out++x)=Zc out'∧Upd (· = R) h h3∧((∃ l',Rf h3 R s 0 l'∧ZoZ l=T none out' l'∧out'.length+l'.length≤65536)∨(out'.length≤70000∧∃ e r,e≠0∧Rf h3 R s e r∧ZoZ l = .err e r)))∧ZjU h3 R<ZjU h2 R) →
          Zb (At R) fun b32 o33=>ldS h3 b32 o33 fun t34=>Zb (At R) fun b35 o36=>ldI h3 b35 (o36+1) .i64 fun t37=>ZfW t34 n0 t37 fun t38=>Zkg (Zc out) t38 fun s39=>(∃ out',s39=Zc out'∧Upd (· = R) h h3∧((∃ l',Rf h3 R s 0 l'∧ZoZ l=T none out' l'∧out'.length+l'.length≤65536)∨(out'.length≤70000∧∃ e r,e≠0∧Rf h3 R s e r∧ZoZ l = .err e r)))∧ZjU h3 R<ZjU h2 R:=fun {e r} r3 hsuf hx=>by
        obtain ⟨x,hx9⟩:=hsuf
        have hxl:=congrArg List.length hx9
        simp only [List.length_append,List.length_cons] at hxl
        refine ZqJ r3 (Zf4 r3 fun n3 g3=>?_)
        have hle:n0≤n3:=by have:=g0.len;have:=g3.len;simp at *;omega
        refine ⟨by omega,by omega,by have:=g3.len;omega,?_⟩
        rw [Int.toNat_natCast,Int.toNat_natCast,g0.extract g3 hle,← hx9,XI]
        exact Zc3 (by omega) (hx x hx9.symm)
      rcases Zck o3 with ⟨_,r,q,r3⟩ | ⟨e,r,q,he,r3⟩
      ·have hc32:¬ c.toNat<32:=fun h9=>by unfold ZqL at q;rw [if_pos h9] at q;cases q
       have hrune:XT (c::l3) = .ok () r:=by unfold ZqL at q;rw [if_neg hc32] at q;exact q
       have hrl:=Za3 hrune
       refine pass r3 hrl.2 fun x hx=>⟨⟨out++x,rfl,u2.trans u3,.inl ⟨r,r3,?_,?_⟩⟩,?_⟩
       ·rw [q2,hq]
        unfold ZcM
        rw [q]
        simp only [Out.bind_ok]
        rw [hx,XI]
       ·have:=congrArg List.length hx
        simp only [List.length_append,List.length_cons] at this
        simp;omega
       ·rw [r2.left,r3.left]
        have:=hrl.1
        simp at this ⊢;omega
      ·have hsuf:r <:+c::l3:=by
         unfold ZqL at q
         split at q
         ·cases q;exact List.suffix_refl _
         ·exact (Zc6.1.sf.esuf q).1
       refine pass r3 hsuf fun x hx=>⟨⟨out++x,rfl,u2.trans u3,.inr ⟨?_,e,r,he,r3,?_⟩⟩,?_⟩
       ·have:=congrArg List.length hx
        simp only [List.length_append,List.length_cons] at this
        simp;omega
       ·rw [q2,hq]
        unfold ZcM
        rw [q];rfl
       ·have:=hsuf.length_le
        rw [r2.left,r3.left,if_neg he,if_pos rfl];simp at this ⊢;omega
   ·exact Zih r2 (ZtO he (hk [] h2 (by rw [q2];exact ⟨he,r2⟩) (fun t r ht=>by rw [q2] at ht;cases ht) u2))
theorem Zcc.ext {α:Type} {h':Ze} {x:Out α} (o:Zcc h R s x) (u:Ext h h'):Zcc h' R s x:=by
  cases x with
  | ok a r=>exact Rf.ext o u
  | err e r=>exact ⟨o.1,o.2.ext u⟩
theorem Zcc.upd {α:Type} {S:Nat→Prop} {h':Ze} {x:Out α} (o:Zcc h R s x) (u:Upd S h h') (hS:¬ S R):Zcc h' R s x:=by
  cases x with
  | ok a r=>exact Rf.upd o u hS
  | err e r=>exact ⟨o.1,o.2.upd u hS⟩
theorem Zkh {α:Type} {x:Out α} (o:Zcc h R s x) {K:HP} (hk:∀ h',Zcc h' R s (x.bind fun a r=> .ok a (ZI r))→Upd (· = R) h h'→sz h'=sz h→K h'):Zq (At R) K h:=by
  cases x with
  | ok a r=>exact Zc4 o fun h' r' u z=>hk h' r' u z
  | err e r=>exact Zll o.2 o.1 (hk h o (Upd.refl _ _) rfl)
theorem ZwZ {α:Type} {x:Out α} (o:Zcc h R s x) {c:UInt8} {n:Int} (hn:n=c.toNat) (hc:0<c.toNat) {K:HP} (hk:∀ h',Zcc h' R s (x.bind fun a r=>(Xo [c] r).bind fun _ r'=> .ok a r')→Upd (· = R) h h'→sz h'=sz h→K h'):Zu (At R) n K h:=by
  cases x with
  | ok a r =>
    refine ZfE o hn hc fun h' o' u z=>hk h' ?_ u z
    simp only [Out.bind_ok]
    cases hw:Xo [c] r with
    | ok b r'=>rw [hw] at o';exact o'
    | err e r'=>rw [hw] at o';exact o'
  | err e r=>exact Zgb o.2 o.1 (hk h o (Upd.refl _ _) rfl)
theorem Zw0 {α:Type} {x:Out α} (o:Zcc h R s x) {c:UInt8} {n:Int} (hn:n=c.toNat) (hc:0<c.toNat) {K:Bool→HP}
    (ht:∀ a r r' h',x = .ok a r→ZI r=44::r'→Rf h' R s 0 r'→Upd (· = R) h h'→sz h'=sz h→K true h')
    (hf:∀ h',(∀ a r,x = .ok a r→∀ r',ZI r≠44::r')→Zcc h' R s (x.bind fun a r=>(Xo [c] (ZI r)).bind fun _ r'=> .ok a r')→Upd (· = R) h h'→sz h'=sz h→K false h'):ZR (At R) n K h:=by
  unfold ZR Xz
  refine Zkh o fun h1 o1 u1 z1=>?_
  cases x with
  | err e r =>
    have o1:Zcc h1 R s (.err e r:Out α):=o1
    refine Zm (fun _ h'=>h'=h1) ?_ (Zih o1.2 (ZtO o1.1 rfl))
    rintro ⟨⟩ h2 rfl
    exact Zgb o1.2 o1.1 (hf _ (fun a r h=>by cases h) o1 u1 z1)
  | ok a r =>
    have r1:Rf h1 R s 0 (ZI r):=o1
    refine Zm (fun _ h'=>h'=h1∧∀ r',ZI r≠44::r') ?_ ?_
    ·rintro ⟨⟩ h2 ⟨rfl,hne⟩
     refine ZfE r1 hn hc fun h3 o3 u3 z3=>hf h3 (fun a' r' hx=>by cases hx;exact hne) ?_ (u1.trans u3) (z3.trans z1)
     simp only [Out.bind_ok]
     cases hw:Xo [c] (ZI r) with
     | ok b r'=>rw [hw] at o3;exact o3
     | err e r'=>rw [hw] at o3;exact o3
    ·refine Zih r1 (Zou (ZjR r1 ?_))
     refine ZbO 44 (fun l' e=>?_) fun hn4=>⟨rfl,fun r' e=>hn4 44 r' e rfl⟩
     rw [e] at r1
     exact ZaS r1 (fun _=>Zbv r1 fun h2 r2 u2 z2=>ht a r l' h2 rfl e r2 (u1.trans u2) (z2.trans z1)) fun h=>by cases h
end
theorem Zom {h:Ze} {b k:Nat} {ns:List BL} {sub:JL} {x y:Sl} {cx:List Value} (c:obj h b=some (.cells (XX ((k:Int),Zc [],x,y,())).toArray 33 (0,0)))
    (ox:Own h (b+1) x 4 cx) (oy:Own h (b+1) y 1 (ns.map sV)) (lr:Za7 h (fun j=>b+1≤j∧j<sz h∧x.blk≠some j∧y.blk≠some j) sub cx) (ne:∀ j,x.blk=some j→y.blk≠some j)
    {z:VT5} {v:JV} {Se:Nat→Prop} (hv:Zbo h Se z v) (hSe:∀ j,Se j→b+1≤j∧j<sz h∧x.blk≠some j∧y.blk≠some j) (hs:sub.len≤100000) {K:HP}
    (hk:∀ h',PS h' b k ns (sub.snoc v)→Upd (fun j=>b≤j) h h'→K h') :
    Fw.app 33 4 72 zV x 1 (XX z) h fun t48 h49=>st h49 b (0+2) (.slice t48.ptr t48.len t48.cap) K:=by
  have hb:=ZbI c
  have hlx:x.len=sub.len:=by have:=ox.len;have:=lr.len;omega
  refine ox.app rfl (Zb5 z) rfl (by omega) (by omega) (by have:sz h=h.size:=rfl;omega) fun x' h1 o1 l1 u1 bl1=>?_
  have hsz:sz h≤sz h1:=u1.size
  have c1:obj h1 b=some (.cells (XX ((k:Int),Zc [],x,y,())).toArray 33 (0,0)):=Yx c u1 fun e1=>by have:=(ox.lt e1).1;omega
  refine Zkm c1 (by simp [XX]) Zhq fun h9 c9 u9 z9=>?_
  have hold:∀ j,j<sz h→j≠b→x.blk≠some j→obj h9 j=obj h j:=fun j hj hjb hjx=>(ZY u9 (by omega) hjb).trans (ZY u1 hj hjx)
  have hnew:∀ j,x'.blk=some j→x.blk=some j∨sz h≤j:=fun j hj=>by
    rcases bl1 with e1 | e1
    ·left;rw [← e1,hj]
    ·right;rw [hj] at e1;cases e1;exact Nat.le_refl _
  refine hk h9 ⟨x',y,cx++XX z,c9,?_,?_,?_,?_⟩ ⟨by have:sz h9=h9.size:=rfl;have:sz h=h.size:=rfl;omega,fun j hj hbj=>hold j hj (by omega) fun e1=>by have:=(ox.lt e1).1;omega⟩
  ·exact o1.congr fun j _ hl hbj=>ZY u9 hl (by omega)
  ·exact oy.congr fun j hj hl hbj=>hold j hl (by omega) fun e1=>ne j e1 hj
  ·have h1:Za7 h9 (fun j=>b+1≤j∧j<sz h9∧x'.blk≠some j∧y.blk≠some j) sub cx:=lr.keep (fun j hj hl=>hold j hl (by omega) hj.2.2.1) fun j hj=>⟨hj.1,by omega,fun e1=>by
     rcases hnew j e1 with e2 | e2
     ·exact hj.2.2.1 e2
     ·omega,hj.2.2.2⟩
   refine h1.snoc (hv.keep (fun j hj hl=>?_) fun j hj=>?_)
   ·have:=hSe j hj
    exact hold j hl (by omega) this.2.2.1
   ·have:=hSe j hj
    refine ⟨this.1,by omega,fun e1=>?_,this.2.2.2⟩
    rcases hnew j e1 with e2 | e2
    ·exact this.2.2.1 e2
    ·omega
  ·intro j hj e1
   rcases hnew j hj with e2 | e2
   ·exact ne j e2 e1
   ·have:=(oy.lt e1).2
    have:sz h=h.size:=rfl
    omega
def ZtR (f:ZgF) (pv:BL→Out JV) (deep:Int):Prop:=∀ (h:Ze) (R:Nat) (s:ByteArray) (x:Out Unit) (K:VT5→HP),Zcc h R s x→R<sz h→9≤R →
  (∀ v z h',Zcc h' R s (x.bind fun _ r=>pv r)→(∀ w r,(x.bind fun _ r=>pv r) = .ok w r→v=w)→Zbo h' (fun j=>sz h≤j∧j<sz h') z v→Upd (· = R) h h'→K z h')→f (At R) deep K h
theorem Zs2 (n:Nat) (l:BL):Zy n (ZI l)=Zy n l:=by
  have hs:ZI (ZI l)=ZI l:=by
    cases hk:ZI l with
    | nil=>rfl
    | cons c r=>obtain ⟨y,_,_,hc⟩:=Zjz hk;exact X2 hc
  rw [Zfn]
  unfold ZcW
  rw [hs]
theorem ZpB (l:BL):ZaM l=((ZoZ (ZI l)).bind fun t r=> .ok t (ZI r)).bind fun t r=>(Xo [58] r).bind fun _ r'=> .ok t r':=by
  unfold ZaM
  cases hk:ZI l with
  | nil=>rfl
  | cons c l1 =>
    show (if c=34 then _ else _)=((if c=34 then Zgo l1 else .err 20 (c::l1)).bind _).bind _
    by_cases hc:c=34
    ·rw [if_pos hc,if_pos hc]
     cases hx:Zgo l1 with
     | err e r=>rfl
     | ok t r =>
       simp only [Out.bind_ok]
       cases hk2:ZI r with
       | nil=>rfl
       | cons d l3 =>
         show (if d=58 then _ else _)=(if d=58 then Out.ok () l3 else .err 20 (d::l3)).bind _
         split<;>rfl
    ·rw [if_neg hc,if_neg hc];rfl
theorem ZaP {α β γ:Type} (x:Out α) (f:α→BL→Out β) (g:β→BL→Out γ):(x.bind f).bind g=x.bind fun a r=>(f a r).bind g:=by cases x<;>rfl
theorem ZuW {ob:Bool} {r:BL} {c:UInt8} (hc:c=Zb3 ob):Xo [c] r=match r with
    | []=> .err 24 []
    | d::l=>if d=Zb3 ob then .ok () l else .err 20 (d::l):=by
  subst hc
  cases r<;>rfl
theorem ZvA {pv:BL→Out JV} (hg:Js.Good false pv) (hst:St 1 pv) (h0:pv [] = .err 24 []) (ob:Bool) (ns:List BL) (sub:JL) (hn:sub.isNil=false) (r:BL) (h44:∀ r',r≠44::r'):L pv ob ns sub r=(Xo [Zb3 ob] r).bind fun _ r'=> .ok (ns,sub) r':=by
  rw [Zov hg hst h0,ZuW rfl]
  rcases r with _ | ⟨d,l⟩
  ·rfl
  ·show lF pv ob ns sub d (d::l)=_
   unfold lF
   by_cases hd:d=Zb3 ob
   ·rw [if_pos hd];simp only [if_pos hd];rfl
   ·rw [if_neg hd,if_neg (by simp [hn]),if_neg fun e=>h44 l (by rw [e])]
    simp only [if_neg hd];rfl
theorem ZqE {pv:BL→Out JV} (hg:Js.Good false pv) (hst:St 1 pv) (h0:pv [] = .err 24 []) (ob:Bool) (ns:List BL) (sub:JL) (hn:sub.isNil=false) (r:BL):L pv ob ns sub (44::r)=(X8 pv ob ns sub r).bind fun p=>L pv ob p.1 p.2:=by
  rw [Zov hg hst h0]
  show lF pv ob ns sub 44 (44::r)=_
  unfold lF
  rw [if_neg (by cases ob<;>decide),if_neg (by simp [hn]),if_pos rfl];rfl
theorem ZqD {pv:BL→Out JV} (hg:Js.Good false pv) (hst:St 1 pv) (h0:pv [] = .err 24 []) (ob:Bool) (r:BL) (he:Zb2 (Zb3 ob) r=false):L pv ob [] .nil r=(X8 pv ob [] .nil r).bind fun p=>L pv ob p.1 p.2:=by
  rw [Zov hg hst h0]
  rcases r with _ | ⟨c,l⟩
  ·show Out.err 24 []=_
   rw [ZgM h0];rfl
  ·show lF pv ob [] .nil c (c::l)=_
   unfold lF
   rw [if_neg (by simpa [Zb2] using he),if_pos (show JL.nil.isNil=true from rfl)]
theorem PS.out {h:Ze} {b b2 k:Nat} {ns:List BL} {sub:JL} {base R:Nat} (p:PS h b2 k ns sub) (hb:b<b2) (c1:obj h b=some (.cells zV.toArray 33 (0,0))) (hbase:base≤b) {K:VT5→HP}
    (hk:∀ z h',Zbo h' (fun j=>base≤j∧j<sz h') z ⟨k,[],ns,sub⟩→Upd (· = b) h h'→K z h') :
    ldI h b2 0 .u8 fun t48=>ldS h b2 (0+1) fun t49=>ldL h b2 (0+2) fun t50=>ldL h b2 (0+3) fun t51 =>
      sts h b 0 [.int .u8 t48,.string t49,.slice t50.ptr t50.len t50.cap,.slice t51.ptr t51.len t51.cap] fun h52 =>
        ldI h52 b 0 .u8 fun t53=>ldS h52 b (0+1) fun t54=>ldL h52 b (0+2) fun t55=>ldL h52 b (0+3) fun t56=>K (t53,t54,t55,t56,()) h52:=by
  obtain ⟨x,y,cx,c,ox,oy,lr,ne⟩:=id p
  refine rI (Zr c rfl) (rS (Zr c rfl) (rL (s:=x) (Zr c rfl) (rL (s:=y) (Zr c rfl) ?_)))
  refine ZdW (x:=x) (y:=y) c1 rfl fun h9 u9 z9=>hk _ h9 ?_ u9
  have keep9:∀ j,b2≤j→j<sz h→obj h9 j=obj h j:=fun j hj hl=>ZY u9 hl (by omega)
  refine ⟨rfl,rfl,?_,?_,cx,?_,?_,?_⟩
  ·exact (oy.congr fun j _ hl hbj=>keep9 j (by omega) hl).row
  ·intro _ j hj;have:=oy.lt hj;have h9s:sz h=h.size:=rfl;exact ⟨by omega,by omega⟩
  ·exact (ox.congr fun j _ hl hbj=>keep9 j (by omega) hl).row
  ·intro _ j hj;have:=ox.lt hj;have h9s:sz h=h.size:=rfl;exact ⟨by omega,by omega⟩
  ·exact lr.keep (fun j hj hl=>keep9 j (by omega) hl) fun j hj=>⟨by omega,by omega⟩
theorem ZmL {f42:ZgF} {n:Nat} {deep:Int} (hf:ZtR f42 (Zy n) deep) {ob:Bool} {h:Ze} {R b2 k:Nat} {s:ByteArray} {ns:List BL} {sub:JL} {x:Out Unit} (o:Zcc h R s x) (hR:9≤R) (hRb:R<b2) (p:PS h b2 k ns sub) (hs:sub.len≤100000) {e:Int} (he:e=(Zb3 ob).toNat) {E:HP} {J:HP}
    (hE:∀ v h',PS h' b2 k ns (sub.snoc v)→(∀ w r,(x.bind fun _ r=>Zy n r) = .ok w r→v=w∧∀ r',ZI r≠44::r')→Zcc h' R s ((x.bind fun _ r=>Zy n r).bind fun _ r=>(Xo [Zb3 ob] (ZI r)).bind fun _ r'=> .ok () r')→Upd (fun j=>j=R∨b2≤j) h h'→E h')
    (hJ:∀ v r r' h',(x.bind fun _ r=>Zy n r) = .ok v r→ZI r=44::r'→PS h' b2 k ns (sub.snoc v)→Rf h' R s 0 r'→Upd (fun j=>j=R∨b2≤j) h h'→J h') :
    ldL h b2 (0+2) fun t38=>f42 (At R) deep (fun t39 h40 =>
      Zby (ZbZ h40 [(b2,0+2,.slice t38.ptr t38.len t38.cap)]) <|
      newC h40 (XX t39) 33 fun b41 h42 =>
      Zby (ZbZ h42 [(b2,0+2,.slice t38.ptr t38.len t38.cap)]) <|
      rdS ⟨some ⟨b41,0,none⟩,1,1⟩ 4 h42 fun new=>Fw.app 33 4 72 zV t38 1 new h42 fun t43 h44 =>
      st h44 b2 (0+2) (.slice t43.ptr t43.len t43.cap) fun h45 =>
      ZR (At R) e (fun t46 h47=>Zp (!t46) (E h47) (J h47)) h45) h:=by
  obtain ⟨sx,sy,cx,c,ox,oy,lr,ne⟩:=id p
  have hb2:=p.lt
  have bR:¬ b2=R:=by omega
  refine rL (s:=sx) (Zr c rfl) (hf h R s x _ o (by omega) hR fun v z h4 o4 hv4 v4 u4=>?_)
  have c4:=Yx c u4 bR
  refine YS (Zr c4 rfl) (ZbY fun h5 c5 e5 z5=>YS (Zr (Y2 c4 e5) rfl) (ZkJ c5 rfl ?_))
  have s4:=Zbq u4
  have s5:sz h4≤sz h5:=e5.size
  have old:∀ j,b2≤j→j<sz h→obj h5 j=obj h j:=fun j hj hl=>by rw [YB e5 (by omega),ZY u4 hl (by omega)]
  have lx:∀ j,sx.blk=some j→j<sz h:=fun j e=>(ox.lt e).2
  have ly:∀ j,sy.blk=some j→j<sz h:=fun j e=>(oy.lt e).2
  refine Zom ((old b2 (Nat.le_refl _) hb2).trans c) (ox.congr fun j _ hl hbj=>old j (by omega) hl) (oy.congr fun j _ hl hbj=>old j (by omega) hl)
    (lr.keep (fun j hj hl=>old j (by omega) hl) fun j hj=>⟨hj.1,by omega,hj.2.2⟩) ne (Se:=fun j=>sz h≤j∧j<sz h4) (v4.keep (fun j hj hl=>YB e5 hl) fun j hj=>hj)
    (fun j hj=>⟨by omega,by omega,fun e=>by have:=lx j e;omega,fun e=>by have:=ly j e;omega⟩) hs fun h6 p6 u6=>?_
  have o6:=(o4.ext e5).upd u6 (by omega)
  have u06:Upd (fun j=>j=R∨b2≤j) h h6:=((u4.mono fun j _ hj=> .inl hj).trans (e5.upd _)).trans (u6.mono fun j _ hj=> .inr hj)
  have hend:0<(Zb3 ob).toNat:=by cases ob<;>decide
  refine Zw0 o6 he hend (fun w r r' h7 hx hr r7 u7 z7=>Zl rfl ?_) fun h7 hn o7 u7 z7=>Zn rfl ?_
  ·have hvw:=hv4 w r hx
   subst hvw
   exact hJ v r r' h7 hx hr (p6.upd u7 fun j hj=>by subst hj;exact hRb) r7 (u06.trans (u7.mono fun j _ hj=> .inl hj))
  ·refine hE v h7 (p6.upd u7 fun j hj=>by subst hj;exact hRb) (fun w r hx=>⟨hv4 w r hx,hn w r hx⟩) ?_ (u06.trans (u7.mono fun j _ hj=> .inl hj))
   cases hx:(x.bind fun _ r=>Zy n r) with
   | err e r=>rw [hx] at o7;exact o7
   | ok w r =>
     rw [hx] at o7
     simp only [Out.bind_ok] at o7 ⊢
     cases hw:Xo [Zb3 ob] (ZI r) with
     | ok a r'=>rw [hw] at o7;exact o7
     | err e r'=>rw [hw] at o7;exact o7
def ZdP (n:Nat) (ob:Bool) (l:BL):Out JV:=(L (Zy n) ob [] .nil (ZI l)).bind fun p r=> .ok ⟨if ob then 7 else 6,[],p.1,p.2⟩ r
theorem Zjx (v:JV) (sub:JL):(sub.snoc v).isNil=false:=ZiE v sub
theorem ZuV {n:Nat} {ns:List BL} {sub:JL} (l:BL):X8 (Zy n) false ns sub l=(Zy n l).bind fun v r=> .ok (ns,sub.snoc v) (ZI r):=by
  show (Zy n (ZI l)).bind _=_
  rw [Zs2]
theorem Zol {f42:ZgF} {n:Nat} {deep:Int} (hf:ZtR f42 (Zy n) deep) {h:Ze} {R:Nat} {s:ByteArray} {l:BL} (hr:Rf h R s 0 l) (hR:9≤R) {K:VT5→HP}
    (hk:∀ v z h',Zcc h' R s (ZdP n false l)→(∀ w r,ZdP n false l = .ok w r→v=w)→Zbo h' (fun j=>sz h≤j∧j<sz h') z v→Upd (· = R) h h'→K z h'):Yg f42 (At R) deep K h:=by
  unfold Yg Xm
  obtain ⟨hg,hst⟩:=YM n
  have h0:=ZdR n
  have hll:=hr.len
  have hRs:=hr.lt
  have hszr:sz h=h.size:=rfl
  refine ZbY fun h1 c1 e1 z1=>ZbY fun h3 c3 e3 z3=>?_
  have hb:h1.size=h.size+1:=z1
  have hRb:R<h1.size:=by omega
  rw [Zg9 (by rw [show obj h3 h1.size=_ from c3,Zbn];rfl) (by simp [Z7])]
  have hps:PS (h3.puts h1.size 0 [.int .u8 6,.string (ByteArray.mk #[]),.slice none 0 0,.slice none 0 0]) h1.size 6 [] .nil:=by
    refine ⟨⟨none,0,0⟩,⟨none,0,0⟩,[],?_,Own.nil _ _ _,Own.nil _ _ _,rfl,fun j hj=>by cases hj⟩
    rw [ZaL,if_pos rfl,show obj h3 h1.size=_ from c3,Xi];rfl
  have u4:=Upd.puts h3 h1.size 0 [.int .u8 6,.string (ByteArray.mk #[]),.slice none 0 0,.slice none 0 0]
  generalize h3.puts h1.size 0 [.int .u8 6,.string (ByteArray.mk #[]),.slice none 0 0,.slice none 0 0]=h4 at hps u4 ⊢
  have r4:Rf h4 R s 0 l:=((hr.ext e1).ext e3).upd u4 (by omega)
  have u14:Upd (UB R h1.size) h1 h4:=(e3.upd _).trans (u4.mono fun j _ hj=>by subst hj;exact .inr (Nat.le_refl _))
  have low:∀ {a:Ze},Upd (UB R h1.size) h1 a→Upd (· = R) h a:=fun {a} u=>UN e1 (UT (Upd.refl _ h1) u fun j hj=>by
    rcases hj with rfl | hj
    ·exact .inl rfl
    ·right;exact hj)
  have c1':∀ {a:Ze},Upd (UB R h1.size) h1 a→obj a h.size=some (.cells zV.toArray 33 (0,0)):=fun {a} u=>Yx c1 u (by omega)
  refine Zc4 r4 fun h5 r5 u5 z5=>?_
  have u15:=u14.trans (u5.mono fun j _ hj=> .inl hj)
  have p5:=hps.upd u5 fun j hj=>by subst hj;exact hRb
  have out:∀ {a:Ze} {ns:List BL} {sub:JL},PS a h1.size 6 ns sub→Upd (UB R h1.size) h1 a→Zcc a R s (ZdP n false l)→(∀ w r,ZdP n false l = .ok w r→(⟨6,[],ns,sub⟩:JV)=w) →
      ldI a h1.size 0 .u8 fun t48=>ldS a h1.size (0+1) fun t49=>ldL a h1.size (0+2) fun t50=>ldL a h1.size (0+3) fun t51 =>
      sts a h.size 0 [.int .u8 t48,.string t49,.slice t50.ptr t50.len t50.cap,.slice t51.ptr t51.len t51.cap] fun h52 =>
        ldI h52 h.size 0 .u8 fun t53=>ldS h52 h.size (0+1) fun t54=>ldL h52 h.size (0+2) fun t55=>ldL h52 h.size (0+3) fun t56=>K (t53,t54,t55,t56,()) h52:=fun {a ns sub} p u o hv =>
    p.out (base:=sz h) (R:=R) (by omega) (c1' u) (by omega) fun z h' hz u'=>hk _ z h' (o.upd u' (by omega)) hv hz (UT (low u) u' fun j hj=>by right;omega)
  refine Zm (fun _ h'=>h'=h5∧Zb2 93 (ZI l)=false) ?_ ?_
  ·rintro ⟨⟩ h6 ⟨rfl,hne⟩
   have hL:L (Zy n) false [] .nil (ZI l)=(Zy n (ZI l)).bind fun v r=>L (Zy n) false [] (JL.nil.snoc v) (ZI r):=by
     rw [ZqD hg hst h0 false _ hne,ZuV,ZaP];rfl
   have hsk:=Za8 l
   refine ZB (fun _ h'=>∃ (l':BL) (sub:JL),Rf h' R s 0 l'∧PS h' h1.size 6 [] sub∧L (Zy n) false [] .nil (ZI l)=((Zy n l').bind fun v r=>L (Zy n) false [] (sub.snoc v) (ZI r))∧sub.len+l'.length≤65536∧Upd (UB R h1.size) h1 h') (fun _ h'=>ZjU h' R)
     ⟨ZI l,.nil,r5,p5,hL,by simp [JL.len];omega,u15⟩ ?_
   rintro ⟨⟩ h7 ⟨l7,sub,r7,p7,q7,n7,u7⟩
   refine Zih r7 (Zou ?_)
   refine ZmL hf (ob:=false) (x:= .ok () l7) r7 hR hRb p7 (by omega) rfl (fun v h8 p8 hv8 o8 u8=>?_) fun v r r' h8 hx hr p8 r8 u8=>?_
   ·have u18:=u7.trans (u8.mono fun j _ hj=>hj)
    have hfin:ZdP n false l=((Zy n l7).bind fun v r=>(Xo [Zb3 false] (ZI r)).bind fun _ r'=> .ok (⟨6,[],[],sub.snoc v⟩:JV) r'):=by
      unfold ZdP
      rw [q7,ZaP]
      cases hx:Zy n l7 with
      | err e r=>rfl
      | ok w r =>
        simp only [Out.bind_ok]
        have h44:=(hv8 w r hx).2
        rw [ZvA hg hst h0 false [] (sub.snoc w) (Zjx w sub) (ZI r) h44]
        cases Xo [Zb3 false] (ZI r)<;>rfl
    refine out p8 u18 ?_ fun w r hw=>?_
    ·rw [hfin]
     have o8:Zcc h8 R s ((Zy n l7).bind fun _ r=>(Xo [Zb3 false] (ZI r)).bind fun _ r'=> .ok () r'):=o8
     cases hx:Zy n l7 with
     | err e r=>rw [hx] at o8;exact o8
     | ok w r =>
       rw [hx] at o8
       simp only [Out.bind_ok] at o8 ⊢
       cases hw:Xo [Zb3 false] (ZI r) with
       | err e r=>rw [hw] at o8;exact o8
       | ok a r=>rw [hw] at o8;exact o8
    ·rw [hfin] at hw
     obtain ⟨w1,r1,a1,a2⟩:=ZO hw
     obtain ⟨_,r2,a3,a4⟩:=ZO a2
     cases a4
     rw [(hv8 w1 r1 a1).1]
   ·have hx:Zy n l7 = .ok v r:=hx
    have hvl:=hst.len hx
    have hsl:=Za8 r
    rw [hr] at hsl
    simp only [List.length_cons] at hsl
    refine ⟨⟨r',sub.snoc v,r8,p8,?_,by rw [JL.len_snoc];omega,u7.trans u8⟩,?_⟩
    ·rw [q7,hx]
     simp only [Out.bind_ok]
     rw [hr,ZqE hg hst h0 false [] _ (Zjx v sub),ZuV,ZaP];rfl
    ·rw [r7.left,r8.left];simp;omega
  ·refine Zih r5 (Zou (ZaS r5 (fun hne=>?_) fun he=>⟨rfl,by rw [he];rfl⟩))
   refine ZjR r5 (ZbO 93 (fun l' e=>?_) fun hn=>⟨rfl,?_⟩)
   ·rw [e] at r5
    have hopen:ZdP n false l = .ok ⟨6,[],[],.nil⟩ l':=by
      unfold ZdP
      rw [e,Zov hg hst h0]
      rfl
    refine Zbv r5 fun h6 r6 u6 z6=>?_
    exact out (p5.upd u6 fun j hj=>by subst hj;exact hRb) (u15.trans (u6.mono fun j _ hj=> .inl hj)) (by rw [hopen];exact r6) fun w r hw=>by rw [hopen] at hw;cases hw;rfl
   ·cases hk9:ZI l with
    | nil=>rfl
    | cons c l9 =>
      have:=hn c l9 hk9
      simpa [Zb2] using this
theorem Zqv {h:Ze} {b k:Nat} {ns:List BL} {sub:JL} {x y:Sl} {cx:List Value} (c:obj h b=some (.cells (XX ((k:Int),Zc [],x,y,())).toArray 33 (0,0)))
    (ox:Own h (b+1) x 4 cx) (oy:Own h (b+1) y 1 (ns.map sV)) (lr:Za7 h (fun j=>b+1≤j∧j<sz h∧x.blk≠some j∧y.blk≠some j) sub cx) (ne:∀ j,x.blk=some j→y.blk≠some j)
    {t:BL} (hs:ns.length≤100000) {K:HP} (hk:∀ h',PS h' b k (ns++[t]) sub→Upd (fun j=>b≤j) h h'→K h') :
    Fw.app 9 1 16 [.string (ByteArray.mk #[])] y 1 [sV t] h fun t18 h19=>st h19 b (0+3) (.slice t18.ptr t18.len t18.cap) K:=by
  have hb:=ZbI c
  have hly:y.len=ns.length:=by have:=oy.len;simp at this;omega
  refine oy.app rfl (by simp [Z7]) rfl (by omega) (by omega) (by have:sz h=h.size:=rfl;omega) fun y' h1 o1 l1 u1 bl1=>?_
  have hsz:sz h≤sz h1:=u1.size
  have c1:obj h1 b=some (.cells (XX ((k:Int),Zc [],x,y,())).toArray 33 (0,0)):=Yx c u1 fun e1=>by have:=(oy.lt e1).1;omega
  refine Zkm c1 (by simp [XX]) Zhq fun h9 c9 u9 z9=>?_
  have hold:∀ j,j<sz h→j≠b→y.blk≠some j→obj h9 j=obj h j:=fun j hj hjb hjy=>(ZY u9 (by omega) hjb).trans (ZY u1 hj hjy)
  have hnew:∀ j,y'.blk=some j→y.blk=some j∨sz h≤j:=fun j hj=>by
    rcases bl1 with e1 | e1
    ·left;rw [← e1,hj]
    ·right;rw [hj] at e1;cases e1;exact Nat.le_refl _
  refine hk h9 ⟨x,y',cx,c9,?_,?_,?_,?_⟩ ⟨by have:sz h9=h9.size:=rfl;have:sz h=h.size:=rfl;omega,fun j hj hbj=>hold j hj (by omega) fun e1=>by have:=(oy.lt e1).1;omega⟩
  ·exact ox.congr fun j hj hl hbj=>hold j hl (by omega) (ne j hj)
  ·have:(ns++[t]).map sV=ns.map sV++[sV t]:=by simp
   rw [this]
   exact o1.congr fun j _ hl hbj=>ZY u9 hl (by omega)
  ·refine lr.keep (fun j hj hl=>hold j hl (by omega) hj.2.2.2) fun j hj=>⟨hj.1,by omega,hj.2.2.1,fun e1=>?_⟩
   rcases hnew j e1 with e2 | e2
   ·exact hj.2.2.2 e2
   ·omega
  ·intro j hj e1
   rcases hnew j e1 with e2 | e2
   ·exact ne j hj e2
   ·have:=(ox.lt hj).2
    have:sz h=h.size:=rfl
    omega
theorem Zs5 {α:Type} {h:Ze} {R:Nat} {s:ByteArray} {x:Out α} (o:Zcc h R s x):Zcc h R s (x.bind fun _ r=> .ok () r):=by cases x<;>exact o
theorem ZlU {f42:ZgF} {n:Nat} {deep:Int} (hf:ZtR f42 (Zy n) deep) {h:Ze} {R:Nat} {s:ByteArray} {l:BL} (hr:Rf h R s 0 l) (hR:9≤R) {K:VT5→HP}
    (hk:∀ v z h',Zcc h' R s (ZdP n true l)→(∀ w r,ZdP n true l = .ok w r→v=w)→Zbo h' (fun j=>sz h≤j∧j<sz h') z v→Upd (· = R) h h'→K z h'):Ya f42 (At R) deep K h:=by
  unfold Ya Y5
  obtain ⟨hg,hst⟩:=YM n
  have h0:=ZdR n
  have hll:=hr.len
  have hRs:=hr.lt
  have hszr:sz h=h.size:=rfl
  refine ZbY fun h1 c1 e1 z1=>ZbY fun h3 c3 e3 z3=>?_
  have hb:h1.size=h.size+1:=z1
  have hRb:R<h1.size:=by omega
  rw [Zg9 (by rw [show obj h3 h1.size=_ from c3,Zbn];rfl) (by simp [Z7])]
  have hps:PS (h3.puts h1.size 0 [.int .u8 7,.string (ByteArray.mk #[]),.slice none 0 0,.slice none 0 0]) h1.size 7 [] .nil:=by
    refine ⟨⟨none,0,0⟩,⟨none,0,0⟩,[],?_,Own.nil _ _ _,Own.nil _ _ _,rfl,fun j hj=>by cases hj⟩
    rw [ZaL,if_pos rfl,show obj h3 h1.size=_ from c3,Xi];rfl
  have u4:=Upd.puts h3 h1.size 0 [.int .u8 7,.string (ByteArray.mk #[]),.slice none 0 0,.slice none 0 0]
  generalize h3.puts h1.size 0 [.int .u8 7,.string (ByteArray.mk #[]),.slice none 0 0,.slice none 0 0]=h4 at hps u4 ⊢
  have r4:Rf h4 R s 0 l:=((hr.ext e1).ext e3).upd u4 (by omega)
  have u14:Upd (UB R h1.size) h1 h4:=(e3.upd _).trans (u4.mono fun j _ hj=>by subst hj;exact .inr (Nat.le_refl _))
  have low:∀ {a:Ze},Upd (UB R h1.size) h1 a→Upd (· = R) h a:=fun {a} u=>UN e1 (UT (Upd.refl _ h1) u fun j hj=>by
    rcases hj with rfl | hj
    ·exact .inl rfl
    ·right;exact hj)
  have c1':∀ {a:Ze},Upd (UB R h1.size) h1 a→obj a h.size=some (.cells zV.toArray 33 (0,0)):=fun {a} u=>Yx c1 u (by omega)
  refine Zc4 r4 fun h5 r5 u5 z5=>?_
  have u15:=u14.trans (u5.mono fun j _ hj=> .inl hj)
  have p5:=hps.upd u5 fun j hj=>by subst hj;exact hRb
  have out:∀ {a:Ze} {ns:List BL} {sub:JL},PS a h1.size 7 ns sub→Upd (UB R h1.size) h1 a→Zcc a R s (ZdP n true l)→(∀ w r,ZdP n true l = .ok w r→(⟨7,[],ns,sub⟩:JV)=w) →
      ldI a h1.size 0 .u8 fun t48=>ldS a h1.size (0+1) fun t49=>ldL a h1.size (0+2) fun t50=>ldL a h1.size (0+3) fun t51 =>
      sts a h.size 0 [.int .u8 t48,.string t49,.slice t50.ptr t50.len t50.cap,.slice t51.ptr t51.len t51.cap] fun h52 =>
        ldI h52 h.size 0 .u8 fun t53=>ldS h52 h.size (0+1) fun t54=>ldL h52 h.size (0+2) fun t55=>ldL h52 h.size (0+3) fun t56=>K (t53,t54,t55,t56,()) h52:=fun {a ns sub} p u o hv =>
    p.out (base:=sz h) (R:=R) (by omega) (c1' u) (by omega) fun z h' hz u'=>hk _ z h' (o.upd u' (by omega)) hv hz (UT (low u) u' fun j hj=>by right;omega)
  refine Zm (fun _ h'=>h'=h5∧Zb2 125 (ZI l)=false) ?_ ?_
  ·rintro ⟨⟩ h6 ⟨rfl,hne⟩
   have partO:∀ (ns:List BL) (sub:JL) (l':BL),((X8 (Zy n) true ns sub l').bind fun p=>L (Zy n) true p.1 p.2)=((ZaM l').bind fun nm r=>(Zy n r).bind fun v r'=>L (Zy n) true (ns++[nm]) (sub.snoc v) (ZI r')):=fun ns sub l'=>by
     show (((ZaM l').bind fun nm l3=>(Zy n l3).bind fun v l4=> .ok (ns++[nm],sub.snoc v) (ZI l4)).bind _)=_
     rw [ZaP]
     congr 1
     funext nm r
     rw [ZaP];rfl
   have hL:=ZqD hg hst h0 true _ hne
   rw [partO] at hL
   have hsk:=Za8 l
   refine ZB (fun _ h'=>∃ (l':BL) (ns:List BL) (sub:JL),Rf h' R s 0 l'∧PS h' h1.size 7 ns sub∧L (Zy n) true [] .nil (ZI l)=((ZaM l').bind fun nm r=>(Zy n r).bind fun v r'=>L (Zy n) true (ns++[nm]) (sub.snoc v) (ZI r'))∧sub.len+l'.length≤65536∧ns.length≤sub.len∧Upd (UB R h1.size) h1 h') (fun _ h'=>ZjU h' R)
     ⟨ZI l,[],.nil,r5,p5,hL,by simp [JL.len];omega,Nat.le_refl _,u15⟩ ?_
   rintro ⟨⟩ h7 ⟨l7,ns,sub,r7,p7,q7,n7,m7,u7⟩
   refine Zih r7 (Zou ?_)
   refine Zc4 r7 fun h8 r8 u8 z8=>?_
   have p8:=p7.upd u8 fun j hj=>by subst hj;exact hRb
   obtain ⟨sx,sy,cx,c,ox,oy,lr,ne⟩:=id p8
   have hb8:=p8.lt
   refine rL (s:=sy) (Zr c rfl) (ZiD r8 hR fun o h9 o9 hn9 u9=>?_)
   have c9:=Yx c u9 (show ¬ h1.size=R by omega)
   refine YS (Zr c9 rfl) (ZbY fun h10 c10 e10 z10=>YS (Zr (Y2 c9 e10) rfl) (ZkJ c10 rfl ?_))
   have s9:=Zbq u9
   have s10:sz h9≤sz h10:=e10.size
   have old:∀ j,h1.size≤j→j<sz h8→obj h10 j=obj h8 j:=fun j hj hl=>by rw [YB e10 (by omega),ZY u9 hl (by omega)]
   refine Zqv ((old h1.size (Nat.le_refl _) hb8).trans c) (ox.congr fun j _ hl hbj=>old j (by omega) hl) (oy.congr fun j _ hl hbj=>old j (by omega) hl)
     (lr.keep (fun j hj hl=>old j (by omega) hl) fun j hj=>⟨hj.1,by omega,hj.2.2⟩) ne (by omega) fun h11 p11 u11=>?_
   have o11:=(o9.ext e10).upd u11 (by omega)
   refine Zkh o11 fun h12 o12 u12 z12=>ZwZ (c:=58) o12 rfl (by decide) fun h13 o13 u13 z13=>?_
   have p13:=(p11.upd u12 fun j hj=>by subst hj;exact hRb).upd u13 fun j hj=>by subst hj;exact hRb
   have oname:Zcc h13 R s (ZaM l7):=by rw [ZpB];exact o13
   have hname:∀ nm r,ZaM l7 = .ok nm r→o=nm:=fun nm r hq=>by
     rw [ZpB] at hq
     obtain ⟨t,r1,a1,a2⟩:=ZO hq
     obtain ⟨t2,r2,a3,a4⟩:=ZO a1
     obtain ⟨_,r3,a5,a6⟩:=ZO a2
     cases a4;cases a6
     exact hn9 _ _ a3
   have u713:Upd (UB R h1.size) h7 h13:=((((u8.mono fun j _ hj=> .inl hj).trans (u9.mono fun j _ hj=> .inl hj)).trans (e10.upd _)).trans (u11.mono fun j _ hj=> .inr hj)).trans ((u12.trans u13).mono fun j _ hj=> .inl hj)
   have hxx:∀ r',((ZaM l7).bind fun _ r=> .ok () r:Out Unit).bind (fun _ r=>Zy n r)=r'↔((ZaM l7).bind fun _ r=>Zy n r)=r':=fun r'=>by rw [ZaP];exact Iff.rfl
   refine ZmL hf (ob:=true) (x:=(ZaM l7).bind fun _ r=> .ok () r) (Zs5 oname) hR hRb p13 (by omega) rfl (fun v h14 p14 hv14 o14 u14'=>?_) fun v r r' h14 hx hr' p14 r14 u14'=>?_
   ·have u1x:=u7.trans (u713.trans (u14'.mono fun j _ hj=>hj))
    have hbx:(((ZaM l7).bind fun _ r=> .ok () r:Out Unit).bind fun _ r=>Zy n r)=(ZaM l7).bind fun _ r=>Zy n r:=by rw [ZaP];rfl
    rw [hbx] at hv14 o14
    have hv14:∀ w r,((ZaM l7).bind fun _ r=>Zy n r) = .ok w r→v=w∧∀ r',ZI r≠44::r':=hv14
    have o14:Zcc h14 R s (((ZaM l7).bind fun _ r=>Zy n r).bind fun _ r=>(Xo [Zb3 true] (ZI r)).bind fun _ r'=> .ok () r'):=o14
    have hfin:ZdP n true l=((ZaM l7).bind fun nm r=>(Zy n r).bind fun v r=>(Xo [Zb3 true] (ZI r)).bind fun _ r'=> .ok (⟨7,[],ns++[nm],sub.snoc v⟩:JV) r'):=by
      unfold ZdP
      rw [q7,ZaP]
      cases hnm:ZaM l7 with
      | err e r=>rfl
      | ok nm r0 =>
        simp only [Out.bind_ok]
        rw [ZaP]
        cases hx:Zy n r0 with
        | err e r=>rfl
        | ok w r =>
          simp only [Out.bind_ok]
          have h44:=(hv14 w r (by rw [hnm];exact hx)).2
          rw [ZvA hg hst h0 true _ (sub.snoc w) (Zjx w sub) (ZI r) h44]
          cases Xo [Zb3 true] (ZI r)<;>rfl
    refine out p14 u1x ?_ fun w r hw=>?_
    ·rw [hfin]
     cases hnm:ZaM l7 with
     | err e r=>rw [hnm] at o14;exact o14
     | ok nm r0 =>
       rw [hnm] at o14
       simp only [Out.bind_ok] at o14 ⊢
       cases hx:Zy n r0 with
       | err e r=>rw [hx] at o14;exact o14
       | ok w r =>
         rw [hx] at o14
         simp only [Out.bind_ok] at o14 ⊢
         cases hw:Xo [Zb3 true] (ZI r) with
         | err e r=>rw [hw] at o14;exact o14
         | ok a r=>rw [hw] at o14;exact o14
    ·rw [hfin] at hw
     obtain ⟨nm,r0,a0,b1⟩:=ZO hw
     obtain ⟨w1,r1,a1,a2⟩:=ZO b1
     obtain ⟨_,r2,a3,a4⟩:=ZO a2
     cases a4
     rw [(hv14 w1 r1 (by rw [a0];exact a1)).1,hname nm r0 a0]
   ·have hx:=(hxx _).1 hx
    obtain ⟨nm,r0,a0,a1⟩:=ZO hx
    have hvl:=hst.len a1
    have hnl:=ZfD.2.len a0
    have hsl:=Za8 r
    rw [hr'] at hsl
    simp only [List.length_cons] at hsl
    refine ⟨⟨r',ns++[o],sub.snoc v,r14,p14,?_,by rw [JL.len_snoc];omega,by rw [JL.len_snoc];simp;omega,u7.trans (u713.trans u14')⟩,?_⟩
    ·rw [q7,a0]
     simp only [Out.bind_ok]
     rw [a1]
     simp only [Out.bind_ok]
     rw [hr',ZqE hg hst h0 true _ _ (Zjx v sub),partO,hname nm r0 a0]
    ·rw [r7.left,r14.left];simp;omega
  ·refine Zih r5 (Zou (ZaS r5 (fun hne=>?_) fun he=>⟨rfl,by rw [he];rfl⟩))
   refine ZjR r5 (ZbO 125 (fun l' e=>?_) fun hn=>⟨rfl,?_⟩)
   ·rw [e] at r5
    have hopen:ZdP n true l = .ok ⟨7,[],[],.nil⟩ l':=by
      unfold ZdP
      rw [e,Zov hg hst h0]
      rfl
    refine Zbv r5 fun h6 r6 u6 z6=>?_
    exact out (p5.upd u6 fun j hj=>by subst hj;exact hRb) (u15.trans (u6.mono fun j _ hj=> .inl hj)) (by rw [hopen];exact r6) fun w r hw=>by rw [hopen] at hw;cases hw;rfl
   ·cases hk9:ZI l with
    | nil=>rfl
    | cons c l9 =>
      have:=hn c l9 hk9
      simpa [Zb2] using this
end Go.Proofs.YtpjbjdheeemdiaaGreatDoor
