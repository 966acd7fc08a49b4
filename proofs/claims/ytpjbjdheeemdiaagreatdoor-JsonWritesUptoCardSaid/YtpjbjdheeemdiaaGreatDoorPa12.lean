/- The reference's reader in memory: its steps. -/
import Derived.Test.YtpjbjdheeemdiaaGreatDoorPa11
set_option linter.unusedVariables false
set_option linter.unusedSimpArgs false
namespace Go.Proofs.YtpjbjdheeemdiaaGreatDoor
open Go Go.Fw Go.Js
def Rf (h:Zc) (R:Nat) (s:ByteArray) (e:Nat) (l:BL):Prop:=s.size≤65536∧∃ n:Nat,obj h R=some (.cells [.string s,.int .i64 n,.int .i64 e].toArray 167 (0,0))∧Zer s n l
theorem Rf.congr {h h':Zc} {R e:Nat} {s:ByteArray} {l:BL} (hr:Rf h R s e l) (he:obj h' R=obj h R):Rf h' R s e l:=by
  obtain ⟨a,n,b,c⟩:=hr
  exact ⟨a,n,he.trans b,c⟩
theorem Rf.lt {h:Zc} {R e:Nat} {s:ByteArray} {l:BL} (hr:Rf h R s e l):R<sz h:=by
  obtain ⟨_,n,b,_⟩:=hr
  exact ZbJ b
theorem Rf.upd {S:Nat→Prop} {h h':Zc} {R e:Nat} {s:ByteArray} {l:BL} (hr:Rf h R s e l) (u:Upd S h h') (hs:¬ S R):Rf h' R s e l:=hr.congr (ZV u hr.lt hs)
theorem Rf.ext {h h':Zc} {R e:Nat} {s:ByteArray} {l:BL} (hr:Rf h R s e l) (u:Ext h h'):Rf h' R s e l:=hr.congr (ZQ u hr.lt)
theorem Rf.len {h:Zc} {R e:Nat} {s:ByteArray} {l:BL} (hr:Rf h R s e l):l.length≤s.size∧s.size≤65536:=by
  obtain ⟨a,n,b,c⟩:=hr
  have:=c.len
  omega
section
variable {h:Zc} {R e:Nat} {s:ByteArray} {l:BL}
theorem Zgz (hr:Rf h R s e l) {K:Int→Prop} (hk:∀ n:Nat,Zer s n l→K n):Zb (At R) fun b o=>ldI h b (o+1) .i64 K:=by
  obtain ⟨_,n,hb,hn⟩:=hr
  exact Z7 (rI (Zi hb rfl) (hk n hn))
theorem Zrq (hr:Rf h R s e l) {K:ByteArray→Prop} (hk:K s):Zb (At R) fun b o=>ldS h b o K:=by
  obtain ⟨_,n,hb,hn⟩:=hr
  exact Z7 (rS (Zi hb rfl) hk)
theorem ZiZ (hr:Rf h R s e l) {K:Int→Prop} (hk:K e):Zb (At R) fun b o=>ldI h b (o+2) .i64 K:=by
  obtain ⟨_,n,hb,hn⟩:=hr
  exact Z7 (rI (Zi hb rfl) hk)
theorem ZpW (hr:Rf h R s e l) {l':BL} {m:Int} {n:Nat} (hm:m=n) (hn:Zer s n l') {K:HP} (hk:∀ h',Rf h' R s e l'→Upd (· = R) h h'→sz h'=sz h→K h'):Zb (At R) fun b o=>st h b (o+1) (.int .i64 m) K:=by
  obtain ⟨hs,n0,hb,hn0⟩:=hr
  refine Z7 (Zi1 hb (by simp) ZcY fun h' c u z=>hk h' ⟨hs,n,?_,hn⟩ u z)
  rw [c,hm];rfl
theorem Zmq (hr:Rf h R s e l) {m:Int} {e':Nat} (hm:m=e') {K:HP} (hk:∀ h',Rf h' R s e' l→Upd (· = R) h h'→sz h'=sz h→K h'):Zb (At R) fun b o=>st h b (o+2) (.int .i64 m) K:=by
  obtain ⟨hs,n0,hb,hn0⟩:=hr
  refine Z7 (Zi1 hb (by simp) ZcY fun h' c u z=>hk h' ⟨hs,n0,?_,hn0⟩ u z)
  rw [c,hm];rfl
theorem Zb6 {c:UInt8} (hr:Rf h R s e (c::l)) {K:HP} (hk:∀ h',Rf h' R s e l→Upd (· = R) h h'→sz h'=sz h→K h') :
    Zb (At R) fun b o=>ldI h b (o+1) .i64 fun t=>Zb (At R) fun b o=>st h b (o+1) (.int .i64 (IntKind.wrap .i64 (t+1))) K:=by
  refine Zgz hr fun n hn=>?_
  have:=hn.len
  have:=hr.len
  refine ZpW hr (n:=n+1) ?_ hn.tail hk
  rw [ZJ (by omega) (by omega)];rfl
theorem ZtL (hr:Rf h R s e l) {k:Int} {m:Nat} (hk:k=m) (hm:m≤l.length) {K:HP} (hK:∀ h',Rf h' R s e (l.drop m)→Upd (· = R) h h'→sz h'=sz h→K h') :
    Zb (At R) fun b o=>ldI h b (o+1) .i64 fun t=>Zb (At R) fun b o=>st h b (o+1) (.int .i64 (IntKind.wrap .i64 (t+k))) K:=by
  refine Zgz hr fun n hn=>?_
  have:=hn.len
  have:=hr.len
  refine ZpW hr (n:=n+m) ?_ (hn.dropK hm) hK
  rw [ZJ (by omega) (by omega),hk];rfl
theorem Zbv (hr:Rf h R s e l) {A B:Prop} (ha:l≠[]→A) (hb:l=[]→B) :
    Zb (At R) fun b o=>ldI h b (o+1) .i64 fun t=>Zb (At R) fun b o=>ldS h b o fun t5=>Zs (decide (t<(t5.size:Int))) A B:=by
  refine Zgz hr fun n hn=>Zrq hr (Zj (fun e=>ha ?_) fun e=>hb ?_)
  ·have:=hn.len
   intro e;subst e;simp at this;omega
  ·have:=hn.len
   exact List.eq_nil_of_length_eq_zero (by omega)
theorem ZfB (hr:Rf h R s e l) {A B:Prop} (ha:l=[]→A) (hb:l≠[]→B) :
    Zb (At R) fun b o=>ldI h b (o+1) .i64 fun t=>Zb (At R) fun b o=>ldS h b o fun t5=>Zs (decide (t≥(t5.size:Int))) A B:=by
  refine Zgz hr fun n hn=>Zrq hr (Zj (fun e=>ha ?_) fun e=>hb ?_)
  ·have:=hn.len
   exact List.eq_nil_of_length_eq_zero (by omega)
  ·have:=hn.len
   intro e;subst e;simp at this;omega
theorem Zdx (hr:Rf h R s e l) {K:Int→HP} (hk:K (XM l) h):Zg (At R) K h:=by
  unfold Zg X0
  refine Za (ZfB hr (fun he=>Za ?_) fun hne=>?_)
  ·subst he;exact hk
  ·obtain ⟨c,l',rfl⟩:=List.exists_cons_of_ne_nil hne
   exact Zrq hr (Zgz hr fun n hn=>⟨c,by omega,by rw [Int.toNat_natCast];exact hn.head,Za hk⟩)
theorem ZkB (hr:Rf h R s e l) {K:Int × Unit→Prop} (hk:K (XM l,())):ZbR (ρ:=Int × Unit) (fun K h=>Zg (At R) (fun q h=>K (q,()) h) h) h K :=
  ⟨(XM l,()),Zdx hr ⟨rfl,rfl⟩,hk⟩
theorem Zo6 {A B:Prop} (ha:A):Zs (((0:Nat):Int) ==0) A B:=Zm rfl ha
theorem ZuC {e:Nat} (he:e≠0) {A B:Prop} (hb:B):Zs ((e:Int) ==0) A B:=Zn (beq_eq_false_iff_ne.2 (by omega)) hb
theorem ZqV {A B:Prop} (hb:B):Zs (((0:Nat):Int) !=0) A B:=Zn rfl hb
theorem Zst {e:Nat} (he:e≠0) {A B:Prop} (ha:A):Zs ((e:Int) !=0) A B:=Zm (bne_iff_ne.2 (by omega)) ha
def ZcK {α:Type} (h:Zc) (R:Nat) (s:ByteArray):Out α→Prop
  | .ok _ r=>Rf h R s 0 r
  | .err e r=>e≠0∧Rf h R s e r
theorem Xq {α:Type} (hr:Rf h R s 0 l) {e:Nat} (he:e≠0) {e0:Int} (h0:e0=e) {K:HP} (hk:∀ h',ZcK h' R s (XW e l:Out α)→Upd (· = R) h h'→sz h'=sz h→K h'):Zk (At R) e0 K h:=by
  unfold Zk XV
  refine ZiZ hr (Zo6 (Zmq hr h0 fun h1 r1 u1 z1=>ZfB r1 (fun hl=>?_) fun hl=>?_))
  ·subst hl
   have hrest:Zer s s.size []:=⟨by simp,by simp⟩
   refine Zrq r1 (ZpW r1 rfl hrest fun h2 r2 u2 z2=>Zmq r2 (e':=24) rfl fun h3 r3 u3 z3=>hk h3 ⟨by decide,r3⟩ ((u1.trans u2).trans u3) (z3.trans (z2.trans z1)))
  ·obtain ⟨c,l',rfl⟩:=List.exists_cons_of_ne_nil hl
   exact hk h1 ⟨he,r1⟩ u1 z1
theorem ZdC (hr:Rf h R s 0 l) {K:HP} (hk:∀ h',Rf h' R s 0 (ZM l)→Upd (· = R) h h'→sz h'=sz h→K h'):Zt (At R) K h:=by
  unfold Zt YN
  refine Zx (fun _ h'=>∃ l',Rf h' R s 0 l'∧ZM l'=ZM l∧Upd (· = R) h h'∧sz h'=sz h) (fun _ h'=>match obj h' R with
    | some (.cells c _ _)=>(match c.toList with
      | [.string s,.int _ n,_]=>s.size - n.toNat
      | _=>0)
    | _=>0) ⟨l,hr,rfl,Upd.refl _ _,rfl⟩ ?_
  rintro ⟨⟩ h1 ⟨l1,r1,e1,u1,z1⟩
  refine Zr (fun _ h'=>h'=h1∧∃ c l2,l1=c::l2∧Yp c=true) ?_ ?_
  ·rintro ⟨⟩ h2 ⟨rfl,c,l2,rfl,hc⟩
   refine Zb6 r1 fun h3 r3 u3 z3=>⟨⟨l2,r3,?_,u1.trans u3,z3.trans z1⟩,?_⟩
   ·rw [← e1]
    unfold ZM
    rw [List.dropWhile_cons_of_pos hc]
   ·obtain ⟨_,n3,c3,g3⟩:=r3
    obtain ⟨_,n1,c1,g1⟩:=r1
    have:=g3.len
    have:=g1.len
    rw [c3,c1]
    simp at *
    omega
  ·have stop:(l1=[]∨∃ c l2,l1=c::l2∧Yp c=false)→K h1:=fun hs=>hk h1 (by
     have:ZM l1=l1:=by
       rcases hs with rfl | ⟨c,l2,rfl,hc⟩
       ·rfl
       ·exact Zap hc
     rw [← e1,this];exact r1) u1 z1
   refine ZiZ r1 (Zo6 (Zbv r1 (fun hne=>?_) fun he=>stop (.inl he)))
   obtain ⟨c,l2,rfl⟩:=List.exists_cons_of_ne_nil hne
   have q:∀ {n:Int} (d:UInt8) {A B:Prop},n=(d.toNat:Int)→(c=d→A)→(c≠d→B)→Zs (XM (c::l2) ==n) A B:=fun {n} d {A B} hn ha hb=>by
     subst hn
     exact Yh (fun e=>ha (Zb9 e)) fun e=>hb (Zde e)
   refine ZkB r1 (q 32 rfl (fun e=>⟨rfl,c,l2,rfl,by rw [e];rfl⟩) fun n1=>ZkB r1 (q 9 rfl (fun e=>⟨rfl,c,l2,rfl,by rw [e];rfl⟩) fun n2=>ZkB r1 (q 10 rfl (fun e=>⟨rfl,c,l2,rfl,by rw [e];rfl⟩) fun n3 =>
     ZkB r1 (q 13 rfl (fun e=>⟨rfl,c,l2,rfl,by rw [e];rfl⟩) fun n4=>stop (.inr ⟨c,l2,rfl,by simp [Yp,n1,n2,n3,n4]⟩)))))
theorem Zl2 (hr:Rf h R s e l) (he:e≠0) {K:HP} (hk:K h):Zt (At R) K h:=by
  unfold Zt YN
  refine Zx (fun _ h'=>h'=h) (fun _ _=>0) rfl ?_
  rintro ⟨⟩ h1 rfl
  exact Zr (fun _ _=>False) (fun _ _ h=>h.elim) (ZiZ hr (ZuC he hk))
theorem Zf7 (hr:Rf h R s 0 l) {c:UInt8} {n:Int} (hn:n=c.toNat) (hc:0<c.toNat) {K:HP} (hk:∀ h',ZcK h' R s (XL [c] l)→Upd (· = R) h h'→sz h'=sz h→K h'):Zu (At R) n K h:=by
  unfold Zu Y3
  refine ZiZ hr (ZqV (ZfB hr (fun he=>?_) fun hne=>?_))
  ·subst he
   exact Xq (α:=Unit) hr (e:=20) (by decide) rfl hk
  ·obtain ⟨d,l',rfl⟩:=List.exists_cons_of_ne_nil hne
   refine ZkB hr ?_
   dsimp only
   refine Zfh c (fun hd=>?_) (fun l2 e2=>?_) hn hc
   ·refine Xq (α:=Unit) hr (e:=20) (by decide) rfl fun h' o u z=>hk h' ?_ u z
    show ZcK h' R s (if d=c then _ else _)
    rw [if_neg (hd d l' rfl)];exact o
   ·cases e2
    refine Zb6 hr fun h1 r1 u1 z1=>hk h1 ?_ u1 z1
    show ZcK h1 R s (if c=c then _ else _)
    rw [if_pos rfl];exact r1
theorem ZgJ (hr:Rf h R s e l) (he:e≠0) {n:Int} {K:HP} (hk:K h):Zu (At R) n K h:=by
  unfold Zu Y3
  exact ZiZ hr (Zst he hk)
theorem Zoa {w:ByteArray} {wl:BL} (hw:w.data.toList=wl) (hs:w.size≤10) (h0:∀ c∈wl,0<c.toNat) (hr:Rf h R s 0 l) {K:HP} (hk:∀ h',ZcK h' R s (XL wl l)→Upd (· = R) h h'→sz h'=sz h→K h'):Ye (At R) w K h:=by
  unfold Ye XS
  have hwl:wl.length=w.size:=by rw [← hw];simp
  refine Za ?_
  refine Zx (fun p h'=>∃ n:Nat,p.1=n∧n≤w.size∧Upd (· = R) h h'∧sz h'=sz h∧((∃ l',Rf h' R s 0 l'∧XL (wl.drop n) l'=XL wl l)∨∃ e r,e≠0∧Rf h' R s e r∧XL wl l = .err e r)) (fun p _=>w.size - p.1.toNat)
    ⟨0,rfl,Nat.zero_le _,Upd.refl _ _,rfl,.inl ⟨l,hr,rfl⟩⟩ ?_
  rintro ⟨i,u⟩ h2 ⟨n,hi,hn,u2,z2,hc⟩
  dsimp only at hi ⊢
  subst hi
  refine Zj (fun hlt=>?_) fun hge=>?_
  ·have hn':n<wl.length:=by omega
   have hd:wl.drop n=wl[n]::wl.drop (n+1):=List.drop_eq_getElem_cons hn'
   have hx:w[n]?=some wl[n]:=by
     subst hw
     rw [getElem?_pos w n (by omega)]
     simp
     rfl
   refine ⟨wl[n],by omega,by rw [Int.toNat_natCast];exact hx,?_⟩
   rcases hc with ⟨l',r',q'⟩ | ⟨e,r,he,r',q'⟩
   ·refine Zf7 r' rfl (h0 _ (List.getElem_mem hn')) fun h3 o3 u3 z3=>Za ?_
    rw [ZJ (by omega) (by omega)]
    refine ⟨⟨n+1,rfl,by omega,u2.trans u3,z3.trans z2,?_⟩,by omega⟩
    rw [hd] at q'
    rcases l' with _ | ⟨d,l'⟩
    ·exact .inr ⟨24,[],by decide,o3.2,by rw [← q'];rfl⟩
    ·by_cases hdc:d=wl[n]
     ·left
      refine ⟨l',?_,?_⟩
      ·have:XL [wl[n]] (d::l') = .ok () l':=by
         show (if d=wl[n] then _ else _)=_
         rw [if_pos hdc];rfl
       rw [this] at o3;exact o3
      ·rw [← q']
       show _=(if d=wl[n] then _ else _)
       rw [if_pos hdc]
     ·right
      have:∀ w',XL (wl[n]::w') (d::l') = .err 20 (d::l'):=fun w'=>by
        show (if d=wl[n] then _ else _)=_
        rw [if_neg hdc]
      rw [this] at o3 q'
      exact ⟨20,d::l',by decide,o3.2,q'.symm⟩
   ·refine ZgJ r' he (Za ?_)
    rw [ZJ (by omega) (by omega)]
    exact ⟨⟨n+1,rfl,by omega,u2,z2,.inr ⟨e,r,he,r',q'⟩⟩,by omega⟩
  ·have hn':n=wl.length:=by omega
   subst hn'
   refine hk h2 ?_ u2 z2
   rcases hc with ⟨l',r',q'⟩ | ⟨e,r,he,r',q'⟩
   ·rw [List.drop_length] at q'
    rw [← q'];exact r'
   ·rw [q'];exact ⟨he,r'⟩
theorem ZjU {c:Int} {K:Bool→HP} (hk:K (decide (48≤c∧c≤57)) h):ZO c K h:=by
  unfold ZO Zbd
  refine Zj (fun h1=>Zd ?_) fun h1=>?_
  ·rw [show decide (c≤57)=decide (48≤c∧c≤57) by simp;omega];exact hk
  ·rw [show decide (48≤c∧c≤57)=false by simp;omega] at hk;exact hk
theorem ZwG {c:Int} {K:Bool × Unit→Prop} (hk:K (decide (48≤c∧c≤57),())):ZbR (ρ:=Bool × Unit) (fun K h=>ZO c (fun q h=>K (q,()) h) h) h K :=
  ⟨(decide (48≤c∧c≤57),()),ZjU ⟨rfl,rfl⟩,hk⟩
theorem ZiB (c:UInt8):decide ((48:Int)≤(c.toNat:Int)∧(c.toNat:Int)≤57)=Xn c:=by
  unfold Xn
  rw [← Bool.decide_and]
  congr 1
  apply propext
  omega
theorem Ze2 (hr:Rf h R s 0 l) {K:HP} (hk:∀ h',ZcK h' R s (Ym l)→Upd (· = R) h h'→sz h'=sz h→K h'):Z4 (At R) K h:=by
  unfold Z4 Xv
  refine ZiZ hr (ZqV (ZfB hr (fun he=>?_) fun hne=>?_))
  ·subst he
   exact Xq (α:=Unit) hr (e:=21) (by decide) rfl hk
  ·obtain ⟨c,l',rfl⟩:=List.exists_cons_of_ne_nil hne
   refine ZkB hr (ZwG ?_)
   show Zs (!decide ((48:Int)≤(c.toNat:Int)∧(c.toNat:Int)≤57)) _ _
   rw [ZiB]
   cases hd:Xn c with
   | false =>
     refine Zm rfl (Xq (α:=Unit) hr (e:=21) (by decide) rfl fun h' o u z=>hk h' ?_ u z)
     show ZcK h' R s (if Xn c=true then _ else _)
     rw [if_neg (by simp [hd])];exact o
   | true =>
     have hq:Ym (c::l') = .ok () (l'.dropWhile Xn):=by
       show (if Xn c=true then _ else _)=_
       rw [if_pos hd]
     refine Zn rfl ?_
     refine Zx (fun _ h'=>∃ l2,Rf h' R s 0 l2∧l2.dropWhile Xn=l'.dropWhile Xn∧Upd (· = R) h h'∧sz h'=sz h) (fun _ h'=>match obj h' R with
       | some (.cells c _ _)=>(match c.toList with
         | [.string s,.int _ n,_]=>s.size - n.toNat
         | _=>0)
       | _=>0) ⟨c::l',hr,by rw [List.dropWhile_cons_of_pos hd],Upd.refl _ _,rfl⟩ ?_
     rintro ⟨⟩ h1 ⟨l1,r1,e1,u1,z1⟩
     have stop:(l1=[]∨∃ c l2,l1=c::l2∧Xn c=false)→K h1:=fun hs=>hk h1 (by
       rw [hq,← e1]
       have:l1.dropWhile Xn=l1:=by
         rcases hs with rfl | ⟨c,l2,rfl,hc⟩
         ·rfl
         ·rw [List.dropWhile_cons_of_neg (by simp [hc])]
       rw [this];exact r1) u1 z1
     refine Zbv r1 (fun hne=>?_) fun he=>stop (.inl he)
     obtain ⟨d,l2,rfl⟩:=List.exists_cons_of_ne_nil hne
     refine ZkB r1 (ZwG ?_)
     show Zs (decide ((48:Int)≤(d.toNat:Int)∧(d.toNat:Int)≤57)) _ _
     rw [ZiB]
     cases hd2:Xn d with
     | false=>exact Zn rfl (stop (.inr ⟨d,l2,rfl,hd2⟩))
     | true =>
       refine Zm rfl (Zb6 r1 fun h3 r3 u3 z3=>⟨⟨l2,r3,?_,u1.trans u3,z3.trans z1⟩,?_⟩)
       ·rw [← e1,List.dropWhile_cons_of_pos hd2]
       ·obtain ⟨_,n3,c3,g3⟩:=r3
        obtain ⟨_,n1,c1,g1⟩:=r1
        have:=g3.len
        have:=g1.len
        rw [c3,c1]
        simp at *
        omega
end
theorem ZcT {α:Type} {h:Zc} {R:Nat} {s:ByteArray} {x:Out α} (ho:ZcK h R s x):(∃ a r,x = .ok a r∧Rf h R s 0 r)∨∃ e r,x = .err e r∧e≠0∧Rf h R s e r:=by
  cases x with
  | ok a r=>exact .inl ⟨a,r,rfl,ho⟩
  | err e r=>exact .inr ⟨e,r,rfl,ho⟩
section
variable {h:Zc} {R:Nat} {s:ByteArray} {l:BL}
theorem Zlx (hr:Rf h R s 0 l) {K:ByteArray→HP} (hk:∀ t h',ZcK h' R s (ZdN l)→(∀ r,ZdN l = .ok () r→t=Ze (upto l r))→Upd (· = R) h h'→sz h'=sz h→K t h'):Yj (At R) K h:=by
  unfold Yj Xt
  refine Zgz hr fun n0 g0=>Za ?_
  refine Zr (fun _ h'=>Rf h' R s 0 (Zal l)∧Upd (· = R) h h'∧sz h'=sz h) ?_ ?_
  ·rintro ⟨⟩ h1 ⟨r1,u1,z1⟩
   refine Zr (fun p h'=>h'=h1∧(p.1=true↔∃ l',Zal l=48::l')) ?_ ?_
   ·rintro ⟨b,u⟩ h2 ⟨rfl,hb⟩
    dsimp only at hb ⊢
    refine Zr (fun _ h'=>ZcK h' R s (ZfJ (Zal l))∧Upd (· = R) h h'∧sz h'=sz h) ?_ ?_
    ·rintro ⟨⟩ h3 ⟨o3,u3,z3⟩
     refine Zr (fun _ h'=>ZcK h' R s ((ZfJ (Zal l)).bind fun _ l1=>ZdS l1)∧Upd (· = R) h h'∧sz h'=sz h) ?_ ?_
     ·rintro ⟨⟩ h4 ⟨o4,u4,z4⟩
      refine Zr (fun _ h'=>ZcK h' R s (ZdN l)∧Upd (· = R) h h'∧sz h'=sz h) ?_ ?_
      ·rintro ⟨⟩ h5 ⟨o5,u5,z5⟩
       have fin:∀ {e:Nat} {r:BL},Rf h5 R s e r→r <:+l→(∀ r',ZdN l = .ok () r'→r'=r)→Zb (At R) fun b123 o124=>ldS h5 b123 o124 fun t125=>Zb (At R) fun b126 o127=>ldI h5 b126 (o127+1) .i64 fun t128=>Zlg t125 n0 t128 fun t129=>K t129 h5:=fun {e r} r5 hsuf hq=>by
         refine Zrq r5 (Zgz r5 fun n5 g5=>?_)
         have hle:n0≤n5:=by have:=g0.len;have:=g5.len;have:=hsuf.length_le;omega
         refine ⟨by omega,by omega,by have:=g5.len;omega,?_⟩
         rw [Int.toNat_natCast,Int.toNat_natCast,g0.extract g5 hle]
         exact hk _ h5 o5 (fun r' hr'=>by rw [hq r' hr']) u5 z5
       rcases ZcT o5 with ⟨_,r,q,r5⟩ | ⟨e,r,q,he,r5⟩
       ·exact fin r5 (Zfe.sf.suf q) fun r' hr'=>by rw [q] at hr';cases hr';rfl
       ·exact fin r5 (Zfe.sf.esuf q).1 fun r' hr'=>by rw [q] at hr';cases hr'
      ·
       have hnum:ZdN l=((ZfJ (Zal l)).bind fun _ l1=>ZdS l1).bind fun _ l2=>Zgi l2:=by
         unfold ZdN
         cases ZfJ (Zal l)<;>rfl
       rcases ZcT o4 with ⟨_,r,q,r4⟩ | ⟨e,r,q,he,r4⟩
       ·rw [q] at hnum
        have hn2:ZdN l=Zgi r:=hnum
        rw [hn2]
        refine Zr (fun p h'=>h'=h4∧(p.1=true↔∃ c l',r=c::l'∧(c=101∨c=69))) ?_ ?_
        ·rintro ⟨b,u⟩ h5 ⟨rfl,hb⟩
         dsimp only at hb ⊢
         cases hbb:b with
         | false =>
           refine Zn rfl ⟨?_,u4,z4⟩
           have:Zgi r = .ok () r:=by
             rcases r with _ | ⟨c,l'⟩
             ·rfl
             ·show (if c=101∨c=69 then _ else _)=_
              rw [if_neg fun hc=>by rw [hb.2 ⟨c,l',rfl,hc⟩] at hbb;cases hbb]
           rw [this];exact r4
         | true =>
           obtain ⟨c,l',rfl,hc⟩:=hb.1 hbb
           have hx:Zgi (c::l')=Ym (Zfm l'):=by
             show (if c=101∨c=69 then _ else _)=_
             rw [if_pos hc]
           rw [hx]
           have dg:∀ {h6:Zc} {l6:BL},Rf h6 R s 0 l6→Zfm l'=l6→Upd (· = R) h5 h6→sz h6=sz h5→Z4 (At R) (fun h8=>ZcK h8 R s (Ym (Zfm l'))∧Upd (· = R) h h8∧sz h8=sz h) h6:=fun r6 hl u6 z6 =>
             Ze2 r6 fun h7 o7 u7 z7=>⟨by rw [hl];exact o7,(u4.trans u6).trans u7,z7.trans (z6.trans z4)⟩
           refine Zm rfl (Zb6 r4 fun h6 r6 u6 z6=>Zbv r6 (fun hne=>?_) fun he=>?_)
           ·obtain ⟨d,l2,rfl⟩:=List.exists_cons_of_ne_nil hne
            refine ZkB r6 ?_
            refine Yh (fun e43=>Zb6 r6 fun h7 r7 u7 z7=>dg r7 ?_ (u6.trans u7) (z7.trans z6)) fun e43=>ZkB r6 (Yh (fun e45=>Zb6 r6 fun h7 r7 u7 z7=>dg r7 ?_ (u6.trans u7) (z7.trans z6)) fun e45=>dg r6 ?_ u6 z6)
            ·show (if d=43∨d=45 then _ else _)=_
             rw [if_pos (.inl (Zb9 (d:=43) e43))]
            ·show (if d=43∨d=45 then _ else _)=_
             rw [if_pos (.inr (Zb9 (d:=45) e45))]
            ·show (if d=43∨d=45 then _ else _)=_
             rw [if_neg fun hc=>hc.elim (Zde (d:=43) e43) (Zde (d:=45) e45)]
           ·subst he
            exact dg r6 rfl u6 z6
        ·refine ZiZ r4 (Zo6 (Zbv r4 (fun hne=>?_) fun he=>⟨rfl,by subst he;simp⟩))
         obtain ⟨d,l2,rfl⟩:=List.exists_cons_of_ne_nil hne
         refine ZkB r4 (Yh (fun e1=>⟨rfl,?_⟩) fun e1=>ZkB r4 ⟨rfl,?_⟩)
         ·simp only [true_iff]
          exact ⟨d,l2,rfl,.inl (Zb9 (d:=101) e1)⟩
         ·constructor
          ·intro hb
           exact ⟨d,l2,rfl,.inr (Zb9 (d:=69) (beq_iff_eq.1 hb))⟩
          ·rintro ⟨c,l',e,hc⟩
           cases e
           rcases hc with hc | hc
           ·exact absurd (by rw [hc];rfl) e1
           ·rw [hc];rfl
       ·rw [q] at hnum
        refine Zr (fun p h'=>h'=h4∧p.1=false) ?_ (ZiZ r4 (ZuC he ⟨rfl,rfl⟩))
        rintro ⟨b,u⟩ h5 ⟨rfl,hb⟩
        dsimp only at hb ⊢
        exact Zn hb ⟨by rw [hnum];exact ⟨he,r4⟩,u4,z4⟩
     ·
      rcases ZcT o3 with ⟨_,r,q,r3⟩ | ⟨e,r,q,he,r3⟩
      ·rw [q]
       show Zb _ _
       refine ZiZ r3 (Zo6 (Zbv r3 (fun hne=>?_) fun he=>⟨by subst he;exact r3,u3,z3⟩))
       obtain ⟨d,l2,rfl⟩:=List.exists_cons_of_ne_nil hne
       have hf:∀ {x},(.ok () (d::l2):Out Unit).bind (fun _ l1=>ZdS l1)=x↔(if d=46 then Ym l2 else .ok () (d::l2))=x:=Iff.rfl
       refine ZkB r3 (Yh (fun e1=>Zb6 r3 fun h4 r4 u4 z4=>Ze2 r4 fun h5 o5 u5 z5=>⟨?_,(u3.trans u4).trans u5,z5.trans (z4.trans z3)⟩) fun e1=>⟨?_,u3,z3⟩)
       ·show ZcK h5 R s (if d=46 then _ else _)
        rw [if_pos (Zb9 (d:=46) e1)];exact o5
       ·show ZcK h3 R s (if d=46 then _ else _)
        rw [if_neg (Zde (d:=46) e1)];exact r3
      ·rw [q]
       exact ZiZ r3 (ZuC he ⟨⟨he,r3⟩,u3,z3⟩)
    ·
     cases hbb:b with
     | true =>
       obtain ⟨l',e⟩:=hb.1 hbb
       rw [e] at r1 ⊢
       refine Zm rfl (Zb6 r1 fun h3 r3 u3 z3=>?_)
       have hi:ZfJ (48::l')=Za3 l':=rfl
       rw [hi]
       refine Zbv r3 (fun hne=>?_) fun he=>⟨by subst he;exact r3,u1.trans u3,z3.trans z1⟩
       obtain ⟨d,l2,rfl⟩:=List.exists_cons_of_ne_nil hne
       refine ZkB r3 (ZwG ?_)
       show Zs (decide ((48:Int)≤(d.toNat:Int)∧(d.toNat:Int)≤57)) _ _
       rw [ZiB]
       cases hd:Xn d with
       | true =>
         refine Zm rfl (Xq (α:=Unit) r3 (e:=21) (by decide) rfl fun h4 o4 u4 z4=>⟨?_,(u1.trans u3).trans u4,z4.trans (z3.trans z1)⟩)
         show ZcK h4 R s (if Xn d=true then _ else _)
         rw [if_pos hd];exact o4
       | false =>
         refine Zn rfl ⟨?_,u1.trans u3,z3.trans z1⟩
         show ZcK h3 R s (if Xn d=true then _ else _)
         rw [if_neg (by simp [hd])];exact r3
     | false =>
       refine Zn rfl (Ze2 r1 fun h3 o3 u3 z3=>⟨?_,u1.trans u3,z3.trans z1⟩)
       have:ZfJ (Zal l)=Ym (Zal l):=by
         cases hm:Zal l with
         | nil=>rfl
         | cons d l2 =>
           show (if d=48 then _ else _)=_
           rw [if_neg fun hd=>by rw [hb.2 ⟨l2,by rw [hm,hd]⟩] at hbb;cases hbb]
       rw [this];exact o3
   ·refine Zbv r1 (fun hne=>?_) fun he=>⟨rfl,by rw [he];simp⟩
    obtain ⟨d,l2,e⟩:=List.exists_cons_of_ne_nil hne
    rw [e] at r1
    refine ZkB r1 (Zd ⟨rfl,?_⟩)
    rw [e]
    constructor
    ·intro hb
     exact ⟨l2,by rw [Zb9 (c:=d) (d:=48) (beq_iff_eq.1 hb)]⟩
    ·rintro ⟨l',e2⟩
     cases e2;rfl
  ·refine Zdx hr (Zcm 45 (fun l' e=>?_) fun hn=>?_)
   ·subst e
    exact Zb6 hr fun h1 r1 u1 z1=>⟨r1,u1,z1⟩
   ·have hm:Zal l=l:=by
      rcases l with _ | ⟨d,l⟩
      ·rfl
      ·show (if d=45 then _ else _)=_
       rw [if_neg (hn d l rfl)]
    exact ⟨by rw [hm];exact hr,Upd.refl _ _,rfl⟩
theorem ZlI (hr:Rf h R s 0 l) {K:Int→HP} (hk:∀ (n:Int) h',ZcK h' R s (Zcl 4 0 l)→(∀ m r,Zcl 4 0 l = .ok m r→n=(m:Int))→(∀ e r,Zcl 4 0 l = .err e r→n=0)→Upd (· = R) h h'→sz h'=sz h→K n h'):Z2 (At R) K h:=by
  unfold Z2 X1
  refine Za (Za (Za ?_))
  refine Zx (fun p h'=>∃ (N k:Nat) (l':BL),p.1=N∧p.2.1=((4 - k:Nat):Int)∧k≤4∧N<16 ^ (4 - k)∧Zcl k N l'=Zcl 4 0 l∧Rf h' R s 0 l'∧Upd (· = R) h h'∧sz h'=sz h) (fun p _=>(4 - p.2.1).toNat) ⟨0,4,l,rfl,rfl,by omega,by decide,rfl,hr,Upd.refl _ _,rfl⟩ ?_
  rintro ⟨n1,s5,u⟩ h2 ⟨N,k,l2,e1,e2,hk',hN,q2,r2,u2,z2⟩
  dsimp only at e1 e2 ⊢
  subst e1 e2
  refine Zj (fun hlt=>?_) fun hge=>?_
  ·obtain ⟨k,rfl⟩:∃ k',k=k'+1:=⟨k - 1,by omega⟩
   have hN2:N<65536:=by
     have:16 ^ (4 - (k+1))≤16 ^ 4:=Nat.pow_le_pow_right (by decide) (by omega)
     omega
   refine ZiZ r2 (Zo6 (Zdx r2 (Za ?_)))
   refine Zr (fun p h'=>h'=h2∧∃ c l3 d,l2=c::l3∧ZfK c=some d∧p.1=((N*16+d:Nat):Int)) ?_ ?_
   ·rintro ⟨n,u⟩ h3 ⟨rfl,c,l3,d,rfl,hd,hn⟩
    dsimp only at hn ⊢
    subst hn
    refine Zb6 r2 fun h4 r4 u4 z4=>Za ?_
    rw [ZJ (by omega) (by omega)]
    refine ⟨⟨N*16+d,k,l3,rfl,by omega,by omega,?_,?_,r4,u2.trans u4,z4.trans z2⟩,by omega⟩
    ·have h16:=ZmJ hd
     rw [show 4 - k=(4 - (k+1))+1 by omega,Nat.pow_succ]
     omega
    ·rw [← q2,Zf9,hd]
   ·have bad:(∀ c l3,l2=c::l3→ZfK c=none)→Zk (At R) 22 (fun h41=>Zl 0 fun t42=>K t42 h41) h2:=fun hno=>by
      refine Xq (α:=Nat) r2 (e:=22) (by decide) rfl fun h3 o3 u3 z3=>Za ?_
      have hq:Zcl 4 0 l=XW 22 l2:=by
        rw [← q2]
        rcases l2 with _ | ⟨c,l3⟩
        ·rfl
        ·rw [Zf9,hno c l3 rfl];rfl
      refine hk 0 h3 (by rw [hq];exact o3) (fun m r hm=>?_) (fun _ _ _=>rfl) (u2.trans u3) (z3.trans z2)
      rw [hq] at hm
      cases l2<;>cases hm
    rcases l2 with _ | ⟨c,l3⟩
    ·have hb:=bad fun c l3 e=>by cases e
     refine Zr (fun p h'=>h'=h2∧p.1=false) ?_ (Zbv r2 (fun hne=>absurd rfl hne) fun _=>⟨rfl,rfl⟩)
     rintro ⟨b,u⟩ h3 ⟨rfl,hb3⟩
     dsimp only at hb3 ⊢
     refine Zn hb3 (Zr (fun p h'=>h'=h3∧p.1=false) ?_ (Zbv r2 (fun hne=>absurd rfl hne) fun _=>⟨rfl,rfl⟩))
     rintro ⟨b,u⟩ h4 ⟨rfl,hb4⟩
     dsimp only at hb4 ⊢
     exact Zn hb4 (Zbv r2 (fun hne=>absurd rfl hne) fun _=>hb)
    ·have hne:c::l3≠[]:=by simp
     have hz:XM (c::l3)=(c.toNat:Int):=rfl
     generalize XM (c::l3)=z at hz ⊢
     subst hz
     refine Zr (fun p h'=>h'=h2∧p.1=Xn c) ?_ (Zbv r2 (fun _=>ZwG (Zd ⟨rfl,ZiB c⟩)) fun he=>by cases he)
     rintro ⟨b,u⟩ h3 ⟨rfl,hb3⟩
     dsimp only at hb3 ⊢
     subst hb3
     have dd:Xn c=true↔48≤c.toNat∧c.toNat≤57:=ZcI
     by_cases hd:Xn c=true
     ·have hcc:=dd.1 hd
      refine Zm hd (Za ⟨rfl,c,l3,c.toNat - 48,rfl,?_,?_⟩)
      ·rcases ZdQ c with ⟨_,_,hx⟩ | ⟨a0,_⟩ | ⟨a0,_⟩ | ⟨a0,_⟩
       ·exact hx
       ·exact absurd hcc a0
       ·exact absurd hcc a0
       ·exact absurd hcc a0
      ·rw [Zk5 (by omega) (by omega),ZJ (n:=(c.toNat:Int) - 48) (by omega) (by omega),ZJ (n:=(N:Int)*16) (by omega) (by omega),ZJ (by omega) (by omega)]
       omega
     ·have hcc:¬ (48≤c.toNat∧c.toNat≤57):=fun h=>hd (dd.2 h)
      refine Zn (by simpa using hd) ?_
      refine Zr (fun p h'=>h'=h3∧p.1=decide (97≤c.toNat∧c.toNat≤102)) ?_ (Zbv r2 (fun _=>Zj (p:=(c.toNat:Int)≥97) (fun h1=>Zd ⟨rfl,by rw [decide_eq_decide];omega⟩) (fun h1=>⟨rfl,by have h9:¬ (97≤c.toNat∧c.toNat≤102):=(fun h9=>h1 (show (c.toNat:Int)≥97 by omega));simp [h9]⟩)) (fun he=>by cases he))
      rintro ⟨b,u⟩ h4 ⟨rfl,hb4⟩
      dsimp only at hb4 ⊢
      subst hb4
      by_cases h2':97≤c.toNat∧c.toNat≤102
      ·refine Zm (by simp [h2']) (Za ⟨rfl,c,l3,c.toNat - 87,rfl,?_,?_⟩)
       ·rcases ZdQ c with ⟨a0,a1,_⟩ | ⟨_,_,_,hx⟩ | ⟨_,b0,_⟩ | ⟨_,b0,_⟩
        ·exact absurd ⟨a0,a1⟩ hcc
        ·exact hx
        ·exact absurd h2' b0
        ·exact absurd h2' b0
       ·rw [Zk5 (by omega) (by omega),ZJ (n:=(c.toNat:Int) - 97) (by omega) (by omega),ZJ (n:=(N:Int)*16) (by omega) (by omega),ZJ (n:=(N:Int)*16+_) (by omega) (by omega),ZJ (by omega) (by omega)]
        omega
      ·have hb:¬ (65≤c.toNat∧c.toNat≤70)→Zk (At R) 22 (fun h41=>Zl 0 fun t42=>K t42 h41) h4:=fun h3'=>bad fun c' l3' e=>by
         cases e
         rcases ZdQ c with ⟨a0,a1,_⟩ | ⟨_,b0,b1,_⟩ | ⟨_,_,c0,c1,_⟩ | ⟨_,_,_,hx⟩
         ·exact absurd ⟨a0,a1⟩ hcc
         ·exact absurd ⟨b0,b1⟩ h2'
         ·exact absurd ⟨c0,c1⟩ h3'
         ·exact hx
       refine Zn (by simp [h2']) (Zbv r2 (fun _=>Zj (fun h65=>Zd (Zj (fun h70=>Za ⟨rfl,c,l3,c.toNat - 55,rfl,?_,?_⟩) fun h70=>hb (by omega))) fun h65=>hb (by omega)) fun he=>by cases he)
       ·rcases ZdQ c with ⟨a0,a1,_⟩ | ⟨_,b0,b1,_⟩ | ⟨_,_,_,_,hx⟩ | ⟨_,_,c0,_⟩
        ·exact absurd ⟨a0,a1⟩ hcc
        ·exact absurd ⟨b0,b1⟩ h2'
        ·exact hx
        ·exact absurd (by omega) c0
       ·rw [Zk5 (by omega) (by omega),ZJ (n:=(c.toNat:Int) - 65) (by omega) (by omega),ZJ (n:=(N:Int)*16) (by omega) (by omega),ZJ (n:=(N:Int)*16+_) (by omega) (by omega),ZJ (by omega) (by omega)]
        omega
  ·obtain rfl:k=0:=by omega
   have hq:Zcl 4 0 l = .ok N l2:=by rw [← q2];rfl
   refine Za (hk N h2 (by rw [hq];exact r2) (fun m r hm=>?_) (fun e r hm=>?_) u2 z2)
   ·rw [hq] at hm;cases hm;rfl
   ·rw [hq] at hm;cases hm
end
theorem ZqF {a b c d:UInt8} (r:BL):(∃ m,Zcl 4 0 (a::b::c::d::r) = .ok m r∧Zcl 4 0 [a,b,c,d] = .ok m [])∨(∃ e q e' q',Zcl 4 0 (a::b::c::d::r) = .err e q∧Zcl 4 0 [a,b,c,d] = .err e' q'):=by
  simp only [Zcl]
  cases ZfK a with
  | none=>exact .inr ⟨_,_,_,_,rfl,rfl⟩
  | some x =>
    simp only
    cases ZfK b with
    | none=>exact .inr ⟨_,_,_,_,rfl,rfl⟩
    | some x =>
      simp only
      cases ZfK c with
      | none=>exact .inr ⟨_,_,_,_,rfl,rfl⟩
      | some x =>
        simp only
        cases ZfK d with
        | none=>exact .inr ⟨_,_,_,_,rfl,rfl⟩
        | some x=>exact .inl ⟨_,rfl,rfl⟩
theorem ZoI {l:BL} (h:l.length<4):∃ e q,Zcl 4 0 l = .err e q:=by
  cases hx:Zcl 4 0 l with
  | ok m r=>have:=(ZaZ 4 hx).1;omega
  | err e q=>exact ⟨e,q,rfl⟩
section
variable {h:Zc} {R:Nat} {s:ByteArray} {l:BL}
theorem Zr7 (hr:Rf h R s 0 l) {K:Int→HP} (hk:∀ h',Ext h h'→K (match Zic l with | some (m,_)=>(m:Int) | none=>0) h'):Z9 (At R) K h:=by
  unfold Z9 Y7
  have hll:=hr.len
  have no:Zic l=none→K 0 h:=fun e=>by have:=hk h (Ext.refl _);rw [e] at this;exact this
  refine Za (Zgz hr fun n hn=>Zrq hr ?_)
  have hnl:=hn.len
  rw [ZJ (by omega) (by omega)]
  refine Zj (fun hgt=>Za (no ?_)) fun hle=>?_
  ·unfold Zic
   cases hb:X3 l with
   | none=>rfl
   | some l2 =>
     have e:=Zaf hb
     obtain ⟨e',q,hx⟩:=ZoI (l:=l2) (by rw [e] at hnl;simp at hnl;omega)
     simp only [hx]
  ·obtain ⟨a,b,c1,c2,c3,c4,r,rfl⟩:∃ a b c1 c2 c3 c4 r,l=a::b::c1::c2::c3::c4::r:=by
     rcases l with _ | ⟨a,_ | ⟨b,_ | ⟨c1,_ | ⟨c2,_ | ⟨c3,_ | ⟨c4,r⟩⟩⟩⟩⟩⟩
     all_goals first | exact ⟨_,_,_,_,_,_,_,rfl⟩ | (exfalso;simp at hnl;omega)
   simp only [List.length_cons] at hnl
   refine Zrq hr (Zgz hr fun n1 hn1=>⟨a,by omega,by rw [Int.toNat_natCast];exact hn1.head,?_⟩)
   refine Xp (fun hne=>Za (no ?_)) fun heq=>?_
   ·unfold Zic;rw [Zb8,if_neg fun hh=>Zde (d:=92) hne hh.1]
   ·refine Zrq hr (Zgz hr fun n2 hn2=>?_)
    have hn2l:=hn2.len
    simp only [List.length_cons] at hn2l
    rw [ZJ (by omega) (by omega)]
    refine ⟨b,by omega,by rw [show ((n2:Int)+1).toNat=n2+1 by omega];exact hn2.tail.head,?_⟩
    refine Xp (fun hne=>Za (no ?_)) fun heq2=>?_
    ·unfold Zic;rw [Zb8,if_neg fun hh=>Zde (d:=117) hne hh.2]
    ·have ha:a=92:=Zb9 (d:=92) heq
     have hb:b=117:=Zb9 (d:=117) heq2
     obtain ⟨hs,n3,c,hn3⟩:=id hr
     have hn3l:=hn3.len
     simp only [List.length_cons] at hn3l
     refine Z7 (Z7 (Z7 (rS (Zi c rfl) (rI (Zi c rfl) ?_))))
     rw [ZJ (by omega) (by omega)]
     refine ⟨by omega,by omega,by omega,rI (Zi c rfl) ?_⟩
     rw [ZJ (n:=(n3:Int)+2) (by omega) (by omega)]
     refine ZaX fun h1 cx e1 z1=>?_
     refine YR (Zi (Z6 c e1) rfl) (YR (Zi (Z6 c e1) rfl) (YR (Zi (Z6 c e1) rfl) ?_))
     have hx:Rf h1 h.size (s.extract (0:Int).toNat ((n3:Int)+6).toNat) 0 [c1,c2,c3,c4]:=by
       have e6:((n3:Int)+6).toNat=n3+6:=by omega
       have hsz:(s.extract 0 (n3+6)).size=n3+6:=by rw [ByteArray.size_extract];omega
       refine ⟨by show (s.extract 0 ((n3:Int)+6).toNat).size≤_;rw [e6,hsz];omega,n3+2,cx,?_,?_⟩
       ·show (s.extract 0 ((n3:Int)+6).toNat).data.toList.drop (n3+2)=_
        rw [e6]
        have hd:s.data.toList.drop (n3+2)=c1::c2::c3::c4::r:=hn3.tail.tail.drop
        have:(s.extract 0 (n3+6)).data.toList=s.data.toList.take (n3+6):=by
          rw [ByteArray.data_extract,Array.toList_extract]
          simp
        rw [this,List.drop_take,hd,show n3+6 - (n3+2)=4 by omega]
        rfl
       ·show n3+2+4=(s.extract 0 ((n3:Int)+6).toNat).size
        rw [e6,hsz]
     refine ZlI hx fun n h2 o2 hok herr u2 z2=>Za ?_
     have e2:Ext h h2:=e1.updS u2 fun j hj=>by subst hj;exact Nat.le_refl _
     have hlow:Zic (a::b::c1::c2::c3::c4::r)=match Zcl 4 0 (c1::c2::c3::c4::r) with
       | .ok m l3=>if Zk2 m then some (m,l3) else none
       | .err _ _=>none:=by
       unfold Zic
       rw [Zb8,if_pos ⟨ha,hb⟩]
       rfl
     have key:=hk h2 e2
     rcases ZqF (a:=c1) (b:=c2) (c:=c3) (d:=c4) r with ⟨m,q1,q2⟩ | ⟨e,q,e',q',q1,q2⟩
     ·rw [q1] at hlow
      have hlow:Zic (a::b::c1::c2::c3::c4::r)=if Zk2 m=true then some (m,r) else none:=hlow
      rw [hok m _ q2]
      rw [q2] at o2
      obtain ⟨_,n4,cc4,_⟩:=id o2
      rw [hlow] at key
      refine rI (Zi cc4 rfl) (ZqV ?_)
      by_cases hlo:56320≤m∧m<57344
      ·rw [if_pos (show Zk2 m=true by simp [Zk2,hlo])] at key
       exact Zn (by simp;omega) (Zn (by simp;omega) (Za key))
      ·rw [if_neg (show ¬ Zk2 m=true by simp [Zk2];omega)] at key
       refine Zj (fun h1=>Za key) fun h1=>Zm (by simp;omega) (Za key)
     ·rw [q1] at hlow
      have hlow:Zic (a::b::c1::c2::c3::c4::r)=none:=hlow
      rw [q2] at o2
      obtain ⟨he,_,n4,cc4,_⟩:=id o2
      rw [hlow] at key
      exact rI (Zi cc4 rfl) (Zst he (Za key))
theorem ZrI {n k:Nat} (hk:k≤20):ZhO .i64 (n:Int) (k:Int)=((n / 2 ^ k:Nat):Int):=by
  unfold ZhO
  rw [Int.toNat_natCast,show min k IntKind.i64.bits=k from Nat.min_eq_left (by show k≤64;omega)]
  have:(2:Int) ^ k=((2 ^ k:Nat):Int):=by push_cast;rfl
  rw [this,Int.fdiv_eq_ediv_of_nonneg _ (Int.natCast_nonneg _)]
  rfl
theorem ZyF {n:Nat} (h:n<2147483648):Zht .i64 (n:Int) 63=((n % 64:Nat):Int):=by
  unfold Zht
  have hb:IntKind.i64.bits=64:=rfl
  rw [hb,show (63:Int)=((63:Nat):Int) from rfl,BitVec.ofInt_natCast,BitVec.ofInt_natCast,BitVec.toNat_and,BitVec.toNat_ofNat,BitVec.toNat_ofNat,Nat.mod_eq_of_lt (by omega),Nat.mod_eq_of_lt (by omega)]
  have:n &&& 63=n % 64:=Nat.and_two_pow_sub_one_eq_mod n 6
  rw [this,ZJ (by omega) (by omega)]
theorem Zy6 {c a:Nat} (hc:(c=128∧a<64)∨(c=192∧a<32)∨(c=224∧a<16)∨(c=240∧a<8)):orV .i64 (c:Int) (a:Int)=((c+a:Nat):Int):=by
  rcases hc with ⟨rfl,ha⟩ | ⟨rfl,ha⟩ | ⟨rfl,ha⟩ | ⟨rfl,ha⟩
  ·have:∀ b:Fin 64,orV .i64 ((128:Nat):Int) ((b.val:Nat):Int)=((128+b.val:Nat):Int):=by decide +kernel
   exact this ⟨a,ha⟩
  ·have:∀ b:Fin 32,orV .i64 ((192:Nat):Int) ((b.val:Nat):Int)=((192+b.val:Nat):Int):=by decide +kernel
   exact this ⟨a,ha⟩
  ·have:∀ b:Fin 16,orV .i64 ((224:Nat):Int) ((b.val:Nat):Int)=((224+b.val:Nat):Int):=by decide +kernel
   exact this ⟨a,ha⟩
  ·have:∀ b:Fin 8,orV .i64 ((240:Nat):Int) ((b.val:Nat):Int)=((240+b.val:Nat):Int):=by decide +kernel
   exact this ⟨a,ha⟩
theorem ZjW {n:Nat} (h:n<2147483648):Value.int .u8 (IntKind.wrap .u8 (orV .i64 (128:Int) (Zht .i64 (n:Int) 63)))=bv (UInt8.ofNat (128+n % 64)):=by
  rw [ZyF h,show (128:Int)=((128:Nat):Int) from rfl,Zy6 (.inl ⟨rfl,by omega⟩),w8,show (128+n % 64) % 256=128+n % 64 by omega]
  exact Zl1 (by omega)
theorem Zqv {n k c:Nat} (hk:k≤20) (hc:(c=128∧n / 2 ^ k<64)∨(c=192∧n / 2 ^ k<32)∨(c=224∧n / 2 ^ k<16)∨(c=240∧n / 2 ^ k<8)):Value.int .u8 (IntKind.wrap .u8 (orV .i64 (c:Int) (ZhO .i64 (n:Int) (k:Int))))=bv (UInt8.ofNat (c+n / 2 ^ k)):=by
  rw [ZrI hk]
  generalize n / 2 ^ k=q at hc ⊢
  rw [Zy6 hc,w8,show (c+q) % 256=c+q by omega]
  exact Zl1 (by omega)
theorem Zry {n:Nat} (hn:n<1114112) {n0:Int} (h0:n0=n) {K:ByteArray→HP} (hk:∀ h',Ext h h'→K (Ze (Zcc n)) h'):Xd n0 K h:=by
  subst h0
  unfold Xd ZbV
  have go:∀ (new:BL) (cells:List Value) (m:Nat),Zcc n=new→cells=new.map bv→m=new.length→newC h cells 5 fun b h1=>b2s ⟨some ⟨b,0,none⟩,m,m⟩ h1 fun t=>K t h1:=by
    intro new cells m hu hc hm
    have h4:=Zez n
    rw [hu] at h4
    refine Zs6 new m hc hm.symm (by omega) fun b h1 hr e1 _=>Zgg hr ?_
    have:=hk h1 e1
    rwa [hu] at this
  refine Zd (Zj (fun h1=>?_) fun h1=>Zd (Zj (fun h2=>⟨by decide,?_⟩) fun h2=>Zd (Zj (fun h3=>⟨by decide,by decide,?_⟩) fun h3=>⟨by decide,by decide,by decide,?_⟩)))
  ·refine go [UInt8.ofNat n] _ 1 (by unfold Zcc;rw [if_pos (by omega)]) ?_ rfl
   rw [w8,show n % 256=n by omega,Zl1 (by omega)];rfl
  ·refine go [UInt8.ofNat (192+n / 64),UInt8.ofNat (128+n % 64)] _ 2 (by unfold Zcc;rw [if_neg (by omega),if_pos (by omega)]) ?_ rfl
   rw [ZjW (by omega),show ((192:Int))=((192:Nat):Int) from rfl,show ((6:Int))=((6:Nat):Int) from rfl,Zqv (by omega) (.inr (.inl ⟨rfl,by omega⟩))];rfl
  ·refine go [UInt8.ofNat (224+n / 4096),UInt8.ofNat (128+n / 64 % 64),UInt8.ofNat (128+n % 64)] _ 3 (by unfold Zcc;rw [if_neg (by omega),if_neg (by omega),if_pos (by omega)]) ?_ rfl
   rw [ZjW (by omega),show ((224:Int))=((224:Nat):Int) from rfl,show ((6:Int))=((6:Nat):Int) from rfl,show ((12:Int))=((12:Nat):Int) from rfl,Zqv (by omega) (.inr (.inr (.inl ⟨rfl,by omega⟩))),ZrI (by omega),ZjW (by omega)];rfl
  ·refine go [UInt8.ofNat (240+n / 262144),UInt8.ofNat (128+n / 4096 % 64),UInt8.ofNat (128+n / 64 % 64),UInt8.ofNat (128+n % 64)] _ 4 (by unfold Zcc;rw [if_neg (by omega),if_neg (by omega),if_neg (by omega)]) ?_ rfl
   rw [ZjW (by omega),show ((240:Int))=((240:Nat):Int) from rfl,show ((6:Int))=((6:Nat):Int) from rfl,show ((12:Int))=((12:Nat):Int) from rfl,show ((18:Int))=((18:Nat):Int) from rfl,
     Zqv (by omega) (.inr (.inr (.inr ⟨rfl,by omega⟩))),ZrI (k:=12) (by omega),ZrI (k:=6) (by omega),ZjW (by omega),ZjW (by omega)];rfl
theorem Znh {c:UInt8} {n:Int} (hn:n=c.toNat) {K:Int→Int→Int→HP} (hk:K (nRb c) (loR c) (hiR c) h):Yo n K h:=by
  subst hn
  unfold Yo ZaU
  have lf:∀ (a b d:Nat),Zgr c.toNat=(a,b,d)→K a b d h:=fun a b d e=>by
    have:=hk
    unfold nRb loR hiR at this
    rw [e] at this;exact this
  have hc:=c.toNat_lt
  refine Za (Za (Za (Zd (Zj (fun h1=>?_) fun h1=>?_))))
  ·exact Za (Za (Za (lf 1 0 0 (by unfold Zgr;rw [if_pos (by omega)]))))
  refine Zr (fun p h'=>h'=h∧p.1=decide (194≤c.toNat∧c.toNat≤223)) ?_ (Zj (p:=(c.toNat:Int)≥194) (fun h1=>Zd ⟨rfl,by rw [decide_eq_decide];omega⟩) (fun h1=>⟨rfl,by
    have:¬ (194≤c.toNat∧c.toNat≤223):=fun h9=>h1 (show (c.toNat:Int)≥194 by omega)
    simp [this]⟩))
  rintro ⟨b,u⟩ h2 ⟨rfl,hb⟩
  dsimp only at hb ⊢
  subst hb
  by_cases h2':194≤c.toNat∧c.toNat≤223
  ·exact Zm (by simp [h2']) (Za (Za (Za (lf 2 128 191 (by unfold Zgr;rw [if_neg (by omega),if_pos (by omega)])))))
  refine Zn (by simp [h2']) ?_
  have fin4:¬ c.toNat=244→c.toNat≠240→¬ (241≤c.toNat∧c.toNat≤243)→c.toNat≠224→c.toNat≠237→¬ (225≤c.toNat∧c.toNat≤239)→Zgr c.toNat=(0,0,0):=fun a b d e f g=>by
    unfold Zgr
    rw [if_neg (by omega),if_neg (by omega),if_neg (by omega),if_neg (by omega),if_neg (by omega),if_neg (by omega),if_neg (by omega),if_neg (by omega)]
  have c244:c.toNat=244→Zgr c.toNat=(4,128,143):=fun e=>by rw [e];rfl
  have c240:c.toNat=240→Zgr c.toNat=(4,144,191):=fun e=>by rw [e];rfl
  have c241:241≤c.toNat∧c.toNat≤243→Zgr c.toNat=(4,128,191):=fun e=>by
    unfold Zgr
    rw [if_neg (by omega),if_neg (by omega),if_neg (by omega),if_neg (by omega),if_neg (by omega),if_neg (by omega),if_pos (by omega)]
  have eqN:∀ {n:Nat} {A B:Prop},(c.toNat=n→A)→(c.toNat≠n→B)→ZD ((c.toNat:Int) ==(n:Int)) fun t=>Zs t A B:=fun {n A B} ha hb=>Zd (Yh (fun e=>ha (by omega)) fun e=>hb (by omega))
  refine eqN (n:=224) (fun e=>Za (Za (Za (lf 3 160 191 (by rw [e];rfl))))) fun n224=>?_
  refine eqN (n:=237) (fun e=>Za (Za (Za (lf 3 128 159 (by rw [e];rfl))))) fun n237=>?_
  refine Zj (p:=(c.toNat:Int)≥225) (fun g225=>?_) fun g225=>?_
  ·refine Zd (Zj (p:=(c.toNat:Int)≤239) (fun g239=>?_) fun g239=>?_)
   ·exact Za (Za (Za (lf 3 128 191 (by
      unfold Zgr
      rw [if_neg (by omega),if_neg (by omega),if_neg (by omega),if_neg (by omega),if_pos (by omega)]))))
   ·refine eqN (n:=240) (fun e=>Za (Za (Za (lf 4 144 191 (c240 e))))) fun n240=>?_
    refine Zj (p:=(c.toNat:Int)≥241) (fun g241=>Zd (Zj (p:=(c.toNat:Int)≤243) (fun g243=>?_) fun g243=>?_)) fun g241=>?_
    ·exact Za (Za (Za (lf 4 128 191 (c241 (by omega)))))
    ·exact eqN (n:=244) (fun e=>Za (Za (Za (lf 4 128 143 (c244 e))))) fun n244=>Za (Za (Za (lf 0 0 0 (fin4 n244 n240 (by omega) n224 n237 (by omega)))))
    ·exact eqN (n:=244) (fun e=>Za (Za (Za (lf 4 128 143 (c244 e))))) fun n244=>Za (Za (Za (lf 0 0 0 (fin4 n244 n240 (by omega) n224 n237 (by omega)))))
  ·refine eqN (n:=240) (fun e=>Za (Za (Za (lf 4 144 191 (c240 e))))) fun n240=>?_
   refine Zj (p:=(c.toNat:Int)≥241) (fun g241=>Zd (Zj (p:=(c.toNat:Int)≤243) (fun g243=>?_) fun g243=>?_)) fun g241=>?_
   ·exact Za (Za (Za (lf 4 128 191 (c241 (by omega)))))
   ·exact eqN (n:=244) (fun e=>Za (Za (Za (lf 4 128 143 (c244 e))))) fun n244=>Za (Za (Za (lf 0 0 0 (fin4 n244 n240 (by omega) n224 n237 (by omega)))))
   ·exact eqN (n:=244) (fun e=>Za (Za (Za (lf 4 128 143 (c244 e))))) fun n244=>Za (Za (Za (lf 0 0 0 (fin4 n244 n240 (by omega) n224 n237 (by omega)))))
end
def ZpI:BL→Out BL
  | []=> .err 24 []
  | c::l=>if c=34 then ZgY l else .err 20 (c::l)
section
variable {h:Zc} {R:Nat} {s:ByteArray} {l:BL}
theorem cEq {c:UInt8} {n:Int} (d:UInt8) (hn:n=(d.toNat:Int)) {A B:Prop} (ha:c=d→A) (hb:c≠d→B):ZD (((c.toNat:Nat):Int) ==n) fun t=>Zs t A B:=by
  subst hn
  exact Zd (Yh (fun e=>ha (Zb9 e)) fun e=>hb (Zde e))
theorem ZlN (hr:Rf h R s 0 l) (hR:9≤R) {K:ByteArray→HP}
    (hk:∀ (o:ByteArray) h',ZcK h' R s (ZiP l)→(∀ t r,ZiP l = .ok t r→o=Ze t)→o.size≤4→Upd (· = R) h h'→K o h'):Yk (At R) K h:=by
  unfold Yk Xu
  have hRs:=hr.lt
  refine Zdx hr (Za (ZfB hr (fun he=>?_) fun hne=>?_))
  ·subst he
   refine Xq (α:=BL) hr (e:=24) (by decide) rfl fun h1 o1 u1 z1=>hk _ h1 o1 (fun t r ht=>by cases ht) (by decide) u1
  obtain ⟨c,l1,rfl⟩:=List.exists_cons_of_ne_nil hne
  have hz:XM (c::l1)=(c.toNat:Int):=rfl
  generalize XM (c::l1)=z at hz ⊢
  subst hz
  have hll:=hr.len
  have sign:∀ {h1:Zc} {o:ByteArray} {m:UInt8},Zbr c=some m→o=Ze [m]→Ext h h1→Zb (At R) fun b53 o54=>ldI h1 b53 (o54+1) .i64 fun t55=>Zb (At R) fun b56 o57=>st h1 b56 (o57+1) (.int .i64 (IntKind.wrap .i64 (t55+1))) fun h58=>K o h58:=fun {h1 o m} hm ho e1 =>
    Zb6 (hr.ext e1) fun h2 r2 u2 z2=>by
     have hq:ZiP (c::l1) = .ok [m] l1:=by rw [ZdT,hm]
     exact hk o h2 (by rw [hq];exact r2) (fun t r ht=>by rw [hq] at ht;cases ht;exact ho) (by rw [ho,YO];simp) (UN e1 u2)
  refine Zr (fun p h'=>∃ m,Zbr c=some m∧p.1=Ze [m]∧Ext h h') ?_ ?_
  ·rintro ⟨o,u⟩ h1 ⟨m,hm,ho,e1⟩
   exact sign hm ho e1
  refine Zr (fun p h'=>h'=h∧(p.1=true↔c=34∨c=92∨c=47)) ?_ ?_
  ·rintro ⟨b,u⟩ h1 ⟨rfl,hb⟩
   dsimp only at hb ⊢
   cases hbb:b with
   | true =>
     have hm:Zbr c=some c:=by
       rcases hb.1 hbb with rfl | rfl | rfl<;>rfl
     refine Zm rfl (Zs6 [c] 1 rfl rfl (by decide) fun b1 h2 hr2 e2 _=>Zgg hr2 ⟨c,hm,rfl,e2⟩)
   | false =>
     have hn:c≠34∧c≠92∧c≠47:=by
       have h9:¬ (c=34∨c=92∨c=47):=fun e=>by have:=hb.2 e;rw [hbb] at this;cases this
       exact ⟨fun e=>h9 (.inl e),fun e=>h9 (.inr (.inl e)),fun e=>h9 (.inr (.inr e))⟩
     obtain ⟨n34,n92,n47⟩:=hn
     refine Zn rfl (cEq 98 rfl (fun e=>⟨8,by rw [e];rfl,rfl,Ext.refl _⟩) fun n98=>cEq 102 rfl (fun e=>⟨12,by rw [e];rfl,rfl,Ext.refl _⟩) fun n102=>cEq 110 rfl (fun e=>⟨10,by rw [e];rfl,rfl,Ext.refl _⟩) fun n110 =>
       cEq 114 rfl (fun e=>⟨13,by rw [e];rfl,rfl,Ext.refl _⟩) fun n114=>cEq 116 rfl (fun e=>⟨9,by rw [e];rfl,rfl,Ext.refl _⟩) fun n116=>cEq 117 rfl (fun e=>?_) fun n117=>?_)
     ·subst e
      have hq:ZiP (117::l1)=(Zcl 4 0 l1).bind fun n l1=>match (if Zhd n then Zic l1 else none) with
          | some (m,l3)=> .ok (Zcc (Zfo n m)) l3
          | none=> .ok (Zcc (Zea n)) l1:=by rw [ZdT,Zqn];simp only [↓reduceIte];rfl
      refine Zb6 hr fun h2 r2 u2 z2=>ZlI r2 fun n h3 o3 hok herr u3 z3=>Za ?_
      have u13:=u2.trans u3
      have done:∀ {h4:Zc} {k:Nat},k<1114112→ZcK h4 R s (ZiP (117::l1))→(∀ t r,ZiP (117::l1) = .ok t r→t=Zcc k)→Upd (· = R) h1 h4→Xd (k:Int) (fun t48 h49=>K t48 h49) h4:=fun {h4 k} hk9 o4 ht u4 =>
        Zry hk9 rfl fun h5 e5=>hk _ h5 (by
         rcases ZcT o4 with ⟨a,r,q,r4⟩ | ⟨e,r,q,he,r4⟩
         ·rw [q];exact r4.ext e5
         ·rw [q];exact ⟨he,r4.ext e5⟩) (fun t r hh=>by rw [ht t r hh]) (Zez k) (u4.trans (e5.upd _))
      rcases ZcT o3 with ⟨m,r,q,r3⟩ | ⟨e,r,q,he,r3⟩
      ·have hn:=hok m r q
       subst hn
       have hm:=Zik 4 q
       have hm:m<65536:=by omega
       rw [q] at hq
       have hq:ZiP (117::l1)=match (if Zhd m then Zic r else none) with
         | some (m',l3)=> .ok (Zcc (Zfo m m')) l3
         | none=> .ok (Zcc (Zea m)) r:=hq
       refine Zr (fun _ h'=>Ext h3 h'∧ZiP (117::l1) = .ok (Zcc (Zea m)) r) ?_ ?_
       ·rintro ⟨⟩ h4 ⟨e4,q4⟩
        have o4:ZcK h4 R s (ZiP (117::l1)):=by rw [q4];exact r3.ext e4
        have ht4:∀ t r',ZiP (117::l1) = .ok t r'→t=Zcc (Zea m):=fun t r' hh=>by rw [q4] at hh;cases hh;rfl
        have u4:=u13.trans (e4.upd _)
        refine Zr (fun _ h'=>h'=h4∧Zea m=m) ?_ ?_
        ·rintro ⟨⟩ h5 ⟨rfl,hf⟩
         rw [hf] at ht4
         exact done (k:=m) (by omega) o4 ht4 u4
        ·refine Zj (p:=(m:Int)≥55296) (fun g1=>Zj (p:=(m:Int)≤57343) (fun g2=>?_) fun g2=>⟨rfl,?_⟩) fun g1=>⟨rfl,?_⟩
         ·have hf:Zea m=65533:=by unfold Zea;rw [if_pos (by omega)]
          rw [hf] at ht4
          exact done (k:=65533) (by omega) o4 ht4 u4
         ·unfold Zea;rw [if_neg (by omega)]
         ·unfold Zea;rw [if_neg (by omega)]
       ·have nolow:∀ {x:Option (Nat × BL)},(if Zhd m then Zic r else none)=x→x=none→ZiP (117::l1) = .ok (Zcc (Zea m)) r:=fun hx hx2=>by rw [hq,hx,hx2]
        refine Zj (p:=(m:Int)≥55296) (fun g1=>Zj (p:=(m:Int)≤56319) (fun g2=>?_) fun g2=>⟨Ext.refl _,nolow (by rw [if_neg (by simp [Zhd];omega)]) rfl⟩) fun g1=>⟨Ext.refl _,nolow (by rw [if_neg (by simp [Zhd];omega)]) rfl⟩
        have hhi:Zhd m=true:=by simp [Zhd];omega
        refine Zr7 r3 fun h4 e4=>Za ?_
        cases hlb:Zic r with
        | none =>
          exact Zn (by simp) ⟨e4,nolow (by rw [if_pos hhi];exact hlb) rfl⟩
        | some p =>
          obtain ⟨m2,l3⟩:=p
          dsimp only
          have hbl:∃ l2,X3 r=some l2∧Zcl 4 0 l2 = .ok m2 l3∧Zk2 m2=true:=by
            unfold Zic at hlb
            cases hb:X3 r with
            | none=>rw [hb] at hlb;cases hlb
            | some l2 =>
              rw [hb] at hlb
              simp only at hlb
              cases hx:Zcl 4 0 l2 with
              | err e q=>rw [hx] at hlb;cases hlb
              | ok k l4 =>
                rw [hx] at hlb
                simp only at hlb
                split at hlb
                ·rename_i hlo
                 cases hlb
                 exact ⟨l2,rfl,hx,hlo⟩
                ·cases hlb
          obtain ⟨l2,hb2,hx2,hlo⟩:=hbl
          have hrr:=Zaf hb2
          have hxl:=ZaZ 4 hx2
          have hlo':56320≤m2∧m2<57344:=by simpa [Zk2] using hlo
          have hdrop:r.drop 6=l3:=by
            obtain ⟨z,hz⟩:=hxl.2
            have hzl:z.length=4:=by have:=congrArg List.length hz;simp at this;omega
            rw [hrr,← hz]
            show (z++l3).drop 4=l3
            rw [← hzl,List.drop_left]
          refine Zm (by simp;omega) (ZtL (r3.ext e4) (m:=6) rfl (by rw [hrr];simp;omega) fun h5 r5 u5 z5=>⟨by decide,?_⟩)
          rw [hdrop] at r5
          have hq2:ZiP (117::l1) = .ok (Zcc (Zfo m m2)) l3:=by rw [hq,if_pos hhi,hlb]
          have hp9:Zfo m m2<1114112:=by unfold Zfo;omega
          have hv:IntKind.wrap .i64 ((IntKind.wrap .i64 ((IntKind.wrap .i64 ((65536:Int)+(Znl .i64 (IntKind.wrap .i64 ((m:Int) - 55296)) 10)))+(m2:Int))) - 56320)=((Zfo m m2:Nat):Int):=by
            have hsh:Znl .i64 ((m - 55296:Nat):Int) 10=(((m - 55296)*1024:Nat):Int):=by
              unfold Znl
              rw [show min (10:Int).toNat IntKind.i64.bits=10 from rfl,show (2:Int) ^ 10=1024 from rfl,ZJ (by omega) (by omega)]
              omega
            rw [ZJ (n:=(m:Int) - 55296) (by omega) (by omega),show (m:Int) - 55296=((m - 55296:Nat):Int) by omega,hsh,ZJ (n:=65536+_) (by omega) (by omega),ZJ (n:=_+(m2:Int)) (by omega) (by omega),ZJ (by omega) (by omega)]
            unfold Zfo
            omega
          rw [hv]
          generalize Zfo m m2=pn at hq2 hp9 ⊢
          exact done (k:=pn) hp9 (by rw [hq2];exact r5) (fun t r' hh=>by rw [hq2] at hh;injection hh with e1 _;exact e1.symm) ((u13.trans (e4.upd _)).trans u5)
      ·have hn:=herr e r q
       subst hn
       have hq9:ZiP (117::l1) = .err e r:=by rw [hq,q];rfl
       refine Zr (fun _ h'=>h'=h3) ?_ (Zn (by decide) rfl)
       rintro ⟨⟩ h4 rfl
       refine Zr (fun _ h'=>h'=h4) ?_ (Zn (by decide) rfl)
       rintro ⟨⟩ h5 rfl
       exact done (k:=0) (by omega) (by rw [hq9];exact ⟨he,r3⟩) (fun t r' hh=>by rw [hq9] at hh;cases hh) u13
     ·refine Xq (α:=BL) hr (e:=22) (by decide) rfl fun h2 o2 u2 z2=>?_
      have hm:Zbr c=none:=by
        unfold Zbr
        rw [if_neg n34,if_neg n92,if_neg n47,if_neg n98,if_neg n102,if_neg n110,if_neg n114,if_neg n116]
      have hq:ZiP (c::l1) = .err 22 (c::l1):=by rw [ZdT,hm];simp only;rw [if_neg n117]
      exact hk _ h2 (by rw [hq];exact o2) (fun t r hh=>by rw [hq] at hh;cases hh) (by decide) u2
  ·refine cEq 34 rfl (fun e=>⟨rfl,by simp [e]⟩) fun n34=>cEq 92 rfl (fun e=>⟨rfl,by simp [e]⟩) fun n92=>Zd ⟨rfl,?_⟩
   simp only [n34,n92,false_or]
   constructor
   ·intro hb;exact Zb9 (d:=47) (beq_iff_eq.1 hb)
   ·rintro rfl;rfl
def Zrs (c:UInt8) (l:BL):Out Unit:=if c.toNat<32 then .err 22 (c::l) else Zag (c::l)
theorem ZoV {c:UInt8} (hr:Rf h R s 0 (c::l)) {K:HP} (hk:∀ h',ZcK h' R s (Zrs c l)→Upd (· = R) h h'→sz h'=sz h→K h'):Ya (At R) K h:=by
  unfold Ya Y8
  refine Zdx hr (Znh (c:=c) rfl (Za (Za (Za ?_))))
  by_cases h0:nRb c=0
  ·refine Zm (by rw [h0];rfl) (Xq (α:=Unit) hr (e:=22) (by decide) rfl fun h1 o1 u1 z1=>hk h1 ?_ u1 z1)
   unfold Zrs
   split
   ·exact o1
   ·rw [Zb3,if_pos h0];exact o1
  ·refine Zn (beq_eq_false_iff_ne.2 (by omega)) (Zdx hr (Zj (p:=(c.toNat:Int)<32) (fun h32=>?_) fun h32=>?_))
   ·refine Xq (α:=Unit) hr (e:=22) (by decide) rfl fun h1 o1 u1 z1=>hk h1 ?_ u1 z1
    unfold Zrs
    rw [if_pos (by omega)];exact o1
   ·have hq:Zrs c l=Zcw (nRb c - 1) (loR c) (hiR c) l:=by
      unfold Zrs
      rw [if_neg (by omega),Zb3,if_neg h0]
    rw [hq] at hk
    have hn4:=ZvT c
    refine Zb6 hr fun h1 r1 u1 z1=>Za ?_
    refine Zx (fun p h'=>∃ (lo hi k:Nat) (l':BL),p.1=lo∧p.2.1=hi∧p.2.2.1=((nRb c - k:Nat):Int)∧k<nRb c∧Zcw k lo hi l'=Zcw (nRb c - 1) (loR c) (hiR c) l∧Rf h' R s 0 l'∧Upd (· = R) h h'∧sz h'=sz h) (fun p _=>(5 - p.2.2.1).toNat)
      ⟨loR c,hiR c,nRb c - 1,l,rfl,rfl,by rw [show nRb c - (nRb c - 1)=1 by omega];rfl,by omega,rfl,r1,u1,z1⟩ ?_
    rintro ⟨lo0,hi0,i0,u⟩ h2 ⟨lo,hi,k,l2,e1,e2,e3,hk4,q2,r2,u2,z2⟩
    dsimp only at e1 e2 e3 ⊢
    subst e1 e2 e3
    refine Zj (p:=((nRb c - k:Nat):Int)<(nRb c:Int)) (fun hlt=>?_) fun hge=>?_
    ·obtain ⟨k,rfl⟩:∃ k',k=k'+1:=⟨k - 1,by omega⟩
     refine ZfB r2 (fun he=>?_) fun hne=>?_
     ·subst he
      refine Xq (α:=Unit) r2 (e:=22) (by decide) rfl fun h3 o3 u3 z3=>hk h3 (by rw [← q2];exact o3) (u2.trans u3) (z3.trans z2)
     ·obtain ⟨d,l3,rfl⟩:=List.exists_cons_of_ne_nil hne
      have bad:¬ (lo≤d.toNat∧d.toNat≤hi)→Zk (At R) 22 (fun h28=>K h28) h2:=fun hb =>
        Xq (α:=Unit) r2 (e:=22) (by decide) rfl fun h3 o3 u3 z3=>hk h3 (by
         rw [← q2]
         show ZcK h3 R s (if lo≤d.toNat∧d.toNat≤hi then _ else _)
         rw [if_neg hb];exact o3) (u2.trans u3) (z3.trans z2)
      refine ZkB r2 ?_
      show Zs (decide ((d.toNat:Int)<(lo:Int))) _ _
      refine Zj (fun hlo=>bad (by omega)) fun hlo=>ZkB r2 ?_
      show Zs (decide ((d.toNat:Int)>(hi:Int))) _ _
      refine Zj (fun hhi=>bad (by omega)) fun hhi=>Zb6 r2 fun h3 r3 u3 z3=>Za (Za (Za ?_))
      rw [ZJ (by omega) (by omega)]
      refine ⟨⟨128,191,k,l3,rfl,rfl,by omega,by omega,?_,r3,u2.trans u3,z3.trans z2⟩,by omega⟩
      rw [← q2]
      show _=(if lo≤d.toNat∧d.toNat≤hi then _ else _)
      rw [if_pos (by omega)]
    ·obtain rfl:k=0:=by omega
     exact hk h2 (by rw [← q2];exact r2) u2 z2
end
def ZkE (h:Zc) (R:Nat):Nat:=match obj h R with
  | some (.cells c _ _)=>(match c.toList with
    | [.string s,.int _ n,.int _ e]=>2*(s.size - n.toNat)+(if e=0 then 1 else 0)
    | _=>0)
  | _=>0
theorem Rf.left {h:Zc} {R e:Nat} {s:ByteArray} {l:BL} (hr:Rf h R s e l):ZkE h R=2*l.length+(if e=0 then 1 else 0):=by
  obtain ⟨_,n,b,g⟩:=hr
  unfold ZkE
  rw [b]
  have:=g.len
  simp
  omega
theorem ZkQ {l o r:BL} (h:ZiP l = .ok o r):o.length+r.length≤l.length∧r <:+l:=by
  rcases l with _ | ⟨c,l⟩
  ·cases h
  ·rw [ZdT] at h
   cases hm:Zbr c with
   | some m=>rw [hm] at h;cases h;exact ⟨by simp;omega,List.suffix_cons _ _⟩
   | none =>
     rw [hm] at h
     simp only at h
     split at h
     ·obtain ⟨n,l1,h1,h2⟩:=ZR h
      obtain ⟨a1,b1⟩:=ZaZ 4 h1
      cases hb:(if Zhd n=true then Zic l1 else none) with
      | none =>
        simp only [hb] at h2
        injection h2 with e1 e2
        subst e1 e2
        have:=Zez (Zea n)
        exact ⟨by simp;omega,XB b1⟩
      | some p =>
        obtain ⟨m,l3⟩:=p
        simp only [hb] at h2
        injection h2 with e1 e2
        subst e1 e2
        have hb':Zic l1=some (m,l3):=by
          split at hb
          ·exact hb
          ·cases hb
        have hll:=Zr8 hb'
        have hsuf:l3 <:+l1:=by
          unfold Zic at hb'
          cases hx:X3 l1 with
          | none=>rw [hx] at hb';cases hb'
          | some l2 =>
            rw [hx] at hb'
            simp only at hb'
            cases hy:Zcl 4 0 l2 with
            | err e q=>rw [hy] at hb';cases hb'
            | ok k l4 =>
              rw [hy] at hb'
              simp only at hb'
              split at hb'
              ·cases hb'
               rw [Zaf hx]
               exact XB (XB (ZaZ 4 hy).2)
              ·cases hb'
        have:=Zez (Zfo n m)
        exact ⟨by simp;omega,XB (hsuf.trans b1)⟩
     ·cases h
theorem Zur (out:BL) (c:UInt8) (l:BL):T none out (c::l) =
    if c=34 then .ok out l
    else if c=92 then (ZiP l).bind fun o l2=>T none (out++o) l2
    else (Zdn (fun _=>Zrs c l) (c::l)).bind fun x l2=>T none (out++x) l2:=by
  have h0:T none out (c::l)=Zlc ((c::l).length+1) out (c::l):=(Zmg _ _ (Nat.lt_succ_self _) out).symm
  rw [h0,Zjm]
  have go:∀ {o:BL} {l2:BL},l2.length<(c::l).length→Zlc (c::l).length (out++o) l2=T none (out++o) l2:=fun hl=>by
    rw [Zmg _ _ hl];exact Zn4 hl
  split
  ·rfl
  split
  ·cases h:ZiP l with
   | err e r=>rfl
   | ok o r=>exact go (by have:=(ZkQ h).2.length_le;simp;omega)
  unfold Zdn Zrs
  split
  ·rfl
  ·cases h:Zag (c::l) with
   | err e r=>rfl
   | ok o r=>exact go (by have:=(ZbH h).1;simpa using this)
section
variable {h:Zc} {R:Nat} {s:ByteArray} {l:BL}
theorem Zjo (hr:Rf h R s 0 l) (hR:9≤R) {K:ByteArray→HP} (hk:∀ (o:BL) h',ZcK h' R s (ZpI l)→(∀ t r,ZpI l = .ok t r→o=t)→Upd (· = R) h h'→K (Ze o) h'):ZZ (At R) K h:=by
  unfold ZZ XT
  have hll:=hr.len
  refine Zf7 hr (c:=34) rfl (by decide) fun h1 o1 u1 z1=>?_
  refine Zx (fun p h'=>∃ out:BL,p.1=Ze out∧Upd (· = R) h h'∧((∃ l',Rf h' R s 0 l'∧ZpI l=T none out l'∧out.length+l'.length≤65536)∨(out.length≤70000∧∃ e r,e≠0∧Rf h' R s e r∧ZpI l = .err e r))) (fun _ h'=>ZkE h' R) ?_ ?_
  ·refine ⟨[],rfl,u1,?_⟩
   rcases l with _ | ⟨c,l⟩
   ·exact .inr ⟨by decide,24,[],by decide,o1.2,rfl⟩
   ·have hw:XL [34] (c::l)=if c=34 then .ok () l else .err 20 (c::l):=rfl
    have hq:ZpI (c::l)=if c=34 then ZgY l else .err 20 (c::l):=rfl
    rw [hw] at o1
    by_cases hc:c=34
    ·rw [if_pos hc] at o1 hq
     exact .inl ⟨l,o1,by rw [hq,ZeB],by simp at hll ⊢;omega⟩
    ·rw [if_neg hc] at o1 hq
     exact .inr ⟨by decide,20,c::l,by decide,o1.2,hq⟩
  ·rintro ⟨o,u⟩ h2 ⟨out,ho,u2,hc⟩
   dsimp only at ho ⊢
   subst ho
   rcases hc with ⟨l2,r2,q2,n2⟩ | ⟨hs,e,r,he,r2,q2⟩
   ·refine ZiZ r2 (Zo6 (ZfB r2 (fun he=>?_) fun hne=>?_))
    ·subst he
     refine Xq (α:=BL) r2 (e:=24) (by decide) rfl fun h3 o3 u3 z3=>hk [] h3 ?_ (fun t r ht=>by rw [q2] at ht;cases ht) (u2.trans u3)
     rw [q2];exact o3
    ·obtain ⟨c,l3,rfl⟩:=List.exists_cons_of_ne_nil hne
     have hq:=Zur out c l3
     have hlen:=r2.len
     simp only [List.length_cons] at n2
     refine Zdx r2 (Za ?_)
     have hz:XM (c::l3)=(c.toNat:Int):=rfl
     rw [hz]
     refine Yh (fun h34=>?_) fun h34=>Yh (fun h92=>?_) fun h92=>?_
     ·rw [if_pos (Zb9 (d:=34) h34)] at hq
      refine Zb6 r2 fun h3 r3 u3 z3=>hk out h3 (by rw [q2,hq];exact r3) (fun t r ht=>by rw [q2,hq] at ht;cases ht;rfl) (u2.trans u3)
     all_goals rw [if_neg (Zde (d:=34) h34)] at hq
     ·rw [if_pos (Zb9 (d:=92) h92)] at hq
      refine Zb6 r2 fun h3 r3 u3 z3=>ZlN r3 hR fun o h4 o4 ht4 hs4 u4=>?_
      obtain ⟨ol,rfl⟩:∃ ol,o=Ze ol:=⟨o.data.toList,by simp⟩
      rw [YO] at hs4
      refine ZdB (by omega) ⟨⟨out++ol,rfl,(u2.trans u3).trans u4,?_⟩,?_⟩
      ·rcases ZcT o4 with ⟨a,r,q,r4⟩ | ⟨e,r,q,he,r4⟩
       ·have e1:=ht4 a r q
        have e2:ol=a:=by
          have:=congrArg (fun b:ByteArray=>b.data.toList) e1
          simpa [Ze] using this
        subst e2
        have:=ZkQ q
        exact .inl ⟨r,r4,by rw [q2,hq,q];rfl,by simp;omega⟩
       ·exact .inr ⟨by simp;omega,e,r,he,r4,by rw [q2,hq,q];rfl⟩
      ·rw [r2.left]
       rcases ZcT o4 with ⟨a,r,q,r4⟩ | ⟨e,r,q,he,r4⟩
       ·have:=(ZkQ q).2.length_le
        rw [r4.left];simp;omega
       ·have h5:=r4.left
        have hsuf:r.length≤l3.length:=by
          have hg:Zdn ZiP l3=Zdn ZiP l3:=rfl
          rcases l3 with _ | ⟨d,l3⟩
          ·cases q;simp
          ·rw [ZdT] at q
           cases hm:Zbr d with
           | some m=>rw [hm] at q;cases q
           | none =>
             rw [hm] at q
             simp only at q
             split at q
             ·cases hx:Zcl 4 0 l3 with
              | err e' q' =>
                rw [hx] at q;cases q
                have:=((Zhp 4 0).1.sf.esuf hx).1.length_le
                simp;omega
              | ok k l5 =>
                rw [hx] at q
                simp only [Out.bind_ok] at q
                split at q<;>cases q
             ·cases q;exact Nat.le_refl _
        rw [h5,if_neg he,if_pos rfl];simp;omega
     ·rw [if_neg (Zde (d:=92) h92)] at hq
      refine Zgz r2 fun n0 g0=>Za (ZoV r2 fun h3 o3 u3 z3=>?_)
      have pass:∀ {e:Nat} {r:BL},Rf h3 R s e r→r <:+c::l3→(∀ x:BL,c::l3=x++r→(∃ out',Ze (out++x)=Ze out'∧Upd (· = R) h h3∧((∃ l',Rf h3 R s 0 l'∧ZpI l=T none out' l'∧out'.length+l'.length≤65536)∨(out'.length≤70000∧∃ e r,e≠0∧Rf h3 R s e r∧ZpI l = .err e r)))∧ZkE h3 R<ZkE h2 R) →
          Zb (At R) fun b32 o33=>ldS h3 b32 o33 fun t34=>Zb (At R) fun b35 o36=>ldI h3 b35 (o36+1) .i64 fun t37=>Zlg t34 n0 t37 fun t38=>Zi9 (Ze out) t38 fun s39=>(∃ out',s39=Ze out'∧Upd (· = R) h h3∧((∃ l',Rf h3 R s 0 l'∧ZpI l=T none out' l'∧out'.length+l'.length≤65536)∨(out'.length≤70000∧∃ e r,e≠0∧Rf h3 R s e r∧ZpI l = .err e r)))∧ZkE h3 R<ZkE h2 R:=fun {e r} r3 hsuf hx=>by
        obtain ⟨x,hx9⟩:=hsuf
        have hxl:=congrArg List.length hx9
        simp only [List.length_append,List.length_cons] at hxl
        refine Zrq r3 (Zgz r3 fun n3 g3=>?_)
        have hle:n0≤n3:=by have:=g0.len;have:=g3.len;simp at *;omega
        refine ⟨by omega,by omega,by have:=g3.len;omega,?_⟩
        rw [Int.toNat_natCast,Int.toNat_natCast,g0.extract g3 hle,← hx9,ZaW]
        exact ZdB (by omega) (hx x hx9.symm)
      rcases ZcT o3 with ⟨_,r,q,r3⟩ | ⟨e,r,q,he,r3⟩
      ·have hc32:¬ c.toNat<32:=fun h9=>by unfold Zrs at q;rw [if_pos h9] at q;cases q
       have hrune:Zag (c::l3) = .ok () r:=by unfold Zrs at q;rw [if_neg hc32] at q;exact q
       have hrl:=ZbH hrune
       refine pass r3 hrl.2 fun x hx=>⟨⟨out++x,rfl,u2.trans u3,.inl ⟨r,r3,?_,?_⟩⟩,?_⟩
       ·rw [q2,hq]
        unfold Zdn
        rw [q]
        simp only [Out.bind_ok]
        rw [hx,ZaW]
       ·have:=congrArg List.length hx
        simp only [List.length_append,List.length_cons] at this
        simp;omega
       ·rw [r2.left,r3.left]
        have:=hrl.1
        simp at this ⊢;omega
      ·have hsuf:r <:+c::l3:=by
         unfold Zrs at q
         split at q
         ·cases q;exact List.suffix_refl _
         ·exact (ZdD.1.sf.esuf q).1
       refine pass r3 hsuf fun x hx=>⟨⟨out++x,rfl,u2.trans u3,.inr ⟨?_,e,r,he,r3,?_⟩⟩,?_⟩
       ·have:=congrArg List.length hx
        simp only [List.length_append,List.length_cons] at this
        simp;omega
       ·rw [q2,hq]
        unfold Zdn
        rw [q];rfl
       ·have:=hsuf.length_le
        rw [r2.left,r3.left,if_neg he,if_pos rfl];simp at this ⊢;omega
   ·exact ZiZ r2 (ZuC he (hk [] h2 (by rw [q2];exact ⟨he,r2⟩) (fun t r ht=>by rw [q2] at ht;cases ht) u2))
theorem ZcK.ext {α:Type} {h':Zc} {x:Out α} (o:ZcK h R s x) (u:Ext h h'):ZcK h' R s x:=by
  cases x with
  | ok a r=>exact Rf.ext o u
  | err e r=>exact ⟨o.1,o.2.ext u⟩
theorem ZcK.upd {α:Type} {S:Nat→Prop} {h':Zc} {x:Out α} (o:ZcK h R s x) (u:Upd S h h') (hS:¬ S R):ZcK h' R s x:=by
  cases x with
  | ok a r=>exact Rf.upd o u hS
  | err e r=>exact ⟨o.1,o.2.upd u hS⟩
theorem ZkX {α:Type} {x:Out α} (o:ZcK h R s x) {K:HP} (hk:∀ h',ZcK h' R s (x.bind fun a r=> .ok a (ZM r))→Upd (· = R) h h'→sz h'=sz h→K h'):Zt (At R) K h:=by
  cases x with
  | ok a r=>exact ZdC o fun h' r' u z=>hk h' r' u z
  | err e r=>exact Zl2 o.2 o.1 (hk h o (Upd.refl _ _) rfl)
theorem Zyq {α:Type} {x:Out α} (o:ZcK h R s x) {c:UInt8} {n:Int} (hn:n=c.toNat) (hc:0<c.toNat) {K:HP} (hk:∀ h',ZcK h' R s (x.bind fun a r=>(XL [c] r).bind fun _ r'=> .ok a r')→Upd (· = R) h h'→sz h'=sz h→K h'):Zu (At R) n K h:=by
  cases x with
  | ok a r =>
    refine Zf7 o hn hc fun h' o' u z=>hk h' ?_ u z
    simp only [Out.bind_ok]
    cases hw:XL [c] r with
    | ok b r'=>rw [hw] at o';exact o'
    | err e r'=>rw [hw] at o';exact o'
  | err e r=>exact ZgJ o.2 o.1 (hk h o (Upd.refl _ _) rfl)
theorem Zyr {α:Type} {x:Out α} (o:ZcK h R s x) {c:UInt8} {n:Int} (hn:n=c.toNat) (hc:0<c.toNat) {K:Bool→HP}
    (ht:∀ a r r' h',x = .ok a r→ZM r=44::r'→Rf h' R s 0 r'→Upd (· = R) h h'→sz h'=sz h→K true h')
    (hf:∀ h',(∀ a r,x = .ok a r→∀ r',ZM r≠44::r')→ZcK h' R s (x.bind fun a r=>(XL [c] (ZM r)).bind fun _ r'=> .ok a r')→Upd (· = R) h h'→sz h'=sz h→K false h'):ZU (At R) n K h:=by
  unfold ZU XU
  refine ZkX o fun h1 o1 u1 z1=>?_
  cases x with
  | err e r =>
    have o1:ZcK h1 R s (.err e r:Out α):=o1
    refine Zr (fun _ h'=>h'=h1) ?_ (ZiZ o1.2 (ZuC o1.1 rfl))
    rintro ⟨⟩ h2 rfl
    exact ZgJ o1.2 o1.1 (hf _ (fun a r h=>by cases h) o1 u1 z1)
  | ok a r =>
    have r1:Rf h1 R s 0 (ZM r):=o1
    refine Zr (fun _ h'=>h'=h1∧∀ r',ZM r≠44::r') ?_ ?_
    ·rintro ⟨⟩ h2 ⟨rfl,hne⟩
     refine Zf7 r1 hn hc fun h3 o3 u3 z3=>hf h3 (fun a' r' hx=>by cases hx;exact hne) ?_ (u1.trans u3) (z3.trans z1)
     simp only [Out.bind_ok]
     cases hw:XL [c] (ZM r) with
     | ok b r'=>rw [hw] at o3;exact o3
     | err e r'=>rw [hw] at o3;exact o3
    ·refine ZiZ r1 (Zo6 (ZkB r1 ?_))
     refine Zcm 44 (fun l' e=>?_) fun hn4=>⟨rfl,fun r' e=>hn4 44 r' e rfl⟩
     rw [e] at r1
     exact Zbv r1 (fun _=>Zb6 r1 fun h2 r2 u2 z2=>ht a r l' h2 rfl e r2 (u1.trans u2) (z2.trans z1)) fun h=>by cases h
end
theorem ZoY {h:Zc} {b k:Nat} {ns:List BL} {sub:JL} {x y:Sl} {cx:List Value} (c:obj h b=some (.cells (YS ((k:Int),Ze [],x,y,())).toArray 33 (0,0)))
    (ox:Own h (b+1) x 4 cx) (oy:Own h (b+1) y 1 (ns.map sV)) (lr:ZaP h (fun j=>b+1≤j∧j<sz h∧x.blk≠some j∧y.blk≠some j) sub cx) (ne:∀ j,x.blk=some j→y.blk≠some j)
    {z:VT5} {v:JV} {Se:Nat→Prop} (hv:XY h Se z v) (hSe:∀ j,Se j→b+1≤j∧j<sz h∧x.blk≠some j∧y.blk≠some j) (hs:sub.len≤100000) {K:HP}
    (hk:∀ h',PS h' b k ns (sub.snoc v)→Upd (fun j=>b≤j) h h'→K h') :
    Fw.app 33 4 72 zV x 1 (YS z) h fun t48 h49=>st h49 b (0+2) (.slice t48.ptr t48.len t48.cap) K:=by
  have hb:=ZbJ c
  have hlx:x.len=sub.len:=by have:=ox.len;have:=lr.len;omega
  refine ox.app rfl (Zbu z) rfl (by omega) (by omega) (by have:sz h=h.size:=rfl;omega) fun x' h1 o1 l1 u1 bl1=>?_
  have hsz:sz h≤sz h1:=u1.size
  have c1:obj h1 b=some (.cells (YS ((k:Int),Ze [],x,y,())).toArray 33 (0,0)):=YH c u1 fun e1=>by have:=(ox.lt e1).1;omega
  refine Zi1 c1 (by simp [YS]) Zh4 fun h9 c9 u9 z9=>?_
  have hold:∀ j,j<sz h→j≠b→x.blk≠some j→obj h9 j=obj h j:=fun j hj hjb hjx=>(ZV u9 (by omega) hjb).trans (ZV u1 hj hjx)
  have hnew:∀ j,x'.blk=some j→x.blk=some j∨sz h≤j:=fun j hj=>by
    rcases bl1 with e1 | e1
    ·left;rw [← e1,hj]
    ·right;rw [hj] at e1;cases e1;exact Nat.le_refl _
  refine hk h9 ⟨x',y,cx++YS z,c9,?_,?_,?_,?_⟩ ⟨by have:sz h9=h9.size:=rfl;have:sz h=h.size:=rfl;omega,fun j hj hbj=>hold j hj (by omega) fun e1=>by have:=(ox.lt e1).1;omega⟩
  ·exact o1.congr fun j _ hl hbj=>ZV u9 hl (by omega)
  ·exact oy.congr fun j hj hl hbj=>hold j hl (by omega) fun e1=>ne j e1 hj
  ·have h1:ZaP h9 (fun j=>b+1≤j∧j<sz h9∧x'.blk≠some j∧y.blk≠some j) sub cx:=lr.keep (fun j hj hl=>hold j hl (by omega) hj.2.2.1) fun j hj=>⟨hj.1,by omega,fun e1=>by
     rcases hnew j e1 with e2 | e2
     ·exact hj.2.2.1 e2
     ·omega,hj.2.2.2⟩
   refine h1.snoc (hv.keep (fun j hj hl=>?_) fun j hj=>?_)
   ·have:=hSe j hj
    exact hold j hl (by omega) this.2.2.1
   ·have:=hSe j hj
    refine ⟨this.1,by omega,fun e1=>?_,this.2.2.2⟩
    rcases hnew j e1 with e2 | e2
    ·exact this.2.2.1 e2
    ·omega
  ·intro j hj e1
   rcases hnew j hj with e2 | e2
   ·exact ne j e2 e1
   ·have:=(oy.lt e1).2
    have:sz h=h.size:=rfl
    omega
def ZuF (f:Zhf) (pv:BL→Out JV) (deep:Int):Prop:=∀ (h:Zc) (R:Nat) (s:ByteArray) (x:Out Unit) (K:VT5→HP),ZcK h R s x→R<sz h→9≤R →
  (∀ v z h',ZcK h' R s (x.bind fun _ r=>pv r)→(∀ w r,(x.bind fun _ r=>pv r) = .ok w r→v=w)→XY h' (fun j=>sz h≤j∧j<sz h') z v→Upd (· = R) h h'→K z h')→f (At R) deep K h
theorem ZtO (n:Nat) (l:BL):ZB n (ZM l)=ZB n l:=by
  have hs:ZM (ZM l)=ZM l:=by
    cases hk:ZM l with
    | nil=>rfl
    | cons c r=>obtain ⟨y,_,_,hc⟩:=Znk hk;exact Zap hc
  rw [ZfQ]
  unfold Zdv
  rw [hs]
theorem Zql (l:BL):Zbp l=((ZpI (ZM l)).bind fun t r=> .ok t (ZM r)).bind fun t r=>(XL [58] r).bind fun _ r'=> .ok t r':=by
  unfold Zbp
  cases hk:ZM l with
  | nil=>rfl
  | cons c l1 =>
    show (if c=34 then _ else _)=((if c=34 then ZgY l1 else .err 20 (c::l1)).bind _).bind _
    by_cases hc:c=34
    ·rw [if_pos hc,if_pos hc]
     cases hx:ZgY l1 with
     | err e r=>rfl
     | ok t r =>
       simp only [Out.bind_ok]
       cases hk2:ZM r with
       | nil=>rfl
       | cons d l3 =>
         show (if d=58 then _ else _)=(if d=58 then Out.ok () l3 else .err 20 (d::l3)).bind _
         split<;>rfl
    ·rw [if_neg hc,if_neg hc];rfl
theorem Zbs {α β γ:Type} (x:Out α) (f:α→BL→Out β) (g:β→BL→Out γ):(x.bind f).bind g=x.bind fun a r=>(f a r).bind g:=by cases x<;>rfl
theorem ZvN {ob:Bool} {r:BL} {c:UInt8} (hc:c=Zcz ob):XL [c] r=match r with
    | []=> .err 24 []
    | d::l=>if d=Zcz ob then .ok () l else .err 20 (d::l):=by
  subst hc
  cases r<;>rfl
theorem Zwn {pv:BL→Out JV} (hg:Js.Good false pv) (hst:St 1 pv) (h0:pv [] = .err 24 []) (ob:Bool) (ns:List BL) (sub:JL) (hn:sub.isNil=false) (r:BL) (h44:∀ r',r≠44::r'):L pv ob ns sub r=(XL [Zcz ob] r).bind fun _ r'=> .ok (ns,sub) r':=by
  rw [Zo7 hg hst h0,ZvN rfl]
  rcases r with _ | ⟨d,l⟩
  ·rfl
  ·show lF pv ob ns sub d (d::l)=_
   unfold lF
   by_cases hd:d=Zcz ob
   ·rw [if_pos hd];simp only [if_pos hd];rfl
   ·rw [if_neg hd,if_neg (by simp [hn]),if_neg fun e=>h44 l (by rw [e])]
    simp only [if_neg hd];rfl
theorem Zrl {pv:BL→Out JV} (hg:Js.Good false pv) (hst:St 1 pv) (h0:pv [] = .err 24 []) (ob:Bool) (ns:List BL) (sub:JL) (hn:sub.isNil=false) (r:BL):L pv ob ns sub (44::r)=(Zaw pv ob ns sub r).bind fun p=>L pv ob p.1 p.2:=by
  rw [Zo7 hg hst h0]
  show lF pv ob ns sub 44 (44::r)=_
  unfold lF
  rw [if_neg (by cases ob<;>decide),if_neg (by simp [hn]),if_pos rfl];rfl
theorem Zrk {pv:BL→Out JV} (hg:Js.Good false pv) (hst:St 1 pv) (h0:pv [] = .err 24 []) (ob:Bool) (r:BL) (he:Zcy (Zcz ob) r=false):L pv ob [] .nil r=(Zaw pv ob [] .nil r).bind fun p=>L pv ob p.1 p.2:=by
  rw [Zo7 hg hst h0]
  rcases r with _ | ⟨c,l⟩
  ·show Out.err 24 []=_
   rw [Zhn h0];rfl
  ·show lF pv ob [] .nil c (c::l)=_
   unfold lF
   rw [if_neg (by simpa [Zcy] using he),if_pos (show JL.nil.isNil=true from rfl)]
theorem PS.out {h:Zc} {b b2 k:Nat} {ns:List BL} {sub:JL} {base R:Nat} (p:PS h b2 k ns sub) (hb:b<b2) (c1:obj h b=some (.cells zV.toArray 33 (0,0))) (hbase:base≤b) {K:VT5→HP}
    (hk:∀ z h',XY h' (fun j=>base≤j∧j<sz h') z ⟨k,[],ns,sub⟩→Upd (· = b) h h'→K z h') :
    ldI h b2 0 .u8 fun t48=>ldS h b2 (0+1) fun t49=>ldL h b2 (0+2) fun t50=>ldL h b2 (0+3) fun t51 =>
      sts h b 0 [.int .u8 t48,.string t49,.slice t50.ptr t50.len t50.cap,.slice t51.ptr t51.len t51.cap] fun h52 =>
        ldI h52 b 0 .u8 fun t53=>ldS h52 b (0+1) fun t54=>ldL h52 b (0+2) fun t55=>ldL h52 b (0+3) fun t56=>K (t53,t54,t55,t56,()) h52:=by
  obtain ⟨x,y,cx,c,ox,oy,lr,ne⟩:=id p
  refine rI (Zi c rfl) (rS (Zi c rfl) (rL (s:=x) (Zi c rfl) (rL (s:=y) (Zi c rfl) ?_)))
  refine Zex (x:=x) (y:=y) c1 rfl fun h9 u9 z9=>hk _ h9 ?_ u9
  have keep9:∀ j,b2≤j→j<sz h→obj h9 j=obj h j:=fun j hj hl=>ZV u9 hl (by omega)
  refine ⟨rfl,rfl,?_,?_,cx,?_,?_,?_⟩
  ·exact (oy.congr fun j _ hl hbj=>keep9 j (by omega) hl).row
  ·intro _ j hj;have:=oy.lt hj;have h9s:sz h=h.size:=rfl;exact ⟨by omega,by omega⟩
  ·exact (ox.congr fun j _ hl hbj=>keep9 j (by omega) hl).row
  ·intro _ j hj;have:=ox.lt hj;have h9s:sz h=h.size:=rfl;exact ⟨by omega,by omega⟩
  ·exact lr.keep (fun j hj hl=>keep9 j (by omega) hl) fun j hj=>⟨by omega,by omega⟩
theorem Znr {f42:Zhf} {n:Nat} {deep:Int} (hf:ZuF f42 (ZB n) deep) {ob:Bool} {h:Zc} {R b2 k:Nat} {s:ByteArray} {ns:List BL} {sub:JL} {x:Out Unit} (o:ZcK h R s x) (hR:9≤R) (hRb:R<b2) (p:PS h b2 k ns sub) (hs:sub.len≤100000) {e:Int} (he:e=(Zcz ob).toNat) {E:HP} {J:HP}
    (hE:∀ v h',PS h' b2 k ns (sub.snoc v)→(∀ w r,(x.bind fun _ r=>ZB n r) = .ok w r→v=w∧∀ r',ZM r≠44::r')→ZcK h' R s ((x.bind fun _ r=>ZB n r).bind fun _ r=>(XL [Zcz ob] (ZM r)).bind fun _ r'=> .ok () r')→Upd (fun j=>j=R∨b2≤j) h h'→E h')
    (hJ:∀ v r r' h',(x.bind fun _ r=>ZB n r) = .ok v r→ZM r=44::r'→PS h' b2 k ns (sub.snoc v)→Rf h' R s 0 r'→Upd (fun j=>j=R∨b2≤j) h h'→J h') :
    ldL h b2 (0+2) fun t38=>f42 (At R) deep (fun t39 h40 =>
      ZaY (Za1 h40 [(b2,0+2,.slice t38.ptr t38.len t38.cap)]) <|
      newC h40 (YS t39) 33 fun b41 h42 =>
      ZaY (Za1 h42 [(b2,0+2,.slice t38.ptr t38.len t38.cap)]) <|
      rdS ⟨some ⟨b41,0,none⟩,1,1⟩ 4 h42 fun new=>Fw.app 33 4 72 zV t38 1 new h42 fun t43 h44 =>
      st h44 b2 (0+2) (.slice t43.ptr t43.len t43.cap) fun h45 =>
      ZU (At R) e (fun t46 h47=>Zs (!t46) (E h47) (J h47)) h45) h:=by
  obtain ⟨sx,sy,cx,c,ox,oy,lr,ne⟩:=id p
  have hb2:=p.lt
  have bR:¬ b2=R:=by omega
  refine rL (s:=sx) (Zi c rfl) (hf h R s x _ o (by omega) hR fun v z h4 o4 hv4 v4 u4=>?_)
  have c4:=YH c u4 bR
  refine YR (Zi c4 rfl) (ZaX fun h5 c5 e5 z5=>YR (Zi (Z6 c4 e5) rfl) (Zlp c5 rfl ?_))
  have s4:=Zb2 u4
  have s5:sz h4≤sz h5:=e5.size
  have old:∀ j,b2≤j→j<sz h→obj h5 j=obj h j:=fun j hj hl=>by rw [ZQ e5 (by omega),ZV u4 hl (by omega)]
  have lx:∀ j,sx.blk=some j→j<sz h:=fun j e=>(ox.lt e).2
  have ly:∀ j,sy.blk=some j→j<sz h:=fun j e=>(oy.lt e).2
  refine ZoY ((old b2 (Nat.le_refl _) hb2).trans c) (ox.congr fun j _ hl hbj=>old j (by omega) hl) (oy.congr fun j _ hl hbj=>old j (by omega) hl)
    (lr.keep (fun j hj hl=>old j (by omega) hl) fun j hj=>⟨hj.1,by omega,hj.2.2⟩) ne (Se:=fun j=>sz h≤j∧j<sz h4) (v4.keep (fun j hj hl=>ZQ e5 hl) fun j hj=>hj)
    (fun j hj=>⟨by omega,by omega,fun e=>by have:=lx j e;omega,fun e=>by have:=ly j e;omega⟩) hs fun h6 p6 u6=>?_
  have o6:=(o4.ext e5).upd u6 (by omega)
  have u06:Upd (fun j=>j=R∨b2≤j) h h6:=((u4.mono fun j _ hj=> .inl hj).trans (e5.upd _)).trans (u6.mono fun j _ hj=> .inr hj)
  have hend:0<(Zcz ob).toNat:=by cases ob<;>decide
  refine Zyr o6 he hend (fun w r r' h7 hx hr r7 u7 z7=>Zn rfl ?_) fun h7 hn o7 u7 z7=>Zm rfl ?_
  ·have hvw:=hv4 w r hx
   subst hvw
   exact hJ v r r' h7 hx hr (p6.upd u7 fun j hj=>by subst hj;exact hRb) r7 (u06.trans (u7.mono fun j _ hj=> .inl hj))
  ·refine hE v h7 (p6.upd u7 fun j hj=>by subst hj;exact hRb) (fun w r hx=>⟨hv4 w r hx,hn w r hx⟩) ?_ (u06.trans (u7.mono fun j _ hj=> .inl hj))
   cases hx:(x.bind fun _ r=>ZB n r) with
   | err e r=>rw [hx] at o7;exact o7
   | ok w r =>
     rw [hx] at o7
     simp only [Out.bind_ok] at o7 ⊢
     cases hw:XL [Zcz ob] (ZM r) with
     | ok a r'=>rw [hw] at o7;exact o7
     | err e r'=>rw [hw] at o7;exact o7
def Zep (n:Nat) (ob:Bool) (l:BL):Out JV:=(L (ZB n) ob [] .nil (ZM l)).bind fun p r=> .ok ⟨if ob then 7 else 6,[],p.1,p.2⟩ r
theorem Zkh (v:JV) (sub:JL):(sub.snoc v).isNil=false:=Zjp v sub
theorem ZvM {n:Nat} {ns:List BL} {sub:JL} (l:BL):Zaw (ZB n) false ns sub l=(ZB n l).bind fun v r=> .ok (ns,sub.snoc v) (ZM r):=by
  show (ZB n (ZM l)).bind _=_
  rw [ZtO]
theorem ZoX {f42:Zhf} {n:Nat} {deep:Int} (hf:ZuF f42 (ZB n) deep) {h:Zc} {R:Nat} {s:ByteArray} {l:BL} (hr:Rf h R s 0 l) (hR:9≤R) {K:VT5→HP}
    (hk:∀ v z h',ZcK h' R s (Zep n false l)→(∀ w r,Zep n false l = .ok w r→v=w)→XY h' (fun j=>sz h≤j∧j<sz h') z v→Upd (· = R) h h'→K z h'):Yq f42 (At R) deep K h:=by
  unfold Yq XJ
  obtain ⟨hg,hst⟩:=Xb n
  have h0:=Zes n
  have hll:=hr.len
  have hRs:=hr.lt
  have hszr:sz h=h.size:=rfl
  refine ZaX fun h1 c1 e1 z1=>ZaX fun h3 c3 e3 z3=>?_
  have hb:h1.size=h.size+1:=z1
  have hRb:R<h1.size:=by omega
  rw [ZhM (by rw [show obj h3 h1.size=_ from c3,Zb0];rfl) (by simp [Yd])]
  have hps:PS (h3.puts h1.size 0 [.int .u8 6,.string (ByteArray.mk #[]),.slice none 0 0,.slice none 0 0]) h1.size 6 [] .nil:=by
    refine ⟨⟨none,0,0⟩,⟨none,0,0⟩,[],?_,Own.nil _ _ _,Own.nil _ _ _,rfl,fun j hj=>by cases hj⟩
    rw [Zbo,if_pos rfl,show obj h3 h1.size=_ from c3,XE];rfl
  have u4:=Upd.puts h3 h1.size 0 [.int .u8 6,.string (ByteArray.mk #[]),.slice none 0 0,.slice none 0 0]
  generalize h3.puts h1.size 0 [.int .u8 6,.string (ByteArray.mk #[]),.slice none 0 0,.slice none 0 0]=h4 at hps u4 ⊢
  have r4:Rf h4 R s 0 l:=((hr.ext e1).ext e3).upd u4 (by omega)
  have u14:Upd (UB R h1.size) h1 h4:=(e3.upd _).trans (u4.mono fun j _ hj=>by subst hj;exact .inr (Nat.le_refl _))
  have low:∀ {a:Zc},Upd (UB R h1.size) h1 a→Upd (· = R) h a:=fun {a} u=>UN e1 (UT (Upd.refl _ h1) u fun j hj=>by
    rcases hj with rfl | hj
    ·exact .inl rfl
    ·right;exact hj)
  have c1':∀ {a:Zc},Upd (UB R h1.size) h1 a→obj a h.size=some (.cells zV.toArray 33 (0,0)):=fun {a} u=>YH c1 u (by omega)
  refine ZdC r4 fun h5 r5 u5 z5=>?_
  have u15:=u14.trans (u5.mono fun j _ hj=> .inl hj)
  have p5:=hps.upd u5 fun j hj=>by subst hj;exact hRb
  have out:∀ {a:Zc} {ns:List BL} {sub:JL},PS a h1.size 6 ns sub→Upd (UB R h1.size) h1 a→ZcK a R s (Zep n false l)→(∀ w r,Zep n false l = .ok w r→(⟨6,[],ns,sub⟩:JV)=w) →
      ldI a h1.size 0 .u8 fun t48=>ldS a h1.size (0+1) fun t49=>ldL a h1.size (0+2) fun t50=>ldL a h1.size (0+3) fun t51 =>
      sts a h.size 0 [.int .u8 t48,.string t49,.slice t50.ptr t50.len t50.cap,.slice t51.ptr t51.len t51.cap] fun h52 =>
        ldI h52 h.size 0 .u8 fun t53=>ldS h52 h.size (0+1) fun t54=>ldL h52 h.size (0+2) fun t55=>ldL h52 h.size (0+3) fun t56=>K (t53,t54,t55,t56,()) h52:=fun {a ns sub} p u o hv =>
    p.out (base:=sz h) (R:=R) (by omega) (c1' u) (by omega) fun z h' hz u'=>hk _ z h' (o.upd u' (by omega)) hv hz (UT (low u) u' fun j hj=>by right;omega)
  refine Zr (fun _ h'=>h'=h5∧Zcy 93 (ZM l)=false) ?_ ?_
  ·rintro ⟨⟩ h6 ⟨rfl,hne⟩
   have hL:L (ZB n) false [] .nil (ZM l)=(ZB n (ZM l)).bind fun v r=>L (ZB n) false [] (JL.nil.snoc v) (ZM r):=by
     rw [Zrk hg hst h0 false _ hne,ZvM,Zbs];rfl
   have hsk:=ZbM l
   refine Zx (fun _ h'=>∃ (l':BL) (sub:JL),Rf h' R s 0 l'∧PS h' h1.size 6 [] sub∧L (ZB n) false [] .nil (ZM l)=((ZB n l').bind fun v r=>L (ZB n) false [] (sub.snoc v) (ZM r))∧sub.len+l'.length≤65536∧Upd (UB R h1.size) h1 h') (fun _ h'=>ZkE h' R)
     ⟨ZM l,.nil,r5,p5,hL,by simp [JL.len];omega,u15⟩ ?_
   rintro ⟨⟩ h7 ⟨l7,sub,r7,p7,q7,n7,u7⟩
   refine ZiZ r7 (Zo6 ?_)
   refine Znr hf (ob:=false) (x:= .ok () l7) r7 hR hRb p7 (by omega) rfl (fun v h8 p8 hv8 o8 u8=>?_) fun v r r' h8 hx hr p8 r8 u8=>?_
   ·have u18:=u7.trans (u8.mono fun j _ hj=>hj)
    have hfin:Zep n false l=((ZB n l7).bind fun v r=>(XL [Zcz false] (ZM r)).bind fun _ r'=> .ok (⟨6,[],[],sub.snoc v⟩:JV) r'):=by
      unfold Zep
      rw [q7,Zbs]
      cases hx:ZB n l7 with
      | err e r=>rfl
      | ok w r =>
        simp only [Out.bind_ok]
        have h44:=(hv8 w r hx).2
        rw [Zwn hg hst h0 false [] (sub.snoc w) (Zkh w sub) (ZM r) h44]
        cases XL [Zcz false] (ZM r)<;>rfl
    refine out p8 u18 ?_ fun w r hw=>?_
    ·rw [hfin]
     have o8:ZcK h8 R s ((ZB n l7).bind fun _ r=>(XL [Zcz false] (ZM r)).bind fun _ r'=> .ok () r'):=o8
     cases hx:ZB n l7 with
     | err e r=>rw [hx] at o8;exact o8
     | ok w r =>
       rw [hx] at o8
       simp only [Out.bind_ok] at o8 ⊢
       cases hw:XL [Zcz false] (ZM r) with
       | err e r=>rw [hw] at o8;exact o8
       | ok a r=>rw [hw] at o8;exact o8
    ·rw [hfin] at hw
     obtain ⟨w1,r1,a1,a2⟩:=ZR hw
     obtain ⟨_,r2,a3,a4⟩:=ZR a2
     cases a4
     rw [(hv8 w1 r1 a1).1]
   ·have hx:ZB n l7 = .ok v r:=hx
    have hvl:=hst.len hx
    have hsl:=ZbM r
    rw [hr] at hsl
    simp only [List.length_cons] at hsl
    refine ⟨⟨r',sub.snoc v,r8,p8,?_,by rw [JL.len_snoc];omega,u7.trans u8⟩,?_⟩
    ·rw [q7,hx]
     simp only [Out.bind_ok]
     rw [hr,Zrl hg hst h0 false [] _ (Zkh v sub),ZvM,Zbs];rfl
    ·rw [r7.left,r8.left];simp;omega
  ·refine ZiZ r5 (Zo6 (Zbv r5 (fun hne=>?_) fun he=>⟨rfl,by rw [he];rfl⟩))
   refine ZkB r5 (Zcm 93 (fun l' e=>?_) fun hn=>⟨rfl,?_⟩)
   ·rw [e] at r5
    have hopen:Zep n false l = .ok ⟨6,[],[],.nil⟩ l':=by
      unfold Zep
      rw [e,Zo7 hg hst h0]
      rfl
    refine Zb6 r5 fun h6 r6 u6 z6=>?_
    exact out (p5.upd u6 fun j hj=>by subst hj;exact hRb) (u15.trans (u6.mono fun j _ hj=> .inl hj)) (by rw [hopen];exact r6) fun w r hw=>by rw [hopen] at hw;cases hw;rfl
   ·cases hk9:ZM l with
    | nil=>rfl
    | cons c l9 =>
      have:=hn c l9 hk9
      simpa [Zcy] using this
theorem Zrc {h:Zc} {b k:Nat} {ns:List BL} {sub:JL} {x y:Sl} {cx:List Value} (c:obj h b=some (.cells (YS ((k:Int),Ze [],x,y,())).toArray 33 (0,0)))
    (ox:Own h (b+1) x 4 cx) (oy:Own h (b+1) y 1 (ns.map sV)) (lr:ZaP h (fun j=>b+1≤j∧j<sz h∧x.blk≠some j∧y.blk≠some j) sub cx) (ne:∀ j,x.blk=some j→y.blk≠some j)
    {t:BL} (hs:ns.length≤100000) {K:HP} (hk:∀ h',PS h' b k (ns++[t]) sub→Upd (fun j=>b≤j) h h'→K h') :
    Fw.app 9 1 16 [.string (ByteArray.mk #[])] y 1 [sV t] h fun t18 h19=>st h19 b (0+3) (.slice t18.ptr t18.len t18.cap) K:=by
  have hb:=ZbJ c
  have hly:y.len=ns.length:=by have:=oy.len;simp at this;omega
  refine oy.app rfl (by simp [Yd]) rfl (by omega) (by omega) (by have:sz h=h.size:=rfl;omega) fun y' h1 o1 l1 u1 bl1=>?_
  have hsz:sz h≤sz h1:=u1.size
  have c1:obj h1 b=some (.cells (YS ((k:Int),Ze [],x,y,())).toArray 33 (0,0)):=YH c u1 fun e1=>by have:=(oy.lt e1).1;omega
  refine Zi1 c1 (by simp [YS]) Zh4 fun h9 c9 u9 z9=>?_
  have hold:∀ j,j<sz h→j≠b→y.blk≠some j→obj h9 j=obj h j:=fun j hj hjb hjy=>(ZV u9 (by omega) hjb).trans (ZV u1 hj hjy)
  have hnew:∀ j,y'.blk=some j→y.blk=some j∨sz h≤j:=fun j hj=>by
    rcases bl1 with e1 | e1
    ·left;rw [← e1,hj]
    ·right;rw [hj] at e1;cases e1;exact Nat.le_refl _
  refine hk h9 ⟨x,y',cx,c9,?_,?_,?_,?_⟩ ⟨by have:sz h9=h9.size:=rfl;have:sz h=h.size:=rfl;omega,fun j hj hbj=>hold j hj (by omega) fun e1=>by have:=(oy.lt e1).1;omega⟩
  ·exact ox.congr fun j hj hl hbj=>hold j hl (by omega) (ne j hj)
  ·have:(ns++[t]).map sV=ns.map sV++[sV t]:=by simp
   rw [this]
   exact o1.congr fun j _ hl hbj=>ZV u9 hl (by omega)
  ·refine lr.keep (fun j hj hl=>hold j hl (by omega) hj.2.2.2) fun j hj=>⟨hj.1,by omega,hj.2.2.1,fun e1=>?_⟩
   rcases hnew j e1 with e2 | e2
   ·exact hj.2.2.2 e2
   ·omega
  ·intro j hj e1
   rcases hnew j e1 with e2 | e2
   ·exact ne j hj e2
   ·have:=(ox.lt hj).2
    have:sz h=h.size:=rfl
    omega
theorem ZtQ {α:Type} {h:Zc} {R:Nat} {s:ByteArray} {x:Out α} (o:ZcK h R s x):ZcK h R s (x.bind fun _ r=> .ok () r):=by cases x<;>exact o
theorem Zmz {f42:Zhf} {n:Nat} {deep:Int} (hf:ZuF f42 (ZB n) deep) {h:Zc} {R:Nat} {s:ByteArray} {l:BL} (hr:Rf h R s 0 l) (hR:9≤R) {K:VT5→HP}
    (hk:∀ v z h',ZcK h' R s (Zep n true l)→(∀ w r,Zep n true l = .ok w r→v=w)→XY h' (fun j=>sz h≤j∧j<sz h') z v→Upd (· = R) h h'→K z h'):Yi f42 (At R) deep K h:=by
  unfold Yi Xs
  obtain ⟨hg,hst⟩:=Xb n
  have h0:=Zes n
  have hll:=hr.len
  have hRs:=hr.lt
  have hszr:sz h=h.size:=rfl
  refine ZaX fun h1 c1 e1 z1=>ZaX fun h3 c3 e3 z3=>?_
  have hb:h1.size=h.size+1:=z1
  have hRb:R<h1.size:=by omega
  rw [ZhM (by rw [show obj h3 h1.size=_ from c3,Zb0];rfl) (by simp [Yd])]
  have hps:PS (h3.puts h1.size 0 [.int .u8 7,.string (ByteArray.mk #[]),.slice none 0 0,.slice none 0 0]) h1.size 7 [] .nil:=by
    refine ⟨⟨none,0,0⟩,⟨none,0,0⟩,[],?_,Own.nil _ _ _,Own.nil _ _ _,rfl,fun j hj=>by cases hj⟩
    rw [Zbo,if_pos rfl,show obj h3 h1.size=_ from c3,XE];rfl
  have u4:=Upd.puts h3 h1.size 0 [.int .u8 7,.string (ByteArray.mk #[]),.slice none 0 0,.slice none 0 0]
  generalize h3.puts h1.size 0 [.int .u8 7,.string (ByteArray.mk #[]),.slice none 0 0,.slice none 0 0]=h4 at hps u4 ⊢
  have r4:Rf h4 R s 0 l:=((hr.ext e1).ext e3).upd u4 (by omega)
  have u14:Upd (UB R h1.size) h1 h4:=(e3.upd _).trans (u4.mono fun j _ hj=>by subst hj;exact .inr (Nat.le_refl _))
  have low:∀ {a:Zc},Upd (UB R h1.size) h1 a→Upd (· = R) h a:=fun {a} u=>UN e1 (UT (Upd.refl _ h1) u fun j hj=>by
    rcases hj with rfl | hj
    ·exact .inl rfl
    ·right;exact hj)
  have c1':∀ {a:Zc},Upd (UB R h1.size) h1 a→obj a h.size=some (.cells zV.toArray 33 (0,0)):=fun {a} u=>YH c1 u (by omega)
  refine ZdC r4 fun h5 r5 u5 z5=>?_
  have u15:=u14.trans (u5.mono fun j _ hj=> .inl hj)
  have p5:=hps.upd u5 fun j hj=>by subst hj;exact hRb
  have out:∀ {a:Zc} {ns:List BL} {sub:JL},PS a h1.size 7 ns sub→Upd (UB R h1.size) h1 a→ZcK a R s (Zep n true l)→(∀ w r,Zep n true l = .ok w r→(⟨7,[],ns,sub⟩:JV)=w) →
      ldI a h1.size 0 .u8 fun t48=>ldS a h1.size (0+1) fun t49=>ldL a h1.size (0+2) fun t50=>ldL a h1.size (0+3) fun t51 =>
      sts a h.size 0 [.int .u8 t48,.string t49,.slice t50.ptr t50.len t50.cap,.slice t51.ptr t51.len t51.cap] fun h52 =>
        ldI h52 h.size 0 .u8 fun t53=>ldS h52 h.size (0+1) fun t54=>ldL h52 h.size (0+2) fun t55=>ldL h52 h.size (0+3) fun t56=>K (t53,t54,t55,t56,()) h52:=fun {a ns sub} p u o hv =>
    p.out (base:=sz h) (R:=R) (by omega) (c1' u) (by omega) fun z h' hz u'=>hk _ z h' (o.upd u' (by omega)) hv hz (UT (low u) u' fun j hj=>by right;omega)
  refine Zr (fun _ h'=>h'=h5∧Zcy 125 (ZM l)=false) ?_ ?_
  ·rintro ⟨⟩ h6 ⟨rfl,hne⟩
   have partO:∀ (ns:List BL) (sub:JL) (l':BL),((Zaw (ZB n) true ns sub l').bind fun p=>L (ZB n) true p.1 p.2)=((Zbp l').bind fun nm r=>(ZB n r).bind fun v r'=>L (ZB n) true (ns++[nm]) (sub.snoc v) (ZM r')):=fun ns sub l'=>by
     show (((Zbp l').bind fun nm l3=>(ZB n l3).bind fun v l4=> .ok (ns++[nm],sub.snoc v) (ZM l4)).bind _)=_
     rw [Zbs]
     congr 1
     funext nm r
     rw [Zbs];rfl
   have hL:=Zrk hg hst h0 true _ hne
   rw [partO] at hL
   have hsk:=ZbM l
   refine Zx (fun _ h'=>∃ (l':BL) (ns:List BL) (sub:JL),Rf h' R s 0 l'∧PS h' h1.size 7 ns sub∧L (ZB n) true [] .nil (ZM l)=((Zbp l').bind fun nm r=>(ZB n r).bind fun v r'=>L (ZB n) true (ns++[nm]) (sub.snoc v) (ZM r'))∧sub.len+l'.length≤65536∧ns.length≤sub.len∧Upd (UB R h1.size) h1 h') (fun _ h'=>ZkE h' R)
     ⟨ZM l,[],.nil,r5,p5,hL,by simp [JL.len];omega,Nat.le_refl _,u15⟩ ?_
   rintro ⟨⟩ h7 ⟨l7,ns,sub,r7,p7,q7,n7,m7,u7⟩
   refine ZiZ r7 (Zo6 ?_)
   refine ZdC r7 fun h8 r8 u8 z8=>?_
   have p8:=p7.upd u8 fun j hj=>by subst hj;exact hRb
   obtain ⟨sx,sy,cx,c,ox,oy,lr,ne⟩:=id p8
   have hb8:=p8.lt
   refine rL (s:=sy) (Zi c rfl) (Zjo r8 hR fun o h9 o9 hn9 u9=>?_)
   have c9:=YH c u9 (show ¬ h1.size=R by omega)
   refine YR (Zi c9 rfl) (ZaX fun h10 c10 e10 z10=>YR (Zi (Z6 c9 e10) rfl) (Zlp c10 rfl ?_))
   have s9:=Zb2 u9
   have s10:sz h9≤sz h10:=e10.size
   have old:∀ j,h1.size≤j→j<sz h8→obj h10 j=obj h8 j:=fun j hj hl=>by rw [ZQ e10 (by omega),ZV u9 hl (by omega)]
   refine Zrc ((old h1.size (Nat.le_refl _) hb8).trans c) (ox.congr fun j _ hl hbj=>old j (by omega) hl) (oy.congr fun j _ hl hbj=>old j (by omega) hl)
     (lr.keep (fun j hj hl=>old j (by omega) hl) fun j hj=>⟨hj.1,by omega,hj.2.2⟩) ne (by omega) fun h11 p11 u11=>?_
   have o11:=(o9.ext e10).upd u11 (by omega)
   refine ZkX o11 fun h12 o12 u12 z12=>Zyq (c:=58) o12 rfl (by decide) fun h13 o13 u13 z13=>?_
   have p13:=(p11.upd u12 fun j hj=>by subst hj;exact hRb).upd u13 fun j hj=>by subst hj;exact hRb
   have oname:ZcK h13 R s (Zbp l7):=by rw [Zql];exact o13
   have hname:∀ nm r,Zbp l7 = .ok nm r→o=nm:=fun nm r hq=>by
     rw [Zql] at hq
     obtain ⟨t,r1,a1,a2⟩:=ZR hq
     obtain ⟨t2,r2,a3,a4⟩:=ZR a1
     obtain ⟨_,r3,a5,a6⟩:=ZR a2
     cases a4;cases a6
     exact hn9 _ _ a3
   have u713:Upd (UB R h1.size) h7 h13:=((((u8.mono fun j _ hj=> .inl hj).trans (u9.mono fun j _ hj=> .inl hj)).trans (e10.upd _)).trans (u11.mono fun j _ hj=> .inr hj)).trans ((u12.trans u13).mono fun j _ hj=> .inl hj)
   have hxx:∀ r',((Zbp l7).bind fun _ r=> .ok () r:Out Unit).bind (fun _ r=>ZB n r)=r'↔((Zbp l7).bind fun _ r=>ZB n r)=r':=fun r'=>by rw [Zbs];exact Iff.rfl
   refine Znr hf (ob:=true) (x:=(Zbp l7).bind fun _ r=> .ok () r) (ZtQ oname) hR hRb p13 (by omega) rfl (fun v h14 p14 hv14 o14 u14'=>?_) fun v r r' h14 hx hr' p14 r14 u14'=>?_
   ·have u1x:=u7.trans (u713.trans (u14'.mono fun j _ hj=>hj))
    have hbx:(((Zbp l7).bind fun _ r=> .ok () r:Out Unit).bind fun _ r=>ZB n r)=(Zbp l7).bind fun _ r=>ZB n r:=by rw [Zbs];rfl
    rw [hbx] at hv14 o14
    have hv14:∀ w r,((Zbp l7).bind fun _ r=>ZB n r) = .ok w r→v=w∧∀ r',ZM r≠44::r':=hv14
    have o14:ZcK h14 R s (((Zbp l7).bind fun _ r=>ZB n r).bind fun _ r=>(XL [Zcz true] (ZM r)).bind fun _ r'=> .ok () r'):=o14
    have hfin:Zep n true l=((Zbp l7).bind fun nm r=>(ZB n r).bind fun v r=>(XL [Zcz true] (ZM r)).bind fun _ r'=> .ok (⟨7,[],ns++[nm],sub.snoc v⟩:JV) r'):=by
      unfold Zep
      rw [q7,Zbs]
      cases hnm:Zbp l7 with
      | err e r=>rfl
      | ok nm r0 =>
        simp only [Out.bind_ok]
        rw [Zbs]
        cases hx:ZB n r0 with
        | err e r=>rfl
        | ok w r =>
          simp only [Out.bind_ok]
          have h44:=(hv14 w r (by rw [hnm];exact hx)).2
          rw [Zwn hg hst h0 true _ (sub.snoc w) (Zkh w sub) (ZM r) h44]
          cases XL [Zcz true] (ZM r)<;>rfl
    refine out p14 u1x ?_ fun w r hw=>?_
    ·rw [hfin]
     cases hnm:Zbp l7 with
     | err e r=>rw [hnm] at o14;exact o14
     | ok nm r0 =>
       rw [hnm] at o14
       simp only [Out.bind_ok] at o14 ⊢
       cases hx:ZB n r0 with
       | err e r=>rw [hx] at o14;exact o14
       | ok w r =>
         rw [hx] at o14
         simp only [Out.bind_ok] at o14 ⊢
         cases hw:XL [Zcz true] (ZM r) with
         | err e r=>rw [hw] at o14;exact o14
         | ok a r=>rw [hw] at o14;exact o14
    ·rw [hfin] at hw
     obtain ⟨nm,r0,a0,b1⟩:=ZR hw
     obtain ⟨w1,r1,a1,a2⟩:=ZR b1
     obtain ⟨_,r2,a3,a4⟩:=ZR a2
     cases a4
     rw [(hv14 w1 r1 (by rw [a0];exact a1)).1,hname nm r0 a0]
   ·have hx:=(hxx _).1 hx
    obtain ⟨nm,r0,a0,a1⟩:=ZR hx
    have hvl:=hst.len a1
    have hnl:=Zf6.2.len a0
    have hsl:=ZbM r
    rw [hr'] at hsl
    simp only [List.length_cons] at hsl
    refine ⟨⟨r',ns++[o],sub.snoc v,r14,p14,?_,by rw [JL.len_snoc];omega,by rw [JL.len_snoc];simp;omega,u7.trans (u713.trans u14')⟩,?_⟩
    ·rw [q7,a0]
     simp only [Out.bind_ok]
     rw [a1]
     simp only [Out.bind_ok]
     rw [hr',Zrl hg hst h0 true _ _ (Zkh v sub),partO,hname nm r0 a0]
    ·rw [r7.left,r14.left];simp;omega
  ·refine ZiZ r5 (Zo6 (Zbv r5 (fun hne=>?_) fun he=>⟨rfl,by rw [he];rfl⟩))
   refine ZkB r5 (Zcm 125 (fun l' e=>?_) fun hn=>⟨rfl,?_⟩)
   ·rw [e] at r5
    have hopen:Zep n true l = .ok ⟨7,[],[],.nil⟩ l':=by
      unfold Zep
      rw [e,Zo7 hg hst h0]
      rfl
    refine Zb6 r5 fun h6 r6 u6 z6=>?_
    exact out (p5.upd u6 fun j hj=>by subst hj;exact hRb) (u15.trans (u6.mono fun j _ hj=> .inl hj)) (by rw [hopen];exact r6) fun w r hw=>by rw [hopen] at hw;cases hw;rfl
   ·cases hk9:ZM l with
    | nil=>rfl
    | cons c l9 =>
      have:=hn c l9 hk9
      simpa [Zcy] using this
end Go.Proofs.YtpjbjdheeemdiaaGreatDoor
