/- The reference's reader in memory: its steps. -/
import Derived.Test.YtpjbjdheeemdiaaGreatDoorPa11
set_option linter.unusedVariables false
set_option linter.unusedSimpArgs false
namespace Go.Proofs.YtpjbjdheeemdiaaGreatDoor
open Go Go.Fw Go.Js
def Rf (h:Zc) (R:Nat) (s:ByteArray) (e:Nat) (l:BL):Prop:=s.size≤65536∧∃ n:Nat,obj h R=some (.cells [.string s,.int .i64 n,.int .i64 e].toArray 167 (0,0))∧Zfb s n l
theorem Rf.congr {h h':Zc} {R e:Nat} {s:ByteArray} {l:BL} (hr:Rf h R s e l) (he:obj h' R=obj h R):Rf h' R s e l:=by
  obtain ⟨a,n,b,c⟩:=hr
  exact ⟨a,n,he.trans b,c⟩
theorem Rf.lt {h:Zc} {R e:Nat} {s:ByteArray} {l:BL} (hr:Rf h R s e l):R<sz h:=by
  obtain ⟨_,n,b,_⟩:=hr
  exact Zbg b
theorem Rf.upd {S:Nat→Prop} {h h':Zc} {R e:Nat} {s:ByteArray} {l:BL} (hr:Rf h R s e l) (u:Upd S h h') (hs:¬ S R):Rf h' R s e l:=hr.congr (ZX u hr.lt hs)
theorem Rf.ext {h h':Zc} {R e:Nat} {s:ByteArray} {l:BL} (hr:Rf h R s e l) (u:Ext h h'):Rf h' R s e l:=hr.congr (Ys u hr.lt)
theorem Rf.len {h:Zc} {R e:Nat} {s:ByteArray} {l:BL} (hr:Rf h R s e l):l.length≤s.size∧s.size≤65536:=by
  obtain ⟨a,n,b,c⟩:=hr
  have:=c.len
  omega
section
variable {h:Zc} {R e:Nat} {s:ByteArray} {l:BL}
theorem Zfp (hr:Rf h R s e l) {K:Int→Prop} (hk:∀ n:Nat,Zfb s n l→K n):Zb (At R) fun b o=>ldI h b (o+1) .i64 K:=by
  obtain ⟨_,n,hb,hn⟩:=hr
  exact ZW (rI (Zn hb rfl) (hk n hn))
theorem Zpi (hr:Rf h R s e l) {K:ByteArray→Prop} (hk:K s):Zb (At R) fun b o=>ldS h b o K:=by
  obtain ⟨_,n,hb,hn⟩:=hr
  exact ZW (rS (Zn hb rfl) hk)
theorem ZhA (hr:Rf h R s e l) {K:Int→Prop} (hk:K e):Zb (At R) fun b o=>ldI h b (o+2) .i64 K:=by
  obtain ⟨_,n,hb,hn⟩:=hr
  exact ZW (rI (Zn hb rfl) hk)
theorem ZnW (hr:Rf h R s e l) {l':BL} {m:Int} {n:Nat} (hm:m=n) (hn:Zfb s n l') {K:HP} (hk:∀ h',Rf h' R s e l'→Upd (· = R) h h'→sz h'=sz h→K h'):Zb (At R) fun b o=>st h b (o+1) (.int .i64 m) K:=by
  obtain ⟨hs,n0,hb,hn0⟩:=hr
  refine ZW (Zjw hb (by simp) ZbY fun h' c u z=>hk h' ⟨hs,n,?_,hn⟩ u z)
  rw [c,hm];rfl
theorem ZkJ (hr:Rf h R s e l) {m:Int} {e':Nat} (hm:m=e') {K:HP} (hk:∀ h',Rf h' R s e' l→Upd (· = R) h h'→sz h'=sz h→K h'):Zb (At R) fun b o=>st h b (o+2) (.int .i64 m) K:=by
  obtain ⟨hs,n0,hb,hn0⟩:=hr
  refine ZW (Zjw hb (by simp) ZbY fun h' c u z=>hk h' ⟨hs,n0,?_,hn0⟩ u z)
  rw [c,hm];rfl
theorem Za6 {c:UInt8} (hr:Rf h R s e (c::l)) {K:HP} (hk:∀ h',Rf h' R s e l→Upd (· = R) h h'→sz h'=sz h→K h') :
    Zb (At R) fun b o=>ldI h b (o+1) .i64 fun t=>Zb (At R) fun b o=>st h b (o+1) (.int .i64 (IntKind.wrap .i64 (t+1))) K:=by
  refine Zfp hr fun n hn=>?_
  have:=hn.len
  have:=hr.len
  refine ZnW hr (n:=n+1) ?_ hn.tail hk
  rw [ZZ (by omega) (by omega)];rfl
theorem Zrk (hr:Rf h R s e l) {k:Int} {m:Nat} (hk:k=m) (hm:m≤l.length) {K:HP} (hK:∀ h',Rf h' R s e (l.drop m)→Upd (· = R) h h'→sz h'=sz h→K h') :
    Zb (At R) fun b o=>ldI h b (o+1) .i64 fun t=>Zb (At R) fun b o=>st h b (o+1) (.int .i64 (IntKind.wrap .i64 (t+k))) K:=by
  refine Zfp hr fun n hn=>?_
  have:=hn.len
  have:=hr.len
  refine ZnW hr (n:=n+m) ?_ (hn.dropK hm) hK
  rw [ZZ (by omega) (by omega),hk];rfl
theorem Zaz (hr:Rf h R s e l) {A B:Prop} (ha:l≠[]→A) (hb:l=[]→B) :
    Zb (At R) fun b o=>ldI h b (o+1) .i64 fun t=>Zb (At R) fun b o=>ldS h b o fun t5=>Zw (decide (t<(t5.size:Int))) A B:=by
  refine Zfp hr fun n hn=>Zpi hr (Zk (fun e=>ha ?_) fun e=>hb ?_)
  ·have:=hn.len
   intro e;subst e;simp at this;omega
  ·have:=hn.len
   exact List.eq_nil_of_length_eq_zero (by omega)
theorem Zew (hr:Rf h R s e l) {A B:Prop} (ha:l=[]→A) (hb:l≠[]→B) :
    Zb (At R) fun b o=>ldI h b (o+1) .i64 fun t=>Zb (At R) fun b o=>ldS h b o fun t5=>Zw (decide (t≥(t5.size:Int))) A B:=by
  refine Zfp hr fun n hn=>Zpi hr (Zk (fun e=>ha ?_) fun e=>hb ?_)
  ·have:=hn.len
   exact List.eq_nil_of_length_eq_zero (by omega)
  ·have:=hn.len
   intro e;subst e;simp at this;omega
theorem Zcz (hr:Rf h R s e l) {K:Int→HP} (hk:K (Xj l) h):Ze (At R) K h:=by
  unfold Ze Xv
  refine Za (Zew hr (fun he=>Za ?_) fun hne=>?_)
  ·subst he;exact hk
  ·obtain ⟨c,l',rfl⟩:=List.exists_cons_of_ne_nil hne
   exact Zpi hr (Zfp hr fun n hn=>⟨c,by omega,by rw [Int.toNat_natCast];exact hn.head,Za hk⟩)
theorem Zi4 (hr:Rf h R s e l) {K:Int × Unit→Prop} (hk:K (Xj l,())):ZaR (ρ:=Int × Unit) (fun K h=>Ze (At R) (fun q h=>K (q,()) h) h) h K :=
  ⟨(Xj l,()),Zcz hr ⟨rfl,rfl⟩,hk⟩
theorem Zng {A B:Prop} (ha:A):Zw (((0:Nat):Int) ==0) A B:=Zp rfl ha
theorem Zr6 {e:Nat} (he:e≠0) {A B:Prop} (hb:B):Zw ((e:Int) ==0) A B:=Zq (beq_eq_false_iff_ne.2 (by omega)) hb
theorem ZoL {A B:Prop} (hb:B):Zw (((0:Nat):Int) !=0) A B:=Zq rfl hb
theorem Zqi {e:Nat} (he:e≠0) {A B:Prop} (ha:A):Zw ((e:Int) !=0) A B:=Zp (bne_iff_ne.2 (by omega)) ha
def ZbH {α:Type} (h:Zc) (R:Nat) (s:ByteArray):Out α→Prop
  | .ok _ r=>Rf h R s 0 r
  | .err e r=>e≠0∧Rf h R s e r
theorem Y0 {α:Type} (hr:Rf h R s 0 l) {e:Nat} (he:e≠0) {e0:Int} (h0:e0=e) {K:HP} (hk:∀ h',ZbH h' R s (Xt e l:Out α)→Upd (· = R) h h'→sz h'=sz h→K h'):Zh (At R) e0 K h:=by
  unfold Zh Xs
  refine ZhA hr (Zng (ZkJ hr h0 fun h1 r1 u1 z1=>Zew r1 (fun hl=>?_) fun hl=>?_))
  ·subst hl
   have hrest:Zfb s s.size []:=⟨by simp,by simp⟩
   refine Zpi r1 (ZnW r1 rfl hrest fun h2 r2 u2 z2=>ZkJ r2 (e':=24) rfl fun h3 r3 u3 z3=>hk h3 ⟨by decide,r3⟩ ((u1.trans u2).trans u3) (z3.trans (z2.trans z1)))
  ·obtain ⟨c,l',rfl⟩:=List.exists_cons_of_ne_nil hl
   exact hk h1 ⟨he,r1⟩ u1 z1
theorem ZcE (hr:Rf h R s 0 l) {K:HP} (hk:∀ h',Rf h' R s 0 (ZF l)→Upd (· = R) h h'→sz h'=sz h→K h'):Zl (At R) K h:=by
  unfold Zl Yx
  refine ZQ (fun _ h'=>∃ l',Rf h' R s 0 l'∧ZF l'=ZF l∧Upd (· = R) h h'∧sz h'=sz h) (fun _ h'=>match obj h' R with
    | some (.cells c _ _)=>(match c.toList with
      | [.string s,.int _ n,_]=>s.size - n.toNat
      | _=>0)
    | _=>0) ⟨l,hr,rfl,Upd.refl _ _,rfl⟩ ?_
  rintro ⟨⟩ h1 ⟨l1,r1,e1,u1,z1⟩
  refine Zo (fun _ h'=>h'=h1∧∃ c l2,l1=c::l2∧Yd c=true) ?_ ?_
  ·rintro ⟨⟩ h2 ⟨rfl,c,l2,rfl,hc⟩
   refine Za6 r1 fun h3 r3 u3 z3=>⟨⟨l2,r3,?_,u1.trans u3,z3.trans z1⟩,?_⟩
   ·rw [← e1]
    unfold ZF
    rw [List.dropWhile_cons_of_pos hc]
   ·obtain ⟨_,n3,c3,g3⟩:=r3
    obtain ⟨_,n1,c1,g1⟩:=r1
    have:=g3.len
    have:=g1.len
    rw [c3,c1]
    simp at *
    omega
  ·have stop:(l1=[]∨∃ c l2,l1=c::l2∧Yd c=false)→K h1:=fun hs=>hk h1 (by
     have:ZF l1=l1:=by
       rcases hs with rfl | ⟨c,l2,rfl,hc⟩
       ·rfl
       ·exact XO hc
     rw [← e1,this];exact r1) u1 z1
   refine ZhA r1 (Zng (Zaz r1 (fun hne=>?_) fun he=>stop (.inl he)))
   obtain ⟨c,l2,rfl⟩:=List.exists_cons_of_ne_nil hne
   have q:∀ {n:Int} (d:UInt8) {A B:Prop},n=(d.toNat:Int)→(c=d→A)→(c≠d→B)→Zw (Xj (c::l2) ==n) A B:=fun {n} d {A B} hn ha hb=>by
     subst hn
     exact YQ (fun e=>ha (Zbt e)) fun e=>hb (Zcs e)
   refine Zi4 r1 (q 32 rfl (fun e=>⟨rfl,c,l2,rfl,by rw [e];rfl⟩) fun n1=>Zi4 r1 (q 9 rfl (fun e=>⟨rfl,c,l2,rfl,by rw [e];rfl⟩) fun n2=>Zi4 r1 (q 10 rfl (fun e=>⟨rfl,c,l2,rfl,by rw [e];rfl⟩) fun n3 =>
     Zi4 r1 (q 13 rfl (fun e=>⟨rfl,c,l2,rfl,by rw [e];rfl⟩) fun n4=>stop (.inr ⟨c,l2,rfl,by simp [Yd,n1,n2,n3,n4]⟩)))))
theorem Zkq (hr:Rf h R s e l) (he:e≠0) {K:HP} (hk:K h):Zl (At R) K h:=by
  unfold Zl Yx
  refine ZQ (fun _ h'=>h'=h) (fun _ _=>0) rfl ?_
  rintro ⟨⟩ h1 rfl
  exact Zo (fun _ _=>False) (fun _ _ h=>h.elim) (ZhA hr (Zr6 he hk))
theorem Ze2 (hr:Rf h R s 0 l) {c:UInt8} {n:Int} (hn:n=c.toNat) (hc:0<c.toNat) {K:HP} (hk:∀ h',ZbH h' R s (Xi [c] l)→Upd (· = R) h h'→sz h'=sz h→K h'):Zs (At R) n K h:=by
  unfold Zs YH
  refine ZhA hr (ZoL (Zew hr (fun he=>?_) fun hne=>?_))
  ·subst he
   exact Y0 (α:=Unit) hr (e:=20) (by decide) rfl hk
  ·obtain ⟨d,l',rfl⟩:=List.exists_cons_of_ne_nil hne
   refine Zi4 hr ?_
   dsimp only
   refine Zeb c (fun hd=>?_) (fun l2 e2=>?_) hn hc
   ·refine Y0 (α:=Unit) hr (e:=20) (by decide) rfl fun h' o u z=>hk h' ?_ u z
    show ZbH h' R s (if d=c then _ else _)
    rw [if_neg (hd d l' rfl)];exact o
   ·cases e2
    refine Za6 hr fun h1 r1 u1 z1=>hk h1 ?_ u1 z1
    show ZbH h1 R s (if c=c then _ else _)
    rw [if_pos rfl];exact r1
theorem Zfw (hr:Rf h R s e l) (he:e≠0) {n:Int} {K:HP} (hk:K h):Zs (At R) n K h:=by
  unfold Zs YH
  exact ZhA hr (Zqi he hk)
theorem Zmg {w:ByteArray} {wl:BL} (hw:w.data.toList=wl) (hs:w.size≤10) (h0:∀ c∈wl,0<c.toNat) (hr:Rf h R s 0 l) {K:HP} (hk:∀ h',ZbH h' R s (Xi wl l)→Upd (· = R) h h'→sz h'=sz h→K h'):Z4 (At R) w K h:=by
  unfold Z4 Xp
  have hwl:wl.length=w.size:=by rw [← hw];simp
  refine Za ?_
  refine ZQ (fun p h'=>∃ n:Nat,p.1=n∧n≤w.size∧Upd (· = R) h h'∧sz h'=sz h∧((∃ l',Rf h' R s 0 l'∧Xi (wl.drop n) l'=Xi wl l)∨∃ e r,e≠0∧Rf h' R s e r∧Xi wl l = .err e r)) (fun p _=>w.size - p.1.toNat)
    ⟨0,rfl,Nat.zero_le _,Upd.refl _ _,rfl,.inl ⟨l,hr,rfl⟩⟩ ?_
  rintro ⟨i,u⟩ h2 ⟨n,hi,hn,u2,z2,hc⟩
  dsimp only at hi ⊢
  subst hi
  refine Zk (fun hlt=>?_) fun hge=>?_
  ·have hn':n<wl.length:=by omega
   have hd:wl.drop n=wl[n]::wl.drop (n+1):=List.drop_eq_getElem_cons hn'
   have hx:w[n]?=some wl[n]:=by
     subst hw
     rw [getElem?_pos w n (by omega)]
     simp
     rfl
   refine ⟨wl[n],by omega,by rw [Int.toNat_natCast];exact hx,?_⟩
   rcases hc with ⟨l',r',q'⟩ | ⟨e,r,he,r',q'⟩
   ·refine Ze2 r' rfl (h0 _ (List.getElem_mem hn')) fun h3 o3 u3 z3=>Za ?_
    rw [ZZ (by omega) (by omega)]
    refine ⟨⟨n+1,rfl,by omega,u2.trans u3,z3.trans z2,?_⟩,by omega⟩
    rw [hd] at q'
    rcases l' with _ | ⟨d,l'⟩
    ·exact .inr ⟨24,[],by decide,o3.2,by rw [← q'];rfl⟩
    ·by_cases hdc:d=wl[n]
     ·left
      refine ⟨l',?_,?_⟩
      ·have:Xi [wl[n]] (d::l') = .ok () l':=by
         show (if d=wl[n] then _ else _)=_
         rw [if_pos hdc];rfl
       rw [this] at o3;exact o3
      ·rw [← q']
       show _=(if d=wl[n] then _ else _)
       rw [if_pos hdc]
     ·right
      have:∀ w',Xi (wl[n]::w') (d::l') = .err 20 (d::l'):=fun w'=>by
        show (if d=wl[n] then _ else _)=_
        rw [if_neg hdc]
      rw [this] at o3 q'
      exact ⟨20,d::l',by decide,o3.2,q'.symm⟩
   ·refine Zfw r' he (Za ?_)
    rw [ZZ (by omega) (by omega)]
    exact ⟨⟨n+1,rfl,by omega,u2,z2,.inr ⟨e,r,he,r',q'⟩⟩,by omega⟩
  ·have hn':n=wl.length:=by omega
   subst hn'
   refine hk h2 ?_ u2 z2
   rcases hc with ⟨l',r',q'⟩ | ⟨e,r,he,r',q'⟩
   ·rw [List.drop_length] at q'
    rw [← q'];exact r'
   ·rw [q'];exact ⟨he,r'⟩
theorem Zis {c:Int} {K:Bool→HP} (hk:K (decide (48≤c∧c≤57)) h):ZH c K h:=by
  unfold ZH Zal
  refine Zk (fun h1=>Zf ?_) fun h1=>?_
  ·rw [show decide (c≤57)=decide (48≤c∧c≤57) by simp;omega];exact hk
  ·rw [show decide (48≤c∧c≤57)=false by simp;omega] at hk;exact hk
theorem ZtU {c:Int} {K:Bool × Unit→Prop} (hk:K (decide (48≤c∧c≤57),())):ZaR (ρ:=Bool × Unit) (fun K h=>ZH c (fun q h=>K (q,()) h) h) h K :=
  ⟨(decide (48≤c∧c≤57),()),Zis ⟨rfl,rfl⟩,hk⟩
theorem Zha (c:UInt8):decide ((48:Int)≤(c.toNat:Int)∧(c.toNat:Int)≤57)=YX c:=by
  unfold YX
  rw [← Bool.decide_and]
  congr 1
  apply propext
  omega
theorem ZdY (hr:Rf h R s 0 l) {K:HP} (hk:∀ h',ZbH h' R s (Ya l)→Upd (· = R) h h'→sz h'=sz h→K h'):ZV (At R) K h:=by
  unfold ZV Y4
  refine ZhA hr (ZoL (Zew hr (fun he=>?_) fun hne=>?_))
  ·subst he
   exact Y0 (α:=Unit) hr (e:=21) (by decide) rfl hk
  ·obtain ⟨c,l',rfl⟩:=List.exists_cons_of_ne_nil hne
   refine Zi4 hr (ZtU ?_)
   show Zw (!decide ((48:Int)≤(c.toNat:Int)∧(c.toNat:Int)≤57)) _ _
   rw [Zha]
   cases hd:YX c with
   | false =>
     refine Zp rfl (Y0 (α:=Unit) hr (e:=21) (by decide) rfl fun h' o u z=>hk h' ?_ u z)
     show ZbH h' R s (if YX c=true then _ else _)
     rw [if_neg (by simp [hd])];exact o
   | true =>
     have hq:Ya (c::l') = .ok () (l'.dropWhile YX):=by
       show (if YX c=true then _ else _)=_
       rw [if_pos hd]
     refine Zq rfl ?_
     refine ZQ (fun _ h'=>∃ l2,Rf h' R s 0 l2∧l2.dropWhile YX=l'.dropWhile YX∧Upd (· = R) h h'∧sz h'=sz h) (fun _ h'=>match obj h' R with
       | some (.cells c _ _)=>(match c.toList with
         | [.string s,.int _ n,_]=>s.size - n.toNat
         | _=>0)
       | _=>0) ⟨c::l',hr,by rw [List.dropWhile_cons_of_pos hd],Upd.refl _ _,rfl⟩ ?_
     rintro ⟨⟩ h1 ⟨l1,r1,e1,u1,z1⟩
     have stop:(l1=[]∨∃ c l2,l1=c::l2∧YX c=false)→K h1:=fun hs=>hk h1 (by
       rw [hq,← e1]
       have:l1.dropWhile YX=l1:=by
         rcases hs with rfl | ⟨c,l2,rfl,hc⟩
         ·rfl
         ·rw [List.dropWhile_cons_of_neg (by simp [hc])]
       rw [this];exact r1) u1 z1
     refine Zaz r1 (fun hne=>?_) fun he=>stop (.inl he)
     obtain ⟨d,l2,rfl⟩:=List.exists_cons_of_ne_nil hne
     refine Zi4 r1 (ZtU ?_)
     show Zw (decide ((48:Int)≤(d.toNat:Int)∧(d.toNat:Int)≤57)) _ _
     rw [Zha]
     cases hd2:YX d with
     | false=>exact Zq rfl (stop (.inr ⟨d,l2,rfl,hd2⟩))
     | true =>
       refine Zp rfl (Za6 r1 fun h3 r3 u3 z3=>⟨⟨l2,r3,?_,u1.trans u3,z3.trans z1⟩,?_⟩)
       ·rw [← e1,List.dropWhile_cons_of_pos hd2]
       ·obtain ⟨_,n3,c3,g3⟩:=r3
        obtain ⟨_,n1,c1,g1⟩:=r1
        have:=g3.len
        have:=g1.len
        rw [c3,c1]
        simp at *
        omega
end
theorem ZbP {α:Type} {h:Zc} {R:Nat} {s:ByteArray} {x:Out α} (ho:ZbH h R s x):(∃ a r,x = .ok a r∧Rf h R s 0 r)∨∃ e r,x = .err e r∧e≠0∧Rf h R s e r:=by
  cases x with
  | ok a r=>exact .inl ⟨a,r,rfl,ho⟩
  | err e r=>exact .inr ⟨e,r,rfl,ho⟩
section
variable {h:Zc} {R:Nat} {s:ByteArray} {l:BL}
theorem ZjZ (hr:Rf h R s 0 l) {K:ByteArray→HP} (hk:∀ t h',ZbH h' R s (ZcQ l)→(∀ r,ZcQ l = .ok () r→t=Zg (Zfc l r))→Upd (· = R) h h'→sz h'=sz h→K t h'):Z8 (At R) K h:=by
  unfold Z8 Y2
  refine Zfp hr fun n0 g0=>Za ?_
  refine Zo (fun _ h'=>Rf h' R s 0 (XK l)∧Upd (· = R) h h'∧sz h'=sz h) ?_ ?_
  ·rintro ⟨⟩ h1 ⟨r1,u1,z1⟩
   refine Zo (fun p h'=>h'=h1∧(p.1=true↔∃ l',XK l=48::l')) ?_ ?_
   ·rintro ⟨b,u⟩ h2 ⟨rfl,hb⟩
    dsimp only at hb ⊢
    refine Zo (fun _ h'=>ZbH h' R s (ZeE (XK l))∧Upd (· = R) h h'∧sz h'=sz h) ?_ ?_
    ·rintro ⟨⟩ h3 ⟨o3,u3,z3⟩
     refine Zo (fun _ h'=>ZbH h' R s ((ZeE (XK l)).bind fun _ l1=>ZcV l1)∧Upd (· = R) h h'∧sz h'=sz h) ?_ ?_
     ·rintro ⟨⟩ h4 ⟨o4,u4,z4⟩
      refine Zo (fun _ h'=>ZbH h' R s (ZcQ l)∧Upd (· = R) h h'∧sz h'=sz h) ?_ ?_
      ·rintro ⟨⟩ h5 ⟨o5,u5,z5⟩
       have fin:∀ {e:Nat} {r:BL},Rf h5 R s e r→r <:+l→(∀ r',ZcQ l = .ok () r'→r'=r)→Zb (At R) fun b123 o124=>ldS h5 b123 o124 fun t125=>Zb (At R) fun b126 o127=>ldI h5 b126 (o127+1) .i64 fun t128=>ZjJ t125 n0 t128 fun t129=>K t129 h5:=fun {e r} r5 hsuf hq=>by
         refine Zpi r5 (Zfp r5 fun n5 g5=>?_)
         have hle:n0≤n5:=by have:=g0.len;have:=g5.len;have:=hsuf.length_le;omega
         refine ⟨by omega,by omega,by have:=g5.len;omega,?_⟩
         rw [Int.toNat_natCast,Int.toNat_natCast,g0.extract g5 hle]
         exact hk _ h5 o5 (fun r' hr'=>by rw [hq r' hr']) u5 z5
       rcases ZbP o5 with ⟨_,r,q,r5⟩ | ⟨e,r,q,he,r5⟩
       ·exact fin r5 (Zd8.sf.suf q) fun r' hr'=>by rw [q] at hr';cases hr';rfl
       ·exact fin r5 (Zd8.sf.esuf q).1 fun r' hr'=>by rw [q] at hr';cases hr'
      ·
       have hnum:ZcQ l=((ZeE (XK l)).bind fun _ l1=>ZcV l1).bind fun _ l2=>Zfd l2:=by
         unfold ZcQ
         cases ZeE (XK l)<;>rfl
       rcases ZbP o4 with ⟨_,r,q,r4⟩ | ⟨e,r,q,he,r4⟩
       ·rw [q] at hnum
        have hn2:ZcQ l=Zfd r:=hnum
        rw [hn2]
        refine Zo (fun p h'=>h'=h4∧(p.1=true↔∃ c l',r=c::l'∧(c=101∨c=69))) ?_ ?_
        ·rintro ⟨b,u⟩ h5 ⟨rfl,hb⟩
         dsimp only at hb ⊢
         cases hbb:b with
         | false =>
           refine Zq rfl ⟨?_,u4,z4⟩
           have:Zfd r = .ok () r:=by
             rcases r with _ | ⟨c,l'⟩
             ·rfl
             ·show (if c=101∨c=69 then _ else _)=_
              rw [if_neg fun hc=>by rw [hb.2 ⟨c,l',rfl,hc⟩] at hbb;cases hbb]
           rw [this];exact r4
         | true =>
           obtain ⟨c,l',rfl,hc⟩:=hb.1 hbb
           have hx:Zfd (c::l')=Ya (Zeg l'):=by
             show (if c=101∨c=69 then _ else _)=_
             rw [if_pos hc]
           rw [hx]
           have dg:∀ {h6:Zc} {l6:BL},Rf h6 R s 0 l6→Zeg l'=l6→Upd (· = R) h5 h6→sz h6=sz h5→ZV (At R) (fun h8=>ZbH h8 R s (Ya (Zeg l'))∧Upd (· = R) h h8∧sz h8=sz h) h6:=fun r6 hl u6 z6 =>
             ZdY r6 fun h7 o7 u7 z7=>⟨by rw [hl];exact o7,(u4.trans u6).trans u7,z7.trans (z6.trans z4)⟩
           refine Zp rfl (Za6 r4 fun h6 r6 u6 z6=>Zaz r6 (fun hne=>?_) fun he=>?_)
           ·obtain ⟨d,l2,rfl⟩:=List.exists_cons_of_ne_nil hne
            refine Zi4 r6 ?_
            refine YQ (fun e43=>Za6 r6 fun h7 r7 u7 z7=>dg r7 ?_ (u6.trans u7) (z7.trans z6)) fun e43=>Zi4 r6 (YQ (fun e45=>Za6 r6 fun h7 r7 u7 z7=>dg r7 ?_ (u6.trans u7) (z7.trans z6)) fun e45=>dg r6 ?_ u6 z6)
            ·show (if d=43∨d=45 then _ else _)=_
             rw [if_pos (.inl (Zbt (d:=43) e43))]
            ·show (if d=43∨d=45 then _ else _)=_
             rw [if_pos (.inr (Zbt (d:=45) e45))]
            ·show (if d=43∨d=45 then _ else _)=_
             rw [if_neg fun hc=>hc.elim (Zcs (d:=43) e43) (Zcs (d:=45) e45)]
           ·subst he
            exact dg r6 rfl u6 z6
        ·refine ZhA r4 (Zng (Zaz r4 (fun hne=>?_) fun he=>⟨rfl,by subst he;simp⟩))
         obtain ⟨d,l2,rfl⟩:=List.exists_cons_of_ne_nil hne
         refine Zi4 r4 (YQ (fun e1=>⟨rfl,?_⟩) fun e1=>Zi4 r4 ⟨rfl,?_⟩)
         ·simp only [true_iff]
          exact ⟨d,l2,rfl,.inl (Zbt (d:=101) e1)⟩
         ·constructor
          ·intro hb
           exact ⟨d,l2,rfl,.inr (Zbt (d:=69) (beq_iff_eq.1 hb))⟩
          ·rintro ⟨c,l',e,hc⟩
           cases e
           rcases hc with hc | hc
           ·exact absurd (by rw [hc];rfl) e1
           ·rw [hc];rfl
       ·rw [q] at hnum
        refine Zo (fun p h'=>h'=h4∧p.1=false) ?_ (ZhA r4 (Zr6 he ⟨rfl,rfl⟩))
        rintro ⟨b,u⟩ h5 ⟨rfl,hb⟩
        dsimp only at hb ⊢
        exact Zq hb ⟨by rw [hnum];exact ⟨he,r4⟩,u4,z4⟩
     ·
      rcases ZbP o3 with ⟨_,r,q,r3⟩ | ⟨e,r,q,he,r3⟩
      ·rw [q]
       show Zb _ _
       refine ZhA r3 (Zng (Zaz r3 (fun hne=>?_) fun he=>⟨by subst he;exact r3,u3,z3⟩))
       obtain ⟨d,l2,rfl⟩:=List.exists_cons_of_ne_nil hne
       have hf:∀ {x},(.ok () (d::l2):Out Unit).bind (fun _ l1=>ZcV l1)=x↔(if d=46 then Ya l2 else .ok () (d::l2))=x:=Iff.rfl
       refine Zi4 r3 (YQ (fun e1=>Za6 r3 fun h4 r4 u4 z4=>ZdY r4 fun h5 o5 u5 z5=>⟨?_,(u3.trans u4).trans u5,z5.trans (z4.trans z3)⟩) fun e1=>⟨?_,u3,z3⟩)
       ·show ZbH h5 R s (if d=46 then _ else _)
        rw [if_pos (Zbt (d:=46) e1)];exact o5
       ·show ZbH h3 R s (if d=46 then _ else _)
        rw [if_neg (Zcs (d:=46) e1)];exact r3
      ·rw [q]
       exact ZhA r3 (Zr6 he ⟨⟨he,r3⟩,u3,z3⟩)
    ·
     cases hbb:b with
     | true =>
       obtain ⟨l',e⟩:=hb.1 hbb
       rw [e] at r1 ⊢
       refine Zp rfl (Za6 r1 fun h3 r3 u3 z3=>?_)
       have hi:ZeE (48::l')=Zag l':=rfl
       rw [hi]
       refine Zaz r3 (fun hne=>?_) fun he=>⟨by subst he;exact r3,u1.trans u3,z3.trans z1⟩
       obtain ⟨d,l2,rfl⟩:=List.exists_cons_of_ne_nil hne
       refine Zi4 r3 (ZtU ?_)
       show Zw (decide ((48:Int)≤(d.toNat:Int)∧(d.toNat:Int)≤57)) _ _
       rw [Zha]
       cases hd:YX d with
       | true =>
         refine Zp rfl (Y0 (α:=Unit) r3 (e:=21) (by decide) rfl fun h4 o4 u4 z4=>⟨?_,(u1.trans u3).trans u4,z4.trans (z3.trans z1)⟩)
         show ZbH h4 R s (if YX d=true then _ else _)
         rw [if_pos hd];exact o4
       | false =>
         refine Zq rfl ⟨?_,u1.trans u3,z3.trans z1⟩
         show ZbH h3 R s (if YX d=true then _ else _)
         rw [if_neg (by simp [hd])];exact r3
     | false =>
       refine Zq rfl (ZdY r1 fun h3 o3 u3 z3=>⟨?_,u1.trans u3,z3.trans z1⟩)
       have:ZeE (XK l)=Ya (XK l):=by
         cases hm:XK l with
         | nil=>rfl
         | cons d l2 =>
           show (if d=48 then _ else _)=_
           rw [if_neg fun hd=>by rw [hb.2 ⟨l2,by rw [hm,hd]⟩] at hbb;cases hbb]
       rw [this];exact o3
   ·refine Zaz r1 (fun hne=>?_) fun he=>⟨rfl,by rw [he];simp⟩
    obtain ⟨d,l2,e⟩:=List.exists_cons_of_ne_nil hne
    rw [e] at r1
    refine Zi4 r1 (Zf ⟨rfl,?_⟩)
    rw [e]
    constructor
    ·intro hb
     exact ⟨l2,by rw [Zbt (c:=d) (d:=48) (beq_iff_eq.1 hb)]⟩
    ·rintro ⟨l',e2⟩
     cases e2;rfl
  ·refine Zcz hr (Zbl 45 (fun l' e=>?_) fun hn=>?_)
   ·subst e
    exact Za6 hr fun h1 r1 u1 z1=>⟨r1,u1,z1⟩
   ·have hm:XK l=l:=by
      rcases l with _ | ⟨d,l⟩
      ·rfl
      ·show (if d=45 then _ else _)=_
       rw [if_neg (hn d l rfl)]
    exact ⟨by rw [hm];exact hr,Upd.refl _ _,rfl⟩
theorem Zj8 (hr:Rf h R s 0 l) {K:Int→HP} (hk:∀ (n:Int) h',ZbH h' R s (Zbk 4 0 l)→(∀ m r,Zbk 4 0 l = .ok m r→n=(m:Int))→(∀ e r,Zbk 4 0 l = .err e r→n=0)→Upd (· = R) h h'→sz h'=sz h→K n h'):ZU (At R) K h:=by
  unfold ZU Xw
  refine Za (Za (Za ?_))
  refine ZQ (fun p h'=>∃ (N k:Nat) (l':BL),p.1=N∧p.2.1=((4 - k:Nat):Int)∧k≤4∧N<16 ^ (4 - k)∧Zbk k N l'=Zbk 4 0 l∧Rf h' R s 0 l'∧Upd (· = R) h h'∧sz h'=sz h) (fun p _=>(4 - p.2.1).toNat) ⟨0,4,l,rfl,rfl,by omega,by decide,rfl,hr,Upd.refl _ _,rfl⟩ ?_
  rintro ⟨n1,s5,u⟩ h2 ⟨N,k,l2,e1,e2,hk',hN,q2,r2,u2,z2⟩
  dsimp only at e1 e2 ⊢
  subst e1 e2
  refine Zk (fun hlt=>?_) fun hge=>?_
  ·obtain ⟨k,rfl⟩:∃ k',k=k'+1:=⟨k - 1,by omega⟩
   have hN2:N<65536:=by
     have:16 ^ (4 - (k+1))≤16 ^ 4:=Nat.pow_le_pow_right (by decide) (by omega)
     omega
   refine ZhA r2 (Zng (Zcz r2 (Za ?_)))
   refine Zo (fun p h'=>h'=h2∧∃ c l3 d,l2=c::l3∧ZeF c=some d∧p.1=((N*16+d:Nat):Int)) ?_ ?_
   ·rintro ⟨n,u⟩ h3 ⟨rfl,c,l3,d,rfl,hd,hn⟩
    dsimp only at hn ⊢
    subst hn
    refine Za6 r2 fun h4 r4 u4 z4=>Za ?_
    rw [ZZ (by omega) (by omega)]
    refine ⟨⟨N*16+d,k,l3,rfl,by omega,by omega,?_,?_,r4,u2.trans u4,z4.trans z2⟩,by omega⟩
    ·have h16:=Zk5 hd
     rw [show 4 - k=(4 - (k+1))+1 by omega,Nat.pow_succ]
     omega
    ·rw [← q2,Ze4,hd]
   ·have bad:(∀ c l3,l2=c::l3→ZeF c=none)→Zh (At R) 22 (fun h41=>Zm 0 fun t42=>K t42 h41) h2:=fun hno=>by
      refine Y0 (α:=Nat) r2 (e:=22) (by decide) rfl fun h3 o3 u3 z3=>Za ?_
      have hq:Zbk 4 0 l=Xt 22 l2:=by
        rw [← q2]
        rcases l2 with _ | ⟨c,l3⟩
        ·rfl
        ·rw [Ze4,hno c l3 rfl];rfl
      refine hk 0 h3 (by rw [hq];exact o3) (fun m r hm=>?_) (fun _ _ _=>rfl) (u2.trans u3) (z3.trans z2)
      rw [hq] at hm
      cases l2<;>cases hm
    rcases l2 with _ | ⟨c,l3⟩
    ·have hb:=bad fun c l3 e=>by cases e
     refine Zo (fun p h'=>h'=h2∧p.1=false) ?_ (Zaz r2 (fun hne=>absurd rfl hne) fun _=>⟨rfl,rfl⟩)
     rintro ⟨b,u⟩ h3 ⟨rfl,hb3⟩
     dsimp only at hb3 ⊢
     refine Zq hb3 (Zo (fun p h'=>h'=h3∧p.1=false) ?_ (Zaz r2 (fun hne=>absurd rfl hne) fun _=>⟨rfl,rfl⟩))
     rintro ⟨b,u⟩ h4 ⟨rfl,hb4⟩
     dsimp only at hb4 ⊢
     exact Zq hb4 (Zaz r2 (fun hne=>absurd rfl hne) fun _=>hb)
    ·have hne:c::l3≠[]:=by simp
     have hz:Xj (c::l3)=(c.toNat:Int):=rfl
     generalize Xj (c::l3)=z at hz ⊢
     subst hz
     refine Zo (fun p h'=>h'=h2∧p.1=YX c) ?_ (Zaz r2 (fun _=>ZtU (Zf ⟨rfl,Zha c⟩)) fun he=>by cases he)
     rintro ⟨b,u⟩ h3 ⟨rfl,hb3⟩
     dsimp only at hb3 ⊢
     subst hb3
     have dd:YX c=true↔48≤c.toNat∧c.toNat≤57:=ZbE
     by_cases hd:YX c=true
     ·have hcc:=dd.1 hd
      refine Zp hd (Za ⟨rfl,c,l3,c.toNat - 48,rfl,?_,?_⟩)
      ·rcases ZcT c with ⟨_,_,hx⟩ | ⟨a0,_⟩ | ⟨a0,_⟩ | ⟨a0,_⟩
       ·exact hx
       ·exact absurd hcc a0
       ·exact absurd hcc a0
       ·exact absurd hcc a0
      ·rw [Zjz (by omega) (by omega),ZZ (n:=(c.toNat:Int) - 48) (by omega) (by omega),ZZ (n:=(N:Int)*16) (by omega) (by omega),ZZ (by omega) (by omega)]
       omega
     ·have hcc:¬ (48≤c.toNat∧c.toNat≤57):=fun h=>hd (dd.2 h)
      refine Zq (by simpa using hd) ?_
      refine Zo (fun p h'=>h'=h3∧p.1=decide (97≤c.toNat∧c.toNat≤102)) ?_ (Zaz r2 (fun _=>Zk (p:=(c.toNat:Int)≥97) (fun h1=>Zf ⟨rfl,by rw [decide_eq_decide];omega⟩) (fun h1=>⟨rfl,by have h9:¬ (97≤c.toNat∧c.toNat≤102):=(fun h9=>h1 (show (c.toNat:Int)≥97 by omega));simp [h9]⟩)) (fun he=>by cases he))
      rintro ⟨b,u⟩ h4 ⟨rfl,hb4⟩
      dsimp only at hb4 ⊢
      subst hb4
      by_cases h2':97≤c.toNat∧c.toNat≤102
      ·refine Zp (by simp [h2']) (Za ⟨rfl,c,l3,c.toNat - 87,rfl,?_,?_⟩)
       ·rcases ZcT c with ⟨a0,a1,_⟩ | ⟨_,_,_,hx⟩ | ⟨_,b0,_⟩ | ⟨_,b0,_⟩
        ·exact absurd ⟨a0,a1⟩ hcc
        ·exact hx
        ·exact absurd h2' b0
        ·exact absurd h2' b0
       ·rw [Zjz (by omega) (by omega),ZZ (n:=(c.toNat:Int) - 97) (by omega) (by omega),ZZ (n:=(N:Int)*16) (by omega) (by omega),ZZ (n:=(N:Int)*16+_) (by omega) (by omega),ZZ (by omega) (by omega)]
        omega
      ·have hb:¬ (65≤c.toNat∧c.toNat≤70)→Zh (At R) 22 (fun h41=>Zm 0 fun t42=>K t42 h41) h4:=fun h3'=>bad fun c' l3' e=>by
         cases e
         rcases ZcT c with ⟨a0,a1,_⟩ | ⟨_,b0,b1,_⟩ | ⟨_,_,c0,c1,_⟩ | ⟨_,_,_,hx⟩
         ·exact absurd ⟨a0,a1⟩ hcc
         ·exact absurd ⟨b0,b1⟩ h2'
         ·exact absurd ⟨c0,c1⟩ h3'
         ·exact hx
       refine Zq (by simp [h2']) (Zaz r2 (fun _=>Zk (fun h65=>Zf (Zk (fun h70=>Za ⟨rfl,c,l3,c.toNat - 55,rfl,?_,?_⟩) fun h70=>hb (by omega))) fun h65=>hb (by omega)) fun he=>by cases he)
       ·rcases ZcT c with ⟨a0,a1,_⟩ | ⟨_,b0,b1,_⟩ | ⟨_,_,_,_,hx⟩ | ⟨_,_,c0,_⟩
        ·exact absurd ⟨a0,a1⟩ hcc
        ·exact absurd ⟨b0,b1⟩ h2'
        ·exact hx
        ·exact absurd (by omega) c0
       ·rw [Zjz (by omega) (by omega),ZZ (n:=(c.toNat:Int) - 65) (by omega) (by omega),ZZ (n:=(N:Int)*16) (by omega) (by omega),ZZ (n:=(N:Int)*16+_) (by omega) (by omega),ZZ (by omega) (by omega)]
        omega
  ·obtain rfl:k=0:=by omega
   have hq:Zbk 4 0 l = .ok N l2:=by rw [← q2];rfl
   refine Za (hk N h2 (by rw [hq];exact r2) (fun m r hm=>?_) (fun e r hm=>?_) u2 z2)
   ·rw [hq] at hm;cases hm;rfl
   ·rw [hq] at hm;cases hm
end
theorem Zox {a b c d:UInt8} (r:BL):(∃ m,Zbk 4 0 (a::b::c::d::r) = .ok m r∧Zbk 4 0 [a,b,c,d] = .ok m [])∨(∃ e q e' q',Zbk 4 0 (a::b::c::d::r) = .err e q∧Zbk 4 0 [a,b,c,d] = .err e' q'):=by
  simp only [Zbk]
  cases ZeF a with
  | none=>exact .inr ⟨_,_,_,_,rfl,rfl⟩
  | some x =>
    simp only
    cases ZeF b with
    | none=>exact .inr ⟨_,_,_,_,rfl,rfl⟩
    | some x =>
      simp only
      cases ZeF c with
      | none=>exact .inr ⟨_,_,_,_,rfl,rfl⟩
      | some x =>
        simp only
        cases ZeF d with
        | none=>exact .inr ⟨_,_,_,_,rfl,rfl⟩
        | some x=>exact .inl ⟨_,rfl,rfl⟩
theorem ZmS {l:BL} (h:l.length<4):∃ e q,Zbk 4 0 l = .err e q:=by
  cases hx:Zbk 4 0 l with
  | ok m r=>have:=(Zac 4 hx).1;omega
  | err e q=>exact ⟨e,q,rfl⟩
section
variable {h:Zc} {R:Nat} {s:ByteArray} {l:BL}
theorem ZpX (hr:Rf h R s 0 l) {K:Int→HP} (hk:∀ h',Ext h h'→K (match ZgN l with | some (m,_)=>(m:Int) | none=>0) h'):Z0 (At R) K h:=by
  unfold Z0 YN
  have hll:=hr.len
  have no:ZgN l=none→K 0 h:=fun e=>by have:=hk h (Ext.refl _);rw [e] at this;exact this
  refine Za (Zfp hr fun n hn=>Zpi hr ?_)
  have hnl:=hn.len
  rw [ZZ (by omega) (by omega)]
  refine Zk (fun hgt=>Za (no ?_)) fun hle=>?_
  ·unfold ZgN
   cases hb:Xx l with
   | none=>rfl
   | some l2 =>
     have e:=XD hb
     obtain ⟨e',q,hx⟩:=ZmS (l:=l2) (by rw [e] at hnl;simp at hnl;omega)
     simp only [hx]
  ·obtain ⟨a,b,c1,c2,c3,c4,r,rfl⟩:∃ a b c1 c2 c3 c4 r,l=a::b::c1::c2::c3::c4::r:=by
     rcases l with _ | ⟨a,_ | ⟨b,_ | ⟨c1,_ | ⟨c2,_ | ⟨c3,_ | ⟨c4,r⟩⟩⟩⟩⟩⟩
     all_goals first | exact ⟨_,_,_,_,_,_,_,rfl⟩ | (exfalso;simp at hnl;omega)
   simp only [List.length_cons] at hnl
   refine Zpi hr (Zfp hr fun n1 hn1=>⟨a,by omega,by rw [Int.toNat_natCast];exact hn1.head,?_⟩)
   refine ZbM (fun hne=>Za (no ?_)) fun heq=>?_
   ·unfold ZgN;rw [Za8,if_neg fun hh=>Zcs (d:=92) hne hh.1]
   ·refine Zpi hr (Zfp hr fun n2 hn2=>?_)
    have hn2l:=hn2.len
    simp only [List.length_cons] at hn2l
    rw [ZZ (by omega) (by omega)]
    refine ⟨b,by omega,by rw [show ((n2:Int)+1).toNat=n2+1 by omega];exact hn2.tail.head,?_⟩
    refine ZbM (fun hne=>Za (no ?_)) fun heq2=>?_
    ·unfold ZgN;rw [Za8,if_neg fun hh=>Zcs (d:=117) hne hh.2]
    ·have ha:a=92:=Zbt (d:=92) heq
     have hb:b=117:=Zbt (d:=117) heq2
     obtain ⟨hs,n3,c,hn3⟩:=id hr
     have hn3l:=hn3.len
     simp only [List.length_cons] at hn3l
     refine ZW (ZW (ZW (rS (Zn c rfl) (rI (Zn c rfl) ?_))))
     rw [ZZ (by omega) (by omega)]
     refine ⟨by omega,by omega,by omega,rI (Zn c rfl) ?_⟩
     rw [ZZ (n:=(n3:Int)+2) (by omega) (by omega)]
     refine ZbZ fun h1 cx e1 z1=>?_
     refine YA (Zn (YY c e1) rfl) (YA (Zn (YY c e1) rfl) (YA (Zn (YY c e1) rfl) ?_))
     have hx:Rf h1 h.size (s.extract (0:Int).toNat ((n3:Int)+6).toNat) 0 [c1,c2,c3,c4]:=by
       have e6:((n3:Int)+6).toNat=n3+6:=by omega
       have hsz:(s.extract 0 (n3+6)).size=n3+6:=by rw [ByteArray.size_extract];omega
       refine ⟨by show (s.extract 0 ((n3:Int)+6).toNat).size≤_;rw [e6,hsz];omega,n3+2,cx,?_,?_⟩
       ·show (s.extract 0 ((n3:Int)+6).toNat).data.toList.drop (n3+2)=_
        rw [e6]
        have hd:s.data.toList.drop (n3+2)=c1::c2::c3::c4::r:=hn3.tail.tail.drop
        have:(s.extract 0 (n3+6)).data.toList=s.data.toList.take (n3+6):=by
          rw [ByteArray.data_extract,Array.toList_extract]
          simp
        rw [this,List.drop_take,hd,show n3+6 - (n3+2)=4 by omega]
        rfl
       ·show n3+2+4=(s.extract 0 ((n3:Int)+6).toNat).size
        rw [e6,hsz]
     refine Zj8 hx fun n h2 o2 hok herr u2 z2=>Za ?_
     have e2:Ext h h2:=e1.updS u2 fun j hj=>by subst hj;exact Nat.le_refl _
     have hlow:ZgN (a::b::c1::c2::c3::c4::r)=match Zbk 4 0 (c1::c2::c3::c4::r) with
       | .ok m l3=>if Zjx m then some (m,l3) else none
       | .err _ _=>none:=by
       unfold ZgN
       rw [Za8,if_pos ⟨ha,hb⟩]
       rfl
     have key:=hk h2 e2
     rcases Zox (a:=c1) (b:=c2) (c:=c3) (d:=c4) r with ⟨m,q1,q2⟩ | ⟨e,q,e',q',q1,q2⟩
     ·rw [q1] at hlow
      have hlow:ZgN (a::b::c1::c2::c3::c4::r)=if Zjx m=true then some (m,r) else none:=hlow
      rw [hok m _ q2]
      rw [q2] at o2
      obtain ⟨_,n4,cc4,_⟩:=id o2
      rw [hlow] at key
      refine rI (Zn cc4 rfl) (ZoL ?_)
      by_cases hlo:56320≤m∧m<57344
      ·rw [if_pos (show Zjx m=true by simp [Zjx,hlo])] at key
       exact Zq (by simp;omega) (Zq (by simp;omega) (Za key))
      ·rw [if_neg (show ¬ Zjx m=true by simp [Zjx];omega)] at key
       refine Zk (fun h1=>Za key) fun h1=>Zp (by simp;omega) (Za key)
     ·rw [q1] at hlow
      have hlow:ZgN (a::b::c1::c2::c3::c4::r)=none:=hlow
      rw [q2] at o2
      obtain ⟨he,_,n4,cc4,_⟩:=id o2
      rw [hlow] at key
      exact rI (Zn cc4 rfl) (Zqi he (Za key))
theorem ZpC {n k:Nat} (hk:k≤20):Zhm .i64 (n:Int) (k:Int)=((n / 2 ^ k:Nat):Int):=by
  unfold Zhm
  rw [Int.toNat_natCast,show min k IntKind.i64.bits=k from Nat.min_eq_left (by show k≤64;omega)]
  have:(2:Int) ^ k=((2 ^ k:Nat):Int):=by push_cast;rfl
  rw [this,Int.fdiv_eq_ediv_of_nonneg _ (Int.natCast_nonneg _)]
  rfl
theorem Zvh {n:Nat} (h:n<2147483648):Zhi .i64 (n:Int) 63=((n % 64:Nat):Int):=by
  unfold Zhi
  have hb:IntKind.i64.bits=64:=rfl
  rw [hb,show (63:Int)=((63:Nat):Int) from rfl,BitVec.ofInt_natCast,BitVec.ofInt_natCast,BitVec.toNat_and,BitVec.toNat_ofNat,BitVec.toNat_ofNat,Nat.mod_eq_of_lt (by omega),Nat.mod_eq_of_lt (by omega)]
  have:n &&& 63=n % 64:=Nat.and_two_pow_sub_one_eq_mod n 6
  rw [this,ZZ (by omega) (by omega)]
theorem ZvB {c a:Nat} (hc:(c=128∧a<64)∨(c=192∧a<32)∨(c=224∧a<16)∨(c=240∧a<8)):orV .i64 (c:Int) (a:Int)=((c+a:Nat):Int):=by
  rcases hc with ⟨rfl,ha⟩ | ⟨rfl,ha⟩ | ⟨rfl,ha⟩ | ⟨rfl,ha⟩
  ·have:∀ b:Fin 64,orV .i64 ((128:Nat):Int) ((b.val:Nat):Int)=((128+b.val:Nat):Int):=by decide +kernel
   exact this ⟨a,ha⟩
  ·have:∀ b:Fin 32,orV .i64 ((192:Nat):Int) ((b.val:Nat):Int)=((192+b.val:Nat):Int):=by decide +kernel
   exact this ⟨a,ha⟩
  ·have:∀ b:Fin 16,orV .i64 ((224:Nat):Int) ((b.val:Nat):Int)=((224+b.val:Nat):Int):=by decide +kernel
   exact this ⟨a,ha⟩
  ·have:∀ b:Fin 8,orV .i64 ((240:Nat):Int) ((b.val:Nat):Int)=((240+b.val:Nat):Int):=by decide +kernel
   exact this ⟨a,ha⟩
theorem Ziu {n:Nat} (h:n<2147483648):Value.int .u8 (IntKind.wrap .u8 (orV .i64 (128:Int) (Zhi .i64 (n:Int) 63)))=bv (UInt8.ofNat (128+n % 64)):=by
  rw [Zvh h,show (128:Int)=((128:Nat):Int) from rfl,ZvB (.inl ⟨rfl,by omega⟩),w8,show (128+n % 64) % 256=128+n % 64 by omega]
  exact Zkp (by omega)
theorem Zop {n k c:Nat} (hk:k≤20) (hc:(c=128∧n / 2 ^ k<64)∨(c=192∧n / 2 ^ k<32)∨(c=224∧n / 2 ^ k<16)∨(c=240∧n / 2 ^ k<8)):Value.int .u8 (IntKind.wrap .u8 (orV .i64 (c:Int) (Zhm .i64 (n:Int) (k:Int))))=bv (UInt8.ofNat (c+n / 2 ^ k)):=by
  rw [ZpC hk]
  generalize n / 2 ^ k=q at hc ⊢
  rw [ZvB hc,w8,show (c+q) % 256=c+q by omega]
  exact Zkp (by omega)
theorem Zpr {n:Nat} (hn:n<1114112) {n0:Int} (h0:n0=n) {K:ByteArray→HP} (hk:∀ h',Ext h h'→K (Zg (Zbb n)) h'):YT n0 K h:=by
  subst h0
  unfold YT ZaW
  have go:∀ (new:BL) (cells:List Value) (m:Nat),Zbb n=new→cells=new.map bv→m=new.length→newC h cells 5 fun b h1=>b2s ⟨some ⟨b,0,none⟩,m,m⟩ h1 fun t=>K t h1:=by
    intro new cells m hu hc hm
    have h4:=Zdw n
    rw [hu] at h4
    refine Zte new m hc hm.symm (by omega) fun b h1 hr e1 _=>Zkr hr ?_
    have:=hk h1 e1
    rwa [hu] at this
  refine Zf (Zk (fun h1=>?_) fun h1=>Zf (Zk (fun h2=>⟨by decide,?_⟩) fun h2=>Zf (Zk (fun h3=>⟨by decide,by decide,?_⟩) fun h3=>⟨by decide,by decide,by decide,?_⟩)))
  ·refine go [UInt8.ofNat n] _ 1 (by unfold Zbb;rw [if_pos (by omega)]) ?_ rfl
   rw [w8,show n % 256=n by omega,Zkp (by omega)];rfl
  ·refine go [UInt8.ofNat (192+n / 64),UInt8.ofNat (128+n % 64)] _ 2 (by unfold Zbb;rw [if_neg (by omega),if_pos (by omega)]) ?_ rfl
   rw [Ziu (by omega),show ((192:Int))=((192:Nat):Int) from rfl,show ((6:Int))=((6:Nat):Int) from rfl,Zop (by omega) (.inr (.inl ⟨rfl,by omega⟩))];rfl
  ·refine go [UInt8.ofNat (224+n / 4096),UInt8.ofNat (128+n / 64 % 64),UInt8.ofNat (128+n % 64)] _ 3 (by unfold Zbb;rw [if_neg (by omega),if_neg (by omega),if_pos (by omega)]) ?_ rfl
   rw [Ziu (by omega),show ((224:Int))=((224:Nat):Int) from rfl,show ((6:Int))=((6:Nat):Int) from rfl,show ((12:Int))=((12:Nat):Int) from rfl,Zop (by omega) (.inr (.inr (.inl ⟨rfl,by omega⟩))),ZpC (by omega),Ziu (by omega)];rfl
  ·refine go [UInt8.ofNat (240+n / 262144),UInt8.ofNat (128+n / 4096 % 64),UInt8.ofNat (128+n / 64 % 64),UInt8.ofNat (128+n % 64)] _ 4 (by unfold Zbb;rw [if_neg (by omega),if_neg (by omega),if_neg (by omega)]) ?_ rfl
   rw [Ziu (by omega),show ((240:Int))=((240:Nat):Int) from rfl,show ((6:Int))=((6:Nat):Int) from rfl,show ((12:Int))=((12:Nat):Int) from rfl,show ((18:Int))=((18:Nat):Int) from rfl,
     Zop (by omega) (.inr (.inr (.inr ⟨rfl,by omega⟩))),ZpC (k:=12) (by omega),ZpC (k:=6) (by omega),Ziu (by omega),Ziu (by omega)];rfl
theorem Zpv {c:UInt8} {n:Int} (hn:n=c.toNat) {K:Int→Int→Int→HP} (hk:K (nRb c) (loR c) (hiR c) h):YR n K h:=by
  subst hn
  unfold YR X9
  have lf:∀ (a b d:Nat),ZfI c.toNat=(a,b,d)→K a b d h:=fun a b d e=>by
    have:=hk
    unfold nRb loR hiR at this
    rw [e] at this;exact this
  have hc:=c.toNat_lt
  refine Za (Za (Za (Zf (Zk (fun h1=>?_) fun h1=>?_))))
  ·exact Za (Za (Za (lf 1 0 0 (by unfold ZfI;rw [if_pos (by omega)]))))
  refine Zo (fun p h'=>h'=h∧p.1=decide (194≤c.toNat∧c.toNat≤223)) ?_ (Zk (p:=(c.toNat:Int)≥194) (fun h1=>Zf ⟨rfl,by rw [decide_eq_decide];omega⟩) (fun h1=>⟨rfl,by
    have:¬ (194≤c.toNat∧c.toNat≤223):=fun h9=>h1 (show (c.toNat:Int)≥194 by omega)
    simp [this]⟩))
  rintro ⟨b,u⟩ h2 ⟨rfl,hb⟩
  dsimp only at hb ⊢
  subst hb
  by_cases h2':194≤c.toNat∧c.toNat≤223
  ·exact Zp (by simp [h2']) (Za (Za (Za (lf 2 128 191 (by unfold ZfI;rw [if_neg (by omega),if_pos (by omega)])))))
  refine Zq (by simp [h2']) ?_
  have fin4:¬ c.toNat=244→c.toNat≠240→¬ (241≤c.toNat∧c.toNat≤243)→c.toNat≠224→c.toNat≠237→¬ (225≤c.toNat∧c.toNat≤239)→ZfI c.toNat=(0,0,0):=fun a b d e f g=>by
    unfold ZfI
    rw [if_neg (by omega),if_neg (by omega),if_neg (by omega),if_neg (by omega),if_neg (by omega),if_neg (by omega),if_neg (by omega),if_neg (by omega)]
  have c244:c.toNat=244→ZfI c.toNat=(4,128,143):=fun e=>by rw [e];rfl
  have c240:c.toNat=240→ZfI c.toNat=(4,144,191):=fun e=>by rw [e];rfl
  have c241:241≤c.toNat∧c.toNat≤243→ZfI c.toNat=(4,128,191):=fun e=>by
    unfold ZfI
    rw [if_neg (by omega),if_neg (by omega),if_neg (by omega),if_neg (by omega),if_neg (by omega),if_neg (by omega),if_pos (by omega)]
  have eqN:∀ {n:Nat} {A B:Prop},(c.toNat=n→A)→(c.toNat≠n→B)→ZK ((c.toNat:Int) ==(n:Int)) fun t=>Zw t A B:=fun {n A B} ha hb=>Zf (YQ (fun e=>ha (by omega)) fun e=>hb (by omega))
  refine eqN (n:=224) (fun e=>Za (Za (Za (lf 3 160 191 (by rw [e];rfl))))) fun n224=>?_
  refine eqN (n:=237) (fun e=>Za (Za (Za (lf 3 128 159 (by rw [e];rfl))))) fun n237=>?_
  refine Zk (p:=(c.toNat:Int)≥225) (fun g225=>?_) fun g225=>?_
  ·refine Zf (Zk (p:=(c.toNat:Int)≤239) (fun g239=>?_) fun g239=>?_)
   ·exact Za (Za (Za (lf 3 128 191 (by
      unfold ZfI
      rw [if_neg (by omega),if_neg (by omega),if_neg (by omega),if_neg (by omega),if_pos (by omega)]))))
   ·refine eqN (n:=240) (fun e=>Za (Za (Za (lf 4 144 191 (c240 e))))) fun n240=>?_
    refine Zk (p:=(c.toNat:Int)≥241) (fun g241=>Zf (Zk (p:=(c.toNat:Int)≤243) (fun g243=>?_) fun g243=>?_)) fun g241=>?_
    ·exact Za (Za (Za (lf 4 128 191 (c241 (by omega)))))
    ·exact eqN (n:=244) (fun e=>Za (Za (Za (lf 4 128 143 (c244 e))))) fun n244=>Za (Za (Za (lf 0 0 0 (fin4 n244 n240 (by omega) n224 n237 (by omega)))))
    ·exact eqN (n:=244) (fun e=>Za (Za (Za (lf 4 128 143 (c244 e))))) fun n244=>Za (Za (Za (lf 0 0 0 (fin4 n244 n240 (by omega) n224 n237 (by omega)))))
  ·refine eqN (n:=240) (fun e=>Za (Za (Za (lf 4 144 191 (c240 e))))) fun n240=>?_
   refine Zk (p:=(c.toNat:Int)≥241) (fun g241=>Zf (Zk (p:=(c.toNat:Int)≤243) (fun g243=>?_) fun g243=>?_)) fun g241=>?_
   ·exact Za (Za (Za (lf 4 128 191 (c241 (by omega)))))
   ·exact eqN (n:=244) (fun e=>Za (Za (Za (lf 4 128 143 (c244 e))))) fun n244=>Za (Za (Za (lf 0 0 0 (fin4 n244 n240 (by omega) n224 n237 (by omega)))))
   ·exact eqN (n:=244) (fun e=>Za (Za (Za (lf 4 128 143 (c244 e))))) fun n244=>Za (Za (Za (lf 0 0 0 (fin4 n244 n240 (by omega) n224 n237 (by omega)))))
end
def ZnL:BL→Out BL
  | []=> .err 24 []
  | c::l=>if c=34 then ZfJ l else .err 20 (c::l)
section
variable {h:Zc} {R:Nat} {s:ByteArray} {l:BL}
theorem cEq {c:UInt8} {n:Int} (d:UInt8) (hn:n=(d.toNat:Int)) {A B:Prop} (ha:c=d→A) (hb:c≠d→B):ZK (((c.toNat:Nat):Int) ==n) fun t=>Zw t A B:=by
  subst hn
  exact Zf (YQ (fun e=>ha (Zbt e)) fun e=>hb (Zcs e))
theorem Zkc (hr:Rf h R s 0 l) (hR:9≤R) {K:ByteArray→HP}
    (hk:∀ (o:ByteArray) h',ZbH h' R s (Zho l)→(∀ t r,Zho l = .ok t r→o=Zg t)→o.size≤4→Upd (· = R) h h'→K o h'):Z9 (At R) K h:=by
  unfold Z9 Y3
  have hRs:=hr.lt
  refine Zcz hr (Za (Zew hr (fun he=>?_) fun hne=>?_))
  ·subst he
   refine Y0 (α:=BL) hr (e:=24) (by decide) rfl fun h1 o1 u1 z1=>hk _ h1 o1 (fun t r ht=>by cases ht) (by decide) u1
  obtain ⟨c,l1,rfl⟩:=List.exists_cons_of_ne_nil hne
  have hz:Xj (c::l1)=(c.toNat:Int):=rfl
  generalize Xj (c::l1)=z at hz ⊢
  subst hz
  have hll:=hr.len
  have sign:∀ {h1:Zc} {o:ByteArray} {m:UInt8},Zav c=some m→o=Zg [m]→Ext h h1→Zb (At R) fun b53 o54=>ldI h1 b53 (o54+1) .i64 fun t55=>Zb (At R) fun b56 o57=>st h1 b56 (o57+1) (.int .i64 (IntKind.wrap .i64 (t55+1))) fun h58=>K o h58:=fun {h1 o m} hm ho e1 =>
    Za6 (hr.ext e1) fun h2 r2 u2 z2=>by
     have hq:Zho (c::l1) = .ok [m] l1:=by rw [ZcW,hm]
     exact hk o h2 (by rw [hq];exact r2) (fun t r ht=>by rw [hq] at ht;cases ht;exact ho) (by rw [ho,YM];simp) (UN e1 u2)
  refine Zo (fun p h'=>∃ m,Zav c=some m∧p.1=Zg [m]∧Ext h h') ?_ ?_
  ·rintro ⟨o,u⟩ h1 ⟨m,hm,ho,e1⟩
   exact sign hm ho e1
  refine Zo (fun p h'=>h'=h∧(p.1=true↔c=34∨c=92∨c=47)) ?_ ?_
  ·rintro ⟨b,u⟩ h1 ⟨rfl,hb⟩
   dsimp only at hb ⊢
   cases hbb:b with
   | true =>
     have hm:Zav c=some c:=by
       rcases hb.1 hbb with rfl | rfl | rfl<;>rfl
     refine Zp rfl (Zte [c] 1 rfl rfl (by decide) fun b1 h2 hr2 e2 _=>Zkr hr2 ⟨c,hm,rfl,e2⟩)
   | false =>
     have hn:c≠34∧c≠92∧c≠47:=by
       have h9:¬ (c=34∨c=92∨c=47):=fun e=>by have:=hb.2 e;rw [hbb] at this;cases this
       exact ⟨fun e=>h9 (.inl e),fun e=>h9 (.inr (.inl e)),fun e=>h9 (.inr (.inr e))⟩
     obtain ⟨n34,n92,n47⟩:=hn
     refine Zq rfl (cEq 98 rfl (fun e=>⟨8,by rw [e];rfl,rfl,Ext.refl _⟩) fun n98=>cEq 102 rfl (fun e=>⟨12,by rw [e];rfl,rfl,Ext.refl _⟩) fun n102=>cEq 110 rfl (fun e=>⟨10,by rw [e];rfl,rfl,Ext.refl _⟩) fun n110 =>
       cEq 114 rfl (fun e=>⟨13,by rw [e];rfl,rfl,Ext.refl _⟩) fun n114=>cEq 116 rfl (fun e=>⟨9,by rw [e];rfl,rfl,Ext.refl _⟩) fun n116=>cEq 117 rfl (fun e=>?_) fun n117=>?_)
     ·subst e
      have hq:Zho (117::l1)=(Zbk 4 0 l1).bind fun n l1=>match (if ZfW n then ZgN l1 else none) with
          | some (m,l3)=> .ok (Zbb (Zei n m)) l3
          | none=> .ok (Zbb (Zdb n)) l1:=by rw [ZcW,Zoi];simp only [↓reduceIte];rfl
      refine Za6 hr fun h2 r2 u2 z2=>Zj8 r2 fun n h3 o3 hok herr u3 z3=>Za ?_
      have u13:=u2.trans u3
      have done:∀ {h4:Zc} {k:Nat},k<1114112→ZbH h4 R s (Zho (117::l1))→(∀ t r,Zho (117::l1) = .ok t r→t=Zbb k)→Upd (· = R) h1 h4→YT (k:Int) (fun t48 h49=>K t48 h49) h4:=fun {h4 k} hk9 o4 ht u4 =>
        Zpr hk9 rfl fun h5 e5=>hk _ h5 (by
         rcases ZbP o4 with ⟨a,r,q,r4⟩ | ⟨e,r,q,he,r4⟩
         ·rw [q];exact r4.ext e5
         ·rw [q];exact ⟨he,r4.ext e5⟩) (fun t r hh=>by rw [ht t r hh]) (Zdw k) (u4.trans (e5.upd _))
      rcases ZbP o3 with ⟨m,r,q,r3⟩ | ⟨e,r,q,he,r3⟩
      ·have hn:=hok m r q
       subst hn
       have hm:=ZgV 4 q
       have hm:m<65536:=by omega
       rw [q] at hq
       have hq:Zho (117::l1)=match (if ZfW m then ZgN r else none) with
         | some (m',l3)=> .ok (Zbb (Zei m m')) l3
         | none=> .ok (Zbb (Zdb m)) r:=hq
       refine Zo (fun _ h'=>Ext h3 h'∧Zho (117::l1) = .ok (Zbb (Zdb m)) r) ?_ ?_
       ·rintro ⟨⟩ h4 ⟨e4,q4⟩
        have o4:ZbH h4 R s (Zho (117::l1)):=by rw [q4];exact r3.ext e4
        have ht4:∀ t r',Zho (117::l1) = .ok t r'→t=Zbb (Zdb m):=fun t r' hh=>by rw [q4] at hh;cases hh;rfl
        have u4:=u13.trans (e4.upd _)
        refine Zo (fun _ h'=>h'=h4∧Zdb m=m) ?_ ?_
        ·rintro ⟨⟩ h5 ⟨rfl,hf⟩
         rw [hf] at ht4
         exact done (k:=m) (by omega) o4 ht4 u4
        ·refine Zk (p:=(m:Int)≥55296) (fun g1=>Zk (p:=(m:Int)≤57343) (fun g2=>?_) fun g2=>⟨rfl,?_⟩) fun g1=>⟨rfl,?_⟩
         ·have hf:Zdb m=65533:=by unfold Zdb;rw [if_pos (by omega)]
          rw [hf] at ht4
          exact done (k:=65533) (by omega) o4 ht4 u4
         ·unfold Zdb;rw [if_neg (by omega)]
         ·unfold Zdb;rw [if_neg (by omega)]
       ·have nolow:∀ {x:Option (Nat × BL)},(if ZfW m then ZgN r else none)=x→x=none→Zho (117::l1) = .ok (Zbb (Zdb m)) r:=fun hx hx2=>by rw [hq,hx,hx2]
        refine Zk (p:=(m:Int)≥55296) (fun g1=>Zk (p:=(m:Int)≤56319) (fun g2=>?_) fun g2=>⟨Ext.refl _,nolow (by rw [if_neg (by simp [ZfW];omega)]) rfl⟩) fun g1=>⟨Ext.refl _,nolow (by rw [if_neg (by simp [ZfW];omega)]) rfl⟩
        have hhi:ZfW m=true:=by simp [ZfW];omega
        refine ZpX r3 fun h4 e4=>Za ?_
        cases hlb:ZgN r with
        | none =>
          exact Zq (by simp) ⟨e4,nolow (by rw [if_pos hhi];exact hlb) rfl⟩
        | some p =>
          obtain ⟨m2,l3⟩:=p
          dsimp only
          have hbl:∃ l2,Xx r=some l2∧Zbk 4 0 l2 = .ok m2 l3∧Zjx m2=true:=by
            unfold ZgN at hlb
            cases hb:Xx r with
            | none=>rw [hb] at hlb;cases hlb
            | some l2 =>
              rw [hb] at hlb
              simp only at hlb
              cases hx:Zbk 4 0 l2 with
              | err e q=>rw [hx] at hlb;cases hlb
              | ok k l4 =>
                rw [hx] at hlb
                simp only at hlb
                split at hlb
                ·rename_i hlo
                 cases hlb
                 exact ⟨l2,rfl,hx,hlo⟩
                ·cases hlb
          obtain ⟨l2,hb2,hx2,hlo⟩:=hbl
          have hrr:=XD hb2
          have hxl:=Zac 4 hx2
          have hlo':56320≤m2∧m2<57344:=by simpa [Zjx] using hlo
          have hdrop:r.drop 6=l3:=by
            obtain ⟨z,hz⟩:=hxl.2
            have hzl:z.length=4:=by have:=congrArg List.length hz;simp at this;omega
            rw [hrr,← hz]
            show (z++l3).drop 4=l3
            rw [← hzl,List.drop_left]
          refine Zp (by simp;omega) (Zrk (r3.ext e4) (m:=6) rfl (by rw [hrr];simp;omega) fun h5 r5 u5 z5=>⟨by decide,?_⟩)
          rw [hdrop] at r5
          have hq2:Zho (117::l1) = .ok (Zbb (Zei m m2)) l3:=by rw [hq,if_pos hhi,hlb]
          have hp9:Zei m m2<1114112:=by unfold Zei;omega
          have hv:IntKind.wrap .i64 ((IntKind.wrap .i64 ((IntKind.wrap .i64 ((65536:Int)+(Zlx .i64 (IntKind.wrap .i64 ((m:Int) - 55296)) 10)))+(m2:Int))) - 56320)=((Zei m m2:Nat):Int):=by
            have hsh:Zlx .i64 ((m - 55296:Nat):Int) 10=(((m - 55296)*1024:Nat):Int):=by
              unfold Zlx
              rw [show min (10:Int).toNat IntKind.i64.bits=10 from rfl,show (2:Int) ^ 10=1024 from rfl,ZZ (by omega) (by omega)]
              omega
            rw [ZZ (n:=(m:Int) - 55296) (by omega) (by omega),show (m:Int) - 55296=((m - 55296:Nat):Int) by omega,hsh,ZZ (n:=65536+_) (by omega) (by omega),ZZ (n:=_+(m2:Int)) (by omega) (by omega),ZZ (by omega) (by omega)]
            unfold Zei
            omega
          rw [hv]
          generalize Zei m m2=pn at hq2 hp9 ⊢
          exact done (k:=pn) hp9 (by rw [hq2];exact r5) (fun t r' hh=>by rw [hq2] at hh;injection hh with e1 _;exact e1.symm) ((u13.trans (e4.upd _)).trans u5)
      ·have hn:=herr e r q
       subst hn
       have hq9:Zho (117::l1) = .err e r:=by rw [hq,q];rfl
       refine Zo (fun _ h'=>h'=h3) ?_ (Zq (by decide) rfl)
       rintro ⟨⟩ h4 rfl
       refine Zo (fun _ h'=>h'=h4) ?_ (Zq (by decide) rfl)
       rintro ⟨⟩ h5 rfl
       exact done (k:=0) (by omega) (by rw [hq9];exact ⟨he,r3⟩) (fun t r' hh=>by rw [hq9] at hh;cases hh) u13
     ·refine Y0 (α:=BL) hr (e:=22) (by decide) rfl fun h2 o2 u2 z2=>?_
      have hm:Zav c=none:=by
        unfold Zav
        rw [if_neg n34,if_neg n92,if_neg n47,if_neg n98,if_neg n102,if_neg n110,if_neg n114,if_neg n116]
      have hq:Zho (c::l1) = .err 22 (c::l1):=by rw [ZcW,hm];simp only;rw [if_neg n117]
      exact hk _ h2 (by rw [hq];exact o2) (fun t r hh=>by rw [hq] at hh;cases hh) (by decide) u2
  ·refine cEq 34 rfl (fun e=>⟨rfl,by simp [e]⟩) fun n34=>cEq 92 rfl (fun e=>⟨rfl,by simp [e]⟩) fun n92=>Zf ⟨rfl,?_⟩
   simp only [n34,n92,false_or]
   constructor
   ·intro hb;exact Zbt (d:=47) (beq_iff_eq.1 hb)
   ·rintro rfl;rfl
def Zpl (c:UInt8) (l:BL):Out Unit:=if c.toNat<32 then .err 22 (c::l) else XE (c::l)
theorem Zm4 {c:UInt8} (hr:Rf h R s 0 (c::l)) {K:HP} (hk:∀ h',ZbH h' R s (Zpl c l)→Upd (· = R) h h'→sz h'=sz h→K h'):Z1 (At R) K h:=by
  unfold Z1 YO
  refine Zcz hr (Zpv (c:=c) rfl (Za (Za (Za ?_))))
  by_cases h0:nRb c=0
  ·refine Zp (by rw [h0];rfl) (Y0 (α:=Unit) hr (e:=22) (by decide) rfl fun h1 o1 u1 z1=>hk h1 ?_ u1 z1)
   unfold Zpl
   split
   ·exact o1
   ·rw [Za4,if_pos h0];exact o1
  ·refine Zq (beq_eq_false_iff_ne.2 (by omega)) (Zcz hr (Zk (p:=(c.toNat:Int)<32) (fun h32=>?_) fun h32=>?_))
   ·refine Y0 (α:=Unit) hr (e:=22) (by decide) rfl fun h1 o1 u1 z1=>hk h1 ?_ u1 z1
    unfold Zpl
    rw [if_pos (by omega)];exact o1
   ·have hq:Zpl c l=Zbv (nRb c - 1) (loR c) (hiR c) l:=by
      unfold Zpl
      rw [if_neg (by omega),Za4,if_neg h0]
    rw [hq] at hk
    have hn4:=Ztf c
    refine Za6 hr fun h1 r1 u1 z1=>Za ?_
    refine ZQ (fun p h'=>∃ (lo hi k:Nat) (l':BL),p.1=lo∧p.2.1=hi∧p.2.2.1=((nRb c - k:Nat):Int)∧k<nRb c∧Zbv k lo hi l'=Zbv (nRb c - 1) (loR c) (hiR c) l∧Rf h' R s 0 l'∧Upd (· = R) h h'∧sz h'=sz h) (fun p _=>(5 - p.2.2.1).toNat)
      ⟨loR c,hiR c,nRb c - 1,l,rfl,rfl,by rw [show nRb c - (nRb c - 1)=1 by omega];rfl,by omega,rfl,r1,u1,z1⟩ ?_
    rintro ⟨lo0,hi0,i0,u⟩ h2 ⟨lo,hi,k,l2,e1,e2,e3,hk4,q2,r2,u2,z2⟩
    dsimp only at e1 e2 e3 ⊢
    subst e1 e2 e3
    refine Zk (p:=((nRb c - k:Nat):Int)<(nRb c:Int)) (fun hlt=>?_) fun hge=>?_
    ·obtain ⟨k,rfl⟩:∃ k',k=k'+1:=⟨k - 1,by omega⟩
     refine Zew r2 (fun he=>?_) fun hne=>?_
     ·subst he
      refine Y0 (α:=Unit) r2 (e:=22) (by decide) rfl fun h3 o3 u3 z3=>hk h3 (by rw [← q2];exact o3) (u2.trans u3) (z3.trans z2)
     ·obtain ⟨d,l3,rfl⟩:=List.exists_cons_of_ne_nil hne
      have bad:¬ (lo≤d.toNat∧d.toNat≤hi)→Zh (At R) 22 (fun h28=>K h28) h2:=fun hb =>
        Y0 (α:=Unit) r2 (e:=22) (by decide) rfl fun h3 o3 u3 z3=>hk h3 (by
         rw [← q2]
         show ZbH h3 R s (if lo≤d.toNat∧d.toNat≤hi then _ else _)
         rw [if_neg hb];exact o3) (u2.trans u3) (z3.trans z2)
      refine Zi4 r2 ?_
      show Zw (decide ((d.toNat:Int)<(lo:Int))) _ _
      refine Zk (fun hlo=>bad (by omega)) fun hlo=>Zi4 r2 ?_
      show Zw (decide ((d.toNat:Int)>(hi:Int))) _ _
      refine Zk (fun hhi=>bad (by omega)) fun hhi=>Za6 r2 fun h3 r3 u3 z3=>Za (Za (Za ?_))
      rw [ZZ (by omega) (by omega)]
      refine ⟨⟨128,191,k,l3,rfl,rfl,by omega,by omega,?_,r3,u2.trans u3,z3.trans z2⟩,by omega⟩
      rw [← q2]
      show _=(if lo≤d.toNat∧d.toNat≤hi then _ else _)
      rw [if_pos (by omega)]
    ·obtain rfl:k=0:=by omega
     exact hk h2 (by rw [← q2];exact r2) u2 z2
end
def Zi8 (h:Zc) (R:Nat):Nat:=match obj h R with
  | some (.cells c _ _)=>(match c.toList with
    | [.string s,.int _ n,.int _ e]=>2*(s.size - n.toNat)+(if e=0 then 1 else 0)
    | _=>0)
  | _=>0
theorem Rf.left {h:Zc} {R e:Nat} {s:ByteArray} {l:BL} (hr:Rf h R s e l):Zi8 h R=2*l.length+(if e=0 then 1 else 0):=by
  obtain ⟨_,n,b,g⟩:=hr
  unfold Zi8
  rw [b]
  have:=g.len
  simp
  omega
theorem Zjk {l o r:BL} (h:Zho l = .ok o r):o.length+r.length≤l.length∧r <:+l:=by
  rcases l with _ | ⟨c,l⟩
  ·cases h
  ·rw [ZcW] at h
   cases hm:Zav c with
   | some m=>rw [hm] at h;cases h;exact ⟨by simp;omega,List.suffix_cons _ _⟩
   | none =>
     rw [hm] at h
     simp only at h
     split at h
     ·obtain ⟨n,l1,h1,h2⟩:=ZJ h
      obtain ⟨a1,b1⟩:=Zac 4 h1
      cases hb:(if ZfW n=true then ZgN l1 else none) with
      | none =>
        simp only [hb] at h2
        injection h2 with e1 e2
        subst e1 e2
        have:=Zdw (Zdb n)
        exact ⟨by simp;omega,Xa b1⟩
      | some p =>
        obtain ⟨m,l3⟩:=p
        simp only [hb] at h2
        injection h2 with e1 e2
        subst e1 e2
        have hb':ZgN l1=some (m,l3):=by
          split at hb
          ·exact hb
          ·cases hb
        have hll:=ZpY hb'
        have hsuf:l3 <:+l1:=by
          unfold ZgN at hb'
          cases hx:Xx l1 with
          | none=>rw [hx] at hb';cases hb'
          | some l2 =>
            rw [hx] at hb'
            simp only at hb'
            cases hy:Zbk 4 0 l2 with
            | err e q=>rw [hy] at hb';cases hb'
            | ok k l4 =>
              rw [hy] at hb'
              simp only at hb'
              split at hb'
              ·cases hb'
               rw [XD hx]
               exact Xa (Xa (Zac 4 hy).2)
              ·cases hb'
        have:=Zdw (Zei n m)
        exact ⟨by simp;omega,Xa (hsuf.trans b1)⟩
     ·cases h
theorem ZrU (out:BL) (c:UInt8) (l:BL):T none out (c::l) =
    if c=34 then .ok out l
    else if c=92 then (Zho l).bind fun o l2=>T none (out++o) l2
    else (Zcm (fun _=>Zpl c l) (c::l)).bind fun x l2=>T none (out++x) l2:=by
  have h0:T none out (c::l)=ZjG ((c::l).length+1) out (c::l):=(ZkA _ _ (Nat.lt_succ_self _) out).symm
  rw [h0,ZhU]
  have go:∀ {o:BL} {l2:BL},l2.length<(c::l).length→ZjG (c::l).length (out++o) l2=T none (out++o) l2:=fun hl=>by
    rw [ZkA _ _ hl];exact Zmc hl
  split
  ·rfl
  split
  ·cases h:Zho l with
   | err e r=>rfl
   | ok o r=>exact go (by have:=(Zjk h).2.length_le;simp;omega)
  unfold Zcm Zpl
  split
  ·rfl
  ·cases h:XE (c::l) with
   | err e r=>rfl
   | ok o r=>exact go (by have:=(ZaI h).1;simpa using this)
section
variable {h:Zc} {R:Nat} {s:ByteArray} {l:BL}
theorem ZhW (hr:Rf h R s 0 l) (hR:9≤R) {K:ByteArray→HP} (hk:∀ (o:BL) h',ZbH h' R s (ZnL l)→(∀ t r,ZnL l = .ok t r→o=t)→Upd (· = R) h h'→K (Zg o) h'):ZR (At R) K h:=by
  unfold ZR Xq
  have hll:=hr.len
  refine Ze2 hr (c:=34) rfl (by decide) fun h1 o1 u1 z1=>?_
  refine ZQ (fun p h'=>∃ out:BL,p.1=Zg out∧Upd (· = R) h h'∧((∃ l',Rf h' R s 0 l'∧ZnL l=T none out l'∧out.length+l'.length≤65536)∨(out.length≤70000∧∃ e r,e≠0∧Rf h' R s e r∧ZnL l = .err e r))) (fun _ h'=>Zi8 h' R) ?_ ?_
  ·refine ⟨[],rfl,u1,?_⟩
   rcases l with _ | ⟨c,l⟩
   ·exact .inr ⟨by decide,24,[],by decide,o1.2,rfl⟩
   ·have hw:Xi [34] (c::l)=if c=34 then .ok () l else .err 20 (c::l):=rfl
    have hq:ZnL (c::l)=if c=34 then ZfJ l else .err 20 (c::l):=rfl
    rw [hw] at o1
    by_cases hc:c=34
    ·rw [if_pos hc] at o1 hq
     exact .inl ⟨l,o1,by rw [hq,Zdy],by simp at hll ⊢;omega⟩
    ·rw [if_neg hc] at o1 hq
     exact .inr ⟨by decide,20,c::l,by decide,o1.2,hq⟩
  ·rintro ⟨o,u⟩ h2 ⟨out,ho,u2,hc⟩
   dsimp only at ho ⊢
   subst ho
   rcases hc with ⟨l2,r2,q2,n2⟩ | ⟨hs,e,r,he,r2,q2⟩
   ·refine ZhA r2 (Zng (Zew r2 (fun he=>?_) fun hne=>?_))
    ·subst he
     refine Y0 (α:=BL) r2 (e:=24) (by decide) rfl fun h3 o3 u3 z3=>hk [] h3 ?_ (fun t r ht=>by rw [q2] at ht;cases ht) (u2.trans u3)
     rw [q2];exact o3
    ·obtain ⟨c,l3,rfl⟩:=List.exists_cons_of_ne_nil hne
     have hq:=ZrU out c l3
     have hlen:=r2.len
     simp only [List.length_cons] at n2
     refine Zcz r2 (Za ?_)
     have hz:Xj (c::l3)=(c.toNat:Int):=rfl
     rw [hz]
     refine YQ (fun h34=>?_) fun h34=>YQ (fun h92=>?_) fun h92=>?_
     ·rw [if_pos (Zbt (d:=34) h34)] at hq
      refine Za6 r2 fun h3 r3 u3 z3=>hk out h3 (by rw [q2,hq];exact r3) (fun t r ht=>by rw [q2,hq] at ht;cases ht;rfl) (u2.trans u3)
     all_goals rw [if_neg (Zcs (d:=34) h34)] at hq
     ·rw [if_pos (Zbt (d:=92) h92)] at hq
      refine Za6 r2 fun h3 r3 u3 z3=>Zkc r3 hR fun o h4 o4 ht4 hs4 u4=>?_
      obtain ⟨ol,rfl⟩:∃ ol,o=Zg ol:=⟨o.data.toList,by simp⟩
      rw [YM] at hs4
      refine ZcD (by omega) ⟨⟨out++ol,rfl,(u2.trans u3).trans u4,?_⟩,?_⟩
      ·rcases ZbP o4 with ⟨a,r,q,r4⟩ | ⟨e,r,q,he,r4⟩
       ·have e1:=ht4 a r q
        have e2:ol=a:=by
          have:=congrArg (fun b:ByteArray=>b.data.toList) e1
          simpa [Zg] using this
        subst e2
        have:=Zjk q
        exact .inl ⟨r,r4,by rw [q2,hq,q];rfl,by simp;omega⟩
       ·exact .inr ⟨by simp;omega,e,r,he,r4,by rw [q2,hq,q];rfl⟩
      ·rw [r2.left]
       rcases ZbP o4 with ⟨a,r,q,r4⟩ | ⟨e,r,q,he,r4⟩
       ·have:=(Zjk q).2.length_le
        rw [r4.left];simp;omega
       ·have h5:=r4.left
        have hsuf:r.length≤l3.length:=by
          have hg:Zcm Zho l3=Zcm Zho l3:=rfl
          rcases l3 with _ | ⟨d,l3⟩
          ·cases q;simp
          ·rw [ZcW] at q
           cases hm:Zav d with
           | some m=>rw [hm] at q;cases q
           | none =>
             rw [hm] at q
             simp only at q
             split at q
             ·cases hx:Zbk 4 0 l3 with
              | err e' q' =>
                rw [hx] at q;cases q
                have:=((Zf6 4 0).1.sf.esuf hx).1.length_le
                simp;omega
              | ok k l5 =>
                rw [hx] at q
                simp only [Out.bind_ok] at q
                split at q<;>cases q
             ·cases q;exact Nat.le_refl _
        rw [h5,if_neg he,if_pos rfl];simp;omega
     ·rw [if_neg (Zcs (d:=92) h92)] at hq
      refine Zfp r2 fun n0 g0=>Za (Zm4 r2 fun h3 o3 u3 z3=>?_)
      have pass:∀ {e:Nat} {r:BL},Rf h3 R s e r→r <:+c::l3→(∀ x:BL,c::l3=x++r→(∃ out',Zg (out++x)=Zg out'∧Upd (· = R) h h3∧((∃ l',Rf h3 R s 0 l'∧ZnL l=T none out' l'∧out'.length+l'.length≤65536)∨(out'.length≤70000∧∃ e r,e≠0∧Rf h3 R s e r∧ZnL l = .err e r)))∧Zi8 h3 R<Zi8 h2 R) →
          Zb (At R) fun b32 o33=>ldS h3 b32 o33 fun t34=>Zb (At R) fun b35 o36=>ldI h3 b35 (o36+1) .i64 fun t37=>ZjJ t34 n0 t37 fun t38=>Zm5 (Zg out) t38 fun s39=>(∃ out',s39=Zg out'∧Upd (· = R) h h3∧((∃ l',Rf h3 R s 0 l'∧ZnL l=T none out' l'∧out'.length+l'.length≤65536)∨(out'.length≤70000∧∃ e r,e≠0∧Rf h3 R s e r∧ZnL l = .err e r)))∧Zi8 h3 R<Zi8 h2 R:=fun {e r} r3 hsuf hx=>by
        obtain ⟨x,hx9⟩:=hsuf
        have hxl:=congrArg List.length hx9
        simp only [List.length_append,List.length_cons] at hxl
        refine Zpi r3 (Zfp r3 fun n3 g3=>?_)
        have hle:n0≤n3:=by have:=g0.len;have:=g3.len;simp at *;omega
        refine ⟨by omega,by omega,by have:=g3.len;omega,?_⟩
        rw [Int.toNat_natCast,Int.toNat_natCast,g0.extract g3 hle,← hx9,Zaa]
        exact ZcD (by omega) (hx x hx9.symm)
      rcases ZbP o3 with ⟨_,r,q,r3⟩ | ⟨e,r,q,he,r3⟩
      ·have hc32:¬ c.toNat<32:=fun h9=>by unfold Zpl at q;rw [if_pos h9] at q;cases q
       have hrune:XE (c::l3) = .ok () r:=by unfold Zpl at q;rw [if_neg hc32] at q;exact q
       have hrl:=ZaI hrune
       refine pass r3 hrl.2 fun x hx=>⟨⟨out++x,rfl,u2.trans u3,.inl ⟨r,r3,?_,?_⟩⟩,?_⟩
       ·rw [q2,hq]
        unfold Zcm
        rw [q]
        simp only [Out.bind_ok]
        rw [hx,Zaa]
       ·have:=congrArg List.length hx
        simp only [List.length_append,List.length_cons] at this
        simp;omega
       ·rw [r2.left,r3.left]
        have:=hrl.1
        simp at this ⊢;omega
      ·have hsuf:r <:+c::l3:=by
         unfold Zpl at q
         split at q
         ·cases q;exact List.suffix_refl _
         ·exact (ZcG.1.sf.esuf q).1
       refine pass r3 hsuf fun x hx=>⟨⟨out++x,rfl,u2.trans u3,.inr ⟨?_,e,r,he,r3,?_⟩⟩,?_⟩
       ·have:=congrArg List.length hx
        simp only [List.length_append,List.length_cons] at this
        simp;omega
       ·rw [q2,hq]
        unfold Zcm
        rw [q];rfl
       ·have:=hsuf.length_le
        rw [r2.left,r3.left,if_neg he,if_pos rfl];simp at this ⊢;omega
   ·exact ZhA r2 (Zr6 he (hk [] h2 (by rw [q2];exact ⟨he,r2⟩) (fun t r ht=>by rw [q2] at ht;cases ht) u2))
theorem ZbH.ext {α:Type} {h':Zc} {x:Out α} (o:ZbH h R s x) (u:Ext h h'):ZbH h' R s x:=by
  cases x with
  | ok a r=>exact Rf.ext o u
  | err e r=>exact ⟨o.1,o.2.ext u⟩
theorem ZbH.upd {α:Type} {S:Nat→Prop} {h':Zc} {x:Out α} (o:ZbH h R s x) (u:Upd S h h') (hS:¬ S R):ZbH h' R s x:=by
  cases x with
  | ok a r=>exact Rf.upd o u hS
  | err e r=>exact ⟨o.1,o.2.upd u hS⟩
theorem Zjr {α:Type} {x:Out α} (o:ZbH h R s x) {K:HP} (hk:∀ h',ZbH h' R s (x.bind fun a r=> .ok a (ZF r))→Upd (· = R) h h'→sz h'=sz h→K h'):Zl (At R) K h:=by
  cases x with
  | ok a r=>exact ZcE o fun h' r' u z=>hk h' r' u z
  | err e r=>exact Zkq o.2 o.1 (hk h o (Upd.refl _ _) rfl)
theorem Zu3 {α:Type} {x:Out α} (o:ZbH h R s x) {c:UInt8} {n:Int} (hn:n=c.toNat) (hc:0<c.toNat) {K:HP} (hk:∀ h',ZbH h' R s (x.bind fun a r=>(Xi [c] r).bind fun _ r'=> .ok a r')→Upd (· = R) h h'→sz h'=sz h→K h'):Zs (At R) n K h:=by
  cases x with
  | ok a r =>
    refine Ze2 o hn hc fun h' o' u z=>hk h' ?_ u z
    simp only [Out.bind_ok]
    cases hw:Xi [c] r with
    | ok b r'=>rw [hw] at o';exact o'
    | err e r'=>rw [hw] at o';exact o'
  | err e r=>exact Zfw o.2 o.1 (hk h o (Upd.refl _ _) rfl)
theorem Zu4 {α:Type} {x:Out α} (o:ZbH h R s x) {c:UInt8} {n:Int} (hn:n=c.toNat) (hc:0<c.toNat) {K:Bool→HP}
    (ht:∀ a r r' h',x = .ok a r→ZF r=44::r'→Rf h' R s 0 r'→Upd (· = R) h h'→sz h'=sz h→K true h')
    (hf:∀ h',(∀ a r,x = .ok a r→∀ r',ZF r≠44::r')→ZbH h' R s (x.bind fun a r=>(Xi [c] (ZF r)).bind fun _ r'=> .ok a r')→Upd (· = R) h h'→sz h'=sz h→K false h'):ZP (At R) n K h:=by
  unfold ZP Xr
  refine Zjr o fun h1 o1 u1 z1=>?_
  cases x with
  | err e r =>
    have o1:ZbH h1 R s (.err e r:Out α):=o1
    refine Zo (fun _ h'=>h'=h1) ?_ (ZhA o1.2 (Zr6 o1.1 rfl))
    rintro ⟨⟩ h2 rfl
    exact Zfw o1.2 o1.1 (hf _ (fun a r h=>by cases h) o1 u1 z1)
  | ok a r =>
    have r1:Rf h1 R s 0 (ZF r):=o1
    refine Zo (fun _ h'=>h'=h1∧∀ r',ZF r≠44::r') ?_ ?_
    ·rintro ⟨⟩ h2 ⟨rfl,hne⟩
     refine Ze2 r1 hn hc fun h3 o3 u3 z3=>hf h3 (fun a' r' hx=>by cases hx;exact hne) ?_ (u1.trans u3) (z3.trans z1)
     simp only [Out.bind_ok]
     cases hw:Xi [c] (ZF r) with
     | ok b r'=>rw [hw] at o3;exact o3
     | err e r'=>rw [hw] at o3;exact o3
    ·refine ZhA r1 (Zng (Zi4 r1 ?_))
     refine Zbl 44 (fun l' e=>?_) fun hn4=>⟨rfl,fun r' e=>hn4 44 r' e rfl⟩
     rw [e] at r1
     exact Zaz r1 (fun _=>Za6 r1 fun h2 r2 u2 z2=>ht a r l' h2 rfl e r2 (u1.trans u2) (z2.trans z1)) fun h=>by cases h
end
theorem Zm8 {h:Zc} {b k:Nat} {ns:List BL} {sub:JL} {x y:Sl} {cx:List Value} (c:obj h b=some (.cells (XS ((k:Int),Zg [],x,y,())).toArray 33 (0,0)))
    (ox:Own h (b+1) x 4 cx) (oy:Own h (b+1) y 1 (ns.map sV)) (lr:Zax h (fun j=>b+1≤j∧j<sz h∧x.blk≠some j∧y.blk≠some j) sub cx) (ne:∀ j,x.blk=some j→y.blk≠some j)
    {z:VT5} {v:JV} {Se:Nat→Prop} (hv:Zbz h Se z v) (hSe:∀ j,Se j→b+1≤j∧j<sz h∧x.blk≠some j∧y.blk≠some j) (hs:sub.len≤100000) {K:HP}
    (hk:∀ h',PS h' b k ns (sub.snoc v)→Upd (fun j=>b≤j) h h'→K h') :
    Fw.app 33 4 72 zV x 1 (XS z) h fun t48 h49=>st h49 b (0+2) (.slice t48.ptr t48.len t48.cap) K:=by
  have hb:=Zbg c
  have hlx:x.len=sub.len:=by have:=ox.len;have:=lr.len;omega
  refine ox.app rfl (Zcf z) rfl (by omega) (by omega) (by have:sz h=h.size:=rfl;omega) fun x' h1 o1 l1 u1 bl1=>?_
  have hsz:sz h≤sz h1:=u1.size
  have c1:obj h1 b=some (.cells (XS ((k:Int),Zg [],x,y,())).toArray 33 (0,0)):=Yt c u1 fun e1=>by have:=(ox.lt e1).1;omega
  refine Zjw c1 (by simp [XS]) ZgH fun h9 c9 u9 z9=>?_
  have hold:∀ j,j<sz h→j≠b→x.blk≠some j→obj h9 j=obj h j:=fun j hj hjb hjx=>(ZX u9 (by omega) hjb).trans (ZX u1 hj hjx)
  have hnew:∀ j,x'.blk=some j→x.blk=some j∨sz h≤j:=fun j hj=>by
    rcases bl1 with e1 | e1
    ·left;rw [← e1,hj]
    ·right;rw [hj] at e1;cases e1;exact Nat.le_refl _
  refine hk h9 ⟨x',y,cx++XS z,c9,?_,?_,?_,?_⟩ ⟨by have:sz h9=h9.size:=rfl;have:sz h=h.size:=rfl;omega,fun j hj hbj=>hold j hj (by omega) fun e1=>by have:=(ox.lt e1).1;omega⟩
  ·exact o1.congr fun j _ hl hbj=>ZX u9 hl (by omega)
  ·exact oy.congr fun j hj hl hbj=>hold j hl (by omega) fun e1=>ne j e1 hj
  ·have h1:Zax h9 (fun j=>b+1≤j∧j<sz h9∧x'.blk≠some j∧y.blk≠some j) sub cx:=lr.keep (fun j hj hl=>hold j hl (by omega) hj.2.2.1) fun j hj=>⟨hj.1,by omega,fun e1=>by
     rcases hnew j e1 with e2 | e2
     ·exact hj.2.2.1 e2
     ·omega,hj.2.2.2⟩
   refine h1.snoc (hv.keep (fun j hj hl=>?_) fun j hj=>?_)
   ·have:=hSe j hj
    exact hold j hl (by omega) this.2.2.1
   ·have:=hSe j hj
    refine ⟨this.1,by omega,fun e1=>?_,this.2.2.2⟩
    rcases hnew j e1 with e2 | e2
    ·exact this.2.2.1 e2
    ·omega
  ·intro j hj e1
   rcases hnew j hj with e2 | e2
   ·exact ne j e2 e1
   ·have:=(oy.lt e1).2
    have:sz h=h.size:=rfl
    omega
def Zr9 (f:ZfY) (pv:BL→Out JV) (deep:Int):Prop:=∀ (h:Zc) (R:Nat) (s:ByteArray) (x:Out Unit) (K:VT5→HP),ZbH h R s x→R<sz h→9≤R →
  (∀ v z h',ZbH h' R s (x.bind fun _ r=>pv r)→(∀ w r,(x.bind fun _ r=>pv r) = .ok w r→v=w)→Zbz h' (fun j=>sz h≤j∧j<sz h') z v→Upd (· = R) h h'→K z h')→f (At R) deep K h
theorem Zrm (n:Nat) (l:BL):Zz n (ZF l)=Zz n l:=by
  have hs:ZF (ZF l)=ZF l:=by
    cases hk:ZF l with
    | nil=>rfl
    | cons c r=>obtain ⟨y,_,_,hc⟩:=Zlw hk;exact XO hc
  rw [ZeM]
  unfold Zcx
  rw [hs]
theorem Zog (l:BL):Zat l=((ZnL (ZF l)).bind fun t r=> .ok t (ZF r)).bind fun t r=>(Xi [58] r).bind fun _ r'=> .ok t r':=by
  unfold Zat
  cases hk:ZF l with
  | nil=>rfl
  | cons c l1 =>
    show (if c=34 then _ else _)=((if c=34 then ZfJ l1 else .err 20 (c::l1)).bind _).bind _
    by_cases hc:c=34
    ·rw [if_pos hc,if_pos hc]
     cases hx:ZfJ l1 with
     | err e r=>rfl
     | ok t r =>
       simp only [Out.bind_ok]
       cases hk2:ZF r with
       | nil=>rfl
       | cons d l3 =>
         show (if d=58 then _ else _)=(if d=58 then Out.ok () l3 else .err 20 (d::l3)).bind _
         split<;>rfl
    ·rw [if_neg hc,if_neg hc];rfl
theorem Zaw {α β γ:Type} (x:Out α) (f:α→BL→Out β) (g:β→BL→Out γ):(x.bind f).bind g=x.bind fun a r=>(f a r).bind g:=by cases x<;>rfl
theorem Zs8 {ob:Bool} {r:BL} {c:UInt8} (hc:c=Zby ob):Xi [c] r=match r with
    | []=> .err 24 []
    | d::l=>if d=Zby ob then .ok () l else .err 20 (d::l):=by
  subst hc
  cases r<;>rfl
theorem ZtI {pv:BL→Out JV} (hg:Js.Good false pv) (hst:St 1 pv) (h0:pv [] = .err 24 []) (ob:Bool) (ns:List BL) (sub:JL) (hn:sub.isNil=false) (r:BL) (h44:∀ r',r≠44::r'):L pv ob ns sub r=(Xi [Zby ob] r).bind fun _ r'=> .ok (ns,sub) r':=by
  rw [Znh hg hst h0,Zs8 rfl]
  rcases r with _ | ⟨d,l⟩
  ·rfl
  ·show lF pv ob ns sub d (d::l)=_
   unfold lF
   by_cases hd:d=Zby ob
   ·rw [if_pos hd];simp only [if_pos hd];rfl
   ·rw [if_neg hd,if_neg (by simp [hn]),if_neg fun e=>h44 l (by rw [e])]
    simp only [if_neg hd];rfl
theorem Zpc {pv:BL→Out JV} (hg:Js.Good false pv) (hst:St 1 pv) (h0:pv [] = .err 24 []) (ob:Bool) (ns:List BL) (sub:JL) (hn:sub.isNil=false) (r:BL):L pv ob ns sub (44::r)=(XU pv ob ns sub r).bind fun p=>L pv ob p.1 p.2:=by
  rw [Znh hg hst h0]
  show lF pv ob ns sub 44 (44::r)=_
  unfold lF
  rw [if_neg (by cases ob<;>decide),if_neg (by simp [hn]),if_pos rfl];rfl
theorem Zpb {pv:BL→Out JV} (hg:Js.Good false pv) (hst:St 1 pv) (h0:pv [] = .err 24 []) (ob:Bool) (r:BL) (he:Zbx (Zby ob) r=false):L pv ob [] .nil r=(XU pv ob [] .nil r).bind fun p=>L pv ob p.1 p.2:=by
  rw [Znh hg hst h0]
  rcases r with _ | ⟨c,l⟩
  ·show Out.err 24 []=_
   rw [Zf4 h0];rfl
  ·show lF pv ob [] .nil c (c::l)=_
   unfold lF
   rw [if_neg (by simpa [Zbx] using he),if_pos (show JL.nil.isNil=true from rfl)]
theorem PS.out {h:Zc} {b b2 k:Nat} {ns:List BL} {sub:JL} {base R:Nat} (p:PS h b2 k ns sub) (hb:b<b2) (c1:obj h b=some (.cells zV.toArray 33 (0,0))) (hbase:base≤b) {K:VT5→HP}
    (hk:∀ z h',Zbz h' (fun j=>base≤j∧j<sz h') z ⟨k,[],ns,sub⟩→Upd (· = b) h h'→K z h') :
    ldI h b2 0 .u8 fun t48=>ldS h b2 (0+1) fun t49=>ldL h b2 (0+2) fun t50=>ldL h b2 (0+3) fun t51 =>
      sts h b 0 [.int .u8 t48,.string t49,.slice t50.ptr t50.len t50.cap,.slice t51.ptr t51.len t51.cap] fun h52 =>
        ldI h52 b 0 .u8 fun t53=>ldS h52 b (0+1) fun t54=>ldL h52 b (0+2) fun t55=>ldL h52 b (0+3) fun t56=>K (t53,t54,t55,t56,()) h52:=by
  obtain ⟨x,y,cx,c,ox,oy,lr,ne⟩:=id p
  refine rI (Zn c rfl) (rS (Zn c rfl) (rL (s:=x) (Zn c rfl) (rL (s:=y) (Zn c rfl) ?_)))
  refine Zet (x:=x) (y:=y) c1 rfl fun h9 u9 z9=>hk _ h9 ?_ u9
  have keep9:∀ j,b2≤j→j<sz h→obj h9 j=obj h j:=fun j hj hl=>ZX u9 hl (by omega)
  refine ⟨rfl,rfl,?_,?_,cx,?_,?_,?_⟩
  ·exact (oy.congr fun j _ hl hbj=>keep9 j (by omega) hl).row
  ·intro _ j hj;have:=oy.lt hj;have h9s:sz h=h.size:=rfl;exact ⟨by omega,by omega⟩
  ·exact (ox.congr fun j _ hl hbj=>keep9 j (by omega) hl).row
  ·intro _ j hj;have:=ox.lt hj;have h9s:sz h=h.size:=rfl;exact ⟨by omega,by omega⟩
  ·exact lr.keep (fun j hj hl=>keep9 j (by omega) hl) fun j hj=>⟨by omega,by omega⟩
theorem ZlD {f42:ZfY} {n:Nat} {deep:Int} (hf:Zr9 f42 (Zz n) deep) {ob:Bool} {h:Zc} {R b2 k:Nat} {s:ByteArray} {ns:List BL} {sub:JL} {x:Out Unit} (o:ZbH h R s x) (hR:9≤R) (hRb:R<b2) (p:PS h b2 k ns sub) (hs:sub.len≤100000) {e:Int} (he:e=(Zby ob).toNat) {E:HP} {J:HP}
    (hE:∀ v h',PS h' b2 k ns (sub.snoc v)→(∀ w r,(x.bind fun _ r=>Zz n r) = .ok w r→v=w∧∀ r',ZF r≠44::r')→ZbH h' R s ((x.bind fun _ r=>Zz n r).bind fun _ r=>(Xi [Zby ob] (ZF r)).bind fun _ r'=> .ok () r')→Upd (fun j=>j=R∨b2≤j) h h'→E h')
    (hJ:∀ v r r' h',(x.bind fun _ r=>Zz n r) = .ok v r→ZF r=44::r'→PS h' b2 k ns (sub.snoc v)→Rf h' R s 0 r'→Upd (fun j=>j=R∨b2≤j) h h'→J h') :
    ldL h b2 (0+2) fun t38=>f42 (At R) deep (fun t39 h40 =>
      ZaS (Za9 h40 [(b2,0+2,.slice t38.ptr t38.len t38.cap)]) <|
      newC h40 (XS t39) 33 fun b41 h42 =>
      ZaS (Za9 h42 [(b2,0+2,.slice t38.ptr t38.len t38.cap)]) <|
      rdS ⟨some ⟨b41,0,none⟩,1,1⟩ 4 h42 fun new=>Fw.app 33 4 72 zV t38 1 new h42 fun t43 h44 =>
      st h44 b2 (0+2) (.slice t43.ptr t43.len t43.cap) fun h45 =>
      ZP (At R) e (fun t46 h47=>Zw (!t46) (E h47) (J h47)) h45) h:=by
  obtain ⟨sx,sy,cx,c,ox,oy,lr,ne⟩:=id p
  have hb2:=p.lt
  have bR:¬ b2=R:=by omega
  refine rL (s:=sx) (Zn c rfl) (hf h R s x _ o (by omega) hR fun v z h4 o4 hv4 v4 u4=>?_)
  have c4:=Yt c u4 bR
  refine YA (Zn c4 rfl) (ZbZ fun h5 c5 e5 z5=>YA (Zn (YY c4 e5) rfl) (ZjR c5 rfl ?_))
  have s4:=Za3 u4
  have s5:sz h4≤sz h5:=e5.size
  have old:∀ j,b2≤j→j<sz h→obj h5 j=obj h j:=fun j hj hl=>by rw [Ys e5 (by omega),ZX u4 hl (by omega)]
  have lx:∀ j,sx.blk=some j→j<sz h:=fun j e=>(ox.lt e).2
  have ly:∀ j,sy.blk=some j→j<sz h:=fun j e=>(oy.lt e).2
  refine Zm8 ((old b2 (Nat.le_refl _) hb2).trans c) (ox.congr fun j _ hl hbj=>old j (by omega) hl) (oy.congr fun j _ hl hbj=>old j (by omega) hl)
    (lr.keep (fun j hj hl=>old j (by omega) hl) fun j hj=>⟨hj.1,by omega,hj.2.2⟩) ne (Se:=fun j=>sz h≤j∧j<sz h4) (v4.keep (fun j hj hl=>Ys e5 hl) fun j hj=>hj)
    (fun j hj=>⟨by omega,by omega,fun e=>by have:=lx j e;omega,fun e=>by have:=ly j e;omega⟩) hs fun h6 p6 u6=>?_
  have o6:=(o4.ext e5).upd u6 (by omega)
  have u06:Upd (fun j=>j=R∨b2≤j) h h6:=((u4.mono fun j _ hj=> .inl hj).trans (e5.upd _)).trans (u6.mono fun j _ hj=> .inr hj)
  have hend:0<(Zby ob).toNat:=by cases ob<;>decide
  refine Zu4 o6 he hend (fun w r r' h7 hx hr r7 u7 z7=>Zq rfl ?_) fun h7 hn o7 u7 z7=>Zp rfl ?_
  ·have hvw:=hv4 w r hx
   subst hvw
   exact hJ v r r' h7 hx hr (p6.upd u7 fun j hj=>by subst hj;exact hRb) r7 (u06.trans (u7.mono fun j _ hj=> .inl hj))
  ·refine hE v h7 (p6.upd u7 fun j hj=>by subst hj;exact hRb) (fun w r hx=>⟨hv4 w r hx,hn w r hx⟩) ?_ (u06.trans (u7.mono fun j _ hj=> .inl hj))
   cases hx:(x.bind fun _ r=>Zz n r) with
   | err e r=>rw [hx] at o7;exact o7
   | ok w r =>
     rw [hx] at o7
     simp only [Out.bind_ok] at o7 ⊢
     cases hw:Xi [Zby ob] (ZF r) with
     | ok a r'=>rw [hw] at o7;exact o7
     | err e r'=>rw [hw] at o7;exact o7
def Zdq (n:Nat) (ob:Bool) (l:BL):Out JV:=(L (Zz n) ob [] .nil (ZF l)).bind fun p r=> .ok ⟨if ob then 7 else 6,[],p.1,p.2⟩ r
theorem ZiO (v:JV) (sub:JL):(sub.snoc v).isNil=false:=ZhX v sub
theorem Zs7 {n:Nat} {ns:List BL} {sub:JL} (l:BL):XU (Zz n) false ns sub l=(Zz n l).bind fun v r=> .ok (ns,sub.snoc v) (ZF r):=by
  show (Zz n (ZF l)).bind _=_
  rw [Zrm]
theorem Zm7 {f42:ZfY} {n:Nat} {deep:Int} (hf:Zr9 f42 (Zz n) deep) {h:Zc} {R:Nat} {s:ByteArray} {l:BL} (hr:Rf h R s 0 l) (hR:9≤R) {K:VT5→HP}
    (hk:∀ v z h',ZbH h' R s (Zdq n false l)→(∀ w r,Zdq n false l = .ok w r→v=w)→Zbz h' (fun j=>sz h≤j∧j<sz h') z v→Upd (· = R) h h'→K z h'):Ye f42 (At R) deep K h:=by
  unfold Ye Xh
  obtain ⟨hg,hst⟩:=YS n
  have h0:=Zds n
  have hll:=hr.len
  have hRs:=hr.lt
  have hszr:sz h=h.size:=rfl
  refine ZbZ fun h1 c1 e1 z1=>ZbZ fun h3 c3 e3 z3=>?_
  have hb:h1.size=h.size+1:=z1
  have hRb:R<h1.size:=by omega
  rw [Zgr (by rw [show obj h3 h1.size=_ from c3,Za1];rfl) (by simp [Z5])]
  have hps:PS (h3.puts h1.size 0 [.int .u8 6,.string (ByteArray.mk #[]),.slice none 0 0,.slice none 0 0]) h1.size 6 [] .nil:=by
    refine ⟨⟨none,0,0⟩,⟨none,0,0⟩,[],?_,Own.nil _ _ _,Own.nil _ _ _,rfl,fun j hj=>by cases hj⟩
    rw [Zas,if_pos rfl,show obj h3 h1.size=_ from c3,Xd];rfl
  have u4:=Upd.puts h3 h1.size 0 [.int .u8 6,.string (ByteArray.mk #[]),.slice none 0 0,.slice none 0 0]
  generalize h3.puts h1.size 0 [.int .u8 6,.string (ByteArray.mk #[]),.slice none 0 0,.slice none 0 0]=h4 at hps u4 ⊢
  have r4:Rf h4 R s 0 l:=((hr.ext e1).ext e3).upd u4 (by omega)
  have u14:Upd (UB R h1.size) h1 h4:=(e3.upd _).trans (u4.mono fun j _ hj=>by subst hj;exact .inr (Nat.le_refl _))
  have low:∀ {a:Zc},Upd (UB R h1.size) h1 a→Upd (· = R) h a:=fun {a} u=>UN e1 (UT (Upd.refl _ h1) u fun j hj=>by
    rcases hj with rfl | hj
    ·exact .inl rfl
    ·right;exact hj)
  have c1':∀ {a:Zc},Upd (UB R h1.size) h1 a→obj a h.size=some (.cells zV.toArray 33 (0,0)):=fun {a} u=>Yt c1 u (by omega)
  refine ZcE r4 fun h5 r5 u5 z5=>?_
  have u15:=u14.trans (u5.mono fun j _ hj=> .inl hj)
  have p5:=hps.upd u5 fun j hj=>by subst hj;exact hRb
  have out:∀ {a:Zc} {ns:List BL} {sub:JL},PS a h1.size 6 ns sub→Upd (UB R h1.size) h1 a→ZbH a R s (Zdq n false l)→(∀ w r,Zdq n false l = .ok w r→(⟨6,[],ns,sub⟩:JV)=w) →
      ldI a h1.size 0 .u8 fun t48=>ldS a h1.size (0+1) fun t49=>ldL a h1.size (0+2) fun t50=>ldL a h1.size (0+3) fun t51 =>
      sts a h.size 0 [.int .u8 t48,.string t49,.slice t50.ptr t50.len t50.cap,.slice t51.ptr t51.len t51.cap] fun h52 =>
        ldI h52 h.size 0 .u8 fun t53=>ldS h52 h.size (0+1) fun t54=>ldL h52 h.size (0+2) fun t55=>ldL h52 h.size (0+3) fun t56=>K (t53,t54,t55,t56,()) h52:=fun {a ns sub} p u o hv =>
    p.out (base:=sz h) (R:=R) (by omega) (c1' u) (by omega) fun z h' hz u'=>hk _ z h' (o.upd u' (by omega)) hv hz (UT (low u) u' fun j hj=>by right;omega)
  refine Zo (fun _ h'=>h'=h5∧Zbx 93 (ZF l)=false) ?_ ?_
  ·rintro ⟨⟩ h6 ⟨rfl,hne⟩
   have hL:L (Zz n) false [] .nil (ZF l)=(Zz n (ZF l)).bind fun v r=>L (Zz n) false [] (JL.nil.snoc v) (ZF r):=by
     rw [Zpb hg hst h0 false _ hne,Zs7,Zaw];rfl
   have hsk:=ZaL l
   refine ZQ (fun _ h'=>∃ (l':BL) (sub:JL),Rf h' R s 0 l'∧PS h' h1.size 6 [] sub∧L (Zz n) false [] .nil (ZF l)=((Zz n l').bind fun v r=>L (Zz n) false [] (sub.snoc v) (ZF r))∧sub.len+l'.length≤65536∧Upd (UB R h1.size) h1 h') (fun _ h'=>Zi8 h' R)
     ⟨ZF l,.nil,r5,p5,hL,by simp [JL.len];omega,u15⟩ ?_
   rintro ⟨⟩ h7 ⟨l7,sub,r7,p7,q7,n7,u7⟩
   refine ZhA r7 (Zng ?_)
   refine ZlD hf (ob:=false) (x:= .ok () l7) r7 hR hRb p7 (by omega) rfl (fun v h8 p8 hv8 o8 u8=>?_) fun v r r' h8 hx hr p8 r8 u8=>?_
   ·have u18:=u7.trans (u8.mono fun j _ hj=>hj)
    have hfin:Zdq n false l=((Zz n l7).bind fun v r=>(Xi [Zby false] (ZF r)).bind fun _ r'=> .ok (⟨6,[],[],sub.snoc v⟩:JV) r'):=by
      unfold Zdq
      rw [q7,Zaw]
      cases hx:Zz n l7 with
      | err e r=>rfl
      | ok w r =>
        simp only [Out.bind_ok]
        have h44:=(hv8 w r hx).2
        rw [ZtI hg hst h0 false [] (sub.snoc w) (ZiO w sub) (ZF r) h44]
        cases Xi [Zby false] (ZF r)<;>rfl
    refine out p8 u18 ?_ fun w r hw=>?_
    ·rw [hfin]
     have o8:ZbH h8 R s ((Zz n l7).bind fun _ r=>(Xi [Zby false] (ZF r)).bind fun _ r'=> .ok () r'):=o8
     cases hx:Zz n l7 with
     | err e r=>rw [hx] at o8;exact o8
     | ok w r =>
       rw [hx] at o8
       simp only [Out.bind_ok] at o8 ⊢
       cases hw:Xi [Zby false] (ZF r) with
       | err e r=>rw [hw] at o8;exact o8
       | ok a r=>rw [hw] at o8;exact o8
    ·rw [hfin] at hw
     obtain ⟨w1,r1,a1,a2⟩:=ZJ hw
     obtain ⟨_,r2,a3,a4⟩:=ZJ a2
     cases a4
     rw [(hv8 w1 r1 a1).1]
   ·have hx:Zz n l7 = .ok v r:=hx
    have hvl:=hst.len hx
    have hsl:=ZaL r
    rw [hr] at hsl
    simp only [List.length_cons] at hsl
    refine ⟨⟨r',sub.snoc v,r8,p8,?_,by rw [JL.len_snoc];omega,u7.trans u8⟩,?_⟩
    ·rw [q7,hx]
     simp only [Out.bind_ok]
     rw [hr,Zpc hg hst h0 false [] _ (ZiO v sub),Zs7,Zaw];rfl
    ·rw [r7.left,r8.left];simp;omega
  ·refine ZhA r5 (Zng (Zaz r5 (fun hne=>?_) fun he=>⟨rfl,by rw [he];rfl⟩))
   refine Zi4 r5 (Zbl 93 (fun l' e=>?_) fun hn=>⟨rfl,?_⟩)
   ·rw [e] at r5
    have hopen:Zdq n false l = .ok ⟨6,[],[],.nil⟩ l':=by
      unfold Zdq
      rw [e,Znh hg hst h0]
      rfl
    refine Za6 r5 fun h6 r6 u6 z6=>?_
    exact out (p5.upd u6 fun j hj=>by subst hj;exact hRb) (u15.trans (u6.mono fun j _ hj=> .inl hj)) (by rw [hopen];exact r6) fun w r hw=>by rw [hopen] at hw;cases hw;rfl
   ·cases hk9:ZF l with
    | nil=>rfl
    | cons c l9 =>
      have:=hn c l9 hk9
      simpa [Zbx] using this
theorem Zo3 {h:Zc} {b k:Nat} {ns:List BL} {sub:JL} {x y:Sl} {cx:List Value} (c:obj h b=some (.cells (XS ((k:Int),Zg [],x,y,())).toArray 33 (0,0)))
    (ox:Own h (b+1) x 4 cx) (oy:Own h (b+1) y 1 (ns.map sV)) (lr:Zax h (fun j=>b+1≤j∧j<sz h∧x.blk≠some j∧y.blk≠some j) sub cx) (ne:∀ j,x.blk=some j→y.blk≠some j)
    {t:BL} (hs:ns.length≤100000) {K:HP} (hk:∀ h',PS h' b k (ns++[t]) sub→Upd (fun j=>b≤j) h h'→K h') :
    Fw.app 9 1 16 [.string (ByteArray.mk #[])] y 1 [sV t] h fun t18 h19=>st h19 b (0+3) (.slice t18.ptr t18.len t18.cap) K:=by
  have hb:=Zbg c
  have hly:y.len=ns.length:=by have:=oy.len;simp at this;omega
  refine oy.app rfl (by simp [Z5]) rfl (by omega) (by omega) (by have:sz h=h.size:=rfl;omega) fun y' h1 o1 l1 u1 bl1=>?_
  have hsz:sz h≤sz h1:=u1.size
  have c1:obj h1 b=some (.cells (XS ((k:Int),Zg [],x,y,())).toArray 33 (0,0)):=Yt c u1 fun e1=>by have:=(oy.lt e1).1;omega
  refine Zjw c1 (by simp [XS]) ZgH fun h9 c9 u9 z9=>?_
  have hold:∀ j,j<sz h→j≠b→y.blk≠some j→obj h9 j=obj h j:=fun j hj hjb hjy=>(ZX u9 (by omega) hjb).trans (ZX u1 hj hjy)
  have hnew:∀ j,y'.blk=some j→y.blk=some j∨sz h≤j:=fun j hj=>by
    rcases bl1 with e1 | e1
    ·left;rw [← e1,hj]
    ·right;rw [hj] at e1;cases e1;exact Nat.le_refl _
  refine hk h9 ⟨x,y',cx,c9,?_,?_,?_,?_⟩ ⟨by have:sz h9=h9.size:=rfl;have:sz h=h.size:=rfl;omega,fun j hj hbj=>hold j hj (by omega) fun e1=>by have:=(oy.lt e1).1;omega⟩
  ·exact ox.congr fun j hj hl hbj=>hold j hl (by omega) (ne j hj)
  ·have:(ns++[t]).map sV=ns.map sV++[sV t]:=by simp
   rw [this]
   exact o1.congr fun j _ hl hbj=>ZX u9 hl (by omega)
  ·refine lr.keep (fun j hj hl=>hold j hl (by omega) hj.2.2.2) fun j hj=>⟨hj.1,by omega,hj.2.2.1,fun e1=>?_⟩
   rcases hnew j e1 with e2 | e2
   ·exact hj.2.2.2 e2
   ·omega
  ·intro j hj e1
   rcases hnew j e1 with e2 | e2
   ·exact ne j hj e2
   ·have:=(ox.lt hj).2
    have:sz h=h.size:=rfl
    omega
theorem Zro {α:Type} {h:Zc} {R:Nat} {s:ByteArray} {x:Out α} (o:ZbH h R s x):ZbH h R s (x.bind fun _ r=> .ok () r):=by cases x<;>exact o
theorem ZkT {f42:ZfY} {n:Nat} {deep:Int} (hf:Zr9 f42 (Zz n) deep) {h:Zc} {R:Nat} {s:ByteArray} {l:BL} (hr:Rf h R s 0 l) (hR:9≤R) {K:VT5→HP}
    (hk:∀ v z h',ZbH h' R s (Zdq n true l)→(∀ w r,Zdq n true l = .ok w r→v=w)→Zbz h' (fun j=>sz h≤j∧j<sz h') z v→Upd (· = R) h h'→K z h'):Z7 f42 (At R) deep K h:=by
  unfold Z7 Y1
  obtain ⟨hg,hst⟩:=YS n
  have h0:=Zds n
  have hll:=hr.len
  have hRs:=hr.lt
  have hszr:sz h=h.size:=rfl
  refine ZbZ fun h1 c1 e1 z1=>ZbZ fun h3 c3 e3 z3=>?_
  have hb:h1.size=h.size+1:=z1
  have hRb:R<h1.size:=by omega
  rw [Zgr (by rw [show obj h3 h1.size=_ from c3,Za1];rfl) (by simp [Z5])]
  have hps:PS (h3.puts h1.size 0 [.int .u8 7,.string (ByteArray.mk #[]),.slice none 0 0,.slice none 0 0]) h1.size 7 [] .nil:=by
    refine ⟨⟨none,0,0⟩,⟨none,0,0⟩,[],?_,Own.nil _ _ _,Own.nil _ _ _,rfl,fun j hj=>by cases hj⟩
    rw [Zas,if_pos rfl,show obj h3 h1.size=_ from c3,Xd];rfl
  have u4:=Upd.puts h3 h1.size 0 [.int .u8 7,.string (ByteArray.mk #[]),.slice none 0 0,.slice none 0 0]
  generalize h3.puts h1.size 0 [.int .u8 7,.string (ByteArray.mk #[]),.slice none 0 0,.slice none 0 0]=h4 at hps u4 ⊢
  have r4:Rf h4 R s 0 l:=((hr.ext e1).ext e3).upd u4 (by omega)
  have u14:Upd (UB R h1.size) h1 h4:=(e3.upd _).trans (u4.mono fun j _ hj=>by subst hj;exact .inr (Nat.le_refl _))
  have low:∀ {a:Zc},Upd (UB R h1.size) h1 a→Upd (· = R) h a:=fun {a} u=>UN e1 (UT (Upd.refl _ h1) u fun j hj=>by
    rcases hj with rfl | hj
    ·exact .inl rfl
    ·right;exact hj)
  have c1':∀ {a:Zc},Upd (UB R h1.size) h1 a→obj a h.size=some (.cells zV.toArray 33 (0,0)):=fun {a} u=>Yt c1 u (by omega)
  refine ZcE r4 fun h5 r5 u5 z5=>?_
  have u15:=u14.trans (u5.mono fun j _ hj=> .inl hj)
  have p5:=hps.upd u5 fun j hj=>by subst hj;exact hRb
  have out:∀ {a:Zc} {ns:List BL} {sub:JL},PS a h1.size 7 ns sub→Upd (UB R h1.size) h1 a→ZbH a R s (Zdq n true l)→(∀ w r,Zdq n true l = .ok w r→(⟨7,[],ns,sub⟩:JV)=w) →
      ldI a h1.size 0 .u8 fun t48=>ldS a h1.size (0+1) fun t49=>ldL a h1.size (0+2) fun t50=>ldL a h1.size (0+3) fun t51 =>
      sts a h.size 0 [.int .u8 t48,.string t49,.slice t50.ptr t50.len t50.cap,.slice t51.ptr t51.len t51.cap] fun h52 =>
        ldI h52 h.size 0 .u8 fun t53=>ldS h52 h.size (0+1) fun t54=>ldL h52 h.size (0+2) fun t55=>ldL h52 h.size (0+3) fun t56=>K (t53,t54,t55,t56,()) h52:=fun {a ns sub} p u o hv =>
    p.out (base:=sz h) (R:=R) (by omega) (c1' u) (by omega) fun z h' hz u'=>hk _ z h' (o.upd u' (by omega)) hv hz (UT (low u) u' fun j hj=>by right;omega)
  refine Zo (fun _ h'=>h'=h5∧Zbx 125 (ZF l)=false) ?_ ?_
  ·rintro ⟨⟩ h6 ⟨rfl,hne⟩
   have partO:∀ (ns:List BL) (sub:JL) (l':BL),((XU (Zz n) true ns sub l').bind fun p=>L (Zz n) true p.1 p.2)=((Zat l').bind fun nm r=>(Zz n r).bind fun v r'=>L (Zz n) true (ns++[nm]) (sub.snoc v) (ZF r')):=fun ns sub l'=>by
     show (((Zat l').bind fun nm l3=>(Zz n l3).bind fun v l4=> .ok (ns++[nm],sub.snoc v) (ZF l4)).bind _)=_
     rw [Zaw]
     congr 1
     funext nm r
     rw [Zaw];rfl
   have hL:=Zpb hg hst h0 true _ hne
   rw [partO] at hL
   have hsk:=ZaL l
   refine ZQ (fun _ h'=>∃ (l':BL) (ns:List BL) (sub:JL),Rf h' R s 0 l'∧PS h' h1.size 7 ns sub∧L (Zz n) true [] .nil (ZF l)=((Zat l').bind fun nm r=>(Zz n r).bind fun v r'=>L (Zz n) true (ns++[nm]) (sub.snoc v) (ZF r'))∧sub.len+l'.length≤65536∧ns.length≤sub.len∧Upd (UB R h1.size) h1 h') (fun _ h'=>Zi8 h' R)
     ⟨ZF l,[],.nil,r5,p5,hL,by simp [JL.len];omega,Nat.le_refl _,u15⟩ ?_
   rintro ⟨⟩ h7 ⟨l7,ns,sub,r7,p7,q7,n7,m7,u7⟩
   refine ZhA r7 (Zng ?_)
   refine ZcE r7 fun h8 r8 u8 z8=>?_
   have p8:=p7.upd u8 fun j hj=>by subst hj;exact hRb
   obtain ⟨sx,sy,cx,c,ox,oy,lr,ne⟩:=id p8
   have hb8:=p8.lt
   refine rL (s:=sy) (Zn c rfl) (ZhW r8 hR fun o h9 o9 hn9 u9=>?_)
   have c9:=Yt c u9 (show ¬ h1.size=R by omega)
   refine YA (Zn c9 rfl) (ZbZ fun h10 c10 e10 z10=>YA (Zn (YY c9 e10) rfl) (ZjR c10 rfl ?_))
   have s9:=Za3 u9
   have s10:sz h9≤sz h10:=e10.size
   have old:∀ j,h1.size≤j→j<sz h8→obj h10 j=obj h8 j:=fun j hj hl=>by rw [Ys e10 (by omega),ZX u9 hl (by omega)]
   refine Zo3 ((old h1.size (Nat.le_refl _) hb8).trans c) (ox.congr fun j _ hl hbj=>old j (by omega) hl) (oy.congr fun j _ hl hbj=>old j (by omega) hl)
     (lr.keep (fun j hj hl=>old j (by omega) hl) fun j hj=>⟨hj.1,by omega,hj.2.2⟩) ne (by omega) fun h11 p11 u11=>?_
   have o11:=(o9.ext e10).upd u11 (by omega)
   refine Zjr o11 fun h12 o12 u12 z12=>Zu3 (c:=58) o12 rfl (by decide) fun h13 o13 u13 z13=>?_
   have p13:=(p11.upd u12 fun j hj=>by subst hj;exact hRb).upd u13 fun j hj=>by subst hj;exact hRb
   have oname:ZbH h13 R s (Zat l7):=by rw [Zog];exact o13
   have hname:∀ nm r,Zat l7 = .ok nm r→o=nm:=fun nm r hq=>by
     rw [Zog] at hq
     obtain ⟨t,r1,a1,a2⟩:=ZJ hq
     obtain ⟨t2,r2,a3,a4⟩:=ZJ a1
     obtain ⟨_,r3,a5,a6⟩:=ZJ a2
     cases a4;cases a6
     exact hn9 _ _ a3
   have u713:Upd (UB R h1.size) h7 h13:=((((u8.mono fun j _ hj=> .inl hj).trans (u9.mono fun j _ hj=> .inl hj)).trans (e10.upd _)).trans (u11.mono fun j _ hj=> .inr hj)).trans ((u12.trans u13).mono fun j _ hj=> .inl hj)
   have hxx:∀ r',((Zat l7).bind fun _ r=> .ok () r:Out Unit).bind (fun _ r=>Zz n r)=r'↔((Zat l7).bind fun _ r=>Zz n r)=r':=fun r'=>by rw [Zaw];exact Iff.rfl
   refine ZlD hf (ob:=true) (x:=(Zat l7).bind fun _ r=> .ok () r) (Zro oname) hR hRb p13 (by omega) rfl (fun v h14 p14 hv14 o14 u14'=>?_) fun v r r' h14 hx hr' p14 r14 u14'=>?_
   ·have u1x:=u7.trans (u713.trans (u14'.mono fun j _ hj=>hj))
    have hbx:(((Zat l7).bind fun _ r=> .ok () r:Out Unit).bind fun _ r=>Zz n r)=(Zat l7).bind fun _ r=>Zz n r:=by rw [Zaw];rfl
    rw [hbx] at hv14 o14
    have hv14:∀ w r,((Zat l7).bind fun _ r=>Zz n r) = .ok w r→v=w∧∀ r',ZF r≠44::r':=hv14
    have o14:ZbH h14 R s (((Zat l7).bind fun _ r=>Zz n r).bind fun _ r=>(Xi [Zby true] (ZF r)).bind fun _ r'=> .ok () r'):=o14
    have hfin:Zdq n true l=((Zat l7).bind fun nm r=>(Zz n r).bind fun v r=>(Xi [Zby true] (ZF r)).bind fun _ r'=> .ok (⟨7,[],ns++[nm],sub.snoc v⟩:JV) r'):=by
      unfold Zdq
      rw [q7,Zaw]
      cases hnm:Zat l7 with
      | err e r=>rfl
      | ok nm r0 =>
        simp only [Out.bind_ok]
        rw [Zaw]
        cases hx:Zz n r0 with
        | err e r=>rfl
        | ok w r =>
          simp only [Out.bind_ok]
          have h44:=(hv14 w r (by rw [hnm];exact hx)).2
          rw [ZtI hg hst h0 true _ (sub.snoc w) (ZiO w sub) (ZF r) h44]
          cases Xi [Zby true] (ZF r)<;>rfl
    refine out p14 u1x ?_ fun w r hw=>?_
    ·rw [hfin]
     cases hnm:Zat l7 with
     | err e r=>rw [hnm] at o14;exact o14
     | ok nm r0 =>
       rw [hnm] at o14
       simp only [Out.bind_ok] at o14 ⊢
       cases hx:Zz n r0 with
       | err e r=>rw [hx] at o14;exact o14
       | ok w r =>
         rw [hx] at o14
         simp only [Out.bind_ok] at o14 ⊢
         cases hw:Xi [Zby true] (ZF r) with
         | err e r=>rw [hw] at o14;exact o14
         | ok a r=>rw [hw] at o14;exact o14
    ·rw [hfin] at hw
     obtain ⟨nm,r0,a0,b1⟩:=ZJ hw
     obtain ⟨w1,r1,a1,a2⟩:=ZJ b1
     obtain ⟨_,r2,a3,a4⟩:=ZJ a2
     cases a4
     rw [(hv14 w1 r1 (by rw [a0];exact a1)).1,hname nm r0 a0]
   ·have hx:=(hxx _).1 hx
    obtain ⟨nm,r0,a0,a1⟩:=ZJ hx
    have hvl:=hst.len a1
    have hnl:=Ze1.2.len a0
    have hsl:=ZaL r
    rw [hr'] at hsl
    simp only [List.length_cons] at hsl
    refine ⟨⟨r',ns++[o],sub.snoc v,r14,p14,?_,by rw [JL.len_snoc];omega,by rw [JL.len_snoc];simp;omega,u7.trans (u713.trans u14')⟩,?_⟩
    ·rw [q7,a0]
     simp only [Out.bind_ok]
     rw [a1]
     simp only [Out.bind_ok]
     rw [hr',Zpc hg hst h0 true _ _ (ZiO v sub),partO,hname nm r0 a0]
    ·rw [r7.left,r14.left];simp;omega
  ·refine ZhA r5 (Zng (Zaz r5 (fun hne=>?_) fun he=>⟨rfl,by rw [he];rfl⟩))
   refine Zi4 r5 (Zbl 125 (fun l' e=>?_) fun hn=>⟨rfl,?_⟩)
   ·rw [e] at r5
    have hopen:Zdq n true l = .ok ⟨7,[],[],.nil⟩ l':=by
      unfold Zdq
      rw [e,Znh hg hst h0]
      rfl
    refine Za6 r5 fun h6 r6 u6 z6=>?_
    exact out (p5.upd u6 fun j hj=>by subst hj;exact hRb) (u15.trans (u6.mono fun j _ hj=> .inl hj)) (by rw [hopen];exact r6) fun w r hw=>by rw [hopen] at hw;cases hw;rfl
   ·cases hk9:ZF l with
    | nil=>rfl
    | cons c l9 =>
      have:=hn c l9 hk9
      simpa [Zbx] using this
end Go.Proofs.YtpjbjdheeemdiaaGreatDoor
