/- Escapes, runes and strings: the program's reader. -/
import Derived.Laws.Strings
import Derived.Test.YtpjbjdheeemdiaaGreatDoorRows
import Derived.Deep.Slices
import Derived.ChangeSlices
import Derived.Test.YtpjbjdheeemdiaaGreatDoorPa10
set_option linter.unusedVariables false
set_option linter.unusedSimpArgs false
namespace Go.Proofs.YtpjbjdheeemdiaaGreatDoor
open Go Go.Fw Go.Js
abbrev UB (R B:Nat):Nat->Prop:=fun k=>k=R\/B<=k
theorem toU (c:UInt8):(c.toNat:Int).toNat.toUInt8=c:=by simp
abbrev ZEq:BL:=[34,92,47,98,102,110,114,116]
theorem ZEr:∀ c:UInt8,ZfD c=none->Lib.indexByte ZEq c<0:=ZFK (by decide +kernel)
theorem ZAP:∀ c:UInt8,(ZfD c).isSome=true->0<=Lib.indexByte ZEq c/\(⟨#[34,92,47,8,12,10,13,9]⟩:ByteArray)[(Lib.indexByte ZEq c).toNat]?=ZfD c:=ZFK (by decide +kernel)
theorem Zrq (a b:ByteArray):ZcC a b=decide (a=b):=by
  unfold ZcC
  rw [ByteArray.toList_eq,ByteArray.toList_eq]
  by_cases h:a=b
  ·rw [h];simp
  ·rw [decide_eq_false h,beq_eq_false_iff_ne]
   intro e
   exact h (ByteArray.ext (Array.toList_inj.1 e))
theorem ZkE.extractN {s:ByteArray} {n:Nat} {l:BL} (h:ZkE s n l) {k:Nat} (a:k<=l.length):s.extract n (n+k)=Zj (l.take k):=by
  have:=h.extract (h.dropK a) (Nat.le_add_right _ _)
  rw [this]
  congr 1
  unfold upto
  rw [Azj,show l.length - (l.length - k)=k by omega]
theorem ZdJ (l:BL):(Zj l).size=l.length:=rfl
theorem Ztc {l:BL} {K:Bool->HP} {h:Zc} (d:K (ZdT l).isSome h):ZaL (Zj l) (ByteArray.mk #[92,117]) K h:=by
  unfold ZaL ZdM Xd XZ
  have f:(ByteArray.mk #[92,117]).size=2:=rfl
  rw [f,ZdJ]
  rcases l with _ | ⟨a,_ | ⟨b,l⟩⟩
  ·exact Zl (by simp) (Zh d)
  ·exact Zl (by simp) (Zh d)
  ·refine Zm (by simp;omega) ⟨by omega,by omega,by rw [ZdJ];simp;omega,?_⟩
   have e:(Zj (a::b::l)).extract 0 2=Zj [a,b]:=by
     apply ByteArray.ext
     simp [Zj]
   show Yq (ZcC ((Zj (a::b::l)).extract 0 2) _) _
   rw [e]
   have g:ZcC (Zj [a,b]) (ByteArray.mk #[92,117])=(ZdT (a::b::l)).isSome:=by
     rw [ZiR]
     rw [Zrq]
     by_cases c:a=92/\b=117
     ·rw [if_pos c,c.1,c.2];exact decide_eq_true rfl
     ·rw [if_neg c]
      refine decide_eq_false fun e=>c ?_
      have:=congrArg (fun x:ByteArray=>x.data.toList) e
      simpa [Zj] using this
   rw [g]
   exact Zh (Zh d)
theorem ZqG {l o r:BL} (h:ZtC l = .ok o r):o.length+r.length<=l.length/\r <:+l:=by
  rcases l with _ | ⟨c,l⟩
  ·cases h
  ·rw [Zhq] at h
   cases hm:ZfD c with
   | some m=>rw [hm] at h;cases h;exact ⟨by simp;omega,Aye _ _⟩
   | none =>
     rw [hm] at h
     simp only at h
     split at h
     ·rw [Zjx] at h
      obtain ⟨n,b,k,d⟩:=Yh h
      obtain ⟨w,f⟩:=ZfG 4 k
      cases a:(if 55296<=n/\n<56320 then ZdT b else none) with
      | none =>
        simp only [a] at d
        cases d
        have:=ZpL (ZlH n)
        exact ⟨by simp;omega,ZbH f⟩
      | some j =>
        simp only [a] at d
        have g:ZdT b=some j:=by
          split at a
          ·exact a
          ·cases a
        have e:=Zfe g
        obtain ⟨m,p,q,i⟩:=Yh d
        obtain ⟨a3,s⟩:=ZfG 4 q
        have t:b.length=j.length+2:=by rw [e];rfl
        split at i
        ·injection i with u v
         subst u v
         have:=ZpL (65536+(n - 55296)*1024+(m - 56320))
         have s2:p <:+b:=by rw [e];exact ZbH (ZbH s)
         exact ⟨by simp;omega,ZbH (s2.trans f)⟩
        ·cases i
         have:=ZpL (ZlH n)
         exact ⟨by simp;omega,ZbH f⟩
     ·cases h
theorem ZtB {h:Zc} {R B:Nat} {T:TypeId} {s:ByteArray} {l out:BL} (I:Rd h R s l) (hb:Bld h B T out) (W:R<B) (X:out.length<900000000) {K:HP} {P:Value->HP}
    (C:∀ o r h',ZtC l = .ok o r->Rd h' R s r->Bld h' B T (out++o)->Upd (UB R B) h h'->K h') (j:OnE h R s (UB R B) (ZtC l) P):Zaz (At R) (At B) K P h:=by
  unfold Zaz Zdg
  have F:∀ {a b:Zc},Upd (· = R) a b->Upd (UB R B) a b:=fun u=>u.mono fun k _ J=> .inl J
  have Y:∀ {a b:Zc},Upd (fun k=>B<=k) a b->Upd (UB R B) a b:=fun u=>u.mono fun k _ J=> .inr J
  have f:∀ {a b:Zc} {q:BL},Rd a R s q->Upd (fun k=>B<=k) a b->Rd b R s q:=fun r u=>r.upd u (by omega)
  have d:∀ {a b:Zc} {o:BL},Bld a B T o->Upd (· = R) a b->Bld b B T o:=fun r u=>r.upd u (fun k J=>by subst J;exact W)
  refine Zao I (Za ?_)
  refine ZO (fun _ h'=>h'=h/\(l=[]\/∃ c t,l=c::t/\ZfD c=none)) ?_ ?_
  ·rintro ⟨⟩ A ⟨rfl,hl⟩
   refine ZO (fun _ h'=>h'=A/\∃ t,l=117::t) ?_ ?_
   ·rintro ⟨⟩ x ⟨rfl,L,rfl⟩
    have g:ZtC (117::L)=ZGn L:=by rw [Zhq,ZEI];simp
    refine ZdW I fun h3 Z G z3=>?_
    refine ZuO Z (fun n y h4 S H U z4=>Za ?_) fun e r h4 he U=>j e r h4 (by rw [g,Zjx,he];rfl) (F (G.trans U))
    have hn:n<65536:=by have:=Zqz 4 S;omega
    have V:=d (d hb G) U
    have v:=F (G.trans U)
    refine ZO (fun _ h'=>ZtC (117::L) = .ok (Zhc (ZlH n)) y/\Rd h' R s y/\Bld h' B T out/\Upd (UB R B) x h') ?_ ?_
    ·rintro ⟨⟩ h5 ⟨q5,r5,b5,u5⟩
     refine ZO (fun p h'=>h'=h5/\p.1=(ZlH n:Int)) ?_ ?_
     ·rintro ⟨m,u⟩ h6 ⟨rfl,hm⟩
      dsimp only at hm ⊢
      refine Zjj b5 (n:=ZlH n) ?_ ?_ hm X fun i M b7 z=>C _ _ M q5 (f r5 z) b7 (u5.trans (Y z))
      ·unfold ZlH;split<;>omega
      ·unfold ZlH;split<;>omega
     ·refine Zq (fun A=>Zq (fun x=>Za ⟨rfl,?_⟩) fun x=>⟨rfl,?_⟩) fun A=>⟨rfl,?_⟩
      ·unfold ZlH;rw [if_pos (by omega)];rfl
      ·unfold ZlH;rw [if_neg (by omega)]
      ·unfold ZlH;rw [if_neg (by omega)]
    ·
     refine ZO (fun p h'=>h'=h4/\p.1=(decide (55296<=n/\n<56320)&&(ZdT y).isSome)) ?_ ?_
     ·rintro ⟨b,u⟩ h5 ⟨rfl,N⟩
      dsimp only at N ⊢
      subst N
      by_cases w:55296<=n/\n<56320
      case neg =>
        refine Zl (by simp [w]) ⟨?_,H,V,v⟩
        rw [g,Zjx,S];simp [w]
      cases D:ZdT y with
      | none =>
        refine Zl (by simp) ⟨?_,H,V,v⟩
        rw [g,Zjx,S];simp [w,D]
      | some l3 =>
        have hq:ZtC (117::L)=(Zji 4 0 l3).bind fun m l4=>if 56320<=m/\m<57344 then .ok (Zhc (65536+(n - 55296)*1024+(m - 56320))) l4 else .ok (Zhc (ZlH n)) y:=by
          rw [g,Zjx,S];simp [w,D]
        have e:=Zfe D
        refine Zm (by simp [w]) (Zjh H fun ad O=>Za ?_)
        refine ZEz H (m:=2) rfl (by rw [e];simp) fun h6 r6 Q z6=>?_
        have ae:Rd h6 R s l3:=by rw [e] at r6;exact r6
        refine ZuO ae (fun m l4 M hm r7 z z7=>Za ?_) fun e' r M he z=>j e' r M (by rw [hq,he];rfl) (v.trans (F (Q.trans z)))
        have aG:m<65536:=by have:=Zqz 4 hm;omega
        have back:¬ (56320<=m/\m<57344)->Ze (At R) fun ag ah=>st M ag (ah+1) (.int .i64 (ad:Int)) fun E=>ZtC (117::L) = .ok (Zhc (ZlH n)) y/\Rd E R s y/\Bld E B T out/\Upd (UB R B) x E:=fun ai =>
          Zuo r7 rfl O fun h8 r8 u8 z8=>⟨by rw [hq,hm];simp [ai],r8,d (d (d V Q) z) u8,v.trans (F ((Q.trans z).trans u8))⟩
        refine Zq (fun A=>Zq (fun x=>⟨by decide,?_⟩) fun x=>back (by omega)) fun A=>back (by omega)
        have hv:IntKind.wrap .i32 ((IntKind.wrap .i32 ((65536:Int)+(Zz5 .i32 (IntKind.wrap .i32 ((n:Int) - 55296)) 10)))+(IntKind.wrap .i32 ((m:Int) - 56320)))=((65536+(n - 55296)*1024+(m - 56320):Nat):Int):=by
          rw [Zl6 (n:=(n:Int) - 55296) (by omega) (by omega),show (n:Int) - 55296=((n - 55296:Nat):Int) by omega,show ((10:Int))=((10:Nat):Int) from rfl,ZGy (by omega) (by omega),
            Zl6 (n:=(m:Int) - 56320) (by omega) (by omega),Zl6 (n:=65536+_) (by omega) (by omega),Zl6 (by omega) (by omega)]
          omega
        refine Zjj (d (d V Q) z) (n:=65536+(n - 55296)*1024+(m - 56320)) (by omega) (by omega) hv X fun i h8 b8 u8=>C _ _ h8 ?_ (f r7 u8) b8 ((v.trans (F (Q.trans z))).trans (Y u8))
        rw [hq,hm]
        have:56320<=m/\m<57344:=by omega
        simp [this]
     ·refine Zq (fun A=>Zq (fun x=>?_) fun x=>⟨rfl,by simp;omega⟩) fun A=>⟨rfl,by simp;omega⟩
      refine Zun H (Zjh H fun p hp=>?_)
      have hlen:=hp.len
      refine ⟨by omega,by omega,by omega,?_⟩
      have e:s.extract (p:Int).toNat (s.size:Int).toNat=Zj y:=by
        rw [Aqu,Aqu,<- hlen,hp.extractN (Aqo _),List.take_length]
      rw [e]
      refine ⟨((ZdT y).isSome,()),Ztc ⟨rfl,rfl⟩,rfl,?_⟩
      have:55296<=n/\n<56320:=by omega
      simp [this]
   ·refine Zkw 117 (fun hn=>ZbX (α:=BL) I rfl fun e' r he aK=>j e' r A ?_ (Upd.refl _ _)) fun t e=>⟨rfl,t,e⟩
    rw [<- he]
    rcases hl with rfl | ⟨c,t,rfl,hm⟩
    ·rfl
    ·rw [Zhq,hm]
     simp only
     rw [if_neg (hn c t rfl)];rfl
  ·refine Zm6 ?_
   rcases l with _ | ⟨c,t⟩
   ·exact Za (Zl (decide_eq_false (by decide)) ⟨rfl,.inl rfl⟩)
   ·rw [show (Zce (c::t)).toNat.toUInt8=c from toU c]
    cases hm:ZfD c with
    | none =>
      have key:=ZEr c hm
      exact Za (Zl (decide_eq_false (Int.not_le.2 key)) ⟨rfl,.inr ⟨c,t,rfl,hm⟩⟩)
    | some m =>
      obtain ⟨k0,k1⟩:=ZAP c (by rw [hm];rfl)
      rw [hm] at k1
      refine Za ?_
      refine Zm (decide_eq_true k0) (Zs9 I (fun _=>?_) fun h0=>by cases h0)
      refine ⟨m,k0,k1,?_⟩
      refine Zl5 hb rfl X fun x b2 u2=>?_
      refine ZdW (f I u2) fun h3 Z G z3=>C [m] t h3 ?_ Z (d b2 G) ((Y u2).trans (F G))
      rw [Zhq,hm]
theorem Zlh {x:BL} (b:x.length<=1000000) {K:Int->HP} {h:Zc} (a:∀ h',Ext h h'->K (Lib.runeCount (Zj x)) h'):Xc (Zj x) K h:=⟨by rw [ZdJ];omega,a⟩
theorem ZiW {x:BL} (b:x.length<=1000000) {K:Bool->HP} {h:Zc} (ht:ZaT h) (a:∀ h',Ext h h'->K (Lib.validD x) h'):Z8 (Zj x) K h:=⟨ht,by rw [ZdJ];omega,by simpa using a⟩
theorem ZqO {x y:BL} (b:x.length+y.length<=1000000) {K:ByteArray->Prop} (a:K (Zj (x++y))):ZHe (Zj x) (Zj y) K:=by
  refine ⟨by rw [ZdJ,ZdJ];omega,?_⟩
  have:Zj x++Zj y=Zj (x++y):=by
    apply ByteArray.ext
    simp [Zj]
  rw [this];exact a
theorem ZpZ {x:BL} {n:Nat} (b:n<=x.length) {m:Int} (hm:m=n) {K:ByteArray->Prop} (a:K (Zj (x.take n))):ZAM (Zj x) 0 m K:=by
  subst hm
  refine ⟨by omega,by omega,by rw [ZdJ];omega,?_⟩
  have:(Zj x).extract (0:Int).toNat (n:Int).toNat=Zj (x.take n):=by
    apply ByteArray.ext
    simp [Zj]
  rw [this];exact a
def ZhM (i:Nat):BL:=ZCo.getD i []
theorem ZEL {low:BL} (h:low∈ZCo):∃ i,i<3/\ZhM i=low:=by
  simp only [ZCo,Awr,Azk,or_false] at h
  rcases h with rfl | rfl | rfl
  ·exact ⟨0,by omega,rfl⟩
  ·exact ⟨1,by omega,rfl⟩
  ·exact ⟨2,by omega,rfl⟩
theorem ZyM {i:Nat} (h:i<3):(ZhM i).length=3:=by
  obtain rfl | rfl | rfl:i=0\/i=1\/i=2:=by omega
  all_goals rfl
def ZBT (x:BL) (i n:Nat):Prop:=∀ k,x.length<k->k<n->Zcs (x++(ZhM i).take (k - x.length))=false
theorem ZtO {x:BL} (l:x≠[]) (U:x.length<=4) {h:Zc} (ht:ZaT h) {K:Bool->HP} (Q:∀ h',Ext h h'->K (ZoL x) h'):Zek (Zj x) K h:=by
  unfold Zek ZhY
  have hlen:0<x.length:=List.length_pos_iff.2 l
  have w:((Zj x).size:Int)=x.length:=rfl
  refine YZ fun a V E z1=>?_
  have yes:∀ {t:BL} {h':Zc},Ext a h'->Zcs (x++t)=true->K true h':=fun {t h'} e ho=>by
    have:=Q h' (E.trans e)
    rwa [ZoK l ho] at this
  refine Zv (fun p h'=>∃ i:Nat,p.1=i/\i<=3/\Ext a h'/\∀ j,j<i->ZBT x j 5) (fun p _=>(3 - p.1).toNat) ⟨0,rfl,by omega,Ext.refl _,fun j W=>by omega⟩ ?_
  rintro ⟨X,u⟩ v ⟨i,F,Y,G,y⟩
  dsimp only at F ⊢
  subst F
  refine Zq (fun H=>?_) fun I=>?_
  ·have F:i<3:=by omega
   have c2:=Zn V G
   have z:(Zj (ZhM i))=[ByteArray.mk #[128,128,128],ByteArray.mk #[144,128,128],ByteArray.mk #[160,128,128]].getD i (ByteArray.mk #[]):=by
     obtain rfl | rfl | rfl:i=0\/i=1\/i=2:=by omega
     all_goals rfl
   have m:ZbK (0+i*1) (obj v h.size)=some (.string (Zj (ZhM i))):=by
     rw [z]
     obtain rfl | rfl | rfl:i=0\/i=1\/i=2:=by omega
     ·exact Zb c2 rfl
     ·exact Zb c2 rfl
     ·exact Zb c2 rfl
   refine Zm7 (n:=i) rfl (by omega) (rS m (Za ?_))
   have Z:=ZyM F
   refine Zv (fun p h'=>∃ k:Nat,p.1=k/\x.length<=k/\k<=4/\Ext a h'/\ZBT x i k) (fun p _=>(4 - p.1).toNat) ⟨x.length,rfl,Aqo _,U,G,fun k a v=>by omega⟩ ?_
   rintro ⟨k6,u2⟩ J ⟨k,A,aa,ab,B,g⟩
   dsimp only at A ⊢
   subst A
   have C:ZaT J:=ht.ext (E.trans B)
   refine Zq (fun R=>?_) fun S=>?_
   ·rw [w,YA (by omega) (by omega)]
    refine ZpZ (n:=k - x.length) (by omega) (by omega) (ZqO (by simp;omega) ?_)
    have b:(x++(ZhM i).take (k - x.length)).length<=1000000:=by simp;omega
    have step:∀ {h':Zc},Ext J h'->Zcs (x++(ZhM i).take (k - x.length))=false->Zi (IntKind.wrap .i64 ((k:Int)+1)) fun D=>(∃ f:Nat,D=f/\x.length<=f/\f<=4/\Ext a h'/\ZBT x i f)/\(4 - D).toNat<(4 - (k:Int)).toNat:=fun {h'} e ho=>by
      refine Za ?_
      rw [YA (by omega) (by omega)]
      refine ⟨⟨k+1,rfl,by omega,by omega,B.trans e,fun q L q2=>?_⟩,by omega⟩
      rcases Aqd q k with h | h
      ·exact g q L h
      ·rw [show q=k by omega];exact ho
    refine Zlh b fun M c=>Za (Zag (fun N=>ZiW b (C.ext c) fun O o=>?_) fun r=>?_)
    ·cases d:Lib.validD (x++(ZhM i).take (k - x.length)) with
     | true=>exact Zhl (yes (B.trans (c.trans o)) (ZhJ.1 ⟨d,by have:Lib.runeCount (Zj (x++(ZhM i).take (k - x.length)))=1:=by omega
                                                               exact this⟩))
     | false =>
       refine ZfM (step (c.trans o) ?_)
       cases ho:Zcs (x++(ZhM i).take (k - x.length)) with
       | false=>rfl
       | true=>rw [(ZhJ.2 ho).1] at d;cases d
    ·refine step c ?_
     cases ho:Zcs (x++(ZhM i).take (k - x.length)) with
     | false=>rfl
     | true=>exact absurd (by have:=(ZhJ.2 ho).2;show ((Lib.runeCount (Zj _):Nat):Int)=1;rw [this];rfl) r
   ·obtain rfl:k=4:=by omega
    have next:∀ {h':Zc},Ext J h'->(x.length<4->Zcs (x++(ZhM i).take (4 - x.length))=false)->(∃ s:Nat,IntKind.wrap .i64 ((i:Int)+1)=s/\s<=3/\Ext a h'/\∀ j,j<s->ZBT x j 5)/\(3 - IntKind.wrap .i64 ((i:Int)+1)).toNat<(3 - (i:Int)).toNat:=fun {h'} e ho=>by
      rw [YA (by omega) (by omega)]
      refine ⟨⟨i+1,rfl,by omega,B.trans e,fun j W=>?_⟩,by omega⟩
      rcases Aqd j i with h | h
      ·exact y j h
      ·obtain rfl:j=i:=by omega
       intro q L q2
       rcases Aqd q 4 with h | h
       ·exact g q L h
       ·obtain rfl:q=4:=by omega
        exact ho (by omega)
    rw [w]
    refine Zq (fun H=>?_) fun I=>next (Ext.refl _) fun h=>by omega
    have T:(x++ZhM i).take 4=x++(ZhM i).take (4 - x.length):=by
      rw [List.take_append,Awd (by omega)]
    have b:(x++(ZhM i).take (4 - x.length)).length<=1000000:=by simp;omega
    refine ZqO (by omega) (ZpZ (n:=4) (by simp;omega) rfl ?_)
    rw [T]
    refine ZiW b C fun M c=>?_
    cases d:Lib.validD (x++(ZhM i).take (4 - x.length)) with
    | false =>
      refine ZfM (next c fun _=>?_)
      cases ho:Zcs (x++(ZhM i).take (4 - x.length)) with
      | false=>rfl
      | true=>rw [(ZhJ.2 ho).1] at d;cases d
    | true =>
      refine Zhl (ZqO (by omega) (ZpZ (n:=4) (by simp;omega) rfl ?_))
      rw [T]
      refine Zlh b fun O o=>Zag (fun N=>yes (B.trans (c.trans o)) (ZhJ.1 ⟨d,?_⟩)) fun r=>next (c.trans o) fun _=>?_
      ·have:Lib.runeCount (Zj (x++(ZhM i).take (4 - x.length)))=1:=by omega
       exact this
      ·cases ho:Zcs (x++(ZhM i).take (4 - x.length)) with
       | false=>rfl
       | true=>exact absurd (by have:=(ZhJ.2 ho).2;show ((Lib.runeCount (Zj _):Nat):Int)=1;rw [this];rfl) r
  ·obtain rfl:i=3:=by omega
   have P:ZaT v:=ht.ext (E.trans G)
   have fin:∀ h',Ext v h'->K (Zcs x) h':=fun h' e=>by
     have:=Q h' (E.trans (G.trans e))
     cases ho:Zcs x with
     | true=>rwa [ZoK (t:=[]) l (by rw [Ayt];exact ho)] at this
     | false =>
       cases hp:ZoL x with
       | false=>rwa [hp] at this
       | true =>
         exfalso
         obtain ⟨low,hm,n,n1,n2,n3⟩:=ZGP hp ho
         obtain ⟨i,i3,rfl⟩:=ZEL hm
         have:=y i i3 n n1 (by omega)
         rw [n3] at this;cases this
   refine ZiW (by omega) P fun M c=>?_
   cases d:Lib.validD x with
   | false =>
     refine ZfM ?_
     have:=fin M c
     cases ho:Zcs x with
     | false=>rwa [ho] at this
     | true=>rw [(ZhJ.2 ho).1] at d;cases d
   | true =>
     refine Zhl (Zlh (by omega) fun O o=>Zh ?_)
     have:=fin O (c.trans o)
     cases ho:Zcs x with
     | true =>
       rw [ho] at this
       have a:Lib.runeCount (Zj x)=1:=(ZhJ.2 ho).2
       rw [a];exact this
     | false =>
       rw [ho] at this
       have a:¬ Lib.runeCount (Zj x)=1:=fun a=>by
         have:=ZhJ.1 ⟨d,a⟩
         rw [ho] at this;cases this
       have v:(((Lib.runeCount (Zj x):Nat):Int) ==1)=false:=by
         rw [beq_eq_false_iff_ne];omega
       rw [v];exact this
theorem Zu0 {h:Zc} {R:Nat} {s:ByteArray} {l:BL} (a:Rd h R s l) {e:Int} {n:Int} (b:n<s.size) {K:HP} {P:Value->HP} (hp:P (.iface 160 (.agg #[.int .i64 e,.int .i64 n])) h):Zp (At R) e n K P h:=by
  unfold Zp Zbb
  exact Zun a (Zl (by simp;omega) hp)
theorem ZBx {h:Zc} {R:Nat} {s:ByteArray} {l:BL} (a:Rd h R s l) {e:Int} {n:Int} (b:(s.size:Int)<=n) {K:HP} {P:Value->HP} (hp:P (Zgw 24 s.size) h):Zp (At R) e n K P h:=by
  unfold Zp Zbb
  exact Zun a (Zm (by simp;omega) (Zun a hp))
theorem ZvJ {h:Zc} {R B:Nat} {T:TypeId} {s:ByteArray} {l out:BL} (E:Rd h R s l) (Z:Bld h B T out) (ht:ZaT h) (F:l≠[]) (hR:9<=R) (G:R<B) (hs:out.length<800000000) {K:HP} {P:Value->HP}
    (H:∀ x r h',Zhn Zcx l = .ok x r->Rd h' R s r->Bld h' B T (out++x)->Upd (UB R B) h h'->K h') (o:OnE h R s (UB R B) (Zhn Zcx l) P):ZaN (At R) (At B) K P h:=by
  unfold ZaN ZdQ
  have aa:=E.len
  have a:∀ {e:Nat} {r:BL},Zcx l = .err e r->Zhn Zcx l = .err e r:=fun he=>by unfold Zhn;rw [he];rfl
  have part:∀ {k:Nat},k<l.length+1->1<=k->∃ d,l.take k=l.take (k - 1)++[d]/\l=l.take (k - 1)++d::l.drop k:=fun {k} I h1=>by
    have hd:l.drop (k - 1)=l[k - 1]::l.drop k:=by
      have:=Ayl (l:=l) (i:=k - 1) (by omega)
      rw [this,show k - 1+1=k by omega]
    refine ⟨l[k - 1],?_,?_⟩
    ·have:l.take (k - 1+1)=l.take (k - 1)++[l[k - 1]]:=by rw [Ayu,Ayb (by omega)];rfl
     rw [show k - 1+1=k by omega] at this
     exact this
    ·rw [<- hd,Azi]
  refine Za ?_
  refine Zv (fun p h'=>∃ k:Nat,p.1=k/\1<=k/\k<=4/\k - 1<=l.length/\(l.take (k - 1)=[]\/(ZoL (l.take (k - 1))=true/\Zcs (l.take (k - 1))=false))/\Ext h h') (fun p _=>(5 - p.1).toNat) ⟨1,rfl,by omega,by omega,by omega,.inl rfl,Ext.refl _⟩ ?_
  rintro ⟨k1,u⟩ S ⟨k,I,J,ab,ad,c,t⟩
  dsimp only at I ⊢
  subst I
  have j:=E.ext t
  refine ZO (fun _ h'=>h'=S/\k<=l.length) ?_ ?_
  ·rintro ⟨⟩ h3 ⟨rfl,v⟩
   obtain ⟨d,ed,el⟩:=part (by omega) J
   refine Zun j (Zjh j fun n w=>Zjh j fun y L=>?_)
   have M:y=n:=by have:=w.len;have:=L.len;omega
   subst M
   have hlen:=w.len
   rw [YA (by omega) (by omega)]
   refine ⟨by omega,by omega,by omega,?_⟩
   have ex:s.extract (y:Int).toNat ((y:Int)+k).toNat=Zj (l.take k):=by
     rw [show ((y:Int)+k).toNat=y+k by omega,Aqu]
     exact w.extractN v
   rw [ex]
   have z:(l.take k).length=k:=by rw [Ayo];omega
   refine ZO (fun _ h'=>ZoL (l.take k)=true/\Ext h h') ?_ ?_
   ·rintro ⟨⟩ U ⟨f,g⟩
    refine ZiW (by omega) (ht.ext g) fun h5 D=>?_
    rw [Zxu f]
    have V:=E.ext (g.trans D)
    cases ho:Zcs (l.take k) with
    | true =>
      refine Zhl (ZsL (Z.congr fun b _ hl=>Zu (g.trans D) hl) (by rw [ZdJ];omega) fun h6 b6 N=>?_)
      refine Zjh (V.upd N (by omega)) fun n6 A=>?_
      have W:=A.len
      refine Zuo (V.upd N (by omega)) (n:=n6+k) (by rw [YA (by omega) (by omega)];rfl) (A.dropK v) fun h7 r7 X z7=>?_
      have m:Zhn Zcx l = .ok (l.take k) (l.drop k):=by
        have:Zcx (l.take k++l.drop k) = .ok () (l.drop k):=Zrv ho
        unfold Zhn
        rw [Azi] at this
        rw [this]
        simp only [Out.bind_ok]
        congr 1
        unfold upto
        rw [Azj,show l.length - (l.length - k)=k by omega]
      refine H _ _ h7 m r7 ?_ ?_
      ·have:=b6.upd (B:=B) X (fun q m=>by subst m;exact G)
       simpa [Zj] using this
      ·exact (((g.trans D).upd _).trans (N.mono fun q _ m=> .inr m)).trans (X.mono fun q _ m=> .inl m)
    | false =>
      refine ZfM (Za ?_)
      rw [YA (by omega) (by omega)]
      have h3:=(ZEA f).2 ho
      refine ⟨⟨k+1,rfl,by omega,by omega,by omega,.inr ?_,g.trans D⟩,by omega⟩
      rw [show k+1 - 1=k by omega]
      exact ⟨f,ho⟩
   ·refine ZtO (by intro e;rw [e] at z;simp at z;omega) (by omega) (ht.ext t) fun U g=>?_
    cases f:ZoL (l.take k) with
    | true=>exact Zl rfl ⟨rfl,t.trans g⟩
    | false =>
      refine Zm rfl (Zjh (j.ext g) fun n4 O=>?_)
      have Y:=O.len
      rw [YA (n:=(n4:Int)+k) (by omega) (by omega),YA (by omega) (by omega)]
      refine Zu0 (j.ext g) (by omega) ?_
      have m:Zcx l = .err 22 (d::l.drop k):=by
        conv=>lhs;rw [el]
        refine Zx5 ?_ (by rw [<- ed];exact f)
        rcases c with h | h
        ·exact .inl h
        ·exact .inr h
      have:=o 22 _ U (a m) ((t.trans g).upd _)
      unfold Zgw at this
      have C:((s.size - (d::l.drop k).length:Nat):Int)=(n4:Int)+k - 1:=by
        simp only [Aqj,Azj];omega
      rw [C] at this
      exact this
  ·refine Zjh j fun n w=>Zun j ?_
   have ak:=w.len
   rw [YA (by omega) (by omega)]
   refine Zq (fun al=>Zun j (ZBx j (Int.le_refl _) ?_)) fun hle=>⟨rfl,by omega⟩
   have Q:l.take (k - 1)=l:=Awd (by omega)
   rw [Q] at c
   have hp:=c.resolve_left F
   have:=o 24 [] S (a (Zx4 hp.1 hp.2)) (t.upd _)
   simpa using this
def TP (out l:BL):Out BL:=Zjy (l.length+1) out l
theorem ZtS {n:Nat} {out l:BL} (h:l.length<n):Zjy n out l=TP out l:=by
  unfold TP
  rw [(ZpU n l h).1,(ZpU (l.length+1) l (Azc _)).1]
  exact ZfJ _ _ _ _ _ h (Azc _)
theorem ZFt (out:BL) (c:UInt8) (l:BL):TP out (c::l) =
    if c.toNat<32 then .err 22 (c::l)
    else if c=34 then .ok out l
    else if c=92 then (ZtC l).bind fun o a=>TP (out++o) a
    else if c.toNat<128 then TP (out++[c]) l
    else (Zhn Zcx (c::l)).bind fun x a=>TP (out++x) a:=by
  show Zjy ((c::l).length+1) out (c::l)=_
  rw [ZkS]
  have b:((ZtC l).bind fun o a=>Zjy (c::l).length (out++o) a)=(ZtC l).bind fun o a=>TP (out++o) a:=by
    cases h:ZtC l with
    | err e r=>rfl
    | ok o r=>exact ZtS (by have:=(ZqG h).2.length_le;simp;omega)
  have d:((Zcx (c::l)).bind fun _ a=>Zjy (c::l).length (out++upto (c::l) a) a)=(Zhn Zcx (c::l)).bind fun x a=>TP (out++x) a:=by
    unfold Zhn
    cases h:Zcx (c::l) with
    | err e r=>rfl
    | ok o r=>exact ZtS (by have:=(Ze1 h).1;simp at this ⊢;omega)
  rw [b,d,ZtS (n:=(c::l).length) (l:=l) (by simp)]
theorem Zrl {h:Zc} {R:Nat} {s:ByteArray} {c0:UInt8} {l:BL} (T:Rd h R s (c0::l)) (ht:ZaT h) (hR:9<=R) {K:ByteArray->HP} {P:Value->HP}
    (U:∀ t r h',ZnJ l = .ok t r->Rd h' R s r->Upd (· = R) h h'->K (Zj t) h') (G:OnE h R s (· = R) (ZnJ l) P):XR (At R) K P h:=by
  unfold XR Zeq
  have V:=T.len
  have W:=T.lt
  refine ZdW T fun i r1 u1 z1=>YZ fun Q c2 X z2=>?_
  have hB:i.size=sz h:=z1
  have r2:=r1.ext X
  have b2:Bld Q i.size 188 []:=⟨.inl rfl,.pointer none,⟨none,0,0⟩,c2,.inl rfl,Buf.nil _ _⟩
  have B:R<i.size:=by rw [hB];exact W
  have t2:ZaT Q:=(ht.upd u1 fun k f=>by subst f;exact hR).ext X
  have low:∀ {a:Zc},Upd (UB R i.size) Q a->Upd (· = R) h a:=fun {a} u=>UT u1 (UN X u) fun k f=>by
    rcases f with rfl | f
    ·exact .inl rfl
    ·right;rw [hB] at f;exact f
  refine Zv (fun _ h'=>∃ (Y out:BL),Rd h' R s Y/\Bld h' i.size 188 out/\ZaT h'/\TP out Y=ZnJ l/\out.length+Y.length<=65536/\Upd (UB R i.size) Q h') (fun _ h'=>left h' R) ⟨l,[],r2,b2,t2,rfl,by simp at V ⊢;omega,Upd.refl _ _⟩ ?_
  rintro ⟨⟩ Z ⟨A,out,v,S,t3,H,n3,I⟩
  have w:∀ {a b:Zc} {q:BL},Rd a R s q->Upd (fun k=>i.size<=k) a b->Rd b R s q:=fun r u=>r.upd u (by omega)
  have g:∀ {a b:Zc} {o:BL},Bld a i.size 188 o->Upd (· = R) a b->Bld b i.size 188 o:=fun r u=>r.upd u (fun k f=>by subst f;exact B)
  have tU:∀ {b:Zc},Upd (UB R i.size) Z b->ZaT b:=fun u=>t3.upd u fun k f=>by rcases f with rfl | f<;>omega
  have er:∀ {e:Nat} {r:BL} {h':Zc},TP out A = .err e r->Upd (UB R i.size) Z h'->P (Zgw e (s.size - r.length)) h':=fun he u=>G _ _ _ (by rw [<- H];exact he) (low (I.trans u))
  refine Zao v (Za ?_)
  refine ZO (fun p h'=>h'=Z/\p.1=decide (A=[]\/Zce A<32)) ?_ ?_
  ·rintro ⟨b,u⟩ h4 ⟨rfl,hb⟩
   dsimp only at hb ⊢
   subst hb
   rcases A with _ | ⟨c,A⟩
   ·refine Zm (by simp) (ZbX (α:=BL) v rfl fun e' r he ab=>er ?_ (Upd.refl _ _))
    rw [<- he];rfl
   have hz:Zce (c::A)=(c.toNat:Int):=rfl
   have j:=ZFt out c A
   rw [hz]
   by_cases J:c.toNat<32
   ·refine Zm (by simp;omega) (ZbX (α:=BL) v rfl fun e' r he ab=>er ?_ (Upd.refl _ _))
    rw [j,if_pos J,<- he];rfl
   rw [if_neg J] at j
   refine Zl (by simp;omega) (Zh (Zag (fun C=>?_) fun C=>Zh (Zag (fun D=>?_) fun D=>Zh (Zq (fun L=>?_) fun L=>?_))))
   ·have hc:c=34:=Zke (d:=34) C
    rw [if_pos hc] at j
    refine ZdW v fun E F m z5=>Zmp (g S m) fun M z=>?_
    exact U out A M (by rw [<- H];exact j) (w F z) (low ((I.trans (m.mono fun k _ f=> .inl f)).trans (z.mono fun k _ f=> .inr f)))
   all_goals have ae:c≠34:=ZkP (d:=34) C
   all_goals rw [if_neg ae] at j
   ·have hc:c=92:=Zke (d:=92) D
    rw [if_pos hc] at j
    refine ZdW v fun E F m z5=>?_
    have n:Upd (UB R i.size) h4 E:=m.mono fun k _ f=> .inl f
    refine ZtB F (g S m) B (by simp at n3;omega) (fun o r M ho N b6 z=>?_) fun e r M he z=>er (by rw [j,he];rfl) (n.trans z)
    have af:=ZqG ho
    have aE:=af.2.length_le
    simp only [Aqj] at n3
    refine ⟨⟨r,out++o,N,b6,tU (n.trans z),by rw [<- H,j,ho];rfl,by simp;omega,I.trans (n.trans z)⟩,?_⟩
    rw [v.left,N.left];simp;omega
   all_goals have ag:c≠92:=ZkP (d:=92) D
   all_goals rw [if_neg ag] at j
   ·rw [if_pos (by omega)] at j
    simp only [Aqj] at n3
    refine Zl5 S rfl (by omega) fun E b5 m=>?_
    have n:Upd (UB R i.size) h4 E:=m.mono fun k _ f=> .inr f
    refine ZdW (w v m) fun M N z z6=>?_
    have O:Upd (UB R i.size) E M:=z.mono fun k _ f=> .inl f
    refine ⟨⟨A,out++[c],N,g b5 z,tU (n.trans O),by rw [<- H,j],by simp;omega,I.trans (n.trans O)⟩,?_⟩
    rw [v.left,N.left];simp
   ·rw [if_neg (by omega)] at j
    simp only [Aqj] at n3
    refine ZvJ v S t3 (by simp) hR B (by omega) (fun x r E hx F b5 m=>?_) fun e r E he m=>er (by rw [j,he];rfl) m
    obtain ⟨⟨_,ai⟩,aj⟩:=ZiD hx
    obtain ⟨y,hy,ak⟩:=Zmr ai
    have al:x=y:=by rw [aj,hy,Zc0]
    subst al
    have hlen:=congrArg List.length hy
    simp only [Aqj,Awe] at hlen
    have aF:0<x.length:=by
      rcases x with _ | ⟨d,x⟩
      ·cases ak
      ·simp
    refine ⟨⟨r,out++x,F,b5,tU m,by rw [<- H,j,hx];rfl,by simp;omega,I.trans m⟩,?_⟩
    rw [v.left,F.left];simp;omega
  ·refine Zqb v (fun he=>⟨rfl,by simp [he]⟩) fun he=>Zh ⟨rfl,by simp [he]⟩
abbrev VT5:=Int × ByteArray × Sl × Sl × Unit
abbrev sV (t:BL):Value:= .string (Zj t)
def Xq (z:VT5):List Value:=[.int .u8 z.1,.string z.2.1,slV z.2.2.1,slV z.2.2.2.1]
def inS (S:Nat->Prop) (x:Sl):Prop:=x.len≠0->∀ b,x.blk=some b->S b
def XC (h:Zc) (S:Nat->Prop):JL->List Value->Prop
  | .nil,vs=>vs=[]
  | .cons k t ns sub rest,vs=>∃ (x y:Sl) (b a:List Value),vs=Xq ((k:Int),Zj t,x,y,())++a/\Row h y 1 (ns.map sV)/\inS S y/\Row h x 4 b/\inS S x/\XC h S sub b/\XC h S rest a
def ZaS (h:Zc) (S:Nat->Prop) (z:VT5) (v:JV):Prop :=
  z.1=v.k/\z.2.1=Zj v.t/\Row h z.2.2.2.1 1 (v.ns.map sV)/\inS S z.2.2.2.1/\∃ a,Row h z.2.2.1 4 a/\inS S z.2.2.1/\XC h S v.sub a
theorem inS.mono {S S':Nat->Prop} {x:Sl} (h:inS S x) (a:∀ b,S b->S' b):inS S' x:=fun c b d=>a b (h c b d)
theorem Ym {h h':Zc} {S:Nat->Prop} {x:Sl} {n:Nat} {vs:List Value} (c:Row h x n vs) (d:inS S x) (he:∀ b,S b->b<sz h->obj h' b=obj h b):Row h' x n vs:=by
  refine c.congr fun b o hp a e=>he b (d ?_ b (by simp [Sl.blk,hp])) e
  intro f
  exact a (c.nil_of f)
theorem XC.keep {h h':Zc} {S S':Nat->Prop} (he:∀ b,S b->b<sz h->obj h' b=obj h b) (i:∀ b,S b->S' b):∀ {l:JL} {vs:List Value},XC h S l vs->XC h' S' l vs
  | .nil,_,h=>h
  | .cons k t ns sub rest,vs,h=>by
    obtain ⟨x,y,m,j,e,a,b,c,d,f,g⟩:=h
    exact ⟨x,y,m,j,e,Ym a b he,b.mono i,Ym c d he,d.mono i,XC.keep he i f,XC.keep he i g⟩
theorem ZaS.keep {h h':Zc} {S S':Nat->Prop} {z:VT5} {v:JV} (j:ZaS h S z v) (he:∀ b,S b->b<sz h->obj h' b=obj h b) (i:∀ b,S b->S' b):ZaS h' S' z v:=by
  obtain ⟨a,b,c,d,k,e,f,g⟩:=j
  exact ⟨a,b,Ym c d he,d.mono i,k,Ym e f he,f.mono i,g.keep he i⟩
theorem XC.len {h:Zc} {S:Nat->Prop}:∀ {l:JL} {vs:List Value},XC h S l vs->vs.length=l.len*4
  | .nil,_,h=>by rw [show _=[] from h];rfl
  | .cons k t ns sub rest,vs,h=>by
    obtain ⟨x,y,j,i,e,a,b,c,d,f,g⟩:=h
    rw [e,Awe,XC.len g]
    simp [Xq,JL.len];omega
theorem XC.snoc {h:Zc} {S:Nat->Prop} {z:VT5} {v:JV} (m:ZaS h S z v):∀ {l:JL} {vs:List Value},XC h S l vs->XC h S (l.snoc v) (vs++Xq z)
  | .nil,_,h=>by
    rw [show _=[] from h]
    obtain ⟨a,b,c,d,i,e,f,g⟩:=m
    refine ⟨z.2.2.1,z.2.2.2.1,i,[],?_,c,d,e,f,g,rfl⟩
    simp [Xq,a,b]
  | .cons k t ns sub rest,vs,h=>by
    obtain ⟨x,y,i,j,e,a,b,c,d,f,g⟩:=h
    exact ⟨x,y,i,j++Xq z,by rw [e,Ayz],a,b,c,d,f,XC.snoc m g⟩
def PS (h:Zc) (b k:Nat) (ns:List BL) (sub:JL):Prop:=∃ (x y:Sl) (a:List Value),
  obj h b=some (.cells (Xq ((k:Int),Zj [],x,y,())).toArray 33 (0,0))/\Own h (b+1) x 4 a/\Own h (b+1) y 1 (ns.map sV) /\
    XC h (fun j=>b+1<=j/\j<sz h/\x.blk≠some j/\y.blk≠some j) sub a/\∀ j,x.blk=some j->y.blk≠some j
theorem PS.lt {h:Zc} {b k:Nat} {ns:List BL} {sub:JL} (p:PS h b k ns sub):b<sz h:=by
  obtain ⟨x,y,a,c,_⟩:=p
  exact ZaK c
theorem PS.upd {S:Nat->Prop} {h h':Zc} {b k:Nat} {ns:List BL} {sub:JL} (p:PS h b k ns sub) (u:Upd S h h') (e:∀ j,S j->j<b):PS h' b k ns sub:=by
  obtain ⟨x,y,f,c,g,i,l,ne⟩:=p
  have he:∀ j,b<=j->j<sz h->obj h' j=obj h j:=fun j r m=>Zt u m fun n=>by have:=e j n;omega
  have o:sz h<=sz h':=u.size
  refine ⟨x,y,f,(he b (Aqo _) (ZaK c)).trans c,g.congr fun j _ a q=>he j (by omega) a,i.congr fun j _ a q=>he j (by omega) a,l.keep (fun j d a=>he j (by omega) a) (fun j d=>⟨d.1,by omega,d.2.2⟩),ne⟩
theorem ZmX:∀ (vs:List Value) (o:Nat) (c:List Value),o+vs.length<=c.length->Zbi o vs c=c.take o++vs++c.drop (o+vs.length)
  | [],o,c,h=>by simp [Zbi]
  | v::vs,o,c,h=>by
    simp only [Aqj] at h
    unfold Zbi
    rw [ZmX vs (o+1) (c.set o v) (by simp;omega)]
    rw [Ayu,Ayv (by omega),Aqm (Aqo _),Aqn (by omega)]
    simp
    congr 1;omega
theorem ZcA (z:VT5):(Xq z).all Ye=true:=by simp [Xq,Ye,slV]
theorem ZzO {h:Zc} {b k:Nat} {ns:List BL} {sub:JL} {x y:Sl} {w:List Value} (c:obj h b=some (.cells (Xq ((k:Int),Zj [],x,y,())).toArray 33 (0,0)))
    (p:Own h (b+1) x 4 w) (oy:Own h (b+1) y 1 (ns.map sV)) (lr:XC h (fun j=>b+1<=j/\j<sz h/\x.blk≠some j/\y.blk≠some j) sub w) (ne:∀ j,x.blk=some j->y.blk≠some j)
    {z:VT5} {v:JV} {Se:Nat->Prop} (hv:ZaS h Se z v) (A:∀ j,Se j->b+1<=j/\j<sz h/\x.blk≠some j/\y.blk≠some j) (hs:sub.len<=100000) {K:HP}
    (hk:∀ h',PS h' b k ns (sub.snoc v)->Upd (fun j=>b<=j) h h'->K h') :
    Fw.app 33 4 72 zV x 1 zV h fun t48 B=>Zdb t48.ptr t48.len (x.len:Int) 4 fun C D=>Ze (At b) fun E F=>Zsx (
      sts B C D (Xq z) fun P=>st P E (F+2) (.slice t48.ptr t48.len t48.cap) K) (
      st B E (F+2) (.slice t48.ptr t48.len t48.cap) fun Q=>sts Q C D (Xq z) K):=by
  have hb:=ZaK c
  have aj:x.len=sub.len:=by have:=p.len;have:=lr.len;omega
  refine p.app rfl (by decide) rfl (by omega) (by omega) (by have:sz h=h.size:=rfl;omega) fun r i M l1 R T=>?_
  have ak:sz h<=sz i:=R.size
  rcases M.at_ with ⟨hp,h0⟩ | ⟨g,cs,e,hp,U,hg,G,V⟩
  ·exfalso;have:=M.cap;omega
  have d:r.blk=some g:=by simp [Sl.blk,hp]
  have s:obj i g=some (.cells cs.toList.toArray e (0,0)):=by
    have:cs.toList.toArray=cs:=by simp
    rw [this];exact hg
  have H:=M.cap
  have W:cs.toList.length=r.cap*4:=by rw [Awa];exact G
  have l:x.blk=some g\/sz h<=g:=by
    rcases T with a | a
    ·left;rw [<- a,d]
    ·right;rw [d] at a;cases a;exact Aqo _
  have X:y.blk≠some g:=by
    rcases l with a | a
    ·exact ne g a
    ·intro I
     have:=(oy.lt I).2
     have:sz h=h.size:=rfl
     omega
  have c1:obj i b=some (.cells (Xq ((k:Int),Zj [],x,y,())).toArray 33 (0,0)):=ZG c R fun a=>by have:=(p.lt a).1;omega
  have m:g≠b:=by omega
  have hle:x.len*4+(Xq z).length<=cs.toList.length:=by rw [W];simp [Xq];omega
  have fin:∀ h',obj h' g=some (.cells (Zbi (0+x.len*4) (Xq z) cs.toList).toArray e (0,0))->obj h' b=some (.cells (Xq ((k:Int),Zj [],r,y,())).toArray 33 (0,0)) ->
      (∀ j,j≠g->j≠b->obj h' j=obj i j)->sz h'=sz i->K h':=by
    intro h' eg eb ej es
    have hold:∀ j,j<sz h->j≠b->x.blk≠some j->obj h' j=obj h j:=fun j f Y J=>by
      rw [ej j (by rintro rfl;rcases l with a | a;exact J a;omega) Y]
      exact Zt R f J
    have Z:w++Xq z=(Zbi (0+x.len*4) (Xq z) cs.toList).take (r.len*4):=by
      rw [Awb,ZmX _ _ _ hle,Awc (by simp [Xq];omega),Awd (by simp [Xq];omega)]
      congr 1
      have:=congrArg (fun q=>q.take (x.len*4)) V
      simp only [List.take_take,show min (x.len*4) (r.len*4)=x.len*4 by omega] at this
      rw [<- this,Awc (by have:=p.len;omega),Awd (by have:=p.len;omega)]
    refine hk h' ⟨r,y,w++Xq z,eb,⟨?_,H,M.big,.inr ⟨g,_,e,hp,U,eg,?_,?_⟩⟩,?_,?_,?_⟩ ⟨by have:sz h'=h'.size:=rfl;have:sz h=h.size:=rfl;omega,fun j f aa=>hold j f (by omega) fun a=>by have:=(p.lt a).1;omega⟩
    ·have:=p.len;simp [Xq];omega
    ·simp [ZgF,G]
    ·simpa using Z
    ·exact oy.congr fun j f o aa=>hold j o (by omega) fun a=>ne j a f
    ·have i:XC h' (fun j=>b+1<=j/\j<sz h'/\r.blk≠some j/\y.blk≠some j) sub w:=lr.keep (fun j f o=>hold j o (by omega) f.2.2.1) fun j f=>⟨f.1,by omega,by
       rw [d];rintro a;cases a
       rcases l with a | a
       ·exact f.2.2.1 a
       ·omega,f.2.2.2⟩
     refine i.snoc (hv.keep (fun j f o=>?_) fun j f=>?_)
     ·have:=A j f
      exact hold j o (by omega) this.2.2.1
     ·have:=A j f
      refine ⟨this.1,by omega,?_,this.2.2.2⟩
      rw [d];rintro a;cases a
      rcases l with a | a
      ·exact this.2.2.1 a
      ·omega
    ·intro j f
     rw [d] at f;cases f
     exact X
  rw [hp]
  refine Zm7 (n:=x.len) rfl (by omega) ?_
  refine Zo ⟨?_,?_⟩
  ·rw [Zro (by rw [s,Zgj];simp [Xq];omega) (ZcA z)]
   have c2:obj (i.puts g (0+x.len*4) (Xq z)) b=some (.cells (Xq ((k:Int),Zj [],x,y,())).toArray 33 (0,0)):=by rw [Zec,if_neg (Ne.symm m)];exact c1
   refine Zk2 c2 (by simp [Xq]) ZrG fun N c9 u9 z9=>fin N ?_ (by rw [c9];simp [Xq,slV,hp]) (fun j t u=>?_) (by rw [z9,Zio])
   ·rw [ZG (S:=(· = b)) (x:= .cells (Zbi (0+x.len*4) (Xq z) cs.toList).toArray e (0,0)) (by rw [Zec,if_pos rfl,s,ZbJ]) u9 m]
   ·by_cases o:j<sz i
    ·rw [Zt u9 (by rw [Zio];exact o) u,Zec,if_neg t]
    ·have a:obj i j=none:=Aqe (by have:sz i=i.size:=rfl;omega)
     have I:obj N j=none:=Aqe (by have:sz N=N.size:=rfl;rw [<- this,z9,Zio];omega)
     rw [a,I]
  ·refine Zk2 c1 (by simp [Xq]) ZrG fun O c8 u8 z8=>?_
   have L:obj O g=some (.cells cs.toList.toArray e (0,0)):=ZG s u8 m
   rw [Zro (by rw [L,Zgj];simp [Xq];omega) (ZcA z)]
   refine fin _ (by rw [Zec,if_pos rfl,L,ZbJ]) (by rw [Zec,if_neg (Ne.symm m),c8];simp [Xq,slV,hp]) (fun j t u=>?_) (by rw [Zio,z8])
   rw [Zec,if_neg t]
   by_cases o:j<sz i
   ·exact Zt u8 o u
   ·have a:obj i j=none:=Aqe (by have:sz i=i.size:=rfl;omega)
    have I:obj O j=none:=Aqe (by have:sz O=O.size:=rfl;rw [<- this,z8];omega)
    rw [a,I]
theorem ZBQ {h:Zc} {b k:Nat} {ns:List BL} {sub:JL} {x y:Sl} {n:List Value} (c:obj h b=some (.cells (Xq ((k:Int),Zj [],x,y,())).toArray 33 (0,0)))
    (w:Own h (b+1) x 4 n) (l:Own h (b+1) y 1 (ns.map sV)) (C:XC h (fun j=>b+1<=j/\j<sz h/\x.blk≠some j/\y.blk≠some j) sub n) (ne:∀ j,x.blk=some j->y.blk≠some j)
    {t:BL} (I:ns.length<=100000) {K:HP} (D:∀ h',PS h' b k (ns++[t]) sub->Upd (fun j=>b<=j) h h'->K h') :
    Fw.app 9 1 16 [.string (ByteArray.mk #[])] y 1 [sV t] h fun t18 o=>Ze (At b) fun p q=>st o p (q+3) (.slice t18.ptr t18.len t18.cap) K:=by
  have J:=ZaK c
  have E:y.len=ns.length:=by have:=l.len;simp at this;omega
  refine l.app rfl (by simp [Ye]) rfl (by omega) (by omega) (by have:sz h=h.size:=rfl;omega) fun z A F L r s=>?_
  have G:sz h<=sz A:=r.size
  have H:obj A b=some (.cells (Xq ((k:Int),Zj [],x,y,())).toArray 33 (0,0)):=ZG c r fun d=>by have:=(l.lt d).1;omega
  refine Zo (Zk2 H (by simp [Xq]) ZrG fun m c9 B z9=>?_)
  have hold:∀ j,j<sz h->j≠b->y.blk≠some j->obj m j=obj h j:=fun j a u v=>(Zt B (by omega) u).trans (Zt r a v)
  have e:∀ j,z.blk=some j->y.blk=some j\/sz h<=j:=fun j a=>by
    rcases s with d | d
    ·left;rw [<- d,a]
    ·right;rw [a] at d;cases d;exact Aqo _
  refine D m ⟨x,z,n,c9,?_,?_,?_,?_⟩ ⟨by have:sz m=m.size:=rfl;have:sz h=h.size:=rfl;omega,fun j a f=>hold j a (by omega) fun d=>by have:=(l.lt d).1;omega⟩
  ·exact w.congr fun j a g f=>hold j g (by omega) (ne j a)
  ·have:(ns++[t]).map sV=ns.map sV++[sV t]:=by simp
   rw [this]
   exact F.congr fun j _ g f=>Zt B g (by omega)
  ·refine C.keep (fun j a g=>hold j g (by omega) a.2.2.2) fun j a=>⟨a.1,by omega,a.2.2.1,fun d=>?_⟩
   rcases e j d with i | i
   ·exact a.2.2.2 i
   ·omega
  ·intro j a d
   rcases e j d with i | i
   ·exact ne j a i
   ·have:=(w.lt a).2
    have:sz h=h.size:=rfl
    omega
def ZqU (f:Zpv) (a:BL->Out JV) (deep:Int):Prop:=∀ (h:Zc) (R:Nat) (s:ByteArray) (l:BL) (K:VT5->HP) (P:Value->HP),Rd h R s l->ZaT h->9<=R ->
  (∀ v r z h',a l = .ok v r->Rd h' R s r->Upd (· = R) h h'->ZaS h' (fun j=>sz h<=j/\j<sz h') z v->K z h')->OnE h R s (· = R) (a l) P->f (At R) deep K P h
theorem Zkd {S:Nat->Prop} {h h':Zc} (u:Upd S h h'):sz h<=sz h':=u.size
theorem ZdD {h:Zc} {b o:Nat} {v:Value} {K:Prop} (a:ZbK o (obj h b)=some v) (c:K):Y9 (Yb h [(b,o,v)]) K:=by
  refine ⟨⟨?_,trivial⟩,c⟩
  rw [Zai];exact a
theorem Zjm {h:Zc} {b n size:Nat} {l:List Value} {t:TypeId} {f:Nat × Nat} {K:List Value->Prop} (c:obj h b=some (.cells l.toArray t f)) (a:l.length=n*size) (d:K l):rdS ⟨some ⟨b,0,none⟩,n,n⟩ size h K :=
  .inr ⟨b,0,l,rfl,a,ZdE c (fun i v e=>by simpa using e),d⟩
theorem Zyh {f20:Zpv} {F:BL->Out JV} {deep:Int} (hf:ZqU f20 F deep) {ob:Bool} {k:Nat} (G:k=if ob then 7 else 6) {h:Zc} {R b:Nat} {s:ByteArray} {l:BL} {ns:List BL} {sub:JL} (hr:Rd h R s l) (ht:ZaT h) (hR:9<=R) (ar:R<b)
    (ps:PS h b k ns sub) (hn:ns.length<=100000) (hs:sub.len<=100000) {K:HP} {P:Value->HP}
    (au:∀ p r h',Zb2 F ob ns sub l = .ok p r->Rd h' R s r->PS h' b k p.1 p.2->Upd (UB R b) h h'->K h') (i:OnE h R s (UB R b) (Zb2 F ob ns sub l) P):Za2 f20 (At R) (At b) deep K P h:=by
  unfold Za2 Zer
  have w:∀ {a c:Zc},Upd (· = R) a c->Upd (UB R b) a c:=fun u=>u.mono fun k _ G=> .inl G
  have uB:∀ {a c:Zc},Upd (fun k=>b<=k) a c->Upd (UB R b) a c:=fun u=>u.mono fun k _ G=> .inr G
  have tU:∀ {a c:Zc},ZaT a->Upd (UB R b) a c->ZaT c:=fun t u=>t.upd u fun k G=>by rcases G with rfl | G<;>omega
  have A:∀ {a c:Zc} {ns:List BL} {sub:JL},PS a b k ns sub->Upd (· = R) a c->PS c b k ns sub:=fun p u=>p.upd u fun j g=>by subst g;exact ar
  refine ZeR hr fun h1 W S z1=>?_
  have H:=A ps S
  have t1:=tU ht (w S)
  refine ZO (fun _ h'=>∃ l' ns',Rd h' R s l'/\PS h' b k ns' sub/\ZaT h'/\Upd (UB R b) h h'/\Zb2 F ob ns sub l=(F l').bind fun v l4=> .ok (ns',sub.snoc v) (X9 l4)) ?_ ?_
  ·rintro ⟨⟩ n ⟨T,bf,r2,p2,t2,u2,q2⟩
   obtain ⟨x,y,cx,c,ox,oy,lr,ne⟩:=id p2
   have ay:=p2.lt
   have er:∀ {a:Zc} (ua:Upd (UB R b) h a),OnE a R s (· = R) (F T) P:=fun ua e r h' he u'=>i e r h' (by rw [q2,he];rfl) (ua.trans (w u'))
   have put:∀ {v r z} {o m I:Zc},F T = .ok v r->Ext n o->Upd (· = R) o m->Rd m R s r->ZaS m (fun j=>sz o<=j/\j<sz m) z v->Ext m I ->
       Fw.app 33 4 72 zV x 1 zV I fun t48 X=>Zdb t48.ptr t48.len (x.len:Int) 4 fun Y Z=>Ze (At b) fun aa ab=>Zsx (
         sts X Y Z (Xq z) fun az=>st az aa (ab+2) (.slice t48.ptr t48.len t48.cap) fun aA=>Z7 (At R) (fun aB=>K aB) aA) (
         st X aa (ab+2) (.slice t48.ptr t48.len t48.cap) fun aC=>sts aC Y Z (Xq z) fun aD=>Z7 (At R) (fun aE=>K aE) aD):=by
     intro v r z o m I U D E r4 v4 J
     have s3:sz n<=sz o:=D.size
     have s4:sz o<=sz m:=E.size
     have s5:sz m<=sz I:=J.size
     have old:∀ j,b<=j->j<sz n->obj I j=obj n j:=fun j g f=>by
       rw [Zu J (by omega),Zt E (by omega) (by omega),Zu D f]
     have lx:∀ j,x.blk=some j->j<sz n:=fun j e=>(ox.lt e).2
     have ly:∀ j,y.blk=some j->j<sz n:=fun j e=>(oy.lt e).2
     refine ZzO ((old b (Aqo _) ay).trans c) (ox.congr fun j _ f M=>old j (by omega) f) (oy.congr fun j _ f M=>old j (by omega) f)
       (lr.keep (fun j g f=>old j (by omega) f) fun j g=>⟨g.1,by omega,g.2.2⟩) ne (Se:=fun j=>sz o<=j/\j<sz m) (v4.keep (fun j g f=>Zu J f) fun j g=>g)
       (fun j g=>⟨by omega,by omega,fun e=>by have:=lx j e;omega,fun e=>by have:=ly j e;omega⟩) hs fun h6 p6 u6=>?_
     have V:Rd h6 R s r:=(r4.ext J).upd u6 (by omega)
     refine ZeR V fun h7 r7 u7 z7=>au _ _ h7 (by rw [q2,U];rfl) r7 (A p6 u7) ?_
     exact (((u2.trans (D.upd _)).trans (w E)).trans (J.upd _)).trans ((uB u6).trans (w u7))
   have bR:¬ b=R:=by omega
   refine Zo (rL (s:=x) (Zb c rfl) ⟨?_,?_⟩)
   ·refine hf n R s T _ P r2 t2 hR (fun v r z m hv r4 E v4=>?_) (er u2)
    have c4:=ZG c E bR
    refine ZdD (Zb c4 rfl) (YZ fun I c5 J z5=>ZdD (Zb (Zn c4 J) rfl) ?_)
    refine Zjm c5 rfl ?_
    exact put hv (Ext.refl _) E r4 v4 J
   ·refine YZ fun o c3 D z3=>ZdD (Zb (Zn c D) rfl) ?_
    refine hf o R s T _ P (r2.ext D) (t2.ext D) hR (fun v r z m hv r4 E v4=>?_) (er (u2.trans (D.upd _)))
    have c4:=ZG (Zn c D) E bR
    have aH:=ZG c3 E (show ¬ n.size=R by have:sz n=n.size:=rfl;omega)
    refine ZdD (Zb c4 rfl) ?_
    refine Zjm aH rfl ?_
    exact put hv D E r4 v4 (Ext.refl _)
  ·
   obtain ⟨x,y,cx,c,ox,oy,lr,ne⟩:=id H
   have aI:=H.lt
   refine Zo (rI (Zb c rfl) ?_)
   cases ob with
   | false =>
     have aJ:k=6:=G
     refine Zl (by rw [aJ];rfl) ⟨X9 l,ns,W,H,t1,w S,rfl⟩
   | true =>
     have aK:k=7:=G
     have U:Zb2 F true ns sub l=(ZhL l).bind fun nm l3=>(F l3).bind fun v l4=> .ok (ns++[nm],sub.snoc v) (X9 l4):=rfl
     refine Zm (by rw [aK];rfl) ?_
     refine ZO (fun _ h'=>h'=h1/\∃ N,X9 l=34::N) ?_ ?_
     ·rintro ⟨⟩ n ⟨rfl,N,e1⟩
      rw [e1] at W
      have O:ZhL l=(ZnJ N).bind fun nm T=>match X9 T with
          | d::l3=>if d=58 then .ok nm l3 else .err 20 (d::l3)
          | []=> .err 24 []:=by unfold ZhL;rw [e1];rfl
      have bR:¬ b=R:=by omega
      refine Zo (rL (s:=y) (Zb c rfl) ?_)
      refine Zrl W t1 hR (fun t r o ag r3 L=>?_) fun e r o he L=>i e r o (by rw [U,O,he];rfl) (w (S.trans L))
      have c3:=ZG c L bR
      refine ZdD (Zb c3 rfl) (YZ fun m c4 e4 z4=>ZdD (Zb (Zn c3 e4) rfl) ?_)
      refine Zjm c4 rfl ?_
      have bs:=A H L
      have old:∀ j,b<=j->j<sz n->obj m j=obj n j:=fun j g f=>by
        have:=Zkd L
        rw [Zu e4 (by omega),Zt L f (by omega)]
      have s3:=Zkd L
      have s4:sz o<=sz m:=e4.size
      refine ZBQ ((old b (Aqo _) aI).trans c) (ox.congr fun j _ f M=>old j (by omega) f) (oy.congr fun j _ f M=>old j (by omega) f)
        (lr.keep (fun j g f=>old j (by omega) f) fun j g=>⟨g.1,by omega,g.2.2⟩) ne hn fun I p5 u5=>?_
      have r5:Rd I R s r:=(r3.ext e4).upd u5 (by omega)
      refine ZeR r5 fun h6 V u6 z6=>?_
      have p6:=A p5 u6
      have u16:Upd (UB R b) h h6:=(((w S).trans (w L)).trans (e4.upd _)).trans ((uB u5).trans (w u6))
      refine ZO (fun _ h'=>h'=h6/\∃ Q,X9 r=58::Q) ?_ ?_
      ·rintro ⟨⟩ h7 ⟨rfl,Q,e7⟩
       rw [e7] at V
       refine ZdW V fun h8 r8 u8 z8=>⟨Q,ns++[t],r8,A p6 u8,tU ht (u16.trans (w u8)),u16.trans (w u8),?_⟩
       rw [U,O,ag]
       simp only [Out.bind_ok,e7,↓reduceIte]
      ·refine Zao V (Zkw 58 (fun B=>ZbX (α:=BL) V rfl fun e' q he aM=>i e' q h6 ?_ u16) fun Q e7=>⟨rfl,Q,e7⟩)
       rw [U,O,ag]
       simp only [Out.bind_ok]
       cases C:X9 r with
       | nil=>rw [C] at he;cases he;rfl
       | cons d Q =>
         rw [C] at he B
         simp only
         rw [if_neg (B d Q rfl)]
         cases he;rfl
     ·refine Zao W (Zkw 34 (fun B=>ZbX (α:=BL) W rfl fun e' q he aM=>i e' q h1 ?_ (w S)) fun N e1=>⟨rfl,N,e1⟩)
      rw [U]
      unfold ZhL
      cases C:X9 l with
      | nil=>rw [C] at he;cases he;rfl
      | cons d N =>
        rw [C] at he B
        simp only
        rw [if_neg (B d N rfl)]
        cases he;rfl
theorem ZED {a:BL->Out JV} (b:Js.Good false a) (d:St 1 a) (ob:Bool) (c:UInt8) (l:BL):Zqi a ob (c::l)=(L a ob [] .nil (X9 l)).bind fun p r=> .ok ⟨if ob then 7 else 6,[],p.1,p.2⟩ r:=Zqh b d ob c l
theorem ZrY {l:JL}:l.isNil=true↔l.len=0:=by cases l<;>simp [JL.isNil,JL.len]
theorem PS.xlen {h:Zc} {b k:Nat} {ns:List BL} {sub:JL} (p:PS h b k ns sub) {K:Sl->Prop} (a:∀ x:Sl,x.len=sub.len->K x):ldL h b (0+2) K:=by
  obtain ⟨x,y,f,c,d,g,e,ne⟩:=p
  exact rL (s:=x) (Zb c rfl) (a x (by have:=d.len;have:=e.len;omega))
theorem Zv3 {f20:Zpv} {k e:Int} {h:Zc} {R:Nat} {s:ByteArray} {l:BL} (c:Rd h R s l) {K:VT5->HP} {P:Value->HP} (a:OnE h R s (· = R) (ZaW 23 l:Out JV) P):Xe f20 (At R) k e 64 K P h:=by
  unfold Xe ZbW
  refine YZ fun d i b j=>ZO (fun _ _=>False) (fun _ _ h=>h.elim) (Zm (by decide) ?_)
  exact ZbX (α:=JV) (c.ext b) rfl fun f r he g=>a f r d he (b.upd _)
theorem Zv2 {f20:Zpv} {g:BL->Out JV} (Y:Js.Good false g) (G:St 1 g) (h0:g [] = .err 24 []) {deep:Nat} (hd:deep<64) (hf:ZqU f20 g ((deep+1:Nat):Int)) {ob:Bool} {h:Zc} {R:Nat} {s:ByteArray} {c0:UInt8} {l:BL} (Z:Rd h R s (c0::l)) (ht:ZaT h) (hR:9<=R)
    {k e:Int} (hk:k=if ob then 7 else 6) (he:e=(Zh4 ob).toNat) {K:VT5->HP} {P:Value->HP}
    (O:∀ v r z h',Zqi g ob (c0::l) = .ok v r->Rd h' R s r->Upd (· = R) h h'->ZaS h' (fun j=>sz h<=j/\j<sz h') z v->K z h') (D:OnE h R s (· = R) (Zqi g ob (c0::l)) P):Xe f20 (At R) k e (deep:Int) K P h:=by
  unfold Xe ZbW
  have ab:=Z.len
  have aK:=Z.lt
  have az:sz h=h.size:=rfl
  rw [ZED Y G] at O D
  refine YZ fun h1 c1 e1 z1=>?_
  refine ZO (fun _ h'=>h'=h1) ?_ (Zl (by simp;omega) rfl)
  rintro ⟨⟩ h2 rfl
  refine ZdW (Z.ext e1) fun d r3 u3 z3=>YZ fun Q c4 e4 z4=>?_
  have ad:sz d=d.size:=rfl
  have hb:d.size=h.size+1:=by rw [<- ad,z3];exact z1
  have w:R<d.size:=by omega
  rw [Zro (by rw [show obj Q d.size=_ from c4,Zgj];rfl) (by simp [Ye])]
  have S:PS (Q.puts d.size 0 [.int .u8 k,.string (ByteArray.mk #[]),.slice none 0 0,.slice none 0 0]) d.size (if ob then 7 else 6) [] .nil:=by
    refine ⟨⟨none,0,0⟩,⟨none,0,0⟩,[],?_,Own.nil _ _ _,Own.nil _ _ _,rfl,fun j b=>by cases b⟩
    rw [Zec,if_pos rfl,show obj Q d.size=_ from c4,ZbJ,hk]
    cases ob<;>rfl
  have u5:=Upd.puts Q d.size 0 [.int .u8 k,.string (ByteArray.mk #[]),.slice none 0 0,.slice none 0 0]
  generalize Q.puts d.size 0 [.int .u8 k,.string (ByteArray.mk #[]),.slice none 0 0,.slice none 0 0]=h5 at S u5 ⊢
  have r5:Rd h5 R s l:=(r3.ext e4).upd u5 (by omega)
  have low:∀ {a:Zc},Upd (UB R d.size) d a->Upd (· = R) h a:=fun {a} u=>UT (UN e1 u3) u fun j b=>by
    rcases b with rfl | b
    ·exact .inl rfl
    ·right;omega
  have T:Upd (UB R d.size) d h5:=(e4.upd _).trans (u5.mono fun j _ b=>by subst b;exact .inr (Aqo _))
  have t5:ZaT h5:=ht.upd (low T) fun j b=>by subst b;exact hR
  refine ZeR r5 fun h6 r6 u6 z6=>?_
  have p6:=S.upd u6 fun j b=>by subst b;exact w
  have ah:Upd (UB R d.size) d h6:=T.trans (u6.mono fun j _ b=> .inl b)
  have t6:ZaT h6:=t5.upd u6 fun j b=>by subst b;exact hR
  have ai:∀ {a:Zc},Upd (UB R d.size) d a->obj a h.size=some (.cells zV.toArray 33 (0,0)):=fun {a} u=>by
    have c3:obj d h.size=some (.cells zV.toArray 33 (0,0)):=ZG c1 u3 (by omega)
    exact ZG c3 u (by omega)
  have aS:=ZbI l
  refine Zv (fun _ h'=>∃ (l':BL) (ns:List BL) (sub:JL),Rd h' R s l'/\PS h' d.size (if ob then 7 else 6) ns sub/\ZaT h'/\L g ob ns sub l'=L g ob [] .nil (X9 l)/\sub.len+l'.length<=65536/\ns.length<=sub.len/\Upd (UB R d.size) d h') (fun _ h'=>left h' R)
    ⟨X9 l,[],.nil,r6,p6,t6,rfl,by simp [JL.len] at ab ⊢;omega,Aqo _,ah⟩ ?_
  rintro ⟨⟩ W ⟨A,ns,sub,E,X,t7,q7,n7,m7,u7⟩
  have tU:∀ {c:Zc},Upd (UB R d.size) W c->ZaT c:=fun u=>t7.upd u fun j b=>by rcases b with rfl | b<;>omega
  have er:∀ {e:Nat} {r:BL} {h':Zc},L g ob ns sub A = .err e r->Upd (UB R d.size) W h'->P (Zgw e (s.size - r.length)) h':=fun he u=>D _ _ _ (by rw [<- q7,he];rfl) (low (u7.trans u))
  have B:=ZFw Y G h0 ob ns sub
  refine ZO (fun _ h'=>h'=W/\Zie (Zh4 ob) A=false) ?_ ?_
  ·rintro ⟨⟩ o ⟨rfl,U⟩
   refine ZO (fun _ h'=>∃ f,Rd h' R s f/\PS h' d.size (if ob then 7 else 6) ns sub/\ZaT h'/\Upd (UB R d.size) o h'/\f.length<=A.length/\L g ob ns sub A=(Zb2 g ob ns sub f).bind fun p=>L g ob p.1 p.2) ?_ ?_
   ·rintro ⟨⟩ V ⟨f,r9,p9,t9,H,aV,q9⟩
    rw [YA (by omega) (by omega)]
    refine Zyh (deep:=((deep+1:Nat):Int)) hf (ob:=ob) rfl r9 t9 hR w p9 (by omega) (by omega) (fun p r I hp C an i=>?_) fun e' r I hp i=>er (by rw [q9,hp];rfl) (H.trans i)
    have aX:=(Zea Y G ob ns sub).2.len hp
    have aY:p.2.len=sub.len+1/\p.1.length<=ns.length+1:=by
      unfold Zb2 at hp
      split at hp
      ·obtain ⟨nm,l3,a1,a2⟩:=Yh hp
       obtain ⟨v,l4,a3,a4⟩:=Yh a2
       cases a4
       exact ⟨JL.len_snoc v sub,by simp⟩
      ·obtain ⟨v,l4,a3,a4⟩:=Yh hp
       cases a4
       exact ⟨JL.len_snoc v sub,by simp⟩
    refine ⟨⟨r,p.1,p.2,C,an,tU (H.trans i),?_,by omega,by omega,u7.trans (H.trans i)⟩,?_⟩
    ·rw [<- q7,q9,hp];rfl
    ·rw [E.left,C.left];omega
   ·refine X.xlen fun x hx=>Zq (fun ba=>?_) fun hle=>?_
    ·have n:sub.isNil=false:=by
       cases hs:sub.isNil with
       | false=>rfl
       | true=>have:=ZrY.1 hs;omega
     refine ZO (fun _ h'=>h'=o/\∃ f,A=44::f) ?_ ?_
     ·rintro ⟨⟩ V ⟨rfl,f,rfl⟩
      refine ZdW E fun I C i bd=>?_
      have F:Upd (UB R d.size) V I:=i.mono fun j _ b=> .inl b
      refine ⟨f,C,X.upd i fun j b=>by subst b;exact w,tU F,F,by simp,?_⟩
      rw [B]
      show lF g ob ns sub 44 (44::f)=_
      unfold lF
      rw [if_neg (by cases ob<;>decide),if_neg (by simp [n]),if_pos rfl];rfl
     ·refine Zao E (Zkw 44 (fun hn=>ZbX (α:=List BL × JL) E rfl fun e' q hq bf=>er (h':=o) ?_ (Upd.refl _ _)) fun f e9=>⟨rfl,f,e9⟩)
      rw [B,<- hq]
      rcases A with _ | ⟨c,f⟩
      ·rfl
      ·show lF g ob ns sub c (c::f)=_
       have au:=hn c f rfl
       have t:c≠Zh4 ob:=by simpa [Zie] using U
       unfold lF
       rw [if_neg t,if_neg (by simp [n]),if_neg au]
    ·have n:sub.isNil=true:=ZrY.2 (by omega)
     refine ⟨A,E,X,t7,Upd.refl _ _,Aqo _,?_⟩
     rw [B]
     rcases A with _ | ⟨c,f⟩
     ·show Out.err 24 []=_
      rw [Zqe h0];rfl
     ·show lF g ob ns sub c (c::f)=_
      have t:c≠Zh4 ob:=by simpa [Zie] using U
      unfold lF
      rw [if_neg t,if_pos n]
  ·refine ZGQ E ?_
   have J:0<(Zh4 ob).toNat:=by cases ob<;>decide
   refine Zkw (Zh4 ob) (fun hn=>⟨rfl,?_⟩) (fun f e9=>?_) he J
   ·rcases A with _ | ⟨c,f⟩
    ·rfl
    ·simp only [Zie,beq_eq_false_iff_ne,ne_eq];exact hn c f rfl
   ·subst e9
    refine Zqb E (fun h=>by cases h) fun _=>ZdW E fun o r8 u8 z8=>?_
    have av:Upd (UB R d.size) W o:=u8.mono fun j _ b=> .inl b
    have p8:=X.upd u8 fun j b=>by subst b;exact w
    have M:=u7.trans av
    obtain ⟨x,y,cx,c,ox,oy,lr,ne⟩:=id p8
    refine rI (Zb c rfl) (rS (Zb c rfl) (rL (s:=x) (Zb c rfl) (rL (s:=y) (Zb c rfl) ?_)))
    refine ZbF (x:=x) (y:=y) (ai M) rfl fun V H z9=>?_
    have hq:L g ob [] .nil (X9 l) = .ok (ns,sub) f:=by
      rw [<- q7,B]
      show lF g ob ns sub (Zh4 ob) (Zh4 ob::f)=_
      unfold lF
      rw [if_pos rfl];rfl
    have m:∀ j,d.size<=j->j<sz o->obj V j=obj o j:=fun j b N=>Zt H N (by omega)
    refine O ⟨if ob then 7 else 6,[],ns,sub⟩ f _ V (by rw [hq];rfl) (r8.upd H (by omega)) (UT (low M) H fun j b=>by right;omega) ?_
    have bm:sz d<=sz o:=Zkd M
    refine ⟨?_,rfl,?_,?_,cx,?_,?_,?_⟩
    ·cases ob<;>rfl
    ·exact (oy.congr fun j _ N aw=>m j (by omega) N).row
    ·intro _ j b;have:=oy.lt b;have ax:sz o=o.size:=rfl;exact ⟨by omega,by omega⟩
    ·exact (ox.congr fun j _ N aw=>m j (by omega) N).row
    ·intro _ j b;have:=ox.lt b;have ax:sz o=o.size:=rfl;exact ⟨by omega,by omega⟩
    ·exact lr.keep (fun j b N=>m j (by omega) N) fun j b=>⟨by omega,by omega⟩
def opN:Nat->Bool->BL->Out JV
  | 0=>fun _ l=>ZaW 23 l
  | m+1=>Zqi (Y2 m)
theorem Zra (n:Nat):Y2 n=Zgx (opN n):=by cases n<;>rfl
theorem ZAs (n:Nat) {l:BL} {c:UInt8} {a:BL} (e:X9 l=c::a):Y2 n l =
    if c=123 then opN n true (c::a)
    else if c=91 then opN n false (c::a)
    else if c=34 then (ZnJ a).bind fun t r=> .ok ⟨5,t,[],.nil⟩ r
    else if c=110 then (Zgr [110,117,108,108] (c::a)).bind fun _ r=> .ok ⟨1,[],[],.nil⟩ r
    else if c=102 then (Zgr [102,97,108,115,101] (c::a)).bind fun _ r=> .ok ⟨2,[],[],.nil⟩ r
    else if c=116 then (Zgr [116,114,117,101] (c::a)).bind fun _ r=> .ok ⟨3,[],[],.nil⟩ r
    else if c=45\/ZbS c then (Zih (c::a)).bind fun _ r=> .ok ⟨4,upto (c::a) r,[],.nil⟩ r
    else .err 20 (c::a):=by
  rw [Zra]
  unfold Zgx
  rw [e]
theorem ZaS.plain (h:Zc) (S:Nat->Prop) (k:Nat) (t:BL):ZaS h S ((k:Int),Zj t,⟨none,0,0⟩,⟨none,0,0⟩,()) ⟨k,t,[],.nil⟩ :=
  ⟨rfl,rfl,Row.nil _ _,fun h=>absurd rfl h,[],Row.nil _ _,fun h=>absurd rfl h,rfl⟩
theorem Zo5 {c:UInt8} {l:BL} {n:Int} {K:Bool->Prop} (a:K (decide ((c.toNat:Int)=n))):Yq (Zce (c::l) ==n) K:=by
  have:(Zce (c::l) ==n)=decide ((c.toNat:Int)=n):=by
    by_cases h:(c.toNat:Int)=n
    ·rw [decide_eq_true h];exact beq_iff_eq.2 h
    ·rw [decide_eq_false h];exact beq_eq_false_iff_ne.2 h
  rw [this];exact a
def ZzX (f20:Zpv) (n:Nat) (deep:Int):Prop:=∀ (ob:Bool) (k e:Int) (h:Zc) (R:Nat) (s:ByteArray) (c0:UInt8) (l:BL) (K:VT5->HP) (P:Value->HP),(k=if ob then 7 else 6)->e=(Zh4 ob).toNat->Rd h R s (c0::l)->ZaT h->9<=R ->
  (∀ v r z h',opN n ob (c0::l) = .ok v r->Rd h' R s r->Upd (· = R) h h'->ZaS h' (fun j=>sz h<=j/\j<sz h') z v->K z h')->OnE h R s (· = R) (opN n ob (c0::l)) P->Xe f20 (At R) k e deep K P h
theorem Zog {f20:Zpv} {n:Nat} {deep:Int} (hp:ZzX f20 n deep):ZqU (ZbM f20) (Y2 n) deep:=by
  intro h R s l K P hr ht N Q L
  unfold ZbM ZdP
  have ad:=hr.lt
  have ab:sz h=h.size:=rfl
  refine YZ fun h1 c1 S z1=>?_
  refine ZeR (hr.ext S) fun w o T z2=>?_
  have F:ZaT w:=(ht.ext S).upd T fun j O=>by subst O;exact N
  have ag:sz w=h.size+1:=by rw [z2];exact z1
  have low:∀ {a:Zc},Upd (· = R) w a->Upd (· = R) h a:=fun u=>UN S (T.trans u)
  have cb:∀ {a:Zc},Upd (· = R) w a->obj a h.size=some (.cells zV.toArray 33 (0,0)):=fun u=>ZG c1 (T.trans u) (by omega)
  have fin:∀ {v:JV} {r:BL} {z:VT5} {i:Zc},Y2 n l = .ok v r->Rd i R s r->Upd (· = R) w i->ZaS i (fun j=>sz w<=j/\j<sz i) z v ->
      sts i h.size 0 [.int .u8 z.1,.string z.2.1,.slice z.2.2.1.ptr z.2.2.1.len z.2.2.1.cap,.slice z.2.2.2.1.ptr z.2.2.2.1.len z.2.2.2.1.cap] fun g =>
        ldI g h.size 0 .u8 fun t84=>ldS g h.size (0+1) fun t85=>ldL g h.size (0+2) fun t86=>ldL g h.size (0+3) fun t87=>K (t84,t85,t86,t87,()) g:=fun {v r z i} k m b v4=>by
    refine ZbF (x:=z.2.2.1) (y:=z.2.2.2.1) (cb b) rfl fun h5 U z5=>?_
    have s4:=Zkd b
    exact Q v r z h5 k (m.upd U (by omega)) (UT (low b) U fun j O=>by right;omega) (v4.keep (fun j O hl=>Zt U hl (by omega)) fun j O=>⟨by omega,by omega⟩)
  have er:∀ {e:Nat} {r:BL} {h':Zc},Y2 n l = .err e r->Upd (· = R) w h'->P (Zgw e (s.size - r.length)) h':=fun he u=>L _ _ _ he (low u)
  refine ZO (fun _ h'=>h'=w/\∃ c q,X9 l=c::q/\Y2 n l = .err 20 (c::q)) ?_ ?_
  ·rintro ⟨⟩ h3 ⟨rfl,c,q,e3,k⟩
   refine ZbX (α:=JV) o rfl fun e' r he V=>er ?_ (Upd.refl _ _)
   rw [k,<- he,e3];rfl
  ·refine Zao o (Za (Zjh o fun p W=>Zun o (Zh ?_)))
   have hlen:=W.len
   cases E:X9 l with
   | nil =>
     rw [E] at o hlen
     refine Zm (by simp at hlen ⊢;omega) (ZbX (α:=JV) o rfl fun e' r he V=>er ?_ (Upd.refl _ _))
     rw [Zra]
     unfold Zgx
     rw [E,<- he];rfl
   | cons c q =>
     have f:=ZAs n E
     rw [E] at o hlen
     refine Zl (by simp at hlen ⊢;omega) ?_
     refine Zo5 (Zq (fun A=>?_) fun A=>Zo5 (Zq (fun G=>?_) fun G=>Zo5 (Zq (fun H=>?_) fun H=>Zo5 (Zq (fun B=>?_) fun B=>Zo5 (Zq (fun C=>?_) fun C=>Zo5 (Zq (fun D=>?_) fun D=>?_))))))
     ·rw [if_pos (Zke (d:=123) A)] at f
      exact hp true 7 125 w R s c q _ P rfl rfl o F N (fun v r z i k m b v4=>fin (f.trans k) m b v4) fun e r i he b=>er (f.trans he) b
     all_goals rw [if_neg (ZkP (d:=123) A)] at f
     ·rw [if_pos (Zke (d:=91) G)] at f
      exact hp false 6 93 w R s c q _ P rfl rfl o F N (fun v r z i k m b v4=>fin (f.trans k) m b v4) fun e r i he b=>er (f.trans he) b
     all_goals rw [if_neg (ZkP (d:=91) G)] at f
     ·rw [if_pos (Zke (d:=34) H)] at f
      refine Zrl o F N (fun t r i k m b=>?_) fun e r i he b=>er (by rw [f,he];rfl) b
      exact fin (z:=(5,Zj t,⟨none,0,0⟩,⟨none,0,0⟩,())) (v:=⟨5,t,[],.nil⟩) (by rw [f,k];rfl) m b (ZaS.plain _ _ 5 t)
     all_goals rw [if_neg (ZkP (d:=34) H)] at f
     ·rw [if_pos (Zke (d:=110) B)] at f
      refine Zl8 o (wl:=[110,117,108,108]) rfl (by decide) (fun r i k m b=>?_) fun e r i he b=>er (by rw [f,he];rfl) b
      exact fin (v:=⟨1,[],[],.nil⟩) (by rw [f,k];rfl) m b (ZaS.plain _ _ 1 [])
     all_goals rw [if_neg (ZkP (d:=110) B)] at f
     ·rw [if_pos (Zke (d:=102) C)] at f
      refine Zl8 o (wl:=[102,97,108,115,101]) rfl (by decide) (fun r i k m b=>?_) fun e r i he b=>er (by rw [f,he];rfl) b
      exact fin (v:=⟨2,[],[],.nil⟩) (by rw [f,k];rfl) m b (ZaS.plain _ _ 2 [])
     all_goals rw [if_neg (ZkP (d:=102) C)] at f
     ·rw [if_pos (Zke (d:=116) D)] at f
      refine Zl8 o (wl:=[116,114,117,101]) rfl (by decide) (fun r i k m b=>?_) fun e r i he b=>er (by rw [f,he];rfl) b
      exact fin (v:=⟨3,[],[],.nil⟩) (by rw [f,k];rfl) m b (ZaS.plain _ _ 3 [])
     rw [if_neg (ZkP (d:=116) D)] at f
     have num:(c=45\/ZbS c=true)->∀ (X:VT5->HP),(∀ z h',X z h'=sts h' h.size 0 [.int .u8 z.1,.string z.2.1,.slice z.2.2.1.ptr z.2.2.1.len z.2.2.1.cap,.slice z.2.2.2.1.ptr z.2.2.2.1.len z.2.2.2.1.cap] fun g =>
       ldI g h.size 0 .u8 fun t84=>ldS g h.size (0+1) fun t85=>ldL g h.size (0+2) fun t86=>ldL g h.size (0+3) fun t87=>K (t84,t85,t86,t87,()) g)->XX (At R) X P w:=fun I X hK=>by
       rw [if_pos I] at f
       refine Ztg o (fun r i k m b=>?_) fun e r i he b=>er (by rw [f,he];rfl) b
       rw [hK]
       exact fin (z:=(4,Zj (upto (c::q) r),⟨none,0,0⟩,⟨none,0,0⟩,())) (v:=⟨4,upto (c::q) r,[],.nil⟩) (by rw [f,k];rfl) m b (ZaS.plain _ _ 4 _)
     have bad:¬ (c=45\/ZbS c=true)->Y2 n l = .err 20 (c::q):=fun I=>by rw [if_neg I] at f;exact f
     have hz:Zce (c::q)=(c.toNat:Int):=rfl
     rw [hz]
     refine Zag (fun J=>num (.inl (Zke (d:=45) J)) _ fun _ _=>rfl) fun J=>?_
     have M:c≠45:=ZkP (d:=45) J
     refine Zq (fun Y=>Zh (Zq (fun Z=>num (.inr (Zfs.2 (by omega))) _ fun _ _=>rfl) fun Z=>?_)) fun Y=>?_
     ·exact ⟨rfl,c,q,rfl,bad fun I=>I.elim M fun hd=>by have:=Zfs.1 hd;omega⟩
     ·exact ⟨rfl,c,q,rfl,bad fun I=>I.elim M fun hd=>by have:=Zfs.1 hd;omega⟩
theorem Zoh:∀ n:Nat,n<=64->ZqU (XK (n+1)) (Y2 n) ((64 - n:Nat):Int)
  | 0,_=>Zog (f20:=XK 0) (n:=0) fun ob k e h R s c0 l K P d he c ht f b a=>Zv3 c a
  | n+1,g=>Zog (f20:=XK (n+1)) (n:=n+1) fun ob k e h R s c0 l K P d he c ht f b a=>by
    refine Zv2 (Zbm n).1 (Zbm n).2 (Zma n) (deep:=64 - (n+1)) (by omega) ?_ c ht f d he b a
    have:=Zoh n (by omega)
    rw [show 64 - (n+1)+1=64 - n by omega]
    exact this
theorem ZfK {h:Zc} {b o:Nat} {vs:List Value} {K:Zc->Prop} {l:List Value} {e:TypeId} (a:obj h b=some (.cells l.toArray e (0,0))) (ho:o+vs.length<=l.length) (c:vs.all Ye=true)
    (d:∀ h',obj h' b=some (.cells (Zbi o vs l).toArray e (0,0))->Upd (· = b) h h'->sz h'=sz h->K h'):sts h b o vs K:=by
  rw [Zro (by rw [a,Zgj];simpa using ho) c]
  exact d _ (by rw [Zec,if_pos rfl,a,ZbJ]) (Upd.puts h b o vs) Zio
def zJ:JV:=⟨0,[],[],.nil⟩
structure Res (h:Zc) (b b2 b4:Nat) (z:VT5) (e n:Int):Prop where
  v:obj h b=some (.cells (Xq z).toArray 33 (0,0))
  e:obj h b2=some (.cells [.int .i64 e].toArray 37 (0,0))
  n:obj h b4=some (.cells [.int .i64 n].toArray 3 (0,0))
theorem Zp9 {h:Zc} {b c d:Nat} {z:VT5} {e n:Int} (a:Res h b c d z e n) {K:VT5->Int->Int->HP} (f:K z e n h):Zi9 b c d K h :=
  rI (Zb a.v rfl) (rS (Zb a.v rfl) (rL (s:=z.2.2.1) (Zb a.v rfl) (rL (s:=z.2.2.2.1) (Zb a.v rfl) (rI (Zb a.e rfl) (rI (Zb a.n rfl) f)))))
theorem ZnY {h:Zc} {b a c:Nat} {z0:VT5} {B C:Int} (g:Res h b a c z0 B C) (k:b≠a) (l:b≠c) (m:a≠c) {e n:Nat} {K:VT5->Int->Int->HP}
    (D:∀ h',Upd (fun j=>j=b\/j=a\/j=c) h h'->K (0,Zj [],⟨none,0,0⟩,⟨none,0,0⟩,()) e n h'):ZdG b a c K (Zgw e n) h:=by
  have J:=ZaK g.v
  have E:=ZaK g.e
  have F:=ZaK g.n
  refine ⟨e,n,rfl,.inr ⟨_,_,rfl,ZfM (Zhl ?_)⟩⟩
  refine YZ fun L c2 r z2=>ZfK c2 (by simp) (by simp [Ye]) fun s c3 t z3=>?_
  have d:obj s h.size=some (.cells [.int .i64 e,.int .i64 n].toArray 160 (0,0)):=c3
  have M:sz h=h.size:=rfl
  have y:obj s b=some (.cells (Xq z0).toArray 33 (0,0)):=ZG (Zn g.v r) t (by omega)
  have o:obj s a=some (.cells [.int .i64 B].toArray 37 (0,0)):=ZG (Zn g.e r) t (by omega)
  have p:obj s c=some (.cells [.int .i64 C].toArray 3 (0,0)):=ZG (Zn g.n r) t (by omega)
  refine rI (Zb d rfl) (rI (Zb d rfl) (Zo (ZfK y (by simp [Xq]) (by simp [Ye]) fun N G w O=>?_)))
  have z:=ZG d w (show ¬ h.size=b by omega)
  refine ZdD (Zb z rfl) (ZdD (Zb z rfl) (Zo (Zk2 (ZG o w (Ne.symm k)) (by simp) ZgP fun P c9 x z9=>?_)))
  have H:=ZG z x (show ¬ h.size=a by omega)
  refine ZdD (Zb H rfl) (Zo (Zk2 (ZG (ZG p w (Ne.symm l)) x (Ne.symm m)) (by simp) ZgP fun q A f I=>?_))
  have u:Upd (fun j=>j=b\/j=a\/j=c) h q:=by
    refine UT (UT (UT (UT (r.upd _) t fun j i=> .inr (by omega)) w fun j i=> .inl (.inl i)) x fun j i=> .inl (.inr (.inl i))) f fun j i=> .inl (.inr (.inr i))
  refine Zp9 ⟨ZG (ZG G x k) f l,ZG c9 f m,A⟩ (D q u)
def ZtV (h:Zc) (S:Nat->Prop) (g:Got) (z:VT5) (e n:Int):Prop:=match g with
  | .ok v=>ZaS h S z v/\e=0/\n=0
  | .err a k=>ZaS h S z zJ/\e=a/\n=k
theorem ZoN {h:Zc} {s:ByteArray} (ht:ZaT h) (hh:9<=sz h) {K:VT5->Int->Int->HP}
    (X:∀ z e n h',Ext h h'->ZtV h' (fun j=>sz h<=j/\j<sz h') (Zdo s.data.toList) z e n->K z e n h'):ZaH s K h:=by
  unfold ZaH
  have aA:sz h=h.size:=rfl
  refine YZ fun d c1 e1 z1=>YZ fun f c3 e3 z3=>YZ fun m c5 Y z5=>?_
  have aD:sz d=d.size:=rfl
  have aE:sz f=f.size:=rfl
  have aF:sz m=m.size:=rfl
  have hz:Xq (0,Zj [],⟨none,0,0⟩,⟨none,0,0⟩,())=zV:=rfl
  have v5:Res m h.size d.size f.size (0,Zj [],⟨none,0,0⟩,⟨none,0,0⟩,()) 0 0:=⟨Zn (Zn c1 e3) Y,Zn c3 Y,c5⟩
  have A:Ext h m:=(e1.trans e3).trans Y
  have low:∀ {S:Nat->Prop} {a:Zc},Upd S m a->(∀ j,S j->sz h<=j)->Ext h a:=fun u L=>A.updS u L
  have hlen:s.data.toList.length=s.size:=by simp
  refine Zq (fun Z=>?_) fun W=>?_
  ·refine ZfK v5.v (by simp [Xq]) (by simp [Ye]) fun h6 c6 u6 z6=>?_
   refine Zk2 (ZG v5.e u6 (show ¬ d.size=h.size by omega)) (by simp) ZgP fun h7 c7 u7 z7=>?_
   refine Zk2 (ZG (ZG v5.n u6 (show ¬ f.size=h.size by omega)) u7 (show ¬ f.size=d.size by omega)) (by simp) ZgP fun h8 c8 u8 z8=>?_
   refine Zp9 (z:=(0,Zj [],⟨none,0,0⟩,⟨none,0,0⟩,())) ⟨ZG (ZG c6 u7 (show ¬ h.size=d.size by omega)) u8 (show ¬ h.size=f.size by omega),ZG c7 u8 (show ¬ d.size=f.size by omega),c8⟩ (X _ _ _ h8 ?_ ?_)
   ·refine low (S:=fun j=>sz h<=j) (UT (UT (u6.mono fun j _ b=>by subst b;omega) u7 fun j b=> .inl (by omega)) u8 fun j b=> .inl (by omega)) fun j b=>b
   ·rw [Zi8 (by omega)]
    exact ⟨ZaS.plain _ _ 0 [],rfl,rfl⟩
  ·have hs:s.size<=65536:=by omega
   refine YZ fun i ad k ae=>?_
   have af:Rd i m.size s s.data.toList:=⟨hs,0,ad,ZkE.start s⟩
   have t15:ZaT i:=ht.ext (A.trans k)
   have pp:=Zi7 (l:=s.data.toList) (by omega)
   have o:∀ {a:Zc} {z0:VT5} {e0 n0:Int} {e n:Nat},Res a h.size d.size f.size z0 e0 n0->Ext h a->Zdo s.data.toList = .err e n->ZdG h.size d.size f.size K (Zgw e n) a:=fun {a z0 e0 n0 e n} hr ea hp=>by
     refine ZnY hr (by omega) (by omega) (by omega) fun h' u=>X _ _ _ h' (ea.updS u fun j b=>by omega) ?_
     rw [hp]
     exact ⟨ZaS.plain _ _ 0 [],rfl,rfl⟩
   have M:Res i h.size d.size f.size (0,Zj [],⟨none,0,0⟩,⟨none,0,0⟩,()) 0 0:=⟨Zn v5.v k,Zn v5.e k,Zn v5.n k⟩
   have q:∀ {S:Nat->Prop} {a c:Zc} {z:VT5} {e n:Int},Res a h.size d.size f.size z e n->Upd S a c->(∀ j,S j->m.size<=j)->Res c h.size d.size f.size z e n:=fun r u L =>
     ⟨ZG r.v u fun N=>by have:=L _ N;omega,ZG r.e u fun N=>by have:=L _ N;omega,ZG r.n u fun N=>by have:=L _ N;omega⟩
   have G:∀ j,j=m.size->m.size<=j:=fun j b=>by omega
   refine ⟨65,?_⟩
   refine Zoh 64 (Aqo _) i m.size s _ _ _ af t15 (by omega) (fun v r z O hv ag t ah=>?_) fun e r O he t=>?_
   ·have w:=q M t G
    refine ZfK w.v (by simp [Xq]) (ZcA z) fun x ai y aO=>?_
    have P:obj x h.size=some (.cells (Xq z).toArray 33 (0,0)):=ai
    have ay:sz i=sz m+1:=ae
    have aj:ZaS x (fun j=>sz i<=j/\j<sz x) z v:=ah.keep (fun j b Q=>Zt y Q (by omega)) fun j b=>⟨b.1,by omega⟩
    have ak:Ext h x:=((A.trans k).updS t fun j b=>by subst b;omega).updS y fun j b=>by omega
    have al:Res x h.size d.size f.size z 0 0:=⟨P,ZG w.e y (by omega),ZG w.n y (by omega)⟩
    refine ZeR (ag.upd y (by omega)) fun B H I aP=>?_
    have g:=q al I G
    have R:Ext h B:=ak.updS I fun j b=>by subst b;omega
    have an:ZaS B (fun j=>sz i<=j/\j<sz B) z v:=aj.keep (fun j b Q=>Zt I Q (by omega)) fun j b=>⟨b.1,by omega⟩
    obtain ⟨_,p,cp,gp⟩:=id H
    have J:=gp.len
    rw [hv] at pp
    simp only at pp
    refine rI (Zb cp rfl) (Zq (fun ao=>rI (Zb cp rfl) ?_) fun aR=>?_)
    ·cases C:X9 r with
     | nil=>rw [C] at J;simp at J;omega
     | cons c r' =>
       rw [C] at pp H J
       simp only at pp
       refine Zu0 H ao ?_
       have:=o g R pp
       unfold Zgw at this
       have T:((s.data.toList.length - (c::r').length:Nat):Int)=(p:Int):=by omega
       rw [T] at this
       exact this
    ·have C:X9 r=[]:=Aqr (by omega)
     rw [C] at pp
     simp only at pp
     unfold ZjO
     refine rI (Zb g.v rfl) (rS (Zb g.v rfl) (rL (s:=z.2.2.1) (Zb g.v rfl) (rL (s:=z.2.2.2.1) (Zb g.v rfl) ?_)))
     refine ZfK g.v (by simp [Xq]) (ZcA z) fun aq c20 D z20=>?_
     have U:obj aq h.size=some (.cells (Xq z).toArray 33 (0,0)):=c20
     refine Zk2 (ZG g.e D (show ¬ d.size=h.size by omega)) (by simp) ZgP fun aT c21 E z21=>?_
     refine Zk2 (ZG (ZG g.n D (show ¬ f.size=h.size by omega)) E (show ¬ f.size=d.size by omega)) (by simp) ZgP fun V ar F aU=>?_
     refine Zp9 ⟨ZG (ZG U E (show ¬ h.size=d.size by omega)) F (show ¬ h.size=f.size by omega),ZG c21 F (show ¬ d.size=f.size by omega),ar⟩ (X _ _ _ V ?_ ?_)
     ·exact ((R.updS D fun j b=>by omega).updS E fun j b=>by omega).updS F fun j b=>by omega
     ·rw [pp]
      have u:Upd (fun j=>j<m.size) B V:=((D.mono fun j _ b=>by omega).trans (E.mono fun j _ b=>by omega)).trans (F.mono fun j _ b=>by omega)
      exact ⟨an.keep (fun j b Q=>Zt u Q (by omega)) fun j b=>⟨by omega,by have:=Zkd u;omega⟩,rfl,rfl⟩
   ·have w:=q M t G
    have au:Ext h O:=(A.trans k).updS t fun j b=>by subst b;omega
    rw [he] at pp
    simp only at pp
    rw [hlen] at pp
    exact o w au pp
section
variable {h:Zc} {R e:Nat} {s:ByteArray} {l:BL}
end
section
variable {h:Zc} {R:Nat} {s:ByteArray} {l:BL}
end
section
variable {h:Zc} {R:Nat} {s:ByteArray} {l:BL}
end
section
variable {h:Zc} {R:Nat} {s:ByteArray} {l:BL}
end
section
variable {h:Zc} {R:Nat} {s:ByteArray} {l:BL}
end
theorem ZPO {c:UInt8} {n:Int} (d:UInt8) (a:n=(d.toNat:Int)) {A B:Prop} (b:c=d->A) (f:c≠d->B):Zy (((c.toNat:Nat):Int) ==n) A B:=by
  subst a
  exact Zag (fun e=>b (Zke e)) fun e=>f (ZkP e)
end Go.Proofs.YtpjbjdheeemdiaaGreatDoor
namespace Go.Js
open Go
namespace JL
def drop:Nat->JL->JL
  | 0,l=>l
  | _+1,nil=>nil
  | n+1,cons _ _ _ _ r=>r.drop n
def hei:JL->Nat
  | nil=>0
  | cons _ _ _ s r=>max (s.hei+1) r.hei
theorem drop_len:∀ (n:Nat) (l:JL),(l.drop n).len=l.len - n
  | 0,l=>rfl
  | n+1,nil=>by simp [drop,len]
  | n+1,cons _ _ _ _ r=>by simp only [drop,len,drop_len n r];omega
theorem drop_succ:∀ (n:Nat) (l:JL) {k:Nat} {t:BL} {ns:List BL} {s r:JL},l.drop n=cons k t ns s r->l.drop (n+1)=r
  | 0,l,_,_,_,_,_,h=>by rw [show l=_ from h];rfl
  | n+1,nil,_,_,_,_,_,h=>by cases h
  | n+1,cons _ _ _ _ r,_,_,_,_,_,h=>drop_succ n r h
theorem drop_cons {n:Nat} {l:JL} (h:n<l.len):∃ k t ns s r,l.drop n=cons k t ns s r:=by
  have:=drop_len n l
  cases hd:l.drop n with
  | nil=>rw [hd] at this;simp [len] at this;omega
  | cons k t ns s r=>exact ⟨k,t,ns,s,r,rfl⟩
theorem drop_nil {n:Nat} {l:JL} (h:l.len<=n):l.drop n=nil:=by
  have:=drop_len n l
  exact ZEP.1 (by omega)
theorem drop_hei:∀ (n:Nat) (l:JL) {k:Nat} {t:BL} {ns:List BL} {s r:JL},l.drop n=cons k t ns s r->s.hei+1<=l.hei
  | 0,l,_,_,_,_,_,h=>by rw [show l=_ from h];simp only [hei];omega
  | n+1,nil,_,_,_,_,_,h=>by cases h
  | n+1,cons _ _ _ _ r,_,_,_,_,_,h=>by have:=drop_hei n r h;simp only [hei];omega
end JL
end Go.Js
namespace Go.Proofs.YtpjbjdheeemdiaaGreatDoor
open Go Go.Fw Go.Js
theorem XC.drop {h:Zc} {S:Nat->Prop}:∀ (n:Nat) {l:JL} {vs:List Value},XC h S l vs->XC h S (l.drop n) (vs.drop (n*4))
  | 0,l,vs,h=>by simpa [JL.drop] using h
  | n+1,.nil,vs,h=>by rw [show vs=[] from h];simp [JL.drop,XC]
  | n+1,.cons k t ns s r,vs,h=>by
    obtain ⟨x,y,m,i,e,a,b,c,d,f,g⟩:=h
    have:=XC.drop n g
    rw [e]
    show XC _ _ (r.drop n) _
    have j:(Xq ((k:Int),Zj t,x,y,())++i).drop ((n+1)*4)=i.drop (n*4):=by
      rw [List.drop_append,show (Xq ((k:Int),Zj t,x,y,())).length=4 from rfl,Azh (by show 4<=_;omega),Ayq]
      congr 1
      omega
    rw [j];exact this
theorem ZgR {h:Zc} {S:Nat->Prop} {l:JL} {vs:List Value} {x:Sl} (q:Row h x 4 vs) (u:XC h S l vs) {i:Nat} {k:Nat} {t:BL} {ns:List BL} {s r:JL} (hd:l.drop i = .cons k t ns s r) {n:Int} (y:n=i) {K:Int->ByteArray->Sl->Sl->Prop}
    (A:∀ z:VT5,ZaS h S z ⟨k,t,ns,s⟩->K z.1 z.2.1 z.2.2.1 z.2.2.2.1):Zdb x.ptr x.len n 4 fun b o=>ldI h b o .u8 fun t1=>ldS h b (o+1) fun t2=>ldL h b (o+2) fun t3=>ldL h b (o+3) fun t4=>K t1 t2 t3 t4:=by
  subst y
  have hlen:=u.len
  have B:=q.len
  have G:i<l.len:=by
    have:=JL.drop_len i l
    rw [hd] at this
    simp [JL.len] at this
    omega
  have w:=XC.drop i u
  rw [hd] at w
  obtain ⟨m,sy,C,D,e,a,b,c,d,f,g⟩:=w
  rcases q.at_ with H | ⟨bb,o,hp,E⟩
  ·omega
  ·rw [hp]
   have get:∀ j v,(Xq ((k:Int),Zj t,m,sy,()))[j]?=some v->h.cell bb (o+i*4+j)=some v:=fun j v p=>by
     have F:vs[i*4+j]?=some v:=by
       rw [<- Aqg,e,Awu]
       ·exact p
       ·rcases Aqd j (Xq ((k:Int),Zj t,m,sy,())).length with h | h
        ·exact h
        ·rw [Aqt h] at p;cases p
     have:=ZiC E F
     rw [Aqh];exact this
   have gc:∀ j v,(Xq ((k:Int),Zj t,m,sy,()))[j]?=some v->ZbK (o+i*4+j) (obj h bb)=some v:=fun j v p=>by rw [<- Zai];exact get j v p
   refine Zm7 (n:=i) rfl (by omega) (rI (gc 0 _ rfl) (rS (gc 1 _ rfl) (rL (s:=m) (gc 2 _ rfl) (rL (s:=sy) (gc 3 _ rfl) (A ((k:Int),Zj t,m,sy,()) ⟨rfl,rfl,a,b,C,c,d,f⟩)))))
theorem ZgQ {h:Zc} {ns:List BL} {x:Sl} (a:Row h x 1 (ns.map sV)) {i:Nat} {t:BL} (ht:ns[i]?=some t) {n:Int} (c:n=i) {K:ByteArray->Prop} (d:K (Zj t)):Zdb x.ptr x.len n 1 fun b o=>ldS h b o K :=
  Row.idx a c (v:=sV t) (by simp [ht]) fun b o _ e=>⟨_,e,d⟩
theorem Zb3 {h:Zc} {ns:List BL} {x:Sl} (a:Row h x 1 (ns.map sV)):x.len=ns.length:=by have:=a.len;simp at this;omega
theorem Zsw {a b:BL}:Zj a=Zj b↔a=b:=by
  constructor
  ·intro h
   have:=congrArg (fun b:ByteArray=>b.data.toList) h
   simpa [Zj] using this
  ·rintro rfl;rfl
theorem Zas (a b:BL):ZcC (Zj a) (Zj b)=decide (a=b):=by
  rw [Zrq]
  exact decide_eq_decide.2 Zsw
theorem ZaS.ext {h h':Zc} {S:Nat->Prop} {z:VT5} {v:JV} (b:ZaS h S z v) (c:∀ j,S j->j<sz h) (u:Ext h h'):ZaS h' S z v:=b.keep (fun j a _=>Zu u (c j a)) fun j a=>a
end Go.Proofs.YtpjbjdheeemdiaaGreatDoor
namespace Go.Proofs.YtpjbjdheeemdiaaGreatDoor
open Go Go.Fw Go.Js
def upd {α:Type} (f:BL->Option α) (k:BL) (v:Option α):BL->Option α:=fun j=>if j=k then v else f j
theorem ZpN {α:Type} (f:BL->Option α) (k:BL) (v:Option α):upd f k v k=v:=if_pos rfl
theorem Zom {α:Type} (f:BL->Option α) {k j:BL} (v:Option α) (h:j≠k):upd f k v j=f j:=if_neg h
structure Zz8 (es:Array MapEntry) (f:BL->Option Value):Prop where
  tw:∀ e,e∈es.toList->∃ k,e.key=sV k/\f k=some e.val
  of:∀ k v,f k=some v->∃ e,e∈es.toList/\e.key=sV k
def Zq0 (h:Zc) (a:Nat) (f:BL->Option Value) (n:Nat):Prop :=
  ∃ es c,h[a]?=some (.map es c)/\MapKept.Stamped es c/\es.size=n/\Zz8 es f
theorem ZCa {a b:BL} (h:sV a=sV b):a=b:=by injection h with h;exact Zsw.1 h
theorem Zz8.key {es:Array MapEntry} {f:BL->Option Value} (he:Zz8 es f):∀ x,x∈es.toList->MapKept.IsKey .string x.key:=fun x a=>by
  obtain ⟨k,b,_⟩:=he.tw x a
  rw [b]
  trivial
theorem Zz8.val {es:Array MapEntry} {f:BL->Option Value} (he:Zz8 es f) {e:MapEntry} (hm:e∈es.toList) {k:BL} (b:e.key=sV k):f k=some e.val:=by
  obtain ⟨j,a,c⟩:=he.tw e hm
  rw [b] at a
  rw [ZCa a]
  exact c
theorem Zz8.find {es:Array MapEntry} {f:BL->Option Value} (he:Zz8 es f) (k:BL) :
    (Instr.findNow .string (sV k) es.toList 0=some none/\f k=none)\/∃ j e,Instr.findNow .string (sV k) es.toList 0=some (some (j,e.val))/\es.toList[j]?=some e/\e.key=sV k/\f k=some e.val:=by
  rcases MapKept.findNow_spec (d:= .string) (k:=sV k) trivial es.toList 0 he.key with ⟨a,b⟩ | ⟨j,e,a,b,c⟩
  ·refine .inl ⟨a,?_⟩
   cases g:f k with
   | none=>rfl
   | some v =>
     obtain ⟨e,hm,h⟩:=he.of k v g
     exact absurd h (b e hm)
  ·rw [Awb] at a
   exact .inr ⟨j,e,a,b,c,he.val (Axq b) c⟩
theorem Zq0.congr {h h':Zc} {a:Nat} {f:BL->Option Value} {n:Nat} (hm:Zq0 h a f n) (he:h'[a]?=h[a]?):Zq0 h' a f n:=by
  obtain ⟨es,c,b,r⟩:=hm
  exact ⟨es,c,he.trans b,r⟩
theorem Zq0.lt {h:Zc} {a:Nat} {f:BL->Option Value} {n:Nat} (hm:Zq0 h a f n):a<h.size:=by
  obtain ⟨es,c,b,r⟩:=hm
  exact ZHl b
theorem Zq0.new {h:Zc} {K:Nat->Zc->Prop} (b:∀ a,Zq0 a h.size (fun _=>none) 0->Ext h a->a.size=h.size+1->K h.size a):Zjn h K :=
  b _ ⟨#[],0,Zi6,MapKept.stamped_empty 0,rfl,⟨fun e he=>by simp at he,fun k v c=>by cases c⟩⟩ (Ext.push _ _) (by simp)
theorem Zq0.get {h:Zc} {g:Nat} {f:BL->Option Value} {n:Nat} (hm:Zq0 h g f n) (k:BL) {K:Option Value->Prop} (a:K (f k)):ZuD .string h (some g) (sV k) K:=by
  obtain ⟨es,c,i,o,p,he⟩:=hm
  refine ⟨(fun e=>by cases e),fun b e=>?_⟩
  cases e
  rcases he.find k with ⟨d,l⟩ | ⟨j,e,d,l,q,m⟩
  ·exact ⟨es,c,none,i,d,by rw [l] at a;exact a⟩
  ·exact ⟨es,c,_,i,d,by rw [m] at a;exact a⟩
theorem Zx1 {h:Zc} {b:Nat} {x:Obj}:Upd (· = b) h (h.setIfInBounds b x) :=
  ⟨by simp,fun k _ a=>by rw [Awj (fun e=>a e.symm)]⟩
theorem ZB7 {h:Zc} {b:Nat} {x:Obj} (a:b<h.size):(h.setIfInBounds b x)[b]?=some x:=by simp [a]
theorem Zz8.modify {es:Array MapEntry} {f:BL->Option Value} (he:Zz8 es f) {c:Nat} (y:MapKept.Stamped es c) {j:Nat} {e:MapEntry} {k:BL} (o:es.toList[j]?=some e) (p:e.key=sV k) (v:Value) :
    Zz8 (es.modify j fun x=>{ x with key:=sV k,val:=v }) (upd f k (some v))/\MapKept.Stamped (es.modify j fun x=>{ x with key:=sV k,val:=v }) c:=by
  have d:es[j]?=some e:=by simpa using o
  have uniq:∀ i x,es.toList[i]?=some x->x.key=sV k->i=j:=by
    intro i x a b
    have q:=y.2.2
    have r:(es.toList.map (·.key))[i]?=some (sV k):=by rw [Awz,a];simp [b]
    have s:(es.toList.map (·.key))[j]?=some (sV k):=by rw [Awz,o];simp [p]
    obtain ⟨z,r⟩:=Azl.1 r
    obtain ⟨A,s⟩:=Azl.1 s
    exact (List.getElem_inj q).1 (r.trans s.symm)
  refine ⟨⟨fun x b=>?_,fun i u hu=>?_⟩,?_⟩
  ·obtain ⟨i,a⟩:=Azm b
   rw [Axr,Aqi] at a
   by_cases g:j=i
   ·subst g
    rw [if_pos rfl,d] at a
    simp only [Aqx,Awh] at a
    subst a
    exact ⟨k,rfl,ZpN _ _ _⟩
   ·rw [if_neg g] at a
    have l:es.toList[i]?=some x:=by simpa using a
    obtain ⟨m,hm,B⟩:=he.tw x (Axq l)
    refine ⟨m,hm,?_⟩
    rw [Zom]
    ·exact B
    ·intro t
     subst t
     exact g (uniq i x l hm).symm
  ·by_cases h:i=k
   ·subst h
    refine ⟨{ e with key:=sV i,val:=v },?_,rfl⟩
    refine Axq (i:=j) ?_
    rw [Axr,Aqi,if_pos rfl,d]
    rfl
   ·rw [Zom f _ h] at hu
    obtain ⟨x,b,n⟩:=he.of i u hu
    obtain ⟨m,hm⟩:=Azm b
    refine ⟨x,Axq (i:=m) ?_,n⟩
    rw [Axr,Aqi,if_neg]
    ·simpa using hm
    ·intro w
     subst w
     rw [o] at hm
     cases hm
     exact h (ZCa (n.symm.trans p))
  ·refine MapKept.stamped_modify y j _ (fun x _=>rfl) fun x _ b=>?_
   rw [d] at b
   cases b
   exact p.symm
theorem Zq0.put {h:Zc} {d:Nat} {f:BL->Option Value} {n:Nat} (hm:Zq0 h d f n) (k:BL) (v:Value) {K:Zc->Prop}
    (s:∀ h',Zq0 h' d (upd f k (some v)) (if (f k).isSome then n else n+1)->Upd (· = d) h h'->h'.size=h.size->K h'):Xu .string h (some d) (sV k) v K:=by
  have g:=hm.lt
  obtain ⟨es,c,t,w,y,he⟩:=hm
  rcases he.find k with ⟨p,l⟩ | ⟨j,e,p,l,z,A⟩
  ·refine ⟨d,es,c,none,rfl,t,he.key,p,s _ ⟨es.push { key:=sV k,val:=v,born:=c },c+1,ZB7 g,MapKept.stamped_push w fun x a b=>?_,by simp [l,y],⟨fun x a=>?_,fun i u hu=>?_⟩⟩ Zx1 (by simp)⟩
   ·have:=he.val a b
    rw [l] at this
    cases this
   ·simp only [Array.toList_push,Axz,Axu] at a
    rcases a with a | rfl
    ·obtain ⟨m,hm,q⟩:=he.tw x a
     refine ⟨m,hm,?_⟩
     rw [Zom]
     ·exact q
     ·intro r
      subst r
      rw [l] at q
      cases q
    ·exact ⟨k,rfl,ZpN _ _ _⟩
   ·simp only [Array.toList_push,Axz,Axu]
    by_cases o:i=k
    ·subst o
     exact ⟨_,.inr rfl,rfl⟩
    ·rw [Zom f _ o] at hu
     obtain ⟨x,a,b⟩:=he.of i u hu
     exact ⟨x,.inl a,b⟩
  ·obtain ⟨g1,g2⟩:=he.modify w l z v
   exact ⟨d,es,c,_,rfl,t,he.key,p,s _ ⟨_,c,ZB7 g,g2,by simp [A,y],g1⟩ Zx1 (by simp)⟩
end Go.Proofs.YtpjbjdheeemdiaaGreatDoor
namespace Go.Proofs.YtpjbjdheeemdiaaGreatDoor
open Go Go.Fw Go.ChangeShapes Go.WideShapes
theorem ZyK {n:Nat} (h:n<=maxLen):n<9223372036854775808:=by
  have e:maxLen=9223372036854775807:=by decide
  omega
theorem ZxX {w:World} {a:Addr} {v:Value} (h:w.cell? a=some v):a=⟨a.block,a.off,none⟩:=by
  obtain ⟨b,o,s⟩:=a
  unfold World.cell? at h
  split at h
  ·cases s with
   | none=>rfl
   | some s=>simp at h
  ·cases h
theorem Zvn {b o i:Nat}:(⟨b,o,none⟩:Addr).add i=⟨b,o+i,none⟩:=Zly b o i
section
variable {H:Type} {enc:TypeId × Value->H} {P:Program} {w:World} {base:Nat} {spare:Nat->Bool} {held:Bool}
end
end Go.Proofs.YtpjbjdheeemdiaaGreatDoor
namespace Go.Js
open Go
def ZFB (t:BL):Bool:=match Zdo t with
  | .ok v=>decide (v.k=4)&&decide (v.t=t)
  | .err _ _=>false
def whB (k:Nat) (t:BL) (ns:List BL) (sub:JL):Bool :=
  if k=1\/k=2\/k=3 then decide (t=[])&&(sub.isNil&&decide (ns=[]))
  else if k=4 then ZFB t&&(sub.isNil&&decide (ns=[]))
  else if k=5 then Lib.validD t&&(sub.isNil&&decide (ns=[]))
  else if k=6 then decide (t=[])&&decide (ns=[])
  else if k=7 then decide (t=[])&&(decide (ns.length=sub.len)&&ns.all Lib.validD)
  else false
def ZHa:JL->Prop
  | .nil=>True
  | .cons _ t ns sub rest=>t.length<9223372036854775807/\(∀ n∈ns,n.length<9223372036854775807)/\ZHa sub/\ZHa rest
def ZFE (v:JV):Prop:=v.t.length<9223372036854775807/\(∀ n∈v.ns,n.length<9223372036854775807)/\ZHa v.sub
abbrev Rt:=Nat->BL->List BL->JL->Bool
def ZcZ (rt:Rt):Nat->JL->Nat->Nat->Bool × Nat × Nat
  | _,.nil,n,dp=>(true,n,dp)
  | d,.cons k t ns sub rest,n,dp =>
    if 65536<n+1 then (false,n+1,dp)
    else if rt k t ns sub=false then (false,n+1,dp)
    else if k≠6/\k≠7 then ZcZ rt d rest (n+1) dp
    else if 64<=d then ZcZ rt d rest (n+1) (max dp (d+1))
    else if (ZcZ rt (d+1) sub (n+1) (max dp (d+1))).1=true then ZcZ rt d rest (ZcZ rt (d+1) sub (n+1) (max dp (d+1))).2.1 (ZcZ rt (d+1) sub (n+1) (max dp (d+1))).2.2
    else ZcZ rt (d+1) sub (n+1) (max dp (d+1))
def Zhy (rt:Rt) (d:Nat) (v:JV) (n dp:Nat):Bool × Nat × Nat:=ZcZ rt d (.cons v.k v.t v.ns v.sub .nil) n dp
theorem Zxp (rt:Rt) (d k:Nat) (t:BL) (ns:List BL) (sub rest:JL) (n dp:Nat):ZcZ rt d (.cons k t ns sub rest) n dp =
    if (Zhy rt d ⟨k,t,ns,sub⟩ n dp).1=true then ZcZ rt d rest (Zhy rt d ⟨k,t,ns,sub⟩ n dp).2.1 (Zhy rt d ⟨k,t,ns,sub⟩ n dp).2.2 else Zhy rt d ⟨k,t,ns,sub⟩ n dp:=by
  unfold Zhy
  simp only [ZcZ]
  by_cases a:65536<n+1
  ·simp [a]
  by_cases b:rt k t ns sub=false
  ·simp [a,b]
  by_cases c:k≠6/\k≠7
  ·simp [a,b,c]
  by_cases e:64<=d
  ·simp [a,b,c,e]
  by_cases f:(ZcZ rt (d+1) sub (n+1) (max dp (d+1))).1=true
  ·simp [a,b,c,e,f]
  ·simp [a,b,c,e,f]
theorem ZuZ:∀ (n:Nat) {l:JL} {k:Nat} {t:BL} {ns:List BL} {s r:JL},ZHa l->l.drop n = .cons k t ns s r->ZFE ⟨k,t,ns,s⟩
  | 0,l,k,t,ns,s,r,h,e=>by
    rw [show l=_ from e] at h
    exact ⟨h.1,h.2.1,h.2.2.1⟩
  | n+1,.nil,_,_,_,_,_,_,e=>by cases e
  | n+1,.cons _ _ _ _ a,_,_,_,_,_,h,e=>ZuZ n h.2.2.2 e
end Go.Js
namespace Go.Proofs.YtpjbjdheeemdiaaGreatDoor
open Go Go.Fw Go.Js
section
variable {h:Zc}
theorem Zqw {t:BL} (ht:ZaT h) (m:9<=sz h) {K:Bool->HP} (o:∀ h',Ext h h'->K (ZFB t) h'):ZcL (Zj t) K h:=by
  unfold ZcL Zgi
  refine ZoN ht m fun z e n b f g=>?_
  have hp:(Zj t).data.toList=t:=rfl
  rw [hp] at g
  refine YZ fun p c2 q z2=>?_
  have c:obj p b.size=some (.cells zV.toArray 33 (0,0)):=c2
  refine ZfK c (by simp) (ZcA z) fun i c3 r z3=>Za (Za ?_)
  have a:obj i b.size=some (.cells (Xq z).toArray 33 (0,0)):=c3
  have s:sz b=b.size:=rfl
  have key:=o i ((f.trans q).updS r fun j w=>by have:=f.size;have:sz h=h.size:=rfl;omega)
  unfold ZFB at key
  cases d:Zdo t with
  | err x k =>
    rw [d] at g key
    obtain ⟨_,he,_⟩:=g
    have:=ZA3 d
    exact Zl (beq_eq_false_iff_ne.2 (by omega)) key
  | ok v =>
    rw [d] at g key
    obtain ⟨l,he,_⟩:=g
    simp only at key
    refine Zm (by rw [he];rfl) (rI (Zb a rfl) ?_)
    rw [l.1]
    refine Zag (fun u=>rS (Zb a rfl) (Zh ?_)) fun u=>?_
    ·rw [decide_eq_true (show v.k=4 by omega),Aqa] at key
     rw [l.2.1,Zas];exact key
    ·rw [decide_eq_false (show ¬ v.k=4 by omega),Aqb] at key
     exact key
theorem ZqT {ns:List BL} {x:Sl} (e:Row h x 1 (ns.map sV)) (t:inS (fun j=>j<sz h) x) (c:∀ n∈ns,n.length<9223372036854775807) (ht:ZaT h) {K:Bool->HP} (k:∀ h',Ext h h'->K (!ns.all Lib.validD) h'):ZQ x K h:=by
  unfold ZQ YC Yn YI
  have l:=Zb3 e
  have m:=e.big
  have o:=e.cap
  refine Za ?_
  refine Zv (fun p h'=>∃ i:Nat,p.1=i/\i<=ns.length/\Ext h h'/\(ns.take i).all Lib.validD=true) (fun p _=>(ns.length - p.1).toNat) ⟨0,rfl,Ayk _,Ext.refl _,rfl⟩ ?_
  rintro ⟨i0,u⟩ q ⟨i,r,hle,d,a⟩
  dsimp only at r ⊢
  subst r
  refine Zq (fun v=>Za ?_) fun w=>Za (Zh ?_)
  ·have b:i<ns.length:=by omega
   have f:Row q x 1 (ns.map sV):=Ym e t fun j B l=>Zu d l
   refine ZgQ f (Ayb b) rfl ?_
   unfold ZeY Zg5
   have y:=c ns[i] (Azn b)
   refine ⟨ht.ext d,by rw [ZdJ];omega,fun z s=>Zh ?_⟩
   have A:Lib.validD (Zj ns[i]).data.toList=Lib.validD ns[i]:=rfl
   rw [A]
   cases hd:Lib.validD ns[i] with
   | true =>
     refine Zl rfl ?_
     rw [YA (by omega) (by omega)]
     refine ⟨⟨i+1,rfl,by omega,d.trans s,?_⟩,by omega⟩
     rw [Ayu,Ayb b,Azo,a]
     simp [hd]
   | false =>
     refine Zm rfl (Za (Zh ?_))
     have:=k z (d.trans s)
     have g:ns.all Lib.validD=false:=by
       rw [List.all_eq_false]
       exact ⟨ns[i],Azn b,by simp [hd]⟩
     rw [g] at this
     rw [decide_eq_true (show (i:Int)>=0 by omega)];exact this
  ·rw [Awd (by omega)] at a
   have:=k q d
   rw [a] at this
   exact this
theorem ZFr {a b:Bool} {K:Bool->Prop} (c:K (a&&b)):Zy (!!a) (Yq (!!b) K) (K false):=by
  cases a
  ·exact Zl rfl c
  ·cases b<;>exact Zm rfl (Zh c)
theorem ZNU {a b c:Bool} {K:Bool->Prop} (d:K (a&&(b&&c))):Zy (!!a) (Zy (!!b) (Yq (!!c) K) (K false)) (K false):=by
  cases a
  ·exact Zl rfl d
  ·exact Zm rfl (ZFr d)
theorem ZHn {a b c:Bool} {K:Bool->Prop} (d:K (a&&(b&&c))):Zy a (Zy (!!b) (Yq (!!c) K) (K false)) (K false):=by
  cases a
  ·exact Zl rfl d
  ·exact Zm rfl (ZFr d)
theorem ZGK {x:Sl} {sub:JL} (a:x.len=sub.len):decide ((x.len:Int)>0) = !sub.isNil:=by
  cases sub with
  | nil=>rw [a];rfl
  | cons k t ns s r=>rw [a];simp [JL.len,JL.isNil]
theorem ZNw {x:Sl} {ns:List BL} (b:x.len=ns.length):decide ((x.len:Int)>0) = !decide (ns=[]):=by
  cases ns with
  | nil=>rw [b];rfl
  | cons a ns=>rw [b];simp
theorem Zvv {z:VT5} {v:JV} {S:Nat->Prop} (M:ZaS h S z v) (N:∀ j,S j->j<sz h) (f:ZFE v) (ht:ZaT h) (X:9<=sz h) {K:Bool->HP} (x:∀ h',Ext h h'->K (whB v.k v.t v.ns v.sub) h'):Ze6 z K h:=by
  unfold Ze6 ZiH
  obtain ⟨O,a2,a3,a4,Y,a5,Z,P⟩:=M
  refine YZ fun C Q d z1=>?_
  have c:obj C h.size=some (.cells (Xq z).toArray 33 (0,0)):=Q
  have D:z.2.2.1.len=v.sub.len:=by have:=a5.len;have:=P.len;omega
  have E:=Zb3 a3
  refine rS (Zb c rfl) (rL (s:=z.2.2.1) (Zb c rfl) (rL (s:=z.2.2.2.1) (Zb c rfl) (Zh (Zh (Zh (rI (Zb c rfl) ?_))))))
  have o:(!ZcC z.2.1 (ByteArray.mk #[])) = !decide (v.t=[]):=by rw [a2,show (ByteArray.mk #[])=Zj [] from rfl,Zas]
  rw [o,ZGK D,ZNw E,O]
  have key:=x C d
  have m:∀ {n:Nat} {A B:Prop},(v.k=n->A)->(v.k≠n->B)->Yq ((v.k:Int) ==(n:Int)) fun t=>Zy t A B:=fun {n A B} R q=>Zh (Zag (fun e=>R (by omega)) fun e=>q (by omega))
  refine ZO (fun p h'=>h'=C/\(p.1=true↔v.k=1\/v.k=2\/v.k=3)) ?_ ?_
  ·rintro ⟨b,u⟩ g ⟨rfl,q⟩
   dsimp only at q ⊢
   cases r:b with
   | true =>
     have a:=q.1 r
     unfold whB at key
     rw [if_pos a] at key
     refine Zm rfl ?_
     exact ZNU (K:=fun t=>K t g) key
   | false =>
     have a:¬ (v.k=1\/v.k=2\/v.k=3):=fun e=>by have:=q.2 e;rw [r] at this;cases this
     refine Zl rfl ?_
     refine m (n:=4) (fun T=>?_) fun n4=>m (n:=5) (fun U=>?_) fun y=>m (n:=6) (fun V=>?_) fun n6=>m (n:=7) (fun J=>?_) fun W=>?_
     ·refine rS (Zb c rfl) ?_
      rw [a2]
      have F:9<=sz g:=by have:=d.size;have:sz g=g.size:=rfl;have:sz h=h.size:=rfl;omega
      refine Zqw (ht.ext d) F fun i w=>?_
      have key:=x i (d.trans w)
      unfold whB at key
      rw [if_neg a,if_pos T] at key
      exact ZHn (K:=fun t=>K t i) key
     ·refine rS (Zb c rfl) ?_
      rw [a2]
      have hf:=f.1
      refine ⟨ht.ext d,by rw [ZdJ];omega,fun i w=>?_⟩
      have G:Lib.validD (Zj v.t).data.toList=Lib.validD v.t:=rfl
      rw [G]
      have key:=x i (d.trans w)
      unfold whB at key
      rw [if_neg a,if_neg n4,if_pos U] at key
      exact ZHn (K:=fun t=>K t i) key
     ·unfold whB at key
      rw [if_neg a,if_neg n4,if_neg y,if_pos V] at key
      exact ZFr (K:=fun t=>K t g) key
     ·unfold whB at key
      rw [if_neg a,if_neg n4,if_neg y,if_neg n6,if_pos J] at key
      cases l:decide (v.t=[]) with
      | false=>rw [l] at key;exact Zl rfl key
      | true =>
        rw [l,Aqa] at key
        refine Zm rfl (rL (s:=z.2.2.2.1) (Zb c rfl) (rL (s:=z.2.2.1) (Zb c rfl) (Zag (fun H=>?_) fun H=>?_)))
        ·refine rL (s:=z.2.2.2.1) (Zb c rfl) (ZqT (Ym a3 a4 fun j L I=>Zu d I) ?_ f.2.1 (ht.ext d) fun i w=>Zh ?_)
         ·intro I j L
          have:=N j (a4 I j L)
          have:=d.size
          have:sz g=g.size:=rfl
          have:sz h=h.size:=rfl
          omega
         ·have key:=x i (d.trans w)
          unfold whB at key
          rw [if_neg a,if_neg n4,if_neg y,if_neg n6,if_pos J,l,Aqa,decide_eq_true (show v.ns.length=v.sub.len by omega),Aqa] at key
          rw [Bool.not_not];exact key
        ·rw [decide_eq_false (show ¬ v.ns.length=v.sub.len by omega),Aqb] at key
         exact key
     ·unfold whB at key
      rw [if_neg a,if_neg n4,if_neg y,if_neg n6,if_neg W] at key
      exact key
  ·refine m (n:=1) (fun e=>⟨rfl,by simp [e]⟩) fun n1=>m (n:=2) (fun e=>⟨rfl,by simp [e]⟩) fun n2=>Zh ⟨rfl,?_⟩
   simp only [beq_iff_eq]
   omega
end
end Go.Proofs.YtpjbjdheeemdiaaGreatDoor
