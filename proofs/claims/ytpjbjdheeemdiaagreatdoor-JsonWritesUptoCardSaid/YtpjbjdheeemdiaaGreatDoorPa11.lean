/- What the library tells of one rune's bytes; the beginnings of runes: plain words. No program. -/
import Derived.Lib.RuneCount
import Derived.Laws.Strings
import Derived.Test.YtpjbjdheeemdiaaGreatDoorPa10
set_option linter.unusedVariables false
set_option linter.unusedSimpArgs false
namespace Go.Js
open Go
theorem ZpD:∀ b:Fin 256,2≤nRb ⟨⟨b⟩⟩→nRb ⟨⟨b⟩⟩≤4∧(loR ⟨⟨b⟩⟩=128∨loR ⟨⟨b⟩⟩=144∨loR ⟨⟨b⟩⟩=160)∧loR ⟨⟨b⟩⟩≤hiR ⟨⟨b⟩⟩:=by decide +kernel
theorem ZvD:∀ c:UInt8,2≤nRb c→nRb c≤4∧(loR c=128∨loR c=144∨loR c=160)∧loR c≤hiR c:=fun ⟨⟨b⟩⟩=>ZpD b
theorem ZvT (c:UInt8):nRb c≤4:=by
  by_cases h:2≤nRb c
  ·exact (ZvD c h).1
  ·omega
theorem Zmy:∀ {lo hi:Nat} {r t:BL},okC lo hi (r++t)=(okC lo hi r&&(if r=[] then okC lo hi t else okC 128 191 t))
  | lo,hi,[],t=>by simp [okC]
  | lo,hi,d::r,t=>by
    simp only [List.cons_append,okC,Zmy (r:=r)]
    by_cases hr:r=[]
    ·subst hr;simp [okC,Bool.and_assoc]
    ·simp [hr,Bool.and_assoc]
theorem Zjx {x t:BL} (hx:x≠[]) (h:ZaQ (x++t)=true):Zjy x=true:=by
  rcases x with _ | ⟨c,r⟩
  ·exact absurd rfl hx
  ·simp only [List.cons_append,ZaQ,Bool.and_eq_true,decide_eq_true_eq,List.length_append] at h
   rw [Zmy,Bool.and_eq_true] at h
   simp only [Zjy,Bool.and_eq_true,decide_eq_true_eq]
   exact ⟨⟨h.1.1,by omega⟩,h.2.1⟩
theorem ZtP {x:BL} (h:Zjy x=true):x.length≤4∧(ZaQ x=false→x.length≤3):=by
  rcases x with _ | ⟨c,r⟩
  ·cases h
  ·simp only [Zjy,Bool.and_eq_true,decide_eq_true_eq] at h
   have:=ZvT c
   refine ⟨by simp;omega,fun hn=>?_⟩
   have:r.length+1≠nRb c:=fun e=>by simp [ZaQ,e,h.2,h.1.1] at hn
   simp;omega
def Ztc:List BL:=[[128,128,128],[144,128,128],[160,128,128]]
theorem ZvX {x:BL} (h:Zjy x=true) (hn:ZaQ x=false):∃ low,low∈Ztc∧∃ n,x.length<n∧n≤4∧ZaQ (x++low.take (n - x.length))=true:=by
  rcases x with _ | ⟨c,r⟩
  ·cases h
  simp only [Zjy,Bool.and_eq_true,decide_eq_true_eq] at h
  obtain ⟨⟨h0,hl⟩,hc⟩:=h
  have hne:r.length+1≠nRb c:=fun e=>by simp [ZaQ,e,hc,h0] at hn
  have h2:2≤nRb c:=by omega
  obtain ⟨h4,hlo,hh⟩:=ZvD c h2
  have key:∀ low:BL,low.length=3→(if r=[] then okC (loR c) (hiR c) (low.take (nRb c - (r.length+1))) else okC 128 191 (low.take (nRb c - (r.length+1))))=true→ZaQ (c::r++low.take (nRb c - (c::r).length))=true:=fun low hlen hok=>by
    simp only [List.cons_append,ZaQ,Bool.and_eq_true,decide_eq_true_eq,List.length_append,List.length_take,List.length_cons]
    refine ⟨⟨h0,by omega⟩,?_⟩
    rw [Zmy,hc,Bool.true_and]
    exact hok
  have cont:∀ m,okC 128 191 (([128,128]:BL).take m)=true:=fun m=>by
    rcases m with _ | _ | _ | m<;>rfl
  have ok3:∀ (a:UInt8) (m:Nat),(loR c≤a.toNat∧a.toNat≤hiR c)→okC (loR c) (hiR c) (([a,128,128]:BL).take m)=true:=fun a m ha=>by
    rcases m with _ | m
    ·rfl
    ·rw [List.take_succ_cons]
     simp only [okC,Bool.and_eq_true,decide_eq_true_eq]
     exact ⟨ha,cont m⟩
  have ok9:∀ (m:Nat),okC 128 191 (([128,128,128]:BL).take m)=true:=fun m=>by
    rcases m with _ | _ | _ | _ | m<;>rfl
  by_cases hr:r=[]
  ·rcases hlo with e | e | e
   ·exact ⟨[128,128,128],by simp [Ztc],nRb c,by simp;omega,h4,key _ rfl (by rw [if_pos hr];exact ok3 128 _ (by rw [e] at hh ⊢;exact ⟨by decide,hh⟩))⟩
   ·exact ⟨[144,128,128],by simp [Ztc],nRb c,by simp;omega,h4,key _ rfl (by rw [if_pos hr];exact ok3 144 _ (by rw [e] at hh ⊢;exact ⟨by decide,hh⟩))⟩
   ·exact ⟨[160,128,128],by simp [Ztc],nRb c,by simp;omega,h4,key _ rfl (by rw [if_pos hr];exact ok3 160 _ (by rw [e] at hh ⊢;exact ⟨by decide,hh⟩))⟩
  ·exact ⟨[128,128,128],by simp [Ztc],nRb c,by simp;omega,h4,key _ rfl (by rw [if_neg hr];exact ok9 _)⟩
theorem Zji {x:BL} (h:ZaQ x=true):Lib.validD x=true:=by
  rcases x with _ | ⟨c,r⟩
  ·cases h
  ·have ht:(c::r).take (nRb c)=c::r:=by
     simp only [ZaQ,Bool.and_eq_true,decide_eq_true_eq] at h
     exact List.take_of_length_le (by simp;omega)
   have h2:=(Zaj c r).2 (by rw [ht];exact h)
   have h3:=((Zaj c r).1 h2).1
   rw [Lib.validD_step _ (by simp),if_neg h2,h3]
   have:(c::r).drop (nRb c)=[]:=by
     simp only [ZaQ,Bool.and_eq_true,decide_eq_true_eq] at h
     exact List.drop_of_length_le (by simp;omega)
   rw [this];rfl
theorem ZoT (s:ByteArray) (pos:Nat) (hp:pos<s.size) (fuel:Nat):1≤Lib.runeCountFrom s (fuel+1) pos:=by
  unfold Lib.runeCountFrom;rw [if_pos hp];omega
theorem ZqZ (c:UInt8) (r:BL):(Lib.decodeL (c::r)).2≤r.length+1:=by
  by_cases hb:(Lib.decodeL (c::r)).1=65533∧(Lib.decodeL (c::r)).2=1
  ·omega
  ·obtain ⟨e,ho⟩:=(Zaj c r).1 hb
   rw [e]
   rcases hn:nRb c with _ | n
   ·omega
   ·rw [hn,List.take_succ_cons] at ho
    simp only [ZaQ,Bool.and_eq_true,decide_eq_true_eq,List.length_take] at ho
    omega
theorem ZlV {c:UInt8} {r:BL}:Lib.runeCount ⟨(c::r).toArray⟩=1↔(Lib.decodeL (c::r)).2=r.length+1:=by
  have hsz:(⟨(c::r).toArray⟩:ByteArray).size=r.length+1:=rfl
  have hw:=ZqZ c r
  unfold Lib.runeCount
  rw [hsz]
  have e:Lib.runeCountFrom ⟨(c::r).toArray⟩ (r.length+1) 0=1+Lib.runeCountFrom ⟨(c::r).toArray⟩ r.length (Lib.decodeL (c::r)).2:=by
    conv=>lhs;unfold Lib.runeCountFrom
    rw [hsz,if_pos (Nat.succ_pos _),Nat.zero_add]
    rfl
  rw [e]
  by_cases hl:(Lib.decodeL (c::r)).2<r.length+1
  ·obtain ⟨f,hf⟩:∃ f,r.length=f+1:=⟨r.length - 1,by have:=Lib.decodeL_width (c::r);omega⟩
   have:=ZoT ⟨(c::r).toArray⟩ (Lib.decodeL (c::r)).2 (by rw [hsz];exact hl) f
   rw [hf] at hl ⊢
   omega
  ·rw [Lib.runeCountFrom_end _ _ _ (by rw [hsz];exact hl)]
   omega
theorem Zd1 {x:BL}:(Lib.validD x=true∧Lib.runeCount ⟨x.toArray⟩=1)↔ZaQ x=true:=by
  rcases x with _ | ⟨c,r⟩
  ·constructor
   ·rintro ⟨_,h⟩;cases h
   ·intro h;cases h
  constructor
  ·rintro ⟨hv,h1⟩
   rw [ZlV] at h1
   rw [Lib.validD_step _ (by simp)] at hv
   split at hv
   ·cases hv
   ·rename_i hb
    obtain ⟨a,b⟩:=(Zaj c r).1 hb
    rw [List.take_of_length_le (by simp;omega)] at b
    exact b
  ·intro h
   have hl:r.length+1=nRb c:=by
     simp only [ZaQ,Bool.and_eq_true,decide_eq_true_eq] at h
     exact h.1.2
   refine ⟨Zji h,ZlV.2 ?_⟩
   have ht:(c::r).take (nRb c)=c::r:=List.take_of_length_le (by simp;omega)
   rw [((Zaj c r).1 ((Zaj c r).2 (by rw [ht];exact h))).1,hl]
theorem Zk8:∀ (n:Nat) (l:BL),l.length≤n→(Lib.validD l=true↔Utf l)
  | 0,l,h=>by
    have:l=[]:=List.eq_nil_of_length_eq_zero (by omega)
    subst this
    exact ⟨fun _=> .nil,fun _=>rfl⟩
  | n+1,[],_=>⟨fun _=> .nil,fun _=>rfl⟩
  | n+1,c::r,h=>by
    rw [Lib.validD_step _ (by simp)]
    have hw:=Lib.decodeL_width (c::r)
    simp only [List.length_cons] at hw h
    by_cases hb:(Lib.decodeL (c::r)).1=65533∧(Lib.decodeL (c::r)).2=1
    ·rw [if_pos hb]
     refine ⟨fun h=>(by cases h),fun hu=>?_⟩
     exfalso
     generalize hl:c::r=l at hu
     cases hu with
     | nil=>cases hl
     | cons hx hu =>
       rename_i x l'
       rcases x with _ | ⟨d,x⟩
       ·cases hx
       ·cases hl
        refine (Zaj c _).2 ?_ hb
        have he:x.length+1=nRb c:=by
          simp only [ZaQ,Bool.and_eq_true,decide_eq_true_eq] at hx
          exact hx.1.2
        rw [← he]
        have:((c::(x++l')).take (x.length+1))=c::x:=by simp
        show ZaQ ((c::(x++l')).take (x.length+1))=true
        rw [this];exact hx
    ·rw [if_neg hb]
     obtain ⟨e,ho⟩:=(Zaj c r).1 hb
     rw [e]
     have hd:((c::r).drop (nRb c)).length≤n:=by
       have:1≤nRb c:=by rw [← e];exact (by omega)
       simp;omega
     rw [Zk8 n _ hd]
     constructor
     ·intro hu
      have:=Utf.cons ho hu
      rwa [List.take_append_drop] at this
     ·intro hu
      generalize hl:c::r=l at hu
      cases hu with
      | nil=>cases hl
      | cons hx hu =>
        rename_i x l'
        rcases x with _ | ⟨d,x⟩
        ·cases hx
        ·cases hl
         have he:x.length+1=nRb c:=by
           simp only [ZaQ,Bool.and_eq_true,decide_eq_true_eq] at hx
           exact hx.1.2
         rw [← he]
         simpa using hu
theorem Zeu (l:BL):Lib.validD l=true↔Utf l:=Zk8 _ l (Nat.le_refl _)
theorem Zpp {x:BL} (h:Zjy x=true):Lib.validD x=ZaQ x:=by
  cases ho:ZaQ x with
  | true=>exact Zji ho
  | false =>
    cases hv:Lib.validD x with
    | false=>rfl
    | true =>
      exfalso
      have hu:=(Zeu x).1 hv
      cases hu with
      | nil=>cases h
      | cons hx hu =>
        rename_i y l
        have hp:=h
        rcases y with _ | ⟨c,y⟩
        ·cases hx
        ·have he:y.length+1=nRb c:=by
           simp only [ZaQ,Bool.and_eq_true,decide_eq_true_eq] at hx
           exact hx.1.2
         simp only [List.cons_append,Zjy,Bool.and_eq_true,decide_eq_true_eq,List.length_append] at hp
         have:l=[]:=List.eq_nil_of_length_eq_zero (by omega)
         subst this
         rw [List.append_nil] at ho
         rw [hx] at ho;cases ho
end Go.Js
namespace Go.Proofs.YtpjbjdheeemdiaaGreatDoor
open Go Go.Fw Go.Js
abbrev UB (R B:Nat):Nat→Prop:=fun k=>k=R∨B≤k
theorem toU (c:UInt8):(c.toNat:Int).toNat.toUInt8=c:=by simp
abbrev ZtF:BL:=[34,92,47,98,102,110,114,116]
theorem ZtG:∀ c:UInt8,Zbr c=none→Lib.indexByte ZtF c<0:=ZuE (by decide +kernel)
theorem ZrH:∀ c:UInt8,(Zbr c).isSome=true→0≤Lib.indexByte ZtF c∧(⟨#[34,92,47,8,12,10,13,9]⟩:ByteArray)[(Lib.indexByte ZtF c).toNat]?=Zbr c:=ZuE (by decide +kernel)
theorem Zlf (a b:ByteArray):Za0 a b=decide (a=b):=by
  unfold Za0
  rw [ByteArray.toList_eq,ByteArray.toList_eq]
  by_cases h:a=b
  ·rw [h];simp
  ·rw [decide_eq_false h,beq_eq_false_iff_ne]
   intro e
   exact h (ByteArray.ext (Array.toList_inj.1 e))
theorem Zer.extractN {s:ByteArray} {n:Nat} {l:BL} (h:Zer s n l) {k:Nat} (hk:k≤l.length):s.extract n (n+k)=Ze (l.take k):=by
  have:=h.extract (h.dropK hk) (Nat.le_add_right _ _)
  rw [this]
  congr 1
  unfold upto
  rw [List.length_drop,show l.length - (l.length - k)=k by omega]
theorem YO (l:BL):(Ze l).size=l.length:=rfl
theorem Zmu {l:BL} {K:Bool→HP} {h:Zc} (hk:K (X3 l).isSome h):XN (Ze l) (ByteArray.mk #[92,117]) K h:=by
  unfold XN ZbT ZC Yx
  have h2:(ByteArray.mk #[92,117]).size=2:=rfl
  rw [h2,YO]
  rcases l with _ | ⟨a,_ | ⟨b,l⟩⟩
  ·exact Zn (by simp) (Zd hk)
  ·exact Zn (by simp) (Zd hk)
  ·refine Zm (by simp;omega) ⟨by omega,by omega,by rw [YO];simp;omega,?_⟩
   have e:(Ze (a::b::l)).extract 0 2=Ze [a,b]:=by
     apply ByteArray.ext
     simp [Ze]
   show ZD (Za0 ((Ze (a::b::l)).extract 0 2) _) _
   rw [e]
   have e2:Za0 (Ze [a,b]) (ByteArray.mk #[92,117])=(X3 (a::b::l)).isSome:=by
     rw [Zb8]
     rw [Zlf]
     by_cases hc:a=92∧b=117
     ·rw [if_pos hc,hc.1,hc.2];exact decide_eq_true rfl
     ·rw [if_neg hc]
      refine decide_eq_false fun e=>hc ?_
      have:=congrArg (fun x:ByteArray=>x.data.toList) e
      simpa [Ze] using this
   rw [e2]
   exact Zd (Zd hk)
theorem ZkP {l o r:BL} (h:ZnN l = .ok o r):o.length+r.length≤l.length∧r <:+l:=by
  rcases l with _ | ⟨c,l⟩
  ·cases h
  ·rw [Ze1] at h
   cases hm:Zbr c with
   | some m=>rw [hm] at h;cases h;exact ⟨by simp;omega,List.suffix_cons _ _⟩
   | none =>
     rw [hm] at h
     simp only at h
     split at h
     ·rw [Zgq] at h
      obtain ⟨n,l1,h1,h2⟩:=ZR h
      obtain ⟨a1,b1⟩:=ZaZ 4 h1
      cases hb:(if 55296≤n∧n<56320 then X3 l1 else none) with
      | none =>
        simp only [hb] at h2
        cases h2
        have:=Zez (Zea n)
        exact ⟨by simp;omega,XB b1⟩
      | some l2 =>
        simp only [hb] at h2
        have hb':X3 l1=some l2:=by
          split at hb
          ·exact hb
          ·cases hb
        have e:=Zaf hb'
        obtain ⟨m,l3,h3,h4⟩:=ZR h2
        obtain ⟨a3,b3⟩:=ZaZ 4 h3
        have hl1:l1.length=l2.length+2:=by rw [e];rfl
        split at h4
        ·injection h4 with e1 e2
         subst e1 e2
         have:=Zez (65536+(n - 55296)*1024+(m - 56320))
         have s2:l3 <:+l1:=by rw [e];exact XB (XB b3)
         exact ⟨by simp;omega,XB (s2.trans b1)⟩
        ·cases h4
         have:=Zez (Zea n)
         exact ⟨by simp;omega,XB b1⟩
     ·cases h
theorem ZmP {h:Zc} {R B:Nat} {T:TypeId} {s:ByteArray} {l out:BL} (hr:Rd h R s l) (hb:Bld h B T out) (hRB:R<B) (hs:out.length<900000000) {K:HP} {P:Value→HP}
    (hok:∀ o r h',ZnN l = .ok o r→Rd h' R s r→Bld h' B T (out++o)→Upd (UB R B) h h'→K h') (herr:OnE h R s (UB R B) (ZnN l) P):XA (At R) (At B) K P h:=by
  unfold XA ZbC
  have uR:∀ {a b:Zc},Upd (· = R) a b→Upd (UB R B) a b:=fun u=>u.mono fun k _ hk=> .inl hk
  have uB:∀ {a b:Zc},Upd (fun k=>B≤k) a b→Upd (UB R B) a b:=fun u=>u.mono fun k _ hk=> .inr hk
  have keepR:∀ {a b:Zc} {q:BL},Rd a R s q→Upd (fun k=>B≤k) a b→Rd b R s q:=fun r u=>r.upd u (by omega)
  have keepB:∀ {a b:Zc} {o:BL},Bld a B T o→Upd (· = R) a b→Bld b B T o:=fun r u=>r.upd u (fun k hk=>by subst hk;exact hRB)
  refine Xm hr (Za ?_)
  refine Zr (fun _ h'=>h'=h∧(l=[]∨∃ c l',l=c::l'∧Zbr c=none)) ?_ ?_
  ·rintro ⟨⟩ h1 ⟨rfl,hl⟩
   refine Zr (fun _ h'=>h'=h1∧∃ l',l=117::l') ?_ ?_
   ·rintro ⟨⟩ h2 ⟨rfl,l1,rfl⟩
    have hesc:ZnN (117::l1)=ZwC l1:=by rw [Ze1,Zqn];simp
    refine Zb7 hr fun h3 r3 u3 z3=>?_
    refine ZnC r3 (fun n l2 h4 hh r4 u4 z4=>Za ?_) fun e r h4 he u4=>herr e r h4 (by rw [hesc,Zgq,he];rfl) (uR (u3.trans u4))
    have hn:n<65536:=by have:=Zik 4 hh;omega
    have b4:=keepB (keepB hb u3) u4
    have u24:=uR (u3.trans u4)
    refine Zr (fun _ h'=>ZnN (117::l1) = .ok (Zcc (Zea n)) l2∧Rd h' R s l2∧Bld h' B T out∧Upd (UB R B) h2 h') ?_ ?_
    ·rintro ⟨⟩ h5 ⟨q5,r5,b5,u5⟩
     refine Zr (fun p h'=>h'=h5∧p.1=(Zea n:Int)) ?_ ?_
     ·rintro ⟨m,u⟩ h6 ⟨rfl,hm⟩
      dsimp only at hm ⊢
      refine Zfq b5 (n:=Zea n) ?_ ?_ hm hs fun i h7 b7 u7=>hok _ _ h7 q5 (keepR r5 u7) b7 (u5.trans (uB u7))
      ·unfold Zea;split<;>omega
      ·unfold Zea;split<;>omega
     ·refine Zj (fun h1=>Zj (fun h2=>Za ⟨rfl,?_⟩) fun h2=>⟨rfl,?_⟩) fun h1=>⟨rfl,?_⟩
      ·unfold Zea;rw [if_pos (by omega)];rfl
      ·unfold Zea;rw [if_neg (by omega)]
      ·unfold Zea;rw [if_neg (by omega)]
    ·
     refine Zr (fun p h'=>h'=h4∧p.1=(decide (55296≤n∧n<56320)&&(X3 l2).isSome)) ?_ ?_
     ·rintro ⟨b,u⟩ h5 ⟨rfl,hb5⟩
      dsimp only at hb5 ⊢
      subst hb5
      by_cases hhi:55296≤n∧n<56320
      case neg =>
        refine Zn (by simp [hhi]) ⟨?_,r4,b4,u24⟩
        rw [hesc,Zgq,hh];simp [hhi]
      cases hbu:X3 l2 with
      | none =>
        refine Zn (by simp) ⟨?_,r4,b4,u24⟩
        rw [hesc,Zgq,hh];simp [hhi,hbu]
      | some l3 =>
        have hq:ZnN (117::l1)=(Zcl 4 0 l3).bind fun m l4=>if 56320≤m∧m<57344 then .ok (Zcc (65536+(n - 55296)*1024+(m - 56320))) l4 else .ok (Zcc (Zea n)) l2:=by
          rw [hesc,Zgq,hh];simp [hhi,hbu]
        have e:=Zaf hbu
        refine Zm (by simp [hhi]) (Zfn r4 fun was hwas=>Za ?_)
        refine ZtM r4 (m:=2) rfl (by rw [e];simp) fun h6 r6 u6 z6=>?_
        have r6':Rd h6 R s l3:=by rw [e] at r6;exact r6
        refine ZnC r6' (fun m l4 h7 hm r7 u7 z7=>Za ?_) fun e' r h7 he u7=>herr e' r h7 (by rw [hq,he];rfl) (u24.trans (uR (u6.trans u7)))
        have hm4:m<65536:=by have:=Zik 4 hm;omega
        have back:¬ (56320≤m∧m<57344)→Zb (At R) fun b62 o63=>st h7 b62 (o63+1) (.int .i64 (was:Int)) fun h64=>ZnN (117::l1) = .ok (Zcc (Zea n)) l2∧Rd h64 R s l2∧Bld h64 B T out∧Upd (UB R B) h2 h64:=fun hlo =>
          Znp r7 rfl hwas fun h8 r8 u8 z8=>⟨by rw [hq,hm];simp [hlo],r8,keepB (keepB (keepB b4 u6) u7) u8,u24.trans (uR ((u6.trans u7).trans u8))⟩
        refine Zj (fun h1=>Zj (fun h2=>⟨by decide,?_⟩) fun h2=>back (by omega)) fun h1=>back (by omega)
        have hv:IntKind.wrap .i32 ((IntKind.wrap .i32 ((65536:Int)+(Znl .i32 (IntKind.wrap .i32 ((n:Int) - 55296)) 10)))+(IntKind.wrap .i32 ((m:Int) - 56320)))=((65536+(n - 55296)*1024+(m - 56320):Nat):Int):=by
          rw [Zhz (n:=(n:Int) - 55296) (by omega) (by omega),show (n:Int) - 55296=((n - 55296:Nat):Int) by omega,show ((10:Int))=((10:Nat):Int) from rfl,ZvG (by omega) (by omega),
            Zhz (n:=(m:Int) - 56320) (by omega) (by omega),Zhz (n:=65536+_) (by omega) (by omega),Zhz (by omega) (by omega)]
          omega
        refine Zfq (keepB (keepB b4 u6) u7) (n:=65536+(n - 55296)*1024+(m - 56320)) (by omega) (by omega) hv hs fun i h8 b8 u8=>hok _ _ h8 ?_ (keepR r7 u8) b8 ((u24.trans (uR (u6.trans u7))).trans (uB u8))
        rw [hq,hm]
        have:56320≤m∧m<57344:=by omega
        simp [this]
     ·refine Zj (fun h1=>Zj (fun h2=>?_) fun h2=>⟨rfl,by simp;omega⟩) fun h1=>⟨rfl,by simp;omega⟩
      refine Zno r4 (Zfn r4 fun p hp=>?_)
      have hlen:=hp.len
      refine ⟨by omega,by omega,by omega,?_⟩
      have e:s.extract (p:Int).toNat (s.size:Int).toNat=Ze l2:=by
        rw [Int.toNat_natCast,Int.toNat_natCast,← hlen,hp.extractN (Nat.le_refl _),List.take_length]
      rw [e]
      refine ⟨((X3 l2).isSome,()),Zmu ⟨rfl,rfl⟩,rfl,?_⟩
      have:55296≤n∧n<56320:=by omega
      simp [this]
   ·refine Zfh 117 (fun hn=>ZaL (α:=BL) hr rfl fun e' r he hr'=>herr e' r h1 ?_ (Upd.refl _ _)) fun l' e=>⟨rfl,l',e⟩
    rw [← he]
    rcases hl with rfl | ⟨c,l',rfl,hm⟩
    ·rfl
    ·rw [Ze1,hm]
     simp only
     rw [if_neg (hn c l' rfl)];rfl
  ·refine Zii ?_
   rcases l with _ | ⟨c,l'⟩
   ·exact Za (Zn (decide_eq_false (by decide)) ⟨rfl,.inl rfl⟩)
   ·rw [show (XM (c::l')).toNat.toUInt8=c from toU c]
    cases hm:Zbr c with
    | none =>
      have key:=ZtG c hm
      exact Za (Zn (decide_eq_false (Int.not_le.2 key)) ⟨rfl,.inr ⟨c,l',rfl,hm⟩⟩)
    | some m =>
      obtain ⟨k0,k1⟩:=ZrH c (by rw [hm];rfl)
      rw [hm] at k1
      refine Za ?_
      refine Zm (decide_eq_true k0) (Zmt hr (fun _=>?_) fun h0=>by cases h0)
      refine ⟨m,k0,k1,?_⟩
      refine Zhy hb rfl hs fun h2 b2 u2=>?_
      refine Zb7 (keepR hr u2) fun h3 r3 u3 z3=>hok [m] l' h3 ?_ r3 (keepB b2 u3) ((uB u2).trans (uR u3))
      rw [Ze1,hm]
theorem ZgS {x:BL} (hx:x.length≤1000000) {K:Int→HP} {h:Zc} (hk:∀ h',Ext h h'→K (Lib.runeCount (Ze x)) h'):Yv (Ze x) K h:=⟨by rw [YO];omega,hk⟩
theorem Ze5 {x:BL} (hx:x.length≤1000000) {K:Bool→HP} {h:Zc} (ht:Zcb h) (hk:∀ h',Ext h h'→K (Lib.validD x) h'):ZL (Ze x) K h:=⟨ht,by rw [YO];omega,by simpa using hk⟩
theorem ZdB {x y:BL} (hx:x.length+y.length≤1000000) {K:ByteArray→Prop} (hk:K (Ze (x++y))):Zi9 (Ze x) (Ze y) K:=by
  refine ⟨by rw [YO,YO];omega,?_⟩
  have:Ze x++Ze y=Ze (x++y):=by
    apply ByteArray.ext
    simp [Ze]
  rw [this];exact hk
theorem Zki {x:BL} {n:Nat} (hn:n≤x.length) {m:Int} (hm:m=n) {K:ByteArray→Prop} (hk:K (Ze (x.take n))):Zlg (Ze x) 0 m K:=by
  subst hm
  refine ⟨by omega,by omega,by rw [YO];omega,?_⟩
  have:(Ze x).extract (0:Int).toNat (n:Int).toNat=Ze (x.take n):=by
    apply ByteArray.ext
    simp [Ze]
  rw [this];exact hk
def Zd4 (i:Nat):BL:=Ztc.getD i []
theorem ZtY {low:BL} (h:low∈Ztc):∃ i,i<3∧Zd4 i=low:=by
  simp only [Ztc,List.mem_cons,List.not_mem_nil,or_false] at h
  rcases h with rfl | rfl | rfl
  ·exact ⟨0,by omega,rfl⟩
  ·exact ⟨1,by omega,rfl⟩
  ·exact ⟨2,by omega,rfl⟩
theorem Zqp {i:Nat} (h:i<3):(Zd4 i).length=3:=by
  obtain rfl | rfl | rfl:i=0∨i=1∨i=2:=by omega
  all_goals rfl
def ZsD (x:BL) (i n:Nat):Prop:=∀ k,x.length<k→k<n→ZaQ (x++(Zd4 i).take (k - x.length))=false
theorem ZmW {x:BL} (hne:x≠[]) (h4:x.length≤4) {h:Zc} (ht:Zcb h) {K:Bool→HP} (hk:∀ h',Ext h h'→K (Zjy x) h'):Zck (Ze x) K h:=by
  unfold Zck Zd9
  have hlen:0<x.length:=List.length_pos_iff.2 hne
  have hsz:((Ze x).size:Int)=x.length:=rfl
  refine ZaX fun h1 c1 e1 z1=>?_
  have yes:∀ {t:BL} {h':Zc},Ext h1 h'→ZaQ (x++t)=true→K true h':=fun {t h'} e ho=>by
    have:=hk h' (e1.trans e)
    rwa [Zjx hne ho] at this
  refine Zx (fun p h'=>∃ i:Nat,p.1=i∧i≤3∧Ext h1 h'∧∀ j,j<i→ZsD x j 5) (fun p _=>(3 - p.1).toNat) ⟨0,rfl,by omega,Ext.refl _,fun j hj=>by omega⟩ ?_
  rintro ⟨s11,u⟩ h2 ⟨i,hi,hi3,e2,hno⟩
  dsimp only at hi ⊢
  subst hi
  refine Zj (fun hlt=>?_) fun hge=>?_
  ·have hi:i<3:=by omega
   have c2:=Z6 c1 e2
   have hstr:(Ze (Zd4 i))=[ByteArray.mk #[128,128,128],ByteArray.mk #[144,128,128],ByteArray.mk #[160,128,128]].getD i (ByteArray.mk #[]):=by
     obtain rfl | rfl | rfl:i=0∨i=1∨i=2:=by omega
     all_goals rfl
   have hcell:Zaq (0+i*1) (obj h2 h.size)=some (.string (Ze (Zd4 i))):=by
     rw [hstr]
     obtain rfl | rfl | rfl:i=0∨i=1∨i=2:=by omega
     ·exact Zi c2 rfl
     ·exact Zi c2 rfl
     ·exact Zi c2 rfl
   refine ZgM (n:=i) rfl (by omega) (rS hcell (Za ?_))
   have hll:=Zqp hi
   refine Zx (fun p h'=>∃ k:Nat,p.1=k∧x.length≤k∧k≤4∧Ext h1 h'∧ZsD x i k) (fun p _=>(4 - p.1).toNat) ⟨x.length,rfl,Nat.le_refl _,h4,e2,fun k h1 h2=>by omega⟩ ?_
   rintro ⟨k6,u2⟩ h3 ⟨k,hk6,hk0,hk4,e3,hno3⟩
   dsimp only at hk6 ⊢
   subst hk6
   have ht3:Zcb h3:=ht.ext (e1.trans e3)
   refine Zj (fun hlt4=>?_) fun hge4=>?_
   ·rw [hsz,ZJ (by omega) (by omega)]
    refine Zki (n:=k - x.length) (by omega) (by omega) (ZdB (by simp;omega) ?_)
    have hl9:(x++(Zd4 i).take (k - x.length)).length≤1000000:=by simp;omega
    have step:∀ {h':Zc},Ext h3 h'→ZaQ (x++(Zd4 i).take (k - x.length))=false→Zl (IntKind.wrap .i64 ((k:Int)+1)) fun k17=>(∃ k_1:Nat,k17=k_1∧x.length≤k_1∧k_1≤4∧Ext h1 h'∧ZsD x i k_1)∧(4 - k17).toNat<(4 - (k:Int)).toNat:=fun {h'} e ho=>by
      refine Za ?_
      rw [ZJ (by omega) (by omega)]
      refine ⟨⟨k+1,rfl,by omega,by omega,e3.trans e,fun q q1 q2=>?_⟩,by omega⟩
      rcases Nat.lt_or_ge q k with h | h
      ·exact hno3 q q1 h
      ·rw [show q=k by omega];exact ho
    refine ZgS hl9 fun h5 e5=>Za (Yh (fun h1'=>Ze5 hl9 (ht3.ext e5) fun h6 e6=>?_) fun hn1=>?_)
    ·cases hv:Lib.validD (x++(Zd4 i).take (k - x.length)) with
     | true=>exact ZdP (yes (e3.trans (e5.trans e6)) (Zd1.1 ⟨hv,by have:Lib.runeCount (Ze (x++(Zd4 i).take (k - x.length)))=1:=by omega
                                                                   exact this⟩))
     | false =>
       refine Zda (step (e5.trans e6) ?_)
       cases ho:ZaQ (x++(Zd4 i).take (k - x.length)) with
       | false=>rfl
       | true=>rw [(Zd1.2 ho).1] at hv;cases hv
    ·refine step e5 ?_
     cases ho:ZaQ (x++(Zd4 i).take (k - x.length)) with
     | false=>rfl
     | true=>exact absurd (by have:=(Zd1.2 ho).2;show ((Lib.runeCount (Ze _):Nat):Int)=1;rw [this];rfl) hn1
   ·obtain rfl:k=4:=by omega
    have next:∀ {h':Zc},Ext h3 h'→(x.length<4→ZaQ (x++(Zd4 i).take (4 - x.length))=false)→(∃ i_1:Nat,IntKind.wrap .i64 ((i:Int)+1)=i_1∧i_1≤3∧Ext h1 h'∧∀ j,j<i_1→ZsD x j 5)∧(3 - IntKind.wrap .i64 ((i:Int)+1)).toNat<(3 - (i:Int)).toNat:=fun {h'} e ho=>by
      rw [ZJ (by omega) (by omega)]
      refine ⟨⟨i+1,rfl,by omega,e3.trans e,fun j hj=>?_⟩,by omega⟩
      rcases Nat.lt_or_ge j i with h | h
      ·exact hno j h
      ·obtain rfl:j=i:=by omega
       intro q q1 q2
       rcases Nat.lt_or_ge q 4 with h | h
       ·exact hno3 q q1 h
       ·obtain rfl:q=4:=by omega
        exact ho (by omega)
    rw [hsz]
    refine Zj (fun hlt=>?_) fun hge=>next (Ext.refl _) fun h=>by omega
    have e4:(x++Zd4 i).take 4=x++(Zd4 i).take (4 - x.length):=by
      rw [List.take_append,List.take_of_length_le (by omega)]
    have hl9:(x++(Zd4 i).take (4 - x.length)).length≤1000000:=by simp;omega
    refine ZdB (by omega) (Zki (n:=4) (by simp;omega) rfl ?_)
    rw [e4]
    refine Ze5 hl9 ht3 fun h5 e5=>?_
    cases hv:Lib.validD (x++(Zd4 i).take (4 - x.length)) with
    | false =>
      refine Zda (next e5 fun _=>?_)
      cases ho:ZaQ (x++(Zd4 i).take (4 - x.length)) with
      | false=>rfl
      | true=>rw [(Zd1.2 ho).1] at hv;cases hv
    | true =>
      refine ZdP (ZdB (by omega) (Zki (n:=4) (by simp;omega) rfl ?_))
      rw [e4]
      refine ZgS hl9 fun h6 e6=>Yh (fun h1'=>yes (e3.trans (e5.trans e6)) (Zd1.1 ⟨hv,?_⟩)) fun hn1=>next (e5.trans e6) fun _=>?_
      ·have:Lib.runeCount (Ze (x++(Zd4 i).take (4 - x.length)))=1:=by omega
       exact this
      ·cases ho:ZaQ (x++(Zd4 i).take (4 - x.length)) with
       | false=>rfl
       | true=>exact absurd (by have:=(Zd1.2 ho).2;show ((Lib.runeCount (Ze _):Nat):Int)=1;rw [this];rfl) hn1
  ·obtain rfl:i=3:=by omega
   have ht2:Zcb h2:=ht.ext (e1.trans e2)
   have fin:∀ h',Ext h2 h'→K (ZaQ x) h':=fun h' e=>by
     have:=hk h' (e1.trans (e2.trans e))
     cases ho:ZaQ x with
     | true=>rwa [Zjx (t:=[]) hne (by rw [List.append_nil];exact ho)] at this
     | false =>
       cases hp:Zjy x with
       | false=>rwa [hp] at this
       | true =>
         exfalso
         obtain ⟨low,hm,n,n1,n2,n3⟩:=ZvX hp ho
         obtain ⟨i,i3,rfl⟩:=ZtY hm
         have:=hno i i3 n n1 (by omega)
         rw [n3] at this;cases this
   refine Ze5 (by omega) ht2 fun h5 e5=>?_
   cases hv:Lib.validD x with
   | false =>
     refine Zda ?_
     have:=fin h5 e5
     cases ho:ZaQ x with
     | false=>rwa [ho] at this
     | true=>rw [(Zd1.2 ho).1] at hv;cases hv
   | true =>
     refine ZdP (ZgS (by omega) fun h6 e6=>Zd ?_)
     have:=fin h6 (e5.trans e6)
     cases ho:ZaQ x with
     | true =>
       rw [ho] at this
       have h1:Lib.runeCount (Ze x)=1:=(Zd1.2 ho).2
       rw [h1];exact this
     | false =>
       rw [ho] at this
       have h1:¬ Lib.runeCount (Ze x)=1:=fun h1=>by
         have:=Zd1.1 ⟨hv,h1⟩
         rw [ho] at this;cases this
       have h2:(((Lib.runeCount (Ze x):Nat):Int) ==1)=false:=by
         rw [beq_eq_false_iff_ne];omega
       rw [h2];exact this
theorem ZnL {h:Zc} {R:Nat} {s:ByteArray} {l:BL} (hr:Rd h R s l) {e:Int} {n:Int} (hn:n<s.size) {K:HP} {P:Value→HP} (hp:P (.iface 160 (.agg #[.int .i64 e,.int .i64 n])) h):Zq (At R) e n K P h:=by
  unfold Zq Zae
  exact Zno hr (Zn (by simp;omega) hp)
theorem Zsl {h:Zc} {R:Nat} {s:ByteArray} {l:BL} (hr:Rd h R s l) {e:Int} {n:Int} (hn:(s.size:Int)≤n) {K:HP} {P:Value→HP} (hp:P (Zdu 24 s.size) h):Zq (At R) e n K P h:=by
  unfold Zq Zae
  exact Zno hr (Zm (by simp;omega) (Zno hr hp))
theorem Zoj {h:Zc} {R B:Nat} {T:TypeId} {s:ByteArray} {l out:BL} (hr:Rd h R s l) (hb:Bld h B T out) (ht:Zcb h) (hne:l≠[]) (hR:9≤R) (hRB:R<B) (hs:out.length<800000000) {K:HP} {P:Value→HP}
    (hok:∀ x r h',Zdn Zag l = .ok x r→Rd h' R s r→Bld h' B T (out++x)→Upd (UB R B) h h'→K h') (herr:OnE h R s (UB R B) (Zdn Zag l) P):XP (At R) (At B) K P h:=by
  unfold XP ZbY
  have hll:=hr.len
  have errOf:∀ {e:Nat} {r:BL},Zag l = .err e r→Zdn Zag l = .err e r:=fun he=>by unfold Zdn;rw [he];rfl
  have part:∀ {k:Nat},k<l.length+1→1≤k→∃ d,l.take k=l.take (k - 1)++[d]∧l=l.take (k - 1)++d::l.drop k:=fun {k} hk h1=>by
    have hd:l.drop (k - 1)=l[k - 1]::l.drop k:=by
      have:=List.drop_eq_getElem_cons (l:=l) (i:=k - 1) (by omega)
      rw [this,show k - 1+1=k by omega]
    refine ⟨l[k - 1],?_,?_⟩
    ·have:l.take (k - 1+1)=l.take (k - 1)++[l[k - 1]]:=by rw [List.take_add_one,List.getElem?_eq_getElem (by omega)];rfl
     rw [show k - 1+1=k by omega] at this
     exact this
    ·rw [← hd,List.take_append_drop]
  refine Za ?_
  refine Zx (fun p h'=>∃ k:Nat,p.1=k∧1≤k∧k≤4∧k - 1≤l.length∧(l.take (k - 1)=[]∨(Zjy (l.take (k - 1))=true∧ZaQ (l.take (k - 1))=false))∧Ext h h') (fun p _=>(5 - p.1).toNat) ⟨1,rfl,by omega,by omega,by omega,.inl rfl,Ext.refl _⟩ ?_
  rintro ⟨k1,u⟩ h2 ⟨k,hk,hk1,hk4,hkl,hpre,e2⟩
  dsimp only at hk ⊢
  subst hk
  have r2:=hr.ext e2
  refine Zr (fun _ h'=>h'=h2∧k≤l.length) ?_ ?_
  ·rintro ⟨⟩ h3 ⟨rfl,hk5⟩
   obtain ⟨d,ed,el⟩:=part (by omega) hk1
   refine Zno r2 (Zfn r2 fun n hn=>Zfn r2 fun n' hn'=>?_)
   have hnn:n'=n:=by have:=hn.len;have:=hn'.len;omega
   subst hnn
   have hlen:=hn.len
   rw [ZJ (by omega) (by omega)]
   refine ⟨by omega,by omega,by omega,?_⟩
   have ex:s.extract (n':Int).toNat ((n':Int)+k).toNat=Ze (l.take k):=by
     rw [show ((n':Int)+k).toNat=n'+k by omega,Int.toNat_natCast]
     exact hn.extractN hk5
   rw [ex]
   have htl:(l.take k).length=k:=by rw [List.length_take];omega
   refine Zr (fun _ h'=>Zjy (l.take k)=true∧Ext h h') ?_ ?_
   ·rintro ⟨⟩ h4 ⟨hp4,e4⟩
    refine Ze5 (by omega) (ht.ext e4) fun h5 e5=>?_
    rw [Zpp hp4]
    have r5:=hr.ext (e4.trans e5)
    cases ho:ZaQ (l.take k) with
    | true =>
      refine ZdP (Zmc (hb.congr fun b _ hl=>ZQ (e4.trans e5) hl) (by rw [YO];omega) fun h6 b6 u6=>?_)
      refine Zfn (r5.upd u6 (by omega)) fun n6 hn6=>?_
      have hn6l:=hn6.len
      refine Znp (r5.upd u6 (by omega)) (n:=n6+k) (by rw [ZJ (by omega) (by omega)];rfl) (hn6.dropK hk5) fun h7 r7 u7 z7=>?_
      have hq:Zdn Zag l = .ok (l.take k) (l.drop k):=by
        have:Zag (l.take k++l.drop k) = .ok () (l.drop k):=Zlk ho
        unfold Zdn
        rw [List.take_append_drop] at this
        rw [this]
        simp only [Out.bind_ok]
        congr 1
        unfold upto
        rw [List.length_drop,show l.length - (l.length - k)=k by omega]
      refine hok _ _ h7 hq r7 ?_ ?_
      ·have:=b6.upd (B:=B) u7 (fun q hq=>by subst hq;exact hRB)
       simpa [Ze] using this
      ·exact (((e4.trans e5).upd _).trans (u6.mono fun q _ hq=> .inr hq)).trans (u7.mono fun q _ hq=> .inl hq)
    | false =>
      refine Zda (Za ?_)
      rw [ZJ (by omega) (by omega)]
      have h3:=(ZtP hp4).2 ho
      refine ⟨⟨k+1,rfl,by omega,by omega,by omega,.inr ?_,e4.trans e5⟩,by omega⟩
      rw [show k+1 - 1=k by omega]
      exact ⟨hp4,ho⟩
   ·refine ZmW (by intro e;rw [e] at htl;simp at htl;omega) (by omega) (ht.ext e2) fun h4 e4=>?_
    cases hp4:Zjy (l.take k) with
    | true=>exact Zn rfl ⟨rfl,e2.trans e4⟩
    | false =>
      refine Zm rfl (Zfn (r2.ext e4) fun n4 hn4=>?_)
      have hn4l:=hn4.len
      rw [ZJ (n:=(n4:Int)+k) (by omega) (by omega),ZJ (by omega) (by omega)]
      refine ZnL (r2.ext e4) (by omega) ?_
      have hq:Zag l = .err 22 (d::l.drop k):=by
        conv=>lhs;rw [el]
        refine ZpQ ?_ (by rw [← ed];exact hp4)
        rcases hpre with h | h
        ·exact .inl h
        ·exact .inr h
      have:=herr 22 _ h4 (errOf hq) ((e2.trans e4).upd _)
      unfold Zdu at this
      have hnum:((s.size - (d::l.drop k).length:Nat):Int)=(n4:Int)+k - 1:=by
        simp only [List.length_cons,List.length_drop];omega
      rw [hnum] at this
      exact this
  ·refine Zfn r2 fun n hn=>Zno r2 ?_
   have hnl:=hn.len
   rw [ZJ (by omega) (by omega)]
   refine Zj (fun hgt=>Zno r2 (Zsl r2 (Int.le_refl _) ?_)) fun hle=>⟨rfl,by omega⟩
   have hl9:l.take (k - 1)=l:=List.take_of_length_le (by omega)
   rw [hl9] at hpre
   have hp:=hpre.resolve_left hne
   have:=herr 24 [] h2 (errOf (ZpP hp.1 hp.2)) (e2.upd _)
   simpa using this
def TP (out l:BL):Out BL:=ZfT (l.length+1) out l
theorem Zm0 {n:Nat} {out l:BL} (h:l.length<n):ZfT n out l=TP out l:=by
  unfold TP
  rw [(ZhL n l h).1,(ZhL (l.length+1) l (Nat.lt_succ_self _)).1]
  exact Zc8 _ _ _ _ _ h (Nat.lt_succ_self _)
theorem Zus (out:BL) (c:UInt8) (l:BL):TP out (c::l) =
    if c.toNat<32 then .err 22 (c::l)
    else if c=34 then .ok out l
    else if c=92 then (ZnN l).bind fun o l2=>TP (out++o) l2
    else if c.toNat<128 then TP (out++[c]) l
    else (Zdn Zag (c::l)).bind fun x l2=>TP (out++x) l2:=by
  show ZfT ((c::l).length+1) out (c::l)=_
  rw [Zjn]
  have e1:((ZnN l).bind fun o l2=>ZfT (c::l).length (out++o) l2)=(ZnN l).bind fun o l2=>TP (out++o) l2:=by
    cases h:ZnN l with
    | err e r=>rfl
    | ok o r=>exact Zm0 (by have:=(ZkP h).2.length_le;simp;omega)
  have e2:((Zag (c::l)).bind fun _ l2=>ZfT (c::l).length (out++upto (c::l) l2) l2)=(Zdn Zag (c::l)).bind fun x l2=>TP (out++x) l2:=by
    unfold Zdn
    cases h:Zag (c::l) with
    | err e r=>rfl
    | ok o r=>exact Zm0 (by have:=(ZbH h).1;simp at this ⊢;omega)
  rw [e1,e2,Zm0 (n:=(c::l).length) (l:=l) (by simp)]
theorem Zlb {h:Zc} {R:Nat} {s:ByteArray} {c0:UInt8} {l:BL} (hr:Rd h R s (c0::l)) (ht:Zcb h) (hR:9≤R) {K:ByteArray→HP} {P:Value→HP}
    (hok:∀ t r h',ZgY l = .ok t r→Rd h' R s r→Upd (· = R) h h'→K (Ze t) h') (herr:OnE h R s (· = R) (ZgY l) P):Y0 (At R) K P h:=by
  unfold Y0 Zcq
  have hll:=hr.len
  have hRs:=hr.lt
  refine Zb7 hr fun h1 r1 u1 z1=>ZaX fun h2 c2 e2 z2=>?_
  have hB:h1.size=sz h:=z1
  have r2:=r1.ext e2
  have b2:Bld h2 h1.size 188 []:=⟨.inl rfl,.pointer none,⟨none,0,0⟩,c2,.inl rfl,Buf.nil _ _⟩
  have hRB:R<h1.size:=by rw [hB];exact hRs
  have t2:Zcb h2:=(ht.upd u1 fun k hk=>by subst hk;exact hR).ext e2
  have low:∀ {a:Zc},Upd (UB R h1.size) h2 a→Upd (· = R) h a:=fun {a} u=>UT u1 (UN e2 u) fun k hk=>by
    rcases hk with rfl | hk
    ·exact .inl rfl
    ·right;rw [hB] at hk;exact hk
  refine Zx (fun _ h'=>∃ (l' out:BL),Rd h' R s l'∧Bld h' h1.size 188 out∧Zcb h'∧TP out l'=ZgY l∧out.length+l'.length≤65536∧Upd (UB R h1.size) h2 h') (fun _ h'=>left h' R) ⟨l,[],r2,b2,t2,rfl,by simp at hll ⊢;omega,Upd.refl _ _⟩ ?_
  rintro ⟨⟩ h3 ⟨l3,out,r3,b3,t3,q3,n3,u3⟩
  have keepR:∀ {a b:Zc} {q:BL},Rd a R s q→Upd (fun k=>h1.size≤k) a b→Rd b R s q:=fun r u=>r.upd u (by omega)
  have keepB:∀ {a b:Zc} {o:BL},Bld a h1.size 188 o→Upd (· = R) a b→Bld b h1.size 188 o:=fun r u=>r.upd u (fun k hk=>by subst hk;exact hRB)
  have tU:∀ {b:Zc},Upd (UB R h1.size) h3 b→Zcb b:=fun u=>t3.upd u fun k hk=>by rcases hk with rfl | hk<;>omega
  have er:∀ {e:Nat} {r:BL} {h':Zc},TP out l3 = .err e r→Upd (UB R h1.size) h3 h'→P (Zdu e (s.size - r.length)) h':=fun he u=>herr _ _ _ (by rw [← q3];exact he) (low (u3.trans u))
  refine Xm r3 (Za ?_)
  refine Zr (fun p h'=>h'=h3∧p.1=decide (l3=[]∨XM l3<32)) ?_ ?_
  ·rintro ⟨b,u⟩ h4 ⟨rfl,hb⟩
   dsimp only at hb ⊢
   subst hb
   rcases l3 with _ | ⟨c,l3⟩
   ·refine Zm (by simp) (ZaL (α:=BL) r3 rfl fun e' r he hr'=>er ?_ (Upd.refl _ _))
    rw [← he];rfl
   have hz:XM (c::l3)=(c.toNat:Int):=rfl
   have hq:=Zus out c l3
   rw [hz]
   by_cases h32:c.toNat<32
   ·refine Zm (by simp;omega) (ZaL (α:=BL) r3 rfl fun e' r he hr'=>er ?_ (Upd.refl _ _))
    rw [hq,if_pos h32,← he];rfl
   rw [if_neg h32] at hq
   refine Zn (by simp;omega) (Zd (Yh (fun h34=>?_) fun h34=>Zd (Yh (fun h92=>?_) fun h92=>Zd (Zj (fun h128=>?_) fun h128=>?_))))
   ·have hc:c=34:=Zb9 (d:=34) h34
    rw [if_pos hc] at hq
    refine Zb7 r3 fun h5 r5 u5 z5=>ZhN (keepB b3 u5) fun h6 u6=>?_
    exact hok out l3 h6 (by rw [← q3];exact hq) (keepR r5 u6) (low ((u3.trans (u5.mono fun k _ hk=> .inl hk)).trans (u6.mono fun k _ hk=> .inr hk)))
   all_goals have n34:c≠34:=Zde (d:=34) h34
   all_goals rw [if_neg n34] at hq
   ·have hc:c=92:=Zb9 (d:=92) h92
    rw [if_pos hc] at hq
    refine Zb7 r3 fun h5 r5 u5 z5=>?_
    have u5':Upd (UB R h1.size) h4 h5:=u5.mono fun k _ hk=> .inl hk
    refine ZmP r5 (keepB b3 u5) hRB (by simp at n3;omega) (fun o r h6 ho r6 b6 u6=>?_) fun e r h6 he u6=>er (by rw [hq,he];rfl) (u5'.trans u6)
    have hel:=ZkP ho
    have hrl:=hel.2.length_le
    simp only [List.length_cons] at n3
    refine ⟨⟨r,out++o,r6,b6,tU (u5'.trans u6),by rw [← q3,hq,ho];rfl,by simp;omega,u3.trans (u5'.trans u6)⟩,?_⟩
    rw [r3.left,r6.left];simp;omega
   all_goals have n92:c≠92:=Zde (d:=92) h92
   all_goals rw [if_neg n92] at hq
   ·rw [if_pos (by omega)] at hq
    simp only [List.length_cons] at n3
    refine Zhy b3 rfl (by omega) fun h5 b5 u5=>?_
    have u5':Upd (UB R h1.size) h4 h5:=u5.mono fun k _ hk=> .inr hk
    refine Zb7 (keepR r3 u5) fun h6 r6 u6 z6=>?_
    have u6':Upd (UB R h1.size) h5 h6:=u6.mono fun k _ hk=> .inl hk
    refine ⟨⟨l3,out++[c],r6,keepB b5 u6,tU (u5'.trans u6'),by rw [← q3,hq],by simp;omega,u3.trans (u5'.trans u6')⟩,?_⟩
    rw [r3.left,r6.left];simp
   ·rw [if_neg (by omega)] at hq
    simp only [List.length_cons] at n3
    refine Zoj r3 b3 t3 (by simp) hR hRB (by omega) (fun x r h5 hx r5 b5 u5=>?_) fun e r h5 he u5=>er (by rw [hq,he];rfl) u5
    obtain ⟨⟨_,hx1⟩,hx2⟩:=ZeP hx
    obtain ⟨y,hy,hy1⟩:=ZhP hx1
    have hxy:x=y:=by rw [hx2,hy,ZaW]
    subst hxy
    have hlen:=congrArg List.length hy
    simp only [List.length_cons,List.length_append] at hlen
    have hy0:0<x.length:=by
      rcases x with _ | ⟨d,x⟩
      ·cases hy1
      ·simp
    refine ⟨⟨r,out++x,r5,b5,tU u5,by rw [← q3,hq,hx];rfl,by simp;omega,u3.trans u5⟩,?_⟩
    rw [r3.left,r5.left];simp;omega
  ·refine Zku r3 (fun he=>⟨rfl,by simp [he]⟩) fun he=>Zd ⟨rfl,by simp [he]⟩
abbrev VT5:=Int × ByteArray × Sl × Sl × Unit
abbrev sV (t:BL):Value:= .string (Ze t)
def YS (z:VT5):List Value:=[.int .u8 z.1,.string z.2.1,slV z.2.2.1,slV z.2.2.2.1]
def inS (S:Nat→Prop) (x:Sl):Prop:=x.len≠0→∀ b,x.blk=some b→S b
def ZaP (h:Zc) (S:Nat→Prop):JL→List Value→Prop
  | .nil,vs=>vs=[]
  | .cons k t ns sub rest,vs=>∃ (x y:Sl) (cx vs':List Value),vs=YS ((k:Int),Ze t,x,y,())++vs'∧Row h y 1 (ns.map sV)∧inS S y∧Row h x 4 cx∧inS S x∧ZaP h S sub cx∧ZaP h S rest vs'
def XY (h:Zc) (S:Nat→Prop) (z:VT5) (v:JV):Prop :=
  z.1=v.k∧z.2.1=Ze v.t∧Row h z.2.2.2.1 1 (v.ns.map sV)∧inS S z.2.2.2.1∧∃ cx,Row h z.2.2.1 4 cx∧inS S z.2.2.1∧ZaP h S v.sub cx
theorem inS.mono {S S':Nat→Prop} {x:Sl} (h:inS S x) (hs:∀ b,S b→S' b):inS S' x:=fun hl b hb=>hs b (h hl b hb)
theorem Yf {h h':Zc} {S:Nat→Prop} {x:Sl} {n:Nat} {vs:List Value} (hr:Row h x n vs) (hi:inS S x) (he:∀ b,S b→b<sz h→obj h' b=obj h b):Row h' x n vs:=by
  refine hr.congr fun b o hp hne hb=>he b (hi ?_ b (by simp [Sl.blk,hp])) hb
  intro h0
  exact hne (hr.nil_of h0)
theorem ZaP.keep {h h':Zc} {S S':Nat→Prop} (he:∀ b,S b→b<sz h→obj h' b=obj h b) (hs:∀ b,S b→S' b):∀ {l:JL} {vs:List Value},ZaP h S l vs→ZaP h' S' l vs
  | .nil,_,h=>h
  | .cons k t ns sub rest,vs,h=>by
    obtain ⟨x,y,cx,vs',e,a,b,c,d,f,g⟩:=h
    exact ⟨x,y,cx,vs',e,Yf a b he,b.mono hs,Yf c d he,d.mono hs,ZaP.keep he hs f,ZaP.keep he hs g⟩
theorem XY.keep {h h':Zc} {S S':Nat→Prop} {z:VT5} {v:JV} (hv:XY h S z v) (he:∀ b,S b→b<sz h→obj h' b=obj h b) (hs:∀ b,S b→S' b):XY h' S' z v:=by
  obtain ⟨a,b,c,d,cx,e,f,g⟩:=hv
  exact ⟨a,b,Yf c d he,d.mono hs,cx,Yf e f he,f.mono hs,g.keep he hs⟩
theorem ZaP.len {h:Zc} {S:Nat→Prop}:∀ {l:JL} {vs:List Value},ZaP h S l vs→vs.length=l.len*4
  | .nil,_,h=>by rw [show _=[] from h];rfl
  | .cons k t ns sub rest,vs,h=>by
    obtain ⟨x,y,cx,vs',e,a,b,c,d,f,g⟩:=h
    rw [e,List.length_append,ZaP.len g]
    simp [YS,JL.len];omega
theorem ZaP.snoc {h:Zc} {S:Nat→Prop} {z:VT5} {v:JV} (hv:XY h S z v):∀ {l:JL} {vs:List Value},ZaP h S l vs→ZaP h S (l.snoc v) (vs++YS z)
  | .nil,_,h=>by
    rw [show _=[] from h]
    obtain ⟨a,b,c,d,cx,e,f,g⟩:=hv
    refine ⟨z.2.2.1,z.2.2.2.1,cx,[],?_,c,d,e,f,g,rfl⟩
    simp [YS,a,b]
  | .cons k t ns sub rest,vs,h=>by
    obtain ⟨x,y,cx,vs',e,a,b,c,d,f,g⟩:=h
    exact ⟨x,y,cx,vs'++YS z,by rw [e,List.append_assoc],a,b,c,d,f,ZaP.snoc hv g⟩
def PS (h:Zc) (b k:Nat) (ns:List BL) (sub:JL):Prop:=∃ (x y:Sl) (cx:List Value),
  obj h b=some (.cells (YS ((k:Int),Ze [],x,y,())).toArray 33 (0,0))∧Own h (b+1) x 4 cx∧Own h (b+1) y 1 (ns.map sV) ∧
    ZaP h (fun j=>b+1≤j∧j<sz h∧x.blk≠some j∧y.blk≠some j) sub cx∧∀ j,x.blk=some j→y.blk≠some j
theorem PS.lt {h:Zc} {b k:Nat} {ns:List BL} {sub:JL} (p:PS h b k ns sub):b<sz h:=by
  obtain ⟨x,y,cx,c,_⟩:=p
  exact ZbJ c
theorem PS.upd {S:Nat→Prop} {h h':Zc} {b k:Nat} {ns:List BL} {sub:JL} (p:PS h b k ns sub) (u:Upd S h h') (hs:∀ j,S j→j<b):PS h' b k ns sub:=by
  obtain ⟨x,y,cx,c,ox,oy,lr,ne⟩:=p
  have he:∀ j,b≤j→j<sz h→obj h' j=obj h j:=fun j h1 h2=>ZV u h2 fun h9=>by have:=hs j h9;omega
  have hsz:sz h≤sz h':=u.size
  refine ⟨x,y,cx,(he b (Nat.le_refl _) (ZbJ c)).trans c,ox.congr fun j _ hl hb=>he j (by omega) hl,oy.congr fun j _ hl hb=>he j (by omega) hl,lr.keep (fun j hj hl=>he j (by omega) hl) (fun j hj=>⟨hj.1,by omega,hj.2.2⟩),ne⟩
theorem Zid:∀ (vs:List Value) (o:Nat) (c:List Value),o+vs.length≤c.length→Zan o vs c=c.take o++vs++c.drop (o+vs.length)
  | [],o,c,h=>by simp [Zan]
  | v::vs,o,c,h=>by
    simp only [List.length_cons] at h
    unfold Zan
    rw [Zid vs (o+1) (c.set o v) (by simp;omega)]
    rw [List.take_add_one,List.getElem?_set_self (by omega),List.take_set_of_le (Nat.le_refl _),List.drop_set_of_lt (by omega)]
    simp
    congr 1;omega
theorem Zbu (z:VT5):(YS z).all Yd=true:=by simp [YS,Yd,slV]
theorem Zrb {h:Zc} {b k:Nat} {ns:List BL} {sub:JL} {x y:Sl} {cx:List Value} (c:obj h b=some (.cells (YS ((k:Int),Ze [],x,y,())).toArray 33 (0,0)))
    (ox:Own h (b+1) x 4 cx) (oy:Own h (b+1) y 1 (ns.map sV)) (lr:ZaP h (fun j=>b+1≤j∧j<sz h∧x.blk≠some j∧y.blk≠some j) sub cx) (ne:∀ j,x.blk=some j→y.blk≠some j)
    {z:VT5} {v:JV} {Se:Nat→Prop} (hv:XY h Se z v) (hSe:∀ j,Se j→b+1≤j∧j<sz h∧x.blk≠some j∧y.blk≠some j) (hs:sub.len≤100000) {K:HP}
    (hk:∀ h',PS h' b k ns (sub.snoc v)→Upd (fun j=>b≤j) h h'→K h') :
    Fw.app 33 4 72 zV x 1 zV h fun t48 h49=>Zd6 t48.ptr t48.len (x.len:Int) 4 fun b51 o52=>Zb (At b) fun b53 o54=>ZoW (
      sts h49 b51 o52 (YS z) fun h55=>st h55 b53 (o54+2) (.slice t48.ptr t48.len t48.cap) K) (
      st h49 b53 (o54+2) (.slice t48.ptr t48.len t48.cap) fun h58=>sts h58 b51 o52 (YS z) K):=by
  have hb:=ZbJ c
  have hlx:x.len=sub.len:=by have:=ox.len;have:=lr.len;omega
  refine ox.app rfl (by decide) rfl (by omega) (by omega) (by have:sz h=h.size:=rfl;omega) fun x' h1 o1 l1 u1 bl1=>?_
  have hsz:sz h≤sz h1:=u1.size
  rcases o1.at_ with ⟨hp,h0⟩ | ⟨g,cs,e,hp,hbg,hg,hcs,hvs⟩
  ·exfalso;have:=o1.cap;omega
  have hgblk:x'.blk=some g:=by simp [Sl.blk,hp]
  have hg':obj h1 g=some (.cells cs.toList.toArray e (0,0)):=by
    have:cs.toList.toArray=cs:=by simp
    rw [this];exact hg
  have hcap:=o1.cap
  have hcl:cs.toList.length=x'.cap*4:=by rw [Array.length_toList];exact hcs
  have hgx:x.blk=some g∨sz h≤g:=by
    rcases bl1 with e1 | e1
    ·left;rw [← e1,hgblk]
    ·right;rw [hgblk] at e1;cases e1;exact Nat.le_refl _
  have hgy:y.blk≠some g:=by
    rcases hgx with e1 | e1
    ·exact ne g e1
    ·intro e2
     have:=(oy.lt e2).2
     have:sz h=h.size:=rfl
     omega
  have c1:obj h1 b=some (.cells (YS ((k:Int),Ze [],x,y,())).toArray 33 (0,0)):=YH c u1 fun e1=>by have:=(ox.lt e1).1;omega
  have hgb:g≠b:=by omega
  have hle:x.len*4+(YS z).length≤cs.toList.length:=by rw [hcl];simp [YS];omega
  have fin:∀ h',obj h' g=some (.cells (Zan (0+x.len*4) (YS z) cs.toList).toArray e (0,0))→obj h' b=some (.cells (YS ((k:Int),Ze [],x',y,())).toArray 33 (0,0)) →
      (∀ j,j≠g→j≠b→obj h' j=obj h1 j)→sz h'=sz h1→K h':=by
    intro h' eg eb ej es
    have hold:∀ j,j<sz h→j≠b→x.blk≠some j→obj h' j=obj h j:=fun j hj hjb hjx=>by
      rw [ej j (by rintro rfl;rcases hgx with e1 | e1;exact hjx e1;omega) hjb]
      exact ZV u1 hj hjx
    have vs9:cx++YS z=(Zan (0+x.len*4) (YS z) cs.toList).take (x'.len*4):=by
      rw [Nat.zero_add,Zid _ _ _ hle,List.take_append_of_le_length (by simp [YS];omega),List.take_of_length_le (by simp [YS];omega)]
      congr 1
      have:=congrArg (fun q=>q.take (x.len*4)) hvs
      simp only [List.take_take,show min (x.len*4) (x'.len*4)=x.len*4 by omega] at this
      rw [← this,List.take_append_of_le_length (by have:=ox.len;omega),List.take_of_length_le (by have:=ox.len;omega)]
    refine hk h' ⟨x',y,cx++YS z,eb,⟨?_,hcap,o1.big,.inr ⟨g,_,e,hp,hbg,eg,?_,?_⟩⟩,?_,?_,?_⟩ ⟨by have:sz h'=h'.size:=rfl;have:sz h=h.size:=rfl;omega,fun j hj hbj=>hold j hj (by omega) fun e1=>by have:=(ox.lt e1).1;omega⟩
    ·have:=ox.len;simp [YS];omega
    ·simp [Zdz,hcs]
    ·simpa using vs9
    ·exact oy.congr fun j hj hl hbj=>hold j hl (by omega) fun e1=>ne j e1 hj
    ·have h1:ZaP h' (fun j=>b+1≤j∧j<sz h'∧x'.blk≠some j∧y.blk≠some j) sub cx:=lr.keep (fun j hj hl=>hold j hl (by omega) hj.2.2.1) fun j hj=>⟨hj.1,by omega,by
       rw [hgblk];rintro e1;cases e1
       rcases hgx with e1 | e1
       ·exact hj.2.2.1 e1
       ·omega,hj.2.2.2⟩
     refine h1.snoc (hv.keep (fun j hj hl=>?_) fun j hj=>?_)
     ·have:=hSe j hj
      exact hold j hl (by omega) this.2.2.1
     ·have:=hSe j hj
      refine ⟨this.1,by omega,?_,this.2.2.2⟩
      rw [hgblk];rintro e1;cases e1
      rcases hgx with e1 | e1
      ·exact this.2.2.1 e1
      ·omega
    ·intro j hj
     rw [hgblk] at hj;cases hj
     exact hgy
  rw [hp]
  refine ZgM (n:=x.len) rfl (by omega) ?_
  refine Z7 ⟨?_,?_⟩
  ·rw [ZhM (by rw [hg',Zb0];simp [YS];omega) (Zbu z)]
   have c2:obj (h1.puts g (0+x.len*4) (YS z)) b=some (.cells (YS ((k:Int),Ze [],x,y,())).toArray 33 (0,0)):=by rw [Zbo,if_neg (Ne.symm hgb)];exact c1
   refine Zi1 c2 (by simp [YS]) Zh4 fun h9 c9 u9 z9=>fin h9 ?_ (by rw [c9];simp [YS,slV,hp]) (fun j hj1 hj2=>?_) (by rw [z9,ZeA])
   ·rw [YH (S:=(· = b)) (x:= .cells (Zan (0+x.len*4) (YS z) cs.toList).toArray e (0,0)) (by rw [Zbo,if_pos rfl,hg',XE]) u9 hgb]
   ·by_cases hl:j<sz h1
    ·rw [ZV u9 (by rw [ZeA];exact hl) hj2,Zbo,if_neg hj1]
    ·have e1:obj h1 j=none:=Array.getElem?_eq_none (by have:sz h1=h1.size:=rfl;omega)
     have e2:obj h9 j=none:=Array.getElem?_eq_none (by have:sz h9=h9.size:=rfl;rw [← this,z9,ZeA];omega)
     rw [e1,e2]
  ·refine Zi1 c1 (by simp [YS]) Zh4 fun h8 c8 u8 z8=>?_
   have hg8:obj h8 g=some (.cells cs.toList.toArray e (0,0)):=YH hg' u8 hgb
   rw [ZhM (by rw [hg8,Zb0];simp [YS];omega) (Zbu z)]
   refine fin _ (by rw [Zbo,if_pos rfl,hg8,XE]) (by rw [Zbo,if_neg (Ne.symm hgb),c8];simp [YS,slV,hp]) (fun j hj1 hj2=>?_) (by rw [ZeA,z8])
   rw [Zbo,if_neg hj1]
   by_cases hl:j<sz h1
   ·exact ZV u8 hl hj2
   ·have e1:obj h1 j=none:=Array.getElem?_eq_none (by have:sz h1=h1.size:=rfl;omega)
    have e2:obj h8 j=none:=Array.getElem?_eq_none (by have:sz h8=h8.size:=rfl;rw [← this,z8];omega)
    rw [e1,e2]
theorem ZsA {h:Zc} {b k:Nat} {ns:List BL} {sub:JL} {x y:Sl} {cx:List Value} (c:obj h b=some (.cells (YS ((k:Int),Ze [],x,y,())).toArray 33 (0,0)))
    (ox:Own h (b+1) x 4 cx) (oy:Own h (b+1) y 1 (ns.map sV)) (lr:ZaP h (fun j=>b+1≤j∧j<sz h∧x.blk≠some j∧y.blk≠some j) sub cx) (ne:∀ j,x.blk=some j→y.blk≠some j)
    {t:BL} (hs:ns.length≤100000) {K:HP} (hk:∀ h',PS h' b k (ns++[t]) sub→Upd (fun j=>b≤j) h h'→K h') :
    Fw.app 9 1 16 [.string (ByteArray.mk #[])] y 1 [sV t] h fun t18 h19=>Zb (At b) fun b20 o21=>st h19 b20 (o21+3) (.slice t18.ptr t18.len t18.cap) K:=by
  have hb:=ZbJ c
  have hly:y.len=ns.length:=by have:=oy.len;simp at this;omega
  refine oy.app rfl (by simp [Yd]) rfl (by omega) (by omega) (by have:sz h=h.size:=rfl;omega) fun y' h1 o1 l1 u1 bl1=>?_
  have hsz:sz h≤sz h1:=u1.size
  have c1:obj h1 b=some (.cells (YS ((k:Int),Ze [],x,y,())).toArray 33 (0,0)):=YH c u1 fun e1=>by have:=(oy.lt e1).1;omega
  refine Z7 (Zi1 c1 (by simp [YS]) Zh4 fun h9 c9 u9 z9=>?_)
  have hold:∀ j,j<sz h→j≠b→y.blk≠some j→obj h9 j=obj h j:=fun j hj hjb hjy=>(ZV u9 (by omega) hjb).trans (ZV u1 hj hjy)
  have hnew:∀ j,y'.blk=some j→y.blk=some j∨sz h≤j:=fun j hj=>by
    rcases bl1 with e1 | e1
    ·left;rw [← e1,hj]
    ·right;rw [hj] at e1;cases e1;exact Nat.le_refl _
  refine hk h9 ⟨x,y',cx,c9,?_,?_,?_,?_⟩ ⟨by have:sz h9=h9.size:=rfl;have:sz h=h.size:=rfl;omega,fun j hj hbj=>hold j hj (by omega) fun e1=>by have:=(oy.lt e1).1;omega⟩
  ·exact ox.congr fun j hj hl hbj=>hold j hl (by omega) (ne j hj)
  ·have:(ns++[t]).map sV=ns.map sV++[sV t]:=by simp
   rw [this]
   exact o1.congr fun j _ hl hbj=>ZV u9 hl (by omega)
  ·refine lr.keep (fun j hj hl=>hold j hl (by omega) hj.2.2.2) fun j hj=>⟨hj.1,by omega,hj.2.2.1,fun e1=>?_⟩
   rcases hnew j e1 with e2 | e2
   ·exact hj.2.2.2 e2
   ·omega
  ·intro j hj e1
   rcases hnew j e1 with e2 | e2
   ·exact ne j hj e2
   ·have:=(ox.lt hj).2
    have:sz h=h.size:=rfl
    omega
def ZkZ (f:Zj4) (pv:BL→Out JV) (deep:Int):Prop:=∀ (h:Zc) (R:Nat) (s:ByteArray) (l:BL) (K:VT5→HP) (P:Value→HP),Rd h R s l→Zcb h→9≤R →
  (∀ v r z h',pv l = .ok v r→Rd h' R s r→Upd (· = R) h h'→XY h' (fun j=>sz h≤j∧j<sz h') z v→K z h')→OnE h R s (· = R) (pv l) P→f (At R) deep K P h
theorem Zb2 {S:Nat→Prop} {h h':Zc} (u:Upd S h h'):sz h≤sz h':=u.size
theorem YR {h:Zc} {b o:Nat} {v:Value} {K:Prop} (hc:Zaq o (obj h b)=some v) (hk:K):ZaY (Za1 h [(b,o,v)]) K:=by
  refine ⟨⟨?_,trivial⟩,hk⟩
  rw [Xr];exact hc
theorem Zlp {h:Zc} {b n size:Nat} {l:List Value} {t:TypeId} {f:Nat × Nat} {K:List Value→Prop} (c:obj h b=some (.cells l.toArray t f)) (hl:l.length=n*size) (hk:K l):rdS ⟨some ⟨b,0,none⟩,n,n⟩ size h K :=
  .inr ⟨b,0,l,rfl,hl,Zdm c (fun i v hi=>by simpa using hi),hk⟩
theorem Zp2 {f20:Zj4} {pv:BL→Out JV} {deep:Int} (hf:ZkZ f20 pv deep) {ob:Bool} {k:Nat} (hk:k=if ob then 7 else 6) {h:Zc} {R b:Nat} {s:ByteArray} {l:BL} {ns:List BL} {sub:JL} (hr:Rd h R s l) (ht:Zcb h) (hR:9≤R) (hRb:R<b)
    (ps:PS h b k ns sub) (hn:ns.length≤100000) (hs:sub.len≤100000) {K:HP} {P:Value→HP}
    (hok:∀ p r h',Zaw pv ob ns sub l = .ok p r→Rd h' R s r→PS h' b k p.1 p.2→Upd (UB R b) h h'→K h') (herr:OnE h R s (UB R b) (Zaw pv ob ns sub l) P):X8 f20 (At R) (At b) deep K P h:=by
  unfold X8 Zcr
  have uR:∀ {a c:Zc},Upd (· = R) a c→Upd (UB R b) a c:=fun u=>u.mono fun k _ hk=> .inl hk
  have uB:∀ {a c:Zc},Upd (fun k=>b≤k) a c→Upd (UB R b) a c:=fun u=>u.mono fun k _ hk=> .inr hk
  have tU:∀ {a c:Zc},Zcb a→Upd (UB R b) a c→Zcb c:=fun t u=>t.upd u fun k hk=>by rcases hk with rfl | hk<;>omega
  have psR:∀ {a c:Zc} {ns:List BL} {sub:JL},PS a b k ns sub→Upd (· = R) a c→PS c b k ns sub:=fun p u=>p.upd u fun j hj=>by subst hj;exact hRb
  refine ZcJ hr fun h1 r1 u1 z1=>?_
  have ps1:=psR ps u1
  have t1:=tU ht (uR u1)
  refine Zr (fun _ h'=>∃ l' ns',Rd h' R s l'∧PS h' b k ns' sub∧Zcb h'∧Upd (UB R b) h h'∧Zaw pv ob ns sub l=(pv l').bind fun v l4=> .ok (ns',sub.snoc v) (ZM l4)) ?_ ?_
  ·rintro ⟨⟩ h2 ⟨l2,ns2,r2,p2,t2,u2,q2⟩
   obtain ⟨x,y,cx,c,ox,oy,lr,ne⟩:=id p2
   have hb2:=p2.lt
   have er:∀ {a:Zc} (ua:Upd (UB R b) h a),OnE a R s (· = R) (pv l2) P:=fun ua e r h' he u'=>herr e r h' (by rw [q2,he];rfl) (ua.trans (uR u'))
   have put:∀ {v r z} {h3 h4 h5:Zc},pv l2 = .ok v r→Ext h2 h3→Upd (· = R) h3 h4→Rd h4 R s r→XY h4 (fun j=>sz h3≤j∧j<sz h4) z v→Ext h4 h5 →
       Fw.app 33 4 72 zV x 1 zV h5 fun t48 h49=>Zd6 t48.ptr t48.len (x.len:Int) 4 fun b51 o52=>Zb (At b) fun b53 o54=>ZoW (
         sts h49 b51 o52 (YS z) fun h55=>st h55 b53 (o54+2) (.slice t48.ptr t48.len t48.cap) fun h56=>ZK (At R) (fun h57=>K h57) h56) (
         st h49 b53 (o54+2) (.slice t48.ptr t48.len t48.cap) fun h58=>sts h58 b51 o52 (YS z) fun h59=>ZK (At R) (fun h60=>K h60) h59):=by
     intro v r z h3 h4 h5 hq e3 u4 r4 v4 e5
     have s3:sz h2≤sz h3:=e3.size
     have s4:sz h3≤sz h4:=u4.size
     have s5:sz h4≤sz h5:=e5.size
     have old:∀ j,b≤j→j<sz h2→obj h5 j=obj h2 j:=fun j hj hl=>by
       rw [ZQ e5 (by omega),ZV u4 (by omega) (by omega),ZQ e3 hl]
     have lx:∀ j,x.blk=some j→j<sz h2:=fun j e=>(ox.lt e).2
     have ly:∀ j,y.blk=some j→j<sz h2:=fun j e=>(oy.lt e).2
     refine Zrb ((old b (Nat.le_refl _) hb2).trans c) (ox.congr fun j _ hl hbj=>old j (by omega) hl) (oy.congr fun j _ hl hbj=>old j (by omega) hl)
       (lr.keep (fun j hj hl=>old j (by omega) hl) fun j hj=>⟨hj.1,by omega,hj.2.2⟩) ne (Se:=fun j=>sz h3≤j∧j<sz h4) (v4.keep (fun j hj hl=>ZQ e5 hl) fun j hj=>hj)
       (fun j hj=>⟨by omega,by omega,fun e=>by have:=lx j e;omega,fun e=>by have:=ly j e;omega⟩) hs fun h6 p6 u6=>?_
     have r6:Rd h6 R s r:=(r4.ext e5).upd u6 (by omega)
     refine ZcJ r6 fun h7 r7 u7 z7=>hok _ _ h7 (by rw [q2,hq];rfl) r7 (psR p6 u7) ?_
     exact (((u2.trans (e3.upd _)).trans (uR u4)).trans (e5.upd _)).trans ((uB u6).trans (uR u7))
   have bR:¬ b=R:=by omega
   refine Z7 (rL (s:=x) (Zi c rfl) ⟨?_,?_⟩)
   ·refine hf h2 R s l2 _ P r2 t2 hR (fun v r z h4 hv r4 u4 v4=>?_) (er u2)
    have c4:=YH c u4 bR
    refine YR (Zi c4 rfl) (ZaX fun h5 c5 e5 z5=>YR (Zi (Z6 c4 e5) rfl) ?_)
    refine Zlp c5 rfl ?_
    exact put hv (Ext.refl _) u4 r4 v4 e5
   ·refine ZaX fun h3 c3 e3 z3=>YR (Zi (Z6 c e3) rfl) ?_
    refine hf h3 R s l2 _ P (r2.ext e3) (t2.ext e3) hR (fun v r z h4 hv r4 u4 v4=>?_) (er (u2.trans (e3.upd _)))
    have c4:=YH (Z6 c e3) u4 bR
    have c34:=YH c3 u4 (show ¬ h2.size=R by have:sz h2=h2.size:=rfl;omega)
    refine YR (Zi c4 rfl) ?_
    refine Zlp c34 rfl ?_
    exact put hv e3 u4 r4 v4 (Ext.refl _)
  ·
   obtain ⟨x,y,cx,c,ox,oy,lr,ne⟩:=id ps1
   have hb1:=ps1.lt
   refine Z7 (rI (Zi c rfl) ?_)
   cases ob with
   | false =>
     have hk6:k=6:=hk
     refine Zn (by rw [hk6];rfl) ⟨ZM l,ns,r1,ps1,t1,uR u1,rfl⟩
   | true =>
     have hk7:k=7:=hk
     have hq:Zaw pv true ns sub l=(Zbp l).bind fun nm l3=>(pv l3).bind fun v l4=> .ok (ns++[nm],sub.snoc v) (ZM l4):=rfl
     refine Zm (by rw [hk7];rfl) ?_
     refine Zr (fun _ h'=>h'=h1∧∃ l1,ZM l=34::l1) ?_ ?_
     ·rintro ⟨⟩ h2 ⟨rfl,l1,e1⟩
      rw [e1] at r1
      have hnm:Zbp l=(ZgY l1).bind fun nm l2=>match ZM l2 with
          | d::l3=>if d=58 then .ok nm l3 else .err 20 (d::l3)
          | []=> .err 24 []:=by unfold Zbp;rw [e1];rfl
      have bR:¬ b=R:=by omega
      refine Z7 (rL (s:=y) (Zi c rfl) ?_)
      refine Zlb r1 t1 hR (fun t r h3 htx r3 u3=>?_) fun e r h3 he u3=>herr e r h3 (by rw [hq,hnm,he];rfl) (uR (u1.trans u3))
      have c3:=YH c u3 bR
      refine YR (Zi c3 rfl) (ZaX fun h4 c4 e4 z4=>YR (Zi (Z6 c3 e4) rfl) ?_)
      refine Zlp c4 rfl ?_
      have ps3:=psR ps1 u3
      have old:∀ j,b≤j→j<sz h2→obj h4 j=obj h2 j:=fun j hj hl=>by
        have:=Zb2 u3
        rw [ZQ e4 (by omega),ZV u3 hl (by omega)]
      have s3:=Zb2 u3
      have s4:sz h3≤sz h4:=e4.size
      refine ZsA ((old b (Nat.le_refl _) hb1).trans c) (ox.congr fun j _ hl hbj=>old j (by omega) hl) (oy.congr fun j _ hl hbj=>old j (by omega) hl)
        (lr.keep (fun j hj hl=>old j (by omega) hl) fun j hj=>⟨hj.1,by omega,hj.2.2⟩) ne hn fun h5 p5 u5=>?_
      have r5:Rd h5 R s r:=(r3.ext e4).upd u5 (by omega)
      refine ZcJ r5 fun h6 r6 u6 z6=>?_
      have p6:=psR p5 u6
      have u16:Upd (UB R b) h h6:=(((uR u1).trans (uR u3)).trans (e4.upd _)).trans ((uB u5).trans (uR u6))
      refine Zr (fun _ h'=>h'=h6∧∃ l7,ZM r=58::l7) ?_ ?_
      ·rintro ⟨⟩ h7 ⟨rfl,l7,e7⟩
       rw [e7] at r6
       refine Zb7 r6 fun h8 r8 u8 z8=>⟨l7,ns++[t],r8,psR p6 u8,tU ht (u16.trans (uR u8)),u16.trans (uR u8),?_⟩
       rw [hq,hnm,htx]
       simp only [Out.bind_ok,e7,↓reduceIte]
      ·refine Xm r6 (Zfh 58 (fun hne=>ZaL (α:=BL) r6 rfl fun e' q he hq'=>herr e' q h6 ?_ u16) fun l7 e7=>⟨rfl,l7,e7⟩)
       rw [hq,hnm,htx]
       simp only [Out.bind_ok]
       cases hsk:ZM r with
       | nil=>rw [hsk] at he;cases he;rfl
       | cons d l7 =>
         rw [hsk] at he hne
         simp only
         rw [if_neg (hne d l7 rfl)]
         cases he;rfl
     ·refine Xm r1 (Zfh 34 (fun hne=>ZaL (α:=BL) r1 rfl fun e' q he hq'=>herr e' q h1 ?_ (uR u1)) fun l1 e1=>⟨rfl,l1,e1⟩)
      rw [hq]
      unfold Zbp
      cases hsk:ZM l with
      | nil=>rw [hsk] at he;cases he;rfl
      | cons d l1 =>
        rw [hsk] at he hne
        simp only
        rw [if_neg (hne d l1 rfl)]
        cases he;rfl
theorem Zp6 {pv:BL→Out JV} (hv:Js.Good false pv) (hs:St 1 pv) (ob:Bool) (c:UInt8) (l:BL):Zky pv ob (c::l)=(L pv ob [] .nil (ZM l)).bind fun p r=> .ok ⟨if ob then 7 else 6,[],p.1,p.2⟩ r:=Zkx hv hs ob c l
theorem ZlG {l:JL}:l.isNil=true↔l.len=0:=by cases l<;>simp [JL.isNil,JL.len]
theorem PS.xlen {h:Zc} {b k:Nat} {ns:List BL} {sub:JL} (p:PS h b k ns sub) {K:Sl→Prop} (hk:∀ x:Sl,x.len=sub.len→K x):ldL h b (0+2) K:=by
  obtain ⟨x,y,cx,c,ox,oy,lr,ne⟩:=p
  exact rL (s:=x) (Zi c rfl) (hk x (by have:=ox.len;have:=lr.len;omega))
theorem Zow {f20:Zj4} {k e:Int} {h:Zc} {R:Nat} {s:ByteArray} {l:BL} (hr:Rd h R s l) {K:VT5→HP} {P:Value→HP} (herr:OnE h R s (· = R) (XW 23 l:Out JV) P):Yy f20 (At R) k e 64 K P h:=by
  unfold Yy ZaK
  refine ZaX fun h1 c1 e1 z1=>Zr (fun _ _=>False) (fun _ _ h=>h.elim) (Zm (by decide) ?_)
  exact ZaL (α:=JV) (hr.ext e1) rfl fun e' r he hr'=>herr e' r h1 he (e1.upd _)
theorem Zov {f20:Zj4} {pv:BL→Out JV} (hg:Js.Good false pv) (hst:St 1 pv) (h0:pv [] = .err 24 []) {deep:Nat} (hd:deep<64) (hf:ZkZ f20 pv ((deep+1:Nat):Int)) {ob:Bool} {h:Zc} {R:Nat} {s:ByteArray} {c0:UInt8} {l:BL} (hr:Rd h R s (c0::l)) (ht:Zcb h) (hR:9≤R)
    {k e:Int} (hk:k=if ob then 7 else 6) (he:e=(Zcz ob).toNat) {K:VT5→HP} {P:Value→HP}
    (hok:∀ v r z h',Zky pv ob (c0::l) = .ok v r→Rd h' R s r→Upd (· = R) h h'→XY h' (fun j=>sz h≤j∧j<sz h') z v→K z h') (herr:OnE h R s (· = R) (Zky pv ob (c0::l)) P):Yy f20 (At R) k e (deep:Int) K P h:=by
  unfold Yy ZaK
  have hll:=hr.len
  have hRs:=hr.lt
  have hszr:sz h=h.size:=rfl
  rw [Zp6 hg hst] at hok herr
  refine ZaX fun h1 c1 e1 z1=>?_
  refine Zr (fun _ h'=>h'=h1) ?_ (Zn (by simp;omega) rfl)
  rintro ⟨⟩ h2 rfl
  refine Zb7 (hr.ext e1) fun h3 r3 u3 z3=>ZaX fun h4 c4 e4 z4=>?_
  have hb3:sz h3=h3.size:=rfl
  have hb:h3.size=h.size+1:=by rw [← hb3,z3];exact z1
  have hRb:R<h3.size:=by omega
  rw [ZhM (by rw [show obj h4 h3.size=_ from c4,Zb0];rfl) (by simp [Yd])]
  have hps:PS (h4.puts h3.size 0 [.int .u8 k,.string (ByteArray.mk #[]),.slice none 0 0,.slice none 0 0]) h3.size (if ob then 7 else 6) [] .nil:=by
    refine ⟨⟨none,0,0⟩,⟨none,0,0⟩,[],?_,Own.nil _ _ _,Own.nil _ _ _,rfl,fun j hj=>by cases hj⟩
    rw [Zbo,if_pos rfl,show obj h4 h3.size=_ from c4,XE,hk]
    cases ob<;>rfl
  have u5:=Upd.puts h4 h3.size 0 [.int .u8 k,.string (ByteArray.mk #[]),.slice none 0 0,.slice none 0 0]
  generalize h4.puts h3.size 0 [.int .u8 k,.string (ByteArray.mk #[]),.slice none 0 0,.slice none 0 0]=h5 at hps u5 ⊢
  have r5:Rd h5 R s l:=(r3.ext e4).upd u5 (by omega)
  have low:∀ {a:Zc},Upd (UB R h3.size) h3 a→Upd (· = R) h a:=fun {a} u=>UT (UN e1 u3) u fun j hj=>by
    rcases hj with rfl | hj
    ·exact .inl rfl
    ·right;omega
  have u35:Upd (UB R h3.size) h3 h5:=(e4.upd _).trans (u5.mono fun j _ hj=>by subst hj;exact .inr (Nat.le_refl _))
  have t5:Zcb h5:=ht.upd (low u35) fun j hj=>by subst hj;exact hR
  refine ZcJ r5 fun h6 r6 u6 z6=>?_
  have p6:=hps.upd u6 fun j hj=>by subst hj;exact hRb
  have u36:Upd (UB R h3.size) h3 h6:=u35.trans (u6.mono fun j _ hj=> .inl hj)
  have t6:Zcb h6:=t5.upd u6 fun j hj=>by subst hj;exact hR
  have c1':∀ {a:Zc},Upd (UB R h3.size) h3 a→obj a h.size=some (.cells zV.toArray 33 (0,0)):=fun {a} u=>by
    have c3:obj h3 h.size=some (.cells zV.toArray 33 (0,0)):=YH c1 u3 (by omega)
    exact YH c3 u (by omega)
  have hsk:=ZbM l
  refine Zx (fun _ h'=>∃ (l':BL) (ns:List BL) (sub:JL),Rd h' R s l'∧PS h' h3.size (if ob then 7 else 6) ns sub∧Zcb h'∧L pv ob ns sub l'=L pv ob [] .nil (ZM l)∧sub.len+l'.length≤65536∧ns.length≤sub.len∧Upd (UB R h3.size) h3 h') (fun _ h'=>left h' R)
    ⟨ZM l,[],.nil,r6,p6,t6,rfl,by simp [JL.len] at hll ⊢;omega,Nat.le_refl _,u36⟩ ?_
  rintro ⟨⟩ h7 ⟨l7,ns,sub,r7,p7,t7,q7,n7,m7,u7⟩
  have tU:∀ {c:Zc},Upd (UB R h3.size) h7 c→Zcb c:=fun u=>t7.upd u fun j hj=>by rcases hj with rfl | hj<;>omega
  have er:∀ {e:Nat} {r:BL} {h':Zc},L pv ob ns sub l7 = .err e r→Upd (UB R h3.size) h7 h'→P (Zdu e (s.size - r.length)) h':=fun he u=>herr _ _ _ (by rw [← q7,he];rfl) (low (u7.trans u))
  have hLe:=Zo7 hg hst h0 ob ns sub
  refine Zr (fun _ h'=>h'=h7∧Zcy (Zcz ob) l7=false) ?_ ?_
  ·rintro ⟨⟩ h8 ⟨rfl,hne⟩
   refine Zr (fun _ h'=>∃ l9,Rd h' R s l9∧PS h' h3.size (if ob then 7 else 6) ns sub∧Zcb h'∧Upd (UB R h3.size) h8 h'∧l9.length≤l7.length∧L pv ob ns sub l7=(Zaw pv ob ns sub l9).bind fun p=>L pv ob p.1 p.2) ?_ ?_
   ·rintro ⟨⟩ h9 ⟨l9,r9,p9,t9,u9,hl9,q9⟩
    rw [ZJ (by omega) (by omega)]
    refine Zp2 (deep:=((deep+1:Nat):Int)) hf (ob:=ob) rfl r9 t9 hR hRb p9 (by omega) (by omega) (fun p r h10 hp r10 p10 u10=>?_) fun e' r h10 hp u10=>er (by rw [q9,hp];rfl) (u9.trans u10)
    have hpl:=(Zcg hg hst ob ns sub).2.len hp
    have hpn:p.2.len=sub.len+1∧p.1.length≤ns.length+1:=by
      unfold Zaw at hp
      split at hp
      ·obtain ⟨nm,l3,a1,a2⟩:=ZR hp
       obtain ⟨v,l4,a3,a4⟩:=ZR a2
       cases a4
       exact ⟨JL.len_snoc v sub,by simp⟩
      ·obtain ⟨v,l4,a3,a4⟩:=ZR hp
       cases a4
       exact ⟨JL.len_snoc v sub,by simp⟩
    refine ⟨⟨r,p.1,p.2,r10,p10,tU (u9.trans u10),?_,by omega,by omega,u7.trans (u9.trans u10)⟩,?_⟩
    ·rw [← q7,q9,hp];rfl
    ·rw [r7.left,r10.left];omega
   ·refine p7.xlen fun x hx=>Zj (fun hgt=>?_) fun hle=>?_
    ·have hnil:sub.isNil=false:=by
       cases hs:sub.isNil with
       | false=>rfl
       | true=>have:=ZlG.1 hs;omega
     refine Zr (fun _ h'=>h'=h8∧∃ l9,l7=44::l9) ?_ ?_
     ·rintro ⟨⟩ h9 ⟨rfl,l9,rfl⟩
      refine Zb7 r7 fun h10 r10 u10 z10=>?_
      have u10':Upd (UB R h3.size) h9 h10:=u10.mono fun j _ hj=> .inl hj
      refine ⟨l9,r10,p7.upd u10 fun j hj=>by subst hj;exact hRb,tU u10',u10',by simp,?_⟩
      rw [hLe]
      show lF pv ob ns sub 44 (44::l9)=_
      unfold lF
      rw [if_neg (by cases ob<;>decide),if_neg (by simp [hnil]),if_pos rfl];rfl
     ·refine Xm r7 (Zfh 44 (fun hn=>ZaL (α:=List BL × JL) r7 rfl fun e' q hq hq'=>er (h':=h8) ?_ (Upd.refl _ _)) fun l9 e9=>⟨rfl,l9,e9⟩)
      rw [hLe,← hq]
      rcases l7 with _ | ⟨c,l9⟩
      ·rfl
      ·show lF pv ob ns sub c (c::l9)=_
       have h44:=hn c l9 rfl
       have hend:c≠Zcz ob:=by simpa [Zcy] using hne
       unfold lF
       rw [if_neg hend,if_neg (by simp [hnil]),if_neg h44]
    ·have hnil:sub.isNil=true:=ZlG.2 (by omega)
     refine ⟨l7,r7,p7,t7,Upd.refl _ _,Nat.le_refl _,?_⟩
     rw [hLe]
     rcases l7 with _ | ⟨c,l9⟩
     ·show Out.err 24 []=_
      rw [Zhn h0];rfl
     ·show lF pv ob ns sub c (c::l9)=_
      have hend:c≠Zcz ob:=by simpa [Zcy] using hne
      unfold lF
      rw [if_neg hend,if_pos hnil]
  ·refine ZvY r7 ?_
   have hend0:0<(Zcz ob).toNat:=by cases ob<;>decide
   refine Zfh (Zcz ob) (fun hn=>⟨rfl,?_⟩) (fun l9 e9=>?_) he hend0
   ·rcases l7 with _ | ⟨c,l9⟩
    ·rfl
    ·simp only [Zcy,beq_eq_false_iff_ne,ne_eq];exact hn c l9 rfl
   ·subst e9
    refine Zku r7 (fun h=>by cases h) fun _=>Zb7 r7 fun h8 r8 u8 z8=>?_
    have u8':Upd (UB R h3.size) h7 h8:=u8.mono fun j _ hj=> .inl hj
    have p8:=p7.upd u8 fun j hj=>by subst hj;exact hRb
    have u38:=u7.trans u8'
    obtain ⟨x,y,cx,c,ox,oy,lr,ne⟩:=id p8
    refine rI (Zi c rfl) (rS (Zi c rfl) (rL (s:=x) (Zi c rfl) (rL (s:=y) (Zi c rfl) ?_)))
    refine Zex (x:=x) (y:=y) (c1' u38) rfl fun h9 u9 z9=>?_
    have hq:L pv ob [] .nil (ZM l) = .ok (ns,sub) l9:=by
      rw [← q7,hLe]
      show lF pv ob ns sub (Zcz ob) (Zcz ob::l9)=_
      unfold lF
      rw [if_pos rfl];rfl
    have keep9:∀ j,h3.size≤j→j<sz h8→obj h9 j=obj h8 j:=fun j hj hl=>ZV u9 hl (by omega)
    refine hok ⟨if ob then 7 else 6,[],ns,sub⟩ l9 _ h9 (by rw [hq];rfl) (r8.upd u9 (by omega)) (UT (low u38) u9 fun j hj=>by right;omega) ?_
    have hs8:sz h3≤sz h8:=Zb2 u38
    refine ⟨?_,rfl,?_,?_,cx,?_,?_,?_⟩
    ·cases ob<;>rfl
    ·exact (oy.congr fun j _ hl hbj=>keep9 j (by omega) hl).row
    ·intro _ j hj;have:=oy.lt hj;have h9s:sz h8=h8.size:=rfl;exact ⟨by omega,by omega⟩
    ·exact (ox.congr fun j _ hl hbj=>keep9 j (by omega) hl).row
    ·intro _ j hj;have:=ox.lt hj;have h9s:sz h8=h8.size:=rfl;exact ⟨by omega,by omega⟩
    ·exact lr.keep (fun j hj hl=>keep9 j (by omega) hl) fun j hj=>⟨by omega,by omega⟩
def opN:Nat→Bool→BL→Out JV
  | 0=>fun _ l=>XW 23 l
  | m+1=>Zky (ZB m)
theorem ZfQ (n:Nat):ZB n=Zdv (opN n):=by cases n<;>rfl
theorem Zne (n:Nat) {l:BL} {c:UInt8} {l1:BL} (e:ZM l=c::l1):ZB n l =
    if c=123 then opN n true (c::l1)
    else if c=91 then opN n false (c::l1)
    else if c=34 then (ZgY l1).bind fun t r=> .ok ⟨5,t,[],.nil⟩ r
    else if c=110 then (XL [110,117,108,108] (c::l1)).bind fun _ r=> .ok ⟨1,[],[],.nil⟩ r
    else if c=102 then (XL [102,97,108,115,101] (c::l1)).bind fun _ r=> .ok ⟨2,[],[],.nil⟩ r
    else if c=116 then (XL [116,114,117,101] (c::l1)).bind fun _ r=> .ok ⟨3,[],[],.nil⟩ r
    else if c=45∨Xn c then (ZdN (c::l1)).bind fun _ r=> .ok ⟨4,upto (c::l1) r,[],.nil⟩ r
    else .err 20 (c::l1):=by
  rw [ZfQ]
  unfold Zdv
  rw [e]
theorem XY.plain (h:Zc) (S:Nat→Prop) (k:Nat) (t:BL):XY h S ((k:Int),Ze t,⟨none,0,0⟩,⟨none,0,0⟩,()) ⟨k,t,[],.nil⟩ :=
  ⟨rfl,rfl,Row.nil _ _,fun h=>absurd rfl h,[],Row.nil _ _,fun h=>absurd rfl h,rfl⟩
theorem ZjM {c:UInt8} {l:BL} {n:Int} {K:Bool→Prop} (hk:K (decide ((c.toNat:Int)=n))):ZD (XM (c::l) ==n) K:=by
  have:(XM (c::l) ==n)=decide ((c.toNat:Int)=n):=by
    by_cases h:(c.toNat:Int)=n
    ·rw [decide_eq_true h];exact beq_iff_eq.2 h
    ·rw [decide_eq_false h];exact beq_eq_false_iff_ne.2 h
  rw [this];exact hk
def Zrj (f20:Zj4) (n:Nat) (deep:Int):Prop:=∀ (ob:Bool) (k e:Int) (h:Zc) (R:Nat) (s:ByteArray) (c0:UInt8) (l:BL) (K:VT5→HP) (P:Value→HP),(k=if ob then 7 else 6)→e=(Zcz ob).toNat→Rd h R s (c0::l)→Zcb h→9≤R →
  (∀ v r z h',opN n ob (c0::l) = .ok v r→Rd h' R s r→Upd (· = R) h h'→XY h' (fun j=>sz h≤j∧j<sz h') z v→K z h')→OnE h R s (· = R) (opN n ob (c0::l)) P→Yy f20 (At R) k e deep K P h
theorem Zjf {f20:Zj4} {n:Nat} {deep:Int} (hp:Zrj f20 n deep):ZkZ (Zaz f20) (ZB n) deep:=by
  intro h R s l K P hr ht hR hok herr
  unfold Zaz ZbX
  have hRs:=hr.lt
  have hszr:sz h=h.size:=rfl
  refine ZaX fun h1 c1 e1 z1=>?_
  refine ZcJ (hr.ext e1) fun h2 r2 u2 z2=>?_
  have ht2:Zcb h2:=(ht.ext e1).upd u2 fun j hj=>by subst hj;exact hR
  have hb2:sz h2=h.size+1:=by rw [z2];exact z1
  have low:∀ {a:Zc},Upd (· = R) h2 a→Upd (· = R) h a:=fun u=>UN e1 (u2.trans u)
  have cb:∀ {a:Zc},Upd (· = R) h2 a→obj a h.size=some (.cells zV.toArray 33 (0,0)):=fun u=>YH c1 (u2.trans u) (by omega)
  have fin:∀ {v:JV} {r:BL} {z:VT5} {h4:Zc},ZB n l = .ok v r→Rd h4 R s r→Upd (· = R) h2 h4→XY h4 (fun j=>sz h2≤j∧j<sz h4) z v →
      sts h4 h.size 0 [.int .u8 z.1,.string z.2.1,.slice z.2.2.1.ptr z.2.2.1.len z.2.2.1.cap,.slice z.2.2.2.1.ptr z.2.2.2.1.len z.2.2.2.1.cap] fun h83 =>
        ldI h83 h.size 0 .u8 fun t84=>ldS h83 h.size (0+1) fun t85=>ldL h83 h.size (0+2) fun t86=>ldL h83 h.size (0+3) fun t87=>K (t84,t85,t86,t87,()) h83:=fun {v r z h4} hv r4 u4 v4=>by
    refine Zex (x:=z.2.2.1) (y:=z.2.2.2.1) (cb u4) rfl fun h5 u5 z5=>?_
    have s4:=Zb2 u4
    exact hok v r z h5 hv (r4.upd u5 (by omega)) (UT (low u4) u5 fun j hj=>by right;omega) (v4.keep (fun j hj hl=>ZV u5 hl (by omega)) fun j hj=>⟨by omega,by omega⟩)
  have er:∀ {e:Nat} {r:BL} {h':Zc},ZB n l = .err e r→Upd (· = R) h2 h'→P (Zdu e (s.size - r.length)) h':=fun he u=>herr _ _ _ he (low u)
  refine Zr (fun _ h'=>h'=h2∧∃ c l1,ZM l=c::l1∧ZB n l = .err 20 (c::l1)) ?_ ?_
  ·rintro ⟨⟩ h3 ⟨rfl,c,l1,e3,hv⟩
   refine ZaL (α:=JV) r2 rfl fun e' r he hr'=>er ?_ (Upd.refl _ _)
   rw [hv,← he,e3];rfl
  ·refine Xm r2 (Za (Zfn r2 fun p hp'=>Zno r2 (Zd ?_)))
   have hlen:=hp'.len
   cases hsk:ZM l with
   | nil =>
     rw [hsk] at r2 hlen
     refine Zm (by simp at hlen ⊢;omega) (ZaL (α:=JV) r2 rfl fun e' r he hr'=>er ?_ (Upd.refl _ _))
     rw [ZfQ]
     unfold Zdv
     rw [hsk,← he];rfl
   | cons c l1 =>
     have hq:=Zne n hsk
     rw [hsk] at r2 hlen
     refine Zn (by simp at hlen ⊢;omega) ?_
     refine ZjM (Zj (fun h123=>?_) fun h123=>ZjM (Zj (fun h91=>?_) fun h91=>ZjM (Zj (fun h34=>?_) fun h34=>ZjM (Zj (fun h110=>?_) fun h110=>ZjM (Zj (fun h102=>?_) fun h102=>ZjM (Zj (fun h116=>?_) fun h116=>?_))))))
     ·rw [if_pos (Zb9 (d:=123) h123)] at hq
      exact hp true 7 125 h2 R s c l1 _ P rfl rfl r2 ht2 hR (fun v r z h4 hv r4 u4 v4=>fin (hq.trans hv) r4 u4 v4) fun e r h4 he u4=>er (hq.trans he) u4
     all_goals rw [if_neg (Zde (d:=123) h123)] at hq
     ·rw [if_pos (Zb9 (d:=91) h91)] at hq
      exact hp false 6 93 h2 R s c l1 _ P rfl rfl r2 ht2 hR (fun v r z h4 hv r4 u4 v4=>fin (hq.trans hv) r4 u4 v4) fun e r h4 he u4=>er (hq.trans he) u4
     all_goals rw [if_neg (Zde (d:=91) h91)] at hq
     ·rw [if_pos (Zb9 (d:=34) h34)] at hq
      refine Zlb r2 ht2 hR (fun t r h4 hv r4 u4=>?_) fun e r h4 he u4=>er (by rw [hq,he];rfl) u4
      exact fin (z:=(5,Ze t,⟨none,0,0⟩,⟨none,0,0⟩,())) (v:=⟨5,t,[],.nil⟩) (by rw [hq,hv];rfl) r4 u4 (XY.plain _ _ 5 t)
     all_goals rw [if_neg (Zde (d:=34) h34)] at hq
     ·rw [if_pos (Zb9 (d:=110) h110)] at hq
      refine ZhA r2 (wl:=[110,117,108,108]) rfl (by decide) (fun r h4 hv r4 u4=>?_) fun e r h4 he u4=>er (by rw [hq,he];rfl) u4
      exact fin (v:=⟨1,[],[],.nil⟩) (by rw [hq,hv];rfl) r4 u4 (XY.plain _ _ 1 [])
     all_goals rw [if_neg (Zde (d:=110) h110)] at hq
     ·rw [if_pos (Zb9 (d:=102) h102)] at hq
      refine ZhA r2 (wl:=[102,97,108,115,101]) rfl (by decide) (fun r h4 hv r4 u4=>?_) fun e r h4 he u4=>er (by rw [hq,he];rfl) u4
      exact fin (v:=⟨2,[],[],.nil⟩) (by rw [hq,hv];rfl) r4 u4 (XY.plain _ _ 2 [])
     all_goals rw [if_neg (Zde (d:=102) h102)] at hq
     ·rw [if_pos (Zb9 (d:=116) h116)] at hq
      refine ZhA r2 (wl:=[116,114,117,101]) rfl (by decide) (fun r h4 hv r4 u4=>?_) fun e r h4 he u4=>er (by rw [hq,he];rfl) u4
      exact fin (v:=⟨3,[],[],.nil⟩) (by rw [hq,hv];rfl) r4 u4 (XY.plain _ _ 3 [])
     rw [if_neg (Zde (d:=116) h116)] at hq
     have num:(c=45∨Xn c=true)→∀ (Kp:VT5→HP),(∀ z h',Kp z h'=sts h' h.size 0 [.int .u8 z.1,.string z.2.1,.slice z.2.2.1.ptr z.2.2.1.len z.2.2.1.cap,.slice z.2.2.2.1.ptr z.2.2.2.1.len z.2.2.2.1.cap] fun h83 =>
       ldI h83 h.size 0 .u8 fun t84=>ldS h83 h.size (0+1) fun t85=>ldL h83 h.size (0+2) fun t86=>ldL h83 h.size (0+3) fun t87=>K (t84,t85,t86,t87,()) h83)→Y6 (At R) Kp P h2:=fun hc Kp hK=>by
       rw [if_pos hc] at hq
       refine ZmA r2 (fun r h4 hv r4 u4=>?_) fun e r h4 he u4=>er (by rw [hq,he];rfl) u4
       rw [hK]
       exact fin (z:=(4,Ze (upto (c::l1) r),⟨none,0,0⟩,⟨none,0,0⟩,())) (v:=⟨4,upto (c::l1) r,[],.nil⟩) (by rw [hq,hv];rfl) r4 u4 (XY.plain _ _ 4 _)
     have bad:¬ (c=45∨Xn c=true)→ZB n l = .err 20 (c::l1):=fun hc=>by rw [if_neg hc] at hq;exact hq
     have hz:XM (c::l1)=(c.toNat:Int):=rfl
     rw [hz]
     refine Yh (fun h45=>num (.inl (Zb9 (d:=45) h45)) _ fun _ _=>rfl) fun h45=>?_
     have n45:c≠45:=Zde (d:=45) h45
     refine Zj (fun h48=>Zd (Zj (fun h57=>num (.inr (ZcI.2 (by omega))) _ fun _ _=>rfl) fun h57=>?_)) fun h48=>?_
     ·exact ⟨rfl,c,l1,rfl,bad fun hc=>hc.elim n45 fun hd=>by have:=ZcI.1 hd;omega⟩
     ·exact ⟨rfl,c,l1,rfl,bad fun hc=>hc.elim n45 fun hd=>by have:=ZcI.1 hd;omega⟩
theorem Zjg:∀ n:Nat,n≤64→ZkZ (YQ (n+1)) (ZB n) ((64 - n:Nat):Int)
  | 0,_=>Zjf (f20:=YQ 0) (n:=0) fun ob k e h R s c0 l K P hk he hr ht hR hok herr=>Zow hr herr
  | n+1,hn=>Zjf (f20:=YQ (n+1)) (n:=n+1) fun ob k e h R s c0 l K P hk he hr ht hR hok herr=>by
    refine Zov (Xb n).1 (Xb n).2 (Zes n) (deep:=64 - (n+1)) (by omega) ?_ hr ht hR hk he hok herr
    have:=Zjg n (by omega)
    rw [show 64 - (n+1)+1=64 - n by omega]
    exact this
theorem Zle {h:Zc} {b o:Nat} {vs:List Value} {K:Zc→Prop} {l:List Value} {e:TypeId} (hb:obj h b=some (.cells l.toArray e (0,0))) (ho:o+vs.length≤l.length) (hv:vs.all Yd=true)
    (hk:∀ h',obj h' b=some (.cells (Zan o vs l).toArray e (0,0))→Upd (· = b) h h'→sz h'=sz h→K h'):sts h b o vs K:=by
  rw [ZhM (by rw [hb,Zb0];simpa using ho) hv]
  exact hk _ (by rw [Zbo,if_pos rfl,hb,XE]) (Upd.puts h b o vs) ZeA
def zJ:JV:=⟨0,[],[],.nil⟩
structure Res (h:Zc) (b b2 b4:Nat) (z:VT5) (e n:Int):Prop where
  v:obj h b=some (.cells (YS z).toArray 33 (0,0))
  e:obj h b2=some (.cells [.int .i64 e].toArray 37 (0,0))
  n:obj h b4=some (.cells [.int .i64 n].toArray 3 (0,0))
theorem Zkt {h:Zc} {b b2 b4:Nat} {z:VT5} {e n:Int} (hr:Res h b b2 b4 z e n) {K:VT5→Int→Int→HP} (hk:K z e n h):Zff b b2 b4 K h :=
  rI (Zi hr.v rfl) (rS (Zi hr.v rfl) (rL (s:=z.2.2.1) (Zi hr.v rfl) (rL (s:=z.2.2.2.1) (Zi hr.v rfl) (rI (Zi hr.e rfl) (rI (Zi hr.n rfl) hk)))))
theorem Zi0 {h:Zc} {b b2 b4:Nat} {z0:VT5} {e0 n0:Int} (hr:Res h b b2 b4 z0 e0 n0) (h12:b≠b2) (h14:b≠b4) (h24:b2≠b4) {e n:Nat} {K:VT5→Int→Int→HP}
    (hk:∀ h',Upd (fun j=>j=b∨j=b2∨j=b4) h h'→K (0,Ze [],⟨none,0,0⟩,⟨none,0,0⟩,()) e n h'):ZbO b b2 b4 K (Zdu e n) h:=by
  have lb:=ZbJ hr.v
  have lb2:=ZbJ hr.e
  have lb4:=ZbJ hr.n
  refine ⟨e,n,rfl,.inr ⟨_,_,rfl,Zda (ZdP ?_)⟩⟩
  refine ZaX fun h2 c2 e2 z2=>Zle c2 (by simp) (by simp [Yd]) fun h3 c3 u3 z3=>?_
  have c3':obj h3 h.size=some (.cells [.int .i64 e,.int .i64 n].toArray 160 (0,0)):=c3
  have hs:sz h=h.size:=rfl
  have hb3:obj h3 b=some (.cells (YS z0).toArray 33 (0,0)):=YH (Z6 hr.v e2) u3 (by omega)
  have hb23:obj h3 b2=some (.cells [.int .i64 e0].toArray 37 (0,0)):=YH (Z6 hr.e e2) u3 (by omega)
  have hb43:obj h3 b4=some (.cells [.int .i64 n0].toArray 3 (0,0)):=YH (Z6 hr.n e2) u3 (by omega)
  refine rI (Zi c3' rfl) (rI (Zi c3' rfl) (Z7 (Zle hb3 (by simp [YS]) (by simp [Yd]) fun h6 c6 u6 z6=>?_)))
  have w6:=YH c3' u6 (show ¬ h.size=b by omega)
  refine YR (Zi w6 rfl) (YR (Zi w6 rfl) (Z7 (Zi1 (YH hb23 u6 (Ne.symm h12)) (by simp) ZcY fun h9 c9 u9 z9=>?_)))
  have w9:=YH w6 u9 (show ¬ h.size=b2 by omega)
  refine YR (Zi w9 rfl) (Z7 (Zi1 (YH (YH hb43 u6 (Ne.symm h14)) u9 (Ne.symm h24)) (by simp) ZcY fun h10 c10 u10 z10=>?_))
  have u:Upd (fun j=>j=b∨j=b2∨j=b4) h h10:=by
    refine UT (UT (UT (UT (e2.upd _) u3 fun j hj=> .inr (by omega)) u6 fun j hj=> .inl (.inl hj)) u9 fun j hj=> .inl (.inr (.inl hj))) u10 fun j hj=> .inl (.inr (.inr hj))
  refine Zkt ⟨YH (YH c6 u9 h12) u10 h14,YH c9 u10 h24,c10⟩ (hk h10 u)
def Zl6 (h:Zc) (S:Nat→Prop) (g:Got) (z:VT5) (e n:Int):Prop:=match g with
  | .ok v=>XY h S z v∧e=0∧n=0
  | .err e' k=>XY h S z zJ∧e=e'∧n=k
theorem ZjA {h:Zc} {s:ByteArray} (ht:Zcb h) (hh:9≤sz h) {K:VT5→Int→Int→HP}
    (hk:∀ z e n h',Ext h h'→Zl6 h' (fun j=>sz h≤j∧j<sz h') (Za2 s.data.toList) z e n→K z e n h'):XK s K h:=by
  unfold XK
  have hs0:sz h=h.size:=rfl
  refine ZaX fun h1 c1 e1 z1=>ZaX fun h3 c3 e3 z3=>ZaX fun h5 c5 e5 z5=>?_
  have hs1:sz h1=h1.size:=rfl
  have hs3:sz h3=h3.size:=rfl
  have hs5:sz h5=h5.size:=rfl
  have hz:YS (0,Ze [],⟨none,0,0⟩,⟨none,0,0⟩,())=zV:=rfl
  have v5:Res h5 h.size h1.size h3.size (0,Ze [],⟨none,0,0⟩,⟨none,0,0⟩,()) 0 0:=⟨Z6 (Z6 c1 e3) e5,Z6 c3 e5,c5⟩
  have e05:Ext h h5:=(e1.trans e3).trans e5
  have low:∀ {S:Nat→Prop} {a:Zc},Upd S h5 a→(∀ j,S j→sz h≤j)→Ext h a:=fun u hS=>e05.updS u hS
  have hlen:s.data.toList.length=s.size:=by simp
  refine Zj (fun hlong=>?_) fun hshort=>?_
  ·refine Zle v5.v (by simp [YS]) (by simp [Yd]) fun h6 c6 u6 z6=>?_
   refine Zi1 (YH v5.e u6 (show ¬ h1.size=h.size by omega)) (by simp) ZcY fun h7 c7 u7 z7=>?_
   refine Zi1 (YH (YH v5.n u6 (show ¬ h3.size=h.size by omega)) u7 (show ¬ h3.size=h1.size by omega)) (by simp) ZcY fun h8 c8 u8 z8=>?_
   refine Zkt (z:=(0,Ze [],⟨none,0,0⟩,⟨none,0,0⟩,())) ⟨YH (YH c6 u7 (show ¬ h.size=h1.size by omega)) u8 (show ¬ h.size=h3.size by omega),YH c7 u8 (show ¬ h1.size=h3.size by omega),c8⟩ (hk _ _ _ h8 ?_ ?_)
   ·refine low (S:=fun j=>sz h≤j) (UT (UT (u6.mono fun j _ hj=>by subst hj;omega) u7 fun j hj=> .inl (by omega)) u8 fun j hj=> .inl (by omega)) fun j hj=>hj
   ·rw [Zfc (by omega)]
    exact ⟨XY.plain _ _ 0 [],rfl,rfl⟩
  ·have hs:s.size≤65536:=by omega
   refine ZaX fun h15 c15 e15 z15=>?_
   have r15:Rd h15 h5.size s s.data.toList:=⟨hs,0,c15,Zer.start s⟩
   have t15:Zcb h15:=ht.ext (e05.trans e15)
   have pp:=Zfb (l:=s.data.toList) (by omega)
   have recov:∀ {a:Zc} {z0:VT5} {e0 n0:Int} {e n:Nat},Res a h.size h1.size h3.size z0 e0 n0→Ext h a→Za2 s.data.toList = .err e n→ZbO h.size h1.size h3.size K (Zdu e n) a:=fun {a z0 e0 n0 e n} hr ea hp=>by
     refine Zi0 hr (by omega) (by omega) (by omega) fun h' u=>hk _ _ _ h' (ea.updS u fun j hj=>by omega) ?_
     rw [hp]
     exact ⟨XY.plain _ _ 0 [],rfl,rfl⟩
   have v15:Res h15 h.size h1.size h3.size (0,Ze [],⟨none,0,0⟩,⟨none,0,0⟩,()) 0 0:=⟨Z6 v5.v e15,Z6 v5.e e15,Z6 v5.n e15⟩
   have resU:∀ {S:Nat→Prop} {a c:Zc} {z:VT5} {e n:Int},Res a h.size h1.size h3.size z e n→Upd S a c→(∀ j,S j→h5.size≤j)→Res c h.size h1.size h3.size z e n:=fun r u hS =>
     ⟨YH r.v u fun h9=>by have:=hS _ h9;omega,YH r.e u fun h9=>by have:=hS _ h9;omega,YH r.n u fun h9=>by have:=hS _ h9;omega⟩
   have hR9:∀ j,j=h5.size→h5.size≤j:=fun j hj=>by omega
   refine ⟨65,?_⟩
   refine Zjg 64 (Nat.le_refl _) h15 h5.size s _ _ _ r15 t15 (by omega) (fun v r z h17 hv r17 u17 v17=>?_) fun e r h17 he u17=>?_
   ·have w17:=resU v15 u17 hR9
    refine Zle w17.v (by simp [YS]) (Zbu z) fun h18 c18 u18 z18=>?_
    have c18':obj h18 h.size=some (.cells (YS z).toArray 33 (0,0)):=c18
    have hs15:sz h15=sz h5+1:=z15
    have v18:XY h18 (fun j=>sz h15≤j∧j<sz h18) z v:=v17.keep (fun j hj hl=>ZV u18 hl (by omega)) fun j hj=>⟨hj.1,by omega⟩
    have e18:Ext h h18:=((e05.trans e15).updS u17 fun j hj=>by subst hj;omega).updS u18 fun j hj=>by omega
    have w18:Res h18 h.size h1.size h3.size z 0 0:=⟨c18',YH w17.e u18 (by omega),YH w17.n u18 (by omega)⟩
    refine ZcJ (r17.upd u18 (by omega)) fun h19 r19 u19 z19=>?_
    have w19:=resU w18 u19 hR9
    have e19:Ext h h19:=e18.updS u19 fun j hj=>by subst hj;omega
    have v19:XY h19 (fun j=>sz h15≤j∧j<sz h19) z v:=v18.keep (fun j hj hl=>ZV u19 hl (by omega)) fun j hj=>⟨hj.1,by omega⟩
    obtain ⟨_,p,cp,gp⟩:=id r19
    have hpl:=gp.len
    rw [hv] at pp
    simp only at pp
    refine rI (Zi cp rfl) (Zj (fun hlt=>rI (Zi cp rfl) ?_) fun hge=>?_)
    ·cases hsk:ZM r with
     | nil=>rw [hsk] at hpl;simp at hpl;omega
     | cons c r' =>
       rw [hsk] at pp r19 hpl
       simp only at pp
       refine ZnL r19 hlt ?_
       have:=recov w19 e19 pp
       unfold Zdu at this
       have hnum:((s.data.toList.length - (c::r').length:Nat):Int)=(p:Int):=by omega
       rw [hnum] at this
       exact this
    ·have hsk:ZM r=[]:=List.eq_nil_of_length_eq_zero (by omega)
     rw [hsk] at pp
     simp only at pp
     unfold ZfG
     refine rI (Zi w19.v rfl) (rS (Zi w19.v rfl) (rL (s:=z.2.2.1) (Zi w19.v rfl) (rL (s:=z.2.2.2.1) (Zi w19.v rfl) ?_)))
     refine Zle w19.v (by simp [YS]) (Zbu z) fun h20 c20 u20 z20=>?_
     have c20':obj h20 h.size=some (.cells (YS z).toArray 33 (0,0)):=c20
     refine Zi1 (YH w19.e u20 (show ¬ h1.size=h.size by omega)) (by simp) ZcY fun h21 c21 u21 z21=>?_
     refine Zi1 (YH (YH w19.n u20 (show ¬ h3.size=h.size by omega)) u21 (show ¬ h3.size=h1.size by omega)) (by simp) ZcY fun h22 c22 u22 z22=>?_
     refine Zkt ⟨YH (YH c20' u21 (show ¬ h.size=h1.size by omega)) u22 (show ¬ h.size=h3.size by omega),YH c21 u22 (show ¬ h1.size=h3.size by omega),c22⟩ (hk _ _ _ h22 ?_ ?_)
     ·exact ((e19.updS u20 fun j hj=>by omega).updS u21 fun j hj=>by omega).updS u22 fun j hj=>by omega
     ·rw [pp]
      have u:Upd (fun j=>j<h5.size) h19 h22:=((u20.mono fun j _ hj=>by omega).trans (u21.mono fun j _ hj=>by omega)).trans (u22.mono fun j _ hj=>by omega)
      exact ⟨v19.keep (fun j hj hl=>ZV u hl (by omega)) fun j hj=>⟨by omega,by have:=Zb2 u;omega⟩,rfl,rfl⟩
   ·have w17:=resU v15 u17 hR9
    have e17:Ext h h17:=(e05.trans e15).updS u17 fun j hj=>by subst hj;omega
    rw [he] at pp
    simp only at pp
    rw [hlen] at pp
    exact recov w17 e17 pp
end Go.Proofs.YtpjbjdheeemdiaaGreatDoor
