/- What the library tells of one rune's bytes; the beginnings of runes: plain words. No program. -/
import Derived.Lib.RuneCount
import Derived.Laws.Strings
import Derived.Test.YtpjbjdheeemdiaaGreatDoorPa10
set_option linter.unusedVariables false
set_option linter.unusedSimpArgs false
namespace Go.Js
open Go
theorem ZoV:∀ b:Fin 256,2≤nRb ⟨⟨b⟩⟩→nRb ⟨⟨b⟩⟩≤4∧(loR ⟨⟨b⟩⟩=128∨loR ⟨⟨b⟩⟩=144∨loR ⟨⟨b⟩⟩=160)∧loR ⟨⟨b⟩⟩≤hiR ⟨⟨b⟩⟩:=by decide +kernel
theorem ZuM:∀ c:UInt8,2≤nRb c→nRb c≤4∧(loR c=128∨loR c=144∨loR c=160)∧loR c≤hiR c:=fun ⟨⟨b⟩⟩=>ZoV b
theorem Zu4 (c:UInt8):nRb c≤4:=by
  by_cases h:2≤nRb c
  ·exact (ZuM c h).1
  ·omega
theorem ZlT:∀ {lo hi:Nat} {r t:BL},okC lo hi (r++t)=(okC lo hi r&&(if r=[] then okC lo hi t else okC 128 191 t))
  | lo,hi,[],t=>by simp [okC]
  | lo,hi,d::r,t=>by
    simp only [List.cons_append,okC,ZlT (r:=r)]
    by_cases hr:r=[]
    ·subst hr;simp [okC,Bool.and_assoc]
    ·simp [hr,Bool.and_assoc]
theorem ZiM {x t:BL} (hx:x≠[]) (h:Zak (x++t)=true):ZiN x=true:=by
  rcases x with _ | ⟨c,r⟩
  ·exact absurd rfl hx
  ·simp only [List.cons_append,Zak,Bool.and_eq_true,decide_eq_true_eq,List.length_append] at h
   rw [ZlT,Bool.and_eq_true] at h
   simp only [ZiN,Bool.and_eq_true,decide_eq_true_eq]
   exact ⟨⟨h.1.1,by omega⟩,h.2.1⟩
theorem Zs3 {x:BL} (h:ZiN x=true):x.length≤4∧(Zak x=false→x.length≤3):=by
  rcases x with _ | ⟨c,r⟩
  ·cases h
  ·simp only [ZiN,Bool.and_eq_true,decide_eq_true_eq] at h
   have:=Zu4 c
   refine ⟨by simp;omega,fun hn=>?_⟩
   have:r.length+1≠nRb c:=fun e=>by simp [Zak,e,h.2,h.1.1] at hn
   simp;omega
def Zss:List BL:=[[128,128,128],[144,128,128],[160,128,128]]
theorem Zu9 {x:BL} (h:ZiN x=true) (hn:Zak x=false):∃ low,low∈Zss∧∃ n,x.length<n∧n≤4∧Zak (x++low.take (n - x.length))=true:=by
  rcases x with _ | ⟨c,r⟩
  ·cases h
  simp only [ZiN,Bool.and_eq_true,decide_eq_true_eq] at h
  obtain ⟨⟨h0,hl⟩,hc⟩:=h
  have hne:r.length+1≠nRb c:=fun e=>by simp [Zak,e,hc,h0] at hn
  have h2:2≤nRb c:=by omega
  obtain ⟨h4,hlo,hh⟩:=ZuM c h2
  have key:∀ low:BL,low.length=3→(if r=[] then okC (loR c) (hiR c) (low.take (nRb c - (r.length+1))) else okC 128 191 (low.take (nRb c - (r.length+1))))=true→Zak (c::r++low.take (nRb c - (c::r).length))=true:=fun low hlen hok=>by
    simp only [List.cons_append,Zak,Bool.and_eq_true,decide_eq_true_eq,List.length_append,List.length_take,List.length_cons]
    refine ⟨⟨h0,by omega⟩,?_⟩
    rw [ZlT,hc,Bool.true_and]
    exact hok
  have cont:∀ m,okC 128 191 (([128,128]:BL).take m)=true:=fun m=>by
    rcases m with _ | _ | _ | m<;>rfl
  have ok3:∀ (a:UInt8) (m:Nat),(loR c≤a.toNat∧a.toNat≤hiR c)→okC (loR c) (hiR c) (([a,128,128]:BL).take m)=true:=fun a m ha=>by
    rcases m with _ | m
    ·rfl
    ·rw [List.take_succ_cons]
     simp only [okC,Bool.and_eq_true,decide_eq_true_eq]
     exact ⟨ha,cont m⟩
  have ok9:∀ (m:Nat),okC 128 191 (([128,128,128]:BL).take m)=true:=fun m=>by
    rcases m with _ | _ | _ | _ | m<;>rfl
  by_cases hr:r=[]
  ·rcases hlo with e | e | e
   ·exact ⟨[128,128,128],by simp [Zss],nRb c,by simp;omega,h4,key _ rfl (by rw [if_pos hr];exact ok3 128 _ (by rw [e] at hh ⊢;exact ⟨by decide,hh⟩))⟩
   ·exact ⟨[144,128,128],by simp [Zss],nRb c,by simp;omega,h4,key _ rfl (by rw [if_pos hr];exact ok3 144 _ (by rw [e] at hh ⊢;exact ⟨by decide,hh⟩))⟩
   ·exact ⟨[160,128,128],by simp [Zss],nRb c,by simp;omega,h4,key _ rfl (by rw [if_pos hr];exact ok3 160 _ (by rw [e] at hh ⊢;exact ⟨by decide,hh⟩))⟩
  ·exact ⟨[128,128,128],by simp [Zss],nRb c,by simp;omega,h4,key _ rfl (by rw [if_neg hr];exact ok9 _)⟩
theorem Ziv {x:BL} (h:Zak x=true):Lib.validD x=true:=by
  rcases x with _ | ⟨c,r⟩
  ·cases h
  ·have ht:(c::r).take (nRb c)=c::r:=by
     simp only [Zak,Bool.and_eq_true,decide_eq_true_eq] at h
     exact List.take_of_length_le (by simp;omega)
   have h2:=(XW c r).2 (by rw [ht];exact h)
   have h3:=((XW c r).1 h2).1
   rw [Lib.validD_step _ (by simp),if_neg h2,h3]
   have:(c::r).drop (nRb c)=[]:=by
     simp only [Zak,Bool.and_eq_true,decide_eq_true_eq] at h
     exact List.drop_of_length_le (by simp;omega)
   rw [this];rfl
theorem Zoh (s:ByteArray) (pos:Nat) (hp:pos<s.size) (fuel:Nat):1≤Lib.runeCountFrom s (fuel+1) pos:=by
  unfold Lib.runeCountFrom;rw [if_pos hp];omega
theorem Zqf (c:UInt8) (r:BL):(Lib.decodeL (c::r)).2≤r.length+1:=by
  by_cases hb:(Lib.decodeL (c::r)).1=65533∧(Lib.decodeL (c::r)).2=1
  ·omega
  ·obtain ⟨e,ho⟩:=(XW c r).1 hb
   rw [e]
   rcases hn:nRb c with _ | n
   ·omega
   ·rw [hn,List.take_succ_cons] at ho
    simp only [Zak,Bool.and_eq_true,decide_eq_true_eq,List.length_take] at ho
    omega
theorem Zle {c:UInt8} {r:BL}:Lib.runeCount ⟨(c::r).toArray⟩=1↔(Lib.decodeL (c::r)).2=r.length+1:=by
  have hsz:(⟨(c::r).toArray⟩:ByteArray).size=r.length+1:=rfl
  have hw:=Zqf c r
  unfold Lib.runeCount
  rw [hsz]
  have e:Lib.runeCountFrom ⟨(c::r).toArray⟩ (r.length+1) 0=1+Lib.runeCountFrom ⟨(c::r).toArray⟩ r.length (Lib.decodeL (c::r)).2:=by
    conv=>lhs;unfold Lib.runeCountFrom
    rw [hsz,if_pos (Nat.succ_pos _),Nat.zero_add]
    rfl
  rw [e]
  by_cases hl:(Lib.decodeL (c::r)).2<r.length+1
  ·obtain ⟨f,hf⟩:∃ f,r.length=f+1:=⟨r.length - 1,by have:=Lib.decodeL_width (c::r);omega⟩
   have:=Zoh ⟨(c::r).toArray⟩ (Lib.decodeL (c::r)).2 (by rw [hsz];exact hl) f
   rw [hf] at hl ⊢
   omega
  ·rw [Lib.runeCountFrom_end _ _ _ (by rw [hsz];exact hl)]
   omega
theorem Zds {x:BL}:(Lib.validD x=true∧Lib.runeCount ⟨x.toArray⟩=1)↔Zak x=true:=by
  rcases x with _ | ⟨c,r⟩
  ·constructor
   ·rintro ⟨_,h⟩;cases h
   ·intro h;cases h
  constructor
  ·rintro ⟨hv,h1⟩
   rw [Zle] at h1
   rw [Lib.validD_step _ (by simp)] at hv
   split at hv
   ·cases hv
   ·rename_i hb
    obtain ⟨a,b⟩:=(XW c r).1 hb
    rw [List.take_of_length_le (by simp;omega)] at b
    exact b
  ·intro h
   have hl:r.length+1=nRb c:=by
     simp only [Zak,Bool.and_eq_true,decide_eq_true_eq] at h
     exact h.1.2
   refine ⟨Ziv h,Zle.2 ?_⟩
   have ht:(c::r).take (nRb c)=c::r:=List.take_of_length_le (by simp;omega)
   rw [((XW c r).1 ((XW c r).2 (by rw [ht];exact h))).1,hl]
theorem Zks:∀ (n:Nat) (l:BL),l.length≤n→(Lib.validD l=true↔Utf l)
  | 0,l,h=>by
    have:l=[]:=List.eq_nil_of_length_eq_zero (by omega)
    subst this
    exact ⟨fun _=> .nil,fun _=>rfl⟩
  | n+1,[],_=>⟨fun _=> .nil,fun _=>rfl⟩
  | n+1,c::r,h=>by
    rw [Lib.validD_step _ (by simp)]
    have hw:=Lib.decodeL_width (c::r)
    simp only [List.length_cons] at hw h
    by_cases hb:(Lib.decodeL (c::r)).1=65533∧(Lib.decodeL (c::r)).2=1
    ·rw [if_pos hb]
     refine ⟨fun h=>(by cases h),fun hu=>?_⟩
     exfalso
     generalize hl:c::r=l at hu
     cases hu with
     | nil=>cases hl
     | cons hx hu =>
       rename_i x l'
       rcases x with _ | ⟨d,x⟩
       ·cases hx
       ·cases hl
        refine (XW c _).2 ?_ hb
        have he:x.length+1=nRb c:=by
          simp only [Zak,Bool.and_eq_true,decide_eq_true_eq] at hx
          exact hx.1.2
        rw [← he]
        have:((c::(x++l')).take (x.length+1))=c::x:=by simp
        show Zak ((c::(x++l')).take (x.length+1))=true
        rw [this];exact hx
    ·rw [if_neg hb]
     obtain ⟨e,ho⟩:=(XW c r).1 hb
     rw [e]
     have hd:((c::r).drop (nRb c)).length≤n:=by
       have:1≤nRb c:=by rw [← e];exact (by omega)
       simp;omega
     rw [Zks n _ hd]
     constructor
     ·intro hu
      have:=Utf.cons ho hu
      rwa [List.take_append_drop] at this
     ·intro hu
      generalize hl:c::r=l at hu
      cases hu with
      | nil=>cases hl
      | cons hx hu =>
        rename_i x l'
        rcases x with _ | ⟨d,x⟩
        ·cases hx
        ·cases hl
         have he:x.length+1=nRb c:=by
           simp only [Zak,Bool.and_eq_true,decide_eq_true_eq] at hx
           exact hx.1.2
         rw [← he]
         simpa using hu
theorem ZdT (l:BL):Lib.validD l=true↔Utf l:=Zks _ l (Nat.le_refl _)
theorem ZoJ {x:BL} (h:ZiN x=true):Lib.validD x=Zak x:=by
  cases ho:Zak x with
  | true=>exact Ziv ho
  | false =>
    cases hv:Lib.validD x with
    | false=>rfl
    | true =>
      exfalso
      have hu:=(ZdT x).1 hv
      cases hu with
      | nil=>cases h
      | cons hx hu =>
        rename_i y l
        have hp:=h
        rcases y with _ | ⟨c,y⟩
        ·cases hx
        ·have he:y.length+1=nRb c:=by
           simp only [Zak,Bool.and_eq_true,decide_eq_true_eq] at hx
           exact hx.1.2
         simp only [List.cons_append,ZiN,Bool.and_eq_true,decide_eq_true_eq,List.length_append] at hp
         have:l=[]:=List.eq_nil_of_length_eq_zero (by omega)
         subst this
         rw [List.append_nil] at ho
         rw [hx] at ho;cases ho
end Go.Js
namespace Go.Proofs.YtpjbjdheeemdiaaGreatDoor
open Go Go.Fw Go.Js
abbrev UB (R B:Nat):Nat→Prop:=fun k=>k=R∨B≤k
theorem toU (c:UInt8):(c.toNat:Int).toNat.toUInt8=c:=by simp
abbrev ZsU:BL:=[34,92,47,98,102,110,114,116]
theorem ZsV:∀ c:UInt8,ZaO c=none→Lib.indexByte ZsU c<0:=ZtQ (by decide +kernel)
theorem Zq3:∀ c:UInt8,(ZaO c).isSome=true→0≤Lib.indexByte ZsU c∧(⟨#[34,92,47,8,12,10,13,9]⟩:ByteArray)[(Lib.indexByte ZsU c).toNat]?=ZaO c:=ZtQ (by decide +kernel)
theorem ZkA (a b:ByteArray):Za2 a b=decide (a=b):=by
  unfold Za2
  rw [ByteArray.toList_eq,ByteArray.toList_eq]
  by_cases h:a=b
  ·rw [h];simp
  ·rw [decide_eq_false h,beq_eq_false_iff_ne]
   intro e
   exact h (ByteArray.ext (Array.toList_inj.1 e))
theorem Zcb.extractN {s:ByteArray} {n:Nat} {l:BL} (h:Zcb s n l) {k:Nat} (hk:k≤l.length):s.extract n (n+k)=Zc (l.take k):=by
  have:=h.extract (h.dropK hk) (Nat.le_add_right _ _)
  rw [this]
  congr 1
  unfold ZdZ
  rw [List.length_drop,show l.length - (l.length - k)=k by omega]
theorem Yk (l:BL):(Zc l).size=l.length:=rfl
theorem ZlO {l:BL} {K:Bool→HP} {h:Ze} (hk:K (XH l).isSome h):Xq (Zc l) (ByteArray.mk #[92,117]) K h:=by
  unfold Xq Zbg ZA Yo
  have h2:(ByteArray.mk #[92,117]).size=2:=rfl
  rw [h2,Yk]
  rcases l with _ | ⟨a,_ | ⟨b,l⟩⟩
  ·exact Zl (by simp) (Zd hk)
  ·exact Zl (by simp) (Zd hk)
  ·refine Zn (by simp;omega) ⟨by omega,by omega,by rw [Yk];simp;omega,?_⟩
   have e:(Zc (a::b::l)).extract 0 2=Zc [a,b]:=by
     apply ByteArray.ext
     simp [Zc]
   show ZF (Za2 ((Zc (a::b::l)).extract 0 2) _) _
   rw [e]
   have e2:Za2 (Zc [a,b]) (ByteArray.mk #[92,117])=(XH (a::b::l)).isSome:=by
     rw [Zbx]
     rw [ZkA]
     by_cases hc:a=92∧b=117
     ·rw [if_pos hc,hc.1,hc.2];exact decide_eq_true rfl
     ·rw [if_neg hc]
      refine decide_eq_false fun e=>hc ?_
      have:=congrArg (fun x:ByteArray=>x.data.toList) e
      simpa [Zc] using this
   rw [e2]
   exact Zd (Zd hk)
theorem Zmc {l o r:BL} (h:Znb l = .ok o r):o.length+r.length≤l.length∧r <:+l:=by
  rcases l with _ | ⟨c,l⟩
  ·cases h
  ·rw [Zes] at h
   cases hm:ZaO c with
   | some m=>rw [hm] at h;cases h;exact ⟨by simp;omega,List.suffix_cons _ _⟩
   | none =>
     rw [hm] at h
     simp only at h
     split at h
     ·rw [ZfT] at h
      obtain ⟨n,l1,h1,h2⟩:=ZO h
      obtain ⟨a1,b1⟩:=Zap 4 h1
      cases hb:(if 55296≤n∧n<56320 then XH l1 else none) with
      | none =>
        simp only [hb] at h2
        cases h2
        have:=ZdY (ZdA n)
        exact ⟨by simp;omega,Xf b1⟩
      | some l2 =>
        simp only [hb] at h2
        have hb':XH l1=some l2:=by
          split at hb
          ·exact hb
          ·cases hb
        have e:=XR hb'
        obtain ⟨m,l3,h3,h4⟩:=ZO h2
        obtain ⟨a3,b3⟩:=Zap 4 h3
        have hl1:l1.length=l2.length+2:=by rw [e];rfl
        split at h4
        ·injection h4 with e1 e2
         subst e1 e2
         have:=ZdY (65536+(n - 55296)*1024+(m - 56320))
         have s2:l3 <:+l1:=by rw [e];exact Xf (Xf b3)
         exact ⟨by simp;omega,Xf (s2.trans b1)⟩
        ·cases h4
         have:=ZdY (ZdA n)
         exact ⟨by simp;omega,Xf b1⟩
     ·cases h
theorem Zmb {h:Ze} {R B:Nat} {T:TypeId} {s:ByteArray} {l out:BL} (hr:Rd h R s l) (hb:Bld h B T out) (hRB:R<B) (hs:out.length<900000000) {K:HP} {P:Value→HP}
    (hok:∀ o r h',Znb l = .ok o r→Rd h' R s r→Bld h' B T (out++o)→Upd (UB R B) h h'→K h') (herr:OnE h R s (UB R B) (Znb l) P):Xe (At R) (At B) K P h:=by
  unfold Xe ZaX
  have uR:∀ {a b:Ze},Upd (· = R) a b→Upd (UB R B) a b:=fun u=>u.mono fun k _ hk=> .inl hk
  have uB:∀ {a b:Ze},Upd (fun k=>B≤k) a b→Upd (UB R B) a b:=fun u=>u.mono fun k _ hk=> .inr hk
  have keepR:∀ {a b:Ze} {q:BL},Rd a R s q→Upd (fun k=>B≤k) a b→Rd b R s q:=fun r u=>r.upd u (by omega)
  have keepB:∀ {a b:Ze} {o:BL},Bld a B T o→Upd (· = R) a b→Bld b B T o:=fun r u=>r.upd u (fun k hk=>by subst hk;exact hRB)
  refine Y1 hr (Za ?_)
  refine Zm (fun _ h'=>h'=h∧(l=[]∨∃ c l',l=c::l'∧ZaO c=none)) ?_ ?_
  ·rintro ⟨⟩ h1 ⟨rfl,hl⟩
   refine Zm (fun _ h'=>h'=h1∧∃ l',l=117::l') ?_ ?_
   ·rintro ⟨⟩ h2 ⟨rfl,l1,rfl⟩
    have hesc:Znb (117::l1)=ZvK l1:=by rw [Zes,ZpE];simp
    refine Zbw hr fun h3 r3 u3 z3=>?_
    refine Zm0 r3 (fun n l2 h4 hh r4 u4 z4=>Za ?_) fun e r h4 he u4=>herr e r h4 (by rw [hesc,ZfT,he];rfl) (uR (u3.trans u4))
    have hn:n<65536:=by have:=ZhG 4 hh;omega
    have b4:=keepB (keepB hb u3) u4
    have u24:=uR (u3.trans u4)
    refine Zm (fun _ h'=>Znb (117::l1) = .ok (ZbB (ZdA n)) l2∧Rd h' R s l2∧Bld h' B T out∧Upd (UB R B) h2 h') ?_ ?_
    ·rintro ⟨⟩ h5 ⟨q5,r5,b5,u5⟩
     refine Zm (fun p h'=>h'=h5∧p.1=(ZdA n:Int)) ?_ ?_
     ·rintro ⟨m,u⟩ h6 ⟨rfl,hm⟩
      dsimp only at hm ⊢
      refine ZeU b5 (n:=ZdA n) ?_ ?_ hm hs fun i h7 b7 u7=>hok _ _ h7 q5 (keepR r5 u7) b7 (u5.trans (uB u7))
      ·unfold ZdA;split<;>omega
      ·unfold ZdA;split<;>omega
     ·refine Zi (fun h1=>Zi (fun h2=>Za ⟨rfl,?_⟩) fun h2=>⟨rfl,?_⟩) fun h1=>⟨rfl,?_⟩
      ·unfold ZdA;rw [if_pos (by omega)];rfl
      ·unfold ZdA;rw [if_neg (by omega)]
      ·unfold ZdA;rw [if_neg (by omega)]
    ·
     refine Zm (fun p h'=>h'=h4∧p.1=(decide (55296≤n∧n<56320)&&(XH l2).isSome)) ?_ ?_
     ·rintro ⟨b,u⟩ h5 ⟨rfl,hb5⟩
      dsimp only at hb5 ⊢
      subst hb5
      by_cases hhi:55296≤n∧n<56320
      case neg =>
        refine Zl (by simp [hhi]) ⟨?_,r4,b4,u24⟩
        rw [hesc,ZfT,hh];simp [hhi]
      cases hbu:XH l2 with
      | none =>
        refine Zl (by simp) ⟨?_,r4,b4,u24⟩
        rw [hesc,ZfT,hh];simp [hhi,hbu]
      | some l3 =>
        have hq:Znb (117::l1)=(ZbN 4 0 l3).bind fun m l4=>if 56320≤m∧m<57344 then .ok (ZbB (65536+(n - 55296)*1024+(m - 56320))) l4 else .ok (ZbB (ZdA n)) l2:=by
          rw [hesc,ZfT,hh];simp [hhi,hbu]
        have e:=XR hbu
        refine Zn (by simp [hhi]) (ZeP r4 fun was hwas=>Za ?_)
        refine Zs1 r4 (m:=2) rfl (by rw [e];simp) fun h6 r6 u6 z6=>?_
        have r6':Rd h6 R s l3:=by rw [e] at r6;exact r6
        refine Zm0 r6' (fun m l4 h7 hm r7 u7 z7=>Za ?_) fun e' r h7 he u7=>herr e' r h7 (by rw [hq,he];rfl) (u24.trans (uR (u6.trans u7)))
        have hm4:m<65536:=by have:=ZhG 4 hm;omega
        have back:¬ (56320≤m∧m<57344)→Zb (At R) fun b62 o63=>st h7 b62 (o63+1) (.int .i64 (was:Int)) fun h64=>Znb (117::l1) = .ok (ZbB (ZdA n)) l2∧Rd h64 R s l2∧Bld h64 B T out∧Upd (UB R B) h2 h64:=fun hlo =>
          ZmJ r7 rfl hwas fun h8 r8 u8 z8=>⟨by rw [hq,hm];simp [hlo],r8,keepB (keepB (keepB b4 u6) u7) u8,u24.trans (uR ((u6.trans u7).trans u8))⟩
        refine Zi (fun h1=>Zi (fun h2=>⟨by decide,?_⟩) fun h2=>back (by omega)) fun h1=>back (by omega)
        have hv:IntKind.wrap .i32 ((IntKind.wrap .i32 ((65536:Int)+(ZmF .i32 (IntKind.wrap .i32 ((n:Int) - 55296)) 10)))+(IntKind.wrap .i32 ((m:Int) - 56320)))=((65536+(n - 55296)*1024+(m - 56320):Nat):Int):=by
          rw [ZgW (n:=(n:Int) - 55296) (by omega) (by omega),show (n:Int) - 55296=((n - 55296:Nat):Int) by omega,show ((10:Int))=((10:Nat):Int) from rfl,ZuQ (by omega) (by omega),
            ZgW (n:=(m:Int) - 56320) (by omega) (by omega),ZgW (n:=65536+_) (by omega) (by omega),ZgW (by omega) (by omega)]
          omega
        refine ZeU (keepB (keepB b4 u6) u7) (n:=65536+(n - 55296)*1024+(m - 56320)) (by omega) (by omega) hv hs fun i h8 b8 u8=>hok _ _ h8 ?_ (keepR r7 u8) b8 ((u24.trans (uR (u6.trans u7))).trans (uB u8))
        rw [hq,hm]
        have:56320≤m∧m<57344:=by omega
        simp [this]
     ·refine Zi (fun h1=>Zi (fun h2=>?_) fun h2=>⟨rfl,by simp;omega⟩) fun h1=>⟨rfl,by simp;omega⟩
      refine ZmI r4 (ZeP r4 fun p hp=>?_)
      have hlen:=hp.len
      refine ⟨by omega,by omega,by omega,?_⟩
      have e:s.extract (p:Int).toNat (s.size:Int).toNat=Zc l2:=by
        rw [Int.toNat_natCast,Int.toNat_natCast,← hlen,hp.extractN (Nat.le_refl _),List.take_length]
      rw [e]
      refine ⟨((XH l2).isSome,()),ZlO ⟨rfl,rfl⟩,rfl,?_⟩
      have:55296≤n∧n<56320:=by omega
      simp [this]
   ·refine ZeI 117 (fun hn=>Zag (α:=BL) hr rfl fun e' r he hr'=>herr e' r h1 ?_ (Upd.refl _ _)) fun l' e=>⟨rfl,l',e⟩
    rw [← he]
    rcases hl with rfl | ⟨c,l',rfl,hm⟩
    ·rfl
    ·rw [Zes,hm]
     simp only
     rw [if_neg (hn c l' rfl)];rfl
  ·refine ZhE ?_
   rcases l with _ | ⟨c,l'⟩
   ·exact Za (Zl (decide_eq_false (by decide)) ⟨rfl,.inl rfl⟩)
   ·rw [show (Xp (c::l')).toNat.toUInt8=c from toU c]
    cases hm:ZaO c with
    | none =>
      have key:=ZsV c hm
      exact Za (Zl (decide_eq_false (Int.not_le.2 key)) ⟨rfl,.inr ⟨c,l',rfl,hm⟩⟩)
    | some m =>
      obtain ⟨k0,k1⟩:=Zq3 c (by rw [hm];rfl)
      rw [hm] at k1
      refine Za ?_
      refine Zn (decide_eq_true k0) (ZlM hr (fun _=>?_) fun h0=>by cases h0)
      refine ⟨m,k0,k1,?_⟩
      refine ZgV hb rfl hs fun h2 b2 u2=>?_
      refine Zbw (keepR hr u2) fun h3 r3 u3 z3=>hok [m] l' h3 ?_ r3 (keepB b2 u3) ((uB u2).trans (uR u3))
      rw [Zes,hm]
theorem Zgi {x:BL} (hx:x.length≤1000000) {K:Int→HP} {h:Ze} (hk:∀ h',Ext h h'→K (Lib.runeCount (Zc x)) h'):Ym (Zc x) K h:=⟨by rw [Yk];omega,hk⟩
theorem Zex {x:BL} (hx:x.length≤1000000) {K:Bool→HP} {h:Ze} (ht:ZbA h) (hk:∀ h',Ext h h'→K (Lib.validD x) h'):ZJ (Zc x) K h:=⟨ht,by rw [Yk];omega,by simpa using hk⟩
theorem Zc3 {x y:BL} (hx:x.length+y.length≤1000000) {K:ByteArray→Prop} (hk:K (Zc (x++y))):Zkg (Zc x) (Zc y) K:=by
  refine ⟨by rw [Yk,Yk];omega,?_⟩
  have:Zc x++Zc y=Zc (x++y):=by
    apply ByteArray.ext
    simp [Zc]
  rw [this];exact hk
theorem Zjy {x:BL} {n:Nat} (hn:n≤x.length) {m:Int} (hm:m=n) {K:ByteArray→Prop} (hk:K (Zc (x.take n))):ZfW (Zc x) 0 m K:=by
  subst hm
  refine ⟨by omega,by omega,by rw [Yk];omega,?_⟩
  have:(Zc x).extract (0:Int).toNat (n:Int).toNat=Zc (x.take n):=by
    apply ByteArray.ext
    simp [Zc]
  rw [this];exact hk
def Zdu (i:Nat):BL:=Zss.getD i []
theorem Ztd {low:BL} (h:low∈Zss):∃ i,i<3∧Zdu i=low:=by
  simp only [Zss,List.mem_cons,List.not_mem_nil,or_false] at h
  rcases h with rfl | rfl | rfl
  ·exact ⟨0,by omega,rfl⟩
  ·exact ⟨1,by omega,rfl⟩
  ·exact ⟨2,by omega,rfl⟩
theorem ZpF {i:Nat} (h:i<3):(Zdu i).length=3:=by
  obtain rfl | rfl | rfl:i=0∨i=1∨i=2:=by omega
  all_goals rfl
def Zr0 (x:BL) (i n:Nat):Prop:=∀ k,x.length<k→k<n→Zak (x++(Zdu i).take (k - x.length))=false
theorem Zmi {x:BL} (hne:x≠[]) (h4:x.length≤4) {h:Ze} (ht:ZbA h) {K:Bool→HP} (hk:∀ h',Ext h h'→K (ZiN x) h'):ZbL (Zc x) K h:=by
  unfold ZbL Zdy
  have hlen:0<x.length:=List.length_pos_iff.2 hne
  have hsz:((Zc x).size:Int)=x.length:=rfl
  refine ZbY fun h1 c1 e1 z1=>?_
  have yes:∀ {t:BL} {h':Ze},Ext h1 h'→Zak (x++t)=true→K true h':=fun {t h'} e ho=>by
    have:=hk h' (e1.trans e)
    rwa [ZiM hne ho] at this
  refine ZB (fun p h'=>∃ i:Nat,p.1=i∧i≤3∧Ext h1 h'∧∀ j,j<i→Zr0 x j 5) (fun p _=>(3 - p.1).toNat) ⟨0,rfl,by omega,Ext.refl _,fun j hj=>by omega⟩ ?_
  rintro ⟨s11,u⟩ h2 ⟨i,hi,hi3,e2,hno⟩
  dsimp only at hi ⊢
  subst hi
  refine Zi (fun hlt=>?_) fun hge=>?_
  ·have hi:i<3:=by omega
   have c2:=Y2 c1 e2
   have hstr:(Zc (Zdu i))=[ByteArray.mk #[128,128,128],ByteArray.mk #[144,128,128],ByteArray.mk #[160,128,128]].getD i (ByteArray.mk #[]):=by
     obtain rfl | rfl | rfl:i=0∨i=1∨i=2:=by omega
     all_goals rfl
   have hcell:Zam (0+i*1) (obj h2 h.size)=some (.string (Zc (Zdu i))):=by
     rw [hstr]
     obtain rfl | rfl | rfl:i=0∨i=1∨i=2:=by omega
     ·exact Zr c2 rfl
     ·exact Zr c2 rfl
     ·exact Zr c2 rfl
   refine Zl6 (n:=i) rfl (by omega) (rS hcell (Za ?_))
   have hll:=ZpF hi
   refine ZB (fun p h'=>∃ k:Nat,p.1=k∧x.length≤k∧k≤4∧Ext h1 h'∧Zr0 x i k) (fun p _=>(4 - p.1).toNat) ⟨x.length,rfl,Nat.le_refl _,h4,e2,fun k h1 h2=>by omega⟩ ?_
   rintro ⟨k6,u2⟩ h3 ⟨k,hk6,hk0,hk4,e3,hno3⟩
   dsimp only at hk6 ⊢
   subst hk6
   have ht3:ZbA h3:=ht.ext (e1.trans e3)
   refine Zi (fun hlt4=>?_) fun hge4=>?_
   ·rw [hsz,ZG (by omega) (by omega)]
    refine Zjy (n:=k - x.length) (by omega) (by omega) (Zc3 (by simp;omega) ?_)
    have hl9:(x++(Zdu i).take (k - x.length)).length≤1000000:=by simp;omega
    have step:∀ {h':Ze},Ext h3 h'→Zak (x++(Zdu i).take (k - x.length))=false→Zk (IntKind.wrap .i64 ((k:Int)+1)) fun k17=>(∃ k_1:Nat,k17=k_1∧x.length≤k_1∧k_1≤4∧Ext h1 h'∧Zr0 x i k_1)∧(4 - k17).toNat<(4 - (k:Int)).toNat:=fun {h'} e ho=>by
      refine Za ?_
      rw [ZG (by omega) (by omega)]
      refine ⟨⟨k+1,rfl,by omega,by omega,e3.trans e,fun q q1 q2=>?_⟩,by omega⟩
      rcases Nat.lt_or_ge q k with h | h
      ·exact hno3 q q1 h
      ·rw [show q=k by omega];exact ho
    refine Zgi hl9 fun h5 e5=>Za (Yj (fun h1'=>Zex hl9 (ht3.ext e5) fun h6 e6=>?_) fun hn1=>?_)
    ·cases hv:Lib.validD (x++(Zdu i).take (k - x.length)) with
     | true=>exact Zdf (yes (e3.trans (e5.trans e6)) (Zds.1 ⟨hv,by have:Lib.runeCount (Zc (x++(Zdu i).take (k - x.length)))=1:=by omega
                                                                   exact this⟩))
     | false =>
       refine ZcB (step (e5.trans e6) ?_)
       cases ho:Zak (x++(Zdu i).take (k - x.length)) with
       | false=>rfl
       | true=>rw [(Zds.2 ho).1] at hv;cases hv
    ·refine step e5 ?_
     cases ho:Zak (x++(Zdu i).take (k - x.length)) with
     | false=>rfl
     | true=>exact absurd (by have:=(Zds.2 ho).2;show ((Lib.runeCount (Zc _):Nat):Int)=1;rw [this];rfl) hn1
   ·obtain rfl:k=4:=by omega
    have next:∀ {h':Ze},Ext h3 h'→(x.length<4→Zak (x++(Zdu i).take (4 - x.length))=false)→(∃ i_1:Nat,IntKind.wrap .i64 ((i:Int)+1)=i_1∧i_1≤3∧Ext h1 h'∧∀ j,j<i_1→Zr0 x j 5)∧(3 - IntKind.wrap .i64 ((i:Int)+1)).toNat<(3 - (i:Int)).toNat:=fun {h'} e ho=>by
      rw [ZG (by omega) (by omega)]
      refine ⟨⟨i+1,rfl,by omega,e3.trans e,fun j hj=>?_⟩,by omega⟩
      rcases Nat.lt_or_ge j i with h | h
      ·exact hno j h
      ·obtain rfl:j=i:=by omega
       intro q q1 q2
       rcases Nat.lt_or_ge q 4 with h | h
       ·exact hno3 q q1 h
       ·obtain rfl:q=4:=by omega
        exact ho (by omega)
    rw [hsz]
    refine Zi (fun hlt=>?_) fun hge=>next (Ext.refl _) fun h=>by omega
    have e4:(x++Zdu i).take 4=x++(Zdu i).take (4 - x.length):=by
      rw [List.take_append,List.take_of_length_le (by omega)]
    have hl9:(x++(Zdu i).take (4 - x.length)).length≤1000000:=by simp;omega
    refine Zc3 (by omega) (Zjy (n:=4) (by simp;omega) rfl ?_)
    rw [e4]
    refine Zex hl9 ht3 fun h5 e5=>?_
    cases hv:Lib.validD (x++(Zdu i).take (4 - x.length)) with
    | false =>
      refine ZcB (next e5 fun _=>?_)
      cases ho:Zak (x++(Zdu i).take (4 - x.length)) with
      | false=>rfl
      | true=>rw [(Zds.2 ho).1] at hv;cases hv
    | true =>
      refine Zdf (Zc3 (by omega) (Zjy (n:=4) (by simp;omega) rfl ?_))
      rw [e4]
      refine Zgi hl9 fun h6 e6=>Yj (fun h1'=>yes (e3.trans (e5.trans e6)) (Zds.1 ⟨hv,?_⟩)) fun hn1=>next (e5.trans e6) fun _=>?_
      ·have:Lib.runeCount (Zc (x++(Zdu i).take (4 - x.length)))=1:=by omega
       exact this
      ·cases ho:Zak (x++(Zdu i).take (4 - x.length)) with
       | false=>rfl
       | true=>exact absurd (by have:=(Zds.2 ho).2;show ((Lib.runeCount (Zc _):Nat):Int)=1;rw [this];rfl) hn1
  ·obtain rfl:i=3:=by omega
   have ht2:ZbA h2:=ht.ext (e1.trans e2)
   have fin:∀ h',Ext h2 h'→K (Zak x) h':=fun h' e=>by
     have:=hk h' (e1.trans (e2.trans e))
     cases ho:Zak x with
     | true=>rwa [ZiM (t:=[]) hne (by rw [List.append_nil];exact ho)] at this
     | false =>
       cases hp:ZiN x with
       | false=>rwa [hp] at this
       | true =>
         exfalso
         obtain ⟨low,hm,n,n1,n2,n3⟩:=Zu9 hp ho
         obtain ⟨i,i3,rfl⟩:=Ztd hm
         have:=hno i i3 n n1 (by omega)
         rw [n3] at this;cases this
   refine Zex (by omega) ht2 fun h5 e5=>?_
   cases hv:Lib.validD x with
   | false =>
     refine ZcB ?_
     have:=fin h5 e5
     cases ho:Zak x with
     | false=>rwa [ho] at this
     | true=>rw [(Zds.2 ho).1] at hv;cases hv
   | true =>
     refine Zdf (Zgi (by omega) fun h6 e6=>Zd ?_)
     have:=fin h6 (e5.trans e6)
     cases ho:Zak x with
     | true =>
       rw [ho] at this
       have h1:Lib.runeCount (Zc x)=1:=(Zds.2 ho).2
       rw [h1];exact this
     | false =>
       rw [ho] at this
       have h1:¬ Lib.runeCount (Zc x)=1:=fun h1=>by
         have:=Zds.1 ⟨hv,h1⟩
         rw [ho] at this;cases this
       have h2:(((Lib.runeCount (Zc x):Nat):Int) ==1)=false:=by
         rw [beq_eq_false_iff_ne];omega
       rw [h2];exact this
theorem Zm9 {h:Ze} {R:Nat} {s:ByteArray} {l:BL} (hr:Rd h R s l) {e:Int} {n:Int} (hn:n<s.size) {K:HP} {P:Value→HP} (hp:P (.iface 160 (.agg #[.int .i64 e,.int .i64 n])) h):Zo (At R) e n K P h:=by
  unfold Zo XQ
  exact ZmI hr (Zl (by simp;omega) hp)
theorem ZrI {h:Ze} {R:Nat} {s:ByteArray} {l:BL} (hr:Rd h R s l) {e:Int} {n:Int} (hn:(s.size:Int)≤n) {K:HP} {P:Value→HP} (hp:P (ZcV 24 s.size) h):Zo (At R) e n K P h:=by
  unfold Zo XQ
  exact ZmI hr (Zn (by simp;omega) (ZmI hr hp))
theorem ZnE {h:Ze} {R B:Nat} {T:TypeId} {s:ByteArray} {l out:BL} (hr:Rd h R s l) (hb:Bld h B T out) (ht:ZbA h) (hne:l≠[]) (hR:9≤R) (hRB:R<B) (hs:out.length<800000000) {K:HP} {P:Value→HP}
    (hok:∀ x r h',ZcM XT l = .ok x r→Rd h' R s r→Bld h' B T (out++x)→Upd (UB R B) h h'→K h') (herr:OnE h R s (UB R B) (ZcM XT l) P):Xt (At R) (At B) K P h:=by
  unfold Xt Zbl
  have hll:=hr.len
  have errOf:∀ {e:Nat} {r:BL},XT l = .err e r→ZcM XT l = .err e r:=fun he=>by unfold ZcM;rw [he];rfl
  have part:∀ {k:Nat},k<l.length+1→1≤k→∃ d,l.take k=l.take (k - 1)++[d]∧l=l.take (k - 1)++d::l.drop k:=fun {k} hk h1=>by
    have hd:l.drop (k - 1)=l[k - 1]::l.drop k:=by
      have:=List.drop_eq_getElem_cons (l:=l) (i:=k - 1) (by omega)
      rw [this,show k - 1+1=k by omega]
    refine ⟨l[k - 1],?_,?_⟩
    ·have:l.take (k - 1+1)=l.take (k - 1)++[l[k - 1]]:=by rw [List.take_add_one,List.getElem?_eq_getElem (by omega)];rfl
     rw [show k - 1+1=k by omega] at this
     exact this
    ·rw [← hd,List.take_append_drop]
  refine Za ?_
  refine ZB (fun p h'=>∃ k:Nat,p.1=k∧1≤k∧k≤4∧k - 1≤l.length∧(l.take (k - 1)=[]∨(ZiN (l.take (k - 1))=true∧Zak (l.take (k - 1))=false))∧Ext h h') (fun p _=>(5 - p.1).toNat) ⟨1,rfl,by omega,by omega,by omega,.inl rfl,Ext.refl _⟩ ?_
  rintro ⟨k1,u⟩ h2 ⟨k,hk,hk1,hk4,hkl,hpre,e2⟩
  dsimp only at hk ⊢
  subst hk
  have r2:=hr.ext e2
  refine Zm (fun _ h'=>h'=h2∧k≤l.length) ?_ ?_
  ·rintro ⟨⟩ h3 ⟨rfl,hk5⟩
   obtain ⟨d,ed,el⟩:=part (by omega) hk1
   refine ZmI r2 (ZeP r2 fun n hn=>ZeP r2 fun n' hn'=>?_)
   have hnn:n'=n:=by have:=hn.len;have:=hn'.len;omega
   subst hnn
   have hlen:=hn.len
   rw [ZG (by omega) (by omega)]
   refine ⟨by omega,by omega,by omega,?_⟩
   have ex:s.extract (n':Int).toNat ((n':Int)+k).toNat=Zc (l.take k):=by
     rw [show ((n':Int)+k).toNat=n'+k by omega,Int.toNat_natCast]
     exact hn.extractN hk5
   rw [ex]
   have htl:(l.take k).length=k:=by rw [List.length_take];omega
   refine Zm (fun _ h'=>ZiN (l.take k)=true∧Ext h h') ?_ ?_
   ·rintro ⟨⟩ h4 ⟨hp4,e4⟩
    refine Zex (by omega) (ht.ext e4) fun h5 e5=>?_
    rw [ZoJ hp4]
    have r5:=hr.ext (e4.trans e5)
    cases ho:Zak (l.take k) with
    | true =>
      refine Zdf (Zlr (hb.congr fun b _ hl=>YB (e4.trans e5) hl) (by rw [Yk];omega) fun h6 b6 u6=>?_)
      refine ZeP (r5.upd u6 (by omega)) fun n6 hn6=>?_
      have hn6l:=hn6.len
      refine ZmJ (r5.upd u6 (by omega)) (n:=n6+k) (by rw [ZG (by omega) (by omega)];rfl) (hn6.dropK hk5) fun h7 r7 u7 z7=>?_
      have hq:ZcM XT l = .ok (l.take k) (l.drop k):=by
        have:XT (l.take k++l.drop k) = .ok () (l.drop k):=ZkE ho
        unfold ZcM
        rw [List.take_append_drop] at this
        rw [this]
        simp only [Out.bind_ok]
        congr 1
        unfold ZdZ
        rw [List.length_drop,show l.length - (l.length - k)=k by omega]
      refine hok _ _ h7 hq r7 ?_ ?_
      ·have:=b6.upd (B:=B) u7 (fun q hq=>by subst hq;exact hRB)
       simpa [Zc] using this
      ·exact (((e4.trans e5).upd _).trans (u6.mono fun q _ hq=> .inr hq)).trans (u7.mono fun q _ hq=> .inl hq)
    | false =>
      refine ZcB (Za ?_)
      rw [ZG (by omega) (by omega)]
      have h3:=(Zs3 hp4).2 ho
      refine ⟨⟨k+1,rfl,by omega,by omega,by omega,.inr ?_,e4.trans e5⟩,by omega⟩
      rw [show k+1 - 1=k by omega]
      exact ⟨hp4,ho⟩
   ·refine Zmi (by intro e;rw [e] at htl;simp at htl;omega) (by omega) (ht.ext e2) fun h4 e4=>?_
    cases hp4:ZiN (l.take k) with
    | true=>exact Zl rfl ⟨rfl,e2.trans e4⟩
    | false =>
      refine Zn rfl (ZeP (r2.ext e4) fun n4 hn4=>?_)
      have hn4l:=hn4.len
      rw [ZG (n:=(n4:Int)+k) (by omega) (by omega),ZG (by omega) (by omega)]
      refine Zm9 (r2.ext e4) (by omega) ?_
      have hq:XT l = .err 22 (d::l.drop k):=by
        conv=>lhs;rw [el]
        refine Zo7 ?_ (by rw [← ed];exact hp4)
        rcases hpre with h | h
        ·exact .inl h
        ·exact .inr h
      have:=herr 22 _ h4 (errOf hq) ((e2.trans e4).upd _)
      unfold ZcV at this
      have hnum:((s.size - (d::l.drop k).length:Nat):Int)=(n4:Int)+k - 1:=by
        simp only [List.length_cons,List.length_drop];omega
      rw [hnum] at this
      exact this
  ·refine ZeP r2 fun n hn=>ZmI r2 ?_
   have hnl:=hn.len
   rw [ZG (by omega) (by omega)]
   refine Zi (fun hgt=>ZmI r2 (ZrI r2 (Int.le_refl _) ?_)) fun hle=>⟨rfl,by omega⟩
   have hl9:l.take (k - 1)=l:=List.take_of_length_le (by omega)
   rw [hl9] at hpre
   have hp:=hpre.resolve_left hne
   have:=herr 24 [] h2 (errOf (Zo6 hp.1 hp.2)) (e2.upd _)
   simpa using this
def TP (out l:BL):Out BL:=Zfq (l.length+1) out l
theorem Zmn {n:Nat} {out l:BL} (h:l.length<n):Zfq n out l=TP out l:=by
  unfold TP
  rw [(Zg8 n l h).1,(Zg8 (l.length+1) l (Nat.lt_succ_self _)).1]
  exact Zcy _ _ _ _ _ h (Nat.lt_succ_self _)
theorem ZtE (out:BL) (c:UInt8) (l:BL):TP out (c::l) =
    if c.toNat<32 then .err 22 (c::l)
    else if c=34 then .ok out l
    else if c=92 then (Znb l).bind fun o l2=>TP (out++o) l2
    else if c.toNat<128 then TP (out++[c]) l
    else (ZcM XT (c::l)).bind fun x l2=>TP (out++x) l2:=by
  show Zfq ((c::l).length+1) out (c::l)=_
  rw [ZiC]
  have e1:((Znb l).bind fun o l2=>Zfq (c::l).length (out++o) l2)=(Znb l).bind fun o l2=>TP (out++o) l2:=by
    cases h:Znb l with
    | err e r=>rfl
    | ok o r=>exact Zmn (by have:=(Zmc h).2.length_le;simp;omega)
  have e2:((XT (c::l)).bind fun _ l2=>Zfq (c::l).length (out++ZdZ (c::l) l2) l2)=(ZcM XT (c::l)).bind fun x l2=>TP (out++x) l2:=by
    unfold ZcM
    cases h:XT (c::l) with
    | err e r=>rfl
    | ok o r=>exact Zmn (by have:=(Za3 h).1;simp at this ⊢;omega)
  rw [e1,e2,Zmn (n:=(c::l).length) (l:=l) (by simp)]
theorem Zkw {h:Ze} {R:Nat} {s:ByteArray} {c0:UInt8} {l:BL} (hr:Rd h R s (c0::l)) (ht:ZbA h) (hR:9≤R) {K:ByteArray→HP} {P:Value→HP}
    (hok:∀ t r h',Zgo l = .ok t r→Rd h' R s r→Upd (· = R) h h'→K (Zc t) h') (herr:OnE h R s (· = R) (Zgo l) P):YH (At R) K P h:=by
  unfold YH ZbR
  have hll:=hr.len
  have hRs:=hr.lt
  refine Zbw hr fun h1 r1 u1 z1=>ZbY fun h2 c2 e2 z2=>?_
  have hB:h1.size=sz h:=z1
  have r2:=r1.ext e2
  have b2:Bld h2 h1.size 188 []:=⟨.inl rfl,.pointer none,⟨none,0,0⟩,c2,.inl rfl,Buf.nil _ _⟩
  have hRB:R<h1.size:=by rw [hB];exact hRs
  have t2:ZbA h2:=(ht.upd u1 fun k hk=>by subst hk;exact hR).ext e2
  have low:∀ {a:Ze},Upd (UB R h1.size) h2 a→Upd (· = R) h a:=fun {a} u=>UT u1 (UN e2 u) fun k hk=>by
    rcases hk with rfl | hk
    ·exact .inl rfl
    ·right;rw [hB] at hk;exact hk
  refine ZB (fun _ h'=>∃ (l' out:BL),Rd h' R s l'∧Bld h' h1.size 188 out∧ZbA h'∧TP out l'=Zgo l∧out.length+l'.length≤65536∧Upd (UB R h1.size) h2 h') (fun _ h'=>left h' R) ⟨l,[],r2,b2,t2,rfl,by simp at hll ⊢;omega,Upd.refl _ _⟩ ?_
  rintro ⟨⟩ h3 ⟨l3,out,r3,b3,t3,q3,n3,u3⟩
  have keepR:∀ {a b:Ze} {q:BL},Rd a R s q→Upd (fun k=>h1.size≤k) a b→Rd b R s q:=fun r u=>r.upd u (by omega)
  have keepB:∀ {a b:Ze} {o:BL},Bld a h1.size 188 o→Upd (· = R) a b→Bld b h1.size 188 o:=fun r u=>r.upd u (fun k hk=>by subst hk;exact hRB)
  have tU:∀ {b:Ze},Upd (UB R h1.size) h3 b→ZbA b:=fun u=>t3.upd u fun k hk=>by rcases hk with rfl | hk<;>omega
  have er:∀ {e:Nat} {r:BL} {h':Ze},TP out l3 = .err e r→Upd (UB R h1.size) h3 h'→P (ZcV e (s.size - r.length)) h':=fun he u=>herr _ _ _ (by rw [← q3];exact he) (low (u3.trans u))
  refine Y1 r3 (Za ?_)
  refine Zm (fun p h'=>h'=h3∧p.1=decide (l3=[]∨Xp l3<32)) ?_ ?_
  ·rintro ⟨b,u⟩ h4 ⟨rfl,hb⟩
   dsimp only at hb ⊢
   subst hb
   rcases l3 with _ | ⟨c,l3⟩
   ·refine Zn (by simp) (Zag (α:=BL) r3 rfl fun e' r he hr'=>er ?_ (Upd.refl _ _))
    rw [← he];rfl
   have hz:Xp (c::l3)=(c.toNat:Int):=rfl
   have hq:=ZtE out c l3
   rw [hz]
   by_cases h32:c.toNat<32
   ·refine Zn (by simp;omega) (Zag (α:=BL) r3 rfl fun e' r he hr'=>er ?_ (Upd.refl _ _))
    rw [hq,if_pos h32,← he];rfl
   rw [if_neg h32] at hq
   refine Zl (by simp;omega) (Zd (Yj (fun h34=>?_) fun h34=>Zd (Yj (fun h92=>?_) fun h92=>Zd (Zi (fun h128=>?_) fun h128=>?_))))
   ·have hc:c=34:=Za1 (d:=34) h34
    rw [if_pos hc] at hq
    refine Zbw r3 fun h5 r5 u5 z5=>Zha (keepB b3 u5) fun h6 u6=>?_
    exact hok out l3 h6 (by rw [← q3];exact hq) (keepR r5 u6) (low ((u3.trans (u5.mono fun k _ hk=> .inl hk)).trans (u6.mono fun k _ hk=> .inr hk)))
   all_goals have n34:c≠34:=ZcF (d:=34) h34
   all_goals rw [if_neg n34] at hq
   ·have hc:c=92:=Za1 (d:=92) h92
    rw [if_pos hc] at hq
    refine Zbw r3 fun h5 r5 u5 z5=>?_
    have u5':Upd (UB R h1.size) h4 h5:=u5.mono fun k _ hk=> .inl hk
    refine Zmb r5 (keepB b3 u5) hRB (by simp at n3;omega) (fun o r h6 ho r6 b6 u6=>?_) fun e r h6 he u6=>er (by rw [hq,he];rfl) (u5'.trans u6)
    have hel:=Zmc ho
    have hrl:=hel.2.length_le
    simp only [List.length_cons] at n3
    refine ⟨⟨r,out++o,r6,b6,tU (u5'.trans u6),by rw [← q3,hq,ho];rfl,by simp;omega,u3.trans (u5'.trans u6)⟩,?_⟩
    rw [r3.left,r6.left];simp;omega
   all_goals have n92:c≠92:=ZcF (d:=92) h92
   all_goals rw [if_neg n92] at hq
   ·rw [if_pos (by omega)] at hq
    simp only [List.length_cons] at n3
    refine ZgV b3 rfl (by omega) fun h5 b5 u5=>?_
    have u5':Upd (UB R h1.size) h4 h5:=u5.mono fun k _ hk=> .inr hk
    refine Zbw (keepR r3 u5) fun h6 r6 u6 z6=>?_
    have u6':Upd (UB R h1.size) h5 h6:=u6.mono fun k _ hk=> .inl hk
    refine ⟨⟨l3,out++[c],r6,keepB b5 u6,tU (u5'.trans u6'),by rw [← q3,hq],by simp;omega,u3.trans (u5'.trans u6')⟩,?_⟩
    rw [r3.left,r6.left];simp
   ·rw [if_neg (by omega)] at hq
    simp only [List.length_cons] at n3
    refine ZnE r3 b3 t3 (by simp) hR hRB (by omega) (fun x r h5 hx r5 b5 u5=>?_) fun e r h5 he u5=>er (by rw [hq,he];rfl) u5
    obtain ⟨⟨_,hx1⟩,hx2⟩:=Zei hx
    obtain ⟨y,hy,hy1⟩:=Zhc hx1
    have hxy:x=y:=by rw [hx2,hy,XI]
    subst hxy
    have hlen:=congrArg List.length hy
    simp only [List.length_cons,List.length_append] at hlen
    have hy0:0<x.length:=by
      rcases x with _ | ⟨d,x⟩
      ·cases hy1
      ·simp
    refine ⟨⟨r,out++x,r5,b5,tU u5,by rw [← q3,hq,hx];rfl,by simp;omega,u3.trans u5⟩,?_⟩
    rw [r3.left,r5.left];simp;omega
  ·refine ZjK r3 (fun he=>⟨rfl,by simp [he]⟩) fun he=>Zd ⟨rfl,by simp [he]⟩
abbrev VT5:=Int × ByteArray × Sl × Sl × Unit
abbrev sV (t:BL):Value:= .string (Zc t)
def XX (z:VT5):List Value:=[.int .u8 z.1,.string z.2.1,slV z.2.2.1,slV z.2.2.2.1]
def inS (S:Nat→Prop) (x:Sl):Prop:=x.len≠0→∀ b,x.blk=some b→S b
def Za7 (h:Ze) (S:Nat→Prop):JL→List Value→Prop
  | .nil,vs=>vs=[]
  | .cons k t ns sub rest,vs=>∃ (x y:Sl) (cx vs':List Value),vs=XX ((k:Int),Zc t,x,y,())++vs'∧Row h y 1 (ns.map sV)∧inS S y∧Row h x 4 cx∧inS S x∧Za7 h S sub cx∧Za7 h S rest vs'
def Zbo (h:Ze) (S:Nat→Prop) (z:VT5) (v:JV):Prop :=
  z.1=v.k∧z.2.1=Zc v.t∧Row h z.2.2.2.1 1 (v.ns.map sV)∧inS S z.2.2.2.1∧∃ cx,Row h z.2.2.1 4 cx∧inS S z.2.2.1∧Za7 h S v.sub cx
theorem inS.mono {S S':Nat→Prop} {x:Sl} (h:inS S x) (hs:∀ b,S b→S' b):inS S' x:=fun hl b hb=>hs b (h hl b hb)
theorem ZaK {h h':Ze} {S:Nat→Prop} {x:Sl} {n:Nat} {vs:List Value} (hr:Row h x n vs) (hi:inS S x) (he:∀ b,S b→b<sz h→obj h' b=obj h b):Row h' x n vs:=by
  refine hr.congr fun b o hp hne hb=>he b (hi ?_ b (by simp [Sl.blk,hp])) hb
  intro h0
  exact hne (hr.nil_of h0)
theorem Za7.keep {h h':Ze} {S S':Nat→Prop} (he:∀ b,S b→b<sz h→obj h' b=obj h b) (hs:∀ b,S b→S' b):∀ {l:JL} {vs:List Value},Za7 h S l vs→Za7 h' S' l vs
  | .nil,_,h=>h
  | .cons k t ns sub rest,vs,h=>by
    obtain ⟨x,y,cx,vs',e,a,b,c,d,f,g⟩:=h
    exact ⟨x,y,cx,vs',e,ZaK a b he,b.mono hs,ZaK c d he,d.mono hs,Za7.keep he hs f,Za7.keep he hs g⟩
theorem Zbo.keep {h h':Ze} {S S':Nat→Prop} {z:VT5} {v:JV} (hv:Zbo h S z v) (he:∀ b,S b→b<sz h→obj h' b=obj h b) (hs:∀ b,S b→S' b):Zbo h' S' z v:=by
  obtain ⟨a,b,c,d,cx,e,f,g⟩:=hv
  exact ⟨a,b,ZaK c d he,d.mono hs,cx,ZaK e f he,f.mono hs,g.keep he hs⟩
theorem Za7.len {h:Ze} {S:Nat→Prop}:∀ {l:JL} {vs:List Value},Za7 h S l vs→vs.length=l.len*4
  | .nil,_,h=>by rw [show _=[] from h];rfl
  | .cons k t ns sub rest,vs,h=>by
    obtain ⟨x,y,cx,vs',e,a,b,c,d,f,g⟩:=h
    rw [e,List.length_append,Za7.len g]
    simp [XX,JL.len];omega
theorem Za7.snoc {h:Ze} {S:Nat→Prop} {z:VT5} {v:JV} (hv:Zbo h S z v):∀ {l:JL} {vs:List Value},Za7 h S l vs→Za7 h S (l.snoc v) (vs++XX z)
  | .nil,_,h=>by
    rw [show _=[] from h]
    obtain ⟨a,b,c,d,cx,e,f,g⟩:=hv
    refine ⟨z.2.2.1,z.2.2.2.1,cx,[],?_,c,d,e,f,g,rfl⟩
    simp [XX,a,b]
  | .cons k t ns sub rest,vs,h=>by
    obtain ⟨x,y,cx,vs',e,a,b,c,d,f,g⟩:=h
    exact ⟨x,y,cx,vs'++XX z,by rw [e,List.append_assoc],a,b,c,d,f,Za7.snoc hv g⟩
def PS (h:Ze) (b k:Nat) (ns:List BL) (sub:JL):Prop:=∃ (x y:Sl) (cx:List Value),
  obj h b=some (.cells (XX ((k:Int),Zc [],x,y,())).toArray 33 (0,0))∧Own h (b+1) x 4 cx∧Own h (b+1) y 1 (ns.map sV) ∧
    Za7 h (fun j=>b+1≤j∧j<sz h∧x.blk≠some j∧y.blk≠some j) sub cx∧∀ j,x.blk=some j→y.blk≠some j
theorem PS.lt {h:Ze} {b k:Nat} {ns:List BL} {sub:JL} (p:PS h b k ns sub):b<sz h:=by
  obtain ⟨x,y,cx,c,_⟩:=p
  exact ZbI c
theorem PS.upd {S:Nat→Prop} {h h':Ze} {b k:Nat} {ns:List BL} {sub:JL} (p:PS h b k ns sub) (u:Upd S h h') (hs:∀ j,S j→j<b):PS h' b k ns sub:=by
  obtain ⟨x,y,cx,c,ox,oy,lr,ne⟩:=p
  have he:∀ j,b≤j→j<sz h→obj h' j=obj h j:=fun j h1 h2=>ZY u h2 fun h9=>by have:=hs j h9;omega
  have hsz:sz h≤sz h':=u.size
  refine ⟨x,y,cx,(he b (Nat.le_refl _) (ZbI c)).trans c,ox.congr fun j _ hl hb=>he j (by omega) hl,oy.congr fun j _ hl hb=>he j (by omega) hl,lr.keep (fun j hj hl=>he j (by omega) hl) (fun j hj=>⟨hj.1,by omega,hj.2.2⟩),ne⟩
theorem Zhz:∀ (vs:List Value) (o:Nat) (c:List Value),o+vs.length≤c.length→XZ o vs c=c.take o++vs++c.drop (o+vs.length)
  | [],o,c,h=>by simp [XZ]
  | v::vs,o,c,h=>by
    simp only [List.length_cons] at h
    unfold XZ
    rw [Zhz vs (o+1) (c.set o v) (by simp;omega)]
    rw [List.take_add_one,List.getElem?_set_self (by omega),List.take_set_of_le (Nat.le_refl _),List.drop_set_of_lt (by omega)]
    simp
    congr 1;omega
theorem Zb5 (z:VT5):(XX z).all Z7=true:=by simp [XX,Z7,slV]
theorem Zqt {h:Ze} {b k:Nat} {ns:List BL} {sub:JL} {x y:Sl} {cx:List Value} (c:obj h b=some (.cells (XX ((k:Int),Zc [],x,y,())).toArray 33 (0,0)))
    (ox:Own h (b+1) x 4 cx) (oy:Own h (b+1) y 1 (ns.map sV)) (lr:Za7 h (fun j=>b+1≤j∧j<sz h∧x.blk≠some j∧y.blk≠some j) sub cx) (ne:∀ j,x.blk=some j→y.blk≠some j)
    {z:VT5} {v:JV} {Se:Nat→Prop} (hv:Zbo h Se z v) (hSe:∀ j,Se j→b+1≤j∧j<sz h∧x.blk≠some j∧y.blk≠some j) (hs:sub.len≤100000) {K:HP}
    (hk:∀ h',PS h' b k ns (sub.snoc v)→Upd (fun j=>b≤j) h h'→K h') :
    Fw.app 33 4 72 zV x 1 zV h fun t48 h49=>ZjY t48.ptr t48.len (x.len:Int) 4 fun b51 o52=>Zb (At b) fun b53 o54=>Zok (
      sts h49 b51 o52 (XX z) fun h55=>st h55 b53 (o54+2) (.slice t48.ptr t48.len t48.cap) K) (
      st h49 b53 (o54+2) (.slice t48.ptr t48.len t48.cap) fun h58=>sts h58 b51 o52 (XX z) K):=by
  have hb:=ZbI c
  have hlx:x.len=sub.len:=by have:=ox.len;have:=lr.len;omega
  refine ox.app rfl (by decide) rfl (by omega) (by omega) (by have:sz h=h.size:=rfl;omega) fun x' h1 o1 l1 u1 bl1=>?_
  have hsz:sz h≤sz h1:=u1.size
  rcases o1.at_ with ⟨hp,h0⟩ | ⟨g,cs,e,hp,hbg,hg,hcs,hvs⟩
  ·exfalso;have:=o1.cap;omega
  have hgblk:x'.blk=some g:=by simp [Sl.blk,hp]
  have hg':obj h1 g=some (.cells cs.toList.toArray e (0,0)):=by
    have:cs.toList.toArray=cs:=by simp
    rw [this];exact hg
  have hcap:=o1.cap
  have hcl:cs.toList.length=x'.cap*4:=by rw [Array.length_toList];exact hcs
  have hgx:x.blk=some g∨sz h≤g:=by
    rcases bl1 with e1 | e1
    ·left;rw [← e1,hgblk]
    ·right;rw [hgblk] at e1;cases e1;exact Nat.le_refl _
  have hgy:y.blk≠some g:=by
    rcases hgx with e1 | e1
    ·exact ne g e1
    ·intro e2
     have:=(oy.lt e2).2
     have:sz h=h.size:=rfl
     omega
  have c1:obj h1 b=some (.cells (XX ((k:Int),Zc [],x,y,())).toArray 33 (0,0)):=Yx c u1 fun e1=>by have:=(ox.lt e1).1;omega
  have hgb:g≠b:=by omega
  have hle:x.len*4+(XX z).length≤cs.toList.length:=by rw [hcl];simp [XX];omega
  have fin:∀ h',obj h' g=some (.cells (XZ (0+x.len*4) (XX z) cs.toList).toArray e (0,0))→obj h' b=some (.cells (XX ((k:Int),Zc [],x',y,())).toArray 33 (0,0)) →
      (∀ j,j≠g→j≠b→obj h' j=obj h1 j)→sz h'=sz h1→K h':=by
    intro h' eg eb ej es
    have hold:∀ j,j<sz h→j≠b→x.blk≠some j→obj h' j=obj h j:=fun j hj hjb hjx=>by
      rw [ej j (by rintro rfl;rcases hgx with e1 | e1;exact hjx e1;omega) hjb]
      exact ZY u1 hj hjx
    have vs9:cx++XX z=(XZ (0+x.len*4) (XX z) cs.toList).take (x'.len*4):=by
      rw [Nat.zero_add,Zhz _ _ _ hle,List.take_append_of_le_length (by simp [XX];omega),List.take_of_length_le (by simp [XX];omega)]
      congr 1
      have:=congrArg (fun q=>q.take (x.len*4)) hvs
      simp only [List.take_take,show min (x.len*4) (x'.len*4)=x.len*4 by omega] at this
      rw [← this,List.take_append_of_le_length (by have:=ox.len;omega),List.take_of_length_le (by have:=ox.len;omega)]
    refine hk h' ⟨x',y,cx++XX z,eb,⟨?_,hcap,o1.big,.inr ⟨g,_,e,hp,hbg,eg,?_,?_⟩⟩,?_,?_,?_⟩ ⟨by have:sz h'=h'.size:=rfl;have:sz h=h.size:=rfl;omega,fun j hj hbj=>hold j hj (by omega) fun e1=>by have:=(ox.lt e1).1;omega⟩
    ·have:=ox.len;simp [XX];omega
    ·simp [Zc0,hcs]
    ·simpa using vs9
    ·exact oy.congr fun j hj hl hbj=>hold j hl (by omega) fun e1=>ne j e1 hj
    ·have h1:Za7 h' (fun j=>b+1≤j∧j<sz h'∧x'.blk≠some j∧y.blk≠some j) sub cx:=lr.keep (fun j hj hl=>hold j hl (by omega) hj.2.2.1) fun j hj=>⟨hj.1,by omega,by
       rw [hgblk];rintro e1;cases e1
       rcases hgx with e1 | e1
       ·exact hj.2.2.1 e1
       ·omega,hj.2.2.2⟩
     refine h1.snoc (hv.keep (fun j hj hl=>?_) fun j hj=>?_)
     ·have:=hSe j hj
      exact hold j hl (by omega) this.2.2.1
     ·have:=hSe j hj
      refine ⟨this.1,by omega,?_,this.2.2.2⟩
      rw [hgblk];rintro e1;cases e1
      rcases hgx with e1 | e1
      ·exact this.2.2.1 e1
      ·omega
    ·intro j hj
     rw [hgblk] at hj;cases hj
     exact hgy
  rw [hp]
  refine Zl6 (n:=x.len) rfl (by omega) ?_
  refine ZX ⟨?_,?_⟩
  ·rw [Zg9 (by rw [hg',Zbn];simp [XX];omega) (Zb5 z)]
   have c2:obj (h1.puts g (0+x.len*4) (XX z)) b=some (.cells (XX ((k:Int),Zc [],x,y,())).toArray 33 (0,0)):=by rw [ZaL,if_neg (Ne.symm hgb)];exact c1
   refine Zkm c2 (by simp [XX]) Zhq fun h9 c9 u9 z9=>fin h9 ?_ (by rw [c9];simp [XX,slV,hp]) (fun j hj1 hj2=>?_) (by rw [z9,Zd2])
   ·rw [Yx (S:=(· = b)) (x:= .cells (XZ (0+x.len*4) (XX z) cs.toList).toArray e (0,0)) (by rw [ZaL,if_pos rfl,hg',Xi]) u9 hgb]
   ·by_cases hl:j<sz h1
    ·rw [ZY u9 (by rw [Zd2];exact hl) hj2,ZaL,if_neg hj1]
    ·have e1:obj h1 j=none:=Array.getElem?_eq_none (by have:sz h1=h1.size:=rfl;omega)
     have e2:obj h9 j=none:=Array.getElem?_eq_none (by have:sz h9=h9.size:=rfl;rw [← this,z9,Zd2];omega)
     rw [e1,e2]
  ·refine Zkm c1 (by simp [XX]) Zhq fun h8 c8 u8 z8=>?_
   have hg8:obj h8 g=some (.cells cs.toList.toArray e (0,0)):=Yx hg' u8 hgb
   rw [Zg9 (by rw [hg8,Zbn];simp [XX];omega) (Zb5 z)]
   refine fin _ (by rw [ZaL,if_pos rfl,hg8,Xi]) (by rw [ZaL,if_neg (Ne.symm hgb),c8];simp [XX,slV,hp]) (fun j hj1 hj2=>?_) (by rw [Zd2,z8])
   rw [ZaL,if_neg hj1]
   by_cases hl:j<sz h1
   ·exact ZY u8 hl hj2
   ·have e1:obj h1 j=none:=Array.getElem?_eq_none (by have:sz h1=h1.size:=rfl;omega)
    have e2:obj h8 j=none:=Array.getElem?_eq_none (by have:sz h8=h8.size:=rfl;rw [← this,z8];omega)
    rw [e1,e2]
theorem ZrX {h:Ze} {b k:Nat} {ns:List BL} {sub:JL} {x y:Sl} {cx:List Value} (c:obj h b=some (.cells (XX ((k:Int),Zc [],x,y,())).toArray 33 (0,0)))
    (ox:Own h (b+1) x 4 cx) (oy:Own h (b+1) y 1 (ns.map sV)) (lr:Za7 h (fun j=>b+1≤j∧j<sz h∧x.blk≠some j∧y.blk≠some j) sub cx) (ne:∀ j,x.blk=some j→y.blk≠some j)
    {t:BL} (hs:ns.length≤100000) {K:HP} (hk:∀ h',PS h' b k (ns++[t]) sub→Upd (fun j=>b≤j) h h'→K h') :
    Fw.app 9 1 16 [.string (ByteArray.mk #[])] y 1 [sV t] h fun t18 h19=>Zb (At b) fun b20 o21=>st h19 b20 (o21+3) (.slice t18.ptr t18.len t18.cap) K:=by
  have hb:=ZbI c
  have hly:y.len=ns.length:=by have:=oy.len;simp at this;omega
  refine oy.app rfl (by simp [Z7]) rfl (by omega) (by omega) (by have:sz h=h.size:=rfl;omega) fun y' h1 o1 l1 u1 bl1=>?_
  have hsz:sz h≤sz h1:=u1.size
  have c1:obj h1 b=some (.cells (XX ((k:Int),Zc [],x,y,())).toArray 33 (0,0)):=Yx c u1 fun e1=>by have:=(oy.lt e1).1;omega
  refine ZX (Zkm c1 (by simp [XX]) Zhq fun h9 c9 u9 z9=>?_)
  have hold:∀ j,j<sz h→j≠b→y.blk≠some j→obj h9 j=obj h j:=fun j hj hjb hjy=>(ZY u9 (by omega) hjb).trans (ZY u1 hj hjy)
  have hnew:∀ j,y'.blk=some j→y.blk=some j∨sz h≤j:=fun j hj=>by
    rcases bl1 with e1 | e1
    ·left;rw [← e1,hj]
    ·right;rw [hj] at e1;cases e1;exact Nat.le_refl _
  refine hk h9 ⟨x,y',cx,c9,?_,?_,?_,?_⟩ ⟨by have:sz h9=h9.size:=rfl;have:sz h=h.size:=rfl;omega,fun j hj hbj=>hold j hj (by omega) fun e1=>by have:=(oy.lt e1).1;omega⟩
  ·exact ox.congr fun j hj hl hbj=>hold j hl (by omega) (ne j hj)
  ·have:(ns++[t]).map sV=ns.map sV++[sV t]:=by simp
   rw [this]
   exact o1.congr fun j _ hl hbj=>ZY u9 hl (by omega)
  ·refine lr.keep (fun j hj hl=>hold j hl (by omega) hj.2.2.2) fun j hj=>⟨hj.1,by omega,hj.2.2.1,fun e1=>?_⟩
   rcases hnew j e1 with e2 | e2
   ·exact hj.2.2.2 e2
   ·omega
  ·intro j hj e1
   rcases hnew j e1 with e2 | e2
   ·exact ne j hj e2
   ·have:=(ox.lt hj).2
    have:sz h=h.size:=rfl
    omega
def Zkj (f:Zjl) (pv:BL→Out JV) (deep:Int):Prop:=∀ (h:Ze) (R:Nat) (s:ByteArray) (l:BL) (K:VT5→HP) (P:Value→HP),Rd h R s l→ZbA h→9≤R →
  (∀ v r z h',pv l = .ok v r→Rd h' R s r→Upd (· = R) h h'→Zbo h' (fun j=>sz h≤j∧j<sz h') z v→K z h')→OnE h R s (· = R) (pv l) P→f (At R) deep K P h
theorem Zbq {S:Nat→Prop} {h h':Ze} (u:Upd S h h'):sz h≤sz h':=u.size
theorem YS {h:Ze} {b o:Nat} {v:Value} {K:Prop} (hc:Zam o (obj h b)=some v) (hk:K):Zby (ZbZ h [(b,o,v)]) K:=by
  refine ⟨⟨?_,trivial⟩,hk⟩
  rw [Zbb];exact hc
theorem ZkJ {h:Ze} {b n size:Nat} {l:List Value} {t:TypeId} {f:Nat × Nat} {K:List Value→Prop} (c:obj h b=some (.cells l.toArray t f)) (hl:l.length=n*size) (hk:K l):rdS ⟨some ⟨b,0,none⟩,n,n⟩ size h K :=
  .inr ⟨b,0,l,rfl,hl,Zeh c (fun i v hi=>by simpa using hi),hk⟩
theorem Zpj {f20:Zjl} {pv:BL→Out JV} {deep:Int} (hf:Zkj f20 pv deep) {ob:Bool} {k:Nat} (hk:k=if ob then 7 else 6) {h:Ze} {R b:Nat} {s:ByteArray} {l:BL} {ns:List BL} {sub:JL} (hr:Rd h R s l) (ht:ZbA h) (hR:9≤R) (hRb:R<b)
    (ps:PS h b k ns sub) (hn:ns.length≤100000) (hs:sub.len≤100000) {K:HP} {P:Value→HP}
    (hok:∀ p r h',X8 pv ob ns sub l = .ok p r→Rd h' R s r→PS h' b k p.1 p.2→Upd (UB R b) h h'→K h') (herr:OnE h R s (UB R b) (X8 pv ob ns sub l) P):XL f20 (At R) (At b) deep K P h:=by
  unfold XL ZbS
  have uR:∀ {a c:Ze},Upd (· = R) a c→Upd (UB R b) a c:=fun u=>u.mono fun k _ hk=> .inl hk
  have uB:∀ {a c:Ze},Upd (fun k=>b≤k) a c→Upd (UB R b) a c:=fun u=>u.mono fun k _ hk=> .inr hk
  have tU:∀ {a c:Ze},ZbA a→Upd (UB R b) a c→ZbA c:=fun t u=>t.upd u fun k hk=>by rcases hk with rfl | hk<;>omega
  have psR:∀ {a c:Ze} {ns:List BL} {sub:JL},PS a b k ns sub→Upd (· = R) a c→PS c b k ns sub:=fun p u=>p.upd u fun j hj=>by subst hj;exact hRb
  refine Zca hr fun h1 r1 u1 z1=>?_
  have ps1:=psR ps u1
  have t1:=tU ht (uR u1)
  refine Zm (fun _ h'=>∃ l' ns',Rd h' R s l'∧PS h' b k ns' sub∧ZbA h'∧Upd (UB R b) h h'∧X8 pv ob ns sub l=(pv l').bind fun v l4=> .ok (ns',sub.snoc v) (ZI l4)) ?_ ?_
  ·rintro ⟨⟩ h2 ⟨l2,ns2,r2,p2,t2,u2,q2⟩
   obtain ⟨x,y,cx,c,ox,oy,lr,ne⟩:=id p2
   have hb2:=p2.lt
   have er:∀ {a:Ze} (ua:Upd (UB R b) h a),OnE a R s (· = R) (pv l2) P:=fun ua e r h' he u'=>herr e r h' (by rw [q2,he];rfl) (ua.trans (uR u'))
   have put:∀ {v r z} {h3 h4 h5:Ze},pv l2 = .ok v r→Ext h2 h3→Upd (· = R) h3 h4→Rd h4 R s r→Zbo h4 (fun j=>sz h3≤j∧j<sz h4) z v→Ext h4 h5 →
       Fw.app 33 4 72 zV x 1 zV h5 fun t48 h49=>ZjY t48.ptr t48.len (x.len:Int) 4 fun b51 o52=>Zb (At b) fun b53 o54=>Zok (
         sts h49 b51 o52 (XX z) fun h55=>st h55 b53 (o54+2) (.slice t48.ptr t48.len t48.cap) fun h56=>ZH (At R) (fun h57=>K h57) h56) (
         st h49 b53 (o54+2) (.slice t48.ptr t48.len t48.cap) fun h58=>sts h58 b51 o52 (XX z) fun h59=>ZH (At R) (fun h60=>K h60) h59):=by
     intro v r z h3 h4 h5 hq e3 u4 r4 v4 e5
     have s3:sz h2≤sz h3:=e3.size
     have s4:sz h3≤sz h4:=u4.size
     have s5:sz h4≤sz h5:=e5.size
     have old:∀ j,b≤j→j<sz h2→obj h5 j=obj h2 j:=fun j hj hl=>by
       rw [YB e5 (by omega),ZY u4 (by omega) (by omega),YB e3 hl]
     have lx:∀ j,x.blk=some j→j<sz h2:=fun j e=>(ox.lt e).2
     have ly:∀ j,y.blk=some j→j<sz h2:=fun j e=>(oy.lt e).2
     refine Zqt ((old b (Nat.le_refl _) hb2).trans c) (ox.congr fun j _ hl hbj=>old j (by omega) hl) (oy.congr fun j _ hl hbj=>old j (by omega) hl)
       (lr.keep (fun j hj hl=>old j (by omega) hl) fun j hj=>⟨hj.1,by omega,hj.2.2⟩) ne (Se:=fun j=>sz h3≤j∧j<sz h4) (v4.keep (fun j hj hl=>YB e5 hl) fun j hj=>hj)
       (fun j hj=>⟨by omega,by omega,fun e=>by have:=lx j e;omega,fun e=>by have:=ly j e;omega⟩) hs fun h6 p6 u6=>?_
     have r6:Rd h6 R s r:=(r4.ext e5).upd u6 (by omega)
     refine Zca r6 fun h7 r7 u7 z7=>hok _ _ h7 (by rw [q2,hq];rfl) r7 (psR p6 u7) ?_
     exact (((u2.trans (e3.upd _)).trans (uR u4)).trans (e5.upd _)).trans ((uB u6).trans (uR u7))
   have bR:¬ b=R:=by omega
   refine ZX (rL (s:=x) (Zr c rfl) ⟨?_,?_⟩)
   ·refine hf h2 R s l2 _ P r2 t2 hR (fun v r z h4 hv r4 u4 v4=>?_) (er u2)
    have c4:=Yx c u4 bR
    refine YS (Zr c4 rfl) (ZbY fun h5 c5 e5 z5=>YS (Zr (Y2 c4 e5) rfl) ?_)
    refine ZkJ c5 rfl ?_
    exact put hv (Ext.refl _) u4 r4 v4 e5
   ·refine ZbY fun h3 c3 e3 z3=>YS (Zr (Y2 c e3) rfl) ?_
    refine hf h3 R s l2 _ P (r2.ext e3) (t2.ext e3) hR (fun v r z h4 hv r4 u4 v4=>?_) (er (u2.trans (e3.upd _)))
    have c4:=Yx (Y2 c e3) u4 bR
    have c34:=Yx c3 u4 (show ¬ h2.size=R by have:sz h2=h2.size:=rfl;omega)
    refine YS (Zr c4 rfl) ?_
    refine ZkJ c34 rfl ?_
    exact put hv e3 u4 r4 v4 (Ext.refl _)
  ·
   obtain ⟨x,y,cx,c,ox,oy,lr,ne⟩:=id ps1
   have hb1:=ps1.lt
   refine ZX (rI (Zr c rfl) ?_)
   cases ob with
   | false =>
     have hk6:k=6:=hk
     refine Zl (by rw [hk6];rfl) ⟨ZI l,ns,r1,ps1,t1,uR u1,rfl⟩
   | true =>
     have hk7:k=7:=hk
     have hq:X8 pv true ns sub l=(ZaM l).bind fun nm l3=>(pv l3).bind fun v l4=> .ok (ns++[nm],sub.snoc v) (ZI l4):=rfl
     refine Zn (by rw [hk7];rfl) ?_
     refine Zm (fun _ h'=>h'=h1∧∃ l1,ZI l=34::l1) ?_ ?_
     ·rintro ⟨⟩ h2 ⟨rfl,l1,e1⟩
      rw [e1] at r1
      have hnm:ZaM l=(Zgo l1).bind fun nm l2=>match ZI l2 with
          | d::l3=>if d=58 then .ok nm l3 else .err 20 (d::l3)
          | []=> .err 24 []:=by unfold ZaM;rw [e1];rfl
      have bR:¬ b=R:=by omega
      refine ZX (rL (s:=y) (Zr c rfl) ?_)
      refine Zkw r1 t1 hR (fun t r h3 htx r3 u3=>?_) fun e r h3 he u3=>herr e r h3 (by rw [hq,hnm,he];rfl) (uR (u1.trans u3))
      have c3:=Yx c u3 bR
      refine YS (Zr c3 rfl) (ZbY fun h4 c4 e4 z4=>YS (Zr (Y2 c3 e4) rfl) ?_)
      refine ZkJ c4 rfl ?_
      have ps3:=psR ps1 u3
      have old:∀ j,b≤j→j<sz h2→obj h4 j=obj h2 j:=fun j hj hl=>by
        have:=Zbq u3
        rw [YB e4 (by omega),ZY u3 hl (by omega)]
      have s3:=Zbq u3
      have s4:sz h3≤sz h4:=e4.size
      refine ZrX ((old b (Nat.le_refl _) hb1).trans c) (ox.congr fun j _ hl hbj=>old j (by omega) hl) (oy.congr fun j _ hl hbj=>old j (by omega) hl)
        (lr.keep (fun j hj hl=>old j (by omega) hl) fun j hj=>⟨hj.1,by omega,hj.2.2⟩) ne hn fun h5 p5 u5=>?_
      have r5:Rd h5 R s r:=(r3.ext e4).upd u5 (by omega)
      refine Zca r5 fun h6 r6 u6 z6=>?_
      have p6:=psR p5 u6
      have u16:Upd (UB R b) h h6:=(((uR u1).trans (uR u3)).trans (e4.upd _)).trans ((uB u5).trans (uR u6))
      refine Zm (fun _ h'=>h'=h6∧∃ l7,ZI r=58::l7) ?_ ?_
      ·rintro ⟨⟩ h7 ⟨rfl,l7,e7⟩
       rw [e7] at r6
       refine Zbw r6 fun h8 r8 u8 z8=>⟨l7,ns++[t],r8,psR p6 u8,tU ht (u16.trans (uR u8)),u16.trans (uR u8),?_⟩
       rw [hq,hnm,htx]
       simp only [Out.bind_ok,e7,↓reduceIte]
      ·refine Y1 r6 (ZeI 58 (fun hne=>Zag (α:=BL) r6 rfl fun e' q he hq'=>herr e' q h6 ?_ u16) fun l7 e7=>⟨rfl,l7,e7⟩)
       rw [hq,hnm,htx]
       simp only [Out.bind_ok]
       cases hsk:ZI r with
       | nil=>rw [hsk] at he;cases he;rfl
       | cons d l7 =>
         rw [hsk] at he hne
         simp only
         rw [if_neg (hne d l7 rfl)]
         cases he;rfl
     ·refine Y1 r1 (ZeI 34 (fun hne=>Zag (α:=BL) r1 rfl fun e' q he hq'=>herr e' q h1 ?_ (uR u1)) fun l1 e1=>⟨rfl,l1,e1⟩)
      rw [hq]
      unfold ZaM
      cases hsk:ZI l with
      | nil=>rw [hsk] at he;cases he;rfl
      | cons d l1 =>
        rw [hsk] at he hne
        simp only
        rw [if_neg (hne d l1 rfl)]
        cases he;rfl
theorem Zpn {pv:BL→Out JV} (hv:Js.Good false pv) (hs:St 1 pv) (ob:Bool) (c:UInt8) (l:BL):ZjO pv ob (c::l)=(L pv ob [] .nil (ZI l)).bind fun p r=> .ok ⟨if ob then 7 else 6,[],p.1,p.2⟩ r:=ZjN hv hs ob c l
theorem Zk0 {l:JL}:l.isNil=true↔l.len=0:=by cases l<;>simp [JL.isNil,JL.len]
theorem PS.xlen {h:Ze} {b k:Nat} {ns:List BL} {sub:JL} (p:PS h b k ns sub) {K:Sl→Prop} (hk:∀ x:Sl,x.len=sub.len→K x):ldL h b (0+2) K:=by
  obtain ⟨x,y,cx,c,ox,oy,lr,ne⟩:=p
  exact rL (s:=x) (Zr c rfl) (hk x (by have:=ox.len;have:=lr.len;omega))
theorem ZnS {f20:Zjl} {k e:Int} {h:Ze} {R:Nat} {s:ByteArray} {l:BL} (hr:Rd h R s l) {K:VT5→HP} {P:Value→HP} (herr:OnE h R s (· = R) (XC 23 l:Out JV) P):Yp f20 (At R) k e 64 K P h:=by
  unfold Yp Zaf
  refine ZbY fun h1 c1 e1 z1=>Zm (fun _ _=>False) (fun _ _ h=>h.elim) (Zn (by decide) ?_)
  exact Zag (α:=JV) (hr.ext e1) rfl fun e' r he hr'=>herr e' r h1 he (e1.upd _)
theorem ZnR {f20:Zjl} {pv:BL→Out JV} (hg:Js.Good false pv) (hst:St 1 pv) (h0:pv [] = .err 24 []) {deep:Nat} (hd:deep<64) (hf:Zkj f20 pv ((deep+1:Nat):Int)) {ob:Bool} {h:Ze} {R:Nat} {s:ByteArray} {c0:UInt8} {l:BL} (hr:Rd h R s (c0::l)) (ht:ZbA h) (hR:9≤R)
    {k e:Int} (hk:k=if ob then 7 else 6) (he:e=(Zb3 ob).toNat) {K:VT5→HP} {P:Value→HP}
    (hok:∀ v r z h',ZjO pv ob (c0::l) = .ok v r→Rd h' R s r→Upd (· = R) h h'→Zbo h' (fun j=>sz h≤j∧j<sz h') z v→K z h') (herr:OnE h R s (· = R) (ZjO pv ob (c0::l)) P):Yp f20 (At R) k e (deep:Int) K P h:=by
  unfold Yp Zaf
  have hll:=hr.len
  have hRs:=hr.lt
  have hszr:sz h=h.size:=rfl
  rw [Zpn hg hst] at hok herr
  refine ZbY fun h1 c1 e1 z1=>?_
  refine Zm (fun _ h'=>h'=h1) ?_ (Zl (by simp;omega) rfl)
  rintro ⟨⟩ h2 rfl
  refine Zbw (hr.ext e1) fun h3 r3 u3 z3=>ZbY fun h4 c4 e4 z4=>?_
  have hb3:sz h3=h3.size:=rfl
  have hb:h3.size=h.size+1:=by rw [← hb3,z3];exact z1
  have hRb:R<h3.size:=by omega
  rw [Zg9 (by rw [show obj h4 h3.size=_ from c4,Zbn];rfl) (by simp [Z7])]
  have hps:PS (h4.puts h3.size 0 [.int .u8 k,.string (ByteArray.mk #[]),.slice none 0 0,.slice none 0 0]) h3.size (if ob then 7 else 6) [] .nil:=by
    refine ⟨⟨none,0,0⟩,⟨none,0,0⟩,[],?_,Own.nil _ _ _,Own.nil _ _ _,rfl,fun j hj=>by cases hj⟩
    rw [ZaL,if_pos rfl,show obj h4 h3.size=_ from c4,Xi,hk]
    cases ob<;>rfl
  have u5:=Upd.puts h4 h3.size 0 [.int .u8 k,.string (ByteArray.mk #[]),.slice none 0 0,.slice none 0 0]
  generalize h4.puts h3.size 0 [.int .u8 k,.string (ByteArray.mk #[]),.slice none 0 0,.slice none 0 0]=h5 at hps u5 ⊢
  have r5:Rd h5 R s l:=(r3.ext e4).upd u5 (by omega)
  have low:∀ {a:Ze},Upd (UB R h3.size) h3 a→Upd (· = R) h a:=fun {a} u=>UT (UN e1 u3) u fun j hj=>by
    rcases hj with rfl | hj
    ·exact .inl rfl
    ·right;omega
  have u35:Upd (UB R h3.size) h3 h5:=(e4.upd _).trans (u5.mono fun j _ hj=>by subst hj;exact .inr (Nat.le_refl _))
  have t5:ZbA h5:=ht.upd (low u35) fun j hj=>by subst hj;exact hR
  refine Zca r5 fun h6 r6 u6 z6=>?_
  have p6:=hps.upd u6 fun j hj=>by subst hj;exact hRb
  have u36:Upd (UB R h3.size) h3 h6:=u35.trans (u6.mono fun j _ hj=> .inl hj)
  have t6:ZbA h6:=t5.upd u6 fun j hj=>by subst hj;exact hR
  have c1':∀ {a:Ze},Upd (UB R h3.size) h3 a→obj a h.size=some (.cells zV.toArray 33 (0,0)):=fun {a} u=>by
    have c3:obj h3 h.size=some (.cells zV.toArray 33 (0,0)):=Yx c1 u3 (by omega)
    exact Yx c3 u (by omega)
  have hsk:=Za8 l
  refine ZB (fun _ h'=>∃ (l':BL) (ns:List BL) (sub:JL),Rd h' R s l'∧PS h' h3.size (if ob then 7 else 6) ns sub∧ZbA h'∧L pv ob ns sub l'=L pv ob [] .nil (ZI l)∧sub.len+l'.length≤65536∧ns.length≤sub.len∧Upd (UB R h3.size) h3 h') (fun _ h'=>left h' R)
    ⟨ZI l,[],.nil,r6,p6,t6,rfl,by simp [JL.len] at hll ⊢;omega,Nat.le_refl _,u36⟩ ?_
  rintro ⟨⟩ h7 ⟨l7,ns,sub,r7,p7,t7,q7,n7,m7,u7⟩
  have tU:∀ {c:Ze},Upd (UB R h3.size) h7 c→ZbA c:=fun u=>t7.upd u fun j hj=>by rcases hj with rfl | hj<;>omega
  have er:∀ {e:Nat} {r:BL} {h':Ze},L pv ob ns sub l7 = .err e r→Upd (UB R h3.size) h7 h'→P (ZcV e (s.size - r.length)) h':=fun he u=>herr _ _ _ (by rw [← q7,he];rfl) (low (u7.trans u))
  have hLe:=Zov hg hst h0 ob ns sub
  refine Zm (fun _ h'=>h'=h7∧Zb2 (Zb3 ob) l7=false) ?_ ?_
  ·rintro ⟨⟩ h8 ⟨rfl,hne⟩
   refine Zm (fun _ h'=>∃ l9,Rd h' R s l9∧PS h' h3.size (if ob then 7 else 6) ns sub∧ZbA h'∧Upd (UB R h3.size) h8 h'∧l9.length≤l7.length∧L pv ob ns sub l7=(X8 pv ob ns sub l9).bind fun p=>L pv ob p.1 p.2) ?_ ?_
   ·rintro ⟨⟩ h9 ⟨l9,r9,p9,t9,u9,hl9,q9⟩
    rw [ZG (by omega) (by omega)]
    refine Zpj (deep:=((deep+1:Nat):Int)) hf (ob:=ob) rfl r9 t9 hR hRb p9 (by omega) (by omega) (fun p r h10 hp r10 p10 u10=>?_) fun e' r h10 hp u10=>er (by rw [q9,hp];rfl) (u9.trans u10)
    have hpl:=(ZbF hg hst ob ns sub).2.len hp
    have hpn:p.2.len=sub.len+1∧p.1.length≤ns.length+1:=by
      unfold X8 at hp
      split at hp
      ·obtain ⟨nm,l3,a1,a2⟩:=ZO hp
       obtain ⟨v,l4,a3,a4⟩:=ZO a2
       cases a4
       exact ⟨JL.len_snoc v sub,by simp⟩
      ·obtain ⟨v,l4,a3,a4⟩:=ZO hp
       cases a4
       exact ⟨JL.len_snoc v sub,by simp⟩
    refine ⟨⟨r,p.1,p.2,r10,p10,tU (u9.trans u10),?_,by omega,by omega,u7.trans (u9.trans u10)⟩,?_⟩
    ·rw [← q7,q9,hp];rfl
    ·rw [r7.left,r10.left];omega
   ·refine p7.xlen fun x hx=>Zi (fun hgt=>?_) fun hle=>?_
    ·have hnil:sub.isNil=false:=by
       cases hs:sub.isNil with
       | false=>rfl
       | true=>have:=Zk0.1 hs;omega
     refine Zm (fun _ h'=>h'=h8∧∃ l9,l7=44::l9) ?_ ?_
     ·rintro ⟨⟩ h9 ⟨rfl,l9,rfl⟩
      refine Zbw r7 fun h10 r10 u10 z10=>?_
      have u10':Upd (UB R h3.size) h9 h10:=u10.mono fun j _ hj=> .inl hj
      refine ⟨l9,r10,p7.upd u10 fun j hj=>by subst hj;exact hRb,tU u10',u10',by simp,?_⟩
      rw [hLe]
      show lF pv ob ns sub 44 (44::l9)=_
      unfold lF
      rw [if_neg (by cases ob<;>decide),if_neg (by simp [hnil]),if_pos rfl];rfl
     ·refine Y1 r7 (ZeI 44 (fun hn=>Zag (α:=List BL × JL) r7 rfl fun e' q hq hq'=>er (h':=h8) ?_ (Upd.refl _ _)) fun l9 e9=>⟨rfl,l9,e9⟩)
      rw [hLe,← hq]
      rcases l7 with _ | ⟨c,l9⟩
      ·rfl
      ·show lF pv ob ns sub c (c::l9)=_
       have h44:=hn c l9 rfl
       have hend:c≠Zb3 ob:=by simpa [Zb2] using hne
       unfold lF
       rw [if_neg hend,if_neg (by simp [hnil]),if_neg h44]
    ·have hnil:sub.isNil=true:=Zk0.2 (by omega)
     refine ⟨l7,r7,p7,t7,Upd.refl _ _,Nat.le_refl _,?_⟩
     rw [hLe]
     rcases l7 with _ | ⟨c,l9⟩
     ·show Out.err 24 []=_
      rw [ZgM h0];rfl
     ·show lF pv ob ns sub c (c::l9)=_
      have hend:c≠Zb3 ob:=by simpa [Zb2] using hne
      unfold lF
      rw [if_neg hend,if_pos hnil]
  ·refine Zva r7 ?_
   have hend0:0<(Zb3 ob).toNat:=by cases ob<;>decide
   refine ZeI (Zb3 ob) (fun hn=>⟨rfl,?_⟩) (fun l9 e9=>?_) he hend0
   ·rcases l7 with _ | ⟨c,l9⟩
    ·rfl
    ·simp only [Zb2,beq_eq_false_iff_ne,ne_eq];exact hn c l9 rfl
   ·subst e9
    refine ZjK r7 (fun h=>by cases h) fun _=>Zbw r7 fun h8 r8 u8 z8=>?_
    have u8':Upd (UB R h3.size) h7 h8:=u8.mono fun j _ hj=> .inl hj
    have p8:=p7.upd u8 fun j hj=>by subst hj;exact hRb
    have u38:=u7.trans u8'
    obtain ⟨x,y,cx,c,ox,oy,lr,ne⟩:=id p8
    refine rI (Zr c rfl) (rS (Zr c rfl) (rL (s:=x) (Zr c rfl) (rL (s:=y) (Zr c rfl) ?_)))
    refine ZdW (x:=x) (y:=y) (c1' u38) rfl fun h9 u9 z9=>?_
    have hq:L pv ob [] .nil (ZI l) = .ok (ns,sub) l9:=by
      rw [← q7,hLe]
      show lF pv ob ns sub (Zb3 ob) (Zb3 ob::l9)=_
      unfold lF
      rw [if_pos rfl];rfl
    have keep9:∀ j,h3.size≤j→j<sz h8→obj h9 j=obj h8 j:=fun j hj hl=>ZY u9 hl (by omega)
    refine hok ⟨if ob then 7 else 6,[],ns,sub⟩ l9 _ h9 (by rw [hq];rfl) (r8.upd u9 (by omega)) (UT (low u38) u9 fun j hj=>by right;omega) ?_
    have hs8:sz h3≤sz h8:=Zbq u38
    refine ⟨?_,rfl,?_,?_,cx,?_,?_,?_⟩
    ·cases ob<;>rfl
    ·exact (oy.congr fun j _ hl hbj=>keep9 j (by omega) hl).row
    ·intro _ j hj;have:=oy.lt hj;have h9s:sz h8=h8.size:=rfl;exact ⟨by omega,by omega⟩
    ·exact (ox.congr fun j _ hl hbj=>keep9 j (by omega) hl).row
    ·intro _ j hj;have:=ox.lt hj;have h9s:sz h8=h8.size:=rfl;exact ⟨by omega,by omega⟩
    ·exact lr.keep (fun j hj hl=>keep9 j (by omega) hl) fun j hj=>⟨by omega,by omega⟩
def opN:Nat→Bool→BL→Out JV
  | 0=>fun _ l=>XC 23 l
  | m+1=>ZjO (Zy m)
theorem Zfn (n:Nat):Zy n=ZcW (opN n):=by cases n<;>rfl
theorem Zmx (n:Nat) {l:BL} {c:UInt8} {l1:BL} (e:ZI l=c::l1):Zy n l =
    if c=123 then opN n true (c::l1)
    else if c=91 then opN n false (c::l1)
    else if c=34 then (Zgo l1).bind fun t r=> .ok ⟨5,t,[],.nil⟩ r
    else if c=110 then (Xo [110,117,108,108] (c::l1)).bind fun _ r=> .ok ⟨1,[],[],.nil⟩ r
    else if c=102 then (Xo [102,97,108,115,101] (c::l1)).bind fun _ r=> .ok ⟨2,[],[],.nil⟩ r
    else if c=116 then (Xo [116,114,117,101] (c::l1)).bind fun _ r=> .ok ⟨3,[],[],.nil⟩ r
    else if c=45∨Yw c then (ZcA (c::l1)).bind fun _ r=> .ok ⟨4,ZdZ (c::l1) r,[],.nil⟩ r
    else .err 20 (c::l1):=by
  rw [Zfn]
  unfold ZcW
  rw [e]
theorem Zbo.plain (h:Ze) (S:Nat→Prop) (k:Nat) (t:BL):Zbo h S ((k:Int),Zc t,⟨none,0,0⟩,⟨none,0,0⟩,()) ⟨k,t,[],.nil⟩ :=
  ⟨rfl,rfl,Row.nil _ _,fun h=>absurd rfl h,[],Row.nil _ _,fun h=>absurd rfl h,rfl⟩
theorem Zi0 {c:UInt8} {l:BL} {n:Int} {K:Bool→Prop} (hk:K (decide ((c.toNat:Int)=n))):ZF (Xp (c::l) ==n) K:=by
  have:(Xp (c::l) ==n)=decide ((c.toNat:Int)=n):=by
    by_cases h:(c.toNat:Int)=n
    ·rw [decide_eq_true h];exact beq_iff_eq.2 h
    ·rw [decide_eq_false h];exact beq_eq_false_iff_ne.2 h
  rw [this];exact hk
def ZqC (f20:Zjl) (n:Nat) (deep:Int):Prop:=∀ (ob:Bool) (k e:Int) (h:Ze) (R:Nat) (s:ByteArray) (c0:UInt8) (l:BL) (K:VT5→HP) (P:Value→HP),(k=if ob then 7 else 6)→e=(Zb3 ob).toNat→Rd h R s (c0::l)→ZbA h→9≤R →
  (∀ v r z h',opN n ob (c0::l) = .ok v r→Rd h' R s r→Upd (· = R) h h'→Zbo h' (fun j=>sz h≤j∧j<sz h') z v→K z h')→OnE h R s (· = R) (opN n ob (c0::l)) P→Yp f20 (At R) k e deep K P h
theorem Zis {f20:Zjl} {n:Nat} {deep:Int} (hp:ZqC f20 n deep):Zkj (Zab f20) (Zy n) deep:=by
  intro h R s l K P hr ht hR hok herr
  unfold Zab Zbk
  have hRs:=hr.lt
  have hszr:sz h=h.size:=rfl
  refine ZbY fun h1 c1 e1 z1=>?_
  refine Zca (hr.ext e1) fun h2 r2 u2 z2=>?_
  have ht2:ZbA h2:=(ht.ext e1).upd u2 fun j hj=>by subst hj;exact hR
  have hb2:sz h2=h.size+1:=by rw [z2];exact z1
  have low:∀ {a:Ze},Upd (· = R) h2 a→Upd (· = R) h a:=fun u=>UN e1 (u2.trans u)
  have cb:∀ {a:Ze},Upd (· = R) h2 a→obj a h.size=some (.cells zV.toArray 33 (0,0)):=fun u=>Yx c1 (u2.trans u) (by omega)
  have fin:∀ {v:JV} {r:BL} {z:VT5} {h4:Ze},Zy n l = .ok v r→Rd h4 R s r→Upd (· = R) h2 h4→Zbo h4 (fun j=>sz h2≤j∧j<sz h4) z v →
      sts h4 h.size 0 [.int .u8 z.1,.string z.2.1,.slice z.2.2.1.ptr z.2.2.1.len z.2.2.1.cap,.slice z.2.2.2.1.ptr z.2.2.2.1.len z.2.2.2.1.cap] fun h83 =>
        ldI h83 h.size 0 .u8 fun t84=>ldS h83 h.size (0+1) fun t85=>ldL h83 h.size (0+2) fun t86=>ldL h83 h.size (0+3) fun t87=>K (t84,t85,t86,t87,()) h83:=fun {v r z h4} hv r4 u4 v4=>by
    refine ZdW (x:=z.2.2.1) (y:=z.2.2.2.1) (cb u4) rfl fun h5 u5 z5=>?_
    have s4:=Zbq u4
    exact hok v r z h5 hv (r4.upd u5 (by omega)) (UT (low u4) u5 fun j hj=>by right;omega) (v4.keep (fun j hj hl=>ZY u5 hl (by omega)) fun j hj=>⟨by omega,by omega⟩)
  have er:∀ {e:Nat} {r:BL} {h':Ze},Zy n l = .err e r→Upd (· = R) h2 h'→P (ZcV e (s.size - r.length)) h':=fun he u=>herr _ _ _ he (low u)
  refine Zm (fun _ h'=>h'=h2∧∃ c l1,ZI l=c::l1∧Zy n l = .err 20 (c::l1)) ?_ ?_
  ·rintro ⟨⟩ h3 ⟨rfl,c,l1,e3,hv⟩
   refine Zag (α:=JV) r2 rfl fun e' r he hr'=>er ?_ (Upd.refl _ _)
   rw [hv,← he,e3];rfl
  ·refine Y1 r2 (Za (ZeP r2 fun p hp'=>ZmI r2 (Zd ?_)))
   have hlen:=hp'.len
   cases hsk:ZI l with
   | nil =>
     rw [hsk] at r2 hlen
     refine Zn (by simp at hlen ⊢;omega) (Zag (α:=JV) r2 rfl fun e' r he hr'=>er ?_ (Upd.refl _ _))
     rw [Zfn]
     unfold ZcW
     rw [hsk,← he];rfl
   | cons c l1 =>
     have hq:=Zmx n hsk
     rw [hsk] at r2 hlen
     refine Zl (by simp at hlen ⊢;omega) ?_
     refine Zi0 (Zi (fun h123=>?_) fun h123=>Zi0 (Zi (fun h91=>?_) fun h91=>Zi0 (Zi (fun h34=>?_) fun h34=>Zi0 (Zi (fun h110=>?_) fun h110=>Zi0 (Zi (fun h102=>?_) fun h102=>Zi0 (Zi (fun h116=>?_) fun h116=>?_))))))
     ·rw [if_pos (Za1 (d:=123) h123)] at hq
      exact hp true 7 125 h2 R s c l1 _ P rfl rfl r2 ht2 hR (fun v r z h4 hv r4 u4 v4=>fin (hq.trans hv) r4 u4 v4) fun e r h4 he u4=>er (hq.trans he) u4
     all_goals rw [if_neg (ZcF (d:=123) h123)] at hq
     ·rw [if_pos (Za1 (d:=91) h91)] at hq
      exact hp false 6 93 h2 R s c l1 _ P rfl rfl r2 ht2 hR (fun v r z h4 hv r4 u4 v4=>fin (hq.trans hv) r4 u4 v4) fun e r h4 he u4=>er (hq.trans he) u4
     all_goals rw [if_neg (ZcF (d:=91) h91)] at hq
     ·rw [if_pos (Za1 (d:=34) h34)] at hq
      refine Zkw r2 ht2 hR (fun t r h4 hv r4 u4=>?_) fun e r h4 he u4=>er (by rw [hq,he];rfl) u4
      exact fin (z:=(5,Zc t,⟨none,0,0⟩,⟨none,0,0⟩,())) (v:=⟨5,t,[],.nil⟩) (by rw [hq,hv];rfl) r4 u4 (Zbo.plain _ _ 5 t)
     all_goals rw [if_neg (ZcF (d:=34) h34)] at hq
     ·rw [if_pos (Za1 (d:=110) h110)] at hq
      refine ZgX r2 (wl:=[110,117,108,108]) rfl (by decide) (fun r h4 hv r4 u4=>?_) fun e r h4 he u4=>er (by rw [hq,he];rfl) u4
      exact fin (v:=⟨1,[],[],.nil⟩) (by rw [hq,hv];rfl) r4 u4 (Zbo.plain _ _ 1 [])
     all_goals rw [if_neg (ZcF (d:=110) h110)] at hq
     ·rw [if_pos (Za1 (d:=102) h102)] at hq
      refine ZgX r2 (wl:=[102,97,108,115,101]) rfl (by decide) (fun r h4 hv r4 u4=>?_) fun e r h4 he u4=>er (by rw [hq,he];rfl) u4
      exact fin (v:=⟨2,[],[],.nil⟩) (by rw [hq,hv];rfl) r4 u4 (Zbo.plain _ _ 2 [])
     all_goals rw [if_neg (ZcF (d:=102) h102)] at hq
     ·rw [if_pos (Za1 (d:=116) h116)] at hq
      refine ZgX r2 (wl:=[116,114,117,101]) rfl (by decide) (fun r h4 hv r4 u4=>?_) fun e r h4 he u4=>er (by rw [hq,he];rfl) u4
      exact fin (v:=⟨3,[],[],.nil⟩) (by rw [hq,hv];rfl) r4 u4 (Zbo.plain _ _ 3 [])
     rw [if_neg (ZcF (d:=116) h116)] at hq
     have num:(c=45∨Yw c=true)→∀ (Kp:VT5→HP),(∀ z h',Kp z h'=sts h' h.size 0 [.int .u8 z.1,.string z.2.1,.slice z.2.2.1.ptr z.2.2.1.len z.2.2.1.cap,.slice z.2.2.2.1.ptr z.2.2.2.1.len z.2.2.2.1.cap] fun h83 =>
       ldI h83 h.size 0 .u8 fun t84=>ldS h83 h.size (0+1) fun t85=>ldL h83 h.size (0+2) fun t86=>ldL h83 h.size (0+3) fun t87=>K (t84,t85,t86,t87,()) h83)→YO (At R) Kp P h2:=fun hc Kp hK=>by
       rw [if_pos hc] at hq
       refine ZlV r2 (fun r h4 hv r4 u4=>?_) fun e r h4 he u4=>er (by rw [hq,he];rfl) u4
       rw [hK]
       exact fin (z:=(4,Zc (ZdZ (c::l1) r),⟨none,0,0⟩,⟨none,0,0⟩,())) (v:=⟨4,ZdZ (c::l1) r,[],.nil⟩) (by rw [hq,hv];rfl) r4 u4 (Zbo.plain _ _ 4 _)
     have bad:¬ (c=45∨Yw c=true)→Zy n l = .err 20 (c::l1):=fun hc=>by rw [if_neg hc] at hq;exact hq
     have hz:Xp (c::l1)=(c.toNat:Int):=rfl
     rw [hz]
     refine Yj (fun h45=>num (.inl (Za1 (d:=45) h45)) _ fun _ _=>rfl) fun h45=>?_
     have n45:c≠45:=ZcF (d:=45) h45
     refine Zi (fun h48=>Zd (Zi (fun h57=>num (.inr (Zb9.2 (by omega))) _ fun _ _=>rfl) fun h57=>?_)) fun h48=>?_
     ·exact ⟨rfl,c,l1,rfl,bad fun hc=>hc.elim n45 fun hd=>by have:=Zb9.1 hd;omega⟩
     ·exact ⟨rfl,c,l1,rfl,bad fun hc=>hc.elim n45 fun hd=>by have:=Zb9.1 hd;omega⟩
theorem Zit:∀ n:Nat,n≤64→Zkj (YE (n+1)) (Zy n) ((64 - n:Nat):Int)
  | 0,_=>Zis (f20:=YE 0) (n:=0) fun ob k e h R s c0 l K P hk he hr ht hR hok herr=>ZnS hr herr
  | n+1,hn=>Zis (f20:=YE (n+1)) (n:=n+1) fun ob k e h R s c0 l K P hk he hr ht hR hok herr=>by
    refine ZnR (YM n).1 (YM n).2 (ZdR n) (deep:=64 - (n+1)) (by omega) ?_ hr ht hR hk he hok herr
    have:=Zit n (by omega)
    rw [show 64 - (n+1)+1=64 - n by omega]
    exact this
theorem Zly {h:Ze} {b o:Nat} {vs:List Value} {K:Ze→Prop} {l:List Value} {e:TypeId} (hb:obj h b=some (.cells l.toArray e (0,0))) (ho:o+vs.length≤l.length) (hv:vs.all Z7=true)
    (hk:∀ h',obj h' b=some (.cells (XZ o vs l).toArray e (0,0))→Upd (· = b) h h'→sz h'=sz h→K h'):sts h b o vs K:=by
  rw [Zg9 (by rw [hb,Zbn];simpa using ho) hv]
  exact hk _ (by rw [ZaL,if_pos rfl,hb,Xi]) (Upd.puts h b o vs) Zd2
def zJ:JV:=⟨0,[],[],.nil⟩
structure Res (h:Ze) (b b2 b4:Nat) (z:VT5) (e n:Int):Prop where
  v:obj h b=some (.cells (XX z).toArray 33 (0,0))
  e:obj h b2=some (.cells [.int .i64 e].toArray 37 (0,0))
  n:obj h b4=some (.cells [.int .i64 n].toArray 3 (0,0))
theorem ZjJ {h:Ze} {b b2 b4:Nat} {z:VT5} {e n:Int} (hr:Res h b b2 b4 z e n) {K:VT5→Int→Int→HP} (hk:K z e n h):ZeF b b2 b4 K h :=
  rI (Zr hr.v rfl) (rS (Zr hr.v rfl) (rL (s:=z.2.2.1) (Zr hr.v rfl) (rL (s:=z.2.2.2.1) (Zr hr.v rfl) (rI (Zr hr.e rfl) (rI (Zr hr.n rfl) hk)))))
theorem Zii {h:Ze} {b b2 b4:Nat} {z0:VT5} {e0 n0:Int} (hr:Res h b b2 b4 z0 e0 n0) (h12:b≠b2) (h14:b≠b4) (h24:b2≠b4) {e n:Nat} {K:VT5→Int→Int→HP}
    (hk:∀ h',Upd (fun j=>j=b∨j=b2∨j=b4) h h'→K (0,Zc [],⟨none,0,0⟩,⟨none,0,0⟩,()) e n h'):Zba b b2 b4 K (ZcV e n) h:=by
  have lb:=ZbI hr.v
  have lb2:=ZbI hr.e
  have lb4:=ZbI hr.n
  refine ⟨e,n,rfl,.inr ⟨_,_,rfl,ZcB (Zdf ?_)⟩⟩
  refine ZbY fun h2 c2 e2 z2=>Zly c2 (by simp) (by simp [Z7]) fun h3 c3 u3 z3=>?_
  have c3':obj h3 h.size=some (.cells [.int .i64 e,.int .i64 n].toArray 160 (0,0)):=c3
  have hs:sz h=h.size:=rfl
  have hb3:obj h3 b=some (.cells (XX z0).toArray 33 (0,0)):=Yx (Y2 hr.v e2) u3 (by omega)
  have hb23:obj h3 b2=some (.cells [.int .i64 e0].toArray 37 (0,0)):=Yx (Y2 hr.e e2) u3 (by omega)
  have hb43:obj h3 b4=some (.cells [.int .i64 n0].toArray 3 (0,0)):=Yx (Y2 hr.n e2) u3 (by omega)
  refine rI (Zr c3' rfl) (rI (Zr c3' rfl) (ZX (Zly hb3 (by simp [XX]) (by simp [Z7]) fun h6 c6 u6 z6=>?_)))
  have w6:=Yx c3' u6 (show ¬ h.size=b by omega)
  refine YS (Zr w6 rfl) (YS (Zr w6 rfl) (ZX (Zkm (Yx hb23 u6 (Ne.symm h12)) (by simp) Zcp fun h9 c9 u9 z9=>?_)))
  have w9:=Yx w6 u9 (show ¬ h.size=b2 by omega)
  refine YS (Zr w9 rfl) (ZX (Zkm (Yx (Yx hb43 u6 (Ne.symm h14)) u9 (Ne.symm h24)) (by simp) Zcp fun h10 c10 u10 z10=>?_))
  have u:Upd (fun j=>j=b∨j=b2∨j=b4) h h10:=by
    refine UT (UT (UT (UT (e2.upd _) u3 fun j hj=> .inr (by omega)) u6 fun j hj=> .inl (.inl hj)) u9 fun j hj=> .inl (.inr (.inl hj))) u10 fun j hj=> .inl (.inr (.inr hj))
  refine ZjJ ⟨Yx (Yx c6 u9 h12) u10 h14,Yx c9 u10 h24,c10⟩ (hk h10 u)
def Zlq (h:Ze) (S:Nat→Prop) (g:Got) (z:VT5) (e n:Int):Prop:=match g with
  | .ok v=>Zbo h S z v∧e=0∧n=0
  | .err e' k=>Zbo h S z zJ∧e=e'∧n=k
theorem ZiP {h:Ze} {s:ByteArray} (ht:ZbA h) (hh:9≤sz h) {K:VT5→Int→Int→HP}
    (hk:∀ z e n h',Ext h h'→Zlq h' (fun j=>sz h≤j∧j<sz h') (XE s.data.toList) z e n→K z e n h'):Xn s K h:=by
  unfold Xn
  have hs0:sz h=h.size:=rfl
  refine ZbY fun h1 c1 e1 z1=>ZbY fun h3 c3 e3 z3=>ZbY fun h5 c5 e5 z5=>?_
  have hs1:sz h1=h1.size:=rfl
  have hs3:sz h3=h3.size:=rfl
  have hs5:sz h5=h5.size:=rfl
  have hz:XX (0,Zc [],⟨none,0,0⟩,⟨none,0,0⟩,())=zV:=rfl
  have v5:Res h5 h.size h1.size h3.size (0,Zc [],⟨none,0,0⟩,⟨none,0,0⟩,()) 0 0:=⟨Y2 (Y2 c1 e3) e5,Y2 c3 e5,c5⟩
  have e05:Ext h h5:=(e1.trans e3).trans e5
  have low:∀ {S:Nat→Prop} {a:Ze},Upd S h5 a→(∀ j,S j→sz h≤j)→Ext h a:=fun u hS=>e05.updS u hS
  have hlen:s.data.toList.length=s.size:=by simp
  refine Zi (fun hlong=>?_) fun hshort=>?_
  ·refine Zly v5.v (by simp [XX]) (by simp [Z7]) fun h6 c6 u6 z6=>?_
   refine Zkm (Yx v5.e u6 (show ¬ h1.size=h.size by omega)) (by simp) Zcp fun h7 c7 u7 z7=>?_
   refine Zkm (Yx (Yx v5.n u6 (show ¬ h3.size=h.size by omega)) u7 (show ¬ h3.size=h1.size by omega)) (by simp) Zcp fun h8 c8 u8 z8=>?_
   refine ZjJ (z:=(0,Zc [],⟨none,0,0⟩,⟨none,0,0⟩,())) ⟨Yx (Yx c6 u7 (show ¬ h.size=h1.size by omega)) u8 (show ¬ h.size=h3.size by omega),Yx c7 u8 (show ¬ h1.size=h3.size by omega),c8⟩ (hk _ _ _ h8 ?_ ?_)
   ·refine low (S:=fun j=>sz h≤j) (UT (UT (u6.mono fun j _ hj=>by subst hj;omega) u7 fun j hj=> .inl (by omega)) u8 fun j hj=> .inl (by omega)) fun j hj=>hj
   ·rw [Zdd (by omega)]
    exact ⟨Zbo.plain _ _ 0 [],rfl,rfl⟩
  ·have hs:s.size≤65536:=by omega
   refine ZbY fun h15 c15 e15 z15=>?_
   have r15:Rd h15 h5.size s s.data.toList:=⟨hs,0,c15,Zcb.start s⟩
   have t15:ZbA h15:=ht.ext (e05.trans e15)
   have pp:=ZbG (l:=s.data.toList) (by omega)
   have recov:∀ {a:Ze} {z0:VT5} {e0 n0:Int} {e n:Nat},Res a h.size h1.size h3.size z0 e0 n0→Ext h a→XE s.data.toList = .err e n→Zba h.size h1.size h3.size K (ZcV e n) a:=fun {a z0 e0 n0 e n} hr ea hp=>by
     refine Zii hr (by omega) (by omega) (by omega) fun h' u=>hk _ _ _ h' (ea.updS u fun j hj=>by omega) ?_
     rw [hp]
     exact ⟨Zbo.plain _ _ 0 [],rfl,rfl⟩
   have v15:Res h15 h.size h1.size h3.size (0,Zc [],⟨none,0,0⟩,⟨none,0,0⟩,()) 0 0:=⟨Y2 v5.v e15,Y2 v5.e e15,Y2 v5.n e15⟩
   have resU:∀ {S:Nat→Prop} {a c:Ze} {z:VT5} {e n:Int},Res a h.size h1.size h3.size z e n→Upd S a c→(∀ j,S j→h5.size≤j)→Res c h.size h1.size h3.size z e n:=fun r u hS =>
     ⟨Yx r.v u fun h9=>by have:=hS _ h9;omega,Yx r.e u fun h9=>by have:=hS _ h9;omega,Yx r.n u fun h9=>by have:=hS _ h9;omega⟩
   have hR9:∀ j,j=h5.size→h5.size≤j:=fun j hj=>by omega
   refine ⟨65,?_⟩
   refine Zit 64 (Nat.le_refl _) h15 h5.size s _ _ _ r15 t15 (by omega) (fun v r z h17 hv r17 u17 v17=>?_) fun e r h17 he u17=>?_
   ·have w17:=resU v15 u17 hR9
    refine Zly w17.v (by simp [XX]) (Zb5 z) fun h18 c18 u18 z18=>?_
    have c18':obj h18 h.size=some (.cells (XX z).toArray 33 (0,0)):=c18
    have hs15:sz h15=sz h5+1:=z15
    have v18:Zbo h18 (fun j=>sz h15≤j∧j<sz h18) z v:=v17.keep (fun j hj hl=>ZY u18 hl (by omega)) fun j hj=>⟨hj.1,by omega⟩
    have e18:Ext h h18:=((e05.trans e15).updS u17 fun j hj=>by subst hj;omega).updS u18 fun j hj=>by omega
    have w18:Res h18 h.size h1.size h3.size z 0 0:=⟨c18',Yx w17.e u18 (by omega),Yx w17.n u18 (by omega)⟩
    refine Zca (r17.upd u18 (by omega)) fun h19 r19 u19 z19=>?_
    have w19:=resU w18 u19 hR9
    have e19:Ext h h19:=e18.updS u19 fun j hj=>by subst hj;omega
    have v19:Zbo h19 (fun j=>sz h15≤j∧j<sz h19) z v:=v18.keep (fun j hj hl=>ZY u19 hl (by omega)) fun j hj=>⟨hj.1,by omega⟩
    obtain ⟨_,p,cp,gp⟩:=id r19
    have hpl:=gp.len
    rw [hv] at pp
    simp only at pp
    refine rI (Zr cp rfl) (Zi (fun hlt=>rI (Zr cp rfl) ?_) fun hge=>?_)
    ·cases hsk:ZI r with
     | nil=>rw [hsk] at hpl;simp at hpl;omega
     | cons c r' =>
       rw [hsk] at pp r19 hpl
       simp only at pp
       refine Zm9 r19 hlt ?_
       have:=recov w19 e19 pp
       unfold ZcV at this
       have hnum:((s.data.toList.length - (c::r').length:Nat):Int)=(p:Int):=by omega
       rw [hnum] at this
       exact this
    ·have hsk:ZI r=[]:=List.eq_nil_of_length_eq_zero (by omega)
     rw [hsk] at pp
     simp only at pp
     unfold Zfa
     refine rI (Zr w19.v rfl) (rS (Zr w19.v rfl) (rL (s:=z.2.2.1) (Zr w19.v rfl) (rL (s:=z.2.2.2.1) (Zr w19.v rfl) ?_)))
     refine Zly w19.v (by simp [XX]) (Zb5 z) fun h20 c20 u20 z20=>?_
     have c20':obj h20 h.size=some (.cells (XX z).toArray 33 (0,0)):=c20
     refine Zkm (Yx w19.e u20 (show ¬ h1.size=h.size by omega)) (by simp) Zcp fun h21 c21 u21 z21=>?_
     refine Zkm (Yx (Yx w19.n u20 (show ¬ h3.size=h.size by omega)) u21 (show ¬ h3.size=h1.size by omega)) (by simp) Zcp fun h22 c22 u22 z22=>?_
     refine ZjJ ⟨Yx (Yx c20' u21 (show ¬ h.size=h1.size by omega)) u22 (show ¬ h.size=h3.size by omega),Yx c21 u22 (show ¬ h1.size=h3.size by omega),c22⟩ (hk _ _ _ h22 ?_ ?_)
     ·exact ((e19.updS u20 fun j hj=>by omega).updS u21 fun j hj=>by omega).updS u22 fun j hj=>by omega
     ·rw [pp]
      have u:Upd (fun j=>j<h5.size) h19 h22:=((u20.mono fun j _ hj=>by omega).trans (u21.mono fun j _ hj=>by omega)).trans (u22.mono fun j _ hj=>by omega)
      exact ⟨v19.keep (fun j hj hl=>ZY u hl (by omega)) fun j hj=>⟨by omega,by have:=Zbq u;omega⟩,rfl,rfl⟩
   ·have w17:=resU v15 u17 hR9
    have e17:Ext h h17:=(e05.trans e15).updS u17 fun j hj=>by subst hj;omega
    rw [he] at pp
    simp only at pp
    rw [hlen] at pp
    exact recov w17 e17 pp
end Go.Proofs.YtpjbjdheeemdiaaGreatDoor
