/- The reference's reader: values; its Parse. -/
import Derived.Test.YtpjbjdheeemdiaaGreatDoorPa12
set_option linter.unusedVariables false
set_option linter.unusedSimpArgs false
namespace Go.Proofs.YtpjbjdheeemdiaaGreatDoor
open Go Go.Fw Go.Js
theorem Zpl {α β:Type} {h:Ze} {R:Nat} {s:ByteArray} {x:Out α} (f:α→BL→β) (o:Zcc h R s x):Zcc h R s (x.bind fun a r=> .ok (f a r) r):=by cases x<;>exact o
theorem Zs6 (m:Nat) (ob:Bool) (c:UInt8) (l:BL):ZjO (Zy m) ob (c::l)=ZdP m ob l:=Zpn (YM m).1 (YM m).2 ob c l
theorem Zty {c:UInt8} {n:Int} (d:UInt8) (hn:n=(d.toNat:Int)) {A B:Prop} (ha:c=d→A) (hb:c≠d→B):Zp (((c.toNat:Nat):Int) ==n) A B:=by
  subst hn
  exact Yj (fun e=>ha (Za1 e)) fun e=>hb (ZcF e)
theorem Zg0 {f42:ZgF} {n:Nat} {deep:Int} (hd:(n=0∧deep=64)∨∃ m,n=m+1∧m+1≤64∧deep=((64 - (m+1):Nat):Int)∧ZtR f42 (Zy m) ((64 - m:Nat):Int)):ZtR (YF f42) (Zy n) deep:=by
  intro h R s x K o hRs hR hk
  unfold YF Xl
  have hszr:sz h=h.size:=rfl
  refine ZbY fun h1 c1 e1 z1=>Zkh (o.ext e1) fun h2 o2 u2 z2=>?_
  have hb2:sz h2=h.size+1:=by rw [z2];exact z1
  have low:∀ {a:Ze},Upd (· = R) h2 a→Upd (· = R) h a:=fun u=>UN e1 (u2.trans u)
  have cb:∀ {a:Ze},Upd (· = R) h2 a→obj a h.size=some (.cells zV.toArray 33 (0,0)):=fun u=>Yx c1 (u2.trans u) (by omega)
  have fin:∀ {v:JV} {z:VT5} {h4:Ze},Zcc h4 R s (x.bind fun _ r=>Zy n r)→(∀ w r,(x.bind fun _ r=>Zy n r) = .ok w r→v=w)→Upd (· = R) h2 h4→Zbo h4 (fun j=>sz h2≤j∧j<sz h4) z v →
      sts h4 h.size 0 [.int .u8 z.1,.string z.2.1,.slice z.2.2.1.ptr z.2.2.1.len z.2.2.1.cap,.slice z.2.2.2.1.ptr z.2.2.2.1.len z.2.2.2.1.cap] fun h83 =>
        ldI h83 h.size 0 .u8 fun t84=>ldS h83 h.size (0+1) fun t85=>ldL h83 h.size (0+2) fun t86=>ldL h83 h.size (0+3) fun t87=>K (t84,t85,t86,t87,()) h83:=fun {v z h4} o4 hv u4 v4=>by
    refine ZdW (x:=z.2.2.1) (y:=z.2.2.2.1) (cb u4) rfl fun h5 u5 z5=>?_
    have s4:=Zbq u4
    exact hk v z h5 (o4.upd u5 (by omega)) hv (v4.keep (fun j hj hl=>ZY u5 hl (by omega)) fun j hj=>⟨by omega,by omega⟩) (UT (low u4) u5 fun j hj=>by right;omega)
  have finP:∀ {k:Nat} {t:BL} {h4:Ze},Zcc h4 R s (x.bind fun _ r=>Zy n r)→(∀ w r,(x.bind fun _ r=>Zy n r) = .ok w r→(⟨k,t,[],.nil⟩:JV)=w)→Upd (· = R) h2 h4 →
      sts h4 h.size 0 [.int .u8 (k:Int),.string (Zc t),.slice none 0 0,.slice none 0 0] fun h83 =>
        ldI h83 h.size 0 .u8 fun t84=>ldS h83 h.size (0+1) fun t85=>ldL h83 h.size (0+2) fun t86=>ldL h83 h.size (0+3) fun t87=>K (t84,t85,t86,t87,()) h83:=fun {k t h4} o4 hv u4 =>
    fin (z:=((k:Int),Zc t,⟨none,0,0⟩,⟨none,0,0⟩,())) o4 hv u4 (Zbo.plain _ _ k t)
  cases x with
  | err e r =>
    have o2:e≠0∧Rf h2 R s e r:=o2
    refine Zih o2.2 (ZrQ o2.1 (finP (k:=0) (t:=[]) o2 (fun w r hw=>by cases hw) (Upd.refl _ _)))
  | ok a l =>
    have r2:Rf h2 R s 0 (ZI l):=o2
    have hxb:∀ {y:Out JV},Zy n l=y→((.ok a l:Out Unit).bind fun _ r=>Zy n r)=y:=fun e=>e
    refine Zih r2 (Zqb (ZcY r2 (Za (Zf4 r2 fun p hp=>ZqJ r2 (Zd ?_)))))
    have hlen:=hp.len
    have failV:∀ {e:Nat} {e0:Int},e≠0→e0=e→Zy n l=XC e (ZI l)→Zh (At R) e0 (fun h18 =>
        sts h18 h.size 0 [.int .u8 0,.string (ByteArray.mk #[]),.slice none 0 0,.slice none 0 0] fun h19 =>
        ldI h19 h.size 0 .u8 fun t20=>ldS h19 h.size (0+1) fun t21=>ldL h19 h.size (0+2) fun t22=>ldL h19 h.size (0+3) fun t23=>K (t20,t21,t22,t23,()) h19) h2:=fun {e e0} he h0 hq =>
      Y4 (α:=JV) r2 he h0 fun h3 o3 u3 z3=>finP (k:=0) (t:=[]) (by rw [hxb hq];exact o3) (fun w r hw=>by rw [hxb hq] at hw;cases hs:ZI l<;>rw [hs] at hw<;>cases hw) u3
    cases hsk:ZI l with
    | nil =>
      rw [hsk] at hlen
      refine Zn (by simp at hlen ⊢;omega) (failV (e:=24) (by decide) rfl ?_)
      rw [Zfn,hsk]
      unfold ZcW
      rw [hsk];rfl
    | cons c l1 =>
      have hq:=Zmx n hsk
      have failV:=fun {e e0} he h0 hq=>@failV e e0 he h0 hq
      rw [hsk] at r2 hlen failV
      refine Zl (by simp at hlen ⊢;omega) ?_
      have hz:Xp (c::l1)=(c.toNat:Int):=rfl
      generalize Xp (c::l1)=z at hz ⊢
      subst hz
      refine Zd (Zty 34 rfl (fun e34=>?_) fun n34=>?_)
      ·subst e34
       rw [if_neg (by decide),if_neg (by decide),if_pos rfl] at hq
       have hs34:ZoZ (34::l1)=Zgo l1:=rfl
       refine ZiD r2 hR fun t h3 o3 ht3 u3=>?_
       rw [hs34] at o3 ht3
       refine finP (k:=5) (t:=t) (by rw [hxb hq];exact Zpl (fun t _=>(⟨5,t,[],.nil⟩:JV)) o3) (fun w r hw=>?_) u3
       rw [hxb hq] at hw
       obtain ⟨t1,r1,a1,a2⟩:=ZO hw
       cases a2
       rw [ht3 t1 _ a1]
      rw [if_neg (c:=c=34) n34] at hq
      refine Zm (fun p h'=>h'=h2∧(p.1=true↔c=45∨Yw c=true)) ?_ (Zty 45 rfl (fun e=>⟨rfl,by simp [e]⟩) fun n45=>Zgg (Zd ⟨rfl,by rw [Zgh];simp [n45]⟩))
      rintro ⟨b,u⟩ h3 ⟨rfl,hb⟩
      dsimp only at hb ⊢
      cases hbb:b with
      | true =>
        have hc:=hb.1 hbb
        have nn:c≠123∧c≠91∧c≠110∧c≠102∧c≠116:=by
          refine ⟨?_,?_,?_,?_,?_⟩<;>(rintro rfl;rcases hc with hc | hc<;>revert hc<;>decide)
        obtain ⟨a1,a2,a3,a4,a5⟩:=nn
        rw [if_neg a1,if_neg a2,if_neg a3,if_neg a4,if_neg a5,if_pos hc] at hq
        refine Zn rfl (ZkS r2 fun t h4 o4 ht4 u4 z4=>?_)
        obtain ⟨tl,rfl⟩:∃ tl,t=Zc tl:=⟨t.data.toList,by simp⟩
        refine finP (k:=4) (t:=tl) (by rw [hxb hq];exact Zpl (fun _ r=>(⟨4,ZdZ (c::l1) r,[],.nil⟩:JV)) o4) (fun w r hw=>?_) u4
        rw [hxb hq] at hw
        obtain ⟨_,r1,b1,b2⟩:=ZO hw
        cases b2
        have e1:=ht4 _ b1
        have e2:tl=ZdZ (c::l1) r:=by
          have:=congrArg (fun b:ByteArray=>b.data.toList) e1
          simpa [Zc] using this
        rw [e2]
      | false =>
        have hc:¬ (c=45∨Yw c=true):=fun h9=>by have:=hb.2 h9;rw [hbb] at this;cases this
        refine Zl rfl ?_
        have word:∀ {w:ByteArray} {wl:BL} {k:Nat},w.data.toList=wl→w.size≤10→(∀ c∈wl,0<c.toNat)→Zy n l=((Xo wl (c::l1)).bind fun _ r=> .ok ⟨k,[],[],.nil⟩ r)→Z5 (At R) w (fun h45 =>
            sts h45 h.size 0 [.int .u8 (k:Int),.string (ByteArray.mk #[]),.slice none 0 0,.slice none 0 0] fun h46 =>
            ldI h46 h.size 0 .u8 fun t47=>ldS h46 h.size (0+1) fun t48=>ldL h46 h.size (0+2) fun t49=>ldL h46 h.size (0+3) fun t50=>K (t47,t48,t49,t50,()) h46) h3:=fun {w wl k} hw hs h0 hq =>
          Znv hw hs h0 r2 fun h4 o4 u4 z4=>finP (k:=k) (t:=[]) (by rw [hxb hq];exact Zpl (fun _ _=>(⟨k,[],[],.nil⟩:JV)) o4) (fun w r hw=>by
           rw [hxb hq] at hw
           obtain ⟨_,r1,b1,b2⟩:=ZO hw
           cases b2;rfl) u4
        refine Zd (Zty 110 rfl (fun e=>?_) fun n110=>Zd (Zty 116 rfl (fun e=>?_) fun n116=>Zd (Zty 102 rfl (fun e=>?_) fun n102=>?_)))
        ·subst e
         rw [if_neg (by decide),if_neg (by decide),if_pos rfl] at hq
         exact word (wl:=[110,117,108,108]) (k:=1) rfl (by decide) (by decide) hq
        ·subst e
         rw [if_neg (by decide),if_neg (by decide),if_neg (by decide),if_neg (by decide),if_pos rfl] at hq
         exact word (wl:=[116,114,117,101]) (k:=3) rfl (by decide) (by decide) hq
        ·subst e
         rw [if_neg (by decide),if_neg (by decide),if_neg (by decide),if_pos rfl] at hq
         exact word (wl:=[102,97,108,115,101]) (k:=2) rfl (by decide) (by decide) hq
        ·refine Zm (fun p h'=>h'=h3∧(p.1=true↔c=91∨c=123)) ?_ (Zty 91 rfl (fun e=>⟨rfl,by simp [e]⟩) fun n91=>Zd ⟨rfl,?_⟩)
         ·rintro ⟨b2,u⟩ h4 ⟨rfl,hob2⟩
          dsimp only at hob2 ⊢
          cases hbb2:b2 with
          | false =>
            have hno:¬ (c=91∨c=123):=fun h9=>by have:=hob2.2 h9;rw [hbb2] at this;cases this
            refine Zl rfl (failV (e:=20) (by decide) rfl ?_)
            rw [hq,if_neg fun e=>hno (.inr e),if_neg fun e=>hno (.inl e),if_neg n110,if_neg n102,if_neg n116,if_neg hc];rfl
          | true =>
            have hyes:=hob2.1 hbb2
            refine Zn rfl ?_
            obtain ⟨ob,hob⟩:∃ ob:Bool,c=if ob then 123 else 91:=by
              rcases hyes with e | e
              ·exact ⟨false,e⟩
              ·exact ⟨true,e⟩
            have hqo:Zy n l=opN n ob (c::l1):=by
              rw [hq]
              cases ob with
              | true=>rw [if_pos (show c=123 from hob)]
              | false=>rw [if_neg (by rw [hob];decide),if_pos (show c=91 from hob)]
            rcases hd with ⟨hn0,hd64⟩ | ⟨m,hnm,hm64,hdm,hf⟩
            ·subst hn0 hd64
             exact Zn rfl (failV (e:=23) (by decide) rfl hqo)
            ·subst hnm
             have hqo:Zy (m+1) l=ZdP m ob l1:=by rw [hqo];exact Zs6 m ob c l1
             refine Zl (beq_eq_false_iff_ne.2 (by omega)) (Zbv r2 fun h5 r5 u5 z5=>?_)
             have hdeep:IntKind.wrap .i64 (deep+1)=((64 - m:Nat):Int):=by rw [ZG (by omega) (by omega)];omega
             rw [hdeep]
             cases ob with
             | false =>
               rw [hob]
               refine Zn rfl (Zol hf r5 hR fun v z h6 o6 hv6 v6 u6=>?_)
               have s5:=Zbq u5
               exact fin (by rw [hxb hqo];exact o6) (fun w r hw=>hv6 w r (by rw [hxb hqo] at hw;exact hw)) (u5.trans u6) (v6.keep (fun _ _ _=>rfl) fun j hj=>⟨by omega,hj.2⟩)
             | true =>
               rw [hob]
               refine Zl rfl (ZlU hf r5 hR fun v z h6 o6 hv6 v6 u6=>?_)
               have s5:=Zbq u5
               exact fin (by rw [hxb hqo];exact o6) (fun w r hw=>hv6 w r (by rw [hxb hqo] at hw;exact hw)) (u5.trans u6) (v6.keep (fun _ _ _=>rfl) fun j hj=>⟨by omega,hj.2⟩)
         ·simp only [n91,false_or]
          constructor
          ·intro hb;exact Za1 (d:=123) (beq_iff_eq.1 hb)
          ·rintro rfl;rfl
theorem Zg1:∀ n:Nat,n≤64→ZtR (ZT (n+1)) (Zy n) ((64 - n:Nat):Int)
  | 0,_=>Zg0 (f42:=ZT 0) (n:=0) (.inl ⟨rfl,rfl⟩)
  | n+1,hn=>Zg0 (f42:=ZT (n+1)) (n:=n+1) (.inr ⟨n,rfl,hn,rfl,Zg1 n (by omega)⟩)
theorem ZlR {h:Ze} {s:ByteArray} (hh:9≤sz h) {K:VT5→Int→Int→HP}
    (hk:∀ z e n h',Ext h h'→Zlq h' (fun j=>sz h≤j∧j<sz h') (XE s.data.toList) z e n→K z e n h'):YZ s K h:=by
  unfold YZ ZaE
  have hs0:sz h=h.size:=rfl
  have hlen:s.data.toList.length=s.size:=by simp
  refine ZbY fun h1 c1 e1 z1=>Za (Za (Zi (fun hlong=>?_) fun hshort=>?_))
  ·have c1':obj h1 h.size=some (.cells zV.toArray 33 (0,0)):=c1
   refine Zly c1' (by simp) (by simp [Z7]) fun h3 c3 u3 z3=>Za (Za ?_)
   have c3':obj h3 h.size=some (.cells zV.toArray 33 (0,0)):=c3
   refine rI (Zr c3' rfl) (rS (Zr c3' rfl) (rL (s:=⟨none,0,0⟩) (Zr c3' rfl) (rL (s:=⟨none,0,0⟩) (Zr c3' rfl) (hk _ _ _ h3 (e1.updS u3 fun j hj=>by omega) ?_))))
   rw [Zdd (by omega)]
   exact ⟨Zbo.plain _ _ 0 [],rfl,rfl⟩
  ·have hs:s.size≤65536:=by omega
   refine ZbY fun h11 c11 e11 z11=>?_
   have hs1:sz h1=h1.size:=rfl
   have r11:Rf h11 h1.size s 0 s.data.toList:=⟨hs,0,c11,Zcb.start s⟩
   have pp:=ZbG (l:=s.data.toList) (by omega)
   have c1':obj h11 h.size=some (.cells zV.toArray 33 (0,0)):=Y2 c1 e11
   refine ⟨65,Zg1 64 (Nat.le_refl _) h11 h1.size s (.ok () s.data.toList) _ r11 (by have:sz h11=h11.size:=rfl;omega) (by omega) fun v z h13 o13 hv13 v13 u13=>?_⟩
   have o13:Zcc h13 h1.size s (Zy 64 s.data.toList):=o13
   have hv13:∀ w r,Zy 64 s.data.toList = .ok w r→v=w:=hv13
   have hs11:sz h11=h1.size+1:=z11
   refine ZbY fun h15 c15 e15 z15=>?_
   have hs13:sz h13=h13.size:=rfl
   have c15':obj h15 h13.size=some (.cells zV.toArray 33 (0,0)):=c15
   have s13:=Zbq u13
   refine Zly c15' (by simp) (Zb5 z) fun h16 c16 u16 z16=>?_
   have c16':obj h16 h13.size=some (.cells (XX z).toArray 33 (0,0)):=c16
   have o16:=(o13.ext e15).upd u16 (by omega)
   refine Zkh o16 fun h17 o17 u17 z17=>?_
   have u1117:Upd (fun j=>j=h1.size) h11 h17:=(UT (UT (u13.trans (e15.upd _)) u16 fun j hj=> .inr (by omega)) u17 fun j hj=> .inl hj)
   have c17:obj h17 h13.size=some (.cells (XX z).toArray 33 (0,0)):=Yx c16' u17 (by omega)
   have cb17:obj h17 h.size=some (.cells zV.toArray 33 (0,0)):=Yx c1' u1117 (by omega)
   have e17:Ext h h17:=(e1.trans e11).updS u1117 fun j hj=>by omega
   have v17:Zbo h17 (fun j=>sz h≤j∧j<sz h17) z v:=v13.keep (fun j hj hl=>by
     rw [ZY u17 (by have:sz h16=h16.size:=rfl;have:sz h15=h15.size:=rfl;have:=e15.size;omega) (by omega),ZY u16 (by have:sz h15=h15.size:=rfl;have:=e15.size;omega) (by omega),YB e15 hl]) fun j hj=>⟨by omega,by have:=Zbq u17;have:=Zbq u16;have:sz h15=h15.size:=rfl;have:=e15.size;omega⟩
   refine Zm (fun _ h'=>Upd (fun j=>j=h1.size) h17 h'∧sz h'=sz h17∧((∃ w,XE s.data.toList = .ok w∧v=w∧∃ r,Rf h' h1.size s 0 r)∨∃ e r,XE s.data.toList = .err e (s.size - r.length)∧e≠0∧Rf h' h1.size s e r)) ?_ ?_
   ·rintro ⟨⟩ h24 ⟨u24,z24,hc⟩
    have c24:=Yx c17 u24 (show ¬ h13.size=h1.size by omega)
    have cb24:=Yx cb17 u24 (show ¬ h.size=h1.size by omega)
    have e24:Ext h h24:=e17.updS u24 fun j hj=>by omega
    rcases hc with ⟨w,hp,hvw,r,r24⟩ | ⟨e,r,hp,he,r24⟩
    ·obtain ⟨_,n24,cc,_⟩:=r24
     refine rI (Zr cc rfl) (Zqb ?_)
     refine rI (Zr c24 rfl) (rS (Zr c24 rfl) (rL (s:=z.2.2.1) (Zr c24 rfl) (rL (s:=z.2.2.2.1) (Zr c24 rfl) ?_)))
     refine Zly cb24 (by simp [XX]) (Zb5 z) fun h39 c39 u39 z39=>Za (Za ?_)
     have c39':obj h39 h.size=some (.cells (XX z).toArray 33 (0,0)):=c39
     refine rI (Zr c39' rfl) (rS (Zr c39' rfl) (rL (s:=z.2.2.1) (Zr c39' rfl) (rL (s:=z.2.2.2.1) (Zr c39' rfl) (hk _ _ _ h39 (e24.updS u39 fun j hj=>by omega) ?_))))
     rw [hp,← hvw]
     have hold:∀ j,sz h11≤j→j<sz h17→obj h39 j=obj h17 j:=fun j hj hl=>by rw [ZY u39 (by omega) (by omega),ZY u24 hl (by omega)]
     refine ⟨?_,rfl,rfl⟩
     have v17':Zbo h17 (fun j=>sz h11≤j∧j<sz h17) z v:=v13.keep (fun j hj hl=>by
       rw [ZY u17 (by have:sz h16=h16.size:=rfl;have:sz h15=h15.size:=rfl;have:=e15.size;omega) (by omega),ZY u16 (by have:sz h15=h15.size:=rfl;have:=e15.size;omega) (by omega),YB e15 hl]) fun j hj=>⟨by omega,by have:=Zbq u17;have:=Zbq u16;have:sz h15=h15.size:=rfl;have:=e15.size;omega⟩
     exact v17'.keep (fun j hj hl=>hold j hj.1 hl) fun j hj=>⟨by omega,by have:=Zbq u39;omega⟩
    ·obtain ⟨_,n24,cc,g24⟩:=r24
     have g24l:=g24.len
     refine rI (Zr cc rfl) (ZrQ he (rI (Zr cc rfl) (rI (Zr cc rfl) ?_)))
     refine Zly cb24 (by simp) (by simp [Z7]) fun h28 c28 u28 z28=>?_
     have cc28:=Yx cc u28 (show ¬ h1.size=h.size by omega)
     refine YS (Zr cc28 rfl) (YS (Zr cc28 rfl) (Za (Za ?_)))
     have c28':obj h28 h.size=some (.cells zV.toArray 33 (0,0)):=c28
     refine rI (Zr c28' rfl) (rS (Zr c28' rfl) (rL (s:=⟨none,0,0⟩) (Zr c28' rfl) (rL (s:=⟨none,0,0⟩) (Zr c28' rfl) (hk _ _ _ h28 (e24.updS u28 fun j hj=>by omega) ?_))))
     rw [hp]
     refine ⟨Zbo.plain _ _ 0 [],rfl,?_⟩
     show (n24:Int)=((s.size - r.length:Nat):Int)
     omega
   ·cases hq:Zy 64 s.data.toList with
    | err e r =>
      rw [hq] at o17 pp
      simp only at pp
      have o17:e≠0∧Rf h17 h1.size s e r:=o17
      obtain ⟨_,n24,cc,_⟩:=id o17.2
      refine rI (Zr cc rfl) (ZtO o17.1 ⟨Upd.refl _ _,rfl,.inr ⟨e,r,?_,o17.1,o17.2⟩⟩)
      rw [pp,hlen]
    | ok w r =>
      rw [hq] at o17 pp
      simp only at pp
      have r17:Rf h17 h1.size s 0 (ZI r):=o17
      have hvw:=hv13 w r hq
      obtain ⟨_,n24,cc,g17⟩:=id r17
      have g17l:=g17.len
      refine rI (Zr cc rfl) (Zou (rI (Zr cc rfl) (rS (Zr cc rfl) (Zi (fun hlt=>?_) fun hge=>?_))))
      ·have hR9:=ZlJ r17 (m:=25) (e':=25) rfl (K:=fun h'=>Upd (fun j=>j=h1.size) h17 h'∧sz h'=sz h17∧((∃ w,XE s.data.toList = .ok w∧v=w∧∃ r,Rf h' h1.size s 0 r)∨∃ e r,XE s.data.toList = .err e (s.size - r.length)∧e≠0∧Rf h' h1.size s e r)) fun h18 r18 u18 z18=>⟨u18,z18,.inr ⟨25,ZI r,?_,by decide,r18⟩⟩
       ·obtain ⟨b,o,hbo,hst⟩:=hR9
        cases hbo
        exact hst
       ·cases hsk:ZI r with
        | nil=>rw [hsk] at g17l;simp at g17l;omega
        | cons c r'=>rw [hsk] at pp;simp only at pp;rw [pp,hlen]
      ·have hsk:ZI r=[]:=List.eq_nil_of_length_eq_zero (by omega)
       rw [hsk] at pp
       simp only at pp
       exact ⟨Upd.refl _ _,rfl,.inl ⟨w,pp,hvw,_,r17⟩⟩
end Go.Proofs.YtpjbjdheeemdiaaGreatDoor
namespace Go.Js
open Go
namespace JL
def drop:Nat→JL→JL
  | 0,l=>l
  | _+1,nil=>nil
  | n+1,cons _ _ _ _ r=>r.drop n
def hei:JL→Nat
  | nil=>0
  | cons _ _ _ s r=>max (s.hei+1) r.hei
theorem drop_len:∀ (n:Nat) (l:JL),(l.drop n).len=l.len - n
  | 0,l=>rfl
  | n+1,nil=>by simp [drop,len]
  | n+1,cons _ _ _ _ r=>by simp only [drop,len,drop_len n r];omega
theorem drop_succ:∀ (n:Nat) (l:JL) {k:Nat} {t:BL} {ns:List BL} {s r:JL},l.drop n=cons k t ns s r→l.drop (n+1)=r
  | 0,l,_,_,_,_,_,h=>by rw [show l=_ from h];rfl
  | n+1,nil,_,_,_,_,_,h=>by cases h
  | n+1,cons _ _ _ _ r,_,_,_,_,_,h=>drop_succ n r h
theorem drop_cons {n:Nat} {l:JL} (h:n<l.len):∃ k t ns s r,l.drop n=cons k t ns s r:=by
  have:=drop_len n l
  cases hd:l.drop n with
  | nil=>rw [hd] at this;simp [len] at this;omega
  | cons k t ns s r=>exact ⟨k,t,ns,s,r,rfl⟩
theorem drop_nil {n:Nat} {l:JL} (h:l.len≤n):l.drop n=nil:=by
  have:=drop_len n l
  exact len_nil.1 (by omega)
theorem drop_hei:∀ (n:Nat) (l:JL) {k:Nat} {t:BL} {ns:List BL} {s r:JL},l.drop n=cons k t ns s r→s.hei+1≤l.hei
  | 0,l,_,_,_,_,_,h=>by rw [show l=_ from h];simp only [hei];omega
  | n+1,nil,_,_,_,_,_,h=>by cases h
  | n+1,cons _ _ _ _ r,_,_,_,_,_,h=>by have:=drop_hei n r h;simp only [hei];omega
end JL
end Go.Js
namespace Go.Proofs.YtpjbjdheeemdiaaGreatDoor
open Go Go.Fw Go.Js
theorem Za7.drop {h:Ze} {S:Nat→Prop}:∀ (n:Nat) {l:JL} {vs:List Value},Za7 h S l vs→Za7 h S (l.drop n) (vs.drop (n*4))
  | 0,l,vs,h=>by simpa [JL.drop] using h
  | n+1,.nil,vs,h=>by rw [show vs=[] from h];simp [JL.drop,Za7]
  | n+1,.cons k t ns s r,vs,h=>by
    obtain ⟨x,y,cx,vs',e,a,b,c,d,f,g⟩:=h
    have:=Za7.drop n g
    rw [e]
    show Za7 _ _ (r.drop n) _
    have e2:(XX ((k:Int),Zc t,x,y,())++vs').drop ((n+1)*4)=vs'.drop (n*4):=by
      rw [List.drop_append,show (XX ((k:Int),Zc t,x,y,())).length=4 from rfl,List.drop_of_length_le (by show 4≤_;omega),List.nil_append]
      congr 1
      omega
    rw [e2];exact this
theorem Zhy {h:Ze} {S:Nat→Prop} {l:JL} {vs:List Value} {x:Sl} (hr:Row h x 4 vs) (hl:Za7 h S l vs) {i:Nat} {k:Nat} {t:BL} {ns:List BL} {s r:JL} (hd:l.drop i = .cons k t ns s r) {n:Int} (hn:n=i) {K:Int→ByteArray→Sl→Sl→Prop}
    (hk:∀ z:VT5,Zbo h S z ⟨k,t,ns,s⟩→K z.1 z.2.1 z.2.2.1 z.2.2.2.1):ZjY x.ptr x.len n 4 fun b o=>ldI h b o .u8 fun t1=>ldS h b (o+1) fun t2=>ldL h b (o+2) fun t3=>ldL h b (o+3) fun t4=>K t1 t2 t3 t4:=by
  subst hn
  have hlen:=hl.len
  have hxl:=hr.len
  have hi:i<l.len:=by
    have:=JL.drop_len i l
    rw [hd] at this
    simp [JL.len] at this
    omega
  have hL:=Za7.drop i hl
  rw [hd] at hL
  obtain ⟨sx,sy,cx,vs',e,a,b,c,d,f,g⟩:=hL
  rcases hr.at_ with h0 | ⟨bb,o,hp,hh⟩
  ·omega
  ·rw [hp]
   have get:∀ j v,(XX ((k:Int),Zc t,sx,sy,()))[j]?=some v→h.cell bb (o+i*4+j)=some v:=fun j v hv=>by
     have h1:vs[i*4+j]?=some v:=by
       rw [← List.getElem?_drop,e,List.getElem?_append_left]
       ·exact hv
       ·rcases Nat.lt_or_ge j (XX ((k:Int),Zc t,sx,sy,())).length with h | h
        ·exact h
        ·rw [List.getElem?_eq_none h] at hv;cases hv
     have:=ZjZ hh h1
     rw [Nat.add_assoc];exact this
   have gc:∀ j v,(XX ((k:Int),Zc t,sx,sy,()))[j]?=some v→Zam (o+i*4+j) (obj h bb)=some v:=fun j v hv=>by rw [← Zbb];exact get j v hv
   refine Zl6 (n:=i) rfl (by omega) (rI (gc 0 _ rfl) (rS (gc 1 _ rfl) (rL (s:=sx) (gc 2 _ rfl) (rL (s:=sy) (gc 3 _ rfl) (hk ((k:Int),Zc t,sx,sy,()) ⟨rfl,rfl,a,b,cx,c,d,f⟩)))))
theorem ZlX {h:Ze} {ns:List BL} {x:Sl} (hr:Row h x 1 (ns.map sV)) {i:Nat} {t:BL} (ht:ns[i]?=some t) {n:Int} (hn:n=i) {K:ByteArray→Prop} (hk:K (Zc t)):ZjY x.ptr x.len n 1 fun b o=>ldS h b o K :=
  Row.idx hr hn (v:=sV t) (by simp [ht]) fun b o _ hc=>⟨_,hc,hk⟩
theorem Zhu {h:Ze} {ns:List BL} {x:Sl} (hr:Row h x 1 (ns.map sV)):x.len=ns.length:=by have:=hr.len;simp at this;omega
theorem Zqp {a b:BL}:Zc a=Zc b↔a=b:=by
  constructor
  ·intro h
   have:=congrArg (fun b:ByteArray=>b.data.toList) h
   simpa [Zc] using this
  ·rintro rfl;rfl
theorem XS (a b:BL):Za2 (Zc a) (Zc b)=decide (a=b):=by
  rw [ZkA]
  exact decide_eq_decide.2 Zqp
theorem Zbo.ext {h h':Ze} {S:Nat→Prop} {z:VT5} {v:JV} (hv:Zbo h S z v) (hS:∀ j,S j→j<sz h) (u:Ext h h'):Zbo h' S z v:=hv.keep (fun j hj _=>YB u (hS j hj)) fun j hj=>hj
end Go.Proofs.YtpjbjdheeemdiaaGreatDoor
namespace Go.Js
open Go
def Zrp (t:BL):Bool:=match XE t with
  | .ok v=>decide (v.k=4)&&decide (v.t=t)
  | .err _ _=>false
def whB (k:Nat) (t:BL) (ns:List BL) (sub:JL):Bool :=
  if k=1∨k=2∨k=3 then decide (t=[])&&(sub.isNil&&decide (ns=[]))
  else if k=4 then Zrp t&&(sub.isNil&&decide (ns=[]))
  else if k=5 then Lib.validD t&&(sub.isNil&&decide (ns=[]))
  else if k=6 then decide (t=[])&&decide (ns=[])
  else if k=7 then decide (t=[])&&(decide (ns.length=sub.len)&&ns.all Lib.validD)
  else false
def ZtL:JL→Prop
  | .nil=>True
  | .cons _ t ns sub rest=>t.length<9223372036854775807∧(∀ n∈ns,n.length<9223372036854775807)∧ZtL sub∧ZtL rest
def Zp5 (v:JV):Prop:=v.t.length<9223372036854775807∧(∀ n∈v.ns,n.length<9223372036854775807)∧ZtL v.sub
abbrev Rt:=Nat→BL→List BL→JL→Bool
def ZaG (rt:Rt):Nat→JL→Nat→Nat→Bool × Nat × Nat
  | _,.nil,n,dp=>(true,n,dp)
  | d,.cons k t ns sub rest,n,dp =>
    if 65536<n+1 then (false,n+1,dp)
    else if rt k t ns sub=false then (false,n+1,dp)
    else if k≠6∧k≠7 then ZaG rt d rest (n+1) dp
    else if 64≤d then ZaG rt d rest (n+1) (max dp (d+1))
    else if (ZaG rt (d+1) sub (n+1) (max dp (d+1))).1=true then ZaG rt d rest (ZaG rt (d+1) sub (n+1) (max dp (d+1))).2.1 (ZaG rt (d+1) sub (n+1) (max dp (d+1))).2.2
    else ZaG rt (d+1) sub (n+1) (max dp (d+1))
def ZcS (rt:Rt) (d:Nat) (v:JV) (n dp:Nat):Bool × Nat × Nat:=ZaG rt d (.cons v.k v.t v.ns v.sub .nil) n dp
theorem ZoH (rt:Rt) (d k:Nat) (t:BL) (ns:List BL) (sub rest:JL) (n dp:Nat):ZaG rt d (.cons k t ns sub rest) n dp =
    if (ZcS rt d ⟨k,t,ns,sub⟩ n dp).1=true then ZaG rt d rest (ZcS rt d ⟨k,t,ns,sub⟩ n dp).2.1 (ZcS rt d ⟨k,t,ns,sub⟩ n dp).2.2 else ZcS rt d ⟨k,t,ns,sub⟩ n dp:=by
  unfold ZcS
  simp only [ZaG]
  by_cases h1:65536<n+1
  ·simp [h1]
  by_cases h2:rt k t ns sub=false
  ·simp [h1,h2]
  by_cases h3:k≠6∧k≠7
  ·simp [h1,h2,h3]
  by_cases h4:64≤d
  ·simp [h1,h2,h3,h4]
  by_cases h5:(ZaG rt (d+1) sub (n+1) (max dp (d+1))).1=true
  ·simp [h1,h2,h3,h4,h5]
  ·simp [h1,h2,h3,h4,h5]
theorem Zm8:∀ (n:Nat) {l:JL} {k:Nat} {t:BL} {ns:List BL} {s r:JL},ZtL l→l.drop n = .cons k t ns s r→Zp5 ⟨k,t,ns,s⟩
  | 0,l,k,t,ns,s,r,h,e=>by
    rw [show l=_ from e] at h
    exact ⟨h.1,h.2.1,h.2.2.1⟩
  | n+1,.nil,_,_,_,_,_,_,e=>by cases e
  | n+1,.cons _ _ _ _ r',_,_,_,_,_,h,e=>Zm8 n h.2.2.2 e
end Go.Js
namespace Go.Proofs.YtpjbjdheeemdiaaGreatDoor
open Go Go.Fw Go.Js
section
variable {h:Ze}
theorem ZjW {t:BL} (ht:ZbA h) (hh:9≤sz h) {K:Bool→HP} (hk:∀ h',Ext h h'→K (Zrp t) h'):Zat (Zc t) K h:=by
  unfold Zat ZcN
  refine ZiP ht hh fun z e n h1 e1 g=>?_
  have hp:(Zc t).data.toList=t:=rfl
  rw [hp] at g
  refine ZbY fun h2 c2 e2 z2=>?_
  have c2':obj h2 h1.size=some (.cells zV.toArray 33 (0,0)):=c2
  refine Zly c2' (by simp) (Zb5 z) fun h3 c3 u3 z3=>Za (Za ?_)
  have c3':obj h3 h1.size=some (.cells (XX z).toArray 33 (0,0)):=c3
  have hs1:sz h1=h1.size:=rfl
  have key:=hk h3 ((e1.trans e2).updS u3 fun j hj=>by have:=e1.size;have:sz h=h.size:=rfl;omega)
  unfold Zrp at key
  cases hq:XE t with
  | err e' k =>
    rw [hq] at g key
    obtain ⟨_,he,_⟩:=g
    have:=ZmN hq
    exact Zl (beq_eq_false_iff_ne.2 (by omega)) key
  | ok v =>
    rw [hq] at g key
    obtain ⟨vr,he,_⟩:=g
    simp only at key
    refine Zn (by rw [he];rfl) (rI (Zr c3' rfl) ?_)
    rw [vr.1]
    refine Yj (fun h4=>rS (Zr c3' rfl) (Zd ?_)) fun h4=>?_
    ·rw [decide_eq_true (show v.k=4 by omega),Bool.true_and] at key
     rw [vr.2.1,XS];exact key
    ·rw [decide_eq_false (show ¬ v.k=4 by omega),Bool.false_and] at key
     exact key
theorem Zki {ns:List BL} {x:Sl} (hr:Row h x 1 (ns.map sV)) (hx:inS (fun j=>j<sz h) x) (hfit:∀ n∈ns,n.length<9223372036854775807) (ht:ZbA h) {K:Bool→HP} (hk:∀ h',Ext h h'→K (!ns.all Lib.validD) h'):ZC x K h:=by
  unfold ZC ZU ZP ZZ
  have hl:=Zhu hr
  have hbig:=hr.big
  have hcap:=hr.cap
  refine Za ?_
  refine ZB (fun p h'=>∃ i:Nat,p.1=i∧i≤ns.length∧Ext h h'∧(ns.take i).all Lib.validD=true) (fun p _=>(ns.length - p.1).toNat) ⟨0,rfl,Nat.zero_le _,Ext.refl _,rfl⟩ ?_
  rintro ⟨i0,u⟩ h2 ⟨i,hi,hle,e2,hall⟩
  dsimp only at hi ⊢
  subst hi
  refine Zi (fun hlt=>Za ?_) fun hge=>Za (Zd ?_)
  ·have hia:i<ns.length:=by omega
   have hr2:Row h2 x 1 (ns.map sV):=ZaK hr hx fun j hj hl=>YB e2 hl
   refine ZlX hr2 (List.getElem?_eq_getElem hia) rfl ?_
   unfold Zcf Zc7
   have hfi:=hfit ns[i] (List.getElem_mem hia)
   refine ⟨ht.ext e2,by rw [Yk];omega,fun h3 e3=>Zd ?_⟩
   have hv:Lib.validD (Zc ns[i]).data.toList=Lib.validD ns[i]:=rfl
   rw [hv]
   cases hd:Lib.validD ns[i] with
   | true =>
     refine Zl rfl ?_
     rw [ZG (by omega) (by omega)]
     refine ⟨⟨i+1,rfl,by omega,e2.trans e3,?_⟩,by omega⟩
     rw [List.take_add_one,List.getElem?_eq_getElem hia,List.all_append,hall]
     simp [hd]
   | false =>
     refine Zn rfl (Za (Zd ?_))
     have:=hk h3 (e2.trans e3)
     have hna:ns.all Lib.validD=false:=by
       rw [List.all_eq_false]
       exact ⟨ns[i],List.getElem_mem hia,by simp [hd]⟩
     rw [hna] at this
     rw [decide_eq_true (show (i:Int)≥0 by omega)];exact this
  ·rw [List.take_of_length_le (by omega)] at hall
   have:=hk h2 e2
   rw [hall] at this
   exact this
theorem ZtB {a b:Bool} {K:Bool→Prop} (hk:K (a&&b)):Zp (!!a) (ZF (!!b) K) (K false):=by
  cases a
  ·exact Zl rfl hk
  ·cases b<;>exact Zn rfl (Zd hk)
theorem Zxe {a b c:Bool} {K:Bool→Prop} (hk:K (a&&(b&&c))):Zp (!!a) (Zp (!!b) (ZF (!!c) K) (K false)) (K false):=by
  cases a
  ·exact Zl rfl hk
  ·exact Zn rfl (ZtB hk)
theorem Zvw {a b c:Bool} {K:Bool→Prop} (hk:K (a&&(b&&c))):Zp a (Zp (!!b) (ZF (!!c) K) (K false)) (K false):=by
  cases a
  ·exact Zl rfl hk
  ·exact Zn rfl (ZtB hk)
theorem Zu0 {x:Sl} {sub:JL} (hl:x.len=sub.len):decide ((x.len:Int)>0) = !sub.isNil:=by
  cases sub with
  | nil=>rw [hl];rfl
  | cons k t ns s r=>rw [hl];simp [JL.len,JL.isNil]
theorem ZwX {x:Sl} {ns:List BL} (hl:x.len=ns.length):decide ((x.len:Int)>0) = !decide (ns=[]):=by
  cases ns with
  | nil=>rw [hl];rfl
  | cons a ns=>rw [hl];simp
theorem Znw {z:VT5} {v:JV} {S:Nat→Prop} (hv:Zbo h S z v) (hS:∀ j,S j→j<sz h) (hfit:Zp5 v) (ht:ZbA h) (hh:9≤sz h) {K:Bool→HP} (hk:∀ h',Ext h h'→K (whB v.k v.t v.ns v.sub) h'):Zcl z K h:=by
  unfold Zcl Zej
  obtain ⟨a1,a2,a3,a4,cx,a5,a6,a7⟩:=hv
  refine ZbY fun h1 c1 e1 z1=>?_
  have c1':obj h1 h.size=some (.cells (XX z).toArray 33 (0,0)):=c1
  have hll:z.2.2.1.len=v.sub.len:=by have:=a5.len;have:=a7.len;omega
  have hnl:=Zhu a3
  refine rS (Zr c1' rfl) (rL (s:=z.2.2.1) (Zr c1' rfl) (rL (s:=z.2.2.2.1) (Zr c1' rfl) (Zd (Zd (Zd (rI (Zr c1' rfl) ?_))))))
  have htxt:(!Za2 z.2.1 (ByteArray.mk #[])) = !decide (v.t=[]):=by rw [a2,show (ByteArray.mk #[])=Zc [] from rfl,XS]
  rw [htxt,Zu0 hll,ZwX hnl,a1]
  have key:=hk h1 e1
  have e_:∀ {n:Nat} {A B:Prop},(v.k=n→A)→(v.k≠n→B)→ZF ((v.k:Int) ==(n:Int)) fun t=>Zp t A B:=fun {n A B} ha hb=>Zd (Yj (fun e=>ha (by omega)) fun e=>hb (by omega))
  refine Zm (fun p h'=>h'=h1∧(p.1=true↔v.k=1∨v.k=2∨v.k=3)) ?_ ?_
  ·rintro ⟨b,u⟩ h2 ⟨rfl,hb⟩
   dsimp only at hb ⊢
   cases hbb:b with
   | true =>
     have h123:=hb.1 hbb
     unfold whB at key
     rw [if_pos h123] at key
     refine Zn rfl ?_
     exact Zxe (K:=fun t=>K t h2) key
   | false =>
     have h123:¬ (v.k=1∨v.k=2∨v.k=3):=fun e=>by have:=hb.2 e;rw [hbb] at this;cases this
     refine Zl rfl ?_
     refine e_ (n:=4) (fun e4=>?_) fun n4=>e_ (n:=5) (fun e5=>?_) fun n5=>e_ (n:=6) (fun e6=>?_) fun n6=>e_ (n:=7) (fun e7=>?_) fun n7=>?_
     ·refine rS (Zr c1' rfl) ?_
      rw [a2]
      have hs1:9≤sz h2:=by have:=e1.size;have:sz h2=h2.size:=rfl;have:sz h=h.size:=rfl;omega
      refine ZjW (ht.ext e1) hs1 fun h3 e3=>?_
      have key:=hk h3 (e1.trans e3)
      unfold whB at key
      rw [if_neg h123,if_pos e4] at key
      exact Zvw (K:=fun t=>K t h3) key
     ·refine rS (Zr c1' rfl) ?_
      rw [a2]
      have hf:=hfit.1
      refine ⟨ht.ext e1,by rw [Yk];omega,fun h3 e3=>?_⟩
      have hvd:Lib.validD (Zc v.t).data.toList=Lib.validD v.t:=rfl
      rw [hvd]
      have key:=hk h3 (e1.trans e3)
      unfold whB at key
      rw [if_neg h123,if_neg n4,if_pos e5] at key
      exact Zvw (K:=fun t=>K t h3) key
     ·unfold whB at key
      rw [if_neg h123,if_neg n4,if_neg n5,if_pos e6] at key
      exact ZtB (K:=fun t=>K t h2) key
     ·unfold whB at key
      rw [if_neg h123,if_neg n4,if_neg n5,if_neg n6,if_pos e7] at key
      cases htt:decide (v.t=[]) with
      | false=>rw [htt] at key;exact Zl rfl key
      | true =>
        rw [htt,Bool.true_and] at key
        refine Zn rfl (rL (s:=z.2.2.2.1) (Zr c1' rfl) (rL (s:=z.2.2.1) (Zr c1' rfl) (Yj (fun hel=>?_) fun hel=>?_)))
        ·refine rL (s:=z.2.2.2.1) (Zr c1' rfl) (Zki (ZaK a3 a4 fun j hj hl=>YB e1 hl) ?_ hfit.2.1 (ht.ext e1) fun h3 e3=>Zd ?_)
         ·intro hl j hj
          have:=hS j (a4 hl j hj)
          have:=e1.size
          have:sz h2=h2.size:=rfl
          have:sz h=h.size:=rfl
          omega
         ·have key:=hk h3 (e1.trans e3)
          unfold whB at key
          rw [if_neg h123,if_neg n4,if_neg n5,if_neg n6,if_pos e7,htt,Bool.true_and,decide_eq_true (show v.ns.length=v.sub.len by omega),Bool.true_and] at key
          rw [Bool.not_not];exact key
        ·rw [decide_eq_false (show ¬ v.ns.length=v.sub.len by omega),Bool.false_and] at key
         exact key
     ·unfold whB at key
      rw [if_neg h123,if_neg n4,if_neg n5,if_neg n6,if_neg n7] at key
      exact key
  ·refine e_ (n:=1) (fun e=>⟨rfl,by simp [e]⟩) fun n1=>e_ (n:=2) (fun e=>⟨rfl,by simp [e]⟩) fun n2=>Zd ⟨rfl,?_⟩
   simp only [beq_iff_eq]
   omega
end
end Go.Proofs.YtpjbjdheeemdiaaGreatDoor
namespace Go.Proofs.YtpjbjdheeemdiaaGreatDoor
open Go Go.Fw Go.Js
def ZxG (right:Value) (rt:Rt):Prop:=(right = .func (.func 94) #[] #[]∧rt=whB)∨(right = .func (.func 119) #[] #[]∧rt=fun _ _ _ _=>true)
abbrev ZAZ (n dp:Nat):List Value:=[.int .i64 n,.int .i64 dp]
def Zkl (h:Ze) (C n dp:Nat):Prop:=obj h C=some (.cells (ZAZ n dp).toArray 157 (0,0))
theorem ZcE (rt:Rt):∀ (l:JL) (d n dp:Nat),n≤65536→(ZaG rt d l n dp).2.1≤65537∧((ZaG rt d l n dp).1=true→(ZaG rt d l n dp).2.1≤65536)
  | .nil,d,n,dp,h=>⟨by show n≤65537;omega,fun _=>h⟩
  | .cons k t ns sub rest,d,n,dp,h=>by
    simp only [ZaG]
    split
    ·exact ⟨by show n+1≤65537;omega,fun h=>by cases h⟩
    split
    ·exact ⟨by show n+1≤65537;omega,fun h=>by cases h⟩
    split
    ·exact ZcE rt rest d (n+1) dp (by omega)
    split
    ·exact ZcE rt rest d (n+1) _ (by omega)
    split
    ·rename_i hs
     have:=ZcE rt sub (d+1) (n+1) (max dp (d+1)) (by omega)
     exact ZcE rt rest d _ _ (this.2 hs)
    ·have:=ZcE rt sub (d+1) (n+1) (max dp (d+1)) (by omega)
     exact this
theorem Zcx (rt:Rt):∀ (l:JL) (d n dp:Nat),d≤64→dp≤65→(ZaG rt d l n dp).2.2≤65
  | .nil,d,n,dp,_,h=>h
  | .cons k t ns sub rest,d,n,dp,hd,h=>by
    simp only [ZaG]
    split
    ·exact h
    split
    ·exact h
    split
    ·exact Zcx rt rest d (n+1) dp hd h
    split
    ·exact Zcx rt rest d (n+1) _ hd (by omega)
    split
    ·exact Zcx rt rest d _ _ hd (Zcx rt sub (d+1) (n+1) _ (by omega) (by omega))
    ·exact Zcx rt sub (d+1) (n+1) _ (by omega) (by omega)
theorem rV {h:Ze} {b o:Nat} {n:Value} {K:Value→Prop} (hc:Zam o (obj h b)=some n) (hk:K n):ldV h b o K:=by rw [Zvd hc];exact hk
def ZtC (f53:ZgS) (right:Value) (rt:Rt) (v:JV):Prop:=∀ {h:Ze} {C n dp d:Nat} {z:VT5} {S:Nat→Prop} {K:Bool→HP},Zbo h S z v→(∀ j,S j→j<sz h∧j≠C)→Zp5 v→ZbA h→9≤C→Zkl h C n dp→n≤65536→d≤64→dp≤65 →
    (∀ h',Zkl h' C (ZcS rt d v n dp).2.1 (ZcS rt d v n dp).2.2→Upd (· = C) h h'→K (ZcS rt d v n dp).1 h')→f53 (At C) z d right K h
theorem ZAU {a b:Nat}:Zsn (a:Int) (b:Int)=((max a b:Nat):Int):=by
  unfold Zsn
  split<;>omega
theorem Zkq {f53:ZgS} {right:Value} {rt:Rt} (hrt:ZxG right rt) {v:JV} (hsub:∀ i k t ns s r,v.sub.drop i = .cons k t ns s r→ZtC f53 right rt ⟨k,t,ns,s⟩):ZtC (ZaN f53) right rt v:=by
  intro h C n dp d z S K hv hS hfit ht hC hc hn hd hdp hk
  unfold ZaN Zb8
  have hCs:=ZbI hc
  have hs:sz h=h.size:=rfl
  refine ZbY fun h1 c1 e1 z1=>ZbY fun h3 c3 e3 z3=>ZbY fun h5 c5 e5 z5=>?_
  have hone:Z7 right=true:=by rcases hrt with ⟨e,_⟩ | ⟨e,_⟩<;>rw [e]<;>simp [Z7]
  refine ⟨hone,ZbY fun h7 c7 e7 z7=>?_⟩
  have e17:=(e3.trans e5).trans e7
  have e07:=e1.trans e17
  have s1:sz h1=h1.size:=rfl
  have s3:sz h3=h3.size:=rfl
  have s5:sz h5=h5.size:=rfl
  have b1:obj h7 h.size=some (.cells [.pointer (At C)].toArray 155 (0,0)):=Y2 c1 e17
  have b2:obj h7 h1.size=some (.cells (XX z).toArray 33 (0,0)):=Y2 c3 (e5.trans e7)
  have b3:obj h7 h3.size=some (.cells [.int .i64 d].toArray 3 (0,0)):=Y2 c5 e7
  have b4:obj h7 h5.size=some (.cells [right].toArray 45 (0,0)):=c7
  have hC7:Zkl h7 C n dp:=Y2 hc e07
  refine rP (Zr b1 rfl) (ZX (rI (Zr hC7 rfl) (ZX (Zkm hC7 (by simp) Zcp fun h8 c8 u8 z8=>?_))))
  have hC8:Zkl h8 C (n+1) dp:=by
    unfold Zkl
    rw [c8,ZG (by omega) (by omega)];rfl
  have d1:¬ h.size=C:=by omega
  have d2:¬ h1.size=C:=by omega
  have d3:¬ h3.size=C:=by omega
  have d4:¬ h5.size=C:=by omega
  have g1:=Yx b1 u8 d1
  have g2:=Yx b2 u8 d2
  have g3:=Yx b3 u8 d3
  have g4:=Yx b4 u8 d4
  have u08:Upd (· = C) h h8:=UN e07 u8
  have hW:ZcS rt d v n dp=ZaG rt d (.cons v.k v.t v.ns v.sub .nil) n dp:=rfl
  simp only [ZaG] at hW
  refine rP (Zr g1 rfl) (ZX (rI (Zr hC8 rfl) (Zi (fun hbig=>?_) fun hsmall=>rV (Zr g4 rfl) (rI (Zr g2 rfl) (rS (Zr g2 rfl) (rL (s:=z.2.2.1) (Zr g2 rfl) (rL (s:=z.2.2.2.1) (Zr g2 rfl) ?_)))))))
  ·rw [if_pos (by omega)] at hW
   rw [hW] at hk
   exact hk h8 hC8 u08
  rw [if_neg (by omega)] at hW
  have v8:Zbo h8 S z v:=hv.keep (fun j hj hl=>ZY u08 hl (hS j hj).2) fun j hj=>hj
  have hS8:∀ j,S j→j<sz h8:=fun j hj=>Nat.lt_of_lt_of_le (hS j hj).1 (Zbq u08)
  have t8:ZbA h8:=ht.upd u08 fun j hj=>by subst hj;exact hC
  have rest:∀ h22,Ext h8 h22→(fun t24 h22 =>
     Zp (!t24) (
     K false h22) (
     Zaq (σ:=Unit) (fun s h29 =>
     ldP h29 h.size 0 fun t30 =>
     ldP h29 h.size 0 fun t31 =>
     Zb t31 fun b32 o33 =>
     ldI h29 b32 (o33+1) .i64 fun t34 =>
     ldI h29 h3.size 0 .i64 fun t35 =>
     Zb t30 fun b36 o37 =>
     st h29 b36 (o37+1) (.int .i64 (Zsn t34 (IntKind.wrap .i64 (t35+1)))) fun h38 =>
     ldI h38 h3.size 0 .i64 fun t39 =>
     Zp (decide (t39≥64)) (
     K true h38) (
     ldL h38 h1.size (0+2) fun t40 =>
     Zw f53 t40 (some ⟨h.size,0,none⟩,some ⟨h3.size,0,none⟩,some ⟨h5.size,0,none⟩,()) (fun t41 h42 =>
     ZF (!t41) fun t43 =>
     K t43 h42) h38)) (fun J26 =>
     ldI h22 h1.size 0 .u8 fun t27 =>
     Zp (t27 !=6) (
     ldI h22 h1.size 0 .u8 fun t28 =>
     Zp (t28 !=7) (
     K true h22) (
     J26 (()) h22)) (
     J26 (()) h22)))) (rt v.k v.t v.ns v.sub) h22:=by
    intro h22 e22
    have hC22:Zkl h22 C (n+1) dp:=Y2 hC8 e22
    have u022:=u08.trans (e22.upd _)
    have g1:=Y2 g1 e22
    have g2:=Y2 g2 e22
    have g3:=Y2 g3 e22
    have g4:=Y2 g4 e22
    cases hr:rt v.k v.t v.ns v.sub with
    | false =>
      rw [if_pos hr] at hW
      rw [hW] at hk
      exact Zn rfl (hk h22 hC22 u022)
    | true =>
      rw [if_neg (by simp [hr])] at hW
      refine Zl rfl ?_
      refine Zm (fun _ h'=>h'=h22∧(v.k=6∨v.k=7)) ?_ ?_
      ·rintro ⟨⟩ h29 ⟨rfl,hk67⟩
       rw [if_neg (by omega)] at hW
       refine rP (Zr g1 rfl) (rP (Zr g1 rfl) (ZX (rI (Zr hC22 rfl) (rI (Zr g3 rfl) (ZX (Zkm hC22 (by simp) Zcp fun h38 c38 u38 z38=>?_))))))
       have hC38:Zkl h38 C (n+1) (max dp (d+1)):=by
         unfold Zkl
         rw [c38,ZG (by omega) (by omega),show (d:Int)+1=((d+1:Nat):Int) from rfl,ZAU];rfl
       have g1:=Yx g1 u38 d1
       have g2:=Yx g2 u38 d2
       have g3:=Yx g3 u38 d3
       have g4:=Yx g4 u38 d4
       have u038:=u022.trans u38
       refine rI (Zr g3 rfl) (Zi (fun h64=>?_) fun h64=>?_)
       ·rw [if_pos (by omega)] at hW
        rw [hW] at hk
        exact hk h38 hC38 u038
       ·rw [if_neg (by omega)] at hW
        refine rL (s:=z.2.2.1) (Zr g2 rfl) ?_
        unfold Zw ZN ZD ZQ
        obtain ⟨a1,a2,a3,a4,cx,a5,a6,a7⟩:=id hv
        have hlx:z.2.2.1.len=v.sub.len:=by have:=a5.len;have:=a7.len;omega
        have hbig:=a5.big
        have hcap:=a5.cap
        refine Za ?_
        refine ZB (fun p h'=>∃ i ni di:Nat,p.1=i∧i≤v.sub.len∧Upd (· = C) h38 h'∧Zkl h' C ni di∧ni≤65536∧di≤65∧ZaG rt (d+1) v.sub (n+1) (max dp (d+1))=ZaG rt (d+1) (v.sub.drop i) ni di) (fun p _=>(v.sub.len - p.1).toNat)
          ⟨0,n+1,max dp (d+1),rfl,Nat.zero_le _,Upd.refl _ _,hC38,by omega,by omega,rfl⟩ ?_
        rintro ⟨i0,u⟩ h40 ⟨i,ni,di,hi,hle,u40,hC40,hni,hdi,q40⟩
        dsimp only at hi ⊢
        subst hi
        have u040:=u038.trans u40
        refine Zi (fun hlt=>Za ?_) fun hge=>Za (Zd (Zd ?_))
        ·have hia:i<v.sub.len:=by omega
         obtain ⟨k,t,ns,s,r,hd9⟩:=JL.drop_cons hia
         have keepS:∀ j,S j→j<sz h→obj h40 j=obj h j:=fun j hj hl=>ZY u040 hl (hS j hj).2
         have ra:Row h40 z.2.2.1 4 cx:=ZaK a5 a6 keepS
         have la:Za7 h40 S v.sub cx:=a7.keep keepS fun j hj=>hj
         refine Zhy ra la hd9 rfl fun zi hzi=>?_
         unfold Zac Zbm
         refine ZbY fun h41 c41 e41 z41=>?_
         have c41':obj h41 h40.size=some (.cells (XX zi).toArray 33 (0,0)):=c41
         have g1:=Y2 (Yx g1 u40 d1) e41
         have g3:=Y2 (Yx g3 u40 d3) e41
         have g4:=Y2 (Yx g4 u40 d4) e41
         refine ZX (rP (Zr g1 rfl) (rI (Zr c41' rfl) (rS (Zr c41' rfl) (rL (s:=zi.2.2.1) (Zr c41' rfl) (rL (s:=zi.2.2.2.1) (Zr c41' rfl) (ZX (rI (Zr g3 rfl) (ZX (rV (Zr g4 rfl) ?_)))))))))
         rw [ZG (by omega) (by omega),show (d:Int)+1=((d+1:Nat):Int) from rfl]
         have u041:=u040.trans (e41.upd _)
         have hwc:=ZoH rt (d+1) k t ns s r ni di
         have hnle:=ZcE rt (.cons k t ns s .nil) (d+1) ni di hni
         have hdle:=Zcx rt (.cons k t ns s .nil) (d+1) ni di (by omega) hdi
         rw [hd9,hwc] at q40
         refine hsub i k t ns s r hd9 (h:=h41) (S:=S) (hzi.keep (fun j hj hl=>YB e41 hl) fun j hj=>hj) (fun j hj=>⟨Nat.lt_of_lt_of_le (hS j hj).1 (Zbq u041),(hS j hj).2⟩) (Zm8 i hfit.2.2 hd9) (ht.upd u041 fun j hj=>by subst hj;exact hC) hC (Y2 hC40 e41) hni (by omega) hdi fun h42 hC42 u42=>Zd ?_
         have hwv:ZcS rt (d+1) ⟨k,t,ns,s⟩ ni di=ZaG rt (d+1) (.cons k t ns s .nil) ni di:=rfl
         rw [← hwv] at hnle hdle
         cases hw:(ZcS rt (d+1) ⟨k,t,ns,s⟩ ni di).1 with
         | true =>
           rw [if_pos hw] at q40
           refine Zl rfl ?_
           rw [ZG (by omega) (by omega)]
           exact ⟨⟨i+1,_,_,rfl,by omega,u40.trans ((e41.upd _).trans u42),hC42,hnle.2 hw,hdle,by rw [q40,JL.drop_succ i _ hd9]⟩,by omega⟩
         | false =>
           rw [if_neg (by simp [hw])] at q40
           refine Zn rfl (Za (Zd (Zd ?_)))
           rw [q40,if_neg (by simp [hw])] at hW
           rw [hW,hw] at hk
           rw [show decide ((i:Int)≥0)=true by simp]
           exact hk h42 hC42 (u041.trans u42)
        ·rw [JL.drop_nil (by omega)] at q40
         have q9:ZaG rt (d+1) v.sub (n+1) (max dp (d+1))=(true,ni,di):=q40
         rw [q9,if_pos rfl] at hW
         have hW9:ZcS rt d v n dp=(true,ni,di):=hW
         rw [hW9] at hk
         exact hk h40 hC40 u040
      ·refine rI (Zr g2 rfl) ?_
       rw [hv.1]
       refine Xk (fun n6=>rI (Zr g2 rfl) ?_) fun e6=>⟨rfl,.inl (by omega)⟩
       rw [hv.1]
       refine Xk (fun n7=>?_) fun e7=>⟨rfl,.inr (by omega)⟩
       rw [if_pos (by omega)] at hW
       have hW9:ZcS rt d v n dp=(true,n+1,dp):=hW
       rw [hW9] at hk
       exact hk h22 hC22 u022
  rcases hrt with ⟨hr1,hr2⟩ | ⟨hr1,hr2⟩
  ·refine .inl ⟨hr1,?_⟩
   subst hr2
   refine Znw (z:=z) v8 hS8 hfit t8 (by have:=Zbq u08;omega) fun h22 e22=>?_
   exact rest h22 e22
  ·refine .inr (.inl ⟨hr1,?_⟩)
   subst hr2
   unfold Zcg Zc8
   refine ZbY fun h22 c22 e22 z22=>?_
   exact rest h22 e22
theorem ZgY {right:Value} {rt:Rt} (hrt:ZxG right rt):∀ (m:Nat) (v:JV),v.sub.hei≤m→ZtC (YU (m+1)) right rt v
  | 0,v,hm=>Zkq (f53:=YU 0) hrt fun i k t ns s r hd=>by
    have:=JL.drop_hei i v.sub hd
    omega
  | m+1,v,hm=>Zkq (f53:=YU (m+1)) hrt fun i k t ns s r hd=>ZgY hrt m ⟨k,t,ns,s⟩ (by have:=JL.drop_hei i v.sub hd;show s.hei≤m;omega)
def Zbu (v:JV):Bool:=(ZcS whB 0 v 0 0).1&&decide ((ZcS whB 0 v 0 0).2.2≤64)
theorem Zf3 {h:Ze} {z:VT5} {v:JV} {S:Nat→Prop} {K:Bool→HP} (hv:Zbo h S z v) (hS:∀ j,S j→j<sz h) (hfit:Zp5 v) (ht:ZbA h) (hh:9≤sz h) (hk:∀ h',Ext h h'→K (Zbu v) h'):XO z K h:=by
  unfold XO Zem
  have hs:sz h=h.size:=rfl
  refine ZbY fun h1 c1 e1 z1=>ZbY fun h3 c3 e3 z3=>?_
  have s1:sz h1=h1.size:=rfl
  have c1':obj h3 h.size=some (.cells (XX z).toArray 33 (0,0)):=Y2 c1 e3
  have e03:=e1.trans e3
  refine rI (Zr c1' rfl) (rS (Zr c1' rfl) (rL (s:=z.2.2.1) (Zr c1' rfl) (rL (s:=z.2.2.2.1) (Zr c1' rfl) ?_)))
  refine ⟨v.sub.hei+1,ZgY (rt:=whB) (.inl ⟨rfl,rfl⟩) _ v (Nat.le_refl _) (n:=0) (dp:=0) (d:=0) (z:=z) (hv.ext hS e03) (fun j hj=>⟨Nat.lt_of_lt_of_le (hS j hj) e03.size,by have:=hS j hj;omega⟩) hfit (ht.ext e03) (by omega) c3 (by omega) (by omega) (by omega) fun h8 hC8 u8=>?_⟩
  have key:=hk h8 (e03.updS u8 fun j hj=>by omega)
  unfold Zbu at key
  cases hw:(ZcS whB 0 v 0 0).1 with
  | false=>rw [hw] at key;exact Zl rfl key
  | true =>
    rw [hw,Bool.true_and] at key
    refine Zn rfl (rI (Zr hC8 rfl) (Zd ?_))
    rw [show decide ((((ZcS whB 0 v 0 0).2.2:Nat):Int)≤64)=decide ((ZcS whB 0 v 0 0).2.2≤64) by rw [decide_eq_decide];omega]
    exact key
end Go.Proofs.YtpjbjdheeemdiaaGreatDoor
namespace Go.Js
open Go
def okN:JL→Prop
  | .nil=>True
  | .cons k _ ns sub rest=>(k=7→ns.length=sub.len)∧okN sub∧okN rest
def WR (out p out':BL):Prop:=out'=out++p∨(65536<out'.length∧65536<(out++p).length)
theorem WR.trans {a p b q c:BL} (h:WR a p b) (h':WR b q c) (hl:b.length≤c.length):WR a (p++q) c:=by
  rcases h with rfl | ⟨h1,h2⟩
  ·rcases h' with rfl | ⟨h3,h4⟩
   ·left;rw [List.append_assoc]
   ·right;exact ⟨h3,by rw [← List.append_assoc];exact h4⟩
  ·right
   refine ⟨by omega,?_⟩
   simp only [List.length_append] at h2 ⊢
   omega
theorem WR.refl (a:BL):WR a [] a:= .inl (by simp)
theorem ZmO:∀ (n:Nat) {l:JL} {k:Nat} {t:BL} {ns:List BL} {s r:JL},okN l→l.drop n = .cons k t ns s r→(k=7→ns.length=s.len)∧okN s
  | 0,l,k,t,ns,s,r,h,e=>by
    rw [show l=_ from e] at h
    exact ⟨h.1,h.2.1⟩
  | n+1,.nil,_,_,_,_,_,_,e=>by cases e
  | n+1,.cons _ _ _ _ r',_,_,_,_,_,h,e=>ZmO n h.2.2 e
end Go.Js
namespace Go.Proofs.YtpjbjdheeemdiaaGreatDoor
open Go Go.Fw Go.Js
abbrev ctl:BL:=[8,12,10,13,9]
theorem Ztq:∀ c:UInt8,c≠34→c≠92→0≤Lib.indexByte ctl c→((⟨#[98,102,110,114,116]⟩:ByteArray)[(Lib.indexByte ctl c).toNat]?).map (fun m=>([92,m]:BL))=some (Zc2 c):=ZtQ (by decide +kernel)
theorem Ztp:∀ c:UInt8,c≠34→c≠92→Lib.indexByte ctl c<0→c.toNat<32→Zc2 c=[92,117,48,48,ZpX (c.toNat / 16),ZpX (c.toNat % 16)]:=ZtQ (by decide +kernel)
theorem ZrM:∀ c:UInt8,c≠34→c≠92→Lib.indexByte ctl c<0→¬ c.toNat<32→Zc2 c=[c]:=ZtQ (by decide +kernel)
abbrev Zw5:ByteArray:=⟨#[48,49,50,51,52,53,54,55,56,57,97,98,99,100,101,102]⟩
theorem Zsw:∀ n:Fin 16,Zw5[n.val]?=some (ZpX n.val):=by decide +kernel
theorem Zsm:∀ b:Fin 256,Zh5 .u8 ((b.val:Nat):Int) 4=((b.val / 16:Nat):Int):=by decide +kernel
theorem Zsl:∀ b:Fin 256,Zh1 .u8 ((b.val:Nat):Int) 15=((b.val % 16:Nat):Int):=by decide +kernel
theorem Buf.app2 {h:Ze} {base:Nat} {x:Sl} {l new:BL} {n:Nat} {cells:List Value} {K:Sl→Ze→Prop} (hb:Buf h base x l) (hbase:base≤sz h) (hn:n=new.length) (hc:cells=new.map bv) (hs:l.length+new.length≤1000000000)
    (hk:∀ x' h',Buf h' base x' (l++new)→Upd (fun k=>x.blk=some k) h h'→(∀ j,x'.blk=some j→x.blk=some j∨sz h≤j)→sz h≤sz h'→K x' h'):Fw.app 5 1 1 [.int .u8 0] x n cells h K:=by
  subst hn hc
  have hlen:=hb.len
  have hcap:=hb.cap
  refine ⟨fun hroom=>?_,fun hgt=>⟨by omega,by omega,?_⟩⟩
  ·rcases hb.at_ with ⟨hp,h0⟩ | ⟨b,c,hp,hbb,hblk,hcl,hv,hne⟩
   ·left
    have hl0:new=[]:=List.eq_nil_of_length_eq_zero (by omega)
    subst hl0
    refine ⟨rfl,?_⟩
    have:l=[]:=List.eq_nil_of_length_eq_zero (by omega)
    subst this
    refine hk _ _ ⟨?_,hroom,hb.big,.inl ⟨hp,h0⟩⟩ (Upd.refl _ _) (fun j hj=> .inl hj) (Nat.le_refl _)
    simpa using hlen
   ·right
    refine ⟨b,0,hp,ZeK hblk (by simp [hcl];omega),ZkP new,?_⟩
    have hp1:=ZkR (o:=0+x.len*1) (vs:=new.map bv) hblk
    refine hk _ _ ⟨by simp [hlen],hroom,hb.big,.inr ⟨b,_,hp,hbb,hp1,by rw [Zc0];exact hcl,?_,by simp [hne]⟩⟩ ((Upd.puts h b _ _).mono fun k _ hk=>by subst hk;simp [Sl.blk,hp]) (fun j hj=> .inl hj) (by rw [Zd2];exact Nat.le_refl _)
    have:=Zeg (new.map bv) (0+x.len*1) c (by simp [hcl];omega)
    simp only [List.length_map] at this
    rw [List.map_append,hv]
    simpa using this.symm
  ·have hrow:rdS x 1 h fun old=>old=l.map bv:=by
     rcases hb.at_ with ⟨hp,h0⟩ | ⟨b,c,hp,hbb,hblk,hcl,hv,_⟩
     ·have:l=[]:=List.eq_nil_of_length_eq_zero (by omega)
      subst this
      exact .inl ⟨by simpa using hlen,rfl⟩
     ·refine .inr ⟨b,0,l.map bv,hp,by simp [hlen],Zeh hblk fun i v hi=>?_,rfl⟩
      rw [hv,List.getElem?_take] at hi
      split at hi
      ·simpa using hi
      ·cases hi
   have next:∀ cap,x.len+new.length≤cap→cap<9223372036854775808→K ⟨some ⟨h.size,0,none⟩,x.len+new.length,cap⟩ (h.push (.cells (l.map bv++new.map bv++X1 [.int .u8 0] (cap - (x.len+new.length))).toArray 5)):=fun cap h1 h2=>by
     refine hk _ _ ⟨by simp [hlen],h1,h2,.inr ⟨h.size,_,rfl,hbase,Zfx,?_,?_,fun h9=>by have h8:=congrArg List.length h9;rw [List.length_append,List.length_nil] at h8;omega⟩⟩ ((Ext.push h _).upd _) (fun j hj=> .inr (by simp [Sl.blk] at hj;subst hj;exact Nat.le_refl _)) (by rw [ZoX];omega)
     ·simp only [List.length_append,List.length_map,Zc5,List.length_singleton];omega
     ·rw [List.map_append,List.take_append_of_le_length (by simp [hlen]),List.take_of_length_le (by simp [hlen])]
   rcases hrow with ⟨a,b⟩ | ⟨b,o,vs,a1,a2,a3,a4⟩
   ·refine .inl ⟨a,?_⟩
    have:l=[]:=by cases l with | nil=>rfl | cons c l=>cases b
    subst this
    exact next
   ·exact .inr ⟨b,o,vs,a1,a2,a3,by rw [a4];exact next⟩
def Zox (h:Ze) (B j:Nat):Prop:=j=B∨∃ (c:Value) (x:Sl) (T:TypeId),obj h B=some (.cells [c,slV x].toArray T (0,0))∧x.blk=some j
structure BU (B:Nat) (h h':Ze):Prop where
  upd:Upd (Zox h B) h h'
  foot:∀ j,Zox h' B j→Zox h B j∨sz h≤j
theorem BU.refl (B:Nat) (h:Ze):BU B h h:=⟨Upd.refl _ _,fun j hj=> .inl hj⟩
theorem BU.trans {B:Nat} {a b c:Ze} (u:BU B a b) (u':BU B b c):BU B a c:=by
  have h1:=Zbq u.upd
  refine ⟨⟨Nat.le_trans u.upd.size u'.upd.size,fun k hk hn=>(u'.upd.old k (Nat.lt_of_lt_of_le hk u.upd.size) fun h9=>?_).trans (u.upd.old k hk hn)⟩,fun j hj=>?_⟩
  ·rcases u.foot k h9 with h8 | h8
   ·exact hn h8
   ·have:sz a=a.size:=rfl;omega
  ·rcases u'.foot j hj with h9 | h9
   ·exact u.foot j h9
   ·right;omega
theorem ZsS {x y:Sl} (h:slV x=slV y):x=y:=by
  rw [ZuO] at h;exact h
theorem Zfe {h:Ze} {B:Nat} {c:Value} {x:Sl} {T:TypeId} (hb:obj h B=some (.cells [c,slV x].toArray T (0,0))) {j:Nat}:Zox h B j↔j=B∨x.blk=some j:=by
  constructor
  ·rintro (h1 | ⟨c',x',T',h2,h3⟩)
   ·exact .inl h1
   ·rw [hb] at h2
    have e:[c,slV x]=[c',slV x']:=by
      have:=Option.some.inj h2
      injection this with e1 _ _
      simpa using e1
    simp only [List.cons.injEq,and_true] at e
    rw [ZsS e.2]
    exact .inr h3
  ·rintro (h1 | h1)
   ·exact .inl h1
   ·exact .inr ⟨c,x,T,hb,h1⟩
theorem Ext.bu {B:Nat} {h h':Ze} (e:Ext h h') (hB:B<sz h):BU B h h':=by
  refine ⟨e.upd _,fun j hj=>?_⟩
  rcases hj with h1 | ⟨c,x,T,h2,h3⟩
  ·exact .inl (.inl h1)
  ·rw [YB e hB] at h2
   exact .inl (.inr ⟨c,x,T,h2,h3⟩)
theorem BU.keep {B:Nat} {h h':Ze} (u:BU B h h') {b:Nat} {x:Obj} (hb:obj h b=some x) (hn:¬ Zox h B b):obj h' b=some x∧¬ Zox h' B b:=by
  refine ⟨Yx hb u.upd hn,fun h9=>?_⟩
  rcases u.foot b h9 with h8 | h8
  ·exact hn h8
  ·have:=ZbI hb;omega
theorem Zje {h:Ze} {B:Nat} {T:TypeId} {out:BL} (hb:Bld h B T out) {K:HP} (hk:∀ h' x,ZvP T→BU B h h'→obj h' B=some (.cells [.pointer (At B),slV x].toArray T (0,0))→Buf h' (B+1) x out→B<sz h'→K h'):ZK (At B) K h:=by
  have hlt:=hb.lt
  obtain ⟨hT,c,x,b,hc,hx⟩:=hb
  refine ⟨B,c,slV x,T,rfl,b,hT,?_⟩
  rcases hc with rfl | rfl
  ·left
   refine ⟨rfl,?_⟩
   have hp:obj (h.put B 0 (.pointer (some ⟨B,0,none⟩))) B=some (.cells [.pointer (At B),slV x].toArray T (0,0)):=by rw [Zhs,if_pos rfl,b,Zee];rfl
   have hbuf:Buf (h.put B 0 (.pointer (some ⟨B,0,none⟩))) (B+1) x out:=hx.congr fun k hk hl=>by rw [Zhs,if_neg (by have:=(hx.lt hk).1;omega)]
   refine hk _ x hT ⟨(Upd.put h B 0 _).mono fun k _ hk=>by subst hk;exact .inl rfl,fun j hj=> .inl ?_⟩ hp hbuf (by rw [Zsd];exact hlt)
   exact (Zfe b).2 ((Zfe hp).1 hj)
  ·exact .inr ⟨rfl,hk h x hT (BU.refl _ _) b hx hlt⟩
theorem Znk {h:Ze} {B:Nat} {T:TypeId} {out new:BL} {x:Sl} {n:Nat} {cells:List Value} (hT:ZvP T) (hb:obj h B=some (.cells [.pointer (At B),slV x].toArray T (0,0))) (hx:Buf h (B+1) x out) (hn:n=new.length) (hc:cells=new.map bv) (hs:out.length+new.length≤1000000000) {K:HP}
    (hk:∀ h',Bld h' B T (out++new)→BU B h h'→K h'):Fw.app 5 1 1 [.int .u8 0] x n cells h fun t5 h6=>Zb (At B) fun b7 o8=>st h6 b7 (o8+1) (.slice t5.ptr t5.len t5.cap) K:=by
  have hlt:=ZbI hb
  refine hx.app2 (by omega) hn hc hs fun x' h6 hx6 u6 f6 z6=>?_
  have hb6:obj h6 B=some (.cells [.pointer (At B),slV x].toArray T (0,0)):=Yx hb u6 fun e=>by have:=(hx.lt e).1;omega
  refine ZX (Zkm hb6 (by simp) Zhq fun h9 c9 u9 z9=>?_)
  have c9':obj h9 B=some (.cells [.pointer (At B),slV x'].toArray T (0,0)):=c9
  have hbf:Buf h9 (B+1) x' (out++new):=hx6.congr fun k hk hl=>ZY u9 hl (by have:=(hx6.lt hk).1;omega)
  refine hk h9 ⟨hT,_,x',c9',.inr rfl,hbf⟩ ⟨⟨by have:=u6.size;have:=u9.size;omega,fun j hj hn=>?_⟩,fun j hj=>?_⟩
  ·have n1:¬ x.blk=some j:=fun e=>hn ((Zfe hb).2 (.inr e))
   have n2:¬ j=B:=fun e=>hn ((Zfe hb).2 (.inl e))
   have hs0:sz h=h.size:=rfl
   exact (ZY u9 (by omega) n2).trans (ZY u6 hj n1)
  ·rcases (Zfe c9').1 hj with h9 | h9
   ·exact .inl (.inl h9)
   ·rcases f6 j h9 with h8 | h8
    ·exact .inl ((Zfe hb).2 (.inr h8))
    ·exact .inr h8
theorem Zb4 {h:Ze} {B:Nat} {T:TypeId} {out:BL} (hb:Bld h B T out) {c:UInt8} {n:Int} (hn:n=c.toNat) (hs:out.length<900000000) {K:Value→HP} (hk:∀ h',Bld h' B T (out++[c])→BU B h h'→K .nilIface h'):Zz (At B) n K h:=by
  subst hn
  unfold Zz YJ
  refine Zje hb fun h1 x hT u1 c1 hx l1=>ZX (rL (Zr c1 rfl) ?_)
  refine Zu2 [c] 1 rfl rfl (by decide) fun b3 h4 hr e4 _=>hr.rd ?_
  have hx4:=hx.congr (h':=h4) fun k hk hl=>YB e4 hl
  exact Znk hT (Y2 c1 e4) hx4 (new:=[c]) rfl rfl (by simp;omega) fun h9 b9 u9=>hk h9 b9 (u1.trans ((Ext.bu e4 l1).trans u9))
theorem ZoB {h:Ze} {B:Nat} {T:TypeId} {out:BL} (hb:Bld h B T out) {s:ByteArray} (hs:out.length+s.size<900000000) {K:Int→Value→HP} (hk:∀ h',Bld h' B T (out++s.data.toList)→BU B h h'→K s.size .nilIface h'):Zx (At B) s K h:=by
  unfold Zx Yz
  refine Za (Zje hb fun h1 x hT u1 c1 hx l1=>ZX (rL (Zr c1 rfl) ?_))
  exact Znk hT c1 hx (new:=s.data.toList) (by simp) rfl (by simp;omega) fun h9 b9 u9=>Za (hk h9 b9 (u1.trans u9))
section
variable {h:Ze} {B:Nat} {T:TypeId} {out:BL}
theorem ZmY (hb:Bld h B T out) {K:Int→HP} (hk:K out.length h):Ys (At B) K h:=by
  unfold Ys Zax
  obtain ⟨hT,c,x,b,hc,hx⟩:=hb
  refine Za (ZX (rL (s:=x) (Zr b rfl) (Za ?_)))
  rw [hx.len];exact hk
theorem ZrN (c:UInt8):(Zc2 c).length≤6:=by
  have:∀ b:Fin 256,(Zc2 ⟨⟨b⟩⟩).length≤6:=by decide +kernel
  rcases c with ⟨⟨b⟩⟩
  exact this b
theorem Zir (hb:Bld h B T out) {t:BL} (hs:out.length+(ZdM t).length<800000000) {K:HP} (hk:∀ h',Bld h' B T (out++ZdM t)→BU B h h'→K h'):XM (At B) (Zc t) K h:=by
  unfold XM ZbP
  have hq:(ZdM t).length=(t.flatMap Zc2).length+2:=by simp [ZdM]
  have e_len:∀ c:UInt8,1≤(Zc2 c).length:=fun c=>by
    have:∀ b:Fin 256,1≤(Zc2 ⟨⟨b⟩⟩).length:=by decide +kernel
    rcases c with ⟨⟨b⟩⟩
    exact this b
  have tl:∀ t:BL,t.length≤(t.flatMap Zc2).length:=fun t=>by
    induction t with
    | nil=>simp
    | cons c t ih=>have:=e_len c;simp only [List.flatMap_cons,List.length_append,List.length_cons];omega
  have htl:=tl t
  refine ZX (Zb4 (c:=34) hb rfl (by omega) fun h1 b1 u1=>?_)
  refine ZB (fun p h'=>∃ i:Nat,p.1=i∧i≤t.length∧Bld h' B T (out++34::(t.take i).flatMap Zc2)∧BU B h h') (fun p _=>(t.length - p.1).toNat) ⟨0,rfl,Nat.zero_le _,by simpa using b1,u1⟩ ?_
  rintro ⟨i0,u⟩ h2 ⟨i,hi,hle,b2,u2⟩
  dsimp only at hi ⊢
  subst hi
  have pl:((t.take i).flatMap Zc2).length≤(t.flatMap Zc2).length:=by
    conv=>rhs;rw [← List.take_append_drop i t]
    rw [List.flatMap_append,List.length_append];omega
  refine Zi (fun hlt=>Za ?_) fun hge=>?_
  ·have hia:i<t.length:=by rw [Yk] at hlt;omega
   have hx:(Zc t)[(i:Int).toNat]?=some t[i]:=by
     rw [Int.toNat_natCast,getElem?_pos (Zc t) i (by rw [Yk];exact hia)]
     simp [Zc]
     rfl
   refine ⟨t[i],by omega,hx,Za ?_⟩
   have hstep:(t.take (i+1)).flatMap Zc2=(t.take i).flatMap Zc2++Zc2 t[i]:=by
     rw [List.take_add_one,List.getElem?_eq_getElem hia,List.flatMap_append];simp
   have pl1:((t.take (i+1)).flatMap Zc2).length≤(t.flatMap Zc2).length:=by
     conv=>rhs;rw [← List.take_append_drop (i+1) t]
     rw [List.flatMap_append,List.length_append];omega
   rw [hstep,List.length_append] at pl1
   generalize hc:t[i]=c at hstep pl1
   have h6:=ZrN c
   have done:∀ {h':Ze},Bld h' B T ((out++34::(t.take i).flatMap Zc2)++Zc2 c)→BU B h2 h'→(∃ i_1:Nat,IntKind.wrap .i64 ((i:Int)+1)=i_1∧i_1≤t.length∧Bld h' B T (out++34::(t.take i_1).flatMap Zc2)∧BU B h h')∧(t.length - IntKind.wrap .i64 ((i:Int)+1)).toNat<(t.length - (i:Int)).toNat:=fun {h'} b' u'=>by
     rw [ZG (by omega) (by omega)]
     refine ⟨⟨i+1,rfl,by omega,?_,u2.trans u'⟩,by omega⟩
     rw [hstep]
     simpa using b'
   have sz2:(out++34::(t.take i).flatMap Zc2).length+10<900000000:=by rw [List.length_append,List.length_cons];omega
   refine ZhE ?_
   rw [toU]
   show Zk (Lib.indexByte ctl c) _
   refine Za ?_
   refine Zm (fun p h'=>h'=h2∧(p.1=true↔c=34∨c=92)) ?_ ?_
   ·rintro ⟨b,u⟩ h3 ⟨rfl,hb3⟩
    dsimp only at hb3 ⊢
    cases hbb:b with
    | true =>
      have he:Zc2 c=[92,c]:=by unfold Zc2;rw [if_pos (hb3.1 hbb)]
      refine Zn rfl (ZX (Zb4 (c:=92) b2 rfl (by omega) fun h4 b4 u4=>ZX (Zb4 (c:=c) b4 rfl (by simp at sz2 ⊢;omega) fun h5 b5 u5=>done ?_ (u4.trans u5))))
      rw [he]
      simpa using b5
    | false =>
      have hn:¬ (c=34∨c=92):=fun e=>by have:=hb3.2 e;rw [hbb] at this;cases this
      have n34:c≠34:=fun e=>hn (.inl e)
      have n92:c≠92:=fun e=>hn (.inr e)
      refine Zl rfl (Zd (Zi (fun hk0=>?_) fun hk0=>Zd (Zi (fun h32=>?_) fun h32=>?_)))
      ·have key:=Ztq c n34 n92 hk0
       cases hm:(⟨#[98,102,110,114,116]⟩:ByteArray)[(Lib.indexByte ctl c).toNat]? with
       | none=>rw [hm] at key;cases key
       | some m =>
         rw [hm] at key
         have he:Zc2 c=[92,m]:=by simpa using key.symm
         refine ZX (Zb4 (c:=92) b2 rfl (by omega) fun h4 b4 u4=>ZX ⟨m,hk0,hm,Zb4 (c:=m) b4 rfl (by simp at sz2 ⊢;omega) fun h5 b5 u5=>done ?_ (u4.trans u5)⟩)
         rw [he]
         simpa using b5
      ·have he:=Ztp c n34 n92 (by omega) (by omega)
       have hi16:Zw5[(Zh5 .u8 (c.toNat:Int) 4).toNat]?=some (ZpX (c.toNat / 16)):=by
         rw [Zsm ⟨c.toNat,c.toNat_lt⟩,Int.toNat_natCast]
         exact Zsw ⟨c.toNat / 16,by omega⟩
       have lo16:Zw5[(Zh1 .u8 (c.toNat:Int) 15).toNat]?=some (ZpX (c.toNat % 16)):=by
         rw [Zsl ⟨c.toNat,c.toNat_lt⟩,Int.toNat_natCast]
         exact Zsw ⟨c.toNat % 16,by omega⟩
       have p1:0≤Zh5 .u8 (c.toNat:Int) 4:=by rw [Zsm ⟨c.toNat,c.toNat_lt⟩];omega
       have p2:0≤Zh1 .u8 (c.toNat:Int) 15:=by rw [Zsl ⟨c.toNat,c.toNat_lt⟩];omega
       refine ZX (ZoB b2 (s:=Zc [92,117,48,48]) (by rw [Yk];simp at sz2 ⊢;omega) fun h4 b4 u4=>ZX ⟨by decide,_,p1,hi16,?_⟩)
       refine Zb4 b4 rfl (by simp at sz2 ⊢;omega) fun h5 b5 u5=>ZX ⟨_,p2,lo16,?_⟩
       refine Zb4 b5 rfl (by simp at sz2 ⊢;omega) fun h6 b6 u6=>done ?_ ((u4.trans u5).trans u6)
       rw [he]
       simpa using b6
      ·have he:=ZrM c n34 n92 (by omega) (by omega)
       refine ZX (Zb4 (c:=c) b2 rfl (by omega) fun h4 b4 u4=>done ?_ u4)
       rw [he];exact b4
   ·refine Zty 34 rfl (fun e=>⟨rfl,by simp [e]⟩) fun n34=>Zd ⟨rfl,?_⟩
    simp only [n34,false_or]
    constructor
    ·intro hb;exact Za1 (d:=92) (beq_iff_eq.1 hb)
    ·rintro rfl;rfl
  ·have hil:i=t.length:=by rw [Yk] at hge;omega
   subst hil
   rw [List.take_length] at b2
   refine ZX (Zb4 (c:=34) b2 rfl (by rw [List.length_append,List.length_cons];omega) fun h3 b3 u3=>hk h3 ?_ (u2.trans u3))
   simpa [ZdM] using b3
end
def Zqz (f60:Zmr) (v:JV):Prop:=∀ {h:Ze} {B:Nat} {out:BL} {z:VT5} {S:Nat→Prop} {K:HP},Zbo h S z v→(∀ j,S j→j<B)→Bld h B 190 out→(v.k=7→v.ns.length=v.sub.len)→okN v.sub→out.length+(Za4 v).length<800000000 →
  (∀ h' out',Bld h' B 190 out'→WR out (Za4 v) out'→out.length≤out'.length→out'.length≤out.length+(Za4 v).length→BU B h h'→K h')→f60 (At B) z K h
theorem ZlN {ob:Bool} {first:Bool} {ns:List BL} {k:Nat} {t:BL} {ns':List BL} {sub rest:JL}:Z9 ob first ns (.cons k t ns' sub rest)=Zlp first++nmB ob ns++Za4 ⟨k,t,ns',sub⟩++Z9 ob false ns.tail rest:=rfl
theorem ZhL {h:Ze} {B:Nat} {T:TypeId} {out:BL} (hb:Bld h B T out) {j:Nat} (hj:Zox h B j):B≤j∧j<sz h:=by
  have hlt:=hb.lt
  obtain ⟨hT,c,x,b,hc,hx⟩:=hb
  rcases (Zfe b).1 hj with h9 | h9
  ·omega
  ·have:=hx.lt h9;omega
theorem Zm7 {h h':Ze} {B:Nat} {T:TypeId} {out:BL} (hb:Bld h B T out) (e:Ext h h') {j:Nat} (hj:Zox h' B j):Zox h B j:=by
  rcases hj with h9 | ⟨c,x,T',h9,h8⟩
  ·exact .inl h9
  ·rw [YB e hb.lt] at h9
   exact .inr ⟨c,x,T',h9,h8⟩
theorem ZgT {f60:Zmr} {v:JV} (hsub:∀ i k t ns s r,v.sub.drop i = .cons k t ns s r→Zqz f60 ⟨k,t,ns,s⟩):Zqz (Zaa f60) v:=by
  intro h B out z S K hv hS hb hns7 hok hlen hk
  unfold Zaa Zbj
  have hBs:=hb.lt
  have hs:sz h=h.size:=rfl
  refine ZbY fun h1 c1 e1 z1=>ZX ?_
  have c1':obj h1 h.size=some (.cells (XX z).toArray 33 (0,0)):=c1
  have b1:Bld h1 B 190 out:=hb.congr fun j _ hl=>YB e1 hl
  have u01:BU B h h1:=Ext.bu e1 hBs
  have f1:¬ Zox h1 B h.size:=fun h9=>by
    rcases h9 with h8 | ⟨c,x,T,h8,h7⟩
    ·omega
    ·rw [YB e1 hBs] at h8
     have:=(ZhL hb (.inr ⟨c,x,T,h8,h7⟩)).2
     omega
  refine ZmY b1 (Zi (fun hbig=>?_) fun hsmall=>?_)
  ·refine hk h1 out b1 (.inr ⟨by omega,by simp;omega⟩) (Nat.le_refl _) (by omega) u01
  have e_:∀ {n:Nat} {A B:Prop},(v.k=n→A)→(v.k≠n→B)→ZF (z.1 ==(n:Int)) fun t=>Zp t A B:=fun {n A B} ha hb=>by
    rw [hv.1]
    exact Zd (Yj (fun e=>ha (by omega)) fun e=>hb (by omega))
  have hp:Za4 v=prV v.k v.t (Z9 (decide (v.k=7)) true v.ns v.sub):=rfl
  have write:∀ {w:ByteArray} {wl:BL} {Kw:Int→Value→HP},w.data.toList=wl→Za4 v=wl→(∀ i e h',Kw i e h'=K h')→Zx (At B) w Kw h1:=fun {w wl Kw} hw hpw hK =>
    ZoB b1 (by have:w.size=wl.length:=by rw [← hw];simp
               rw [← hpw] at this;omega) fun h' b' u'=>by
     rw [hK]
     rw [hw,← hpw] at b'
     exact hk h' _ b' (.inl rfl) (by simp) (by simp) (u01.trans u')
  refine rI (Zr c1' rfl) (e_ (n:=1) (fun e=>ZX (write (wl:=[110,117,108,108]) rfl (by rw [hp,e];rfl) fun _ _ _=>rfl)) fun n1=>e_ (n:=2) (fun e=>ZX (write (wl:=[102,97,108,115,101]) rfl (by rw [hp,e];rfl) fun _ _ _=>rfl)) fun n2 =>
    e_ (n:=3) (fun e=>ZX (write (wl:=[116,114,117,101]) rfl (by rw [hp,e];rfl) fun _ _ _=>rfl)) fun n3=>e_ (n:=4) (fun e=>ZX (rS (Zr c1' rfl) (write (wl:=v.t) (by rw [hv.2.1]) (by rw [hp,e];rfl) fun _ _ _=>rfl))) fun n4=>e_ (n:=5) (fun e=>?_) fun n5=>?_)
  ·refine rS (Zr c1' rfl) ?_
   rw [hv.2.1]
   have hpq:Za4 v=ZdM v.t:=by rw [hp,e];rfl
   rw [hpq] at hlen hk
   exact Zir b1 hlen fun h' b' u'=>hk h' _ b' (.inl rfl) (by simp) (by simp) (u01.trans u')
  ·
   have hpl:Za4 v=(if v.k=7 then 123 else 91)::(Z9 (decide (v.k=7)) true v.ns v.sub++[if v.k=7 then 125 else 93]):=by
     rw [hp]
     unfold prV
     rw [if_neg n1,if_neg n2,if_neg n3,if_neg n4,if_neg n5]
     split<;>rfl
   have hll:(Za4 v).length=(Z9 (decide (v.k=7)) true v.ns v.sub).length+2:=by rw [hpl];simp
   generalize hop:(if v.k=7 then 123 else 91:UInt8)=op at hpl
   generalize hcl:(if v.k=7 then 125 else 93:UInt8)=cl at hpl
   refine Zm (fun p h'=>h'=h1∧p.1=Zc [op,cl]) ?_ ?_
   ·rintro ⟨ends,u⟩ h2 ⟨rfl,hends⟩
    dsimp only at hends ⊢
    subst hends
    refine ZX ⟨op,by omega,rfl,?_⟩
    refine Zb4 b1 rfl (by omega) fun h3 b3 u3=>?_
    obtain ⟨c3,f3⟩:=u3.keep c1' f1
    refine rL (s:=z.2.2.1) (Zr c3 rfl) ?_
    obtain ⟨a1,a2,a3,a4,cx,a5,a6,a7⟩:=id hv
    have hlx:z.2.2.1.len=v.sub.len:=by have:=a5.len;have:=a7.len;omega
    have hbig:=a5.big
    have hcap:=a5.cap
    have keepS:∀ {a:Ze},BU B h a→∀ j,S j→j<sz h→obj a j=obj h j:=fun u j hj hl=>ZY u.upd hl fun h9=>by have:=(ZhL hb h9).1;have:=hS j hj;omega
    refine ZB (fun p h'=>∃ (i:Nat) (q o':BL),p.1=i∧i≤v.sub.len∧Bld h' B 190 o'∧WR (out++[op]) q o'∧(out++[op]).length≤o'.length∧o'.length≤(out++[op]).length+q.length∧BU B h3 h' ∧
        Z9 (decide (v.k=7)) true v.ns v.sub=q++Z9 (decide (v.k=7)) (decide (i=0)) (v.ns.drop i) (v.sub.drop i)) (fun p _=>(v.sub.len - p.1).toNat)
      ⟨0,[],out++[op],rfl,Nat.zero_le _,b3,WR.refl _,Nat.le_refl _,by simp,BU.refl _ _,rfl⟩ ?_
    rintro ⟨i0,u⟩ h4 ⟨i,q,o',hi,hle,b4,w4,l4,l4',u4,q4⟩
    dsimp only at hi ⊢
    subst hi
    obtain ⟨c4,f4⟩:=u4.keep c3 f3
    have u04:=u01.trans (u3.trans u4)
    refine Zi (fun hlt=>?_) fun hge=>?_
    ·have hia:i<v.sub.len:=by omega
     obtain ⟨k,t,ns,s,r,hd⟩:=JL.drop_cons hia
     have hpd:=ZlN (ob:=decide (v.k=7)) (first:=decide (i=0)) (ns:=v.ns.drop i) (k:=k) (t:=t) (ns':=ns) (sub:=s) (rest:=r)
     rw [hd,hpd] at q4
     have hqlen:=congrArg List.length q4
     simp only [List.length_append] at hqlen
     have ra:Row h4 z.2.2.1 4 cx:=ZaK a5 a6 (keepS u04)
     have la:Za7 h4 S v.sub cx:=a7.keep (keepS u04) fun j hj=>hj
     refine Zhy ra la hd rfl fun zi hzi=>?_
     refine ZbY fun h5 c5 e5 z5=>Za ?_
     have c5':obj h5 h4.size=some (.cells zV.toArray 33 (0,0)):=c5
     have hs4:sz h4=h4.size:=rfl
     have B4:=b4.lt
     refine Zly c5' (by simp) (Zb5 zi) fun h6 c6 u6 z6=>?_
     have c6':obj h6 h4.size=some (.cells (XX zi).toArray 33 (0,0)):=c6
     have e46:Ext h4 h6:=e5.updS u6 fun j hj=>by omega
     have b6:Bld h6 B 190 o':=b4.congr fun j _ hl=>YB e46 hl
     have ft6:¬ Zox h6 B h4.size:=fun h9=>by have:=(ZhL b4 (Zm7 b4 e46 h9)).2;omega
     have fv6:¬ Zox h6 B h.size:=fun h9=>f4 (Zm7 b4 e46 h9)
     have cv6:obj h6 h.size=some (.cells (XX z).toArray 33 (0,0)):=Y2 c4 e46
     have u06:=u04.trans (Ext.bu e46 B4)
     have hqs:∀ (x:BL),(out++[op]).length+(q++x).length=out.length+1+q.length+x.length:=fun x=>by simp;omega
     refine Zm (fun _ h'=>∃ o7,Bld h' B 190 o7∧WR (out++[op]) (q++Zlp (decide (i=0))) o7∧(out++[op]).length≤o7.length∧o7.length≤(out++[op]).length+(q++Zlp (decide (i=0))).length∧BU B h6 h') ?_ ?_
     ·rintro ⟨⟩ h7 ⟨o7,b7,w7,l7,l7',u7⟩
      obtain ⟨cv7,fv7⟩:=u7.keep cv6 fv6
      obtain ⟨ct7,ft7⟩:=u7.keep c6' ft6
      have u07:=u06.trans u7
      refine Zm (fun _ h'=>∃ o8,Bld h' B 190 o8∧WR (out++[op]) (q++Zlp (decide (i=0))++nmB (decide (v.k=7)) (v.ns.drop i)) o8∧(out++[op]).length≤o8.length∧o8.length≤(out++[op]).length+(q++Zlp (decide (i=0))++nmB (decide (v.k=7)) (v.ns.drop i)).length∧BU B h7 h') ?_ ?_
      ·rintro ⟨⟩ h8 ⟨o8,b8,w8,l8,l8',u8⟩
       obtain ⟨ct8,ft8⟩:=u8.keep ct7 ft7
       have u08:=u07.trans u8
       refine rI (Zr ct8 rfl) (rS (Zr ct8 rfl) (rL (s:=zi.2.2.1) (Zr ct8 rfl) (rL (s:=zi.2.2.2.1) (Zr ct8 rfl) ?_)))
       have hokd:=ZmO i hok hd
       refine hsub i k t ns s r hd (S:=S) (hzi.keep (fun j hj hl=>?_) fun j hj=>hj) hS b8 hokd.1 hokd.2 (by simp only [List.length_append,List.length_singleton] at l8' ⊢;omega) fun h9 o9 b9 w9 l9 l9' u9=>?_
       ·have u48:=(Ext.bu e46 B4).trans (u7.trans u8)
        exact ZY u48.upd hl fun h9=>by have:=(ZhL b4 h9).1;have:=hS j hj;omega
       ·rw [ZG (by omega) (by omega)]
        refine ⟨⟨i+1,q++Zlp (decide (i=0))++nmB (decide (v.k=7)) (v.ns.drop i)++Za4 ⟨k,t,ns,s⟩,o9,rfl,by omega,b9,WR.trans w8 w9 l9,by omega,?_,(Ext.bu e46 B4 |> u4.trans).trans ((u7.trans u8).trans u9),?_⟩,by omega⟩
        ·simp only [List.length_append,List.length_singleton] at l8' l9' ⊢;omega
        ·rw [q4,JL.drop_succ i _ hd]
         simp
      ·refine rI (Zr cv7 rfl) ?_
       rw [hv.1]
       refine Yj (fun e7=>?_) fun e7=>?_
       ·have k7:v.k=7:=by omega
        have hnl:=hns7 k7
        have hin:i<v.ns.length:=by omega
        refine rL (s:=z.2.2.2.1) (Zr cv7 rfl) (ZlX (ZaK a3 a4 (keepS u07)) (List.getElem?_eq_getElem hin) rfl ?_)
        have hnm:nmB (decide (v.k=7)) (v.ns.drop i)=ZdM v.ns[i]++[58]:=by
          rw [decide_eq_true k7,List.drop_eq_getElem_cons hin];rfl
        rw [hnm] at hqlen ⊢
        simp only [List.length_append,List.length_singleton] at hqlen l7'
        refine Zir b7 (by omega) fun h8 b8 u8=>ZX (Zb4 (c:=58) b8 rfl (by simp only [List.length_append];omega) fun h9 b9 u9=>?_)
        refine ⟨_,b9,?_,?_,?_,u8.trans u9⟩
        ·have:o7++ZdM v.ns[i]++[58]=o7++(ZdM v.ns[i]++[58]):=by simp
         rw [this]
         exact WR.trans w7 (.inl rfl) (by simp)
        ·simp only [List.length_append,List.length_singleton];simp only [List.length_append,List.length_singleton] at l7;omega
        ·simp only [List.length_append,List.length_singleton];omega
       ·have hnm:nmB (decide (v.k=7)) (v.ns.drop i)=[]:=by
          rw [decide_eq_false (show ¬ v.k=7 by omega)];rfl
        rw [hnm,List.append_nil]
        exact ⟨o7,b7,w7,l7,l7',BU.refl _ _⟩
     ·refine Zi (fun hpos=>?_) fun hpos=>?_
      ·have hsep:Zlp (decide (i=0))=[44]:=by rw [decide_eq_false (show ¬ i=0 by omega)];rfl
       rw [hsep] at hqlen ⊢
       simp only [List.length_append,List.length_singleton] at l4' hqlen
       refine ZX (Zb4 (c:=44) b6 rfl (by omega) fun h7 b7 u7=>⟨_,b7,WR.trans w4 (.inl rfl) (by simp),?_,?_,u7⟩)
       ·simp only [List.length_append,List.length_singleton];simp only [List.length_append,List.length_singleton] at l4;omega
       ·simp only [List.length_append,List.length_singleton];omega
      ·have hsep:Zlp (decide (i=0))=[]:=by rw [decide_eq_true (show i=0 by omega)];rfl
       rw [hsep,List.append_nil]
       exact ⟨o',b6,w4,l4,l4',BU.refl _ _⟩
    ·have hin:i=v.sub.len:=by omega
     rw [JL.drop_nil (by omega)] at q4
     have q5:Z9 (decide (v.k=7)) true v.ns v.sub=q:=by rw [q4];simp [Z9]
     have hql:q.length=(Z9 (decide (v.k=7)) true v.ns v.sub).length:=by rw [q5]
     simp only [List.length_append,List.length_singleton] at l4 l4'
     refine ZX ⟨cl,by omega,rfl,Zb4 b4 rfl (by omega) fun h9 b9 u9=>?_⟩
     refine hk h9 _ b9 ?_ (by simp only [List.length_append];omega) (by simp only [List.length_append,List.length_singleton];omega) (u04.trans u9)
     have hpj:Za4 v=[op]++q++[cl]:=by rw [hpl,q5];simp
     rw [hpj]
     rcases w4 with e4 | ⟨g1,g2⟩
     ·left;rw [e4];simp
     ·right
      simp only [List.length_append,List.length_singleton] at g2 ⊢
      omega
   ·refine rI (Zr c1' rfl) ?_
    rw [hv.1]
    refine Yj (fun e=>⟨rfl,?_⟩) fun e=>⟨rfl,?_⟩
    ·have:v.k=7:=by omega
     rw [← hop,← hcl,if_pos this,if_pos this]
    ·have:v.k≠7:=by omega
     rw [← hop,← hcl,if_neg this,if_neg this]
end Go.Proofs.YtpjbjdheeemdiaaGreatDoor
namespace Go.Js
open Go
theorem ZhD {l:JL}:l.isNil=true↔l = .nil:=by cases l<;>simp [JL.isNil]
theorem ZkU {t:BL}:Zrp t=true↔ZcA t = .ok () []∧t.length≤65536:=by
  constructor
  ·intro h
   unfold Zrp at h
   cases hp:XE t with
   | err e k=>rw [hp] at h;cases h
   | ok v =>
     rw [hp] at h
     simp only [Bool.and_eq_true,decide_eq_true_eq] at h
     obtain ⟨hk,ht⟩:=h
     have hl:=(Ze5 hp).2.2
     refine ⟨?_,hl⟩
     rw [ZbG hl] at hp
     cases h1:Zy 64 t with
     | err e r=>rw [h1] at hp;cases hp
     | ok w r =>
       rw [h1] at hp
       simp only at hp
       split at hp
       ·cases hp
        have hv:∀ {op:Bool→BL→Out JV},(∀ b c l w r,op b (c::l) = .ok w r→w.k≠4)→ZcW op t = .ok v r→ZcA t = .ok () []:=by
          intro op hop hg
          unfold ZcW at hg
          split at hg
          ·cases hg
          ·rename_i c l1 e
           have hs:=Za8 t
           rw [e] at hs
           split at hg
           ·exact absurd hk (hop _ _ _ _ _ hg)
           split at hg
           ·exact absurd hk (hop _ _ _ _ _ hg)
           split at hg
           ·obtain ⟨_,_,_,h2⟩:=ZO hg;cases h2;cases hk
           split at hg
           ·obtain ⟨_,_,_,h2⟩:=ZO hg;cases h2;cases hk
           split at hg
           ·obtain ⟨_,_,_,h2⟩:=ZO hg;cases h2;cases hk
           split at hg
           ·obtain ⟨_,_,_,h2⟩:=ZO hg;cases h2;cases hk
           split at hg
           ·obtain ⟨_,r1,h3,h2⟩:=ZO hg
            cases h2
            simp only at ht
            have hsuf:=ZeE.sf.suf h3
            obtain ⟨x,hx⟩:=hsuf
            have hu:ZdZ (c::l1) r=x:=by rw [← hx,XI]
            rw [hu] at ht
            have hlen:=congrArg List.length hx
            rw [ht,List.length_append] at hlen
            have hr0:r=[]:=List.eq_nil_of_length_eq_zero (by omega)
            subst hr0
            rw [List.append_nil] at hx
            rw [← ht,hx];exact h3
           ·cases hg
        refine hv (op:=ZjO (Zy 63)) (fun b c l w r h9=>?_) h1
        obtain ⟨p,r9,_,h8⟩:=ZO h9
        cases h8
        cases b<;>simp
       ·cases hp
  ·rintro ⟨h1,h2⟩
   have hr:Zd8 64 ⟨4,t,[],.nil⟩:=⟨.inr (.inl ⟨rfl,h1,h2,rfl,rfl⟩),trivial,trivial⟩
   have:=ZnU (v:=⟨4,t,[],.nil⟩) hr h2
   have e:Za4 ⟨4,t,[],.nil⟩=t:=rfl
   rw [e] at this
   unfold Zrp
   rw [this];simp
theorem Zdl {k:Nat} {t:BL} {ns:List BL} {sub:JL}:whB k t ns sub=true↔ZdL k t ns sub:=by
  unfold whB ZdL
  by_cases h1:k=1∨k=2∨k=3
  ·rw [if_pos h1]
   simp only [Bool.and_eq_true,decide_eq_true_eq,ZhD]
   constructor
   ·rintro ⟨a,b,c⟩;exact .inl ⟨h1,a,c,b⟩
   ·rintro (⟨_,a,b,c⟩ | ⟨a,_⟩ | ⟨a,_⟩ | ⟨a,_⟩ | ⟨a,_⟩)
    ·exact ⟨a,c,b⟩
    all_goals omega
  rw [if_neg h1]
  by_cases h4:k=4
  ·rw [if_pos h4]
   simp only [Bool.and_eq_true,decide_eq_true_eq,ZhD,ZkU]
   constructor
   ·rintro ⟨⟨a,a'⟩,b,c⟩;exact .inr (.inl ⟨h4,a,a',c,b⟩)
   ·rintro (⟨a,_⟩ | ⟨_,a,a',b,c⟩ | ⟨a,_⟩ | ⟨a,_⟩ | ⟨a,_⟩)
    ·exact absurd a h1
    ·exact ⟨⟨a,a'⟩,c,b⟩
    all_goals omega
  rw [if_neg h4]
  by_cases h5:k=5
  ·rw [if_pos h5]
   simp only [Bool.and_eq_true,decide_eq_true_eq,ZhD,ZdT]
   constructor
   ·rintro ⟨a,b,c⟩;exact .inr (.inr (.inl ⟨h5,a,c,b⟩))
   ·rintro (⟨a,_⟩ | ⟨a,_⟩ | ⟨_,a,b,c⟩ | ⟨a,_⟩ | ⟨a,_⟩)
    ·exact absurd a h1
    ·omega
    ·exact ⟨a,c,b⟩
    all_goals omega
  rw [if_neg h5]
  by_cases h6:k=6
  ·rw [if_pos h6]
   simp only [Bool.and_eq_true,decide_eq_true_eq]
   constructor
   ·rintro ⟨a,b⟩;exact .inr (.inr (.inr (.inl ⟨h6,a,b⟩)))
   ·rintro (⟨a,_⟩ | ⟨a,_⟩ | ⟨a,_⟩ | ⟨_,a,b⟩ | ⟨a,_⟩)
    ·exact absurd a h1
    ·omega
    ·omega
    ·exact ⟨a,b⟩
    ·omega
  rw [if_neg h6]
  by_cases h7:k=7
  ·rw [if_pos h7]
   simp only [Bool.and_eq_true,decide_eq_true_eq,List.all_eq_true,ZdT]
   constructor
   ·rintro ⟨a,b,c⟩;exact .inr (.inr (.inr (.inr ⟨h7,a,b,c⟩)))
   ·rintro (⟨a,_⟩ | ⟨a,_⟩ | ⟨a,_⟩ | ⟨a,_⟩ | ⟨_,a,b,c⟩)
    ·exact absurd a h1
    ·omega
    ·omega
    ·omega
    ·exact ⟨a,b,c⟩
  rw [if_neg h7]
  constructor
  ·intro h;cases h
  ·rintro (⟨a,_⟩ | ⟨a,_⟩ | ⟨a,_⟩ | ⟨a,_⟩ | ⟨a,_⟩)
   ·exact absurd a h1
   all_goals omega
theorem ZeC {k:Nat} {t:BL} {ns:List BL} {sub:JL} (h:ZdL k t ns sub) (h6:k≠6) (h7:k≠7):sub = .nil:=by
  rcases h with ⟨_,_,_,h⟩ | ⟨_,_,_,_,h⟩ | ⟨_,_,_,h⟩ | ⟨h,_⟩ | ⟨h,_⟩
  ·exact h
  ·exact h
  ·exact h
  ·exact absurd h h6
  ·exact absurd h h7
theorem Zda:∀ (l:JL) (d n dp n' dp':Nat),d≤64→ZaG whB d l n dp=(true,n',dp')→dp'≤64→ZbE (64 - d) l∧n'=n+ZdQ l∧dp≤dp'
  | .nil,d,n,dp,n',dp',hd,h,hp=>by
    cases h
    exact ⟨by cases 64 - d<;>exact trivial,rfl,Nat.le_refl _⟩
  | .cons k t ns sub rest,d,n,dp,n',dp',hd,h,hp=>by
    simp only [ZaG] at h
    split at h
    ·cases h
    split at h
    ·cases h
    rename_i hb hw
    have hK:ZdL k t ns sub:=Zdl.1 (by simpa using hw)
    split at h
    ·rename_i h67
     obtain ⟨a,b,c⟩:=Zda rest d (n+1) dp n' dp' hd h hp
     have hnil:=ZeC hK h67.1 h67.2
     subst hnil
     refine ⟨?_,by simp only [ZdQ];omega,c⟩
     cases hd9:64 - d with
     | zero=>rw [hd9] at a;exact ⟨hK,h67.1,h67.2,a⟩
     | succ m=>rw [hd9] at a;exact ⟨hK,by cases m<;>exact trivial,a⟩
    split at h
    ·obtain ⟨a,b,c⟩:=Zda rest d (n+1) _ n' dp' hd h hp
     omega
    rename_i h67 h64
    split at h
    ·rename_i hs
     have hsub:ZaG whB (d+1) sub (n+1) (max dp (d+1))=(true,(ZaG whB (d+1) sub (n+1) (max dp (d+1))).2.1,(ZaG whB (d+1) sub (n+1) (max dp (d+1))).2.2):=by rw [← hs]
     obtain ⟨a,b,c⟩:=Zda rest d _ _ n' dp' hd h hp
     obtain ⟨a2,b2,c2⟩:=Zda sub (d+1) (n+1) (max dp (d+1)) _ _ (by omega) hsub (by omega)
     refine ⟨?_,by simp only [ZdQ];omega,by omega⟩
     obtain ⟨m,hm⟩:∃ m,64 - d=m+1:=⟨64 - d - 1,by omega⟩
     rw [hm] at a ⊢
     rw [show 64 - (d+1)=m by omega] at a2
     exact ⟨hK,a2,a⟩
    ·rename_i hs
     rw [h] at hs
     exact absurd rfl hs
theorem Zez:∀ (l:JL) (d n dp:Nat),d≤64→ZbE (64 - d) l→n+ZdQ l≤65536→dp≤64→∃ dp',ZaG whB d l n dp=(true,n+ZdQ l,dp')∧dp'≤64
  | .nil,d,n,dp,_,_,_,hp=>⟨dp,rfl,hp⟩
  | .cons k t ns sub rest,d,n,dp,hd,h,hn,hp=>by
    simp only [ZdQ] at hn
    have hK:ZdL k t ns sub:=by cases hd9:64 - d<;>rw [hd9] at h<;>exact h.1
    have hR:ZbE (64 - d) rest:=by
      cases hd9:64 - d with
      | zero=>rw [hd9] at h;exact h.2.2.2
      | succ m=>rw [hd9] at h;exact h.2.2
    simp only [ZaG]
    rw [if_neg (by omega),if_neg (by simp [Zdl.2 hK])]
    by_cases h67:k≠6∧k≠7
    ·have hnil:=ZeC hK h67.1 h67.2
     subst hnil
     rw [if_pos h67]
     obtain ⟨dp',a,b⟩:=Zez rest d (n+1) dp hd hR (by simp only [ZdQ] at hn;omega) hp
     exact ⟨dp',by rw [a];simp only [ZdQ];congr 2;omega,b⟩
    ·rw [if_neg h67]
     obtain ⟨m,hm⟩:∃ m,64 - d=m+1:=by
       cases hd9:64 - d with
       | zero=>rw [hd9] at h;exact absurd ⟨h.2.1,h.2.2.1⟩ h67
       | succ m=>exact ⟨m,rfl⟩
     rw [if_neg (by omega)]
     rw [hm] at h
     obtain ⟨dp',a,b⟩:=Zez sub (d+1) (n+1) (max dp (d+1)) (by omega) (by rw [show 64 - (d+1)=m by omega];exact h.2.1) (by omega) (by omega)
     rw [a,if_pos rfl]
     obtain ⟨dp2,a2,b2⟩:=Zez rest d (n+1+ZdQ sub) dp' hd hR (by omega) b
     exact ⟨dp2,by rw [a2];simp only [ZdQ];congr 2;omega,b2⟩
theorem ZeB:∀ {d:Nat} {l:JL},ZbE d l→okN l
  | _,.nil,_=>trivial
  | 0,.cons k t ns sub rest,h=>by
    have:=ZeC h.1 h.2.1 h.2.2.1
    subst this
    exact ⟨fun e=>absurd e h.2.2.1,trivial,ZeB h.2.2.2⟩
  | d+1,.cons k t ns sub rest,h=>by
    refine ⟨fun e=>?_,ZeB h.2.1,ZeB h.2.2⟩
    rcases h.1 with ⟨hk,_⟩ | ⟨hk,_⟩ | ⟨hk,_⟩ | ⟨hk,_⟩ | ⟨_,_,hl,_⟩
    ·omega
    ·omega
    ·omega
    ·omega
    ·exact hl
def ZbW:Nat→JL→Nat→Nat
  | _,.nil,n=>n
  | m,.cons _ _ _ sub rest,n=>if m<n then n else ZbW m rest (n+ZbW (m - n) sub 1)
theorem ZdS:∀ (l:JL) (m n:Nat),ZbW m l n≤max n (m+1)∧n≤ZbW m l n
  | .nil,m,n=>⟨by show n≤_;omega,Nat.le_refl _⟩
  | .cons _ _ _ sub rest,m,n=>by
    simp only [ZbW]
    split
    ·exact ⟨by omega,Nat.le_refl _⟩
    ·have h1:=ZdS sub (m - n) 1
     have h2:=ZdS rest m (n+ZbW (m - n) sub 1)
     exact ⟨by omega,by omega⟩
theorem ZgG:∀ (l:JL) (m n:Nat),n≤m→(ZbW m l n≤m↔n+ZdQ l≤m)∧(n+ZdQ l≤m→ZbW m l n=n+ZdQ l)
  | .nil,m,n,h=>⟨Iff.rfl,fun _=>rfl⟩
  | .cons _ _ _ sub rest,m,n,h=>by
    simp only [ZbW,ZdQ]
    rw [if_neg (by omega)]
    by_cases h1:1≤m - n
    ·have hs:=ZgG sub (m - n) 1 h1
     have hsl:=ZdS sub (m - n) 1
     by_cases h2:1+ZdQ sub≤m - n
     ·have e:=hs.2 h2
      rw [e]
      have hr:=ZgG rest m (n+(1+ZdQ sub)) (by omega)
      exact ⟨by rw [hr.1];omega,fun h9=>by rw [hr.2 (by omega)];omega⟩
     ·have h3:¬ ZbW (m - n) sub 1≤m - n:=fun h9=>h2 (hs.1.1 h9)
      have hr:=ZdS rest m (n+ZbW (m - n) sub 1)
      exact ⟨⟨fun h9=>by omega,fun h9=>by omega⟩,fun h9=>by omega⟩
    ·have hsl:=ZdS sub (m - n) 1
     have hr:=ZdS rest m (n+ZbW (m - n) sub 1)
     exact ⟨⟨fun h9=>by omega,fun h9=>by omega⟩,fun h9=>by omega⟩
end Go.Js
namespace Go.Proofs.YtpjbjdheeemdiaaGreatDoor
open Go Go.Fw Go.Js
theorem Zbt {v:JV}:Zbu v=true↔Zd8 64 v∧ZfO v≤65536:=by
  have hcnt:ZdQ (.cons v.k v.t v.ns v.sub .nil)=ZfO v:=by simp [ZdQ,ZfO]
  unfold Zbu ZcS
  constructor
  ·intro h
   simp only [Bool.and_eq_true,decide_eq_true_eq] at h
   have e:ZaG whB 0 (.cons v.k v.t v.ns v.sub .nil) 0 0=(true,(ZaG whB 0 (.cons v.k v.t v.ns v.sub .nil) 0 0).2.1,(ZaG whB 0 (.cons v.k v.t v.ns v.sub .nil) 0 0).2.2):=by rw [← h.1]
   obtain ⟨a,b,_⟩:=Zda _ 0 0 0 _ _ (by omega) e h.2
   have hn:=(ZcE whB (.cons v.k v.t v.ns v.sub .nil) 0 0 0 (by omega)).2 h.1
   exact ⟨a,by omega⟩
  ·rintro ⟨a,b⟩
   obtain ⟨dp',e,h⟩:=Zez (.cons v.k v.t v.ns v.sub .nil) 0 0 0 (by omega) a (by omega) (by omega)
   rw [e]
   simp [h]
theorem ZgU:∀ (m:Nat) (v:JV),v.sub.hei≤m→Zqz (YD (m+1)) v
  | 0,v,hm=>ZgT (f60:=YD 0) fun i k t ns s r hd=>by have:=JL.drop_hei i v.sub hd;omega
  | m+1,v,hm=>ZgT (f60:=YD (m+1)) fun i k t ns s r hd=>ZgU m ⟨k,t,ns,s⟩ (by have:=JL.drop_hei i v.sub hd;show s.hei≤m;omega)
theorem ZnP {h:Ze} {z:VT5} {v:JV} {S:Nat→Prop} {K:ByteArray→Int→HP} (hv:Zbo h S z v) (hS:∀ j,S j→j<sz h) (hfit:Zp5 v) (hlen:(Za4 v).length<800000000) (ht:ZbA h) (hh:9≤sz h)
    (hk:∀ s e h',Ext h h'→(Zbu v=false→s=Zc []∧e=6)→(Zbu v=true→65536<(Za4 v).length→s=Zc []∧e=5)→(Zbu v=true→(Za4 v).length≤65536→s=Zc (Za4 v)∧e=0)→K s e h'):Zcn z K h:=by
  unfold Zcn Zen
  have hs:sz h=h.size:=rfl
  refine ZbY fun h1 c1 e1 z1=>Za ?_
  have c1':obj h1 h.size=some (.cells (XX z).toArray 33 (0,0)):=c1
  have s1:sz h1=h1.size:=rfl
  refine rI (Zr c1' rfl) (rS (Zr c1' rfl) (rL (s:=z.2.2.1) (Zr c1' rfl) (rL (s:=z.2.2.2.1) (Zr c1' rfl) ?_)))
  have hS1:∀ j,S j→j<sz h1:=fun j hj=>Nat.lt_of_lt_of_le (hS j hj) e1.size
  refine Zf3 (z:=z) (hv.ext hS e1) hS1 hfit (ht.ext e1) (by omega) fun h2 e2=>?_
  cases hr:Zbu v with
  | false =>
    refine Zn rfl (Za (hk _ _ h2 (e1.trans e2) (fun _=>⟨rfl,rfl⟩) (fun h=>by rw [hr] at h;cases h) fun h=>by rw [hr] at h;cases h))
  | true =>
    have hrj:=(Zbt.1 hr).1
    have hokn:=ZeB hrj
    refine Zl rfl (ZbY fun h3 c3 e3 z3=>?_)
    have c1'':=Y2 (Y2 c1' e2) e3
    have s2:sz h2=h2.size:=rfl
    have s3:sz h3=h3.size:=rfl
    have b3:Bld h3 h2.size 190 []:=⟨.inr rfl,.pointer none,⟨none,0,0⟩,c3,.inl rfl,Buf.nil _ _⟩
    have e03:=(e1.trans e2).trans e3
    have hsz12:=e2.size
    refine rI (Zr c1'' rfl) (rS (Zr c1'' rfl) (rL (s:=z.2.2.1) (Zr c1'' rfl) (rL (s:=z.2.2.2.1) (Zr c1'' rfl) ?_)))
    refine ⟨v.sub.hei+1,ZgU _ v (Nat.le_refl _) (z:=z) (S:=S) (hv.ext hS e03) (fun j hj=>by have:=hS j hj;omega) b3 hokn.1 hokn.2.1 (by simpa using hlen) fun h4 out b4 w4 l4 l4' u4=>?_⟩
    have e04:Ext h h4:=e03.updS u4.upd fun j hj=>by have:=(ZhL b3 hj).1;omega
    refine ZmY b4 (Zi (fun hbig=>Za (hk _ _ h4 e04 (fun h=>by rw [hr] at h;cases h) (fun _ _=>⟨rfl,rfl⟩) fun _ hle=>?_)) fun hsm=>?_)
    ·rcases w4 with w4 | ⟨_,w4⟩
     ·rw [w4] at hbig;simp at hbig;omega
     ·simp at w4;omega
    ·have hw:out=Za4 v:=by
       rcases w4 with w4 | ⟨w4,_⟩
       ·simpa using w4
       ·omega
     refine Zha b4 fun h5 u5=>Za (hk _ _ h5 (e04.updS u5 fun j hj=>by omega) (fun h=>by rw [hr] at h;cases h) (fun _ hgt=>?_) fun _ _=>⟨by rw [hw],rfl⟩)
     rw [hw] at hsm
     omega
theorem Zlu:∀ (m:Nat) {h:Ze} {z:VT5} {v:JV} {S:Nat→Prop} {most:Nat} {K:Int→HP},v.sub.hei≤m→Zbo h S z v→(∀ j,S j→j<sz h)→most≤65536→(∀ h',Ext h h'→K (ZbW most v.sub 1) h')→X3 (m+1) z most K h:=by
  have step:∀ {f76:Znu} {v:JV},(∀ i k t ns s r,v.sub.drop i = .cons k t ns s r→∀ {h:Ze} {z:VT5} {S:Nat→Prop} {most:Nat} {K:Int→HP},Zbo h S z ⟨k,t,ns,s⟩→(∀ j,S j→j<sz h)→most≤65536→(∀ h',Ext h h'→K (ZbW most s 1) h')→f76 z most K h) →
      ∀ {h:Ze} {z:VT5} {S:Nat→Prop} {most:Nat} {K:Int→HP},Zbo h S z v→(∀ j,S j→j<sz h)→most≤65536→(∀ h',Ext h h'→K (ZbW most v.sub 1) h')→Zcu f76 z most K h:=by
    intro f76 v hsub h z S most K hv hS hm hk
    unfold Zcu Zdx
    refine ZbY fun h1 c1 e1 z1=>Za (Za ?_)
    have c1':obj h1 h.size=some (.cells (XX z).toArray 33 (0,0)):=c1
    obtain ⟨a1,a2,a3,a4,cx,a5,a6,a7⟩:=id hv
    have hlx:z.2.2.1.len=v.sub.len:=by have:=a5.len;have:=a7.len;omega
    have hbig:=a5.big
    have hcap:=a5.cap
    refine rL (s:=z.2.2.1) (Zr c1' rfl) ?_
    refine ZB (fun p h'=>∃ n i:Nat,p.1=n∧p.2.1=i∧n≤65537∧i≤v.sub.len∧Ext h h'∧ZbW most v.sub 1=ZbW most (v.sub.drop i) n) (fun p _=>(v.sub.len - p.2.1).toNat) ⟨1,0,rfl,rfl,by omega,Nat.zero_le _,e1,rfl⟩ ?_
    rintro ⟨n0,i0,u⟩ h2 ⟨n,i,hn0,hi,hn,hle,e2,q2⟩
    dsimp only at hn0 hi ⊢
    subst hn0 hi
    refine Zi (fun hlt=>?_) fun hge=>Za ?_
    ·have hia:i<v.sub.len:=by omega
     obtain ⟨k,t,ns,s,r,hd⟩:=JL.drop_cons hia
     rw [hd] at q2
     simp only [ZbW] at q2
     have keepS:∀ {a:Ze},Ext h a→∀ j,S j→j<sz h→obj a j=obj h j:=fun e j hj hl=>YB e hl
     refine Zhy (ZaK a5 a6 (keepS e2)) (a7.keep (keepS e2) fun j hj=>hj) hd rfl fun zi hzi=>?_
     refine ZbY fun h3 c3 e3 z3=>?_
     have c3':obj h3 h2.size=some (.cells zV.toArray 33 (0,0)):=c3
     refine Zly c3' (by simp) (Zb5 zi) fun h4 c4 u4 z4=>?_
     have c4':obj h4 h2.size=some (.cells (XX zi).toArray 33 (0,0)):=c4
     have s2:sz h2=h2.size:=rfl
     have e24:Ext h2 h4:=e3.updS u4 fun j hj=>by omega
     refine Zi (fun hgt=>Za ?_) fun hle2=>?_
     ·rw [if_pos (by omega)] at q2
      have:=hk h4 (e2.trans e24)
      rw [q2] at this;exact this
     ·rw [if_neg (by omega)] at q2
      refine rI (Zr c4' rfl) (rS (Zr c4' rfl) (rL (s:=zi.2.2.1) (Zr c4' rfl) (rL (s:=zi.2.2.2.1) (Zr c4' rfl) ?_)))
      rw [ZG (n:=(most:Int) - n) (by omega) (by omega),show (most:Int) - n=((most - n:Nat):Int) by omega]
      have hvl:=ZdS s (most - n) 1
      refine hsub i k t ns s r hd (S:=S) (hzi.keep (fun j hj hl=>YB e24 hl) fun j hj=>hj) (fun j hj=>by have:=hS j hj;have:=e2.size;have:=e24.size;have:sz h=h.size:=rfl;have:sz h4=h4.size:=rfl;omega) (by omega) fun h5 e5=>Za ?_
      rw [ZG (by omega) (by omega),ZG (by omega) (by omega)]
      exact ⟨⟨n+ZbW (most - n) s 1,i+1,rfl,rfl,by omega,by omega,(e2.trans e24).trans e5,by rw [q2,JL.drop_succ i _ hd]⟩,by omega⟩
    ·rw [JL.drop_nil (by omega)] at q2
     have:=hk h2 e2
     rw [q2] at this;exact this
  intro m
  induction m with
  | zero=>exact fun {h z v S most K} hm hv hS hmost hk=>step (f76:=X3 0) (v:=v) (fun i k t ns s r hd=>by have:=JL.drop_hei i v.sub hd;omega) hv hS hmost hk
  | succ m ih=>exact fun {h z v S most K} hm hv hS hmost hk=>step (f76:=X3 (m+1)) (v:=v) (fun i k t ns s r hd {h z S most K}=>ih (v:=⟨k,t,ns,s⟩) (by have:=JL.drop_hei i v.sub hd;show s.hei≤m;omega)) hv hS hmost hk
theorem ZnC {h:Ze} {z:VT5} {v:JV} {S:Nat→Prop} {K:Bool→HP} (hv:Zbo h S z v) (hS:∀ j,S j→j<sz h) (hk:∀ h',Ext h h'→K (decide (ZfO v≤65536)) h'):Zcm z K h:=by
  unfold Zcm Zek
  refine ZbY fun h1 c1 e1 z1=>?_
  have c1':obj h1 h.size=some (.cells (XX z).toArray 33 (0,0)):=c1
  refine rI (Zr c1' rfl) (rS (Zr c1' rfl) (rL (s:=z.2.2.1) (Zr c1' rfl) (rL (s:=z.2.2.2.1) (Zr c1' rfl) ?_)))
  refine ⟨v.sub.hei+1,Zlu _ (most:=65536) (z:=z) (Nat.le_refl _) (hv.ext hS e1) (fun j hj=>Nat.lt_of_lt_of_le (hS j hj) e1.size) (by omega) fun h2 e2=>Zd ?_⟩
  have:=hk h2 (e1.trans e2)
  have hc:=(ZgG v.sub 65536 1 (by omega)).1
  rw [show decide (((ZbW 65536 v.sub 1:Nat):Int)≤65536)=decide (ZfO v≤65536) by rw [decide_eq_decide];unfold ZfO;omega]
  exact this
def Zqe (v:JV):Nat:=if ZfO v≤65536∧(ZcS (fun _ _ _ _=>true) 0 v 0 0).1=true then (ZcS (fun _ _ _ _=>true) 0 v 0 0).2.2 else 0
theorem Zog {h:Ze} {z:VT5} {v:JV} {S:Nat→Prop} {K:Int→HP} (hv:Zbo h S z v) (hS:∀ j,S j→j<sz h) (hfit:Zp5 v) (ht:ZbA h) (hh:9≤sz h) (hk:∀ h',Ext h h'→K (Zqe v) h'):Zco z K h:=by
  unfold Zco Zep
  have hs:sz h=h.size:=rfl
  refine ZbY fun h1 c1 e1 z1=>Za (ZbY fun h3 c3 e3 z3=>?_)
  have s1:sz h1=h1.size:=rfl
  have c1':obj h3 h.size=some (.cells (XX z).toArray 33 (0,0)):=Y2 c1 e3
  have e03:=e1.trans e3
  refine rI (Zr c1' rfl) (rS (Zr c1' rfl) (rL (s:=z.2.2.1) (Zr c1' rfl) (rL (s:=z.2.2.2.1) (Zr c1' rfl) ?_)))
  refine ZnC (z:=z) (hv.ext hS e03) (fun j hj=>Nat.lt_of_lt_of_le (hS j hj) e03.size) fun h9 e9=>?_
  have e09:=e03.trans e9
  unfold Zqe at hk
  by_cases hc:ZfO v≤65536
  ·rw [decide_eq_true hc]
   have c9:=Y2 c1' e9
   refine Zl rfl (rI (Zr c9 rfl) (rS (Zr c9 rfl) (rL (s:=z.2.2.1) (Zr c9 rfl) (rL (s:=z.2.2.2.1) (Zr c9 rfl) ?_))))
   refine ⟨v.sub.hei+1,ZgY (rt:=fun _ _ _ _=>true) (.inr ⟨rfl,rfl⟩) _ v (Nat.le_refl _) (n:=0) (dp:=0) (d:=0) (z:=z) (hv.ext hS e09) (fun j hj=>⟨Nat.lt_of_lt_of_le (hS j hj) e09.size,by have:=hS j hj;omega⟩) hfit (ht.ext e09) (by omega) (Y2 c3 e9) (by omega) (by omega) (by omega) fun h8 hC8 u8=>?_⟩
   have key:=hk h8 (e09.updS u8 fun j hj=>by omega)
   cases hw:(ZcS (fun _ _ _ _=>true) 0 v 0 0).1 with
   | false=>rw [hw] at key;rw [if_neg (by simp)] at key;exact Zn rfl (Za key)
   | true=>rw [hw] at key;rw [if_pos ⟨hc,rfl⟩] at key;exact Zl rfl (rI (Zr hC8 rfl) (Za key))
  ·rw [decide_eq_false hc]
   have key:=hk h9 e09
   rw [if_neg fun h=>hc h.1] at key
   exact Zn rfl (Za key)
theorem Zga {h:Ze} {n:Int} (hn : -9223372036854775808≤n∧n≤9223372036854775807) (ht:ZbA h) {K:VT5→HP} (hk:∀ h',Ext h h'→K (4,Zc (Lib.itoa n),⟨none,0,0⟩,⟨none,0,0⟩,()) h'):Zaw n K h:=by
  unfold Zaw Zeo
  refine ZbY fun h1 c1 e1 z1=>⟨ht.ext e1,hn.1,hn.2,fun h2 e2=>?_⟩
  have c1':obj h1 h.size=some (.cells zV.toArray 33 (0,0)):=c1
  have hs:sz h=h.size:=rfl
  exact ZdW (x:=⟨none,0,0⟩) (y:=⟨none,0,0⟩) (Y2 c1' e2) rfl fun h3 u3 z3=>hk h3 ((e1.trans e2).updS u3 fun j hj=>by omega)
end Go.Proofs.YtpjbjdheeemdiaaGreatDoor
