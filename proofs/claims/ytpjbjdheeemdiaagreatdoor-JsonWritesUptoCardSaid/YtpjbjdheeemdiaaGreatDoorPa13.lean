/- The reference's reader: values; its Parse. -/
import Derived.Test.YtpjbjdheeemdiaaGreatDoorPa12
set_option linter.unusedVariables false
set_option linter.unusedSimpArgs false
namespace Go.Proofs.YtpjbjdheeemdiaaGreatDoor
open Go Go.Fw Go.Js
theorem Zp4 {α β:Type} {h:Zc} {R:Nat} {s:ByteArray} {x:Out α} (f:α→BL→β) (o:ZcK h R s x):ZcK h R s (x.bind fun a r=> .ok (f a r) r):=by cases x<;>exact o
theorem ZtR (m:Nat) (ob:Bool) (c:UInt8) (l:BL):Zky (ZB m) ob (c::l)=Zep m ob l:=Zp6 (Xb m).1 (Xb m).2 ob c l
theorem Zuo {c:UInt8} {n:Int} (d:UInt8) (hn:n=(d.toNat:Int)) {A B:Prop} (ha:c=d→A) (hb:c≠d→B):Zs (((c.toNat:Nat):Int) ==n) A B:=by
  subst hn
  exact Yh (fun e=>ha (Zb9 e)) fun e=>hb (Zde e)
theorem ZhE {f42:Zhf} {n:Nat} {deep:Int} (hd:(n=0∧deep=64)∨∃ m,n=m+1∧m+1≤64∧deep=((64 - (m+1):Nat):Int)∧ZuF f42 (ZB m) ((64 - m:Nat):Int)):ZuF (YT f42) (ZB n) deep:=by
  intro h R s x K o hRs hR hk
  unfold YT XI
  have hszr:sz h=h.size:=rfl
  refine ZaX fun h1 c1 e1 z1=>ZkX (o.ext e1) fun h2 o2 u2 z2=>?_
  have hb2:sz h2=h.size+1:=by rw [z2];exact z1
  have low:∀ {a:Zc},Upd (· = R) h2 a→Upd (· = R) h a:=fun u=>UN e1 (u2.trans u)
  have cb:∀ {a:Zc},Upd (· = R) h2 a→obj a h.size=some (.cells zV.toArray 33 (0,0)):=fun u=>YH c1 (u2.trans u) (by omega)
  have fin:∀ {v:JV} {z:VT5} {h4:Zc},ZcK h4 R s (x.bind fun _ r=>ZB n r)→(∀ w r,(x.bind fun _ r=>ZB n r) = .ok w r→v=w)→Upd (· = R) h2 h4→XY h4 (fun j=>sz h2≤j∧j<sz h4) z v →
      sts h4 h.size 0 [.int .u8 z.1,.string z.2.1,.slice z.2.2.1.ptr z.2.2.1.len z.2.2.1.cap,.slice z.2.2.2.1.ptr z.2.2.2.1.len z.2.2.2.1.cap] fun h83 =>
        ldI h83 h.size 0 .u8 fun t84=>ldS h83 h.size (0+1) fun t85=>ldL h83 h.size (0+2) fun t86=>ldL h83 h.size (0+3) fun t87=>K (t84,t85,t86,t87,()) h83:=fun {v z h4} o4 hv u4 v4=>by
    refine Zex (x:=z.2.2.1) (y:=z.2.2.2.1) (cb u4) rfl fun h5 u5 z5=>?_
    have s4:=Zb2 u4
    exact hk v z h5 (o4.upd u5 (by omega)) hv (v4.keep (fun j hj hl=>ZV u5 hl (by omega)) fun j hj=>⟨by omega,by omega⟩) (UT (low u4) u5 fun j hj=>by right;omega)
  have finP:∀ {k:Nat} {t:BL} {h4:Zc},ZcK h4 R s (x.bind fun _ r=>ZB n r)→(∀ w r,(x.bind fun _ r=>ZB n r) = .ok w r→(⟨k,t,[],.nil⟩:JV)=w)→Upd (· = R) h2 h4 →
      sts h4 h.size 0 [.int .u8 (k:Int),.string (Ze t),.slice none 0 0,.slice none 0 0] fun h83 =>
        ldI h83 h.size 0 .u8 fun t84=>ldS h83 h.size (0+1) fun t85=>ldL h83 h.size (0+2) fun t86=>ldL h83 h.size (0+3) fun t87=>K (t84,t85,t86,t87,()) h83:=fun {k t h4} o4 hv u4 =>
    fin (z:=((k:Int),Ze t,⟨none,0,0⟩,⟨none,0,0⟩,())) o4 hv u4 (XY.plain _ _ k t)
  cases x with
  | err e r =>
    have o2:e≠0∧Rf h2 R s e r:=o2
    refine ZiZ o2.2 (Zst o2.1 (finP (k:=0) (t:=[]) o2 (fun w r hw=>by cases hw) (Upd.refl _ _)))
  | ok a l =>
    have r2:Rf h2 R s 0 (ZM l):=o2
    have hxb:∀ {y:Out JV},ZB n l=y→((.ok a l:Out Unit).bind fun _ r=>ZB n r)=y:=fun e=>e
    refine ZiZ r2 (ZqV (Zdx r2 (Za (Zgz r2 fun p hp=>Zrq r2 (Zd ?_)))))
    have hlen:=hp.len
    have failV:∀ {e:Nat} {e0:Int},e≠0→e0=e→ZB n l=XW e (ZM l)→Zk (At R) e0 (fun h18 =>
        sts h18 h.size 0 [.int .u8 0,.string (ByteArray.mk #[]),.slice none 0 0,.slice none 0 0] fun h19 =>
        ldI h19 h.size 0 .u8 fun t20=>ldS h19 h.size (0+1) fun t21=>ldL h19 h.size (0+2) fun t22=>ldL h19 h.size (0+3) fun t23=>K (t20,t21,t22,t23,()) h19) h2:=fun {e e0} he h0 hq =>
      Xq (α:=JV) r2 he h0 fun h3 o3 u3 z3=>finP (k:=0) (t:=[]) (by rw [hxb hq];exact o3) (fun w r hw=>by rw [hxb hq] at hw;cases hs:ZM l<;>rw [hs] at hw<;>cases hw) u3
    cases hsk:ZM l with
    | nil =>
      rw [hsk] at hlen
      refine Zm (by simp at hlen ⊢;omega) (failV (e:=24) (by decide) rfl ?_)
      rw [ZfQ,hsk]
      unfold Zdv
      rw [hsk];rfl
    | cons c l1 =>
      have hq:=Zne n hsk
      have failV:=fun {e e0} he h0 hq=>@failV e e0 he h0 hq
      rw [hsk] at r2 hlen failV
      refine Zn (by simp at hlen ⊢;omega) ?_
      have hz:XM (c::l1)=(c.toNat:Int):=rfl
      generalize XM (c::l1)=z at hz ⊢
      subst hz
      refine Zd (Zuo 34 rfl (fun e34=>?_) fun n34=>?_)
      ·subst e34
       rw [if_neg (by decide),if_neg (by decide),if_pos rfl] at hq
       have hs34:ZpI (34::l1)=ZgY l1:=rfl
       refine Zjo r2 hR fun t h3 o3 ht3 u3=>?_
       rw [hs34] at o3 ht3
       refine finP (k:=5) (t:=t) (by rw [hxb hq];exact Zp4 (fun t _=>(⟨5,t,[],.nil⟩:JV)) o3) (fun w r hw=>?_) u3
       rw [hxb hq] at hw
       obtain ⟨t1,r1,a1,a2⟩:=ZR hw
       cases a2
       rw [ht3 t1 _ a1]
      rw [if_neg (c:=c=34) n34] at hq
      refine Zr (fun p h'=>h'=h2∧(p.1=true↔c=45∨Xn c=true)) ?_ (Zuo 45 rfl (fun e=>⟨rfl,by simp [e]⟩) fun n45=>ZjU (Zd ⟨rfl,by rw [ZiB];simp [n45]⟩))
      rintro ⟨b,u⟩ h3 ⟨rfl,hb⟩
      dsimp only at hb ⊢
      cases hbb:b with
      | true =>
        have hc:=hb.1 hbb
        have nn:c≠123∧c≠91∧c≠110∧c≠102∧c≠116:=by
          refine ⟨?_,?_,?_,?_,?_⟩<;>(rintro rfl;rcases hc with hc | hc<;>revert hc<;>decide)
        obtain ⟨a1,a2,a3,a4,a5⟩:=nn
        rw [if_neg a1,if_neg a2,if_neg a3,if_neg a4,if_neg a5,if_pos hc] at hq
        refine Zm rfl (Zlx r2 fun t h4 o4 ht4 u4 z4=>?_)
        obtain ⟨tl,rfl⟩:∃ tl,t=Ze tl:=⟨t.data.toList,by simp⟩
        refine finP (k:=4) (t:=tl) (by rw [hxb hq];exact Zp4 (fun _ r=>(⟨4,upto (c::l1) r,[],.nil⟩:JV)) o4) (fun w r hw=>?_) u4
        rw [hxb hq] at hw
        obtain ⟨_,r1,b1,b2⟩:=ZR hw
        cases b2
        have e1:=ht4 _ b1
        have e2:tl=upto (c::l1) r:=by
          have:=congrArg (fun b:ByteArray=>b.data.toList) e1
          simpa [Ze] using this
        rw [e2]
      | false =>
        have hc:¬ (c=45∨Xn c=true):=fun h9=>by have:=hb.2 h9;rw [hbb] at this;cases this
        refine Zn rfl ?_
        have word:∀ {w:ByteArray} {wl:BL} {k:Nat},w.data.toList=wl→w.size≤10→(∀ c∈wl,0<c.toNat)→ZB n l=((XL wl (c::l1)).bind fun _ r=> .ok ⟨k,[],[],.nil⟩ r)→Ye (At R) w (fun h45 =>
            sts h45 h.size 0 [.int .u8 (k:Int),.string (ByteArray.mk #[]),.slice none 0 0,.slice none 0 0] fun h46 =>
            ldI h46 h.size 0 .u8 fun t47=>ldS h46 h.size (0+1) fun t48=>ldL h46 h.size (0+2) fun t49=>ldL h46 h.size (0+3) fun t50=>K (t47,t48,t49,t50,()) h46) h3:=fun {w wl k} hw hs h0 hq =>
          Zoa hw hs h0 r2 fun h4 o4 u4 z4=>finP (k:=k) (t:=[]) (by rw [hxb hq];exact Zp4 (fun _ _=>(⟨k,[],[],.nil⟩:JV)) o4) (fun w r hw=>by
           rw [hxb hq] at hw
           obtain ⟨_,r1,b1,b2⟩:=ZR hw
           cases b2;rfl) u4
        refine Zd (Zuo 110 rfl (fun e=>?_) fun n110=>Zd (Zuo 116 rfl (fun e=>?_) fun n116=>Zd (Zuo 102 rfl (fun e=>?_) fun n102=>?_)))
        ·subst e
         rw [if_neg (by decide),if_neg (by decide),if_pos rfl] at hq
         exact word (wl:=[110,117,108,108]) (k:=1) rfl (by decide) (by decide) hq
        ·subst e
         rw [if_neg (by decide),if_neg (by decide),if_neg (by decide),if_neg (by decide),if_pos rfl] at hq
         exact word (wl:=[116,114,117,101]) (k:=3) rfl (by decide) (by decide) hq
        ·subst e
         rw [if_neg (by decide),if_neg (by decide),if_neg (by decide),if_pos rfl] at hq
         exact word (wl:=[102,97,108,115,101]) (k:=2) rfl (by decide) (by decide) hq
        ·refine Zr (fun p h'=>h'=h3∧(p.1=true↔c=91∨c=123)) ?_ (Zuo 91 rfl (fun e=>⟨rfl,by simp [e]⟩) fun n91=>Zd ⟨rfl,?_⟩)
         ·rintro ⟨b2,u⟩ h4 ⟨rfl,hob2⟩
          dsimp only at hob2 ⊢
          cases hbb2:b2 with
          | false =>
            have hno:¬ (c=91∨c=123):=fun h9=>by have:=hob2.2 h9;rw [hbb2] at this;cases this
            refine Zn rfl (failV (e:=20) (by decide) rfl ?_)
            rw [hq,if_neg fun e=>hno (.inr e),if_neg fun e=>hno (.inl e),if_neg n110,if_neg n102,if_neg n116,if_neg hc];rfl
          | true =>
            have hyes:=hob2.1 hbb2
            refine Zm rfl ?_
            obtain ⟨ob,hob⟩:∃ ob:Bool,c=if ob then 123 else 91:=by
              rcases hyes with e | e
              ·exact ⟨false,e⟩
              ·exact ⟨true,e⟩
            have hqo:ZB n l=opN n ob (c::l1):=by
              rw [hq]
              cases ob with
              | true=>rw [if_pos (show c=123 from hob)]
              | false=>rw [if_neg (by rw [hob];decide),if_pos (show c=91 from hob)]
            rcases hd with ⟨hn0,hd64⟩ | ⟨m,hnm,hm64,hdm,hf⟩
            ·subst hn0 hd64
             exact Zm rfl (failV (e:=23) (by decide) rfl hqo)
            ·subst hnm
             have hqo:ZB (m+1) l=Zep m ob l1:=by rw [hqo];exact ZtR m ob c l1
             refine Zn (beq_eq_false_iff_ne.2 (by omega)) (Zb6 r2 fun h5 r5 u5 z5=>?_)
             have hdeep:IntKind.wrap .i64 (deep+1)=((64 - m:Nat):Int):=by rw [ZJ (by omega) (by omega)];omega
             rw [hdeep]
             cases ob with
             | false =>
               rw [hob]
               refine Zm rfl (ZoX hf r5 hR fun v z h6 o6 hv6 v6 u6=>?_)
               have s5:=Zb2 u5
               exact fin (by rw [hxb hqo];exact o6) (fun w r hw=>hv6 w r (by rw [hxb hqo] at hw;exact hw)) (u5.trans u6) (v6.keep (fun _ _ _=>rfl) fun j hj=>⟨by omega,hj.2⟩)
             | true =>
               rw [hob]
               refine Zn rfl (Zmz hf r5 hR fun v z h6 o6 hv6 v6 u6=>?_)
               have s5:=Zb2 u5
               exact fin (by rw [hxb hqo];exact o6) (fun w r hw=>hv6 w r (by rw [hxb hqo] at hw;exact hw)) (u5.trans u6) (v6.keep (fun _ _ _=>rfl) fun j hj=>⟨by omega,hj.2⟩)
         ·simp only [n91,false_or]
          constructor
          ·intro hb;exact Zb9 (d:=123) (beq_iff_eq.1 hb)
          ·rintro rfl;rfl
theorem ZhF:∀ n:Nat,n≤64→ZuF (Z0 (n+1)) (ZB n) ((64 - n:Nat):Int)
  | 0,_=>ZhE (f42:=Z0 0) (n:=0) (.inl ⟨rfl,rfl⟩)
  | n+1,hn=>ZhE (f42:=Z0 (n+1)) (n:=n+1) (.inr ⟨n,rfl,hn,rfl,ZhF n (by omega)⟩)
theorem Zmx {h:Zc} {s:ByteArray} (hh:9≤sz h) {K:VT5→Int→Int→HP}
    (hk:∀ z e n h',Ext h h'→Zl6 h' (fun j=>sz h≤j∧j<sz h') (Za2 s.data.toList) z e n→K z e n h'):Xj s K h:=by
  unfold Xj Zbi
  have hs0:sz h=h.size:=rfl
  have hlen:s.data.toList.length=s.size:=by simp
  refine ZaX fun h1 c1 e1 z1=>Za (Za (Zj (fun hlong=>?_) fun hshort=>?_))
  ·have c1':obj h1 h.size=some (.cells zV.toArray 33 (0,0)):=c1
   refine Zle c1' (by simp) (by simp [Yd]) fun h3 c3 u3 z3=>Za (Za ?_)
   have c3':obj h3 h.size=some (.cells zV.toArray 33 (0,0)):=c3
   refine rI (Zi c3' rfl) (rS (Zi c3' rfl) (rL (s:=⟨none,0,0⟩) (Zi c3' rfl) (rL (s:=⟨none,0,0⟩) (Zi c3' rfl) (hk _ _ _ h3 (e1.updS u3 fun j hj=>by omega) ?_))))
   rw [Zfc (by omega)]
   exact ⟨XY.plain _ _ 0 [],rfl,rfl⟩
  ·have hs:s.size≤65536:=by omega
   refine ZaX fun h11 c11 e11 z11=>?_
   have hs1:sz h1=h1.size:=rfl
   have r11:Rf h11 h1.size s 0 s.data.toList:=⟨hs,0,c11,Zer.start s⟩
   have pp:=Zfb (l:=s.data.toList) (by omega)
   have c1':obj h11 h.size=some (.cells zV.toArray 33 (0,0)):=Z6 c1 e11
   refine ⟨65,ZhF 64 (Nat.le_refl _) h11 h1.size s (.ok () s.data.toList) _ r11 (by have:sz h11=h11.size:=rfl;omega) (by omega) fun v z h13 o13 hv13 v13 u13=>?_⟩
   have o13:ZcK h13 h1.size s (ZB 64 s.data.toList):=o13
   have hv13:∀ w r,ZB 64 s.data.toList = .ok w r→v=w:=hv13
   have hs11:sz h11=h1.size+1:=z11
   refine ZaX fun h15 c15 e15 z15=>?_
   have hs13:sz h13=h13.size:=rfl
   have c15':obj h15 h13.size=some (.cells zV.toArray 33 (0,0)):=c15
   have s13:=Zb2 u13
   refine Zle c15' (by simp) (Zbu z) fun h16 c16 u16 z16=>?_
   have c16':obj h16 h13.size=some (.cells (YS z).toArray 33 (0,0)):=c16
   have o16:=(o13.ext e15).upd u16 (by omega)
   refine ZkX o16 fun h17 o17 u17 z17=>?_
   have u1117:Upd (fun j=>j=h1.size) h11 h17:=(UT (UT (u13.trans (e15.upd _)) u16 fun j hj=> .inr (by omega)) u17 fun j hj=> .inl hj)
   have c17:obj h17 h13.size=some (.cells (YS z).toArray 33 (0,0)):=YH c16' u17 (by omega)
   have cb17:obj h17 h.size=some (.cells zV.toArray 33 (0,0)):=YH c1' u1117 (by omega)
   have e17:Ext h h17:=(e1.trans e11).updS u1117 fun j hj=>by omega
   have v17:XY h17 (fun j=>sz h≤j∧j<sz h17) z v:=v13.keep (fun j hj hl=>by
     rw [ZV u17 (by have:sz h16=h16.size:=rfl;have:sz h15=h15.size:=rfl;have:=e15.size;omega) (by omega),ZV u16 (by have:sz h15=h15.size:=rfl;have:=e15.size;omega) (by omega),ZQ e15 hl]) fun j hj=>⟨by omega,by have:=Zb2 u17;have:=Zb2 u16;have:sz h15=h15.size:=rfl;have:=e15.size;omega⟩
   refine Zr (fun _ h'=>Upd (fun j=>j=h1.size) h17 h'∧sz h'=sz h17∧((∃ w,Za2 s.data.toList = .ok w∧v=w∧∃ r,Rf h' h1.size s 0 r)∨∃ e r,Za2 s.data.toList = .err e (s.size - r.length)∧e≠0∧Rf h' h1.size s e r)) ?_ ?_
   ·rintro ⟨⟩ h24 ⟨u24,z24,hc⟩
    have c24:=YH c17 u24 (show ¬ h13.size=h1.size by omega)
    have cb24:=YH cb17 u24 (show ¬ h.size=h1.size by omega)
    have e24:Ext h h24:=e17.updS u24 fun j hj=>by omega
    rcases hc with ⟨w,hp,hvw,r,r24⟩ | ⟨e,r,hp,he,r24⟩
    ·obtain ⟨_,n24,cc,_⟩:=r24
     refine rI (Zi cc rfl) (ZqV ?_)
     refine rI (Zi c24 rfl) (rS (Zi c24 rfl) (rL (s:=z.2.2.1) (Zi c24 rfl) (rL (s:=z.2.2.2.1) (Zi c24 rfl) ?_)))
     refine Zle cb24 (by simp [YS]) (Zbu z) fun h39 c39 u39 z39=>Za (Za ?_)
     have c39':obj h39 h.size=some (.cells (YS z).toArray 33 (0,0)):=c39
     refine rI (Zi c39' rfl) (rS (Zi c39' rfl) (rL (s:=z.2.2.1) (Zi c39' rfl) (rL (s:=z.2.2.2.1) (Zi c39' rfl) (hk _ _ _ h39 (e24.updS u39 fun j hj=>by omega) ?_))))
     rw [hp,← hvw]
     have hold:∀ j,sz h11≤j→j<sz h17→obj h39 j=obj h17 j:=fun j hj hl=>by rw [ZV u39 (by omega) (by omega),ZV u24 hl (by omega)]
     refine ⟨?_,rfl,rfl⟩
     have v17':XY h17 (fun j=>sz h11≤j∧j<sz h17) z v:=v13.keep (fun j hj hl=>by
       rw [ZV u17 (by have:sz h16=h16.size:=rfl;have:sz h15=h15.size:=rfl;have:=e15.size;omega) (by omega),ZV u16 (by have:sz h15=h15.size:=rfl;have:=e15.size;omega) (by omega),ZQ e15 hl]) fun j hj=>⟨by omega,by have:=Zb2 u17;have:=Zb2 u16;have:sz h15=h15.size:=rfl;have:=e15.size;omega⟩
     exact v17'.keep (fun j hj hl=>hold j hj.1 hl) fun j hj=>⟨by omega,by have:=Zb2 u39;omega⟩
    ·obtain ⟨_,n24,cc,g24⟩:=r24
     have g24l:=g24.len
     refine rI (Zi cc rfl) (Zst he (rI (Zi cc rfl) (rI (Zi cc rfl) ?_)))
     refine Zle cb24 (by simp) (by simp [Yd]) fun h28 c28 u28 z28=>?_
     have cc28:=YH cc u28 (show ¬ h1.size=h.size by omega)
     refine YR (Zi cc28 rfl) (YR (Zi cc28 rfl) (Za (Za ?_)))
     have c28':obj h28 h.size=some (.cells zV.toArray 33 (0,0)):=c28
     refine rI (Zi c28' rfl) (rS (Zi c28' rfl) (rL (s:=⟨none,0,0⟩) (Zi c28' rfl) (rL (s:=⟨none,0,0⟩) (Zi c28' rfl) (hk _ _ _ h28 (e24.updS u28 fun j hj=>by omega) ?_))))
     rw [hp]
     refine ⟨XY.plain _ _ 0 [],rfl,?_⟩
     show (n24:Int)=((s.size - r.length:Nat):Int)
     omega
   ·cases hq:ZB 64 s.data.toList with
    | err e r =>
      rw [hq] at o17 pp
      simp only at pp
      have o17:e≠0∧Rf h17 h1.size s e r:=o17
      obtain ⟨_,n24,cc,_⟩:=id o17.2
      refine rI (Zi cc rfl) (ZuC o17.1 ⟨Upd.refl _ _,rfl,.inr ⟨e,r,?_,o17.1,o17.2⟩⟩)
      rw [pp,hlen]
    | ok w r =>
      rw [hq] at o17 pp
      simp only at pp
      have r17:Rf h17 h1.size s 0 (ZM r):=o17
      have hvw:=hv13 w r hq
      obtain ⟨_,n24,cc,g17⟩:=id r17
      have g17l:=g17.len
      refine rI (Zi cc rfl) (Zo6 (rI (Zi cc rfl) (rS (Zi cc rfl) (Zj (fun hlt=>?_) fun hge=>?_))))
      ·have hR9:=Zmq r17 (m:=25) (e':=25) rfl (K:=fun h'=>Upd (fun j=>j=h1.size) h17 h'∧sz h'=sz h17∧((∃ w,Za2 s.data.toList = .ok w∧v=w∧∃ r,Rf h' h1.size s 0 r)∨∃ e r,Za2 s.data.toList = .err e (s.size - r.length)∧e≠0∧Rf h' h1.size s e r)) fun h18 r18 u18 z18=>⟨u18,z18,.inr ⟨25,ZM r,?_,by decide,r18⟩⟩
       ·obtain ⟨b,o,hbo,hst⟩:=hR9
        cases hbo
        exact hst
       ·cases hsk:ZM r with
        | nil=>rw [hsk] at g17l;simp at g17l;omega
        | cons c r'=>rw [hsk] at pp;simp only at pp;rw [pp,hlen]
      ·have hsk:ZM r=[]:=List.eq_nil_of_length_eq_zero (by omega)
       rw [hsk] at pp
       simp only at pp
       exact ⟨Upd.refl _ _,rfl,.inl ⟨w,pp,hvw,_,r17⟩⟩
end Go.Proofs.YtpjbjdheeemdiaaGreatDoor
namespace Go.Js
open Go
namespace JL
def drop:Nat→JL→JL
  | 0,l=>l
  | _+1,nil=>nil
  | n+1,cons _ _ _ _ r=>r.drop n
def hei:JL→Nat
  | nil=>0
  | cons _ _ _ s r=>max (s.hei+1) r.hei
theorem drop_len:∀ (n:Nat) (l:JL),(l.drop n).len=l.len - n
  | 0,l=>rfl
  | n+1,nil=>by simp [drop,len]
  | n+1,cons _ _ _ _ r=>by simp only [drop,len,drop_len n r];omega
theorem drop_succ:∀ (n:Nat) (l:JL) {k:Nat} {t:BL} {ns:List BL} {s r:JL},l.drop n=cons k t ns s r→l.drop (n+1)=r
  | 0,l,_,_,_,_,_,h=>by rw [show l=_ from h];rfl
  | n+1,nil,_,_,_,_,_,h=>by cases h
  | n+1,cons _ _ _ _ r,_,_,_,_,_,h=>drop_succ n r h
theorem drop_cons {n:Nat} {l:JL} (h:n<l.len):∃ k t ns s r,l.drop n=cons k t ns s r:=by
  have:=drop_len n l
  cases hd:l.drop n with
  | nil=>rw [hd] at this;simp [len] at this;omega
  | cons k t ns s r=>exact ⟨k,t,ns,s,r,rfl⟩
theorem drop_nil {n:Nat} {l:JL} (h:l.len≤n):l.drop n=nil:=by
  have:=drop_len n l
  exact len_nil.1 (by omega)
theorem drop_hei:∀ (n:Nat) (l:JL) {k:Nat} {t:BL} {ns:List BL} {s r:JL},l.drop n=cons k t ns s r→s.hei+1≤l.hei
  | 0,l,_,_,_,_,_,h=>by rw [show l=_ from h];simp only [hei];omega
  | n+1,nil,_,_,_,_,_,h=>by cases h
  | n+1,cons _ _ _ _ r,_,_,_,_,_,h=>by have:=drop_hei n r h;simp only [hei];omega
end JL
end Go.Js
namespace Go.Proofs.YtpjbjdheeemdiaaGreatDoor
open Go Go.Fw Go.Js
theorem ZaP.drop {h:Zc} {S:Nat→Prop}:∀ (n:Nat) {l:JL} {vs:List Value},ZaP h S l vs→ZaP h S (l.drop n) (vs.drop (n*4))
  | 0,l,vs,h=>by simpa [JL.drop] using h
  | n+1,.nil,vs,h=>by rw [show vs=[] from h];simp [JL.drop,ZaP]
  | n+1,.cons k t ns s r,vs,h=>by
    obtain ⟨x,y,cx,vs',e,a,b,c,d,f,g⟩:=h
    have:=ZaP.drop n g
    rw [e]
    show ZaP _ _ (r.drop n) _
    have e2:(YS ((k:Int),Ze t,x,y,())++vs').drop ((n+1)*4)=vs'.drop (n*4):=by
      rw [List.drop_append,show (YS ((k:Int),Ze t,x,y,())).length=4 from rfl,List.drop_of_length_le (by show 4≤_;omega),List.nil_append]
      congr 1
      omega
    rw [e2];exact this
theorem ZcE {h:Zc} {S:Nat→Prop} {l:JL} {vs:List Value} {x:Sl} (hr:Row h x 4 vs) (hl:ZaP h S l vs) {i:Nat} {k:Nat} {t:BL} {ns:List BL} {s r:JL} (hd:l.drop i = .cons k t ns s r) {n:Int} (hn:n=i) {K:Int→ByteArray→Sl→Sl→Prop}
    (hk:∀ z:VT5,XY h S z ⟨k,t,ns,s⟩→K z.1 z.2.1 z.2.2.1 z.2.2.2.1):Zd6 x.ptr x.len n 4 fun b o=>ldI h b o .u8 fun t1=>ldS h b (o+1) fun t2=>ldL h b (o+2) fun t3=>ldL h b (o+3) fun t4=>K t1 t2 t3 t4:=by
  subst hn
  have hlen:=hl.len
  have hxl:=hr.len
  have hi:i<l.len:=by
    have:=JL.drop_len i l
    rw [hd] at this
    simp [JL.len] at this
    omega
  have hL:=ZaP.drop i hl
  rw [hd] at hL
  obtain ⟨sx,sy,cx,vs',e,a,b,c,d,f,g⟩:=hL
  rcases hr.at_ with h0 | ⟨bb,o,hp,hh⟩
  ·omega
  ·rw [hp]
   have get:∀ j v,(YS ((k:Int),Ze t,sx,sy,()))[j]?=some v→h.cell bb (o+i*4+j)=some v:=fun j v hv=>by
     have h1:vs[i*4+j]?=some v:=by
       rw [← List.getElem?_drop,e,List.getElem?_append_left]
       ·exact hv
       ·rcases Nat.lt_or_ge j (YS ((k:Int),Ze t,sx,sy,())).length with h | h
        ·exact h
        ·rw [List.getElem?_eq_none h] at hv;cases hv
     have:=Zim hh h1
     rw [Nat.add_assoc];exact this
   have gc:∀ j v,(YS ((k:Int),Ze t,sx,sy,()))[j]?=some v→Zaq (o+i*4+j) (obj h bb)=some v:=fun j v hv=>by rw [← Xr];exact get j v hv
   refine ZgM (n:=i) rfl (by omega) (rI (gc 0 _ rfl) (rS (gc 1 _ rfl) (rL (s:=sx) (gc 2 _ rfl) (rL (s:=sy) (gc 3 _ rfl) (hk ((k:Int),Ze t,sx,sy,()) ⟨rfl,rfl,a,b,cx,c,d,f⟩)))))
theorem Zd2 {h:Zc} {ns:List BL} {x:Sl} (hr:Row h x 1 (ns.map sV)) {i:Nat} {t:BL} (ht:ns[i]?=some t) {n:Int} (hn:n=i) {K:ByteArray→Prop} (hk:K (Ze t)):Zd6 x.ptr x.len n 1 fun b o=>ldS h b o K :=
  Row.idx hr hn (v:=sV t) (by simp [ht]) fun b o _ hc=>⟨_,hc,hk⟩
theorem ZbK {h:Zc} {ns:List BL} {x:Sl} (hr:Row h x 1 (ns.map sV)):x.len=ns.length:=by have:=hr.len;simp at this;omega
theorem Zq7 {a b:BL}:Ze a=Ze b↔a=b:=by
  constructor
  ·intro h
   have:=congrArg (fun b:ByteArray=>b.data.toList) h
   simpa [Ze] using this
  ·rintro rfl;rfl
theorem Xc (a b:BL):Za0 (Ze a) (Ze b)=decide (a=b):=by
  rw [Zlf]
  exact decide_eq_decide.2 Zq7
theorem Zfr {h:Zc} {na nb:List BL} {a b:Sl} (ha:Row h a 1 (na.map sV)) (hb:Row h b 1 (nb.map sV)) {K:Bool→HP} (hk:K (decide (na=nb)) h):Yg a b K h:=by
  unfold Yg ZaF
  have la:=ZbK ha
  have lb:=ZbK hb
  have biga:=ha.big
  have capa:=ha.cap
  refine Xp (fun hne=>?_) fun heq=>Za ?_
  ·rw [decide_eq_false fun e=>hne (by rw [la,lb,e])] at hk;exact hk
  ·refine Zx (fun p h'=>h'=h∧∃ i:Nat,p.1=i∧i≤na.length∧na.take i=nb.take i) (fun p _=>(a.len - p.1).toNat) ⟨rfl,0,rfl,Nat.zero_le _,rfl⟩ ?_
   rintro ⟨i1,u⟩ h2 ⟨rfl,i,hi,hle,ht⟩
   dsimp only at hi ⊢
   subst hi
   refine Zj (fun hlt=>?_) fun hge=>?_
   ·have hia:i<na.length:=by omega
    have hib:i<nb.length:=by omega
    refine Zd2 ha (List.getElem?_eq_getElem hia) rfl (Zd2 hb (List.getElem?_eq_getElem hib) rfl ?_)
    rw [Xc]
    by_cases he:na[i]=nb[i]
    ·rw [decide_eq_true he]
     refine Zn rfl (Za ?_)
     rw [ZJ (by omega) (by omega)]
     refine ⟨⟨rfl,i+1,rfl,by omega,?_⟩,by omega⟩
     rw [List.take_add_one,List.take_add_one,List.getElem?_eq_getElem hia,List.getElem?_eq_getElem hib,ht,he]
    ·rw [decide_eq_false he]
     refine Zm rfl ?_
     rw [decide_eq_false fun e=>he (by subst e;rfl)] at hk
     exact hk
   ·rw [List.take_of_length_le (by omega),List.take_of_length_le (by omega)] at ht
    rw [decide_eq_true ht] at hk;exact hk
theorem Zv6 {v w:JV}:v=w↔v.k=w.k∧v.t=w.t∧v.ns=w.ns∧v.sub=w.sub:=by
  constructor
  ·rintro rfl;exact ⟨rfl,rfl,rfl,rfl⟩
  ·rcases v with ⟨a,b,c,d⟩;rcases w with ⟨a',b',c',d'⟩
   rintro ⟨h1,h2,h3,h4⟩
   simp only at h1 h2 h3 h4
   subst h1 h2 h3 h4;rfl
theorem XY.ext {h h':Zc} {S:Nat→Prop} {z:VT5} {v:JV} (hv:XY h S z v) (hS:∀ j,S j→j<sz h) (u:Ext h h'):XY h' S z v:=hv.keep (fun j hj _=>ZQ u (hS j hj)) fun j hj=>hj
theorem ZpM:∀ (n:Nat) {h:Zc} {a b:VT5} {v w:JV} {S S':Nat→Prop} {K:Bool→HP},v.sub.hei≤n→XY h S a v→XY h S' b w→(∀ j,S j→j<sz h)→(∀ j,S' j→j<sz h)→(∀ h',Ext h h'→K (decide (v=w)) h')→YL (n+1) a b K h:=by
  intro n
  induction n with
  | zero=>?_
  | succ n ih=>?_
  all_goals intro h a b v w S S' K hn va vb hS hS' hk
  all_goals unfold YL Zax ZaE
  all_goals obtain ⟨a1,a2,a3,a4,cxa,a5,a6,a7⟩:=va
  all_goals obtain ⟨b1,b2,b3,b4,cxb,b5,b6,b7⟩:=vb
  all_goals refine ZaX fun h1 c1 e1 z1=>ZaX fun h2 c2 e2 z2=>?_
  all_goals have e02:=e1.trans e2
  all_goals have c1':obj h2 h.size=some (.cells (YS a).toArray 33 (0,0)):=Z6 c1 e2
  all_goals have c2':obj h2 h1.size=some (.cells (YS b).toArray 33 (0,0)):=c2
  all_goals have key:=hk h2 e02
  all_goals have no:¬ (v=w)→K false h2:=fun hne=>by rw [decide_eq_false hne] at key;exact key
  all_goals refine rI (Zi c1' rfl) (rI (Zi c2' rfl) (Xp (fun hne=>no fun e=>hne (by rw [a1,b1,e])) fun hek=>rS (Zi c1' rfl) (rS (Zi c2' rfl) ?_)))
  all_goals rw [show Za0 a.2.1 b.2.1=decide (v.t=w.t) by rw [a2,b2];exact Xc _ _]
  all_goals by_cases ht:v.t=w.t
  all_goals first
    | (rw [decide_eq_false ht];exact Zm rfl (no fun e=>ht (by rw [e])))
    | rw [decide_eq_true ht]
  all_goals have lxa:a.2.2.1.len=v.sub.len:=by have:=a5.len;have:=a7.len;omega
  all_goals have lxb:b.2.2.1.len=w.sub.len:=by have:=b5.len;have:=b7.len;omega
  all_goals have big:=a5.big
  all_goals have cap:=a5.cap
  all_goals refine Zn rfl (rL (s:=a.2.2.1) (Zi c1' rfl) (rL (s:=b.2.2.1) (Zi c2' rfl) (Xp (fun hne=>no fun e=>hne (by rw [lxa,lxb,e])) fun hel=>rL (s:=a.2.2.2.1) (Zi c1' rfl) (rL (s:=b.2.2.2.1) (Zi c2' rfl) ?_))))
  all_goals refine Zfr (Yf a3 a4 fun j hj hl=>ZQ e02 hl) (Yf b3 b4 fun j hj hl=>ZQ e02 hl) ?_
  all_goals by_cases hns:v.ns=w.ns
  all_goals first
    | (rw [decide_eq_false hns];exact Zm rfl (no fun e=>hns (by rw [e])))
    | rw [decide_eq_true hns]
  all_goals refine Zn rfl (Za ?_)
  all_goals have hvw:v=w↔v.sub=w.sub:=⟨fun e=>by rw [e],fun e=>Zv6.2 ⟨by omega,ht,hns,e⟩⟩
  all_goals have hll:v.sub.len=w.sub.len:=by omega
  ·
   have hnil:v.sub = .nil:=by
     cases hs:v.sub with
     | nil=>rfl
     | cons k t ns s r=>rw [hs] at hn;simp [JL.hei] at hn
   have hnil2:w.sub = .nil:=JL.len_nil.1 (by rw [← hll,hnil];rfl)
   refine Zx (fun p h'=>h'=h2∧p.1=0) (fun _ _=>0) ⟨rfl,rfl⟩ ?_
   rintro ⟨i,u⟩ h3 ⟨rfl,hi⟩
   dsimp only at hi ⊢
   subst hi
   refine rL (s:=a.2.2.1) (Zi c1' rfl) (Zn (by rw [lxa,hnil];rfl) ?_)
   rw [decide_eq_true (hvw.2 (by rw [hnil,hnil2]))] at key
   exact key
  ·refine Zx (fun p h'=>∃ i:Nat,p.1=i∧i≤v.sub.len∧Ext h2 h'∧(v.sub=w.sub↔v.sub.drop i=w.sub.drop i)) (fun p _=>(v.sub.len - p.1).toNat) ⟨0,rfl,Nat.zero_le _,Ext.refl _,Iff.rfl⟩ ?_
   rintro ⟨i0,u⟩ h3 ⟨i,hi,hle,e3,hiff⟩
   dsimp only at hi ⊢
   subst hi
   have e03:=e02.trans e3
   have key3:=hk h3 e03
   have c13:=Z6 c1' e3
   have c23:=Z6 c2' e3
   refine rL (s:=a.2.2.1) (Zi c13 rfl) (Zj (fun hlt=>?_) fun hge=>?_)
   ·have hia:i<v.sub.len:=by omega
    obtain ⟨k,t,ns,s,r,hd⟩:=JL.drop_cons hia
    obtain ⟨k',t',ns',s',r',hd'⟩:=JL.drop_cons (l:=w.sub) (n:=i) (by omega)
    have ra:Row h3 a.2.2.1 4 cxa:=Yf a5 a6 fun j hj hl=>ZQ e03 hl
    have rb:Row h3 b.2.2.1 4 cxb:=Yf b5 b6 fun j hj hl=>ZQ e03 hl
    have la:ZaP h3 S v.sub cxa:=a7.keep (fun j hj hl=>ZQ e03 hl) fun j hj=>hj
    have lb:ZaP h3 S' w.sub cxb:=b7.keep (fun j hj hl=>ZQ e03 hl) fun j hj=>hj
    have hsz:=e03.size
    refine rL (s:=a.2.2.1) (Zi c13 rfl) (ZcE ra la hd rfl fun za hza=>?_)
    refine rL (s:=b.2.2.1) (Zi c23 rfl) (ZcE rb lb hd' rfl fun zb hzb=>?_)
    refine ih (v:=⟨k,t,ns,s⟩) (w:=⟨k',t',ns',s'⟩) (by have:=JL.drop_hei i v.sub hd;show s.hei≤n;omega) hza hzb (fun j hj=>Nat.lt_of_lt_of_le (hS j hj) hsz) (fun j hj=>Nat.lt_of_lt_of_le (hS' j hj) hsz) fun h4 e4=>?_
    refine YR (Zi (Z6 c23 e4) rfl) (YR (Zi (Z6 c13 e4) rfl) ?_)
    by_cases he:(⟨k,t,ns,s⟩:JV)=⟨k',t',ns',s'⟩
    ·rw [decide_eq_true he]
     cases he
     refine Zn rfl (Za ?_)
     rw [ZJ (by omega) (by omega)]
     refine ⟨⟨i+1,rfl,by omega,e3.trans e4,?_⟩,by omega⟩
     rw [hiff,hd,hd',JL.drop_succ i _ hd,JL.drop_succ i _ hd']
     constructor
     ·intro e;cases e;rfl
     ·intro e;rw [e]
    ·rw [decide_eq_false he]
     refine Zm rfl ?_
     have key4:=hk h4 (e03.trans e4)
     rw [decide_eq_false] at key4
     ·exact key4
     ·rw [hvw,hiff,hd,hd']
      intro e;apply he;cases e;rfl
   ·rw [decide_eq_true] at key3
    ·exact key3
    ·rw [hvw,hiff,JL.drop_nil (by omega),JL.drop_nil (by omega)]
theorem ZiT {h:Zc} {a b:VT5} {v w:JV} {S S':Nat→Prop} {K:Bool→HP} (va:XY h S a v) (vb:XY h S' b w) (hS:∀ j,S j→j<sz h) (hS':∀ j,S' j→j<sz h) (hk:∀ h',Ext h h'→K (decide (v=w)) h'):XH a b K h :=
  ⟨v.sub.hei+1,ZpM _ (Nat.le_refl _) va vb hS hS' hk⟩
end Go.Proofs.YtpjbjdheeemdiaaGreatDoor
namespace Go.Js
open Go
def Zr3 (t:BL):Bool:=match Za2 t with
  | .ok v=>decide (v.k=4)&&decide (v.t=t)
  | .err _ _=>false
def whB (k:Nat) (t:BL) (ns:List BL) (sub:JL):Bool :=
  if k=1∨k=2∨k=3 then decide (t=[])&&(sub.isNil&&decide (ns=[]))
  else if k=4 then Zr3 t&&(sub.isNil&&decide (ns=[]))
  else if k=5 then Lib.validD t&&(sub.isNil&&decide (ns=[]))
  else if k=6 then decide (t=[])&&decide (ns=[])
  else if k=7 then decide (t=[])&&(decide (ns.length=sub.len)&&ns.all Lib.validD)
  else false
def Zt9:JL→Prop
  | .nil=>True
  | .cons _ t ns sub rest=>t.length<9223372036854775807∧(∀ n∈ns,n.length<9223372036854775807)∧Zt9 sub∧Zt9 rest
def ZoM (v:JV):Prop:=v.t.length<9223372036854775807∧(∀ n∈v.ns,n.length<9223372036854775807)∧Zt9 v.sub
abbrev Rt:=Nat→BL→List BL→JL→Bool
def ZaM (rt:Rt):Nat→JL→Nat→Nat→Bool × Nat × Nat
  | _,.nil,n,dp=>(true,n,dp)
  | d,.cons k t ns sub rest,n,dp =>
    if 65536<n+1 then (false,n+1,dp)
    else if rt k t ns sub=false then (false,n+1,dp)
    else if k≠6∧k≠7 then ZaM rt d rest (n+1) dp
    else if 64≤d then ZaM rt d rest (n+1) (max dp (d+1))
    else if (ZaM rt (d+1) sub (n+1) (max dp (d+1))).1=true then ZaM rt d rest (ZaM rt (d+1) sub (n+1) (max dp (d+1))).2.1 (ZaM rt (d+1) sub (n+1) (max dp (d+1))).2.2
    else ZaM rt (d+1) sub (n+1) (max dp (d+1))
def Zc2 (rt:Rt) (d:Nat) (v:JV) (n dp:Nat):Bool × Nat × Nat:=ZaM rt d (.cons v.k v.t v.ns v.sub .nil) n dp
theorem Zpo (rt:Rt) (d k:Nat) (t:BL) (ns:List BL) (sub rest:JL) (n dp:Nat):ZaM rt d (.cons k t ns sub rest) n dp =
    if (Zc2 rt d ⟨k,t,ns,sub⟩ n dp).1=true then ZaM rt d rest (Zc2 rt d ⟨k,t,ns,sub⟩ n dp).2.1 (Zc2 rt d ⟨k,t,ns,sub⟩ n dp).2.2 else Zc2 rt d ⟨k,t,ns,sub⟩ n dp:=by
  unfold Zc2
  simp only [ZaM]
  by_cases h1:65536<n+1
  ·simp [h1]
  by_cases h2:rt k t ns sub=false
  ·simp [h1,h2]
  by_cases h3:k≠6∧k≠7
  ·simp [h1,h2,h3]
  by_cases h4:64≤d
  ·simp [h1,h2,h3,h4]
  by_cases h5:(ZaM rt (d+1) sub (n+1) (max dp (d+1))).1=true
  ·simp [h1,h2,h3,h4,h5]
  ·simp [h1,h2,h3,h4,h5]
theorem ZnK:∀ (n:Nat) {l:JL} {k:Nat} {t:BL} {ns:List BL} {s r:JL},Zt9 l→l.drop n = .cons k t ns s r→ZoM ⟨k,t,ns,s⟩
  | 0,l,k,t,ns,s,r,h,e=>by
    rw [show l=_ from e] at h
    exact ⟨h.1,h.2.1,h.2.2.1⟩
  | n+1,.nil,_,_,_,_,_,_,e=>by cases e
  | n+1,.cons _ _ _ _ r',_,_,_,_,_,h,e=>ZnK n h.2.2.2 e
end Go.Js
namespace Go.Proofs.YtpjbjdheeemdiaaGreatDoor
open Go Go.Fw Go.Js
section
variable {h:Zc}
theorem ZkG {t:BL} (ht:Zcb h) (hh:9≤sz h) {K:Bool→HP} (hk:∀ h',Ext h h'→K (Zr3 t) h'):Za8 (Ze t) K h:=by
  unfold Za8 Zdo
  refine ZjA ht hh fun z e n h1 e1 g=>?_
  have hp:(Ze t).data.toList=t:=rfl
  rw [hp] at g
  refine ZaX fun h2 c2 e2 z2=>?_
  have c2':obj h2 h1.size=some (.cells zV.toArray 33 (0,0)):=c2
  refine Zle c2' (by simp) (Zbu z) fun h3 c3 u3 z3=>Za (Za ?_)
  have c3':obj h3 h1.size=some (.cells (YS z).toArray 33 (0,0)):=c3
  have hs1:sz h1=h1.size:=rfl
  have key:=hk h3 ((e1.trans e2).updS u3 fun j hj=>by have:=e1.size;have:sz h=h.size:=rfl;omega)
  unfold Zr3 at key
  cases hq:Za2 t with
  | err e' k =>
    rw [hq] at g key
    obtain ⟨_,he,_⟩:=g
    have:=Znt hq
    exact Zn (beq_eq_false_iff_ne.2 (by omega)) key
  | ok v =>
    rw [hq] at g key
    obtain ⟨vr,he,_⟩:=g
    simp only at key
    refine Zm (by rw [he];rfl) (rI (Zi c3' rfl) ?_)
    rw [vr.1]
    refine Yh (fun h4=>rS (Zi c3' rfl) (Zd ?_)) fun h4=>?_
    ·rw [decide_eq_true (show v.k=4 by omega),Bool.true_and] at key
     rw [vr.2.1,Xc];exact key
    ·rw [decide_eq_false (show ¬ v.k=4 by omega),Bool.false_and] at key
     exact key
theorem ZkY {ns:List BL} {x:Sl} (hr:Row h x 1 (ns.map sV)) (hx:inS (fun j=>j<sz h) x) (hfit:∀ n∈ns,n.length<9223372036854775807) (ht:Zcb h) {K:Bool→HP} (hk:∀ h',Ext h h'→K (!ns.all Lib.validD) h'):ZE x K h:=by
  unfold ZE Z1 ZS Z8
  have hl:=ZbK hr
  have hbig:=hr.big
  have hcap:=hr.cap
  refine Za ?_
  refine Zx (fun p h'=>∃ i:Nat,p.1=i∧i≤ns.length∧Ext h h'∧(ns.take i).all Lib.validD=true) (fun p _=>(ns.length - p.1).toNat) ⟨0,rfl,Nat.zero_le _,Ext.refl _,rfl⟩ ?_
  rintro ⟨i0,u⟩ h2 ⟨i,hi,hle,e2,hall⟩
  dsimp only at hi ⊢
  subst hi
  refine Zj (fun hlt=>Za ?_) fun hge=>Za (Zd ?_)
  ·have hia:i<ns.length:=by omega
   have hr2:Row h2 x 1 (ns.map sV):=Yf hr hx fun j hj hl=>ZQ e2 hl
   refine Zd2 hr2 (List.getElem?_eq_getElem hia) rfl ?_
   unfold ZcO ZdF
   have hfi:=hfit ns[i] (List.getElem_mem hia)
   refine ⟨ht.ext e2,by rw [YO];omega,fun h3 e3=>Zd ?_⟩
   have hv:Lib.validD (Ze ns[i]).data.toList=Lib.validD ns[i]:=rfl
   rw [hv]
   cases hd:Lib.validD ns[i] with
   | true =>
     refine Zn rfl ?_
     rw [ZJ (by omega) (by omega)]
     refine ⟨⟨i+1,rfl,by omega,e2.trans e3,?_⟩,by omega⟩
     rw [List.take_add_one,List.getElem?_eq_getElem hia,List.all_append,hall]
     simp [hd]
   | false =>
     refine Zm rfl (Za (Zd ?_))
     have:=hk h3 (e2.trans e3)
     have hna:ns.all Lib.validD=false:=by
       rw [List.all_eq_false]
       exact ⟨ns[i],List.getElem_mem hia,by simp [hd]⟩
     rw [hna] at this
     rw [decide_eq_true (show (i:Int)≥0 by omega)];exact this
  ·rw [List.take_of_length_le (by omega)] at hall
   have:=hk h2 e2
   rw [hall] at this
   exact this
theorem Zup {a b:Bool} {K:Bool→Prop} (hk:K (a&&b)):Zs (!!a) (ZD (!!b) K) (K false):=by
  cases a
  ·exact Zn rfl hk
  ·cases b<;>exact Zm rfl (Zd hk)
theorem ZyH {a b c:Bool} {K:Bool→Prop} (hk:K (a&&(b&&c))):Zs (!!a) (Zs (!!b) (ZD (!!c) K) (K false)) (K false):=by
  cases a
  ·exact Zn rfl hk
  ·exact Zm rfl (Zup hk)
theorem Zwj {a b c:Bool} {K:Bool→Prop} (hk:K (a&&(b&&c))):Zs a (Zs (!!b) (ZD (!!c) K) (K false)) (K false):=by
  cases a
  ·exact Zn rfl hk
  ·exact Zm rfl (Zup hk)
theorem ZvR {x:Sl} {sub:JL} (hl:x.len=sub.len):decide ((x.len:Int)>0) = !sub.isNil:=by
  cases sub with
  | nil=>rw [hl];rfl
  | cons k t ns s r=>rw [hl];simp [JL.len,JL.isNil]
theorem Zyo {x:Sl} {ns:List BL} (hl:x.len=ns.length):decide ((x.len:Int)>0) = !decide (ns=[]):=by
  cases ns with
  | nil=>rw [hl];rfl
  | cons a ns=>rw [hl];simp
theorem Zob {z:VT5} {v:JV} {S:Nat→Prop} (hv:XY h S z v) (hS:∀ j,S j→j<sz h) (hfit:ZoM v) (ht:Zcb h) (hh:9≤sz h) {K:Bool→HP} (hk:∀ h',Ext h h'→K (whB v.k v.t v.ns v.sub) h'):ZcU z K h:=by
  unfold ZcU ZeQ
  obtain ⟨a1,a2,a3,a4,cx,a5,a6,a7⟩:=hv
  refine ZaX fun h1 c1 e1 z1=>?_
  have c1':obj h1 h.size=some (.cells (YS z).toArray 33 (0,0)):=c1
  have hll:z.2.2.1.len=v.sub.len:=by have:=a5.len;have:=a7.len;omega
  have hnl:=ZbK a3
  refine rS (Zi c1' rfl) (rL (s:=z.2.2.1) (Zi c1' rfl) (rL (s:=z.2.2.2.1) (Zi c1' rfl) (Zd (Zd (Zd (rI (Zi c1' rfl) ?_))))))
  have htxt:(!Za0 z.2.1 (ByteArray.mk #[])) = !decide (v.t=[]):=by rw [a2,show (ByteArray.mk #[])=Ze [] from rfl,Xc]
  rw [htxt,ZvR hll,Zyo hnl,a1]
  have key:=hk h1 e1
  have e_:∀ {n:Nat} {A B:Prop},(v.k=n→A)→(v.k≠n→B)→ZD ((v.k:Int) ==(n:Int)) fun t=>Zs t A B:=fun {n A B} ha hb=>Zd (Yh (fun e=>ha (by omega)) fun e=>hb (by omega))
  refine Zr (fun p h'=>h'=h1∧(p.1=true↔v.k=1∨v.k=2∨v.k=3)) ?_ ?_
  ·rintro ⟨b,u⟩ h2 ⟨rfl,hb⟩
   dsimp only at hb ⊢
   cases hbb:b with
   | true =>
     have h123:=hb.1 hbb
     unfold whB at key
     rw [if_pos h123] at key
     refine Zm rfl ?_
     exact ZyH (K:=fun t=>K t h2) key
   | false =>
     have h123:¬ (v.k=1∨v.k=2∨v.k=3):=fun e=>by have:=hb.2 e;rw [hbb] at this;cases this
     refine Zn rfl ?_
     refine e_ (n:=4) (fun e4=>?_) fun n4=>e_ (n:=5) (fun e5=>?_) fun n5=>e_ (n:=6) (fun e6=>?_) fun n6=>e_ (n:=7) (fun e7=>?_) fun n7=>?_
     ·refine rS (Zi c1' rfl) ?_
      rw [a2]
      have hs1:9≤sz h2:=by have:=e1.size;have:sz h2=h2.size:=rfl;have:sz h=h.size:=rfl;omega
      refine ZkG (ht.ext e1) hs1 fun h3 e3=>?_
      have key:=hk h3 (e1.trans e3)
      unfold whB at key
      rw [if_neg h123,if_pos e4] at key
      exact Zwj (K:=fun t=>K t h3) key
     ·refine rS (Zi c1' rfl) ?_
      rw [a2]
      have hf:=hfit.1
      refine ⟨ht.ext e1,by rw [YO];omega,fun h3 e3=>?_⟩
      have hvd:Lib.validD (Ze v.t).data.toList=Lib.validD v.t:=rfl
      rw [hvd]
      have key:=hk h3 (e1.trans e3)
      unfold whB at key
      rw [if_neg h123,if_neg n4,if_pos e5] at key
      exact Zwj (K:=fun t=>K t h3) key
     ·unfold whB at key
      rw [if_neg h123,if_neg n4,if_neg n5,if_pos e6] at key
      exact Zup (K:=fun t=>K t h2) key
     ·unfold whB at key
      rw [if_neg h123,if_neg n4,if_neg n5,if_neg n6,if_pos e7] at key
      cases htt:decide (v.t=[]) with
      | false=>rw [htt] at key;exact Zn rfl key
      | true =>
        rw [htt,Bool.true_and] at key
        refine Zm rfl (rL (s:=z.2.2.2.1) (Zi c1' rfl) (rL (s:=z.2.2.1) (Zi c1' rfl) (Yh (fun hel=>?_) fun hel=>?_)))
        ·refine rL (s:=z.2.2.2.1) (Zi c1' rfl) (ZkY (Yf a3 a4 fun j hj hl=>ZQ e1 hl) ?_ hfit.2.1 (ht.ext e1) fun h3 e3=>Zd ?_)
         ·intro hl j hj
          have:=hS j (a4 hl j hj)
          have:=e1.size
          have:sz h2=h2.size:=rfl
          have:sz h=h.size:=rfl
          omega
         ·have key:=hk h3 (e1.trans e3)
          unfold whB at key
          rw [if_neg h123,if_neg n4,if_neg n5,if_neg n6,if_pos e7,htt,Bool.true_and,decide_eq_true (show v.ns.length=v.sub.len by omega),Bool.true_and] at key
          rw [Bool.not_not];exact key
        ·rw [decide_eq_false (show ¬ v.ns.length=v.sub.len by omega),Bool.false_and] at key
         exact key
     ·unfold whB at key
      rw [if_neg h123,if_neg n4,if_neg n5,if_neg n6,if_neg n7] at key
      exact key
  ·refine e_ (n:=1) (fun e=>⟨rfl,by simp [e]⟩) fun n1=>e_ (n:=2) (fun e=>⟨rfl,by simp [e]⟩) fun n2=>Zd ⟨rfl,?_⟩
   simp only [beq_iff_eq]
   omega
end
end Go.Proofs.YtpjbjdheeemdiaaGreatDoor
namespace Go.Proofs.YtpjbjdheeemdiaaGreatDoor
open Go Go.Fw Go.Js
def Zzf (right:Value) (rt:Rt):Prop:=(right = .func (.func 94) #[] #[]∧rt=whB)∨(right = .func (.func 119) #[] #[]∧rt=fun _ _ _ _=>true)
abbrev ZCH (n dp:Nat):List Value:=[.int .i64 n,.int .i64 dp]
def Zk1 (h:Zc) (C n dp:Nat):Prop:=obj h C=some (.cells (ZCH n dp).toArray 157 (0,0))
theorem Zdd (rt:Rt):∀ (l:JL) (d n dp:Nat),n≤65536→(ZaM rt d l n dp).2.1≤65537∧((ZaM rt d l n dp).1=true→(ZaM rt d l n dp).2.1≤65536)
  | .nil,d,n,dp,h=>⟨by show n≤65537;omega,fun _=>h⟩
  | .cons k t ns sub rest,d,n,dp,h=>by
    simp only [ZaM]
    split
    ·exact ⟨by show n+1≤65537;omega,fun h=>by cases h⟩
    split
    ·exact ⟨by show n+1≤65537;omega,fun h=>by cases h⟩
    split
    ·exact Zdd rt rest d (n+1) dp (by omega)
    split
    ·exact Zdd rt rest d (n+1) _ (by omega)
    split
    ·rename_i hs
     have:=Zdd rt sub (d+1) (n+1) (max dp (d+1)) (by omega)
     exact Zdd rt rest d _ _ (this.2 hs)
    ·have:=Zdd rt sub (d+1) (n+1) (max dp (d+1)) (by omega)
     exact this
theorem Zc7 (rt:Rt):∀ (l:JL) (d n dp:Nat),d≤64→dp≤65→(ZaM rt d l n dp).2.2≤65
  | .nil,d,n,dp,_,h=>h
  | .cons k t ns sub rest,d,n,dp,hd,h=>by
    simp only [ZaM]
    split
    ·exact h
    split
    ·exact h
    split
    ·exact Zc7 rt rest d (n+1) dp hd h
    split
    ·exact Zc7 rt rest d (n+1) _ hd (by omega)
    split
    ·exact Zc7 rt rest d _ _ hd (Zc7 rt sub (d+1) (n+1) _ (by omega) (by omega))
    ·exact Zc7 rt sub (d+1) (n+1) _ (by omega) (by omega)
theorem rV {h:Zc} {b o:Nat} {n:Value} {K:Value→Prop} (hc:Zaq o (obj h b)=some n) (hk:K n):ldV h b o K:=by rw [Zv1 hc];exact hk
def Zuq (f53:Zhv) (right:Value) (rt:Rt) (v:JV):Prop:=∀ {h:Zc} {C n dp d:Nat} {z:VT5} {S:Nat→Prop} {K:Bool→HP},XY h S z v→(∀ j,S j→j<sz h∧j≠C)→ZoM v→Zcb h→9≤C→Zk1 h C n dp→n≤65536→d≤64→dp≤65 →
    (∀ h',Zk1 h' C (Zc2 rt d v n dp).2.1 (Zc2 rt d v n dp).2.2→Upd (· = C) h h'→K (Zc2 rt d v n dp).1 h')→f53 (At C) z d right K h
theorem ZCC {a b:Nat}:Zs7 (a:Int) (b:Int)=((max a b:Nat):Int):=by
  unfold Zs7
  split<;>omega
theorem Zk6 {f53:Zhv} {right:Value} {rt:Rt} (hrt:Zzf right rt) {v:JV} (hsub:∀ i k t ns s r,v.sub.drop i = .cons k t ns s r→Zuq f53 right rt ⟨k,t,ns,s⟩):Zuq (Zbq f53) right rt v:=by
  intro h C n dp d z S K hv hS hfit ht hC hc hn hd hdp hk
  unfold Zbq ZcG
  have hCs:=ZbJ hc
  have hs:sz h=h.size:=rfl
  refine ZaX fun h1 c1 e1 z1=>ZaX fun h3 c3 e3 z3=>ZaX fun h5 c5 e5 z5=>?_
  have hone:Yd right=true:=by rcases hrt with ⟨e,_⟩ | ⟨e,_⟩<;>rw [e]<;>simp [Yd]
  refine ⟨hone,ZaX fun h7 c7 e7 z7=>?_⟩
  have e17:=(e3.trans e5).trans e7
  have e07:=e1.trans e17
  have s1:sz h1=h1.size:=rfl
  have s3:sz h3=h3.size:=rfl
  have s5:sz h5=h5.size:=rfl
  have b1:obj h7 h.size=some (.cells [.pointer (At C)].toArray 155 (0,0)):=Z6 c1 e17
  have b2:obj h7 h1.size=some (.cells (YS z).toArray 33 (0,0)):=Z6 c3 (e5.trans e7)
  have b3:obj h7 h3.size=some (.cells [.int .i64 d].toArray 3 (0,0)):=Z6 c5 e7
  have b4:obj h7 h5.size=some (.cells [right].toArray 45 (0,0)):=c7
  have hC7:Zk1 h7 C n dp:=Z6 hc e07
  refine rP (Zi b1 rfl) (Z7 (rI (Zi hC7 rfl) (Z7 (Zi1 hC7 (by simp) ZcY fun h8 c8 u8 z8=>?_))))
  have hC8:Zk1 h8 C (n+1) dp:=by
    unfold Zk1
    rw [c8,ZJ (by omega) (by omega)];rfl
  have d1:¬ h.size=C:=by omega
  have d2:¬ h1.size=C:=by omega
  have d3:¬ h3.size=C:=by omega
  have d4:¬ h5.size=C:=by omega
  have g1:=YH b1 u8 d1
  have g2:=YH b2 u8 d2
  have g3:=YH b3 u8 d3
  have g4:=YH b4 u8 d4
  have u08:Upd (· = C) h h8:=UN e07 u8
  have hW:Zc2 rt d v n dp=ZaM rt d (.cons v.k v.t v.ns v.sub .nil) n dp:=rfl
  simp only [ZaM] at hW
  refine rP (Zi g1 rfl) (Z7 (rI (Zi hC8 rfl) (Zj (fun hbig=>?_) fun hsmall=>rV (Zi g4 rfl) (rI (Zi g2 rfl) (rS (Zi g2 rfl) (rL (s:=z.2.2.1) (Zi g2 rfl) (rL (s:=z.2.2.2.1) (Zi g2 rfl) ?_)))))))
  ·rw [if_pos (by omega)] at hW
   rw [hW] at hk
   exact hk h8 hC8 u08
  rw [if_neg (by omega)] at hW
  have v8:XY h8 S z v:=hv.keep (fun j hj hl=>ZV u08 hl (hS j hj).2) fun j hj=>hj
  have hS8:∀ j,S j→j<sz h8:=fun j hj=>Nat.lt_of_lt_of_le (hS j hj).1 (Zb2 u08)
  have t8:Zcb h8:=ht.upd u08 fun j hj=>by subst hj;exact hC
  have rest:∀ h22,Ext h8 h22→(fun t24 h22 =>
     Zs (!t24) (
     K false h22) (
     ZbG (σ:=Unit) (fun s h29 =>
     ldP h29 h.size 0 fun t30 =>
     ldP h29 h.size 0 fun t31 =>
     Zb t31 fun b32 o33 =>
     ldI h29 b32 (o33+1) .i64 fun t34 =>
     ldI h29 h3.size 0 .i64 fun t35 =>
     Zb t30 fun b36 o37 =>
     st h29 b36 (o37+1) (.int .i64 (Zs7 t34 (IntKind.wrap .i64 (t35+1)))) fun h38 =>
     ldI h38 h3.size 0 .i64 fun t39 =>
     Zs (decide (t39≥64)) (
     K true h38) (
     ldL h38 h1.size (0+2) fun t40 =>
     Zw f53 t40 (some ⟨h.size,0,none⟩,some ⟨h3.size,0,none⟩,some ⟨h5.size,0,none⟩,()) (fun t41 h42 =>
     ZD (!t41) fun t43 =>
     K t43 h42) h38)) (fun J26 =>
     ldI h22 h1.size 0 .u8 fun t27 =>
     Zs (t27 !=6) (
     ldI h22 h1.size 0 .u8 fun t28 =>
     Zs (t28 !=7) (
     K true h22) (
     J26 (()) h22)) (
     J26 (()) h22)))) (rt v.k v.t v.ns v.sub) h22:=by
    intro h22 e22
    have hC22:Zk1 h22 C (n+1) dp:=Z6 hC8 e22
    have u022:=u08.trans (e22.upd _)
    have g1:=Z6 g1 e22
    have g2:=Z6 g2 e22
    have g3:=Z6 g3 e22
    have g4:=Z6 g4 e22
    cases hr:rt v.k v.t v.ns v.sub with
    | false =>
      rw [if_pos hr] at hW
      rw [hW] at hk
      exact Zm rfl (hk h22 hC22 u022)
    | true =>
      rw [if_neg (by simp [hr])] at hW
      refine Zn rfl ?_
      refine Zr (fun _ h'=>h'=h22∧(v.k=6∨v.k=7)) ?_ ?_
      ·rintro ⟨⟩ h29 ⟨rfl,hk67⟩
       rw [if_neg (by omega)] at hW
       refine rP (Zi g1 rfl) (rP (Zi g1 rfl) (Z7 (rI (Zi hC22 rfl) (rI (Zi g3 rfl) (Z7 (Zi1 hC22 (by simp) ZcY fun h38 c38 u38 z38=>?_))))))
       have hC38:Zk1 h38 C (n+1) (max dp (d+1)):=by
         unfold Zk1
         rw [c38,ZJ (by omega) (by omega),show (d:Int)+1=((d+1:Nat):Int) from rfl,ZCC];rfl
       have g1:=YH g1 u38 d1
       have g2:=YH g2 u38 d2
       have g3:=YH g3 u38 d3
       have g4:=YH g4 u38 d4
       have u038:=u022.trans u38
       refine rI (Zi g3 rfl) (Zj (fun h64=>?_) fun h64=>?_)
       ·rw [if_pos (by omega)] at hW
        rw [hW] at hk
        exact hk h38 hC38 u038
       ·rw [if_neg (by omega)] at hW
        refine rL (s:=z.2.2.1) (Zi g2 rfl) ?_
        unfold Zw ZP ZH ZT
        obtain ⟨a1,a2,a3,a4,cx,a5,a6,a7⟩:=id hv
        have hlx:z.2.2.1.len=v.sub.len:=by have:=a5.len;have:=a7.len;omega
        have hbig:=a5.big
        have hcap:=a5.cap
        refine Za ?_
        refine Zx (fun p h'=>∃ i ni di:Nat,p.1=i∧i≤v.sub.len∧Upd (· = C) h38 h'∧Zk1 h' C ni di∧ni≤65536∧di≤65∧ZaM rt (d+1) v.sub (n+1) (max dp (d+1))=ZaM rt (d+1) (v.sub.drop i) ni di) (fun p _=>(v.sub.len - p.1).toNat)
          ⟨0,n+1,max dp (d+1),rfl,Nat.zero_le _,Upd.refl _ _,hC38,by omega,by omega,rfl⟩ ?_
        rintro ⟨i0,u⟩ h40 ⟨i,ni,di,hi,hle,u40,hC40,hni,hdi,q40⟩
        dsimp only at hi ⊢
        subst hi
        have u040:=u038.trans u40
        refine Zj (fun hlt=>Za ?_) fun hge=>Za (Zd (Zd ?_))
        ·have hia:i<v.sub.len:=by omega
         obtain ⟨k,t,ns,s,r,hd9⟩:=JL.drop_cons hia
         have keepS:∀ j,S j→j<sz h→obj h40 j=obj h j:=fun j hj hl=>ZV u040 hl (hS j hj).2
         have ra:Row h40 z.2.2.1 4 cx:=Yf a5 a6 keepS
         have la:ZaP h40 S v.sub cx:=a7.keep keepS fun j hj=>hj
         refine ZcE ra la hd9 rfl fun zi hzi=>?_
         unfold ZaA ZbZ
         refine ZaX fun h41 c41 e41 z41=>?_
         have c41':obj h41 h40.size=some (.cells (YS zi).toArray 33 (0,0)):=c41
         have g1:=Z6 (YH g1 u40 d1) e41
         have g3:=Z6 (YH g3 u40 d3) e41
         have g4:=Z6 (YH g4 u40 d4) e41
         refine Z7 (rP (Zi g1 rfl) (rI (Zi c41' rfl) (rS (Zi c41' rfl) (rL (s:=zi.2.2.1) (Zi c41' rfl) (rL (s:=zi.2.2.2.1) (Zi c41' rfl) (Z7 (rI (Zi g3 rfl) (Z7 (rV (Zi g4 rfl) ?_)))))))))
         rw [ZJ (by omega) (by omega),show (d:Int)+1=((d+1:Nat):Int) from rfl]
         have u041:=u040.trans (e41.upd _)
         have hwc:=Zpo rt (d+1) k t ns s r ni di
         have hnle:=Zdd rt (.cons k t ns s .nil) (d+1) ni di hni
         have hdle:=Zc7 rt (.cons k t ns s .nil) (d+1) ni di (by omega) hdi
         rw [hd9,hwc] at q40
         refine hsub i k t ns s r hd9 (h:=h41) (S:=S) (hzi.keep (fun j hj hl=>ZQ e41 hl) fun j hj=>hj) (fun j hj=>⟨Nat.lt_of_lt_of_le (hS j hj).1 (Zb2 u041),(hS j hj).2⟩) (ZnK i hfit.2.2 hd9) (ht.upd u041 fun j hj=>by subst hj;exact hC) hC (Z6 hC40 e41) hni (by omega) hdi fun h42 hC42 u42=>Zd ?_
         have hwv:Zc2 rt (d+1) ⟨k,t,ns,s⟩ ni di=ZaM rt (d+1) (.cons k t ns s .nil) ni di:=rfl
         rw [← hwv] at hnle hdle
         cases hw:(Zc2 rt (d+1) ⟨k,t,ns,s⟩ ni di).1 with
         | true =>
           rw [if_pos hw] at q40
           refine Zn rfl ?_
           rw [ZJ (by omega) (by omega)]
           exact ⟨⟨i+1,_,_,rfl,by omega,u40.trans ((e41.upd _).trans u42),hC42,hnle.2 hw,hdle,by rw [q40,JL.drop_succ i _ hd9]⟩,by omega⟩
         | false =>
           rw [if_neg (by simp [hw])] at q40
           refine Zm rfl (Za (Zd (Zd ?_)))
           rw [q40,if_neg (by simp [hw])] at hW
           rw [hW,hw] at hk
           rw [show decide ((i:Int)≥0)=true by simp]
           exact hk h42 hC42 (u041.trans u42)
        ·rw [JL.drop_nil (by omega)] at q40
         have q9:ZaM rt (d+1) v.sub (n+1) (max dp (d+1))=(true,ni,di):=q40
         rw [q9,if_pos rfl] at hW
         have hW9:Zc2 rt d v n dp=(true,ni,di):=hW
         rw [hW9] at hk
         exact hk h40 hC40 u040
      ·refine rI (Zi g2 rfl) ?_
       rw [hv.1]
       refine Xp (fun n6=>rI (Zi g2 rfl) ?_) fun e6=>⟨rfl,.inl (by omega)⟩
       rw [hv.1]
       refine Xp (fun n7=>?_) fun e7=>⟨rfl,.inr (by omega)⟩
       rw [if_pos (by omega)] at hW
       have hW9:Zc2 rt d v n dp=(true,n+1,dp):=hW
       rw [hW9] at hk
       exact hk h22 hC22 u022
  rcases hrt with ⟨hr1,hr2⟩ | ⟨hr1,hr2⟩
  ·refine .inl ⟨hr1,?_⟩
   subst hr2
   refine Zob (z:=z) v8 hS8 hfit t8 (by have:=Zb2 u08;omega) fun h22 e22=>?_
   exact rest h22 e22
  ·refine .inr (.inl ⟨hr1,?_⟩)
   subst hr2
   unfold ZcP ZdG
   refine ZaX fun h22 c22 e22 z22=>?_
   exact rest h22 e22
theorem ZhB {right:Value} {rt:Rt} (hrt:Zzf right rt):∀ (m:Nat) (v:JV),v.sub.hei≤m→Zuq (Xe (m+1)) right rt v
  | 0,v,hm=>Zk6 (f53:=Xe 0) hrt fun i k t ns s r hd=>by
    have:=JL.drop_hei i v.sub hd
    omega
  | m+1,v,hm=>Zk6 (f53:=Xe (m+1)) hrt fun i k t ns s r hd=>ZhB hrt m ⟨k,t,ns,s⟩ (by have:=JL.drop_hei i v.sub hd;show s.hei≤m;omega)
def Zb5 (v:JV):Bool:=(Zc2 whB 0 v 0 0).1&&decide ((Zc2 whB 0 v 0 0).2.2≤64)
theorem Ze7 {h:Zc} {z:VT5} {v:JV} {S:Nat→Prop} {K:Bool→HP} (hv:XY h S z v) (hS:∀ j,S j→j<sz h) (hfit:ZoM v) (ht:Zcb h) (hh:9≤sz h) (hk:∀ h',Ext h h'→K (Zb5 v) h'):Xl z K h:=by
  unfold Xl ZeU
  have hs:sz h=h.size:=rfl
  refine ZaX fun h1 c1 e1 z1=>ZaX fun h3 c3 e3 z3=>?_
  have s1:sz h1=h1.size:=rfl
  have c1':obj h3 h.size=some (.cells (YS z).toArray 33 (0,0)):=Z6 c1 e3
  have e03:=e1.trans e3
  refine rI (Zi c1' rfl) (rS (Zi c1' rfl) (rL (s:=z.2.2.1) (Zi c1' rfl) (rL (s:=z.2.2.2.1) (Zi c1' rfl) ?_)))
  refine ⟨v.sub.hei+1,ZhB (rt:=whB) (.inl ⟨rfl,rfl⟩) _ v (Nat.le_refl _) (n:=0) (dp:=0) (d:=0) (z:=z) (hv.ext hS e03) (fun j hj=>⟨Nat.lt_of_lt_of_le (hS j hj) e03.size,by have:=hS j hj;omega⟩) hfit (ht.ext e03) (by omega) c3 (by omega) (by omega) (by omega) fun h8 hC8 u8=>?_⟩
  have key:=hk h8 (e03.updS u8 fun j hj=>by omega)
  unfold Zb5 at key
  cases hw:(Zc2 whB 0 v 0 0).1 with
  | false=>rw [hw] at key;exact Zn rfl key
  | true =>
    rw [hw,Bool.true_and] at key
    refine Zm rfl (rI (Zi hC8 rfl) (Zd ?_))
    rw [show decide ((((Zc2 whB 0 v 0 0).2.2:Nat):Int)≤64)=decide ((Zc2 whB 0 v 0 0).2.2≤64) by rw [decide_eq_decide];omega]
    exact key
end Go.Proofs.YtpjbjdheeemdiaaGreatDoor
namespace Go.Js
open Go
def okN:JL→Prop
  | .nil=>True
  | .cons k _ ns sub rest=>(k=7→ns.length=sub.len)∧okN sub∧okN rest
def WR (out p out':BL):Prop:=out'=out++p∨(65536<out'.length∧65536<(out++p).length)
theorem WR.trans {a p b q c:BL} (h:WR a p b) (h':WR b q c) (hl:b.length≤c.length):WR a (p++q) c:=by
  rcases h with rfl | ⟨h1,h2⟩
  ·rcases h' with rfl | ⟨h3,h4⟩
   ·left;rw [List.append_assoc]
   ·right;exact ⟨h3,by rw [← List.append_assoc];exact h4⟩
  ·right
   refine ⟨by omega,?_⟩
   simp only [List.length_append] at h2 ⊢
   omega
theorem WR.refl (a:BL):WR a [] a:= .inl (by simp)
theorem Zkz:∀ (n:Nat) {l:JL} {k:Nat} {t:BL} {ns:List BL} {s r:JL},okN l→l.drop n = .cons k t ns s r→(k=7→ns.length=s.len)∧okN s
  | 0,l,k,t,ns,s,r,h,e=>by
    rw [show l=_ from e] at h
    exact ⟨h.1,h.2.1⟩
  | n+1,.nil,_,_,_,_,_,_,e=>by cases e
  | n+1,.cons _ _ _ _ r',_,_,_,_,_,h,e=>Zkz n h.2.2 e
end Go.Js
namespace Go.Proofs.YtpjbjdheeemdiaaGreatDoor
open Go Go.Fw Go.Js
abbrev ctl:BL:=[8,12,10,13,9]
theorem Zuf:∀ c:UInt8,c≠34→c≠92→0≤Lib.indexByte ctl c→((⟨#[98,102,110,114,116]⟩:ByteArray)[(Lib.indexByte ctl c).toNat]?).map (fun m=>([92,m]:BL))=some (ZcH c):=ZuE (by decide +kernel)
theorem Zue:∀ c:UInt8,c≠34→c≠92→Lib.indexByte ctl c<0→c.toNat<32→ZcH c=[92,117,48,48,ZlJ (c.toNat / 16),ZlJ (c.toNat % 16)]:=ZuE (by decide +kernel)
theorem Zsp:∀ c:UInt8,c≠34→c≠92→Lib.indexByte ctl c<0→¬ c.toNat<32→ZcH c=[c]:=ZuE (by decide +kernel)
abbrev Zyy:ByteArray:=⟨#[48,49,50,51,52,53,54,55,56,57,97,98,99,100,101,102]⟩
theorem ZnS:∀ n:Fin 16,Zyy[n.val]?=some (ZlJ n.val):=by decide +kernel
theorem Zqk:∀ b:Fin 256,ZhO .u8 ((b.val:Nat):Int) 4=((b.val / 16:Nat):Int):=by decide +kernel
theorem Zqj:∀ b:Fin 256,Zht .u8 ((b.val:Nat):Int) 15=((b.val % 16:Nat):Int):=by decide +kernel
theorem Buf.app2 {h:Zc} {base:Nat} {x:Sl} {l new:BL} {n:Nat} {cells:List Value} {K:Sl→Zc→Prop} (hb:Buf h base x l) (hbase:base≤sz h) (hn:n=new.length) (hc:cells=new.map bv) (hs:l.length+new.length≤1000000000)
    (hk:∀ x' h',Buf h' base x' (l++new)→Upd (fun k=>x.blk=some k) h h'→(∀ j,x'.blk=some j→x.blk=some j∨sz h≤j)→sz h≤sz h'→K x' h'):Fw.app 5 1 1 [.int .u8 0] x n cells h K:=by
  subst hn hc
  have hlen:=hb.len
  have hcap:=hb.cap
  refine ⟨fun hroom=>?_,fun hgt=>⟨by omega,by omega,?_⟩⟩
  ·rcases hb.at_ with ⟨hp,h0⟩ | ⟨b,c,hp,hbb,hblk,hcl,hv,hne⟩
   ·left
    have hl0:new=[]:=List.eq_nil_of_length_eq_zero (by omega)
    subst hl0
    refine ⟨rfl,?_⟩
    have:l=[]:=List.eq_nil_of_length_eq_zero (by omega)
    subst this
    refine hk _ _ ⟨?_,hroom,hb.big,.inl ⟨hp,h0⟩⟩ (Upd.refl _ _) (fun j hj=> .inl hj) (Nat.le_refl _)
    simpa using hlen
   ·right
    refine ⟨b,0,hp,Zfj hblk (by simp [hcl];omega),Zh5 new,?_⟩
    have hp1:=Zlw (o:=0+x.len*1) (vs:=new.map bv) hblk
    refine hk _ _ ⟨by simp [hlen],hroom,hb.big,.inr ⟨b,_,hp,hbb,hp1,by rw [Zdz];exact hcl,?_,by simp [hne]⟩⟩ ((Upd.puts h b _ _).mono fun k _ hk=>by subst hk;simp [Sl.blk,hp]) (fun j hj=> .inl hj) (by rw [ZeA];exact Nat.le_refl _)
    have:=ZeO (new.map bv) (0+x.len*1) c (by simp [hcl];omega)
    simp only [List.length_map] at this
    rw [List.map_append,hv]
    simpa using this.symm
  ·have hrow:rdS x 1 h fun old=>old=l.map bv:=by
     rcases hb.at_ with ⟨hp,h0⟩ | ⟨b,c,hp,hbb,hblk,hcl,hv,_⟩
     ·have:l=[]:=List.eq_nil_of_length_eq_zero (by omega)
      subst this
      exact .inl ⟨by simpa using hlen,rfl⟩
     ·refine .inr ⟨b,0,l.map bv,hp,by simp [hlen],Zdm hblk fun i v hi=>?_,rfl⟩
      rw [hv,List.getElem?_take] at hi
      split at hi
      ·simpa using hi
      ·cases hi
   have next:∀ cap,x.len+new.length≤cap→cap<9223372036854775808→K ⟨some ⟨h.size,0,none⟩,x.len+new.length,cap⟩ (h.push (.cells (l.map bv++new.map bv++X4 [.int .u8 0] (cap - (x.len+new.length))).toArray 5)):=fun cap h1 h2=>by
     refine hk _ _ ⟨by simp [hlen],h1,h2,.inr ⟨h.size,_,rfl,hbase,Zfa,?_,?_,fun h9=>by have h8:=congrArg List.length h9;rw [List.length_append,List.length_nil] at h8;omega⟩⟩ ((Ext.push h _).upd _) (fun j hj=> .inr (by simp [Sl.blk] at hj;subst hj;exact Nat.le_refl _)) (by rw [ZpF];omega)
     ·simp only [List.length_append,List.length_map,ZcL,List.length_singleton];omega
     ·rw [List.map_append,List.take_append_of_le_length (by simp [hlen]),List.take_of_length_le (by simp [hlen])]
   rcases hrow with ⟨a,b⟩ | ⟨b,o,vs,a1,a2,a3,a4⟩
   ·refine .inl ⟨a,?_⟩
    have:l=[]:=by cases l with | nil=>rfl | cons c l=>cases b
    subst this
    exact next
   ·exact .inr ⟨b,o,vs,a1,a2,a3,by rw [a4];exact next⟩
def Zo8 (h:Zc) (B j:Nat):Prop:=j=B∨∃ (c:Value) (x:Sl) (T:TypeId),obj h B=some (.cells [c,slV x].toArray T (0,0))∧x.blk=some j
structure BU (B:Nat) (h h':Zc):Prop where
  upd:Upd (Zo8 h B) h h'
  foot:∀ j,Zo8 h' B j→Zo8 h B j∨sz h≤j
theorem BU.refl (B:Nat) (h:Zc):BU B h h:=⟨Upd.refl _ _,fun j hj=> .inl hj⟩
theorem BU.trans {B:Nat} {a b c:Zc} (u:BU B a b) (u':BU B b c):BU B a c:=by
  have h1:=Zb2 u.upd
  refine ⟨⟨Nat.le_trans u.upd.size u'.upd.size,fun k hk hn=>(u'.upd.old k (Nat.lt_of_lt_of_le hk u.upd.size) fun h9=>?_).trans (u.upd.old k hk hn)⟩,fun j hj=>?_⟩
  ·rcases u.foot k h9 with h8 | h8
   ·exact hn h8
   ·have:sz a=a.size:=rfl;omega
  ·rcases u'.foot j hj with h9 | h9
   ·exact u.foot j h9
   ·right;omega
theorem ZtE {x y:Sl} (h:slV x=slV y):x=y:=by
  rw [ZvE] at h;exact h
theorem ZfL {h:Zc} {B:Nat} {c:Value} {x:Sl} {T:TypeId} (hb:obj h B=some (.cells [c,slV x].toArray T (0,0))) {j:Nat}:Zo8 h B j↔j=B∨x.blk=some j:=by
  constructor
  ·rintro (h1 | ⟨c',x',T',h2,h3⟩)
   ·exact .inl h1
   ·rw [hb] at h2
    have e:[c,slV x]=[c',slV x']:=by
      have:=Option.some.inj h2
      injection this with e1 _ _
      simpa using e1
    simp only [List.cons.injEq,and_true] at e
    rw [ZtE e.2]
    exact .inr h3
  ·rintro (h1 | h1)
   ·exact .inl h1
   ·exact .inr ⟨c,x,T,hb,h1⟩
theorem Ext.bu {B:Nat} {h h':Zc} (e:Ext h h') (hB:B<sz h):BU B h h':=by
  refine ⟨e.upd _,fun j hj=>?_⟩
  rcases hj with h1 | ⟨c,x,T,h2,h3⟩
  ·exact .inl (.inl h1)
  ·rw [ZQ e hB] at h2
   exact .inl (.inr ⟨c,x,T,h2,h3⟩)
theorem BU.keep {B:Nat} {h h':Zc} (u:BU B h h') {b:Nat} {x:Obj} (hb:obj h b=some x) (hn:¬ Zo8 h B b):obj h' b=some x∧¬ Zo8 h' B b:=by
  refine ⟨YH hb u.upd hn,fun h9=>?_⟩
  rcases u.foot b h9 with h8 | h8
  ·exact hn h8
  ·have:=ZbJ hb;omega
theorem ZjZ {h:Zc} {B:Nat} {T:TypeId} {out:BL} (hb:Bld h B T out) {K:HP} (hk:∀ h' x,ZwI T→BU B h h'→obj h' B=some (.cells [.pointer (At B),slV x].toArray T (0,0))→Buf h' (B+1) x out→B<sz h'→K h'):ZN (At B) K h:=by
  have hlt:=hb.lt
  obtain ⟨hT,c,x,b,hc,hx⟩:=hb
  refine ⟨B,c,slV x,T,rfl,b,hT,?_⟩
  rcases hc with rfl | rfl
  ·left
   refine ⟨rfl,?_⟩
   have hp:obj (h.put B 0 (.pointer (some ⟨B,0,none⟩))) B=some (.cells [.pointer (At B),slV x].toArray T (0,0)):=by rw [Zh7,if_pos rfl,b,ZeK];rfl
   have hbuf:Buf (h.put B 0 (.pointer (some ⟨B,0,none⟩))) (B+1) x out:=hx.congr fun k hk hl=>by rw [Zh7,if_neg (by have:=(hx.lt hk).1;omega)]
   refine hk _ x hT ⟨(Upd.put h B 0 _).mono fun k _ hk=>by subst hk;exact .inl rfl,fun j hj=> .inl ?_⟩ hp hbuf (by rw [ZsU];exact hlt)
   exact (ZfL b).2 ((ZfL hp).1 hj)
  ·exact .inr ⟨rfl,hk h x hT (BU.refl _ _) b hx hlt⟩
theorem ZnY {h:Zc} {B:Nat} {T:TypeId} {out new:BL} {x:Sl} {n:Nat} {cells:List Value} (hT:ZwI T) (hb:obj h B=some (.cells [.pointer (At B),slV x].toArray T (0,0))) (hx:Buf h (B+1) x out) (hn:n=new.length) (hc:cells=new.map bv) (hs:out.length+new.length≤1000000000) {K:HP}
    (hk:∀ h',Bld h' B T (out++new)→BU B h h'→K h'):Fw.app 5 1 1 [.int .u8 0] x n cells h fun t5 h6=>Zb (At B) fun b7 o8=>st h6 b7 (o8+1) (.slice t5.ptr t5.len t5.cap) K:=by
  have hlt:=ZbJ hb
  refine hx.app2 (by omega) hn hc hs fun x' h6 hx6 u6 f6 z6=>?_
  have hb6:obj h6 B=some (.cells [.pointer (At B),slV x].toArray T (0,0)):=YH hb u6 fun e=>by have:=(hx.lt e).1;omega
  refine Z7 (Zi1 hb6 (by simp) Zh4 fun h9 c9 u9 z9=>?_)
  have c9':obj h9 B=some (.cells [.pointer (At B),slV x'].toArray T (0,0)):=c9
  have hbf:Buf h9 (B+1) x' (out++new):=hx6.congr fun k hk hl=>ZV u9 hl (by have:=(hx6.lt hk).1;omega)
  refine hk h9 ⟨hT,_,x',c9',.inr rfl,hbf⟩ ⟨⟨by have:=u6.size;have:=u9.size;omega,fun j hj hn=>?_⟩,fun j hj=>?_⟩
  ·have n1:¬ x.blk=some j:=fun e=>hn ((ZfL hb).2 (.inr e))
   have n2:¬ j=B:=fun e=>hn ((ZfL hb).2 (.inl e))
   have hs0:sz h=h.size:=rfl
   exact (ZV u9 (by omega) n2).trans (ZV u6 hj n1)
  ·rcases (ZfL c9').1 hj with h9 | h9
   ·exact .inl (.inl h9)
   ·rcases f6 j h9 with h8 | h8
    ·exact .inl ((ZfL hb).2 (.inr h8))
    ·exact .inr h8
theorem ZcA {h:Zc} {B:Nat} {T:TypeId} {out:BL} (hb:Bld h B T out) {c:UInt8} {n:Int} (hn:n=c.toNat) (hs:out.length<900000000) {K:Value→HP} (hk:∀ h',Bld h' B T (out++[c])→BU B h h'→K .nilIface h'):ZA (At B) n K h:=by
  subst hn
  unfold ZA Y2
  refine ZjZ hb fun h1 x hT u1 c1 hx l1=>Z7 (rL (Zi c1 rfl) ?_)
  refine Zs6 [c] 1 rfl rfl (by decide) fun b3 h4 hr e4 _=>hr.rd ?_
  have hx4:=hx.congr (h':=h4) fun k hk hl=>ZQ e4 hl
  exact ZnY hT (Z6 c1 e4) hx4 (new:=[c]) rfl rfl (by simp;omega) fun h9 b9 u9=>hk h9 b9 (u1.trans ((Ext.bu e4 l1).trans u9))
theorem Zpj {h:Zc} {B:Nat} {T:TypeId} {out:BL} (hb:Bld h B T out) {s:ByteArray} (hs:out.length+s.size<900000000) {K:Int→Value→HP} (hk:∀ h',Bld h' B T (out++s.data.toList)→BU B h h'→K s.size .nilIface h'):Zz (At B) s K h:=by
  unfold Zz YM
  refine Za (ZjZ hb fun h1 x hT u1 c1 hx l1=>Z7 (rL (Zi c1 rfl) ?_))
  exact ZnY hT c1 hx (new:=s.data.toList) (by simp) rfl (by simp;omega) fun h9 b9 u9=>Za (hk h9 b9 (u1.trans u9))
section
variable {h:Zc} {B:Nat} {T:TypeId} {out:BL}
theorem ZnA (hb:Bld h B T out) {K:Int→HP} (hk:K out.length h):YB (At B) K h:=by
  unfold YB Zba
  obtain ⟨hT,c,x,b,hc,hx⟩:=hb
  refine Za (Z7 (rL (s:=x) (Zi b rfl) (Za ?_)))
  rw [hx.len];exact hk
theorem Zsq (c:UInt8):(ZcH c).length≤6:=by
  have:∀ b:Fin 256,(ZcH ⟨⟨b⟩⟩).length≤6:=by decide +kernel
  rcases c with ⟨⟨b⟩⟩
  exact this b
theorem Zjd (hb:Bld h B T out) {t:BL} (hs:out.length+(ZcS t).length<800000000) {K:HP} (hk:∀ h',Bld h' B T (out++ZcS t)→BU B h h'→K h'):X9 (At B) (Ze t) K h:=by
  unfold X9 Zco
  have hq:(ZcS t).length=(t.flatMap ZcH).length+2:=by simp [ZcS]
  have e_len:∀ c:UInt8,1≤(ZcH c).length:=fun c=>by
    have:∀ b:Fin 256,1≤(ZcH ⟨⟨b⟩⟩).length:=by decide +kernel
    rcases c with ⟨⟨b⟩⟩
    exact this b
  have tl:∀ t:BL,t.length≤(t.flatMap ZcH).length:=fun t=>by
    induction t with
    | nil=>simp
    | cons c t ih=>have:=e_len c;simp only [List.flatMap_cons,List.length_append,List.length_cons];omega
  have htl:=tl t
  refine Z7 (ZcA (c:=34) hb rfl (by omega) fun h1 b1 u1=>?_)
  refine Zx (fun p h'=>∃ i:Nat,p.1=i∧i≤t.length∧Bld h' B T (out++34::(t.take i).flatMap ZcH)∧BU B h h') (fun p _=>(t.length - p.1).toNat) ⟨0,rfl,Nat.zero_le _,by simpa using b1,u1⟩ ?_
  rintro ⟨i0,u⟩ h2 ⟨i,hi,hle,b2,u2⟩
  dsimp only at hi ⊢
  subst hi
  have pl:((t.take i).flatMap ZcH).length≤(t.flatMap ZcH).length:=by
    conv=>rhs;rw [← List.take_append_drop i t]
    rw [List.flatMap_append,List.length_append];omega
  refine Zj (fun hlt=>Za ?_) fun hge=>?_
  ·have hia:i<t.length:=by rw [YO] at hlt;omega
   have hx:(Ze t)[(i:Int).toNat]?=some t[i]:=by
     rw [Int.toNat_natCast,getElem?_pos (Ze t) i (by rw [YO];exact hia)]
     simp [Ze]
     rfl
   refine ⟨t[i],by omega,hx,Za ?_⟩
   have hstep:(t.take (i+1)).flatMap ZcH=(t.take i).flatMap ZcH++ZcH t[i]:=by
     rw [List.take_add_one,List.getElem?_eq_getElem hia,List.flatMap_append];simp
   have pl1:((t.take (i+1)).flatMap ZcH).length≤(t.flatMap ZcH).length:=by
     conv=>rhs;rw [← List.take_append_drop (i+1) t]
     rw [List.flatMap_append,List.length_append];omega
   rw [hstep,List.length_append] at pl1
   generalize hc:t[i]=c at hstep pl1
   have h6:=Zsq c
   have done:∀ {h':Zc},Bld h' B T ((out++34::(t.take i).flatMap ZcH)++ZcH c)→BU B h2 h'→(∃ i_1:Nat,IntKind.wrap .i64 ((i:Int)+1)=i_1∧i_1≤t.length∧Bld h' B T (out++34::(t.take i_1).flatMap ZcH)∧BU B h h')∧(t.length - IntKind.wrap .i64 ((i:Int)+1)).toNat<(t.length - (i:Int)).toNat:=fun {h'} b' u'=>by
     rw [ZJ (by omega) (by omega)]
     refine ⟨⟨i+1,rfl,by omega,?_,u2.trans u'⟩,by omega⟩
     rw [hstep]
     simpa using b'
   have sz2:(out++34::(t.take i).flatMap ZcH).length+10<900000000:=by rw [List.length_append,List.length_cons];omega
   refine Zii ?_
   rw [toU]
   show Zl (Lib.indexByte ctl c) _
   refine Za ?_
   refine Zr (fun p h'=>h'=h2∧(p.1=true↔c=34∨c=92)) ?_ ?_
   ·rintro ⟨b,u⟩ h3 ⟨rfl,hb3⟩
    dsimp only at hb3 ⊢
    cases hbb:b with
    | true =>
      have he:ZcH c=[92,c]:=by unfold ZcH;rw [if_pos (hb3.1 hbb)]
      refine Zm rfl (Z7 (ZcA (c:=92) b2 rfl (by omega) fun h4 b4 u4=>Z7 (ZcA (c:=c) b4 rfl (by simp at sz2 ⊢;omega) fun h5 b5 u5=>done ?_ (u4.trans u5))))
      rw [he]
      simpa using b5
    | false =>
      have hn:¬ (c=34∨c=92):=fun e=>by have:=hb3.2 e;rw [hbb] at this;cases this
      have n34:c≠34:=fun e=>hn (.inl e)
      have n92:c≠92:=fun e=>hn (.inr e)
      refine Zn rfl (Zd (Zj (fun hk0=>?_) fun hk0=>Zd (Zj (fun h32=>?_) fun h32=>?_)))
      ·have key:=Zuf c n34 n92 hk0
       cases hm:(⟨#[98,102,110,114,116]⟩:ByteArray)[(Lib.indexByte ctl c).toNat]? with
       | none=>rw [hm] at key;cases key
       | some m =>
         rw [hm] at key
         have he:ZcH c=[92,m]:=by simpa using key.symm
         refine Z7 (ZcA (c:=92) b2 rfl (by omega) fun h4 b4 u4=>Z7 ⟨m,hk0,hm,ZcA (c:=m) b4 rfl (by simp at sz2 ⊢;omega) fun h5 b5 u5=>done ?_ (u4.trans u5)⟩)
         rw [he]
         simpa using b5
      ·have he:=Zue c n34 n92 (by omega) (by omega)
       have hi16:Zyy[(ZhO .u8 (c.toNat:Int) 4).toNat]?=some (ZlJ (c.toNat / 16)):=by
         rw [Zqk ⟨c.toNat,c.toNat_lt⟩,Int.toNat_natCast]
         exact ZnS ⟨c.toNat / 16,by omega⟩
       have lo16:Zyy[(Zht .u8 (c.toNat:Int) 15).toNat]?=some (ZlJ (c.toNat % 16)):=by
         rw [Zqj ⟨c.toNat,c.toNat_lt⟩,Int.toNat_natCast]
         exact ZnS ⟨c.toNat % 16,by omega⟩
       have p1:0≤ZhO .u8 (c.toNat:Int) 4:=by rw [Zqk ⟨c.toNat,c.toNat_lt⟩];omega
       have p2:0≤Zht .u8 (c.toNat:Int) 15:=by rw [Zqj ⟨c.toNat,c.toNat_lt⟩];omega
       refine Z7 (Zpj b2 (s:=Ze [92,117,48,48]) (by rw [YO];simp at sz2 ⊢;omega) fun h4 b4 u4=>Z7 ⟨by decide,_,p1,hi16,?_⟩)
       refine ZcA b4 rfl (by simp at sz2 ⊢;omega) fun h5 b5 u5=>Z7 ⟨_,p2,lo16,?_⟩
       refine ZcA b5 rfl (by simp at sz2 ⊢;omega) fun h6 b6 u6=>done ?_ ((u4.trans u5).trans u6)
       rw [he]
       simpa using b6
      ·have he:=Zsp c n34 n92 (by omega) (by omega)
       refine Z7 (ZcA (c:=c) b2 rfl (by omega) fun h4 b4 u4=>done ?_ u4)
       rw [he];exact b4
   ·refine Zuo 34 rfl (fun e=>⟨rfl,by simp [e]⟩) fun n34=>Zd ⟨rfl,?_⟩
    simp only [n34,false_or]
    constructor
    ·intro hb;exact Zb9 (d:=92) (beq_iff_eq.1 hb)
    ·rintro rfl;rfl
  ·have hil:i=t.length:=by rw [YO] at hge;omega
   subst hil
   rw [List.take_length] at b2
   refine Z7 (ZcA (c:=34) b2 rfl (by rw [List.length_append,List.length_cons];omega) fun h3 b3 u3=>hk h3 ?_ (u2.trans u3))
   simpa [ZcS] using b3
end
def Zrg (f60:Zm6) (v:JV):Prop:=∀ {h:Zc} {B:Nat} {out:BL} {z:VT5} {S:Nat→Prop} {K:HP},XY h S z v→(∀ j,S j→j<B)→Bld h B 190 out→(v.k=7→v.ns.length=v.sub.len)→okN v.sub→out.length+(Xf v).length<800000000 →
  (∀ h' out',Bld h' B 190 out'→WR out (Xf v) out'→out.length≤out'.length→out'.length≤out.length+(Xf v).length→BU B h h'→K h')→f60 (At B) z K h
theorem ZhZ {ob:Bool} {first:Bool} {ns:List BL} {k:Nat} {t:BL} {ns':List BL} {sub rest:JL}:ZX ob first ns (.cons k t ns' sub rest)=Zhl first++nmB ob ns++Xf ⟨k,t,ns',sub⟩++ZX ob false ns.tail rest:=rfl
theorem Ziq {h:Zc} {B:Nat} {T:TypeId} {out:BL} (hb:Bld h B T out) {j:Nat} (hj:Zo8 h B j):B≤j∧j<sz h:=by
  have hlt:=hb.lt
  obtain ⟨hT,c,x,b,hc,hx⟩:=hb
  rcases (ZfL b).1 hj with h9 | h9
  ·omega
  ·have:=hx.lt h9;omega
theorem ZnJ {h h':Zc} {B:Nat} {T:TypeId} {out:BL} (hb:Bld h B T out) (e:Ext h h') {j:Nat} (hj:Zo8 h' B j):Zo8 h B j:=by
  rcases hj with h9 | ⟨c,x,T',h9,h8⟩
  ·exact .inl h9
  ·rw [ZQ e hb.lt] at h9
   exact .inr ⟨c,x,T',h9,h8⟩
theorem Zhw {f60:Zm6} {v:JV} (hsub:∀ i k t ns s r,v.sub.drop i = .cons k t ns s r→Zrg f60 ⟨k,t,ns,s⟩):Zrg (Zay f60) v:=by
  intro h B out z S K hv hS hb hns7 hok hlen hk
  unfold Zay ZbW
  have hBs:=hb.lt
  have hs:sz h=h.size:=rfl
  refine ZaX fun h1 c1 e1 z1=>Z7 ?_
  have c1':obj h1 h.size=some (.cells (YS z).toArray 33 (0,0)):=c1
  have b1:Bld h1 B 190 out:=hb.congr fun j _ hl=>ZQ e1 hl
  have u01:BU B h h1:=Ext.bu e1 hBs
  have f1:¬ Zo8 h1 B h.size:=fun h9=>by
    rcases h9 with h8 | ⟨c,x,T,h8,h7⟩
    ·omega
    ·rw [ZQ e1 hBs] at h8
     have:=(Ziq hb (.inr ⟨c,x,T,h8,h7⟩)).2
     omega
  refine ZnA b1 (Zj (fun hbig=>?_) fun hsmall=>?_)
  ·refine hk h1 out b1 (.inr ⟨by omega,by simp;omega⟩) (Nat.le_refl _) (by omega) u01
  have e_:∀ {n:Nat} {A B:Prop},(v.k=n→A)→(v.k≠n→B)→ZD (z.1 ==(n:Int)) fun t=>Zs t A B:=fun {n A B} ha hb=>by
    rw [hv.1]
    exact Zd (Yh (fun e=>ha (by omega)) fun e=>hb (by omega))
  have hp:Xf v=prV v.k v.t (ZX (decide (v.k=7)) true v.ns v.sub):=rfl
  have write:∀ {w:ByteArray} {wl:BL} {Kw:Int→Value→HP},w.data.toList=wl→Xf v=wl→(∀ i e h',Kw i e h'=K h')→Zz (At B) w Kw h1:=fun {w wl Kw} hw hpw hK =>
    Zpj b1 (by have:w.size=wl.length:=by rw [← hw];simp
               rw [← hpw] at this;omega) fun h' b' u'=>by
     rw [hK]
     rw [hw,← hpw] at b'
     exact hk h' _ b' (.inl rfl) (by simp) (by simp) (u01.trans u')
  refine rI (Zi c1' rfl) (e_ (n:=1) (fun e=>Z7 (write (wl:=[110,117,108,108]) rfl (by rw [hp,e];rfl) fun _ _ _=>rfl)) fun n1=>e_ (n:=2) (fun e=>Z7 (write (wl:=[102,97,108,115,101]) rfl (by rw [hp,e];rfl) fun _ _ _=>rfl)) fun n2 =>
    e_ (n:=3) (fun e=>Z7 (write (wl:=[116,114,117,101]) rfl (by rw [hp,e];rfl) fun _ _ _=>rfl)) fun n3=>e_ (n:=4) (fun e=>Z7 (rS (Zi c1' rfl) (write (wl:=v.t) (by rw [hv.2.1]) (by rw [hp,e];rfl) fun _ _ _=>rfl))) fun n4=>e_ (n:=5) (fun e=>?_) fun n5=>?_)
  ·refine rS (Zi c1' rfl) ?_
   rw [hv.2.1]
   have hpq:Xf v=ZcS v.t:=by rw [hp,e];rfl
   rw [hpq] at hlen hk
   exact Zjd b1 hlen fun h' b' u'=>hk h' _ b' (.inl rfl) (by simp) (by simp) (u01.trans u')
  ·
   have hpl:Xf v=(if v.k=7 then 123 else 91)::(ZX (decide (v.k=7)) true v.ns v.sub++[if v.k=7 then 125 else 93]):=by
     rw [hp]
     unfold prV
     rw [if_neg n1,if_neg n2,if_neg n3,if_neg n4,if_neg n5]
     split<;>rfl
   have hll:(Xf v).length=(ZX (decide (v.k=7)) true v.ns v.sub).length+2:=by rw [hpl];simp
   generalize hop:(if v.k=7 then 123 else 91:UInt8)=op at hpl
   generalize hcl:(if v.k=7 then 125 else 93:UInt8)=cl at hpl
   refine Zr (fun p h'=>h'=h1∧p.1=Ze [op,cl]) ?_ ?_
   ·rintro ⟨ends,u⟩ h2 ⟨rfl,hends⟩
    dsimp only at hends ⊢
    subst hends
    refine Z7 ⟨op,by omega,rfl,?_⟩
    refine ZcA b1 rfl (by omega) fun h3 b3 u3=>?_
    obtain ⟨c3,f3⟩:=u3.keep c1' f1
    refine rL (s:=z.2.2.1) (Zi c3 rfl) ?_
    obtain ⟨a1,a2,a3,a4,cx,a5,a6,a7⟩:=id hv
    have hlx:z.2.2.1.len=v.sub.len:=by have:=a5.len;have:=a7.len;omega
    have hbig:=a5.big
    have hcap:=a5.cap
    have keepS:∀ {a:Zc},BU B h a→∀ j,S j→j<sz h→obj a j=obj h j:=fun u j hj hl=>ZV u.upd hl fun h9=>by have:=(Ziq hb h9).1;have:=hS j hj;omega
    refine Zx (fun p h'=>∃ (i:Nat) (q o':BL),p.1=i∧i≤v.sub.len∧Bld h' B 190 o'∧WR (out++[op]) q o'∧(out++[op]).length≤o'.length∧o'.length≤(out++[op]).length+q.length∧BU B h3 h' ∧
        ZX (decide (v.k=7)) true v.ns v.sub=q++ZX (decide (v.k=7)) (decide (i=0)) (v.ns.drop i) (v.sub.drop i)) (fun p _=>(v.sub.len - p.1).toNat)
      ⟨0,[],out++[op],rfl,Nat.zero_le _,b3,WR.refl _,Nat.le_refl _,by simp,BU.refl _ _,rfl⟩ ?_
    rintro ⟨i0,u⟩ h4 ⟨i,q,o',hi,hle,b4,w4,l4,l4',u4,q4⟩
    dsimp only at hi ⊢
    subst hi
    obtain ⟨c4,f4⟩:=u4.keep c3 f3
    have u04:=u01.trans (u3.trans u4)
    refine Zj (fun hlt=>?_) fun hge=>?_
    ·have hia:i<v.sub.len:=by omega
     obtain ⟨k,t,ns,s,r,hd⟩:=JL.drop_cons hia
     have hpd:=ZhZ (ob:=decide (v.k=7)) (first:=decide (i=0)) (ns:=v.ns.drop i) (k:=k) (t:=t) (ns':=ns) (sub:=s) (rest:=r)
     rw [hd,hpd] at q4
     have hqlen:=congrArg List.length q4
     simp only [List.length_append] at hqlen
     have ra:Row h4 z.2.2.1 4 cx:=Yf a5 a6 (keepS u04)
     have la:ZaP h4 S v.sub cx:=a7.keep (keepS u04) fun j hj=>hj
     refine ZcE ra la hd rfl fun zi hzi=>?_
     refine ZaX fun h5 c5 e5 z5=>Za ?_
     have c5':obj h5 h4.size=some (.cells zV.toArray 33 (0,0)):=c5
     have hs4:sz h4=h4.size:=rfl
     have B4:=b4.lt
     refine Zle c5' (by simp) (Zbu zi) fun h6 c6 u6 z6=>?_
     have c6':obj h6 h4.size=some (.cells (YS zi).toArray 33 (0,0)):=c6
     have e46:Ext h4 h6:=e5.updS u6 fun j hj=>by omega
     have b6:Bld h6 B 190 o':=b4.congr fun j _ hl=>ZQ e46 hl
     have ft6:¬ Zo8 h6 B h4.size:=fun h9=>by have:=(Ziq b4 (ZnJ b4 e46 h9)).2;omega
     have fv6:¬ Zo8 h6 B h.size:=fun h9=>f4 (ZnJ b4 e46 h9)
     have cv6:obj h6 h.size=some (.cells (YS z).toArray 33 (0,0)):=Z6 c4 e46
     have u06:=u04.trans (Ext.bu e46 B4)
     have hqs:∀ (x:BL),(out++[op]).length+(q++x).length=out.length+1+q.length+x.length:=fun x=>by simp;omega
     refine Zr (fun _ h'=>∃ o7,Bld h' B 190 o7∧WR (out++[op]) (q++Zhl (decide (i=0))) o7∧(out++[op]).length≤o7.length∧o7.length≤(out++[op]).length+(q++Zhl (decide (i=0))).length∧BU B h6 h') ?_ ?_
     ·rintro ⟨⟩ h7 ⟨o7,b7,w7,l7,l7',u7⟩
      obtain ⟨cv7,fv7⟩:=u7.keep cv6 fv6
      obtain ⟨ct7,ft7⟩:=u7.keep c6' ft6
      have u07:=u06.trans u7
      refine Zr (fun _ h'=>∃ o8,Bld h' B 190 o8∧WR (out++[op]) (q++Zhl (decide (i=0))++nmB (decide (v.k=7)) (v.ns.drop i)) o8∧(out++[op]).length≤o8.length∧o8.length≤(out++[op]).length+(q++Zhl (decide (i=0))++nmB (decide (v.k=7)) (v.ns.drop i)).length∧BU B h7 h') ?_ ?_
      ·rintro ⟨⟩ h8 ⟨o8,b8,w8,l8,l8',u8⟩
       obtain ⟨ct8,ft8⟩:=u8.keep ct7 ft7
       have u08:=u07.trans u8
       refine rI (Zi ct8 rfl) (rS (Zi ct8 rfl) (rL (s:=zi.2.2.1) (Zi ct8 rfl) (rL (s:=zi.2.2.2.1) (Zi ct8 rfl) ?_)))
       have hokd:=Zkz i hok hd
       refine hsub i k t ns s r hd (S:=S) (hzi.keep (fun j hj hl=>?_) fun j hj=>hj) hS b8 hokd.1 hokd.2 (by simp only [List.length_append,List.length_singleton] at l8' ⊢;omega) fun h9 o9 b9 w9 l9 l9' u9=>?_
       ·have u48:=(Ext.bu e46 B4).trans (u7.trans u8)
        exact ZV u48.upd hl fun h9=>by have:=(Ziq b4 h9).1;have:=hS j hj;omega
       ·rw [ZJ (by omega) (by omega)]
        refine ⟨⟨i+1,q++Zhl (decide (i=0))++nmB (decide (v.k=7)) (v.ns.drop i)++Xf ⟨k,t,ns,s⟩,o9,rfl,by omega,b9,WR.trans w8 w9 l9,by omega,?_,(Ext.bu e46 B4 |> u4.trans).trans ((u7.trans u8).trans u9),?_⟩,by omega⟩
        ·simp only [List.length_append,List.length_singleton] at l8' l9' ⊢;omega
        ·rw [q4,JL.drop_succ i _ hd]
         simp
      ·refine rI (Zi cv7 rfl) ?_
       rw [hv.1]
       refine Yh (fun e7=>?_) fun e7=>?_
       ·have k7:v.k=7:=by omega
        have hnl:=hns7 k7
        have hin:i<v.ns.length:=by omega
        refine rL (s:=z.2.2.2.1) (Zi cv7 rfl) (Zd2 (Yf a3 a4 (keepS u07)) (List.getElem?_eq_getElem hin) rfl ?_)
        have hnm:nmB (decide (v.k=7)) (v.ns.drop i)=ZcS v.ns[i]++[58]:=by
          rw [decide_eq_true k7,List.drop_eq_getElem_cons hin];rfl
        rw [hnm] at hqlen ⊢
        simp only [List.length_append,List.length_singleton] at hqlen l7'
        refine Zjd b7 (by omega) fun h8 b8 u8=>Z7 (ZcA (c:=58) b8 rfl (by simp only [List.length_append];omega) fun h9 b9 u9=>?_)
        refine ⟨_,b9,?_,?_,?_,u8.trans u9⟩
        ·have:o7++ZcS v.ns[i]++[58]=o7++(ZcS v.ns[i]++[58]):=by simp
         rw [this]
         exact WR.trans w7 (.inl rfl) (by simp)
        ·simp only [List.length_append,List.length_singleton];simp only [List.length_append,List.length_singleton] at l7;omega
        ·simp only [List.length_append,List.length_singleton];omega
       ·have hnm:nmB (decide (v.k=7)) (v.ns.drop i)=[]:=by
          rw [decide_eq_false (show ¬ v.k=7 by omega)];rfl
        rw [hnm,List.append_nil]
        exact ⟨o7,b7,w7,l7,l7',BU.refl _ _⟩
     ·refine Zj (fun hpos=>?_) fun hpos=>?_
      ·have hsep:Zhl (decide (i=0))=[44]:=by rw [decide_eq_false (show ¬ i=0 by omega)];rfl
       rw [hsep] at hqlen ⊢
       simp only [List.length_append,List.length_singleton] at l4' hqlen
       refine Z7 (ZcA (c:=44) b6 rfl (by omega) fun h7 b7 u7=>⟨_,b7,WR.trans w4 (.inl rfl) (by simp),?_,?_,u7⟩)
       ·simp only [List.length_append,List.length_singleton];simp only [List.length_append,List.length_singleton] at l4;omega
       ·simp only [List.length_append,List.length_singleton];omega
      ·have hsep:Zhl (decide (i=0))=[]:=by rw [decide_eq_true (show i=0 by omega)];rfl
       rw [hsep,List.append_nil]
       exact ⟨o',b6,w4,l4,l4',BU.refl _ _⟩
    ·have hin:i=v.sub.len:=by omega
     rw [JL.drop_nil (by omega)] at q4
     have q5:ZX (decide (v.k=7)) true v.ns v.sub=q:=by rw [q4];simp [ZX]
     have hql:q.length=(ZX (decide (v.k=7)) true v.ns v.sub).length:=by rw [q5]
     simp only [List.length_append,List.length_singleton] at l4 l4'
     refine Z7 ⟨cl,by omega,rfl,ZcA b4 rfl (by omega) fun h9 b9 u9=>?_⟩
     refine hk h9 _ b9 ?_ (by simp only [List.length_append];omega) (by simp only [List.length_append,List.length_singleton];omega) (u04.trans u9)
     have hpj:Xf v=[op]++q++[cl]:=by rw [hpl,q5];simp
     rw [hpj]
     rcases w4 with e4 | ⟨g1,g2⟩
     ·left;rw [e4];simp
     ·right
      simp only [List.length_append,List.length_singleton] at g2 ⊢
      omega
   ·refine rI (Zi c1' rfl) ?_
    rw [hv.1]
    refine Yh (fun e=>⟨rfl,?_⟩) fun e=>⟨rfl,?_⟩
    ·have:v.k=7:=by omega
     rw [← hop,← hcl,if_pos this,if_pos this]
    ·have:v.k≠7:=by omega
     rw [← hop,← hcl,if_neg this,if_neg this]
end Go.Proofs.YtpjbjdheeemdiaaGreatDoor
