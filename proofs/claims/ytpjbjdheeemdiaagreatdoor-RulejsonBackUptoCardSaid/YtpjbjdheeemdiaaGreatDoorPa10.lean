/- The reader's words, one by one, keep what JsX asks. No program. -/
import Derived.Lib.RuneCount
import Derived.Test.YtpjbjdheeemdiaaGreatDoorPa9
set_option linter.unusedVariables false
set_option linter.unusedSimpArgs false
namespace Go.Js
open Go
structure Hf {α:Type} (s:Bool) (p:BL->Out α):Prop where
  sf:Sf p
  pe:∀ n,Pe n p
  pb:∀ n,Pb n s p
structure Good {α:Type} (s:Bool) (p:BL->Out α):Prop extends Hf s p where
  bn:Bn s p
section
variable {α β:Type}
theorem Pe.mono {m n:Nat} {p:BL->Out α} (h:Pe n p) (hm:m<=n):Pe m p :=
  ⟨fun a=>h.ext (by omega),fun a=>h.eext (by omega),fun a=>h.cutO (by omega),fun a=>h.cutE (by omega)⟩
theorem Pb.mono {m n:Nat} {s:Bool} {p:BL->Out α} (h:Pb n s p) (hm:m<=n):Pb m s p :=
  ⟨fun a=>h.bl (by omega),fun a=>h.blo (by omega)⟩
theorem Good.tl {s:Bool} {g:BL->Out α} (h:Good s g):Hf s (tlP g) :=
  ⟨ZGu h.sf,fun n=>(Zov h.sf (h.pe n)).mono (Azb n),fun n=>(Zow (h.pb n) h.bn).mono (Azb n)⟩
theorem Good.okP (s:Bool) (a:α):Good s (Js.okP a):=⟨⟨Zys a,fun _=>Zyt a,fun _=>Zyu s a⟩,Zyv s a⟩
theorem Hf.fail {s:Bool} {e:Nat} (he:e≠24):Hf s (ZaW e:BL->Out α):=⟨ZBy he,fun _=>ZqE,fun _=>ZqF he⟩
theorem Hf.ite {s:Bool} {c:Prop} [Decidable c] {p q:BL->Out α} (hp:Hf s p) (a:Hf s q):Hf s (if c then p else q):=by split<;>assumption
theorem St.ite {k:Nat} {c:Prop} [Decidable c] {p q:BL->Out α} (hp:St k p) (a:St k q):St k (if c then p else q):=by split<;>assumption
theorem St.mono {k m:Nat} {p:BL->Out α} (h:St k p) (hm:m<=k):St m p:=⟨fun e=>by have:=h.len e;omega⟩
theorem ZAK {p:BL->Out α} (h:St 1 p) {l r:BL} {a:α} (e:p l = .ok a r) (b:l.length<=r.length) {P:Prop}:P:=by have:=h.len e;omega
theorem Hf.hd {s:Bool} {f:UInt8->BL->Out α} (a:∀ c,Hf s (f c)) (d:∀ c,St 1 (f c)):Hf s (hdP (.err 24 []) f) :=
  ⟨ZCu (.inr rfl) fun c=>(a c).sf,fun n=>ZuP (.inl rfl) (fun c r b h=>ZAK (d c) h (Aqo _)) fun c=>(a c).pe n,fun n=>ZuQ fun c=>(a c).pb n⟩
theorem Hf.hdO {s:Bool} {a0:α} {f:UInt8->BL->Out α} (a:∀ c,Hf s (f c)) (e:∀ c,St 1 (f c)\/f c=Js.okP a0):Hf s (hdP (.ok a0 []) f):=by
  refine ⟨ZCu (.inl ⟨a0,rfl⟩) fun c=>(a c).sf,fun n=>ZuP (.inr ⟨a0,rfl,fun c r b h=>?_⟩) (fun c r b h g=>by cases g) fun c=>(a c).pe n,fun n=>ZuQ fun c=>(a c).pb n⟩
  rcases e c with d | d
  ·exact ZAK d h (Aqo _)
  ·rw [d] at h;cases h;rfl
theorem Good.hd {s:Bool} {f:UInt8->BL->Out α} (a:∀ c,Hf s (f c)) (b:∀ c,St 1 (f c)) (d:∀ c,Xw c=true->∃ e,f c=ZaW e):Good s (hdP (.err 24 []) f):=⟨Hf.hd a b,ZG5 d⟩
theorem Good.hdO {s:Bool} {a0:α} {f:UInt8->BL->Out α} (a:∀ c,Hf s (f c)) (b:∀ c,St 1 (f c)\/f c=Js.okP a0) (d:∀ c,Xw c=true->f c=Js.okP a0):Good s (hdP (.ok a0 []) f):=⟨Hf.hdO a b,ZEW d⟩
theorem Hf.bind {s s':Bool} {p:BL->Out α} {f:α->BL->Out β} (hp:Hf s p) (b:∀ a,Good s' (f a)):Hf (s&&s') fun l=>(p l).bind f :=
  ⟨hp.sf.bind fun a=>(b a).sf,fun n=>Pe.bind (m:=n) (k:=0) (hp.pe n) hp.sf hp.sf.st (fun a=>(b a).pe n) fun a=>(b a).sf,
   fun n=>Pb.bind (m:=n) (k:=0) (hp.pe n) (hp.pb n) hp.sf hp.sf.st (fun a=>(b a).pb n) fun a=>(b a).bn⟩
theorem Good.bind {s s':Bool} {p:BL->Out α} {f:α->BL->Out β} (hp:Good s p) (b:∀ a,Good s' (f a)):Good (s&&s') fun l=>(p l).bind f :=
  ⟨hp.toHf.bind b,hp.bn.bind hp.sf fun a=>(b a).bn⟩
theorem Good.got {p:BL->Out α} (h:Good true p):Good true (Zhn p):=⟨⟨Ztv h.sf,fun n=>Ztw (h.pe n),fun n=>Zza (h.pb n)⟩,ZE5 h.bn⟩
end
theorem ZfW:Good false (Zd6 Xw):=⟨⟨ZqJ _,fun _=>Zu7 _,fun _=>ZBG _⟩,ZBH _⟩
theorem ZBI:Good true (Zd6 ZbS):=⟨⟨ZqJ _,fun _=>Zu7 _,fun _=>Zzt⟩,Zzu⟩
theorem Zlg:Xp=hdP (.err 24 []) fun c=>if ZbS c then tlP (Zd6 ZbS) else ZaW 21:=by
  funext l
  rcases l with _ | ⟨c,l⟩
  ·rfl
  ·dsimp only [Xp,hdP]
   split<;>rfl
theorem Znt:St 1 Xp:=by
  rw [Zlg]
  exact Zm9 (fun a r h=>by cases h) fun c=>St.ite (ZbZ (ZkA _)) Zbj
theorem Zh5:Good true Xp:=by
  rw [Zlg]
  refine Good.hd (fun c=>Hf.ite ZBI.tl (Hf.fail (by decide))) (fun c=>St.ite (ZbZ (ZkA _)) Zbj) fun c a=>⟨21,?_⟩
  rcases Zgo a with rfl | rfl | rfl | rfl<;>rfl
def ZGL:BL->Out Unit:=fun l=> .ok () (Zee l)
theorem ZEH:ZGL=hdP (.ok () []) fun c=>if c=45 then tlP (okP ()) else okP ():=by
  funext l
  rcases l with _ | ⟨c,l⟩
  ·rfl
  ·dsimp only [ZGL,Zee,hdP]
   split<;>rfl
theorem ZuB:Good true ZGL:=by
  rw [ZEH]
  refine Good.hdO (fun c=>Hf.ite (Good.okP _ _).tl (Good.okP _ _).toHf) (fun c=>?_) fun c a=>?_
  ·by_cases h:c=45
   ·left;rw [if_pos h];exact ZbZ (Zic _)
   ·right;rw [if_neg h]
  ·rcases Zgo a with rfl | rfl | rfl | rfl<;>rfl
def ZGz:BL->Out Unit:=fun l=> .ok () (Zkh l)
theorem ZEs:ZGz=hdP (.ok () []) fun c=>if c=43\/c=45 then tlP (okP ()) else okP ():=by
  funext l
  rcases l with _ | ⟨c,l⟩
  ·rfl
  ·dsimp only [ZGz,Zkh,hdP]
   split<;>rfl
theorem Zui:Good true ZGz:=by
  rw [ZEs]
  refine Good.hdO (fun c=>Hf.ite (Good.okP _ _).tl (Good.okP _ _).toHf) (fun c=>?_) fun c a=>?_
  ·by_cases h:c=43\/c=45
   ·left;rw [if_pos h];exact ZbZ (Zic _)
   ·right;rw [if_neg h]
  ·rcases Zgo a with rfl | rfl | rfl | rfl<;>rfl
theorem ZoS:Zda=hdP (.ok () []) fun c=>if ZbS c then ZaW 21 else okP ():=by
  funext l
  rcases l with _ | ⟨c,l⟩
  ·rfl
  ·dsimp only [Zda,hdP]
   split<;>rfl
theorem ZjM:Good true Zda:=by
  rw [ZoS]
  refine Good.hdO (fun c=>Hf.ite (Hf.fail (by decide)) (Good.okP _ _).toHf) (fun c=>?_) fun c a=>?_
  ·by_cases h:ZbS c=true
   ·left;rw [if_pos h];exact Zbj
   ·right;rw [if_neg h]
  ·rcases Zgo a with rfl | rfl | rfl | rfl<;>rfl
theorem Ztr:ZlW=hdP (.err 24 []) fun c=>if c=48 then tlP Zda else Xp:=by
  funext l
  rcases l with _ | ⟨c,l⟩
  ·rfl
  ·dsimp only [ZlW,hdP]
   split<;>rfl
theorem ZG0:St 1 ZlW:=by
  rw [Ztr]
  exact Zm9 (fun a r h=>by cases h) fun c=>St.ite (ZbZ ZjM.sf.st) Znt
theorem ZG1:Hf true ZlW:=by
  rw [Ztr]
  exact Hf.hd (fun c=>Hf.ite ZjM.tl Zh5.toHf) fun c=>St.ite (ZbZ ZjM.sf.st) Znt
theorem ZBi:Good true ZlW:=by
  refine ⟨ZG1,fun {b} _ d=>?_,fun {b a} h=>by cases h⟩
  rcases b with _ | ⟨c,b⟩
  ·exact ⟨24,[],rfl,Ayg _⟩
  ·refine ⟨21,c::b,?_,Ayg _⟩
   rcases Zgo (d c (by simp)) with rfl | rfl | rfl | rfl<;>rfl
theorem ZuW:ZiL=hdP (.ok () []) fun c=>if c=46 then tlP Xp else okP ():=by
  funext l
  rcases l with _ | ⟨c,l⟩
  ·rfl
  ·dsimp only [ZiL,hdP]
   split<;>rfl
theorem Zr7:Good true ZiL:=by
  rw [ZuW]
  refine Good.hdO (fun c=>Hf.ite Zh5.tl (Good.okP _ _).toHf) (fun c=>?_) fun c a=>?_
  ·by_cases h:c=46
   ·left;rw [if_pos h];exact St.mono (ZbZ Znt) (by omega)
   ·right;rw [if_neg h]
  ·rcases Zgo a with rfl | rfl | rfl | rfl<;>rfl
theorem Zzn:Znl=hdP (.ok () []) fun c=>if c=101\/c=69 then tlP (fun l=>(ZGz l).bind fun _=>Xp) else okP ():=by
  funext l
  rcases l with _ | ⟨c,l⟩
  ·rfl
  ·dsimp only [Znl,hdP]
   split<;>rfl
theorem Zu2:Good true Znl:=by
  rw [Zzn]
  refine Good.hdO (fun c=>Hf.ite (Zui.bind fun _=>Zh5).tl (Good.okP _ _).toHf) (fun c=>?_) fun c a=>?_
  ·by_cases h:c=101\/c=69
   ·left;rw [if_pos h];exact ZbZ (k:=0) (Zui.bind fun _=>Zh5).sf.st
   ·right;rw [if_neg h]
  ·rcases Zgo a with rfl | rfl | rfl | rfl<;>rfl
theorem Zth:Zih=fun l=>(ZGL l).bind fun _ l=>(ZlW l).bind fun _ l=>(ZiL l).bind fun _=>Znl:=rfl
theorem ZlS:Good true Zih:=by
  rw [Zth]
  exact ZuB.bind fun _=>ZBi.bind fun _=>Zr7.bind fun _=>Zu2
theorem Zyy:St 1 Zih:=by
  rw [Zth]
  exact St.mono (St.bind (k:=0) (m:=1) ZuB.sf.st fun _=>St.bind (k:=1) (m:=0) ZG0 fun _=>(Zr7.bind fun _=>Zu2).sf.st) (by omega)
theorem Zt0 (c:UInt8) (w:BL):Zgr (c::w)=hdP (.err 24 []) fun d=>if d=c then tlP (Zgr w) else ZaW 20:=by
  funext l
  rcases l with _ | ⟨d,l⟩
  ·rfl
  ·dsimp only [Zgr,hdP]
   split<;>rfl
theorem Zdl:∀ (w:BL),(∀ c∈w,Xw c=false)->Good true (Zgr w)/\St w.length (Zgr w)
  | [],_=>⟨Good.okP true (),Zic ()⟩
  | c::w,h=>by
    obtain ⟨a,b⟩:=Zdl w fun d hd=>h d (by simp [hd])
    rw [Zt0]
    refine ⟨Good.hd (fun d=>Hf.ite a.tl (Hf.fail (by decide))) (fun d=>St.ite (St.mono (ZbZ b) (by omega)) Zbj) fun d hd=>⟨20,?_⟩,Zm9 (fun a r h=>by cases h) fun d=>St.ite (ZbZ b) Zbj⟩
    rw [if_neg]
    intro e
    rw [e,h c (by simp)] at hd
    cases hd
theorem Zy8 (k n:Nat):Zji (k+1) n=hdP (.err 24 []) fun c=>match ZlG c with
    | some d=>tlP (Zji k (n*16+d))
    | none=>ZaW 22:=by
  funext l
  rcases l with _ | ⟨c,l⟩
  ·rfl
  ·dsimp only [Zji,hdP]
   cases ZlG c<;>rfl
theorem Zqy:∀ (k n:Nat),Good true (Zji k n)/\St k (Zji k n)
  | 0,n=>⟨Good.okP true n,Zic n⟩
  | k+1,n=>by
    rw [Zy8]
    have b:=fun m=>Zqy k m
    refine ⟨Good.hd (fun c=>?_) (fun c=>?_) fun c e=>⟨22,?_⟩,Zm9 (fun a r h=>by cases h) fun c=>?_⟩
    ·cases ZlG c with
     | some d=>exact (b _).1.tl
     | none=>exact Hf.fail (by decide)
    ·cases ZlG c with
     | some d=>exact St.mono (ZbZ (b _).2) (by omega)
     | none=>exact Zbj
    ·rcases Zgo e with rfl | rfl | rfl | rfl<;>rfl
    ·cases ZlG c with
     | some d=>exact ZbZ (b _).2
     | none=>exact Zbj
theorem ZxL:Zou=hdP (.err 24 []) fun c=>match ZfD c with
    | some m=>tlP (okP (.ch m))
    | none=>if c=117 then tlP (fun l=>(Zji 4 0 l).bind fun n=>okP (.uni n)) else ZaW 22:=by
  funext l
  rcases l with _ | ⟨c,l⟩
  ·rfl
  ·dsimp only [Zou,hdP]
   cases ZfD c with
   | some m=>rfl
   | none=>dsimp only;split<;>rfl
theorem Zc1:Good true Zou:=by
  rw [ZxL]
  refine Good.hd (fun c=>?_) (fun c=>?_) fun c a=>⟨22,?_⟩
  ·cases ZfD c with
   | some m=>exact (Good.okP _ _).tl
   | none=>exact Hf.ite ((Zqy 4 0).1.bind fun _=>Good.okP true _).tl (Hf.fail (by decide))
  ·cases ZfD c with
   | some m=>exact ZbZ (Zic _)
   | none=>exact St.ite ((ZbZ (k:=0) ((Zqy 4 0).1.bind (s':=true) fun _=>Good.okP true _).sf.st)) Zbj
  ·rcases Zgo a with rfl | rfl | rfl | rfl<;>rfl
theorem Zva (n a b:Nat):Zft (n+1) a b=hdP (.err 24 []) fun d=>if a<=d.toNat/\d.toNat<=b then tlP (Zft n 128 191) else ZaW 22:=by
  funext l
  rcases l with _ | ⟨c,l⟩
  ·rfl
  ·dsimp only [Zft,hdP]
   split<;>rfl
theorem Znw:∀ (n a b:Nat),128<=a->Good true (Zft n a b)
  | 0,_,_,_=>Good.okP true ()
  | n+1,a,b,h=>by
    rw [Zva]
    refine Good.hd (fun c=>Hf.ite (Znw n 128 191 (Aqo _)).tl (Hf.fail (by decide))) (fun c=>St.ite (ZbZ (k:=0) (Znw n 128 191 (Aqo _)).sf.st) Zbj) fun c d=>⟨22,?_⟩
    rw [if_neg]
    rcases Zgo d with rfl | rfl | rfl | rfl<;>(intro e;have:=e.1;simp at this;omega)
theorem Zuj:Zcx=hdP (.err 24 []) fun c=>if nRb c=0 then ZaW 22 else tlP (Zft (nRb c - 1) (loR c) (hiR c)):=by
  funext l
  rcases l with _ | ⟨c,l⟩
  ·rfl
  ·dsimp only [Zcx,hdP]
   split<;>rfl
theorem ZEM:∀ b:Fin 256,2<=nRb ⟨⟨b⟩⟩->128<=loR ⟨⟨b⟩⟩:=by decide +kernel
theorem ZyP:∀ c:UInt8,2<=nRb c->128<=loR c:=fun ⟨⟨b⟩⟩=>ZEM b
theorem ZhF:Hf true Zcx/\St 1 Zcx:=by
  rw [Zuj]
  have key:∀ c,Good true (Zft (nRb c - 1) (loR c) (hiR c)):=fun c=>by
    by_cases h:2<=nRb c
    ·exact Znw _ _ _ (ZyP c h)
    ·rw [show nRb c - 1=0 by omega];exact Good.okP true ()
  have st:∀ c,St 1 (if nRb c=0 then ZaW 22 else tlP (Zft (nRb c - 1) (loR c) (hiR c))):=fun c=>St.ite Zbj (ZbZ (k:=0) (key c).sf.st)
  exact ⟨Hf.hd (fun c=>Hf.ite (Hf.fail (by decide)) (key c).tl) st,Zm9 (fun a r h=>by cases h) st⟩
def T (p:Option Nat) (out:BL):BL->Out BL:=fun l=>Zd3 (l.length+1) p out l
def tF (p:Option Nat) (out:BL) (c:UInt8):BL->Out BL :=
  if c.toNat<32 then ZaW 22
  else if c=34 then tlP (okP (out++flB p))
  else if c=92 then tlP fun l=>(Zou l).bind fun t=>T (Zot p out t).1 (Zot p out t).2
  else if c.toNat<128 then tlP (T none (out++flB p++[c]))
  else fun l=>(Zhn Zcx l).bind fun o=>T none (out++flB p++o)
theorem ZzU {n:Nat} {p:Option Nat} {out l:BL} (h:l.length<n):Zd3 n p out l=T p out l:=ZfJ _ _ _ _ _ h (Azc _)
theorem ZFL (p:Option Nat) (out:BL):T p out=hdP (.err 24 []) (tF p out):=by
  funext l
  rcases l with _ | ⟨c,l⟩
  ·rfl
  ·show Zd3 ((c::l).length+1) p out (c::l)=tF p out c (c::l)
   unfold Zd3 tF
   split
   ·rfl
   split
   ·rfl
   split
   ·show _=(Zou l).bind _
    cases h:Zou l with
    | err e r=>rfl
    | ok t r=>exact ZzU (by have:=(Zkf h).1;simp;omega)
   split
   ·exact ZzU (by simp)
   ·show _=(Zhn Zcx (c::l)).bind _
    unfold Zhn
    cases h:Zcx (c::l) with
    | err e r=>rfl
    | ok t r=>exact ZzU (by have:=(Ze1 h).1;simp at this ⊢;omega)
theorem ZlO:∀ (n:Nat) (p:Option Nat) (out l:BL),l.length<n->(∀ a r,Zd3 n p out l = .ok a r->r <:+l/\r.length<l.length)/\∀ e r,Zd3 n p out l = .err e r->r <:+l/\(e=24↔r=[])
  | 0,_,_,_,h=>by omega
  | n+1,p,out,[],_=>⟨fun a r h=>(by cases h),fun e r h=>by cases h;simp⟩
  | n+1,p,out,c::l,h=>by
    simp only [Aqj] at h
    have up:∀ {r q:BL},r.length<(c::l).length->r <:+c::l->∀ {g:Option Nat} {d:BL},(∀ a q,Zd3 n g d r = .ok a q->q <:+c::l/\q.length<(c::l).length)/\∀ e q,Zd3 n g d r = .err e q->q <:+c::l/\(e=24↔q=[]):=fun {r q} i j {g d}=>by
      obtain ⟨a,b⟩:=ZlO n g d r (by simp at i;omega)
      exact ⟨fun x q f=>⟨(a x q f).1.trans j,Nat.lt_trans (a x q f).2 i⟩,fun e q f=>⟨(b e q f).1.trans j,(b e q f).2⟩⟩
    unfold Zd3
    split
    ·exact ⟨fun a r h=>(by cases h),fun e r h=>by cases h;simp⟩
    split
    ·exact ⟨fun a r h=>by cases h;exact ⟨Aye _ _,by simp⟩,fun e r h=>by cases h⟩
    split
    ·cases ht:Zou l with
     | err e r=>exact ⟨fun a q h=>(by cases h),fun e q h=>by cases h;exact ⟨ZbH (Zc1.sf.esuf ht).1,(Zc1.sf.esuf ht).2⟩⟩
     | ok t r=>exact up (q:=[]) (by have:=(Zkf ht).1;simp;omega) (ZbH (Zkf ht).2)
    split
    ·exact up (q:=[]) (by simp) (Aye _ _)
    ·cases ht:Zcx (c::l) with
     | err e r=>exact ⟨fun a q h=>(by cases h),fun e q h=>by cases h;exact ZhF.1.sf.esuf ht⟩
     | ok t r=>exact up (q:=[]) (Ze1 ht).1 (Ze1 ht).2
theorem ZHp (p:Option Nat) (out:BL):Sf (T p out):=⟨fun h=>((ZlO _ p out _ (Azc _)).1 _ _ h).1,fun h=>(ZlO _ p out _ (Azc _)).2 _ _ h⟩
theorem ZHA (p:Option Nat) (out:BL):St 1 (T p out):=⟨fun h=>((ZlO _ p out _ (Azc _)).1 _ _ h).2⟩
theorem ZNo (p:Option Nat) (out:BL) (c:UInt8):St 1 (tF p out c):=by
  unfold tF
  refine St.ite Zbj (St.ite (ZbZ (Zic _)) (St.ite (ZbZ (k:=0) ?_) (St.ite (St.mono (ZbZ (ZHA _ _)) (by omega)) ?_)))
  ·exact St.mono (m:=0) (St.bind (k:=0) (m:=1) Zc1.sf.st fun t=>ZHA _ _) (by omega)
  ·exact St.mono (m:=1) (St.bind (k:=1) (m:=1) (ZqA ZhF.2) fun t=>ZHA _ _) (by omega)
theorem ZzV:∀ (b:BL) (p:Option Nat) (out:BL),Blk b->∃ e r,T p out b = .err e r/\r <:+b
  | [],p,out,_=>⟨24,[],rfl,Ayg _⟩
  | c::b,p,out,h=>by
    rw [ZFL]
    show ∃ e r,tF p out c (c::b)=_/\_
    rcases Zgo (h c (by simp)) with rfl | rfl | rfl | rfl
    ·obtain ⟨e,r,a,d⟩:=ZzV b none (out++flB p++[32]) h.tail
     exact ⟨e,r,a,ZbH d⟩
    ·exact ⟨22,_,rfl,Ayg _⟩
    ·exact ⟨22,_,rfl,Ayg _⟩
    ·exact ⟨22,_,rfl,Ayg _⟩
theorem ZHq (p:Option Nat) (out:BL):Bn true (T p out):=⟨fun _ a=>ZzV _ p out a,fun h=>by cases h⟩
theorem ZHB:∀ (n:Nat) (p:Option Nat) (out:BL),Pe n (T p out)
  | 0,_,_=>⟨fun h=>by omega,fun h=>by omega,fun h=>by omega,fun h=>by omega⟩
  | n+1,p,out=>by
    rw [ZFL]
    refine ZuP (.inl rfl) (fun c r b h=>ZAK (ZNo p out c) h (Aqo _)) fun c=>?_
    unfold tF
    split
    ·exact ZqE
    split
    ·exact Zov (Zys _) (Zyt _)
    split
    ·exact Zov (Zc1.sf.bind fun t=>ZHp _ _) (Pe.bind (m:=n) (k:=0) (Zc1.pe n) Zc1.sf Zc1.sf.st (fun t=>ZHB n _ _) fun t=>ZHp _ _)
    split
    ·exact Zov (ZHp _ _) (ZHB n _ _)
    ·exact Pe.bind (m:=n) (k:=1) (Ztw (ZhF.1.pe _)) (Ztv ZhF.1.sf) (ZqA ZhF.2) (fun t=>ZHB n _ _) fun t=>ZHp _ _
theorem ZHC:∀ (n:Nat) (p:Option Nat) (out:BL),Pb n true (T p out)
  | 0,_,_=>⟨fun h=>by omega,fun h=>by omega⟩
  | n+1,p,out=>by
    rw [ZFL]
    refine ZuQ fun c=>?_
    unfold tF
    split
    ·exact ZqF (by decide)
    split
    ·exact Zow (Zyu _ _) (Zyv _ _)
    split
    ·exact Zow (Pb.bind (m:=n) (k:=0) (s:=true) (s':=true) (Zc1.pe n) (Zc1.pb n) Zc1.sf Zc1.sf.st (fun t=>ZHC n _ _) fun t=>ZHq _ _) (Zc1.bn.bind (s':=true) Zc1.sf fun t=>ZHq _ _)
    split
    ·exact Zow (ZHC n _ _) (ZHq _ _)
    ·exact Pb.bind (m:=n) (k:=1) (s:=true) (s':=true) (Ztw (ZhF.1.pe _)) (Zza (ZhF.1.pb _)) (Ztv ZhF.1.sf) (ZqA ZhF.2) (fun t=>ZHC n _ _) fun t=>ZHq _ _
theorem ZCB (p:Option Nat) (out:BL):Good true (T p out):=⟨⟨ZHp p out,fun n=>ZHB n p out,fun n=>ZHC n p out⟩,ZHq p out⟩
theorem ZjA:ZnJ=T none []:=by
  funext l
  exact (ZpU _ l (Azc _)).1 []
def nmP:BL->Out BL:=fun l=>(Zd6 Xw l).bind fun _=>hdP (.err 24 []) fun c=>if c=34 then tlP fun l=>(ZnJ l).bind fun nm l=>(Zd6 Xw l).bind fun _=>hdP (.err 24 []) fun d=>if d=58 then tlP (okP nm) else ZaW 20 else ZaW 20
theorem Zuz:ZhL=nmP:=by
  funext l
  show ZhL l=hdP _ _ (X9 l)
  unfold ZhL
  cases X9 l with
  | nil=>rfl
  | cons c a =>
    show _=(if c=34 then _ else _:BL->Out BL) (c::a)
    dsimp only
    split
    ·show _=(ZnJ a).bind _
     congr 1
     funext nm b
     show _=hdP _ _ (X9 b)
     cases X9 b with
     | nil=>rfl
     | cons d e =>
       show _=(if d=58 then _ else _:BL->Out BL) (d::e)
       dsimp only
       split<;>rfl
    ·rfl
theorem ZlY {c d:UInt8} (a:Xw c=true) (hd:Xw d=false):c≠d:=fun e=>by rw [e,hd] at a;cases a
theorem ZmT:Good false ZhL/\St 1 ZhL:=by
  rw [Zuz]
  have g3:∀ nm:BL,Good false (hdP (.err 24 []) fun d=>if d=58 then tlP (okP nm) else ZaW 20):=fun nm=>by
    refine Good.hd (fun c=>Hf.ite (Good.okP _ _).tl (Hf.fail (by decide))) (fun c=>St.ite (ZbZ (Zic _)) Zbj) fun c b=>⟨20,?_⟩
    rw [if_neg (ZlY b (by decide))]
  have g2:∀ nm:BL,Good false fun l=>(Zd6 Xw l).bind fun _=>hdP (.err 24 []) fun d=>if d=58 then tlP (okP nm) else ZaW 20:=fun nm=>ZfW.bind fun _=>g3 nm
  have g1:Good false fun l=>(ZnJ l).bind fun nm l=>(Zd6 Xw l).bind fun _=>hdP (.err 24 []) fun d=>if d=58 then tlP (okP nm) else ZaW 20:=by
    rw [ZjA]
    exact (ZCB none []).bind fun nm=>g2 nm
  have g0:Good false (hdP (.err 24 []) fun c=>if c=34 then tlP fun l=>(ZnJ l).bind fun nm l=>(Zd6 Xw l).bind fun _=>hdP (.err 24 []) fun d=>if d=58 then tlP (okP nm) else ZaW 20 else ZaW 20)/\St 1 (hdP (.err 24 []) fun c=>if c=34 then tlP fun l=>(ZnJ l).bind fun nm l=>(Zd6 Xw l).bind fun _=>hdP (.err 24 []) fun d=>if d=58 then tlP (okP nm) else ZaW 20 else ZaW 20):=by
    have st:∀ c:UInt8,St 1 (if c=34 then tlP fun l=>(ZnJ l).bind fun nm l=>(Zd6 Xw l).bind fun _=>hdP (.err 24 []) fun d=>if d=58 then tlP (okP nm) else ZaW 20 else ZaW 20):=fun c=>St.ite (ZbZ (k:=0) g1.sf.st) Zbj
    refine ⟨Good.hd (fun c=>Hf.ite g1.tl (Hf.fail (by decide))) st fun c b=>⟨20,?_⟩,Zm9 (fun a r h=>by cases h) st⟩
    rw [if_neg (ZlY b (by decide))]
  exact ⟨ZfW.bind fun _=>g0.1,St.mono (St.bind (k:=0) (m:=1) (ZkA _) fun _=>g0.2) (by omega)⟩
section
variable {pv:BL->Out JV}
theorem Zur (ob:Bool) (ns:List BL) (sub:JL):Zb2 pv ob ns sub=if ob=true then fun l=>(ZhL l).bind fun nm l=>(pv l).bind fun v l=>(Zd6 Xw l).bind fun _=>okP (ns++[nm],sub.snoc v)
    else fun l=>(Zd6 Xw l).bind fun _ l=>(pv l).bind fun v l=>(Zd6 Xw l).bind fun _=>okP (ns,sub.snoc v):=by
  funext l
  unfold Zb2
  split<;>rfl
theorem Zea (b:Good false pv) (c:St 1 pv) (ob:Bool) (ns:List BL) (sub:JL):Good false (Zb2 pv ob ns sub)/\St 1 (Zb2 pv ob ns sub):=by
  rw [Zur]
  have fin:∀ a:List BL × JL,Good false fun l=>(Zd6 Xw l).bind fun _=>okP a:=fun a=>ZfW.bind fun _=>Good.okP false a
  split
  ·exact ⟨ZmT.1.bind fun nm=>b.bind fun v=>fin _,St.mono (m:=1) (St.bind (k:=1) (m:=1) ZmT.2 fun nm=>St.bind (k:=1) (m:=0) c fun v=>(fin _).sf.st) (by omega)⟩
  ·exact ⟨ZfW.bind fun _=>b.bind fun v=>fin _,St.mono (m:=1) (St.bind (k:=0) (m:=1) (ZkA _) fun _=>St.bind (k:=1) (m:=0) c fun v=>(fin _).sf.st) (by omega)⟩
def L (pv:BL->Out JV) (ob:Bool) (ns:List BL) (sub:JL):BL->Out (List BL × JL):=fun l=>Zf6 pv ob (l.length+1) ns sub l
theorem Zk8 (c:Good false pv) (d:St 1 pv) (ob:Bool):∀ (n m:Nat) (ns:List BL) (sub:JL) (l:BL),l.length<n->l.length<m->Zf6 pv ob n ns sub l=Zf6 pv ob m ns sub l
  | 0,_,_,_,_,h,_=>by omega
  | _,0,_,_,_,_,h=>by omega
  | n+1,m+1,ns,sub,l,f,hm=>by
    have go:∀ a,a.length<=l.length->((Zb2 pv ob ns sub a).bind fun p b=>Zf6 pv ob n p.1 p.2 b)=(Zb2 pv ob ns sub a).bind fun p b=>Zf6 pv ob m p.1 p.2 b:=fun a g=>by
      cases e:Zb2 pv ob ns sub a with
      | err k r=>rfl
      | ok p r=>have:=(Zea c d ob ns sub).2.len e;exact Zk8 c d ob n m _ _ r (by omega) (by omega)
    unfold Zf6
    rw [go l (Aqo _),go l.tail (by simp)]
def lF (pv:BL->Out JV) (ob:Bool) (ns:List BL) (sub:JL) (c:UInt8):BL->Out (List BL × JL) :=
  if c=Zh4 ob then tlP (okP (ns,sub))
  else if sub.isNil=true then fun l=>(Zb2 pv ob ns sub l).bind fun p=>L pv ob p.1 p.2
  else if c=44 then tlP fun l=>(Zb2 pv ob ns sub l).bind fun p=>L pv ob p.1 p.2
  else ZaW 20
theorem Zqe (a:pv [] = .err 24 []) (ob:Bool) (ns:List BL) (sub:JL):Zb2 pv ob ns sub [] = .err 24 []:=by
  unfold Zb2
  cases ob
  ·show (pv []).bind _=_
   rw [a];rfl
  ·rfl
theorem ZFw (g:Good false pv) (h:St 1 pv) (i:pv [] = .err 24 []) (ob:Bool) (ns:List BL) (sub:JL):L pv ob ns sub=hdP (.err 24 []) (lF pv ob ns sub):=by
  funext l
  rcases l with _ | ⟨c,l⟩
  ·show Zf6 pv ob 1 ns sub [] = .err 24 []
   unfold Zf6
   rw [if_neg (by simp [Zie]),Zqe i]
   split
   ·rfl
   ·rw [if_neg (by simp [Zie])];rfl
  ·show Zf6 pv ob ((c::l).length+1) ns sub (c::l)=lF pv ob ns sub c (c::l)
   unfold Zf6 lF
   have go:∀ a,a.length<=(c::l).length->((Zb2 pv ob ns sub a).bind fun p j=>Zf6 pv ob (c::l).length p.1 p.2 j)=(Zb2 pv ob ns sub a).bind fun p=>L pv ob p.1 p.2:=fun a m=>by
     cases e:Zb2 pv ob ns sub a with
     | err k r=>rfl
     | ok p r=>have:=(Zea g h ob ns sub).2.len e;exact Zk8 g h ob _ _ _ _ r (by omega) (by omega)
   rw [go _ (Aqo _),go (c::l).tail (by simp)]
   by_cases b:c=Zh4 ob
   ·rw [if_pos b,if_pos (by simp [Zie,b])];rfl
   rw [if_neg b,if_neg (by simp [Zie,b])]
   by_cases d:sub.isNil=true
   ·rw [if_pos d,if_pos d]
   rw [if_neg d,if_neg d]
   by_cases f:c=44
   ·rw [if_pos f,if_pos (by simp [Zie,f])];rfl
   ·rw [if_neg f,if_neg (by simp [Zie,f])]
theorem Zqs (j:Good false pv) (m:St 1 pv) (s:pv [] = .err 24 []) (ob:Bool):∀ (n:Nat) (ns:List BL) (sub:JL) (l:BL),l.length<n->(∀ a r,L pv ob ns sub l = .ok a r->r <:+l/\r.length<l.length)/\∀ e r,L pv ob ns sub l = .err e r->r <:+l/\(e=24↔r=[])
  | 0,_,_,_,h=>by omega
  | n+1,ns,sub,l,h=>by
    have t:∀ f,f.length<=l.length->f <:+l->(∀ a r,((Zb2 pv ob ns sub f).bind fun p=>L pv ob p.1 p.2) = .ok a r->r <:+l/\r.length<l.length)/\∀ e r,((Zb2 pv ob ns sub f).bind fun p=>L pv ob p.1 p.2) = .err e r->r <:+l/\(e=24↔r=[]):=fun f v d=>by
      have i:=Zea j m ob ns sub
      cases e:Zb2 pv ob ns sub f with
      | err k q=>exact ⟨fun a r h=>(by cases h),fun o r h=>by cases h;exact ⟨(i.1.sf.esuf e).1.trans d,(i.1.sf.esuf e).2⟩⟩
      | ok p q =>
        have w:=i.2.len e
        have u:=(i.1.sf.suf e).trans d
        obtain ⟨a,b⟩:=Zqs j m s ob n p.1 p.2 q (by omega)
        exact ⟨fun x r g=>⟨(a x r g).1.trans u,by have:=(a x r g).2;omega⟩,fun o r g=>⟨(b o r g).1.trans u,(b o r g).2⟩⟩
    rw [ZFw j m s]
    rcases l with _ | ⟨c,l⟩
    ·exact ⟨fun a r h=>(by cases h),fun e r h=>by cases h;simp⟩
    show (∀ a r,lF pv ob ns sub c (c::l) = .ok a r->_)/\∀ e r,lF pv ob ns sub c (c::l) = .err e r->_
    unfold lF
    split
    ·exact ⟨fun a r h=>by cases h;exact ⟨Aye _ _,by simp⟩,fun e r h=>by cases h⟩
    split
    ·exact t _ (Aqo _) (Ayg _)
    split
    ·exact t l (by simp) (Aye _ _)
    ·exact ⟨fun a r h=>(by cases h),fun e r h=>by cases h;simp⟩
theorem ZyN (d:Good false pv) (f:St 1 pv) (g:pv [] = .err 24 []) (ob:Bool) (ns:List BL) (sub:JL):Good false (L pv ob ns sub)/\St 1 (L pv ob ns sub):=by
  have sf:∀ ns sub,Sf (L pv ob ns sub):=fun ns sub=>⟨fun h=>((Zqs d f g ob _ ns sub _ (Azc _)).1 _ _ h).1,fun h=>(Zqs d f g ob _ ns sub _ (Azc _)).2 _ _ h⟩
  have st:∀ ns sub,St 1 (L pv ob ns sub):=fun ns sub=>⟨fun h=>((Zqs d f g ob _ ns sub _ (Azc _)).1 _ _ h).2⟩
  have fst:∀ ns sub c,St 1 (lF pv ob ns sub c):=fun ns sub c=>by
    unfold lF
    have a:=Zea d f ob ns sub
    have b:St 1 fun l=>(Zb2 pv ob ns sub l).bind fun p=>L pv ob p.1 p.2:=St.mono (m:=1) (St.bind (k:=1) (m:=1) a.2 fun p=>st _ _) (by omega)
    exact St.ite (ZbZ (Zic _)) (St.ite b (St.ite (St.mono (ZbZ b) (by omega)) Zbj))
  have bn:∀ ns sub,Bn false (L pv ob ns sub):=fun ns sub=>by
    have a:=Zea d f ob ns sub
    rw [ZFw d f g]
    refine ⟨fun {b} _ j=>?_,fun h=>by cases h⟩
    rcases b with _ | ⟨c,b⟩
    ·exact ⟨24,[],rfl,Ayg _⟩
    ·have o:=j c (by simp)
     show ∃ e r,lF pv ob ns sub c (c::b)=_/\_
     unfold lF
     rw [if_neg (ZlY o (by cases ob<;>decide)),if_neg (c:=c=44) (ZlY o (by decide))]
     split
     ·obtain ⟨e,r,q,t⟩:=a.1.bn.bl (Zqe g ob ns sub) j
      exact ⟨e,r,by dsimp only;rw [q];rfl,t⟩
     ·exact ⟨20,_,rfl,Ayg _⟩
  have pe:∀ n ns sub,Pe n (L pv ob ns sub):=by
    intro n
    induction n with
    | zero=>intro ns sub;exact ⟨fun h=>by omega,fun h=>by omega,fun h=>by omega,fun h=>by omega⟩
    | succ n i =>
      intro ns sub
      have a:=Zea d f ob ns sub
      rw [ZFw d f g]
      refine ZuP (.inl rfl) (fun c r b h=>ZAK (fst ns sub c) h (Aqo _)) fun c=>?_
      unfold lF
      have b:Pe (n+1) fun l=>(Zb2 pv ob ns sub l).bind fun p=>L pv ob p.1 p.2:=Pe.bind (m:=n) (k:=1) (a.1.pe _) a.1.sf a.2 (fun p=>i _ _) fun p=>sf _ _
      split
      ·exact Zov (Zys _) (Zyt _)
      split
      ·exact b
      split
      ·exact Zov (a.1.sf.bind fun p=>sf _ _) (b.mono (Azb n))
      ·exact ZqE
  have pb:∀ n ns sub,Pb n false (L pv ob ns sub):=by
    intro n
    induction n with
    | zero=>intro ns sub;exact ⟨fun h=>by omega,fun h=>by omega⟩
    | succ n i =>
      intro ns sub
      have a:=Zea d f ob ns sub
      rw [ZFw d f g]
      refine ZuQ fun c=>?_
      unfold lF
      have b:Pb (n+1) false fun l=>(Zb2 pv ob ns sub l).bind fun p=>L pv ob p.1 p.2:=Pb.bind (m:=n) (k:=1) (s:=false) (s':=false) (a.1.pe _) (a.1.pb _) a.1.sf a.2 (fun p=>i _ _) fun p=>bn _ _
      split
      ·exact Zow (Zyu _ _) (Zyv _ _)
      split
      ·exact b
      split
      ·exact Zow (b.mono (Azb n)) (a.1.bn.bind (s':=false) a.1.sf fun p=>bn _ _)
      ·exact ZqF (by decide)
  exact ⟨⟨⟨sf ns sub,fun n=>pe n ns sub,fun n=>pb n ns sub⟩,bn ns sub⟩,st ns sub⟩
end
def vF (op:Bool->BL->Out JV) (c:UInt8):BL->Out JV :=
  if c=123 then op true
  else if c=91 then op false
  else if c=34 then tlP fun l=>(ZnJ l).bind fun t=>okP ⟨5,t,[],.nil⟩
  else if c=110 then fun l=>(Zgr [110,117,108,108] l).bind fun _=>okP ⟨1,[],[],.nil⟩
  else if c=102 then fun l=>(Zgr [102,97,108,115,101] l).bind fun _=>okP ⟨2,[],[],.nil⟩
  else if c=116 then fun l=>(Zgr [116,114,117,101] l).bind fun _=>okP ⟨3,[],[],.nil⟩
  else if c=45\/ZbS c then fun l=>(Zhn Zih l).bind fun t=>okP ⟨4,t,[],.nil⟩
  else ZaW 20
def vP (op:Bool->BL->Out JV):BL->Out JV:=fun l=>(Zd6 Xw l).bind fun _=>hdP (.err 24 []) (vF op)
theorem Zkb {op op':Bool->BL->Out JV} (h:∀ b c l,op b (c::l)=op' b (c::l)):Zgx op=vP op':=by
  funext l
  show Zgx op l=hdP _ _ (X9 l)
  unfold Zgx
  cases X9 l with
  | nil=>rfl
  | cons c a =>
    show _=vF op' c (c::a)
    unfold vF
    dsimp only
    split
    ·exact h true c a
    split
    ·exact h false c a
    split
    ·rfl
    split
    ·rfl
    split
    ·rfl
    split
    ·rfl
    split
    ·show _=(Zhn Zih (c::a)).bind _
     unfold Zhn
     cases Zih (c::a)<;>rfl
    ·rfl
def opP (pv:BL->Out JV) (ob:Bool):BL->Out JV:=tlP fun l=>(Zd6 Xw l).bind fun _ l=>(L pv ob [] .nil l).bind fun p=>okP ⟨if ob then 7 else 6,[],p.1,p.2⟩
theorem Zqh {pv:BL->Out JV} (a:Good false pv) (b:St 1 pv) (ob:Bool) (c:UInt8) (l:BL):Zqi pv ob (c::l)=opP pv ob (c::l):=by
  show (Zf6 pv ob _ [] .nil (X9 l)).bind _=(L pv ob [] .nil (X9 l)).bind _
  unfold L
  rw [Zk8 a b ob ((c::l).length+1) ((X9 l).length+1)]
  ·rfl
  ·have:=(Zrr l).length_le;simp;omega
  ·omega
theorem Zxz {op:Bool->BL->Out JV} (ho:∀ b,Hf false (op b)) (d:∀ b,St 1 (op b)):Good false (vP op)/\St 1 (vP op):=by
  have e:=Zdl [110,117,108,108] (by decide)
  have f:=Zdl [102,97,108,115,101] (by decide)
  have i:=Zdl [116,114,117,101] (by decide)
  have j:Good false (fun l=>(ZnJ l).bind fun t=>okP (⟨5,t,[],.nil⟩:JV)):=by rw [ZjA];exact (ZCB none []).bind fun t=>Good.okP false _
  have n:∀ c,Hf false (vF op c):=fun c=>by
    unfold vF
    refine Hf.ite (ho true) (Hf.ite (ho false) (Hf.ite j.tl (Hf.ite ?_ (Hf.ite ?_ (Hf.ite ?_ (Hf.ite ?_ (Hf.fail (by decide))))))))
    ·exact (e.1.bind fun _=>Good.okP false _).toHf
    ·exact (f.1.bind fun _=>Good.okP false _).toHf
    ·exact (i.1.bind fun _=>Good.okP false _).toHf
    ·exact (ZlS.got.bind fun _=>Good.okP false _).toHf
  have st:∀ c,St 1 (vF op c):=fun c=>by
    unfold vF
    refine St.ite (d true) (St.ite (d false) (St.ite (ZbZ (k:=0) j.sf.st) (St.ite ?_ (St.ite ?_ (St.ite ?_ (St.ite ?_ Zbj))))))
    ·exact St.mono (St.bind (m:=0) e.2 fun _=>Zic _) (by simp)
    ·exact St.mono (St.bind (m:=0) f.2 fun _=>Zic _) (by simp)
    ·exact St.mono (St.bind (m:=0) i.2 fun _=>Zic _) (by simp)
    ·exact St.bind (k:=1) (m:=0) (ZqA Zyy) fun _=>Zic _
  have g:Good false (hdP (.err 24 []) (vF op)):=Good.hd n st fun c o=>⟨20,by
    rcases Zgo o with rfl | rfl | rfl | rfl<;>rfl⟩
  exact ⟨ZfW.bind fun _=>g,St.mono (St.bind (k:=0) (m:=1) (ZkA _) fun _=>Zm9 (fun a r h=>by cases h) st) (by omega)⟩
theorem Zbm:∀ n:Nat,Good false (Y2 n)/\St 1 (Y2 n)
  | 0=>by
    unfold Y2
    rw [Zkb (op':=fun _=>ZaW 23) fun b c l=>rfl]
    exact Zxz (fun _=>Hf.fail (by decide)) fun _=>Zbj
  | n+1=>by
    obtain ⟨a,d⟩:=Zbm n
    have f:Y2 n [] = .err 24 []:=by cases n<;>rfl
    unfold Y2
    rw [Zkb (op':=opP (Y2 n)) fun b c l=>Zqh a d b c l]
    have e:=fun ob=>ZyN a d f ob [] .nil
    exact Zxz (fun b=>(ZfW.bind fun _=>(e b).1.bind fun p=>Good.okP false _).tl) fun b=>ZbZ (k:=0) (ZfW.bind fun _=>(e b).1.bind fun p=>Good.okP false _).sf.st
theorem Zma (n:Nat):Y2 n [] = .err 24 []:=by cases n<;>rfl
theorem ZpC (n:Nat):Y2 (n+1)=vP (opP (Y2 n)):=Zkb fun b c l=>Zqh (Zbm n).1 (Zbm n).2 b c l
theorem Zrb:Y2 0=vP fun _=>ZaW 23:=Zkb fun b c l=>rfl
def Nz {α:Type} (p:BL->Out α):Prop:=∀ l e r,p l = .err e r->20<=e/\e<=24
section
variable {α β:Type}
theorem Nz.bind {p:BL->Out α} {f:α->BL->Out β} (hp:Nz p) (c:∀ a,Nz (f a)):Nz fun l=>(p l).bind f:=fun l e r h=>by
  dsimp only at h
  cases b:p l with
  | ok a d=>rw [b] at h;exact c a _ _ _ h
  | err k q=>rw [b] at h;cases h;exact hp _ _ _ b
theorem Nz.hd {a:Out α} {f:UInt8->BL->Out α} (d:fin a) (g:∀ c,Nz (f c)):Nz (hdP a f):=fun l e r h=>by
  rcases l with _ | ⟨c,l⟩
  ·rcases d with ⟨b,d⟩ | d<;>(rw [show hdP a f []=a from rfl,d] at h;cases h)
   exact ⟨by decide,by decide⟩
  ·exact g c _ _ _ h
theorem Nz.tl {g:BL->Out α} (a:Nz g):Nz (tlP g):=fun l e r h=>by
  rcases l with _ | ⟨c,l⟩
  ·cases h;exact ⟨by decide,by decide⟩
  ·exact a _ _ _ h
theorem Nz.ok (a:α):Nz (okP a):=fun l e r h=>by cases h
theorem Nz.fail {e:Nat} (he:20<=e/\e<=24):Nz (ZaW e:BL->Out α):=fun l k r h=>by
  cases l<;>cases h
  ·exact ⟨by decide,by decide⟩
  ·exact he
theorem Nz.ite {c:Prop} [Decidable c] {p q:BL->Out α} (hp:Nz p) (a:Nz q):Nz (if c then p else q):=by split<;>assumption
theorem Nz.got {p:BL->Out α} (hp:Nz p):Nz (Zhn p):=fun l e r h=>hp _ _ _ (Zjd h)
end
theorem Nz.drop (P:UInt8->Bool):Nz (Zd6 P):=fun l e r h=>by cases h
theorem Zns:Nz Xp:=by rw [Zlg];exact Nz.hd (.inr rfl) fun c=>Nz.ite (Nz.drop _).tl (Nz.fail (by decide))
theorem ZGI:Nz Zih:=by
  have a:Nz ZGL:=fun l e r h=>by cases h
  have b:Nz Zda:=by rw [ZoS];exact Nz.hd (.inl ⟨_,rfl⟩) fun c=>Nz.ite (Nz.fail (by decide)) (Nz.ok _)
  have d:Nz ZlW:=by rw [Ztr];exact Nz.hd (.inr rfl) fun c=>Nz.ite b.tl Zns
  have f:Nz ZiL:=by rw [ZuW];exact Nz.hd (.inl ⟨_,rfl⟩) fun c=>Nz.ite Zns.tl (Nz.ok _)
  have g:Nz ZGz:=fun l e r h=>by cases h
  have i:Nz Znl:=by rw [Zzn];exact Nz.hd (.inl ⟨_,rfl⟩) fun c=>Nz.ite (g.bind fun _=>Zns).tl (Nz.ok _)
  rw [Zth]
  exact a.bind fun _=>d.bind fun _=>f.bind fun _=>i
theorem Zpy:∀ w:BL,Nz (Zgr w)
  | []=>Nz.ok ()
  | c::w=>by rw [Zt0];exact Nz.hd (.inr rfl) fun d=>Nz.ite (Zpy w).tl (Nz.fail (by decide))
theorem ZCt:∀ k n:Nat,Nz (Zji k n)
  | 0,n=>Nz.ok n
  | k+1,n=>by
    rw [Zy8]
    refine Nz.hd (.inr rfl) fun c=>?_
    cases ZlG c with
    | some d=>exact (ZCt k _).tl
    | none=>exact Nz.fail (by decide)
theorem ZGt:Nz Zou:=by
  rw [ZxL]
  refine Nz.hd (.inr rfl) fun c=>?_
  cases ZfD c with
  | some m=>exact (Nz.ok _).tl
  | none=>exact Nz.ite ((ZCt 4 0).bind fun n=>Nz.ok _).tl (Nz.fail (by decide))
theorem Zzz:∀ n a b:Nat,Nz (Zft n a b)
  | 0,_,_=>Nz.ok ()
  | n+1,a,b=>by rw [Zva];exact Nz.hd (.inr rfl) fun d=>Nz.ite (Zzz n _ _).tl (Nz.fail (by decide))
theorem ZEt:Nz Zcx:=by rw [Zuj];exact Nz.hd (.inr rfl) fun c=>Nz.ite (Nz.fail (by decide)) (Zzz _ _ _).tl
theorem ZlN:∀ (n:Nat) (p:Option Nat) (out l:BL) (e:Nat) (r:BL),Zd3 n p out l = .err e r->20<=e/\e<=24
  | 0,_,_,_,_,_,h=>by cases h;exact ⟨by decide,by decide⟩
  | n+1,p,out,[],_,_,h=>by cases h;exact ⟨by decide,by decide⟩
  | n+1,p,out,c::l,e,r,h=>by
    rw [ZeC] at h
    split at h
    ·cases h;exact ⟨by decide,by decide⟩
    split at h
    ·cases h
    split at h
    ·cases ht:Zou l with
     | err k q=>rw [ht] at h;cases h;exact ZGt _ _ _ ht
     | ok t q=>rw [ht] at h;exact ZlN n _ _ _ _ _ h
    split at h
    ·exact ZlN n _ _ _ _ _ h
    ·cases ht:Zcx (c::l) with
     | err k q=>rw [ht] at h;cases h;exact ZEt _ _ _ ht
     | ok t q=>rw [ht] at h;exact ZlN n _ _ _ _ _ h
theorem ZN7 (p:Option Nat) (out:BL):Nz (T p out):=fun l e r h=>ZlN _ _ _ _ _ _ h
theorem ZEG:Nz ZhL:=by
  rw [Zuz]
  have g3:∀ nm:BL,Nz (hdP (.err 24 []) fun d=>if d=58 then tlP (okP nm) else ZaW 20):=fun nm=>Nz.hd (.inr rfl) fun c=>Nz.ite (Nz.ok _).tl (Nz.fail (by decide))
  have g1:Nz fun l=>(ZnJ l).bind fun nm l=>(Zd6 Xw l).bind fun _=>hdP (.err 24 []) fun d=>if d=58 then tlP (okP nm) else ZaW 20:=by
    rw [ZjA]
    exact (ZN7 none []).bind fun nm=>(Nz.drop _).bind fun _=>g3 nm
  exact (Nz.drop _).bind fun _=>Nz.hd (.inr rfl) fun c=>Nz.ite g1.tl (Nz.fail (by decide))
theorem Zyi {a:BL->Out JV} (b:Nz a) (ob:Bool) (ns:List BL) (sub:JL):Nz (Zb2 a ob ns sub):=by
  rw [Zur]
  split
  ·exact ZEG.bind fun nm=>b.bind fun v=>(Nz.drop _).bind fun _=>Nz.ok _
  ·exact (Nz.drop _).bind fun _=>b.bind fun v=>(Nz.drop _).bind fun _=>Nz.ok _
theorem Ztn {b:BL->Out JV} (a:Nz b) (ob:Bool):∀ (m:Nat) (ns:List BL) (sub:JL),Nz (Zf6 b ob m ns sub)
  | 0,_,_,l,e,r,h=>by cases h;exact ⟨by decide,by decide⟩
  | m+1,ns,sub,l,e,r,h=>by
    unfold Zf6 at h
    split at h
    ·cases h
    split at h
    ·exact ((Zyi a ob ns sub).bind fun p=>Ztn a ob m p.1 p.2) _ _ _ h
    split at h
    ·exact ((Zyi a ob ns sub).bind fun p=>Ztn a ob m p.1 p.2) _ _ _ h
    ·exact Nz.fail (by decide) _ _ _ h
theorem ZGm {op:Bool->BL->Out JV} (ho:∀ b,Nz (op b)):Nz (vP op):=by
  refine (Nz.drop _).bind fun _=>Nz.hd (.inr rfl) fun c=>?_
  unfold vF
  have a:Nz (fun l=>(ZnJ l).bind fun t=>okP (⟨5,t,[],.nil⟩:JV)):=by rw [ZjA];exact (ZN7 none []).bind fun t=>Nz.ok _
  exact Nz.ite (ho true) (Nz.ite (ho false) (Nz.ite a.tl (Nz.ite ((Zpy _).bind fun _=>Nz.ok _) (Nz.ite ((Zpy _).bind fun _=>Nz.ok _) (Nz.ite ((Zpy _).bind fun _=>Nz.ok _) (Nz.ite (ZGI.got.bind fun _=>Nz.ok _) (Nz.fail (by decide))))))))
theorem Zt2:∀ n:Nat,Nz (Y2 n)
  | 0=>by rw [Zrb];exact ZGm fun _=>Nz.fail (by decide)
  | n+1=>by
    rw [ZpC]
    exact ZGm fun b=>Nz.tl ((Nz.drop _).bind fun _=>Nz.bind (fun l e r h=>Ztn (Zt2 n) b _ _ _ _ _ _ h) fun p=>Nz.ok _)
theorem Zi7 {l:BL} (h:l.length<=65536):Zdo l=match Y2 64 l with
    | .err e r=> .err e (l.length - r.length)
    | .ok v r=>match X9 r with
      | []=> .ok v
      | c::a=> .err 25 (l.length - (c::a).length):=by
  unfold Zdo
  rw [if_neg (by omega)]
  rfl
theorem Zi8 {l:BL} (h:65536<l.length):Zdo l = .err 5 65536:=by
  unfold Zdo
  rw [if_pos h]
theorem ZA3 {l:BL} {e k:Nat} (h:Zdo l = .err e k):e=5\/(20<=e/\e<=25):=by
  by_cases b:l.length<=65536
  ·rw [Zi7 b] at h
   cases a:Y2 64 l with
   | err k q=>rw [a] at h;cases h;have:=Zt2 64 _ _ _ a;omega
   | ok v r =>
     rw [a] at h
     simp only at h
     split at h
     ·cases h
     ·cases h;right;omega
  ·rw [Zi8 (by omega)] at h;cases h;exact .inl rfl
def Zy9 (n:Nat):UInt8:=UInt8.ofNat (if n<10 then 48+n else 87+n)
def Zgu (c:UInt8):BL :=
  if c=34\/c=92 then [92,c]
  else if c=8 then [92,98] else if c=12 then [92,102] else if c=10 then [92,110] else if c=13 then [92,114] else if c=9 then [92,116]
  else if c.toNat<32 then [92,117,48,48,Zy9 (c.toNat / 16),Zy9 (c.toNat % 16)]
  else [c]
def ZgE (t:BL):BL:=34::(t.flatMap Zgu++[34])
def prV (k:Nat) (t body:BL):BL :=
  if k=1 then [110,117,108,108] else if k=2 then [102,97,108,115,101] else if k=3 then [116,114,117,101]
  else if k=4 then t else if k=5 then ZgE t else if k=7 then 123::(body++[125]) else 91::(body++[93])
def ZqZ (first:Bool):BL:=if first then [] else [44]
def nmB (ob:Bool) (ns:List BL):BL:=if ob then ZgE (ns.headD [])++[58] else []
def YM:Bool->Bool->List BL->JL->BL
  | _,_,_,.nil=>[]
  | ob,first,ns,.cons k t ns' sub rest=>ZqZ first++nmB ob ns++prV k t (YM (decide (k=7)) true ns' sub)++YM ob false ns.tail rest
def Zbn (v:JV):BL:=prV v.k v.t (YM (decide (v.k=7)) true v.ns v.sub)
inductive Utf:BL->Prop where
  | nil:Utf []
  | cons {x l:BL}:Zcs x=true->Utf l->Utf (x++l)
def ZgB (k:Nat) (t:BL) (ns:List BL) (sub:JL):Prop :=
  ((k=1\/k=2\/k=3)/\t=[]/\ns=[]/\sub = .nil)\/(k=4/\Zih t = .ok () []/\t.length<=65536/\ns=[]/\sub = .nil)\/(k=5/\Utf t/\ns=[]/\sub = .nil) \/
    (k=6/\t=[]/\ns=[])\/(k=7/\t=[]/\ns.length=sub.len/\∀ n∈ns,Utf n)
def Zc5:Nat->JL->Prop
  | _,.nil=>True
  | 0,.cons k t ns sub rest=>ZgB k t ns sub/\k≠6/\k≠7/\Zc5 0 rest
  | d+1,.cons k t ns sub rest=>ZgB k t ns sub/\Zc5 d sub/\Zc5 (d+1) rest
def ZaX (d:Nat) (v:JV):Prop:=Zc5 d (.cons v.k v.t v.ns v.sub .nil)
theorem ZFg:∀ c:UInt8,c.toNat<128->(Zgu c=[c]/\32<=c.toNat/\c≠34/\c≠92)\/(∃ m,Zgu c=[92,m]/\ZfD m=some c) \/
    ∃ h l,Zgu c=[92,117,48,48,h,l]/\∃ a b,ZlG h=some a/\ZlG l=some b/\a*16+b=c.toNat/\c.toNat<32:=by
  have key:∀ b:Fin 256,b.val<128->(Zgu ⟨⟨b⟩⟩=[⟨⟨b⟩⟩]/\32<=b.val/\(⟨⟨b⟩⟩:UInt8)≠34/\(⟨⟨b⟩⟩:UInt8)≠92)\/(ZfD ((Zgu ⟨⟨b⟩⟩).getD 1 0)=some ⟨⟨b⟩⟩/\Zgu ⟨⟨b⟩⟩=[92,(Zgu ⟨⟨b⟩⟩).getD 1 0]) \/
      (b.val<32/\Zgu ⟨⟨b⟩⟩=[92,117,48,48,Zy9 (b.val / 16),Zy9 (b.val % 16)]/\ZlG (Zy9 (b.val / 16))=some (b.val / 16)/\ZlG (Zy9 (b.val % 16))=some (b.val % 16)):=by decide +kernel
  rintro ⟨⟨b⟩⟩ h
  rcases key b h with h | h | h
  ·exact .inl h
  ·exact .inr (.inl ⟨_,h.2,h.1⟩)
  ·exact .inr (.inr ⟨_,_,h.2.1,_,_,h.2.2.1,h.2.2.2,by show b.val / 16*16+b.val % 16=b.val;omega,h.1⟩)
theorem ZEh {c:UInt8} (h:c.toNat<128):Zhc (ZlH c.toNat)=[c]:=by
  unfold ZlH
  rw [if_neg (by omega)]
  unfold Zhc
  rw [if_pos h]
  simp
theorem ZPK {h l:UInt8} {a b:Nat} (c:ZlG h=some a) (d:ZlG l=some b) (r:BL):Zji 4 0 (48::48::h::l::r) = .ok (a*16+b) r:=by
  have e:ZlG 48=some 0:=by decide
  simp only [Zji,e,c,d]
  congr 1
  omega
theorem Zx3 {x:BL} (i:Zcs x=true) (out r:BL):T none out (x.flatMap Zgu++r)=T none (out++x) r:=by
  rcases x with _ | ⟨c,x⟩
  ·cases i
  by_cases g:c.toNat<128
  ·have k:x=[]:=by
     simp only [Zcs,ZrM c g,Awn,decide_eq_true_eq] at i
     exact Aqr (by omega)
   subst k
   simp only [Azd,List.flatMap_nil,Ayt]
   rw [ZFL]
   rcases ZFg c g with ⟨e,n,o,p⟩ | ⟨m,e,hm⟩ | ⟨h,l,e,a,b,B,C,q,n⟩
   ·rw [e]
    show tF none out c (c::r)=_
    unfold tF
    rw [if_neg (by omega),if_neg o,if_neg p,if_pos g]
    simp [tlP,flB]
   ·rw [e]
    show tF none out 92 (92::m::r)=_
    unfold tF
    rw [if_neg (by decide),if_neg (by decide),if_pos rfl]
    show (Zou (m::r)).bind _=_
    rw [ZfV,hm]
    simp [Zot,flB]
   ·rw [e]
    show tF none out 92 (92::117::48::48::h::l::r)=_
    unfold tF
    rw [if_neg (by decide),if_neg (by decide),if_pos rfl]
    show (Zou (117::48::48::h::l::r)).bind _=_
    rw [ZfV,ZEI]
    simp only [↓reduceIte]
    rw [ZPK B C,q]
    have j:ZuJ c.toNat=false:=by unfold ZuJ;simp;omega
    simp only [Out.bind_ok,Zot,j,Aqc,↓reduceIte,ZEh g]
  ·
   have f:128<=c.toNat:=by omega
   have A:=i
   simp only [Zcs,Awn,decide_eq_true_eq] at A
   have s:2<=nRb c:=by
     rcases ZB4 c f with ⟨t0,_⟩ | ⟨_,F,_⟩<;>omega
   have big:∀ (y:BL) (t j:Nat),128<=t->okC t j y=true->∀ d∈y,128<=d.toNat:=by
     intro y
     induction y with
     | nil=>intro _ _ _ _ d hd;cases hd
     | cons z y u =>
       intro t j D h d hd
       simp only [okC,Awn,decide_eq_true_eq] at h
       rcases Awr.1 hd with rfl | hd
       ·omega
       ·exact u 128 191 (Aqo _) h.2 d hd
   have all:∀ d∈c::x,128<=d.toNat:=fun d hd=>by
     rcases Awr.1 hd with rfl | hd
     ·exact f
     ·exact big x _ _ (ZyP c s) A.2 d hd
   have same:∀ y:BL,(∀ d∈y,128<=d.toNat)->y.flatMap Zgu=y:=by
     intro y
     induction y with
     | nil=>intro _;rfl
     | cons z y u =>
       intro h
       have E:=h z (by simp)
       rw [Azd,u fun d hd=>h d (by simp [hd])]
       have:Zgu z=[z]:=by
         have key:∀ b:Fin 256,128<=b.val->Zgu ⟨⟨b⟩⟩=[⟨⟨b⟩⟩]:=by decide +kernel
         rcases z with ⟨⟨b⟩⟩
         exact key b E
       rw [this];rfl
   rw [same _ all,ZFL]
   show tF none out c (c::(x++r))=_
   unfold tF
   have v:c≠34:=fun e=>by rw [e] at f;revert f;decide
   have w:c≠92:=fun e=>by rw [e] at f;revert f;decide
   rw [if_neg (by omega),if_neg v,if_neg w,if_neg g]
   show (Zhn Zcx (c::x++r)).bind _=_
   unfold Zhn
   rw [Zrv i]
   simp only [Out.bind_ok,flB,Ayt]
   rw [Zc0]
theorem ZAx {t:BL} (h:Utf t):∀ out r,T none out (t.flatMap Zgu++r)=T none (out++t) r:=by
  induction h with
  | nil=>intro out r;simp
  | cons a _ b =>
    intro out r
    rw [Aze,Ayz,Zx3 a,b,Ayz]
theorem ZNV (out r:BL):T none out (34::r) = .ok out r:=by
  rw [ZFL]
  show tF none out 34 (34::r)=_
  unfold tF
  rw [if_neg (by decide),if_pos rfl]
  simp [tlP,okP,flB]
theorem Zud {t:BL} (h:Utf t) (r:BL):ZnJ (t.flatMap Zgu++34::r) = .ok t r:=by
  rw [ZjA,ZAx h,ZNV,Ayq]
def ZxW (r:BL):Prop:=r=[]\/∃ c l,r=c::l/\(c=44\/c=93\/c=125)
theorem ZA8 {t r:BL} (h:Zih t = .ok () []) (p:ZxW r):Zih (t++r) = .ok () r:=by
  rcases p with rfl | ⟨c,l,rfl,s⟩
  ·rwa [Ayt]
  ·have u:c≠46/\ZbS c=false/\c≠101/\c≠69/\c≠43/\c≠45/\c≠48:=by
     rcases s with rfl | rfl | rfl<;>decide
   obtain ⟨j,m,n101,k,v,y,z⟩:=u
   have dg:∀ {a q:BL},Xp a = .ok () q->Xp (a++c::l) = .ok () (q++c::l):=fun {a q} b=>by
     rcases a with _ | ⟨d,a⟩
     ·cases b
     ·dsimp only [Xp,List.cons_append] at b ⊢
      split at b
      ·rename_i hd
       cases b
       rw [if_pos hd]
       congr 1
       by_cases i:∀ x∈a,ZbS x=true
       ·rw [Aza i,Zsh.2 i,Ayj (by simp [m])];rfl
       ·clear hd h
        induction a with
        | nil=>exact absurd (fun x g=>by cases g) i
        | cons e a A =>
          by_cases he:ZbS e=true
          ·rw [Ayp,Ayi he,Ayi he]
           exact A fun b=>i fun x g=>by
             rcases Awr.1 g with rfl | g
             ·exact he
             ·exact b x g
          ·rw [Ayp,Ayj he,Ayj he];rfl
      ·cases b
   have B:∀ a:BL,a≠[]->Zee (a++c::l)=Zee a++c::l:=fun a f=>by
     rcases a with _ | ⟨d,a⟩
     ·exact absurd rfl f
     ·dsimp only [Zee,List.cons_append]
      split<;>rfl
   have it:∀ {a q:BL},ZlW a = .ok () q->ZlW (a++c::l) = .ok () (q++c::l):=fun {a q} b=>by
     rcases a with _ | ⟨d,a⟩
     ·cases b
     ·by_cases hd:d=48
      ·subst hd
       rw [Ayp,show ZlW (48::(a++c::l))=Zda (a++c::l) from rfl]
       rw [show ZlW (48::a)=Zda a from rfl] at b
       rcases a with _ | ⟨e,a⟩
       ·cases b
        show (if ZbS c=true then _ else _)=_
        rw [if_neg (by simp [m])];rfl
       ·dsimp only [Zda,List.cons_append] at b ⊢
        split at b
        ·cases b
        ·rename_i he;cases b;rw [if_neg he];rfl
      ·have n:∀ w,ZlW (d::w)=Xp (d::w):=fun w=>by
         show (if d=48 then _ else _)=_
         rw [if_neg hd]
       rw [Ayp,n]
       rw [n] at b
       exact dg b
   have fr:∀ {a q:BL},ZiL a = .ok () q->ZiL (a++c::l) = .ok () (q++c::l):=fun {a q} b=>by
     rcases a with _ | ⟨d,a⟩
     ·cases b
      show (if c=46 then _ else _)=_
      rw [if_neg j];rfl
     ·dsimp only [ZiL,List.cons_append] at b ⊢
      split at b
      ·rename_i hd;rw [if_pos hd];exact dg b
      ·rename_i hd;rw [if_neg hd];cases b;rfl
   have ex:∀ {a q:BL},Znl a = .ok () q->Znl (a++c::l) = .ok () (q++c::l):=fun {a q} b=>by
     rcases a with _ | ⟨d,a⟩
     ·cases b
      show (if c=101\/c=69 then _ else _)=_
      rw [if_neg (by simp [n101,k])];rfl
     ·dsimp only [Znl,List.cons_append] at b ⊢
      split at b
      ·rename_i hd
       rw [if_pos hd]
       have sg:Zkh (a++c::l)=Zkh a++c::l:=by
         rcases a with _ | ⟨e,a⟩
         ·cases b
         ·dsimp only [Zkh,List.cons_append]
          split<;>rfl
       rw [sg]
       exact dg b
      ·rename_i hd;rw [if_neg hd];cases b;rfl
   obtain ⟨a,E,o,C,D⟩:=Zqn h
   have f:t≠[]:=by
     rintro rfl
     cases o
   unfold Zih
   rw [B t f,it o]
   simp only [Out.bind_ok]
   rw [fr C]
   simp only [Out.bind_ok]
   rw [ex D];rfl
theorem Zux {t:BL} (h:Zih t = .ok () []):∃ c l,t=c::l/\(c=45\/ZbS c=true):=by
  obtain ⟨e,f,a,g,i⟩:=Zqn h
  rcases t with _ | ⟨c,t⟩
  ·cases a
  ·refine ⟨c,t,rfl,?_⟩
   by_cases d:c=45
   ·exact .inl d
   ·right
    have:Zee (c::t)=c::t:=by
      show (if c=45 then _ else _)=_
      rw [if_neg d]
    rw [this] at a
    by_cases b:c=48
    ·subst b;decide
    ·have:ZlW (c::t)=Xp (c::t):=by
       show (if c=48 then _ else _)=_
       rw [if_neg b]
     rw [this] at a
     dsimp only [Xp] at a
     split at a
     ·assumption
     ·cases a
def ZBR:JL->JL->JL
  | .nil,b=>b
  | .cons k t ns s r,b=> .cons k t ns s (ZBR r b)
theorem app_snoc (v:JV) (b:JL):∀ a:JL,ZBR (a.snoc v) b=ZBR a (.cons v.k v.t v.ns v.sub b)
  | .nil=>rfl
  | .cons _ _ _ _ r=>by simp only [JL.snoc,ZBR,app_snoc v b r]
theorem app_nil:∀ a:JL,ZBR a .nil=a
  | .nil=>rfl
  | .cons _ _ _ _ r=>by simp only [ZBR,app_nil r]
theorem ZEE (b:JL):ZBR .nil b=b:=rfl
theorem ZvG (v:JV) (a:JL):(a.snoc v).isNil=false:=by cases a<;>rfl
theorem Zqd {k:Nat} {t:BL} {ns:List BL} {sub:JL} (h:ZgB k t ns sub) (body:BL):∃ c l,prV k t body=c::l/\Xw c=false/\c≠44/\c≠93/\c≠125:=by
  rcases h with ⟨b | b | b,_⟩ | ⟨b,d,_⟩ | ⟨b,_⟩ | ⟨b,_⟩ | ⟨b,_⟩<;>subst b
  ·exact ⟨_,_,rfl,by decide,by decide,by decide,by decide⟩
  ·exact ⟨_,_,rfl,by decide,by decide,by decide,by decide⟩
  ·exact ⟨_,_,rfl,by decide,by decide,by decide,by decide⟩
  ·obtain ⟨c,l,e,a⟩:=Zux d
   refine ⟨c,l,e,?_,?_,?_,?_⟩
   ·cases f:Xw c with
    | false=>rfl
    | true =>
      rcases Zgo f with rfl | rfl | rfl | rfl<;>(rcases a with a | a<;>revert a<;>decide)
   all_goals (rintro rfl;rcases a with a | a<;>revert a<;>decide)
  ·exact ⟨_,_,rfl,by decide,by decide,by decide,by decide⟩
  ·exact ⟨_,_,rfl,by decide,by decide,by decide,by decide⟩
  ·exact ⟨_,_,rfl,by decide,by decide,by decide,by decide⟩
theorem ZcD {c:UInt8} {l:BL} (h:Xw c=false):X9 (c::l)=c::l:=by
  unfold X9;rw [Ayj (by simp [h])]
theorem ZoM {n:Nat} {k:Nat} {t:BL} {ns:List BL} {sub:JL} (h:ZgB k t ns sub) (m:k≠6) (o:k≠7) (body:BL) {r:BL} (p:ZxW r) :
    Y2 n (prV k t body++r) = .ok ⟨k,t,ns,sub⟩ r:=by
  have go:∀ op,vP op (prV k t body++r) = .ok ⟨k,t,ns,sub⟩ r:=fun op=>by
    obtain ⟨c,l,e,q,_⟩:=Zqd h body
    show hdP _ (vF op) (X9 (prV k t body++r))=_
    rw [show X9 (prV k t body++r)=prV k t body++r by rw [e];exact ZcD q]
    rcases h with ⟨b,ht,d,a⟩ | ⟨b,i,_,d,a⟩ | ⟨b,hu,d,a⟩ | ⟨b,_⟩ | ⟨b,_⟩
    ·subst ht d a
     rcases b with b | b | b<;>subst b<;>rfl
    ·subst b d a
     obtain ⟨c,l,e,f⟩:=Zux i
     show hdP _ (vF op) (t++r)=_
     have j:Zhn Zih (t++r) = .ok t r:=by unfold Zhn;rw [ZA8 i p];simp only [Out.bind_ok];rw [Zc0]
     rw [e] at j ⊢
     show vF op c (c::(l++r))=_
     have g:c≠123/\c≠91/\c≠34/\c≠110/\c≠102/\c≠116:=by
       refine ⟨?_,?_,?_,?_,?_,?_⟩<;>(rintro rfl;rcases f with f | f<;>revert f<;>decide)
     obtain ⟨s,a2,a3,a4,a5,u⟩:=g
     unfold vF
     rw [if_neg s,if_neg a2,if_neg a3,if_neg a4,if_neg a5,if_neg u,if_pos f]
     show (Zhn Zih (c::l++r)).bind _=_
     rw [j];rfl
    ·subst b d a
     show vF op 34 (34::(t.flatMap Zgu++[34]++r))=_
     unfold vF
     rw [if_neg (by decide),if_neg (by decide),if_pos rfl]
     show (ZnJ (t.flatMap Zgu++[34]++r)).bind _=_
     rw [Ayz,show ([34]:BL)++r=34::r from rfl,Zud hu];rfl
    ·exact absurd b m
    ·exact absurd b o
  cases n with
  | zero=>rw [Zrb];exact go _
  | succ n=>rw [ZpC];exact go _
theorem ZvY (ob:Bool) (ns:List BL) (rest:JL) (r:BL):ZxW (YM ob false ns rest++Zh4 ob::r):=by
  right
  cases rest with
  | nil=>exact ⟨_,_,rfl,by cases ob<;>simp [Zh4]⟩
  | cons k t ns' sub rest=>exact ⟨44,_,rfl,.inl rfl⟩
theorem ZrQ {n:Nat} (F:∀ k t ns sub r,Zc5 n (.cons k t ns sub .nil)->ZxW r->Y2 n (prV k t (YM (decide (k=7)) true ns sub)++r) = .ok ⟨k,t,ns,sub⟩ r) (ob:Bool) (r:BL) :
    ∀ (rest:JL) (ns f:List BL) (e:JL),Zc5 n rest->(ob=true->ns.length=rest.len/\∀ m∈ns,Utf m)->(ob=false->ns=[]) ->
      L (Y2 n) ob f e (YM ob e.isNil ns rest++Zh4 ob::r) = .ok (f++ns,ZBR e rest) r
  | .nil,ns,f,e,_,j,u=>by
    have M:ns=[]:=by
      cases ob with
      | false=>exact u rfl
      | true=>exact Aqr (by rw [(j rfl).1];rfl)
    subst M
    rw [ZFw (Zbm n).1 (Zbm n).2 (Zma n)]
    show lF (Y2 n) ob f e (Zh4 ob) (Zh4 ob::r)=_
    unfold lF
    rw [if_pos rfl,app_nil,Ayt];rfl
  | .cons k t ns' sub rest,ns,f,e,g,j,u=>by
    have i:Zc5 n (.cons k t ns' sub .nil)/\Zc5 n rest/\ZgB k t ns' sub:=by
      cases n with
      | zero=>exact ⟨⟨g.1,g.2.1,g.2.2.1,trivial⟩,g.2.2.2,g.1⟩
      | succ n=>exact ⟨⟨g.1,g.2.1,trivial⟩,g.2.2,g.1⟩
    obtain ⟨i,y,N⟩:=i
    have O:=fun z o=>ZrQ F ob r rest ns.tail z o y
    have A:=ZvY ob ns.tail rest r
    obtain ⟨c,l,G,P,H,p,B⟩:=Zqd N (YM (decide (k=7)) true ns' sub)
    have part:Zb2 (Y2 n) ob f e (nmB ob ns++prV k t (YM (decide (k=7)) true ns' sub)++(YM ob false ns.tail rest++Zh4 ob::r)) =
        .ok (if ob then f++[ns.headD []] else f,e.snoc ⟨k,t,ns',sub⟩) (YM ob false ns.tail rest++Zh4 ob::r):=by
      have q:X9 (YM ob false ns.tail rest++Zh4 ob::r)=YM ob false ns.tail rest++Zh4 ob::r:=by
        cases rest with
        | nil=>exact ZcD (by cases ob<;>decide)
        | cons S t2 Q I C=>exact ZcD (c:=44) (by decide)
      have s:=F k t ns' sub _ i A
      cases ob with
      | false =>
        show (Y2 n (X9 _)).bind _=_
        have D:X9 (prV k t (YM (decide (k=7)) true ns' sub)++(YM false false ns.tail rest++Zh4 false::r))=prV k t (YM (decide (k=7)) true ns' sub)++(YM false false ns.tail rest++Zh4 false::r):=by rw [G];exact ZcD P
        rw [show nmB false ns=[] from rfl,Ayq,D,s]
        simp only [Out.bind_ok,q];rfl
      | true =>
        have hu:Utf (ns.headD []):=by
          cases ns with
          | nil=>exact .nil
          | cons a ns=>exact (j rfl).2 a (by simp)
        show (ZhL _).bind _=_
        have E:∀ w,ZhL (nmB true ns++w) = .ok (ns.headD []) w:=fun w=>by
          rw [show nmB true ns++w=34::((ns.headD []).flatMap Zgu++34::(58::w)) by simp [nmB,ZgE]]
          unfold ZhL
          rw [ZcD (by decide)]
          simp only [↓reduceIte]
          rw [Zud hu]
          simp only [Out.bind_ok]
          rw [ZcD (by decide)]
          simp
        rw [Ayz,E]
        simp only [Out.bind_ok]
        rw [s]
        simp only [Out.bind_ok,q];rfl
    have fin:L (Y2 n) ob (if ob then f++[ns.headD []] else f) (e.snoc ⟨k,t,ns',sub⟩) (YM ob false ns.tail rest++Zh4 ob::r) = .ok (f++ns,ZBR e (.cons k t ns' sub rest)) r:=by
      have:=O (if ob then f++[ns.headD []] else f) (e.snoc ⟨k,t,ns',sub⟩) (fun h=>by
          subst h
          obtain ⟨a,b⟩:=j rfl
          cases ns with
          | nil=>cases a
          | cons m ns=>exact ⟨by simpa [JL.len] using a,fun x J=>b x (by simp at J;simp [J])⟩) (fun h=>by rw [u h];rfl)
      rw [ZvG,app_snoc] at this
      rw [this]
      congr 2
      cases ob with
      | false=>rw [u rfl];rfl
      | true =>
        cases ns with
        | nil=>have:=(j rfl).1;cases this
        | cons m ns=>simp
    rw [ZFw (Zbm n).1 (Zbm n).2 (Zma n)]
    have first:∀ w:BL,∃ d v,nmB ob ns++prV k t (YM (decide (k=7)) true ns' sub)++w=d::v/\d≠Zh4 ob:=fun w=>by
      cases ob with
      | false=>rw [G];exact ⟨c,_,rfl,p⟩
      | true=>exact ⟨34,_,rfl,by decide⟩
    show hdP _ _ (ZqZ e.isNil++nmB ob ns++prV k t (YM (decide (k=7)) true ns' sub)++YM ob false ns.tail rest++Zh4 ob::r)=_
    cases K:e.isNil with
    | true =>
      rw [show ZqZ true++nmB ob ns++prV k t (YM (decide (k=7)) true ns' sub)++YM ob false ns.tail rest++Zh4 ob::r=nmB ob ns++prV k t (YM (decide (k=7)) true ns' sub)++(YM ob false ns.tail rest++Zh4 ob::r) by simp [ZqZ]]
      obtain ⟨d,v,R,hd⟩:=first (YM ob false ns.tail rest++Zh4 ob::r)
      rw [R] at part ⊢
      show lF (Y2 n) ob f e d (d::v)=_
      unfold lF
      rw [if_neg hd,if_pos K]
      show (Zb2 (Y2 n) ob f e (d::v)).bind _=_
      rw [part]
      exact fin
    | false =>
      rw [show ZqZ false++nmB ob ns++prV k t (YM (decide (k=7)) true ns' sub)++YM ob false ns.tail rest++Zh4 ob::r=44::(nmB ob ns++prV k t (YM (decide (k=7)) true ns' sub)++(YM ob false ns.tail rest++Zh4 ob::r)) by simp [ZqZ]]
      show lF (Y2 n) ob f e 44 (44::_)=_
      unfold lF
      rw [if_neg (by cases ob<;>decide),if_neg (by simp [K]),if_pos rfl]
      show (Zb2 (Y2 n) ob f e _).bind _=_
      rw [part]
      exact fin
theorem Zoi:∀ (n:Nat) (k:Nat) (t:BL) (ns:List BL) (sub:JL) (r:BL),Zc5 n (.cons k t ns sub .nil)->ZxW r->Y2 n (prV k t (YM (decide (k=7)) true ns sub)++r) = .ok ⟨k,t,ns,sub⟩ r
  | 0,k,t,ns,sub,r,h,i=>ZoM h.1 h.2.1 h.2.2.1 _ i
  | n+1,k,t,ns,sub,r,h,i=>by
    have lists:∀ ob:Bool,k=(if ob then 7 else 6)->t=[]->(ob=true->ns.length=sub.len/\∀ m∈ns,Utf m)->(ob=false->ns=[])->Y2 (n+1) (prV k t (YM (decide (k=7)) true ns sub)++r) = .ok ⟨k,t,ns,sub⟩ r:=fun ob a ht v w=>by
      subst ht
      have x:=ZrQ (fun k t ns sub r=>Zoi n k t ns sub r) ob r sub ns [] .nil h.2.1 v w
      have j:X9 (YM ob true ns sub++Zh4 ob::r)=YM ob true ns sub++Zh4 ob::r:=by
        cases sub with
        | nil=>exact ZcD (by cases ob<;>decide)
        | cons g t2 f d o =>
          have p:ZgB g t2 f d:=by
            have:=h.2.1
            cases n<;>exact this.1
          cases ob with
          | true=>exact ZcD (c:=34) (by decide)
          | false =>
            obtain ⟨c,l,e,y,_⟩:=Zqd p (YM (decide (g=7)) true f d)
            show X9 (ZqZ true++nmB false ns++prV g t2 _++_++_)=ZqZ true++nmB false ns++prV g t2 _++_++_
            rw [e]
            exact ZcD y
      have b:opP (Y2 n) ob ((if ob then 123 else 91)::(YM ob true ns sub++Zh4 ob::r)) = .ok ⟨k,[],ns,sub⟩ r:=by
        show (L (Y2 n) ob [] .nil (X9 (YM ob true ns sub++Zh4 ob::r))).bind _=_
        rw [j]
        rw [show YM ob true ns sub=YM ob (JL.nil).isNil ns sub from rfl,x,ZEE]
        rw [a]
        rfl
      rw [ZpC]
      show hdP _ (vF _) (X9 _)=_
      cases ob with
      | true =>
        simp only [↓reduceIte] at a
        subst a
        rw [show prV 7 [] (YM (decide (7=7)) true ns sub)++r=123::(YM true true ns sub++Zh4 true::r) by simp [prV,Zh4],ZcD (by decide)]
        exact b
      | false =>
        simp only [Aqc,↓reduceIte] at a
        subst a
        rw [show prV 6 [] (YM (decide (6=7)) true ns sub)++r=91::(YM false true ns sub++Zh4 false::r) by simp [prV,Zh4],ZcD (by decide)]
        exact b
    by_cases s:k=6
    ·refine lists false s ?_ (fun h=>by cases h) fun _=>?_
     ·rcases h.1 with ⟨a,_⟩ | ⟨a,_⟩ | ⟨a,_⟩ | ⟨_,ht,_⟩ | ⟨_,ht,_⟩
      ·omega
      ·omega
      ·omega
      ·exact ht
      ·exact ht
     ·rcases h.1 with ⟨a,_⟩ | ⟨a,_⟩ | ⟨a,_⟩ | ⟨_,_,q⟩ | ⟨a,_⟩
      ·omega
      ·omega
      ·omega
      ·exact q
      ·omega
    by_cases u:k=7
    ·rcases h.1 with ⟨a,_⟩ | ⟨a,_⟩ | ⟨a,_⟩ | ⟨a,_⟩ | ⟨_,ht,q⟩
     ·omega
     ·omega
     ·omega
     ·omega
     ·exact lists true u ht (fun _=>q) fun h=>by cases h
    ·exact ZoM h.1 s u _ i
theorem ZoO {v:JV} (h:ZaX 64 v) (a:(Zbn v).length<=65536):Zdo (Zbn v) = .ok v:=by
  rw [Zi7 a]
  have:=Zoi 64 v.k v.t v.ns v.sub [] h (.inl rfl)
  rw [Ayt] at this
  unfold Zbn
  rw [this]
  rfl
theorem Utf.app {a b:BL} (c:Utf a) (d:Utf b):Utf (a++b):=by
  induction c with
  | nil=>exact d
  | cons e _ f=>rw [Ayz];exact .cons e f
theorem Utf.one {x:BL} (h:Zcs x=true):Utf x:=by
  have:=Utf.cons h .nil
  rwa [Ayt] at this
theorem Zy7 {c:UInt8} {d:Nat} (h:ZlG c=some d):d<16:=by
  unfold ZlG at h
  split at h
  ·cases h;omega
  split at h
  ·cases h;omega
  split at h
  ·cases h;omega
  ·cases h
theorem Zqz:∀ (k:Nat) {n m:Nat} {l r:BL},Zji k n l = .ok m r->m<(n+1)*16 ^ k
  | 0,n,m,_,_,h=>by cases h;omega
  | k+1,n,m,[],_,h=>by cases h
  | k+1,n,m,c::l,r,h=>by
    unfold Zji at h
    cases hd:ZlG c with
    | none=>simp only [hd] at h;cases h
    | some d =>
      simp only [hd] at h
      have b:=Zqz k h
      have e:=Zy7 hd
      have a:n*16+d+1<=(n+1)*16:=by omega
      have f:(n*16+d+1)*16 ^ k<=((n+1)*16)*16 ^ k:=Aqz _ a
      rw [Nat.pow_succ]
      have g:(n+1)*16*16 ^ k=(n+1)*(16 ^ k*16):=by rw [Axg,Azf 16]
      omega
theorem Zet {n:Nat} (h:n<256):(UInt8.ofNat n).toNat=n:=by simp;omega
theorem ZlJ {n:Nat} (h:n<1114112) (k:n<55296\/57344<=n):Zcs (Zhc n)=true:=by
  unfold Zhc
  split
  ·rename_i b
   have:=ZrM (UInt8.ofNat n) (by rw [Zet (by omega)];exact b)
   simp [Zcs,this,okC]
  split
  ·rename_i b f
   have ht:Zub (UInt8.ofNat (192+n / 64)).toNat=(2,128,191):=by
     rw [Zet (by omega)];unfold Zub;rw [if_neg (by omega),if_pos (by omega)]
   have g:(UInt8.ofNat (128+n % 64)).toNat=128+n % 64:=Zet (by omega)
   simp only [Zcs,nRb,loR,hiR,ht,okC,g,Awn,decide_eq_true_eq,Aqj,Ays,and_true]
   omega
  split
  ·rename_i b f i
   have c:(UInt8.ofNat (224+n / 4096)).toNat=224+n / 4096:=Zet (by omega)
   have d:(UInt8.ofNat (128+n / 64 % 64)).toNat=128+n / 64 % 64:=Zet (by omega)
   have e:(UInt8.ofNat (128+n % 64)).toNat=128+n % 64:=Zet (by omega)
   have ht:Zub (UInt8.ofNat (224+n / 4096)).toNat=(3,if n / 4096=0 then 160 else 128,if n / 4096=13 then 159 else 191):=by
     rw [c];unfold Zub
     rw [if_neg (by omega),if_neg (by omega)]
     by_cases c0:n / 4096=0
     ·rw [if_pos (by omega),if_pos c0,if_neg (by omega)]
     ·rw [if_neg (by omega),if_neg c0]
      by_cases a:n / 4096=13
      ·rw [if_pos (by omega),if_pos a]
      ·rw [if_neg (by omega),if_pos (by omega),if_neg a]
   simp only [Zcs,nRb,loR,hiR,ht,okC,d,e,Awn,decide_eq_true_eq,Aqj,Ays,and_true]
   refine ⟨by omega,⟨?_,?_⟩,by omega⟩
   ·split<;>omega
   ·split<;>omega
  ·rename_i b f i
   have c:(UInt8.ofNat (240+n / 262144)).toNat=240+n / 262144:=Zet (by omega)
   have d:(UInt8.ofNat (128+n / 4096 % 64)).toNat=128+n / 4096 % 64:=Zet (by omega)
   have e:(UInt8.ofNat (128+n / 64 % 64)).toNat=128+n / 64 % 64:=Zet (by omega)
   have j:(UInt8.ofNat (128+n % 64)).toNat=128+n % 64:=Zet (by omega)
   have ht:Zub (UInt8.ofNat (240+n / 262144)).toNat=(4,if n / 262144=0 then 144 else 128,if n / 262144=4 then 143 else 191):=by
     rw [c];unfold Zub
     rw [if_neg (by omega),if_neg (by omega),if_neg (by omega),if_neg (by omega),if_neg (by omega)]
     by_cases c0:n / 262144=0
     ·rw [if_pos (by omega),if_pos c0,if_neg (by omega)]
     ·rw [if_neg (by omega),if_neg c0]
      by_cases c4:n / 262144=4
      ·rw [if_neg (by omega),if_pos (by omega),if_pos c4]
      ·rw [if_pos (by omega),if_neg c4]
   simp only [Zcs,nRb,loR,hiR,ht,okC,d,e,j,Awn,decide_eq_true_eq,Aqj,Ays,and_true]
   refine ⟨by omega,⟨?_,?_⟩,by omega⟩
   ·split<;>omega
   ·split<;>omega
theorem Zzj {k:Nat} (h:k<65536):Zcs (Zhc (ZlH k))=true:=by
  unfold ZlH
  split
  ·exact ZlJ (by decide) (.inr (by decide))
  ·exact ZlJ (by omega) (by omega)
theorem ZqD:Zcs (Zhc 65533)=true:=ZlJ (by decide) (.inr (by decide))
theorem ZBa:∀ c m:UInt8,ZfD c=some m->m.toNat<128:=by
  intro c m h
  unfold ZfD at h
  repeat' split at h
  all_goals (cases h;try decide)
theorem Zyp {c:UInt8} (h:c.toNat<128):Zcs [c]=true:=by simp [Zcs,ZrM c h,okC]
theorem ZG9 (p:Option Nat):Utf (flB p):=by
  cases p with
  | none=>exact .nil
  | some n=>exact Utf.one ZqD
theorem ZlM:∀ (n:Nat) (p:Option Nat) (out l t r:BL),Utf out->(∀ k,p=some k->ZuJ k=true)->Zd3 n p out l = .ok t r->Utf t
  | 0,_,_,_,_,_,_,_,h=>by cases h
  | n+1,p,out,[],_,_,_,_,h=>by cases h
  | n+1,p,out,c::l,t,r,ho,hp,h=>by
    have b:Utf (out++flB p):=ho.app (ZG9 p)
    rw [ZeC] at h
    split at h
    ·cases h
    split at h
    ·cases h;exact b
    split at h
    ·cases ht:Zou l with
     | err k q=>rw [ht] at h;cases h
     | ok k q =>
       rw [ht] at h
       have f:(∀ j,(Zot p out k).1=some j->ZuJ j=true)/\Utf (Zot p out k).2:=by
         cases k with
         | ch m =>
           refine ⟨fun j a=>(by cases a),b.app (Utf.one (Zyp ?_))⟩
           rcases l with _ | ⟨d,l⟩
           ·cases ht
           ·rw [ZfV] at ht
            cases hm:ZfD d with
            | some o=>rw [hm] at ht;cases ht;exact ZBa _ _ hm
            | none =>
              rw [hm] at ht
              simp only at ht
              split at ht
              ·obtain ⟨_,_,_,g⟩:=Yh ht;cases g
              ·cases ht
         | uni m =>
           have hm:m<65536:=by
             rcases l with _ | ⟨d,l⟩
             ·cases ht
             ·rw [ZfV] at ht
              cases hm:ZfD d with
              | some o=>rw [hm] at ht;cases ht
              | none =>
                rw [hm] at ht
                simp only at ht
                split at ht
                ·obtain ⟨x,y,s,g⟩:=Yh ht
                 cases g
                 have:=Zqz 4 s
                 omega
                ·cases ht
           cases p with
           | none =>
             unfold Zot
             simp only
             split
             ·rename_i i;exact ⟨fun j a=>by cases a;exact i,ho⟩
             ·exact ⟨fun j a=>(by cases a),ho.app (Utf.one (Zzj hm))⟩
           | some k =>
             have f:=hp k rfl
             unfold Zot
             simp only
             split
             ·rename_i u
              refine ⟨fun j a=>(by cases a),ho.app (Utf.one (ZlJ ?_ (.inr ?_)))⟩
              ·simp [ZuJ,ZCr] at f u;unfold Zyk;omega
              ·unfold Zyk;omega
             split
             ·rename_i i;exact ⟨fun j a=>by cases a;exact i,ho.app (Utf.one ZqD)⟩
             ·exact ⟨fun j a=>(by cases a),(ho.app (Utf.one ZqD)).app (Utf.one (Zzj hm))⟩
       exact ZlM n _ _ _ _ _ f.2 f.1 h
    split at h
    ·rename_i v
     exact ZlM n _ _ _ _ _ (b.app (Utf.one (Zyp v))) (fun k f=>by cases f) h
    ·cases ht:Zcx (c::l) with
     | err k q=>rw [ht] at h;cases h
     | ok k q =>
       rw [ht] at h
       obtain ⟨x,e,w⟩:=Zmr ht
       refine ZlM n _ _ _ _ _ (b.app (Utf.one ?_)) (fun k f=>by cases f) h
       rw [e,Zc0]
       exact w
theorem ZxV {l t r:BL} (h:ZnJ l = .ok t r):Utf t:=by
  rw [ZjA] at h
  exact ZlM _ _ _ _ _ _ .nil (fun k a=>by cases a) h
theorem ZE4 {l t r:BL} (h:Zhn Zih l = .ok t r):Zih t = .ok () []/\t.length+r.length=l.length:=by
  obtain ⟨⟨a,b⟩,e⟩:=ZiD h
  obtain ⟨x,rfl⟩:=ZlS.sf.suf b
  rw [Zc0] at e
  subst e
  refine ⟨?_,by simp⟩
  rcases r with _ | ⟨c,r⟩
  ·rwa [Ayt] at b
  ·exact (ZlS.pe (t.length+1)).cutO (by omega) b
def ZiQ:JL->Nat
  | .nil=>0
  | .cons _ _ _ sub rest=>1+ZiQ sub+ZiQ rest
def Zg8 (v:JV):Nat:=1+ZiQ v.sub
theorem ZqL (v:JV):∀ l:JL,ZiQ (l.snoc v)=ZiQ l+Zg8 v
  | .nil=>by simp [JL.snoc,ZiQ,Zg8]
  | .cons _ _ _ _ r=>by simp only [JL.snoc,ZiQ,ZqL v r];omega
theorem Zi1 {d:Nat} {v:JV} (a:ZaX d v):∀ {l:JL},Zc5 d l->Zc5 d (l.snoc v)
  | .nil,_=>a
  | .cons k t ns s r,h=>by
    cases d with
    | zero=>exact ⟨h.1,h.2.1,h.2.2.1,Zi1 a h.2.2.2⟩
    | succ d=>exact ⟨h.1,h.2.1,Zi1 a h.2.2⟩
theorem Zwb {l nm r:BL} (h:ZhL l = .ok nm r):Utf nm/\r.length+1<=l.length:=by
  refine ⟨?_,ZmT.2.len h⟩
  unfold ZhL at h
  split at h
  ·split at h
   ·obtain ⟨t,c,b,a⟩:=Yh h
    split at a
    ·split at a
     ·cases a;exact ZxV b
     ·cases a
    ·cases a
   ·cases h
  ·cases h
theorem ZbI (l:BL):(X9 l).length<=l.length:=(Zrr l).length_le
def ZnI (d:Nat) (ob:Bool) (ns:List BL) (sub:JL):Prop:=Zc5 d sub/\(ob=true->ns.length=sub.len/\∀ m∈ns,Utf m)/\(ob=false->ns=[])
theorem ZoW {d:Nat} (o:∀ l v r,l.length<=65536->Y2 d l = .ok v r->ZaX d v/\Zg8 v+r.length<=l.length) (ob:Bool):∀ (m:Nat) (ns:List BL) (sub:JL) (l:BL) (p:List BL × JL) (r:BL),
    l.length<=65536->ZnI d ob ns sub->Zf6 (Y2 d) ob m ns sub l = .ok p r->ZnI d ob p.1 p.2/\ZiQ p.2+r.length<=ZiQ sub+l.length
  | 0,_,_,_,_,_,_,_,h=>by cases h
  | m+1,ns,sub,l,p,r,hlen,ho,h=>by
    have part:∀ g q w,g.length<=65536->Zb2 (Y2 d) ob ns sub g = .ok q w->ZnI d ob q.1 q.2/\ZiQ q.2+w.length<=ZiQ sub+g.length:=fun g q w C i=>by
      unfold Zb2 at i
      split at i
      ·rename_i f
       obtain ⟨nm,E,n,s⟩:=Yh i
       obtain ⟨v,t,u,y⟩:=Yh s
       cases y
       obtain ⟨a,b⟩:=Zwb n
       obtain ⟨c,e⟩:=o _ _ _ (by omega) u
       obtain ⟨z,A,B⟩:=ho
       refine ⟨⟨Zi1 c z,fun _=>⟨?_,?_⟩,fun j=>?_⟩,?_⟩
       ·simp only [Awe,JL.len_snoc,(A f).1,List.length_singleton]
       ·intro x k
        rcases Axz.1 k with k | k
        ·exact (A f).2 x k
        ·simp at k;rw [k];exact a
       ·rw [f] at j;cases j
       ·dsimp only
        rw [ZqL]
        have:=ZbI t
        omega
      ·rename_i f
       obtain ⟨v,t,u,y⟩:=Yh i
       cases y
       obtain ⟨c,e⟩:=o _ _ _ (by have:=ZbI g;omega) u
       obtain ⟨z,A,B⟩:=ho
       refine ⟨⟨Zi1 c z,fun j=>absurd j f,fun j=>B j⟩,?_⟩
       dsimp only
       rw [ZqL]
       have:=ZbI t
       have:=ZbI g
       omega
    have go:∀ g,g.length<=l.length->((Zb2 (Y2 d) ob ns sub g).bind fun p D=>Zf6 (Y2 d) ob m p.1 p.2 D) = .ok p r->ZnI d ob p.1 p.2/\ZiQ p.2+r.length<=ZiQ sub+l.length:=fun g F i=>by
      obtain ⟨q,w,n,s⟩:=Yh i
      obtain ⟨a,b⟩:=part _ _ _ (by omega) n
      have:=(Zea (Zbm d).1 (Zbm d).2 ob ns sub).2.len n
      obtain ⟨c,e⟩:=ZoW o ob m _ _ _ _ _ (by omega) a s
      exact ⟨c,by omega⟩
    unfold Zf6 at h
    split at h
    ·cases h;exact ⟨ho,by simp⟩
    split at h
    ·exact go _ (Aqo _) h
    split at h
    ·exact go _ (by simp) h
    ·cases l<;>cases h
theorem ZmL {op:Bool->BL->Out JV} {d:Nat} (m:∀ b c l v r,(c::l).length<=65536->op b (c::l) = .ok v r->ZaX d v/\Zg8 v+r.length<=(c::l).length):∀ l v r,l.length<=65536->Zgx op l = .ok v r->ZaX d v/\Zg8 v+r.length<=l.length:=by
  intro l v r hlen h
  have f:=ZbI l
  have n:∀ {k:Nat} {t:BL},ZgB k t [] .nil->k≠6->k≠7->ZaX d ⟨k,t,[],.nil⟩:=fun {k t} q s u=>by
    cases d with
    | zero=>exact ⟨q,s,u,trivial⟩
    | succ d=>exact ⟨q,trivial,trivial⟩
  unfold Zgx at h
  split at h
  ·cases h
  ·rename_i c p e
   rw [e] at f
   split at h
   ·have:=m _ _ _ _ _ (by omega) h;exact ⟨this.1,by omega⟩
   split at h
   ·have:=m _ _ _ _ _ (by omega) h;exact ⟨this.1,by omega⟩
   split at h
   ·obtain ⟨t,o,g,i⟩:=Yh h
    cases i
    have j:r.length+1<=p.length:=by rw [ZjA] at g;exact (ZHA none []).len g
    exact ⟨n (.inr (.inr (.inl ⟨rfl,ZxV g,rfl,rfl⟩))) (by decide) (by decide),by simp [Zg8,ZiQ] at f ⊢;omega⟩
   split at h
   ·obtain ⟨t,o,g,i⟩:=Yh h
    cases i
    have j:=(Zdl [110,117,108,108] (by decide)).2.len g
    exact ⟨n (.inl ⟨.inl rfl,rfl,rfl,rfl⟩) (by decide) (by decide),by simp [Zg8,ZiQ] at f j ⊢;omega⟩
   split at h
   ·obtain ⟨t,o,g,i⟩:=Yh h
    cases i
    have j:=(Zdl [102,97,108,115,101] (by decide)).2.len g
    exact ⟨n (.inl ⟨.inr (.inl rfl),rfl,rfl,rfl⟩) (by decide) (by decide),by simp [Zg8,ZiQ] at f j ⊢;omega⟩
   split at h
   ·obtain ⟨t,o,g,i⟩:=Yh h
    cases i
    have j:=(Zdl [116,114,117,101] (by decide)).2.len g
    exact ⟨n (.inl ⟨.inr (.inr rfl),rfl,rfl,rfl⟩) (by decide) (by decide),by simp [Zg8,ZiQ] at f j ⊢;omega⟩
   split at h
   ·obtain ⟨t,o,g,i⟩:=Yh h
    cases i
    have w:Zhn Zih (c::p) = .ok (upto (c::p) r) r:=by unfold Zhn;rw [g];rfl
    obtain ⟨a,b⟩:=ZE4 w
    have j:=Zyy.len g
    exact ⟨n (.inr (.inl ⟨rfl,a,by omega,rfl,rfl⟩)) (by decide) (by decide),by simp [Zg8,ZiQ] at f j ⊢;omega⟩
   ·cases h
theorem Zl9:∀ (d:Nat) (l:BL) (v:JV) (r:BL),l.length<=65536->Y2 d l = .ok v r->ZaX d v/\Zg8 v+r.length<=l.length
  | 0,l,v,r,hlen,h=>ZmL (op:=fun _ l=>ZaW 23 l) (fun b c l v r _ h=>by cases h) l v r hlen h
  | d+1,l,v,r,hlen,h=>by
    refine ZmL (op:=Zqi (Y2 d)) (fun b c l v r a h=>?_) l v r hlen h
    obtain ⟨p,q,f,g⟩:=Yh h
    cases g
    have i:=ZbI l
    have j:ZnI d b [] .nil:=⟨by cases d<;>exact trivial,fun _=>⟨rfl,fun m hm=>by cases hm⟩,fun _=>rfl⟩
    obtain ⟨⟨k,n,o⟩,t⟩:=ZoW (Zl9 d) b _ _ _ _ _ _ (by simp at a ⊢;omega) j f
    refine ⟨⟨?_,k,trivial⟩,?_⟩
    ·cases b with
     | true=>exact .inr (.inr (.inr (.inr ⟨rfl,rfl,n rfl⟩)))
     | false=>exact .inr (.inr (.inr (.inl ⟨rfl,rfl,o rfl⟩)))
    ·have e:ZiQ JL.nil=0:=rfl
     have s:(X9 (c::l).tail).length<=l.length:=i
     simp only [Zg8,Aqj]
     omega
theorem ZjJ {l:BL} {v:JV} (h:Zdo l = .ok v):ZaX 64 v/\Zg8 v<=65536/\l.length<=65536:=by
  by_cases c:l.length<=65536
  ·rw [Zi7 c] at h
   cases d:Y2 64 l with
   | err k q=>rw [d] at h;cases h
   | ok w r =>
     rw [d] at h
     simp only at h
     obtain ⟨a,b⟩:=Zl9 64 l w r c d
     split at h
     ·cases h
      exact ⟨a,by omega,c⟩
     ·cases h
  ·rw [Zi8 (by omega)] at h;cases h
end Go.Js
namespace Go.Proofs.YtpjbjdheeemdiaaGreatDoor
open Go Go.Fw Go.Js
theorem Zl6 {n:Int} (d : -2147483648<=n) (e:n<=2147483647):IntKind.wrap .i32 n=n:=by
  unfold IntKind.wrap
  have b:(2:Int) ^ IntKind.i32.bits=4294967296:=by decide
  have a:(2:Int) ^ (IntKind.i32.bits - 1)=2147483648:=by decide
  have c:IntKind.i32.signed=true:=rfl
  simp only [b,a,c,Aqa]
  rcases Int.lt_or_le n 0 with h | h
  ·have:n % 4294967296=n+4294967296:=by omega
   rw [this,if_pos (by simp;omega)]
   omega
  ·have:n % 4294967296=n:=by omega
   rw [this,if_neg (by simp;omega)]
theorem ZEa {n:Int} (c:0<=n) (d:n<4294967296):IntKind.wrap .u32 n=n:=by
  unfold IntKind.wrap
  have a:(2:Int) ^ IntKind.u32.bits=4294967296:=by decide
  have b:IntKind.u32.signed=false:=rfl
  simp only [a,b,Aqb,Aqc,if_false]
  omega
theorem ZGy {n k:Nat} (a:k<=20) (h:n*2 ^ k<2147483648):Zz5 .i32 (n:Int) (k:Int)=((n*2 ^ k:Nat):Int):=by
  unfold Zz5
  rw [Aqu,show min k IntKind.i32.bits=k from Nat.min_eq_left (by show k<=32;omega)]
  rw [show (n:Int)*2 ^ k=((n*2 ^ k:Nat):Int) by push_cast;rfl,Zl6 (by omega) (by omega)]
theorem ZPE {a d:Nat} (f:a*16<2147483648) (hd:d<16):orV .i32 ((a*16:Nat):Int) (d:Int)=((a*16+d:Nat):Int):=by
  unfold orV
  have c:IntKind.i32.bits=32:=rfl
  rw [c,BitVec.ofInt_natCast,BitVec.ofInt_natCast,BitVec.toNat_or,BitVec.toNat_ofNat,BitVec.toNat_ofNat,Awv (by omega),Awv (by omega)]
  have e:a*16+d=a*16 ||| d:=by
    have:=Nat.shiftLeft_add_eq_or_of_lt (b:=d) (i:=4) (by omega) a
    rwa [Nat.shiftLeft_eq] at this
  rw [<- e,Zl6 (by omega) (by omega)]
theorem Zm8 {N c:Nat} {d:Nat} (b:N<65536) (hd:d<16) {x:Int} (a:x=(d:Int)):orV .i32 (Zz5 .i32 (N:Int) 4) (IntKind.wrap .i32 x)=((N*16+d:Nat):Int):=by
  subst a
  rw [show ((4:Int))=((4:Nat):Int) from rfl,ZGy (by omega) (by omega),Zl6 (by omega) (by omega)]
  exact ZPE (by omega) hd
theorem ZvI {n k:Nat} (a:k<=20):ZvH .i32 (n:Int) (k:Int)=((n / 2 ^ k:Nat):Int):=by
  unfold ZvH
  rw [Aqu,show min k IntKind.i32.bits=k from Nat.min_eq_left (by show k<=32;omega)]
  have:(2:Int) ^ k=((2 ^ k:Nat):Int):=by push_cast;rfl
  rw [this,Int.fdiv_eq_ediv_of_nonneg _ (Int.natCast_nonneg _)]
  rfl
theorem w8 (n:Nat):IntKind.wrap .u8 (n:Int)=((n % 256:Nat):Int):=by rw [Zxk];rfl
theorem ZNT {a:Nat} (c:a<256):Zvm .u8 (a:Int) 63=((a % 64:Nat):Int):=by
  have:∀ b:Fin 256,Zvm .u8 ((b.val:Nat):Int) 63=((b.val % 64:Nat):Int):=by decide +kernel
  exact this ⟨a,c⟩
theorem ZNu {a:Nat} (c:a<64):orV .u8 128 (a:Int)=((128+a:Nat):Int):=by
  have:∀ b:Fin 64,orV .u8 128 ((b.val:Nat):Int)=((128+b.val:Nat):Int):=by decide +kernel
  exact this ⟨a,c⟩
theorem ZNt {a:Nat} (c:a<32):orV .u8 192 (a:Int)=((192+a:Nat):Int):=by
  have:∀ b:Fin 32,orV .u8 192 ((b.val:Nat):Int)=((192+b.val:Nat):Int):=by decide +kernel
  exact this ⟨a,c⟩
theorem ZNs {a:Nat} (c:a<16):orV .u8 224 (a:Int)=((224+a:Nat):Int):=by
  have:∀ b:Fin 16,orV .u8 224 ((b.val:Nat):Int)=((224+b.val:Nat):Int):=by decide +kernel
  exact this ⟨a,c⟩
theorem ZNr {a:Nat} (c:a<8):orV .u8 240 (a:Int)=((240+a:Nat):Int):=by
  have:∀ b:Fin 8,orV .u8 240 ((b.val:Nat):Int)=((240+b.val:Nat):Int):=by decide +kernel
  exact this ⟨a,c⟩
theorem ZzE {n:Nat} (h:n<256):Value.int .u8 (n:Int)=bv (UInt8.ofNat n):=by
  unfold bv;rw [Zet h]
theorem Zht (n:Nat):Value.int .u8 (orV .u8 128 (Zvm .u8 (IntKind.wrap .u8 (n:Int)) 63))=bv (UInt8.ofNat (128+n % 64)):=by
  rw [w8,ZNT (by omega),ZNu (by omega),show n % 256 % 64=n % 64 by omega]
  exact ZzE (by omega)
theorem Zwk (c:UInt8):(48<=c.toNat/\c.toNat<=57/\ZlG c=some (c.toNat - 48))\/(¬ (48<=c.toNat/\c.toNat<=57)/\97<=c.toNat/\c.toNat<=102/\ZlG c=some (c.toNat - 87)) \/
    (¬ (48<=c.toNat/\c.toNat<=57)/\¬ (97<=c.toNat/\c.toNat<=102)/\65<=c.toNat/\c.toNat<=70/\ZlG c=some (c.toNat - 55)) \/
    (¬ (48<=c.toNat/\c.toNat<=57)/\¬ (97<=c.toNat/\c.toNat<=102)/\¬ (65<=c.toNat/\c.toNat<=70)/\ZlG c=none):=by
  unfold ZlG
  by_cases a:48<=c.toNat/\c.toNat<=57
  ·rw [if_pos a];exact .inl ⟨a.1,a.2,rfl⟩
  rw [if_neg a]
  by_cases b:97<=c.toNat/\c.toNat<=102
  ·rw [if_pos b];exact .inr (.inl ⟨a,b.1,b.2,rfl⟩)
  rw [if_neg b]
  by_cases d:65<=c.toNat/\c.toNat<=70
  ·rw [if_pos d];exact .inr (.inr (.inl ⟨a,b,d.1,d.2,rfl⟩))
  ·rw [if_neg d];exact .inr (.inr (.inr ⟨a,b,d,rfl⟩))
theorem Zr1 (k n:Nat) (c:UInt8) (l:BL):Zji (k+1) n (c::l)=match ZlG c with
    | some d=>Zji k (n*16+d) l
    | none=> .err 22 (c::l):=rfl
theorem ZuO {h:Zc} {R:Nat} {s:ByteArray} {l:BL} (J:Rd h R s l) {K:Int->HP} {P:Value->HP}
    (t:∀ (n:Nat) r h',Zji 4 0 l = .ok n r->Rd h' R s r->Upd (· = R) h h'->sz h'=sz h->K n h') (j:OnE h R s (· = R) (Zji 4 0 l) P):Zbt (At R) K P h:=by
  unfold Zbt ZeN
  refine Za (Za ?_)
  refine Zv (fun p h'=>∃ (N k:Nat) (C:BL),p.1=N/\p.2.1=((4 - k:Nat):Int)/\k<=4/\N<16 ^ (4 - k)/\Zji k N C=Zji 4 0 l/\Rd h' R s C/\Upd (· = R) h h'/\sz h'=sz h) (fun p _=>(4 - p.2.1).toNat) ⟨0,4,l,rfl,rfl,by omega,by decide,rfl,J,Upd.refl _ _,rfl⟩ ?_
  rintro ⟨Y,Z,u⟩ m ⟨N,k,f,D,E,hk,hN,v,g,w,z2⟩
  dsimp only at D E ⊢
  subst D E
  refine Zq (fun L=>?_) fun M=>?_
  ·obtain ⟨k,rfl⟩:∃ O,k=O+1:=⟨k - 1,by omega⟩
   have i:N<65536:=by
     have:16 ^ (4 - (k+1))<=16 ^ 4:=Nat.pow_le_pow_right (by decide) (by omega)
     omega
   refine Zao g (Za ?_)
   refine ZO (fun p h'=>h'=m/\∃ c a d,f=c::a/\ZlG c=some d/\p.1=((N*16+d:Nat):Int)) ?_ ?_
   ·rintro ⟨n,u⟩ Q ⟨rfl,c,a,d,rfl,hd,F⟩
    dsimp only at F ⊢
    subst F
    refine ZdW g fun h4 S T z4=>?_
    rw [YA (by omega) (by omega)]
    refine ⟨⟨N*16+d,k,a,rfl,by omega,by omega,?_,?_,S,w.trans T,z4.trans z2⟩,by omega⟩
    ·have U:=Zy7 hd
     rw [show 4 - k=(4 - (k+1))+1 by omega,Nat.pow_succ]
     omega
    ·rw [<- v,Zr1,hd]
   ·
    have bad:(∀ c a,f=c::a->ZlG c=none)->∀ q r,(ZaW 22 f:Out Nat) = .err q r->r=f->P (Zgw q (s.size - r.length)) m:=fun x q r he V=>by
      refine j q r m ?_ w
      rw [<- v,<- he]
      rcases f with _ | ⟨c,a⟩
      ·rfl
      ·rw [Zr1,x c a rfl];rfl
    refine ZO (fun p h'=>h'=m/\p.1=decide (48<=Zce f/\Zce f<=57)) ?_ ?_
    ·rintro ⟨b,u⟩ Q ⟨rfl,G⟩
     dsimp only at G ⊢
     subst G
     rcases f with _ | ⟨c,a⟩
     ·refine Zl (by simp [Zce]) ?_
      have o:=bad fun c a e=>by cases e
      refine Zl (by simp [Zce]) (Zl (by simp [Zce]) (ZbX g rfl o))
     ·have H:Zce (c::a)=(c.toNat:Int):=rfl
      generalize Zce (c::a)=z at H ⊢
      subst H
      rcases Zwk c with ⟨I,a2,hd⟩ | ⟨a0,I,a2,hd⟩ | ⟨a0,W,I,a2,hd⟩ | ⟨a0,W,c0,hd⟩
      ·refine Zm (by simp;omega) ⟨by decide,Za ⟨rfl,c,a,_,rfl,hd,Zm8 (c:=0) i (by omega) ?_⟩⟩
       rw [ZsM (by omega) (by omega)];omega
      ·refine Zl (by simp;omega) (Zm (by simp;omega) (Zh (Zm (by simp;omega) ⟨by decide,Za ⟨rfl,c,a,_,rfl,hd,Zm8 (c:=0) i (by omega) ?_⟩⟩)))
       rw [ZsM (n:=(c.toNat:Int) - 97) (by omega) (by omega),ZsM (by omega) (by omega)];omega
      ·refine Zl (by simp;omega) (Zl (by simp;omega) (Zm (by simp;omega) (Zh (Zm (by simp;omega) ⟨by decide,Za ⟨rfl,c,a,_,rfl,hd,Zm8 (c:=0) i (by omega) ?_⟩⟩))))
       rw [ZsM (n:=(c.toNat:Int) - 65) (by omega) (by omega),ZsM (by omega) (by omega)];omega
      ·have o:=bad fun c' X e=>by cases e;exact hd
       refine Zl (by simp;omega) (Zq (fun y=>Zh (Zl (by simp;omega) (Zm (by simp;omega) (Zh (Zl (by simp;omega) (ZbX g rfl o)))))) fun y=>Zq (fun A=>Zh (Zl (by simp;omega) (ZbX g rfl o))) fun A=>ZbX g rfl o)
    ·refine Zq (fun B=>Zh ⟨rfl,?_⟩) fun B=>⟨rfl,?_⟩
     ·simp;omega
     ·simp;omega
  ·obtain rfl:k=0:=by omega
   refine Za (t N f m ?_ g w z2)
   rw [<- v];rfl
theorem ZpL (n:Nat):(Zhc n).length<=4:=by
  unfold Zhc
  split
  ·exact Awt rfl
  split
  ·exact Awt rfl
  split
  ·exact Awt rfl
  ·exact Awt rfl
theorem ZnG {h:Zc} {base:Nat} {x:Sl} {l:BL} {n:Nat} (r:Buf h base x l) (e:base<=sz h) (G:n<1114112) (o:n<55296\/57344<=n) (H:l.length+4<=1000000000) {K:Sl->HP}
    (q:∀ c h',Buf h' base c (l++Zhc n)->Upd (fun k=>base<=k) h h'->sz h<=sz h'->K c h'):Xv x n K h:=by
  unfold Xv Zbf
  have go:∀ (new:BL) (cells:List Value) (m:Nat) (f:Sl->HP),Zhc n=new->cells=new.map bv->m=new.length->(∀ c h',f c h'↔K c h') ->
      newC h cells 5 fun b a=>rdS ⟨some ⟨b,0,none⟩,m,m⟩ 1 a fun s=>Fw.app 5 1 1 [.int .u8 0] x m s a f:=by
    intro new cells m f hu t hm v
    have g:(Zhc n).length<=4:=ZpL n
    rw [hu] at g
    refine ZNy new m t hm.symm (by omega) fun b a y i _=>y.rd ?_
    have z:=r.congr (h':=a) fun k q A=>Zu i A
    have B:=i.size
    refine z.app (by have:sz a=a.size:=rfl;have:sz h=h.size:=rfl;omega) hm rfl (by omega) fun c C j D I=>(v _ _).2 (q c C (by rw [hu];exact j) ((i.upd _).trans D) (by have:sz a=a.size:=rfl;have:sz h=h.size:=rfl;omega))
  have w:IntKind.wrap .u32 (n:Int)=n:=ZEa (by omega) (by omega)
  rw [w]
  refine Zq (fun a=>?_) fun a=>?_
  ·refine go [UInt8.ofNat n] _ 1 _ (by unfold Zhc;rw [if_pos (by omega)]) ?_ rfl fun _ _=>Iff.rfl
   rw [w8,show n % 256=n by omega,ZzE (by omega)];rfl
  ·unfold Y7 XS
   rw [w]
   refine Za (Zh (Zq (fun E=>⟨by decide,?_⟩) fun E=>?_))
   ·refine go [UInt8.ofNat (192+n / 64),UInt8.ofNat (128+n % 64)] _ 2 _ (by unfold Zhc;rw [if_neg (by omega),if_pos (by omega)]) ?_ rfl fun _ _=>Iff.rfl
    rw [Zht,show ((6:Int))=((6:Nat):Int) from rfl,ZvI (by omega),w8,show n / 2 ^ 6 % 256=n / 64 by omega,ZNt (by omega),ZzE (by omega)];rfl
   ·refine ZO (fun p h'=>h'=h/\p.1=decide (n<=65535)) ?_ ?_
    ·rintro ⟨b,u⟩ J ⟨rfl,d⟩
     dsimp only at d ⊢
     subst d
     refine Zq (fun g=>⟨by decide,by decide,?_⟩) fun g=>Zm (by simp;omega) (Zh (Zm (by simp;omega) ⟨by decide,by decide,by decide,?_⟩))
     ·refine go [UInt8.ofNat (224+n / 4096),UInt8.ofNat (128+n / 64 % 64),UInt8.ofNat (128+n % 64)] _ 3 _ (by unfold Zhc;rw [if_neg (by omega),if_neg (by omega),if_pos (by omega)]) ?_ rfl fun _ _=>Iff.rfl
      rw [Zht,show ((6:Int))=((6:Nat):Int) from rfl,show ((12:Int))=((12:Nat):Int) from rfl,ZvI (k:=12) (by omega),ZvI (k:=6) (by omega),Zht,w8,show n / 2 ^ 12 % 256=n / 4096 by omega,show n / 2 ^ 6=n / 64 by rfl,ZNs (by omega),ZzE (by omega)];rfl
     ·refine go [UInt8.ofNat (240+n / 262144),UInt8.ofNat (128+n / 4096 % 64),UInt8.ofNat (128+n / 64 % 64),UInt8.ofNat (128+n % 64)] _ 4 _ (by unfold Zhc;rw [if_neg (by omega),if_neg (by omega),if_neg (by omega)]) ?_ rfl fun _ _=>Iff.rfl
      rw [Zht,show ((6:Int))=((6:Nat):Int) from rfl,show ((12:Int))=((12:Nat):Int) from rfl,show ((18:Int))=((18:Nat):Int) from rfl,ZvI (k:=18) (by omega),ZvI (k:=12) (by omega),ZvI (k:=6) (by omega),Zht,Zht,w8,show n / 2 ^ 18 % 256=n / 262144 by omega,show n / 2 ^ 6=n / 64 by rfl,show n / 2 ^ 12=n / 4096 by rfl,ZNr (by omega),ZzE (by omega)];rfl
    ·refine Zh (Zq (fun F=>⟨rfl,?_⟩) fun F=>Zm (by simp;omega) (Zh ⟨rfl,?_⟩))
     ·simp;omega
     ·simp;omega
theorem Zjj {h:Zc} {B:Nat} {T:TypeId} {out:BL} (g:Bld h B T out) {n:Nat} (j:n<1114112) (a:n<55296\/57344<=n) {e:Int} (b:e=n) (t:out.length<900000000) {K:Int->Value->HP} (l:∀ i h',Bld h' B T (out++Zhc n)->Upd (fun k=>B<=k) h h'->K i .nilIface h'):Xg (At B) e K h:=by
  subst b
  unfold Xg ZaP
  refine Za (ZnE g fun u x f m c o v=>Zo (rL (Zb c rfl) (Za (Zo (rL (Zb c rfl) ?_)))))
  refine ZnG o (by have:=f.lt;omega) j a (by omega) fun w y d p z=>?_
  exact ZtM f.1 c p d fun q r s c9=>Zo (rL (Zb c9 rfl) (Za (l _ q r (m.trans s))))
end Go.Proofs.YtpjbjdheeemdiaaGreatDoor
namespace Go.Js
open Go
theorem ZxP:∀ b:Fin 256,2<=nRb ⟨⟨b⟩⟩->nRb ⟨⟨b⟩⟩<=4/\(loR ⟨⟨b⟩⟩=128\/loR ⟨⟨b⟩⟩=144\/loR ⟨⟨b⟩⟩=160)/\loR ⟨⟨b⟩⟩<=hiR ⟨⟨b⟩⟩:=by decide +kernel
theorem ZGv:∀ c:UInt8,2<=nRb c->nRb c<=4/\(loR c=128\/loR c=144\/loR c=160)/\loR c<=hiR c:=fun ⟨⟨b⟩⟩=>ZxP b
theorem ZNz (c:UInt8):nRb c<=4:=by
  by_cases h:2<=nRb c
  ·exact (ZGv c h).1
  ·omega
theorem Ztf:∀ {a b:Nat} {r t:BL},okC a b (r++t)=(okC a b r&&(if r=[] then okC a b t else okC 128 191 t))
  | a,b,[],t=>by simp [okC]
  | a,b,d::r,t=>by
    simp only [Ayp,okC,Ztf (r:=r)]
    by_cases c:r=[]
    ·subst c;simp [okC,Azg]
    ·simp [c,Azg]
theorem ZoK {x t:BL} (a:x≠[]) (h:Zcs (x++t)=true):ZoL x=true:=by
  rcases x with _ | ⟨c,r⟩
  ·exact absurd rfl a
  ·simp only [Ayp,Zcs,Awn,decide_eq_true_eq,Awe] at h
   rw [Ztf,Awn] at h
   simp only [ZoL,Awn,decide_eq_true_eq]
   exact ⟨⟨h.1.1,by omega⟩,h.2.1⟩
theorem ZEA {x:BL} (h:ZoL x=true):x.length<=4/\(Zcs x=false->x.length<=3):=by
  rcases x with _ | ⟨c,r⟩
  ·cases h
  ·simp only [ZoL,Awn,decide_eq_true_eq] at h
   have:=ZNz c
   refine ⟨by simp;omega,fun a=>?_⟩
   have:r.length+1≠nRb c:=fun e=>by simp [Zcs,e,h.2,h.1.1] at a
   simp;omega
def ZCo:List BL:=[[128,128,128],[144,128,128],[160,128,128]]
theorem ZGP {x:BL} (h:ZoL x=true) (p:Zcs x=false):∃ low,low∈ZCo/\∃ n,x.length<n/\n<=4/\Zcs (x++low.take (n - x.length))=true:=by
  rcases x with _ | ⟨c,r⟩
  ·cases h
  simp only [ZoL,Awn,decide_eq_true_eq] at h
  obtain ⟨⟨l,u⟩,o⟩:=h
  have q:r.length+1≠nRb c:=fun e=>by simp [Zcs,e,o,l] at p
  have s:2<=nRb c:=by omega
  obtain ⟨f,i,d⟩:=ZGv c s
  have key:∀ low:BL,low.length=3->(if r=[] then okC (loR c) (hiR c) (low.take (nRb c - (r.length+1))) else okC 128 191 (low.take (nRb c - (r.length+1))))=true->Zcs (c::r++low.take (nRb c - (c::r).length))=true:=fun low hlen j=>by
    simp only [Ayp,Zcs,Awn,decide_eq_true_eq,Awe,Ayo,Aqj]
    refine ⟨⟨l,by omega⟩,?_⟩
    rw [Ztf,o,Aqa]
    exact j
  have cont:∀ m,okC 128 191 (([128,128]:BL).take m)=true:=fun m=>by
    rcases m with _ | _ | _ | m<;>rfl
  have b:∀ (a:UInt8) (m:Nat),(loR c<=a.toNat/\a.toNat<=hiR c)->okC (loR c) (hiR c) (([a,128,128]:BL).take m)=true:=fun a m t=>by
    rcases m with _ | m
    ·rfl
    ·rw [Ayn]
     simp only [okC,Awn,decide_eq_true_eq]
     exact ⟨t,cont m⟩
  have k:∀ (m:Nat),okC 128 191 (([128,128,128]:BL).take m)=true:=fun m=>by
    rcases m with _ | _ | _ | _ | m<;>rfl
  by_cases g:r=[]
  ·rcases i with e | e | e
   ·exact ⟨[128,128,128],by simp [ZCo],nRb c,by simp;omega,f,key _ rfl (by rw [if_pos g];exact b 128 _ (by rw [e] at d ⊢;exact ⟨by decide,d⟩))⟩
   ·exact ⟨[144,128,128],by simp [ZCo],nRb c,by simp;omega,f,key _ rfl (by rw [if_pos g];exact b 144 _ (by rw [e] at d ⊢;exact ⟨by decide,d⟩))⟩
   ·exact ⟨[160,128,128],by simp [ZCo],nRb c,by simp;omega,f,key _ rfl (by rw [if_pos g];exact b 160 _ (by rw [e] at d ⊢;exact ⟨by decide,d⟩))⟩
  ·exact ⟨[128,128,128],by simp [ZCo],nRb c,by simp;omega,f,key _ rfl (by rw [if_neg g];exact k _)⟩
theorem Zoj {x:BL} (h:Zcs x=true):Lib.validD x=true:=by
  rcases x with _ | ⟨c,r⟩
  ·cases h
  ·have ht:(c::r).take (nRb c)=c::r:=by
     simp only [Zcs,Awn,decide_eq_true_eq] at h
     exact Awd (by simp;omega)
   have a:=(ZcW c r).2 (by rw [ht];exact h)
   have b:=((ZcW c r).1 a).1
   rw [Lib.validD_step _ (by simp),if_neg a,b]
   have:(c::r).drop (nRb c)=[]:=by
     simp only [Zcs,Awn,decide_eq_true_eq] at h
     exact Azh (by simp;omega)
   rw [this];rfl
theorem Zwx (s:ByteArray) (pos:Nat) (hp:pos<s.size) (fuel:Nat):1<=Lib.runeCountFrom s (fuel+1) pos:=by
  unfold Lib.runeCountFrom;rw [if_pos hp];omega
theorem Zzv (c:UInt8) (r:BL):(Lib.decodeL (c::r)).2<=r.length+1:=by
  by_cases a:(Lib.decodeL (c::r)).1=65533/\(Lib.decodeL (c::r)).2=1
  ·omega
  ·obtain ⟨e,ho⟩:=(ZcW c r).1 a
   rw [e]
   rcases b:nRb c with _ | n
   ·omega
   ·rw [b,Ayn] at ho
    simp only [Zcs,Awn,decide_eq_true_eq,Ayo] at ho
    omega
theorem Zsm {c:UInt8} {r:BL}:Lib.runeCount ⟨(c::r).toArray⟩=1↔(Lib.decodeL (c::r)).2=r.length+1:=by
  have a:(⟨(c::r).toArray⟩:ByteArray).size=r.length+1:=rfl
  have hw:=Zzv c r
  unfold Lib.runeCount
  rw [a]
  have e:Lib.runeCountFrom ⟨(c::r).toArray⟩ (r.length+1) 0=1+Lib.runeCountFrom ⟨(c::r).toArray⟩ r.length (Lib.decodeL (c::r)).2:=by
    conv=>lhs;unfold Lib.runeCountFrom
    rw [a,if_pos (Nat.succ_pos _),Awb]
    rfl
  rw [e]
  by_cases b:(Lib.decodeL (c::r)).2<r.length+1
  ·obtain ⟨f,d⟩:∃ f,r.length=f+1:=⟨r.length - 1,by have:=Lib.decodeL_width (c::r);omega⟩
   have:=Zwx ⟨(c::r).toArray⟩ (Lib.decodeL (c::r)).2 (by rw [a];exact b) f
   rw [d] at b ⊢
   omega
  ·rw [Lib.runeCountFrom_end _ _ _ (by rw [a];exact b)]
   omega
theorem ZhJ {x:BL}:(Lib.validD x=true/\Lib.runeCount ⟨x.toArray⟩=1)↔Zcs x=true:=by
  rcases x with _ | ⟨c,r⟩
  ·constructor
   ·rintro ⟨_,h⟩;cases h
   ·intro h;cases h
  constructor
  ·rintro ⟨d,e⟩
   rw [Zsm] at e
   rw [Lib.validD_step _ (by simp)] at d
   split at d
   ·cases d
   ·rename_i f
    obtain ⟨a,b⟩:=(ZcW c r).1 f
    rw [Awd (by simp;omega)] at b
    exact b
  ·intro h
   have g:r.length+1=nRb c:=by
     simp only [Zcs,Awn,decide_eq_true_eq] at h
     exact h.1.2
   refine ⟨Zoj h,Zsm.2 ?_⟩
   have ht:(c::r).take (nRb c)=c::r:=Awd (by simp;omega)
   rw [((ZcW c r).1 ((ZcW c r).2 (by rw [ht];exact h))).1,g]
theorem Zrd:∀ (n:Nat) (l:BL),l.length<=n->(Lib.validD l=true↔Utf l)
  | 0,l,h=>by
    have:l=[]:=Aqr (by omega)
    subst this
    exact ⟨fun _=> .nil,fun _=>rfl⟩
  | n+1,[],_=>⟨fun _=> .nil,fun _=>rfl⟩
  | n+1,c::r,h=>by
    rw [Lib.validD_step _ (by simp)]
    have hw:=Lib.decodeL_width (c::r)
    simp only [Aqj] at hw h
    by_cases f:(Lib.decodeL (c::r)).1=65533/\(Lib.decodeL (c::r)).2=1
    ·rw [if_pos f]
     refine ⟨fun h=>(by cases h),fun hu=>?_⟩
     exfalso
     generalize b:c::r=l at hu
     cases hu with
     | nil=>cases b
     | cons a hu =>
       rename_i x g
       rcases x with _ | ⟨d,x⟩
       ·cases a
       ·cases b
        refine (ZcW c _).2 ?_ f
        have he:x.length+1=nRb c:=by
          simp only [Zcs,Awn,decide_eq_true_eq] at a
          exact a.1.2
        rw [<- he]
        have:((c::(x++g)).take (x.length+1))=c::x:=by simp
        show Zcs ((c::(x++g)).take (x.length+1))=true
        rw [this];exact a
    ·rw [if_neg f]
     obtain ⟨e,ho⟩:=(ZcW c r).1 f
     rw [e]
     have hd:((c::r).drop (nRb c)).length<=n:=by
       have:1<=nRb c:=by rw [<- e];exact (by omega)
       simp;omega
     rw [Zrd n _ hd]
     constructor
     ·intro hu
      have:=Utf.cons ho hu
      rwa [Azi] at this
     ·intro hu
      generalize b:c::r=l at hu
      cases hu with
      | nil=>cases b
      | cons a hu =>
        rename_i x g
        rcases x with _ | ⟨d,x⟩
        ·cases a
        ·cases b
         have he:x.length+1=nRb c:=by
           simp only [Zcs,Awn,decide_eq_true_eq] at a
           exact a.1.2
         rw [<- he]
         simpa using hu
theorem Zmc (l:BL):Lib.validD l=true↔Utf l:=Zrd _ l (Aqo _)
theorem Zxu {x:BL} (h:ZoL x=true):Lib.validD x=Zcs x:=by
  cases ho:Zcs x with
  | true=>exact Zoj ho
  | false =>
    cases b:Lib.validD x with
    | false=>rfl
    | true =>
      exfalso
      have hu:=(Zmc x).1 b
      cases hu with
      | nil=>cases h
      | cons a hu =>
        rename_i y l
        have hp:=h
        rcases y with _ | ⟨c,y⟩
        ·cases a
        ·have he:y.length+1=nRb c:=by
           simp only [Zcs,Awn,decide_eq_true_eq] at a
           exact a.1.2
         simp only [Ayp,ZoL,Awn,decide_eq_true_eq,Awe] at hp
         have:l=[]:=Aqr (by omega)
         subst this
         rw [Ayt] at ho
         rw [a] at ho;cases ho
end Go.Js
